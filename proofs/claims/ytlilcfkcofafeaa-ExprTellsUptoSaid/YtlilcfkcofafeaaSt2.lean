/-
  A part of the proof: what the given program's functions answer, each once; conditions that are enough for it.
-/
import Derived.Test.YtlilcfkcofafeaaSt1
namespace Go.Proofs.Ytlilcfkcofafeaa
open Go Go.Plat
set_option linter.unusedVariables false
set_option linter.unusedSimpArgs false
set_option maxRecDepth 100000
set_option maxHeartbeats 2000000
attribute [local irreducible] NilS LookS NormM bitI BytesS NormL Arith QuoS RemS ShlS ShrS BitS CatS SplitS SideS IdxS CallS LoopEnd EndS ModeS DrawS AWP Meets
attribute [local irreducible] signedI exprD nodes OExpr.kind OExpr.n OExpr.name OExpr.kids letterB digitB kindB nameB signI oneI failS tokI oneStep loopF

def AtOk (k : Int) (d : Int) (f : St → OExpr × St) : Prop :=
  Meets Try.prog n_expr_reader_at (SpecF (fun s : St => s.rest.length ≤ 1000000000) (fun _ => [.loc 0 0, .int .i64 k, .int .i64 d]) stO (fun s => exprU (f s).1) fun s => stO (f s).2)
def OneOk (d : Int) (f : St → OExpr × St) : Prop :=
  Meets Try.prog n_expr_reader_one (SpecF (fun s : St => s.rest.length ≤ 1000000000) (fun _ => [.loc 0 0, .int .i64 d]) stO (fun s => exprU (f s).1) fun s => stO (f s).2)

theorem at_top {d : Int} {one : St → OExpr × St} (h : OneOk d one) : AtOk 5 d (atF one 0) := by
  refine meets_f tabOk Try.func9 rfl (by decide) ?_
  intro s hs
  refine ⟨Nat.le_refl _, by simp [Try.f9], fun E hE => ?_⟩
  refine vcOk _ ?_
  (repeat' (first | (refine VS.mk ?_) | (refine dr_mk ?_) | (refine md_l ?_) | ((first | refine sp_not_dec ?_ ?_ | refine sp_dec ?_ ?_ | refine sp_beq ?_ ?_ | refine sp_bne ?_ ?_ | refine sp_seq ?_ ?_ | refine sp_sne ?_ ?_ | refine sp_not ?_ ?_ | refine sp_any ?_ ?_) <;> (intro hc; (try simp only [List.length_map, List.length_append, List.length_cons, List.length_nil, Bool.and_true, Bool.and_eq_true, beq_iff_eq, Bool.and_eq_false_iff, beq_eq_false_iff_ne, Bool.true_and, ne_eq] at hc); (try (exfalso; omega)))) | (with_reducible first | refine norm_one ?_ | refine norm_app ?_ | refine norm_cutEnd ?_ | refine norm_cut ?_ | refine norm_bytes1 ?_ | refine norm_bytes2 ?_ | refine norm_setByte ?_ | refine norm_int1 ?_ | refine norm_mk ?_) | (with_reducible refine bytes_mk ?_) | (refine ar_byte ?_) | (refine ar_i64 (by omega) (by omega) ?_) | (refine ar_low ?_) | (refine ix_byteN (by omega) ?_) | (refine ix_byteK (by simp only [Int.reduceToNat]; exact rfl) (by decide) (by omega) ?_) | (refine ix_byte (by omega) (by omega) ?_) | (refine ix_rfl (by decide) rfl ?_) | (refine sd_mk rfl ?_) | (refine sd_mk (by decide +kernel) ?_) | (refine sd_mk (by first | (simp only [List.length_map, List.length_append, List.length_cons, List.length_nil]; done) | ((try simp only [List.length_map, List.length_append, List.length_cons, List.length_nil, List.length_set, List.length_replicate, List.length_drop, List.length_take, true_and, and_true]); omega) | (dsimp only; omega)) ?_) | (first | refine shl8 (by omega) (by omega) ?_ | refine shl4 (by omega) (by omega) ?_ | refine shl1 (by omega) (by omega) ?_ | refine shl16 (by omega) (by omega) ?_ | refine shl24 (by omega) (by omega) ?_ | refine shr8 (by decide) ?_ | refine shr4 (by decide) ?_ | refine shr1 (by decide) ?_ | refine shr16 (by decide) ?_ | refine shr24 (by decide) ?_) | (with_reducible first | refine bit_mk and_1 ?_ | refine bit_mk and_15 ?_ | refine bit_mk and_255 ?_ | refine bit_mk and_4095 ?_ | refine bit_mk and_65535 ?_) | (refine quo_pos (by omega) (by omega) (by omega) ?_) | (refine rem_pos (by omega) (by omega) ?_)))
  refine call_p levels_meets () trivial (VS.mk (LeL.of_eq rfl)) ?_
  (repeat' (first | (refine VS.mk ?_) | (refine dr_mk ?_) | (refine md_l ?_) | ((first | refine sp_not_dec ?_ ?_ | refine sp_dec ?_ ?_ | refine sp_beq ?_ ?_ | refine sp_bne ?_ ?_ | refine sp_seq ?_ ?_ | refine sp_sne ?_ ?_ | refine sp_not ?_ ?_ | refine sp_any ?_ ?_) <;> (intro hc; (try simp only [List.length_map, List.length_append, List.length_cons, List.length_nil, Bool.and_true, Bool.and_eq_true, beq_iff_eq, Bool.and_eq_false_iff, beq_eq_false_iff_ne, Bool.true_and, ne_eq] at hc); (try (exfalso; omega)))) | (with_reducible first | refine norm_one ?_ | refine norm_app ?_ | refine norm_cutEnd ?_ | refine norm_cut ?_ | refine norm_bytes1 ?_ | refine norm_bytes2 ?_ | refine norm_setByte ?_ | refine norm_int1 ?_ | refine norm_mk ?_) | (with_reducible refine bytes_mk ?_) | (refine ar_byte ?_) | (refine ar_i64 (by omega) (by omega) ?_) | (refine ar_low ?_) | (refine ix_byteN (by omega) ?_) | (refine ix_byteK (by simp only [Int.reduceToNat]; exact rfl) (by decide) (by omega) ?_) | (refine ix_byte (by omega) (by omega) ?_) | (refine ix_rfl (by decide) rfl ?_) | (refine sd_mk rfl ?_) | (refine sd_mk (by decide +kernel) ?_) | (refine sd_mk (by first | (simp only [List.length_map, List.length_append, List.length_cons, List.length_nil]; done) | ((try simp only [List.length_map, List.length_append, List.length_cons, List.length_nil, List.length_set, List.length_replicate, List.length_drop, List.length_take, true_and, and_true]); omega) | (dsimp only; omega)) ?_) | (first | refine shl8 (by omega) (by omega) ?_ | refine shl4 (by omega) (by omega) ?_ | refine shl1 (by omega) (by omega) ?_ | refine shl16 (by omega) (by omega) ?_ | refine shl24 (by omega) (by omega) ?_ | refine shr8 (by decide) ?_ | refine shr4 (by decide) ?_ | refine shr1 (by decide) ?_ | refine shr16 (by decide) ?_ | refine shr24 (by decide) ?_) | (with_reducible first | refine bit_mk and_1 ?_ | refine bit_mk and_15 ?_ | refine bit_mk and_255 ?_ | refine bit_mk and_4095 ?_ | refine bit_mk and_65535 ?_) | (refine quo_pos (by omega) (by omega) (by omega) ?_) | (refine rem_pos (by omega) (by omega) ?_)))
  refine call_f h [0] [0] s hs rfl rfl ?_
  refine And.intro (VS.mk (LeL.of_eq rfl)) (And.intro (VS.mk rfl) ?_)
  (repeat' (first | (refine VS.mk ?_) | (refine dr_mk ?_) | (refine md_l ?_) | ((first | refine sp_not_dec ?_ ?_ | refine sp_dec ?_ ?_ | refine sp_beq ?_ ?_ | refine sp_bne ?_ ?_ | refine sp_seq ?_ ?_ | refine sp_sne ?_ ?_ | refine sp_not ?_ ?_ | refine sp_any ?_ ?_) <;> (intro hc; (try simp only [List.length_map, List.length_append, List.length_cons, List.length_nil, Bool.and_true, Bool.and_eq_true, beq_iff_eq, Bool.and_eq_false_iff, beq_eq_false_iff_ne, Bool.true_and, ne_eq] at hc); (try (exfalso; omega)))) | (with_reducible first | refine norm_one ?_ | refine norm_app ?_ | refine norm_cutEnd ?_ | refine norm_cut ?_ | refine norm_bytes1 ?_ | refine norm_bytes2 ?_ | refine norm_setByte ?_ | refine norm_int1 ?_ | refine norm_mk ?_) | (with_reducible refine bytes_mk ?_) | (refine ar_byte ?_) | (refine ar_i64 (by omega) (by omega) ?_) | (refine ar_low ?_) | (refine ix_byteN (by omega) ?_) | (refine ix_byteK (by simp only [Int.reduceToNat]; exact rfl) (by decide) (by omega) ?_) | (refine ix_byte (by omega) (by omega) ?_) | (refine ix_rfl (by decide) rfl ?_) | (refine sd_mk rfl ?_) | (refine sd_mk (by decide +kernel) ?_) | (refine sd_mk (by first | (simp only [List.length_map, List.length_append, List.length_cons, List.length_nil]; done) | ((try simp only [List.length_map, List.length_append, List.length_cons, List.length_nil, List.length_set, List.length_replicate, List.length_drop, List.length_take, true_and, and_true]); omega) | (dsimp only; omega)) ?_) | (first | refine shl8 (by omega) (by omega) ?_ | refine shl4 (by omega) (by omega) ?_ | refine shl1 (by omega) (by omega) ?_ | refine shl16 (by omega) (by omega) ?_ | refine shl24 (by omega) (by omega) ?_ | refine shr8 (by decide) ?_ | refine shr4 (by decide) ?_ | refine shr1 (by decide) ?_ | refine shr16 (by decide) ?_ | refine shr24 (by decide) ?_) | (with_reducible first | refine bit_mk and_1 ?_ | refine bit_mk and_15 ?_ | refine bit_mk and_255 ?_ | refine bit_mk and_4095 ?_ | refine bit_mk and_65535 ?_) | (refine quo_pos (by omega) (by omega) (by omega) ?_) | (refine rem_pos (by omega) (by omega) ?_)))
  refine end_mk ?_
  (repeat' (first | (refine VS.mk ?_) | exact trivial | exact rfl | refine And.intro ?_ ?_))

theorem at_level {d : Int} {k : Nat} {sub : St → OExpr × St} (hk : k < 5) (hsub : Shorter sub) (h : AtOk ((k : Int) + 1) d sub) : AtOk k d (levelF k sub) := by
  refine meets_f tabOk Try.func9 rfl (by decide) ?_
  intro s hs
  refine ⟨Nat.le_refl _, by simp [Try.f9], fun E hE => ?_⟩
  refine vcOk _ ?_
  (repeat' (first | (refine VS.mk ?_) | (refine dr_mk ?_) | (refine md_l ?_) | ((first | refine sp_not_dec ?_ ?_ | refine sp_dec ?_ ?_ | refine sp_beq ?_ ?_ | refine sp_bne ?_ ?_ | refine sp_seq ?_ ?_ | refine sp_sne ?_ ?_ | refine sp_not ?_ ?_ | refine sp_any ?_ ?_) <;> (intro hc; (try simp only [List.length_map, List.length_append, List.length_cons, List.length_nil, Bool.and_true, Bool.and_eq_true, beq_iff_eq, Bool.and_eq_false_iff, beq_eq_false_iff_ne, Bool.true_and, ne_eq] at hc); (try (exfalso; omega)))) | (with_reducible first | refine norm_one ?_ | refine norm_app ?_ | refine norm_cutEnd ?_ | refine norm_cut ?_ | refine norm_bytes1 ?_ | refine norm_bytes2 ?_ | refine norm_setByte ?_ | refine norm_int1 ?_ | refine norm_mk ?_) | (with_reducible refine bytes_mk ?_) | (refine ar_byte ?_) | (refine ar_i64 (by omega) (by omega) ?_) | (refine ar_low ?_) | (refine ix_byteN (by omega) ?_) | (refine ix_byteK (by simp only [Int.reduceToNat]; exact rfl) (by decide) (by omega) ?_) | (refine ix_byte (by omega) (by omega) ?_) | (refine ix_rfl (by decide) rfl ?_) | (refine sd_mk rfl ?_) | (refine sd_mk (by decide +kernel) ?_) | (refine sd_mk (by first | (simp only [List.length_map, List.length_append, List.length_cons, List.length_nil]; done) | ((try simp only [List.length_map, List.length_append, List.length_cons, List.length_nil, List.length_set, List.length_replicate, List.length_drop, List.length_take, true_and, and_true]); omega) | (dsimp only; omega)) ?_) | (first | refine shl8 (by omega) (by omega) ?_ | refine shl4 (by omega) (by omega) ?_ | refine shl1 (by omega) (by omega) ?_ | refine shl16 (by omega) (by omega) ?_ | refine shl24 (by omega) (by omega) ?_ | refine shr8 (by decide) ?_ | refine shr4 (by decide) ?_ | refine shr1 (by decide) ?_ | refine shr16 (by decide) ?_ | refine shr24 (by decide) ?_) | (with_reducible first | refine bit_mk and_1 ?_ | refine bit_mk and_15 ?_ | refine bit_mk and_255 ?_ | refine bit_mk and_4095 ?_ | refine bit_mk and_65535 ?_) | (refine quo_pos (by omega) (by omega) (by omega) ?_) | (refine rem_pos (by omega) (by omega) ?_)))
  refine call_p levels_meets () trivial (VS.mk (LeL.of_eq rfl)) ?_
  (repeat' (first | (refine VS.mk ?_) | (refine dr_mk ?_) | (refine md_l ?_) | ((first | refine sp_not_dec ?_ ?_ | refine sp_dec ?_ ?_ | refine sp_beq ?_ ?_ | refine sp_bne ?_ ?_ | refine sp_seq ?_ ?_ | refine sp_sne ?_ ?_ | refine sp_not ?_ ?_ | refine sp_any ?_ ?_) <;> (intro hc; (try simp only [List.length_map, List.length_append, List.length_cons, List.length_nil, Bool.and_true, Bool.and_eq_true, beq_iff_eq, Bool.and_eq_false_iff, beq_eq_false_iff_ne, Bool.true_and, ne_eq] at hc); (try (exfalso; omega)))) | (with_reducible first | refine norm_one ?_ | refine norm_app ?_ | refine norm_cutEnd ?_ | refine norm_cut ?_ | refine norm_bytes1 ?_ | refine norm_bytes2 ?_ | refine norm_setByte ?_ | refine norm_int1 ?_ | refine norm_mk ?_) | (with_reducible refine bytes_mk ?_) | (refine ar_byte ?_) | (refine ar_i64 (by omega) (by omega) ?_) | (refine ar_low ?_) | (refine ix_byteN (by omega) ?_) | (refine ix_byteK (by simp only [Int.reduceToNat]; exact rfl) (by decide) (by omega) ?_) | (refine ix_byte (by omega) (by omega) ?_) | (refine ix_rfl (by decide) rfl ?_) | (refine sd_mk rfl ?_) | (refine sd_mk (by decide +kernel) ?_) | (refine sd_mk (by first | (simp only [List.length_map, List.length_append, List.length_cons, List.length_nil]; done) | ((try simp only [List.length_map, List.length_append, List.length_cons, List.length_nil, List.length_set, List.length_replicate, List.length_drop, List.length_take, true_and, and_true]); omega) | (dsimp only; omega)) ?_) | (first | refine shl8 (by omega) (by omega) ?_ | refine shl4 (by omega) (by omega) ?_ | refine shl1 (by omega) (by omega) ?_ | refine shl16 (by omega) (by omega) ?_ | refine shl24 (by omega) (by omega) ?_ | refine shr8 (by decide) ?_ | refine shr4 (by decide) ?_ | refine shr1 (by decide) ?_ | refine shr16 (by decide) ?_ | refine shr24 (by decide) ?_) | (with_reducible first | refine bit_mk and_1 ?_ | refine bit_mk and_15 ?_ | refine bit_mk and_255 ?_ | refine bit_mk and_4095 ?_ | refine bit_mk and_65535 ?_) | (refine quo_pos (by omega) (by omega) (by omega) ?_) | (refine rem_pos (by omega) (by omega) ?_)))
  refine call_f h [0] [0] s hs rfl rfl ?_
  refine And.intro (VS.mk (LeL.of_eq rfl)) (And.intro (VS.mk rfl) ?_)
  (repeat' (first | (refine VS.mk ?_) | (refine dr_mk ?_) | (refine md_l ?_) | ((first | refine sp_not_dec ?_ ?_ | refine sp_dec ?_ ?_ | refine sp_beq ?_ ?_ | refine sp_bne ?_ ?_ | refine sp_seq ?_ ?_ | refine sp_sne ?_ ?_ | refine sp_not ?_ ?_ | refine sp_any ?_ ?_) <;> (intro hc; (try simp only [List.length_map, List.length_append, List.length_cons, List.length_nil, Bool.and_true, Bool.and_eq_true, beq_iff_eq, Bool.and_eq_false_iff, beq_eq_false_iff_ne, Bool.true_and, ne_eq] at hc); (try (exfalso; omega)))) | (with_reducible first | refine norm_one ?_ | refine norm_app ?_ | refine norm_cutEnd ?_ | refine norm_cut ?_ | refine norm_bytes1 ?_ | refine norm_bytes2 ?_ | refine norm_setByte ?_ | refine norm_int1 ?_ | refine norm_mk ?_) | (with_reducible refine bytes_mk ?_) | (refine ar_byte ?_) | (refine ar_i64 (by omega) (by omega) ?_) | (refine ar_low ?_) | (refine ix_byteN (by omega) ?_) | (refine ix_byteK (by simp only [Int.reduceToNat]; exact rfl) (by decide) (by omega) ?_) | (refine ix_byte (by omega) (by omega) ?_) | (refine ix_rfl (by decide) rfl ?_) | (refine sd_mk rfl ?_) | (refine sd_mk (by decide +kernel) ?_) | (refine sd_mk (by first | (simp only [List.length_map, List.length_append, List.length_cons, List.length_nil]; done) | ((try simp only [List.length_map, List.length_append, List.length_cons, List.length_nil, List.length_set, List.length_replicate, List.length_drop, List.length_take, true_and, and_true]); omega) | (dsimp only; omega)) ?_) | (first | refine shl8 (by omega) (by omega) ?_ | refine shl4 (by omega) (by omega) ?_ | refine shl1 (by omega) (by omega) ?_ | refine shl16 (by omega) (by omega) ?_ | refine shl24 (by omega) (by omega) ?_ | refine shr8 (by decide) ?_ | refine shr4 (by decide) ?_ | refine shr1 (by decide) ?_ | refine shr16 (by decide) ?_ | refine shr24 (by decide) ?_) | (with_reducible first | refine bit_mk and_1 ?_ | refine bit_mk and_15 ?_ | refine bit_mk and_255 ?_ | refine bit_mk and_4095 ?_ | refine bit_mk and_65535 ?_) | (refine quo_pos (by omega) (by omega) (by omega) ?_) | (refine rem_pos (by omega) (by omega) ?_)))
  have hs1 := hsub s
  obtain ⟨hsl1, hsl2, hsl3⟩ := signs_len k
  generalize hT : levelF k sub s = T at *
  have hT0 : loopF k sub ((sub s).2.rest.length + 1) (sub s).1 (sub s).2 = T := hT
  refine awp_loop (α := Nat × OExpr × St) (fun p => p.2.2.rest.length < p.1 ∧ p.2.2.rest.length ≤ 1000000000 ∧ loopF k sub p.1 p.2.1 p.2.2 = T)
    (fun p => [(0, .loc 0 0), (1, .int .i64 k), (2, .int .i64 d), (6, .loc 1 0), (7, levsD), (8, .loc 2 0)])
    (fun p => stO p.2.2 ++ [.cells [.int .i64 0, .int .i64 0, .str [], .nilsl], .cells [.int .i64 p.2.1.kind, .int .i64 p.2.1.n, .str p.2.1.name, .sl 4 (p.2.1.kids.map exprD) none]]) (fun p => p.1) (fun _ => by simp [hE, stO])
    ((sub s).2.rest.length + 1, (sub s).1, (sub s).2) ⟨Nat.lt_succ_self _, Nat.le_trans hs1 hs, hT0⟩ ?_ ?_
  · (repeat' (first | (refine VS.mk ?_) | exact trivial | exact rfl | refine And.intro ?_ ?_))
  rintro ⟨g, e, s2⟩ ⟨hg, hs2, hl⟩
  dsimp only at hg hs2 hl ⊢
  obtain ⟨g, rfl⟩ : ∃ g', g = g' + 1 := ⟨g - 1, by omega⟩
  refine vcOk _ ?_
  (repeat' (first | (refine VS.mk ?_) | (refine dr_mk ?_) | (refine md_l ?_) | ((first | refine sp_not_dec ?_ ?_ | refine sp_dec ?_ ?_ | refine sp_beq ?_ ?_ | refine sp_bne ?_ ?_ | refine sp_seq ?_ ?_ | refine sp_sne ?_ ?_ | refine sp_not ?_ ?_ | refine sp_any ?_ ?_) <;> (intro hc; (try simp only [List.length_map, List.length_append, List.length_cons, List.length_nil, Bool.and_true, Bool.and_eq_true, beq_iff_eq, Bool.and_eq_false_iff, beq_eq_false_iff_ne, Bool.true_and, ne_eq] at hc); (try (exfalso; omega)))) | (with_reducible first | refine norm_one ?_ | refine norm_app ?_ | refine norm_cutEnd ?_ | refine norm_cut ?_ | refine norm_bytes1 ?_ | refine norm_bytes2 ?_ | refine norm_setByte ?_ | refine norm_int1 ?_ | refine norm_mk ?_) | (with_reducible refine bytes_mk ?_) | (refine ar_byte ?_) | (refine ar_i64 (by omega) (by omega) ?_) | (refine ar_low ?_) | (refine ix_byteN (by omega) ?_) | (refine ix_byteK (by simp only [Int.reduceToNat]; exact rfl) (by decide) (by omega) ?_) | (refine ix_byte (by omega) (by omega) ?_) | (refine ix_rfl (by decide) rfl ?_) | (refine sd_mk rfl ?_) | (refine sd_mk (by decide +kernel) ?_) | (refine sd_mk (by first | (simp only [List.length_map, List.length_append, List.length_cons, List.length_nil]; done) | ((try simp only [List.length_map, List.length_append, List.length_cons, List.length_nil, List.length_set, List.length_replicate, List.length_drop, List.length_take, true_and, and_true]); omega) | (dsimp only; omega)) ?_) | (first | refine shl8 (by omega) (by omega) ?_ | refine shl4 (by omega) (by omega) ?_ | refine shl1 (by omega) (by omega) ?_ | refine shl16 (by omega) (by omega) ?_ | refine shl24 (by omega) (by omega) ?_ | refine shr8 (by decide) ?_ | refine shr4 (by decide) ?_ | refine shr1 (by decide) ?_ | refine shr16 (by decide) ?_ | refine shr24 (by decide) ?_) | (with_reducible first | refine bit_mk and_1 ?_ | refine bit_mk and_15 ?_ | refine bit_mk and_255 ?_ | refine bit_mk and_4095 ?_ | refine bit_mk and_65535 ?_) | (refine quo_pos (by omega) (by omega) (by omega) ?_) | (refine rem_pos (by omega) (by omega) ?_)))
  · refine ix_lev hk ?_
    (repeat' (first | (refine VS.mk ?_) | (refine dr_mk ?_) | (refine md_l ?_) | ((first | refine sp_not_dec ?_ ?_ | refine sp_dec ?_ ?_ | refine sp_beq ?_ ?_ | refine sp_bne ?_ ?_ | refine sp_seq ?_ ?_ | refine sp_sne ?_ ?_ | refine sp_not ?_ ?_ | refine sp_any ?_ ?_) <;> (intro hc; (try simp only [List.length_map, List.length_append, List.length_cons, List.length_nil, Bool.and_true, Bool.and_eq_true, beq_iff_eq, Bool.and_eq_false_iff, beq_eq_false_iff_ne, Bool.true_and, ne_eq] at hc); (try (exfalso; omega)))) | (with_reducible first | refine norm_one ?_ | refine norm_app ?_ | refine norm_cutEnd ?_ | refine norm_cut ?_ | refine norm_bytes1 ?_ | refine norm_bytes2 ?_ | refine norm_setByte ?_ | refine norm_int1 ?_ | refine norm_mk ?_) | (with_reducible refine bytes_mk ?_) | (refine ar_byte ?_) | (refine ar_i64 (by omega) (by omega) ?_) | (refine ar_low ?_) | (refine ix_byteN (by omega) ?_) | (refine ix_byteK (by simp only [Int.reduceToNat]; exact rfl) (by decide) (by omega) ?_) | (refine ix_byte (by omega) (by omega) ?_) | (refine ix_rfl (by decide) rfl ?_) | (refine sd_mk rfl ?_) | (refine sd_mk (by decide +kernel) ?_) | (refine sd_mk (by first | (simp only [List.length_map, List.length_append, List.length_cons, List.length_nil]; done) | ((try simp only [List.length_map, List.length_append, List.length_cons, List.length_nil, List.length_set, List.length_replicate, List.length_drop, List.length_take, true_and, and_true]); omega) | (dsimp only; omega)) ?_) | (first | refine shl8 (by omega) (by omega) ?_ | refine shl4 (by omega) (by omega) ?_ | refine shl1 (by omega) (by omega) ?_ | refine shl16 (by omega) (by omega) ?_ | refine shl24 (by omega) (by omega) ?_ | refine shr8 (by decide) ?_ | refine shr4 (by decide) ?_ | refine shr1 (by decide) ?_ | refine shr16 (by decide) ?_ | refine shr24 (by decide) ?_) | (with_reducible first | refine bit_mk and_1 ?_ | refine bit_mk and_15 ?_ | refine bit_mk and_255 ?_ | refine bit_mk and_4095 ?_ | refine bit_mk and_65535 ?_) | (refine quo_pos (by omega) (by omega) (by omega) ?_) | (refine rem_pos (by omega) (by omega) ?_)))
    refine call_f sign_meets [0] [0] (s2, signs k) ⟨by omega, hs2⟩ rfl rfl ?_
    refine And.intro (VS.mk (LeL.of_eq rfl)) (And.intro (VS.mk rfl) ?_)
    obtain ⟨q1, q2⟩ := sign_short (signs k) s2
    (repeat' (first | (refine VS.mk ?_) | (refine dr_mk ?_) | (refine md_l ?_) | ((first | refine sp_not_dec ?_ ?_ | refine sp_dec ?_ ?_ | refine sp_beq ?_ ?_ | refine sp_bne ?_ ?_ | refine sp_seq ?_ ?_ | refine sp_sne ?_ ?_ | refine sp_not ?_ ?_ | refine sp_any ?_ ?_) <;> (intro hc; (try simp only [List.length_map, List.length_append, List.length_cons, List.length_nil, Bool.and_true, Bool.and_eq_true, beq_iff_eq, Bool.and_eq_false_iff, beq_eq_false_iff_ne, Bool.true_and, ne_eq] at hc); (try (exfalso; omega)))) | (with_reducible first | refine norm_one ?_ | refine norm_app ?_ | refine norm_cutEnd ?_ | refine norm_cut ?_ | refine norm_bytes1 ?_ | refine norm_bytes2 ?_ | refine norm_setByte ?_ | refine norm_int1 ?_ | refine norm_mk ?_) | (with_reducible refine bytes_mk ?_) | (refine ar_byte ?_) | (refine ar_i64 (by omega) (by omega) ?_) | (refine ar_low ?_) | (refine ix_byteN (by omega) ?_) | (refine ix_byteK (by simp only [Int.reduceToNat]; exact rfl) (by decide) (by omega) ?_) | (refine ix_byte (by omega) (by omega) ?_) | (refine ix_rfl (by decide) rfl ?_) | (refine sd_mk rfl ?_) | (refine sd_mk (by decide +kernel) ?_) | (refine sd_mk (by first | (simp only [List.length_map, List.length_append, List.length_cons, List.length_nil]; done) | ((try simp only [List.length_map, List.length_append, List.length_cons, List.length_nil, List.length_set, List.length_replicate, List.length_drop, List.length_take, true_and, and_true]); omega) | (dsimp only; omega)) ?_) | (first | refine shl8 (by omega) (by omega) ?_ | refine shl4 (by omega) (by omega) ?_ | refine shl1 (by omega) (by omega) ?_ | refine shl16 (by omega) (by omega) ?_ | refine shl24 (by omega) (by omega) ?_ | refine shr8 (by decide) ?_ | refine shr4 (by decide) ?_ | refine shr1 (by decide) ?_ | refine shr16 (by decide) ?_ | refine shr24 (by decide) ?_) | (with_reducible first | refine bit_mk and_1 ?_ | refine bit_mk and_15 ?_ | refine bit_mk and_255 ?_ | refine bit_mk and_4095 ?_ | refine bit_mk and_65535 ?_) | (refine quo_pos (by omega) (by omega) (by omega) ?_) | (refine rem_pos (by omega) (by omega) ?_)))
    · rw [loop_break (by assumption) hc] at hl
      subst hl
      refine end_mk ?_
      (repeat' (first | (refine VS.mk ?_) | exact trivial | exact rfl | refine And.intro ?_ ?_))
    · rw [loop_go (by assumption) hc] at hl
      have hka := kinds_at (k := k) (s := s2) hc
      refine ix_lev hk ?_
      (repeat' (first | (refine VS.mk ?_) | (refine dr_mk ?_) | (refine md_l ?_) | ((first | refine sp_not_dec ?_ ?_ | refine sp_dec ?_ ?_ | refine sp_beq ?_ ?_ | refine sp_bne ?_ ?_ | refine sp_seq ?_ ?_ | refine sp_sne ?_ ?_ | refine sp_not ?_ ?_ | refine sp_any ?_ ?_) <;> (intro hc; (try simp only [List.length_map, List.length_append, List.length_cons, List.length_nil, Bool.and_true, Bool.and_eq_true, beq_iff_eq, Bool.and_eq_false_iff, beq_eq_false_iff_ne, Bool.true_and, ne_eq] at hc); (try (exfalso; omega)))) | (with_reducible first | refine norm_one ?_ | refine norm_app ?_ | refine norm_cutEnd ?_ | refine norm_cut ?_ | refine norm_bytes1 ?_ | refine norm_bytes2 ?_ | refine norm_setByte ?_ | refine norm_int1 ?_ | refine norm_mk ?_) | (with_reducible refine bytes_mk ?_) | (refine ar_byte ?_) | (refine ar_i64 (by omega) (by omega) ?_) | (refine ar_low ?_) | (refine ix_byteN (by omega) ?_) | (refine ix_byteK (by simp only [Int.reduceToNat]; exact rfl) (by decide) (by omega) ?_) | (refine ix_byte (by omega) (by omega) ?_) | (refine ix_rfl (by decide) rfl ?_) | (refine sd_mk rfl ?_) | (refine sd_mk (by decide +kernel) ?_) | (refine sd_mk (by first | (simp only [List.length_map, List.length_append, List.length_cons, List.length_nil]; done) | ((try simp only [List.length_map, List.length_append, List.length_cons, List.length_nil, List.length_set, List.length_replicate, List.length_drop, List.length_take, true_and, and_true]); omega) | (dsimp only; omega)) ?_) | (first | refine shl8 (by omega) (by omega) ?_ | refine shl4 (by omega) (by omega) ?_ | refine shl1 (by omega) (by omega) ?_ | refine shl16 (by omega) (by omega) ?_ | refine shl24 (by omega) (by omega) ?_ | refine shr8 (by decide) ?_ | refine shr4 (by decide) ?_ | refine shr1 (by decide) ?_ | refine shr16 (by decide) ?_ | refine shr24 (by decide) ?_) | (with_reducible first | refine bit_mk and_1 ?_ | refine bit_mk and_15 ?_ | refine bit_mk and_255 ?_ | refine bit_mk and_4095 ?_ | refine bit_mk and_65535 ?_) | (refine quo_pos (by omega) (by omega) (by omega) ?_) | (refine rem_pos (by omega) (by omega) ?_)))
      refine ix_map (kindOf k (signI (signs k) s2).1) (by omega) (by simpa using hka) ?_
      (repeat' (first | (refine VS.mk ?_) | (refine dr_mk ?_) | (refine md_l ?_) | ((first | refine sp_not_dec ?_ ?_ | refine sp_dec ?_ ?_ | refine sp_beq ?_ ?_ | refine sp_bne ?_ ?_ | refine sp_seq ?_ ?_ | refine sp_sne ?_ ?_ | refine sp_not ?_ ?_ | refine sp_any ?_ ?_) <;> (intro hc; (try simp only [List.length_map, List.length_append, List.length_cons, List.length_nil, Bool.and_true, Bool.and_eq_true, beq_iff_eq, Bool.and_eq_false_iff, beq_eq_false_iff_ne, Bool.true_and, ne_eq] at hc); (try (exfalso; omega)))) | (with_reducible first | refine norm_one ?_ | refine norm_app ?_ | refine norm_cutEnd ?_ | refine norm_cut ?_ | refine norm_bytes1 ?_ | refine norm_bytes2 ?_ | refine norm_setByte ?_ | refine norm_int1 ?_ | refine norm_mk ?_) | (with_reducible refine bytes_mk ?_) | (refine ar_byte ?_) | (refine ar_i64 (by omega) (by omega) ?_) | (refine ar_low ?_) | (refine ix_byteN (by omega) ?_) | (refine ix_byteK (by simp only [Int.reduceToNat]; exact rfl) (by decide) (by omega) ?_) | (refine ix_byte (by omega) (by omega) ?_) | (refine ix_rfl (by decide) rfl ?_) | (refine sd_mk rfl ?_) | (refine sd_mk (by decide +kernel) ?_) | (refine sd_mk (by first | (simp only [List.length_map, List.length_append, List.length_cons, List.length_nil]; done) | ((try simp only [List.length_map, List.length_append, List.length_cons, List.length_nil, List.length_set, List.length_replicate, List.length_drop, List.length_take, true_and, and_true]); omega) | (dsimp only; omega)) ?_) | (first | refine shl8 (by omega) (by omega) ?_ | refine shl4 (by omega) (by omega) ?_ | refine shl1 (by omega) (by omega) ?_ | refine shl16 (by omega) (by omega) ?_ | refine shl24 (by omega) (by omega) ?_ | refine shr8 (by decide) ?_ | refine shr4 (by decide) ?_ | refine shr1 (by decide) ?_ | refine shr16 (by decide) ?_ | refine shr24 (by decide) ?_) | (with_reducible first | refine bit_mk and_1 ?_ | refine bit_mk and_15 ?_ | refine bit_mk and_255 ?_ | refine bit_mk and_4095 ?_ | refine bit_mk and_65535 ?_) | (refine quo_pos (by omega) (by omega) (by omega) ?_) | (refine rem_pos (by omega) (by omega) ?_)))
      have q3 := hsub (signI (signs k) s2).2
      refine call_f h [0] [0] (signI (signs k) s2).2 (by omega) rfl rfl ?_
      refine And.intro (VS.mk (LeL.of_eq rfl)) (And.intro (VS.mk rfl) ?_)
      (repeat' (first | (refine VS.mk ?_) | (refine dr_mk ?_) | (refine md_l ?_) | ((first | refine sp_not_dec ?_ ?_ | refine sp_dec ?_ ?_ | refine sp_beq ?_ ?_ | refine sp_bne ?_ ?_ | refine sp_seq ?_ ?_ | refine sp_sne ?_ ?_ | refine sp_not ?_ ?_ | refine sp_any ?_ ?_) <;> (intro hc; (try simp only [List.length_map, List.length_append, List.length_cons, List.length_nil, Bool.and_true, Bool.and_eq_true, beq_iff_eq, Bool.and_eq_false_iff, beq_eq_false_iff_ne, Bool.true_and, ne_eq] at hc); (try (exfalso; omega)))) | (with_reducible first | refine norm_one ?_ | refine norm_app ?_ | refine norm_cutEnd ?_ | refine norm_cut ?_ | refine norm_bytes1 ?_ | refine norm_bytes2 ?_ | refine norm_setByte ?_ | refine norm_int1 ?_ | refine norm_mk ?_) | (with_reducible refine bytes_mk ?_) | (refine ar_byte ?_) | (refine ar_i64 (by omega) (by omega) ?_) | (refine ar_low ?_) | (refine ix_byteN (by omega) ?_) | (refine ix_byteK (by simp only [Int.reduceToNat]; exact rfl) (by decide) (by omega) ?_) | (refine ix_byte (by omega) (by omega) ?_) | (refine ix_rfl (by decide) rfl ?_) | (refine sd_mk rfl ?_) | (refine sd_mk (by decide +kernel) ?_) | (refine sd_mk (by first | (simp only [List.length_map, List.length_append, List.length_cons, List.length_nil]; done) | ((try simp only [List.length_map, List.length_append, List.length_cons, List.length_nil, List.length_set, List.length_replicate, List.length_drop, List.length_take, true_and, and_true]); omega) | (dsimp only; omega)) ?_) | (first | refine shl8 (by omega) (by omega) ?_ | refine shl4 (by omega) (by omega) ?_ | refine shl1 (by omega) (by omega) ?_ | refine shl16 (by omega) (by omega) ?_ | refine shl24 (by omega) (by omega) ?_ | refine shr8 (by decide) ?_ | refine shr4 (by decide) ?_ | refine shr1 (by decide) ?_ | refine shr16 (by decide) ?_ | refine shr24 (by decide) ?_) | (with_reducible first | refine bit_mk and_1 ?_ | refine bit_mk and_15 ?_ | refine bit_mk and_255 ?_ | refine bit_mk and_4095 ?_ | refine bit_mk and_65535 ?_) | (refine quo_pos (by omega) (by omega) (by omega) ?_) | (refine rem_pos (by omega) (by omega) ?_)))
      refine loop_end (g, .mk (kindOf k (signI (signs k) s2).1) 0 [] [e, (sub (signI (signs k) s2).2).1], (sub (signI (signs k) s2).2).2) ⟨by (dsimp only; omega), by (dsimp only; omega), hl⟩ (by dsimp only; omega) ?_
      dsimp only
      rw [mk_kind, mk_n, mk_name, mk_kids, map2]
      (repeat' (first | (refine VS.mk ?_) | exact trivial | exact rfl | refine And.intro ?_ ?_))
  · rw [loop_stop hc] at hl
    subst hl
    refine end_mk ?_
    (repeat' (first | (refine VS.mk ?_) | exact trivial | exact rfl | refine And.intro ?_ ?_))
end Go.Proofs.Ytlilcfkcofafeaa

namespace Go.Proofs.Ytlilcfkcofafeaa
open Go Go.Plat
set_option linter.unusedVariables false
set_option linter.unusedSimpArgs false
set_option maxRecDepth 100000
set_option maxHeartbeats 2000000
attribute [local irreducible] NilS LookS NormM bitI BytesS NormL Arith QuoS RemS ShlS ShrS BitS CatS SplitS SideS IdxS CallS LoopEnd EndS ModeS DrawS AWP Meets
attribute [local irreducible] signedI exprD nodes OExpr.kind OExpr.n OExpr.name OExpr.kids letterB digitB kindB nameB signI oneI failS loopF

theorem at_all {d : Int} {one : St → OExpr × St} (hs : Shorter one) (h : OneOk d one) : AtOk 0 d (atF one 5) := by
  have h5 : AtOk (((4 : Nat) : Int) + 1) d (atF one 0) := at_top h
  have h4 : AtOk (((3 : Nat) : Int) + 1) d (atF one 1) := at_level (k := 4) (by decide) (at_short hs 0) h5
  have h3 : AtOk (((2 : Nat) : Int) + 1) d (atF one 2) := at_level (k := 3) (by decide) (at_short hs 1) h4
  have h2 : AtOk (((1 : Nat) : Int) + 1) d (atF one 3) := at_level (k := 2) (by decide) (at_short hs 2) h3
  have h1 : AtOk (((0 : Nat) : Int) + 1) d (atF one 4) := at_level (k := 1) (by decide) (at_short hs 3) h2
  exact at_level (k := 0) (by decide) (at_short hs 4) h1

theorem one_deep {d : Int} (h : 6 < d) : OneOk d (oneI 0) := by
  refine meets_f tabOk Try.func17 rfl (by decide) ?_
  intro s hs
  refine ⟨Nat.le_refl _, by simp [Try.f17], fun E hE => ?_⟩
  refine vcOk _ ?_
  (repeat' (first | (refine VS.mk ?_) | (refine dr_mk ?_) | (refine md_l ?_) | ((first | refine sp_not_dec ?_ ?_ | refine sp_dec ?_ ?_ | refine sp_beq ?_ ?_ | refine sp_bne ?_ ?_ | refine sp_seq ?_ ?_ | refine sp_sne ?_ ?_ | refine sp_not ?_ ?_ | refine sp_any ?_ ?_) <;> (intro hc; (try simp only [List.length_map, List.length_append, List.length_cons, List.length_nil, Bool.and_true, Bool.and_eq_true, beq_iff_eq, Bool.and_eq_false_iff, beq_eq_false_iff_ne, Bool.true_and, ne_eq] at hc); (try (exfalso; omega)))) | (with_reducible first | refine norm_one ?_ | refine norm_app ?_ | refine norm_cutEnd ?_ | refine norm_cut ?_ | refine norm_bytes1 ?_ | refine norm_bytes2 ?_ | refine norm_setByte ?_ | refine norm_int1 ?_ | refine norm_mk ?_) | (with_reducible refine bytes_mk ?_) | (refine ar_byte ?_) | (refine ar_i64 (by omega) (by omega) ?_) | (refine ar_low ?_) | (refine ix_byteN (by omega) ?_) | (refine ix_byteK (by simp only [Int.reduceToNat]; exact rfl) (by decide) (by omega) ?_) | (refine ix_byte (by omega) (by omega) ?_) | (refine ix_rfl (by decide) rfl ?_) | (refine sd_mk rfl ?_) | (refine sd_mk (by decide +kernel) ?_) | (refine sd_mk (by first | (simp only [List.length_map, List.length_append, List.length_cons, List.length_nil]; done) | ((try simp only [List.length_map, List.length_append, List.length_cons, List.length_nil, List.length_set, List.length_replicate, List.length_drop, List.length_take, true_and, and_true]); omega) | (dsimp only; omega)) ?_) | (first | refine shl8 (by omega) (by omega) ?_ | refine shl4 (by omega) (by omega) ?_ | refine shl1 (by omega) (by omega) ?_ | refine shl16 (by omega) (by omega) ?_ | refine shl24 (by omega) (by omega) ?_ | refine shr8 (by decide) ?_ | refine shr4 (by decide) ?_ | refine shr1 (by decide) ?_ | refine shr16 (by decide) ?_ | refine shr24 (by decide) ?_) | (with_reducible first | refine bit_mk and_1 ?_ | refine bit_mk and_15 ?_ | refine bit_mk and_255 ?_ | refine bit_mk and_4095 ?_ | refine bit_mk and_65535 ?_) | (refine quo_pos (by omega) (by omega) (by omega) ?_) | (refine rem_pos (by omega) (by omega) ?_)))
  refine call_f fail_meets [0] [0] (s, 10) trivial rfl rfl ?_
  refine And.intro (VS.mk (LeL.of_eq rfl)) (And.intro (VS.mk rfl) ?_)
  have ho : oneI 0 s = (noE, failS s 10) := by rw [oneI]
  (repeat' (first | (refine VS.mk ?_) | (refine dr_mk ?_) | (refine md_l ?_) | ((first | refine sp_not_dec ?_ ?_ | refine sp_dec ?_ ?_ | refine sp_beq ?_ ?_ | refine sp_bne ?_ ?_ | refine sp_seq ?_ ?_ | refine sp_sne ?_ ?_ | refine sp_not ?_ ?_ | refine sp_any ?_ ?_) <;> (intro hc; (try simp only [List.length_map, List.length_append, List.length_cons, List.length_nil, Bool.and_true, Bool.and_eq_true, beq_iff_eq, Bool.and_eq_false_iff, beq_eq_false_iff_ne, Bool.true_and, ne_eq] at hc); (try (exfalso; omega)))) | (with_reducible first | refine norm_one ?_ | refine norm_app ?_ | refine norm_cutEnd ?_ | refine norm_cut ?_ | refine norm_bytes1 ?_ | refine norm_bytes2 ?_ | refine norm_setByte ?_ | refine norm_int1 ?_ | refine norm_mk ?_) | (with_reducible refine bytes_mk ?_) | (refine ar_byte ?_) | (refine ar_i64 (by omega) (by omega) ?_) | (refine ar_low ?_) | (refine ix_byteN (by omega) ?_) | (refine ix_byteK (by simp only [Int.reduceToNat]; exact rfl) (by decide) (by omega) ?_) | (refine ix_byte (by omega) (by omega) ?_) | (refine ix_rfl (by decide) rfl ?_) | (refine sd_mk rfl ?_) | (refine sd_mk (by decide +kernel) ?_) | (refine sd_mk (by first | (simp only [List.length_map, List.length_append, List.length_cons, List.length_nil]; done) | ((try simp only [List.length_map, List.length_append, List.length_cons, List.length_nil, List.length_set, List.length_replicate, List.length_drop, List.length_take, true_and, and_true]); omega) | (dsimp only; omega)) ?_) | (first | refine shl8 (by omega) (by omega) ?_ | refine shl4 (by omega) (by omega) ?_ | refine shl1 (by omega) (by omega) ?_ | refine shl16 (by omega) (by omega) ?_ | refine shl24 (by omega) (by omega) ?_ | refine shr8 (by decide) ?_ | refine shr4 (by decide) ?_ | refine shr1 (by decide) ?_ | refine shr16 (by decide) ?_ | refine shr24 (by decide) ?_) | (with_reducible first | refine bit_mk and_1 ?_ | refine bit_mk and_15 ?_ | refine bit_mk and_255 ?_ | refine bit_mk and_4095 ?_ | refine bit_mk and_65535 ?_) | (refine quo_pos (by omega) (by omega) (by omega) ?_) | (refine rem_pos (by omega) (by omega) ?_)))
  refine end_mk ?_
  (repeat' (first | (refine VS.mk ?_) | exact trivial | exact rfl | refine And.intro ?_ ?_))
  all_goals (rw [ho]; rfl)

theorem one_step {d : Int} {one : St → OExpr × St} (hd : d ≤ 6) (hd0 : 0 ≤ d) (hsub : Shorter one) (h : OneOk (d + 1) one) : OneOk d (oneStep one) := by
  have hat := at_all hsub h
  refine meets_f tabOk Try.func17 rfl (by decide) ?_
  intro s hs
  have q1 := (sign_short opens s).1
  refine ⟨Nat.le_refl _, by simp [Try.f17], fun E hE => ?_⟩
  refine vcOk _ ?_
  (repeat' (first | (refine VS.mk ?_) | (refine dr_mk ?_) | (refine md_l ?_) | ((first | refine sp_not_dec ?_ ?_ | refine sp_dec ?_ ?_ | refine sp_beq ?_ ?_ | refine sp_bne ?_ ?_ | refine sp_seq ?_ ?_ | refine sp_sne ?_ ?_ | refine sp_not ?_ ?_ | refine sp_any ?_ ?_) <;> (intro hc; (try simp only [List.length_map, List.length_append, List.length_cons, List.length_nil, Bool.and_true, Bool.and_eq_true, beq_iff_eq, Bool.and_eq_false_iff, beq_eq_false_iff_ne, Bool.true_and, ne_eq] at hc); (try (exfalso; omega)))) | (with_reducible first | refine norm_one ?_ | refine norm_app ?_ | refine norm_cutEnd ?_ | refine norm_cut ?_ | refine norm_bytes1 ?_ | refine norm_bytes2 ?_ | refine norm_setByte ?_ | refine norm_int1 ?_ | refine norm_mk ?_) | (with_reducible refine bytes_mk ?_) | (refine ar_byte ?_) | (refine ar_i64 (by omega) (by omega) ?_) | (refine ar_low ?_) | (refine ix_byteN (by omega) ?_) | (refine ix_byteK (by simp only [Int.reduceToNat]; exact rfl) (by decide) (by omega) ?_) | (refine ix_byte (by omega) (by omega) ?_) | (refine ix_rfl (by decide) rfl ?_) | (refine sd_mk rfl ?_) | (refine sd_mk (by decide +kernel) ?_) | (refine sd_mk (by first | (simp only [List.length_map, List.length_append, List.length_cons, List.length_nil]; done) | ((try simp only [List.length_map, List.length_append, List.length_cons, List.length_nil, List.length_set, List.length_replicate, List.length_drop, List.length_take, true_and, and_true]); omega) | (dsimp only; omega)) ?_) | (first | refine shl8 (by omega) (by omega) ?_ | refine shl4 (by omega) (by omega) ?_ | refine shl1 (by omega) (by omega) ?_ | refine shl16 (by omega) (by omega) ?_ | refine shl24 (by omega) (by omega) ?_ | refine shr8 (by decide) ?_ | refine shr4 (by decide) ?_ | refine shr1 (by decide) ?_ | refine shr16 (by decide) ?_ | refine shr24 (by decide) ?_) | (with_reducible first | refine bit_mk and_1 ?_ | refine bit_mk and_15 ?_ | refine bit_mk and_255 ?_ | refine bit_mk and_4095 ?_ | refine bit_mk and_65535 ?_) | (refine quo_pos (by omega) (by omega) (by omega) ?_) | (refine rem_pos (by omega) (by omega) ?_)))
  refine call_f sign_meets [0] [0] (s, opens) ⟨by decide, hs⟩ rfl rfl ?_
  refine And.intro (VS.mk (LeL.of_eq rfl)) (And.intro (VS.mk rfl) ?_)
  dsimp only
  have hstep : oneStep one s = if (signI opens s).1 = 0 then (.mk 3 0 [] [(one (signI opens s).2).1], (one (signI opens s).2).2)
    else if (signI opens s).1 = 1 then (.mk 4 0 [] [(one (signI opens s).2).1], (one (signI opens s).2).2)
    else if (signI opens s).1 = 2 then
      (if (signI closes (atF one 5 (signI opens s).2).2).1 < 0 then (noE, failS (signI closes (atF one 5 (signI opens s).2).2).2 2)
       else ((atF one 5 (signI opens s).2).1, (signI closes (atF one 5 (signI opens s).2).2).2))
    else tokI (signI opens s).2 := rfl
  generalize hS : signI opens s = S at *
  obtain ⟨i, s1⟩ := S
  have q1 : s1.rest.length ≤ s.rest.length := q1
  (repeat' (first | (refine VS.mk ?_) | (refine dr_mk ?_) | (refine md_l ?_) | ((first | refine sp_not_dec ?_ ?_ | refine sp_dec ?_ ?_ | refine sp_beq ?_ ?_ | refine sp_bne ?_ ?_ | refine sp_seq ?_ ?_ | refine sp_sne ?_ ?_ | refine sp_not ?_ ?_ | refine sp_any ?_ ?_) <;> (intro hc; (try simp only [List.length_map, List.length_append, List.length_cons, List.length_nil, Bool.and_true, Bool.and_eq_true, beq_iff_eq, Bool.and_eq_false_iff, beq_eq_false_iff_ne, Bool.true_and, ne_eq] at hc); (try (exfalso; omega)))) | (with_reducible first | refine norm_one ?_ | refine norm_app ?_ | refine norm_cutEnd ?_ | refine norm_cut ?_ | refine norm_bytes1 ?_ | refine norm_bytes2 ?_ | refine norm_setByte ?_ | refine norm_int1 ?_ | refine norm_mk ?_) | (with_reducible refine bytes_mk ?_) | (refine ar_byte ?_) | (refine ar_i64 (by omega) (by omega) ?_) | (refine ar_low ?_) | (refine ix_byteN (by omega) ?_) | (refine ix_byteK (by simp only [Int.reduceToNat]; exact rfl) (by decide) (by omega) ?_) | (refine ix_byte (by omega) (by omega) ?_) | (refine ix_rfl (by decide) rfl ?_) | (refine sd_mk rfl ?_) | (refine sd_mk (by decide +kernel) ?_) | (refine sd_mk (by first | (simp only [List.length_map, List.length_append, List.length_cons, List.length_nil]; done) | ((try simp only [List.length_map, List.length_append, List.length_cons, List.length_nil, List.length_set, List.length_replicate, List.length_drop, List.length_take, true_and, and_true]); omega) | (dsimp only; omega)) ?_) | (first | refine shl8 (by omega) (by omega) ?_ | refine shl4 (by omega) (by omega) ?_ | refine shl1 (by omega) (by omega) ?_ | refine shl16 (by omega) (by omega) ?_ | refine shl24 (by omega) (by omega) ?_ | refine shr8 (by decide) ?_ | refine shr4 (by decide) ?_ | refine shr1 (by decide) ?_ | refine shr16 (by decide) ?_ | refine shr24 (by decide) ?_) | (with_reducible first | refine bit_mk and_1 ?_ | refine bit_mk and_15 ?_ | refine bit_mk and_255 ?_ | refine bit_mk and_4095 ?_ | refine bit_mk and_65535 ?_) | (refine quo_pos (by omega) (by omega) (by omega) ?_) | (refine rem_pos (by omega) (by omega) ?_)))
  · refine call_f h [0] [0] s1 (by omega) rfl rfl ?_
    refine And.intro (VS.mk (LeL.of_eq rfl)) (And.intro (VS.mk rfl) ?_)
    (repeat' (first | (refine VS.mk ?_) | (refine dr_mk ?_) | (refine md_l ?_) | ((first | refine sp_not_dec ?_ ?_ | refine sp_dec ?_ ?_ | refine sp_beq ?_ ?_ | refine sp_bne ?_ ?_ | refine sp_seq ?_ ?_ | refine sp_sne ?_ ?_ | refine sp_not ?_ ?_ | refine sp_any ?_ ?_) <;> (intro hc; (try simp only [List.length_map, List.length_append, List.length_cons, List.length_nil, Bool.and_true, Bool.and_eq_true, beq_iff_eq, Bool.and_eq_false_iff, beq_eq_false_iff_ne, Bool.true_and, ne_eq] at hc); (try (exfalso; omega)))) | (with_reducible first | refine norm_one ?_ | refine norm_app ?_ | refine norm_cutEnd ?_ | refine norm_cut ?_ | refine norm_bytes1 ?_ | refine norm_bytes2 ?_ | refine norm_setByte ?_ | refine norm_int1 ?_ | refine norm_mk ?_) | (with_reducible refine bytes_mk ?_) | (refine ar_byte ?_) | (refine ar_i64 (by omega) (by omega) ?_) | (refine ar_low ?_) | (refine ix_byteN (by omega) ?_) | (refine ix_byteK (by simp only [Int.reduceToNat]; exact rfl) (by decide) (by omega) ?_) | (refine ix_byte (by omega) (by omega) ?_) | (refine ix_rfl (by decide) rfl ?_) | (refine sd_mk rfl ?_) | (refine sd_mk (by decide +kernel) ?_) | (refine sd_mk (by first | (simp only [List.length_map, List.length_append, List.length_cons, List.length_nil]; done) | ((try simp only [List.length_map, List.length_append, List.length_cons, List.length_nil, List.length_set, List.length_replicate, List.length_drop, List.length_take, true_and, and_true]); omega) | (dsimp only; omega)) ?_) | (first | refine shl8 (by omega) (by omega) ?_ | refine shl4 (by omega) (by omega) ?_ | refine shl1 (by omega) (by omega) ?_ | refine shl16 (by omega) (by omega) ?_ | refine shl24 (by omega) (by omega) ?_ | refine shr8 (by decide) ?_ | refine shr4 (by decide) ?_ | refine shr1 (by decide) ?_ | refine shr16 (by decide) ?_ | refine shr24 (by decide) ?_) | (with_reducible first | refine bit_mk and_1 ?_ | refine bit_mk and_15 ?_ | refine bit_mk and_255 ?_ | refine bit_mk and_4095 ?_ | refine bit_mk and_65535 ?_) | (refine quo_pos (by omega) (by omega) (by omega) ?_) | (refine rem_pos (by omega) (by omega) ?_)))
    have ho : oneStep one s = (.mk 3 0 [] [(one s1).1], (one s1).2) := by rw [hstep, if_pos hc]
    refine end_mk ?_
    (repeat' (first | (refine VS.mk ?_) | exact trivial | exact rfl | refine And.intro ?_ ?_))
    all_goals (rw [ho])
    · dsimp only; rw [exprU_mk, map1]; rfl
    · rfl
  · refine call_f h [0] [0] s1 (by omega) rfl rfl ?_
    refine And.intro (VS.mk (LeL.of_eq rfl)) (And.intro (VS.mk rfl) ?_)
    (repeat' (first | (refine VS.mk ?_) | (refine dr_mk ?_) | (refine md_l ?_) | ((first | refine sp_not_dec ?_ ?_ | refine sp_dec ?_ ?_ | refine sp_beq ?_ ?_ | refine sp_bne ?_ ?_ | refine sp_seq ?_ ?_ | refine sp_sne ?_ ?_ | refine sp_not ?_ ?_ | refine sp_any ?_ ?_) <;> (intro hc; (try simp only [List.length_map, List.length_append, List.length_cons, List.length_nil, Bool.and_true, Bool.and_eq_true, beq_iff_eq, Bool.and_eq_false_iff, beq_eq_false_iff_ne, Bool.true_and, ne_eq] at hc); (try (exfalso; omega)))) | (with_reducible first | refine norm_one ?_ | refine norm_app ?_ | refine norm_cutEnd ?_ | refine norm_cut ?_ | refine norm_bytes1 ?_ | refine norm_bytes2 ?_ | refine norm_setByte ?_ | refine norm_int1 ?_ | refine norm_mk ?_) | (with_reducible refine bytes_mk ?_) | (refine ar_byte ?_) | (refine ar_i64 (by omega) (by omega) ?_) | (refine ar_low ?_) | (refine ix_byteN (by omega) ?_) | (refine ix_byteK (by simp only [Int.reduceToNat]; exact rfl) (by decide) (by omega) ?_) | (refine ix_byte (by omega) (by omega) ?_) | (refine ix_rfl (by decide) rfl ?_) | (refine sd_mk rfl ?_) | (refine sd_mk (by decide +kernel) ?_) | (refine sd_mk (by first | (simp only [List.length_map, List.length_append, List.length_cons, List.length_nil]; done) | ((try simp only [List.length_map, List.length_append, List.length_cons, List.length_nil, List.length_set, List.length_replicate, List.length_drop, List.length_take, true_and, and_true]); omega) | (dsimp only; omega)) ?_) | (first | refine shl8 (by omega) (by omega) ?_ | refine shl4 (by omega) (by omega) ?_ | refine shl1 (by omega) (by omega) ?_ | refine shl16 (by omega) (by omega) ?_ | refine shl24 (by omega) (by omega) ?_ | refine shr8 (by decide) ?_ | refine shr4 (by decide) ?_ | refine shr1 (by decide) ?_ | refine shr16 (by decide) ?_ | refine shr24 (by decide) ?_) | (with_reducible first | refine bit_mk and_1 ?_ | refine bit_mk and_15 ?_ | refine bit_mk and_255 ?_ | refine bit_mk and_4095 ?_ | refine bit_mk and_65535 ?_) | (refine quo_pos (by omega) (by omega) (by omega) ?_) | (refine rem_pos (by omega) (by omega) ?_)))
    have ho : oneStep one s = (.mk 4 0 [] [(one s1).1], (one s1).2) := by rw [hstep, if_neg (by assumption), if_pos hc]
    refine end_mk ?_
    (repeat' (first | (refine VS.mk ?_) | exact trivial | exact rfl | refine And.intro ?_ ?_))
    all_goals (rw [ho])
    · dsimp only; rw [exprU_mk, map1]; rfl
    · rfl
  · have q2 := at_short hsub 5 s1
    refine call_f hat [0] [0] s1 (by omega) rfl rfl ?_
    refine And.intro (VS.mk (LeL.of_eq rfl)) (And.intro (VS.mk rfl) ?_)
    (repeat' (first | (refine VS.mk ?_) | (refine dr_mk ?_) | (refine md_l ?_) | ((first | refine sp_not_dec ?_ ?_ | refine sp_dec ?_ ?_ | refine sp_beq ?_ ?_ | refine sp_bne ?_ ?_ | refine sp_seq ?_ ?_ | refine sp_sne ?_ ?_ | refine sp_not ?_ ?_ | refine sp_any ?_ ?_) <;> (intro hc; (try simp only [List.length_map, List.length_append, List.length_cons, List.length_nil, Bool.and_true, Bool.and_eq_true, beq_iff_eq, Bool.and_eq_false_iff, beq_eq_false_iff_ne, Bool.true_and, ne_eq] at hc); (try (exfalso; omega)))) | (with_reducible first | refine norm_one ?_ | refine norm_app ?_ | refine norm_cutEnd ?_ | refine norm_cut ?_ | refine norm_bytes1 ?_ | refine norm_bytes2 ?_ | refine norm_setByte ?_ | refine norm_int1 ?_ | refine norm_mk ?_) | (with_reducible refine bytes_mk ?_) | (refine ar_byte ?_) | (refine ar_i64 (by omega) (by omega) ?_) | (refine ar_low ?_) | (refine ix_byteN (by omega) ?_) | (refine ix_byteK (by simp only [Int.reduceToNat]; exact rfl) (by decide) (by omega) ?_) | (refine ix_byte (by omega) (by omega) ?_) | (refine ix_rfl (by decide) rfl ?_) | (refine sd_mk rfl ?_) | (refine sd_mk (by decide +kernel) ?_) | (refine sd_mk (by first | (simp only [List.length_map, List.length_append, List.length_cons, List.length_nil]; done) | ((try simp only [List.length_map, List.length_append, List.length_cons, List.length_nil, List.length_set, List.length_replicate, List.length_drop, List.length_take, true_and, and_true]); omega) | (dsimp only; omega)) ?_) | (first | refine shl8 (by omega) (by omega) ?_ | refine shl4 (by omega) (by omega) ?_ | refine shl1 (by omega) (by omega) ?_ | refine shl16 (by omega) (by omega) ?_ | refine shl24 (by omega) (by omega) ?_ | refine shr8 (by decide) ?_ | refine shr4 (by decide) ?_ | refine shr1 (by decide) ?_ | refine shr16 (by decide) ?_ | refine shr24 (by decide) ?_) | (with_reducible first | refine bit_mk and_1 ?_ | refine bit_mk and_15 ?_ | refine bit_mk and_255 ?_ | refine bit_mk and_4095 ?_ | refine bit_mk and_65535 ?_) | (refine quo_pos (by omega) (by omega) (by omega) ?_) | (refine rem_pos (by omega) (by omega) ?_)))
    refine call_f sign_meets [0] [0] ((atF one 5 s1).2, closes) ⟨by decide, by omega⟩ rfl rfl ?_
    refine And.intro (VS.mk (LeL.of_eq rfl)) (And.intro (VS.mk rfl) ?_)
    (repeat' (first | (refine VS.mk ?_) | (refine dr_mk ?_) | (refine md_l ?_) | ((first | refine sp_not_dec ?_ ?_ | refine sp_dec ?_ ?_ | refine sp_beq ?_ ?_ | refine sp_bne ?_ ?_ | refine sp_seq ?_ ?_ | refine sp_sne ?_ ?_ | refine sp_not ?_ ?_ | refine sp_any ?_ ?_) <;> (intro hc; (try simp only [List.length_map, List.length_append, List.length_cons, List.length_nil, Bool.and_true, Bool.and_eq_true, beq_iff_eq, Bool.and_eq_false_iff, beq_eq_false_iff_ne, Bool.true_and, ne_eq] at hc); (try (exfalso; omega)))) | (with_reducible first | refine norm_one ?_ | refine norm_app ?_ | refine norm_cutEnd ?_ | refine norm_cut ?_ | refine norm_bytes1 ?_ | refine norm_bytes2 ?_ | refine norm_setByte ?_ | refine norm_int1 ?_ | refine norm_mk ?_) | (with_reducible refine bytes_mk ?_) | (refine ar_byte ?_) | (refine ar_i64 (by omega) (by omega) ?_) | (refine ar_low ?_) | (refine ix_byteN (by omega) ?_) | (refine ix_byteK (by simp only [Int.reduceToNat]; exact rfl) (by decide) (by omega) ?_) | (refine ix_byte (by omega) (by omega) ?_) | (refine ix_rfl (by decide) rfl ?_) | (refine sd_mk rfl ?_) | (refine sd_mk (by decide +kernel) ?_) | (refine sd_mk (by first | (simp only [List.length_map, List.length_append, List.length_cons, List.length_nil]; done) | ((try simp only [List.length_map, List.length_append, List.length_cons, List.length_nil, List.length_set, List.length_replicate, List.length_drop, List.length_take, true_and, and_true]); omega) | (dsimp only; omega)) ?_) | (first | refine shl8 (by omega) (by omega) ?_ | refine shl4 (by omega) (by omega) ?_ | refine shl1 (by omega) (by omega) ?_ | refine shl16 (by omega) (by omega) ?_ | refine shl24 (by omega) (by omega) ?_ | refine shr8 (by decide) ?_ | refine shr4 (by decide) ?_ | refine shr1 (by decide) ?_ | refine shr16 (by decide) ?_ | refine shr24 (by decide) ?_) | (with_reducible first | refine bit_mk and_1 ?_ | refine bit_mk and_15 ?_ | refine bit_mk and_255 ?_ | refine bit_mk and_4095 ?_ | refine bit_mk and_65535 ?_) | (refine quo_pos (by omega) (by omega) (by omega) ?_) | (refine rem_pos (by omega) (by omega) ?_)))
    · refine call_f fail_meets [0] [0] ((signI closes (atF one 5 s1).2).2, 2) trivial rfl rfl ?_
      refine And.intro (VS.mk (LeL.of_eq rfl)) (And.intro (VS.mk rfl) ?_)
      (repeat' (first | (refine VS.mk ?_) | (refine dr_mk ?_) | (refine md_l ?_) | ((first | refine sp_not_dec ?_ ?_ | refine sp_dec ?_ ?_ | refine sp_beq ?_ ?_ | refine sp_bne ?_ ?_ | refine sp_seq ?_ ?_ | refine sp_sne ?_ ?_ | refine sp_not ?_ ?_ | refine sp_any ?_ ?_) <;> (intro hc; (try simp only [List.length_map, List.length_append, List.length_cons, List.length_nil, Bool.and_true, Bool.and_eq_true, beq_iff_eq, Bool.and_eq_false_iff, beq_eq_false_iff_ne, Bool.true_and, ne_eq] at hc); (try (exfalso; omega)))) | (with_reducible first | refine norm_one ?_ | refine norm_app ?_ | refine norm_cutEnd ?_ | refine norm_cut ?_ | refine norm_bytes1 ?_ | refine norm_bytes2 ?_ | refine norm_setByte ?_ | refine norm_int1 ?_ | refine norm_mk ?_) | (with_reducible refine bytes_mk ?_) | (refine ar_byte ?_) | (refine ar_i64 (by omega) (by omega) ?_) | (refine ar_low ?_) | (refine ix_byteN (by omega) ?_) | (refine ix_byteK (by simp only [Int.reduceToNat]; exact rfl) (by decide) (by omega) ?_) | (refine ix_byte (by omega) (by omega) ?_) | (refine ix_rfl (by decide) rfl ?_) | (refine sd_mk rfl ?_) | (refine sd_mk (by decide +kernel) ?_) | (refine sd_mk (by first | (simp only [List.length_map, List.length_append, List.length_cons, List.length_nil]; done) | ((try simp only [List.length_map, List.length_append, List.length_cons, List.length_nil, List.length_set, List.length_replicate, List.length_drop, List.length_take, true_and, and_true]); omega) | (dsimp only; omega)) ?_) | (first | refine shl8 (by omega) (by omega) ?_ | refine shl4 (by omega) (by omega) ?_ | refine shl1 (by omega) (by omega) ?_ | refine shl16 (by omega) (by omega) ?_ | refine shl24 (by omega) (by omega) ?_ | refine shr8 (by decide) ?_ | refine shr4 (by decide) ?_ | refine shr1 (by decide) ?_ | refine shr16 (by decide) ?_ | refine shr24 (by decide) ?_) | (with_reducible first | refine bit_mk and_1 ?_ | refine bit_mk and_15 ?_ | refine bit_mk and_255 ?_ | refine bit_mk and_4095 ?_ | refine bit_mk and_65535 ?_) | (refine quo_pos (by omega) (by omega) (by omega) ?_) | (refine rem_pos (by omega) (by omega) ?_)))
      have ho : oneStep one s = (noE, failS (signI closes (atF one 5 s1).2).2 2) := by rw [hstep, if_neg (by assumption), if_neg (by assumption), if_pos (by assumption)]; dsimp only; rw [if_pos hc]
      refine end_mk ?_
      (repeat' (first | (refine VS.mk ?_) | exact trivial | exact rfl | refine And.intro ?_ ?_))
      all_goals (rw [ho]; rfl)
    · have ho : oneStep one s = ((atF one 5 s1).1, (signI closes (atF one 5 s1).2).2) := by rw [hstep, if_neg (by assumption), if_neg (by assumption), if_pos (by assumption)]; dsimp only; rw [if_neg hc]
      refine end_mk ?_
      (repeat' (first | (refine VS.mk ?_) | exact trivial | exact rfl | refine And.intro ?_ ?_))
      all_goals (rw [ho]; rfl)
  · have hr : s1.rest = [] := List.eq_nil_of_length_eq_zero (by omega)
    refine call_f fail_meets [0] [0] (s1, 9) trivial rfl rfl ?_
    refine And.intro (VS.mk (LeL.of_eq rfl)) (And.intro (VS.mk rfl) ?_)
    (repeat' (first | (refine VS.mk ?_) | (refine dr_mk ?_) | (refine md_l ?_) | ((first | refine sp_not_dec ?_ ?_ | refine sp_dec ?_ ?_ | refine sp_beq ?_ ?_ | refine sp_bne ?_ ?_ | refine sp_seq ?_ ?_ | refine sp_sne ?_ ?_ | refine sp_not ?_ ?_ | refine sp_any ?_ ?_) <;> (intro hc; (try simp only [List.length_map, List.length_append, List.length_cons, List.length_nil, Bool.and_true, Bool.and_eq_true, beq_iff_eq, Bool.and_eq_false_iff, beq_eq_false_iff_ne, Bool.true_and, ne_eq] at hc); (try (exfalso; omega)))) | (with_reducible first | refine norm_one ?_ | refine norm_app ?_ | refine norm_cutEnd ?_ | refine norm_cut ?_ | refine norm_bytes1 ?_ | refine norm_bytes2 ?_ | refine norm_setByte ?_ | refine norm_int1 ?_ | refine norm_mk ?_) | (with_reducible refine bytes_mk ?_) | (refine ar_byte ?_) | (refine ar_i64 (by omega) (by omega) ?_) | (refine ar_low ?_) | (refine ix_byteN (by omega) ?_) | (refine ix_byteK (by simp only [Int.reduceToNat]; exact rfl) (by decide) (by omega) ?_) | (refine ix_byte (by omega) (by omega) ?_) | (refine ix_rfl (by decide) rfl ?_) | (refine sd_mk rfl ?_) | (refine sd_mk (by decide +kernel) ?_) | (refine sd_mk (by first | (simp only [List.length_map, List.length_append, List.length_cons, List.length_nil]; done) | ((try simp only [List.length_map, List.length_append, List.length_cons, List.length_nil, List.length_set, List.length_replicate, List.length_drop, List.length_take, true_and, and_true]); omega) | (dsimp only; omega)) ?_) | (first | refine shl8 (by omega) (by omega) ?_ | refine shl4 (by omega) (by omega) ?_ | refine shl1 (by omega) (by omega) ?_ | refine shl16 (by omega) (by omega) ?_ | refine shl24 (by omega) (by omega) ?_ | refine shr8 (by decide) ?_ | refine shr4 (by decide) ?_ | refine shr1 (by decide) ?_ | refine shr16 (by decide) ?_ | refine shr24 (by decide) ?_) | (with_reducible first | refine bit_mk and_1 ?_ | refine bit_mk and_15 ?_ | refine bit_mk and_255 ?_ | refine bit_mk and_4095 ?_ | refine bit_mk and_65535 ?_) | (refine quo_pos (by omega) (by omega) (by omega) ?_) | (refine rem_pos (by omega) (by omega) ?_)))
    have ho : oneStep one s = (noE, failS s1 9) := by rw [hstep, if_neg (by assumption), if_neg (by assumption), if_neg (by assumption)]; dsimp only; unfold tokI; rw [hr]
    refine end_mk ?_
    (repeat' (first | (refine VS.mk ?_) | exact trivial | exact rfl | refine And.intro ?_ ?_))
    all_goals (rw [ho]; rfl)
  · obtain ⟨r1, e1⟩ := s1
    cases r1 with
    | nil => exfalso; exact hc rfl
    | cons t r =>
      have ho : oneStep one s = if t.kind = 2 then (.mk 1 (signedI t.n 32) [] [], ⟨r, e1⟩)
          else if t.kind = 1 then (if nameB t.text = true then (.mk 2 0 t.text [], ⟨r, e1⟩) else (noE, failS ⟨r, e1⟩ 7))
          else (noE, failS ⟨r, e1⟩ 2) := by rw [hstep, if_neg (by assumption), if_neg (by assumption), if_neg (by assumption)]; rfl
      clear hstep hS
      (repeat' (first | (refine VS.mk ?_) | (refine dr_mk ?_) | (refine md_l ?_) | ((first | refine sp_not_dec ?_ ?_ | refine sp_dec ?_ ?_ | refine sp_beq ?_ ?_ | refine sp_bne ?_ ?_ | refine sp_seq ?_ ?_ | refine sp_sne ?_ ?_ | refine sp_not ?_ ?_ | refine sp_any ?_ ?_) <;> (intro hc; (try simp only [List.length_map, List.length_append, List.length_cons, List.length_nil, Bool.and_true, Bool.and_eq_true, beq_iff_eq, Bool.and_eq_false_iff, beq_eq_false_iff_ne, Bool.true_and, ne_eq] at hc); (try (exfalso; omega)))) | (with_reducible first | refine norm_one ?_ | refine norm_app ?_ | refine norm_cutEnd ?_ | refine norm_cut ?_ | refine norm_bytes1 ?_ | refine norm_bytes2 ?_ | refine norm_setByte ?_ | refine norm_int1 ?_ | refine norm_mk ?_) | (with_reducible refine bytes_mk ?_) | (refine ar_byte ?_) | (refine ar_i64 (by omega) (by omega) ?_) | (refine ar_low ?_) | (refine ix_byteN (by omega) ?_) | (refine ix_byteK (by simp only [Int.reduceToNat]; exact rfl) (by decide) (by omega) ?_) | (refine ix_byte (by omega) (by omega) ?_) | (refine ix_rfl (by decide) rfl ?_) | (refine sd_mk rfl ?_) | (refine sd_mk (by decide +kernel) ?_) | (refine sd_mk (by first | (simp only [List.length_map, List.length_append, List.length_cons, List.length_nil]; done) | ((try simp only [List.length_map, List.length_append, List.length_cons, List.length_nil, List.length_set, List.length_replicate, List.length_drop, List.length_take, true_and, and_true]); omega) | (dsimp only; omega)) ?_) | (first | refine shl8 (by omega) (by omega) ?_ | refine shl4 (by omega) (by omega) ?_ | refine shl1 (by omega) (by omega) ?_ | refine shl16 (by omega) (by omega) ?_ | refine shl24 (by omega) (by omega) ?_ | refine shr8 (by decide) ?_ | refine shr4 (by decide) ?_ | refine shr1 (by decide) ?_ | refine shr16 (by decide) ?_ | refine shr24 (by decide) ?_) | (with_reducible first | refine bit_mk and_1 ?_ | refine bit_mk and_15 ?_ | refine bit_mk and_255 ?_ | refine bit_mk and_4095 ?_ | refine bit_mk and_65535 ?_) | (refine quo_pos (by omega) (by omega) (by omega) ?_) | (refine rem_pos (by omega) (by omega) ?_)))
      · refine call_p signed_meets2 t.n trivial (VS.mk (LeL.of_eq rfl)) ?_
        (repeat' (first | (refine VS.mk ?_) | (refine dr_mk ?_) | (refine md_l ?_) | ((first | refine sp_not_dec ?_ ?_ | refine sp_dec ?_ ?_ | refine sp_beq ?_ ?_ | refine sp_bne ?_ ?_ | refine sp_seq ?_ ?_ | refine sp_sne ?_ ?_ | refine sp_not ?_ ?_ | refine sp_any ?_ ?_) <;> (intro hc; (try simp only [List.length_map, List.length_append, List.length_cons, List.length_nil, Bool.and_true, Bool.and_eq_true, beq_iff_eq, Bool.and_eq_false_iff, beq_eq_false_iff_ne, Bool.true_and, ne_eq] at hc); (try (exfalso; omega)))) | (with_reducible first | refine norm_one ?_ | refine norm_app ?_ | refine norm_cutEnd ?_ | refine norm_cut ?_ | refine norm_bytes1 ?_ | refine norm_bytes2 ?_ | refine norm_setByte ?_ | refine norm_int1 ?_ | refine norm_mk ?_) | (with_reducible refine bytes_mk ?_) | (refine ar_byte ?_) | (refine ar_i64 (by omega) (by omega) ?_) | (refine ar_low ?_) | (refine ix_byteN (by omega) ?_) | (refine ix_byteK (by simp only [Int.reduceToNat]; exact rfl) (by decide) (by omega) ?_) | (refine ix_byte (by omega) (by omega) ?_) | (refine ix_rfl (by decide) rfl ?_) | (refine sd_mk rfl ?_) | (refine sd_mk (by decide +kernel) ?_) | (refine sd_mk (by first | (simp only [List.length_map, List.length_append, List.length_cons, List.length_nil]; done) | ((try simp only [List.length_map, List.length_append, List.length_cons, List.length_nil, List.length_set, List.length_replicate, List.length_drop, List.length_take, true_and, and_true]); omega) | (dsimp only; omega)) ?_) | (first | refine shl8 (by omega) (by omega) ?_ | refine shl4 (by omega) (by omega) ?_ | refine shl1 (by omega) (by omega) ?_ | refine shl16 (by omega) (by omega) ?_ | refine shl24 (by omega) (by omega) ?_ | refine shr8 (by decide) ?_ | refine shr4 (by decide) ?_ | refine shr1 (by decide) ?_ | refine shr16 (by decide) ?_ | refine shr24 (by decide) ?_) | (with_reducible first | refine bit_mk and_1 ?_ | refine bit_mk and_15 ?_ | refine bit_mk and_255 ?_ | refine bit_mk and_4095 ?_ | refine bit_mk and_65535 ?_) | (refine quo_pos (by omega) (by omega) (by omega) ?_) | (refine rem_pos (by omega) (by omega) ?_)))
        rw [if_pos hc] at ho
        refine end_le (r1 := exprU (.mk 1 (signedI t.n 32) [] [])) (by rw [exprU_mk]; exact .agg (.cons (.refl _) (.cons (.refl _) (.cons (.refl _) (.cons (.nil 4) .nil))))) ?_ (Nat.le_refl _)
        refine end_mk ?_
        (repeat' (first | (refine VS.mk ?_) | exact trivial | exact rfl | refine And.intro ?_ ?_))
        all_goals (rw [ho]; rfl)
      · refine call_p name_any t.text trivial (VS.mk (LeL.of_eq rfl)) ?_
        (repeat' (first | (refine VS.mk ?_) | (refine dr_mk ?_) | (refine md_l ?_) | ((first | refine sp_not_dec ?_ ?_ | refine sp_dec ?_ ?_ | refine sp_beq ?_ ?_ | refine sp_bne ?_ ?_ | refine sp_seq ?_ ?_ | refine sp_sne ?_ ?_ | refine sp_not ?_ ?_ | refine sp_any ?_ ?_) <;> (intro hc; (try simp only [List.length_map, List.length_append, List.length_cons, List.length_nil, Bool.and_true, Bool.and_eq_true, beq_iff_eq, Bool.and_eq_false_iff, beq_eq_false_iff_ne, Bool.true_and, ne_eq] at hc); (try (exfalso; omega)))) | (with_reducible first | refine norm_one ?_ | refine norm_app ?_ | refine norm_cutEnd ?_ | refine norm_cut ?_ | refine norm_bytes1 ?_ | refine norm_bytes2 ?_ | refine norm_setByte ?_ | refine norm_int1 ?_ | refine norm_mk ?_) | (with_reducible refine bytes_mk ?_) | (refine ar_byte ?_) | (refine ar_i64 (by omega) (by omega) ?_) | (refine ar_low ?_) | (refine ix_byteN (by omega) ?_) | (refine ix_byteK (by simp only [Int.reduceToNat]; exact rfl) (by decide) (by omega) ?_) | (refine ix_byte (by omega) (by omega) ?_) | (refine ix_rfl (by decide) rfl ?_) | (refine sd_mk rfl ?_) | (refine sd_mk (by decide +kernel) ?_) | (refine sd_mk (by first | (simp only [List.length_map, List.length_append, List.length_cons, List.length_nil]; done) | ((try simp only [List.length_map, List.length_append, List.length_cons, List.length_nil, List.length_set, List.length_replicate, List.length_drop, List.length_take, true_and, and_true]); omega) | (dsimp only; omega)) ?_) | (first | refine shl8 (by omega) (by omega) ?_ | refine shl4 (by omega) (by omega) ?_ | refine shl1 (by omega) (by omega) ?_ | refine shl16 (by omega) (by omega) ?_ | refine shl24 (by omega) (by omega) ?_ | refine shr8 (by decide) ?_ | refine shr4 (by decide) ?_ | refine shr1 (by decide) ?_ | refine shr16 (by decide) ?_ | refine shr24 (by decide) ?_) | (with_reducible first | refine bit_mk and_1 ?_ | refine bit_mk and_15 ?_ | refine bit_mk and_255 ?_ | refine bit_mk and_4095 ?_ | refine bit_mk and_65535 ?_) | (refine quo_pos (by omega) (by omega) (by omega) ?_) | (refine rem_pos (by omega) (by omega) ?_)))
        · rw [if_neg (by assumption), if_pos (by assumption), if_pos hc] at ho
          refine end_le (r1 := exprU (.mk 2 0 t.text [])) (by rw [exprU_mk]; exact .agg (.cons (.refl _) (.cons (.refl _) (.cons (.refl _) (.cons (.nil 4) .nil))))) ?_ (Nat.le_refl _)
          refine end_mk ?_
          (repeat' (first | (refine VS.mk ?_) | exact trivial | exact rfl | refine And.intro ?_ ?_))
          all_goals (rw [ho]; rfl)
        · refine call_f fail_meets [0] [0] (⟨r, e1⟩, 7) trivial rfl rfl ?_
          refine And.intro (VS.mk (LeL.of_eq rfl)) (And.intro (VS.mk rfl) ?_)
          (repeat' (first | (refine VS.mk ?_) | (refine dr_mk ?_) | (refine md_l ?_) | ((first | refine sp_not_dec ?_ ?_ | refine sp_dec ?_ ?_ | refine sp_beq ?_ ?_ | refine sp_bne ?_ ?_ | refine sp_seq ?_ ?_ | refine sp_sne ?_ ?_ | refine sp_not ?_ ?_ | refine sp_any ?_ ?_) <;> (intro hc; (try simp only [List.length_map, List.length_append, List.length_cons, List.length_nil, Bool.and_true, Bool.and_eq_true, beq_iff_eq, Bool.and_eq_false_iff, beq_eq_false_iff_ne, Bool.true_and, ne_eq] at hc); (try (exfalso; omega)))) | (with_reducible first | refine norm_one ?_ | refine norm_app ?_ | refine norm_cutEnd ?_ | refine norm_cut ?_ | refine norm_bytes1 ?_ | refine norm_bytes2 ?_ | refine norm_setByte ?_ | refine norm_int1 ?_ | refine norm_mk ?_) | (with_reducible refine bytes_mk ?_) | (refine ar_byte ?_) | (refine ar_i64 (by omega) (by omega) ?_) | (refine ar_low ?_) | (refine ix_byteN (by omega) ?_) | (refine ix_byteK (by simp only [Int.reduceToNat]; exact rfl) (by decide) (by omega) ?_) | (refine ix_byte (by omega) (by omega) ?_) | (refine ix_rfl (by decide) rfl ?_) | (refine sd_mk rfl ?_) | (refine sd_mk (by decide +kernel) ?_) | (refine sd_mk (by first | (simp only [List.length_map, List.length_append, List.length_cons, List.length_nil]; done) | ((try simp only [List.length_map, List.length_append, List.length_cons, List.length_nil, List.length_set, List.length_replicate, List.length_drop, List.length_take, true_and, and_true]); omega) | (dsimp only; omega)) ?_) | (first | refine shl8 (by omega) (by omega) ?_ | refine shl4 (by omega) (by omega) ?_ | refine shl1 (by omega) (by omega) ?_ | refine shl16 (by omega) (by omega) ?_ | refine shl24 (by omega) (by omega) ?_ | refine shr8 (by decide) ?_ | refine shr4 (by decide) ?_ | refine shr1 (by decide) ?_ | refine shr16 (by decide) ?_ | refine shr24 (by decide) ?_) | (with_reducible first | refine bit_mk and_1 ?_ | refine bit_mk and_15 ?_ | refine bit_mk and_255 ?_ | refine bit_mk and_4095 ?_ | refine bit_mk and_65535 ?_) | (refine quo_pos (by omega) (by omega) (by omega) ?_) | (refine rem_pos (by omega) (by omega) ?_)))
          rw [if_neg (by assumption), if_pos hc, if_neg (by rw [(by assumption : nameB t.text = false)]; decide)] at ho
          refine end_mk ?_
          (repeat' (first | (refine VS.mk ?_) | exact trivial | exact rfl | refine And.intro ?_ ?_))
          all_goals (rw [ho]; rfl)
      · refine call_f fail_meets [0] [0] (⟨r, e1⟩, 2) trivial rfl rfl ?_
        refine And.intro (VS.mk (LeL.of_eq rfl)) (And.intro (VS.mk rfl) ?_)
        (repeat' (first | (refine VS.mk ?_) | (refine dr_mk ?_) | (refine md_l ?_) | ((first | refine sp_not_dec ?_ ?_ | refine sp_dec ?_ ?_ | refine sp_beq ?_ ?_ | refine sp_bne ?_ ?_ | refine sp_seq ?_ ?_ | refine sp_sne ?_ ?_ | refine sp_not ?_ ?_ | refine sp_any ?_ ?_) <;> (intro hc; (try simp only [List.length_map, List.length_append, List.length_cons, List.length_nil, Bool.and_true, Bool.and_eq_true, beq_iff_eq, Bool.and_eq_false_iff, beq_eq_false_iff_ne, Bool.true_and, ne_eq] at hc); (try (exfalso; omega)))) | (with_reducible first | refine norm_one ?_ | refine norm_app ?_ | refine norm_cutEnd ?_ | refine norm_cut ?_ | refine norm_bytes1 ?_ | refine norm_bytes2 ?_ | refine norm_setByte ?_ | refine norm_int1 ?_ | refine norm_mk ?_) | (with_reducible refine bytes_mk ?_) | (refine ar_byte ?_) | (refine ar_i64 (by omega) (by omega) ?_) | (refine ar_low ?_) | (refine ix_byteN (by omega) ?_) | (refine ix_byteK (by simp only [Int.reduceToNat]; exact rfl) (by decide) (by omega) ?_) | (refine ix_byte (by omega) (by omega) ?_) | (refine ix_rfl (by decide) rfl ?_) | (refine sd_mk rfl ?_) | (refine sd_mk (by decide +kernel) ?_) | (refine sd_mk (by first | (simp only [List.length_map, List.length_append, List.length_cons, List.length_nil]; done) | ((try simp only [List.length_map, List.length_append, List.length_cons, List.length_nil, List.length_set, List.length_replicate, List.length_drop, List.length_take, true_and, and_true]); omega) | (dsimp only; omega)) ?_) | (first | refine shl8 (by omega) (by omega) ?_ | refine shl4 (by omega) (by omega) ?_ | refine shl1 (by omega) (by omega) ?_ | refine shl16 (by omega) (by omega) ?_ | refine shl24 (by omega) (by omega) ?_ | refine shr8 (by decide) ?_ | refine shr4 (by decide) ?_ | refine shr1 (by decide) ?_ | refine shr16 (by decide) ?_ | refine shr24 (by decide) ?_) | (with_reducible first | refine bit_mk and_1 ?_ | refine bit_mk and_15 ?_ | refine bit_mk and_255 ?_ | refine bit_mk and_4095 ?_ | refine bit_mk and_65535 ?_) | (refine quo_pos (by omega) (by omega) (by omega) ?_) | (refine rem_pos (by omega) (by omega) ?_)))
        rw [if_neg (by assumption), if_neg (by assumption)] at ho
        refine end_mk ?_
        (repeat' (first | (refine VS.mk ?_) | exact trivial | exact rfl | refine And.intro ?_ ?_))
        all_goals (rw [ho]; rfl)
end Go.Proofs.Ytlilcfkcofafeaa

namespace Go.Proofs.Ytlilcfkcofafeaa
open Go Go.Plat
set_option linter.unusedVariables false
set_option linter.unusedSimpArgs false
set_option maxRecDepth 100000
set_option maxHeartbeats 2000000
attribute [local irreducible] NilS LookS NormM bitI BytesS NormL Arith QuoS RemS ShlS ShrS BitS CatS SplitS SideS IdxS CallS LoopEnd EndS ModeS DrawS AWP Meets
attribute [local irreducible] signedI exprD nodes OExpr.kind OExpr.n OExpr.name OExpr.kids letterB digitB kindB nameB signI oneI failS loopF

theorem one_succ (f : Nat) : oneI (f + 1) = oneStep (oneI f) := by funext s; rw [oneI]
theorem ones : ∀ f : Nat, f ≤ 7 → OneOk (7 - (f : Int)) (oneI f)
  | 0, _ => one_deep (by decide)
  | f + 1, hf => by
    have h := ones f (by omega)
    rw [one_succ]
    have e : (7 : Int) - ((f + 1 : Nat) : Int) + 1 = 7 - (f : Int) := by omega
    exact one_step (by omega) (by omega) (one_short f) (by rw [e]; exact h)
theorem at_one : AtOk 0 0 (atF (oneI 7) 5) := at_all (one_short 7) (ones 7 (by decide))

def parseI (l : List OTok) : OExpr × St := atF (oneI 7) 5 ⟨l, 0⟩
def pRes (l : List OTok) : OExpr × Int × Int := if (parseI l).2.err = 0 then ((parseI l).1, (l.length : Int) - (parseI l).2.rest.length, 0) else (noE, 0, (parseI l).2.err)
def pResD (p : OExpr × Int × Int) : D := .tup [exprU p.1, .int .i64 p.2.1, .int .i64 p.2.2]
theorem parse_short (l : List OTok) : (parseI l).2.rest.length ≤ l.length := at_short (one_short 7) 5 ⟨l, 0⟩
theorem parse_meets : Meets Try.prog n_expr_Parse (SpecP (fun l : List OTok => l.length ≤ 1000000000) (fun l => [.sl 3 (l.map tokD) none]) fun l => pResD (pRes l)) := by
  refine meets_f tabOk Try.func4 rfl (by decide) ?_
  intro l hl
  refine ⟨Nat.le_refl _, by simp [Try.f4], fun E hE => ?_⟩
  refine vcOk _ ?_
  (repeat' (first | (refine VS.mk ?_) | (refine dr_mk ?_) | (refine md_l ?_) | ((first | refine sp_not_dec ?_ ?_ | refine sp_dec ?_ ?_ | refine sp_beq ?_ ?_ | refine sp_bne ?_ ?_ | refine sp_seq ?_ ?_ | refine sp_sne ?_ ?_ | refine sp_not ?_ ?_ | refine sp_any ?_ ?_) <;> (intro hc; (try simp only [List.length_map, List.length_append, List.length_cons, List.length_nil, Bool.and_true, Bool.and_eq_true, beq_iff_eq, Bool.and_eq_false_iff, beq_eq_false_iff_ne, Bool.true_and, ne_eq] at hc); (try (exfalso; omega)))) | (with_reducible first | refine norm_one ?_ | refine norm_app ?_ | refine norm_cutEnd ?_ | refine norm_cut ?_ | refine norm_bytes1 ?_ | refine norm_bytes2 ?_ | refine norm_setByte ?_ | refine norm_int1 ?_ | refine norm_mk ?_) | (with_reducible refine bytes_mk ?_) | (refine ar_byte ?_) | (refine ar_i64 (by omega) (by omega) ?_) | (refine ar_low ?_) | (refine ix_byteN (by omega) ?_) | (refine ix_byteK (by simp only [Int.reduceToNat]; exact rfl) (by decide) (by omega) ?_) | (refine ix_byte (by omega) (by omega) ?_) | (refine ix_rfl (by decide) rfl ?_) | (refine sd_mk rfl ?_) | (refine sd_mk (by decide +kernel) ?_) | (refine sd_mk (by first | (simp only [List.length_map, List.length_append, List.length_cons, List.length_nil]; done) | ((try simp only [List.length_map, List.length_append, List.length_cons, List.length_nil, List.length_set, List.length_replicate, List.length_drop, List.length_take, true_and, and_true]); omega) | (dsimp only; omega)) ?_) | (first | refine shl8 (by omega) (by omega) ?_ | refine shl4 (by omega) (by omega) ?_ | refine shl1 (by omega) (by omega) ?_ | refine shl16 (by omega) (by omega) ?_ | refine shl24 (by omega) (by omega) ?_ | refine shr8 (by decide) ?_ | refine shr4 (by decide) ?_ | refine shr1 (by decide) ?_ | refine shr16 (by decide) ?_ | refine shr24 (by decide) ?_) | (with_reducible first | refine bit_mk and_1 ?_ | refine bit_mk and_15 ?_ | refine bit_mk and_255 ?_ | refine bit_mk and_4095 ?_ | refine bit_mk and_65535 ?_) | (refine quo_pos (by omega) (by omega) (by omega) ?_) | (refine rem_pos (by omega) (by omega) ?_)))
  refine call_f at_one [1] [1] ⟨l, 0⟩ hl rfl rfl ?_
  refine And.intro (VS.mk (LeL.of_eq rfl)) (And.intro (VS.mk rfl) ?_)
  have hq := parse_short l
  have hp : pRes l = if (parseI l).2.err = 0 then ((parseI l).1, (l.length : Int) - (parseI l).2.rest.length, 0) else (noE, 0, (parseI l).2.err) := rfl
  have hx : atF (oneI 7) 5 ⟨l, 0⟩ = parseI l := rfl
  rw [hx]
  generalize parseI l = T at *
  obtain ⟨e, r, er⟩ := T
  have hq : r.length ≤ l.length := hq
  (repeat' (first | (refine VS.mk ?_) | (refine dr_mk ?_) | (refine md_l ?_) | ((first | refine sp_not_dec ?_ ?_ | refine sp_dec ?_ ?_ | refine sp_beq ?_ ?_ | refine sp_bne ?_ ?_ | refine sp_seq ?_ ?_ | refine sp_sne ?_ ?_ | refine sp_not ?_ ?_ | refine sp_any ?_ ?_) <;> (intro hc; (try simp only [List.length_map, List.length_append, List.length_cons, List.length_nil, Bool.and_true, Bool.and_eq_true, beq_iff_eq, Bool.and_eq_false_iff, beq_eq_false_iff_ne, Bool.true_and, ne_eq] at hc); (try (exfalso; omega)))) | (with_reducible first | refine norm_one ?_ | refine norm_app ?_ | refine norm_cutEnd ?_ | refine norm_cut ?_ | refine norm_bytes1 ?_ | refine norm_bytes2 ?_ | refine norm_setByte ?_ | refine norm_int1 ?_ | refine norm_mk ?_) | (with_reducible refine bytes_mk ?_) | (refine ar_byte ?_) | (refine ar_i64 (by omega) (by omega) ?_) | (refine ar_low ?_) | (refine ix_byteN (by omega) ?_) | (refine ix_byteK (by simp only [Int.reduceToNat]; exact rfl) (by decide) (by omega) ?_) | (refine ix_byte (by omega) (by omega) ?_) | (refine ix_rfl (by decide) rfl ?_) | (refine sd_mk rfl ?_) | (refine sd_mk (by decide +kernel) ?_) | (refine sd_mk (by first | (simp only [List.length_map, List.length_append, List.length_cons, List.length_nil]; done) | ((try simp only [List.length_map, List.length_append, List.length_cons, List.length_nil, List.length_set, List.length_replicate, List.length_drop, List.length_take, true_and, and_true]); omega) | (dsimp only; omega)) ?_) | (first | refine shl8 (by omega) (by omega) ?_ | refine shl4 (by omega) (by omega) ?_ | refine shl1 (by omega) (by omega) ?_ | refine shl16 (by omega) (by omega) ?_ | refine shl24 (by omega) (by omega) ?_ | refine shr8 (by decide) ?_ | refine shr4 (by decide) ?_ | refine shr1 (by decide) ?_ | refine shr16 (by decide) ?_ | refine shr24 (by decide) ?_) | (with_reducible first | refine bit_mk and_1 ?_ | refine bit_mk and_15 ?_ | refine bit_mk and_255 ?_ | refine bit_mk and_4095 ?_ | refine bit_mk and_65535 ?_) | (refine quo_pos (by omega) (by omega) (by omega) ?_) | (refine rem_pos (by omega) (by omega) ?_)))
  · rw [hp, if_neg hc]
    exact end_p (VS.mk (.tup (.cons noE_le (.cons (.refl _) (.cons (.refl _) .nil)))))
  · rw [hp, if_pos hc]
    refine end_p (VS.mk (LeD.of_eq ?_))
    show D.tup [.agg [.int .i64 e.kind, .int .i64 e.n, .str e.name, .sl 4 (e.kids.map exprD) none], .int .i64 _, .int .i64 0] = .tup [exprU e, _, _]
    cases e
    rw [exprU_mk, mk_kind, mk_n, mk_name, mk_kids]
end Go.Proofs.Ytlilcfkcofafeaa

namespace Go.Proofs.Ytlilcfkcofafeaa
open Go Go.Plat
set_option linter.unusedVariables false
set_option linter.unusedSimpArgs false
set_option maxRecDepth 100000
set_option maxHeartbeats 2000000
attribute [local irreducible] NilS LookS NormM bitI BytesS NormL Arith QuoS RemS ShlS ShrS BitS CatS SplitS SideS IdxS CallS LoopEnd EndS ModeS DrawS AWP Meets
attribute [local irreducible] signedI exprD nodes OExpr.kind OExpr.n OExpr.name OExpr.kids letterB digitB kindB nameB

def hS (L : List OTok) (s : RSt) : St := ⟨L.drop s.at_, s.errs.headD 0⟩
def Okk (s : RSt) : Prop := s.errs = [] ∨ s.errs.headD 0 ≠ 0
def Sim (L : List OTok) (f : St → OExpr × St) (F : RSt → OExpr × RSt) : Prop := ∀ s, s.errs = [] → s.at_ ≤ L.length → f (hS L s) = ((F s).1, hS L (F s).2) ∧ Okk (F s).2
def Stuck (L : List OTok) (least : Int) (s : RSt) : Prop := s.errs = [] → strT (rsign L s) < least

theorem err_h {L : List OTok} {s : RSt} (h : Okk s) : (hS L s).err = 0 ↔ s.errs = [] := by
  constructor
  · intro h1
    rcases h with h | h
    · exact h
    · exact absurd h1 h
  · intro h1; show s.errs.headD 0 = 0; rw [h1]; rfl
theorem fail_h {L : List OTok} {s : RSt} {e : Int} (h : Okk s) (he : e ≠ 0) : failS (hS L s) e = hS L (rbad s e) ∧ Okk (rbad s e) := by
  obtain ⟨a, errs⟩ := s
  cases errs with
  | nil => exact ⟨rfl, .inr he⟩
  | cons x l =>
    have hx : x ≠ 0 := by rcases h with h | h; · cases h
                          · exact h
    refine ⟨?_, .inr hx⟩
    unfold failS
    exact if_neg hx
theorem idx_nil : ∀ (l : List (List UInt8)) (k : Nat), (∀ x ∈ l, x ≠ []) → idxT [] l k = -1
  | [], _, _ => rfl
  | x :: l, k, h => by
    rw [idxT, if_neg (fun h0 => h x (by simp) h0.symm)]
    exact idx_nil l (k + 1) fun y hy => h y (by simp [hy])
theorem sign_h {L : List OTok} {l : List (List UInt8)} (hl : ∀ x ∈ l, x ≠ []) (s : RSt) : signI l (hS L s) = if 0 ≤ idxT (rsign L s) l 0 then (idxT (rsign L s) l 0, hS L (rnext s)) else (-1, hS L s) := by
  have hn := idx_nil l 0 hl
  cases ht : L[s.at_]? with
  | none =>
    have hr : rsign L s = [] := by unfold rsign; rw [ht]
    have h1 : L.length ≤ s.at_ := by rcases Nat.lt_or_ge s.at_ L.length with h | h
                                     · rw [List.getElem?_eq_getElem h] at ht; cases ht
                                     · exact h
    have hh : hS L s = ⟨[], s.errs.headD 0⟩ := by unfold hS; rw [List.drop_of_length_le h1]
    rw [hr, hn, if_neg (by decide), hh]
    rfl
  | some t =>
    have hr : rsign L s = if t.kind = 3 then t.text else [] := by unfold rsign; rw [ht]
    obtain ⟨h1, h2⟩ := List.getElem?_eq_some_iff.1 ht
    have hh : hS L s = ⟨t :: L.drop (s.at_ + 1), s.errs.headD 0⟩ := by unfold hS; rw [List.drop_eq_getElem_cons h1, h2]
    have h3 : signI l (hS L s) = if t.kind = 3 then (if 0 ≤ idxT t.text l 0 then (idxT t.text l 0, hS L (rnext s)) else (-1, hS L s)) else (-1, hS L s) := by rw [hh]; rfl
    rw [h3]
    by_cases hk : t.kind = 3
    · rw [if_pos hk] at hr ⊢; rw [hr]
    · rw [if_neg hk] at hr ⊢; rw [hr, hn, if_neg (by decide)]
theorem signs_ne (k : Nat) : ∀ x ∈ signs k, x ≠ [] := by
  unfold signs
  split <;> decide
theorem lev_str (k : Nat) (hk : k < 5) (t : List UInt8) : (0 ≤ idxT t (signs k) 0 ↔ strT t = (k : Int) + 1) ∧ (strT t = (k : Int) + 1 → kindOf k (idxT t (signs k) 0) = kndT t) := by
  by_cases h1 : t = [124]
  · subst h1; match k, hk with | 0, _ => decide | 1, _ => decide | 2, _ => decide | 3, _ => decide | 4, _ => decide
  by_cases h2 : t = [38]
  · subst h2; match k, hk with | 0, _ => decide | 1, _ => decide | 2, _ => decide | 3, _ => decide | 4, _ => decide
  by_cases h3 : t = [60, 60]
  · subst h3; match k, hk with | 0, _ => decide | 1, _ => decide | 2, _ => decide | 3, _ => decide | 4, _ => decide
  by_cases h4 : t = [62, 62]
  · subst h4; match k, hk with | 0, _ => decide | 1, _ => decide | 2, _ => decide | 3, _ => decide | 4, _ => decide
  by_cases h5 : t = [43]
  · subst h5; match k, hk with | 0, _ => decide | 1, _ => decide | 2, _ => decide | 3, _ => decide | 4, _ => decide
  by_cases h6 : t = [45]
  · subst h6; match k, hk with | 0, _ => decide | 1, _ => decide | 2, _ => decide | 3, _ => decide | 4, _ => decide
  by_cases h7 : t = [42]
  · subst h7; match k, hk with | 0, _ => decide | 1, _ => decide | 2, _ => decide | 3, _ => decide | 4, _ => decide
  have hs : strT t = 0 := by unfold strT; simp [*]
  have hi : ∀ k, k < 5 → idxT t (signs k) 0 = -1 := by
    intro k hk
    match k, hk with
    | 0, _ => simp [signs, idxT, *]
    | 1, _ => simp [signs, idxT, *]
    | 2, _ => simp [signs, idxT, *]
    | 3, _ => simp [signs, idxT, *]
    | 4, _ => simp [signs, idxT, *]
  rw [hs, hi k hk]
  constructor
  · constructor
    · intro h; exact absurd h (by decide)
    · intro h; omega
  · intro h; omega

theorem rloop_fuel {L : List OTok} {m : Nat} {least : Int} {sub : Int → RSt → OExpr × RSt} (hl : 1 ≤ least) (hs : ∀ k, least < k → Fwd L m (sub k)) : ∀ (n : Nat) (e : OExpr) (s : RSt) (n2 : Nat), s.at_ ≤ L.length → L.length < s.at_ + n → L.length < s.at_ + n2 →
    rloopF L least sub n e s = rloopF L least sub n2 e s
  | 0, e, s, n2, h1, h2, h3 => absurd h1 (by omega)
  | n + 1, e, s, n2, h1, h2, h3 => by
    by_cases he : s.errs = []
    · by_cases hst : strT (rsign L s) < least
      · rw [rloop_break hst, rloop_break hst]
      · obtain ⟨n2, rfl⟩ : ∃ q, n2 = q + 1 := ⟨n2 - 1, by omega⟩
        have hin := str_in (L := L) (s := s) (by omega)
        obtain ⟨a1, a2, a3⟩ := hs (strT (rsign L s) + 1) (by omega) (rnext s) he hin
        have a1 : s.at_ + 1 ≤ _ := a1
        rw [rloop_go he hst, rloop_go he hst]
        exact rloop_fuel hl hs n _ _ n2 a2 (by omega) (by omega)
    · rw [rloop_stop he, rloop_stop he]
theorem rloop_split {L : List OTok} {m : Nat} {least : Int} {sub : Int → RSt → OExpr × RSt} (hl : 1 ≤ least) (hs : ∀ k, least < k → Fwd L m (sub k)) : ∀ (n : Nat) (e : OExpr) (s : RSt) (n2 n3 : Nat), s.at_ ≤ L.length → L.length < s.at_ + n → L.length < s.at_ + n2 → L.length < s.at_ + n3 →
    rloopF L least sub n e s = rloopF L least sub n2 (rloopF L (least + 1) sub n3 e s).1 (rloopF L (least + 1) sub n3 e s).2
  | 0, e, s, n2, n3, h1, h2, h3, h4 => absurd h1 (by omega)
  | n + 1, e, s, n2, n3, h1, h2, h3, h4 => by
    by_cases he : s.errs = []
    · by_cases hst : strT (rsign L s) < least + 1
      · rw [rloop_break hst]
        exact rloop_fuel hl hs (n + 1) e s n2 h1 h2 h3
      · obtain ⟨n3, rfl⟩ : ∃ q, n3 = q + 1 := ⟨n3 - 1, by omega⟩
        have hin := str_in (L := L) (s := s) (by omega)
        obtain ⟨a1, a2, a3⟩ := hs (strT (rsign L s) + 1) (by omega) (rnext s) he hin
        have a1 : s.at_ + 1 ≤ _ := a1
        rw [rloop_go he hst, rloop_go he (by omega)]
        exact rloop_split hl hs n _ _ n2 n3 a2 (by omega) (by omega) (by omega)
    · rw [rloop_stop he, rloop_stop he, rloop_stop he]
theorem rloop_stuck {L : List OTok} {m : Nat} {least : Int} {sub : Int → RSt → OExpr × RSt} (hl : 1 ≤ least) (hs : ∀ k, least < k → Fwd L m (sub k)) : ∀ (n : Nat) (e : OExpr) (s : RSt), s.at_ ≤ L.length → L.length < s.at_ + n → Stuck L least (rloopF L least sub n e s).2
  | 0, e, s, h1, h2 => absurd h1 (by omega)
  | n + 1, e, s, h1, h2 => by
    by_cases he : s.errs = []
    · by_cases hst : strT (rsign L s) < least
      · rw [rloop_break hst]; exact fun _ => hst
      · have hin := str_in (L := L) (s := s) (by omega)
        obtain ⟨a1, a2, a3⟩ := hs (strT (rsign L s) + 1) (by omega) (rnext s) he hin
        have a1 : s.at_ + 1 ≤ _ := a1
        rw [rloop_go he hst]
        exact rloop_stuck hl hs n _ _ a2 (by omega)
    · rw [rloop_stop he]; exact fun h => absurd h he
theorem climb_stuck {L : List OTok} {m : Nat} {prime : RSt → OExpr × RSt} (hp : Fwd L m prime) {g : Nat} {least : Int} (h1 : 1 ≤ least) (h2 : 6 - least ≤ g) {s : RSt} (hs1 : s.errs = []) (hs2 : s.at_ ≤ L.length) : Stuck L least (climbF L prime g least s).2 := by
  cases g with
  | zero => intro _; have := (str_bd (rsign L (climbF L prime 0 least s).2)).2; omega
  | succ g =>
    obtain ⟨a1, a2, a3⟩ := hp s hs1 hs2
    rw [climbF]
    exact rloop_stuck h1 (fun k hk => climb_fwd hp g k (by omega)) _ _ _ a2 (by omega)
theorem climb_6 {L : List OTok} {prime : RSt → OExpr × RSt} (g : Nat) (s : RSt) : climbF L prime g 6 s = prime s := by
  cases g with
  | zero => rw [climbF]
  | succ g => rw [climbF, rloop_break (by have := (str_bd (rsign L (prime s).2)).2; omega)]

theorem loop_sim {L : List OTok} {k m : Nat} {subI : St → OExpr × St} {sub : Int → RSt → OExpr × RSt} (hk : k < 5) (hsim : Sim L subI (sub ((k : Int) + 2))) (hfw : Fwd L m (sub ((k : Int) + 2)))
    (hstk : ∀ s, s.errs = [] → s.at_ ≤ L.length → Stuck L ((k : Int) + 2) (sub ((k : Int) + 2) s).2) : ∀ (n : Nat) (e : OExpr) (s : RSt) (n2 : Nat), Okk s → s.at_ ≤ L.length → Stuck L ((k : Int) + 2) s → L.length < s.at_ + n → L.length < s.at_ + n2 →
    loopF k subI n2 e (hS L s) = ((rloopF L ((k : Int) + 1) sub n e s).1, hS L (rloopF L ((k : Int) + 1) sub n e s).2) ∧ Okk (rloopF L ((k : Int) + 1) sub n e s).2
  | 0, e, s, n2, hok, h1, hsk, h2, h3 => absurd h1 (by omega)
  | n + 1, e, s, n2, hok, h1, hsk, h2, h3 => by
    obtain ⟨n2, rfl⟩ : ∃ q, n2 = q + 1 := ⟨n2 - 1, by omega⟩
    by_cases he : s.errs = []
    · have he2 : (hS L s).err = 0 := (err_h hok).2 he
      have hsg := sign_h (L := L) (signs_ne k) s
      obtain ⟨l1, l2⟩ := lev_str k hk (rsign L s)
      have h5 := hsk he
      by_cases hst : strT (rsign L s) < (k : Int) + 1
      · have hng : ¬ 0 ≤ idxT (rsign L s) (signs k) 0 := fun h => by have := l1.1 h; omega
        rw [if_neg hng] at hsg
        rw [loop_break he2 (by rw [hsg]; exact (by decide : (-1 : Int) < 0)), rloop_break hst, hsg]
        exact ⟨rfl, hok⟩
      · have hEq : strT (rsign L s) = (k : Int) + 1 := by omega
        have hng : 0 ≤ idxT (rsign L s) (signs k) 0 := l1.2 hEq
        rw [if_pos hng] at hsg
        have hin := str_in (L := L) (s := s) (by omega)
        have hsub : sub (strT (rsign L s) + 1) = sub ((k : Int) + 2) := by rw [hEq, show (k : Int) + 1 + 1 = (k : Int) + 2 by omega]
        obtain ⟨a1, a2, a3⟩ := hfw (rnext s) he hin
        have a1 : s.at_ + 1 ≤ _ := a1
        obtain ⟨b1, b2⟩ := hsim (rnext s) he hin
        rw [loop_go he2 (by rw [hsg]; omega), rloop_go he hst, hsg, hsub, l2 hEq]
        dsimp only
        rw [b1]
        exact loop_sim hk hsim hfw hstk n _ _ n2 b2 a2 (hstk _ he hin) (by omega) (by omega)
    · rw [loop_stop (fun h => he ((err_h hok).1 h)), rloop_stop he]
      exact ⟨rfl, hok⟩

theorem level_sim {L : List OTok} {m : Nat} {one : St → OExpr × St} {prime : RSt → OExpr × RSt} (hf : Fwd L m prime) (hs : Sim L one prime) : ∀ (j g : Nat), j ≤ 5 → j ≤ g → Sim L (atF one j) (climbF L prime g (6 - (j : Int)))
  | 0, g, _, _ => fun s h1 h2 => by
    have := climb_6 (L := L) (prime := prime) g s
    rw [show (6 : Int) - ((0 : Nat) : Int) = 6 from rfl, this]
    exact hs s h1 h2
  | j + 1, g, hj, hg => fun s h1 h2 => by
    obtain ⟨g, rfl⟩ : ∃ q, g = q + 1 := ⟨g - 1, by omega⟩
    have i1 := level_sim hf hs j g (by omega) (by omega)
    have i2 := level_sim hf hs j (g + 1) (by omega) (by omega)
    have e1 : (6 : Int) - ((j + 1 : Nat) : Int) = ((4 - j : Nat) : Int) + 1 := by omega
    have e2 : (6 : Int) - (j : Int) = ((4 - j : Nat) : Int) + 2 := by omega
    rw [e1]
    rw [e2] at i1 i2
    have hk : 4 - j < 5 := by omega
    generalize hkk : 4 - j = k at *
    have hfs : ∀ q : Int, 1 ≤ q → Fwd L m (climbF L prime g q) := fun q hq => climb_fwd hf g q hq
    obtain ⟨a1, a2, a3⟩ := hf s h1 h2
    obtain ⟨c1, c2⟩ := i2 s h1 h2
    obtain ⟨d1, d2, d3⟩ := climb_fwd hf (g + 1) ((k : Int) + 2) (by omega) s h1 h2
    have hsp := rloop_split (L := L) (least := (k : Int) + 1) (sub := climbF L prime g) (by omega) (fun q hq => hfs q (by omega)) (L.length + 1 - (prime s).2.at_) (prime s).1 (prime s).2 (L.length + 1) (L.length + 1 - (prime s).2.at_) a2 (by omega) (by omega) (by omega)
    have e3 : (k : Int) + 1 + 1 = (k : Int) + 2 := by omega
    have hc2 : rloopF L ((k : Int) + 2) (climbF L prime g) (L.length + 1 - (prime s).2.at_) (prime s).1 (prime s).2 = climbF L prime (g + 1) ((k : Int) + 2) s := by rw [climbF]
    rw [e3, hc2] at hsp
    have hc1 : climbF L prime (g + 1) ((k : Int) + 1) s = rloopF L ((k : Int) + 1) (climbF L prime g) (L.length + 1 - (prime s).2.at_) (prime s).1 (prime s).2 := by rw [climbF]
    have hat : atF one (j + 1) (hS L s) = loopF k (atF one j) ((atF one j (hS L s)).2.rest.length + 1) (atF one j (hS L s)).1 (atF one j (hS L s)).2 := by rw [atF, hkk]; rfl
    rw [hat, hc1, hsp, c1]
    dsimp only
    refine loop_sim (m := m) hk i1 (hfs _ (by omega)) (fun s' q1 q2 => climb_stuck hf (by omega) (by omega) q1 q2) _ _ _ _ c2 d2 (climb_stuck hf (by omega) (by omega) h1 h2) (by omega) ?_
    show L.length < _ + ((L.drop _).length + 1)
    rw [List.length_drop]; omega

theorem tok_sim {L : List OTok} : Sim L tokI (rtok L) := fun s h1 h2 => by
  have hok : Okk s := .inl h1
  have hok2 : Okk (rnext s) := .inl h1
  unfold rtok
  cases ht : L[s.at_]? with
  | none =>
    have h3 : L.length ≤ s.at_ := by rcases Nat.lt_or_ge s.at_ L.length with h | h
                                     · rw [List.getElem?_eq_getElem h] at ht; cases ht
                                     · exact h
    have hr : (hS L s).rest = [] := List.drop_of_length_le h3
    have : tokI (hS L s) = (noE, failS (hS L s) 9) := by unfold tokI; rw [hr]
    rw [this]
    obtain ⟨f1, f2⟩ := fail_h (L := L) hok (show (9 : Int) ≠ 0 by decide)
    exact ⟨by rw [f1], f2⟩
  | some t =>
    obtain ⟨h3, h4⟩ := List.getElem?_eq_some_iff.1 ht
    have hr : hS L s = ⟨t :: L.drop (s.at_ + 1), s.errs.headD 0⟩ := by unfold hS; rw [List.drop_eq_getElem_cons h3, h4]
    have hn : (⟨L.drop (s.at_ + 1), s.errs.headD 0⟩ : St) = hS L (rnext s) := rfl
    have : tokI (hS L s) = if t.kind = 2 then (.mk 1 (signedI t.n 32) [] [], hS L (rnext s))
      else if t.kind = 1 then (if nameB t.text = true then (.mk 2 0 t.text [], hS L (rnext s)) else (noE, failS (hS L (rnext s)) 7))
      else (noE, failS (hS L (rnext s)) 2) := by rw [hr]; rfl
    rw [this]
    dsimp only
    by_cases k2 : t.kind = 2
    · rw [if_pos k2, if_pos k2]; exact ⟨rfl, hok2⟩
    by_cases k1 : t.kind = 1
    · by_cases kn : nameB t.text = true
      · rw [if_neg k2, if_pos k1, if_pos kn, if_neg k2, if_pos k1, if_pos kn]; exact ⟨rfl, hok2⟩
      · rw [if_neg k2, if_pos k1, if_neg kn, if_neg k2, if_pos k1, if_neg kn]
        obtain ⟨f1, f2⟩ := fail_h (L := L) hok2 (show (7 : Int) ≠ 0 by decide)
        exact ⟨by rw [f1], f2⟩
    · rw [if_neg k2, if_neg k1, if_neg k2, if_neg k1]
      obtain ⟨f1, f2⟩ := fail_h (L := L) hok2 (show (2 : Int) ≠ 0 by decide)
      exact ⟨by rw [f1], f2⟩

theorem opens_ix (t : List UInt8) : (idxT t opens 0 = 0 ↔ t = [45]) ∧ (idxT t opens 0 = 1 ↔ t = [126]) ∧ (idxT t opens 0 = 2 ↔ t = [40]) ∧ (t ≠ [45] → t ≠ [126] → t ≠ [40] → idxT t opens 0 = -1) := by
  by_cases h1 : t = [45]
  · subst h1; decide
  by_cases h2 : t = [126]
  · subst h2; decide
  by_cases h3 : t = [40]
  · subst h3; decide
  simp [opens, idxT, *]
theorem closes_ix (t : List UInt8) : idxT t closes 0 = if t = [41] then 0 else -1 := rfl
theorem opens_ne : ∀ x ∈ opens, x ≠ [] := by decide
theorem closes_ne : ∀ x ∈ closes, x ≠ [] := by decide

theorem step_sim {L : List OTok} {m : Nat} {one : St → OExpr × St} {prime : RSt → OExpr × RSt} (hf : Fwd L m prime) (hs : Sim L one prime) : Sim L (oneStep one) (primeStep L prime) := fun s h1 h2 => by
  have hsg := sign_h (L := L) opens_ne s
  obtain ⟨o1, o2, o3, o4⟩ := opens_ix (rsign L s)
  have hl := level_sim hf hs 5 5 (by decide) (by decide)
  have hcf := climb_fwd hf 5 1 (by decide)
  have hin : rsign L s ≠ [] → s.at_ < L.length := rsign_in
  unfold oneStep primeStep
  by_cases k1 : rsign L s = [45]
  · have hi := o1.2 k1
    rw [if_pos (by rw [hi]; decide), hi] at hsg
    obtain ⟨a1, a2⟩ := hs (rnext s) h1 (hin (by rw [k1]; decide))
    rw [hsg, if_pos k1]
    dsimp only
    rw [if_pos rfl, a1]
    exact ⟨rfl, a2⟩
  by_cases k2 : rsign L s = [126]
  · have hi := o2.2 k2
    rw [if_pos (by rw [hi]; decide), hi] at hsg
    obtain ⟨a1, a2⟩ := hs (rnext s) h1 (hin (by rw [k2]; decide))
    rw [hsg, if_neg k1, if_pos k2]
    dsimp only
    rw [if_neg (by decide), if_pos rfl, a1]
    exact ⟨rfl, a2⟩
  by_cases k3 : rsign L s = [40]
  · have hi := o3.2 k3
    rw [if_pos (by rw [hi]; decide), hi] at hsg
    have hin' := hin (by rw [k3]; decide)
    obtain ⟨a1, a2⟩ := hl (rnext s) h1 hin'
    obtain ⟨b1, b2, b3⟩ := hcf (rnext s) h1 hin'
    rw [show (6 : Int) - ((5 : Nat) : Int) = 1 from rfl] at a1 a2
    rw [hsg, if_neg k1, if_neg k2, if_pos k3]
    dsimp only
    rw [if_neg (by decide), if_neg (by decide), if_pos rfl, a1]
    dsimp only
    have hcl := sign_h (L := L) closes_ne (climbF L prime 5 1 (rnext s)).2
    rw [closes_ix] at hcl
    by_cases k4 : rsign L (climbF L prime 5 1 (rnext s)).2 = [41]
    · rw [if_pos k4, if_pos (by decide)] at hcl
      rw [hcl, if_pos k4]
      exact ⟨rfl, a2⟩
    · rw [if_neg k4, if_neg (by decide)] at hcl
      rw [hcl, if_neg k4]
      obtain ⟨f1, f2⟩ := fail_h (L := L) a2 (show (2 : Int) ≠ 0 by decide)
      dsimp only
      rw [if_pos (by decide), f1]
      exact ⟨rfl, f2⟩
  · have hi := o4 k1 k2 k3
    rw [if_neg (by rw [hi]; decide)] at hsg
    rw [hsg, if_neg k1, if_neg k2, if_neg k3]
    dsimp only
    rw [if_neg (by decide), if_neg (by decide), if_neg (by decide)]
    exact tok_sim s h1 h2

theorem one_sim {L : List OTok} : ∀ f : Nat, Sim L (oneI f) (primeF L f)
  | 0 => fun s h1 h2 => by
    rw [oneI, primeF]
    obtain ⟨f1, f2⟩ := fail_h (L := L) (s := s) (.inl h1) (show (10 : Int) ≠ 0 by decide)
    exact ⟨by rw [f1], f2⟩
  | f + 1 => by
    have h := one_sim (L := L) f
    rw [one_succ, prime_succ]
    exact step_sim (prime_fwd f) h

theorem res_eq (L : List OTok) : pRes L = rpRes L := by
  have h := level_sim (L := L) (prime_fwd 7) (one_sim 7) 5 5 (by decide) (by decide) ⟨0, []⟩ rfl (Nat.zero_le _)
  rw [show (6 : Int) - ((5 : Nat) : Int) = 1 from rfl] at h
  have h0 : hS L ⟨0, []⟩ = ⟨L, 0⟩ := rfl
  rw [h0] at h
  obtain ⟨h1, h2⟩ := h
  have h1 : parseI L = ((rparseI L).1, hS L (rparseI L).2) := h1
  have h2 : Okk (rparseI L).2 := h2
  obtain ⟨b1, b2, b3⟩ := climb_fwd (prime_fwd (L := L) 7) 5 1 (by decide) ⟨0, []⟩ rfl (Nat.zero_le _)
  have b2 : (rparseI L).2.at_ ≤ L.length := b2
  unfold pRes rpRes
  rw [h1]
  dsimp only
  by_cases he : (rparseI L).2.errs = []
  · rw [if_pos he, if_pos ((err_h h2).2 he)]
    have : (L.length : Int) - ((hS L (rparseI L).2).rest.length : Int) = ((rparseI L).2.at_ : Int) := by
      show (L.length : Int) - (((L.drop (rparseI L).2.at_).length : Nat) : Int) = _
      rw [List.length_drop]; omega
    rw [this]
  · rw [if_neg he, if_neg (fun h => he ((err_h h2).1 h))]
    rfl
end Go.Proofs.Ytlilcfkcofafeaa

namespace Go.Proofs.Ytlilcfkcofafeaa
open Go Go.Plat
set_option linter.unusedVariables false
set_option linter.unusedSimpArgs false
set_option maxRecDepth 100000
set_option maxHeartbeats 2000000
attribute [local irreducible] NilS LookS NormM bitI BytesS NormL Arith QuoS RemS ShlS ShrS BitS CatS SplitS SideS IdxS CallS LoopEnd EndS ModeS DrawS AWP Meets

structure OVal where
  name : List UInt8
  n : Int
  deriving DecidableEq
structure OEqu where
  name : List UInt8
  n : Int
def valD (v : OVal) : D := .agg [.str v.name, .int .i64 v.n]
def equD (v : OEqu) : D := .agg [.str v.name, .int .i64 v.n]
def numV (k a b : Int) : Int :=
  if k = 5 then signedI (a * b) 32 else if k = 6 then signedI (a + b) 32 else if k = 7 then signedI (a - b) 32
  else if k = 8 then signedI (a * 2 ^ (b % 32).toNat) 32 else if k = 9 then signedI (a % 4294967296 / 2 ^ (b % 32).toNat) 32
  else if k = 10 then signedI (bitI .and .i64 a b) 32 else if k = 11 then signedI (bitI .or .i64 a b) 32 else signedI a 32
def S32 (n : Int) : Prop := -2147483648 ≤ n ∧ n ≤ 2147483647
theorem signed_eq (n : Int) : signedI n 32 = if n % 4294967296 / 2147483648 = 1 then n % 4294967296 - 4294967296 else n % 4294967296 := rfl
theorem signed_s32 (n : Int) : S32 (signedI n 32) := by
  rw [signed_eq]; unfold S32
  split <;> omega
theorem signed_same {n : Int} (h : S32 n) : signedI n 32 = n := by
  obtain ⟨h1, h2⟩ := h
  rw [signed_eq]
  split <;> omega
theorem signed_cong {m n : Int} (h : m % 4294967296 = n % 4294967296) : signedI m 32 = signedI n 32 := by rw [signed_eq, signed_eq, h]
theorem numV_s32 (k a b : Int) : S32 (numV k a b) := by
  unfold numV
  repeat' split
  all_goals exact signed_s32 _
theorem and_31 {n : Int} : bitI .and .i64 n 31 = n % 32 := and_mask (k := 5) (by decide) (by decide)
theorem and_32 {n : Int} : bitI .and .i64 n 4294967295 = n % 4294967296 := and_mask (k := 32) (by decide) (by decide)
theorem not_i64 {n : Int} (h0 : -9223372036854775808 ≤ n) (h1 : n ≤ 9223372036854775807) : bitI .xor .i64 (if IntKind.i64.signed = true then -1 else IntKind.i64.max) n = -n - 1 := by
  unfold bitI
  have e : (BitVec.ofInt IntKind.i64.bits (-1) ^^^ BitVec.ofInt IntKind.i64.bits n).toNat = 18446744073709551615 - (BitVec.ofInt 64 n).toNat := by
    show (BitVec.ofInt 64 (-1) ^^^ BitVec.ofInt 64 n).toNat = _
    have : BitVec.ofInt 64 (-1) = BitVec.allOnes 64 := by decide
    rw [this, BitVec.allOnes_xor, BitVec.toNat_not]
  show IntKind.i64.wrap (((BitVec.ofInt IntKind.i64.bits (-1) ^^^ BitVec.ofInt IntKind.i64.bits n).toNat : Nat) : Int) = _
  rw [e]
  have h4 := toNat_ofInt n
  generalize (BitVec.ofInt 64 n).toNat = x at *
  have hx : x ≤ 18446744073709551615 := by omega
  unfold IntKind.wrap
  simp [IntKind.bits, IntKind.signed]
  omega
theorem pow_le31 {y : Nat} (h : y ≤ 31) : (1 : Int) ≤ 2 ^ y ∧ (2 : Int) ^ y ≤ 2147483648 := by
  have h1 : (2 : Nat) ^ y ≤ 2 ^ 31 := Nat.pow_le_pow_right (by decide) h
  have h2 : 1 ≤ (2 : Nat) ^ y := Nat.one_le_two_pow
  have e : ((2 : Int) ^ y) = ((2 ^ y : Nat) : Int) := by simp
  rw [e]
  exact ⟨by omega, by have : (2 : Nat) ^ 31 = 2147483648 := by decide
                      omega⟩
theorem shl_bd {a : Int} {y : Nat} (ha : S32 a) (h : y ≤ 31) : -4611686018427387904 ≤ a * 2 ^ y ∧ a * 2 ^ y ≤ 4611686018427387904 := by
  obtain ⟨h1, h2⟩ := pow_le31 h
  obtain ⟨h3, h4⟩ := ha
  generalize (2 : Int) ^ y = p at *
  constructor
  · have : -2147483648 * 2147483648 ≤ a * p := by
      rcases Int.le_total 0 a with h | h
      · have := Int.mul_nonneg h (by omega : 0 ≤ p); omega
      · have h5 : -2147483648 * p ≤ a * p := Int.mul_le_mul_of_nonneg_right h3 (by omega)
        omega
    omega
  · have : a * p ≤ 2147483648 * 2147483648 := by
      rcases Int.le_total 0 a with h | h
      · have h5 : a * p ≤ a * 2147483648 := Int.mul_le_mul_of_nonneg_left h2 h
        omega
      · have := Int.mul_nonneg (by omega : 0 ≤ -a) (by omega : 0 ≤ p)
        rw [Int.neg_mul] at this; omega
    omega
theorem mul_bd {a b : Int} (ha : S32 a) (hb : S32 b) : -4611686018427387904 ≤ a * b ∧ a * b ≤ 4611686018427387904 := by
  obtain ⟨h1, h2⟩ := ha
  obtain ⟨h3, h4⟩ := hb
  have k1 : (a * b).natAbs ≤ 2147483648 * 2147483648 := by
    rw [Int.natAbs_mul]
    exact Nat.mul_le_mul (by omega) (by omega)
  omega
theorem shl_var {a y : Int} {K : D → Prop} (ha : S32 a) (h0 : 0 ≤ y) (h1 : y ≤ 31) (h : K (.int .i64 (a * 2 ^ y.toNat))) : ShlS .i64 a y K := by
  unfold ShlS
  refine ⟨h0, ?_⟩
  have e : min y.toNat IntKind.i64.bits = y.toNat := by simp only [IntKind.bits]; omega
  obtain ⟨h2, h3⟩ := shl_bd ha (y := y.toNat) (by omega)
  rw [e, wrap_i64 (by omega) (by omega)]
  exact h
theorem shr_var {x y : Int} {K : D → Prop} (h0 : 0 ≤ y) (h1 : y ≤ 31) (h : K (.int .i64 (x / 2 ^ y.toNat))) : ShrS .i64 x y K := by
  unfold ShrS
  refine ⟨h0, ?_⟩
  have e : min y.toNat IntKind.i64.bits = y.toNat := by simp only [IntKind.bits]; omega
  have hp : (0 : Int) ≤ 2 ^ y.toNat := Int.le_of_lt (Int.pow_pos (by decide))
  rw [e, Int.fdiv_eq_ediv_of_nonneg _ hp]
  exact h
attribute [local irreducible] signedI

theorem number_meets : Meets Try.prog n_expr_number (SpecP (fun ((k, a, b) : Int × Int × Int) => S32 a ∧ S32 b) (fun (k, a, b) => [.int .i64 k, .int .i64 a, .int .i64 b]) fun (k, a, b) => .int .i64 (numV k a b)) := by
  refine meets_f tabOk Try.func23 rfl (by decide) ?_
  rintro ⟨k, a, b⟩ ⟨ha, hb⟩
  refine ⟨Nat.le_refl _, by simp [Try.f23], fun E hE => ?_⟩
  refine vcOk _ ?_
  have hm := mul_bd ha hb
  have ha1 := ha.1
  have ha2 := ha.2
  have hb1 := hb.1
  have hb2 := hb.2
  (repeat' (first | (refine VS.mk ?_) | (refine dr_mk ?_) | (refine md_l ?_) | ((first | refine sp_not_dec ?_ ?_ | refine sp_dec ?_ ?_ | refine sp_beq ?_ ?_ | refine sp_bne ?_ ?_ | refine sp_seq ?_ ?_ | refine sp_sne ?_ ?_ | refine sp_not ?_ ?_ | refine sp_any ?_ ?_) <;> (intro hc; try simp only [List.length_map, List.length_append, List.length_cons, List.length_nil, Bool.and_true, Bool.and_eq_true, beq_iff_eq, Bool.and_eq_false_iff, beq_eq_false_iff_ne, Bool.true_and, ne_eq] at hc)) | (with_reducible first | refine norm_one ?_ | refine norm_app ?_ | refine norm_cutEnd ?_ | refine norm_cut ?_ | refine norm_bytes1 ?_ | refine norm_bytes2 ?_ | refine norm_setByte ?_ | refine norm_int1 ?_ | refine norm_mk ?_) | (with_reducible refine bytes_mk ?_) | (refine ar_byte ?_) | (refine ar_i64 (by omega) (by omega) ?_) | (refine ar_low ?_) | (refine ix_byteN (by omega) ?_) | (refine ix_byteK (by simp only [Int.reduceToNat]; exact rfl) (by decide) (by omega) ?_) | (refine ix_byte (by omega) (by omega) ?_) | (refine ix_rfl (by decide) rfl ?_) | (refine sd_mk rfl ?_) | (refine sd_mk (by decide +kernel) ?_) | (refine sd_mk (by first | (simp only [List.length_map, List.length_append, List.length_cons, List.length_nil]; done) | ((try simp only [List.length_map, List.length_append, List.length_cons, List.length_nil, List.length_set, List.length_replicate, List.length_drop, List.length_take, true_and, and_true]); omega) | (dsimp only; omega)) ?_) | (first | refine shl8 (by omega) (by omega) ?_ | refine shl4 (by omega) (by omega) ?_ | refine shl1 (by omega) (by omega) ?_ | refine shl16 (by omega) (by omega) ?_ | refine shl24 (by omega) (by omega) ?_ | refine shr8 (by decide) ?_ | refine shr4 (by decide) ?_ | refine shr1 (by decide) ?_ | refine shr16 (by decide) ?_ | refine shr24 (by decide) ?_) | (with_reducible first | refine bit_mk and_1 ?_ | refine bit_mk and_15 ?_ | refine bit_mk and_255 ?_ | refine bit_mk and_4095 ?_ | refine bit_mk and_65535 ?_) | (refine quo_pos (by omega) (by omega) (by omega) ?_) | (refine rem_pos (by omega) (by omega) ?_)))
  any_goals (first | (refine bit_mk and_31 ?_) | (refine bit_mk and_32 ?_) | (refine bit_mk rfl ?_) | skip)
  have hb32 : 0 ≤ b % 32 ∧ b % 32 ≤ 31 := by omega
  (repeat' (first | (refine VS.mk ?_) | (refine dr_mk ?_) | (refine md_l ?_) | ((first | refine sp_not_dec ?_ ?_ | refine sp_dec ?_ ?_ | refine sp_beq ?_ ?_ | refine sp_bne ?_ ?_ | refine sp_seq ?_ ?_ | refine sp_sne ?_ ?_ | refine sp_not ?_ ?_ | refine sp_any ?_ ?_) <;> (intro hc; try simp only [List.length_map, List.length_append, List.length_cons, List.length_nil, Bool.and_true, Bool.and_eq_true, beq_iff_eq, Bool.and_eq_false_iff, beq_eq_false_iff_ne, Bool.true_and, ne_eq] at hc)) | (with_reducible first | refine norm_one ?_ | refine norm_app ?_ | refine norm_cutEnd ?_ | refine norm_cut ?_ | refine norm_bytes1 ?_ | refine norm_bytes2 ?_ | refine norm_setByte ?_ | refine norm_int1 ?_ | refine norm_mk ?_) | (with_reducible refine bytes_mk ?_) | (refine ar_byte ?_) | (refine ar_i64 (by omega) (by omega) ?_) | (refine ar_low ?_) | (refine ix_byteN (by omega) ?_) | (refine ix_byteK (by simp only [Int.reduceToNat]; exact rfl) (by decide) (by omega) ?_) | (refine ix_byte (by omega) (by omega) ?_) | (refine ix_rfl (by decide) rfl ?_) | (refine sd_mk rfl ?_) | (refine sd_mk (by decide +kernel) ?_) | (refine sd_mk (by first | (simp only [List.length_map, List.length_append, List.length_cons, List.length_nil]; done) | ((try simp only [List.length_map, List.length_append, List.length_cons, List.length_nil, List.length_set, List.length_replicate, List.length_drop, List.length_take, true_and, and_true]); omega) | (dsimp only; omega)) ?_) | (first | refine shl8 (by omega) (by omega) ?_ | refine shl4 (by omega) (by omega) ?_ | refine shl1 (by omega) (by omega) ?_ | refine shl16 (by omega) (by omega) ?_ | refine shl24 (by omega) (by omega) ?_ | refine shr8 (by decide) ?_ | refine shr4 (by decide) ?_ | refine shr1 (by decide) ?_ | refine shr16 (by decide) ?_ | refine shr24 (by decide) ?_) | (with_reducible first | refine bit_mk and_1 ?_ | refine bit_mk and_15 ?_ | refine bit_mk and_255 ?_ | refine bit_mk and_4095 ?_ | refine bit_mk and_65535 ?_) | (refine quo_pos (by omega) (by omega) (by omega) ?_) | (refine rem_pos (by omega) (by omega) ?_)))
  any_goals (first | (refine shl_var ha (by omega) (by omega) ?_) | (refine bit_mk and_31 ?_) | skip)
  (repeat' (first | (refine VS.mk ?_) | (refine dr_mk ?_) | (refine md_l ?_) | ((first | refine sp_not_dec ?_ ?_ | refine sp_dec ?_ ?_ | refine sp_beq ?_ ?_ | refine sp_bne ?_ ?_ | refine sp_seq ?_ ?_ | refine sp_sne ?_ ?_ | refine sp_not ?_ ?_ | refine sp_any ?_ ?_) <;> (intro hc; try simp only [List.length_map, List.length_append, List.length_cons, List.length_nil, Bool.and_true, Bool.and_eq_true, beq_iff_eq, Bool.and_eq_false_iff, beq_eq_false_iff_ne, Bool.true_and, ne_eq] at hc)) | (with_reducible first | refine norm_one ?_ | refine norm_app ?_ | refine norm_cutEnd ?_ | refine norm_cut ?_ | refine norm_bytes1 ?_ | refine norm_bytes2 ?_ | refine norm_setByte ?_ | refine norm_int1 ?_ | refine norm_mk ?_) | (with_reducible refine bytes_mk ?_) | (refine ar_byte ?_) | (refine ar_i64 (by omega) (by omega) ?_) | (refine ar_low ?_) | (refine ix_byteN (by omega) ?_) | (refine ix_byteK (by simp only [Int.reduceToNat]; exact rfl) (by decide) (by omega) ?_) | (refine ix_byte (by omega) (by omega) ?_) | (refine ix_rfl (by decide) rfl ?_) | (refine sd_mk rfl ?_) | (refine sd_mk (by decide +kernel) ?_) | (refine sd_mk (by first | (simp only [List.length_map, List.length_append, List.length_cons, List.length_nil]; done) | ((try simp only [List.length_map, List.length_append, List.length_cons, List.length_nil, List.length_set, List.length_replicate, List.length_drop, List.length_take, true_and, and_true]); omega) | (dsimp only; omega)) ?_) | (first | refine shl8 (by omega) (by omega) ?_ | refine shl4 (by omega) (by omega) ?_ | refine shl1 (by omega) (by omega) ?_ | refine shl16 (by omega) (by omega) ?_ | refine shl24 (by omega) (by omega) ?_ | refine shr8 (by decide) ?_ | refine shr4 (by decide) ?_ | refine shr1 (by decide) ?_ | refine shr16 (by decide) ?_ | refine shr24 (by decide) ?_) | (with_reducible first | refine bit_mk and_1 ?_ | refine bit_mk and_15 ?_ | refine bit_mk and_255 ?_ | refine bit_mk and_4095 ?_ | refine bit_mk and_65535 ?_) | (refine quo_pos (by omega) (by omega) (by omega) ?_) | (refine rem_pos (by omega) (by omega) ?_)))
  any_goals (first | (refine shr_var (by omega) (by omega) ?_) | skip)
  (repeat' (first | (refine VS.mk ?_) | (refine dr_mk ?_) | (refine md_l ?_) | ((first | refine sp_not_dec ?_ ?_ | refine sp_dec ?_ ?_ | refine sp_beq ?_ ?_ | refine sp_bne ?_ ?_ | refine sp_seq ?_ ?_ | refine sp_sne ?_ ?_ | refine sp_not ?_ ?_ | refine sp_any ?_ ?_) <;> (intro hc; try simp only [List.length_map, List.length_append, List.length_cons, List.length_nil, Bool.and_true, Bool.and_eq_true, beq_iff_eq, Bool.and_eq_false_iff, beq_eq_false_iff_ne, Bool.true_and, ne_eq] at hc)) | (with_reducible first | refine norm_one ?_ | refine norm_app ?_ | refine norm_cutEnd ?_ | refine norm_cut ?_ | refine norm_bytes1 ?_ | refine norm_bytes2 ?_ | refine norm_setByte ?_ | refine norm_int1 ?_ | refine norm_mk ?_) | (with_reducible refine bytes_mk ?_) | (refine ar_byte ?_) | (refine ar_i64 (by omega) (by omega) ?_) | (refine ar_low ?_) | (refine ix_byteN (by omega) ?_) | (refine ix_byteK (by simp only [Int.reduceToNat]; exact rfl) (by decide) (by omega) ?_) | (refine ix_byte (by omega) (by omega) ?_) | (refine ix_rfl (by decide) rfl ?_) | (refine sd_mk rfl ?_) | (refine sd_mk (by decide +kernel) ?_) | (refine sd_mk (by first | (simp only [List.length_map, List.length_append, List.length_cons, List.length_nil]; done) | ((try simp only [List.length_map, List.length_append, List.length_cons, List.length_nil, List.length_set, List.length_replicate, List.length_drop, List.length_take, true_and, and_true]); omega) | (dsimp only; omega)) ?_) | (first | refine shl8 (by omega) (by omega) ?_ | refine shl4 (by omega) (by omega) ?_ | refine shl1 (by omega) (by omega) ?_ | refine shl16 (by omega) (by omega) ?_ | refine shl24 (by omega) (by omega) ?_ | refine shr8 (by decide) ?_ | refine shr4 (by decide) ?_ | refine shr1 (by decide) ?_ | refine shr16 (by decide) ?_ | refine shr24 (by decide) ?_) | (with_reducible first | refine bit_mk and_1 ?_ | refine bit_mk and_15 ?_ | refine bit_mk and_255 ?_ | refine bit_mk and_4095 ?_ | refine bit_mk and_65535 ?_) | (refine quo_pos (by omega) (by omega) (by omega) ?_) | (refine rem_pos (by omega) (by omega) ?_)))
  all_goals (refine call_p signed_meets2 _ trivial (VS.mk (LeL.of_eq rfl)) ?_)
  (repeat' (first | (refine VS.mk ?_) | (refine dr_mk ?_) | (refine md_l ?_) | ((first | refine sp_not_dec ?_ ?_ | refine sp_dec ?_ ?_ | refine sp_beq ?_ ?_ | refine sp_bne ?_ ?_ | refine sp_seq ?_ ?_ | refine sp_sne ?_ ?_ | refine sp_not ?_ ?_ | refine sp_any ?_ ?_) <;> (intro hc; try simp only [List.length_map, List.length_append, List.length_cons, List.length_nil, Bool.and_true, Bool.and_eq_true, beq_iff_eq, Bool.and_eq_false_iff, beq_eq_false_iff_ne, Bool.true_and, ne_eq] at hc)) | (with_reducible first | refine norm_one ?_ | refine norm_app ?_ | refine norm_cutEnd ?_ | refine norm_cut ?_ | refine norm_bytes1 ?_ | refine norm_bytes2 ?_ | refine norm_setByte ?_ | refine norm_int1 ?_ | refine norm_mk ?_) | (with_reducible refine bytes_mk ?_) | (refine ar_byte ?_) | (refine ar_i64 (by omega) (by omega) ?_) | (refine ar_low ?_) | (refine ix_byteN (by omega) ?_) | (refine ix_byteK (by simp only [Int.reduceToNat]; exact rfl) (by decide) (by omega) ?_) | (refine ix_byte (by omega) (by omega) ?_) | (refine ix_rfl (by decide) rfl ?_) | (refine sd_mk rfl ?_) | (refine sd_mk (by decide +kernel) ?_) | (refine sd_mk (by first | (simp only [List.length_map, List.length_append, List.length_cons, List.length_nil]; done) | ((try simp only [List.length_map, List.length_append, List.length_cons, List.length_nil, List.length_set, List.length_replicate, List.length_drop, List.length_take, true_and, and_true]); omega) | (dsimp only; omega)) ?_) | (first | refine shl8 (by omega) (by omega) ?_ | refine shl4 (by omega) (by omega) ?_ | refine shl1 (by omega) (by omega) ?_ | refine shl16 (by omega) (by omega) ?_ | refine shl24 (by omega) (by omega) ?_ | refine shr8 (by decide) ?_ | refine shr4 (by decide) ?_ | refine shr1 (by decide) ?_ | refine shr16 (by decide) ?_ | refine shr24 (by decide) ?_) | (with_reducible first | refine bit_mk and_1 ?_ | refine bit_mk and_15 ?_ | refine bit_mk and_255 ?_ | refine bit_mk and_4095 ?_ | refine bit_mk and_65535 ?_) | (refine quo_pos (by omega) (by omega) (by omega) ?_) | (refine rem_pos (by omega) (by omega) ?_)))
  all_goals
    refine end_p (VS.mk (LeD.of_eq (congrArg (D.int .i64) (?_ : _ = numV k a b))))
    unfold numV
    repeat (first | rw [if_pos (by assumption)] | rw [if_neg (by assumption)])

def twoV (k : Int) (a b : OVal) : OVal × Int :=
  if a.name = [] ∧ b.name = [] then (⟨[], numV k a.n b.n⟩, 0)
  else if k = 6 ∧ (a.name = [] ∨ b.name = []) then (⟨a.name ++ b.name, numV k a.n b.n⟩, 0)
  else if k = 7 ∧ b.name = [] then (⟨a.name, numV k a.n b.n⟩, 0)
  else if k = 7 ∧ a.name = b.name then (⟨[], numV k a.n b.n⟩, 0)
  else (⟨[], 0⟩, 8)
def vresD (x : OVal × Int) : D := .tup [valD x.1, .int .i64 x.2]
attribute [local irreducible] numV

theorem two_meets : Meets Try.prog n_expr_two (SpecP (fun ((k, a, b) : Int × OVal × OVal) => S32 a.n ∧ S32 b.n ∧ a.name.length ≤ 1000000000 ∧ b.name.length ≤ 1000000000) (fun (k, a, b) => [.int .i64 k, valD a, valD b]) fun (k, a, b) => vresD (twoV k a b)) := by
  refine meets_f tabOk Try.func14 rfl (by decide) ?_
  rintro ⟨k, a, b⟩ ⟨ha, hb, hna, hnb⟩
  refine ⟨Nat.le_refl _, by simp [Try.f14], fun E hE => ?_⟩
  refine vcOk _ ?_
  (repeat' (first | (refine VS.mk ?_) | (refine dr_mk ?_) | (refine md_l ?_) | ((first | refine sp_not_dec ?_ ?_ | refine sp_dec ?_ ?_ | refine sp_beq ?_ ?_ | refine sp_bne ?_ ?_ | refine sp_seq ?_ ?_ | refine sp_sne ?_ ?_ | refine sp_not ?_ ?_ | refine sp_any ?_ ?_) <;> (intro hc; try simp only [List.length_map, List.length_append, List.length_cons, List.length_nil, Bool.and_true, Bool.and_eq_true, beq_iff_eq, Bool.and_eq_false_iff, beq_eq_false_iff_ne, Bool.true_and, ne_eq] at hc)) | (with_reducible first | refine norm_one ?_ | refine norm_app ?_ | refine norm_cutEnd ?_ | refine norm_cut ?_ | refine norm_bytes1 ?_ | refine norm_bytes2 ?_ | refine norm_setByte ?_ | refine norm_int1 ?_ | refine norm_mk ?_) | (with_reducible refine bytes_mk ?_) | (refine ar_byte ?_) | (refine ar_i64 (by omega) (by omega) ?_) | (refine ar_low ?_) | (refine ix_byteN (by omega) ?_) | (refine ix_byteK (by simp only [Int.reduceToNat]; exact rfl) (by decide) (by omega) ?_) | (refine ix_byte (by omega) (by omega) ?_) | (refine ix_rfl (by decide) rfl ?_) | (refine sd_mk rfl ?_) | (refine sd_mk (by decide +kernel) ?_) | (refine sd_mk (by first | (simp only [List.length_map, List.length_append, List.length_cons, List.length_nil]; done) | ((try simp only [List.length_map, List.length_append, List.length_cons, List.length_nil, List.length_set, List.length_replicate, List.length_drop, List.length_take, true_and, and_true]); omega) | (dsimp only; omega)) ?_) | (first | refine shl8 (by omega) (by omega) ?_ | refine shl4 (by omega) (by omega) ?_ | refine shl1 (by omega) (by omega) ?_ | refine shl16 (by omega) (by omega) ?_ | refine shl24 (by omega) (by omega) ?_ | refine shr8 (by decide) ?_ | refine shr4 (by decide) ?_ | refine shr1 (by decide) ?_ | refine shr16 (by decide) ?_ | refine shr24 (by decide) ?_) | (with_reducible first | refine bit_mk and_1 ?_ | refine bit_mk and_15 ?_ | refine bit_mk and_255 ?_ | refine bit_mk and_4095 ?_ | refine bit_mk and_65535 ?_) | (refine quo_pos (by omega) (by omega) (by omega) ?_) | (refine rem_pos (by omega) (by omega) ?_)))
  any_goals (first | (exfalso; exact absurd ‹a.name = []› ‹¬ a.name = []›) | (exfalso; exact absurd ‹b.name = []› ‹¬ b.name = []›) | (exfalso; omega) | skip)
  any_goals (first | (refine cat_mk (by omega) ?_) | skip)
  (repeat' (first | (refine VS.mk ?_) | (refine dr_mk ?_) | (refine md_l ?_) | ((first | refine sp_not_dec ?_ ?_ | refine sp_dec ?_ ?_ | refine sp_beq ?_ ?_ | refine sp_bne ?_ ?_ | refine sp_seq ?_ ?_ | refine sp_sne ?_ ?_ | refine sp_not ?_ ?_ | refine sp_any ?_ ?_) <;> (intro hc; try simp only [List.length_map, List.length_append, List.length_cons, List.length_nil, Bool.and_true, Bool.and_eq_true, beq_iff_eq, Bool.and_eq_false_iff, beq_eq_false_iff_ne, Bool.true_and, ne_eq] at hc)) | (with_reducible first | refine norm_one ?_ | refine norm_app ?_ | refine norm_cutEnd ?_ | refine norm_cut ?_ | refine norm_bytes1 ?_ | refine norm_bytes2 ?_ | refine norm_setByte ?_ | refine norm_int1 ?_ | refine norm_mk ?_) | (with_reducible refine bytes_mk ?_) | (refine ar_byte ?_) | (refine ar_i64 (by omega) (by omega) ?_) | (refine ar_low ?_) | (refine ix_byteN (by omega) ?_) | (refine ix_byteK (by simp only [Int.reduceToNat]; exact rfl) (by decide) (by omega) ?_) | (refine ix_byte (by omega) (by omega) ?_) | (refine ix_rfl (by decide) rfl ?_) | (refine sd_mk rfl ?_) | (refine sd_mk (by decide +kernel) ?_) | (refine sd_mk (by first | (simp only [List.length_map, List.length_append, List.length_cons, List.length_nil]; done) | ((try simp only [List.length_map, List.length_append, List.length_cons, List.length_nil, List.length_set, List.length_replicate, List.length_drop, List.length_take, true_and, and_true]); omega) | (dsimp only; omega)) ?_) | (first | refine shl8 (by omega) (by omega) ?_ | refine shl4 (by omega) (by omega) ?_ | refine shl1 (by omega) (by omega) ?_ | refine shl16 (by omega) (by omega) ?_ | refine shl24 (by omega) (by omega) ?_ | refine shr8 (by decide) ?_ | refine shr4 (by decide) ?_ | refine shr1 (by decide) ?_ | refine shr16 (by decide) ?_ | refine shr24 (by decide) ?_) | (with_reducible first | refine bit_mk and_1 ?_ | refine bit_mk and_15 ?_ | refine bit_mk and_255 ?_ | refine bit_mk and_4095 ?_ | refine bit_mk and_65535 ?_) | (refine quo_pos (by omega) (by omega) (by omega) ?_) | (refine rem_pos (by omega) (by omega) ?_)))
  any_goals (first | (refine call_p number_meets (k, a.n, b.n) ⟨ha, hb⟩ (VS.mk (LeL.of_eq rfl)) ?_) | skip)
  (repeat' (first | (refine VS.mk ?_) | (refine dr_mk ?_) | (refine md_l ?_) | ((first | refine sp_not_dec ?_ ?_ | refine sp_dec ?_ ?_ | refine sp_beq ?_ ?_ | refine sp_bne ?_ ?_ | refine sp_seq ?_ ?_ | refine sp_sne ?_ ?_ | refine sp_not ?_ ?_ | refine sp_any ?_ ?_) <;> (intro hc; try simp only [List.length_map, List.length_append, List.length_cons, List.length_nil, Bool.and_true, Bool.and_eq_true, beq_iff_eq, Bool.and_eq_false_iff, beq_eq_false_iff_ne, Bool.true_and, ne_eq] at hc)) | (with_reducible first | refine norm_one ?_ | refine norm_app ?_ | refine norm_cutEnd ?_ | refine norm_cut ?_ | refine norm_bytes1 ?_ | refine norm_bytes2 ?_ | refine norm_setByte ?_ | refine norm_int1 ?_ | refine norm_mk ?_) | (with_reducible refine bytes_mk ?_) | (refine ar_byte ?_) | (refine ar_i64 (by omega) (by omega) ?_) | (refine ar_low ?_) | (refine ix_byteN (by omega) ?_) | (refine ix_byteK (by simp only [Int.reduceToNat]; exact rfl) (by decide) (by omega) ?_) | (refine ix_byte (by omega) (by omega) ?_) | (refine ix_rfl (by decide) rfl ?_) | (refine sd_mk rfl ?_) | (refine sd_mk (by decide +kernel) ?_) | (refine sd_mk (by first | (simp only [List.length_map, List.length_append, List.length_cons, List.length_nil]; done) | ((try simp only [List.length_map, List.length_append, List.length_cons, List.length_nil, List.length_set, List.length_replicate, List.length_drop, List.length_take, true_and, and_true]); omega) | (dsimp only; omega)) ?_) | (first | refine shl8 (by omega) (by omega) ?_ | refine shl4 (by omega) (by omega) ?_ | refine shl1 (by omega) (by omega) ?_ | refine shl16 (by omega) (by omega) ?_ | refine shl24 (by omega) (by omega) ?_ | refine shr8 (by decide) ?_ | refine shr4 (by decide) ?_ | refine shr1 (by decide) ?_ | refine shr16 (by decide) ?_ | refine shr24 (by decide) ?_) | (with_reducible first | refine bit_mk and_1 ?_ | refine bit_mk and_15 ?_ | refine bit_mk and_255 ?_ | refine bit_mk and_4095 ?_ | refine bit_mk and_65535 ?_) | (refine quo_pos (by omega) (by omega) (by omega) ?_) | (refine rem_pos (by omega) (by omega) ?_)))
  all_goals
    refine end_p (VS.mk (LeD.of_eq (?_ : _ = vresD (twoV k a b))))
    simp_all [twoV, vresD, valD]
end Go.Proofs.Ytlilcfkcofafeaa

namespace Go.Proofs.Ytlilcfkcofafeaa
open Go Go.Plat
set_option linter.unusedVariables false
set_option linter.unusedSimpArgs false
set_option maxRecDepth 100000
set_option maxHeartbeats 2000000
attribute [local irreducible] NilS LookS NormM bitI BytesS NormL Arith QuoS RemS ShlS ShrS BitS CatS SplitS SideS IdxS CallS LoopEnd EndS ModeS DrawS AWP Meets
attribute [local irreducible] signedI numV

def findQ (n : List UInt8) : List OEqu → Option Int
  | [] => none
  | s :: l => if s.name = n then some s.n else findQ n l
def idxQ (n : List UInt8) : List OEqu → Nat → Int
  | [], _ => -1
  | s :: l, k => if s.name = n then k else idxQ n l (k + 1)
theorem find_cons {n : List UInt8} {s : OEqu} {l : List OEqu} : findQ n (s :: l) = if s.name = n then some s.n else findQ n l := rfl
theorem find_nil {n : List UInt8} : findQ n [] = none := rfl
theorem idxQ_spec (n : List UInt8) : ∀ (l : List OEqu) (k : Nat), (findQ n l = none ∧ idxQ n l k = -1) ∨ ∃ (i : Nat) (s : OEqu), l[i]? = some s ∧ idxQ n l k = ((k + i : Nat) : Int) ∧ findQ n l = some s.n
  | [], k => .inl ⟨rfl, rfl⟩
  | s :: l, k => by
    rw [findQ, idxQ]
    by_cases h : s.name = n
    · rw [if_pos h, if_pos h]
      exact .inr ⟨0, s, rfl, rfl, rfl⟩
    · rw [if_neg h, if_neg h]
      rcases idxQ_spec n l (k + 1) with h1 | ⟨i, t, h1, h2, h3⟩
      · exact .inl h1
      · exact .inr ⟨i + 1, t, h1, by rw [h2]; congr 1; omega, h3⟩
def noVal : OVal := ⟨[], 0⟩
def topV (k n : Int) (s : List UInt8) (vs : List OVal) (l : List OEqu) : OVal × Int :=
  if k = 1 ∧ vs = [] then (⟨[], signedI n 32⟩, 0)
  else if k = 2 ∧ vs = [] then (match findQ s l with | some m => (⟨[], signedI m 32⟩, 0) | none => (⟨s, 0⟩, 0))
  else match vs with
    | [v] => if k = 3 ∨ k = 4 then (if v.name = [] then (if k = 3 then (⟨[], signedI (-v.n) 32⟩, 0) else (⟨[], signedI (-v.n - 1) 32⟩, 0)) else (noVal, 8)) else (noVal, 1)
    | [a, b] => if 5 ≤ k ∧ k ≤ 11 then twoV k a b else (noVal, 1)
    | _ => (noVal, 1)
mutual
def evalE (l : List OEqu) : OExpr → OVal × Int
  | .mk k n s ks => match evalL l ks with
    | .inl w => (noVal, w)
    | .inr vs => topV k n s vs l
def evalL (l : List OEqu) : List OExpr → Int ⊕ List OVal
  | [] => .inr []
  | e :: es => if (evalE l e).2 = 0 then (match evalL l es with | .inl w => .inl w | .inr vs => .inr ((evalE l e).1 :: vs)) else .inl (evalE l e).2
end
def evA (l : List OEqu) (acc : List OVal) (es : List OExpr) : Int ⊕ List OVal := match evalL l es with | .inl w => .inl w | .inr vs => .inr (acc ++ vs)
theorem evA_nil (l : List OEqu) (acc : List OVal) : evA l acc [] = .inr acc := by unfold evA; rw [evalL]; simp
theorem evA_cons (l : List OEqu) (acc : List OVal) (e : OExpr) (es : List OExpr) : evA l acc (e :: es) = if (evalE l e).2 = 0 then evA l (acc ++ [(evalE l e).1]) es else .inl (evalE l e).2 := by
  unfold evA
  rw [evalL]
  by_cases h : (evalE l e).2 = 0
  · rw [if_pos h, if_pos h]
    cases evalL l es <;> simp
  · rw [if_neg h, if_neg h]
theorem evA_all (l : List OEqu) (es : List OExpr) : evA l [] es = evalL l es := by unfold evA; cases evalL l es <;> simp
theorem evalE_eq (l : List OEqu) (e : OExpr) : evalE l e = match evalL l e.kids with
    | .inl w => (noVal, w)
    | .inr vs => topV e.kind e.n e.name vs l := by
  cases e with
  | mk k n s ks => rw [evalE]; rfl
structure VOk (v : OVal) (n : Nat) : Prop where
  s32 : S32 v.n
  len : v.name.length ≤ n
theorem two_ok {k : Int} {a b : OVal} {m n : Nat} (ha : VOk a m) (hb : VOk b n) : VOk (twoV k a b).1 (m + n) := by
  have h1 := ha.len
  have h2 := hb.len
  unfold twoV
  split
  · exact ⟨numV_s32 _ _ _, by simp⟩
  split
  · exact ⟨numV_s32 _ _ _, by simp; omega⟩
  split
  · exact ⟨numV_s32 _ _ _, by dsimp only; omega⟩
  split
  · exact ⟨numV_s32 _ _ _, by simp⟩
  · exact ⟨⟨by decide, by decide⟩, by simp⟩
theorem no_ok {n : Nat} : VOk noVal n := ⟨⟨by decide, by decide⟩, by simp [noVal]⟩
def nsum : List OVal → Nat
  | [] => 0
  | v :: vs => v.name.length + nsum vs
theorem nsum_mem : ∀ {vs : List OVal} {v : OVal}, v ∈ vs → v.name.length ≤ nsum vs
  | [], v, h => by simp at h
  | x :: vs, v, h => by
    rw [nsum]
    rcases List.mem_cons.1 h with rfl | h
    · omega
    · have := nsum_mem h; omega
theorem nsum_app : ∀ (a : List OVal) (v : OVal), nsum (a ++ [v]) = nsum a + v.name.length
  | [], v => by simp [nsum]
  | x :: a, v => by rw [List.cons_append, nsum, nsum, nsum_app]; omega
theorem top_ok {k n : Int} {s : List UInt8} {vs : List OVal} {l : List OEqu} {m : Nat} (h : ∀ v ∈ vs, S32 v.n) (hm : nsum vs ≤ m) : VOk (topV k n s vs l).1 (s.length + m) := by
  unfold topV
  split
  · exact ⟨signed_s32 _, by simp⟩
  split
  · split
    · exact ⟨signed_s32 _, by simp⟩
    · exact ⟨⟨show (-2147483648 : Int) ≤ 0 by decide, show (0 : Int) ≤ 2147483647 by decide⟩, by dsimp only; omega⟩
  rcases vs with _ | ⟨a, _ | ⟨b, _ | ⟨c, r⟩⟩⟩ <;> dsimp only
  · exact no_ok
  · split
    · split
      · split
        · exact ⟨signed_s32 _, by simp⟩
        · exact ⟨signed_s32 _, by simp⟩
      · exact no_ok
    · exact no_ok
  · split
    · have := two_ok (k := k) (a := a) (b := b) ⟨h a (by simp), Nat.le_refl _⟩ ⟨h b (by simp), Nat.le_refl _⟩
      simp only [nsum] at hm
      exact ⟨this.s32, by have := this.len; omega⟩
    · exact no_ok
  · exact no_ok
mutual
theorem eval_ok (l : List OEqu) : ∀ e : OExpr, VOk (evalE l e).1 (nodes e)
  | .mk k n s ks => by
    rw [evalE, nodes]
    cases h : evalL l ks with
    | inl w => exact no_ok
    | inr vs =>
      obtain ⟨h1, h2⟩ := evalL_ok l ks vs h
      have := top_ok (k := k) (n := n) (s := s) (l := l) h1 h2
      exact ⟨this.s32, by have := this.len; dsimp only; omega⟩
theorem evalL_ok (l : List OEqu) : ∀ (es : List OExpr) (vs : List OVal), evalL l es = .inr vs → (∀ v ∈ vs, S32 v.n) ∧ nsum vs ≤ nodesL es
  | [], vs, h => by rw [evalL] at h; cases h; exact ⟨by simp, by simp [nsum]⟩
  | e :: es, vs, h => by
    rw [evalL] at h
    have he := eval_ok l e
    split at h
    · cases hl : evalL l es with
      | inl w => rw [hl] at h; cases h
      | inr ws =>
        rw [hl] at h
        cases h
        obtain ⟨h1, h2⟩ := evalL_ok l es ws hl
        refine ⟨fun v hv => ?_, ?_⟩
        · rcases List.mem_cons.1 hv with rfl | hv
          · exact he.s32
          · exact h1 v hv
        · rw [nsum, nodesL]
          have := he.len
          omega
    · cases h
end

theorem nil_len {α : Type} {l : List α} (h : l.length = 0) : l = [] := List.eq_nil_of_length_eq_zero h
theorem top_num {k n : Int} {s : List UInt8} {vs : List OVal} {l : List OEqu} (h1 : k = 1) (h2 : vs.length = 0) : topV k n s vs l = (⟨[], signedI n 32⟩, 0) := by unfold topV; rw [if_pos ⟨h1, nil_len h2⟩]
theorem top_name {k n : Int} {s : List UInt8} {vs : List OVal} {l : List OEqu} (h1 : k = 2) (h2 : vs.length = 0) : topV k n s vs l = (match findQ s l with | some m => (⟨[], signedI m 32⟩, 0) | none => (⟨s, 0⟩, 0)) := by
  unfold topV; rw [if_neg (by rintro ⟨h, _⟩; omega), if_pos ⟨h1, nil_len h2⟩]
theorem top_one {k n : Int} {s : List UInt8} {v : OVal} {l : List OEqu} (h1 : k = 3 ∨ k = 4) : topV k n s [v] l = if v.name = [] then (if k = 3 then (⟨[], signedI (-v.n) 32⟩, 0) else (⟨[], signedI (-v.n - 1) 32⟩, 0)) else (noVal, 8) := by
  unfold topV; rw [if_neg (by rintro ⟨h, _⟩; omega), if_neg (by rintro ⟨h, _⟩; omega)]; dsimp only; rw [if_pos h1]
theorem top_two {k n : Int} {s : List UInt8} {a b : OVal} {l : List OEqu} (h1 : 5 ≤ k ∧ k ≤ 11) : topV k n s [a, b] l = twoV k a b := by
  unfold topV; rw [if_neg (by rintro ⟨h, _⟩; omega), if_neg (by rintro ⟨h, _⟩; omega)]; dsimp only; rw [if_pos h1]
theorem top_bad {k n : Int} {s : List UInt8} {vs : List OVal} {l : List OEqu} (h0 : vs.length = 0 → k ≠ 1 ∧ k ≠ 2) (h1 : vs.length = 1 → k ≠ 3 ∧ k ≠ 4) (h2 : vs.length = 2 → k < 5 ∨ 11 < k) : topV k n s vs l = (noVal, 1) := by
  unfold topV
  rw [if_neg (by rintro ⟨h, h3⟩; exact (h0 (by rw [h3]; rfl)).1 h), if_neg (by rintro ⟨h, h3⟩; exact (h0 (by rw [h3]; rfl)).2 h)]
  rcases vs with _ | ⟨a, _ | ⟨b, _ | ⟨c, r⟩⟩⟩ <;> dsimp only
  · rw [if_neg (by have := h1 rfl; omega)]
  · rw [if_neg (by have := h2 rfl; omega)]
theorem len_one {α : Type} {l : List α} (h : l.length = 1) : ∃ a, l = [a] := by
  rcases l with _ | ⟨a, _ | ⟨b, r⟩⟩ <;> simp at h
  exact ⟨a, rfl⟩
theorem len_two {α : Type} {l : List α} (h : l.length = 2) : ∃ a b, l = [a, b] := by
  rcases l with _ | ⟨a, _ | ⟨b, _ | ⟨c, r⟩⟩⟩ <;> simp at h
  exact ⟨a, b, rfl⟩
theorem evclos_meets : Meets Try.prog n_expr_Eval_1 (SpecF (fun _ : OEqu × OExpr => True) (fun (s, e) => [equD s, .loc 0 0]) (fun (s, e) => [.cells [.int .i64 e.kind, .int .i64 e.n, .str e.name, .sl 4 (e.kids.map exprD) none]]) (fun (s, e) => .bool (s.name == e.name))
    fun (s, e) => [.cells [.int .i64 e.kind, .int .i64 e.n, .str e.name, .sl 4 (e.kids.map exprD) none]]) := by
  refine meets_f tabOk Try.func13 rfl (by decide) ?_
  rintro ⟨s, e⟩ -
  refine ⟨Nat.le_refl _, by simp [Try.f13], fun E hE => ?_⟩
  refine vcOk _ ?_
  (repeat' (first | (refine VS.mk ?_) | (refine dr_mk ?_) | (refine md_l ?_) | ((first | refine sp_not_dec ?_ ?_ | refine sp_dec ?_ ?_ | refine sp_beq ?_ ?_ | refine sp_bne ?_ ?_ | refine sp_seq ?_ ?_ | refine sp_sne ?_ ?_ | refine sp_not ?_ ?_ | refine sp_any ?_ ?_) <;> (intro hc; try simp only [List.length_map, List.length_append, List.length_cons, List.length_nil, Bool.and_true, Bool.and_eq_true, beq_iff_eq, Bool.and_eq_false_iff, beq_eq_false_iff_ne, Bool.true_and, ne_eq] at hc)) | (with_reducible first | refine norm_one ?_ | refine norm_app ?_ | refine norm_cutEnd ?_ | refine norm_cut ?_ | refine norm_bytes1 ?_ | refine norm_bytes2 ?_ | refine norm_setByte ?_ | refine norm_int1 ?_ | refine norm_mk ?_) | (with_reducible refine bytes_mk ?_) | (refine ar_byte ?_) | (refine ar_i64 (by omega) (by omega) ?_) | (refine ar_low ?_) | (refine ix_byteN (by omega) ?_) | (refine ix_byteK (by simp only [Int.reduceToNat]; exact rfl) (by decide) (by omega) ?_) | (refine ix_byte (by omega) (by omega) ?_) | (refine ix_rfl (by decide) rfl ?_) | (refine sd_mk rfl ?_) | (refine sd_mk (by decide +kernel) ?_) | (refine sd_mk (by first | (simp only [List.length_map, List.length_append, List.length_cons, List.length_nil]; done) | ((try simp only [List.length_map, List.length_append, List.length_cons, List.length_nil, List.length_set, List.length_replicate, List.length_drop, List.length_take, true_and, and_true]); omega) | (dsimp only; omega)) ?_) | (first | refine shl8 (by omega) (by omega) ?_ | refine shl4 (by omega) (by omega) ?_ | refine shl1 (by omega) (by omega) ?_ | refine shl16 (by omega) (by omega) ?_ | refine shl24 (by omega) (by omega) ?_ | refine shr8 (by decide) ?_ | refine shr4 (by decide) ?_ | refine shr1 (by decide) ?_ | refine shr16 (by decide) ?_ | refine shr24 (by decide) ?_) | (with_reducible first | refine bit_mk and_1 ?_ | refine bit_mk and_15 ?_ | refine bit_mk and_255 ?_ | refine bit_mk and_4095 ?_ | refine bit_mk and_65535 ?_) | (refine quo_pos (by omega) (by omega) (by omega) ?_) | (refine rem_pos (by omega) (by omega) ?_)))
  refine end_mk ?_
  (repeat' (first | (refine VS.mk ?_) | exact trivial | exact rfl | refine And.intro ?_ ?_))

theorem evindex_meets : Meets Try.prog n_slices_IndexFunc_api_Equ_api_Equ (SpecF (fun ((l, e) : List OEqu × OExpr) => l.length ≤ 1000000000) (fun (l, e) => [.sl 2 (l.map equD) none, .fn n_expr_Eval_1 [.loc 0 0]])
    (fun (l, e) => [.cells [.int .i64 e.kind, .int .i64 e.n, .str e.name, .sl 4 (e.kids.map exprD) none]]) (fun (l, e) => .int .i64 (idxQ e.name l 0)) fun (l, e) => [.cells [.int .i64 e.kind, .int .i64 e.n, .str e.name, .sl 4 (e.kids.map exprD) none]]) := by
  refine meets_f tabOk Try.func12 rfl (by decide) ?_
  rintro ⟨l, e⟩ hl
  have hl : l.length ≤ 1000000000 := hl
  refine ⟨Nat.le_refl _, by simp [Try.f12], fun E hE => ?_⟩
  refine vcOk _ ?_
  (repeat' (first | (refine VS.mk ?_) | (refine dr_mk ?_) | (refine md_l ?_) | ((first | refine sp_not_dec ?_ ?_ | refine sp_dec ?_ ?_ | refine sp_beq ?_ ?_ | refine sp_bne ?_ ?_ | refine sp_seq ?_ ?_ | refine sp_sne ?_ ?_ | refine sp_not ?_ ?_ | refine sp_any ?_ ?_) <;> (intro hc; try simp only [List.length_map, List.length_append, List.length_cons, List.length_nil, Bool.and_true, Bool.and_eq_true, beq_iff_eq, Bool.and_eq_false_iff, beq_eq_false_iff_ne, Bool.true_and, ne_eq] at hc)) | (with_reducible first | refine norm_one ?_ | refine norm_app ?_ | refine norm_cutEnd ?_ | refine norm_cut ?_ | refine norm_bytes1 ?_ | refine norm_bytes2 ?_ | refine norm_setByte ?_ | refine norm_int1 ?_ | refine norm_mk ?_) | (with_reducible refine bytes_mk ?_) | (refine ar_byte ?_) | (refine ar_i64 (by omega) (by omega) ?_) | (refine ar_low ?_) | (refine ix_byteN (by omega) ?_) | (refine ix_byteK (by simp only [Int.reduceToNat]; exact rfl) (by decide) (by omega) ?_) | (refine ix_byte (by omega) (by omega) ?_) | (refine ix_rfl (by decide) rfl ?_) | (refine sd_mk rfl ?_) | (refine sd_mk (by decide +kernel) ?_) | (refine sd_mk (by first | (simp only [List.length_map, List.length_append, List.length_cons, List.length_nil]; done) | ((try simp only [List.length_map, List.length_append, List.length_cons, List.length_nil, List.length_set, List.length_replicate, List.length_drop, List.length_take, true_and, and_true]); omega) | (dsimp only; omega)) ?_) | (first | refine shl8 (by omega) (by omega) ?_ | refine shl4 (by omega) (by omega) ?_ | refine shl1 (by omega) (by omega) ?_ | refine shl16 (by omega) (by omega) ?_ | refine shl24 (by omega) (by omega) ?_ | refine shr8 (by decide) ?_ | refine shr4 (by decide) ?_ | refine shr1 (by decide) ?_ | refine shr16 (by decide) ?_ | refine shr24 (by decide) ?_) | (with_reducible first | refine bit_mk and_1 ?_ | refine bit_mk and_15 ?_ | refine bit_mk and_255 ?_ | refine bit_mk and_4095 ?_ | refine bit_mk and_65535 ?_) | (refine quo_pos (by omega) (by omega) (by omega) ?_) | (refine rem_pos (by omega) (by omega) ?_)))
  refine awp_loop (α := Nat) (fun k => k ≤ l.length ∧ idxQ e.name l 0 = idxQ e.name (l.drop k) k)
    (fun k => [(7, .int .i64 l.length), (8, .int .i64 k), (0, .sl 2 (l.map equD) none), (1, .fn n_expr_Eval_1 [.loc 0 0])])
    (fun _ => [.cells [.int .i64 e.kind, .int .i64 e.n, .str e.name, .sl 4 (e.kids.map exprD) none]]) (fun k => l.length - k) (fun _ => by simp [hE]) 0 ⟨Nat.zero_le _, by simp⟩ ?_ ?_
  · (repeat' (first | (refine VS.mk ?_) | exact trivial | exact rfl | refine And.intro ?_ ?_))
  rintro k ⟨hk, hf⟩
  refine vcOk _ ?_
  (repeat' (first | (refine VS.mk ?_) | (refine dr_mk ?_) | (refine md_l ?_) | ((first | refine sp_not_dec ?_ ?_ | refine sp_dec ?_ ?_ | refine sp_beq ?_ ?_ | refine sp_bne ?_ ?_ | refine sp_seq ?_ ?_ | refine sp_sne ?_ ?_ | refine sp_not ?_ ?_ | refine sp_any ?_ ?_) <;> (intro hc; try simp only [List.length_map, List.length_append, List.length_cons, List.length_nil, Bool.and_true, Bool.and_eq_true, beq_iff_eq, Bool.and_eq_false_iff, beq_eq_false_iff_ne, Bool.true_and, ne_eq] at hc)) | (with_reducible first | refine norm_one ?_ | refine norm_app ?_ | refine norm_cutEnd ?_ | refine norm_cut ?_ | refine norm_bytes1 ?_ | refine norm_bytes2 ?_ | refine norm_setByte ?_ | refine norm_int1 ?_ | refine norm_mk ?_) | (with_reducible refine bytes_mk ?_) | (refine ar_byte ?_) | (refine ar_i64 (by omega) (by omega) ?_) | (refine ar_low ?_) | (refine ix_byteN (by omega) ?_) | (refine ix_byteK (by simp only [Int.reduceToNat]; exact rfl) (by decide) (by omega) ?_) | (refine ix_byte (by omega) (by omega) ?_) | (refine ix_rfl (by decide) rfl ?_) | (refine sd_mk rfl ?_) | (refine sd_mk (by decide +kernel) ?_) | (refine sd_mk (by first | (simp only [List.length_map, List.length_append, List.length_cons, List.length_nil]; done) | ((try simp only [List.length_map, List.length_append, List.length_cons, List.length_nil, List.length_set, List.length_replicate, List.length_drop, List.length_take, true_and, and_true]); omega) | (dsimp only; omega)) ?_) | (first | refine shl8 (by omega) (by omega) ?_ | refine shl4 (by omega) (by omega) ?_ | refine shl1 (by omega) (by omega) ?_ | refine shl16 (by omega) (by omega) ?_ | refine shl24 (by omega) (by omega) ?_ | refine shr8 (by decide) ?_ | refine shr4 (by decide) ?_ | refine shr1 (by decide) ?_ | refine shr16 (by decide) ?_ | refine shr24 (by decide) ?_) | (with_reducible first | refine bit_mk and_1 ?_ | refine bit_mk and_15 ?_ | refine bit_mk and_255 ?_ | refine bit_mk and_4095 ?_ | refine bit_mk and_65535 ?_) | (refine quo_pos (by omega) (by omega) (by omega) ?_) | (refine rem_pos (by omega) (by omega) ?_)))
  · obtain ⟨s, hsk⟩ := at_of_lt (l := l) (k := k) (by omega)
    have hkl : k < l.length := by omega
    have hget : l[k] = s := by rw [List.getElem?_eq_getElem hkl] at hsk; exact Option.some.inj hsk
    rw [List.drop_eq_getElem_cons hkl, hget, idxQ] at hf
    refine ix_map s (by omega) (by simpa using hsk) ?_
    (repeat' (first | (refine VS.mk ?_) | (refine dr_mk ?_) | (refine md_l ?_) | ((first | refine sp_not_dec ?_ ?_ | refine sp_dec ?_ ?_ | refine sp_beq ?_ ?_ | refine sp_bne ?_ ?_ | refine sp_seq ?_ ?_ | refine sp_sne ?_ ?_ | refine sp_not ?_ ?_ | refine sp_any ?_ ?_) <;> (intro hc; try simp only [List.length_map, List.length_append, List.length_cons, List.length_nil, Bool.and_true, Bool.and_eq_true, beq_iff_eq, Bool.and_eq_false_iff, beq_eq_false_iff_ne, Bool.true_and, ne_eq] at hc)) | (with_reducible first | refine norm_one ?_ | refine norm_app ?_ | refine norm_cutEnd ?_ | refine norm_cut ?_ | refine norm_bytes1 ?_ | refine norm_bytes2 ?_ | refine norm_setByte ?_ | refine norm_int1 ?_ | refine norm_mk ?_) | (with_reducible refine bytes_mk ?_) | (refine ar_byte ?_) | (refine ar_i64 (by omega) (by omega) ?_) | (refine ar_low ?_) | (refine ix_byteN (by omega) ?_) | (refine ix_byteK (by simp only [Int.reduceToNat]; exact rfl) (by decide) (by omega) ?_) | (refine ix_byte (by omega) (by omega) ?_) | (refine ix_rfl (by decide) rfl ?_) | (refine sd_mk rfl ?_) | (refine sd_mk (by decide +kernel) ?_) | (refine sd_mk (by first | (simp only [List.length_map, List.length_append, List.length_cons, List.length_nil]; done) | ((try simp only [List.length_map, List.length_append, List.length_cons, List.length_nil, List.length_set, List.length_replicate, List.length_drop, List.length_take, true_and, and_true]); omega) | (dsimp only; omega)) ?_) | (first | refine shl8 (by omega) (by omega) ?_ | refine shl4 (by omega) (by omega) ?_ | refine shl1 (by omega) (by omega) ?_ | refine shl16 (by omega) (by omega) ?_ | refine shl24 (by omega) (by omega) ?_ | refine shr8 (by decide) ?_ | refine shr4 (by decide) ?_ | refine shr1 (by decide) ?_ | refine shr16 (by decide) ?_ | refine shr24 (by decide) ?_) | (with_reducible first | refine bit_mk and_1 ?_ | refine bit_mk and_15 ?_ | refine bit_mk and_255 ?_ | refine bit_mk and_4095 ?_ | refine bit_mk and_65535 ?_) | (refine quo_pos (by omega) (by omega) (by omega) ?_) | (refine rem_pos (by omega) (by omega) ?_)))
    refine call_f evclos_meets [0] [0] (s, e) trivial rfl rfl ?_
    refine And.intro (VS.mk (LeL.of_eq rfl)) (And.intro (VS.mk rfl) ?_)
    (repeat' (first | (refine VS.mk ?_) | (refine dr_mk ?_) | (refine md_l ?_) | ((first | refine sp_not_dec ?_ ?_ | refine sp_dec ?_ ?_ | refine sp_beq ?_ ?_ | refine sp_bne ?_ ?_ | refine sp_seq ?_ ?_ | refine sp_sne ?_ ?_ | refine sp_not ?_ ?_ | refine sp_any ?_ ?_) <;> (intro hc; try simp only [List.length_map, List.length_append, List.length_cons, List.length_nil, Bool.and_true, Bool.and_eq_true, beq_iff_eq, Bool.and_eq_false_iff, beq_eq_false_iff_ne, Bool.true_and, ne_eq] at hc)) | (with_reducible first | refine norm_one ?_ | refine norm_app ?_ | refine norm_cutEnd ?_ | refine norm_cut ?_ | refine norm_bytes1 ?_ | refine norm_bytes2 ?_ | refine norm_setByte ?_ | refine norm_int1 ?_ | refine norm_mk ?_) | (with_reducible refine bytes_mk ?_) | (refine ar_byte ?_) | (refine ar_i64 (by omega) (by omega) ?_) | (refine ar_low ?_) | (refine ix_byteN (by omega) ?_) | (refine ix_byteK (by simp only [Int.reduceToNat]; exact rfl) (by decide) (by omega) ?_) | (refine ix_byte (by omega) (by omega) ?_) | (refine ix_rfl (by decide) rfl ?_) | (refine sd_mk rfl ?_) | (refine sd_mk (by decide +kernel) ?_) | (refine sd_mk (by first | (simp only [List.length_map, List.length_append, List.length_cons, List.length_nil]; done) | ((try simp only [List.length_map, List.length_append, List.length_cons, List.length_nil, List.length_set, List.length_replicate, List.length_drop, List.length_take, true_and, and_true]); omega) | (dsimp only; omega)) ?_) | (first | refine shl8 (by omega) (by omega) ?_ | refine shl4 (by omega) (by omega) ?_ | refine shl1 (by omega) (by omega) ?_ | refine shl16 (by omega) (by omega) ?_ | refine shl24 (by omega) (by omega) ?_ | refine shr8 (by decide) ?_ | refine shr4 (by decide) ?_ | refine shr1 (by decide) ?_ | refine shr16 (by decide) ?_ | refine shr24 (by decide) ?_) | (with_reducible first | refine bit_mk and_1 ?_ | refine bit_mk and_15 ?_ | refine bit_mk and_255 ?_ | refine bit_mk and_4095 ?_ | refine bit_mk and_65535 ?_) | (refine quo_pos (by omega) (by omega) (by omega) ?_) | (refine rem_pos (by omega) (by omega) ?_)))
    · rw [if_pos hc] at hf
      refine end_mk ?_
      (repeat' (first | (refine VS.mk ?_) | exact trivial | exact rfl | refine And.intro ?_ ?_))
      exact congrArg (D.int .i64) hf.symm
    · rw [if_neg hc] at hf
      refine loop_end (k + 1) ⟨by omega, hf⟩ (by omega) ?_
      (repeat' (first | (refine VS.mk ?_) | exact trivial | exact rfl | refine And.intro ?_ ?_))
  · rw [List.drop_of_length_le (by omega), idxQ] at hf
    refine end_mk ?_
    (repeat' (first | (refine VS.mk ?_) | exact trivial | exact rfl | refine And.intro ?_ ?_))
    exact congrArg (D.int .i64) hf.symm
end Go.Proofs.Ytlilcfkcofafeaa

namespace Go.Proofs.Ytlilcfkcofafeaa
open Go Go.Plat
set_option linter.unusedVariables false
set_option linter.unusedSimpArgs false
set_option maxRecDepth 100000
set_option maxHeartbeats 2000000
attribute [local irreducible] NilS LookS NormM bitI BytesS NormL Arith QuoS RemS ShlS ShrS BitS CatS SplitS SideS IdxS CallS LoopEnd EndS ModeS DrawS AWP Meets
attribute [local irreducible] exprD nodes OExpr.kind OExpr.n OExpr.name OExpr.kids signedI numV evalE evalL twoV findQ idxQ
theorem no_vres {w : Int} {x : OVal × Int} (h : x = (noVal, w)) : LeD (.tup [.agg [.str [], .int .i64 0], .int .i64 w]) (vresD x) := by subst h; exact .refl _

theorem eval_meets (l : List OEqu) (hl : l.length ≤ 1000000000) : ∀ n : Nat, Meets Try.prog n_expr_Eval (SpecP (fun e : OExpr => nodes e ≤ n ∧ nodes e ≤ 1048576) (fun e => [exprU e, .sl 2 (l.map equD) none]) fun e => vresD (evalE l e))
  | 0 => by
    refine meets_f tabOk Try.func7 rfl (by decide) fun e h => ?_
    have := nodes_pos e
    omega
  | n + 1 => by
    have ih := eval_meets l hl n
    refine meets_f tabOk Try.func7 rfl (by decide) ?_
    rintro e ⟨hn, hN⟩
    have hkl := kids_len e
    have hnl := name_len e
    refine ⟨Nat.le_refl _, by simp [Try.f7], fun E hE => ?_⟩
    refine vcOk _ ?_
    (repeat' (first | (refine VS.mk ?_) | (refine dr_mk ?_) | (refine md_l ?_) | ((first | refine sp_not_dec ?_ ?_ | refine sp_dec ?_ ?_ | refine sp_beq ?_ ?_ | refine sp_bne ?_ ?_ | refine sp_seq ?_ ?_ | refine sp_sne ?_ ?_ | refine sp_not ?_ ?_ | refine sp_any ?_ ?_) <;> (intro hc; try simp only [List.length_map, List.length_append, List.length_cons, List.length_nil, Bool.and_true, Bool.and_eq_true, beq_iff_eq, Bool.and_eq_false_iff, beq_eq_false_iff_ne, Bool.true_and, ne_eq] at hc)) | (with_reducible first | refine norm_one ?_ | refine norm_app ?_ | refine norm_cutEnd ?_ | refine norm_cut ?_ | refine norm_bytes1 ?_ | refine norm_bytes2 ?_ | refine norm_setByte ?_ | refine norm_int1 ?_ | refine norm_mk ?_) | (with_reducible refine bytes_mk ?_) | (refine ar_byte ?_) | (refine ar_i64 (by omega) (by omega) ?_) | (refine ar_low ?_) | (refine ix_byteN (by omega) ?_) | (refine ix_byteK (by simp only [Int.reduceToNat]; exact rfl) (by decide) (by omega) ?_) | (refine ix_byte (by omega) (by omega) ?_) | (refine ix_rfl (by decide) rfl ?_) | (refine sd_mk rfl ?_) | (refine sd_mk (by decide +kernel) ?_) | (refine sd_mk (by first | (simp only [List.length_map, List.length_append, List.length_cons, List.length_nil]; done) | ((try simp only [List.length_map, List.length_append, List.length_cons, List.length_nil, List.length_set, List.length_replicate, List.length_drop, List.length_take, true_and, and_true]); omega) | (dsimp only; omega)) ?_) | (first | refine shl8 (by omega) (by omega) ?_ | refine shl4 (by omega) (by omega) ?_ | refine shl1 (by omega) (by omega) ?_ | refine shl16 (by omega) (by omega) ?_ | refine shl24 (by omega) (by omega) ?_ | refine shr8 (by decide) ?_ | refine shr4 (by decide) ?_ | refine shr1 (by decide) ?_ | refine shr16 (by decide) ?_ | refine shr24 (by decide) ?_) | (with_reducible first | refine bit_mk and_1 ?_ | refine bit_mk and_15 ?_ | refine bit_mk and_255 ?_ | refine bit_mk and_4095 ?_ | refine bit_mk and_65535 ?_) | (refine quo_pos (by omega) (by omega) (by omega) ?_) | (refine rem_pos (by omega) (by omega) ?_)))
    refine awp_weak (weak_nil 6 2 rfl) ?_
    generalize hEV : evalL l e.kids = EV at *
    have hev0 : evA l [] e.kids = EV := by rw [evA_all, hEV]
    refine awp_loop (α := Nat × List OVal) (fun p => p.1 ≤ e.kids.length ∧ evA l p.2 (e.kids.drop p.1) = EV ∧ p.2.length = p.1 ∧ (∀ v ∈ p.2, S32 v.n) ∧ nsum p.2 ≤ p.1 * 1048576)
      (fun p => [(13, .sl 4 (e.kids.map exprD) none), (14, .int .i64 e.kids.length), (15, .int .i64 p.1), (1, .sl 2 (l.map equD) none), (2, .loc 0 0), (4, .loc 1 0), (6, .sl 2 (p.2.map valD) (some 2))])
      (fun p => [.cells [.int .i64 e.kind, .int .i64 e.n, .str e.name, .sl 4 (e.kids.map exprD) none], .cells [.str [], .int .i64 0], .spare p.2.length]) (fun p => e.kids.length - p.1) (fun _ => by simp [hE]) (0, []) ⟨Nat.zero_le _, by simpa using hev0, rfl, by simp, by simp [nsum]⟩ ?_ ?_
    · (repeat' (first | (refine VS.mk ?_) | exact trivial | exact rfl | refine And.intro ?_ ?_))
    rintro ⟨k, vs⟩ ⟨hk, hev, hvl, hvs, hns⟩
    dsimp only at hk hev hvl hvs hns ⊢
    refine vcOk _ ?_
    (repeat' (first | (refine VS.mk ?_) | (refine dr_mk ?_) | (refine md_l ?_) | ((first | refine sp_not_dec ?_ ?_ | refine sp_dec ?_ ?_ | refine sp_beq ?_ ?_ | refine sp_bne ?_ ?_ | refine sp_seq ?_ ?_ | refine sp_sne ?_ ?_ | refine sp_not ?_ ?_ | refine sp_any ?_ ?_) <;> (intro hc; try simp only [List.length_map, List.length_append, List.length_cons, List.length_nil, Bool.and_true, Bool.and_eq_true, beq_iff_eq, Bool.and_eq_false_iff, beq_eq_false_iff_ne, Bool.true_and, ne_eq] at hc)) | (with_reducible first | refine norm_one ?_ | refine norm_app ?_ | refine norm_cutEnd ?_ | refine norm_cut ?_ | refine norm_bytes1 ?_ | refine norm_bytes2 ?_ | refine norm_setByte ?_ | refine norm_int1 ?_ | refine norm_mk ?_) | (with_reducible refine bytes_mk ?_) | (refine ar_byte ?_) | (refine ar_i64 (by omega) (by omega) ?_) | (refine ar_low ?_) | (refine ix_byteN (by omega) ?_) | (refine ix_byteK (by simp only [Int.reduceToNat]; exact rfl) (by decide) (by omega) ?_) | (refine ix_byte (by omega) (by omega) ?_) | (refine ix_rfl (by decide) rfl ?_) | (refine sd_mk rfl ?_) | (refine sd_mk (by decide +kernel) ?_) | (refine sd_mk (by first | (simp only [List.length_map, List.length_append, List.length_cons, List.length_nil]; done) | ((try simp only [List.length_map, List.length_append, List.length_cons, List.length_nil, List.length_set, List.length_replicate, List.length_drop, List.length_take, true_and, and_true]); omega) | (dsimp only; omega)) ?_) | (first | refine shl8 (by omega) (by omega) ?_ | refine shl4 (by omega) (by omega) ?_ | refine shl1 (by omega) (by omega) ?_ | refine shl16 (by omega) (by omega) ?_ | refine shl24 (by omega) (by omega) ?_ | refine shr8 (by decide) ?_ | refine shr4 (by decide) ?_ | refine shr1 (by decide) ?_ | refine shr16 (by decide) ?_ | refine shr24 (by decide) ?_) | (with_reducible first | refine bit_mk and_1 ?_ | refine bit_mk and_15 ?_ | refine bit_mk and_255 ?_ | refine bit_mk and_4095 ?_ | refine bit_mk and_65535 ?_) | (refine quo_pos (by omega) (by omega) (by omega) ?_) | (refine rem_pos (by omega) (by omega) ?_)))
    · obtain ⟨x, hx⟩ := at_of_lt (l := e.kids) (k := k) (by omega)
      have hxm := List.mem_of_getElem? hx
      have hxn := nodes_kid hxm
      have hok := eval_ok l x
      have hkl3 : k < e.kids.length := by omega
      have hget : e.kids[k] = x := by rw [List.getElem?_eq_getElem hkl3] at hx; exact Option.some.inj hx
      rw [List.drop_eq_getElem_cons hkl3, hget, evA_cons] at hev
      refine ix_expr x (by omega) (by simpa using hx) ?_
      (repeat' (first | (refine VS.mk ?_) | (refine dr_mk ?_) | (refine md_l ?_) | ((first | refine sp_not_dec ?_ ?_ | refine sp_dec ?_ ?_ | refine sp_beq ?_ ?_ | refine sp_bne ?_ ?_ | refine sp_seq ?_ ?_ | refine sp_sne ?_ ?_ | refine sp_not ?_ ?_ | refine sp_any ?_ ?_) <;> (intro hc; try simp only [List.length_map, List.length_append, List.length_cons, List.length_nil, Bool.and_true, Bool.and_eq_true, beq_iff_eq, Bool.and_eq_false_iff, beq_eq_false_iff_ne, Bool.true_and, ne_eq] at hc)) | (with_reducible first | refine norm_one ?_ | refine norm_app ?_ | refine norm_cutEnd ?_ | refine norm_cut ?_ | refine norm_bytes1 ?_ | refine norm_bytes2 ?_ | refine norm_setByte ?_ | refine norm_int1 ?_ | refine norm_mk ?_) | (with_reducible refine bytes_mk ?_) | (refine ar_byte ?_) | (refine ar_i64 (by omega) (by omega) ?_) | (refine ar_low ?_) | (refine ix_byteN (by omega) ?_) | (refine ix_byteK (by simp only [Int.reduceToNat]; exact rfl) (by decide) (by omega) ?_) | (refine ix_byte (by omega) (by omega) ?_) | (refine ix_rfl (by decide) rfl ?_) | (refine sd_mk rfl ?_) | (refine sd_mk (by decide +kernel) ?_) | (refine sd_mk (by first | (simp only [List.length_map, List.length_append, List.length_cons, List.length_nil]; done) | ((try simp only [List.length_map, List.length_append, List.length_cons, List.length_nil, List.length_set, List.length_replicate, List.length_drop, List.length_take, true_and, and_true]); omega) | (dsimp only; omega)) ?_) | (first | refine shl8 (by omega) (by omega) ?_ | refine shl4 (by omega) (by omega) ?_ | refine shl1 (by omega) (by omega) ?_ | refine shl16 (by omega) (by omega) ?_ | refine shl24 (by omega) (by omega) ?_ | refine shr8 (by decide) ?_ | refine shr4 (by decide) ?_ | refine shr1 (by decide) ?_ | refine shr16 (by decide) ?_ | refine shr24 (by decide) ?_) | (with_reducible first | refine bit_mk and_1 ?_ | refine bit_mk and_15 ?_ | refine bit_mk and_255 ?_ | refine bit_mk and_4095 ?_ | refine bit_mk and_65535 ?_) | (refine quo_pos (by omega) (by omega) (by omega) ?_) | (refine rem_pos (by omega) (by omega) ?_)))
      refine call_p ih x ⟨by omega, by omega⟩ (VS.mk (LeL.of_eq rfl)) ?_
      (repeat' (first | (refine VS.mk ?_) | (refine dr_mk ?_) | (refine md_l ?_) | ((first | refine sp_not_dec ?_ ?_ | refine sp_dec ?_ ?_ | refine sp_beq ?_ ?_ | refine sp_bne ?_ ?_ | refine sp_seq ?_ ?_ | refine sp_sne ?_ ?_ | refine sp_not ?_ ?_ | refine sp_any ?_ ?_) <;> (intro hc; try simp only [List.length_map, List.length_append, List.length_cons, List.length_nil, Bool.and_true, Bool.and_eq_true, beq_iff_eq, Bool.and_eq_false_iff, beq_eq_false_iff_ne, Bool.true_and, ne_eq] at hc)) | (with_reducible first | refine norm_one ?_ | refine norm_app ?_ | refine norm_cutEnd ?_ | refine norm_cut ?_ | refine norm_bytes1 ?_ | refine norm_bytes2 ?_ | refine norm_setByte ?_ | refine norm_int1 ?_ | refine norm_mk ?_) | (with_reducible refine bytes_mk ?_) | (refine ar_byte ?_) | (refine ar_i64 (by omega) (by omega) ?_) | (refine ar_low ?_) | (refine ix_byteN (by omega) ?_) | (refine ix_byteK (by simp only [Int.reduceToNat]; exact rfl) (by decide) (by omega) ?_) | (refine ix_byte (by omega) (by omega) ?_) | (refine ix_rfl (by decide) rfl ?_) | (refine sd_mk rfl ?_) | (refine sd_mk (by decide +kernel) ?_) | (refine sd_mk (by first | (simp only [List.length_map, List.length_append, List.length_cons, List.length_nil]; done) | ((try simp only [List.length_map, List.length_append, List.length_cons, List.length_nil, List.length_set, List.length_replicate, List.length_drop, List.length_take, true_and, and_true]); omega) | (dsimp only; omega)) ?_) | (first | refine shl8 (by omega) (by omega) ?_ | refine shl4 (by omega) (by omega) ?_ | refine shl1 (by omega) (by omega) ?_ | refine shl16 (by omega) (by omega) ?_ | refine shl24 (by omega) (by omega) ?_ | refine shr8 (by decide) ?_ | refine shr4 (by decide) ?_ | refine shr1 (by decide) ?_ | refine shr16 (by decide) ?_ | refine shr24 (by decide) ?_) | (with_reducible first | refine bit_mk and_1 ?_ | refine bit_mk and_15 ?_ | refine bit_mk and_255 ?_ | refine bit_mk and_4095 ?_ | refine bit_mk and_65535 ?_) | (refine quo_pos (by omega) (by omega) (by omega) ?_) | (refine rem_pos (by omega) (by omega) ?_)))
      · rw [if_neg hc] at hev
        subst hev
        exact end_p (VS.mk (no_vres (by rw [evalE_eq, hEV])))
      · rw [if_pos hc] at hev
        have hl1 := hok.len
        refine loop_end (k + 1, vs ++ [(evalE l x).1]) ⟨by (dsimp only; omega), hev, by (dsimp only; rw [List.length_append, hvl]; rfl), fun v hv => ?_, by (dsimp only; rw [nsum_app]; omega)⟩ (by dsimp only; omega) ?_
        · (repeat' (first | (refine VS.mk ?_) | exact trivial | exact rfl | refine And.intro ?_ ?_))
          · simp [valD]
          · simp [valD]
        · rcases List.mem_append.1 hv with h | h
          · exact hvs v h
          · rw [List.mem_singleton.1 h]; exact hok.s32
    all_goals
      rw [List.drop_of_length_le (by omega), evA_nil] at hev
      subst hev
      have hT : evalE l e = topV e.kind e.n e.name vs l := by rw [evalE_eq, hEV]
    any_goals (first | (exfalso; omega) | exact end_p (VS.mk (no_vres (by rw [hT, top_bad (by omega) (by omega) (by omega)]))) | skip)
    · refine call_p signed_meets2 e.n trivial (VS.mk (LeL.of_eq rfl)) ?_
      (repeat' (first | (refine VS.mk ?_) | (refine dr_mk ?_) | (refine md_l ?_) | ((first | refine sp_not_dec ?_ ?_ | refine sp_dec ?_ ?_ | refine sp_beq ?_ ?_ | refine sp_bne ?_ ?_ | refine sp_seq ?_ ?_ | refine sp_sne ?_ ?_ | refine sp_not ?_ ?_ | refine sp_any ?_ ?_) <;> (intro hc; try simp only [List.length_map, List.length_append, List.length_cons, List.length_nil, Bool.and_true, Bool.and_eq_true, beq_iff_eq, Bool.and_eq_false_iff, beq_eq_false_iff_ne, Bool.true_and, ne_eq] at hc)) | (with_reducible first | refine norm_one ?_ | refine norm_app ?_ | refine norm_cutEnd ?_ | refine norm_cut ?_ | refine norm_bytes1 ?_ | refine norm_bytes2 ?_ | refine norm_setByte ?_ | refine norm_int1 ?_ | refine norm_mk ?_) | (with_reducible refine bytes_mk ?_) | (refine ar_byte ?_) | (refine ar_i64 (by omega) (by omega) ?_) | (refine ar_low ?_) | (refine ix_byteN (by omega) ?_) | (refine ix_byteK (by simp only [Int.reduceToNat]; exact rfl) (by decide) (by omega) ?_) | (refine ix_byte (by omega) (by omega) ?_) | (refine ix_rfl (by decide) rfl ?_) | (refine sd_mk rfl ?_) | (refine sd_mk (by decide +kernel) ?_) | (refine sd_mk (by first | (simp only [List.length_map, List.length_append, List.length_cons, List.length_nil]; done) | ((try simp only [List.length_map, List.length_append, List.length_cons, List.length_nil, List.length_set, List.length_replicate, List.length_drop, List.length_take, true_and, and_true]); omega) | (dsimp only; omega)) ?_) | (first | refine shl8 (by omega) (by omega) ?_ | refine shl4 (by omega) (by omega) ?_ | refine shl1 (by omega) (by omega) ?_ | refine shl16 (by omega) (by omega) ?_ | refine shl24 (by omega) (by omega) ?_ | refine shr8 (by decide) ?_ | refine shr4 (by decide) ?_ | refine shr1 (by decide) ?_ | refine shr16 (by decide) ?_ | refine shr24 (by decide) ?_) | (with_reducible first | refine bit_mk and_1 ?_ | refine bit_mk and_15 ?_ | refine bit_mk and_255 ?_ | refine bit_mk and_4095 ?_ | refine bit_mk and_65535 ?_) | (refine quo_pos (by omega) (by omega) (by omega) ?_) | (refine rem_pos (by omega) (by omega) ?_)))
      refine end_p (VS.mk (LeD.of_eq ?_))
      rw [hT, top_num (by omega) (by omega)]
      rfl
    · refine call_f evindex_meets [0] [0] (l, e) hl rfl rfl ?_
      refine And.intro (VS.mk (LeL.of_eq rfl)) (And.intro (VS.mk rfl) ?_)
      rcases idxQ_spec e.name l 0 with ⟨h1, h2⟩ | ⟨i, s, h1, h2, h3⟩
      · dsimp only
        rw [h2]
        (repeat' (first | (refine VS.mk ?_) | (refine dr_mk ?_) | (refine md_l ?_) | ((first | refine sp_not_dec ?_ ?_ | refine sp_dec ?_ ?_ | refine sp_beq ?_ ?_ | refine sp_bne ?_ ?_ | refine sp_seq ?_ ?_ | refine sp_sne ?_ ?_ | refine sp_not ?_ ?_ | refine sp_any ?_ ?_) <;> (intro hc; try simp only [List.length_map, List.length_append, List.length_cons, List.length_nil, Bool.and_true, Bool.and_eq_true, beq_iff_eq, Bool.and_eq_false_iff, beq_eq_false_iff_ne, Bool.true_and, ne_eq] at hc)) | (with_reducible first | refine norm_one ?_ | refine norm_app ?_ | refine norm_cutEnd ?_ | refine norm_cut ?_ | refine norm_bytes1 ?_ | refine norm_bytes2 ?_ | refine norm_setByte ?_ | refine norm_int1 ?_ | refine norm_mk ?_) | (with_reducible refine bytes_mk ?_) | (refine ar_byte ?_) | (refine ar_i64 (by omega) (by omega) ?_) | (refine ar_low ?_) | (refine ix_byteN (by omega) ?_) | (refine ix_byteK (by simp only [Int.reduceToNat]; exact rfl) (by decide) (by omega) ?_) | (refine ix_byte (by omega) (by omega) ?_) | (refine ix_rfl (by decide) rfl ?_) | (refine sd_mk rfl ?_) | (refine sd_mk (by decide +kernel) ?_) | (refine sd_mk (by first | (simp only [List.length_map, List.length_append, List.length_cons, List.length_nil]; done) | ((try simp only [List.length_map, List.length_append, List.length_cons, List.length_nil, List.length_set, List.length_replicate, List.length_drop, List.length_take, true_and, and_true]); omega) | (dsimp only; omega)) ?_) | (first | refine shl8 (by omega) (by omega) ?_ | refine shl4 (by omega) (by omega) ?_ | refine shl1 (by omega) (by omega) ?_ | refine shl16 (by omega) (by omega) ?_ | refine shl24 (by omega) (by omega) ?_ | refine shr8 (by decide) ?_ | refine shr4 (by decide) ?_ | refine shr1 (by decide) ?_ | refine shr16 (by decide) ?_ | refine shr24 (by decide) ?_) | (with_reducible first | refine bit_mk and_1 ?_ | refine bit_mk and_15 ?_ | refine bit_mk and_255 ?_ | refine bit_mk and_4095 ?_ | refine bit_mk and_65535 ?_) | (refine quo_pos (by omega) (by omega) (by omega) ?_) | (refine rem_pos (by omega) (by omega) ?_)))
        · exfalso; omega
        · refine end_p (VS.mk (LeD.of_eq ?_))
          rw [hT, top_name (by omega) (by omega), h1]
          rfl
      · have hil : i < l.length := (List.getElem?_eq_some_iff.1 h1).1
        rw [Nat.zero_add] at h2
        dsimp only
        rw [h2]
        (repeat' (first | (refine VS.mk ?_) | (refine dr_mk ?_) | (refine md_l ?_) | ((first | refine sp_not_dec ?_ ?_ | refine sp_dec ?_ ?_ | refine sp_beq ?_ ?_ | refine sp_bne ?_ ?_ | refine sp_seq ?_ ?_ | refine sp_sne ?_ ?_ | refine sp_not ?_ ?_ | refine sp_any ?_ ?_) <;> (intro hc; try simp only [List.length_map, List.length_append, List.length_cons, List.length_nil, Bool.and_true, Bool.and_eq_true, beq_iff_eq, Bool.and_eq_false_iff, beq_eq_false_iff_ne, Bool.true_and, ne_eq] at hc)) | (with_reducible first | refine norm_one ?_ | refine norm_app ?_ | refine norm_cutEnd ?_ | refine norm_cut ?_ | refine norm_bytes1 ?_ | refine norm_bytes2 ?_ | refine norm_setByte ?_ | refine norm_int1 ?_ | refine norm_mk ?_) | (with_reducible refine bytes_mk ?_) | (refine ar_byte ?_) | (refine ar_i64 (by omega) (by omega) ?_) | (refine ar_low ?_) | (refine ix_byteN (by omega) ?_) | (refine ix_byteK (by simp only [Int.reduceToNat]; exact rfl) (by decide) (by omega) ?_) | (refine ix_byte (by omega) (by omega) ?_) | (refine ix_rfl (by decide) rfl ?_) | (refine sd_mk rfl ?_) | (refine sd_mk (by decide +kernel) ?_) | (refine sd_mk (by first | (simp only [List.length_map, List.length_append, List.length_cons, List.length_nil]; done) | ((try simp only [List.length_map, List.length_append, List.length_cons, List.length_nil, List.length_set, List.length_replicate, List.length_drop, List.length_take, true_and, and_true]); omega) | (dsimp only; omega)) ?_) | (first | refine shl8 (by omega) (by omega) ?_ | refine shl4 (by omega) (by omega) ?_ | refine shl1 (by omega) (by omega) ?_ | refine shl16 (by omega) (by omega) ?_ | refine shl24 (by omega) (by omega) ?_ | refine shr8 (by decide) ?_ | refine shr4 (by decide) ?_ | refine shr1 (by decide) ?_ | refine shr16 (by decide) ?_ | refine shr24 (by decide) ?_) | (with_reducible first | refine bit_mk and_1 ?_ | refine bit_mk and_15 ?_ | refine bit_mk and_255 ?_ | refine bit_mk and_4095 ?_ | refine bit_mk and_65535 ?_) | (refine quo_pos (by omega) (by omega) (by omega) ?_) | (refine rem_pos (by omega) (by omega) ?_)))
        · refine ix_map s (by omega) (by simpa using h1) ?_
          (repeat' (first | (refine VS.mk ?_) | (refine dr_mk ?_) | (refine md_l ?_) | ((first | refine sp_not_dec ?_ ?_ | refine sp_dec ?_ ?_ | refine sp_beq ?_ ?_ | refine sp_bne ?_ ?_ | refine sp_seq ?_ ?_ | refine sp_sne ?_ ?_ | refine sp_not ?_ ?_ | refine sp_any ?_ ?_) <;> (intro hc; try simp only [List.length_map, List.length_append, List.length_cons, List.length_nil, Bool.and_true, Bool.and_eq_true, beq_iff_eq, Bool.and_eq_false_iff, beq_eq_false_iff_ne, Bool.true_and, ne_eq] at hc)) | (with_reducible first | refine norm_one ?_ | refine norm_app ?_ | refine norm_cutEnd ?_ | refine norm_cut ?_ | refine norm_bytes1 ?_ | refine norm_bytes2 ?_ | refine norm_setByte ?_ | refine norm_int1 ?_ | refine norm_mk ?_) | (with_reducible refine bytes_mk ?_) | (refine ar_byte ?_) | (refine ar_i64 (by omega) (by omega) ?_) | (refine ar_low ?_) | (refine ix_byteN (by omega) ?_) | (refine ix_byteK (by simp only [Int.reduceToNat]; exact rfl) (by decide) (by omega) ?_) | (refine ix_byte (by omega) (by omega) ?_) | (refine ix_rfl (by decide) rfl ?_) | (refine sd_mk rfl ?_) | (refine sd_mk (by decide +kernel) ?_) | (refine sd_mk (by first | (simp only [List.length_map, List.length_append, List.length_cons, List.length_nil]; done) | ((try simp only [List.length_map, List.length_append, List.length_cons, List.length_nil, List.length_set, List.length_replicate, List.length_drop, List.length_take, true_and, and_true]); omega) | (dsimp only; omega)) ?_) | (first | refine shl8 (by omega) (by omega) ?_ | refine shl4 (by omega) (by omega) ?_ | refine shl1 (by omega) (by omega) ?_ | refine shl16 (by omega) (by omega) ?_ | refine shl24 (by omega) (by omega) ?_ | refine shr8 (by decide) ?_ | refine shr4 (by decide) ?_ | refine shr1 (by decide) ?_ | refine shr16 (by decide) ?_ | refine shr24 (by decide) ?_) | (with_reducible first | refine bit_mk and_1 ?_ | refine bit_mk and_15 ?_ | refine bit_mk and_255 ?_ | refine bit_mk and_4095 ?_ | refine bit_mk and_65535 ?_) | (refine quo_pos (by omega) (by omega) (by omega) ?_) | (refine rem_pos (by omega) (by omega) ?_)))
          refine call_p signed_meets2 s.n trivial (VS.mk (LeL.of_eq rfl)) ?_
          (repeat' (first | (refine VS.mk ?_) | (refine dr_mk ?_) | (refine md_l ?_) | ((first | refine sp_not_dec ?_ ?_ | refine sp_dec ?_ ?_ | refine sp_beq ?_ ?_ | refine sp_bne ?_ ?_ | refine sp_seq ?_ ?_ | refine sp_sne ?_ ?_ | refine sp_not ?_ ?_ | refine sp_any ?_ ?_) <;> (intro hc; try simp only [List.length_map, List.length_append, List.length_cons, List.length_nil, Bool.and_true, Bool.and_eq_true, beq_iff_eq, Bool.and_eq_false_iff, beq_eq_false_iff_ne, Bool.true_and, ne_eq] at hc)) | (with_reducible first | refine norm_one ?_ | refine norm_app ?_ | refine norm_cutEnd ?_ | refine norm_cut ?_ | refine norm_bytes1 ?_ | refine norm_bytes2 ?_ | refine norm_setByte ?_ | refine norm_int1 ?_ | refine norm_mk ?_) | (with_reducible refine bytes_mk ?_) | (refine ar_byte ?_) | (refine ar_i64 (by omega) (by omega) ?_) | (refine ar_low ?_) | (refine ix_byteN (by omega) ?_) | (refine ix_byteK (by simp only [Int.reduceToNat]; exact rfl) (by decide) (by omega) ?_) | (refine ix_byte (by omega) (by omega) ?_) | (refine ix_rfl (by decide) rfl ?_) | (refine sd_mk rfl ?_) | (refine sd_mk (by decide +kernel) ?_) | (refine sd_mk (by first | (simp only [List.length_map, List.length_append, List.length_cons, List.length_nil]; done) | ((try simp only [List.length_map, List.length_append, List.length_cons, List.length_nil, List.length_set, List.length_replicate, List.length_drop, List.length_take, true_and, and_true]); omega) | (dsimp only; omega)) ?_) | (first | refine shl8 (by omega) (by omega) ?_ | refine shl4 (by omega) (by omega) ?_ | refine shl1 (by omega) (by omega) ?_ | refine shl16 (by omega) (by omega) ?_ | refine shl24 (by omega) (by omega) ?_ | refine shr8 (by decide) ?_ | refine shr4 (by decide) ?_ | refine shr1 (by decide) ?_ | refine shr16 (by decide) ?_ | refine shr24 (by decide) ?_) | (with_reducible first | refine bit_mk and_1 ?_ | refine bit_mk and_15 ?_ | refine bit_mk and_255 ?_ | refine bit_mk and_4095 ?_ | refine bit_mk and_65535 ?_) | (refine quo_pos (by omega) (by omega) (by omega) ?_) | (refine rem_pos (by omega) (by omega) ?_)))
          refine end_p (VS.mk (LeD.of_eq ?_))
          rw [hT, top_name (by omega) (by omega), h3]
          rfl
        · exfalso; omega
    · obtain ⟨v, hv1⟩ := len_one (l := vs) (by omega)
      subst hv1
      obtain ⟨s1, s2⟩ := hvs v (by simp)
      (repeat' (first | (refine VS.mk ?_) | (refine dr_mk ?_) | (refine md_l ?_) | ((first | refine sp_not_dec ?_ ?_ | refine sp_dec ?_ ?_ | refine sp_beq ?_ ?_ | refine sp_bne ?_ ?_ | refine sp_seq ?_ ?_ | refine sp_sne ?_ ?_ | refine sp_not ?_ ?_ | refine sp_any ?_ ?_) <;> (intro hc; try simp only [List.length_map, List.length_append, List.length_cons, List.length_nil, Bool.and_true, Bool.and_eq_true, beq_iff_eq, Bool.and_eq_false_iff, beq_eq_false_iff_ne, Bool.true_and, ne_eq] at hc)) | (with_reducible first | refine norm_one ?_ | refine norm_app ?_ | refine norm_cutEnd ?_ | refine norm_cut ?_ | refine norm_bytes1 ?_ | refine norm_bytes2 ?_ | refine norm_setByte ?_ | refine norm_int1 ?_ | refine norm_mk ?_) | (with_reducible refine bytes_mk ?_) | (refine ar_byte ?_) | (refine ar_i64 (by omega) (by omega) ?_) | (refine ar_low ?_) | (refine ix_byteN (by omega) ?_) | (refine ix_byteK (by simp only [Int.reduceToNat]; exact rfl) (by decide) (by omega) ?_) | (refine ix_byte (by omega) (by omega) ?_) | (refine ix_rfl (by decide) rfl ?_) | (refine sd_mk rfl ?_) | (refine sd_mk (by decide +kernel) ?_) | (refine sd_mk (by first | (simp only [List.length_map, List.length_append, List.length_cons, List.length_nil]; done) | ((try simp only [List.length_map, List.length_append, List.length_cons, List.length_nil, List.length_set, List.length_replicate, List.length_drop, List.length_take, true_and, and_true]); omega) | (dsimp only; omega)) ?_) | (first | refine shl8 (by omega) (by omega) ?_ | refine shl4 (by omega) (by omega) ?_ | refine shl1 (by omega) (by omega) ?_ | refine shl16 (by omega) (by omega) ?_ | refine shl24 (by omega) (by omega) ?_ | refine shr8 (by decide) ?_ | refine shr4 (by decide) ?_ | refine shr1 (by decide) ?_ | refine shr16 (by decide) ?_ | refine shr24 (by decide) ?_) | (with_reducible first | refine bit_mk and_1 ?_ | refine bit_mk and_15 ?_ | refine bit_mk and_255 ?_ | refine bit_mk and_4095 ?_ | refine bit_mk and_65535 ?_) | (refine quo_pos (by omega) (by omega) (by omega) ?_) | (refine rem_pos (by omega) (by omega) ?_)))
      · exact end_p (VS.mk (no_vres (by rw [hT, top_one (by omega), if_neg (by assumption)])))
      · refine call_p signed_meets2 (-v.n) trivial (VS.mk (LeL.of_eq (by rw [Int.zero_sub]))) ?_
        (repeat' (first | (refine VS.mk ?_) | (refine dr_mk ?_) | (refine md_l ?_) | ((first | refine sp_not_dec ?_ ?_ | refine sp_dec ?_ ?_ | refine sp_beq ?_ ?_ | refine sp_bne ?_ ?_ | refine sp_seq ?_ ?_ | refine sp_sne ?_ ?_ | refine sp_not ?_ ?_ | refine sp_any ?_ ?_) <;> (intro hc; try simp only [List.length_map, List.length_append, List.length_cons, List.length_nil, Bool.and_true, Bool.and_eq_true, beq_iff_eq, Bool.and_eq_false_iff, beq_eq_false_iff_ne, Bool.true_and, ne_eq] at hc)) | (with_reducible first | refine norm_one ?_ | refine norm_app ?_ | refine norm_cutEnd ?_ | refine norm_cut ?_ | refine norm_bytes1 ?_ | refine norm_bytes2 ?_ | refine norm_setByte ?_ | refine norm_int1 ?_ | refine norm_mk ?_) | (with_reducible refine bytes_mk ?_) | (refine ar_byte ?_) | (refine ar_i64 (by omega) (by omega) ?_) | (refine ar_low ?_) | (refine ix_byteN (by omega) ?_) | (refine ix_byteK (by simp only [Int.reduceToNat]; exact rfl) (by decide) (by omega) ?_) | (refine ix_byte (by omega) (by omega) ?_) | (refine ix_rfl (by decide) rfl ?_) | (refine sd_mk rfl ?_) | (refine sd_mk (by decide +kernel) ?_) | (refine sd_mk (by first | (simp only [List.length_map, List.length_append, List.length_cons, List.length_nil]; done) | ((try simp only [List.length_map, List.length_append, List.length_cons, List.length_nil, List.length_set, List.length_replicate, List.length_drop, List.length_take, true_and, and_true]); omega) | (dsimp only; omega)) ?_) | (first | refine shl8 (by omega) (by omega) ?_ | refine shl4 (by omega) (by omega) ?_ | refine shl1 (by omega) (by omega) ?_ | refine shl16 (by omega) (by omega) ?_ | refine shl24 (by omega) (by omega) ?_ | refine shr8 (by decide) ?_ | refine shr4 (by decide) ?_ | refine shr1 (by decide) ?_ | refine shr16 (by decide) ?_ | refine shr24 (by decide) ?_) | (with_reducible first | refine bit_mk and_1 ?_ | refine bit_mk and_15 ?_ | refine bit_mk and_255 ?_ | refine bit_mk and_4095 ?_ | refine bit_mk and_65535 ?_) | (refine quo_pos (by omega) (by omega) (by omega) ?_) | (refine rem_pos (by omega) (by omega) ?_)))
        refine end_p (VS.mk (LeD.of_eq ?_))
        rw [hT, top_one (by omega), if_pos (by assumption), if_pos (by assumption)]
        rfl
      · exfalso; omega
    · obtain ⟨v, hv1⟩ := len_one (l := vs) (by omega)
      subst hv1
      obtain ⟨s1, s2⟩ := hvs v (by simp)
      (repeat' (first | (refine VS.mk ?_) | (refine dr_mk ?_) | (refine md_l ?_) | ((first | refine sp_not_dec ?_ ?_ | refine sp_dec ?_ ?_ | refine sp_beq ?_ ?_ | refine sp_bne ?_ ?_ | refine sp_seq ?_ ?_ | refine sp_sne ?_ ?_ | refine sp_not ?_ ?_ | refine sp_any ?_ ?_) <;> (intro hc; try simp only [List.length_map, List.length_append, List.length_cons, List.length_nil, Bool.and_true, Bool.and_eq_true, beq_iff_eq, Bool.and_eq_false_iff, beq_eq_false_iff_ne, Bool.true_and, ne_eq] at hc)) | (with_reducible first | refine norm_one ?_ | refine norm_app ?_ | refine norm_cutEnd ?_ | refine norm_cut ?_ | refine norm_bytes1 ?_ | refine norm_bytes2 ?_ | refine norm_setByte ?_ | refine norm_int1 ?_ | refine norm_mk ?_) | (with_reducible refine bytes_mk ?_) | (refine ar_byte ?_) | (refine ar_i64 (by omega) (by omega) ?_) | (refine ar_low ?_) | (refine ix_byteN (by omega) ?_) | (refine ix_byteK (by simp only [Int.reduceToNat]; exact rfl) (by decide) (by omega) ?_) | (refine ix_byte (by omega) (by omega) ?_) | (refine ix_rfl (by decide) rfl ?_) | (refine sd_mk rfl ?_) | (refine sd_mk (by decide +kernel) ?_) | (refine sd_mk (by first | (simp only [List.length_map, List.length_append, List.length_cons, List.length_nil]; done) | ((try simp only [List.length_map, List.length_append, List.length_cons, List.length_nil, List.length_set, List.length_replicate, List.length_drop, List.length_take, true_and, and_true]); omega) | (dsimp only; omega)) ?_) | (first | refine shl8 (by omega) (by omega) ?_ | refine shl4 (by omega) (by omega) ?_ | refine shl1 (by omega) (by omega) ?_ | refine shl16 (by omega) (by omega) ?_ | refine shl24 (by omega) (by omega) ?_ | refine shr8 (by decide) ?_ | refine shr4 (by decide) ?_ | refine shr1 (by decide) ?_ | refine shr16 (by decide) ?_ | refine shr24 (by decide) ?_) | (with_reducible first | refine bit_mk and_1 ?_ | refine bit_mk and_15 ?_ | refine bit_mk and_255 ?_ | refine bit_mk and_4095 ?_ | refine bit_mk and_65535 ?_) | (refine quo_pos (by omega) (by omega) (by omega) ?_) | (refine rem_pos (by omega) (by omega) ?_)))
      · exact end_p (VS.mk (no_vres (by rw [hT, top_one (by omega), if_neg (by assumption)])))
      · exfalso; omega
      · refine bit_mk (not_i64 (by omega) (by omega)) ?_
        (repeat' (first | (refine VS.mk ?_) | (refine dr_mk ?_) | (refine md_l ?_) | ((first | refine sp_not_dec ?_ ?_ | refine sp_dec ?_ ?_ | refine sp_beq ?_ ?_ | refine sp_bne ?_ ?_ | refine sp_seq ?_ ?_ | refine sp_sne ?_ ?_ | refine sp_not ?_ ?_ | refine sp_any ?_ ?_) <;> (intro hc; try simp only [List.length_map, List.length_append, List.length_cons, List.length_nil, Bool.and_true, Bool.and_eq_true, beq_iff_eq, Bool.and_eq_false_iff, beq_eq_false_iff_ne, Bool.true_and, ne_eq] at hc)) | (with_reducible first | refine norm_one ?_ | refine norm_app ?_ | refine norm_cutEnd ?_ | refine norm_cut ?_ | refine norm_bytes1 ?_ | refine norm_bytes2 ?_ | refine norm_setByte ?_ | refine norm_int1 ?_ | refine norm_mk ?_) | (with_reducible refine bytes_mk ?_) | (refine ar_byte ?_) | (refine ar_i64 (by omega) (by omega) ?_) | (refine ar_low ?_) | (refine ix_byteN (by omega) ?_) | (refine ix_byteK (by simp only [Int.reduceToNat]; exact rfl) (by decide) (by omega) ?_) | (refine ix_byte (by omega) (by omega) ?_) | (refine ix_rfl (by decide) rfl ?_) | (refine sd_mk rfl ?_) | (refine sd_mk (by decide +kernel) ?_) | (refine sd_mk (by first | (simp only [List.length_map, List.length_append, List.length_cons, List.length_nil]; done) | ((try simp only [List.length_map, List.length_append, List.length_cons, List.length_nil, List.length_set, List.length_replicate, List.length_drop, List.length_take, true_and, and_true]); omega) | (dsimp only; omega)) ?_) | (first | refine shl8 (by omega) (by omega) ?_ | refine shl4 (by omega) (by omega) ?_ | refine shl1 (by omega) (by omega) ?_ | refine shl16 (by omega) (by omega) ?_ | refine shl24 (by omega) (by omega) ?_ | refine shr8 (by decide) ?_ | refine shr4 (by decide) ?_ | refine shr1 (by decide) ?_ | refine shr16 (by decide) ?_ | refine shr24 (by decide) ?_) | (with_reducible first | refine bit_mk and_1 ?_ | refine bit_mk and_15 ?_ | refine bit_mk and_255 ?_ | refine bit_mk and_4095 ?_ | refine bit_mk and_65535 ?_) | (refine quo_pos (by omega) (by omega) (by omega) ?_) | (refine rem_pos (by omega) (by omega) ?_)))
        refine call_p signed_meets2 (-v.n - 1) trivial (VS.mk (LeL.of_eq rfl)) ?_
        (repeat' (first | (refine VS.mk ?_) | (refine dr_mk ?_) | (refine md_l ?_) | ((first | refine sp_not_dec ?_ ?_ | refine sp_dec ?_ ?_ | refine sp_beq ?_ ?_ | refine sp_bne ?_ ?_ | refine sp_seq ?_ ?_ | refine sp_sne ?_ ?_ | refine sp_not ?_ ?_ | refine sp_any ?_ ?_) <;> (intro hc; try simp only [List.length_map, List.length_append, List.length_cons, List.length_nil, Bool.and_true, Bool.and_eq_true, beq_iff_eq, Bool.and_eq_false_iff, beq_eq_false_iff_ne, Bool.true_and, ne_eq] at hc)) | (with_reducible first | refine norm_one ?_ | refine norm_app ?_ | refine norm_cutEnd ?_ | refine norm_cut ?_ | refine norm_bytes1 ?_ | refine norm_bytes2 ?_ | refine norm_setByte ?_ | refine norm_int1 ?_ | refine norm_mk ?_) | (with_reducible refine bytes_mk ?_) | (refine ar_byte ?_) | (refine ar_i64 (by omega) (by omega) ?_) | (refine ar_low ?_) | (refine ix_byteN (by omega) ?_) | (refine ix_byteK (by simp only [Int.reduceToNat]; exact rfl) (by decide) (by omega) ?_) | (refine ix_byte (by omega) (by omega) ?_) | (refine ix_rfl (by decide) rfl ?_) | (refine sd_mk rfl ?_) | (refine sd_mk (by decide +kernel) ?_) | (refine sd_mk (by first | (simp only [List.length_map, List.length_append, List.length_cons, List.length_nil]; done) | ((try simp only [List.length_map, List.length_append, List.length_cons, List.length_nil, List.length_set, List.length_replicate, List.length_drop, List.length_take, true_and, and_true]); omega) | (dsimp only; omega)) ?_) | (first | refine shl8 (by omega) (by omega) ?_ | refine shl4 (by omega) (by omega) ?_ | refine shl1 (by omega) (by omega) ?_ | refine shl16 (by omega) (by omega) ?_ | refine shl24 (by omega) (by omega) ?_ | refine shr8 (by decide) ?_ | refine shr4 (by decide) ?_ | refine shr1 (by decide) ?_ | refine shr16 (by decide) ?_ | refine shr24 (by decide) ?_) | (with_reducible first | refine bit_mk and_1 ?_ | refine bit_mk and_15 ?_ | refine bit_mk and_255 ?_ | refine bit_mk and_4095 ?_ | refine bit_mk and_65535 ?_) | (refine quo_pos (by omega) (by omega) (by omega) ?_) | (refine rem_pos (by omega) (by omega) ?_)))
        refine end_p (VS.mk (LeD.of_eq ?_))
        rw [hT, top_one (by omega), if_pos (by assumption), if_neg (by omega)]
        rfl
    · obtain ⟨a, b, hab⟩ := len_two (l := vs) (by omega)
      subst hab
      have sa := hvs a (by simp)
      have sb := hvs b (by simp)
      simp only [nsum] at hns
      (repeat' (first | (refine VS.mk ?_) | (refine dr_mk ?_) | (refine md_l ?_) | ((first | refine sp_not_dec ?_ ?_ | refine sp_dec ?_ ?_ | refine sp_beq ?_ ?_ | refine sp_bne ?_ ?_ | refine sp_seq ?_ ?_ | refine sp_sne ?_ ?_ | refine sp_not ?_ ?_ | refine sp_any ?_ ?_) <;> (intro hc; try simp only [List.length_map, List.length_append, List.length_cons, List.length_nil, Bool.and_true, Bool.and_eq_true, beq_iff_eq, Bool.and_eq_false_iff, beq_eq_false_iff_ne, Bool.true_and, ne_eq] at hc)) | (with_reducible first | refine norm_one ?_ | refine norm_app ?_ | refine norm_cutEnd ?_ | refine norm_cut ?_ | refine norm_bytes1 ?_ | refine norm_bytes2 ?_ | refine norm_setByte ?_ | refine norm_int1 ?_ | refine norm_mk ?_) | (with_reducible refine bytes_mk ?_) | (refine ar_byte ?_) | (refine ar_i64 (by omega) (by omega) ?_) | (refine ar_low ?_) | (refine ix_byteN (by omega) ?_) | (refine ix_byteK (by simp only [Int.reduceToNat]; exact rfl) (by decide) (by omega) ?_) | (refine ix_byte (by omega) (by omega) ?_) | (refine ix_rfl (by decide) rfl ?_) | (refine sd_mk rfl ?_) | (refine sd_mk (by decide +kernel) ?_) | (refine sd_mk (by first | (simp only [List.length_map, List.length_append, List.length_cons, List.length_nil]; done) | ((try simp only [List.length_map, List.length_append, List.length_cons, List.length_nil, List.length_set, List.length_replicate, List.length_drop, List.length_take, true_and, and_true]); omega) | (dsimp only; omega)) ?_) | (first | refine shl8 (by omega) (by omega) ?_ | refine shl4 (by omega) (by omega) ?_ | refine shl1 (by omega) (by omega) ?_ | refine shl16 (by omega) (by omega) ?_ | refine shl24 (by omega) (by omega) ?_ | refine shr8 (by decide) ?_ | refine shr4 (by decide) ?_ | refine shr1 (by decide) ?_ | refine shr16 (by decide) ?_ | refine shr24 (by decide) ?_) | (with_reducible first | refine bit_mk and_1 ?_ | refine bit_mk and_15 ?_ | refine bit_mk and_255 ?_ | refine bit_mk and_4095 ?_ | refine bit_mk and_65535 ?_) | (refine quo_pos (by omega) (by omega) (by omega) ?_) | (refine rem_pos (by omega) (by omega) ?_)))
      refine call_p two_meets (e.kind, a, b) ⟨sa, sb, by omega, by omega⟩ (VS.mk (LeL.of_eq rfl)) ?_
      (repeat' (first | (refine VS.mk ?_) | (refine dr_mk ?_) | (refine md_l ?_) | ((first | refine sp_not_dec ?_ ?_ | refine sp_dec ?_ ?_ | refine sp_beq ?_ ?_ | refine sp_bne ?_ ?_ | refine sp_seq ?_ ?_ | refine sp_sne ?_ ?_ | refine sp_not ?_ ?_ | refine sp_any ?_ ?_) <;> (intro hc; try simp only [List.length_map, List.length_append, List.length_cons, List.length_nil, Bool.and_true, Bool.and_eq_true, beq_iff_eq, Bool.and_eq_false_iff, beq_eq_false_iff_ne, Bool.true_and, ne_eq] at hc)) | (with_reducible first | refine norm_one ?_ | refine norm_app ?_ | refine norm_cutEnd ?_ | refine norm_cut ?_ | refine norm_bytes1 ?_ | refine norm_bytes2 ?_ | refine norm_setByte ?_ | refine norm_int1 ?_ | refine norm_mk ?_) | (with_reducible refine bytes_mk ?_) | (refine ar_byte ?_) | (refine ar_i64 (by omega) (by omega) ?_) | (refine ar_low ?_) | (refine ix_byteN (by omega) ?_) | (refine ix_byteK (by simp only [Int.reduceToNat]; exact rfl) (by decide) (by omega) ?_) | (refine ix_byte (by omega) (by omega) ?_) | (refine ix_rfl (by decide) rfl ?_) | (refine sd_mk rfl ?_) | (refine sd_mk (by decide +kernel) ?_) | (refine sd_mk (by first | (simp only [List.length_map, List.length_append, List.length_cons, List.length_nil]; done) | ((try simp only [List.length_map, List.length_append, List.length_cons, List.length_nil, List.length_set, List.length_replicate, List.length_drop, List.length_take, true_and, and_true]); omega) | (dsimp only; omega)) ?_) | (first | refine shl8 (by omega) (by omega) ?_ | refine shl4 (by omega) (by omega) ?_ | refine shl1 (by omega) (by omega) ?_ | refine shl16 (by omega) (by omega) ?_ | refine shl24 (by omega) (by omega) ?_ | refine shr8 (by decide) ?_ | refine shr4 (by decide) ?_ | refine shr1 (by decide) ?_ | refine shr16 (by decide) ?_ | refine shr24 (by decide) ?_) | (with_reducible first | refine bit_mk and_1 ?_ | refine bit_mk and_15 ?_ | refine bit_mk and_255 ?_ | refine bit_mk and_4095 ?_ | refine bit_mk and_65535 ?_) | (refine quo_pos (by omega) (by omega) (by omega) ?_) | (refine rem_pos (by omega) (by omega) ?_)))
      refine end_p (VS.mk (LeD.of_eq ?_))
      rw [hT, top_two (by omega)]
      rfl
end Go.Proofs.Ytlilcfkcofafeaa

namespace Go.Proofs.Ytlilcfkcofafeaa
open Go Go.Plat
set_option linter.unusedVariables false
set_option linter.unusedSimpArgs false
set_option maxRecDepth 100000
set_option maxHeartbeats 2000000
attribute [local irreducible] NilS LookS NormM bitI BytesS NormL Arith QuoS RemS ShlS ShrS BitS CatS SplitS SideS IdxS CallS LoopEnd EndS ModeS DrawS AWP Meets
attribute [local irreducible] exprD nodes OExpr.kind OExpr.n OExpr.name OExpr.kids signedI numV evalE evalL twoV findQ idxQ

def nameV (k : Int) (a b : OVal) : Option (List UInt8) :=
  if a.name = [] ∧ b.name = [] then some [] else if k = 7 ∧ a.name = b.name then some [] else if k = 7 ∧ b.name = [] then some a.name
  else if k = 6 ∧ a.name = [] then some b.name else if k = 6 ∧ b.name = [] then some a.name else none
theorem two_name (k : Int) (a b : OVal) : twoV k a b = match nameV k a b with | some n => (⟨n, numV k a.n b.n⟩, 0) | none => (noVal, 8) := by
  unfold twoV nameV noVal
  by_cases h1 : a.name = [] <;> by_cases h2 : b.name = [] <;> by_cases h3 : a.name = b.name <;> by_cases h4 : k = 6 <;> by_cases h5 : k = 7 <;> simp_all
theorem two_res {k X : Int} {a b : OVal} {n : List UInt8} {x : OVal × Int} (hx : x = twoV k a b) (hn : nameV k a b = some n) (hX : X = numV k a.n b.n) : D.tup [.agg [.str n, .int .i64 X], .int .i64 0] = vresD x := by
  subst hX; rw [hx, two_name, hn]; rfl
theorem two_no {k : Int} {a b : OVal} {x : OVal × Int} (hx : x = twoV k a b) (hn : nameV k a b = none) : x = (noVal, 8) := by
  rw [hx, two_name, hn]
theorem ar_i32s {n : Int} {K : D → Prop} (hs : S32 n) (h : K (.int .i32 n)) : Arith .i32 n K := ar_i32 (by rw [signed_same hs]; exact h)
theorem rem_u32 {x : Int} {K : D → Prop} (h0 : 0 ≤ x) (h : K (.int .u32 (x % 32))) : RemS .u32 x 32 K := by
  unfold RemS
  exact ⟨by decide, by rw [Int.tmod_eq_emod_of_nonneg h0]; exact h⟩
theorem reval_meets (l : List OEqu) (hl : l.length ≤ 1000000000) : ∀ n : Nat, Meets Try.prog n_plref1_Eval (SpecP (fun e : OExpr => nodes e ≤ n ∧ nodes e ≤ 1048576) (fun e => [exprU e, .sl 2 (l.map equD) none]) fun e => vresD (evalE l e))
  | 0 => by
    refine meets_f tabOk Try.func8 rfl (by decide) fun e h => ?_
    have := nodes_pos e
    omega
  | n + 1 => by
    have ih := reval_meets l hl n
    refine meets_f tabOk Try.func8 rfl (by decide) ?_
    rintro e ⟨hn, hN⟩
    have hkl := kids_len e
    have hnl := name_len e
    refine ⟨Nat.le_refl _, by simp [Try.f8], fun E hE => ?_⟩
    refine vcOk _ ?_
    (repeat' (first | (refine VS.mk ?_) | (refine dr_mk ?_) | (refine md_l ?_) | ((first | refine sp_not_dec ?_ ?_ | refine sp_dec ?_ ?_ | refine sp_beq ?_ ?_ | refine sp_bne ?_ ?_ | refine sp_seq ?_ ?_ | refine sp_sne ?_ ?_ | refine sp_not ?_ ?_ | refine sp_any ?_ ?_) <;> (intro hc; try simp only [List.length_map, List.length_append, List.length_cons, List.length_nil, Bool.and_true, Bool.and_eq_true, beq_iff_eq, Bool.and_eq_false_iff, beq_eq_false_iff_ne, Bool.true_and, ne_eq] at hc)) | (with_reducible first | refine norm_one ?_ | refine norm_app ?_ | refine norm_cutEnd ?_ | refine norm_cut ?_ | refine norm_bytes1 ?_ | refine norm_bytes2 ?_ | refine norm_setByte ?_ | refine norm_int1 ?_ | refine norm_mk ?_) | (with_reducible refine bytes_mk ?_) | (refine ar_byte ?_) | (refine ar_i64 (by omega) (by omega) ?_) | (refine ar_low ?_) | (refine ix_byteN (by omega) ?_) | (refine ix_byteK (by simp only [Int.reduceToNat]; exact rfl) (by decide) (by omega) ?_) | (refine ix_byte (by omega) (by omega) ?_) | (refine ix_rfl (by decide) rfl ?_) | (refine sd_mk rfl ?_) | (refine sd_mk (by decide +kernel) ?_) | (refine sd_mk (by first | (simp only [List.length_map, List.length_append, List.length_cons, List.length_nil]; done) | ((try simp only [List.length_map, List.length_append, List.length_cons, List.length_nil, List.length_set, List.length_replicate, List.length_drop, List.length_take, true_and, and_true]); omega) | (dsimp only; omega)) ?_) | (first | refine shl8 (by omega) (by omega) ?_ | refine shl4 (by omega) (by omega) ?_ | refine shl1 (by omega) (by omega) ?_ | refine shl16 (by omega) (by omega) ?_ | refine shl24 (by omega) (by omega) ?_ | refine shr8 (by decide) ?_ | refine shr4 (by decide) ?_ | refine shr1 (by decide) ?_ | refine shr16 (by decide) ?_ | refine shr24 (by decide) ?_) | (with_reducible first | refine bit_mk and_1 ?_ | refine bit_mk and_15 ?_ | refine bit_mk and_255 ?_ | refine bit_mk and_4095 ?_ | refine bit_mk and_65535 ?_) | (refine quo_pos (by omega) (by omega) (by omega) ?_) | (refine rem_pos (by omega) (by omega) ?_)))
    refine awp_weak (weak_nil 6 2 rfl) ?_
    generalize hEV : evalL l e.kids = EV at *
    have hev0 : evA l [] e.kids = EV := by rw [evA_all, hEV]
    refine awp_loop (α := Nat × List OVal) (fun p => p.1 ≤ e.kids.length ∧ evA l p.2 (e.kids.drop p.1) = EV ∧ p.2.length = p.1 ∧ (∀ v ∈ p.2, S32 v.n) ∧ nsum p.2 ≤ p.1 * 1048576)
      (fun p => [(21, .sl 4 (e.kids.map exprD) none), (22, .int .i64 e.kids.length), (23, .int .i64 p.1), (1, .sl 2 (l.map equD) none), (2, .loc 0 0), (4, .loc 1 0), (6, .sl 2 (p.2.map valD) (some 2))])
      (fun p => [.cells [.int .i64 e.kind, .int .i64 e.n, .str e.name, .sl 4 (e.kids.map exprD) none], .cells [.str [], .int .i64 0], .spare p.2.length]) (fun p => e.kids.length - p.1) (fun _ => by simp [hE]) (0, []) ⟨Nat.zero_le _, by simpa using hev0, rfl, by simp, by simp [nsum]⟩ ?_ ?_
    · (repeat' (first | (refine VS.mk ?_) | exact trivial | exact rfl | refine And.intro ?_ ?_))
    rintro ⟨k, vs⟩ ⟨hk, hev, hvl, hvs, hns⟩
    dsimp only at hk hev hvl hvs hns ⊢
    by_cases hkk : k < e.kids.length
    · obtain ⟨x, hx⟩ := at_of_lt (l := e.kids) (k := k) (by omega)
      refine vcOk _ ?_
      have hxm := List.mem_of_getElem? hx
      have hxn := nodes_kid hxm
      have hok := eval_ok l x
      have hget : e.kids[k] = x := by rw [List.getElem?_eq_getElem hkk] at hx; exact Option.some.inj hx
      rw [List.drop_eq_getElem_cons hkk, hget, evA_cons] at hev
      (repeat' (first | (refine VS.mk ?_) | (refine dr_mk ?_) | (refine md_l ?_) | ((first | refine sp_not_dec ?_ ?_ | refine sp_dec ?_ ?_ | refine sp_beq ?_ ?_ | refine sp_bne ?_ ?_ | refine sp_seq ?_ ?_ | refine sp_sne ?_ ?_ | refine sp_not ?_ ?_ | refine sp_any ?_ ?_) <;> (intro hc; (try simp only [List.length_map, List.length_append, List.length_cons, List.length_nil, Bool.and_true, Bool.and_eq_true, beq_iff_eq, Bool.and_eq_false_iff, beq_eq_false_iff_ne, Bool.true_and, ne_eq] at hc); (try (exfalso; omega)))) | (with_reducible first | refine norm_one ?_ | refine norm_app ?_ | refine norm_cutEnd ?_ | refine norm_cut ?_ | refine norm_bytes1 ?_ | refine norm_bytes2 ?_ | refine norm_setByte ?_ | refine norm_int1 ?_ | refine norm_mk ?_) | (with_reducible refine bytes_mk ?_) | (refine ar_byte ?_) | (refine ar_i64 (by omega) (by omega) ?_) | (refine ar_low ?_) | (refine ix_byteN (by omega) ?_) | (refine ix_byteK (by simp only [Int.reduceToNat]; exact rfl) (by decide) (by omega) ?_) | (refine ix_byte (by omega) (by omega) ?_) | (refine ix_rfl (by decide) rfl ?_) | (refine sd_mk rfl ?_) | (refine sd_mk (by decide +kernel) ?_) | (refine sd_mk (by first | (simp only [List.length_map, List.length_append, List.length_cons, List.length_nil]; done) | ((try simp only [List.length_map, List.length_append, List.length_cons, List.length_nil, List.length_set, List.length_replicate, List.length_drop, List.length_take, true_and, and_true]); omega) | (dsimp only; omega)) ?_) | (first | refine shl8 (by omega) (by omega) ?_ | refine shl4 (by omega) (by omega) ?_ | refine shl1 (by omega) (by omega) ?_ | refine shl16 (by omega) (by omega) ?_ | refine shl24 (by omega) (by omega) ?_ | refine shr8 (by decide) ?_ | refine shr4 (by decide) ?_ | refine shr1 (by decide) ?_ | refine shr16 (by decide) ?_ | refine shr24 (by decide) ?_) | (with_reducible first | refine bit_mk and_1 ?_ | refine bit_mk and_15 ?_ | refine bit_mk and_255 ?_ | refine bit_mk and_4095 ?_ | refine bit_mk and_65535 ?_) | (refine quo_pos (by omega) (by omega) (by omega) ?_) | (refine rem_pos (by omega) (by omega) ?_)))
      refine ix_expr x (by omega) (by simpa using hx) ?_
      (repeat' (first | (refine VS.mk ?_) | (refine dr_mk ?_) | (refine md_l ?_) | ((first | refine sp_not_dec ?_ ?_ | refine sp_dec ?_ ?_ | refine sp_beq ?_ ?_ | refine sp_bne ?_ ?_ | refine sp_seq ?_ ?_ | refine sp_sne ?_ ?_ | refine sp_not ?_ ?_ | refine sp_any ?_ ?_) <;> (intro hc; try simp only [List.length_map, List.length_append, List.length_cons, List.length_nil, Bool.and_true, Bool.and_eq_true, beq_iff_eq, Bool.and_eq_false_iff, beq_eq_false_iff_ne, Bool.true_and, ne_eq] at hc)) | (with_reducible first | refine norm_one ?_ | refine norm_app ?_ | refine norm_cutEnd ?_ | refine norm_cut ?_ | refine norm_bytes1 ?_ | refine norm_bytes2 ?_ | refine norm_setByte ?_ | refine norm_int1 ?_ | refine norm_mk ?_) | (with_reducible refine bytes_mk ?_) | (refine ar_byte ?_) | (refine ar_i64 (by omega) (by omega) ?_) | (refine ar_low ?_) | (refine ix_byteN (by omega) ?_) | (refine ix_byteK (by simp only [Int.reduceToNat]; exact rfl) (by decide) (by omega) ?_) | (refine ix_byte (by omega) (by omega) ?_) | (refine ix_rfl (by decide) rfl ?_) | (refine sd_mk rfl ?_) | (refine sd_mk (by decide +kernel) ?_) | (refine sd_mk (by first | (simp only [List.length_map, List.length_append, List.length_cons, List.length_nil]; done) | ((try simp only [List.length_map, List.length_append, List.length_cons, List.length_nil, List.length_set, List.length_replicate, List.length_drop, List.length_take, true_and, and_true]); omega) | (dsimp only; omega)) ?_) | (first | refine shl8 (by omega) (by omega) ?_ | refine shl4 (by omega) (by omega) ?_ | refine shl1 (by omega) (by omega) ?_ | refine shl16 (by omega) (by omega) ?_ | refine shl24 (by omega) (by omega) ?_ | refine shr8 (by decide) ?_ | refine shr4 (by decide) ?_ | refine shr1 (by decide) ?_ | refine shr16 (by decide) ?_ | refine shr24 (by decide) ?_) | (with_reducible first | refine bit_mk and_1 ?_ | refine bit_mk and_15 ?_ | refine bit_mk and_255 ?_ | refine bit_mk and_4095 ?_ | refine bit_mk and_65535 ?_) | (refine quo_pos (by omega) (by omega) (by omega) ?_) | (refine rem_pos (by omega) (by omega) ?_)))
      refine call_p ih x ⟨by omega, by omega⟩ (VS.mk (LeL.of_eq rfl)) ?_
      (repeat' (first | (refine VS.mk ?_) | (refine dr_mk ?_) | (refine md_l ?_) | ((first | refine sp_not_dec ?_ ?_ | refine sp_dec ?_ ?_ | refine sp_beq ?_ ?_ | refine sp_bne ?_ ?_ | refine sp_seq ?_ ?_ | refine sp_sne ?_ ?_ | refine sp_not ?_ ?_ | refine sp_any ?_ ?_) <;> (intro hc; try simp only [List.length_map, List.length_append, List.length_cons, List.length_nil, Bool.and_true, Bool.and_eq_true, beq_iff_eq, Bool.and_eq_false_iff, beq_eq_false_iff_ne, Bool.true_and, ne_eq] at hc)) | (with_reducible first | refine norm_one ?_ | refine norm_app ?_ | refine norm_cutEnd ?_ | refine norm_cut ?_ | refine norm_bytes1 ?_ | refine norm_bytes2 ?_ | refine norm_setByte ?_ | refine norm_int1 ?_ | refine norm_mk ?_) | (with_reducible refine bytes_mk ?_) | (refine ar_byte ?_) | (refine ar_i64 (by omega) (by omega) ?_) | (refine ar_low ?_) | (refine ix_byteN (by omega) ?_) | (refine ix_byteK (by simp only [Int.reduceToNat]; exact rfl) (by decide) (by omega) ?_) | (refine ix_byte (by omega) (by omega) ?_) | (refine ix_rfl (by decide) rfl ?_) | (refine sd_mk rfl ?_) | (refine sd_mk (by decide +kernel) ?_) | (refine sd_mk (by first | (simp only [List.length_map, List.length_append, List.length_cons, List.length_nil]; done) | ((try simp only [List.length_map, List.length_append, List.length_cons, List.length_nil, List.length_set, List.length_replicate, List.length_drop, List.length_take, true_and, and_true]); omega) | (dsimp only; omega)) ?_) | (first | refine shl8 (by omega) (by omega) ?_ | refine shl4 (by omega) (by omega) ?_ | refine shl1 (by omega) (by omega) ?_ | refine shl16 (by omega) (by omega) ?_ | refine shl24 (by omega) (by omega) ?_ | refine shr8 (by decide) ?_ | refine shr4 (by decide) ?_ | refine shr1 (by decide) ?_ | refine shr16 (by decide) ?_ | refine shr24 (by decide) ?_) | (with_reducible first | refine bit_mk and_1 ?_ | refine bit_mk and_15 ?_ | refine bit_mk and_255 ?_ | refine bit_mk and_4095 ?_ | refine bit_mk and_65535 ?_) | (refine quo_pos (by omega) (by omega) (by omega) ?_) | (refine rem_pos (by omega) (by omega) ?_)))
      · rw [if_neg hc] at hev
        subst hev
        exact end_p (VS.mk (no_vres (by rw [evalE_eq, hEV])))
      · rw [if_pos hc] at hev
        have hl1 := hok.len
        refine loop_end (k + 1, vs ++ [(evalE l x).1]) ⟨by (dsimp only; omega), hev, by (dsimp only; rw [List.length_append, hvl]; rfl), fun v hv => ?_, by (dsimp only; rw [nsum_app]; omega)⟩ (by dsimp only; omega) ?_
        · (repeat' (first | (refine VS.mk ?_) | exact trivial | exact rfl | refine And.intro ?_ ?_))
          · simp [valD]
          · simp [valD]
        · rcases List.mem_append.1 hv with h | h
          · exact hvs v h
          · rw [List.mem_singleton.1 h]; exact hok.s32
    · rw [List.drop_of_length_le (by omega), evA_nil] at hev
      subst hev
      have hT : evalE l e = topV e.kind e.n e.name vs l := by rw [evalE_eq, hEV]
      by_cases hbad : (vs.length = 0 → e.kind ≠ 1 ∧ e.kind ≠ 2) ∧ (vs.length = 1 → e.kind ≠ 3 ∧ e.kind ≠ 4) ∧ (vs.length = 2 → e.kind < 5 ∨ 11 < e.kind)
      · rw [top_bad hbad.1 hbad.2.1 hbad.2.2] at hT
        refine vcOk _ ?_
        (repeat' (first | (refine VS.mk ?_) | (refine dr_mk ?_) | (refine md_l ?_) | ((first | refine sp_not_dec ?_ ?_ | refine sp_dec ?_ ?_ | refine sp_beq ?_ ?_ | refine sp_bne ?_ ?_ | refine sp_seq ?_ ?_ | refine sp_sne ?_ ?_ | refine sp_not ?_ ?_ | refine sp_any ?_ ?_) <;> (intro hc; (try simp only [List.length_map, List.length_append, List.length_cons, List.length_nil, Bool.and_true, Bool.and_eq_true, beq_iff_eq, Bool.and_eq_false_iff, beq_eq_false_iff_ne, Bool.true_and, ne_eq] at hc); (try (exfalso; omega)))) | (with_reducible first | refine norm_one ?_ | refine norm_app ?_ | refine norm_cutEnd ?_ | refine norm_cut ?_ | refine norm_bytes1 ?_ | refine norm_bytes2 ?_ | refine norm_setByte ?_ | refine norm_int1 ?_ | refine norm_mk ?_) | (with_reducible refine bytes_mk ?_) | (refine ar_byte ?_) | (refine ar_i64 (by omega) (by omega) ?_) | (refine ar_low ?_) | (refine ix_byteN (by omega) ?_) | (refine ix_byteK (by simp only [Int.reduceToNat]; exact rfl) (by decide) (by omega) ?_) | (refine ix_byte (by omega) (by omega) ?_) | (refine ix_rfl (by decide) rfl ?_) | (refine sd_mk rfl ?_) | (refine sd_mk (by decide +kernel) ?_) | (refine sd_mk (by first | (simp only [List.length_map, List.length_append, List.length_cons, List.length_nil]; done) | ((try simp only [List.length_map, List.length_append, List.length_cons, List.length_nil, List.length_set, List.length_replicate, List.length_drop, List.length_take, true_and, and_true]); omega) | (dsimp only; omega)) ?_) | (first | refine shl8 (by omega) (by omega) ?_ | refine shl4 (by omega) (by omega) ?_ | refine shl1 (by omega) (by omega) ?_ | refine shl16 (by omega) (by omega) ?_ | refine shl24 (by omega) (by omega) ?_ | refine shr8 (by decide) ?_ | refine shr4 (by decide) ?_ | refine shr1 (by decide) ?_ | refine shr16 (by decide) ?_ | refine shr24 (by decide) ?_) | (with_reducible first | refine bit_mk and_1 ?_ | refine bit_mk and_15 ?_ | refine bit_mk and_255 ?_ | refine bit_mk and_4095 ?_ | refine bit_mk and_65535 ?_) | (refine quo_pos (by omega) (by omega) (by omega) ?_) | (refine rem_pos (by omega) (by omega) ?_)))
        all_goals exact end_p (VS.mk (no_vres hT))
      · by_cases h0 : vs.length = 0
        · refine vcOk _ ?_
          (repeat' (first | (refine VS.mk ?_) | (refine dr_mk ?_) | (refine md_l ?_) | ((first | refine sp_not_dec ?_ ?_ | refine sp_dec ?_ ?_ | refine sp_beq ?_ ?_ | refine sp_bne ?_ ?_ | refine sp_seq ?_ ?_ | refine sp_sne ?_ ?_ | refine sp_not ?_ ?_ | refine sp_any ?_ ?_) <;> (intro hc; (try simp only [List.length_map, List.length_append, List.length_cons, List.length_nil, Bool.and_true, Bool.and_eq_true, beq_iff_eq, Bool.and_eq_false_iff, beq_eq_false_iff_ne, Bool.true_and, ne_eq] at hc); (try (exfalso; omega)))) | (with_reducible first | refine norm_one ?_ | refine norm_app ?_ | refine norm_cutEnd ?_ | refine norm_cut ?_ | refine norm_bytes1 ?_ | refine norm_bytes2 ?_ | refine norm_setByte ?_ | refine norm_int1 ?_ | refine norm_mk ?_) | (with_reducible refine bytes_mk ?_) | (refine ar_byte ?_) | (refine ar_i64 (by omega) (by omega) ?_) | (refine ar_low ?_) | (refine ix_byteN (by omega) ?_) | (refine ix_byteK (by simp only [Int.reduceToNat]; exact rfl) (by decide) (by omega) ?_) | (refine ix_byte (by omega) (by omega) ?_) | (refine ix_rfl (by decide) rfl ?_) | (refine sd_mk rfl ?_) | (refine sd_mk (by decide +kernel) ?_) | (refine sd_mk (by first | (simp only [List.length_map, List.length_append, List.length_cons, List.length_nil]; done) | ((try simp only [List.length_map, List.length_append, List.length_cons, List.length_nil, List.length_set, List.length_replicate, List.length_drop, List.length_take, true_and, and_true]); omega) | (dsimp only; omega)) ?_) | (first | refine shl8 (by omega) (by omega) ?_ | refine shl4 (by omega) (by omega) ?_ | refine shl1 (by omega) (by omega) ?_ | refine shl16 (by omega) (by omega) ?_ | refine shl24 (by omega) (by omega) ?_ | refine shr8 (by decide) ?_ | refine shr4 (by decide) ?_ | refine shr1 (by decide) ?_ | refine shr16 (by decide) ?_ | refine shr24 (by decide) ?_) | (with_reducible first | refine bit_mk and_1 ?_ | refine bit_mk and_15 ?_ | refine bit_mk and_255 ?_ | refine bit_mk and_4095 ?_ | refine bit_mk and_65535 ?_) | (refine quo_pos (by omega) (by omega) (by omega) ?_) | (refine rem_pos (by omega) (by omega) ?_)))
          · refine call_p rsig_meets e.n trivial (VS.mk (LeL.of_eq rfl)) ?_
            (repeat' (first | (refine VS.mk ?_) | (refine dr_mk ?_) | (refine md_l ?_) | ((first | refine sp_not_dec ?_ ?_ | refine sp_dec ?_ ?_ | refine sp_beq ?_ ?_ | refine sp_bne ?_ ?_ | refine sp_seq ?_ ?_ | refine sp_sne ?_ ?_ | refine sp_not ?_ ?_ | refine sp_any ?_ ?_) <;> (intro hc; try simp only [List.length_map, List.length_append, List.length_cons, List.length_nil, Bool.and_true, Bool.and_eq_true, beq_iff_eq, Bool.and_eq_false_iff, beq_eq_false_iff_ne, Bool.true_and, ne_eq] at hc)) | (with_reducible first | refine norm_one ?_ | refine norm_app ?_ | refine norm_cutEnd ?_ | refine norm_cut ?_ | refine norm_bytes1 ?_ | refine norm_bytes2 ?_ | refine norm_setByte ?_ | refine norm_int1 ?_ | refine norm_mk ?_) | (with_reducible refine bytes_mk ?_) | (refine ar_byte ?_) | (refine ar_i64 (by omega) (by omega) ?_) | (refine ar_low ?_) | (refine ix_byteN (by omega) ?_) | (refine ix_byteK (by simp only [Int.reduceToNat]; exact rfl) (by decide) (by omega) ?_) | (refine ix_byte (by omega) (by omega) ?_) | (refine ix_rfl (by decide) rfl ?_) | (refine sd_mk rfl ?_) | (refine sd_mk (by decide +kernel) ?_) | (refine sd_mk (by first | (simp only [List.length_map, List.length_append, List.length_cons, List.length_nil]; done) | ((try simp only [List.length_map, List.length_append, List.length_cons, List.length_nil, List.length_set, List.length_replicate, List.length_drop, List.length_take, true_and, and_true]); omega) | (dsimp only; omega)) ?_) | (first | refine shl8 (by omega) (by omega) ?_ | refine shl4 (by omega) (by omega) ?_ | refine shl1 (by omega) (by omega) ?_ | refine shl16 (by omega) (by omega) ?_ | refine shl24 (by omega) (by omega) ?_ | refine shr8 (by decide) ?_ | refine shr4 (by decide) ?_ | refine shr1 (by decide) ?_ | refine shr16 (by decide) ?_ | refine shr24 (by decide) ?_) | (with_reducible first | refine bit_mk and_1 ?_ | refine bit_mk and_15 ?_ | refine bit_mk and_255 ?_ | refine bit_mk and_4095 ?_ | refine bit_mk and_65535 ?_) | (refine quo_pos (by omega) (by omega) (by omega) ?_) | (refine rem_pos (by omega) (by omega) ?_)))
            refine end_p (VS.mk (LeD.of_eq ?_))
            rw [hT, top_num (by omega) (by omega)]
            rfl
          · rw [top_name (by omega) (by omega)] at hT
            refine awp_loop (α := Nat) (fun j => j ≤ l.length ∧ findQ e.name l = findQ e.name (l.drop j))
              (fun j => [(62, .sl 2 (l.map equD) none), (63, .int .i64 l.length), (64, .int .i64 j), (2, .loc 0 0), (4, .loc 1 0)])
              (fun j => [.cells [.int .i64 e.kind, .int .i64 e.n, .str e.name, .sl 4 (e.kids.map exprD) none], .cells [.str [], .int .i64 0]]) (fun j => l.length - j) (fun _ => by simp [hE]) 0 ⟨Nat.zero_le _, by simp⟩ ?_ ?_
            · (repeat' (first | (refine VS.mk ?_) | exact trivial | exact rfl | refine And.intro ?_ ?_))
            rintro j ⟨hj, hf⟩
            refine vcOk _ ?_
            (repeat' (first | (refine VS.mk ?_) | (refine dr_mk ?_) | (refine md_l ?_) | ((first | refine sp_not_dec ?_ ?_ | refine sp_dec ?_ ?_ | refine sp_beq ?_ ?_ | refine sp_bne ?_ ?_ | refine sp_seq ?_ ?_ | refine sp_sne ?_ ?_ | refine sp_not ?_ ?_ | refine sp_any ?_ ?_) <;> (intro hc; try simp only [List.length_map, List.length_append, List.length_cons, List.length_nil, Bool.and_true, Bool.and_eq_true, beq_iff_eq, Bool.and_eq_false_iff, beq_eq_false_iff_ne, Bool.true_and, ne_eq] at hc)) | (with_reducible first | refine norm_one ?_ | refine norm_app ?_ | refine norm_cutEnd ?_ | refine norm_cut ?_ | refine norm_bytes1 ?_ | refine norm_bytes2 ?_ | refine norm_setByte ?_ | refine norm_int1 ?_ | refine norm_mk ?_) | (with_reducible refine bytes_mk ?_) | (refine ar_byte ?_) | (refine ar_i64 (by omega) (by omega) ?_) | (refine ar_low ?_) | (refine ix_byteN (by omega) ?_) | (refine ix_byteK (by simp only [Int.reduceToNat]; exact rfl) (by decide) (by omega) ?_) | (refine ix_byte (by omega) (by omega) ?_) | (refine ix_rfl (by decide) rfl ?_) | (refine sd_mk rfl ?_) | (refine sd_mk (by decide +kernel) ?_) | (refine sd_mk (by first | (simp only [List.length_map, List.length_append, List.length_cons, List.length_nil]; done) | ((try simp only [List.length_map, List.length_append, List.length_cons, List.length_nil, List.length_set, List.length_replicate, List.length_drop, List.length_take, true_and, and_true]); omega) | (dsimp only; omega)) ?_) | (first | refine shl8 (by omega) (by omega) ?_ | refine shl4 (by omega) (by omega) ?_ | refine shl1 (by omega) (by omega) ?_ | refine shl16 (by omega) (by omega) ?_ | refine shl24 (by omega) (by omega) ?_ | refine shr8 (by decide) ?_ | refine shr4 (by decide) ?_ | refine shr1 (by decide) ?_ | refine shr16 (by decide) ?_ | refine shr24 (by decide) ?_) | (with_reducible first | refine bit_mk and_1 ?_ | refine bit_mk and_15 ?_ | refine bit_mk and_255 ?_ | refine bit_mk and_4095 ?_ | refine bit_mk and_65535 ?_) | (refine quo_pos (by omega) (by omega) (by omega) ?_) | (refine rem_pos (by omega) (by omega) ?_)))
            · obtain ⟨s, hsk⟩ := at_of_lt (l := l) (k := j) (by omega)
              have hjl : j < l.length := by omega
              have hget : l[j] = s := by rw [List.getElem?_eq_getElem hjl] at hsk; exact Option.some.inj hsk
              rw [List.drop_eq_getElem_cons hjl, hget, find_cons] at hf
              refine ix_map s (by omega) (by simpa using hsk) ?_
              (repeat' (first | (refine VS.mk ?_) | (refine dr_mk ?_) | (refine md_l ?_) | ((first | refine sp_not_dec ?_ ?_ | refine sp_dec ?_ ?_ | refine sp_beq ?_ ?_ | refine sp_bne ?_ ?_ | refine sp_seq ?_ ?_ | refine sp_sne ?_ ?_ | refine sp_not ?_ ?_ | refine sp_any ?_ ?_) <;> (intro hc; try simp only [List.length_map, List.length_append, List.length_cons, List.length_nil, Bool.and_true, Bool.and_eq_true, beq_iff_eq, Bool.and_eq_false_iff, beq_eq_false_iff_ne, Bool.true_and, ne_eq] at hc)) | (with_reducible first | refine norm_one ?_ | refine norm_app ?_ | refine norm_cutEnd ?_ | refine norm_cut ?_ | refine norm_bytes1 ?_ | refine norm_bytes2 ?_ | refine norm_setByte ?_ | refine norm_int1 ?_ | refine norm_mk ?_) | (with_reducible refine bytes_mk ?_) | (refine ar_byte ?_) | (refine ar_i64 (by omega) (by omega) ?_) | (refine ar_low ?_) | (refine ix_byteN (by omega) ?_) | (refine ix_byteK (by simp only [Int.reduceToNat]; exact rfl) (by decide) (by omega) ?_) | (refine ix_byte (by omega) (by omega) ?_) | (refine ix_rfl (by decide) rfl ?_) | (refine sd_mk rfl ?_) | (refine sd_mk (by decide +kernel) ?_) | (refine sd_mk (by first | (simp only [List.length_map, List.length_append, List.length_cons, List.length_nil]; done) | ((try simp only [List.length_map, List.length_append, List.length_cons, List.length_nil, List.length_set, List.length_replicate, List.length_drop, List.length_take, true_and, and_true]); omega) | (dsimp only; omega)) ?_) | (first | refine shl8 (by omega) (by omega) ?_ | refine shl4 (by omega) (by omega) ?_ | refine shl1 (by omega) (by omega) ?_ | refine shl16 (by omega) (by omega) ?_ | refine shl24 (by omega) (by omega) ?_ | refine shr8 (by decide) ?_ | refine shr4 (by decide) ?_ | refine shr1 (by decide) ?_ | refine shr16 (by decide) ?_ | refine shr24 (by decide) ?_) | (with_reducible first | refine bit_mk and_1 ?_ | refine bit_mk and_15 ?_ | refine bit_mk and_255 ?_ | refine bit_mk and_4095 ?_ | refine bit_mk and_65535 ?_) | (refine quo_pos (by omega) (by omega) (by omega) ?_) | (refine rem_pos (by omega) (by omega) ?_)))
              · rw [if_pos hc] at hf
                refine call_p rsig_meets s.n trivial (VS.mk (LeL.of_eq rfl)) ?_
                (repeat' (first | (refine VS.mk ?_) | (refine dr_mk ?_) | (refine md_l ?_) | ((first | refine sp_not_dec ?_ ?_ | refine sp_dec ?_ ?_ | refine sp_beq ?_ ?_ | refine sp_bne ?_ ?_ | refine sp_seq ?_ ?_ | refine sp_sne ?_ ?_ | refine sp_not ?_ ?_ | refine sp_any ?_ ?_) <;> (intro hc; try simp only [List.length_map, List.length_append, List.length_cons, List.length_nil, Bool.and_true, Bool.and_eq_true, beq_iff_eq, Bool.and_eq_false_iff, beq_eq_false_iff_ne, Bool.true_and, ne_eq] at hc)) | (with_reducible first | refine norm_one ?_ | refine norm_app ?_ | refine norm_cutEnd ?_ | refine norm_cut ?_ | refine norm_bytes1 ?_ | refine norm_bytes2 ?_ | refine norm_setByte ?_ | refine norm_int1 ?_ | refine norm_mk ?_) | (with_reducible refine bytes_mk ?_) | (refine ar_byte ?_) | (refine ar_i64 (by omega) (by omega) ?_) | (refine ar_low ?_) | (refine ix_byteN (by omega) ?_) | (refine ix_byteK (by simp only [Int.reduceToNat]; exact rfl) (by decide) (by omega) ?_) | (refine ix_byte (by omega) (by omega) ?_) | (refine ix_rfl (by decide) rfl ?_) | (refine sd_mk rfl ?_) | (refine sd_mk (by decide +kernel) ?_) | (refine sd_mk (by first | (simp only [List.length_map, List.length_append, List.length_cons, List.length_nil]; done) | ((try simp only [List.length_map, List.length_append, List.length_cons, List.length_nil, List.length_set, List.length_replicate, List.length_drop, List.length_take, true_and, and_true]); omega) | (dsimp only; omega)) ?_) | (first | refine shl8 (by omega) (by omega) ?_ | refine shl4 (by omega) (by omega) ?_ | refine shl1 (by omega) (by omega) ?_ | refine shl16 (by omega) (by omega) ?_ | refine shl24 (by omega) (by omega) ?_ | refine shr8 (by decide) ?_ | refine shr4 (by decide) ?_ | refine shr1 (by decide) ?_ | refine shr16 (by decide) ?_ | refine shr24 (by decide) ?_) | (with_reducible first | refine bit_mk and_1 ?_ | refine bit_mk and_15 ?_ | refine bit_mk and_255 ?_ | refine bit_mk and_4095 ?_ | refine bit_mk and_65535 ?_) | (refine quo_pos (by omega) (by omega) (by omega) ?_) | (refine rem_pos (by omega) (by omega) ?_)))
                refine end_p (VS.mk (LeD.of_eq ?_))
                rw [hT, hf]
                rfl
              · rw [if_neg hc] at hf
                refine loop_end (j + 1) ⟨by omega, hf⟩ (by omega) ?_
                (repeat' (first | (refine VS.mk ?_) | exact trivial | exact rfl | refine And.intro ?_ ?_))
            · rw [List.drop_of_length_le (by omega), find_nil] at hf
              refine end_p (VS.mk (LeD.of_eq ?_))
              rw [hT, hf]
              rfl
        by_cases h1 : vs.length = 1
        · obtain ⟨v, hv1⟩ := len_one (l := vs) (by omega)
          subst hv1
          obtain ⟨s1, s2⟩ := hvs v (by simp)
          rw [top_one (by omega)] at hT
          refine vcOk _ ?_
          (repeat' (first | (refine VS.mk ?_) | (refine dr_mk ?_) | (refine md_l ?_) | ((first | refine sp_not_dec ?_ ?_ | refine sp_dec ?_ ?_ | refine sp_beq ?_ ?_ | refine sp_bne ?_ ?_ | refine sp_seq ?_ ?_ | refine sp_sne ?_ ?_ | refine sp_not ?_ ?_ | refine sp_any ?_ ?_) <;> (intro hc; (try simp only [List.length_map, List.length_append, List.length_cons, List.length_nil, Bool.and_true, Bool.and_eq_true, beq_iff_eq, Bool.and_eq_false_iff, beq_eq_false_iff_ne, Bool.true_and, ne_eq] at hc); (try (exfalso; omega)))) | (with_reducible first | refine norm_one ?_ | refine norm_app ?_ | refine norm_cutEnd ?_ | refine norm_cut ?_ | refine norm_bytes1 ?_ | refine norm_bytes2 ?_ | refine norm_setByte ?_ | refine norm_int1 ?_ | refine norm_mk ?_) | (with_reducible refine bytes_mk ?_) | (refine ar_byte ?_) | (refine ar_i64 (by omega) (by omega) ?_) | (refine ar_low ?_) | (refine ix_byteN (by omega) ?_) | (refine ix_byteK (by simp only [Int.reduceToNat]; exact rfl) (by decide) (by omega) ?_) | (refine ix_byte (by omega) (by omega) ?_) | (refine ix_rfl (by decide) rfl ?_) | (refine sd_mk rfl ?_) | (refine sd_mk (by decide +kernel) ?_) | (refine sd_mk (by first | (simp only [List.length_map, List.length_append, List.length_cons, List.length_nil]; done) | ((try simp only [List.length_map, List.length_append, List.length_cons, List.length_nil, List.length_set, List.length_replicate, List.length_drop, List.length_take, true_and, and_true]); omega) | (dsimp only; omega)) ?_) | (first | refine shl8 (by omega) (by omega) ?_ | refine shl4 (by omega) (by omega) ?_ | refine shl1 (by omega) (by omega) ?_ | refine shl16 (by omega) (by omega) ?_ | refine shl24 (by omega) (by omega) ?_ | refine shr8 (by decide) ?_ | refine shr4 (by decide) ?_ | refine shr1 (by decide) ?_ | refine shr16 (by decide) ?_ | refine shr24 (by decide) ?_) | (with_reducible first | refine bit_mk and_1 ?_ | refine bit_mk and_15 ?_ | refine bit_mk and_255 ?_ | refine bit_mk and_4095 ?_ | refine bit_mk and_65535 ?_) | (refine quo_pos (by omega) (by omega) (by omega) ?_) | (refine rem_pos (by omega) (by omega) ?_)))
          · exact end_p (VS.mk (no_vres (by rw [hT, if_neg (by assumption)])))
          · refine call_p rsig_meets (-v.n) trivial (VS.mk (LeL.of_eq (by rw [Int.zero_sub]))) ?_
            (repeat' (first | (refine VS.mk ?_) | (refine dr_mk ?_) | (refine md_l ?_) | ((first | refine sp_not_dec ?_ ?_ | refine sp_dec ?_ ?_ | refine sp_beq ?_ ?_ | refine sp_bne ?_ ?_ | refine sp_seq ?_ ?_ | refine sp_sne ?_ ?_ | refine sp_not ?_ ?_ | refine sp_any ?_ ?_) <;> (intro hc; try simp only [List.length_map, List.length_append, List.length_cons, List.length_nil, Bool.and_true, Bool.and_eq_true, beq_iff_eq, Bool.and_eq_false_iff, beq_eq_false_iff_ne, Bool.true_and, ne_eq] at hc)) | (with_reducible first | refine norm_one ?_ | refine norm_app ?_ | refine norm_cutEnd ?_ | refine norm_cut ?_ | refine norm_bytes1 ?_ | refine norm_bytes2 ?_ | refine norm_setByte ?_ | refine norm_int1 ?_ | refine norm_mk ?_) | (with_reducible refine bytes_mk ?_) | (refine ar_byte ?_) | (refine ar_i64 (by omega) (by omega) ?_) | (refine ar_low ?_) | (refine ix_byteN (by omega) ?_) | (refine ix_byteK (by simp only [Int.reduceToNat]; exact rfl) (by decide) (by omega) ?_) | (refine ix_byte (by omega) (by omega) ?_) | (refine ix_rfl (by decide) rfl ?_) | (refine sd_mk rfl ?_) | (refine sd_mk (by decide +kernel) ?_) | (refine sd_mk (by first | (simp only [List.length_map, List.length_append, List.length_cons, List.length_nil]; done) | ((try simp only [List.length_map, List.length_append, List.length_cons, List.length_nil, List.length_set, List.length_replicate, List.length_drop, List.length_take, true_and, and_true]); omega) | (dsimp only; omega)) ?_) | (first | refine shl8 (by omega) (by omega) ?_ | refine shl4 (by omega) (by omega) ?_ | refine shl1 (by omega) (by omega) ?_ | refine shl16 (by omega) (by omega) ?_ | refine shl24 (by omega) (by omega) ?_ | refine shr8 (by decide) ?_ | refine shr4 (by decide) ?_ | refine shr1 (by decide) ?_ | refine shr16 (by decide) ?_ | refine shr24 (by decide) ?_) | (with_reducible first | refine bit_mk and_1 ?_ | refine bit_mk and_15 ?_ | refine bit_mk and_255 ?_ | refine bit_mk and_4095 ?_ | refine bit_mk and_65535 ?_) | (refine quo_pos (by omega) (by omega) (by omega) ?_) | (refine rem_pos (by omega) (by omega) ?_)))
            refine end_p (VS.mk (LeD.of_eq ?_))
            rw [hT, if_pos (by assumption), if_pos (by assumption)]
            rfl
          · exact end_p (VS.mk (no_vres (by rw [hT, if_neg (by assumption)])))
          · refine call_p rsig_meets (-v.n - 1) trivial (VS.mk (LeL.of_eq (by rw [Int.zero_sub]))) ?_
            (repeat' (first | (refine VS.mk ?_) | (refine dr_mk ?_) | (refine md_l ?_) | ((first | refine sp_not_dec ?_ ?_ | refine sp_dec ?_ ?_ | refine sp_beq ?_ ?_ | refine sp_bne ?_ ?_ | refine sp_seq ?_ ?_ | refine sp_sne ?_ ?_ | refine sp_not ?_ ?_ | refine sp_any ?_ ?_) <;> (intro hc; try simp only [List.length_map, List.length_append, List.length_cons, List.length_nil, Bool.and_true, Bool.and_eq_true, beq_iff_eq, Bool.and_eq_false_iff, beq_eq_false_iff_ne, Bool.true_and, ne_eq] at hc)) | (with_reducible first | refine norm_one ?_ | refine norm_app ?_ | refine norm_cutEnd ?_ | refine norm_cut ?_ | refine norm_bytes1 ?_ | refine norm_bytes2 ?_ | refine norm_setByte ?_ | refine norm_int1 ?_ | refine norm_mk ?_) | (with_reducible refine bytes_mk ?_) | (refine ar_byte ?_) | (refine ar_i64 (by omega) (by omega) ?_) | (refine ar_low ?_) | (refine ix_byteN (by omega) ?_) | (refine ix_byteK (by simp only [Int.reduceToNat]; exact rfl) (by decide) (by omega) ?_) | (refine ix_byte (by omega) (by omega) ?_) | (refine ix_rfl (by decide) rfl ?_) | (refine sd_mk rfl ?_) | (refine sd_mk (by decide +kernel) ?_) | (refine sd_mk (by first | (simp only [List.length_map, List.length_append, List.length_cons, List.length_nil]; done) | ((try simp only [List.length_map, List.length_append, List.length_cons, List.length_nil, List.length_set, List.length_replicate, List.length_drop, List.length_take, true_and, and_true]); omega) | (dsimp only; omega)) ?_) | (first | refine shl8 (by omega) (by omega) ?_ | refine shl4 (by omega) (by omega) ?_ | refine shl1 (by omega) (by omega) ?_ | refine shl16 (by omega) (by omega) ?_ | refine shl24 (by omega) (by omega) ?_ | refine shr8 (by decide) ?_ | refine shr4 (by decide) ?_ | refine shr1 (by decide) ?_ | refine shr16 (by decide) ?_ | refine shr24 (by decide) ?_) | (with_reducible first | refine bit_mk and_1 ?_ | refine bit_mk and_15 ?_ | refine bit_mk and_255 ?_ | refine bit_mk and_4095 ?_ | refine bit_mk and_65535 ?_) | (refine quo_pos (by omega) (by omega) (by omega) ?_) | (refine rem_pos (by omega) (by omega) ?_)))
            refine end_p (VS.mk (LeD.of_eq ?_))
            rw [hT, if_pos (by assumption), if_neg (by omega)]
            rfl
        · obtain ⟨a, b, hab⟩ := len_two (l := vs) (by omega)
          subst hab
          have sa := hvs a (by simp)
          have sb := hvs b (by simp)
          rw [top_two (by omega)] at hT
          have hk5 : 5 ≤ e.kind ∧ e.kind ≤ 11 := by omega
          clear ih hev0 hvs hEV hbad hnl hkl hn hN
          refine vcOk _ ?_
          (repeat' (first | (refine VS.mk ?_) | (refine md_l ?_) | ((first | refine sp_not_dec ?_ ?_ | refine sp_dec ?_ ?_ | refine sp_beq ?_ ?_ | refine sp_bne ?_ ?_ | refine sp_seq ?_ ?_ | refine sp_sne ?_ ?_ | refine sp_not ?_ ?_ | refine sp_any ?_ ?_) <;> (intro hc; (try simp only [List.length_map, List.length_append, List.length_cons, List.length_nil, Bool.and_true, Bool.and_eq_true, beq_iff_eq, Bool.and_eq_false_iff, beq_eq_false_iff_ne, Bool.true_and, ne_eq] at hc); (try (exfalso; omega)))) | (with_reducible first | refine norm_one ?_ | refine norm_app ?_ | refine norm_cutEnd ?_ | refine norm_cut ?_ | refine norm_bytes1 ?_ | refine norm_bytes2 ?_ | refine norm_setByte ?_ | refine norm_int1 ?_ | refine norm_mk ?_) | (with_reducible refine bytes_mk ?_) | (refine ar_byte ?_) | (refine ar_i64 (by omega) (by omega) ?_) | (refine ar_low ?_) | (refine ix_byteN (by omega) ?_) | (refine ix_byteK (by simp only [Int.reduceToNat]; exact rfl) (by decide) (by omega) ?_) | (refine ix_byte (by omega) (by omega) ?_) | (refine ix_rfl (by decide) rfl ?_) | (refine sd_mk rfl ?_) | (refine sd_mk (by decide +kernel) ?_) | (refine sd_mk (by first | (simp only [List.length_map, List.length_append, List.length_cons, List.length_nil]; done) | ((try simp only [List.length_map, List.length_append, List.length_cons, List.length_nil, List.length_set, List.length_replicate, List.length_drop, List.length_take, true_and, and_true]); omega) | (dsimp only; omega)) ?_) | (first | refine shl8 (by omega) (by omega) ?_ | refine shl4 (by omega) (by omega) ?_ | refine shl1 (by omega) (by omega) ?_ | refine shl16 (by omega) (by omega) ?_ | refine shl24 (by omega) (by omega) ?_ | refine shr8 (by decide) ?_ | refine shr4 (by decide) ?_ | refine shr1 (by decide) ?_ | refine shr16 (by decide) ?_ | refine shr24 (by decide) ?_) | (with_reducible first | refine bit_mk and_1 ?_ | refine bit_mk and_15 ?_ | refine bit_mk and_255 ?_ | refine bit_mk and_4095 ?_ | refine bit_mk and_65535 ?_) | (refine quo_pos (by omega) (by omega) (by omega) ?_) | (refine rem_pos (by omega) (by omega) ?_)))
          refine dr_awp ?_
          refine draw_two tabOk mixed 6 7 [0, 1, 2, 3, 4, 5, 7, 6, 8, 9] [0, 1, 2, 3, 4, 5, 7, 6, 8, 9] rfl rfl rfl ?_ ?_
          all_goals
            (repeat' (first | (refine VS.mk ?_) | (refine dr_mk ?_) | (refine md_l ?_) | ((first | refine sp_not_dec ?_ ?_ | refine sp_dec ?_ ?_ | refine sp_beq ?_ ?_ | refine sp_bne ?_ ?_ | refine sp_seq ?_ ?_ | refine sp_sne ?_ ?_ | refine sp_not ?_ ?_ | refine sp_any ?_ ?_) <;> (intro hc; (try simp only [List.length_map, List.length_append, List.length_cons, List.length_nil, Bool.and_true, Bool.and_eq_true, beq_iff_eq, Bool.and_eq_false_iff, beq_eq_false_iff_ne, Bool.true_and, ne_eq] at hc); (try (exfalso; omega)))) | (with_reducible first | refine norm_one ?_ | refine norm_app ?_ | refine norm_cutEnd ?_ | refine norm_cut ?_ | refine norm_bytes1 ?_ | refine norm_bytes2 ?_ | refine norm_setByte ?_ | refine norm_int1 ?_ | refine norm_mk ?_) | (with_reducible refine bytes_mk ?_) | (refine ar_byte ?_) | (refine ar_i64 (by omega) (by omega) ?_) | (refine ar_low ?_) | (refine ix_byteN (by omega) ?_) | (refine ix_byteK (by simp only [Int.reduceToNat]; exact rfl) (by decide) (by omega) ?_) | (refine ix_byte (by omega) (by omega) ?_) | (refine ix_rfl (by decide) rfl ?_) | (refine sd_mk rfl ?_) | (refine sd_mk (by decide +kernel) ?_) | (refine sd_mk (by first | (simp only [List.length_map, List.length_append, List.length_cons, List.length_nil]; done) | ((try simp only [List.length_map, List.length_append, List.length_cons, List.length_nil, List.length_set, List.length_replicate, List.length_drop, List.length_take, true_and, and_true]); omega) | (dsimp only; omega)) ?_) | (first | refine shl8 (by omega) (by omega) ?_ | refine shl4 (by omega) (by omega) ?_ | refine shl1 (by omega) (by omega) ?_ | refine shl16 (by omega) (by omega) ?_ | refine shl24 (by omega) (by omega) ?_ | refine shr8 (by decide) ?_ | refine shr4 (by decide) ?_ | refine shr1 (by decide) ?_ | refine shr16 (by decide) ?_ | refine shr24 (by decide) ?_) | (with_reducible first | refine bit_mk and_1 ?_ | refine bit_mk and_15 ?_ | refine bit_mk and_255 ?_ | refine bit_mk and_4095 ?_ | refine bit_mk and_65535 ?_) | (refine quo_pos (by omega) (by omega) (by omega) ?_) | (refine rem_pos (by omega) (by omega) ?_) | (refine rem_u32 (by omega) ?_) | (refine ar_sig ?_) | (refine ar_i32s (by assumption) ?_) | (refine ar_i32 ?_) | (refine ar_u32 ?_) | (refine shl_u32 (by omega) (by omega) ?_) | (refine shr_u32 (by omega) (by omega) ?_) | (refine bit_mk (and32 _ _) ?_) | (refine bit_mk (or32 _ _) ?_)))
          all_goals first
            | (exfalso; exact absurd ‹a.name = []› ‹¬ a.name = []›)
            | (exfalso; exact absurd ‹b.name = []› ‹¬ b.name = []›)
            | (refine end_p (VS.mk (no_vres (two_no hT ?_)))
               unfold nameV
               repeat (first | rfl | exact congrArg some (Eq.symm (by assumption)) | rw [if_pos ⟨by assumption, by assumption⟩] | rw [if_neg (fun h => absurd h.1 (by assumption))] | rw [if_neg (fun h => absurd h.2 (by assumption))] | rw [if_neg (fun h => by omega)])
               done)
            | (refine end_p (VS.mk (LeD.of_eq (two_res hT ?_ ?_)))
               · unfold nameV
                 repeat (first | rfl | exact congrArg some (Eq.symm (by assumption)) | rw [if_pos ⟨by assumption, by assumption⟩] | rw [if_neg (fun h => absurd h.1 (by assumption))] | rw [if_neg (fun h => absurd h.2 (by assumption))] | rw [if_neg (fun h => by omega)])
                 done
               · unfold numV
                 repeat (first | rw [if_pos (by assumption)] | rw [if_neg (by assumption)])
                 first | done | rfl | exact left32 _ _ | exact right32 _ _)
end Go.Proofs.Ytlilcfkcofafeaa
