/-
  A part of the proof: what the given program's functions answer, each once; conditions that are enough for it.
-/
import Derived.Test.YtlilcfkcofafeaaSt2
import Derived.Test.YtlilcfkcofafeaaSt1
import Derived.Test.YtlilcfkcofafeaaFw3
import Derived.Test.YtlilcfkcofafeaaRows
import Derived.WalkKit
import Derived.ProofKit
import Derived.OpenShut
import Derived.JoinedCond
namespace Go.Proofs.Ytlilcfkcofafeaa
open Go Go.Plat
set_option linter.unusedVariables false
set_option linter.unusedSimpArgs false
set_option maxRecDepth 100000
set_option maxHeartbeats 2000000
attribute [local irreducible] NilS LookS NormM bitI BytesS NormL Arith QuoS RemS ShlS ShrS BitS CatS SplitS SideS IdxS CallS LoopEnd EndS ModeS DrawS AWP Meets
attribute [local irreducible] signedI exprD OExpr.kind OExpr.n OExpr.name OExpr.kids letterB digitB kindB nameB

def wt : List OTok → Nat
  | [] => 0
  | t :: l => 1 + t.text.length + wt l
def Slim (p : St → OExpr × St) : Prop := ∀ s, nodes (p s).1 + 2 * wt (p s).2.rest ≤ 1 + 2 * wt s.rest
theorem nodes_mk0 (k n : Int) (t : List UInt8) : nodes (.mk k n t []) = 1 + t.length := by rw [nodes, nodesL, Nat.add_zero]
theorem nodes_mk1 (k n : Int) (a : OExpr) : nodes (.mk k n [] [a]) = 1 + nodes a := by rw [nodes, nodesL, nodesL]; simp
theorem nodes_mk2 (k n : Int) (a b : OExpr) : nodes (.mk k n [] [a, b]) = 1 + nodes a + nodes b := by rw [nodes, nodesL, nodesL, nodesL]; simp; omega
theorem nodes_no : nodes noE = 1 := by unfold noE; rw [nodes_mk0]; rfl
theorem sign_wt (l : List (List UInt8)) (s : St) : wt (signI l s).2.rest ≤ wt s.rest ∧ (0 ≤ (signI l s).1 → wt (signI l s).2.rest + 1 ≤ wt s.rest) := by
  obtain ⟨r, e⟩ := s
  cases r with
  | nil => exact ⟨Nat.le_refl _, fun h => by simp [signI] at h⟩
  | cons t r =>
    simp only [signI]
    split
    · split
      · simp only [wt]; exact ⟨by omega, fun _ => by omega⟩
      · exact ⟨Nat.le_refl _, fun h => by simp at h⟩
    · exact ⟨Nat.le_refl _, fun h => by simp at h⟩
theorem loop_slim {k : Nat} {sub : St → OExpr × St} (hs : Slim sub) : ∀ (g : Nat) (e : OExpr) (s : St), nodes (loopF k sub g e s).1 + 2 * wt (loopF k sub g e s).2.rest ≤ nodes e + 2 * wt s.rest
  | 0, e, s => Nat.le_refl _
  | g + 1, e, s => by
    rw [loopF]
    obtain ⟨h1, h1'⟩ := sign_wt (signs k) s
    split
    · split
      · dsimp only; omega
      · rename_i hn
        have h3 := h1' (by omega)
        have := loop_slim (k := k) hs g (.mk (kindOf k (signI (signs k) s).1) 0 [] [e, (sub (signI (signs k) s).2).1]) (sub (signI (signs k) s).2).2
        rw [nodes_mk2] at this
        have h2 := hs (signI (signs k) s).2
        omega
    · exact Nat.le_refl _
theorem level_slim {k : Nat} {sub : St → OExpr × St} (hs : Slim sub) : Slim (levelF k sub) := fun s => by
  have h1 := hs s
  have h2 := loop_slim (k := k) hs ((sub s).2.rest.length + 1) (sub s).1 (sub s).2
  unfold levelF; omega
theorem at_slim {one : St → OExpr × St} (hs : Slim one) : ∀ j, Slim (atF one j)
  | 0 => hs
  | j + 1 => level_slim (at_slim hs j)
theorem tok_slim : Slim tokI := fun s => by
  obtain ⟨r, e⟩ := s
  cases r with
  | nil => simp [tokI, fail_rest, nodes_no, wt]
  | cons t r =>
    simp only [tokI]
    repeat' split
    all_goals (try rw [fail_rest]); simp only [nodes_no, nodes_mk0, wt, List.length_nil]; omega
theorem step_slim {one : St → OExpr × St} (hs : Slim one) : Slim (oneStep one) := fun s => by
  obtain ⟨h1, h1'⟩ := sign_wt opens s
  have h2 := hs (signI opens s).2
  have h3 := at_slim hs 5 (signI opens s).2
  have h4 := (sign_wt closes (atF one 5 (signI opens s).2).2).1
  have h5 := tok_slim (signI opens s).2
  have h6 := nodes_pos (atF one 5 (signI opens s).2).1
  unfold oneStep
  repeat' split
  all_goals (try dsimp only); (try rw [fail_rest]); (try simp only [nodes_mk1, nodes_no]); omega
theorem one_slim : ∀ f, Slim (oneI f)
  | 0 => fun s => by rw [oneI, fail_rest, nodes_no]; exact Nat.le_refl _
  | f + 1 => fun s => by rw [oneI]; exact step_slim (one_slim f) s
theorem res_nodes (L : List OTok) : nodes (pRes L).1 ≤ 1 + 2 * wt L := by
  have h := at_slim (one_slim 7) 5 ⟨L, 0⟩
  have h : nodes (parseI L).1 + 2 * wt (parseI L).2.rest ≤ 1 + 2 * wt L := h
  unfold pRes
  split
  · dsimp only; omega
  · dsimp only; rw [nodes_no]; omega

attribute [local irreducible] nodes pRes rpRes evalE
theorem tells_meets : Meets Try.prog n_pllaw3_ExprTells (SpecP (fun ((L, e, l) : List OTok × OExpr × List OEqu) => L.length ≤ 1000000000 ∧ wt L ≤ 100000000 ∧ nodes e ≤ 1048576 ∧ l.length ≤ 1000000000) (fun (L, e, l) => [.sl 3 (L.map tokD) none, exprU e, .sl 2 (l.map equD) none]) fun _ => .bool true) := by
  refine meets_f tabOk Try.func3 rfl (by decide) ?_
  rintro ⟨L, e, l⟩ ⟨hL, hw, he, hl⟩
  refine ⟨Nat.le_refl _, by simp [Try.f3], fun E hE => ?_⟩
  have hn := res_nodes L
  have hr := res_eq L
  refine vcOk _ ?_
  (repeat' (first | (refine VS.mk ?_) | (refine dr_mk ?_) | (refine md_l ?_) | ((first | refine sp_not_dec ?_ ?_ | refine sp_dec ?_ ?_ | refine sp_beq ?_ ?_ | refine sp_bne ?_ ?_ | refine sp_seq ?_ ?_ | refine sp_sne ?_ ?_ | refine sp_not ?_ ?_ | refine sp_any ?_ ?_) <;> (intro hc; (try simp only [List.length_map, List.length_append, List.length_cons, List.length_nil, Bool.and_true, Bool.and_eq_true, beq_iff_eq, Bool.and_eq_false_iff, beq_eq_false_iff_ne, Bool.true_and, ne_eq] at hc); (try (exfalso; omega)))) | (with_reducible first | refine norm_one ?_ | refine norm_app ?_ | refine norm_cutEnd ?_ | refine norm_cut ?_ | refine norm_bytes1 ?_ | refine norm_bytes2 ?_ | refine norm_setByte ?_ | refine norm_int1 ?_ | refine norm_mk ?_) | (with_reducible refine bytes_mk ?_) | (refine ar_byte ?_) | (refine ar_i64 (by omega) (by omega) ?_) | (refine ar_low ?_) | (refine ix_byteN (by omega) ?_) | (refine ix_byteK (by simp only [Int.reduceToNat]; exact rfl) (by decide) (by omega) ?_) | (refine ix_byte (by omega) (by omega) ?_) | (refine ix_rfl (by decide) rfl ?_) | (refine sd_mk rfl ?_) | (refine sd_mk (by decide +kernel) ?_) | (refine sd_mk (by first | (simp only [List.length_map, List.length_append, List.length_cons, List.length_nil]; done) | ((try simp only [List.length_map, List.length_append, List.length_cons, List.length_nil, List.length_set, List.length_replicate, List.length_drop, List.length_take, true_and, and_true]); omega) | (dsimp only; omega)) ?_) | (first | refine shl8 (by omega) (by omega) ?_ | refine shl4 (by omega) (by omega) ?_ | refine shl1 (by omega) (by omega) ?_ | refine shl16 (by omega) (by omega) ?_ | refine shl24 (by omega) (by omega) ?_ | refine shr8 (by decide) ?_ | refine shr4 (by decide) ?_ | refine shr1 (by decide) ?_ | refine shr16 (by decide) ?_ | refine shr24 (by decide) ?_) | (with_reducible first | refine bit_mk and_1 ?_ | refine bit_mk and_15 ?_ | refine bit_mk and_255 ?_ | refine bit_mk and_4095 ?_ | refine bit_mk and_65535 ?_) | (refine quo_pos (by omega) (by omega) (by omega) ?_) | (refine rem_pos (by omega) (by omega) ?_)))
  refine call_p parse_meets L hL (VS.mk (LeL.of_eq rfl)) ?_
  (repeat' (first | (refine VS.mk ?_) | (refine dr_mk ?_) | (refine md_l ?_) | ((first | refine sp_not_dec ?_ ?_ | refine sp_dec ?_ ?_ | refine sp_beq ?_ ?_ | refine sp_bne ?_ ?_ | refine sp_seq ?_ ?_ | refine sp_sne ?_ ?_ | refine sp_not ?_ ?_ | refine sp_any ?_ ?_) <;> (intro hc; (try simp only [List.length_map, List.length_append, List.length_cons, List.length_nil, Bool.and_true, Bool.and_eq_true, beq_iff_eq, Bool.and_eq_false_iff, beq_eq_false_iff_ne, Bool.true_and, ne_eq] at hc); (try (exfalso; omega)))) | (with_reducible first | refine norm_one ?_ | refine norm_app ?_ | refine norm_cutEnd ?_ | refine norm_cut ?_ | refine norm_bytes1 ?_ | refine norm_bytes2 ?_ | refine norm_setByte ?_ | refine norm_int1 ?_ | refine norm_mk ?_) | (with_reducible refine bytes_mk ?_) | (refine ar_byte ?_) | (refine ar_i64 (by omega) (by omega) ?_) | (refine ar_low ?_) | (refine ix_byteN (by omega) ?_) | (refine ix_byteK (by simp only [Int.reduceToNat]; exact rfl) (by decide) (by omega) ?_) | (refine ix_byte (by omega) (by omega) ?_) | (refine ix_rfl (by decide) rfl ?_) | (refine sd_mk rfl ?_) | (refine sd_mk (by decide +kernel) ?_) | (refine sd_mk (by first | (simp only [List.length_map, List.length_append, List.length_cons, List.length_nil]; done) | ((try simp only [List.length_map, List.length_append, List.length_cons, List.length_nil, List.length_set, List.length_replicate, List.length_drop, List.length_take, true_and, and_true]); omega) | (dsimp only; omega)) ?_) | (first | refine shl8 (by omega) (by omega) ?_ | refine shl4 (by omega) (by omega) ?_ | refine shl1 (by omega) (by omega) ?_ | refine shl16 (by omega) (by omega) ?_ | refine shl24 (by omega) (by omega) ?_ | refine shr8 (by decide) ?_ | refine shr4 (by decide) ?_ | refine shr1 (by decide) ?_ | refine shr16 (by decide) ?_ | refine shr24 (by decide) ?_) | (with_reducible first | refine bit_mk and_1 ?_ | refine bit_mk and_15 ?_ | refine bit_mk and_255 ?_ | refine bit_mk and_4095 ?_ | refine bit_mk and_65535 ?_) | (refine quo_pos (by omega) (by omega) (by omega) ?_) | (refine rem_pos (by omega) (by omega) ?_)))
  refine call_p rparse_meets L hL (VS.mk (LeL.of_eq rfl)) ?_
  rw [← hr]
  generalize pRes L = R at *
  obtain ⟨a, n, er⟩ := R
  (repeat' (first | (refine VS.mk ?_) | (refine dr_mk ?_) | (refine md_l ?_) | ((first | refine sp_not_dec ?_ ?_ | refine sp_dec ?_ ?_ | refine sp_beq ?_ ?_ | refine sp_bne ?_ ?_ | refine sp_seq ?_ ?_ | refine sp_sne ?_ ?_ | refine sp_not ?_ ?_ | refine sp_any ?_ ?_) <;> (intro hc; (try simp only [List.length_map, List.length_append, List.length_cons, List.length_nil, Bool.and_true, Bool.and_eq_true, beq_iff_eq, Bool.and_eq_false_iff, beq_eq_false_iff_ne, Bool.true_and, ne_eq] at hc); (try (exfalso; omega)))) | (with_reducible first | refine norm_one ?_ | refine norm_app ?_ | refine norm_cutEnd ?_ | refine norm_cut ?_ | refine norm_bytes1 ?_ | refine norm_bytes2 ?_ | refine norm_setByte ?_ | refine norm_int1 ?_ | refine norm_mk ?_) | (with_reducible refine bytes_mk ?_) | (refine ar_byte ?_) | (refine ar_i64 (by omega) (by omega) ?_) | (refine ar_low ?_) | (refine ix_byteN (by omega) ?_) | (refine ix_byteK (by simp only [Int.reduceToNat]; exact rfl) (by decide) (by omega) ?_) | (refine ix_byte (by omega) (by omega) ?_) | (refine ix_rfl (by decide) rfl ?_) | (refine sd_mk rfl ?_) | (refine sd_mk (by decide +kernel) ?_) | (refine sd_mk (by first | (simp only [List.length_map, List.length_append, List.length_cons, List.length_nil]; done) | ((try simp only [List.length_map, List.length_append, List.length_cons, List.length_nil, List.length_set, List.length_replicate, List.length_drop, List.length_take, true_and, and_true]); omega) | (dsimp only; omega)) ?_) | (first | refine shl8 (by omega) (by omega) ?_ | refine shl4 (by omega) (by omega) ?_ | refine shl1 (by omega) (by omega) ?_ | refine shl16 (by omega) (by omega) ?_ | refine shl24 (by omega) (by omega) ?_ | refine shr8 (by decide) ?_ | refine shr4 (by decide) ?_ | refine shr1 (by decide) ?_ | refine shr16 (by decide) ?_ | refine shr24 (by decide) ?_) | (with_reducible first | refine bit_mk and_1 ?_ | refine bit_mk and_15 ?_ | refine bit_mk and_255 ?_ | refine bit_mk and_4095 ?_ | refine bit_mk and_65535 ?_) | (refine quo_pos (by omega) (by omega) (by omega) ?_) | (refine rem_pos (by omega) (by omega) ?_)))
  all_goals (try (exfalso; exact absurd trivial hc))
  have hn : nodes a ≤ 1 + 2 * wt L := hn
  refine call_p (samee_meets (nodes a)) (a, a) ⟨Nat.le_refl _, by show nodes a ≤ _; omega⟩ (VS.mk (LeL.of_eq rfl)) ?_
  have hse : sameE a a = true := sameE_yes rfl
  dsimp only
  rw [hse]
  (repeat' (first | (refine VS.mk ?_) | (refine dr_mk ?_) | (refine md_l ?_) | ((first | refine sp_not_dec ?_ ?_ | refine sp_dec ?_ ?_ | refine sp_beq ?_ ?_ | refine sp_bne ?_ ?_ | refine sp_seq ?_ ?_ | refine sp_sne ?_ ?_ | refine sp_not ?_ ?_ | refine sp_any ?_ ?_) <;> (intro hc; (try simp only [List.length_map, List.length_append, List.length_cons, List.length_nil, Bool.and_true, Bool.and_eq_true, beq_iff_eq, Bool.and_eq_false_iff, beq_eq_false_iff_ne, Bool.true_and, ne_eq] at hc); (try (exfalso; omega)))) | (with_reducible first | refine norm_one ?_ | refine norm_app ?_ | refine norm_cutEnd ?_ | refine norm_cut ?_ | refine norm_bytes1 ?_ | refine norm_bytes2 ?_ | refine norm_setByte ?_ | refine norm_int1 ?_ | refine norm_mk ?_) | (with_reducible refine bytes_mk ?_) | (refine ar_byte ?_) | (refine ar_i64 (by omega) (by omega) ?_) | (refine ar_low ?_) | (refine ix_byteN (by omega) ?_) | (refine ix_byteK (by simp only [Int.reduceToNat]; exact rfl) (by decide) (by omega) ?_) | (refine ix_byte (by omega) (by omega) ?_) | (refine ix_rfl (by decide) rfl ?_) | (refine sd_mk rfl ?_) | (refine sd_mk (by decide +kernel) ?_) | (refine sd_mk (by first | (simp only [List.length_map, List.length_append, List.length_cons, List.length_nil]; done) | ((try simp only [List.length_map, List.length_append, List.length_cons, List.length_nil, List.length_set, List.length_replicate, List.length_drop, List.length_take, true_and, and_true]); omega) | (dsimp only; omega)) ?_) | (first | refine shl8 (by omega) (by omega) ?_ | refine shl4 (by omega) (by omega) ?_ | refine shl1 (by omega) (by omega) ?_ | refine shl16 (by omega) (by omega) ?_ | refine shl24 (by omega) (by omega) ?_ | refine shr8 (by decide) ?_ | refine shr4 (by decide) ?_ | refine shr1 (by decide) ?_ | refine shr16 (by decide) ?_ | refine shr24 (by decide) ?_) | (with_reducible first | refine bit_mk and_1 ?_ | refine bit_mk and_15 ?_ | refine bit_mk and_255 ?_ | refine bit_mk and_4095 ?_ | refine bit_mk and_65535 ?_) | (refine quo_pos (by omega) (by omega) (by omega) ?_) | (refine rem_pos (by omega) (by omega) ?_)))
  all_goals (try (exfalso; exact absurd rfl hc))
  all_goals (try (exfalso; exact absurd hc (by decide)))
  refine call_p (eval_meets l hl (nodes e)) e ⟨Nat.le_refl _, he⟩ (VS.mk (LeL.of_eq rfl)) ?_
  (repeat' (first | (refine VS.mk ?_) | (refine dr_mk ?_) | (refine md_l ?_) | ((first | refine sp_not_dec ?_ ?_ | refine sp_dec ?_ ?_ | refine sp_beq ?_ ?_ | refine sp_bne ?_ ?_ | refine sp_seq ?_ ?_ | refine sp_sne ?_ ?_ | refine sp_not ?_ ?_ | refine sp_any ?_ ?_) <;> (intro hc; (try simp only [List.length_map, List.length_append, List.length_cons, List.length_nil, Bool.and_true, Bool.and_eq_true, beq_iff_eq, Bool.and_eq_false_iff, beq_eq_false_iff_ne, Bool.true_and, ne_eq] at hc); (try (exfalso; omega)))) | (with_reducible first | refine norm_one ?_ | refine norm_app ?_ | refine norm_cutEnd ?_ | refine norm_cut ?_ | refine norm_bytes1 ?_ | refine norm_bytes2 ?_ | refine norm_setByte ?_ | refine norm_int1 ?_ | refine norm_mk ?_) | (with_reducible refine bytes_mk ?_) | (refine ar_byte ?_) | (refine ar_i64 (by omega) (by omega) ?_) | (refine ar_low ?_) | (refine ix_byteN (by omega) ?_) | (refine ix_byteK (by simp only [Int.reduceToNat]; exact rfl) (by decide) (by omega) ?_) | (refine ix_byte (by omega) (by omega) ?_) | (refine ix_rfl (by decide) rfl ?_) | (refine sd_mk rfl ?_) | (refine sd_mk (by decide +kernel) ?_) | (refine sd_mk (by first | (simp only [List.length_map, List.length_append, List.length_cons, List.length_nil]; done) | ((try simp only [List.length_map, List.length_append, List.length_cons, List.length_nil, List.length_set, List.length_replicate, List.length_drop, List.length_take, true_and, and_true]); omega) | (dsimp only; omega)) ?_) | (first | refine shl8 (by omega) (by omega) ?_ | refine shl4 (by omega) (by omega) ?_ | refine shl1 (by omega) (by omega) ?_ | refine shl16 (by omega) (by omega) ?_ | refine shl24 (by omega) (by omega) ?_ | refine shr8 (by decide) ?_ | refine shr4 (by decide) ?_ | refine shr1 (by decide) ?_ | refine shr16 (by decide) ?_ | refine shr24 (by decide) ?_) | (with_reducible first | refine bit_mk and_1 ?_ | refine bit_mk and_15 ?_ | refine bit_mk and_255 ?_ | refine bit_mk and_4095 ?_ | refine bit_mk and_65535 ?_) | (refine quo_pos (by omega) (by omega) (by omega) ?_) | (refine rem_pos (by omega) (by omega) ?_)))
  refine call_p (reval_meets l hl (nodes e)) e ⟨Nat.le_refl _, he⟩ (VS.mk (LeL.of_eq rfl)) ?_
  generalize evalE l e = V
  obtain ⟨⟨v, vn⟩, ve⟩ := V
  (repeat' (first | (refine VS.mk ?_) | (refine dr_mk ?_) | (refine md_l ?_) | ((first | refine sp_not_dec ?_ ?_ | refine sp_dec ?_ ?_ | refine sp_beq ?_ ?_ | refine sp_bne ?_ ?_ | refine sp_seq ?_ ?_ | refine sp_sne ?_ ?_ | refine sp_not ?_ ?_ | refine sp_any ?_ ?_) <;> (intro hc; (try simp only [List.length_map, List.length_append, List.length_cons, List.length_nil, Bool.and_true, Bool.and_eq_true, beq_iff_eq, Bool.and_eq_false_iff, beq_eq_false_iff_ne, Bool.true_and, ne_eq] at hc); (try (exfalso; omega)))) | (with_reducible first | refine norm_one ?_ | refine norm_app ?_ | refine norm_cutEnd ?_ | refine norm_cut ?_ | refine norm_bytes1 ?_ | refine norm_bytes2 ?_ | refine norm_setByte ?_ | refine norm_int1 ?_ | refine norm_mk ?_) | (with_reducible refine bytes_mk ?_) | (refine ar_byte ?_) | (refine ar_i64 (by omega) (by omega) ?_) | (refine ar_low ?_) | (refine ix_byteN (by omega) ?_) | (refine ix_byteK (by simp only [Int.reduceToNat]; exact rfl) (by decide) (by omega) ?_) | (refine ix_byte (by omega) (by omega) ?_) | (refine ix_rfl (by decide) rfl ?_) | (refine sd_mk rfl ?_) | (refine sd_mk (by decide +kernel) ?_) | (refine sd_mk (by first | (simp only [List.length_map, List.length_append, List.length_cons, List.length_nil]; done) | ((try simp only [List.length_map, List.length_append, List.length_cons, List.length_nil, List.length_set, List.length_replicate, List.length_drop, List.length_take, true_and, and_true]); omega) | (dsimp only; omega)) ?_) | (first | refine shl8 (by omega) (by omega) ?_ | refine shl4 (by omega) (by omega) ?_ | refine shl1 (by omega) (by omega) ?_ | refine shl16 (by omega) (by omega) ?_ | refine shl24 (by omega) (by omega) ?_ | refine shr8 (by decide) ?_ | refine shr4 (by decide) ?_ | refine shr1 (by decide) ?_ | refine shr16 (by decide) ?_ | refine shr24 (by decide) ?_) | (with_reducible first | refine bit_mk and_1 ?_ | refine bit_mk and_15 ?_ | refine bit_mk and_255 ?_ | refine bit_mk and_4095 ?_ | refine bit_mk and_65535 ?_) | (refine quo_pos (by omega) (by omega) (by omega) ?_) | (refine rem_pos (by omega) (by omega) ?_)))
  · refine eqS_flat [.str, .int .i64] (by kernel_rfl) rfl ?_
    (repeat' (first | (refine VS.mk ?_) | (refine dr_mk ?_) | (refine md_l ?_) | ((first | refine sp_not_dec ?_ ?_ | refine sp_dec ?_ ?_ | refine sp_beq ?_ ?_ | refine sp_bne ?_ ?_ | refine sp_seq ?_ ?_ | refine sp_sne ?_ ?_ | refine sp_not ?_ ?_ | refine sp_any ?_ ?_) <;> (intro hc; (try simp only [List.length_map, List.length_append, List.length_cons, List.length_nil, Bool.and_true, Bool.and_eq_true, beq_iff_eq, Bool.and_eq_false_iff, beq_eq_false_iff_ne, Bool.true_and, ne_eq] at hc); (try (exfalso; omega)))) | (with_reducible first | refine norm_one ?_ | refine norm_app ?_ | refine norm_cutEnd ?_ | refine norm_cut ?_ | refine norm_bytes1 ?_ | refine norm_bytes2 ?_ | refine norm_setByte ?_ | refine norm_int1 ?_ | refine norm_mk ?_) | (with_reducible refine bytes_mk ?_) | (refine ar_byte ?_) | (refine ar_i64 (by omega) (by omega) ?_) | (refine ar_low ?_) | (refine ix_byteN (by omega) ?_) | (refine ix_byteK (by simp only [Int.reduceToNat]; exact rfl) (by decide) (by omega) ?_) | (refine ix_byte (by omega) (by omega) ?_) | (refine ix_rfl (by decide) rfl ?_) | (refine sd_mk rfl ?_) | (refine sd_mk (by decide +kernel) ?_) | (refine sd_mk (by first | (simp only [List.length_map, List.length_append, List.length_cons, List.length_nil]; done) | ((try simp only [List.length_map, List.length_append, List.length_cons, List.length_nil, List.length_set, List.length_replicate, List.length_drop, List.length_take, true_and, and_true]); omega) | (dsimp only; omega)) ?_) | (first | refine shl8 (by omega) (by omega) ?_ | refine shl4 (by omega) (by omega) ?_ | refine shl1 (by omega) (by omega) ?_ | refine shl16 (by omega) (by omega) ?_ | refine shl24 (by omega) (by omega) ?_ | refine shr8 (by decide) ?_ | refine shr4 (by decide) ?_ | refine shr1 (by decide) ?_ | refine shr16 (by decide) ?_ | refine shr24 (by decide) ?_) | (with_reducible first | refine bit_mk and_1 ?_ | refine bit_mk and_15 ?_ | refine bit_mk and_255 ?_ | refine bit_mk and_4095 ?_ | refine bit_mk and_65535 ?_) | (refine quo_pos (by omega) (by omega) (by omega) ?_) | (refine rem_pos (by omega) (by omega) ?_)))
    refine end_p (VS.mk ?_)
    dsimp only
    simp only [beq_self_eq_true, Bool.and_true]
    exact LeD.refl _
  · exact absurd trivial hc
end Go.Proofs.Ytlilcfkcofafeaa

/-
  What the bound on what is handed in gives.
-/
namespace Go.Proofs.Ytlilcfkcofafeaa
open Go Go.Plat
set_option linter.unusedVariables false
set_option linter.unusedSimpArgs false
set_option maxRecDepth 100000
set_option maxHeartbeats 2000000
attribute [local irreducible] NilS LookS NormM bitI BytesS NormL Arith QuoS RemS ShlS ShrS BitS CatS SplitS SideS IdxS CallS LoopEnd EndS ModeS DrawS AWP Meets
theorem own : ownKnob Try.prog.godebug = none := by kernel_rfl

theorem one_le {H : Type} (d : DataW H) : 1 ≤ Rows.uptoBulk d := by
  cases d with
  | lit l => cases l <;> simp [Rows.uptoBulk]
  | nil => simp [Rows.uptoBulk]
  | ptr d => simp [Rows.uptoBulk]
  | slice el sp => simp [Rows.uptoBulk]
  | agg ps => simp [Rows.uptoBulk]
  | iface t d => simp [Rows.uptoBulk]
  | map es => simp [Rows.uptoBulk]
  | held h => simp [Rows.uptoBulk]
theorem part_le {H : Type} {d : DataW H} {l : List (DataW H)} (h : d ∈ l) : Rows.uptoBulk d ≤ Rows.uptoBulkAll l := by
  induction l with
  | nil => cases h
  | cons x r ih =>
    simp only [Rows.uptoBulkAll]
    cases List.mem_cons.1 h with
    | inl e => subst e; omega
    | inr e => have := ih e; omega
theorem length_le {H : Type} (l : List (DataW H)) : l.length ≤ Rows.uptoBulkAll l := by
  induction l with
  | nil => simp [Rows.uptoBulkAll]
  | cons x r ih => have := one_le x; simp only [Rows.uptoBulkAll, List.length_cons]; omega
theorem elems_all {H : Type} (d : DataW H) : Rows.uptoBulkAll (elems d) ≤ Rows.uptoBulk d := by
  cases d <;> simp only [elems, Rows.uptoBulk, Rows.uptoBulkAll] <;> omega
theorem elems_le {H : Type} (d : DataW H) : (elems d).length ≤ Rows.uptoBulk d := Nat.le_trans (length_le _) (elems_all d)
theorem bound {H : Type} {l : List (DataW H)} (hk : Rows.uptoSmall H l = true) : Rows.uptoBulkAll l ≤ 1048576 := of_decide_eq_true hk
end Go.Proofs.Ytlilcfkcofafeaa

/-
  What tokens, expressions and names' numbers read as.
-/
namespace Go.Proofs.Ytlilcfkcofafeaa
open Go Go.Plat
set_option linter.unusedVariables false
set_option linter.unusedSimpArgs false
set_option maxRecDepth 100000
set_option maxHeartbeats 2000000
attribute [local irreducible] NilS LookS NormM bitI BytesS NormL Arith QuoS RemS ShlS ShrS BitS CatS SplitS SideS IdxS CallS LoopEnd EndS ModeS DrawS AWP Meets

abbrev i64Sh : Sh := .int .i64
def tokSh : Sh := .fld i64Sh (.fld i64Sh (.fld .str .fin))
def equSh : Sh := .fld .str (.fld i64Sh .fin)
abbrev exprF (σ : Sh) : Sh := .fld i64Sh (.fld i64Sh (.fld .str (.fld (.sl 4 σ) .fin)))
def exprSh : Nat → Sh
  | 0 => .void 4
  | n + 1 => exprF (exprSh n)
theorem expr_size : ∀ n, (exprSh n).size = 4
  | 0 => rfl
  | n + 1 => by rw [exprSh]; rfl
theorem expr_vd : ∀ K, vdB K (exprSh (K + 1)) = true
  | 0 => by rw [exprSh]; simp [vdB]
  | K + 1 => by
    have h := expr_vd K
    rw [exprSh]
    simp only [vdB, h, Bool.and_true]
theorem fit_tok {H : Type} {d : DataW H} (h : fit tokSh (.inl d)) : ∃ t : OTok, rd tokSh d = tokD t ∧ 1 + t.text.length ≤ Rows.uptoBulk d := by
  obtain ⟨p0, r0, rfl, h0, k0⟩ := fit_fld h
  obtain ⟨p1, r1, rfl, h1, k1⟩ := fit_more k0
  obtain ⟨p2, r2, rfl, h2, k2⟩ := fit_more k1
  obtain rfl := fit_fin k2
  obtain ⟨n0, e0, _⟩ := fit_i64 h0
  obtain ⟨n1, e1, _⟩ := fit_i64 h1
  obtain ⟨s, rfl, e2⟩ := fit_str h2
  refine ⟨⟨n0, n1, s⟩, ?_, ?_⟩
  · unfold tokSh
    rw [rd_fld]
    simp only [rdF_cons, rdF_nil]
    rw [cl_one e0 rfl (by simp), cl_one e1 rfl (by simp), cl_one e2 rfl (by simp)]
    rfl
  · simp only [Rows.uptoBulk, Rows.uptoBulkAll]
    omega
theorem fit_equ {H : Type} {d : DataW H} (h : fit equSh (.inl d)) : ∃ s : OEqu, rd equSh d = equD s := by
  obtain ⟨p0, r0, rfl, h0, k0⟩ := fit_fld h
  obtain ⟨p1, r1, rfl, h1, k1⟩ := fit_more k0
  obtain rfl := fit_fin k1
  obtain ⟨s, rfl, e0⟩ := fit_str h0
  obtain ⟨n, e1, _⟩ := fit_i64 h1
  refine ⟨⟨s, n⟩, ?_⟩
  unfold equSh
  rw [rd_fld]
  simp only [rdF_cons, rdF_nil]
  rw [cl_one e0 rfl (by simp), cl_one e1 rfl (by simp)]
  rfl
theorem wt_le {H : Type} : ∀ {l : List OTok} {ds : List (DataW H)}, l.length = ds.length → (∀ (i : Nat) x t, ds[i]? = some x → l[i]? = some t → 1 + t.text.length ≤ Rows.uptoBulk x) → wt l ≤ Rows.uptoBulkAll ds
  | [], ds, _, _ => by rw [wt]; exact Nat.zero_le _
  | t :: l, [], h, _ => by cases h
  | t :: l, x :: ds, h, hq => by
    have h1 := hq 0 x t rfl rfl
    have h2 := wt_le (l := l) (ds := ds) (by simpa using h) fun i x t hx ht => hq (i + 1) x t (by simpa using hx) (by simpa using ht)
    rw [wt, Rows.uptoBulkAll]; omega
theorem nodes_le {H : Type} : ∀ {l : List OExpr} {ds : List (DataW H)}, l.length = ds.length → (∀ (i : Nat) x e, ds[i]? = some x → l[i]? = some e → nodes e ≤ Rows.uptoBulk x) → nodesL l ≤ Rows.uptoBulkAll ds
  | [], ds, _, _ => by rw [nodesL]; exact Nat.zero_le _
  | t :: l, [], h, _ => by cases h
  | t :: l, x :: ds, h, hq => by
    have h1 := hq 0 x t rfl rfl
    have h2 := nodes_le (l := l) (ds := ds) (by simpa using h) fun i x t hx ht => hq (i + 1) x t (by simpa using hx) (by simpa using ht)
    rw [nodesL, Rows.uptoBulkAll]; omega
theorem fit_expr {H : Type} : ∀ {n : Nat} {d : DataW H}, fit (exprSh n) (.inl d) → ∃ e : OExpr, rd (exprSh n) d = exprU e ∧ nodes e ≤ Rows.uptoBulk d
  | 0, d, h => by rw [exprSh] at h; simp [fit] at h
  | n + 1, d, h => by
    rw [exprSh] at h
    obtain ⟨p0, r0, rfl, h0, k0⟩ := fit_fld h
    obtain ⟨p1, r1, rfl, h1, k1⟩ := fit_more k0
    obtain ⟨p2, r2, rfl, h2, k2⟩ := fit_more k1
    obtain ⟨p3, r3, rfl, h3, k3⟩ := fit_more k2
    obtain rfl := fit_fin k3
    obtain ⟨n0, e0, _⟩ := fit_i64 h0
    obtain ⟨n1, e1, _⟩ := fit_i64 h1
    obtain ⟨s, rfl, e2⟩ := fit_str h2
    obtain ⟨ks, e3, l3, q3⟩ := fit_sl (g := exprD) (Q := fun d e => nodes e ≤ Rows.uptoBulk d) h3 fun x _ hx => by
      obtain ⟨e, i1, i2⟩ := fit_expr hx
      exact ⟨e, by rw [exprD_eq]; exact i1, i2⟩
    refine ⟨.mk n0 n1 s ks, ?_, ?_⟩
    · rw [exprSh, rd_fld]
      simp only [rdF_cons, rdF_nil]
      rw [cl_one e0 rfl (by simp), cl_one e1 rfl (by simp), cl_one e2 rfl (by simp), cl_one e3 rfl (by simp), exprU_mk]
      rfl
    · have a := nodes_le l3 q3
      have b := elems_all p3
      rw [nodes]
      simp only [Rows.uptoBulk, Rows.uptoBulkAll]
      omega
theorem chk_step (σ : Sh) : chk Try.prog (exprF σ) (.inl 25) = ((Nat.beq σ.size 4 && chk Try.prog σ (.inl 25)) && true) := by kernel_rfl
theorem expr_chk : ∀ n, chk Try.prog (exprSh n) (.inl 25) = true
  | 0 => by kernel_rfl
  | n + 1 => by rw [exprSh, chk_step, expr_size, expr_chk n]; rfl
abbrev tellSh (K : Nat) : List Sh := [.sl 3 tokSh, exprSh (K + 1), .sl 2 equSh]
theorem fit_tells {H : Type} {K : Nat} {ds : List (DataW H)} (h : fitAll (tellSh K) ds) (hb : Rows.uptoBulkAll ds ≤ 1048576) : ∃ (L : List OTok) (e : OExpr) (l : List OEqu), rdAll (tellSh K) ds = [.sl 3 (L.map tokD) none, exprU e, .sl 2 (l.map equD) none] ∧
    L.length ≤ 1000000000 ∧ wt L ≤ 100000000 ∧ nodes e ≤ 1048576 ∧ l.length ≤ 1000000000 := by
  obtain ⟨d1, d2, d3, rfl, h1, h2, h3⟩ := fitAll3 h
  simp only [Rows.uptoBulkAll] at hb
  obtain ⟨L, e1, l1, q1⟩ := fit_sl (g := tokD) (Q := fun d t => 1 + t.text.length ≤ Rows.uptoBulk d) h1 fun x _ hx => fit_tok hx
  obtain ⟨e, e2, l2⟩ := fit_expr h2
  obtain ⟨l, e3, l3, _⟩ := fit_sl (g := equD) (Q := fun _ _ => True) h3 fun x _ hx => by
    obtain ⟨s, h⟩ := fit_equ hx
    exact ⟨s, h, trivial⟩
  have w := wt_le l1 q1
  have b1 := elems_all d1
  have b2 := elems_le d1
  have b3 := elems_le d3
  refine ⟨L, e, l, by simp only [rdAll, e1, e2, e3], by omega, by omega, by omega, by omega⟩
end Go.Proofs.Ytlilcfkcofafeaa
