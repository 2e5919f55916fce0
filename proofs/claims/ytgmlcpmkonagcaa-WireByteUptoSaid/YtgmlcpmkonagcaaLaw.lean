/-
  The statement: whatever is handed in, of bounded bulk, the law answers true and leaves it as it was.
-/
import Derived.Test.YtgmlcpmkonagcaaSt2
/-
  The statements about messages: whatever is handed in, of bounded bulk, the law answers true.
-/
namespace Go.Proofs.Ytgmlcpmkonagcaa
open Go Go.Plat
set_option linter.unusedVariables false
set_option linter.unusedSimpArgs false
set_option maxRecDepth 100000
set_option maxHeartbeats 2000000
attribute [local irreducible] BytesS NormL Arith QuoS RemS ShlS ShrS BitS CatS SplitS SideS IdxS CallS LoopEnd EndS ModeS DrawS AWP Meets
open Go.ChangeShapes Go.WideShapes Go.ChangeAt Go.RowKit

abbrev wireTurns_spec : Plat.Spec := SpecP (fun ((m, b) : Msg × List UInt8) => b.length ≤ 1000000000) (fun (m, b) => [msgD m, bytesD b]) fun _ => .bool true
theorem wireTurns_def {H : Type} {ds : List (DataW H)} (h : fitAll [msgSh, bytesSh] ds) : Rows.wireTurnsSpec.fn H (ds ++ []) = { results := [.lit (.bool true)], args := ds } := by
  obtain ⟨d1, d2, rfl, _⟩ := fitAll2 h
  rfl
theorem wireTurns_fits {H : Type} {ds : List (DataW H)} (h : fitAll [msgSh, bytesSh] ds) (hl : Rows.uptoBulkAll ds ≤ 1048576) : wireTurns_spec (rdAll [msgSh, bytesSh] ds) [] (.bool true) [] := by
  obtain ⟨d1, d2, rfl, h1, h2⟩ := fitAll2 h
  obtain ⟨m, e1, _⟩ := fit_msg h1
  obtain ⟨b, e2, hb⟩ := fit_bytes h2
  have := elems_le d2
  simp only [Rows.uptoBulkAll] at hl
  refine ⟨(m, b), ?_, ?_, rfl, rfl, rfl⟩
  · show b.length ≤ 1000000000
    omega
  · show LeL (rdAll [msgSh, bytesSh] [d1, d2]) _
    simp only [rdAll, e1, e2]
    exact LeL.refl _
theorem wireTurns_params : chkAll Try.prog [msgSh, bytesSh] Try.f4.params.toList = true := by kernel_rfl
theorem wireTurns_contract {H : Type} {enc : TypeId × Value → H} {W : World} {base : Nat} {args : Array Value} {ds gs : List (DataW H)} {before : List MemPlace}
    (hval : ∀ (j : Nat) t v, Try.f4.params[j]? = some t → args[j]? = some v → Value.okWide Try.prog W .any base t v)
    (hW : DataW.Whole enc Try.prog Try.f4.params.toList Rows.wireTurnsSpec.vars false W args.toList ds gs before) (hk : Rows.uptoSmall H (ds ++ gs) = true)
    (hsp : fitAll [msgSh, bytesSh] ds → Rows.uptoBulkAll ds ≤ 1048576 → wireTurns_spec (rdAll [msgSh, bytesSh] ds) [] (.bool true) []) (hdef : fitAll [msgSh, bytesSh] ds → Rows.wireTurnsSpec.fn H (ds ++ []) = { results := [.lit (.bool true)], args := ds }) :
    Calls Try.prog n_pllaw10_WireTurns args W fun e W' => ∃ v, e = .returned v ∧ Rows.wireTurnsSpec.post enc Try.prog Try.f4 false true false false W args v W' := by
  have hgs : gs = [] := by obtain ⟨p, q, _, hV, _⟩ := hW; cases gs with | nil => rfl | cons g gs => exact hV.elim
  subst hgs
  exact law_contract (s := Rows.wireTurnsSpec) (tb := 4) wireTurns_params rfl (by kernel_rfl) (by kernel_rfl) hdef (fun j t v h1 h2 => ⟨_, _, hval j t v h1 h2⟩) hW turns_meets
    fun h => hsp h (by have := bound hk; rwa [List.append_nil] at this)
theorem wireTurns_lifted (os : Os) (started : os.Started) (H : Type) (enc : TypeId × Value → H) (F : Stop.Interp) :
    ReturnsInHanded {} Try.checked os n_pllaw10_WireTurns .any ((Rows.OpenSpec.upto Rows.wireTurnsSpec).pre6 enc Try.prog Try.f4 Rows.wireTurnsUptoRow.domain false) (((Rows.OpenSpec.upto Rows.wireTurnsSpec).at F).post enc Try.prog Try.f4 false true false false) := by
  refine returnsInHanded_of_cond (C := Try.checked) (s := Rows.OpenSpec.upto Rows.wireTurnsSpec) (k := Rows.uptoSmall) rfl own started (by kernel_rfl) Try.func4
    (OpenSpec.witness (enc := enc) (C := Try.checked) (s := Rows.OpenSpec.upto Rows.wireTurnsSpec) (k := Rows.uptoSmall) rfl false ⟨#[], #[.agg #[.int .i64 0, .int .i64 0, .int .i64 0, .int .i64 0, .int .i64 0, .int .i64 0, .slice none 0 0], .slice none 0 0], []⟩ 8 (by kernel_rfl) (by kernel_rfl) (by kernel_rfl)
      (x := ([.agg [.lit (.int .i64 0), .lit (.int .i64 0), .lit (.int .i64 0), .lit (.int .i64 0), .agg [.lit (.int .i64 0), .lit (.int .i64 0)], .nil], .nil], [], [])) (by kernel_rfl) rfl (by kernel_rfl)) ?_
  intro W base args ds gs before hval hW _ hk _
  refine wireTurns_contract hval hW hk (fun h hl => ?_) fun h => wireTurns_def h
  exact wireTurns_fits h hl
theorem wireTurns_holds : Rows.WireTurnsUptoSaid :=
  OpenClaim.holds_of_cond n_pllaw10_WireTurns Try.f4 rfl rfl rfl rfl rfl rfl rfl ⟨rfl, rfl, rfl, rfl, rfl⟩ rfl rfl rfl rfl rfl (by kernel_rfl) Try.func4 (by kernel_rfl)
    (of_decide_eq_true (by kernel_rfl)) (by unfold Func.isWrapper; first | (rw [if_pos (by decide +kernel)]; kernel_rfl) | (rw [if_neg (by decide +kernel)]; exact ⟨rfl, rfl⟩))
    (fun os started H enc _ F => wireTurns_lifted os started H enc F)

abbrev wireByte_spec : Plat.Spec := SpecP (fun ((m, i, c) : Msg × Int × UInt8) => I64 i) (fun (m, i, c) => [msgD m, .int .i64 i, byteD c]) fun _ => .bool true
abbrev u8Sh : Sh := .int .u8
theorem wireByte_def {H : Type} {ds : List (DataW H)} (h : fitAll [msgSh, i64Sh, u8Sh] ds) : Rows.wireByteSpec.fn H (ds ++ []) = { results := [.lit (.bool true)], args := ds } := by
  obtain ⟨d1, d2, d3, rfl, _⟩ := fitAll3 h
  rfl
theorem wireByte_fits {H : Type} {ds : List (DataW H)} (h : fitAll [msgSh, i64Sh, u8Sh] ds) (hl : Rows.uptoBulkAll ds ≤ 1048576) : wireByte_spec (rdAll [msgSh, i64Sh, u8Sh] ds) [] (.bool true) [] := by
  obtain ⟨d1, d2, d3, rfl, h1, h2, h3⟩ := fitAll3 h
  obtain ⟨m, e1, _⟩ := fit_msg h1
  obtain ⟨i, e2, hi⟩ := fit_i64 h2
  obtain ⟨c, e3⟩ := fit_u8 h3
  refine ⟨(m, i, c), hi, ?_, rfl, rfl, rfl⟩
  show LeL (rdAll [msgSh, i64Sh, u8Sh] [d1, d2, d3]) _
  simp only [rdAll, e1, e2, e3]
  exact LeL.refl _
theorem wireByte_params : chkAll Try.prog [msgSh, i64Sh, u8Sh] Try.f5.params.toList = true := by kernel_rfl
theorem wireByte_contract {H : Type} {enc : TypeId × Value → H} {W : World} {base : Nat} {args : Array Value} {ds gs : List (DataW H)} {before : List MemPlace}
    (hval : ∀ (j : Nat) t v, Try.f5.params[j]? = some t → args[j]? = some v → Value.okWide Try.prog W .any base t v)
    (hW : DataW.Whole enc Try.prog Try.f5.params.toList Rows.wireByteSpec.vars false W args.toList ds gs before) (hk : Rows.uptoSmall H (ds ++ gs) = true)
    (hsp : fitAll [msgSh, i64Sh, u8Sh] ds → Rows.uptoBulkAll ds ≤ 1048576 → wireByte_spec (rdAll [msgSh, i64Sh, u8Sh] ds) [] (.bool true) []) (hdef : fitAll [msgSh, i64Sh, u8Sh] ds → Rows.wireByteSpec.fn H (ds ++ []) = { results := [.lit (.bool true)], args := ds }) :
    Calls Try.prog n_pllaw10_WireByte args W fun e W' => ∃ v, e = .returned v ∧ Rows.wireByteSpec.post enc Try.prog Try.f5 false true false false W args v W' := by
  have hgs : gs = [] := by obtain ⟨p, q, _, hV, _⟩ := hW; cases gs with | nil => rfl | cons g gs => exact hV.elim
  subst hgs
  exact law_contract (s := Rows.wireByteSpec) (tb := 4) wireByte_params rfl (by kernel_rfl) (by kernel_rfl) hdef (fun j t v h1 h2 => ⟨_, _, hval j t v h1 h2⟩) hW byte_meets
    fun h => hsp h (by have := bound hk; rwa [List.append_nil] at this)
theorem wireByte_lifted (os : Os) (started : os.Started) (H : Type) (enc : TypeId × Value → H) (F : Stop.Interp) :
    ReturnsInHanded {} Try.checked os n_pllaw10_WireByte .any ((Rows.OpenSpec.upto Rows.wireByteSpec).pre6 enc Try.prog Try.f5 Rows.wireByteUptoRow.domain false) (((Rows.OpenSpec.upto Rows.wireByteSpec).at F).post enc Try.prog Try.f5 false true false false) := by
  refine returnsInHanded_of_cond (C := Try.checked) (s := Rows.OpenSpec.upto Rows.wireByteSpec) (k := Rows.uptoSmall) rfl own started (by kernel_rfl) Try.func5
    (OpenSpec.witness (enc := enc) (C := Try.checked) (s := Rows.OpenSpec.upto Rows.wireByteSpec) (k := Rows.uptoSmall) rfl false ⟨#[], #[.agg #[.int .i64 0, .int .i64 0, .int .i64 0, .int .i64 0, .int .i64 0, .int .i64 0, .slice none 0 0], .int .i64 0, .int .u8 0], []⟩ 8 (by kernel_rfl) (by kernel_rfl) (by kernel_rfl)
      (x := ([.agg [.lit (.int .i64 0), .lit (.int .i64 0), .lit (.int .i64 0), .lit (.int .i64 0), .agg [.lit (.int .i64 0), .lit (.int .i64 0)], .nil], .lit (.int .i64 0), .lit (.int .u8 0)], [], [])) (by kernel_rfl) rfl (by kernel_rfl)) ?_
  intro W base args ds gs before hval hW _ hk _
  refine wireByte_contract hval hW hk (fun h hl => ?_) fun h => wireByte_def h
  exact wireByte_fits h hl
theorem wireByte_holds : Rows.WireByteUptoSaid :=
  OpenClaim.holds_of_cond n_pllaw10_WireByte Try.f5 rfl rfl rfl rfl rfl rfl rfl ⟨rfl, rfl, rfl, rfl, rfl⟩ rfl rfl rfl rfl rfl (by kernel_rfl) Try.func5 (by kernel_rfl)
    (of_decide_eq_true (by kernel_rfl)) (by unfold Func.isWrapper; first | (rw [if_pos (by decide +kernel)]; kernel_rfl) | (rw [if_neg (by decide +kernel)]; exact ⟨rfl, rfl⟩))
    (fun os started H enc _ F => wireByte_lifted os started H enc F)
end Go.Proofs.Ytgmlcpmkonagcaa
