/-
  The statement: whatever is handed in, of bounded bulk, the law answers true and leaves it as it was.
-/
import Derived.Test.YtdapgcdenpgnaaaSt2
/-
  The statements of machines, step by step as at once, and of what is not written: whatever machine, of bounded bulk, the law answers true.
-/
namespace Go.Proofs.Ytdapgcdenpgnaaa
open Go Go.Plat
set_option linter.unusedVariables false
set_option linter.unusedSimpArgs false
set_option maxRecDepth 100000
set_option maxHeartbeats 2000000
attribute [local irreducible] NilS LookS NormM bitI BytesS NormL Arith QuoS RemS ShlS ShrS BitS CatS SplitS SideS IdxS CallS LoopEnd EndS ModeS DrawS AWP Meets
open Go.ChangeShapes Go.WideShapes Go.ChangeAt Go.RowKit

abbrev simParts_spec : Plat.Spec := SpecP (fun ((m, most, more) : Mach × Int × Int) => m.img.bytes.length ≤ 1048576 ∧ m.img.syms.length ≤ 1048576 ∧ m.told.length ≤ 1048576) (fun (m, most, more) => [machD m, .int .i64 most, .int .i64 more]) fun _ => .bool true
theorem simParts_def {H : Type} {ds : List (DataW H)} (h : fitAll [machSh, i64Sh, i64Sh] ds) : Rows.simPartsSpec.fn H (ds ++ []) = { results := [.lit (.bool true)], args := ds } := by
  obtain ⟨d1, d2, d3, rfl, _⟩ := fitAll3 h
  rfl
theorem simParts_fits {H : Type} {ds : List (DataW H)} (h : fitAll [machSh, i64Sh, i64Sh] ds) (hl : Rows.uptoBulkAll ds ≤ 1048576) : simParts_spec (rdAll [machSh, i64Sh, i64Sh] ds) [] (.bool true) [] := by
  obtain ⟨d1, d2, d3, rfl, h1, h2, h3⟩ := fitAll3 h
  simp only [Rows.uptoBulkAll] at hl
  obtain ⟨m, e1, q1, q2, q3⟩ := fit_mach h1 (by omega)
  obtain ⟨n, e2, _⟩ := fit_i64 h2
  obtain ⟨k, e3, _⟩ := fit_i64 h3
  refine ⟨(m, n, k), ⟨q1, q2, q3⟩, ?_, rfl, rfl, rfl⟩
  · show LeL (rdAll [machSh, i64Sh, i64Sh] [d1, d2, d3]) _
    simp only [rdAll, e1, e2, e3]
    exact LeL.refl _
theorem simParts_params : chkAll Try.prog [machSh, i64Sh, i64Sh] Try.f4.params.toList = true := by kernel_rfl
theorem simParts_contract {H : Type} {enc : TypeId × Value → H} {W : World} {base : Nat} {args : Array Value} {ds gs : List (DataW H)} {before : List MemPlace}
    (hval : ∀ (j : Nat) t v, Try.f4.params[j]? = some t → args[j]? = some v → Value.okWide Try.prog W .any base t v)
    (hW : DataW.Whole enc Try.prog Try.f4.params.toList Rows.simPartsSpec.vars false W args.toList ds gs before) (hk : Rows.uptoSmall H (ds ++ gs) = true)
    (hsp : fitAll [machSh, i64Sh, i64Sh] ds → Rows.uptoBulkAll ds ≤ 1048576 → simParts_spec (rdAll [machSh, i64Sh, i64Sh] ds) [] (.bool true) []) (hdef : fitAll [machSh, i64Sh, i64Sh] ds → Rows.simPartsSpec.fn H (ds ++ []) = { results := [.lit (.bool true)], args := ds }) :
    Calls Try.prog n_pllaw9_SimParts args W fun e W' => ∃ v, e = .returned v ∧ Rows.simPartsSpec.post enc Try.prog Try.f4 false true false false W args v W' := by
  have hgs : gs = [] := by obtain ⟨p, q, _, hV, _⟩ := hW; cases gs with | nil => rfl | cons g gs => exact hV.elim
  subst hgs
  exact law_contract (s := Rows.simPartsSpec) (tb := 4) simParts_params (by kernel_rfl) rfl (by kernel_rfl) (by kernel_rfl) hdef (fun j t v h1 h2 => ⟨_, _, hval j t v h1 h2⟩) hW sparts_meets
    fun h => hsp h (by have := bound hk; rwa [List.append_nil] at this)
theorem simParts_lifted (os : Os) (started : os.Started) (H : Type) (enc : TypeId × Value → H) (F : Stop.Interp) :
    ReturnsInHanded {} Try.checked os n_pllaw9_SimParts .any ((Rows.OpenSpec.upto Rows.simPartsSpec).pre6 enc Try.prog Try.f4 Rows.simPartsUptoRow.domain false) (((Rows.OpenSpec.upto Rows.simPartsSpec).at F).post enc Try.prog Try.f4 false true false false) := by
  refine returnsInHanded_of_cond (C := Try.checked) (s := Rows.OpenSpec.upto Rows.simPartsSpec) (k := Rows.uptoSmall) rfl own started (by kernel_rfl) Try.func4
    (OpenSpec.witness (enc := enc) (C := Try.checked) (s := Rows.OpenSpec.upto Rows.simPartsSpec) (k := Rows.uptoSmall) rfl false ⟨#[], #[.agg #[.int .i64 0, .int .i64 0, .int .i64 0, .int .i64 0, .int .i64 0, .int .i64 0, .int .i64 0, .int .i64 0, .int .i64 0, .int .i64 0, .int .i64 0, .int .i64 0, .int .i64 0, .int .i64 0, .int .i64 0, .int .i64 0, .bool false, .int .i64 0, .int .i64 0, .int .i64 0, .slice none 0 0, .slice none 0 0, .slice none 0 0, .int .i64 0], .int .i64 0, .int .i64 0], []⟩ 8 (by kernel_rfl) (by kernel_rfl) (by kernel_rfl)
      (x := ([.agg [.agg [.lit (.int .i64 0), .lit (.int .i64 0), .lit (.int .i64 0), .lit (.int .i64 0), .lit (.int .i64 0), .lit (.int .i64 0), .lit (.int .i64 0), .lit (.int .i64 0), .lit (.int .i64 0), .lit (.int .i64 0), .lit (.int .i64 0), .lit (.int .i64 0), .lit (.int .i64 0), .lit (.int .i64 0), .lit (.int .i64 0), .lit (.int .i64 0)], .lit (.bool false), .lit (.int .i64 0), .lit (.int .i64 0), .agg [.lit (.int .i64 0), .nil, .nil], .nil, .lit (.int .i64 0)], .lit (.int .i64 0), .lit (.int .i64 0)], [], [])) (by kernel_rfl) rfl (by kernel_rfl)) ?_
  intro W base args ds gs before hval hW _ hk _
  refine simParts_contract hval hW hk (fun h hl => ?_) fun h => simParts_def h
  exact simParts_fits h hl
theorem simParts_holds : Rows.SimPartsUptoSaid :=
  OpenClaim.holds_of_cond n_pllaw9_SimParts Try.f4 rfl rfl rfl rfl rfl rfl rfl ⟨rfl, rfl, rfl, rfl, rfl⟩ rfl rfl rfl rfl rfl (by kernel_rfl) Try.func4 (by kernel_rfl)
    (of_decide_eq_true (by kernel_rfl)) (by unfold Func.isWrapper; first | (rw [if_pos (by decide +kernel)]; kernel_rfl) | (rw [if_neg (by decide +kernel)]; exact ⟨rfl, rfl⟩))
    (fun os started H enc _ F => simParts_lifted os started H enc F)
abbrev simStays_spec : Plat.Spec := SpecP (fun ((m, n) : Mach × Int) => m.img.bytes.length ≤ 1048576 ∧ m.img.syms.length ≤ 1048576 ∧ m.told.length ≤ 1048576) (fun (m, n) => [machD m, .int .i64 n]) fun _ => .bool true
theorem simStays_def {H : Type} {ds : List (DataW H)} (h : fitAll [machSh, i64Sh] ds) : Rows.simStaysSpec.fn H (ds ++ []) = { results := [.lit (.bool true)], args := ds } := by
  obtain ⟨d1, d2, rfl, _⟩ := fitAll2 h
  rfl
theorem simStays_fits {H : Type} {ds : List (DataW H)} (h : fitAll [machSh, i64Sh] ds) (hl : Rows.uptoBulkAll ds ≤ 1048576) : simStays_spec (rdAll [machSh, i64Sh] ds) [] (.bool true) [] := by
  obtain ⟨d1, d2, rfl, h1, h2⟩ := fitAll2 h
  simp only [Rows.uptoBulkAll] at hl
  obtain ⟨m, e1, q1, q2, q3⟩ := fit_mach h1 (by omega)
  obtain ⟨n, e2, _⟩ := fit_i64 h2
  refine ⟨(m, n), ⟨q1, q2, q3⟩, ?_, rfl, rfl, rfl⟩
  · show LeL (rdAll [machSh, i64Sh] [d1, d2]) _
    simp only [rdAll, e1, e2]
    exact LeL.refl _
theorem simStays_params : chkAll Try.prog [machSh, i64Sh] Try.f5.params.toList = true := by kernel_rfl
theorem simStays_contract {H : Type} {enc : TypeId × Value → H} {W : World} {base : Nat} {args : Array Value} {ds gs : List (DataW H)} {before : List MemPlace}
    (hval : ∀ (j : Nat) t v, Try.f5.params[j]? = some t → args[j]? = some v → Value.okWide Try.prog W .any base t v)
    (hW : DataW.Whole enc Try.prog Try.f5.params.toList Rows.simStaysSpec.vars false W args.toList ds gs before) (hk : Rows.uptoSmall H (ds ++ gs) = true)
    (hsp : fitAll [machSh, i64Sh] ds → Rows.uptoBulkAll ds ≤ 1048576 → simStays_spec (rdAll [machSh, i64Sh] ds) [] (.bool true) []) (hdef : fitAll [machSh, i64Sh] ds → Rows.simStaysSpec.fn H (ds ++ []) = { results := [.lit (.bool true)], args := ds }) :
    Calls Try.prog n_pllaw9_SimStays args W fun e W' => ∃ v, e = .returned v ∧ Rows.simStaysSpec.post enc Try.prog Try.f5 false true false false W args v W' := by
  have hgs : gs = [] := by obtain ⟨p, q, _, hV, _⟩ := hW; cases gs with | nil => rfl | cons g gs => exact hV.elim
  subst hgs
  exact law_contract (s := Rows.simStaysSpec) (tb := 4) simStays_params (by kernel_rfl) rfl (by kernel_rfl) (by kernel_rfl) hdef (fun j t v h1 h2 => ⟨_, _, hval j t v h1 h2⟩) hW sstays_meets
    fun h => hsp h (by have := bound hk; rwa [List.append_nil] at this)
theorem simStays_lifted (os : Os) (started : os.Started) (H : Type) (enc : TypeId × Value → H) (F : Stop.Interp) :
    ReturnsInHanded {} Try.checked os n_pllaw9_SimStays .any ((Rows.OpenSpec.upto Rows.simStaysSpec).pre6 enc Try.prog Try.f5 Rows.simStaysUptoRow.domain false) (((Rows.OpenSpec.upto Rows.simStaysSpec).at F).post enc Try.prog Try.f5 false true false false) := by
  refine returnsInHanded_of_cond (C := Try.checked) (s := Rows.OpenSpec.upto Rows.simStaysSpec) (k := Rows.uptoSmall) rfl own started (by kernel_rfl) Try.func5
    (OpenSpec.witness (enc := enc) (C := Try.checked) (s := Rows.OpenSpec.upto Rows.simStaysSpec) (k := Rows.uptoSmall) rfl false ⟨#[], #[.agg #[.int .i64 0, .int .i64 0, .int .i64 0, .int .i64 0, .int .i64 0, .int .i64 0, .int .i64 0, .int .i64 0, .int .i64 0, .int .i64 0, .int .i64 0, .int .i64 0, .int .i64 0, .int .i64 0, .int .i64 0, .int .i64 0, .bool false, .int .i64 0, .int .i64 0, .int .i64 0, .slice none 0 0, .slice none 0 0, .slice none 0 0, .int .i64 0], .int .i64 0], []⟩ 8 (by kernel_rfl) (by kernel_rfl) (by kernel_rfl)
      (x := ([.agg [.agg [.lit (.int .i64 0), .lit (.int .i64 0), .lit (.int .i64 0), .lit (.int .i64 0), .lit (.int .i64 0), .lit (.int .i64 0), .lit (.int .i64 0), .lit (.int .i64 0), .lit (.int .i64 0), .lit (.int .i64 0), .lit (.int .i64 0), .lit (.int .i64 0), .lit (.int .i64 0), .lit (.int .i64 0), .lit (.int .i64 0), .lit (.int .i64 0)], .lit (.bool false), .lit (.int .i64 0), .lit (.int .i64 0), .agg [.lit (.int .i64 0), .nil, .nil], .nil, .lit (.int .i64 0)], .lit (.int .i64 0)], [], [])) (by kernel_rfl) rfl (by kernel_rfl)) ?_
  intro W base args ds gs before hval hW _ hk _
  refine simStays_contract hval hW hk (fun h hl => ?_) fun h => simStays_def h
  exact simStays_fits h hl
theorem simStays_holds : Rows.SimStaysUptoSaid :=
  OpenClaim.holds_of_cond n_pllaw9_SimStays Try.f5 rfl rfl rfl rfl rfl rfl rfl ⟨rfl, rfl, rfl, rfl, rfl⟩ rfl rfl rfl rfl rfl (by kernel_rfl) Try.func5 (by kernel_rfl)
    (of_decide_eq_true (by kernel_rfl)) (by unfold Func.isWrapper; first | (rw [if_pos (by decide +kernel)]; kernel_rfl) | (rw [if_neg (by decide +kernel)]; exact ⟨rfl, rfl⟩))
    (fun os started H enc _ F => simStays_lifted os started H enc F)
end Go.Proofs.Ytdapgcdenpgnaaa
