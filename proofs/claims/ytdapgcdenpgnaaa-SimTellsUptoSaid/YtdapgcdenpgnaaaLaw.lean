/-
  The statement: whatever is handed in, of bounded bulk, the law answers true and leaves it as it was.
-/
import Derived.Test.YtdapgcdenpgnaaaSt2
/-
  The statement that tells of machines: whatever machine, of bounded bulk, the law answers true.
-/
namespace Go.Proofs.Ytdapgcdenpgnaaa
open Go Go.Plat
set_option linter.unusedVariables false
set_option linter.unusedSimpArgs false
set_option maxRecDepth 100000
set_option maxHeartbeats 2000000
attribute [local irreducible] NilS LookS NormM bitI BytesS NormL Arith QuoS RemS ShlS ShrS BitS CatS SplitS SideS IdxS CallS LoopEnd EndS ModeS DrawS AWP Meets
open Go.ChangeShapes Go.WideShapes Go.ChangeAt Go.RowKit

abbrev simTells_spec : Plat.Spec := SpecP (fun ((m, most) : Mach × Int) => m.img.bytes.length ≤ 1048576 ∧ m.img.syms.length ≤ 1048576 ∧ m.told.length ≤ 1048576) (fun (m, most) => [machD m, .int .i64 most]) fun _ => .bool true
theorem simTells_def {H : Type} {ds : List (DataW H)} (h : fitAll [machSh, i64Sh] ds) : Rows.simTellsSpec.fn H (ds ++ []) = { results := [.lit (.bool true)], args := ds } := by
  obtain ⟨d1, d2, rfl, _⟩ := fitAll2 h
  rfl
theorem simTells_fits {H : Type} {ds : List (DataW H)} (h : fitAll [machSh, i64Sh] ds) (hl : Rows.uptoBulkAll ds ≤ 1048576) : simTells_spec (rdAll [machSh, i64Sh] ds) [] (.bool true) [] := by
  obtain ⟨d1, d2, rfl, h1, h2⟩ := fitAll2 h
  simp only [Rows.uptoBulkAll] at hl
  obtain ⟨m, e1, q1, q2, q3⟩ := fit_mach h1 (by omega)
  obtain ⟨n, e2, _⟩ := fit_i64 h2
  refine ⟨(m, n), ⟨q1, q2, q3⟩, ?_, rfl, rfl, rfl⟩
  · show LeL (rdAll [machSh, i64Sh] [d1, d2]) _
    simp only [rdAll, e1, e2]
    exact LeL.refl _
theorem simTells_params : chkAll Try.prog [machSh, i64Sh] Try.f3.params.toList = true := by kernel_rfl
theorem simTells_contract {H : Type} {enc : TypeId × Value → H} {W : World} {base : Nat} {args : Array Value} {ds gs : List (DataW H)} {before : List MemPlace}
    (hval : ∀ (j : Nat) t v, Try.f3.params[j]? = some t → args[j]? = some v → Value.okWide Try.prog W .any base t v)
    (hW : DataW.Whole enc Try.prog Try.f3.params.toList Rows.simTellsSpec.vars false W args.toList ds gs before) (hk : Rows.uptoSmall H (ds ++ gs) = true)
    (hsp : fitAll [machSh, i64Sh] ds → Rows.uptoBulkAll ds ≤ 1048576 → simTells_spec (rdAll [machSh, i64Sh] ds) [] (.bool true) []) (hdef : fitAll [machSh, i64Sh] ds → Rows.simTellsSpec.fn H (ds ++ []) = { results := [.lit (.bool true)], args := ds }) :
    Calls Try.prog n_pllaw9_SimTells args W fun e W' => ∃ v, e = .returned v ∧ Rows.simTellsSpec.post enc Try.prog Try.f3 false true false false W args v W' := by
  have hgs : gs = [] := by obtain ⟨p, q, _, hV, _⟩ := hW; cases gs with | nil => rfl | cons g gs => exact hV.elim
  subst hgs
  exact law_contract (s := Rows.simTellsSpec) (tb := 4) simTells_params (by kernel_rfl) rfl (by kernel_rfl) (by kernel_rfl) hdef (fun j t v h1 h2 => ⟨_, _, hval j t v h1 h2⟩) hW stells_meets
    fun h => hsp h (by have := bound hk; rwa [List.append_nil] at this)
theorem simTells_lifted (os : Os) (started : os.Started) (H : Type) (enc : TypeId × Value → H) (F : Stop.Interp) :
    ReturnsInHanded {} Try.checked os n_pllaw9_SimTells .any ((Rows.OpenSpec.upto Rows.simTellsSpec).pre6 enc Try.prog Try.f3 Rows.simTellsUptoRow.domain false) (((Rows.OpenSpec.upto Rows.simTellsSpec).at F).post enc Try.prog Try.f3 false true false false) := by
  refine returnsInHanded_of_cond (C := Try.checked) (s := Rows.OpenSpec.upto Rows.simTellsSpec) (k := Rows.uptoSmall) rfl own started (by kernel_rfl) Try.func3
    (OpenSpec.witness (enc := enc) (C := Try.checked) (s := Rows.OpenSpec.upto Rows.simTellsSpec) (k := Rows.uptoSmall) rfl false ⟨#[], #[.agg #[.int .i64 0, .int .i64 0, .int .i64 0, .int .i64 0, .int .i64 0, .int .i64 0, .int .i64 0, .int .i64 0, .int .i64 0, .int .i64 0, .int .i64 0, .int .i64 0, .int .i64 0, .int .i64 0, .int .i64 0, .int .i64 0, .bool false, .int .i64 0, .int .i64 0, .int .i64 0, .slice none 0 0, .slice none 0 0, .slice none 0 0, .int .i64 0], .int .i64 0], []⟩ 8 (by kernel_rfl) (by kernel_rfl) (by kernel_rfl)
      (x := ([.agg [.agg [.lit (.int .i64 0), .lit (.int .i64 0), .lit (.int .i64 0), .lit (.int .i64 0), .lit (.int .i64 0), .lit (.int .i64 0), .lit (.int .i64 0), .lit (.int .i64 0), .lit (.int .i64 0), .lit (.int .i64 0), .lit (.int .i64 0), .lit (.int .i64 0), .lit (.int .i64 0), .lit (.int .i64 0), .lit (.int .i64 0), .lit (.int .i64 0)], .lit (.bool false), .lit (.int .i64 0), .lit (.int .i64 0), .agg [.lit (.int .i64 0), .nil, .nil], .nil, .lit (.int .i64 0)], .lit (.int .i64 0)], [], [])) (by kernel_rfl) rfl (by kernel_rfl)) ?_
  intro W base args ds gs before hval hW _ hk _
  refine simTells_contract hval hW hk (fun h hl => ?_) fun h => simTells_def h
  exact simTells_fits h hl
theorem simTells_holds : Rows.SimTellsUptoSaid :=
  OpenClaim.holds_of_cond n_pllaw9_SimTells Try.f3 rfl rfl rfl rfl rfl rfl rfl ⟨rfl, rfl, rfl, rfl, rfl⟩ rfl rfl rfl rfl rfl (by kernel_rfl) Try.func3 (by kernel_rfl)
    (of_decide_eq_true (by kernel_rfl)) (by unfold Func.isWrapper; first | (rw [if_pos (by decide +kernel)]; kernel_rfl) | (rw [if_neg (by decide +kernel)]; exact ⟨rfl, rfl⟩))
    (fun os started H enc _ F => simTells_lifted os started H enc F)
end Go.Proofs.Ytdapgcdenpgnaaa
