/-
  The statement: whatever is handed in, of bounded bulk, the law answers true and leaves it as it was.
-/
import Derived.Test.YtmeigmpjpkinoaaSt2
import Derived.Test.YtmeigmpjpkinoaaSt3
/-
  The statement that tells of objects: whatever object and bytes, of bounded bulk, the law answers true.
-/
namespace Go.Proofs.Ytmeigmpjpkinoaa
open Go Go.Plat
set_option linter.unusedVariables false
set_option linter.unusedSimpArgs false
set_option maxRecDepth 100000
set_option maxHeartbeats 2000000
attribute [local irreducible] NilS LookS NormM bitI BytesS NormL Arith QuoS RemS ShlS ShrS BitS CatS SplitS SideS IdxS CallS LoopEnd EndS ModeS DrawS AWP Meets
open Go.ChangeShapes Go.WideShapes Go.ChangeAt Go.RowKit

abbrev objTells_spec : Plat.Spec := SpecP (fun ((o, b) : OObj × List UInt8) => InO o ∧ b.length ≤ 1048576) (fun (o, b) => [objD o, bytesD b]) fun _ => .bool true
theorem objTells_def {H : Type} {ds : List (DataW H)} (h : fitAll [objSh, bytesSh] ds) : Rows.objTellsSpec.fn H (ds ++ []) = { results := [.lit (.bool true)], args := ds } := by
  obtain ⟨d1, d2, rfl, _⟩ := fitAll2 h
  rfl
theorem objTells_fits {H : Type} {ds : List (DataW H)} (h : fitAll [objSh, bytesSh] ds) (hl : Rows.uptoBulkAll ds ≤ 1048576) : objTells_spec (rdAll [objSh, bytesSh] ds) [] (.bool true) [] := by
  obtain ⟨d1, d2, rfl, h1, h2⟩ := fitAll2 h
  simp only [Rows.uptoBulkAll] at hl
  obtain ⟨o, e1, ho⟩ := fit_obj h1 (by omega)
  obtain ⟨b, e2, hb⟩ := fit_bytes h2
  have := elems_le d2
  refine ⟨(o, b), ⟨ho, ?_⟩, ?_, rfl, rfl, rfl⟩
  · show b.length ≤ 1048576
    omega
  · show LeL (rdAll [objSh, bytesSh] [d1, d2]) _
    simp only [rdAll, e1, e2]
    exact LeL.refl _
theorem objTells_params : chkAll Try.prog [objSh, bytesSh] Try.f4.params.toList = true := by kernel_rfl
theorem objTells_contract {H : Type} {enc : TypeId × Value → H} {W : World} {base : Nat} {args : Array Value} {ds gs : List (DataW H)} {before : List MemPlace}
    (hval : ∀ (j : Nat) t v, Try.f4.params[j]? = some t → args[j]? = some v → Value.okWide Try.prog W .any base t v)
    (hW : DataW.Whole enc Try.prog Try.f4.params.toList Rows.objTellsSpec.vars false W args.toList ds gs before) (hk : Rows.uptoSmall H (ds ++ gs) = true)
    (hsp : fitAll [objSh, bytesSh] ds → Rows.uptoBulkAll ds ≤ 1048576 → objTells_spec (rdAll [objSh, bytesSh] ds) [] (.bool true) []) (hdef : fitAll [objSh, bytesSh] ds → Rows.objTellsSpec.fn H (ds ++ []) = { results := [.lit (.bool true)], args := ds }) :
    Calls Try.prog n_pllaw6_ObjTells args W fun e W' => ∃ v, e = .returned v ∧ Rows.objTellsSpec.post enc Try.prog Try.f4 false true false false W args v W' := by
  have hgs : gs = [] := by obtain ⟨p, q, _, hV, _⟩ := hW; cases gs with | nil => rfl | cons g gs => exact hV.elim
  subst hgs
  exact law_contract (s := Rows.objTellsSpec) (tb := 4) objTells_params rfl (by kernel_rfl) (by kernel_rfl) hdef (fun j t v h1 h2 => ⟨_, _, hval j t v h1 h2⟩) hW otells_meets
    fun h => hsp h (by have := bound hk; rwa [List.append_nil] at this)
theorem objTells_lifted (os : Os) (started : os.Started) (H : Type) (enc : TypeId × Value → H) (F : Stop.Interp) :
    ReturnsInHanded {} Try.checked os n_pllaw6_ObjTells .any ((Rows.OpenSpec.upto Rows.objTellsSpec).pre6 enc Try.prog Try.f4 Rows.objTellsUptoRow.domain false) (((Rows.OpenSpec.upto Rows.objTellsSpec).at F).post enc Try.prog Try.f4 false true false false) := by
  refine returnsInHanded_of_cond (C := Try.checked) (s := Rows.OpenSpec.upto Rows.objTellsSpec) (k := Rows.uptoSmall) rfl own started (by kernel_rfl) Try.func4
    (OpenSpec.witness (enc := enc) (C := Try.checked) (s := Rows.OpenSpec.upto Rows.objTellsSpec) (k := Rows.uptoSmall) rfl false ⟨#[], #[.agg #[.slice none 0 0, .slice none 0 0, .slice none 0 0], .slice none 0 0], []⟩ 8 (by kernel_rfl) (by kernel_rfl) (by kernel_rfl)
      (x := ([.agg [.nil, .nil, .nil], .nil], [], [])) (by kernel_rfl) rfl (by kernel_rfl)) ?_
  intro W base args ds gs before hval hW _ hk _
  refine objTells_contract hval hW hk (fun h hl => ?_) fun h => objTells_def h
  exact objTells_fits h hl
theorem objTells_holds : Rows.ObjTellsUptoSaid :=
  OpenClaim.holds_of_cond n_pllaw6_ObjTells Try.f4 rfl rfl rfl rfl rfl rfl rfl ⟨rfl, rfl, rfl, rfl, rfl⟩ rfl rfl rfl rfl rfl (by kernel_rfl) Try.func4 (by kernel_rfl)
    (of_decide_eq_true (by kernel_rfl)) (by unfold Func.isWrapper; first | (rw [if_pos (by decide +kernel)]; kernel_rfl) | (rw [if_neg (by decide +kernel)]; exact ⟨rfl, rfl⟩))
    (fun os started H enc _ F => objTells_lifted os started H enc F)
end Go.Proofs.Ytmeigmpjpkinoaa
