/-
  The statement: whatever is handed in, of bounded bulk, the law answers true and leaves it as it was.
-/
import Derived.Test.YtmeigmpjpkinoaaSt2
import Derived.Test.YtmeigmpjpkinoaaSt3
/-
  The statement that tells of links: whatever objects and base, of bounded bulk, the law answers true.
-/
namespace Go.Proofs.Ytmeigmpjpkinoaa
open Go Go.Plat
set_option linter.unusedVariables false
set_option linter.unusedSimpArgs false
set_option maxRecDepth 100000
set_option maxHeartbeats 2000000
attribute [local irreducible] NilS LookS NormM bitI BytesS NormL Arith QuoS RemS ShlS ShrS BitS CatS SplitS SideS IdxS CallS LoopEnd EndS ModeS DrawS AWP Meets
open Go.ChangeShapes Go.WideShapes Go.ChangeAt Go.RowKit

abbrev linkTells_spec : Plat.Spec := SpecP (fun ((l, base) : List OObj × Int) => InL l base ∧ ∀ o ∈ l, o.code.length ≤ 1048576) (fun (l, base) => [.sl 3 (l.map objD) none, .int .i64 base]) fun _ => .bool true
theorem linkTells_def {H : Type} {ds : List (DataW H)} (h : fitAll [objsSh, i64Sh] ds) : Rows.linkTellsSpec.fn H (ds ++ []) = { results := [.lit (.bool true)], args := ds } := by
  obtain ⟨d1, d2, rfl, _⟩ := fitAll2 h
  rfl
theorem linkTells_fits {H : Type} {ds : List (DataW H)} (h : fitAll [objsSh, i64Sh] ds) (hl : Rows.uptoBulkAll ds ≤ 1048576) : linkTells_spec (rdAll [objsSh, i64Sh] ds) [] (.bool true) [] := by
  obtain ⟨d1, d2, rfl, h1, h2⟩ := fitAll2 h
  simp only [Rows.uptoBulkAll] at hl
  obtain ⟨l, e1, hll, ho⟩ := fit_objs h1 (by omega)
  obtain ⟨n, e2, hn0, hn1⟩ := fit_i64 h2
  refine ⟨(l, n), ⟨⟨hn0, hn1, hll, fun o hm r hr => ?_, fun o hm s hs => ?_⟩, fun o hm => (ho o hm).code⟩, ?_, rfl, rfl, rfl⟩
  · have := (ho o hm).rel r hr
    exact ⟨this.1, this.2.1, by omega⟩
  · have := (ho o hm).sym s hs
    omega
  · show LeL (rdAll [objsSh, i64Sh] [d1, d2]) _
    simp only [rdAll, e1, e2]
    exact LeL.refl _
theorem linkTells_params : chkAll Try.prog [objsSh, i64Sh] Try.f3.params.toList = true := by kernel_rfl
theorem linkTells_contract {H : Type} {enc : TypeId × Value → H} {W : World} {base : Nat} {args : Array Value} {ds gs : List (DataW H)} {before : List MemPlace}
    (hval : ∀ (j : Nat) t v, Try.f3.params[j]? = some t → args[j]? = some v → Value.okWide Try.prog W .any base t v)
    (hW : DataW.Whole enc Try.prog Try.f3.params.toList Rows.linkTellsSpec.vars false W args.toList ds gs before) (hk : Rows.uptoSmall H (ds ++ gs) = true)
    (hsp : fitAll [objsSh, i64Sh] ds → Rows.uptoBulkAll ds ≤ 1048576 → linkTells_spec (rdAll [objsSh, i64Sh] ds) [] (.bool true) []) (hdef : fitAll [objsSh, i64Sh] ds → Rows.linkTellsSpec.fn H (ds ++ []) = { results := [.lit (.bool true)], args := ds }) :
    Calls Try.prog n_pllaw7_LinkTells args W fun e W' => ∃ v, e = .returned v ∧ Rows.linkTellsSpec.post enc Try.prog Try.f3 false true false false W args v W' := by
  have hgs : gs = [] := by obtain ⟨p, q, _, hV, _⟩ := hW; cases gs with | nil => rfl | cons g gs => exact hV.elim
  subst hgs
  exact law_contract (s := Rows.linkTellsSpec) (tb := 4) linkTells_params rfl (by kernel_rfl) (by kernel_rfl) hdef (fun j t v h1 h2 => ⟨_, _, hval j t v h1 h2⟩) hW ltells_meets
    fun h => hsp h (by have := bound hk; rwa [List.append_nil] at this)
theorem linkTells_lifted (os : Os) (started : os.Started) (H : Type) (enc : TypeId × Value → H) (F : Stop.Interp) :
    ReturnsInHanded {} Try.checked os n_pllaw7_LinkTells .any ((Rows.OpenSpec.upto Rows.linkTellsSpec).pre6 enc Try.prog Try.f3 Rows.linkTellsUptoRow.domain false) (((Rows.OpenSpec.upto Rows.linkTellsSpec).at F).post enc Try.prog Try.f3 false true false false) := by
  refine returnsInHanded_of_cond (C := Try.checked) (s := Rows.OpenSpec.upto Rows.linkTellsSpec) (k := Rows.uptoSmall) rfl own started (by kernel_rfl) Try.func3
    (OpenSpec.witness (enc := enc) (C := Try.checked) (s := Rows.OpenSpec.upto Rows.linkTellsSpec) (k := Rows.uptoSmall) rfl false ⟨#[], #[.slice none 0 0, .int .i64 0], []⟩ 8 (by kernel_rfl) (by kernel_rfl) (by kernel_rfl)
      (x := ([.nil, .lit (.int .i64 0)], [], [])) (by kernel_rfl) rfl (by kernel_rfl)) ?_
  intro W base args ds gs before hval hW _ hk _
  refine linkTells_contract hval hW hk (fun h hl => ?_) fun h => linkTells_def h
  exact linkTells_fits h hl
theorem linkTells_holds : Rows.LinkTellsUptoSaid :=
  OpenClaim.holds_of_cond n_pllaw7_LinkTells Try.f3 rfl rfl rfl rfl rfl rfl rfl ⟨rfl, rfl, rfl, rfl, rfl⟩ rfl rfl rfl rfl rfl (by kernel_rfl) Try.func3 (by kernel_rfl)
    (of_decide_eq_true (by kernel_rfl)) (by unfold Func.isWrapper; first | (rw [if_pos (by decide +kernel)]; kernel_rfl) | (rw [if_neg (by decide +kernel)]; exact ⟨rfl, rfl⟩))
    (fun os started H enc _ F => linkTells_lifted os started H enc F)
end Go.Proofs.Ytmeigmpjpkinoaa
