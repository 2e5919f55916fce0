/-
  The statement: whatever is handed in, of bounded bulk, the law answers true and leaves it as it was.
-/
import Derived.Test.YtcijlaniohfapaaSt4
/-
  The statement about all that tells of instructions: whatever is handed in, of bounded bulk, the law answers true.
-/
namespace Go.Proofs.Ytcijlaniohfapaa
open Go Go.Plat
set_option linter.unusedVariables false
set_option linter.unusedSimpArgs false
set_option maxRecDepth 100000
set_option maxHeartbeats 2000000
attribute [local irreducible] LookS NormM bitI BytesS NormL Arith QuoS RemS ShlS ShrS BitS CatS SplitS SideS IdxS CallS LoopEnd EndS ModeS DrawS AWP Meets
attribute [local irreducible] irows infoR rowsB allB decR wrongI encV decI signedI findI lowI highI rrows rinfo rrowsM
open Go.ChangeShapes Go.WideShapes Go.ChangeAt Go.RowKit

abbrev i64Sh : Sh := .int .i64
abbrev bytesSh : Sh := .sl 1 (.int .u8)
def insSh : Sh := .fld i64Sh (.fld i64Sh (.fld i64Sh (.fld i64Sh .fin)))
theorem fit_ins {H : Type} {d : DataW H} (h : fit insSh (.inl d)) : ∃ i : Ins, rd insSh d = insD i := by
  obtain ⟨p0, r0, rfl, h0, k0⟩ := fit_fld h
  obtain ⟨p1, r1, rfl, h1, k1⟩ := fit_more k0
  obtain ⟨p2, r2, rfl, h2, k2⟩ := fit_more k1
  obtain ⟨p3, r3, rfl, h3, k3⟩ := fit_more k2
  obtain rfl := fit_fin k3
  obtain ⟨n0, e0, _⟩ := fit_i64 h0
  obtain ⟨n1, e1, _⟩ := fit_i64 h1
  obtain ⟨n2, e2, _⟩ := fit_i64 h2
  obtain ⟨n3, e3, _⟩ := fit_i64 h3
  refine ⟨⟨n0, n1, n2, n3⟩, ?_⟩
  unfold insSh
  rw [rd_fld]
  simp only [rdF_cons, rdF_nil]
  rw [cl_one e0 rfl (by simp), cl_one e1 rfl (by simp), cl_one e2 rfl (by simp), cl_one e3 rfl (by simp)]
  rfl

abbrev isaTells_spec : Plat.Spec := SpecP (fun ((i, w, name, shape, b, at_, n) : Ins × Int × List UInt8 × Int × List UInt8 × Int × Int) => b.length ≤ 1000000000)
    (fun (i, w, name, shape, b, at_, n) => [insD i, .int .i64 w, .str name, .int .i64 shape, bytesD b, .int .i64 at_, .int .i64 n]) fun _ => .bool true
abbrev tellSh : List Sh := [insSh, i64Sh, .str, i64Sh, bytesSh, i64Sh, i64Sh]
theorem isaTells_open {H : Type} {ds : List (DataW H)} (h : fitAll tellSh ds) : ∃ d1 d2 d3 d4 d5 d6 d7, ds = [d1, d2, d3, d4, d5, d6, d7] ∧ fit insSh (.inl d1) ∧ fit i64Sh (.inl d2) ∧ fit .str (.inl d3) ∧ fit i64Sh (.inl d4) ∧ fit bytesSh (.inl d5) ∧ fit i64Sh (.inl d6) ∧ fit i64Sh (.inl d7) := by
  obtain ⟨d1, r, rfl, h1, h⟩ := fitAll_cons h
  obtain ⟨d2, r, rfl, h2, h⟩ := fitAll_cons h
  obtain ⟨d3, r, rfl, h3, h⟩ := fitAll_cons h
  obtain ⟨d4, r, rfl, h4, h⟩ := fitAll_cons h
  obtain ⟨d5, d6, d7, rfl, h5, h6, h7⟩ := fitAll3 h
  exact ⟨d1, d2, d3, d4, d5, d6, d7, rfl, h1, h2, h3, h4, h5, h6, h7⟩
theorem isaTells_def {H : Type} {ds : List (DataW H)} (h : fitAll tellSh ds) : Rows.isaTellsSpec.fn H (ds ++ []) = { results := [.lit (.bool true)], args := ds } := by
  obtain ⟨d1, d2, d3, d4, d5, d6, d7, rfl, _⟩ := isaTells_open h
  rfl
theorem isaTells_fits {H : Type} {ds : List (DataW H)} (h : fitAll tellSh ds) (hl : Rows.uptoBulkAll ds ≤ 1048576) : isaTells_spec (rdAll tellSh ds) [] (.bool true) [] := by
  obtain ⟨d1, d2, d3, d4, d5, d6, d7, rfl, h1, h2, h3, h4, h5, h6, h7⟩ := isaTells_open h
  obtain ⟨i, e1⟩ := fit_ins h1
  obtain ⟨w, e2, _⟩ := fit_i64 h2
  obtain ⟨s, _, e3⟩ := fit_str h3
  obtain ⟨sh, e4, _⟩ := fit_i64 h4
  obtain ⟨b, e5, hb⟩ := fit_bytes h5
  obtain ⟨a, e6, _⟩ := fit_i64 h6
  obtain ⟨n, e7, _⟩ := fit_i64 h7
  have := elems_le d5
  simp only [Rows.uptoBulkAll] at hl
  refine ⟨(i, w, s, sh, b, a, n), ?_, ?_, rfl, rfl, rfl⟩
  · show b.length ≤ 1000000000
    omega
  · show LeL (rdAll tellSh [d1, d2, d3, d4, d5, d6, d7]) _
    simp only [rdAll, tellSh, e1, e2, e3, e4, e5, e6, e7]
    exact LeL.refl _
theorem isaTells_params : chkAll Try.prog tellSh Try.f3.params.toList = true := by kernel_rfl
theorem isaTells_contract {H : Type} {enc : TypeId × Value → H} {W : World} {base : Nat} {args : Array Value} {ds gs : List (DataW H)} {before : List MemPlace}
    (hval : ∀ (j : Nat) t v, Try.f3.params[j]? = some t → args[j]? = some v → Value.okWide Try.prog W .any base t v)
    (hW : DataW.Whole enc Try.prog Try.f3.params.toList Rows.isaTellsSpec.vars false W args.toList ds gs before) (hk : Rows.uptoSmall H (ds ++ gs) = true)
    (hsp : fitAll tellSh ds → Rows.uptoBulkAll ds ≤ 1048576 → isaTells_spec (rdAll tellSh ds) [] (.bool true) []) (hdef : fitAll tellSh ds → Rows.isaTellsSpec.fn H (ds ++ []) = { results := [.lit (.bool true)], args := ds }) :
    Calls Try.prog n_pllaw1_IsaTells args W fun e W' => ∃ v, e = .returned v ∧ Rows.isaTellsSpec.post enc Try.prog Try.f3 false true false false W args v W' := by
  have hgs : gs = [] := by obtain ⟨p, q, _, hV, _⟩ := hW; cases gs with | nil => rfl | cons g gs => exact hV.elim
  subst hgs
  exact law_contract (s := Rows.isaTellsSpec) (tb := 4) isaTells_params rfl (by kernel_rfl) (by kernel_rfl) hdef (fun j t v h1 h2 => ⟨_, _, hval j t v h1 h2⟩) hW itells_meets
    fun h => hsp h (by have := bound hk; rwa [List.append_nil] at this)
theorem isaTells_lifted (os : Os) (started : os.Started) (H : Type) (enc : TypeId × Value → H) (F : Stop.Interp) :
    ReturnsInHanded {} Try.checked os n_pllaw1_IsaTells .any ((Rows.OpenSpec.upto Rows.isaTellsSpec).pre6 enc Try.prog Try.f3 Rows.isaTellsUptoRow.domain false) (((Rows.OpenSpec.upto Rows.isaTellsSpec).at F).post enc Try.prog Try.f3 false true false false) := by
  refine returnsInHanded_of_cond (C := Try.checked) (s := Rows.OpenSpec.upto Rows.isaTellsSpec) (k := Rows.uptoSmall) rfl own started (by kernel_rfl) Try.func3
    (OpenSpec.witness (enc := enc) (C := Try.checked) (s := Rows.OpenSpec.upto Rows.isaTellsSpec) (k := Rows.uptoSmall) rfl false ⟨#[], #[.agg #[.int .i64 0, .int .i64 0, .int .i64 0, .int .i64 0], .int .i64 0, .string ⟨#[]⟩, .int .i64 0, .slice none 0 0, .int .i64 0, .int .i64 0], []⟩ 8 (by kernel_rfl) (by kernel_rfl) (by kernel_rfl)
      (x := ([.agg [.lit (.int .i64 0), .lit (.int .i64 0), .lit (.int .i64 0), .lit (.int .i64 0)], .lit (.int .i64 0), .lit (.string []), .lit (.int .i64 0), .nil, .lit (.int .i64 0), .lit (.int .i64 0)], [], [])) (by kernel_rfl) rfl (by kernel_rfl)) ?_
  intro W base args ds gs before hval hW _ hk _
  refine isaTells_contract hval hW hk (fun h hl => ?_) fun h => isaTells_def h
  exact isaTells_fits h hl
theorem isaTells_holds : Rows.IsaTellsUptoSaid :=
  OpenClaim.holds_of_cond n_pllaw1_IsaTells Try.f3 rfl rfl rfl rfl rfl rfl rfl ⟨rfl, rfl, rfl, rfl, rfl⟩ rfl rfl rfl rfl rfl (by kernel_rfl) Try.func3 (by kernel_rfl)
    (of_decide_eq_true (by kernel_rfl)) (by unfold Func.isWrapper; first | (rw [if_pos (by decide +kernel)]; kernel_rfl) | (rw [if_neg (by decide +kernel)]; exact ⟨rfl, rfl⟩))
    (fun os started H enc _ F => isaTells_lifted os started H enc F)
end Go.Proofs.Ytcijlaniohfapaa
