/-
  The statement: whatever is handed in, of bounded bulk, the law answers true and leaves it as it was.
-/
import Derived.Test.YtcijlaniohfapaaSt2
/-
  The statements about instructions: whatever is handed in, of bounded bulk, the law answers true.
-/
namespace Go.Proofs.Ytcijlaniohfapaa
open Go Go.Plat
set_option linter.unusedVariables false
set_option linter.unusedSimpArgs false
set_option maxRecDepth 100000
set_option maxHeartbeats 2000000
attribute [local irreducible] bitI BytesS NormL Arith QuoS RemS ShlS ShrS BitS CatS SplitS SideS IdxS CallS LoopEnd EndS ModeS DrawS AWP Meets
attribute [local irreducible] irows infoR rowsB allB decR wrongI encV decI signedI findI lowI highI
open Go.ChangeShapes Go.WideShapes Go.ChangeAt Go.RowKit

abbrev i64Sh : Sh := .int .i64
abbrev bytesSh : Sh := .sl 1 (.int .u8)
def insSh : Sh := .fld i64Sh (.fld i64Sh (.fld i64Sh (.fld i64Sh .fin)))
theorem fit_ins {H : Type} {d : DataW H} (h : fit insSh (.inl d)) : ∃ i : Ins, rd insSh d = insD i := by
  obtain ⟨p0, r0, rfl, h0, k0⟩ := fit_fld h
  obtain ⟨p1, r1, rfl, h1, k1⟩ := fit_more k0
  obtain ⟨p2, r2, rfl, h2, k2⟩ := fit_more k1
  obtain ⟨p3, r3, rfl, h3, k3⟩ := fit_more k2
  obtain rfl := fit_fin k3
  obtain ⟨n0, e0, _⟩ := fit_i64 h0
  obtain ⟨n1, e1, _⟩ := fit_i64 h1
  obtain ⟨n2, e2, _⟩ := fit_i64 h2
  obtain ⟨n3, e3, _⟩ := fit_i64 h3
  refine ⟨⟨n0, n1, n2, n3⟩, ?_⟩
  unfold insSh
  rw [rd_fld]
  simp only [rdF_cons, rdF_nil]
  rw [cl_one e0 rfl (by simp), cl_one e1 rfl (by simp), cl_one e2 rfl (by simp), cl_one e3 rfl (by simp)]
  rfl

abbrev isaTurns_spec : Plat.Spec := SpecP (fun _ : Ins × Int => True) (fun (i, w) => [insD i, .int .i64 w]) fun _ => .bool true
theorem isaTurns_def {H : Type} {ds : List (DataW H)} (h : fitAll [insSh, i64Sh] ds) : Rows.isaTurnsSpec.fn H (ds ++ []) = { results := [.lit (.bool true)], args := ds } := by
  obtain ⟨d1, d2, rfl, _⟩ := fitAll2 h
  rfl
theorem isaTurns_fits {H : Type} {ds : List (DataW H)} (h : fitAll [insSh, i64Sh] ds) (hl : Rows.uptoBulkAll ds ≤ 1048576) : isaTurns_spec (rdAll [insSh, i64Sh] ds) [] (.bool true) [] := by
  obtain ⟨d1, d2, rfl, h1, h2⟩ := fitAll2 h
  obtain ⟨i, e1⟩ := fit_ins h1
  obtain ⟨w, e2, _⟩ := fit_i64 h2
  refine ⟨(i, w), trivial, ?_, rfl, rfl, rfl⟩
  show LeL (rdAll [insSh, i64Sh] [d1, d2]) _
  simp only [rdAll, e1, e2]
  exact LeL.refl _
theorem isaTurns_params : chkAll Try.prog [insSh, i64Sh] Try.f4.params.toList = true := by kernel_rfl
theorem isaTurns_contract {H : Type} {enc : TypeId × Value → H} {W : World} {base : Nat} {args : Array Value} {ds gs : List (DataW H)} {before : List MemPlace}
    (hval : ∀ (j : Nat) t v, Try.f4.params[j]? = some t → args[j]? = some v → Value.okWide Try.prog W .any base t v)
    (hW : DataW.Whole enc Try.prog Try.f4.params.toList Rows.isaTurnsSpec.vars false W args.toList ds gs before) (hk : Rows.uptoSmall H (ds ++ gs) = true)
    (hsp : fitAll [insSh, i64Sh] ds → Rows.uptoBulkAll ds ≤ 1048576 → isaTurns_spec (rdAll [insSh, i64Sh] ds) [] (.bool true) []) (hdef : fitAll [insSh, i64Sh] ds → Rows.isaTurnsSpec.fn H (ds ++ []) = { results := [.lit (.bool true)], args := ds }) :
    Calls Try.prog n_pllaw1_IsaTurns args W fun e W' => ∃ v, e = .returned v ∧ Rows.isaTurnsSpec.post enc Try.prog Try.f4 false true false false W args v W' := by
  have hgs : gs = [] := by obtain ⟨p, q, _, hV, _⟩ := hW; cases gs with | nil => rfl | cons g gs => exact hV.elim
  subst hgs
  exact law_contract (s := Rows.isaTurnsSpec) (tb := 4) isaTurns_params rfl (by kernel_rfl) (by kernel_rfl) hdef (fun j t v h1 h2 => ⟨_, _, hval j t v h1 h2⟩) hW iturns_meets
    fun h => hsp h (by have := bound hk; rwa [List.append_nil] at this)
theorem isaTurns_lifted (os : Os) (started : os.Started) (H : Type) (enc : TypeId × Value → H) (F : Stop.Interp) :
    ReturnsInHanded {} Try.checked os n_pllaw1_IsaTurns .any ((Rows.OpenSpec.upto Rows.isaTurnsSpec).pre6 enc Try.prog Try.f4 Rows.isaTurnsUptoRow.domain false) (((Rows.OpenSpec.upto Rows.isaTurnsSpec).at F).post enc Try.prog Try.f4 false true false false) := by
  refine returnsInHanded_of_cond (C := Try.checked) (s := Rows.OpenSpec.upto Rows.isaTurnsSpec) (k := Rows.uptoSmall) rfl own started (by kernel_rfl) Try.func4
    (OpenSpec.witness (enc := enc) (C := Try.checked) (s := Rows.OpenSpec.upto Rows.isaTurnsSpec) (k := Rows.uptoSmall) rfl false ⟨#[], #[.agg #[.int .i64 0, .int .i64 0, .int .i64 0, .int .i64 0], .int .i64 0], []⟩ 8 (by kernel_rfl) (by kernel_rfl) (by kernel_rfl)
      (x := ([.agg [.lit (.int .i64 0), .lit (.int .i64 0), .lit (.int .i64 0), .lit (.int .i64 0)], .lit (.int .i64 0)], [], [])) (by kernel_rfl) rfl (by kernel_rfl)) ?_
  intro W base args ds gs before hval hW _ hk _
  refine isaTurns_contract hval hW hk (fun h hl => ?_) fun h => isaTurns_def h
  exact isaTurns_fits h hl
theorem isaTurns_holds : Rows.IsaTurnsUptoSaid :=
  OpenClaim.holds_of_cond n_pllaw1_IsaTurns Try.f4 rfl rfl rfl rfl rfl rfl rfl ⟨rfl, rfl, rfl, rfl, rfl⟩ rfl rfl rfl rfl rfl (by kernel_rfl) Try.func4 (by kernel_rfl)
    (of_decide_eq_true (by kernel_rfl)) (by unfold Func.isWrapper; first | (rw [if_pos (by decide +kernel)]; kernel_rfl) | (rw [if_neg (by decide +kernel)]; exact ⟨rfl, rfl⟩))
    (fun os started H enc _ F => isaTurns_lifted os started H enc F)

abbrev isaBytes_spec : Plat.Spec := SpecP (fun ((b, at_, size, n, other) : List UInt8 × Int × Int × Int × Int) => b.length ≤ 1000000000 ∧ (-9223372036854775808 ≤ at_ ∧ at_ ≤ 9223372036854775807) ∧ (-9223372036854775808 ≤ other ∧ other ≤ 9223372036854775807))
    (fun (b, at_, size, n, other) => [bytesD b, .int .i64 at_, .int .i64 size, .int .i64 n, .int .i64 other]) fun _ => .bool true
theorem isaBytes_open {H : Type} {ds : List (DataW H)} (h : fitAll [bytesSh, i64Sh, i64Sh, i64Sh, i64Sh] ds) : ∃ d1 d2 d3 d4 d5, ds = [d1, d2, d3, d4, d5] ∧ fit bytesSh (.inl d1) ∧ fit i64Sh (.inl d2) ∧ fit i64Sh (.inl d3) ∧ fit i64Sh (.inl d4) ∧ fit i64Sh (.inl d5) := by
  obtain ⟨d1, r, rfl, h1, h⟩ := fitAll_cons h
  obtain ⟨d2, r, rfl, h2, h⟩ := fitAll_cons h
  obtain ⟨d3, d4, d5, rfl, h3, h4, h5⟩ := fitAll3 h
  exact ⟨d1, d2, d3, d4, d5, rfl, h1, h2, h3, h4, h5⟩
theorem isaBytes_def {H : Type} {ds : List (DataW H)} (h : fitAll [bytesSh, i64Sh, i64Sh, i64Sh, i64Sh] ds) : Rows.isaBytesSpec.fn H (ds ++ []) = { results := [.lit (.bool true)], args := ds } := by
  obtain ⟨d1, d2, d3, d4, d5, rfl, _⟩ := isaBytes_open h
  rfl
theorem isaBytes_fits {H : Type} {ds : List (DataW H)} (h : fitAll [bytesSh, i64Sh, i64Sh, i64Sh, i64Sh] ds) (hl : Rows.uptoBulkAll ds ≤ 1048576) : isaBytes_spec (rdAll [bytesSh, i64Sh, i64Sh, i64Sh, i64Sh] ds) [] (.bool true) [] := by
  obtain ⟨d1, d2, d3, d4, d5, rfl, h1, h2, h3, h4, h5⟩ := isaBytes_open h
  obtain ⟨b, e1, hb⟩ := fit_bytes h1
  obtain ⟨a, e2, ha⟩ := fit_i64 h2
  obtain ⟨s, e3, _⟩ := fit_i64 h3
  obtain ⟨n, e4, _⟩ := fit_i64 h4
  obtain ⟨o, e5, ho⟩ := fit_i64 h5
  have := elems_le d1
  simp only [Rows.uptoBulkAll] at hl
  refine ⟨(b, a, s, n, o), ⟨?_, ha, ho⟩, ?_, rfl, rfl, rfl⟩
  · show b.length ≤ 1000000000
    omega
  · show LeL (rdAll [bytesSh, i64Sh, i64Sh, i64Sh, i64Sh] [d1, d2, d3, d4, d5]) _
    simp only [rdAll, e1, e2, e3, e4, e5]
    exact LeL.refl _
theorem isaBytes_params : chkAll Try.prog [bytesSh, i64Sh, i64Sh, i64Sh, i64Sh] Try.f5.params.toList = true := by kernel_rfl
theorem isaBytes_contract {H : Type} {enc : TypeId × Value → H} {W : World} {base : Nat} {args : Array Value} {ds gs : List (DataW H)} {before : List MemPlace}
    (hval : ∀ (j : Nat) t v, Try.f5.params[j]? = some t → args[j]? = some v → Value.okWide Try.prog W .any base t v)
    (hW : DataW.Whole enc Try.prog Try.f5.params.toList Rows.isaBytesSpec.vars false W args.toList ds gs before) (hk : Rows.uptoSmall H (ds ++ gs) = true)
    (hsp : fitAll [bytesSh, i64Sh, i64Sh, i64Sh, i64Sh] ds → Rows.uptoBulkAll ds ≤ 1048576 → isaBytes_spec (rdAll [bytesSh, i64Sh, i64Sh, i64Sh, i64Sh] ds) [] (.bool true) []) (hdef : fitAll [bytesSh, i64Sh, i64Sh, i64Sh, i64Sh] ds → Rows.isaBytesSpec.fn H (ds ++ []) = { results := [.lit (.bool true)], args := ds }) :
    Calls Try.prog n_pllaw1_IsaBytes args W fun e W' => ∃ v, e = .returned v ∧ Rows.isaBytesSpec.post enc Try.prog Try.f5 false true false false W args v W' := by
  have hgs : gs = [] := by obtain ⟨p, q, _, hV, _⟩ := hW; cases gs with | nil => rfl | cons g gs => exact hV.elim
  subst hgs
  exact law_contract (s := Rows.isaBytesSpec) (tb := 4) isaBytes_params rfl (by kernel_rfl) (by kernel_rfl) hdef (fun j t v h1 h2 => ⟨_, _, hval j t v h1 h2⟩) hW ibytes_meets
    fun h => hsp h (by have := bound hk; rwa [List.append_nil] at this)
theorem isaBytes_lifted (os : Os) (started : os.Started) (H : Type) (enc : TypeId × Value → H) (F : Stop.Interp) :
    ReturnsInHanded {} Try.checked os n_pllaw1_IsaBytes .any ((Rows.OpenSpec.upto Rows.isaBytesSpec).pre6 enc Try.prog Try.f5 Rows.isaBytesUptoRow.domain false) (((Rows.OpenSpec.upto Rows.isaBytesSpec).at F).post enc Try.prog Try.f5 false true false false) := by
  refine returnsInHanded_of_cond (C := Try.checked) (s := Rows.OpenSpec.upto Rows.isaBytesSpec) (k := Rows.uptoSmall) rfl own started (by kernel_rfl) Try.func5
    (OpenSpec.witness (enc := enc) (C := Try.checked) (s := Rows.OpenSpec.upto Rows.isaBytesSpec) (k := Rows.uptoSmall) rfl false ⟨#[], #[.slice none 0 0, .int .i64 0, .int .i64 0, .int .i64 0, .int .i64 0], []⟩ 8 (by kernel_rfl) (by kernel_rfl) (by kernel_rfl)
      (x := ([.nil, .lit (.int .i64 0), .lit (.int .i64 0), .lit (.int .i64 0), .lit (.int .i64 0)], [], [])) (by kernel_rfl) rfl (by kernel_rfl)) ?_
  intro W base args ds gs before hval hW _ hk _
  refine isaBytes_contract hval hW hk (fun h hl => ?_) fun h => isaBytes_def h
  exact isaBytes_fits h hl
theorem isaBytes_holds : Rows.IsaBytesUptoSaid :=
  OpenClaim.holds_of_cond n_pllaw1_IsaBytes Try.f5 rfl rfl rfl rfl rfl rfl rfl ⟨rfl, rfl, rfl, rfl, rfl⟩ rfl rfl rfl rfl rfl (by kernel_rfl) Try.func5 (by kernel_rfl)
    (of_decide_eq_true (by kernel_rfl)) (by unfold Func.isWrapper; first | (rw [if_pos (by decide +kernel)]; kernel_rfl) | (rw [if_neg (by decide +kernel)]; exact ⟨rfl, rfl⟩))
    (fun os started H enc _ F => isaBytes_lifted os started H enc F)
end Go.Proofs.Ytcijlaniohfapaa
