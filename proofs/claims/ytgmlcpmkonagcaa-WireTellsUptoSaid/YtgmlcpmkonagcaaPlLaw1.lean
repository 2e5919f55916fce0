/-
  WireTells' statement: whatever message and bytes, of bounded bulk, the law answers true.
-/
import Derived.Test.YtgmlcpmkonagcaaPlWire10
import Derived.Test.YtgmlcpmkonagcaaPlUpto
namespace Go.Proofs.Ytgmlcpmkonagcaa
open Go Go.Plat
set_option linter.unusedVariables false
set_option linter.unusedSimpArgs false
set_option maxRecDepth 100000
set_option maxHeartbeats 2000000
attribute [local irreducible] BytesS NormL Arith QuoS RemS ShlS ShrS BitS CatS SplitS SideS IdxS CallS LoopEnd EndS ModeS DrawS AWP Meets
open Go.ChangeShapes Go.WideShapes Go.ChangeAt Go.RowKit

abbrev i64Sh : Sh := .int .i64
abbrev bytesSh : Sh := .sl 1 (.int .u8)
def faultSh : Sh := .fld i64Sh (.fld i64Sh .fin)
def msgSh : Sh := .fld i64Sh (.fld i64Sh (.fld i64Sh (.fld i64Sh (.fld faultSh (.fld bytesSh .fin)))))

theorem fit_msg {H : Type} {d : DataW H} (h : fit msgSh (.inl d)) : ∃ m : Msg, rd msgSh d = msgD m ∧ m.data.length ≤ Rows.uptoBulk d := by
  obtain ⟨p0, r0, rfl, h0, k0⟩ := fit_fld h
  obtain ⟨p1, r1, rfl, h1, k1⟩ := fit_more k0
  obtain ⟨p2, r2, rfl, h2, k2⟩ := fit_more k1
  obtain ⟨p3, r3, rfl, h3, k3⟩ := fit_more k2
  obtain ⟨p4, r4, rfl, h4, k4⟩ := fit_more k3
  obtain ⟨p6, r6, rfl, h6, k6⟩ := fit_more k4
  obtain rfl := fit_fin k6
  obtain ⟨n0, e0, _⟩ := fit_i64 h0
  obtain ⟨n1, e1, _⟩ := fit_i64 h1
  obtain ⟨n2, e2, _⟩ := fit_i64 h2
  obtain ⟨n3, e3, _⟩ := fit_i64 h3
  obtain ⟨q4, s4, rfl, h4', l4⟩ := fit_fld h4
  obtain ⟨p5, s5, rfl, h5, l5⟩ := fit_more l4
  obtain rfl := fit_fin l5
  obtain ⟨n4, e4, _⟩ := fit_i64 h4'
  obtain ⟨n5, e5, _⟩ := fit_i64 h5
  obtain ⟨b, e6, hb⟩ := fit_bytes h6
  refine ⟨⟨n0, n1, n2, n3, n4, n5, b⟩, ?_, ?_⟩
  · unfold msgSh
    rw [rd_fld]
    simp only [rdF_cons, rdF_nil, cl_fld, faultSh]
    rw [cl_one e0 rfl (by simp), cl_one e1 rfl (by simp), cl_one e2 rfl (by simp), cl_one e3 rfl (by simp), cl_one e4 rfl (by simp), cl_one e5 rfl (by simp), cl_one e6 rfl (by simp [bytesD])]
    rfl
  · have := elems_le p6
    simp only [Rows.uptoBulk, Rows.uptoBulkAll]
    simp only [hb]
    omega

theorem params_tells : chkAll Try.prog [msgSh, bytesSh] Try.f3.params.toList = true := by kernel_rfl

theorem tells_lifted (os : Os) (started : os.Started) (H : Type) (enc : TypeId × Value → H) (F : Stop.Interp) :
    ReturnsInHanded {} Try.checked os n_pllaw10_WireTells .any ((Rows.OpenSpec.upto Rows.wireTellsSpec).pre6 enc Try.prog Try.f3 Rows.wireTellsUptoRow.domain false) (((Rows.OpenSpec.upto Rows.wireTellsSpec).at F).post enc Try.prog Try.f3 false true false false) := by
  refine returnsInHanded_of_cond (C := Try.checked) (s := Rows.OpenSpec.upto Rows.wireTellsSpec) (k := Rows.uptoSmall) rfl own started (by kernel_rfl) Try.func3
    (OpenSpec.witness (enc := enc) (C := Try.checked) (s := Rows.OpenSpec.upto Rows.wireTellsSpec) (k := Rows.uptoSmall) rfl false
      ⟨#[], #[.agg #[.int .i64 0, .int .i64 0, .int .i64 0, .int .i64 0, .int .i64 0, .int .i64 0, .slice none 0 0], .slice none 0 0], []⟩ 8 (by kernel_rfl) (by kernel_rfl) (by kernel_rfl)
      (x := ([.agg [.lit (.int .i64 0), .lit (.int .i64 0), .lit (.int .i64 0), .lit (.int .i64 0), .agg [.lit (.int .i64 0), .lit (.int .i64 0)], .nil], .nil], [], [])) (by kernel_rfl) rfl (by kernel_rfl)) ?_
  intro W base args ds gs before hval hW _ hk _
  have hgs : gs = [] := by obtain ⟨p, q, _, hV, _⟩ := hW; cases gs with | nil => rfl | cons g gs => exact hV.elim
  subst hgs
  refine law_contract (s := Rows.wireTellsSpec) (spec := _) (tb := 4) params_tells rfl (by kernel_rfl) (by kernel_rfl) ?_ (fun j t v h1 h2 => ⟨_, _, hval j t v h1 h2⟩) hW tells_meets ?_
  · intro h
    obtain ⟨d1, d2, rfl, _⟩ := fitAll2 h
    rfl
  · intro h
    obtain ⟨d1, d2, rfl, h1, h2⟩ := fitAll2 h
    obtain ⟨m, e1, _⟩ := fit_msg h1
    obtain ⟨b, e2, hb⟩ := fit_bytes h2
    have hl := bound hk
    have := elems_le d2
    simp only [List.append_nil, Rows.uptoBulkAll] at hl
    refine ⟨(m, b), ?_, ?_, rfl, rfl, rfl⟩
    · show b.length ≤ 1000000000
      omega
    · show LeL (rdAll [msgSh, bytesSh] [d1, d2]) _
      simp only [rdAll, e1, e2]
      exact LeL.refl _

theorem wireTells_holds : Rows.WireTellsUptoSaid :=
  OpenClaim.holds_of_cond n_pllaw10_WireTells Try.f3 rfl rfl rfl rfl rfl rfl rfl ⟨rfl, rfl, rfl, rfl, rfl⟩ rfl rfl rfl rfl rfl (by kernel_rfl) Try.func3 (by kernel_rfl)
    (of_decide_eq_true (by kernel_rfl)) (by unfold Func.isWrapper; first | (rw [if_pos (by decide +kernel)]; kernel_rfl) | (rw [if_neg (by decide +kernel)]; exact ⟨rfl, rfl⟩))
    (fun os started H enc _ F => tells_lifted os started H enc F)
end Go.Proofs.Ytgmlcpmkonagcaa
