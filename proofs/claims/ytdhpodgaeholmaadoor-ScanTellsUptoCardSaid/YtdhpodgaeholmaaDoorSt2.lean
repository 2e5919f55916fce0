/-
  A part of the proof: what the given program's functions answer, each once; conditions that are enough for it.
-/
import Derived.Test.YtdhpodgaeholmaaDoorSt1
import Derived.Test.YtdhpodgaeholmaaDoorFw4
import Derived.Test.YtdhpodgaeholmaaDoorRows
import Derived.WalkKit
import Derived.ProofKit
import Derived.OpenShut
import Derived.JoinedCond
import Derived.Test.YtdhpodgaeholmaaDoorTie
/-
  The statement that tells of lines: the walk.
-/
namespace Go.Proofs.YtdhpodgaeholmaaDoor
open Go Go.Plat
open Go Go.Plat
set_option linter.unusedVariables false
set_option linter.unusedSimpArgs false
set_option maxRecDepth 100000
set_option maxHeartbeats 2000000
attribute [local irreducible] NilS LookS NormM bitI BytesS NormL Arith QuoS RemS ShlS ShrS BitS CatS SplitS SideS IdxS CallS LoopEnd EndS ModeS DrawS AWP Meets
attribute [local irreducible] letterB digitB kindB okC numR wordC numC blankC lexF lexL spanF digV puR puF numTok signT lexR nameB

theorem lexF_len : ∀ (f : Nat) (l : List UInt8) (out r : List LTok), lexF f l out = some r → r.length ≤ out.length + l.length
  | 0, l, out, r, h => by rw [lexF] at h; cases h; omega
  | f + 1, [], out, r, h => by rw [lexF] at h; cases h; simp
  | f + 1, c :: l, out, r, h => by
    have ih := lexF_len f
    have hd : ∀ n, 1 ≤ n → ((c :: l).drop n).length ≤ l.length := fun n hn => by rw [List.length_drop, List.length_cons]; omega
    rw [lexF] at h
    rw [List.length_cons]
    split at h
    · have := ih _ _ _ h; omega
    split at h
    · rename_i h1
      have := ih _ _ _ h
      have := hd _ (word_first (r := l) h1)
      rw [List.length_append, List.length_cons, List.length_nil] at *
      omega
    split at h
    · rename_i h1
      split at h
      · have := ih _ _ _ h
        have := hd _ (num_first (r := l) h1)
        rw [List.length_append, List.length_cons, List.length_nil] at *
        omega
      · cases h
    split at h
    · cases h; omega
    split at h
    · have := ih _ _ _ h
      rw [List.length_append, List.length_drop, List.length_cons, List.length_nil] at this
      omega
    split at h
    · have := ih _ _ _ h
      rw [List.length_append, List.length_cons, List.length_nil] at this
      omega
    · cases h
theorem lexR_len (s : List UInt8) : (lexR s).1.length ≤ 80 := by
  rw [lexR_eq]
  split
  · simp
  · rename_i h
    unfold lexL lexFin
    cases hl : lexF (s.length + 1) s [] with
    | none => simp
    | some r =>
      have := lexF_len _ _ _ _ hl
      simp at this ⊢
      omega
theorem linesF_ok : ∀ (ps : List (List UInt8)) (k : Int) (out : List LLine), (∀ x ∈ out, x.toks.length ≤ 80) → (linesF ps k out).1.length ≤ out.length + ps.length ∧ ∀ x ∈ (linesF ps k out).1, x.toks.length ≤ 80
  | [], k, out, h => ⟨by rw [linesF]; simp, h⟩
  | p :: r, k, out, h => by
    rw [linesF_cons]
    split
    · exact ⟨by simp, fun x hx => by simp at hx⟩
    split
    · obtain ⟨h1, h2⟩ := linesF_ok r (k + 1) out h
      exact ⟨by rw [List.length_cons]; omega, h2⟩
    · obtain ⟨h1, h2⟩ := linesF_ok r (k + 1) (out ++ [⟨k, (lexR p).1⟩]) fun x hx => by
        rcases List.mem_append.1 hx with hx | hx
        · exact h x hx
        · rw [List.mem_singleton] at hx; rw [hx]; exact lexR_len p
      rw [List.length_append, List.length_cons, List.length_nil] at h1
      exact ⟨by rw [List.length_cons]; omega, h2⟩
theorem linesR_ok (b : List UInt8) : (linesR b).1.length ≤ 1201 ∧ ∀ x ∈ (linesR b).1, x.toks.length ≤ 80 := by
  unfold linesR
  split
  · exact ⟨by simp, fun x hx => by simp at hx⟩
  · obtain ⟨h1, h2⟩ := linesF_ok (splitC 10 b) 1 [] (fun x hx => by simp at hx)
    have h3 := split_len 10 b
    have h4 := List.count_le_length (a := 10) (l := b)
    exact ⟨by simp at h1; omega, h2⟩
attribute [local irreducible] linesR
theorem scan_tells_meets : Meets Tryd.prog n_pllaw2_ScanTells (SpecP (fun ((s, b, t) : List UInt8 × List UInt8 × List LTok) => s.length ≤ 1000000000 ∧ b.length ≤ 1000000000 ∧ I64L t ∧ tsum t ≤ 1000000000)
    (fun (s, b, t) => [.str s, .sl 1 (b.map byteD) none, .sl 3 (t.map ltokD) none]) fun _ => .bool true) := by
  refine meets_f tabOk Tryd.func6 rfl (by decide) ?_
  rintro ⟨s, b, t⟩ ⟨hs, hb, hI, ht⟩
  refine ⟨Nat.le_refl _, by simp [Tryd.f6], fun E hE => ?_⟩
  have hsl := lexR_len s
  obtain ⟨hbl, hbt⟩ := linesR_ok b
  refine vcOk _ ?_
  (all_goals refine qgp ?_ <;> (repeat' first | exact trivial | intro hc | refine And.intro ?_ ?_) <;> refine Lf.mk ?_)
  refine call_p scan_tokens_meets s hs (VS.mk (LeL.of_eq rfl)) ?_
  (all_goals refine qgp ?_ <;> (repeat' first | exact trivial | intro hc | refine And.intro ?_ ?_) <;> refine Lf.mk ?_)
  refine call_p rtokens_meets s hs (VS.mk (LeL.of_eq rfl)) ?_
  generalize lexR s = T at *
  obtain ⟨ts, te⟩ := T
  (all_goals refine qgp ?_ <;> (repeat' first | exact trivial | intro hc | refine And.intro ?_ ?_) <;> refine Lf.mk ?_)
  all_goals first
    | (exfalso; exact hc trivial)
    | skip
  have hsl : ts.length ≤ 80 := hsl
  refine call_p same_tokens_meets (ts, ts) ⟨by show ts.length ≤ _; omega, by show ts.length ≤ _; omega⟩ (VS.mk (LeL.of_eq rfl)) ?_
  dsimp only
  rw [sameT_yes rfl]
  (all_goals refine qgp ?_ <;> (repeat' first | exact trivial | intro hc | refine And.intro ?_ ?_) <;> refine Lf.mk ?_)
  all_goals first
    | (exfalso; exact Bool.noConfusion hc)
    | skip
  refine call_p name_meets s hs (VS.mk (LeL.of_eq rfl)) ?_
  (all_goals refine qgp ?_ <;> (repeat' first | exact trivial | intro hc | refine And.intro ?_ ?_) <;> refine Lf.mk ?_)
  refine call_p rname_meets s hs (VS.mk (LeL.of_eq rfl)) ?_
  generalize nameB s = nb at *
  (all_goals refine qgp ?_ <;> (repeat' first | exact trivial | intro hc | refine And.intro ?_ ?_) <;> refine Lf.mk ?_)
  all_goals first
    | (exfalso; exact hc trivial)
    | skip
  refine call_p scan_print_meets t ⟨hI, ht⟩ (VS.mk (LeL.of_eq rfl)) ?_
  (all_goals refine qgp ?_ <;> (repeat' first | exact trivial | intro hc | refine And.intro ?_ ?_) <;> refine Lf.mk ?_)
  refine call_p ref_print_meets t ⟨hI, ht⟩ (VS.mk (LeL.of_eq rfl)) ?_
  (all_goals refine qgp ?_ <;> (repeat' first | exact trivial | intro hc | refine And.intro ?_ ?_) <;> refine Lf.mk ?_)
  all_goals first
    | (exfalso; exact hc trivial)
    | (exfalso; exact hc rfl)
    | skip
  refine call_p scan_lines_meets b hb (VS.mk (LeL.of_eq rfl)) ?_
  (all_goals refine qgp ?_ <;> (repeat' first | exact trivial | intro hc | refine And.intro ?_ ?_) <;> refine Lf.mk ?_)
  refine call_p ref_lines_meets b hb (VS.mk (LeL.of_eq rfl)) ?_
  generalize linesR b = R at *
  obtain ⟨ls, fe, fa⟩ := R
  have hbl : ls.length ≤ 1201 := hbl
  have hbt : ∀ x ∈ ls, x.toks.length ≤ 80 := hbt
  have hbt2 : ∀ x ∈ ls, x.toks.length ≤ 1000000000 := fun x hx => Nat.le_trans (hbt x hx) (by decide)
  (all_goals refine qgp ?_ <;> (repeat' first | exact trivial | intro hc | refine And.intro ?_ ?_) <;> refine Lf.mk ?_)
  refine eqS_flat [.int .i64, .int .i64] (by kernel_rfl) rfl ?_
  (all_goals refine qgp ?_ <;> (repeat' first | exact trivial | intro hc | refine And.intro ?_ ?_) <;> refine Lf.mk ?_)
  all_goals first
    | (exfalso; exact hc trivial)
    | (exfalso; exact hc rfl)
    | skip
  all_goals first
    | (exfalso; simp at hc; done)
    | skip
  have hL : sameL ls ls = true := sameL_yes rfl
  have hcond : (ls.length ≤ 1000000000 ∧ ls.length ≤ 1000000000) ∧ (∀ x ∈ ls, x.toks.length ≤ 1000000000) ∧ ∀ x ∈ ls, x.toks.length ≤ 1000000000 := ⟨⟨by omega, by omega⟩, hbt2, hbt2⟩
  refine call_p same_lines_meets (ls, ls) hcond (VS.mk (LeL.of_eq rfl)) ?_
  dsimp only
  rw [hL]
  (all_goals refine qgp ?_ <;> (repeat' first | exact trivial | intro hc | refine And.intro ?_ ?_) <;> refine Lf.mk ?_)
  all_goals first
    | (exfalso; exact Bool.noConfusion hc)
    | skip
  refine call_p own_meets ls ⟨by omega, hbt2⟩ (VS.mk (LeL.of_eq rfl)) ?_
  (all_goals refine qgp ?_ <;> (repeat' first | exact trivial | intro hc | refine And.intro ?_ ?_) <;> refine Lf.mk ?_)
  refine call_p same_lines_meets (ls, ls) hcond (VS.mk (LeL.of_eq rfl)) ?_
  dsimp only
  rw [hL]
  (all_goals refine qgp ?_ <;> (repeat' first | exact trivial | intro hc | refine And.intro ?_ ?_) <;> refine Lf.mk ?_)
  all_goals exact end_p (VS.mk (LeD.of_eq rfl))
end Go.Proofs.YtdhpodgaeholmaaDoor

/-
  What the bound on what is handed in gives.
-/
namespace Go.Proofs.YtdhpodgaeholmaaDoor
open Go Go.Plat
set_option linter.unusedVariables false
set_option linter.unusedSimpArgs false
set_option maxRecDepth 100000
set_option maxHeartbeats 2000000
attribute [local irreducible] NilS LookS NormM bitI BytesS NormL Arith QuoS RemS ShlS ShrS BitS CatS SplitS SideS IdxS CallS LoopEnd EndS ModeS DrawS AWP Meets
theorem own : ownKnob Tryd.prog.godebug = none := by kernel_rfl

theorem one_le {H : Type} (d : DataW H) : 1 ≤ Rows.uptoBulk d := by
  cases d with
  | lit l => cases l <;> simp [Rows.uptoBulk]
  | nil => simp [Rows.uptoBulk]
  | ptr d => simp [Rows.uptoBulk]
  | slice el sp => simp [Rows.uptoBulk]
  | agg ps => simp [Rows.uptoBulk]
  | iface t d => simp [Rows.uptoBulk]
  | map es => simp [Rows.uptoBulk]
  | held h => simp [Rows.uptoBulk]
theorem part_le {H : Type} {d : DataW H} {l : List (DataW H)} (h : d ∈ l) : Rows.uptoBulk d ≤ Rows.uptoBulkAll l := by
  induction l with
  | nil => cases h
  | cons x r ih =>
    simp only [Rows.uptoBulkAll]
    cases List.mem_cons.1 h with
    | inl e => subst e; omega
    | inr e => have := ih e; omega
theorem length_le {H : Type} (l : List (DataW H)) : l.length ≤ Rows.uptoBulkAll l := by
  induction l with
  | nil => simp [Rows.uptoBulkAll]
  | cons x r ih => have := one_le x; simp only [Rows.uptoBulkAll, List.length_cons]; omega
theorem elems_all {H : Type} (d : DataW H) : Rows.uptoBulkAll (elems d) ≤ Rows.uptoBulk d := by
  cases d <;> simp only [elems, Rows.uptoBulk, Rows.uptoBulkAll] <;> omega
theorem elems_le {H : Type} (d : DataW H) : (elems d).length ≤ Rows.uptoBulk d := Nat.le_trans (length_le _) (elems_all d)
theorem bound {H : Type} {l : List (DataW H)} (hk : Rows.uptoSmall H l = true) : Rows.uptoBulkAll l ≤ 1048576 := of_decide_eq_true hk
end Go.Proofs.YtdhpodgaeholmaaDoor

/-
  What texts, bytes and tokens read as.
-/
namespace Go.Proofs.YtdhpodgaeholmaaDoor
open Go Go.Plat
set_option linter.unusedVariables false
set_option linter.unusedSimpArgs false
set_option maxRecDepth 100000
set_option maxHeartbeats 2000000
attribute [local irreducible] NilS LookS NormM bitI BytesS NormL Arith QuoS RemS ShlS ShrS BitS CatS SplitS SideS IdxS CallS LoopEnd EndS ModeS DrawS AWP Meets
open Go.ChangeShapes Go.WideShapes Go.ChangeAt Go.RowKit

abbrev si64Sh : Sh := .int .i64
abbrev sbytesSh : Sh := .sl 1 (.int .u8)
def stokSh : Sh := .fld si64Sh (.fld si64Sh (.fld .str .fin))
def TokB (t : LTok) : Prop := -9223372036854775808 ≤ t.n ∧ t.n ≤ 9223372036854775807
theorem fit_ltok {H : Type} {d : DataW H} (h : fit stokSh (.inl d)) : ∃ t : LTok, rd stokSh d = ltokD t ∧ TokB t ∧ 4 + t.text.length ≤ Rows.uptoBulk d := by
  obtain ⟨p0, r0, rfl, h0, k0⟩ := fit_fld h
  obtain ⟨p1, r1, rfl, h1, k1⟩ := fit_more k0
  obtain ⟨p2, r2, rfl, h2, k2⟩ := fit_more k1
  obtain rfl := fit_fin k2
  obtain ⟨n0, e0, _⟩ := fit_i64 h0
  obtain ⟨n1, e1, hn⟩ := fit_i64 h1
  obtain ⟨s, rfl, e2⟩ := fit_str h2
  refine ⟨⟨n0, n1, s⟩, ?_, hn, ?_⟩
  · unfold stokSh
    rw [rd_fld]
    simp only [rdF_cons, rdF_nil]
    rw [cl_one e0 rfl (by simp), cl_one e1 rfl (by simp), cl_one e2 rfl (by simp)]
    rfl
  · have a := one_le p0
    have b := one_le p1
    simp only [Rows.uptoBulk, Rows.uptoBulkAll]
    omega
theorem tsum_le {H : Type} : ∀ {l : List LTok} {ds : List (DataW H)}, l.length = ds.length → (∀ (i : Nat) x t, ds[i]? = some x → l[i]? = some t → TokB t ∧ 4 + t.text.length ≤ Rows.uptoBulk x) → tsum l ≤ 22 * Rows.uptoBulkAll ds ∧ I64L l
  | [], ds, _, _ => ⟨by rw [tsum]; exact Nat.zero_le _, fun t h => by simp at h⟩
  | t :: l, [], h, _ => by cases h
  | t :: l, x :: ds, h, hq => by
    obtain ⟨g, h1⟩ := hq 0 x t rfl rfl
    obtain ⟨h2, h3⟩ := tsum_le (l := l) (ds := ds) (by simpa using h) fun i x t hx ht => hq (i + 1) x t (by simpa using hx) (by simpa using ht)
    refine ⟨by rw [tsum, Rows.uptoBulkAll]; omega, fun u hu => ?_⟩
    rcases List.mem_cons.1 hu with rfl | hu
    · exact g
    · exact h3 u hu
theorem scan_glob {W : World} (h : laidMetH Tryd.prog Rows.scanTellsUptoRow.laid W) : GOk W F0 := by
  rw [MakeChecks.laidMetH_plain _ _ _ (by kernel_rfl)] at h
  obtain ⟨ps, h, _⟩ := h
  obtain ⟨h1, q1, h⟩ := tab_of_vars (k := .u8) (zs := [0, 1, 28, 2, 29, 14, 24, 3, 30, 22, 20, 15, 25, 17, 4, 8, 31, 27, 13, 23, 21, 19, 16, 7, 26, 12, 18, 6, 11, 5, 10, 9]) (g := 8) (t := 205) (e := 5) (n := 32) (by kernel_rfl) (by kernel_rfl) (by kernel_rfl) (by kernel_rfl) (by kernel_rfl) (by kernel_rfl) (by kernel_rfl) h
  obtain ⟨h2, q2, h⟩ := tab_of_vars (k := .u8) (zs := [0, 1, 56, 2, 57, 49, 28, 3, 61, 58, 42, 50, 38, 29, 17, 4, 62, 47, 59, 36, 45, 43, 51, 22, 53, 39, 33, 30, 24, 18, 12, 5, 63, 55, 48, 27, 60, 41, 37, 16, 46, 35, 44, 21, 52, 32, 23, 11, 54, 26, 40, 15, 34, 20, 31, 10, 25, 14, 19, 9, 13, 8, 7, 6]) (g := 9) (t := 206) (e := 5) (n := 64) (by kernel_rfl) (by kernel_rfl) (by kernel_rfl) (by kernel_rfl) (by kernel_rfl) (by kernel_rfl) (by kernel_rfl) h
  obtain ⟨h3, q3, h⟩ := tab_of_vars (k := .u64) (zs := Lib.pow10Tab) (g := 3) (t := 187) (e := 145) (n := 20) (by kernel_rfl) (by kernel_rfl) (by kernel_rfl) (by kernel_rfl) (by kernel_rfl) (by kernel_rfl) (by kernel_rfl) h
  obtain ⟨q4, h⟩ := laid_tail h
  obtain ⟨h5, q5, h⟩ := iface_of_vars (g := 7) (t := 103) (by kernel_rfl) (by kernel_rfl) (by kernel_rfl) rfl h
  obtain ⟨h6, q6, h⟩ := iface_of_vars (g := 6) (t := 103) (by kernel_rfl) (by kernel_rfl) (by kernel_rfl) rfl h
  show GOkL W F0 globs
  unfold globs
  exact gokl_cons (gfact (k := .u64) (by kernel_rfl) h3 (by kernel_rfl)) (gokl_cons h6 (gokl_cons h5 (gokl_cons (gfact (k := .u8) (by kernel_rfl) h1 (by kernel_rfl)) (gokl_cons (gfact (k := .u8) (by kernel_rfl) h2 (by kernel_rfl)) gokl_nil))))
end Go.Proofs.YtdhpodgaeholmaaDoor
