/-
  A part of the proof: what the given program's functions answer, each once; conditions that are enough for it.
-/
import Derived.Test.YtdhpodgaeholmaaDoorSt1
import Derived.Test.YtdhpodgaeholmaaDoorFw4
import Derived.Test.YtdhpodgaeholmaaDoorRows
import Derived.WalkKit
import Derived.ProofKit
import Derived.OpenShut
import Derived.JoinedCond
import Derived.Test.YtdhpodgaeholmaaDoorTie
/-
  The statement that tells of lines: the walk.
-/
namespace Go.Proofs.YtdhpodgaeholmaaDoor
open Go Go.Plat
open Go Go.Plat
set_option linter.unusedVariables false
set_option linter.unusedSimpArgs false
set_option maxRecDepth 100000
set_option maxHeartbeats 2000000
attribute [local irreducible] NilS LookS NormM bitI BytesS NormL Arith QuoS RemS ShlS ShrS BitS CatS SplitS SideS IdxS CallS LoopEnd EndS ModeS DrawS AWP Meets
attribute [local irreducible] letterB digitB kindB okC numR wordC numC blankC lexF lexL spanF digV puR puF numTok signT lexR nameB

theorem lexF_len : ∀ (f : Nat) (l : List UInt8) (out r : List LTok), lexF f l out = some r → r.length ≤ out.length + l.length
  | 0, l, out, r, h => by rw [lexF] at h; cases h; omega
  | f + 1, [], out, r, h => by rw [lexF] at h; cases h; simp
  | f + 1, c :: l, out, r, h => by
    have ih := lexF_len f
    have hd : ∀ n, 1 ≤ n → ((c :: l).drop n).length ≤ l.length := fun n hn => by rw [List.length_drop, List.length_cons]; omega
    rw [lexF] at h
    rw [List.length_cons]
    split at h
    · have := ih _ _ _ h; omega
    split at h
    · rename_i h1
      have := ih _ _ _ h
      have := hd _ (word_first (r := l) h1)
      rw [List.length_append, List.length_cons, List.length_nil] at *
      omega
    split at h
    · rename_i h1
      split at h
      · have := ih _ _ _ h
        have := hd _ (num_first (r := l) h1)
        rw [List.length_append, List.length_cons, List.length_nil] at *
        omega
      · cases h
    split at h
    · cases h; omega
    split at h
    · have := ih _ _ _ h
      rw [List.length_append, List.length_drop, List.length_cons, List.length_nil] at this
      omega
    split at h
    · have := ih _ _ _ h
      rw [List.length_append, List.length_cons, List.length_nil] at this
      omega
    · cases h
theorem lexR_len (s : List UInt8) : (lexR s).1.length ≤ 80 := by
  rw [lexR_eq]
  split
  · simp
  · rename_i h
    unfold lexL lexFin
    cases hl : lexF (s.length + 1) s [] with
    | none => simp
    | some r =>
      have := lexF_len _ _ _ _ hl
      simp at this ⊢
      omega
theorem linesF_ok : ∀ (ps : List (List UInt8)) (k : Int) (out : List LLine), (∀ x ∈ out, x.toks.length ≤ 80) → (linesF ps k out).1.length ≤ out.length + ps.length ∧ ∀ x ∈ (linesF ps k out).1, x.toks.length ≤ 80
  | [], k, out, h => ⟨by rw [linesF]; simp, h⟩
  | p :: r, k, out, h => by
    rw [linesF_cons]
    split
    · exact ⟨by simp, fun x hx => by simp at hx⟩
    split
    · obtain ⟨h1, h2⟩ := linesF_ok r (k + 1) out h
      exact ⟨by rw [List.length_cons]; omega, h2⟩
    · obtain ⟨h1, h2⟩ := linesF_ok r (k + 1) (out ++ [⟨k, (lexR p).1⟩]) fun x hx => by
        rcases List.mem_append.1 hx with hx | hx
        · exact h x hx
        · rw [List.mem_singleton] at hx; rw [hx]; exact lexR_len p
      rw [List.length_append, List.length_cons, List.length_nil] at h1
      exact ⟨by rw [List.length_cons]; omega, h2⟩
theorem linesR_ok (b : List UInt8) : (linesR b).1.length ≤ 1201 ∧ ∀ x ∈ (linesR b).1, x.toks.length ≤ 80 := by
  unfold linesR
  split
  · exact ⟨by simp, fun x hx => by simp at hx⟩
  · obtain ⟨h1, h2⟩ := linesF_ok (splitC 10 b) 1 [] (fun x hx => by simp at hx)
    have h3 := split_len 10 b
    have h4 := List.count_le_length (a := 10) (l := b)
    exact ⟨by simp at h1; omega, h2⟩
attribute [local irreducible] linesR
theorem scan_tells_meets : Meets Tryd.prog n_pllaw2_ScanTells (SpecP (fun ((s, b, t) : List UInt8 × List UInt8 × List LTok) => s.length ≤ 1000000000 ∧ b.length ≤ 1000000000 ∧ I64L t ∧ tsum t ≤ 1000000000)
    (fun (s, b, t) => [.str s, .sl 1 (b.map byteD) none, .sl 3 (t.map ltokD) none]) fun _ => .bool true) := by
  refine meets_f tabOk Tryd.func6 rfl (by decide) ?_
  rintro ⟨s, b, t⟩ ⟨hs, hb, hI, ht⟩
  refine ⟨Nat.le_refl _, by simp [Tryd.f6], fun E hE => ?_⟩
  have hsl := lexR_len s
  obtain ⟨hbl, hbt⟩ := linesR_ok b
  refine vcOk _ ?_
  (all_goals refine qgp ?_ <;> (repeat' first | exact trivial | intro hc | refine And.intro ?_ ?_) <;> refine Lf.mk ?_)
  refine call_p scan_tokens_meets s hs (VS.mk (LeL.of_eq rfl)) ?_
  (all_goals refine qgp ?_ <;> (repeat' first | exact trivial | intro hc | refine And.intro ?_ ?_) <;> refine Lf.mk ?_)
  refine call_p rtokens_meets s hs (VS.mk (LeL.of_eq rfl)) ?_
  generalize lexR s = T at *
  obtain ⟨ts, te⟩ := T
  (all_goals refine qgp ?_ <;> (repeat' first | exact trivial | intro hc | refine And.intro ?_ ?_) <;> refine Lf.mk ?_)
  all_goals first
    | (exfalso; exact hc trivial)
    | skip
  have hsl : ts.length ≤ 80 := hsl
  refine call_p same_tokens_meets (ts, ts) ⟨by show ts.length ≤ _; omega, by show ts.length ≤ _; omega⟩ (VS.mk (LeL.of_eq rfl)) ?_
  dsimp only
  rw [sameT_yes rfl]
  (all_goals refine qgp ?_ <;> (repeat' first | exact trivial | intro hc | refine And.intro ?_ ?_) <;> refine Lf.mk ?_)
  all_goals first
    | (exfalso; exact Bool.noConfusion hc)
    | skip
  refine call_p name_meets s hs (VS.mk (LeL.of_eq rfl)) ?_
  (all_goals refine qgp ?_ <;> (repeat' first | exact trivial | intro hc | refine And.intro ?_ ?_) <;> refine Lf.mk ?_)
  refine call_p rname_meets s hs (VS.mk (LeL.of_eq rfl)) ?_
  generalize nameB s = nb at *
  (all_goals refine qgp ?_ <;> (repeat' first | exact trivial | intro hc | refine And.intro ?_ ?_) <;> refine Lf.mk ?_)
  all_goals first
    | (exfalso; exact hc trivial)
    | skip
  refine call_p scan_print_meets t ⟨hI, ht⟩ (VS.mk (LeL.of_eq rfl)) ?_
  (all_goals refine qgp ?_ <;> (repeat' first | exact trivial | intro hc | refine And.intro ?_ ?_) <;> refine Lf.mk ?_)
  refine call_p ref_print_meets t ⟨hI, ht⟩ (VS.mk (LeL.of_eq rfl)) ?_
  (all_goals refine qgp ?_ <;> (repeat' first | exact trivial | intro hc | refine And.intro ?_ ?_) <;> refine Lf.mk ?_)
  all_goals first
    | (exfalso; exact hc trivial)
    | (exfalso; exact hc rfl)
    | skip
  refine call_p scan_lines_meets b hb (VS.mk (LeL.of_eq rfl)) ?_
  (all_goals refine qgp ?_ <;> (repeat' first | exact trivial | intro hc | refine And.intro ?_ ?_) <;> refine Lf.mk ?_)
  refine call_p ref_lines_meets b hb (VS.mk (LeL.of_eq rfl)) ?_
  generalize linesR b = R at *
  obtain ⟨ls, fe, fa⟩ := R
  have hbl : ls.length ≤ 1201 := hbl
  have hbt : ∀ x ∈ ls, x.toks.length ≤ 80 := hbt
  have hbt2 : ∀ x ∈ ls, x.toks.length ≤ 1000000000 := fun x hx => Nat.le_trans (hbt x hx) (by decide)
  (all_goals refine qgp ?_ <;> (repeat' first | exact trivial | intro hc | refine And.intro ?_ ?_) <;> refine Lf.mk ?_)
  refine eqS_flat [.int .i64, .int .i64] (by kernel_rfl) rfl ?_
  (all_goals refine qgp ?_ <;> (repeat' first | exact trivial | intro hc | refine And.intro ?_ ?_) <;> refine Lf.mk ?_)
  all_goals first
    | (exfalso; exact hc trivial)
    | (exfalso; exact hc rfl)
    | skip
  all_goals first
    | (exfalso; simp at hc; done)
    | skip
  have hL : sameL ls ls = true := sameL_yes rfl
  have hcond : (ls.length ≤ 1000000000 ∧ ls.length ≤ 1000000000) ∧ (∀ x ∈ ls, x.toks.length ≤ 1000000000) ∧ ∀ x ∈ ls, x.toks.length ≤ 1000000000 := ⟨⟨by omega, by omega⟩, hbt2, hbt2⟩
  refine call_p same_lines_meets (ls, ls) hcond (VS.mk (LeL.of_eq rfl)) ?_
  dsimp only
  rw [hL]
  (all_goals refine qgp ?_ <;> (repeat' first | exact trivial | intro hc | refine And.intro ?_ ?_) <;> refine Lf.mk ?_)
  all_goals first
    | (exfalso; exact Bool.noConfusion hc)
    | skip
  refine call_p own_meets ls ⟨by omega, hbt2⟩ (VS.mk (LeL.of_eq rfl)) ?_
  (all_goals refine qgp ?_ <;> (repeat' first | exact trivial | intro hc | refine And.intro ?_ ?_) <;> refine Lf.mk ?_)
  refine call_p same_lines_meets (ls, ls) hcond (VS.mk (LeL.of_eq rfl)) ?_
  dsimp only
  rw [hL]
  (all_goals refine qgp ?_ <;> (repeat' first | exact trivial | intro hc | refine And.intro ?_ ?_) <;> refine Lf.mk ?_)
  all_goals exact end_p (VS.mk (LeD.of_eq rfl))
end Go.Proofs.YtdhpodgaeholmaaDoor

/-
  What the bound on what is handed in gives.
-/
namespace Go.Proofs.YtdhpodgaeholmaaDoor
open Go Go.Plat
set_option linter.unusedVariables false
set_option linter.unusedSimpArgs false
set_option maxRecDepth 100000
set_option maxHeartbeats 2000000
attribute [local irreducible] NilS LookS NormM bitI BytesS NormL Arith QuoS RemS ShlS ShrS BitS CatS SplitS SideS IdxS CallS LoopEnd EndS ModeS DrawS AWP Meets
theorem own : ownKnob Tryd.prog.godebug = none := by kernel_rfl

theorem one_le {H : Type} (d : DataW H) : 1 ≤ Rows.uptoBulk d := by
  cases d with
  | lit l => cases l <;> simp [Rows.uptoBulk]
  | nil => simp [Rows.uptoBulk]
  | ptr d => simp [Rows.uptoBulk]
  | slice el sp => simp [Rows.uptoBulk]
  | agg ps => simp [Rows.uptoBulk]
  | iface t d => simp [Rows.uptoBulk]
  | map es => simp [Rows.uptoBulk]
  | held h => simp [Rows.uptoBulk]
theorem part_le {H : Type} {d : DataW H} {l : List (DataW H)} (h : d ∈ l) : Rows.uptoBulk d ≤ Rows.uptoBulkAll l := by
  induction l with
  | nil => cases h
  | cons x r ih =>
    simp only [Rows.uptoBulkAll]
    cases List.mem_cons.1 h with
    | inl e => subst e; omega
    | inr e => have := ih e; omega
theorem length_le {H : Type} (l : List (DataW H)) : l.length ≤ Rows.uptoBulkAll l := by
  induction l with
  | nil => simp [Rows.uptoBulkAll]
  | cons x r ih => have := one_le x; simp only [Rows.uptoBulkAll, List.length_cons]; omega
theorem elems_all {H : Type} (d : DataW H) : Rows.uptoBulkAll (elems d) ≤ Rows.uptoBulk d := by
  cases d <;> simp only [elems, Rows.uptoBulk, Rows.uptoBulkAll] <;> omega
theorem elems_le {H : Type} (d : DataW H) : (elems d).length ≤ Rows.uptoBulk d := Nat.le_trans (length_le _) (elems_all d)
theorem bound {H : Type} {l : List (DataW H)} (hk : Rows.uptoSmall H l = true) : Rows.uptoBulkAll l ≤ 1048576 := of_decide_eq_true hk
end Go.Proofs.YtdhpodgaeholmaaDoor

/-
  What texts, bytes and tokens read as.
-/
namespace Go.Proofs.YtdhpodgaeholmaaDoor
open Go Go.Plat
set_option linter.unusedVariables false
set_option linter.unusedSimpArgs false
set_option maxRecDepth 100000
set_option maxHeartbeats 2000000
attribute [local irreducible] NilS LookS NormM bitI BytesS NormL Arith QuoS RemS ShlS ShrS BitS CatS SplitS SideS IdxS CallS LoopEnd EndS ModeS DrawS AWP Meets
open Go.ChangeShapes Go.WideShapes Go.ChangeAt Go.RowKit

abbrev si64Sh : Sh := .int .i64
abbrev sbytesSh : Sh := .sl 1 (.int .u8)
def stokSh : Sh := .fld si64Sh (.fld si64Sh (.fld .str .fin))
def TokB (t : LTok) : Prop := -9223372036854775808 ≤ t.n ∧ t.n ≤ 9223372036854775807
theorem fit_ltok {H : Type} {d : DataW H} (h : fit stokSh (.inl d)) : ∃ t : LTok, rd stokSh d = ltokD t ∧ TokB t ∧ 4 + t.text.length ≤ Rows.uptoBulk d := by
  obtain ⟨p0, r0, rfl, h0, k0⟩ := fit_fld h
  obtain ⟨p1, r1, rfl, h1, k1⟩ := fit_more k0
  obtain ⟨p2, r2, rfl, h2, k2⟩ := fit_more k1
  obtain rfl := fit_fin k2
  obtain ⟨n0, e0, _⟩ := fit_i64 h0
  obtain ⟨n1, e1, hn⟩ := fit_i64 h1
  obtain ⟨s, rfl, e2⟩ := fit_str h2
  refine ⟨⟨n0, n1, s⟩, ?_, hn, ?_⟩
  · unfold stokSh
    rw [rd_fld]
    simp only [rdF_cons, rdF_nil]
    rw [cl_one e0 rfl (by simp), cl_one e1 rfl (by simp), cl_one e2 rfl (by simp)]
    rfl
  · have a := one_le p0
    have b := one_le p1
    simp only [Rows.uptoBulk, Rows.uptoBulkAll]
    omega
theorem tsum_le {H : Type} : ∀ {l : List LTok} {ds : List (DataW H)}, l.length = ds.length → (∀ (i : Nat) x t, ds[i]? = some x → l[i]? = some t → TokB t ∧ 4 + t.text.length ≤ Rows.uptoBulk x) → tsum l ≤ 22 * Rows.uptoBulkAll ds ∧ I64L l
  | [], ds, _, _ => ⟨by rw [tsum]; exact Nat.zero_le _, fun t h => by simp at h⟩
  | t :: l, [], h, _ => by cases h
  | t :: l, x :: ds, h, hq => by
    obtain ⟨g, h1⟩ := hq 0 x t rfl rfl
    obtain ⟨h2, h3⟩ := tsum_le (l := l) (ds := ds) (by simpa using h) fun i x t hx ht => hq (i + 1) x t (by simpa using hx) (by simpa using ht)
    refine ⟨by rw [tsum, Rows.uptoBulkAll]; omega, fun u hu => ?_⟩
    rcases List.mem_cons.1 hu with rfl | hu
    · exact g
    · exact h3 u hu
theorem scan_glob {W : World} (h : laidMetH Tryd.prog Rows.scanTellsUptoRow.laid W) : GOk W F0 := by
  rw [MakeChecks.laidMetH_plain _ _ _ (by kernel_rfl)] at h
  obtain ⟨ps, h, _⟩ := h
  obtain ⟨h1, q1, h⟩ := tab_of_vars (k := .u8) (zs := [0, 1, 28, 2, 29, 14, 24, 3, 30, 22, 20, 15, 25, 17, 4, 8, 31, 27, 13, 23, 21, 19, 16, 7, 26, 12, 18, 6, 11, 5, 10, 9]) (g := 8) (t := 205) (e := 5) (n := 32) (by kernel_rfl) (by kernel_rfl) (by kernel_rfl) (by kernel_rfl) (by kernel_rfl) (by kernel_rfl) (by kernel_rfl) h
  obtain ⟨h2, q2, h⟩ := tab_of_vars (k := .u8) (zs := [0, 1, 56, 2, 57, 49, 28, 3, 61, 58, 42, 50, 38, 29, 17, 4, 62, 47, 59, 36, 45, 43, 51, 22, 53, 39, 33, 30, 24, 18, 12, 5, 63, 55, 48, 27, 60, 41, 37, 16, 46, 35, 44, 21, 52, 32, 23, 11, 54, 26, 40, 15, 34, 20, 31, 10, 25, 14, 19, 9, 13, 8, 7, 6]) (g := 9) (t := 206) (e := 5) (n := 64) (by kernel_rfl) (by kernel_rfl) (by kernel_rfl) (by kernel_rfl) (by kernel_rfl) (by kernel_rfl) (by kernel_rfl) h
  obtain ⟨h3, q3, h⟩ := tab_of_vars (k := .u64) (zs := Lib.pow10Tab) (g := 3) (t := 187) (e := 145) (n := 20) (by kernel_rfl) (by kernel_rfl) (by kernel_rfl) (by kernel_rfl) (by kernel_rfl) (by kernel_rfl) (by kernel_rfl) h
  obtain ⟨q4, h⟩ := laid_tail h
  obtain ⟨h5, q5, h⟩ := iface_of_vars (g := 7) (t := 103) (by kernel_rfl) (by kernel_rfl) (by kernel_rfl) rfl h
  obtain ⟨h6, q6, h⟩ := iface_of_vars (g := 6) (t := 103) (by kernel_rfl) (by kernel_rfl) (by kernel_rfl) rfl h
  show GOkL W F0 globs
  unfold globs
  exact gokl_cons (gfact (k := .u64) (by kernel_rfl) h3 (by kernel_rfl)) (gokl_cons h6 (gokl_cons h5 (gokl_cons (gfact (k := .u8) (by kernel_rfl) h1 (by kernel_rfl)) (gokl_cons (gfact (k := .u8) (by kernel_rfl) h2 (by kernel_rfl)) gokl_nil))))
end Go.Proofs.YtdhpodgaeholmaaDoor

/-
  What is made of a line is well made; written, it is the same.
-/
namespace Go.Proofs.YtdhpodgaeholmaaDoor
open Go Go.Plat
open Go Go.Plat
set_option linter.unusedVariables false
set_option linter.unusedSimpArgs false
set_option maxRecDepth 100000
set_option maxHeartbeats 2000000
attribute [local irreducible] NilS LookS NormM bitI BytesS NormL Arith QuoS RemS ShlS ShrS BitS CatS SplitS SideS IdxS CallS LoopEnd EndS ModeS DrawS AWP Meets
attribute [local irreducible] letterB digitB okC numR wordC numC blankC lexF lexL spanF digV puR puF numTok signT lexR nameB

inductive TokW : LTok → Prop
  | word {c : UInt8} {s : List UInt8} (h0 : kindB c = 97) (h : ∀ x ∈ c :: s, wordC x = true) : TokW ⟨1, 0, c :: s⟩
  | num {n : Nat} (h : n < 4294967296) : TokW ⟨2, (n : Int), []⟩
  | shift {c : UInt8} (h : c = 60 ∨ c = 62) : TokW ⟨3, 0, [c, c]⟩
  | sign {c : UInt8} (h0 : kindB c = 0) (h1 : c ≠ 59) (h : signsB.contains c = true) : TokW ⟨3, 0, [c]⟩
theorem kind_cases (c : UInt8) : kindB c = 97 ∨ kindB c = 48 ∨ kindB c = 32 ∨ kindB c = 0 := by
  unfold kindB
  repeat' split
  all_goals simp
attribute [local irreducible] kindB
theorem span_mem {p : UInt8 → Bool} : ∀ (l : List UInt8) (x : UInt8), x ∈ l.take (spanF p l) → p x = true
  | [], x, h => by simp at h
  | c :: r, x, h => by
    rw [spanF] at h
    by_cases hp : p c = true
    · rw [if_pos hp, List.take_succ_cons] at h
      rcases List.mem_cons.1 h with rfl | h
      · exact hp
      · exact span_mem r x h
    · rw [if_neg hp, List.take_zero] at h
      simp at h
theorem numR_range {w : List UInt8} (h : (numR w).2 = true) : ∃ n : Nat, (numR w).1 = n ∧ n < 4294967296 := by
  obtain ⟨h1, h2⟩ := numR_pu w
  by_cases hx : 2 < w.length ∧ w.take 2 = [48, 120]
  · rcases h1 hx with ⟨_, e, g1, g2, _⟩ | ⟨_, e⟩
    · exact ⟨(puR 16 (w.drop 2)).1.toNat, by rw [e]; dsimp only; omega, by omega⟩
    · rw [e] at h; cases h
  · rcases h2 hx with ⟨_, e, g1, g2, _⟩ | ⟨_, e⟩
    · exact ⟨(puR 10 w).1.toNat, by rw [e]; dsimp only; omega, by omega⟩
    · rw [e] at h; cases h
theorem lexF_ok (N : Nat) : ∀ (f : Nat) (l : List UInt8) (out r : List LTok), l.length ≤ N → (∀ t ∈ out, TokW t ∧ t.text.length ≤ N) → lexF f l out = some r → ∀ t ∈ r, TokW t ∧ t.text.length ≤ N
  | 0, l, out, r, hN, ho, h => by rw [lexF] at h; cases h; exact ho
  | f + 1, [], out, r, hN, ho, h => by rw [lexF] at h; cases h; exact ho
  | f + 1, c :: l, out, r, hN, ho, h => by
    have ih := lexF_ok N f
    have hl : l.length + 1 ≤ N := by simpa using hN
    have snoc : ∀ u, TokW u → u.text.length ≤ N → ∀ t ∈ out ++ [u], TokW t ∧ t.text.length ≤ N := fun u h1 h2 t ht => by
      rcases List.mem_append.1 ht with ht | ht
      · exact ho t ht
      · rw [List.mem_singleton] at ht; rw [ht]; exact ⟨h1, h2⟩
    have hd : ∀ n, ((c :: l).drop n).length ≤ N := fun n => by rw [List.length_drop]; simp; omega
    have hk : ∀ n, ((c :: l).take n).length ≤ N := fun n => by rw [List.length_take]; simp; omega
    rw [lexF] at h
    split at h
    · exact ih _ _ _ (by omega) ho h
    rename_i n32
    split at h
    · rename_i h1
      have hf := word_first (r := l) h1
      have hm := span_mem (p := wordC) (c :: l)
      have hk2 := hk (spanF wordC (c :: l))
      obtain ⟨k, hk3⟩ : ∃ k, spanF wordC (c :: l) = k + 1 := ⟨spanF wordC (c :: l) - 1, by omega⟩
      rw [hk3] at h hm hk2
      refine ih _ _ _ (hd _) (snoc _ ?_ hk2) h
      exact .word h1 hm
    rename_i n97
    split at h
    · split at h
      · rename_i h1 h2
        obtain ⟨n, e, hn⟩ := numR_range h2
        refine ih _ _ _ (hd _) (snoc _ ?_ (Nat.zero_le _)) h
        rw [e]
        exact .num hn
      · cases h
    rename_i n48
    split at h
    · cases h; exact ho
    rename_i n59
    split at h
    · rename_i h1
      have hk2 := hk 2
      refine ih _ _ _ (by rw [List.length_drop]; omega) (snoc _ ?_ hk2) h
      rcases h1 with h1 | h1
      · rw [h1]; exact .shift (.inl rfl)
      · rw [h1]; exact .shift (.inr rfl)
    split at h
    · rename_i h1
      refine ih _ _ _ (by omega) (snoc _ ?_ (by simp; omega)) h
      refine .sign ?_ n59 h1
      rcases kind_cases c with e | e | e | e
      · exact absurd e n97
      · exact absurd e n48
      · exact absurd e n32
      · exact e
    · cases h
theorem lexR_ok (s : List UInt8) : ∀ t ∈ (lexR s).1, TokW t ∧ t.text.length ≤ 80 := by
  rw [lexR_eq]
  split
  · intro t h; simp at h
  · rename_i h
    unfold lexL lexFin
    cases hl : lexF (s.length + 1) s [] with
    | none => intro t h; simp at h
    | some r => exact lexF_ok 80 _ _ _ _ (by omega) (fun t ht => by simp at ht) hl
theorem lexR_bad {s : List UInt8} (h : (lexR s).2 ≠ 0) : (lexR s).1 = [] := by
  rw [lexR_eq] at h ⊢
  split
  · rfl
  · rename_i h1
    rw [if_neg h1] at h
    unfold lexFin at h ⊢
    cases hl : lexL s [] with
    | none => rfl
    | some r => rw [hl] at h; exact absurd rfl h
theorem lex_tok {t : LTok} (h : TokW t) {rest : List UInt8} (hr : Stop rest) (out : List LTok) : lexL (textT t ++ rest) out = lexL rest (out ++ [t]) := by
  unfold textT
  cases h with
  | word h0 h => exact lex_word h0 h hr out
  | @num n h =>
    show lexL (Lib.itoa (n : Int) ++ rest) out = _
    unfold Lib.itoa
    rw [if_neg (by omega), Int.toNat_natCast, lex_dec h hr]
  | @shift c h => exact lex_shift h rest out
  | @sign c h0 h1 h =>
    refine lex_sign1 h0 h1 ?_ ?_ h rest out
    · rintro rfl; exact absurd h (by decide)
    · rintro rfl; exact absurd h (by decide)
theorem tail_stop (r : List (List UInt8)) : Stop (Lib.joinTail [32] r) := by
  unfold Lib.joinTail
  cases r with
  | nil => exact trivial
  | cons a r => exact rfl
theorem lex_tail : ∀ (l : List LTok), (∀ t ∈ l, TokW t) → ∀ out, lexL (Lib.joinTail [32] (l.map textT)) out = some (out ++ l)
  | [], h, out => by
    show lexL [] out = _
    rw [lexL_nil, List.append_nil]
  | t :: l, h, out => by
    have e : Lib.joinTail [32] ((t :: l).map textT) = 32 :: (textT t ++ Lib.joinTail [32] (l.map textT)) := rfl
    rw [e, lex_blank, lex_tok (h t List.mem_cons_self) (tail_stop _), lex_tail l (fun u hu => h u (List.mem_cons_of_mem _ hu)), List.append_assoc]
    rfl
theorem lex_line {l : List LTok} (h : ∀ t ∈ l, TokW t) : lexL (printT l) [] = some l := by
  cases l with
  | nil => exact lexL_nil []
  | cons t l =>
    unfold printT
    rw [List.map_cons, Lib.join_cons, lex_tok (h t List.mem_cons_self) (tail_stop _), lex_tail l (fun u hu => h u (List.mem_cons_of_mem _ hu))]
    rfl
theorem lexR_print {l : List LTok} (h : ∀ t ∈ l, TokW t) : lexR (printT l) = if 80 < (printT l).length then ([], 4) else (l, 0) := by
  rw [lexR_eq, lex_line h]
  rfl
theorem tokw_i64 {l : List LTok} (h : ∀ t ∈ l, TokW t ∧ t.text.length ≤ 80) : I64L l ∧ tsum l ≤ 102 * l.length := by
  constructor
  · intro t ht
    obtain ⟨h1, _⟩ := h t ht
    cases h1 with
    | num h => dsimp only; omega
    | word _ _ => exact ⟨show (-9223372036854775808 : Int) ≤ 0 by decide, show (0 : Int) ≤ 9223372036854775807 by decide⟩
    | shift _ => exact ⟨show (-9223372036854775808 : Int) ≤ 0 by decide, show (0 : Int) ≤ 9223372036854775807 by decide⟩
    | sign _ _ _ => exact ⟨show (-9223372036854775808 : Int) ≤ 0 by decide, show (0 : Int) ≤ 9223372036854775807 by decide⟩
  · induction l with
    | nil => exact Nat.le_refl _
    | cons a l ih =>
      have h1 := ih fun t ht => h t (List.mem_cons_of_mem _ ht)
      have h2 := (h a List.mem_cons_self).2
      rw [tsum, List.length_cons]; omega
end Go.Proofs.YtdhpodgaeholmaaDoor

/-
  What is asked first of lines; written, and read again: the walk.
-/
namespace Go.Proofs.YtdhpodgaeholmaaDoor
open Go Go.Plat
open Go Go.Plat
set_option linter.unusedVariables false
set_option linter.unusedSimpArgs false
set_option maxRecDepth 100000
set_option maxHeartbeats 2000000
attribute [local irreducible] NilS LookS NormM bitI BytesS NormL Arith QuoS RemS ShlS ShrS BitS CatS SplitS SideS IdxS CallS LoopEnd EndS ModeS DrawS AWP Meets

def sRow : List UInt8 := [97, 58, 32, 97, 100, 100, 32, 35, 48, 120, 49, 48, 44, 114, 49, 32, 59, 32, 120]
def tRow : List LTok := [⟨1, 0, [97]⟩, ⟨3, 0, [58]⟩, ⟨1, 0, [97, 100, 100]⟩, ⟨3, 0, [35]⟩, ⟨2, 16, []⟩, ⟨3, 0, [44]⟩, ⟨1, 0, [114, 49]⟩]
def bRow : List UInt8 := [110, 111, 112, 10, 10, 114, 116, 115]
def lRow : List LLine := [⟨1, [⟨1, 0, [110, 111, 112]⟩]⟩, ⟨3, [⟨1, 0, [114, 116, 115]⟩]⟩]
theorem live_toks : lexR sRow = (tRow, 0) := by kernel_rfl
theorem live_lines : linesR bRow = (lRow, 0, 0) := by kernel_rfl
theorem live_name : nameB [97, 98, 95, 49] = true := by kernel_rfl
theorem live_none : nameB [46, 120] = false := by kernel_rfl
theorem live_print : printT [⟨1, 0, [97]⟩, ⟨3, 0, [58]⟩] = [97, 32, 58] := by kernel_rfl
attribute [local irreducible] letterB digitB okC numR wordC numC blankC lexF lexL spanF digV puR puF numTok signT lexR nameB linesR printT
theorem live_meets : Meets Tryd.prog n_pllaw2_alive (SpecP (fun _ : Unit => True) (fun _ => []) fun _ => .bool true) := by
  refine meets_f tabOk Tryd.func33 rfl (by decide) fun _ _ => ?_
  refine ⟨Nat.le_refl _, by simp [Tryd.f33], fun E hE => ?_⟩
  refine vcOk _ ?_
  (all_goals refine qgp ?_ <;> (repeat' first | exact trivial | intro hc | refine And.intro ?_ ?_) <;> refine Lf.mk ?_)
  refine call_p scan_tokens_meets sRow (by decide) (VS.mk (LeL.of_eq rfl)) ?_
  rw [live_toks]
  (all_goals refine qgs ?_ <;> (repeat' first | exact trivial | intro hc | refine And.intro ?_ ?_) <;> refine Lf.mk ?_)
  refine md_l (VS.mk (md_r ?_))
  (all_goals refine qgp ?_ <;> (repeat' first | exact trivial | intro hc | refine And.intro ?_ ?_) <;> refine Lf.mk ?_)
  refine call_p scan_lines_meets bRow (by decide) (VS.mk (LeL.of_eq rfl)) ?_
  rw [live_lines]
  (all_goals refine qgp ?_ <;> (repeat' first | exact trivial | intro hc | refine And.intro ?_ ?_) <;> refine Lf.mk ?_)
  all_goals first
    | (exfalso; exact hc trivial)
    | (exfalso; exact hc rfl)
    | (exfalso; refine absurd hc ?_; decide)
    | skip
  refine call_p name_meets [97, 98, 95, 49] (by decide) (VS.mk (LeL.of_eq rfl)) ?_
  rw [live_name]
  (all_goals refine qgp ?_ <;> (repeat' first | exact trivial | intro hc | refine And.intro ?_ ?_) <;> refine Lf.mk ?_)
  all_goals first
    | (exfalso; exact hc trivial)
    | (exfalso; exact hc rfl)
    | (exfalso; exact Bool.noConfusion hc)
    | (exfalso; refine absurd hc ?_; decide)
    | skip
  refine call_p name_meets [46, 120] (by decide) (VS.mk (LeL.of_eq rfl)) ?_
  rw [live_none]
  (all_goals refine qgp ?_ <;> (repeat' first | exact trivial | intro hc | refine And.intro ?_ ?_) <;> refine Lf.mk ?_)
  all_goals first
    | (exfalso; exact hc trivial)
    | (exfalso; exact hc rfl)
    | (exfalso; exact Bool.noConfusion hc)
    | (exfalso; refine absurd hc ?_; decide)
    | skip
  refine call_p scan_print_meets [⟨1, 0, [97]⟩, ⟨3, 0, [58]⟩] ⟨fun t ht => by
    simp only [List.mem_cons, List.not_mem_nil, or_false] at ht
    rcases ht with rfl | rfl <;> exact ⟨by decide, by decide⟩, by decide⟩ (VS.mk (LeL.of_eq rfl)) ?_
  rw [live_print]
  (all_goals refine qgp ?_ <;> (repeat' first | exact trivial | intro hc | refine And.intro ?_ ?_) <;> refine Lf.mk ?_)
  all_goals first
    | (exfalso; exact hc trivial)
    | (exfalso; exact hc rfl)
    | (exfalso; exact Bool.noConfusion hc)
    | (exfalso; refine absurd hc ?_; decide)
    | skip
  refine call_p own_meets lRow ⟨by decide, fun x hx => by
    simp only [lRow, List.mem_cons, List.not_mem_nil, or_false] at hx
    rcases hx with rfl | rfl <;> decide⟩ (VS.mk (LeL.of_eq rfl)) ?_
  (all_goals refine qgp ?_ <;> (repeat' first | exact trivial | intro hc | refine And.intro ?_ ?_) <;> refine Lf.mk ?_)
  all_goals exact end_p (VS.mk (LeD.of_eq rfl))
theorem scan_again_meets : Meets Tryd.prog n_pllaw2_ScanPrint (SpecP (fun s : List UInt8 => s.length ≤ 1000000000) (fun s => [.str s]) fun _ => .bool true) := by
  refine meets_f tabOk Tryd.func7 rfl (by decide) ?_
  intro s hs
  refine ⟨Nat.le_refl _, by simp [Tryd.f7], fun E hE => ?_⟩
  have hok := lexR_ok s
  have hlen := lexR_len s
  have hbad := lexR_bad (s := s)
  refine vcOk _ ?_
  (all_goals refine qgp ?_ <;> (repeat' first | exact trivial | intro hc | refine And.intro ?_ ?_) <;> refine Lf.mk ?_)
  refine call_p live_meets () trivial (VS.mk (LeL.of_eq rfl)) ?_
  (all_goals refine qgp ?_ <;> (repeat' first | exact trivial | intro hc | refine And.intro ?_ ?_) <;> refine Lf.mk ?_)
  all_goals first
    | (exfalso; exact hc trivial)
    | (exfalso; exact hc rfl)
    | (exfalso; exact Bool.noConfusion hc)
    | (exfalso; refine absurd hc ?_; decide)
    | skip
  refine call_p scan_tokens_meets s hs (VS.mk (LeL.of_eq rfl)) ?_
  generalize lexR s = T at *
  obtain ⟨ts, te⟩ := T
  have hlen : ts.length ≤ 80 := hlen
  (all_goals refine qgp ?_ <;> (repeat' first | exact trivial | intro hc | refine And.intro ?_ ?_) <;> refine Lf.mk ?_)
  · have e : ts = [] := hbad hc
    exact end_p (VS.mk (LeD.of_eq (congrArg D.bool (by dsimp only; rw [e]; rfl))))
  have hok : ∀ t ∈ ts, TokW t ∧ t.text.length ≤ 80 := hok
  obtain ⟨hI, hsum⟩ := tokw_i64 hok
  have hpl := print_len2 hI
  have hP := lexR_print fun t ht => (hok t ht).1
  refine call_p scan_print_meets ts ⟨hI, by omega⟩ (VS.mk (LeL.of_eq rfl)) ?_
  (all_goals refine qgp ?_ <;> (repeat' first | exact trivial | intro hc | refine And.intro ?_ ?_) <;> refine Lf.mk ?_)
  refine call_p scan_tokens_meets (printT ts) (by omega) (VS.mk (LeL.of_eq rfl)) ?_
  rw [hP]
  by_cases h80 : 80 < (printT ts).length
  · rw [if_pos h80]
    (all_goals refine qgp ?_ <;> (repeat' first | exact trivial | intro hc | refine And.intro ?_ ?_) <;> refine Lf.mk ?_)
    all_goals first
      | (exfalso; refine absurd trivial ?_; assumption)
      | exact end_p (VS.mk (LeD.tt rfl))
  · rw [if_neg h80]
    (all_goals refine qgp ?_ <;> (repeat' first | exact trivial | intro hc | refine And.intro ?_ ?_) <;> refine Lf.mk ?_)
    all_goals first
      | (exfalso; refine absurd trivial ?_; assumption)
      | skip
    refine call_p same_tokens_meets (ts, ts) ⟨by show ts.length ≤ _; omega, by show ts.length ≤ _; omega⟩ (VS.mk (LeL.of_eq rfl)) ?_
    dsimp only
    rw [sameT_yes rfl]
    (all_goals refine qgp ?_ <;> (repeat' first | exact trivial | intro hc | refine And.intro ?_ ?_) <;> refine Lf.mk ?_)
    all_goals first
      | (exfalso; exact Bool.noConfusion hc)
      | exact end_p (VS.mk (LeD.of_eq rfl))
end Go.Proofs.YtdhpodgaeholmaaDoor

/-
  Line by line.
-/
namespace Go.Proofs.YtdhpodgaeholmaaDoor
open Go Go.Plat
open Go Go.Plat
set_option linter.unusedVariables false
set_option linter.unusedSimpArgs false
set_option maxRecDepth 100000
set_option maxHeartbeats 2000000
attribute [local irreducible] NilS LookS NormM bitI BytesS NormL Arith QuoS RemS ShlS ShrS BitS CatS SplitS SideS IdxS CallS LoopEnd EndS ModeS DrawS AWP Meets
attribute [local irreducible] letterB digitB kindB okC numR wordC numC blankC lexF lexL spanF digV puR puF numTok signT lexR nameB

theorem split_app (a b : List UInt8) : splitC 10 (a ++ 10 :: b) = splitC 10 a ++ splitC 10 b := by
  induction a with
  | nil =>
    show (if (10 : UInt8) = 10 then [] :: splitC 10 b else _) = _
    rw [if_pos rfl]; rfl
  | cons c a ih =>
    rw [List.cons_append, splitC, splitC, ih]
    split
    · rfl
    · have h := split_len 10 a
      cases hs : splitC 10 a with
      | nil => rw [hs] at h; simp at h
      | cons x r => rfl
theorem linesF_app (ys : List (List UInt8)) : ∀ (xs : List (List UInt8)) (k : Int) (out : List LLine), linesF (xs ++ ys) k out =
    if (linesF xs k out).2.1 ≠ 0 then linesF xs k out else linesF ys (k + xs.length) (linesF xs k out).1
  | [], k, out => by
    rw [List.nil_append, linesF, if_neg (by simp)]
    simp
  | p :: xs, k, out => by
    have ih := linesF_app ys xs (k + 1)
    have e : k + 1 + (xs.length : Int) = k + ((p :: xs).length : Int) := by rw [List.length_cons]; omega
    rw [List.cons_append, linesF_cons, linesF_cons]
    by_cases h : (lexR p).2 ≠ 0
    · rw [if_pos h, if_pos h, if_pos h]
    rw [if_neg h, if_neg h]
    by_cases h2 : (lexR p).1.length = 0
    · rw [if_pos h2, if_pos h2, ih, e]
    · rw [if_neg h2, if_neg h2, ih, e]
def shL (m : Int) (l : LLine) : LLine := ⟨l.pos + m, l.toks⟩
theorem linesF_shift (m : Int) (out : List LLine) : ∀ (ys : List (List UInt8)) (k : Int) (acc : List LLine), linesF ys (k + m) (out ++ acc.map (shL m)) =
    if (linesF ys k acc).2.1 ≠ 0 then ([], (linesF ys k acc).2.1, (linesF ys k acc).2.2 + m) else (out ++ (linesF ys k acc).1.map (shL m), 0, 0)
  | [], k, acc => by rw [linesF, linesF, if_neg (by simp)]
  | p :: ys, k, acc => by
    have ih := linesF_shift m out ys (k + 1)
    rw [linesF_cons, linesF_cons]
    have e : k + m + 1 = k + 1 + m := by omega
    by_cases h : (lexR p).2 ≠ 0
    · rw [if_pos h, if_pos h, if_pos h]
    rw [if_neg h, if_neg h]
    by_cases h2 : (lexR p).1.length = 0
    · rw [if_pos h2, if_pos h2, e, ih]
    · rw [if_neg h2, if_neg h2, e, List.append_assoc]
      have e2 : acc.map (shL m) ++ [(⟨k + m, (lexR p).1⟩ : LLine)] = (acc ++ [(⟨k, (lexR p).1⟩ : LLine)]).map (shL m) := by rw [List.map_append]; rfl
      rw [e2, ih]
theorem linesF_pos : ∀ (ys : List (List UInt8)) (k : Int) (out : List LLine), 0 ≤ k → ((linesF ys k out).2.1 ≠ 0 → k ≤ (linesF ys k out).2.2 ∧ (linesF ys k out).2.2 < k + ys.length) ∧ ((linesF ys k out).2.1 = 0 → (linesF ys k out).2.2 = 0) ∧
    ∀ x ∈ (linesF ys k out).1, x ∈ out ∨ (k ≤ x.pos ∧ x.pos < k + ys.length)
  | [], k, out, h0 => by rw [linesF]; exact ⟨fun h => absurd rfl h, fun _ => rfl, fun x hx => .inl hx⟩
  | p :: ys, k, out, h0 => by
    have ih := fun o => linesF_pos ys (k + 1) o (by omega)
    rw [linesF_cons, List.length_cons]
    by_cases h : (lexR p).2 ≠ 0
    · rw [if_pos h]
      exact ⟨fun _ => by dsimp only; omega, fun e => absurd e h, fun x hx => by simp at hx⟩
    rw [if_neg h]
    by_cases h2 : (lexR p).1.length = 0
    · rw [if_pos h2]
      obtain ⟨g1, g2, g3⟩ := ih out
      refine ⟨fun e => by have := g1 e; omega, g2, fun x hx => (g3 x hx).imp id fun h => by omega⟩
    · rw [if_neg h2]
      obtain ⟨g1, g2, g3⟩ := ih (out ++ [⟨k, (lexR p).1⟩])
      refine ⟨fun e => by have := g1 e; omega, g2, fun x hx => ?_⟩
      rcases g3 x hx with h | h
      · rcases List.mem_append.1 h with h | h
        · exact .inl h
        · rw [List.mem_singleton] at h
          right
          rw [h]
          dsimp only
          omega
      · right; omega
theorem linesR_pos {b : List UInt8} (hb : b.length ≤ 1200) : ((linesR b).2.1 ≠ 0 → 1 ≤ (linesR b).2.2 ∧ (linesR b).2.2 ≤ 1201) ∧ ((linesR b).2.1 = 0 → (linesR b).2.2 = 0) ∧ ∀ x ∈ (linesR b).1, 1 ≤ x.pos ∧ x.pos ≤ 1201 := by
  have e : linesR b = linesF (splitC 10 b) 1 [] := by unfold linesR; rw [if_neg (by omega)]
  have h1 := split_len 10 b
  have h2 := List.count_le_length (a := 10) (l := b)
  obtain ⟨g1, g2, g3⟩ := linesF_pos (splitC 10 b) 1 [] (by decide)
  rw [e]
  refine ⟨fun h => by have := g1 h; omega, g2, fun x hx => ?_⟩
  rcases g3 x hx with h | h
  · simp at h
  · omega
theorem linesR_app {a b : List UInt8} (h : (a ++ 10 :: b).length ≤ 1200) : linesR (a ++ 10 :: b) = if (linesR a).2.1 ≠ 0 then linesR a else if (linesR b).2.1 ≠ 0 then ([], (linesR b).2.1, (linesR b).2.2 + (a.count 10 + 1 : Nat)) else
    ((linesR a).1 ++ (linesR b).1.map (shL (a.count 10 + 1 : Nat)), 0, 0) := by
  have hl : (a ++ 10 :: b).length = a.length + (b.length + 1) := by rw [List.length_append, List.length_cons]
  have ea : linesR a = linesF (splitC 10 a) 1 [] := by unfold linesR; rw [if_neg (by omega)]
  have eb : linesR b = linesF (splitC 10 b) 1 [] := by unfold linesR; rw [if_neg (by omega)]
  have e : linesR (a ++ 10 :: b) = linesF (splitC 10 a ++ splitC 10 b) 1 [] := by unfold linesR; rw [if_neg (by omega), split_app]
  rw [e, linesF_app, ← ea, split_len]
  by_cases h1 : (linesR a).2.1 ≠ 0
  · rw [if_pos h1, if_pos h1]
  · rw [if_neg h1, if_neg h1]
    have := linesF_shift ((a.count 10 + 1 : Nat) : Int) (linesR a).1 (splitC 10 b) 1 []
    rw [List.map_nil, List.append_nil] at this
    rw [this, ← eb]
end Go.Proofs.YtdhpodgaeholmaaDoor

/-
  Line by line: the walk.
-/
namespace Go.Proofs.YtdhpodgaeholmaaDoor
open Go Go.Plat
open Go Go.Plat
set_option linter.unusedVariables false
set_option linter.unusedSimpArgs false
set_option maxRecDepth 100000
set_option maxHeartbeats 2000000
attribute [local irreducible] NilS LookS NormM bitI BytesS NormL Arith QuoS RemS ShlS ShrS BitS CatS SplitS SideS IdxS CallS LoopEnd EndS ModeS DrawS AWP Meets
attribute [local irreducible] letterB digitB okC numR wordC numC blankC lexF lexL spanF digV puR puF numTok signT lexR nameB linesR printT

theorem scan_by_meets : Meets Tryd.prog n_pllaw2_ScanLines (SpecP (fun ((a, b) : List UInt8 × List UInt8) => a.length ≤ 100000000 ∧ b.length ≤ 100000000) (fun (a, b) => [.sl 1 (a.map byteD) none, .sl 1 (b.map byteD) none]) fun _ => .bool true) := by
  refine meets_f tabOk Tryd.func8 rfl (by decide) ?_
  rintro ⟨a, b⟩ ⟨ha, hb⟩
  refine ⟨Nat.le_refl _, by simp [Tryd.f8], fun E hE => ?_⟩
  have ha : a.length ≤ 100000000 := ha
  have hb : b.length ≤ 100000000 := hb
  have hlen : (a ++ 10 :: b).length = a.length + (b.length + 1) := by rw [List.length_append, List.length_cons]
  refine vcOk _ ?_
  (all_goals refine qgp ?_ <;> (repeat' first | exact trivial | intro hc | refine And.intro ?_ ?_) <;> refine Lf.mk ?_)
  refine call_p live_meets () trivial (VS.mk (LeL.of_eq rfl)) ?_
  (all_goals refine qgp ?_ <;> (repeat' first | exact trivial | intro hc | refine And.intro ?_ ?_) <;> refine Lf.mk ?_)
  all_goals first
    | (exfalso; exact Bool.noConfusion hc)
    | (exfalso; exact hc rfl)
    | exact end_p (VS.mk (LeD.tt rfl))
    | skip
  have hab : (a ++ 10 :: b).length ≤ 1200 := by omega
  have hR := linesR_app hab
  have hpb := linesR_pos (b := b) (by omega)
  have hpa := linesR_pos (b := a) (by omega)
  have oa := linesR_ok a
  have ob := linesR_ok b
  have oc := linesR_ok (a ++ 10 :: b)
  refine call_p scan_lines_meets a (by omega) (VS.mk (LeL.of_eq rfl)) ?_
  generalize linesR a = A at *
  obtain ⟨la, ea, fa⟩ := A
  (all_goals refine qgp ?_ <;> (repeat' first | exact trivial | intro hc | refine And.intro ?_ ?_) <;> refine Lf.mk ?_)
  refine call_p scan_lines_meets b (by omega) (VS.mk (LeL.of_eq rfl)) ?_
  generalize linesR b = B at *
  obtain ⟨lb, eb, fb⟩ := B
  dsimp only at hR hpa hpb oa ob
  (all_goals refine qgp ?_ <;> (repeat' first | exact trivial | intro hc | refine And.intro ?_ ?_) <;> refine Lf.mk ?_)
  have harg : List.map byteD a ++ [D.int .u8 10] ++ List.map byteD b = (a ++ 10 :: b).map byteD := by rw [List.map_append, List.map_cons, List.append_assoc]; rfl
  rw [harg]
  refine call_p scan_lines_meets (a ++ 10 :: b) (by omega) (VS.mk (LeL.of_eq rfl)) ?_
  generalize linesR (a ++ 10 :: b) = Z at *
  obtain ⟨lz, ez, fz⟩ := Z
  dsimp only at oc
  generalize hS : ((a ++ 10 :: b).map byteD).length = N at *
  (all_goals refine qgp ?_ <;> (repeat' first | exact trivial | intro hc | refine And.intro ?_ ?_) <;> refine Lf.mk ?_)
  refine awp_loop (α := Nat) (fun k => k ≤ a.length)
    (fun k => [(5, .sl 2 (la.map llineD) none), (6, .loc 0 0), (7, .sl 2 (lb.map llineD) none), (8, .loc 1 0), (9, .sl 2 (lz.map llineD) none), (10, .loc 3 0), (11, .int .i64 ((a.take k).count 10 + 1 : Nat)), (47, .sl 1 (a.map byteD) none), (48, .int .i64 a.length), (49, .int .i64 k)])
    (fun k => [.cells [.int .i64 ea, .int .i64 fa], .cells [.int .i64 eb, .int .i64 fb], .spare N, .cells [.int .i64 ez, .int .i64 fz]]) (fun k => a.length - k) (fun _ => by simp [hE]) 0 (Nat.zero_le _) ?_ ?_
  · (repeat' (first | (refine VS.mk ?_) | exact trivial | exact rfl | refine And.intro ?_ ?_))
  intro k hk
  have hcl := List.count_le_length (a := (10 : UInt8)) (l := a.take k)
  rw [List.length_take] at hcl
  have hstep : k < a.length → ((a.take (k + 1)).count 10 = (a.take k).count 10 + 1 ∧ a.getD k 0 = 10) ∨ ((a.take (k + 1)).count 10 = (a.take k).count 10 ∧ a.getD k 0 ≠ 10) := fun h => by
    have hx : a[k]? = some (a.getD k 0) := by rw [List.getD_eq_getElem?_getD, List.getElem?_eq_getElem h]; rfl
    rw [take_snoc hx, List.count_append]
    by_cases e : a.getD k 0 = 10
    · left; rw [e]; exact ⟨rfl, rfl⟩
    · right
      refine ⟨?_, e⟩
      rw [List.count_singleton, beq_eq_false_iff_ne.2 e]
      rfl
  obtain ⟨cn, hcn⟩ : ∃ cn, (a.take k).count 10 = cn := ⟨_, rfl⟩
  rw [hcn] at hcl hstep
  dsimp only
  rw [hcn]
  refine vcOk _ ?_
  (all_goals refine qgp ?_ <;> (repeat' first | exact trivial | intro hc | refine And.intro ?_ ?_) <;> refine Lf.mk ?_)
  · rcases hstep (by omega) with ⟨h1, h2⟩ | ⟨h1, h2⟩
    · refine loop_end (k + 1) (by omega) (by omega) ?_
      (repeat' (first | (refine VS.mk ?_) | exact trivial | exact rfl | refine And.intro ?_ ?_))
      all_goals (refine congrArg (D.int .i64) ?_; rw [h1]; omega)
    · exact absurd (byte_yes (d := 10) hc) h2
  · rcases hstep (by omega) with ⟨h1, h2⟩ | ⟨h1, h2⟩
    · rw [h2] at hc; exact absurd rfl hc
    · refine loop_end (k + 1) (by omega) (by omega) ?_
      (repeat' (first | (refine VS.mk ?_) | exact trivial | exact rfl | refine And.intro ?_ ?_))
      all_goals (refine congrArg (D.int .i64) ?_; rw [h1])
  all_goals
    have hta : a.take k = a := List.take_of_length_le (by omega)
    rw [hta] at hcn
    clear hstep
    rw [hcn] at hR
  · rw [if_pos hc] at hR
    cases hR
    refine eqS_flat [.int .i64, .int .i64] (by kernel_rfl) rfl ?_
    (all_goals refine qgp ?_ <;> (repeat' first | exact trivial | intro hc | refine And.intro ?_ ?_) <;> refine Lf.mk ?_)
    refine end_p (VS.mk ?_)
    (try simp only [beq_self_eq_true, Bool.and_true, Bool.and_self])
    (first | exact LeD.refl _ | exact LeD.tt rfl)
  · have hb0 : eb ≠ 0 := by assumption
    have ha0 : ¬ (ea ≠ 0) := fun h => h (by assumption)
    rw [if_neg ha0, if_pos hb0] at hR
    cases hR
    refine eqS_flat [.int .i64, .int .i64] (by kernel_rfl) rfl ?_
    (all_goals refine qgp ?_ <;> (repeat' first | exact trivial | intro hc | refine And.intro ?_ ?_) <;> refine Lf.mk ?_)
    refine end_p (VS.mk ?_)
    (try simp only [beq_self_eq_true, Bool.and_true, Bool.and_self])
    (first | exact LeD.refl _ | exact LeD.tt rfl)
  have ha0 : ¬ (ea ≠ 0) := fun h => h (by assumption)
  have hb0 : ¬ (eb ≠ 0) := fun h => h (by assumption)
  rw [if_neg ha0, if_neg hb0] at hR
  cases hR
  refine awp_loop (α := Nat) (fun k => k ≤ lb.length)
    (fun k => [(9, .sl 2 ((la ++ lb.map (shL (cn + 1 : Nat))).map llineD) none), (10, .loc 3 0), (11, .int .i64 (cn + 1 : Nat)), (14, .sl 2 ((la ++ (lb.take k).map (shL (cn + 1 : Nat))).map llineD) (some 4)), (89, .sl 2 (lb.map llineD) none), (90, .int .i64 lb.length), (91, .int .i64 k)])
    (fun k => [.cells [.int .i64 ea, .int .i64 fa], .cells [.int .i64 eb, .int .i64 fb], .spare N, .cells [.int .i64 0, .int .i64 0], .spare (la ++ (lb.take k).map (shL (cn + 1 : Nat))).length]) (fun k => lb.length - k) (fun _ => by simp [hE]) 0 (Nat.zero_le _) ?_ ?_
  · (repeat' (first | (refine VS.mk ?_) | exact trivial | exact rfl | refine And.intro ?_ ?_))
    all_goals (rw [List.take_zero, List.map_nil, List.append_nil]; try rfl)
  intro j hj
  refine vcOk _ ?_
  (all_goals refine qgp ?_ <;> (repeat' first | exact trivial | intro hc | refine And.intro ?_ ?_) <;> refine Lf.mk ?_)
  · obtain ⟨x, hx⟩ : ∃ x, lb[j]? = some x := ⟨_, List.getElem?_eq_getElem (by omega)⟩
    have hxp := hpb.2.2 x (List.mem_of_getElem? hx)
    have hxt := ob.2 x (List.mem_of_getElem? hx)
    have hS2 : la ++ (lb.take (j + 1)).map (shL (cn + 1 : Nat)) = (la ++ (lb.take j).map (shL (cn + 1 : Nat))) ++ [shL (cn + 1 : Nat) x] := by
      rw [take_snoc hx, List.map_append, List.append_assoc]; rfl
    refine ix_map x (by omega) (by simpa using hx) ?_
    (all_goals refine qgp ?_ <;> (repeat' first | exact trivial | intro hc | refine And.intro ?_ ?_) <;> refine Lf.mk ?_)
    all_goals first
      | (exfalso; omega)
      | skip
    refine loop_end (j + 1) (by omega) (by omega) ?_
    (repeat' (first | (refine VS.mk ?_) | exact trivial | exact rfl | refine And.intro ?_ ?_))
    · rw [hS2, List.length_append, List.length_append, List.length_map]; rfl
    · rw [hS2, List.map_append (f := llineD) (l₁ := la ++ _)]; rfl
  · have hta2 : lb.take j = lb := List.take_of_length_le (by omega)
    rw [hta2]
    have hL : sameL (la ++ lb.map (shL (cn + 1 : Nat))) (la ++ lb.map (shL (cn + 1 : Nat))) = true := sameL_yes rfl
    have hb2 : ∀ x ∈ la ++ lb.map (shL (cn + 1 : Nat)), x.toks.length ≤ 1000000000 := fun x hx => Nat.le_trans (oc.2 x hx) (by decide)
    have hlz := oc.1
    generalize la ++ lb.map (shL (cn + 1 : Nat)) = lz at *
    refine call_p same_lines_meets (lz, lz) ⟨⟨by show lz.length ≤ _; omega, by show lz.length ≤ _; omega⟩, hb2, hb2⟩ (VS.mk (LeL.of_eq rfl)) ?_
    dsimp only
    rw [hL]
    (all_goals refine qgp ?_ <;> (repeat' first | exact trivial | intro hc | refine And.intro ?_ ?_) <;> refine Lf.mk ?_)
    all_goals exact end_p (VS.mk (LeD.of_eq rfl))
  all_goals (exfalso; exact hc trivial)
end Go.Proofs.YtdhpodgaeholmaaDoor
