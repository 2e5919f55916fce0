/-
  A part of the proof: what the given program's functions answer, each once; conditions that are enough for it.
-/
import Derived.Test.YtdhpodgaeholmaaDoorSt1
/-
  Tokens of a line, as the document has them: the walk.
-/
namespace Go.Proofs.YtdhpodgaeholmaaDoor
open Go Go.Plat
set_option linter.unusedVariables false
set_option linter.unusedSimpArgs false
set_option maxRecDepth 100000
set_option maxHeartbeats 2000000
attribute [local irreducible] NilS LookS NormM bitI BytesS NormL Arith QuoS RemS ShlS ShrS BitS CatS SplitS SideS IdxS CallS LoopEnd EndS ModeS DrawS AWP Meets
attribute [local irreducible] letterB digitB kindB okC numR wordC numC

theorem word_first {c : UInt8} {r : List UInt8} (h : kindB c = 97) : 1 ≤ spanF wordC (c :: r) := by
  have e : wordC c = true := by unfold wordC; rw [decide_eq_true h]; rfl
  rw [spanF, if_pos e]; omega
theorem num_first {c : UInt8} {r : List UInt8} (h : kindB c = 48) : 1 ≤ spanF numC (c :: r) := by
  have e : numC c = true := by unfold numC; rw [decide_eq_true h, Bool.or_true]
  rw [spanF, if_pos e]; omega
theorem lex_fuel : ∀ (f g : Nat) (l : List UInt8) (out : List LTok), l.length < f → l.length < g → lexF f l out = lexF g l out
  | 0, _, _, _, h, _ => absurd h (Nat.not_lt_zero _)
  | _ + 1, 0, _, _, _, h => absurd h (Nat.not_lt_zero _)
  | f + 1, g + 1, [], out, _, _ => rfl
  | f + 1, g + 1, c :: r, out, hf, hg => by
    have hf : r.length < f := by simpa using hf
    have hg : r.length < g := by simpa using hg
    have ih := lex_fuel f g
    have hd : ∀ n, 1 ≤ n → ((c :: r).drop n).length ≤ r.length := fun n hn => by rw [List.length_drop, List.length_cons]; omega
    rw [lexF, lexF]
    split
    · exact ih _ _ hf hg
    split
    · rename_i h
      have := hd _ (word_first (r := r) h)
      exact ih _ _ (by omega) (by omega)
    split
    · rename_i h
      have := hd _ (num_first (r := r) h)
      split
      · exact ih _ _ (by omega) (by omega)
      · rfl
    split
    · rfl
    split
    · have : (r.drop 1).length ≤ r.length := by rw [List.length_drop]; omega
      exact ih _ _ (by omega) (by omega)
    split
    · exact ih _ _ hf hg
    · rfl
def lexL (l : List UInt8) (out : List LTok) : Option (List LTok) := lexF (l.length + 1) l out
theorem lexL_nil (out : List LTok) : lexL [] out = some out := rfl
theorem lexL_cons (c : UInt8) (r : List UInt8) (out : List LTok) : lexL (c :: r) out =
    if kindB c = 32 then lexL r out
    else if kindB c = 97 then lexL ((c :: r).drop (spanF wordC (c :: r))) (out ++ [⟨1, 0, (c :: r).take (spanF wordC (c :: r))⟩])
    else if kindB c = 48 then (if (numR ((c :: r).take (spanF numC (c :: r)))).2 = true then
        lexL ((c :: r).drop (spanF numC (c :: r))) (out ++ [⟨2, (numR ((c :: r).take (spanF numC (c :: r)))).1, []⟩]) else none)
    else if c = 59 then some out
    else if (c :: r).take 2 = [60, 60] ∨ (c :: r).take 2 = [62, 62] then lexL (r.drop 1) (out ++ [⟨3, 0, (c :: r).take 2⟩])
    else if signsB.contains c = true then lexL r (out ++ [⟨3, 0, [c]⟩]) else none := by
  have hd : ∀ n, 1 ≤ n → ((c :: r).drop n).length ≤ r.length := fun n hn => by rw [List.length_drop, List.length_cons]; omega
  unfold lexL
  rw [List.length_cons, lexF]
  split
  · rfl
  split
  · rename_i h
    have := hd _ (word_first (r := r) h)
    exact lex_fuel _ _ _ _ (by omega) (by omega)
  split
  · rename_i h
    have := hd _ (num_first (r := r) h)
    split
    · exact lex_fuel _ _ _ _ (by omega) (by omega)
    · rfl
  split
  · rfl
  split
  · have : (r.drop 1).length ≤ r.length := by rw [List.length_drop]; omega
    exact lex_fuel _ _ _ _ (by omega) (by omega)
  · rfl
def lexFin : Option (List LTok) → List LTok × Int
  | some l => (l, 0)
  | none => ([], 2)
theorem lexR_eq (s : List UInt8) : lexR s = if 80 < s.length then ([], 4) else lexFin (lexL s []) := by
  unfold lexR lexL lexFin; rfl
def lexRD (p : List LTok × Int) : D := .tup [.sl 3 (p.1.map ltokD) none, .int .i64 p.2]
attribute [local irreducible] lexF lexL spanF

theorem word_yes {c : UInt8} (h : kindB c = 97 ∨ kindB c = 48 ∨ ((c.toNat : Nat) : Int) = 47) : wordC c = true := by
  unfold wordC
  rcases h with h | h | h
  · rw [decide_eq_true h]; rfl
  · rw [decide_eq_true h, Bool.or_true]; rfl
  · have : c = 47 := UInt8.toNat_inj.1 (by exact_mod_cast h)
    subst this
    rw [beq_self_eq_true, Bool.or_true]
theorem word_no {c : UInt8} (h1 : ¬ kindB c = 97) (h2 : ¬ kindB c = 48) (h3 : ¬ ((c.toNat : Nat) : Int) = 47) : wordC c = false := by
  unfold wordC
  rw [decide_eq_false h1, decide_eq_false h2, beq_eq_false_iff_ne.2 fun e => h3 (by rw [e]; rfl)]
  rfl
theorem num_yes {c : UInt8} (h : (kindB c = 97 ∧ ¬ ((c.toNat : Nat) : Int) = 46) ∨ kindB c = 48) : numC c = true := by
  unfold numC
  rcases h with ⟨h, h3⟩ | h
  · rw [decide_eq_true h, beq_eq_false_iff_ne.2 fun e => h3 (by rw [e]; rfl)]; rfl
  · rw [decide_eq_true h, Bool.or_true]
theorem num_no {c : UInt8} (h1 : ¬ kindB c = 97 ∨ ((c.toNat : Nat) : Int) = 46) (h2 : ¬ kindB c = 48) : numC c = false := by
  unfold numC
  rcases h1 with h | h
  · rw [decide_eq_false h, decide_eq_false h2]; rfl
  · have : c = 46 := UInt8.toNat_inj.1 (by exact_mod_cast h)
    subst this
    rw [decide_eq_false h2, beq_self_eq_true]
    simp
theorem rtokens_meets : Meets Tryd.prog n_plref1_Tokens (SpecP (fun s : List UInt8 => s.length ≤ 1000000000) (fun s => [.str s]) fun s => lexRD (lexR s)) := by
  refine meets_f tabOk Tryd.func11 rfl (by decide) ?_
  intro s hs
  refine ⟨Nat.le_refl _, by simp [Tryd.f11], fun E hE => ?_⟩
  have hR := lexR_eq s
  refine vcOk _ ?_
  (all_goals refine qgp ?_ <;> (repeat' first | exact trivial | intro hc | refine And.intro ?_ ?_) <;> refine Lf.mk ?_)
  · rw [if_pos (by omega)] at hR
    refine end_p (VS.mk ?_)
    rw [hR]
    exact .tup (.cons (.nil 3) (.cons (.refl _) .nil))
  rw [if_neg (by omega)] at hR
  refine awp_weak (weak_nil 4 3 rfl) ?_
  refine awp_loop (α := Nat × List LTok) (fun p => p.1 ≤ s.length ∧ p.2.length ≤ p.1 ∧ lexL s [] = lexL (s.drop p.1) p.2)
    (fun p => [(0, .str s), (4, .sl 3 (p.2.map ltokD) (some 0)), (5, .int .i64 p.1)])
    (fun p => [.spare p.2.length]) (fun p => s.length - p.1) (fun _ => by simp [hE]) (0, []) ⟨Nat.zero_le _, Nat.le_refl _, rfl⟩ ?_ ?_
  · (repeat' (first | (refine VS.mk ?_) | exact trivial | exact rfl | refine And.intro ?_ ?_))
  rintro ⟨i, out⟩ ⟨hi, ho, hf⟩
  dsimp only at hi ho hf ⊢
  refine vcOk _ ?_
  (all_goals refine qgp ?_ <;> (repeat' first | exact trivial | intro hc | refine And.intro ?_ ?_) <;> refine Lf.mk ?_)
  · have hil : i < s.length := by omega
    obtain ⟨c, hcx⟩ : ∃ c, s.getD i 0 = c := ⟨_, rfl⟩
    obtain ⟨r, hr⟩ : ∃ r, s.drop (i + 1) = r := ⟨_, rfl⟩
    have hd : s.drop i = c :: r := by rw [drop_cons (d := 0) hil, hcx, hr]
    have hrl : r.length = s.length - (i + 1) := by rw [← hr, List.length_drop]
    rw [hd, lexL_cons] at hf
    refine call_p kind_meets c trivial (VS.mk (LeL.of_eq (by rw [Int.toNat_natCast, hcx]; rfl))) ?_
    (all_goals refine qgp ?_ <;> (repeat' first | exact trivial | intro hc | refine And.intro ?_ ?_) <;> refine Lf.mk ?_)
    · rw [if_pos hc] at hf
      have hf1 : lexL s [] = lexL (s.drop (i + 1)) out := by rw [hr]; exact hf
      refine loop_end (i + 1, out) ⟨by dsimp only; omega, by dsimp only; omega, hf1⟩ (by dsimp only; omega) ?_
      (repeat' (first | (refine VS.mk ?_) | exact trivial | exact rfl | refine And.intro ?_ ?_))
    · have hget : ∀ k, i ≤ k → (c :: r).getD (k - i) 0 = s.getD k 0 := fun k h => by
        rw [← hd, List.getD_eq_getElem?_getD, List.getElem?_drop, List.getD_eq_getElem?_getD, show i + (k - i) = k by omega]
      have hend : ∀ k, i ≤ k → k ≤ s.length → (∀ j, j < k - i → wordC ((c :: r).getD j 0) = true) → (k < s.length → wordC (s.getD k 0) = false) →
          i < k ∧ lexL s [] = lexL (s.drop k) (out ++ [⟨1, 0, (s.take k).drop i⟩]) := fun k h1 h2 h3 h4 => by
        have e : k - i = spanF wordC (c :: r) := span_eq (by rw [List.length_cons]; omega) h3 fun h => by rw [hget k h1]; exact h4 (by rw [List.length_cons] at h; omega)
        have h5 := word_first (r := r) (by assumption)
        rw [if_neg (by assumption), if_pos (by assumption), ← e, ← hd, List.drop_drop, show i + (k - i) = k by omega] at hf
        rw [hf, List.drop_take]
        exact ⟨by omega, rfl⟩
      refine awp_loop (α := Nat) (fun k => i ≤ k ∧ k ≤ s.length ∧ ∀ j, j < k - i → wordC ((c :: r).getD j 0) = true)
        (fun k => [(0, .str s), (4, .sl 3 (out.map ltokD) (some 0)), (5, .int .i64 i), (6, .int .i64 k)])
        (fun _ => [.spare out.length]) (fun k => s.length - k) (fun _ => by simp [hE]) i ⟨Nat.le_refl _, by omega, fun j h => absurd h (by omega)⟩ ?_ ?_
      · (repeat' (first | (refine VS.mk ?_) | exact trivial | exact rfl | refine And.intro ?_ ?_))
      rintro k ⟨hik, hks, hall⟩
      refine vcOk _ ?_
      have hgk := hget k hik
      have hall1 : wordC (s.getD k 0) = true → ∀ j, j < k + 1 - i → wordC ((c :: r).getD j 0) = true := fun h j hj => by
        by_cases e : j = k - i
        · rw [e, hgk]; exact h
        · exact hall j (by omega)
      (all_goals refine qgp ?_ <;> (repeat' first | exact trivial | intro hc | refine And.intro ?_ ?_) <;> refine Lf.mk ?_)
      · refine call_p kind_meets (s.getD k 0) trivial (VS.mk (LeL.of_eq (by rw [Int.toNat_natCast]; rfl))) ?_
        (all_goals refine qgp ?_ <;> (repeat' first | exact trivial | intro hc | refine And.intro ?_ ?_) <;> refine Lf.mk ?_)
        · have hgo := hall1 (word_yes (.inl hc))
          refine loop_end (k + 1) ⟨by omega, by omega, hgo⟩ (by omega) ?_
          (repeat' (first | (refine VS.mk ?_) | exact trivial | exact rfl | refine And.intro ?_ ?_))
        · refine call_p kind_meets (s.getD k 0) trivial (VS.mk (LeL.of_eq (by rw [Int.toNat_natCast]; rfl))) ?_
          (all_goals refine qgp ?_ <;> (repeat' first | exact trivial | intro hc | refine And.intro ?_ ?_) <;> refine Lf.mk ?_)
          · have hgo := hall1 (word_yes (.inr (.inl hc)))
            refine loop_end (k + 1) ⟨by omega, by omega, hgo⟩ (by omega) ?_
            (repeat' (first | (refine VS.mk ?_) | exact trivial | exact rfl | refine And.intro ?_ ?_))
          · rw [Int.toNat_natCast] at hc
            have hgo := hall1 (word_yes (.inr (.inr hc)))
            refine loop_end (k + 1) ⟨by omega, by omega, hgo⟩ (by omega) ?_
            (repeat' (first | (refine VS.mk ?_) | exact trivial | exact rfl | refine And.intro ?_ ?_))
          · rw [Int.toNat_natCast] at hc
            obtain ⟨hki, hq⟩ := hend k hik hks hall (fun _ => word_no (by assumption) (by assumption) hc)
            refine loop_end (k, out ++ [⟨1, 0, (s.take k).drop i⟩]) ⟨by dsimp only; omega, by dsimp only; rw [List.length_append, List.length_cons, List.length_nil]; omega, hq⟩ (by dsimp only; omega) ?_
            (repeat' (first | (refine VS.mk ?_) | exact trivial | exact rfl | refine And.intro ?_ ?_))
            all_goals (first | rfl | simp [ltokD])

      · obtain ⟨hki, hq⟩ := hend k hik hks hall (fun h => absurd h (by omega))
        refine loop_end (k, out ++ [⟨1, 0, (s.take k).drop i⟩]) ⟨by dsimp only; omega, by dsimp only; rw [List.length_append, List.length_cons, List.length_nil]; omega, hq⟩ (by dsimp only; omega) ?_
        (repeat' (first | (refine VS.mk ?_) | exact trivial | exact rfl | refine And.intro ?_ ?_))
        all_goals (first | rfl | simp [ltokD])
    · have hget : ∀ k, i ≤ k → (c :: r).getD (k - i) 0 = s.getD k 0 := fun k h => by
        rw [← hd, List.getD_eq_getElem?_getD, List.getElem?_drop, List.getD_eq_getElem?_getD, show i + (k - i) = k by omega]
      have hend : ∀ k, i ≤ k → k ≤ s.length → (∀ j, j < k - i → numC ((c :: r).getD j 0) = true) → (k < s.length → numC (s.getD k 0) = false) →
          i < k ∧ lexL s [] = if (numR ((s.take k).drop i)).2 = true then lexL (s.drop k) (out ++ [⟨2, (numR ((s.take k).drop i)).1, []⟩]) else none := fun k h1 h2 h3 h4 => by
        have e : k - i = spanF numC (c :: r) := span_eq (by rw [List.length_cons]; omega) h3 fun h => by rw [hget k h1]; exact h4 (by rw [List.length_cons] at h; omega)
        have h5 := num_first (r := r) (by assumption)
        rw [if_neg (by assumption), if_neg (by assumption), if_pos (by assumption), ← e, ← hd, List.drop_drop, show i + (k - i) = k by omega] at hf
        rw [hf, List.drop_take]
        exact ⟨by omega, rfl⟩
      refine awp_loop (α := Nat) (fun k => i ≤ k ∧ k ≤ s.length ∧ ∀ j, j < k - i → numC ((c :: r).getD j 0) = true)
        (fun k => [(0, .str s), (4, .sl 3 (out.map ltokD) (some 0)), (5, .int .i64 i), (6, .int .i64 k)])
        (fun _ => [.spare out.length]) (fun k => s.length - k) (fun _ => by simp [hE]) i ⟨Nat.le_refl _, by omega, fun j h => absurd h (by omega)⟩ ?_ ?_
      · (repeat' (first | (refine VS.mk ?_) | exact trivial | exact rfl | refine And.intro ?_ ?_))
      rintro k ⟨hik, hks, hall⟩
      refine vcOk _ ?_
      have hgk := hget k hik
      have hall1 : numC (s.getD k 0) = true → ∀ j, j < k + 1 - i → numC ((c :: r).getD j 0) = true := fun h j hj => by
        by_cases e : j = k - i
        · rw [e, hgk]; exact h
        · exact hall j (by omega)
      (all_goals refine qgp ?_ <;> (repeat' first | exact trivial | intro hc | refine And.intro ?_ ?_) <;> refine Lf.mk ?_)
      · refine call_p kind_meets (s.getD k 0) trivial (VS.mk (LeL.of_eq (by rw [Int.toNat_natCast]; rfl))) ?_
        (all_goals refine qgp ?_ <;> (repeat' first | exact trivial | intro hc | refine And.intro ?_ ?_) <;> refine Lf.mk ?_)
        · rw [Int.toNat_natCast] at hc
          have hgo := hall1 (num_yes (.inl ⟨by assumption, hc⟩))
          refine loop_end (k + 1) ⟨by omega, by omega, hgo⟩ (by omega) ?_
          (repeat' (first | (refine VS.mk ?_) | exact trivial | exact rfl | refine And.intro ?_ ?_))
        · rw [Int.toNat_natCast] at hc
          have h46 := hc
          refine call_p kind_meets (s.getD k 0) trivial (VS.mk (LeL.of_eq (by rw [Int.toNat_natCast]; rfl))) ?_
          (all_goals refine qgp ?_ <;> (repeat' first | exact trivial | intro hc | refine And.intro ?_ ?_) <;> refine Lf.mk ?_)
          obtain ⟨hki, hq⟩ := hend k hik hks hall (fun _ => num_no (.inr h46) (by omega))
          refine call_p rnumber_meets ((s.take k).drop i) (by rw [List.length_drop, List.length_take]; omega) (VS.mk (LeL.of_eq (by simp only [Int.toNat_natCast]))) ?_
          generalize numR ((s.take k).drop i) = nr at hq ⊢
          obtain ⟨nv, nb⟩ := nr
          dsimp only at hq
          (all_goals refine qgp ?_ <;> (repeat' first | exact trivial | intro hc | refine And.intro ?_ ?_) <;> refine Lf.mk ?_)
          · rw [if_neg (by rw [hc]; decide)] at hq
            rw [hq] at hR
            refine end_p (VS.mk ?_)
            rw [hR]
            exact .tup (.cons (.nil 3) (.cons (.refl _) .nil))
          · rw [if_pos hc] at hq
            refine loop_end (k, out ++ [⟨2, nv, []⟩]) ⟨by dsimp only; omega, by dsimp only; rw [List.length_append, List.length_cons, List.length_nil]; omega, hq⟩ (by dsimp only; omega) ?_
            (repeat' (first | (refine VS.mk ?_) | exact trivial | exact rfl | refine And.intro ?_ ?_))
            all_goals (first | rfl | simp [ltokD])
        · refine call_p kind_meets (s.getD k 0) trivial (VS.mk (LeL.of_eq (by rw [Int.toNat_natCast]; rfl))) ?_
          (all_goals refine qgp ?_ <;> (repeat' first | exact trivial | intro hc | refine And.intro ?_ ?_) <;> refine Lf.mk ?_)
          · have hgo := hall1 (num_yes (.inr hc))
            refine loop_end (k + 1) ⟨by omega, by omega, hgo⟩ (by omega) ?_
            (repeat' (first | (refine VS.mk ?_) | exact trivial | exact rfl | refine And.intro ?_ ?_))
          · obtain ⟨hki, hq⟩ := hend k hik hks hall (fun _ => num_no (.inl (by assumption)) hc)
            refine call_p rnumber_meets ((s.take k).drop i) (by rw [List.length_drop, List.length_take]; omega) (VS.mk (LeL.of_eq (by simp only [Int.toNat_natCast]))) ?_
            generalize numR ((s.take k).drop i) = nr at hq ⊢
            obtain ⟨nv, nb⟩ := nr
            dsimp only at hq
            (all_goals refine qgp ?_ <;> (repeat' first | exact trivial | intro hc | refine And.intro ?_ ?_) <;> refine Lf.mk ?_)
            · rw [if_neg (by rw [hc]; decide)] at hq
              rw [hq] at hR
              refine end_p (VS.mk ?_)
              rw [hR]
              exact .tup (.cons (.nil 3) (.cons (.refl _) .nil))
            · rw [if_pos hc] at hq
              refine loop_end (k, out ++ [⟨2, nv, []⟩]) ⟨by dsimp only; omega, by dsimp only; rw [List.length_append, List.length_cons, List.length_nil]; omega, hq⟩ (by dsimp only; omega) ?_
              (repeat' (first | (refine VS.mk ?_) | exact trivial | exact rfl | refine And.intro ?_ ?_))
              all_goals (first | rfl | simp [ltokD])
      · obtain ⟨hki, hq⟩ := hend k hik hks hall (fun h => absurd h (by omega))
        refine call_p rnumber_meets ((s.take k).drop i) (by rw [List.length_drop, List.length_take]; omega) (VS.mk (LeL.of_eq (by simp only [Int.toNat_natCast]))) ?_
        generalize numR ((s.take k).drop i) = nr at hq ⊢
        obtain ⟨nv, nb⟩ := nr
        dsimp only at hq
        (all_goals refine qgp ?_ <;> (repeat' first | exact trivial | intro hc | refine And.intro ?_ ?_) <;> refine Lf.mk ?_)
        · rw [if_neg (by rw [hc]; decide)] at hq
          rw [hq] at hR
          refine end_p (VS.mk ?_)
          rw [hR]
          exact .tup (.cons (.nil 3) (.cons (.refl _) .nil))
        · rw [if_pos hc] at hq
          refine loop_end (k, out ++ [⟨2, nv, []⟩]) ⟨by dsimp only; omega, by dsimp only; rw [List.length_append, List.length_cons, List.length_nil]; omega, hq⟩ (by dsimp only; omega) ?_
          (repeat' (first | (refine VS.mk ?_) | exact trivial | exact rfl | refine And.intro ?_ ?_))
          all_goals (first | rfl | simp [ltokD])
    · rw [Int.toNat_natCast, hcx] at hc
      have e59 : c = 59 := UInt8.toNat_inj.1 (by exact_mod_cast hc)
      rw [if_neg (by assumption), if_neg (by assumption), if_neg (by assumption), if_pos e59] at hf
      rw [hf] at hR
      refine end_p (VS.mk ?_)
      rw [hR]
      (first | exact LeL.refl _ | (repeat' (first | exact LeL.nil | exact LeD.refl _ | exact LeD.nil _ | exact LeD.strip _ _ _ | refine LeL.cons ?_ ?_ | refine LeD.tup ?_ | refine LeD.agg ?_)))
    all_goals
      have hr1 : r.drop 1 = s.drop (i + 2) := by rw [← hr, List.drop_drop]
      have h59 : ¬ c = 59 := fun e => by
        have q : ¬ ((s.getD ((i : Nat) : Int).toNat 0).toNat : Int) = 59 := by assumption
        rw [Int.toNat_natCast, hcx, e] at q
        exact q rfl
      have hT : List.drop ((i : Nat) : Int).toNat (List.take ((i : Int) + 2).toNat s) = (c :: r).take 2 := by
        rw [Int.toNat_natCast, show ((i : Int) + 2).toNat = i + 2 by omega, List.drop_take, hd, show i + 2 - i = 2 by omega]
    · rw [hT] at hc
      rw [if_neg (by assumption), if_neg (by assumption), if_neg (by assumption), if_neg (by assumption), if_pos (.inl hc), hr1] at hf
      refine loop_end (i + 2, out ++ [⟨3, 0, (c :: r).take 2⟩]) ⟨by dsimp only; omega, by dsimp only; rw [List.length_append, List.length_cons, List.length_nil]; omega, hf⟩ (by dsimp only; omega) ?_
      (repeat' (first | (refine VS.mk ?_) | exact trivial | exact rfl | refine And.intro ?_ ?_))
      all_goals (first | rfl | (rw [hT]; simp [ltokD]) | simp [ltokD])
    · rw [hT] at hc
      rw [if_neg (by assumption), if_neg (by assumption), if_neg (by assumption), if_neg (by assumption), if_pos (.inr hc), hr1] at hf
      refine loop_end (i + 2, out ++ [⟨3, 0, (c :: r).take 2⟩]) ⟨by dsimp only; omega, by dsimp only; rw [List.length_append, List.length_cons, List.length_nil]; omega, hf⟩ (by dsimp only; omega) ?_
      (repeat' (first | (refine VS.mk ?_) | exact trivial | exact rfl | refine And.intro ?_ ?_))
      all_goals (first | rfl | (rw [hT]; simp [ltokD]) | simp [ltokD])
    · have hn2 : ¬ ((c :: r).take 2 = [60, 60] ∨ (c :: r).take 2 = [62, 62]) := by
        have a1 : ¬ List.drop ((i : Nat) : Int).toNat (List.take ((i : Int) + 2).toNat s) = [60, 60] := by assumption
        have a2 : ¬ List.drop ((i : Nat) : Int).toNat (List.take ((i : Int) + 2).toNat s) = [62, 62] := by assumption
        rw [hT] at a1 a2
        exact fun h => h.elim a1 a2
      have hT1 : List.drop ((i : Nat) : Int).toNat (List.take ((i : Int) + 1).toNat s) = [c] := by
        rw [Int.toNat_natCast, show ((i : Int) + 1).toNat = i + 1 by omega, List.drop_take, hd, show i + 1 - i = 1 by omega]; rfl
      refine call_p rhas_meets (signsB, c) (show signsB.length ≤ 1000000000 by decide) (VS.mk (LeL.of_eq (by rw [Int.toNat_natCast, hcx]; rfl))) ?_
      rw [if_neg (by assumption), if_neg (by assumption), if_neg (by assumption), if_neg (by assumption), if_neg hn2] at hf
      (all_goals refine qgp ?_ <;> (repeat' first | exact trivial | intro hc | refine And.intro ?_ ?_) <;> refine Lf.mk ?_)
      · rw [if_neg (by rw [hc]; decide)] at hf
        rw [hf] at hR
        refine end_p (VS.mk ?_)
        rw [hR]
        exact .tup (.cons (.nil 3) (.cons (.refl _) .nil))
      · rw [if_pos hc, ← hr] at hf
        refine loop_end (i + 1, out ++ [⟨3, 0, [c]⟩]) ⟨by dsimp only; omega, by dsimp only; rw [List.length_append, List.length_cons, List.length_nil]; omega, hf⟩ (by dsimp only; omega) ?_
        (repeat' (first | (refine VS.mk ?_) | exact trivial | exact rfl | refine And.intro ?_ ?_))
        all_goals (first | rfl | (rw [hT1]; simp [ltokD]) | simp [ltokD])
    · have hn2 : ¬ ((c :: r).take 2 = [60, 60] ∨ (c :: r).take 2 = [62, 62]) := by
        have h0 : r = [] := List.eq_nil_of_length_eq_zero (by omega)
        rw [h0]
        rintro (h | h) <;> cases h
      have hT1 : List.drop ((i : Nat) : Int).toNat (List.take ((i : Int) + 1).toNat s) = [c] := by
        rw [Int.toNat_natCast, show ((i : Int) + 1).toNat = i + 1 by omega, List.drop_take, hd, show i + 1 - i = 1 by omega]; rfl
      refine call_p rhas_meets (signsB, c) (show signsB.length ≤ 1000000000 by decide) (VS.mk (LeL.of_eq (by rw [Int.toNat_natCast, hcx]; rfl))) ?_
      rw [if_neg (by assumption), if_neg (by assumption), if_neg (by assumption), if_neg (by assumption), if_neg hn2] at hf
      (all_goals refine qgp ?_ <;> (repeat' first | exact trivial | intro hc | refine And.intro ?_ ?_) <;> refine Lf.mk ?_)
      · rw [if_neg (by rw [hc]; decide)] at hf
        rw [hf] at hR
        refine end_p (VS.mk ?_)
        rw [hR]
        exact .tup (.cons (.nil 3) (.cons (.refl _) .nil))
      · rw [if_pos hc, ← hr] at hf
        refine loop_end (i + 1, out ++ [⟨3, 0, [c]⟩]) ⟨by dsimp only; omega, by dsimp only; rw [List.length_append, List.length_cons, List.length_nil]; omega, hf⟩ (by dsimp only; omega) ?_
        (repeat' (first | (refine VS.mk ?_) | exact trivial | exact rfl | refine And.intro ?_ ?_))
        all_goals (first | rfl | (rw [hT1]; simp [ltokD]) | simp [ltokD])
  · rw [List.drop_of_length_le (by omega), lexL_nil] at hf
    rw [hf] at hR
    refine end_p (VS.mk ?_)
    rw [hR]
    (first | exact LeL.refl _ | (repeat' (first | exact LeL.nil | exact LeD.refl _ | exact LeD.nil _ | exact LeD.strip _ _ _ | refine LeL.cons ?_ ?_ | refine LeD.tup ?_ | refine LeD.agg ?_)))
end Go.Proofs.YtdhpodgaeholmaaDoor

/-
  What is printed, byte by byte, is made of its tokens.
-/
namespace Go.Proofs.YtdhpodgaeholmaaDoor
open Go Go.Plat
set_option linter.unusedVariables false
set_option linter.unusedSimpArgs false
set_option maxRecDepth 100000
set_option maxHeartbeats 2000000
attribute [local irreducible] NilS LookS NormM bitI BytesS NormL Arith QuoS RemS ShlS ShrS BitS CatS SplitS SideS IdxS CallS LoopEnd EndS ModeS DrawS AWP Meets
attribute [local irreducible] signedI exprD nodes OExpr.kind OExpr.n OExpr.name OExpr.kids nameB

def toL (t : OTok) : LTok := ⟨t.kind, t.n, t.text⟩
theorem toL_D (t : OTok) : ltokD (toL t) = tokD t := rfl
/-- a text ends here, or a blank is next -/
def Stop : List UInt8 → Prop
  | [] => True
  | c :: _ => c = 32
theorem kind_all : ∀ k : Fin 256, (48 ≤ k.val ∧ k.val ≤ 57 → kindB (UInt8.ofNat k.val) = 48) ∧ (letterB (UInt8.ofNat k.val) = true → kindB (UInt8.ofNat k.val) = 97) ∧
    (digitB (UInt8.ofNat k.val) = true → kindB (UInt8.ofNat k.val) = 48) := by decide +kernel
theorem kind_dig {c : UInt8} (h : 48 ≤ c.toNat ∧ c.toNat ≤ 57) : kindB c = 48 := by
  have := (kind_all ⟨c.toNat, c.toNat_lt⟩).1 h
  simpa using this
theorem kind_let {c : UInt8} (h : letterB c = true) : kindB c = 97 := by
  have := (kind_all ⟨c.toNat, c.toNat_lt⟩).2.1
  simp only [UInt8.ofNat_toNat] at this
  exact this h
theorem kind_dgt {c : UInt8} (h : digitB c = true) : kindB c = 48 := by
  have := (kind_all ⟨c.toNat, c.toNat_lt⟩).2.2
  simp only [UInt8.ofNat_toNat] at this
  exact this h
theorem nameB_eq (s : List UInt8) : nameB s = (decide (1 ≤ s.length ∧ s.length ≤ 10) && letterB (s.getD 0 0) && s.all okC) := by unfold nameB; rfl
theorem nat_dig {d : Nat} (h : d < 10) : (UInt8.ofNat (48 + d)).toNat = 48 + d := by rw [UInt8.toNat_ofNat']; omega
attribute [local irreducible] letterB digitB kindB okC
theorem span_all {p : UInt8 → Bool} {s rest : List UInt8} (h : ∀ c ∈ s, p c = true) (hr : Stop rest) (h32 : p 32 = false) : s.length = spanF p (s ++ rest) := by
  refine span_eq (by rw [List.length_append]; omega) (fun j hj => ?_) (fun hl => ?_)
  · rw [List.getD_eq_getElem?_getD, List.getElem?_append_left hj, List.getElem?_eq_getElem hj]
    exact h _ (List.getElem_mem hj)
  · rw [List.getD_eq_getElem?_getD, List.getElem?_append_right (Nat.le_refl _), Nat.sub_self]
    match rest, hr with
    | [], _ => rw [List.length_append] at hl; simp at hl
    | c :: r, hr => obtain rfl : c = 32 := hr; exact h32
theorem lex_blank (r : List UInt8) (out : List LTok) : lexL (32 :: r) out = lexL r out := by
  rw [lexL_cons, if_pos (by decide +kernel)]
theorem lex_word {c : UInt8} {s rest : List UInt8} (h0 : kindB c = 97) (h : ∀ x ∈ c :: s, wordC x = true) (hr : Stop rest) (out : List LTok) :
    lexL (c :: s ++ rest) out = lexL rest (out ++ [⟨1, 0, c :: s⟩]) := by
  have e := span_all h hr (by decide +kernel)
  rw [List.cons_append, lexL_cons, if_neg (by rw [h0]; decide), if_pos h0]
  rw [← List.cons_append, ← e, List.drop_left, List.take_left]
theorem lex_num {c : UInt8} {s rest : List UInt8} {n : Int} (h0 : kindB c = 48) (h : ∀ x ∈ c :: s, numC x = true) (hn : numR (c :: s) = (n, true)) (hr : Stop rest) (out : List LTok) :
    lexL (c :: s ++ rest) out = lexL rest (out ++ [⟨2, n, []⟩]) := by
  have e := span_all h hr (by decide +kernel)
  rw [List.cons_append, lexL_cons, if_neg (by rw [h0]; decide), if_neg (by rw [h0]; decide), if_pos h0]
  rw [← List.cons_append, ← e, List.drop_left, List.take_left, hn]
  rw [if_pos rfl]
theorem lex_sign1 {c : UInt8} (h0 : kindB c = 0) (h1 : c ≠ 59) (h2 : c ≠ 60) (h3 : c ≠ 62) (h4 : signsB.contains c = true) (r : List UInt8) (out : List LTok) :
    lexL (c :: r) out = lexL r (out ++ [⟨3, 0, [c]⟩]) := by
  rw [lexL_cons, if_neg (by rw [h0]; decide), if_neg (by rw [h0]; decide), if_neg (by rw [h0]; decide), if_neg h1, if_neg, if_pos h4]
  rintro (h | h)
  · rw [List.take_succ_cons] at h
    exact h2 (List.cons.inj h).1
  · rw [List.take_succ_cons] at h
    exact h3 (List.cons.inj h).1
theorem lex_shift {c : UInt8} (h : c = 60 ∨ c = 62) (r : List UInt8) (out : List LTok) : lexL (c :: c :: r) out = lexL r (out ++ [⟨3, 0, [c, c]⟩]) := by
  rw [lexL_cons]
  rcases h with rfl | rfl
  · rw [if_neg (by decide +kernel), if_neg (by decide +kernel), if_neg (by decide +kernel), if_neg (by decide), if_pos (.inl rfl)]; rfl
  · rw [if_neg (by decide +kernel), if_neg (by decide +kernel), if_neg (by decide +kernel), if_neg (by decide), if_pos (.inr rfl)]; rfl

theorem dec_dig : ∀ u : Nat, ∀ c ∈ Lib.decDigits u, 48 ≤ c.toNat ∧ c.toNat ≤ 57 := fun u => by
  induction u using Nat.strongRecOn with
  | _ u ih =>
    intro c hc
    rw [Lib.decDigits] at hc
    split at hc
    · rw [List.mem_singleton] at hc
      rw [hc, nat_dig (by omega)]; omega
    · rcases List.mem_append.1 hc with h | h
      · exact ih _ (by omega) c h
      · rw [List.mem_singleton] at h
        rw [h, nat_dig (by omega)]; omega
theorem dig_ofNat {d : Nat} (h : d < 10) : digV 10 (UInt8.ofNat (48 + d)) = d := by
  have e : (UInt8.ofNat (48 + d)).toNat = 48 + d := nat_dig h
  rw [(dig_def 10 _).1 (by rw [e]; omega), e]; omega
theorem num_dec : ∀ (u : Nat), u < 4294967296 → ∀ r : List UInt8, numF 10 (Lib.decDigits u ++ r) 0 = numF 10 r u := fun u => by
  induction u using Nat.strongRecOn with
  | _ u ih =>
    intro hu r
    rw [Lib.decDigits]
    split
    · rename_i h
      rw [List.cons_append, List.nil_append, numF, dig_ofNat h, if_neg (by omega)]
      congr 1; omega
    · rename_i h
      rw [List.append_assoc, ih (u / 10) (by omega) (by omega), List.cons_append, List.nil_append, numF, dig_ofNat (by omega), if_neg (by omega)]
      congr 1; omega
theorem dec_ne (u : Nat) : Lib.decDigits u ≠ [] := by
  rw [Lib.decDigits]
  split <;> simp
theorem num_of_dec {u : Nat} (hu : u < 4294967296) : numR (Lib.decDigits u) = ((u : Int), true) := by
  have h1 := num_dec u hu []
  rw [List.append_nil] at h1
  have h2 : ¬ (2 < (Lib.decDigits u).length ∧ (Lib.decDigits u).take 2 = [48, 120]) := by
    rintro ⟨h, h3⟩
    have : (120 : UInt8) ∈ (Lib.decDigits u).take 2 := by rw [h3]; simp
    have := dec_dig u _ (List.mem_of_mem_take this)
    exact absurd this.2 (by decide)
  unfold numR numRb
  rw [if_neg h2, h1]
  show ((u : Int), decide (((u : Int)) < 4294967296 ∧ Lib.decDigits u ≠ [])) = _
  rw [decide_eq_true ⟨by omega, dec_ne u⟩]
theorem lex_dec {u : Nat} (hu : u < 4294967296) {rest : List UInt8} (hr : Stop rest) (out : List LTok) : lexL (Lib.decDigits u ++ rest) out = lexL rest (out ++ [⟨2, u, []⟩]) := by
  have hn := num_of_dec hu
  have hd := dec_dig u
  have hne := dec_ne u
  generalize Lib.decDigits u = l at *
  cases l with
  | nil => exact absurd rfl hne
  | cons c s =>
    refine lex_num (kind_dig (hd c List.mem_cons_self)) (fun x hx => num_yes (.inr (kind_dig (hd x hx)))) hn hr out
theorem name_word {s : List UInt8} (h : nameB s = true) : ∃ c r, s = c :: r ∧ kindB c = 97 ∧ ∀ x ∈ c :: r, wordC x = true := by
  rw [nameB_eq] at h
  rw [Bool.and_eq_true, Bool.and_eq_true] at h
  obtain ⟨⟨h1, h2⟩, h3⟩ := h
  cases s with
  | nil => exact absurd (of_decide_eq_true h1).1 (by decide)
  | cons c r =>
    refine ⟨c, r, rfl, kind_let h2, fun x hx => word_yes ?_⟩
    have h4 := List.all_eq_true.1 h3 x hx
    unfold okC at h4
    rw [Bool.and_eq_true, Bool.or_eq_true] at h4
    rcases h4.1 with h | h
    · exact .inl (kind_let h)
    · exact .inr (.inl (kind_dgt h))
theorem lex_sgn {k : Int} (h : 5 ≤ k ∧ k ≤ 11) (r : List UInt8) (out : List LTok) : lexL (sgnP k ++ r) out = lexL r (out ++ [⟨3, 0, sgnP k⟩]) := by
  have h : k = 5 ∨ k = 6 ∨ k = 7 ∨ k = 8 ∨ k = 9 ∨ k = 10 ∨ k = 11 := by omega
  rcases h with rfl | rfl | rfl | rfl | rfl | rfl | rfl
  · exact lex_sign1 (c := 42) (by decide +kernel) (by decide) (by decide) (by decide) (by decide) r out
  · exact lex_sign1 (c := 43) (by decide +kernel) (by decide) (by decide) (by decide) (by decide) r out
  · exact lex_sign1 (c := 45) (by decide +kernel) (by decide) (by decide) (by decide) (by decide) r out
  · exact lex_shift (.inl rfl) r out
  · exact lex_shift (.inr rfl) r out
  · exact lex_sign1 (c := 38) (by decide +kernel) (by decide) (by decide) (by decide) (by decide) r out
  · exact lex_sign1 (c := 124) (by decide +kernel) (by decide) (by decide) (by decide) (by decide) r out
theorem lex_print : ∀ {a : OExpr}, Good a → ∀ (rest : List UInt8) (out : List LTok), Stop rest → lexL (printE a ++ rest) out = lexL rest (out ++ (tokE a).map toL) := fun {a} h => by
  induction h with
  | @num n h =>
    intro rest out hr
    rw [printE_eq, mk_kind, mk_n, mk_name, mk_kids, tok_num]
    show lexL (Lib.itoa (n % 4294967296) ++ rest) out = _
    unfold Lib.itoa
    rw [if_neg (by omega), lex_dec (by omega) hr]
    show _ = lexL rest (out ++ [⟨2, n % 4294967296, []⟩])
    rw [Int.toNat_of_nonneg (by omega)]
  | @name s h =>
    intro rest out hr
    rw [printE_eq, mk_kind, mk_n, mk_name, mk_kids, tok_name]
    show lexL (s ++ rest) out = lexL rest (out ++ [⟨1, 0, s⟩])
    obtain ⟨c, r, rfl, h1, h2⟩ := name_word h
    exact lex_word h1 h2 hr out
  | @un k a hk ha ih =>
    intro rest out hr
    rw [printE_eq, mk_kind, mk_n, mk_name, mk_kids, List.map_cons, List.map_nil]
    rcases hk with rfl | rfl
    · rw [tok_neg]
      show lexL (45 :: 32 :: (printE a ++ rest)) out = _
      rw [lex_sign1 (c := 45) (by decide +kernel) (by decide) (by decide) (by decide) (by decide), lex_blank, ih rest _ hr, List.map_cons, List.append_assoc]
      rfl
    · rw [tok_not]
      show lexL (126 :: 32 :: (printE a ++ rest)) out = _
      rw [lex_sign1 (c := 126) (by decide +kernel) (by decide) (by decide) (by decide) (by decide), lex_blank, ih rest _ hr, List.map_cons, List.append_assoc]
      rfl
  | @bin k a b hk ha hb iha ihb =>
    intro rest out hr
    have e : printE (.mk k 0 [] [a, b]) ++ rest = 40 :: 32 :: (printE a ++ (32 :: (sgnP k ++ (32 :: (printE b ++ (32 :: 41 :: rest)))))) := by
      rw [printE_eq, mk_kind, mk_n, mk_name, mk_kids, List.map_cons, List.map_cons, List.map_nil]
      unfold topP
      rw [if_neg (by omega), if_neg (by omega)]
      dsimp only
      rw [if_pos hk]
      simp only [List.append_assoc, List.cons_append, List.nil_append]
    rw [e, tok_bin hk, lex_sign1 (c := 40) (by decide +kernel) (by decide) (by decide) (by decide) (by decide), lex_blank, iha _ _ (by exact rfl), lex_blank, lex_sgn hk, lex_blank, ihb _ _ (by exact rfl), lex_blank,
      lex_sign1 (c := 41) (by decide +kernel) (by decide) (by decide) (by decide) (by decide)]
    congr 1
    simp only [List.append_assoc, List.map_cons, List.map_append, List.cons_append, List.nil_append, List.map_nil]
    rfl
/-- what the document's tokens of a printed expression are -/
theorem lex_good {a : OExpr} (h : Good a) : lexR (printE a) = (if 80 < (printE a).length then ([], 4) else ((tokE a).map toL, 0)) := by
  rw [lexR_eq]
  have e := lex_print h [] [] trivial
  rw [List.append_nil, List.nil_append, lexL_nil] at e
  rw [e]
  rfl
end Go.Proofs.YtdhpodgaeholmaaDoor

/-
  The statement on expressions that are written, and read again: the walk.
-/
namespace Go.Proofs.YtdhpodgaeholmaaDoor
open Go Go.Plat
open Go Go.Plat
set_option linter.unusedVariables false
set_option linter.unusedSimpArgs false
set_option maxRecDepth 100000
set_option maxHeartbeats 2000000
attribute [local irreducible] NilS LookS NormM bitI BytesS NormL Arith QuoS RemS ShlS ShrS BitS CatS SplitS SideS IdxS CallS LoopEnd EndS ModeS DrawS AWP Meets
attribute [local irreducible] signedI exprD nodes OExpr.kind OExpr.n OExpr.name OExpr.kids letterB digitB kindB nameB evalE evalL printE pRes lexR tokE wt

theorem map_tok (l : List OTok) : (l.map toL).map ltokD = l.map tokD := by rw [List.map_map]; rfl
theorem tok_le {a : OExpr} (h : Good a) : (tokE a).length ≤ 4 * nodes a := by
  induction h with
  | num h => rw [tok_num, nodes_mk0]; simp
  | name h => rw [tok_name, nodes_mk0]; simp; omega
  | un hk ha ih =>
    rcases hk with rfl | rfl
    · rw [tok_neg, nodes_mk1]; simp; omega
    · rw [tok_not, nodes_mk1]; simp; omega
  | bin hk ha hb iha ihb => rw [tok_bin hk, nodes_mk2]; simp; omega
theorem print_walk : Meets Tryd.prog n_pllaw3_ExprPrint (SpecP (fun ((L, l) : List OTok × List OEqu) => L.length ≤ 1000000000 ∧ wt L ≤ 1048576 ∧ l.length ≤ 1000000000) (fun (L, l) => [.sl 3 (L.map tokD) none, .sl 2 (l.map equD) none]) fun _ => .bool true) := by
  refine meets_f tabOk Tryd.func3 rfl (by decide) ?_
  rintro ⟨L, l⟩ ⟨hL, hw, hl⟩
  refine ⟨Nat.le_refl _, by simp [Tryd.f3], fun E hE => ?_⟩
  have hn := res_nodes L
  have hok := pres_ok (l := L)
  have hbad := pres_bad (l := L)
  have hgood := pres_good (l := L)
  refine vcOk _ ?_
  (all_goals refine qgp ?_ <;> (repeat' first | exact trivial | intro hc | refine And.intro ?_ ?_) <;> refine Lf.mk ?_)
  refine call_p alive_meets () trivial (VS.mk (LeL.of_eq rfl)) ?_
  (all_goals refine qgp ?_ <;> (repeat' first | exact trivial | intro hc | refine And.intro ?_ ?_) <;> refine Lf.mk ?_)
  all_goals first
    | (exfalso; exact absurd hc (by decide))
    | skip
  refine call_p parse_meets L hL (VS.mk (LeL.of_eq rfl)) ?_
  generalize pRes L = R at *
  obtain ⟨a, n, w⟩ := R
  dsimp only at hn hok hbad hgood
  (all_goals refine qgp ?_ <;> (repeat' first | exact trivial | intro hc | refine And.intro ?_ ?_) <;> refine Lf.mk ?_)
  · have e := hbad hc
    exact end_p (VS.mk (LeD.of_eq (congrArg D.bool (by rw [e]; exact beq_self_eq_true _))))
  all_goals
    have hw0 : w = 0 := by assumption
    have hrange := hok hw0
  all_goals first
    | (exfalso; omega)
    | skip
  have hg := hgood hw0
  have hpl := print_len (nodes a) a (Nat.le_refl _)
  refine call_p (print_meets (nodes a)) a ⟨Nat.le_refl _, by omega⟩ (VS.mk (LeL.of_eq rfl)) ?_
  (all_goals refine qgp ?_ <;> (repeat' first | exact trivial | intro hc | refine And.intro ?_ ?_) <;> refine Lf.mk ?_)
  refine call_p rtokens_meets (printE a) (by omega) (VS.mk (LeL.of_eq rfl)) ?_
  have hT := lex_good hg
  generalize lexR (printE a) = T at *
  obtain ⟨ts, er⟩ := T
  have htl : (tokE a).length ≤ 1000000000 := by
    have := tok_le hg
    omega
  have hpr := pres_reads hg
  (all_goals refine qgp ?_ <;> (repeat' first | exact trivial | intro hc | refine And.intro ?_ ?_) <;> refine Lf.mk ?_)
  · have e4 : er = 4 := by
      by_cases h80 : 80 < (printE a).length
      · rw [if_pos h80] at hT; exact congrArg Prod.snd hT
      · rw [if_neg h80] at hT; exact absurd (congrArg Prod.snd hT) hc
    exact end_p (VS.mk (LeD.of_eq (congrArg D.bool (by dsimp only; rw [e4]; decide))))
  have ets : ts = (tokE a).map toL := by
    by_cases h80 : 80 < (printE a).length
    · rw [if_pos h80] at hT
      have e4 : er = 4 := congrArg Prod.snd hT
      have e0 : er = 0 := by assumption
      omega
    · rw [if_neg h80] at hT; exact congrArg Prod.fst hT
  subst ets
  refine call_p parse_meets (tokE a) htl (VS.mk (.cons (LeD.of_eq (by dsimp only; rw [map_tok])) .nil)) ?_
  generalize pRes (tokE a) = R2 at *
  obtain ⟨b, m, w2⟩ := R2
  (all_goals refine qgp ?_ <;> (repeat' first | exact trivial | intro hc | refine And.intro ?_ ?_) <;> refine Lf.mk ?_)
  · rcases hpr with e | e
    · exact absurd (congrArg (fun p => p.2.2) e) hc
    · exact end_p (VS.mk (LeD.of_eq (congrArg D.bool (by dsimp only at e ⊢; rw [e]; decide))))
  have hw2 : w2 = 0 := by assumption
  have e : (b, m, w2) = (a, ((tokE a).length : Int), 0) := by
    rcases hpr with e | e
    · exact e
    · dsimp only at e; omega
  obtain ⟨eb, em, -⟩ : b = a ∧ m = (tokE a).length ∧ w2 = 0 := ⟨congrArg Prod.fst e, congrArg (fun p => p.2.1) e, hw2⟩
  subst eb
  refine call_p (eval_meets l hl (nodes b)) b ⟨Nat.le_refl _, by omega⟩ (VS.mk (LeL.of_eq rfl)) ?_
  (all_goals refine qgp ?_ <;> (repeat' first | exact trivial | intro hc | refine And.intro ?_ ?_) <;> refine Lf.mk ?_)
  refine call_p (eval_meets l hl (nodes b)) b ⟨Nat.le_refl _, by omega⟩ (VS.mk (LeL.of_eq rfl)) ?_
  generalize evalE l b = V
  obtain ⟨⟨v, vn⟩, ve⟩ := V
  (all_goals refine qgp ?_ <;> (repeat' first | exact trivial | intro hc | refine And.intro ?_ ?_) <;> refine Lf.mk ?_)
  · refine call_p (samee_meets (nodes b)) (b, b) ⟨Nat.le_refl _, by show nodes b ≤ _; omega⟩ (VS.mk (LeL.of_eq rfl)) ?_
    have hse : sameE b b = true := sameE_yes rfl
    dsimp only
    rw [hse]
    (all_goals refine qgp ?_ <;> (repeat' first | exact trivial | intro hc | refine And.intro ?_ ?_) <;> refine Lf.mk ?_)
    all_goals first
      | (exfalso; exact absurd hc (by decide))
      | skip
    refine eqS_flat [.str, .int .i64] (by kernel_rfl) rfl ?_
    (all_goals refine qgp ?_ <;> (repeat' first | exact trivial | intro hc | refine And.intro ?_ ?_) <;> refine Lf.mk ?_)
    all_goals first
      | (exact absurd rfl hc)
      | skip
    refine end_p (VS.mk ?_)
    (try simp only [beq_self_eq_true, Bool.and_true, Bool.and_self])
    (first | exact LeD.refl _ | exact LeD.tt rfl)
  all_goals exact absurd em hc
end Go.Proofs.YtdhpodgaeholmaaDoor
