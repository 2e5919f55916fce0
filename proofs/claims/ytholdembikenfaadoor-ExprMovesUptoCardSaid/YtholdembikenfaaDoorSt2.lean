/-
  A part of the proof: what the given program's functions answer, each once; conditions that are enough for it.
-/
import Derived.Test.YtholdembikenfaaDoorSt1
import Derived.Test.YtholdembikenfaaDoorFw4
/-
  A place is a place, and so much more: in plain words.
-/
namespace Go.Proofs.YtholdembikenfaaDoor
open Go Go.Plat
set_option linter.unusedVariables false
set_option linter.unusedSimpArgs false
set_option maxRecDepth 100000
attribute [local irreducible] signedI

/-- what comes of an expression where a name is a place, and where it is a number -/
structure Mov (nm : List UInt8) (n : Int) (a b : OVal) : Prop where
  s32 : S32 a.n
  none : nm = [] → b.name = a.name
  hit : nm ≠ [] → a.name = nm → b = ⟨[], signedI (a.n + n) 32⟩
  miss : nm ≠ [] → a.name ≠ nm → b = a
theorem sgmod (x : Int) : signedI x 32 % 4294967296 = x % 4294967296 := by
  rw [signed_eq]; split <;> omega
theorem numV6 (a b : Int) : numV 6 a b = signedI (a + b) 32 := by unfold numV; rfl
theorem numV7 (a b : Int) : numV 7 a b = signedI (a - b) 32 := by unfold numV; rfl

theorem mov_two {nm : List UInt8} {n k : Int} {a b x y : OVal} (ha : Mov nm n a x) (hb : Mov nm n b y) (hok : (twoV k a b).2 = 0) : (twoV k x y).2 = 0 ∧ Mov nm n (twoV k a b).1 (twoV k x y).1 := by
  by_cases hn : nm = []
  · have e1 := ha.none hn
    have e2 := hb.none hn
    have key : ∀ c d : OVal, c.name = a.name → d.name = b.name → (twoV k c d).2 = 0 ∧ S32 (twoV k c d).1.n ∧ (twoV k c d).1.name = (twoV k a b).1.name := by
      intro c d hc hd
      unfold twoV at hok ⊢
      rw [hc, hd]
      split
      · exact ⟨rfl, (by dsimp only; exact numV_s32 _ _ _), rfl⟩
      split
      · exact ⟨rfl, (by dsimp only; exact numV_s32 _ _ _), rfl⟩
      split
      · exact ⟨rfl, (by dsimp only; exact numV_s32 _ _ _), rfl⟩
      split
      · exact ⟨rfl, (by dsimp only; exact numV_s32 _ _ _), rfl⟩
      · rename_i h1 h2 h3 h4
        rw [if_neg h1, if_neg h2, if_neg h3, if_neg h4] at hok
        exact absurd (show (8 : Int) = 0 from hok) (by decide)
    obtain ⟨k1, _, k3⟩ := key x y e1 e2
    exact ⟨k1, (key a b rfl rfl).2.1, fun _ => k3, fun h => (h hn).elim, fun h => (h hn).elim⟩
  · have mis : ∀ c z : OVal, Mov nm n c z → c.name = [] → z = c := fun c z h e => h.miss hn (by rw [e]; exact fun h => hn h.symm)
    by_cases ha0 : a.name = [] <;> by_cases hb0 : b.name = []
    · obtain rfl := mis a x ha ha0
      obtain rfl := mis b y hb hb0
      have e : twoV k x y = (⟨[], numV k x.n y.n⟩, 0) := by unfold twoV; rw [if_pos ⟨ha0, hb0⟩]
      rw [e]
      exact ⟨rfl, (by dsimp only; exact numV_s32 _ _ _), fun _ => rfl, fun _ h => (hn h.symm).elim, fun _ _ => rfl⟩
    · obtain rfl := mis a x ha ha0
      have hk : k = 6 := by
        refine Classical.byContradiction fun hk => ?_
        unfold twoV at hok
        rw [if_neg (fun h => hb0 h.2), if_neg (fun h => hk h.1), if_neg (fun h => hb0 h.2), if_neg (fun h : k = 7 ∧ x.name = b.name => hb0 (h.2 ▸ ha0))] at hok
        exact absurd (show (8 : Int) = 0 from hok) (by decide)
      subst hk
      have e : twoV 6 x b = (⟨b.name, numV 6 x.n b.n⟩, 0) := by
        unfold twoV; rw [if_neg (fun h => hb0 h.2), if_pos ⟨rfl, .inl ha0⟩, ha0]; rfl
      rw [e]
      by_cases hbn : b.name = nm
      · obtain rfl := hb.hit hn hbn
        have e2 : twoV 6 x ⟨[], signedI (b.n + n) 32⟩ = (⟨[], numV 6 x.n (signedI (b.n + n) 32)⟩, 0) := by unfold twoV; rw [if_pos ⟨ha0, rfl⟩]
        rw [e2]
        refine ⟨rfl, (by dsimp only; exact numV_s32 _ _ _), fun h => (hn h).elim, fun _ _ => ?_, fun _ h => (h hbn).elim⟩
        dsimp only
        rw [numV6, numV6]
        congr 1
        refine signed_cong ?_
        have h1 := sgmod (b.n + n)
        have h2 := sgmod (x.n + b.n)
        omega
      · obtain rfl := hb.miss hn hbn
        rw [e]
        exact ⟨rfl, (by dsimp only; exact numV_s32 _ _ _), fun h => (hn h).elim, fun _ h => (hbn h).elim, fun _ _ => rfl⟩
    · obtain rfl := mis b y hb hb0
      have hk : k = 6 ∨ k = 7 := by
        refine Classical.byContradiction fun hk => ?_
        unfold twoV at hok
        rw [if_neg (fun h => ha0 h.1), if_neg (fun h => hk (.inl h.1)), if_neg (fun h => hk (.inr h.1)), if_neg (fun h => hk (.inr h.1))] at hok
        exact absurd (show (8 : Int) = 0 from hok) (by decide)
      have e : ∀ c : OVal, c.name ≠ [] → twoV k c y = (⟨c.name, numV k c.n y.n⟩, 0) := fun c hc => by
        unfold twoV; rw [if_neg (fun h => hc h.1)]
        rcases hk with rfl | rfl
        · rw [if_pos ⟨rfl, .inr hb0⟩, hb0, List.append_nil]
        · rw [if_neg (fun h => absurd h.1 (by decide)), if_pos ⟨rfl, hb0⟩]
      rw [e a ha0]
      by_cases han : a.name = nm
      · obtain rfl := ha.hit hn han
        have e2 : twoV k ⟨[], signedI (a.n + n) 32⟩ y = (⟨[], numV k (signedI (a.n + n) 32) y.n⟩, 0) := by unfold twoV; rw [if_pos ⟨rfl, hb0⟩]
        rw [e2]
        refine ⟨rfl, (by dsimp only; exact numV_s32 _ _ _), fun h => (hn h).elim, fun _ _ => ?_, fun _ h => (h han).elim⟩
        dsimp only
        have h1 := sgmod (a.n + n)
        rcases hk with rfl | rfl
        · rw [numV6, numV6]
          have h2 := sgmod (a.n + y.n)
          congr 1
          refine signed_cong ?_
          omega
        · rw [numV7, numV7]
          have h2 := sgmod (a.n - y.n)
          congr 1
          refine signed_cong ?_
          omega
      · obtain rfl := ha.miss hn han
        rw [e x ha0]
        exact ⟨rfl, (by dsimp only; exact numV_s32 _ _ _), fun h => (hn h).elim, fun _ h => (han h).elim, fun _ _ => rfl⟩
    · have hk : k = 7 ∧ a.name = b.name := by
        refine Classical.byContradiction fun hk => ?_
        unfold twoV at hok
        rw [if_neg (fun h => ha0 h.1), if_neg (fun h => h.2.elim ha0 hb0), if_neg (fun h => hb0 h.2), if_neg hk] at hok
        exact absurd (show (8 : Int) = 0 from hok) (by decide)
      obtain ⟨rfl, hab⟩ := hk
      have e : twoV 7 a b = (⟨[], numV 7 a.n b.n⟩, 0) := by
        unfold twoV; rw [if_neg (fun h => ha0 h.1), if_neg (fun h => absurd h.1 (by decide)), if_neg (fun h => hb0 h.2), if_pos ⟨rfl, hab⟩]
      by_cases han : a.name = nm
      · obtain rfl := ha.hit hn han
        obtain rfl := hb.hit hn (hab ▸ han)
        have e2 : twoV 7 ⟨[], signedI (a.n + n) 32⟩ ⟨[], signedI (b.n + n) 32⟩ = (⟨[], numV 7 (signedI (a.n + n) 32) (signedI (b.n + n) 32)⟩, 0) := by unfold twoV; rw [if_pos ⟨rfl, rfl⟩]
        have e3 : numV 7 (signedI (a.n + n) 32) (signedI (b.n + n) 32) = numV 7 a.n b.n := by
          rw [numV7, numV7]
          have h1 := sgmod (a.n + n)
          have h2 := sgmod (b.n + n)
          refine signed_cong ?_
          omega
        rw [e, e2, e3]
        exact ⟨rfl, (by dsimp only; exact numV_s32 _ _ _), fun _ => rfl, fun _ h => (hn h.symm).elim, fun _ _ => rfl⟩
      · obtain rfl := ha.miss hn han
        obtain rfl := hb.miss hn (fun h => han (hab.trans h))
        rw [e]
        exact ⟨rfl, (by dsimp only; exact numV_s32 _ _ _), fun _ => rfl, fun _ h => (hn h.symm).elim, fun _ _ => rfl⟩

theorem mov_one {nm : List UInt8} {n k : Int} {a x : OVal} (ha : Mov nm n a x) (hk : k = 3 ∨ k = 4) (hok : a.name = []) : x.name = [] ∧ Mov nm n ⟨[], if k = 3 then signedI (-a.n) 32 else signedI (-a.n - 1) 32⟩ ⟨[], if k = 3 then signedI (-x.n) 32 else signedI (-x.n - 1) 32⟩ := by
  have hs : ∀ v : Int, S32 (if k = 3 then signedI (-v) 32 else signedI (-v - 1) 32) := fun v => by split <;> exact signed_s32 _
  by_cases hn : nm = []
  · have e := ha.none hn
    exact ⟨by rw [e, hok], hs _, fun _ => rfl, fun h => (h hn).elim, fun h => (h hn).elim⟩
  · obtain rfl := ha.miss hn (by rw [hok]; exact fun h => hn h.symm)
    exact ⟨hok, hs _, fun _ => rfl, fun _ h => (hn h.symm).elim, fun _ _ => rfl⟩

def MovL (nm : List UInt8) (n : Int) : List OVal → List OVal → Prop
  | [], [] => True
  | a :: av, b :: bv => Mov nm n a b ∧ MovL nm n av bv
  | _, _ => False
theorem mov_top {nm : List UInt8} {n k m : Int} {s : List UInt8} {vs us : List OVal} (h : MovL nm n vs us) (hok : (topV k m s vs []).2 = 0) :
    (topV k m s us [⟨nm, n⟩]).2 = 0 ∧ Mov nm n (topV k m s vs []).1 (topV k m s us [⟨nm, n⟩]).1 := by
  match vs, us, h with
  | [], [], _ =>
    unfold topV at hok ⊢
    by_cases h1 : k = 1
    · rw [if_pos ⟨h1, rfl⟩, if_pos ⟨h1, rfl⟩]
      exact ⟨rfl, signed_s32 _, fun _ => rfl, fun h e => (h e.symm).elim, fun _ _ => rfl⟩
    · rw [if_neg (fun h => h1 h.1)] at hok ⊢
      by_cases h2 : k = 2
      · rw [if_pos ⟨h2, rfl⟩] at hok ⊢
        rw [if_neg (fun h => h1 h.1), if_pos ⟨h2, rfl⟩, find_nil, find_cons, find_nil]
        by_cases h3 : nm = s
        · rw [if_pos h3]
          subst h3
          exact ⟨rfl, by show S32 0; exact ⟨by decide, by decide⟩, fun h => h.symm, fun _ _ => by rw [Int.zero_add], fun _ h => (h rfl).elim⟩
        · rw [if_neg h3]
          exact ⟨rfl, by show S32 0; exact ⟨by decide, by decide⟩, fun _ => rfl, fun _ h => (h3 h.symm).elim, fun _ _ => rfl⟩
      · rw [if_neg (fun h => h2 h.1)] at hok
        exact absurd (show (1 : Int) = 0 from hok) (by decide)
  | [a], [x], ⟨ha, _⟩ =>
    unfold topV at hok ⊢
    rw [if_neg (fun h => by cases h.2), if_neg (fun h => by cases h.2)] at hok ⊢
    rw [if_neg (fun h => by cases h.2), if_neg (fun h => by cases h.2)]
    dsimp only at hok ⊢
    by_cases hk : k = 3 ∨ k = 4
    · rw [if_pos hk] at hok ⊢
      rw [if_pos hk]
      by_cases h0 : a.name = []
      · obtain ⟨q1, q2⟩ := mov_one ha hk h0
        rw [if_pos h0, if_pos q1]
        by_cases h3 : k = 3
        · rw [if_pos h3, if_pos h3] at q2
          rw [if_pos h3, if_pos h3]
          exact ⟨rfl, q2⟩
        · rw [if_neg h3, if_neg h3] at q2
          rw [if_neg h3, if_neg h3]
          exact ⟨rfl, q2⟩
      · rw [if_neg h0] at hok
        exact absurd (show (8 : Int) = 0 from hok) (by decide)
    · rw [if_neg hk] at hok
      exact absurd (show (1 : Int) = 0 from hok) (by decide)
  | [a, b], [x, y], ⟨ha, hb, _⟩ =>
    unfold topV at hok ⊢
    rw [if_neg (fun h => by cases h.2), if_neg (fun h => by cases h.2)] at hok ⊢
    rw [if_neg (fun h => by cases h.2), if_neg (fun h => by cases h.2)]
    dsimp only at hok ⊢
    by_cases hk : 5 ≤ k ∧ k ≤ 11
    · rw [if_pos hk] at hok ⊢
      rw [if_pos hk]
      exact mov_two ha hb hok
    · rw [if_neg hk] at hok
      exact absurd (show (1 : Int) = 0 from hok) (by decide)
  | a :: b :: c :: r, x :: y :: z :: q, _ =>
    unfold topV at hok
    rw [if_neg (fun h => by cases h.2), if_neg (fun h => by cases h.2)] at hok
    exact absurd (show (1 : Int) = 0 from hok) (by decide)

mutual
theorem mov_eval {nm : List UInt8} {n : Int} : ∀ e : OExpr, (evalE [] e).2 = 0 → (evalE [⟨nm, n⟩] e).2 = 0 ∧ Mov nm n (evalE [] e).1 (evalE [⟨nm, n⟩] e).1
  | .mk k m s ks, h => by
    rw [evalE] at h ⊢
    rw [evalE]
    have hl := mov_evalL (nm := nm) (n := n) ks
    cases hv : evalL [] ks with
    | inl w =>
      rw [hv] at h
      dsimp only at h
      exact (evalL_ne hv h).elim
    | inr vs =>
      obtain ⟨us, h1, h2⟩ := hl vs hv
      rw [hv] at h
      rw [h1]
      exact mov_top h2 h
theorem mov_evalL {nm : List UInt8} {n : Int} : ∀ (es : List OExpr) (vs : List OVal), evalL [] es = .inr vs → ∃ us, evalL [⟨nm, n⟩] es = .inr us ∧ MovL nm n vs us
  | [], vs, h => by
    rw [evalL] at h
    cases h
    exact ⟨[], by rw [evalL], by unfold MovL; trivial⟩
  | e :: es, vs, h => by
    rw [evalL] at h
    split at h
    · rename_i h0
      have he := mov_eval (nm := nm) (n := n) e h0
      split at h
      · cases h
      · rename_i ws hw
        cases h
        obtain ⟨us, h1, h2⟩ := mov_evalL es ws hw
        refine ⟨(evalE [⟨nm, n⟩] e).1 :: us, ?_, he.2, h2⟩
        rw [evalL, if_pos he.1, h1]
    · cases h
theorem evalL_ne {l : List OEqu} {w : Int} : ∀ {es : List OExpr}, evalL l es = .inl w → w = 0 → False
  | [], h, _ => by rw [evalL] at h; cases h
  | e :: es, h, hw => by
    rw [evalL] at h
    split at h
    · split at h
      · rename_i hv
        cases h
        exact evalL_ne hv hw
      · cases h
    · rename_i h0
      cases h
      exact h0 hw
end
end Go.Proofs.YtholdembikenfaaDoor

/-
  Print: an expression as a text.
-/
namespace Go.Proofs.YtholdembikenfaaDoor
open Go Go.Plat
open Go Go.Plat
set_option linter.unusedVariables false
set_option linter.unusedSimpArgs false
set_option maxRecDepth 100000
set_option maxHeartbeats 2000000
attribute [local irreducible] NilS LookS NormM bitI BytesS NormL Arith QuoS RemS ShlS ShrS BitS CatS SplitS SideS IdxS CallS LoopEnd EndS ModeS DrawS AWP Meets
attribute [local irreducible] signedI exprD nodes OExpr.kind OExpr.n OExpr.name OExpr.kids letterB digitB kindB nameB

theorem itoa_meets : Meets Tryd.prog n_strconv_Itoa (SpecP (fun n : Int => -9223372036854775808 ≤ n ∧ n ≤ 9223372036854775807) (fun n => [.int .i64 n]) fun n => .str (Lib.itoa n)) := by
  refine meets_lib ⟨_, Tryd.func63, by decide, rfl⟩ ?_
  intro n hn w F hg vs hl hv
  match vs, hl with
  | [v], _ =>
    cases hv 0 _ v rfl rfl
    refine (Go.Proofs.Tryd.strconv_Itoa n hn.1 hn.2 w ?_).mono ?_
    · exact hg.tab (g := 3) (ns := (List.range 20).map (10 ^ ·)) (by kernel_rfl) (by kernel_rfl) (by rw [List.map_map]; rfl) (by decide)
    · rintro e w' ⟨rfl, k, os, rfl⟩
      exact ⟨_, rfl, .growD w k os, .str _⟩

def idxI (x : Int) : List Int → Nat → Int
  | [], _ => -1
  | s :: l, k => if x = s then k else idxI x l (k + 1)
theorem indexI_meets : Meets Tryd.prog n_slices_Index_int_int (SpecP (fun ((l, x) : List Int × Int) => l.length ≤ 1000000000) (fun (l, x) => [.sl 1 (l.map (.int .i64)) none, .int .i64 x]) fun (l, x) => .int .i64 (idxI x l 0)) := by
  refine meets_f tabOk Tryd.func65 rfl (by decide) ?_
  rintro ⟨l, x⟩ hl
  have hl : l.length ≤ 1000000000 := hl
  refine ⟨Nat.le_refl _, by simp [Tryd.f65], fun E hE => ?_⟩
  refine vcOk _ ?_
  (all_goals refine qgo ?_ <;> (repeat' first | exact trivial | intro hc | refine And.intro ?_ ?_) <;> refine Lf.mk ?_)
  refine awp_loop (α := Nat) (fun k => k ≤ l.length ∧ idxI x l 0 = idxI x (l.drop k) k)
    (fun k => [(7, .int .i64 l.length), (8, .int .i64 k), (0, .sl 1 (l.map (.int .i64)) none), (1, .int .i64 x)])
    (fun _ => []) (fun k => l.length - k) (fun _ => by simp [hE]) 0 ⟨Nat.zero_le _, by simp⟩ ?_ ?_
  · (repeat' (first | (refine VS.mk ?_) | exact trivial | exact rfl | refine And.intro ?_ ?_))
  rintro k ⟨hk, hf⟩
  refine vcOk _ ?_
  (all_goals refine qgo ?_ <;> (repeat' first | exact trivial | intro hc | refine And.intro ?_ ?_) <;> refine Lf.mk ?_)
  · obtain ⟨s, hsk⟩ := at_of_lt (l := l) (k := k) (by omega)
    have hkl : k < l.length := by omega
    have hget : l[k] = s := by rw [List.getElem?_eq_getElem hkl] at hsk; exact Option.some.inj hsk
    rw [List.drop_eq_getElem_cons hkl, hget, idxI] at hf
    refine ix_map s (by omega) (by simpa using hsk) ?_
    (all_goals refine qgo ?_ <;> (repeat' first | exact trivial | intro hc | refine And.intro ?_ ?_) <;> refine Lf.mk ?_)
    · rw [if_pos hc] at hf
      exact end_p (VS.mk (LeD.of_eq (congrArg (D.int .i64) hf.symm)))
    · rw [if_neg hc] at hf
      refine loop_end (k + 1) ⟨by omega, hf⟩ (by omega) ?_
      (repeat' (first | (refine VS.mk ?_) | exact trivial | exact rfl | refine And.intro ?_ ?_))
  · rw [List.drop_of_length_le (by omega), idxI] at hf
    exact end_p (VS.mk (LeD.of_eq (congrArg (D.int .i64) hf.symm)))

def sgnP (k : Int) : List UInt8 := if k = 5 then [42] else if k = 6 then [43] else if k = 7 then [45] else if k = 8 then [60, 60] else if k = 9 then [62, 62] else if k = 10 then [38] else [124]
theorem sgn_at {K : Int} : ∀ {k : Nat}, k < 5 → 0 ≤ idxI K (kinds k) 0 → (5 ≤ K ∧ K ≤ 11) ∧ (signs k)[(idxI K (kinds k) 0).toNat]? = some (sgnP K)
  | 0, _, h | 1, _, h | 2, _, h | 3, _, h | 4, _, h => by
    simp only [kinds, idxI] at h ⊢
    repeat' first | split at h | (subst_vars; exact ⟨by decide, rfl⟩) | omega
theorem sgn_has {K : Int} (h : 5 ≤ K ∧ K ≤ 11) (hn : ∀ j, j < 5 → idxI K (kinds j) 0 < 0) : False := by
  have h0 := hn 0 (by decide)
  have h1 := hn 1 (by decide)
  have h2 := hn 2 (by decide)
  have h3 := hn 3 (by decide)
  have h4 := hn 4 (by decide)
  simp only [kinds, idxI] at h0 h1 h2 h3 h4
  repeat' first | omega | split at h0 | split at h1 | split at h2 | split at h3 | split at h4

def topP (k n : Int) (s : List UInt8) (l : List (List UInt8)) : List UInt8 :=
  if k = 1 then Lib.itoa (n % 4294967296) else if k = 2 then s else match l with
  | [a] => if k = 3 then [45, 32] ++ a else if k = 4 then [126, 32] ++ a else []
  | [a, b] => if 5 ≤ k ∧ k ≤ 11 then [40, 32] ++ a ++ [32] ++ sgnP k ++ [32] ++ b ++ [32, 41] else []
  | _ => []
mutual
def printE : OExpr → List UInt8
  | .mk k n s ks => topP k n s (printEs ks)
def printEs : List OExpr → List (List UInt8)
  | [] => []
  | e :: es => printE e :: printEs es
end
theorem printE_eq (e : OExpr) : printE e = topP e.kind e.n e.name (e.kids.map printE) := by
  have hs : ∀ l : List OExpr, printEs l = l.map printE := fun l => by
    induction l with
    | nil => rw [printEs]; rfl
    | cons a l ih => rw [printEs, ih]; rfl
  cases e with
  | mk k n s ks => rw [printE, hs, mk_kind, mk_n, mk_name, mk_kids]
theorem digits_small {u : Nat} (h : u < 4294967296) : (Lib.decDigits u).length ≤ 10 := by
  rw [Lib.decDigits_length]
  have key : ∀ k v : Nat, v < 10 ^ k → 1 ≤ k → Lib.nDigits v ≤ k := fun k => by
    induction k with
    | zero => intro v h1 h2; omega
    | succ k ih =>
      intro v h1 h2
      by_cases hv : v < 10
      · rw [Lib.nDigits_small hv]; omega
      · rw [Lib.nDigits_big hv]
        rw [Nat.pow_succ] at h1
        by_cases hk : k = 0
        · subst hk; omega
        · have := ih (v / 10) (by omega) (by omega); omega
  exact key 10 u (by omega) (by decide)
theorem itoa_len (n : Int) : (Lib.itoa (n % 4294967296)).length ≤ 10 := by
  unfold Lib.itoa
  rw [if_neg (by omega)]
  exact digits_small (by omega)
theorem sgn_len (k : Int) : (sgnP k).length ≤ 2 := by unfold sgnP; repeat' split
                                                      all_goals decide
theorem print_len : ∀ (n : Nat) (e : OExpr), nodes e ≤ n → (printE e).length ≤ 16 * nodes e
  | 0, e, h => by have := nodes_pos e; omega
  | n + 1, .mk k m s ks, h => by
    rw [nodes] at h ⊢
    rw [printE_eq, mk_kind, mk_n, mk_name, mk_kids]
    unfold topP
    have h1 := itoa_len m
    have h2 := sgn_len k
    split
    · omega
    split
    · omega
    match ks with
    | [] => simp
    | [a] =>
      rw [nodesL, nodesL] at h ⊢
      have ha := print_len n a (by omega)
      simp only [List.map_cons, List.map_nil]
      split
      · simp only [List.length_append, List.length_cons, List.length_nil]; omega
      split
      · simp only [List.length_append, List.length_cons, List.length_nil]; omega
      · simp
    | [a, b] =>
      rw [nodesL, nodesL, nodesL] at h ⊢
      have ha := print_len n a (by omega)
      have hb := print_len n b (by omega)
      simp only [List.map_cons, List.map_nil]
      split
      · simp only [List.length_append, List.length_cons, List.length_nil]; omega
      · simp
    | a :: b :: c :: r => simp

theorem top_no {k n : Int} {s : List UInt8} {l : List (List UInt8)} (h1 : k ≠ 1) (h2 : k ≠ 2) (h3 : l.length = 1 → k ≠ 3 ∧ k ≠ 4) (h4 : l.length = 2 → ¬ (5 ≤ k ∧ k ≤ 11)) : topP k n s l = [] := by
  unfold topP
  rw [if_neg h1, if_neg h2]
  split
  · rw [if_neg (h3 rfl).1, if_neg (h3 rfl).2]
  · rw [if_neg (h4 rfl)]
  · rfl
theorem kinds_len (k : Nat) : (kinds k).length ≤ 1000000000 := by unfold kinds; split <;> decide
theorem print_meets : ∀ n : Nat, Meets Tryd.prog n_expr_Print (SpecP (fun e : OExpr => nodes e ≤ n ∧ nodes e ≤ 1048576) (fun e => [exprU e]) fun e => .str (printE e))
  | 0 => by
    refine meets_f tabOk Tryd.func21 rfl (by decide) fun e h => ?_
    have := nodes_pos e
    omega
  | n + 1 => by
    have ih := print_meets n
    refine meets_f tabOk Tryd.func21 rfl (by decide) ?_
    rintro e ⟨hn, hN⟩
    have hkl := kids_len e
    have hnl := name_len e
    refine ⟨Nat.le_refl _, by simp [Tryd.f21], fun E hE => ?_⟩
    have hP := printE_eq e
    have hone : ∀ a, e.kids = [a] → printE e = topP e.kind e.n e.name [printE a] := fun a h => by rw [hP, h]; rfl
    have htwo : ∀ a b, e.kids = [a, b] → printE e = topP e.kind e.n e.name [printE a, printE b] := fun a b h => by rw [hP, h]; rfl
    refine vcOk _ ?_
    (all_goals refine qgp ?_ <;> (repeat' first | exact trivial | intro hc | refine And.intro ?_ ?_) <;> refine Lf.mk ?_)
    · refine bit_mk and_32 ?_
      (all_goals refine qgp ?_ <;> (repeat' first | exact trivial | intro hc | refine And.intro ?_ ?_) <;> refine Lf.mk ?_)
      refine call_p itoa_meets (e.n % 4294967296) ⟨by omega, by omega⟩ (VS.mk (LeL.of_eq rfl)) ?_
      (all_goals refine qgp ?_ <;> (repeat' first | exact trivial | intro hc | refine And.intro ?_ ?_) <;> refine Lf.mk ?_)
      exact end_p (VS.mk (LeD.of_eq (congrArg D.str (by rw [hP]; unfold topP; rw [if_pos hc]))))
    · exact end_p (VS.mk (LeD.of_eq (congrArg D.str (by rw [hP]; unfold topP; rw [if_neg (by assumption), if_pos hc]))))
    · obtain ⟨a, ha⟩ := len_one (l := e.kids) (by omega)
      have hax := nodes_kid (e := e) (x := a) (by rw [ha]; exact List.mem_singleton.2 rfl)
      have hl := print_len (nodes a) a (Nat.le_refl _)
      refine ix_expr a (by omega) (by rw [ha]; rfl) ?_
      (all_goals refine qgp ?_ <;> (repeat' first | exact trivial | intro hc | refine And.intro ?_ ?_) <;> refine Lf.mk ?_)
      refine call_p ih a ⟨by omega, by omega⟩ (VS.mk (LeL.of_eq rfl)) ?_
      (all_goals refine qgp ?_ <;> (repeat' first | exact trivial | intro hc | refine And.intro ?_ ?_) <;> refine Lf.mk ?_)
      refine cat_mk (by simp only [List.length_cons, List.length_nil]; omega) ?_
      (all_goals refine qgp ?_ <;> (repeat' first | exact trivial | intro hc | refine And.intro ?_ ?_) <;> refine Lf.mk ?_)
      exact end_p (VS.mk (LeD.of_eq (congrArg D.str (by rw [hone a ha]; unfold topP; rw [if_neg (by omega), if_neg (by omega)]; dsimp only; rw [if_pos (by omega)]))))
    · obtain ⟨a, ha⟩ := len_one (l := e.kids) (by omega)
      have hax := nodes_kid (e := e) (x := a) (by rw [ha]; exact List.mem_singleton.2 rfl)
      have hl := print_len (nodes a) a (Nat.le_refl _)
      refine ix_expr a (by omega) (by rw [ha]; rfl) ?_
      (all_goals refine qgp ?_ <;> (repeat' first | exact trivial | intro hc | refine And.intro ?_ ?_) <;> refine Lf.mk ?_)
      refine call_p ih a ⟨by omega, by omega⟩ (VS.mk (LeL.of_eq rfl)) ?_
      (all_goals refine qgp ?_ <;> (repeat' first | exact trivial | intro hc | refine And.intro ?_ ?_) <;> refine Lf.mk ?_)
      refine cat_mk (by simp only [List.length_cons, List.length_nil]; omega) ?_
      (all_goals refine qgp ?_ <;> (repeat' first | exact trivial | intro hc | refine And.intro ?_ ?_) <;> refine Lf.mk ?_)
      exact end_p (VS.mk (LeD.of_eq (congrArg D.str (by rw [hone a ha]; unfold topP; rw [if_neg (by omega), if_neg (by omega)]; dsimp only; rw [if_neg (by omega), if_pos (by omega)]))))
    any_goals (exact end_p (VS.mk (LeD.of_eq (congrArg D.str (by rw [hP, top_no (by assumption) (by assumption) (by rw [List.length_map]; omega) (by rw [List.length_map]; omega)])))))
    refine call_p levels_meets () trivial (VS.mk (LeL.of_eq rfl)) ?_
    (all_goals refine qgp ?_ <;> (repeat' first | exact trivial | intro hc | refine And.intro ?_ ?_) <;> refine Lf.mk ?_)
    obtain ⟨a, b, hab⟩ := len_two (l := e.kids) (by omega)
    have hax := nodes_kid (e := e) (x := a) (by rw [hab]; exact List.mem_cons_self)
    have hbx := nodes_kid (e := e) (x := b) (by rw [hab]; exact List.mem_cons_of_mem _ List.mem_cons_self)
    have hla := print_len (nodes a) a (Nat.le_refl _)
    have hlb := print_len (nodes b) b (Nat.le_refl _)
    refine awp_loop (α := Nat) (fun k => k ≤ 5 ∧ ∀ j, j < k → idxI e.kind (kinds j) 0 < 0)
      (fun k => [(57, levsD), (58, .int .i64 5), (59, .int .i64 k), (1, .loc 0 0)])
      (fun _ => [.cells [.int .i64 e.kind, .int .i64 e.n, .str e.name, .sl 4 (e.kids.map exprD) none]]) (fun k => 5 - k) (fun _ => by simp [hE]) 0 ⟨Nat.zero_le _, fun j h => absurd h (Nat.not_lt_zero j)⟩ ?_ ?_
    · (repeat' (first | (refine VS.mk ?_) | exact trivial | exact rfl | refine And.intro ?_ ?_))
    rintro k ⟨hk, hf⟩
    refine vcOk _ ?_
    (all_goals refine qgp ?_ <;> (repeat' first | exact trivial | intro hc | refine And.intro ?_ ?_) <;> refine Lf.mk ?_)
    · refine ix_lev (by omega) ?_
      (all_goals refine qgp ?_ <;> (repeat' first | exact trivial | intro hc | refine And.intro ?_ ?_) <;> refine Lf.mk ?_)
      refine call_p indexI_meets (kinds k, e.kind) (kinds_len k) (VS.mk (LeL.of_eq rfl)) ?_
      (all_goals refine qgpn ?_ <;> (repeat' first | exact trivial | intro hc | refine And.intro ?_ ?_) <;> refine Lf.mk ?_)
      · have hs := sgn_at (by omega) hc
        have hsl := sgn_len e.kind
        refine dr_mk ?_
        (all_goals refine qgp ?_ <;> (repeat' first | exact trivial | intro hc | refine And.intro ?_ ?_) <;> refine Lf.mk ?_)
        refine ix_expr a (by omega) (by rw [hab]; rfl) ?_
        (all_goals refine qgp ?_ <;> (repeat' first | exact trivial | intro hc | refine And.intro ?_ ?_) <;> refine Lf.mk ?_)
        refine call_p ih a ⟨by omega, by omega⟩ (VS.mk (LeL.of_eq rfl)) ?_
        (all_goals refine qgp ?_ <;> (repeat' first | exact trivial | intro hc | refine And.intro ?_ ?_) <;> refine Lf.mk ?_)
        refine cat_mk (by simp only [List.length_cons, List.length_nil]; omega) ?_
        (all_goals refine qgp ?_ <;> (repeat' first | exact trivial | intro hc | refine And.intro ?_ ?_) <;> refine Lf.mk ?_)
        refine cat_mk (by simp only [List.length_append, List.length_cons, List.length_nil]; omega) ?_
        (all_goals refine qgp ?_ <;> (repeat' first | exact trivial | intro hc | refine And.intro ?_ ?_) <;> refine Lf.mk ?_)
        refine ix_map (sgnP e.kind) hc hs.2 ?_
        (all_goals refine qgp ?_ <;> (repeat' first | exact trivial | intro hc | refine And.intro ?_ ?_) <;> refine Lf.mk ?_)
        refine cat_mk (by simp only [List.length_append, List.length_cons, List.length_nil]; omega) ?_
        (all_goals refine qgp ?_ <;> (repeat' first | exact trivial | intro hc | refine And.intro ?_ ?_) <;> refine Lf.mk ?_)
        refine cat_mk (by simp only [List.length_append, List.length_cons, List.length_nil]; omega) ?_
        (all_goals refine qgp ?_ <;> (repeat' first | exact trivial | intro hc | refine And.intro ?_ ?_) <;> refine Lf.mk ?_)
        refine ix_expr b (by omega) (by rw [hab]; rfl) ?_
        (all_goals refine qgp ?_ <;> (repeat' first | exact trivial | intro hc | refine And.intro ?_ ?_) <;> refine Lf.mk ?_)
        refine call_p ih b ⟨by omega, by omega⟩ (VS.mk (LeL.of_eq rfl)) ?_
        (all_goals refine qgp ?_ <;> (repeat' first | exact trivial | intro hc | refine And.intro ?_ ?_) <;> refine Lf.mk ?_)
        refine cat_mk (by simp only [List.length_append, List.length_cons, List.length_nil]; omega) ?_
        (all_goals refine qgp ?_ <;> (repeat' first | exact trivial | intro hc | refine And.intro ?_ ?_) <;> refine Lf.mk ?_)
        refine cat_mk (by simp only [List.length_append, List.length_cons, List.length_nil]; omega) ?_
        (all_goals refine qgp ?_ <;> (repeat' first | exact trivial | intro hc | refine And.intro ?_ ?_) <;> refine Lf.mk ?_)
        exact end_p (VS.mk (LeD.of_eq (congrArg D.str (by rw [htwo a b hab]; unfold topP; rw [if_neg (by omega), if_neg (by omega)]; dsimp only; rw [if_pos hs.1]))))
      · have hf1 : ∀ j, j < k + 1 → idxI e.kind (kinds j) 0 < 0 := fun j hj => by
          by_cases h : j = k
          · subst h; omega
          · exact hf j (by omega)
        refine loop_end (k + 1) ⟨by omega, hf1⟩ (by omega) ?_
        (repeat' (first | (refine VS.mk ?_) | exact trivial | exact rfl | refine And.intro ?_ ?_))
    · exact end_p (VS.mk (LeD.of_eq (congrArg D.str (by rw [htwo a b hab, top_no (by assumption) (by assumption) (fun h => by cases h) (fun _ h => sgn_has h fun j hj => hf j (by omega))]))))
end Go.Proofs.YtholdembikenfaaDoor

/-
  The statements on expressions: what is asked first; and: a place is a place, and so much more.
-/
namespace Go.Proofs.YtholdembikenfaaDoor
open Go Go.Plat
open Go Go.Plat
set_option linter.unusedVariables false
set_option linter.unusedSimpArgs false
set_option maxRecDepth 100000
set_option maxHeartbeats 2000000
attribute [local irreducible] NilS LookS NormM bitI BytesS NormL Arith QuoS RemS ShlS ShrS BitS CatS SplitS SideS IdxS CallS LoopEnd EndS ModeS DrawS AWP Meets
attribute [local irreducible] signedI exprD nodes OExpr.kind OExpr.n OExpr.name OExpr.kids letterB digitB kindB nameB evalE evalL printE pRes

theorem num_meets : Meets Tryd.prog n_pllaw3_num (SpecP (fun _ : Int => True) (fun n => [.int .i64 n]) fun n => tokD ⟨2, n, []⟩) := by
  refine meets_f tabOk Tryd.func57 rfl (by decide) fun n _ => ?_
  refine ⟨Nat.le_refl _, by simp [Tryd.f57], fun E hE => ?_⟩
  refine vcOk _ ?_
  (all_goals refine qgo ?_ <;> (repeat' first | exact trivial | intro hc | refine And.intro ?_ ?_) <;> refine Lf.mk ?_)
  exact end_p (VS.mk (LeD.of_eq rfl))
theorem lawsign_meets : Meets Tryd.prog n_pllaw3_sign (SpecP (fun _ : List UInt8 => True) (fun s => [.str s]) fun s => tokD ⟨3, 0, s⟩) := by
  refine meets_f tabOk Tryd.func58 rfl (by decide) fun n _ => ?_
  refine ⟨Nat.le_refl _, by simp [Tryd.f58], fun E hE => ?_⟩
  refine vcOk _ ?_
  (all_goals refine qgo ?_ <;> (repeat' first | exact trivial | intro hc | refine And.intro ?_ ?_) <;> refine Lf.mk ?_)
  exact end_p (VS.mk (LeD.of_eq rfl))
theorem itoa_one {i : Nat} (h : i < 10) : Lib.itoa (i : Int) = [UInt8.ofNat (48 + i)] := by
  unfold Lib.itoa
  rw [if_neg (by omega), Int.toNat_natCast, Lib.decDigits_one h]
def e14 : OExpr := .mk 6 0 [] [.mk 1 2 [] [], .mk 5 0 [] [.mk 1 3 [] [], .mk 1 4 [] []]]
def toks14 : List OTok := [⟨2, 2, []⟩, ⟨3, 0, [43]⟩, ⟨2, 3, []⟩, ⟨3, 0, [42]⟩, ⟨2, 4, []⟩, ⟨3, 0, [44]⟩]
theorem alive_parse : pResD (pRes toks14) = .tup [exprU e14, .int .i64 5, .int .i64 0] := by kernel_rfl
theorem alive_eval : evalE [] e14 = (⟨[], 14⟩, 0) := by kernel_rfl
theorem alive_name : evalE [] (.mk 2 0 [97] []) = (⟨[97], 0⟩, 0) := by kernel_rfl
theorem alive_print : printE e14 = [40, 32, 50, 32, 43, 32, 40, 32, 51, 32, 42, 32, 52, 32, 41, 32, 41] := by
  have h : ∀ i : Nat, i < 10 → printE (.mk 1 i [] []) = [UInt8.ofNat (48 + i)] := fun i hi => by
    rw [printE_eq, mk_kind, mk_n]
    unfold topP
    rw [if_pos rfl, show ((i : Int) % 4294967296) = (i : Int) by omega, itoa_one hi]
  have h2 := h 2 (by decide)
  have h3 := h 3 (by decide)
  have h4 := h 4 (by decide)
  have hm : printE (.mk 5 0 [] [.mk 1 3 [] [], .mk 1 4 [] []]) = [40, 32, 51, 32, 42, 32, 52, 32, 41] := by
    rw [printE_eq, mk_kind, mk_n, mk_name, mk_kids, List.map_cons, List.map_cons, List.map_nil]
    rw [show printE (.mk 1 3 [] []) = [51] from h3, show printE (.mk 1 4 [] []) = [52] from h4]
    rfl
  unfold e14
  rw [printE_eq, mk_kind, mk_n, mk_name, mk_kids, List.map_cons, List.map_cons, List.map_nil, hm, show printE (.mk 1 2 [] []) = [50] from h2]
  rfl
theorem nodes14 : nodes e14 = 5 := by kernel_rfl
theorem nodesA : nodes (.mk 2 0 [97] []) = 2 := by kernel_rfl
theorem alive_meets : Meets Tryd.prog n_pllaw3_alive (SpecP (fun _ : Unit => True) (fun _ => []) fun _ => .bool true) := by
  refine meets_f tabOk Tryd.func18 rfl (by decide) fun _ _ => ?_
  refine ⟨Nat.le_refl _, by simp [Tryd.f18], fun E hE => ?_⟩
  refine vcOk _ ?_
  (all_goals refine qgp ?_ <;> (repeat' first | exact trivial | intro hc | refine And.intro ?_ ?_) <;> refine Lf.mk ?_)
  refine call_p num_meets 2 trivial (VS.mk (LeL.of_eq rfl)) ?_
  (all_goals refine qgp ?_ <;> (repeat' first | exact trivial | intro hc | refine And.intro ?_ ?_) <;> refine Lf.mk ?_)
  refine call_p lawsign_meets [43] trivial (VS.mk (LeL.of_eq rfl)) ?_
  (all_goals refine qgp ?_ <;> (repeat' first | exact trivial | intro hc | refine And.intro ?_ ?_) <;> refine Lf.mk ?_)
  refine call_p num_meets 3 trivial (VS.mk (LeL.of_eq rfl)) ?_
  (all_goals refine qgp ?_ <;> (repeat' first | exact trivial | intro hc | refine And.intro ?_ ?_) <;> refine Lf.mk ?_)
  refine call_p lawsign_meets [42] trivial (VS.mk (LeL.of_eq rfl)) ?_
  (all_goals refine qgp ?_ <;> (repeat' first | exact trivial | intro hc | refine And.intro ?_ ?_) <;> refine Lf.mk ?_)
  refine call_p num_meets 4 trivial (VS.mk (LeL.of_eq rfl)) ?_
  (all_goals refine qgp ?_ <;> (repeat' first | exact trivial | intro hc | refine And.intro ?_ ?_) <;> refine Lf.mk ?_)
  refine call_p lawsign_meets [44] trivial (VS.mk (LeL.of_eq rfl)) ?_
  (all_goals refine qgp ?_ <;> (repeat' first | exact trivial | intro hc | refine And.intro ?_ ?_) <;> refine Lf.mk ?_)
  refine call_p parse_meets toks14 (by decide) (VS.mk (LeL.of_eq rfl)) ?_
  rw [alive_parse]
  (all_goals refine qgp ?_ <;> (repeat' first | exact trivial | intro hc | refine And.intro ?_ ?_) <;> refine Lf.mk ?_)
  refine call_p (eval_meets [] (by decide) 5) e14 (by rw [nodes14]; decide) (VS.mk (.cons (.refl _) (.cons (.nil 2) .nil))) ?_
  rw [alive_eval]
  (all_goals refine qgp ?_ <;> (repeat' first | exact trivial | intro hc | refine And.intro ?_ ?_) <;> refine Lf.mk ?_)
  refine call_p (eval_meets [] (by decide) 5) (.mk 2 0 [97] []) (by rw [nodesA]; decide) (VS.mk (.cons (by rw [exprU_mk]; exact .agg (.cons (.refl _) (.cons (.refl _) (.cons (.refl _) (.cons (.nil 4) .nil))))) (.cons (.nil 2) .nil))) ?_
  rw [alive_name]
  (all_goals refine qgp ?_ <;> (repeat' first | exact trivial | intro hc | refine And.intro ?_ ?_) <;> refine Lf.mk ?_)
  all_goals first
    | exact (hc trivial).elim
    | skip
  refine eqS_flat [.str, .int .i64] (b := true) (by kernel_rfl) rfl ?_
  (all_goals refine qgp ?_ <;> (repeat' first | exact trivial | intro hc | refine And.intro ?_ ?_) <;> refine Lf.mk ?_)
  all_goals first
    | exact (hc trivial).elim
    | (exfalso; exact absurd hc (by decide))
    | skip
  refine call_p (print_meets 5) e14 (by rw [nodes14]; decide) (VS.mk (LeL.of_eq rfl)) ?_
  rw [alive_print]
  (all_goals refine qgp ?_ <;> (repeat' first | exact trivial | intro hc | refine And.intro ?_ ?_) <;> refine Lf.mk ?_)
  all_goals exact end_p (VS.mk (LeD.of_eq rfl))

theorem two_bad {k : Int} {a b : OVal} (h : (twoV k a b).2 ≠ 0) : (twoV k a b).1 = noVal := by
  unfold twoV at h ⊢
  split
  · rename_i h1; rw [if_pos h1] at h; exact absurd rfl h
  rename_i h1; rw [if_neg h1] at h
  split
  · rename_i h1; rw [if_pos h1] at h; exact absurd rfl h
  rename_i h1; rw [if_neg h1] at h
  split
  · rename_i h1; rw [if_pos h1] at h; exact absurd rfl h
  rename_i h1; rw [if_neg h1] at h
  split
  · rename_i h1; rw [if_pos h1] at h; exact absurd rfl h
  · rfl
theorem eval_bad {l : List OEqu} {e : OExpr} (h : (evalE l e).2 ≠ 0) : (evalE l e).1 = noVal := by
  rw [evalE_eq] at h ⊢
  cases hv : evalL l e.kids with
  | inl w => rfl
  | inr vs =>
    rw [hv] at h
    dsimp only at h ⊢
    unfold topV at h ⊢
    by_cases h1 : e.kind = 1 ∧ vs = []
    · rw [if_pos h1] at h; exact absurd rfl h
    rw [if_neg h1] at h ⊢
    by_cases h2 : e.kind = 2 ∧ vs = []
    · rw [if_pos h2] at h
      split at h <;> exact absurd rfl h
    rw [if_neg h2] at h ⊢
    rcases vs with _ | ⟨a, _ | ⟨b, _ | ⟨c, r⟩⟩⟩ <;> dsimp only at h ⊢
    · by_cases h3 : e.kind = 3 ∨ e.kind = 4
      · rw [if_pos h3] at h ⊢
        by_cases h4 : a.name = []
        · rw [if_pos h4] at h
          split at h <;> exact absurd rfl h
        · rw [if_neg h4]
      · rw [if_neg h3]
    · by_cases h3 : 5 ≤ e.kind ∧ e.kind ≤ 11
      · rw [if_pos h3] at h ⊢
        exact two_bad h
      · rw [if_neg h3]
theorem moves_meets : Meets Tryd.prog n_pllaw3_ExprMoves (SpecP (fun ((e, s, n) : OExpr × List UInt8 × Int) => nodes e ≤ 1048576 ∧ -9223372036854775808 ≤ n ∧ n ≤ 9223372036854775807) (fun (e, s, n) => [exprU e, .str s, .int .i64 n]) fun _ => .bool true) := by
  refine meets_f tabOk Tryd.func5 rfl (by decide) ?_
  rintro ⟨e, s, n⟩ ⟨hN, hn0, hn1⟩
  refine ⟨Nat.le_refl _, by simp [Tryd.f5], fun E hE => ?_⟩
  refine vcOk _ ?_
  (all_goals refine qgp ?_ <;> (repeat' first | exact trivial | intro hc | refine And.intro ?_ ?_) <;> refine Lf.mk ?_)
  refine call_p alive_meets () trivial (VS.mk (LeL.of_eq rfl)) ?_
  (all_goals refine qgp ?_ <;> (repeat' first | exact trivial | intro hc | refine And.intro ?_ ?_) <;> refine Lf.mk ?_)
  all_goals first
    | (exfalso; exact absurd hc (by decide))
    | exact end_p (VS.mk (LeD.tt rfl))
    | skip
  refine call_p (eval_meets [] (by decide) (nodes e)) e ⟨Nat.le_refl _, hN⟩ (VS.mk (.cons (.refl _) (.cons (.nil 2) .nil))) ?_
  have hok := eval_ok [] e
  have hbad := eval_bad (l := []) (e := e)
  have hmv := mov_eval (nm := s) (n := n) e
  have hok2 := eval_ok [⟨s, n⟩] e
  generalize evalE [] e = A at *
  obtain ⟨a, w⟩ := A
  dsimp only at hbad hmv hok
  (all_goals refine qgp ?_ <;> (repeat' first | exact trivial | intro hc | refine And.intro ?_ ?_) <;> refine Lf.mk ?_)
  · have ha := hbad hc
    subst ha
    refine eqS_flat [.str, .int .i64] (b := true) (by kernel_rfl) rfl ?_
    (all_goals refine qgp ?_ <;> (repeat' first | exact trivial | intro hc | refine And.intro ?_ ?_) <;> refine Lf.mk ?_)
    exact end_p (VS.mk (LeD.of_eq rfl))
  obtain ⟨hv0, hM⟩ := hmv hc
  refine call_p (eval_meets [⟨s, n⟩] (by simp) (nodes e)) e ⟨Nat.le_refl _, hN⟩ (VS.mk (LeL.of_eq rfl)) ?_
  generalize evalE [⟨s, n⟩] e = B at *
  obtain ⟨b, v⟩ := B
  dsimp only at hv0 hM hok2
  subst hv0
  have hs1 := hM.s32.1
  have hs2 := hM.s32.2
  (all_goals refine qgp ?_ <;> (repeat' first | exact trivial | intro hc | refine And.intro ?_ ?_) <;> refine Lf.mk ?_)
  · exact (hc trivial).elim
  refine call_p rsig_meets a.n trivial (VS.mk (LeL.of_eq rfl)) ?_
  rw [show signedI a.n 32 = a.n from by rw [signed_eq]; split <;> omega]
  (all_goals refine qgp ?_ <;> (repeat' first | exact trivial | intro hc | refine And.intro ?_ ?_) <;> refine Lf.mk ?_)
  · exact (hc trivial).elim
  · obtain rfl := hM.hit hc (by assumption)
    refine ar_i64 (by dsimp only; omega) (by dsimp only; omega) ?_
    (all_goals refine qgp ?_ <;> (repeat' first | exact trivial | intro hc | refine And.intro ?_ ?_) <;> refine Lf.mk ?_)
    refine call_p rsig_meets (a.n + n) trivial (VS.mk (LeL.of_eq rfl)) ?_
    (all_goals refine qgp ?_ <;> (repeat' first | exact trivial | intro hc | refine And.intro ?_ ?_) <;> refine Lf.mk ?_)
    refine eqS_flat [.str, .int .i64] (by kernel_rfl) rfl ?_
    (all_goals refine qgp ?_ <;> (repeat' first | exact trivial | intro hc | refine And.intro ?_ ?_) <;> refine Lf.mk ?_)
    refine end_p (VS.mk (LeD.of_eq (congrArg D.bool ?_)))
    show (_ && ((signedI (a.n + n) 32 == signedI (a.n + n) 32) && true)) = true
    simp
  · have e1 := hM.none hc
    exact end_p (VS.mk (LeD.of_eq (congrArg D.bool (by dsimp only; rw [e1]; exact beq_self_eq_true _))))
  · have e1 : b.name = a.name := by
      by_cases h : s = []
      · exact hM.none h
      · rw [hM.miss h hc]
    exact end_p (VS.mk (LeD.of_eq (congrArg D.bool (by dsimp only; rw [e1]; exact beq_self_eq_true _))))
end Go.Proofs.YtholdembikenfaaDoor
