/-
  Calls that are handed owned objects, or make some: the callee's numbers, and back.
-/
import Derived.Test.YtgmlcpmkonagcaaPlWeak
namespace Go.Plat
open Go
set_option linter.unusedVariables false
set_option linter.unusedSimpArgs false

def nthO : List Nat → Nat → Option Nat
  | [], _ => none
  | j :: _, 0 => some j
  | _ :: js, i + 1 => nthO js i

theorem nthO_eq : ∀ (js : List Nat) (i : Nat), nthO js i = js[i]?
  | [], i => by simp [nthO]
  | j :: js, 0 => by simp [nthO]
  | j :: js, i + 1 => by simpa [nthO] using nthO_eq js i

/-- from n on, one behind the other -/
def fromB : List Nat → Nat → Bool
  | [], _ => true
  | j :: js, n => match Nat.beq j n with
    | true => fromB js (n + 1)
    | false => false

theorem fromB_eq : ∀ {js : List Nat} {n : Nat}, fromB js n = true → ∀ (i : Nat) j, js[i]? = some j → j = n + i
  | [], n, _, i, j, h => by simp at h
  | a :: js, n, h, i, j, hj => by
    simp only [fromB] at h
    split at h
    · rename_i hb
      have := Nat.eq_of_beq_eq_true hb
      cases i with
      | zero => simp at hj; omega
      | succ i => have := fromB_eq h i j (by simpa using hj); omega
    · cases h

/-- back: the first ones where they came from, the others behind all -/
def bringK (m : Nat → Option Nat) : List Nat → List Ob → List Ob → (List Ob → Prop) → Prop :=
  @List.rec Nat (fun _ => List Ob → List Ob → (List Ob → Prop) → Prop)
    (fun L1 L K => @List.rec Ob (fun _ => (List Ob → Prop) → Prop) (fun K => K []) (fun o _ ih K => renObK m o fun o => ih fun r => K (o :: r)) L1 fun r => K (L ++ r))
    (fun k _ ih L1 L K => match L1 with
      | [] => False
      | o :: L1 => renObK m o fun o => setLK k o L fun L => ih L1 L K)

def renAllK (m : Nat → Option Nat) : List Ob → (List Ob → Prop) → Prop :=
  @List.rec Ob (fun _ => (List Ob → Prop) → Prop) (fun K => K []) (fun o _ ih K => renObK m o fun o => ih fun r => K (o :: r))

theorem renAllK_eq {m : Nat → Option Nat} : ∀ {L : List Ob} {K : List Ob → Prop}, renAllK m L K → ∃ L', K L' ∧ L'.length = L.length ∧ ∀ (i : Nat) o o', L[i]? = some o → L'[i]? = some o' → ObRen m o o'
  | [], K, h => ⟨[], h, rfl, by simp⟩
  | o :: L, K, h => by
    change renObK m o (fun o => renAllK m L fun r => K (o :: r)) at h
    obtain ⟨o', h1, h2⟩ := renObK_eq h
    obtain ⟨L', h3, h4, h5⟩ := renAllK_eq h2
    refine ⟨_, h3, by simp [h4], fun i a b ha hb => ?_⟩
    cases i with
    | zero => simp at ha hb; subst ha; subst hb; exact h1
    | succ i => exact h5 i a b (by simpa using ha) (by simpa using hb)

theorem bringK_nil {m : Nat → Option Nat} {L1 L : List Ob} {K : List Ob → Prop} : bringK m [] L1 L K = renAllK m L1 fun r => K (L ++ r) := rfl
theorem bringK_cons {m : Nat → Option Nat} {k : Nat} {ks : List Nat} {o : Ob} {L1 L : List Ob} {K : List Ob → Prop} : bringK m (k :: ks) (o :: L1) L K = renObK m o fun o => setLK k o L fun L => bringK m ks L1 L K := rfl

theorem bringK_eq {m : Nat → Option Nat} : ∀ {ks : List Nat} {L1 L : List Ob} {K : List Ob → Prop}, nodupB ks = true → (∀ k ∈ ks, k < L.length) → bringK m ks L1 L K →
    ∃ L', K L' ∧ ks.length ≤ L1.length ∧ L'.length = L.length + (L1.length - ks.length) ∧
      (∀ k, k < L.length → k ∉ ks → L'[k]? = L[k]?) ∧
      (∀ (i k : Nat), ks[i]? = some k → ∃ o o', L1[i]? = some o ∧ L'[k]? = some o' ∧ ObRen m o o') ∧
      (∀ (i : Nat) o, L1[ks.length + i]? = some o → ∃ o', L'[L.length + i]? = some o' ∧ ObRen m o o')
  | [], L1, L, K, _, _, h => by
    rw [bringK_nil] at h
    obtain ⟨R, h1, h2, h3⟩ := renAllK_eq h
    refine ⟨_, h1, Nat.zero_le _, by simp [h2], fun k hk _ => by rw [List.getElem?_append_left hk], by simp, fun i o ho => ?_⟩
    simp only [List.length_nil, Nat.zero_add] at ho
    have hi : i < R.length := by rw [h2]; exact (List.getElem?_eq_some_iff.1 ho).1
    refine ⟨R[i], ?_, h3 i o _ ho (List.getElem?_eq_getElem hi)⟩
    rw [List.getElem?_append_right (by omega), Nat.add_sub_cancel_left, List.getElem?_eq_getElem hi]
  | k :: ks, [], L, K, _, _, h => h.elim
  | k :: ks, o :: L1, L, K, hnd, hlt, h => by
    rw [bringK_cons] at h
    obtain ⟨o', h1, h2⟩ := renObK_eq h
    have h2 := setLK_eq h2
    have hk : k ∉ ks := by
      simp only [nodupB] at hnd
      split at hnd
      · cases hnd
      · rename_i hm; exact memB_mem hm
    have hnd' : nodupB ks = true := by
      simp only [nodupB] at hnd
      split at hnd
      · cases hnd
      · exact hnd
    obtain ⟨L', h3, h4, h5, h6, h7, h8⟩ := bringK_eq hnd' (fun j hj => by rw [List.length_set]; exact hlt j (List.mem_cons_of_mem _ hj)) h2
    simp only [List.length_set] at h5 h6 h8
    have hkl := hlt k (by simp)
    refine ⟨L', h3, by simp; omega, by simp only [List.length_cons]; omega, fun j hj hjk => ?_, fun i j hij => ?_, fun i x hx => h8 i x (by simpa [Nat.add_right_comm] using hx)⟩
    · rw [h6 j hj (fun h => hjk (List.mem_cons_of_mem _ h)), List.getElem?_set_ne (fun e => hjk (by simp [e]))]
    · cases i with
      | zero =>
        simp at hij
        subst hij
        exact ⟨o, o', by simp, by rw [h6 k hkl hk, List.getElem?_set_self hkl], h1⟩
      | succ i =>
        obtain ⟨a, b, h9, h10, h11⟩ := h7 i j (by simpa using hij)
        exact ⟨a, b, by simpa using h9, h10, h11⟩

/-- the object's kind stays under other numbers -/
theorem ObRen.cells_inv {m : Nat → Option Nat} {o : Ob} {ds : List D} (h : ObRen m o (.cells ds)) : ∃ ds', o = .cells ds' := by
  cases o <;> simp only [ObRen] at h
  · exact ⟨_, rfl⟩
  · obtain ⟨_, h, _⟩ := h; cases h
  · cases h
  · cases h.1
  · cases h
theorem ObRen.map_inv {m : Nat → Option Nat} {o : Ob} {ds : List (D × D)} (h : ObRen m o (.map ds)) : o = .map ds := by
  cases o <;> simp only [ObRen] at h
  · obtain ⟨_, h, _⟩ := h; cases h
  · obtain ⟨_, h, _⟩ := h; cases h
  · cases h
  · rw [h.1]
  · cases h
theorem ObRen.spare_inv {m : Nat → Option Nat} {o : Ob} {n : Nat} (h : ObRen m o (.spare n)) : o = .spare n := by
  cases o <;> simp only [ObRen] at h
  · obtain ⟨_, h, _⟩ := h; cases h
  · obtain ⟨_, h, _⟩ := h; cases h
  · rw [h]
  · cases h.1
  · cases h
theorem ObRen.arr_inv {m : Nat → Option Nat} {o : Ob} {e : Nat} {ds : List D} (h : ObRen m o (.arr e ds)) : ∃ ds', o = .arr e ds' ∧ ds'.length = ds.length := by
  cases o <;> simp only [ObRen] at h
  · obtain ⟨_, h, _⟩ := h; cases h
  · obtain ⟨_, h, h1, _⟩ := h; cases h; exact ⟨_, rfl, h1⟩
  · cases h
  · cases h.1
  · cases h

theorem renOk_of {m : Nat → Option Nat} {ρ : Pl} {L : List Ob} {ρ' : Pl} {L' : List Ob}
    (h : ∀ k k', m k = some k' → k < L.length → ρ' k' = ρ k ∧ ∃ o o', L[k]? = some o ∧ L'[k']? = some o' ∧ ObRen m o o') : RenOk m ρ L ρ' L' := by
  refine ⟨fun k k' h1 h2 => ?_, fun k k' h1 h2 => (h k k' h1 h2).1, fun k k' ds h1 h2 h3 => ?_, fun k k' ds h1 h2 h3 => ?_, fun k k' n h1 h2 h3 => ?_, fun k k' e ds h1 h2 h3 => ?_⟩
  all_goals obtain ⟨_, o, o', g1, g2, g3⟩ := h k k' h1 h2
  · exact (List.getElem?_eq_some_iff.1 g2).1
  all_goals
    rw [h3] at g2
    cases g2
  · obtain ⟨ds', rfl⟩ := g3.cells_inv; exact ⟨_, g1⟩
  · have := g3.map_inv; subst this; exact ⟨_, g1⟩
  · have := g3.spare_inv; subst this; exact g1
  · obtain ⟨ds', rfl, h4⟩ := g3.arr_inv; exact ⟨_, g1, h4⟩

/-- a call that is handed the objects ks; behind it they are js (ks, and new ones) -/
theorem frame_call {P : Program} {f : Nat} {spec : Spec} (hm : Meets P f spec) {ks js : List Nat} {as as1 : List D} {L L1 : List Ob} {d1 d : D} {L1' L' : List Ob}
    (hnd : nodupB ks = true) (hks : ∀ k ∈ ks, k < L.length) (hjs : ∀ i, i < ks.length → js[i]? = ks[i]?) (hjn : ∀ (i : Nat) j, js[ks.length + i]? = some j → j = L.length + i)
    (has : RenLOf (keepAt ks 0) as as1) (hL1 : L1.length = ks.length) (hL1o : ∀ (i : Nat) o', L1[i]? = some o' → ∃ j o, ks[i]? = some j ∧ L[j]? = some o ∧ ObRen (keepAt ks 0) o o')
    (hs : spec as1 L1 d1 L1') (hd : RenOf (nthO js) d1 d)
    (hle : ks.length ≤ L1'.length) (hlen : L'.length = L.length + (L1'.length - ks.length))
    (hsame : ∀ k, k < L.length → k ∉ ks → L'[k]? = L[k]?)
    (hback : ∀ (i k : Nat), ks[i]? = some k → ∃ o o', L1'[i]? = some o ∧ L'[k]? = some o' ∧ ObRen (nthO js) o o')
    (hnew : ∀ (i : Nat) o, L1'[ks.length + i]? = some o → ∃ o', L'[L.length + i]? = some o' ∧ ObRen (nthO js) o o')
    {w : World} {ρ : Pl} {vs : List Value} (hf : Fits w ρ L) (hr : RepL w (foot ρ L) ρ L as vs) :
    Calls P f vs.toArray w fun e w' => ∃ v ρ', e = .returned v ∧ Post w ρ L d L' v w' ρ' := by
  have hnd := nodupB_eq hnd
  have hkeep : ∀ k k', keepAt ks 0 k = some k' → ks[k']? = some k := fun k k' h => by
    have := (keepAt_get h).2
    simpa using this
  have hmem : ∀ {k : Nat}, k ∈ ks → ∃ i, ks[i]? = some k := fun h => by
    obtain ⟨i, hi, rfl⟩ := List.getElem_of_mem h
    exact ⟨i, List.getElem?_eq_getElem hi⟩
  -- the callee's view
  let F1 : Nat → Nat → Prop := fun b off => ∃ k o, k ∉ ks ∧ L[k]? = some o ∧ o.owns (ρ k) b off
  let ρ1 : Pl := ⟨fun i => ρ ((ks[i]?).getD 0), fun b off => F1 b off ∨ ρ.hid b off⟩
  have hρ1 : ∀ i j, ks[i]? = some j → ρ1 i = ρ j := fun i j h => by show ρ ((ks[i]?).getD 0) = ρ j; rw [h]; rfl
  have hF1 : ∀ b off, F1 b off → own ρ L b off := fun b off ⟨k, o, _, h1, h2⟩ => ⟨k, o, h1, h2⟩
  have hown1 : ∀ b off, own ρ1 L1 b off → own ρ L b off ∧ ¬ F1 b off := by
    rintro b off ⟨i, o', h1, h2⟩
    obtain ⟨j, o, h3, h4, h5⟩ := hL1o i o' h1
    rw [hρ1 _ _ h3] at h2
    have h2 := (h5.owns _ _ _).1 h2
    refine ⟨⟨j, o, h4, h2⟩, fun ⟨k, x, h6, h7, h8⟩ => ?_⟩
    have := hf.disj _ _ _ _ _ _ h4 h7 h2 h8
    subst this
    exact h6 (List.mem_of_getElem? h3)
  have hfoot1 : ∀ b off, foot ρ1 L1 b off → foot ρ L b off := by
    rintro b off (h | h | h)
    · exact .inl (hown1 _ _ h).1
    · exact .inl (hF1 _ _ h)
    · exact .inr h
  have hren1 : RenOk (keepAt ks 0) ρ L ρ1 L1 := renOk_of fun k k' h1 h2 => by
    have hk := hkeep _ _ h1
    have hlt : k' < L1.length := by rw [hL1]; exact (List.getElem?_eq_some_iff.1 hk).1
    obtain ⟨j, o, h3, h4, h5⟩ := hL1o k' _ (List.getElem?_eq_getElem hlt)
    rw [hk] at h3
    cases h3
    exact ⟨hρ1 _ _ hk, o, _, h4, List.getElem?_eq_getElem hlt, h5⟩
  have hfits1 : Fits w ρ1 L1 := by
    refine ⟨fun b off h => ?_, fun b off h h' => ?_, fun i o' hi => ?_, fun i i' o o' b off h1 h2 h3 h4 => ?_⟩
    · rcases h with h | h
      · exact hf.foot_lt (.inl (hF1 _ _ h))
      · exact hf.hid _ _ h
    · rcases h' with h' | h'
      · exact (hown1 _ _ h).2 h'
      · exact hf.sep _ _ (hown1 _ _ h).1 h'
    · obtain ⟨j, o, h3, h4, h5⟩ := hL1o i o' hi
      rw [hρ1 _ _ h3]
      exact (hf.obj j o h4).ren hren1 hfoot1 h5
    · obtain ⟨j, x, h5, h6, h7⟩ := hL1o i o h1
      obtain ⟨j', x', k5, k6, k7⟩ := hL1o i' o' h2
      rw [hρ1 _ _ h5] at h3
      rw [hρ1 _ _ k5] at h4
      have := hf.disj j j' x x' b off h6 k6 ((h7.owns _ _ _).1 h3) ((k7.owns _ _ _).1 h4)
      subst this
      exact hnd _ _ _ h5 k5
  have hrep1 : RepL w (foot ρ1 L1) ρ1 L1 as1 vs := ⟨hr.1.trans has.1, fun i d v h1 h2 => by
    have hlt : i < as.length := by rw [has.1]; exact (List.getElem?_eq_some_iff.1 h1).1
    exact has.2 i _ d (List.getElem?_eq_getElem hlt) h1 _ _ _ _ _ _ _ _ hren1 hfoot1 (hr.2 i _ v (List.getElem?_eq_getElem hlt) h2)⟩
  refine (hm.2 as1 L1 d1 L1' hs w ρ1 vs hfits1 hrep1).mono ?_
  rintro e w' ⟨v, ρ1', he, hp⟩
  -- the caller's view behind it
  let ρ' : Pl := ⟨fun k => match keepAt ks 0 k with | some i => ρ1' i | none => if k < L.length then ρ k else ρ1' (ks.length + (k - L.length)), ρ.hid⟩
  have hkn : ∀ k, k ∉ ks → keepAt ks 0 k = none := fun k hk => by
    cases h : keepAt ks 0 k with
    | none => rfl
    | some i => exact (hk (List.mem_of_getElem? (hkeep _ _ h))).elim
  have hkeepAt : ∀ i k, ks[i]? = some k → keepAt ks 0 k = some i := fun i k h => by
    have : ∀ (js : List Nat) (q : Nat), k ∈ js → ∃ r, keepAt js q k = some r := by
      intro js
      induction js with
      | nil => intro q h; simp at h
      | cons a js ih =>
        intro q h
        simp only [keepAt]
        split
        · exact ⟨_, rfl⟩
        · rename_i hb
          refine ih _ ((List.mem_cons.1 h).resolve_left fun e => ?_)
          subst e
          simp at hb
    obtain ⟨r, hr⟩ := this ks 0 (List.mem_of_getElem? h)
    rw [hr, hnd _ _ _ (hkeep _ _ hr) h]
  have hp1 : ∀ i k, ks[i]? = some k → ρ' k = ρ1' i := fun i k h => by
    show (match keepAt ks 0 k with | some i => ρ1' i | none => if k < L.length then ρ k else ρ1' (ks.length + (k - L.length))) = ρ1' i
    rw [hkeepAt _ _ h]
  have hp2 : ∀ k, k ∉ ks → k < L.length → ρ' k = ρ k := fun k h1 h2 => by
    show (match keepAt ks 0 k with | some i => ρ1' i | none => if k < L.length then ρ k else ρ1' (ks.length + (k - L.length))) = ρ k
    rw [hkn _ h1]; simp [h2]
  have hp3 : ∀ i, ρ' (L.length + i) = ρ1' (ks.length + i) := fun i => by
    show (match keepAt ks 0 (L.length + i) with | some i => ρ1' i | none => if L.length + i < L.length then ρ (L.length + i) else ρ1' (ks.length + (L.length + i - L.length))) = _
    rw [hkn _ (fun h => by have := hks _ h; omega)]
    show (if L.length + i < L.length then ρ (L.length + i) else ρ1' (ks.length + (L.length + i - L.length))) = _
    rw [if_neg (by omega), Nat.add_sub_cancel_left]
  -- where each object of the caller comes from
  have hfrom : ∀ (k : Nat) o, L'[k]? = some o → (k < L.length ∧ k ∉ ks ∧ L[k]? = some o ∧ ρ' k = ρ k) ∨ (∃ i o1, L1'[i]? = some o1 ∧ ObRen (nthO js) o1 o ∧ ρ' k = ρ1' i ∧ ((i < ks.length ∧ ks[i]? = some k) ∨ (ks.length ≤ i ∧ k = L.length + (i - ks.length)))) := by
    intro k o hk
    rcases Nat.lt_or_ge k L.length with hlt | hge
    · rcases Classical.em (k ∈ ks) with hin | hin
      · obtain ⟨i, hi⟩ := hmem hin
        obtain ⟨o1, o', h1, h2, h3⟩ := hback i k hi
        rw [hk] at h2
        cases h2
        exact .inr ⟨i, o1, h1, h3, hp1 _ _ hi, .inl ⟨(List.getElem?_eq_some_iff.1 hi).1, hi⟩⟩
      · rw [hsame k hlt hin] at hk
        exact .inl ⟨hlt, hin, hk, hp2 k hin hlt⟩
    · have hkl := (List.getElem?_eq_some_iff.1 hk).1
      obtain ⟨i, rfl⟩ : ∃ i, k = L.length + i := ⟨k - L.length, by omega⟩
      have hil : ks.length + i < L1'.length := by omega
      obtain ⟨o', h1, h2⟩ := hnew i _ (List.getElem?_eq_getElem hil)
      rw [hk] at h1
      cases h1
      exact .inr ⟨ks.length + i, _, List.getElem?_eq_getElem hil, h2, hp3 i, .inr ⟨by omega, by omega⟩⟩
  have hto : ∀ (i : Nat) o1, L1'[i]? = some o1 → ∃ k o, L'[k]? = some o ∧ ObRen (nthO js) o1 o ∧ ρ' k = ρ1' i ∧ ((i < ks.length ∧ ks[i]? = some k) ∨ (ks.length ≤ i ∧ k = L.length + (i - ks.length))) := by
    intro i o1 hi
    rcases Nat.lt_or_ge i ks.length with hlt | hge
    · have hki := List.getElem?_eq_getElem hlt
      obtain ⟨o, o', h1, h2, h3⟩ := hback i _ hki
      rw [hi] at h1
      cases h1
      exact ⟨_, o', h2, h3, hp1 _ _ hki, .inl ⟨hlt, hki⟩⟩
    · obtain ⟨q, rfl⟩ : ∃ q, i = ks.length + q := ⟨i - ks.length, by omega⟩
      obtain ⟨o', h1, h2⟩ := hnew q o1 hi
      exact ⟨_, o', h1, h2, hp3 q, .inr ⟨by omega, by omega⟩⟩
  have hown' : ∀ b off, own ρ' L' b off → F1 b off ∨ own ρ1' L1' b off := by
    rintro b off ⟨k, o, h1, h2⟩
    rcases hfrom k o h1 with ⟨_, h3, h4, h5⟩ | ⟨i, o1, h3, h4, h5, _⟩
    · rw [h5] at h2; exact .inl ⟨k, o, h3, h4, h2⟩
    · rw [h5] at h2; exact .inr ⟨i, o1, h3, (h4.owns _ _ _).1 h2⟩
  have hownB : ∀ b off, F1 b off ∨ own ρ1' L1' b off → own ρ' L' b off := by
    rintro b off (⟨k, o, h1, h2, h3⟩ | ⟨i, o1, h1, h2⟩)
    · have hlt := (List.getElem?_eq_some_iff.1 h2).1
      exact ⟨k, o, by rw [hsame k hlt h1, h2], by rw [hp2 k h1 hlt]; exact h3⟩
    · obtain ⟨k, o, h3, h4, h5, _⟩ := hto i o1 h1
      exact ⟨k, o, h3, by rw [h5]; exact (h4.owns _ _ _).2 h2⟩
  have hhid1 : ∀ b off, ρ1'.hid b off ↔ F1 b off ∨ ρ.hid b off := fun b off => by rw [hp.compat.hid]
  have hfoot' : ∀ b off, foot ρ' L' b off → foot ρ1' L1' b off := by
    rintro b off (h | h)
    · rcases hown' _ _ h with h | h
      · exact .inr ((hhid1 _ _).2 (.inl h))
      · exact .inl h
    · exact .inr ((hhid1 _ _).2 (.inr h))
  have hm' : ∀ i k, nthO js i = some k → i < L1'.length → (i < ks.length ∧ ks[i]? = some k) ∨ (ks.length ≤ i ∧ k = L.length + (i - ks.length)) := fun i k h1 h2 => by
    rw [nthO_eq] at h1
    rcases Nat.lt_or_ge i ks.length with hlt | hge
    · rw [hjs i hlt] at h1; exact .inl ⟨hlt, h1⟩
    · refine .inr ⟨hge, hjn (i - ks.length) k ?_⟩
      rw [show ks.length + (i - ks.length) = i by omega]; exact h1
  have hren' : RenOk (nthO js) ρ1' L1' ρ' L' := renOk_of fun i k h1 h2 => by
    obtain ⟨k', o, h3, h4, h5, h6⟩ := hto i _ (List.getElem?_eq_getElem h2)
    have : k' = k := by
      rcases hm' i k h1 h2 with ⟨a, b⟩ | ⟨a, b⟩ <;> rcases h6 with ⟨c, d⟩ | ⟨c, d⟩
      · rw [b] at d; cases d; rfl
      · omega
      · omega
      · omega
    subst this
    exact ⟨h5, _, o, List.getElem?_eq_getElem h2, h3, h4⟩
  have hc : Compat ρ L ρ' L' := by
    have get : ∀ (k : Nat) o', k < L.length → L'[k]? = some o' → (L[k]? = some o' ∧ ρ' k = ρ k) ∨ ∃ i o o1 o2, ks[i]? = some k ∧ i < L1.length ∧ L[k]? = some o ∧ L1[i]? = some o1 ∧ ObRen (keepAt ks 0) o o1 ∧ L1'[i]? = some o2 ∧ ObRen (nthO js) o2 o' ∧ ρ' k = ρ1' i ∧ ρ1 i = ρ k := by
      intro k o' hk h
      rcases hfrom k o' h with ⟨_, _, h3, h4⟩ | ⟨i, o2, h3, h4, h5, h6⟩
      · exact .inl ⟨h3, h4⟩
      · rcases h6 with ⟨h6, h7⟩ | ⟨h6, h7⟩
        · have hi1 : i < L1.length := by omega
          obtain ⟨j, o, h8, h9, h10⟩ := hL1o i _ (List.getElem?_eq_getElem hi1)
          rw [h7] at h8
          cases h8
          exact .inr ⟨i, o, _, o2, h7, hi1, h9, List.getElem?_eq_getElem hi1, h10, h3, h4, h5, hρ1 _ _ h7⟩
        · omega
    refine ⟨rfl, by omega, fun k ds' hk h => ?_, fun k ds' hk h => ?_, fun k n hk h => ?_, fun k e ds' hk h => ?_⟩
    all_goals rcases get k _ hk h with ⟨h1, h2⟩ | ⟨i, o, o1, o2, g1, g2, g3, g4, g5, g6, g7, g8, g9⟩
    · exact ⟨_, h1, h2⟩
    · obtain ⟨d2, rfl⟩ := g7.cells_inv
      obtain ⟨d3, h3, h4⟩ := hp.compat.cells i d2 g2 g6
      rw [g4] at h3; cases h3
      obtain ⟨d4, rfl⟩ := g5.cells_inv
      exact ⟨d4, g3, by rw [g8, h4, g9]⟩
    · exact ⟨_, h1, h2⟩
    · have := g7.map_inv
      subst this
      obtain ⟨d3, h3, h4⟩ := hp.compat.map i _ g2 g6
      rw [g4] at h3; cases h3
      have := g5.map_inv
      subst this
      exact ⟨_, g3, by rw [g8, h4, g9]⟩
    · exact ⟨_, h1, Nat.le_refl _, fun _ => h2⟩
    · have := g7.spare_inv
      subst this
      obtain ⟨n3, h3, h4, h5⟩ := hp.compat.spare i _ g2 g6
      rw [g4] at h3; cases h3
      have := g5.spare_inv
      subst this
      exact ⟨_, g3, h4, fun e => by rw [g8, h5 e, g9]⟩
    · exact ⟨_, h1, Nat.le_refl _, fun _ => h2⟩
    · obtain ⟨d2, rfl, l2⟩ := g7.arr_inv
      obtain ⟨d3, h3, h4, h5⟩ := hp.compat.arr i _ _ g2 g6
      rw [g4] at h3; cases h3
      obtain ⟨d4, rfl, l4⟩ := g5.arr_inv
      exact ⟨d4, g3, by omega, fun e => by rw [g8, h5 (by omega), g9]⟩
  have hfresh : Fresh w (own ρ L) (own ρ' L') := fun b off h => by
    rcases hown' _ _ h with h | h
    · exact .inl (hF1 _ _ h)
    · rcases hp.fresh b off h with h | h
      · exact .inl (hown1 _ _ h).1
      · exact .inr h
  have hsep : ∀ b off, F1 b off → own ρ1' L1' b off → False := fun b off h1 h2 => hp.fits.sep b off h2 ((hhid1 _ _).2 (.inl h1))
  refine ⟨v, ρ', he, ?_, ?_, hp.ext.mono fun b off _ h => (hown1 _ _ h).1, hfresh, hc⟩
  · refine hf.change (own ρ1 L1) (fun b off h => (hown1 _ _ h).1) hp.ext hc hfresh (fun k k' o o' b off h1 h2 h3 h4 => ?_) fun k o hk => ?_
    · rcases hfrom k o h1 with ⟨a1, a2, a3, a4⟩ | ⟨i, o1, a1, a2, a3, a4⟩ <;> rcases hfrom k' o' h2 with ⟨b1, b2, b3, b4⟩ | ⟨i', o1', b1, b2, b3, b4⟩
      · rw [a4] at h3; rw [b4] at h4
        exact hf.disj _ _ _ _ _ _ a3 b3 h3 h4
      · rw [a4] at h3; rw [b3] at h4
        exact (hsep b off ⟨k, o, a2, a3, h3⟩ ⟨i', o1', b1, (b2.owns _ _ _).1 h4⟩).elim
      · rw [a3] at h3; rw [b4] at h4
        exact (hsep b off ⟨k', o', b2, b3, h4⟩ ⟨i, o1, a1, (a2.owns _ _ _).1 h3⟩).elim
      · rw [a3] at h3; rw [b3] at h4
        have := hp.fits.disj _ _ _ _ _ _ a1 b1 ((a2.owns _ _ _).1 h3) ((b2.owns _ _ _).1 h4)
        subst this
        rcases a4 with ⟨c1, c2⟩ | ⟨c1, c2⟩ <;> rcases b4 with ⟨d1, d2⟩ | ⟨d1, d2⟩
        · rw [c2] at d2; cases d2; rfl
        · omega
        · omega
        · omega
    · rcases hfrom k o hk with ⟨a1, a2, a3, a4⟩ | ⟨i, o1, a1, a2, a3, a4⟩
      · exact .inl ⟨a1, a3, a4, fun b off h h' => (hown1 _ _ h').2 ⟨k, o, a2, a3, h⟩⟩
      · refine .inr ?_
        rw [a3]
        exact (hp.fits.obj i o1 a1).ren hren' hfoot' a2
  · exact hd _ _ _ _ _ _ _ _ hren' hfoot' hp.rep

/-- js goes on behind ks with n, n + 1, .. -/
def prefB : List Nat → List Nat → Nat → Bool
  | [], js, n => fromB js n
  | _ :: _, [], _ => false
  | k :: ks, j :: js, n => match Nat.beq j k with
    | true => prefB ks js n
    | false => false

theorem prefB_eq : ∀ {ks js : List Nat} {n : Nat}, prefB ks js n = true → (∀ i, i < ks.length → js[i]? = ks[i]?) ∧ ∀ (i : Nat) j, js[ks.length + i]? = some j → j = n + i
  | [], js, n, h => ⟨fun i hi => by simp at hi, fun i j hj => fromB_eq h i j (by simpa using hj)⟩
  | k :: ks, [], n, h => by simp [prefB] at h
  | k :: ks, j :: js, n, h => by
    simp only [prefB] at h
    split at h
    · rename_i hb
      have := Nat.eq_of_beq_eq_true hb
      subst this
      obtain ⟨h1, h2⟩ := prefB_eq h
      refine ⟨fun i hi => ?_, fun i a ha => h2 i a ?_⟩
      · cases i with
        | zero => simp
        | succ i => simpa using h1 i (by simpa using hi)
      · rw [List.length_cons, Nat.add_right_comm, List.getElem?_cons_succ] at ha
        exact ha
    · cases h

/-- a call that is handed the objects ks; behind it the callee's objects are js -/
theorem call_own {P : Program} {f : Nat} {spec : Spec} {as : List D} {L : List Ob} {KP : D → Prop} {KW : D → List Ob → Prop} (hm : Meets P f spec) (ks js : List Nat)
    (hnd : nodupB ks = true) (hjs : prefB ks js L.length = true)
    (h : renLK (keepAt ks 0) as fun as1 => keepK (keepAt ks 0) ks L fun L1 => VS (∃ d1 L1', spec as1 L1 d1 L1' ∧ renK (nthO js) d1 fun d => bringK (nthO js) ks L1' L fun L' => KW d L')) : CallS P f as L KP KW := by
  obtain ⟨as1, h1, h2⟩ := renLK_eq h
  obtain ⟨L1, h3, h4, h5⟩ := keepK_eq h2
  obtain ⟨d1, L1', hs, h6⟩ := h3.out
  obtain ⟨d, h7, h8⟩ := renK_eq h6
  have hks : ∀ k ∈ ks, k < L.length := fun k hk => by
    obtain ⟨i, hi, rfl⟩ := List.getElem_of_mem hk
    have hil : i < L1.length := by omega
    obtain ⟨j, o, g1, g2, _⟩ := h5 i _ (List.getElem?_eq_getElem hil)
    rw [List.getElem?_eq_getElem hi] at g1
    cases g1
    exact (List.getElem?_eq_some_iff.1 g2).1
  obtain ⟨L', h9, h10, h11, h12, h13, h14⟩ := bringK_eq hnd hks h8
  obtain ⟨j1, j2⟩ := prefB_eq hjs
  exact .inr ⟨d, L', fun w ρ vs hf hr => frame_call hm hnd hks j1 j2 h1 h4 h5 hs h7 h10 h11 h12 h13 h14 hf hr, hm.1, h9⟩

/-- the objects seen otherwise, ahead of the call -/
theorem call_shift {P : Program} {f : Nat} {as as1 : List D} {L L1 : List Ob} {φ : D → D → Prop} {KP : D → Prop} {KW : D → List Ob → Prop} (hS : Shift L.length φ L L1)
    (has : as.length = as1.length ∧ ∀ (i : Nat) d d', as[i]? = some d → as1[i]? = some d' → φ d d') (h : CallS P f as1 L1 (fun _ => False) KW) : CallS P f as L KP KW := by
  rcases h with ⟨spec, hm, h⟩ | ⟨d, L', h1, h2, h3⟩
  · obtain ⟨_, _, _, _, h⟩ := stripLK_eq h
    exact h.elim
  · refine .inr ⟨d, L', fun w ρ vs hf hr => ?_, h2, h3⟩
    obtain ⟨ρ1, g1, g2, g3, g4⟩ := hS w ρ hf
    refine (h1 w ρ1 vs g1 ⟨hr.1.trans has.1, fun i d v hd hv => ?_⟩).mono ?_
    · have hlt : i < as.length := by rw [has.1]; exact (List.getElem?_eq_some_iff.1 hd).1
      exact g2 _ _ _ (has.2 i _ d (List.getElem?_eq_getElem hlt) hd) (hr.2 i _ v (List.getElem?_eq_getElem hlt) hv)
    · rintro e w' ⟨v, ρ', he, hp⟩
      exact ⟨v, ρ', he, hp.fits, hp.rep, hp.ext.mono fun b off _ h => g3 b off h, fun b off h => (hp.fresh b off h).imp (g3 b off) id, (g4 ρ L rfl (.refl _ _)).trans hp.compat⟩

def FzL (k e : Nat) (els els' : List D) (tok : Nat) : List D → List D → Prop
  | [], [] => True
  | d :: ds, d' :: ds' => Fz k e els els' tok d d' ∧ FzL k e els els' tok ds ds'
  | _, _ => False
theorem FzL_eq {k e : Nat} {els els' : List D} {tok : Nat} : ∀ {as as1 : List D}, FzL k e els els' tok as as1 → as.length = as1.length ∧ ∀ (i : Nat) d d', as[i]? = some d → as1[i]? = some d' → Fz k e els els' tok d d'
  | [], [], _ => ⟨rfl, by simp⟩
  | d :: ds, d' :: ds', h => by
    obtain ⟨h1, h2⟩ := FzL_eq h.2
    refine ⟨by simp [h1], fun i a b ha hb => ?_⟩
    cases i with
    | zero => simp at ha hb; subst ha; subst hb; exact h.1
    | succ i => exact h2 i a b (by simpa using ha) (by simpa using hb)
  | [], _ :: _, h => h.elim
  | _ :: _, [], h => h.elim

/-- an array is given up as a slice, and handed over -/
theorem call_freeze {P : Program} {f : Nat} {as : List D} {L : List Ob} {KP : D → Prop} {KW : D → List Ob → Prop} {k e : Nat} {els els' : List D} (as1 : List D) (hk : L[k]? = some (.arr e els)) (hs : StripEls els els')
    (has : FzL k e els els' L.length as as1) (h : CallS P f as1 (L.set k .dead ++ [.spare els.length]) (fun _ => False) KW) : CallS P f as L KP KW :=
  call_shift (shift_freeze hk hs) (FzL_eq has) h

/-- one more behind all -/
def snocK (o : Ob) : List Ob → (List Ob → Prop) → Prop := @List.rec Ob (fun _ => (List Ob → Prop) → Prop) (fun K => K [o]) (fun x _ ih K => ih fun r => K (x :: r))
theorem snocK_eq {o : Ob} : ∀ {L : List Ob} {K : List Ob → Prop}, snocK o L K → K (L ++ [o])
  | [], K, h => h
  | x :: L, K, h => by
    have := snocK_eq (L := L) (K := fun r => K (x :: r)) h
    exact this

theorem call_freeze_bytes {P : Program} {f : Nat} {as : List D} {L : List Ob} {KP : D → Prop} {KW : D → List Ob → Prop} {els : List D} (k : Nat) (l : List UInt8) (as1 : List D) (hk : L[k]? = some (.arr 1 els)) (he : els = l.map byteD)
    (has : FzL k 1 (l.map byteD) (l.map byteD) L.length as as1) (h : setLK k .dead L fun L => snocK (.spare l.length) L fun L => VS (CallS P f as1 L (fun _ => False) KW)) : CallS P f as L KP KW := by
  subst he
  have h := (snocK_eq (setLK_eq h)).out
  exact call_freeze as1 hk (strip_bytes l) has (by simpa using h)

mutual
/-- nothing in it lies in memory -/
def flatB : D → Bool
  | .int _ _ | .bool _ | .tt | .ff | .str _ | .nilsl | .nilp | .nilmap | .nilfn | .nilif | .any => true
  | .agg ds => flatLB ds
  | .tup ds => flatLB ds
  | _ => false
def flatLB : List D → Bool
  | [] => true
  | d :: ds => match flatB d with
    | true => flatLB ds
    | false => false
end

theorem flatLB_mem : ∀ {ds : List D}, flatLB ds = true → ∀ d ∈ ds, flatB d = true
  | [], _, d, hd => by simp at hd
  | a :: ds, h, d, hd => by
    simp only [flatLB] at h
    split at h
    · rename_i ha
      rcases List.mem_cons.1 hd with rfl | hd
      · exact ha
      · exact flatLB_mem h d hd
    · cases h

theorem flatB_rep {w : World} {F : Nat → Nat → Prop} (F' : Nat → Nat → Prop) {d : D} {v : Value} (h : RepP w F d v) : flatB d = true → RepP w F' d v := by
  induction h with
  | agg ds vs hl _ ih => exact fun hd => .agg ds vs hl fun i d v h1 h2 => ih i d v h1 h2 (flatLB_mem (by simpa only [flatB] using hd) d (List.mem_of_getElem? h1))
  | tup ds vs hl _ ih => exact fun hd => .tup ds vs hl fun i d v h1 h2 => ih i d v h1 h2 (flatLB_mem (by simpa only [flatB] using hd) d (List.mem_of_getElem? h1))
  | any v => exact fun _ => .any v
  | int k n => exact fun _ => .int k n
  | bool b => exact fun _ => .bool b
  | tt => exact fun _ => .tt
  | ff => exact fun _ => .ff
  | str s => exact fun _ => .str s
  | nilsl a => exact fun _ => .nilsl a
  | slnil => intro h; simp [flatB] at h
  | sl => intro h; simp [flatB] at h
  | nilp => exact fun _ => .nilp
  | ptr => intro h; simp [flatB] at h
  | nilmap => exact fun _ => .nilmap
  | fn => intro h; simp [flatB] at h
  | nilfn => exact fun _ => .nilfn
  | nilif => exact fun _ => .nilif
  | iface => intro h; simp [flatB] at h

/-- an array is lent as a slice to one that answers with numbers and the like -/
theorem call_lend {P : Program} {f : Nat} {as : List D} {L : List Ob} {KP : D → Prop} {KW : D → List Ob → Prop} {k e : Nat} {els els' : List D} {spec : Spec} (as1 : List D) (hk : L[k]? = some (.arr e els)) (hs : StripEls els els')
    (has : FzL k e els els' L.length as as1) (hm : Meets P f spec) (h : stripLK as1 fun as2 => VS (∃ d, spec as2 [] d [] ∧ flatB d = true ∧ KW d L)) : CallS P f as L KP KW := by
  obtain ⟨as2, h1, h2⟩ := stripLK_eq h
  obtain ⟨d, h3, h4, h5⟩ := h2.out
  obtain ⟨g1, g2⟩ := FzL_eq has
  refine .inr ⟨d, L, fun w ρ vs hf hr => ?_, hm.1, h5⟩
  obtain ⟨ρ1, k1, k2, k3, k4⟩ := shift_freeze (n0 := L.length) hk hs w ρ hf
  refine (pureCall hm h3 k1 (by rw [hr.1, g1, h1.1]) fun i d v hd hv => ?_).mono ?_
  · have hl1 : i < as1.length := by rw [h1.1]; exact (List.getElem?_eq_some_iff.1 hd).1
    have hl : i < as.length := by rw [g1]; exact hl1
    exact (h1.2 i _ d (List.getElem?_eq_getElem hl1) hd).2 _ _ _ _ _ (k2 _ _ _ (g2 i _ _ (List.getElem?_eq_getElem hl) (List.getElem?_eq_getElem hl1)) (hr.2 i _ v (List.getElem?_eq_getElem hl) hv))
  · rintro e w' ⟨v, he, hx, hrep⟩
    exact ⟨v, ρ, he, .grow hf hx (.pure _ _ (flatB_rep _ hrep h4))⟩

end Go.Plat
