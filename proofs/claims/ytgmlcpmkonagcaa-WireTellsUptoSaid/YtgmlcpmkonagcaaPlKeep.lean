/-
  Objects kept, in another order; what is given up at the end.
-/
import Derived.Test.YtgmlcpmkonagcaaPlFw14
namespace Go.Plat
open Go
set_option linter.unusedVariables false
set_option linter.unusedSimpArgs false

def keepAt : List Nat → Nat → Nat → Option Nat
  | [], _, _ => none
  | j :: js, i, k => match Nat.beq j k with
    | true => some i
    | false => keepAt js (i + 1) k

theorem keepAt_get : ∀ {js : List Nat} {i k k' : Nat}, keepAt js i k = some k' → i ≤ k' ∧ js[k' - i]? = some k
  | [], i, k, k', h => by simp [keepAt] at h
  | j :: js, i, k, k', h => by
    simp only [keepAt] at h
    split at h
    · rename_i hb
      have := Nat.eq_of_beq_eq_true hb
      subst this
      cases h
      exact ⟨Nat.le_refl _, by simp⟩
    · obtain ⟨h1, h2⟩ := keepAt_get h
      refine ⟨by omega, ?_⟩
      rw [show k' - i = (k' - (i + 1)) + 1 by omega, List.getElem?_cons_succ]
      exact h2

/-- the objects of these numbers, under the numbers of their places -/
def keepK (m : Nat → Option Nat) : List Nat → List Ob → (List Ob → Prop) → Prop :=
  @List.rec Nat (fun _ => List Ob → (List Ob → Prop) → Prop) (fun _ K => K []) (fun j _ ih L K => nthK j L fun o => renObK m o fun o => ih L fun r => K (o :: r))

theorem keepK_eq {m : Nat → Option Nat} : ∀ {js : List Nat} {L : List Ob} {K : List Ob → Prop}, keepK m js L K →
    ∃ L', K L' ∧ L'.length = js.length ∧ ∀ (i : Nat) o', L'[i]? = some o' → ∃ j o, js[i]? = some j ∧ L[j]? = some o ∧ ObRen m o o'
  | [], L, K, h => ⟨[], h, rfl, by simp⟩
  | j :: js, L, K, h => by
    change nthK j L (fun o => renObK m o fun o => keepK m js L fun r => K (o :: r)) at h
    obtain ⟨o, h1, h2⟩ := nthK_eq h
    obtain ⟨o', h3, h4⟩ := renObK_eq h2
    obtain ⟨L', h5, h6, h7⟩ := keepK_eq h4
    refine ⟨_, h5, by simp [h6], fun i x hx => ?_⟩
    cases i with
    | zero => simp at hx; subst hx; exact ⟨j, o, by simp, h1, h3⟩
    | succ i =>
      obtain ⟨j', o2, h8, h9⟩ := h7 i x (by simpa using hx)
      exact ⟨j', o2, by simpa using h8, h9⟩

def nodupB : List Nat → Bool
  | [] => true
  | j :: js => match memB j js with
    | true => false
    | false => nodupB js

theorem nodupB_eq : ∀ {js : List Nat}, nodupB js = true → ∀ (i i' j : Nat), js[i]? = some j → js[i']? = some j → i = i'
  | [], _, i, i', j, h, _ => by simp at h
  | a :: js, h, i, i', j, h1, h2 => by
    simp only [nodupB] at h
    split at h
    · cases h
    · rename_i hm
      have hm := memB_mem hm
      cases i with
      | zero =>
        cases i' with
        | zero => rfl
        | succ i' => simp at h1 h2; subst h1; exact (hm (List.mem_of_getElem? h2)).elim
      | succ i =>
        cases i' with
        | zero => simp at h1 h2; subst h2; exact (hm (List.mem_of_getElem? h1)).elim
        | succ i' => rw [nodupB_eq h i i' j (by simpa using h1) (by simpa using h2)]

/-- the first n places keep their numbers -/
def startB : List Nat → Nat → Nat → Bool
  | _, _, 0 => true
  | [], _, _ + 1 => false
  | j :: js, i, n + 1 => match Nat.beq j i with
    | true => startB js (i + 1) n
    | false => false

theorem startB_eq : ∀ {js : List Nat} {i n : Nat}, startB js i n = true → n ≤ js.length ∧ ∀ q, q < n → js[q]? = some (i + q)
  | js, i, 0, _ => ⟨Nat.zero_le _, fun q h => by omega⟩
  | [], i, n + 1, h => by simp [startB] at h
  | j :: js, i, n + 1, h => by
    simp only [startB] at h
    split at h
    · rename_i hb
      have := Nat.eq_of_beq_eq_true hb
      subst this
      obtain ⟨h1, h2⟩ := startB_eq h
      refine ⟨by simpa using h1, fun q hq => ?_⟩
      cases q with
      | zero => simp
      | succ q =>
        rw [List.getElem?_cons_succ, h2 q (by omega)]
        congr 1; omega
    · cases h

theorem shift_keep {n0 : Nat} {js : List Nat} {L : List Ob} {K : List Ob → Prop} (hnd : nodupB js = true) (hst : startB js 0 n0 = true) (h : keepK (keepAt js 0) js L K) :
    ∃ L', K L' ∧ Shift n0 (RenOf (keepAt js 0)) L L' := by
  obtain ⟨L', hK, hlen, hL⟩ := keepK_eq h
  have hnd := nodupB_eq hnd
  obtain ⟨hs1, hs2⟩ := startB_eq hst
  refine ⟨L', hK, fun w ρ hf => ?_⟩
  let ρ' : Pl := ⟨fun i => ρ ((js[i]?).getD 0), ρ.hid⟩
  have hρ : ∀ i j, js[i]? = some j → ρ' i = ρ j := fun i j h => by show ρ ((js[i]?).getD 0) = ρ j; rw [h]; rfl
  have hm : ∀ k k', keepAt js 0 k = some k' → js[k']? = some k := fun k k' h => by
    have := (keepAt_get h).2
    simpa using this
  have kind : ∀ k k' o', keepAt js 0 k = some k' → L'[k']? = some o' → ∃ o, L[k]? = some o ∧ ObRen (keepAt js 0) o o' := fun k k' o' h1 h2 => by
    obtain ⟨j, o, h3, h4, h5⟩ := hL k' o' h2
    rw [hm k k' h1] at h3
    cases h3
    exact ⟨o, h4, h5⟩
  have hren : RenOk (keepAt js 0) ρ L ρ' L' := by
    refine ⟨fun k k' h _ => ?_, fun k k' h _ => hρ _ _ (hm _ _ h), fun k k' ds h _ hL' => ?_, fun k k' ds h _ hL' => ?_, fun k k' n h _ hL' => ?_, fun k k' e ds h _ hL' => ?_⟩
    · rw [hlen]; exact (List.getElem?_eq_some_iff.1 (hm _ _ h)).1
    all_goals
      obtain ⟨o, h1, h2⟩ := kind _ _ _ h hL'
      rw [h1]
      cases o <;> simp only [ObRen] at h2
    all_goals first
      | (cases h2; done)
      | (obtain ⟨_, h3, _⟩ := h2; cases h3; done)
      | (obtain ⟨h3, _⟩ := h2; cases h3; done)
      | skip
    all_goals first
      | exact ⟨_, rfl⟩
      | (cases h2; rfl)
      | (obtain ⟨_, h3, h4, _⟩ := h2; cases h3; exact ⟨_, rfl, h4⟩)
  have hown : ∀ b off, own ρ' L' b off → own ρ L b off := by
    rintro b off ⟨i, o', h1, h2⟩
    obtain ⟨j, o, h3, h4, h5⟩ := hL i o' h1
    rw [hρ _ _ h3] at h2
    exact ⟨j, o, h4, (h5.owns _ _ _).1 h2⟩
  have hfoot : ∀ b off, foot ρ' L' b off → foot ρ L b off := fun b off h => h.imp (hown b off) id
  refine ⟨ρ', ⟨hf.hid, fun b off h => hf.sep b off (hown b off h), fun i o' hi => ?_, fun i i' o o' b off h1 h2 h3 h4 => ?_⟩, fun d d' v hd hr => hd _ _ _ _ _ _ _ _ hren hfoot hr, hown, fun ρ0 L0 e hc => ?_⟩
  · obtain ⟨j, o, h3, h4, h5⟩ := hL i o' hi
    rw [hρ _ _ h3]
    exact (hf.obj j o h4).ren hren hfoot h5
  · obtain ⟨j, x, h5, h6, h7⟩ := hL i o h1
    obtain ⟨j', x', k5, k6, k7⟩ := hL i' o' h2
    rw [hρ _ _ h5] at h3
    rw [hρ _ _ k5] at h4
    have := hf.disj j j' x x' b off h6 k6 ((h7.owns _ _ _).1 h3) ((k7.owns _ _ _).1 h4)
    subst this
    exact hnd _ _ _ h5 k5
  · have get : ∀ (k : Nat) o', k < L0.length → L'[k]? = some o' → ∃ o, L[k]? = some o ∧ ObRen (keepAt js 0) o o' ∧ ρ' k = ρ k := fun k o' hk h1 => by
      obtain ⟨j, o, h3, h4, h5⟩ := hL k o' h1
      have := hs2 k (by omega)
      rw [Nat.zero_add] at this
      rw [this] at h3
      cases h3
      exact ⟨o, h4, h5, hρ _ _ this⟩
    refine ⟨hc.hid, by omega, fun k ds' hk hL' => ?_, fun k ds' hk hL' => ?_, fun k n hk hL' => ?_, fun k e ds' hk hL' => ?_⟩
    all_goals
      obtain ⟨o, h1, h2, h3⟩ := get k _ hk hL'
      rw [h3]
      cases o <;> simp only [ObRen] at h2
    all_goals first
      | (cases h2; done)
      | (obtain ⟨_, h3, _⟩ := h2; cases h3; done)
      | (obtain ⟨h3, _⟩ := h2; cases h3; done)
      | skip
    · exact hc.cells k _ hk h1
    · exact hc.map k _ hk h1
    · cases h2; exact hc.spare k n hk h1
    · obtain ⟨_, h5, h6, _⟩ := h2
      cases h5
      obtain ⟨ds0, h7, h8, h9⟩ := hc.arr k e _ hk h1
      exact ⟨ds0, h7, by omega, fun hh => h9 (by omega)⟩

/-- at the end: an array is given up -/
theorem end_freeze {n0 k e : Nat} {els els' : List D} {r r1 d : D} {L L' : List Ob} (hk : L[k]? = some (.arr e els)) (hn : n0 ≤ k) (hs : StripEls els els') (hr : Fz k e els els' L.length r r1)
    (h : EndS n0 r1 d (L.set k .dead ++ [.spare els.length]) L') (hlen : n0 ≤ L'.length) : EndS n0 r d L L' := by
  have h2 : ∃ φ, Shift n0 φ (L.set k .dead ++ [.spare els.length]) L' ∧ φ r1 d := by
    rcases h with h | h
    · obtain ⟨r', hr1, hr2⟩ := renK_eq h
      obtain ⟨L3, ⟨hr3, hr4⟩, _, hS⟩ := shift_below hr2 hlen
      have hr3 := hr3.out
      have hr4 := hr4.out
      subst hr3
      subst hr4
      exact ⟨_, hS, hr1⟩
    · exact h
  obtain ⟨φ, h3, h4⟩ := h2
  exact .inr ⟨_, (shift_freeze hk hs).trans h3, r1, hr, h4⟩

/-- at the end: these objects are kept -/
theorem end_keep {n0 : Nat} (js : List Nat) {r d : D} {L L' : List Ob} (hnd : nodupB js = true) (hst : startB js 0 n0 = true)
    (h : renK (keepAt js 0) r fun r' => keepK (keepAt js 0) js L fun L'' => VS (r' = d) ∧ VS (L'' = L')) : EndS n0 r d L L' := by
  obtain ⟨r', h1, h2⟩ := renK_eq h
  obtain ⟨L'', ⟨h3, h4⟩, h5⟩ := shift_keep hnd hst h2
  have h3 := h3.out
  have h4 := h4.out
  subst h3
  subst h4
  exact .inr ⟨_, h5, h1⟩

theorem strip_bytes (l : List UInt8) : StripEls (l.map byteD) (l.map byteD) := by
  refine ⟨rfl, fun i d d' h1 h2 => ?_⟩
  rw [h1] at h2
  cases h2
  simp only [List.getElem?_map, Option.map_eq_some_iff] at h1
  obtain ⟨c, _, rfl⟩ := h1
  refine ⟨rfl, rfl, fun j x x' h3 h4 => ?_⟩
  rw [h3] at h4
  cases h4
  cases j with
  | zero =>
    simp [byteD, D.cells] at h3
    subst h3
    intro w F ρ L v h
    rw [h.int_inv]
    exact .int _ _
  | succ j => simp [byteD, D.cells] at h3

/-- a number's lowest byte -/
def lowByte (n : Int) : UInt8 := UInt8.ofNat (n % 256).toNat
theorem lowByte_toNat (n : Int) : ((lowByte n).toNat : Int) = n % 256 := by
  unfold lowByte
  rw [UInt8.toNat_ofNat']
  have := Int.emod_nonneg n (b := 256) (by decide)
  have := Int.emod_lt_of_pos n (b := 256) (by decide)
  omega
theorem ar_low {n : Int} {K : D → Prop} (h : K (byteD (lowByte n))) : Arith .u8 n K := ar_u8_mod (by rw [← lowByte_toNat]; exact h)

theorem rens_bytes {m : Nat → Option Nat} {ds : List D} {K : List D → Prop} (l : List UInt8) (h : ds = l.map byteD) (hK : K (l.map byteD)) : RenS m ds K := by
  subst h
  have hp : ∀ (c : UInt8), RenOf m (byteD c) (byteD c) := fun c => renOf_pure trivial
  refine ⟨l.map byteD, ⟨rfl, fun i d d' h1 h2 => ?_⟩, fun i d d' h1 h2 => ?_, hK⟩
  all_goals
    rw [h1] at h2
    cases h2
    simp only [List.getElem?_map, Option.map_eq_some_iff] at h1
    obtain ⟨c, _, rfl⟩ := h1
  · exact hp c
  · refine ⟨rfl, rfl, fun j x x' h3 h4 => ?_⟩
    rw [h3] at h4
    cases h4
    cases j with
    | zero => simp [byteD, D.cells] at h3; subst h3; exact hp c
    | succ j => simp [byteD, D.cells] at h3

theorem end_freeze_bytes {n0 k : Nat} {els : List D} (l : List UInt8) {r r1 d : D} {L L' : List Ob} (hk : L[k]? = some (.arr 1 els)) (he : els = l.map byteD) (hn : n0 ≤ k) (hlen : n0 ≤ L'.length) (hr : Fz k 1 (l.map byteD) (l.map byteD) L.length r r1)
    (h : EndS n0 r1 d (L.set k .dead ++ [.spare l.length]) L') : EndS n0 r d L L' := by
  subst he
  exact end_freeze hk hn (strip_bytes l) hr (by simpa using h) hlen

end Go.Plat
