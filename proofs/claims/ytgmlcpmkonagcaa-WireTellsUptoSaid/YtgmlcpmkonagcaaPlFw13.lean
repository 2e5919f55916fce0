/-
  Loops, weaker readings, the end of a function.
-/
import Derived.Test.YtgmlcpmkonagcaaPlShift
namespace Go.Plat
open Go
set_option linter.unusedVariables false
set_option linter.unusedSimpArgs false

/-- the first n objects keep their numbers -/
def below (n : Nat) (k : Nat) : Option Nat :=
  match Nat.blt k n with
  | true => some k
  | false => none

def RenS (m : Nat → Option Nat) (ds : List D) (K : List D → Prop) : Prop := ∃ ds', RenLOf m ds ds' ∧ (∀ (i : Nat) d d', ds[i]? = some d → ds'[i]? = some d' → d.cells.length = d'.cells.length ∧ RenLOf m d.cells d'.cells) ∧ K ds'
def RenM (m : Nat → Option Nat) (es : List (D × D)) (K : Prop) : Prop := (∀ p ∈ es, RenOf m p.2 p.2) ∧ K

def renObK (m : Nat → Option Nat) (o : Ob) (K : Ob → Prop) : Prop :=
  match o with
  | .cells ds => renLK m ds fun ds => K (.cells ds)
  | .arr e ds => VS (RenS m ds fun ds => K (.arr e ds))
  | .spare n => K (.spare n)
  | .map es => VS (RenM m es (K (.map es)))
  | .dead => K .dead

def renObsK (m : Nat → Option Nat) (n : Nat) (L : List Ob) : (List Ob → Prop) → Prop :=
  @List.rec Ob (fun _ => Nat → (List Ob → Prop) → Prop) (fun n K => match n with | 0 => K [] | _ + 1 => False)
    (fun o _ ih n K => match n with | 0 => K [] | n + 1 => renObK m o fun o => ih n fun r => K (o :: r)) L n

/-- an object under other numbers -/
def ObRen (m : Nat → Option Nat) (o o' : Ob) : Prop :=
  match o with
  | .cells ds => ∃ ds', o' = .cells ds' ∧ RenLOf m ds ds'
  | .arr e ds => ∃ ds', o' = .arr e ds' ∧ ds.length = ds'.length ∧ ∀ (i : Nat) d d', ds[i]? = some d → ds'[i]? = some d' → d.cells.length = d'.cells.length ∧ RenLOf m d.cells d'.cells
  | .spare n => o' = .spare n
  | .map es => o' = .map es ∧ ∀ p ∈ es, RenOf m p.2 p.2
  | .dead => o' = .dead

theorem renObK_eq {m : Nat → Option Nat} {o : Ob} {K : Ob → Prop} (h : renObK m o K) : ∃ o', ObRen m o o' ∧ K o' := by
  cases o with
  | cells ds =>
    obtain ⟨ds', h1, h2⟩ := renLK_eq h
    exact ⟨_, ⟨ds', rfl, h1⟩, h2⟩
  | arr e ds =>
    obtain ⟨ds', h1, h2, h3⟩ := VS.out h
    exact ⟨_, ⟨ds', rfl, h1.1, h2⟩, h3⟩
  | spare n => exact ⟨_, rfl, h⟩
  | map es => exact ⟨_, ⟨rfl, (VS.out h).1⟩, (VS.out h).2⟩
  | dead => exact ⟨_, rfl, h⟩

theorem renObsK_eq {m : Nat → Option Nat} : ∀ {n : Nat} {L : List Ob} {K : List Ob → Prop}, renObsK m n L K →
    ∃ L', K L' ∧ L'.length = n ∧ n ≤ L.length ∧ ∀ (k : Nat) o o', L[k]? = some o → L'[k]? = some o' → ObRen m o o'
  | 0, [], K, h => ⟨[], h, rfl, by simp, by simp⟩
  | 0, _ :: _, K, h => ⟨[], h, rfl, by simp, by simp⟩
  | n + 1, [], K, h => False.elim h
  | n + 1, o :: L, K, h => by
    change renObK m o (fun o => renObsK m n L fun r => K (o :: r)) at h
    obtain ⟨o', h1, h2⟩ := renObK_eq h
    obtain ⟨L', h3, h4, h5, h6⟩ := renObsK_eq h2
    refine ⟨o' :: L', h3, by simp [h4], by simp; omega, fun k a b ha hb => ?_⟩
    cases k with
    | zero => simp at ha hb; subst ha; subst hb; exact h1
    | succ k => exact h6 k a b (by simpa using ha) (by simpa using hb)

/-- an object's fit, under other numbers -/
theorem ObFits.ren {m : Nat → Option Nat} {w : World} {F F1 : Nat → Nat → Prop} {ρ : Pl} {L : List Ob} {ρ1 : Pl} {L1 : List Ob} {l : Loc} {o o' : Ob} (hm : RenOk m ρ L ρ1 L1)
    (hF : ∀ b off, F1 b off → F b off) (hr : ObRen m o o') (h : ObFits w F ρ L l o) : ObFits w F1 ρ1 L1 l o' := by
  cases o with
  | cells ds =>
    obtain ⟨ds', rfl, h1, h2⟩ := hr
    refine ⟨h.1.trans h1, fun j d hj => ?_⟩
    have hlt : j < ds.length := by rw [h1]; exact (List.getElem?_eq_some_iff.1 hj).1
    obtain ⟨⟨v, h3, h4⟩, h5⟩ := h.2 j _ (List.getElem?_eq_getElem hlt)
    exact ⟨⟨v, h3, h2 j _ d (List.getElem?_eq_getElem hlt) hj _ _ _ _ _ _ _ _ hm hF h4⟩, h5⟩
  | arr e ds =>
    obtain ⟨ds', rfl, h1, h2⟩ := hr
    obtain ⟨h3, h4, h5, h6⟩ := h
    refine ⟨by rw [← h1]; exact h3, fun i d hi => ?_, fun i d j c hi hj => ?_, h6⟩
    · have hlt : i < ds.length := by rw [h1]; exact (List.getElem?_eq_some_iff.1 hi).1
      rw [← (h2 i _ d (List.getElem?_eq_getElem hlt) hi).1]
      exact h4 i _ (List.getElem?_eq_getElem hlt)
    · have hlt : i < ds.length := by rw [h1]; exact (List.getElem?_eq_some_iff.1 hi).1
      obtain ⟨h7, h8, h9⟩ := h2 i _ d (List.getElem?_eq_getElem hlt) hi
      have hjl : j < (ds[i]).cells.length := by rw [h7]; exact (List.getElem?_eq_some_iff.1 hj).1
      obtain ⟨v, h10, h11⟩ := h5 i _ j _ (List.getElem?_eq_getElem hlt) (List.getElem?_eq_getElem hjl)
      exact ⟨v, h10, h9 j _ c (List.getElem?_eq_getElem hjl) hj _ _ _ _ _ _ _ _ hm hF h11⟩
  | spare n =>
    have : o' = .spare n := hr
    subst this
    exact h
  | map es =>
    obtain ⟨rfl, h1⟩ := hr
    obtain ⟨ents, clock, h2, h3, h4⟩ := h
    exact ⟨ents, clock, h2, h3, fun i p q hp hq => ⟨(h4 i p q hp hq).1.less hF, h1 p (List.mem_of_getElem? hp) _ _ _ _ _ _ _ _ hm hF (h4 i p q hp hq).2⟩⟩
  | dead =>
    have : o' = .dead := hr
    subst this
    trivial

theorem ObRen.owns {m : Nat → Option Nat} {o o' : Ob} (h : ObRen m o o') (l : Loc) (b off : Nat) : o'.owns l b off ↔ o.owns l b off := by
  cases o with
  | cells ds => obtain ⟨ds', rfl, _⟩ := h; exact Iff.rfl
  | arr e ds => obtain ⟨ds', rfl, _⟩ := h; exact Iff.rfl
  | spare n => have : o' = .spare n := h; subst this; exact Iff.rfl
  | map es => obtain ⟨rfl, _⟩ := h; exact Iff.rfl
  | dead => have : o' = .dead := h; subst this; exact Iff.rfl

/-- the first objects alone -/
theorem below_ok {ρ : Pl} {L L' : List Ob} (hl : L'.length ≤ L.length) (h : ∀ (k : Nat) o o', L[k]? = some o → L'[k]? = some o' → ObRen (below L'.length) o o') : RenOk (below L'.length) ρ L ρ L' := by
  have hb : ∀ k k', below L'.length k = some k' → k' = k ∧ k < L'.length := by
    intro k k' h
    unfold below at h
    split at h
    · rename_i hlt; cases h; exact ⟨rfl, by simpa [Nat.blt_eq] using hlt⟩
    · cases h
  refine ⟨fun k k' hk _ => by obtain ⟨rfl, h⟩ := hb _ _ hk; exact h, fun k k' hk _ => by obtain ⟨rfl, h⟩ := hb _ _ hk; rfl,
    fun k k' ds hk hlt hL => ?_, fun k k' ds hk hlt hL => ?_, fun k k' ds hk hlt hL => ?_, fun k k' e ds hk hlt hL => ?_⟩ <;> obtain ⟨rfl, hk⟩ := hb _ _ hk <;>
    have hr := h _ _ _ (List.getElem?_eq_getElem hlt) hL <;> have hg := List.getElem?_eq_getElem hlt <;> revert hr hg <;> generalize L[k'] = o <;> intro hr hg <;> rw [hg]
  all_goals cases o <;> simp only [ObRen] at hr
  all_goals first
    | (cases hr; done)
    | (obtain ⟨_, h1, _⟩ := hr; cases h1; done)
    | (obtain ⟨h1, _⟩ := hr; cases h1; done)
    | skip
  all_goals first
    | exact ⟨_, rfl⟩
    | (cases hr; rfl)
    | (obtain ⟨_, h1, h2, _⟩ := hr; cases h1; exact ⟨_, rfl, h2⟩)

theorem own_prefix {ρ : Pl} {L L' : List Ob} {m : Nat → Option Nat} (hl : L'.length ≤ L.length) (h : ∀ (k : Nat) o o', L[k]? = some o → L'[k]? = some o' → ObRen m o o') {b off : Nat} (ho : own ρ L' b off) : own ρ L b off := by
  obtain ⟨k, o', h1, h2⟩ := ho
  have hlt : k < L.length := Nat.lt_of_lt_of_le (List.getElem?_eq_some_iff.1 h1).1 hl
  exact ⟨k, L[k], List.getElem?_eq_getElem hlt, ((h k _ o' (List.getElem?_eq_getElem hlt) h1).owns _ _ _).1 h2⟩

theorem foot_prefix {ρ : Pl} {L L' : List Ob} {m : Nat → Option Nat} (hl : L'.length ≤ L.length) (h : ∀ (k : Nat) o o', L[k]? = some o → L'[k]? = some o' → ObRen m o o') {b off : Nat} (ho : foot ρ L' b off) : foot ρ L b off :=
  ho.imp (own_prefix hl h) id

theorem Fits.first {w : World} {ρ : Pl} {L L' : List Ob} (hf : Fits w ρ L) (hl : L'.length ≤ L.length) (h : ∀ (k : Nat) o o', L[k]? = some o → L'[k]? = some o' → ObRen (below L'.length) o o') : Fits w ρ L' where
  hid := hf.hid
  sep b off ho := hf.sep b off (own_prefix hl h ho)
  obj k o' hk := by
    have hlt : k < L.length := Nat.lt_of_lt_of_le (List.getElem?_eq_some_iff.1 hk).1 hl
    exact (hf.obj k _ (List.getElem?_eq_getElem hlt)).ren (below_ok hl h) (fun b off => foot_prefix hl h) (h k _ o' (List.getElem?_eq_getElem hlt) hk)
  disj k k' o o' b off h1 h2 h3 h4 := by
    have hlt : k < L.length := Nat.lt_of_lt_of_le (List.getElem?_eq_some_iff.1 h1).1 hl
    have hlt' : k' < L.length := Nat.lt_of_lt_of_le (List.getElem?_eq_some_iff.1 h2).1 hl
    exact hf.disj k k' _ _ b off (List.getElem?_eq_getElem hlt) (List.getElem?_eq_getElem hlt') (((h k _ o (List.getElem?_eq_getElem hlt) h1).owns _ _ _).1 h3) (((h k' _ o' (List.getElem?_eq_getElem hlt') h2).owns _ _ _).1 h4)

theorem Compat.first {ρ0 ρ : Pl} {L0 L L' : List Ob} (hc : Compat ρ0 L0 ρ L) (h0 : L0.length ≤ L'.length) (hl : L'.length ≤ L.length) (h : ∀ (k : Nat) o o', L[k]? = some o → L'[k]? = some o' → ObRen (below L'.length) o o') : Compat ρ0 L0 ρ L' := by
  have back : ∀ (k : Nat) o', L'[k]? = some o' → ∃ o, L[k]? = some o ∧ ObRen (below L'.length) o o' := fun k o' hk => by
    have hlt : k < L.length := Nat.lt_of_lt_of_le (List.getElem?_eq_some_iff.1 hk).1 hl
    exact ⟨_, List.getElem?_eq_getElem hlt, h k _ o' (List.getElem?_eq_getElem hlt) hk⟩
  refine ⟨hc.hid, h0, fun k ds' hk hL => ?_, fun k ds' hk hL => ?_, fun k n hk hL => ?_, fun k e ds' hk hL => ?_⟩
  · obtain ⟨o, h1, h2⟩ := back k _ hL
    cases o <;> simp only [ObRen] at h2
    case cells ds => exact hc.cells k ds hk h1
    case arr => obtain ⟨_, h3, _⟩ := h2; cases h3
    case map => obtain ⟨h3, _⟩ := h2; cases h3
    all_goals cases h2
  · obtain ⟨o, h1, h2⟩ := back k _ hL
    cases o <;> simp only [ObRen] at h2
    case cells ds => obtain ⟨_, h3, _⟩ := h2; cases h3
    case arr => obtain ⟨_, h3, _⟩ := h2; cases h3
    case map es => exact hc.map k es hk h1
    all_goals cases h2
  · obtain ⟨o, h1, h2⟩ := back k _ hL
    cases o <;> simp only [ObRen] at h2
    case cells ds => obtain ⟨_, h3, _⟩ := h2; cases h3
    case arr => obtain ⟨_, h3, _⟩ := h2; cases h3
    case map => obtain ⟨h3, _⟩ := h2; cases h3
    case spare n' => cases h2; exact hc.spare k n hk h1
    all_goals cases h2
  · obtain ⟨o, h1, h2⟩ := back k _ hL
    cases o <;> simp only [ObRen] at h2
    case cells ds => obtain ⟨_, h3, _⟩ := h2; cases h3
    case arr e1 ds =>
      obtain ⟨_, h3, h4, _⟩ := h2
      cases h3
      obtain ⟨ds0, h5, h6, h7⟩ := hc.arr k e ds hk h1
      exact ⟨ds0, h5, by omega, fun hh => h7 (by omega)⟩
    case map => obtain ⟨h3, _⟩ := h2; cases h3
    all_goals cases h2

/-! weaker readings -/
def weakS (m : Nat → Option Nat) (σ : List (Nat × D)) : List (Nat × D) → Prop :=
  @List.rec (Nat × D) (fun _ => Prop) True (fun p _ ih => match p with | (t, d) => renK m (look σ t) (fun d' => VS (d' = d)) ∧ ih)

/-- what reads as the first reads as the second: computed -/
def WeakC (σ : List (Nat × D)) (L : List Ob) (σ' : List (Nat × D)) (L' : List Ob) : Prop :=
  renObsK (below L'.length) L'.length L (fun L'' => VS (L'' = L')) ∧ weakS (below L'.length) σ σ'

/-- what reads as the first reads as the second -/
def Weak (n0 : Nat) (σ : List (Nat × D)) (L : List Ob) (σ' : List (Nat × D)) (L' : List Ob) : Prop :=
  ∃ φ, Shift n0 φ L L' ∧ ∀ t, look σ' t = .any ∨ φ (look σ t) (look σ' t)

theorem shift_below {n0 n : Nat} {L : List Ob} {K : List Ob → Prop} (h : renObsK (below n) n L K) (hn : n0 ≤ n) : ∃ L', K L' ∧ L'.length = n ∧ Shift n0 (RenOf (below n)) L L' := by
  obtain ⟨L', h1, h2, h3, h4⟩ := renObsK_eq h
  subst h2
  exact ⟨L', h1, rfl, fun w ρ hf => ⟨ρ, hf.first h3 h4, fun d d' v hd hr => hd _ _ _ _ _ _ _ _ (below_ok h3 h4) (fun b off => foot_prefix h3 h4) hr, fun b off ho => own_prefix h3 h4 ho,
    fun ρ0 L0 e hc => hc.first (by omega) h3 h4⟩⟩

theorem weakS_look {m : Nat → Option Nat} {σ : List (Nat × D)} : ∀ {σ' : List (Nat × D)}, weakS m σ σ' → ∀ t, look σ' t = .any ∨ RenOf m (look σ t) (look σ' t)
  | [], _, t => .inl rfl
  | (s, d) :: r, h, t => by
    simp only [look]
    split
    · rename_i hb
      have := Nat.eq_of_beq_eq_true hb
      subst this
      obtain ⟨d', h1, h2⟩ := renK_eq h.1
      have h2 := h2.out
      subst h2
      exact .inr h1
    · exact weakS_look h.2 t

theorem WeakC.weak {n0 : Nat} {σ σ' : List (Nat × D)} {L L' : List Ob} (h : WeakC σ L σ' L') (hn : n0 ≤ L'.length) : Weak n0 σ L σ' L' := by
  obtain ⟨L'', h1, _, h2⟩ := shift_below h.1 hn
  have := h1.out
  subst this
  exact ⟨_, h2, weakS_look h.2⟩

theorem Weak.rel {n : Nat} {E : Entry} {σ σ' : List (Nat × D)} {L L' : List Ob} {a : Act} {w : World} (h : Weak E.L.length σ L σ' L') (hr : ARel n E σ L a w) : ARel n E σ' L' a w := by
  obtain ⟨ρ, h1, h2, h3, h4, h5, h6, h7⟩ := hr
  obtain ⟨φ, hS, hφ⟩ := h
  obtain ⟨ρ', g1, g2, g3, g4⟩ := hS w ρ h3
  refine ⟨ρ', h1, h2, g1, fun t => ?_, h5, fun b off ho => h6 b off (g3 b off ho), g4 _ _ rfl h7⟩
  rcases hφ t with h | h
  · rw [h]; exact .pure _ _ (.any _)
  · exact g2 _ _ _ h (h4 t)

def LoopEnd {α : Type} (n0 : Nat) (I : α → Prop) (S : α → List (Nat × D)) (O : α → List Ob) (μ : α → Nat) (p : α) (σ : List (Nat × D)) (L : List Ob) : Prop :=
  ∃ p', I p' ∧ μ p' < μ p ∧ (WeakC σ L (S p') (O p') ∨ Weak n0 σ L (S p') (O p'))

/-- a loop: what holds at the head of every round, told by parameters -/
theorem awp_loopW {P : Program} {n : Nat} {E : Entry} {c : Code} {Q : Ex → List (Nat × D) → List Ob → Prop} {σ : List (Nat × D)} {L : List Ob} {α : Type}
    (I : α → Prop) (S : α → List (Nat × D)) (O : α → List Ob) (μ : α → Nat) (hO : ∀ p, E.L.length ≤ (O p).length) (p0 : α) (h0 : I p0) (hw : Weak E.L.length σ L (S p0) (O p0))
    (round : ∀ p, I p → AWP P n E c (fun e σ L => match e with | .normal => VS (LoopEnd E.L.length I S O μ p σ L) | e => Q e σ L) (S p) (O p)) :
    AWP P n E (.loop c) Q σ L := by
  intro a w hr
  have hr0 := hw.rel hr
  have key : ∀ k a w, (∃ p, I p ∧ ARel n E (S p) (O p) a w ∧ μ p = k) → ∀ (b : Frame) (kk : List Item) (cs : List Frame),
      ∃ e a' w', AQ n E Q e a' w' ∧ Arrives P (lone (b.at a (.code c :: .inLoop c :: kk)) cs w) b kk cs e a' w' := by
    intro k
    induction k using Nat.strongRecOn with
    | _ k ih =>
      rintro a w ⟨p, hI, hrel, rfl⟩ b kk cs
      obtain ⟨e, a₁, w₁, hq, harr⟩ := round p hI a w hrel b (.inLoop c :: kk) cs
      cases e with
      | normal =>
        obtain ⟨σ₁, L₁, hend, hrel₁⟩ := hq
        obtain ⟨p', hI', hlt, hwk⟩ := hend.out
        have hwk : Weak E.L.length σ₁ L₁ (S p') (O p') := hwk.elim (fun h => h.weak (hO p')) id
        obtain ⟨e₂, a₂, w₂, hq₂, harr₂⟩ := ih (μ p') hlt a₁ w₁ ⟨p', hI', hwk.rel hrel₁, rfl⟩ b kk cs
        exact ⟨e₂, a₂, w₂, hq₂, .of_steps (Steps.trans harr (.one step_inLoop)) harr₂⟩
      | exit id => exact ⟨.exit id, a₁, w₁, hq, .pass (x := .inLoop c) rfl (fun _ _ => .inl (by simp)) harr⟩
      | ret => exact ⟨.ret, a₁, w₁, hq, .pass (x := .inLoop c) rfl (fun _ _ => .inl (by simp)) harr⟩
      | goto l => exact hq.elim
      | panic ch => exact hq.elim
      | outgrown => exact hq.elim
  intro b kk cs
  obtain ⟨e, a', w', hq, harr⟩ := key _ a w ⟨p0, h0, hr0, rfl⟩ b kk cs
  exact ⟨e, a', w', hq, .of_steps (.one step_loop) harr⟩

theorem awp_loop {P : Program} {n : Nat} {E : Entry} {c : Code} {Q : Ex → List (Nat × D) → List Ob → Prop} {σ : List (Nat × D)} {L : List Ob} {α : Type}
    (I : α → Prop) (S : α → List (Nat × D)) (O : α → List Ob) (μ : α → Nat) (hO : ∀ p, E.L.length ≤ (O p).length) (p0 : α) (h0 : I p0) (hw : WeakC σ L (S p0) (O p0))
    (round : ∀ p, I p → AWP P n E c (fun e σ L => match e with | .normal => VS (LoopEnd E.L.length I S O μ p σ L) | e => Q e σ L) (S p) (O p)) :
    AWP P n E (.loop c) Q σ L := awp_loopW I S O μ hO p0 h0 (hw.weak (hO p0)) round

/-! the end -/
def cellRetK (T : Tab) (t : Nat) (x : D) (L : List Ob) (K : D → Prop) : Prop :=
  match ty T t with
  | some i => match x with
    | .loc k off => nthK k L fun o => match o with
      | .cells ds => loadCellsK i off ds K
      | _ => False
    | _ => False
  | none => False

def retK (T : Tab) (σ : List (Nat × D)) (L : List Ob) : List ResultVar → (List D → Prop) → Prop
  | [], K => K []
  | .tmp t :: rs, K => forceD (look σ t) fun d => retK T σ L rs fun ds => K (d :: ds)
  | .cell a t :: rs, K => cellRetK T t (look σ a) L fun d => retK T σ L rs fun ds => K (d :: ds)

def oneOf : List D → D
  | [d] => d
  | ds => .tup ds

def EndC (r d : D) (L L' : List Ob) : Prop := renK (below L'.length) r fun r' => renObsK (below L'.length) L'.length L fun L'' => VS (r' = d) ∧ VS (L'' = L')

def EndS (n0 : Nat) (r d : D) (L L' : List Ob) : Prop := EndC r d L L' ∨ ∃ φ, Shift n0 φ L L' ∧ φ r d

/-- at the end the results are as they should be -/
def FinQ (T : Tab) (rs : List ResultVar) (n0 : Nat) (d : D) (L' : List Ob) : Ex → List (Nat × D) → List Ob → Prop
  | .exit _, _, _ => False
  | _, σ, L => retK T σ L rs fun ds => VS (EndS n0 (oneOf ds) d L L')

theorem cellRet_sound {P : Program} {T : Tab} (hT : TabOk P T) {t : Nat} {x : D} {L : List Ob} {K : D → Prop} (h : cellRetK T t x L K) :
    ∃ d, K d ∧ ∀ (w : World) (ρ : Pl) (v : Value), Fits w ρ L → Rep w (foot ρ L) ρ L x v → ∃ ad u, v = .pointer (some ad) ∧ (loadVar t ad).run P w = .ok u w ∧ Rep w (foot ρ L) ρ L d u := by
  unfold cellRetK at h
  split at h <;> try exact h.elim
  rename_i i hi
  have hi := hT _ _ hi
  split at h <;> try exact h.elim
  rename_i k off
  obtain ⟨ob, h1, h2⟩ := nthK_eq h
  split at h2 <;> try exact h2.elim
  rename_i ds
  obtain ⟨d, h3, h4⟩ := loadCells_rep hi h2
  refine ⟨d, h3, fun w ρ v hf hv => ?_⟩
  obtain ⟨ad, h5, h6, h7⟩ := hv.loc_inv
  obtain ⟨h8, h9⟩ := hf.obj k _ h1
  obtain ⟨u, h10, h11⟩ := h4 w (foot ρ L) ρ L (ρ k).block (ρ k).off fun j c hj => (h9 j c hj).1
  exact ⟨ad, u, h5, by rw [h7 _ h1]; exact h10, h11⟩

def retVar (tmps : Array Value) : ResultVar → Sem Value
  | .tmp t => pure (tmps.getD t undef)
  | .cell a t => do loadVar t (← asAddr (tmps.getD a undef))

theorem results_eq (fn : Func) (tmps : Array Value) : results fn tmps = (do
    let vs ← fn.results.mapM (retVar tmps)
    pure (if h : vs.size = 1 then vs[0] else .tuple vs)) := by
  unfold results
  congr 1

theorem retK_sound {P : Program} {T : Tab} (hT : TabOk P T) {σ : List (Nat × D)} {L : List Ob} : ∀ {rs : List ResultVar} {K : List D → Prop}, retK T σ L rs K →
    ∃ ds, K ds ∧ ∀ (w : World) (ρ : Pl) (a : Act), Fits w ρ L → Env w ρ L σ a → ∃ vs : List Value,
      (rs.mapM (retVar a.tmps)).run P w = .ok vs w ∧ RepL w (foot ρ L) ρ L ds vs
  | [], K, h => ⟨[], by simpa [retK] using h, fun w ρ a _ _ => ⟨[], rfl, rfl, by simp⟩⟩
  | .tmp t :: rs, K, h => by
    simp only [retK] at h
    obtain ⟨ds, h1, h2⟩ := retK_sound hT (forceD_eq h)
    refine ⟨_, h1, fun w ρ a hf he => ?_⟩
    obtain ⟨vs, h3, h4, h5⟩ := h2 w ρ a hf he
    refine ⟨a.tmps.getD t undef :: vs, ?_, by simp [h4], fun i d v hd hv => ?_⟩
    · simp only [List.mapM_cons, Sem.run_bind, Sem.run_pure, Result.andThen, retVar]
      rw [h3]
    · cases i with
      | zero => simp at hd hv; subst hd; subst hv; simpa using he t
      | succ i => exact h5 i d v (by simpa using hd) (by simpa using hv)
  | .cell ad t :: rs, K, h => by
    simp only [retK] at h
    obtain ⟨d, hK, hrd⟩ := cellRet_sound hT h
    obtain ⟨ds, h1, h2⟩ := retK_sound hT hK
    refine ⟨_, h1, fun w ρ a hf he => ?_⟩
    obtain ⟨vs, h3, h4, h5⟩ := h2 w ρ a hf he
    obtain ⟨aa, u, h6, h7, h8⟩ := hrd w ρ _ hf (he ad)
    refine ⟨u :: vs, ?_, by simp [h4], fun i d v hd hv => ?_⟩
    · have : (asAddr (a.tmps.getD ad undef)).run P w = .ok aa w := by rw [h6]; rfl
      simp only [List.mapM_cons, retVar, Sem.run_bind, this, h7, Result.andThen, h3, Sem.run_pure]
    · cases i with
      | zero => simp at hd hv; subst hd; subst hv; exact h8
      | succ i => exact h5 i d v (by simpa using hd) (by simpa using hv)

theorem one_rep {w : World} {F : Nat → Nat → Prop} {ρ : Pl} {L : List Ob} : ∀ {ds : List D} {vs : List Value}, RepL w F ρ L ds vs →
    Rep w F ρ L (oneOf ds) (if h : vs.toArray.size = 1 then vs.toArray[0] else .tuple vs.toArray)
  | [], [], _ => .tup [] [] rfl (by simp)
  | [d0], [v0], h => h.2 0 d0 v0 rfl rfl
  | d0 :: d1 :: ds, v0 :: v1 :: vs, h => by
    rw [dif_neg (by simp)]
    exact .tup _ _ h.1 h.2
  | [], v :: vs, h => by have := h.1; simp at this
  | d :: ds, [], h => by have := h.1; simp at this
  | [d0], v0 :: v1 :: vs, h => by have := h.1; simp at this
  | d0 :: d1 :: ds, [v0], h => by have := h.1; simp at this

def argS : Nat → List D → List (Nat × D)
  | _, [] => []
  | k, d :: ds => (k, d) :: argS (k + 1) ds

theorem argS_look : ∀ (ds : List D) (k t : Nat), look (argS k ds) t = if k ≤ t then (ds[t - k]?).getD .any else .any
  | [], k, t => by simp [argS, look]
  | d :: ds, k, t => by
    simp only [argS, look]
    split
    · rename_i h
      have := Nat.eq_of_beq_eq_true h
      subst this
      simp
    · rename_i h
      have hne : k ≠ t := fun e => by subst e; simp at h
      rw [argS_look ds (k + 1) t]
      by_cases hk : k ≤ t
      · rw [if_pos hk, if_pos (by omega), show t - k = t - (k + 1) + 1 by omega, List.getElem?_cons_succ]
      · rw [if_neg hk, if_neg (by omega)]

/-- a function meets its spec if its code comes to an end that is as it should be -/
theorem meets_intro {P : Program} {T : Tab} (hT : TabOk P T) {f : FuncId} {fn : Func} {c : Code} {spec : Spec} (hf : P.funcs[f]? = some fn) (hb : fn.body = some c) (hn : (fn.name == "runtime.NumGoroutine") = false)
    (h : ∀ as L d L', spec as L d L' → L.length ≤ L'.length ∧ as.length ≤ fn.ntmps ∧ ∀ E : Entry, E.L = L → AWP P fn.ntmps E c (FinQ T fn.results.toList L.length d L') (argS 0 as) L) : Meets P f spec := by
  refine ⟨⟨fn, hf, hn, by rw [hb]; rfl⟩, fun as L d L' hs w ρ vs hfit hrep => ?_⟩
  obtain ⟨hlen, has, hc⟩ := h as L d L' hs
  refine calls_of_wp hf hb ?_
  have hrel : ARel fn.ntmps ⟨w, ρ, L⟩ (argS 0 as) L { tmps := vs.toArray ++ Array.replicate (fn.ntmps - vs.toArray.size) undef, defers := [] } w := by
    refine ⟨ρ, by simp [hrep.1]; omega, rfl, hfit, fun t => ?_, .refl _ _, .refl _ _, .refl _ _⟩
    rw [argS_look]
    simp only [Nat.zero_le, if_true, Nat.sub_zero]
    rcases Nat.lt_or_ge t as.length with hlt | hge
    · have hlt' : t < vs.length := by rw [hrep.1]; exact hlt
      rw [List.getElem?_eq_getElem hlt, Option.getD_some, Array.getD_eq_getD_getElem?, Array.getElem?_append_left (by simpa using hlt')]
      simp only [List.getElem?_toArray, List.getElem?_eq_getElem hlt', Option.getD_some]
      exact hrep.2 t _ _ (List.getElem?_eq_getElem hlt) (List.getElem?_eq_getElem hlt')
    · rw [List.getElem?_eq_none hge]
      exact .pure _ _ (.any _)
  refine wp_mono (hc ⟨w, ρ, L⟩ rfl _ _ hrel) fun e a w' hq => ?_
  have fin : ∀ σ' L'', (retK T σ' L'' fn.results.toList fun ds => VS (EndS L.length (oneOf ds) d L'' L')) → ARel fn.ntmps ⟨w, ρ, L⟩ σ' L'' a w' →
      a.defers = [] ∧ ∃ v, (results fn a.tmps).run P w' = .ok v w' ∧ (∃ u ρ', Ending.returned v = .returned u ∧ Post w ρ L d L' u w' ρ') := by
    rintro σ' L'' hret ⟨ρ', h1, h2, h3, h4, h5, h6, h7⟩
    obtain ⟨ds, hend, hds⟩ := retK_sound hT hret
    obtain ⟨vs', h8, h9, h10⟩ := hds w' ρ' a h3 h4
    have hend : ∃ φ, Shift L.length φ L'' L' ∧ φ (oneOf ds) d := by
      rcases hend.out with h | h
      · obtain ⟨r', hr1, hr2⟩ := renK_eq h
        obtain ⟨L3, ⟨hr3, hr4⟩, _, hS⟩ := shift_below hr2 hlen
        have hr3 := hr3.out
        have hr4 := hr4.out
        subst hr3
        subst hr4
        exact ⟨_, hS, hr1⟩
      · exact h
    obtain ⟨φ, hS, hφ⟩ := hend
    obtain ⟨ρ2, g1, g2, g3, g4⟩ := hS w' ρ' h3
    let v : Value := if h : vs'.toArray.size = 1 then vs'.toArray[0] else .tuple vs'.toArray
    have hrun : (results fn a.tmps).run P w' = .ok v w' := by
      rw [results_eq, Sem.run_bind, Array.mapM_eq_mapM_toList]
      simp only [Sem.run_map, h8, Result.andThen, Sem.run_pure]
      rfl
    have hrv : Rep w' (foot ρ' L'') ρ' L'' (oneOf ds) v := one_rep ⟨h9, h10⟩
    exact ⟨h2, v, hrun, v, ρ2, rfl, g1, g2 _ _ _ hφ hrv, h5, fun b off ho => h6 b off (g3 b off ho), g4 _ _ rfl h7⟩
  cases e with
  | normal => obtain ⟨σ', L'', hq, hr⟩ := hq; exact fin σ' L'' hq hr
  | ret => obtain ⟨σ', L'', hq, hr⟩ := hq; exact fin σ' L'' hq hr
  | exit id => obtain ⟨σ', L'', hq, hr⟩ := hq; exact hq.elim
  | goto l => exact hq.elim
  | panic ch => exact hq.elim
  | outgrown => exact hq.elim

end Go.Plat
