/-
  Weaker readings, one behind the other: nil as an empty slice, an array given up, what reads as more than one thing.
-/
import Derived.Test.YtgmlcpmkonagcaaPlKeep
namespace Go.Plat
open Go
set_option linter.unusedVariables false
set_option linter.unusedSimpArgs false

/-- whatever reads as d reads as d' -/
def LeD (d d' : D) : Prop := ∀ (w : World) (F : Nat → Nat → Prop) (ρ : Pl) (L : List Ob) (v : Value), Rep w F ρ L d v → Rep w F ρ L d' v
theorem LeD.refl (d : D) : LeD d d := fun _ _ _ _ _ h => h
theorem LeD.of_eq {d d' : D} (h : d = d') : LeD d d' := h ▸ .refl d
theorem LeD.trans {a b c : D} (h : LeD a b) (k : LeD b c) : LeD a c := fun w F ρ L v hr => k w F ρ L v (h w F ρ L v hr)
theorem LeD.any (d : D) : LeD d .any := fun _ _ _ _ _ _ => .pure _ _ (.any _)
theorem LeD.nil (e : Nat) : LeD .nilsl (.sl e [] none) := fun w F ρ L v h => by
  obtain ⟨a, rfl⟩ := h.nilsl_inv
  exact .pure _ _ nil_tok
theorem LeD.strip (e : Nat) (ds : List D) (t : Option Nat) : LeD (.sl e ds t) (.sl e ds none) := fun w F ρ L v h => .pure _ _ h.sl_inv
theorem LeD.tt {b : Bool} (h : b = true) : LeD .tt (.bool b) := fun w F ρ L v hr => by rw [hr.tt_inv, h]; exact .pure _ _ (.bool _)
theorem LeD.ff {b : Bool} (h : b = false) : LeD .ff (.bool b) := fun w F ρ L v hr => by rw [hr.ff_inv, h]; exact .pure _ _ (.bool _)

def LeL (ds ds' : List D) : Prop := ds.length = ds'.length ∧ ∀ (i : Nat) d d', ds[i]? = some d → ds'[i]? = some d' → LeD d d'
theorem LeL.refl (ds : List D) : LeL ds ds := ⟨rfl, fun i d d' h1 h2 => by rw [h1] at h2; cases h2; exact .refl _⟩
theorem LeL.of_eq {ds ds' : List D} (h : ds = ds') : LeL ds ds' := h ▸ .refl ds
theorem LeL.nil : LeL [] [] := .refl []
theorem LeL.cons {d d' : D} {ds ds' : List D} (h : LeD d d') (k : LeL ds ds') : LeL (d :: ds) (d' :: ds') := ⟨by simp [k.1], fun i a b ha hb => by
  cases i with
  | zero => simp at ha hb; subst ha; subst hb; exact h
  | succ i => exact k.2 i a b (by simpa using ha) (by simpa using hb)⟩
theorem LeD.tup {ds ds' : List D} (h : LeL ds ds') : LeD (.tup ds) (.tup ds') := fun w F ρ L v hr => by
  obtain ⟨vs, rfl, h1, h2⟩ := hr.tup_inv
  refine .tup _ _ (h1.trans h.1) fun i d v hd hv => ?_
  have hlt : i < ds.length := by rw [h.1]; exact (List.getElem?_eq_some_iff.1 hd).1
  exact h.2 i _ d (List.getElem?_eq_getElem hlt) hd _ _ _ _ _ (h2 i _ v (List.getElem?_eq_getElem hlt) hv)
theorem LeD.agg {ds ds' : List D} (h : LeL ds ds') : LeD (.agg ds) (.agg ds') := fun w F ρ L v hr => by
  obtain ⟨vs, rfl, h1, h2⟩ := hr.agg_inv
  refine .agg _ _ (h1.trans h.1) fun i d v hd hv => ?_
  have hlt : i < ds.length := by rw [h.1]; exact (List.getElem?_eq_some_iff.1 hd).1
  exact h.2 i _ d (List.getElem?_eq_getElem hlt) hd _ _ _ _ _ (h2 i _ v (List.getElem?_eq_getElem hlt) hv)

/-- nil, as an empty slice with no room behind it -/
def Nz (e tok : Nat) (d d' : D) : Prop := d' = d ∨ (d = .nilsl ∧ d' = .sl e [] (some tok))

theorem shift_nil {n0 e : Nat} {L : List Ob} : Shift n0 (Nz e L.length) L (L ++ [.spare 0]) := fun w ρ hf => by
  obtain ⟨h1, h2⟩ := hf.snoc (Ext.refl F0 w) (o := .spare 0) (l := ⟨0, 0, 0⟩) (fun b off h => by
    obtain ⟨_, h3, h4⟩ := h
    have h4 : off < 0 + 0 := h4
    omega) (fun j hj => by simp at hj)
  have hc : Compat ρ L (upd ρ L.length ⟨0, 0, 0⟩) (L ++ [.spare 0]) := .snoc _ _ _ _
  refine ⟨_, h1, fun d d' v hd hr => ?_, fun b off h => ?_, fun ρ0 L0 hl h0 => h0.trans hc⟩
  · rcases hd with rfl | ⟨rfl, rfl⟩
    · exact hr.keep (Ext.refl _ _) (h2.foot rfl) hc
    · obtain ⟨a, rfl⟩ := hr.nilsl_inv
      refine .tok _ _ _ _ (by simp) nil_tok fun n hn => ?_
      simp at hn
      subst hn
      refine ⟨Nat.le_refl _, fun _ => ?_⟩
      rw [upd_same]
      cases a with
      | none => exact ⟨rfl, rfl⟩
      | some x => exact .inr ⟨rfl, rfl⟩
  · rcases own_snoc h with h | ⟨_, h3, h4⟩
    · exact h
    · have h4 : off < 0 + 0 := h4
      omega

/-- objects seen otherwise; what a slot reads as -/
theorem weak_of {n0 : Nat} {φ : D → D → Prop} {σ σ' : List (Nat × D)} {L L' : List Ob} (hS : Shift n0 φ L L') (h : ∀ t, look σ' t = .any ∨ φ (look σ t) (look σ' t)) : Weak n0 σ L σ' L' := ⟨φ, hS, h⟩

theorem weak_trans {n0 : Nat} {σ σ1 σ2 : List (Nat × D)} {L L1 L2 : List Ob} (h : Weak n0 σ L σ1 L1) (k : Weak n0 σ1 L1 σ2 L2) : Weak n0 σ L σ2 L2 := by
  obtain ⟨φ, h1, h2⟩ := h
  obtain ⟨ψ, k1, k2⟩ := k
  refine ⟨fun d d'' => ∃ d', (d' = .any ∨ φ d d') ∧ ψ d' d'', fun w ρ hf => ?_, fun t => ?_⟩
  · obtain ⟨ρ1, a1, a2, a3, a4⟩ := h1 w ρ hf
    obtain ⟨ρ2, b1, b2, b3, b4⟩ := k1 w ρ1 a1
    refine ⟨ρ2, b1, fun d d'' v hd hr => ?_, fun b off ho => a3 b off (b3 b off ho), fun ρ0 L0 e hc => b4 ρ0 L0 e (a4 ρ0 L0 e hc)⟩
    obtain ⟨d', hd1, hd2⟩ := hd
    refine b2 d' d'' v hd2 ?_
    rcases hd1 with rfl | hd1
    · exact .pure _ _ (.any _)
    · exact a2 d d' v hd1 hr
  · rcases k2 t with h | h
    · exact .inl h
    · exact .inr ⟨_, h2 t, h⟩

theorem look_put (t : Nat) (d : D) (σ : List (Nat × D)) (u : Nat) : look ((t, d) :: σ) u = if t = u then d else look σ u := by
  simp only [look]
  by_cases h : t = u
  · subst h; simp
  · have : Nat.beq t u = false := by rw [Bool.eq_false_iff]; intro h'; exact h (Nat.eq_of_beq_eq_true h')
    rw [this, if_neg h]

theorem weak_nil {n0 : Nat} {σ : List (Nat × D)} {L : List Ob} (t e : Nat) (h : look σ t = .nilsl) : Weak n0 σ L ((t, .sl e [] (some L.length)) :: σ) (L ++ [.spare 0]) :=
  weak_of shift_nil fun u => by
    rw [look_put]
    split
    · rename_i hu; subst hu; exact .inr (.inr ⟨h, rfl⟩)
    · exact .inr (.inl rfl)

theorem weak_le {n0 : Nat} {σ : List (Nat × D)} {L : List Ob} (t : Nat) (d : D) (h : LeD (look σ t) d) : Weak n0 σ L ((t, d) :: σ) L :=
  ⟨fun a b => LeD a b, fun w ρ hf => ⟨ρ, hf, fun d d' v hd hr => hd _ _ _ _ _ hr, fun _ _ h => h, fun _ _ _ h => h⟩, fun u => by
    rw [look_put]
    split
    · rename_i hu; subst hu; exact .inr h
    · exact .inr (.refl _)⟩

theorem weak_freeze {n0 k e : Nat} {els els' : List D} {σ : List (Nat × D)} {L : List Ob} (t : Nat) (hk : L[k]? = some (.arr e els)) (hs : StripEls els els') (d' : D) (h : Fz k e els els' L.length (look σ t) d') :
    Weak n0 σ L ((t, d') :: σ) (L.set k .dead ++ [.spare els.length]) :=
  weak_of (shift_freeze hk hs) fun u => by
    rw [look_put]
    split
    · rename_i hu; subst hu; exact .inr h
    · exact .inr (.keep _)

theorem awp_weak {P : Program} {n : Nat} {E : Entry} {c : Code} {Q : Ex → List (Nat × D) → List Ob → Prop} {σ σ' : List (Nat × D)} {L L' : List Ob} (h : Weak E.L.length σ L σ' L') (hk : AWP P n E c Q σ' L') : AWP P n E c Q σ L :=
  fun a w hr => hk a w (h.rel hr)

/-- at the end: seen otherwise -/
theorem end_shift {n0 : Nat} {φ : D → D → Prop} {r r1 d : D} {L L1 L' : List Ob} (hS : Shift n0 φ L L1) (hr : φ r r1) (h : EndS n0 r1 d L1 L') (hlen : n0 ≤ L'.length) : EndS n0 r d L L' := by
  have h2 : ∃ φ, Shift n0 φ L1 L' ∧ φ r1 d := by
    rcases h with h | h
    · obtain ⟨r', hr1, hr2⟩ := renK_eq h
      obtain ⟨L3, ⟨hr3, hr4⟩, _, hS⟩ := shift_below hr2 hlen
      have hr3 := hr3.out
      have hr4 := hr4.out
      subst hr3
      subst hr4
      exact ⟨_, hS, hr1⟩
    · exact h
  obtain ⟨ψ, h3, h4⟩ := h2
  exact .inr ⟨_, hS.trans h3, r1, hr, h4⟩

theorem end_le {n0 : Nat} {r r1 d : D} {L L' : List Ob} (hr : LeD r r1) (h : EndS n0 r1 d L L') (hlen : n0 ≤ L'.length) : EndS n0 r d L L' :=
  end_shift (φ := LeD) (fun w ρ hf => ⟨ρ, hf, fun d d' v hd hr => hd _ _ _ _ _ hr, fun _ _ h => h, fun _ _ _ h => h⟩) hr h hlen

theorem end_nil {n0 e : Nat} {d : D} {L L' : List Ob} (h : EndS n0 (.sl e [] (some L.length)) d (L ++ [.spare 0]) L') (hlen : n0 ≤ L'.length) : EndS n0 .nilsl d L L' :=
  end_shift shift_nil (.inr ⟨rfl, rfl⟩) h hlen

/-- at the end, where nothing owned is handed back -/
theorem end_p {r d : D} {L : List Ob} (h : stripK r fun r' => VS (LeD r' d)) : EndS 0 r d L [] := by
  obtain ⟨r', h1, h2⟩ := stripK_eq h
  refine .inr ⟨fun a b => a = r ∧ b = d, fun w ρ hf => ⟨ρ, ⟨hf.hid, fun b off ⟨k, o, hk, _⟩ => by simp at hk, by simp, by simp⟩, ?_, fun b off ⟨k, o, hk, _⟩ => by simp at hk, fun ρ0 L0 hl hc => ?_⟩, rfl, rfl⟩
  · rintro a b v ⟨rfl, rfl⟩ hr
    refine h2.out w _ ρ [] v (.pure _ _ ((h1.2 _ _ _ _ _ hr).less fun b off hb => ?_))
    rcases hb with ⟨k, o, hk, _⟩ | hb
    · simp at hk
    · exact .inr hb
  · have : L0 = [] := List.eq_nil_of_length_eq_zero hl
    subst this
    exact ⟨hc.hid, by simp, by simp, by simp, by simp, by simp⟩

/-- the next round of a loop, seen otherwise first -/
theorem loop_end_weak {α : Type} {I : α → Prop} {S : α → List (Nat × D)} {O : α → List Ob} {μ : α → Nat} {p : α} {σ σ1 : List (Nat × D)} {L L1 : List Ob} (p' : α) (h1 : I p') (h2 : μ p' < μ p) {n0 : Nat}
    (hw : Weak n0 σ L σ1 L1) (hn : n0 ≤ (O p').length) (h3 : WeakC σ1 L1 (S p') (O p')) : LoopEnd n0 I S O μ p σ L := ⟨p', h1, h2, .inr (weak_trans hw (h3.weak hn))⟩

/-- these objects are kept, under the numbers of their places -/
def WeakJ (js : List Nat) (σ : List (Nat × D)) (L : List Ob) (σ' : List (Nat × D)) (L' : List Ob) : Prop :=
  keepK (keepAt js 0) js L (fun L'' => VS (L'' = L')) ∧ weakS (keepAt js 0) σ σ'

theorem weak_keep {n0 : Nat} (js : List Nat) {σ σ' : List (Nat × D)} {L L' : List Ob} (hnd : nodupB js = true) (hst : startB js 0 n0 = true) (h : WeakJ js σ L σ' L') : Weak n0 σ L σ' L' := by
  obtain ⟨L'', h1, h2⟩ := shift_keep hnd hst h.1
  have := h1.out
  subst this
  exact ⟨_, h2, weakS_look h.2⟩

theorem loop_keep {α : Type} {I : α → Prop} {S : α → List (Nat × D)} {O : α → List Ob} {μ : α → Nat} {p : α} {σ : List (Nat × D)} {L : List Ob} (js : List Nat) (p' : α) (h1 : I p') (h2 : μ p' < μ p) {n0 : Nat}
    (hnd : nodupB js = true) (hst : startB js 0 n0 = true) (h3 : WeakJ js σ L (S p') (O p')) : LoopEnd n0 I S O μ p σ L := ⟨p', h1, h2, .inr (weak_keep js hnd hst h3)⟩

end Go.Plat
