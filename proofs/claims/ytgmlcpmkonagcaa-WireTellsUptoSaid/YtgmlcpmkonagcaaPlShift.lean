/-
  Another view of the same world: objects dropped, numbered anew, given up.
-/
import Derived.Test.YtgmlcpmkonagcaaPlFw12
namespace Go.Plat
open Go
set_option linter.unusedVariables false
set_option linter.unusedSimpArgs false

/-- whatever fits the first objects fits the others; what φ relates reads as the second where it read as the first -/
def Shift (n0 : Nat) (φ : D → D → Prop) (L L' : List Ob) : Prop :=
  ∀ (w : World) (ρ : Pl), Fits w ρ L → ∃ ρ' : Pl, Fits w ρ' L' ∧ (∀ d d' v, φ d d' → Rep w (foot ρ L) ρ L d v → Rep w (foot ρ' L') ρ' L' d' v) ∧ (∀ b off, own ρ' L' b off → own ρ L b off) ∧
    ∀ (ρ0 : Pl) (L0 : List Ob), L0.length = n0 → Compat ρ0 L0 ρ L → Compat ρ0 L0 ρ' L'

theorem Shift.refl (n0 : Nat) (L : List Ob) : Shift n0 (fun d d' => d = d') L L := fun w ρ hf => ⟨ρ, hf, fun d d' v h hr => by subst h; exact hr, fun _ _ h => h, fun _ _ _ h => h⟩

theorem Shift.trans {n0 : Nat} {φ ψ : D → D → Prop} {L L' L'' : List Ob} (h : Shift n0 φ L L') (k : Shift n0 ψ L' L'') : Shift n0 (fun d d'' => ∃ d', φ d d' ∧ ψ d' d'') L L'' := fun w ρ hf => by
  obtain ⟨ρ1, h1, h2, h3, h4⟩ := h w ρ hf
  obtain ⟨ρ2, k1, k2, k3, k4⟩ := k w ρ1 h1
  exact ⟨ρ2, k1, fun d d'' v ⟨d', h5, h6⟩ hr => k2 d' d'' v h6 (h2 d d' v h5 hr), fun b off ho => h3 b off (k3 b off ho), fun ρ0 L0 e hc => k4 ρ0 L0 e (h4 ρ0 L0 e hc)⟩

/-- reads the same, and touches nothing owned -/
def StripOf (d d' : D) : Prop := ∀ (w : World) (F : Nat → Nat → Prop) (ρ : Pl) (L : List Ob) (v : Value), Rep w F ρ L d v → RepP w F d' v

/-- elements of an array, as elements of a slice -/
structure StripEls (els els' : List D) : Prop where
  len : els.length = els'.length
  cells : ∀ (i : Nat) d d', els[i]? = some d → els'[i]? = some d' → d.cells.length = d'.cells.length ∧ allOne d'.cells = true ∧ ∀ (j : Nat) c c', d.cells[j]? = some c → d'.cells[j]? = some c' → StripOf c c'

/-- an array, given up -/
inductive Fz (k e : Nat) (els els' : List D) (tok : Nat) : D → D → Prop
  | keep (d : D) : Fz k e els els' tok d d
  | here (n len : Nat) (hn : n = els.length) (hl : len = els.length) : Fz k e els els' tok (.osl e k n 0 len) (.sl e els' (some tok))
  | agg (ds ds' : List D) (hl : ds.length = ds'.length) (h : ∀ (i : Nat) d d', ds[i]? = some d → ds'[i]? = some d' → Fz k e els els' tok d d') : Fz k e els els' tok (.agg ds) (.agg ds')
  | tup (ds ds' : List D) (hl : ds.length = ds'.length) (h : ∀ (i : Nat) d d', ds[i]? = some d → ds'[i]? = some d' → Fz k e els els' tok d d') : Fz k e els els' tok (.tup ds) (.tup ds')

theorem app_get {α : Type} {L : List α} {o x : α} {k j : Nat} {d : α} (h : ((L.set k d) ++ [o])[j]? = some x) : (j < L.length ∧ (L.set k d)[j]? = some x) ∨ (j = L.length ∧ o = x) := by
  rcases snoc_get h with h | h
  · exact .inl ⟨by simpa using h.1, h.2⟩
  · exact .inr ⟨by simpa using h.1, h.2⟩

theorem shift_freeze {n0 k e : Nat} {els els' : List D} {L : List Ob} (hk : L[k]? = some (.arr e els)) (hs : StripEls els els') :
    Shift n0 (Fz k e els els' L.length) L (L.set k .dead ++ [.spare els.length]) := fun w ρ hf => by
  have hkl : k < L.length := (List.getElem?_eq_some_iff.1 hk).1
  obtain ⟨o1, o2, o3, o4⟩ := hf.obj k _ hk
  let l' : Loc := ⟨(ρ k).block, (ρ k).off + els.length * e, (ρ k).cap - els.length * e⟩
  let ρ' : Pl := upd ρ L.length l'
  have hnew : ρ' L.length = l' := upd_same _ _ _
  have hold : ∀ j, j < L.length → ρ' j = ρ j := fun j hj => upd_ne (by omega)
  have hc : Compat ρ L ρ' (L.set k .dead ++ [.spare els.length]) := by
    refine ⟨rfl, by simp, fun j ds hj h => ?_, fun j ds hj h => ?_, fun j n hj h => ?_, fun j e' ds hj h => ?_⟩
    all_goals
      rcases app_get h with ⟨_, h1⟩ | ⟨h1, _⟩
      · rcases set_get h1 with ⟨_, h2⟩ | ⟨_, h2⟩
        · cases h2
        · first
            | exact ⟨_, h2, hold j hj⟩
            | exact ⟨_, h2, Nat.le_refl _, fun _ => hold j hj⟩
      · omega
  have hown : ∀ b off, own ρ' (L.set k .dead ++ [.spare els.length]) b off → own ρ L b off := by
    rintro b off ⟨j, o, h1, h2⟩
    rcases app_get h1 with ⟨hj, h3⟩ | ⟨rfl, rfl⟩
    · rw [hold j hj] at h2
      rcases set_get h3 with ⟨_, h4⟩ | ⟨_, h4⟩
      · subst h4; exact h2.elim
      · exact ⟨j, o, h4, h2⟩
    · rw [hnew] at h2
      obtain ⟨h3, h4, h5⟩ := h2
      have h4 : (ρ k).off + els.length * e ≤ off := h4
      have h5 : off < (ρ k).off + els.length * e + ((ρ k).cap - els.length * e) := h5
      exact ⟨k, _, hk, h3, by omega, by omega⟩
  have hfr : Fresh w (own ρ L) (own ρ' (L.set k .dead ++ [.spare els.length])) := fun b off h => .inl (hown b off h)
  have hff := hfr.foot (ρ' := ρ') rfl
  have keepP : ∀ {d v}, RepP w (foot ρ L) d v → RepP w (foot ρ' (L.set k .dead ++ [.spare els.length])) d v := fun h => h.keep (Ext.refl _ _) hff
  have hfits : Fits w ρ' (L.set k .dead ++ [.spare els.length]) := by
    refine hf.change F0 (fun _ _ h => h.elim) (Ext.refl _ _) hc hfr (fun j j' x x' b off h1 h2 h3 h4 => ?_) (fun j o hj => ?_)
    · have g : ∀ (j : Nat) x, (L.set k .dead ++ [.spare els.length])[j]? = some x → x.owns (ρ' j) b off → (j < L.length ∧ j ≠ k ∧ L[j]? = some x ∧ x.owns (ρ j) b off) ∨ (j = L.length ∧ Ob.owns (.arr e els) (ρ k) b off) := by
        intro j x h1 h2
        rcases app_get h1 with ⟨hj, h3⟩ | ⟨rfl, rfl⟩
        · rw [hold j hj] at h2
          rcases set_get h3 with ⟨_, h4⟩ | ⟨h5, h4⟩
          · subst h4; exact h2.elim
          · exact .inl ⟨hj, h5, h4, h2⟩
        · rw [hnew] at h2
          obtain ⟨h3, h4, h5⟩ := h2
          have h4 : (ρ k).off + els.length * e ≤ off := h4
          have h5 : off < (ρ k).off + els.length * e + ((ρ k).cap - els.length * e) := h5
          exact .inr ⟨rfl, h3, by omega, by omega⟩
      rcases g j x h1 h3 with ⟨_, g1, g2, g3⟩ | ⟨g1, g3⟩ <;> rcases g j' x' h2 h4 with ⟨_, k1, k2, k3⟩ | ⟨k1, k3⟩
      · exact hf.disj _ _ _ _ _ _ g2 k2 g3 k3
      · exact (g1 (hf.disj _ _ _ _ _ _ g2 hk g3 k3)).elim
      · exact (k1 (hf.disj _ _ _ _ _ _ k2 hk k3 g3)).elim
      · omega
    · rcases app_get hj with ⟨hjl, h1⟩ | ⟨rfl, rfl⟩
      · rcases set_get h1 with ⟨_, h2⟩ | ⟨h2, h3⟩
        · subst h2; exact .inr trivial
        · exact .inl ⟨hjl, h3, hold j hjl, fun _ _ _ h => h⟩
      · refine .inr fun q hq => ?_
        rw [hnew] at hq ⊢
        have hq : q < (ρ k).cap - els.length * e := hq
        have := o4 (els.length * e + q) (by omega)
        rw [← Nat.add_assoc] at this
        exact this
  refine ⟨ρ', hfits, fun d d' v hφ hr => ?_, hown, fun ρ0 L0 hL0 hc0 => ?_⟩
  · induction hφ generalizing v with
    | keep d => exact hr.keep (Ext.refl _ _) hff hc
    | here n len hn hl =>
      obtain ⟨a, cap, rfl, _, ⟨c1, c2⟩, hm⟩ := hr.osl_inv
      obtain ⟨_, _, hm⟩ := hm _ _ hk
      obtain ⟨m1, m2, m3⟩ := hm hn.symm
      simp only [Nat.zero_mul, Nat.add_zero, Nat.zero_add] at m1 m2 m3
      subst hl
      refine .tok _ _ _ _ (by simp) ?_ fun q hq => ?_
      · rcases (show cap = 0 ∨ a = some ⟨(ρ k).block, (ρ k).off, none⟩ from m1.elim .inl fun h => h.imp c2 id) with hz | rfl
        · have := hz
          have h0 : els'.length = 0 := by rw [← hs.len]; omega
          have h1 : els.length = 0 := by omega
          have h2 : els' = [] := List.eq_nil_of_length_eq_zero h0
          subst h2
          rw [h1]
          subst this
          exact .slnil _ _
        · have back : ∀ (i : Nat) d' (j : Nat) c', els'[i]? = some d' → d'.cells[j]? = some c' → ∃ u, w.cell? ⟨(ρ k).block, (ρ k).off + (i * e + j), none⟩ = some u ∧ RepP w (foot ρ L) c' u := by
            intro i d' j c' hi hj
            have hil : i < els.length := by rw [hs.len]; exact (List.getElem?_eq_some_iff.1 hi).1
            have hi0 := List.getElem?_eq_getElem hil
            obtain ⟨h1, _, h2⟩ := hs.cells i _ d' hi0 hi
            have hjl : j < (els[i]).cells.length := by rw [h1]; exact (List.getElem?_eq_some_iff.1 hj).1
            obtain ⟨u, h3, h4⟩ := o3 i _ j _ hi0 (List.getElem?_eq_getElem hjl)
            exact ⟨u, h3, h2 j _ c' (List.getElem?_eq_getElem hjl) hj _ _ _ _ _ h4⟩
          rw [hs.len]
          refine .sl e els' (ρ k).block (ρ k).off cap (fun i j => (w.cell? ⟨(ρ k).block, (ρ k).off + (i * e + j), none⟩).getD undef) (by rw [← hs.len]; exact c1) (fun i d' hi => ?_) (fun i d' j c' hi hj => ?_) (fun i d' j c' hi hj => ?_) fun i d' j c' hi hj => ?_
          · have hil : i < els.length := by rw [hs.len]; exact (List.getElem?_eq_some_iff.1 hi).1
            have hi0 := List.getElem?_eq_getElem hil
            rw [← (hs.cells i _ d' hi0 hi).1]
            exact o2 i _ hi0
          · obtain ⟨u, h3, _⟩ := back i d' j c' hi hj
            have hil : i < els.length := by rw [hs.len]; exact (List.getElem?_eq_some_iff.1 hi).1
            have hi0 := List.getElem?_eq_getElem hil
            have hjl : j < e := by
              rw [← o2 i _ hi0, (hs.cells i _ d' hi0 hi).1]; exact (List.getElem?_eq_some_iff.1 hj).1
            have hin := row_lt hil hjl
            refine ⟨by rw [h3]; rfl, fun hF => ?_⟩
            rcases hF with ⟨q, o, h5, h6⟩ | h5
            · rcases app_get h5 with ⟨hq, h7⟩ | ⟨rfl, rfl⟩
              · rw [hold q hq] at h6
                rcases set_get h7 with ⟨_, h8⟩ | ⟨h9, h8⟩
                · subst h8; exact h6
                · exact h9 (hf.disj _ _ _ _ _ _ h8 hk h6 ⟨rfl, by omega, by omega⟩)
              · rw [hnew] at h6
                obtain ⟨_, h7, _⟩ := h6
                have h7 : (ρ k).off + els.length * e ≤ (ρ k).off + (i * e + j) := h7
                omega
            · exact hf.sep _ _ ⟨k, _, hk, rfl, by omega, by omega⟩ h5
          · obtain ⟨u, h3, h4⟩ := back i d' j c' hi hj
            have hil : i < els.length := by rw [hs.len]; exact (List.getElem?_eq_some_iff.1 hi).1
            have hi0 := List.getElem?_eq_getElem hil
            rw [h3]
            exact oneD_cell (.pure (L := L) (ρ := ρ) _ _ h4) (allOne_mem (hs.cells i _ d' hi0 hi).2.1 j _ hj)
          · obtain ⟨u, h3, h4⟩ := back i d' j c' hi hj
            rw [h3, ← hs.len]
            exact keepP h4
      · have hq : q = els.length := by
          rw [List.getElem?_append_right (by simp)] at hq
          simp at hq
          exact hq.symm
        refine ⟨by rw [hq, hs.len]; exact Nat.le_refl _, fun _ => ?_⟩
        rw [hnew]
        rcases (show cap = 0 ∨ a = some ⟨(ρ k).block, (ρ k).off, none⟩ from m1.elim .inl fun h => h.imp c2 id) with hz | rfl
        · subst hz
          have h1 : els.length = 0 := by omega
          have hz : (ρ k).cap - els.length * e = 0 := by rw [← m2]; simp
          cases a with
          | none => exact ⟨rfl, hz⟩
          | some x => exact .inr ⟨h1.symm, hz⟩
        · refine .inl ⟨rfl, rfl, ?_⟩
          show (ρ k).cap - els.length * e = (cap - els.length) * e
          rw [← m2, Nat.sub_mul]
    | agg ds ds' hl _ ih =>
      obtain ⟨vs, rfl, h1, h2⟩ := hr.agg_inv
      refine .agg _ _ (h1.trans hl) fun i d' v hd hv => ?_
      have hil : i < ds.length := by rw [hl]; exact (List.getElem?_eq_some_iff.1 hd).1
      exact ih i _ d' (List.getElem?_eq_getElem hil) hd v (h2 i _ v (List.getElem?_eq_getElem hil) hv)
    | tup ds ds' hl _ ih =>
      obtain ⟨vs, rfl, h1, h2⟩ := hr.tup_inv
      refine .tup _ _ (h1.trans hl) fun i d' v hd hv => ?_
      have hil : i < ds.length := by rw [hl]; exact (List.getElem?_eq_some_iff.1 hd).1
      exact ih i _ d' (List.getElem?_eq_getElem hil) hd v (h2 i _ v (List.getElem?_eq_getElem hil) hv)
  · exact hc0.trans hc

end Go.Plat
