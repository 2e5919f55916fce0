/-
  Stores into owned variables and arrays.
-/
import Derived.Test.YtgmlcpmkonagcaaPlFw8
import Derived.Laws.IdiomCopy
namespace Go.Plat
open Go
set_option linter.unusedVariables false
set_option linter.unusedSimpArgs false

theorem setCells_other (b : Nat) : ∀ (vs : List Value) (o : Nat) (w : World) (b' x : Nat), (b' = b → x < o ∨ o + vs.length ≤ x) → (w.setCells b o vs).cell? ⟨b', x, none⟩ = w.cell? ⟨b', x, none⟩
  | [], _, _, _, _, _ => rfl
  | v :: r, o, w, b', x, h => by
    simp only [World.setCells]
    rw [setCells_other b r (o + 1) _ b' x (fun e => by have := h e; simp at this; omega)]
    exact World.cell?_setCell_other _ _ _ _ (fun e => by
      simp only [Addr.mk.injEq] at e
      have := h e.1.symm
      simp at this
      omega)

theorem setCells_at (b : Nat) : ∀ (vs : List Value) (o : Nat) (w : World) (j : Nat), j < vs.length → (∀ k, k < vs.length → ∃ u, w.cell? ⟨b, o + k, none⟩ = some u) →
    (w.setCells b o vs).cell? ⟨b, o + j, none⟩ = vs[j]?
  | [], _, _, j, h, _ => by simp at h
  | v :: r, o, w, j, h, hc => by
    simp only [World.setCells]
    cases j with
    | zero =>
      rw [setCells_other b r (o + 1) _ b (o + 0) (fun _ => by omega)]
      obtain ⟨u, hu⟩ := hc 0 (by simp)
      simp only [Nat.add_zero] at hu ⊢
      rw [World.cell?_setCell_same _ _ _ hu]
      rfl
    | succ j =>
      rw [show o + (j + 1) = o + 1 + j by omega, setCells_at b r (o + 1) _ j (by simpa using h) (fun k hk => ?_)]
      · rfl
      · obtain ⟨u, hu⟩ := hc (k + 1) (by simp; omega)
        refine ⟨u, ?_⟩
        rw [World.cell?_setCell_other _ _ _ _ (by simp), show o + 1 + k = o + (k + 1) by omega]; exact hu

theorem setCells_same (b : Nat) : ∀ (vs : List Value) (o : Nat) (w : World), (w.setCells b o vs).heap.size = w.heap.size ∧ (w.setCells b o vs).os = w.os ∧ (w.setCells b o vs).tape = w.tape ∧
    (w.setCells b o vs).output = w.output ∧ (∀ a, (w.setCells b o vs).frozen? a = w.frozen? a) ∧ ∀ k, k ≠ b → (w.setCells b o vs).heap[k]? = w.heap[k]?
  | [], _, _ => ⟨rfl, rfl, rfl, rfl, fun _ => rfl, fun _ _ => rfl⟩
  | v :: r, o, w => by
    obtain ⟨h1, h2, h3, h4, h5, h6⟩ := setCells_same b r (o + 1) (w.setCell ⟨b, o, none⟩ v)
    exact ⟨by rw [World.setCells, h1]; simp, h2, h3, h4, fun a => by rw [World.setCells, h5, World.frozen?_setCell],
      fun k hk => by
        rw [World.setCells, h6 k hk]
        exact RowKit.Below.heap_setCell _ _ _ _ hk⟩

theorem Ext.setCells (w : World) (b o : Nat) (vs : List Value) : Ext (fun b' x => b' = b ∧ o ≤ x ∧ x < o + vs.length) w (w.setCells b o vs) := by
  obtain ⟨h1, h2, h3, h4, h5, h6⟩ := setCells_same b vs o w
  refine ⟨h2, h3, h4, by omega, fun k _ hk => ?_, fun k x _ hk => ?_, fun k x _ _ => h5 _⟩
  · by_cases hkb : k = b
    · cases vs with
      | nil => rfl
      | cons v vs => exact (hk o ⟨hkb, Nat.le_refl _, by simp⟩).elim
    · exact h6 k hkb
  · exact setCells_other _ _ _ _ _ _ fun e => by
      rcases Nat.lt_or_ge x o with h | h
      · exact .inl h
      · rcases Nat.lt_or_ge x (o + vs.length) with h' | h'
        · exact (hk ⟨e, h, h'⟩).elim
        · exact .inr h'

/-! literal lists, one place put anew -/
def putK : Nat → List D → List D → (List D → Prop) → Prop
  | 0, [], ds, K => K ds
  | 0, _ :: _, [], _ => False
  | 0, c :: cs, _ :: ds, K => putK 0 cs ds fun r => K (c :: r)
  | _ + 1, _, [], _ => False
  | n + 1, cs, d :: ds, K => putK n cs ds fun r => K (d :: r)

theorem putK_eq : ∀ {n : Nat} {cs ds : List D} {K : List D → Prop}, putK n cs ds K → ∃ r, K r ∧ r.length = ds.length ∧ n + cs.length ≤ ds.length ∧
    ∀ k, r[k]? = if n ≤ k ∧ k < n + cs.length then cs[k - n]? else ds[k]?
  | 0, [], ds, K, h => ⟨ds, by simpa [putK] using h, rfl, by simp, fun k => by simp⟩
  | 0, c :: cs, [], K, h => by simp [putK] at h
  | 0, c :: cs, d :: ds, K, h => by
    simp only [putK] at h
    obtain ⟨r, h1, h2, h3, h4⟩ := putK_eq h
    refine ⟨c :: r, h1, by simp [h2], by simp; omega, fun k => ?_⟩
    cases k with
    | zero => simp
    | succ k =>
      have := h4 k
      simp only [Nat.zero_le, true_and, Nat.zero_add, Nat.sub_zero] at this ⊢
      simp only [List.getElem?_cons_succ, this, List.length_cons]
      by_cases hk : k < cs.length
      · rw [if_pos hk, if_pos (by omega)]
      · rw [if_neg hk, if_neg (by omega)]
  | n + 1, cs, [], K, h => by cases cs <;> simp [putK] at h
  | n + 1, cs, d :: ds, K, h => by
    have h : putK n cs ds fun r => K (d :: r) := by cases cs <;> simpa [putK] using h
    obtain ⟨r, h1, h2, h3, h4⟩ := putK_eq h
    refine ⟨d :: r, h1, by simp [h2], by simp; omega, fun k => ?_⟩
    cases k with
    | zero => simp
    | succ k =>
      simp only [List.getElem?_cons_succ, h4 k]
      by_cases hk : n ≤ k ∧ k < n + cs.length
      · rw [if_pos hk, if_pos (by omega), show k + 1 - (n + 1) = k - n by omega]
      · rw [if_neg hk, if_neg (by omega)]

def setLK : Nat → Ob → List Ob → (List Ob → Prop) → Prop
  | _, _, [], _ => False
  | 0, o, _ :: L, K => K (o :: L)
  | n + 1, o, x :: L, K => setLK n o L fun r => K (x :: r)

theorem setLK_eq : ∀ {n : Nat} {o : Ob} {L : List Ob} {K : List Ob → Prop}, setLK n o L K → K (L.set n o)
  | n, o, [], K, h => by cases n <;> simp [setLK] at h
  | 0, o, x :: L, K, h => by simpa [setLK] using h
  | n + 1, o, x :: L, K, h => by
    simp only [setLK] at h
    simpa using setLK_eq h

theorem set_get {α : Type} {L : List α} {k j : Nat} {o x : α} (h : (L.set k o)[j]? = some x) : (j = k ∧ x = o) ∨ (j ≠ k ∧ L[j]? = some x) := by
  by_cases hjk : j = k
  · subst hjk
    rw [List.getElem?_set_self'] at h
    cases hL : L[j]? with
    | none => simp [hL] at h
    | some y => simp [hL] at h; exact .inl ⟨rfl, h.symm⟩
  · rw [List.getElem?_set_ne (by omega)] at h
    exact .inr ⟨hjk, h⟩

/-- an owned object with other contents, where it was -/
theorem Fits.setObj {w w' : World} {ρ : Pl} {L : List Ob} (hf : Fits w ρ L) {k : Nat} {o o' : Ob} (hk : L[k]? = some o)
    (hsame : ∀ b off, o'.owns (ρ k) b off ↔ o.owns (ρ k) b off)
    (hkind : (∃ ds ds', o = .cells ds ∧ o' = .cells ds') ∨ (∃ e ds ds', o = .arr e ds ∧ o' = .arr e ds' ∧ ds'.length = ds.length) ∨ (∃ es es', o = .map es ∧ o' = .map es'))
    (he : Ext (fun b off => o.owns (ρ k) b off) w w') (ho : Compat ρ L ρ (L.set k o') → Fresh w (foot ρ L) (foot ρ (L.set k o')) → Ext (foot ρ L) w w' → ObFits w' (foot ρ (L.set k o')) ρ (L.set k o') (ρ k) o') :
    Fits w' ρ (L.set k o') ∧ Ext (own ρ L) w w' ∧ Fresh w (own ρ L) (own ρ (L.set k o')) ∧ Compat ρ L ρ (L.set k o') := by
  have hc : Compat ρ L ρ (L.set k o') := by
    refine ⟨rfl, by simp, fun j ds' hj h => ?_, fun j ds' hj h => ?_, fun j n hj h => ?_, fun j e ds' hj h => ?_⟩
    · rcases set_get h with ⟨rfl, h1⟩ | ⟨_, h1⟩
      · rcases hkind with ⟨ds, ds'', rfl, rfl⟩ | ⟨_, _, _, _, h2, _⟩ | ⟨_, _, _, h2⟩
        · exact ⟨ds, hk, rfl⟩
        · rw [h2] at h1; cases h1
        · rw [h2] at h1; cases h1
      · exact ⟨ds', h1, rfl⟩
    · rcases set_get h with ⟨rfl, h1⟩ | ⟨_, h1⟩
      · rcases hkind with ⟨ds, ds'', h2, h3⟩ | ⟨_, _, _, _, h2, _⟩ | ⟨es, _, h2, h3⟩
        · rw [h3] at h1; cases h1
        · rw [h2] at h1; cases h1
        · exact ⟨es, by rw [← h2]; exact hk, rfl⟩
      · exact ⟨ds', h1, rfl⟩
    · rcases set_get h with ⟨rfl, h1⟩ | ⟨_, h1⟩
      · rcases hkind with ⟨ds, ds'', h2, h3⟩ | ⟨_, _, _, _, h2, _⟩ | ⟨es, _, h2, h3⟩
        · rw [h3] at h1; cases h1
        · rw [h2] at h1; cases h1
        · rw [h3] at h1; cases h1
      · exact ⟨n, h1, Nat.le_refl _, fun _ => rfl⟩
    · rcases set_get h with ⟨rfl, h1⟩ | ⟨_, h1⟩
      · rcases hkind with ⟨ds, ds'', h2, h3⟩ | ⟨e', ds, ds'', h2, h3, h4⟩ | ⟨es, _, h2, h3⟩
        · rw [h3] at h1; cases h1
        · rw [h3] at h1
          cases h1
          exact ⟨ds, by rw [← h2]; exact hk, by omega, fun _ => rfl⟩
        · rw [h3] at h1; cases h1
      · exact ⟨ds', h1, Nat.le_refl _, fun _ => rfl⟩
  have hfoot : ∀ b off, own ρ (L.set k o') b off → own ρ L b off := by
    rintro b off ⟨j, x, h1, h2⟩
    rcases set_get h1 with ⟨rfl, h3⟩ | ⟨_, h3⟩
    · subst h3
      exact ⟨j, o, hk, (hsame _ _).1 h2⟩
    · exact ⟨j, x, h3, h2⟩
  have hfr : Fresh w (own ρ L) (own ρ (L.set k o')) := fun b off h => .inl (hfoot b off h)
  have hF : ∀ b off, o.owns (ρ k) b off → own ρ L b off := fun b off h => ⟨k, o, hk, h⟩
  have he' : Ext (own ρ L) w w' := he.mono fun b off _ h => hF b off h
  refine ⟨hf.change _ hF he hc hfr (fun j j' x x' b off h1 h2 h3 h4 => ?_) (fun j x hj => ?_), he', hfr, hc⟩
  · have g : ∀ (j : Nat) x, (L.set k o')[j]? = some x → x.owns (ρ j) b off → ∃ y, L[j]? = some y ∧ y.owns (ρ j) b off := by
      intro q z hq hz
      rcases set_get hq with ⟨e1, e2⟩ | ⟨_, e2⟩
      · rw [e1] at hz ⊢
        rw [e2] at hz
        exact ⟨o, hk, (hsame _ _).1 hz⟩
      · exact ⟨z, e2, hz⟩
    obtain ⟨y, h5, h6⟩ := g _ _ h1 h3
    obtain ⟨y', h7, h8⟩ := g _ _ h2 h4
    exact hf.disj _ _ _ _ _ _ h5 h7 h6 h8
  · rcases set_get hj with ⟨h1, h3⟩ | ⟨h0, h3⟩
    · subst h1; subst h3
      exact .inr (ho hc (hfr.foot rfl) he'.foot)
    · refine .inl ⟨(List.getElem?_eq_some_iff.1 h3).1, h3, rfl, fun b off h1 h2 => ?_⟩
      exact h0 (hf.disj _ _ _ _ _ _ h3 hk h1 h2)

def storeOp (T : Tab) (t : Nat) (x v : D) (L : List Ob) (K : D → List Ob → Prop) : Prop :=
  match ty T t with
  | some i => cellsK v fun cs => match Nat.beq cs.length i.size with
    | true => match allOne cs with
      | true => match x with
        | .loc k off => nthK k L fun o => match o with
          | .cells ds => putK off cs ds fun ds => setLK k (.cells ds) L fun L => K .any L
          | _ => False
        | .aloc k n q off => nthK k L fun o => match o with
          | .arr e els => VS (SideS (n = els.length) (VS (IdxS els (q : Int) fun d => match d with
            | .agg ds => putK off cs ds fun ds => VS (NormL (els.set q (.agg ds)) fun r _ => setLK k (.arr e r) L fun L => K .any L)
            | _ => match off with
              | 0 => match cs with
                | [c] => VS (NormL (els.set q c) fun r _ => setLK k (.arr e r) L fun L => K .any L)
                | _ => False
              | _ => False)))
          | _ => False
        | _ => False
      | false => False
    | false => False
  | none => False

theorem storeVar_run {P : Program} {t : Nat} {i : TI} (hi : TIOk P t i) {w : World} {b o : Nat} {v : Value} (hs : v.cells.toList.length = i.size)
    (hc : ∀ j, j < v.cells.toList.length → ∃ u, w.cell? ⟨b, o + j, none⟩ = some u) (hz : ∀ j, j < v.cells.toList.length → w.frozen? ⟨b, o + j, none⟩ = false) (h1 : ∀ u ∈ v.cells.toList, u.oneCell' = true) :
    (storeVar t ⟨b, o, none⟩ v).run P w = .ok () (w.setCells b o v.cells.toList) := by
  have hs' : v.cells.size = i.size := by simpa using hs
  have := run_storeCells_cells (P := P) b o v.cells.toList 0 w (fun j hj => by obtain ⟨u, hu⟩ := hc j hj; simp [hu]) (by simpa using hz) h1
  simp only [storeVar, Sem.run_bind, hi.sizeRun, Result.andThen, hs', ne_eq, not_true_eq_false, if_false, Sem.run_pure]
  simpa using this

theorem Compat.setArr {ρ : Pl} {L : List Ob} {k e : Nat} {ds ds' : List D} {l' : Loc} (hk : L[k]? = some (.arr e ds)) (hnm : ds.length ≤ ds'.length) (hl : ds.length = ds'.length → l' = ρ k) : Compat ρ L (upd ρ k l') (L.set k (.arr e ds')) where
  hid := rfl
  len := by simp
  cells j ds hj h := by
    rcases set_get h with ⟨_, e2⟩ | ⟨e1, e2⟩
    · cases e2
    · exact ⟨ds, e2, upd_ne e1⟩
  map j ds hj h := by
    rcases set_get h with ⟨_, e2⟩ | ⟨e1, e2⟩
    · cases e2
    · exact ⟨ds, e2, upd_ne e1⟩
  spare j m' hj h := by
    rcases set_get h with ⟨e1, e2⟩ | ⟨e1, e2⟩
    · cases e2
    · exact ⟨m', e2, Nat.le_refl _, fun _ => upd_ne e1⟩
  arr j e' ds2 hj h := by
    rcases set_get h with ⟨e1, e2⟩ | ⟨e1, e2⟩
    · cases e2
      subst e1
      exact ⟨ds, hk, hnm, fun e => by rw [upd_same, hl e]⟩
    · exact ⟨ds2, e2, Nat.le_refl _, fun _ => upd_ne e1⟩

/-- cells of one element of an array put anew -/
theorem storeArr {P : Program} {w : World} {ρ : Pl} {L : List Ob} (hf : Fits w ρ L) {k e q off : Nat} {els : List D} {el el' : D} {cs : List D} {us : List Value} (hk : L[k]? = some (.arr e els)) (hq : els[q]? = some el)
    (hl' : el'.cells.length = e) (hle : off + cs.length ≤ e) (hget : ∀ j, el'.cells[j]? = if off ≤ j ∧ j < off + cs.length then cs[j - off]? else el.cells[j]?)
    (hus : us.length = cs.length) (hr : ∀ (j : Nat) c u, cs[j]? = some c → us[j]? = some u → Rep w (foot ρ L) ρ L c u) :
    (∀ j, j < us.length → (∃ u, w.cell? ⟨(ρ k).block, (ρ k).off + (q * e + off) + j, none⟩ = some u) ∧ w.frozen? ⟨(ρ k).block, (ρ k).off + (q * e + off) + j, none⟩ = false) ∧
    Post w ρ L .any (L.set k (.arr e (els.set q el'))) undef (w.setCells (ρ k).block ((ρ k).off + (q * e + off)) us) ρ := by
  obtain ⟨h1, h2, h3, h4⟩ := hf.obj k _ hk
  have hql : q < els.length := (List.getElem?_eq_some_iff.1 hq).1
  have hqe : q * e + e ≤ els.length * e := by
    have := Nat.mul_le_mul_right e hql
    rwa [Nat.succ_mul] at this
  have hin : ∀ j, j < us.length → (∃ u, w.cell? ⟨(ρ k).block, (ρ k).off + (q * e + off) + j, none⟩ = some u) ∧ w.frozen? ⟨(ρ k).block, (ρ k).off + (q * e + off) + j, none⟩ = false := fun j hj => by
    rw [Nat.add_assoc]; exact h4 _ (by omega)
  refine ⟨hin, ?_⟩
  have hsame := setCells_same (ρ k).block us ((ρ k).off + (q * e + off)) w
  have hext := (Ext.setCells w (ρ k).block ((ρ k).off + (q * e + off)) us).mono (F' := fun b x => Ob.owns (.arr e els) (ρ k) b x) fun b x _ ⟨e1, e2, e3⟩ => ⟨e1, by omega, by omega⟩
  obtain ⟨g1, g2, g3, g4⟩ := hf.setObj (o' := .arr e (els.set q el')) hk (fun b x => by simp only [Ob.owns]) (.inr (.inl ⟨e, els, _, rfl, rfl, by simp⟩)) hext fun hcm hfr hex => by
    refine ⟨by simpa using h1, fun i d hi => ?_, fun i d j c hi hj => ?_, fun j hj => ?_⟩
    · rcases set_get hi with ⟨_, e2⟩ | ⟨_, e2⟩
      · rw [e2]; exact hl'
      · exact h2 i d e2
    · rcases set_get hi with ⟨e1, e2⟩ | ⟨e1, e2⟩
      · subst e1; subst e2
        have hje : j < e := by rw [← hl']; exact (List.getElem?_eq_some_iff.1 hj).1
        rw [hget] at hj
        split at hj
        · rename_i hb
          have hjl : j - off < us.length := by omega
          have hat := setCells_at (ρ k).block us ((ρ k).off + (i * e + off)) w (j - off) hjl fun x hx => (hin x hx).1
          rw [show (ρ k).off + (i * e + off) + (j - off) = (ρ k).off + (i * e + j) by omega] at hat
          exact ⟨us[j - off], by rw [hat]; exact List.getElem?_eq_getElem hjl, (hr (j - off) c _ hj (List.getElem?_eq_getElem hjl)).keep hex hfr hcm⟩
        · rename_i hb
          obtain ⟨u, h5, h6⟩ := h3 i el j c hq hj
          refine ⟨u, ?_, h6.keep hex hfr hcm⟩
          rw [setCells_other _ _ _ _ _ _ (fun _ => by omega)]
          exact h5
      · obtain ⟨u, h5, h6⟩ := h3 i d j c e2 hj
        refine ⟨u, ?_, h6.keep hex hfr hcm⟩
        have hje : j < e := by rw [← h2 i d e2]; exact (List.getElem?_eq_some_iff.1 hj).1
        rw [setCells_other _ _ _ _ _ _ (fun _ => by
          rcases Nat.lt_or_gt_of_ne e1 with h | h
          · have := Nat.mul_le_mul_right e h
            rw [Nat.succ_mul] at this
            omega
          · have := Nat.mul_le_mul_right e h
            rw [Nat.succ_mul] at this
            omega)]
        exact h5
    · obtain ⟨⟨u, h5⟩, h6⟩ := h4 j hj
      refine ⟨?_, by rw [hsame.2.2.2.2.1]; exact h6⟩
      by_cases hb : q * e + off ≤ j ∧ j < q * e + off + us.length
      · have hat := setCells_at (ρ k).block us ((ρ k).off + (q * e + off)) w (j - (q * e + off)) (by omega) fun x hx => (hin x hx).1
        rw [show (ρ k).off + (q * e + off) + (j - (q * e + off)) = (ρ k).off + j by omega] at hat
        exact ⟨_, by rw [hat]; exact List.getElem?_eq_getElem (by omega)⟩
      · exact ⟨u, by rw [setCells_other _ _ _ _ _ _ (fun _ => by omega)]; exact h5⟩
  exact ⟨g1, .pure _ _ (.any _), g2, g3, g4⟩

theorem store_sound {P : Program} {T : Tab} (hT : TabOk P T) {t : Nat} {x v : Operand} {σ : List (Nat × D)} {L : List Ob} {K : D → List Ob → Prop} {o : Oper}
    (ho : o.op = .store t x v) (h : storeOp T t (evalD σ x) (evalD σ v) L K) : ∃ d L', OpOk P o σ L d L' ∧ K d L' := by
  unfold storeOp at h
  split at h <;> try exact h.elim
  rename_i i hi
  have hi := hT _ _ hi
  have hany := cellsK_any h
  have h := cellsK_eq h
  split at h <;> try exact h.elim
  rename_i hsz
  have hsz := Nat.eq_of_beq_eq_true hsz
  split at h <;> try exact h.elim
  rename_i hone
  split at h <;> try exact h.elim
  · rename_i k off hx
    obtain ⟨ob, hk, h⟩ := nthK_eq h
    split at h <;> try exact h.elim
    rename_i ds
    obtain ⟨ds', h, hl, hle, hget⟩ := putK_eq h
    have h := setLK_eq h
    refine ⟨_, _, OpOk.of_skip fun a w ρ hf he => ?_, h⟩
    have hv := he.eval x
    rw [hx] at hv
    obtain ⟨ad, h1, h2, h3⟩ := hv.loc_inv
    have h3 := h3 _ hk
    obtain ⟨h4, h5⟩ := hf.obj k _ hk
    obtain ⟨h6, h7⟩ := (he.eval v).cells_len hany
    have hin : ∀ j, j < (a.eval v).cells.toList.length → off + j < ds.length := fun j hj => by omega
    have hc : ∀ j, j < (a.eval v).cells.toList.length → ∃ u, w.cell? ⟨(ρ k).block, (ρ k).off + off + j, none⟩ = some u := fun j hj => by
      obtain ⟨⟨u, h8, _⟩, _⟩ := h5 (off + j) _ (List.getElem?_eq_getElem (hin j hj))
      rw [Nat.add_assoc]; exact ⟨u, h8⟩
    have hz : ∀ j, j < (a.eval v).cells.toList.length → w.frozen? ⟨(ρ k).block, (ρ k).off + off + j, none⟩ = false := fun j hj => by
      rw [Nat.add_assoc]; exact (h5 (off + j) _ (List.getElem?_eq_getElem (hin j hj))).2
    have hst := storeVar_run hi (w := w) (b := (ρ k).block) (o := (ρ k).off + off) (v := a.eval v) (by omega) hc hz (fun u hu => by
      obtain ⟨j, hj⟩ := List.getElem?_of_mem hu
      have hjl : j < (evalD σ v).cells.length := by rw [← h6]; exact (List.getElem?_eq_some_iff.1 hj).1
      exact oneD_cell (h7 j _ u (List.getElem?_eq_getElem hjl) hj) (allOne_mem hone j _ (List.getElem?_eq_getElem hjl)))
    have hext := (Ext.setCells w (ρ k).block ((ρ k).off + off) (a.eval v).cells.toList).mono (F' := fun b x => Ob.owns (.cells ds) (ρ k) b x) fun b x _ ⟨e1, e2, e3⟩ => ⟨e1, by omega, by omega⟩
    obtain ⟨g1, g2, g3, g4⟩ := hf.setObj (o' := .cells ds') hk (fun b x => by simp only [Ob.owns]) (.inl ⟨ds, ds', rfl, rfl⟩) hext fun hcm hfr hex => by
      refine ⟨by rw [h4, hl], fun j d hj => ?_⟩
      rw [hget] at hj
      have hfz := fun x => (setCells_same (ρ k).block (a.eval v).cells.toList ((ρ k).off + off) w).2.2.2.2.1 x
      split at hj
      · rename_i hb
        have hjl : j - off < (a.eval v).cells.toList.length := by omega
        have hat := setCells_at (ρ k).block (a.eval v).cells.toList ((ρ k).off + off) w (j - off) hjl hc
        rw [show (ρ k).off + off + (j - off) = (ρ k).off + j by omega] at hat
        refine ⟨⟨(a.eval v).cells.toList[j - off], by rw [hat]; exact List.getElem?_eq_getElem hjl, ?_⟩, ?_⟩
        · exact (h7 (j - off) d _ hj (List.getElem?_eq_getElem hjl)).keep hex hfr hcm
        · rw [hfz]; exact (h5 j _ (List.getElem?_eq_getElem (by omega))).2
      · rename_i hb
        obtain ⟨⟨u, h8, h9⟩, h10⟩ := h5 j d hj
        refine ⟨⟨u, ?_, h9.keep hex hfr hcm⟩, by rw [hfz]; exact h10⟩
        rw [setCells_other _ _ _ _ _ _ (fun _ => by omega)]
        exact h8
    exact ⟨_, ρ, by simp [execOp, ho, Instr.storeAt, h1, Instr.sureAddr, h3, hst], g1, .pure _ _ (.any _), g2, g3, g4⟩
  · rename_i k n q off hx
    obtain ⟨ob, hk, h⟩ := nthK_eq h
    split at h <;> try exact h.elim
    rename_i e els
    obtain ⟨hn, h⟩ := h.out
    obtain ⟨_, el, hq, h⟩ := h.out
    simp only [Int.toNat_natCast] at hq
    have fin : ∀ el', el'.cells.length = el.cells.length → off + (evalD σ v).cells.length ≤ el.cells.length → (∀ j, el'.cells[j]? = if off ≤ j ∧ j < off + (evalD σ v).cells.length then (evalD σ v).cells[j - off]? else el.cells[j]?) →
        OpOk P o σ L .any (L.set k (.arr e (els.set q el'))) := fun el' hl1 hl2 hget => OpOk.of_skip fun a w ρ hf he => by
      have hv := he.eval x
      rw [hx] at hv
      obtain ⟨ad, h1, h2, h3⟩ := hv.aloc_inv
      obtain ⟨_, h3⟩ := h3 _ _ hk
      have h3 := h3 hn.symm
      obtain ⟨h4, h5, h6, h7⟩ := hf.obj k _ hk
      have hle := h5 q el hq
      obtain ⟨h8, h9⟩ := (he.eval v).cells_len hany
      obtain ⟨g1, g2⟩ := storeArr (P := P) hf hk hq (el' := el') (off := off) (hl1.trans hle) (by omega) hget h8 h9
      have hst := storeVar_run hi (w := w) (b := (ρ k).block) (o := (ρ k).off + (q * e + off)) (v := a.eval v) (by omega) (fun j hj => (g1 j hj).1) (fun j hj => (g1 j hj).2) (fun u hu => by
        obtain ⟨j, hj⟩ := List.getElem?_of_mem hu
        have hjl : j < (evalD σ v).cells.length := by rw [← h8]; exact (List.getElem?_eq_some_iff.1 hj).1
        exact oneD_cell (h9 j _ u (List.getElem?_eq_getElem hjl) hj) (allOne_mem hone j _ (List.getElem?_eq_getElem hjl)))
      exact ⟨_, ρ, by simp [execOp, ho, Instr.storeAt, h1, Instr.sureAddr, h3, hst], g2⟩
    split at h
    · rename_i ds
      obtain ⟨ds', h, hl, hle, hget⟩ := putK_eq h
      have h := setLK_eq (show setLK _ _ _ _ from VS.out h)
      exact ⟨_, _, fin (.agg ds') hl hle hget, h⟩
    · rename_i hna
      split at h <;> try exact h.elim
      split at h <;> try exact h.elim
      rename_i c hc
      have h := setLK_eq (show setLK _ _ _ _ from VS.out h)
      have hel : el.cells.length = 1 := by cases el <;> first | rfl | exact (hna _ rfl).elim
      have hcc : c.cells = [c] := by
        have := hone
        rw [hc] at this
        simp only [allOne] at this
        cases c <;> first | rfl | simp [oneD] at this
      refine ⟨_, _, fin c (by rw [hcc, hel]; rfl) (by rw [hc, hel]; simp) (fun j => ?_), h⟩
      rw [hcc, hc]
      cases j with
      | zero => simp
      | succ j =>
        simp
        omega

end Go.Plat
