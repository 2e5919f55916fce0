/-
  Owned objects: how they come, change, and are read.
-/
import Derived.Test.YtgmlcpmkonagcaaPlFw7
namespace Go.Plat
open Go
set_option linter.unusedVariables false
set_option linter.unusedSimpArgs false

/-- owned objects after a step that touches only F -/
theorem Fits.change {w w' : World} {ρ ρ' : Pl} {L L' : List Ob} (hf : Fits w ρ L) (F : Nat → Nat → Prop) (hF : ∀ b off, F b off → own ρ L b off)
    (he : Ext F w w') (hc : Compat ρ L ρ' L') (hfo : Fresh w (own ρ L) (own ρ' L'))
    (hdisj : ∀ (k k' : Nat) (o o' : Ob) (b off : Nat), L'[k]? = some o → L'[k']? = some o' → o.owns (ρ' k) b off → o'.owns (ρ' k') b off → k = k')
    (h : ∀ (k : Nat) o, L'[k]? = some o → (k < L.length ∧ L[k]? = some o ∧ ρ' k = ρ k ∧ ∀ b off, o.owns (ρ k) b off → ¬ F b off) ∨ ObFits w' (foot ρ' L') ρ' L' (ρ' k) o) :
    Fits w' ρ' L' where
  hid b off h := by rw [hc.hid] at h; exact Nat.lt_of_lt_of_le (hf.hid b off h) he.size
  sep b off h hh := by
    rw [hc.hid] at hh
    rcases hfo b off h with h | h
    · exact hf.sep b off h hh
    · have := hf.hid b off hh
      omega
  disj := hdisj
  obj k o hk := by
    refine (h k o hk).elim ?_ id
    rintro ⟨hlt, h1, h2, h3⟩
    have hfr := hfo.foot hc.hid
    have he' : Ext (foot ρ L) w w' := he.mono fun b off _ h => .inl (hF b off h)
    have hob := hf.obj k o h1
    rw [h2]
    have kr : ∀ {d v}, Rep w (foot ρ L) ρ L d v → Rep w' (foot ρ' L') ρ' L' d v := fun h => h.keep he' hfr hc
    have kp : ∀ {d v}, RepP w (foot ρ L) d v → RepP w' (foot ρ' L') d v := fun h => h.keep he' hfr
    have kc : ∀ {off v}, o.owns (ρ k) (ρ k).block off → w.cell? ⟨(ρ k).block, off, none⟩ = some v → w'.cell? ⟨(ρ k).block, off, none⟩ = some v :=
      fun ho h => (he.cell _ _ (cell_lt h) (h3 _ _ ho)).trans h
    have kz : ∀ {off}, o.owns (ρ k) (ρ k).block off → (ρ k).block < w.heap.size → w.frozen? ⟨(ρ k).block, off, none⟩ = false → w'.frozen? ⟨(ρ k).block, off, none⟩ = false :=
      fun ho hb h => (he.frozen _ _ hb (h3 _ _ ho)).trans h
    cases o with
    | cells ds =>
      refine ⟨hob.1, fun j d hj => ?_⟩
      obtain ⟨⟨v, h4, h5⟩, h6⟩ := hob.2 j d hj
      have hlt : j < ds.length := (List.getElem?_eq_some_iff.1 hj).1
      have ho : Ob.owns (.cells ds) (ρ k) (ρ k).block ((ρ k).off + j) := ⟨rfl, by omega, by rw [hob.1]; omega⟩
      exact ⟨⟨v, kc ho h4, kr h5⟩, kz ho (cell_lt h4) h6⟩
    | arr e ds =>
      obtain ⟨h4, h5, h6, h7⟩ := hob
      have hown : ∀ j, j < (ρ k).cap → Ob.owns (.arr e ds) (ρ k) (ρ k).block ((ρ k).off + j) := fun j hj => ⟨rfl, by omega, by omega⟩
      refine ⟨h4, h5, fun i d j c hi hj => ?_, fun j hj => ?_⟩
      · obtain ⟨v, h8, h9⟩ := h6 i d j c hi hj
        have hil : i < ds.length := (List.getElem?_eq_some_iff.1 hi).1
        have hjl : j < e := by rw [← h5 i d hi]; exact (List.getElem?_eq_some_iff.1 hj).1
        have : i * e + e ≤ ds.length * e := by
          have := Nat.mul_le_mul_right e hil
          rwa [Nat.succ_mul] at this
        exact ⟨v, kc (hown _ (by omega)) h8, kr h9⟩
      · obtain ⟨⟨v, h8⟩, h9⟩ := h7 j hj
        exact ⟨⟨v, kc (hown j hj) h8⟩, kz (hown j hj) (cell_lt h8) h9⟩
    | spare n =>
      intro j hj
      obtain ⟨⟨v, h8⟩, h9⟩ := hob j hj
      have hown : Ob.owns (.spare n) (ρ k) (ρ k).block ((ρ k).off + j) := ⟨rfl, by omega, by omega⟩
      exact ⟨⟨v, kc hown h8⟩, kz hown (cell_lt h8) h9⟩
    | map es =>
      obtain ⟨ents, clock, h4, h5, h6⟩ := hob
      refine ⟨ents, clock, ?_, h5, fun i p m hi hm => ⟨kp (h6 i p m hi hm).1, kr (h6 i p m hi hm).2⟩⟩
      have hb : (ρ k).block < w.heap.size := by
        rcases Nat.lt_or_ge (ρ k).block w.heap.size with h | h
        · exact h
        · rw [Array.getElem?_eq_none h] at h4; cases h4
      exact (he.block _ hb fun off hoff => h3 _ off rfl hoff).trans h4
    | dead => trivial

/-- the places, with a new one -/
def upd (ρ : Pl) (k : Nat) (l : Loc) : Pl := { ρ with place := fun j => if j = k then l else ρ j }

theorem upd_same (ρ : Pl) (k : Nat) (l : Loc) : upd ρ k l k = l := by simp [upd]
theorem upd_ne {ρ : Pl} {k j : Nat} {l : Loc} (h : j ≠ k) : upd ρ k l j = ρ j := by simp [upd, h]

theorem snoc_get {α : Type} {L : List α} {o x : α} {k : Nat} (h : (L ++ [o])[k]? = some x) : (k < L.length ∧ L[k]? = some x) ∨ (k = L.length ∧ o = x) := by
  rcases Nat.lt_trichotomy k L.length with h1 | h1 | h1
  · rw [List.getElem?_append_left h1] at h; exact .inl ⟨h1, h⟩
  · subst h1; simp at h; exact .inr ⟨rfl, h⟩
  · rw [List.getElem?_eq_none (by simp; omega)] at h; cases h

theorem Compat.snoc (ρ : Pl) (L : List Ob) (o : Ob) (l : Loc) : Compat ρ L (upd ρ L.length l) (L ++ [o]) where
  hid := rfl
  len := by simp
  cells k ds hk h := ⟨ds, by rwa [List.getElem?_append_left hk] at h, upd_ne (by omega)⟩
  map k ds hk h := ⟨ds, by rwa [List.getElem?_append_left hk] at h, upd_ne (by omega)⟩
  spare k n hk h := ⟨n, by rwa [List.getElem?_append_left hk] at h, Nat.le_refl _, fun _ => upd_ne (by omega)⟩
  arr k e ds hk h := ⟨ds, by rwa [List.getElem?_append_left hk] at h, Nat.le_refl _, fun _ => upd_ne (by omega)⟩

theorem own_snoc {ρ : Pl} {L : List Ob} {o : Ob} {l : Loc} {b off : Nat} (h : own (upd ρ L.length l) (L ++ [o]) b off) : own ρ L b off ∨ o.owns l b off := by
  obtain ⟨k, x, h1, h2⟩ := h
  rcases snoc_get h1 with ⟨h3, h4⟩ | ⟨h3, h4⟩
  · rw [upd_ne (by omega)] at h2
    exact .inl ⟨k, x, h4, h2⟩
  · subst h3; subst h4
    rw [upd_same] at h2
    exact .inr h2

theorem foot_snoc {ρ : Pl} {L : List Ob} {o : Ob} {l : Loc} {b off : Nat} (h : foot (upd ρ L.length l) (L ++ [o]) b off) : foot ρ L b off ∨ o.owns l b off := by
  rcases h with ⟨k, x, h1, h2⟩ | h
  · rcases snoc_get h1 with ⟨h3, h4⟩ | ⟨h3, h4⟩
    · rw [upd_ne (by omega)] at h2
      exact .inl (.inl ⟨k, x, h4, h2⟩)
    · subst h3; subst h4
      rw [upd_same] at h2
      exact .inr h2
  · exact .inl (.inr h)

/-- a new owned object in new memory -/
theorem Fits.snoc {w w' : World} {ρ : Pl} {L : List Ob} (hf : Fits w ρ L) (he : Ext F0 w w') {o : Ob} {l : Loc} (hown : ∀ b off, o.owns l b off → w.heap.size ≤ b)
    (ho : ObFits w' (foot (upd ρ L.length l) (L ++ [o])) (upd ρ L.length l) (L ++ [o]) l o) :
    Fits w' (upd ρ L.length l) (L ++ [o]) ∧ Fresh w (own ρ L) (own (upd ρ L.length l) (L ++ [o])) := by
  have hfr : Fresh w (own ρ L) (own (upd ρ L.length l) (L ++ [o])) := fun b off h => (own_snoc h).imp id (hown b off)
  refine ⟨hf.change F0 (fun _ _ f => f.elim) he (.snoc _ _ _ _) hfr (fun k k' x x' b off h1 h2 h3 h4 => ?_) fun k x hk => ?_, hfr⟩
  · rcases snoc_get h1 with ⟨h5, h6⟩ | ⟨h5, h6⟩ <;> rcases snoc_get h2 with ⟨h7, h8⟩ | ⟨h7, h8⟩
    · rw [upd_ne (by omega)] at h3 h4
      exact hf.disj _ _ _ _ _ _ h6 h8 h3 h4
    · subst h7; subst h8
      rw [upd_ne (by omega)] at h3
      rw [upd_same] at h4
      have := hf.foot_lt (.inl ⟨k, x, h6, h3⟩)
      have := hown _ _ h4
      omega
    · subst h5; subst h6
      rw [upd_ne (by omega)] at h4
      rw [upd_same] at h3
      have := hf.foot_lt (.inl ⟨k', x', h8, h4⟩)
      have := hown _ _ h3
      omega
    · omega
  · rcases snoc_get hk with ⟨h5, h6⟩ | ⟨h5, h6⟩
    · exact .inl ⟨h5, h6, upd_ne (by omega), fun _ _ _ f => f⟩
    · subst h5; subst h6
      rw [upd_same]
      exact .inr ho

/-- a new variable -/
theorem newCells_post {w : World} {ρ : Pl} {L : List Ob} (hf : Fits w ρ L) (t : TypeId) (cs : List D) (vs : Array Value) (hl : vs.toList.length = cs.length)
    (hv : ∀ (j : Nat) c u, cs[j]? = some c → vs.toList[j]? = some u → Rep w (foot ρ L) ρ L c u) :
    Post w ρ L (.loc L.length 0) (L ++ [.cells cs]) (.pointer (some ⟨w.heap.size, 0, none⟩)) (w.alloc (.cells vs t)) (upd ρ L.length ⟨w.heap.size, 0, cs.length⟩) := by
  have hown : ∀ b off, Ob.owns (.cells cs) ⟨w.heap.size, 0, cs.length⟩ b off → w.heap.size ≤ b := fun b off h => by
    obtain ⟨rfl, _⟩ := h; exact Nat.le_refl _
  have hfr : Fresh w (foot ρ L) (foot (upd ρ L.length ⟨w.heap.size, 0, cs.length⟩) (L ++ [.cells cs])) := fun b off h => (foot_snoc h).imp id (hown b off)
  obtain ⟨h1, h2⟩ := hf.snoc (Ext.alloc w (.cells vs t)) (o := .cells cs) (l := ⟨w.heap.size, 0, cs.length⟩) hown ⟨rfl, fun j d hj => by
    have hlt : j < vs.toList.length := by rw [hl]; exact (List.getElem?_eq_some_iff.1 hj).1
    refine ⟨⟨vs.toList[j], ?_, (hv j d _ hj (List.getElem?_eq_getElem hlt)).keep (Ext.alloc w _).grow hfr (.snoc _ _ _ _)⟩, ?_⟩
    · rw [Nat.zero_add, World.cell?_alloc_new]
      simp at hlt
      simp [hlt]
    · exact World.frozen?_alloc_new _ _ _ _⟩
  exact ⟨h1, .loc _ _ _ (by simp) fun ds hds => by simp [upd_same], (Ext.alloc w _).grow, h2, .snoc _ _ _ _⟩

def zeroCellsK (v : Value) (K : List D → Prop) : Prop :=
  match zeroD v with
  | .agg ds => K ds
  | .any => False
  | d => forceD d fun d => K [d]

def allocOp (T : Tab) (t : Nat) (L : List Ob) (K : D → List Ob → Prop) : Prop :=
  match ty T t with
  | some i => cellsK (zeroD i.zero) fun cs => K (.loc L.length 0) (L ++ [.cells cs])
  | none => False

theorem alloc_sound {P : Program} {T : Tab} (hT : TabOk P T) {t : Nat} {σ : List (Nat × D)} {L : List Ob} {K : D → List Ob → Prop} {o : Oper}
    (ho : o.op = .alloc t) (h : allocOp T t L K) : ∃ d L', OpOk P o σ L d L' ∧ K d L' := by
  unfold allocOp at h
  split at h <;> try exact h.elim
  rename_i i hi
  have hi := hT _ _ hi
  have hany := cellsK_any h
  have h := cellsK_eq h
  refine ⟨_, _, OpOk.of_val fun a w ρ hf he => ?_, h⟩
  obtain ⟨h1, h2⟩ := zeroD_cells (w := w) (F := foot ρ L) hany
  refine ⟨_, _, _, ?_, newCells_post hf t _ i.zero.cells (by simpa using h1.symm) fun j c u hc hu => ?_⟩
  · simp [execOp, ho, Instr.alloc, hi.zeroRun, newVar, newRow_run]
  · obtain ⟨u', h3, h4⟩ := h2 j c hc
    simp only [Array.getElem?_toList] at hu
    rw [h3] at hu
    cases hu
    exact .pure _ _ h4

def boxOp (d : D) (L : List Ob) (K : D → List Ob → Prop) : Prop := cellsK d fun cs => K (.loc L.length 0) (L ++ [.cells cs])

theorem box_sound {P : Program} {t : Nat} {x : Operand} {σ : List (Nat × D)} {L : List Ob} {K : D → List Ob → Prop} {o : Oper}
    (ho : o.op = .box t x) (h : boxOp (evalD σ x) L K) : ∃ d L', OpOk P o σ L d L' ∧ K d L' := by
  have hany := cellsK_any h
  have h := cellsK_eq h
  refine ⟨_, _, OpOk.of_val fun a w ρ hf he => ?_, h⟩
  obtain ⟨h1, h2⟩ := (he.eval x).cells_len hany
  refine ⟨_, _, _, ?_, newCells_post hf t _ (a.eval x).cells h1 h2⟩
  simp [execOp, ho, Instr.box, newVar, newRow_run]

/-! loads of owned variables -/
def loadCellsK (i : TI) (off : Nat) (ds : List D) (K : D → Prop) : Prop :=
  match i.d.isAgg with
  | true => dropK off ds fun r => takeK i.size r fun r => K (.agg r)
  | false => nthK off ds fun c => forceD c K

def loadOp (T : Tab) (t : Nat) (x : D) (L : List Ob) (K : D → Prop) : Prop :=
  match ty T t with
  | some i => match x with
    | .loc k off => nthK k L fun o => match o with
      | .cells ds => loadCellsK i off ds K
      | _ => False
    | .aloc k n q off => nthK k L fun o => match o with
      | .arr e els => VS (SideS (n = els.length) (VS (IdxS els (q : Int) fun d => cellsK d fun ds => loadCellsK i off ds K)))
      | _ => False
    | _ => False
  | none => False

theorem loadCells_rep {P : Program} {t : Nat} {i : TI} (hi : TIOk P t i) {off : Nat} {ds : List D} {K : D → Prop} (h : loadCellsK i off ds K) :
    ∃ d, K d ∧ ∀ (w : World) (F : Nat → Nat → Prop) (ρ : Pl) (L : List Ob) (b o : Nat),
      (∀ (j : Nat) c, ds[j]? = some c → ∃ v, w.cell? ⟨b, o + j, none⟩ = some v ∧ Rep w F ρ L c v) →
      ∃ u, (loadVar t ⟨b, o + off, none⟩).run P w = .ok u w ∧ Rep w F ρ L d u := by
  have h0 := hi.pos
  unfold loadCellsK at h
  split at h
  · rename_i hA
    obtain ⟨h1, h2⟩ := takeK_eq (dropK_eq h)
    refine ⟨_, h1, fun w F ρ L b o hr => ?_⟩
    simp at h2
    have hc : ∀ j, j < i.size → w.cell? ⟨b, o + off + j, none⟩ = some ((w.cell? ⟨b, o + off + j, none⟩).getD undef) := fun j hj => by
      obtain ⟨v, h3, _⟩ := hr (off + j) ds[off + j] (List.getElem?_eq_getElem (by omega))
      rw [← Nat.add_assoc] at h3
      simp [h3]
    have := run_loadVar_cells (P := P) hi (w := w) (b := b) (off := o + off) (fun j => (w.cell? ⟨b, o + off + j, none⟩).getD undef) hc
    rw [hA] at this
    refine ⟨_, this, .agg _ _ (by simp; omega) fun j d u h3 h4 => ?_⟩
    simp only [List.getElem?_map, Option.map_eq_some_iff] at h4
    obtain ⟨k, h7, h8⟩ := h4
    obtain ⟨h9, h10⟩ := List.getElem?_eq_some_iff.1 h7
    simp at h9 h10
    subst h10
    rw [List.getElem?_take, if_pos h9, List.getElem?_drop] at h3
    obtain ⟨v, h11, h12⟩ := hr _ _ h3
    rw [← Nat.add_assoc] at h11
    rw [h11] at h8
    simp at h8
    rw [← h8]
    exact h12
  · rename_i hA
    obtain ⟨c, h1, h2⟩ := nthK_eq h
    refine ⟨c, forceD_eq h2, fun w F ρ L b o hr => ?_⟩
    obtain ⟨v, h3, h4⟩ := hr off c h1
    refine ⟨v, ?_, h4⟩
    simp [loadVar, hi.aggRun, hA, run_load, h3]

theorem load_sound {P : Program} {T : Tab} (hT : TabOk P T) {t : Nat} {x : Operand} {σ : List (Nat × D)} {L : List Ob} {K : D → Prop} {o : Oper}
    (ho : o.op = .load t x) (h : loadOp T t (evalD σ x) L K) : ∃ d, OpOk P o σ L d L ∧ K d := by
  unfold loadOp at h
  split at h <;> try exact h.elim
  rename_i i hi
  have hi := hT _ _ hi
  split at h <;> try exact h.elim
  · rename_i k off hx
    obtain ⟨ob, h1, h2⟩ := nthK_eq h
    split at h2 <;> try exact h2.elim
    rename_i ds
    obtain ⟨d, h3, h4⟩ := loadCells_rep hi h2
    refine ⟨d, OpOk.of_val fun a w ρ hf he => ?_, h3⟩
    have hv := he.eval x
    rw [hx] at hv
    obtain ⟨ad, h5, h6, h7⟩ := hv.loc_inv
    obtain ⟨h8, h9⟩ := hf.obj k _ h1
    obtain ⟨u, h10, h11⟩ := h4 w (foot ρ L) ρ L (ρ k).block (ρ k).off fun j c hj => (h9 j c hj).1
    refine ⟨u, w, ρ, ?_, .same hf h11⟩
    simp [execOp, ho, Instr.loadAt, h5, Instr.sureAddr, h7 _ h1, h10]
  · rename_i k n q off hx
    obtain ⟨ob, h1, h2⟩ := nthK_eq h
    split at h2 <;> try exact h2.elim
    rename_i e els
    obtain ⟨hn, h2⟩ := h2.out
    obtain ⟨_, el, hel, h2⟩ := h2.out
    simp only [Int.toNat_natCast] at hel
    have h2 := cellsK_eq h2
    obtain ⟨d, h3, h4⟩ := loadCells_rep hi h2
    refine ⟨d, OpOk.of_val fun a w ρ hf he => ?_, h3⟩
    have hv := he.eval x
    rw [hx] at hv
    obtain ⟨ad, h5, h6, h7⟩ := hv.aloc_inv
    obtain ⟨_, h7⟩ := h7 _ _ h1
    have h7 := h7 hn.symm
    obtain ⟨_, _, h9, _⟩ := hf.obj k _ h1
    obtain ⟨u, h10, h11⟩ := h4 w (foot ρ L) ρ L (ρ k).block ((ρ k).off + q * e) fun j c hj => by
      obtain ⟨v, h12, h13⟩ := h9 q el j c hel hj
      exact ⟨v, by rwa [← Nat.add_assoc] at h12, h13⟩
    refine ⟨u, w, ρ, ?_, .same hf h11⟩
    rw [Nat.add_assoc] at h10
    simp [execOp, ho, Instr.loadAt, h5, Instr.sureAddr, h7, h10]

end Go.Plat
