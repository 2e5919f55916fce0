/-
  Literals of structs, arrays and slices; make; len; parts of strings and slices.
-/
import Derived.Test.YtgmlcpmkonagcaaPlFw4
namespace Go.Plat
open Go
set_option linter.unusedVariables false
set_option linter.unusedSimpArgs false

/-! cells put into cells -/
def setAt {α : Type} (off : Nat) : List α → List α → List α
  | [], cs => cs
  | v :: vs, cs => setAt (off + 1) vs (cs.set off v)

theorem setAt_length {α : Type} : ∀ (vs : List α) (off : Nat) (cs : List α), (setAt off vs cs).length = cs.length
  | [], _, _ => rfl
  | v :: vs, off, cs => by simp [setAt, setAt_length vs]

theorem setAt_get {α : Type} : ∀ (vs : List α) (off : Nat) (cs : List α) (k : Nat), off + vs.length ≤ cs.length →
    (setAt off vs cs)[k]? = if off ≤ k ∧ k < off + vs.length then vs[k - off]? else cs[k]?
  | [], off, cs, k, _ => by simp only [setAt, List.length_nil, Nat.add_zero]; rw [if_neg (by omega)]
  | v :: vs, off, cs, k, h => by
    simp only [setAt, List.length_cons] at h ⊢
    rw [setAt_get vs (off + 1) _ k (by simp; omega)]
    by_cases h1 : off + 1 ≤ k ∧ k < off + 1 + vs.length
    · rw [if_pos h1, if_pos (by omega), show k - off = (k - (off + 1)) + 1 by omega, List.getElem?_cons_succ]
    · rw [if_neg h1]
      by_cases h2 : k = off
      · subst h2
        rw [if_pos (by omega), List.getElem?_set_self (by omega)]
        simp
      · rw [if_neg (by omega), List.getElem?_set_ne (by omega)]

theorem fold_setAt (off : Nat) : ∀ (vs : List Value) (s : Nat) (cells : Array Value),
    ((vs.zipIdx s).foldl (fun cs (p : Value × Nat) => cs.setIfInBounds (off + p.2) p.1) cells) = (setAt (off + s) vs cells.toList).toArray
  | [], s, cells => by simp [setAt]
  | v :: vs, s, cells => by
    simp only [List.zipIdx_cons, List.foldl_cons, setAt]
    rw [fold_setAt off vs (s + 1)]
    simp [Nat.add_assoc]

theorem fill_cons (place : Nat → Option (Nat × Nat)) (cells : Array Value) (i : Nat) (v : Value) (rest : List (Nat × Value)) (off size : Nat) (hp : place i = some (off, size))
    (h1 : v.cells.size = size) (h2 : off + size ≤ cells.size) :
    Instr.fill place cells ((i, v) :: rest) = Instr.fill place (setAt off v.cells.toList cells.toList).toArray rest := by
  simp only [Instr.fill, hp]
  rw [if_neg (by simp; omega)]
  congr 1
  rw [← Array.foldl_toList, Array.toList_zipIdx]
  simpa using fold_setAt off v.cells.toList 0 cells

theorem Rep.cells_len {w : World} {F : Nat → Nat → Prop} {ρ : Pl} {L : List Ob} {d : D} {v : Value} (h : Rep w F ρ L d v) (hd : d ≠ .any) :
    v.cells.toList.length = d.cells.length ∧ ∀ (j : Nat) c u, d.cells[j]? = some c → v.cells.toList[j]? = some u → Rep w F ρ L c u := by
  cases d with
  | any => exact (hd rfl).elim
  | agg ds =>
    obtain ⟨vs, rfl, h1, h2⟩ := h.agg_inv
    exact ⟨by simpa [Value.cells, D.cells] using h1, fun j c u h3 h4 => h2 j c u h3 (by simpa [Value.cells] using h4)⟩
  | tup ds =>
    have h' := h
    obtain ⟨vs, rfl, h1, h2⟩ := h.tup_inv
    exact ⟨rfl, fun j c u h3 h4 => by
      cases j with
      | zero => simp [D.cells] at h3; simp [Value.cells] at h4; subst h3; subst h4; exact h'
      | succ j => simp [D.cells] at h3⟩
  | _ =>
    have key : v.cells = #[v] := by
      cases h with
      | pure _ _ h => cases h <;> rfl
      | _ => first | rfl | (rename_i h _; cases h <;> rfl)
    rw [key]
    refine ⟨rfl, fun j c u h3 h4 => ?_⟩
    cases j with
    | zero => simp [D.cells] at h3; simp at h4; subst h3; subst h4; exact h
    | succ j => simp [D.cells] at h3

/-- (offset, size, datum) put into cells, one by one -/
def fillK : List (Nat × Nat × D) → List D → (List D → Prop) → Prop
  | [], cs, K => K cs
  | (off, size, d) :: rest, cs, K => cellsK d fun ds => match Nat.beq ds.length size with
    | true => match Nat.ble (off + size) cs.length with
      | true => fillK rest (setAt off ds cs) K
      | false => False
    | false => False

def fillR : List (Nat × Nat × D) → List D → List D
  | [], cs => cs
  | (off, _, d) :: rest, cs => fillR rest (setAt off d.cells cs)

theorem cellsK_any {d : D} {K : List D → Prop} (h : cellsK d K) : d ≠ .any := by
  rintro rfl
  exact h

theorem fillK_sound (place : Nat → Option (Nat × Nat)) {w : World} {F : Nat → Nat → Prop} {ρ : Pl} {L : List Ob} : ∀ (ps : List (Nat × Nat × D)) (qs : List (Nat × Value)) (cs : List D) (vs : List Value) (K : List D → Prop),
    fillK ps cs K → ps.length = qs.length → (∀ (n : Nat) p q, ps[n]? = some p → qs[n]? = some q → place q.1 = some (p.1, p.2.1) ∧ Rep w F ρ L p.2.2 q.2) →
    vs.length = cs.length → (∀ (j : Nat) c u, cs[j]? = some c → vs[j]? = some u → Rep w F ρ L c u) →
    ∃ (vs' : List Value), Instr.fill place vs.toArray qs = some vs'.toArray ∧ vs'.length = (fillR ps cs).length ∧ (fillR ps cs).length = cs.length ∧ ∀ (j : Nat) c u, (fillR ps cs)[j]? = some c → vs'[j]? = some u → Rep w F ρ L c u
  | [], qs, cs, vs, K, h, hl, hp, hv, hr => by
    cases qs with
    | nil => exact ⟨vs, by simp [Instr.fill], hv, rfl, hr⟩
    | cons q qs => simp at hl
  | (off, size, d) :: ps, qs, cs, vs, K, h, hl, hp, hv, hr => by
    cases qs with
    | nil => simp at hl
    | cons q qs =>
      obtain ⟨i, v⟩ := q
      simp only [fillK] at h
      have hany := cellsK_any h
      have h := cellsK_eq h
      split at h <;> try exact h.elim
      rename_i h1
      have h1 := Nat.eq_of_beq_eq_true h1
      split at h <;> try exact h.elim
      rename_i h2
      have h2 := Nat.le_of_ble_eq_true h2
      obtain ⟨h3, h4⟩ := hp 0 _ _ rfl rfl
      obtain ⟨h5, h6⟩ := h4.cells_len hany
      obtain ⟨vs', h8, h9, h10, h11⟩ := fillK_sound place ps qs (setAt off d.cells cs) (setAt off v.cells.toList vs) K h (by simpa using hl) (fun n p q h1 h2 => hp (n + 1) p q (by simpa using h1) (by simpa using h2))
        (by simp [setAt_length, hv]) (fun j c u hc hu => by
          have h1' : d.cells.length = size := h1
          have h5' : v.cells.toList.length = size := h5.trans h1
          rw [setAt_get _ _ _ _ (by omega)] at hc
          rw [setAt_get _ _ _ _ (by omega), h5] at hu
          split at hc
          · rename_i hb
            rw [if_pos hb] at hu
            exact h6 _ _ _ hc hu
          · rename_i hb
            rw [if_neg hb] at hu
            exact hr _ _ _ hc hu)
      refine ⟨vs', ?_, h9, by rw [fillR, h10, setAt_length], h11⟩
      rw [fill_cons place _ i v qs off size h3 (by simpa using h5.trans h1) (by simp; omega)]
      exact h8

theorem fillK_eq : ∀ {ps : List (Nat × Nat × D)} {cs : List D} {K : List D → Prop}, fillK ps cs K → K (fillR ps cs)
  | [], cs, K, h => by simpa [fillK, fillR] using h
  | (off, size, d) :: ps, cs, K, h => by
    simp only [fillK] at h
    have h := cellsK_eq h
    split at h <;> try exact h.elim
    split at h <;> try exact h.elim
    exact fillK_eq (ps := ps) h

/-! structs and arrays by value -/
def partsK (T : Tab) (i : TI) (σ : List (Nat × D)) : List (Nat × Operand) → (List (Nat × Nat × D) → Prop) → Prop
  | [], K => K []
  | (f, x) :: rest, K => match i.d with
    | .struct _ => fieldOff i f fun off t => match ty T t with
      | some j => partsK T i σ rest fun r => K ((off, j.size, evalD σ x) :: r)
      | none => False
    | _ => False

theorem partsK_eq {P : Program} {T : Tab} {i : TI} {σ : List (Nat × D)} : ∀ {ps : List (Nat × Operand)} {K : List (Nat × Nat × D) → Prop}, partsK T i σ ps K →
    ∃ r, K r ∧ r.length = ps.length ∧ ∀ (n : Nat) p q, r[n]? = some p → ps[n]? = some q → p.2.2 = evalD σ q.2 ∧
      (∃ fs, i.d = .struct fs ∧ ∃ off t j, fs[q.1]? = some (off, t) ∧ ty T t = some j ∧ p.1 = off ∧ p.2.1 = j.size)
  | [], K, h => ⟨[], by simpa [partsK] using h, rfl, by simp⟩
  | (f, x) :: ps, K, h => by
    simp only [partsK] at h
    split at h <;> try exact h.elim
    · rename_i fs hd
      unfold fieldOff at h
      rw [hd] at h
      obtain ⟨p, h1, h2⟩ := nthK_eq h
      split at h2 <;> try exact h2.elim
      rename_i j hj
      obtain ⟨r, h3, h4, h5⟩ := partsK_eq (P := P) h2
      refine ⟨_, h3, by simp [h4], fun n p' q' h6 h7 => ?_⟩
      cases n with
      | zero =>
        simp at h6 h7
        subst h6; subst h7
        exact ⟨rfl, fs, hd, p.1, p.2, j, h1, hj, rfl, rfl⟩
      | succ n => exact h5 n p' q' (by simpa using h6) (by simpa using h7)

def buildK (T : Tab) (t : Nat) (ps : List (Nat × Operand)) (σ : List (Nat × D)) (K : D → Prop) : Prop :=
  match ty T t with
  | some i => match i.d with
    | .struct _ => match zeroD i.zero with
      | .agg zs => partsK T i σ ps fun r => fillK r zs fun cs => K (.agg cs)
      | _ => False
    | _ => False
  | none => False

theorem mapM_places {P : Program} {T : Tab} (hT : TabOk P T) (w : World) : ∀ (fs : List Field), (∀ f ∈ fs, ∃ x, P.info? f.type = some x) →
    ((fs.mapM fun f => do pure (f.offset, ← sizeOf f.type) : Sem (List (Nat × Nat)))).run P w = .ok (fs.map fun f => (f.offset, ((P.info? f.type).map (·.size)).getD 0)) w
  | [], _ => rfl
  | f :: fs, h => by
    obtain ⟨x, hx⟩ := h f (by simp)
    have ih := mapM_places hT w fs fun g hg => h g (by simp [hg])
    have hz : (sizeOf f.type).run P w = .ok x.size w := by simp [sizeOf, run_typeInfo w hx]
    simp only [List.mapM_cons, Sem.run_bind, hz, Result.andThen, List.map_cons, hx]
    rw [show (pure (f.offset, x.size) : Sem (Nat × Nat)).run P w = .ok (f.offset, x.size) w from rfl]
    dsimp only
    rw [ih]
    rfl


theorem place_struct (fs : Array Field) (P : Program) (i : Nat) (x : Field) (h : fs[i]? = some x) :
    ((fs.toList.map fun f => (f.offset, ((P.info? f.type).map (·.size)).getD 0)).toArray)[i]? = some (x.offset, ((P.info? x.type).map (·.size)).getD 0) := by
  simp [h]

theorem under_struct {P : Program} {t : Nat} {fs : List (Nat × Nat)} {i : TI} (hi : TIOk P t i) (h : i.d = .struct fs) :
    ∃ gs : Array Field, P.underlying t = some (.struct gs) ∧ fs = gs.toList.map (fun f => (f.offset, f.type)) ∧ ∀ f ∈ gs.toList, ∃ x, P.info? f.type = some x := by
  obtain ⟨d, h1, h2⟩ := hi.under
  rw [h] at h2
  cases d <;> simp [tdOf] at h2
  rename_i gs
  refine ⟨gs, h1, h2.symm, fun f hf => ?_⟩
  have h3 := hi.fin
  rw [h1] at h3
  simp only [List.all_eq_true] at h3
  exact Option.isSome_iff_exists.1 (h3 f hf)

theorem size_info {P : Program} {t : Nat} {j : TI} (hj : TIOk P t j) : ((P.info? t).map (·.size)).getD 0 = j.size := by
  obtain ⟨x, h1, h2, _⟩ := hj.info
  rw [h1]; exact h2

theorem build_sound {P : Program} {T : Tab} (hT : TabOk P T) {t : Nat} {ps : Array (Nat × Operand)} {σ : List (Nat × D)} {K : D → Prop} {o : Oper}
    (ho : o.op = .build t ps) (h : buildK T t ps.toList σ K) : ∃ d, (∀ L, OpOk P o σ L d L) ∧ K d := by
  unfold buildK at h
  split at h <;> try exact h.elim
  rename_i i hi
  have hi := hT _ _ hi
  split at h <;> try exact h.elim
  rename_i fs hd
  split at h <;> try exact h.elim
  rename_i zs hz
  obtain ⟨r, h1, h2, h3⟩ := partsK_eq (P := P) h
  obtain ⟨gs, hd1, hd2, hall⟩ := under_struct hi hd
  refine ⟨.agg (fillR r zs), OpOk.of_pure fun a w ρ L hf he => ?_, fillK_eq h1⟩
  have hzr := zeroD_rep w (foot ρ L) i.zero
  rw [hz] at hzr
  obtain ⟨zv, hzv, hzl, hzr⟩ := (Rep.pure (ρ := ρ) (L := L) _ _ hzr).agg_inv
  obtain ⟨vs, h5, h6, h7, h8⟩ := fillK_sound (fun i => ((gs.toList.map fun f => (f.offset, ((P.info? f.type).map (·.size)).getD 0)).toArray)[i]?) r (ps.toList.map fun (i, x) => (i, a.eval x)) zs zv _ h1 (by simp [h2])
    (fun n p q hp hq' => by
      simp only [List.getElem?_map, Option.map_eq_some_iff] at hq'
      obtain ⟨⟨m, x⟩, h4, rfl⟩ := hq'
      obtain ⟨h10, fs', h5, off, t', j, h6, h7, h8, h9⟩ := h3 n p _ hp h4
      rw [hd] at h5
      cases h5
      subst hd2
      refine ⟨?_, by rw [h10]; exact he.eval x⟩
      simp only [List.getElem?_map, Option.map_eq_some_iff] at h6
      obtain ⟨f, h11, h12⟩ := h6
      cases h12
      have := place_struct gs P m f (by simpa using h11)
      rw [size_info (hT _ _ h7)] at this
      rw [h8, h9]
      exact this)
    hzl hzr
  refine ⟨.agg vs.toArray, ?_, .agg _ _ h6 h8⟩
  have hm : ((gs.mapM fun f => do pure (f.offset, ← sizeOf f.type) : Sem (Array (Nat × Nat)))).run P w = .ok (gs.toList.map fun f => (f.offset, ((P.info? f.type).map (·.size)).getD 0)).toArray w := by
    rw [Array.mapM_eq_mapM_toList]
    simp only [Sem.run_map, mapM_places hT w gs.toList hall, Result.andThen]
  have hb : (Instr.build t (ps.map fun (i, x) => (i, a.eval x))).run P w = .ok (.agg vs.toArray) w := by
    simp only [Instr.build, Sem.run_bind, hi.zeroRun, Result.andThen, run_underlying hd1, hm, hzv, Value.cells]
    rw [Array.toList_map]
    simp only [h5]
    rfl
  simp [execOp, ho, hb]

end Go.Plat
