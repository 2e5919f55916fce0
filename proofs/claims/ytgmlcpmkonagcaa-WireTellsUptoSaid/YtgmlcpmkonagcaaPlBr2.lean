/-
  The statement's reading: what it tells of the values, and that it stays.
-/
import Derived.Test.YtgmlcpmkonagcaaPlBr1
import Derived.ChangeArms
import Derived.ChangeStays
import Derived.ChangeShapes
import Derived.OpenShut
import Derived.RowKit
import Derived.ChangeMaps5
namespace Go.Plat
open Go
set_option linter.unusedVariables false
set_option linter.unusedSimpArgs false

theorem beq_true {a b : Nat} (h : Nat.beq a b = true) : a = b := Nat.eq_of_beq_eq_true h

theorem chk_slice {P : Program} {n : Nat} {σ : Sh} {t : TypeId} (h : chk P (.sl n σ) (.inl t) = true) : ∃ e, P.underlying t = some (.slice e) ∧ P.cellsOf e = n ∧ n ≠ 0 ∧ σ.size = n ∧ chk P σ (.inl e) = true := by
  simp only [chk] at h
  split at h <;> try cases h
  rename_i e hu
  simp only [Bool.and_eq_true, Bool.not_eq_true'] at h
  obtain ⟨⟨⟨h1, h2⟩, h3⟩, h4⟩ := h
  exact ⟨e, hu, beq_true h1, fun e => by subst e; simp at h2, beq_true h3, h4⟩
theorem chk_arr {P : Program} {n : Nat} {σ : Sh} {t : TypeId} (h : chk P (.arr n σ) (.inl t) = true) : ∃ e, P.underlying t = some (.array n e) ∧ P.cellsOf t = n * σ.size ∧ P.cellsOf e = σ.size ∧ chk P σ (.inl e) = true := by
  simp only [chk] at h
  split at h <;> try cases h
  rename_i m e hu
  simp only [Bool.and_eq_true] at h
  obtain ⟨⟨⟨h1, h2⟩, h3⟩, h4⟩ := h
  have := beq_true h1
  subst this
  exact ⟨e, hu, beq_true h2, beq_true h3, h4⟩
theorem chk_fld {P : Program} {a b : Sh} {t : TypeId} (h : chk P (.fld a b) (.inl t) = true) : ∃ fs, P.underlying t = some (.struct fs) ∧ P.cellsOf t = a.size + b.size ∧ chk P (.fld a b) (.inr (fs.toList, 0)) = true := by
  simp only [chk] at h
  split at h <;> try cases h
  rename_i fs hu
  split at h <;> try cases h
  rename_i f r hl
  simp only [Bool.and_eq_true] at h
  obtain ⟨⟨⟨⟨h1, h2⟩, h3⟩, h4⟩, h5⟩ := h
  refine ⟨fs, hu, beq_true h1, ?_⟩
  rw [hl]
  simp only [chk, Bool.and_eq_true]
  exact ⟨⟨⟨h2, h3⟩, h4⟩, by rw [Nat.zero_add]; exact h5⟩
theorem chk_more {P : Program} {a b : Sh} {fs : List Field} {off : Nat} (h : chk P (.fld a b) (.inr (fs, off)) = true) : ∃ f r, fs = f :: r ∧ f.offset = off ∧ P.cellsOf f.type = a.size ∧ chk P a (.inl f.type) = true ∧ chk P b (.inr (r, off + a.size)) = true := by
  cases fs with
  | nil => simp [chk] at h
  | cons f r =>
    simp only [chk, Bool.and_eq_true] at h
    obtain ⟨⟨⟨h1, h2⟩, h3⟩, h4⟩ := h
    exact ⟨f, r, rfl, beq_true h1, beq_true h2, h3, h4⟩
theorem chk_size {P : Program} : ∀ (σ : Sh) (t : TypeId), chk P σ (.inl t) = true → σ.agg = true → P.cellsOf t = σ.size
  | .arr n σ, t, h, _ => by obtain ⟨e, _, h1, _⟩ := chk_arr h; exact h1
  | .fld a b, t, h, _ => by obtain ⟨fs, _, h1, _⟩ := chk_fld h; exact h1
  | .fin, t, h, _ => by simp [chk] at h
  | .int _, _, _, h => by simp [Sh.agg] at h
  | .bool, _, _, h => by simp [Sh.agg] at h
  | .str, _, _, h => by simp [Sh.agg] at h
  | .sl _ _, _, _, h => by simp [Sh.agg] at h

def Shaped (P : Program) (t : TypeId) : Prop := ∃ σ, chk P σ (.inl t) = true

theorem fields_kids {P : Program} : ∀ (σ : Sh) (fs : List Field) (off : Nat), chk P σ (.inr (fs, off)) = true →
    (∀ f ∈ fs, Shaped P f.type) ∧ σ.size = (fs.map fun f => P.cellsOf f.type).sum ∧ ∀ (j : Nat) f, fs[j]? = some f → f.offset = off + ((fs.take j).map fun f => P.cellsOf f.type).sum
  | .fld a b, fs, off, h => by
    obtain ⟨f, r, rfl, h1, h2, h3, h4⟩ := chk_more h
    obtain ⟨h5, h6, h7⟩ := fields_kids b r _ h4
    refine ⟨fun g hg => ?_, by simp [Sh.size, h2, h6], fun j g hg => ?_⟩
    · rcases List.mem_cons.1 hg with rfl | hg
      · exact ⟨a, h3⟩
      · exact h5 g hg
    · cases j with
      | zero => simp at hg; subst hg; simp [h1]
      | succ j =>
        rw [h7 j g (by simpa using hg)]
        simp [h2]
        omega
  | .fin, [], off, h => ⟨by simp, by simp [Sh.size], by simp⟩
  | .fin, f :: fs, off, h => by simp [chk] at h
  | .int _, _, _, h => by simp [chk] at h
  | .bool, _, _, h => by simp [chk] at h
  | .str, _, _, h => by simp [chk] at h
  | .sl _ _, _, _, h => by simp [chk] at h
  | .arr _ _, _, _, h => by simp [chk] at h

theorem shaped_cases {P : Program} {t : TypeId} (h : Shaped P t) : (∃ k, P.underlying t = some (.int k)) ∨ P.underlying t = some .bool ∨ P.underlying t = some .string ∨ (∃ e, P.underlying t = some (.slice e) ∧ Shaped P e ∧ 0 < P.cellsOf e) ∨
    (∃ n e, P.underlying t = some (.array n e) ∧ Shaped P e ∧ P.cellsOf t = n * P.cellsOf e) ∨ ∃ fs a b, P.underlying t = some (.struct fs) ∧ P.cellsOf t = Sh.size (.fld a b) ∧ chk P (.fld a b) (.inr (fs.toList, 0)) = true := by
  obtain ⟨σ, h⟩ := h
  cases σ with
  | int k => simp only [chk] at h; split at h <;> try cases h
             rename_i q hq; exact .inl ⟨_, hq⟩
  | bool => simp only [chk] at h; split at h <;> try cases h
            rename_i hq; exact .inr (.inl hq)
  | str => simp only [chk] at h; split at h <;> try cases h
           rename_i hq; exact .inr (.inr (.inl hq))
  | sl n σ => obtain ⟨e, h1, h2, h3, _, h4⟩ := chk_slice h; exact .inr (.inr (.inr (.inl ⟨e, h1, ⟨σ, h4⟩, by omega⟩)))
  | arr n σ => obtain ⟨e, h1, h2, h3, h4⟩ := chk_arr h; exact .inr (.inr (.inr (.inr (.inl ⟨n, e, h1, ⟨σ, h4⟩, by rw [h2, h3]⟩))))
  | fld a b => obtain ⟨fs, h1, h2, h3⟩ := chk_fld h; exact .inr (.inr (.inr (.inr (.inr ⟨fs, a, b, h1, h2, h3⟩))))
  | fin => simp [chk] at h

theorem kids (P : Program) : Kids P (Shaped P) where
  pointer ht hu := by rcases shaped_cases ht with ⟨k, h⟩ | h | h | ⟨e, h, _⟩ | ⟨n, e, h, _⟩ | ⟨fs, a, b, h, _⟩ <;> rw [h] at hu <;> cases hu
  slice ht hu := by
    rcases shaped_cases ht with ⟨k, h⟩ | h | h | ⟨e, h, h2, _⟩ | ⟨n, e, h, _⟩ | ⟨fs, a, b, h, _⟩ <;> rw [h] at hu <;> cases hu
    exact h2
  array ht hu := by
    rcases shaped_cases ht with ⟨k, h⟩ | h | h | ⟨e, h, _⟩ | ⟨n, e, h, h2, h3⟩ | ⟨fs, a, b, h, _⟩ <;> rw [h] at hu <;> cases hu
    exact ⟨h2, h3⟩
  struct ht hu := by
    rcases shaped_cases ht with ⟨k, h⟩ | h | h | ⟨e, h, _⟩ | ⟨n, e, h, _⟩ | ⟨fs, a, b, h, h2, h3⟩ <;> rw [h] at hu <;> cases hu
    obtain ⟨h4, h5, h6⟩ := fields_kids _ _ _ h3
    exact ⟨h4, h2.trans h5, fun j f hf => by rw [h6 j f hf, Nat.zero_add]⟩
  map ht hu := by rcases shaped_cases ht with ⟨k, h⟩ | h | h | ⟨e, h, _⟩ | ⟨n, e, h, _⟩ | ⟨fs, a, b, h, _⟩ <;> rw [h] at hu <;> cases hu

theorem slices_wide {P : Program} {t e : TypeId} (ht : Shaped P t) (hu : P.underlying t = some (.slice e)) : 0 < P.cellsOf e := by
  rcases shaped_cases ht with ⟨k, h⟩ | h | h | ⟨e', h, _, h2⟩ | ⟨n, e, h, _⟩ | ⟨fs, a, b, h, _⟩ <;> rw [h] at hu <;> cases hu
  exact h2

/-- what stays: the reading of an argument behind the call -/
theorem trod_behind {H : Type} {enc : TypeId × Value → H} {P : Program} {w w' : World} {t : TypeId} {v : Value} {d : DataW H} {ps : List MemPlace} {sp : Nat → Bool} (ht : Shaped P t)
    (h : DataW.Trod enc P w 0 (fun _ => true) true t v d ps) (hext : Ext F0 w w') (hs : ∀ p ∈ ps, sp p.block = true) : DataW.Trod enc P w' 0 sp true t v d ps := by
  obtain ⟨fuel, h⟩ := h
  refine ⟨fuel, DataW.trod_stays (x := (d, ps)) (kids P) (fun ht hu => slices_wide ht hu) (by simp) ht h (fun p hp => ?_) hs⟩
  have hlt := DataW.trod_lt fuel t _ (d, ps) h p hp
  cases p with
  | cell b off => exact hext.cell b off hlt id
  | map b => exact hext.block b hlt fun _ f => f

theorem all_behind {H : Type} {enc : TypeId × Value → H} {P : Program} {w w' : World} {sp : Nat → Bool} (hext : Ext F0 w w') : ∀ {ts : List TypeId} {vs : List Value} {ds : List (DataW H)} {ps : List MemPlace}, (∀ t ∈ ts, Shaped P t) →
    DataW.TrodAll enc P w 0 (fun _ => true) true ts vs ds ps → (∀ p ∈ ps, sp p.block = true) → DataW.TrodAll enc P w' 0 sp true ts vs ds ps
  | [], [], [], ps, _, h, _ => h
  | t :: ts, v :: vs, d :: ds, ps, ht, ⟨p, q, h1, h2, e⟩, hs => by
    subst e
    exact ⟨p, q, trod_behind (ht t (by simp)) h1 hext fun x hx => hs x (by simp [hx]), all_behind hext (fun t h => ht t (by simp [h])) h2 fun x hx => hs x (by simp [hx]), rfl⟩
  | [], [], _ :: _, _, _, h, _ => h.elim
  | [], _ :: _, _, _, _, h, _ => h.elim
  | _ :: _, [], _, _, _, h, _ => h.elim
  | _ :: _, _ :: _, [], _, _, h, _ => h.elim

theorem kept_ext {w w' : World} (h : Ext F0 w w') (may : MemPlace → Prop) : w.keptBut w' may := by
  refine ⟨h.os, h.output, fun i hi => ?_⟩
  rw [h.block i hi fun _ f => f]
  cases w.heap[i]? with
  | none => trivial
  | some o => cases o <;> first | exact ⟨rfl, rfl, rfl, fun _ _ => rfl⟩ | exact .inr ⟨rfl, rfl⟩ | rfl

theorem cells_get {w : World} {a : Addr} {n : Nat} {vs : List Value} (h : w.cells? 0 a n = some vs) : vs.length = n ∧ ∀ i, i < n → ∃ v, vs[i]? = some v ∧ w.cell? (a.add i) = some v := by
  unfold World.cells? at h
  rw [if_pos (Nat.zero_le _)] at h
  obtain ⟨h1, h2⟩ := mapM_some h
  refine ⟨by simpa using h1, fun i hi => ?_⟩
  obtain ⟨y, h3, h4⟩ := h2 i i (by simp [hi])
  exact ⟨y, h3, h4⟩

theorem add_add (a : Addr) (n i : Nat) (h : a.spot = none) : (a.add n).add i = ⟨a.block, a.off + (n + i), none⟩ := by
  obtain ⟨b, o, s⟩ := a
  simp at h
  subst h
  rw [addr_add, addr_add, Nat.add_assoc]

theorem spot_of {w : World} {a : Addr} {v : Value} (h : w.cell? a = some v) : a.spot = none := by
  unfold World.cell? at h
  split at h
  · split at h
    · cases h
    · rename_i hs; simpa using hs
  · cases h

/-- what is read off fits its shape; its cells read as its data -/
theorem trod_rep {H : Type} {enc : TypeId × Value → H} {P : Program} {w : World} : ∀ (σ : Sh),
    (∀ (t : TypeId) (fuel : Nat) (cs : List Value) (d : DataW H) (ps : List MemPlace), chk P σ (.inl t) = true → DataW.trod enc P w 0 (fun _ => true) true fuel t cs = some (d, ps) →
      fit σ (.inl d) ∧ CellsRep w F0 (cl σ (.inl d)) cs ∧ cs.length = σ.size) ∧
    (∀ (fs : List Field) (off fuel : Nat) (cs : List Value) (xs : List (DataW H × List MemPlace)), chk P σ (.inr (fs, off)) = true → xs.length = fs.length →
      (∀ (i : Nat) f, fs[i]? = some f → DataW.trod enc P w 0 (fun _ => true) true fuel f.type ((cs.drop f.offset).take (P.cellsOf f.type)) = xs[i]?) →
      fit σ (.inr (xs.map (·.1))) ∧ CellsRep w F0 (cl σ (.inr (xs.map (·.1)))) ((cs.drop off).take σ.size) ∧ ((cs.drop off).take σ.size).length = σ.size)
  | .int k => by
    refine ⟨fun t fuel cs d ps hc h => ?_, fun fs off fuel cs xs hc => by simp [chk] at hc⟩
    simp only [chk] at hc
    split at hc <;> try cases hc
    rename_i q hu
    have hq := kindEq_eq hc
    subst hq
    obtain ⟨n, h1, h2, h3⟩ := DataW.trod_int hu h
    cases h2
    subst h1
    exact ⟨⟨n, rfl, h3⟩, .one (.int _ _) rfl, rfl⟩
  | .bool => by
    refine ⟨fun t fuel cs d ps hc h => ?_, fun fs off fuel cs xs hc => by simp [chk] at hc⟩
    simp only [chk] at hc
    split at hc <;> try cases hc
    rename_i hu
    obtain ⟨n, h1, h2⟩ := DataW.trod_bool hu h
    cases h2
    subst h1
    exact ⟨⟨n, rfl⟩, .one (.bool _) rfl, rfl⟩
  | .str => by
    refine ⟨fun t fuel cs d ps hc h => ?_, fun fs off fuel cs xs hc => by simp [chk] at hc⟩
    simp only [chk] at hc
    split at hc <;> try cases hc
    rename_i hu
    obtain ⟨n, h1, h2, _⟩ := DataW.trod_string hu h
    cases h2
    subst h1
    refine ⟨⟨_, rfl⟩, .one ?_ rfl, rfl⟩
    have : n = ⟨n.data.toList.toArray⟩ := by cases n; simp
    rw [this]
    simpa using RepP.str (w := w) (F := F0) n.data.toList
  | .sl n σ => by
    refine ⟨fun t fuel cs d ps hc h => ?_, fun fs off fuel cs xs hc => by simp [chk] at hc⟩
    obtain ⟨e, hu, hn, hn0, hσ, hce⟩ := chk_slice hc
    rcases DataW.trod_slice hu h with ⟨h1, h2⟩ | ⟨a, len, cap, elems, rest, m, rfl, h1, h2, _, h4, _, h6, h7, h8, _⟩
    · cases h2
      subst h1
      exact ⟨.inl rfl, .one (.slnil _ _) rfl, rfl⟩
    · cases h2
      subst h1
      rw [hn] at h7 h8
      have key : ∀ (i : Nat) (x : DataW H × List MemPlace), elems[i]? = some x → fit σ (.inl x.1) ∧ ∃ vs : List Value, vs.length = n ∧ CellsRep w F0 (cl σ (.inl x.1)) vs ∧ ∀ j, j < n → ∃ v, vs[j]? = some v ∧ w.cell? ((a.add (i * n)).add j) = some v := by
        intro i x hx
        have hlt : i < len := by rw [← h6]; exact (List.getElem?_eq_some_iff.1 hx).1
        have h9 := h7 i hlt
        rw [hx, Option.bind_eq_some_iff] at h9
        obtain ⟨vs, g1, g2⟩ := h9
        obtain ⟨g3, g4⟩ := cells_get g1
        obtain ⟨k1, k2, k3⟩ := (trod_rep σ).1 e m vs x.1 x.2 hce g2
        exact ⟨k1, vs, g3, k2, g4⟩
      have hone : ∀ (i : Nat) (x : DataW H × List MemPlace), elems[i]? = some x → (rd σ x.1).cells = cl σ (.inl x.1) := fun i x hx => by
        obtain ⟨_, vs, g1, g2, _⟩ := key i x hx
        exact elD_cells g2 fun ha => by
          rw [g2.1, g1]
          cases σ <;> first | (simp [Sh.agg] at ha; done) | (simp [Sh.size] at hσ; omega)
      refine ⟨.inr ⟨_, _, rfl, fun y hy => ?_⟩, .one ?_ rfl, rfl⟩
      · obtain ⟨x, hx, rfl⟩ := List.mem_map.1 hy
        obtain ⟨i, hi⟩ := List.getElem?_of_mem hx
        exact (key i x hi).1
      · have hcl : (elems.map (·.1)).map (fun x => elD σ (cl σ (.inl x))) = elems.map fun x => rd σ x.1 := by simp [rd]
        change RepP w F0 (.sl n ((elems.map (·.1)).map (fun x => elD σ (cl σ (.inl x)))) none) _
        rw [hcl]
        rcases Nat.eq_zero_or_pos cap with hz | hp
        · subst hz
          have : elems = [] := List.eq_nil_of_length_eq_zero (by omega)
          subst this
          have : len = 0 := by simp at h6; omega
          subst this
          exact .slnil _ _
        · have hspot : a.spot = none := by
            rcases Nat.eq_zero_or_pos len with hl | hl
            · obtain ⟨h9, h10⟩ := h8 rfl
              have h11 := h10 0 (by omega)
              have hr : 0 < rest.length := by omega
              rw [List.getElem?_eq_getElem hr, Option.bind_eq_some_iff] at h11
              obtain ⟨vs, g1, _⟩ := h11
              obtain ⟨v, _, g3⟩ := (cells_get g1).2 0 (by omega)
              have := spot_of g3
              simpa [Addr.add, hl] using this
            · have hel : 0 < elems.length := by omega
              obtain ⟨_, vs, g1, _, g2⟩ := key 0 _ (List.getElem?_eq_getElem hel)
              obtain ⟨v, _, g3⟩ := g2 0 (by omega)
              have := spot_of g3
              simpa [Addr.add] using this
          have hcell : ∀ i d' j c, (elems.map fun x => rd σ x.1)[i]? = some d' → d'.cells[j]? = some c → ∃ v, w.cell? ⟨a.block, a.off + (i * n + j), none⟩ = some v ∧ RepP w F0 c v ∧ v.oneCell' = true := by
            intro i d' j c hi hj
            simp only [List.getElem?_map, Option.map_eq_some_iff] at hi
            obtain ⟨x, hx, rfl⟩ := hi
            rw [hone i x hx] at hj
            obtain ⟨_, vs, g1, g2, g3⟩ := key i x hx
            have hjl : j < n := by rw [← g1, ← g2.1]; exact (List.getElem?_eq_some_iff.1 hj).1
            obtain ⟨v, g4, g5⟩ := g3 j hjl
            rw [add_add a _ _ hspot] at g5
            obtain ⟨k1, k2, _⟩ := g2.2 j c v hj g4
            exact ⟨v, g5, k1, k2⟩
          have ha : a = ⟨a.block, a.off, none⟩ := by cases a; simp at hspot; subst hspot; rfl
          have hlen : (elems.map fun x => rd σ x.1).length = len := by simpa using h6
          rw [ha, ← hlen]
          refine .sl n _ a.block a.off cap (fun i j => (w.cell? ⟨a.block, a.off + (i * n + j), none⟩).getD undef) (by omega) (fun i d' hi => ?_) (fun i d' j c hi hj => ?_) (fun i d' j c hi hj => ?_) (fun i d' j c hi hj => ?_)
          · simp only [List.getElem?_map, Option.map_eq_some_iff] at hi
            obtain ⟨x, hx, rfl⟩ := hi
            rw [hone i x hx]
            obtain ⟨_, vs, g1, g2, _⟩ := key i x hx
            rw [g2.1, g1]
          all_goals obtain ⟨v, g1, g2, g3⟩ := hcell i d' j c hi hj
          · exact ⟨by rw [g1]; rfl, id⟩
          · rw [g1]; exact g3
          · rw [g1]; exact g2
  | .fin => by
    refine ⟨fun t fuel cs d ps hc h => by simp [chk] at hc, fun fs off fuel cs xs hc hl h => ?_⟩
    cases fs with
    | cons f fs => simp [chk] at hc
    | nil =>
      have : xs = [] := List.eq_nil_of_length_eq_zero (by simpa using hl)
      subst this
      exact ⟨trivial, by simp [Sh.size, cl, CellsRep], by simp [Sh.size]⟩
  | .fld a b => by
    have two : ∀ (fs : List Field) (off fuel : Nat) (cs : List Value) (xs : List (DataW H × List MemPlace)), chk P (.fld a b) (.inr (fs, off)) = true → xs.length = fs.length →
        (∀ (i : Nat) f, fs[i]? = some f → DataW.trod enc P w 0 (fun _ => true) true fuel f.type ((cs.drop f.offset).take (P.cellsOf f.type)) = xs[i]?) →
        (∃ x r, xs = x :: r ∧ fit a (.inl x.1) ∧ fit b (.inr (r.map (·.1))) ∧ CellsRep w F0 (cl a (.inl x.1) ++ cl b (.inr (r.map (·.1)))) ((cs.drop off).take (a.size + b.size)) ∧ ((cs.drop off).take (a.size + b.size)).length = a.size + b.size) := by
      intro fs off fuel cs xs hc hl h
      obtain ⟨f, r, rfl, h1, h2, h3, h4⟩ := chk_more hc
      cases xs with
      | nil => simp at hl
      | cons x xs =>
        have h0 := h 0 f rfl
        rw [h1, h2] at h0
        obtain ⟨k1, k2, k3⟩ := (trod_rep a).1 f.type fuel _ x.1 x.2 h3 h0
        obtain ⟨g1, g2, g3⟩ := (trod_rep b).2 r (off + a.size) fuel cs xs h4 (by simpa using hl) fun i f' hf => by simpa using h (i + 1) f' (by simpa using hf)
        have hsplit : (cs.drop off).take (a.size + b.size) = (cs.drop off).take a.size ++ (cs.drop (off + a.size)).take b.size := by
          rw [List.take_add, List.drop_drop]
        exact ⟨x, xs, rfl, k1, g1, by rw [hsplit]; exact k2.append g2, by rw [hsplit, List.length_append, k3, g3]⟩
    refine ⟨fun t fuel cs d ps hc h => ?_, fun fs off fuel cs xs hc hl h => ?_⟩
    · obtain ⟨fs, hu, hsz, hck⟩ := chk_fld hc
      obtain ⟨xs, m, rfl, hx, hlen, hxl, hget⟩ := DataW.trod_struct hu h
      cases hx
      obtain ⟨x, r, rfl, k1, k2, k3, k4⟩ := two fs.toList 0 m cs xs hck (by simpa using hxl) (fun i f hf => hget i f (by simpa using hf))
      have hcs : (cs.drop 0).take (a.size + b.size) = cs := by rw [List.drop_zero, ← hsz, ← hlen, List.take_length]
      rw [hcs] at k3 k4
      exact ⟨⟨x.1, r.map (·.1), rfl, k1, k2⟩, k3, k4⟩
    · obtain ⟨x, r, rfl, k1, k2, k3, k4⟩ := two fs off fuel cs xs hc hl h
      exact ⟨⟨k1, k2⟩, k3, k4⟩
  | .arr n σ => by
    refine ⟨fun t fuel cs d ps hc h => ?_, fun fs off fuel cs xs hc => by simp [chk] at hc⟩
    obtain ⟨e, hu, h1, h2, h3⟩ := chk_arr hc
    obtain ⟨xs, m, rfl, hx, hlen, hxl, hget⟩ := DataW.trod_array hu h
    cases hx
    rw [h1] at hlen
    rw [h2] at hget
    have key : ∀ (k : Nat) (ys : List (DataW H × List MemPlace)) (j : Nat), ys.length = k → (∀ i, i < k → DataW.trod enc P w 0 (fun _ => true) true m e ((cs.drop ((j + i) * σ.size)).take σ.size) = ys[i]?) →
        (∀ y ∈ ys, fit σ (.inl y.1)) ∧ CellsRep w F0 ((ys.map (·.1)).flatMap fun x => cl σ (.inl x)) ((cs.drop (j * σ.size)).take (k * σ.size)) ∧ ((cs.drop (j * σ.size)).take (k * σ.size)).length = k * σ.size := by
      intro k
      induction k with
      | zero => intro ys j hl _; have : ys = [] := List.eq_nil_of_length_eq_zero hl; subst this; simp [CellsRep]
      | succ k ih =>
        intro ys j hl hg
        cases ys with
        | nil => simp at hl
        | cons y ys =>
          have h0 := hg 0 (by omega)
          rw [Nat.add_zero] at h0
          obtain ⟨k1, k2, k3⟩ := (trod_rep σ).1 e m _ y.1 y.2 h3 h0
          obtain ⟨g1, g2, g3⟩ := ih ys (j + 1) (by simpa using hl) fun i hi => by
            have := hg (i + 1) (by omega)
            rw [show j + (i + 1) = j + 1 + i by omega] at this
            simpa using this
          have hsplit : (cs.drop (j * σ.size)).take ((k + 1) * σ.size) = (cs.drop (j * σ.size)).take σ.size ++ (cs.drop ((j + 1) * σ.size)).take (k * σ.size) := by
            rw [Nat.succ_mul, Nat.add_comm, List.take_add, List.drop_drop, Nat.succ_mul]
          refine ⟨fun z hz => ?_, by rw [hsplit]; exact k2.append g2, by rw [hsplit, List.length_append, k3, g3, Nat.succ_mul, Nat.add_comm]⟩
          rcases List.mem_cons.1 hz with rfl | hz
          · exact k1
          · exact g1 z hz
    obtain ⟨k1, k2, k3⟩ := key n xs 0 hxl fun i hi => by rw [Nat.zero_add]; exact hget i hi
    have hcs : (cs.drop (0 * σ.size)).take (n * σ.size) = cs := by rw [Nat.zero_mul, List.drop_zero, ← hlen, List.take_length]
    rw [hcs] at k2 k3
    exact ⟨⟨_, rfl, by simpa using hxl, fun y hy => by obtain ⟨x, hx, rfl⟩ := List.mem_map.1 hy; exact k1 x hx⟩, k2, k3⟩

end Go.Plat
