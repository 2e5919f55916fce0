/-
  append on slices that have the room behind them.
-/
import Derived.Test.YtgmlcpmkonagcaaPlApp
namespace Go.Plat
open Go
set_option linter.unusedVariables false
set_option linter.unusedSimpArgs false

/-- an owned object that is another one, perhaps elsewhere -/
theorem Fits.update {w w' : World} {ρ : Pl} {L : List Ob} (hf : Fits w ρ L) {k : Nat} {o o' : Ob} {l' : Loc} (hk : L[k]? = some o) (hc : Compat ρ L (upd ρ k l') (L.set k o'))
    (F : Nat → Nat → Prop) (hF : ∀ b off, F b off → o.owns (ρ k) b off) (he : Ext F w w')
    (hin : ∀ b off, o'.owns l' b off → o.owns (ρ k) b off ∨ w.heap.size ≤ b)
    (ho : Fresh w (foot ρ L) (foot (upd ρ k l') (L.set k o')) → Ext (foot ρ L) w w' → ObFits w' (foot (upd ρ k l') (L.set k o')) (upd ρ k l') (L.set k o') l' o') :
    Fits w' (upd ρ k l') (L.set k o') ∧ Ext (own ρ L) w w' ∧ Fresh w (own ρ L) (own (upd ρ k l') (L.set k o')) := by
  have hF' : ∀ b off, F b off → own ρ L b off := fun b off h => ⟨k, o, hk, hF b off h⟩
  have he' : Ext (own ρ L) w w' := he.mono fun b off _ h => hF' b off h
  have hfr : Fresh w (own ρ L) (own (upd ρ k l') (L.set k o')) := by
    rintro b off ⟨j, x, h1, h2⟩
    rcases set_get h1 with ⟨e1, e2⟩ | ⟨e1, e2⟩
    · rw [e1, upd_same] at h2
      rw [e2] at h2
      exact (hin b off h2).imp (fun h => ⟨k, o, hk, h⟩) id
    · rw [upd_ne e1] at h2
      exact .inl ⟨j, x, e2, h2⟩
  refine ⟨hf.change F hF' he hc hfr (fun j j' x x' b off h1 h2 h3 h4 => ?_) (fun j x hj => ?_), he', hfr⟩
  · rcases set_get h1 with ⟨e1, e2⟩ | ⟨e1, e2⟩ <;> rcases set_get h2 with ⟨e3, e4⟩ | ⟨e3, e4⟩
    · omega
    · rw [e1, upd_same] at h3
      rw [e2] at h3
      rw [upd_ne e3] at h4
      rcases hin b off h3 with h | h
      · exact (e3 (hf.disj _ _ _ _ _ _ e4 hk h4 h)).elim
      · have := hf.foot_lt (.inl ⟨j', x', e4, h4⟩); omega
    · rw [e3, upd_same] at h4
      rw [e4] at h4
      rw [upd_ne e1] at h3
      rcases hin b off h4 with h | h
      · exact (e1 (hf.disj _ _ _ _ _ _ e2 hk h3 h)).elim
      · have := hf.foot_lt (.inl ⟨j, x, e2, h3⟩); omega
    · rw [upd_ne e1] at h3
      rw [upd_ne e3] at h4
      exact hf.disj _ _ _ _ _ _ e2 e4 h3 h4
  · rcases set_get hj with ⟨e1, e2⟩ | ⟨e1, e2⟩
    · subst e1; subst e2
      rw [upd_same]
      exact .inr (ho (hfr.foot rfl) he'.foot)
    · refine .inl ⟨(List.getElem?_eq_some_iff.1 e2).1, e2, upd_ne e1, fun b off h1 h2 => ?_⟩
      exact e1 (hf.disj _ _ _ _ _ _ e2 hk h1 (hF b off h2))

theorem Compat.setSpare {ρ : Pl} {L : List Ob} {k n m : Nat} {l' : Loc} (hk : L[k]? = some (.spare n)) (hnm : n ≤ m) (hl : n = m → l' = ρ k) : Compat ρ L (upd ρ k l') (L.set k (.spare m)) where
  hid := rfl
  len := by simp
  cells j ds hj h := by
    rcases set_get h with ⟨_, e2⟩ | ⟨e1, e2⟩
    · cases e2
    · exact ⟨ds, e2, upd_ne e1⟩
  map j ds hj h := by
    rcases set_get h with ⟨_, e2⟩ | ⟨e1, e2⟩
    · cases e2
    · exact ⟨ds, e2, upd_ne e1⟩
  spare j m' hj h := by
    rcases set_get h with ⟨e1, e2⟩ | ⟨e1, e2⟩
    · cases e2
      subst e1
      exact ⟨n, hk, hnm, fun e => by rw [upd_same, hl e]⟩
    · exact ⟨m', e2, Nat.le_refl _, fun _ => upd_ne e1⟩
  arr j e ds hj h := by
    rcases set_get h with ⟨_, e2⟩ | ⟨e1, e2⟩
    · cases e2
    · exact ⟨ds, e2, Nat.le_refl _, fun _ => upd_ne e1⟩

/-- the elements that are appended -/
def ysK (T : Tab) (t2 es : Nat) (y : D) (K : List D → Prop) : Prop :=
  match ty T t2 with
  | some i => match i.d with
    | .slice _ => match y with
      | .sl e ys _ => match Nat.beq e es with
        | true => K ys
        | false => False
      | .nilsl => K []
      | _ => False
    | .str => match y with
      | .str s => match Nat.beq es 1 with
        | true => K (s.map fun c => .int .u8 c.toNat)
        | false => False
      | _ => False
    | _ => False
  | none => False

def appendOp (T : Tab) (t t2 : Nat) (x y : D) (L : List Ob) (K : D → List Ob → Prop) : Prop :=
  match ty T t with
  | some i => match i.d with
    | .slice e => match ty T e with
      | some j => match Nat.ble j.bytes 32768 with
        | true => ysK T t2 j.size y fun ys => match x with
          | .nilsl => VS (SideS (ys.length ≤ 4294967296) (VS (NormL ys fun r n => K (.sl j.size r (some L.length)) (L ++ [.spare n]))))
          | .sl es ds (some k) => match Nat.beq es j.size with
            | true => nthK k L fun o => match o with
              | .spare n => VS (SideS (n = ds.length ∧ ds.length + ys.length ≤ 4294967296) (VS (NormL (ds ++ ys) fun r m => setLK k (.spare m) L fun L => K (.sl j.size r (some k)) L)))
              | _ => False
            | false => False
          | _ => False
        | false => False
      | none => False
    | _ => False
  | none => False

/-- rows of elements' cells, laid flat -/
theorem flat_cells {w : World} {F : Nat → Nat → Prop} {b off e : Nat} (he : 0 < e) {ds : List D} (hlen : ∀ (i : Nat) d, ds[i]? = some d → d.cells.length = e)
    (h : ∀ (i : Nat) d (j : Nat) c, ds[i]? = some d → d.cells[j]? = some c → ∃ u, w.cell? ⟨b, off + (i * e + j), none⟩ = some u ∧ ¬ F b (off + (i * e + j)) ∧ RepP w F c u)
    (hone : ∀ (i : Nat) d (j : Nat) c u, ds[i]? = some d → d.cells[j]? = some c → w.cell? ⟨b, off + (i * e + j), none⟩ = some u → u.oneCell' = true) :
    ∃ vs : List Value, vs.length = ds.length * e ∧ (∀ v ∈ vs, v.oneCell' = true) ∧ (∀ (q : Nat) v, vs[q]? = some v → w.cell? ⟨b, off + q, none⟩ = some v ∧ ¬ F b (off + q)) ∧
      ∀ (i : Nat) d (j : Nat) c, ds[i]? = some d → d.cells[j]? = some c → ∃ u, vs[i * e + j]? = some u ∧ RepP w F c u := by
  have hq : ∀ q, q < ds.length * e → ∃ u, w.cell? ⟨b, off + q, none⟩ = some u ∧ ¬ F b (off + q) ∧ u.oneCell' = true := by
    intro q hq
    have h1 : q / e < ds.length := Nat.div_lt_of_lt_mul (by rwa [Nat.mul_comm])
    have h2 : q % e < e := Nat.mod_lt _ he
    have hl := hlen _ _ (List.getElem?_eq_getElem h1)
    obtain ⟨u, h3, h4, _⟩ := h (q / e) _ (q % e) _ (List.getElem?_eq_getElem h1) (List.getElem?_eq_getElem (by rw [hl]; exact h2))
    have h5 := hone _ _ _ _ u (List.getElem?_eq_getElem h1) (List.getElem?_eq_getElem (by rw [hl]; exact h2)) h3
    rw [Nat.mul_comm, Nat.div_add_mod] at h3 h4
    exact ⟨u, h3, h4, h5⟩
  refine ⟨(List.range (ds.length * e)).map fun q => (w.cell? ⟨b, off + q, none⟩).getD undef, by simp, fun v hv => ?_, fun q v hv => ?_, fun i d j c hi hj => ?_⟩
  · obtain ⟨q, hq1, rfl⟩ := List.mem_map.1 hv
    obtain ⟨u, h1, _, h2⟩ := hq q (List.mem_range.1 hq1)
    rw [h1]; exact h2
  · simp only [List.getElem?_map, Option.map_eq_some_iff] at hv
    obtain ⟨q', h1, rfl⟩ := hv
    obtain ⟨h2, h3⟩ := List.getElem?_eq_some_iff.1 h1
    simp at h2 h3
    subst h3
    obtain ⟨u, h4, h5, _⟩ := hq q h2
    exact ⟨by simp [h4], h5⟩
  · obtain ⟨u, h1, h2, h3⟩ := h i d j c hi hj
    have hil : i < ds.length := (List.getElem?_eq_some_iff.1 hi).1
    have hjl : j < e := by rw [← hlen i d hi]; exact (List.getElem?_eq_some_iff.1 hj).1
    have : i * e + e ≤ ds.length * e := by
      have := Nat.mul_le_mul_right e hil
      rwa [Nat.succ_mul] at this
    refine ⟨u, ?_, h3⟩
    rw [List.getElem?_map, List.getElem?_range (by omega)]
    simp [h1]

end Go.Plat
