/-
  Operations that make memory which then stays: slices of literals, make, conversions; and more that only compute.
-/
import Derived.Test.YtgmlcpmkonagcaaPlFw3
import Derived.Laws.NewBlocks
namespace Go.Plat
open Go
set_option linter.unusedVariables false
set_option linter.unusedSimpArgs false

abbrev F0 : Nat → Nat → Prop := fun _ _ => False

theorem Ext.alloc (w : World) (o : Obj) : Ext F0 w (w.alloc o) where
  os := rfl
  tape := rfl
  output := rfl
  size := by simp
  block b hb _ := by
    show (w.heap.push o)[b]? = _
    rw [Array.getElem?_push, if_neg (by omega)]
  cell b off hb _ := World.cell?_alloc_old w (a := ⟨b, off, none⟩) (o := o) (by simp; omega)
  frozen b off hb _ := World.frozen?_alloc_old w (a := ⟨b, off, none⟩) (o := o) (by simp; omega)

theorem Ext.drew (w : World) : Ext F0 w { w with drawn := w.drawn + 1 } :=
  ⟨rfl, rfl, rfl, Nat.le_refl _, fun _ _ _ => rfl, fun _ _ _ _ => rfl, fun _ _ _ _ => rfl⟩

theorem Ext.grow {F : Nat → Nat → Prop} {w w' : World} (h : Ext F0 w w') : Ext F w w' := h.mono fun _ _ _ f => f.elim

theorem Ext.trans0 {a b c : World} (h : Ext F0 a b) (k : Ext F0 b c) : Ext F0 a c := h.trans k fun _ _ _ f => f

theorem Fits.grow {w w' : World} {ρ : Pl} {L : List Ob} (hf : Fits w ρ L) (he : Ext F0 w w') : Fits w' ρ L where
  hid b off h := Nat.lt_of_lt_of_le (hf.hid b off h) he.size
  sep := hf.sep
  disj := hf.disj
  obj k o hk := by
    have h := hf.obj k o hk
    have kr : ∀ {d v}, Rep w (foot ρ L) ρ L d v → Rep w' (foot ρ L) ρ L d v := fun h => h.keep he.grow (.refl _ _) (.refl _ _)
    have kp : ∀ {d v}, RepP w (foot ρ L) d v → RepP w' (foot ρ L) d v := fun h => h.keep he.grow (.refl _ _)
    have kc : ∀ {b off v}, w.cell? ⟨b, off, none⟩ = some v → w'.cell? ⟨b, off, none⟩ = some v := fun h => (he.cell _ _ (cell_lt h) fun f => f).trans h
    have kz : ∀ {b off}, b < w.heap.size → w.frozen? ⟨b, off, none⟩ = false → w'.frozen? ⟨b, off, none⟩ = false := fun hb h => (he.frozen _ _ hb fun f => f).trans h
    cases o with
    | cells ds => exact ⟨h.1, fun j d hj => by
        obtain ⟨⟨v, h1, h2⟩, h3⟩ := h.2 j d hj
        exact ⟨⟨v, kc h1, kr h2⟩, kz (cell_lt h1) h3⟩⟩
    | arr e ds =>
      obtain ⟨h1, h2, h3, h4⟩ := h
      refine ⟨h1, h2, fun i d j c hi hj => ?_, fun j hj => ?_⟩
      · obtain ⟨v, h5, h6⟩ := h3 i d j c hi hj
        exact ⟨v, kc h5, kr h6⟩
      · obtain ⟨⟨v, h5⟩, h6⟩ := h4 j hj
        exact ⟨⟨v, kc h5⟩, kz (cell_lt h5) h6⟩
    | spare n =>
        intro j hj
        obtain ⟨⟨v, h5⟩, h6⟩ := h j hj
        exact ⟨⟨v, kc h5⟩, kz (cell_lt h5) h6⟩
    | map es =>
      obtain ⟨ents, clock, h1, h2, h3⟩ := h
      refine ⟨ents, clock, ?_, h2, fun i p m hi hm => ⟨kp (h3 i p m hi hm).1, kr (h3 i p m hi hm).2⟩⟩
      have hb : (ρ k).block < w.heap.size := by
        rcases Nat.lt_or_ge (ρ k).block w.heap.size with h | h
        · exact h
        · rw [Array.getElem?_eq_none h] at h1; cases h1
      exact (he.block _ hb fun _ f => f).trans h1
    | dead => trivial

theorem Fits.foot_lt {w : World} {ρ : Pl} {L : List Ob} (hf : Fits w ρ L) {b off : Nat} (hft : foot ρ L b off) : b < w.heap.size := by
  refine hft.elim ?_ (hf.hid _ _)
  clear hft
  rintro ⟨k, o, hk, ho⟩
  have h := hf.obj k o hk
  cases o with
  | cells ds =>
    obtain ⟨rfl, h1, h2⟩ := ho
    obtain ⟨h3, h4⟩ := h
    obtain ⟨⟨v, h5, _⟩, _⟩ := h4 (off - (ρ k).off) ds[off - (ρ k).off] (List.getElem?_eq_getElem (by omega))
    exact cell_lt h5
  | arr e ds =>
    obtain ⟨rfl, h1, h2⟩ := ho
    obtain ⟨_, _, _, h4⟩ := h
    obtain ⟨⟨v, h5⟩, _⟩ := h4 (off - (ρ k).off) (by omega)
    exact cell_lt h5
  | spare n =>
    obtain ⟨rfl, h1, h2⟩ := ho
    obtain ⟨⟨v, h5⟩, _⟩ := h (off - (ρ k).off) (by omega)
    exact cell_lt h5
  | map es =>
    obtain ⟨ents, clock, h1, _⟩ := h
    have ho : b = (ρ k).block := ho
    subst ho
    rcases Nat.lt_or_ge (ρ k).block w.heap.size with h | h
    · exact h
    · rw [Array.getElem?_eq_none h] at h1; cases h1
  | dead => exact ho.elim

theorem Post.grow {w w' : World} {ρ : Pl} {L : List Ob} {d : D} {v : Value} (hf : Fits w ρ L) (he : Ext F0 w w') (h : Rep w' (foot ρ L) ρ L d v) : Post w ρ L d L v w' ρ :=
  ⟨hf.grow he, h, he.grow, .refl _ _, .refl _ _⟩

/-! pure data -/
def stripK : D → (D → Prop) → Prop :=
  @D.rec (fun _ => (D → Prop) → Prop) (fun _ => (List D → Prop) → Prop) (fun K => K .any) (fun k n K => K (.int k n)) (fun b K => K (.bool b)) (fun K => K .tt) (fun K => K .ff) (fun s K => K (.str s))
    (fun _ ih K => ih fun ds => K (.agg ds)) (fun _ ih K => ih fun ds => K (.tup ds)) (fun K => K .nilsl) (fun e ds _ _ K => K (.sl e ds none)) (fun _ _ _ _ _ _ => False) (fun K => K .nilp) (fun cs _ K => K (.ptr cs)) (fun _ _ _ => False) (fun _ _ _ _ _ => False)
    (fun K => K .nilmap) (fun _ _ => False) (fun f _ ih K => ih fun cs => K (.fn f cs)) (fun K => K .nilfn) (fun K => K .nilif) (fun t d _ K => K (.iface t d)) (fun K => K []) (fun _ _ ih1 ih2 K => ih1 fun d => ih2 fun ds => K (d :: ds))
def stripLK : List D → (List D → Prop) → Prop :=
  @D.rec_1 (fun _ => (D → Prop) → Prop) (fun _ => (List D → Prop) → Prop) (fun K => K .any) (fun k n K => K (.int k n)) (fun b K => K (.bool b)) (fun K => K .tt) (fun K => K .ff) (fun s K => K (.str s))
    (fun _ ih K => ih fun ds => K (.agg ds)) (fun _ ih K => ih fun ds => K (.tup ds)) (fun K => K .nilsl) (fun e ds _ _ K => K (.sl e ds none)) (fun _ _ _ _ _ _ => False) (fun K => K .nilp) (fun cs _ K => K (.ptr cs)) (fun _ _ _ => False) (fun _ _ _ _ _ => False)
    (fun K => K .nilmap) (fun _ _ => False) (fun f _ ih K => ih fun cs => K (.fn f cs)) (fun K => K .nilfn) (fun K => K .nilif) (fun t d _ K => K (.iface t d)) (fun K => K []) (fun _ _ ih1 ih2 K => ih1 fun d => ih2 fun ds => K (d :: ds))

/-- d' is d without its tokens, and d has nothing else that is owned -/
def PureOf (d d' : D) : Prop := d.cells.length = d'.cells.length ∧ ∀ (w : World) (F : Nat → Nat → Prop) (ρ : Pl) (L : List Ob) (v : Value), Rep w F ρ L d v → RepP w F d' v
def PureLOf (ds ds' : List D) : Prop := ds.length = ds'.length ∧ ∀ (i : Nat) d d', ds[i]? = some d → ds'[i]? = some d' → PureOf d d'

def D.flat : D → Prop
  | .agg _ | .tup _ | .fn _ _ | .sl _ _ _ | .osl _ _ _ _ _ | .loc _ _ | .aloc _ _ _ _ | .mp _ => False
  | _ => True

theorem Rep.pure_inv {w : World} {F : Nat → Nat → Prop} {ρ : Pl} {L : List Ob} {d : D} {v : Value} (h : Rep w F ρ L d v)
    (hd : d.flat) : RepP w F d v := by
  cases h with
  | pure _ _ h => exact h
  | _ => exact hd.elim

mutual
theorem stripK_eq : ∀ {d : D} {K : D → Prop}, stripK d K → ∃ d', PureOf d d' ∧ K d'
  | .any, K, h => ⟨_, ⟨rfl, fun _ _ _ _ _ h => h.pure_inv trivial⟩, h⟩
  | .int _ _, K, h => ⟨_, ⟨rfl, fun _ _ _ _ _ h => h.pure_inv trivial⟩, h⟩
  | .bool _, K, h => ⟨_, ⟨rfl, fun _ _ _ _ _ h => h.pure_inv trivial⟩, h⟩
  | .tt, K, h => ⟨_, ⟨rfl, fun _ _ _ _ _ h => h.pure_inv trivial⟩, h⟩
  | .ff, K, h => ⟨_, ⟨rfl, fun _ _ _ _ _ h => h.pure_inv trivial⟩, h⟩
  | .str _, K, h => ⟨_, ⟨rfl, fun _ _ _ _ _ h => h.pure_inv trivial⟩, h⟩
  | .nilsl, K, h => ⟨_, ⟨rfl, fun _ _ _ _ _ h => h.pure_inv trivial⟩, h⟩
  | .nilp, K, h => ⟨_, ⟨rfl, fun _ _ _ _ _ h => h.pure_inv trivial⟩, h⟩
  | .ptr _, K, h => ⟨_, ⟨rfl, fun _ _ _ _ _ h => h.pure_inv trivial⟩, h⟩
  | .nilmap, K, h => ⟨_, ⟨rfl, fun _ _ _ _ _ h => h.pure_inv trivial⟩, h⟩
  | .nilfn, K, h => ⟨_, ⟨rfl, fun _ _ _ _ _ h => h.pure_inv trivial⟩, h⟩
  | .nilif, K, h => ⟨_, ⟨rfl, fun _ _ _ _ _ h => h.pure_inv trivial⟩, h⟩
  | .iface _ _, K, h => ⟨_, ⟨rfl, fun _ _ _ _ _ h => h.pure_inv trivial⟩, h⟩
  | .sl e ds t, K, h => ⟨.sl e ds none, ⟨rfl, fun _ _ _ _ _ h => h.sl_inv⟩, h⟩
  | .agg ds, K, h => by
    change stripLK ds fun ds => K (.agg ds) at h
    obtain ⟨ds', ⟨h1, h2⟩, h3⟩ := stripLK_eq h
    refine ⟨.agg ds', ⟨h1, fun w F ρ L v h => ?_⟩, h3⟩
    obtain ⟨vs, rfl, h4, h5⟩ := h.agg_inv
    exact .agg _ _ (h4.trans h1) fun i d v h6 h7 => by
      have hlt : i < ds.length := by rw [h1]; exact (List.getElem?_eq_some_iff.1 h6).1
      exact (h2 i ds[i] d (List.getElem?_eq_getElem hlt) h6).2 _ _ _ _ _ (h5 _ _ _ (List.getElem?_eq_getElem hlt) h7)
  | .tup ds, K, h => by
    change stripLK ds fun ds => K (.tup ds) at h
    obtain ⟨ds', ⟨h1, h2⟩, h3⟩ := stripLK_eq h
    refine ⟨.tup ds', ⟨rfl, fun w F ρ L v h => ?_⟩, h3⟩
    obtain ⟨vs, rfl, h4, h5⟩ := h.tup_inv
    exact .tup _ _ (h4.trans h1) fun i d v h6 h7 => by
      have hlt : i < ds.length := by rw [h1]; exact (List.getElem?_eq_some_iff.1 h6).1
      exact (h2 i ds[i] d (List.getElem?_eq_getElem hlt) h6).2 _ _ _ _ _ (h5 _ _ _ (List.getElem?_eq_getElem hlt) h7)
  | .fn f ds, K, h => by
    change stripLK ds fun ds => K (.fn f ds) at h
    obtain ⟨ds', ⟨h1, h2⟩, h3⟩ := stripLK_eq h
    refine ⟨.fn f ds', ⟨rfl, fun w F ρ L v h => ?_⟩, h3⟩
    obtain ⟨vs, rfl, h4, h5⟩ := h.fn_inv
    exact .fn _ _ _ (h4.trans h1) fun i d v h6 h7 => by
      have hlt : i < ds.length := by rw [h1]; exact (List.getElem?_eq_some_iff.1 h6).1
      exact (h2 i ds[i] d (List.getElem?_eq_getElem hlt) h6).2 _ _ _ _ _ (h5 _ _ _ (List.getElem?_eq_getElem hlt) h7)
  | .osl _ _ _ _ _, K, h => False.elim h
  | .loc _ _, K, h => False.elim h
  | .aloc _ _ _ _, K, h => False.elim h
  | .mp _, K, h => False.elim h
theorem stripLK_eq : ∀ {ds : List D} {K : List D → Prop}, stripLK ds K → ∃ ds', PureLOf ds ds' ∧ K ds'
  | [], K, h => ⟨[], ⟨rfl, by simp⟩, h⟩
  | d :: ds, K, h => by
    change (stripK d fun d => stripLK ds fun ds => K (d :: ds)) at h
    obtain ⟨d', h1, h2⟩ := stripK_eq h
    obtain ⟨ds', h3, h4⟩ := stripLK_eq h2
    refine ⟨d' :: ds', ⟨by simp [h3.1], fun i a b ha hb => ?_⟩, h4⟩
    cases i with
    | zero => simp at ha hb; subst ha; subst hb; exact h1
    | succ i => exact h3.2 i a b (by simpa using ha) (by simpa using hb)
end

end Go.Plat
