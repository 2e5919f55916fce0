/-
  Data under other numbers of the objects; contracts; calls that touch nothing owned.
-/
import Derived.Test.YtgmlcpmkonagcaaPlArr
namespace Go.Plat
open Go
set_option linter.unusedVariables false
set_option linter.unusedSimpArgs false

abbrev CM : Type := (D → Prop) → Prop
abbrev CML : Type := (List D → Prop) → Prop
def renSl (m : Nat → Option Nat) (e : Nat) (ds : List D) (t : Option Nat) (_ : CML) : CM := fun K => match t with
  | none => K (.sl e ds none)
  | some k => match m k with
    | none => K (.sl e ds none)
    | some k => K (.sl e ds (some k))
def renOsl (m : Nat → Option Nat) (e k n off len : Nat) : CM := fun K => match m k with
  | some k => K (.osl e k n off len)
  | none => K .any
def renLoc (m : Nat → Option Nat) (k o : Nat) : CM := fun K => match m k with
  | some k => K (.loc k o)
  | none => K .any
def renAloc (m : Nat → Option Nat) (k n i o : Nat) : CM := fun K => match m k with
  | some k => K (.aloc k n i o)
  | none => K .any
def renMp (m : Nat → Option Nat) (k : Nat) : CM := fun K => match m k with
  | some k => K (.mp k)
  | none => K .any

/-- a datum under other numbers; what has none is not known any more (written with the recursor itself, as opsK) -/
def renK (m : Nat → Option Nat) : D → (D → Prop) → Prop :=
  @D.rec (fun _ => CM) (fun _ => CML) (fun K => K .any) (fun k n K => K (.int k n)) (fun b K => K (.bool b)) (fun K => K .tt) (fun K => K .ff) (fun s K => K (.str s))
    (fun _ ih K => ih fun ds => K (.agg ds)) (fun _ ih K => ih fun ds => K (.tup ds)) (fun K => K .nilsl) (renSl m) (renOsl m) (fun K => K .nilp) (fun cs _ K => K (.ptr cs)) (renLoc m) (renAloc m)
    (fun K => K .nilmap) (renMp m) (fun f _ ih K => ih fun cs => K (.fn f cs)) (fun K => K .nilfn) (fun K => K .nilif) (fun t d _ K => K (.iface t d)) (fun K => K []) (fun _ _ ih1 ih2 K => ih1 fun d => ih2 fun ds => K (d :: ds))
def renLK (m : Nat → Option Nat) : List D → (List D → Prop) → Prop :=
  @D.rec_1 (fun _ => CM) (fun _ => CML) (fun K => K .any) (fun k n K => K (.int k n)) (fun b K => K (.bool b)) (fun K => K .tt) (fun K => K .ff) (fun s K => K (.str s))
    (fun _ ih K => ih fun ds => K (.agg ds)) (fun _ ih K => ih fun ds => K (.tup ds)) (fun K => K .nilsl) (renSl m) (renOsl m) (fun K => K .nilp) (fun cs _ K => K (.ptr cs)) (renLoc m) (renAloc m)
    (fun K => K .nilmap) (renMp m) (fun f _ ih K => ih fun cs => K (.fn f cs)) (fun K => K .nilfn) (fun K => K .nilif) (fun t d _ K => K (.iface t d)) (fun K => K []) (fun _ _ ih1 ih2 K => ih1 fun d => ih2 fun ds => K (d :: ds))

structure RenOk (m : Nat → Option Nat) (ρ : Pl) (L : List Ob) (ρ1 : Pl) (L1 : List Ob) : Prop where
  lt : ∀ k k', m k = some k' → k < L.length → k' < L1.length
  place : ∀ k k', m k = some k' → k < L.length → ρ1 k' = ρ k
  cells : ∀ (k k' : Nat) ds1, m k = some k' → k < L.length → L1[k']? = some (.cells ds1) → ∃ ds, L[k]? = some (.cells ds)
  map : ∀ (k k' : Nat) ds1, m k = some k' → k < L.length → L1[k']? = some (.map ds1) → ∃ ds, L[k]? = some (.map ds)
  spare : ∀ (k k' : Nat) n, m k = some k' → k < L.length → L1[k']? = some (.spare n) → L[k]? = some (.spare n)
  arr : ∀ (k k' : Nat) e ds1, m k = some k' → k < L.length → L1[k']? = some (.arr e ds1) → ∃ ds, L[k]? = some (.arr e ds) ∧ ds.length = ds1.length

/-- d' is d under the numbers m -/
def RenOf (m : Nat → Option Nat) (d d' : D) : Prop :=
  ∀ (w : World) (F F1 : Nat → Nat → Prop) (ρ : Pl) (L : List Ob) (ρ1 : Pl) (L1 : List Ob) (v : Value), RenOk m ρ L ρ1 L1 → (∀ b off, F1 b off → F b off) →
    Rep w F ρ L d v → Rep w F1 ρ1 L1 d' v
def RenLOf (m : Nat → Option Nat) (ds ds' : List D) : Prop := ds.length = ds'.length ∧ ∀ (i : Nat) d d', ds[i]? = some d → ds'[i]? = some d' → RenOf m d d'

theorem RepP.less {w : World} {F F1 : Nat → Nat → Prop} (h : ∀ b off, F1 b off → F b off) {d : D} {v : Value} (hr : RepP w F d v) : RepP w F1 d v :=
  hr.keep (Ext.refl _ _) fun b off hF => .inl (h b off hF)

theorem renOf_pure {m : Nat → Option Nat} {d : D} (hd : d.flat) : RenOf m d d :=
  fun w F F1 ρ L ρ1 L1 v hm hF h => .pure _ _ ((h.pure_inv hd).less hF)

theorem renOf_any {m : Nat → Option Nat} {d : D} : RenOf m d .any := fun w F F1 ρ L ρ1 L1 v hm hF h => .pure _ _ (.any _)

mutual
theorem renK_eq {m : Nat → Option Nat} : ∀ {d : D} {K : D → Prop}, renK m d K → ∃ d', RenOf m d d' ∧ K d'
  | .any, K, h => ⟨_, renOf_pure trivial, h⟩
  | .int _ _, K, h => ⟨_, renOf_pure trivial, h⟩
  | .bool _, K, h => ⟨_, renOf_pure trivial, h⟩
  | .tt, K, h => ⟨_, renOf_pure trivial, h⟩
  | .ff, K, h => ⟨_, renOf_pure trivial, h⟩
  | .str _, K, h => ⟨_, renOf_pure trivial, h⟩
  | .nilsl, K, h => ⟨_, renOf_pure trivial, h⟩
  | .nilp, K, h => ⟨_, renOf_pure trivial, h⟩
  | .ptr _, K, h => ⟨_, renOf_pure trivial, h⟩
  | .nilmap, K, h => ⟨_, renOf_pure trivial, h⟩
  | .nilfn, K, h => ⟨_, renOf_pure trivial, h⟩
  | .nilif, K, h => ⟨_, renOf_pure trivial, h⟩
  | .iface _ _, K, h => ⟨_, renOf_pure trivial, h⟩
  | .sl e ds none, K, h => ⟨.sl e ds none, fun w F F1 ρ L ρ1 L1 v hm hF h => .pure _ _ (h.sl_inv.less hF), h⟩
  | .sl e ds (some k), K, h => by
    have h : K (.sl e ds (m k)) := by
      change (match m k with | none => K (.sl e ds none) | some k => K (.sl e ds (some k))) at h
      split at h
      · rename_i hm; rw [hm]; exact h
      · rename_i hm; rw [hm]; exact h
    refine ⟨_, fun w F F1 ρ L ρ1 L1 v hm hF h => ?_, h⟩
    cases h with
    | pure _ _ h => cases h
    | tok _ _ _ _ hk h hmm =>
      cases hmk : m k with
      | none => exact .pure _ _ (h.less hF)
      | some k' =>
        refine .tok _ _ _ _ (hm.lt _ _ hmk hk) (h.less hF) fun n hn => ?_
        rw [hm.place _ _ hmk hk]
        exact hmm n (hm.spare _ _ _ hmk hk hn)
  | .osl e k n off len, K, h => by
    change renOsl m e k n off len K at h
    unfold renOsl at h
    split at h
    · rename_i k' hmk
      refine ⟨_, fun w F F1 ρ L ρ1 L1 v hm hF h => ?_, h⟩
      obtain ⟨a, cap, rfl, hk, hlc, hmm⟩ := h.osl_inv
      refine .osl _ _ _ _ _ _ _ (hm.lt _ _ hmk hk) hlc fun e' ds' hd => ?_
      obtain ⟨ds, h1, h2⟩ := hm.arr _ _ _ _ hmk hk hd
      rw [hm.place _ _ hmk hk, ← h2]
      exact hmm _ _ h1
    · exact ⟨_, renOf_any, h⟩
  | .loc k o, K, h => by
    change renLoc m k o K at h
    unfold renLoc at h
    split at h
    · rename_i k' hmk
      refine ⟨_, fun w F F1 ρ L ρ1 L1 v hm hF h => ?_, h⟩
      obtain ⟨a, rfl, hk, hmm⟩ := h.loc_inv
      refine .loc _ _ _ (hm.lt _ _ hmk hk) fun ds' hd => ?_
      obtain ⟨ds, h1⟩ := hm.cells _ _ _ hmk hk hd
      rw [hm.place _ _ hmk hk]
      exact hmm _ h1
    · exact ⟨_, renOf_any, h⟩
  | .aloc k n i o, K, h => by
    change renAloc m k n i o K at h
    unfold renAloc at h
    split at h
    · rename_i k' hmk
      refine ⟨_, fun w F F1 ρ L ρ1 L1 v hm hF h => ?_, h⟩
      obtain ⟨a, rfl, hk, hmm⟩ := h.aloc_inv
      refine .aloc _ _ _ _ _ (hm.lt _ _ hmk hk) fun e' ds' hd => ?_
      obtain ⟨ds, h1, h2⟩ := hm.arr _ _ _ _ hmk hk hd
      rw [hm.place _ _ hmk hk, ← h2]
      exact hmm _ _ h1
    · exact ⟨_, renOf_any, h⟩
  | .mp k, K, h => by
    change renMp m k K at h
    unfold renMp at h
    split at h
    · rename_i k' hmk
      refine ⟨_, fun w F F1 ρ L ρ1 L1 v hm hF h => ?_, h⟩
      obtain ⟨r, rfl, hk, hmm⟩ := h.mp_inv
      refine .mp _ _ (hm.lt _ _ hmk hk) fun ds' hd => ?_
      obtain ⟨ds, h1⟩ := hm.map _ _ _ hmk hk hd
      rw [hm.place _ _ hmk hk]
      exact hmm _ h1
    · exact ⟨_, renOf_any, h⟩
  | .agg ds, K, h => by
    change renLK m ds fun ds => K (.agg ds) at h
    obtain ⟨ds', ⟨h1, h2⟩, h3⟩ := renLK_eq h
    refine ⟨.agg ds', fun w F F1 ρ L ρ1 L1 v hm hF h => ?_, h3⟩
    obtain ⟨vs, rfl, h4, h5⟩ := h.agg_inv
    exact .agg _ _ (h4.trans h1) fun i d v h6 h7 => by
      have hlt : i < ds.length := by rw [h1]; exact (List.getElem?_eq_some_iff.1 h6).1
      exact h2 i ds[i] d (List.getElem?_eq_getElem hlt) h6 _ _ _ _ _ _ _ _ hm hF (h5 _ _ _ (List.getElem?_eq_getElem hlt) h7)
  | .tup ds, K, h => by
    change renLK m ds fun ds => K (.tup ds) at h
    obtain ⟨ds', ⟨h1, h2⟩, h3⟩ := renLK_eq h
    refine ⟨.tup ds', fun w F F1 ρ L ρ1 L1 v hm hF h => ?_, h3⟩
    obtain ⟨vs, rfl, h4, h5⟩ := h.tup_inv
    exact .tup _ _ (h4.trans h1) fun i d v h6 h7 => by
      have hlt : i < ds.length := by rw [h1]; exact (List.getElem?_eq_some_iff.1 h6).1
      exact h2 i ds[i] d (List.getElem?_eq_getElem hlt) h6 _ _ _ _ _ _ _ _ hm hF (h5 _ _ _ (List.getElem?_eq_getElem hlt) h7)
  | .fn f ds, K, h => by
    change renLK m ds fun ds => K (.fn f ds) at h
    obtain ⟨ds', ⟨h1, h2⟩, h3⟩ := renLK_eq h
    refine ⟨.fn f ds', fun w F F1 ρ L ρ1 L1 v hm hF h => ?_, h3⟩
    obtain ⟨vs, rfl, h4, h5⟩ := h.fn_inv
    exact .fn _ _ _ (h4.trans h1) fun i d v h6 h7 => by
      have hlt : i < ds.length := by rw [h1]; exact (List.getElem?_eq_some_iff.1 h6).1
      exact h2 i ds[i] d (List.getElem?_eq_getElem hlt) h6 _ _ _ _ _ _ _ _ hm hF (h5 _ _ _ (List.getElem?_eq_getElem hlt) h7)
theorem renLK_eq {m : Nat → Option Nat} : ∀ {ds : List D} {K : List D → Prop}, renLK m ds K → ∃ ds', RenLOf m ds ds' ∧ K ds'
  | [], K, h => ⟨[], ⟨rfl, by simp⟩, h⟩
  | d :: ds, K, h => by
    change (renK m d fun d => renLK m ds fun ds => K (d :: ds)) at h
    obtain ⟨d', h1, h2⟩ := renK_eq h
    obtain ⟨ds', h3, h4⟩ := renLK_eq h2
    refine ⟨d' :: ds', ⟨by simp [h3.1], fun i a b ha hb => ?_⟩, h4⟩
    cases i with
    | zero => simp at ha hb; subst ha; subst hb; exact h1
    | succ i => exact h3.2 i a b (by simpa using ha) (by simpa using hb)
end

/-! contracts -/
def RepL (w : World) (F : Nat → Nat → Prop) (ρ : Pl) (L : List Ob) (as : List D) (vs : List Value) : Prop :=
  vs.length = as.length ∧ ∀ (i : Nat) d v, as[i]? = some d → vs[i]? = some v → Rep w F ρ L d v

abbrev Spec := List D → List Ob → D → List Ob → Prop

def Callable (P : Program) (f : FuncId) : Prop := ∃ fn, P.funcs[f]? = some fn ∧ (fn.name == "runtime.NumGoroutine") = false ∧ fn.body.isNone = false

/-- called with what reads as the arguments, it answers what the spec tells -/
def Meets (P : Program) (f : FuncId) (spec : Spec) : Prop :=
  Callable P f ∧ ∀ as L d L', spec as L d L' → ∀ (w : World) (ρ : Pl) (vs : List Value), Fits w ρ L → RepL w (foot ρ L) ρ L as vs →
    Calls P f vs.toArray w fun e w' => ∃ v ρ', e = .returned v ∧ Post w ρ L d L' v w' ρ'

theorem rep_nil {w : World} {F : Nat → Nat → Prop} {ρ : Pl} {d : D} {v : Value} (h : Rep w F ρ [] d v) : RepP w F d v := by
  generalize hL : ([] : List Ob) = L at h
  induction h with
  | pure _ _ h => exact h
  | agg ds vs hl _ ih => exact .agg _ _ hl ih
  | tup ds vs hl _ ih => exact .tup _ _ hl ih
  | fn f ds vs hl _ ih => exact .fn _ _ _ hl ih
  | tok _ _ _ _ hk => subst hL; simp at hk
  | osl _ _ _ _ _ _ _ hk => subst hL; simp at hk
  | loc _ _ _ hk => subst hL; simp at hk
  | aloc _ _ _ _ _ hk => subst hL; simp at hk
  | mp _ _ hk => subst hL; simp at hk

/-- a call with nothing owned handed over -/
theorem pureCall {P : Program} {f : FuncId} {spec : Spec} (h : Meets P f spec) {as : List D} {d : D} (hs : spec as [] d []) {w : World} {ρ : Pl} {L : List Ob} {vs : List Value}
    (hf : Fits w ρ L) (hl : vs.length = as.length) (hr : ∀ (i : Nat) d v, as[i]? = some d → vs[i]? = some v → RepP w (foot ρ L) d v) :
    Calls P f vs.toArray w fun e w' => ∃ v, e = .returned v ∧ Ext F0 w w' ∧ RepP w' (foot ρ L) d v := by
  have hfoot : ∀ (ρ1 : Pl), ρ1.hid = foot ρ L → ∀ b off, foot ρ1 [] b off ↔ foot ρ L b off := by
    intro ρ1 h1 b off
    constructor
    · rintro (⟨k, o, hk, _⟩ | h)
      · simp at hk
      · rwa [h1] at h
    · intro h
      exact .inr (by rwa [h1])
  refine (h.2 as [] d [] hs w ⟨ρ.place, foot ρ L⟩ vs ⟨fun b off h => hf.foot_lt h, fun b off ⟨k, o, hk, _⟩ => by simp at hk, by simp, by simp⟩ ⟨hl, fun i d v h1 h2 => .pure _ _ ((hr i d v h1 h2).less fun b off h => (hfoot ⟨ρ.place, foot ρ L⟩ rfl b off).1 h)⟩).mono ?_
  rintro e w' ⟨v, ρ', he, hp⟩
  refine ⟨v, he, hp.ext.mono fun b off _ h => ?_, (rep_nil hp.rep).less fun b off h => (hfoot ρ' hp.compat.hid b off).2 h⟩
  obtain ⟨k, o, hk, _⟩ := h
  simp at hk

end Go.Plat
