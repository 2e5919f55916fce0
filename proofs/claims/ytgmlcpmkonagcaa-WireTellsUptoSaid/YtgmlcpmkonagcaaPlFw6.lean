/-
  Strings' bytes, parts of strings and slices, len, min, max, new slices that stay as they are, conversions of bytes.
-/
import Derived.Test.YtgmlcpmkonagcaaPlFw5
namespace Go.Plat
open Go
set_option linter.unusedVariables false
set_option linter.unusedSimpArgs false

/-! s[i] of a string -/
def indexOp (T : Tab) (t : Nat) (x ix : D) (K : D → Prop) : Prop :=
  match ty T t with
  | some i => match i.d with
    | .str => match x with
      | .str s => match ix with
        | .int _ n => VS (SideS (0 ≤ n ∧ n < s.length) (K (.int .u8 (s.getD n.toNat 0).toNat)))
        | _ => False
      | _ => False
    | _ => False
  | none => False

theorem size_mk (s : List UInt8) : (⟨s.toArray⟩ : ByteArray).size = s.length := by simp [ByteArray.size]

theorem index_sound {P : Program} {T : Tab} (hT : TabOk P T) {t : Nat} {x ix : Operand} {σ : List (Nat × D)} {K : D → Prop} {o : Oper}
    (ho : o.op = .index t x ix) (h : indexOp T t (evalD σ x) (evalD σ ix) K) : ∃ d, (∀ L, OpOk P o σ L d L) ∧ K d := by
  unfold indexOp at h
  split at h <;> try exact h.elim
  rename_i i hi
  have hi := hT _ _ hi
  split at h <;> try exact h.elim
  rename_i hd
  have hu := under_str hi hd
  split at h <;> try exact h.elim
  rename_i s hx
  split at h <;> try exact h.elim
  rename_i k n hix
  obtain ⟨hb, h⟩ := h.out
  refine ⟨_, OpOk.of_pure fun a w ρ L hf he => ?_, h⟩
  have hv := he.eval x
  have hw := he.eval ix
  rw [hx] at hv
  rw [hix] at hw
  have hlt : n.toNat < s.length := by omega
  refine ⟨_, ?_, .pure _ _ (.int _ _)⟩
  have e : (⟨s.toArray⟩ : ByteArray)[n.toNat]? = some (s.getD n.toNat 0) := by
    rw [getElem?_pos _ _ (by rw [size_mk]; exact hlt)]
    simp only [List.getD_eq_getElem?_getD, List.getElem?_eq_getElem hlt, Option.getD_some]
    rfl
  simp [execOp, ho, Instr.index, hw.int_inv, asIntOf, hv.str_inv, run_underlying hu, hb.1, e]

/-! x[lo:hi] -/
def lowK (σ : List (Nat × D)) (lo : Option Operand) (K : Int → Prop) : Prop :=
  match lo with
  | none => K 0
  | some x => match evalD σ x with
    | .int _ n => K n
    | _ => False
def highK (σ : List (Nat × D)) (hi : Option Operand) (len : Nat) (K : Int → Prop) : Prop :=
  match hi with
  | none => K len
  | some x => match evalD σ x with
    | .int _ n => K n
    | _ => False

def sliceOp (T : Tab) (σ : List (Nat × D)) (t : Nat) (x : D) (lo hi mx : Option Operand) (K : D → Prop) : Prop :=
  match ty T t with
  | some i => match i.d with
    | .str => match mx with
      | none => match x with
        | .str s => lowK σ lo fun l => highK σ hi s.length fun h => VS (SideS (0 ≤ l ∧ l ≤ h ∧ h ≤ s.length) (K (.str ((s.take h.toNat).drop l.toNat))))
        | _ => False
      | some _ => False
    | .slice e => match ty T e with
      | some j => match x with
        | .sl es ds _ => match Nat.beq es j.size with
          | true => match mx with
            | none => lowK σ lo fun l => highK σ hi ds.length fun h => VS (SideS (0 ≤ l ∧ l ≤ h ∧ h ≤ ds.length) (VS (NormL ((ds.take h.toNat).drop l.toNat) fun r _ => K (.sl es r none))))
            | some m => match hi with
              | some hi => lowK σ lo fun l => lowK σ (some hi) fun h => lowK σ (some m) fun m => VS (SideS (l = 0 ∧ h = 0 ∧ m = 0) (K .nilsl))
              | none => False
          | false => False
        | .nilsl => match mx with
          | none => lowK σ lo fun l => highK σ hi 0 fun h => VS (SideS (l = 0 ∧ h = 0) (K .nilsl))
          | some m => match hi with
            | some hi => lowK σ lo fun l => lowK σ (some hi) fun h => lowK σ (some m) fun m => VS (SideS (l = 0 ∧ h = 0 ∧ m = 0) (K .nilsl))
            | none => False
        | .osl es k n off len => match Nat.beq es j.size with
          | true => match mx with
            | none => lowK σ lo fun l => highK σ hi len fun h => VS (SideS (0 ≤ l ∧ l ≤ h ∧ h ≤ len) (K (.osl es k n (off + l.toNat) (h.toNat - l.toNat))))
            | some _ => False
          | false => False
        | _ => False
      | none => False
    | _ => False
  | none => False

/-- a bound: what it is, and how it comes -/
theorem lowK_eq {σ : List (Nat × D)} {lo : Option Operand} {K : Int → Prop} (h : lowK σ lo K) : ∃ l, K l ∧
    ∀ (w : World) (ρ : Pl) (L : List Ob) (a : Act), Env w ρ L σ a → (lo = none ∧ l = 0) ∨ ∃ x k, lo = some x ∧ a.eval x = .int k l := by
  unfold lowK at h
  split at h
  · exact ⟨0, h, fun _ _ _ _ _ => .inl ⟨rfl, rfl⟩⟩
  · rename_i x
    split at h <;> try exact h.elim
    rename_i k n hx
    exact ⟨n, h, fun w ρ L a he => .inr ⟨x, k, rfl, by have := he.eval x; rw [hx] at this; exact this.int_inv⟩⟩
theorem highK_eq {σ : List (Nat × D)} {hi : Option Operand} {len : Nat} {K : Int → Prop} (h : highK σ hi len K) : ∃ l, K l ∧
    ∀ (w : World) (ρ : Pl) (L : List Ob) (a : Act), Env w ρ L σ a → (hi = none ∧ l = len) ∨ ∃ x k, hi = some x ∧ a.eval x = .int k l := by
  unfold highK at h
  split at h
  · exact ⟨len, h, fun _ _ _ _ _ => .inl ⟨rfl, rfl⟩⟩
  · rename_i x
    split at h <;> try exact h.elim
    rename_i k n hx
    exact ⟨n, h, fun w ρ L a he => .inr ⟨x, k, rfl, by have := he.eval x; rw [hx] at this; exact this.int_inv⟩⟩

theorem run_bounds {P : Program} {w : World} (isSlice : Bool) (len cap : Nat) {lo hi : Option Operand} {a : Act} {l h : Int}
    (hl : (lo = none ∧ l = 0) ∨ ∃ x k, lo = some x ∧ a.eval x = .int k l) (hh : (hi = none ∧ h = len) ∨ ∃ x k, hi = some x ∧ a.eval x = .int k h)
    (h0 : 0 ≤ l) (h1 : l ≤ h) (h2 : h ≤ len) (h3 : len ≤ cap) :
    (Instr.sliceBounds isSlice len cap (lo.map a.eval) (hi.map a.eval) none).run P w = .ok (l.toNat, h.toNat, cap) w := by
  have hb : ∀ (v : Value) (k : IntKind) (n : Int) (y : Nat) c, v = .int k n → 0 ≤ n → n ≤ y → (Instr.sliceBound v y c).run P w = .ok n.toNat w := by
    intro v k n y c hv h4 h5
    subst hv
    simp [Instr.sliceBound, asIntOf, h4, h5]
  rcases hl with ⟨rfl, rfl⟩ | ⟨x, k, rfl, hx⟩ <;> rcases hh with ⟨rfl, rfl⟩ | ⟨y, k', rfl, hy⟩
  · simp [Instr.sliceBounds]
  · simp only [Instr.sliceBounds, Option.map_some, Option.map_none, Sem.run_bind]
    simp [hb _ k' h cap _ hy (by omega) (by omega)]
  · simp only [Instr.sliceBounds, Option.map_some, Option.map_none, Sem.run_bind]
    simp [hb _ k l len _ hx (by omega) (by omega)]
  · simp only [Instr.sliceBounds, Option.map_some, Option.map_none, Sem.run_bind]
    simp [hb _ k' h cap _ hy (by omega) (by omega), hb _ k l h.toNat _ hx (by omega) (by omega)]

theorem run_bounds0 {P : Program} {w : World} (len cap : Nat) {lo : Option Operand} {hi mx : Operand} {a : Act}
    (hl : (lo = none ∧ (0 : Int) = 0) ∨ ∃ x k, lo = some x ∧ a.eval x = .int k 0) (hh : ∃ k, a.eval hi = .int k 0) (hm : ∃ k, a.eval mx = .int k 0) :
    (Instr.sliceBounds true len cap (lo.map a.eval) (some (a.eval hi)) (some (a.eval mx))).run P w = .ok (0, 0, 0) w := by
  have hb : ∀ (v : Value) (k : IntKind) (y : Nat) c, v = .int k 0 → (Instr.sliceBound v y c).run P w = .ok 0 w := by
    intro v k y c hv
    subst hv
    simp [Instr.sliceBound, asIntOf]
  obtain ⟨k, hh⟩ := hh
  obtain ⟨k', hm⟩ := hm
  rcases hl with ⟨rfl, _⟩ | ⟨x, k'', rfl, hx⟩
  · simp only [Instr.sliceBounds, Option.map_none, Sem.run_bind]
    simp [hb _ k _ _ hh, hb _ k' _ _ hm]
  · simp only [Instr.sliceBounds, Option.map_some, Sem.run_bind]
    simp [hb _ k _ _ hh, hb _ k' _ _ hm, hb _ k'' _ _ hx]

theorem sliceAt_slice {P : Program} {T : Tab} {t e : Nat} {w : World} {v : Value} {lo hi mx : Option Value} (hu : P.underlying t = some (.slice e)) :
    (Instr.sliceAt t v lo hi mx).run P w = (Instr.slice t v lo hi mx).run P w := by
  simp [Instr.sliceAt, run_underlying hu]

theorem extract_mk (s : List UInt8) (l h : Nat) : (⟨s.toArray⟩ : ByteArray).extract l h = ⟨((s.take h).drop l).toArray⟩ := by
  rw [← Joins.bytes_eta ((⟨s.toArray⟩ : ByteArray).extract l h)]
  congr 1
  simp [List.extract_eq_take_drop, List.drop_take]

theorem slice_sound {P : Program} {T : Tab} (hT : TabOk P T) {t : Nat} {x : Operand} {lo hi mx : Option Operand} {σ : List (Nat × D)} {K : D → Prop} {o : Oper}
    (ho : o.op = .slice t x lo hi mx) (h : sliceOp T σ t (evalD σ x) lo hi mx K) : ∃ d, (∀ L, OpOk P o σ L d L) ∧ K d := by
  unfold sliceOp at h
  split at h <;> try exact h.elim
  rename_i i hi'
  have hi' := hT _ _ hi'
  split at h <;> try exact h.elim
  · rename_i hd
    have hu := under_str hi' hd
    split at h <;> try exact h.elim
    split at h <;> try exact h.elim
    rename_i s hx
    obtain ⟨l, h, hl⟩ := lowK_eq h
    obtain ⟨hh, h, hh'⟩ := highK_eq h
    obtain ⟨⟨h1, h2, h3⟩, h⟩ := h.out
    refine ⟨_, OpOk.of_pure fun a w ρ L hf he => ?_, h⟩
    have hv := he.eval x
    rw [hx] at hv
    refine ⟨_, ?_, .pure _ _ (.str _)⟩
    have hb := run_bounds (P := P) (w := w) false s.length s.length (hl _ _ _ _ he) (hh' _ _ _ _ he) h1 h2 h3 (Nat.le_refl _)
    simp [execOp, ho, Instr.sliceAt, run_underlying hu, Instr.slice, hv.str_inv, size_mk, hb, extract_mk]
  · rename_i e hd
    have hu := under_slice hi' hd
    split at h <;> try exact h.elim
    rename_i j hj
    have hj := hT _ _ hj
    split at h <;> try exact h.elim
    · rename_i es ds tok hx
      split at h <;> try exact h.elim
      rename_i hes
      have hes := Nat.eq_of_beq_eq_true hes
      subst hes
      split at h
      · obtain ⟨l, h, hl⟩ := lowK_eq h
        obtain ⟨hh, h, hh'⟩ := highK_eq h
        obtain ⟨⟨h1, h2, h3⟩, h⟩ := h.out
        have h := VS.out h
        unfold NormL at h
        refine ⟨_, OpOk.of_pure fun a w ρ L hf he => ?_, h⟩
        have hv := he.eval x
        rw [hx] at hv
        rcases hv.sl_inv.sl_shape with ⟨h4, ad, h5⟩ | ⟨b, off, cap, h5, h4, h6, h7⟩
        · subst h4
          have hb := run_bounds (P := P) (w := w) true 0 0 (hl _ _ _ _ he) (hh' _ _ _ _ he) h1 h2 h3 (Nat.le_refl _)
          have : l.toNat = 0 := by simp at h3; omega
          have : hh.toNat = 0 := by simp at h3; omega
          refine ⟨.slice ad 0 0, ?_, ?_⟩
          · have hl0 : l = 0 := by omega
            have hh0 : hh = 0 := by omega
            subst hl0 hh0
            simp [execOp, ho, sliceAt_slice (T := T) hu, Instr.slice, run_underlying hu, h5, hb, hj.sizeRun]
          · simp only [List.take_nil, List.drop_nil]
            exact .pure _ _ (.slnil _ _)
        · have hb := run_bounds (P := P) (w := w) true ds.length cap (hl _ _ _ _ he) (hh' _ _ _ _ he) h1 h2 h3 h4
          refine ⟨.slice (some (if cap = l.toNat then ⟨b, off, none⟩ else ⟨b, off + l.toNat * j.size, none⟩)) (hh.toNat - l.toNat) (cap - l.toNat), ?_, ?_⟩
          · simp [execOp, ho, sliceAt_slice (T := T) hu, Instr.slice, run_underlying hu, h5, hb, hj.sizeRun, addr_add]
            split <;> rfl
          · have hlen : ((ds.take hh.toNat).drop l.toNat).length = hh.toNat - l.toNat := by simp; omega
            have hget : ∀ (i : Nat) d, ((ds.take hh.toNat).drop l.toNat)[i]? = some d → ds[l.toNat + i]? = some d := by
              intro i d hd
              rw [List.getElem?_drop, List.getElem?_take] at hd
              split at hd
              · exact hd
              · cases hd
            have mk : ∀ (b' off' : Nat), (b' = b ∧ off' = off + l.toNat * j.size) ∨ ((ds.take hh.toNat).drop l.toNat).length = 0 →
                RepP w (foot ρ L) (.sl j.size ((ds.take hh.toNat).drop l.toNat) none) (.slice (some ⟨b', off', none⟩) (hh.toNat - l.toNat) (cap - l.toNat)) := by
              intro b' off' hor
              rw [← hlen]
              have hone := hv.sl_inv
              rw [h5] at hone
              have hone := hone.sl_one
              refine .sl _ _ _ _ _ (fun i q => (w.cell? ⟨b', off' + (i * j.size + q), none⟩).getD undef) (by omega) (fun i d hi => h6 _ _ (hget _ _ hi)) (fun i d q c hi hq => ?_) (fun i d q c hi hq => ?_) (fun i d q c hi hq => ?_)
              all_goals
                rcases hor with ⟨rfl, rfl⟩ | h0
                · obtain ⟨u, h8, h9, h10⟩ := h7 _ _ _ _ (hget _ _ hi) hq
                  rw [show off + l.toNat * j.size + (i * j.size + q) = off + ((l.toNat + i) * j.size + q) by rw [Nat.add_mul]; omega]
                  rw [h8]
                  first | exact ⟨rfl, h9⟩ | exact h10 | exact hone _ _ _ _ _ (hget _ _ hi) hq h8
                · have := (List.getElem?_eq_some_iff.1 hi).1
                  omega
            split
            · rename_i hc
              exact .pure _ _ (mk _ _ (.inr (by omega)))
            · exact .pure _ _ (mk _ _ (.inl ⟨rfl, rfl⟩))
      · rename_i m
        split at h <;> try exact h.elim
        rename_i hi
        obtain ⟨l, h, hl⟩ := lowK_eq h
        obtain ⟨hh, h, hh'⟩ := lowK_eq h
        obtain ⟨mm, h, hm'⟩ := lowK_eq h
        obtain ⟨⟨e1, e2, e3⟩, hK⟩ := h.out
        subst e1; subst e2; subst e3
        refine ⟨_, OpOk.of_pure fun a w ρ L hf he => ?_, hK⟩
        have hv := he.eval x
        rw [hx] at hv
        have h1 : ∃ k, a.eval hi = .int k 0 := by
          rcases hh' _ _ _ _ he with ⟨h, _⟩ | ⟨_, k, h1, h2⟩
          · cases h
          · cases h1; exact ⟨k, h2⟩
        have h2 : ∃ k, a.eval m = .int k 0 := by
          rcases hm' _ _ _ _ he with ⟨h, _⟩ | ⟨_, k, h1, h2⟩
          · cases h
          · cases h1; exact ⟨k, h2⟩
        rcases hv.sl_inv.sl_shape with ⟨h4, ad, h5⟩ | ⟨b, off, cap, h5, h4, h6, h7⟩
        · have hb := run_bounds0 (P := P) (w := w) 0 0 (hl _ _ _ _ he) h1 h2
          exact ⟨.slice ad 0 0, by simp [execOp, ho, sliceAt_slice (T := T) hu, Instr.slice, run_underlying hu, h5, hb, hj.sizeRun], .pure _ _ (.nilsl _)⟩
        · have hb := run_bounds0 (P := P) (w := w) ds.length cap (hl _ _ _ _ he) h1 h2
          exact ⟨.slice (some ⟨b, off, none⟩) 0 0, by simp [execOp, ho, sliceAt_slice (T := T) hu, Instr.slice, run_underlying hu, h5, hb, hj.sizeRun], .pure _ _ (.nilsl _)⟩
    · rename_i hx
      split at h
      · obtain ⟨l, h, hl⟩ := lowK_eq h
        obtain ⟨hh, h, hh'⟩ := highK_eq h
        obtain ⟨⟨e1, e2⟩, hK⟩ := h.out
        subst e1; subst e2
        refine ⟨_, OpOk.of_pure fun a w ρ L hf he => ?_, hK⟩
        have hv := he.eval x
        rw [hx] at hv
        obtain ⟨ad, hv⟩ := hv.nilsl_inv
        have hb := run_bounds (P := P) (w := w) true 0 0 (hl _ _ _ _ he) (hh' _ _ _ _ he) (Int.le_refl _) (Int.le_refl _) (by simp) (Nat.le_refl _)
        exact ⟨.slice ad 0 0, by simp [execOp, ho, sliceAt_slice (T := T) hu, Instr.slice, run_underlying hu, hv, hb, hj.sizeRun], .pure _ _ (.nilsl _)⟩
      · rename_i m
        split at h <;> try exact h.elim
        rename_i hi
        obtain ⟨l, h, hl⟩ := lowK_eq h
        obtain ⟨hh, h, hh'⟩ := lowK_eq h
        obtain ⟨mm, h, hm'⟩ := lowK_eq h
        obtain ⟨⟨e1, e2, e3⟩, hK⟩ := h.out
        subst e1; subst e2; subst e3
        refine ⟨_, OpOk.of_pure fun a w ρ L hf he => ?_, hK⟩
        have hv := he.eval x
        rw [hx] at hv
        obtain ⟨ad, hv⟩ := hv.nilsl_inv
        have h1 : ∃ k, a.eval hi = .int k 0 := by
          rcases hh' _ _ _ _ he with ⟨h, _⟩ | ⟨_, k, h1, h2⟩
          · cases h
          · cases h1; exact ⟨k, h2⟩
        have h2 : ∃ k, a.eval m = .int k 0 := by
          rcases hm' _ _ _ _ he with ⟨h, _⟩ | ⟨_, k, h1, h2⟩
          · cases h
          · cases h1; exact ⟨k, h2⟩
        have hb := run_bounds0 (P := P) (w := w) 0 0 (hl _ _ _ _ he) h1 h2
        exact ⟨.slice ad 0 0, by simp [execOp, ho, sliceAt_slice (T := T) hu, Instr.slice, run_underlying hu, hv, hb, hj.sizeRun], .pure _ _ (.nilsl _)⟩
    · rename_i es k n off len hx
      split at h <;> try exact h.elim
      rename_i hes
      have hes := Nat.eq_of_beq_eq_true hes
      subst hes
      split at h <;> try exact h.elim
      obtain ⟨l, h, hl⟩ := lowK_eq h
      obtain ⟨hh, h, hh'⟩ := highK_eq h
      obtain ⟨⟨h1, h2, h3⟩, hK⟩ := h.out
      refine ⟨_, OpOk.of_pure fun a w ρ L hf he => ?_, hK⟩
      have hv := he.eval x
      rw [hx] at hv
      obtain ⟨ad, cap, h5, h4, ⟨hlc, hnn⟩, h6⟩ := hv.osl_inv
      have hb := run_bounds (P := P) (w := w) true len cap (hl _ _ _ _ he) (hh' _ _ _ _ he) h1 h2 h3 hlc
      refine ⟨.slice (if cap = l.toNat then ad else ad.map (·.add (l.toNat * j.size))) (hh.toNat - l.toNat) (cap - l.toNat), ?_, ?_⟩
      · simp [execOp, ho, sliceAt_slice (T := T) hu, Instr.slice, run_underlying hu, h5, hb, hj.sizeRun]
      · refine .osl _ _ _ _ _ _ _ h4 ⟨by omega, fun h => by
          split at h
          · omega
          · cases ad with
            | none => have := hnn rfl; omega
            | some x => simp at h⟩ fun e' ds hds => ?_
        obtain ⟨h7, h8, h9⟩ := h6 _ _ hds
        refine ⟨h7, h8, fun hn => ?_⟩
        obtain ⟨h10, h11, h12⟩ := h9 hn
        refine ⟨?_, by rw [← h11]; congr 1; omega, by omega⟩
        by_cases hc : cap = l.toNat
        · exact .inl (by omega)
        · rw [if_neg hc]
          rcases h10 with h | rfl | h
          · omega
          · exact .inr (.inl rfl)
          · refine .inr (.inr ?_)
            rw [h, Option.map_some, addr_add, Nat.add_mul, Nat.add_assoc]

end Go.Plat
