/-
  What is read off by its shape: numbers, bytes, lists of it.
-/
import Derived.Test.YtgmlcpmkonagcaaPlBr3
namespace Go.Plat
open Go
set_option linter.unusedVariables false
set_option linter.unusedSimpArgs false

def elems {H : Type} : DataW H → List (DataW H)
  | .slice el _ => el
  | _ => []

theorem fit_int {H : Type} {k : IntKind} {d : DataW H} (h : fit (.int k) (.inl d)) : ∃ n, rd (.int k) d = .int k n ∧ k.min ≤ n ∧ n ≤ k.max := by
  simp only [fit] at h
  obtain ⟨n, rfl, h⟩ := h
  refine ⟨n, rfl, ?_⟩
  simpa [Lit.wf] using h
theorem fit_i64 {H : Type} {d : DataW H} (h : fit (.int .i64) (.inl d)) : ∃ n, rd (.int .i64) d = .int .i64 n ∧ -9223372036854775808 ≤ n ∧ n ≤ 9223372036854775807 := fit_int h
theorem fit_u8 {H : Type} {d : DataW H} (h : fit (.int .u8) (.inl d)) : ∃ n : UInt8, rd (.int .u8) d = byteD n := by
  obtain ⟨n, h1, h2, h3⟩ := fit_int h
  have h2 : 0 ≤ n := h2
  have h3 : n ≤ 255 := h3
  refine ⟨UInt8.ofNat n.toNat, h1.trans ?_⟩
  have : (UInt8.ofNat n.toNat).toNat = n.toNat := by
    rw [UInt8.toNat_ofNat']; omega
  show D.int .u8 n = D.int .u8 _
  rw [this]; congr 1; omega
theorem fit_bool {H : Type} {d : DataW H} (h : fit .bool (.inl d)) : ∃ b, rd .bool d = .bool b := by
  simp only [fit] at h
  obtain ⟨n, rfl⟩ := h
  exact ⟨n, rfl⟩
theorem fit_str {H : Type} {d : DataW H} (h : fit .str (.inl d)) : ∃ s, d = .lit (.string s) ∧ rd .str d = .str s := by
  simp only [fit] at h
  obtain ⟨n, rfl⟩ := h
  exact ⟨n, rfl, rfl⟩

/-- a slice of what reads as the images of things -/
theorem fit_sl {H : Type} {α : Type} {n : Nat} {σ : Sh} {g : α → D} {Q : DataW H → α → Prop} {d : DataW H} (h : fit (.sl n σ) (.inl d)) (he : ∀ x ∈ elems d, fit σ (.inl x) → ∃ a, rd σ x = g a ∧ Q x a) :
    ∃ l : List α, rd (.sl n σ) d = .sl n (l.map g) none ∧ l.length = (elems d).length ∧ ∀ (i : Nat) x a, (elems d)[i]? = some x → l[i]? = some a → Q x a := by
  have key : ∀ el : List (DataW H), (∀ x ∈ el, ∃ a, rd σ x = g a ∧ Q x a) → ∃ l : List α, el.map (rd σ) = l.map g ∧ l.length = el.length ∧ ∀ (i : Nat) x a, el[i]? = some x → l[i]? = some a → Q x a := by
    intro el
    induction el with
    | nil => intro _; exact ⟨[], rfl, rfl, by simp⟩
    | cons x el ih =>
      intro hx
      obtain ⟨a, h1, h2⟩ := hx x (by simp)
      obtain ⟨l, h3, h4, h5⟩ := ih fun y hy => hx y (by simp [hy])
      refine ⟨a :: l, by simp [h1, h3], by simp [h4], fun i y b hy hb => ?_⟩
      cases i with
      | zero => simp at hy hb; subst hy; subst hb; exact h2
      | succ i => exact h5 i y b (by simpa using hy) (by simpa using hb)
  simp only [fit] at h
  rcases h with rfl | ⟨el, sp, rfl, h⟩
  · exact ⟨[], rfl, rfl, by simp [elems]⟩
  · obtain ⟨l, h1, h2, h3⟩ := key el fun x hx => he x hx (h x hx)
    refine ⟨l, ?_, h2, h3⟩
    show D.sl n (el.map (rd σ)) none = _
    rw [h1]

theorem fit_bytes {H : Type} {d : DataW H} (h : fit (.sl 1 (.int .u8)) (.inl d)) : ∃ b : List UInt8, rd (.sl 1 (.int .u8)) d = bytesD b ∧ b.length = (elems d).length := by
  obtain ⟨l, h1, h2, _⟩ := fit_sl (g := byteD) (Q := fun _ _ => True) h fun x _ hx => by
    obtain ⟨n, h⟩ := fit_u8 hx
    exact ⟨n, h, trivial⟩
  exact ⟨l, h1, h2⟩

/-- the cells of fields -/
def rdF {H : Type} (σ : Sh) (ds : List (DataW H)) : List D := cl σ (.inr ds)
theorem rd_fld {H : Type} {a b : Sh} {p : DataW H} {ps : List (DataW H)} : rd (.fld a b) (.agg (p :: ps)) = .agg (cl a (.inl p) ++ rdF b ps) := rfl
theorem fit_fld {H : Type} {a b : Sh} {d : DataW H} (h : fit (.fld a b) (.inl d)) : ∃ p ps, d = .agg (p :: ps) ∧ fit a (.inl p) ∧ fit b (.inr ps) := by
  simpa only [fit] using h
theorem fit_more {H : Type} {a b : Sh} {ds : List (DataW H)} (h : fit (.fld a b) (.inr ds)) : ∃ p ps, ds = p :: ps ∧ fit a (.inl p) ∧ fit b (.inr ps) := by
  cases ds with
  | nil => simp [fit] at h
  | cons p ps => exact ⟨p, ps, rfl, by simpa only [fit] using h⟩
theorem fit_fin {H : Type} {ds : List (DataW H)} (h : fit .fin (.inr ds)) : ds = [] := by
  cases ds with
  | nil => rfl
  | cons p ps => simp [fit] at h
theorem rdF_cons {H : Type} {a b : Sh} {p : DataW H} {ps : List (DataW H)} : rdF (.fld a b) (p :: ps) = cl a (.inl p) ++ rdF b ps := by simp [rdF, cl]
theorem rdF_nil {H : Type} : rdF (.fin) ([] : List (DataW H)) = [] := by simp [rdF, cl]
theorem cl_fld {H : Type} {a b : Sh} {p : DataW H} {ps : List (DataW H)} : cl (.fld a b) (.inl (.agg (p :: ps))) = cl a (.inl p) ++ rdF b ps := by simp [rdF, cl]
theorem cl_one {H : Type} {σ : Sh} {d : DataW H} {x : D} (h : rd σ d = x) (ha : σ.agg = false) (hx : x ≠ .any) : cl σ (.inl d) = [x] := by
  unfold rd elD at h
  rw [ha] at h
  split at h
  · rename_i h1; cases h1
  · split at h
    · rename_i c hc; rw [hc, h]
    · exact (hx h.symm).elim
theorem fitAll0 {H : Type} {ds : List (DataW H)} (h : fitAll [] ds) : ds = [] := by
  cases ds with
  | nil => rfl
  | cons d ds => simp [fitAll] at h
theorem fitAll_cons {H : Type} {σ : Sh} {σs : List Sh} {ds : List (DataW H)} (h : fitAll (σ :: σs) ds) : ∃ d ds', ds = d :: ds' ∧ fit σ (.inl d) ∧ fitAll σs ds' := by
  cases ds with
  | nil => simp [fitAll] at h
  | cons d ds => exact ⟨d, ds, rfl, h.1, h.2⟩
theorem fitAll1 {H : Type} {a : Sh} {ds : List (DataW H)} (h : fitAll [a] ds) : ∃ d1, ds = [d1] ∧ fit a (.inl d1) := by
  obtain ⟨d1, r, rfl, h1, h⟩ := fitAll_cons h
  obtain rfl := fitAll0 h
  exact ⟨d1, rfl, h1⟩
theorem fitAll2 {H : Type} {a b : Sh} {ds : List (DataW H)} (h : fitAll [a, b] ds) : ∃ d1 d2, ds = [d1, d2] ∧ fit a (.inl d1) ∧ fit b (.inl d2) := by
  obtain ⟨d1, r, rfl, h1, h⟩ := fitAll_cons h
  obtain ⟨d2, rfl, h2⟩ := fitAll1 h
  exact ⟨d1, d2, rfl, h1, h2⟩
theorem fitAll3 {H : Type} {a b c : Sh} {ds : List (DataW H)} (h : fitAll [a, b, c] ds) : ∃ d1 d2 d3, ds = [d1, d2, d3] ∧ fit a (.inl d1) ∧ fit b (.inl d2) ∧ fit c (.inl d3) := by
  obtain ⟨d1, r, rfl, h1, h⟩ := fitAll_cons h
  obtain ⟨d2, d3, rfl, h2, h3⟩ := fitAll2 h
  exact ⟨d1, d2, d3, rfl, h1, h2, h3⟩
end Go.Plat
