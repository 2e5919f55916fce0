/-
  A part of the proof: what the given program's functions answer, each once; conditions that are enough for it.
-/
import Derived.Test.YtdhpodgaeholmaaDoorFw3
import Derived.Lib.LaidTab
import Derived.Sort.Grow
import Derived.Deep.Draws
import Derived.Shelf.Strings.Builder1
import Derived.Shelf.Small.Utf8
import Derived.Shelf.Strconv.Itoa0
import Derived.Shelf.Strconv.Itoa1
import Derived.Shelf.LaysM
import Derived.Shelf.Strconv.Itoa2
import Derived.Shelf.Strconv.Itoa3
import Derived.Shelf.Strconv.Itoa4
import Derived.Shelf.Strings.Search1
import Derived.Shelf.Strings.Search2
import Derived.Shelf.Strings.Search3
import Derived.Shelf.Strings.Cut
import Derived.Shelf.Strings.Count
import Derived.Shelf.Strings.Shaped
import Derived.Shelf.Unicode.Latin
import Derived.Shelf.Unicode.DecodeSlow
import Derived.Shelf.Unicode.Is16White
import Derived.Shelf.Unicode.IsSpaceAny
import Derived.Shelf.Unicode.Is16Any
import Derived.Shelf.Unicode.Is32Any
import Derived.Shelf.Unicode.ExclAny
import Derived.Shelf.Slices.Turned
import Derived.Test.YtdhpodgaeholmaaDoorProg
import Derived.Deep.DeepHandedRow
import Derived.Lay
/-
  What is read off by its shape: numbers, bytes, lists of it.
-/
namespace Go.Plat
open Go
set_option linter.unusedVariables false
set_option linter.unusedSimpArgs false

def elems {H : Type} : DataW H → List (DataW H)
  | .slice el _ => el
  | _ => []

theorem fit_int {H : Type} {k : IntKind} {d : DataW H} (h : fit (.int k) (.inl d)) : ∃ n, rd (.int k) d = .int k n ∧ k.min ≤ n ∧ n ≤ k.max := by
  simp only [fit] at h
  obtain ⟨n, rfl, h⟩ := h
  refine ⟨n, rfl, ?_⟩
  simpa [Lit.wf] using h
theorem fit_i64 {H : Type} {d : DataW H} (h : fit (.int .i64) (.inl d)) : ∃ n, rd (.int .i64) d = .int .i64 n ∧ -9223372036854775808 ≤ n ∧ n ≤ 9223372036854775807 := fit_int h
theorem fit_u8 {H : Type} {d : DataW H} (h : fit (.int .u8) (.inl d)) : ∃ n : UInt8, rd (.int .u8) d = byteD n := by
  obtain ⟨n, h1, h2, h3⟩ := fit_int h
  have h2 : 0 ≤ n := h2
  have h3 : n ≤ 255 := h3
  refine ⟨UInt8.ofNat n.toNat, h1.trans ?_⟩
  have : (UInt8.ofNat n.toNat).toNat = n.toNat := by
    rw [UInt8.toNat_ofNat']; omega
  show D.int .u8 n = D.int .u8 _
  rw [this]; congr 1; omega
theorem fit_bool {H : Type} {d : DataW H} (h : fit .bool (.inl d)) : ∃ b, rd .bool d = .bool b := by
  simp only [fit] at h
  obtain ⟨n, rfl⟩ := h
  exact ⟨n, rfl⟩
theorem fit_str {H : Type} {d : DataW H} (h : fit .str (.inl d)) : ∃ s, d = .lit (.string s) ∧ rd .str d = .str s := by
  simp only [fit] at h
  obtain ⟨n, rfl⟩ := h
  exact ⟨n, rfl, rfl⟩

/-- a slice of what reads as the images of things -/
theorem fit_sl {H : Type} {α : Type} {n : Nat} {σ : Sh} {g : α → D} {Q : DataW H → α → Prop} {d : DataW H} (h : fit (.sl n σ) (.inl d)) (he : ∀ x ∈ elems d, fit σ (.inl x) → ∃ a, rd σ x = g a ∧ Q x a) :
    ∃ l : List α, rd (.sl n σ) d = .sl n (l.map g) none ∧ l.length = (elems d).length ∧ ∀ (i : Nat) x a, (elems d)[i]? = some x → l[i]? = some a → Q x a := by
  have key : ∀ el : List (DataW H), (∀ x ∈ el, ∃ a, rd σ x = g a ∧ Q x a) → ∃ l : List α, el.map (rd σ) = l.map g ∧ l.length = el.length ∧ ∀ (i : Nat) x a, el[i]? = some x → l[i]? = some a → Q x a := by
    intro el
    induction el with
    | nil => intro _; exact ⟨[], rfl, rfl, by simp⟩
    | cons x el ih =>
      intro hx
      obtain ⟨a, h1, h2⟩ := hx x (by simp)
      obtain ⟨l, h3, h4, h5⟩ := ih fun y hy => hx y (by simp [hy])
      refine ⟨a :: l, by simp [h1, h3], by simp [h4], fun i y b hy hb => ?_⟩
      cases i with
      | zero => simp at hy hb; subst hy; subst hb; exact h2
      | succ i => exact h5 i y b (by simpa using hy) (by simpa using hb)
  simp only [fit] at h
  rcases h with rfl | ⟨el, sp, rfl, h⟩
  · exact ⟨[], rfl, rfl, by simp [elems]⟩
  · obtain ⟨l, h1, h2, h3⟩ := key el fun x hx => he x hx (h x hx)
    refine ⟨l, ?_, h2, h3⟩
    show D.sl n (el.map (rd σ)) none = _
    rw [h1]

theorem fit_bytes {H : Type} {d : DataW H} (h : fit (.sl 1 (.int .u8)) (.inl d)) : ∃ b : List UInt8, rd (.sl 1 (.int .u8)) d = bytesD b ∧ b.length = (elems d).length := by
  obtain ⟨l, h1, h2, _⟩ := fit_sl (g := byteD) (Q := fun _ _ => True) h fun x _ hx => by
    obtain ⟨n, h⟩ := fit_u8 hx
    exact ⟨n, h, trivial⟩
  exact ⟨l, h1, h2⟩

/-- the cells of fields -/
def rdF {H : Type} (σ : Sh) (ds : List (DataW H)) : List D := cl σ (.inr ds)
theorem rd_fld {H : Type} {a b : Sh} {p : DataW H} {ps : List (DataW H)} : rd (.fld a b) (.agg (p :: ps)) = .agg (cl a (.inl p) ++ rdF b ps) := rfl
theorem fit_fld {H : Type} {a b : Sh} {d : DataW H} (h : fit (.fld a b) (.inl d)) : ∃ p ps, d = .agg (p :: ps) ∧ fit a (.inl p) ∧ fit b (.inr ps) := by
  simpa only [fit] using h
theorem fit_more {H : Type} {a b : Sh} {ds : List (DataW H)} (h : fit (.fld a b) (.inr ds)) : ∃ p ps, ds = p :: ps ∧ fit a (.inl p) ∧ fit b (.inr ps) := by
  cases ds with
  | nil => simp [fit] at h
  | cons p ps => exact ⟨p, ps, rfl, by simpa only [fit] using h⟩
theorem fit_fin {H : Type} {ds : List (DataW H)} (h : fit .fin (.inr ds)) : ds = [] := by
  cases ds with
  | nil => rfl
  | cons p ps => simp [fit] at h
theorem rdF_cons {H : Type} {a b : Sh} {p : DataW H} {ps : List (DataW H)} : rdF (.fld a b) (p :: ps) = cl a (.inl p) ++ rdF b ps := by simp [rdF, cl]
theorem rdF_nil {H : Type} : rdF (.fin) ([] : List (DataW H)) = [] := by simp [rdF, cl]
theorem cl_fld {H : Type} {a b : Sh} {p : DataW H} {ps : List (DataW H)} : cl (.fld a b) (.inl (.agg (p :: ps))) = cl a (.inl p) ++ rdF b ps := by simp [rdF, cl]
theorem cl_one {H : Type} {σ : Sh} {d : DataW H} {x : D} (h : rd σ d = x) (ha : σ.agg = false) (hx : x ≠ .any) : cl σ (.inl d) = [x] := by
  unfold rd elD at h
  rw [ha] at h
  split at h
  · rename_i h1; cases h1
  · split at h
    · rename_i c hc; rw [hc, h]
    · exact (hx h.symm).elim
theorem fitAll0 {H : Type} {ds : List (DataW H)} (h : fitAll [] ds) : ds = [] := by
  cases ds with
  | nil => rfl
  | cons d ds => simp [fitAll] at h
theorem fitAll_cons {H : Type} {σ : Sh} {σs : List Sh} {ds : List (DataW H)} (h : fitAll (σ :: σs) ds) : ∃ d ds', ds = d :: ds' ∧ fit σ (.inl d) ∧ fitAll σs ds' := by
  cases ds with
  | nil => simp [fitAll] at h
  | cons d ds => exact ⟨d, ds, rfl, h.1, h.2⟩
theorem fitAll1 {H : Type} {a : Sh} {ds : List (DataW H)} (h : fitAll [a] ds) : ∃ d1, ds = [d1] ∧ fit a (.inl d1) := by
  obtain ⟨d1, r, rfl, h1, h⟩ := fitAll_cons h
  obtain rfl := fitAll0 h
  exact ⟨d1, rfl, h1⟩
theorem fitAll2 {H : Type} {a b : Sh} {ds : List (DataW H)} (h : fitAll [a, b] ds) : ∃ d1 d2, ds = [d1, d2] ∧ fit a (.inl d1) ∧ fit b (.inl d2) := by
  obtain ⟨d1, r, rfl, h1, h⟩ := fitAll_cons h
  obtain ⟨d2, rfl, h2⟩ := fitAll1 h
  exact ⟨d1, d2, rfl, h1, h2⟩
theorem fitAll3 {H : Type} {a b c : Sh} {ds : List (DataW H)} (h : fitAll [a, b, c] ds) : ∃ d1 d2 d3, ds = [d1, d2, d3] ∧ fit a (.inl d1) ∧ fit b (.inl d2) ∧ fit c (.inl d3) := by
  obtain ⟨d1, r, rfl, h1, h⟩ := fitAll_cons h
  obtain ⟨d2, d3, rfl, h2, h3⟩ := fitAll2 h
  exact ⟨d1, d2, d3, rfl, h1, h2, h3⟩
end Go.Plat

/-
  Contracts of the kit's shelf, as contracts of this framework.
-/
namespace Go.Plat
open Go Go.Sort
set_option linter.unusedVariables false
set_option linter.unusedSimpArgs false

theorem Ext.growL (w : World) : ∀ (l : List Obj), Ext F0 w (Sort.grow w l.toArray)
  | [] => by rw [show (([] : List Obj).toArray) = #[] from rfl, grow_empty]; exact .refl _ _
  | o :: l => by
    have e : Sort.grow w (o :: l).toArray = Sort.grow (w.alloc o) l.toArray := by
      rw [alloc_eq_grow, grow_grow]
      congr 1
      simp
    rw [e]
    exact (Ext.alloc w o).trans0 (Ext.growL _ l)
theorem Ext.growD (w : World) (k : Nat) (os : Array Obj) : Ext F0 w (Sort.grow (w.drewN k) os) := by
  have h1 : Ext F0 w (w.drewN k) := ⟨rfl, rfl, rfl, Nat.le_refl _, fun _ _ _ => rfl, fun _ _ _ _ => rfl, fun _ _ _ _ _ h => h⟩
  have h2 := Ext.growL (w.drewN k) os.toList
  simp only [Array.toArray_toList] at h2
  exact h1.trans0 h2

/-- what is known of a variable, as the shelf asks for it -/
theorem GOk.tab {w : World} {F : Nat → Nat → Prop} (h : GOk w F) {P : Program} {name : String} {g : Nat} {ns : List Nat} {k : IntKind} {zs : List Int}
    (hn : P.globalNamed name = some g) (hg : findG globs g = some (ns.map fun n => D.int k (n : Nat))) (hz : zs = ns.map fun n => ((n : Nat) : Int)) (h2 : ns ≠ []) : Lib.TabIs P w name k zs := by
  obtain ⟨h1, _, row, t, z, h3, h4⟩ := h g _ hg
  have hs : row.size = ns.length := by
    rcases h4 with h4 | h4
    · rw [h4, List.length_map]
    · match ns, h2 with
      | n :: r, _ => cases h4
  unfold Lib.TabIs World.var?
  rw [hn]
  show (match w.heap[g]? with
    | some (.cells cs _ _) => some cs
    | _ => none) = _
  rw [h3]
  dsimp only
  congr 1
  apply Array.ext_getElem?
  intro j
  subst hz
  by_cases hj : j < ns.length
  · have hc : (ns.map fun n => D.int k (n : Nat))[j]? = some (.int k (ns[j] : Nat)) := by rw [List.getElem?_map, List.getElem?_eq_getElem hj]; rfl
    obtain ⟨b, off, e, hv⟩ := (Rep.pure (ρ := ⟨fun _ => ⟨0, 0, 0⟩, fun _ _ => False⟩) (L := []) _ _ h1).ptr_inv
    cases e
    obtain ⟨u, h5, _, h6⟩ := hv j _ hc
    cases h6
    rw [Nat.zero_add] at h5
    simp only [World.cell?, h3] at h5
    have h5 : row[j]? = _ := h5
    rw [h5]
    simp [hj]
  · rw [Array.getElem?_eq_none (by omega)]
    simp [Nat.le_of_not_lt hj]

theorem RepL.le {w : World} {F : Nat → Nat → Prop} {ρ : Pl} {L : List Ob} {ds ds' : List D} {vs : List Value} (has : LeL ds ds') (hr : RepL w F ρ L ds vs) : RepL w F ρ L ds' vs := by
  refine ⟨hr.1.trans has.1, fun i d v h1 h2 => ?_⟩
  have hlt : i < ds.length := by rw [has.1]; exact (List.getElem?_eq_some_iff.1 h1).1
  exact has.2 i _ d (List.getElem?_eq_getElem hlt) h1 _ _ _ _ _ (hr.2 i _ v (List.getElem?_eq_getElem hlt) h2)

/-- a function that only makes -/
theorem meets_lib {P : Program} {f : Nat} {α : Type} {I : α → Prop} {A : α → List D} {R : α → D} (hc : Callable P f)
    (h : ∀ p, I p → ∀ (w : World) (F : Nat → Nat → Prop), GOk w F → ∀ vs : List Value, vs.length = (A p).length → (∀ (i : Nat) d v, (A p)[i]? = some d → vs[i]? = some v → RepP w F d v) →
      Calls P f vs.toArray w fun e w' => ∃ v, e = .returned v ∧ Ext F0 w w' ∧ RepP w' F (R p) v) : Meets P f (SpecP I A R) := by
  refine ⟨hc, ?_⟩
  rintro av L d L' ⟨p, hI, has, rfl, rfl, rfl⟩ w ρ vs hf hr
  have hr := hr.le has
  refine (h p hI w _ hf.glob vs hr.1 fun i d v h1 h2 => rep_nil (hr.2 i d v h1 h2)).mono ?_
  rintro e w' ⟨v, rfl, he, hv⟩
  exact ⟨v, ρ, rfl, hf.grow he, .pure _ _ hv, he.grow, .refl _ _, .refl _ _⟩

theorem bytes_toList (s : List UInt8) : (ByteArray.mk s.toArray).data.toList = s := rfl
end Go.Plat

/-
  The shelf's contracts at this program (written by lay-shelf.mjs, lay-plain.mjs; trimmed by trimshelf.py).
-/
namespace Go.Proofs
open Go.Shelf
def Tryd.laysM171_ren : Go.Shelf.Ren := ⟨fun | 171 => 40 | 243 => 74 | 246 => 95 | 283 => 110 | 284 => 111 | 285 => 112 | 286 => 113 | 129 => 133 | 317 => 132 | 318 => 134 | 319 => 135 | 320 => 136 | 337 => 142 | 338 => 143 | n => n, fun | 3 => 3 | 9 => 9 | 2 => 2 | 4 => 4 | 171 => 163 | 0 => 0 | 53 => 145 | 37 => 43 | 5 => 5 | 173 => 166 | 212 => 187 | 51 => 89 | 20 => 20 | 213 => 188 | 46 => 139 | 232 => 205 | 233 => 206 | n => n, fun | 17 => 3 | 18 => 8 | 19 => 9 | n => n⟩
theorem Tryd.laysM171 : Go.Proofs.LaysM.n171 Tryd.prog Tryd.laysM171_ren := {
  mixed := by kernel_rfl
  f129 := Tryd.func133.trans (congrArg some (by kernel_rfl))
  f171 := Tryd.func40.trans (congrArg some (by kernel_rfl))
  f243 := Tryd.func74.trans (congrArg some (by kernel_rfl))
  f246 := Tryd.func95.trans (congrArg some (by kernel_rfl))
  f283 := Tryd.func110.trans (congrArg some (by kernel_rfl))
  f284 := Tryd.func111.trans (congrArg some (by kernel_rfl))
  f285 := Tryd.func112.trans (congrArg some (by kernel_rfl))
  f286 := Tryd.func113.trans (congrArg some (by kernel_rfl))
  f317 := Tryd.func132.trans (congrArg some (by kernel_rfl))
  f318 := Tryd.func134.trans (congrArg some (by kernel_rfl))
  f319 := Tryd.func135.trans (congrArg some (by kernel_rfl))
  f320 := Tryd.func136.trans (congrArg some (by kernel_rfl))
  f337 := Tryd.func142.trans (congrArg some (by kernel_rfl))
  f338 := Tryd.func143.trans (congrArg some (by kernel_rfl))
  t0 := Tryd.underlying0
  a0 := Tryd.isAgg0
  z0 := Tryd.sizeOf0
  v0 := Tryd.zeroValue0
  t2 := Tryd.underlying2
  a2 := Tryd.isAgg2
  z2 := Tryd.sizeOf2
  v2 := Tryd.zeroValue2
  t3 := Tryd.underlying3
  a3 := Tryd.isAgg3
  z3 := Tryd.sizeOf3
  v3 := Tryd.zeroValue3
  t4 := Tryd.underlying4
  a4 := Tryd.isAgg4
  z4 := Tryd.sizeOf4
  v4 := Tryd.zeroValue4
  t5 := Tryd.underlying5
  a5 := Tryd.isAgg5
  z5 := Tryd.sizeOf5
  v5 := Tryd.zeroValue5
  t9 := Tryd.underlying9
  a9 := Tryd.isAgg9
  z9 := Tryd.sizeOf9
  v9 := Tryd.zeroValue9
  t20 := Tryd.underlying20
  a20 := Tryd.isAgg20
  z20 := Tryd.sizeOf20
  v20 := Tryd.zeroValue20
  t37 := Tryd.underlying43
  a37 := Tryd.isAgg43
  z37 := Tryd.sizeOf43
  v37 := Tryd.zeroValue43
  t46 := Tryd.underlying139
  a46 := Tryd.isAgg139
  z46 := Tryd.sizeOf139
  v46 := Tryd.zeroValue139
  t51 := Tryd.underlying89
  a51 := Tryd.isAgg89
  z51 := Tryd.sizeOf89
  v51 := Tryd.zeroValue89
  t53 := Tryd.underlying145
  a53 := Tryd.isAgg145
  z53 := Tryd.sizeOf145
  v53 := Tryd.zeroValue145
  t171 := Tryd.underlying163
  a171 := Tryd.isAgg163
  z171 := Tryd.sizeOf163
  v171 := Tryd.zeroValue163
  t173 := Tryd.underlying166
  a173 := Tryd.isAgg166
  z173 := Tryd.sizeOf166
  v173 := Tryd.zeroValue166
  t212 := Tryd.underlying187
  a212 := Tryd.isAgg187
  z212 := Tryd.sizeOf187
  v212 := Tryd.zeroValue187
  t213 := Tryd.underlying188
  a213 := Tryd.isAgg188
  z213 := Tryd.sizeOf188
  t232 := Tryd.underlying205
  a232 := Tryd.isAgg205
  z232 := Tryd.sizeOf205
  v232 := Tryd.zeroValue205
  t233 := Tryd.underlying206
  a233 := Tryd.isAgg206
  z233 := Tryd.sizeOf206
  v233 := Tryd.zeroValue206
  g17 := by kernel_rfl
  g18 := by kernel_rfl
  g19 := by kernel_rfl
  i0 := by kernel_rfl
  i2 := by kernel_rfl
  i3 := by kernel_rfl
  i4 := by kernel_rfl
  i5 := by kernel_rfl
  i9 := by kernel_rfl
  i20 := by kernel_rfl
  i37 := by kernel_rfl
  i46 := by kernel_rfl
  i51 := by kernel_rfl
  i53 := by kernel_rfl
  i171 := by kernel_rfl
  i173 := by kernel_rfl
  i212 := by kernel_rfl
  i232 := by kernel_rfl
  i233 := by kernel_rfl
  m17 := by kernel_rfl
  m18 := by kernel_rfl
  m19 := by kernel_rfl }
open Go.RowKit Go.Sort Go.Lib in
theorem Tryd.strconv_Itoa (n : Int) (h0 : -9223372036854775808 ≤ n) (h1 : n ≤ 9223372036854775807) (w : World) (htab : Lib.TabIs Tryd.prog w "internal/strconv.uint64pow10" .u64 Lib.pow10Tab) :
    Calls Tryd.prog 40 #[.int .i64 n] w fun e w' => e = .returned (.string ⟨(Lib.itoa n).toArray⟩) ∧ ∃ k os, w' = grow (w.drewN k) os := Any.strconv_Itoa Tryd.laysM171 n h0 h1 w htab
end Go.Proofs

/-
  Variables of the library that a row lists: what the framework knows of them.
-/
namespace Go.Plat
open Go
set_option linter.unusedVariables false
set_option linter.unusedSimpArgs false

abbrev GFact (w : World) (F : Nat → Nat → Prop) (g : Nat) (cs : List D) : Prop := RepP w F (.ptr cs) (.pointer (some ⟨g, 0, none⟩)) ∧
  (∀ off, ¬ F g off) ∧ ∃ row t z, w.heap[g]? = some (.cells row t z) ∧ (row.size = cs.length ∨ cs = [.any])
def GOkL (w : World) (F : Nat → Nat → Prop) (l : List (Nat × Nat × List Nat)) : Prop := ∀ g cs, findG l g = some cs → GFact w F g cs
theorem gokl_nil {w : World} {F : Nat → Nat → Prop} : GOkL w F [] := fun g cs h => by cases h
theorem gokl_cons {w : World} {F : Nat → Nat → Prop} {h k : Nat} {ns : List Nat} {r : List (Nat × Nat × List Nat)} (hf : GFact w F h (globD k ns)) (hr : GOkL w F r) : GOkL w F ((h, k, ns) :: r) := by
  intro g cs hg
  rw [findG] at hg
  cases hb : Nat.beq h g with
  | false => rw [hb] at hg; exact hr g cs hg
  | true =>
    rw [hb] at hg
    have e := Nat.eq_of_beq_eq_true hb
    subst e
    cases hg
    exact hf
theorem gfact {P : Program} {w : World} {name : String} {g : Nat} {k : IntKind} {zs : List Int} {ns : List Nat} (hn : P.globalNamed name = some g) (h : Lib.TabIs P w name k zs)
    (hz : zs = ns.map fun n : Nat => (n : Int)) : GFact w F0 g (ns.map fun n => D.int k (n : Nat)) := by
  have hc := fun i hi => h.cell hn i hi
  refine ⟨.ptr _ _ _ (fun j => .int k (zs.getD j 0)) (fun j c hj => ⟨?_, fun f => f⟩) (fun j c hj => ?_), fun off f => f, ?_⟩
  · have hjl : j < ns.length := by
      have := (List.getElem?_eq_some_iff.1 hj).1
      simpa using this
    rw [Nat.zero_add]
    exact hc j (by rw [hz]; simpa using hjl)
  · have hjl : j < ns.length := by
      have := (List.getElem?_eq_some_iff.1 hj).1
      simpa using this
    rw [List.getElem?_map, List.getElem?_eq_getElem hjl] at hj
    cases hj
    have : zs.getD j 0 = (ns[j] : Int) := by
      rw [hz, List.getD_eq_getElem?_getD, List.getElem?_map, List.getElem?_eq_getElem hjl]; rfl
    dsimp only
    rw [this]
    exact .int _ _
  · unfold Lib.TabIs World.var? at h
    rw [hn] at h
    dsimp only [Option.bind_some] at h
    split at h
    · rename_i cs t z hh
      cases h
      exact ⟨_, _, _, hh, .inl (by rw [hz]; simp)⟩
    · cases h
theorem tab_of_vars {P : Program} {W : World} {name : String} {k : IntKind} {zs : List Int} {rest : List (String × DataW Unit)} {g : Nat} {t e : TypeId} {n : Nat} {ps : List MemPlace} {d : DataW Unit}
    (hg : P.globalNamed name = some g) (hty : (P.globals[g]?).map (·.type) = some t) (ht : P.underlying t = some (.array n e)) (he : P.underlying e = some (.int k)) (hce : P.cellsOf e = 1) (hct : P.cellsOf t = n)
    (hd : d = Lib.tabData k zs) (h : DataW.LaidVars P W ((name, d) :: rest) ps) : Lib.TabIs P W name k zs ∧ ∃ q, DataW.LaidVars P W rest q := by
  subst hd
  obtain ⟨g', t', cs, fuel, p, q, hg', ht', hvar, hd, hr, _⟩ := h
  obtain rfl := Option.some.inj (hg.symm.trans hg')
  obtain rfl := Option.some.inj (hty.symm.trans ht')
  refine ⟨?_, q, hr⟩
  unfold Lib.TabIs
  rw [hvar, ← Lib.cells_of_tab ht he hce hct hd]
end Go.Plat
