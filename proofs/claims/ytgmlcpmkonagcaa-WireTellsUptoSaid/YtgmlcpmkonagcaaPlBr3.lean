/-
  From a contract to the law's own statement: what is handed in reads as data, the answer is true, and all stays as it was.
-/
import Derived.Test.YtgmlcpmkonagcaaPlBr2
import Derived.JoinedCond
namespace Go.Plat
open Go
open Go.ChangeShapes Go.WideShapes
set_option linter.unusedVariables false
set_option linter.unusedSimpArgs false

theorem okWide_agg {P : Program} {w : World} {r : Reach} {b : Nat} {t : TypeId} {v : Value} (h : Value.okWide P w r b t v) (hu : (∃ fs, P.underlying t = some (.struct fs)) ∨ ∃ n e, P.underlying t = some (.array n e)) : ∃ cs, v = .agg cs := by
  unfold Value.okWide at h
  rcases hu with ⟨fs, hu⟩ | ⟨n, e, hu⟩ <;> rw [hu] at h <;> obtain ⟨cs, h, _⟩ := h <;> exact ⟨cs, h⟩

theorem rep_agg {w : World} {cs : List D} {vs : Array Value} (h : CellsRep w F0 cs vs.toList) : RepP w F0 (.agg cs) (.agg vs) := by
  have : RepP w F0 (.agg cs) (.agg vs.toList.toArray) := .agg cs vs.toList h.1.symm fun i d v hd hv => (h.2 i d v hd hv).1
  simpa using this

theorem rep_cell {w : World} {σ : Sh} {cs : List D} {v : Value} (ha : σ.agg = false) (h : CellsRep w F0 cs [v]) : RepP w F0 (elD σ cs) v := by
  unfold elD
  rw [ha]
  match cs, h with
  | [c], h => exact (h.2 0 c v rfl rfl).1
  | [], h => exact absurd h.1 (by simp)
  | _ :: _ :: _, h => exact absurd h.1 (by simp)

theorem arg_rep {H : Type} {enc : TypeId × Value → H} {P : Program} {w : World} {σ : Sh} {t : TypeId} {v : Value} {d : DataW H} {ps : List MemPlace} {r : Reach} {b : Nat} (hc : chk P σ (.inl t) = true)
    (hok : Value.okWide P w r b t v) (h : DataW.Trod enc P w 0 (fun _ => true) true t v d ps) : fit σ (.inl d) ∧ RepP w F0 (rd σ d) v := by
  obtain ⟨fuel, h⟩ := h
  obtain ⟨h1, h2, _⟩ := (trod_rep σ).1 t fuel _ d ps hc h
  refine ⟨h1, ?_⟩
  have one : σ.agg = false → (∀ cs, v ≠ .agg cs) → RepP w F0 (rd σ d) v := fun ha hv => by
    have hcells : v.cells.toList = [v] := by cases v <;> first | rfl | exact (hv _ rfl).elim
    rw [hcells] at h2
    exact rep_cell ha h2
  cases σ with
  | int k =>
    simp only [chk] at hc; split at hc <;> try cases hc
    rename_i q hu
    refine one rfl fun cs e => ?_
    subst e; simp [Value.okWide, hu, Cell.okWide, Cell.ok] at hok
  | bool =>
    simp only [chk] at hc; split at hc <;> try cases hc
    rename_i hu
    refine one rfl fun cs e => ?_
    subst e; simp [Value.okWide, hu, Cell.okWide, Cell.ok] at hok
  | str =>
    simp only [chk] at hc; split at hc <;> try cases hc
    rename_i hu
    refine one rfl fun cs e => ?_
    subst e; simp [Value.okWide, hu, Cell.okWide, Cell.ok] at hok
  | sl n σ =>
    obtain ⟨e, hu, _⟩ := chk_slice hc
    refine one rfl fun cs e => ?_
    subst e; simp [Value.okWide, hu, Cell.okWide, Cell.ok] at hok
  | fin => simp [chk] at hc
  | fld a b =>
    obtain ⟨fs, hu, _⟩ := chk_fld hc
    obtain ⟨cs, rfl⟩ := okWide_agg hok (.inl ⟨_, hu⟩)
    exact rep_agg h2
  | arr n σ =>
    obtain ⟨e, hu, _⟩ := chk_arr hc
    obtain ⟨cs, rfl⟩ := okWide_agg hok (.inr ⟨_, _, hu⟩)
    exact rep_agg h2

def chkAll (P : Program) : List Sh → List TypeId → Bool
  | [], [] => true
  | σ :: σs, t :: ts => chk P σ (.inl t) && chkAll P σs ts
  | _, _ => false

def fitAll {H : Type} : List Sh → List (DataW H) → Prop
  | [], [] => True
  | σ :: σs, d :: ds => fit σ (.inl d) ∧ fitAll σs ds
  | _, _ => False

def rdAll {H : Type} : List Sh → List (DataW H) → List D
  | σ :: σs, d :: ds => rd σ d :: rdAll σs ds
  | _, _ => []

theorem args_rep {H : Type} {enc : TypeId × Value → H} {P : Program} {w : World} : ∀ {σs : List Sh} {ts : List TypeId} {vs : List Value} {ds : List (DataW H)} {ps : List MemPlace}, chkAll P σs ts = true →
    (∀ (j : Nat) t v, ts[j]? = some t → vs[j]? = some v → ∃ r b, Value.okWide P w r b t v) → DataW.TrodAll enc P w 0 (fun _ => true) true ts vs ds ps →
    fitAll σs ds ∧ vs.length = (rdAll σs ds).length ∧ ∀ (i : Nat) d v, (rdAll σs ds)[i]? = some d → vs[i]? = some v → RepP w F0 d v
  | [], [], vs, ds, ps, _, _, h => by
    obtain ⟨rfl, rfl, rfl⟩ := trodAll_nil h
    exact ⟨trivial, rfl, fun i d v hd => by simp [rdAll] at hd⟩
  | σ :: σs, t :: ts, vs, ds, ps, hc, hok, h => by
    obtain ⟨v, vs1, d, ds1, p, q, rfl, rfl, rfl, h1, h2⟩ := trodAll_cons h
    simp only [chkAll, Bool.and_eq_true] at hc
    obtain ⟨r, b, hv⟩ := hok 0 t v rfl rfl
    obtain ⟨f1, r1⟩ := arg_rep hc.1 hv h1
    obtain ⟨f2, l2, r2⟩ := args_rep hc.2 (fun j t v ht hv => hok (j + 1) t v (by simpa using ht) (by simpa using hv)) h2
    refine ⟨⟨f1, f2⟩, by simp [rdAll, l2], fun i d' v' hd hv' => ?_⟩
    cases i with
    | zero => simp [rdAll] at hd hv'; subst hd; subst hv'; exact r1
    | succ i => exact r2 i d' v' (by simpa [rdAll] using hd) (by simpa using hv')
  | [], _ :: _, _, _, _, hc, _, _ => by simp [chkAll] at hc
  | _ :: _, [], _, _, _, hc, _, _ => by simp [chkAll] at hc

theorem chkAll_shaped {P : Program} : ∀ {σs : List Sh} {ts : List TypeId}, chkAll P σs ts = true → ∀ t ∈ ts, Shaped P t
  | [], [], _, t, ht => by cases ht
  | σ :: σs, t :: ts, hc, u, hu => by
    simp only [chkAll, Bool.and_eq_true] at hc
    rcases List.mem_cons.1 hu with rfl | hu
    · exact ⟨σ, hc.1⟩
    · exact chkAll_shaped hc.2 u hu
  | [], _ :: _, hc, _, _ => by simp [chkAll] at hc
  | _ :: _, [], hc, _, _ => by simp [chkAll] at hc

/-- a law that answers true and leaves all as it was -/
theorem law_contract {H : Type} {enc : TypeId × Value → H} {P : Program} {f : FuncId} {fn : Func} {s : ChangeSpec} {σs : List Sh} {spec : Spec} {apart fresh handsOn : Bool} {W : World} {args : Array Value} {ds gs : List (DataW H)} {before : List MemPlace} {tb : TypeId}
    (hc : chkAll P σs fn.params.toList = true) (hvars : s.vars = []) (hrt : fn.resultTypes = #[tb]) (htb : P.underlying tb = some .bool)
    (hfn : fitAll σs ds → s.fn H (ds ++ gs) = { results := [.lit (.bool true)], args := ds })
    (hval : ∀ (j : Nat) t v, fn.params[j]? = some t → args[j]? = some v → ∃ r b, Value.okWide P W r b t v)
    (hW : DataW.Whole enc P fn.params.toList s.vars apart W args.toList ds gs before)
    (hm : Meets P f spec) (hs : fitAll σs ds → spec (rdAll σs ds) [] (.bool true) []) :
    Calls P f args W fun e W' => ∃ v, e = .returned v ∧ s.post enc P fn apart fresh handsOn false W args v W' := by
  have hW' := hW
  obtain ⟨p, q, hA, hV, rfl, hfz, hnd⟩ := hW
  obtain ⟨h1, h2, h3⟩ := args_rep hc (fun j t v ht hv => hval j t v (by simpa using ht) (by simpa using hv)) hA
  have hq : q = [] ∧ gs = [] := by
    rw [hvars] at hV
    cases gs with
    | nil => exact ⟨hV, rfl⟩
    | cons g gs => exact hV.elim
  obtain ⟨rfl, rfl⟩ := hq
  have hcall := hm.2 (rdAll σs ds) [] (.bool true) [] (hs h1) W ⟨fun _ => ⟨0, 0, 0⟩, fun _ _ => False⟩ args.toList
    ⟨fun _ _ h => h.elim, fun _ _ _ h => h, fun k o h => by simp at h, fun k k' o o' b off h => by simp at h⟩
    ⟨h2, fun i d v hd hv => .pure _ _ ((h3 i d v hd hv).less (fun b off hF => by
      rcases hF with ⟨k, o, h, _⟩ | hF
      · simp at h
      · exact hF.elim))⟩
  rw [show args.toList.toArray = args by simp] at hcall
  refine hcall.mono ?_
  rintro e W' ⟨v, ρ', he, hp⟩
  have hext : Ext F0 W W' := hp.ext.mono fun b off _ h => by
    obtain ⟨k, o, h, _⟩ := h
    simp at h
  have hv : v = .bool true := by
    have := rep_nil hp.rep
    cases this
    rfl
  subst hv
  refine ⟨_, he, ds, [], p ++ [], [], p, [], hW', ?_, ?_, ?_, kept_ext hext _, fun h => by cases h⟩
  · rw [hfn h1, hrt]
    exact trodAll_mk1 (Go.RowKit.shut_bool htb true)
  · rw [hfn h1]
    refine all_behind hext (chkAll_shaped hc) hA fun x hx => ?_
    have := hW'.lt x (by simpa using hx)
    simpa using this
  · rw [hvars, hfn h1]
    rfl
end Go.Plat
