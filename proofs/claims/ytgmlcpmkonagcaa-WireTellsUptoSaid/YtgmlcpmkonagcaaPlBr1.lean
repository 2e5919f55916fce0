/-
  From the statement's reading of what is handed in to the data of these texts.
-/
import Derived.Test.YtgmlcpmkonagcaaPlSpec
import GoSem.ClaimChange
namespace Go.Plat
open Go
set_option linter.unusedVariables false
set_option linter.unusedSimpArgs false

theorem mapM_some {α β : Type} {f : α → Option β} : ∀ {l : List α} {xs : List β}, l.mapM f = some xs → xs.length = l.length ∧ ∀ (i : Nat) x, l[i]? = some x → ∃ y, xs[i]? = some y ∧ f x = some y
  | [], xs, h => by simp at h; subst h; simp
  | a :: l, xs, h => by
    simp only [List.mapM_cons, bind, Option.bind_eq_some_iff, pure, Option.some.injEq] at h
    obtain ⟨y, h1, ys, h2, rfl⟩ := h
    obtain ⟨h3, h4⟩ := mapM_some h2
    refine ⟨by simp [h3], fun i x hx => ?_⟩
    cases i with
    | zero => simp at hx; subst hx; exact ⟨y, by simp, h1⟩
    | succ i => simpa using h4 i x (by simpa using hx)

theorem mapM_of {α β : Type} {f : α → Option β} : ∀ {l : List α} {xs : List β}, xs.length = l.length → (∀ (i : Nat) x y, l[i]? = some x → xs[i]? = some y → f x = some y) → l.mapM f = some xs
  | [], xs, h, _ => by simp at h; subst h; simp
  | a :: l, [], h, _ => by simp at h
  | a :: l, y :: ys, h, hf => by
    have h1 := hf 0 a y rfl rfl
    have h2 := mapM_of (l := l) (xs := ys) (by simpa using h) fun i x z hx hz => hf (i + 1) x z (by simpa using hx) (by simpa using hz)
    simp [List.mapM_cons, h1, h2]

/-- shapes of types of plain data -/
inductive Sh where
  | int (k : IntKind)
  | bool
  | str
  | sl (n : Nat) (σ : Sh)
  | fin
  | fld (σ rest : Sh)
  | arr (n : Nat) (σ : Sh)

def Sh.size : Sh → Nat
  | .int _ => 1
  | .bool => 1
  | .str => 1
  | .sl _ _ => 1
  | .fin => 0
  | .fld a b => a.size + b.size
  | .arr n a => n * a.size

def Sh.agg : Sh → Bool
  | .fin => true
  | .fld _ _ => true
  | .arr _ _ => true
  | _ => false

def chk (P : Program) : Sh → Sum TypeId (List Field × Nat) → Bool
  | .int k, .inl t => match P.underlying t with | some (.int q) => kindEq q k | _ => false
  | .bool, .inl t => match P.underlying t with | some .bool => true | _ => false
  | .str, .inl t => match P.underlying t with | some .string => true | _ => false
  | .sl n σ, .inl t => match P.underlying t with | some (.slice e) => Nat.beq (P.cellsOf e) n && !Nat.beq n 0 && Nat.beq σ.size n && chk P σ (.inl e) | _ => false
  | .arr n σ, .inl t => match P.underlying t with | some (.array m e) => Nat.beq m n && Nat.beq (P.cellsOf t) (n * σ.size) && Nat.beq (P.cellsOf e) σ.size && chk P σ (.inl e) | _ => false
  | .fld a b, .inl t => match P.underlying t with
    | some (.struct fs) => match fs.toList with
      | f :: r => Nat.beq (P.cellsOf t) (a.size + b.size) && Nat.beq f.offset 0 && Nat.beq (P.cellsOf f.type) a.size && chk P a (.inl f.type) && chk P b (.inr (r, a.size))
      | [] => false
    | _ => false
  | .fld a b, .inr (f :: r, off) => Nat.beq f.offset off && Nat.beq (P.cellsOf f.type) a.size && chk P a (.inl f.type) && chk P b (.inr (r, off + a.size))
  | .fin, .inr ([], _) => true
  | _, _ => false

def fit {H : Type} : Sh → Sum (DataW H) (List (DataW H)) → Prop
  | .int k, .inl d => ∃ n, d = .lit (.int k n) ∧ (Lit.int k n).wf = true
  | .bool, .inl d => ∃ b, d = .lit (.bool b)
  | .str, .inl d => ∃ s, d = .lit (.string s)
  | .sl n σ, .inl d => d = .nil ∨ ∃ el sp, d = .slice el sp ∧ ∀ x ∈ el, fit σ (.inl x)
  | .arr n σ, .inl d => ∃ ps, d = .agg ps ∧ ps.length = n ∧ ∀ x ∈ ps, fit σ (.inl x)
  | .fld a b, .inl d => ∃ p ps, d = .agg (p :: ps) ∧ fit a (.inl p) ∧ fit b (.inr ps)
  | .fld a b, .inr (p :: ps) => fit a (.inl p) ∧ fit b (.inr ps)
  | .fin, .inr [] => True
  | _, _ => False

/-- one datum of cells -/
def elD (σ : Sh) (cs : List D) : D :=
  match σ.agg with
  | true => .agg cs
  | false => match cs with
    | [c] => c
    | _ => .any

def cl {H : Type} : Sh → Sum (DataW H) (List (DataW H)) → List D
  | .int k, .inl (.lit (.int _ n)) => [.int k n]
  | .bool, .inl (.lit (.bool b)) => [.bool b]
  | .str, .inl (.lit (.string s)) => [.str s]
  | .sl n σ, .inl d => [.sl n (match d with | .slice el _ => el.map (fun x => elD σ (cl σ (.inl x))) | _ => []) none]
  | .arr n σ, .inl (.agg ps) => ps.flatMap fun x => cl σ (.inl x)
  | .fld a b, .inl (.agg (p :: ps)) => cl a (.inl p) ++ cl b (.inr ps)
  | .fld a b, .inr (p :: ps) => cl a (.inl p) ++ cl b (.inr ps)
  | _, _ => []

def rd {H : Type} (σ : Sh) (d : DataW H) : D := elD σ (cl σ (.inl d))

/-- cells that read as these data -/
def CellsRep (w : World) (F : Nat → Nat → Prop) (ds : List D) (vs : List Value) : Prop := ds.length = vs.length ∧ ∀ (i : Nat) c v, ds[i]? = some c → vs[i]? = some v → RepP w F c v ∧ v.oneCell' = true ∧ oneD c = true

theorem oneCell_repP {w : World} {F : Nat → Nat → Prop} {d : D} {v : Value} (h : RepP w F d v) (hd : oneD d = true) : v.oneCell' = true := oneD_cell (ρ := ⟨fun _ => ⟨0, 0, 0⟩, fun _ _ => False⟩) (L := []) (.pure _ _ h) hd

theorem CellsRep.append {w : World} {F : Nat → Nat → Prop} {ds ds' : List D} {vs vs' : List Value} (h : CellsRep w F ds vs) (h' : CellsRep w F ds' vs') : CellsRep w F (ds ++ ds') (vs ++ vs') := by
  refine ⟨by simp [h.1, h'.1], fun i c v hc hv => ?_⟩
  rcases Nat.lt_or_ge i ds.length with hlt | hge
  · rw [List.getElem?_append_left hlt] at hc
    rw [List.getElem?_append_left (by rw [← h.1]; exact hlt)] at hv
    exact h.2 i c v hc hv
  · rw [List.getElem?_append_right hge] at hc
    rw [List.getElem?_append_right (by rw [← h.1]; exact hge), ← h.1] at hv
    exact h'.2 _ c v hc hv

theorem CellsRep.one {w : World} {F : Nat → Nat → Prop} {d : D} {v : Value} (h : RepP w F d v) (hd : oneD d = true) : CellsRep w F [d] [v] := ⟨rfl, fun i c u hc hu => by
  cases i with
  | zero => simp at hc hu; subst hc; subst hu; exact ⟨h, oneCell_repP h hd, hd⟩
  | succ i => simp at hc⟩

/-- the cells of an element -/
theorem elD_cells {H : Type} {w : World} {F : Nat → Nat → Prop} {σ : Sh} {d : DataW H} {vs : List Value} (h : CellsRep w F (cl σ (.inl d)) vs) (hs : σ.agg = false → (cl σ (.inl d)).length = 1) : (rd σ d).cells = cl σ (.inl d) := by
  unfold rd elD
  split
  · rfl
  · rename_i ha
    have h1 := hs ha
    split
    · rename_i c hc
      have h2 : oneD c = true := by
        have hlt : 0 < vs.length := by rw [← h.1]; omega
        exact (h.2 0 c vs[0] (by rw [hc]; rfl) (List.getElem?_eq_getElem hlt)).2.2
      rw [hc]
      cases c <;> first | rfl | simp [oneD] at h2
    · rename_i hne
      match hcl : cl σ (.inl d), h1 with
      | [c], _ => exact (hne c hcl).elim

end Go.Plat
