/-
  Types' table, what an operation has to do (OpOk), and the operations that only compute.
-/
import Derived.Test.YtgmlcpmkonagcaaPlFw1
import Derived.Orders
import Derived.Laws.Sem
import Derived.Laws.World
import Derived.Laws.Cells
namespace Go.Plat
open Go
set_option linter.unusedVariables false
set_option linter.unusedSimpArgs false

/-- a stop of the computed condition -/
structure VS (p : Prop) : Prop where
  out : p

structure Post (w : World) (ρ : Pl) (L : List Ob) (d : D) (L' : List Ob) (v : Value) (w' : World) (ρ' : Pl) : Prop where
  fits : Fits w' ρ' L'
  rep : Rep w' (foot ρ' L') ρ' L' d v
  ext : Ext (own ρ L) w w'
  fresh : Fresh w (own ρ L) (own ρ' L')
  compat : Compat ρ L ρ' L'

theorem Ext.foot {ρ : Pl} {L : List Ob} {w w' : World} (h : Ext (own ρ L) w w') : Ext (Plat.foot ρ L) w w' := h.mono fun _ _ _ h => .inl h

theorem Fresh.refl (w : World) (F : Nat → Nat → Prop) : Fresh w F F := fun _ _ h => .inl h

theorem Post.same {w : World} {ρ : Pl} {L : List Ob} {d : D} {v : Value} (hf : Fits w ρ L) (h : Rep w (foot ρ L) ρ L d v) : Post w ρ L d L v w ρ :=
  ⟨hf, h, .refl _ _, .refl _ _, .refl _ _⟩

/-- the slots of a state -/
def look : List (Nat × D) → Nat → D
  | [], _ => .any
  | (s, d) :: r, t => match Nat.beq s t with
    | true => d
    | false => look r t

def Env (w : World) (ρ : Pl) (L : List Ob) (σ : List (Nat × D)) (a : Act) : Prop :=
  ∀ t, Rep w (foot ρ L) ρ L (look σ t) (a.tmps.getD t undef)

theorem Env.keep {w w' : World} {ρ ρ' : Pl} {L L' : List Ob} {σ : List (Nat × D)} {a : Act} (h : Env w ρ L σ a)
    (he : Ext (foot ρ L) w w') (hf : Fresh w (foot ρ L) (foot ρ' L')) (hc : Compat ρ L ρ' L') : Env w' ρ' L' σ a :=
  fun t => (h t).keep he hf hc

theorem Env.put {w : World} {ρ : Pl} {L : List Ob} {σ : List (Nat × D)} {a : Act} {t : Nat} {d : D} {v : Value} (h : Env w ρ L σ a)
    (ht : t < a.tmps.size) (hd : Rep w (foot ρ L) ρ L d v) : Env w ρ L ((t, d) :: σ) (a.put (some t) v) := by
  intro s
  simp only [look]
  by_cases hs : t = s
  · subst hs
    simp only [Nat.beq_eq_true_eq, Nat.beq_refl, Act.put]
    rw [Array.getD_eq_getD_getElem?, Array.getElem?_setIfInBounds_self_of_lt ht]
    exact hd
  · have : Nat.beq t s = false := by
      rw [Bool.eq_false_iff]; intro h; exact hs (Nat.eq_of_beq_eq_true h)
    rw [this]
    simp only [Act.put, Array.getD_eq_getD_getElem?]
    rw [Array.getElem?_setIfInBounds_ne hs]
    simpa [Array.getD_eq_getD_getElem?] using h s

/-- a constant's datum -/
def constD : Value → D
  | .int k n => .int k n
  | .bool b => match b with | true => .tt | false => .ff
  | .string s => .str s.data.toList
  | .slice a l c => match a with
    | none => match l with | 0 => (match c with | 0 => .nilsl | _ + 1 => .any) | _ + 1 => .any
    | some _ => .any
  | .pointer a => match a with | none => .nilp | some _ => .any
  | .map a => match a with | none => .nilmap | some _ => .any
  | .nilFunc => .nilfn
  | .nilIface => .nilif
  | _ => .any

theorem constD_rep (w : World) (F : Nat → Nat → Prop) (v : Value) : RepP w F (constD v) v := by
  cases v with
  | int k n => exact .int _ _
  | bool b => cases b; exact .ff; exact .tt
  | string s => exact .str _
  | slice a l c =>
    cases a with
    | none =>
      cases l with
      | zero => cases c with
        | zero => exact .nilsl _
        | succ _ => exact .any _
      | succ _ => exact .any _
    | some _ => exact .any _
  | pointer a => cases a; exact .nilp; exact .any _
  | map a => cases a; exact .nilmap; exact .any _
  | nilFunc => exact .nilfn
  | nilIface => exact .nilif
  | _ => exact .any _

/-- a zero value's datum -/
def zeroD : Value → D
  | .agg cs => .agg (cs.toList.map constD)
  | v => constD v

theorem zeroD_rep (w : World) (F : Nat → Nat → Prop) (v : Value) : RepP w F (zeroD v) v := by
  unfold zeroD
  split
  · rename_i cs
    obtain ⟨l⟩ := cs
    refine .agg _ l (by simp) fun i d v h1 h2 => ?_
    simp only [List.getElem?_map, Option.map_eq_some_iff] at h1
    obtain ⟨x, h3, rfl⟩ := h1
    rw [h2] at h3
    cases h3
    exact constD_rep _ _ _
  · exact constD_rep _ _ _

def evalD (σ : List (Nat × D)) : Operand → D
  | .tmp t => look σ t
  | .const v => zeroD v
  | .global _ => .any
  | .func f => .fn f []

theorem Env.eval {w : World} {ρ : Pl} {L : List Ob} {σ : List (Nat × D)} {a : Act} (h : Env w ρ L σ a) (x : Operand) :
    Rep w (foot ρ L) ρ L (evalD σ x) (a.eval x) := by
  cases x with
  | tmp t => exact h t
  | const v => exact .pure _ _ (zeroD_rep _ _ _)
  | global g => exact .pure _ _ (.any _)
  | func f => exact .pure _ _ (.fn f [] [] rfl (by simp))

/-- types, as far as they matter -/
inductive TD where
  | bool | str | iface | fn | other
  | int (k : IntKind)
  | ptr (e : Nat)
  | slice (e : Nat)
  | arr (n e : Nat)
  | map (k e : Nat)
  | struct (fs : List (Nat × Nat))

structure TI where
  d : TD
  size : Nat
  bytes : Nat
  zero : Value

def tdOf : TypeDesc → TD
  | .bool => .bool
  | .string => .str
  | .interface _ => .iface
  | .func .. => .fn
  | .int k => .int k
  | .pointer e => .ptr e
  | .slice e => .slice e
  | .array n e => .arr n e
  | .map k e => .map k e
  | .struct fs => .struct (fs.toList.map fun f => (f.offset, f.type))
  | _ => .other

structure TIOk (P : Program) (t : Nat) (i : TI) : Prop where
  under : ∃ d, P.underlying t = some d ∧ tdOf d = i.d
  info : ∃ x, P.info? t = some x ∧ x.size = i.size ∧ x.bytes = i.bytes ∧ x.zero = some i.zero
  pos : i.size ≠ 0
  bpos : i.bytes ≠ 0
  szero : i.zero.cells.size = i.size
  fin : (match P.underlying t with | some (.struct fs) => fs.toList.all fun f => (P.info? f.type).isSome | _ => true) = true

abbrev Tab := List (Nat × TI)
def ty : Tab → Nat → Option TI
  | [], _ => none
  | (s, d) :: r, t => match Nat.beq s t with
    | true => some d
    | false => ty r t

def TabOk (P : Program) (T : Tab) : Prop := ∀ t i, ty T t = some i → TIOk P t i

theorem TabOk.nil (P : Program) : TabOk P [] := fun t i h => by simp [ty] at h
theorem TabOk.cons {P : Program} {T : Tab} {s : Nat} {i : TI} (h : TIOk P s i) (hT : TabOk P T) : TabOk P ((s, i) :: T) := by
  intro t j hj
  simp only [ty] at hj
  split at hj
  · rename_i hb
    have := Nat.eq_of_beq_eq_true hb
    subst this
    cases hj
    exact h
  · exact hT t j hj

/-- what an operation must do -/
def OpOk (P : Program) (o : Oper) (σ : List (Nat × D)) (L : List Ob) (d : D) (L' : List Ob) : Prop :=
  ∀ (a : Act) (w : World) (ρ : Pl) (next : Act → World → Prop) (Q : Exit → Act → World → Prop),
    Fits w ρ L → Env w ρ L σ a →
    (∀ v w' ρ', Post w ρ L d L' v w' ρ' → next (a.put o.dst v) w') → o.wp P a w next Q

theorem OpOk.of_val {P : Program} {o : Oper} {σ : List (Nat × D)} {L : List Ob} {d : D} {L' : List Ob}
    (h : ∀ (a : Act) (w : World) (ρ : Pl), Fits w ρ L → Env w ρ L σ a →
      ∃ v w' ρ', (execOp a.eval o).run P w = .ok (.value v) w' ∧ Post w ρ L d L' v w' ρ') : OpOk P o σ L d L' := by
  intro a w ρ next Q hf he hn
  obtain ⟨v, w', ρ', hr, hp⟩ := h a w ρ hf he
  unfold Oper.wp
  rw [hr]
  exact hn _ _ _ hp

theorem OpOk.of_skip {P : Program} {o : Oper} {σ : List (Nat × D)} {L : List Ob} {L' : List Ob}
    (h : ∀ (a : Act) (w : World) (ρ : Pl), Fits w ρ L → Env w ρ L σ a →
      ∃ w' ρ', (execOp a.eval o).run P w = .ok .skip w' ∧ Post w ρ L .any L' undef w' ρ') : OpOk P o σ L .any L' := by
  intro a w ρ next Q hf he hn
  obtain ⟨w', ρ', hr, hp⟩ := h a w ρ hf he
  unfold Oper.wp
  rw [hr]
  exact hn _ _ _ hp

/-- an operation that only computes -/
theorem OpOk.of_pure {P : Program} {o : Oper} {σ : List (Nat × D)} {d : D}
    (h : ∀ (a : Act) (w : World) (ρ : Pl) (L : List Ob), Fits w ρ L → Env w ρ L σ a →
      ∃ v, (execOp a.eval o).run P w = .ok (.value v) w ∧ Rep w (foot ρ L) ρ L d v) : ∀ L, OpOk P o σ L d L := fun L =>
  .of_val fun a w ρ hf he =>
    let ⟨v, hr, hd⟩ := h a w ρ L hf he
    ⟨v, w, ρ, hr, .same hf hd⟩

/-! inversions -/
section
variable {w : World} {F : Nat → Nat → Prop} {ρ : Pl} {L : List Ob} {v : Value}
theorem Rep.int_inv {k : IntKind} {n : Int} (h : Rep w F ρ L (.int k n) v) : v = .int k n := by
  cases h with | pure _ _ h => cases h; rfl
theorem Rep.bool_inv {b : Bool} (h : Rep w F ρ L (.bool b) v) : v = .bool b := by
  cases h with | pure _ _ h => cases h; rfl
theorem Rep.tt_inv (h : Rep w F ρ L .tt v) : v = .bool true := by
  cases h with | pure _ _ h => cases h; rfl
theorem Rep.ff_inv (h : Rep w F ρ L .ff v) : v = .bool false := by
  cases h with | pure _ _ h => cases h; rfl
theorem Rep.str_inv {s : List UInt8} (h : Rep w F ρ L (.str s) v) : v = .string ⟨s.toArray⟩ := by
  cases h with | pure _ _ h => cases h; rfl
theorem Rep.agg_inv {ds : List D} (h : Rep w F ρ L (.agg ds) v) : ∃ vs : List Value, v = .agg vs.toArray ∧ vs.length = ds.length ∧
    ∀ (i : Nat) d u, ds[i]? = some d → vs[i]? = some u → Rep w F ρ L d u := by
  cases h with
  | pure _ _ h => cases h with | agg _ vs hl h => exact ⟨vs, rfl, hl, fun i d u h1 h2 => .pure _ _ (h i d u h1 h2)⟩
  | agg _ vs hl h => exact ⟨vs, rfl, hl, h⟩
theorem Rep.tup_inv {ds : List D} (h : Rep w F ρ L (.tup ds) v) : ∃ vs : List Value, v = .tuple vs.toArray ∧ vs.length = ds.length ∧
    ∀ (i : Nat) d u, ds[i]? = some d → vs[i]? = some u → Rep w F ρ L d u := by
  cases h with
  | pure _ _ h => cases h with | tup _ vs hl h => exact ⟨vs, rfl, hl, fun i d u h1 h2 => .pure _ _ (h i d u h1 h2)⟩
  | tup _ vs hl h => exact ⟨vs, rfl, hl, h⟩
theorem Rep.nilsl_inv (h : Rep w F ρ L .nilsl v) : ∃ a, v = .slice a 0 0 := by
  cases h with | pure _ _ h => cases h with | nilsl a => exact ⟨_, rfl⟩
theorem Rep.sl_inv {e : Nat} {ds : List D} {tok : Option Nat} (h : Rep w F ρ L (.sl e ds tok) v) : RepP w F (.sl e ds none) v := by
  cases h with
  | pure _ _ h => cases h <;> first | exact .slnil _ _ | exact .sl _ _ _ _ _ _ ‹_› ‹_› ‹_› ‹_› ‹_›
  | tok _ _ _ _ _ h _ => exact h
theorem Rep.osl_inv {e k n off len : Nat} (h : Rep w F ρ L (.osl e k n off len) v) : ∃ a cap, v = .slice a len cap ∧ k < L.length ∧ (len ≤ cap ∧ (a = none → cap = 0)) ∧
    ∀ e' ds, L[k]? = some (.arr e' ds) → e' = e ∧ n ≤ ds.length ∧ (ds.length = n → (cap = 0 ∨ a = none ∨ a = some ⟨(ρ k).block, (ρ k).off + off * e, none⟩) ∧ (off + cap) * e = (ρ k).cap ∧ off + len ≤ n) := by
  cases h with
  | pure _ _ h => cases h
  | osl _ _ _ _ _ a cap hk hc hm => exact ⟨a, cap, rfl, hk, hc, hm⟩
theorem Rep.loc_inv {k off : Nat} (h : Rep w F ρ L (.loc k off) v) : ∃ a, v = .pointer (some a) ∧ k < L.length ∧
    ∀ ds, L[k]? = some (.cells ds) → a = ⟨(ρ k).block, (ρ k).off + off, none⟩ := by
  cases h with
  | pure _ _ h => cases h
  | loc _ _ a hk hm => exact ⟨a, rfl, hk, hm⟩
theorem Rep.aloc_inv {k n i off : Nat} (h : Rep w F ρ L (.aloc k n i off) v) : ∃ a, v = .pointer (some a) ∧ k < L.length ∧
    ∀ e ds, L[k]? = some (.arr e ds) → n ≤ ds.length ∧ (ds.length = n → a = ⟨(ρ k).block, (ρ k).off + (i * e + off), none⟩) := by
  cases h with
  | pure _ _ h => cases h
  | aloc _ _ _ _ a hk hm => exact ⟨a, rfl, hk, hm⟩
theorem Rep.mp_inv {k : Nat} (h : Rep w F ρ L (.mp k) v) : ∃ r, v = .map (some r) ∧ k < L.length ∧ ∀ es, L[k]? = some (.map es) → r = (ρ k).block := by
  cases h with
  | pure _ _ h => cases h
  | mp _ r hk hm => exact ⟨r, rfl, hk, hm⟩
theorem Rep.ptr_inv {cs : List D} (h : Rep w F ρ L (.ptr cs) v) : ∃ b off, v = .pointer (some ⟨b, off, none⟩) ∧
    ∀ (j : Nat) c, cs[j]? = some c → ∃ u, w.cell? ⟨b, off + j, none⟩ = some u ∧ ¬ F b (off + j) ∧ RepP w F c u := by
  cases h with
  | pure _ _ h => cases h with
    | ptr _ b off val hc h => exact ⟨b, off, rfl, fun j c hj => ⟨_, (hc j c hj).1, (hc j c hj).2, h j c hj⟩⟩
theorem Rep.fn_inv {f : Nat} {ds : List D} (h : Rep w F ρ L (.fn f ds) v) : ∃ vs : List Value, v = .func (.func f) #[] vs.toArray ∧ vs.length = ds.length ∧
    ∀ (i : Nat) d u, ds[i]? = some d → vs[i]? = some u → Rep w F ρ L d u := by
  cases h with
  | pure _ _ h => cases h with | fn _ _ vs hl h => exact ⟨vs, rfl, hl, fun i d u h1 h2 => .pure _ _ (h i d u h1 h2)⟩
  | fn _ _ vs hl h => exact ⟨vs, rfl, hl, h⟩
/-- a slice's shape -/
theorem RepP.sl_shape {e : Nat} {ds : List D} (h : RepP w F (.sl e ds none) v) : (ds = [] ∧ ∃ a, v = .slice a 0 0) ∨
    ∃ b off cap, v = .slice (some ⟨b, off, none⟩) ds.length cap ∧ ds.length ≤ cap ∧ (∀ (i : Nat) d, ds[i]? = some d → d.cells.length = e) ∧
      ∀ (i : Nat) d (j : Nat) c, ds[i]? = some d → d.cells[j]? = some c → ∃ u, w.cell? ⟨b, off + (i * e + j), none⟩ = some u ∧ ¬ F b (off + (i * e + j)) ∧ RepP w F c u := by
  cases h with
  | slnil _ a => exact .inl ⟨rfl, a, rfl⟩
  | sl _ _ b off cap val hcap hlen hcell _ h => exact .inr ⟨b, off, cap, rfl, hcap, hlen, fun i d j c h1 h2 => ⟨_, (hcell i d j c h1 h2).1, (hcell i d j c h1 h2).2, h i d j c h1 h2⟩⟩
theorem RepP.sl_one {e : Nat} {ds : List D} {a : Addr} {len cap : Nat} (h : RepP w F (.sl e ds none) (.slice (some a) len cap)) : ∀ (i : Nat) d (j : Nat) c u, ds[i]? = some d → d.cells[j]? = some c →
    w.cell? ⟨a.block, a.off + (i * e + j), none⟩ = some u → u.oneCell' = true := by
  cases h with
  | slnil => intro i d j c u h1; simp at h1
  | sl _ _ b off cap val hcap hlen hcell hone h =>
    intro i d j c u h1 h2 h3
    rw [(hcell i d j c h1 h2).1] at h3
    cases h3
    exact hone i d j c h1 h2
end

end Go.Plat
