/-
  Comparing structs, truth values, and what may be nil.
-/
import Derived.Test.YtgmlcpmkonagcaaPlFw10
import Derived.Laws.StructEq
namespace Go.Plat
open Go
set_option linter.unusedVariables false
set_option linter.unusedSimpArgs false

/-- two structs of this type, of these cells, compared -/
def EqS (P : Program) (t : Nat) (xs ys : List D) (K : Bool → Prop) : Prop :=
  P.eqGuardType P.depth t = false ∧ ∃ b, (∀ (w : World) (F : Nat → Nat → Prop) (ρ : Pl) (L : List Ob) (us vs : List Value), us.length = xs.length → vs.length = ys.length →
    (∀ (i : Nat) d v, xs[i]? = some d → us[i]? = some v → Rep w F ρ L d v) → (∀ (i : Nat) d v, ys[i]? = some d → vs[i]? = some v → Rep w F ρ L d v) →
    (Op.equalIn 10000 t (.agg us.toArray) (.agg vs.toArray)).run P w = .ok b w) ∧ K b

/-- which of both is nil: none of them known to be, or whether both are -/
def nilB : D → Option Bool
  | .nilif => some true
  | .iface _ _ => some false
  | _ => none

def boolB : D → Option Bool
  | .bool b => some b
  | .tt => some true
  | .ff => some false
  | _ => none

def eqvK (op : BinOp) (b : Bool) (K : D → Prop) : Prop :=
  match op with
  | .eql => K (.bool b)
  | .neq => K (.bool (!b))
  | _ => False

def TD.isBool : TD → Bool
  | .bool => true
  | _ => false

/-- what is not a number, nor a string -/
def cmpK (P : Program) (T : Tab) (op : BinOp) (t : Nat) (x y : D) (K : D → Prop) : Prop :=
  match x with
  | .agg xs => match y with
    | .agg ys => match op with
      | .eql => VS (EqS P t xs ys fun b => K (.bool b))
      | .neq => VS (EqS P t xs ys fun b => K (.bool (!b)))
      | _ => False
    | _ => False
  | _ => match ty T t with
    | some i => match i.d with
      | .bool => match boolB x with
        | some a => match boolB y with
          | some b => eqvK op (a == b) K
          | none => False
        | none => False
      | _ => False
    | none => False

def binTK (P : Program) (T : Tab) (op : BinOp) (t : Nat) (x y : D) (K : D → Prop) : Prop :=
  match x with
  | .int k a => binK op (.int k a) y K
  | .str s => binK op (.str s) y K
  | x => cmpK P T op t x y K

theorem boolB_inv {d : D} {b : Bool} (h : boolB d = some b) {w : World} {F : Nat → Nat → Prop} {ρ : Pl} {L : List Ob} {v : Value} (hr : Rep w F ρ L d v) : v = .bool b := by
  cases d <;> simp only [boolB] at h <;> cases h
  · exact hr.bool_inv
  · exact hr.tt_inv
  · exact hr.ff_inv

theorem under_bool {P : Program} {t : Nat} {i : TI} (hi : TIOk P t i) (h : i.d = .bool) : P.underlying t = some .bool := by
  obtain ⟨d, h1, h2⟩ := hi.under
  rw [h] at h2
  cases d <;> simp [tdOf] at h2
  exact h1

theorem binTK_sound {P : Program} {T : Tab} (hT : TabOk P T) {op : BinOp} {t t' : TypeId} {x y : Operand} {σ : List (Nat × D)} {K : D → Prop} {o : Oper} (ho : o.op = .binOp op t x y t')
    (h : binTK P T op t (evalD σ x) (evalD σ y) K) : ∃ d, (∀ L, OpOk P o σ L d L) ∧ K d := by
  unfold binTK at h
  split at h
  · rename_i k a hx
    rw [← hx] at h
    exact binK_sound ho h
  · rename_i s hx
    rw [← hx] at h
    exact binK_sound ho h
  · unfold cmpK at h
    split at h
    · rename_i xs hx
      split at h <;> try exact h.elim
      rename_i ys hy
      have core : ∀ (b : Bool), (∀ (w : World) (F : Nat → Nat → Prop) (ρ : Pl) (L : List Ob) (us vs : List Value), us.length = xs.length → vs.length = ys.length →
          (∀ (i : Nat) d v, xs[i]? = some d → us[i]? = some v → Rep w F ρ L d v) → (∀ (i : Nat) d v, ys[i]? = some d → vs[i]? = some v → Rep w F ρ L d v) →
          (Op.equalIn 10000 t (.agg us.toArray) (.agg vs.toArray)).run P w = .ok b w) → P.eqGuardType P.depth t = false →
          ∀ (a : Act) (w : World) (ρ : Pl) (L : List Ob), Env w ρ L σ a → ∃ us vs : Array Value, a.eval x = .agg us ∧ a.eval y = .agg vs ∧ (eqGuard op t x y (.agg us) (.agg vs)).run P w = .ok () w ∧
            (Op.equalIn 10000 t (.agg us) (.agg vs)).run P w = .ok b w := by
        intro b hb hg a w ρ L he
        have h1 := he.eval x
        have h2 := he.eval y
        rw [hx] at h1
        rw [hy] at h2
        obtain ⟨us, e1, l1, r1⟩ := h1.agg_inv
        obtain ⟨vs, e2, l2, r2⟩ := h2.agg_inv
        exact ⟨_, _, e1, e2, run_eqGuard_agg w op t x y _ _ hg, hb w _ ρ L us vs l1 l2 r1 r2⟩
      split at h <;> try exact h.elim
      · obtain ⟨hg, b, hb, hK⟩ := h.out
        refine ⟨_, OpOk.of_pure fun a w ρ L hf he => ?_, hK⟩
        obtain ⟨us, vs, e1, e2, e3, e4⟩ := core b hb hg a w ρ L he
        refine ⟨.bool b, ?_, .pure _ _ (.bool _)⟩
        simp only [execOp, ho, e1, e2, Sem.run_bind, e3, Result.andThen_ok, run_eql_struct, e4, Result.andThen, Sem.run_map, Sem.run_pure]
      · obtain ⟨hg, b, hb, hK⟩ := h.out
        refine ⟨_, OpOk.of_pure fun a w ρ L hf he => ?_, hK⟩
        obtain ⟨us, vs, e1, e2, e3, e4⟩ := core b hb hg a w ρ L he
        refine ⟨.bool (!b), ?_, .pure _ _ (.bool _)⟩
        simp only [execOp, ho, e1, e2, Sem.run_bind, e3, Result.andThen_ok, run_neq_struct, e4, Result.andThen, Sem.run_map, Sem.run_pure]
    · split at h <;> try exact h.elim
      rename_i i hi
      have hi := hT _ _ hi
      split at h <;> try exact h.elim
      rename_i hd
      have hu := under_bool hi hd
      split at h <;> try exact h.elim
      rename_i a ha
      split at h <;> try exact h.elim
      rename_i b hb
      have ev : ∀ {act : Act} {w ρ L}, Env w ρ L σ act → act.eval x = .bool a ∧ act.eval y = .bool b := fun he => ⟨boolB_inv ha (he.eval x), boolB_inv hb (he.eval y)⟩
      have hgd : ∀ (op : BinOp) (w : World), (eqGuard op t x y (.bool a) (.bool b)).run P w = .ok () w := fun op w => by
        unfold eqGuard
        cases op <;> rfl
      unfold eqvK at h
      split at h <;> try exact h.elim
      · refine ⟨_, OpOk.of_pure fun act w ρ L hf he => ?_, h⟩
        obtain ⟨e1, e2⟩ := ev he
        refine ⟨.bool (a == b), ?_, .pure _ _ (.bool _)⟩
        simp [execOp, ho, e1, e2, hgd, binOp, Op.equal, Op.maxDepth, run_equalIn_bool w 9999 t a b hu]
      · refine ⟨_, OpOk.of_pure fun act w ρ L hf he => ?_, h⟩
        obtain ⟨e1, e2⟩ := ev he
        refine ⟨.bool (!(a == b)), ?_, .pure _ _ (.bool _)⟩
        simp [execOp, ho, e1, e2, hgd, binOp, Op.equal, Op.maxDepth, run_equalIn_bool w 9999 t a b hu]

/-- kinds of cells -/
inductive CK where
  | int (k : IntKind)
  | str
  | bool

def fldsB (P : Program) : List Field → Nat → List CK → Bool
  | [], _, [] => true
  | f :: fs, n, k :: ks => (f.name != "_") && (Nat.beq f.offset n) && (match P.underlying f.type, k with
    | some (.int q), .int k => kindEq q k
    | some .string, .str => true
    | some .bool, .bool => true
    | _, _ => false) && fldsB P fs (n + 1) ks
  | _, _, _ => false

def structB (P : Program) (t : Nat) (ks : List CK) : Bool :=
  (P.eqGuardType P.depth t == false) && (P.stoodInHeld t == false) && (match P.underlying t with
    | some (.struct fs) => fldsB P fs.toList 0 ks
    | _ => false)

def scalB : CK → D → D → Option Bool
  | .int k, .int k1 a, .int k2 b => match kindEq k k1 with
    | true => match kindEq k k2 with
      | true => some (a == b)
      | false => none
    | false => none
  | .str, .str s, .str t => some (s == t)
  | .bool, a, b => match boolB a with
    | some a => match boolB b with
      | some b => some (a == b)
      | none => none
    | none => none
  | _, _, _ => none

def cellsB : List CK → List D → List D → Option Bool
  | [], [], [] => some true
  | k :: ks, x :: xs, y :: ys => match scalB k x y with
    | some b => match cellsB ks xs ys with
      | some r => some (b && r)
      | none => none
    | none => none
  | _, _, _ => none

theorem eqFields_flat {P : Program} (d : Nat) : ∀ (fs : List Field) (n : Nat) (ks : List CK) (xs ys : List D) (b : Bool) (us vs : Array Value), fldsB P fs n ks = true → cellsB ks xs ys = some b →
    ∀ (w : World) (F : Nat → Nat → Prop) (ρ : Pl) (L : List Ob), (∀ (i : Nat) d, xs[i]? = some d → ∃ v, us[n + i]? = some v ∧ Rep w F ρ L d v) → (∀ (i : Nat) d, ys[i]? = some d → ∃ v, vs[n + i]? = some v ∧ Rep w F ρ L d v) →
    (Op.eqFields (d + 1) us vs fs).run P w = .ok b w
  | [], n, [], [], [], b, us, vs, _, h, w, F, ρ, L, _, _ => by
    simp only [cellsB] at h
    cases h
    simp [Op.eqFields]
  | [], n, k :: ks, xs, ys, b, us, vs, h, _, w, F, ρ, L, _, _ => by simp [fldsB] at h
  | f :: fs, n, [], xs, ys, b, us, vs, h, _, w, F, ρ, L, _, _ => by simp [fldsB] at h
  | [], n, [], x :: xs, ys, b, us, vs, _, h, w, F, ρ, L, _, _ => by simp [cellsB] at h
  | [], n, [], [], y :: ys, b, us, vs, _, h, w, F, ρ, L, _, _ => by simp [cellsB] at h
  | f :: fs, n, k :: ks, [], ys, b, us, vs, _, h, w, F, ρ, L, _, _ => by simp [cellsB] at h
  | f :: fs, n, k :: ks, x :: xs, [], b, us, vs, _, h, w, F, ρ, L, _, _ => by simp [cellsB] at h
  | f :: fs, n, k :: ks, x :: xs, y :: ys, b, us, vs, h, hb, w, F, ρ, L, hu, hv => by
    simp only [fldsB, Bool.and_eq_true, bne_iff_ne] at h
    obtain ⟨⟨⟨h1, h2⟩, h3⟩, h4⟩ := h
    have h2 := Nat.eq_of_beq_eq_true h2
    simp only [cellsB] at hb
    split at hb <;> try cases hb
    rename_i b1 hs
    split at hb <;> try cases hb
    rename_i b2 hr
    obtain ⟨u, u1, u2⟩ := hu 0 x rfl
    obtain ⟨v, v1, v2⟩ := hv 0 y rfl
    have rest := eqFields_flat d fs (n + 1) ks xs ys b2 us vs h4 hr w F ρ L (fun i d hd => by
      obtain ⟨v, g1, g2⟩ := hu (i + 1) d (by simpa using hd)
      exact ⟨v, by rw [← g1]; congr 1; omega, g2⟩) (fun i d hd => by
      obtain ⟨v, g1, g2⟩ := hv (i + 1) d (by simpa using hd)
      exact ⟨v, by rw [← g1]; congr 1; omega, g2⟩)
    have p : ∀ (q : TypeDesc) (cs : Array Value) (v : Value), P.underlying f.type = some q → (match q with | .int _ | .string | .bool => True | _ => False) → cs[n]? = some v → (part f.type cs f.offset).run P w = .ok v w := fun q cs v hk hq hv => by
      have : (isAgg f.type).run P w = .ok false w := by cases q <;> simp [isAgg, run_underlying hk] at hq ⊢
      rw [h2]
      simp [part, this, hv]
    have key : ∃ q, P.underlying f.type = some q ∧ (match q with | .int _ | .string | .bool => True | _ => False) ∧ (Op.equalIn (d + 1) f.type u v).run P w = .ok b1 w := by
      split at h3 <;> try cases h3
      · rename_i q k' hq
        have h3 := kindEq_eq h3
        subst h3
        refine ⟨_, hq, trivial, ?_⟩
        cases x <;> simp only [scalB] at hs <;> try cases hs
        cases y <;> simp only [scalB] at hs <;> try cases hs
        split at hs <;> try cases hs
        rename_i e1
        split at hs <;> try cases hs
        rename_i e2
        rw [← kindEq_eq e1] at u2
        rw [← kindEq_eq e2] at v2
        rw [u2.int_inv, v2.int_inv]
        exact run_equalIn_int w d f.type _ _ _ _ hq
      · rename_i hq
        refine ⟨_, hq, trivial, ?_⟩
        cases x <;> simp only [scalB] at hs <;> try cases hs
        cases y <;> simp only [scalB] at hs <;> try cases hs
        rw [u2.str_inv, v2.str_inv, run_equalIn_string w d f.type _ _ hq, ByteArray.toList_mk, ByteArray.toList_mk]
      · rename_i hq
        refine ⟨_, hq, trivial, ?_⟩
        simp only [scalB] at hs
        split at hs <;> try cases hs
        rename_i a ha
        split at hs <;> try cases hs
        rename_i c hc
        rw [boolB_inv ha u2, boolB_inv hc v2]
        exact run_equalIn_bool w d f.type a c hq
    obtain ⟨q, hq, hq2, hkey⟩ := key
    simp only [Op.eqFields, h1, ne_eq, not_false_eq_true, if_true, Sem.run_bind]
    rw [p q us u hq hq2 (by simpa using u1)]
    simp only [Result.andThen_ok, Sem.run_bind]
    rw [p q vs v hq hq2 (by simpa using v1)]
    simp only [Result.andThen_ok, Sem.run_bind, hkey]
    cases b1
    · simp
    · simpa using rest

/-- structs of numbers, strings and truth values -/
theorem eqS_flat {P : Program} {t : Nat} {xs ys : List D} {K : Bool → Prop} (ks : List CK) {b : Bool} (hst : structB P t ks = true) (hb : cellsB ks xs ys = some b) (h : K b) : EqS P t xs ys K := by
  simp only [structB, Bool.and_eq_true, beq_iff_eq] at hst
  obtain ⟨⟨h1, h2⟩, h3⟩ := hst
  split at h3 <;> try cases h3
  rename_i fs hu
  refine ⟨h1, b, fun w F ρ L us vs l1 l2 r1 r2 => ?_, h⟩
  have hf : P.fieldsOf t = fs := by simp [Program.fieldsOf, hu]
  rw [show (10000 : Nat) = 9998 + 1 + 1 from rfl, run_equalIn_agg w (9998 + 1) t _ _ (by rw [hf]; exact hu) h2, hf]
  refine eqFields_flat 9998 fs.toList 0 ks xs ys b _ _ h3 hb w F ρ L (fun i d hd => ?_) (fun i d hd => ?_)
  · have hlt : i < us.length := by rw [l1]; exact (List.getElem?_eq_some_iff.1 hd).1
    exact ⟨us[i], by simp [hlt], r1 i d _ hd (List.getElem?_eq_getElem hlt)⟩
  · have hlt : i < vs.length := by rw [l2]; exact (List.getElem?_eq_some_iff.1 hd).1
    exact ⟨vs[i], by simp [hlt], r2 i d _ hd (List.getElem?_eq_getElem hlt)⟩

end Go.Plat
