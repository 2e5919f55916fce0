/-
  len, min, max, closures, slices of literals, make, bytes and strings.
-/
import Derived.Test.YtgmlcpmkonagcaaPlFw6
import Derived.Laws.MakeOwn
namespace Go.Plat
open Go
set_option linter.unusedVariables false
set_option linter.unusedSimpArgs false

/-! builtins that only compute -/
def lenK (x : D) (K : D → Prop) : Prop :=
  match x with
  | .str s => K (.int .i64 s.length)
  | .sl _ ds _ => K (.int .i64 ds.length)
  | .nilsl => K (.int .i64 0)
  | .osl _ _ _ _ len => K (.int .i64 len)
  | .nilmap => K (.int .i64 0)
  | _ => False

def lenOp (T : Tab) (t : Nat) (x : D) (K : D → Prop) : Prop :=
  match ty T t with
  | some i => match i.d with
    | .str => match x with
      | .str s => K (.int .i64 s.length)
      | _ => False
    | .slice _ => match x with
      | .sl _ ds _ => VS (NormL ds fun _ n => K (.int .i64 n))
      | .nilsl => K (.int .i64 0)
      | .osl _ _ _ _ len => K (.int .i64 len)
      | _ => False
    | .arr n _ => K (.int .i64 n)
    | _ => False
  | none => False

theorem resolve_builtin {P : Program} {w : World} {ρ : Operand → Value} {b : Builtin} {args : Array Operand} {ts : Array TypeId} {type : TypeId} :
    (resolve ρ { callee := .builtin b, args := args, argTypes := ts } type).run P w =
      .ok { target := .builtin b ts type (args.map fun | .const _ => true | _ => false), args := args.map ρ } w := rfl

theorem exec_builtin {P : Program} {w w' : World} {a : Act} {o : Oper} {b : Builtin} {args : Array Operand} {ts : Array TypeId} {n : Next}
    (ho : o.op = .call { callee := .builtin b, args := args, argTypes := ts })
    (h : (builtin b ts o.type (args.map fun | .const _ => true | _ => false) (args.map a.eval)).run P w = .ok n w') : (execOp a.eval o).run P w = .ok n w' := by
  simp only [execOp, ho, Sem.run_bind, resolve_builtin, Result.andThen, invoke]
  exact h

theorem len_sound {P : Program} {T : Tab} (hT : TabOk P T) {t : Nat} {x : Operand} {σ : List (Nat × D)} {K : D → Prop} {o : Oper}
    (ho : o.op = .call { callee := .builtin .len, args := #[x], argTypes := #[t] }) (h : lenOp T t (evalD σ x) K) : ∃ d, (∀ L, OpOk P o σ L d L) ∧ K d := by
  unfold lenOp at h
  split at h <;> try exact h.elim
  rename_i i hi
  have hi := hT _ _ hi
  split at h <;> try exact h.elim
  · rename_i hd
    have hu := under_str hi hd
    split at h <;> try exact h.elim
    rename_i s hx
    refine ⟨_, OpOk.of_pure fun a w ρ L hf he => ?_, h⟩
    have hv := he.eval x
    rw [hx] at hv
    refine ⟨.int .i64 s.length, exec_builtin ho ?_, .pure _ _ (.int _ _)⟩
    simp [builtin, Builtin.len_, run_underlying hu, hv.str_inv, goInt, size_mk]
  · rename_i e hd
    have hu := under_slice hi hd
    split at h <;> try exact h.elim
    · rename_i e' ds tok hx
      have h := VS.out h
      unfold NormL at h
      refine ⟨_, OpOk.of_pure fun a w ρ L hf he => ?_, h⟩
      have hv := he.eval x
      rw [hx] at hv
      refine ⟨.int .i64 ds.length, exec_builtin ho ?_, .pure _ _ (.int _ _)⟩
      rcases hv.sl_inv.sl_shape with ⟨h4, ad, h5⟩ | ⟨b, off, cap, h5, h4, h6, h7⟩
      · simp [builtin, Builtin.len_, run_underlying hu, h4, h5, goInt]
      · simp [builtin, Builtin.len_, run_underlying hu, h5, goInt]
    · rename_i hx
      refine ⟨_, OpOk.of_pure fun a w ρ L hf he => ?_, h⟩
      have hv := he.eval x
      rw [hx] at hv
      obtain ⟨ad, hv⟩ := hv.nilsl_inv
      refine ⟨.int .i64 0, exec_builtin ho ?_, .pure _ _ (.int _ _)⟩
      simp [builtin, Builtin.len_, run_underlying hu, hv, goInt]
    · rename_i e' k n off len hx
      refine ⟨_, OpOk.of_pure fun a w ρ L hf he => ?_, h⟩
      have hv := he.eval x
      rw [hx] at hv
      obtain ⟨ad, cap, hv, _⟩ := hv.osl_inv
      refine ⟨.int .i64 len, exec_builtin ho ?_, .pure _ _ (.int _ _)⟩
      simp [builtin, Builtin.len_, run_underlying hu, hv, goInt]
  · rename_i n e hd
    have hu := under_arr hi hd
    refine ⟨_, OpOk.of_pure fun a w ρ L hf he => ?_, h⟩
    refine ⟨.int .i64 n, exec_builtin ho ?_, .pure _ _ (.int _ _)⟩
    simp [builtin, Builtin.len_, run_underlying hu, goInt]

def minMaxK (isMax : Bool) (x y : D) (K : D → Prop) : Prop :=
  match x with
  | .int k a => match y with
    | .int _ b => K (.int k (match isMax with | true => max a b | false => min a b))
    | _ => False
  | _ => False

theorem minMax_sound {P : Program} {isMax : Bool} {ts : Array TypeId} {x y : Operand} {σ : List (Nat × D)} {K : D → Prop} {o : Oper}
    (ho : o.op = .call { callee := .builtin (match isMax with | true => .max | false => .min), args := #[x, y], argTypes := ts }) (h : minMaxK isMax (evalD σ x) (evalD σ y) K) : ∃ d, (∀ L, OpOk P o σ L d L) ∧ K d := by
  unfold minMaxK at h
  split at h <;> try exact h.elim
  rename_i k a hx
  split at h <;> try exact h.elim
  rename_i k' b hy
  refine ⟨_, OpOk.of_pure fun act w ρ L hf he => ?_, h⟩
  have h1 := he.eval x
  have h2 := he.eval y
  rw [hx] at h1
  rw [hy] at h2
  refine ⟨_, exec_builtin ho ?_, .pure _ _ (.int _ _)⟩
  cases isMax
  · simp only [builtin, Builtin.min_, h1.int_inv, h2.int_inv, List.map_toArray, List.map_cons, List.map_nil, List.foldlM_cons, List.foldlM_nil, Builtin.min2, Sem.run_bind]
    simp
    omega
  · simp only [builtin, Builtin.max_, h1.int_inv, h2.int_inv, List.map_toArray, List.map_cons, List.map_nil, List.foldlM_cons, List.foldlM_nil, Builtin.max2, Sem.run_bind]
    simp
    omega

/-! closures -/
def evalLK (σ : List (Nat × D)) : List Operand → (List D → Prop) → Prop
  | [], K => K []
  | x :: xs, K => forceD (evalD σ x) fun d => evalLK σ xs fun ds => K (d :: ds)

theorem evalLK_eq {σ : List (Nat × D)} : ∀ {xs : List Operand} {K : List D → Prop}, evalLK σ xs K → K (xs.map (evalD σ))
  | [], K, h => by simpa [evalLK] using h
  | x :: xs, K, h => by
    simp only [evalLK] at h
    simpa using evalLK_eq (forceD_eq h)

def makeFuncK (fn : Fn) (first captured : List Operand) (σ : List (Nat × D)) (K : D → Prop) : Prop :=
  match fn with
  | .func f => match first with
    | [] => evalLK σ captured fun ds => K (.fn f ds)
    | _ => False
  | _ => False

theorem Env.evalL {w : World} {ρ : Pl} {L : List Ob} {σ : List (Nat × D)} {a : Act} (h : Env w ρ L σ a) (xs : List Operand) :
    ∀ (i : Nat) d v, (xs.map (evalD σ))[i]? = some d → (xs.map a.eval)[i]? = some v → Rep w (foot ρ L) ρ L d v := by
  intro i d v h1 h2
  simp only [List.getElem?_map, Option.map_eq_some_iff] at h1 h2
  obtain ⟨x, h3, rfl⟩ := h1
  obtain ⟨y, h4, rfl⟩ := h2
  rw [h3] at h4
  cases h4
  exact h.eval x

theorem makeFunc_sound {P : Program} {fn : Fn} {first captured : Array Operand} {σ : List (Nat × D)} {K : D → Prop} {o : Oper}
    (ho : o.op = .makeFunc fn first captured) (h : makeFuncK fn first.toList captured.toList σ K) : ∃ d, (∀ L, OpOk P o σ L d L) ∧ K d := by
  unfold makeFuncK at h
  split at h <;> try exact h.elim
  rename_i f
  split at h <;> try exact h.elim
  rename_i hfirst
  refine ⟨_, OpOk.of_pure fun a w ρ L hf he => ?_, evalLK_eq h⟩
  have hfe : first = #[] := by cases first; simp at hfirst; rw [hfirst]
  subst hfe
  refine ⟨.func (.func f) #[] (captured.toList.map a.eval).toArray, ?_, .fn _ _ _ (by simp) (he.evalL _)⟩
  simp [execOp, ho, Instr.makeFunc]
  apply Array.ext'
  simp

/-! new slices that stay -/
theorem newRow_run {P : Program} {w : World} {e : TypeId} {cells : Array Value} : (newRow e cells).run P w = .ok ⟨w.heap.size, 0, none⟩ (w.alloc (.cells cells e)) := by
  rfl

theorem newSl_rep {w : World} {ρ : Pl} {L : List Ob} (hf : Fits w ρ L) (arr : Array Value) (t : TypeId) (e : Nat) (els : List D) (cap : Nat) (hcap : els.length ≤ cap)
    (hlen : ∀ (i : Nat) d, els[i]? = some d → d.cells.length = e)
    (hv : ∀ (i : Nat) d (j : Nat) c, els[i]? = some d → d.cells[j]? = some c → ∃ v, arr[i * e + j]? = some v ∧ RepP w (foot ρ L) c v ∧ v.oneCell' = true) :
    RepP (w.alloc (.cells arr t)) (foot ρ L) (.sl e els none) (.slice (some ⟨w.heap.size, 0, none⟩) els.length cap) := by
  refine .sl _ _ _ _ _ (fun i j => (arr[i * e + j]?).getD undef) hcap hlen (fun i d j c hi hj => ?_) (fun i d j c hi hj => ?_) fun i d j c hi hj => ?_
  · obtain ⟨v, h1, h2, _⟩ := hv i d j c hi hj
    refine ⟨?_, fun hF => by have := hf.foot_lt hF; omega⟩
    rw [Nat.zero_add, World.cell?_alloc_new, h1]
    rfl
  · obtain ⟨v, h1, _, h3⟩ := hv i d j c hi hj
    rw [h1]
    exact h3
  · obtain ⟨v, h1, h2, _⟩ := hv i d j c hi hj
    rw [h1]
    exact h2.keep (Ext.alloc w _).grow (.refl _ _)

def oneD : D → Bool
  | .agg _ => false
  | .tup _ => false
  | .any => false
  | _ => true
def allOne : List D → Bool
  | [] => true
  | d :: ds => match oneD d with
    | true => allOne ds
    | false => false

theorem oneD_cell {w : World} {F : Nat → Nat → Prop} {ρ : Pl} {L : List Ob} {d : D} {v : Value} (h : Rep w F ρ L d v) (hd : oneD d = true) : v.oneCell' = true := by
  cases h with
  | pure _ _ h => cases h <;> first | rfl | simp [oneD] at hd
  | agg => simp [oneD] at hd
  | tup => simp [oneD] at hd
  | tok _ _ _ _ _ h _ => cases h <;> rfl
  | _ => rfl

theorem allOne_mem : ∀ {ds : List D}, allOne ds = true → ∀ (j : Nat) d, ds[j]? = some d → oneD d = true
  | [], _, j, d, h => by simp at h
  | c :: ds, h, j, d, hj => by
    simp only [allOne] at h
    split at h <;> try cases h
    cases j with
    | zero => simp at hj; subst hj; assumption
    | succ j => exact allOne_mem h j d (by simpa using hj)

/-- elements, one by one, each of so many cells -/
def elemsK (es : Nat) (σ : List (Nat × D)) : Nat → List (Nat × Operand) → (List D → Prop) → Prop
  | _, [], K => K []
  | n, (i, x) :: rest, K => match Nat.beq i n with
    | true => stripK (evalD σ x) fun d => cellsK d fun cs => match Nat.beq cs.length es with
      | true => match allOne cs with
        | true => elemsK es σ (n + 1) rest fun ds => K (d :: ds)
        | false => False
      | false => False
    | false => False

theorem elemsK_eq {es : Nat} {σ : List (Nat × D)} : ∀ {ps : List (Nat × Operand)} {n : Nat} {K : List D → Prop}, elemsK es σ n ps K →
    ∃ ds, K ds ∧ ds.length = ps.length ∧ ∀ (i : Nat) p d, ps[i]? = some p → ds[i]? = some d → p.1 = n + i ∧ d.cells.length = es ∧ d ≠ .any ∧ PureOf (evalD σ p.2) d ∧ allOne d.cells = true
  | [], n, K, h => ⟨[], by simpa [elemsK] using h, rfl, by simp⟩
  | (i, x) :: ps, n, K, h => by
    simp only [elemsK] at h
    split at h <;> try exact h.elim
    rename_i hin
    have hin := Nat.eq_of_beq_eq_true hin
    obtain ⟨d, h1, h2⟩ := stripK_eq h
    have hany := cellsK_any h2
    have h2 := cellsK_eq h2
    split at h2 <;> try exact h2.elim
    rename_i hl
    have hl := Nat.eq_of_beq_eq_true hl
    split at h2 <;> try exact h2.elim
    rename_i hone
    obtain ⟨ds, h3, h4, h5⟩ := elemsK_eq h2
    refine ⟨d :: ds, h3, by simp [h4], fun q p d' hp hd => ?_⟩
    cases q with
    | zero =>
      simp at hp hd
      subst hp; subst hd
      exact ⟨hin, hl, hany, h1, hone⟩
    | succ q =>
      obtain ⟨h6, h7⟩ := h5 q p d' (by simpa using hp) (by simpa using hd)
      exact ⟨by omega, h7⟩

def buildSliceOp (T : Tab) (t len : Nat) (ps : List (Nat × Operand)) (σ : List (Nat × D)) (K : D → Prop) : Prop :=
  match ty T t with
  | some i => match i.d with
    | .slice e => match ty T e with
      | some j => match len with
        | 0 => match ps with
          | [] => K .nilsl
          | _ => False
        | len + 1 => match Nat.beq ps.length (len + 1) with
          | true => match Nat.ble ((len + 1) * j.size) 16777216 with
            | true => elemsK j.size σ 0 ps fun ds => K (.sl j.size ds none)
            | false => False
          | false => False
      | none => False
    | _ => False
  | none => False

/-- the cells of rows of values, put one behind the other -/
theorem fill_rows (e : Nat) (he : 0 < e) : ∀ (vs : List Value) (n : Nat) (cells : List Value), (∀ v ∈ vs, v.cells.size = e) → (n + vs.length) * e ≤ cells.length →
    ∃ cs : List Value, Instr.fill (fun i => some (i * e, e)) cells.toArray ((vs.zipIdx n).map fun p => (p.2, p.1)) = some cs.toArray ∧ cs.length = cells.length ∧
      (∀ (k : Nat), k < n * e → cs[k]? = cells[k]?) ∧ ∀ (i : Nat) v (j : Nat), vs[i]? = some v → j < e → cs[(n + i) * e + j]? = v.cells[j]?
  | [], n, cells, h1, h2 => ⟨cells, by simp [Instr.fill], rfl, fun _ _ => rfl, by simp⟩
  | v :: vs, n, cells, h1, h2 => by
    have hv : v.cells.size = e := h1 v (by simp)
    have hle : n * e + e ≤ cells.length := by
      have : (n + (vs.length + 1)) * e = n * e + vs.length * e + e := by rw [← Nat.add_assoc, Nat.add_mul, Nat.add_mul, Nat.one_mul]
      simp only [List.length_cons] at h2
      omega
    obtain ⟨cs, h3, h4, h5, h6⟩ := fill_rows e he vs (n + 1) (setAt (n * e) v.cells.toList cells) (fun u hu => h1 u (by simp [hu])) (by
      rw [setAt_length]; simp only [List.length_cons] at h2; rwa [show n + 1 + vs.length = n + (vs.length + 1) by omega])
    refine ⟨cs, ?_, by rw [h4, setAt_length], fun k hk => ?_, fun i u j hi hj => ?_⟩
    · rw [List.zipIdx_cons, List.map_cons, fill_cons _ _ n v _ (n * e) e rfl hv (by simpa using hle)]
      exact h3
    · rw [h5 k (by rw [Nat.add_mul]; omega), setAt_get _ _ _ _ (by simp [hv]; omega), if_neg (by omega)]
    · cases i with
      | zero =>
        simp at hi
        subst hi
        rw [Nat.add_zero, h5 _ (by rw [Nat.add_mul]; omega), setAt_get _ _ _ _ (by simp [hv]; omega), if_pos (by simp [hv]; omega), Nat.add_sub_cancel_left]
        simp
      | succ i =>
        rw [show n + (i + 1) = n + 1 + i by omega]
        exact h6 i u j (by simpa using hi) hj

theorem pureOf_cells {w : World} {F : Nat → Nat → Prop} {ρ : Pl} {L : List Ob} {d d' : D} {v : Value} (h : PureOf d d') (hr : Rep w F ρ L d v) (hany : d' ≠ .any) :
    v.cells.size = d'.cells.length ∧ ∀ (j : Nat) c u, d'.cells[j]? = some c → v.cells[j]? = some u → RepP w F c u := by
  have hp := h.2 _ _ _ _ _ hr
  cases d' with
  | any => exact (hany rfl).elim
  | agg ds =>
    cases hp with
    | agg _ vs hl hh => exact ⟨by simpa [Value.cells, D.cells] using hl, fun j c u h3 h4 => hh j c u h3 (by simpa [Value.cells] using h4)⟩
  | _ =>
    have key : v.cells = #[v] := by cases hp <;> rfl
    rw [key]
    refine ⟨rfl, fun j c u h3 h4 => ?_⟩
    cases j with
    | zero => simp [D.cells] at h3; simp at h4; subst h3; subst h4; exact hp
    | succ j => simp [D.cells] at h3

theorem buildSlice_run {P : Program} {T : Tab} (hT : TabOk P T) {t len : Nat} {ps : Array (Nat × Operand)} {σ : List (Nat × D)} {K : D → Prop} {o : Oper}
    (ho : o.op = .buildSlice t len ps) (h : buildSliceOp T t len ps.toList σ K) : ∃ d, (∀ (L : List Ob) (a : Act) (w : World) (ρ : Pl), Fits w ρ L → Env w ρ L σ a →
      ∃ v w', (execOp a.eval o).run P w = .ok (.value v) w' ∧ Ext F0 w w' ∧ RepP w' (foot ρ L) d v ∧ ∃ ad, v = .slice (some ad) len len) ∧ K d ∧ (d = .nilsl ∨ ∃ e ds, d = .sl e ds none ∧ ds.length = len) := by
  unfold buildSliceOp at h
  split at h <;> try exact h.elim
  rename_i i hi
  have hi := hT _ _ hi
  split at h <;> try exact h.elim
  rename_i e hd
  have hu := under_slice hi hd
  split at h <;> try exact h.elim
  rename_i j hj
  have hj := hT _ _ hj
  split at h
  · split at h <;> try exact h.elim
    rename_i hps
    refine ⟨_, fun L a w ρ hf he => ?_, h, .inl rfl⟩
    have hps : ps = #[] := by cases ps; simp at hps; rw [hps]
    subst hps
    refine ⟨.slice (some ⟨w.heap.size, 0, none⟩) 0 0, w.alloc (.cells #[] e), ?_, Ext.alloc _ _, .nilsl _, _, rfl⟩
    have hb : (Instr.buildSlice t 0 #[]).run P w = .ok (.slice (some ⟨w.heap.size, 0, none⟩) 0 0) (w.alloc (.cells #[] e)) := by
      simp [Instr.buildSlice, run_underlying hu, hj.sizeRun, Instr.fill, newRow_run]
      congr 2
      apply Array.ext'
      simp
    simp [execOp, ho, hb]
  · rename_i len
    split at h <;> try exact h.elim
    rename_i hl
    have hl := Nat.eq_of_beq_eq_true hl
    split at h <;> try exact h.elim
    rename_i hb
    have hb := Nat.le_of_ble_eq_true hb
    obtain ⟨ds, h1, h2, h3⟩ := elemsK_eq h
    refine ⟨_, fun L a w ρ hf he => ?_, h1, .inr ⟨_, _, rfl, h2.trans hl⟩⟩
    have hp : (ps.map fun (i, x) => (i, a.eval x)).toList = ((ps.toList.map fun p => a.eval p.2).zipIdx 0).map fun p => (p.2, p.1) := by
      apply List.ext_getElem?
      intro n
      simp only [Array.toList_map, List.getElem?_map, List.getElem?_zipIdx]
      cases hn : ps.toList[n]? with
      | none => simp
      | some p =>
        have hlt : n < ds.length := by rw [h2]; exact (List.getElem?_eq_some_iff.1 hn).1
        obtain ⟨h4, _⟩ := h3 n p ds[n] hn (List.getElem?_eq_getElem hlt)
        simp [h4]
    have hz : i.zero = i.zero := rfl
    obtain ⟨cs, h4, h5, h6, h7⟩ := fill_rows j.size (Nat.pos_of_ne_zero hj.pos) (ps.toList.map fun p => a.eval p.2) 0 ((Array.range ((len + 1) * j.size)).map (j.zero.cells[· % j.zero.cells.size]!)).toList (fun v hv => by
        obtain ⟨p, hp1, rfl⟩ := List.mem_map.1 hv
        obtain ⟨n, hn⟩ := List.getElem?_of_mem hp1
        have hlt : n < ds.length := by rw [h2]; exact (List.getElem?_eq_some_iff.1 hn).1
        obtain ⟨_, h8, h9, h10, _⟩ := h3 n p ds[n] hn (List.getElem?_eq_getElem hlt)
        rw [(pureOf_cells h10 (he.eval p.2) h9).1, h8]) (by simp [← hl])
    refine ⟨.slice (some ⟨w.heap.size, 0, none⟩) (len + 1) (len + 1), w.alloc (.cells cs.toArray e), ?_, Ext.alloc _ _, ?_, _, rfl⟩
    · have : ¬ ((len + 1) * j.size > 2 ^ 24) := by omega
      have h0 : ¬ (len + 1) * j.size = 0 := by
        have := hj.pos
        intro h
        rcases Nat.mul_eq_zero.1 h with h | h <;> omega
      have hb : (Instr.buildSlice t (len + 1) (ps.map fun (i, x) => (i, a.eval x))).run P w = .ok (.slice (some ⟨w.heap.size, 0, none⟩) (len + 1) (len + 1)) (w.alloc (.cells cs.toArray e)) := by
        simp only [Instr.buildSlice, Sem.run_bind, run_underlying hu, hj.sizeRun, Result.andThen, if_neg this, if_neg h0, hj.zeroRun, hp]
        have h4' := h4
        simp only [Array.toArray_toList] at h4'
        simp only [Sem.run_bind, hj.zeroRun, Result.andThen, Sem.run_pure]
        rw [h4']
        simp only [Sem.run_bind, newRow_run, Result.andThen, Sem.run_pure]
      simp [execOp, ho, hb]
    · have hlen : ds.length = len + 1 := by rw [h2]; exact hl
      rw [← hlen]
      refine newSl_rep hf _ _ _ _ _ (Nat.le_refl _) (fun q d hq => ?_) fun q d k c hq hk => ?_
      all_goals
        have hlt : q < ps.toList.length := by rw [← h2]; exact (List.getElem?_eq_some_iff.1 hq).1
        obtain ⟨_, h8, h9, h10, h13⟩ := h3 q _ d (List.getElem?_eq_getElem hlt) hq
      · exact h8
      · obtain ⟨h11, h12⟩ := pureOf_cells h10 (he.eval _) h9
        have hk' : k < j.size := by rw [← h8]; exact (List.getElem?_eq_some_iff.1 hk).1
        have hk2 : k < (a.eval ps.toList[q].2).cells.size := by rw [h11]; exact (List.getElem?_eq_some_iff.1 hk).1
        have := h7 q (a.eval ps.toList[q].2) k (by simp [List.getElem?_eq_getElem hlt]) hk'
        refine ⟨(a.eval ps.toList[q].2).cells[k], ?_, h12 k c _ hk (Array.getElem?_eq_getElem hk2), oneD_cell (.pure (ρ := ρ) (L := L) _ _ (h12 k c _ hk (Array.getElem?_eq_getElem hk2))) (allOne_mem h13 k c hk)⟩
        rw [Nat.zero_add] at this
        simp [this, hk2]


theorem buildSlice_sound {P : Program} {T : Tab} (hT : TabOk P T) {t len : Nat} {ps : Array (Nat × Operand)} {σ : List (Nat × D)} {K : D → Prop} {o : Oper}
    (ho : o.op = .buildSlice t len ps) (h : buildSliceOp T t len ps.toList σ K) : ∃ d, (∀ L, OpOk P o σ L d L) ∧ K d := by
  obtain ⟨d, h1, h2, _⟩ := buildSlice_run hT ho h
  refine ⟨d, fun L => OpOk.of_val fun a w ρ hf he => ?_, h2⟩
  obtain ⟨v, w', h3, h4, h5, _⟩ := h1 L a w ρ hf he
  exact ⟨v, w', ρ, h3, .grow hf h4 (.pure _ _ h5)⟩

/-! make, of a slice that stays as it is -/
theorem made_get (zero : Array Value) (n k : Nat) (hz : zero.size ≠ 0) (hk : k < n) : ((Array.range n).map (zero[· % zero.size]!))[k]? = zero[k % zero.size]? := by
  have : k % zero.size < zero.size := Nat.mod_lt _ (by omega)
  simp [hk, this]

def makeSliceOp (T : Tab) (t : Nat) (x y : D) (K : D → Prop) : Prop :=
  match ty T t with
  | some i => match i.d with
    | .slice e => match ty T e with
      | some j => match x with
        | .int .i64 n => match y with
          | .int .i64 c => match zeroD j.zero with
            | .any => False
            | _ => match allOne (zeroD j.zero).cells with
              | false => False
              | true => VS (SideS (0 ≤ n ∧ n = c ∧ n * j.bytes ≤ 140737488355328 ∧ n ≤ 140737488355328) (VS (NormL (List.replicate n.toNat (zeroD j.zero)) fun r _ => K (.sl j.size r none))))
          | _ => False
        | _ => False
      | none => False
    | _ => False
  | none => False

theorem repl_get {α : Type} {n i : Nat} {a d : α} (h : (List.replicate n a)[i]? = some d) : i < n ∧ a = d := by
  rw [List.getElem?_replicate] at h
  split at h
  · rename_i hlt; exact ⟨hlt, by cases h; rfl⟩
  · cases h

theorem zeroD_cells {w : World} {F : Nat → Nat → Prop} {v : Value} (h : zeroD v ≠ .any) : (zeroD v).cells.length = v.cells.size ∧
    ∀ (j : Nat) c, (zeroD v).cells[j]? = some c → ∃ u, v.cells[j]? = some u ∧ RepP w F c u := by
  have hp := zeroD_rep w F v
  generalize zeroD v = d at *
  cases hp with
  | any => exact (h rfl).elim
  | agg ds vs hl hh =>
    refine ⟨by simpa [Value.cells, D.cells] using hl.symm, fun j c hj => ?_⟩
    have hlt : j < vs.length := by rw [hl]; exact (List.getElem?_eq_some_iff.1 hj).1
    exact ⟨vs[j], by simp [Value.cells, hlt], hh j c _ hj (List.getElem?_eq_getElem hlt)⟩
  | _ =>
    refine ⟨rfl, fun j c hj => ?_⟩
    cases j with
    | zero =>
      simp [D.cells] at hj
      subst hj
      refine ⟨_, rfl, ?_⟩
      constructor <;> assumption
    | succ j => simp [D.cells] at hj

theorem makeSlice_sound {P : Program} {T : Tab} (hT : TabOk P T) {t : Nat} {x y : Operand} {σ : List (Nat × D)} {K : D → Prop} {o : Oper}
    (ho : o.op = .makeSlice t x y) (h : makeSliceOp T t (evalD σ x) (evalD σ y) K) : ∃ d, (∀ L, OpOk P o σ L d L) ∧ K d := by
  unfold makeSliceOp at h
  split at h <;> try exact h.elim
  rename_i i hi
  have hi := hT _ _ hi
  split at h <;> try exact h.elim
  rename_i e hd
  have hu := under_slice hi hd
  split at h <;> try exact h.elim
  rename_i j hj
  have hj := hT _ _ hj
  split at h <;> try exact h.elim
  rename_i n hx
  split at h <;> try exact h.elim
  rename_i c hy
  have hany : zeroD j.zero ≠ .any := by
    intro he
    rw [he] at h
    exact h
  have hone : allOne (zeroD j.zero).cells = true := by
    split at h
    · exact h.elim
    · split at h
      · exact h.elim
      · assumption
  have h : VS (SideS (0 ≤ n ∧ n = c ∧ n * j.bytes ≤ 140737488355328 ∧ n ≤ 140737488355328) (K (.sl j.size (List.replicate n.toNat (zeroD j.zero)) none))) := by
    split at h
    · exact h.elim
    · split at h
      · exact h.elim
      · obtain ⟨h1, h2⟩ := h.out
        exact ⟨h1, VS.out h2⟩
  obtain ⟨⟨h0, h1, h2, h63⟩, hK⟩ := h.out
  subst h1
  obtain ⟨xi, h3, h4, h5, h6⟩ := hj.info
  · refine ⟨_, fun L => OpOk.of_val fun a w ρ hf he => ?_, hK⟩
    have hv := he.eval x
    have hw := he.eval y
    rw [hx] at hv
    rw [hy] at hw
    have hr := run_make (P := P) w t e xi j.zero hu h3 h6 .i64 .i64 n n h0 (Int.le_refl _) (by rw [h5, Int.mul_comm]; omega) (by omega)
    rw [h4] at hr
    refine ⟨.slice (some ⟨w.heap.size, 0, none⟩) n.toNat n.toNat, w.alloc (.cells (madeCells j.zero.cells (n.toNat * j.size)) e), ρ, by simp [execOp, ho, hv.int_inv, hw.int_inv, hr], ?_⟩
    refine .grow hf (Ext.alloc _ _) (.pure _ _ ?_)
    obtain ⟨h7, h8⟩ := zeroD_cells (w := w) (F := foot ρ L) hany
    rw [hj.szero] at h7
    have hlen : (List.replicate n.toNat (zeroD j.zero)).length = n.toNat := by simp
    have key := newSl_rep hf (madeCells j.zero.cells (n.toNat * j.size)) e j.size (List.replicate n.toNat (zeroD j.zero)) n.toNat (by simp) (fun q d hq => by
        obtain ⟨_, rfl⟩ := repl_get hq
        exact h7) (fun q d k c hq hk => by
        obtain ⟨hlt, rfl⟩ := repl_get hq
        obtain ⟨u, h9, h10⟩ := h8 k c hk
        refine ⟨u, ?_, h10, oneD_cell (.pure (ρ := ρ) (L := L) _ _ h10) (allOne_mem hone k c hk)⟩
        have hk' : k < j.size := by rw [← h7]; exact (List.getElem?_eq_some_iff.1 hk).1
        have hb : q * j.size + k < n.toNat * j.size := by
          have : (q + 1) * j.size ≤ n.toNat * j.size := Nat.mul_le_mul_right _ hlt
          rw [Nat.add_mul] at this
          omega
        unfold madeCells
        rw [made_get _ _ _ (by rw [hj.szero]; exact hj.pos) hb, hj.szero, Nat.mul_comm, Nat.mul_add_mod, Nat.mod_eq_of_lt hk']
        exact h9)
    rwa [hlen] at key

end Go.Plat
