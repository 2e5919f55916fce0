/-
  Drawn regions with two changes that stand beside each other: evaluated once for either order.
-/
import Derived.Test.YtgmlcpmkonagcaaPlSpec
namespace Go.Plat
open Go
set_option linter.unusedVariables false
set_option linter.unusedSimpArgs false

/-- the i-th operation behind the j-th one too -/
def edgeO (j : Nat) (o : Oper) : Oper := { o with after := ⟨⟨j, .phase⟩ :: o.after.toList⟩ }
def edgeL (i j : Nat) (ops : List Oper) : List Oper := ops.modify i (edgeO j)

def moveE (inv : List Nat) (e : Edge) : Edge := ⟨inv.getD e.on 0, e.ground⟩
def moveG (inv : List Nat) : Option (Nat × Bool) → Option (Nat × Bool)
  | none => none
  | some (j, b) => some (inv.getD j 0, b)
def moveO (inv : List Nat) (o : Oper) : Oper := { o with after := ⟨o.after.toList.map (moveE inv)⟩, guard := moveG inv o.guard }

def natsUpto (n : Nat) : List Nat := nats.take n

/-- ts and inv are each other's inverse, below n -/
def invB (n : Nat) (ts inv : List Nat) : Bool :=
  (ts.length == n) && (inv.length == n) && ((List.range n).all fun k => (ts.getD k n < n) && (inv.getD k n < n) && (inv.getD (ts.getD k n) n == k) && (ts.getD (inv.getD k n) n == k))

def backB (ops : List Oper) : Bool := (List.range ops.length).all fun i => match ops[i]? with
  | some o => o.after.toList.all (fun e => e.on < i) && (match o.guard with | some (j, _) => j < ops.length | none => true)
  | none => true

theorem wpOps_same {P : Program} {ops ops' : Array Oper} (h : ∀ i : Nat, (ops[i]?).map (fun (o : Oper) => (o.dst, o.op, o.type, o.guard)) = (ops'[i]?).map (fun (o : Oper) => (o.dst, o.op, o.type, o.guard))) {Q : Exit → Act → World → Prop} :
    ∀ (π : List Nat) (a : Act) (w : World), wpOps P ops Q π a w = wpOps P ops' Q π a w
  | [], a, w => rfl
  | i :: π, a, w => by
    have hy : ∀ tmps j, yielded ops tmps j = yielded ops' tmps j := fun tmps j => by
      have hj := h j
      unfold yielded
      have : (ops[j]?).bind (·.dst) = (ops'[j]?).bind (·.dst) := by
        cases h1 : ops[j]? <;> cases h2 : ops'[j]? <;> simp [h1, h2] at hj ⊢
        exact hj.1
      rw [this]
    have hi := h i
    simp only [wpOps]
    have ih : wpOps P ops Q π = wpOps P ops' Q π := by
      funext a w
      exact wpOps_same h π a w
    rw [ih]
    cases h1 : ops[i]? <;> cases h2 : ops'[i]? <;> simp [h1, h2] at hi ⊢
    rename_i o o'
    obtain ⟨e1, e2, e3, e4⟩ := hi
    have hyy : yielded ops a.tmps = yielded ops' a.tmps := funext fun j => hy _ j
    have hw : Region.wanted o (yielded ops a.tmps) = Region.wanted o' (yielded ops' a.tmps) := by
      rw [hyy]
      unfold Region.wanted
      rw [e4]
    rw [hw, e1]
    obtain ⟨d, op, ty, pos, af, g⟩ := o
    obtain ⟨d', op', ty', pos', af', g'⟩ := o'
    simp only at e1 e2 e3 e4
    subst e1 e2 e3 e4
    rfl

theorem sched_mono {ops ops' : Array Oper} (hs : ops'.size = ops.size) : ∀ (π dn : List Nat), (∀ i : Nat, i ∉ dn → ∀ o o', ops[i]? = some o → ops'[i]? = some o' → ∀ e ∈ o'.after.toList, Region.binds .any e = true → e ∈ o.after.toList ∨ e.on ∈ dn) →
    Sched ops dn π → Sched ops' dn π
  | [], dn, _, hS => fun i hi => hS i (by omega)
  | i :: π, dn, h, ⟨h1, h2, h3, h4⟩ => by
    refine ⟨by omega, h2, fun o' ho' e he hb => ?_, sched_mono hs π (i :: dn) (fun k hk o o' h5 h6 e he hb => ?_) h4⟩
    · obtain ⟨o, ho⟩ : ∃ o, ops[i]? = some o := ⟨_, Array.getElem?_eq_getElem h1⟩
      rcases h i h2 o o' ho ho' e he hb with h | h
      · exact h3 o ho e h hb
      · exact h
    · rcases h k (fun hm => hk (List.mem_cons_of_mem _ hm)) o o' h5 h6 e he hb with h | h
      · exact .inl h
      · exact .inr (List.mem_cons_of_mem _ h)

theorem edgeL_get {x y : Nat} {ops : List Oper} {i : Nat} {o o' : Oper} (h1 : ops[i]? = some o) (h2 : (edgeL y x ops)[i]? = some o') : o' = o ∨ (i = y ∧ o' = edgeO x o) := by
  unfold edgeL at h2
  rw [List.getElem?_modify, h1] at h2
  simp at h2
  split at h2
  · rename_i he; exact .inr ⟨he.symm, h2.symm⟩
  · exact .inl h2.symm

/-- either the one stands before the other, or behind it -/
theorem sched_two {ops : List Oper} {x y : Nat} (hxy : x ≠ y) : ∀ (π dn : List Nat), x ∉ dn → y ∉ dn → Sched ops.toArray dn π → Sched (edgeL y x ops).toArray dn π ∨ Sched (edgeL x y ops).toArray dn π
  | [], dn, hx, hy, hS => .inl fun i hi => hS i (by simpa [edgeL] using hi)
  | i :: π, dn, hx, hy, ⟨h1, h2, h3, h4⟩ => by
    have hsz : ∀ a b, (edgeL a b ops).toArray.size = ops.toArray.size := fun a b => by simp [edgeL]
    have after : ∀ a b dn π, b ∈ dn → Sched ops.toArray dn π → Sched (edgeL a b ops).toArray dn π := fun a b dn π hb hS =>
      sched_mono (hsz a b) π dn (fun i hi o o' h5 h6 e he _ => by
        rw [List.getElem?_toArray] at h5 h6
        rcases edgeL_get h5 h6 with rfl | ⟨_, rfl⟩
        · exact .inl he
        · simp only [edgeO] at he
          rcases List.mem_cons.1 he with rfl | he
          · exact .inr hb
          · exact .inl he) hS
    have here : ∀ a b, i ≠ a → ∀ o', (edgeL a b ops).toArray[i]? = some o' → ∀ e ∈ o'.after.toList, Region.binds .any e = true → e.on ∈ dn := fun a b hia o' ho' e he hb => by
      rw [List.getElem?_toArray] at ho'
      have hio := Array.getElem?_eq_getElem h1
      rw [List.getElem?_toArray] at hio
      rcases edgeL_get hio ho' with rfl | ⟨e1, _⟩
      · exact h3 _ (by rw [List.getElem?_toArray]; exact hio) e he hb
      · exact (hia e1).elim
    by_cases hix : i = x
    · subst hix
      exact .inl ⟨by rw [hsz]; exact h1, h2, here y i hxy, after y i _ _ (by simp) h4⟩
    · by_cases hiy : i = y
      · subst hiy
        exact .inr ⟨by rw [hsz]; exact h1, h2, here x i hix, after x i _ _ (by simp) h4⟩
      · rcases sched_two hxy π (i :: dn) (fun h => hx ((List.mem_cons.1 h).resolve_left (Ne.symm hix))) (fun h => hy ((List.mem_cons.1 h).resolve_left (Ne.symm hiy))) h4 with h | h
        · exact .inl ⟨by rw [hsz]; exact h1, h2, here y x hiy, h⟩
        · exact .inr ⟨by rw [hsz]; exact h1, h2, here x y hix, h⟩

/-! in another order -/
def permL (inv ts : List Nat) (ops : List Oper) : List Oper := ts.map fun i => moveO inv (ops.getD i default)

structure Inv (n : Nat) (ts inv : List Nat) : Prop where
  lt : ts.length = n
  tsl : ∀ k, k < n → ts.getD k 0 < n
  invl : ∀ k, k < n → inv.getD k 0 < n
  it : ∀ k, k < n → inv.getD (ts.getD k 0) 0 = k
  ti : ∀ k, k < n → ts.getD (inv.getD k 0) 0 = k

theorem perm_get {n : Nat} {ts inv : List Nat} (h : Inv n ts inv) {ops : List Oper} (hn : ops.length = n) {i : Nat} {o : Oper} (ho : ops[i]? = some o) : (permL inv ts ops)[inv.getD i 0]? = some (moveO inv o) := by
  have hi : i < n := by rw [← hn]; exact (List.getElem?_eq_some_iff.1 ho).1
  have h1 := h.invl i hi
  have h2 := h.ti i hi
  unfold permL
  rw [List.getElem?_map]
  have h3 : ts[inv.getD i 0]? = some i := by
    have hlt : inv.getD i 0 < ts.length := by rw [h.lt]; exact h1
    rw [List.getElem?_eq_getElem hlt]
    rw [List.getD_eq_getElem?_getD, List.getElem?_eq_getElem hlt] at h2
    simpa using h2
  rw [h3]
  simp [ho]

theorem perm_len {n : Nat} {ts inv : List Nat} (h : Inv n ts inv) {ops : List Oper} : (permL inv ts ops).length = n := by simp [permL, h.lt]

theorem perm_yielded {n : Nat} {ts inv : List Nat} (h : Inv n ts inv) {ops : List Oper} (hn : ops.length = n) {tmps : Array Value} {j : Nat} (hj : j < n) : yielded (permL inv ts ops).toArray tmps (inv.getD j 0) = yielded ops.toArray tmps j := by
  unfold yielded
  have ho := List.getElem?_eq_getElem (l := ops) (i := j) (by omega)
  rw [List.getElem?_toArray, List.getElem?_toArray, perm_get h hn ho, ho]
  rfl

theorem perm_wp {P : Program} {n : Nat} {ts inv : List Nat} (h : Inv n ts inv) {ops : List Oper} (hn : ops.length = n) (hg : ∀ (i : Nat) o j b, ops[i]? = some o → o.guard = some (j, b) → j < n) {Q : Exit → Act → World → Prop} :
    ∀ (π : List Nat), (∀ i ∈ π, i < n) → ∀ (a : Act) (w : World), wpOps P (permL inv ts ops).toArray Q (π.map fun i => inv.getD i 0) a w = wpOps P ops.toArray Q π a w
  | [], _, a, w => rfl
  | i :: π, hπ, a, w => by
    have ih : wpOps P (permL inv ts ops).toArray Q (π.map fun i => inv.getD i 0) = wpOps P ops.toArray Q π := by
      funext a w
      exact perm_wp h hn hg π (fun i hi => hπ i (List.mem_cons_of_mem _ hi)) a w
    have hi := hπ i (by simp)
    have ho := List.getElem?_eq_getElem (l := ops) (i := i) (by omega)
    simp only [List.map_cons, wpOps, List.getElem?_toArray, perm_get h hn ho, ho, ih]
    have hw : Region.wanted (moveO inv ops[i]) (yielded (permL inv ts ops).toArray a.tmps) = Region.wanted ops[i] (yielded ops.toArray a.tmps) := by
      unfold Region.wanted moveO
      simp only
      cases hgd : ops[i].guard with
      | none => rfl
      | some p =>
        obtain ⟨j, b⟩ := p
        simp only [moveG]
        rw [perm_yielded h hn (hg i _ j b ho hgd)]
    rw [hw]
    rfl

theorem perm_sched {n : Nat} {ts inv : List Nat} (h : Inv n ts inv) {ops : List Oper} (hn : ops.length = n) : ∀ (π dn : List Nat), (∀ i ∈ dn, i < n) → Sched ops.toArray dn π → Sched (permL inv ts ops).toArray (dn.map fun i => inv.getD i 0) (π.map fun i => inv.getD i 0)
  | [], dn, hdn, hS => fun k hk => by
    have hk : k < n := by simpa [perm_len h] using hk
    refine List.mem_map.2 ⟨ts.getD k 0, hS _ (by simpa [hn] using h.tsl k hk), h.it k hk⟩
  | i :: π, dn, hdn, ⟨h1, h2, h3, h4⟩ => by
    have hi : i < n := by simpa [hn] using h1
    refine ⟨by simpa [perm_len h] using h.invl i hi, fun hm => ?_, fun o' ho' e he hb => ?_, perm_sched h hn π (i :: dn) (fun j hj => ?_) h4⟩
    · obtain ⟨j, hj, hji⟩ := List.mem_map.1 hm
      have e1 := h.ti i hi
      have e2 := h.ti j (hdn j hj)
      rw [hji] at e2
      rw [e1] at e2
      subst e2
      exact h2 hj
    · have ho := List.getElem?_eq_getElem (l := ops) (i := i) (by omega)
      rw [List.getElem?_toArray, perm_get h hn ho] at ho'
      cases ho'
      simp only [moveO] at he
      obtain ⟨e0, h5, rfl⟩ := List.mem_map.1 he
      exact List.mem_map.2 ⟨e0.on, h3 _ (by rw [List.getElem?_toArray]; exact ho) e0 h5 hb, rfl⟩
    · rcases List.mem_cons.1 hj with rfl | hj
      · exact hi
      · exact hdn j hj

theorem sched_lt {ops : List Oper} : ∀ (π dn : List Nat), Sched ops.toArray dn π → ∀ i ∈ π, i < ops.length
  | [], _, _, i, hi => by simp at hi
  | j :: π, dn, ⟨h1, _, _, h4⟩, i, hi => by
    rcases List.mem_cons.1 hi with rfl | hi
    · simpa using h1
    · exact sched_lt π _ h4 i hi

theorem invB_eq {n : Nat} {ts inv : List Nat} (h : invB n ts inv = true) : Inv n ts inv := by
  simp only [invB, Bool.and_eq_true, beq_iff_eq, List.all_eq_true, List.mem_range, decide_eq_true_eq] at h
  obtain ⟨⟨h1, h2⟩, h3⟩ := h
  have d : ∀ (l : List Nat) k, l.length = n → k < n → l.getD k 0 = l.getD k n := fun l k hl hk => by
    rw [List.getD_eq_getElem?_getD, List.getD_eq_getElem?_getD, List.getElem?_eq_getElem (by omega)]
    rfl
  refine ⟨h1, fun k hk => ?_, fun k hk => ?_, fun k hk => ?_, fun k hk => ?_⟩
  all_goals
    obtain ⟨⟨⟨a, b⟩, c⟩, e⟩ := h3 k hk
  · rw [d _ _ h1 hk]; exact a
  · rw [d _ _ h2 hk]; exact b
  · rw [d ts _ h1 hk, d inv _ h2 a]; exact c
  · rw [d inv _ h2 hk, d ts _ h1 b]; exact e

/-! the lists, written out -/
def edgesMK (inv : List Nat) : List Edge → (List Edge → Prop) → Prop :=
  @List.rec Edge (fun _ => (List Edge → Prop) → Prop) (fun K => K []) (fun e _ ih K => match e with
    | ⟨j, g⟩ => nthK j inv fun j => ih fun r => K (⟨j, g⟩ :: r))
theorem edgesMK_eq {inv : List Nat} : ∀ {es : List Edge} {K : List Edge → Prop}, edgesMK inv es K → K (es.map (moveE inv))
  | [], K, h => h
  | e :: es, K, h => by
    obtain ⟨j, g⟩ := e
    change nthK j inv (fun j => edgesMK inv es fun r => K (⟨j, g⟩ :: r)) at h
    obtain ⟨k, h1, h2⟩ := nthK_eq h
    have := edgesMK_eq h2
    simpa [moveE, h1] using this
def guardMK (inv : List Nat) (g : Option (Nat × Bool)) (K : Option (Nat × Bool) → Prop) : Prop :=
  match g with
  | none => K none
  | some (j, b) => nthK j inv fun j => K (some (j, b))
theorem guardMK_eq {inv : List Nat} {g : Option (Nat × Bool)} {K : Option (Nat × Bool) → Prop} (h : guardMK inv g K) : K (moveG inv g) := by
  unfold guardMK at h
  split at h
  · exact h
  · rename_i j b
    obtain ⟨k, h1, h2⟩ := nthK_eq h
    simpa [moveG, h1] using h2
def permK (inv : List Nat) (ops : List Oper) : List Nat → (List Oper → Prop) → Prop :=
  @List.rec Nat (fun _ => (List Oper → Prop) → Prop) (fun K => K []) (fun i _ ih K => nthK i ops fun o => match o with
    | ⟨dst, op, ty, pos, ⟨af⟩, g⟩ => edgesMK inv af fun af => guardMK inv g fun g => ih fun r => K (⟨dst, op, ty, pos, ⟨af⟩, g⟩ :: r))
theorem permK_eq {inv : List Nat} {ops : List Oper} : ∀ {ts : List Nat} {K : List Oper → Prop}, permK inv ops ts K → K (permL inv ts ops)
  | [], K, h => h
  | i :: ts, K, h => by
    change nthK i ops (fun o => match o with
      | ⟨dst, op, ty, pos, ⟨af⟩, g⟩ => edgesMK inv af fun af => guardMK inv g fun g => permK inv ops ts fun r => K (⟨dst, op, ty, pos, ⟨af⟩, g⟩ :: r)) at h
    obtain ⟨o, h1, h2⟩ := nthK_eq h
    obtain ⟨dst, op, ty, pos, ⟨af⟩, g⟩ := o
    have h3 := permK_eq (guardMK_eq (edgesMK_eq h2))
    simpa [permL, h1, moveO] using h3

def edgeK (x : Nat) : List Oper → Nat → (List Oper → Prop) → Prop :=
  @List.rec Oper (fun _ => Nat → (List Oper → Prop) → Prop) (fun _ K => K []) (fun o r ih y K => match y with
    | 0 => match o with
      | ⟨dst, op, ty, pos, ⟨af⟩, g⟩ => K (⟨dst, op, ty, pos, ⟨⟨x, .phase⟩ :: af⟩, g⟩ :: r)
    | y + 1 => ih y fun r => K (o :: r))
theorem edgeK_eq {x : Nat} : ∀ {ops : List Oper} {y : Nat} {K : List Oper → Prop}, edgeK x ops y K → K (edgeL y x ops)
  | [], y, K, h => by
    have h : K [] := h
    simpa [edgeL] using h
  | ⟨dst, op, ty, pos, ⟨af⟩, g⟩ :: r, 0, K, h => by
    have h : K (⟨dst, op, ty, pos, ⟨⟨x, .phase⟩ :: af⟩, g⟩ :: r) := h
    simpa [edgeL, edgeO] using h
  | o :: r, y + 1, K, h => by
    have h : edgeK x r y fun r => K (o :: r) := h
    have := edgeK_eq h
    simpa [edgeL] using this

/-- a region with two changes beside each other: evaluated in the order of the text, the y-th operation behind the x-th one; and in the order ts, the x-th behind the y-th -/
theorem draw_two {P : Program} {T : Tab} (hT : TabOk P T) (hm : P.follows .mixedOrders = true) {n : Nat} {E : Entry} {id : Nat} {ops : Array Oper} {Q : Ex → List (Nat × D) → List Ob → Prop} {σ : List (Nat × D)} {L : List Ob}
    (x y : Nat) (ts inv : List Nat) (hxy : Nat.beq x y = false) (hb : backB ops.toList = true) (hinv : invB ops.toList.length ts inv = true)
    (hA : edgeK x ops.toList y fun l => VS (drawK P T n l σ L (Q .normal))) (hB : edgeK y ops.toList x fun l => permK inv l ts fun l => VS (drawK P T n l σ L (Q .normal))) : AWP P n E (.region id ops true) Q σ L := by
  intro a w hr
  have hA := (edgeK_eq hA).out
  have hB := (permK_eq (edgeK_eq hB)).out
  have hinv := invB_eq hinv
  have hxy : x ≠ y := fun e => by subst e; simp at hxy
  simp only [backB, List.all_eq_true, List.mem_range] at hb
  have hops : ∀ (i : Nat) o, ops.toList[i]? = some o → (∀ e ∈ o.after.toList, e.on < i) ∧ ∀ j b, o.guard = some (j, b) → j < ops.toList.length := fun i o ho => by
    have h := hb i (List.getElem?_eq_some_iff.1 ho).1
    rw [ho] at h
    simp only [Bool.and_eq_true, List.all_eq_true, decide_eq_true_eq] at h
    refine ⟨h.1, fun j b hg => ?_⟩
    rw [hg] at h
    simpa using h.2
  refine wp_region_draw fun t => ?_
  rw [hm]
  have hS := sched_any (ops := ops) (fun i o hi e he _ => (hops i o (by simpa using hi)).1 e he) t
  generalize Region.schedule true ops t = π at *
  have hS' : Sched ops.toList.toArray [] π := by simpa using hS
  have same : ∀ a b : Nat, ∀ i : Nat, ((edgeL a b ops.toList).toArray[i]?).map (fun (o : Oper) => (o.dst, o.op, o.type, o.guard)) = (ops[i]?).map (fun (o : Oper) => (o.dst, o.op, o.type, o.guard)) := fun a b i => by
    rw [List.getElem?_toArray]
    unfold edgeL
    rw [List.getElem?_modify, Array.getElem?_toList]
    cases ops[i]? with
    | none => rfl
    | some o =>
      simp only [Option.map_some]
      split <;> rfl
  rcases sched_two hxy π [] (by simp) (by simp) hS' with h | h
  · have := (draw_core (ops := (edgeL y x ops.toList).toArray) hT (by simpa using hA) hr).2 π h
    rwa [wpOps_same (same y x)] at this
  · have hl : (edgeL x y ops.toList).length = ops.toList.length := by simp [edgeL]
    have hps := perm_sched hinv hl π [] (by simp) h
    have := (draw_core (ops := (permL inv ts (edgeL x y ops.toList)).toArray) hT (by simpa using hB) hr).2 _ hps
    rw [perm_wp hinv hl (fun i o j b ho hg => by
      have hi : i < ops.toList.length := by rw [← hl]; exact (List.getElem?_eq_some_iff.1 ho).1
      rcases edgeL_get (List.getElem?_eq_getElem hi) ho with rfl | ⟨_, rfl⟩
      · exact (hops i _ (List.getElem?_eq_getElem hi)).2 j b hg
      · exact (hops i _ (List.getElem?_eq_getElem hi)).2 j b hg) π (fun i hi => by rw [← hl]; exact sched_lt π [] h i hi), wpOps_same (same x y)] at this
    exact this

end Go.Plat
