/-
  The condition of a region that draws its order.
-/
import Derived.Test.YtgmlcpmkonagcaaPlDraw2
namespace Go.Plat
open Go
set_option linter.unusedVariables false
set_option linter.unusedSimpArgs false

/-- an operation that was looked at: what it yields, from which slots; whether it reads what is owned -/
structure DE where
  x : DI
  d : D
  s : List (Nat × D)
  r : Bool

/-- what is known of the slots when an operation runs: those before it -/
def viewAK (m : List Bool) : List DE → List (Nat × D) → (List (Nat × D) → Prop) → Prop :=
  @List.rec DE (fun _ => List (Nat × D) → (List (Nat × D) → Prop) → Prop) (fun s K => K s) (fun e _ ih s K => match e with
    | ⟨⟨i, o, _⟩, d, _, _⟩ => match o.dst with
      | none => ih s K
      | some t => match bit m i with
        | true => ih s fun s => K ((t, d) :: s)
        | false => ih s fun s => K ((t, .any) :: s))
theorem viewAK_cons {m : List Bool} {e : DE} {es : List DE} {s : List (Nat × D)} {K : List (Nat × D) → Prop} : viewAK m (e :: es) s K = match e.x.o.dst with
    | none => viewAK m es s K
    | some t => match bit m e.x.i with
      | true => viewAK m es s fun s => K ((t, e.d) :: s)
      | false => viewAK m es s fun s => K ((t, .any) :: s) := rfl

/-- those behind it, or beside it -/
def viewTK (k : Nat) : List DI → List (Nat × D) → (List (Nat × D) → Prop) → Prop :=
  @List.rec DI (fun _ => List (Nat × D) → (List (Nat × D) → Prop) → Prop) (fun s K => K s) (fun y _ ih s K => match y with
    | ⟨_, o, m⟩ => match o.dst with
      | none => ih s K
      | some t => match bit m k with
        | true => ih s K
        | false => ih s fun s => K ((t, .any) :: s))
theorem viewTK_cons {k : Nat} {y : DI} {ys : List DI} {s : List (Nat × D)} {K : List (Nat × D) → Prop} : viewTK k (y :: ys) s K = match y.o.dst with
    | none => viewTK k ys s K
    | some t => match bit y.m k with
      | true => viewTK k ys s K
      | false => viewTK k ys s fun s => K ((t, .any) :: s) := rfl

theorem look_cons (t : Nat) (d : D) (s : List (Nat × D)) (u : Nat) : look ((t, d) :: s) u = if t = u then d else look s u := by
  simp only [look]
  by_cases h : t = u
  · subst h; simp
  · have : Nat.beq t u = false := by rw [Bool.eq_false_iff]; intro h'; exact h (Nat.eq_of_beq_eq_true h')
    rw [this, if_neg h]

theorem viewTK_eq {k : Nat} : ∀ {ys : List DI} {s : List (Nat × D)} {K : List (Nat × D) → Prop}, viewTK k ys s K →
    ∃ s', K s' ∧ ∀ t, look s' t = .any ∨ (look s' t = look s t ∧ ∀ y ∈ ys, y.o.dst = some t → bit y.m k = true)
  | [], s, K, h => ⟨s, h, fun t => .inr ⟨rfl, by simp⟩⟩
  | y :: ys, s, K, h => by
    rw [viewTK_cons] at h
    split at h
    · rename_i hd
      obtain ⟨s', h1, h2⟩ := viewTK_eq h
      exact ⟨s', h1, fun t => (h2 t).imp id fun ⟨h3, h4⟩ => ⟨h3, fun z hz hzd => by
        rcases List.mem_cons.1 hz with rfl | hz
        · rw [hd] at hzd; cases hzd
        · exact h4 z hz hzd⟩⟩
    · rename_i u hd
      split at h
      · rename_i hb
        obtain ⟨s', h1, h2⟩ := viewTK_eq h
        exact ⟨s', h1, fun t => (h2 t).imp id fun ⟨h3, h4⟩ => ⟨h3, fun z hz hzd => by
          rcases List.mem_cons.1 hz with rfl | hz
          · exact hb
          · exact h4 z hz hzd⟩⟩
      · obtain ⟨s', h1, h2⟩ := viewTK_eq h
        refine ⟨_, h1, fun t => ?_⟩
        rw [look_cons]
        by_cases hut : u = t
        · exact .inl (by rw [if_pos hut])
        · rw [if_neg hut]
          exact (h2 t).imp id fun ⟨h3, h4⟩ => ⟨h3, fun z hz hzd => by
            rcases List.mem_cons.1 hz with rfl | hz
            · rw [hd] at hzd; cases hzd; exact (hut rfl).elim
            · exact h4 z hz hzd⟩

theorem viewAK_eq {m : List Bool} : ∀ {es : List DE} {s : List (Nat × D)} {K : List (Nat × D) → Prop}, viewAK m es s K →
    ∃ s', K s' ∧ ∀ t, (∃ e ∈ es, e.x.o.dst = some t ∧ bit m e.x.i = true ∧ look s' t = e.d) ∨ look s' t = .any ∨ (look s' t = look s t ∧ ∀ e ∈ es, e.x.o.dst ≠ some t)
  | [], s, K, h => ⟨s, h, fun t => .inr (.inr ⟨rfl, by simp⟩)⟩
  | e :: es, s, K, h => by
    rw [viewAK_cons] at h
    split at h
    · rename_i hd
      obtain ⟨s', h1, h2⟩ := viewAK_eq h
      refine ⟨s', h1, fun t => ?_⟩
      rcases h2 t with ⟨e', h3, h4⟩ | h3 | ⟨h3, h4⟩
      · exact .inl ⟨e', by simp [h3], h4⟩
      · exact .inr (.inl h3)
      · refine .inr (.inr ⟨h3, fun z hz hzd => ?_⟩)
        rcases List.mem_cons.1 hz with rfl | hz
        · rw [hd] at hzd; cases hzd
        · exact h4 z hz hzd
    · rename_i u hd
      split at h
      all_goals
        rename_i hb
        obtain ⟨s', h1, h2⟩ := viewAK_eq h
        refine ⟨_, h1, fun t => ?_⟩
        rw [look_cons]
        by_cases hut : u = t
        · first
            | exact .inl ⟨e, by simp, by rw [hd, hut], hb, by rw [if_pos hut]⟩
            | exact .inr (.inl (by rw [if_pos hut]))
        · rw [if_neg hut]
          rcases h2 t with ⟨e', h3, h4⟩ | h3 | ⟨h3, h4⟩
          · exact .inl ⟨e', by simp [h3], h4⟩
          · exact .inr (.inl h3)
          · refine .inr (.inr ⟨h3, fun z hz hzd => ?_⟩)
            rcases List.mem_cons.1 hz with rfl | hz
            · rw [hd] at hzd; cases hzd; exact hut rfl
            · exact h4 z hz hzd

/-- what a slot holds, known better -/
def refineAK (t : Nat) (d : D) : List DE → (List DE → Prop) → Prop :=
  @List.rec DE (fun _ => (List DE → Prop) → Prop) (fun K => K []) (fun e _ ih K => match e with
    | ⟨⟨i, o, m⟩, d', s, q⟩ => match o.dst with
      | none => ih fun r => K (⟨⟨i, o, m⟩, d', s, q⟩ :: r)
      | some t' => match Nat.beq t' t with
        | true => ih fun r => K (⟨⟨i, o, m⟩, d, s, q⟩ :: r)
        | false => ih fun r => K (⟨⟨i, o, m⟩, d', s, q⟩ :: r))
theorem refineAK_cons {t : Nat} {d : D} {e : DE} {es : List DE} {K : List DE → Prop} : refineAK t d (e :: es) K = match e.x.o.dst with
    | none => refineAK t d es fun r => K (e :: r)
    | some t' => match Nat.beq t' t with
      | true => refineAK t d es fun r => K (⟨e.x, d, e.s, e.r⟩ :: r)
      | false => refineAK t d es fun r => K (e :: r) := rfl

/-- the same in whatever world -/
def DEq (d d' : D) : Prop := ∀ (w : World) (F : Nat → Nat → Prop) (ρ : Pl) (L : List Ob) (v : Value), Rep w F ρ L d v ↔ Rep w F ρ L d' v
theorem DEq.refl (d : D) : DEq d d := fun _ _ _ _ _ => Iff.rfl
theorem DEq.trans {a b c : D} (h : DEq a b) (k : DEq b c) : DEq a c := fun w F ρ L v => (h w F ρ L v).trans (k w F ρ L v)
theorem DEq.symm {a b : D} (h : DEq a b) : DEq b a := fun w F ρ L v => (h w F ρ L v).symm
theorem DEq.tt {b : Bool} (h : b = true) : DEq (.bool b) .tt := fun w F ρ L v => by
  subst h
  exact ⟨fun h => by rw [h.bool_inv]; exact .pure _ _ .tt, fun h => by rw [h.tt_inv]; exact .pure _ _ (.bool _)⟩
theorem DEq.ff {b : Bool} (h : b = false) : DEq (.bool b) .ff := fun w F ρ L v => by
  subst h
  exact ⟨fun h => by rw [h.bool_inv]; exact .pure _ _ .ff, fun h => by rw [h.ff_inv]; exact .pure _ _ (.bool _)⟩

theorem OpOk.eqv {P : Program} {o : Oper} {σ : List (Nat × D)} {L L' : List Ob} {d d' : D} (h : OpOk P o σ L d L') (he : DEq d d') : OpOk P o σ L d' L' :=
  fun a w ρ next Q hf hv hn => h a w ρ next Q hf hv fun v w' ρ' hp => hn v w' ρ' ⟨hp.fits, (he _ _ _ _ _).1 hp.rep, hp.ext, hp.fresh, hp.compat⟩

def Same (A A' : List DE) : Prop :=
  A'.map (·.x) = A.map (·.x) ∧ (∀ e ∈ A, ∃ e' ∈ A', e'.x = e.x ∧ e'.s = e.s ∧ e'.r = e.r ∧ DEq e.d e'.d) ∧ (∀ e' ∈ A', ∃ e ∈ A, e'.x = e.x ∧ e'.s = e.s ∧ e'.r = e.r ∧ DEq e.d e'.d)

theorem refineAK_eq {t : Nat} {d : D} : ∀ {A : List DE} {K : List DE → Prop}, (∀ e ∈ A, e.x.o.dst = some t → DEq e.d d) → refineAK t d A K → ∃ A', K A' ∧ Same A A'
  | [], K, _, h => ⟨[], h, rfl, by simp, by simp⟩
  | e :: es, K, hd, h => by
    have hd' : ∀ e ∈ es, e.x.o.dst = some t → DEq e.d d := fun x hx => hd x (by simp [hx])
    rw [refineAK_cons] at h
    have keep : ∀ {e1 : DE}, e1.x = e.x ∧ e1.s = e.s ∧ e1.r = e.r ∧ DEq e.d e1.d → (∃ A', K (e1 :: A') ∧ Same es A') → ∃ A', K A' ∧ Same (e :: es) A' := by
      rintro e1 he1 ⟨A', h1, h0, h2, h3⟩
      refine ⟨_, h1, by simp [h0, he1.1], fun x hx => ?_, fun x hx => ?_⟩
      · rcases List.mem_cons.1 hx with rfl | hx
        · exact ⟨e1, by simp, he1⟩
        · obtain ⟨y, hy, h4⟩ := h2 x hx
          exact ⟨y, by simp [hy], h4⟩
      · rcases List.mem_cons.1 hx with rfl | hx
        · exact ⟨e, by simp, he1⟩
        · obtain ⟨y, hy, h4⟩ := h3 x hx
          exact ⟨y, by simp [hy], h4⟩
    split at h
    · obtain ⟨A', h1, h2⟩ := refineAK_eq hd' h
      exact keep ⟨rfl, rfl, rfl, .refl _⟩ ⟨A', h1, h2⟩
    · rename_i t' ht
      split at h
      · rename_i hb
        have := Nat.eq_of_beq_eq_true hb
        subst this
        obtain ⟨A', h1, h2⟩ := refineAK_eq hd' h
        exact keep (e1 := ⟨e.x, d, e.s, e.r⟩) ⟨rfl, rfl, rfl, hd e (by simp) ht⟩ ⟨A', h1, h2⟩
      · obtain ⟨A', h1, h2⟩ := refineAK_eq hd' h
        exact keep ⟨rfl, rfl, rfl, .refl _⟩ ⟨A', h1, h2⟩

def guardDK (all : List Oper) (g : Option (Nat × Bool)) (s : List (Nat × D)) (A : List DE) (run skip : List (Nat × D) → List DE → Prop) : Prop :=
  match g with
  | none => run s A
  | some (j, want) => match dstOf all j with
    | none => False
    | some t => match look s t with
      | .tt => match want with
        | true => run s A
        | false => skip s A
      | .ff => match want with
        | true => skip s A
        | false => run s A
      | .bool b => match want with
        | true => VS (SplitS b (refineAK t .tt A fun A => run ((t, .tt) :: s) A) (refineAK t .ff A fun A => skip ((t, .ff) :: s) A))
        | false => VS (SplitS b (refineAK t .tt A fun A => skip ((t, .tt) :: s) A) (refineAK t .ff A fun A => run ((t, .ff) :: s) A))
      | .tup ds => match ds with
        | [] => skip s A
        | _ => False
      | _ => False

/-- the same again, at other owned objects -/
def reK (P : Program) (T : Tab) (s : List (Nat × D)) (L : List Ob) (op : Op) (d : D) (K : Prop) : Prop :=
  opK P T s L op (fun d' => VS (SideS (d' = d) K)) (fun d' => VS (SideS (d' = d) K)) fun _ _ => False

def backK (P : Program) (T : Tab) (x : DI) (s : List (Nat × D)) (d : D) : List (Nat × List Ob) → Prop → Prop :=
  @List.rec (Nat × List Ob) (fun _ => Prop → Prop) (fun K => K) (fun p _ ih K => match bit x.m p.1 with
    | true => K
    | false => reK P T s p.2 x.o.op d (ih K))
theorem backK_cons {P : Program} {T : Tab} {x : DI} {s : List (Nat × D)} {d : D} {i : Nat} {L : List Ob} {ws : List (Nat × List Ob)} {K : Prop} : backK P T x s d ((i, L) :: ws) K = match bit x.m i with
    | true => K
    | false => reK P T s L x.o.op d (backK P T x s d ws K) := rfl

def forthK (P : Program) (T : Tab) (x : DI) (L : List Ob) : List DE → Prop → Prop :=
  @List.rec DE (fun _ => Prop → Prop) (fun K => K) (fun e _ ih K => match e with
    | ⟨⟨i, o, _⟩, d, s, r⟩ => match r with
      | false => ih K
      | true => match bit x.m i with
        | true => ih K
        | false => reK P T s L o.op d (ih K))
theorem forthK_cons {P : Program} {T : Tab} {x : DI} {L : List Ob} {e : DE} {es : List DE} {K : Prop} : forthK P T x L (e :: es) K = match e.r with
    | false => forthK P T x L es K
    | true => match bit x.m e.x.i with
      | true => forthK P T x L es K
      | false => reK P T e.s L e.x.o.op e.d (forthK P T x L es K) := rfl

def behindK (x : DI) : List (Nat × List Ob) → Prop → Prop
  | [], K => K
  | (i, _) :: ws, K => match bit x.m i with
    | true => behindK x ws K
    | false => False

def dstK (n : Nat) (dst : Option Nat) (K : Prop) : Prop :=
  match dst with
  | none => K
  | some t => match Nat.blt t n with
    | true => K
    | false => False

abbrev DvM : Type := List DE → List (Nat × List Ob) → List Ob → (List DE → List Ob → Prop) → Prop
def dvNil : DvM := fun A _ L K => K A L
def dvCons (P : Program) (T : Tab) (n : Nat) (all : List Oper) (σ : List (Nat × D)) (x : DI) (xs : List DI) (ih : DvM) : DvM := fun A ws L K => match x with
  | ⟨i, o, m⟩ => dstK n o.dst (viewTK i xs σ fun s => viewAK m A s fun s => guardDK all o.guard s A
      (fun s A => opK P T s L o.op
        (fun d => ih (⟨⟨i, o, m⟩, d, s, false⟩ :: A) ws L K)
        (fun d => backK P T ⟨i, o, m⟩ s d ws (ih (⟨⟨i, o, m⟩, d, s, true⟩ :: A) ws L K))
        (fun d L' => behindK ⟨i, o, m⟩ ws (forthK P T ⟨i, o, m⟩ L' A (ih (⟨⟨i, o, m⟩, d, s, false⟩ :: A) ((i, L) :: ws) L' K))))
      (fun s A => ih (⟨⟨i, o, m⟩, .tup [], s, false⟩ :: A) ws L K))
def dvK (P : Program) (T : Tab) (n : Nat) (all : List Oper) (σ : List (Nat × D)) : List DI → List DE → List (Nat × List Ob) → List Ob → (List DE → List Ob → Prop) → Prop :=
  @List.rec DI (fun _ => DvM) dvNil (dvCons P T n all σ)
theorem dvK_cons {P : Program} {T : Tab} {n : Nat} {all : List Oper} {σ : List (Nat × D)} {x : DI} {xs : List DI} {A : List DE} {ws : List (Nat × List Ob)} {L : List Ob} {K : List DE → List Ob → Prop} :
    dvK P T n all σ (x :: xs) A ws L K = dstK n x.o.dst (viewTK x.i xs σ fun s => viewAK x.m A s fun s => guardDK all x.o.guard s A
      (fun s A => opK P T s L x.o.op
        (fun d => dvK P T n all σ xs (⟨x, d, s, false⟩ :: A) ws L K)
        (fun d => backK P T x s d ws (dvK P T n all σ xs (⟨x, d, s, true⟩ :: A) ws L K))
        (fun d L' => behindK x ws (forthK P T x L' A (dvK P T n all σ xs (⟨x, d, s, false⟩ :: A) ((x.i, L) :: ws) L' K))))
      (fun s A => dvK P T n all σ xs (⟨x, .tup [], s, false⟩ :: A) ws L K)) := rfl

def memB (t : Nat) : List Nat → Bool
  | [] => false
  | u :: us => match Nat.beq t u with
    | true => true
    | false => memB t us

def dstsB : List Oper → List Nat → Bool
  | [], _ => true
  | o :: os, seen => match o.dst with
    | none => dstsB os seen
    | some t => match memB t seen with
      | true => false
      | false => dstsB os (t :: seen)

def revDK : List DI → List DI → (List DI → Prop) → Prop
  | [], acc, K => K acc
  | x :: xs, acc, K => revDK xs (x :: acc) K

def finK : List DE → List (Nat × D) → (List (Nat × D) → Prop) → Prop :=
  @List.rec DE (fun _ => List (Nat × D) → (List (Nat × D) → Prop) → Prop) (fun s K => K s) (fun e _ ih s K => match e with
    | ⟨⟨_, o, _⟩, d, _, _⟩ => match o.dst with
      | none => ih s K
      | some t => ih s fun s => K ((t, d) :: s))
theorem finK_cons {e : DE} {es : List DE} {s : List (Nat × D)} {K : List (Nat × D) → Prop} : finK (e :: es) s K = match e.x.o.dst with
    | none => finK es s K
    | some t => finK es s fun s => K ((t, e.d) :: s) := rfl

def drawK (P : Program) (T : Tab) (n : Nat) (all : List Oper) (σ : List (Nat × D)) (L : List Ob) (Q : List (Nat × D) → List Ob → Prop) : Prop :=
  match dstsB all [] with
  | false => False
  | true => itemsL nats all [] fun its => revDK its [] fun its => dvK P T n all σ its [] [] L fun A L => finK A σ fun σ => Q σ L

theorem memB_mem : ∀ {us : List Nat} {t : Nat}, memB t us = false → t ∉ us
  | [], t, _ => by simp
  | u :: us, t, h => by
    simp only [memB] at h
    split at h
    · cases h
    · rename_i hb
      have := memB_mem h
      intro hm
      rcases List.mem_cons.1 hm with rfl | hm
      · simp at hb
      · exact this hm

theorem dstsB_eq : ∀ {os : List Oper} {seen : List Nat}, dstsB os seen = true → (∀ (i : Nat) o t, os[i]? = some o → o.dst = some t → t ∉ seen) ∧
    ∀ (i j : Nat) o p t, os[i]? = some o → os[j]? = some p → o.dst = some t → p.dst = some t → i = j
  | [], seen, _ => ⟨by simp, by simp⟩
  | o :: os, seen, h => by
    simp only [dstsB] at h
    split at h
    · rename_i hd
      obtain ⟨h1, h2⟩ := dstsB_eq h
      refine ⟨fun i p t hi ht => ?_, fun i j p q t hi hj hp hq => ?_⟩
      · cases i with
        | zero => simp at hi; subst hi; rw [hd] at ht; cases ht
        | succ i => exact h1 i p t (by simpa using hi) ht
      · cases i with
        | zero => simp at hi; subst hi; rw [hd] at hp; cases hp
        | succ i =>
          cases j with
          | zero => simp at hj; subst hj; rw [hd] at hq; cases hq
          | succ j => rw [h2 i j p q t (by simpa using hi) (by simpa using hj) hp hq]
    · rename_i u hd
      split at h
      · cases h
      · rename_i hm
        have hm := memB_mem hm
        obtain ⟨h1, h2⟩ := dstsB_eq h
        refine ⟨fun i p t hi ht => ?_, fun i j p q t hi hj hp hq => ?_⟩
        · cases i with
          | zero => simp at hi; subst hi; rw [hd] at ht; cases ht; exact hm
          | succ i => exact fun hs => h1 i p t (by simpa using hi) ht (by simp [hs])
        · cases i with
          | zero =>
            simp at hi; subst hi
            cases j with
            | zero => rfl
            | succ j => rw [hd] at hp; cases hp; exact (h1 j q u (by simpa using hj) hq (by simp)).elim
          | succ i =>
            cases j with
            | zero => simp at hj; subst hj; rw [hd] at hq; cases hq; exact (h1 i p u (by simpa using hi) hp (by simp)).elim
            | succ j => rw [h2 i j p q t (by simpa using hi) (by simpa using hj) hp hq]

theorem revDK_eq : ∀ {xs acc : List DI} {K : List DI → Prop}, revDK xs acc K → K (xs.reverse ++ acc)
  | [], acc, K, h => by simpa [revDK] using h
  | x :: xs, acc, K, h => by
    simp only [revDK] at h
    have := revDK_eq h
    simpa using this

theorem finK_eq : ∀ {A : List DE} {s : List (Nat × D)} {K : List (Nat × D) → Prop}, finK A s K →
    ∃ s', K s' ∧ ∀ t, (∃ e ∈ A, e.x.o.dst = some t ∧ look s' t = e.d) ∨ (look s' t = look s t ∧ ∀ e ∈ A, e.x.o.dst ≠ some t)
  | [], s, K, h => ⟨s, h, fun t => .inr ⟨rfl, by simp⟩⟩
  | e :: es, s, K, h => by
    rw [finK_cons] at h
    split at h
    · rename_i hd
      obtain ⟨s', h1, h2⟩ := finK_eq h
      refine ⟨s', h1, fun t => ?_⟩
      rcases h2 t with ⟨e', h3, h4⟩ | ⟨h3, h4⟩
      · exact .inl ⟨e', by simp [h3], h4⟩
      · refine .inr ⟨h3, fun z hz hzd => ?_⟩
        rcases List.mem_cons.1 hz with rfl | hz
        · rw [hd] at hzd; cases hzd
        · exact h4 z hz hzd
    · rename_i u hd
      obtain ⟨s', h1, h2⟩ := finK_eq h
      refine ⟨_, h1, fun t => ?_⟩
      rw [look_cons]
      by_cases hut : u = t
      · exact .inl ⟨e, by simp, by rw [hd, hut], by rw [if_pos hut]⟩
      · rw [if_neg hut]
        rcases h2 t with ⟨e', h3, h4⟩ | ⟨h3, h4⟩
        · exact .inl ⟨e', by simp [h3], h4⟩
        · refine .inr ⟨h3, fun z hz hzd => ?_⟩
          rcases List.mem_cons.1 hz with rfl | hz
          · rw [hd] at hzd; cases hzd; exact hut rfl
          · exact h4 z hz hzd

end Go.Plat
