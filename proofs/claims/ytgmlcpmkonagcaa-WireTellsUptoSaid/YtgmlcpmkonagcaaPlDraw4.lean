/-
  The condition of a region that draws its order is enough: what the evaluation tells.
-/
import Derived.Test.YtgmlcpmkonagcaaPlDraw3
namespace Go.Plat
open Go
set_option linter.unusedVariables false
set_option linter.unusedSimpArgs false

/-- the objects behind c of the changes -/
def Lat : List (Nat × List Ob) → List Ob → Nat → List Ob
  | [], L, _ => L
  | (_, Lb) :: ws, L, c => if c ≤ ws.length then Lat ws Lb c else L
/-- which change is the r-th -/
def Wat : List (Nat × List Ob) → Nat → Option Nat
  | [], _ => none
  | (i, _) :: ws, r => if r = ws.length then some i else Wat ws r

theorem Lat_len : ∀ {ws : List (Nat × List Ob)} {L : List Ob}, Lat ws L ws.length = L
  | [], L => rfl
  | (i, Lb) :: ws, L => by simp [Lat]; omega
theorem Wat_lt : ∀ {ws : List (Nat × List Ob)} {r i : Nat}, Wat ws r = some i → r < ws.length
  | [], r, i, h => by simp [Wat] at h
  | (j, Lb) :: ws, r, i, h => by
    simp only [Wat] at h
    split at h
    · rename_i hr; simp [hr]
    · have := Wat_lt h; simp; omega
theorem Lat_cons {i : Nat} {Lb : List Ob} {ws : List (Nat × List Ob)} {L : List Ob} {c : Nat} (h : c ≤ ws.length) : Lat ((i, Lb) :: ws) L c = Lat ws Lb c := by simp [Lat, h]
theorem Wat_cons {i : Nat} {Lb : List Ob} {ws : List (Nat × List Ob)} {r : Nat} (h : r < ws.length) : Wat ((i, Lb) :: ws) r = Wat ws r := by
  simp only [Wat]; rw [if_neg (by omega)]
theorem Wat_new {i : Nat} {Lb : List Ob} {ws : List (Nat × List Ob)} : Wat ((i, Lb) :: ws) ws.length = some i := by simp [Wat]
theorem Wat_some : ∀ {ws : List (Nat × List Ob)} {r : Nat}, r < ws.length → ∃ i, Wat ws r = some i
  | [], r, h => by simp at h
  | (j, Lb) :: ws, r, h => by
    simp only [Wat]
    split
    · exact ⟨_, rfl⟩
    · exact Wat_some (by simp at h; omega)
theorem Wat_mem : ∀ {ws : List (Nat × List Ob)} {r i : Nat}, Wat ws r = some i → ∃ L, (i, L) ∈ ws
  | [], r, i, h => by simp [Wat] at h
  | (j, Lb) :: ws, r, i, h => by
    simp only [Wat] at h
    split at h
    · cases h; exact ⟨Lb, by simp⟩
    · obtain ⟨L, h⟩ := Wat_mem h; exact ⟨L, by simp [h]⟩

/-- what the slots of an operation tell -/
def View (A : List DE) (its : List DI) (σ0 : List (Nat × D)) (x : DI) (s : List (Nat × D)) : Prop :=
  ∀ t, (∃ e ∈ A, e.x.o.dst = some t ∧ bit x.m e.x.i = true ∧ DEq (look s t) e.d) ∨ look s t = .any ∨
    (DEq (look s t) (look σ0 t) ∧ ∀ y ∈ its, y.o.dst = some t → y.i = x.i ∨ bit y.m x.i = true)

def Runs (all : List Oper) (o : Oper) (s : List (Nat × D)) (b : Bool) : Prop :=
  ∀ (a : Act) (w : World) (ρ : Pl) (L : List Ob), Env w ρ L s a → Region.wanted o (yielded all.toArray a.tmps) = b

def RFact (P : Program) (its : List DI) (ws : List (Nat × List Ob)) (L : List Ob) (e : DE) : Prop :=
  ∀ c, c ≤ ws.length → (∀ (r i : Nat) (y : DI), Wat ws r = some i → y ∈ its → y.i = i → (r < c → bit y.m e.x.i = false) ∧ (c ≤ r → bit e.x.m i = false)) →
    OpOk P e.x.o e.s (Lat ws L c) e.d (Lat ws L c)

def AnyD (d : D) : Prop := ∀ (w : World) (F : Nat → Nat → Prop) (ρ : Pl) (L : List Ob), Rep w F ρ L d undef

def NotW (ws : List (Nat × List Ob)) (i : Nat) : Prop := ∀ r, Wat ws r ≠ some i

def Kind (P : Program) (all : List Oper) (its : List DI) (ws : List (Nat × List Ob)) (L : List Ob) (e : DE) : Prop :=
  (Runs all e.x.o e.s false ∧ AnyD e.d ∧ NotW ws e.x.i ∧ e.r = false) ∨
  (Runs all e.x.o e.s true ∧ (
    ((∀ L, OpOk P e.x.o e.s L e.d L) ∧ NotW ws e.x.i ∧ e.r = false) ∨
    (RFact P its ws L e ∧ NotW ws e.x.i ∧ e.r = true) ∨
    (e.r = false ∧ ∃ r, Wat ws r = some e.x.i ∧ OpOk P e.x.o e.s (Lat ws L r) e.d (Lat ws L (r + 1)))))

structure Facts (P : Program) (n : Nat) (all : List Oper) (its : List DI) (σ0 : List (Nat × D)) (A : List DE) (ws : List (Nat × List Ob)) (L : List Ob) : Prop where
  nodup : (A.map fun e => e.x.i).Nodup
  item : ∀ e ∈ A, e.x ∈ its
  dst : ∀ e ∈ A, ∀ t, e.x.o.dst = some t → t < n
  view : ∀ e ∈ A, View A its σ0 e.x e.s
  kind : ∀ e ∈ A, Kind P all its ws L e
  wsA : ∀ r i, Wat ws r = some i → ∃ e ∈ A, e.x.i = i
  tot : ∀ (r r' i i' : Nat) (y : DI), r' < r → Wat ws r = some i → Wat ws r' = some i' → y ∈ its → y.i = i → bit y.m i' = true

theorem View.same {A A' : List DE} {its : List DI} {σ0 : List (Nat × D)} {x : DI} {s : List (Nat × D)} (h : View A its σ0 x s) (hs : Same A A') : View A' its σ0 x s := fun t => by
  rcases h t with ⟨e, h1, h2, h3, h4⟩ | h | h
  · obtain ⟨e', h5, h6, _, _, h7⟩ := hs.2.1 e h1
    exact .inl ⟨e', h5, by rw [h6]; exact h2, by rw [h6]; exact h3, h4.trans h7⟩
  · exact .inr (.inl h)
  · exact .inr (.inr h)

theorem View.more {A A' : List DE} {its : List DI} {σ0 : List (Nat × D)} {x : DI} {s : List (Nat × D)} (h : View A its σ0 x s) (hs : ∀ e ∈ A, e ∈ A') : View A' its σ0 x s := fun t => by
  rcases h t with ⟨e, h1, h2⟩ | h | h
  · exact .inl ⟨e, hs e h1, h2⟩
  · exact .inr (.inl h)
  · exact .inr (.inr h)

/-- every datum reads as anything -/
theorem Kind.same {P : Program} {all : List Oper} {its : List DI} {ws : List (Nat × List Ob)} {L : List Ob} {e e' : DE} (h : Kind P all its ws L e) (hx : e'.x = e.x) (hs : e'.s = e.s) (hr : e'.r = e.r) (hd : DEq e.d e'.d) : Kind P all its ws L e' := by
  obtain ⟨x, d, s, r⟩ := e
  obtain ⟨x', d', s', r'⟩ := e'
  simp only at hx hs hr hd
  subst hx; subst hs; subst hr
  rcases h with ⟨h1, h2, h3⟩ | ⟨h1, ⟨h2, h3⟩ | ⟨h2, h3⟩ | ⟨h2, r, h3, h4⟩⟩
  · exact .inl ⟨h1, fun w F ρ L => (hd w F ρ L undef).1 (h2 w F ρ L), h3⟩
  · exact .inr ⟨h1, .inl ⟨fun L => (h2 L).eqv hd, h3⟩⟩
  · exact .inr ⟨h1, .inr (.inl ⟨fun c hc hw => (h2 c hc hw).eqv hd, h3⟩)⟩
  · exact .inr ⟨h1, .inr (.inr ⟨h2, r, h3, h4.eqv hd⟩)⟩

theorem nodup_inj {α : Type} {f : α → Nat} : ∀ {l : List α}, (l.map f).Nodup → ∀ x ∈ l, ∀ y ∈ l, f x = f y → x = y
  | [], _, x, hx, _, _, _ => by simp at hx
  | a :: l, h, x, hx, y, hy, hxy => by
    simp only [List.map_cons, List.nodup_cons] at h
    have no : ∀ z ∈ l, f a ≠ f z := fun z hz e => h.1 (by rw [e]; exact List.mem_map_of_mem hz)
    rcases List.mem_cons.1 hx with e | hx <;> rcases List.mem_cons.1 hy with e' | hy
    · rw [e, e']
    · rw [e] at hxy; exact (no y hy hxy).elim
    · rw [e'] at hxy; exact (no x hx hxy.symm).elim
    · exact nodup_inj h.2 x hx y hy hxy

theorem Facts.same {P : Program} {n : Nat} {all : List Oper} {its : List DI} {σ0 : List (Nat × D)} {A A' : List DE} {ws : List (Nat × List Ob)} {L : List Ob}
    (h : Facts P n all its σ0 A ws L) (hs : Same A A') : Facts P n all its σ0 A' ws L where
  nodup := by
    have e : (A'.map fun e => e.x.i) = A.map fun e => e.x.i := by
      have := congrArg (List.map fun x : DI => x.i) hs.1
      simp only [List.map_map] at this
      exact this
    rw [e]; exact h.nodup
  item e' he' := by obtain ⟨e, h1, h2, _⟩ := hs.2.2 e' he'; rw [h2]; exact h.item e h1
  dst e' he' := by obtain ⟨e, h1, h2, _⟩ := hs.2.2 e' he'; rw [h2]; exact h.dst e h1
  view e' he' := by
    obtain ⟨e, h1, h2, h3, _⟩ := hs.2.2 e' he'
    rw [h2, h3]; exact (h.view e h1).same hs
  kind e' he' := by
    obtain ⟨e, h1, h2, h3, h4, h5⟩ := hs.2.2 e' he'
    exact (h.kind e h1).same h2 h3 h4 h5
  wsA r i hi := by
    obtain ⟨e, h1, h2⟩ := h.wsA r i hi
    obtain ⟨e', h3, h4, _⟩ := hs.2.1 e h1
    exact ⟨e', h3, by rw [h4]; exact h2⟩
  tot := h.tot

theorem guardDK_eq {P : Program} {all : List Oper} {o : Oper} {s : List (Nat × D)} {A : List DE} {run skip : List (Nat × D) → List DE → Prop} {its : List DI} {σ0 : List (Nat × D)} {x : DI}
    (h : guardDK all o.guard s A run skip) (hv : View A its σ0 x s) (huq : ∀ (e : DE) t, e ∈ A → e.x.o.dst = some t → ∀ e' ∈ A, e'.x.o.dst = some t → e = e')
    (hno : ∀ (e : DE) t, e ∈ A → e.x.o.dst = some t → (∃ e' ∈ A, e'.x.o.dst = some t ∧ bit x.m e'.x.i = true ∧ DEq (look s t) e'.d) ∨ look s t = .any) :
    ∃ s' A', Same A A' ∧ View A' its σ0 x s' ∧ ((Runs all o s' true ∧ run s' A') ∨ (Runs all o s' false ∧ skip s' A')) := by
  unfold guardDK at h
  split at h
  · rename_i hg
    exact ⟨s, A, ⟨rfl, fun e he => ⟨e, he, rfl, rfl, rfl, .refl _⟩, fun e he => ⟨e, he, rfl, rfl, rfl, .refl _⟩⟩, hv, .inl ⟨fun a w ρ L he => by simp [Region.wanted, hg], h⟩⟩
  · rename_i j want hg
    split at h <;> try exact h.elim
    rename_i t ht
    have hw : ∀ (a : Act) b, a.tmps.getD t undef = .bool b → Region.wanted o (yielded all.toArray a.tmps) = (b == want) := fun a b hb => by
      simp only [Region.wanted, hg, yielded_eq ht hb]
      cases b <;> cases want <;> rfl
    have hself : Same A A := ⟨rfl, fun e he => ⟨e, he, rfl, rfl, rfl, .refl _⟩, fun e he => ⟨e, he, rfl, rfl, rfl, .refl _⟩⟩
    have htt : ∀ {s' : List (Nat × D)} {want' : Bool}, look s' t = .tt → (true == want) = want' → Runs all o s' want' := fun hl hb a w ρ L he => by
      have := he t
      rw [hl] at this
      rw [hw a true this.tt_inv]; exact hb
    have hff : ∀ {s' : List (Nat × D)} {want' : Bool}, look s' t = .ff → (false == want) = want' → Runs all o s' want' := fun hl hb a w ρ L he => by
      have := he t
      rw [hl] at this
      rw [hw a false this.ff_inv]; exact hb
    have hdq : ∀ {b : Bool} {d : D}, look s t = .bool b → DEq (.bool b) d → ∀ e ∈ A, e.x.o.dst = some t → DEq e.d d := fun hl hd e he hed => by
      rcases hno e t he hed with ⟨e', h1, h2, _, h3⟩ | h1
      · rw [huq e t he hed e' h1 h2]
        rw [hl] at h3
        exact h3.symm.trans hd
      · rw [hl] at h1; cases h1
    have hvw : ∀ {b : Bool} {d : D} {A' : List DE}, look s t = .bool b → DEq (.bool b) d → Same A A' → View A' its σ0 x ((t, d) :: s) := fun {b d A'} hl hd hs u => by
      rw [look_cons]
      by_cases hut : t = u
      · rw [if_pos hut]
        subst hut
        rcases (hv.same hs) t with ⟨e, h1, h2, h3, h4⟩ | h1 | ⟨h1, h2⟩
        · rw [hl] at h4
          exact .inl ⟨e, h1, h2, h3, hd.symm.trans h4⟩
        · rw [hl] at h1; cases h1
        · rw [hl] at h1
          exact .inr (.inr ⟨hd.symm.trans h1, h2⟩)
      · rw [if_neg hut]
        exact (hv.same hs) u
    have lk : ∀ d, look ((t, d) :: s) t = d := fun d => by rw [look_cons, if_pos rfl]
    split at h <;> try exact h.elim
    · rename_i hl
      split at h
      · exact ⟨s, A, hself, hv, .inl ⟨htt hl rfl, h⟩⟩
      · exact ⟨s, A, hself, hv, .inr ⟨htt hl rfl, h⟩⟩
    · rename_i hl
      split at h
      · exact ⟨s, A, hself, hv, .inr ⟨hff hl rfl, h⟩⟩
      · exact ⟨s, A, hself, hv, .inl ⟨hff hl rfl, h⟩⟩
    · rename_i b hl
      split at h
      · cases b
        · obtain ⟨A', h1, h2⟩ := refineAK_eq (hdq hl (DEq.ff rfl)) (h.out.2 rfl)
          exact ⟨_, A', h2, hvw hl (DEq.ff rfl) h2, .inr ⟨hff (lk _) rfl, h1⟩⟩
        · obtain ⟨A', h1, h2⟩ := refineAK_eq (hdq hl (DEq.tt rfl)) (h.out.1 rfl)
          exact ⟨_, A', h2, hvw hl (DEq.tt rfl) h2, .inl ⟨htt (lk _) rfl, h1⟩⟩
      · cases b
        · obtain ⟨A', h1, h2⟩ := refineAK_eq (hdq hl (DEq.ff rfl)) (h.out.2 rfl)
          exact ⟨_, A', h2, hvw hl (DEq.ff rfl) h2, .inl ⟨hff (lk _) rfl, h1⟩⟩
        · obtain ⟨A', h1, h2⟩ := refineAK_eq (hdq hl (DEq.tt rfl)) (h.out.1 rfl)
          exact ⟨_, A', h2, hvw hl (DEq.tt rfl) h2, .inr ⟨htt (lk _) rfl, h1⟩⟩
    · rename_i ds hl
      split at h <;> try exact h.elim
      refine ⟨s, A, hself, hv, .inr ⟨fun a w ρ L he => ?_, h⟩⟩
      have hv := he t
      rw [hl] at hv
      simp only [Region.wanted, hg, yielded_none ht hv.undef_inv]
      rfl

theorem reK_eq {P : Program} {T : Tab} (hT : TabOk P T) {s : List (Nat × D)} {L : List Ob} {o : Oper} {d : D} {K : Prop} (h : reK P T s L o.op d K) : OpOk P o s L d L ∧ K := by
  rcases opK_sound hT h with ⟨d', h1, h2⟩ | ⟨d', h1, h2⟩ | ⟨d', L', h1, h2⟩
  · obtain ⟨rfl, h3⟩ := h2.out; exact ⟨h1 L, h3⟩
  · obtain ⟨rfl, h3⟩ := h2.out; exact ⟨h1, h3⟩
  · exact h2.elim

theorem backK_eq {P : Program} {T : Tab} (hT : TabOk P T) {x : DI} {s : List (Nat × D)} {d : D} : ∀ {ws : List (Nat × List Ob)} {K : Prop}, backK P T x s d ws K →
    K ∧ ∀ L c, c < ws.length → (∀ r i, Wat ws r = some i → c ≤ r → bit x.m i = false) → OpOk P x.o s (Lat ws L c) d (Lat ws L c)
  | [], K, h => ⟨h, by simp⟩
  | (i, Lb) :: ws, K, h => by
    rw [backK_cons] at h
    split at h
    · rename_i hb
      refine ⟨h, fun L c hc hw => ?_⟩
      have := hw ws.length i Wat_new (by simp at hc; omega)
      rw [hb] at this; cases this
    · obtain ⟨h1, h2⟩ := reK_eq hT h
      obtain ⟨h3, h4⟩ := backK_eq hT h2
      refine ⟨h3, fun L c hc hw => ?_⟩
      have hc : c ≤ ws.length := by simp at hc; omega
      rw [Lat_cons hc]
      rcases Nat.lt_or_ge c ws.length with hlt | hge
      · exact h4 Lb c hlt fun r j hj hr => hw r j (by rw [Wat_cons (Wat_lt hj)]; exact hj) hr
      · have : c = ws.length := by omega
        subst this
        rw [Lat_len]; exact h1

theorem forthK_eq {P : Program} {T : Tab} (hT : TabOk P T) {x : DI} {L : List Ob} : ∀ {A : List DE} {K : Prop}, forthK P T x L A K →
    K ∧ ∀ e ∈ A, e.r = true → bit x.m e.x.i = false → OpOk P e.x.o e.s L e.d L
  | [], K, h => ⟨h, by simp⟩
  | e :: es, K, h => by
    rw [forthK_cons] at h
    have fin : ∀ {K' : Prop}, (forthK P T x L es K) → ((e.r = true → bit x.m e.x.i = false → OpOk P e.x.o e.s L e.d L)) → K ∧ ∀ e' ∈ e :: es, e'.r = true → bit x.m e'.x.i = false → OpOk P e'.x.o e'.s L e'.d L := by
      intro K' h1 h2
      obtain ⟨h3, h4⟩ := forthK_eq hT h1
      refine ⟨h3, fun e' he' => ?_⟩
      rcases List.mem_cons.1 he' with rfl | he'
      · exact h2
      · exact h4 e' he'
    split at h
    · rename_i hr
      exact fin (K' := True) h fun h1 => by rw [hr] at h1; cases h1
    · split at h
      · rename_i hb
        exact fin (K' := True) h fun _ h1 => by rw [hb] at h1; cases h1
      · obtain ⟨h1, h2⟩ := reK_eq hT h
        exact fin (K' := True) h2 fun _ _ => h1

theorem behindK_eq {x : DI} : ∀ {ws : List (Nat × List Ob)} {K : Prop}, behindK x ws K → K ∧ ∀ p ∈ ws, bit x.m p.1 = true
  | [], K, h => ⟨h, by simp⟩
  | (i, Lb) :: ws, K, h => by
    simp only [behindK] at h
    split at h
    · rename_i hb
      obtain ⟨h1, h2⟩ := behindK_eq h
      refine ⟨h1, fun p hp => ?_⟩
      rcases List.mem_cons.1 hp with rfl | hp
      · exact hb
      · exact h2 p hp
    · exact h.elim

theorem dstK_eq {n : Nat} {dst : Option Nat} {K : Prop} (h : dstK n dst K) : K ∧ ∀ t, dst = some t → t < n := by
  unfold dstK at h
  split at h
  · exact ⟨h, by simp⟩
  · split at h
    · rename_i hb
      exact ⟨h, fun t ht => by cases ht; simpa [Nat.blt_eq] using hb⟩
    · exact h.elim

/-- a further change leaves what was known -/
theorem Kind.push {P : Program} {all : List Oper} {its : List DI} {ws : List (Nat × List Ob)} {L L' : List Ob} {e : DE} {x : DI} (h : Kind P all its ws L e) (hx : x ∈ its) (hne : e.x.i ≠ x.i)
    (hr : e.r = true → bit x.m e.x.i = false → OpOk P e.x.o e.s L' e.d L') : Kind P all its ((x.i, L) :: ws) L' e := by
  have hnw : NotW ws e.x.i → NotW ((x.i, L) :: ws) e.x.i := fun h r hr => by
    simp only [Wat] at hr
    split at hr
    · exact hne (Option.some.inj hr).symm
    · exact h r hr
  rcases h with ⟨h1, h2, h3, h4⟩ | ⟨h1, ⟨h2, h3, h4⟩ | ⟨h2, h3, h4⟩ | ⟨h2, r, h3, h4⟩⟩
  · exact .inl ⟨h1, h2, hnw h3, h4⟩
  · exact .inr ⟨h1, .inl ⟨h2, hnw h3, h4⟩⟩
  · refine .inr ⟨h1, .inr (.inl ⟨fun c hc hw => ?_, hnw h3, h4⟩)⟩
    rcases Nat.lt_or_ge ws.length c with hlt | hge
    · have hc : c = ws.length + 1 := by simp at hc; omega
      subst hc
      have : Lat ((x.i, L) :: ws) L' (ws.length + 1) = L' := by simp only [Lat]; rw [if_neg (by omega)]
      rw [this]
      exact hr h4 ((hw ws.length x.i x Wat_new hx rfl).1 (by omega))
    · rw [Lat_cons hge]
      exact h2 c hge fun r i y hi hy hyi => hw r i y (by rw [Wat_cons (Wat_lt hi)]; exact hi) hy hyi
  · have hlt := Wat_lt h3
    refine .inr ⟨h1, .inr (.inr ⟨h2, r, by rw [Wat_cons hlt]; exact h3, ?_⟩)⟩
    rw [Lat_cons (by omega), Lat_cons (by omega)]
    exact h4

theorem View.cons {A : List DE} {its : List DI} {σ0 : List (Nat × D)} {x : DI} {s : List (Nat × D)} {e : DE} (h : View A its σ0 x s) : View (e :: A) its σ0 x s := h.more fun _ h => List.mem_cons_of_mem _ h

theorem Facts.cons {P : Program} {n : Nat} {all : List Oper} {its : List DI} {σ0 : List (Nat × D)} {A : List DE} {ws : List (Nat × List Ob)} {L : List Ob} (h : Facts P n all its σ0 A ws L) {e : DE}
    (hx : e.x ∈ its) (hnew : ∀ e' ∈ A, e'.x.i ≠ e.x.i) (hd : ∀ t, e.x.o.dst = some t → t < n) (hv : View A its σ0 e.x e.s) (hk : Kind P all its ws L e) : Facts P n all its σ0 (e :: A) ws L where
  nodup := by
    simp only [List.map_cons, List.nodup_cons]
    refine ⟨fun hm => ?_, h.nodup⟩
    obtain ⟨e', h1, h2⟩ := List.mem_map.1 hm
    exact hnew e' h1 h2
  item e' he' := by rcases List.mem_cons.1 he' with rfl | he'; exact hx; exact h.item e' he'
  dst e' he' := by rcases List.mem_cons.1 he' with rfl | he'; exact hd; exact h.dst e' he'
  view e' he' := by rcases List.mem_cons.1 he' with rfl | he'; exact hv.cons; exact (h.view e' he').cons
  kind e' he' := by rcases List.mem_cons.1 he' with rfl | he'; exact hk; exact h.kind e' he'
  wsA r i hi := by obtain ⟨e', h1, h2⟩ := h.wsA r i hi; exact ⟨e', by simp [h1], h2⟩
  tot := h.tot

theorem dvK_eq {P : Program} {T : Tab} (hT : TabOk P T) {n : Nat} {all : List Oper} {σ0 : List (Nat × D)} {its : List DI} (hI : Items all its)
    (hdst : ∀ x ∈ its, ∀ y ∈ its, ∀ t, x.o.dst = some t → y.o.dst = some t → x.i = y.i) {L0 : List Ob} :
    ∀ {xs : List DI} {A : List DE} {ws : List (Nat × List Ob)} {L : List Ob} {K : List DE → List Ob → Prop}, dvK P T n all σ0 xs A ws L K → Facts P n all its σ0 A ws L →
      (∀ x ∈ xs, x ∈ its) → (∀ y ∈ its, (∃ e ∈ A, e.x = y) ∨ y ∈ xs) → (∀ e ∈ A, ∀ y ∈ xs, e.x.i ≠ y.i) → (xs.map (·.i)).Nodup → Lat ws L 0 = L0 →
      ∃ A' ws' L', K A' L' ∧ Facts P n all its σ0 A' ws' L' ∧ (∀ y ∈ its, ∃ e ∈ A', e.x = y) ∧ Lat ws' L' 0 = L0
  | [], A, ws, L, K, h, hF, _, hall, _, _, h0 => ⟨A, ws, L, h, hF, fun y hy => (hall y hy).resolve_right (by simp), h0⟩
  | x :: xs, A, ws, L, K, h, hF, hxs, hall, hne, hnd, h0 => by
    rw [dvK_cons] at h
    obtain ⟨h, hdlt⟩ := dstK_eq h
    obtain ⟨s1, h, hs1⟩ := viewTK_eq h
    obtain ⟨s2, h, hs2⟩ := viewAK_eq h
    have hx : x ∈ its := hxs x (by simp)
    have hv : View A its σ0 x s2 := fun t => by
      rcases hs2 t with ⟨e, h1, h2, h3, h4⟩ | h1 | ⟨h1, h2⟩
      · exact .inl ⟨e, h1, h2, h3, by rw [h4]; exact .refl _⟩
      · exact .inr (.inl h1)
      · rcases hs1 t with h3 | ⟨h3, h4⟩
        · exact .inr (.inl (h1.trans h3))
        · refine .inr (.inr ⟨by rw [h1, h3]; exact .refl _, fun y hy hyd => ?_⟩)
          rcases hall y hy with ⟨e, h5, h6⟩ | h5
          · exact (h2 e h5 (by rw [h6]; exact hyd)).elim
          · rcases List.mem_cons.1 h5 with rfl | h5
            · exact .inl rfl
            · exact .inr (h4 y h5 hyd)
    obtain ⟨s, A1, hsame, hv1, hrun⟩ := guardDK_eq (P := P) h hv (fun e t he hed e' he' hed' => by
      refine nodup_inj hF.nodup e he e' he' ?_
      exact hdst _ (hF.item e he) _ (hF.item e' he') t hed hed') (fun e t he hed => by
      rcases hs2 t with ⟨e', h1, h2, h3, h4⟩ | h1 | ⟨h1, h2⟩
      · exact .inl ⟨e', h1, h2, h3, by rw [h4]; exact .refl _⟩
      · exact .inr h1
      · exact (h2 e he hed).elim)
    have hF1 := hF.same hsame
    have hne1 : ∀ e ∈ A1, ∀ y ∈ x :: xs, e.x.i ≠ y.i := fun e he y hy => by
      obtain ⟨e', h1, h2, _⟩ := hsame.2.2 e he
      rw [h2]; exact hne e' h1 y hy
    have hall1 : ∀ (e : DE), e.x = x → ∀ y ∈ its, (∃ e' ∈ e :: A1, e'.x = y) ∨ y ∈ xs := fun e hex y hy => by
      rcases hall y hy with ⟨e', h1, h2⟩ | h1
      · obtain ⟨e2, h3, h4, _⟩ := hsame.2.1 e' h1
        exact .inl ⟨e2, by simp [h3], h4.trans h2⟩
      · rcases List.mem_cons.1 h1 with rfl | h1
        · exact .inl ⟨e, by simp, hex⟩
        · exact .inr h1
    simp only [List.map_cons, List.nodup_cons] at hnd
    have hnx : ∀ y ∈ xs, x.i ≠ y.i := fun y hy e => hnd.1 (List.mem_map.2 ⟨y, hy, e.symm⟩)
    have hne2 : ∀ (e : DE), e.x = x → ∀ e' ∈ e :: A1, ∀ y ∈ xs, e'.x.i ≠ y.i := fun e hex e' he' y hy => by
      rcases List.mem_cons.1 he' with rfl | he'
      · rw [hex]; exact hnx y hy
      · exact hne1 e' he' y (by simp [hy])
    have hnew : ∀ e' ∈ A1, e'.x.i ≠ x.i := fun e' he' => hne1 e' he' x (by simp)
    have hxs' : ∀ y ∈ xs, y ∈ its := fun y hy => hxs y (by simp [hy])
    have hnotw : NotW ws x.i := fun r hr => by
      obtain ⟨e, h1, h2⟩ := hF1.wsA r _ hr
      exact hnew e h1 h2
    rcases hrun with ⟨hr1, hop⟩ | ⟨hr1, hsk⟩
    · rcases opK_sound hT hop with ⟨d, h1, h2⟩ | ⟨d, h1, h2⟩ | ⟨d, L', h1, h2⟩
      · exact dvK_eq hT hI hdst h2 (hF1.cons (e := ⟨x, d, s, false⟩) hx hnew hdlt hv1 (.inr ⟨hr1, .inl ⟨h1, hnotw, rfl⟩⟩)) hxs' (hall1 _ rfl) (hne2 _ rfl) hnd.2 h0
      · obtain ⟨h3, h4⟩ := backK_eq hT h2
        refine dvK_eq hT hI hdst h3 (hF1.cons (e := ⟨x, d, s, true⟩) hx hnew hdlt hv1 (.inr ⟨hr1, .inr (.inl ⟨fun c hc hw => ?_, hnotw, rfl⟩)⟩)) hxs' (hall1 _ rfl) (hne2 _ rfl) hnd.2 h0
        rcases Nat.lt_or_ge c ws.length with hlt | hge
        · refine h4 L c hlt fun r i hi hr => ?_
          obtain ⟨e, h5, h6⟩ := hF1.wsA r i hi
          exact (hw r i e.x hi (hF1.item e h5) h6).2 hr
        · have : c = ws.length := by omega
          subst this
          rw [Lat_len]; exact h1
      · obtain ⟨h3, h4⟩ := behindK_eq h2
        obtain ⟨h5, h6⟩ := forthK_eq hT h3
        have hF2 : Facts P n all its σ0 (⟨x, d, s, false⟩ :: A1) ((x.i, L) :: ws) L' := by
          refine ⟨?_, ?_, ?_, ?_, ?_, ?_, ?_⟩
          · simp only [List.map_cons, List.nodup_cons]
            refine ⟨fun hm => ?_, hF1.nodup⟩
            obtain ⟨e', h1, h2⟩ := List.mem_map.1 hm
            exact hnew e' h1 h2
          · intro e he
            rcases List.mem_cons.1 he with rfl | he; exact hx; exact hF1.item e he
          · intro e he
            rcases List.mem_cons.1 he with rfl | he; exact hdlt; exact hF1.dst e he
          · intro e he
            rcases List.mem_cons.1 he with rfl | he; exact hv1.cons; exact (hF1.view e he).cons
          · intro e he
            rcases List.mem_cons.1 he with rfl | he
            · refine .inr ⟨hr1, .inr (.inr ⟨rfl, ws.length, Wat_new, ?_⟩)⟩
              have e1 : Lat ((x.i, L) :: ws) L' ws.length = L := by rw [Lat_cons (Nat.le_refl _), Lat_len]
              have e2 : Lat ((x.i, L) :: ws) L' (ws.length + 1) = L' := by simp only [Lat]; rw [if_neg (by omega)]
              rw [e1, e2]; exact h1
            · exact (hF1.kind e he).push hx (hnew e he) (h6 e he)
          · intro r i hi
            simp only [Wat] at hi
            split at hi
            · cases hi; exact ⟨_, List.mem_cons_self, rfl⟩
            · obtain ⟨e, h7, h8⟩ := hF1.wsA r i hi
              exact ⟨e, by simp [h7], h8⟩
          · intro r r' i i' y hlt hi hi' hy hyi
            have hr' := Wat_lt hi
            simp at hr'
            rw [Wat_cons (by omega)] at hi'
            simp only [Wat] at hi
            split at hi
            · cases hi
              rw [hI.uniq y hy x hx hyi]
              obtain ⟨Lb, hm⟩ := Wat_mem hi'
              exact h4 _ hm
            · exact hF1.tot r r' i i' y hlt hi hi' hy hyi
        exact dvK_eq hT hI hdst h5 hF2 hxs' (hall1 _ rfl) (hne2 _ rfl) hnd.2 (by rw [Lat_cons (Nat.zero_le _)]; exact h0)
    · exact dvK_eq hT hI hdst hsk (hF1.cons (e := ⟨x, .tup [], s, false⟩) hx hnew hdlt hv1 (.inl ⟨hr1, fun w F ρ L => .pure _ _ (undef_rep _ _), hnotw, rfl⟩)) hxs' (hall1 _ rfl) (hne2 _ rfl) hnd.2 h0

end Go.Plat
