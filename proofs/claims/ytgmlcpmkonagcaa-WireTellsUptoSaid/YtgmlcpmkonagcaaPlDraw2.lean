/-
  What has to be done before an operation of a region; the condition of a region that draws its order.
-/
import Derived.Test.YtgmlcpmkonagcaaPlDraw
namespace Go.Plat
open Go
set_option linter.unusedVariables false
set_option linter.unusedSimpArgs false

def bit : List Bool → Nat → Bool
  | [], _ => false
  | b :: _, 0 => b
  | _ :: l, j + 1 => bit l j

def orK : List Bool → List Bool → (List Bool → Prop) → Prop
  | [], l, K => K l
  | a :: l, [], K => K (a :: l)
  | a :: l, b :: m, K => match a with
    | true => orK l m fun r => K (true :: r)
    | false => match b with
      | true => orK l m fun r => K (true :: r)
      | false => orK l m fun r => K (false :: r)

theorem orK_eq : ∀ {l m : List Bool} {K : List Bool → Prop}, orK l m K → ∃ r, K r ∧ ∀ j, bit r j = (bit l j || bit m j)
  | [], m, K, h => ⟨m, h, fun j => by simp [bit]⟩
  | a :: l, [], K, h => ⟨a :: l, h, fun j => by simp [bit]⟩
  | a :: l, b :: m, K, h => by
    simp only [orK] at h
    cases a <;> simp only at h
    · cases b <;> simp only at h
      all_goals
        obtain ⟨r, h1, h2⟩ := orK_eq h
        exact ⟨_, h1, fun j => by cases j <;> simp [bit, h2]⟩
    · obtain ⟨r, h1, h2⟩ := orK_eq h
      exact ⟨_, h1, fun j => by cases j <;> simp [bit, h2]⟩

def setK : Nat → List Bool → (List Bool → Prop) → Prop
  | 0, [], K => K [true]
  | 0, _ :: l, K => K (true :: l)
  | j + 1, [], K => setK j [] fun r => K (false :: r)
  | j + 1, b :: l, K => setK j l fun r => K (b :: r)

theorem setK_eq : ∀ {i : Nat} {l : List Bool} {K : List Bool → Prop}, setK i l K → ∃ r, K r ∧ ∀ j, bit r j = true → bit l j = true ∨ j = i
  | 0, [], K, h => ⟨_, h, fun j => by cases j <;> simp [bit]⟩
  | 0, a :: l, K, h => ⟨_, h, fun j => by
    cases j with
    | zero => simp
    | succ j => simp [bit]⟩
  | i + 1, [], K, h => by
    simp only [setK] at h
    obtain ⟨r, h1, h2⟩ := setK_eq h
    refine ⟨_, h1, fun j => ?_⟩
    cases j with
    | zero => simp [bit]
    | succ j => simpa [bit] using h2 j
  | i + 1, b :: l, K, h => by
    simp only [setK] at h
    obtain ⟨r, h1, h2⟩ := setK_eq h
    refine ⟨_, h1, fun j => ?_⟩
    cases j with
    | zero => simp only [bit]; exact Or.inl
    | succ j => simpa [bit] using h2 j

/-- an operation of a region, its number, what has to be done before it -/
structure DI where
  i : Nat
  o : Oper
  m : List Bool

def maskAt : List DI → Nat → List Bool
  | [], _ => []
  | x :: xs, j => match Nat.beq x.i j with
    | true => x.m
    | false => maskAt xs j

/-- what the edges say -/
def edgesK (done : List DI) (i : Nat) : List Edge → List Bool → (List Bool → Prop) → Prop
  | [], m, K => K m
  | e :: es, m, K => match Region.binds .any e with
    | false => edgesK done i es m K
    | true => match Nat.blt e.on i with
      | false => False
      | true => orK (maskAt done e.on) m fun m => setK e.on m fun m => edgesK done i es m K

/-- the operations, with what has to be done before each; their numbers read off a list (so that they stand there written out) -/
def itemsL (is : List Nat) : List Oper → List DI → (List DI → Prop) → Prop :=
  @List.rec Nat (fun _ => List Oper → List DI → (List DI → Prop) → Prop) (fun os acc K => match os with | [] => K acc | _ :: _ => False)
    (fun i _ ih os acc K => match os with
      | [] => K acc
      | o :: os => edgesK acc i o.after.toList [] fun m => ih os (⟨i, o, m⟩ :: acc) K) is
theorem itemsL_cons {i : Nat} {is : List Nat} {o : Oper} {os : List Oper} {acc : List DI} {K : List DI → Prop} : itemsL (i :: is) (o :: os) acc K = edgesK acc i o.after.toList [] fun m => itemsL is os (⟨i, o, m⟩ :: acc) K := rfl

def nats : List Nat := [0, 1, 2, 3, 4, 5, 6, 7, 8, 9, 10, 11, 12, 13, 14, 15, 16, 17, 18, 19, 20, 21, 22, 23, 24, 25, 26, 27, 28, 29, 30, 31, 32, 33, 34, 35, 36, 37, 38, 39, 40, 41, 42, 43, 44, 45, 46, 47, 48, 49, 50, 51, 52, 53, 54, 55, 56, 57, 58, 59, 60, 61, 62, 63, 64, 65, 66, 67, 68, 69, 70, 71, 72, 73, 74, 75, 76, 77, 78, 79, 80, 81, 82, 83, 84, 85, 86, 87, 88, 89, 90, 91, 92, 93, 94, 95, 96, 97, 98, 99, 100, 101, 102, 103, 104, 105, 106, 107, 108, 109, 110, 111, 112, 113, 114, 115, 116, 117, 118, 119, 120, 121, 122, 123, 124, 125, 126, 127, 128, 129, 130, 131, 132, 133, 134, 135, 136, 137, 138, 139, 140, 141, 142, 143, 144, 145, 146, 147, 148, 149, 150, 151, 152, 153, 154, 155, 156, 157, 158, 159, 160, 161, 162, 163, 164, 165, 166, 167, 168, 169, 170, 171, 172, 173, 174, 175, 176, 177, 178, 179, 180, 181, 182, 183, 184, 185, 186, 187, 188, 189, 190, 191, 192, 193, 194, 195, 196, 197, 198, 199, 200, 201, 202, 203, 204, 205, 206, 207, 208, 209, 210, 211, 212, 213, 214, 215, 216, 217, 218, 219, 220, 221, 222, 223, 224, 225, 226, 227, 228, 229, 230, 231, 232, 233, 234, 235, 236, 237, 238, 239, 240, 241, 242, 243, 244, 245, 246, 247, 248, 249, 250, 251, 252, 253, 254, 255, 256, 257, 258, 259, 260, 261, 262, 263, 264, 265, 266, 267, 268, 269, 270, 271, 272, 273, 274, 275, 276, 277, 278, 279, 280, 281, 282, 283, 284, 285, 286, 287, 288, 289, 290, 291, 292, 293, 294, 295, 296, 297, 298, 299]
set_option maxRecDepth 100000 in
theorem nats_get : ∀ (j k : Nat), nats[j]? = some k → k = j := by
  have h : nats = List.range 300 := by rfl
  intro j k hk
  rw [h] at hk
  obtain ⟨h, h2⟩ := List.getElem?_eq_some_iff.1 hk
  simp at h2
  exact h2.symm

/-- a mask that the edges ground -/
def Ground (done : List DI) (o : Oper) (m : List Bool) : Prop :=
  ∀ j, bit m j = true → ∃ e ∈ o.after.toList, Region.binds .any e = true ∧ (e.on = j ∨ ∃ y ∈ done, y.i = e.on ∧ bit y.m j = true)

theorem maskAt_mem : ∀ {xs : List DI} {i j : Nat}, bit (maskAt xs i) j = true → ∃ y ∈ xs, y.i = i ∧ bit y.m j = true
  | [], i, j, h => by simp [maskAt, bit] at h
  | x :: xs, i, j, h => by
    simp only [maskAt] at h
    split at h
    · rename_i hb
      exact ⟨x, by simp, Nat.eq_of_beq_eq_true hb, h⟩
    · obtain ⟨y, h1, h2⟩ := maskAt_mem h
      exact ⟨y, by simp [h1], h2⟩

theorem edgesK_eq {done : List DI} {i : Nat} {o : Oper} : ∀ {es : List Edge} {m : List Bool} {K : List Bool → Prop}, (∀ e ∈ es, e ∈ o.after.toList) → Ground done o m → edgesK done i es m K →
    ∃ m', K m' ∧ Ground done o m' ∧ ∀ e ∈ es, Region.binds .any e = true → e.on < i
  | [], m, K, _, hg, h => ⟨m, h, hg, by simp⟩
  | e :: es, m, K, hes, hg, h => by
    simp only [edgesK] at h
    split at h
    · rename_i hb
      obtain ⟨m', h1, h2, h3⟩ := edgesK_eq (fun x hx => hes x (by simp [hx])) hg h
      exact ⟨m', h1, h2, fun x hx hbx => by
        rcases List.mem_cons.1 hx with rfl | hx
        · rw [hb] at hbx; cases hbx
        · exact h3 x hx hbx⟩
    · rename_i hb
      split at h
      · exact h.elim
      · rename_i hlt
        have hlt : e.on < i := by simpa [Nat.blt_eq] using hlt
        obtain ⟨r, h1, h2⟩ := orK_eq h
        obtain ⟨r', h3, h4⟩ := setK_eq h1
        obtain ⟨m', h5, h6, h7⟩ := edgesK_eq (fun x hx => hes x (by simp [hx])) (m := r') (fun j hj => by
          rcases h4 j hj with h | h
          · rw [h2] at h
            rcases Bool.or_eq_true _ _ ▸ h with h | h
            · obtain ⟨y, h8, h9, h10⟩ := maskAt_mem h
              exact ⟨e, hes e (by simp), hb, .inr ⟨y, h8, h9, h10⟩⟩
            · exact hg j h
          · exact ⟨e, hes e (by simp), hb, .inl h.symm⟩) h3
        exact ⟨m', h5, h6, fun x hx hbx => by
          rcases List.mem_cons.1 hx with rfl | hx
          · exact hlt
          · exact h7 x hx hbx⟩

/-- the operations of a region, as they are -/
structure Items (all : List Oper) (its : List DI) : Prop where
  nodup : (its.map (·.i)).Nodup
  at_ : ∀ x ∈ its, all[x.i]? = some x.o
  uniq : ∀ x ∈ its, ∀ y ∈ its, x.i = y.i → x = y
  full : ∀ i, i < all.length → ∃ x ∈ its, x.i = i
  ground : ∀ x ∈ its, Ground its x.o x.m
  back : ∀ x ∈ its, ∀ e ∈ x.o.after.toList, Region.binds .any e = true → e.on < x.i

theorem Ground.mono {done done' : List DI} {o : Oper} {m : List Bool} (h : ∀ x ∈ done, x ∈ done') (hg : Ground done o m) : Ground done' o m := fun j hj => by
  obtain ⟨e, h1, h2, h3⟩ := hg j hj
  exact ⟨e, h1, h2, h3.imp id fun ⟨y, h4, h5⟩ => ⟨y, h _ h4, h5⟩⟩

theorem itemsL_eq {all : List Oper} : ∀ {os : List Oper} {i : Nat} {is : List Nat} {acc : List DI} {K : List DI → Prop}, (∀ j k, is[j]? = some k → k = i + j) → (∀ j, os[j]? = all[i + j]?) → i ≤ all.length →
    (∀ x ∈ acc, all[x.i]? = some x.o ∧ x.i < i) → (∀ x ∈ acc, ∀ y ∈ acc, x.i = y.i → x = y) → (∀ j, j < i → ∃ x ∈ acc, x.i = j) → (∀ x ∈ acc, Ground acc x.o x.m) →
    (∀ x ∈ acc, ∀ e ∈ x.o.after.toList, Region.binds .any e = true → e.on < x.i) → (acc.map (·.i)).Nodup → itemsL is os acc K → ∃ its, K its ∧ Items all its
  | o :: os, i, [], acc, K, his, hos, hi, h1, h2, h3, h4, h5, hnd, h => h.elim
  | [], i, is, acc, K, his, hos, hi, h1, h2, h3, h4, h5, hnd, h => by
    have h : K acc := by cases is <;> exact h
    refine ⟨acc, h, hnd, fun x hx => (h1 x hx).1, h2, fun j hj => h3 j ?_, h4, h5⟩
    rcases Nat.lt_or_ge j i with h | h
    · exact h
    · have := hos (j - i)
      rw [show i + (j - i) = j by omega, List.getElem?_eq_getElem hj] at this
      simp at this
  | o :: os, i, i' :: is, acc, K, his, hos, hi, h1, h2, h3, h4, h5, hnd, h => by
    have hii : i = i' := by simpa using (his 0 i' rfl).symm
    subst hii
    rw [itemsL_cons] at h
    obtain ⟨m, h6, h7, h8⟩ := edgesK_eq (o := o) (fun e he => he) (m := []) (fun j hj => by simp [bit] at hj) h
    have hoi : all[i]? = some o := by have := hos 0; simpa using this.symm
    have hil : i < all.length := (List.getElem?_eq_some_iff.1 hoi).1
    refine itemsL_eq (i := i + 1) (is := is) (fun j k hk => by have := his (j + 1) k (by simpa using hk); omega) (fun j => ?_) hil (fun x hx => ?_) (fun x hx y hy hxy => ?_) (fun j hj => ?_) (fun x hx => ?_) (fun x hx => ?_) (by
      simp only [List.map_cons, List.nodup_cons]
      refine ⟨fun hm => ?_, hnd⟩
      obtain ⟨x, hx, hxi⟩ := List.mem_map.1 hm
      have := (h1 x hx).2
      omega) h6
    · have := hos (j + 1)
      rw [List.getElem?_cons_succ] at this
      rw [this, Nat.add_assoc, Nat.add_comm 1 j]
    · rcases List.mem_cons.1 hx with rfl | hx
      · exact ⟨hoi, Nat.lt_succ_self _⟩
      · exact ⟨(h1 x hx).1, Nat.lt_succ_of_lt (h1 x hx).2⟩
    · rcases List.mem_cons.1 hx with rfl | hx <;> rcases List.mem_cons.1 hy with rfl | hy
      · rfl
      · have := (h1 y hy).2; simp at hxy; omega
      · have := (h1 x hx).2; simp at hxy; omega
      · exact h2 x hx y hy hxy
    · rcases Nat.lt_or_ge j i with h | h
      · obtain ⟨x, hx, hxj⟩ := h3 j h
        exact ⟨x, by simp [hx], hxj⟩
      · exact ⟨_, List.mem_cons_self, by simp; omega⟩
    · rcases List.mem_cons.1 hx with rfl | hx
      · exact h7.mono fun y hy => by simp [hy]
      · exact (h4 x hx).mono fun y hy => by simp [hy]
    · rcases List.mem_cons.1 hx with rfl | hx
      · exact fun e he hb => h8 e he hb
      · exact h5 x hx

/-- what is closed under what has to be done before -/
def Clo (its : List DI) (dn : List Nat) : Prop := ∀ x ∈ its, x.i ∈ dn → ∀ j, bit x.m j = true → j ∈ dn

theorem Items.before {all : List Oper} {its : List DI} (h : Items all its) {dn : List Nat} (hc : Clo its dn) {x : DI} (hx : x ∈ its) (hr : ∀ e ∈ x.o.after.toList, Region.binds .any e = true → e.on ∈ dn) :
    ∀ j, bit x.m j = true → j ∈ dn := fun j hj => by
  obtain ⟨e, h1, h2, h3⟩ := h.ground x hx j hj
  rcases h3 with h3 | ⟨y, h4, h5, h6⟩
  · rw [← h3]; exact hr e h1 h2
  · exact hc y h4 (by rw [h5]; exact hr e h1 h2) j h6

theorem Items.clo {all : List Oper} {its : List DI} (h : Items all its) {dn : List Nat} (hc : Clo its dn) {x : DI} (hx : x ∈ its) (hr : ∀ e ∈ x.o.after.toList, Region.binds .any e = true → e.on ∈ dn) :
    Clo its (x.i :: dn) := fun y hy hyi j hj => by
  rcases List.mem_cons.1 hyi with hyi | hyi
  · rw [h.uniq y hy x hx hyi] at hj
    exact List.mem_cons_of_mem _ (h.before hc hx hr j hj)
  · exact List.mem_cons_of_mem _ (hc y hy hyi j hj)

end Go.Plat
