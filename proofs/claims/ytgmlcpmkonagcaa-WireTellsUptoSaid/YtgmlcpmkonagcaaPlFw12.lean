/-
  Regions in the order of the text, code, functions: the condition is enough.
-/
import Derived.Test.YtgmlcpmkonagcaaPlDraw5
namespace Go.Plat
open Go
set_option linter.unusedVariables false
set_option linter.unusedSimpArgs false

theorem guardK_sound {all : List Oper} {o : Oper} {σ : List (Nat × D)} {run skip : List (Nat × D) → Prop} (h : guardK all o.guard σ run skip) {w : World} {ρ : Pl} {L : List Ob} {a : Act} (he : Env w ρ L σ a) :
    ∃ σ', Env w ρ L σ' a ∧ ((Region.wanted o (yielded all.toArray a.tmps) = true ∧ run σ') ∨ (Region.wanted o (yielded all.toArray a.tmps) = false ∧ skip σ')) := by
  unfold guardK at h
  split at h
  · rename_i hg
    exact ⟨σ, he, .inl ⟨by simp [Region.wanted, hg], h⟩⟩
  · rename_i j want hg
    split at h <;> try exact h.elim
    rename_i t ht
    have hw : ∀ b, a.tmps.getD t undef = .bool b → Region.wanted o (yielded all.toArray a.tmps) = (b == want) := fun b hb => by
      simp only [Region.wanted, hg, yielded_eq ht hb]
      cases b <;> cases want <;> rfl
    have hv := he t
    split at h <;> try exact h.elim
    · rename_i hl
      rw [hl] at hv
      have hw := hw true hv.tt_inv
      split at h
      · exact ⟨σ, he, .inl ⟨hw, h⟩⟩
      · exact ⟨σ, he, .inr ⟨hw, h⟩⟩
    · rename_i hl
      rw [hl] at hv
      have hw := hw false hv.ff_inv
      split at h
      · exact ⟨σ, he, .inr ⟨hw, h⟩⟩
      · exact ⟨σ, he, .inl ⟨hw, h⟩⟩
    · rename_i b hl
      rw [hl] at hv
      have hw := hw b hv.bool_inv
      have htt : b = true → Env w ρ L ((t, .tt) :: σ) a := fun e => env_refine he (by rw [hv.bool_inv, e]; exact .pure _ _ .tt)
      have hff : b = false → Env w ρ L ((t, .ff) :: σ) a := fun e => env_refine he (by rw [hv.bool_inv, e]; exact .pure _ _ .ff)
      split at h
      · cases b
        · exact ⟨_, hff rfl, .inr ⟨hw, h.out.2 rfl⟩⟩
        · exact ⟨_, htt rfl, .inl ⟨hw, h.out.1 rfl⟩⟩
      · cases b
        · exact ⟨_, hff rfl, .inl ⟨hw, h.out.2 rfl⟩⟩
        · exact ⟨_, htt rfl, .inr ⟨hw, h.out.1 rfl⟩⟩
    · rename_i ds hl
      split at h <;> try exact h.elim
      rw [hl] at hv
      refine ⟨σ, he, .inr ⟨?_, h⟩⟩
      simp only [Region.wanted, hg, yielded_none ht hv.undef_inv]
      rfl

theorem ops_sound {P : Program} {T : Tab} (hT : TabOk P T) {n : Nat} {E : Entry} {all : List Oper} {K : List (Nat × D) → List Ob → Prop} {Q : Exit → Act → World → Prop}
    (hQ : ∀ σ L a w, K σ L → ARel n E σ L a w → Q .normal a w) : ∀ (os : List Oper) (k : Nat) (σ : List (Nat × D)) (L : List Ob) (a : Act) (w : World), (∀ j, os[j]? = all[k + j]?) →
      opsK P T n all os σ L K → ARel n E σ L a w → wpOps P all.toArray Q (List.range' k os.length) a w
  | [], k, σ, L, a, w, _, h, hr => hQ _ _ _ _ h hr
  | o :: os, k, σ, L, a, w, hall, h, hr => by
    rw [opsK_cons] at h
    have hk : all.toArray[k]? = some o := by
      have := hall 0
      simp only [List.getElem?_cons_zero, Nat.add_zero] at this
      rw [List.getElem?_toArray, ← this]
    obtain ⟨ρ, h1, h2, h3, h4, h5, h6, h7⟩ := hr
    have hnext : ∀ j, os[j]? = all[k + 1 + j]? := fun j => by
      have := hall (j + 1)
      rw [List.getElem?_cons_succ] at this
      rw [this, Nat.add_assoc, Nat.add_comm 1 j]
    rw [List.length_cons, List.range'_succ]
    simp only [wpOps, hk]
    obtain ⟨σ', he', ⟨hw, hrun⟩ | ⟨hw, hskip⟩⟩ := guardK_sound h h4
    · rw [hw]
      simp only [if_true]
      obtain ⟨d, L', hok, hK⟩ := opK_one hT (K := fun d L => putS n o.dst d σ' fun σ => opsK P T n all os σ L K) hrun
      refine .inl (hok a w ρ _ _ h3 he' fun v w' ρ' hp => ?_)
      obtain ⟨σ'', hK', hr'⟩ := ARel.step h1 h2 h3 he' h5 h6 h7 hp hK
      exact ops_sound hT hQ os (k + 1) σ'' L' _ w' hnext hK' hr'
    · rw [hw]
      simp only [Bool.false_eq_true, if_false]
      obtain ⟨σ'', hK', hr'⟩ := ARel.step (dst := o.dst) (v := undef) h1 h2 h3 he' h5 h6 h7 (.same h3 (.pure _ _ (undef_rep _ _))) hskip
      exact ops_sound hT hQ os (k + 1) σ'' L _ w hnext hK' hr'

def thenQ (K : List (Nat × D) → List Ob → Prop) (Q : Ex → List (Nat × D) → List Ob → Prop) : Ex → List (Nat × D) → List Ob → Prop
  | .normal, σ, L => K σ L
  | .exit id, σ, L => Q (.exit id) σ L
  | .ret, σ, L => Q .ret σ L

def blockQ (id : Nat) (Q : Ex → List (Nat × D) → List Ob → Prop) : Ex → List (Nat × D) → List Ob → Prop
  | .normal, σ, L => Q .normal σ L
  | .exit i, σ, L => match Nat.beq i id with
    | true => Q .normal σ L
    | false => Q (.exit i) σ L
  | .ret, σ, L => Q .ret σ L

/-- a region that draws its order: by its condition, or otherwise -/
def DrawS (A B : Prop) : Prop := A ∨ B
theorem dr_mk {A B : Prop} (h : A) : DrawS A B := .inl h
theorem dr_awp {A B : Prop} (h : B) : DrawS A B := .inr h

/- written with the recursor itself, as opsK -/
abbrev VcM : Type := (Ex → List (Nat × D) → List Ob → Prop) → List (Nat × D) → List Ob → Prop
def vcSkip : VcM := fun Q σ L => Q .normal σ L
def vcRegion (P : Program) (T : Tab) (n : Nat) (E : Entry) (id : Nat) (ops : Array Oper) (draw : Bool) : VcM := fun Q σ L => match draw with
  | false => opsK P T n ops.toList ops.toList σ L (Q .normal)
  | true => VS (DrawS (drawK P T n ops.toList σ L (Q .normal)) (AWP P n E (.region id ops true) Q σ L))
def vcSeq (_ _ : Code) (ihx ihy : VcM) : VcM := fun Q σ L => ihx (thenQ (ihy Q) Q) σ L
def vcCond (c : Operand) (_ _ : Code) (ihx ihy : VcM) : VcM := fun Q σ L => match evalD σ c with
  | .tt => ihx Q σ L
  | .ff => ihy Q σ L
  | .bool b => VS (SplitS b (ihx Q σ L) (ihy Q σ L))
  | _ => False
def vcBlock (id : Nat) (_ : Code) (ih : VcM) : VcM := fun Q σ L => ih (blockQ id Q) σ L
def vcLoop (P : Program) (n : Nat) (E : Entry) (c : Code) (_ : VcM) : VcM := fun Q σ L => VS (AWP P n E (.loop c) Q σ L)
def vcExit (id : Nat) : VcM := fun Q σ L => Q (.exit id) σ L
def vcRet : VcM := fun Q σ L => Q .ret σ L
def vcNo : VcM := fun _ _ _ => False
def vcK (P : Program) (T : Tab) (n : Nat) (E : Entry) : Code → VcM :=
  @Code.rec (fun _ => VcM) vcSkip (vcRegion P T n E) vcSeq vcCond vcBlock (vcLoop P n E) (fun _ _ _ _ _ _ => vcNo) vcExit (fun _ _ => vcNo) (fun _ => vcNo) (fun _ => vcNo) vcRet (fun _ => vcNo)

theorem AQ.mono {n : Nat} {E : Entry} {Q Q' : Ex → List (Nat × D) → List Ob → Prop} (h : ∀ e σ L, Q e σ L → Q' e σ L) {e : Exit} {a : Act} {w : World} (hq : AQ n E Q e a w) : AQ n E Q' e a w := by
  cases e <;> first | exact hq.elim | (obtain ⟨σ, L, h1, h2⟩ := hq; exact ⟨σ, L, h _ _ _ h1, h2⟩)

theorem awp_vc {P : Program} {T : Tab} (hT : TabOk P T) (hm : P.follows .mixedOrders = true) {n : Nat} {E : Entry} : ∀ (c : Code) {Q : Ex → List (Nat × D) → List Ob → Prop} {σ : List (Nat × D)} {L : List Ob}, vcK P T n E c Q σ L → AWP P n E c Q σ L
  | .skip, Q, σ, L, h => fun a w hr => wp_skip ⟨σ, L, h, hr⟩
  | .seq x y, Q, σ, L, h => fun a w hr => by
    refine wp_seq (wp_mono (awp_vc hT hm x h a w hr) fun e a w hq => ?_)
    cases e with
    | normal =>
      obtain ⟨σ', L', h1, h2⟩ := hq
      exact awp_vc hT hm y h1 a w h2
    | exit id => exact hq
    | ret => exact hq
    | goto l => exact hq.elim
    | panic ch => exact hq.elim
    | outgrown => exact hq.elim
  | .region id ops draw, Q, σ, L, h => by
    cases draw
    · intro a w hr
      change opsK P T n ops.toList ops.toList σ L (Q .normal) at h
      refine wp_region ?_
      have := ops_sound hT (E := E) (Q := AQ n E Q) (K := Q .normal) (fun σ L a w h1 h2 => ⟨σ, L, h1, h2⟩) ops.toList 0 σ L a w (by simp) h hr
      simpa [List.range_eq_range'] using this
    · rcases VS.out h with h | h
      · exact draw_sound hT hm h
      · exact h
  | .cond c x y, Q, σ, L, h => fun a w hr => by
    change (match evalD σ c with
      | .tt => vcK P T n E x Q σ L
      | .ff => vcK P T n E y Q σ L
      | .bool b => VS (SplitS b (vcK P T n E x Q σ L) (vcK P T n E y Q σ L))
      | _ => False) at h
    have hv : ∃ ρ, Rep w (foot ρ L) ρ L (evalD σ c) (a.eval c) := by
      obtain ⟨ρ, _, _, _, he, _⟩ := hr
      exact ⟨ρ, he.eval c⟩
    obtain ⟨ρ, hv⟩ := hv
    split at h <;> try exact h.elim
    · rename_i hc; rw [hc] at hv; exact wp_cond_true hv.tt_inv (awp_vc hT hm x h a w hr)
    · rename_i hc; rw [hc] at hv; exact wp_cond_false hv.ff_inv (awp_vc hT hm y h a w hr)
    · rename_i b hc
      rw [hc] at hv
      exact wp_cond_split hv.bool_inv (fun hb => awp_vc hT hm x (h.out.1 hb) a w hr) (fun hb => awp_vc hT hm y (h.out.2 hb) a w hr)
  | .block id c, Q, σ, L, h => fun a w hr => by
    refine wp_block (wp_mono (awp_vc hT hm c h a w hr) fun e a w hq => ?_)
    cases e with
    | normal => exact hq
    | exit i =>
      obtain ⟨σ', L', h1, h2⟩ := hq
      simp only [blockQ] at h1
      simp only [Exit.inBlock]
      split at h1
      · rename_i hb
        rw [if_pos (Nat.eq_of_beq_eq_true hb)]
        exact ⟨σ', L', h1, h2⟩
      · rename_i hb
        rw [if_neg (fun e => by subst e; simp at hb)]
        exact ⟨σ', L', h1, h2⟩
    | ret => exact hq
    | goto l => exact hq.elim
    | panic ch => exact hq.elim
    | outgrown => exact hq.elim
  | .exit id, Q, σ, L, h => fun a w hr => wp_exit ⟨σ, L, h, hr⟩
  | .ret, Q, σ, L, h => fun a w hr => wp_ret ⟨σ, L, h, hr⟩
  | .loop c, Q, σ, L, h => VS.out h

end Go.Plat
