/-
  The condition of an operation, of a region in the order of the text, of code; functions.
-/
import Derived.Test.YtgmlcpmkonagcaaPlEq
namespace Go.Plat
open Go
set_option linter.unusedVariables false
set_option linter.unusedSimpArgs false

/-- a call: of a function whose contract touches nothing owned -/
def CallS (P : Program) (f : Nat) (as : List D) (L : List Ob) (KP : D → Prop) (KW : D → List Ob → Prop) : Prop :=
  (∃ spec, Meets P f spec ∧ stripLK as fun as => ∃ d, spec as [] d [] ∧ KP d) ∨
  (∃ d L', (∀ (w : World) (ρ : Pl) (vs : List Value), Fits w ρ L → RepL w (foot ρ L) ρ L as vs →
      Calls P f vs.toArray w fun e w' => ∃ v ρ', e = .returned v ∧ Post w ρ L d L' v w' ρ') ∧ Callable P f ∧ KW d L')

def callK (P : Program) (σ : List (Nat × D)) (L : List Ob) (f : D) (args : List Operand) (KP : D → Prop) (KW : D → List Ob → Prop) : Prop :=
  match f with
  | .fn fid caps => evalLK σ args fun as => VS (CallS P fid (as ++ caps) L KP KW)
  | _ => False

def builtinK (T : Tab) (b : Builtin) (σ : List (Nat × D)) (L : List Ob) (args : List Operand) (ts : List TypeId) (KP : D → Prop) (KR : D → Prop) (KW : D → List Ob → Prop) : Prop :=
  match b with
  | .len => match args with
    | [x] => match ts with
      | [t] => lenOp T t (evalD σ x) KP
      | _ => False
    | _ => False
  | .append => match args with
    | [x, y] => match ts with
      | [t, t2] => appendK T t t2 (evalD σ x) (evalD σ y) L KW
      | _ => False
    | _ => False
  | .max => match args with
    | [x, y] => minMaxK true (evalD σ x) (evalD σ y) KP
    | _ => False
  | .min => match args with
    | [x, y] => minMaxK false (evalD σ x) (evalD σ y) KP
    | _ => False
  | _ => False

def loadK (T : Tab) (t : Nat) (x : D) (L : List Ob) (KP KR : D → Prop) : Prop :=
  match x with
  | .ptr cs => match ty T t with
    | some i => loadPtrK i cs KP
    | none => False
  | .loc k o => loadOp T t (.loc k o) L KR
  | .aloc k n i o => loadOp T t (.aloc k n i o) L KR
  | _ => False

def convOp (T : Tab) (i j : TI) (x : D) (L : List Ob) (KP : D → Prop) (KW : D → List Ob → Prop) : Prop :=
  match i.d with
  | .slice e => match ty T e with
    | some ie => match ie.d with
      | .int .u8 => match j.d with
        | .str => bytesStrK x KP
        | _ => False
      | _ => False
    | none => False
  | .str => match j.d with
    | .slice e => match ty T e with
      | some ie => match ie.d with
        | .int .u8 => match x with
          | .str l => KW (.sl 1 (l.map fun c => .int .u8 c.toNat) (some L.length)) (L ++ [.spare l.length])
          | _ => False
        | _ => False
      | none => False
    | _ => convK i.d j.d x KP
  | _ => convK i.d j.d x KP

/-- KP: it only computes; KR: it reads what is owned; KW: it changes what is owned -/
def opK (P : Program) (T : Tab) (σ : List (Nat × D)) (L : List Ob) (op : Op) (KP : D → Prop) (KR : D → Prop) (KW : D → List Ob → Prop) : Prop :=
  match op with
  | .move x => forceD (evalD σ x) KP
  | .assign x => forceD (evalD σ x) KP
  | .pick c x y => pickK (evalD σ c) (evalD σ x) (evalD σ y) KP
  | .alloc t => allocOp T t L KW
  | .box _ x => boxOp (evalD σ x) L KW
  | .build t ps => buildK T t ps.toList σ KP
  | .buildSlice t len ps => VS (ModeS (buildSliceOp T t len ps.toList σ KP) (buildTokOp T t len ps.toList σ L KW))
  | .load t x => loadK T t (evalD σ x) L KP KR
  | .store t x v => storeOp T t (evalD σ x) (evalD σ v) L KW
  | .nilCheck x => nilK (evalD σ x) KP
  | .binOp op t x y _ => binTK P T op t (evalD σ x) (evalD σ y) KP
  | .unOp op _ x => unK op (evalD σ x) KP
  | .convert s t x => match ty T s with
    | some i => match ty T t with
      | some j => convOp T i j (evalD σ x) L KP KW
      | none => False
    | none => False
  | .makeFunc fn first captured => makeFuncK fn first.toList captured.toList σ KP
  | .makeSlice t x y => VS (ModeS (makeSliceOp T t (evalD σ x) (evalD σ y) KP) (makeArrOp T t (evalD σ x) (evalD σ y) L KW))
  | .slice t x lo hi mx => sliceOp T σ t (evalD σ x) lo hi mx KP
  | .fieldAddr s x f => fieldAddrK T s f (evalD σ x) KP
  | .field s x f => fieldK T s f (evalD σ x) KP
  | .indexAddr t x i => indexAddrOp T t (evalD σ x) (evalD σ i) KP
  | .index t x i => indexOp T t (evalD σ x) (evalD σ i) KP
  | .extract x n => match evalD σ x with
    | .tup ds => nthK n ds fun d => forceD d KP
    | _ => False
  | .call c => match c.callee with
    | .builtin b => builtinK T b σ L c.args.toList c.argTypes.toList KP KR KW
    | .value f => callK P σ L (evalD σ f) c.args.toList KP KW
    | _ => False
  | _ => False

theorem call_sound {P : Program} {f : Operand} {args : Array Operand} {ts : Array TypeId} {σ : List (Nat × D)} {L : List Ob} {KP : D → Prop} {KW : D → List Ob → Prop} {o : Oper}
    (ho : o.op = .call { callee := .value f, args := args, argTypes := ts }) (h : callK P σ L (evalD σ f) args.toList KP KW) :
    (∃ d, (∀ L, OpOk P o σ L d L) ∧ KP d) ∨ (∃ d L', OpOk P o σ L d L' ∧ KW d L') := by
  unfold callK at h
  split at h <;> try exact h.elim
  rename_i fid caps hfn
  have h := (evalLK_eq h).out
  have key : ∀ (a : Act) (w : World) (ρ : Pl) (L : List Ob), Env w ρ L σ a → Callable P fid → ∃ vs : List Value, (execOp a.eval o).run P w = .ok (.enter fid vs.toArray) w ∧
      RepL w (foot ρ L) ρ L (args.toList.map (evalD σ) ++ caps) vs := by
    intro a w ρ L he ⟨fn, h1, h2, h3⟩
    have hv := he.eval f
    rw [hfn] at hv
    obtain ⟨cs, h4, h5, h6⟩ := hv.fn_inv
    refine ⟨args.toList.map a.eval ++ cs, ?_, by simp [h5], fun i d v hd hv => ?_⟩
    · simp only [execOp, ho, resolve, h4, Deferred.ofValue, Sem.run_bind, Sem.run_pure, Result.andThen, invoke, callFunc]
      have : (program : Sem Program).run P w = .ok P w := rfl
      simp only [Sem.run_bind, this, Result.andThen, h1, h2, h3]
      simp
    · rcases Nat.lt_or_ge i args.toList.length with hlt | hge
      · rw [List.getElem?_append_left (by simpa using hlt)] at hd hv
        exact he.evalL _ i d v hd hv
      · rw [List.getElem?_append_right (by simpa using hge)] at hd hv
        simp only [List.length_map] at hd hv
        exact h6 _ d v hd hv
  rcases h with ⟨spec, hm, h⟩ | ⟨d, L', hcall, hcb, hK⟩
  · obtain ⟨as', hpure, d, hs, hK⟩ := stripLK_eq h
    refine .inl ⟨d, fun L => ?_, hK⟩
    intro a w ρ next Q hf he hn
    obtain ⟨vs, h1, h2, h3⟩ := key a w ρ L he hm.1
    unfold Oper.wp
    rw [h1, Oper.upon_enter]
    refine (pureCall hm hs hf (by rw [h2]; exact hpure.1) fun i d v hd hv => ?_).mono ?_
    · have hlt : i < (args.toList.map (evalD σ) ++ caps).length := by rw [hpure.1]; exact (List.getElem?_eq_some_iff.1 hd).1
      exact (hpure.2 i _ d (List.getElem?_eq_getElem hlt) hd).2 _ _ _ _ _ (h3 i _ v (List.getElem?_eq_getElem hlt) hv)
    · rintro e w' ⟨v, rfl, hext, hrep⟩
      exact hn _ _ _ (.grow hf hext (.pure _ _ hrep))
  · refine .inr ⟨d, L', ?_, hK⟩
    intro a w ρ next Q hf he hn
    obtain ⟨vs, h1, h2⟩ := key a w ρ L he hcb
    unfold Oper.wp
    rw [h1, Oper.upon_enter]
    refine (hcall w ρ vs hf h2).mono ?_
    rintro e w' ⟨v, ρ', rfl, hp⟩
    exact hn _ _ _ hp

theorem builtin_sound {P : Program} {T : Tab} (hT : TabOk P T) {b : Builtin} {args : Array Operand} {ts : Array TypeId} {σ : List (Nat × D)} {L : List Ob} {KP : D → Prop} {KR : D → Prop} {KW : D → List Ob → Prop} {o : Oper}
    (ho : o.op = .call { callee := .builtin b, args := args, argTypes := ts }) (h : builtinK T b σ L args.toList ts.toList KP KR KW) :
    (∃ d, (∀ L, OpOk P o σ L d L) ∧ KP d) ∨ (∃ d, OpOk P o σ L d L ∧ KR d) ∨ (∃ d L', OpOk P o σ L d L' ∧ KW d L') := by
  have harr : ∀ {α : Type} {a : Array α} {l : List α}, a.toList = l → a = l.toArray := fun h => by rw [← h]
  unfold builtinK at h
  split at h <;> try exact h.elim
  · split at h <;> try exact h.elim
    rename_i x hx
    split at h <;> try exact h.elim
    rename_i t ht
    rw [harr hx, harr ht] at ho
    exact .inl (len_sound hT ho h)
  · split at h <;> try exact h.elim
    rename_i x y hx
    split at h <;> try exact h.elim
    rename_i t t2 ht
    rw [harr hx, harr ht] at ho
    exact .inr (.inr (appendK_sound hT ho h))
  · split at h <;> try exact h.elim
    rename_i x y hx
    rw [harr hx] at ho
    exact .inl (minMax_sound (isMax := true) ho h)
  · split at h <;> try exact h.elim
    rename_i x y hx
    rw [harr hx] at ho
    exact .inl (minMax_sound (isMax := false) ho h)

theorem opK_sound {P : Program} {T : Tab} (hT : TabOk P T) {σ : List (Nat × D)} {L : List Ob} {o : Oper} {KP : D → Prop} {KR : D → Prop} {KW : D → List Ob → Prop}
    (h : opK P T σ L o.op KP KR KW) : (∃ d, (∀ L, OpOk P o σ L d L) ∧ KP d) ∨ (∃ d, OpOk P o σ L d L ∧ KR d) ∨ (∃ d L', OpOk P o σ L d L' ∧ KW d L') := by
  generalize hop : o.op = op at h
  cases op <;> simp only [opK] at h <;> try exact h.elim
  case move x => exact .inl (move_sound (.inl hop) h)
  case assign x => exact .inl (move_sound (.inr hop) h)
  case pick => exact .inl (pick_sound hop h)
  case alloc => exact .inr (.inr (alloc_sound hT hop h))
  case box => exact .inr (.inr (box_sound hop h))
  case build => exact .inl (build_sound hT hop h)
  case buildSlice =>
    rcases h.out with h | h
    · exact .inl (buildSlice_sound hT hop h)
    · exact .inr (.inr (buildTok_sound hT hop h))
  case load t x =>
    unfold loadK at h
    split at h <;> try exact h.elim
    · rename_i cs hx
      split at h <;> try exact h.elim
      rename_i i hi
      exact .inl (loadPtr_sound hT hop hi hx h)
    · rename_i hx
      rw [← hx] at h
      exact .inr (.inl (load_sound hT hop h))
    · rename_i hx
      rw [← hx] at h
      exact .inr (.inl (load_sound hT hop h))
  case store => exact .inr (.inr (store_sound hT hop h))
  case nilCheck => exact .inl (nilK_sound hop h)
  case binOp => exact .inl (binTK_sound hT hop h)
  case unOp => exact .inl (unK_sound hop h)
  case convert s t x =>
    split at h <;> try exact h.elim
    rename_i i hi
    split at h <;> try exact h.elim
    rename_i j hj
    unfold convOp at h
    split at h
    · rename_i e hd
      split at h <;> try exact h.elim
      rename_i ie hie
      split at h <;> try exact h.elim
      rename_i hde
      split at h <;> try exact h.elim
      rename_i hdj
      exact .inl (bytesStr_sound (hT _ _ hi) (hT _ _ hj) (hT _ _ hie) hd hde hdj hop h)
    · rename_i hdi
      split at h
      · rename_i e hd
        split at h <;> try exact h.elim
        rename_i ie hie
        split at h <;> try exact h.elim
        rename_i hde
        split at h <;> try exact h.elim
        rename_i l hx
        exact .inr (.inr (strBytes_sound (hT _ _ hi) (hT _ _ hj) (hT _ _ hie) hdi hd hde hx hop h))
      · exact .inl (convK_sound (hT _ _ hi) (hT _ _ hj) hop h)
    · exact .inl (convK_sound (hT _ _ hi) (hT _ _ hj) hop h)
  case makeFunc => exact .inl (makeFunc_sound hop h)
  case makeSlice =>
    rcases h.out with h | h
    · exact .inl (makeSlice_sound hT hop h)
    · exact .inr (.inr (makeArr_sound hT hop h))
  case slice => exact .inl (slice_sound hT hop h)
  case fieldAddr => exact .inl (fieldAddr_sound hT hop h)
  case field => exact .inl (field_sound hT hop h)
  case indexAddr => exact .inl (indexAddr_sound hT hop h)
  case index => exact .inl (index_sound hT hop h)
  case extract => exact .inl (extract_sound hop h)
  case call c =>
    obtain ⟨callee, args, ts⟩ := c
    dsimp only at h
    split at h <;> try exact h.elim
    · exact builtin_sound hT hop h
    · rcases call_sound hop h with h | h
      · exact .inl h
      · exact .inr (.inr h)

theorem opK_one {P : Program} {T : Tab} (hT : TabOk P T) {σ : List (Nat × D)} {L : List Ob} {o : Oper} {K : D → List Ob → Prop}
    (h : opK P T σ L o.op (fun d => K d L) (fun d => K d L) K) : ∃ d L', OpOk P o σ L d L' ∧ K d L' := by
  rcases opK_sound hT h with ⟨d, h1, h2⟩ | ⟨d, h1, h2⟩ | h
  · exact ⟨d, L, h1 L, h2⟩
  · exact ⟨d, L, h1, h2⟩
  · exact h

/-! regions in the order of the text -/
def putS (n : Nat) (dst : Option Nat) (d : D) (σ : List (Nat × D)) (K : List (Nat × D) → Prop) : Prop :=
  match dst with
  | none => K σ
  | some t => match Nat.blt t n with
    | true => K ((t, d) :: σ)
    | false => False

def dstOf (all : List Oper) (j : Nat) : Option Nat :=
  match all, j with
  | [], _ => none
  | o :: _, 0 => o.dst
  | _ :: os, j + 1 => dstOf os j

def guardK (all : List Oper) (g : Option (Nat × Bool)) (σ : List (Nat × D)) (run skip : List (Nat × D) → Prop) : Prop :=
  match g with
  | none => run σ
  | some (j, want) => match dstOf all j with
    | none => False
    | some t => match look σ t with
      | .tt => match want with
        | true => run σ
        | false => skip σ
      | .ff => match want with
        | true => skip σ
        | false => run σ
      | .bool b => match want with
        | true => VS (SplitS b (run ((t, .tt) :: σ)) (skip ((t, .ff) :: σ)))
        | false => VS (SplitS b (skip ((t, .tt) :: σ)) (run ((t, .ff) :: σ)))
      | .tup ds => match ds with
        | [] => skip σ
        | _ => False
      | _ => False

/- written with the recursor itself: what stays behind a stop is then, to the sign, what the kernel comes to -/
abbrev OpsM : Type := List (Nat × D) → List Ob → (List (Nat × D) → List Ob → Prop) → Prop
def opsNil : OpsM := fun σ L K => K σ L
def opsCons (P : Program) (T : Tab) (n : Nat) (all : List Oper) (o : Oper) (_ : List Oper) (ih : OpsM) : OpsM := fun σ L K => guardK all o.guard σ
  (fun σ => opK P T σ L o.op (fun d => putS n o.dst d σ fun σ => ih σ L K) (fun d => putS n o.dst d σ fun σ => ih σ L K) (fun d L => putS n o.dst d σ fun σ => ih σ L K))
  (fun σ => putS n o.dst (.tup []) σ fun σ => ih σ L K)
def opsK (P : Program) (T : Tab) (n : Nat) (all : List Oper) : List Oper → List (Nat × D) → List Ob → (List (Nat × D) → List Ob → Prop) → Prop :=
  @List.rec Oper (fun _ => OpsM) opsNil (opsCons P T n all)

theorem opsK_nil {P : Program} {T : Tab} {n : Nat} {all : List Oper} {σ : List (Nat × D)} {L : List Ob} {K : List (Nat × D) → List Ob → Prop} : opsK P T n all [] σ L K = K σ L := rfl
theorem opsK_cons {P : Program} {T : Tab} {n : Nat} {all : List Oper} {o : Oper} {os : List Oper} {σ : List (Nat × D)} {L : List Ob} {K : List (Nat × D) → List Ob → Prop} : opsK P T n all (o :: os) σ L K = guardK all o.guard σ
      (fun σ => opK P T σ L o.op (fun d => putS n o.dst d σ fun σ => opsK P T n all os σ L K) (fun d => putS n o.dst d σ fun σ => opsK P T n all os σ L K) (fun d L => putS n o.dst d σ fun σ => opsK P T n all os σ L K))
      (fun σ => putS n o.dst (.tup []) σ fun σ => opsK P T n all os σ L K) := rfl

/-- where a call began -/
structure Entry where
  w : World
  ρ : Pl
  L : List Ob

/-- a state of the frame and the world, read -/
def ARel (n : Nat) (E : Entry) (σ : List (Nat × D)) (L : List Ob) (a : Act) (w : World) : Prop :=
  ∃ ρ, a.tmps.size = n ∧ a.defers = [] ∧ Fits w ρ L ∧ Env w ρ L σ a ∧ Ext (own E.ρ E.L) E.w w ∧ Fresh E.w (own E.ρ E.L) (own ρ L) ∧ Compat E.ρ E.L ρ L

theorem Post.env {w w' : World} {ρ ρ' : Pl} {L L' : List Ob} {d : D} {v : Value} {σ : List (Nat × D)} {a : Act} (hp : Post w ρ L d L' v w' ρ') (he : Env w ρ L σ a) : Env w' ρ' L' σ a :=
  he.keep hp.ext.foot (hp.fresh.foot hp.compat.hid) hp.compat

theorem ARel.step {n : Nat} {E : Entry} {σ : List (Nat × D)} {L L' : List Ob} {a : Act} {w w' : World} {ρ ρ' : Pl} {d : D} {v : Value} {dst : Option Nat}
    (hs : a.tmps.size = n) (hd : a.defers = []) (hf : Fits w ρ L) (he : Env w ρ L σ a) (hx : Ext (own E.ρ E.L) E.w w) (hfr : Fresh E.w (own E.ρ E.L) (own ρ L)) (hc : Compat E.ρ E.L ρ L)
    (hp : Post w ρ L d L' v w' ρ') {K : List (Nat × D) → Prop} (h : putS n dst d σ K) : ∃ σ', K σ' ∧ ARel n E σ' L' (a.put dst v) w' := by
  have hx' : Ext (own E.ρ E.L) E.w w' := hx.trans hp.ext fun x y hxl ho => (hfr x y ho).resolve_right (by omega)
  have hfr' : Fresh E.w (own E.ρ E.L) (own ρ' L') := fun b off ho => by
    rcases hp.fresh b off ho with h | h
    · exact hfr b off h
    · exact .inr (Nat.le_trans hx.size h)
  unfold putS at h
  split at h
  · exact ⟨σ, h, ρ', hs, hd, hp.fits, hp.env he, hx', hfr', hc.trans hp.compat⟩
  · rename_i t
    split at h <;> try exact h.elim
    rename_i hlt
    have hlt : t < n := by simpa [Nat.blt_eq] using hlt
    exact ⟨_, h, ρ', by simp [Act.put, hs], hd, hp.fits, (hp.env he).put (by omega) hp.rep, hx', hfr', hc.trans hp.compat⟩

theorem env_refine {w : World} {ρ : Pl} {L : List Ob} {σ : List (Nat × D)} {a : Act} {t : Nat} {d : D} (he : Env w ρ L σ a) (hd : Rep w (foot ρ L) ρ L d (a.tmps.getD t undef)) : Env w ρ L ((t, d) :: σ) a := by
  intro s
  simp only [look]
  split
  · rename_i h
    have := Nat.eq_of_beq_eq_true h
    subst this
    exact hd
  · exact he s

theorem dstOf_eq : ∀ (all : List Oper) (j : Nat), (all[j]?).bind (·.dst) = dstOf all j
  | [], j => by simp [dstOf]
  | o :: os, 0 => by simp [dstOf]
  | o :: os, j + 1 => by simpa [dstOf] using dstOf_eq os j

theorem yielded_eq {all : List Oper} {a : Act} {j t : Nat} {b : Bool} (h : dstOf all j = some t) (hb : a.tmps.getD t undef = .bool b) : yielded all.toArray a.tmps j = some b := by
  unfold yielded
  have h1 : (all.toArray[j]?).bind (·.dst) = some t := by rw [List.getElem?_toArray, dstOf_eq, h]
  rw [h1]
  simp only [Option.bind_some]
  have : a.tmps[t]? = some (.bool b) := by
    rw [Array.getD_eq_getD_getElem?] at hb
    cases hg : a.tmps[t]? with
    | none => rw [hg] at hb; simp [undef] at hb
    | some v => rw [hg] at hb; simp at hb; rw [hb]
  rw [this]

theorem undef_rep (w : World) (F : Nat → Nat → Prop) : RepP w F (.tup []) undef := .tup [] [] rfl (by simp)

theorem yielded_none {all : List Oper} {a : Act} {j t : Nat} (h : dstOf all j = some t) (hb : a.tmps.getD t undef = undef) : yielded all.toArray a.tmps j = none := by
  unfold yielded
  have h1 : (all.toArray[j]?).bind (·.dst) = some t := by rw [List.getElem?_toArray, dstOf_eq, h]
  rw [h1]
  simp only [Option.bind_some]
  rw [Array.getD_eq_getD_getElem?] at hb
  cases hg : a.tmps[t]? with
  | none => rfl
  | some v =>
    rw [hg] at hb
    simp at hb
    subst hb
    rfl

theorem Rep.undef_inv {w : World} {F : Nat → Nat → Prop} {ρ : Pl} {L : List Ob} {v : Value} (h : Rep w F ρ L (.tup []) v) : v = undef := by
  obtain ⟨vs, rfl, h1, _⟩ := h.tup_inv
  have := List.eq_nil_of_length_eq_zero h1
  subst this
  rfl

end Go.Plat
