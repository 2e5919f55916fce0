/-
  The operations that only compute: their conditions, and that these are enough.
-/
import Derived.Test.YtgmlcpmkonagcaaPlFw2
import Derived.ChangeKeysEq
import Derived.Laws.Strings
import Derived.Lib.SmallJoins
namespace Go.Plat
open Go
set_option linter.unusedVariables false
set_option linter.unusedSimpArgs false

/-! the stops -/
/-- a number that may have to be wrapped -/
def Arith (k : IntKind) (n : Int) (K : D → Prop) : Prop := K (.int k (k.wrap n))
def QuoS (k : IntKind) (x y : Int) (K : D → Prop) : Prop := y ≠ 0 ∧ K (.int k (k.wrap (x.tdiv y)))
def RemS (k : IntKind) (x y : Int) (K : D → Prop) : Prop := y ≠ 0 ∧ K (.int k (x.tmod y))
def ShlS (k : IntKind) (x y : Int) (K : D → Prop) : Prop := 0 ≤ y ∧ K (.int k (k.wrap (x * 2 ^ (min y.toNat k.bits))))
def ShrS (k : IntKind) (x y : Int) (K : D → Prop) : Prop := 0 ≤ y ∧ K (.int k (x.fdiv (2 ^ (min y.toNat k.bits))))
/-- and, or, xor, and not -/
def bitI (op : BinOp) (k : IntKind) (x y : Int) : Int :=
  let a := BitVec.ofInt k.bits x
  let b := BitVec.ofInt k.bits y
  k.wrap (match op with | .and => (a &&& b).toNat | .or => (a ||| b).toNat | .xor => (a ^^^ b).toNat | _ => (a &&& ~~~b).toNat)
def BitS (op : BinOp) (k : IntKind) (x y : Int) (K : D → Prop) : Prop := K (.int k (bitI op k x y))
def CatS (s t : List UInt8) (K : D → Prop) : Prop := ((s.length + t.length : Nat) : Int) ≤ IntKind.i64.max ∧ K (.str (s ++ t))
def SplitS (b : Bool) (Kt Kf : Prop) : Prop := (b = true → Kt) ∧ (b = false → Kf)
def SideS (p : Prop) (K : Prop) : Prop := p ∧ K
/-- elements, written in a better way; how many -/
def NormL (ds : List D) (K : List D → Nat → Prop) : Prop := K ds ds.length
def IdxS (ds : List D) (n : Int) (K : D → Prop) : Prop := 0 ≤ n ∧ ∃ d, ds[n.toNat]? = some d ∧ K d

def kindEq : IntKind → IntKind → Bool
  | .i8, .i8 | .i16, .i16 | .i32, .i32 | .i64, .i64 | .u8, .u8 | .u16, .u16 | .u32, .u32 | .u64, .u64 => true
  | _, _ => false
theorem kindEq_eq {a b : IntKind} (h : kindEq a b = true) : a = b := by cases a <;> cases b <;> first | rfl | simp [kindEq] at h

/-- a datum, taken apart and put together again -/
def forceD (d : D) (K : D → Prop) : Prop :=
  match d with
  | .any => K .any
  | .int k n => K (.int k n)
  | .bool b => K (.bool b)
  | .tt => K .tt
  | .ff => K .ff
  | .str s => K (.str s)
  | .agg ds => K (.agg ds)
  | .tup ds => K (.tup ds)
  | .nilsl => K .nilsl
  | .sl e ds t => K (.sl e ds t)
  | .osl e k n off len => K (.osl e k n off len)
  | .nilp => K .nilp
  | .ptr cs => K (.ptr cs)
  | .loc k o => K (.loc k o)
  | .aloc k n i o => K (.aloc k n i o)
  | .nilmap => K .nilmap
  | .mp k => K (.mp k)
  | .fn f c => K (.fn f c)
  | .nilfn => K .nilfn
  | .nilif => K .nilif
  | .iface t d => K (.iface t d)
theorem forceD_eq {d : D} {K : D → Prop} (h : forceD d K) : K d := by cases d <;> exact h

/-- the cells of a datum, the datum known -/
def cellsK (d : D) (K : List D → Prop) : Prop :=
  match d with
  | .agg ds => K ds
  | .any => False
  | d => forceD d fun d => K [d]
theorem cellsK_eq {d : D} {K : List D → Prop} (h : cellsK d K) : K d.cells := by cases d <;> first | exact h.elim | exact h

def takeK : Nat → List D → (List D → Prop) → Prop
  | 0, _, K => K []
  | _ + 1, [], _ => False
  | n + 1, c :: cs, K => takeK n cs fun r => K (c :: r)
theorem takeK_eq : ∀ {n : Nat} {cs : List D} {K : List D → Prop}, takeK n cs K → K (cs.take n) ∧ n ≤ cs.length
  | 0, cs, K, h => ⟨by simpa [takeK] using h, Nat.zero_le _⟩
  | n + 1, [], K, h => by simp [takeK] at h
  | n + 1, c :: cs, K, h => by
    obtain ⟨h1, h2⟩ := takeK_eq (n := n) (cs := cs) h
    exact ⟨by simpa using h1, by simp; omega⟩

def dropK : Nat → List D → (List D → Prop) → Prop
  | 0, cs, K => K cs
  | _ + 1, [], _ => False
  | n + 1, _ :: cs, K => dropK n cs K
theorem dropK_eq : ∀ {n : Nat} {cs : List D} {K : List D → Prop}, dropK n cs K → K (cs.drop n)
  | 0, cs, K, h => by simpa [dropK] using h
  | n + 1, [], K, h => by simp [dropK] at h
  | n + 1, c :: cs, K, h => by simpa using dropK_eq (n := n) (cs := cs) h

def nthK {α : Type} : Nat → List α → (α → Prop) → Prop
  | _, [], _ => False
  | 0, c :: _, K => K c
  | n + 1, _ :: cs, K => nthK n cs K
theorem nthK_eq {α : Type} : ∀ {n : Nat} {cs : List α} {K : α → Prop}, nthK n cs K → ∃ c, cs[n]? = some c ∧ K c
  | n, [], K, h => by cases n <;> simp [nthK] at h
  | 0, c :: cs, K, h => ⟨c, rfl, h⟩
  | n + 1, c :: cs, K, h => by simpa using nthK_eq (n := n) (cs := cs) h

/-! two operands -/
def intK (op : BinOp) (k k' : IntKind) (x y : Int) (K : D → Prop) : Prop :=
  match op with
  | .shl => VS (ShlS k x y K)
  | .shr => VS (ShrS k x y K)
  | _ => match kindEq k k' with
    | false => False
    | true => match op with
      | .add => VS (Arith k (x + y) K)
      | .sub => VS (Arith k (x - y) K)
      | .mul => VS (Arith k (x * y) K)
      | .quo => VS (QuoS k x y K)
      | .rem => VS (RemS k x y K)
      | .eql => K (.bool (x == y))
      | .neq => K (.bool (x != y))
      | .lss => K (.bool (decide (x < y)))
      | .leq => K (.bool (decide (x ≤ y)))
      | .gtr => K (.bool (decide (y < x)))
      | .geq => K (.bool (decide (y ≤ x)))
      | op => VS (BitS op k x y K)

def strK (op : BinOp) (s t : List UInt8) (K : D → Prop) : Prop :=
  match op with
  | .add => VS (CatS s t K)
  | .eql => K (.bool (s == t))
  | .neq => K (.bool (!(s == t)))
  | _ => False

/-- the Bool of a datum -/
def boolK (d : D) (K : Bool → Prop) : Prop :=
  match d with
  | .bool b => K b
  | .tt => K true
  | .ff => K false
  | _ => False

def eqK (op : BinOp) (b : Bool) (K : D → Prop) : Prop :=
  match op with
  | .eql => K (.bool b)
  | .neq => K (.bool (!b))
  | _ => False

def binK (op : BinOp) (x y : D) (K : D → Prop) : Prop :=
  match x with
  | .int k a => match y with
    | .int k' b => intK op k k' a b K
    | _ => False
  | .str s => match y with
    | .str t => strK op s t K
    | _ => False
  | _ => False

theorem binK_sound {P : Program} {op : BinOp} {t t' : TypeId} {x y : Operand} {σ : List (Nat × D)} {K : D → Prop} {o : Oper} (ho : o.op = .binOp op t x y t')
    (h : binK op (evalD σ x) (evalD σ y) K) : ∃ d, (∀ L, OpOk P o σ L d L) ∧ K d := by
  have base : ∀ d, (∀ (a : Act) (w : World) (ρ : Pl) (L : List Ob), Env w ρ L σ a → ∃ v, (binOp op t (a.eval x) (a.eval y)).run P w = .ok v w ∧ Rep w (foot ρ L) ρ L d v ∧ (∃ k n, a.eval x = .int k n ∨ ∃ s, a.eval x = .string s)) →
      ∀ L, OpOk P o σ L d L := fun d hd => OpOk.of_pure fun a w ρ L hf he => by
    obtain ⟨v, h1, h2, k, n, h3⟩ := hd a w ρ L he
    refine ⟨v, ?_, h2⟩
    have : (eqGuard op t x y (a.eval x) (a.eval y)).run P w = .ok () w := by
      unfold eqGuard
      rcases h3 with h3 | ⟨s, h3⟩ <;> rw [h3] <;> cases op <;> rfl
    simp [execOp, ho, this, h1]
  unfold binK at h
  split at h <;> try exact h.elim
  · rename_i k a hx
    split at h <;> try exact h.elim
    rename_i k' b hy
    have ev : ∀ {w ρ L} {act : Act}, Env w ρ L σ act → act.eval x = .int k a ∧ act.eval y = .int k' b := fun he => by
      have h1 := he.eval x
      have h2 := he.eval y
      rw [hx] at h1
      rw [hy] at h2
      exact ⟨h1.int_inv, h2.int_inv⟩
    have mk : ∀ d, (∀ w, ∃ v, (binOp op t (.int k a) (.int k' b)).run P w = .ok v w ∧ ∀ F, RepP w F d v) → ∀ L, OpOk P o σ L d L := fun d hd =>
      base d fun act w ρ L he => by
        obtain ⟨h1, h2⟩ := ev he
        obtain ⟨v, h3, h4⟩ := hd w
        rw [h1, h2]
        exact ⟨v, h3, .pure _ _ (h4 _), k, a, .inl rfl⟩
    have shr : ∀ op, op = .shl ∨ op = .shr → ∀ w, (binOp op t (.int k a) (.int k' b)).run P w = (Op.shift op k a k' b).run P w := fun op h w => by
      rcases h with rfl | rfl <;> rfl
    unfold intK at h
    split at h
    · obtain ⟨h0, h⟩ := h.out
      refine ⟨_, mk _ fun w => ⟨_, ?_, fun F => .int _ _⟩, h⟩
      rw [shr _ (.inl rfl)]
      simp [Op.shift, show ¬ b < 0 by omega]
    · obtain ⟨h0, h⟩ := h.out
      refine ⟨_, mk _ fun w => ⟨_, ?_, fun F => .int _ _⟩, h⟩
      rw [shr _ (.inr rfl)]
      simp [Op.shift, show ¬ b < 0 by omega]
    · split at h
      · exact h.elim
      · rename_i hk
        have hk := kindEq_eq hk
        subst hk
        split at h
        · exact ⟨_, mk _ fun w => ⟨_, by simp [binOp, Op.intArith], fun F => .int _ _⟩, h.out⟩
        · exact ⟨_, mk _ fun w => ⟨_, by simp [binOp, Op.intArith], fun F => .int _ _⟩, h.out⟩
        · exact ⟨_, mk _ fun w => ⟨_, by simp [binOp, Op.intArith], fun F => .int _ _⟩, h.out⟩
        · obtain ⟨h0, h⟩ := h.out
          exact ⟨_, mk _ fun w => ⟨_, by simp [binOp, Op.intDiv, h0], fun F => .int _ _⟩, h⟩
        · obtain ⟨h0, h⟩ := h.out
          exact ⟨_, mk _ fun w => ⟨_, by simp [binOp, Op.intDiv, h0], fun F => .int _ _⟩, h⟩
        · exact ⟨_, mk _ fun w => ⟨_, by simp [binOp, Op.intCmp], fun F => .bool _⟩, h⟩
        · exact ⟨_, mk _ fun w => ⟨_, by simp [binOp, Op.intCmp], fun F => .bool _⟩, h⟩
        · exact ⟨_, mk _ fun w => ⟨_, by simp [binOp, Op.intCmp], fun F => .bool _⟩, h⟩
        · exact ⟨_, mk _ fun w => ⟨_, by simp [binOp, Op.intCmp], fun F => .bool _⟩, h⟩
        · exact ⟨_, mk _ fun w => ⟨_, by simp [binOp, Op.intCmp], fun F => .bool _⟩, h⟩
        · exact ⟨_, mk _ fun w => ⟨_, by simp [binOp, Op.intCmp], fun F => .bool _⟩, h⟩
        · rename_i h1 h2 h3 h4 h5 h6 h7 h8 h9 h10 h11
          refine ⟨_, mk _ fun w => ⟨_, ?_, fun F => .int _ _⟩, h.out⟩
          unfold bitI
          cases op <;> first | (simp [binOp, Op.intBits]; done) | (exfalso; first | exact h1 rfl | exact h2 rfl | exact h3 rfl | exact h4 rfl | exact h5 rfl | exact h6 rfl | exact h7 rfl | exact h8 rfl | exact h9 rfl | exact h10 rfl | exact h11 rfl | (rename_i g1 g2; first | exact g1 rfl | exact g2 rfl))
  · rename_i s hx
    split at h <;> try exact h.elim
    rename_i s' hy
    have ev : ∀ {w ρ L} {act : Act}, Env w ρ L σ act → act.eval x = .string ⟨s.toArray⟩ ∧ act.eval y = .string ⟨s'.toArray⟩ := fun he => by
      have h1 := he.eval x
      have h2 := he.eval y
      rw [hx] at h1
      rw [hy] at h2
      exact ⟨h1.str_inv, h2.str_inv⟩
    have mk : ∀ d, (∀ w, ∃ v, (binOp op t (.string ⟨s.toArray⟩) (.string ⟨s'.toArray⟩)).run P w = .ok v w ∧ ∀ F, RepP w F d v) → ∀ L, OpOk P o σ L d L := fun d hd =>
      base d fun act w ρ L he => by
        obtain ⟨h1, h2⟩ := ev he
        obtain ⟨v, h3, h4⟩ := hd w
        rw [h1, h2]
        exact ⟨v, h3, .pure _ _ (h4 _), .i64, 0, .inr ⟨_, rfl⟩⟩
    have tl : ∀ l : List UInt8, (⟨l.toArray⟩ : ByteArray).toList = l := ByteArray.toList_mk
    unfold strK at h
    split at h <;> try exact h.elim
    · obtain ⟨h0, h⟩ := h.out
      refine ⟨_, mk _ fun w => ⟨.string ⟨(s ++ s').toArray⟩, ?_, fun F => .str _⟩, h⟩
      have e1 : (⟨s.toArray⟩ : ByteArray).size = s.length := by simp [ByteArray.size]
      have e2 : (⟨s'.toArray⟩ : ByteArray).size = s'.length := by simp [ByteArray.size]
      have e3 : (⟨s.toArray⟩ : ByteArray) ++ ⟨s'.toArray⟩ = ⟨(s ++ s').toArray⟩ := by
        rw [← Joins.bytes_eta ((⟨s.toArray⟩ : ByteArray) ++ ⟨s'.toArray⟩), Joins.data_append]
      simp only [binOp, Op.stringOp, e1, e2, e3]
      rw [if_neg (by omega)]
      rfl
    · refine ⟨_, mk _ fun w => ⟨_, ?_, fun F => .bool _⟩, h⟩
      simp [binOp, Op.stringOp, tl]
    · refine ⟨_, mk _ fun w => ⟨_, ?_, fun F => .bool _⟩, h⟩
      simp [binOp, Op.stringOp, tl]


/-! one operand -/
def unK (op : UnOp) (x : D) (K : D → Prop) : Prop :=
  match op with
  | .neg => match x with
    | .int k n => VS (Arith k (0 - n) K)
    | _ => False
  | .xor => match x with
    | .int k n => VS (BitS .xor k (if k.signed then -1 else k.max) n K)
    | _ => False
  | .not => match x with
    | .bool b => K (.bool (!b))
    | .tt => K .ff
    | .ff => K .tt
    | _ => False
  | .plus => False

theorem unK_sound {P : Program} {op : UnOp} {t : TypeId} {x : Operand} {σ : List (Nat × D)} {K : D → Prop} {o : Oper} (ho : o.op = .unOp op t x)
    (h : unK op (evalD σ x) K) : ∃ d, (∀ L, OpOk P o σ L d L) ∧ K d := by
  have mk : ∀ (d d' : D), evalD σ x = d' → (∀ w F ρ L v, Rep w F ρ L d' v → ∃ u, (Op.unary op v).run P w = .ok u w ∧ RepP w F d u) → ∀ L, OpOk P o σ L d L := fun d d' hx hd =>
    OpOk.of_pure fun a w ρ L hf he => by
      have h1 := he.eval x
      rw [hx] at h1
      obtain ⟨u, h2, h3⟩ := hd _ _ _ _ _ h1
      exact ⟨u, by simp [execOp, ho, h2], .pure _ _ h3⟩
  unfold unK at h
  split at h
  · split at h <;> try exact h.elim
    rename_i k n hx
    exact ⟨_, mk _ _ hx fun w F ρ L v hv => by rw [hv.int_inv]; exact ⟨_, by simp [Op.unary, Op.intArith], .int _ _⟩, h.out⟩
  · split at h <;> try exact h.elim
    rename_i k n hx
    exact ⟨_, mk _ _ hx fun w F ρ L v hv => by rw [hv.int_inv]; exact ⟨_, by simp [Op.unary, Op.intBits, bitI], .int _ _⟩, h.out⟩
  · split at h <;> try exact h.elim
    · rename_i b hx
      exact ⟨_, mk _ _ hx fun w F ρ L v hv => by rw [hv.bool_inv]; exact ⟨_, by simp [Op.unary], .bool _⟩, h⟩
    · rename_i hx
      exact ⟨_, mk _ _ hx fun w F ρ L v hv => by rw [hv.tt_inv]; exact ⟨_, by simp [Op.unary], .ff⟩, h⟩
    · rename_i hx
      exact ⟨_, mk _ _ hx fun w F ρ L v hv => by rw [hv.ff_inv]; exact ⟨_, by simp [Op.unary], .tt⟩, h⟩
  · exact h.elim

/-! moves, picks -/
theorem move_sound {P : Program} {x : Operand} {σ : List (Nat × D)} {K : D → Prop} {o : Oper} (ho : o.op = .move x ∨ o.op = .assign x)
    (h : forceD (evalD σ x) K) : ∃ d, (∀ L, OpOk P o σ L d L) ∧ K d :=
  ⟨evalD σ x, OpOk.of_pure fun a w ρ L hf he => ⟨a.eval x, by rcases ho with ho | ho <;> simp [execOp, ho], he.eval x⟩, forceD_eq h⟩

def pickK (c : D) (x y : D) (K : D → Prop) : Prop :=
  match c with
  | .tt => forceD x K
  | .ff => forceD y K
  | .bool b => VS (SplitS b (forceD x K) (forceD y K))
  | _ => False

theorem pick_sound {P : Program} {c x y : Operand} {σ : List (Nat × D)} {K : D → Prop} {o : Oper} (ho : o.op = .pick c x y)
    (h : pickK (evalD σ c) (evalD σ x) (evalD σ y) K) : ∃ d, (∀ L, OpOk P o σ L d L) ∧ K d := by
  have mk : ∀ (b : Bool), (∀ w F ρ L v, Rep w F ρ L (evalD σ c) v → v = .bool b) → ∀ L, OpOk P o σ L (if b then evalD σ x else evalD σ y) L := fun b hb =>
    OpOk.of_pure fun a w ρ L hf he => by
      have h1 := hb _ _ _ _ _ (he.eval c)
      refine ⟨if b then a.eval x else a.eval y, by simp [execOp, ho, h1, asBool], ?_⟩
      cases b
      · exact he.eval y
      · exact he.eval x
  unfold pickK at h
  split at h <;> try exact h.elim
  · rename_i hx
    exact ⟨_, mk true fun w F ρ L v hv => by rw [hx] at hv; exact hv.tt_inv, forceD_eq h⟩
  · rename_i hx
    exact ⟨_, mk false fun w F ρ L v hv => by rw [hx] at hv; exact hv.ff_inv, forceD_eq h⟩
  · rename_i b hx
    refine ⟨_, mk b fun w F ρ L v hv => by rw [hx] at hv; exact hv.bool_inv, ?_⟩
    cases b
    · exact forceD_eq (h.out.2 rfl)
    · exact forceD_eq (h.out.1 rfl)

def nilK (x : D) (K : D → Prop) : Prop :=
  match x with
  | .loc k o => K (.loc k o)
  | .aloc k n i o => K (.aloc k n i o)
  | .ptr cs => K (.ptr cs)
  | .fn f c => K (.fn f c)
  | _ => False

theorem nilK_sound {P : Program} {x : Operand} {σ : List (Nat × D)} {K : D → Prop} {o : Oper} (ho : o.op = .nilCheck x)
    (h : nilK (evalD σ x) K) : ∃ d, (∀ L, OpOk P o σ L d L) ∧ K d := by
  refine ⟨evalD σ x, OpOk.of_pure fun a w ρ L hf he => ⟨a.eval x, ?_, he.eval x⟩, ?_⟩
  · have h1 := he.eval x
    unfold nilK at h
    split at h <;> try exact h.elim
    · rename_i hx; rw [hx] at h1; obtain ⟨_, h2, _⟩ := h1.loc_inv; simp [execOp, ho, h2]
    · rename_i hx; rw [hx] at h1; obtain ⟨_, h2, _⟩ := h1.aloc_inv; simp [execOp, ho, h2]
    · rename_i hx; rw [hx] at h1; obtain ⟨_, _, h2, _⟩ := h1.ptr_inv; simp [execOp, ho, h2]
    · rename_i hx; rw [hx] at h1; obtain ⟨_, h2, _⟩ := h1.fn_inv; simp [execOp, ho, h2]
  · unfold nilK at h
    split at h <;> first | exact h.elim | (rename_i hx; rw [hx]; exact h)

/-! conversions -/
def convK (s t : TD) (x : D) (K : D → Prop) : Prop :=
  match t with
  | .int k => match x with
    | .int _ n => VS (Arith k n K)
    | _ => False
  | .str => match s with
    | .str => match x with
      | .str s => K (.str s)
      | _ => False
    | _ => False
  | _ => False

theorem convK_sound {P : Program} {s t : TypeId} {x : Operand} {σ : List (Nat × D)} {K : D → Prop} {o : Oper} {i j : TI} (hi : TIOk P s i) (hj : TIOk P t j)
    (ho : o.op = .convert s t x) (h : convK i.d j.d (evalD σ x) K) : ∃ d, (∀ L, OpOk P o σ L d L) ∧ K d := by
  obtain ⟨di, hi1, hi2⟩ := hi.under
  obtain ⟨dj, hj1, hj2⟩ := hj.under
  unfold convK at h
  split at h <;> try exact h.elim
  · rename_i k hk
    split at h <;> try exact h.elim
    rename_i k' n hx
    refine ⟨_, OpOk.of_pure fun a w ρ L hf he => ?_, h.out⟩
    have h1 := he.eval x
    rw [hx] at h1
    have hd : dj = .int k := by
      rw [hk] at hj2
      cases dj <;> simp [tdOf] at hj2
      rw [hj2]
    subst hd
    refine ⟨.int k (k.wrap n), ?_, .pure _ _ (.int _ _)⟩
    simp only [execOp, ho, h1.int_inv, convert, Sem.run_bind, run_underlying hi1, run_underlying hj1, Result.andThen]
    cases di <;> simp [Conv.intToInt]
  · rename_i hk
    split at h <;> try exact h.elim
    rename_i hs
    split at h <;> try exact h.elim
    rename_i s hx
    refine ⟨_, OpOk.of_pure fun a w ρ L hf he => ?_, h⟩
    have h1 := he.eval x
    rw [hx] at h1
    have hd : dj = .string := by
      rw [hk] at hj2
      cases dj <;> simp [tdOf] at hj2
      rfl
    have hd' : di = .string := by
      rw [hs] at hi2
      cases di <;> simp [tdOf] at hi2
      rfl
    subst hd
    subst hd'
    refine ⟨.string ⟨s.toArray⟩, ?_, .pure _ _ (.str _)⟩
    simp only [execOp, ho, h1.str_inv, convert, Sem.run_bind, run_underlying hi1, run_underlying hj1, Result.andThen]
    rfl

/-! parts of tuples, fields -/
theorem extract_sound {P : Program} {x : Operand} {n : Nat} {σ : List (Nat × D)} {K : D → Prop} {o : Oper} (ho : o.op = .extract x n)
    (h : match evalD σ x with | .tup ds => nthK n ds fun d => forceD d K | _ => False) : ∃ d, (∀ L, OpOk P o σ L d L) ∧ K d := by
  split at h <;> try exact h.elim
  rename_i ds hx
  obtain ⟨c, h1, h2⟩ := nthK_eq h
  refine ⟨c, OpOk.of_pure fun a w ρ L hf he => ?_, forceD_eq h2⟩
  have h3 := he.eval x
  rw [hx] at h3
  obtain ⟨vs, h4, h5, h6⟩ := h3.tup_inv
  have hlt : n < vs.length := by rw [h5]; exact (List.getElem?_eq_some_iff.1 h1).1
  refine ⟨vs[n], ?_, h6 n c _ h1 (List.getElem?_eq_getElem hlt)⟩
  simp [execOp, ho, h4, Instr.extract, hlt]

def fieldOff (i : TI) (f : Nat) (K : Nat → Nat → Prop) : Prop :=
  match i.d with
  | .struct fs => nthK f fs fun p => K p.1 p.2
  | _ => False

theorem fieldOff_eq {P : Program} {t : TypeId} {i : TI} (hi : TIOk P t i) {f : Nat} {K : Nat → Nat → Prop} (h : fieldOff i f K) :
    ∃ fs x, P.underlying t = some (.struct fs) ∧ fs[f]? = some x ∧ K x.offset x.type := by
  unfold fieldOff at h
  split at h <;> try exact h.elim
  rename_i fs hd
  obtain ⟨p, h1, h2⟩ := nthK_eq h
  obtain ⟨d, h3, h4⟩ := hi.under
  rw [hd] at h4
  cases d <;> simp [tdOf] at h4
  rename_i gs
  subst h4
  simp only [List.getElem?_map, Option.map_eq_some_iff] at h1
  obtain ⟨x, h5, rfl⟩ := h1
  exact ⟨gs, x, h3, by simpa using h5, h2⟩

theorem TIOk.sizeRun {P : Program} {t : TypeId} {i : TI} (hi : TIOk P t i) (w : World) : (sizeOf t).run P w = .ok i.size w := by
  obtain ⟨x, h1, h2, _, _⟩ := hi.info
  simp [sizeOf, run_typeInfo w h1, h2]

theorem TIOk.zeroRun {P : Program} {t : TypeId} {i : TI} (hi : TIOk P t i) (w : World) : (zeroValue t).run P w = .ok i.zero w := by
  obtain ⟨x, h1, _, _, h2⟩ := hi.info
  simp [zeroValue, run_typeInfo w h1, h2]

def TD.isAgg : TD → Bool
  | .struct _ => true
  | .arr _ _ => true
  | _ => false

theorem TIOk.aggRun {P : Program} {t : TypeId} {i : TI} (hi : TIOk P t i) (w : World) : (isAgg t).run P w = .ok i.d.isAgg w := by
  obtain ⟨d, h1, h2⟩ := hi.under
  simp only [isAgg, Sem.run_bind, run_underlying h1, Result.andThen, ← h2]
  cases d <;> rfl

def offK (x : D) (n : Nat) (K : D → Prop) : Prop :=
  match x with
  | .loc k o => K (.loc k (o + n))
  | .aloc k m i o => K (.aloc k m i (o + n))
  | .ptr cs => dropK n cs fun cs => K (.ptr cs)
  | _ => False

theorem addr_add (b off n : Nat) : (⟨b, off, none⟩ : Addr).add n = ⟨b, off + n, none⟩ := by
  unfold Addr.add
  split
  · rename_i h; subst h; rfl
  · rfl

theorem offK_sound {x : D} {n : Nat} {K : D → Prop} (h : offK x n K) :
    ∃ d, K d ∧ ∀ (w : World) (F : Nat → Nat → Prop) (ρ : Pl) (L : List Ob) (v : Value), Rep w F ρ L x v →
      ∃ a, v = .pointer (some a) ∧ Rep w F ρ L d (.pointer (some (a.add n))) := by
  unfold offK at h
  split at h <;> try exact h.elim
  · refine ⟨_, h, fun w F ρ L v hv => ?_⟩
    obtain ⟨a, h1, h2, h3⟩ := hv.loc_inv
    refine ⟨a, h1, .loc _ _ _ h2 fun ds hds => ?_⟩
    rw [h3 ds hds, addr_add, Nat.add_assoc]
  · refine ⟨_, h, fun w F ρ L v hv => ?_⟩
    obtain ⟨a, h1, h2, h3⟩ := hv.aloc_inv
    refine ⟨a, h1, .aloc _ _ _ _ _ h2 fun e ds hds => ?_⟩
    obtain ⟨h4, h5⟩ := h3 e ds hds
    refine ⟨h4, fun hl => ?_⟩
    rw [h5 hl, addr_add, Nat.add_assoc, Nat.add_assoc]
  · refine ⟨_, dropK_eq h, fun w F ρ L v hv => ?_⟩
    cases hv with
    | pure _ _ hv => cases hv with
      | ptr cs b off val hc hr =>
        refine ⟨_, rfl, ?_⟩
        rw [addr_add]
        refine .pure _ _ (.ptr _ _ _ (fun j => val (n + j)) (fun j c hj => ?_) fun j c hj => ?_)
        · have := hc (n + j) c (by simpa using hj)
          rwa [← Nat.add_assoc] at this
        · exact hr (n + j) c (by simpa using hj)

/-- a field's address -/
def fieldAddrK (T : Tab) (s f : Nat) (x : D) (K : D → Prop) : Prop :=
  match ty T s with
  | some i => fieldOff i f fun off t => match ty T t with
    | some _ => offK x off K
    | none => False
  | none => False

theorem fieldAddr_sound {P : Program} {T : Tab} (hT : TabOk P T) {s f : Nat} {x : Operand} {σ : List (Nat × D)} {K : D → Prop} {o : Oper}
    (ho : o.op = .fieldAddr s x f) (h : fieldAddrK T s f (evalD σ x) K) : ∃ d, (∀ L, OpOk P o σ L d L) ∧ K d := by
  unfold fieldAddrK at h
  split at h <;> try exact h.elim
  rename_i i hi
  obtain ⟨fs, fd, h1, h2, h3⟩ := fieldOff_eq (hT _ _ hi) h
  split at h3 <;> try exact h3.elim
  rename_i j hj
  obtain ⟨d, h4, h5⟩ := offK_sound h3
  refine ⟨d, OpOk.of_pure fun a w ρ L hf he => ?_, h4⟩
  obtain ⟨ad, h6, h7⟩ := h5 _ _ _ _ _ (he.eval x)
  refine ⟨_, ?_, h7⟩
  have hsz := (hT _ _ hj).sizeRun w
  have hpos := (hT _ _ hj).pos
  simp [execOp, ho, Instr.fieldAt, run_underlying h1, h2, h6, Instr.sureAddr, fieldPlace, hsz, hpos]

/-! loads of what stays -/
def loadPtrK (i : TI) (cs : List D) (K : D → Prop) : Prop :=
  match i.d.isAgg with
  | true => takeK i.size cs fun r => K (.agg r)
  | false => nthK 0 cs fun c => forceD c K

theorem run_loadVar_cells {P : Program} {t : TypeId} {i : TI} (hi : TIOk P t i) {w : World} {b off : Nat} (f : Nat → Value) (hc : ∀ j, j < i.size → w.cell? ⟨b, off + j, none⟩ = some (f j)) :
    (loadVar t ⟨b, off, none⟩).run P w = .ok (match i.d.isAgg with | true => .agg ((List.range i.size).map f).toArray | false => f 0) w := by
  have h0 := hi.pos
  unfold loadVar
  simp only [Sem.run_bind, hi.aggRun, Result.andThen]
  cases hA : i.d.isAgg
  · have := hc 0 (by omega)
    simp only [Nat.add_zero] at this
    simp [run_load, this]
  · simp only [if_true, Sem.run_bind, hi.sizeRun, Result.andThen]
    rw [run_loadCells w ⟨b, off, none⟩ i.size f (fun j hj => by rw [addr_add]; exact hc j hj)]
    rfl

theorem loadPtr_sound {P : Program} {T : Tab} (hT : TabOk P T) {t : Nat} {x : Operand} {σ : List (Nat × D)} {K : D → Prop} {o : Oper} {i : TI} {cs : List D}
    (ho : o.op = .load t x) (hi : ty T t = some i) (hx : evalD σ x = .ptr cs) (h : loadPtrK i cs K) : ∃ d, (∀ L, OpOk P o σ L d L) ∧ K d := by
  have hi := hT _ _ hi
  have h0 := hi.pos
  unfold loadPtrK at h
  split at h
  · rename_i hA
    obtain ⟨h1, h2⟩ := takeK_eq h
    refine ⟨_, OpOk.of_pure fun a w ρ L hf he => ?_, h1⟩
    have hv := he.eval x
    rw [hx] at hv
    obtain ⟨b, off, h3, h4⟩ := hv.ptr_inv
    refine ⟨.agg ((List.range i.size).map fun j => (w.cell? ⟨b, off + j, none⟩).getD undef).toArray, ?_, ?_⟩
    · have := run_loadVar_cells hi (w := w) (b := b) (off := off) (fun j => (w.cell? ⟨b, off + j, none⟩).getD undef) (fun j hj => by
        obtain ⟨u, h5, _⟩ := h4 j cs[j] (List.getElem?_eq_getElem (by omega))
        simp [h5])
      rw [hA] at this
      simp [execOp, ho, Instr.loadAt, h3, Instr.sureAddr, this]
    · refine .pure _ _ (.agg _ _ (by simp; omega) fun j d u h5 h6 => ?_)
      simp only [List.getElem?_map, Option.map_eq_some_iff] at h6
      obtain ⟨k, h7, h8⟩ := h6
      obtain ⟨h9, h10⟩ := List.getElem?_eq_some_iff.1 h7
      simp at h9 h10
      subst h10
      rw [List.getElem?_take, if_pos h9] at h5
      obtain ⟨u', h11, _, h12⟩ := h4 j d h5
      rw [h11] at h8
      simp at h8
      rw [← h8]
      exact h12
  · rename_i hA
    obtain ⟨c, h1, h2⟩ := nthK_eq h
    refine ⟨c, OpOk.of_pure fun a w ρ L hf he => ?_, forceD_eq h2⟩
    have hv := he.eval x
    rw [hx] at hv
    obtain ⟨b, off, h3, h4⟩ := hv.ptr_inv
    obtain ⟨u, h5, _, h6⟩ := h4 0 c h1
    refine ⟨u, ?_, .pure _ _ h6⟩
    simp only [Nat.add_zero] at h5
    simp [execOp, ho, Instr.loadAt, h3, Instr.sureAddr, loadVar, hi.aggRun, hA, run_load, h5]


/-! a part of a struct by value -/
def partK (i : TI) (off : Nat) (ds : List D) (K : D → Prop) : Prop :=
  match i.d.isAgg with
  | true => dropK off ds fun r => takeK i.size r fun r => K (.agg r)
  | false => nthK off ds fun c => forceD c K

theorem part_rep {P : Program} {t : Nat} {i : TI} (hi : TIOk P t i) {off : Nat} {ds : List D} {K : D → Prop} (h : partK i off ds K) :
    ∃ d, K d ∧ ∀ (w : World) (F : Nat → Nat → Prop) (ρ : Pl) (L : List Ob) (vs : List Value), vs.length = ds.length →
      (∀ (j : Nat) d v, ds[j]? = some d → vs[j]? = some v → Rep w F ρ L d v) →
      ∃ u, (part t vs.toArray off).run P w = .ok u w ∧ Rep w F ρ L d u := by
  unfold partK at h
  split at h
  · rename_i hA
    obtain ⟨h1, h2⟩ := takeK_eq (dropK_eq h)
    refine ⟨_, h1, fun w F ρ L vs hl hr => ⟨.agg ((vs.drop off).take i.size).toArray, ?_, ?_⟩⟩
    · simp only [part, Sem.run_bind, hi.aggRun, hA, if_true, Result.andThen, hi.sizeRun]
      congr 2
      simp [List.extract_eq_take_drop, Nat.add_sub_cancel_left]
    · simp at h2
      refine .agg _ _ (by simp; omega) fun j d u h3 h4 => ?_
      have h5 : j < i.size := by
        have := (List.getElem?_eq_some_iff.1 h3).1
        simp at this; omega
      rw [List.getElem?_take, if_pos h5, List.getElem?_drop] at h3 h4
      exact hr _ _ _ h3 h4
  · rename_i hA
    obtain ⟨c, h1, h2⟩ := nthK_eq h
    refine ⟨c, forceD_eq h2, fun w F ρ L vs hl hr => ?_⟩
    have hlt : off < vs.length := by rw [hl]; exact (List.getElem?_eq_some_iff.1 h1).1
    refine ⟨vs[off], ?_, hr off c _ h1 (List.getElem?_eq_getElem hlt)⟩
    simp [part, hi.aggRun, hA, hlt]

def fieldK (T : Tab) (s f : Nat) (x : D) (K : D → Prop) : Prop :=
  match ty T s with
  | some i => fieldOff i f fun off t => match ty T t with
    | some j => match x with
      | .agg ds => partK j off ds K
      | _ => False
    | none => False
  | none => False

theorem field_sound {P : Program} {T : Tab} (hT : TabOk P T) {s f : Nat} {x : Operand} {σ : List (Nat × D)} {K : D → Prop} {o : Oper}
    (ho : o.op = .field s x f) (h : fieldK T s f (evalD σ x) K) : ∃ d, (∀ L, OpOk P o σ L d L) ∧ K d := by
  unfold fieldK at h
  split at h <;> try exact h.elim
  rename_i i hi
  obtain ⟨fs, fd, h1, h2, h3⟩ := fieldOff_eq (hT _ _ hi) h
  split at h3 <;> try exact h3.elim
  rename_i j hj
  split at h3 <;> try exact h3.elim
  rename_i ds hx
  obtain ⟨d, h4, h5⟩ := part_rep (hT _ _ hj) h3
  refine ⟨d, OpOk.of_pure fun a w ρ L hf he => ?_, h4⟩
  have hv := he.eval x
  rw [hx] at hv
  obtain ⟨vs, h6, h7, h8⟩ := hv.agg_inv
  obtain ⟨u, h9, h10⟩ := h5 _ _ _ _ vs h7 h8
  refine ⟨u, ?_, h10⟩
  simp [execOp, ho, Instr.field, run_underlying h1, h2, h6, asAgg, h9]

/-! places in slices and arrays -/
def indexAddrK (i : TI) (es : Nat) (x : D) (n : Int) (K : D → Prop) : Prop :=
  match i.d with
  | .slice _ => match x with
    | .sl e ds _ => match Nat.beq e es with
      | true => VS (IdxS ds n fun d => cellsK d fun cs => K (.ptr cs))
      | false => False
    | .osl e k m off len => match Nat.beq e es with
      | true => VS (SideS (0 ≤ n ∧ n < len) (K (.aloc k m (off + n.toNat) 0)))
      | false => False
    | _ => False
  | .arr len _ => match x with
    | .loc k o => VS (SideS (0 ≤ n ∧ n < len) (K (.loc k (o + n.toNat * es))))
    | _ => False
  | _ => False

def indexAddrOp (T : Tab) (t : Nat) (x ix : D) (K : D → Prop) : Prop :=
  match ty T t with
  | some i => match (match i.d with | .slice e => ty T e | .arr _ e => ty T e | _ => none) with
    | some j => match ix with
      | .int _ n => indexAddrK i j.size x n K
      | _ => False
    | none => False
  | none => False

theorem under_slice {P : Program} {t e : Nat} {i : TI} (hi : TIOk P t i) (h : i.d = .slice e) : P.underlying t = some (.slice e) := by
  obtain ⟨d, h1, h2⟩ := hi.under
  rw [h] at h2
  cases d <;> simp [tdOf] at h2
  rw [h1, h2]
theorem under_arr {P : Program} {t n e : Nat} {i : TI} (hi : TIOk P t i) (h : i.d = .arr n e) : P.underlying t = some (.array n e) := by
  obtain ⟨d, h1, h2⟩ := hi.under
  rw [h] at h2
  cases d <;> simp [tdOf] at h2
  rw [h1, h2.1, h2.2]
theorem under_str {P : Program} {t : Nat} {i : TI} (hi : TIOk P t i) (h : i.d = .str) : P.underlying t = some .string := by
  obtain ⟨d, h1, h2⟩ := hi.under
  rw [h] at h2
  cases d <;> simp [tdOf] at h2
  exact h1
theorem under_int {P : Program} {t : Nat} {k : IntKind} {i : TI} (hi : TIOk P t i) (h : i.d = .int k) : P.underlying t = some (.int k) := by
  obtain ⟨d, h1, h2⟩ := hi.under
  rw [h] at h2
  cases d <;> simp [tdOf] at h2
  rw [h1, h2]

theorem indexAddr_sound {P : Program} {T : Tab} (hT : TabOk P T) {t : Nat} {x ix : Operand} {σ : List (Nat × D)} {K : D → Prop} {o : Oper}
    (ho : o.op = .indexAddr t x ix) (h : indexAddrOp T t (evalD σ x) (evalD σ ix) K) : ∃ d, (∀ L, OpOk P o σ L d L) ∧ K d := by
  unfold indexAddrOp at h
  split at h <;> try exact h.elim
  rename_i i hi
  have hi := hT _ _ hi
  split at h <;> try exact h.elim
  rename_i j hj
  split at h <;> try exact h.elim
  rename_i k n hix
  unfold indexAddrK at h
  split at h <;> try exact h.elim
  · rename_i e hd
    have hu := under_slice hi hd
    simp only [hd] at hj
    have hj := hT _ _ hj
    split at h <;> try exact h.elim
    · rename_i e' ds tok hx
      split at h <;> try exact h.elim
      rename_i heq
      have heq := Nat.eq_of_beq_eq_true heq
      obtain ⟨h0, d, h1, h2⟩ := h.out
      refine ⟨.ptr d.cells, OpOk.of_pure fun a w ρ L hf he => ?_, cellsK_eq h2⟩
      have hv := he.eval x
      have hw := he.eval ix
      rw [hx] at hv
      rw [hix] at hw
      have hlt : n.toNat < ds.length := (List.getElem?_eq_some_iff.1 h1).1
      rcases hv.sl_inv.sl_shape with ⟨h3, _, _⟩ | ⟨b, off, cap, h3, h4, h5, h6⟩
      · subst h3; simp at hlt
      · refine ⟨.pointer (some ⟨b, off + n.toNat * j.size, none⟩), ?_, ?_⟩
        · have hb : 0 ≤ n ∧ n < (ds.length : Int) := by omega
          simp [execOp, ho, Instr.indexAt, hw.int_inv, asIntOf, h3, run_underlying hu, hb, hj.sizeRun, addr_add]
        · rw [← heq]
          refine .pure _ _ (.ptr _ b (off + n.toNat * e') (fun q => (w.cell? ⟨b, off + n.toNat * e' + q, none⟩).getD undef) (fun q c hq => ?_) fun q c hq => ?_)
          · obtain ⟨u, h7, h8, h9⟩ := h6 _ d q c h1 hq
            rw [← Nat.add_assoc] at h7 h8
            exact ⟨by rw [h7]; rfl, h8⟩
          · obtain ⟨u, h7, h8, h9⟩ := h6 _ d q c h1 hq
            rw [← Nat.add_assoc] at h7
            rw [h7]; exact h9
    · rename_i e' k' m off len hx
      split at h <;> try exact h.elim
      rename_i heq
      have heq := Nat.eq_of_beq_eq_true heq
      obtain ⟨hb, h⟩ := h.out
      refine ⟨_, OpOk.of_pure fun a w ρ L hf he => ?_, h⟩
      have hv := he.eval x
      have hw := he.eval ix
      rw [hx] at hv
      rw [hix] at hw
      obtain ⟨ad, cap, h1, h2, ⟨hlc, hnn⟩, h3⟩ := hv.osl_inv
      cases ad with
      | none => have := hnn rfl; omega
      | some ad =>
      refine ⟨.pointer (some (ad.add (n.toNat * j.size))), ?_, ?_⟩
      · simp [execOp, ho, Instr.indexAt, hw.int_inv, asIntOf, h1, run_underlying hu, hb, hj.sizeRun]
      · refine .aloc _ _ _ _ _ h2 fun e'' ds hds => ?_
        obtain ⟨h7, h4, h5⟩ := h3 _ _ hds
        refine ⟨h4, fun hl => ?_⟩
        obtain ⟨h6, _⟩ := h5 hl
        have h6 := (h6.resolve_left (by omega)).resolve_left (by simp)
        cases h6
        rw [ addr_add, h7, heq, Nat.add_mul, Nat.add_zero, Nat.add_assoc]
  · rename_i len e hd
    have hu := under_arr hi hd
    simp only [hd] at hj
    have hj := hT _ _ hj
    split at h <;> try exact h.elim
    rename_i k' off hx
    obtain ⟨hb, h⟩ := h.out
    refine ⟨_, OpOk.of_pure fun a w ρ L hf he => ?_, h⟩
    have hv := he.eval x
    have hw := he.eval ix
    rw [hx] at hv
    rw [hix] at hw
    obtain ⟨ad, h1, h2, h3⟩ := hv.loc_inv
    refine ⟨.pointer (some (ad.add (n.toNat * j.size))), ?_, ?_⟩
    · simp [execOp, ho, Instr.indexAt, hw.int_inv, asIntOf, h1, run_underlying hu, hb, hj.sizeRun, Instr.sureAddr]
    · refine .loc _ _ _ h2 fun ds hds => ?_
      rw [h3 _ hds, addr_add, Nat.add_assoc]

end Go.Plat
