/-
  Abstract data for Go values, what a value of a world reads as, owned objects, and how readings persist.
-/
import Derived.RowKit3
import Derived.Calls
import Derived.Laws.Sem
namespace Go.Plat
open Go
set_option linter.unusedVariables false
set_option linter.unusedSimpArgs false

/-- abstract data -/
inductive D where
  | any
  | int (k : IntKind) (n : Int)
  | bool (b : Bool)
  | tt
  | ff
  | str (s : List UInt8)
  | agg (ds : List D)
  | tup (ds : List D)
  | nilsl
  | sl (e : Nat) (ds : List D) (tok : Option Nat)
  | osl (e k n off len : Nat)
  | nilp
  | ptr (cs : List D)
  | loc (k off : Nat)
  | aloc (k n i off : Nat)
  | nilmap
  | mp (k : Nat)
  | fn (f : Nat) (caps : List D)
  | nilfn
  | nilif
  | iface (t : Nat) (d : D)
  deriving Inhabited

/-- the cells of a datum -/
def D.cells : D → List D
  | .agg ds => ds
  | d => [d]

/-- where an object lies: its block, the first cell, how many cells -/
structure Loc where
  block : Nat
  off : Nat
  cap : Nat

/-- owned objects -/
inductive Ob where
  | cells (ds : List D)
  | arr (e : Nat) (ds : List D)
  | spare (n : Nat)
  | map (es : List (D × D))
  | dead
  deriving Inhabited

def Ob.owns (o : Ob) (l : Loc) (b off : Nat) : Prop :=
  match o with
  | .dead => False
  | .map _ => b = l.block
  | _ => b = l.block ∧ l.off ≤ off ∧ off < l.off + l.cap

/-- where the objects lie, and what else may not be touched, nor read -/
structure Pl where
  place : Nat → Loc
  hid : Nat → Nat → Prop
instance : CoeFun Pl fun _ => Nat → Loc := ⟨Pl.place⟩

def own (ρ : Pl) (L : List Ob) (b off : Nat) : Prop :=
  ∃ (k : Nat) (o : Ob), L[k]? = some o ∧ o.owns (ρ k) b off

def foot (ρ : Pl) (L : List Ob) (b off : Nat) : Prop := own ρ L b off ∨ ρ.hid b off

/-- what reads the same whatever is done to owned memory -/
inductive RepP (w : World) (F : Nat → Nat → Prop) : D → Value → Prop
  | any (v : Value) : RepP w F .any v
  | int (k : IntKind) (n : Int) : RepP w F (.int k n) (.int k n)
  | bool (b : Bool) : RepP w F (.bool b) (.bool b)
  | tt : RepP w F .tt (.bool true)
  | ff : RepP w F .ff (.bool false)
  | str (s : List UInt8) : RepP w F (.str s) (.string ⟨s.toArray⟩)
  | agg (ds : List D) (vs : List Value) (hl : vs.length = ds.length)
      (h : ∀ (i : Nat) d v, ds[i]? = some d → vs[i]? = some v → RepP w F d v) : RepP w F (.agg ds) (.agg vs.toArray)
  | tup (ds : List D) (vs : List Value) (hl : vs.length = ds.length)
      (h : ∀ (i : Nat) d v, ds[i]? = some d → vs[i]? = some v → RepP w F d v) : RepP w F (.tup ds) (.tuple vs.toArray)
  | nilsl (a : Option Addr) : RepP w F .nilsl (.slice a 0 0)
  | slnil (e : Nat) (a : Option Addr) : RepP w F (.sl e [] none) (.slice a 0 0)
  | sl (e : Nat) (ds : List D) (b off cap : Nat) (val : Nat → Nat → Value) (hcap : ds.length ≤ cap)
      (hlen : ∀ (i : Nat) d, ds[i]? = some d → d.cells.length = e)
      (hcell : ∀ (i : Nat) d (j : Nat) c, ds[i]? = some d → d.cells[j]? = some c →
        w.cell? ⟨b, off + (i * e + j), none⟩ = some (val i j) ∧ ¬ F b (off + (i * e + j)))
      (hone : ∀ (i : Nat) d (j : Nat) c, ds[i]? = some d → d.cells[j]? = some c → (val i j).oneCell' = true)
      (h : ∀ (i : Nat) d (j : Nat) c, ds[i]? = some d → d.cells[j]? = some c → RepP w F c (val i j)) :
      RepP w F (.sl e ds none) (.slice (some ⟨b, off, none⟩) ds.length cap)
  | nilp : RepP w F .nilp (.pointer none)
  | ptr (cs : List D) (b off : Nat) (val : Nat → Value)
      (hcell : ∀ (j : Nat) c, cs[j]? = some c → w.cell? ⟨b, off + j, none⟩ = some (val j) ∧ ¬ F b (off + j))
      (h : ∀ (j : Nat) c, cs[j]? = some c → RepP w F c (val j)) : RepP w F (.ptr cs) (.pointer (some ⟨b, off, none⟩))
  | nilmap : RepP w F .nilmap (.map none)
  | fn (f : Nat) (ds : List D) (vs : List Value) (hl : vs.length = ds.length)
      (h : ∀ (i : Nat) d v, ds[i]? = some d → vs[i]? = some v → RepP w F d v) : RepP w F (.fn f ds) (.func (.func f) #[] vs.toArray)
  | nilfn : RepP w F .nilfn .nilFunc
  | nilif : RepP w F .nilif .nilIface
  | iface (t : Nat) (d : D) (v : Value) (h : RepP w F d v) : RepP w F (.iface t d) (.iface t v)

/-- the room behind a slice is what its token owns -/
def TokMatch (v : Value) (e : Nat) (l : Loc) : Prop :=
  match v with
  | .slice none _ cap => cap = 0 ∧ l.cap = 0
  | .slice (some a) len cap => (l.block = a.block ∧ l.off = a.off + len * e ∧ l.cap = (cap - len) * e) ∨ (cap = len ∧ l.cap = 0)
  | _ => False

/-- what reads so while the owned objects are as they are -/
inductive Rep (w : World) (F : Nat → Nat → Prop) (ρ : Pl) (L : List Ob) : D → Value → Prop
  | pure (d : D) (v : Value) (h : RepP w F d v) : Rep w F ρ L d v
  | agg (ds : List D) (vs : List Value) (hl : vs.length = ds.length)
      (h : ∀ (i : Nat) d v, ds[i]? = some d → vs[i]? = some v → Rep w F ρ L d v) : Rep w F ρ L (.agg ds) (.agg vs.toArray)
  | tup (ds : List D) (vs : List Value) (hl : vs.length = ds.length)
      (h : ∀ (i : Nat) d v, ds[i]? = some d → vs[i]? = some v → Rep w F ρ L d v) : Rep w F ρ L (.tup ds) (.tuple vs.toArray)
  | fn (f : Nat) (ds : List D) (vs : List Value) (hl : vs.length = ds.length)
      (h : ∀ (i : Nat) d v, ds[i]? = some d → vs[i]? = some v → Rep w F ρ L d v) : Rep w F ρ L (.fn f ds) (.func (.func f) #[] vs.toArray)
  | tok (e : Nat) (ds : List D) (k : Nat) (v : Value) (hk : k < L.length) (h : RepP w F (.sl e ds none) v)
      (hm : ∀ n, L[k]? = some (.spare n) → ds.length ≤ n ∧ (ds.length = n → TokMatch v e (ρ k))) : Rep w F ρ L (.sl e ds (some k)) v
  | osl (e k n off len : Nat) (a : Option Addr) (cap : Nat) (hk : k < L.length) (hc : len ≤ cap ∧ (a = none → cap = 0))
      (hm : ∀ e' ds, L[k]? = some (.arr e' ds) → e' = e ∧ n ≤ ds.length ∧ (ds.length = n → (cap = 0 ∨ a = none ∨ a = some ⟨(ρ k).block, (ρ k).off + off * e, none⟩) ∧ (off + cap) * e = (ρ k).cap ∧ off + len ≤ n)) :
      Rep w F ρ L (.osl e k n off len) (.slice a len cap)
  | loc (k off : Nat) (a : Addr) (hk : k < L.length) (hm : ∀ ds, L[k]? = some (.cells ds) → a = ⟨(ρ k).block, (ρ k).off + off, none⟩) :
      Rep w F ρ L (.loc k off) (.pointer (some a))
  | aloc (k n i off : Nat) (a : Addr) (hk : k < L.length)
      (hm : ∀ e ds, L[k]? = some (.arr e ds) → n ≤ ds.length ∧ (ds.length = n → a = ⟨(ρ k).block, (ρ k).off + (i * e + off), none⟩)) :
      Rep w F ρ L (.aloc k n i off) (.pointer (some a))
  | mp (k r : Nat) (hk : k < L.length) (hm : ∀ es, L[k]? = some (.map es) → r = (ρ k).block) : Rep w F ρ L (.mp k) (.map (some r))

/-- what an owned object holds -/
def ObFits (w : World) (F : Nat → Nat → Prop) (ρ : Pl) (L : List Ob) (l : Loc) : Ob → Prop
  | .cells ds => l.cap = ds.length ∧ ∀ (j : Nat) d, ds[j]? = some d →
      (∃ v, w.cell? ⟨l.block, l.off + j, none⟩ = some v ∧ Rep w F ρ L d v) ∧ w.frozen? ⟨l.block, l.off + j, none⟩ = false
  | .arr e ds => ds.length * e ≤ l.cap ∧ (∀ (i : Nat) d, ds[i]? = some d → d.cells.length = e) ∧
      (∀ (i : Nat) d (j : Nat) c, ds[i]? = some d → d.cells[j]? = some c → ∃ v, w.cell? ⟨l.block, l.off + (i * e + j), none⟩ = some v ∧ Rep w F ρ L c v) ∧
      (∀ j, j < l.cap → (∃ v, w.cell? ⟨l.block, l.off + j, none⟩ = some v) ∧ w.frozen? ⟨l.block, l.off + j, none⟩ = false)
  | .spare _ => ∀ j, j < l.cap → (∃ v, w.cell? ⟨l.block, l.off + j, none⟩ = some v) ∧ w.frozen? ⟨l.block, l.off + j, none⟩ = false
  | .map es => ∃ (ents : Array MapEntry) (clock : Nat), w.heap[l.block]? = some (.map ents clock) ∧ ents.size = es.length ∧
      ∀ (i : Nat) p m, es[i]? = some p → ents[i]? = some m → RepP w F p.1 m.key ∧ Rep w F ρ L p.2 m.val
  | .dead => True

structure Fits (w : World) (ρ : Pl) (L : List Ob) : Prop where
  hid : ∀ b off, ρ.hid b off → b < w.heap.size
  sep : ∀ b off, own ρ L b off → ¬ ρ.hid b off
  obj : ∀ (k : Nat) o, L[k]? = some o → ObFits w (foot ρ L) ρ L (ρ k) o
  disj : ∀ (k k' : Nat) (o o' : Ob) (b off : Nat), L[k]? = some o → L[k']? = some o' → o.owns (ρ k) b off → o'.owns (ρ k') b off → k = k'

/-- what was there and is not owned is as it was -/
structure Ext (F : Nat → Nat → Prop) (w w' : World) : Prop where
  os : w'.os = w.os
  tape : w'.tape = w.tape
  output : w'.output = w.output
  size : w.heap.size ≤ w'.heap.size
  block : ∀ b, b < w.heap.size → (∀ off, ¬ F b off) → w'.heap[b]? = w.heap[b]?
  cell : ∀ b off, b < w.heap.size → ¬ F b off → w'.cell? ⟨b, off, none⟩ = w.cell? ⟨b, off, none⟩
  frozen : ∀ b off, b < w.heap.size → ¬ F b off → w'.frozen? ⟨b, off, none⟩ = w.frozen? ⟨b, off, none⟩

theorem Ext.refl (F : Nat → Nat → Prop) (w : World) : Ext F w w :=
  ⟨rfl, rfl, rfl, Nat.le_refl _, fun _ _ _ => rfl, fun _ _ _ _ => rfl, fun _ _ _ _ => rfl⟩

/-- the second step may touch what the first one made -/
theorem Ext.trans {F F' : Nat → Nat → Prop} {a b c : World} (h : Ext F a b) (k : Ext F' b c)
    (hF : ∀ x y, x < a.heap.size → F' x y → F x y) : Ext F a c where
  os := k.os.trans h.os
  tape := k.tape.trans h.tape
  output := k.output.trans h.output
  size := Nat.le_trans h.size k.size
  block x hx hn := (k.block x (Nat.lt_of_lt_of_le hx h.size) fun off hf => hn off (hF _ _ hx hf)).trans (h.block x hx hn)
  cell x y hx hn := (k.cell x y (Nat.lt_of_lt_of_le hx h.size) fun hf => hn (hF _ _ hx hf)).trans (h.cell x y hx hn)
  frozen x y hx hn := (k.frozen x y (Nat.lt_of_lt_of_le hx h.size) fun hf => hn (hF _ _ hx hf)).trans (h.frozen x y hx hn)

theorem Ext.mono {F F' : Nat → Nat → Prop} {a b : World} (h : Ext F a b) (hF : ∀ x y, x < a.heap.size → F x y → F' x y) : Ext F' a b where
  os := h.os
  tape := h.tape
  output := h.output
  size := h.size
  block x hx hn := h.block x hx fun off hf => hn off (hF _ _ hx hf)
  cell x y hx hn := h.cell x y hx fun hf => hn (hF _ _ hx hf)
  frozen x y hx hn := h.frozen x y hx fun hf => hn (hF _ _ hx hf)

/-- new owned places were owned before, or are new -/
def Fresh (w : World) (F F' : Nat → Nat → Prop) : Prop := ∀ b off, F' b off → F b off ∨ w.heap.size ≤ b

theorem cell_lt {w : World} {b off : Nat} {v : Value} (h : w.cell? ⟨b, off, none⟩ = some v) : b < w.heap.size :=
  World.block_lt_of_cell? w ⟨b, off, none⟩ h

theorem RepP.keep {w w' : World} {F F' : Nat → Nat → Prop} (he : Ext F w w') (hf : Fresh w F F') {d : D} {v : Value}
    (h : RepP w F d v) : RepP w' F' d v := by
  have key : ∀ b off v, w.cell? ⟨b, off, none⟩ = some v ∧ ¬ F b off → w'.cell? ⟨b, off, none⟩ = some v ∧ ¬ F' b off := by
    intro b off v ⟨hc, hn⟩
    have hlt := cell_lt hc
    refine ⟨(he.cell b off hlt hn).trans hc, fun hF => ?_⟩
    rcases hf b off hF with h | h
    · exact hn h
    · omega
  induction h with
  | any v => exact .any v
  | int k n => exact .int k n
  | bool b => exact .bool b
  | tt => exact .tt
  | ff => exact .ff
  | str s => exact .str s
  | agg ds vs hl _ ih => exact .agg ds vs hl ih
  | tup ds vs hl _ ih => exact .tup ds vs hl ih
  | nilsl a => exact .nilsl a
  | slnil e a => exact .slnil e a
  | sl e ds b off cap val hcap hlen hcell hone _ ih =>
    exact .sl e ds b off cap val hcap hlen (fun i d j c h1 h2 => key _ _ _ (hcell i d j c h1 h2)) hone ih
  | nilp => exact .nilp
  | ptr cs b off val hcell _ ih => exact .ptr cs b off val (fun j c h => key _ _ _ (hcell j c h)) ih
  | nilmap => exact .nilmap
  | fn f ds vs hl _ ih => exact .fn f ds vs hl ih
  | nilfn => exact .nilfn
  | nilif => exact .nilif
  | iface t d v _ ih => exact .iface t d v ih

/-- owned objects stand where they stood, or tokens and arrays have moved on -/
structure Compat (ρ : Pl) (L : List Ob) (ρ' : Pl) (L' : List Ob) : Prop where
  hid : ρ'.hid = ρ.hid
  len : L.length ≤ L'.length
  cells : ∀ (k : Nat) ds', k < L.length → L'[k]? = some (.cells ds') → ∃ ds, L[k]? = some (.cells ds) ∧ ρ' k = ρ k
  map : ∀ (k : Nat) es', k < L.length → L'[k]? = some (.map es') → ∃ es, L[k]? = some (.map es) ∧ ρ' k = ρ k
  spare : ∀ (k : Nat) n', k < L.length → L'[k]? = some (.spare n') → ∃ n, L[k]? = some (.spare n) ∧ n ≤ n' ∧ (n = n' → ρ' k = ρ k)
  arr : ∀ (k : Nat) e' ds', k < L.length → L'[k]? = some (.arr e' ds') →
    ∃ ds, L[k]? = some (.arr e' ds) ∧ ds.length ≤ ds'.length ∧ (ds.length = ds'.length → ρ' k = ρ k)

theorem Compat.refl (ρ : Pl) (L : List Ob) : Compat ρ L ρ L :=
  ⟨rfl, Nat.le_refl _, fun k ds' _ h => ⟨ds', h, rfl⟩, fun k ds' _ h => ⟨ds', h, rfl⟩, fun k n' _ h => ⟨n', h, Nat.le_refl _, fun _ => rfl⟩,
    fun k e' ds' _ h => ⟨ds', h, Nat.le_refl _, fun _ => rfl⟩⟩

theorem Compat.trans {ρ ρ' ρ'' : Pl} {L L' L'' : List Ob} (h : Compat ρ L ρ' L') (k : Compat ρ' L' ρ'' L'') : Compat ρ L ρ'' L'' where
  hid := k.hid.trans h.hid
  len := Nat.le_trans h.len k.len
  cells i ds'' hi h2 := by
    obtain ⟨ds', h3, h4⟩ := k.cells i ds'' (Nat.lt_of_lt_of_le hi h.len) h2
    obtain ⟨ds, h5, h6⟩ := h.cells i ds' hi h3
    exact ⟨ds, h5, h4.trans h6⟩
  map i ds'' hi h2 := by
    obtain ⟨ds', h3, h4⟩ := k.map i ds'' (Nat.lt_of_lt_of_le hi h.len) h2
    obtain ⟨ds, h5, h6⟩ := h.map i ds' hi h3
    exact ⟨ds, h5, h4.trans h6⟩
  spare i n'' hi h2 := by
    obtain ⟨n', h3, h4, h5⟩ := k.spare i n'' (Nat.lt_of_lt_of_le hi h.len) h2
    obtain ⟨n, h6, h7, h8⟩ := h.spare i n' hi h3
    exact ⟨n, h6, by omega, fun e => (h5 (by omega)).trans (h8 (by omega))⟩
  arr i e'' ds'' hi h2 := by
    obtain ⟨ds', h3, h4, h5⟩ := k.arr i e'' ds'' (Nat.lt_of_lt_of_le hi h.len) h2
    obtain ⟨ds, h6, h7, h8⟩ := h.arr i e'' ds' hi h3
    exact ⟨ds, h6, by omega, fun e => (h5 (by omega)).trans (h8 (by omega))⟩

theorem Rep.keep {w w' : World} {F F' : Nat → Nat → Prop} {ρ ρ' : Pl} {L L' : List Ob} (he : Ext F w w') (hf : Fresh w F F')
    (hc : Compat ρ L ρ' L') {d : D} {v : Value} (h : Rep w F ρ L d v) : Rep w' F' ρ' L' d v := by
  have hl : ∀ {k}, k < L.length → k < L'.length := fun h => Nat.lt_of_lt_of_le h hc.len
  induction h with
  | pure d v h => exact .pure d v (h.keep he hf)
  | agg ds vs hl _ ih => exact .agg ds vs hl ih
  | tup ds vs hl _ ih => exact .tup ds vs hl ih
  | fn f ds vs hl _ ih => exact .fn f ds vs hl ih
  | tok e ds k v hk h hm =>
    refine .tok e ds k v (hl hk) (h.keep he hf) fun n' hn' => ?_
    obtain ⟨n, h1, h2, h3⟩ := hc.spare k n' hk hn'
    obtain ⟨h4, h5⟩ := hm n h1
    refine ⟨by omega, fun e => ?_⟩
    rw [h3 (by omega)]
    exact h5 (by omega)
  | osl e k n off len a cap hk hcap hm =>
    refine .osl e k n off len a cap (hl hk) hcap fun e' ds' hn' => ?_
    obtain ⟨ds, h1, h2, h3⟩ := hc.arr k e' ds' hk hn'
    obtain ⟨h0, h4, h5⟩ := hm e' ds h1
    refine ⟨h0, by omega, fun e => ?_⟩
    rw [h3 (by omega)]
    exact h5 (by omega)
  | loc k off a hk hm =>
    refine .loc k off a (hl hk) fun ds' hn' => ?_
    obtain ⟨ds, h1, h2⟩ := hc.cells k ds' hk hn'
    rw [h2]; exact hm ds h1
  | aloc k n i off a hk hm =>
    refine .aloc k n i off a (hl hk) fun e' ds' hn' => ?_
    obtain ⟨ds, h1, h2, h3⟩ := hc.arr k e' ds' hk hn'
    obtain ⟨h4, h5⟩ := hm e' ds h1
    refine ⟨by omega, fun e => ?_⟩
    rw [h3 (by omega)]
    exact h5 (by omega)
  | mp k r hk hm =>
    refine .mp k r (hl hk) fun ds' hn' => ?_
    obtain ⟨ds, h1, h2⟩ := hc.map k ds' hk hn'
    rw [h2]; exact hm ds h1

theorem Fresh.foot {w : World} {ρ ρ' : Pl} {L L' : List Ob} (h : Fresh w (own ρ L) (own ρ' L')) (hh : ρ'.hid = ρ.hid) : Fresh w (foot ρ L) (foot ρ' L') := by
  rintro b off (ho | ho)
  · exact (h b off ho).imp .inl id
  · exact .inl (.inr (by rwa [hh] at ho))

end Go.Plat
