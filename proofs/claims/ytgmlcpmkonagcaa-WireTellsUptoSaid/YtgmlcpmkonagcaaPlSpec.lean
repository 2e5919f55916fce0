/-
  Contracts told by functions: what is handed in, what is owned, and what comes of it.
-/
import Derived.Test.YtgmlcpmkonagcaaPlCall
namespace Go.Plat
open Go
set_option linter.unusedVariables false
set_option linter.unusedSimpArgs false

mutual
theorem stripK_mono : ∀ {d : D} {K K' : D → Prop}, stripK d K → (∀ x, K x → K' x) → stripK d K'
  | .agg ds, K, K', h, hK => stripLK_mono (ds := ds) (K := fun ds => K (.agg ds)) (K' := fun ds => K' (.agg ds)) h fun x => hK _
  | .tup ds, K, K', h, hK => stripLK_mono (ds := ds) (K := fun ds => K (.tup ds)) (K' := fun ds => K' (.tup ds)) h fun x => hK _
  | .fn f ds, K, K', h, hK => stripLK_mono (ds := ds) (K := fun ds => K (.fn f ds)) (K' := fun ds => K' (.fn f ds)) h fun x => hK _
  | .any, _, _, h, hK => hK _ h
  | .int _ _, _, _, h, hK => hK _ h
  | .bool _, _, _, h, hK => hK _ h
  | .tt, _, _, h, hK => hK _ h
  | .ff, _, _, h, hK => hK _ h
  | .str _, _, _, h, hK => hK _ h
  | .nilsl, _, _, h, hK => hK _ h
  | .sl _ _ _, _, _, h, hK => hK _ h
  | .nilp, _, _, h, hK => hK _ h
  | .ptr _, _, _, h, hK => hK _ h
  | .nilmap, _, _, h, hK => hK _ h
  | .nilfn, _, _, h, hK => hK _ h
  | .nilif, _, _, h, hK => hK _ h
  | .iface _ _, _, _, h, hK => hK _ h
  | .osl _ _ _ _ _, K, _, h, _ => False.elim h
  | .loc _ _, K, _, h, _ => False.elim h
  | .aloc _ _ _ _, K, _, h, _ => False.elim h
  | .mp _, K, _, h, _ => False.elim h
theorem stripLK_mono : ∀ {ds : List D} {K K' : List D → Prop}, stripLK ds K → (∀ x, K x → K' x) → stripLK ds K'
  | [], _, _, h, hK => hK _ h
  | d :: ds, _, _, h, hK => by
    rename_i K K'
    exact stripK_mono (K := fun d => stripLK ds fun ds => K (d :: ds)) (K' := fun d => stripLK ds fun ds => K' (d :: ds)) h fun x hx => stripLK_mono hx fun y => hK _
end

/-- for each p that may be: the arguments, the objects, the answer, the objects behind it -/
def SpecF {α : Type} (I : α → Prop) (A : α → List D) (O : α → List Ob) (R : α → D) (O' : α → List Ob) : Spec := fun as L d L' => ∃ p, I p ∧ LeL as (A p) ∧ L = O p ∧ d = R p ∧ L' = O' p

/-- nothing owned -/
abbrev SpecP {α : Type} (I : α → Prop) (A : α → List D) (R : α → D) : Spec := SpecF I A (fun _ => []) R (fun _ => [])

section
variable {P : Program} {f : Nat} {as : List D} {L : List Ob} {KP : D → Prop} {KW : D → List Ob → Prop} {α : Type} {I : α → Prop} {A : α → List D} {O : α → List Ob} {R : α → D} {O' : α → List Ob}

/-- a call that owns nothing -/
theorem call_p (h : Meets P f (SpecP I A R)) (p : α) (hI : I p) (has : stripLK as fun as => VS (LeL as (A p))) (hK : KP (R p)) : CallS P f as L KP KW :=
  call_pure h (stripLK_mono has fun as' h1 => ⟨_, ⟨p, hI, h1.out, rfl, rfl, rfl⟩, hK⟩)

/-- a call that is handed the objects ks, and comes back with js -/
theorem call_f (h : Meets P f (SpecF I A O R O')) (ks js : List Nat) (p : α) (hI : I p) (hnd : nodupB ks = true) (hjs : prefB ks js L.length = true)
    (has : renLK (keepAt ks 0) as fun as1 => keepK (keepAt ks 0) ks L fun L1 => VS (LeL as1 (A p)) ∧ VS (L1 = O p) ∧ renK (nthO js) (R p) fun d => bringK (nthO js) ks (O' p) L fun L' => KW d L') : CallS P f as L KP KW := by
  obtain ⟨as1, h1, h2⟩ := renLK_eq has
  obtain ⟨L1, ⟨e1, e2, h3⟩, h4, h5⟩ := keepK_eq h2
  obtain ⟨d, h7, h8⟩ := renK_eq h3
  have hks : ∀ k ∈ ks, k < L.length := fun k hk => by
    obtain ⟨i, hi, rfl⟩ := List.getElem_of_mem hk
    have hil : i < L1.length := by omega
    obtain ⟨j, o, g1, g2, _⟩ := h5 i _ (List.getElem?_eq_getElem hil)
    rw [List.getElem?_eq_getElem hi] at g1
    cases g1
    exact (List.getElem?_eq_some_iff.1 g2).1
  obtain ⟨L', h9, h10, h11, h12, h13, h14⟩ := bringK_eq hnd hks h8
  obtain ⟨j1, j2⟩ := prefB_eq hjs
  exact .inr ⟨d, L', fun w ρ vs hf hr => frame_call h hnd hks j1 j2 h1 h4 h5 ⟨p, hI, e1.out, e2.out, rfl, rfl⟩ h7 h10 h11 h12 h13 h14 hf hr, h.1, h9⟩

/-- an array is lent -/
theorem call_lend_p {k e : Nat} {els els' : List D} (as1 : List D) (hk : L[k]? = some (.arr e els)) (hs : StripEls els els') (has : FzL k e els els' L.length as as1)
    (h : Meets P f (SpecP I A R)) (p : α) (hI : I p) (hst : stripLK as1 fun as => VS (LeL as (A p))) (hfl : flatB (R p) = true) (hK : KW (R p) L) : CallS P f as L KP KW :=
  call_lend as1 hk hs has h (stripLK_mono hst fun as' h1 => ⟨_, ⟨p, hI, h1.out, rfl, rfl, rfl⟩, hfl, hK⟩)

/-- the proof of such a contract -/
theorem meets_f {T : Tab} (hT : TabOk P T) {fn : Func} {c : Code} (hf : P.funcs[f]? = some fn) (hb : fn.body = some c) (hn : (fn.name == "runtime.NumGoroutine") = false)
    (h : ∀ p, I p → (O p).length ≤ (O' p).length ∧ (A p).length ≤ fn.ntmps ∧ ∀ E : Entry, E.L = O p → AWP P fn.ntmps E c (FinQ T fn.results.toList (O p).length (R p) (O' p)) (argS 0 (A p)) (O p)) :
    Meets P f (SpecF I A O R O') := by
  have base : Meets P f (fun as L d L' => ∃ p, I p ∧ as = A p ∧ L = O p ∧ d = R p ∧ L' = O' p) := by
    refine meets_intro hT hf hb hn ?_
    rintro as L d L' ⟨p, hI, rfl, rfl, rfl, rfl⟩
    exact h p hI
  refine ⟨base.1, ?_⟩
  rintro as L d L' ⟨p, hI, has, rfl, rfl, rfl⟩ w ρ vs hf hr
  refine base.2 (A p) _ _ _ ⟨p, hI, rfl, rfl, rfl, rfl⟩ w ρ vs hf ⟨hr.1.trans has.1, fun i d v h1 h2 => ?_⟩
  have hlt : i < as.length := by rw [has.1]; exact (List.getElem?_eq_some_iff.1 h1).1
  exact has.2 i _ d (List.getElem?_eq_getElem hlt) h1 _ _ _ _ _ (hr.2 i _ v (List.getElem?_eq_getElem hlt) h2)
end

end Go.Plat
