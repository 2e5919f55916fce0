/-
  A part of the proof: what the given program's functions answer, each once; conditions that are enough for it.
-/
import Derived.Test.YthmdddenbfbefaaGreatDoorSt3
import Derived.Test.YthmdddenbfbefaaGreatDoorSt2
import Derived.Test.YthmdddenbfbefaaGreatDoorSt1
import Derived.Test.YthmdddenbfbefaaGreatDoorFw3
import Derived.Test.YthmdddenbfbefaaGreatDoorRows
import Derived.WalkKit
import Derived.ProofKit
import Derived.OpenShut
import Derived.JoinedCond
import Derived.Deep.DeepHandedRow
import Derived.Lay
import Derived.Test.YthmdddenbfbefaaGreatDoorTie
namespace Go.Proofs.YthmdddenbfbefaaGreatDoor
open Go Go.Plat
set_option linter.unusedVariables false
set_option linter.unusedSimpArgs false
set_option maxRecDepth 100000
set_option maxHeartbeats 2000000
attribute [local irreducible] AWP Arith BitS BytesS CallS CatS DrawS EndS IdxS LookS LoopEnd Meets ModeS NilS NormL NormM QuoS RemS ShlS ShrS SideS SplitS allA awayA bitI encV evalE findI halfE idxT nameB numV pRes putN regI signedI upA w64 wordB wrongI
def renPs (f g : List UInt8) (ps : List (List OVal)) : List (List OVal) := ps.map (List.map (renV f g))
theorem getD_ren {f g : List UInt8} (ps : List (List OVal)) (n : Nat) : ((renPs f g ps)[n]?).getD [] = (((ps[n]?).getD []).map (renV f g)) := by
 unfold renPs
 rw [List.getElem?_map]
 cases ps[n]? <;> rfl
theorem poolLen_sim (f g : List UInt8) (ps : List (List OVal)) (k : Int) : poolLen (renPs f g ps) k = poolLen ps k := by
 unfold poolLen
 rw [getD_ren, List.length_map]
theorem sizeA_sim (f g : List UInt8) (ps : List (List OVal)) (x : AItem) (a : Int) : sizeA (renPs f g ps) (renI f g x) a = sizeA ps x a := by
 unfold sizeA
 have e : ∀ x : AItem, (renI f g x).kind = x.kind ∧ (renI f g x).long = x.long ∧ (renI f g x).size = x.size ∧ (renI f g x).pool = x.pool := fun _ => ⟨rfl, rfl, rfl, rfl⟩
 obtain ⟨e1, e2, e3, e4⟩ := e x
 rw [e1, e2, e3, e4, poolLen_sim]
theorem placeI_sim (f g : List UInt8) (ps : List (List OVal)) : ∀ (l : List AItem) (a : Int), placeI (renPs f g ps) (l.map (renI f g)) a = ((placeI ps l a).1.map (renI f g), (placeI ps l a).2)
 | [], _ => rfl
 | x :: l, a => by
  rw [List.map_cons, placeI, placeI, sizeA_sim, placeI_sim f g ps l]
  rfl
theorem itA_sim {f g : List UInt8} (h : FG f g) (l : List AItem) (k : Int) : itA (l.map (renI f g)) k = renI f g (itA l k) := by
 unfold itA
 rw [List.getElem?_map]
 cases l[k.toNat]? with
 | none => simp only [Option.map_none, Option.getD_none, renI, noV_ren h]
 | some x => rfl
theorem markAt_sim {f g : List UInt8} (h : FG f g) (l : List AItem) (e m : Int) : markAt (l.map (renI f g)) e m = markAt l e m := by
 unfold markAt
 rw [itA_sim h, List.length_map]
 rfl
theorem placeS_sim {f g : List UInt8} (h : FG f g) (l : List AItem) (e : Int) : ∀ (ss : List OSym) (ms : List Int), placeS (l.map (renI f g)) e (ss.map (renS f g)) ms = (placeS l e ss ms).map (renS f g)
 | s :: ss, m :: ms => by
  rw [List.map_cons, placeS, placeS, List.map_cons, placeS_sim h l e ss ms, markAt_sim h]
  rfl
 | [], ms => by cases ms <;> rfl
 | s :: ss, [] => rfl
structure NL (g : List UInt8) (s : Lay) : Prop where
 items : ∀ x ∈ s.items, x.val.name ≠ g
 syms : ∀ x ∈ s.syms, x.name ≠ g
def renLay (f g : List UInt8) (s : Lay) : Lay := ⟨s.items.map (renI f g), s.syms.map (renS f g)⟩
theorem placeI_no {g : List UInt8} (ps : List (List OVal)) : ∀ (l : List AItem) (a : Int), (∀ x ∈ l, x.val.name ≠ g) → ∀ x ∈ (placeI ps l a).1, x.val.name ≠ g
 | [], _, _ => fun _ hm => by simp [placeI] at hm
 | y :: l, a, h => fun x hm => by
  rw [placeI] at hm
  rcases List.mem_cons.1 hm with rfl | hm
  ·exact h y (List.mem_cons_self ..)
  ·exact placeI_no ps l _ (fun z hz => h z (List.mem_cons_of_mem _ hz)) x hm
theorem placeS_no {g : List UInt8} (l : List AItem) (e : Int) : ∀ (ss : List OSym) (ms : List Int), (∀ s ∈ ss, s.name ≠ g) → ∀ s ∈ placeS l e ss ms, s.name ≠ g
 | s :: ss, m :: ms, h => fun x hm => by
  rw [placeS] at hm
  rcases List.mem_cons.1 hm with rfl | hm
  ·exact h s (List.mem_cons_self ..)
  ·exact placeS_no l e ss ms (fun z hz => h z (List.mem_cons_of_mem _ hz)) x hm
 | [], ms, h => fun x hm => by cases ms <;> simp [placeS] at hm
 | s :: ss, [], h => h
theorem placeL_sim {f g : List UInt8} (h : FG f g) (ps : List (List OVal)) (ms : List Int) (s : Lay) : placeL (renPs f g ps) ms (renLay f g s) = (renLay f g (placeL ps ms s).1, (placeL ps ms s).2) := by
 unfold placeL renLay
 dsimp only
 rw [placeI_sim, placeS_sim h]
theorem placeL_no {g : List UInt8} (ps : List (List OVal)) (ms : List Int) {s : Lay} (h : NL g s) : NL g (placeL ps ms s).1 := ⟨placeI_no ps _ _ h.items, placeS_no _ _ _ _ h.syms⟩
theorem posN_sim {f g : List UInt8} {n : List UInt8} (hn : n ≠ g) : ∀ (l : List OSym) (k : Nat), (∀ s ∈ l, s.name ≠ g) → idxN (renN f g n) (l.map (renS f g)) k = idxN n l k
 | [], _, _ => rfl
 | s :: l, k, h => by
  have ih := posN_sim (f := f) hn l (k + 1) fun y hy => h y (List.mem_cons_of_mem _ hy)
  unfold idxN at ih ⊢
  rw [List.map_cons, posF, posF, ih]
  have e1 : (renS f g s).name = renN f g n ↔ s.name = n := renN_inj (h s (List.mem_cons_self ..)) hn
  have e2 : ((renS f g s).name == renN f g n) = (s.name == n) := by rw [Bool.eq_iff_iff, beq_iff_eq, beq_iff_eq]; exact e1
  rw [e2]
theorem target_sim {f g : List UInt8} (h : FG f g) {ss : List OSym} (hs : ∀ s ∈ ss, s.name ≠ g) {v : OVal} (hv : v.name ≠ g) : targetA (ss.map (renS f g)) (renV f g v) = targetA ss v := by
 have e1 : (renV f g v).name = [] ↔ v.name = [] := renN_nil h
 have e2 : idxN (renV f g v).name (ss.map (renS f g)) 0 = idxN v.name ss 0 := posN_sim hv ss 0 hs
 have e3 : ∀ k, (symA (ss.map (renS f g)) k).at_ = (symA ss k).at_ := fun k => by
  unfold symA
  rw [List.getElem?_map]
  cases ss[k.toNat]? <;> rfl
 unfold targetA
 simp only [e1]
 rw [e2, e3]
 rfl
theorem must_sim {f g : List UInt8} (h : FG f g) {ss : List OSym} (hs : ∀ s ∈ ss, s.name ≠ g) {x : AItem} (hx : x.val.name ≠ g) : mustL (ss.map (renS f g)) (renI f g x) = mustL ss x := by
 unfold mustL
 have e : (renI f g x).val = renV f g x.val := rfl
 rw [e, target_sim h hs hx]
 rfl
theorem grow_sim {f g : List UInt8} (h : FG f g) {ss : List OSym} (hs : ∀ s ∈ ss, s.name ≠ g) {x : AItem} (hx : x.val.name ≠ g) : growI (ss.map (renS f g)) (renI f g x) = renI f g (growI ss x) := by
 unfold growI
 rw [must_sim h hs hx]
 split <;> rfl
theorem grow_no (ss : List OSym) (x : AItem) : (growI ss x).val = x.val := by unfold growI; split <;> rfl
theorem any_must {f g : List UInt8} (h : FG f g) {ss : List OSym} (hs : ∀ s ∈ ss, s.name ≠ g) : ∀ l : List AItem, (∀ x ∈ l, x.val.name ≠ g) → (l.map (renI f g)).any (mustL (ss.map (renS f g))) = l.any (mustL ss)
 | [], _ => rfl
 | x :: l, hl => by rw [List.map_cons, List.any_cons, List.any_cons, must_sim h hs (hl x (List.mem_cons_self ..)), any_must h hs l fun y hy => hl y (List.mem_cons_of_mem _ hy)]
theorem map_grow {f g : List UInt8} (h : FG f g) {ss : List OSym} (hs : ∀ s ∈ ss, s.name ≠ g) : ∀ l : List AItem, (∀ x ∈ l, x.val.name ≠ g) → (l.map (renI f g)).map (growI (ss.map (renS f g))) = (l.map (growI ss)).map (renI f g)
 | [], _ => rfl
 | x :: l, hl => by rw [List.map_cons, List.map_cons, List.map_cons, List.map_cons, grow_sim h hs (hl x (List.mem_cons_self ..)), map_grow h hs l fun y hy => hl y (List.mem_cons_of_mem _ hy)]
theorem relaxF_sim {f g : List UInt8} (h : FG f g) (ps : List (List OVal)) (ms : List Int) : ∀ (n : Nat) (s : Lay), NL g s → relaxF (renPs f g ps) ms n (renLay f g s) = (renLay f g (relaxF ps ms n s).1, (relaxF ps ms n s).2) ∧ NL g (relaxF ps ms n s).1
 | 0, s, hs => ⟨rfl, hs⟩
 | n + 1, s, hs => by
  have h1 := placeL_no ps ms hs
  rw [relaxF, relaxF, placeL_sim h]
  generalize placeL ps ms s = p at *
  obtain ⟨⟨its, sy⟩, e⟩ := p
  have a1 := any_must h h1.syms its h1.items
  have a2 := map_grow h h1.syms its h1.items
  have a3 : NL g ⟨its.map (growI sy), sy⟩ := ⟨fun x hm => by
   obtain ⟨y, hy, rfl⟩ := List.mem_map.1 hm
   rw [grow_no]
   exact h1.items y hy, h1.syms⟩
  unfold renLay at *
  dsimp only at a1 a2 a3 ⊢
  rw [a1, a2]
  split
  ·exact ⟨rfl, a3⟩
  ·exact relaxF_sim h ps ms n _ a3
theorem short_sim (f g : List UInt8) (l : List AItem) : shortN (l.map (renI f g)) = shortN l := by
 unfold shortN
 rw [List.filter_map, List.length_map]
 rfl
theorem relax_sim {f g : List UInt8} (h : FG f g) (ps : List (List OVal)) (ms : List Int) {s : Lay} (hs : NL g s) : relaxL (renPs f g ps) ms (renLay f g s) = (renLay f g (relaxL ps ms s).1, (relaxL ps ms s).2) ∧ NL g (relaxL ps ms s).1 := by
 unfold relaxL
 have e : (renLay f g s).items = s.items.map (renI f g) := rfl
 rw [e, short_sim]
 exact relaxF_sim h ps ms _ s hs
end Go.Proofs.YthmdddenbfbefaaGreatDoor
namespace Go.Proofs.YthmdddenbfbefaaGreatDoor
open Go Go.Plat
set_option linter.unusedVariables false
set_option linter.unusedSimpArgs false
set_option maxRecDepth 100000
set_option maxHeartbeats 2000000
attribute [local irreducible] AWP Arith BitS BytesS CallS CatS DrawS EndS IdxS LookS LoopEnd Meets ModeS NilS NormL NormM QuoS RemS ShlS ShrS SideS SplitS allA awayA bitI encV evalE findI idxT nameB numV pRes putN regI signedI upA w64 wordB wrongI
structure OS (o o' : Out) : Prop where
 code : o'.code = o.code
 rels : o'.rels.length = o.rels.length
 fe : o'.fe = o.fe
 fa : o'.fa = o.fa
theorem failE_sim {o o' : Out} (h : OS o o') (e line : Int) : OS (failE o e line) (failE o' e line) := by
 unfold failE
 rw [h.fe]
 split
 ·exact ⟨h.code, h.rels, rfl, rfl⟩
 ·exact h
theorem halfE_sim {o o' : Out} (h : OS o o') (i : Ins) (line : Int) : OS (halfE o i line) (halfE o' i line) := by
 unfold halfE
 split
 ·exact ⟨by dsimp only; rw [h.code], h.rels, h.fe, h.fa⟩
 ·exact failE_sim h _ _
theorem leadE_sim {o o' : Out} (h : OS o o') (i : Ins) (a to line : Int) : OS (leadE o i a to line) (leadE o' i a to line) := by
 unfold leadE
 split
 ·exact halfE_sim h _ _
 ·exact failE_sim h _ _
theorem nearE_sim {o o' : Out} (h : OS o o') (f g : List UInt8) (x : AItem) (to : Int) : OS (nearE o x to) (nearE o' (renI f g x) to) := by
 unfold nearE
 have e : (renI f g x).long = x.long ∧ (renI f g x).ins = x.ins ∧ (renI f g x).at_ = x.at_ ∧ (renI f g x).line = x.line := ⟨rfl, rfl, rfl, rfl⟩
 obtain ⟨e1, e2, e3, e4⟩ := e
 rw [e1, e2, e3, e4]
 split
 ·exact leadE_sim h _ _ _ _
 ·exact halfE_sim (leadE_sim (halfE_sim h _ _) _ _ _ _) _ _
theorem wordE_sim {f g : List UInt8} (h : FG f g) (ss : List OSym) {o o' : Out} (ho : OS o o') (v : OVal) (size : Nat) : OS (wordE ss o v size) (wordE (ss.map (renS f g)) o' (renV f g v) size) := by
 have e1 : (renV f g v).name = [] ↔ v.name = [] := renN_nil h
 have e2 : (renV f g v).n = v.n := rfl
 unfold wordE
 simp only [e1, e2]
 rw [ho.code]
 split
 ·exact ⟨rfl, ho.rels, ho.fe, ho.fa⟩
 ·exact ⟨rfl, by dsimp only; rw [List.length_append, List.length_append, ho.rels]; rfl, ho.fe, ho.fa⟩
theorem fillE_sim {o o' : Out} (h : OS o o') (to : Int) : OS (fillE o to) (fillE o' to) := by
 unfold fillE
 rw [h.code]
 exact ⟨rfl, h.rels, h.fe, h.fa⟩
theorem words_sim {f g : List UInt8} (h : FG f g) (ss : List OSym) : ∀ (l : List OVal) {o o' : Out}, OS o o' → OS (l.foldl (fun o v => wordE ss o v 4) o) ((l.map (renV f g)).foldl (fun o v => wordE (ss.map (renS f g)) o v 4) o')
 | [], _, _, ho => ho
 | v :: l, _, _, ho => by
  rw [List.map_cons, List.foldl_cons, List.foldl_cons]
  exact words_sim h ss l (wordE_sim h ss ho v 4)
theorem idxP_sim (f g : List UInt8) (p : Int) : ∀ (l : List AItem) (k : Nat), idxP p (l.map (renI f g)) k = idxP p l k
 | [], _ => rfl
 | x :: l, k => by
  have ih := idxP_sim f g p l (k + 1)
  unfold idxP at ih ⊢
  rw [List.map_cons, posF, posF, ih]
  rfl
theorem emitE_sim {f g : List UInt8} (h : FG f g) (ps : List (List OVal)) (its : List AItem) {ss : List OSym} (hs : ∀ s ∈ ss, s.name ≠ g) {o o' : Out} (ho : OS o o') {x : AItem} (hx : x.val.name ≠ g) :
  OS (emitE ps its ss o x) (emitE (renPs f g ps) (its.map (renI f g)) (ss.map (renS f g)) o' (renI f g x)) := by
 have e0 : (renI f g x).kind = x.kind ∧ (renI f g x).size = x.size ∧ (renI f g x).ins = x.ins ∧ (renI f g x).at_ = x.at_ ∧ (renI f g x).line = x.line ∧ (renI f g x).pool = x.pool ∧ (renI f g x).idx = x.idx ∧ (renI f g x).val = renV f g x.val := ⟨rfl, rfl, rfl, rfl, rfl, rfl, rfl, rfl⟩
 obtain ⟨e1, e2, e3, e4, e5, e6, e7, e8⟩ := e0
 have e9 : ∀ k, (itA (its.map (renI f g)) k).at_ = (itA its k).at_ := fun k => by rw [itA_sim h]; rfl
 unfold emitE
 rw [e1, e2, e3, e4, e5, e6, e7, e8, target_sim h hs hx, getD_ren, idxP_sim, e9]
 repeat' split
 ·exact failE_sim ho _ _
 ·exact wordE_sim h ss ho _ _
 ·exact fillE_sim ho _
 ·exact words_sim h ss _ (fillE_sim ho _)
 ·exact failE_sim ho _ _
 ·exact halfE_sim ho _ _
 ·exact leadE_sim ho _ _ _ _
 ·exact failE_sim ho _ _
 ·exact nearE_sim ho f g x _
 ·exact leadE_sim ho _ _ _ _
theorem emit_fold {f g : List UInt8} (h : FG f g) (ps : List (List OVal)) (its : List AItem) {ss : List OSym} (hs : ∀ s ∈ ss, s.name ≠ g) : ∀ (l : List AItem) {o o' : Out}, (∀ x ∈ l, x.val.name ≠ g) → OS o o' →
  OS (l.foldl (fun o x => if o.fe = 0 then emitE ps its ss o x else o) o) ((l.map (renI f g)).foldl (fun o x => if o.fe = 0 then emitE (renPs f g ps) (its.map (renI f g)) (ss.map (renS f g)) o x else o) o')
 | [], _, _, _, ho => ho
 | x :: l, o, o', hl, ho => by
  rw [List.map_cons, List.foldl_cons, List.foldl_cons]
  refine emit_fold h ps its hs l (fun y hy => hl y (List.mem_cons_of_mem _ hy)) ?_
  rw [ho.fe]
  split
  ·exact emitE_sim h ps its hs ho (hl x (List.mem_cons_self ..))
  ·exact ho
theorem lay_sim {f g : List UInt8} (h : FG f g) {b b' : Bld} (hb : BS f g b b') : SameO (layR b) (layR b') := by
 obtain ⟨hn, rfl⟩ := hb
 obtain ⟨q1, q2⟩ := relax_sim h b.shut b.marks (s := ⟨b.items, b.syms⟩) ⟨hn.items, hn.syms⟩
 have e1 : (renB f g b).fe = b.fe := rfl
 have e2 : (renB f g b).fa = b.fa := rfl
 have e3 : relaxL (renB f g b).shut (renB f g b).marks ⟨(renB f g b).items, (renB f g b).syms⟩ = (renLay f g (relaxL b.shut b.marks ⟨b.items, b.syms⟩).1, (relaxL b.shut b.marks ⟨b.items, b.syms⟩).2) := q1
 have e4 : (renB f g b).shut = renPs f g b.shut := rfl
 have ho := emit_fold h b.shut (relaxL b.shut b.marks ⟨b.items, b.syms⟩).1.items q2.syms (relaxL b.shut b.marks ⟨b.items, b.syms⟩).1.items (o := ⟨[], [], b.fe, b.fa⟩) (o' := ⟨[], [], b.fe, b.fa⟩) q2.items ⟨rfl, rfl, rfl, rfl⟩
 unfold layR
 rw [e3, e1, e2, e4]
 unfold renLay
 dsimp only
 have ho : OS (emitAll b.shut (relaxL b.shut b.marks ⟨b.items, b.syms⟩).1.items (relaxL b.shut b.marks ⟨b.items, b.syms⟩).1.syms ⟨[], [], b.fe, b.fa⟩)
  (emitAll (renPs f g b.shut) ((relaxL b.shut b.marks ⟨b.items, b.syms⟩).1.items.map (renI f g)) ((relaxL b.shut b.marks ⟨b.items, b.syms⟩).1.syms.map (renS f g)) ⟨[], [], b.fe, b.fa⟩) := ho
 rw [ho.fe, ho.fa]
 split
 ·exact ⟨rfl, rfl, rfl, rfl⟩
 ·split
  ·exact ⟨rfl, rfl, rfl, rfl⟩
  ·split
   ·exact ⟨rfl, rfl, rfl, rfl⟩
   ·exact ⟨rfl, ho.code.symm, by dsimp only; rw [List.length_map], ho.rels.symm⟩
theorem build_sim {f g : List UInt8} (h : FR f g) {l : List LLine} (hn : ∀ x ∈ l, noW g x.toks) : SameO (buildR [] l) (buildR [] (l.map (renLn f g))) := lay_sim h.toFG (read_sim h hn)
end Go.Proofs.YthmdddenbfbefaaGreatDoor
namespace Go.Proofs.YthmdddenbfbefaaGreatDoor
open Go Go.Plat
set_option linter.unusedVariables false
set_option linter.unusedSimpArgs false
set_option maxRecDepth 100000
set_option maxHeartbeats 2000000
attribute [local irreducible] AWP Arith BitS BytesS CallS CatS DrawS EndS IdxS LookS LoopEnd Meets ModeS NilS NormL NormM QuoS RemS ShlS ShrS SideS SplitS bitI blankC digV digitB kindB letterB lexF lexL lexR nameB numC numR numTok okC puF puR signT spanF wordC
theorem lexF_len : ∀ (f : Nat) (l : List UInt8) (out r : List LTok), lexF f l out = some r → r.length ≤ out.length + l.length
 | 0, l, out, r, h => by rw [lexF] at h; cases h; omega
 | f + 1, [], out, r, h => by rw [lexF] at h; cases h; simp
 | f + 1, c :: l, out, r, h => by
  have ih := lexF_len f
  have hd : ∀ n, 1 ≤ n → ((c :: l).drop n).length ≤ l.length := fun n hn => by rw [List.length_drop, List.length_cons]; omega
  rw [lexF] at h
  rw [List.length_cons]
  split at h
  ·have := ih _ _ _ h; omega
  split at h
  ·rename_i h1
   have := ih _ _ _ h
   have := hd _ (word_first (r := l) h1)
   rw [List.length_append, List.length_cons, List.length_nil] at *
   omega
  split at h
  ·rename_i h1
   split at h
   ·have := ih _ _ _ h
    have := hd _ (num_first (r := l) h1)
    rw [List.length_append, List.length_cons, List.length_nil] at *
    omega
   ·cases h
  split at h
  ·cases h; omega
  split at h
  ·have := ih _ _ _ h
   rw [List.length_append, List.length_drop, List.length_cons, List.length_nil] at this
   omega
  split at h
  ·have := ih _ _ _ h
   rw [List.length_append, List.length_cons, List.length_nil] at this
   omega
  ·cases h
theorem lexR_len (s : List UInt8) : (lexR s).1.length ≤ 80 := by
 rw [lexR_eq]
 split
 ·simp
 ·rename_i h
  unfold lexL lexFin
  cases hl : lexF (s.length + 1) s [] with
  | none => simp
  | some r =>
   have := lexF_len _ _ _ _ hl
   simp at this ⊢
   omega
theorem linesF_ok : ∀ (ps : List (List UInt8)) (k : Int) (out : List LLine), (∀ x ∈ out, x.toks.length ≤ 80) → (linesF ps k out).1.length ≤ out.length + ps.length ∧ ∀ x ∈ (linesF ps k out).1, x.toks.length ≤ 80
 | [], k, out, h => ⟨by rw [linesF]; simp, h⟩
 | p :: r, k, out, h => by
  rw [linesF_cons]
  split
  ·exact ⟨by simp, fun x hx => by simp at hx⟩
  split
  ·obtain ⟨h1, h2⟩ := linesF_ok r (k + 1) out h
   exact ⟨by rw [List.length_cons]; omega, h2⟩
  ·obtain ⟨h1, h2⟩ := linesF_ok r (k + 1) (out ++ [⟨k, (lexR p).1⟩]) fun x hx => by
    rcases List.mem_append.1 hx with hx | hx
    ·exact h x hx
    ·rw [List.mem_singleton] at hx; rw [hx]; exact lexR_len p
   rw [List.length_append, List.length_cons, List.length_nil] at h1
   exact ⟨by rw [List.length_cons]; omega, h2⟩
theorem linesR_ok (b : List UInt8) : (linesR b).1.length ≤ 1201 ∧ ∀ x ∈ (linesR b).1, x.toks.length ≤ 80 := by
 unfold linesR
 split
 ·exact ⟨by simp, fun x hx => by simp at hx⟩
 ·obtain ⟨h1, h2⟩ := linesF_ok (splitC 10 b) 1 [] (fun x hx => by simp at hx)
  have h3 := split_len 10 b
  have h4 := List.count_le_length (a := 10) (l := b)
  exact ⟨by simp at h1; omega, h2⟩
attribute [local irreducible] linesR
end Go.Proofs.YthmdddenbfbefaaGreatDoor
namespace Go.Proofs.YthmdddenbfbefaaGreatDoor
open Go Go.Plat
set_option linter.unusedVariables false
set_option linter.unusedSimpArgs false
set_option maxRecDepth 100000
set_option maxHeartbeats 2000000
attribute [local irreducible] AWP Arith BitS BytesS CallS CatS DrawS EndS IdxS LookS LoopEnd Meets ModeS NilS NormL NormM QuoS RemS ShlS ShrS SideS SplitS bitI blankC digV digitB kindB letterB lexF lexL lexR nameB numC numR numTok okC puF puR signT spanF wordC
theorem linesF_pos : ∀ (ys : List (List UInt8)) (k : Int) (out : List LLine), 0 ≤ k → ((linesF ys k out).2.1 ≠ 0 → k ≤ (linesF ys k out).2.2 ∧ (linesF ys k out).2.2 < k + ys.length) ∧ ((linesF ys k out).2.1 = 0 → (linesF ys k out).2.2 = 0) ∧
  ∀ x ∈ (linesF ys k out).1, x ∈ out ∨ (k ≤ x.pos ∧ x.pos < k + ys.length)
 | [], k, out, h0 => by rw [linesF]; exact ⟨fun h => absurd rfl h, fun _ => rfl, fun x hx => .inl hx⟩
 | p :: ys, k, out, h0 => by
  have ih := fun o => linesF_pos ys (k + 1) o (by omega)
  rw [linesF_cons, List.length_cons]
  by_cases h : (lexR p).2 ≠ 0
  ·rw [if_pos h]
   exact ⟨fun _ => by dsimp only; omega, fun e => absurd e h, fun x hx => by simp at hx⟩
  rw [if_neg h]
  by_cases h2 : (lexR p).1.length = 0
  ·rw [if_pos h2]
   obtain ⟨g1, g2, g3⟩ := ih out
   refine ⟨fun e => by have := g1 e; omega, g2, fun x hx => (g3 x hx).imp id fun h => by omega⟩
  ·rw [if_neg h2]
   obtain ⟨g1, g2, g3⟩ := ih (out ++ [⟨k, (lexR p).1⟩])
   refine ⟨fun e => by have := g1 e; omega, g2, fun x hx => ?_⟩
   rcases g3 x hx with h | h
   ·rcases List.mem_append.1 h with h | h
    ·exact .inl h
    ·rw [List.mem_singleton] at h
     right
     rw [h]
     dsimp only
     omega
   ·right; omega
end Go.Proofs.YthmdddenbfbefaaGreatDoor
namespace Go.Proofs.YthmdddenbfbefaaGreatDoor
open Go Go.Plat
set_option linter.unusedVariables false
set_option linter.unusedSimpArgs false
set_option maxRecDepth 100000
set_option maxHeartbeats 2000000
attribute [local irreducible] AWP Arith BitS BytesS CallS CatS DrawS EndS IdxS LookS LoopEnd Meets ModeS NilS NormL NormM QuoS RemS ShlS ShrS SideS SplitS bitI blankC digV digitB letterB lexF lexL lexR nameB numC numR numTok okC puF puR signT spanF wordC
inductive TokW : LTok → Prop
 | word {c : UInt8} {s : List UInt8} (h0 : kindB c = 97) (h : ∀ x ∈ c :: s, wordC x = true) : TokW ⟨1, 0, c :: s⟩
 | num {n : Nat} (h : n < 4294967296) : TokW ⟨2, (n : Int), []⟩
 | shift {c : UInt8} (h : c = 60 ∨ c = 62) : TokW ⟨3, 0, [c, c]⟩
 | sign {c : UInt8} (h0 : kindB c = 0) (h1 : c ≠ 59) (h : signsB.contains c = true) : TokW ⟨3, 0, [c]⟩
theorem kind_cases (c : UInt8) : kindB c = 97 ∨ kindB c = 48 ∨ kindB c = 32 ∨ kindB c = 0 := by
 unfold kindB
 repeat' split
 all_goals simp
attribute [local irreducible] kindB
theorem span_mem {p : UInt8 → Bool} : ∀ (l : List UInt8) (x : UInt8), x ∈ l.take (spanF p l) → p x = true
 | [], x, h => by simp at h
 | c :: r, x, h => by
  rw [spanF] at h
  by_cases hp : p c = true
  ·rw [if_pos hp, List.take_succ_cons] at h
   rcases List.mem_cons.1 h with rfl | h
   ·exact hp
   ·exact span_mem r x h
  ·rw [if_neg hp, List.take_zero] at h
   simp at h
theorem numR_range {w : List UInt8} (h : (numR w).2 = true) : ∃ n : Nat, (numR w).1 = n ∧ n < 4294967296 := by
 obtain ⟨h1, h2⟩ := numR_pu w
 by_cases hx : 2 < w.length ∧ w.take 2 = [48, 120]
 ·rcases h1 hx with ⟨_, e, g1, g2, _⟩ | ⟨_, e⟩
  ·exact ⟨(puR 16 (w.drop 2)).1.toNat, by rw [e]; dsimp only; omega, by omega⟩
  ·rw [e] at h; cases h
 ·rcases h2 hx with ⟨_, e, g1, g2, _⟩ | ⟨_, e⟩
  ·exact ⟨(puR 10 w).1.toNat, by rw [e]; dsimp only; omega, by omega⟩
  ·rw [e] at h; cases h
theorem lexF_ok (N : Nat) : ∀ (f : Nat) (l : List UInt8) (out r : List LTok), l.length ≤ N → (∀ t ∈ out, TokW t ∧ t.text.length ≤ N) → lexF f l out = some r → ∀ t ∈ r, TokW t ∧ t.text.length ≤ N
 | 0, l, out, r, hN, ho, h => by rw [lexF] at h; cases h; exact ho
 | f + 1, [], out, r, hN, ho, h => by rw [lexF] at h; cases h; exact ho
 | f + 1, c :: l, out, r, hN, ho, h => by
  have ih := lexF_ok N f
  have hl : l.length + 1 ≤ N := by simpa using hN
  have snoc : ∀ u, TokW u → u.text.length ≤ N → ∀ t ∈ out ++ [u], TokW t ∧ t.text.length ≤ N := fun u h1 h2 t ht => by
   rcases List.mem_append.1 ht with ht | ht
   ·exact ho t ht
   ·rw [List.mem_singleton] at ht; rw [ht]; exact ⟨h1, h2⟩
  have hd : ∀ n, ((c :: l).drop n).length ≤ N := fun n => by rw [List.length_drop]; simp; omega
  have hk : ∀ n, ((c :: l).take n).length ≤ N := fun n => by rw [List.length_take]; simp; omega
  rw [lexF] at h
  split at h
  ·exact ih _ _ _ (by omega) ho h
  rename_i n32
  split at h
  ·rename_i h1
   have hf := word_first (r := l) h1
   have hm := span_mem (p := wordC) (c :: l)
   have hk2 := hk (spanF wordC (c :: l))
   obtain ⟨k, hk3⟩ : ∃ k, spanF wordC (c :: l) = k + 1 := ⟨spanF wordC (c :: l) - 1, by omega⟩
   rw [hk3] at h hm hk2
   refine ih _ _ _ (hd _) (snoc _ ?_ hk2) h
   exact .word h1 hm
  rename_i n97
  split at h
  ·split at h
   ·rename_i h1 h2
    obtain ⟨n, e, hn⟩ := numR_range h2
    refine ih _ _ _ (hd _) (snoc _ ?_ (Nat.zero_le _)) h
    rw [e]
    exact .num hn
   ·cases h
  rename_i n48
  split at h
  ·cases h; exact ho
  rename_i n59
  split at h
  ·rename_i h1
   have hk2 := hk 2
   refine ih _ _ _ (by rw [List.length_drop]; omega) (snoc _ ?_ hk2) h
   rcases h1 with h1 | h1
   ·rw [h1]; exact .shift (.inl rfl)
   ·rw [h1]; exact .shift (.inr rfl)
  split at h
  ·rename_i h1
   refine ih _ _ _ (by omega) (snoc _ ?_ (by simp; omega)) h
   refine .sign ?_ n59 h1
   rcases kind_cases c with e | e | e | e
   ·exact absurd e n97
   ·exact absurd e n48
   ·exact absurd e n32
   ·exact e
  ·cases h
theorem lexR_ok (s : List UInt8) : ∀ t ∈ (lexR s).1, TokW t ∧ t.text.length ≤ 80 := by
 rw [lexR_eq]
 split
 ·intro t h; simp at h
 ·rename_i h
  unfold lexL lexFin
  cases hl : lexF (s.length + 1) s [] with
  | none => intro t h; simp at h
  | some r => exact lexF_ok 80 _ _ _ _ (by omega) (fun t ht => by simp at ht) hl
end Go.Proofs.YthmdddenbfbefaaGreatDoor
namespace Go.Proofs.YthmdddenbfbefaaGreatDoor
open Go Go.Plat
set_option linter.unusedVariables false
set_option linter.unusedSimpArgs false
set_option maxRecDepth 100000
set_option maxHeartbeats 2000000
attribute [local irreducible] AWP Arith BitS BytesS CallS CatS DrawS EndS IdxS LookS LoopEnd Meets ModeS NilS NormL NormM QuoS RemS ShlS ShrS SideS SplitS bitI blankC digV digitB letterB lexF lexL lexR nameB numC numR numTok okC puF puR signT spanF wordC
theorem lexR_len2 (s : List UInt8) : (lexR s).1.length ≤ s.length := by
 rw [lexR_eq]
 split
 ·simp
 ·rename_i h
  unfold lexL lexFin
  cases hl : lexF (s.length + 1) s [] with
  | none => simp
  | some r =>
   have := lexF_len _ _ _ _ hl
   simp at this ⊢
   omega
def sumL (ps : List (List UInt8)) : Nat := (ps.map List.length).sum
theorem split_sum (c : UInt8) : ∀ s, sumL (splitC c s) ≤ s.length
 | [] => by rw [splitC]; simp [sumL]
 | b :: l => by
  have ih := split_sum c l
  rw [splitC, List.length_cons]
  split
  ·simp only [sumL, List.map_cons, List.sum_cons, List.length_nil] at ih ⊢; omega
  ·split
   ·simp [sumL]
   ·next hx =>
    rw [hx] at ih
    simp only [sumL, List.map_cons, List.sum_cons, List.length_cons] at ih ⊢
    omega
theorem totL_snoc : ∀ (l : List LLine) (x : LLine), totL (l ++ [x]) = totL l + x.toks.length
 | [], x => by show x.toks.length + 0 = 0 + x.toks.length; omega
 | y :: l, x => by rw [List.cons_append, totL, totL, totL_snoc l x]; omega
def LexT (t : LTok) : Prop := t.text.length ≤ 80
theorem linesF_tot : ∀ (ps : List (List UInt8)) (k : Int) (out : List LLine), (∀ x ∈ out, ∀ t ∈ x.toks, LexT t) → totL (linesF ps k out).1 ≤ totL out + sumL ps ∧ ∀ x ∈ (linesF ps k out).1, ∀ t ∈ x.toks, LexT t
 | [], k, out, h => ⟨by rw [linesF]; simp, h⟩
 | p :: r, k, out, h => by
  have es : sumL (p :: r) = p.length + sumL r := by simp [sumL]
  rw [linesF_cons, es]
  split
  ·exact ⟨by rw [totL]; omega, fun x hx => by simp at hx⟩
  split
  ·obtain ⟨h1, h2⟩ := linesF_tot r (k + 1) out h
   exact ⟨by omega, h2⟩
  ·obtain ⟨h1, h2⟩ := linesF_tot r (k + 1) (out ++ [⟨k, (lexR p).1⟩]) fun x hx => by
    rcases List.mem_append.1 hx with hx | hx
    ·exact h x hx
    ·rw [List.mem_singleton] at hx; rw [hx]; exact fun t ht => (lexR_ok p t ht).2
   have := lexR_len2 p
   rw [totL_snoc] at h1
   dsimp only at h1
   exact ⟨by omega, h2⟩
theorem wt_le : ∀ l : List LTok, (∀ t ∈ l, LexT t) → wt (l.map tk) ≤ 81 * l.length
 | [], _ => by simp [wt]
 | t :: l, h => by
  have ih := wt_le l fun x hx => h x (List.mem_cons_of_mem _ hx)
  have ht : t.text.length ≤ 80 := h t (List.mem_cons_self ..)
  rw [List.map_cons, wt, List.length_cons]
  have : (tk t).text = t.text := rfl
  rw [this]
  omega
theorem gname_len {g : List UInt8} (h : nameB g = true) : g.length ≤ 10 := by
 unfold nameB at h
 simp only [Bool.and_eq_true, decide_eq_true_eq] at h
 omega
theorem renF_lex {f g : List UInt8} (hg : g.length ≤ 10) : ∀ (l : List LTok) (p : Bool), (∀ t ∈ l, LexT t) → ∀ t ∈ renF f g p l, LexT t
 | [], _, _ => fun t ht => by rw [renF] at ht; simp at ht
 | a :: l, p, h => fun t ht => by
  rw [renF] at ht
  rcases List.mem_cons.1 ht with rfl | ht
  ·unfold renTok
   split
   ·show g.length ≤ 80; omega
   ·exact h a (List.mem_cons_self ..)
  ·exact renF_lex hg l _ (fun x hx => h x (List.mem_cons_of_mem _ hx)) t ht
theorem source_lines {b : List UInt8} {l : List LLine} (h : linesR b = (l, 0, 0)) : totL l ≤ 9000 ∧ (∀ x ∈ l, x.toks.length ≤ 9000) ∧ (∀ (f g : List UInt8), nameB g = true → (∀ x ∈ l, wt (x.toks.map tk) ≤ 1048576) ∧ ∀ x ∈ l.map (renLn f g), wt (x.toks.map tk) ≤ 1048576) ∧ l.length ≤ 9000 := by
 obtain ⟨q1, q2⟩ := linesR_ok b
 have q3 : totL (linesR b).1 ≤ 1200 ∧ ∀ x ∈ (linesR b).1, ∀ t ∈ x.toks, LexT t := by
  unfold linesR
  split
  ·exact ⟨by rw [totL]; omega, fun x hx => by simp at hx⟩
  ·next hb =>
   obtain ⟨a1, a2⟩ := linesF_tot (splitC 10 b) 1 [] fun x hx => by simp at hx
   have := split_sum 10 b
   rw [totL] at a1
   exact ⟨by omega, a2⟩
 rw [h] at q1 q2 q3
 dsimp only at q1 q2 q3
 refine ⟨by omega, fun x hx => by have := q2 x hx; omega, fun f g hg => ⟨fun x hx => ?_, fun x hx => ?_⟩, by omega⟩
 ·have h1 := wt_le x.toks (q3.2 x hx)
  have h2 := q2 x hx
  omega
 ·obtain ⟨y, hy, rfl⟩ := List.mem_map.1 hx
  have h1 := wt_le (renF f g true y.toks) (renF_lex (gname_len hg) _ _ (q3.2 y hy))
  have h2 := q2 y hy
  rw [renF_len] at h1
  show wt ((renF f g true y.toks).map tk) ≤ _
  omega
theorem source_ok (b : List UInt8) (h : (linesR b).2.1 = 0) : (linesR b).2.2 = 0 := by
 unfold linesR at h ⊢
 split
 ·rfl
 ·next hb =>
  rw [if_neg hb] at h
  exact (linesF_pos _ 1 [] (by decide)).2.1 h
theorem regF_no {t : LTok} (hk : t.kind = 1) : ∀ (n k : Nat), regF t k n < 0 → ∀ j, k ≤ j → j < k + n → t.text ≠ 114 :: Lib.itoa (j : Nat)
 | 0, k, _, j, h1, h2 => by omega
 | n + 1, k, h, j, h1, h2 => by
  rw [regF] at h
  split at h
  ·omega
  ·next hc =>
   by_cases e : j = k
   ·subst e; exact fun q => hc ⟨hk, q⟩
   ·exact regF_no hk n (k + 1) h j (by omega) (by omega)
theorem idxT_mem (x : List UInt8) : ∀ (l : List (List UInt8)) (k : Nat), 0 ≤ idxT x l k → x ∈ l
 | [], k, h => by rw [idxT] at h; omega
 | s :: l, k, h => by
  rw [idxT] at h
  split at h
  ·next e => rw [e]; exact List.mem_cons_self ..
  ·exact List.mem_cons_of_mem _ (idxT_mem x l (k + 1) h)
theorem regNames_eq : regNames = (List.range 16).map fun (k : Nat) => Lib.itoa (k : Int) := by kernel_rfl
theorem regno_ren {x : List UInt8} (h : regR ⟨1, 0, x⟩ < 0) (n : Int) : regI ⟨1, n, x⟩ = -1 := by
 refine regI_lt ?_
 unfold regI
 dsimp only
 split
 ·next e =>
  by_cases h0 : 0 ≤ idxT (x.drop 1) regNames 0
  ·exfalso
   have hm := idxT_mem _ _ _ h0
   rw [regNames_eq] at hm
   obtain ⟨j, hj, hx⟩ := List.mem_map.1 hm
   have hj := List.mem_range.1 hj
   refine regF_no (t := ⟨1, 0, x⟩) rfl 16 0 h j (by omega) (by omega) ?_
   show x = _
   rw [hx]
   cases x with
   | nil => exact absurd e.2 (by decide)
   | cons c r => have : c = 114 := e.2; rw [this]; rfl
  ·omega
 ·decide
end Go.Proofs.YthmdddenbfbefaaGreatDoor
namespace Go.Proofs.YthmdddenbfbefaaGreatDoor
open Go Go.Plat
set_option linter.unusedVariables false
set_option linter.unusedSimpArgs false
set_option maxRecDepth 100000
set_option maxHeartbeats 2000000
attribute [local irreducible] AWP Arith BitS BytesS CallS CatS DrawS EndS IdxS LookS LoopEnd Meets ModeS NilS NormL NormM QuoS RemS ShlS ShrS SideS SplitS bitI
theorem own : ownKnob Tryz.prog.godebug = none := by kernel_rfl
theorem one_le {H : Type} (d : DataW H) : 1 ≤ Rows.uptoBulk d := by
 cases d with
 | lit l => cases l <;> simp [Rows.uptoBulk]
 | nil => simp [Rows.uptoBulk]
 | ptr d => simp [Rows.uptoBulk]
 | slice el sp => simp [Rows.uptoBulk]
 | agg ps => simp [Rows.uptoBulk]
 | iface t d => simp [Rows.uptoBulk]
 | map es => simp [Rows.uptoBulk]
 | held h => simp [Rows.uptoBulk]
theorem length_le {H : Type} (l : List (DataW H)) : l.length ≤ Rows.uptoBulkAll l := by
 induction l with
 | nil => simp [Rows.uptoBulkAll]
 | cons x r ih => have := one_le x; simp only [Rows.uptoBulkAll, List.length_cons]; omega
theorem elems_all {H : Type} (d : DataW H) : Rows.uptoBulkAll (elems d) ≤ Rows.uptoBulk d := by
 cases d <;> simp only [elems, Rows.uptoBulk, Rows.uptoBulkAll] <;> omega
theorem elems_le {H : Type} (d : DataW H) : (elems d).length ≤ Rows.uptoBulk d := Nat.le_trans (length_le _) (elems_all d)
theorem bound {H : Type} {l : List (DataW H)} (hk : Rows.uptoSmall H l = true) : Rows.uptoBulkAll l ≤ 1048576 := of_decide_eq_true hk
end Go.Proofs.YthmdddenbfbefaaGreatDoor
namespace Go.Plat
open Go
set_option linter.unusedVariables false
set_option linter.unusedSimpArgs false
abbrev GFact (w : World) (F : Nat → Nat → Prop) (g : Nat) (cs : List D) : Prop := RepP w F (.ptr cs) (.pointer (some ⟨g, 0, none⟩)) ∧
 (∀ off, ¬ F g off) ∧ (∃ row t z, w.heap[g]? = some (.cells row t z) ∧ (row.size = cs.length ∨ cs = [.any])) ∧
 (cs = [.any] → ∃ u v, w.cell? ⟨g, 0, none⟩ = some (.iface u v))
def GOkL (w : World) (F : Nat → Nat → Prop) (l : List (Nat × Nat × List Nat)) : Prop := ∀ g cs, findG l g = some cs → GFact w F g cs
theorem gokl_nil {w : World} {F : Nat → Nat → Prop} : GOkL w F [] := fun g cs h => by cases h
theorem gokl_cons {w : World} {F : Nat → Nat → Prop} {h k : Nat} {ns : List Nat} {r : List (Nat × Nat × List Nat)} (hf : GFact w F h (globD k ns)) (hr : GOkL w F r) : GOkL w F ((h, k, ns) :: r) := by
 intro g cs hg
 rw [findG] at hg
 cases hb : Nat.beq h g with
 | false => rw [hb] at hg; exact hr g cs hg
 | true =>
  rw [hb] at hg
  have e := Nat.eq_of_beq_eq_true hb
  subst e
  cases hg
  exact hf
theorem gfact {P : Program} {w : World} {name : String} {g : Nat} {k : IntKind} {zs : List Int} {ns : List Nat} (hn : P.globalNamed name = some g) (h : Lib.TabIs P w name k zs)
  (hz : zs = ns.map fun n : Nat => (n : Int)) : GFact w F0 g (ns.map fun n => D.int k (n : Nat)) := by
 have hc := fun i hi => h.cell hn i hi
 refine ⟨.ptr _ _ _ (fun j => .int k (zs.getD j 0)) (fun j c hj => ⟨?_, fun f => f⟩) (fun j c hj => ?_), fun off f => f, ?_, fun e => absurd e (fun e => ?_)⟩
 ·have hjl : j < ns.length := by
   have := (List.getElem?_eq_some_iff.1 hj).1
   simpa using this
  rw [Nat.zero_add]
  exact hc j (by rw [hz]; simpa using hjl)
 ·have hjl : j < ns.length := by
   have := (List.getElem?_eq_some_iff.1 hj).1
   simpa using this
  rw [List.getElem?_map, List.getElem?_eq_getElem hjl] at hj
  cases hj
  have : zs.getD j 0 = (ns[j] : Int) := by
   rw [hz, List.getD_eq_getElem?_getD, List.getElem?_map, List.getElem?_eq_getElem hjl]; rfl
  dsimp only
  rw [this]
  exact .int _ _
 ·unfold Lib.TabIs World.var? at h
  rw [hn] at h
  dsimp only [Option.bind_some] at h
  split at h
  ·rename_i cs t z hh
   cases h
   exact ⟨_, _, _, hh, .inl (by rw [hz]; simp)⟩
  ·cases h
 ·match ns, e with
  | [], e => cases e
  | n :: r, e => cases (List.cons.inj e).1
theorem tab_of_vars {P : Program} {W : World} {name : String} {k : IntKind} {zs : List Int} {rest : List (String × DataW Unit)} {g : Nat} {t e : TypeId} {n : Nat} {ps : List MemPlace} {d : DataW Unit}
  (hg : P.globalNamed name = some g) (hty : (P.globals[g]?).map (·.type) = some t) (ht : P.underlying t = some (.array n e)) (he : P.underlying e = some (.int k)) (hce : P.cellsOf e = 1) (hct : P.cellsOf t = n)
  (hd : d = Lib.tabData k zs) (h : DataW.LaidVars P W ((name, d) :: rest) ps) : Lib.TabIs P W name k zs ∧ ∃ q, DataW.LaidVars P W rest q := by
 subst hd
 obtain ⟨g', t', cs, fuel, p, q, hg', ht', hvar, hd, hr, _⟩ := h
 obtain rfl := Option.some.inj (hg.symm.trans hg')
 obtain rfl := Option.some.inj (hty.symm.trans ht')
 refine ⟨?_, q, hr⟩
 unfold Lib.TabIs
 rw [hvar, ← Lib.cells_of_tab ht he hce hct hd]
theorem laid_tail {P : Program} {W : World} {x : String × DataW Unit} {rest : List (String × DataW Unit)} {ps : List MemPlace} (h : DataW.LaidVars P W (x :: rest) ps) : ∃ q, DataW.LaidVars P W rest q := by
 obtain ⟨g', t', cs, fuel, p, q, hg', ht', hvar, hd, hr, _⟩ := h
 exact ⟨q, hr⟩
def isIf : DataW Unit → Bool
 | .iface _ _ => true
 | _ => false
theorem iface_of_vars {P : Program} {W : World} {name : String} {rest : List (String × DataW Unit)} {g : Nat} {t : TypeId} {ps : List MemPlace} {d : DataW Unit}
  (hg : P.globalNamed name = some g) (hty : (P.globals[g]?).map (·.type) = some t) (ht : ((P.underlying t).map fun | .interface _ => true | _ => false) = some true)
  (hd : isIf d = true) (h : DataW.LaidVars P W ((name, d) :: rest) ps) : GFact W F0 g [.any] ∧ ∃ q, DataW.LaidVars P W rest q := by
 obtain ⟨g', t', cs, fuel, p, q, hg', ht', hvar, htr, hr, _⟩ := h
 obtain rfl := Option.some.inj (hg.symm.trans hg')
 obtain rfl := Option.some.inj (hty.symm.trans ht')
 refine ⟨?_, q, hr⟩
 cases d with
 | iface n x =>
  have hrow : ∃ u v, cs.toList = [Value.iface u v] := by
   cases fuel with
   | zero => simp [DataW.trod] at htr
   | succ fuel =>
    cases hun : P.underlying t with
    | none => rw [hun] at ht; cases ht
    | some dd =>
     rw [hun] at ht
     cases dd with
     | interface ms =>
      generalize cs.toList = l at htr
      unfold DataW.trod at htr
      rw [hun] at htr
      match l, htr with
      | [], htr => cases htr
      | [.nilIface], htr => cases htr
      | [.iface u v], htr => exact ⟨u, v, rfl⟩
      | a :: b :: r, htr => cases a <;> cases htr
      | [.bool _], htr | [.int _ _], htr | [.float _ _], htr | [.string _], htr | [.pointer _], htr | [.slice _ _ _], htr | [.map _], htr | [.chan _], htr | [.func _ _ _], htr | [.nilFunc], htr | [.agg _], htr | [.tuple _], htr => cases htr
     | _ => cases ht
  obtain ⟨u, v, hv⟩ := hrow
  have hcs : cs = #[Value.iface u v] := by
   apply Array.ext'
   rw [hv]
  subst hcs
  unfold World.var? at hvar
  rw [hg] at hvar
  dsimp only [Option.bind_some] at hvar
  split at hvar
  ·rename_i cs t z hh
   cases hvar
   have hcell : W.cell? ⟨g, 0, none⟩ = some (.iface u v) := by simp only [World.cell?, hh]; rfl
   refine ⟨.ptr _ _ _ (fun _ => .iface u v) (fun j c hj => ?_) (fun j c hj => ?_), fun off f => f, ⟨_, _, _, hh, .inl rfl⟩, fun _ => ⟨u, v, hcell⟩⟩
   ·cases j with
    | zero => exact ⟨hcell, fun f => f⟩
    | succ j => simp at hj
   ·cases j with
    | zero =>
     simp at hj
     subst hj
     exact .any _
    | succ j => simp at hj
  ·cases hvar
 | _ => cases hd
end Go.Plat
namespace Go.Proofs.YthmdddenbfbefaaGreatDoor
open Go Go.Plat
set_option linter.unusedVariables false
set_option linter.unusedSimpArgs false
set_option maxRecDepth 100000
set_option maxHeartbeats 2000000
open Go.ChangeShapes Go.WideShapes Go.ChangeAt Go.RowKit
attribute [local irreducible] AWP Arith BitS BytesS CallS CatS DrawS EndS IdxS LookS LoopEnd Meets ModeS NilS NormL NormM QuoS RemS ShlS ShrS SideS SplitS bitI
theorem asm_glob {W : World} (h : laidMetH Tryz.prog Rows.asmNamesUptoRow.laid W) : GOk W F0 := by
 rw [MakeChecks.laidMetH_plain _ _ _ (by kernel_rfl)] at h
 obtain ⟨ps, h, _⟩ := h
 obtain ⟨h1, q1, h⟩ := tab_of_vars (k := .u8) (zs := [0, 1, 28, 2, 29, 14, 24, 3, 30, 22, 20, 15, 25, 17, 4, 8, 31, 27, 13, 23, 21, 19, 16, 7, 26, 12, 18, 6, 11, 5, 10, 9]) (g := 1) (t := 298) (e := 5) (n := 32) (by kernel_rfl) (by kernel_rfl) (by kernel_rfl) (by kernel_rfl) (by kernel_rfl) (by kernel_rfl) (by kernel_rfl) h
 obtain ⟨h2, q2, h⟩ := tab_of_vars (k := .u8) (zs := [0, 1, 56, 2, 57, 49, 28, 3, 61, 58, 42, 50, 38, 29, 17, 4, 62, 47, 59, 36, 45, 43, 51, 22, 53, 39, 33, 30, 24, 18, 12, 5, 63, 55, 48, 27, 60, 41, 37, 16, 46, 35, 44, 21, 52, 32, 23, 11, 54, 26, 40, 15, 34, 20, 31, 10, 25, 14, 19, 9, 13, 8, 7, 6]) (g := 2) (t := 299) (e := 5) (n := 64) (by kernel_rfl) (by kernel_rfl) (by kernel_rfl) (by kernel_rfl) (by kernel_rfl) (by kernel_rfl) (by kernel_rfl) h
 obtain ⟨h3, q3, h⟩ := tab_of_vars (k := .u64) (zs := Lib.pow10Tab) (g := 0) (t := 251) (e := 199) (n := 20) (by kernel_rfl) (by kernel_rfl) (by kernel_rfl) (by kernel_rfl) (by kernel_rfl) (by kernel_rfl) (by kernel_rfl) h
 obtain ⟨q4, h⟩ := laid_tail h
 obtain ⟨h5, q5, h⟩ := iface_of_vars (g := 7) (t := 258) (by kernel_rfl) (by kernel_rfl) (by kernel_rfl) rfl h
 obtain ⟨h6, q6, h⟩ := iface_of_vars (g := 6) (t := 258) (by kernel_rfl) (by kernel_rfl) (by kernel_rfl) rfl h
 show GOkL W F0 globs
 unfold globs
 exact gokl_cons (gfact (k := .u64) (by kernel_rfl) h3 (by kernel_rfl)) (gokl_cons (gfact (k := .u8) (by kernel_rfl) h1 (by kernel_rfl)) (gokl_cons (gfact (k := .u8) (by kernel_rfl) h2 (by kernel_rfl)) (gokl_cons h6 (gokl_cons h5 gokl_nil))))
end Go.Proofs.YthmdddenbfbefaaGreatDoor
