/-
  No cell of these rows narrows 'for every input' (looked for: loops, veiled, ifaces, maps, wideKeys, modest, calm, conditions, laid).
  DERIVED. THE GIVEN ROWS OF THIS SEAT. 3 by the template 'for every input the law returns true; each argument reads behind the call as it read before'; 0 by the template 'total and deterministic' (their statements: YtmeigmpjpkinoaaTotals.lean).
  GIVEN WITH THE SEED: the statements are not yours to turn. If you find one false, say at which input.
  Laid BY PROGRAM, IN A SANDBOX (cutbox-rows.mjs): the forced cells as the released guide's own fill.sh prints them over the translation 9cabd1ce538ee947… (all of the seat's roots in one cut). By AI agents, Wed Nov 11 2026. No macro, syntax, notation, axiom, sorry.
-/
import Derived.Test.YtmeigmpjpkinoaaChecked
import GoSem.Claim
import GoSem.ClaimJoined
import GoSem.ClaimMapViews
import Derived.JoinedTies
import Derived.KernelRfl
namespace Go.Proofs.Ytmeigmpjpkinoaa
/- THE CELL 'sum', in the pinned program and in every row, IS THE sha256 OF THE DUMP (.gsa) THAT YtmeigmpjpkinoaaProg.lean LOADS. Nothing in Lean hashes anything: it is a label: what it is worth is what the hold of that sum in a sandbox is worth. -/
noncomputable def Try.pinned : Pinned := { name := "ytmeigmpjpkinoaa", sum := "9cabd1ce538ee94766a9ab6495639f996233658207baf5b196cbbf99fc205ede", checked := Try.checked }
namespace Rows
def none {H : Type} : Left H := { results := [], args := [] }

/-- 'pllaw7.LinkTells': WHATEVER THE INPUT: true; the input reads as it did. -/
def linkTellsSpec : ChangeSpec := { name := "linkTells", fn := fun _ => fun
  | [d1, d2] => { results := [.lit (.bool true)], args := [d1, d2] }
  | _ => none }
def linkTellsRow : OpenClaim := { program := "ytmeigmpjpkinoaa", sum := "9cabd1ce538ee94766a9ab6495639f996233658207baf5b196cbbf99fc205ede", func := "platelayer/pllaw7.LinkTells", spec := "linkTells", unfollowed := true, recurses := true, apart := false }
def LinkTellsSaid : Prop := linkTellsRow.holds Try.pinned (OpenSpec.ofChange linkTellsSpec)

/-- ITS FALSE NEIGHBOUR: 'it returns false'. Refute it at one input. -/
def linkTellsWrong : ChangeSpec := { name := "linkTells", fn := fun _ => fun
  | [d1, d2] => { results := [.lit (.bool false)], args := [d1, d2] }
  | _ => none }
def LinkTellsWrongFalsely : Prop := linkTellsRow.holds Try.pinned (OpenSpec.ofChange linkTellsWrong)

/-- 'pllaw6.ObjTells': WHATEVER THE INPUT: true; the input reads as it did. -/
def objTellsSpec : ChangeSpec := { name := "objTells", fn := fun _ => fun
  | [d1, d2] => { results := [.lit (.bool true)], args := [d1, d2] }
  | _ => none }
def objTellsRow : OpenClaim := { program := "ytmeigmpjpkinoaa", sum := "9cabd1ce538ee94766a9ab6495639f996233658207baf5b196cbbf99fc205ede", func := "platelayer/pllaw6.ObjTells", spec := "objTells", unfollowed := true, recurses := true, apart := false }
def ObjTellsSaid : Prop := objTellsRow.holds Try.pinned (OpenSpec.ofChange objTellsSpec)

/-- ITS FALSE NEIGHBOUR: 'it returns false'. Refute it at one input. -/
def objTellsWrong : ChangeSpec := { name := "objTells", fn := fun _ => fun
  | [d1, d2] => { results := [.lit (.bool false)], args := [d1, d2] }
  | _ => none }
def ObjTellsWrongFalsely : Prop := objTellsRow.holds Try.pinned (OpenSpec.ofChange objTellsWrong)

/-- 'pllaw6.ObjTurns': WHATEVER THE INPUT: true; the input reads as it did. -/
def objTurnsSpec : ChangeSpec := { name := "objTurns", fn := fun _ => fun
  | [d1, d2] => { results := [.lit (.bool true)], args := [d1, d2] }
  | _ => none }
def objTurnsRow : OpenClaim := { program := "ytmeigmpjpkinoaa", sum := "9cabd1ce538ee94766a9ab6495639f996233658207baf5b196cbbf99fc205ede", func := "platelayer/pllaw6.ObjTurns", spec := "objTurns", apart := false }
def ObjTurnsSaid : Prop := objTurnsRow.holds Try.pinned (OpenSpec.ofChange objTurnsSpec)

/-- ITS FALSE NEIGHBOUR: 'it returns false'. Refute it at one input. -/
def objTurnsWrong : ChangeSpec := { name := "objTurns", fn := fun _ => fun
  | [d1, d2] => { results := [.lit (.bool false)], args := [d1, d2] }
  | _ => none }
def ObjTurnsWrongFalsely : Prop := objTurnsRow.holds Try.pinned (OpenSpec.ofChange objTurnsWrong)

/- THE SECOND FORM. 'bulk': how many values and letters a reading holds, each counted each time it is reached (what is shared counts as often as it is met; a slice's spare places count too). A statement '..UptoSaid' is the law's where the arguments, and the package variables that the reading takes, are together of bulk at most 1048576: NARROWER than '..Said'. Prove '..Said' where nothing that the law and all that it calls make is longer than what came in: it says more and counts as full. Else prove '..UptoSaid'. A law counts once. -/
mutual
def uptoBulk {H : Type} : DataW H → Nat
  | .lit (.string bytes) => bytes.length + 1
  | .lit _ => 1
  | .nil => 1
  | .ptr d => uptoBulk d + 1
  | .slice elems spare => uptoBulkAll elems + uptoBulkAll spare + 1
  | .agg parts => uptoBulkAll parts + 1
  | .iface _ d => uptoBulk d + 1
  | .map entries => uptoBulkEntries entries + 1
  | .held _ => 1
def uptoBulkAll {H : Type} : List (DataW H) → Nat
  | [] => 0
  | d :: r => uptoBulk d + uptoBulkAll r
def uptoBulkEntries {H : Type} : List (Lit × DataW H) → Nat
  | [] => 0
  | x :: r => uptoBulkEntry x + uptoBulkEntries r
def uptoBulkEntry {H : Type} : Lit × DataW H → Nat
  | (.string bytes, d) => bytes.length + uptoBulk d + 1
  | (_, d) => uptoBulk d + 1
 end
def uptoSmall : (H : Type) → List (DataW H) → Bool := fun _ ds => decide (uptoBulkAll ds ≤ 1048576)
def OpenSpec.upto (s : _root_.Go.ChangeSpec) : _root_.Go.OpenSpec := { _root_.Go.OpenSpec.ofChange s with cond := some uptoSmall }

/-- 'pllaw7.LinkTells', WHERE WHAT IT READS IS OF BULK AT MOST 1048576: true; the input reads as it did. -/
def linkTellsUptoRow : OpenClaim := { program := "ytmeigmpjpkinoaa", sum := "9cabd1ce538ee94766a9ab6495639f996233658207baf5b196cbbf99fc205ede", func := "platelayer/pllaw7.LinkTells", spec := "linkTells", unfollowed := true, recurses := true, apart := false, narrowed := true }
def LinkTellsUptoSaid : Prop := linkTellsUptoRow.holds Try.pinned (OpenSpec.upto linkTellsSpec)

/-- 'pllaw6.ObjTells', WHERE WHAT IT READS IS OF BULK AT MOST 1048576: true; the input reads as it did. -/
def objTellsUptoRow : OpenClaim := { program := "ytmeigmpjpkinoaa", sum := "9cabd1ce538ee94766a9ab6495639f996233658207baf5b196cbbf99fc205ede", func := "platelayer/pllaw6.ObjTells", spec := "objTells", unfollowed := true, recurses := true, apart := false, narrowed := true }
def ObjTellsUptoSaid : Prop := objTellsUptoRow.holds Try.pinned (OpenSpec.upto objTellsSpec)

/-- 'pllaw6.ObjTurns', WHERE WHAT IT READS IS OF BULK AT MOST 1048576: true; the input reads as it did. -/
def objTurnsUptoRow : OpenClaim := { program := "ytmeigmpjpkinoaa", sum := "9cabd1ce538ee94766a9ab6495639f996233658207baf5b196cbbf99fc205ede", func := "platelayer/pllaw6.ObjTurns", spec := "objTurns", apart := false, narrowed := true }
def ObjTurnsUptoSaid : Prop := objTurnsUptoRow.holds Try.pinned (OpenSpec.upto objTurnsSpec)

end Rows
end Go.Proofs.Ytmeigmpjpkinoaa
