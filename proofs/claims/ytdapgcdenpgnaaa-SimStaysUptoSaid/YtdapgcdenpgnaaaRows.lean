/-
  No cell of these rows narrows 'for every input' (looked for: loops, veiled, ifaces, maps, wideKeys, modest, calm, conditions, laid).
  DERIVED. THE GIVEN ROWS OF THIS SEAT. 3 by the template 'for every input the law returns true; each argument reads behind the call as it read before'; 0 by the template 'total and deterministic' (their statements: YtdapgcdenpgnaaaTotals.lean).
  GIVEN WITH THE SEED: the statements are not yours to turn. If you find one false, say at which input.
  Laid BY PROGRAM, IN A SANDBOX (cutbox-rows.mjs): the forced cells as the released guide's own fill.sh prints them over the translation 9e6f2b0b0cff78a3… (all of the seat's roots in one cut). By AI agents, Wed Nov 11 2026. No macro, syntax, notation, axiom, sorry.
-/
import Derived.Test.YtdapgcdenpgnaaaChecked
import GoSem.Claim
import GoSem.ClaimJoined
import GoSem.ClaimMapViews
import Derived.JoinedTies
import Derived.KernelRfl
namespace Go.Proofs.Ytdapgcdenpgnaaa
/- THE CELL 'sum', in the pinned program and in every row, IS THE sha256 OF THE DUMP (.gsa) THAT YtdapgcdenpgnaaaProg.lean LOADS. Nothing in Lean hashes anything: it is a label: what it is worth is what the hold of that sum in a sandbox is worth. -/
noncomputable def Try.pinned : Pinned := { name := "ytdapgcdenpgnaaa", sum := "9e6f2b0b0cff78a31e31941a2dbf1da4ed375e26ad916164ddfbbddfe4cde7d1", checked := Try.checked }
namespace Rows
def none {H : Type} : Left H := { results := [], args := [] }

/-- 'pllaw9.SimTells': WHATEVER THE INPUT: true; the input reads as it did. -/
def simTellsSpec : ChangeSpec := { name := "simTells", fn := fun _ => fun
  | [d1, d2] => { results := [.lit (.bool true)], args := [d1, d2] }
  | _ => none }
def simTellsRow : OpenClaim := { program := "ytdapgcdenpgnaaa", sum := "9e6f2b0b0cff78a31e31941a2dbf1da4ed375e26ad916164ddfbbddfe4cde7d1", func := "platelayer/pllaw9.SimTells", spec := "simTells", unfollowed := true, recurses := true, apart := false }
def SimTellsSaid : Prop := simTellsRow.holds Try.pinned (OpenSpec.ofChange simTellsSpec)

/-- ITS FALSE NEIGHBOUR: 'it returns false'. Refute it at one input. -/
def simTellsWrong : ChangeSpec := { name := "simTells", fn := fun _ => fun
  | [d1, d2] => { results := [.lit (.bool false)], args := [d1, d2] }
  | _ => none }
def SimTellsWrongFalsely : Prop := simTellsRow.holds Try.pinned (OpenSpec.ofChange simTellsWrong)

/-- 'pllaw9.SimParts': WHATEVER THE INPUT: true; the input reads as it did. -/
def simPartsSpec : ChangeSpec := { name := "simParts", fn := fun _ => fun
  | [d1, d2, d3] => { results := [.lit (.bool true)], args := [d1, d2, d3] }
  | _ => none }
def simPartsRow : OpenClaim := { program := "ytdapgcdenpgnaaa", sum := "9e6f2b0b0cff78a31e31941a2dbf1da4ed375e26ad916164ddfbbddfe4cde7d1", func := "platelayer/pllaw9.SimParts", spec := "simParts", apart := false }
def SimPartsSaid : Prop := simPartsRow.holds Try.pinned (OpenSpec.ofChange simPartsSpec)

/-- ITS FALSE NEIGHBOUR: 'it returns false'. Refute it at one input. -/
def simPartsWrong : ChangeSpec := { name := "simParts", fn := fun _ => fun
  | [d1, d2, d3] => { results := [.lit (.bool false)], args := [d1, d2, d3] }
  | _ => none }
def SimPartsWrongFalsely : Prop := simPartsRow.holds Try.pinned (OpenSpec.ofChange simPartsWrong)

/-- 'pllaw9.SimStays': WHATEVER THE INPUT: true; the input reads as it did. -/
def simStaysSpec : ChangeSpec := { name := "simStays", fn := fun _ => fun
  | [d1, d2] => { results := [.lit (.bool true)], args := [d1, d2] }
  | _ => none }
def simStaysRow : OpenClaim := { program := "ytdapgcdenpgnaaa", sum := "9e6f2b0b0cff78a31e31941a2dbf1da4ed375e26ad916164ddfbbddfe4cde7d1", func := "platelayer/pllaw9.SimStays", spec := "simStays", apart := false }
def SimStaysSaid : Prop := simStaysRow.holds Try.pinned (OpenSpec.ofChange simStaysSpec)

/-- ITS FALSE NEIGHBOUR: 'it returns false'. Refute it at one input. -/
def simStaysWrong : ChangeSpec := { name := "simStays", fn := fun _ => fun
  | [d1, d2] => { results := [.lit (.bool false)], args := [d1, d2] }
  | _ => none }
def SimStaysWrongFalsely : Prop := simStaysRow.holds Try.pinned (OpenSpec.ofChange simStaysWrong)

/- THE SECOND FORM. 'bulk': how many values and letters a reading holds, each counted each time it is reached (what is shared counts as often as it is met; a slice's spare places count too). A statement '..UptoSaid' is the law's where the arguments, and the package variables that the reading takes, are together of bulk at most 1048576: NARROWER than '..Said'. Prove '..Said' where nothing that the law and all that it calls make is longer than what came in: it says more and counts as full. Else prove '..UptoSaid'. A law counts once. -/
mutual
def uptoBulk {H : Type} : DataW H → Nat
  | .lit (.string bytes) => bytes.length + 1
  | .lit _ => 1
  | .nil => 1
  | .ptr d => uptoBulk d + 1
  | .slice elems spare => uptoBulkAll elems + uptoBulkAll spare + 1
  | .agg parts => uptoBulkAll parts + 1
  | .iface _ d => uptoBulk d + 1
  | .map entries => uptoBulkEntries entries + 1
  | .held _ => 1
def uptoBulkAll {H : Type} : List (DataW H) → Nat
  | [] => 0
  | d :: r => uptoBulk d + uptoBulkAll r
def uptoBulkEntries {H : Type} : List (Lit × DataW H) → Nat
  | [] => 0
  | x :: r => uptoBulkEntry x + uptoBulkEntries r
def uptoBulkEntry {H : Type} : Lit × DataW H → Nat
  | (.string bytes, d) => bytes.length + uptoBulk d + 1
  | (_, d) => uptoBulk d + 1
 end
def uptoSmall : (H : Type) → List (DataW H) → Bool := fun _ ds => decide (uptoBulkAll ds ≤ 1048576)
def OpenSpec.upto (s : _root_.Go.ChangeSpec) : _root_.Go.OpenSpec := { _root_.Go.OpenSpec.ofChange s with cond := some uptoSmall }

/-- 'pllaw9.SimTells', WHERE WHAT IT READS IS OF BULK AT MOST 1048576: true; the input reads as it did. -/
def simTellsUptoRow : OpenClaim := { program := "ytdapgcdenpgnaaa", sum := "9e6f2b0b0cff78a31e31941a2dbf1da4ed375e26ad916164ddfbbddfe4cde7d1", func := "platelayer/pllaw9.SimTells", spec := "simTells", unfollowed := true, recurses := true, apart := false, narrowed := true }
def SimTellsUptoSaid : Prop := simTellsUptoRow.holds Try.pinned (OpenSpec.upto simTellsSpec)

/-- 'pllaw9.SimParts', WHERE WHAT IT READS IS OF BULK AT MOST 1048576: true; the input reads as it did. -/
def simPartsUptoRow : OpenClaim := { program := "ytdapgcdenpgnaaa", sum := "9e6f2b0b0cff78a31e31941a2dbf1da4ed375e26ad916164ddfbbddfe4cde7d1", func := "platelayer/pllaw9.SimParts", spec := "simParts", apart := false, narrowed := true }
def SimPartsUptoSaid : Prop := simPartsUptoRow.holds Try.pinned (OpenSpec.upto simPartsSpec)

/-- 'pllaw9.SimStays', WHERE WHAT IT READS IS OF BULK AT MOST 1048576: true; the input reads as it did. -/
def simStaysUptoRow : OpenClaim := { program := "ytdapgcdenpgnaaa", sum := "9e6f2b0b0cff78a31e31941a2dbf1da4ed375e26ad916164ddfbbddfe4cde7d1", func := "platelayer/pllaw9.SimStays", spec := "simStays", apart := false, narrowed := true }
def SimStaysUptoSaid : Prop := simStaysUptoRow.holds Try.pinned (OpenSpec.upto simStaysSpec)

end Rows
end Go.Proofs.Ytdapgcdenpgnaaa
