/-
  No cell of these rows narrows 'for every input' (looked for: loops, veiled, ifaces, maps, wideKeys, modest, calm, conditions, laid).
  DERIVED. THE GIVEN ROWS OF THIS SEAT. 3 by the template 'for every input the law returns true; each argument reads behind the call as it read before'; 0 by the template 'total and deterministic' (their statements: YtcijlaniohfapaaTotals.lean).
  GIVEN WITH THE SEED: the statements are not yours to turn. If you find one false, say at which input.
  Laid BY PROGRAM, IN A SANDBOX (cutbox-rows.mjs): the forced cells as the released guide's own fill.sh prints them over the translation bebae22808e0f290… (all of the seat's roots in one cut). By AI agents, Wed Nov 11 2026. No macro, syntax, notation, axiom, sorry.
-/
import Derived.Test.YtcijlaniohfapaaChecked
import GoSem.Claim
import GoSem.ClaimJoined
import GoSem.ClaimMapViews
import Derived.JoinedTies
import Derived.KernelRfl
namespace Go.Proofs.Ytcijlaniohfapaa
/- THE CELL 'sum', in the pinned program and in every row, IS THE sha256 OF THE DUMP (.gsa) THAT YtcijlaniohfapaaProg.lean LOADS. Nothing in Lean hashes anything: it is a label: what it is worth is what the hold of that sum in a sandbox is worth. -/
noncomputable def Try.pinned : Pinned := { name := "ytcijlaniohfapaa", sum := "bebae22808e0f2904a87ed42ce4d4e2ef29a9841bdce94c3b6d8747b89bab924", checked := Try.checked }
namespace Rows
def none {H : Type} : Left H := { results := [], args := [] }

/-- 'pllaw1.IsaTells': WHATEVER THE INPUT: true; the input reads as it did. -/
def isaTellsSpec : ChangeSpec := { name := "isaTells", fn := fun _ => fun
  | [d1, d2, d3, d4, d5, d6, d7] => { results := [.lit (.bool true)], args := [d1, d2, d3, d4, d5, d6, d7] }
  | _ => none }
def isaTellsRow : OpenClaim := { program := "ytcijlaniohfapaa", sum := "bebae22808e0f2904a87ed42ce4d4e2ef29a9841bdce94c3b6d8747b89bab924", func := "platelayer/pllaw1.IsaTells", spec := "isaTells", apart := false }
def IsaTellsSaid : Prop := isaTellsRow.holds Try.pinned (OpenSpec.ofChange isaTellsSpec)

/-- ITS FALSE NEIGHBOUR: 'it returns false'. Refute it at one input. -/
def isaTellsWrong : ChangeSpec := { name := "isaTells", fn := fun _ => fun
  | [d1, d2, d3, d4, d5, d6, d7] => { results := [.lit (.bool false)], args := [d1, d2, d3, d4, d5, d6, d7] }
  | _ => none }
def IsaTellsWrongFalsely : Prop := isaTellsRow.holds Try.pinned (OpenSpec.ofChange isaTellsWrong)

/-- 'pllaw1.IsaTurns': WHATEVER THE INPUT: true; the input reads as it did. -/
def isaTurnsSpec : ChangeSpec := { name := "isaTurns", fn := fun _ => fun
  | [d1, d2] => { results := [.lit (.bool true)], args := [d1, d2] }
  | _ => none }
def isaTurnsRow : OpenClaim := { program := "ytcijlaniohfapaa", sum := "bebae22808e0f2904a87ed42ce4d4e2ef29a9841bdce94c3b6d8747b89bab924", func := "platelayer/pllaw1.IsaTurns", spec := "isaTurns", apart := false }
def IsaTurnsSaid : Prop := isaTurnsRow.holds Try.pinned (OpenSpec.ofChange isaTurnsSpec)

/-- ITS FALSE NEIGHBOUR: 'it returns false'. Refute it at one input. -/
def isaTurnsWrong : ChangeSpec := { name := "isaTurns", fn := fun _ => fun
  | [d1, d2] => { results := [.lit (.bool false)], args := [d1, d2] }
  | _ => none }
def IsaTurnsWrongFalsely : Prop := isaTurnsRow.holds Try.pinned (OpenSpec.ofChange isaTurnsWrong)

/-- 'pllaw1.IsaBytes': WHATEVER THE INPUT: true; the input reads as it did. -/
def isaBytesSpec : ChangeSpec := { name := "isaBytes", fn := fun _ => fun
  | [d1, d2, d3, d4, d5] => { results := [.lit (.bool true)], args := [d1, d2, d3, d4, d5] }
  | _ => none }
def isaBytesRow : OpenClaim := { program := "ytcijlaniohfapaa", sum := "bebae22808e0f2904a87ed42ce4d4e2ef29a9841bdce94c3b6d8747b89bab924", func := "platelayer/pllaw1.IsaBytes", spec := "isaBytes", apart := false }
def IsaBytesSaid : Prop := isaBytesRow.holds Try.pinned (OpenSpec.ofChange isaBytesSpec)

/-- ITS FALSE NEIGHBOUR: 'it returns false'. Refute it at one input. -/
def isaBytesWrong : ChangeSpec := { name := "isaBytes", fn := fun _ => fun
  | [d1, d2, d3, d4, d5] => { results := [.lit (.bool false)], args := [d1, d2, d3, d4, d5] }
  | _ => none }
def IsaBytesWrongFalsely : Prop := isaBytesRow.holds Try.pinned (OpenSpec.ofChange isaBytesWrong)

/- THE SECOND FORM. 'bulk': how many values and letters a reading holds, each counted each time it is reached (what is shared counts as often as it is met; a slice's spare places count too). A statement '..UptoSaid' is the law's where the arguments, and the package variables that the reading takes, are together of bulk at most 1048576: NARROWER than '..Said'. Prove '..Said' where nothing that the law and all that it calls make is longer than what came in: it says more and counts as full. Else prove '..UptoSaid'. A law counts once. -/
mutual
def uptoBulk {H : Type} : DataW H → Nat
  | .lit (.string bytes) => bytes.length + 1
  | .lit _ => 1
  | .nil => 1
  | .ptr d => uptoBulk d + 1
  | .slice elems spare => uptoBulkAll elems + uptoBulkAll spare + 1
  | .agg parts => uptoBulkAll parts + 1
  | .iface _ d => uptoBulk d + 1
  | .map entries => uptoBulkEntries entries + 1
  | .held _ => 1
def uptoBulkAll {H : Type} : List (DataW H) → Nat
  | [] => 0
  | d :: r => uptoBulk d + uptoBulkAll r
def uptoBulkEntries {H : Type} : List (Lit × DataW H) → Nat
  | [] => 0
  | x :: r => uptoBulkEntry x + uptoBulkEntries r
def uptoBulkEntry {H : Type} : Lit × DataW H → Nat
  | (.string bytes, d) => bytes.length + uptoBulk d + 1
  | (_, d) => uptoBulk d + 1
 end
def uptoSmall : (H : Type) → List (DataW H) → Bool := fun _ ds => decide (uptoBulkAll ds ≤ 1048576)
def OpenSpec.upto (s : _root_.Go.ChangeSpec) : _root_.Go.OpenSpec := { _root_.Go.OpenSpec.ofChange s with cond := some uptoSmall }

/-- 'pllaw1.IsaTells', WHERE WHAT IT READS IS OF BULK AT MOST 1048576: true; the input reads as it did. -/
def isaTellsUptoRow : OpenClaim := { program := "ytcijlaniohfapaa", sum := "bebae22808e0f2904a87ed42ce4d4e2ef29a9841bdce94c3b6d8747b89bab924", func := "platelayer/pllaw1.IsaTells", spec := "isaTells", apart := false, narrowed := true }
def IsaTellsUptoSaid : Prop := isaTellsUptoRow.holds Try.pinned (OpenSpec.upto isaTellsSpec)

/-- 'pllaw1.IsaTurns', WHERE WHAT IT READS IS OF BULK AT MOST 1048576: true; the input reads as it did. -/
def isaTurnsUptoRow : OpenClaim := { program := "ytcijlaniohfapaa", sum := "bebae22808e0f2904a87ed42ce4d4e2ef29a9841bdce94c3b6d8747b89bab924", func := "platelayer/pllaw1.IsaTurns", spec := "isaTurns", apart := false, narrowed := true }
def IsaTurnsUptoSaid : Prop := isaTurnsUptoRow.holds Try.pinned (OpenSpec.upto isaTurnsSpec)

/-- 'pllaw1.IsaBytes', WHERE WHAT IT READS IS OF BULK AT MOST 1048576: true; the input reads as it did. -/
def isaBytesUptoRow : OpenClaim := { program := "ytcijlaniohfapaa", sum := "bebae22808e0f2904a87ed42ce4d4e2ef29a9841bdce94c3b6d8747b89bab924", func := "platelayer/pllaw1.IsaBytes", spec := "isaBytes", apart := false, narrowed := true }
def IsaBytesUptoSaid : Prop := isaBytesUptoRow.holds Try.pinned (OpenSpec.upto isaBytesSpec)

end Rows
end Go.Proofs.Ytcijlaniohfapaa
