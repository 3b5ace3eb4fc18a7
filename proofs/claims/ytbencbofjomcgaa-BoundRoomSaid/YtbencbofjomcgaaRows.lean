/-
  No cell of these rows narrows 'for every input' (looked for: loops, veiled, ifaces, maps, wideKeys, modest, calm, conditions, laid).
  DERIVED. THE GIVEN ROWS OF THIS SEAT. 3 by the template 'for every input the law returns true; each argument reads behind the call as it read before'; 0 by the template 'total and deterministic' (their statements: YtbencbofjomcgaaTotals.lean).
  GIVEN WITH THE SEED: the statements are not yours to turn. If you find one false, say at which input.
  Laid BY PROGRAM, IN A SANDBOX (cutbox-rows.mjs): the forced cells as the released guide's own fill.sh prints them over the translation 526c131f02fea854… (all of the seat's roots in one cut). By AI agents, Wed Nov 11 2026. No macro, syntax, notation, axiom, sorry.
-/
import Derived.Test.YtbencbofjomcgaaChecked
import GoSem.Claim
import GoSem.ClaimJoined
import GoSem.ClaimMapViews
import Derived.JoinedTies
import Derived.KernelRfl
namespace Go.Proofs.Ytbencbofjomcgaa
/- THE CELL 'sum', in the pinned program and in every row, IS THE sha256 OF THE DUMP (.gsa) THAT YtbencbofjomcgaaProg.lean LOADS. Nothing in Lean hashes anything: it is a label: what it is worth is what the hold of that sum in a sandbox is worth. -/
noncomputable def Try.pinned : Pinned := { name := "ytbencbofjomcgaa", sum := "526c131f02fea8541fec3cdf0ec703575de7887a7958de4209fbd54a5bfd84c1", checked := Try.checked }
namespace Rows
def none {H : Type} : Left H := { results := [], args := [] }

/-- 'casebooklaw24.BoundAsks': WHATEVER THE INPUT: true; the input reads as it did. -/
def boundAsksSpec : ChangeSpec := { name := "boundAsks", fn := fun _ => fun
  | [d1, d2] => { results := [.lit (.bool true)], args := [d1, d2] }
  | _ => none }
def boundAsksRow : OpenClaim := { program := "ytbencbofjomcgaa", sum := "526c131f02fea8541fec3cdf0ec703575de7887a7958de4209fbd54a5bfd84c1", func := "casebook/casebooklaw24.BoundAsks", spec := "boundAsks", apart := false }
def BoundAsksSaid : Prop := boundAsksRow.holds Try.pinned (OpenSpec.ofChange boundAsksSpec)

/-- ITS FALSE NEIGHBOUR: 'it returns false'. Refute it at one input. -/
def boundAsksWrong : ChangeSpec := { name := "boundAsks", fn := fun _ => fun
  | [d1, d2] => { results := [.lit (.bool false)], args := [d1, d2] }
  | _ => none }
def BoundAsksWrongFalsely : Prop := boundAsksRow.holds Try.pinned (OpenSpec.ofChange boundAsksWrong)

/-- 'casebooklaw24.BoundRoom': WHATEVER THE INPUT: true; the input reads as it did. -/
def boundRoomSpec : ChangeSpec := { name := "boundRoom", fn := fun _ => fun
  | [d] => { results := [.lit (.bool true)], args := [d] }
  | _ => none }
def boundRoomRow : OpenClaim := { program := "ytbencbofjomcgaa", sum := "526c131f02fea8541fec3cdf0ec703575de7887a7958de4209fbd54a5bfd84c1", func := "casebook/casebooklaw24.BoundRoom", spec := "boundRoom", apart := false }
def BoundRoomSaid : Prop := boundRoomRow.holds Try.pinned (OpenSpec.ofChange boundRoomSpec)

/-- ITS FALSE NEIGHBOUR: 'it returns false'. Refute it at one input. -/
def boundRoomWrong : ChangeSpec := { name := "boundRoom", fn := fun _ => fun
  | [d] => { results := [.lit (.bool false)], args := [d] }
  | _ => none }
def BoundRoomWrongFalsely : Prop := boundRoomRow.holds Try.pinned (OpenSpec.ofChange boundRoomWrong)

/-- 'casebooklaw24.BoundGrows': WHATEVER THE INPUT: true; the input reads as it did. -/
def boundGrowsSpec : ChangeSpec := { name := "boundGrows", fn := fun _ => fun
  | [d1, d2, d3] => { results := [.lit (.bool true)], args := [d1, d2, d3] }
  | _ => none }
def boundGrowsRow : OpenClaim := { program := "ytbencbofjomcgaa", sum := "526c131f02fea8541fec3cdf0ec703575de7887a7958de4209fbd54a5bfd84c1", func := "casebook/casebooklaw24.BoundGrows", spec := "boundGrows", apart := false }
def BoundGrowsSaid : Prop := boundGrowsRow.holds Try.pinned (OpenSpec.ofChange boundGrowsSpec)

/-- ITS FALSE NEIGHBOUR: 'it returns false'. Refute it at one input. -/
def boundGrowsWrong : ChangeSpec := { name := "boundGrows", fn := fun _ => fun
  | [d1, d2, d3] => { results := [.lit (.bool false)], args := [d1, d2, d3] }
  | _ => none }
def BoundGrowsWrongFalsely : Prop := boundGrowsRow.holds Try.pinned (OpenSpec.ofChange boundGrowsWrong)

/- THE SECOND FORM. 'bulk': how many values and letters a reading holds, each counted each time it is reached (what is shared counts as often as it is met; a slice's spare places count too). A statement '..UptoSaid' is the law's where the arguments, and the package variables that the reading takes, are together of bulk at most 1048576: NARROWER than '..Said'. Prove '..Said' where nothing that the law and all that it calls make is longer than what came in: it says more and counts as full. Else prove '..UptoSaid'. A law counts once. -/
mutual
def uptoBulk {H : Type} : DataW H → Nat
  | .lit (.string bytes) => bytes.length + 1
  | .lit _ => 1
  | .nil => 1
  | .ptr d => uptoBulk d + 1
  | .slice elems spare => uptoBulkAll elems + uptoBulkAll spare + 1
  | .agg parts => uptoBulkAll parts + 1
  | .iface _ d => uptoBulk d + 1
  | .map entries => uptoBulkEntries entries + 1
  | .held _ => 1
def uptoBulkAll {H : Type} : List (DataW H) → Nat
  | [] => 0
  | d :: r => uptoBulk d + uptoBulkAll r
def uptoBulkEntries {H : Type} : List (Lit × DataW H) → Nat
  | [] => 0
  | x :: r => uptoBulkEntry x + uptoBulkEntries r
def uptoBulkEntry {H : Type} : Lit × DataW H → Nat
  | (.string bytes, d) => bytes.length + uptoBulk d + 1
  | (_, d) => uptoBulk d + 1
 end
def uptoSmall : (H : Type) → List (DataW H) → Bool := fun _ ds => decide (uptoBulkAll ds ≤ 1048576)
def OpenSpec.upto (s : _root_.Go.ChangeSpec) : _root_.Go.OpenSpec := { _root_.Go.OpenSpec.ofChange s with cond := some uptoSmall }

/-- 'casebooklaw24.BoundAsks', WHERE WHAT IT READS IS OF BULK AT MOST 1048576: true; the input reads as it did. -/
def boundAsksUptoRow : OpenClaim := { program := "ytbencbofjomcgaa", sum := "526c131f02fea8541fec3cdf0ec703575de7887a7958de4209fbd54a5bfd84c1", func := "casebook/casebooklaw24.BoundAsks", spec := "boundAsks", apart := false, narrowed := true }
def BoundAsksUptoSaid : Prop := boundAsksUptoRow.holds Try.pinned (OpenSpec.upto boundAsksSpec)

/-- 'casebooklaw24.BoundRoom', WHERE WHAT IT READS IS OF BULK AT MOST 1048576: true; the input reads as it did. -/
def boundRoomUptoRow : OpenClaim := { program := "ytbencbofjomcgaa", sum := "526c131f02fea8541fec3cdf0ec703575de7887a7958de4209fbd54a5bfd84c1", func := "casebook/casebooklaw24.BoundRoom", spec := "boundRoom", apart := false, narrowed := true }
def BoundRoomUptoSaid : Prop := boundRoomUptoRow.holds Try.pinned (OpenSpec.upto boundRoomSpec)

/-- 'casebooklaw24.BoundGrows', WHERE WHAT IT READS IS OF BULK AT MOST 1048576: true; the input reads as it did. -/
def boundGrowsUptoRow : OpenClaim := { program := "ytbencbofjomcgaa", sum := "526c131f02fea8541fec3cdf0ec703575de7887a7958de4209fbd54a5bfd84c1", func := "casebook/casebooklaw24.BoundGrows", spec := "boundGrows", apart := false, narrowed := true }
def BoundGrowsUptoSaid : Prop := boundGrowsUptoRow.holds Try.pinned (OpenSpec.upto boundGrowsSpec)

end Rows
end Go.Proofs.Ytbencbofjomcgaa
