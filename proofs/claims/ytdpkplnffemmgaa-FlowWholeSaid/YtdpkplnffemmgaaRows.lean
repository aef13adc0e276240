/-
  No cell of these rows narrows 'for every input' (looked for: loops, veiled, ifaces, maps, wideKeys, modest, calm, conditions, laid).
  DERIVED. THE GIVEN ROWS OF THIS SEAT. 2 by the template 'for every input the law returns true; each argument reads behind the call as it read before'; 0 by the template 'total and deterministic' (their statements: YtdpkplnffemmgaaTotals.lean).
  GIVEN WITH THE SEED: the statements are not yours to turn. If you find one false, say at which input.
  Laid BY PROGRAM, IN A SANDBOX (cutbox-rows.mjs): the forced cells as the released guide's own fill.sh prints them over the translation e081f0e0f7744d13… (all of the seat's roots in one cut). By AI agents, Wed Nov 11 2026. No macro, syntax, notation, axiom, sorry.
-/
import Derived.Test.YtdpkplnffemmgaaChecked
import GoSem.Claim
import GoSem.ClaimJoined
import GoSem.ClaimMapViews
import Derived.JoinedTies
import Derived.KernelRfl
namespace Go.Proofs.Ytdpkplnffemmgaa
/- THE CELL 'sum', in the pinned program and in every row, IS THE sha256 OF THE DUMP (.gsa) THAT YtdpkplnffemmgaaProg.lean LOADS. Nothing in Lean hashes anything: it is a label: what it is worth is what the hold of that sum in a sandbox is worth. -/
noncomputable def Try.pinned : Pinned := { name := "ytdpkplnffemmgaa", sum := "e081f0e0f7744d13e5f9d6ccc345896395c05bad6e10e4cfbf4cbfd61185f456", checked := Try.checked }
namespace Rows
def none {H : Type} : Left H := { results := [], args := [] }

/-- 'seneschalkeep.FlowFair': WHATEVER THE INPUT: true; the input reads as it did. -/
def flowFairSpec : ChangeSpec := { name := "flowFair", fn := fun _ => fun
  | [d1, d2, d3, d4, d5] => { results := [.lit (.bool true)], args := [d1, d2, d3, d4, d5] }
  | _ => none }
def flowFairRow : OpenClaim := { program := "ytdpkplnffemmgaa", sum := "e081f0e0f7744d13e5f9d6ccc345896395c05bad6e10e4cfbf4cbfd61185f456", func := "seneschal/seneschalkeep.FlowFair", spec := "flowFair", unfollowed := true, recurses := true, apart := false }
def FlowFairSaid : Prop := flowFairRow.holds Try.pinned (OpenSpec.ofChange flowFairSpec)

/-- ITS FALSE NEIGHBOUR: 'it returns false'. Refute it at one input. -/
def flowFairWrong : ChangeSpec := { name := "flowFair", fn := fun _ => fun
  | [d1, d2, d3, d4, d5] => { results := [.lit (.bool false)], args := [d1, d2, d3, d4, d5] }
  | _ => none }
def FlowFairWrongFalsely : Prop := flowFairRow.holds Try.pinned (OpenSpec.ofChange flowFairWrong)

/-- 'seneschalkeep.FlowWhole': WHATEVER THE INPUT: true; the input reads as it did. -/
def flowWholeSpec : ChangeSpec := { name := "flowWhole", fn := fun _ => fun
  | [d1, d2] => { results := [.lit (.bool true)], args := [d1, d2] }
  | _ => none }
def flowWholeRow : OpenClaim := { program := "ytdpkplnffemmgaa", sum := "e081f0e0f7744d13e5f9d6ccc345896395c05bad6e10e4cfbf4cbfd61185f456", func := "seneschal/seneschalkeep.FlowWhole", spec := "flowWhole", unfollowed := true, recurses := true, apart := false }
def FlowWholeSaid : Prop := flowWholeRow.holds Try.pinned (OpenSpec.ofChange flowWholeSpec)

/-- ITS FALSE NEIGHBOUR: 'it returns false'. Refute it at one input. -/
def flowWholeWrong : ChangeSpec := { name := "flowWhole", fn := fun _ => fun
  | [d1, d2] => { results := [.lit (.bool false)], args := [d1, d2] }
  | _ => none }
def FlowWholeWrongFalsely : Prop := flowWholeRow.holds Try.pinned (OpenSpec.ofChange flowWholeWrong)

/- THE SECOND FORM. 'bulk': how many values and letters a reading holds, each counted each time it is reached (what is shared counts as often as it is met; a slice's spare places count too). A statement '..UptoSaid' is the law's where the arguments, and the package variables that the reading takes, are together of bulk at most 1048576: NARROWER than '..Said'. Prove '..Said' where nothing that the law and all that it calls make is longer than what came in: it says more and counts as full. Else prove '..UptoSaid'. A law counts once. -/
mutual
def uptoBulk {H : Type} : DataW H → Nat
  | .lit (.string bytes) => bytes.length + 1
  | .lit _ => 1
  | .nil => 1
  | .ptr d => uptoBulk d + 1
  | .slice elems spare => uptoBulkAll elems + uptoBulkAll spare + 1
  | .agg parts => uptoBulkAll parts + 1
  | .iface _ d => uptoBulk d + 1
  | .map entries => uptoBulkEntries entries + 1
  | .held _ => 1
def uptoBulkAll {H : Type} : List (DataW H) → Nat
  | [] => 0
  | d :: r => uptoBulk d + uptoBulkAll r
def uptoBulkEntries {H : Type} : List (Lit × DataW H) → Nat
  | [] => 0
  | x :: r => uptoBulkEntry x + uptoBulkEntries r
def uptoBulkEntry {H : Type} : Lit × DataW H → Nat
  | (.string bytes, d) => bytes.length + uptoBulk d + 1
  | (_, d) => uptoBulk d + 1
 end
def uptoSmall : (H : Type) → List (DataW H) → Bool := fun _ ds => decide (uptoBulkAll ds ≤ 1048576)
def OpenSpec.upto (s : _root_.Go.ChangeSpec) : _root_.Go.OpenSpec := { _root_.Go.OpenSpec.ofChange s with cond := some uptoSmall }

/-- 'seneschalkeep.FlowFair', WHERE WHAT IT READS IS OF BULK AT MOST 1048576: true; the input reads as it did. -/
def flowFairUptoRow : OpenClaim := { program := "ytdpkplnffemmgaa", sum := "e081f0e0f7744d13e5f9d6ccc345896395c05bad6e10e4cfbf4cbfd61185f456", func := "seneschal/seneschalkeep.FlowFair", spec := "flowFair", unfollowed := true, recurses := true, apart := false, narrowed := true }
def FlowFairUptoSaid : Prop := flowFairUptoRow.holds Try.pinned (OpenSpec.upto flowFairSpec)

/-- 'seneschalkeep.FlowWhole', WHERE WHAT IT READS IS OF BULK AT MOST 1048576: true; the input reads as it did. -/
def flowWholeUptoRow : OpenClaim := { program := "ytdpkplnffemmgaa", sum := "e081f0e0f7744d13e5f9d6ccc345896395c05bad6e10e4cfbf4cbfd61185f456", func := "seneschal/seneschalkeep.FlowWhole", spec := "flowWhole", unfollowed := true, recurses := true, apart := false, narrowed := true }
def FlowWholeUptoSaid : Prop := flowWholeUptoRow.holds Try.pinned (OpenSpec.upto flowWholeSpec)

end Rows
end Go.Proofs.Ytdpkplnffemmgaa
