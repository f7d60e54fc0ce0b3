/-
  No cell of these rows narrows 'for every input' (looked for: loops, veiled, ifaces, maps, wideKeys, modest, calm, conditions, laid).
  DERIVED. THE GIVEN ROWS OF THIS SEAT. 8 by the template 'for every input the law returns true; each argument reads behind the call as it read before'; 0 by the template 'total and deterministic' (their statements: YtpichhnihppicaaTotals.lean).
  GIVEN WITH THE SEED: the statements are not yours to turn. If you find one false, say at which input.
  Laid BY PROGRAM, IN A SANDBOX (cutbox-rows.mjs): the forced cells as the released guide's own fill.sh prints them over the translation b03aca08346fab42… (all of the seat's roots in one cut). By AI agents, Wed Nov 11 2026. No macro, syntax, notation, axiom, sorry.
-/
import Derived.Test.YtpichhnihppicaaChecked
import GoSem.Claim
import GoSem.ClaimJoined
import GoSem.ClaimMapViews
import Derived.JoinedTies
import Derived.KernelRfl
namespace Go.Proofs.Ytpichhnihppicaa
/- THE CELL 'sum', in the pinned program and in every row, IS THE sha256 OF THE DUMP (.gsa) THAT YtpichhnihppicaaProg.lean LOADS. Nothing in Lean hashes anything: it is a label: what it is worth is what the hold of that sum in a sandbox is worth. -/
noncomputable def Try.pinned : Pinned := { name := "ytpichhnihppicaa", sum := "b03aca08346fab4283548278b0852354cb51a0b0a1f49e27c34bac4050a48ba8", checked := Try.checked }
namespace Rows
def none {H : Type} : Left H := { results := [], args := [] }

/-- 'gloaminglaw6.SpaceOrder': WHATEVER THE INPUT: true; the input reads as it did. -/
def spaceOrderSpec : ChangeSpec := { name := "spaceOrder", fn := fun _ => fun
  | [d1, d2] => { results := [.lit (.bool true)], args := [d1, d2] }
  | _ => none }
def spaceOrderRow : OpenClaim := { program := "ytpichhnihppicaa", sum := "b03aca08346fab4283548278b0852354cb51a0b0a1f49e27c34bac4050a48ba8", func := "gloaming/gloaminglaw6.SpaceOrder", spec := "spaceOrder", unfollowed := true, recurses := true, apart := false }
def SpaceOrderSaid : Prop := spaceOrderRow.holds Try.pinned (OpenSpec.ofChange spaceOrderSpec)

/-- ITS FALSE NEIGHBOUR: 'it returns false'. Refute it at one input. -/
def spaceOrderWrong : ChangeSpec := { name := "spaceOrder", fn := fun _ => fun
  | [d1, d2] => { results := [.lit (.bool false)], args := [d1, d2] }
  | _ => none }
def SpaceOrderWrongFalsely : Prop := spaceOrderRow.holds Try.pinned (OpenSpec.ofChange spaceOrderWrong)

/-- 'gloaminglaw6.SpaceFinds': WHATEVER THE INPUT: true; the input reads as it did. -/
def spaceFindsSpec : ChangeSpec := { name := "spaceFinds", fn := fun _ => fun
  | [d1, d2] => { results := [.lit (.bool true)], args := [d1, d2] }
  | _ => none }
def spaceFindsRow : OpenClaim := { program := "ytpichhnihppicaa", sum := "b03aca08346fab4283548278b0852354cb51a0b0a1f49e27c34bac4050a48ba8", func := "gloaming/gloaminglaw6.SpaceFinds", spec := "spaceFinds", unfollowed := true, recurses := true, apart := false }
def SpaceFindsSaid : Prop := spaceFindsRow.holds Try.pinned (OpenSpec.ofChange spaceFindsSpec)

/-- ITS FALSE NEIGHBOUR: 'it returns false'. Refute it at one input. -/
def spaceFindsWrong : ChangeSpec := { name := "spaceFinds", fn := fun _ => fun
  | [d1, d2] => { results := [.lit (.bool false)], args := [d1, d2] }
  | _ => none }
def SpaceFindsWrongFalsely : Prop := spaceFindsRow.holds Try.pinned (OpenSpec.ofChange spaceFindsWrong)

/-- 'gloaminglaw6.SpaceLarge': WHATEVER THE INPUT: true; the input reads as it did. -/
def spaceLargeSpec : ChangeSpec := { name := "spaceLarge", fn := fun _ => fun
  | [d1, d2, d3] => { results := [.lit (.bool true)], args := [d1, d2, d3] }
  | _ => none }
def spaceLargeRow : OpenClaim := { program := "ytpichhnihppicaa", sum := "b03aca08346fab4283548278b0852354cb51a0b0a1f49e27c34bac4050a48ba8", func := "gloaming/gloaminglaw6.SpaceLarge", spec := "spaceLarge", unfollowed := true, recurses := true, apart := false }
def SpaceLargeSaid : Prop := spaceLargeRow.holds Try.pinned (OpenSpec.ofChange spaceLargeSpec)

/-- ITS FALSE NEIGHBOUR: 'it returns false'. Refute it at one input. -/
def spaceLargeWrong : ChangeSpec := { name := "spaceLarge", fn := fun _ => fun
  | [d1, d2, d3] => { results := [.lit (.bool false)], args := [d1, d2, d3] }
  | _ => none }
def SpaceLargeWrongFalsely : Prop := spaceLargeRow.holds Try.pinned (OpenSpec.ofChange spaceLargeWrong)

/-- 'gloaminglaw6.SpaceGives': WHATEVER THE INPUT: true; the input reads as it did. -/
def spaceGivesSpec : ChangeSpec := { name := "spaceGives", fn := fun _ => fun
  | [d1, d2] => { results := [.lit (.bool true)], args := [d1, d2] }
  | _ => none }
def spaceGivesRow : OpenClaim := { program := "ytpichhnihppicaa", sum := "b03aca08346fab4283548278b0852354cb51a0b0a1f49e27c34bac4050a48ba8", func := "gloaming/gloaminglaw6.SpaceGives", spec := "spaceGives", unfollowed := true, recurses := true, apart := false }
def SpaceGivesSaid : Prop := spaceGivesRow.holds Try.pinned (OpenSpec.ofChange spaceGivesSpec)

/-- ITS FALSE NEIGHBOUR: 'it returns false'. Refute it at one input. -/
def spaceGivesWrong : ChangeSpec := { name := "spaceGives", fn := fun _ => fun
  | [d1, d2] => { results := [.lit (.bool false)], args := [d1, d2] }
  | _ => none }
def SpaceGivesWrongFalsely : Prop := spaceGivesRow.holds Try.pinned (OpenSpec.ofChange spaceGivesWrong)

/-- 'gloaminglaw6.SpaceRefuses': WHATEVER THE INPUT: true; the input reads as it did. -/
def spaceRefusesSpec : ChangeSpec := { name := "spaceRefuses", fn := fun _ => fun
  | [d1, d2] => { results := [.lit (.bool true)], args := [d1, d2] }
  | _ => none }
def spaceRefusesRow : OpenClaim := { program := "ytpichhnihppicaa", sum := "b03aca08346fab4283548278b0852354cb51a0b0a1f49e27c34bac4050a48ba8", func := "gloaming/gloaminglaw6.SpaceRefuses", spec := "spaceRefuses", unfollowed := true, recurses := true, apart := false }
def SpaceRefusesSaid : Prop := spaceRefusesRow.holds Try.pinned (OpenSpec.ofChange spaceRefusesSpec)

/-- ITS FALSE NEIGHBOUR: 'it returns false'. Refute it at one input. -/
def spaceRefusesWrong : ChangeSpec := { name := "spaceRefuses", fn := fun _ => fun
  | [d1, d2] => { results := [.lit (.bool false)], args := [d1, d2] }
  | _ => none }
def SpaceRefusesWrongFalsely : Prop := spaceRefusesRow.holds Try.pinned (OpenSpec.ofChange spaceRefusesWrong)

/-- 'gloaminglaw6.SpaceApart': WHATEVER THE INPUT: true; the input reads as it did. -/
def spaceApartSpec : ChangeSpec := { name := "spaceApart", fn := fun _ => fun
  | [d1, d2] => { results := [.lit (.bool true)], args := [d1, d2] }
  | _ => none }
def spaceApartRow : OpenClaim := { program := "ytpichhnihppicaa", sum := "b03aca08346fab4283548278b0852354cb51a0b0a1f49e27c34bac4050a48ba8", func := "gloaming/gloaminglaw6.SpaceApart", spec := "spaceApart", unfollowed := true, recurses := true, apart := false }
def SpaceApartSaid : Prop := spaceApartRow.holds Try.pinned (OpenSpec.ofChange spaceApartSpec)

/-- ITS FALSE NEIGHBOUR: 'it returns false'. Refute it at one input. -/
def spaceApartWrong : ChangeSpec := { name := "spaceApart", fn := fun _ => fun
  | [d1, d2] => { results := [.lit (.bool false)], args := [d1, d2] }
  | _ => none }
def SpaceApartWrongFalsely : Prop := spaceApartRow.holds Try.pinned (OpenSpec.ofChange spaceApartWrong)

/-- 'gloaminglaw6.SpaceRuns': WHATEVER THE INPUT: true; the input reads as it did. -/
def spaceRunsSpec : ChangeSpec := { name := "spaceRuns", fn := fun _ => fun
  | [d1, d2] => { results := [.lit (.bool true)], args := [d1, d2] }
  | _ => none }
def spaceRunsRow : OpenClaim := { program := "ytpichhnihppicaa", sum := "b03aca08346fab4283548278b0852354cb51a0b0a1f49e27c34bac4050a48ba8", func := "gloaming/gloaminglaw6.SpaceRuns", spec := "spaceRuns", unfollowed := true, recurses := true, apart := false }
def SpaceRunsSaid : Prop := spaceRunsRow.holds Try.pinned (OpenSpec.ofChange spaceRunsSpec)

/-- ITS FALSE NEIGHBOUR: 'it returns false'. Refute it at one input. -/
def spaceRunsWrong : ChangeSpec := { name := "spaceRuns", fn := fun _ => fun
  | [d1, d2] => { results := [.lit (.bool false)], args := [d1, d2] }
  | _ => none }
def SpaceRunsWrongFalsely : Prop := spaceRunsRow.holds Try.pinned (OpenSpec.ofChange spaceRunsWrong)

/-- 'gloaminglaw6.SpaceZeros': WHATEVER THE INPUT: true; the input reads as it did. -/
def spaceZerosSpec : ChangeSpec := { name := "spaceZeros", fn := fun _ => fun
  | [d1, d2, d3] => { results := [.lit (.bool true)], args := [d1, d2, d3] }
  | _ => none }
def spaceZerosRow : OpenClaim := { program := "ytpichhnihppicaa", sum := "b03aca08346fab4283548278b0852354cb51a0b0a1f49e27c34bac4050a48ba8", func := "gloaming/gloaminglaw6.SpaceZeros", spec := "spaceZeros", unfollowed := true, recurses := true, apart := false }
def SpaceZerosSaid : Prop := spaceZerosRow.holds Try.pinned (OpenSpec.ofChange spaceZerosSpec)

/-- ITS FALSE NEIGHBOUR: 'it returns false'. Refute it at one input. -/
def spaceZerosWrong : ChangeSpec := { name := "spaceZeros", fn := fun _ => fun
  | [d1, d2, d3] => { results := [.lit (.bool false)], args := [d1, d2, d3] }
  | _ => none }
def SpaceZerosWrongFalsely : Prop := spaceZerosRow.holds Try.pinned (OpenSpec.ofChange spaceZerosWrong)

/- THE SECOND FORM. 'bulk': how many values and letters a reading holds, each counted each time it is reached (what is shared counts as often as it is met; a slice's spare places count too). A statement '..UptoSaid' is the law's where the arguments, and the package variables that the reading takes, are together of bulk at most 1048576: NARROWER than '..Said'. Prove '..Said' where nothing that the law and all that it calls make is longer than what came in: it says more and counts as full. Else prove '..UptoSaid'. A law counts once. -/
mutual
def uptoBulk {H : Type} : DataW H → Nat
  | .lit (.string bytes) => bytes.length + 1
  | .lit _ => 1
  | .nil => 1
  | .ptr d => uptoBulk d + 1
  | .slice elems spare => uptoBulkAll elems + uptoBulkAll spare + 1
  | .agg parts => uptoBulkAll parts + 1
  | .iface _ d => uptoBulk d + 1
  | .map entries => uptoBulkEntries entries + 1
  | .held _ => 1
def uptoBulkAll {H : Type} : List (DataW H) → Nat
  | [] => 0
  | d :: r => uptoBulk d + uptoBulkAll r
def uptoBulkEntries {H : Type} : List (Lit × DataW H) → Nat
  | [] => 0
  | x :: r => uptoBulkEntry x + uptoBulkEntries r
def uptoBulkEntry {H : Type} : Lit × DataW H → Nat
  | (.string bytes, d) => bytes.length + uptoBulk d + 1
  | (_, d) => uptoBulk d + 1
 end
def uptoSmall : (H : Type) → List (DataW H) → Bool := fun _ ds => decide (uptoBulkAll ds ≤ 1048576)
def OpenSpec.upto (s : _root_.Go.ChangeSpec) : _root_.Go.OpenSpec := { _root_.Go.OpenSpec.ofChange s with cond := some uptoSmall }

/-- 'gloaminglaw6.SpaceOrder', WHERE WHAT IT READS IS OF BULK AT MOST 1048576: true; the input reads as it did. -/
def spaceOrderUptoRow : OpenClaim := { program := "ytpichhnihppicaa", sum := "b03aca08346fab4283548278b0852354cb51a0b0a1f49e27c34bac4050a48ba8", func := "gloaming/gloaminglaw6.SpaceOrder", spec := "spaceOrder", unfollowed := true, recurses := true, apart := false, narrowed := true }
def SpaceOrderUptoSaid : Prop := spaceOrderUptoRow.holds Try.pinned (OpenSpec.upto spaceOrderSpec)

/-- 'gloaminglaw6.SpaceFinds', WHERE WHAT IT READS IS OF BULK AT MOST 1048576: true; the input reads as it did. -/
def spaceFindsUptoRow : OpenClaim := { program := "ytpichhnihppicaa", sum := "b03aca08346fab4283548278b0852354cb51a0b0a1f49e27c34bac4050a48ba8", func := "gloaming/gloaminglaw6.SpaceFinds", spec := "spaceFinds", unfollowed := true, recurses := true, apart := false, narrowed := true }
def SpaceFindsUptoSaid : Prop := spaceFindsUptoRow.holds Try.pinned (OpenSpec.upto spaceFindsSpec)

/-- 'gloaminglaw6.SpaceLarge', WHERE WHAT IT READS IS OF BULK AT MOST 1048576: true; the input reads as it did. -/
def spaceLargeUptoRow : OpenClaim := { program := "ytpichhnihppicaa", sum := "b03aca08346fab4283548278b0852354cb51a0b0a1f49e27c34bac4050a48ba8", func := "gloaming/gloaminglaw6.SpaceLarge", spec := "spaceLarge", unfollowed := true, recurses := true, apart := false, narrowed := true }
def SpaceLargeUptoSaid : Prop := spaceLargeUptoRow.holds Try.pinned (OpenSpec.upto spaceLargeSpec)

/-- 'gloaminglaw6.SpaceGives', WHERE WHAT IT READS IS OF BULK AT MOST 1048576: true; the input reads as it did. -/
def spaceGivesUptoRow : OpenClaim := { program := "ytpichhnihppicaa", sum := "b03aca08346fab4283548278b0852354cb51a0b0a1f49e27c34bac4050a48ba8", func := "gloaming/gloaminglaw6.SpaceGives", spec := "spaceGives", unfollowed := true, recurses := true, apart := false, narrowed := true }
def SpaceGivesUptoSaid : Prop := spaceGivesUptoRow.holds Try.pinned (OpenSpec.upto spaceGivesSpec)

/-- 'gloaminglaw6.SpaceRefuses', WHERE WHAT IT READS IS OF BULK AT MOST 1048576: true; the input reads as it did. -/
def spaceRefusesUptoRow : OpenClaim := { program := "ytpichhnihppicaa", sum := "b03aca08346fab4283548278b0852354cb51a0b0a1f49e27c34bac4050a48ba8", func := "gloaming/gloaminglaw6.SpaceRefuses", spec := "spaceRefuses", unfollowed := true, recurses := true, apart := false, narrowed := true }
def SpaceRefusesUptoSaid : Prop := spaceRefusesUptoRow.holds Try.pinned (OpenSpec.upto spaceRefusesSpec)

/-- 'gloaminglaw6.SpaceApart', WHERE WHAT IT READS IS OF BULK AT MOST 1048576: true; the input reads as it did. -/
def spaceApartUptoRow : OpenClaim := { program := "ytpichhnihppicaa", sum := "b03aca08346fab4283548278b0852354cb51a0b0a1f49e27c34bac4050a48ba8", func := "gloaming/gloaminglaw6.SpaceApart", spec := "spaceApart", unfollowed := true, recurses := true, apart := false, narrowed := true }
def SpaceApartUptoSaid : Prop := spaceApartUptoRow.holds Try.pinned (OpenSpec.upto spaceApartSpec)

/-- 'gloaminglaw6.SpaceRuns', WHERE WHAT IT READS IS OF BULK AT MOST 1048576: true; the input reads as it did. -/
def spaceRunsUptoRow : OpenClaim := { program := "ytpichhnihppicaa", sum := "b03aca08346fab4283548278b0852354cb51a0b0a1f49e27c34bac4050a48ba8", func := "gloaming/gloaminglaw6.SpaceRuns", spec := "spaceRuns", unfollowed := true, recurses := true, apart := false, narrowed := true }
def SpaceRunsUptoSaid : Prop := spaceRunsUptoRow.holds Try.pinned (OpenSpec.upto spaceRunsSpec)

/-- 'gloaminglaw6.SpaceZeros', WHERE WHAT IT READS IS OF BULK AT MOST 1048576: true; the input reads as it did. -/
def spaceZerosUptoRow : OpenClaim := { program := "ytpichhnihppicaa", sum := "b03aca08346fab4283548278b0852354cb51a0b0a1f49e27c34bac4050a48ba8", func := "gloaming/gloaminglaw6.SpaceZeros", spec := "spaceZeros", unfollowed := true, recurses := true, apart := false, narrowed := true }
def SpaceZerosUptoSaid : Prop := spaceZerosUptoRow.holds Try.pinned (OpenSpec.upto spaceZerosSpec)

end Rows
end Go.Proofs.Ytpichhnihppicaa
