/-
  No cell of these rows narrows 'for every input' (looked for: loops, veiled, ifaces, maps, wideKeys, modest, calm, conditions, laid).
  DERIVED. THE GIVEN ROWS OF THIS SEAT. 3 by the template 'for every input the law returns true; each argument reads behind the call as it read before'; 0 by the template 'total and deterministic' (their statements: YtpkbdmieelgdlaaGreatTotals.lean).
  GIVEN WITH THE SEED: the statements are not yours to turn. If you find one false, say at which input.
  Laid BY PROGRAM, IN A SANDBOX (cutbox-rows.mjs): the forced cells as the released guide's own fill.sh prints them over the translation 1755e6b62afd212e… (all of the seat's roots in one cut). By AI agents, Wed Nov 11 2026. No macro, syntax, notation, axiom, sorry.
-/
import Derived.Test.YtpkbdmieelgdlaaGreatChecked
import GoSem.Claim
import GoSem.ClaimJoined
import GoSem.ClaimMapViews
import Derived.JoinedTies
import Derived.KernelRfl
namespace Go.Proofs.YtpkbdmieelgdlaaGreat
/- THE CELL 'sum', in the pinned program and in every row, IS THE sha256 OF THE DUMP (.gsa) THAT YtpkbdmieelgdlaaGreatProg.lean LOADS. Nothing in Lean hashes anything: it is a label: what it is worth is what the hold of that sum in a sandbox is worth. -/
noncomputable def Tryz.pinned : Pinned := { name := "ytpkbdmieelgdlaagreat", sum := "1755e6b62afd212e2c916bc010313f0146ea6d7abf50b5890fb50a89f9734e34", checked := Tryz.checked }
namespace Rows
def none {H : Type} : Left H := { results := [], args := [] }

/-- 'gloaminglaw15.FinalRuns': WHATEVER THE INPUT: true; the input reads as it did. -/
def finalRunsSpec : ChangeSpec := { name := "finalRuns", fn := fun _ => fun
  | [d1, d2] => { results := [.lit (.bool true)], args := [d1, d2] }
  | _ => none }
def finalRunsRow : OpenClaim := { program := "ytpkbdmieelgdlaagreat", sum := "1755e6b62afd212e2c916bc010313f0146ea6d7abf50b5890fb50a89f9734e34", func := "gloaming/gloaminglaw15.FinalRuns", spec := "finalRuns", unfollowed := true, recurses := true, apart := false }
def FinalRunsSaid : Prop := finalRunsRow.holds Tryz.pinned (OpenSpec.ofChange finalRunsSpec)

/-- ITS FALSE NEIGHBOUR: 'it returns false'. Refute it at one input. -/
def finalRunsWrong : ChangeSpec := { name := "finalRuns", fn := fun _ => fun
  | [d1, d2] => { results := [.lit (.bool false)], args := [d1, d2] }
  | _ => none }
def FinalRunsWrongFalsely : Prop := finalRunsRow.holds Tryz.pinned (OpenSpec.ofChange finalRunsWrong)

/-- 'gloaminglaw12.QueueRuns': WHATEVER THE INPUT: true; the input reads as it did. -/
def queueRunsSpec : ChangeSpec := { name := "queueRuns", fn := fun _ => fun
  | [d1, d2] => { results := [.lit (.bool true)], args := [d1, d2] }
  | _ => none }
def queueRunsRow : OpenClaim := { program := "ytpkbdmieelgdlaagreat", sum := "1755e6b62afd212e2c916bc010313f0146ea6d7abf50b5890fb50a89f9734e34", func := "gloaming/gloaminglaw12.QueueRuns", spec := "queueRuns", unfollowed := true, recurses := true, apart := false }
def QueueRunsSaid : Prop := queueRunsRow.holds Tryz.pinned (OpenSpec.ofChange queueRunsSpec)

/-- ITS FALSE NEIGHBOUR: 'it returns false'. Refute it at one input. -/
def queueRunsWrong : ChangeSpec := { name := "queueRuns", fn := fun _ => fun
  | [d1, d2] => { results := [.lit (.bool false)], args := [d1, d2] }
  | _ => none }
def QueueRunsWrongFalsely : Prop := queueRunsRow.holds Tryz.pinned (OpenSpec.ofChange queueRunsWrong)

/-- 'gloaminglaw13.RefRuns': WHATEVER THE INPUT: true; the input reads as it did. -/
def refRunsSpec : ChangeSpec := { name := "refRuns", fn := fun _ => fun
  | [d1, d2] => { results := [.lit (.bool true)], args := [d1, d2] }
  | _ => none }
def refRunsRow : OpenClaim := { program := "ytpkbdmieelgdlaagreat", sum := "1755e6b62afd212e2c916bc010313f0146ea6d7abf50b5890fb50a89f9734e34", func := "gloaming/gloaminglaw13.RefRuns", spec := "refRuns", unfollowed := true, recurses := true, apart := false }
def RefRunsSaid : Prop := refRunsRow.holds Tryz.pinned (OpenSpec.ofChange refRunsSpec)

/-- ITS FALSE NEIGHBOUR: 'it returns false'. Refute it at one input. -/
def refRunsWrong : ChangeSpec := { name := "refRuns", fn := fun _ => fun
  | [d1, d2] => { results := [.lit (.bool false)], args := [d1, d2] }
  | _ => none }
def RefRunsWrongFalsely : Prop := refRunsRow.holds Tryz.pinned (OpenSpec.ofChange refRunsWrong)

/- THE SECOND FORM. 'bulk': how many values and letters a reading holds, each counted each time it is reached (what is shared counts as often as it is met; a slice's spare places count too). A statement '..UptoSaid' is the law's where the arguments, and the package variables that the reading takes, are together of bulk at most 1048576: NARROWER than '..Said'. Prove '..Said' where nothing that the law and all that it calls make is longer than what came in: it says more and counts as full. Else prove '..UptoSaid'. A law counts once. -/
mutual
def uptoBulk {H : Type} : DataW H → Nat
  | .lit (.string bytes) => bytes.length + 1
  | .lit _ => 1
  | .nil => 1
  | .ptr d => uptoBulk d + 1
  | .slice elems spare => uptoBulkAll elems + uptoBulkAll spare + 1
  | .agg parts => uptoBulkAll parts + 1
  | .iface _ d => uptoBulk d + 1
  | .map entries => uptoBulkEntries entries + 1
  | .held _ => 1
def uptoBulkAll {H : Type} : List (DataW H) → Nat
  | [] => 0
  | d :: r => uptoBulk d + uptoBulkAll r
def uptoBulkEntries {H : Type} : List (Lit × DataW H) → Nat
  | [] => 0
  | x :: r => uptoBulkEntry x + uptoBulkEntries r
def uptoBulkEntry {H : Type} : Lit × DataW H → Nat
  | (.string bytes, d) => bytes.length + uptoBulk d + 1
  | (_, d) => uptoBulk d + 1
 end
def uptoSmall : (H : Type) → List (DataW H) → Bool := fun _ ds => decide (uptoBulkAll ds ≤ 1048576)
def OpenSpec.upto (s : _root_.Go.ChangeSpec) : _root_.Go.OpenSpec := { _root_.Go.OpenSpec.ofChange s with cond := some uptoSmall }

/-- 'gloaminglaw15.FinalRuns', WHERE WHAT IT READS IS OF BULK AT MOST 1048576: true; the input reads as it did. -/
def finalRunsUptoRow : OpenClaim := { program := "ytpkbdmieelgdlaagreat", sum := "1755e6b62afd212e2c916bc010313f0146ea6d7abf50b5890fb50a89f9734e34", func := "gloaming/gloaminglaw15.FinalRuns", spec := "finalRuns", unfollowed := true, recurses := true, apart := false, narrowed := true }
def FinalRunsUptoSaid : Prop := finalRunsUptoRow.holds Tryz.pinned (OpenSpec.upto finalRunsSpec)

/-- 'gloaminglaw12.QueueRuns', WHERE WHAT IT READS IS OF BULK AT MOST 1048576: true; the input reads as it did. -/
def queueRunsUptoRow : OpenClaim := { program := "ytpkbdmieelgdlaagreat", sum := "1755e6b62afd212e2c916bc010313f0146ea6d7abf50b5890fb50a89f9734e34", func := "gloaming/gloaminglaw12.QueueRuns", spec := "queueRuns", unfollowed := true, recurses := true, apart := false, narrowed := true }
def QueueRunsUptoSaid : Prop := queueRunsUptoRow.holds Tryz.pinned (OpenSpec.upto queueRunsSpec)

/-- 'gloaminglaw13.RefRuns', WHERE WHAT IT READS IS OF BULK AT MOST 1048576: true; the input reads as it did. -/
def refRunsUptoRow : OpenClaim := { program := "ytpkbdmieelgdlaagreat", sum := "1755e6b62afd212e2c916bc010313f0146ea6d7abf50b5890fb50a89f9734e34", func := "gloaming/gloaminglaw13.RefRuns", spec := "refRuns", unfollowed := true, recurses := true, apart := false, narrowed := true }
def RefRunsUptoSaid : Prop := refRunsUptoRow.holds Tryz.pinned (OpenSpec.upto refRunsSpec)

end Rows
end Go.Proofs.YtpkbdmieelgdlaaGreat
