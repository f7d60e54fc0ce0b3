/-
  No cell of these rows narrows 'for every input' (looked for: loops, veiled, ifaces, maps, wideKeys, modest, calm, conditions, laid).
  DERIVED. THE GIVEN ROWS OF THIS SEAT. 8 by the template 'for every input the law returns true; each argument reads behind the call as it read before'; 0 by the template 'total and deterministic' (their statements: YtnhgmmjlhhgdoaaTotals.lean).
  GIVEN WITH THE SEED: the statements are not yours to turn. If you find one false, say at which input.
  Laid BY PROGRAM, IN A SANDBOX (cutbox-rows.mjs): the forced cells as the released guide's own fill.sh prints them over the translation 58529bfdd8b11eee… (all of the seat's roots in one cut). By AI agents, Wed Nov 11 2026. No macro, syntax, notation, axiom, sorry.
-/
import Derived.Test.YtnhgmmjlhhgdoaaChecked
import GoSem.Claim
import GoSem.ClaimJoined
import GoSem.ClaimMapViews
import Derived.JoinedTies
import Derived.KernelRfl
namespace Go.Proofs.Ytnhgmmjlhhgdoaa
/- THE CELL 'sum', in the pinned program and in every row, IS THE sha256 OF THE DUMP (.gsa) THAT YtnhgmmjlhhgdoaaProg.lean LOADS. Nothing in Lean hashes anything: it is a label: what it is worth is what the hold of that sum in a sandbox is worth. -/
noncomputable def Try.pinned : Pinned := { name := "ytnhgmmjlhhgdoaa", sum := "58529bfdd8b11eee8f892964ed64366fa6f99607cc1c7a4b9d611249a7dc9f24", checked := Try.checked }
namespace Rows
def none {H : Type} : Left H := { results := [], args := [] }

/-- 'gloaminglaw4.SizeEdges': WHATEVER THE INPUT: true; the input reads as it did. -/
def sizeEdgesSpec : ChangeSpec := { name := "sizeEdges", fn := fun _ => fun
  | [d] => { results := [.lit (.bool true)], args := [d] }
  | _ => none }
def sizeEdgesRow : OpenClaim := { program := "ytnhgmmjlhhgdoaa", sum := "58529bfdd8b11eee8f892964ed64366fa6f99607cc1c7a4b9d611249a7dc9f24", func := "gloaming/gloaminglaw4.SizeEdges", spec := "sizeEdges", apart := false }
def SizeEdgesSaid : Prop := sizeEdgesRow.holds Try.pinned (OpenSpec.ofChange sizeEdgesSpec)

/-- ITS FALSE NEIGHBOUR: 'it returns false'. Refute it at one input. -/
def sizeEdgesWrong : ChangeSpec := { name := "sizeEdges", fn := fun _ => fun
  | [d] => { results := [.lit (.bool false)], args := [d] }
  | _ => none }
def SizeEdgesWrongFalsely : Prop := sizeEdgesRow.holds Try.pinned (OpenSpec.ofChange sizeEdgesWrong)

/-- 'gloaminglaw23.AuditAll': WHATEVER THE INPUT: true; the input reads as it did. -/
def auditAllSpec : ChangeSpec := { name := "auditAll", fn := fun _ => fun
  | [d] => { results := [.lit (.bool true)], args := [d] }
  | _ => none }
def auditAllRow : OpenClaim := { program := "ytnhgmmjlhhgdoaa", sum := "58529bfdd8b11eee8f892964ed64366fa6f99607cc1c7a4b9d611249a7dc9f24", func := "gloaming/gloaminglaw23.AuditAll", spec := "auditAll", unfollowed := true, recurses := true, apart := false }
def AuditAllSaid : Prop := auditAllRow.holds Try.pinned (OpenSpec.ofChange auditAllSpec)

/-- ITS FALSE NEIGHBOUR: 'it returns false'. Refute it at one input. -/
def auditAllWrong : ChangeSpec := { name := "auditAll", fn := fun _ => fun
  | [d] => { results := [.lit (.bool false)], args := [d] }
  | _ => none }
def AuditAllWrongFalsely : Prop := auditAllRow.holds Try.pinned (OpenSpec.ofChange auditAllWrong)

/-- 'gloaminglaw23.AuditRules': WHATEVER THE INPUT: true; the input reads as it did. -/
def auditRulesSpec : ChangeSpec := { name := "auditRules", fn := fun _ => fun
  | [d] => { results := [.lit (.bool true)], args := [d] }
  | _ => none }
def auditRulesRow : OpenClaim := { program := "ytnhgmmjlhhgdoaa", sum := "58529bfdd8b11eee8f892964ed64366fa6f99607cc1c7a4b9d611249a7dc9f24", func := "gloaming/gloaminglaw23.AuditRules", spec := "auditRules", unfollowed := true, recurses := true, apart := false }
def AuditRulesSaid : Prop := auditRulesRow.holds Try.pinned (OpenSpec.ofChange auditRulesSpec)

/-- ITS FALSE NEIGHBOUR: 'it returns false'. Refute it at one input. -/
def auditRulesWrong : ChangeSpec := { name := "auditRules", fn := fun _ => fun
  | [d] => { results := [.lit (.bool false)], args := [d] }
  | _ => none }
def AuditRulesWrongFalsely : Prop := auditRulesRow.holds Try.pinned (OpenSpec.ofChange auditRulesWrong)

/-- 'gloaminglaw23.AuditFirst': WHATEVER THE INPUT: true; the input reads as it did. -/
def auditFirstSpec : ChangeSpec := { name := "auditFirst", fn := fun _ => fun
  | [d1, d2] => { results := [.lit (.bool true)], args := [d1, d2] }
  | _ => none }
def auditFirstRow : OpenClaim := { program := "ytnhgmmjlhhgdoaa", sum := "58529bfdd8b11eee8f892964ed64366fa6f99607cc1c7a4b9d611249a7dc9f24", func := "gloaming/gloaminglaw23.AuditFirst", spec := "auditFirst", unfollowed := true, recurses := true, apart := false }
def AuditFirstSaid : Prop := auditFirstRow.holds Try.pinned (OpenSpec.ofChange auditFirstSpec)

/-- ITS FALSE NEIGHBOUR: 'it returns false'. Refute it at one input. -/
def auditFirstWrong : ChangeSpec := { name := "auditFirst", fn := fun _ => fun
  | [d1, d2] => { results := [.lit (.bool false)], args := [d1, d2] }
  | _ => none }
def AuditFirstWrongFalsely : Prop := auditFirstRow.holds Try.pinned (OpenSpec.ofChange auditFirstWrong)

/-- 'gloaminglaw11.RootMerges': WHATEVER THE INPUT: true; the input reads as it did. -/
def rootMergesSpec : ChangeSpec := { name := "rootMerges", fn := fun _ => fun
  | [d1, d2, d3] => { results := [.lit (.bool true)], args := [d1, d2, d3] }
  | _ => none }
def rootMergesRow : OpenClaim := { program := "ytnhgmmjlhhgdoaa", sum := "58529bfdd8b11eee8f892964ed64366fa6f99607cc1c7a4b9d611249a7dc9f24", func := "gloaming/gloaminglaw11.RootMerges", spec := "rootMerges", unfollowed := true, recurses := true, apart := false }
def RootMergesSaid : Prop := rootMergesRow.holds Try.pinned (OpenSpec.ofChange rootMergesSpec)

/-- ITS FALSE NEIGHBOUR: 'it returns false'. Refute it at one input. -/
def rootMergesWrong : ChangeSpec := { name := "rootMerges", fn := fun _ => fun
  | [d1, d2, d3] => { results := [.lit (.bool false)], args := [d1, d2, d3] }
  | _ => none }
def RootMergesWrongFalsely : Prop := rootMergesRow.holds Try.pinned (OpenSpec.ofChange rootMergesWrong)

/-- 'gloaminglaw11.RootRises': WHATEVER THE INPUT: true; the input reads as it did. -/
def rootRisesSpec : ChangeSpec := { name := "rootRises", fn := fun _ => fun
  | [d] => { results := [.lit (.bool true)], args := [d] }
  | _ => none }
def rootRisesRow : OpenClaim := { program := "ytnhgmmjlhhgdoaa", sum := "58529bfdd8b11eee8f892964ed64366fa6f99607cc1c7a4b9d611249a7dc9f24", func := "gloaming/gloaminglaw11.RootRises", spec := "rootRises", unfollowed := true, recurses := true, apart := false }
def RootRisesSaid : Prop := rootRisesRow.holds Try.pinned (OpenSpec.ofChange rootRisesSpec)

/-- ITS FALSE NEIGHBOUR: 'it returns false'. Refute it at one input. -/
def rootRisesWrong : ChangeSpec := { name := "rootRises", fn := fun _ => fun
  | [d] => { results := [.lit (.bool false)], args := [d] }
  | _ => none }
def RootRisesWrongFalsely : Prop := rootRisesRow.holds Try.pinned (OpenSpec.ofChange rootRisesWrong)

/-- 'gloaminglaw11.RootRuns': WHATEVER THE INPUT: true; the input reads as it did. -/
def rootRunsSpec : ChangeSpec := { name := "rootRuns", fn := fun _ => fun
  | [d1, d2] => { results := [.lit (.bool true)], args := [d1, d2] }
  | _ => none }
def rootRunsRow : OpenClaim := { program := "ytnhgmmjlhhgdoaa", sum := "58529bfdd8b11eee8f892964ed64366fa6f99607cc1c7a4b9d611249a7dc9f24", func := "gloaming/gloaminglaw11.RootRuns", spec := "rootRuns", unfollowed := true, recurses := true, apart := false }
def RootRunsSaid : Prop := rootRunsRow.holds Try.pinned (OpenSpec.ofChange rootRunsSpec)

/-- ITS FALSE NEIGHBOUR: 'it returns false'. Refute it at one input. -/
def rootRunsWrong : ChangeSpec := { name := "rootRuns", fn := fun _ => fun
  | [d1, d2] => { results := [.lit (.bool false)], args := [d1, d2] }
  | _ => none }
def RootRunsWrongFalsely : Prop := rootRunsRow.holds Try.pinned (OpenSpec.ofChange rootRunsWrong)

/-- 'gloaminglaw11.RootTwo': WHATEVER THE INPUT: true; the input reads as it did. -/
def rootTwoSpec : ChangeSpec := { name := "rootTwo", fn := fun _ => fun
  | [d1, d2, d3] => { results := [.lit (.bool true)], args := [d1, d2, d3] }
  | _ => none }
def rootTwoRow : OpenClaim := { program := "ytnhgmmjlhhgdoaa", sum := "58529bfdd8b11eee8f892964ed64366fa6f99607cc1c7a4b9d611249a7dc9f24", func := "gloaming/gloaminglaw11.RootTwo", spec := "rootTwo", unfollowed := true, recurses := true, apart := false }
def RootTwoSaid : Prop := rootTwoRow.holds Try.pinned (OpenSpec.ofChange rootTwoSpec)

/-- ITS FALSE NEIGHBOUR: 'it returns false'. Refute it at one input. -/
def rootTwoWrong : ChangeSpec := { name := "rootTwo", fn := fun _ => fun
  | [d1, d2, d3] => { results := [.lit (.bool false)], args := [d1, d2, d3] }
  | _ => none }
def RootTwoWrongFalsely : Prop := rootTwoRow.holds Try.pinned (OpenSpec.ofChange rootTwoWrong)

/- THE SECOND FORM. 'bulk': how many values and letters a reading holds, each counted each time it is reached (what is shared counts as often as it is met; a slice's spare places count too). A statement '..UptoSaid' is the law's where the arguments, and the package variables that the reading takes, are together of bulk at most 1048576: NARROWER than '..Said'. Prove '..Said' where nothing that the law and all that it calls make is longer than what came in: it says more and counts as full. Else prove '..UptoSaid'. A law counts once. -/
mutual
def uptoBulk {H : Type} : DataW H → Nat
  | .lit (.string bytes) => bytes.length + 1
  | .lit _ => 1
  | .nil => 1
  | .ptr d => uptoBulk d + 1
  | .slice elems spare => uptoBulkAll elems + uptoBulkAll spare + 1
  | .agg parts => uptoBulkAll parts + 1
  | .iface _ d => uptoBulk d + 1
  | .map entries => uptoBulkEntries entries + 1
  | .held _ => 1
def uptoBulkAll {H : Type} : List (DataW H) → Nat
  | [] => 0
  | d :: r => uptoBulk d + uptoBulkAll r
def uptoBulkEntries {H : Type} : List (Lit × DataW H) → Nat
  | [] => 0
  | x :: r => uptoBulkEntry x + uptoBulkEntries r
def uptoBulkEntry {H : Type} : Lit × DataW H → Nat
  | (.string bytes, d) => bytes.length + uptoBulk d + 1
  | (_, d) => uptoBulk d + 1
 end
def uptoSmall : (H : Type) → List (DataW H) → Bool := fun _ ds => decide (uptoBulkAll ds ≤ 1048576)
def OpenSpec.upto (s : _root_.Go.ChangeSpec) : _root_.Go.OpenSpec := { _root_.Go.OpenSpec.ofChange s with cond := some uptoSmall }

/-- 'gloaminglaw4.SizeEdges', WHERE WHAT IT READS IS OF BULK AT MOST 1048576: true; the input reads as it did. -/
def sizeEdgesUptoRow : OpenClaim := { program := "ytnhgmmjlhhgdoaa", sum := "58529bfdd8b11eee8f892964ed64366fa6f99607cc1c7a4b9d611249a7dc9f24", func := "gloaming/gloaminglaw4.SizeEdges", spec := "sizeEdges", apart := false, narrowed := true }
def SizeEdgesUptoSaid : Prop := sizeEdgesUptoRow.holds Try.pinned (OpenSpec.upto sizeEdgesSpec)

/-- 'gloaminglaw23.AuditAll', WHERE WHAT IT READS IS OF BULK AT MOST 1048576: true; the input reads as it did. -/
def auditAllUptoRow : OpenClaim := { program := "ytnhgmmjlhhgdoaa", sum := "58529bfdd8b11eee8f892964ed64366fa6f99607cc1c7a4b9d611249a7dc9f24", func := "gloaming/gloaminglaw23.AuditAll", spec := "auditAll", unfollowed := true, recurses := true, apart := false, narrowed := true }
def AuditAllUptoSaid : Prop := auditAllUptoRow.holds Try.pinned (OpenSpec.upto auditAllSpec)

/-- 'gloaminglaw23.AuditRules', WHERE WHAT IT READS IS OF BULK AT MOST 1048576: true; the input reads as it did. -/
def auditRulesUptoRow : OpenClaim := { program := "ytnhgmmjlhhgdoaa", sum := "58529bfdd8b11eee8f892964ed64366fa6f99607cc1c7a4b9d611249a7dc9f24", func := "gloaming/gloaminglaw23.AuditRules", spec := "auditRules", unfollowed := true, recurses := true, apart := false, narrowed := true }
def AuditRulesUptoSaid : Prop := auditRulesUptoRow.holds Try.pinned (OpenSpec.upto auditRulesSpec)

/-- 'gloaminglaw23.AuditFirst', WHERE WHAT IT READS IS OF BULK AT MOST 1048576: true; the input reads as it did. -/
def auditFirstUptoRow : OpenClaim := { program := "ytnhgmmjlhhgdoaa", sum := "58529bfdd8b11eee8f892964ed64366fa6f99607cc1c7a4b9d611249a7dc9f24", func := "gloaming/gloaminglaw23.AuditFirst", spec := "auditFirst", unfollowed := true, recurses := true, apart := false, narrowed := true }
def AuditFirstUptoSaid : Prop := auditFirstUptoRow.holds Try.pinned (OpenSpec.upto auditFirstSpec)

/-- 'gloaminglaw11.RootMerges', WHERE WHAT IT READS IS OF BULK AT MOST 1048576: true; the input reads as it did. -/
def rootMergesUptoRow : OpenClaim := { program := "ytnhgmmjlhhgdoaa", sum := "58529bfdd8b11eee8f892964ed64366fa6f99607cc1c7a4b9d611249a7dc9f24", func := "gloaming/gloaminglaw11.RootMerges", spec := "rootMerges", unfollowed := true, recurses := true, apart := false, narrowed := true }
def RootMergesUptoSaid : Prop := rootMergesUptoRow.holds Try.pinned (OpenSpec.upto rootMergesSpec)

/-- 'gloaminglaw11.RootRises', WHERE WHAT IT READS IS OF BULK AT MOST 1048576: true; the input reads as it did. -/
def rootRisesUptoRow : OpenClaim := { program := "ytnhgmmjlhhgdoaa", sum := "58529bfdd8b11eee8f892964ed64366fa6f99607cc1c7a4b9d611249a7dc9f24", func := "gloaming/gloaminglaw11.RootRises", spec := "rootRises", unfollowed := true, recurses := true, apart := false, narrowed := true }
def RootRisesUptoSaid : Prop := rootRisesUptoRow.holds Try.pinned (OpenSpec.upto rootRisesSpec)

/-- 'gloaminglaw11.RootRuns', WHERE WHAT IT READS IS OF BULK AT MOST 1048576: true; the input reads as it did. -/
def rootRunsUptoRow : OpenClaim := { program := "ytnhgmmjlhhgdoaa", sum := "58529bfdd8b11eee8f892964ed64366fa6f99607cc1c7a4b9d611249a7dc9f24", func := "gloaming/gloaminglaw11.RootRuns", spec := "rootRuns", unfollowed := true, recurses := true, apart := false, narrowed := true }
def RootRunsUptoSaid : Prop := rootRunsUptoRow.holds Try.pinned (OpenSpec.upto rootRunsSpec)

/-- 'gloaminglaw11.RootTwo', WHERE WHAT IT READS IS OF BULK AT MOST 1048576: true; the input reads as it did. -/
def rootTwoUptoRow : OpenClaim := { program := "ytnhgmmjlhhgdoaa", sum := "58529bfdd8b11eee8f892964ed64366fa6f99607cc1c7a4b9d611249a7dc9f24", func := "gloaming/gloaminglaw11.RootTwo", spec := "rootTwo", unfollowed := true, recurses := true, apart := false, narrowed := true }
def RootTwoUptoSaid : Prop := rootTwoUptoRow.holds Try.pinned (OpenSpec.upto rootTwoSpec)

end Rows
end Go.Proofs.Ytnhgmmjlhhgdoaa
