/-
  No cell of these rows narrows 'for every input' (looked for: loops, veiled, ifaces, maps, wideKeys, modest, calm, conditions, laid).
  DERIVED. THE GIVEN ROWS OF THIS SEAT. 9 by the template 'for every input the law returns true; each argument reads behind the call as it read before'; 0 by the template 'total and deterministic' (their statements: YtgjcidhjonhamaaTotals.lean).
  GIVEN WITH THE SEED: the statements are not yours to turn. If you find one false, say at which input.
  Laid BY PROGRAM, IN A SANDBOX (cutbox-rows.mjs): the forced cells as the released guide's own fill.sh prints them over the translation dcf2db4edc250508… (all of the seat's roots in one cut). By AI agents, Wed Nov 11 2026. No macro, syntax, notation, axiom, sorry.
-/
import Derived.Test.YtgjcidhjonhamaaChecked
import GoSem.Claim
import GoSem.ClaimJoined
import GoSem.ClaimMapViews
import Derived.JoinedTies
import Derived.KernelRfl
namespace Go.Proofs.Ytgjcidhjonhamaa
/- THE CELL 'sum', in the pinned program and in every row, IS THE sha256 OF THE DUMP (.gsa) THAT YtgjcidhjonhamaaProg.lean LOADS. Nothing in Lean hashes anything: it is a label: what it is worth is what the hold of that sum in a sandbox is worth. -/
noncomputable def Try.pinned : Pinned := { name := "ytgjcidhjonhamaa", sum := "dcf2db4edc2505087011438958daeda3e76377f8a331faa5fe4121db40adfbed", checked := Try.checked }
namespace Rows
def none {H : Type} : Left H := { results := [], args := [] }

/-- 'gloaminglaw4.SizeFits': WHATEVER THE INPUT: true; the input reads as it did. -/
def sizeFitsSpec : ChangeSpec := { name := "sizeFits", fn := fun _ => fun
  | [d] => { results := [.lit (.bool true)], args := [d] }
  | _ => none }
def sizeFitsRow : OpenClaim := { program := "ytgjcidhjonhamaa", sum := "dcf2db4edc2505087011438958daeda3e76377f8a331faa5fe4121db40adfbed", func := "gloaming/gloaminglaw4.SizeFits", spec := "sizeFits", apart := false }
def SizeFitsSaid : Prop := sizeFitsRow.holds Try.pinned (OpenSpec.ofChange sizeFitsSpec)

/-- ITS FALSE NEIGHBOUR: 'it returns false'. Refute it at one input. -/
def sizeFitsWrong : ChangeSpec := { name := "sizeFits", fn := fun _ => fun
  | [d] => { results := [.lit (.bool false)], args := [d] }
  | _ => none }
def SizeFitsWrongFalsely : Prop := sizeFitsRow.holds Try.pinned (OpenSpec.ofChange sizeFitsWrong)

/-- 'gloaminglaw4.SizeEdges': WHATEVER THE INPUT: true; the input reads as it did. -/
def sizeEdgesSpec : ChangeSpec := { name := "sizeEdges", fn := fun _ => fun
  | [d] => { results := [.lit (.bool true)], args := [d] }
  | _ => none }
def sizeEdgesRow : OpenClaim := { program := "ytgjcidhjonhamaa", sum := "dcf2db4edc2505087011438958daeda3e76377f8a331faa5fe4121db40adfbed", func := "gloaming/gloaminglaw4.SizeEdges", spec := "sizeEdges", apart := false }
def SizeEdgesSaid : Prop := sizeEdgesRow.holds Try.pinned (OpenSpec.ofChange sizeEdgesSpec)

/-- ITS FALSE NEIGHBOUR: 'it returns false'. Refute it at one input. -/
def sizeEdgesWrong : ChangeSpec := { name := "sizeEdges", fn := fun _ => fun
  | [d] => { results := [.lit (.bool false)], args := [d] }
  | _ => none }
def SizeEdgesWrongFalsely : Prop := sizeEdgesRow.holds Try.pinned (OpenSpec.ofChange sizeEdgesWrong)

/-- 'gloaminglaw4.SizeAll': WHATEVER THE INPUT: true; the input reads as it did. -/
def sizeAllSpec : ChangeSpec := { name := "sizeAll", fn := fun _ => fun
  | [d1, d2] => { results := [.lit (.bool true)], args := [d1, d2] }
  | _ => none }
def sizeAllRow : OpenClaim := { program := "ytgjcidhjonhamaa", sum := "dcf2db4edc2505087011438958daeda3e76377f8a331faa5fe4121db40adfbed", func := "gloaming/gloaminglaw4.SizeAll", spec := "sizeAll", apart := false }
def SizeAllSaid : Prop := sizeAllRow.holds Try.pinned (OpenSpec.ofChange sizeAllSpec)

/-- ITS FALSE NEIGHBOUR: 'it returns false'. Refute it at one input. -/
def sizeAllWrong : ChangeSpec := { name := "sizeAll", fn := fun _ => fun
  | [d1, d2] => { results := [.lit (.bool false)], args := [d1, d2] }
  | _ => none }
def SizeAllWrongFalsely : Prop := sizeAllRow.holds Try.pinned (OpenSpec.ofChange sizeAllWrong)

/-- 'gloaminglaw4.SizeSums': WHATEVER THE INPUT: true; the input reads as it did. -/
def sizeSumsSpec : ChangeSpec := { name := "sizeSums", fn := fun _ => fun
  | [d1, d2] => { results := [.lit (.bool true)], args := [d1, d2] }
  | _ => none }
def sizeSumsRow : OpenClaim := { program := "ytgjcidhjonhamaa", sum := "dcf2db4edc2505087011438958daeda3e76377f8a331faa5fe4121db40adfbed", func := "gloaming/gloaminglaw4.SizeSums", spec := "sizeSums", apart := false }
def SizeSumsSaid : Prop := sizeSumsRow.holds Try.pinned (OpenSpec.ofChange sizeSumsSpec)

/-- ITS FALSE NEIGHBOUR: 'it returns false'. Refute it at one input. -/
def sizeSumsWrong : ChangeSpec := { name := "sizeSums", fn := fun _ => fun
  | [d1, d2] => { results := [.lit (.bool false)], args := [d1, d2] }
  | _ => none }
def SizeSumsWrongFalsely : Prop := sizeSumsRow.holds Try.pinned (OpenSpec.ofChange sizeSumsWrong)

/-- 'gloaminglaw8.HeadAll': WHATEVER THE INPUT: true; the input reads as it did. -/
def headAllSpec : ChangeSpec := { name := "headAll", fn := fun _ => fun
  | [d1, d2] => { results := [.lit (.bool true)], args := [d1, d2] }
  | _ => none }
def headAllRow : OpenClaim := { program := "ytgjcidhjonhamaa", sum := "dcf2db4edc2505087011438958daeda3e76377f8a331faa5fe4121db40adfbed", func := "gloaming/gloaminglaw8.HeadAll", spec := "headAll", apart := false }
def HeadAllSaid : Prop := headAllRow.holds Try.pinned (OpenSpec.ofChange headAllSpec)

/-- ITS FALSE NEIGHBOUR: 'it returns false'. Refute it at one input. -/
def headAllWrong : ChangeSpec := { name := "headAll", fn := fun _ => fun
  | [d1, d2] => { results := [.lit (.bool false)], args := [d1, d2] }
  | _ => none }
def HeadAllWrongFalsely : Prop := headAllRow.holds Try.pinned (OpenSpec.ofChange headAllWrong)

/-- 'gloaminglaw8.HeadBack': WHATEVER THE INPUT: true; the input reads as it did. -/
def headBackSpec : ChangeSpec := { name := "headBack", fn := fun _ => fun
  | [d1, d2, d3, d4, d5] => { results := [.lit (.bool true)], args := [d1, d2, d3, d4, d5] }
  | _ => none }
def headBackRow : OpenClaim := { program := "ytgjcidhjonhamaa", sum := "dcf2db4edc2505087011438958daeda3e76377f8a331faa5fe4121db40adfbed", func := "gloaming/gloaminglaw8.HeadBack", spec := "headBack", apart := false }
def HeadBackSaid : Prop := headBackRow.holds Try.pinned (OpenSpec.ofChange headBackSpec)

/-- ITS FALSE NEIGHBOUR: 'it returns false'. Refute it at one input. -/
def headBackWrong : ChangeSpec := { name := "headBack", fn := fun _ => fun
  | [d1, d2, d3, d4, d5] => { results := [.lit (.bool false)], args := [d1, d2, d3, d4, d5] }
  | _ => none }
def HeadBackWrongFalsely : Prop := headBackRow.holds Try.pinned (OpenSpec.ofChange headBackWrong)

/-- 'gloaminglaw8.HeadRefuses': WHATEVER THE INPUT: true; the input reads as it did. -/
def headRefusesSpec : ChangeSpec := { name := "headRefuses", fn := fun _ => fun
  | [d1, d2] => { results := [.lit (.bool true)], args := [d1, d2] }
  | _ => none }
def headRefusesRow : OpenClaim := { program := "ytgjcidhjonhamaa", sum := "dcf2db4edc2505087011438958daeda3e76377f8a331faa5fe4121db40adfbed", func := "gloaming/gloaminglaw8.HeadRefuses", spec := "headRefuses", apart := false }
def HeadRefusesSaid : Prop := headRefusesRow.holds Try.pinned (OpenSpec.ofChange headRefusesSpec)

/-- ITS FALSE NEIGHBOUR: 'it returns false'. Refute it at one input. -/
def headRefusesWrong : ChangeSpec := { name := "headRefuses", fn := fun _ => fun
  | [d1, d2] => { results := [.lit (.bool false)], args := [d1, d2] }
  | _ => none }
def HeadRefusesWrongFalsely : Prop := headRefusesRow.holds Try.pinned (OpenSpec.ofChange headRefusesWrong)

/-- 'gloaminglaw8.HeadTwo': WHATEVER THE INPUT: true; the input reads as it did. -/
def headTwoSpec : ChangeSpec := { name := "headTwo", fn := fun _ => fun
  | [d1, d2] => { results := [.lit (.bool true)], args := [d1, d2] }
  | _ => none }
def headTwoRow : OpenClaim := { program := "ytgjcidhjonhamaa", sum := "dcf2db4edc2505087011438958daeda3e76377f8a331faa5fe4121db40adfbed", func := "gloaming/gloaminglaw8.HeadTwo", spec := "headTwo", apart := false }
def HeadTwoSaid : Prop := headTwoRow.holds Try.pinned (OpenSpec.ofChange headTwoSpec)

/-- ITS FALSE NEIGHBOUR: 'it returns false'. Refute it at one input. -/
def headTwoWrong : ChangeSpec := { name := "headTwo", fn := fun _ => fun
  | [d1, d2] => { results := [.lit (.bool false)], args := [d1, d2] }
  | _ => none }
def HeadTwoWrongFalsely : Prop := headTwoRow.holds Try.pinned (OpenSpec.ofChange headTwoWrong)

/-- 'gloaminglaw8.HeadKnown': WHATEVER THE INPUT: true; the input reads as it did. -/
def headKnownSpec : ChangeSpec := { name := "headKnown", fn := fun _ => fun
  | [d] => { results := [.lit (.bool true)], args := [d] }
  | _ => none }
def headKnownRow : OpenClaim := { program := "ytgjcidhjonhamaa", sum := "dcf2db4edc2505087011438958daeda3e76377f8a331faa5fe4121db40adfbed", func := "gloaming/gloaminglaw8.HeadKnown", spec := "headKnown", apart := false }
def HeadKnownSaid : Prop := headKnownRow.holds Try.pinned (OpenSpec.ofChange headKnownSpec)

/-- ITS FALSE NEIGHBOUR: 'it returns false'. Refute it at one input. -/
def headKnownWrong : ChangeSpec := { name := "headKnown", fn := fun _ => fun
  | [d] => { results := [.lit (.bool false)], args := [d] }
  | _ => none }
def HeadKnownWrongFalsely : Prop := headKnownRow.holds Try.pinned (OpenSpec.ofChange headKnownWrong)

/- THE SECOND FORM. 'bulk': how many values and letters a reading holds, each counted each time it is reached (what is shared counts as often as it is met; a slice's spare places count too). A statement '..UptoSaid' is the law's where the arguments, and the package variables that the reading takes, are together of bulk at most 1048576: NARROWER than '..Said'. Prove '..Said' where nothing that the law and all that it calls make is longer than what came in: it says more and counts as full. Else prove '..UptoSaid'. A law counts once. -/
mutual
def uptoBulk {H : Type} : DataW H → Nat
  | .lit (.string bytes) => bytes.length + 1
  | .lit _ => 1
  | .nil => 1
  | .ptr d => uptoBulk d + 1
  | .slice elems spare => uptoBulkAll elems + uptoBulkAll spare + 1
  | .agg parts => uptoBulkAll parts + 1
  | .iface _ d => uptoBulk d + 1
  | .map entries => uptoBulkEntries entries + 1
  | .held _ => 1
def uptoBulkAll {H : Type} : List (DataW H) → Nat
  | [] => 0
  | d :: r => uptoBulk d + uptoBulkAll r
def uptoBulkEntries {H : Type} : List (Lit × DataW H) → Nat
  | [] => 0
  | x :: r => uptoBulkEntry x + uptoBulkEntries r
def uptoBulkEntry {H : Type} : Lit × DataW H → Nat
  | (.string bytes, d) => bytes.length + uptoBulk d + 1
  | (_, d) => uptoBulk d + 1
 end
def uptoSmall : (H : Type) → List (DataW H) → Bool := fun _ ds => decide (uptoBulkAll ds ≤ 1048576)
def OpenSpec.upto (s : _root_.Go.ChangeSpec) : _root_.Go.OpenSpec := { _root_.Go.OpenSpec.ofChange s with cond := some uptoSmall }

/-- 'gloaminglaw4.SizeFits', WHERE WHAT IT READS IS OF BULK AT MOST 1048576: true; the input reads as it did. -/
def sizeFitsUptoRow : OpenClaim := { program := "ytgjcidhjonhamaa", sum := "dcf2db4edc2505087011438958daeda3e76377f8a331faa5fe4121db40adfbed", func := "gloaming/gloaminglaw4.SizeFits", spec := "sizeFits", apart := false, narrowed := true }
def SizeFitsUptoSaid : Prop := sizeFitsUptoRow.holds Try.pinned (OpenSpec.upto sizeFitsSpec)

/-- 'gloaminglaw4.SizeEdges', WHERE WHAT IT READS IS OF BULK AT MOST 1048576: true; the input reads as it did. -/
def sizeEdgesUptoRow : OpenClaim := { program := "ytgjcidhjonhamaa", sum := "dcf2db4edc2505087011438958daeda3e76377f8a331faa5fe4121db40adfbed", func := "gloaming/gloaminglaw4.SizeEdges", spec := "sizeEdges", apart := false, narrowed := true }
def SizeEdgesUptoSaid : Prop := sizeEdgesUptoRow.holds Try.pinned (OpenSpec.upto sizeEdgesSpec)

/-- 'gloaminglaw4.SizeAll', WHERE WHAT IT READS IS OF BULK AT MOST 1048576: true; the input reads as it did. -/
def sizeAllUptoRow : OpenClaim := { program := "ytgjcidhjonhamaa", sum := "dcf2db4edc2505087011438958daeda3e76377f8a331faa5fe4121db40adfbed", func := "gloaming/gloaminglaw4.SizeAll", spec := "sizeAll", apart := false, narrowed := true }
def SizeAllUptoSaid : Prop := sizeAllUptoRow.holds Try.pinned (OpenSpec.upto sizeAllSpec)

/-- 'gloaminglaw4.SizeSums', WHERE WHAT IT READS IS OF BULK AT MOST 1048576: true; the input reads as it did. -/
def sizeSumsUptoRow : OpenClaim := { program := "ytgjcidhjonhamaa", sum := "dcf2db4edc2505087011438958daeda3e76377f8a331faa5fe4121db40adfbed", func := "gloaming/gloaminglaw4.SizeSums", spec := "sizeSums", apart := false, narrowed := true }
def SizeSumsUptoSaid : Prop := sizeSumsUptoRow.holds Try.pinned (OpenSpec.upto sizeSumsSpec)

/-- 'gloaminglaw8.HeadAll', WHERE WHAT IT READS IS OF BULK AT MOST 1048576: true; the input reads as it did. -/
def headAllUptoRow : OpenClaim := { program := "ytgjcidhjonhamaa", sum := "dcf2db4edc2505087011438958daeda3e76377f8a331faa5fe4121db40adfbed", func := "gloaming/gloaminglaw8.HeadAll", spec := "headAll", apart := false, narrowed := true }
def HeadAllUptoSaid : Prop := headAllUptoRow.holds Try.pinned (OpenSpec.upto headAllSpec)

/-- 'gloaminglaw8.HeadBack', WHERE WHAT IT READS IS OF BULK AT MOST 1048576: true; the input reads as it did. -/
def headBackUptoRow : OpenClaim := { program := "ytgjcidhjonhamaa", sum := "dcf2db4edc2505087011438958daeda3e76377f8a331faa5fe4121db40adfbed", func := "gloaming/gloaminglaw8.HeadBack", spec := "headBack", apart := false, narrowed := true }
def HeadBackUptoSaid : Prop := headBackUptoRow.holds Try.pinned (OpenSpec.upto headBackSpec)

/-- 'gloaminglaw8.HeadRefuses', WHERE WHAT IT READS IS OF BULK AT MOST 1048576: true; the input reads as it did. -/
def headRefusesUptoRow : OpenClaim := { program := "ytgjcidhjonhamaa", sum := "dcf2db4edc2505087011438958daeda3e76377f8a331faa5fe4121db40adfbed", func := "gloaming/gloaminglaw8.HeadRefuses", spec := "headRefuses", apart := false, narrowed := true }
def HeadRefusesUptoSaid : Prop := headRefusesUptoRow.holds Try.pinned (OpenSpec.upto headRefusesSpec)

/-- 'gloaminglaw8.HeadTwo', WHERE WHAT IT READS IS OF BULK AT MOST 1048576: true; the input reads as it did. -/
def headTwoUptoRow : OpenClaim := { program := "ytgjcidhjonhamaa", sum := "dcf2db4edc2505087011438958daeda3e76377f8a331faa5fe4121db40adfbed", func := "gloaming/gloaminglaw8.HeadTwo", spec := "headTwo", apart := false, narrowed := true }
def HeadTwoUptoSaid : Prop := headTwoUptoRow.holds Try.pinned (OpenSpec.upto headTwoSpec)

/-- 'gloaminglaw8.HeadKnown', WHERE WHAT IT READS IS OF BULK AT MOST 1048576: true; the input reads as it did. -/
def headKnownUptoRow : OpenClaim := { program := "ytgjcidhjonhamaa", sum := "dcf2db4edc2505087011438958daeda3e76377f8a331faa5fe4121db40adfbed", func := "gloaming/gloaminglaw8.HeadKnown", spec := "headKnown", apart := false, narrowed := true }
def HeadKnownUptoSaid : Prop := headKnownUptoRow.holds Try.pinned (OpenSpec.upto headKnownSpec)

end Rows
end Go.Proofs.Ytgjcidhjonhamaa
