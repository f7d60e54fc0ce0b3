/-
  No cell of these rows narrows 'for every input' (looked for: loops, veiled, ifaces, maps, wideKeys, modest, calm, conditions, laid).
  DERIVED. THE GIVEN ROWS OF THIS SEAT. 13 by the template 'for every input the law returns true; each argument reads behind the call as it read before'; 0 by the template 'total and deterministic' (their statements: YtendjhobemlhoaaTotals.lean).
  GIVEN WITH THE SEED: the statements are not yours to turn. If you find one false, say at which input.
  Laid BY PROGRAM, IN A SANDBOX (cutbox-rows.mjs): the forced cells as the released guide's own fill.sh prints them over the translation 515a8b3ba1a16b32… (all of the seat's roots in one cut). By AI agents, Wed Nov 11 2026. No macro, syntax, notation, axiom, sorry.
-/
import Derived.Test.YtendjhobemlhoaaChecked
import GoSem.Claim
import GoSem.ClaimJoined
import GoSem.ClaimMapViews
import Derived.JoinedTies
import Derived.KernelRfl
namespace Go.Proofs.Ytendjhobemlhoaa
/- THE CELL 'sum', in the pinned program and in every row, IS THE sha256 OF THE DUMP (.gsa) THAT YtendjhobemlhoaaProg.lean LOADS. Nothing in Lean hashes anything: it is a label: what it is worth is what the hold of that sum in a sandbox is worth. -/
noncomputable def Try.pinned : Pinned := { name := "ytendjhobemlhoaa", sum := "515a8b3ba1a16b32137e34759bd4e3334c3eb93ff54c69c9aee85b082be14c1e", checked := Try.checked }
namespace Rows
def none {H : Type} : Left H := { results := [], args := [] }

/-- 'gloaminglaw15.FinalOnce': WHATEVER THE INPUT: true; the input reads as it did. -/
def finalOnceSpec : ChangeSpec := { name := "finalOnce", fn := fun _ => fun
  | [d1, d2] => { results := [.lit (.bool true)], args := [d1, d2] }
  | _ => none }
def finalOnceRow : OpenClaim := { program := "ytendjhobemlhoaa", sum := "515a8b3ba1a16b32137e34759bd4e3334c3eb93ff54c69c9aee85b082be14c1e", func := "gloaming/gloaminglaw15.FinalOnce", spec := "finalOnce", unfollowed := true, recurses := true, apart := false }
def FinalOnceSaid : Prop := finalOnceRow.holds Try.pinned (OpenSpec.ofChange finalOnceSpec)

/-- ITS FALSE NEIGHBOUR: 'it returns false'. Refute it at one input. -/
def finalOnceWrong : ChangeSpec := { name := "finalOnce", fn := fun _ => fun
  | [d1, d2] => { results := [.lit (.bool false)], args := [d1, d2] }
  | _ => none }
def FinalOnceWrongFalsely : Prop := finalOnceRow.holds Try.pinned (OpenSpec.ofChange finalOnceWrong)

/-- 'gloaminglaw15.FinalTakes': WHATEVER THE INPUT: true; the input reads as it did. -/
def finalTakesSpec : ChangeSpec := { name := "finalTakes", fn := fun _ => fun
  | [d1, d2, d3] => { results := [.lit (.bool true)], args := [d1, d2, d3] }
  | _ => none }
def finalTakesRow : OpenClaim := { program := "ytendjhobemlhoaa", sum := "515a8b3ba1a16b32137e34759bd4e3334c3eb93ff54c69c9aee85b082be14c1e", func := "gloaming/gloaminglaw15.FinalTakes", spec := "finalTakes", unfollowed := true, recurses := true, apart := false }
def FinalTakesSaid : Prop := finalTakesRow.holds Try.pinned (OpenSpec.ofChange finalTakesSpec)

/-- ITS FALSE NEIGHBOUR: 'it returns false'. Refute it at one input. -/
def finalTakesWrong : ChangeSpec := { name := "finalTakes", fn := fun _ => fun
  | [d1, d2, d3] => { results := [.lit (.bool false)], args := [d1, d2, d3] }
  | _ => none }
def FinalTakesWrongFalsely : Prop := finalTakesRow.holds Try.pinned (OpenSpec.ofChange finalTakesWrong)

/-- 'gloaminglaw12.QueueOrder': WHATEVER THE INPUT: true; the input reads as it did. -/
def queueOrderSpec : ChangeSpec := { name := "queueOrder", fn := fun _ => fun
  | [d] => { results := [.lit (.bool true)], args := [d] }
  | _ => none }
def queueOrderRow : OpenClaim := { program := "ytendjhobemlhoaa", sum := "515a8b3ba1a16b32137e34759bd4e3334c3eb93ff54c69c9aee85b082be14c1e", func := "gloaming/gloaminglaw12.QueueOrder", spec := "queueOrder", unfollowed := true, recurses := true, apart := false }
def QueueOrderSaid : Prop := queueOrderRow.holds Try.pinned (OpenSpec.ofChange queueOrderSpec)

/-- ITS FALSE NEIGHBOUR: 'it returns false'. Refute it at one input. -/
def queueOrderWrong : ChangeSpec := { name := "queueOrder", fn := fun _ => fun
  | [d] => { results := [.lit (.bool false)], args := [d] }
  | _ => none }
def QueueOrderWrongFalsely : Prop := queueOrderRow.holds Try.pinned (OpenSpec.ofChange queueOrderWrong)

/-- 'gloaminglaw12.QueueMany': WHATEVER THE INPUT: true; the input reads as it did. -/
def queueManySpec : ChangeSpec := { name := "queueMany", fn := fun _ => fun
  | [d1, d2] => { results := [.lit (.bool true)], args := [d1, d2] }
  | _ => none }
def queueManyRow : OpenClaim := { program := "ytendjhobemlhoaa", sum := "515a8b3ba1a16b32137e34759bd4e3334c3eb93ff54c69c9aee85b082be14c1e", func := "gloaming/gloaminglaw12.QueueMany", spec := "queueMany", unfollowed := true, recurses := true, apart := false }
def QueueManySaid : Prop := queueManyRow.holds Try.pinned (OpenSpec.ofChange queueManySpec)

/-- ITS FALSE NEIGHBOUR: 'it returns false'. Refute it at one input. -/
def queueManyWrong : ChangeSpec := { name := "queueMany", fn := fun _ => fun
  | [d1, d2] => { results := [.lit (.bool false)], args := [d1, d2] }
  | _ => none }
def QueueManyWrongFalsely : Prop := queueManyRow.holds Try.pinned (OpenSpec.ofChange queueManyWrong)

/-- 'gloaminglaw12.QueueLinks': WHATEVER THE INPUT: true; the input reads as it did. -/
def queueLinksSpec : ChangeSpec := { name := "queueLinks", fn := fun _ => fun
  | [d1, d2] => { results := [.lit (.bool true)], args := [d1, d2] }
  | _ => none }
def queueLinksRow : OpenClaim := { program := "ytendjhobemlhoaa", sum := "515a8b3ba1a16b32137e34759bd4e3334c3eb93ff54c69c9aee85b082be14c1e", func := "gloaming/gloaminglaw12.QueueLinks", spec := "queueLinks", unfollowed := true, recurses := true, apart := false }
def QueueLinksSaid : Prop := queueLinksRow.holds Try.pinned (OpenSpec.ofChange queueLinksSpec)

/-- ITS FALSE NEIGHBOUR: 'it returns false'. Refute it at one input. -/
def queueLinksWrong : ChangeSpec := { name := "queueLinks", fn := fun _ => fun
  | [d1, d2] => { results := [.lit (.bool false)], args := [d1, d2] }
  | _ => none }
def QueueLinksWrongFalsely : Prop := queueLinksRow.holds Try.pinned (OpenSpec.ofChange queueLinksWrong)

/-- 'gloaminglaw12.QueueAgain': WHATEVER THE INPUT: true; the input reads as it did. -/
def queueAgainSpec : ChangeSpec := { name := "queueAgain", fn := fun _ => fun
  | [d] => { results := [.lit (.bool true)], args := [d] }
  | _ => none }
def queueAgainRow : OpenClaim := { program := "ytendjhobemlhoaa", sum := "515a8b3ba1a16b32137e34759bd4e3334c3eb93ff54c69c9aee85b082be14c1e", func := "gloaming/gloaminglaw12.QueueAgain", spec := "queueAgain", unfollowed := true, recurses := true, apart := false }
def QueueAgainSaid : Prop := queueAgainRow.holds Try.pinned (OpenSpec.ofChange queueAgainSpec)

/-- ITS FALSE NEIGHBOUR: 'it returns false'. Refute it at one input. -/
def queueAgainWrong : ChangeSpec := { name := "queueAgain", fn := fun _ => fun
  | [d] => { results := [.lit (.bool false)], args := [d] }
  | _ => none }
def QueueAgainWrongFalsely : Prop := queueAgainRow.holds Try.pinned (OpenSpec.ofChange queueAgainWrong)

/-- 'gloaminglaw12.QueueNone': WHATEVER THE INPUT: true; the input reads as it did. -/
def queueNoneSpec : ChangeSpec := { name := "queueNone", fn := fun _ => fun
  | [d1, d2] => { results := [.lit (.bool true)], args := [d1, d2] }
  | _ => none }
def queueNoneRow : OpenClaim := { program := "ytendjhobemlhoaa", sum := "515a8b3ba1a16b32137e34759bd4e3334c3eb93ff54c69c9aee85b082be14c1e", func := "gloaming/gloaminglaw12.QueueNone", spec := "queueNone", unfollowed := true, recurses := true, apart := false }
def QueueNoneSaid : Prop := queueNoneRow.holds Try.pinned (OpenSpec.ofChange queueNoneSpec)

/-- ITS FALSE NEIGHBOUR: 'it returns false'. Refute it at one input. -/
def queueNoneWrong : ChangeSpec := { name := "queueNone", fn := fun _ => fun
  | [d1, d2] => { results := [.lit (.bool false)], args := [d1, d2] }
  | _ => none }
def QueueNoneWrongFalsely : Prop := queueNoneRow.holds Try.pinned (OpenSpec.ofChange queueNoneWrong)

/-- 'gloaminglaw15.FinalHeads': WHATEVER THE INPUT: true; the input reads as it did. -/
def finalHeadsSpec : ChangeSpec := { name := "finalHeads", fn := fun _ => fun
  | [d1, d2] => { results := [.lit (.bool true)], args := [d1, d2] }
  | _ => none }
def finalHeadsRow : OpenClaim := { program := "ytendjhobemlhoaa", sum := "515a8b3ba1a16b32137e34759bd4e3334c3eb93ff54c69c9aee85b082be14c1e", func := "gloaming/gloaminglaw15.FinalHeads", spec := "finalHeads", unfollowed := true, recurses := true, apart := false }
def FinalHeadsSaid : Prop := finalHeadsRow.holds Try.pinned (OpenSpec.ofChange finalHeadsSpec)

/-- ITS FALSE NEIGHBOUR: 'it returns false'. Refute it at one input. -/
def finalHeadsWrong : ChangeSpec := { name := "finalHeads", fn := fun _ => fun
  | [d1, d2] => { results := [.lit (.bool false)], args := [d1, d2] }
  | _ => none }
def FinalHeadsWrongFalsely : Prop := finalHeadsRow.holds Try.pinned (OpenSpec.ofChange finalHeadsWrong)

/-- 'gloaminglaw13.RefAsks': WHATEVER THE INPUT: true; the input reads as it did. -/
def refAsksSpec : ChangeSpec := { name := "refAsks", fn := fun _ => fun
  | [d1, d2] => { results := [.lit (.bool true)], args := [d1, d2] }
  | _ => none }
def refAsksRow : OpenClaim := { program := "ytendjhobemlhoaa", sum := "515a8b3ba1a16b32137e34759bd4e3334c3eb93ff54c69c9aee85b082be14c1e", func := "gloaming/gloaminglaw13.RefAsks", spec := "refAsks", unfollowed := true, recurses := true, apart := false }
def RefAsksSaid : Prop := refAsksRow.holds Try.pinned (OpenSpec.ofChange refAsksSpec)

/-- ITS FALSE NEIGHBOUR: 'it returns false'. Refute it at one input. -/
def refAsksWrong : ChangeSpec := { name := "refAsks", fn := fun _ => fun
  | [d1, d2] => { results := [.lit (.bool false)], args := [d1, d2] }
  | _ => none }
def RefAsksWrongFalsely : Prop := refAsksRow.holds Try.pinned (OpenSpec.ofChange refAsksWrong)

/-- 'gloaminglaw13.RefMakes': WHATEVER THE INPUT: true; the input reads as it did. -/
def refMakesSpec : ChangeSpec := { name := "refMakes", fn := fun _ => fun
  | [d1, d2] => { results := [.lit (.bool true)], args := [d1, d2] }
  | _ => none }
def refMakesRow : OpenClaim := { program := "ytendjhobemlhoaa", sum := "515a8b3ba1a16b32137e34759bd4e3334c3eb93ff54c69c9aee85b082be14c1e", func := "gloaming/gloaminglaw13.RefMakes", spec := "refMakes", unfollowed := true, recurses := true, apart := false }
def RefMakesSaid : Prop := refMakesRow.holds Try.pinned (OpenSpec.ofChange refMakesSpec)

/-- ITS FALSE NEIGHBOUR: 'it returns false'. Refute it at one input. -/
def refMakesWrong : ChangeSpec := { name := "refMakes", fn := fun _ => fun
  | [d1, d2] => { results := [.lit (.bool false)], args := [d1, d2] }
  | _ => none }
def RefMakesWrongFalsely : Prop := refMakesRow.holds Try.pinned (OpenSpec.ofChange refMakesWrong)

/-- 'gloaminglaw13.RefKeeps': WHATEVER THE INPUT: true; the input reads as it did. -/
def refKeepsSpec : ChangeSpec := { name := "refKeeps", fn := fun _ => fun
  | [d1, d2, d3] => { results := [.lit (.bool true)], args := [d1, d2, d3] }
  | _ => none }
def refKeepsRow : OpenClaim := { program := "ytendjhobemlhoaa", sum := "515a8b3ba1a16b32137e34759bd4e3334c3eb93ff54c69c9aee85b082be14c1e", func := "gloaming/gloaminglaw13.RefKeeps", spec := "refKeeps", unfollowed := true, recurses := true, apart := false }
def RefKeepsSaid : Prop := refKeepsRow.holds Try.pinned (OpenSpec.ofChange refKeepsSpec)

/-- ITS FALSE NEIGHBOUR: 'it returns false'. Refute it at one input. -/
def refKeepsWrong : ChangeSpec := { name := "refKeeps", fn := fun _ => fun
  | [d1, d2, d3] => { results := [.lit (.bool false)], args := [d1, d2, d3] }
  | _ => none }
def RefKeepsWrongFalsely : Prop := refKeepsRow.holds Try.pinned (OpenSpec.ofChange refKeepsWrong)

/-- 'gloaminglaw13.RefClears': WHATEVER THE INPUT: true; the input reads as it did. -/
def refClearsSpec : ChangeSpec := { name := "refClears", fn := fun _ => fun
  | [d1, d2] => { results := [.lit (.bool true)], args := [d1, d2] }
  | _ => none }
def refClearsRow : OpenClaim := { program := "ytendjhobemlhoaa", sum := "515a8b3ba1a16b32137e34759bd4e3334c3eb93ff54c69c9aee85b082be14c1e", func := "gloaming/gloaminglaw13.RefClears", spec := "refClears", unfollowed := true, recurses := true, apart := false }
def RefClearsSaid : Prop := refClearsRow.holds Try.pinned (OpenSpec.ofChange refClearsSpec)

/-- ITS FALSE NEIGHBOUR: 'it returns false'. Refute it at one input. -/
def refClearsWrong : ChangeSpec := { name := "refClears", fn := fun _ => fun
  | [d1, d2] => { results := [.lit (.bool false)], args := [d1, d2] }
  | _ => none }
def RefClearsWrongFalsely : Prop := refClearsRow.holds Try.pinned (OpenSpec.ofChange refClearsWrong)

/-- 'gloaminglaw13.RefOnce': WHATEVER THE INPUT: true; the input reads as it did. -/
def refOnceSpec : ChangeSpec := { name := "refOnce", fn := fun _ => fun
  | [d1, d2, d3] => { results := [.lit (.bool true)], args := [d1, d2, d3] }
  | _ => none }
def refOnceRow : OpenClaim := { program := "ytendjhobemlhoaa", sum := "515a8b3ba1a16b32137e34759bd4e3334c3eb93ff54c69c9aee85b082be14c1e", func := "gloaming/gloaminglaw13.RefOnce", spec := "refOnce", unfollowed := true, recurses := true, apart := false }
def RefOnceSaid : Prop := refOnceRow.holds Try.pinned (OpenSpec.ofChange refOnceSpec)

/-- ITS FALSE NEIGHBOUR: 'it returns false'. Refute it at one input. -/
def refOnceWrong : ChangeSpec := { name := "refOnce", fn := fun _ => fun
  | [d1, d2, d3] => { results := [.lit (.bool false)], args := [d1, d2, d3] }
  | _ => none }
def RefOnceWrongFalsely : Prop := refOnceRow.holds Try.pinned (OpenSpec.ofChange refOnceWrong)

/- THE SECOND FORM. 'bulk': how many values and letters a reading holds, each counted each time it is reached (what is shared counts as often as it is met; a slice's spare places count too). A statement '..UptoSaid' is the law's where the arguments, and the package variables that the reading takes, are together of bulk at most 1048576: NARROWER than '..Said'. Prove '..Said' where nothing that the law and all that it calls make is longer than what came in: it says more and counts as full. Else prove '..UptoSaid'. A law counts once. -/
mutual
def uptoBulk {H : Type} : DataW H → Nat
  | .lit (.string bytes) => bytes.length + 1
  | .lit _ => 1
  | .nil => 1
  | .ptr d => uptoBulk d + 1
  | .slice elems spare => uptoBulkAll elems + uptoBulkAll spare + 1
  | .agg parts => uptoBulkAll parts + 1
  | .iface _ d => uptoBulk d + 1
  | .map entries => uptoBulkEntries entries + 1
  | .held _ => 1
def uptoBulkAll {H : Type} : List (DataW H) → Nat
  | [] => 0
  | d :: r => uptoBulk d + uptoBulkAll r
def uptoBulkEntries {H : Type} : List (Lit × DataW H) → Nat
  | [] => 0
  | x :: r => uptoBulkEntry x + uptoBulkEntries r
def uptoBulkEntry {H : Type} : Lit × DataW H → Nat
  | (.string bytes, d) => bytes.length + uptoBulk d + 1
  | (_, d) => uptoBulk d + 1
 end
def uptoSmall : (H : Type) → List (DataW H) → Bool := fun _ ds => decide (uptoBulkAll ds ≤ 1048576)
def OpenSpec.upto (s : _root_.Go.ChangeSpec) : _root_.Go.OpenSpec := { _root_.Go.OpenSpec.ofChange s with cond := some uptoSmall }

/-- 'gloaminglaw15.FinalOnce', WHERE WHAT IT READS IS OF BULK AT MOST 1048576: true; the input reads as it did. -/
def finalOnceUptoRow : OpenClaim := { program := "ytendjhobemlhoaa", sum := "515a8b3ba1a16b32137e34759bd4e3334c3eb93ff54c69c9aee85b082be14c1e", func := "gloaming/gloaminglaw15.FinalOnce", spec := "finalOnce", unfollowed := true, recurses := true, apart := false, narrowed := true }
def FinalOnceUptoSaid : Prop := finalOnceUptoRow.holds Try.pinned (OpenSpec.upto finalOnceSpec)

/-- 'gloaminglaw15.FinalTakes', WHERE WHAT IT READS IS OF BULK AT MOST 1048576: true; the input reads as it did. -/
def finalTakesUptoRow : OpenClaim := { program := "ytendjhobemlhoaa", sum := "515a8b3ba1a16b32137e34759bd4e3334c3eb93ff54c69c9aee85b082be14c1e", func := "gloaming/gloaminglaw15.FinalTakes", spec := "finalTakes", unfollowed := true, recurses := true, apart := false, narrowed := true }
def FinalTakesUptoSaid : Prop := finalTakesUptoRow.holds Try.pinned (OpenSpec.upto finalTakesSpec)

/-- 'gloaminglaw12.QueueOrder', WHERE WHAT IT READS IS OF BULK AT MOST 1048576: true; the input reads as it did. -/
def queueOrderUptoRow : OpenClaim := { program := "ytendjhobemlhoaa", sum := "515a8b3ba1a16b32137e34759bd4e3334c3eb93ff54c69c9aee85b082be14c1e", func := "gloaming/gloaminglaw12.QueueOrder", spec := "queueOrder", unfollowed := true, recurses := true, apart := false, narrowed := true }
def QueueOrderUptoSaid : Prop := queueOrderUptoRow.holds Try.pinned (OpenSpec.upto queueOrderSpec)

/-- 'gloaminglaw12.QueueMany', WHERE WHAT IT READS IS OF BULK AT MOST 1048576: true; the input reads as it did. -/
def queueManyUptoRow : OpenClaim := { program := "ytendjhobemlhoaa", sum := "515a8b3ba1a16b32137e34759bd4e3334c3eb93ff54c69c9aee85b082be14c1e", func := "gloaming/gloaminglaw12.QueueMany", spec := "queueMany", unfollowed := true, recurses := true, apart := false, narrowed := true }
def QueueManyUptoSaid : Prop := queueManyUptoRow.holds Try.pinned (OpenSpec.upto queueManySpec)

/-- 'gloaminglaw12.QueueLinks', WHERE WHAT IT READS IS OF BULK AT MOST 1048576: true; the input reads as it did. -/
def queueLinksUptoRow : OpenClaim := { program := "ytendjhobemlhoaa", sum := "515a8b3ba1a16b32137e34759bd4e3334c3eb93ff54c69c9aee85b082be14c1e", func := "gloaming/gloaminglaw12.QueueLinks", spec := "queueLinks", unfollowed := true, recurses := true, apart := false, narrowed := true }
def QueueLinksUptoSaid : Prop := queueLinksUptoRow.holds Try.pinned (OpenSpec.upto queueLinksSpec)

/-- 'gloaminglaw12.QueueAgain', WHERE WHAT IT READS IS OF BULK AT MOST 1048576: true; the input reads as it did. -/
def queueAgainUptoRow : OpenClaim := { program := "ytendjhobemlhoaa", sum := "515a8b3ba1a16b32137e34759bd4e3334c3eb93ff54c69c9aee85b082be14c1e", func := "gloaming/gloaminglaw12.QueueAgain", spec := "queueAgain", unfollowed := true, recurses := true, apart := false, narrowed := true }
def QueueAgainUptoSaid : Prop := queueAgainUptoRow.holds Try.pinned (OpenSpec.upto queueAgainSpec)

/-- 'gloaminglaw12.QueueNone', WHERE WHAT IT READS IS OF BULK AT MOST 1048576: true; the input reads as it did. -/
def queueNoneUptoRow : OpenClaim := { program := "ytendjhobemlhoaa", sum := "515a8b3ba1a16b32137e34759bd4e3334c3eb93ff54c69c9aee85b082be14c1e", func := "gloaming/gloaminglaw12.QueueNone", spec := "queueNone", unfollowed := true, recurses := true, apart := false, narrowed := true }
def QueueNoneUptoSaid : Prop := queueNoneUptoRow.holds Try.pinned (OpenSpec.upto queueNoneSpec)

/-- 'gloaminglaw15.FinalHeads', WHERE WHAT IT READS IS OF BULK AT MOST 1048576: true; the input reads as it did. -/
def finalHeadsUptoRow : OpenClaim := { program := "ytendjhobemlhoaa", sum := "515a8b3ba1a16b32137e34759bd4e3334c3eb93ff54c69c9aee85b082be14c1e", func := "gloaming/gloaminglaw15.FinalHeads", spec := "finalHeads", unfollowed := true, recurses := true, apart := false, narrowed := true }
def FinalHeadsUptoSaid : Prop := finalHeadsUptoRow.holds Try.pinned (OpenSpec.upto finalHeadsSpec)

/-- 'gloaminglaw13.RefAsks', WHERE WHAT IT READS IS OF BULK AT MOST 1048576: true; the input reads as it did. -/
def refAsksUptoRow : OpenClaim := { program := "ytendjhobemlhoaa", sum := "515a8b3ba1a16b32137e34759bd4e3334c3eb93ff54c69c9aee85b082be14c1e", func := "gloaming/gloaminglaw13.RefAsks", spec := "refAsks", unfollowed := true, recurses := true, apart := false, narrowed := true }
def RefAsksUptoSaid : Prop := refAsksUptoRow.holds Try.pinned (OpenSpec.upto refAsksSpec)

/-- 'gloaminglaw13.RefMakes', WHERE WHAT IT READS IS OF BULK AT MOST 1048576: true; the input reads as it did. -/
def refMakesUptoRow : OpenClaim := { program := "ytendjhobemlhoaa", sum := "515a8b3ba1a16b32137e34759bd4e3334c3eb93ff54c69c9aee85b082be14c1e", func := "gloaming/gloaminglaw13.RefMakes", spec := "refMakes", unfollowed := true, recurses := true, apart := false, narrowed := true }
def RefMakesUptoSaid : Prop := refMakesUptoRow.holds Try.pinned (OpenSpec.upto refMakesSpec)

/-- 'gloaminglaw13.RefKeeps', WHERE WHAT IT READS IS OF BULK AT MOST 1048576: true; the input reads as it did. -/
def refKeepsUptoRow : OpenClaim := { program := "ytendjhobemlhoaa", sum := "515a8b3ba1a16b32137e34759bd4e3334c3eb93ff54c69c9aee85b082be14c1e", func := "gloaming/gloaminglaw13.RefKeeps", spec := "refKeeps", unfollowed := true, recurses := true, apart := false, narrowed := true }
def RefKeepsUptoSaid : Prop := refKeepsUptoRow.holds Try.pinned (OpenSpec.upto refKeepsSpec)

/-- 'gloaminglaw13.RefClears', WHERE WHAT IT READS IS OF BULK AT MOST 1048576: true; the input reads as it did. -/
def refClearsUptoRow : OpenClaim := { program := "ytendjhobemlhoaa", sum := "515a8b3ba1a16b32137e34759bd4e3334c3eb93ff54c69c9aee85b082be14c1e", func := "gloaming/gloaminglaw13.RefClears", spec := "refClears", unfollowed := true, recurses := true, apart := false, narrowed := true }
def RefClearsUptoSaid : Prop := refClearsUptoRow.holds Try.pinned (OpenSpec.upto refClearsSpec)

/-- 'gloaminglaw13.RefOnce', WHERE WHAT IT READS IS OF BULK AT MOST 1048576: true; the input reads as it did. -/
def refOnceUptoRow : OpenClaim := { program := "ytendjhobemlhoaa", sum := "515a8b3ba1a16b32137e34759bd4e3334c3eb93ff54c69c9aee85b082be14c1e", func := "gloaming/gloaminglaw13.RefOnce", spec := "refOnce", unfollowed := true, recurses := true, apart := false, narrowed := true }
def RefOnceUptoSaid : Prop := refOnceUptoRow.holds Try.pinned (OpenSpec.upto refOnceSpec)

end Rows
end Go.Proofs.Ytendjhobemlhoaa
