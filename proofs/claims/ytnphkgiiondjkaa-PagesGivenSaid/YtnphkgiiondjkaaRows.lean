/-
  No cell of these rows narrows 'for every input' (looked for: loops, veiled, ifaces, maps, wideKeys, modest, calm, conditions, laid).
  DERIVED. THE GIVEN ROWS OF THIS SEAT. 18 by the template 'for every input the law returns true; each argument reads behind the call as it read before'; 0 by the template 'total and deterministic' (their statements: YtnphkgiiondjkaaTotals.lean).
  GIVEN WITH THE SEED: the statements are not yours to turn. If you find one false, say at which input.
  Laid BY PROGRAM, IN A SANDBOX (cutbox-rows.mjs): the forced cells as the released guide's own fill.sh prints them over the translation 4aa35461d35559cf… (all of the seat's roots in one cut). By AI agents, Wed Nov 11 2026. No macro, syntax, notation, axiom, sorry.
-/
import Derived.Test.YtnphkgiiondjkaaChecked
import GoSem.Claim
import GoSem.ClaimJoined
import GoSem.ClaimMapViews
import Derived.JoinedTies
import Derived.KernelRfl
namespace Go.Proofs.Ytnphkgiiondjkaa
/- THE CELL 'sum', in the pinned program and in every row, IS THE sha256 OF THE DUMP (.gsa) THAT YtnphkgiiondjkaaProg.lean LOADS. Nothing in Lean hashes anything: it is a label: what it is worth is what the hold of that sum in a sandbox is worth. -/
noncomputable def Try.pinned : Pinned := { name := "ytnphkgiiondjkaa", sum := "4aa35461d35559cf433ca2cc4675ba1de5d51195fd9edb892ddefc601b0ea20b", checked := Try.checked }
namespace Rows
def none {H : Type} : Left H := { results := [], args := [] }

/-- 'gloaminglaw1.ArenaTwo': WHATEVER THE INPUT: true; the input reads as it did. -/
def arenaTwoSpec : ChangeSpec := { name := "arenaTwo", fn := fun _ => fun
  | [d1, d2, d3] => { results := [.lit (.bool true)], args := [d1, d2, d3] }
  | _ => none }
def arenaTwoRow : OpenClaim := { program := "ytnphkgiiondjkaa", sum := "4aa35461d35559cf433ca2cc4675ba1de5d51195fd9edb892ddefc601b0ea20b", func := "gloaming/gloaminglaw1.ArenaTwo", spec := "arenaTwo", apart := false }
def ArenaTwoSaid : Prop := arenaTwoRow.holds Try.pinned (OpenSpec.ofChange arenaTwoSpec)

/-- ITS FALSE NEIGHBOUR: 'it returns false'. Refute it at one input. -/
def arenaTwoWrong : ChangeSpec := { name := "arenaTwo", fn := fun _ => fun
  | [d1, d2, d3] => { results := [.lit (.bool false)], args := [d1, d2, d3] }
  | _ => none }
def ArenaTwoWrongFalsely : Prop := arenaTwoRow.holds Try.pinned (OpenSpec.ofChange arenaTwoWrong)

/-- 'gloaminglaw1.ArenaRuns': WHATEVER THE INPUT: true; the input reads as it did. -/
def arenaRunsSpec : ChangeSpec := { name := "arenaRuns", fn := fun _ => fun
  | [d1, d2] => { results := [.lit (.bool true)], args := [d1, d2] }
  | _ => none }
def arenaRunsRow : OpenClaim := { program := "ytnphkgiiondjkaa", sum := "4aa35461d35559cf433ca2cc4675ba1de5d51195fd9edb892ddefc601b0ea20b", func := "gloaming/gloaminglaw1.ArenaRuns", spec := "arenaRuns", apart := false }
def ArenaRunsSaid : Prop := arenaRunsRow.holds Try.pinned (OpenSpec.ofChange arenaRunsSpec)

/-- ITS FALSE NEIGHBOUR: 'it returns false'. Refute it at one input. -/
def arenaRunsWrong : ChangeSpec := { name := "arenaRuns", fn := fun _ => fun
  | [d1, d2] => { results := [.lit (.bool false)], args := [d1, d2] }
  | _ => none }
def ArenaRunsWrongFalsely : Prop := arenaRunsRow.holds Try.pinned (OpenSpec.ofChange arenaRunsWrong)

/-- 'gloaminglaw1.ArenaFills': WHATEVER THE INPUT: true; the input reads as it did. -/
def arenaFillsSpec : ChangeSpec := { name := "arenaFills", fn := fun _ => fun
  | [d1, d2, d3] => { results := [.lit (.bool true)], args := [d1, d2, d3] }
  | _ => none }
def arenaFillsRow : OpenClaim := { program := "ytnphkgiiondjkaa", sum := "4aa35461d35559cf433ca2cc4675ba1de5d51195fd9edb892ddefc601b0ea20b", func := "gloaming/gloaminglaw1.ArenaFills", spec := "arenaFills", apart := false }
def ArenaFillsSaid : Prop := arenaFillsRow.holds Try.pinned (OpenSpec.ofChange arenaFillsSpec)

/-- ITS FALSE NEIGHBOUR: 'it returns false'. Refute it at one input. -/
def arenaFillsWrong : ChangeSpec := { name := "arenaFills", fn := fun _ => fun
  | [d1, d2, d3] => { results := [.lit (.bool false)], args := [d1, d2, d3] }
  | _ => none }
def ArenaFillsWrongFalsely : Prop := arenaFillsRow.holds Try.pinned (OpenSpec.ofChange arenaFillsWrong)

/-- 'gloaminglaw1.ArenaSizes': WHATEVER THE INPUT: true; the input reads as it did. -/
def arenaSizesSpec : ChangeSpec := { name := "arenaSizes", fn := fun _ => fun
  | [d1, d2] => { results := [.lit (.bool true)], args := [d1, d2] }
  | _ => none }
def arenaSizesRow : OpenClaim := { program := "ytnphkgiiondjkaa", sum := "4aa35461d35559cf433ca2cc4675ba1de5d51195fd9edb892ddefc601b0ea20b", func := "gloaming/gloaminglaw1.ArenaSizes", spec := "arenaSizes", apart := false }
def ArenaSizesSaid : Prop := arenaSizesRow.holds Try.pinned (OpenSpec.ofChange arenaSizesSpec)

/-- ITS FALSE NEIGHBOUR: 'it returns false'. Refute it at one input. -/
def arenaSizesWrong : ChangeSpec := { name := "arenaSizes", fn := fun _ => fun
  | [d1, d2] => { results := [.lit (.bool false)], args := [d1, d2] }
  | _ => none }
def ArenaSizesWrongFalsely : Prop := arenaSizesRow.holds Try.pinned (OpenSpec.ofChange arenaSizesWrong)

/-- 'gloaminglaw2.BitsEnds': WHATEVER THE INPUT: true; the input reads as it did. -/
def bitsEndsSpec : ChangeSpec := { name := "bitsEnds", fn := fun _ => fun
  | [d1, d2, d3, d4] => { results := [.lit (.bool true)], args := [d1, d2, d3, d4] }
  | _ => none }
def bitsEndsRow : OpenClaim := { program := "ytnphkgiiondjkaa", sum := "4aa35461d35559cf433ca2cc4675ba1de5d51195fd9edb892ddefc601b0ea20b", func := "gloaming/gloaminglaw2.BitsEnds", spec := "bitsEnds", unfollowed := true, recurses := true, apart := false }
def BitsEndsSaid : Prop := bitsEndsRow.holds Try.pinned (OpenSpec.ofChange bitsEndsSpec)

/-- ITS FALSE NEIGHBOUR: 'it returns false'. Refute it at one input. -/
def bitsEndsWrong : ChangeSpec := { name := "bitsEnds", fn := fun _ => fun
  | [d1, d2, d3, d4] => { results := [.lit (.bool false)], args := [d1, d2, d3, d4] }
  | _ => none }
def BitsEndsWrongFalsely : Prop := bitsEndsRow.holds Try.pinned (OpenSpec.ofChange bitsEndsWrong)

/-- 'gloaminglaw2.BitsWalk': WHATEVER THE INPUT: true; the input reads as it did. -/
def bitsWalkSpec : ChangeSpec := { name := "bitsWalk", fn := fun _ => fun
  | [d] => { results := [.lit (.bool true)], args := [d] }
  | _ => none }
def bitsWalkRow : OpenClaim := { program := "ytnphkgiiondjkaa", sum := "4aa35461d35559cf433ca2cc4675ba1de5d51195fd9edb892ddefc601b0ea20b", func := "gloaming/gloaminglaw2.BitsWalk", spec := "bitsWalk", unfollowed := true, recurses := true, apart := false }
def BitsWalkSaid : Prop := bitsWalkRow.holds Try.pinned (OpenSpec.ofChange bitsWalkSpec)

/-- ITS FALSE NEIGHBOUR: 'it returns false'. Refute it at one input. -/
def bitsWalkWrong : ChangeSpec := { name := "bitsWalk", fn := fun _ => fun
  | [d] => { results := [.lit (.bool false)], args := [d] }
  | _ => none }
def BitsWalkWrongFalsely : Prop := bitsWalkRow.holds Try.pinned (OpenSpec.ofChange bitsWalkWrong)

/-- 'gloaminglaw2.BitsRuns': WHATEVER THE INPUT: true; the input reads as it did. -/
def bitsRunsSpec : ChangeSpec := { name := "bitsRuns", fn := fun _ => fun
  | [d1, d2] => { results := [.lit (.bool true)], args := [d1, d2] }
  | _ => none }
def bitsRunsRow : OpenClaim := { program := "ytnphkgiiondjkaa", sum := "4aa35461d35559cf433ca2cc4675ba1de5d51195fd9edb892ddefc601b0ea20b", func := "gloaming/gloaminglaw2.BitsRuns", spec := "bitsRuns", unfollowed := true, recurses := true, apart := false }
def BitsRunsSaid : Prop := bitsRunsRow.holds Try.pinned (OpenSpec.ofChange bitsRunsSpec)

/-- ITS FALSE NEIGHBOUR: 'it returns false'. Refute it at one input. -/
def bitsRunsWrong : ChangeSpec := { name := "bitsRuns", fn := fun _ => fun
  | [d1, d2] => { results := [.lit (.bool false)], args := [d1, d2] }
  | _ => none }
def BitsRunsWrongFalsely : Prop := bitsRunsRow.holds Try.pinned (OpenSpec.ofChange bitsRunsWrong)

/-- 'gloaminglaw2.BitsFound': WHATEVER THE INPUT: true; the input reads as it did. -/
def bitsFoundSpec : ChangeSpec := { name := "bitsFound", fn := fun _ => fun
  | [d1, d2, d3] => { results := [.lit (.bool true)], args := [d1, d2, d3] }
  | _ => none }
def bitsFoundRow : OpenClaim := { program := "ytnphkgiiondjkaa", sum := "4aa35461d35559cf433ca2cc4675ba1de5d51195fd9edb892ddefc601b0ea20b", func := "gloaming/gloaminglaw2.BitsFound", spec := "bitsFound", unfollowed := true, recurses := true, apart := false }
def BitsFoundSaid : Prop := bitsFoundRow.holds Try.pinned (OpenSpec.ofChange bitsFoundSpec)

/-- ITS FALSE NEIGHBOUR: 'it returns false'. Refute it at one input. -/
def bitsFoundWrong : ChangeSpec := { name := "bitsFound", fn := fun _ => fun
  | [d1, d2, d3] => { results := [.lit (.bool false)], args := [d1, d2, d3] }
  | _ => none }
def BitsFoundWrongFalsely : Prop := bitsFoundRow.holds Try.pinned (OpenSpec.ofChange bitsFoundWrong)

/-- 'gloaminglaw2.BitsWhole': WHATEVER THE INPUT: true; the input reads as it did. -/
def bitsWholeSpec : ChangeSpec := { name := "bitsWhole", fn := fun _ => fun
  | [d1, d2, d3, d4] => { results := [.lit (.bool true)], args := [d1, d2, d3, d4] }
  | _ => none }
def bitsWholeRow : OpenClaim := { program := "ytnphkgiiondjkaa", sum := "4aa35461d35559cf433ca2cc4675ba1de5d51195fd9edb892ddefc601b0ea20b", func := "gloaming/gloaminglaw2.BitsWhole", spec := "bitsWhole", unfollowed := true, recurses := true, apart := false }
def BitsWholeSaid : Prop := bitsWholeRow.holds Try.pinned (OpenSpec.ofChange bitsWholeSpec)

/-- ITS FALSE NEIGHBOUR: 'it returns false'. Refute it at one input. -/
def bitsWholeWrong : ChangeSpec := { name := "bitsWhole", fn := fun _ => fun
  | [d1, d2, d3, d4] => { results := [.lit (.bool false)], args := [d1, d2, d3, d4] }
  | _ => none }
def BitsWholeWrongFalsely : Prop := bitsWholeRow.holds Try.pinned (OpenSpec.ofChange bitsWholeWrong)

/-- 'gloaminglaw5.BlockRefuses': WHATEVER THE INPUT: true; the input reads as it did. -/
def blockRefusesSpec : ChangeSpec := { name := "blockRefuses", fn := fun _ => fun
  | [d1, d2] => { results := [.lit (.bool true)], args := [d1, d2] }
  | _ => none }
def blockRefusesRow : OpenClaim := { program := "ytnphkgiiondjkaa", sum := "4aa35461d35559cf433ca2cc4675ba1de5d51195fd9edb892ddefc601b0ea20b", func := "gloaming/gloaminglaw5.BlockRefuses", spec := "blockRefuses", unfollowed := true, recurses := true, apart := false }
def BlockRefusesSaid : Prop := blockRefusesRow.holds Try.pinned (OpenSpec.ofChange blockRefusesSpec)

/-- ITS FALSE NEIGHBOUR: 'it returns false'. Refute it at one input. -/
def blockRefusesWrong : ChangeSpec := { name := "blockRefuses", fn := fun _ => fun
  | [d1, d2] => { results := [.lit (.bool false)], args := [d1, d2] }
  | _ => none }
def BlockRefusesWrongFalsely : Prop := blockRefusesRow.holds Try.pinned (OpenSpec.ofChange blockRefusesWrong)

/-- 'gloaminglaw5.BlockRuns': WHATEVER THE INPUT: true; the input reads as it did. -/
def blockRunsSpec : ChangeSpec := { name := "blockRuns", fn := fun _ => fun
  | [d1, d2] => { results := [.lit (.bool true)], args := [d1, d2] }
  | _ => none }
def blockRunsRow : OpenClaim := { program := "ytnphkgiiondjkaa", sum := "4aa35461d35559cf433ca2cc4675ba1de5d51195fd9edb892ddefc601b0ea20b", func := "gloaming/gloaminglaw5.BlockRuns", spec := "blockRuns", unfollowed := true, recurses := true, apart := false }
def BlockRunsSaid : Prop := blockRunsRow.holds Try.pinned (OpenSpec.ofChange blockRunsSpec)

/-- ITS FALSE NEIGHBOUR: 'it returns false'. Refute it at one input. -/
def blockRunsWrong : ChangeSpec := { name := "blockRuns", fn := fun _ => fun
  | [d1, d2] => { results := [.lit (.bool false)], args := [d1, d2] }
  | _ => none }
def BlockRunsWrongFalsely : Prop := blockRunsRow.holds Try.pinned (OpenSpec.ofChange blockRunsWrong)

/-- 'gloaminglaw5.BlockFills': WHATEVER THE INPUT: true; the input reads as it did. -/
def blockFillsSpec : ChangeSpec := { name := "blockFills", fn := fun _ => fun
  | [d1, d2, d3] => { results := [.lit (.bool true)], args := [d1, d2, d3] }
  | _ => none }
def blockFillsRow : OpenClaim := { program := "ytnphkgiiondjkaa", sum := "4aa35461d35559cf433ca2cc4675ba1de5d51195fd9edb892ddefc601b0ea20b", func := "gloaming/gloaminglaw5.BlockFills", spec := "blockFills", unfollowed := true, recurses := true, apart := false }
def BlockFillsSaid : Prop := blockFillsRow.holds Try.pinned (OpenSpec.ofChange blockFillsSpec)

/-- ITS FALSE NEIGHBOUR: 'it returns false'. Refute it at one input. -/
def blockFillsWrong : ChangeSpec := { name := "blockFills", fn := fun _ => fun
  | [d1, d2, d3] => { results := [.lit (.bool false)], args := [d1, d2, d3] }
  | _ => none }
def BlockFillsWrongFalsely : Prop := blockFillsRow.holds Try.pinned (OpenSpec.ofChange blockFillsWrong)

/-- 'gloaminglaw5.BlockHoles': WHATEVER THE INPUT: true; the input reads as it did. -/
def blockHolesSpec : ChangeSpec := { name := "blockHoles", fn := fun _ => fun
  | [d1, d2] => { results := [.lit (.bool true)], args := [d1, d2] }
  | _ => none }
def blockHolesRow : OpenClaim := { program := "ytnphkgiiondjkaa", sum := "4aa35461d35559cf433ca2cc4675ba1de5d51195fd9edb892ddefc601b0ea20b", func := "gloaming/gloaminglaw5.BlockHoles", spec := "blockHoles", unfollowed := true, recurses := true, apart := false }
def BlockHolesSaid : Prop := blockHolesRow.holds Try.pinned (OpenSpec.ofChange blockHolesSpec)

/-- ITS FALSE NEIGHBOUR: 'it returns false'. Refute it at one input. -/
def blockHolesWrong : ChangeSpec := { name := "blockHoles", fn := fun _ => fun
  | [d1, d2] => { results := [.lit (.bool false)], args := [d1, d2] }
  | _ => none }
def BlockHolesWrongFalsely : Prop := blockHolesRow.holds Try.pinned (OpenSpec.ofChange blockHolesWrong)

/-- 'gloaminglaw3.PagesGiven': WHATEVER THE INPUT: true; the input reads as it did. -/
def pagesGivenSpec : ChangeSpec := { name := "pagesGiven", fn := fun _ => fun
  | [d1, d2] => { results := [.lit (.bool true)], args := [d1, d2] }
  | _ => none }
def pagesGivenRow : OpenClaim := { program := "ytnphkgiiondjkaa", sum := "4aa35461d35559cf433ca2cc4675ba1de5d51195fd9edb892ddefc601b0ea20b", func := "gloaming/gloaminglaw3.PagesGiven", spec := "pagesGiven", unfollowed := true, recurses := true, apart := false }
def PagesGivenSaid : Prop := pagesGivenRow.holds Try.pinned (OpenSpec.ofChange pagesGivenSpec)

/-- ITS FALSE NEIGHBOUR: 'it returns false'. Refute it at one input. -/
def pagesGivenWrong : ChangeSpec := { name := "pagesGiven", fn := fun _ => fun
  | [d1, d2] => { results := [.lit (.bool false)], args := [d1, d2] }
  | _ => none }
def PagesGivenWrongFalsely : Prop := pagesGivenRow.holds Try.pinned (OpenSpec.ofChange pagesGivenWrong)

/-- 'gloaminglaw3.PagesHoles': WHATEVER THE INPUT: true; the input reads as it did. -/
def pagesHolesSpec : ChangeSpec := { name := "pagesHoles", fn := fun _ => fun
  | [d1, d2] => { results := [.lit (.bool true)], args := [d1, d2] }
  | _ => none }
def pagesHolesRow : OpenClaim := { program := "ytnphkgiiondjkaa", sum := "4aa35461d35559cf433ca2cc4675ba1de5d51195fd9edb892ddefc601b0ea20b", func := "gloaming/gloaminglaw3.PagesHoles", spec := "pagesHoles", unfollowed := true, recurses := true, apart := false }
def PagesHolesSaid : Prop := pagesHolesRow.holds Try.pinned (OpenSpec.ofChange pagesHolesSpec)

/-- ITS FALSE NEIGHBOUR: 'it returns false'. Refute it at one input. -/
def pagesHolesWrong : ChangeSpec := { name := "pagesHoles", fn := fun _ => fun
  | [d1, d2] => { results := [.lit (.bool false)], args := [d1, d2] }
  | _ => none }
def PagesHolesWrongFalsely : Prop := pagesHolesRow.holds Try.pinned (OpenSpec.ofChange pagesHolesWrong)

/-- 'gloaminglaw3.PagesRuns': WHATEVER THE INPUT: true; the input reads as it did. -/
def pagesRunsSpec : ChangeSpec := { name := "pagesRuns", fn := fun _ => fun
  | [d1, d2] => { results := [.lit (.bool true)], args := [d1, d2] }
  | _ => none }
def pagesRunsRow : OpenClaim := { program := "ytnphkgiiondjkaa", sum := "4aa35461d35559cf433ca2cc4675ba1de5d51195fd9edb892ddefc601b0ea20b", func := "gloaming/gloaminglaw3.PagesRuns", spec := "pagesRuns", unfollowed := true, recurses := true, apart := false }
def PagesRunsSaid : Prop := pagesRunsRow.holds Try.pinned (OpenSpec.ofChange pagesRunsSpec)

/-- ITS FALSE NEIGHBOUR: 'it returns false'. Refute it at one input. -/
def pagesRunsWrong : ChangeSpec := { name := "pagesRuns", fn := fun _ => fun
  | [d1, d2] => { results := [.lit (.bool false)], args := [d1, d2] }
  | _ => none }
def PagesRunsWrongFalsely : Prop := pagesRunsRow.holds Try.pinned (OpenSpec.ofChange pagesRunsWrong)

/-- 'gloaminglaw3.PagesOne': WHATEVER THE INPUT: true; the input reads as it did. -/
def pagesOneSpec : ChangeSpec := { name := "pagesOne", fn := fun _ => fun
  | [d1, d2] => { results := [.lit (.bool true)], args := [d1, d2] }
  | _ => none }
def pagesOneRow : OpenClaim := { program := "ytnphkgiiondjkaa", sum := "4aa35461d35559cf433ca2cc4675ba1de5d51195fd9edb892ddefc601b0ea20b", func := "gloaming/gloaminglaw3.PagesOne", spec := "pagesOne", unfollowed := true, recurses := true, apart := false }
def PagesOneSaid : Prop := pagesOneRow.holds Try.pinned (OpenSpec.ofChange pagesOneSpec)

/-- ITS FALSE NEIGHBOUR: 'it returns false'. Refute it at one input. -/
def pagesOneWrong : ChangeSpec := { name := "pagesOne", fn := fun _ => fun
  | [d1, d2] => { results := [.lit (.bool false)], args := [d1, d2] }
  | _ => none }
def PagesOneWrongFalsely : Prop := pagesOneRow.holds Try.pinned (OpenSpec.ofChange pagesOneWrong)

/-- 'gloaminglaw3.PagesRefuses': WHATEVER THE INPUT: true; the input reads as it did. -/
def pagesRefusesSpec : ChangeSpec := { name := "pagesRefuses", fn := fun _ => fun
  | [d1, d2] => { results := [.lit (.bool true)], args := [d1, d2] }
  | _ => none }
def pagesRefusesRow : OpenClaim := { program := "ytnphkgiiondjkaa", sum := "4aa35461d35559cf433ca2cc4675ba1de5d51195fd9edb892ddefc601b0ea20b", func := "gloaming/gloaminglaw3.PagesRefuses", spec := "pagesRefuses", unfollowed := true, recurses := true, apart := false }
def PagesRefusesSaid : Prop := pagesRefusesRow.holds Try.pinned (OpenSpec.ofChange pagesRefusesSpec)

/-- ITS FALSE NEIGHBOUR: 'it returns false'. Refute it at one input. -/
def pagesRefusesWrong : ChangeSpec := { name := "pagesRefuses", fn := fun _ => fun
  | [d1, d2] => { results := [.lit (.bool false)], args := [d1, d2] }
  | _ => none }
def PagesRefusesWrongFalsely : Prop := pagesRefusesRow.holds Try.pinned (OpenSpec.ofChange pagesRefusesWrong)

/- THE SECOND FORM. 'bulk': how many values and letters a reading holds, each counted each time it is reached (what is shared counts as often as it is met; a slice's spare places count too). A statement '..UptoSaid' is the law's where the arguments, and the package variables that the reading takes, are together of bulk at most 1048576: NARROWER than '..Said'. Prove '..Said' where nothing that the law and all that it calls make is longer than what came in: it says more and counts as full. Else prove '..UptoSaid'. A law counts once. -/
mutual
def uptoBulk {H : Type} : DataW H → Nat
  | .lit (.string bytes) => bytes.length + 1
  | .lit _ => 1
  | .nil => 1
  | .ptr d => uptoBulk d + 1
  | .slice elems spare => uptoBulkAll elems + uptoBulkAll spare + 1
  | .agg parts => uptoBulkAll parts + 1
  | .iface _ d => uptoBulk d + 1
  | .map entries => uptoBulkEntries entries + 1
  | .held _ => 1
def uptoBulkAll {H : Type} : List (DataW H) → Nat
  | [] => 0
  | d :: r => uptoBulk d + uptoBulkAll r
def uptoBulkEntries {H : Type} : List (Lit × DataW H) → Nat
  | [] => 0
  | x :: r => uptoBulkEntry x + uptoBulkEntries r
def uptoBulkEntry {H : Type} : Lit × DataW H → Nat
  | (.string bytes, d) => bytes.length + uptoBulk d + 1
  | (_, d) => uptoBulk d + 1
 end
def uptoSmall : (H : Type) → List (DataW H) → Bool := fun _ ds => decide (uptoBulkAll ds ≤ 1048576)
def OpenSpec.upto (s : _root_.Go.ChangeSpec) : _root_.Go.OpenSpec := { _root_.Go.OpenSpec.ofChange s with cond := some uptoSmall }

/-- 'gloaminglaw1.ArenaTwo', WHERE WHAT IT READS IS OF BULK AT MOST 1048576: true; the input reads as it did. -/
def arenaTwoUptoRow : OpenClaim := { program := "ytnphkgiiondjkaa", sum := "4aa35461d35559cf433ca2cc4675ba1de5d51195fd9edb892ddefc601b0ea20b", func := "gloaming/gloaminglaw1.ArenaTwo", spec := "arenaTwo", apart := false, narrowed := true }
def ArenaTwoUptoSaid : Prop := arenaTwoUptoRow.holds Try.pinned (OpenSpec.upto arenaTwoSpec)

/-- 'gloaminglaw1.ArenaRuns', WHERE WHAT IT READS IS OF BULK AT MOST 1048576: true; the input reads as it did. -/
def arenaRunsUptoRow : OpenClaim := { program := "ytnphkgiiondjkaa", sum := "4aa35461d35559cf433ca2cc4675ba1de5d51195fd9edb892ddefc601b0ea20b", func := "gloaming/gloaminglaw1.ArenaRuns", spec := "arenaRuns", apart := false, narrowed := true }
def ArenaRunsUptoSaid : Prop := arenaRunsUptoRow.holds Try.pinned (OpenSpec.upto arenaRunsSpec)

/-- 'gloaminglaw1.ArenaFills', WHERE WHAT IT READS IS OF BULK AT MOST 1048576: true; the input reads as it did. -/
def arenaFillsUptoRow : OpenClaim := { program := "ytnphkgiiondjkaa", sum := "4aa35461d35559cf433ca2cc4675ba1de5d51195fd9edb892ddefc601b0ea20b", func := "gloaming/gloaminglaw1.ArenaFills", spec := "arenaFills", apart := false, narrowed := true }
def ArenaFillsUptoSaid : Prop := arenaFillsUptoRow.holds Try.pinned (OpenSpec.upto arenaFillsSpec)

/-- 'gloaminglaw1.ArenaSizes', WHERE WHAT IT READS IS OF BULK AT MOST 1048576: true; the input reads as it did. -/
def arenaSizesUptoRow : OpenClaim := { program := "ytnphkgiiondjkaa", sum := "4aa35461d35559cf433ca2cc4675ba1de5d51195fd9edb892ddefc601b0ea20b", func := "gloaming/gloaminglaw1.ArenaSizes", spec := "arenaSizes", apart := false, narrowed := true }
def ArenaSizesUptoSaid : Prop := arenaSizesUptoRow.holds Try.pinned (OpenSpec.upto arenaSizesSpec)

/-- 'gloaminglaw2.BitsEnds', WHERE WHAT IT READS IS OF BULK AT MOST 1048576: true; the input reads as it did. -/
def bitsEndsUptoRow : OpenClaim := { program := "ytnphkgiiondjkaa", sum := "4aa35461d35559cf433ca2cc4675ba1de5d51195fd9edb892ddefc601b0ea20b", func := "gloaming/gloaminglaw2.BitsEnds", spec := "bitsEnds", unfollowed := true, recurses := true, apart := false, narrowed := true }
def BitsEndsUptoSaid : Prop := bitsEndsUptoRow.holds Try.pinned (OpenSpec.upto bitsEndsSpec)

/-- 'gloaminglaw2.BitsWalk', WHERE WHAT IT READS IS OF BULK AT MOST 1048576: true; the input reads as it did. -/
def bitsWalkUptoRow : OpenClaim := { program := "ytnphkgiiondjkaa", sum := "4aa35461d35559cf433ca2cc4675ba1de5d51195fd9edb892ddefc601b0ea20b", func := "gloaming/gloaminglaw2.BitsWalk", spec := "bitsWalk", unfollowed := true, recurses := true, apart := false, narrowed := true }
def BitsWalkUptoSaid : Prop := bitsWalkUptoRow.holds Try.pinned (OpenSpec.upto bitsWalkSpec)

/-- 'gloaminglaw2.BitsRuns', WHERE WHAT IT READS IS OF BULK AT MOST 1048576: true; the input reads as it did. -/
def bitsRunsUptoRow : OpenClaim := { program := "ytnphkgiiondjkaa", sum := "4aa35461d35559cf433ca2cc4675ba1de5d51195fd9edb892ddefc601b0ea20b", func := "gloaming/gloaminglaw2.BitsRuns", spec := "bitsRuns", unfollowed := true, recurses := true, apart := false, narrowed := true }
def BitsRunsUptoSaid : Prop := bitsRunsUptoRow.holds Try.pinned (OpenSpec.upto bitsRunsSpec)

/-- 'gloaminglaw2.BitsFound', WHERE WHAT IT READS IS OF BULK AT MOST 1048576: true; the input reads as it did. -/
def bitsFoundUptoRow : OpenClaim := { program := "ytnphkgiiondjkaa", sum := "4aa35461d35559cf433ca2cc4675ba1de5d51195fd9edb892ddefc601b0ea20b", func := "gloaming/gloaminglaw2.BitsFound", spec := "bitsFound", unfollowed := true, recurses := true, apart := false, narrowed := true }
def BitsFoundUptoSaid : Prop := bitsFoundUptoRow.holds Try.pinned (OpenSpec.upto bitsFoundSpec)

/-- 'gloaminglaw2.BitsWhole', WHERE WHAT IT READS IS OF BULK AT MOST 1048576: true; the input reads as it did. -/
def bitsWholeUptoRow : OpenClaim := { program := "ytnphkgiiondjkaa", sum := "4aa35461d35559cf433ca2cc4675ba1de5d51195fd9edb892ddefc601b0ea20b", func := "gloaming/gloaminglaw2.BitsWhole", spec := "bitsWhole", unfollowed := true, recurses := true, apart := false, narrowed := true }
def BitsWholeUptoSaid : Prop := bitsWholeUptoRow.holds Try.pinned (OpenSpec.upto bitsWholeSpec)

/-- 'gloaminglaw5.BlockRefuses', WHERE WHAT IT READS IS OF BULK AT MOST 1048576: true; the input reads as it did. -/
def blockRefusesUptoRow : OpenClaim := { program := "ytnphkgiiondjkaa", sum := "4aa35461d35559cf433ca2cc4675ba1de5d51195fd9edb892ddefc601b0ea20b", func := "gloaming/gloaminglaw5.BlockRefuses", spec := "blockRefuses", unfollowed := true, recurses := true, apart := false, narrowed := true }
def BlockRefusesUptoSaid : Prop := blockRefusesUptoRow.holds Try.pinned (OpenSpec.upto blockRefusesSpec)

/-- 'gloaminglaw5.BlockRuns', WHERE WHAT IT READS IS OF BULK AT MOST 1048576: true; the input reads as it did. -/
def blockRunsUptoRow : OpenClaim := { program := "ytnphkgiiondjkaa", sum := "4aa35461d35559cf433ca2cc4675ba1de5d51195fd9edb892ddefc601b0ea20b", func := "gloaming/gloaminglaw5.BlockRuns", spec := "blockRuns", unfollowed := true, recurses := true, apart := false, narrowed := true }
def BlockRunsUptoSaid : Prop := blockRunsUptoRow.holds Try.pinned (OpenSpec.upto blockRunsSpec)

/-- 'gloaminglaw5.BlockFills', WHERE WHAT IT READS IS OF BULK AT MOST 1048576: true; the input reads as it did. -/
def blockFillsUptoRow : OpenClaim := { program := "ytnphkgiiondjkaa", sum := "4aa35461d35559cf433ca2cc4675ba1de5d51195fd9edb892ddefc601b0ea20b", func := "gloaming/gloaminglaw5.BlockFills", spec := "blockFills", unfollowed := true, recurses := true, apart := false, narrowed := true }
def BlockFillsUptoSaid : Prop := blockFillsUptoRow.holds Try.pinned (OpenSpec.upto blockFillsSpec)

/-- 'gloaminglaw5.BlockHoles', WHERE WHAT IT READS IS OF BULK AT MOST 1048576: true; the input reads as it did. -/
def blockHolesUptoRow : OpenClaim := { program := "ytnphkgiiondjkaa", sum := "4aa35461d35559cf433ca2cc4675ba1de5d51195fd9edb892ddefc601b0ea20b", func := "gloaming/gloaminglaw5.BlockHoles", spec := "blockHoles", unfollowed := true, recurses := true, apart := false, narrowed := true }
def BlockHolesUptoSaid : Prop := blockHolesUptoRow.holds Try.pinned (OpenSpec.upto blockHolesSpec)

/-- 'gloaminglaw3.PagesGiven', WHERE WHAT IT READS IS OF BULK AT MOST 1048576: true; the input reads as it did. -/
def pagesGivenUptoRow : OpenClaim := { program := "ytnphkgiiondjkaa", sum := "4aa35461d35559cf433ca2cc4675ba1de5d51195fd9edb892ddefc601b0ea20b", func := "gloaming/gloaminglaw3.PagesGiven", spec := "pagesGiven", unfollowed := true, recurses := true, apart := false, narrowed := true }
def PagesGivenUptoSaid : Prop := pagesGivenUptoRow.holds Try.pinned (OpenSpec.upto pagesGivenSpec)

/-- 'gloaminglaw3.PagesHoles', WHERE WHAT IT READS IS OF BULK AT MOST 1048576: true; the input reads as it did. -/
def pagesHolesUptoRow : OpenClaim := { program := "ytnphkgiiondjkaa", sum := "4aa35461d35559cf433ca2cc4675ba1de5d51195fd9edb892ddefc601b0ea20b", func := "gloaming/gloaminglaw3.PagesHoles", spec := "pagesHoles", unfollowed := true, recurses := true, apart := false, narrowed := true }
def PagesHolesUptoSaid : Prop := pagesHolesUptoRow.holds Try.pinned (OpenSpec.upto pagesHolesSpec)

/-- 'gloaminglaw3.PagesRuns', WHERE WHAT IT READS IS OF BULK AT MOST 1048576: true; the input reads as it did. -/
def pagesRunsUptoRow : OpenClaim := { program := "ytnphkgiiondjkaa", sum := "4aa35461d35559cf433ca2cc4675ba1de5d51195fd9edb892ddefc601b0ea20b", func := "gloaming/gloaminglaw3.PagesRuns", spec := "pagesRuns", unfollowed := true, recurses := true, apart := false, narrowed := true }
def PagesRunsUptoSaid : Prop := pagesRunsUptoRow.holds Try.pinned (OpenSpec.upto pagesRunsSpec)

/-- 'gloaminglaw3.PagesOne', WHERE WHAT IT READS IS OF BULK AT MOST 1048576: true; the input reads as it did. -/
def pagesOneUptoRow : OpenClaim := { program := "ytnphkgiiondjkaa", sum := "4aa35461d35559cf433ca2cc4675ba1de5d51195fd9edb892ddefc601b0ea20b", func := "gloaming/gloaminglaw3.PagesOne", spec := "pagesOne", unfollowed := true, recurses := true, apart := false, narrowed := true }
def PagesOneUptoSaid : Prop := pagesOneUptoRow.holds Try.pinned (OpenSpec.upto pagesOneSpec)

/-- 'gloaminglaw3.PagesRefuses', WHERE WHAT IT READS IS OF BULK AT MOST 1048576: true; the input reads as it did. -/
def pagesRefusesUptoRow : OpenClaim := { program := "ytnphkgiiondjkaa", sum := "4aa35461d35559cf433ca2cc4675ba1de5d51195fd9edb892ddefc601b0ea20b", func := "gloaming/gloaminglaw3.PagesRefuses", spec := "pagesRefuses", unfollowed := true, recurses := true, apart := false, narrowed := true }
def PagesRefusesUptoSaid : Prop := pagesRefusesUptoRow.holds Try.pinned (OpenSpec.upto pagesRefusesSpec)

end Rows
end Go.Proofs.Ytnphkgiiondjkaa
