/-
  NARROWER THAN 'FOR EVERY INPUT', by the rows' own cells (each row's printed sentence says how): ZspanOne: laid.
  DERIVED. THE GIVEN ROWS OF THIS SEAT. 1 by the template 'for every input the law returns true; each argument reads behind the call as it read before'; 0 by the template 'total and deterministic' (their statements: YtchllohbglebiaaGreatDoorTotals.lean).
  GIVEN WITH THE SEED: the statements are not yours to turn. If you find one false, say at which input.
  Laid BY PROGRAM, IN A SANDBOX (cutbox-rows.mjs): the forced cells as the released guide's own fill.sh prints them over the translation 8152252418a8da90… (all of the seat's roots in one cut). By AI agents, Wed Nov 11 2026. No macro, syntax, notation, axiom, sorry.
-/
import Derived.Test.YtchllohbglebiaaGreatDoorChecked
import GoSem.Claim
import GoSem.ClaimJoined
import GoSem.ClaimMapViews
import Derived.JoinedTies
import Derived.KernelRfl
namespace Go.Proofs.YtchllohbglebiaaGreatDoor
/- THE CELL 'sum', in the pinned program and in every row, IS THE sha256 OF THE DUMP (.gsa) THAT YtchllohbglebiaaGreatDoorProg.lean LOADS. Nothing in Lean hashes anything: it is a label: what it is worth is what the hold of that sum in a sandbox is worth. -/
noncomputable def Tryz.pinned : Pinned := { name := "ytchllohbglebiaagreatdoor", sum := "8152252418a8da902b3fda87cfef59952c0e05f9c0cc55c376024dba66edaf46", checked := Tryz.checked }
namespace Rows
def none {H : Type} : Left H := { results := [], args := [] }

/- WHAT THE LISTED PACKAGE-LEVEL VARIABLES READ AS WHEN THE CALL BEGINS. Each datum BY PROGRAM (the guide's laid-datum.mjs) off the statement by which the dump's own 'gosem.cut.vars' lays the variable. In a bare row this is a premise. The card (YtchllohbglebiaaGreatDoorCards.lean) ties it to the program's text. -/
def laid_truchman_word_highs {H : Type} : DataW H := .agg [.lit (.int .u8 56), .lit (.int .u8 48), .lit (.int .u8 40), .lit (.int .u8 32), .lit (.int .u8 24), .lit (.int .u8 16), .lit (.int .u8 8), .lit (.int .u8 0)]

/-- 'truchmanlaw41.ZspanOne': WHATEVER THE INPUT: true; the input reads as it did. -/
def zspanOneSpec : ChangeSpec := { name := "zspanOne", fn := fun _ => fun
  | [d] => { results := [.lit (.bool true)], args := [d] }
  | _ => none }
def zspanOneRow : OpenClaim := { program := "ytchllohbglebiaagreatdoor", sum := "8152252418a8da902b3fda87cfef59952c0e05f9c0cc55c376024dba66edaf46", func := "truchman/truchmanlaw41.ZspanOne", spec := "zspanOne", inPlace := ["internal/bytealg.abigen_runtime_cmpstring"], unfollowed := true, recurses := true, named := ["truchman/word.highs"], apart := false, laid := [("truchman/word.highs", laid_truchman_word_highs)] }
def ZspanOneSaid : Prop := zspanOneRow.holds Tryz.pinned (OpenSpec.ofChange zspanOneSpec)

/-- ITS FALSE NEIGHBOUR: 'it returns false'. Refute it at one input. -/
def zspanOneWrong : ChangeSpec := { name := "zspanOne", fn := fun _ => fun
  | [d] => { results := [.lit (.bool false)], args := [d] }
  | _ => none }
def ZspanOneWrongFalsely : Prop := zspanOneRow.holds Tryz.pinned (OpenSpec.ofChange zspanOneWrong)

/- THE SECOND FORM. 'bulk': how many values and letters a reading holds, each counted each time it is reached (what is shared counts as often as it is met; a slice's spare places count too). A statement '..UptoSaid' is the law's where the arguments, and the package variables that the reading takes, are together of bulk at most 1048576: NARROWER than '..Said'. Prove '..Said' where nothing that the law and all that it calls make is longer than what came in: it says more and counts as full. Else prove '..UptoSaid'. A law counts once. -/
mutual
def uptoBulk {H : Type} : DataW H → Nat
  | .lit (.string bytes) => bytes.length + 1
  | .lit _ => 1
  | .nil => 1
  | .ptr d => uptoBulk d + 1
  | .slice elems spare => uptoBulkAll elems + uptoBulkAll spare + 1
  | .agg parts => uptoBulkAll parts + 1
  | .iface _ d => uptoBulk d + 1
  | .map entries => uptoBulkEntries entries + 1
  | .held _ => 1
def uptoBulkAll {H : Type} : List (DataW H) → Nat
  | [] => 0
  | d :: r => uptoBulk d + uptoBulkAll r
def uptoBulkEntries {H : Type} : List (Lit × DataW H) → Nat
  | [] => 0
  | x :: r => uptoBulkEntry x + uptoBulkEntries r
def uptoBulkEntry {H : Type} : Lit × DataW H → Nat
  | (.string bytes, d) => bytes.length + uptoBulk d + 1
  | (_, d) => uptoBulk d + 1
 end
def uptoSmall : (H : Type) → List (DataW H) → Bool := fun _ ds => decide (uptoBulkAll ds ≤ 1048576)
def OpenSpec.upto (s : _root_.Go.ChangeSpec) : _root_.Go.OpenSpec := { _root_.Go.OpenSpec.ofChange s with cond := some uptoSmall }

/-- 'truchmanlaw41.ZspanOne', WHERE WHAT IT READS IS OF BULK AT MOST 1048576: true; the input reads as it did. -/
def zspanOneUptoRow : OpenClaim := { program := "ytchllohbglebiaagreatdoor", sum := "8152252418a8da902b3fda87cfef59952c0e05f9c0cc55c376024dba66edaf46", func := "truchman/truchmanlaw41.ZspanOne", spec := "zspanOne", inPlace := ["internal/bytealg.abigen_runtime_cmpstring"], unfollowed := true, recurses := true, named := ["truchman/word.highs"], apart := false, laid := [("truchman/word.highs", laid_truchman_word_highs)], narrowed := true }
def ZspanOneUptoSaid : Prop := zspanOneUptoRow.holds Tryz.pinned (OpenSpec.upto zspanOneSpec)

end Rows
end Go.Proofs.YtchllohbglebiaaGreatDoor
