/-
  NARROWER THAN 'FOR EVERY INPUT', by the rows' own cells (each row's printed sentence says how): JtagReads: laid · JtagBack: loops, laid · JtagRoom: loops, laid.
  DERIVED. THE GIVEN ROWS OF THIS SEAT. 3 by the template 'for every input the law returns true; each argument reads behind the call as it read before'; 0 by the template 'total and deterministic' (their statements: YtipejldppicijaaGreatDoorTotals.lean).
  GIVEN WITH THE SEED: the statements are not yours to turn. If you find one false, say at which input.
  Laid BY PROGRAM, IN A SANDBOX (cutbox-rows.mjs): the forced cells as the released guide's own fill.sh prints them over the translation bc971ce49ba78728… (all of the seat's roots in one cut). By AI agents, Wed Nov 11 2026. No macro, syntax, notation, axiom, sorry.
-/
import Derived.Test.YtipejldppicijaaGreatDoorChecked
import GoSem.Claim
import GoSem.ClaimJoined
import GoSem.ClaimMapViews
import Derived.JoinedTies
import Derived.KernelRfl
namespace Go.Proofs.YtipejldppicijaaGreatDoor
/- THE CELL 'sum', in the pinned program and in every row, IS THE sha256 OF THE DUMP (.gsa) THAT YtipejldppicijaaGreatDoorProg.lean LOADS. Nothing in Lean hashes anything: it is a label: what it is worth is what the hold of that sum in a sandbox is worth. -/
noncomputable def Tryz.pinned : Pinned := { name := "ytipejldppicijaagreatdoor", sum := "bc971ce49ba787289fa9bcd6a23f18978736473b99c846774a522e2f1a071f94", checked := Tryz.checked }
namespace Rows
def none {H : Type} : Left H := { results := [], args := [] }

/- WHAT THE LISTED PACKAGE-LEVEL VARIABLES READ AS WHEN THE CALL BEGINS. Each datum BY PROGRAM (the guide's laid-datum.mjs) off the statement by which the dump's own 'gosem.cut.vars' lays the variable. In a bare row this is a premise. The card (YtipejldppicijaaGreatDoorCards.lean) ties it to the program's text. -/
def laid_truchman_word_highs {H : Type} : DataW H := .agg [.lit (.int .u8 56), .lit (.int .u8 48), .lit (.int .u8 40), .lit (.int .u8 32), .lit (.int .u8 24), .lit (.int .u8 16), .lit (.int .u8 8), .lit (.int .u8 0)]

/-- 'truchmanlaw38.JtagReads': WHATEVER THE INPUT: true; the input reads as it did. -/
def jtagReadsSpec : ChangeSpec := { name := "jtagReads", fn := fun _ => fun
  | [d1, d2, d3] => { results := [.lit (.bool true)], args := [d1, d2, d3] }
  | _ => none }
def jtagReadsRow : OpenClaim := { program := "ytipejldppicijaagreatdoor", sum := "bc971ce49ba787289fa9bcd6a23f18978736473b99c846774a522e2f1a071f94", func := "truchman/truchmanlaw38.JtagReads", spec := "jtagReads", unfollowed := true, recurses := true, named := ["truchman/word.highs"], apart := false, laid := [("truchman/word.highs", laid_truchman_word_highs)] }
def JtagReadsSaid : Prop := jtagReadsRow.holds Tryz.pinned (OpenSpec.ofChange jtagReadsSpec)

/-- ITS FALSE NEIGHBOUR: 'it returns false'. Refute it at one input. -/
def jtagReadsWrong : ChangeSpec := { name := "jtagReads", fn := fun _ => fun
  | [d1, d2, d3] => { results := [.lit (.bool false)], args := [d1, d2, d3] }
  | _ => none }
def JtagReadsWrongFalsely : Prop := jtagReadsRow.holds Tryz.pinned (OpenSpec.ofChange jtagReadsWrong)

/-- 'truchmanlaw38.JtagBack': WHATEVER THE INPUT: true; the input reads as it did. -/
def jtagBackSpec : ChangeSpec := { name := "jtagBack", fn := fun _ => fun
  | [d] => { results := [.lit (.bool true)], args := [d] }
  | _ => none }
def jtagBackRow : OpenClaim := { program := "ytipejldppicijaagreatdoor", sum := "bc971ce49ba787289fa9bcd6a23f18978736473b99c846774a522e2f1a071f94", func := "truchman/truchmanlaw38.JtagBack", spec := "jtagBack", unfollowed := true, recurses := true, named := ["truchman/word.highs"], loops := true, apart := false, laid := [("truchman/word.highs", laid_truchman_word_highs)] }
def JtagBackSaid : Prop := jtagBackRow.holds Tryz.pinned (OpenSpec.ofChange jtagBackSpec)

/-- ITS FALSE NEIGHBOUR: 'it returns false'. Refute it at one input. -/
def jtagBackWrong : ChangeSpec := { name := "jtagBack", fn := fun _ => fun
  | [d] => { results := [.lit (.bool false)], args := [d] }
  | _ => none }
def JtagBackWrongFalsely : Prop := jtagBackRow.holds Tryz.pinned (OpenSpec.ofChange jtagBackWrong)

/-- 'truchmanlaw38.JtagRoom': WHATEVER THE INPUT: true; the input reads as it did. -/
def jtagRoomSpec : ChangeSpec := { name := "jtagRoom", fn := fun _ => fun
  | [d] => { results := [.lit (.bool true)], args := [d] }
  | _ => none }
def jtagRoomRow : OpenClaim := { program := "ytipejldppicijaagreatdoor", sum := "bc971ce49ba787289fa9bcd6a23f18978736473b99c846774a522e2f1a071f94", func := "truchman/truchmanlaw38.JtagRoom", spec := "jtagRoom", unfollowed := true, recurses := true, named := ["truchman/word.highs"], loops := true, apart := false, laid := [("truchman/word.highs", laid_truchman_word_highs)] }
def JtagRoomSaid : Prop := jtagRoomRow.holds Tryz.pinned (OpenSpec.ofChange jtagRoomSpec)

/-- ITS FALSE NEIGHBOUR: 'it returns false'. Refute it at one input. -/
def jtagRoomWrong : ChangeSpec := { name := "jtagRoom", fn := fun _ => fun
  | [d] => { results := [.lit (.bool false)], args := [d] }
  | _ => none }
def JtagRoomWrongFalsely : Prop := jtagRoomRow.holds Tryz.pinned (OpenSpec.ofChange jtagRoomWrong)

/- THE SECOND FORM. 'bulk': how many values and letters a reading holds, each counted each time it is reached (what is shared counts as often as it is met; a slice's spare places count too). A statement '..UptoSaid' is the law's where the arguments, and the package variables that the reading takes, are together of bulk at most 1048576: NARROWER than '..Said'. Prove '..Said' where nothing that the law and all that it calls make is longer than what came in: it says more and counts as full. Else prove '..UptoSaid'. A law counts once. -/
mutual
def uptoBulk {H : Type} : DataW H → Nat
  | .lit (.string bytes) => bytes.length + 1
  | .lit _ => 1
  | .nil => 1
  | .ptr d => uptoBulk d + 1
  | .slice elems spare => uptoBulkAll elems + uptoBulkAll spare + 1
  | .agg parts => uptoBulkAll parts + 1
  | .iface _ d => uptoBulk d + 1
  | .map entries => uptoBulkEntries entries + 1
  | .held _ => 1
def uptoBulkAll {H : Type} : List (DataW H) → Nat
  | [] => 0
  | d :: r => uptoBulk d + uptoBulkAll r
def uptoBulkEntries {H : Type} : List (Lit × DataW H) → Nat
  | [] => 0
  | x :: r => uptoBulkEntry x + uptoBulkEntries r
def uptoBulkEntry {H : Type} : Lit × DataW H → Nat
  | (.string bytes, d) => bytes.length + uptoBulk d + 1
  | (_, d) => uptoBulk d + 1
 end
def uptoSmall : (H : Type) → List (DataW H) → Bool := fun _ ds => decide (uptoBulkAll ds ≤ 1048576)
def OpenSpec.upto (s : _root_.Go.ChangeSpec) : _root_.Go.OpenSpec := { _root_.Go.OpenSpec.ofChange s with cond := some uptoSmall }

/-- 'truchmanlaw38.JtagReads', WHERE WHAT IT READS IS OF BULK AT MOST 1048576: true; the input reads as it did. -/
def jtagReadsUptoRow : OpenClaim := { program := "ytipejldppicijaagreatdoor", sum := "bc971ce49ba787289fa9bcd6a23f18978736473b99c846774a522e2f1a071f94", func := "truchman/truchmanlaw38.JtagReads", spec := "jtagReads", unfollowed := true, recurses := true, named := ["truchman/word.highs"], apart := false, laid := [("truchman/word.highs", laid_truchman_word_highs)], narrowed := true }
def JtagReadsUptoSaid : Prop := jtagReadsUptoRow.holds Tryz.pinned (OpenSpec.upto jtagReadsSpec)

/-- 'truchmanlaw38.JtagBack', WHERE WHAT IT READS IS OF BULK AT MOST 1048576: true; the input reads as it did. -/
def jtagBackUptoRow : OpenClaim := { program := "ytipejldppicijaagreatdoor", sum := "bc971ce49ba787289fa9bcd6a23f18978736473b99c846774a522e2f1a071f94", func := "truchman/truchmanlaw38.JtagBack", spec := "jtagBack", unfollowed := true, recurses := true, named := ["truchman/word.highs"], loops := true, apart := false, laid := [("truchman/word.highs", laid_truchman_word_highs)], narrowed := true }
def JtagBackUptoSaid : Prop := jtagBackUptoRow.holds Tryz.pinned (OpenSpec.upto jtagBackSpec)

/-- 'truchmanlaw38.JtagRoom', WHERE WHAT IT READS IS OF BULK AT MOST 1048576: true; the input reads as it did. -/
def jtagRoomUptoRow : OpenClaim := { program := "ytipejldppicijaagreatdoor", sum := "bc971ce49ba787289fa9bcd6a23f18978736473b99c846774a522e2f1a071f94", func := "truchman/truchmanlaw38.JtagRoom", spec := "jtagRoom", unfollowed := true, recurses := true, named := ["truchman/word.highs"], loops := true, apart := false, laid := [("truchman/word.highs", laid_truchman_word_highs)], narrowed := true }
def JtagRoomUptoSaid : Prop := jtagRoomUptoRow.holds Tryz.pinned (OpenSpec.upto jtagRoomSpec)

end Rows
end Go.Proofs.YtipejldppicijaaGreatDoor
