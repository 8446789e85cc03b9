/-
  No cell of these rows narrows 'for every input' (looked for: loops, veiled, ifaces, maps, wideKeys, modest, calm, conditions, laid).
  DERIVED. THE GIVEN ROWS OF THIS SEAT. 4 by the template 'for every input the law returns true; each argument reads behind the call as it read before'; 0 by the template 'total and deterministic' (their statements: YtllncocibkgjkaaGreatTotals.lean).
  GIVEN WITH THE SEED: the statements are not yours to turn. If you find one false, say at which input.
  Laid BY PROGRAM, IN A SANDBOX (cutbox-rows.mjs): the forced cells as the released guide's own fill.sh prints them over the translation c2906d8f6d50efa7… (all of the seat's roots in one cut). By AI agents, Wed Nov 11 2026. No macro, syntax, notation, axiom, sorry.
-/
import Derived.Test.YtllncocibkgjkaaGreatChecked
import GoSem.Claim
import GoSem.ClaimJoined
import GoSem.ClaimMapViews
import Derived.JoinedTies
import Derived.KernelRfl
namespace Go.Proofs.YtllncocibkgjkaaGreat
/- THE CELL 'sum', in the pinned program and in every row, IS THE sha256 OF THE DUMP (.gsa) THAT YtllncocibkgjkaaGreatProg.lean LOADS. Nothing in Lean hashes anything: it is a label: what it is worth is what the hold of that sum in a sandbox is worth. -/
noncomputable def Tryz.pinned : Pinned := { name := "ytllncocibkgjkaagreat", sum := "c2906d8f6d50efa7c79fd44d8d2861135c901a58a8fcdff401298c1f7c7d92ed", checked := Tryz.checked }
namespace Rows
def none {H : Type} : Left H := { results := [], args := [] }

/-- 'truchmanlaw15.JwriteTree': WHATEVER THE INPUT: true; the input reads as it did. -/
def jwriteTreeSpec : ChangeSpec := { name := "jwriteTree", fn := fun _ => fun
  | [d] => { results := [.lit (.bool true)], args := [d] }
  | _ => none }
def jwriteTreeRow : OpenClaim := { program := "ytllncocibkgjkaagreat", sum := "c2906d8f6d50efa7c79fd44d8d2861135c901a58a8fcdff401298c1f7c7d92ed", func := "truchman/truchmanlaw15.JwriteTree", spec := "jwriteTree", unfollowed := true, recurses := true, apart := false }
def JwriteTreeSaid : Prop := jwriteTreeRow.holds Tryz.pinned (OpenSpec.ofChange jwriteTreeSpec)

/-- ITS FALSE NEIGHBOUR: 'it returns false'. Refute it at one input. -/
def jwriteTreeWrong : ChangeSpec := { name := "jwriteTree", fn := fun _ => fun
  | [d] => { results := [.lit (.bool false)], args := [d] }
  | _ => none }
def JwriteTreeWrongFalsely : Prop := jwriteTreeRow.holds Tryz.pinned (OpenSpec.ofChange jwriteTreeWrong)

/-- 'truchmanlaw14.JpickFinds': WHATEVER THE INPUT: true; the input reads as it did. -/
def jpickFindsSpec : ChangeSpec := { name := "jpickFinds", fn := fun _ => fun
  | [d1, d2, d3] => { results := [.lit (.bool true)], args := [d1, d2, d3] }
  | _ => none }
def jpickFindsRow : OpenClaim := { program := "ytllncocibkgjkaagreat", sum := "c2906d8f6d50efa7c79fd44d8d2861135c901a58a8fcdff401298c1f7c7d92ed", func := "truchman/truchmanlaw14.JpickFinds", spec := "jpickFinds", unfollowed := true, recurses := true, apart := false }
def JpickFindsSaid : Prop := jpickFindsRow.holds Tryz.pinned (OpenSpec.ofChange jpickFindsSpec)

/-- ITS FALSE NEIGHBOUR: 'it returns false'. Refute it at one input. -/
def jpickFindsWrong : ChangeSpec := { name := "jpickFinds", fn := fun _ => fun
  | [d1, d2, d3] => { results := [.lit (.bool false)], args := [d1, d2, d3] }
  | _ => none }
def JpickFindsWrongFalsely : Prop := jpickFindsRow.holds Tryz.pinned (OpenSpec.ofChange jpickFindsWrong)

/-- 'truchmanlaw14.JpickTells': WHATEVER THE INPUT: true; the input reads as it did. -/
def jpickTellsSpec : ChangeSpec := { name := "jpickTells", fn := fun _ => fun
  | [d1, d2, d3] => { results := [.lit (.bool true)], args := [d1, d2, d3] }
  | _ => none }
def jpickTellsRow : OpenClaim := { program := "ytllncocibkgjkaagreat", sum := "c2906d8f6d50efa7c79fd44d8d2861135c901a58a8fcdff401298c1f7c7d92ed", func := "truchman/truchmanlaw14.JpickTells", spec := "jpickTells", unfollowed := true, recurses := true, apart := false }
def JpickTellsSaid : Prop := jpickTellsRow.holds Tryz.pinned (OpenSpec.ofChange jpickTellsSpec)

/-- ITS FALSE NEIGHBOUR: 'it returns false'. Refute it at one input. -/
def jpickTellsWrong : ChangeSpec := { name := "jpickTells", fn := fun _ => fun
  | [d1, d2, d3] => { results := [.lit (.bool false)], args := [d1, d2, d3] }
  | _ => none }
def JpickTellsWrongFalsely : Prop := jpickTellsRow.holds Tryz.pinned (OpenSpec.ofChange jpickTellsWrong)

/-- 'truchmanlaw14.JpickLists': WHATEVER THE INPUT: true; the input reads as it did. -/
def jpickListsSpec : ChangeSpec := { name := "jpickLists", fn := fun _ => fun
  | [d1, d2, d3] => { results := [.lit (.bool true)], args := [d1, d2, d3] }
  | _ => none }
def jpickListsRow : OpenClaim := { program := "ytllncocibkgjkaagreat", sum := "c2906d8f6d50efa7c79fd44d8d2861135c901a58a8fcdff401298c1f7c7d92ed", func := "truchman/truchmanlaw14.JpickLists", spec := "jpickLists", unfollowed := true, recurses := true, apart := false }
def JpickListsSaid : Prop := jpickListsRow.holds Tryz.pinned (OpenSpec.ofChange jpickListsSpec)

/-- ITS FALSE NEIGHBOUR: 'it returns false'. Refute it at one input. -/
def jpickListsWrong : ChangeSpec := { name := "jpickLists", fn := fun _ => fun
  | [d1, d2, d3] => { results := [.lit (.bool false)], args := [d1, d2, d3] }
  | _ => none }
def JpickListsWrongFalsely : Prop := jpickListsRow.holds Tryz.pinned (OpenSpec.ofChange jpickListsWrong)

/- THE SECOND FORM. 'bulk': how many values and letters a reading holds, each counted each time it is reached (what is shared counts as often as it is met; a slice's spare places count too). A statement '..UptoSaid' is the law's where the arguments, and the package variables that the reading takes, are together of bulk at most 1048576: NARROWER than '..Said'. Prove '..Said' where nothing that the law and all that it calls make is longer than what came in: it says more and counts as full. Else prove '..UptoSaid'. A law counts once. -/
mutual
def uptoBulk {H : Type} : DataW H → Nat
  | .lit (.string bytes) => bytes.length + 1
  | .lit _ => 1
  | .nil => 1
  | .ptr d => uptoBulk d + 1
  | .slice elems spare => uptoBulkAll elems + uptoBulkAll spare + 1
  | .agg parts => uptoBulkAll parts + 1
  | .iface _ d => uptoBulk d + 1
  | .map entries => uptoBulkEntries entries + 1
  | .held _ => 1
def uptoBulkAll {H : Type} : List (DataW H) → Nat
  | [] => 0
  | d :: r => uptoBulk d + uptoBulkAll r
def uptoBulkEntries {H : Type} : List (Lit × DataW H) → Nat
  | [] => 0
  | x :: r => uptoBulkEntry x + uptoBulkEntries r
def uptoBulkEntry {H : Type} : Lit × DataW H → Nat
  | (.string bytes, d) => bytes.length + uptoBulk d + 1
  | (_, d) => uptoBulk d + 1
 end
def uptoSmall : (H : Type) → List (DataW H) → Bool := fun _ ds => decide (uptoBulkAll ds ≤ 1048576)
def OpenSpec.upto (s : _root_.Go.ChangeSpec) : _root_.Go.OpenSpec := { _root_.Go.OpenSpec.ofChange s with cond := some uptoSmall }

/-- 'truchmanlaw15.JwriteTree', WHERE WHAT IT READS IS OF BULK AT MOST 1048576: true; the input reads as it did. -/
def jwriteTreeUptoRow : OpenClaim := { program := "ytllncocibkgjkaagreat", sum := "c2906d8f6d50efa7c79fd44d8d2861135c901a58a8fcdff401298c1f7c7d92ed", func := "truchman/truchmanlaw15.JwriteTree", spec := "jwriteTree", unfollowed := true, recurses := true, apart := false, narrowed := true }
def JwriteTreeUptoSaid : Prop := jwriteTreeUptoRow.holds Tryz.pinned (OpenSpec.upto jwriteTreeSpec)

/-- 'truchmanlaw14.JpickFinds', WHERE WHAT IT READS IS OF BULK AT MOST 1048576: true; the input reads as it did. -/
def jpickFindsUptoRow : OpenClaim := { program := "ytllncocibkgjkaagreat", sum := "c2906d8f6d50efa7c79fd44d8d2861135c901a58a8fcdff401298c1f7c7d92ed", func := "truchman/truchmanlaw14.JpickFinds", spec := "jpickFinds", unfollowed := true, recurses := true, apart := false, narrowed := true }
def JpickFindsUptoSaid : Prop := jpickFindsUptoRow.holds Tryz.pinned (OpenSpec.upto jpickFindsSpec)

/-- 'truchmanlaw14.JpickTells', WHERE WHAT IT READS IS OF BULK AT MOST 1048576: true; the input reads as it did. -/
def jpickTellsUptoRow : OpenClaim := { program := "ytllncocibkgjkaagreat", sum := "c2906d8f6d50efa7c79fd44d8d2861135c901a58a8fcdff401298c1f7c7d92ed", func := "truchman/truchmanlaw14.JpickTells", spec := "jpickTells", unfollowed := true, recurses := true, apart := false, narrowed := true }
def JpickTellsUptoSaid : Prop := jpickTellsUptoRow.holds Tryz.pinned (OpenSpec.upto jpickTellsSpec)

/-- 'truchmanlaw14.JpickLists', WHERE WHAT IT READS IS OF BULK AT MOST 1048576: true; the input reads as it did. -/
def jpickListsUptoRow : OpenClaim := { program := "ytllncocibkgjkaagreat", sum := "c2906d8f6d50efa7c79fd44d8d2861135c901a58a8fcdff401298c1f7c7d92ed", func := "truchman/truchmanlaw14.JpickLists", spec := "jpickLists", unfollowed := true, recurses := true, apart := false, narrowed := true }
def JpickListsUptoSaid : Prop := jpickListsUptoRow.holds Tryz.pinned (OpenSpec.upto jpickListsSpec)

end Rows
end Go.Proofs.YtllncocibkgjkaaGreat
