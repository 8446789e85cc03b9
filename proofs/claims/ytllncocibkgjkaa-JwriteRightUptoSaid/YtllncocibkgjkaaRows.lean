/-
  No cell of these rows narrows 'for every input' (looked for: loops, veiled, ifaces, maps, wideKeys, modest, calm, conditions, laid).
  DERIVED. THE GIVEN ROWS OF THIS SEAT. 7 by the template 'for every input the law returns true; each argument reads behind the call as it read before'; 0 by the template 'total and deterministic' (their statements: YtllncocibkgjkaaTotals.lean).
  GIVEN WITH THE SEED: the statements are not yours to turn. If you find one false, say at which input.
  Laid BY PROGRAM, IN A SANDBOX (cutbox-rows.mjs): the forced cells as the released guide's own fill.sh prints them over the translation 93213d3e034bf2fb… (all of the seat's roots in one cut). By AI agents, Wed Nov 11 2026. No macro, syntax, notation, axiom, sorry.
-/
import Derived.Test.YtllncocibkgjkaaChecked
import GoSem.Claim
import GoSem.ClaimJoined
import GoSem.ClaimMapViews
import Derived.JoinedTies
import Derived.KernelRfl
namespace Go.Proofs.Ytllncocibkgjkaa
/- THE CELL 'sum', in the pinned program and in every row, IS THE sha256 OF THE DUMP (.gsa) THAT YtllncocibkgjkaaProg.lean LOADS. Nothing in Lean hashes anything: it is a label: what it is worth is what the hold of that sum in a sandbox is worth. -/
noncomputable def Try.pinned : Pinned := { name := "ytllncocibkgjkaa", sum := "93213d3e034bf2fb5d7ad9db0e5cbc8427588da1b50118bea22eb5ecc32bfc88", checked := Try.checked }
namespace Rows
def none {H : Type} : Left H := { results := [], args := [] }

/-- 'truchmanlaw12.JtokenBlanks': WHATEVER THE INPUT: true; the input reads as it did. -/
def jtokenBlanksSpec : ChangeSpec := { name := "jtokenBlanks", fn := fun _ => fun
  | [d1, d2] => { results := [.lit (.bool true)], args := [d1, d2] }
  | _ => none }
def jtokenBlanksRow : OpenClaim := { program := "ytllncocibkgjkaa", sum := "93213d3e034bf2fb5d7ad9db0e5cbc8427588da1b50118bea22eb5ecc32bfc88", func := "truchman/truchmanlaw12.JtokenBlanks", spec := "jtokenBlanks", unfollowed := true, recurses := true, apart := false }
def JtokenBlanksSaid : Prop := jtokenBlanksRow.holds Try.pinned (OpenSpec.ofChange jtokenBlanksSpec)

/-- ITS FALSE NEIGHBOUR: 'it returns false'. Refute it at one input. -/
def jtokenBlanksWrong : ChangeSpec := { name := "jtokenBlanks", fn := fun _ => fun
  | [d1, d2] => { results := [.lit (.bool false)], args := [d1, d2] }
  | _ => none }
def JtokenBlanksWrongFalsely : Prop := jtokenBlanksRow.holds Try.pinned (OpenSpec.ofChange jtokenBlanksWrong)

/-- 'truchmanlaw12.JtokenPuts': WHATEVER THE INPUT: true; the input reads as it did. -/
def jtokenPutsSpec : ChangeSpec := { name := "jtokenPuts", fn := fun _ => fun
  | [d1, d2] => { results := [.lit (.bool true)], args := [d1, d2] }
  | _ => none }
def jtokenPutsRow : OpenClaim := { program := "ytllncocibkgjkaa", sum := "93213d3e034bf2fb5d7ad9db0e5cbc8427588da1b50118bea22eb5ecc32bfc88", func := "truchman/truchmanlaw12.JtokenPuts", spec := "jtokenPuts", unfollowed := true, recurses := true, apart := false }
def JtokenPutsSaid : Prop := jtokenPutsRow.holds Try.pinned (OpenSpec.ofChange jtokenPutsSpec)

/-- ITS FALSE NEIGHBOUR: 'it returns false'. Refute it at one input. -/
def jtokenPutsWrong : ChangeSpec := { name := "jtokenPuts", fn := fun _ => fun
  | [d1, d2] => { results := [.lit (.bool false)], args := [d1, d2] }
  | _ => none }
def JtokenPutsWrongFalsely : Prop := jtokenPutsRow.holds Try.pinned (OpenSpec.ofChange jtokenPutsWrong)

/-- 'truchmanlaw12.JtokenAll': WHATEVER THE INPUT: true; the input reads as it did. -/
def jtokenAllSpec : ChangeSpec := { name := "jtokenAll", fn := fun _ => fun
  | [d] => { results := [.lit (.bool true)], args := [d] }
  | _ => none }
def jtokenAllRow : OpenClaim := { program := "ytllncocibkgjkaa", sum := "93213d3e034bf2fb5d7ad9db0e5cbc8427588da1b50118bea22eb5ecc32bfc88", func := "truchman/truchmanlaw12.JtokenAll", spec := "jtokenAll", unfollowed := true, recurses := true, apart := false }
def JtokenAllSaid : Prop := jtokenAllRow.holds Try.pinned (OpenSpec.ofChange jtokenAllSpec)

/-- ITS FALSE NEIGHBOUR: 'it returns false'. Refute it at one input. -/
def jtokenAllWrong : ChangeSpec := { name := "jtokenAll", fn := fun _ => fun
  | [d] => { results := [.lit (.bool false)], args := [d] }
  | _ => none }
def JtokenAllWrongFalsely : Prop := jtokenAllRow.holds Try.pinned (OpenSpec.ofChange jtokenAllWrong)

/-- 'truchmanlaw13.JtreeReads': WHATEVER THE INPUT: true; the input reads as it did. -/
def jtreeReadsSpec : ChangeSpec := { name := "jtreeReads", fn := fun _ => fun
  | [d] => { results := [.lit (.bool true)], args := [d] }
  | _ => none }
def jtreeReadsRow : OpenClaim := { program := "ytllncocibkgjkaa", sum := "93213d3e034bf2fb5d7ad9db0e5cbc8427588da1b50118bea22eb5ecc32bfc88", func := "truchman/truchmanlaw13.JtreeReads", spec := "jtreeReads", unfollowed := true, recurses := true, apart := false }
def JtreeReadsSaid : Prop := jtreeReadsRow.holds Try.pinned (OpenSpec.ofChange jtreeReadsSpec)

/-- ITS FALSE NEIGHBOUR: 'it returns false'. Refute it at one input. -/
def jtreeReadsWrong : ChangeSpec := { name := "jtreeReads", fn := fun _ => fun
  | [d] => { results := [.lit (.bool false)], args := [d] }
  | _ => none }
def JtreeReadsWrongFalsely : Prop := jtreeReadsRow.holds Try.pinned (OpenSpec.ofChange jtreeReadsWrong)

/-- 'truchmanlaw13.JtreeBack': WHATEVER THE INPUT: true; the input reads as it did. -/
def jtreeBackSpec : ChangeSpec := { name := "jtreeBack", fn := fun _ => fun
  | [d1, d2] => { results := [.lit (.bool true)], args := [d1, d2] }
  | _ => none }
def jtreeBackRow : OpenClaim := { program := "ytllncocibkgjkaa", sum := "93213d3e034bf2fb5d7ad9db0e5cbc8427588da1b50118bea22eb5ecc32bfc88", func := "truchman/truchmanlaw13.JtreeBack", spec := "jtreeBack", unfollowed := true, recurses := true, apart := false }
def JtreeBackSaid : Prop := jtreeBackRow.holds Try.pinned (OpenSpec.ofChange jtreeBackSpec)

/-- ITS FALSE NEIGHBOUR: 'it returns false'. Refute it at one input. -/
def jtreeBackWrong : ChangeSpec := { name := "jtreeBack", fn := fun _ => fun
  | [d1, d2] => { results := [.lit (.bool false)], args := [d1, d2] }
  | _ => none }
def JtreeBackWrongFalsely : Prop := jtreeBackRow.holds Try.pinned (OpenSpec.ofChange jtreeBackWrong)

/-- 'truchmanlaw13.JtreeDeep': WHATEVER THE INPUT: true; the input reads as it did. -/
def jtreeDeepSpec : ChangeSpec := { name := "jtreeDeep", fn := fun _ => fun
  | [d1, d2] => { results := [.lit (.bool true)], args := [d1, d2] }
  | _ => none }
def jtreeDeepRow : OpenClaim := { program := "ytllncocibkgjkaa", sum := "93213d3e034bf2fb5d7ad9db0e5cbc8427588da1b50118bea22eb5ecc32bfc88", func := "truchman/truchmanlaw13.JtreeDeep", spec := "jtreeDeep", unfollowed := true, recurses := true, apart := false }
def JtreeDeepSaid : Prop := jtreeDeepRow.holds Try.pinned (OpenSpec.ofChange jtreeDeepSpec)

/-- ITS FALSE NEIGHBOUR: 'it returns false'. Refute it at one input. -/
def jtreeDeepWrong : ChangeSpec := { name := "jtreeDeep", fn := fun _ => fun
  | [d1, d2] => { results := [.lit (.bool false)], args := [d1, d2] }
  | _ => none }
def JtreeDeepWrongFalsely : Prop := jtreeDeepRow.holds Try.pinned (OpenSpec.ofChange jtreeDeepWrong)

/-- 'truchmanlaw15.JwriteRight': WHATEVER THE INPUT: true; the input reads as it did. -/
def jwriteRightSpec : ChangeSpec := { name := "jwriteRight", fn := fun _ => fun
  | [d] => { results := [.lit (.bool true)], args := [d] }
  | _ => none }
def jwriteRightRow : OpenClaim := { program := "ytllncocibkgjkaa", sum := "93213d3e034bf2fb5d7ad9db0e5cbc8427588da1b50118bea22eb5ecc32bfc88", func := "truchman/truchmanlaw15.JwriteRight", spec := "jwriteRight", unfollowed := true, recurses := true, apart := false }
def JwriteRightSaid : Prop := jwriteRightRow.holds Try.pinned (OpenSpec.ofChange jwriteRightSpec)

/-- ITS FALSE NEIGHBOUR: 'it returns false'. Refute it at one input. -/
def jwriteRightWrong : ChangeSpec := { name := "jwriteRight", fn := fun _ => fun
  | [d] => { results := [.lit (.bool false)], args := [d] }
  | _ => none }
def JwriteRightWrongFalsely : Prop := jwriteRightRow.holds Try.pinned (OpenSpec.ofChange jwriteRightWrong)

/- THE SECOND FORM. 'bulk': how many values and letters a reading holds, each counted each time it is reached (what is shared counts as often as it is met; a slice's spare places count too). A statement '..UptoSaid' is the law's where the arguments, and the package variables that the reading takes, are together of bulk at most 1048576: NARROWER than '..Said'. Prove '..Said' where nothing that the law and all that it calls make is longer than what came in: it says more and counts as full. Else prove '..UptoSaid'. A law counts once. -/
mutual
def uptoBulk {H : Type} : DataW H → Nat
  | .lit (.string bytes) => bytes.length + 1
  | .lit _ => 1
  | .nil => 1
  | .ptr d => uptoBulk d + 1
  | .slice elems spare => uptoBulkAll elems + uptoBulkAll spare + 1
  | .agg parts => uptoBulkAll parts + 1
  | .iface _ d => uptoBulk d + 1
  | .map entries => uptoBulkEntries entries + 1
  | .held _ => 1
def uptoBulkAll {H : Type} : List (DataW H) → Nat
  | [] => 0
  | d :: r => uptoBulk d + uptoBulkAll r
def uptoBulkEntries {H : Type} : List (Lit × DataW H) → Nat
  | [] => 0
  | x :: r => uptoBulkEntry x + uptoBulkEntries r
def uptoBulkEntry {H : Type} : Lit × DataW H → Nat
  | (.string bytes, d) => bytes.length + uptoBulk d + 1
  | (_, d) => uptoBulk d + 1
 end
def uptoSmall : (H : Type) → List (DataW H) → Bool := fun _ ds => decide (uptoBulkAll ds ≤ 1048576)
def OpenSpec.upto (s : _root_.Go.ChangeSpec) : _root_.Go.OpenSpec := { _root_.Go.OpenSpec.ofChange s with cond := some uptoSmall }

/-- 'truchmanlaw12.JtokenBlanks', WHERE WHAT IT READS IS OF BULK AT MOST 1048576: true; the input reads as it did. -/
def jtokenBlanksUptoRow : OpenClaim := { program := "ytllncocibkgjkaa", sum := "93213d3e034bf2fb5d7ad9db0e5cbc8427588da1b50118bea22eb5ecc32bfc88", func := "truchman/truchmanlaw12.JtokenBlanks", spec := "jtokenBlanks", unfollowed := true, recurses := true, apart := false, narrowed := true }
def JtokenBlanksUptoSaid : Prop := jtokenBlanksUptoRow.holds Try.pinned (OpenSpec.upto jtokenBlanksSpec)

/-- 'truchmanlaw12.JtokenPuts', WHERE WHAT IT READS IS OF BULK AT MOST 1048576: true; the input reads as it did. -/
def jtokenPutsUptoRow : OpenClaim := { program := "ytllncocibkgjkaa", sum := "93213d3e034bf2fb5d7ad9db0e5cbc8427588da1b50118bea22eb5ecc32bfc88", func := "truchman/truchmanlaw12.JtokenPuts", spec := "jtokenPuts", unfollowed := true, recurses := true, apart := false, narrowed := true }
def JtokenPutsUptoSaid : Prop := jtokenPutsUptoRow.holds Try.pinned (OpenSpec.upto jtokenPutsSpec)

/-- 'truchmanlaw12.JtokenAll', WHERE WHAT IT READS IS OF BULK AT MOST 1048576: true; the input reads as it did. -/
def jtokenAllUptoRow : OpenClaim := { program := "ytllncocibkgjkaa", sum := "93213d3e034bf2fb5d7ad9db0e5cbc8427588da1b50118bea22eb5ecc32bfc88", func := "truchman/truchmanlaw12.JtokenAll", spec := "jtokenAll", unfollowed := true, recurses := true, apart := false, narrowed := true }
def JtokenAllUptoSaid : Prop := jtokenAllUptoRow.holds Try.pinned (OpenSpec.upto jtokenAllSpec)

/-- 'truchmanlaw13.JtreeReads', WHERE WHAT IT READS IS OF BULK AT MOST 1048576: true; the input reads as it did. -/
def jtreeReadsUptoRow : OpenClaim := { program := "ytllncocibkgjkaa", sum := "93213d3e034bf2fb5d7ad9db0e5cbc8427588da1b50118bea22eb5ecc32bfc88", func := "truchman/truchmanlaw13.JtreeReads", spec := "jtreeReads", unfollowed := true, recurses := true, apart := false, narrowed := true }
def JtreeReadsUptoSaid : Prop := jtreeReadsUptoRow.holds Try.pinned (OpenSpec.upto jtreeReadsSpec)

/-- 'truchmanlaw13.JtreeBack', WHERE WHAT IT READS IS OF BULK AT MOST 1048576: true; the input reads as it did. -/
def jtreeBackUptoRow : OpenClaim := { program := "ytllncocibkgjkaa", sum := "93213d3e034bf2fb5d7ad9db0e5cbc8427588da1b50118bea22eb5ecc32bfc88", func := "truchman/truchmanlaw13.JtreeBack", spec := "jtreeBack", unfollowed := true, recurses := true, apart := false, narrowed := true }
def JtreeBackUptoSaid : Prop := jtreeBackUptoRow.holds Try.pinned (OpenSpec.upto jtreeBackSpec)

/-- 'truchmanlaw13.JtreeDeep', WHERE WHAT IT READS IS OF BULK AT MOST 1048576: true; the input reads as it did. -/
def jtreeDeepUptoRow : OpenClaim := { program := "ytllncocibkgjkaa", sum := "93213d3e034bf2fb5d7ad9db0e5cbc8427588da1b50118bea22eb5ecc32bfc88", func := "truchman/truchmanlaw13.JtreeDeep", spec := "jtreeDeep", unfollowed := true, recurses := true, apart := false, narrowed := true }
def JtreeDeepUptoSaid : Prop := jtreeDeepUptoRow.holds Try.pinned (OpenSpec.upto jtreeDeepSpec)

/-- 'truchmanlaw15.JwriteRight', WHERE WHAT IT READS IS OF BULK AT MOST 1048576: true; the input reads as it did. -/
def jwriteRightUptoRow : OpenClaim := { program := "ytllncocibkgjkaa", sum := "93213d3e034bf2fb5d7ad9db0e5cbc8427588da1b50118bea22eb5ecc32bfc88", func := "truchman/truchmanlaw15.JwriteRight", spec := "jwriteRight", unfollowed := true, recurses := true, apart := false, narrowed := true }
def JwriteRightUptoSaid : Prop := jwriteRightUptoRow.holds Try.pinned (OpenSpec.upto jwriteRightSpec)

end Rows
end Go.Proofs.Ytllncocibkgjkaa
