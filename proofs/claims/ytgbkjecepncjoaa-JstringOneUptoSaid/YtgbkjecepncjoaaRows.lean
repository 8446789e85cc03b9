/-
  No cell of these rows narrows 'for every input' (looked for: loops, veiled, ifaces, maps, wideKeys, modest, calm, conditions, laid).
  DERIVED. THE GIVEN ROWS OF THIS SEAT. 4 by the template 'for every input the law returns true; each argument reads behind the call as it read before'; 0 by the template 'total and deterministic' (their statements: YtgbkjecepncjoaaTotals.lean).
  GIVEN WITH THE SEED: the statements are not yours to turn. If you find one false, say at which input.
  Laid BY PROGRAM, IN A SANDBOX (cutbox-rows.mjs): the forced cells as the released guide's own fill.sh prints them over the translation 0f664ab0b3c80c4f… (all of the seat's roots in one cut). By AI agents, Wed Nov 11 2026. No macro, syntax, notation, axiom, sorry.
-/
import Derived.Test.YtgbkjecepncjoaaChecked
import GoSem.Claim
import GoSem.ClaimJoined
import GoSem.ClaimMapViews
import Derived.JoinedTies
import Derived.KernelRfl
namespace Go.Proofs.Ytgbkjecepncjoaa
/- THE CELL 'sum', in the pinned program and in every row, IS THE sha256 OF THE DUMP (.gsa) THAT YtgbkjecepncjoaaProg.lean LOADS. Nothing in Lean hashes anything: it is a label: what it is worth is what the hold of that sum in a sandbox is worth. -/
noncomputable def Try.pinned : Pinned := { name := "ytgbkjecepncjoaa", sum := "0f664ab0b3c80c4f2be083e3eec0f1cec3743e4b7d70776ca6e518ec27977ff2", checked := Try.checked }
namespace Rows
def none {H : Type} : Left H := { results := [], args := [] }

/-- 'truchmanlaw15.JwriteScript': WHATEVER THE INPUT: true; the input reads as it did. -/
def jwriteScriptSpec : ChangeSpec := { name := "jwriteScript", fn := fun _ => fun
  | [d] => { results := [.lit (.bool true)], args := [d] }
  | _ => none }
def jwriteScriptRow : OpenClaim := { program := "ytgbkjecepncjoaa", sum := "0f664ab0b3c80c4f2be083e3eec0f1cec3743e4b7d70776ca6e518ec27977ff2", func := "truchman/truchmanlaw15.JwriteScript", spec := "jwriteScript", unfollowed := true, recurses := true, apart := false }
def JwriteScriptSaid : Prop := jwriteScriptRow.holds Try.pinned (OpenSpec.ofChange jwriteScriptSpec)

/-- ITS FALSE NEIGHBOUR: 'it returns false'. Refute it at one input. -/
def jwriteScriptWrong : ChangeSpec := { name := "jwriteScript", fn := fun _ => fun
  | [d] => { results := [.lit (.bool false)], args := [d] }
  | _ => none }
def JwriteScriptWrongFalsely : Prop := jwriteScriptRow.holds Try.pinned (OpenSpec.ofChange jwriteScriptWrong)

/-- 'truchmanlaw10.JstringBack': WHATEVER THE INPUT: true; the input reads as it did. -/
def jstringBackSpec : ChangeSpec := { name := "jstringBack", fn := fun _ => fun
  | [d1, d2, d3] => { results := [.lit (.bool true)], args := [d1, d2, d3] }
  | _ => none }
def jstringBackRow : OpenClaim := { program := "ytgbkjecepncjoaa", sum := "0f664ab0b3c80c4f2be083e3eec0f1cec3743e4b7d70776ca6e518ec27977ff2", func := "truchman/truchmanlaw10.JstringBack", spec := "jstringBack", unfollowed := true, recurses := true, apart := false }
def JstringBackSaid : Prop := jstringBackRow.holds Try.pinned (OpenSpec.ofChange jstringBackSpec)

/-- ITS FALSE NEIGHBOUR: 'it returns false'. Refute it at one input. -/
def jstringBackWrong : ChangeSpec := { name := "jstringBack", fn := fun _ => fun
  | [d1, d2, d3] => { results := [.lit (.bool false)], args := [d1, d2, d3] }
  | _ => none }
def JstringBackWrongFalsely : Prop := jstringBackRow.holds Try.pinned (OpenSpec.ofChange jstringBackWrong)

/-- 'truchmanlaw10.JstringReads': WHATEVER THE INPUT: true; the input reads as it did. -/
def jstringReadsSpec : ChangeSpec := { name := "jstringReads", fn := fun _ => fun
  | [d] => { results := [.lit (.bool true)], args := [d] }
  | _ => none }
def jstringReadsRow : OpenClaim := { program := "ytgbkjecepncjoaa", sum := "0f664ab0b3c80c4f2be083e3eec0f1cec3743e4b7d70776ca6e518ec27977ff2", func := "truchman/truchmanlaw10.JstringReads", spec := "jstringReads", unfollowed := true, recurses := true, apart := false }
def JstringReadsSaid : Prop := jstringReadsRow.holds Try.pinned (OpenSpec.ofChange jstringReadsSpec)

/-- ITS FALSE NEIGHBOUR: 'it returns false'. Refute it at one input. -/
def jstringReadsWrong : ChangeSpec := { name := "jstringReads", fn := fun _ => fun
  | [d] => { results := [.lit (.bool false)], args := [d] }
  | _ => none }
def JstringReadsWrongFalsely : Prop := jstringReadsRow.holds Try.pinned (OpenSpec.ofChange jstringReadsWrong)

/-- 'truchmanlaw10.JstringOne': WHATEVER THE INPUT: true; the input reads as it did. -/
def jstringOneSpec : ChangeSpec := { name := "jstringOne", fn := fun _ => fun
  | [d1, d2] => { results := [.lit (.bool true)], args := [d1, d2] }
  | _ => none }
def jstringOneRow : OpenClaim := { program := "ytgbkjecepncjoaa", sum := "0f664ab0b3c80c4f2be083e3eec0f1cec3743e4b7d70776ca6e518ec27977ff2", func := "truchman/truchmanlaw10.JstringOne", spec := "jstringOne", unfollowed := true, recurses := true, apart := false }
def JstringOneSaid : Prop := jstringOneRow.holds Try.pinned (OpenSpec.ofChange jstringOneSpec)

/-- ITS FALSE NEIGHBOUR: 'it returns false'. Refute it at one input. -/
def jstringOneWrong : ChangeSpec := { name := "jstringOne", fn := fun _ => fun
  | [d1, d2] => { results := [.lit (.bool false)], args := [d1, d2] }
  | _ => none }
def JstringOneWrongFalsely : Prop := jstringOneRow.holds Try.pinned (OpenSpec.ofChange jstringOneWrong)

/- THE SECOND FORM. 'bulk': how many values and letters a reading holds, each counted each time it is reached (what is shared counts as often as it is met; a slice's spare places count too). A statement '..UptoSaid' is the law's where the arguments, and the package variables that the reading takes, are together of bulk at most 1048576: NARROWER than '..Said'. Prove '..Said' where nothing that the law and all that it calls make is longer than what came in: it says more and counts as full. Else prove '..UptoSaid'. A law counts once. -/
mutual
def uptoBulk {H : Type} : DataW H → Nat
  | .lit (.string bytes) => bytes.length + 1
  | .lit _ => 1
  | .nil => 1
  | .ptr d => uptoBulk d + 1
  | .slice elems spare => uptoBulkAll elems + uptoBulkAll spare + 1
  | .agg parts => uptoBulkAll parts + 1
  | .iface _ d => uptoBulk d + 1
  | .map entries => uptoBulkEntries entries + 1
  | .held _ => 1
def uptoBulkAll {H : Type} : List (DataW H) → Nat
  | [] => 0
  | d :: r => uptoBulk d + uptoBulkAll r
def uptoBulkEntries {H : Type} : List (Lit × DataW H) → Nat
  | [] => 0
  | x :: r => uptoBulkEntry x + uptoBulkEntries r
def uptoBulkEntry {H : Type} : Lit × DataW H → Nat
  | (.string bytes, d) => bytes.length + uptoBulk d + 1
  | (_, d) => uptoBulk d + 1
 end
def uptoSmall : (H : Type) → List (DataW H) → Bool := fun _ ds => decide (uptoBulkAll ds ≤ 1048576)
def OpenSpec.upto (s : _root_.Go.ChangeSpec) : _root_.Go.OpenSpec := { _root_.Go.OpenSpec.ofChange s with cond := some uptoSmall }

/-- 'truchmanlaw15.JwriteScript', WHERE WHAT IT READS IS OF BULK AT MOST 1048576: true; the input reads as it did. -/
def jwriteScriptUptoRow : OpenClaim := { program := "ytgbkjecepncjoaa", sum := "0f664ab0b3c80c4f2be083e3eec0f1cec3743e4b7d70776ca6e518ec27977ff2", func := "truchman/truchmanlaw15.JwriteScript", spec := "jwriteScript", unfollowed := true, recurses := true, apart := false, narrowed := true }
def JwriteScriptUptoSaid : Prop := jwriteScriptUptoRow.holds Try.pinned (OpenSpec.upto jwriteScriptSpec)

/-- 'truchmanlaw10.JstringBack', WHERE WHAT IT READS IS OF BULK AT MOST 1048576: true; the input reads as it did. -/
def jstringBackUptoRow : OpenClaim := { program := "ytgbkjecepncjoaa", sum := "0f664ab0b3c80c4f2be083e3eec0f1cec3743e4b7d70776ca6e518ec27977ff2", func := "truchman/truchmanlaw10.JstringBack", spec := "jstringBack", unfollowed := true, recurses := true, apart := false, narrowed := true }
def JstringBackUptoSaid : Prop := jstringBackUptoRow.holds Try.pinned (OpenSpec.upto jstringBackSpec)

/-- 'truchmanlaw10.JstringReads', WHERE WHAT IT READS IS OF BULK AT MOST 1048576: true; the input reads as it did. -/
def jstringReadsUptoRow : OpenClaim := { program := "ytgbkjecepncjoaa", sum := "0f664ab0b3c80c4f2be083e3eec0f1cec3743e4b7d70776ca6e518ec27977ff2", func := "truchman/truchmanlaw10.JstringReads", spec := "jstringReads", unfollowed := true, recurses := true, apart := false, narrowed := true }
def JstringReadsUptoSaid : Prop := jstringReadsUptoRow.holds Try.pinned (OpenSpec.upto jstringReadsSpec)

/-- 'truchmanlaw10.JstringOne', WHERE WHAT IT READS IS OF BULK AT MOST 1048576: true; the input reads as it did. -/
def jstringOneUptoRow : OpenClaim := { program := "ytgbkjecepncjoaa", sum := "0f664ab0b3c80c4f2be083e3eec0f1cec3743e4b7d70776ca6e518ec27977ff2", func := "truchman/truchmanlaw10.JstringOne", spec := "jstringOne", unfollowed := true, recurses := true, apart := false, narrowed := true }
def JstringOneUptoSaid : Prop := jstringOneUptoRow.holds Try.pinned (OpenSpec.upto jstringOneSpec)

end Rows
end Go.Proofs.Ytgbkjecepncjoaa
