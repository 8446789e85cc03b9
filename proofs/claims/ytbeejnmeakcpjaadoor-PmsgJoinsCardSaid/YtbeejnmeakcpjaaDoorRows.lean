/-
  NARROWER THAN 'FOR EVERY INPUT', by the rows' own cells (each row's printed sentence says how): PmsgTells: laid · PreadBack: laid · PreadJoins: laid · PreadAll: laid · PmsgLast: laid · PmsgJoins: laid · PwriteReads: laid.
  DERIVED. THE GIVEN ROWS OF THIS SEAT. 7 by the template 'for every input the law returns true; each argument reads behind the call as it read before'; 0 by the template 'total and deterministic' (their statements: YtbeejnmeakcpjaaDoorTotals.lean).
  GIVEN WITH THE SEED: the statements are not yours to turn. If you find one false, say at which input.
  Laid BY PROGRAM, IN A SANDBOX (cutbox-rows.mjs): the forced cells as the released guide's own fill.sh prints them over the translation 1708a33bfdbc995b… (all of the seat's roots in one cut). By AI agents, Wed Nov 11 2026. No macro, syntax, notation, axiom, sorry.
-/
import Derived.Test.YtbeejnmeakcpjaaDoorChecked
import GoSem.Claim
import GoSem.ClaimJoined
import GoSem.ClaimMapViews
import Derived.JoinedTies
import Derived.KernelRfl
namespace Go.Proofs.YtbeejnmeakcpjaaDoor
/- THE CELL 'sum', in the pinned program and in every row, IS THE sha256 OF THE DUMP (.gsa) THAT YtbeejnmeakcpjaaDoorProg.lean LOADS. Nothing in Lean hashes anything: it is a label: what it is worth is what the hold of that sum in a sandbox is worth. -/
noncomputable def Tryd.pinned : Pinned := { name := "ytbeejnmeakcpjaadoor", sum := "1708a33bfdbc995bc8c6f6fcffbd7c87e6b733762d8ef1b4ace193cf06d1a0c0", checked := Tryd.checked }
namespace Rows
def none {H : Type} : Left H := { results := [], args := [] }

/- WHAT THE LISTED PACKAGE-LEVEL VARIABLES READ AS WHEN THE CALL BEGINS. Each datum BY PROGRAM (the guide's laid-datum.mjs) off the statement by which the dump's own 'gosem.cut.vars' lays the variable. In a bare row this is a premise. The card (YtbeejnmeakcpjaaDoorCards.lean) ties it to the program's text. -/
def laid_truchman_ptag_none {H : Type} : DataW H := .agg [.lit (.int .i64 0), .lit (.int .i64 0)]
def laid_truchman_word_highs {H : Type} : DataW H := .agg [.lit (.int .u8 56), .lit (.int .u8 48), .lit (.int .u8 40), .lit (.int .u8 32), .lit (.int .u8 24), .lit (.int .u8 16), .lit (.int .u8 8), .lit (.int .u8 0)]

/-- 'truchmanlaw18.PmsgTells': WHATEVER THE INPUT: true; the input reads as it did. -/
def pmsgTellsSpec : ChangeSpec := { name := "pmsgTells", fn := fun _ => fun
  | [d1, d2, d3] => { results := [.lit (.bool true)], args := [d1, d2, d3] }
  | _ => none }
def pmsgTellsRow : OpenClaim := { program := "ytbeejnmeakcpjaadoor", sum := "1708a33bfdbc995bc8c6f6fcffbd7c87e6b733762d8ef1b4ace193cf06d1a0c0", func := "truchman/truchmanlaw18.PmsgTells", spec := "pmsgTells", unfollowed := true, recurses := true, named := ["truchman/ptag.none"], plainKeys := false, apart := false, laid := [("truchman/ptag.none", laid_truchman_ptag_none)] }
def PmsgTellsSaid : Prop := pmsgTellsRow.holds Tryd.pinned (OpenSpec.ofChange pmsgTellsSpec)

/-- ITS FALSE NEIGHBOUR: 'it returns false'. Refute it at one input. -/
def pmsgTellsWrong : ChangeSpec := { name := "pmsgTells", fn := fun _ => fun
  | [d1, d2, d3] => { results := [.lit (.bool false)], args := [d1, d2, d3] }
  | _ => none }
def PmsgTellsWrongFalsely : Prop := pmsgTellsRow.holds Tryd.pinned (OpenSpec.ofChange pmsgTellsWrong)

/-- 'truchmanlaw17.PreadBack': WHATEVER THE INPUT: true; the input reads as it did. -/
def preadBackSpec : ChangeSpec := { name := "preadBack", fn := fun _ => fun
  | [d1, d2] => { results := [.lit (.bool true)], args := [d1, d2] }
  | _ => none }
def preadBackRow : OpenClaim := { program := "ytbeejnmeakcpjaadoor", sum := "1708a33bfdbc995bc8c6f6fcffbd7c87e6b733762d8ef1b4ace193cf06d1a0c0", func := "truchman/truchmanlaw17.PreadBack", spec := "preadBack", unfollowed := true, recurses := true, named := ["truchman/word.highs", "truchman/ptag.none"], plainKeys := false, apart := false, laid := [("truchman/ptag.none", laid_truchman_ptag_none), ("truchman/word.highs", laid_truchman_word_highs)] }
def PreadBackSaid : Prop := preadBackRow.holds Tryd.pinned (OpenSpec.ofChange preadBackSpec)

/-- ITS FALSE NEIGHBOUR: 'it returns false'. Refute it at one input. -/
def preadBackWrong : ChangeSpec := { name := "preadBack", fn := fun _ => fun
  | [d1, d2] => { results := [.lit (.bool false)], args := [d1, d2] }
  | _ => none }
def PreadBackWrongFalsely : Prop := preadBackRow.holds Tryd.pinned (OpenSpec.ofChange preadBackWrong)

/-- 'truchmanlaw17.PreadJoins': WHATEVER THE INPUT: true; the input reads as it did. -/
def preadJoinsSpec : ChangeSpec := { name := "preadJoins", fn := fun _ => fun
  | [d1, d2] => { results := [.lit (.bool true)], args := [d1, d2] }
  | _ => none }
def preadJoinsRow : OpenClaim := { program := "ytbeejnmeakcpjaadoor", sum := "1708a33bfdbc995bc8c6f6fcffbd7c87e6b733762d8ef1b4ace193cf06d1a0c0", func := "truchman/truchmanlaw17.PreadJoins", spec := "preadJoins", unfollowed := true, recurses := true, named := ["truchman/ptag.none", "truchman/word.highs"], plainKeys := false, apart := false, laid := [("truchman/ptag.none", laid_truchman_ptag_none), ("truchman/word.highs", laid_truchman_word_highs)] }
def PreadJoinsSaid : Prop := preadJoinsRow.holds Tryd.pinned (OpenSpec.ofChange preadJoinsSpec)

/-- ITS FALSE NEIGHBOUR: 'it returns false'. Refute it at one input. -/
def preadJoinsWrong : ChangeSpec := { name := "preadJoins", fn := fun _ => fun
  | [d1, d2] => { results := [.lit (.bool false)], args := [d1, d2] }
  | _ => none }
def PreadJoinsWrongFalsely : Prop := preadJoinsRow.holds Tryd.pinned (OpenSpec.ofChange preadJoinsWrong)

/-- 'truchmanlaw17.PreadAll': WHATEVER THE INPUT: true; the input reads as it did. -/
def preadAllSpec : ChangeSpec := { name := "preadAll", fn := fun _ => fun
  | [d] => { results := [.lit (.bool true)], args := [d] }
  | _ => none }
def preadAllRow : OpenClaim := { program := "ytbeejnmeakcpjaadoor", sum := "1708a33bfdbc995bc8c6f6fcffbd7c87e6b733762d8ef1b4ace193cf06d1a0c0", func := "truchman/truchmanlaw17.PreadAll", spec := "preadAll", unfollowed := true, recurses := true, named := ["truchman/ptag.none", "truchman/word.highs"], plainKeys := false, apart := false, laid := [("truchman/ptag.none", laid_truchman_ptag_none), ("truchman/word.highs", laid_truchman_word_highs)] }
def PreadAllSaid : Prop := preadAllRow.holds Tryd.pinned (OpenSpec.ofChange preadAllSpec)

/-- ITS FALSE NEIGHBOUR: 'it returns false'. Refute it at one input. -/
def preadAllWrong : ChangeSpec := { name := "preadAll", fn := fun _ => fun
  | [d] => { results := [.lit (.bool false)], args := [d] }
  | _ => none }
def PreadAllWrongFalsely : Prop := preadAllRow.holds Tryd.pinned (OpenSpec.ofChange preadAllWrong)

/-- 'truchmanlaw18.PmsgLast': WHATEVER THE INPUT: true; the input reads as it did. -/
def pmsgLastSpec : ChangeSpec := { name := "pmsgLast", fn := fun _ => fun
  | [d1, d2] => { results := [.lit (.bool true)], args := [d1, d2] }
  | _ => none }
def pmsgLastRow : OpenClaim := { program := "ytbeejnmeakcpjaadoor", sum := "1708a33bfdbc995bc8c6f6fcffbd7c87e6b733762d8ef1b4ace193cf06d1a0c0", func := "truchman/truchmanlaw18.PmsgLast", spec := "pmsgLast", unfollowed := true, recurses := true, named := ["truchman/ptag.none", "truchman/word.highs"], plainKeys := false, apart := false, laid := [("truchman/ptag.none", laid_truchman_ptag_none), ("truchman/word.highs", laid_truchman_word_highs)] }
def PmsgLastSaid : Prop := pmsgLastRow.holds Tryd.pinned (OpenSpec.ofChange pmsgLastSpec)

/-- ITS FALSE NEIGHBOUR: 'it returns false'. Refute it at one input. -/
def pmsgLastWrong : ChangeSpec := { name := "pmsgLast", fn := fun _ => fun
  | [d1, d2] => { results := [.lit (.bool false)], args := [d1, d2] }
  | _ => none }
def PmsgLastWrongFalsely : Prop := pmsgLastRow.holds Tryd.pinned (OpenSpec.ofChange pmsgLastWrong)

/-- 'truchmanlaw18.PmsgJoins': WHATEVER THE INPUT: true; the input reads as it did. -/
def pmsgJoinsSpec : ChangeSpec := { name := "pmsgJoins", fn := fun _ => fun
  | [d1, d2] => { results := [.lit (.bool true)], args := [d1, d2] }
  | _ => none }
def pmsgJoinsRow : OpenClaim := { program := "ytbeejnmeakcpjaadoor", sum := "1708a33bfdbc995bc8c6f6fcffbd7c87e6b733762d8ef1b4ace193cf06d1a0c0", func := "truchman/truchmanlaw18.PmsgJoins", spec := "pmsgJoins", unfollowed := true, recurses := true, named := ["truchman/ptag.none", "truchman/word.highs"], plainKeys := false, apart := false, laid := [("truchman/ptag.none", laid_truchman_ptag_none), ("truchman/word.highs", laid_truchman_word_highs)] }
def PmsgJoinsSaid : Prop := pmsgJoinsRow.holds Tryd.pinned (OpenSpec.ofChange pmsgJoinsSpec)

/-- ITS FALSE NEIGHBOUR: 'it returns false'. Refute it at one input. -/
def pmsgJoinsWrong : ChangeSpec := { name := "pmsgJoins", fn := fun _ => fun
  | [d1, d2] => { results := [.lit (.bool false)], args := [d1, d2] }
  | _ => none }
def PmsgJoinsWrongFalsely : Prop := pmsgJoinsRow.holds Tryd.pinned (OpenSpec.ofChange pmsgJoinsWrong)

/-- 'truchmanlaw19.PwriteReads': WHATEVER THE INPUT: true; the input reads as it did. -/
def pwriteReadsSpec : ChangeSpec := { name := "pwriteReads", fn := fun _ => fun
  | [d] => { results := [.lit (.bool true)], args := [d] }
  | _ => none }
def pwriteReadsRow : OpenClaim := { program := "ytbeejnmeakcpjaadoor", sum := "1708a33bfdbc995bc8c6f6fcffbd7c87e6b733762d8ef1b4ace193cf06d1a0c0", func := "truchman/truchmanlaw19.PwriteReads", spec := "pwriteReads", unfollowed := true, recurses := true, named := ["truchman/ptag.none", "truchman/word.highs"], plainKeys := false, apart := false, laid := [("truchman/ptag.none", laid_truchman_ptag_none), ("truchman/word.highs", laid_truchman_word_highs)] }
def PwriteReadsSaid : Prop := pwriteReadsRow.holds Tryd.pinned (OpenSpec.ofChange pwriteReadsSpec)

/-- ITS FALSE NEIGHBOUR: 'it returns false'. Refute it at one input. -/
def pwriteReadsWrong : ChangeSpec := { name := "pwriteReads", fn := fun _ => fun
  | [d] => { results := [.lit (.bool false)], args := [d] }
  | _ => none }
def PwriteReadsWrongFalsely : Prop := pwriteReadsRow.holds Tryd.pinned (OpenSpec.ofChange pwriteReadsWrong)

/- THE SECOND FORM. 'bulk': how many values and letters a reading holds, each counted each time it is reached (what is shared counts as often as it is met; a slice's spare places count too). A statement '..UptoSaid' is the law's where the arguments, and the package variables that the reading takes, are together of bulk at most 1048576: NARROWER than '..Said'. Prove '..Said' where nothing that the law and all that it calls make is longer than what came in: it says more and counts as full. Else prove '..UptoSaid'. A law counts once. -/
mutual
def uptoBulk {H : Type} : DataW H → Nat
  | .lit (.string bytes) => bytes.length + 1
  | .lit _ => 1
  | .nil => 1
  | .ptr d => uptoBulk d + 1
  | .slice elems spare => uptoBulkAll elems + uptoBulkAll spare + 1
  | .agg parts => uptoBulkAll parts + 1
  | .iface _ d => uptoBulk d + 1
  | .map entries => uptoBulkEntries entries + 1
  | .held _ => 1
def uptoBulkAll {H : Type} : List (DataW H) → Nat
  | [] => 0
  | d :: r => uptoBulk d + uptoBulkAll r
def uptoBulkEntries {H : Type} : List (Lit × DataW H) → Nat
  | [] => 0
  | x :: r => uptoBulkEntry x + uptoBulkEntries r
def uptoBulkEntry {H : Type} : Lit × DataW H → Nat
  | (.string bytes, d) => bytes.length + uptoBulk d + 1
  | (_, d) => uptoBulk d + 1
 end
def uptoSmall : (H : Type) → List (DataW H) → Bool := fun _ ds => decide (uptoBulkAll ds ≤ 1048576)
def OpenSpec.upto (s : _root_.Go.ChangeSpec) : _root_.Go.OpenSpec := { _root_.Go.OpenSpec.ofChange s with cond := some uptoSmall }

/-- 'truchmanlaw18.PmsgTells', WHERE WHAT IT READS IS OF BULK AT MOST 1048576: true; the input reads as it did. -/
def pmsgTellsUptoRow : OpenClaim := { program := "ytbeejnmeakcpjaadoor", sum := "1708a33bfdbc995bc8c6f6fcffbd7c87e6b733762d8ef1b4ace193cf06d1a0c0", func := "truchman/truchmanlaw18.PmsgTells", spec := "pmsgTells", unfollowed := true, recurses := true, named := ["truchman/ptag.none"], plainKeys := false, apart := false, laid := [("truchman/ptag.none", laid_truchman_ptag_none)], narrowed := true }
def PmsgTellsUptoSaid : Prop := pmsgTellsUptoRow.holds Tryd.pinned (OpenSpec.upto pmsgTellsSpec)

/-- 'truchmanlaw17.PreadBack', WHERE WHAT IT READS IS OF BULK AT MOST 1048576: true; the input reads as it did. -/
def preadBackUptoRow : OpenClaim := { program := "ytbeejnmeakcpjaadoor", sum := "1708a33bfdbc995bc8c6f6fcffbd7c87e6b733762d8ef1b4ace193cf06d1a0c0", func := "truchman/truchmanlaw17.PreadBack", spec := "preadBack", unfollowed := true, recurses := true, named := ["truchman/word.highs", "truchman/ptag.none"], plainKeys := false, apart := false, laid := [("truchman/ptag.none", laid_truchman_ptag_none), ("truchman/word.highs", laid_truchman_word_highs)], narrowed := true }
def PreadBackUptoSaid : Prop := preadBackUptoRow.holds Tryd.pinned (OpenSpec.upto preadBackSpec)

/-- 'truchmanlaw17.PreadJoins', WHERE WHAT IT READS IS OF BULK AT MOST 1048576: true; the input reads as it did. -/
def preadJoinsUptoRow : OpenClaim := { program := "ytbeejnmeakcpjaadoor", sum := "1708a33bfdbc995bc8c6f6fcffbd7c87e6b733762d8ef1b4ace193cf06d1a0c0", func := "truchman/truchmanlaw17.PreadJoins", spec := "preadJoins", unfollowed := true, recurses := true, named := ["truchman/ptag.none", "truchman/word.highs"], plainKeys := false, apart := false, laid := [("truchman/ptag.none", laid_truchman_ptag_none), ("truchman/word.highs", laid_truchman_word_highs)], narrowed := true }
def PreadJoinsUptoSaid : Prop := preadJoinsUptoRow.holds Tryd.pinned (OpenSpec.upto preadJoinsSpec)

/-- 'truchmanlaw17.PreadAll', WHERE WHAT IT READS IS OF BULK AT MOST 1048576: true; the input reads as it did. -/
def preadAllUptoRow : OpenClaim := { program := "ytbeejnmeakcpjaadoor", sum := "1708a33bfdbc995bc8c6f6fcffbd7c87e6b733762d8ef1b4ace193cf06d1a0c0", func := "truchman/truchmanlaw17.PreadAll", spec := "preadAll", unfollowed := true, recurses := true, named := ["truchman/ptag.none", "truchman/word.highs"], plainKeys := false, apart := false, laid := [("truchman/ptag.none", laid_truchman_ptag_none), ("truchman/word.highs", laid_truchman_word_highs)], narrowed := true }
def PreadAllUptoSaid : Prop := preadAllUptoRow.holds Tryd.pinned (OpenSpec.upto preadAllSpec)

/-- 'truchmanlaw18.PmsgLast', WHERE WHAT IT READS IS OF BULK AT MOST 1048576: true; the input reads as it did. -/
def pmsgLastUptoRow : OpenClaim := { program := "ytbeejnmeakcpjaadoor", sum := "1708a33bfdbc995bc8c6f6fcffbd7c87e6b733762d8ef1b4ace193cf06d1a0c0", func := "truchman/truchmanlaw18.PmsgLast", spec := "pmsgLast", unfollowed := true, recurses := true, named := ["truchman/ptag.none", "truchman/word.highs"], plainKeys := false, apart := false, laid := [("truchman/ptag.none", laid_truchman_ptag_none), ("truchman/word.highs", laid_truchman_word_highs)], narrowed := true }
def PmsgLastUptoSaid : Prop := pmsgLastUptoRow.holds Tryd.pinned (OpenSpec.upto pmsgLastSpec)

/-- 'truchmanlaw18.PmsgJoins', WHERE WHAT IT READS IS OF BULK AT MOST 1048576: true; the input reads as it did. -/
def pmsgJoinsUptoRow : OpenClaim := { program := "ytbeejnmeakcpjaadoor", sum := "1708a33bfdbc995bc8c6f6fcffbd7c87e6b733762d8ef1b4ace193cf06d1a0c0", func := "truchman/truchmanlaw18.PmsgJoins", spec := "pmsgJoins", unfollowed := true, recurses := true, named := ["truchman/ptag.none", "truchman/word.highs"], plainKeys := false, apart := false, laid := [("truchman/ptag.none", laid_truchman_ptag_none), ("truchman/word.highs", laid_truchman_word_highs)], narrowed := true }
def PmsgJoinsUptoSaid : Prop := pmsgJoinsUptoRow.holds Tryd.pinned (OpenSpec.upto pmsgJoinsSpec)

/-- 'truchmanlaw19.PwriteReads', WHERE WHAT IT READS IS OF BULK AT MOST 1048576: true; the input reads as it did. -/
def pwriteReadsUptoRow : OpenClaim := { program := "ytbeejnmeakcpjaadoor", sum := "1708a33bfdbc995bc8c6f6fcffbd7c87e6b733762d8ef1b4ace193cf06d1a0c0", func := "truchman/truchmanlaw19.PwriteReads", spec := "pwriteReads", unfollowed := true, recurses := true, named := ["truchman/ptag.none", "truchman/word.highs"], plainKeys := false, apart := false, laid := [("truchman/ptag.none", laid_truchman_ptag_none), ("truchman/word.highs", laid_truchman_word_highs)], narrowed := true }
def PwriteReadsUptoSaid : Prop := pwriteReadsUptoRow.holds Tryd.pinned (OpenSpec.upto pwriteReadsSpec)

end Rows
end Go.Proofs.YtbeejnmeakcpjaaDoor
