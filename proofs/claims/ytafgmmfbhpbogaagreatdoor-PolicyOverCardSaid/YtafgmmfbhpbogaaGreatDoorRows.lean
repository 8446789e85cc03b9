/-
  NARROWER THAN 'FOR EVERY INPUT', by the rows' own cells (each row's printed sentence says how): PolicyOver: loops, laid.
  DERIVED. THE GIVEN ROWS OF THIS SEAT. 1 by the template 'for every input the law returns true; each argument reads behind the call as it read before'; 0 by the template 'total and deterministic' (their statements: YtafgmmfbhpbogaaGreatDoorTotals.lean).
  GIVEN WITH THE SEED: the statements are not yours to turn. If you find one false, say at which input.
  Laid BY PROGRAM, IN A SANDBOX (cutbox-rows.mjs): the forced cells as the released guide's own fill.sh prints them over the translation 22c61bf596a64359… (all of the seat's roots in one cut). By AI agents, Wed Nov 11 2026. No macro, syntax, notation, axiom, sorry.
-/
import Derived.Test.YtafgmmfbhpbogaaGreatDoorChecked
import GoSem.Claim
import GoSem.ClaimJoined
import GoSem.ClaimMapViews
import Derived.JoinedTies
import Derived.KernelRfl
namespace Go.Proofs.YtafgmmfbhpbogaaGreatDoor
/- THE CELL 'sum', in the pinned program and in every row, IS THE sha256 OF THE DUMP (.gsa) THAT YtafgmmfbhpbogaaGreatDoorProg.lean LOADS. Nothing in Lean hashes anything: it is a label: what it is worth is what the hold of that sum in a sandbox is worth. -/
noncomputable def Tryz.pinned : Pinned := { name := "ytafgmmfbhpbogaagreatdoor", sum := "22c61bf596a64359c89ea281f7d36f6a2732c924fbf5f049201a13c083c7e6e4", checked := Tryz.checked }
namespace Rows
def none {H : Type} : Left H := { results := [], args := [] }

/- WHAT THE LISTED PACKAGE-LEVEL VARIABLES READ AS WHEN THE CALL BEGINS. Each datum BY PROGRAM (the guide's laid-datum.mjs) off the statement by which the dump's own 'gosem.cut.vars' lays the variable. In a bare row this is a premise. The card (YtafgmmfbhpbogaaGreatDoorCards.lean) ties it to the program's text. -/
def laid_truchman_ptag_none {H : Type} : DataW H := .agg [.lit (.int .i64 0), .lit (.int .i64 0)]
def laid_truchman_word_highs {H : Type} : DataW H := .agg [.lit (.int .u8 56), .lit (.int .u8 48), .lit (.int .u8 40), .lit (.int .u8 32), .lit (.int .u8 24), .lit (.int .u8 16), .lit (.int .u8 8), .lit (.int .u8 0)]
def laid_errors_errorType {H : Type} : DataW H := .iface "internal/reflectlite.rtype" (.agg [.ptr (.lit (.string [101, 114, 114, 111, 114]))])
def laid_truchman_ovalue_numbers {H : Type} : DataW H := .agg [.lit (.int .i64 0), .lit (.int .i64 1), .lit (.int .i64 2), .lit (.int .i64 3), .lit (.int .i64 4), .lit (.int .i64 7), .lit (.int .i64 5), .lit (.int .i64 6)]
def laid_truchman_ovalue_wires {H : Type} : DataW H := .agg [.lit (.int .i64 0), .lit (.int .i64 2), .lit (.int .i64 0), .lit (.int .i64 0), .lit (.int .i64 1), .lit (.int .i64 2), .lit (.int .i64 2), .lit (.int .i64 2)]
def laid_truchman_gateway_parts {H : Type} : DataW H := .agg [.lit (.string []), .lit (.string [111, 116, 108, 112]), .lit (.string [106, 97, 101, 103, 101, 114]), .lit (.string [122, 105, 112, 107, 105, 110])]

/-- 'truchmanlaw48.PolicyOver': WHATEVER THE INPUT: true; the input reads as it did. -/
def policyOverSpec : ChangeSpec := { name := "policyOver", fn := fun _ => fun
  | [d1, d2, d3] => { results := [.lit (.bool true)], args := [d1, d2, d3] }
  | _ => none }
def policyOverRow : OpenClaim := { program := "ytafgmmfbhpbogaagreatdoor", sum := "22c61bf596a64359c89ea281f7d36f6a2732c924fbf5f049201a13c083c7e6e4", func := "truchman/truchmanlaw48.PolicyOver", spec := "policyOver", inPlace := ["internal/bytealg.abigen_runtime_cmpstring", "internal/reflectlite.ValueOf", "(internal/reflectlite.Value).Type", "(internal/reflectlite.Value).IsNil", "internal/reflectlite.TypeOf", "(internal/reflectlite.Value).Elem", "(internal/reflectlite.Value).Set"], unfollowed := true, recurses := true, named := ["truchman/gateway.parts", "truchman/ptag.none", "truchman/ovalue.numbers", "truchman/ovalue.wires", "truchman/word.highs", "errors.errorType"], loops := true, apart := false, laid := [("truchman/ptag.none", laid_truchman_ptag_none), ("truchman/word.highs", laid_truchman_word_highs), ("errors.errorType", laid_errors_errorType), ("truchman/ovalue.numbers", laid_truchman_ovalue_numbers), ("truchman/ovalue.wires", laid_truchman_ovalue_wires), ("truchman/gateway.parts", laid_truchman_gateway_parts)] }
def PolicyOverSaid : Prop := policyOverRow.holds Tryz.pinned (OpenSpec.ofChange policyOverSpec)

/-- ITS FALSE NEIGHBOUR: 'it returns false'. Refute it at one input. -/
def policyOverWrong : ChangeSpec := { name := "policyOver", fn := fun _ => fun
  | [d1, d2, d3] => { results := [.lit (.bool false)], args := [d1, d2, d3] }
  | _ => none }
def PolicyOverWrongFalsely : Prop := policyOverRow.holds Tryz.pinned (OpenSpec.ofChange policyOverWrong)

/- THE SECOND FORM. 'bulk': how many values and letters a reading holds, each counted each time it is reached (what is shared counts as often as it is met; a slice's spare places count too). A statement '..UptoSaid' is the law's where the arguments, and the package variables that the reading takes, are together of bulk at most 1048576: NARROWER than '..Said'. Prove '..Said' where nothing that the law and all that it calls make is longer than what came in: it says more and counts as full. Else prove '..UptoSaid'. A law counts once. -/
mutual
def uptoBulk {H : Type} : DataW H → Nat
  | .lit (.string bytes) => bytes.length + 1
  | .lit _ => 1
  | .nil => 1
  | .ptr d => uptoBulk d + 1
  | .slice elems spare => uptoBulkAll elems + uptoBulkAll spare + 1
  | .agg parts => uptoBulkAll parts + 1
  | .iface _ d => uptoBulk d + 1
  | .map entries => uptoBulkEntries entries + 1
  | .held _ => 1
def uptoBulkAll {H : Type} : List (DataW H) → Nat
  | [] => 0
  | d :: r => uptoBulk d + uptoBulkAll r
def uptoBulkEntries {H : Type} : List (Lit × DataW H) → Nat
  | [] => 0
  | x :: r => uptoBulkEntry x + uptoBulkEntries r
def uptoBulkEntry {H : Type} : Lit × DataW H → Nat
  | (.string bytes, d) => bytes.length + uptoBulk d + 1
  | (_, d) => uptoBulk d + 1
 end
def uptoSmall : (H : Type) → List (DataW H) → Bool := fun _ ds => decide (uptoBulkAll ds ≤ 1048576)
def OpenSpec.upto (s : _root_.Go.ChangeSpec) : _root_.Go.OpenSpec := { _root_.Go.OpenSpec.ofChange s with cond := some uptoSmall }

/-- 'truchmanlaw48.PolicyOver', WHERE WHAT IT READS IS OF BULK AT MOST 1048576: true; the input reads as it did. -/
def policyOverUptoRow : OpenClaim := { program := "ytafgmmfbhpbogaagreatdoor", sum := "22c61bf596a64359c89ea281f7d36f6a2732c924fbf5f049201a13c083c7e6e4", func := "truchman/truchmanlaw48.PolicyOver", spec := "policyOver", inPlace := ["internal/bytealg.abigen_runtime_cmpstring", "internal/reflectlite.ValueOf", "(internal/reflectlite.Value).Type", "(internal/reflectlite.Value).IsNil", "internal/reflectlite.TypeOf", "(internal/reflectlite.Value).Elem", "(internal/reflectlite.Value).Set"], unfollowed := true, recurses := true, named := ["truchman/gateway.parts", "truchman/ptag.none", "truchman/ovalue.numbers", "truchman/ovalue.wires", "truchman/word.highs", "errors.errorType"], loops := true, apart := false, laid := [("truchman/ptag.none", laid_truchman_ptag_none), ("truchman/word.highs", laid_truchman_word_highs), ("errors.errorType", laid_errors_errorType), ("truchman/ovalue.numbers", laid_truchman_ovalue_numbers), ("truchman/ovalue.wires", laid_truchman_ovalue_wires), ("truchman/gateway.parts", laid_truchman_gateway_parts)], narrowed := true }
def PolicyOverUptoSaid : Prop := policyOverUptoRow.holds Tryz.pinned (OpenSpec.upto policyOverSpec)

end Rows
end Go.Proofs.YtafgmmfbhpbogaaGreatDoor
