/-
  DERIVED. GIVEN WITH THE SEED: THE PROGRAM's TIES (one call each: nine closed facts by the kernel) AND EACH ROW's TIE, after the 31st guide's Derived/Test/Toyas{Tie, Card}.lean. No idea stands in it: it is a product of the set-up. Laid BY PROGRAM, IN A SANDBOX (cutbox-door.mjs). By AI agents, Wed Nov 11 2026. No macro, syntax, notation, axiom, sorry.
-/
import Derived.Test.YtdjolnjlhbfnmaaGreatDoorRows
import Derived.LaidByTextLater
import Derived.SevenTiedAt
import Derived.LaidSub
import Derived.LaidOnce
namespace Go.Proofs.YtdjolnjlhbfnmaaGreatDoor
open Go
set_option maxRecDepth 100000
theorem seatTie1 : Tryz.prog.laidByTextLater [("truchman/ptag.none", Rows.laid_truchman_ptag_none), ("truchman/ovalue.numbers", Rows.laid_truchman_ovalue_numbers), ("truchman/ovalue.wires", Rows.laid_truchman_ovalue_wires)] [.data, .data, .data] true :=
  Program.laidByTextLater_by_one 29 8 9 (by kernel_rfl) (by kernel_rfl) (by kernel_rfl) (by kernel_rfl) (by kernel_rfl) (by kernel_rfl) (fun _ _ => by kernel_rfl)
theorem noOwnUnsafe : Tryz.pinned.checked.prog.headLifts.contains "ownunsafe" = false := by kernel_rfl
theorem tie : Tryz.prog.laidByTextLater [("truchman/ptag.none", Rows.laid_truchman_ptag_none), ("truchman/ovalue.numbers", Rows.laid_truchman_ovalue_numbers), ("truchman/ovalue.wires", Rows.laid_truchman_ovalue_wires)] [.data, .data, .data] true :=
  Program.laidByTextLater.sub seatTie1 ["truchman/ptag.none", "truchman/ovalue.numbers", "truchman/ovalue.wires"] (by kernel_rfl) (by kernel_rfl)
theorem otlpReads_row_tie : Rows.otlpReadsRow.laidByTextAt .later Tryz.pinned [.data, .data, .data] true :=
  OpenClaim.laidByTextAt_later rfl rfl tie noOwnUnsafe
theorem otlpReadsUpto_row_tie : Rows.otlpReadsUptoRow.laidByTextAt .later Tryz.pinned [.data, .data, .data] true :=
  OpenClaim.laidByTextAt_later rfl rfl tie noOwnUnsafe
end Go.Proofs.YtdjolnjlhbfnmaaGreatDoor
