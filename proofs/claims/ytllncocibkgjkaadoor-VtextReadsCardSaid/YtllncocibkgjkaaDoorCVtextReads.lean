/-
  The JSON of a value that may be is read as a tree, as many nodes as it has values, and laid as it is: the law VtextReads answers true for every value. No condition.
-/
import Derived.Test.YtllncocibkgjkaaDoorCards
import Derived.Test.YtllncocibkgjkaaDoorTie
import Derived.Test.YtllncocibkgjkaaDoorVRc
import Derived.Test.YtllncocibkgjkaaDoorPData
import Derived.Test.YtllncocibkgjkaaDoorVgZ
import Derived.ProofKit
import Derived.OpenShut
import Derived.Deep.DeepHandedRow
set_option linter.unusedSimpArgs false
set_option linter.unusedVariables false
set_option maxHeartbeats 4000000
namespace Go.Proofs.YtllncocibkgjkaaDoor.vtextReads
open Go Go.VG Go.ChangeShapes Go.WideShapes Go.ChangeAt Go.RowKit
set_option maxRecDepth 100000
theorem FR {H : Type} {ds : List (DataW H)} {xs : List V} (h : ki tt Tryd.f3.params.toList ds xs) : dv Tryd.prog fZ 3 xs [] (.bool true) none := by
 rw [Tryd.params3] at h
 obtain ⟨d, x, rfl, rfl, hd⟩ := CE h
 obtain ⟨v, hv⟩ := G9 hd
 exact (dv.of_wf ⟨Tryd.f3, rfl, rfl, rfl⟩ fun hw => Fc v (AX v (by rw [mD]; exact hw.1))).args (aM.cons hv aM.nil)
theorem own : ownKnob Tryd.prog.godebug = none := by kernel_rfl
theorem laidOut : laidOutB Tryd.prog = true := by kernel_rfl
theorem glOf : tz Tryd.prog tt nJ Rows.vtextReadsRow.laid fZ := by
 intro b cs h
 unfold fZ at h
 split at h
 . cases h
   exact ⟨_, _, 110, 3, List.Mem.head _, rfl, by kernel_rfl, by kernel_rfl, rfl, rfl⟩
 . cases h
theorem Dd (H : Type) (enc : TypeId × Value → H) (W : World) (base : Nat) (args : Array Value) (ds gs : List (DataW H)) (before : List MemPlace)
   (hval : ∀ (j : Nat) t v, Tryd.f3.params[j]? = some t → args[j]? = some v → Value.okWide Tryd.prog W .any base t v)
   (hW : DataW.Whole enc Tryd.prog Tryd.f3.params.toList Rows.vtextReadsSpec.vars false W args.toList ds gs before) (hL : laidMetH Tryd.prog Rows.vtextReadsRow.laid W) :
   Calls Tryd.prog 3 args W fun e W' => ∃ v, e = .returned v ∧ Rows.vtextReadsSpec.post enc Tryd.prog Tryd.f3 false true false false W args v W' :=
 Hh (bt := 4) Dg laidOut (fun t ht => by
  rw [Tryd.params3] at ht
  simp at ht
  subst ht
  exact ⟨rfl, by kernel_rfl, by decide⟩) rfl rfl Tryd.underlying4 glOf hval hW hL (fun h => by
  match ds, h with
  | [d0], _ => rfl) fun xs h => FR h
noncomputable def uO (os : Os) : World :=
 { World.holding Tryd.prog os ⟨#[], #[], []⟩ with heap := ((World.holding Tryd.prog os ⟨#[], #[], []⟩).heap.modify 0 fun
  | .cells _ t frozen => .cells #[.int .u8 (56), .int .u8 (48), .int .u8 (40), .int .u8 (32), .int .u8 (24), .int .u8 (16), .int .u8 (8), .int .u8 (0)] t frozen
  | o => o) }
def rk : Array Value := #[.agg #[.int .u8 0, .string ⟨#[]⟩, .int .i64 0, .int .u64 0, .slice none 0 0, .slice none 0 0]]
theorem Hg (os : Os) : laidMet Tryd.prog Rows.vtextReadsRow.laid ((uO os).forCall (fun _ _ => 0) ⟨#[], rk, []⟩).memory :=
 laidMet_of_run' 8 (by kernel_rfl) (by kernel_rfl)
theorem reads (os : Os) {H : Type} (enc : TypeId × Value → H) : ∃ places, DataW.whole enc Tryd.prog ((uO os).forCall (fun _ _ => 0) ⟨#[], rk, []⟩).memory Tryd.f3.params.toList Rows.vtextReadsSpec.vars false rk.toList 8 = some ([.agg [.lit (.int .u8 0), .lit (.string []), .lit (.int .i64 0), .lit (.int .u64 0), .nil, .nil]], [], places) :=
 ⟨[], by kernel_rfl⟩
theorem lifted (os : Os) (started : os.Started) (H : Type) (enc : TypeId × Value → H) (F : Stop.Interp) :
   ReturnsInHanded {} Tryd.checked os 3 .any ((OpenSpec.ofChange Rows.vtextReadsSpec).preRow enc Tryd.prog Tryd.f3 Rows.vtextReadsRow.domain false Rows.vtextReadsRow.laid) (((OpenSpec.ofChange Rows.vtextReadsSpec).at F).post enc Tryd.prog Tryd.f3 false true false false) := by
 obtain ⟨places, hx⟩ := reads os enc
 refine returnsInHanded_of_row (C := Tryd.checked) (s := OpenSpec.ofChange Rows.vtextReadsSpec) own started (by kernel_rfl) Tryd.func3
  (witness_row_at (enc := enc) (C := Tryd.checked) false (uO os) rk rfl (by kernel_rfl) (by kernel_rfl) (by kernel_rfl)
   (OpenSpec.preRow_of_cond 8 hx (by kernel_rfl) (fun k hk => by cases hk) (by kernel_rfl) (Hg os))) ?_
 intro W base args ds gs before hval hW _ _ _ hL _ _
 exact Dd H enc W base args ds gs before hval hW hL
theorem said : Rows.VtextReadsSaid :=
 OpenClaim.holds_of_cond 3 Tryd.f3 rfl rfl rfl rfl rfl rfl rfl ⟨rfl, rfl, rfl, rfl, rfl⟩ rfl rfl rfl rfl rfl (by kernel_rfl) Tryd.func3 (by kernel_rfl)
  (of_decide_eq_true (by kernel_rfl)) (by unfold Func.isWrapper; first | (rw [if_pos (by decide +kernel)]; kernel_rfl) | (rw [if_neg (by decide +kernel)]; exact ⟨rfl, rfl⟩))
  (fun os started H enc _ F => by rw [OpenClaim.pre_eq_preRow]; exact lifted os started H enc F)
theorem plain (f : FuncId) (fn : Func) (hf : Tryd.pinned.checked.prog.funcNamed Rows.vtextReadsRow.func = some f) (hfn : Tryd.pinned.checked.prog.funcs[f]? = some fn) :
   true = Tryd.pinned.checked.prog.looks [] ∧ ∀ (j : Nat) t, fn.params[j]? = some t → Tryd.pinned.checked.prog.wantsStandIn t = false := by
 obtain rfl : f = 3 := Option.some.inj ((show Tryd.prog.funcNamed Rows.vtextReadsRow.func = some 3 by kernel_rfl).symm.trans hf) |>.symm
 obtain rfl : fn = Tryd.f3 := (Option.some.inj (Tryd.func3.symm.trans hfn)).symm
 refine ⟨by kernel_rfl, fun j t ht => ?_⟩
 rw [Tryd.params3] at ht
 have ht := Array.mem_of_getElem? ht
 simp at ht
 subst ht
 . exact (show Tryd.prog.wantsStandIn 26 = false by kernel_rfl)
theorem card : Rows.VtextReadsCardSaid :=
 Claim7.holds_tied_plain_at .later [] _ _ _ _ said (fun _ h => by cases h) (by kernel_rfl) (fun _ h => by cases h) vtextReads_row_tie rfl ⟨rfl, rfl⟩ (by kernel_rfl) rfl plain (by kernel_rfl)
end Go.Proofs.YtllncocibkgjkaaDoor.vtextReads
