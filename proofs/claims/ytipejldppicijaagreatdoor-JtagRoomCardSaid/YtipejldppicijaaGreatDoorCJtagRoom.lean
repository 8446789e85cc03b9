/-
  A tag takes no more room than was said: the law JtagRoom answers true for every attribute. No condition.
-/
import Derived.Test.YtipejldppicijaaGreatDoorCards
import Derived.Test.YtipejldppicijaaGreatDoorTie
import Derived.Test.YtipejldppicijaaGreatDoorGQ
import Derived.Test.YtipejldppicijaaGreatDoorPData
import Derived.Test.YtipejldppicijaaGreatDoorVgZ
import Derived.ProofKit
import Derived.OpenShut
import Derived.Deep.DeepHandedRow
set_option linter.unusedSimpArgs false
set_option linter.unusedVariables false
set_option maxHeartbeats 4000000
namespace Go.Proofs.YtipejldppicijaaGreatDoor.jtagRoom
open Go Go.VG Go.ChangeShapes Go.WideShapes Go.ChangeAt Go.RowKit
set_option maxRecDepth 100000
theorem EG {H : Type} {d : DataW H} {x : V} (h : IsD tt 29 d x) : ∃ a : aw, Wk x (ea a) := by
 obtain ⟨f, h⟩ := h
 simp only [Option.bind_eq_some_iff] at h
 obtain ⟨cs, h1, h2⟩ := h
 obtain ⟨v, hv⟩ := (qb f).2 d cs h1
 have h2 : some (V.agg cs) = some x := h2
 cases h2
 exact ⟨v, Wk.agg hv⟩
theorem Es {H : Type} {ds : List (DataW H)} {xs : List V} (h : hO tt Tryz.f5.params.toList ds xs) : cI Tryz.prog iU 5 xs [] (.bool true) none := by
 rw [Tryz.params5] at h
 obtain ⟨d0, x0, ds0, xs0, rfl, rfl, hd0, h0⟩ := As h
 obtain ⟨rfl, rfl⟩ := At h0
 obtain ⟨a, ha⟩ := EG hd0
 refine (cI.of_wf ⟨Tryz.f5, rfl, rfl, rfl⟩ fun hw => ?_).args (aC.cons ha aC.nil)
 have hk : a.ok := yH a (by rw [← qi] at hw; exact hw.1)
 refine Df a ?_
 cases a
 exact hk
theorem own : ownKnob Tryz.prog.godebug = none := by kernel_rfl
theorem laidOut : laidOutB Tryz.prog = true := by kernel_rfl
theorem glOf : rZ Tryz.prog tt m7 Rows.jtagRoomRow.laid iU := by
 intro b cs h
 unfold iU at h
 split at h
 . cases h
   exact ⟨_, _, 210, 3, List.Mem.head _, rfl, by kernel_rfl, by kernel_rfl, rfl, rfl⟩
 . cases h
theorem AY (H : Type) (enc : TypeId × Value → H) (W : World) (base : Nat) (args : Array Value) (ds gs : List (DataW H)) (before : List MemPlace)
   (hval : ∀ (j : Nat) t v, Tryz.f5.params[j]? = some t → args[j]? = some v → Value.okWide Tryz.prog W .any base t v)
   (hW : DataW.Whole enc Tryz.prog Tryz.f5.params.toList Rows.jtagRoomSpec.vars false W args.toList ds gs before) (hL : laidMetH Tryz.prog Rows.jtagRoomRow.laid W) :
   Calls Tryz.prog 5 args W fun e W' => ∃ v, e = .returned v ∧ Rows.jtagRoomSpec.post enc Tryz.prog Tryz.f5 false true false false W args v W' :=
 FX (bt := 4) B0 laidOut (fun t ht => by
  rw [Tryz.params5] at ht
  simp at ht
  subst ht
  exact ⟨rfl, by kernel_rfl, by decide⟩) rfl rfl Tryz.underlying4 glOf hval hW hL (fun h => by
  match ds, h with
  | [d0], _ => rfl) fun xs h => Es h
noncomputable def tf (os : Os) : World :=
 { World.holding Tryz.prog os ⟨#[], #[], []⟩ with heap := ((World.holding Tryz.prog os ⟨#[], #[], []⟩).heap.modify 0 fun
  | .cells _ t frozen => .cells #[.int .u8 (56), .int .u8 (48), .int .u8 (40), .int .u8 (32), .int .u8 (24), .int .u8 (16), .int .u8 (8), .int .u8 (0)] t frozen
  | o => o) }
def pW : Array Value := #[.agg #[.string ⟨#[]⟩, .int .u8 0, .string ⟨#[]⟩, .int .i64 0, .int .u64 0, .slice none 0 0, .slice none 0 0]]
theorem FU (os : Os) : laidMet Tryz.prog Rows.jtagRoomRow.laid ((tf os).forCall (fun _ _ => 0) ⟨#[], pW, []⟩).memory :=
 laidMet_of_run' 8 (by kernel_rfl) (by kernel_rfl)
theorem reads (os : Os) {H : Type} (enc : TypeId × Value → H) : ∃ places, DataW.whole enc Tryz.prog ((tf os).forCall (fun _ _ => 0) ⟨#[], pW, []⟩).memory Tryz.f5.params.toList Rows.jtagRoomSpec.vars false pW.toList 8 = some ([.agg [.lit (.string []), .agg [.lit (.int .u8 0), .lit (.string []), .lit (.int .i64 0), .lit (.int .u64 0), .nil, .nil]]], [], places) :=
 ⟨[], by kernel_rfl⟩
theorem lifted (os : Os) (started : os.Started) (H : Type) (enc : TypeId × Value → H) (F : Stop.Interp) :
   ReturnsInHanded {} Tryz.checked os 5 .any ((OpenSpec.ofChange Rows.jtagRoomSpec).preRow enc Tryz.prog Tryz.f5 Rows.jtagRoomRow.domain false Rows.jtagRoomRow.laid) (((OpenSpec.ofChange Rows.jtagRoomSpec).at F).post enc Tryz.prog Tryz.f5 false true false false) := by
 obtain ⟨places, hx⟩ := reads os enc
 refine returnsInHanded_of_row (C := Tryz.checked) (s := OpenSpec.ofChange Rows.jtagRoomSpec) own started (by kernel_rfl) Tryz.func5
  (witness_row_at (enc := enc) (C := Tryz.checked) false (tf os) pW rfl (by kernel_rfl) (by kernel_rfl) (by kernel_rfl)
   (OpenSpec.preRow_of_cond 8 hx (by kernel_rfl) (fun k hk => by cases hk) (by kernel_rfl) (FU os))) ?_
 intro W base args ds gs before hval hW _ _ _ hL _ _
 exact AY H enc W base args ds gs before hval hW hL
theorem said : Rows.JtagRoomSaid :=
 OpenClaim.holds_of_cond 5 Tryz.f5 rfl rfl rfl rfl rfl rfl rfl ⟨rfl, rfl, rfl, rfl, rfl⟩ rfl rfl rfl rfl rfl (by kernel_rfl) Tryz.func5 (by kernel_rfl)
  (of_decide_eq_true (by kernel_rfl)) (by unfold Func.isWrapper; first | (rw [if_pos (by decide +kernel)]; kernel_rfl) | (rw [if_neg (by decide +kernel)]; exact ⟨rfl, rfl⟩))
  (fun os started H enc _ F => by rw [OpenClaim.pre_eq_preRow]; exact lifted os started H enc F)
theorem plain (f : FuncId) (fn : Func) (hf : Tryz.pinned.checked.prog.funcNamed Rows.jtagRoomRow.func = some f) (hfn : Tryz.pinned.checked.prog.funcs[f]? = some fn) :
   true = Tryz.pinned.checked.prog.looks [] ∧ ∀ (j : Nat) t, fn.params[j]? = some t → Tryz.pinned.checked.prog.wantsStandIn t = false := by
 obtain rfl : f = 5 := Option.some.inj ((show Tryz.prog.funcNamed Rows.jtagRoomRow.func = some 5 by kernel_rfl).symm.trans hf) |>.symm
 obtain rfl : fn = Tryz.f5 := (Option.some.inj (Tryz.func5.symm.trans hfn)).symm
 refine ⟨by kernel_rfl, fun j t ht => ?_⟩
 rw [Tryz.params5] at ht
 have ht := Array.mem_of_getElem? ht
 simp at ht
 subst ht
 . exact (show Tryz.prog.wantsStandIn 29 = false by kernel_rfl)
theorem card : Rows.JtagRoomCardSaid :=
 Claim7.holds_tied_plain_at .later [] _ _ _ _ said (fun _ h => by cases h) (by kernel_rfl) (fun _ h => by cases h) jtagRoom_row_tie rfl ⟨rfl, rfl⟩ (by kernel_rfl) rfl plain (by kernel_rfl)
end Go.Proofs.YtipejldppicijaaGreatDoor.jtagRoom
