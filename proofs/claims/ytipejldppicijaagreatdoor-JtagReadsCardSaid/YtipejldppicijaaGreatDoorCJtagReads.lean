/-
  Which tag begins at any bytes, and which tags a list has, or what is wrong first, is told as was said: the law JtagReads answers true for every text, number and depth. No condition.
-/
import Derived.Test.YtipejldppicijaaGreatDoorCards
import Derived.Test.YtipejldppicijaaGreatDoorTie
import Derived.Test.YtipejldppicijaaGreatDoorGM
import Derived.Test.YtipejldppicijaaGreatDoorVgZ
import Derived.ProofKit
import Derived.OpenShut
import Derived.Deep.DeepHandedRow
set_option linter.unusedSimpArgs false
set_option linter.unusedVariables false
set_option maxHeartbeats 4000000
namespace Go.Proofs.YtipejldppicijaaGreatDoor.jtagReads
open Go Go.VG Go.ChangeShapes Go.WideShapes Go.ChangeAt Go.RowKit
set_option maxRecDepth 100000
theorem wQ {H : Type} {ti : TypeId → TI} {t : TypeId} {d : DataW H} {x : V} {k : IntKind} (hk : (ti t).k = .int k) (h : IsD ti t d x) : ∃ n, x = .int k n := by
 obtain ⟨f, hd⟩ := h
 simp only [Option.bind_eq_some_iff] at hd
 obtain ⟨cs, h1, h2⟩ := hd
 obtain ⟨n, rfl⟩ := Am hk h1
 rw [hk] at h2
 exact ⟨n, (Option.some.inj h2).symm⟩
theorem E4 {H : Type} {ds : List (DataW H)} {xs : List V} (h : gV tt Tryz.f3.params.toList ds xs) : fL Tryz.prog iU 3 xs [] (.bool true) none := by
 rw [Tryz.params3] at h
 obtain ⟨d0, x0, ds0, xs0, rfl, rfl, hd0, h0⟩ := rf h
 obtain ⟨d1, x1, ds1, xs1, rfl, rfl, hd1, h1⟩ := rf h0
 obtain ⟨d2, x2, ds2, xs2, rfl, rfl, hd2, h2⟩ := rf h1
 obtain ⟨rfl, rfl⟩ := A4 h2
 obtain ⟨s, rfl, rfl⟩ := Eh rfl hd0
 obtain ⟨n, rfl⟩ := wQ (k := .i64) rfl hd1
 obtain ⟨k, rfl⟩ := wQ (k := .i64) rfl hd2
 exact Cx s n k
theorem own : ownKnob Tryz.prog.godebug = none := by kernel_rfl
theorem laidOut : laidOutB Tryz.prog = true := by kernel_rfl
theorem glOf : rk Tryz.prog tt lI Rows.jtagReadsRow.laid iU := by
 intro b cs h
 unfold iU at h
 split at h
 . cases h
   exact ⟨_, _, 210, 3, List.Mem.head _, rfl, by kernel_rfl, by kernel_rfl, rfl, rfl⟩
 . cases h
theorem Ap (H : Type) (enc : TypeId × Value → H) (W : World) (base : Nat) (args : Array Value) (ds gs : List (DataW H)) (before : List MemPlace)
   (hval : ∀ (j : Nat) t v, Tryz.f3.params[j]? = some t → args[j]? = some v → Value.okWide Tryz.prog W .any base t v)
   (hW : DataW.Whole enc Tryz.prog Tryz.f3.params.toList Rows.jtagReadsSpec.vars false W args.toList ds gs before) (hL : laidMetH Tryz.prog Rows.jtagReadsRow.laid W) :
   Calls Tryz.prog 3 args W fun e W' => ∃ v, e = .returned v ∧ Rows.jtagReadsSpec.post enc Tryz.prog Tryz.f3 false true false false W args v W' :=
 Fp (bt := 4) As laidOut (fun t ht => by
  rw [Tryz.params3] at ht
  simp at ht
  rcases ht with rfl | rfl
  all_goals exact ⟨rfl, by kernel_rfl, by decide⟩) rfl rfl Tryz.underlying4 glOf hval hW hL (fun h => by
  match ds, h with
  | [d0, d1, d2], _ => rfl) fun xs h => E4 h
noncomputable def sx (os : Os) : World :=
 { World.holding Tryz.prog os ⟨#[], #[], []⟩ with heap := ((World.holding Tryz.prog os ⟨#[], #[], []⟩).heap.modify 0 fun
  | .cells _ t frozen => .cells #[.int .u8 (56), .int .u8 (48), .int .u8 (40), .int .u8 (32), .int .u8 (24), .int .u8 (16), .int .u8 (8), .int .u8 (0)] t frozen
  | o => o) }
def oU : Array Value := #[.string ⟨#[]⟩, .int .i64 0, .int .i64 0]
theorem Fm (os : Os) : laidMet Tryz.prog Rows.jtagReadsRow.laid ((sx os).forCall (fun _ _ => 0) ⟨#[], oU, []⟩).memory :=
 laidMet_of_run' 8 (by kernel_rfl) (by kernel_rfl)
theorem reads (os : Os) {H : Type} (enc : TypeId × Value → H) : ∃ places, DataW.whole enc Tryz.prog ((sx os).forCall (fun _ _ => 0) ⟨#[], oU, []⟩).memory Tryz.f3.params.toList Rows.jtagReadsSpec.vars false oU.toList 8 = some ([.lit (.string []), .lit (.int .i64 0), .lit (.int .i64 0)], [], places) :=
 ⟨[], by kernel_rfl⟩
theorem lifted (os : Os) (started : os.Started) (H : Type) (enc : TypeId × Value → H) (F : Stop.Interp) :
   ReturnsInHanded {} Tryz.checked os 3 .any ((OpenSpec.ofChange Rows.jtagReadsSpec).preRow enc Tryz.prog Tryz.f3 Rows.jtagReadsRow.domain false Rows.jtagReadsRow.laid) (((OpenSpec.ofChange Rows.jtagReadsSpec).at F).post enc Tryz.prog Tryz.f3 false true false false) := by
 obtain ⟨places, hx⟩ := reads os enc
 refine returnsInHanded_of_row (C := Tryz.checked) (s := OpenSpec.ofChange Rows.jtagReadsSpec) own started (by kernel_rfl) Tryz.func3
  (witness_row_at (enc := enc) (C := Tryz.checked) false (sx os) oU rfl (by kernel_rfl) (by kernel_rfl) (by kernel_rfl)
   (OpenSpec.preRow_of_cond 8 hx (by kernel_rfl) (fun k hk => by cases hk) (by kernel_rfl) (Fm os))) ?_
 intro W base args ds gs before hval hW _ _ _ hL _ _
 exact Ap H enc W base args ds gs before hval hW hL
theorem said : Rows.JtagReadsSaid :=
 OpenClaim.holds_of_cond 3 Tryz.f3 rfl rfl rfl rfl rfl rfl rfl ⟨rfl, rfl, rfl, rfl, rfl⟩ rfl rfl rfl rfl rfl (by kernel_rfl) Tryz.func3 (by kernel_rfl)
  (of_decide_eq_true (by kernel_rfl)) (by unfold Func.isWrapper; first | (rw [if_pos (by decide +kernel)]; kernel_rfl) | (rw [if_neg (by decide +kernel)]; exact ⟨rfl, rfl⟩))
  (fun os started H enc _ F => by rw [OpenClaim.pre_eq_preRow]; exact lifted os started H enc F)
theorem plain (f : FuncId) (fn : Func) (hf : Tryz.pinned.checked.prog.funcNamed Rows.jtagReadsRow.func = some f) (hfn : Tryz.pinned.checked.prog.funcs[f]? = some fn) :
   true = Tryz.pinned.checked.prog.looks [] ∧ ∀ (j : Nat) t, fn.params[j]? = some t → Tryz.pinned.checked.prog.wantsStandIn t = false := by
 obtain rfl : f = 3 := Option.some.inj ((show Tryz.prog.funcNamed Rows.jtagReadsRow.func = some 3 by kernel_rfl).symm.trans hf) |>.symm
 obtain rfl : fn = Tryz.f3 := (Option.some.inj (Tryz.func3.symm.trans hfn)).symm
 refine ⟨by kernel_rfl, fun j t ht => ?_⟩
 rw [Tryz.params3] at ht
 have ht := Array.mem_of_getElem? ht
 simp at ht
 rcases ht with rfl | rfl
 . exact (show Tryz.prog.wantsStandIn 9 = false by kernel_rfl)
 . exact (show Tryz.prog.wantsStandIn 3 = false by kernel_rfl)
theorem card : Rows.JtagReadsCardSaid :=
 Claim7.holds_tied_plain_at .later [] _ _ _ _ said (fun _ h => by cases h) (by kernel_rfl) (fun _ h => by cases h) jtagReads_row_tie rfl ⟨rfl, rfl⟩ (by kernel_rfl) rfl plain (by kernel_rfl)
end Go.Proofs.YtipejldppicijaaGreatDoor.jtagReads
