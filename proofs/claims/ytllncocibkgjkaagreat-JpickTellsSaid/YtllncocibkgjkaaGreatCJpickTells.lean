/-
  Of any tree of JSON what the member of any key is as a text, a whole number or a truth is told as was said: the law JpickTells answers true, for every text, place and key. No condition.
-/
import Derived.Test.YtllncocibkgjkaaGreatRows
import Derived.Test.YtllncocibkgjkaaGreatKI
import Derived.Test.YtllncocibkgjkaaGreatVgZ
import Derived.ProofKit
import Derived.OpenShut
import Derived.Deep.DeepHandedRow
set_option linter.unusedSimpArgs false
set_option linter.unusedVariables false
set_option maxHeartbeats 4000000
namespace Go.Proofs.YtllncocibkgjkaaGreat.jpickTells
open Go Go.VG Go.ChangeShapes Go.WideShapes Go.ChangeAt Go.RowKit
set_option maxRecDepth 100000
theorem pW {H : Type} {ds : List (DataW H)} {xs : List V} (h : iK tt Tryz.f5.params.toList ds xs) : jd Tryz.prog eG 5 xs [] (.bool true) none := by
 rw [Tryz.params5] at h
 obtain ⟨d0, x0, ds0, xs0, rfl, rfl, hd0, h0⟩ := ki h
 obtain ⟨d1, x1, ds1, xs1, rfl, rfl, hd1, h1⟩ := ki h0
 obtain ⟨d2, x2, ds2, xs2, rfl, rfl, hd2, h2⟩ := ki h1
 obtain ⟨rfl, rfl⟩ := tO h2
 obtain ⟨s, rfl, rfl⟩ := ow rfl hd0
 obtain ⟨n, rfl⟩ := v9 (k := .i64) rfl hd1
 obtain ⟨key, rfl, rfl⟩ := ow rfl hd2
 exact GX s n key
theorem own : ownKnob Tryz.prog.godebug = none := by kernel_rfl
theorem laidOut : laidOutB Tryz.prog = true := by kernel_rfl
theorem pZ : pr Tryz.prog tt ld Rows.jpickTellsRow.laid eG := by
 intro b cs h
 cases h
theorem pJ (H : Type) (enc : TypeId × Value → H) (W : World) (base : Nat) (args : Array Value) (ds gs : List (DataW H)) (before : List MemPlace)
   (hval : ∀ (j : Nat) t v, Tryz.f5.params[j]? = some t → args[j]? = some v → Value.okWide Tryz.prog W .any base t v)
   (hW : DataW.Whole enc Tryz.prog Tryz.f5.params.toList Rows.jpickTellsSpec.vars false W args.toList ds gs before) (hL : laidMetH Tryz.prog Rows.jpickTellsRow.laid W) :
   Calls Tryz.prog 5 args W fun e W' => ∃ v, e = .returned v ∧ Rows.jpickTellsSpec.post enc Tryz.prog Tryz.f5 false true false false W args v W' :=
 vr (bt := 4) uk laidOut (fun t ht => by
  rw [Tryz.params5] at ht
  simp at ht
  rcases ht with rfl | rfl | rfl
  all_goals exact ⟨rfl, by kernel_rfl, by decide⟩) rfl rfl Tryz.underlying4 pZ hval hW hL (fun h => by
  match ds, h with
  | [d0, d1, d2], _ => rfl) fun xs h => pW h
noncomputable def jn (os : Os) : World := World.holding Tryz.prog os ⟨#[], #[], []⟩
def gX : Array Value := #[.string ⟨#[]⟩, .int .i64 0, .string ⟨#[]⟩]
theorem ql (os : Os) : laidMet Tryz.prog Rows.jpickTellsRow.laid ((jn os).forCall (fun _ _ => 0) ⟨#[], gX, []⟩).memory :=
 laidMet_of_run' 8 (by kernel_rfl) (by kernel_rfl)
theorem reads (os : Os) {H : Type} (enc : TypeId × Value → H) : ∃ places, DataW.whole enc Tryz.prog ((jn os).forCall (fun _ _ => 0) ⟨#[], gX, []⟩).memory Tryz.f5.params.toList Rows.jpickTellsSpec.vars false gX.toList 8 = some ([.lit (.string []), .lit (.int .i64 0), .lit (.string [])], [], places) :=
 ⟨[], by kernel_rfl⟩
theorem lifted (os : Os) (started : os.Started) (H : Type) (enc : TypeId × Value → H) (F : Stop.Interp) :
   ReturnsInHanded {} Tryz.checked os 5 .any ((OpenSpec.ofChange Rows.jpickTellsSpec).preRow enc Tryz.prog Tryz.f5 Rows.jpickTellsRow.domain false Rows.jpickTellsRow.laid) (((OpenSpec.ofChange Rows.jpickTellsSpec).at F).post enc Tryz.prog Tryz.f5 false true false false) := by
 obtain ⟨places, hx⟩ := reads os enc
 refine returnsInHanded_of_row (C := Tryz.checked) (s := OpenSpec.ofChange Rows.jpickTellsSpec) own started (by kernel_rfl) Tryz.func5
  (witness_row_at (enc := enc) (C := Tryz.checked) false (jn os) gX rfl (by kernel_rfl) (by kernel_rfl) (by kernel_rfl)
   (OpenSpec.preRow_of_cond 8 hx (by kernel_rfl) (fun k hk => by cases hk) (by kernel_rfl) (ql os))) ?_
 intro W base args ds gs before hval hW _ _ _ hL _ _
 exact pJ H enc W base args ds gs before hval hW hL
theorem said : Rows.JpickTellsSaid :=
 OpenClaim.holds_of_cond 5 Tryz.f5 rfl rfl rfl rfl rfl rfl rfl ⟨rfl, rfl, rfl, rfl, rfl⟩ rfl rfl rfl rfl rfl (by kernel_rfl) Tryz.func5 (by kernel_rfl)
  (of_decide_eq_true (by kernel_rfl)) (by unfold Func.isWrapper; first | (rw [if_pos (by decide +kernel)]; kernel_rfl) | (rw [if_neg (by decide +kernel)]; exact ⟨rfl, rfl⟩))
  (fun os started H enc _ F => by rw [OpenClaim.pre_eq_preRow]; exact lifted os started H enc F)
end Go.Proofs.YtllncocibkgjkaaGreat.jpickTells
