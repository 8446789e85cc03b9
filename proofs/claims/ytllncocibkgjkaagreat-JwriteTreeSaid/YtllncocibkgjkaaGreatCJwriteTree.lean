/-
  The tree of any JSON without numbers is written value by value as it is laid, and read again as the same tree: the law JwriteTree answers true, for every text. No condition.
-/
import Derived.Test.YtllncocibkgjkaaGreatRows
import Derived.Test.YtllncocibkgjkaaGreatKN
import Derived.Test.YtllncocibkgjkaaGreatVgZ
import Derived.ProofKit
import Derived.OpenShut
import Derived.Deep.DeepHandedRow
set_option linter.unusedSimpArgs false
set_option linter.unusedVariables false
set_option maxHeartbeats 4000000
namespace Go.Proofs.YtllncocibkgjkaaGreat.jwriteTree
open Go Go.VG Go.ChangeShapes Go.WideShapes Go.ChangeAt Go.RowKit
set_option maxRecDepth 100000
theorem GW {H : Type} {ds : List (DataW H)} {xs : List V} (h : kp tt Tryz.f3.params.toList ds xs) : fq Tryz.prog fL 3 xs [] (.bool true) none := by
 rw [Tryz.params3] at h
 obtain ⟨d, x, rfl, rfl, hd⟩ := D5 h
 obtain ⟨s, rfl, rfl⟩ := Hh rfl hd
 exact Gx s
theorem own : ownKnob Tryz.prog.godebug = none := by kernel_rfl
theorem laidOut : laidOutB Tryz.prog = true := by kernel_rfl
theorem glOf : tG Tryz.prog tt nr Rows.jwriteTreeRow.laid fL := by
 intro b cs h
 cases h
theorem DB (H : Type) (enc : TypeId × Value → H) (W : World) (base : Nat) (args : Array Value) (ds gs : List (DataW H)) (before : List MemPlace)
   (hval : ∀ (j : Nat) t v, Tryz.f3.params[j]? = some t → args[j]? = some v → Value.okWide Tryz.prog W .any base t v)
   (hW : DataW.Whole enc Tryz.prog Tryz.f3.params.toList Rows.jwriteTreeSpec.vars false W args.toList ds gs before) (hL : laidMetH Tryz.prog Rows.jwriteTreeRow.laid W) :
   Calls Tryz.prog 3 args W fun e W' => ∃ v, e = .returned v ∧ Rows.jwriteTreeSpec.post enc Tryz.prog Tryz.f3 false true false false W args v W' :=
 Iy (bt := 4) DD laidOut (fun t ht => by
  rw [Tryz.params3] at ht
  simp at ht
  subst ht
  exact ⟨rfl, by kernel_rfl, by decide⟩) rfl rfl Tryz.underlying4 glOf hval hW hL (fun h => by
  match ds, h with
  | [d0], _ => rfl) fun xs h => GW h
noncomputable def uX (os : Os) : World := World.holding Tryz.prog os ⟨#[], #[], []⟩
def qV : Array Value := #[.string ⟨#[]⟩]
theorem Ix (os : Os) : laidMet Tryz.prog Rows.jwriteTreeRow.laid ((uX os).forCall (fun _ _ => 0) ⟨#[], qV, []⟩).memory :=
 laidMet_of_run' 8 (by kernel_rfl) (by kernel_rfl)
theorem reads (os : Os) {H : Type} (enc : TypeId × Value → H) : ∃ places, DataW.whole enc Tryz.prog ((uX os).forCall (fun _ _ => 0) ⟨#[], qV, []⟩).memory Tryz.f3.params.toList Rows.jwriteTreeSpec.vars false qV.toList 8 = some ([.lit (.string [])], [], places) :=
 ⟨[], by kernel_rfl⟩
theorem lifted (os : Os) (started : os.Started) (H : Type) (enc : TypeId × Value → H) (F : Stop.Interp) :
   ReturnsInHanded {} Tryz.checked os 3 .any ((OpenSpec.ofChange Rows.jwriteTreeSpec).preRow enc Tryz.prog Tryz.f3 Rows.jwriteTreeRow.domain false Rows.jwriteTreeRow.laid) (((OpenSpec.ofChange Rows.jwriteTreeSpec).at F).post enc Tryz.prog Tryz.f3 false true false false) := by
 obtain ⟨places, hx⟩ := reads os enc
 refine returnsInHanded_of_row (C := Tryz.checked) (s := OpenSpec.ofChange Rows.jwriteTreeSpec) own started (by kernel_rfl) Tryz.func3
  (witness_row_at (enc := enc) (C := Tryz.checked) false (uX os) qV rfl (by kernel_rfl) (by kernel_rfl) (by kernel_rfl)
   (OpenSpec.preRow_of_cond 8 hx (by kernel_rfl) (fun k hk => by cases hk) (by kernel_rfl) (Ix os))) ?_
 intro W base args ds gs before hval hW _ _ _ hL _ _
 exact DB H enc W base args ds gs before hval hW hL
theorem said : Rows.JwriteTreeSaid :=
 OpenClaim.holds_of_cond 3 Tryz.f3 rfl rfl rfl rfl rfl rfl rfl ⟨rfl, rfl, rfl, rfl, rfl⟩ rfl rfl rfl rfl rfl (by kernel_rfl) Tryz.func3 (by kernel_rfl)
  (of_decide_eq_true (by kernel_rfl)) (by unfold Func.isWrapper; first | (rw [if_pos (by decide +kernel)]; kernel_rfl) | (rw [if_neg (by decide +kernel)]; exact ⟨rfl, rfl⟩))
  (fun os started H enc _ F => by rw [OpenClaim.pre_eq_preRow]; exact lifted os started H enc F)
end Go.Proofs.YtllncocibkgjkaaGreat.jwriteTree
