/-
  Whatever bytes there are, which tree they are, node by node, or what is wrong first, is told as was said: the law JtreeReads answers true, for every text. No condition.
-/
import Derived.Test.YtllncocibkgjkaaRows
import Derived.Test.YtllncocibkgjkaaTRx
import Derived.Test.YtllncocibkgjkaaVgZ
import Derived.ProofKit
import Derived.OpenShut
import Derived.Deep.DeepHandedRow
set_option linter.unusedSimpArgs false
set_option linter.unusedVariables false
set_option maxHeartbeats 4000000
namespace Go.Proofs.Ytllncocibkgjkaa.jtreeReads
open Go Go.VG Go.ChangeShapes Go.WideShapes Go.ChangeAt Go.RowKit
set_option maxRecDepth 100000
theorem fun_ok {H : Type} {ds : List (DataW H)} {xs : List V} (h : a98 tt Try.f6.params.toList ds xs) : ajp Try.prog gl0 6 xs [] (.bool true) none := by
  rw [Try.params6] at h
  obtain ⟨d, x, rfl, rfl, hd⟩ := a99 h
  obtain ⟨s, rfl, rfl⟩ := ba6 rfl hd
  exact a38 s
theorem own : ownKnob Try.prog.godebug = none := by kernel_rfl
theorem laidOut : laidOutB Try.prog = true := by kernel_rfl
theorem glOf : GlOf Try.prog tt arz Rows.jtreeReadsRow.laid gl0 := by
  intro b cs h
  cases h
theorem a9h (H : Type) (enc : TypeId × Value → H) (W : World) (base : Nat) (args : Array Value) (ds gs : List (DataW H)) (before : List MemPlace)
    (hval : ∀ (j : Nat) t v, Try.f6.params[j]? = some t → args[j]? = some v → Value.okWide Try.prog W .any base t v)
    (hW : DataW.Whole enc Try.prog Try.f6.params.toList Rows.jtreeReadsSpec.vars false W args.toList ds gs before) (hL : laidMetH Try.prog Rows.jtreeReadsRow.laid W) :
    Calls Try.prog 6 args W fun e W' => ∃ v, e = .returned v ∧ Rows.jtreeReadsSpec.post enc Try.prog Try.f6 false true false false W args v W' :=
  awv (bt := 4) dataOK laidOut (fun t ht => by
    rw [Try.params6] at ht
    simp at ht
    subst ht
    exact ⟨rfl, by kernel_rfl, by decide⟩) rfl rfl Try.underlying4 glOf hval hW hL (fun h => by
    match ds, h with
    | [d0], _ => rfl) fun xs h => fun_ok h
noncomputable def apt (os : Os) : World := World.holding Try.prog os ⟨#[], #[], []⟩
def a9f : Array Value := #[.string ⟨#[]⟩]
theorem bar (os : Os) : laidMet Try.prog Rows.jtreeReadsRow.laid ((apt os).forCall (fun _ _ => 0) ⟨#[], a9f, []⟩).memory :=
  laidMet_of_run' 8 (by kernel_rfl) (by kernel_rfl)
theorem reads (os : Os) {H : Type} (enc : TypeId × Value → H) : ∃ places, DataW.whole enc Try.prog ((apt os).forCall (fun _ _ => 0) ⟨#[], a9f, []⟩).memory Try.f6.params.toList Rows.jtreeReadsSpec.vars false a9f.toList 8 = some ([.lit (.string [])], [], places) :=
  ⟨[], by kernel_rfl⟩
theorem lifted (os : Os) (started : os.Started) (H : Type) (enc : TypeId × Value → H) (F : Stop.Interp) :
    ReturnsInHanded {} Try.checked os 6 .any ((OpenSpec.ofChange Rows.jtreeReadsSpec).preRow enc Try.prog Try.f6 Rows.jtreeReadsRow.domain false Rows.jtreeReadsRow.laid) (((OpenSpec.ofChange Rows.jtreeReadsSpec).at F).post enc Try.prog Try.f6 false true false false) := by
  obtain ⟨places, hx⟩ := reads os enc
  refine returnsInHanded_of_row (C := Try.checked) (s := OpenSpec.ofChange Rows.jtreeReadsSpec) own started (by kernel_rfl) Try.func6
    (witness_row_at (enc := enc) (C := Try.checked) false (apt os) a9f rfl (by kernel_rfl) (by kernel_rfl) (by kernel_rfl)
      (OpenSpec.preRow_of_cond 8 hx (by kernel_rfl) (fun k hk => by cases hk) (by kernel_rfl) (bar os))) ?_
  intro W base args ds gs before hval hW _ _ _ hL _ _
  exact a9h H enc W base args ds gs before hval hW hL
theorem said : Rows.JtreeReadsSaid :=
  OpenClaim.holds_of_cond 6 Try.f6 rfl rfl rfl rfl rfl rfl rfl ⟨rfl, rfl, rfl, rfl, rfl⟩ rfl rfl rfl rfl rfl (by kernel_rfl) Try.func6 (by kernel_rfl)
    (of_decide_eq_true (by kernel_rfl)) (by unfold Func.isWrapper; first | (rw [if_pos (by decide +kernel)]; kernel_rfl) | (rw [if_neg (by decide +kernel)]; exact ⟨rfl, rfl⟩))
    (fun os started H enc _ F => by rw [OpenClaim.pre_eq_preRow]; exact lifted os started H enc F)
end Go.Proofs.Ytllncocibkgjkaa.jtreeReads
