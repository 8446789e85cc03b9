/-
  Whatever bytes there are: what the fields of any number say together, as numbers, as bytes, joined and one by one, is told as was said, or that they are no message: the law PmsgTells answers true. No condition.
-/
import Derived.Test.YtbeejnmeakcpjaaDoorCards
import Derived.Test.YtbeejnmeakcpjaaDoorTie
import Derived.Test.YtbeejnmeakcpjaaDoorPQd
import Derived.Test.YtbeejnmeakcpjaaDoorVgZA
import Derived.ProofKit
import Derived.OpenShut
import Derived.Deep.DeepHandedRow
set_option linter.unusedSimpArgs false
set_option linter.unusedVariables false
set_option maxHeartbeats 4000000
namespace Go.Proofs.YtbeejnmeakcpjaaDoor.pmsgTells
open Go Go.VG Go.ChangeShapes Go.WideShapes Go.ChangeAt Go.RowKit
set_option maxRecDepth 100000
theorem isD_i64 {H : Type} {t : TypeId} {d : DataW H} {x : V} (hk : (tt t).k = .int .i64) (h : IsD tt t d x) : ∃ n, x = .int .i64 n := by
  obtain ⟨f, hd⟩ := h
  simp only [Option.bind_eq_some_iff] at hd
  obtain ⟨cs, h1, h2⟩ := hd
  obtain ⟨n, rfl⟩ := cellsD_intK hk h1
  rw [hk] at h2
  exact ⟨n, (Option.some.inj h2).symm⟩
theorem fun_ok {H : Type} {ds : List (DataW H)} {xs : List V} (h : AreD tt Tryd.f3.params.toList ds xs) : FunOK Tryd.prog gl0 3 xs [] (.bool true) none := by
  rw [Tryd.params3] at h
  obtain ⟨d0, x0, ds0, xs0, rfl, rfl, hd0, h0⟩ := AreD_cons h
  obtain ⟨d1, x1, ds1, xs1, rfl, rfl, hd1, h1⟩ := AreD_cons h0
  obtain ⟨d2, x2, ds2, xs2, rfl, rfl, hd2, h2⟩ := AreD_cons h1
  obtain ⟨rfl, rfl⟩ := AreD_nil h2
  obtain ⟨t, rfl, rfl⟩ := isD_strD rfl hd0
  obtain ⟨n, rfl⟩ := isD_i64 rfl hd1
  obtain ⟨w, rfl⟩ := isD_i64 rfl hd2
  by_cases hf : aFine t = 0
  · exact f_lTells18Y_1 t n w hf
  · exact f_lTells18N_1 t n w hf
theorem own : ownKnob Tryd.prog.godebug = none := by kernel_rfl
theorem laidOut : laidOutB Tryd.prog = true := by kernel_rfl
theorem glOf : GlOf Tryd.prog tt dataTy Rows.pmsgTellsRow.laid gl0 := by
  intro b cs h
  unfold gl0 at h
  split at h
  · cases h
    exact ⟨_, _, 71, 3, List.Mem.head _, rfl, by kernel_rfl, by kernel_rfl, rfl, rfl⟩
  · cases h
theorem contract (H : Type) (enc : TypeId × Value → H) (W : World) (base : Nat) (args : Array Value) (ds gs : List (DataW H)) (before : List MemPlace)
    (hval : ∀ (j : Nat) t v, Tryd.f3.params[j]? = some t → args[j]? = some v → Value.okWide Tryd.prog W .any base t v)
    (hW : DataW.Whole enc Tryd.prog Tryd.f3.params.toList Rows.pmsgTellsSpec.vars false W args.toList ds gs before) (hL : laidMetH Tryd.prog Rows.pmsgTellsRow.laid W) :
    Calls Tryd.prog 3 args W fun e W' => ∃ v, e = .returned v ∧ Rows.pmsgTellsSpec.post enc Tryd.prog Tryd.f3 false true false false W args v W' :=
  law_contract (bt := 4) dataOK laidOut (fun t ht => by
    rw [Tryd.params3] at ht
    simp at ht
    rcases ht with rfl | rfl
    all_goals exact ⟨rfl, by kernel_rfl, by decide⟩) rfl rfl Tryd.underlying4 glOf hval hW hL (fun h => by
    match ds, h with
    | [d0, d1, d2], _ => rfl) fun xs h => fun_ok h
noncomputable def laidWorld (os : Os) : World :=
  { World.holding Tryd.prog os ⟨#[], #[], []⟩ with heap := ((World.holding Tryd.prog os ⟨#[], #[], []⟩).heap.modify 1 fun
      | .cells _ t frozen => .cells #[.int .i64 (0), .int .i64 (0)] t frozen
      | o => o) }
def args0 : Array Value := #[.string ⟨#[]⟩, .int .i64 0, .int .i64 0]
theorem laid_met (os : Os) : laidMet Tryd.prog Rows.pmsgTellsRow.laid ((laidWorld os).forCall (fun _ _ => 0) ⟨#[], args0, []⟩).memory :=
  laidMet_of_run' 8 (by kernel_rfl) (by kernel_rfl)
theorem reads (os : Os) {H : Type} (enc : TypeId × Value → H) : ∃ places, DataW.whole enc Tryd.prog ((laidWorld os).forCall (fun _ _ => 0) ⟨#[], args0, []⟩).memory Tryd.f3.params.toList Rows.pmsgTellsSpec.vars false args0.toList 8 = some ([.lit (.string []), .lit (.int .i64 0), .lit (.int .i64 0)], [], places) :=
  ⟨[], by kernel_rfl⟩
theorem lifted (os : Os) (started : os.Started) (H : Type) (enc : TypeId × Value → H) (F : Stop.Interp) :
    ReturnsInHanded {} Tryd.checked os 3 .any ((OpenSpec.ofChange Rows.pmsgTellsSpec).preRow enc Tryd.prog Tryd.f3 Rows.pmsgTellsRow.domain false Rows.pmsgTellsRow.laid) (((OpenSpec.ofChange Rows.pmsgTellsSpec).at F).post enc Tryd.prog Tryd.f3 false true false false) := by
  obtain ⟨places, hx⟩ := reads os enc
  refine returnsInHanded_of_row (C := Tryd.checked) (s := OpenSpec.ofChange Rows.pmsgTellsSpec) own started (by kernel_rfl) Tryd.func3
    (witness_row_at (enc := enc) (C := Tryd.checked) false (laidWorld os) args0 rfl (by kernel_rfl) (by kernel_rfl) (by kernel_rfl)
      (OpenSpec.preRow_of_cond 8 hx (by kernel_rfl) (fun k hk => by cases hk) (by kernel_rfl) (laid_met os))) ?_
  intro W base args ds gs before hval hW _ _ _ hL _ _
  exact contract H enc W base args ds gs before hval hW hL
theorem said : Rows.PmsgTellsSaid :=
  OpenClaim.holds_of_cond 3 Tryd.f3 rfl rfl rfl rfl rfl rfl rfl ⟨rfl, rfl, rfl, rfl, rfl⟩ rfl rfl rfl rfl rfl (by kernel_rfl) Tryd.func3 (by kernel_rfl)
    (of_decide_eq_true (by kernel_rfl)) (by unfold Func.isWrapper; first | (rw [if_pos (by decide +kernel)]; kernel_rfl) | (rw [if_neg (by decide +kernel)]; exact ⟨rfl, rfl⟩))
    (fun os started H enc _ F => by rw [OpenClaim.pre_eq_preRow]; exact lifted os started H enc F)
theorem plain (f : FuncId) (fn : Func) (hf : Tryd.pinned.checked.prog.funcNamed Rows.pmsgTellsRow.func = some f) (hfn : Tryd.pinned.checked.prog.funcs[f]? = some fn) :
    false = Tryd.pinned.checked.prog.looks [] ∧ ∀ (j : Nat) t, fn.params[j]? = some t → Tryd.pinned.checked.prog.wantsStandIn t = false := by
  obtain rfl : f = 3 := Option.some.inj ((show Tryd.prog.funcNamed Rows.pmsgTellsRow.func = some 3 by kernel_rfl).symm.trans hf) |>.symm
  obtain rfl : fn = Tryd.f3 := (Option.some.inj (Tryd.func3.symm.trans hfn)).symm
  refine ⟨by kernel_rfl, fun j t ht => ?_⟩
  rw [Tryd.params3] at ht
  have ht := Array.mem_of_getElem? ht
  simp at ht
  rcases ht with rfl | rfl
  · exact (show Tryd.prog.wantsStandIn 9 = false by kernel_rfl)
  · exact (show Tryd.prog.wantsStandIn 3 = false by kernel_rfl)
theorem card : Rows.PmsgTellsCardSaid :=
  Claim7.holds_tied_plain_at .later [] _ _ _ _ said (fun _ h => by cases h) (by kernel_rfl) (fun _ h => by cases h) pmsgTells_row_tie rfl ⟨rfl, rfl⟩ (by kernel_rfl) rfl plain (by kernel_rfl)
end Go.Proofs.YtbeejnmeakcpjaaDoor.pmsgTells
