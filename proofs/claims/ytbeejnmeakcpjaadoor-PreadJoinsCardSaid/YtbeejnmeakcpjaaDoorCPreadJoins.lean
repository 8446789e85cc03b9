/-
  The fields of two texts side by side are those of the first one, and of the second one behind them; what is wrong in the first one alone is wrong there, or hidden by bytes that it lacks: the law PreadJoins answers true. No condition.
-/
import Derived.Test.YtbeejnmeakcpjaaDoorCards
import Derived.Test.YtbeejnmeakcpjaaDoorTie
import Derived.Test.YtbeejnmeakcpjaaDoorPRo
import Derived.Test.YtbeejnmeakcpjaaDoorVgZA
import Derived.ProofKit
import Derived.OpenShut
import Derived.Deep.DeepHandedRow
set_option linter.unusedSimpArgs false
set_option linter.unusedVariables false
set_option maxHeartbeats 4000000
namespace Go.Proofs.YtbeejnmeakcpjaaDoor.preadJoins
open Go Go.VG Go.ChangeShapes Go.WideShapes Go.ChangeAt Go.RowKit
set_option maxRecDepth 100000
theorem fun_ok {H : Type} {ds : List (DataW H)} {xs : List V} (h : AreD tt Tryd.f5.params.toList ds xs) : FunOK Tryd.prog gl0 5 xs [] (.bool true) none := by
  rw [Tryd.params5] at h
  obtain ⟨d0, x0, ds0, xs0, rfl, rfl, hd0, h0⟩ := AreD_cons h
  obtain ⟨d1, x1, ds1, xs1, rfl, rfl, hd1, h1⟩ := AreD_cons h0
  obtain ⟨rfl, rfl⟩ := AreD_nil h1
  obtain ⟨s, rfl, rfl⟩ := isD_strD rfl hd0
  obtain ⟨t, rfl, rfl⟩ := isD_strD rfl hd1
  exact f_lJoins17_1 s t trivial
theorem own : ownKnob Tryd.prog.godebug = none := by kernel_rfl
theorem laidOut : laidOutB Tryd.prog = true := by kernel_rfl
theorem glOf : GlOf Tryd.prog tt dataTy Rows.preadJoinsRow.laid gl0 := by
  intro b cs h
  unfold gl0 at h
  split at h
  · cases h
    exact ⟨_, _, 71, 3, List.Mem.head _, rfl, by kernel_rfl, by kernel_rfl, rfl, rfl⟩
  · cases h
    exact ⟨_, _, 130, 3, List.Mem.tail _ (List.Mem.head _), rfl, by kernel_rfl, by kernel_rfl, rfl, rfl⟩
  · cases h
theorem contract (H : Type) (enc : TypeId × Value → H) (W : World) (base : Nat) (args : Array Value) (ds gs : List (DataW H)) (before : List MemPlace)
    (hval : ∀ (j : Nat) t v, Tryd.f5.params[j]? = some t → args[j]? = some v → Value.okWide Tryd.prog W .any base t v)
    (hW : DataW.Whole enc Tryd.prog Tryd.f5.params.toList Rows.preadJoinsSpec.vars false W args.toList ds gs before) (hL : laidMetH Tryd.prog Rows.preadJoinsRow.laid W) :
    Calls Tryd.prog 5 args W fun e W' => ∃ v, e = .returned v ∧ Rows.preadJoinsSpec.post enc Tryd.prog Tryd.f5 false true false false W args v W' :=
  law_contract (bt := 4) dataOK laidOut (fun t ht => by
    rw [Tryd.params5] at ht
    simp at ht
    subst ht
    exact ⟨rfl, by kernel_rfl, by decide⟩) rfl rfl Tryd.underlying4 glOf hval hW hL (fun h => by
    match ds, h with
    | [d0, d1], _ => rfl) fun xs h => fun_ok h
noncomputable def laidWorld (os : Os) : World :=
  { World.holding Tryd.prog os ⟨#[], #[], []⟩ with heap := (((World.holding Tryd.prog os ⟨#[], #[], []⟩).heap.modify 1 fun
      | .cells _ t frozen => .cells #[.int .i64 (0), .int .i64 (0)] t frozen
      | o => o).modify 0 fun
      | .cells _ t frozen => .cells #[.int .u8 (56), .int .u8 (48), .int .u8 (40), .int .u8 (32), .int .u8 (24), .int .u8 (16), .int .u8 (8), .int .u8 (0)] t frozen
      | o => o) }
def args0 : Array Value := #[.string ⟨#[]⟩, .string ⟨#[]⟩]
theorem laid_met (os : Os) : laidMet Tryd.prog Rows.preadJoinsRow.laid ((laidWorld os).forCall (fun _ _ => 0) ⟨#[], args0, []⟩).memory :=
  laidMet_of_run' 8 (by kernel_rfl) (by kernel_rfl)
theorem reads (os : Os) {H : Type} (enc : TypeId × Value → H) : ∃ places, DataW.whole enc Tryd.prog ((laidWorld os).forCall (fun _ _ => 0) ⟨#[], args0, []⟩).memory Tryd.f5.params.toList Rows.preadJoinsSpec.vars false args0.toList 8 = some ([.lit (.string []), .lit (.string [])], [], places) :=
  ⟨[], by kernel_rfl⟩
theorem lifted (os : Os) (started : os.Started) (H : Type) (enc : TypeId × Value → H) (F : Stop.Interp) :
    ReturnsInHanded {} Tryd.checked os 5 .any ((OpenSpec.ofChange Rows.preadJoinsSpec).preRow enc Tryd.prog Tryd.f5 Rows.preadJoinsRow.domain false Rows.preadJoinsRow.laid) (((OpenSpec.ofChange Rows.preadJoinsSpec).at F).post enc Tryd.prog Tryd.f5 false true false false) := by
  obtain ⟨places, hx⟩ := reads os enc
  refine returnsInHanded_of_row (C := Tryd.checked) (s := OpenSpec.ofChange Rows.preadJoinsSpec) own started (by kernel_rfl) Tryd.func5
    (witness_row_at (enc := enc) (C := Tryd.checked) false (laidWorld os) args0 rfl (by kernel_rfl) (by kernel_rfl) (by kernel_rfl)
      (OpenSpec.preRow_of_cond 8 hx (by kernel_rfl) (fun k hk => by cases hk) (by kernel_rfl) (laid_met os))) ?_
  intro W base args ds gs before hval hW _ _ _ hL _ _
  exact contract H enc W base args ds gs before hval hW hL
theorem said : Rows.PreadJoinsSaid :=
  OpenClaim.holds_of_cond 5 Tryd.f5 rfl rfl rfl rfl rfl rfl rfl ⟨rfl, rfl, rfl, rfl, rfl⟩ rfl rfl rfl rfl rfl (by kernel_rfl) Tryd.func5 (by kernel_rfl)
    (of_decide_eq_true (by kernel_rfl)) (by unfold Func.isWrapper; first | (rw [if_pos (by decide +kernel)]; kernel_rfl) | (rw [if_neg (by decide +kernel)]; exact ⟨rfl, rfl⟩))
    (fun os started H enc _ F => by rw [OpenClaim.pre_eq_preRow]; exact lifted os started H enc F)
theorem plain (f : FuncId) (fn : Func) (hf : Tryd.pinned.checked.prog.funcNamed Rows.preadJoinsRow.func = some f) (hfn : Tryd.pinned.checked.prog.funcs[f]? = some fn) :
    false = Tryd.pinned.checked.prog.looks [] ∧ ∀ (j : Nat) t, fn.params[j]? = some t → Tryd.pinned.checked.prog.wantsStandIn t = false := by
  obtain rfl : f = 5 := Option.some.inj ((show Tryd.prog.funcNamed Rows.preadJoinsRow.func = some 5 by kernel_rfl).symm.trans hf) |>.symm
  obtain rfl : fn = Tryd.f5 := (Option.some.inj (Tryd.func5.symm.trans hfn)).symm
  refine ⟨by kernel_rfl, fun j t ht => ?_⟩
  rw [Tryd.params5] at ht
  have ht := Array.mem_of_getElem? ht
  simp at ht
  subst ht
  · exact (show Tryd.prog.wantsStandIn 9 = false by kernel_rfl)
theorem card : Rows.PreadJoinsCardSaid :=
  Claim7.holds_tied_plain_at .later [] _ _ _ _ said (fun _ h => by cases h) (by kernel_rfl) (fun _ h => by cases h) preadJoins_row_tie rfl ⟨rfl, rfl⟩ (by kernel_rfl) rfl plain (by kernel_rfl)
end Go.Proofs.YtbeejnmeakcpjaaDoor.preadJoins
