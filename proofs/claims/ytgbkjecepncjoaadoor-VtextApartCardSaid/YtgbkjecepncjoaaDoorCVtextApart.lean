/-
  Unlike values of one kind have unlike texts: the law VtextApart answers true for every input, and its arguments read as they did. No condition.
-/
import Derived.Test.YtgbkjecepncjoaaDoorCards
import Derived.Test.YtgbkjecepncjoaaDoorTie
import Derived.Test.YtgbkjecepncjoaaDoorPApart
import Derived.Test.YtgbkjecepncjoaaDoorPData
import Derived.ProofKit
import Derived.OpenShut
import Derived.Deep.DeepHandedRow
set_option linter.unusedSimpArgs false
set_option linter.unusedVariables false
namespace Go.Proofs.YtgbkjecepncjoaaDoor.vtextApart
open Go Go.VG Go.ChangeShapes Go.WideShapes Go.ChangeAt Go.RowKit
set_option maxRecDepth 100000
theorem own : ownKnob Tryd.prog.godebug = none := by kernel_rfl
theorem laidOut : laidOutB Tryd.prog = true := by kernel_rfl
theorem glOf : GlOf Tryd.prog tt dataTy Rows.vtextApartRow.laid gl0 := by
  intro b cs h
  unfold gl0 at h
  split at h
  · cases h
    exact ⟨_, _, 64, 3, List.Mem.head _, rfl, by kernel_rfl, by kernel_rfl, rfl, rfl⟩
  · cases h
theorem fun_ok {H : Type} {ds : List (DataW H)} {xs : List V} (h : AreD tt Tryd.f4.params.toList ds xs) : FunOK Tryd.prog gl0 4 xs [] (.bool true) none := by
  match ds, xs, h with
  | [d, d'], [x, x'], h =>
    obtain ⟨v, hv⟩ := isD_val h.1
    obtain ⟨w, hw⟩ := isD_val h.2.1
    exact (FunOK.of_wf ⟨Tryd.f4, rfl, rfl, rfl⟩ fun hh => f_VtextApart v w (ok_of_wf v (by rw [encV_ev]; exact hh.1)) (ok_of_wf w (by rw [encV_ev]; exact hh.2.1))).args (WkL.cons hv (WkL.cons hw WkL.nil))
  | [], [], h => exact h.elim
  | [], _ :: _, h => exact h.elim
  | _ :: _, [], h => exact h.elim
  | [_], _ :: _, h => exact h.2.elim
  | _ :: _ :: _, [_], h => exact h.2.elim
  | [_, _], _ :: _ :: _ :: _, h => exact h.2.2.elim
  | _ :: _ :: _ :: _, _ :: _ :: [], h => exact h.2.2.elim
  | _ :: _ :: _ :: _, _ :: _ :: _ :: _, h => exact h.2.2.elim
theorem contract (H : Type) (enc : TypeId × Value → H) (W : World) (base : Nat) (args : Array Value) (ds gs : List (DataW H)) (before : List MemPlace)
    (hval : ∀ (j : Nat) t v, Tryd.f4.params[j]? = some t → args[j]? = some v → Value.okWide Tryd.prog W .any base t v)
    (hW : DataW.Whole enc Tryd.prog Tryd.f4.params.toList Rows.vtextApartSpec.vars false W args.toList ds gs before) (hL : laidMetH Tryd.prog Rows.vtextApartRow.laid W) :
    Calls Tryd.prog 4 args W fun e W' => ∃ v, e = .returned v ∧ Rows.vtextApartSpec.post enc Tryd.prog Tryd.f4 false true false false W args v W' :=
  law_contract (bt := 4) dataOK laidOut (fun t ht => by
    rw [Tryd.params4] at ht
    obtain rfl : t = 26 := by simpa using ht
    exact ⟨rfl, by kernel_rfl, by decide⟩) rfl rfl Tryd.underlying4 glOf hval hW hL (fun h => by
    match ds, h with
    | [d, d'], _ => rfl) fun xs h => fun_ok h
noncomputable def laidWorld (os : Os) : World :=
  { World.holding Tryd.prog os ⟨#[], #[], []⟩ with heap := (World.holding Tryd.prog os ⟨#[], #[], []⟩).heap.modify 0 fun
      | .cells _ t frozen => .cells #[.int .u8 56, .int .u8 48, .int .u8 40, .int .u8 32, .int .u8 24, .int .u8 16, .int .u8 8, .int .u8 0] t frozen
      | o => o }
def arg0 : Value := .agg #[.int .u8 0, .string ⟨#[]⟩, .int .i64 0, .int .u64 0, .slice none 0 0, .slice none 0 0]
theorem laid_met (os : Os) : laidMet Tryd.prog Rows.vtextApartRow.laid ((laidWorld os).forCall (fun _ _ => 0) ⟨#[], #[arg0, arg0], []⟩).memory :=
  laidMet_of_run' 8 (by kernel_rfl) (by kernel_rfl)
theorem reads (os : Os) {H : Type} (enc : TypeId × Value → H) : ∃ places, DataW.whole enc Tryd.prog ((laidWorld os).forCall (fun _ _ => 0) ⟨#[], #[arg0, arg0], []⟩).memory Tryd.f4.params.toList Rows.vtextApartSpec.vars false #[arg0, arg0].toList 8 = some ([.agg [.lit (.int .u8 0), .lit (.string []), .lit (.int .i64 0), .lit (.int .u64 0), .nil, .nil], .agg [.lit (.int .u8 0), .lit (.string []), .lit (.int .i64 0), .lit (.int .u64 0), .nil, .nil]], [], places) :=
  ⟨[], by kernel_rfl⟩
theorem lifted (os : Os) (started : os.Started) (H : Type) (enc : TypeId × Value → H) (F : Stop.Interp) :
    ReturnsInHanded {} Tryd.checked os 4 .any ((OpenSpec.ofChange Rows.vtextApartSpec).preRow enc Tryd.prog Tryd.f4 Rows.vtextApartRow.domain false Rows.vtextApartRow.laid) (((OpenSpec.ofChange Rows.vtextApartSpec).at F).post enc Tryd.prog Tryd.f4 false true false false) := by
  obtain ⟨places, hx⟩ := reads os enc
  refine returnsInHanded_of_row (C := Tryd.checked) (s := OpenSpec.ofChange Rows.vtextApartSpec) own started (by kernel_rfl) Tryd.func4
    (witness_row_at (enc := enc) (C := Tryd.checked) false (laidWorld os) #[arg0, arg0] rfl (by kernel_rfl) (by kernel_rfl) (by kernel_rfl)
      (OpenSpec.preRow_of_cond 8 hx (by kernel_rfl) (fun k hk => by cases hk) (by kernel_rfl) (laid_met os))) ?_
  intro W base args ds gs before hval hW _ _ _ hL _ _
  exact contract H enc W base args ds gs before hval hW hL
theorem said : Rows.VtextApartSaid :=
  OpenClaim.holds_of_cond 4 Tryd.f4 rfl rfl rfl rfl rfl rfl rfl ⟨rfl, rfl, rfl, rfl, rfl⟩ rfl rfl rfl rfl rfl (by kernel_rfl) Tryd.func4 (by kernel_rfl)
    (of_decide_eq_true (by kernel_rfl)) (by unfold Func.isWrapper; first | (rw [if_pos (by decide +kernel)]; kernel_rfl) | (rw [if_neg (by decide +kernel)]; exact ⟨rfl, rfl⟩))
    (fun os started H enc _ F => by rw [OpenClaim.pre_eq_preRow]; exact lifted os started H enc F)
theorem plain (f : FuncId) (fn : Func) (hf : Tryd.pinned.checked.prog.funcNamed Rows.vtextApartRow.func = some f) (hfn : Tryd.pinned.checked.prog.funcs[f]? = some fn) :
    true = Tryd.pinned.checked.prog.looks [] ∧ ∀ (j : Nat) t, fn.params[j]? = some t → Tryd.pinned.checked.prog.wantsStandIn t = false := by
  obtain rfl : f = 4 := Option.some.inj ((show Tryd.prog.funcNamed Rows.vtextApartRow.func = some 4 by kernel_rfl).symm.trans hf) |>.symm
  obtain rfl : fn = Tryd.f4 := (Option.some.inj (Tryd.func4.symm.trans hfn)).symm
  refine ⟨by kernel_rfl, fun j t ht => ?_⟩
  rw [Tryd.params4] at ht
  obtain rfl : t = 26 := by simpa using Array.mem_of_getElem? ht
  exact (show Tryd.prog.wantsStandIn 26 = false by kernel_rfl)
theorem card : Rows.VtextApartCardSaid :=
  Claim7.holds_tied_plain_at .later [] _ _ _ _ said (fun _ h => by cases h) (by kernel_rfl) (fun _ h => by cases h) vtextApart_row_tie rfl ⟨rfl, rfl⟩ (by kernel_rfl) rfl plain (by kernel_rfl)
end Go.Proofs.YtgbkjecepncjoaaDoor.vtextApart
