/-
  Which limit a batch is beyond is told as was said, and so are the tighter limits: the law PolicyOver answers true for every pair of policies and every batch. No condition.
-/
import Derived.Test.YtafgmmfbhpbogaaGreatDoorCards
import Derived.Test.YtafgmmfbhpbogaaGreatDoorTie
import Derived.Test.YtafgmmfbhpbogaaGreatDoorOVm
import Derived.Test.YtafgmmfbhpbogaaGreatDoorOData
import Derived.Test.YtafgmmfbhpbogaaGreatDoorVgZ
import Derived.ProofKit
import Derived.LaidMore
import Derived.OpenShut
import Derived.Deep.DeepHandedRow
set_option linter.unusedSimpArgs false
set_option linter.unusedVariables false
set_option maxHeartbeats 4000000
namespace Go.Proofs.YtafgmmfbhpbogaaGreatDoor.policyOver
open Go Go.VG Go.ChangeShapes Go.WideShapes Go.ChangeAt Go.RowKit
set_option maxRecDepth 100000
theorem fun_ok {H : Type} {ds : List (DataW H)} {xs : List V} (h : AreD tt Tryz.f3.params.toList ds xs) : FunOK Tryz.prog gl0 3 xs [] (.bool true) none := by
  rw [Tryz.params3] at h
  obtain ⟨d0, x0, ds0, xs0, rfl, rfl, hd0, h0⟩ := AreD_cons h
  obtain ⟨d1, x1, ds1, xs1, rfl, rfl, hd1, h1⟩ := AreD_cons h0
  obtain ⟨d2, x2, ds2, xs2, rfl, rfl, hd2, h2⟩ := AreD_cons h1
  obtain ⟨rfl, rfl⟩ := AreD_nil h2
  obtain ⟨p, hp⟩ := isD_po hd0
  obtain ⟨q, hq⟩ := isD_po hd1
  obtain ⟨b, hb⟩ := isD_bt hd2
  refine (FunOK.of_wf ⟨Tryz.f3, rfl, rfl, rfl⟩ fun hw => ?_).args (WkL.cons hp (WkL.cons hq (WkL.cons hb WkL.nil)))
  by_cases hl : leftB b 6000 < 0
  · exact f_lawOver_1 p q b hl
  · exact f_lawOver_2 p q b (by omega) (btv_of_left (by omega) (wf_list (wf_agg hw.2.2.1).1))
theorem own : ownKnob Tryz.prog.godebug = none := by kernel_rfl
theorem laidOut : laidOutB Tryz.prog = true := by kernel_rfl
theorem glOf : GlOf Tryz.prog tt dataTy Rows.policyOverRow.laid gl0 := by
  intro b cs h
  unfold gl0 at h
  split at h
  · cases h
    exact ⟨_, _, 115, 3, List.Mem.tail _ (List.Mem.tail _ (List.Mem.tail _ (List.Mem.tail _ (List.Mem.tail _ (List.Mem.head _))))), rfl, by kernel_rfl, by kernel_rfl, rfl, rfl⟩
  · cases h
    exact ⟨_, _, 54, 3, List.Mem.tail _ (List.Mem.head _), rfl, by kernel_rfl, by kernel_rfl, rfl, rfl⟩
  · cases h
theorem contract (H : Type) (enc : TypeId × Value → H) (W : World) (base : Nat) (args : Array Value) (ds gs : List (DataW H)) (before : List MemPlace)
    (hval : ∀ (j : Nat) t v, Tryz.f3.params[j]? = some t → args[j]? = some v → Value.okWide Tryz.prog W .any base t v)
    (hW : DataW.Whole enc Tryz.prog Tryz.f3.params.toList Rows.policyOverSpec.vars false W args.toList ds gs before) (hL : laidMetH Tryz.prog Rows.policyOverRow.laid W) :
    Calls Tryz.prog 3 args W fun e W' => ∃ v, e = .returned v ∧ Rows.policyOverSpec.post enc Tryz.prog Tryz.f3 false true false false W args v W' :=
  law_contract (bt := 4) dataOK laidOut (fun t ht => by
    rw [Tryz.params3] at ht
    simp at ht
    rcases ht with rfl | rfl
    all_goals exact ⟨rfl, by kernel_rfl, by decide⟩) rfl rfl Tryz.underlying4 glOf hval hW hL (fun h => by
    match ds, h with
    | [d0, d1, d2], _ => rfl) fun xs h => fun_ok h
noncomputable def laidWorld (os : Os) : World := World.doorLaid Tryz.prog 2000 os
def args0 : Array Value := #[.agg #[.int .i64 0, .int .i64 0, .int .i64 0, .int .i64 0, .int .i64 0], .agg #[.int .i64 0, .int .i64 0, .int .i64 0, .int .i64 0, .int .i64 0], .agg #[.slice none 0 0]]
theorem laid_met (os : Os) : laidMetH Tryz.prog Rows.policyOverRow.laid ((laidWorld os).forCall (fun _ _ => 0) ⟨#[], args0, []⟩).memory :=
  laidMetH_of_parts3 (fuel := 8) (laidMet_of_run' 8 (by kernel_rfl) (by kernel_rfl)) (by kernel_rfl) (by kernel_rfl)
theorem reads (os : Os) {H : Type} (enc : TypeId × Value → H) : ∃ places, DataW.whole enc Tryz.prog ((laidWorld os).forCall (fun _ _ => 0) ⟨#[], args0, []⟩).memory Tryz.f3.params.toList Rows.policyOverSpec.vars false args0.toList 8 = some ([.agg [.lit (.int .i64 0), .lit (.int .i64 0), .lit (.int .i64 0), .lit (.int .i64 0), .lit (.int .i64 0)], .agg [.lit (.int .i64 0), .lit (.int .i64 0), .lit (.int .i64 0), .lit (.int .i64 0), .lit (.int .i64 0)], .agg [.nil]], [], places) :=
  ⟨[], by kernel_rfl⟩
theorem lifted (os : Os) (started : os.Started) (H : Type) (enc : TypeId × Value → H) (F : Stop.Interp) :
    ReturnsInHanded {} Tryz.checked os 3 .any ((OpenSpec.ofChange Rows.policyOverSpec).preRow enc Tryz.prog Tryz.f3 Rows.policyOverRow.domain false Rows.policyOverRow.laid) (((OpenSpec.ofChange Rows.policyOverSpec).at F).post enc Tryz.prog Tryz.f3 false true false false) := by
  obtain ⟨places, hx⟩ := reads os enc
  refine returnsInHanded_of_row (C := Tryz.checked) (s := OpenSpec.ofChange Rows.policyOverSpec) own started (by kernel_rfl) Tryz.func3
    (witness_row_at (enc := enc) (C := Tryz.checked) false (laidWorld os) args0 rfl (by kernel_rfl) (by kernel_rfl) (by kernel_rfl)
      (OpenSpec.preRow_of_cond 8 hx (by kernel_rfl) (fun k hk => by cases hk) (by kernel_rfl) (laid_met os))) ?_
  intro W base args ds gs before hval hW _ _ _ hL _ _
  exact contract H enc W base args ds gs before hval hW hL
theorem jo0 : (Rows.policyOverRow.wf (OpenSpec.ofChange Rows.policyOverSpec)) = true := by kernel_rfl
theorem jo1 : (laidOutB Tryz.prog) = true := by kernel_rfl
theorem jo2 : (mapsRowed Tryz.prog) = true := by kernel_rfl
theorem jo3 : (Tryz.f3.params.all (Tryz.prog.readableRec ·)) = true := by kernel_rfl
theorem jo4 : (namedTie Tryz.prog Rows.policyOverRow.named Rows.policyOverSpec.vars) = true := by kernel_rfl
theorem jo5 : ((Rows.policyOverRow.stops == [])) = true := by kernel_rfl
theorem jo6 : ((Tryz.prog.stops == [])) = true := by kernel_rfl
theorem jo7 : ((Rows.policyOverRow.knobs == [])) = true := by kernel_rfl
theorem jo8 : ((Tryz.prog.stopKnobs == [])) = true := by kernel_rfl
theorem jo9 : ((Rows.policyOverRow.inPlace == Tryz.prog.inPlace 3)) = true := by kernel_rfl
theorem jo10 : ((Rows.policyOverRow.unfollowed == Tryz.prog.unfollowed 3)) = true := by kernel_rfl
theorem jo11 : ((Rows.policyOverRow.recurses == Tryz.prog.recurses 3)) = true := by kernel_rfl
theorem jo12 : ((Rows.policyOverRow.named == Tryz.prog.varsNamed 3)) = true := by kernel_rfl
theorem jo13 : ((Rows.policyOverRow.maps == (Tryz.f3.params.toList ++ Rows.policyOverSpec.plain.varTypes Tryz.prog).any (Tryz.prog.mapsRec ·))) = true := by kernel_rfl
theorem jo14 : ((Rows.policyOverRow.ifaces == (Tryz.f3.params.toList ++ Rows.policyOverSpec.plain.varTypes Tryz.prog).any (Tryz.prog.ifacesRec ·))) = true := by kernel_rfl
theorem jo15 : ((Rows.policyOverRow.mapsOut == Tryz.prog.mapsAmong Tryz.f3.resultTypes.toList)) = true := by kernel_rfl
theorem jo16 : ((Rows.policyOverRow.loops == (Tryz.f3.params.toList ++ Rows.policyOverSpec.plain.varTypes Tryz.prog).any (Tryz.prog.loopsFrom ·))) = true := by kernel_rfl
theorem jo17 : ((Rows.policyOverRow.wideKeys == (Tryz.f3.params.toList ++ Rows.policyOverSpec.plain.varTypes Tryz.prog ++ Tryz.f3.resultTypes.toList).any (Tryz.prog.wideKeysFrom ·))) = true := by kernel_rfl
theorem jo18 : (Rows.policyOverSpec.vars.all (Tryz.prog.varReadable ·)) = true := by kernel_rfl
theorem jo19 : (Tryz.f3.resultTypes.all (fun t => Tryz.prog.readableRec t && decide (t < Tryz.prog.types.size))) = true := by kernel_rfl
theorem jo20 : ((Rows.policyOverRow.ifacesOut == Tryz.f3.resultTypes.toList.any (Tryz.prog.ifacesRec ·))) = true := by kernel_rfl
theorem jo21 : ((Rows.policyOverRow.loopsOut == Tryz.f3.resultTypes.toList.any (Tryz.prog.loopsFrom ·))) = true := by kernel_rfl
theorem jo22 : ((Rows.policyOverRow.plainKeys == Tryz.prog.plainKeys)) = true := by kernel_rfl
theorem jo23 : (Rows.policyOverRow.shortTexts.isNone) = true := by kernel_rfl
theorem jo24 : (Tryz.prog.stopsHeard) = true := by kernel_rfl
theorem jo25 : (Tryz.prog.mayEnter) = true := by kernel_rfl
theorem jo26 : ((Rows.policyOverRow.lifted == Tryz.prog.liftsFinal)) = true := by kernel_rfl
theorem jo27 : ((Tryz.prog.make == some Rows.policyOverRow.make)) = true := by kernel_rfl
theorem jo28 : ((Rows.policyOverRow.kinds == (if Rows.policyOverRow.domain.isEmpty then [] else Tryz.f3.params.toList.map fun t => match Tryz.prog.underlying t with | some (.int k) => some k | _ => none))) = true := by kernel_rfl
theorem jo29 : ((Rows.policyOverRow.pinned == Rows.policyOverRow.pinnedBy)) = true := by kernel_rfl
theorem jo30 : ((Rows.policyOverRow.veiled == (Tryz.f3.params.toList ++ Rows.policyOverSpec.plain.varTypes Tryz.prog ++ Tryz.f3.resultTypes.toList).any (Tryz.prog.veiledRec ·))) = true := by kernel_rfl
theorem jo31 : (Rows.policyOverRow.veiledFits Tryz.prog Tryz.f3.params.toList (Tryz.f3.params.toList ++ Rows.policyOverSpec.plain.varTypes Tryz.prog ++ Tryz.f3.resultTypes.toList)) = true := by kernel_rfl
theorem joI {a b : Bool} (h : a = true) (k : b = true) : (a && b) = true := by rw [h, k]; rfl
theorem closed : joinedFacts Tryz.prog 3 Tryz.f3 (OpenSpec.ofChange Rows.policyOverSpec).bare Rows.policyOverRow = true := by
  unfold joinedFacts
  exact (joI (joI (joI (joI (joI (joI (joI (joI (joI (joI (joI (joI (joI (joI (joI (joI (joI (joI (joI (joI (joI (joI (joI (joI (joI (joI (joI (joI (joI (joI (joI jo0 jo1) jo2) jo3) jo4) jo5) jo6) jo7) jo8) jo9) jo10) jo11) jo12) jo13) jo14) jo15) jo16) jo17) jo18) jo19) jo20) jo21) jo22) jo23) jo24) jo25) jo26) jo27) jo28) jo29) jo30) jo31)
theorem named0 : Tryz.pinned.checked.prog.funcNamed Rows.policyOverRow.func = some 3 := by kernel_rfl
theorem inst0 : Tryz.f3.isInstance Tryz.pinned.checked.prog Rows.policyOverRow.origin Rows.policyOverRow.targs := of_decide_eq_true (by kernel_rfl)
theorem wrap0 : Tryz.f3.isWrapper Tryz.pinned.checked.prog Rows.policyOverRow.wrapper Rows.policyOverRow.mainSum := by unfold Func.isWrapper; first | (rw [if_pos (by decide +kernel)]; kernel_rfl) | (rw [if_neg (by decide +kernel)]; exact ⟨rfl, rfl⟩)
theorem said : Rows.PolicyOverSaid :=
  OpenClaim.holds_of_cond 3 Tryz.f3 rfl rfl rfl rfl rfl rfl rfl ⟨rfl, rfl, rfl, rfl, rfl⟩ rfl rfl rfl rfl rfl named0 Tryz.func3 closed
    inst0 wrap0
    (fun os started H enc _ F => by rw [OpenClaim.pre_eq_preRow]; exact lifted os started H enc F)
theorem plain (f : FuncId) (fn : Func) (hf : Tryz.pinned.checked.prog.funcNamed Rows.policyOverRow.func = some f) (hfn : Tryz.pinned.checked.prog.funcs[f]? = some fn) :
    true = Tryz.pinned.checked.prog.looks [] ∧ ∀ (j : Nat) t, fn.params[j]? = some t → Tryz.pinned.checked.prog.wantsStandIn t = false := by
  obtain rfl : f = 3 := Option.some.inj ((show Tryz.prog.funcNamed Rows.policyOverRow.func = some 3 by kernel_rfl).symm.trans hf) |>.symm
  obtain rfl : fn = Tryz.f3 := (Option.some.inj (Tryz.func3.symm.trans hfn)).symm
  refine ⟨by kernel_rfl, fun j t ht => ?_⟩
  rw [Tryz.params3] at ht
  have ht := Array.mem_of_getElem? ht
  simp at ht
  rcases ht with rfl | rfl
  · exact (show Tryz.prog.wantsStandIn 23 = false by kernel_rfl)
  · exact (show Tryz.prog.wantsStandIn 26 = false by kernel_rfl)
theorem card : Rows.PolicyOverCardSaid :=
  Claim7.holds_tied_plain_at .later [] _ _ _ _ said (fun _ h => by cases h) (by kernel_rfl) (fun _ h => by cases h) policyOver_row_tie rfl ⟨rfl, rfl⟩ (by kernel_rfl) rfl plain (by kernel_rfl)
end Go.Proofs.YtafgmmfbhpbogaaGreatDoor.policyOver
