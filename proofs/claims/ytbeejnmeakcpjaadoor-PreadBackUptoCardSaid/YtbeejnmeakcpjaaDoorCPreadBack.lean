/-
  Any field's bytes are what was said, behind what is there already, as many as are told; one that may be is read as it is, but for what its wire type does not keep: the law PreadBack answers true. Condition: the arguments' bulk is at most 1048576.
-/
import Derived.Test.YtbeejnmeakcpjaaDoorCards
import Derived.Test.YtbeejnmeakcpjaaDoorTie
import Derived.Test.YtbeejnmeakcpjaaDoorPRo
import Derived.Test.YtbeejnmeakcpjaaDoorVgZA
import Derived.ProofKit
import Derived.OpenShut
import Derived.Deep.DeepHandedRow
set_option linter.unusedSimpArgs false
set_option linter.unusedVariables false
set_option maxHeartbeats 4000000
namespace Go.Proofs.YtbeejnmeakcpjaaDoor.preadBack
open Go Go.VG Go.ChangeShapes Go.WideShapes Go.ChangeAt Go.RowKit
set_option maxRecDepth 100000
theorem data_f {H : Type} {d : DataW H} {x : V} (h : IsD tt 43 d x) : ∃ f : Pf, x = ePf f ∧ f.text.length ≤ Rows.uptoBulk d := by
  obtain ⟨f, hd⟩ := h
  simp only [Option.bind_eq_some_iff] at hd
  obtain ⟨cs, h1, h2⟩ := hd
  obtain ⟨f', parts, xss, rfl, rfl, hlen, hm, rfl⟩ := cellsD_structD (fs := [(0, 3), (1, 3), (2, 30), (3, 9)]) rfl h1
  match parts, hlen, hm with
  | [p0, p1, p2, p3], _, hm0 =>
    obtain ⟨c0, r0, g0, hm1, rfl⟩ := mapM_two hm0
    obtain ⟨c1, r1, g1, hm2, rfl⟩ := mapM_two hm1
    obtain ⟨c2, r2, g2, hm3, rfl⟩ := mapM_two hm2
    obtain ⟨c3, r3, g3, hm4, rfl⟩ := mapM_two hm3
    simp at hm4; subst hm4
    obtain ⟨n, rfl⟩ := cellsD_intK (k := .i64) rfl g0
    obtain ⟨w, rfl⟩ := cellsD_intK (k := .i64) rfl g1
    obtain ⟨u, rfl⟩ := cellsD_intK (k := .u64) rfl g2
    obtain ⟨s, rfl, rfl⟩ := cellsD_strD rfl g3
    refine ⟨⟨n, w, u, s⟩, (Option.some.inj h2).symm, ?_⟩
    simp only [Rows.uptoBulk, Rows.uptoBulkAll]
    omega
theorem fun_ok {H : Type} {ds : List (DataW H)} {xs : List V} (h : AreD tt Tryd.f4.params.toList ds xs) (hk : Rows.uptoBulkAll ds ≤ 1048576) : FunOK Tryd.prog gl0 4 xs [] (.bool true) none := by
  rw [Tryd.params4] at h
  obtain ⟨d0, x0, ds0, xs0, rfl, rfl, hd0, h0⟩ := AreD_cons h
  obtain ⟨d1, x1, ds1, xs1, rfl, rfl, hd1, h1⟩ := AreD_cons h0
  obtain ⟨rfl, rfl⟩ := AreD_nil h1
  obtain ⟨s, rfl, rfl⟩ := isD_strD rfl hd0
  obtain ⟨f, rfl, hf⟩ := data_f hd1
  simp only [Rows.uptoBulkAll, Rows.uptoBulk] at hk
  exact f_lFBack17_1 s f ⟨by omega, by omega⟩
theorem own : ownKnob Tryd.prog.godebug = none := by kernel_rfl
theorem laidOut : laidOutB Tryd.prog = true := by kernel_rfl
theorem glOf : GlOf Tryd.prog tt dataTy Rows.preadBackUptoRow.laid gl0 := by
  intro b cs h
  unfold gl0 at h
  split at h
  · cases h
    exact ⟨_, _, 71, 3, List.Mem.head _, rfl, by kernel_rfl, by kernel_rfl, rfl, rfl⟩
  · cases h
    exact ⟨_, _, 130, 3, List.Mem.tail _ (List.Mem.head _), rfl, by kernel_rfl, by kernel_rfl, rfl, rfl⟩
  · cases h
theorem bulk_of {H : Type} {ds gs : List (DataW H)} (h : Rows.uptoSmall H (ds ++ gs) = true) : Rows.uptoBulkAll ds ≤ 1048576 := by
  have h := of_decide_eq_true h
  have e : ∀ l : List (DataW H), Rows.uptoBulkAll (l ++ gs) = Rows.uptoBulkAll l + Rows.uptoBulkAll gs := fun l => by
    induction l with
    | nil => simp [Rows.uptoBulkAll]
    | cons x l ih => simp only [List.cons_append, Rows.uptoBulkAll, ih]; omega
  rw [e] at h
  omega
theorem contract (H : Type) (enc : TypeId × Value → H) (W : World) (base : Nat) (args : Array Value) (ds gs : List (DataW H)) (before : List MemPlace)
    (hval : ∀ (j : Nat) t v, Tryd.f4.params[j]? = some t → args[j]? = some v → Value.okWide Tryd.prog W .any base t v)
    (hW : DataW.Whole enc Tryd.prog Tryd.f4.params.toList Rows.preadBackSpec.vars false W args.toList ds gs before) (hL : laidMetH Tryd.prog Rows.preadBackUptoRow.laid W) (hk : Rows.uptoSmall H (ds ++ gs) = true) :
    Calls Tryd.prog 4 args W fun e W' => ∃ v, e = .returned v ∧ Rows.preadBackSpec.post enc Tryd.prog Tryd.f4 false true false false W args v W' :=
  law_contract (bt := 4) dataOK laidOut (fun t ht => by
    rw [Tryd.params4] at ht
    simp at ht
    rcases ht with rfl | rfl
    all_goals exact ⟨rfl, by kernel_rfl, by decide⟩) rfl rfl Tryd.underlying4 glOf hval hW hL (fun h => by
    match ds, h with
    | [d0, d1], _ => rfl) fun xs h => fun_ok h (bulk_of hk)
noncomputable def laidWorld (os : Os) : World :=
  { World.holding Tryd.prog os ⟨#[], #[], []⟩ with heap := (((World.holding Tryd.prog os ⟨#[], #[], []⟩).heap.modify 1 fun
      | .cells _ t frozen => .cells #[.int .i64 (0), .int .i64 (0)] t frozen
      | o => o).modify 0 fun
      | .cells _ t frozen => .cells #[.int .u8 (56), .int .u8 (48), .int .u8 (40), .int .u8 (32), .int .u8 (24), .int .u8 (16), .int .u8 (8), .int .u8 (0)] t frozen
      | o => o) }
def args0 : Array Value := #[.string ⟨#[]⟩, .agg #[.int .i64 0, .int .i64 0, .int .u64 0, .string ⟨#[]⟩]]
theorem laid_met (os : Os) : laidMet Tryd.prog Rows.preadBackUptoRow.laid ((laidWorld os).forCall (fun _ _ => 0) ⟨#[], args0, []⟩).memory :=
  laidMet_of_run' 8 (by kernel_rfl) (by kernel_rfl)
theorem reads (os : Os) {H : Type} (enc : TypeId × Value → H) : ∃ places, DataW.whole enc Tryd.prog ((laidWorld os).forCall (fun _ _ => 0) ⟨#[], args0, []⟩).memory Tryd.f4.params.toList Rows.preadBackSpec.vars false args0.toList 8 = some ([.lit (.string []), .agg [.lit (.int .i64 0), .lit (.int .i64 0), .lit (.int .u64 0), .lit (.string [])]], [], places) :=
  ⟨[], by kernel_rfl⟩
theorem lifted (os : Os) (started : os.Started) (H : Type) (enc : TypeId × Value → H) (F : Stop.Interp) :
    ReturnsInHanded {} Tryd.checked os 4 .any ((Rows.OpenSpec.upto Rows.preadBackSpec).preRow enc Tryd.prog Tryd.f4 Rows.preadBackUptoRow.domain false Rows.preadBackUptoRow.laid) (((Rows.OpenSpec.upto Rows.preadBackSpec).at F).post enc Tryd.prog Tryd.f4 false true false false) := by
  obtain ⟨places, hx⟩ := reads os enc
  refine returnsInHanded_of_row (C := Tryd.checked) (s := Rows.OpenSpec.upto Rows.preadBackSpec) own started (by kernel_rfl) Tryd.func4
    (witness_row_at (enc := enc) (C := Tryd.checked) false (laidWorld os) args0 rfl (by kernel_rfl) (by kernel_rfl) (by kernel_rfl)
      (OpenSpec.preRow_of_cond 8 hx (by kernel_rfl) (fun k hk => by cases hk; kernel_rfl) (by kernel_rfl) (laid_met os))) ?_
  intro W base args ds gs before hval hW _ hcond _ hL _ _
  exact contract H enc W base args ds gs before hval hW hL (hcond _ rfl)
theorem said : Rows.PreadBackUptoSaid :=
  OpenClaim.holds_of_cond 4 Tryd.f4 rfl rfl rfl rfl rfl rfl rfl ⟨rfl, rfl, rfl, rfl, rfl⟩ rfl rfl rfl rfl rfl (by kernel_rfl) Tryd.func4 (by kernel_rfl)
    (of_decide_eq_true (by kernel_rfl)) (by unfold Func.isWrapper; first | (rw [if_pos (by decide +kernel)]; kernel_rfl) | (rw [if_neg (by decide +kernel)]; exact ⟨rfl, rfl⟩))
    (fun os started H enc _ F => by rw [OpenClaim.pre_eq_preRow]; exact lifted os started H enc F)
theorem plain (f : FuncId) (fn : Func) (hf : Tryd.pinned.checked.prog.funcNamed Rows.preadBackUptoRow.func = some f) (hfn : Tryd.pinned.checked.prog.funcs[f]? = some fn) :
    false = Tryd.pinned.checked.prog.looks [] ∧ ∀ (j : Nat) t, fn.params[j]? = some t → Tryd.pinned.checked.prog.wantsStandIn t = false := by
  obtain rfl : f = 4 := Option.some.inj ((show Tryd.prog.funcNamed Rows.preadBackUptoRow.func = some 4 by kernel_rfl).symm.trans hf) |>.symm
  obtain rfl : fn = Tryd.f4 := (Option.some.inj (Tryd.func4.symm.trans hfn)).symm
  refine ⟨by kernel_rfl, fun j t ht => ?_⟩
  rw [Tryd.params4] at ht
  have ht := Array.mem_of_getElem? ht
  simp at ht
  rcases ht with rfl | rfl
  · exact (show Tryd.prog.wantsStandIn 9 = false by kernel_rfl)
  · exact (show Tryd.prog.wantsStandIn 43 = false by kernel_rfl)
theorem card : Rows.PreadBackUptoCardSaid :=
  Claim7.holds_tied_plain_at .later [] _ _ _ _ said (fun _ h => by cases h) (by kernel_rfl) (fun _ h => by cases h) preadBackUpto_row_tie rfl ⟨rfl, rfl⟩ (by kernel_rfl) rfl plain (by kernel_rfl)
end Go.Proofs.YtbeejnmeakcpjaaDoor.preadBack
