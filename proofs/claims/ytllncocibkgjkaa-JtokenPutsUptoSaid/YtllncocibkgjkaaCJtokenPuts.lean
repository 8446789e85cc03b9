/-
  Any token's bytes are what was said, behind what is there already: the law JtokenPuts answers true. Condition: the arguments' bulk is at most 1048576.
-/
import Derived.Test.YtllncocibkgjkaaRows
import Derived.Test.YtllncocibkgjkaaJTu
import Derived.Test.YtllncocibkgjkaaVgZA
import Derived.ProofKit
import Derived.OpenShut
import Derived.Deep.DeepHandedRow
set_option linter.unusedSimpArgs false
set_option linter.unusedVariables false
set_option maxHeartbeats 4000000
namespace Go.Proofs.Ytllncocibkgjkaa.jtokenPuts
open Go Go.VG Go.ChangeShapes Go.WideShapes Go.ChangeAt Go.RowKit
set_option maxRecDepth 100000
theorem fun_ok {H : Type} {ds : List (DataW H)} {xs : List V} (h : AreD tt Try.f4.params.toList ds xs) (hk : Rows.uptoBulkAll ds ≤ 1048576) : FunOK Try.prog gl0 4 xs [] (.bool true) none := by
  rw [Try.params4] at h
  obtain ⟨d0, x0, ds0, xs0, rfl, rfl, hd0, h0⟩ := AreD_cons h
  obtain ⟨d1, x1, ds1, xs1, rfl, rfl, hd1, h1⟩ := AreD_cons h0
  obtain ⟨rfl, rfl⟩ := AreD_nil h1
  obtain ⟨s0, rfl, rfl⟩ := isD_strD rfl hd0
  obtain ⟨f, hd⟩ := hd1
  simp only [Option.bind_eq_some_iff] at hd
  obtain ⟨cs, g1, g2⟩ := hd
  obtain ⟨f', parts, xss, rfl, rfl, hlen, hm, rfl⟩ := cellsD_structD (fs := [(0, 5), (1, 9)]) rfl g1
  match parts, hlen, hm with
  | [p0, p1], _, hm0 =>
    obtain ⟨c0, r0, k0, hm1, rfl⟩ := mapM_two hm0
    obtain ⟨c1, r1, k1, hm2, rfl⟩ := mapM_two hm1
    simp at hm2; subst hm2
    obtain ⟨k, rfl⟩ := cellsD_intK (k := .u8) rfl k0
    obtain ⟨s, rfl, e1⟩ := cellsD_strD rfl k1
    have e1 : p1 = .lit (.string s) := e1
    subst e1
    have g2 : some (V.agg [.int .u8 k, .str s]) = some x1 := g2
    cases g2
    simp only [Rows.uptoBulk, Rows.uptoBulkAll] at hk
    refine FunOK.of_wf (f_lawPuts12_1 s0 0 s (by omega)).1 fun hw => ?_
    have hk8 : 0 ≤ k ∧ k ≤ 255 := hw.2.1.1
    rw [viewB hk8]
    exact f_lawPuts12_1 s0 (byte k) s (by omega)
theorem own : ownKnob Try.prog.godebug = none := by kernel_rfl
theorem laidOut : laidOutB Try.prog = true := by kernel_rfl
theorem glOf : GlOf Try.prog tt dataTy Rows.jtokenPutsUptoRow.laid gl0 := by
  intro b cs h
  cases h
theorem bulk_of {H : Type} {ds gs : List (DataW H)} (h : Rows.uptoSmall H (ds ++ gs) = true) : Rows.uptoBulkAll ds ≤ 1048576 := by
  have h := of_decide_eq_true h
  have e : ∀ l : List (DataW H), Rows.uptoBulkAll (l ++ gs) = Rows.uptoBulkAll l + Rows.uptoBulkAll gs := fun l => by
    induction l with
    | nil => simp [Rows.uptoBulkAll]
    | cons x l ih => simp only [List.cons_append, Rows.uptoBulkAll, ih]; omega
  rw [e] at h
  omega
theorem contract (H : Type) (enc : TypeId × Value → H) (W : World) (base : Nat) (args : Array Value) (ds gs : List (DataW H)) (before : List MemPlace)
    (hval : ∀ (j : Nat) t v, Try.f4.params[j]? = some t → args[j]? = some v → Value.okWide Try.prog W .any base t v)
    (hW : DataW.Whole enc Try.prog Try.f4.params.toList Rows.jtokenPutsSpec.vars false W args.toList ds gs before) (hL : laidMetH Try.prog Rows.jtokenPutsUptoRow.laid W) (hk : Rows.uptoSmall H (ds ++ gs) = true) :
    Calls Try.prog 4 args W fun e W' => ∃ v, e = .returned v ∧ Rows.jtokenPutsSpec.post enc Try.prog Try.f4 false true false false W args v W' :=
  law_contract (bt := 4) dataOK laidOut (fun t ht => by
    rw [Try.params4] at ht
    simp at ht
    rcases ht with rfl | rfl
    all_goals exact ⟨rfl, by kernel_rfl, by decide⟩) rfl rfl Try.underlying4 glOf hval hW hL (fun h => by
    match ds, h with
    | [d0, d1], _ => rfl) fun xs h => fun_ok h (bulk_of hk)
noncomputable def laidWorld (os : Os) : World := World.holding Try.prog os ⟨#[], #[], []⟩
def args0 : Array Value := #[.string ⟨#[]⟩, .agg #[.int .u8 0, .string ⟨#[]⟩]]
theorem laid_met (os : Os) : laidMet Try.prog Rows.jtokenPutsUptoRow.laid ((laidWorld os).forCall (fun _ _ => 0) ⟨#[], args0, []⟩).memory :=
  laidMet_of_run' 8 (by kernel_rfl) (by kernel_rfl)
theorem reads (os : Os) {H : Type} (enc : TypeId × Value → H) : ∃ places, DataW.whole enc Try.prog ((laidWorld os).forCall (fun _ _ => 0) ⟨#[], args0, []⟩).memory Try.f4.params.toList Rows.jtokenPutsSpec.vars false args0.toList 8 = some ([.lit (.string []), .agg [.lit (.int .u8 0), .lit (.string [])]], [], places) :=
  ⟨[], by kernel_rfl⟩
theorem lifted (os : Os) (started : os.Started) (H : Type) (enc : TypeId × Value → H) (F : Stop.Interp) :
    ReturnsInHanded {} Try.checked os 4 .any ((Rows.OpenSpec.upto Rows.jtokenPutsSpec).preRow enc Try.prog Try.f4 Rows.jtokenPutsUptoRow.domain false Rows.jtokenPutsUptoRow.laid) (((Rows.OpenSpec.upto Rows.jtokenPutsSpec).at F).post enc Try.prog Try.f4 false true false false) := by
  obtain ⟨places, hx⟩ := reads os enc
  refine returnsInHanded_of_row (C := Try.checked) (s := Rows.OpenSpec.upto Rows.jtokenPutsSpec) own started (by kernel_rfl) Try.func4
    (witness_row_at (enc := enc) (C := Try.checked) false (laidWorld os) args0 rfl (by kernel_rfl) (by kernel_rfl) (by kernel_rfl)
      (OpenSpec.preRow_of_cond 8 hx (by kernel_rfl) (fun k hk => by cases hk; kernel_rfl) (by kernel_rfl) (laid_met os))) ?_
  intro W base args ds gs before hval hW _ hcond _ hL _ _
  exact contract H enc W base args ds gs before hval hW hL (hcond _ rfl)
theorem said : Rows.JtokenPutsUptoSaid :=
  OpenClaim.holds_of_cond 4 Try.f4 rfl rfl rfl rfl rfl rfl rfl ⟨rfl, rfl, rfl, rfl, rfl⟩ rfl rfl rfl rfl rfl (by kernel_rfl) Try.func4 (by kernel_rfl)
    (of_decide_eq_true (by kernel_rfl)) (by unfold Func.isWrapper; first | (rw [if_pos (by decide +kernel)]; kernel_rfl) | (rw [if_neg (by decide +kernel)]; exact ⟨rfl, rfl⟩))
    (fun os started H enc _ F => by rw [OpenClaim.pre_eq_preRow]; exact lifted os started H enc F)
end Go.Proofs.Ytllncocibkgjkaa.jtokenPuts
