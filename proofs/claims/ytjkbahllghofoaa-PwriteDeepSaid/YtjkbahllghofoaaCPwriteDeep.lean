/-
  A message within messages has its bytes, and ahead of them tags and sizes, from the outmost one on; what is added to the inner one later does not come in: the law PwriteDeep answers true for every input. No condition.
-/
import Derived.Test.YtjkbahllghofoaaRows
import Derived.Test.YtjkbahllghofoaaMXd
import Derived.Test.YtjkbahllghofoaaVgZ
import Derived.ProofKit
import Derived.OpenShut
import Derived.Deep.DeepHandedRow
set_option linter.unusedSimpArgs false
set_option linter.unusedVariables false
set_option maxHeartbeats 4000000
namespace Go.Proofs.Ytjkbahllghofoaa.pwriteDeep
open Go Go.VG Go.ChangeShapes Go.WideShapes Go.ChangeAt Go.RowKit
set_option maxRecDepth 100000
theorem isD_int {H : Type} {ti : TypeId → TI} {t : TypeId} {d : DataW H} {x : V} {k : IntKind} (hk : (ti t).k = .int k) (h : IsD ti t d x) : ∃ n, x = .int k n := by
  obtain ⟨f, hd⟩ := h
  simp only [Option.bind_eq_some_iff] at hd
  obtain ⟨cs, h1, h2⟩ := hd
  obtain ⟨n, rfl⟩ := cellsD_intK hk h1
  rw [hk] at h2
  exact ⟨n, (Option.some.inj h2).symm⟩
theorem fun_ok {H : Type} {ds : List (DataW H)} {xs : List V} (h : AreD tt Try.f3.params.toList ds xs) : FunOK Try.prog gl0 3 xs [] (.bool true) none := by
  rw [Try.params3] at h
  obtain ⟨d0, x0, ds0, xs0, rfl, rfl, hd0, h0⟩ := AreD_cons h
  obtain ⟨d1, x1, ds1, xs1, rfl, rfl, hd1, h1⟩ := AreD_cons h0
  obtain ⟨rfl, rfl⟩ := AreD_nil h1
  obtain ⟨s, rfl, rfl⟩ := isD_strD rfl hd0
  obtain ⟨n, rfl⟩ := isD_int (k := .u8) rfl hd1
  exact f_lDeep s n
theorem own : ownKnob Try.prog.godebug = none := by kernel_rfl
theorem laidOut : laidOutB Try.prog = true := by kernel_rfl
theorem glOf : GlOf Try.prog tt dataTy Rows.pwriteDeepRow.laid gl0 := by
  intro b cs h
  cases h
theorem contract (H : Type) (enc : TypeId × Value → H) (W : World) (base : Nat) (args : Array Value) (ds gs : List (DataW H)) (before : List MemPlace)
    (hval : ∀ (j : Nat) t v, Try.f3.params[j]? = some t → args[j]? = some v → Value.okWide Try.prog W .any base t v)
    (hW : DataW.Whole enc Try.prog Try.f3.params.toList Rows.pwriteDeepSpec.vars false W args.toList ds gs before) (hL : laidMetH Try.prog Rows.pwriteDeepRow.laid W) :
    Calls Try.prog 3 args W fun e W' => ∃ v, e = .returned v ∧ Rows.pwriteDeepSpec.post enc Try.prog Try.f3 false true false false W args v W' :=
  law_contract (bt := 4) dataOK laidOut (fun t ht => by
    rw [Try.params3] at ht
    simp at ht
    rcases ht with rfl | rfl
    all_goals exact ⟨rfl, by kernel_rfl, by decide⟩) rfl rfl Try.underlying4 glOf hval hW hL (fun h => by
    match ds, h with
    | [d0, d1], _ => rfl) fun xs h => fun_ok h
noncomputable def laidWorld (os : Os) : World := World.holding Try.prog os ⟨#[], #[], []⟩
def args0 : Array Value := #[.string ⟨#[]⟩, .int .u8 0]
theorem laid_met (os : Os) : laidMet Try.prog Rows.pwriteDeepRow.laid ((laidWorld os).forCall (fun _ _ => 0) ⟨#[], args0, []⟩).memory :=
  laidMet_of_run' 8 (by kernel_rfl) (by kernel_rfl)
theorem reads (os : Os) {H : Type} (enc : TypeId × Value → H) : ∃ places, DataW.whole enc Try.prog ((laidWorld os).forCall (fun _ _ => 0) ⟨#[], args0, []⟩).memory Try.f3.params.toList Rows.pwriteDeepSpec.vars false args0.toList 8 = some ([.lit (.string []), .lit (.int .u8 0)], [], places) :=
  ⟨[], by kernel_rfl⟩
theorem lifted (os : Os) (started : os.Started) (H : Type) (enc : TypeId × Value → H) (F : Stop.Interp) :
    ReturnsInHanded {} Try.checked os 3 .any ((OpenSpec.ofChange Rows.pwriteDeepSpec).preRow enc Try.prog Try.f3 Rows.pwriteDeepRow.domain false Rows.pwriteDeepRow.laid) (((OpenSpec.ofChange Rows.pwriteDeepSpec).at F).post enc Try.prog Try.f3 false true false false) := by
  obtain ⟨places, hx⟩ := reads os enc
  refine returnsInHanded_of_row (C := Try.checked) (s := OpenSpec.ofChange Rows.pwriteDeepSpec) own started (by kernel_rfl) Try.func3
    (witness_row_at (enc := enc) (C := Try.checked) false (laidWorld os) args0 rfl (by kernel_rfl) (by kernel_rfl) (by kernel_rfl)
      (OpenSpec.preRow_of_cond 8 hx (by kernel_rfl) (fun k hk => by cases hk) (by kernel_rfl) (laid_met os))) ?_
  intro W base args ds gs before hval hW _ _ _ hL _ _
  exact contract H enc W base args ds gs before hval hW hL
theorem said : Rows.PwriteDeepSaid :=
  OpenClaim.holds_of_cond 3 Try.f3 rfl rfl rfl rfl rfl rfl rfl ⟨rfl, rfl, rfl, rfl, rfl⟩ rfl rfl rfl rfl rfl (by kernel_rfl) Try.func3 (by kernel_rfl)
    (of_decide_eq_true (by kernel_rfl)) (by unfold Func.isWrapper; first | (rw [if_pos (by decide +kernel)]; kernel_rfl) | (rw [if_neg (by decide +kernel)]; exact ⟨rfl, rfl⟩))
    (fun os started H enc _ F => by rw [OpenClaim.pre_eq_preRow]; exact lifted os started H enc F)
end Go.Proofs.Ytjkbahllghofoaa.pwriteDeep
