/-
  Lists within one another are read up to 32, and more are told to be too deep, whatever stands behind: the law JtreeDeep answers true, where what it reads is of bulk at most 1048576.
-/
import Derived.Test.YtllncocibkgjkaaRows
import Derived.Test.YtllncocibkgjkaaTSa
import Derived.Test.YtllncocibkgjkaaVgZ
import Derived.ProofKit
import Derived.OpenShut
import Derived.Deep.DeepHandedRow
set_option linter.unusedSimpArgs false
set_option linter.unusedVariables false
set_option maxHeartbeats 4000000
namespace Go.Proofs.Ytllncocibkgjkaa.jtreeDeep
open Go Go.VG Go.ChangeShapes Go.WideShapes Go.ChangeAt Go.RowKit
set_option maxRecDepth 100000
theorem uf {H : Type} {ti : TypeId → TI} {t : TypeId} {d : DataW H} {x : V} {k : IntKind} (hk : (ti t).k = .int k) (h : mT ti t d x) : ∃ n, x = .int k n := by
 obtain ⟨f, hd⟩ := h
 simp only [Option.bind_eq_some_iff] at hd
 obtain ⟨cs, h1, h2⟩ := hd
 obtain ⟨n, rfl⟩ := xM hk h1
 rw [hk] at h2
 exact ⟨n, (Option.some.inj h2).symm⟩
theorem tY {H : Type} {ds : List (DataW H)} {xs : List V} (h : iY tt Try.f8.params.toList ds xs) (hk : Rows.uptoBulkAll ds ≤ 1048576) : eB Try.prog fi 8 xs [] (.bool true) none := by
 rw [Try.params8] at h
 obtain ⟨d0, x0, ds0, xs0, rfl, rfl, hd0, h0⟩ := qn h
 obtain ⟨d1, x1, ds1, xs1, rfl, rfl, hd1, h1⟩ := qn h0
 obtain ⟨rfl, rfl⟩ := xd h1
 obtain ⟨k, rfl⟩ := uf (k := .u8) rfl hd0
 obtain ⟨s, rfl, rfl⟩ := zw rfl hd1
 simp only [Rows.uptoBulk, Rows.uptoBulkAll] at hk
 refine eB.of_wf (yH 0 s (by omega)).1 fun hw => ?_
 have hk8 : 0 ≤ k ∧ k ≤ 255 := hw.1
 rw [da hk8]
 exact yH (byte k) s (by omega)
theorem own : ownKnob Try.prog.godebug = none := by kernel_rfl
theorem laidOut : laidOutB Try.prog = true := by kernel_rfl
theorem u0 : qq Try.prog tt lX Rows.jtreeDeepUptoRow.laid fi := by
 intro b cs h
 cases h
theorem CA {H : Type} {ds gs : List (DataW H)} (h : Rows.uptoSmall H (ds ++ gs) = true) : Rows.uptoBulkAll ds ≤ 1048576 := by
 have h := of_decide_eq_true h
 have e : ∀ l : List (DataW H), Rows.uptoBulkAll (l ++ gs) = Rows.uptoBulkAll l + Rows.uptoBulkAll gs := fun l => by
  induction l with
  | nil => simp [Rows.uptoBulkAll]
  | cons x l ih => simp only [List.cons_append, Rows.uptoBulkAll, ih]; omega
 rw [e] at h
 omega
theorem tz (H : Type) (enc : TypeId × Value → H) (W : World) (base : Nat) (args : Array Value) (ds gs : List (DataW H)) (before : List MemPlace)
   (hval : ∀ (j : Nat) t v, Try.f8.params[j]? = some t → args[j]? = some v → Value.okWide Try.prog W .any base t v)
   (hW : DataW.Whole enc Try.prog Try.f8.params.toList Rows.jtreeDeepSpec.vars false W args.toList ds gs before) (hL : laidMetH Try.prog Rows.jtreeDeepUptoRow.laid W) (hk : Rows.uptoSmall H (ds ++ gs) = true) :
   Calls Try.prog 8 args W fun e W' => ∃ v, e = .returned v ∧ Rows.jtreeDeepSpec.post enc Try.prog Try.f8 false true false false W args v W' :=
 zV (bt := 4) xY laidOut (fun t ht => by
  rw [Try.params8] at ht
  simp at ht
  rcases ht with rfl | rfl
  all_goals exact ⟨rfl, by kernel_rfl, by decide⟩) rfl rfl Try.underlying4 u0 hval hW hL (fun h => by
  match ds, h with
  | [d0, d1], _ => rfl) fun xs h => tY h (CA hk)
noncomputable def mn (os : Os) : World := World.holding Try.prog os ⟨#[], #[], []⟩
def jX : Array Value := #[.int .u8 0, .string ⟨#[]⟩]
theorem ux (os : Os) : laidMet Try.prog Rows.jtreeDeepUptoRow.laid ((mn os).forCall (fun _ _ => 0) ⟨#[], jX, []⟩).memory :=
 laidMet_of_run' 8 (by kernel_rfl) (by kernel_rfl)
theorem reads (os : Os) {H : Type} (enc : TypeId × Value → H) : ∃ places, DataW.whole enc Try.prog ((mn os).forCall (fun _ _ => 0) ⟨#[], jX, []⟩).memory Try.f8.params.toList Rows.jtreeDeepSpec.vars false jX.toList 8 = some ([.lit (.int .u8 0), .lit (.string [])], [], places) :=
 ⟨[], by kernel_rfl⟩
theorem lifted (os : Os) (started : os.Started) (H : Type) (enc : TypeId × Value → H) (F : Stop.Interp) :
   ReturnsInHanded {} Try.checked os 8 .any ((Rows.OpenSpec.upto Rows.jtreeDeepSpec).preRow enc Try.prog Try.f8 Rows.jtreeDeepUptoRow.domain false Rows.jtreeDeepUptoRow.laid) (((Rows.OpenSpec.upto Rows.jtreeDeepSpec).at F).post enc Try.prog Try.f8 false true false false) := by
 obtain ⟨places, hx⟩ := reads os enc
 refine returnsInHanded_of_row (C := Try.checked) (s := Rows.OpenSpec.upto Rows.jtreeDeepSpec) own started (by kernel_rfl) Try.func8
  (witness_row_at (enc := enc) (C := Try.checked) false (mn os) jX rfl (by kernel_rfl) (by kernel_rfl) (by kernel_rfl)
   (OpenSpec.preRow_of_cond 8 hx (by kernel_rfl) (fun k hk => by cases hk; kernel_rfl) (by kernel_rfl) (ux os))) ?_
 intro W base args ds gs before hval hW _ hcond _ hL _ _
 exact tz H enc W base args ds gs before hval hW hL (hcond _ rfl)
theorem said : Rows.JtreeDeepUptoSaid :=
 OpenClaim.holds_of_cond 8 Try.f8 rfl rfl rfl rfl rfl rfl rfl ⟨rfl, rfl, rfl, rfl, rfl⟩ rfl rfl rfl rfl rfl (by kernel_rfl) Try.func8 (by kernel_rfl)
  (of_decide_eq_true (by kernel_rfl)) (by unfold Func.isWrapper; first | (rw [if_pos (by decide +kernel)]; kernel_rfl) | (rw [if_neg (by decide +kernel)]; exact ⟨rfl, rfl⟩))
  (fun os started H enc _ F => by rw [OpenClaim.pre_eq_preRow]; exact lifted os started H enc F)
end Go.Proofs.Ytllncocibkgjkaa.jtreeDeep
