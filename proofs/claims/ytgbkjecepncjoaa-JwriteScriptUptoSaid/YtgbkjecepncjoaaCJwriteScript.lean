/-
  Whatever a writer of JSON is told, in whatever order, what it wrote behind each, or that it may not be, is what was said: the law JwriteScript answers true. Condition: the argument's bulk is at most 1048576.
-/
import Derived.Test.YtgbkjecepncjoaaRows
import Derived.Test.YtgbkjecepncjoaaJWl
import Derived.Test.YtgbkjecepncjoaaVgZA
import Derived.ProofKit
import Derived.OpenShut
import Derived.Deep.DeepHandedRow
set_option linter.unusedSimpArgs false
set_option linter.unusedVariables false
set_option maxHeartbeats 4000000
namespace Go.Proofs.Ytgbkjecepncjoaa.jwriteScript
open Go Go.VG Go.ChangeShapes Go.WideShapes Go.ChangeAt Go.RowKit
set_option maxRecDepth 100000
theorem part_le {H : Type} {d : DataW H} {l : List (DataW H)} (h : d ∈ l) : Rows.uptoBulk d ≤ Rows.uptoBulkAll l := by
  induction l with
  | nil => cases h
  | cons x r ih =>
    simp only [Rows.uptoBulkAll]
    cases List.mem_cons.1 h with
    | inl e => subst e; omega
    | inr e => have := ih e; omega
theorem data_op {H : Type} {f : Nat} {d : DataW H} {xs : List V} (h : cellsD tt f 31 d = some xs) : ∃ o : JOp, WkL xs [.int .u8 o.kind, .str o.text, .int .i64 o.n] ∧ o.text.length ≤ Rows.uptoBulk d := by
  obtain ⟨f', parts, xss, rfl, rfl, hlen, hm, rfl⟩ := cellsD_structD (fs := [(0, 5), (1, 9), (2, 3)]) rfl h
  match parts, hlen, hm with
  | [p0, p1, p2], _, hm0 =>
    obtain ⟨c0, r0, h0, hm1, rfl⟩ := mapM_two hm0
    obtain ⟨c1, r1, h1, hm2, rfl⟩ := mapM_two hm1
    obtain ⟨c2, r2, h2, hm3, rfl⟩ := mapM_two hm2
    simp at hm3; subst hm3
    obtain ⟨k, rfl⟩ := cellsD_intK (k := .u8) rfl h0
    obtain ⟨s, rfl, e1⟩ := cellsD_strD rfl h1
    obtain ⟨n, rfl⟩ := cellsD_intK (k := .i64) rfl h2
    have e1 : p1 = .lit (.string s) := e1
    subst e1
    refine ⟨⟨k, s, n⟩, WkL.refl _, ?_⟩
    simp only [Rows.uptoBulk, Rows.uptoBulkAll]; omega
theorem fun_ok {H : Type} {ds : List (DataW H)} {xs : List V} (h : AreD tt Try.f3.params.toList ds xs) (hk : Rows.uptoBulkAll ds ≤ 1048576) : FunOK Try.prog gl0 3 xs [] (.bool true) none := by
  rw [Try.params3] at h
  obtain ⟨d, x, rfl, rfl, hd⟩ := AreD_one h
  obtain ⟨f, hd⟩ := hd
  simp only [Option.bind_eq_some_iff] at hd
  obtain ⟨cs, h1, h2⟩ := hd
  rcases cellsD_sliceD (e := 31) rfl h1 with rfl | ⟨f', es, sp, l, rfl, rfl, hm, rfl⟩
  · have h2 : some (V.list true 3 []) = some x := h2
    cases h2
    refine (f_jwScript [] fun i hi => absurd hi (by simp)).args (WkL.cons (Wk.nil (.inl rfl)) WkL.nil)
  · have h2 : some (V.list false 3 l) = some x := h2
    cases h2
    obtain ⟨bs, hb, _, hq⟩ := list_ofQ (sz := 3) (enc := eo) (Q := fun d o => o.text.length ≤ Rows.uptoBulk d) hm fun d hd x hx => by
      simp only [Option.bind_eq_some_iff] at hx
      obtain ⟨cs, h1, h2⟩ := hx
      obtain ⟨o, ho, hl⟩ := data_op h1
      have h2 : some (V.agg cs) = some x := h2
      cases h2
      exact ⟨o, Wk.agg ho, hl⟩
    refine (f_jwScript bs fun i hi => ?_).args (WkL.cons hb WkL.nil)
    have hmem : bs.getD i default ∈ bs := by rw [List.getD_eq_getElem?_getD, List.getElem?_eq_getElem hi]; exact List.getElem_mem hi
    obtain ⟨d, hd, hl⟩ := hq _ hmem
    have := part_le hd
    simp only [Rows.uptoBulk, Rows.uptoBulkAll] at hk
    omega
theorem own : ownKnob Try.prog.godebug = none := by kernel_rfl
theorem laidOut : laidOutB Try.prog = true := by kernel_rfl
theorem glOf : GlOf Try.prog tt dataTy Rows.jwriteScriptUptoRow.laid gl0 := by
  intro b cs h
  cases h
theorem bulk_of {H : Type} {ds gs : List (DataW H)} (h : Rows.uptoSmall H (ds ++ gs) = true) : Rows.uptoBulkAll ds ≤ 1048576 := by
  have h := of_decide_eq_true h
  have e : ∀ l : List (DataW H), Rows.uptoBulkAll (l ++ gs) = Rows.uptoBulkAll l + Rows.uptoBulkAll gs := fun l => by
    induction l with
    | nil => simp [Rows.uptoBulkAll]
    | cons x l ih => simp only [List.cons_append, Rows.uptoBulkAll, ih]; omega
  rw [e] at h
  omega
theorem contract (H : Type) (enc : TypeId × Value → H) (W : World) (base : Nat) (args : Array Value) (ds gs : List (DataW H)) (before : List MemPlace)
    (hval : ∀ (j : Nat) t v, Try.f3.params[j]? = some t → args[j]? = some v → Value.okWide Try.prog W .any base t v)
    (hW : DataW.Whole enc Try.prog Try.f3.params.toList Rows.jwriteScriptSpec.vars false W args.toList ds gs before) (hL : laidMetH Try.prog Rows.jwriteScriptUptoRow.laid W) (hk : Rows.uptoSmall H (ds ++ gs) = true) :
    Calls Try.prog 3 args W fun e W' => ∃ v, e = .returned v ∧ Rows.jwriteScriptSpec.post enc Try.prog Try.f3 false true false false W args v W' :=
  law_contract (bt := 4) dataOK laidOut (fun t ht => by
    rw [Try.params3] at ht
    simp at ht
    subst ht
    exact ⟨rfl, by kernel_rfl, by decide⟩) rfl rfl Try.underlying4 glOf hval hW hL (fun h => by
    match ds, h with
    | [d0], _ => rfl) fun xs h => fun_ok h (bulk_of hk)
noncomputable def laidWorld (os : Os) : World := World.holding Try.prog os ⟨#[], #[], []⟩
def args0 : Array Value := #[.slice none 0 0]
theorem laid_met (os : Os) : laidMet Try.prog Rows.jwriteScriptUptoRow.laid ((laidWorld os).forCall (fun _ _ => 0) ⟨#[], args0, []⟩).memory :=
  laidMet_of_run' 8 (by kernel_rfl) (by kernel_rfl)
theorem reads (os : Os) {H : Type} (enc : TypeId × Value → H) : ∃ places, DataW.whole enc Try.prog ((laidWorld os).forCall (fun _ _ => 0) ⟨#[], args0, []⟩).memory Try.f3.params.toList Rows.jwriteScriptSpec.vars false args0.toList 8 = some ([.nil], [], places) :=
  ⟨[], by kernel_rfl⟩
theorem lifted (os : Os) (started : os.Started) (H : Type) (enc : TypeId × Value → H) (F : Stop.Interp) :
    ReturnsInHanded {} Try.checked os 3 .any ((Rows.OpenSpec.upto Rows.jwriteScriptSpec).preRow enc Try.prog Try.f3 Rows.jwriteScriptUptoRow.domain false Rows.jwriteScriptUptoRow.laid) (((Rows.OpenSpec.upto Rows.jwriteScriptSpec).at F).post enc Try.prog Try.f3 false true false false) := by
  obtain ⟨places, hx⟩ := reads os enc
  refine returnsInHanded_of_row (C := Try.checked) (s := Rows.OpenSpec.upto Rows.jwriteScriptSpec) own started (by kernel_rfl) Try.func3
    (witness_row_at (enc := enc) (C := Try.checked) false (laidWorld os) args0 rfl (by kernel_rfl) (by kernel_rfl) (by kernel_rfl)
      (OpenSpec.preRow_of_cond 8 hx (by kernel_rfl) (fun k hk => by cases hk; kernel_rfl) (by kernel_rfl) (laid_met os))) ?_
  intro W base args ds gs before hval hW _ hcond _ hL _ _
  exact contract H enc W base args ds gs before hval hW hL (hcond _ rfl)
theorem said : Rows.JwriteScriptUptoSaid :=
  OpenClaim.holds_of_cond 3 Try.f3 rfl rfl rfl rfl rfl rfl rfl ⟨rfl, rfl, rfl, rfl, rfl⟩ rfl rfl rfl rfl rfl (by kernel_rfl) Try.func3 (by kernel_rfl)
    (of_decide_eq_true (by kernel_rfl)) (by unfold Func.isWrapper; first | (rw [if_pos (by decide +kernel)]; kernel_rfl) | (rw [if_neg (by decide +kernel)]; exact ⟨rfl, rfl⟩))
    (fun os started H enc _ F => by rw [OpenClaim.pre_eq_preRow]; exact lifted os started H enc F)
end Go.Proofs.Ytgbkjecepncjoaa.jwriteScript
