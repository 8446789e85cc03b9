/-
  Of any fields the last one that has one of any tags, and how many have none of these, is told as was said: the law PmsgLast answers true. No condition.
-/
import Derived.Test.YtbeejnmeakcpjaaDoorCards
import Derived.Test.YtbeejnmeakcpjaaDoorTie
import Derived.Test.YtbeejnmeakcpjaaDoorPQd
import Derived.Test.YtbeejnmeakcpjaaDoorVgZ
import Derived.ProofKit
import Derived.OpenShut
import Derived.Deep.DeepHandedRow
set_option linter.unusedSimpArgs false
set_option linter.unusedVariables false
set_option maxHeartbeats 4000000
namespace Go.Proofs.YtbeejnmeakcpjaaDoor.pmsgLast
open Go Go.VG Go.ChangeShapes Go.WideShapes Go.ChangeAt Go.RowKit
set_option maxRecDepth 100000
theorem data_f {H : Type} {n : Nat} {d : DataW H} {xs : List V} (h1 : cellsD tt n 43 d = some xs) : ∃ f : Pf, WkL xs (ePc f) := by
  obtain ⟨f', parts, xss, rfl, rfl, hlen, hm, rfl⟩ := cellsD_structD (fs := [(0, 3), (1, 3), (2, 30), (3, 9)]) rfl h1
  match parts, hlen, hm with
  | [p0, p1, p2, p3], _, hm0 =>
    obtain ⟨c0, r0, g0, hm1, rfl⟩ := mapM_two hm0
    obtain ⟨c1, r1, g1, hm2, rfl⟩ := mapM_two hm1
    obtain ⟨c2, r2, g2, hm3, rfl⟩ := mapM_two hm2
    obtain ⟨c3, r3, g3, hm4, rfl⟩ := mapM_two hm3
    simp at hm4; subst hm4
    obtain ⟨n, rfl⟩ := cellsD_intK (k := .i64) rfl g0
    obtain ⟨w, rfl⟩ := cellsD_intK (k := .i64) rfl g1
    obtain ⟨u, rfl⟩ := cellsD_intK (k := .u64) rfl g2
    obtain ⟨s, rfl, rfl⟩ := cellsD_strD rfl g3
    exact ⟨⟨n, w, u, s⟩, WkL.refl _⟩
theorem data_t {H : Type} {n : Nat} {d : DataW H} {xs : List V} (h1 : cellsD tt n 70 d = some xs) : ∃ f : Tg, WkL xs [.int .i64 f.1, .int .i64 f.2] := by
  obtain ⟨f', parts, xss, rfl, rfl, hlen, hm, rfl⟩ := cellsD_structD (fs := [(0, 3), (1, 3)]) rfl h1
  match parts, hlen, hm with
  | [p0, p1], _, hm0 =>
    obtain ⟨c0, r0, g0, hm1, rfl⟩ := mapM_two hm0
    obtain ⟨c1, r1, g1, hm2, rfl⟩ := mapM_two hm1
    simp at hm2; subst hm2
    obtain ⟨n, rfl⟩ := cellsD_intK (k := .i64) rfl g0
    obtain ⟨w, rfl⟩ := cellsD_intK (k := .i64) rfl g1
    exact ⟨⟨n, w⟩, WkL.refl _⟩
theorem slice_f {H : Type} {d : DataW H} {x : V} (h : IsD tt 27 d x) : ∃ l : List Pf, Wk x (.list false 4 (l.map ePf)) := by
  obtain ⟨f, hd⟩ := h
  simp only [Option.bind_eq_some_iff] at hd
  obtain ⟨cs, h1, h2⟩ := hd
  rcases cellsD_sliceD (e := 43) rfl h1 with rfl | ⟨f', es, sp, l, rfl, rfl, hm, rfl⟩
  · have h2 : some (V.list true 4 []) = some x := h2
    cases h2
    exact ⟨[], Wk.nil (.inl rfl)⟩
  · have h2 : some (V.list false 4 l) = some x := h2
    cases h2
    obtain ⟨bs, hb, _, _⟩ := list_ofQ (sz := 4) (enc := ePf) (Q := fun _ _ => True) hm fun d hd x hx => by
      simp only [Option.bind_eq_some_iff] at hx
      obtain ⟨cs, h1, h2⟩ := hx
      obtain ⟨o, ho⟩ := data_f h1
      have h2 : some (V.agg cs) = some x := h2
      cases h2
      exact ⟨o, Wk.agg ho, trivial⟩
    exact ⟨bs, hb⟩
theorem slice_t {H : Type} {d : DataW H} {x : V} (h : IsD tt 67 d x) : ∃ l : List Tg, Wk x (.list false 2 (l.map eTg)) := by
  obtain ⟨f, hd⟩ := h
  simp only [Option.bind_eq_some_iff] at hd
  obtain ⟨cs, h1, h2⟩ := hd
  rcases cellsD_sliceD (e := 70) rfl h1 with rfl | ⟨f', es, sp, l, rfl, rfl, hm, rfl⟩
  · have h2 : some (V.list true 2 []) = some x := h2
    cases h2
    exact ⟨[], Wk.nil (.inl rfl)⟩
  · have h2 : some (V.list false 2 l) = some x := h2
    cases h2
    obtain ⟨bs, hb, _, _⟩ := list_ofQ (sz := 2) (enc := eTg) (Q := fun _ _ => True) hm fun d hd x hx => by
      simp only [Option.bind_eq_some_iff] at hx
      obtain ⟨cs, h1, h2⟩ := hx
      obtain ⟨o, ho⟩ := data_t h1
      have h2 : some (V.agg cs) = some x := h2
      cases h2
      exact ⟨o, Wk.agg ho, trivial⟩
    exact ⟨bs, hb⟩
theorem fun_ok {H : Type} {ds : List (DataW H)} {xs : List V} (h : AreD tt Tryd.f7.params.toList ds xs) : FunOK Tryd.prog gl0 7 xs [] (.bool true) none := by
  rw [Tryd.params7] at h
  obtain ⟨d0, x0, ds0, xs0, rfl, rfl, hd0, h0⟩ := AreD_cons h
  obtain ⟨d1, x1, ds1, xs1, rfl, rfl, hd1, h1⟩ := AreD_cons h0
  obtain ⟨rfl, rfl⟩ := AreD_nil h1
  obtain ⟨l, hl⟩ := slice_f hd0
  obtain ⟨T, hT⟩ := slice_t hd1
  exact (f_lLast18 l T).args (WkL.cons hl (WkL.cons hT WkL.nil))
theorem own : ownKnob Tryd.prog.godebug = none := by kernel_rfl
theorem laidOut : laidOutB Tryd.prog = true := by kernel_rfl
theorem glOf : GlOf Tryd.prog tt dataTy Rows.pmsgLastRow.laid gl0 := by
  intro b cs h
  unfold gl0 at h
  split at h
  · cases h
    exact ⟨_, _, 71, 3, List.Mem.head _, rfl, by kernel_rfl, by kernel_rfl, rfl, rfl⟩
  · cases h
    exact ⟨_, _, 130, 3, List.Mem.tail _ (List.Mem.head _), rfl, by kernel_rfl, by kernel_rfl, rfl, rfl⟩
  · cases h
theorem contract (H : Type) (enc : TypeId × Value → H) (W : World) (base : Nat) (args : Array Value) (ds gs : List (DataW H)) (before : List MemPlace)
    (hval : ∀ (j : Nat) t v, Tryd.f7.params[j]? = some t → args[j]? = some v → Value.okWide Tryd.prog W .any base t v)
    (hW : DataW.Whole enc Tryd.prog Tryd.f7.params.toList Rows.pmsgLastSpec.vars false W args.toList ds gs before) (hL : laidMetH Tryd.prog Rows.pmsgLastRow.laid W) :
    Calls Tryd.prog 7 args W fun e W' => ∃ v, e = .returned v ∧ Rows.pmsgLastSpec.post enc Tryd.prog Tryd.f7 false true false false W args v W' :=
  law_contract (bt := 4) dataOK laidOut (fun t ht => by
    rw [Tryd.params7] at ht
    simp at ht
    rcases ht with rfl | rfl
    all_goals exact ⟨rfl, by kernel_rfl, by decide⟩) rfl rfl Tryd.underlying4 glOf hval hW hL (fun h => by
    match ds, h with
    | [d0, d1], _ => rfl) fun xs h => fun_ok h
noncomputable def laidWorld (os : Os) : World :=
  { World.holding Tryd.prog os ⟨#[], #[], []⟩ with heap := (((World.holding Tryd.prog os ⟨#[], #[], []⟩).heap.modify 1 fun
      | .cells _ t frozen => .cells #[.int .i64 (0), .int .i64 (0)] t frozen
      | o => o).modify 0 fun
      | .cells _ t frozen => .cells #[.int .u8 (56), .int .u8 (48), .int .u8 (40), .int .u8 (32), .int .u8 (24), .int .u8 (16), .int .u8 (8), .int .u8 (0)] t frozen
      | o => o) }
def args0 : Array Value := #[.slice none 0 0, .slice none 0 0]
theorem laid_met (os : Os) : laidMet Tryd.prog Rows.pmsgLastRow.laid ((laidWorld os).forCall (fun _ _ => 0) ⟨#[], args0, []⟩).memory :=
  laidMet_of_run' 8 (by kernel_rfl) (by kernel_rfl)
theorem reads (os : Os) {H : Type} (enc : TypeId × Value → H) : ∃ places, DataW.whole enc Tryd.prog ((laidWorld os).forCall (fun _ _ => 0) ⟨#[], args0, []⟩).memory Tryd.f7.params.toList Rows.pmsgLastSpec.vars false args0.toList 8 = some ([.nil, .nil], [], places) :=
  ⟨[], by kernel_rfl⟩
theorem lifted (os : Os) (started : os.Started) (H : Type) (enc : TypeId × Value → H) (F : Stop.Interp) :
    ReturnsInHanded {} Tryd.checked os 7 .any ((OpenSpec.ofChange Rows.pmsgLastSpec).preRow enc Tryd.prog Tryd.f7 Rows.pmsgLastRow.domain false Rows.pmsgLastRow.laid) (((OpenSpec.ofChange Rows.pmsgLastSpec).at F).post enc Tryd.prog Tryd.f7 false true false false) := by
  obtain ⟨places, hx⟩ := reads os enc
  refine returnsInHanded_of_row (C := Tryd.checked) (s := OpenSpec.ofChange Rows.pmsgLastSpec) own started (by kernel_rfl) Tryd.func7
    (witness_row_at (enc := enc) (C := Tryd.checked) false (laidWorld os) args0 rfl (by kernel_rfl) (by kernel_rfl) (by kernel_rfl)
      (OpenSpec.preRow_of_cond 8 hx (by kernel_rfl) (fun k hk => by cases hk) (by kernel_rfl) (laid_met os))) ?_
  intro W base args ds gs before hval hW _ _ _ hL _ _
  exact contract H enc W base args ds gs before hval hW hL
theorem said : Rows.PmsgLastSaid :=
  OpenClaim.holds_of_cond 7 Tryd.f7 rfl rfl rfl rfl rfl rfl rfl ⟨rfl, rfl, rfl, rfl, rfl⟩ rfl rfl rfl rfl rfl (by kernel_rfl) Tryd.func7 (by kernel_rfl)
    (of_decide_eq_true (by kernel_rfl)) (by unfold Func.isWrapper; first | (rw [if_pos (by decide +kernel)]; kernel_rfl) | (rw [if_neg (by decide +kernel)]; exact ⟨rfl, rfl⟩))
    (fun os started H enc _ F => by rw [OpenClaim.pre_eq_preRow]; exact lifted os started H enc F)
theorem plain (f : FuncId) (fn : Func) (hf : Tryd.pinned.checked.prog.funcNamed Rows.pmsgLastRow.func = some f) (hfn : Tryd.pinned.checked.prog.funcs[f]? = some fn) :
    false = Tryd.pinned.checked.prog.looks [] ∧ ∀ (j : Nat) t, fn.params[j]? = some t → Tryd.pinned.checked.prog.wantsStandIn t = false := by
  obtain rfl : f = 7 := Option.some.inj ((show Tryd.prog.funcNamed Rows.pmsgLastRow.func = some 7 by kernel_rfl).symm.trans hf) |>.symm
  obtain rfl : fn = Tryd.f7 := (Option.some.inj (Tryd.func7.symm.trans hfn)).symm
  refine ⟨by kernel_rfl, fun j t ht => ?_⟩
  rw [Tryd.params7] at ht
  have ht := Array.mem_of_getElem? ht
  simp at ht
  rcases ht with rfl | rfl
  · exact (show Tryd.prog.wantsStandIn 27 = false by kernel_rfl)
  · exact (show Tryd.prog.wantsStandIn 67 = false by kernel_rfl)
theorem card : Rows.PmsgLastCardSaid :=
  Claim7.holds_tied_plain_at .later [] _ _ _ _ said (fun _ h => by cases h) (by kernel_rfl) (fun _ h => by cases h) pmsgLast_row_tie rfl ⟨rfl, rfl⟩ (by kernel_rfl) rfl plain (by kernel_rfl)
end Go.Proofs.YtbeejnmeakcpjaaDoor.pmsgLast
