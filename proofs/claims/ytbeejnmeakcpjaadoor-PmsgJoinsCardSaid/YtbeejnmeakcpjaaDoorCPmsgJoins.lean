/-
  A message that comes in any parts within another one is read of these joined as of all its fields, one behind the other: the law PmsgJoins answers true. No condition.
-/
import Derived.Test.YtbeejnmeakcpjaaDoorCards
import Derived.Test.YtbeejnmeakcpjaaDoorTie
import Derived.Test.YtbeejnmeakcpjaaDoorPQh
import Derived.Test.YtbeejnmeakcpjaaDoorVgZ
import Derived.ProofKit
import Derived.OpenShut
import Derived.Deep.DeepHandedRow
set_option linter.unusedSimpArgs false
set_option linter.unusedVariables false
set_option maxHeartbeats 4000000
namespace Go.Proofs.YtbeejnmeakcpjaaDoor.pmsgJoins
open Go Go.VG Go.ChangeShapes Go.WideShapes Go.ChangeAt Go.RowKit
set_option maxRecDepth 100000
theorem data_f {H : Type} {n : Nat} {d : DataW H} {xs : List V} (h1 : cellsD tt n 43 d = some xs) : ∃ f : Pf, WkL xs (ePc f) := by
  obtain ⟨f', parts, xss, rfl, rfl, hlen, hm, rfl⟩ := cellsD_structD (fs := [(0, 3), (1, 3), (2, 30), (3, 9)]) rfl h1
  match parts, hlen, hm with
  | [p0, p1, p2, p3], _, hm0 =>
    obtain ⟨c0, r0, g0, hm1, rfl⟩ := mapM_two hm0
    obtain ⟨c1, r1, g1, hm2, rfl⟩ := mapM_two hm1
    obtain ⟨c2, r2, g2, hm3, rfl⟩ := mapM_two hm2
    obtain ⟨c3, r3, g3, hm4, rfl⟩ := mapM_two hm3
    simp at hm4; subst hm4
    obtain ⟨n, rfl⟩ := cellsD_intK (k := .i64) rfl g0
    obtain ⟨w, rfl⟩ := cellsD_intK (k := .i64) rfl g1
    obtain ⟨u, rfl⟩ := cellsD_intK (k := .u64) rfl g2
    obtain ⟨s, rfl, rfl⟩ := cellsD_strD rfl g3
    exact ⟨⟨n, w, u, s⟩, WkL.refl _⟩
theorem slice_f {H : Type} {f : Nat} {d : DataW H} {cs : List V} {x : V} (h1 : cellsD tt f 27 d = some cs) (h2 : asV false cs = some x) : ∃ l : List Pf, Wk x (ePart l) := by
  rcases cellsD_sliceD (e := 43) rfl h1 with rfl | ⟨f', es, sp, l, rfl, rfl, hm, rfl⟩
  · have h2 : some (V.list true 4 []) = some x := h2
    cases h2
    exact ⟨[], Wk.nil (.inl rfl)⟩
  · have h2 : some (V.list false 4 l) = some x := h2
    cases h2
    obtain ⟨bs, hb, _, _⟩ := list_ofQ (sz := 4) (enc := ePf) (Q := fun _ _ => True) hm fun d hd x hx => by
      simp only [Option.bind_eq_some_iff] at hx
      obtain ⟨cs, h1, h2⟩ := hx
      obtain ⟨o, ho⟩ := data_f h1
      have h2 : some (V.agg cs) = some x := h2
      cases h2
      exact ⟨o, Wk.agg ho, trivial⟩
    exact ⟨bs, hb⟩
theorem slice_p {H : Type} {d : DataW H} {x : V} (h : IsD tt 79 d x) : ∃ P : List (List Pf), Wk x (.list false 1 (P.map ePart)) := by
  obtain ⟨f, hd⟩ := h
  simp only [Option.bind_eq_some_iff] at hd
  obtain ⟨cs, h1, h2⟩ := hd
  rcases cellsD_sliceD (e := 27) rfl h1 with rfl | ⟨f', es, sp, l, rfl, rfl, hm, rfl⟩
  · have h2 : some (V.list true 1 []) = some x := h2
    cases h2
    exact ⟨[], Wk.nil (.inl rfl)⟩
  · have h2 : some (V.list false 1 l) = some x := h2
    cases h2
    obtain ⟨bs, hb, _, _⟩ := list_ofQ (sz := 1) (enc := ePart) (Q := fun _ _ => True) hm fun d hd x hx => by
      simp only [Option.bind_eq_some_iff] at hx
      obtain ⟨cs, h1, h2⟩ := hx
      obtain ⟨l, hl⟩ := slice_f h1 h2
      exact ⟨l, hl, trivial⟩
    exact ⟨bs, hb⟩
theorem isD_u8 {H : Type} {t : TypeId} {d : DataW H} {x : V} (hk : (tt t).k = .int .u8) (h : IsD tt t d x) : ∃ n, x = .int .u8 n := by
  obtain ⟨f, hd⟩ := h
  simp only [Option.bind_eq_some_iff] at hd
  obtain ⟨cs, h1, h2⟩ := hd
  obtain ⟨n, rfl⟩ := cellsD_intK hk h1
  rw [hk] at h2
  exact ⟨n, (Option.some.inj h2).symm⟩
theorem fun_ok {H : Type} {ds : List (DataW H)} {xs : List V} (h : AreD tt Tryd.f8.params.toList ds xs) : FunOK Tryd.prog gl0 8 xs [] (.bool true) none := by
  rw [Tryd.params8] at h
  obtain ⟨d0, x0, ds0, xs0, rfl, rfl, hd0, h0⟩ := AreD_cons h
  obtain ⟨d1, x1, ds1, xs1, rfl, rfl, hd1, h1⟩ := AreD_cons h0
  obtain ⟨rfl, rfl⟩ := AreD_nil h1
  obtain ⟨P, hP⟩ := slice_p hd0
  obtain ⟨n, rfl⟩ := isD_u8 rfl hd1
  exact (f_lJoins18 P n).args (WkL.cons hP (WkL.cons (Wk.refl _) WkL.nil))
theorem own : ownKnob Tryd.prog.godebug = none := by kernel_rfl
theorem laidOut : laidOutB Tryd.prog = true := by kernel_rfl
theorem glOf : GlOf Tryd.prog tt dataTy Rows.pmsgJoinsRow.laid gl0 := by
  intro b cs h
  unfold gl0 at h
  split at h
  · cases h
    exact ⟨_, _, 71, 3, List.Mem.head _, rfl, by kernel_rfl, by kernel_rfl, rfl, rfl⟩
  · cases h
    exact ⟨_, _, 130, 3, List.Mem.tail _ (List.Mem.head _), rfl, by kernel_rfl, by kernel_rfl, rfl, rfl⟩
  · cases h
theorem contract (H : Type) (enc : TypeId × Value → H) (W : World) (base : Nat) (args : Array Value) (ds gs : List (DataW H)) (before : List MemPlace)
    (hval : ∀ (j : Nat) t v, Tryd.f8.params[j]? = some t → args[j]? = some v → Value.okWide Tryd.prog W .any base t v)
    (hW : DataW.Whole enc Tryd.prog Tryd.f8.params.toList Rows.pmsgJoinsSpec.vars false W args.toList ds gs before) (hL : laidMetH Tryd.prog Rows.pmsgJoinsRow.laid W) :
    Calls Tryd.prog 8 args W fun e W' => ∃ v, e = .returned v ∧ Rows.pmsgJoinsSpec.post enc Tryd.prog Tryd.f8 false true false false W args v W' :=
  law_contract (bt := 4) dataOK laidOut (fun t ht => by
    rw [Tryd.params8] at ht
    simp at ht
    rcases ht with rfl | rfl
    all_goals exact ⟨rfl, by kernel_rfl, by decide⟩) rfl rfl Tryd.underlying4 glOf hval hW hL (fun h => by
    match ds, h with
    | [d0, d1], _ => rfl) fun xs h => fun_ok h
noncomputable def laidWorld (os : Os) : World :=
  { World.holding Tryd.prog os ⟨#[], #[], []⟩ with heap := (((World.holding Tryd.prog os ⟨#[], #[], []⟩).heap.modify 1 fun
      | .cells _ t frozen => .cells #[.int .i64 (0), .int .i64 (0)] t frozen
      | o => o).modify 0 fun
      | .cells _ t frozen => .cells #[.int .u8 (56), .int .u8 (48), .int .u8 (40), .int .u8 (32), .int .u8 (24), .int .u8 (16), .int .u8 (8), .int .u8 (0)] t frozen
      | o => o) }
def args0 : Array Value := #[.slice none 0 0, .int .u8 0]
theorem laid_met (os : Os) : laidMet Tryd.prog Rows.pmsgJoinsRow.laid ((laidWorld os).forCall (fun _ _ => 0) ⟨#[], args0, []⟩).memory :=
  laidMet_of_run' 8 (by kernel_rfl) (by kernel_rfl)
theorem reads (os : Os) {H : Type} (enc : TypeId × Value → H) : ∃ places, DataW.whole enc Tryd.prog ((laidWorld os).forCall (fun _ _ => 0) ⟨#[], args0, []⟩).memory Tryd.f8.params.toList Rows.pmsgJoinsSpec.vars false args0.toList 8 = some ([.nil, .lit (.int .u8 0)], [], places) :=
  ⟨[], by kernel_rfl⟩
theorem lifted (os : Os) (started : os.Started) (H : Type) (enc : TypeId × Value → H) (F : Stop.Interp) :
    ReturnsInHanded {} Tryd.checked os 8 .any ((OpenSpec.ofChange Rows.pmsgJoinsSpec).preRow enc Tryd.prog Tryd.f8 Rows.pmsgJoinsRow.domain false Rows.pmsgJoinsRow.laid) (((OpenSpec.ofChange Rows.pmsgJoinsSpec).at F).post enc Tryd.prog Tryd.f8 false true false false) := by
  obtain ⟨places, hx⟩ := reads os enc
  refine returnsInHanded_of_row (C := Tryd.checked) (s := OpenSpec.ofChange Rows.pmsgJoinsSpec) own started (by kernel_rfl) Tryd.func8
    (witness_row_at (enc := enc) (C := Tryd.checked) false (laidWorld os) args0 rfl (by kernel_rfl) (by kernel_rfl) (by kernel_rfl)
      (OpenSpec.preRow_of_cond 8 hx (by kernel_rfl) (fun k hk => by cases hk) (by kernel_rfl) (laid_met os))) ?_
  intro W base args ds gs before hval hW _ _ _ hL _ _
  exact contract H enc W base args ds gs before hval hW hL
theorem said : Rows.PmsgJoinsSaid :=
  OpenClaim.holds_of_cond 8 Tryd.f8 rfl rfl rfl rfl rfl rfl rfl ⟨rfl, rfl, rfl, rfl, rfl⟩ rfl rfl rfl rfl rfl (by kernel_rfl) Tryd.func8 (by kernel_rfl)
    (of_decide_eq_true (by kernel_rfl)) (by unfold Func.isWrapper; first | (rw [if_pos (by decide +kernel)]; kernel_rfl) | (rw [if_neg (by decide +kernel)]; exact ⟨rfl, rfl⟩))
    (fun os started H enc _ F => by rw [OpenClaim.pre_eq_preRow]; exact lifted os started H enc F)
theorem plain (f : FuncId) (fn : Func) (hf : Tryd.pinned.checked.prog.funcNamed Rows.pmsgJoinsRow.func = some f) (hfn : Tryd.pinned.checked.prog.funcs[f]? = some fn) :
    false = Tryd.pinned.checked.prog.looks [] ∧ ∀ (j : Nat) t, fn.params[j]? = some t → Tryd.pinned.checked.prog.wantsStandIn t = false := by
  obtain rfl : f = 8 := Option.some.inj ((show Tryd.prog.funcNamed Rows.pmsgJoinsRow.func = some 8 by kernel_rfl).symm.trans hf) |>.symm
  obtain rfl : fn = Tryd.f8 := (Option.some.inj (Tryd.func8.symm.trans hfn)).symm
  refine ⟨by kernel_rfl, fun j t ht => ?_⟩
  rw [Tryd.params8] at ht
  have ht := Array.mem_of_getElem? ht
  simp at ht
  rcases ht with rfl | rfl
  · exact (show Tryd.prog.wantsStandIn 79 = false by kernel_rfl)
  · exact (show Tryd.prog.wantsStandIn 5 = false by kernel_rfl)
theorem card : Rows.PmsgJoinsCardSaid :=
  Claim7.holds_tied_plain_at .later [] _ _ _ _ said (fun _ h => by cases h) (by kernel_rfl) (fun _ h => by cases h) pmsgJoins_row_tie rfl ⟨rfl, rfl⟩ (by kernel_rfl) rfl plain (by kernel_rfl)
end Go.Proofs.YtbeejnmeakcpjaaDoor.pmsgJoins
