/-
  Whatever is added to a message, in whatever order, what was written is read as fields, and laid again as the same bytes: the law PwriteReads answers true for every input. No condition.
-/
import Derived.Test.YtgiocgghmlmgfaaDoorCards
import Derived.Test.YtgiocgghmlmgfaaDoorTie
import Derived.Test.YtgiocgghmlmgfaaDoorMWk
import Derived.Test.YtgiocgghmlmgfaaDoorVgZ
import Derived.ProofKit
import Derived.OpenShut
import Derived.Deep.DeepHandedRow
set_option linter.unusedSimpArgs false
set_option linter.unusedVariables false
set_option maxHeartbeats 4000000
namespace Go.Proofs.YtgiocgghmlmgfaaDoor.pwriteReads
open Go Go.VG Go.ChangeShapes Go.WideShapes Go.ChangeAt Go.RowKit
set_option maxRecDepth 100000
theorem data_op {H : Type} {f : Nat} {d : DataW H} {xs : List V} (h : cellsD tt f 28 d = some xs) : ∃ o : MOp, WkL xs [.int .u8 o.kind, .int .i64 o.no, .int .i64 o.wi, .int .u64 o.num, .str o.text] := by
  obtain ⟨f', parts, xss, rfl, rfl, hlen, hm, rfl⟩ := cellsD_structD (fs := [(0, 5), (1, 3), (2, 3), (3, 26), (4, 9)]) rfl h
  match parts, hlen, hm with
  | [p0, p1, p2, p3, p4], _, hm0 =>
    obtain ⟨c0, r0, h0, hm1, rfl⟩ := mapM_two hm0
    obtain ⟨c1, r1, h1, hm2, rfl⟩ := mapM_two hm1
    obtain ⟨c2, r2, h2, hm3, rfl⟩ := mapM_two hm2
    obtain ⟨c3, r3, h3, hm4, rfl⟩ := mapM_two hm3
    obtain ⟨c4, r4, h4, hm5, rfl⟩ := mapM_two hm4
    simp at hm5; subst hm5
    obtain ⟨k, rfl⟩ := cellsD_intK (k := .u8) rfl h0
    obtain ⟨i, rfl⟩ := cellsD_intK (k := .i64) rfl h1
    obtain ⟨n, rfl⟩ := cellsD_intK (k := .i64) rfl h2
    obtain ⟨b, rfl⟩ := cellsD_intK (k := .u64) rfl h3
    obtain ⟨s, rfl, e1⟩ := cellsD_strD rfl h4
    exact ⟨⟨k, i, n, b, s⟩, WkL.refl _⟩
theorem fun_ok {H : Type} {ds : List (DataW H)} {xs : List V} (h : AreD tt Tryd.f3.params.toList ds xs) : FunOK Tryd.prog gl0 3 xs [] (.bool true) none := by
  rw [Tryd.params3] at h
  obtain ⟨d, x, rfl, rfl, hd⟩ := AreD_one h
  obtain ⟨f, hd⟩ := hd
  simp only [Option.bind_eq_some_iff] at hd
  obtain ⟨cs, h1, h2⟩ := hd
  rcases cellsD_sliceD (e := 28) rfl h1 with rfl | ⟨f', es, sp, l, rfl, rfl, hm, rfl⟩
  · have h2 : some (V.list true 5 []) = some x := h2
    cases h2
    exact (f_lReads19 []).args (WkL.cons (Wk.nil (.inl rfl)) WkL.nil)
  · have h2 : some (V.list false 5 l) = some x := h2
    cases h2
    obtain ⟨bs, hb, _, _⟩ := list_ofQ (sz := 5) (enc := eMo) (Q := fun _ _ => True) hm fun d hd x hx => by
      simp only [Option.bind_eq_some_iff] at hx
      obtain ⟨cs, h1, h2⟩ := hx
      obtain ⟨o, ho⟩ := data_op h1
      have h2 : some (V.agg cs) = some x := h2
      cases h2
      exact ⟨o, Wk.agg ho, trivial⟩
    exact (f_lReads19 bs).args (WkL.cons hb WkL.nil)
theorem own : ownKnob Tryd.prog.godebug = none := by kernel_rfl
theorem laidOut : laidOutB Tryd.prog = true := by kernel_rfl
theorem glOf : GlOf Tryd.prog tt dataTy Rows.pwriteReadsRow.laid gl0 := by
  intro b cs h
  unfold gl0 at h
  split at h
  · cases h
    exact ⟨_, _, 56, 3, List.Mem.head _, rfl, by kernel_rfl, by kernel_rfl, rfl, rfl⟩
  · cases h
    exact ⟨_, _, 73, 3, List.Mem.tail _ (List.Mem.head _), rfl, by kernel_rfl, by kernel_rfl, rfl, rfl⟩
  · cases h
theorem contract (H : Type) (enc : TypeId × Value → H) (W : World) (base : Nat) (args : Array Value) (ds gs : List (DataW H)) (before : List MemPlace)
    (hval : ∀ (j : Nat) t v, Tryd.f3.params[j]? = some t → args[j]? = some v → Value.okWide Tryd.prog W .any base t v)
    (hW : DataW.Whole enc Tryd.prog Tryd.f3.params.toList Rows.pwriteReadsSpec.vars false W args.toList ds gs before) (hL : laidMetH Tryd.prog Rows.pwriteReadsRow.laid W) :
    Calls Tryd.prog 3 args W fun e W' => ∃ v, e = .returned v ∧ Rows.pwriteReadsSpec.post enc Tryd.prog Tryd.f3 false true false false W args v W' :=
  law_contract (bt := 4) dataOK laidOut (fun t ht => by
    rw [Tryd.params3] at ht
    simp at ht
    subst ht
    exact ⟨rfl, by kernel_rfl, by decide⟩) rfl rfl Tryd.underlying4 glOf hval hW hL (fun h => by
    match ds, h with
    | [d0], _ => rfl) fun xs h => fun_ok h
noncomputable def laidWorld (os : Os) : World :=
  { World.holding Tryd.prog os ⟨#[], #[], []⟩ with heap := (((World.holding Tryd.prog os ⟨#[], #[], []⟩).heap.modify 1 fun
      | .cells _ t frozen => .cells #[.int .i64 (0), .int .i64 (0)] t frozen
      | o => o).modify 0 fun
      | .cells _ t frozen => .cells #[.int .u8 (56), .int .u8 (48), .int .u8 (40), .int .u8 (32), .int .u8 (24), .int .u8 (16), .int .u8 (8), .int .u8 (0)] t frozen
      | o => o) }
def args0 : Array Value := #[.slice none 0 0]
theorem laid_met (os : Os) : laidMet Tryd.prog Rows.pwriteReadsRow.laid ((laidWorld os).forCall (fun _ _ => 0) ⟨#[], args0, []⟩).memory :=
  laidMet_of_run' 8 (by kernel_rfl) (by kernel_rfl)
theorem reads (os : Os) {H : Type} (enc : TypeId × Value → H) : ∃ places, DataW.whole enc Tryd.prog ((laidWorld os).forCall (fun _ _ => 0) ⟨#[], args0, []⟩).memory Tryd.f3.params.toList Rows.pwriteReadsSpec.vars false args0.toList 8 = some ([.nil], [], places) :=
  ⟨[], by kernel_rfl⟩
theorem lifted (os : Os) (started : os.Started) (H : Type) (enc : TypeId × Value → H) (F : Stop.Interp) :
    ReturnsInHanded {} Tryd.checked os 3 .any ((OpenSpec.ofChange Rows.pwriteReadsSpec).preRow enc Tryd.prog Tryd.f3 Rows.pwriteReadsRow.domain false Rows.pwriteReadsRow.laid) (((OpenSpec.ofChange Rows.pwriteReadsSpec).at F).post enc Tryd.prog Tryd.f3 false true false false) := by
  obtain ⟨places, hx⟩ := reads os enc
  refine returnsInHanded_of_row (C := Tryd.checked) (s := OpenSpec.ofChange Rows.pwriteReadsSpec) own started (by kernel_rfl) Tryd.func3
    (witness_row_at (enc := enc) (C := Tryd.checked) false (laidWorld os) args0 rfl (by kernel_rfl) (by kernel_rfl) (by kernel_rfl)
      (OpenSpec.preRow_of_cond 8 hx (by kernel_rfl) (fun k hk => by cases hk) (by kernel_rfl) (laid_met os))) ?_
  intro W base args ds gs before hval hW _ _ _ hL _ _
  exact contract H enc W base args ds gs before hval hW hL
theorem said : Rows.PwriteReadsSaid :=
  OpenClaim.holds_of_cond 3 Tryd.f3 rfl rfl rfl rfl rfl rfl rfl ⟨rfl, rfl, rfl, rfl, rfl⟩ rfl rfl rfl rfl rfl (by kernel_rfl) Tryd.func3 (by kernel_rfl)
    (of_decide_eq_true (by kernel_rfl)) (by unfold Func.isWrapper; first | (rw [if_pos (by decide +kernel)]; kernel_rfl) | (rw [if_neg (by decide +kernel)]; exact ⟨rfl, rfl⟩))
    (fun os started H enc _ F => by rw [OpenClaim.pre_eq_preRow]; exact lifted os started H enc F)
theorem plain (f : FuncId) (fn : Func) (hf : Tryd.pinned.checked.prog.funcNamed Rows.pwriteReadsRow.func = some f) (hfn : Tryd.pinned.checked.prog.funcs[f]? = some fn) :
    false = Tryd.pinned.checked.prog.looks [] ∧ ∀ (j : Nat) t, fn.params[j]? = some t → Tryd.pinned.checked.prog.wantsStandIn t = false := by
  obtain rfl : f = 3 := Option.some.inj ((show Tryd.prog.funcNamed Rows.pwriteReadsRow.func = some 3 by kernel_rfl).symm.trans hf) |>.symm
  obtain rfl : fn = Tryd.f3 := (Option.some.inj (Tryd.func3.symm.trans hfn)).symm
  refine ⟨by kernel_rfl, fun j t ht => ?_⟩
  rw [Tryd.params3] at ht
  have ht := Array.mem_of_getElem? ht
  simp at ht
  subst ht
  · exact (show Tryd.prog.wantsStandIn 22 = false by kernel_rfl)
theorem card : Rows.PwriteReadsCardSaid :=
  Claim7.holds_tied_plain_at .later [] _ _ _ _ said (fun _ h => by cases h) (by kernel_rfl) (fun _ h => by cases h) pwriteReads_row_tie rfl ⟨rfl, rfl⟩ (by kernel_rfl) rfl plain (by kernel_rfl)
end Go.Proofs.YtgiocgghmlmgfaaDoor.pwriteReads
