/-
  Attributes are written as the tags that were said, and read again: the law JtagBack answers true for every list of attributes. No condition.
-/
import Derived.Test.YtipejldppicijaaGreatDoorCards
import Derived.Test.YtipejldppicijaaGreatDoorTie
import Derived.Test.YtipejldppicijaaGreatDoorGV
import Derived.Test.YtipejldppicijaaGreatDoorPData
import Derived.Test.YtipejldppicijaaGreatDoorVgZ
import Derived.ProofKit
import Derived.OpenShut
import Derived.Deep.DeepHandedRow
set_option linter.unusedSimpArgs false
set_option linter.unusedVariables false
set_option maxHeartbeats 4000000
namespace Go.Proofs.YtipejldppicijaaGreatDoor.jtagBack
open Go Go.VG Go.ChangeShapes Go.WideShapes Go.ChangeAt Go.RowKit
set_option maxRecDepth 100000
theorem IJ {H : Type} {d : DataW H} {x : V} (h : IsD tt 25 d x) : ∃ l : List ak, Wk x (.list false 7 (bB l)) := by
 obtain ⟨f, h⟩ := h
 simp only [Option.bind_eq_some_iff] at h
 obtain ⟨cs, h1, h2⟩ := h
 rcases uD (e := 29) rfl h1 with rfl | ⟨f', ds, l, hf, hm, rfl⟩
 . have h2 : some (V.list true 7 []) = some x := h2
   cases h2
   exact ⟨[], Wk.nil (.inl rfl)⟩
 . have h2 : some (V.list false 7 l) = some x := h2
   cases h2
   obtain ⟨bs, hb, _⟩ := sf (sz := 7) hm (enc := ea) fun d x hx => by
    simp only [Option.bind_eq_some_iff] at hx
    obtain ⟨cs, h1, h2⟩ := hx
    obtain ⟨v, hv⟩ := (rD f').2 d cs h1
    have h2 : some (V.agg cs) = some x := h2
    cases h2
    exact ⟨v, Wk.agg hv⟩
   exact ⟨bs, by rw [iH]; exact hb⟩
theorem Ix {H : Type} {ds : List (DataW H)} {xs : List V} (h : j0 tt Tryz.f4.params.toList ds xs) : cW Tryz.prog jG 4 xs [] (.bool true) none := by
 rw [Tryz.params4] at h
 obtain ⟨d0, x0, ds0, xs0, rfl, rfl, hd0, h0⟩ := DJ h
 obtain ⟨rfl, rfl⟩ := DK h0
 obtain ⟨l, hl⟩ := IJ hd0
 refine (cW.of_wf ⟨Tryz.f4, rfl, rfl, rfl⟩ fun hw => ?_).args (aq.cons hl aq.nil)
 have hok : dG l := sr l hw.1.2
 by_cases h0 : 0 < l.length
 . exact GX l hok h0
 . have : l = [] := List.eq_nil_of_length_eq_zero (by omega)
   subst this
   exact GW
theorem own : ownKnob Tryz.prog.godebug = none := by kernel_rfl
theorem laidOut : laidOutB Tryz.prog = true := by kernel_rfl
theorem glOf : ug Tryz.prog tt nj Rows.jtagBackRow.laid jG := by
 intro b cs h
 unfold jG at h
 split at h
 . cases h
   exact ⟨_, _, 210, 3, List.Mem.head _, rfl, by kernel_rfl, by kernel_rfl, rfl, rfl⟩
 . cases h
theorem Ep (H : Type) (enc : TypeId × Value → H) (W : World) (base : Nat) (args : Array Value) (ds gs : List (DataW H)) (before : List MemPlace)
   (hval : ∀ (j : Nat) t v, Tryz.f4.params[j]? = some t → args[j]? = some v → Value.okWide Tryz.prog W .any base t v)
   (hW : DataW.Whole enc Tryz.prog Tryz.f4.params.toList Rows.jtagBackSpec.vars false W args.toList ds gs before) (hL : laidMetH Tryz.prog Rows.jtagBackRow.laid W) :
   Calls Tryz.prog 4 args W fun e W' => ∃ v, e = .returned v ∧ Rows.jtagBackSpec.post enc Tryz.prog Tryz.f4 false true false false W args v W' :=
 Ka (bt := 4) Ev laidOut (fun t ht => by
  rw [Tryz.params4] at ht
  simp at ht
  subst ht
  exact ⟨rfl, by kernel_rfl, by decide⟩) rfl rfl Tryz.underlying4 glOf hval hW hL (fun h => by
  match ds, h with
  | [d0], _ => rfl) fun xs h => Ix h
noncomputable def vA (os : Os) : World :=
 { World.holding Tryz.prog os ⟨#[], #[], []⟩ with heap := ((World.holding Tryz.prog os ⟨#[], #[], []⟩).heap.modify 0 fun
  | .cells _ t frozen => .cells #[.int .u8 (56), .int .u8 (48), .int .u8 (40), .int .u8 (32), .int .u8 (24), .int .u8 (16), .int .u8 (8), .int .u8 (0)] t frozen
  | o => o) }
def ru : Array Value := #[.slice none 0 0]
theorem K6 (os : Os) : laidMet Tryz.prog Rows.jtagBackRow.laid ((vA os).forCall (fun _ _ => 0) ⟨#[], ru, []⟩).memory :=
 laidMet_of_run' 8 (by kernel_rfl) (by kernel_rfl)
theorem reads (os : Os) {H : Type} (enc : TypeId × Value → H) : ∃ places, DataW.whole enc Tryz.prog ((vA os).forCall (fun _ _ => 0) ⟨#[], ru, []⟩).memory Tryz.f4.params.toList Rows.jtagBackSpec.vars false ru.toList 8 = some ([.nil], [], places) :=
 ⟨[], by kernel_rfl⟩
theorem lifted (os : Os) (started : os.Started) (H : Type) (enc : TypeId × Value → H) (F : Stop.Interp) :
   ReturnsInHanded {} Tryz.checked os 4 .any ((OpenSpec.ofChange Rows.jtagBackSpec).preRow enc Tryz.prog Tryz.f4 Rows.jtagBackRow.domain false Rows.jtagBackRow.laid) (((OpenSpec.ofChange Rows.jtagBackSpec).at F).post enc Tryz.prog Tryz.f4 false true false false) := by
 obtain ⟨places, hx⟩ := reads os enc
 refine returnsInHanded_of_row (C := Tryz.checked) (s := OpenSpec.ofChange Rows.jtagBackSpec) own started (by kernel_rfl) Tryz.func4
  (witness_row_at (enc := enc) (C := Tryz.checked) false (vA os) ru rfl (by kernel_rfl) (by kernel_rfl) (by kernel_rfl)
   (OpenSpec.preRow_of_cond 8 hx (by kernel_rfl) (fun k hk => by cases hk) (by kernel_rfl) (K6 os))) ?_
 intro W base args ds gs before hval hW _ _ _ hL _ _
 exact Ep H enc W base args ds gs before hval hW hL
theorem said : Rows.JtagBackSaid :=
 OpenClaim.holds_of_cond 4 Tryz.f4 rfl rfl rfl rfl rfl rfl rfl ⟨rfl, rfl, rfl, rfl, rfl⟩ rfl rfl rfl rfl rfl (by kernel_rfl) Tryz.func4 (by kernel_rfl)
  (of_decide_eq_true (by kernel_rfl)) (by unfold Func.isWrapper; first | (rw [if_pos (by decide +kernel)]; kernel_rfl) | (rw [if_neg (by decide +kernel)]; exact ⟨rfl, rfl⟩))
  (fun os started H enc _ F => by rw [OpenClaim.pre_eq_preRow]; exact lifted os started H enc F)
theorem plain (f : FuncId) (fn : Func) (hf : Tryz.pinned.checked.prog.funcNamed Rows.jtagBackRow.func = some f) (hfn : Tryz.pinned.checked.prog.funcs[f]? = some fn) :
   true = Tryz.pinned.checked.prog.looks [] ∧ ∀ (j : Nat) t, fn.params[j]? = some t → Tryz.pinned.checked.prog.wantsStandIn t = false := by
 obtain rfl : f = 4 := Option.some.inj ((show Tryz.prog.funcNamed Rows.jtagBackRow.func = some 4 by kernel_rfl).symm.trans hf) |>.symm
 obtain rfl : fn = Tryz.f4 := (Option.some.inj (Tryz.func4.symm.trans hfn)).symm
 refine ⟨by kernel_rfl, fun j t ht => ?_⟩
 rw [Tryz.params4] at ht
 have ht := Array.mem_of_getElem? ht
 simp at ht
 subst ht
 . exact (show Tryz.prog.wantsStandIn 25 = false by kernel_rfl)
theorem card : Rows.JtagBackCardSaid :=
 Claim7.holds_tied_plain_at .later [] _ _ _ _ said (fun _ h => by cases h) (by kernel_rfl) (fun _ h => by cases h) jtagBack_row_tie rfl ⟨rfl, rfl⟩ (by kernel_rfl) rfl plain (by kernel_rfl)
end Go.Proofs.YtipejldppicijaaGreatDoor.jtagBack
