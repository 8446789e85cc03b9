/-
  Values of Protobuf: the law's examples.
-/
import Derived.Test.YtkkfdkfopdjomaaDoorOE
import Derived.Test.YtkkfdkfopdjomaaDoorMXn
import Derived.Test.YtkkfdkfopdjomaaDoorMWh
set_option linter.unusedSimpArgs false
set_option linter.unusedVariables false
set_option maxHeartbeats 4000000
namespace Go.Proofs.YtkkfdkfopdjomaaDoor
open Go Go.VG
set_option maxRecDepth 100000
abbrev v5 : Val := .mk 3 [] 5 0 [] []
abbrev F5 : List Pf := fSure 3 0 5
theorem f_ovMsg_1  (hp : True) : OK 13 ([.agg [.int .u8 3, .str [], .int .i64 5, .int .u64 0, .list true 0 [], .list true 0 []]]) ([]) (.ptr 0 0) (some (eMv (0 + (fldsB F5).length) ([] ++ eFs F5))) := by
  refine funOK_of_vc (C := cx [(11, sm_mNew), (29, sm_mSureN)]) (good ⟨k_mNew, k_mSureN, trivial⟩) (fn := Tryd.f13) rfl rfl rfl rfl fun hw hs => ?_
  repeat' ((conv => whnf); first | with_reducible (first | refine go1 (fun j q h => ?_) fun h => ?_ | refine go2 ⟨rfl, rfl⟩ (fun h => ?_) fun j h => ?_ | refine go2 ?_ (fun h => ?_) fun j h => ?_ | refine goQ ?_ (fun h => ?_) fun h => ?_) | apply go3 | apply go4 | apply go5 | ((first | apply go6 | apply go7 | apply go8 | apply go9 | apply goA) <;> intro h) | with_reducible (first | refine IdxK.mk _ rfl ?_ | refine call_ite (fun h => ?_) fun h => ?_ | refine goB ?_ fun hc => ?_ | refine goC ?_ fun hc => ?_ | refine goD ?_ fun hc => ?_ | refine goE ?_ fun hc => ?_ | apply goF | apply goG | refine goH ?_ fun b hb => ?_) | apply goI | apply goJ | apply goK | apply goL | apply goM | apply goN | apply goO | with_reducible refine goP ?_)
  all_goals try conv => whnf
  all_goals try (refine Side.mk ?_; try dsimp only)
  · exact ⟨by decide, by decide⟩
  · exact ⟨by decide, by decide⟩
  · exact ⟨by decide, by decide, by decide⟩
  · refine EndP.mk [.swap 0 1, .swap 1 2] ?_ <;> (repeat' first | trivial | rfl | exact eqS _ _ | apply andI | apply eqA | apply eqB | apply eqC | apply eqD | apply eqE | apply eqF | apply eqG | apply eqH | apply eqI)
def sm_ovMsg : Sm := fun args σ => match args, σ with
  | [.agg [.int .u8 3, .str [], .int .i64 5, .int .u64 0, .list true 0 [], .list true 0 []]], [] => some (True, .ptr 0 0, some (eMv (0 + (fldsB F5).length) ([] ++ eFs F5)))
  | _, _ => none
theorem k_ovMsg : SOK 13 sm_ovMsg := by
  intro args sg pre x r he hp
  unfold sm_ovMsg at he
  split at he <;> cases he
  · exact f_ovMsg_1 (hp := hp) ..
abbrev V5e : V := .agg [.str [97], .int .u8 3, .str [], .int .i64 5, .int .u64 0, .list true 0 [], .list true 0 []]
abbrev G5n : Int := 0 + (fldsB (fText 1 [97])).length
abbrev G5L : List V := [] ++ eFs (fText 1 [97])
abbrev F5n : Int := 0 + (fldsB F5).length
abbrev F5L : List V := [] ++ eFs F5
abbrev H5n : Int := G5n + sb0N 2 F5n
abbrev H5L : List V := G5L ++ sb0L 2 F5L F5n
def e5n : Nat → Int
  | 0 => 0
  | _ + 1 => 0 + sbN 9 H5n
def e5L : Nat → List V
  | 0 => []
  | _ + 1 => [] ++ sbL 9 H5L H5n
theorem f_ovEnts_1  (hp : True) : OK 12 ([.ptr 0 0, .int .i64 9, .list true 7 [.agg [.str [97], .int .u8 3, .str [], .int .i64 5, .int .u64 0, .list true 0 [], .list true 0 []]]]) ([.cells [.buf 1, .int .i64 0], .buf 1 0 []]) (.tuple []) (some [.cells [.buf 1, .int .i64 (e5n 1)], .buf 1 0 (e5L 1)]) := by
  refine funOK_of_vc (C := cx [(11, sm_mNew), (25, sm_mTextW), (13, sm_ovMsg), (26, sm_mSub), (27, sm_mSureS)]) (good ⟨k_mNew, k_mTextW, k_ovMsg, k_mSub, k_mSureS, trivial⟩) (fn := Tryd.f12) rfl rfl rfl rfl fun hw hs => ?_
  repeat' ((conv => whnf); first | with_reducible (first | refine go1 (fun j q h => ?_) fun h => ?_ | refine go2 ⟨rfl, rfl⟩ (fun h => ?_) fun j h => ?_ | refine go2 ?_ (fun h => ?_) fun j h => ?_ | refine goQ ?_ (fun h => ?_) fun h => ?_) | apply go3 | apply go4 | apply go5 | ((first | apply go6 | apply go7 | apply go8 | apply go9 | apply goA) <;> intro h) | with_reducible (first | refine IdxK.mk _ rfl ?_ | refine call_ite (fun h => ?_) fun h => ?_ | refine goB ?_ fun hc => ?_ | refine goC ?_ fun hc => ?_ | refine goD ?_ fun hc => ?_ | refine goE ?_ fun hc => ?_ | apply goF | apply goG | refine goH ?_ fun b hb => ?_) | apply goI | apply goJ | apply goK | apply goL | apply goM | apply goN | apply goO | with_reducible refine goP ?_)
  all_goals try conv => whnf
  all_goals try (refine Side.mk ?_; try dsimp only)
  refine LoopP.mk Nat (fun i => i ≤ 1) (fun i => ⟨30, [(0, .ptr 0 0), (1, .int .i64 9), (9, .list true 7 [V5e]), (10, .int .i64 1), (11, .int .i64 i)], [.cells [.buf 1, .int .i64 (e5n i)], .buf 1 0 (e5L i)], [1, 2, 3, 4, 5, 6, 7, 8, 9]⟩) (fun i => 1 - i) [] 0 (Nat.zero_le _) ?_ (fun i hi _ _ => ?_)
  · refine Go.VG.Sub.mk rfl ?_ ?_ ?_ ?_ <;> (repeat' first | trivial | rfl | exact eqS _ _ | apply andI | apply eqA | apply eqB | apply eqC | apply eqD | apply eqE | apply eqF | apply eqG | apply eqH | apply eqI)
  have hi : i = 0 ∨ i = 1 := by omega
  rcases hi with rfl | rfl
  · repeat' ((conv => whnf); first | with_reducible (first | refine go1 (fun j q h => ?_) fun h => ?_ | refine go2 ⟨rfl, rfl⟩ (fun h => ?_) fun j h => ?_ | refine go2 ?_ (fun h => ?_) fun j h => ?_ | refine goQ ?_ (fun h => ?_) fun h => ?_) | apply go3 | apply go4 | apply go5 | ((first | apply go6 | apply go7 | apply go8 | apply go9 | apply goA) <;> intro h) | with_reducible (first | refine IdxK.mk _ rfl ?_ | refine call_ite (fun h => ?_) fun h => ?_ | refine goB ?_ fun hc => ?_ | refine goC ?_ fun hc => ?_ | refine goD ?_ fun hc => ?_ | refine goE ?_ fun hc => ?_ | apply goF | apply goG | refine goH ?_ fun b hb => ?_) | apply goI | apply goJ | apply goK | apply goL | apply goM | apply goN | apply goO | with_reducible refine goP ?_)
    all_goals try conv => whnf
    all_goals try (refine Side.mk ?_; try dsimp only)
    · decide
    · exact ⟨by decide, by decide, by decide⟩
    · exact ⟨by decide +kernel, by decide, by decide +kernel⟩
    · exact ⟨by decide, by decide, by decide +kernel⟩
    · refine ⟨[], 1, Nat.le_refl 1, ?_, by omega⟩
      refine Go.VG.Sub.mk rfl ?_ ?_ ?_ ?_ <;> (repeat' first | trivial | rfl | exact eqS _ _ | apply andI | apply eqA | apply eqB | apply eqC | apply eqD | apply eqE | apply eqF | apply eqG | apply eqH | apply eqI)
  · repeat' ((conv => whnf); first | with_reducible (first | refine go1 (fun j q h => ?_) fun h => ?_ | refine go2 ⟨rfl, rfl⟩ (fun h => ?_) fun j h => ?_ | refine go2 ?_ (fun h => ?_) fun j h => ?_ | refine goQ ?_ (fun h => ?_) fun h => ?_) | apply go3 | apply go4 | apply go5 | ((first | apply go6 | apply go7 | apply go8 | apply go9 | apply goA) <;> intro h) | with_reducible (first | refine IdxK.mk _ rfl ?_ | refine call_ite (fun h => ?_) fun h => ?_ | refine goB ?_ fun hc => ?_ | refine goC ?_ fun hc => ?_ | refine goD ?_ fun hc => ?_ | refine goE ?_ fun hc => ?_ | apply goF | apply goG | refine goH ?_ fun b hb => ?_) | apply goI | apply goJ | apply goK | apply goL | apply goM | apply goN | apply goO | with_reducible refine goP ?_)
    all_goals try conv => whnf
    all_goals try (refine Side.mk ?_; try dsimp only)
    refine EndP.mk [] ?_ <;> (repeat' first | trivial | rfl | exact eqS _ _ | apply andI | apply eqA | apply eqB | apply eqC | apply eqD | apply eqE | apply eqF | apply eqG | apply eqH | apply eqI)
def sm_ovEnts : Sm := fun args σ => match args, σ with
  | [.ptr 0 0, .int .i64 9, .list true 7 [.agg [.str [97], .int .u8 3, .str [], .int .i64 5, .int .u64 0, .list true 0 [], .list true 0 []]]], [.cells [.buf 1, .int .i64 0], .buf 1 0 []] => some (True, .tuple [], some [.cells [.buf 1, .int .i64 (e5n 1)], .buf 1 0 (e5L 1)])
  | _, _ => none
theorem k_ovEnts : SOK 12 sm_ovEnts := by
  intro args sg pre x r he hp
  unfold sm_ovEnts at he
  split at he <;> cases he
  · exact f_ovEnts_1 (hp := hp) ..
theorem e5_F : psB F5L = [24, 5] := by
  rw [show F5L = eFs F5 from rfl, psB_eFs]
  decide +kernel
theorem e5_H : psB H5L = [10, 1, 97, 18, 2, 24, 5] := by
  have h2 : H5L = G5L ++ [.iface 97 (eIn false 2 F5L F5n)] := rfl
  rw [h2, psB_app, psB_cons, psB_nil, pB_sub, e5_F, show G5L = eFs (fText 1 [97]) from rfl, psB_eFs]
  decide +kernel
theorem e5_B : psB (e5L 1) = [74, 7, 10, 1, 97, 18, 2, 24, 5] ∧ psB F5L = [24, 5] := by
  refine ⟨?_, e5_F⟩
  have h4 : e5L 1 = [.iface 97 (eIn false 9 H5L H5n)] := rfl
  rw [h4, psB_cons, psB_nil, pB_sub, e5_H]
  decide +kernel
/-! what is read in the example -/
def w35 : List UInt8 := [10, 1, 120, 24, 5]
def w35e : List UInt8 := [10, 1, 97, 18, 2, 24, 5]
theorem fds_of {s : List UInt8} {l : List Pf} (h : (aFds s).map (fun f => (f.no, f.wi, f.num, f.text)) = l.map (fun f => (f.no, f.wi, f.num, f.text))) : aFds s = l :=
  List.map_inj_right (fun a b q => by cases a; cases b; cases q; rfl) |>.mp h
theorem w35_v {g6 g7 : RV} : rdB g6 g7 w35 = (0, v5) ∧ rdB g6 g7 [24, 5] = (0, v5) := by
  have e1 : aFds w35 = [⟨1, 2, 0, [120]⟩, ⟨3, 0, 5, []⟩] := fds_of (by decide +kernel)
  have e2 : aFds [24, 5] = [⟨3, 0, 5, []⟩] := fds_of (by decide +kernel)
  constructor
  · unfold rdB
    rw [if_neg (by decide +kernel), e1]
    rfl
  · unfold rdB
    rw [if_neg (by decide +kernel), e2]
    rfl
theorem w35_e {v : RV} (h : v [24, 5] = (0, v5)) : rdEs v [w35e] [] = (0, [.mk [97] v5]) := by
  have e1 : aFds w35e = [⟨1, 2, 0, [97]⟩, ⟨2, 2, 0, [24, 5]⟩] := fds_of (by decide +kernel)
  have e2 : rdA v w35e = (0, .mk [97] v5) := by
    unfold rdA
    rw [if_neg (by decide +kernel), e1]
    rw [show joinT (selF (isF 2 2) [⟨1, 2, 0, [97]⟩, ⟨2, 2, 0, [24, 5]⟩]) = [24, 5] from rfl, h]
    rfl
  unfold rdEs
  rw [e2]
  rfl
theorem f_works35 {M : List V → List UInt8} (hM : ∀ P, M P = psB P) : OK 4 [] [] (.bool true) none := by
  refine funOK_of_vc (C := cx [(11, sm_mNew), (12, sm_ovEnts), (5, sm_ovR (rdV 32) 32), (7, sm_ovEs (rdV 32) 32), (13, sm_ovMsg), (14, sm_bytesX M)])
    (good ⟨k_mNew, k_ovEnts, k_ovR 32, k_ovEs (rdV 32) 32 (k_ovR 32), k_ovMsg, k_bytesX hM, trivial⟩) (fn := Tryd.f4) rfl rfl rfl rfl fun hw hs => ?_
  have hB1 := hM (e5L 1)
  have hB2 := hM F5L
  rw [e5_B.1] at hB1
  rw [e5_B.2] at hB2
  have hr1 : rdV 32 w35 = (0, v5) := w35_v.1
  have hr2 : rdEs (rdV 32) [w35e] [] = (0, [.mk [97] v5]) := w35_e w35_v.2
  repeat' ((conv => whnf); first | with_reducible (first | refine go1 (fun j q h => ?_) fun h => ?_ | refine go2 ⟨rfl, rfl⟩ (fun h => ?_) fun j h => ?_ | refine go2 ?_ (fun h => ?_) fun j h => ?_ | refine goQ ?_ (fun h => ?_) fun h => ?_) | apply go3 | apply go4 | apply go5 | ((first | apply go6 | apply go7 | apply go8 | apply go9 | apply goA) <;> intro h) | with_reducible (first | refine IdxK.mk _ rfl ?_ | refine call_ite (fun h => ?_) fun h => ?_ | refine goB ?_ fun hc => ?_ | refine goC ?_ fun hc => ?_ | refine goD ?_ fun hc => ?_ | refine goE ?_ fun hc => ?_ | apply goF | apply goG | refine goH ?_ fun b hb => ?_) | apply goI | apply goJ | apply goK | apply goL | apply goM | apply goN | apply goO | with_reducible refine goP ?_)
  all_goals try conv => whnf
  all_goals try (refine Side.mk ?_; try dsimp only)
  · exact ⟨by decide, by decide, by decide, rfl⟩
  · refine ⟨rfl, fun i hi => ?_, by decide, by decide, rfl, by decide⟩
    have : i = 0 := by simpa using hi
    subst this
    decide
  · refine ⟨(?_ : F5n = ((psB F5L).length : Int)), ok_eFs 100 (fs := F5) (by decide +kernel), by decide, (?_ : (psB F5L).length ≤ 100000000)⟩
    · rw [e5_B.2]
      decide +kernel
    · rw [e5_B.2]
      decide
  · refine ⟨(?_ : _ = ((psB (e5L 1)).length : Int)), ?_, by decide, (?_ : (psB (e5L 1)).length ≤ 100000000)⟩
    · rw [e5_B.1]
      decide +kernel
    · intro v hv
      have h : v = .iface 97 (eIn false 9 H5L H5n) := by
        have : v ∈ [V.iface 97 (eIn false 9 H5L H5n)] := hv
        simpa using this
      subst h
      refine .sub 99 false 9 _ _ (by rw [e5_H]; decide +kernel) (by decide) (by decide) ?_
      intro v hv
      have h : v = .iface 112 (ePf ⟨1, 2, 0, [97]⟩) ∨ v = .iface 97 (eIn false 2 F5L F5n) := by
        have : v ∈ [V.iface 112 (ePf ⟨1, 2, 0, [97]⟩), V.iface 97 (eIn false 2 F5L F5n)] := hv
        simpa using this
      rcases h with rfl | rfl
      · exact .fld _ _ (by decide) (by decide)
      · exact .sub 98 false 2 _ _ (by rw [e5_B.2]; decide +kernel) (by decide) (by decide) (ok_eFs 98 (fs := F5) (by decide +kernel))
    · rw [e5_B.1]
      decide
  · exact Int.le_refl _
  · exact Int.le_refl _
  · refine EndP.mk [] ?_ <;> (repeat' first | trivial | rfl | exact eqS _ _ | apply andI | apply eqA | apply eqB | apply eqC | apply eqD | apply eqE | apply eqF | apply eqG | apply eqH | apply eqI)
  · exact absurd hB1 (by assumption)
  · exact absurd hB2 (by assumption)
end Go.Proofs.YtkkfdkfopdjomaaDoor
