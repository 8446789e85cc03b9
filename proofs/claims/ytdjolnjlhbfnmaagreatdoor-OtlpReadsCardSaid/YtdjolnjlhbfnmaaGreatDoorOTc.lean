/-
  A part of the proof.
-/
import Derived.Test.YtdjolnjlhbfnmaaGreatDoorOTa
import Derived.Test.YtdjolnjlhbfnmaaGreatDoorNM
import Derived.Test.YtdjolnjlhbfnmaaGreatDoorNH
import Derived.Test.YtdjolnjlhbfnmaaGreatDoorPSame
import Derived.Test.YtdjolnjlhbfnmaaGreatDoorNY
set_option linter.unusedSimpArgs false
set_option linter.unusedVariables false
set_option maxHeartbeats 4000000
namespace Go.Proofs.YtdjolnjlhbfnmaaGreatDoor
open Go Go.VG
set_option maxRecDepth 100000
theorem qm {no : Int} {l : List V} {m : Int} (h : bD no 2 = true) : bf (dQ no l m) = cN no 2 ++ (cm m.toNat ++ bf l) := by
 unfold dQ
 rw [if_pos h, oG, jm, List.append_nil]
 exact Dm false no l m
theorem DB {no : Int} {l : List V} {m : Int} (h : bD no 2 = true) (hm : m > 0) : bf (dP no l m) = cN no 2 ++ (cm m.toNat ++ bf l) := by
 unfold dP
 rw [if_pos hm, qm h]
theorem sm {no : Int} {l : List V} {m : Int} (hm : ¬ m > 0) : dP no l m = [] := if_neg hm
theorem lS (d : Nat) : ∀ v ∈ ([] : List V), cQ d v := fun _ h => (nomatch h)
theorem jk {d : Nat} {l k : List V} (h1 : ∀ v ∈ l, cQ d v) (h2 : ∀ v ∈ k, cQ d v) : ∀ v ∈ l ++ k, cQ d v := fun v h => (List.mem_append.1 h).elim (h1 v) (h2 v)
theorem qf {d : Nat} {no : Int} {l : List V} {n : Nat} (hn : n = (bf l).length) (h9 : n ≤ 100000000) (hl : l.length ≤ 1000000) (h : ∀ v ∈ l, cQ d v) : ∀ v ∈ dQ no l n, cQ (d + 1) v := fun v hv => by
 unfold dQ at hv
 split at hv
 . rw [List.mem_singleton] at hv
   subst hv
   exact .sub d false no l n hn h9 hl h
 . cases hv
theorem Db {d : Nat} {no : Int} {l : List V} {n : Nat} (hn : n = (bf l).length) (h9 : n ≤ 100000000) (hl : l.length ≤ 1000000) (h : ∀ v ∈ l, cQ d v) : ∀ v ∈ dP no l n, cQ (d + 1) v := fun v hv => by
 unfold dP at hv
 split at hv
 . exact qf hn h9 hl h v hv
 . cases hv
def bA : List UInt8 := [10, 1, 97]
def bB : List UInt8 := [10, 3, 10, 1, 97]
def bN : List UInt8 := [10, 3, 108, 105, 98]
def bS : List UInt8 := [10, 16, 1, 0, 0, 0, 0, 0, 0, 0, 0, 0, 0, 0, 0, 0, 0, 0, 18, 8, 2, 0, 0, 0, 0, 0, 0, 0]
def bC : List UInt8 := [10, 5, 10, 3, 108, 105, 98, 18, 28, 10, 16, 1, 0, 0, 0, 0, 0, 0, 0, 0, 0, 0, 0, 0, 0, 0, 0, 18, 8, 2, 0, 0, 0, 0, 0, 0, 0]
def bR : List UInt8 := [10, 5, 10, 3, 10, 1, 97, 18, 37, 10, 5, 10, 3, 108, 105, 98, 18, 28, 10, 16, 1, 0, 0, 0, 0, 0, 0, 0, 0, 0, 0, 0, 0, 0, 0, 0, 18, 8, 2, 0, 0, 0, 0, 0, 0, 0, 18, 0]
def bT : List UInt8 := [10, 48, 10, 5, 10, 3, 10, 1, 97, 18, 37, 10, 5, 10, 3, 108, 105, 98, 18, 28, 10, 16, 1, 0, 0, 0, 0, 0, 0, 0, 0, 0, 0, 0, 0, 0, 0, 0, 18, 8, 2, 0, 0, 0, 0, 0, 0, 0, 18, 0]
theorem n_A : mAn = (3 : Nat) := by decide +kernel
theorem p_A : bf oz = bA := by
 rw [show oz = ([] ++ bJ (dt 1 [97])) ++ dP 2 [] 0 from rfl, sm (by decide), List.append_nil, List.nil_append, uo]
 decide +kernel
theorem n_B : jh 1 = (5 : Nat) := by decide +kernel
theorem p_B : bf (jg 1) = bB := by
 rw [show jg 1 = [] ++ dQ 1 oz mAn from rfl, List.nil_append, qm (by decide), p_A]
 decide +kernel
theorem n_N : jR dE = (5 : Nat) := by decide +kernel
theorem p_N : bf (lQ dE) = bN := by
 rw [show lQ dE = ([] ++ bJ (dt 1 dE)) ++ bJ (dt 2 []) from rfl, List.nil_append, ql, uo, uo]
 decide +kernel
theorem n_Z : oB = 0 := by decide +kernel
theorem n_N0 : jR [] = 0 := by decide +kernel
theorem n_S : oA = (28 : Nat) := by decide +kernel
theorem p_S : bf lR = bS := by
 rw [show lR = ((((((([] ++ bJ (fK ⟨1, 2, 0, nx⟩)) ++ bJ (fK ⟨2, 2, 0, mO⟩)) ++ bJ (dt 3 [])) ++ bJ (dt 5 [])) ++ bJ (fe 6 0 0)) ++ bJ (fe 7 1 0)) ++ bJ (fe 8 1 0)) ++ dP 15 mZL oB from rfl, sm (by rw [n_Z]; decide), List.append_nil, List.nil_append]
 simp only [ql, uo]
 decide +kernel
theorem n_C : kP 1 = (37 : Nat) := by decide +kernel
theorem p_C : bf (jQ 1) = bC := by
 rw [show jQ 1 = ([] ++ dP 1 (lQ dE) (jR dE)) ++ dQ 2 lR oA from rfl, List.nil_append, ql, qm (by decide), DB (by decide) (by rw [n_N]; decide), p_N, p_S, n_N, n_S]
 decide +kernel
theorem n_E : n5 = (0 : Nat) := by decide +kernel
theorem l_E : mZ = [] := by
 rw [show mZ = [] ++ dP 1 (lQ []) (jR []) from rfl, sm (by rw [n_N0]; decide)]; rfl
theorem n_R : n6 2 = (48 : Nat) := by decide +kernel
theorem p_R : bf (kQ 2) = bR := by
 rw [show kQ 2 = (([] ++ dP 1 (jg 1) (jh 1)) ++ dQ 2 (jQ 1) (kP 1)) ++ dQ 2 mZ n5 from rfl, List.nil_append, ql, ql, qm (by decide), qm (by decide), DB (by decide) (by rw [n_B]; decide), p_B, p_C, l_E, n_B, n_C, n_E, jm]
 decide +kernel
theorem n_T : mTn 1 = (50 : Nat) := by decide +kernel
theorem p_T : bf (gY 1) = bT := by
 rw [show gY 1 = [] ++ dQ 1 (kQ 2) (n6 2) from rfl, List.nil_append, qm (by decide), p_R, n_R]
 decide +kernel
theorem ok_T : ∀ v ∈ gY 1, cQ 100 v := by
 have hS : ∀ v ∈ lR, cQ 97 v := by
  rw [show lR = ((((((([] ++ bJ (fK ⟨1, 2, 0, nx⟩)) ++ bJ (fK ⟨2, 2, 0, mO⟩)) ++ bJ (dt 3 [])) ++ bJ (dt 5 [])) ++ bJ (fe 6 0 0)) ++ bJ (fe 7 1 0)) ++ bJ (fe 8 1 0)) ++ dP 15 mZL oB from rfl, sm (by rw [n_Z]; decide)]
  repeat' apply jk
  all_goals first
   | exact lS _
   | exact uh _ (by decide +kernel)
 have hN : ∀ v ∈ lQ dE, cQ 97 v := jk (jk (lS _) (uh _ (by decide +kernel))) (uh _ (by decide +kernel))
 have hA : ∀ v ∈ oz, cQ 97 v := by
  rw [show oz = ([] ++ bJ (dt 1 [97])) ++ dP 2 [] 0 from rfl, sm (by decide)]
  exact jk (jk (lS _) (uh _ (by decide +kernel))) (lS _)
 have hB : ∀ v ∈ jg 1, cQ 98 v := by
  rw [show jg 1 = [] ++ dQ 1 oz mAn from rfl, n_A]
  exact jk (lS _) (qf (by rw [p_A]; rfl) (by decide) (by decide +kernel) hA)
 have hC : ∀ v ∈ jQ 1, cQ 98 v := by
  rw [show jQ 1 = ([] ++ dP 1 (lQ dE) (jR dE)) ++ dQ 2 lR oA from rfl, n_N, n_S]
  exact jk (jk (lS _) (Db (by rw [p_N]; rfl) (by decide) (by decide +kernel) hN)) (qf (by rw [p_S]; rfl) (by decide) (by decide +kernel) hS)
 have hR : ∀ v ∈ kQ 2, cQ 99 v := by
  rw [show kQ 2 = (([] ++ dP 1 (jg 1) (jh 1)) ++ dQ 2 (jQ 1) (kP 1)) ++ dQ 2 mZ n5 from rfl, l_E, n_B, n_C, n_E]
  exact jk (jk (jk (lS _) (Db (by rw [p_B]; rfl) (by decide) (by decide +kernel) hB)) (qf (by rw [p_C]; rfl) (by decide) (by decide +kernel) hC)) (qf (by rw [jm]; rfl) (by decide) (by decide) (lS _))
 rw [show gY 1 = [] ++ dQ 1 (kQ 2) (n6 2) from rfl, n_R]
 exact jk (lS _) (qf (by rw [p_R]; rfl) (by decide) (by decide +kernel) hR)
theorem lz {s : List UInt8} {l : List Pf} (h : (aF s).map (fun f => (f.no, f.wi, f.num, f.text)) = l.map (fun f => (f.no, f.wi, f.num, f.text))) : aF s = l :=
 List.map_inj_right (fun a b q => by cases a; cases b; cases q; rfl) |>.mp h
theorem d_T : ao bT = 0 ∧ aF bT = [⟨1, 2, 0, bR⟩] := ⟨by decide +kernel, lz (by decide +kernel)⟩
theorem d_R : ao bR = 0 ∧ aF bR = [⟨1, 2, 0, bB⟩, ⟨2, 2, 0, bC⟩, ⟨2, 2, 0, []⟩] := ⟨by decide +kernel, lz (by decide +kernel)⟩
theorem d_B : ao bB = 0 ∧ aF bB = [⟨1, 2, 0, bA⟩] := ⟨by decide +kernel, lz (by decide +kernel)⟩
theorem d_A : ao bA = 0 ∧ aF bA = [⟨1, 2, 0, [97]⟩] := ⟨by decide +kernel, lz (by decide +kernel)⟩
theorem d_C : ao bC = 0 ∧ aF bC = [⟨1, 2, 0, bN⟩, ⟨2, 2, 0, bS⟩] := ⟨by decide +kernel, lz (by decide +kernel)⟩
theorem d_N : ao bN = 0 ∧ aF bN = [⟨1, 2, 0, dE⟩] := ⟨by decide +kernel, lz (by decide +kernel)⟩
theorem iF : ao bS = 0 ∧ aF bS = [⟨1, 2, 0, nx⟩, ⟨2, 2, 0, mO⟩] := ⟨by decide +kernel, lz (by decide +kernel)⟩
theorem gw : ao [] = 0 ∧ aF [] = [] := ⟨by decide +kernel, lz (by decide +kernel)⟩
abbrev iz : Sp := ub nx mO [] [] [] 0 0 0 [] [] [] 0 []
theorem r_S : bF bS = (0, iz) := by
 have e1 : tx 1 bS = nx := by unfold tx; rw [iF.2]; rfl
 have e2 : tx 2 bS = mO := by unfold tx; rw [iF.2]; rfl
 have e4 : tx 4 bS = [] := by unfold tx; rw [iF.2]; rfl
 have e3 : tx 3 bS = [] := by unfold tx; rw [iF.2]; rfl
 have e5 : tx 5 bS = [] := by unfold tx; rw [iF.2]; rfl
 have m6 : nm 6 0 bS = 0 := by unfold nm; rw [iF.2]; rfl
 have m7 : nm 7 1 bS = 0 := by unfold nm; rw [iF.2]; rfl
 have m8 : nm 8 1 bS = 0 := by unfold nm; rw [iF.2]; rfl
 have a9 : ai 9 bS = [] := by unfold ai; rw [iF.2]; rfl
 have a11 : ai 11 bS = [] := by unfold ai; rw [iF.2]; rfl
 have a13 : ai 13 bS = [] := by unfold ai; rw [iF.2]; rfl
 have j15 : jn 15 bS = [] := by unfold jn; rw [iF.2]; rfl
 have t2 : tx 2 [] = [] := by unfold tx; rw [gw.2]; rfl
 have m3 : nm 3 0 [] = 0 := by unfold nm; rw [gw.2]; rfl
 have hb : ¬ eX bS := by
  unfold eX
  rw [e1, e2, e4]
  decide
 unfold bF bI
 rw [if_neg (show ¬ ao bS ≠ 0 by rw [iF.1]; decide), if_neg hb, e1, e2, e3, e4, e5, m6, m7, m8, a9, a11, a13, j15, t2, m3, gw.1]
 rfl
theorem r_E : ct [] = (0, ⟨[], [], []⟩) := by
 have j1 : jn 1 [] = [] := by unfold jn; rw [gw.2]; rfl
 have t1 : tx 1 [] = [] := by unfold tx; rw [gw.2]; rfl
 have t2 : tx 2 [] = [] := by unfold tx; rw [gw.2]; rfl
 have a2 : ai 2 [] = [] := by unfold ai; rw [gw.2]; rfl
 unfold ct
 rw [j1, t1, t2, a2, gw.1]
 rfl
theorem r_C : ct bC = (0, ⟨dE, [], [iz]⟩) := by
 have j1 : jn 1 bC = bN := by unfold jn; rw [d_C.2]; rfl
 have t1 : tx 1 bN = dE := by unfold tx; rw [d_N.2]; rfl
 have t2 : tx 2 bN = [] := by unfold tx; rw [d_N.2]; rfl
 have a2 : ai 2 bC = [bS] := by unfold ai; rw [d_C.2]; rfl
 have hr : aC bF [bS] [] = (0, [iz]) := by unfold aC; rw [r_S]; rfl
 unfold ct
 rw [j1, t1, t2, a2, d_C.1, d_N.1, hr]
 rfl
theorem r_A (v : RV) (h : v [] = (0, vz)) : bO v [bA] [] = (0, [.mk [97] vz]) := by
 have e2 : cO v bA = (0, .mk [97] vz) := by
  unfold cO
  rw [d_A.1, d_A.2]
  rw [show bX (ar (aD 2 2) [⟨1, 2, 0, [97]⟩]) = [] from rfl, h]
  rfl
 unfold bO
 rw [e2]
 rfl
theorem r_0 {g6 g7 : RV} : fp g6 g7 [] = (0, vz) := by
 unfold fp
 rw [gw.1, gw.2]
 rfl
theorem r_R : br bR = (0, ⟨[.mk [97] vz], [⟨dE, [], [iz]⟩, ⟨[], [], []⟩]⟩) := by
 have j1 : jn 1 bR = bB := by unfold jn; rw [d_R.2]; rfl
 have a1 : ai 1 bB = [bA] := by unfold ai; rw [d_B.2]; rfl
 have a2 : ai 2 bR = [bC, []] := by unfold ai; rw [d_R.2]; rfl
 have hr : aC ct [bC, []] [] = (0, [⟨dE, [], [iz]⟩, ⟨[], [], []⟩]) := by unfold aC; rw [r_C]; unfold aC; rw [r_E]; rfl
 have he : bO (eb 32) [bA] [] = (0, [.mk [97] vz]) := r_A _ r_0
 unfold br bI
 rw [j1, a1, a2, d_R.1, d_B.1, hr, he]
 rfl
theorem r_T : da bT = (0, [⟨[.mk [97] vz], [⟨dE, [], [iz]⟩, ⟨[], [], []⟩]⟩]) := by
 have a1 : ai 1 bT = [bR] := by unfold ai; rw [d_T.2]; rfl
 have hr : aC br [bR] [] = (0, [⟨[.mk [97] vz], [⟨dE, [], [iz]⟩, ⟨[], [], []⟩]⟩]) := by unfold aC; rw [r_R]; rfl
 have hA : bM [.mk [97] vz] [] = [.mk [97] vz] := by simp [bM, fv, dH, lf, du, vz]
 have h0 : bM ([] : List aG) [] = [] := by simp [bM]
 have hS : kr iz = iz := by
  show ({ iz with attrs := bM [] [], aX := [], lks := [] } : Sp) = iz
  rw [h0]
  rfl
 unfold da
 rw [a1, d_T.1, hr]
 show (0, [(⟨bM [.mk [97] vz] [], [⟨dE, [], [kr iz]⟩, ⟨[], [], []⟩]⟩ : Rs)]) = _
 rw [hA, hS]
theorem r_1 : da [10, 0] = (0, [⟨[], []⟩]) := by
 have d : ao [10, 0] = 0 ∧ aF [10, 0] = [⟨1, 2, 0, []⟩] := ⟨by decide +kernel, lz (by decide +kernel)⟩
 have a1 : ai 1 [10, 0] = [[]] := by unfold ai; rw [d.2]; rfl
 have j1 : jn 1 [] = [] := by unfold jn; rw [gw.2]; rfl
 have z1 : ai 1 [] = [] := by unfold ai; rw [gw.2]; rfl
 have z2 : ai 2 [] = [] := by unfold ai; rw [gw.2]; rfl
 have hr : br [] = (0, ⟨[], []⟩) := by
  unfold br bI
  rw [j1, z1, z2, gw.1]
  rfl
 unfold da
 rw [a1, d.1]
 unfold aC
 rw [hr]
 simp [aC, j6, bM]
theorem r_2 : da [] = (0, []) := by
 have z1 : ai 1 [] = [] := by unfold ai; rw [gw.2]; rfl
 unfold da
 rw [z1, gw.1]
 rfl
theorem r_3 : da [10, 1] = (1, []) := by
 unfold da
 rw [show ao [10, 1] = 1 by decide +kernel]
 rfl
end Go.Proofs.YtdjolnjlhbfnmaaGreatDoor
namespace Go.Proofs.YtdjolnjlhbfnmaaGreatDoor
open Go Go.VG
set_option maxRecDepth 100000
theorem Kr (s : Sp) (hle : s.aX.length ≤ 100000) (hlk : s.lks.length ≤ 100000) : OK 43 [dk s, dk s] [] (.bool true) none := by
 refine al (C := cxv [(18, uH)] [(8, [.res, .res]), (14, [.res, .res])] [(6, 2), (7, 3), (9, 2), (10, 3)]) (wq ⟨C4, trivial⟩) (fn := Tryz.f43) rfl rfl rfl rfl fun hw _ => ?_
 have e1 : (s.aX.map er).length = s.aX.length := by simp
 have e2 : (s.lks.map eZ).length = s.lks.length := by simp
 repeat' ((conv => whnf); first | apply aj | apply aO | ((first | apply aw | apply fw | apply eG) <;> intro h))
 all_goals try conv => whnf
 all_goals try (refine ae.mk ?_; try dsimp only)
 . exact ⟨eP _, eP _⟩
 . refine aT.mk Nat (fun i => i ≤ s.aX.length) (fun i => ⟨177, [(2, .ptr 0 0), (3, .ptr 1 0), (5, .int .i64 i)], [.cells (nX s), .cells (nX s)], [0, 1, 2, 3]⟩) (fun i => s.aX.length - i) [] 0 (Nat.zero_le _) ?_ (fun i hi _ _ => ?_)
   . refine Go.VG.Sub.mk rfl ?_ ?_ ?_ ?_ <;> (repeat' first | trivial)
   repeat' ((conv => whnf); first | apply aj | apply aO | ((first | apply aw | apply fw | apply eG) <;> intro h) | with_reducible apply c9)
   all_goals try conv => whnf
   all_goals try (refine ae.mk ?_; try dsimp only)
   all_goals (try simp only [List.length_map] at *)
   all_goals first | refine stay ?_ | omega | skip
   . exact ⟨eP _, eP _⟩
   . refine ⟨[], i + 1, by omega, ?_, by omega⟩
     refine Go.VG.Sub.mk rfl ?_ ?_ ?_ ?_ <;> (repeat' first | trivial | apply ax | apply aH)
     rw [bc]; omega
   . first
    | contradiction
    | exact absurd trivial (show ¬ True by assumption)
    | exact Bool.noConfusion (((jr _ _).2 rfl).symm.trans (show dm _ _ = false by assumption))
    | (exfalso; simp_all; done)
   . first
    | contradiction
    | exact absurd trivial (show ¬ True by assumption)
    | exact Bool.noConfusion (((jr _ _).2 rfl).symm.trans (show dm _ _ = false by assumption))
    | (exfalso; simp_all; done)
   . first
    | contradiction
    | exact absurd trivial (show ¬ True by assumption)
    | exact Bool.noConfusion (((jr _ _).2 rfl).symm.trans (show dm _ _ = false by assumption))
    | (exfalso; simp_all; done)
   refine aT.mk Nat (fun i => i ≤ s.lks.length) (fun i => ⟨177, [(2, .ptr 0 0), (3, .ptr 1 0), (8, .int .i64 i)], [.cells (nX s), .cells (nX s)], [0, 1, 2, 3]⟩) (fun i => s.lks.length - i) [] 0 (Nat.zero_le _) ?_ (fun i hi _ _ => ?_)
   . refine Go.VG.Sub.mk rfl ?_ ?_ ?_ ?_ <;> (repeat' first | trivial)
   repeat' ((conv => whnf); first | apply aj | apply aO | ((first | apply aw | apply fw | apply eG) <;> intro h) | with_reducible apply c9)
   all_goals try conv => whnf
   all_goals try (refine ae.mk ?_; try dsimp only)
   all_goals (try simp only [List.length_map] at *)
   all_goals first | refine stay ?_ | omega | skip
   . exact ⟨eP _, eP _⟩
   . refine ⟨[], i + 1, by omega, ?_, by omega⟩
     refine Go.VG.Sub.mk rfl ?_ ?_ ?_ ?_ <;> (repeat' first | trivial | apply ax | apply aH)
     rw [bc]; omega
   . first
    | contradiction
    | exact absurd trivial (show ¬ True by assumption)
    | exact Bool.noConfusion (((jr _ _).2 rfl).symm.trans (show dm _ _ = false by assumption))
    | (exfalso; simp_all; done)
   . first
    | contradiction
    | exact absurd trivial (show ¬ True by assumption)
    | exact Bool.noConfusion (((jr _ _).2 rfl).symm.trans (show dm _ _ = false by assumption))
    | (exfalso; simp_all; done)
   . first
    | contradiction
    | exact absurd trivial (show ¬ True by assumption)
    | exact Bool.noConfusion (((jr _ _).2 rfl).symm.trans (show dm _ _ = false by assumption))
    | (exfalso; simp_all; done)
   . first
    | contradiction
    | exact absurd trivial (show ¬ True by assumption)
    | exact Bool.noConfusion (((jr _ _).2 rfl).symm.trans (show dm _ _ = false by assumption))
    | (exfalso; simp_all; done)
   . refine af.mk [] ?_ <;> (repeat' first | trivial)
 all_goals (exfalso; rename_i h; first | exact absurd rfl h | (rw [(jr _ _).2 rfl] at h; cases h; done) | (simp at h; done))
def zv : Sm := fun args σ => match args, σ with
 | [x, y], [] => some ((pP x ∧ pP y) ∧ ku x = ku y ∧ ko (ku x), .bool true, none)
 | _, _ => none
-- #name same27 truchmanref27.Same
theorem Me : au 43 zv := by
 intro args sg pre x r he hp
 unfold zv at he
 split at he <;> cases he
 obtain ⟨⟨h1, h2⟩, h3, h4⟩ := hp
 unfold pP at h1 h2
 rw [← h3] at h2
 exact (Kr _ h4.le h4.lk).args (aE.cons h1 (aE.cons h2 aE.nil))
theorem Kt (l : List Sc) (hl : l.length ≤ 100000) (hp : ∀ s ∈ l, j5 s) : OK 19 [.list false 3 (l.map cw), .list false 3 (l.map cw)] [] (.bool true) none := by
 refine al (C := cx [(43, zv)]) (aq ⟨Me, trivial⟩) (fn := Tryz.f19) rfl rfl rfl rfl fun hw _ => ?_
 repeat' ((conv => whnf); first | apply aO | (apply aw <;> intro h))
 all_goals try conv => whnf
 all_goals try (refine ae.mk ?_; try dsimp only)
 refine aT.mk Nat (fun i => i ≤ l.length) (fun i => ⟨85, [(0, .list false 3 (l.map cw)), (1, .list false 3 (l.map cw)), (5, .int .i64 i)], [], [0, 1, 2, 3]⟩) (fun i => l.length - i) [] 0 (Nat.zero_le _) ?_ (fun i hi _ _ => ?_)
 . refine Go.VG.Sub.mk rfl ?_ ?_ ?_ ?_ <;> (repeat' first | trivial)
 have hpr := fun q => hp _ (dX (l := l) (i := i) q)
 repeat' ((conv => whnf); first | apply aj | apply aO | ((first | apply aw | apply fw) <;> intro h) | with_reducible apply c9)
 all_goals try conv => whnf
 all_goals try (refine ae.mk ?_; try dsimp only)
 all_goals (try simp only [List.length_map] at *)
 all_goals first | refine stay ?_ | omega | skip
 . have hps := hpr (by omega)
   have hlt : i < l.length := by omega
   refine aT.mk Nat (fun j => j ≤ (l.getD i default).spans.length) (fun j => ⟨85, [(0, .list false 3 (l.map cw)), (1, .list false 3 (l.map cw)), (5, .int .i64 i), (6, .int .i64 j)], [], [0, 1, 2, 3]⟩) (fun j => (l.getD i default).spans.length - j) [] 0 (Nat.zero_le _) ?_ (fun j hj _ _ => ?_)
   . refine Go.VG.Sub.mk rfl ?_ ?_ ?_ ?_ <;> (repeat' first | trivial)
   have hl2 := hps.l
   have hq := fun q => hps.s _ (dX (l := (l.getD i default).spans) (i := j) q)
   have hd1 := qY ((l.getD i default).spans.getD j default)
   have hd2 := wE ((l.getD i default).spans.getD j default)
   repeat' ((conv => whnf); first | apply aj | (apply aw <;> intro h) | with_reducible apply c9)
   all_goals try conv => whnf
   all_goals try (refine ae.mk ?_; try dsimp only)
   all_goals (try simp only [List.length_map, hd1] at *)
   all_goals first | refine stay ?_ | trivial | omega | skip
   . exact ⟨⟨hd2, hd2⟩, trivial, hq (by omega)⟩
   . refine ⟨[], j + 1, by omega, ?_, by omega⟩
     refine Go.VG.Sub.mk rfl ?_ ?_ ?_ ?_ <;> (repeat' first | trivial | apply ax | apply aH)
     rw [bc]; omega
   . refine ⟨[], i + 1, by omega, ?_, by omega⟩
     refine Go.VG.Sub.mk rfl ?_ ?_ ?_ ?_ <;> (repeat' first | trivial | apply ax | apply aH)
     rw [bc]; omega
 . first
   | contradiction
   | exact absurd trivial (show ¬ True by assumption)
   | (exfalso; simp_all; done)
 . first
   | contradiction
   | exact absurd trivial (show ¬ True by assumption)
   | (exfalso; simp_all; done)
 . first
   | contradiction
   | exact absurd trivial (show ¬ True by assumption)
   | (exfalso; simp_all; done)
 . refine af.mk [] ?_ <;> (repeat' first | trivial)
 . first
   | contradiction
   | exact absurd trivial (show ¬ True by assumption)
   | (exfalso; simp_all; done)
def zw : Sm := fun args σ => match args, σ with
 | [x, y], [] => some ((pO x ∧ pO y) ∧ jF x = jF y ∧ (jF x).length ≤ 100000 ∧ ∀ s ∈ jF x, j5 s, .bool true, none)
 | _, _ => none
-- #name sameScs truchmanref28.sameScopes
theorem Mf : au 19 zw := by
 intro args sg pre x r he hp
 unfold zw at he
 split at he <;> cases he
 obtain ⟨⟨h1, h2⟩, h3, h4, h5⟩ := hp
 unfold pO at h1 h2
 rw [← h3] at h2
 exact (Kt _ h4 h5).args (aE.cons h1 (aE.cons h2 aE.nil))
theorem Ks (b : List Rs) (hp : l9 b) : OK 7 [dV b, dV b] [] (.bool true) none := by
 refine al (C := cx [(18, uH), (19, zw)]) (aq ⟨C4, Mf, trivial⟩) (fn := Tryz.f7) rfl rfl rfl rfl fun hw _ => ?_
 have hl := hp.l
 repeat' ((conv => whnf); first | apply aO | (apply aw <;> intro h))
 all_goals try conv => whnf
 all_goals try (refine ae.mk ?_; try dsimp only)
 refine aT.mk Nat (fun i => i ≤ b.length) (fun i => ⟨50, [(2, .ptr 0 0), (3, .ptr 1 0), (5, .int .i64 i)], [.cells [.list false 2 (b.map dd)], .cells [.list false 2 (b.map dd)]], [0, 1, 2, 3]⟩) (fun i => b.length - i) [] 0 (Nat.zero_le _) ?_ (fun i hi _ _ => ?_)
 . refine Go.VG.Sub.mk rfl ?_ ?_ ?_ ?_ <;> (repeat' first | trivial)
 have hpr := fun q => hp.r _ (dX (l := b) (i := i) q)
 have hd1 : jF (.list false 3 ((b.getD i default).scopes.map cw)) = (b.getD i default).scopes := tq _
 have hd2 := C0 (b.getD i default).scopes
 repeat' ((conv => whnf); first | apply aj | apply aO | ((first | apply aw | apply eG) <;> intro h) | with_reducible apply c9)
 all_goals try conv => whnf
 all_goals try (refine ae.mk ?_; try dsimp only)
 all_goals (try simp only [List.length_map, hd1] at *)
 all_goals first | refine stay ?_ | omega | skip
 . exact ⟨eP _, eP _⟩
 . have hq := hpr (by omega)
   exact ⟨⟨hd2, hd2⟩, trivial, hq.l, hq.s⟩
 . refine ⟨[], i + 1, by omega, ?_, by omega⟩
   refine Go.VG.Sub.mk rfl ?_ ?_ ?_ ?_ <;> (repeat' first | trivial | apply ax | apply aH)
   rw [bc]; omega
 . exact Bool.noConfusion (((jr _ _).2 rfl).symm.trans (show dm _ _ = false by assumption))
 . refine af.mk [] ?_ <;> (repeat' first | trivial)
 . first
   | contradiction
   | (exfalso; simp_all; done)
def vg : Sm := fun args σ => match args, σ with
 | [x, y], [] => some ((jd x ∧ jd y) ∧ fH x = fH y ∧ l9 (fH x), .bool true, none)
 | _, _ => none
-- #name same28 truchmanref28.Same
theorem CB : au 7 vg := by
 intro args sg pre x r he hp
 unfold vg at he
 split at he <;> cases he
 obtain ⟨⟨h1, h2⟩, h3, h4⟩ := hp
 unfold jd at h1 h2
 rw [← h3] at h2
 exact (Ks _ h4).args (aE.cons h1 (aE.cons h2 aE.nil))
end Go.Proofs.YtdjolnjlhbfnmaaGreatDoor
namespace Go.Proofs.YtdjolnjlhbfnmaaGreatDoor
open Go Go.VG
set_option maxRecDepth 100000
theorem HI (s : List UInt8) (hs : s.length ≤ 9000) (h0 : ¬ ao s = 0) : OK 5 [.str s] [] (.tuple [.agg [.list true 0 []], .int .i64 (ao s)]) none := by
 refine al (C := cx [(9, kW)]) (aq ⟨lL, trivial⟩) (fn := Tryz.f5) rfl rfl rfl rfl fun hw _ => ?_
 repeat' ((conv => whnf); first | apply aj | apply aO | (apply aw <;> intro h))
 all_goals try conv => whnf
 all_goals try (refine ae.mk ?_; try dsimp only)
 all_goals first
  | exact ⟨by omega, h0⟩
  | exact absurd (by assumption) h0
  | skip
 all_goals
  refine af.mk [] ?_ <;> (repeat' first | trivial)
theorem HJ (s : List UInt8) (hs : s.length ≤ 9000) (h0 : ao s = 0) : OK 5 [.str s] [] (if (aC br (ai 1 s) []).1 ≠ 0 then .tuple [.agg [.list true 0 []], .int .i64 (aC br (ai 1 s) []).1] else .tuple [dV ((aC br (ai 1 s) []).2.map j6), .int .i64 0]) none := by
 refine al (C := cx [(9, kX), (11, kY), (10, yq), (13, yL)]) (aq ⟨lM, mR, Lu, LM, trivial⟩) (fn := Tryz.f5) rfl rfl rfl rfl fun hw _ => ?_
 have hos := cD hs
 have he := fJ (no := 1) (s := s)
 have hbs := vQ hs
 have hcg := xE Nc (ai 1 s) []
 repeat' ((conv => whnf); first | apply aj | apply aO | (apply aw <;> intro h))
 all_goals try conv => whnf
 all_goals try (refine ae.mk ?_; try dsimp only)
 all_goals (try simp only [bW, gO, fT, hcg] at *)
 all_goals first
  | exact ⟨by omega, h0⟩
  | exact hos
  | exact ⟨trivial, by omega, fun t ht => Nat.le_trans (he.2 t ht) hs⟩
  | exact ⟨rz _, by rw [show fH (.agg [.list false 2 ((aC br (ai 1 s) []).2.map dd)]) = (aC br (ai 1 s) []).2 from nT _]; exact hbs⟩
  | (rw [if_neg (fun z => z (by assumption))]
     rw [show fH (.agg [.list false 2 ((aC br (ai 1 s) []).2.map dd)]) = (aC br (ai 1 s) []).2 from nT _]
     refine af.mk [] ?_ <;> (repeat' first | trivial)
     done)
  | (rw [if_pos (by assumption)]
     refine af.mk [] ?_ <;> (repeat' first | trivial)
     done)
-- #name olD otlp.Decode
def yl : Sm := fun args σ => match args, σ with
 | [.str s], [] => some (s.length ≤ 9000, .tuple [dV (da s).2, .int .i64 (da s).1], none)
 | _, _ => none
theorem AA (c : Int) : Wk (.tuple [.agg [.list true 0 []], .int .i64 c]) (.tuple [dV [], .int .i64 c]) := Wk.tuple (aE.cons (Wk.agg (aE.cons (Wk.nil (.inl rfl)) aE.nil)) (aE.refl _))
theorem Cf : au 5 yl := by
 intro args sg pre x r he hp
 unfold yl at he
 split at he <;> cases he
 rename_i s
 by_cases h : ao s = 0
 . have := HJ s hp h
   by_cases h2 : (aC br (ai 1 s) []).1 = 0
   . rw [if_neg (fun z => z h2)] at this
     rw [show da s = _ from (if_neg fun q => q h).trans (if_neg fun q => q h2)]
     exact this
   . rw [if_pos h2] at this
     rw [show da s = _ from (if_neg fun q => q h).trans (if_pos h2)]
     exact this.res (AA _)
 . rw [show da s = (ao s, []) from if_pos h]
   exact (HI s hp h).res (AA _)
end Go.Proofs.YtdjolnjlhbfnmaaGreatDoor
namespace Go.Proofs.YtdjolnjlhbfnmaaGreatDoor
open Go Go.VG
set_option maxRecDepth 100000
theorem BV (a : aG) : ∀ l : List aG, bd (du l a) ≤ bd l + a.nodes
 | [] => by simp [du, bd]
 | b :: r => by
   have ih := BV a r
   rw [du]
   split
   . simp only [bd]; omega
   split
   . simp only [bd]; omega
   . simp only [bd]; omega
mutual
theorem AO : ∀ v : aK, (dH v).nodes ≤ v.nodes
 | .mk k t n b l m => by
   have h1 := AK l
   have h2 := vT m []
   simp only [bd] at h2
   simp only [dH, aK.nodes]
   omega
theorem AK : ∀ l : List aK, dq (lf l) ≤ dq l
 | [] => by simp [lf]
 | v :: r => by
   have h1 := AO v
   have h2 := AK r
   simp only [lf, dq]
   omega
theorem FB : ∀ a : aG, (fv a).nodes ≤ a.nodes
 | .mk k v => by
   have h1 := AO v
   simp only [fv, aG.nodes]
   exact h1
theorem vT : ∀ (l acc : List aG), bd (bM l acc) ≤ bd l + bd acc
 | [], acc => by simp [bM, bd]
 | a :: r, acc => by
   have h1 := FB a
   have h2 := vT r (du acc (fv a))
   have h3 := BV (fv a) acc
   simp only [bM, bd]
   omega
end
theorem tf {m : List aG} {n : Nat} (h : bd m < n) : bd (bM m []) < n := by
 have := vT m []
 simp only [bd] at this
 omega
theorem FG {s : Sp} (h : ko s) : ko (kr s) := by
 refine ⟨tf h.a, fun e he => ?_, fun e he => ?_, ?_, ?_⟩
 . obtain ⟨x, hx, rfl⟩ := List.mem_map.1 he
   exact tf (h.e x hx)
 . obtain ⟨x, hx, rfl⟩ := List.mem_map.1 he
   exact tf (h.k x hx)
 . show (s.aX.map p3).length ≤ _
   rw [List.length_map]; exact h.le
 . show (s.lks.map te).length ≤ _
   rw [List.length_map]; exact h.lk
theorem FH {s : Sc} (h : j5 s) : j5 (kt s) := by
 refine ⟨?_, fun e he => ?_⟩
 . show (s.spans.map kr).length ≤ _
   rw [List.length_map]; exact h.1
 . obtain ⟨x, hx, rfl⟩ := List.mem_map.1 he
   exact FG (h.2 x hx)
theorem FF {s : Rs} (h : nF s) : nF (j6 s) := by
 refine ⟨tf h.a, ?_, fun e he => ?_⟩
 . show (s.scopes.map kt).length ≤ _
   rw [List.length_map]; exact h.l
 . obtain ⟨x, hx, rfl⟩ := List.mem_map.1 he
   exact FH (h.s x hx)
theorem DJ {s : List UInt8} (h : s.length ≤ 9000) : l9 (da s).2 := by
 have h1 := vQ h
 have h0 : l9 [] := ⟨by decide, fun _ q => (nomatch q)⟩
 unfold da
 split
 . exact h0
 split
 . exact h0
 . refine ⟨?_, fun e he => ?_⟩
   . show (((aC br (ai 1 s) []).2.map j6)).length ≤ _
     rw [List.length_map]; exact h1.1
   . obtain ⟨x, hx, rfl⟩ := List.mem_map.1 he
     exact FF (h1.2 x hx)
def yn (M : List V → List UInt8) : Sm := fun args σ => match args, σ with
 | [a], [] => some (a = nM, .str (M (gY 1)), none)
 | _, _ => none
theorem Lr {M : List V → List UInt8} (hM : ∀ P, M P = bf P) : au 8 (yn M) := by
 intro args sg pre x r he hp
 unfold yn at he
 split at he <;> cases he
 subst hp
 exact HK hM (by rw [p_T]; exact n_T) ok_T (by rw [p_T]; decide)
def ym (D : List UInt8 → Int × List Rs) : Sm := fun args σ => match args, σ with
 | [.str s], [] => some (s.length ≤ 9000, .tuple [dV (D s).2, .int .i64 (D s).1], none)
 | _, _ => none
theorem Lq {D : List UInt8 → Int × List Rs} (hD : ∀ s, D s = da s) : au 5 (ym D) := by
 intro args sg pre x r he hp
 unfold ym at he
 split at he <;> cases he
 rw [hD]
 exact Cf [.str _] [] _ _ _ rfl hp
abbrev btL : List Rs := [⟨[.mk [97] vz], [⟨dE, [], [iz]⟩, ⟨[], [], []⟩]⟩]
theorem vP : fH nM = btL := rfl
theorem zW {x y : V} {sz : Nat} (h : Wk x y) : Wk (.list true sz [x]) (.list false sz [y]) := Wk.list (.inl rfl) rfl fun i a b ha hb => by
 cases i with
 | zero => cases ha; cases hb; exact h
 | succ i => simp at ha
theorem wk_l2 {x y u v : V} {sz : Nat} (h : Wk x y) (k : Wk u v) : Wk (.list true sz [x, u]) (.list false sz [y, v]) := Wk.list (.inl rfl) rfl fun i a b ha hb => by
 match i with
 | 0 => cases ha; cases hb; exact h
 | 1 => cases ha; cases hb; exact k
 | i + 2 => simp at ha
theorem OX : Wk qA (dk iz) := by
 refine Wk.agg ?_
 repeat' first
  | exact Wk.refl _
  | exact aE.nil
  | exact Wk.nil (.inl rfl)
  | refine aE.cons ?_ ?_
theorem Fs : Wk atA (ea (.mk [97] vz)) := by
 have e1 : dK [] = [] := by simp [dK]
 have e2 : aV [] = [] := by simp [aV]
 show Wk atA (.agg [.str [97], .int .u8 0, .str [], .int .i64 0, .int .u64 0, .list false 6 (dK []), .list false 7 (aV [])])
 rw [e1, e2]
 refine Wk.agg ?_
 repeat' first
  | exact Wk.refl _
  | exact aE.nil
  | exact Wk.nil (.inl rfl)
  | refine aE.cons ?_ ?_
theorem Fz : jd nM := by
 unfold jd
 rw [vP]
 refine Wk.agg (aE.cons (zW (Wk.agg (aE.cons ?_ (aE.cons (wk_l2 (Wk.agg (aE.cons (Wk.refl _) (aE.cons (Wk.refl _) (aE.cons (zW OX) aE.nil)))) (Wk.agg (aE.cons (Wk.refl _) (aE.cons (Wk.refl _) (aE.cons (Wk.nil (.inl rfl)) aE.nil))))) aE.nil)))) aE.nil)
 rw [gP]
 exact zW Fs
theorem KG {M : List V → List UInt8} (hM : ∀ P, M P = bf P) {D : List UInt8 → Int × List Rs} (hD : ∀ s, D s = da s) : OK 4 [] [] (.bool true) none := by
 refine al (C := cx [(5, ym D), (8, yn M), (7, vg)])
  (aq ⟨Lq hD, Lr hM, CB, trivial⟩) (fn := Tryz.f4) rfl rfl rfl rfl fun hw hs => ?_
 have h1 := (hD [10, 0]).trans r_1
 have h2 := (hD []).trans r_2
 have h3 := (hD [10, 1]).trans r_3
 have h4 : D (M (gY 1)) = (0, btL) := (hD _).trans ((congrArg da ((hM _).trans p_T)).trans r_T)
 have h5 : (M (gY 1)).length ≤ 9000 := by rw [hM, p_T]; decide
 have hok : l9 btL := by have h := DJ (s := bT) (by decide); rw [r_T] at h; exact h
 have e1 : (((D [10, 0]).2.map dd).length : Int) = 1 := by rw [h1]; rfl
 have e2 : (((D []).2.map dd).length : Int) = 0 := by rw [h2]; rfl
 have z1 : (D [10, 0]).1 = 0 := by rw [h1]
 have z2 : (D []).1 = 0 := by rw [h2]
 have z3 : (D [10, 1]).1 = 1 := by rw [h3]
 have z4 : (D (M (gY 1))).1 = 0 := by rw [h4]
 have hS : (jd nM ∧ jd (dV (D (M (gY 1))).2)) ∧ fH nM = fH (dV (D (M (gY 1))).2) ∧ l9 (fH nM) := by
  rw [h4]
  exact ⟨⟨Fz, rz _⟩, by rw [nT]; exact vP, by rw [vP]; exact hok⟩
 clear h1 h2 h3 h4
 repeat' ((conv => whnf); first | apply aj | (apply aw <;> intro h))
 all_goals try conv => whnf
 all_goals try (refine ae.mk ?_; try dsimp only)
 all_goals first
  | decide
  | exact h5
  | rfl
  | exact hS
  | exact absurd z1 (by assumption)
  | exact absurd z2 (by assumption)
  | exact absurd z3 (by assumption)
  | exact absurd z4 (by assumption)
  | exact absurd e1 (by assumption)
  | exact absurd e2 (by assumption)
  | exact absurd trivial (by assumption)
  | skip
 all_goals
  refine af.mk [] ?_ <;> (repeat' first | trivial)
theorem KH  (hp : True) : OK 4 ([]) ([]) (.bool true) (none) := by
 exact KG (M := bf) (fun _ => rfl) (D := da) (fun _ => rfl)
def zA : Sm := fun args σ => match args, σ with
 | [], [] => some (True, .bool true, none)
 | _, _ => none
theorem Mj : au 4 zA := by
 intro args sg pre x r he hp
 unfold zA at he
 split at he <;> cases he
 . exact KH (hp := hp) ..
theorem Ov (s : List UInt8) (h : s.length ≤ 9000) : (jd (dV (da s).2) ∧ jd (dV (da s).2)) ∧ fH (dV (da s).2) = fH (dV (da s).2) ∧ l9 (fH (dV (da s).2)) :=
 ⟨⟨rz _, rz _⟩, rfl, by rw [nT]; exact DJ h⟩
theorem Hn (s : List UInt8) (hp : True) : OK 3 ([.str s]) ([]) (.bool true) (none) := by
 refine al (C := cx [(4, zA), (5, yl), (6, zg), (7, vg)]) (aq ⟨Mj, Cf, k_rBt, CB, trivial⟩) (fn := Tryz.f3) rfl rfl rfl rfl fun hw hs => ?_
 repeat' ((conv => whnf); first | apply aj | (apply aw <;> intro h))
 all_goals try conv => whnf
 all_goals try (refine ae.mk ?_; try dsimp only)
 . refine af.mk [] ?_ <;> (repeat' first | trivial)
 . omega
 . omega
 . exact Ov s (by omega)
 . refine af.mk [] ?_ <;> (repeat' first | trivial)
 . exact absurd rfl (by assumption)
end Go.Proofs.YtdjolnjlhbfnmaaGreatDoor
