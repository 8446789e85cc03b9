/-
  A part of the proof.
-/
import Derived.Test.YtdjolnjlhbfnmaaGreatDoorMXb
import Derived.Test.YtdjolnjlhbfnmaaGreatDoorMWh
import Derived.Test.YtdjolnjlhbfnmaaGreatDoorBt
set_option linter.unusedSimpArgs false
set_option linter.unusedVariables false
set_option maxHeartbeats 4000000
namespace Go.Proofs.YtdjolnjlhbfnmaaGreatDoor
open Go Go.VG
set_option maxRecDepth 100000
def xZ (M : List V → List UInt8) : Sm := fun args σ => match args, σ with
 | [.ptr 0 0], [.cells [.buf 1, .int .i64 n], .buf 1 q l] => some (n = (bf l).length ∧ (∀ v ∈ l, cQ 100 v) ∧ l.length ≤ 1000000 ∧ (bf l).length ≤ 100000000, .str (M l), some [.cells [.buf 1, .int .i64 n], .buf 1 q l])
 | [.nilptr], [] => some (True, .str [], none)
 | _, _ => none
theorem Ha : OK 23 [.nilptr] [] (.str []) none := by
 refine al (C := cx []) (aq trivial) (fn := Tryz.f23) rfl rfl rfl rfl fun hw _ => ?_
 all_goals try conv => whnf
 all_goals try (refine ae.mk ?_; try dsimp only)
 refine af.mk [] ?_ <;> (repeat' first | trivial)
theorem L7 {M : List V → List UInt8} (hM : ∀ l, M l = bf l) : au 23 (xZ M) := by
 intro args sg pre x r he hp
 unfold xZ at he
 split at he <;> cases he
 . rw [hM]
   obtain ⟨rfl, h1, h2, h3⟩ := hp
   exact H9 100 _ _ h1 h2 h3
 . exact Ha
theorem uo (fs : List Pf) : bf (bJ fs) = dp fs := by
 induction fs with
 | nil => rw [show bJ [] = [] from rfl, jm]; rfl
 | cons f fs ih => rw [show bJ (f :: fs) = .iface 243 (av f) :: bJ fs from rfl, oG, ih, xu]; rfl
theorem uh (d : Nat) {fs : List Pf} (h : ∀ f ∈ fs, f.text.length ≤ 1000000 ∧ (f.wi = 0 ∨ f.wi = 2)) : ∀ v ∈ bJ fs, cQ d v := fun v hv => by
 obtain ⟨f, hf, rfl⟩ := List.mem_map.1 hv
 exact .fld d f (h f hf).1 (h f hf).2
end Go.Proofs.YtdjolnjlhbfnmaaGreatDoor
namespace Go.Proofs.YtdjolnjlhbfnmaaGreatDoor
open Go Go.VG
set_option maxRecDepth 100000
abbrev mAn : Int := (0 + (dp (dt 1 [97])).length) + jV 2 0
abbrev oz : List V := ([] ++ bJ (dt 1 [97])) ++ dP 2 [] 0
def jh : Nat → Int
 | 0 => 0
 | _ + 1 => 0 + jW 1 mAn
def jg : Nat → List V
 | 0 => []
 | _ + 1 => [] ++ dQ 1 oz mAn
abbrev dE : List UInt8 := [108, 105, 98]
abbrev jR (t : List UInt8) : Int := (0 + (dp (dt 1 t)).length) + (dp (dt 2 [])).length
abbrev lQ (t : List UInt8) : List V := ([] ++ bJ (dt 1 t)) ++ bJ (dt 2 [])
abbrev oB : Int := (0 + (dp (dt 2 [])).length) + (dp (fe 3 0 0)).length
abbrev mZL : List V := ([] ++ bJ (dt 2 [])) ++ bJ (fe 3 0 0)
abbrev nx : List UInt8 := [1, 0, 0, 0, 0, 0, 0, 0, 0, 0, 0, 0, 0, 0, 0, 0]
abbrev mO : List UInt8 := [2, 0, 0, 0, 0, 0, 0, 0]
abbrev mS7 : Int := (((((((0 + (dp (fK ⟨1, 2, 0, nx⟩)).length) + (dp (fK ⟨2, 2, 0, mO⟩)).length) + (dp (dt 3 [])).length) + (dp (dt 5 [])).length) + (dp (fe 6 0 0)).length) + (dp (fe 7 1 0)).length) + (dp (fe 8 1 0)).length)
abbrev oA : Int := mS7 + jV 15 oB
abbrev xf : List V := ((((((([] ++ bJ (fK ⟨1, 2, 0, nx⟩)) ++ bJ (fK ⟨2, 2, 0, mO⟩)) ++ bJ (dt 3 [])) ++ bJ (dt 5 [])) ++ bJ (fe 6 0 0)) ++ bJ (fe 7 1 0)) ++ bJ (fe 8 1 0))
abbrev lR : List V := xf ++ dP 15 mZL oB
def kP : Nat → Int
 | 0 => 0 + jV 1 (jR dE)
 | _ + 1 => (0 + jV 1 (jR dE)) + jW 2 oA
def jQ : Nat → List V
 | 0 => [] ++ dP 1 (lQ dE) (jR dE)
 | _ + 1 => ([] ++ dP 1 (lQ dE) (jR dE)) ++ dQ 2 lR oA
abbrev n5 : Int := 0 + jV 1 (jR [])
abbrev mZ : List V := [] ++ dP 1 (lQ []) (jR [])
def n6 : Nat → Int
 | 0 => 0 + jV 1 (jh 1)
 | 1 => (0 + jV 1 (jh 1)) + jW 2 (kP 1)
 | _ + 2 => ((0 + jV 1 (jh 1)) + jW 2 (kP 1)) + jW 2 n5
def kQ : Nat → List V
 | 0 => [] ++ dP 1 (jg 1) (jh 1)
 | 1 => ([] ++ dP 1 (jg 1) (jh 1)) ++ dQ 2 (jQ 1) (kP 1)
 | _ + 2 => (([] ++ dP 1 (jg 1) (jh 1)) ++ dQ 2 (jQ 1) (kP 1)) ++ dQ 2 mZ n5
def mTn : Nat → Int
 | 0 => 0
 | _ + 1 => 0 + jW 1 (n6 2)
def gY : Nat → List V
 | 0 => []
 | _ + 1 => [] ++ dQ 1 (kQ 2) (n6 2)
abbrev atA : V := .agg [.str [97], .int .u8 0, .str [], .int .i64 0, .int .u64 0, .list true 0 [], .list true 0 []]
theorem IW  (hp : True) : OK 71 ([.agg [.int .u8 0, .str [], .int .i64 0, .int .u64 0, .list true 0 [], .list true 0 []]]) ([]) (.ptr 0 0) (some (cI 0 [])) := by
 refine al (C := cx [(20, jZ)]) (aq ⟨lD, trivial⟩) (fn := Tryz.f71) rfl rfl rfl rfl fun hw hs => ?_
 repeat' ((conv => whnf); apply aj)
 all_goals try conv => whnf
 all_goals try (refine ae.mk ?_; try dsimp only)
 . refine af.mk [.swap 0 1, .swap 1 2] ?_ <;> (repeat' first | trivial)
def uW : Sm := fun args σ => match args, σ with
 | [.agg [.int .u8 0, .str [], .int .i64 0, .int .u64 0, .list true 0 [], .list true 0 []]], [] => some (True, .ptr 0 0, some (cI 0 []))
 | _, _ => none
theorem Cm : au 71 uW := by
 intro args sg pre x r he hp
 unfold uW at he
 split at he <;> cases he
 . exact IW (hp := hp) ..
theorem IL  (hp : True) : OK 46 ([.ptr 0 0, .int .i64 1, .list true 7 [.agg [.str [97], .int .u8 0, .str [], .int .i64 0, .int .u64 0, .list true 0 [], .list true 0 []]]]) ([.cells [.buf 1, .int .i64 0], .buf 1 0 []]) (.tuple []) (some [.cells [.buf 1, .int .i64 (jh 1)], .buf 1 0 (jg 1)]) := by
 refine al (C := cx [(20, jZ), (70, nn), (71, uW), (47, nj), (21, nk)]) (aq ⟨lD, pU, Cm, pS, pT, trivial⟩) (fn := Tryz.f46) rfl rfl rfl rfl fun hw hs => ?_
 all_goals try conv => whnf
 all_goals try (refine ae.mk ?_; try dsimp only)
 refine aT.mk Nat (fun i => i ≤ 1) (fun i => ⟨30, [(0, .ptr 0 0), (1, .int .i64 1), (9, .list true 7 [atA]), (10, .int .i64 1), (11, .int .i64 i)], [.cells [.buf 1, .int .i64 (jh i)], .buf 1 0 (jg i)], [1, 2, 3, 4, 5, 6, 7, 8, 9]⟩) (fun i => 1 - i) [] 0 (Nat.zero_le _) ?_ (fun i hi _ _ => ?_)
 . refine Go.VG.Sub.mk rfl ?_ ?_ ?_ ?_ <;> (repeat' first | trivial)
 have hi : i = 0 ∨ i = 1 := by omega
 rcases hi with rfl | rfl
 . repeat' ((conv => whnf); first | apply aj | with_reducible refine ez.mk _ rfl ?_)
   all_goals try conv => whnf
   all_goals try (refine ae.mk ?_; try dsimp only)
   . decide
   . exact ⟨by decide, by decide, by decide⟩
   . exact ⟨by decide +kernel, by decide, by decide +kernel⟩
   . exact ⟨by decide, by decide, by decide +kernel⟩
   . refine ⟨[], 1, Nat.le_refl 1, ?_, by omega⟩
     refine Go.VG.Sub.mk rfl ?_ ?_ ?_ ?_ <;> (repeat' first | trivial)
 . all_goals try conv => whnf
   all_goals try (refine ae.mk ?_; try dsimp only)
   refine af.mk [] ?_ <;> (repeat' first | trivial)
theorem IM (n : Int) (L : List V) (no : Int) (hp : True) : OK 46 ([.ptr 0 0, .int .i64 no, .list true 0 []]) ([.cells [.buf 1, .int .i64 n], .buf 1 0 L]) (.tuple []) (some (cI n L)) := by
 refine al (C := cx [(20, jZ), (70, nn), (71, uW), (47, nj), (21, nk)]) (aq ⟨lD, pU, Cm, pS, pT, trivial⟩) (fn := Tryz.f46) rfl rfl rfl rfl fun hw hs => ?_
 all_goals try conv => whnf
 all_goals try (refine ae.mk ?_; try dsimp only)
 refine aT.mk Nat (fun i => i = 0) (fun i => ⟨30, [(0, .ptr 0 0), (1, .int .i64 no), (9, .list true 0 []), (10, .int .i64 0), (11, .int .i64 i)], [.cells [.buf 1, .int .i64 n], .buf 1 0 L], []⟩) (fun i => 0) [] 0 rfl ?_ (fun i hi _ _ => ?_)
 . refine Go.VG.Sub.mk rfl ?_ ?_ ?_ ?_ <;> (repeat' first | trivial)
 subst hi
 all_goals try conv => whnf
 all_goals try (refine ae.mk ?_; try dsimp only)
 refine af.mk [.nw] ?_ <;> (repeat' first | trivial)
def uV : Sm := fun args σ => match args, σ with
 | [.ptr 0 0, .int .i64 1, .list true 7 [.agg [.str [97], .int .u8 0, .str [], .int .i64 0, .int .u64 0, .list true 0 [], .list true 0 []]]], [.cells [.buf 1, .int .i64 0], .buf 1 0 []] => some (True, .tuple [], some [.cells [.buf 1, .int .i64 (jh 1)], .buf 1 0 (jg 1)])
 | [.ptr 0 0, .int .i64 no, .list true 0 []], [.cells [.buf 1, .int .i64 n], .buf 1 0 L] => some (True, .tuple [], some (cI n L))
 | _, _ => none
theorem Cl : au 46 uV := by
 intro args sg pre x r he hp
 unfold uV at he
 split at he <;> cases he
 . exact IL (hp := hp) ..
 . exact IM (hp := hp) ..
theorem Ip  (hp : True) : OK 110 ([.int .i64 0]) ([]) (.int .u64 0) (none) := by
 refine al (C := cx []) (aq trivial) (fn := Tryz.f110) rfl rfl rfl rfl fun hw hs => ?_
 all_goals try conv => whnf
 all_goals try (refine ae.mk ?_; try dsimp only)
 refine af.mk [] ?_ <;> (repeat' first | trivial)
def uT : Sm := fun args σ => match args, σ with
 | [.int .i64 0], [] => some (True, .int .u64 0, none)
 | _, _ => none
theorem Ci : au 110 uT := by
 intro args sg pre x r he hp
 unfold uT at he
 split at he <;> cases he
 . exact Ip (hp := hp) ..
theorem IC  (hp : True) : OK 113 ([.agg [.int .i64 0, .str []]]) ([]) (.ptr 0 0) (some (cI oB mZL)) := by
 refine al (C := cx [(20, jZ), (70, nn), (110, uT), (109, uN)]) (aq ⟨lD, pU, Ci, Cb, trivial⟩) (fn := Tryz.f113) rfl rfl rfl rfl fun hw hs => ?_
 repeat' ((conv => whnf); apply aj)
 all_goals try conv => whnf
 all_goals try (refine ae.mk ?_; try dsimp only)
 . exact ⟨by decide, by decide, by decide⟩
 . exact ⟨by decide +kernel, by decide, by decide⟩
 . refine af.mk [.swap 0 1, .swap 1 2] ?_ <;> (repeat' first | trivial)
def yI : Sm := fun args σ => match args, σ with
 | [.agg [.int .i64 0, .str []]], [] => some (True, .ptr 0 0, some (cI oB mZL))
 | _, _ => none
theorem LL : au 113 yI := by
 intro args sg pre x r he hp
 unfold yI at he
 split at he <;> cases he
 . exact IC (hp := hp) ..
abbrev zD : List V := (.int .u8 1 :: .int .u8 0 :: .int .u8 0 :: .int .u8 0 :: .int .u8 0 :: .int .u8 0 :: .int .u8 0 :: .int .u8 0 :: .int .u8 0 :: .int .u8 0 :: .int .u8 0 :: .int .u8 0 :: .int .u8 0 :: .int .u8 0 :: .int .u8 0 :: .int .u8 0 :: .int .u8 2 :: .int .u8 0 :: .int .u8 0 :: .int .u8 0 :: .int .u8 0 :: .int .u8 0 :: .int .u8 0 :: .int .u8 0 :: .int .u8 0 :: .int .u8 0 :: .int .u8 0 :: .int .u8 0 :: .int .u8 0 :: .int .u8 0 :: .int .u8 0 :: .int .u8 0 :: .str [] :: .str [] :: .int .i64 0 :: .int .u64 0 :: .int .u64 0 :: .list true 0 [] :: .list true 0 [] :: .list true 0 [] :: .int .i64 0 :: .str [] :: [])
abbrev qA : V := .agg zD
abbrev scA : V := .agg [.str dE, .str [], .list true 42 [qA]]
abbrev scB : V := .agg [.str [], .str [], .list true 0 []]
abbrev rsA : V := .agg [.list true 7 [atA], .list true 3 [scA, scB]]
theorem Io : OK 73 [qA] [] (.ptr 0 0) (some (cI oA lR)) := by
 refine al (C := nR [(20, jZ), (107, uP), (70, nn), (110, uT), (109, uN), (46, uV), (113, yI), (47, nj)] [(2, [.fbx 0])])
  (aq ⟨lD, Cd, pU, Ci, Cb, Cl, LL, pS, trivial⟩) (fn := Tryz.f73) rfl rfl rfl rfl fun hw _ => ?_
 repeat' ((conv => whnf); apply aj)
 all_goals try conv => whnf
 all_goals try (refine ae.mk ?_; try dsimp only)
 refine ⟨nx, rfl, ?_⟩
 repeat' ((conv => whnf); apply aj)
 all_goals try conv => whnf
 all_goals try (refine ae.mk ?_; try dsimp only)
 all_goals first
  | exact ⟨by decide, by decide, by decide⟩
  | exact ⟨by decide, by decide, by decide +kernel⟩
  | exact ⟨by decide +kernel, by decide, by decide⟩
  | exact ⟨by decide +kernel, by decide +kernel, by decide +kernel⟩
  | skip
 refine ⟨mO, rfl, ?_⟩
 repeat' ((conv => whnf); apply aj)
 all_goals try conv => whnf
 all_goals try (refine ae.mk ?_; try dsimp only)
 all_goals first
  | exact ⟨by decide, by decide, by decide⟩
  | exact ⟨by decide, by decide, by decide +kernel⟩
  | exact ⟨by decide +kernel, by decide, by decide⟩
  | exact ⟨by decide +kernel, by decide +kernel, by decide +kernel⟩
  | skip
 refine aT.mk Nat (fun i => i = 0) (fun i => ⟨83, [(1, .box zD 0), (3, .ptr 1 0), (54, .list true 0 []), (55, .int .i64 0), (56, .int .i64 i)], [.dead, .cells [.buf 2, .int .i64 mS7], .buf 1 0 xf], [1, 2]⟩) (fun i => 0) [] 0 rfl ?_ (fun i hi _ _ => ?_)
 . refine Go.VG.Sub.mk rfl ?_ ?_ ?_ ?_ <;> (repeat' first | trivial)
 subst hi
 all_goals try conv => whnf
 all_goals try (refine ae.mk ?_; try dsimp only)
 refine aT.mk Nat (fun i => i = 0) (fun i => ⟨83, [(1, .box zD 0), (3, .ptr 1 0), (66, .list true 0 []), (67, .int .i64 0), (68, .int .i64 i)], [.dead, .cells [.buf 2, .int .i64 mS7], .buf 1 0 xf], [1, 2]⟩) (fun i => 0) [] 0 rfl ?_ (fun i hi _ _ => ?_)
 . refine Go.VG.Sub.mk rfl ?_ ?_ ?_ ?_ <;> (repeat' first | trivial)
 subst hi
 repeat' ((conv => whnf); apply aj)
 all_goals try conv => whnf
 all_goals try (refine ae.mk ?_; try dsimp only)
 all_goals first
  | exact ⟨by decide, by decide, by decide⟩
  | exact ⟨by decide, by decide, by decide +kernel⟩
  | exact ⟨by decide +kernel, by decide, by decide⟩
  | exact ⟨by decide +kernel, by decide +kernel, by decide +kernel⟩
  | skip
 refine af.mk [.swap 0 1, .swap 1 2] ?_ <;> (repeat' first | trivial)
def yE : Sm := fun args σ => match args, σ with
 | [a], [] => some (a = qA, .ptr 0 0, some (cI oA lR))
 | _, _ => none
-- #name osMsg ospan.Message
theorem LH : au 73 yE := by
 intro args sg pre x r he hp
 unfold yE at he
 split at he <;> cases he
 subst hp
 exact Io
theorem HT : OK 48 [scA] [] (.ptr 0 0) (some (cI (kP 1) (jQ 1))) := by
 refine al (C := cx [(20, jZ), (70, nn), (47, nj), (73, yE), (21, nk)])
  (aq ⟨lD, pU, pS, LH, pT, trivial⟩) (fn := Tryz.f48) rfl rfl rfl rfl fun hw _ => ?_
 repeat' ((conv => whnf); apply aj)
 all_goals try conv => whnf
 all_goals try (refine ae.mk ?_; try dsimp only)
 all_goals first
  | exact ⟨by decide, by decide, by decide⟩
  | exact ⟨by decide, by decide, by decide +kernel⟩
  | exact ⟨by decide +kernel, by decide, by decide⟩
  | exact ⟨by decide +kernel, by decide +kernel, by decide +kernel⟩
  | skip
 refine aT.mk Nat (fun i => i ≤ 1) (fun i => ⟨33, [(4, .ptr 3 0), (21, .list true 42 [qA]), (22, .int .i64 1), (23, .int .i64 i)], [.cells [.str dE, .str [], .list true 42 [qA]], .dead, .dead, .cells [.buf 4, .int .i64 (kP i)], .buf 1 0 (jQ i)], [0, 1, 2, 3, 4, 5, 6, 7, 8, 9]⟩) (fun i => 1 - i) [] 0 (Nat.zero_le _) ?_ (fun i hi _ _ => ?_)
 . refine Go.VG.Sub.mk rfl ?_ ?_ ?_ ?_ <;> (repeat' first | trivial)
 have hi : i = 0 ∨ i = 1 := by omega
 rcases hi with rfl | rfl
 . repeat' ((conv => whnf); first | apply aj | with_reducible refine ez.mk _ rfl ?_)
   all_goals try conv => whnf
   all_goals try (refine ae.mk ?_; try dsimp only)
   . decide
   . all_goals first
    | exact ⟨by decide, by decide, by decide⟩
    | exact ⟨by decide, by decide, by decide +kernel⟩
    | exact ⟨by decide +kernel, by decide, by decide⟩
    | exact ⟨by decide +kernel, by decide +kernel, by decide +kernel⟩
    | skip
   . refine ⟨[], 1, Nat.le_refl 1, ?_, by omega⟩
     refine Go.VG.Sub.mk rfl ?_ ?_ ?_ ?_ <;> (repeat' first | trivial)
 . all_goals try conv => whnf
   all_goals try (refine ae.mk ?_; try dsimp only)
   refine af.mk [.swap 0 3, .swap 1 4] ?_ <;> (repeat' first | trivial)
theorem HU : OK 48 [scB] [] (.ptr 0 0) (some (cI n5 mZ)) := by
 refine al (C := cx [(20, jZ), (70, nn), (47, nj)])
  (aq ⟨lD, pU, pS, trivial⟩) (fn := Tryz.f48) rfl rfl rfl rfl fun hw _ => ?_
 repeat' ((conv => whnf); apply aj)
 all_goals try conv => whnf
 all_goals try (refine ae.mk ?_; try dsimp only)
 all_goals first
  | exact ⟨by decide, by decide, by decide⟩
  | exact ⟨by decide, by decide, by decide +kernel⟩
  | exact ⟨by decide +kernel, by decide, by decide⟩
  | exact ⟨by decide +kernel, by decide +kernel, by decide +kernel⟩
  | skip
 refine aT.mk Nat (fun i => i = 0) (fun i => ⟨33, [(4, .ptr 3 0), (21, .list true 0 []), (22, .int .i64 0), (23, .int .i64 i)], [.cells [.str [], .str [], .list true 0 []], .dead, .dead, .cells [.buf 4, .int .i64 n5], .buf 1 0 mZ], [0, 1, 2, 3, 4, 5, 6, 7, 8, 9]⟩) (fun i => 0) [] 0 rfl ?_ (fun i hi _ _ => ?_)
 . refine Go.VG.Sub.mk rfl ?_ ?_ ?_ ?_ <;> (repeat' first | trivial)
 subst hi
 all_goals try conv => whnf
 all_goals try (refine ae.mk ?_; try dsimp only)
 refine af.mk [.swap 0 3, .swap 1 4] ?_ <;> (repeat' first | trivial)
-- #name olScope otlp.scope
def yv : Sm := fun args σ => match args, σ with
 | [.agg [.str [], .str [], .list true 0 []]], [] => some (True, .ptr 0 0, some (cI n5 mZ))
 | [a], [] => some (a = scA, .ptr 0 0, some (cI (kP 1) (jQ 1)))
 | _, _ => none
theorem Lw : au 48 yv := by
 intro args sg pre x r he hp
 unfold yv at he
 split at he <;> cases he
 . exact HU
 . subst hp
   exact HT
theorem HL : OK 22 [rsA] [] (.ptr 0 0) (some (cI (n6 2) (kQ 2))) := by
 refine al (C := cx [(20, jZ), (46, uV), (47, nj), (48, yv), (21, nk)])
  (aq ⟨lD, Cl, pS, Lw, pT, trivial⟩) (fn := Tryz.f22) rfl rfl rfl rfl fun hw _ => ?_
 repeat' ((conv => whnf); apply aj)
 all_goals try conv => whnf
 all_goals try (refine ae.mk ?_; try dsimp only)
 all_goals first
  | exact ⟨by decide, by decide, by decide⟩
  | exact ⟨by decide, by decide, by decide +kernel⟩
  | exact ⟨by decide +kernel, by decide, by decide⟩
  | exact ⟨by decide +kernel, by decide +kernel, by decide +kernel⟩
  | skip
 refine aT.mk Nat (fun i => i ≤ 2) (fun i => ⟨29, [(4, .ptr 3 0), (17, .list true 3 [scA, scB]), (18, .int .i64 2), (19, .int .i64 i)], [.cells [.list true 7 [atA], .list true 3 [scA, scB]], .dead, .dead, .cells [.buf 4, .int .i64 (n6 i)], .buf 1 0 (kQ i)], [0, 1, 2, 3, 4, 5, 6, 7, 8, 9]⟩) (fun i => 2 - i) [] 0 (Nat.zero_le _) ?_ (fun i hi _ _ => ?_)
 . refine Go.VG.Sub.mk rfl ?_ ?_ ?_ ?_ <;> (repeat' first | trivial)
 have hi : i = 0 ∨ i = 1 ∨ i = 2 := by omega
 rcases hi with rfl | rfl | rfl
 . repeat' ((conv => whnf); first | apply aj | with_reducible refine ez.mk _ rfl ?_)
   all_goals try conv => whnf
   all_goals try (refine ae.mk ?_; try dsimp only)
   . decide
   . all_goals first
    | exact ⟨by decide, by decide, by decide⟩
    | exact ⟨by decide, by decide, by decide +kernel⟩
    | exact ⟨by decide +kernel, by decide, by decide⟩
    | exact ⟨by decide +kernel, by decide +kernel, by decide +kernel⟩
    | skip
   . refine ⟨[], 1, by decide, ?_, by omega⟩
     refine Go.VG.Sub.mk rfl ?_ ?_ ?_ ?_ <;> (repeat' first | trivial)
 . repeat' ((conv => whnf); first | apply aj | with_reducible refine ez.mk _ rfl ?_)
   all_goals try conv => whnf
   all_goals try (refine ae.mk ?_; try dsimp only)
   . decide
   . all_goals first
    | exact ⟨by decide, by decide, by decide⟩
    | exact ⟨by decide, by decide, by decide +kernel⟩
    | exact ⟨by decide +kernel, by decide, by decide⟩
    | exact ⟨by decide +kernel, by decide +kernel, by decide +kernel⟩
    | skip
   . refine ⟨[], 2, by decide, ?_, by omega⟩
     refine Go.VG.Sub.mk rfl ?_ ?_ ?_ ?_ <;> (repeat' first | trivial)
 . all_goals try conv => whnf
   all_goals try (refine ae.mk ?_; try dsimp only)
   refine af.mk [.swap 0 3, .swap 1 4] ?_ <;> (repeat' first | trivial)
-- #name olRes otlp.resource
def yo : Sm := fun args σ => match args, σ with
 | [a], [] => some (a = rsA, .ptr 0 0, some (cI (n6 2) (kQ 2)))
 | _, _ => none
theorem Ls : au 22 yo := by
 intro args sg pre x r he hp
 unfold yo at he
 split at he <;> cases he
 subst hp
 exact HL
abbrev nM : V := .agg [.list true 2 [rsA]]
theorem HK {M : List V → List UInt8} (hM : ∀ P, M P = bf P) (hT : (mTn 1 : Int) = ((bf (gY 1)).length : Int)) (hok : ∀ v ∈ gY 1, cQ 100 v) (hlen : (bf (gY 1)).length ≤ 100000000) : OK 8 [nM] [] (.str (M (gY 1))) none := by
 refine al (C := cx [(20, jZ), (22, yo), (21, nk), (23, xZ M)])
  (aq ⟨lD, Ls, pT, L7 hM, trivial⟩) (fn := Tryz.f8) rfl rfl rfl rfl fun hw _ => ?_
 repeat' ((conv => whnf); apply aj)
 all_goals try conv => whnf
 all_goals try (refine ae.mk ?_; try dsimp only)
 refine aT.mk Nat (fun i => i ≤ 1) (fun i => ⟨21, [(3, .ptr 1 0), (8, .list true 2 [rsA]), (9, .int .i64 1), (10, .int .i64 i)], [.cells [.list true 2 [rsA]], .cells [.buf 2, .int .i64 (mTn i)], .buf 1 0 (gY i)], [0, 1, 2, 3, 4, 5, 6, 7, 8, 9]⟩) (fun i => 1 - i) [] 0 (Nat.zero_le _) ?_ (fun i hi _ _ => ?_)
 . refine Go.VG.Sub.mk rfl ?_ ?_ ?_ ?_ <;> (repeat' first | trivial)
 have hi : i = 0 ∨ i = 1 := by omega
 rcases hi with rfl | rfl
 . repeat' ((conv => whnf); first | apply aj | with_reducible refine ez.mk _ rfl ?_)
   all_goals try conv => whnf
   all_goals try (refine ae.mk ?_; try dsimp only)
   . decide
   . all_goals first
    | exact ⟨by decide, by decide, by decide⟩
    | exact ⟨by decide, by decide, by decide +kernel⟩
    | exact ⟨by decide +kernel, by decide, by decide⟩
    | exact ⟨by decide +kernel, by decide +kernel, by decide +kernel⟩
    | skip
   . refine ⟨[], 1, Nat.le_refl 1, ?_, by omega⟩
     refine Go.VG.Sub.mk rfl ?_ ?_ ?_ ?_ <;> (repeat' first | trivial)
 . repeat' ((conv => whnf); apply aj)
   all_goals try conv => whnf
   all_goals try (refine ae.mk ?_; try dsimp only)
   . exact ⟨hT, hok, by decide +kernel, hlen⟩
   . refine af.mk [] ?_ <;> (repeat' first | trivial)
end Go.Proofs.YtdjolnjlhbfnmaaGreatDoor
