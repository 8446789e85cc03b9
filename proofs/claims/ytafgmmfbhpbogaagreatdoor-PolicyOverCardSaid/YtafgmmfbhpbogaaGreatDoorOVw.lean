/-
  The tree of the text of an empty list.
-/
import Derived.Test.YtafgmmfbhpbogaaGreatDoorOVk
import Derived.Test.YtafgmmfbhpbogaaGreatDoorCU
import Derived.Test.YtafgmmfbhpbogaaGreatDoorTRg
set_option linter.unusedSimpArgs false
set_option linter.unusedVariables false
set_option maxHeartbeats 4000000
namespace Go.Proofs.YtafgmmfbhpbogaaGreatDoor
open Go Go.VG
set_option maxRecDepth 100000
def cK (p : Nat) : Cu := ⟨[91, 93], p, 2, 0⟩
def tkK (p : Nat) : Int := if p = 0 then 91 else if p = 1 then 93 else 0
def nxK (p : Nat) : Nat := if p ≤ 1 then p + 1 else p
theorem cK_ok {p : Nat} (h : p ≤ 2) : (cK p).ok := ⟨h, Nat.le_refl 2⟩
theorem k3 {p : Nat} (h : p ≤ 2) : p = 0 ∨ p = 1 ∨ p = 2 := by omega
abbrev sixV : V := .list true 1 [.int .u8 123, .int .u8 125, .int .u8 91, .int .u8 93, .int .u8 58, .int .u8 44]
theorem f_wOneOf_1 (x a b c d e f : Int) (hp : (a = 123 ∧ b = 125 ∧ c = 91 ∧ d = 93 ∧ e = 58 ∧ f = 44) ∧ (x = 91 ∨ x = 93)) : OK 244 ([.int .u8 x, .list true 1 [.int .u8 a, .int .u8 b, .int .u8 c, .int .u8 d, .int .u8 e, .int .u8 f]]) ([]) (.bool true) (none) := by
  refine funOK_of_vc (C := cx []) (good trivial) (fn := Tryz.f244) rfl rfl rfl rfl fun hw hs => ?_
  obtain ⟨⟨rfl, rfl, rfl, rfl, rfl, rfl⟩, hp⟩ := hp
  rcases hp with rfl | rfl
  · repeat' ((conv => whnf); first | with_reducible (first | refine go1 (fun j q h => ?_) fun h => ?_ | refine go2 ⟨rfl, rfl⟩ (fun h => ?_) fun j h => ?_ | refine go2 ?_ (fun h => ?_) fun j h => ?_ | refine goQ ?_ (fun h => ?_) fun h => ?_) | apply go3 | apply go4 | apply go5 | ((first | apply go6 | apply go7 | apply go8 | apply go9 | apply goA) <;> intro h) | with_reducible (first | refine IdxK.mk _ rfl ?_ | refine goB ?_ fun hc => ?_ | refine goC ?_ fun hc => ?_ | refine goD ?_ fun hc => ?_ | refine goE ?_ fun hc => ?_ | apply goF | apply goG | refine goH ?_ fun b hb => ?_) | apply goI | apply goJ | apply goK | apply goL | apply goM | apply goN | apply goO | with_reducible refine goP ?_)
    all_goals try conv => whnf
    all_goals try (refine Side.mk ?_; try dsimp only)
    refine LoopP.mk Nat (fun i => i ≤ 2) (fun i => ⟨17, [(0, .int .u8 91), (7, sixV), (8, .int .i64 6), (9, .int .i64 i)], [], []⟩) (fun i => 2 - i) [] 0 (by omega) ?_ (fun i hi _ _ => ?_)
    · refine Go.VG.Sub.mk rfl ?_ ?_ ?_ ?_ <;> (repeat' first | trivial | rfl | exact eqS _ _ | apply andI | apply eqA | apply eqB | apply eqC | apply eqD | apply eqE | apply eqF | apply eqG | apply eqH | apply eqI)
    rcases k3 hi with rfl | rfl | rfl
    · repeat' ((conv => whnf); first | with_reducible (first | refine go1 (fun j q h => ?_) fun h => ?_ | refine go2 ⟨rfl, rfl⟩ (fun h => ?_) fun j h => ?_ | refine go2 ?_ (fun h => ?_) fun j h => ?_ | refine goQ ?_ (fun h => ?_) fun h => ?_) | apply go3 | apply go4 | apply go5 | ((first | apply go6 | apply go7 | apply go8 | apply go9 | apply goA) <;> intro h) | with_reducible (first | refine IdxK.mk _ rfl ?_ | refine goB ?_ fun hc => ?_ | refine goC ?_ fun hc => ?_ | refine goD ?_ fun hc => ?_ | refine goE ?_ fun hc => ?_ | apply goF | apply goG | refine goH ?_ fun b hb => ?_) | apply goI | apply goJ | apply goK | apply goL | apply goM | apply goN | apply goO | with_reducible refine goP ?_)
      all_goals try conv => whnf
      all_goals try (refine Side.mk ?_; try dsimp only)
      · decide
      refine ⟨[], 1, by omega, ?_, by omega⟩
      refine Go.VG.Sub.mk rfl ?_ ?_ ?_ ?_ <;> (repeat' first | trivial | rfl | exact eqS _ _ | apply andI | apply eqA | apply eqB | apply eqC | apply eqD | apply eqE | apply eqF | apply eqG | apply eqH | apply eqI)
    · repeat' ((conv => whnf); first | with_reducible (first | refine go1 (fun j q h => ?_) fun h => ?_ | refine go2 ⟨rfl, rfl⟩ (fun h => ?_) fun j h => ?_ | refine go2 ?_ (fun h => ?_) fun j h => ?_ | refine goQ ?_ (fun h => ?_) fun h => ?_) | apply go3 | apply go4 | apply go5 | ((first | apply go6 | apply go7 | apply go8 | apply go9 | apply goA) <;> intro h) | with_reducible (first | refine IdxK.mk _ rfl ?_ | refine goB ?_ fun hc => ?_ | refine goC ?_ fun hc => ?_ | refine goD ?_ fun hc => ?_ | refine goE ?_ fun hc => ?_ | apply goF | apply goG | refine goH ?_ fun b hb => ?_) | apply goI | apply goJ | apply goK | apply goL | apply goM | apply goN | apply goO | with_reducible refine goP ?_)
      all_goals try conv => whnf
      all_goals try (refine Side.mk ?_; try dsimp only)
      · decide
      refine ⟨[], 2, by omega, ?_, by omega⟩
      refine Go.VG.Sub.mk rfl ?_ ?_ ?_ ?_ <;> (repeat' first | trivial | rfl | exact eqS _ _ | apply andI | apply eqA | apply eqB | apply eqC | apply eqD | apply eqE | apply eqF | apply eqG | apply eqH | apply eqI)
    · repeat' ((conv => whnf); first | with_reducible (first | refine go1 (fun j q h => ?_) fun h => ?_ | refine go2 ⟨rfl, rfl⟩ (fun h => ?_) fun j h => ?_ | refine go2 ?_ (fun h => ?_) fun j h => ?_ | refine goQ ?_ (fun h => ?_) fun h => ?_) | apply go3 | apply go4 | apply go5 | ((first | apply go6 | apply go7 | apply go8 | apply go9 | apply goA) <;> intro h) | with_reducible (first | refine IdxK.mk _ rfl ?_ | refine goB ?_ fun hc => ?_ | refine goC ?_ fun hc => ?_ | refine goD ?_ fun hc => ?_ | refine goE ?_ fun hc => ?_ | apply goF | apply goG | refine goH ?_ fun b hb => ?_) | apply goI | apply goJ | apply goK | apply goL | apply goM | apply goN | apply goO | with_reducible refine goP ?_)
      all_goals try conv => whnf
      all_goals try (refine Side.mk ?_; try dsimp only)
      · decide
      refine EndP.mk [] ?_ <;> (repeat' first | trivial | rfl | exact eqS _ _ | apply andI | apply eqA | apply eqB | apply eqC | apply eqD | apply eqE | apply eqF | apply eqG | apply eqH | apply eqI)
  · repeat' ((conv => whnf); first | with_reducible (first | refine go1 (fun j q h => ?_) fun h => ?_ | refine go2 ⟨rfl, rfl⟩ (fun h => ?_) fun j h => ?_ | refine go2 ?_ (fun h => ?_) fun j h => ?_ | refine goQ ?_ (fun h => ?_) fun h => ?_) | apply go3 | apply go4 | apply go5 | ((first | apply go6 | apply go7 | apply go8 | apply go9 | apply goA) <;> intro h) | with_reducible (first | refine IdxK.mk _ rfl ?_ | refine goB ?_ fun hc => ?_ | refine goC ?_ fun hc => ?_ | refine goD ?_ fun hc => ?_ | refine goE ?_ fun hc => ?_ | apply goF | apply goG | refine goH ?_ fun b hb => ?_) | apply goI | apply goJ | apply goK | apply goL | apply goM | apply goN | apply goO | with_reducible refine goP ?_)
    all_goals try conv => whnf
    all_goals try (refine Side.mk ?_; try dsimp only)
    refine LoopP.mk Nat (fun i => i ≤ 3) (fun i => ⟨17, [(0, .int .u8 93), (7, sixV), (8, .int .i64 6), (9, .int .i64 i)], [], []⟩) (fun i => 3 - i) [] 0 (by omega) ?_ (fun i hi _ _ => ?_)
    · refine Go.VG.Sub.mk rfl ?_ ?_ ?_ ?_ <;> (repeat' first | trivial | rfl | exact eqS _ _ | apply andI | apply eqA | apply eqB | apply eqC | apply eqD | apply eqE | apply eqF | apply eqG | apply eqH | apply eqI)
    have hc : i = 0 ∨ i = 1 ∨ i = 2 ∨ i = 3 := by omega
    rcases hc with rfl | rfl | rfl | rfl
    · repeat' ((conv => whnf); first | with_reducible (first | refine go1 (fun j q h => ?_) fun h => ?_ | refine go2 ⟨rfl, rfl⟩ (fun h => ?_) fun j h => ?_ | refine go2 ?_ (fun h => ?_) fun j h => ?_ | refine goQ ?_ (fun h => ?_) fun h => ?_) | apply go3 | apply go4 | apply go5 | ((first | apply go6 | apply go7 | apply go8 | apply go9 | apply goA) <;> intro h) | with_reducible (first | refine IdxK.mk _ rfl ?_ | refine goB ?_ fun hc => ?_ | refine goC ?_ fun hc => ?_ | refine goD ?_ fun hc => ?_ | refine goE ?_ fun hc => ?_ | apply goF | apply goG | refine goH ?_ fun b hb => ?_) | apply goI | apply goJ | apply goK | apply goL | apply goM | apply goN | apply goO | with_reducible refine goP ?_)
      all_goals try conv => whnf
      all_goals try (refine Side.mk ?_; try dsimp only)
      · decide
      refine ⟨[], 1, by omega, ?_, by omega⟩
      refine Go.VG.Sub.mk rfl ?_ ?_ ?_ ?_ <;> (repeat' first | trivial | rfl | exact eqS _ _ | apply andI | apply eqA | apply eqB | apply eqC | apply eqD | apply eqE | apply eqF | apply eqG | apply eqH | apply eqI)
    · repeat' ((conv => whnf); first | with_reducible (first | refine go1 (fun j q h => ?_) fun h => ?_ | refine go2 ⟨rfl, rfl⟩ (fun h => ?_) fun j h => ?_ | refine go2 ?_ (fun h => ?_) fun j h => ?_ | refine goQ ?_ (fun h => ?_) fun h => ?_) | apply go3 | apply go4 | apply go5 | ((first | apply go6 | apply go7 | apply go8 | apply go9 | apply goA) <;> intro h) | with_reducible (first | refine IdxK.mk _ rfl ?_ | refine goB ?_ fun hc => ?_ | refine goC ?_ fun hc => ?_ | refine goD ?_ fun hc => ?_ | refine goE ?_ fun hc => ?_ | apply goF | apply goG | refine goH ?_ fun b hb => ?_) | apply goI | apply goJ | apply goK | apply goL | apply goM | apply goN | apply goO | with_reducible refine goP ?_)
      all_goals try conv => whnf
      all_goals try (refine Side.mk ?_; try dsimp only)
      · decide
      refine ⟨[], 2, by omega, ?_, by omega⟩
      refine Go.VG.Sub.mk rfl ?_ ?_ ?_ ?_ <;> (repeat' first | trivial | rfl | exact eqS _ _ | apply andI | apply eqA | apply eqB | apply eqC | apply eqD | apply eqE | apply eqF | apply eqG | apply eqH | apply eqI)
    · repeat' ((conv => whnf); first | with_reducible (first | refine go1 (fun j q h => ?_) fun h => ?_ | refine go2 ⟨rfl, rfl⟩ (fun h => ?_) fun j h => ?_ | refine go2 ?_ (fun h => ?_) fun j h => ?_ | refine goQ ?_ (fun h => ?_) fun h => ?_) | apply go3 | apply go4 | apply go5 | ((first | apply go6 | apply go7 | apply go8 | apply go9 | apply goA) <;> intro h) | with_reducible (first | refine IdxK.mk _ rfl ?_ | refine goB ?_ fun hc => ?_ | refine goC ?_ fun hc => ?_ | refine goD ?_ fun hc => ?_ | refine goE ?_ fun hc => ?_ | apply goF | apply goG | refine goH ?_ fun b hb => ?_) | apply goI | apply goJ | apply goK | apply goL | apply goM | apply goN | apply goO | with_reducible refine goP ?_)
      all_goals try conv => whnf
      all_goals try (refine Side.mk ?_; try dsimp only)
      · decide
      refine ⟨[], 3, by omega, ?_, by omega⟩
      refine Go.VG.Sub.mk rfl ?_ ?_ ?_ ?_ <;> (repeat' first | trivial | rfl | exact eqS _ _ | apply andI | apply eqA | apply eqB | apply eqC | apply eqD | apply eqE | apply eqF | apply eqG | apply eqH | apply eqI)
    · repeat' ((conv => whnf); first | with_reducible (first | refine go1 (fun j q h => ?_) fun h => ?_ | refine go2 ⟨rfl, rfl⟩ (fun h => ?_) fun j h => ?_ | refine go2 ?_ (fun h => ?_) fun j h => ?_ | refine goQ ?_ (fun h => ?_) fun h => ?_) | apply go3 | apply go4 | apply go5 | ((first | apply go6 | apply go7 | apply go8 | apply go9 | apply goA) <;> intro h) | with_reducible (first | refine IdxK.mk _ rfl ?_ | refine goB ?_ fun hc => ?_ | refine goC ?_ fun hc => ?_ | refine goD ?_ fun hc => ?_ | refine goE ?_ fun hc => ?_ | apply goF | apply goG | refine goH ?_ fun b hb => ?_) | apply goI | apply goJ | apply goK | apply goL | apply goM | apply goN | apply goO | with_reducible refine goP ?_)
      all_goals try conv => whnf
      all_goals try (refine Side.mk ?_; try dsimp only)
      · decide
      refine EndP.mk [] ?_ <;> (repeat' first | trivial | rfl | exact eqS _ _ | apply andI | apply eqA | apply eqB | apply eqC | apply eqD | apply eqE | apply eqF | apply eqG | apply eqH | apply eqI)
def sm_wOneOf : Sm := fun args σ => match args, σ with
  | [.int .u8 x, .list true 1 [.int .u8 a, .int .u8 b, .int .u8 c, .int .u8 d, .int .u8 e, .int .u8 f]], [] => some ((a = 123 ∧ b = 125 ∧ c = 91 ∧ d = 93 ∧ e = 58 ∧ f = 44) ∧ (x = 91 ∨ x = 93), .bool true, none)
  | _, _ => none
theorem k_wOneOf : SOK 244 sm_wOneOf := by
  intro args sg pre x r he hp
  unfold sm_wOneOf at he
  split at he <;> cases he
  · exact f_wOneOf_1 (hp := hp) ..
theorem f_wBlanks_1 (c : Cu) (hp : ∃ p, p ≤ 2 ∧ c = cK p) : OK 242 ([.ptr 0 0]) ([.cells (eC c)]) (.tuple []) (none) := by
  refine funOK_of_vc (C := cx [(243, sm_cPeek)]) (good ⟨k_cPeek, trivial⟩) (fn := Tryz.f242) rfl rfl rfl rfl fun hw hs => ?_
  obtain ⟨p, hp, rfl⟩ := hp
  rcases k3 hp with rfl | rfl | rfl
  · refine LoopP.mk Unit (fun _ => True) (fun _ => ⟨29, [(0, .ptr 0 0)], [.cells (eC (cK 0))], []⟩) (fun _ => 0) [] () trivial ?_ (fun _ _ _ _ => ?_)
    · refine Go.VG.Sub.mk rfl ?_ ?_ ?_ ?_ <;> (repeat' first | trivial | rfl | exact eqS _ _ | apply andI | apply eqA | apply eqB | apply eqC | apply eqD | apply eqE | apply eqF | apply eqG | apply eqH | apply eqI)
    repeat' ((conv => whnf); first | with_reducible (first | refine go1 (fun j q h => ?_) fun h => ?_ | refine go2 ⟨rfl, rfl⟩ (fun h => ?_) fun j h => ?_ | refine go2 ?_ (fun h => ?_) fun j h => ?_ | refine goQ ?_ (fun h => ?_) fun h => ?_) | apply go3 | apply go4 | apply go5 | ((first | apply go6 | apply go7 | apply go8 | apply go9 | apply goA) <;> intro h) | with_reducible (first | refine IdxK.mk _ rfl ?_ | refine goB ?_ fun hc => ?_ | refine goC ?_ fun hc => ?_ | refine goD ?_ fun hc => ?_ | refine goE ?_ fun hc => ?_ | apply goF | apply goG | refine goH ?_ fun b hb => ?_) | apply goI | apply goJ | apply goK | apply goL | apply goM | apply goN | apply goO | with_reducible refine goP ?_)
    all_goals try conv => whnf
    all_goals try (refine Side.mk ?_; try dsimp only)
    · exact ⟨trivial, cK_ok (by decide)⟩
    refine EndP.mk [] ?_ <;> (repeat' first | trivial | rfl | exact eqS _ _ | apply andI | apply eqA | apply eqB | apply eqC | apply eqD | apply eqE | apply eqF | apply eqG | apply eqH | apply eqI)
  · refine LoopP.mk Unit (fun _ => True) (fun _ => ⟨29, [(0, .ptr 0 0)], [.cells (eC (cK 1))], []⟩) (fun _ => 0) [] () trivial ?_ (fun _ _ _ _ => ?_)
    · refine Go.VG.Sub.mk rfl ?_ ?_ ?_ ?_ <;> (repeat' first | trivial | rfl | exact eqS _ _ | apply andI | apply eqA | apply eqB | apply eqC | apply eqD | apply eqE | apply eqF | apply eqG | apply eqH | apply eqI)
    repeat' ((conv => whnf); first | with_reducible (first | refine go1 (fun j q h => ?_) fun h => ?_ | refine go2 ⟨rfl, rfl⟩ (fun h => ?_) fun j h => ?_ | refine go2 ?_ (fun h => ?_) fun j h => ?_ | refine goQ ?_ (fun h => ?_) fun h => ?_) | apply go3 | apply go4 | apply go5 | ((first | apply go6 | apply go7 | apply go8 | apply go9 | apply goA) <;> intro h) | with_reducible (first | refine IdxK.mk _ rfl ?_ | refine goB ?_ fun hc => ?_ | refine goC ?_ fun hc => ?_ | refine goD ?_ fun hc => ?_ | refine goE ?_ fun hc => ?_ | apply goF | apply goG | refine goH ?_ fun b hb => ?_) | apply goI | apply goJ | apply goK | apply goL | apply goM | apply goN | apply goO | with_reducible refine goP ?_)
    all_goals try conv => whnf
    all_goals try (refine Side.mk ?_; try dsimp only)
    · exact ⟨trivial, cK_ok (by decide)⟩
    refine EndP.mk [] ?_ <;> (repeat' first | trivial | rfl | exact eqS _ _ | apply andI | apply eqA | apply eqB | apply eqC | apply eqD | apply eqE | apply eqF | apply eqG | apply eqH | apply eqI)
  · refine LoopP.mk Unit (fun _ => True) (fun _ => ⟨29, [(0, .ptr 0 0)], [.cells (eC (cK 2))], []⟩) (fun _ => 0) [] () trivial ?_ (fun _ _ _ _ => ?_)
    · refine Go.VG.Sub.mk rfl ?_ ?_ ?_ ?_ <;> (repeat' first | trivial | rfl | exact eqS _ _ | apply andI | apply eqA | apply eqB | apply eqC | apply eqD | apply eqE | apply eqF | apply eqG | apply eqH | apply eqI)
    repeat' ((conv => whnf); first | with_reducible (first | refine go1 (fun j q h => ?_) fun h => ?_ | refine go2 ⟨rfl, rfl⟩ (fun h => ?_) fun j h => ?_ | refine go2 ?_ (fun h => ?_) fun j h => ?_ | refine goQ ?_ (fun h => ?_) fun h => ?_) | apply go3 | apply go4 | apply go5 | ((first | apply go6 | apply go7 | apply go8 | apply go9 | apply goA) <;> intro h) | with_reducible (first | refine IdxK.mk _ rfl ?_ | refine goB ?_ fun hc => ?_ | refine goC ?_ fun hc => ?_ | refine goD ?_ fun hc => ?_ | refine goE ?_ fun hc => ?_ | apply goF | apply goG | refine goH ?_ fun b hb => ?_) | apply goI | apply goJ | apply goK | apply goL | apply goM | apply goN | apply goO | with_reducible refine goP ?_)
    all_goals try conv => whnf
    all_goals try (refine Side.mk ?_; try dsimp only)
    · exact ⟨trivial, cK_ok (by decide)⟩
    refine EndP.mk [] ?_ <;> (repeat' first | trivial | rfl | exact eqS _ _ | apply andI | apply eqA | apply eqB | apply eqC | apply eqD | apply eqE | apply eqF | apply eqG | apply eqH | apply eqI)
def sm_wBlanks : Sm := fun args σ => match args, σ with
  | [.ptr 0 0], [.cells ([.str s_c, .int .i64 (.ofNat a_c), .int .i64 (.ofNat e_c), .int .i64 c_c])] => some (True ∧ (∃ p, p ≤ 2 ∧ (Cu.mk s_c a_c e_c c_c) = cK p), .tuple [], none)
  | _, _ => none
theorem k_wBlanks : SOK 242 sm_wBlanks := by
  intro args sg pre x r he hp
  unfold sm_wBlanks at he
  split at he <;> cases he
  · rw [viewC (hp).1]; exact f_wBlanks_1 (hp := hp.2) ..
theorem f_wNext_1 (c : Cu) (hp : ∃ p, p ≤ 2 ∧ c = cK p) : OK 163 ([.ptr 0 0]) ([.cells (eC c)]) (.agg [.int .u8 (tkK c.p), .str []]) (some [.cells (eC (cK (nxK c.p)))]) := by
  refine funOK_of_vc (C := cx [(242, sm_wBlanks), (243, sm_cPeek), (244, sm_wOneOf), (220, sm_cByte)]) (good ⟨k_wBlanks, k_cPeek, k_wOneOf, k_cByte, trivial⟩) (fn := Tryz.f163) rfl rfl rfl rfl fun hw hs => ?_
  obtain ⟨p, hp, rfl⟩ := hp
  rcases k3 hp with rfl | rfl | rfl
  all_goals
    repeat' ((conv => whnf); first | with_reducible (first | refine go1 (fun j q h => ?_) fun h => ?_ | refine go2 ⟨rfl, rfl⟩ (fun h => ?_) fun j h => ?_ | refine go2 ?_ (fun h => ?_) fun j h => ?_ | refine goQ ?_ (fun h => ?_) fun h => ?_) | apply go3 | apply go4 | apply go5 | ((first | apply go6 | apply go7 | apply go8 | apply go9 | apply goA) <;> intro h) | with_reducible (first | refine IdxK.mk _ rfl ?_ | refine goB ?_ fun hc => ?_ | refine goC ?_ fun hc => ?_ | refine goD ?_ fun hc => ?_ | refine goE ?_ fun hc => ?_ | apply goF | apply goG | refine goH ?_ fun b hb => ?_) | apply goI | apply goJ | apply goK | apply goL | apply goM | apply goN | apply goO | with_reducible refine goP ?_)
    all_goals try conv => whnf
    all_goals try (refine Side.mk ?_; try dsimp only)
    all_goals first
      | exact ⟨trivial, _, hp, rfl⟩
      | exact ⟨trivial, cK_ok hp⟩
      | exact ⟨⟨rfl, rfl, rfl, rfl, rfl, rfl⟩, .inl rfl⟩
      | exact ⟨⟨rfl, rfl, rfl, rfl, rfl, rfl⟩, .inr rfl⟩
      | (show EndP _ _ _ _ _ _
         refine EndP.mk [] ?_ <;> (repeat' first | trivial | rfl | exact eqS _ _ | apply andI | apply eqA | apply eqB | apply eqC | apply eqD | apply eqE | apply eqF | apply eqG | apply eqH | apply eqI)
         done)
def sm_wNext : Sm := fun args σ => match args, σ with
  | [.ptr 0 0], [.cells ([.str s_c, .int .i64 (.ofNat a_c), .int .i64 (.ofNat e_c), .int .i64 c_c])] => some (True ∧ (∃ p, p ≤ 2 ∧ (Cu.mk s_c a_c e_c c_c) = cK p), .agg [.int .u8 (tkK (Cu.mk s_c a_c e_c c_c).p), .str []], some [.cells (eC (cK (nxK (Cu.mk s_c a_c e_c c_c).p)))])
  | _, _ => none
theorem k_wNext : SOK 163 sm_wNext := by
  intro args sg pre x r he hp
  unfold sm_wNext at he
  split at he <;> cases he
  · rw [viewC (hp).1]; exact f_wNext_1 (hp := hp.2) ..
theorem f_wTNext_1 (c : Cu) (l : List V) (hp : ∃ p, p ≤ 1 ∧ c = cK p) : OK 110 ([.ptr 0 0]) ([.cells [.ptr 1 0, .buf 2], .cells (eC c), .buf 4 0 l]) (.agg [.int .u8 (tkK c.p), .str []]) (some [.cells [.ptr 1 0, .buf 2], .cells (eC (cK (nxK c.p))), .buf 4 0 l]) := by
  refine funOK_of_vc (C := cx [(163, sm_wNext), (133, sm_cErr)]) (good ⟨k_wNext, k_cErr, trivial⟩) (fn := Tryz.f110) rfl rfl rfl rfl fun hw hs => ?_
  obtain ⟨p, hp, rfl⟩ := hp
  have hc : p = 0 ∨ p = 1 := by omega
  rcases hc with rfl | rfl
  all_goals
    repeat' ((conv => whnf); first | with_reducible (first | refine go1 (fun j q h => ?_) fun h => ?_ | refine go2 ⟨rfl, rfl⟩ (fun h => ?_) fun j h => ?_ | refine go2 ?_ (fun h => ?_) fun j h => ?_ | refine goQ ?_ (fun h => ?_) fun h => ?_) | apply go3 | apply go4 | apply go5 | ((first | apply go6 | apply go7 | apply go8 | apply go9 | apply goA) <;> intro h) | with_reducible (first | refine IdxK.mk _ rfl ?_ | refine goB ?_ fun hc => ?_ | refine goC ?_ fun hc => ?_ | refine goD ?_ fun hc => ?_ | refine goE ?_ fun hc => ?_ | apply goF | apply goG | refine goH ?_ fun b hb => ?_) | apply goI | apply goJ | apply goK | apply goL | apply goM | apply goN | apply goO | with_reducible refine goP ?_)
    all_goals try conv => whnf
    all_goals try (refine Side.mk ?_; try dsimp only)
    all_goals first
      | exact ⟨trivial, _, (by decide), rfl⟩
      | exact ⟨trivial, trivial⟩
      | (show EndP _ _ _ _ _ _
         refine EndP.mk [] ?_ <;> (repeat' first | trivial | rfl | exact eqS _ _ | apply andI | apply eqA | apply eqB | apply eqC | apply eqD | apply eqE | apply eqF | apply eqG | apply eqH | apply eqI)
         done)
def sm_wTNext : Sm := fun args σ => match args, σ with
  | [.ptr 0 0], [.cells [.ptr 1 0, .buf 2], .cells ([.str s_c, .int .i64 (.ofNat a_c), .int .i64 (.ofNat e_c), .int .i64 c_c]), .buf 4 0 l] => some (True ∧ (∃ p, p ≤ 1 ∧ (Cu.mk s_c a_c e_c c_c) = cK p), .agg [.int .u8 (tkK (Cu.mk s_c a_c e_c c_c).p), .str []], some [.cells [.ptr 1 0, .buf 2], .cells (eC (cK (nxK (Cu.mk s_c a_c e_c c_c).p))), .buf 4 0 l])
  | _, _ => none
theorem k_wTNext : SOK 110 sm_wTNext := by
  intro args sg pre x r he hp
  unfold sm_wTNext at he
  split at he <;> cases he
  · rw [viewC (hp).1]; exact f_wTNext_1 (hp := hp.2) ..
theorem f_wTTail_1 (c : Cu) (l : List V) (hp : c = cK 2) : OK 111 ([.ptr 0 0]) ([.cells [.ptr 1 0, .buf 2], .cells (eC c), .buf 4 0 l]) (.tuple []) (some [.cells [.ptr 1 0, .buf 2], .cells (eC (cK 2)), .buf 4 0 l]) := by
  refine funOK_of_vc (C := cx [(163, sm_wNext), (133, sm_cErr)]) (good ⟨k_wNext, k_cErr, trivial⟩) (fn := Tryz.f111) rfl rfl rfl rfl fun hw hs => ?_
  subst hp
  repeat' ((conv => whnf); first | with_reducible (first | refine go1 (fun j q h => ?_) fun h => ?_ | refine go2 ⟨rfl, rfl⟩ (fun h => ?_) fun j h => ?_ | refine go2 ?_ (fun h => ?_) fun j h => ?_ | refine goQ ?_ (fun h => ?_) fun h => ?_) | apply go3 | apply go4 | apply go5 | ((first | apply go6 | apply go7 | apply go8 | apply go9 | apply goA) <;> intro h) | with_reducible (first | refine IdxK.mk _ rfl ?_ | refine goB ?_ fun hc => ?_ | refine goC ?_ fun hc => ?_ | refine goD ?_ fun hc => ?_ | refine goE ?_ fun hc => ?_ | apply goF | apply goG | refine goH ?_ fun b hb => ?_) | apply goI | apply goJ | apply goK | apply goL | apply goM | apply goN | apply goO | with_reducible refine goP ?_)
  all_goals try conv => whnf
  all_goals try (refine Side.mk ?_; try dsimp only)
  all_goals first
    | exact ⟨trivial, _, (by decide), rfl⟩
    | exact ⟨trivial, trivial⟩
    | (show EndP _ _ _ _ _ _
       refine EndP.mk [] ?_ <;> (repeat' first | trivial | rfl | exact eqS _ _ | apply andI | apply eqA | apply eqB | apply eqC | apply eqD | apply eqE | apply eqF | apply eqG | apply eqH | apply eqI)
       done)
def sm_wTTail : Sm := fun args σ => match args, σ with
  | [.ptr 0 0], [.cells [.ptr 1 0, .buf 2], .cells ([.str s_c, .int .i64 (.ofNat a_c), .int .i64 (.ofNat e_c), .int .i64 c_c]), .buf 4 0 l] => some (True ∧ ((Cu.mk s_c a_c e_c c_c) = cK 2), .tuple [], some [.cells [.ptr 1 0, .buf 2], .cells (eC (cK 2)), .buf 4 0 l])
  | _, _ => none
theorem k_wTTail : SOK 111 sm_wTTail := by
  intro args sg pre x r he hp
  unfold sm_wTTail at he
  split at he <;> cases he
  · rw [viewC (hp).1]; exact f_wTTail_1 (hp := hp.2) ..
theorem f_wTList_1 (c : Cu) (l : List V) (hp : c = cK 1) : OK 162 ([.ptr 0 0, .int .i64 1]) ([.cells [.ptr 1 0, .buf 2], .cells (eC c), .buf 4 0 l]) (.tuple []) (some [.cells [.ptr 1 0, .buf 2], .cells (eC (cK 2)), .buf 4 0 l]) := by
  refine funOK_of_vc (C := cx [(110, sm_wTNext)]) (good ⟨k_wTNext, trivial⟩) (fn := Tryz.f162) rfl rfl rfl rfl fun hw hs => ?_
  subst hp
  repeat' ((conv => whnf); first | with_reducible (first | refine go1 (fun j q h => ?_) fun h => ?_ | refine go2 ⟨rfl, rfl⟩ (fun h => ?_) fun j h => ?_ | refine go2 ?_ (fun h => ?_) fun j h => ?_ | refine goQ ?_ (fun h => ?_) fun h => ?_) | apply go3 | apply go4 | apply go5 | ((first | apply go6 | apply go7 | apply go8 | apply go9 | apply goA) <;> intro h) | with_reducible (first | refine IdxK.mk _ rfl ?_ | refine goB ?_ fun hc => ?_ | refine goC ?_ fun hc => ?_ | refine goD ?_ fun hc => ?_ | refine goE ?_ fun hc => ?_ | apply goF | apply goG | refine goH ?_ fun b hb => ?_) | apply goI | apply goJ | apply goK | apply goL | apply goM | apply goN | apply goO | with_reducible refine goP ?_)
  all_goals try conv => whnf
  all_goals try (refine Side.mk ?_; try dsimp only)
  all_goals first
    | exact ⟨trivial, _, (by decide), rfl⟩
    | exact ⟨trivial, trivial⟩
    | (show EndP _ _ _ _ _ _
       refine EndP.mk [] ?_ <;> (repeat' first | trivial | rfl | exact eqS _ _ | apply andI | apply eqA | apply eqB | apply eqC | apply eqD | apply eqE | apply eqF | apply eqG | apply eqH | apply eqI)
       done)
def sm_wTList : Sm := fun args σ => match args, σ with
  | [.ptr 0 0, .int .i64 1], [.cells [.ptr 1 0, .buf 2], .cells ([.str s_c, .int .i64 (.ofNat a_c), .int .i64 (.ofNat e_c), .int .i64 c_c]), .buf 4 0 l] => some (True ∧ ((Cu.mk s_c a_c e_c c_c) = cK 1), .tuple [], some [.cells [.ptr 1 0, .buf 2], .cells (eC (cK 2)), .buf 4 0 l])
  | _, _ => none
theorem k_wTList : SOK 162 sm_wTList := by
  intro args sg pre x r he hp
  unfold sm_wTList at he
  split at he <;> cases he
  · rw [viewC (hp).1]; exact f_wTList_1 (hp := hp.2) ..
theorem f_wTValue_1 (c : Cu) (hp : c = cK 1) : OK 109 ([.ptr 0 0, .agg [.int .u8 91, .str []], .str [], .int .i64 0]) ([.cells [.ptr 1 0, .buf 2], .cells (eC c), .buf 4 0 []]) (.tuple []) (some [.cells [.ptr 1 0, .buf 2], .cells (eC (cK 2)), .buf 4 0 [.agg [.int .u8 91, .str [], .str [], .int .i64 1]]]) := by
  refine funOK_of_vc (C := cx [(162, sm_wTList)]) (good ⟨k_wTList, trivial⟩) (fn := Tryz.f109) rfl rfl rfl rfl fun hw hs => ?_
  subst hp
  repeat' ((conv => whnf); first | with_reducible (first | refine go1 (fun j q h => ?_) fun h => ?_ | refine go2 ⟨rfl, rfl⟩ (fun h => ?_) fun j h => ?_ | refine go2 ?_ (fun h => ?_) fun j h => ?_ | refine goQ ?_ (fun h => ?_) fun h => ?_) | apply go3 | apply go4 | apply go5 | ((first | apply go6 | apply go7 | apply go8 | apply go9 | apply goA) <;> intro h) | with_reducible (first | refine IdxK.mk _ rfl ?_ | refine goB ?_ fun hc => ?_ | refine goC ?_ fun hc => ?_ | refine goD ?_ fun hc => ?_ | refine goE ?_ fun hc => ?_ | apply goF | apply goG | refine goH ?_ fun b hb => ?_) | apply goI | apply goJ | apply goK | apply goL | apply goM | apply goN | apply goO | with_reducible refine goP ?_)
  all_goals try conv => whnf
  all_goals try (refine Side.mk ?_; try dsimp only)
  all_goals first
    | exact ⟨trivial, rfl⟩
    | (show _ ≤ _; decide)
    | (constructor <;> decide)
    | (show EndP _ _ _ _ _ _
       refine EndP.mk [] ?_ <;> (repeat' first | trivial | rfl | exact eqS _ _ | apply andI | apply eqA | apply eqB | apply eqC | apply eqD | apply eqE | apply eqF | apply eqG | apply eqH | apply eqI)
       done)
def sm_wTValue : Sm := fun args σ => match args, σ with
  | [.ptr 0 0, .agg [.int .u8 91, .str []], .str [], .int .i64 0], [.cells [.ptr 1 0, .buf 2], .cells ([.str s_c, .int .i64 (.ofNat a_c), .int .i64 (.ofNat e_c), .int .i64 c_c]), .buf 4 0 []] => some (True ∧ ((Cu.mk s_c a_c e_c c_c) = cK 1), .tuple [], some [.cells [.ptr 1 0, .buf 2], .cells (eC (cK 2)), .buf 4 0 [.agg [.int .u8 91, .str [], .str [], .int .i64 1]]])
  | _, _ => none
theorem k_wTValue : SOK 109 sm_wTValue := by
  intro args sg pre x r he hp
  unfold sm_wTValue at he
  split at he <;> cases he
  · rw [viewC (hp).1]; exact f_wTValue_1 (hp := hp.2) ..
theorem f_wTRead : OK 80 [.str [91, 93]] [] (.tuple [.buf 0, .int .i64 0]) (some [.buf 4 0 [.agg [.int .u8 91, .str [], .str [], .int .i64 1]]]) := by
  refine funOK_rec (C := cxh [(107, sm_cNew), (110, sm_wTNext), (109, sm_wTValue), (111, sm_wTTail)] [(3, [.cell 3 1 4])]) (good ⟨k_cNew, k_wTNext, k_wTValue, k_wTTail, trivial⟩) (gf := 108) (fn := Tryz.f80) rfl rfl rfl rfl rfl rfl rfl rfl rfl rfl fun hw hs => ?_
  repeat' ((conv => whnf); first | with_reducible (first | refine go1 (fun j q h => ?_) fun h => ?_ | refine go2 ⟨rfl, rfl⟩ (fun h => ?_) fun j h => ?_ | refine go2 ?_ (fun h => ?_) fun j h => ?_ | refine goQ ?_ (fun h => ?_) fun h => ?_) | apply go3 | apply go4 | apply go5 | ((first | apply go6 | apply go7 | apply go8 | apply go9 | apply goA) <;> intro h) | with_reducible (first | refine IdxK.mk _ rfl ?_ | refine goB ?_ fun hc => ?_ | refine goC ?_ fun hc => ?_ | refine goD ?_ fun hc => ?_ | refine goE ?_ fun hc => ?_ | apply goF | apply goG | refine goH ?_ fun b hb => ?_) | apply goI | apply goJ | apply goK | apply goL | apply goM | apply goN | apply goO | with_reducible refine goP ?_)
  all_goals try conv => whnf
  all_goals try (refine Side.mk ?_; try dsimp only)
  all_goals (try simp only [Cu_eta] at *)
  · rfl
  · exact ⟨trivial, 0, by decide, rfl⟩
  · exact ⟨trivial, rfl⟩
  · exact ⟨trivial, trivial⟩
  refine RecP.mk _ (clo_ret _ ?_) rfl ?_
  · (repeat' first | trivial | rfl | refine And.intro ?_ ?_)
  refine EndP.mk [.swap 0 4] ?_ <;> (repeat' first | trivial | rfl | exact eqS _ _ | apply andI | apply eqA | apply eqB | apply eqC | apply eqD | apply eqE | apply eqF | apply eqG | apply eqH | apply eqI)
-- #name wTRead jtree.Read
def sm_wTRead : Sm := fun args σ => match args, σ with
  | [.str s], [] => some (s = [91, 93], .tuple [.buf 0, .int .i64 0], some [.buf 4 0 [.agg [.int .u8 91, .str [], .str [], .int .i64 1]]])
  | _, _ => none
theorem k_wTRead : SOK 80 sm_wTRead := by
  intro args sg pre x r he hp
  unfold sm_wTRead at he
  split at he <;> cases he
  subst hp
  exact f_wTRead
end Go.Proofs.YtafgmmfbhpbogaaGreatDoor
