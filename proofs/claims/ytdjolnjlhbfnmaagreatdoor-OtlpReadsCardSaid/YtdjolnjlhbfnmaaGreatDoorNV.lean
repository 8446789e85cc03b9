/-
  A part of the proof.
-/
import Derived.Test.YtdjolnjlhbfnmaaGreatDoorNQ
set_option linter.unusedSimpArgs false
set_option linter.unusedVariables false
set_option maxHeartbeats 4000000
namespace Go.Proofs.YtdjolnjlhbfnmaaGreatDoor
open Go Go.VG
set_option maxRecDepth 100000
def dM (k c : Int) : Int := if k = 0 then c else k
theorem qd {k c : Int} (h : k = 0) : dM k c = c := if_pos h
theorem ue {k c : Int} (h : ¬ k = 0) : dM k c = k := if_neg h
theorem Ih (c k : Int) (l : List V) (hp : True) : OK 91 ([.ptr 0 0, .int .i64 c]) ([.cells [.ptr 1 0, .int .i64 k], .cells [.buf 2], .buf 4 0 l]) (.tuple []) (some [.cells [.ptr 1 0, .int .i64 (dM k c)], .cells [.buf 2], .buf 4 0 l, .dead]) := by
 refine al (C := cx []) (aq trivial) (fn := Tryz.f91) rfl rfl rfl rfl fun hw hs => ?_
 repeat' ((conv => whnf); (apply aw <;> intro h))
 all_goals try conv => whnf
 all_goals try (refine ae.mk ?_; try dsimp only)
 . rw [qd (by assumption)]
   refine af.mk [.nw] ?_ <;> (repeat' first | trivial)
 . rw [ue (by assumption)]
   refine af.mk [.nw] ?_ <;> (repeat' first | trivial)
theorem Ii (c k : Int) (hp : True) : OK 91 ([.ptr 0 0, .int .i64 c]) ([.cells [.nilptr, .int .i64 k]]) (.tuple []) (some [.cells [.nilptr, .int .i64 (dM k c)], .dead]) := by
 refine al (C := cx []) (aq trivial) (fn := Tryz.f91) rfl rfl rfl rfl fun hw hs => ?_
 repeat' ((conv => whnf); (apply aw <;> intro h))
 all_goals try conv => whnf
 all_goals try (refine ae.mk ?_; try dsimp only)
 . rw [qd (by assumption)]
   refine af.mk [.nw] ?_ <;> (repeat' first | trivial)
 . rw [ue (by assumption)]
   refine af.mk [.nw] ?_ <;> (repeat' first | trivial)
def i7 : Sm := fun args σ => match args, σ with
 | [.ptr 0 0, .int .i64 c], [.cells [.ptr 1 0, .int .i64 k], .cells [.buf 2], .buf 4 0 l] => some (True, .tuple [], some [.cells [.ptr 1 0, .int .i64 (dM k c)], .cells [.buf 2], .buf 4 0 l, .dead])
 | [.ptr 0 0, .int .i64 c], [.cells [.nilptr, .int .i64 k]] => some (True, .tuple [], some [.cells [.nilptr, .int .i64 (dM k c)], .dead])
 | _, _ => none
theorem iP : au 91 i7 := by
 intro args sg pre x r he hp
 unfold i7 at he
 split at he <;> cases he
 . exact Ih (hp := hp) ..
 . exact Ii (hp := hp) ..
theorem ID (no k : Int) (l : List V) (hp : (∃ a : List Pf, l = a.map av ∧ bZ a) ∧ l.length ≤ 10000) : OK 82 ([.ptr 0 0, .int .i64 no]) ([.cells [.ptr 1 0, .int .i64 k], .cells [.buf 2], .buf 4 0 l]) (.str (aQ (ar (aD no 2) (l.map aS))).text) (none) := by
 refine al (C := cx [(55, i9)]) (aq ⟨iQ, trivial⟩) (fn := Tryz.f82) rfl rfl rfl rfl fun hw hs => ?_
 repeat' ((conv => whnf); apply aj)
 all_goals try conv => whnf
 all_goals try (refine ae.mk ?_; try dsimp only)
 . exact hp
 . refine af.mk [] ?_ <;> (repeat' first | trivial)
theorem IE (no k : Int) (hp : True) : OK 82 ([.ptr 0 0, .int .i64 no]) ([.cells [.nilptr, .int .i64 k]]) (.str []) (none) := by
 refine al (C := cx [(55, i9)]) (aq ⟨iQ, trivial⟩) (fn := Tryz.f82) rfl rfl rfl rfl fun hw hs => ?_
 repeat' ((conv => whnf); apply aj)
 all_goals try conv => whnf
 all_goals try (refine ae.mk ?_; try dsimp only)
 all_goals
  refine af.mk [] ?_ <;> (repeat' first | trivial)
def lW : Sm := fun args σ => match args, σ with
 | [.ptr 0 0, .int .i64 no], [.cells [.ptr 1 0, .int .i64 k], .cells [.buf 2], .buf 4 0 l] => some ((∃ a : List Pf, l = a.map av ∧ bZ a) ∧ l.length ≤ 10000, .str (aQ (ar (aD no 2) (l.map aS))).text, none)
 | [.ptr 0 0, .int .i64 no], [.cells [.nilptr, .int .i64 k]] => some (True, .str [], none)
 | _, _ => none
theorem om : au 82 lW := by
 intro args sg pre x r he hp
 unfold lW at he
 split at he <;> cases he
 . exact ID (hp := hp) ..
 . exact IE (hp := hp) ..
theorem Il (no k : Int) (l : List V) (hp : (∃ a : List Pf, l = a.map av ∧ bZ a) ∧ l.length ≤ 10000) : OK 84 ([.ptr 0 0, .int .i64 no]) ([.cells [.ptr 1 0, .int .i64 k], .cells [.buf 2], .buf 4 0 l]) (.int .u64 (aQ (ar (aD no 1) (l.map aS))).num) (none) := by
 refine al (C := cx [(122, qx)]) (aq ⟨tR, trivial⟩) (fn := Tryz.f84) rfl rfl rfl rfl fun hw hs => ?_
 repeat' ((conv => whnf); apply aj)
 all_goals try conv => whnf
 all_goals try (refine ae.mk ?_; try dsimp only)
 . exact hp
 . refine af.mk [] ?_ <;> (repeat' first | trivial)
theorem Im (no k : Int) (hp : True) : OK 84 ([.ptr 0 0, .int .i64 no]) ([.cells [.nilptr, .int .i64 k]]) (.int .u64 0) (none) := by
 refine al (C := cx [(122, qx)]) (aq ⟨tR, trivial⟩) (fn := Tryz.f84) rfl rfl rfl rfl fun hw hs => ?_
 repeat' ((conv => whnf); apply aj)
 all_goals try conv => whnf
 all_goals try (refine ae.mk ?_; try dsimp only)
 all_goals
  refine af.mk [] ?_ <;> (repeat' first | trivial)
def sD : Sm := fun args σ => match args, σ with
 | [.ptr 0 0, .int .i64 no], [.cells [.ptr 1 0, .int .i64 k], .cells [.buf 2], .buf 4 0 l] => some ((∃ a : List Pf, l = a.map av ∧ bZ a) ∧ l.length ≤ 10000, .int .u64 (aQ (ar (aD no 1) (l.map aS))).num, none)
 | [.ptr 0 0, .int .i64 no], [.cells [.nilptr, .int .i64 k]] => some (True, .int .u64 0, none)
 | _, _ => none
theorem wK : au 84 sD := by
 intro args sg pre x r he hp
 unfold sD at he
 split at he <;> cases he
 . exact Il (hp := hp) ..
 . exact Im (hp := hp) ..
theorem Ib (no k : Int) (l : List V) (hp : (∃ a : List Pf, l = a.map av ∧ bZ a) ∧ l.length ≤ 10000) : OK 83 ([.ptr 0 0, .int .i64 no]) ([.cells [.ptr 1 0, .int .i64 k], .cells [.buf 2], .buf 4 0 l]) (.int .i64 (eU (aQ (ar (aD no 0) (l.map aS))).num)) (none) := by
 refine al (C := cx [(122, qx), (123, vh)]) (aq ⟨tR, CC, trivial⟩) (fn := Tryz.f83) rfl rfl rfl rfl fun hw hs => ?_
 repeat' ((conv => whnf); apply aj)
 all_goals try conv => whnf
 all_goals try (refine ae.mk ?_; try dsimp only)
 . exact hp
 . refine af.mk [] ?_ <;> (repeat' first | trivial)
theorem Ic (no k : Int) (hp : True) : OK 83 ([.ptr 0 0, .int .i64 no]) ([.cells [.nilptr, .int .i64 k]]) (.int .i64 (eU 0)) (none) := by
 refine al (C := cx [(122, qx), (123, vh)]) (aq ⟨tR, CC, trivial⟩) (fn := Tryz.f83) rfl rfl rfl rfl fun hw hs => ?_
 repeat' ((conv => whnf); apply aj)
 all_goals try conv => whnf
 all_goals try (refine ae.mk ?_; try dsimp only)
 all_goals
  refine af.mk [] ?_ <;> (repeat' first | trivial)
def sC : Sm := fun args σ => match args, σ with
 | [.ptr 0 0, .int .i64 no], [.cells [.ptr 1 0, .int .i64 k], .cells [.buf 2], .buf 4 0 l] => some ((∃ a : List Pf, l = a.map av ∧ bZ a) ∧ l.length ≤ 10000, .int .i64 (eU (aQ (ar (aD no 0) (l.map aS))).num), none)
 | [.ptr 0 0, .int .i64 no], [.cells [.nilptr, .int .i64 k]] => some (True, .int .i64 (eU 0), none)
 | _, _ => none
theorem wJ : au 83 sC := by
 intro args sg pre x r he hp
 unfold sC at he
 split at he <;> cases he
 . exact Ib (hp := hp) ..
 . exact Ic (hp := hp) ..
def lg (s : List UInt8) (n : Nat) : List UInt8 := if s.length = n then s else []
abbrev di (s : List UInt8) (n j : Nat) : Int := ((lg s n).getD j 0).toNat
abbrev gT (s : List UInt8) (n : Nat) (k : Int) : Int := if s.length = n then k else dM k 10
abbrev mb (s : List UInt8) : List V := [.int .u8 (di s 8 0), .int .u8 (di s 8 1), .int .u8 (di s 8 2), .int .u8 (di s 8 3), .int .u8 (di s 8 4), .int .u8 (di s 8 5), .int .u8 (di s 8 6), .int .u8 (di s 8 7)]
abbrev nQ (s : List UInt8) : List V := [.int .u8 (di s 16 0), .int .u8 (di s 16 1), .int .u8 (di s 16 2), .int .u8 (di s 16 3), .int .u8 (di s 16 4), .int .u8 (di s 16 5), .int .u8 (di s 16 6), .int .u8 (di s 16 7), .int .u8 (di s 16 8), .int .u8 (di s 16 9), .int .u8 (di s 16 10), .int .u8 (di s 16 11), .int .u8 (di s 16 12), .int .u8 (di s 16 13), .int .u8 (di s 16 14), .int .u8 (di s 16 15)]
theorem Dk {s : List UInt8} (h : s.length = 8) : ∃ b0 b1 b2 b3 b4 b5 b6 b7, s = [b0, b1, b2, b3, b4, b5, b6, b7] := by
 match s, h with
 | [b0, b1, b2, b3, b4, b5, b6, b7], _ => exact ⟨b0, b1, b2, b3, b4, b5, b6, b7, rfl⟩
theorem Na {s : List UInt8} (h : s.length = 16) : ∃ b0 b1 b2 b3 b4 b5 b6 b7 b8 b9 b10 b11 b12 b13 b14 b15, s = [b0, b1, b2, b3, b4, b5, b6, b7, b8, b9, b10, b11, b12, b13, b14, b15] := by
 match s, h with
 | [b0, b1, b2, b3, b4, b5, b6, b7, b8, b9, b10, b11, b12, b13, b14, b15], _ => exact ⟨b0, b1, b2, b3, b4, b5, b6, b7, b8, b9, b10, b11, b12, b13, b14, b15, rfl⟩
theorem IG (no k : Int) (l : List V) (hp : (∃ a : List Pf, l = a.map av ∧ bZ a) ∧ l.length ≤ 10000) (b0 b1 b2 b3 b4 b5 b6 b7 b8 b9 b10 b11 b12 b13 b14 b15 : UInt8) (hS : (aQ (ar (aD no 2) (l.map aS))).text = [b0, b1, b2, b3, b4, b5, b6, b7, b8, b9, b10, b11, b12, b13, b14, b15])  :
   OK 80 [.ptr 0 0, .int .i64 no] [.cells [.ptr 1 0, .int .i64 k], .cells [.buf 2], .buf 4 0 l] (.agg [.int .u8 b0.toNat, .int .u8 b1.toNat, .int .u8 b2.toNat, .int .u8 b3.toNat, .int .u8 b4.toNat, .int .u8 b5.toNat, .int .u8 b6.toNat, .int .u8 b7.toNat, .int .u8 b8.toNat, .int .u8 b9.toNat, .int .u8 b10.toNat, .int .u8 b11.toNat, .int .u8 b12.toNat, .int .u8 b13.toNat, .int .u8 b14.toNat, .int .u8 b15.toNat]) (some [.cells [.ptr 1 0, .int .i64 k], .cells [.buf 2], .buf 4 0 l, .dead]) := by
 refine al (C := cx [(55, i9), (91, i7)]) (aq ⟨iQ, iP, trivial⟩) (fn := Tryz.f80) rfl rfl rfl rfl fun hw _ => ?_
 repeat' ((conv => whnf); first | apply aj | apply aO | (apply aw <;> intro h))
 all_goals try conv => whnf
 all_goals try (refine ae.mk ?_; try dsimp only)
 all_goals first
  | exact hp
  | (exfalso
     have := congrArg List.length hS
     simp at this
     omega)
  | skip
 all_goals (try rw [hS])
 all_goals
  all_goals try conv => whnf
  all_goals try (refine ae.mk ?_; try dsimp only)
 all_goals
  refine af.mk [.nw] ?_ <;> (repeat' first | trivial)
theorem IF (no k : Int) (l : List V) (hp : (∃ a : List Pf, l = a.map av ∧ bZ a) ∧ l.length ≤ 10000) (s : List UInt8) (hS : (aQ (ar (aD no 2) (l.map aS))).text = s) (hn : s.length ≠ 16) :
   OK 80 [.ptr 0 0, .int .i64 no] [.cells [.ptr 1 0, .int .i64 k], .cells [.buf 2], .buf 4 0 l] (.agg [.int .u8 0, .int .u8 0, .int .u8 0, .int .u8 0, .int .u8 0, .int .u8 0, .int .u8 0, .int .u8 0, .int .u8 0, .int .u8 0, .int .u8 0, .int .u8 0, .int .u8 0, .int .u8 0, .int .u8 0, .int .u8 0]) (some [.cells [.ptr 1 0, .int .i64 (dM k 10)], .cells [.buf 2], .buf 4 0 l, .dead]) := by
 refine al (C := cx [(55, i9), (91, i7)]) (aq ⟨iQ, iP, trivial⟩) (fn := Tryz.f80) rfl rfl rfl rfl fun hw _ => ?_
 repeat' ((conv => whnf); first | apply aj | apply aO | (apply aw <;> intro h))
 all_goals try conv => whnf
 all_goals try (refine ae.mk ?_; try dsimp only)
 all_goals first
  | exact hp
  | (exfalso
     have := congrArg List.length hS
     omega)
  | skip
 all_goals
  refine af.mk [] ?_ <;> (repeat' first | trivial)
theorem II (no k : Int)     :
   OK 80 [.ptr 0 0, .int .i64 no] [.cells [.nilptr, .int .i64 k]] (.agg [.int .u8 0, .int .u8 0, .int .u8 0, .int .u8 0, .int .u8 0, .int .u8 0, .int .u8 0, .int .u8 0, .int .u8 0, .int .u8 0, .int .u8 0, .int .u8 0, .int .u8 0, .int .u8 0, .int .u8 0, .int .u8 0]) (some [.cells [.nilptr, .int .i64 (dM k 10)], .dead]) := by
 refine al (C := cx [(55, i9), (91, i7)]) (aq ⟨iQ, iP, trivial⟩) (fn := Tryz.f80) rfl rfl rfl rfl fun hw _ => ?_
 repeat' ((conv => whnf); apply aj)
 all_goals try conv => whnf
 all_goals try (refine ae.mk ?_; try dsimp only)
 all_goals
  refine af.mk [] ?_ <;> (repeat' first | trivial)
theorem Iy (no k : Int) (l : List V) (hp : (∃ a : List Pf, l = a.map av ∧ bZ a) ∧ l.length ≤ 10000) (b0 b1 b2 b3 b4 b5 b6 b7 : UInt8) (hS : (aQ (ar (aD no 2) (l.map aS))).text = [b0, b1, b2, b3, b4, b5, b6, b7])  :
   OK 81 [.ptr 0 0, .int .i64 no, .bool false] [.cells [.ptr 1 0, .int .i64 k], .cells [.buf 2], .buf 4 0 l] (.agg [.int .u8 b0.toNat, .int .u8 b1.toNat, .int .u8 b2.toNat, .int .u8 b3.toNat, .int .u8 b4.toNat, .int .u8 b5.toNat, .int .u8 b6.toNat, .int .u8 b7.toNat]) (some [.cells [.ptr 1 0, .int .i64 k], .cells [.buf 2], .buf 4 0 l, .dead]) := by
 refine al (C := cx [(55, i9), (91, i7)]) (aq ⟨iQ, iP, trivial⟩) (fn := Tryz.f81) rfl rfl rfl rfl fun hw _ => ?_
 repeat' ((conv => whnf); first | apply aj | apply aO | ((first | apply aw | apply fw) <;> intro h))
 all_goals try conv => whnf
 all_goals try (refine ae.mk ?_; try dsimp only)
 all_goals first
  | exact hp
  | (exfalso
     have := congrArg List.length hS
     simp at this
     omega)
  | skip
 all_goals (try rw [hS])
 all_goals
  all_goals try conv => whnf
  all_goals try (refine ae.mk ?_; try dsimp only)
 all_goals
  refine af.mk [.nw] ?_ <;> (repeat' first | trivial)
theorem Iu (no k : Int) (l : List V) (hp : (∃ a : List Pf, l = a.map av ∧ bZ a) ∧ l.length ≤ 10000) (s : List UInt8) (hS : (aQ (ar (aD no 2) (l.map aS))).text = s) (hn : s.length ≠ 8) :
   OK 81 [.ptr 0 0, .int .i64 no, .bool false] [.cells [.ptr 1 0, .int .i64 k], .cells [.buf 2], .buf 4 0 l] (.agg [.int .u8 0, .int .u8 0, .int .u8 0, .int .u8 0, .int .u8 0, .int .u8 0, .int .u8 0, .int .u8 0]) (some [.cells [.ptr 1 0, .int .i64 (dM k 10)], .cells [.buf 2], .buf 4 0 l, .dead]) := by
 refine al (C := cx [(55, i9), (91, i7)]) (aq ⟨iQ, iP, trivial⟩) (fn := Tryz.f81) rfl rfl rfl rfl fun hw _ => ?_
 repeat' ((conv => whnf); first | apply aj | apply aO | ((first | apply aw | apply fw) <;> intro h))
 all_goals try conv => whnf
 all_goals try (refine ae.mk ?_; try dsimp only)
 all_goals first
  | exact hp
  | (exfalso
     have := congrArg List.length hS
     omega)
  | skip
 all_goals
  refine af.mk [] ?_ <;> (repeat' first | trivial)
theorem Ix (no k : Int) (l : List V) (hp : (∃ a : List Pf, l = a.map av ∧ bZ a) ∧ l.length ≤ 10000) (b0 b1 b2 b3 b4 b5 b6 b7 : UInt8) (hS : (aQ (ar (aD no 2) (l.map aS))).text = [b0, b1, b2, b3, b4, b5, b6, b7])  :
   OK 81 [.ptr 0 0, .int .i64 no, .bool true] [.cells [.ptr 1 0, .int .i64 k], .cells [.buf 2], .buf 4 0 l] (.agg [.int .u8 b0.toNat, .int .u8 b1.toNat, .int .u8 b2.toNat, .int .u8 b3.toNat, .int .u8 b4.toNat, .int .u8 b5.toNat, .int .u8 b6.toNat, .int .u8 b7.toNat]) (some [.cells [.ptr 1 0, .int .i64 k], .cells [.buf 2], .buf 4 0 l, .dead]) := by
 refine al (C := cx [(55, i9), (91, i7)]) (aq ⟨iQ, iP, trivial⟩) (fn := Tryz.f81) rfl rfl rfl rfl fun hw _ => ?_
 repeat' ((conv => whnf); first | apply aj | apply aO | ((first | apply aw | apply fw) <;> intro h))
 all_goals try conv => whnf
 all_goals try (refine ae.mk ?_; try dsimp only)
 all_goals first
  | exact hp
  | (exfalso
     have q := hS.symm.trans (by assumption)
     exact List.cons_ne_nil _ _ q)
  | (exfalso
     have := congrArg List.length hS
     simp at this
     omega)
  | skip
 all_goals (try rw [hS])
 all_goals
  all_goals try conv => whnf
  all_goals try (refine ae.mk ?_; try dsimp only)
 all_goals
  refine af.mk [.nw] ?_ <;> (repeat' first | trivial)
theorem Iw (no k : Int) (l : List V) (hp : (∃ a : List Pf, l = a.map av ∧ bZ a) ∧ l.length ≤ 10000) (s : List UInt8) (hS : (aQ (ar (aD no 2) (l.map aS))).text = s) (hn : s.length ≠ 8) (he : s ≠ []) :
   OK 81 [.ptr 0 0, .int .i64 no, .bool true] [.cells [.ptr 1 0, .int .i64 k], .cells [.buf 2], .buf 4 0 l] (.agg [.int .u8 0, .int .u8 0, .int .u8 0, .int .u8 0, .int .u8 0, .int .u8 0, .int .u8 0, .int .u8 0]) (some [.cells [.ptr 1 0, .int .i64 (dM k 10)], .cells [.buf 2], .buf 4 0 l, .dead]) := by
 refine al (C := cx [(55, i9), (91, i7)]) (aq ⟨iQ, iP, trivial⟩) (fn := Tryz.f81) rfl rfl rfl rfl fun hw _ => ?_
 repeat' ((conv => whnf); first | apply aj | apply aO | ((first | apply aw | apply fw) <;> intro h))
 all_goals try conv => whnf
 all_goals try (refine ae.mk ?_; try dsimp only)
 all_goals first
  | exact hp
  | (exfalso
     have := congrArg List.length hS
     omega)
  | (exfalso
     exact he (hS.symm.trans (by assumption)))
  | skip
 all_goals
  refine af.mk [] ?_ <;> (repeat' first | trivial)
theorem Iv (no k : Int) (l : List V) (hp : (∃ a : List Pf, l = a.map av ∧ bZ a) ∧ l.length ≤ 10000) (hS : (aQ (ar (aD no 2) (l.map aS))).text = [])  :
   OK 81 [.ptr 0 0, .int .i64 no, .bool true] [.cells [.ptr 1 0, .int .i64 k], .cells [.buf 2], .buf 4 0 l] (.agg [.int .u8 0, .int .u8 0, .int .u8 0, .int .u8 0, .int .u8 0, .int .u8 0, .int .u8 0, .int .u8 0]) (some [.cells [.ptr 1 0, .int .i64 k], .cells [.buf 2], .buf 4 0 l, .dead]) := by
 refine al (C := cx [(55, i9), (91, i7)]) (aq ⟨iQ, iP, trivial⟩) (fn := Tryz.f81) rfl rfl rfl rfl fun hw _ => ?_
 repeat' ((conv => whnf); first | apply aj | apply aO | ((first | apply aw | apply fw) <;> intro h))
 all_goals try conv => whnf
 all_goals try (refine ae.mk ?_; try dsimp only)
 all_goals first
  | exact hp
  | (exfalso
     have := congrArg List.length hS
     simp at this
     omega)
  | (exfalso
     exact absurd hS (by assumption))
  | skip
 all_goals
  refine af.mk [.nw] ?_ <;> (repeat' first | trivial)
theorem Iz (no k : Int)     :
   OK 81 [.ptr 0 0, .int .i64 no, .bool false] [.cells [.nilptr, .int .i64 k]] (.agg [.int .u8 0, .int .u8 0, .int .u8 0, .int .u8 0, .int .u8 0, .int .u8 0, .int .u8 0, .int .u8 0]) (some [.cells [.nilptr, .int .i64 (dM k 10)], .dead]) := by
 refine al (C := cx [(55, i9), (91, i7)]) (aq ⟨iQ, iP, trivial⟩) (fn := Tryz.f81) rfl rfl rfl rfl fun hw _ => ?_
 repeat' ((conv => whnf); apply aj)
 all_goals try conv => whnf
 all_goals try (refine ae.mk ?_; try dsimp only)
 all_goals
  refine af.mk [] ?_ <;> (repeat' first | trivial)
def fD (no : Int) (l : List V) : List UInt8 := (aQ (ar (aD no 2) (l.map aS))).text
def nmL (no w : Int) (l : List V) : Int := (aQ (ar (aD no w) (l.map aS))).num
def pd (no : Int) (l : List V) : List (List UInt8) := (ar (aD no 2) (l.map aS)).map Pf.text
abbrev ky (no : Int) (l : List V) : Int × List aG := bO (eb 32) (pd no l) []
theorem l5 (no : Int) (s : List UInt8) : fD no ((aF s).map av) = tx no s := by unfold fD; rw [bW]; rfl
theorem xi (no w : Int) (s : List UInt8) : nmL no w ((aF s).map av) = nm no w s := by unfold nmL; rw [bW]; rfl
theorem Ba (no : Int) (s : List UInt8) : pd no ((aF s).map av) = ai no s := by unfold pd; rw [bW]; rfl
theorem w6 (no : Int) (s : List UInt8) : ky no ((aF s).map av) = bI no s := by unfold ky; rw [Ba]
def iB (l : List V) : Prop := ∃ s : List UInt8, l = (aF s).map av ∧ s.length ≤ 9000
theorem iB.sh {l : List V} (h : iB l) : (∃ a : List Pf, l = a.map av ∧ bZ a) ∧ l.length ≤ 10000 := by
 obtain ⟨s, rfl, hs⟩ := h
 exact cD hs
theorem iB.en {l : List V} (h : iB l) (no : Int) : km (pd no l) 0 32 := by
 obtain ⟨s, rfl, hs⟩ := h
 rw [Ba]
 exact pj hs
theorem eaL_V {l : List V} (no : Int) : cu (ar (aD no 2) (l.map aS)) = (pd no l).map V.str := by unfold pd; rw [List.map_map]; rfl
theorem I4 (no k : Int) (l : List V) (h0 : k ≠ 0) : OK 85 [.ptr 0 0, .int .i64 no] [.cells [.ptr 1 0, .int .i64 k], .cells [.buf 2], .buf 4 0 l] (.list true 0 []) (some [.cells [.ptr 1 0, .int .i64 k], .cells [.buf 2], .buf 4 0 l, .dead]) := by
 refine al (C := cx []) (aq trivial) (fn := Tryz.f85) rfl rfl rfl rfl fun hw _ => ?_
 repeat' ((conv => whnf); first | apply aj | apply aO | (apply aw <;> intro h))
 all_goals try conv => whnf
 all_goals try (refine ae.mk ?_; try dsimp only)
 all_goals first
  | exact absurd (by assumption) h0
  | skip
 all_goals
  refine af.mk [.nw] ?_ <;> (repeat' first | trivial)
theorem I6 (no k : Int) (h0 : k ≠ 0) : OK 85 [.ptr 0 0, .int .i64 no] [.cells [.nilptr, .int .i64 k]] (.list true 0 []) none := by
 refine al (C := cx []) (aq trivial) (fn := Tryz.f85) rfl rfl rfl rfl fun hw _ => ?_
 repeat' ((conv => whnf); first | apply aj | apply aO | (apply aw <;> intro h))
 all_goals try conv => whnf
 all_goals try (refine ae.mk ?_; try dsimp only)
 all_goals first
  | exact absurd (by assumption) h0
  | skip
 all_goals
  refine af.mk [] ?_ <;> (repeat' first | trivial)
theorem I5 (no : Int) (l : List V) (hl : iB l) : OK 85 [.ptr 0 0, .int .i64 no] [.cells [.ptr 1 0, .int .i64 0], .cells [.buf 2], .buf 4 0 l] (.list false 7 (aV (ky no l).2)) (some [.cells [.ptr 1 0, .int .i64 (ky no l).1], .cells [.buf 2], .buf 4 0 l, .dead]) := by
 refine al (C := cx [(11, kY), (29, sH (eb 32) 32), (91, i7)]) (aq ⟨mR, wO (eb 32) 32 (wP 32), iP, trivial⟩) (fn := Tryz.f85) rfl rfl rfl rfl fun hw _ => ?_
 repeat' ((conv => whnf); apply aj)
 all_goals try conv => whnf
 all_goals try (refine ae.mk ?_; try dsimp only)
 all_goals (try simp only [eaL_V, fT] at *)
 . exact hl.sh
 . exact ⟨trivial, hl.en no⟩
 . refine af.mk [] ?_ <;> (repeat' first | trivial)
def ln (no : Int) (l : List V) (k : Int) : Int × List aG := if k ≠ 0 then (k, []) else ky no l
def oK : Sm := fun args σ => match args, σ with
 | [.ptr 0 0, .int .i64 no], [.cells [.ptr 1 0, .int .i64 k], .cells [.buf 2], .buf 4 0 l] => some (iB l, .list false 7 (aV (ln no l k).2), some [.cells [.ptr 1 0, .int .i64 (ln no l k).1], .cells [.buf 2], .buf 4 0 l, .dead])
 | [.ptr 0 0, .int .i64 no], [.cells [.nilptr, .int .i64 k]] => some (k ≠ 0, .list true 0 [], none)
 | _, _ => none
-- #name osAt (*ospan.reader).attrs
theorem rC : au 85 oK := by
 intro args sg pre x r he hp
 unfold oK at he
 split at he <;> cases he
 . rename_i no k l
   by_cases h : k ≠ 0
   . rw [show ln no l k = (k, []) from if_pos h]
     exact (I4 no k l h).res (Wk.nil (.inl rfl))
   . obtain rfl : k = 0 := Classical.not_not.1 h
     exact I5 no l hp
 . exact I6 _ _ hp
theorem mc {s : List UInt8} {n : Nat} (h : s.length = n) : lg s n = s := if_pos h
theorem vX {s : List UInt8} {n : Nat} (h : s.length ≠ n) : lg s n = [] := if_neg h
def oO (s : List UInt8) (k : Int) : Int := if s = [] then k else gT s 8 k
def sG : Sm := fun args σ => match args, σ with
 | [.ptr 0 0, .int .i64 no], [.cells [.ptr 1 0, .int .i64 k], .cells [.buf 2], .buf 4 0 l] => some ((∃ a : List Pf, l = a.map av ∧ bZ a) ∧ l.length ≤ 10000, .agg (nQ (fD no l)), some [.cells [.ptr 1 0, .int .i64 (gT (fD no l) 16 k)], .cells [.buf 2], .buf 4 0 l, .dead])
 | [.ptr 0 0, .int .i64 no], [.cells [.nilptr, .int .i64 k]] => some (True, .agg [.int .u8 0, .int .u8 0, .int .u8 0, .int .u8 0, .int .u8 0, .int .u8 0, .int .u8 0, .int .u8 0, .int .u8 0, .int .u8 0, .int .u8 0, .int .u8 0, .int .u8 0, .int .u8 0, .int .u8 0, .int .u8 0], some [.cells [.nilptr, .int .i64 (dM k 10)], .dead])
 | _, _ => none
-- #name osTr (*ospan.reader).trace
theorem wN : au 80 sG := by
 intro args sg pre x r he hp
 unfold sG at he
 split at he <;> cases he
 . rename_i no k l
   obtain ⟨t, ht⟩ : ∃ t, t = fD no l := ⟨_, rfl⟩
   rw [← ht]
   by_cases h : t.length = 16
   . rw [show gT t 16 k = k from if_pos h]
     simp only [mb, nQ, di, mc h]
     obtain ⟨b0, b1, b2, b3, b4, b5, b6, b7, b8, b9, b10, b11, b12, b13, b14, b15, rfl⟩ := Na h
     exact IG no k l hp b0 b1 b2 b3 b4 b5 b6 b7 b8 b9 b10 b11 b12 b13 b14 b15 ht.symm
   . rw [show gT t 16 k = dM k 10 from if_neg h]
     simp only [mb, nQ, di, vX h]
     exact IF no k l hp t ht.symm h
 . exact II _ _
def sF : Sm := fun args σ => match args, σ with
 | [.ptr 0 0, .int .i64 no, .bool false], [.cells [.ptr 1 0, .int .i64 k], .cells [.buf 2], .buf 4 0 l] => some ((∃ a : List Pf, l = a.map av ∧ bZ a) ∧ l.length ≤ 10000, .agg (mb (fD no l)), some [.cells [.ptr 1 0, .int .i64 (gT (fD no l) 8 k)], .cells [.buf 2], .buf 4 0 l, .dead])
 | [.ptr 0 0, .int .i64 no, .bool true], [.cells [.ptr 1 0, .int .i64 k], .cells [.buf 2], .buf 4 0 l] => some ((∃ a : List Pf, l = a.map av ∧ bZ a) ∧ l.length ≤ 10000, .agg (mb (fD no l)), some [.cells [.ptr 1 0, .int .i64 (oO (fD no l) k)], .cells [.buf 2], .buf 4 0 l, .dead])
 | [.ptr 0 0, .int .i64 no, .bool false], [.cells [.nilptr, .int .i64 k]] => some (True, .agg [.int .u8 0, .int .u8 0, .int .u8 0, .int .u8 0, .int .u8 0, .int .u8 0, .int .u8 0, .int .u8 0], some [.cells [.nilptr, .int .i64 (dM k 10)], .dead])
 | _, _ => none
-- #name osSp (*ospan.reader).span
theorem wM : au 81 sF := by
 intro args sg pre x r he hp
 unfold sF at he
 split at he <;> cases he
 . rename_i no k l
   obtain ⟨t, ht⟩ : ∃ t, t = fD no l := ⟨_, rfl⟩
   rw [← ht]
   by_cases h : t.length = 8
   . rw [show gT t 8 k = k from if_pos h]
     simp only [mb, nQ, di, mc h]
     obtain ⟨b0, b1, b2, b3, b4, b5, b6, b7, rfl⟩ := Dk h
     exact Iy no k l hp b0 b1 b2 b3 b4 b5 b6 b7 ht.symm
   . rw [show gT t 8 k = dM k 10 from if_neg h]
     simp only [mb, nQ, di, vX h]
     exact Iu no k l hp t ht.symm h
 . rename_i no k l
   obtain ⟨t, ht⟩ : ∃ t, t = fD no l := ⟨_, rfl⟩
   rw [← ht]
   by_cases h : t.length = 8
   . have h0 : t ≠ [] := fun q => by rw [q] at h; simp at h
     rw [show oO t k = k from (if_neg h0).trans (if_pos h)]
     simp only [mb, nQ, di, mc h]
     obtain ⟨b0, b1, b2, b3, b4, b5, b6, b7, rfl⟩ := Dk h
     exact Ix no k l hp b0 b1 b2 b3 b4 b5 b6 b7 ht.symm
   . simp only [mb, nQ, di, vX h]
     by_cases h0 : t = []
     . rw [show oO t k = k from if_pos h0]
       subst h0
       exact Iv no k l hp ht.symm
     . rw [show oO t k = dM k 10 from (if_neg h0).trans (if_neg h)]
       exact Iw no k l hp t ht.symm h h0
 . exact Iz _ _
end Go.Proofs.YtdjolnjlhbfnmaaGreatDoor
