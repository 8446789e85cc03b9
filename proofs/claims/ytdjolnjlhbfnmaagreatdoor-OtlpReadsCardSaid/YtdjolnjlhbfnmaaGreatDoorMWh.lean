/-
  A part of the proof.
-/
import Derived.Test.YtdjolnjlhbfnmaaGreatDoorMWe
set_option linter.unusedSimpArgs false
set_option linter.unusedVariables false
set_option maxHeartbeats 4000000
namespace Go.Proofs.YtdjolnjlhbfnmaaGreatDoor
open Go Go.VG
set_option maxRecDepth 100000
theorem Ae (n : Int) : n + ((dp []).length : Int) = n := Int.add_zero n
theorem Am (L : List V) : L ++ bJ [] = L := List.append_nil L
def fe (no wi u : Int) : List Pf := if u = 0 then [] else oc no wi u
def dt (no : Int) (t : List UInt8) : List Pf := if t = [] then [] else fK ⟨no, 2, 0, t⟩
theorem Hr (n : Int) (L : List V) (no wi u : Int) (hp : j4 n L ⟨no, wi, u, []⟩) : OK 109 ([.ptr 0 0, .int .i64 no, .int .i64 wi, .int .u64 u]) ([.cells [.buf 1, .int .i64 n], .buf 1 0 L]) (.tuple []) (some (cI (n + (dp (fe no wi u)).length) (L ++ bJ (fe no wi u)))) := by
 refine al (C := cx [(108, yg)]) (aq ⟨Ll, trivial⟩) (fn := Tryz.f109) rfl rfl rfl rfl fun hw hs => ?_
 repeat' ((conv => whnf); first | apply aj | apply aO | (apply aw <;> intro h))
 all_goals try conv => whnf
 all_goals try (refine ae.mk ?_; try dsimp only)
 . unfold fe
   rw [if_pos (by assumption), Ae, Am]
   refine af.mk [] ?_ <;> (repeat' first | trivial)
 . exact hp
 . unfold fe
   rw [if_neg (by assumption)]
   refine af.mk [] ?_ <;> (repeat' first | trivial)
def uN : Sm := fun args σ => match args, σ with
 | [.ptr 0 0, .int .i64 no, .int .i64 wi, .int .u64 u], [.cells [.buf 1, .int .i64 n], .buf 1 0 L] => some (j4 n L ⟨no, wi, u, []⟩, .tuple [], some (cI (n + (dp (fe no wi u)).length) (L ++ bJ (fe no wi u))))
 | _, _ => none
theorem Cb : au 109 uN := by
 intro args sg pre x r he hp
 unfold uN at he
 split at he <;> cases he
 . exact Hr (hp := hp) ..
theorem HC (n : Int) (L : List V) (no : Int) (t : List UInt8) (hp : j4 n L ⟨no, 2, 0, t⟩) : OK 70 ([.ptr 0 0, .int .i64 no, .str t]) ([.cells [.buf 1, .int .i64 n], .buf 1 0 L]) (.tuple []) (some (cI (n + (dp (dt no t)).length) (L ++ bJ (dt no t)))) := by
 refine al (C := cx [(107, uP)]) (aq ⟨Cd, trivial⟩) (fn := Tryz.f70) rfl rfl rfl rfl fun hw hs => ?_
 repeat' ((conv => whnf); first | apply aj | apply aO | (apply fw <;> intro h))
 all_goals try conv => whnf
 all_goals try (refine ae.mk ?_; try dsimp only)
 . unfold dt
   rw [if_pos (by assumption), Ae, Am]
   refine af.mk [] ?_ <;> (repeat' first | trivial)
 . exact hp
 . unfold dt
   rw [if_neg (by assumption)]
   refine af.mk [] ?_ <;> (repeat' first | trivial)
theorem Hq  (hp : True) : OK 20 ([]) ([]) (.ptr 0 0) (some (cI 0 [])) := by
 refine al (C := cx []) (aq trivial) (fn := Tryz.f20) rfl rfl rfl rfl fun hw hs => ?_
 all_goals try conv => whnf
 all_goals try (refine ae.mk ?_; try dsimp only)
 refine af.mk [.cell 0 0 1] ?_ <;> (repeat' first | trivial)
def jZ : Sm := fun args σ => match args, σ with
 | [], [] => some (True, .ptr 0 0, some (cI 0 []))
 | _, _ => none
theorem lD : au 20 jZ := by
 intro args sg pre x r he hp
 unfold jZ at he
 split at he <;> cases he
 . exact Hq (hp := hp) ..
theorem Hs (n : Int) (L : List V) (hp : True) : OK 72 ([.ptr 0 0]) ([.cells [.buf 1, .int .i64 n], .buf 1 0 L]) (.int .i64 n) (none) := by
 refine al (C := cx []) (aq trivial) (fn := Tryz.f72) rfl rfl rfl rfl fun hw hs => ?_
 all_goals try conv => whnf
 all_goals try (refine ae.mk ?_; try dsimp only)
 refine af.mk [] ?_ <;> (repeat' first | trivial)
def yf : Sm := fun args σ => match args, σ with
 | [.ptr 0 0], [.cells [.buf 1, .int .i64 n], .buf 1 0 L] => some (True, .int .i64 n, none)
 | _, _ => none
theorem Lj : au 72 yf := by
 intro args sg pre x r he hp
 unfold yf at he
 split at he <;> cases he
 . exact Hs (hp := hp) ..
end Go.Proofs.YtdjolnjlhbfnmaaGreatDoor
namespace Go.Proofs.YtdjolnjlhbfnmaaGreatDoor
open Go Go.VG
set_option maxRecDepth 100000
def ye : Sm := fun args σ => match args, σ with
 | [.ptr 0 0, .iface 116 (.agg [.int .i64 no, .int .i64 2, .box [.list c 1 l, .int .i64 m] 0, .int .i64 k])], [.cells [.buf 1, .int .i64 n], .buf 1 0 L] => some (k = m ∧ (0 ≤ n ∧ n ≤ 1000000000) ∧ L.length ≤ 1000000 ∧ 0 ≤ m ∧ m ≤ 100000000, .tuple [], some (cI (n + ((cN no 2).length + (cm m.toNat).length + m.toNat : Nat)) (L ++ [.iface 116 (.agg [.int .i64 no, .int .i64 2, .box [.list c 1 l, .int .i64 m] 0, .int .i64 m])])))
 | _, _ => none
theorem Li : au 45 ye := by
 intro args sg pre x r he hp
 unfold ye at he
 split at he <;> cases he
 obtain ⟨rfl, h1, h2, h3⟩ := hp
 exact H2 _ _ _ _ _ _ h1 h2 h3
theorem Kx (n : Int) (L : List V) (no : Int) (m : Int) (l : List V) (hn : 0 ≤ n ∧ n ≤ 1000000000) (hL : L.length ≤ 1000000) (hm : 0 ≤ m ∧ m ≤ 100000000) (hM : bD no 2 = true) :
   OK 21 [.ptr 0 0, .int .i64 no, .ptr 1 0] [.cells [.buf 2, .int .i64 n], .cells [.buf 3, .int .i64 m], .buf 1 0 L, .buf 1 0 l] (.tuple []) (some [.cells [.buf 2, .int .i64 (n + ((cN no 2).length + (cm m.toNat).length + m.toNat : Nat))], .dead, .buf 1 0 (L ++ [.iface 116 (.agg [.int .i64 no, .int .i64 2, .box [.list false 1 l, .int .i64 m] 0, .int .i64 m])]), .dead, .buf 1 0 []]) := by
 refine al (C := nR [(44, ju), (45, ye)] [(2, [.bk 3]), (3, [.fbx 5])]) (aq ⟨kK, Li, trivial⟩) (fn := Tryz.f21) rfl rfl rfl rfl fun hw _ => ?_
 repeat' ((conv => whnf); first | apply aj | apply aO | (apply aw <;> intro h))
 all_goals try conv => whnf
 all_goals try (refine ae.mk ?_; try dsimp only)
 . exact ⟨by omega, rfl, by omega⟩
 . exact ⟨rfl, hn, hL, hm⟩
 . refine af.mk [.nw, .swap 4 6] ?_ <;> (repeat' first | trivial | apply ax | apply bo)
   all_goals (rw [List.take_of_length_le (by simp)])
 . have := of_decide_eq_true hM
   contradiction
end Go.Proofs.YtdjolnjlhbfnmaaGreatDoor
namespace Go.Proofs.YtdjolnjlhbfnmaaGreatDoor
open Go Go.VG
set_option maxRecDepth 100000
def dQ (no : Int) (l : List V) (m : Int) : List V := if bD no 2 = true then [.iface 116 (.agg [.int .i64 no, .int .i64 2, .box [.list false 1 l, .int .i64 m] 0, .int .i64 m])] else []
def jW (no m : Int) : Nat := if bD no 2 = true then (cN no 2).length + (cm m.toNat).length + m.toNat else 0
structure SOk (n : Int) (L : List V) (m : Int) : Prop where
 n : 0 ≤ n ∧ n ≤ 1000000000
 l : L.length ≤ 1000000
 m : 0 ≤ m ∧ m ≤ 100000000
abbrev nW (n : Int) (L : List V) (no : Int) (l : List V) (m : Int) : List O := [.cells [.buf 2, .int .i64 (n + jW no m)], .dead, .buf 1 0 (L ++ dQ no l m), .dead, .buf 1 0 []]
theorem sb_no (n : Int) (L : List V) (no : Int) (l : List V) (m : Int) (h : ¬ bD no 2 = true) : n + (jW no m : Int) = n ∧ L ++ dQ no l m = L := by
 unfold jW dQ
 rw [if_neg h, if_neg h]
 exact ⟨Int.add_zero n, List.append_nil L⟩
theorem KA (n : Int) (L : List V) (no : Int) (m : Int) (l : List V) (hM : ¬ bD no 2 = true) :
   OK 21 [.ptr 0 0, .int .i64 no, .ptr 1 0] [.cells [.buf 2, .int .i64 n], .cells [.buf 3, .int .i64 m], .buf 1 0 L, .buf 1 0 l] (.tuple []) (some (nW n L no l m)) := by
 refine al (C := cx [(44, ju)]) (aq ⟨kK, trivial⟩) (fn := Tryz.f21) rfl rfl rfl rfl fun hw _ => ?_
 have h1 := sb_no n L no l m hM
 rw [show nW n L no l m = _ by unfold nW; rw [h1.1, h1.2]]
 repeat' ((conv => whnf); first | apply aj | apply aO | (apply aw <;> intro h))
 all_goals try conv => whnf
 all_goals try (refine ae.mk ?_; try dsimp only)
 . exact absurd (decide_eq_true ‹_›) hM
 . exact absurd (decide_eq_true ‹_›) hM
 . refine af.mk [.nw, .swap 4 5] ?_ <;> (repeat' first | trivial)
theorem Kz (n : Int) (L : List V) (no : Int) (m : Int) (l : List V) (h : SOk n L m) :
   OK 21 [.ptr 0 0, .int .i64 no, .ptr 1 0] [.cells [.buf 2, .int .i64 n], .cells [.buf 3, .int .i64 m], .buf 1 0 L, .buf 1 0 l] (.tuple []) (some (nW n L no l m)) := by
 by_cases hM : bD no 2 = true
 . have := Kx n L no m l h.n h.l h.m hM
   unfold nW jW dQ
   rw [if_pos hM, if_pos hM]
   exact this
 . exact KA n L no m l hM
theorem Hw (n : Int) (L : List V) (no : Int) (m : Int) (l : List V) (hp : SOk n L m) : OK 21 ([.ptr 0 0, .int .i64 no, .ptr 1 0]) ([.cells [.buf 2, .int .i64 n], .cells [.buf 3, .int .i64 m], .buf 1 0 L, .buf 1 0 l]) (.tuple []) (some (nW n L no l m)) := by
 exact Kz n L no m l hp
theorem Hx (n : Int) (L : List V) (no : Int) (hp : True) : OK 21 ([.ptr 0 0, .int .i64 no, .nilptr]) ([.cells [.buf 1, .int .i64 n], .buf 1 0 L]) (.tuple []) (some (cI n L)) := by
 refine al (C := cx []) (aq trivial) (fn := Tryz.f21) rfl rfl rfl rfl fun hw _ => ?_
 all_goals try conv => whnf
 all_goals try (refine ae.mk ?_; try dsimp only)
 refine af.mk [] ?_ <;> (repeat' first | trivial)
def nk : Sm := fun args σ => match args, σ with
 | [.ptr 0 0, .int .i64 no, .ptr 1 0], [.cells [.buf 2, .int .i64 n], .cells [.buf 3, .int .i64 m], .buf 1 0 L, .buf 1 0 l] => some (SOk n L m, .tuple [], some (nW n L no l m))
 | [.ptr 0 0, .int .i64 no, .nilptr], [.cells [.buf 1, .int .i64 n], .buf 1 0 L] => some (True, .tuple [], some (cI n L))
 | _, _ => none
theorem pT : au 21 nk := by
 intro args sg pre x r he hp
 unfold nk at he
 split at he <;> cases he
 . exact Hw (hp := hp) ..
 . exact Hx (hp := hp) ..
def dP (no : Int) (l : List V) (m : Int) : List V := if m > 0 then dQ no l m else []
def jV (no m : Int) : Nat := if m > 0 then jW no m else 0
abbrev tw (n : Int) (L : List V) (no : Int) (l : List V) (m : Int) : List O := [.cells [.buf 2, .int .i64 (n + jV no m)], .dead, .buf 1 0 (L ++ dP no l m), .dead, .buf 1 0 []]
theorem Ht (n : Int) (L : List V) (no : Int) (m : Int) (l : List V) (hp : SOk n L m) : OK 47 ([.ptr 0 0, .int .i64 no, .ptr 1 0]) ([.cells [.buf 2, .int .i64 n], .cells [.buf 3, .int .i64 m], .buf 1 0 L, .buf 1 0 l]) (.tuple []) (some (tw n L no l m)) := by
 refine al (C := cx [(72, yf), (21, nk)]) (aq ⟨Lj, pT, trivial⟩) (fn := Tryz.f47) rfl rfl rfl rfl fun hw hs => ?_
 repeat' ((conv => whnf); first | apply aj | (apply aw <;> intro h))
 all_goals try conv => whnf
 all_goals try (refine ae.mk ?_; try dsimp only)
 . exact hp
 . unfold tw jV dP
   rw [if_pos (by assumption), if_pos (by assumption)]
   refine af.mk [] ?_ <;> (repeat' first | trivial)
 . unfold tw jV dP
   rw [if_neg (by omega), if_neg (by omega), show n + ((0 : Nat) : Int) = n from Int.add_zero n, List.append_nil]
   refine af.mk [.nw] ?_ <;> (repeat' first | trivial)
def nj : Sm := fun args σ => match args, σ with
 | [.ptr 0 0, .int .i64 no, .ptr 1 0], [.cells [.buf 2, .int .i64 n], .cells [.buf 3, .int .i64 m], .buf 1 0 L, .buf 1 0 l] => some (SOk n L m, .tuple [], some (tw n L no l m))
 | _, _ => none
theorem pS : au 47 nj := by
 intro args sg pre x r he hp
 unfold nj at he
 split at he <;> cases he
 . exact Ht (hp := hp) ..
theorem Hp (no wi u : Int) (t : List UInt8) (hp : True) : OK 45 ([.nilptr, .iface 243 (.agg [.int .i64 no, .int .i64 wi, .int .u64 u, .str t])]) ([]) (.tuple []) (none) := by
 refine al (C := cx []) (aq trivial) (fn := Tryz.f45) rfl rfl rfl rfl fun hw hs => ?_
 all_goals try conv => whnf
 all_goals try (refine ae.mk ?_; try dsimp only)
 refine af.mk [] ?_ <;> (repeat' first | trivial)
def yc : Sm := fun args σ => match args, σ with
 | [.nilptr, .iface 243 (.agg [.int .i64 no, .int .i64 wi, .int .u64 u, .str t])], [] => some (True, .tuple [], none)
 | _, _ => none
theorem Lh : au 45 yc := by
 intro args sg pre x r he hp
 unfold yc at he
 split at he <;> cases he
 . exact Hp (hp := hp) ..
theorem Hv (no wi u : Int) (t : List UInt8) (hp : True) : OK 143 ([.nilptr, .agg [.int .i64 no, .int .i64 wi, .int .u64 u, .str t]]) ([]) (.tuple []) (none) := by
 refine al (C := cx [(44, ju), (45, yc)]) (aq ⟨kK, Lh, trivial⟩) (fn := Tryz.f143) rfl rfl rfl rfl fun hw hs => ?_
 repeat' ((conv => whnf); first | apply aj | (apply aw <;> intro h))
 all_goals try conv => whnf
 all_goals try (refine ae.mk ?_; try dsimp only)
 . refine af.mk [] ?_ <;> (repeat' first | trivial)
 . refine af.mk [] ?_ <;> (repeat' first | trivial)
def yh : Sm := fun args σ => match args, σ with
 | [.nilptr, .agg [.int .i64 no, .int .i64 wi, .int .u64 u, .str t]], [] => some (True, .tuple [], none)
 | _, _ => none
theorem Lm : au 143 yh := by
 intro args sg pre x r he hp
 unfold yh at he
 split at he <;> cases he
 . exact Hv (hp := hp) ..
theorem Hy (no : Int) (t : List UInt8) (hp : True) : OK 107 ([.nilptr, .int .i64 no, .str t]) ([]) (.tuple []) (none) := by
 refine al (C := cx [(143, yh)]) (aq ⟨Lm, trivial⟩) (fn := Tryz.f107) rfl rfl rfl rfl fun hw hs => ?_
 repeat' ((conv => whnf); apply aj)
 all_goals try conv => whnf
 all_goals try (refine ae.mk ?_; try dsimp only)
 refine af.mk [] ?_ <;> (repeat' first | trivial)
def yi : Sm := fun args σ => match args, σ with
 | [.nilptr, .int .i64 no, .str t], [] => some (True, .tuple [], none)
 | _, _ => none
theorem Ln : au 107 yi := by
 intro args sg pre x r he hp
 unfold yi at he
 split at he <;> cases he
 . exact Hy (hp := hp) ..
theorem HA (n : Int) (L : List V) (no : Int) (t : List UInt8) (hp : j4 n L ⟨no, 2, 0, t⟩) : OK 70 ([.ptr 0 0, .int .i64 no, .str t]) ([.cells [.buf 1, .int .i64 n], .buf 1 0 L]) (.tuple []) (some (cI (n + (dp (dt no t)).length) (L ++ bJ (dt no t)))) := by
 exact HC _ _ _ _ hp
theorem HB (no : Int) (t : List UInt8) (hp : True) : OK 70 ([.nilptr, .int .i64 no, .str t]) ([]) (.tuple []) (none) := by
 refine al (C := cx [(107, yi)]) (aq ⟨Ln, trivial⟩) (fn := Tryz.f70) rfl rfl rfl rfl fun hw hs => ?_
 repeat' ((conv => whnf); first | apply aj | apply aO | (apply fw <;> intro h))
 all_goals try conv => whnf
 all_goals try (refine ae.mk ?_; try dsimp only)
 . refine af.mk [] ?_ <;> (repeat' first | trivial)
 . refine af.mk [] ?_ <;> (repeat' first | trivial)
def nn : Sm := fun args σ => match args, σ with
 | [.ptr 0 0, .int .i64 no, .str t], [.cells [.buf 1, .int .i64 n], .buf 1 0 L] => some (j4 n L ⟨no, 2, 0, t⟩, .tuple [], some (cI (n + (dp (dt no t)).length) (L ++ bJ (dt no t))))
 | [.nilptr, .int .i64 no, .str t], [] => some (True, .tuple [], none)
 | _, _ => none
theorem pU : au 70 nn := by
 intro args sg pre x r he hp
 unfold nn at he
 split at he <;> cases he
 . exact HA (hp := hp) ..
 . exact HB (hp := hp) ..
end Go.Proofs.YtdjolnjlhbfnmaaGreatDoor
