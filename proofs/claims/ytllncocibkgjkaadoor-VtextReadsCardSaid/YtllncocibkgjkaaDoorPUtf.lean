/-
  A part of the proof.
-/
import Derived.Test.YtllncocibkgjkaaDoorTxt0
set_option linter.unusedSimpArgs false
set_option linter.unusedVariables false
set_option maxHeartbeats 4000000
namespace Go.Proofs.YtllncocibkgjkaaDoor
open Go Go.VG
set_option maxRecDepth 100000
def eQ (s : List UInt8) : Nat → Nat → Int → Int
 | 0, _, n => n
 | r + 1, i, n => if s.length ≤ i then -1 else eQ s r (i + 1) (64 * n + ((s.getD i 0).toNat : Int) - 128)
def bN (s : List UInt8) : Int :=
 if (s.getD 0 0).toNat < 128 then ((s.getD 0 0).toNat : Int)
 else if 240 ≤ (s.getD 0 0).toNat then eQ s 3 1 (((s.getD 0 0).toNat : Int) - 240)
 else if 224 ≤ (s.getD 0 0).toNat then eQ s 2 1 (((s.getD 0 0).toNat : Int) - 224)
 else eQ s 1 1 (((s.getD 0 0).toNat : Int) - 192)
theorem Fw (s : List UInt8) (h0 : 0 < s.length) (hs : s.length ≤ 10000000) : OK 52 [.str s] [] (.int .i64 (bN s)) none := by
 refine aI (C := cx []) (aG trivial) (fn := Tryd.f52) rfl rfl rfl rfl fun _ _ => ?_
 have hc0 : (s.getD 0 0).toNat < 256 := UInt8.toNat_lt _
 have hw0 : IntKind.i64.wrap ((s.getD (Int.toNat 0) 0).toNat : Int) = ((s.getD 0 0).toNat : Int) := by
  have e : Int.toNat 0 = 0 := rfl
  rw [e, iO] <;> omega
 repeat' ((conv => whnf); first | apply ai | (apply aj <;> intro h) | with_reducible refine b9 ?_ fun hc => ?_)
 all_goals try conv => whnf
 all_goals try (refine a8.mk ?_; try dsimp only)
 all_goals first | refine stay ?_ | trivial | skip
 all_goals simp only [hw0] at *
 . refine ab.mk [] ?_ <;> (repeat' first | trivial | apply aa | apply ar)
   unfold bN
   rw [if_pos (by omega)]
 . have hg : bN s = eQ s 3 1 (((s.getD 0 0).toNat : Int) - 240) := by
     unfold bN
     repeat (first | rw [if_pos (by omega)] | rw [if_neg (by omega)])
   refine cB.mk (Nat × Int) (fun | (i, n) => i ≤ 3 + 1 ∧ eQ s (3 + 1 - i) i n = bN s ∧ ((i = 1 ∧ -64 ≤ n ∧ n ≤ 64) ∨ (i = 2 ∧ -4300 ≤ n ∧ n ≤ 4300) ∨ (i = 3 ∧ -300000 ≤ n ∧ n ≤ 300000) ∨ (i = 4 ∧ -20000000 ≤ n ∧ n ≤ 20000000)))
    (fun | (i, n) => ⟨41, [(6, .int .i64 i), (5, .int .i64 3), (4, .int .i64 n), (0, .str s)], [], []⟩) (fun x => 3 + 1 - x.1) [] (1, ((s.getD 0 0).toNat : Int) - 240) ⟨by omega, hg.symm, by omega⟩ ?_ (fun ⟨i, n⟩ ⟨hi, he, hb⟩ _ _ => ?_)
   . refine Go.VG.Sub.mk rfl ?_ ?_ ?_ ?_ <;> (repeat' first | trivial | apply aa | apply ar)
     all_goals (simp (discharger := omega) only [wR]; omega)
   have hci : (s.getD i 0).toNat < 256 := UInt8.toNat_lt _
   repeat' ((conv => whnf); first | apply ai | (apply aj <;> intro h) | with_reducible refine aY ?_ fun hc => ?_)
   all_goals try conv => whnf
   all_goals try (refine a8.mk ?_; try dsimp only)
   all_goals first | refine stay ?_ | omega | skip
   . refine ab.mk [] ?_ <;> (repeat' first | trivial | apply aa | apply ar)
     rw [← he, show 3 + 1 - i = (3 - i) + 1 by omega, eQ, if_pos (by omega)]
   . rw [show 3 + 1 - i = (3 - i) + 1 by omega, eQ, if_neg (by omega)] at he
     refine ⟨[], (i + 1, 64 * n + ((s.getD i 0).toNat : Int) - 128), ⟨by omega, ?_, ?_⟩, ?_, ?_⟩
     . rw [show 3 + 1 - (i + 1) = 3 - i by omega]; exact he
     . omega
     . refine Go.VG.Sub.mk rfl ?_ ?_ ?_ ?_ <;> (repeat' first | trivial | apply aa | apply ar)
       all_goals (simp (discharger := omega) only [wR]; omega)
     . omega
   . refine ab.mk [] ?_ <;> (repeat' first | trivial | apply aa | apply ar)
     rw [show 3 + 1 - i = 0 by omega, eQ] at he
     exact he
 . have hg : bN s = eQ s 2 1 (((s.getD 0 0).toNat : Int) - 224) := by
     unfold bN
     repeat (first | rw [if_pos (by omega)] | rw [if_neg (by omega)])
   refine cB.mk (Nat × Int) (fun | (i, n) => i ≤ 2 + 1 ∧ eQ s (2 + 1 - i) i n = bN s ∧ ((i = 1 ∧ -64 ≤ n ∧ n ≤ 64) ∨ (i = 2 ∧ -4300 ≤ n ∧ n ≤ 4300) ∨ (i = 3 ∧ -300000 ≤ n ∧ n ≤ 300000) ∨ (i = 4 ∧ -20000000 ≤ n ∧ n ≤ 20000000)))
    (fun | (i, n) => ⟨41, [(6, .int .i64 i), (5, .int .i64 2), (4, .int .i64 n), (0, .str s)], [], []⟩) (fun x => 2 + 1 - x.1) [] (1, ((s.getD 0 0).toNat : Int) - 224) ⟨by omega, hg.symm, by omega⟩ ?_ (fun ⟨i, n⟩ ⟨hi, he, hb⟩ _ _ => ?_)
   . refine Go.VG.Sub.mk rfl ?_ ?_ ?_ ?_ <;> (repeat' first | trivial | apply aa | apply ar)
     all_goals (simp (discharger := omega) only [wR]; omega)
   have hci : (s.getD i 0).toNat < 256 := UInt8.toNat_lt _
   repeat' ((conv => whnf); first | apply ai | (apply aj <;> intro h) | with_reducible refine aY ?_ fun hc => ?_)
   all_goals try conv => whnf
   all_goals try (refine a8.mk ?_; try dsimp only)
   all_goals first | refine stay ?_ | omega | skip
   . refine ab.mk [] ?_ <;> (repeat' first | trivial | apply aa | apply ar)
     rw [← he, show 2 + 1 - i = (2 - i) + 1 by omega, eQ, if_pos (by omega)]
   . rw [show 2 + 1 - i = (2 - i) + 1 by omega, eQ, if_neg (by omega)] at he
     refine ⟨[], (i + 1, 64 * n + ((s.getD i 0).toNat : Int) - 128), ⟨by omega, ?_, ?_⟩, ?_, ?_⟩
     . rw [show 2 + 1 - (i + 1) = 2 - i by omega]; exact he
     . omega
     . refine Go.VG.Sub.mk rfl ?_ ?_ ?_ ?_ <;> (repeat' first | trivial | apply aa | apply ar)
       all_goals (simp (discharger := omega) only [wR]; omega)
     . omega
   . refine ab.mk [] ?_ <;> (repeat' first | trivial | apply aa | apply ar)
     rw [show 2 + 1 - i = 0 by omega, eQ] at he
     exact he
 . have hg : bN s = eQ s 1 1 (((s.getD 0 0).toNat : Int) - 192) := by
     unfold bN
     repeat (first | rw [if_pos (by omega)] | rw [if_neg (by omega)])
   refine cB.mk (Nat × Int) (fun | (i, n) => i ≤ 1 + 1 ∧ eQ s (1 + 1 - i) i n = bN s ∧ ((i = 1 ∧ -64 ≤ n ∧ n ≤ 64) ∨ (i = 2 ∧ -4300 ≤ n ∧ n ≤ 4300) ∨ (i = 3 ∧ -300000 ≤ n ∧ n ≤ 300000) ∨ (i = 4 ∧ -20000000 ≤ n ∧ n ≤ 20000000)))
    (fun | (i, n) => ⟨41, [(6, .int .i64 i), (5, .int .i64 1), (4, .int .i64 n), (0, .str s)], [], []⟩) (fun x => 1 + 1 - x.1) [] (1, ((s.getD 0 0).toNat : Int) - 192) ⟨by omega, hg.symm, by omega⟩ ?_ (fun ⟨i, n⟩ ⟨hi, he, hb⟩ _ _ => ?_)
   . refine Go.VG.Sub.mk rfl ?_ ?_ ?_ ?_ <;> (repeat' first | trivial | apply aa | apply ar)
     all_goals (simp (discharger := omega) only [wR]; omega)
   have hci : (s.getD i 0).toNat < 256 := UInt8.toNat_lt _
   repeat' ((conv => whnf); first | apply ai | (apply aj <;> intro h) | with_reducible refine aY ?_ fun hc => ?_)
   all_goals try conv => whnf
   all_goals try (refine a8.mk ?_; try dsimp only)
   all_goals first | refine stay ?_ | omega | skip
   . refine ab.mk [] ?_ <;> (repeat' first | trivial | apply aa | apply ar)
     rw [← he, show 1 + 1 - i = (1 - i) + 1 by omega, eQ, if_pos (by omega)]
   . rw [show 1 + 1 - i = (1 - i) + 1 by omega, eQ, if_neg (by omega)] at he
     refine ⟨[], (i + 1, 64 * n + ((s.getD i 0).toNat : Int) - 128), ⟨by omega, ?_, ?_⟩, ?_, ?_⟩
     . rw [show 1 + 1 - (i + 1) = 1 - i by omega]; exact he
     . omega
     . refine Go.VG.Sub.mk rfl ?_ ?_ ?_ ?_ <;> (repeat' first | trivial | apply aa | apply ar)
       all_goals (simp (discharger := omega) only [wR]; omega)
     . omega
   . refine ab.mk [] ?_ <;> (repeat' first | trivial | apply aa | apply ar)
     rw [show 1 + 1 - i = 0 by omega, eQ] at he
     exact he
def wS : Sm := fun args σ => match args, σ with
 | [.str s], [] => some (0 < s.length ∧ s.length ≤ 10000000, .int .i64 (bN s), none)
 | _, _ => none
theorem GX : aE 52 wS := by
 intro args sg pre x r he hp
 unfold wS at he
 split at he <;> cases he
 exact Fw _ hp.1 hp.2
def d6 (r : Int) : Bool := decide (0 ≤ r ∧ r ≤ 1114111 ∧ (r < 55296 ∨ 57343 < r))
theorem f_uIs (r : Int) (h0 : 0 ≤ r) (h1 : r ≤ 1114111) : OK 53 [.int .i32 r] [] (.bool (d6 r)) none := by
 refine aI (C := cx []) (aG trivial) (fn := Tryd.f53) rfl rfl rfl rfl fun _ _ => ?_
 repeat' ((conv => whnf); (apply aj <;> intro h))
 all_goals try conv => whnf
 all_goals try (refine a8.mk ?_; try dsimp only)
 all_goals try refine stay ?_
 all_goals
  refine ab.mk [] ?_ <;> (repeat' first | trivial | apply aa | apply aK)
  try unfold d6
 all_goals first
  | exact (decide_eq_true (by omega)).symm
  | exact (decide_eq_false (by omega)).symm
  | exact decide_eq_decide.2 (by constructor <;> intro _ <;> omega)
def wT : Sm := fun args σ => match args, σ with
 | [.int .i32 r], [] => some (0 ≤ r ∧ r ≤ 1114111, .bool (d6 r), none)
 | _, _ => none
theorem k_uIs : aE 53 wT := by
 intro args sg pre x r he hp
 unfold wT at he
 split at he <;> cases he
 exact f_uIs _ hp.1 hp.2
def bQ (n : Int) : List UInt8 :=
 if n < 128 then [byte n]
 else if n < 2048 then [byte (192 + n / 64), byte (128 + n % 64)]
 else if n < 65536 then [byte (224 + n / 4096), byte (128 + n / 64 % 64), byte (128 + n % 64)]
 else [byte (240 + n / 262144), byte (128 + n / 4096 % 64), byte (128 + n / 64 % 64), byte (128 + n % 64)]
theorem Ft (n : Int) (h0 : 0 ≤ n) (h1 : n ≤ 1114111) : OK 54 [.int .i32 n] [] (.str (bQ n)) none := by
 refine aI (C := cx []) (aG trivial) (fn := Tryd.f54) rfl rfl rfl rfl fun _ _ => ?_
 have hw : IntKind.i64.wrap n = n := by rw [iO]; omega
 have q1 : n.tdiv 64 = n / 64 := Int.tdiv_eq_ediv_of_nonneg h0
 repeat' ((conv => whnf); first | apply ai | (apply aj <;> intro h) | apply bh | apply bp | apply bq | apply br)
 all_goals try conv => whnf
 all_goals try (refine a8.mk ?_; try dsimp only)
 all_goals first | refine stay ?_ | trivial | (simp (discharger := omega) only [wR]; omega) | skip
 all_goals simp only [hw] at *
 all_goals
  refine ab.mk [] ?_ <;> (repeat' first | trivial | apply aa | apply aU)
  unfold bQ
  repeat (first | rw [if_pos (by omega)] | rw [if_neg (by omega)])
  repeat' (first | rfl | refine congrArg byte ?_ | refine px ?_ ?_)
  all_goals (simp (discharger := omega) only [wR]; omega)
def wP : Sm := fun args σ => match args, σ with
 | [.int .i32 n], [] => some (0 ≤ n ∧ n ≤ 1114111, .str (bQ n), none)
 | _, _ => none
theorem GV : aE 54 wP := by
 intro args sg pre x r he hp
 unfold wP at he
 split at he <;> cases he
 exact Ft _ hp.1 hp.2
theorem qS (n : Int) : 1 ≤ (bQ n).length ∧ (bQ n).length ≤ 4 := by
 unfold bQ
 repeat' split
 all_goals simp
def bI (s : List UInt8) (i : Nat) : Int × Nat :=
 if s.length ≤ i then (0, 0)
 else if bN (s.drop i) < 0 ∨ 1114111 < bN (s.drop i) ∨ d6 (bN (s.drop i)) = false then (0, 0)
 else if (s.drop i).take (bQ (bN (s.drop i))).length = bQ (bN (s.drop i)) then (bN (s.drop i), (bQ (bN (s.drop i))).length)
 else (0, 0)
theorem FF (s : List UInt8) (i : Nat) (hs : s.length ≤ 10000000) : OK 34 [.str s, .int .i64 i] [] (.tuple [.int .i32 (bI s i).1, .int .i64 (bI s i).2]) none := by
 refine aI (C := cx [(52, wS), (53, wT), (54, wP)]) (aG ⟨GX, k_uIs, GV, trivial⟩) (fn := Tryd.f34) rfl rfl rfl rfl fun hw _ => ?_
 have hl := qS (bN (s.drop i))
 have hg : 0 ≤ bN (s.drop i) → bN (s.drop i) ≤ 1114111 → IntKind.i32.wrap (bN (s.drop i)) = bN (s.drop i) := fun a b => by rw [mf]; omega
 have hr : bI s i = if s.length ≤ i then (0, 0)
  else if bN (s.drop i) < 0 ∨ 1114111 < bN (s.drop i) ∨ d6 (bN (s.drop i)) = false then (0, 0)
  else if (s.drop i).take (bQ (bN (s.drop i))).length = bQ (bN (s.drop i)) then (bN (s.drop i), (bQ (bN (s.drop i))).length)
  else (0, 0) := rfl
 repeat' ((conv => whnf); first | apply ai | apply aw | ((first | apply aj | apply bm) <;> intro h))
 all_goals try conv => whnf
 all_goals try (refine a8.mk ?_; try dsimp only)
 all_goals first | refine stay ?_ | omega | (simp (discharger := omega) only [wR]; omega) | (simp only [ax]; omega) | skip
 all_goals try simp only [Int.toNat_natCast] at *
 . rw [hr, if_pos (by omega)]
   refine ab.mk [] ?_ <;> (repeat' first | trivial)
 . rw [hr, if_neg (by omega), if_pos (.inl (by assumption))]
   refine ab.mk [] ?_ <;> (repeat' first | trivial)
 . rw [hr, if_neg (by omega), if_pos (.inr (.inl (by assumption)))]
   refine ab.mk [] ?_ <;> (repeat' first | trivial)
 all_goals have hg' := hg (by omega) (by omega)
 all_goals have hw1 : IntKind.i64.wrap ((s.length : Int) - (i : Int)) = (s.length : Int) - i := by rw [iO]; omega
 all_goals have hw2 : IntKind.i64.wrap ((i : Int) + ((bQ (bN (s.drop i))).length : Int)) = ((i + (bQ (bN (s.drop i))).length : Nat) : Int) := by rw [iO]; omega
 all_goals simp only [hg', hw1, hw2, Int.toNat_natCast] at *
 . rw [hr, if_neg (by omega)]
   have hn : ¬ (s.drop i).take (bQ (bN (s.drop i))).length = bQ (bN (s.drop i)) := fun e => by
    have := congrArg List.length e
    rw [List.length_take, List.length_drop] at this
    omega
   rw [if_neg hn, ite_self]
   refine ab.mk [] ?_ <;> (repeat' first | trivial)
 . omega
 all_goals (have hI : d6 (bN (s.drop i)) = decide (0 ≤ bN (s.drop i) ∧ bN (s.drop i) ≤ 1114111 ∧ (bN (s.drop i) < 55296 ∨ 57343 < bN (s.drop i))) := rfl)
 . rw [hr, if_neg (by omega)]
   have e : (s.drop i).take (bQ (bN (s.drop i))).length = bQ (bN (s.drop i)) := by
    rw [List.take_drop]; assumption
   rw [if_neg (by rw [hI, decide_eq_false_iff_not]; omega), if_pos e]
   refine ab.mk [] ?_ <;> (repeat' first | trivial)
 . rw [hr, if_neg (by omega)]
   have e : ¬ (s.drop i).take (bQ (bN (s.drop i))).length = bQ (bN (s.drop i)) := by
    rw [List.take_drop]; assumption
   rw [if_neg e, ite_self]
   refine ab.mk [] ?_ <;> (repeat' first | trivial)
 . rw [hr, if_neg (by omega), if_pos (.inr (.inr (by rw [hI]; exact decide_eq_false (by assumption))))]
   refine ab.mk [] ?_ <;> (repeat' first | trivial)
def wX : Sm := fun args σ => match args, σ with
 | [.str s, .int .i64 (.ofNat i)], [] => some (s.length ≤ 10000000, .tuple [.int .i32 (bI s i).1, .int .i64 (bI s i).2], none)
 | _, _ => none
theorem H2 : aE 34 wX := by
 intro args sg pre x r he hp
 unfold wX at he
 split at he <;> cases he
 exact FF _ _ hp
theorem qT (s : List UInt8) (i : Nat) : (bI s i).2 ≤ 4 ∧ ((bI s i).2 = 0 ∨ i + (bI s i).2 ≤ s.length) := by
 unfold bI
 have hl := qS (bN (s.drop i))
 split
 . simp
 . split
   . simp
   . split
     . rename_i h
       have := congrArg List.length h
       rw [List.length_take, List.length_drop] at this
       simp only; omega
     . simp
def dC (s : List UInt8) (i c : Nat) : Nat × Nat :=
 if s.length ≤ i then (i, c)
 else if h : (bI s i).2 = 0 then (i, c)
 else dC s (i + (bI s i).2) (c + 1)
termination_by s.length - i
decreasing_by omega
theorem FI (s : List UInt8) (hs : s.length ≤ 10000000) : OK 24 [.str s] [] (.tuple [.int .i64 (dC s 0 0).1, .int .i64 (dC s 0 0).2]) none := by
 refine aI (C := cx [(34, wX)]) (aG ⟨H2, trivial⟩) (fn := Tryd.f24) rfl rfl rfl rfl fun hw _ => ?_
 refine cB.mk (Nat × Nat) (fun | (i, c) => i ≤ s.length ∧ c ≤ i ∧ dC s i c = dC s 0 0)
  (fun | (i, c) => ⟨29, [(4, .int .i64 i), (5, .int .i64 c), (0, .str s)], [], []⟩) (fun x => s.length - x.1) [] (0, 0) ⟨by omega, by omega, rfl⟩ ?_ (fun ⟨i, c⟩ ⟨hi, hc, he⟩ _ _ => ?_)
 . refine Go.VG.Sub.mk rfl ?_ ?_ ?_ ?_ <;> (repeat' first | trivial | rfl | exact aV _ _ | apply aa | apply aU | apply ar | apply aK | apply ak | apply aS | apply aW | apply aX | apply aO | apply aJ)
 have hr := qT s i
 repeat' ((conv => whnf); first | with_reducible (first | refine bg (fun j q h => ?_) fun h => ?_ | refine go2 ⟨rfl, rfl⟩ (fun h => ?_) fun j h => ?_ | refine go2 ?_ (fun h => ?_) fun j h => ?_ | refine aL ?_ (fun h => ?_) fun h => ?_) | apply ai | apply aT | apply aw | ((first | apply aj | apply bB | apply bC | apply bm | apply bc) <;> intro h) | with_reducible (first | refine aQ.mk _ rfl ?_ | refine bn ?_ fun hc => ?_ | refine bo ?_ fun hc => ?_ | refine aY ?_ fun hc => ?_ | refine b9 ?_ fun hc => ?_ | apply bd | apply bf | refine b6 ?_ fun b hb => ?_) | apply b7 | apply bh | apply bp | apply bq | apply br | apply goN | apply bz | with_reducible refine bA ?_)
 all_goals try conv => whnf
 all_goals try (refine a8.mk ?_; try dsimp only)
 all_goals first | refine stay ?_ | trivial | omega | (simp (discharger := omega) only [wR]; omega) | (simp only [ax]; omega) | (simp (discharger := omega) [-List.getD_eq_getElem?_getD, wR] <;> omega) | skip
 . rw [dC, if_neg (by omega), dif_pos (by omega)] at he
   rw [← he]
   refine ab.mk [] ?_ <;> (repeat' first | trivial | rfl | exact aV _ _ | apply aa | apply aU | apply ar | apply aK | apply ak | apply aS | apply aW | apply aX | apply aO | apply aJ)
 . rw [dC, if_neg (by omega), dif_neg (by omega)] at he
   refine ⟨[], (i + (bI s i).2, c + 1), ⟨by omega, by omega, he⟩, ?_, by omega⟩
   refine Go.VG.Sub.mk rfl ?_ ?_ ?_ ?_ <;> (repeat' first | trivial | rfl | exact aV _ _ | apply aa | apply aU | apply ar | apply aK | apply ak | apply aS | apply aW | apply aX | apply aO | apply aJ)
   all_goals (first | omega | (simp (discharger := omega) only [wR]; omega) | (simp only [ax]; omega) | (simp (discharger := omega) [-List.getD_eq_getElem?_getD, wR] <;> omega))
 . rw [dC, if_pos (by omega)] at he
   rw [← he]
   refine ab.mk [] ?_ <;> (repeat' first | trivial | rfl | exact aV _ _ | apply aa | apply aU | apply ar | apply aK | apply ak | apply aS | apply aW | apply aX | apply aO | apply aJ)
def wZ : Sm := fun args σ => match args, σ with
 | [.str s], [] => some (s.length ≤ 10000000, .tuple [.int .i64 (dC s 0 0).1, .int .i64 (dC s 0 0).2], none)
 | _, _ => none
theorem H4 : aE 24 wZ := by
 intro args sg pre x r he hp
 unfold wZ at he
 split at he <;> cases he
 exact FI _ hp
def fi (s : List UInt8) : Int := if (dC s 0 0).1 = s.length then -1 else (dC s 0 0).1
theorem Fu (s : List UInt8) (hs : s.length ≤ 10000000) : OK 13 [.str s] [] (.int .i64 (fi s)) none := by
 refine aI (C := cx [(24, wZ)]) (aG ⟨H4, trivial⟩) (fn := Tryd.f13) rfl rfl rfl rfl fun hw _ => ?_
 repeat' ((conv => whnf); first | with_reducible (first | refine bg (fun j q h => ?_) fun h => ?_ | refine go2 ⟨rfl, rfl⟩ (fun h => ?_) fun j h => ?_ | refine go2 ?_ (fun h => ?_) fun j h => ?_ | refine aL ?_ (fun h => ?_) fun h => ?_) | apply ai | apply aT | apply aw | ((first | apply aj | apply bB | apply bC | apply bm | apply bc) <;> intro h) | with_reducible (first | refine aQ.mk _ rfl ?_ | refine bn ?_ fun hc => ?_ | refine bo ?_ fun hc => ?_ | refine aY ?_ fun hc => ?_ | refine b9 ?_ fun hc => ?_ | apply bd | apply bf | refine b6 ?_ fun b hb => ?_) | apply b7 | apply bh | apply bp | apply bq | apply br | apply goN | apply bz | with_reducible refine bA ?_)
 all_goals try conv => whnf
 all_goals try (refine a8.mk ?_; try dsimp only)
 all_goals first | refine stay ?_ | trivial | omega | (simp (discharger := omega) only [wR]; omega) | (simp only [ax]; omega) | (simp (discharger := omega) [-List.getD_eq_getElem?_getD, wR] <;> omega) | skip
 all_goals unfold fi
 . rw [if_pos (by omega)]
   refine ab.mk [] ?_ <;> (repeat' first | trivial | rfl | exact aV _ _ | apply aa | apply aU | apply ar | apply aK | apply ak | apply aS | apply aW | apply aX | apply aO | apply aJ)
 . rw [if_neg (by omega)]
   refine ab.mk [] ?_ <;> (repeat' first | trivial | rfl | exact aV _ _ | apply aa | apply aU | apply ar | apply aK | apply ak | apply aS | apply aW | apply aX | apply aO | apply aJ)
def sZ : Sm := fun args σ => match args, σ with
 | [.str s], [] => some (s.length ≤ 10000000, .int .i64 (fi s), none)
 | _, _ => none
theorem zO : aE 13 sZ := by
 intro args sg pre x r he hp
 unfold sZ at he
 split at he <;> cases he
 exact Fu _ hp
end Go.Proofs.YtllncocibkgjkaaDoor
