/-
  A part of the proof.
-/
import Derived.Test.YtllncocibkgjkaaGreatTxt0
set_option linter.unusedSimpArgs false
set_option linter.unusedVariables false
set_option maxHeartbeats 4000000
namespace Go.Proofs.YtllncocibkgjkaaGreat
open Go Go.VG
set_option maxRecDepth 100000
def ec (s : List UInt8) : Nat → Nat → Int → Int
 | 0, _, n => n
 | r + 1, i, n => if s.length ≤ i then -1 else ec s r (i + 1) (64 * n + ((s.getD i 0).toNat : Int) - 128)
def b9 (s : List UInt8) : Int :=
 if (s.getD 0 0).toNat < 128 then ((s.getD 0 0).toNat : Int)
 else if 240 ≤ (s.getD 0 0).toNat then ec s 3 1 (((s.getD 0 0).toNat : Int) - 240)
 else if 224 ≤ (s.getD 0 0).toNat then ec s 2 1 (((s.getD 0 0).toNat : Int) - 224)
 else ec s 1 1 (((s.getD 0 0).toNat : Int) - 192)
theorem Hb (s : List UInt8) (h0 : 0 < s.length) (hs : s.length ≤ 10000000) : OK 140 [.str s] [] (.int .i64 (b9 s)) none := by
 refine au (C := cx []) (aq trivial) (fn := Tryz.f140) rfl rfl rfl rfl fun _ _ => ?_
 have hc0 : (s.getD 0 0).toNat < 256 := UInt8.toNat_lt _
 have hw0 : IntKind.i64.wrap ((s.getD (Int.toNat 0) 0).toNat : Int) = ((s.getD 0 0).toNat : Int) := by
  have e : Int.toNat 0 = 0 := rfl
  rw [e, c5] <;> omega
 repeat' ((conv => whnf); first | apply ak | (apply al <;> intro h) | with_reducible refine eH ?_ fun hc => ?_)
 all_goals try conv => whnf
 all_goals try (refine a9.mk ?_; try dsimp only)
 all_goals first | refine stay ?_ | trivial | skip
 all_goals simp only [hw0] at *
 . refine a8.mk [] ?_ <;> (repeat' first | trivial | apply ae | apply aI)
   unfold b9
   rw [if_pos (by omega)]
 . have hg : b9 s = ec s 3 1 (((s.getD 0 0).toNat : Int) - 240) := by
     unfold b9
     repeat (first | rw [if_pos (by omega)] | rw [if_neg (by omega)])
   refine aU.mk (Nat × Int) (fun | (i, n) => i ≤ 3 + 1 ∧ ec s (3 + 1 - i) i n = b9 s ∧ ((i = 1 ∧ -64 ≤ n ∧ n ≤ 64) ∨ (i = 2 ∧ -4300 ≤ n ∧ n ≤ 4300) ∨ (i = 3 ∧ -300000 ≤ n ∧ n ≤ 300000) ∨ (i = 4 ∧ -20000000 ≤ n ∧ n ≤ 20000000)))
    (fun | (i, n) => ⟨41, [(6, .int .i64 i), (5, .int .i64 3), (4, .int .i64 n), (0, .str s)], [], []⟩) (fun x => 3 + 1 - x.1) [] (1, ((s.getD 0 0).toNat : Int) - 240) ⟨by omega, hg.symm, by omega⟩ ?_ (fun ⟨i, n⟩ ⟨hi, he, hb⟩ _ _ => ?_)
   . refine Go.VG.Sub.mk rfl ?_ ?_ ?_ ?_ <;> (repeat' first | trivial | apply ae | apply aI)
     all_goals (simp (discharger := omega) only [wR]; omega)
   have hci : (s.getD i 0).toNat < 256 := UInt8.toNat_lt _
   repeat' ((conv => whnf); first | apply ak | (apply al <;> intro h) | with_reducible refine c8 ?_ fun hc => ?_)
   all_goals try conv => whnf
   all_goals try (refine a9.mk ?_; try dsimp only)
   all_goals first | refine stay ?_ | omega | skip
   . refine a8.mk [] ?_ <;> (repeat' first | trivial | apply ae | apply aI)
     rw [← he, show 3 + 1 - i = (3 - i) + 1 by omega, ec, if_pos (by omega)]
   . rw [show 3 + 1 - i = (3 - i) + 1 by omega, ec, if_neg (by omega)] at he
     refine ⟨[], (i + 1, 64 * n + ((s.getD i 0).toNat : Int) - 128), ⟨by omega, ?_, ?_⟩, ?_, ?_⟩
     . rw [show 3 + 1 - (i + 1) = 3 - i by omega]; exact he
     . omega
     . refine Go.VG.Sub.mk rfl ?_ ?_ ?_ ?_ <;> (repeat' first | trivial | apply ae | apply aI)
       all_goals (simp (discharger := omega) only [wR]; omega)
     . omega
   . refine a8.mk [] ?_ <;> (repeat' first | trivial | apply ae | apply aI)
     rw [show 3 + 1 - i = 0 by omega, ec] at he
     exact he
 . have hg : b9 s = ec s 2 1 (((s.getD 0 0).toNat : Int) - 224) := by
     unfold b9
     repeat (first | rw [if_pos (by omega)] | rw [if_neg (by omega)])
   refine aU.mk (Nat × Int) (fun | (i, n) => i ≤ 2 + 1 ∧ ec s (2 + 1 - i) i n = b9 s ∧ ((i = 1 ∧ -64 ≤ n ∧ n ≤ 64) ∨ (i = 2 ∧ -4300 ≤ n ∧ n ≤ 4300) ∨ (i = 3 ∧ -300000 ≤ n ∧ n ≤ 300000) ∨ (i = 4 ∧ -20000000 ≤ n ∧ n ≤ 20000000)))
    (fun | (i, n) => ⟨41, [(6, .int .i64 i), (5, .int .i64 2), (4, .int .i64 n), (0, .str s)], [], []⟩) (fun x => 2 + 1 - x.1) [] (1, ((s.getD 0 0).toNat : Int) - 224) ⟨by omega, hg.symm, by omega⟩ ?_ (fun ⟨i, n⟩ ⟨hi, he, hb⟩ _ _ => ?_)
   . refine Go.VG.Sub.mk rfl ?_ ?_ ?_ ?_ <;> (repeat' first | trivial | apply ae | apply aI)
     all_goals (simp (discharger := omega) only [wR]; omega)
   have hci : (s.getD i 0).toNat < 256 := UInt8.toNat_lt _
   repeat' ((conv => whnf); first | apply ak | (apply al <;> intro h) | with_reducible refine c8 ?_ fun hc => ?_)
   all_goals try conv => whnf
   all_goals try (refine a9.mk ?_; try dsimp only)
   all_goals first | refine stay ?_ | omega | skip
   . refine a8.mk [] ?_ <;> (repeat' first | trivial | apply ae | apply aI)
     rw [← he, show 2 + 1 - i = (2 - i) + 1 by omega, ec, if_pos (by omega)]
   . rw [show 2 + 1 - i = (2 - i) + 1 by omega, ec, if_neg (by omega)] at he
     refine ⟨[], (i + 1, 64 * n + ((s.getD i 0).toNat : Int) - 128), ⟨by omega, ?_, ?_⟩, ?_, ?_⟩
     . rw [show 2 + 1 - (i + 1) = 2 - i by omega]; exact he
     . omega
     . refine Go.VG.Sub.mk rfl ?_ ?_ ?_ ?_ <;> (repeat' first | trivial | apply ae | apply aI)
       all_goals (simp (discharger := omega) only [wR]; omega)
     . omega
   . refine a8.mk [] ?_ <;> (repeat' first | trivial | apply ae | apply aI)
     rw [show 2 + 1 - i = 0 by omega, ec] at he
     exact he
 . have hg : b9 s = ec s 1 1 (((s.getD 0 0).toNat : Int) - 192) := by
     unfold b9
     repeat (first | rw [if_pos (by omega)] | rw [if_neg (by omega)])
   refine aU.mk (Nat × Int) (fun | (i, n) => i ≤ 1 + 1 ∧ ec s (1 + 1 - i) i n = b9 s ∧ ((i = 1 ∧ -64 ≤ n ∧ n ≤ 64) ∨ (i = 2 ∧ -4300 ≤ n ∧ n ≤ 4300) ∨ (i = 3 ∧ -300000 ≤ n ∧ n ≤ 300000) ∨ (i = 4 ∧ -20000000 ≤ n ∧ n ≤ 20000000)))
    (fun | (i, n) => ⟨41, [(6, .int .i64 i), (5, .int .i64 1), (4, .int .i64 n), (0, .str s)], [], []⟩) (fun x => 1 + 1 - x.1) [] (1, ((s.getD 0 0).toNat : Int) - 192) ⟨by omega, hg.symm, by omega⟩ ?_ (fun ⟨i, n⟩ ⟨hi, he, hb⟩ _ _ => ?_)
   . refine Go.VG.Sub.mk rfl ?_ ?_ ?_ ?_ <;> (repeat' first | trivial | apply ae | apply aI)
     all_goals (simp (discharger := omega) only [wR]; omega)
   have hci : (s.getD i 0).toNat < 256 := UInt8.toNat_lt _
   repeat' ((conv => whnf); first | apply ak | (apply al <;> intro h) | with_reducible refine c8 ?_ fun hc => ?_)
   all_goals try conv => whnf
   all_goals try (refine a9.mk ?_; try dsimp only)
   all_goals first | refine stay ?_ | omega | skip
   . refine a8.mk [] ?_ <;> (repeat' first | trivial | apply ae | apply aI)
     rw [← he, show 1 + 1 - i = (1 - i) + 1 by omega, ec, if_pos (by omega)]
   . rw [show 1 + 1 - i = (1 - i) + 1 by omega, ec, if_neg (by omega)] at he
     refine ⟨[], (i + 1, 64 * n + ((s.getD i 0).toNat : Int) - 128), ⟨by omega, ?_, ?_⟩, ?_, ?_⟩
     . rw [show 1 + 1 - (i + 1) = 1 - i by omega]; exact he
     . omega
     . refine Go.VG.Sub.mk rfl ?_ ?_ ?_ ?_ <;> (repeat' first | trivial | apply ae | apply aI)
       all_goals (simp (discharger := omega) only [wR]; omega)
     . omega
   . refine a8.mk [] ?_ <;> (repeat' first | trivial | apply ae | apply aI)
     rw [show 1 + 1 - i = 0 by omega, ec] at he
     exact he
def xO : Sm := fun args σ => match args, σ with
 | [.str s], [] => some (0 < s.length ∧ s.length ≤ 10000000, .int .i64 (b9 s), none)
 | _, _ => none
theorem IY : aw 140 xO := by
 intro args sg pre x r he hp
 unfold xO at he
 split at he <;> cases he
 exact Hb _ hp.1 hp.2
def cK (r : Int) : Bool := decide (0 ≤ r ∧ r ≤ 1114111 ∧ (r < 55296 ∨ 57343 < r))
theorem f_uIs (r : Int) (h0 : 0 ≤ r) (h1 : r ≤ 1114111) : OK 141 [.int .i32 r] [] (.bool (cK r)) none := by
 refine au (C := cx []) (aq trivial) (fn := Tryz.f141) rfl rfl rfl rfl fun _ _ => ?_
 repeat' ((conv => whnf); (apply al <;> intro h))
 all_goals try conv => whnf
 all_goals try (refine a9.mk ?_; try dsimp only)
 all_goals try refine stay ?_
 all_goals
  refine a8.mk [] ?_ <;> (repeat' first | trivial | apply ae | apply jF)
  try unfold cK
 all_goals first
  | exact (decide_eq_true (by omega)).symm
  | exact (decide_eq_false (by omega)).symm
  | exact decide_eq_decide.2 (by constructor <;> intro _ <;> omega)
def xP : Sm := fun args σ => match args, σ with
 | [.int .i32 r], [] => some (0 ≤ r ∧ r ≤ 1114111, .bool (cK r), none)
 | _, _ => none
theorem k_uIs : aw 141 xP := by
 intro args sg pre x r he hp
 unfold xP at he
 split at he <;> cases he
 exact f_uIs _ hp.1 hp.2
def ba (n : Int) : List UInt8 :=
 if n < 128 then [byte n]
 else if n < 2048 then [byte (192 + n / 64), byte (128 + n % 64)]
 else if n < 65536 then [byte (224 + n / 4096), byte (128 + n / 64 % 64), byte (128 + n % 64)]
 else [byte (240 + n / 262144), byte (128 + n / 4096 % 64), byte (128 + n / 64 % 64), byte (128 + n % 64)]
theorem H9 (n : Int) (h0 : 0 ≤ n) (h1 : n ≤ 1114111) : OK 139 [.int .i32 n] [] (.str (ba n)) none := by
 refine au (C := cx []) (aq trivial) (fn := Tryz.f139) rfl rfl rfl rfl fun _ _ => ?_
 have hw : IntKind.i64.wrap n = n := by rw [c5]; omega
 have q1 : n.tdiv 64 = n / 64 := Int.tdiv_eq_ediv_of_nonneg h0
 repeat' ((conv => whnf); first | apply ak | (apply al <;> intro h) | apply goJ | apply goK | apply goL | apply goM)
 all_goals try conv => whnf
 all_goals try (refine a9.mk ?_; try dsimp only)
 all_goals first | refine stay ?_ | trivial | (simp (discharger := omega) only [wR]; omega) | skip
 all_goals simp only [hw] at *
 all_goals
  refine a8.mk [] ?_ <;> (repeat' first | trivial | apply ae | apply cC)
  unfold ba
  repeat (first | rw [if_pos (by omega)] | rw [if_neg (by omega)])
  repeat' (first | rfl | refine congrArg byte ?_ | refine pI ?_ ?_)
  all_goals (simp (discharger := omega) only [wR]; omega)
def qU : Sm := fun args σ => match args, σ with
 | [.int .i32 n], [] => some (0 ≤ n ∧ n ≤ 1114111, .str (ba n), none)
 | _, _ => none
theorem vh : aw 139 qU := by
 intro args sg pre x r he hp
 unfold qU at he
 split at he <;> cases he
 exact H9 _ hp.1 hp.2
theorem pf (n : Int) : 1 ≤ (ba n).length ∧ (ba n).length ≤ 4 := by
 unfold ba
 repeat' split
 all_goals simp
def bg (s : List UInt8) (i : Nat) : Int × Nat :=
 if s.length ≤ i then (0, 0)
 else if b9 (s.drop i) < 0 ∨ 1114111 < b9 (s.drop i) ∨ cK (b9 (s.drop i)) = false then (0, 0)
 else if (s.drop i).take (ba (b9 (s.drop i))).length = ba (b9 (s.drop i)) then (b9 (s.drop i), (ba (b9 (s.drop i))).length)
 else (0, 0)
theorem Hk (s : List UInt8) (i : Nat) (hs : s.length ≤ 10000000) : OK 130 [.str s, .int .i64 i] [] (.tuple [.int .i32 (bg s i).1, .int .i64 (bg s i).2]) none := by
 refine au (C := cx [(140, xO), (141, xP), (139, qU)]) (aq ⟨IY, k_uIs, vh, trivial⟩) (fn := Tryz.f130) rfl rfl rfl rfl fun hw _ => ?_
 have hl := pf (b9 (s.drop i))
 have hg : 0 ≤ b9 (s.drop i) → b9 (s.drop i) ≤ 1114111 → IntKind.i32.wrap (b9 (s.drop i)) = b9 (s.drop i) := fun a b => by rw [kh]; omega
 have hr : bg s i = if s.length ≤ i then (0, 0)
  else if b9 (s.drop i) < 0 ∨ 1114111 < b9 (s.drop i) ∨ cK (b9 (s.drop i)) = false then (0, 0)
  else if (s.drop i).take (ba (b9 (s.drop i))).length = ba (b9 (s.drop i)) then (b9 (s.drop i), (ba (b9 (s.drop i))).length)
  else (0, 0) := rfl
 repeat' ((conv => whnf); first | apply ak | apply aW | ((first | apply al | apply ga) <;> intro h))
 all_goals try conv => whnf
 all_goals try (refine a9.mk ?_; try dsimp only)
 all_goals first | refine stay ?_ | omega | (simp (discharger := omega) only [wR]; omega) | (simp only [ig]; omega) | skip
 all_goals try simp only [Int.toNat_natCast] at *
 . rw [hr, if_pos (by omega)]
   refine a8.mk [] ?_ <;> (repeat' first | trivial)
 . rw [hr, if_neg (by omega), if_pos (.inl (by assumption))]
   refine a8.mk [] ?_ <;> (repeat' first | trivial)
 . rw [hr, if_neg (by omega), if_pos (.inr (.inl (by assumption)))]
   refine a8.mk [] ?_ <;> (repeat' first | trivial)
 all_goals have hg' := hg (by omega) (by omega)
 all_goals have hw1 : IntKind.i64.wrap ((s.length : Int) - (i : Int)) = (s.length : Int) - i := by rw [c5]; omega
 all_goals have hw2 : IntKind.i64.wrap ((i : Int) + ((ba (b9 (s.drop i))).length : Int)) = ((i + (ba (b9 (s.drop i))).length : Nat) : Int) := by rw [c5]; omega
 all_goals simp only [hg', hw1, hw2, Int.toNat_natCast] at *
 . rw [hr, if_neg (by omega)]
   have hn : ¬ (s.drop i).take (ba (b9 (s.drop i))).length = ba (b9 (s.drop i)) := fun e => by
    have := congrArg List.length e
    rw [List.length_take, List.length_drop] at this
    omega
   rw [if_neg hn, ite_self]
   refine a8.mk [] ?_ <;> (repeat' first | trivial)
 . omega
 all_goals (have hI : cK (b9 (s.drop i)) = decide (0 ≤ b9 (s.drop i) ∧ b9 (s.drop i) ≤ 1114111 ∧ (b9 (s.drop i) < 55296 ∨ 57343 < b9 (s.drop i))) := rfl)
 . rw [hr, if_neg (by omega)]
   have e : (s.drop i).take (ba (b9 (s.drop i))).length = ba (b9 (s.drop i)) := by
    rw [List.take_drop]; assumption
   rw [if_neg (by rw [hI, decide_eq_false_iff_not]; omega), if_pos e]
   refine a8.mk [] ?_ <;> (repeat' first | trivial)
 . rw [hr, if_neg (by omega)]
   have e : ¬ (s.drop i).take (ba (b9 (s.drop i))).length = ba (b9 (s.drop i)) := by
    rw [List.take_drop]; assumption
   rw [if_neg e, ite_self]
   refine a8.mk [] ?_ <;> (repeat' first | trivial)
 . rw [hr, if_neg (by omega), if_pos (.inr (.inr (by rw [hI]; exact decide_eq_false (by assumption))))]
   refine a8.mk [] ?_ <;> (repeat' first | trivial)
def xT : Sm := fun args σ => match args, σ with
 | [.str s, .int .i64 (.ofNat i)], [] => some (s.length ≤ 10000000, .tuple [.int .i32 (bg s i).1, .int .i64 (bg s i).2], none)
 | _, _ => none
theorem J2 : aw 130 xT := by
 intro args sg pre x r he hp
 unfold xT at he
 split at he <;> cases he
 exact Hk _ _ hp
theorem qY (s : List UInt8) (i : Nat) : (bg s i).2 ≤ 4 ∧ ((bg s i).2 = 0 ∨ i + (bg s i).2 ≤ s.length) := by
 unfold bg
 have hl := pf (b9 (s.drop i))
 split
 . simp
 . split
   . simp
   . split
     . rename_i h
       have := congrArg List.length h
       rw [List.length_take, List.length_drop] at this
       simp only; omega
     . simp
def iG (s : List UInt8) (i c : Nat) : Nat × Nat :=
 if s.length ≤ i then (i, c)
 else if h : (bg s i).2 = 0 then (i, c)
 else iG s (i + (bg s i).2) (c + 1)
termination_by s.length - i
decreasing_by omega
def kf (s : List UInt8) : Int := if (iG s 0 0).1 = s.length then -1 else (iG s 0 0).1
end Go.Proofs.YtllncocibkgjkaaGreat
