/-
  A part of the proof.
-/
import Derived.Test.YtllncocibkgjkaaGreatTxt0
set_option linter.unusedSimpArgs false
set_option linter.unusedVariables false
set_option maxHeartbeats 4000000
namespace Go.Proofs.YtllncocibkgjkaaGreat
open Go Go.VG
set_option maxRecDepth 100000
def dY (s : List UInt8) : Nat → Nat → Int → Int
 | 0, _, n => n
 | r + 1, i, n => if s.length ≤ i then -1 else dY s r (i + 1) (64 * n + ((s.getD i 0).toNat : Int) - 128)
def b7 (s : List UInt8) : Int :=
 if (s.getD 0 0).toNat < 128 then ((s.getD 0 0).toNat : Int)
 else if 240 ≤ (s.getD 0 0).toNat then dY s 3 1 (((s.getD 0 0).toNat : Int) - 240)
 else if 224 ≤ (s.getD 0 0).toNat then dY s 2 1 (((s.getD 0 0).toNat : Int) - 224)
 else dY s 1 1 (((s.getD 0 0).toNat : Int) - 192)
theorem GB (s : List UInt8) (h0 : 0 < s.length) (hs : s.length ≤ 10000000) : OK 140 [.str s] [] (.int .i64 (b7 s)) none := by
 refine aq (C := cx []) (ar trivial) (fn := Tryz.f140) rfl rfl rfl rfl fun _ _ => ?_
 have hc0 : (s.getD 0 0).toNat < 256 := UInt8.toNat_lt _
 have hw0 : IntKind.i64.wrap ((s.getD (Int.toNat 0) 0).toNat : Int) = ((s.getD 0 0).toNat : Int) := by
  have e : Int.toNat 0 = 0 := rfl
  rw [e, gU] <;> omega
 repeat' ((conv => whnf); first | apply ak | (apply al <;> intro h) | with_reducible refine mG ?_ fun hc => ?_)
 all_goals try conv => whnf
 all_goals try (refine ab.mk ?_; try dsimp only)
 all_goals first | refine stay ?_ | trivial | skip
 all_goals simp only [hw0] at *
 . refine a8.mk [] ?_ <;> (repeat' first | trivial | apply aj | apply aR)
   unfold b7
   rw [if_pos (by omega)]
 . have hg : b7 s = dY s 3 1 (((s.getD 0 0).toNat : Int) - 240) := by
     unfold b7
     repeat (first | rw [if_pos (by omega)] | rw [if_neg (by omega)])
   refine bn.mk (Nat × Int) (fun | (i, n) => i ≤ 3 + 1 ∧ dY s (3 + 1 - i) i n = b7 s ∧ ((i = 1 ∧ -64 ≤ n ∧ n ≤ 64) ∨ (i = 2 ∧ -4300 ≤ n ∧ n ≤ 4300) ∨ (i = 3 ∧ -300000 ≤ n ∧ n ≤ 300000) ∨ (i = 4 ∧ -20000000 ≤ n ∧ n ≤ 20000000)))
    (fun | (i, n) => ⟨41, [(6, .int .i64 i), (5, .int .i64 3), (4, .int .i64 n), (0, .str s)], [], []⟩) (fun x => 3 + 1 - x.1) [] (1, ((s.getD 0 0).toNat : Int) - 240) ⟨by omega, hg.symm, by omega⟩ ?_ (fun ⟨i, n⟩ ⟨hi, he, hb⟩ _ _ => ?_)
   . refine Go.VG.Sub.mk rfl ?_ ?_ ?_ ?_ <;> (repeat' first | trivial | apply aj | apply aR)
     all_goals (simp (discharger := omega) only [wR]; omega)
   have hci : (s.getD i 0).toNat < 256 := UInt8.toNat_lt _
   repeat' ((conv => whnf); first | apply ak | (apply al <;> intro h) | with_reducible refine et ?_ fun hc => ?_)
   all_goals try conv => whnf
   all_goals try (refine ab.mk ?_; try dsimp only)
   all_goals first | refine stay ?_ | omega | skip
   . refine a8.mk [] ?_ <;> (repeat' first | trivial | apply aj | apply aR)
     rw [← he, show 3 + 1 - i = (3 - i) + 1 by omega, dY, if_pos (by omega)]
   . rw [show 3 + 1 - i = (3 - i) + 1 by omega, dY, if_neg (by omega)] at he
     refine ⟨[], (i + 1, 64 * n + ((s.getD i 0).toNat : Int) - 128), ⟨by omega, ?_, ?_⟩, ?_, ?_⟩
     . rw [show 3 + 1 - (i + 1) = 3 - i by omega]; exact he
     . omega
     . refine Go.VG.Sub.mk rfl ?_ ?_ ?_ ?_ <;> (repeat' first | trivial | apply aj | apply aR)
       all_goals (simp (discharger := omega) only [wR]; omega)
     . omega
   . refine a8.mk [] ?_ <;> (repeat' first | trivial | apply aj | apply aR)
     rw [show 3 + 1 - i = 0 by omega, dY] at he
     exact he
 . have hg : b7 s = dY s 2 1 (((s.getD 0 0).toNat : Int) - 224) := by
     unfold b7
     repeat (first | rw [if_pos (by omega)] | rw [if_neg (by omega)])
   refine bn.mk (Nat × Int) (fun | (i, n) => i ≤ 2 + 1 ∧ dY s (2 + 1 - i) i n = b7 s ∧ ((i = 1 ∧ -64 ≤ n ∧ n ≤ 64) ∨ (i = 2 ∧ -4300 ≤ n ∧ n ≤ 4300) ∨ (i = 3 ∧ -300000 ≤ n ∧ n ≤ 300000) ∨ (i = 4 ∧ -20000000 ≤ n ∧ n ≤ 20000000)))
    (fun | (i, n) => ⟨41, [(6, .int .i64 i), (5, .int .i64 2), (4, .int .i64 n), (0, .str s)], [], []⟩) (fun x => 2 + 1 - x.1) [] (1, ((s.getD 0 0).toNat : Int) - 224) ⟨by omega, hg.symm, by omega⟩ ?_ (fun ⟨i, n⟩ ⟨hi, he, hb⟩ _ _ => ?_)
   . refine Go.VG.Sub.mk rfl ?_ ?_ ?_ ?_ <;> (repeat' first | trivial | apply aj | apply aR)
     all_goals (simp (discharger := omega) only [wR]; omega)
   have hci : (s.getD i 0).toNat < 256 := UInt8.toNat_lt _
   repeat' ((conv => whnf); first | apply ak | (apply al <;> intro h) | with_reducible refine et ?_ fun hc => ?_)
   all_goals try conv => whnf
   all_goals try (refine ab.mk ?_; try dsimp only)
   all_goals first | refine stay ?_ | omega | skip
   . refine a8.mk [] ?_ <;> (repeat' first | trivial | apply aj | apply aR)
     rw [← he, show 2 + 1 - i = (2 - i) + 1 by omega, dY, if_pos (by omega)]
   . rw [show 2 + 1 - i = (2 - i) + 1 by omega, dY, if_neg (by omega)] at he
     refine ⟨[], (i + 1, 64 * n + ((s.getD i 0).toNat : Int) - 128), ⟨by omega, ?_, ?_⟩, ?_, ?_⟩
     . rw [show 2 + 1 - (i + 1) = 2 - i by omega]; exact he
     . omega
     . refine Go.VG.Sub.mk rfl ?_ ?_ ?_ ?_ <;> (repeat' first | trivial | apply aj | apply aR)
       all_goals (simp (discharger := omega) only [wR]; omega)
     . omega
   . refine a8.mk [] ?_ <;> (repeat' first | trivial | apply aj | apply aR)
     rw [show 2 + 1 - i = 0 by omega, dY] at he
     exact he
 . have hg : b7 s = dY s 1 1 (((s.getD 0 0).toNat : Int) - 192) := by
     unfold b7
     repeat (first | rw [if_pos (by omega)] | rw [if_neg (by omega)])
   refine bn.mk (Nat × Int) (fun | (i, n) => i ≤ 1 + 1 ∧ dY s (1 + 1 - i) i n = b7 s ∧ ((i = 1 ∧ -64 ≤ n ∧ n ≤ 64) ∨ (i = 2 ∧ -4300 ≤ n ∧ n ≤ 4300) ∨ (i = 3 ∧ -300000 ≤ n ∧ n ≤ 300000) ∨ (i = 4 ∧ -20000000 ≤ n ∧ n ≤ 20000000)))
    (fun | (i, n) => ⟨41, [(6, .int .i64 i), (5, .int .i64 1), (4, .int .i64 n), (0, .str s)], [], []⟩) (fun x => 1 + 1 - x.1) [] (1, ((s.getD 0 0).toNat : Int) - 192) ⟨by omega, hg.symm, by omega⟩ ?_ (fun ⟨i, n⟩ ⟨hi, he, hb⟩ _ _ => ?_)
   . refine Go.VG.Sub.mk rfl ?_ ?_ ?_ ?_ <;> (repeat' first | trivial | apply aj | apply aR)
     all_goals (simp (discharger := omega) only [wR]; omega)
   have hci : (s.getD i 0).toNat < 256 := UInt8.toNat_lt _
   repeat' ((conv => whnf); first | apply ak | (apply al <;> intro h) | with_reducible refine et ?_ fun hc => ?_)
   all_goals try conv => whnf
   all_goals try (refine ab.mk ?_; try dsimp only)
   all_goals first | refine stay ?_ | omega | skip
   . refine a8.mk [] ?_ <;> (repeat' first | trivial | apply aj | apply aR)
     rw [← he, show 1 + 1 - i = (1 - i) + 1 by omega, dY, if_pos (by omega)]
   . rw [show 1 + 1 - i = (1 - i) + 1 by omega, dY, if_neg (by omega)] at he
     refine ⟨[], (i + 1, 64 * n + ((s.getD i 0).toNat : Int) - 128), ⟨by omega, ?_, ?_⟩, ?_, ?_⟩
     . rw [show 1 + 1 - (i + 1) = 1 - i by omega]; exact he
     . omega
     . refine Go.VG.Sub.mk rfl ?_ ?_ ?_ ?_ <;> (repeat' first | trivial | apply aj | apply aR)
       all_goals (simp (discharger := omega) only [wR]; omega)
     . omega
   . refine a8.mk [] ?_ <;> (repeat' first | trivial | apply aj | apply aR)
     rw [show 1 + 1 - i = 0 by omega, dY] at he
     exact he
def xk : Sm := fun args σ => match args, σ with
 | [.str s], [] => some (0 < s.length ∧ s.length ≤ 10000000, .int .i64 (b7 s), none)
 | _, _ => none
theorem Ig : ay 140 xk := by
 intro args sg pre x r he hp
 unfold xk at he
 split at he <;> cases he
 exact GB _ hp.1 hp.2
def cF (r : Int) : Bool := decide (0 ≤ r ∧ r ≤ 1114111 ∧ (r < 55296 ∨ 57343 < r))
theorem f_uIs (r : Int) (h0 : 0 ≤ r) (h1 : r ≤ 1114111) : OK 141 [.int .i32 r] [] (.bool (cF r)) none := by
 refine aq (C := cx []) (ar trivial) (fn := Tryz.f141) rfl rfl rfl rfl fun _ _ => ?_
 repeat' ((conv => whnf); (apply al <;> intro h))
 all_goals try conv => whnf
 all_goals try (refine ab.mk ?_; try dsimp only)
 all_goals try refine stay ?_
 all_goals
  refine a8.mk [] ?_ <;> (repeat' first | trivial | apply aj | apply ky)
  try unfold cF
 all_goals first
  | exact (decide_eq_true (by omega)).symm
  | exact (decide_eq_false (by omega)).symm
  | exact decide_eq_decide.2 (by constructor <;> intro _ <;> omega)
def xl : Sm := fun args σ => match args, σ with
 | [.int .i32 r], [] => some (0 ≤ r ∧ r ≤ 1114111, .bool (cF r), none)
 | _, _ => none
theorem k_uIs : ay 141 xl := by
 intro args sg pre x r he hp
 unfold xl at he
 split at he <;> cases he
 exact f_uIs _ hp.1 hp.2
def aZ (n : Int) : List UInt8 :=
 if n < 128 then [byte n]
 else if n < 2048 then [byte (192 + n / 64), byte (128 + n % 64)]
 else if n < 65536 then [byte (224 + n / 4096), byte (128 + n / 64 % 64), byte (128 + n % 64)]
 else [byte (240 + n / 262144), byte (128 + n / 4096 % 64), byte (128 + n / 64 % 64), byte (128 + n % 64)]
theorem Gz (n : Int) (h0 : 0 ≤ n) (h1 : n ≤ 1114111) : OK 139 [.int .i32 n] [] (.str (aZ n)) none := by
 refine aq (C := cx []) (ar trivial) (fn := Tryz.f139) rfl rfl rfl rfl fun _ _ => ?_
 have hw : IntKind.i64.wrap n = n := by rw [gU]; omega
 have q1 : n.tdiv 64 = n / 64 := Int.tdiv_eq_ediv_of_nonneg h0
 repeat' ((conv => whnf); first | apply ak | (apply al <;> intro h) | apply nT | apply goK | apply goL | apply goM)
 all_goals try conv => whnf
 all_goals try (refine ab.mk ?_; try dsimp only)
 all_goals first | refine stay ?_ | trivial | (simp (discharger := omega) only [wR]; omega) | skip
 all_goals simp only [hw] at *
 all_goals
  refine a8.mk [] ?_ <;> (repeat' first | trivial | apply aj | apply hH)
  unfold aZ
  repeat (first | rw [if_pos (by omega)] | rw [if_neg (by omega)])
  repeat' (first | rfl | refine congrArg byte ?_ | refine po ?_ ?_)
  all_goals (simp (discharger := omega) only [wR]; omega)
def qA : Sm := fun args σ => match args, σ with
 | [.int .i32 n], [] => some (0 ≤ n ∧ n ≤ 1114111, .str (aZ n), none)
 | _, _ => none
theorem uQ : ay 139 qA := by
 intro args sg pre x r he hp
 unfold qA at he
 split at he <;> cases he
 exact Gz _ hp.1 hp.2
theorem oU (n : Int) : 1 ≤ (aZ n).length ∧ (aZ n).length ≤ 4 := by
 unfold aZ
 repeat' split
 all_goals simp
def b8 (s : List UInt8) (i : Nat) : Int × Nat :=
 if s.length ≤ i then (0, 0)
 else if b7 (s.drop i) < 0 ∨ 1114111 < b7 (s.drop i) ∨ cF (b7 (s.drop i)) = false then (0, 0)
 else if (s.drop i).take (aZ (b7 (s.drop i))).length = aZ (b7 (s.drop i)) then (b7 (s.drop i), (aZ (b7 (s.drop i))).length)
 else (0, 0)
theorem GL (s : List UInt8) (i : Nat) (hs : s.length ≤ 10000000) : OK 130 [.str s, .int .i64 i] [] (.tuple [.int .i32 (b8 s i).1, .int .i64 (b8 s i).2]) none := by
 refine aq (C := cx [(140, xk), (141, xl), (139, qA)]) (ar ⟨Ig, k_uIs, uQ, trivial⟩) (fn := Tryz.f130) rfl rfl rfl rfl fun hw _ => ?_
 have hl := oU (b7 (s.drop i))
 have hg : 0 ≤ b7 (s.drop i) → b7 (s.drop i) ≤ 1114111 → IntKind.i32.wrap (b7 (s.drop i)) = b7 (s.drop i) := fun a b => by rw [kn]; omega
 have hr : b8 s i = if s.length ≤ i then (0, 0)
  else if b7 (s.drop i) < 0 ∨ 1114111 < b7 (s.drop i) ∨ cF (b7 (s.drop i)) = false then (0, 0)
  else if (s.drop i).take (aZ (b7 (s.drop i))).length = aZ (b7 (s.drop i)) then (b7 (s.drop i), (aZ (b7 (s.drop i))).length)
  else (0, 0) := rfl
 repeat' ((conv => whnf); first | apply ak | apply aV | ((first | apply al | apply go9) <;> intro h))
 all_goals try conv => whnf
 all_goals try (refine ab.mk ?_; try dsimp only)
 all_goals first | refine stay ?_ | omega | (simp (discharger := omega) only [wR]; omega) | (simp only [cK]; omega) | skip
 all_goals try simp only [Int.toNat_natCast] at *
 . rw [hr, if_pos (by omega)]
   refine a8.mk [] ?_ <;> (repeat' first | trivial)
 . rw [hr, if_neg (by omega), if_pos (.inl (by assumption))]
   refine a8.mk [] ?_ <;> (repeat' first | trivial)
 . rw [hr, if_neg (by omega), if_pos (.inr (.inl (by assumption)))]
   refine a8.mk [] ?_ <;> (repeat' first | trivial)
 all_goals have hg' := hg (by omega) (by omega)
 all_goals have hw1 : IntKind.i64.wrap ((s.length : Int) - (i : Int)) = (s.length : Int) - i := by rw [gU]; omega
 all_goals have hw2 : IntKind.i64.wrap ((i : Int) + ((aZ (b7 (s.drop i))).length : Int)) = ((i + (aZ (b7 (s.drop i))).length : Nat) : Int) := by rw [gU]; omega
 all_goals simp only [hg', hw1, hw2, Int.toNat_natCast] at *
 . rw [hr, if_neg (by omega)]
   have hn : ¬ (s.drop i).take (aZ (b7 (s.drop i))).length = aZ (b7 (s.drop i)) := fun e => by
    have := congrArg List.length e
    rw [List.length_take, List.length_drop] at this
    omega
   rw [if_neg hn, ite_self]
   refine a8.mk [] ?_ <;> (repeat' first | trivial)
 . omega
 all_goals (have hI : cF (b7 (s.drop i)) = decide (0 ≤ b7 (s.drop i) ∧ b7 (s.drop i) ≤ 1114111 ∧ (b7 (s.drop i) < 55296 ∨ 57343 < b7 (s.drop i))) := rfl)
 . rw [hr, if_neg (by omega)]
   have e : (s.drop i).take (aZ (b7 (s.drop i))).length = aZ (b7 (s.drop i)) := by
    rw [List.take_drop]; assumption
   rw [if_neg (by rw [hI, decide_eq_false_iff_not]; omega), if_pos e]
   refine a8.mk [] ?_ <;> (repeat' first | trivial)
 . rw [hr, if_neg (by omega)]
   have e : ¬ (s.drop i).take (aZ (b7 (s.drop i))).length = aZ (b7 (s.drop i)) := by
    rw [List.take_drop]; assumption
   rw [if_neg e, ite_self]
   refine a8.mk [] ?_ <;> (repeat' first | trivial)
 . rw [hr, if_neg (by omega), if_pos (.inr (.inr (by rw [hI]; exact decide_eq_false (by assumption))))]
   refine a8.mk [] ?_ <;> (repeat' first | trivial)
def xp : Sm := fun args σ => match args, σ with
 | [.str s, .int .i64 (.ofNat i)], [] => some (s.length ≤ 10000000, .tuple [.int .i32 (b8 s i).1, .int .i64 (b8 s i).2], none)
 | _, _ => none
theorem Ik : ay 130 xp := by
 intro args sg pre x r he hp
 unfold xp at he
 split at he <;> cases he
 exact GL _ _ hp
theorem qE (s : List UInt8) (i : Nat) : (b8 s i).2 ≤ 4 ∧ ((b8 s i).2 = 0 ∨ i + (b8 s i).2 ≤ s.length) := by
 unfold b8
 have hl := oU (b7 (s.drop i))
 split
 . simp
 . split
   . simp
   . split
     . rename_i h
       have := congrArg List.length h
       rw [List.length_take, List.length_drop] at this
       simp only; omega
     . simp
def iL (s : List UInt8) (i c : Nat) : Nat × Nat :=
 if s.length ≤ i then (i, c)
 else if h : (b8 s i).2 = 0 then (i, c)
 else iL s (i + (b8 s i).2) (c + 1)
termination_by s.length - i
decreasing_by omega
def kj (s : List UInt8) : Int := if (iL s 0 0).1 = s.length then -1 else (iL s 0 0).1
end Go.Proofs.YtllncocibkgjkaaGreat
