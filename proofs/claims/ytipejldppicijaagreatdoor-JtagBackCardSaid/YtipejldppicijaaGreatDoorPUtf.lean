/-
  A part of the proof.
-/
import Derived.Test.YtipejldppicijaaGreatDoorTxt0
set_option linter.unusedSimpArgs false
set_option linter.unusedVariables false
set_option maxHeartbeats 4000000
namespace Go.Proofs.YtipejldppicijaaGreatDoor
open Go Go.VG
set_option maxRecDepth 100000
def eu (s : List UInt8) : Nat → Nat → Int → Int
 | 0, _, n => n
 | r + 1, i, n => if s.length ≤ i then -1 else eu s r (i + 1) (64 * n + ((s.getD i 0).toNat : Int) - 128)
def bq (s : List UInt8) : Int :=
 if (s.getD 0 0).toNat < 128 then ((s.getD 0 0).toNat : Int)
 else if 240 ≤ (s.getD 0 0).toNat then eu s 3 1 (((s.getD 0 0).toNat : Int) - 240)
 else if 224 ≤ (s.getD 0 0).toNat then eu s 2 1 (((s.getD 0 0).toNat : Int) - 224)
 else eu s 1 1 (((s.getD 0 0).toNat : Int) - 192)
theorem HZ (s : List UInt8) (h0 : 0 < s.length) (hs : s.length ≤ 10000000) : OK 165 [.str s] [] (.int .i64 (bq s)) none := by
 refine af (C := cx []) (ah trivial) (fn := Tryz.f165) rfl rfl rfl rfl fun _ _ => ?_
 have hc0 : (s.getD 0 0).toNat < 256 := UInt8.toNat_lt _
 have hw0 : IntKind.i64.wrap ((s.getD (Int.toNat 0) 0).toNat : Int) = ((s.getD 0 0).toNat : Int) := by
  have e : Int.toNat 0 = 0 := rfl
  rw [e, bU] <;> omega
 repeat' ((conv => whnf); first | apply a9 | (apply al <;> intro h) | with_reducible refine iK ?_ fun hc => ?_)
 all_goals try conv => whnf
 all_goals try (refine a8.mk ?_; try dsimp only)
 all_goals first | refine stay ?_ | trivial | skip
 all_goals simp only [hw0] at *
 . refine a7.mk [] ?_ <;> (repeat' first | trivial | apply ab | apply au)
   unfold bq
   rw [if_pos (by omega)]
 . have hg : bq s = eu s 3 1 (((s.getD 0 0).toNat : Int) - 240) := by
     unfold bq
     repeat (first | rw [if_pos (by omega)] | rw [if_neg (by omega)])
   refine bd.mk (Nat × Int) (fun | (i, n) => i ≤ 3 + 1 ∧ eu s (3 + 1 - i) i n = bq s ∧ ((i = 1 ∧ -64 ≤ n ∧ n ≤ 64) ∨ (i = 2 ∧ -4300 ≤ n ∧ n ≤ 4300) ∨ (i = 3 ∧ -300000 ≤ n ∧ n ≤ 300000) ∨ (i = 4 ∧ -20000000 ≤ n ∧ n ≤ 20000000)))
    (fun | (i, n) => ⟨41, [(6, .int .i64 i), (5, .int .i64 3), (4, .int .i64 n), (0, .str s)], [], []⟩) (fun x => 3 + 1 - x.1) [] (1, ((s.getD 0 0).toNat : Int) - 240) ⟨by omega, hg.symm, by omega⟩ ?_ (fun ⟨i, n⟩ ⟨hi, he, hb⟩ _ _ => ?_)
   . refine Go.VG.Sub.mk rfl ?_ ?_ ?_ ?_ <;> (repeat' first | trivial | apply ab | apply au)
     all_goals (simp (discharger := omega) only [wR]; omega)
   have hci : (s.getD i 0).toNat < 256 := UInt8.toNat_lt _
   repeat' ((conv => whnf); first | apply a9 | (apply al <;> intro h) | with_reducible refine i5 ?_ fun hc => ?_)
   all_goals try conv => whnf
   all_goals try (refine a8.mk ?_; try dsimp only)
   all_goals first | refine stay ?_ | omega | skip
   . refine a7.mk [] ?_ <;> (repeat' first | trivial | apply ab | apply au)
     rw [← he, show 3 + 1 - i = (3 - i) + 1 by omega, eu, if_pos (by omega)]
   . rw [show 3 + 1 - i = (3 - i) + 1 by omega, eu, if_neg (by omega)] at he
     refine ⟨[], (i + 1, 64 * n + ((s.getD i 0).toNat : Int) - 128), ⟨by omega, ?_, ?_⟩, ?_, ?_⟩
     . rw [show 3 + 1 - (i + 1) = 3 - i by omega]; exact he
     . omega
     . refine Go.VG.Sub.mk rfl ?_ ?_ ?_ ?_ <;> (repeat' first | trivial | apply ab | apply au)
       all_goals (simp (discharger := omega) only [wR]; omega)
     . omega
   . refine a7.mk [] ?_ <;> (repeat' first | trivial | apply ab | apply au)
     rw [show 3 + 1 - i = 0 by omega, eu] at he
     exact he
 . have hg : bq s = eu s 2 1 (((s.getD 0 0).toNat : Int) - 224) := by
     unfold bq
     repeat (first | rw [if_pos (by omega)] | rw [if_neg (by omega)])
   refine bd.mk (Nat × Int) (fun | (i, n) => i ≤ 2 + 1 ∧ eu s (2 + 1 - i) i n = bq s ∧ ((i = 1 ∧ -64 ≤ n ∧ n ≤ 64) ∨ (i = 2 ∧ -4300 ≤ n ∧ n ≤ 4300) ∨ (i = 3 ∧ -300000 ≤ n ∧ n ≤ 300000) ∨ (i = 4 ∧ -20000000 ≤ n ∧ n ≤ 20000000)))
    (fun | (i, n) => ⟨41, [(6, .int .i64 i), (5, .int .i64 2), (4, .int .i64 n), (0, .str s)], [], []⟩) (fun x => 2 + 1 - x.1) [] (1, ((s.getD 0 0).toNat : Int) - 224) ⟨by omega, hg.symm, by omega⟩ ?_ (fun ⟨i, n⟩ ⟨hi, he, hb⟩ _ _ => ?_)
   . refine Go.VG.Sub.mk rfl ?_ ?_ ?_ ?_ <;> (repeat' first | trivial | apply ab | apply au)
     all_goals (simp (discharger := omega) only [wR]; omega)
   have hci : (s.getD i 0).toNat < 256 := UInt8.toNat_lt _
   repeat' ((conv => whnf); first | apply a9 | (apply al <;> intro h) | with_reducible refine i5 ?_ fun hc => ?_)
   all_goals try conv => whnf
   all_goals try (refine a8.mk ?_; try dsimp only)
   all_goals first | refine stay ?_ | omega | skip
   . refine a7.mk [] ?_ <;> (repeat' first | trivial | apply ab | apply au)
     rw [← he, show 2 + 1 - i = (2 - i) + 1 by omega, eu, if_pos (by omega)]
   . rw [show 2 + 1 - i = (2 - i) + 1 by omega, eu, if_neg (by omega)] at he
     refine ⟨[], (i + 1, 64 * n + ((s.getD i 0).toNat : Int) - 128), ⟨by omega, ?_, ?_⟩, ?_, ?_⟩
     . rw [show 2 + 1 - (i + 1) = 2 - i by omega]; exact he
     . omega
     . refine Go.VG.Sub.mk rfl ?_ ?_ ?_ ?_ <;> (repeat' first | trivial | apply ab | apply au)
       all_goals (simp (discharger := omega) only [wR]; omega)
     . omega
   . refine a7.mk [] ?_ <;> (repeat' first | trivial | apply ab | apply au)
     rw [show 2 + 1 - i = 0 by omega, eu] at he
     exact he
 . have hg : bq s = eu s 1 1 (((s.getD 0 0).toNat : Int) - 192) := by
     unfold bq
     repeat (first | rw [if_pos (by omega)] | rw [if_neg (by omega)])
   refine bd.mk (Nat × Int) (fun | (i, n) => i ≤ 1 + 1 ∧ eu s (1 + 1 - i) i n = bq s ∧ ((i = 1 ∧ -64 ≤ n ∧ n ≤ 64) ∨ (i = 2 ∧ -4300 ≤ n ∧ n ≤ 4300) ∨ (i = 3 ∧ -300000 ≤ n ∧ n ≤ 300000) ∨ (i = 4 ∧ -20000000 ≤ n ∧ n ≤ 20000000)))
    (fun | (i, n) => ⟨41, [(6, .int .i64 i), (5, .int .i64 1), (4, .int .i64 n), (0, .str s)], [], []⟩) (fun x => 1 + 1 - x.1) [] (1, ((s.getD 0 0).toNat : Int) - 192) ⟨by omega, hg.symm, by omega⟩ ?_ (fun ⟨i, n⟩ ⟨hi, he, hb⟩ _ _ => ?_)
   . refine Go.VG.Sub.mk rfl ?_ ?_ ?_ ?_ <;> (repeat' first | trivial | apply ab | apply au)
     all_goals (simp (discharger := omega) only [wR]; omega)
   have hci : (s.getD i 0).toNat < 256 := UInt8.toNat_lt _
   repeat' ((conv => whnf); first | apply a9 | (apply al <;> intro h) | with_reducible refine i5 ?_ fun hc => ?_)
   all_goals try conv => whnf
   all_goals try (refine a8.mk ?_; try dsimp only)
   all_goals first | refine stay ?_ | omega | skip
   . refine a7.mk [] ?_ <;> (repeat' first | trivial | apply ab | apply au)
     rw [← he, show 1 + 1 - i = (1 - i) + 1 by omega, eu, if_pos (by omega)]
   . rw [show 1 + 1 - i = (1 - i) + 1 by omega, eu, if_neg (by omega)] at he
     refine ⟨[], (i + 1, 64 * n + ((s.getD i 0).toNat : Int) - 128), ⟨by omega, ?_, ?_⟩, ?_, ?_⟩
     . rw [show 1 + 1 - (i + 1) = 1 - i by omega]; exact he
     . omega
     . refine Go.VG.Sub.mk rfl ?_ ?_ ?_ ?_ <;> (repeat' first | trivial | apply ab | apply au)
       all_goals (simp (discharger := omega) only [wR]; omega)
     . omega
   . refine a7.mk [] ?_ <;> (repeat' first | trivial | apply ab | apply au)
     rw [show 1 + 1 - i = 0 by omega, eu] at he
     exact he
def xD : Sm := fun args σ => match args, σ with
 | [.str s], [] => some (0 < s.length ∧ s.length ≤ 10000000, .int .i64 (bq s), none)
 | _, _ => none
theorem JO : aa 165 xD := by
 intro args sg pre x r he hp
 unfold xD at he
 split at he <;> cases he
 exact HZ _ hp.1 hp.2
def oI (r : Int) : Bool := decide (0 ≤ r ∧ r ≤ 1114111 ∧ (r < 55296 ∨ 57343 < r))
theorem f_uIs (r : Int) (h0 : 0 ≤ r) (h1 : r ≤ 1114111) : OK 166 [.int .i32 r] [] (.bool (oI r)) none := by
 refine af (C := cx []) (ah trivial) (fn := Tryz.f166) rfl rfl rfl rfl fun _ _ => ?_
 repeat' ((conv => whnf); (apply al <;> intro h))
 all_goals try conv => whnf
 all_goals try (refine a8.mk ?_; try dsimp only)
 all_goals try refine stay ?_
 all_goals
  refine a7.mk [] ?_ <;> (repeat' first | trivial | apply ab | apply bX)
  try unfold oI
 all_goals first
  | exact (decide_eq_true (by omega)).symm
  | exact (decide_eq_false (by omega)).symm
  | exact decide_eq_decide.2 (by constructor <;> intro _ <;> omega)
def xE : Sm := fun args σ => match args, σ with
 | [.int .i32 r], [] => some (0 ≤ r ∧ r ≤ 1114111, .bool (oI r), none)
 | _, _ => none
theorem k_uIs : aa 166 xE := by
 intro args sg pre x r he hp
 unfold xE at he
 split at he <;> cases he
 exact f_uIs _ hp.1 hp.2
def ec (n : Int) : List UInt8 :=
 if n < 128 then [byte n]
 else if n < 2048 then [byte (192 + n / 64), byte (128 + n % 64)]
 else if n < 65536 then [byte (224 + n / 4096), byte (128 + n / 64 % 64), byte (128 + n % 64)]
 else [byte (240 + n / 262144), byte (128 + n / 4096 % 64), byte (128 + n / 64 % 64), byte (128 + n % 64)]
theorem HX (n : Int) (h0 : 0 ≤ n) (h1 : n ≤ 1114111) : OK 167 [.int .i32 n] [] (.str (ec n)) none := by
 refine af (C := cx []) (ah trivial) (fn := Tryz.f167) rfl rfl rfl rfl fun _ _ => ?_
 have hw : IntKind.i64.wrap n = n := by rw [bU]; omega
 have q1 : n.tdiv 64 = n / 64 := Int.tdiv_eq_ediv_of_nonneg h0
 repeat' ((conv => whnf); first | apply a9 | (apply al <;> intro h) | apply i6 | apply nJ | apply nK | apply nL)
 all_goals try conv => whnf
 all_goals try (refine a8.mk ?_; try dsimp only)
 all_goals first | refine stay ?_ | trivial | (simp (discharger := omega) only [wR]; omega) | skip
 all_goals simp only [hw] at *
 all_goals
  refine a7.mk [] ?_ <;> (repeat' first | trivial | apply ab | apply aV)
  unfold ec
  repeat (first | rw [if_pos (by omega)] | rw [if_neg (by omega)])
  repeat' (first | rfl | refine congrArg byte ?_ | refine En ?_ ?_)
  all_goals (simp (discharger := omega) only [wR]; omega)
def xC : Sm := fun args σ => match args, σ with
 | [.int .i32 n], [] => some (0 ≤ n ∧ n ≤ 1114111, .str (ec n), none)
 | _, _ => none
theorem JN : aa 167 xC := by
 intro args sg pre x r he hp
 unfold xC at he
 split at he <;> cases he
 exact HX _ hp.1 hp.2
theorem Dm (n : Int) : 1 ≤ (ec n).length ∧ (ec n).length ≤ 4 := by
 unfold ec
 repeat' split
 all_goals simp
def iu (s : List UInt8) (i : Nat) : Int × Nat :=
 if s.length ≤ i then (0, 0)
 else if bq (s.drop i) < 0 ∨ 1114111 < bq (s.drop i) ∨ oI (bq (s.drop i)) = false then (0, 0)
 else if (s.drop i).take (ec (bq (s.drop i))).length = ec (bq (s.drop i)) then (bq (s.drop i), (ec (bq (s.drop i))).length)
 else (0, 0)
theorem I0 (s : List UInt8) (i : Nat) (hs : s.length ≤ 10000000) : OK 152 [.str s, .int .i64 i] [] (.tuple [.int .i32 (iu s i).1, .int .i64 (iu s i).2]) none := by
 refine af (C := cx [(165, xD), (166, xE), (167, xC)]) (ah ⟨JO, k_uIs, JN, trivial⟩) (fn := Tryz.f152) rfl rfl rfl rfl fun hw _ => ?_
 have hl := Dm (bq (s.drop i))
 have hg : 0 ≤ bq (s.drop i) → bq (s.drop i) ≤ 1114111 → IntKind.i32.wrap (bq (s.drop i)) = bq (s.drop i) := fun a b => by rw [wi32]; omega
 have hr : iu s i = if s.length ≤ i then (0, 0)
  else if bq (s.drop i) < 0 ∨ 1114111 < bq (s.drop i) ∨ oI (bq (s.drop i)) = false then (0, 0)
  else if (s.drop i).take (ec (bq (s.drop i))).length = ec (bq (s.drop i)) then (bq (s.drop i), (ec (bq (s.drop i))).length)
  else (0, 0) := rfl
 repeat' ((conv => whnf); first | apply a9 | apply aJ | ((first | apply al | apply gk) <;> intro h))
 all_goals try conv => whnf
 all_goals try (refine a8.mk ?_; try dsimp only)
 all_goals first | refine stay ?_ | omega | (simp (discharger := omega) only [wR]; omega) | (simp only [aW]; omega) | skip
 all_goals try simp only [Int.toNat_natCast] at *
 . rw [hr, if_pos (by omega)]
   refine a7.mk [] ?_ <;> (repeat' first | trivial)
 . rw [hr, if_neg (by omega), if_pos (.inl (by assumption))]
   refine a7.mk [] ?_ <;> (repeat' first | trivial)
 . rw [hr, if_neg (by omega), if_pos (.inr (.inl (by assumption)))]
   refine a7.mk [] ?_ <;> (repeat' first | trivial)
 all_goals have hg' := hg (by omega) (by omega)
 all_goals have hw1 : IntKind.i64.wrap ((s.length : Int) - (i : Int)) = (s.length : Int) - i := by rw [bU]; omega
 all_goals have hw2 : IntKind.i64.wrap ((i : Int) + ((ec (bq (s.drop i))).length : Int)) = ((i + (ec (bq (s.drop i))).length : Nat) : Int) := by rw [bU]; omega
 all_goals simp only [hg', hw1, hw2, Int.toNat_natCast] at *
 . rw [hr, if_neg (by omega)]
   have hn : ¬ (s.drop i).take (ec (bq (s.drop i))).length = ec (bq (s.drop i)) := fun e => by
    have := congrArg List.length e
    rw [List.length_take, List.length_drop] at this
    omega
   rw [if_neg hn, ite_self]
   refine a7.mk [] ?_ <;> (repeat' first | trivial)
 . omega
 all_goals (have hI : oI (bq (s.drop i)) = decide (0 ≤ bq (s.drop i) ∧ bq (s.drop i) ≤ 1114111 ∧ (bq (s.drop i) < 55296 ∨ 57343 < bq (s.drop i))) := rfl)
 . rw [hr, if_neg (by omega)]
   have e : (s.drop i).take (ec (bq (s.drop i))).length = ec (bq (s.drop i)) := by
    rw [List.take_drop]; assumption
   rw [if_neg (by rw [hI, decide_eq_false_iff_not]; omega), if_pos e]
   refine a7.mk [] ?_ <;> (repeat' first | trivial)
 . rw [hr, if_neg (by omega)]
   have e : ¬ (s.drop i).take (ec (bq (s.drop i))).length = ec (bq (s.drop i)) := by
    rw [List.take_drop]; assumption
   rw [if_neg e, ite_self]
   refine a7.mk [] ?_ <;> (repeat' first | trivial)
 . rw [hr, if_neg (by omega), if_pos (.inr (.inr (by rw [hI]; exact decide_eq_false (by assumption))))]
   refine a7.mk [] ?_ <;> (repeat' first | trivial)
def xF : Sm := fun args σ => match args, σ with
 | [.str s, .int .i64 (.ofNat i)], [] => some (s.length ≤ 10000000, .tuple [.int .i32 (iu s i).1, .int .i64 (iu s i).2], none)
 | _, _ => none
theorem JP : aa 152 xF := by
 intro args sg pre x r he hp
 unfold xF at he
 split at he <;> cases he
 exact I0 _ _ hp
theorem MU (s : List UInt8) (i : Nat) : (iu s i).2 ≤ 4 ∧ ((iu s i).2 = 0 ∨ i + (iu s i).2 ≤ s.length) := by
 unfold iu
 have hl := Dm (bq (s.drop i))
 split
 . simp
 . split
   . simp
   . split
     . rename_i h
       have := congrArg List.length h
       rw [List.length_take, List.length_drop] at this
       simp only; omega
     . simp
def iv (s : List UInt8) (i c : Nat) : Nat × Nat :=
 if s.length ≤ i then (i, c)
 else if h : (iu s i).2 = 0 then (i, c)
 else iv s (i + (iu s i).2) (c + 1)
termination_by s.length - i
decreasing_by omega
theorem I1 (s : List UInt8) (hs : s.length ≤ 10000000) : OK 132 [.str s] [] (.tuple [.int .i64 (iv s 0 0).1, .int .i64 (iv s 0 0).2]) none := by
 refine af (C := cx [(152, xF)]) (ah ⟨JP, trivial⟩) (fn := Tryz.f132) rfl rfl rfl rfl fun hw _ => ?_
 refine bd.mk (Nat × Nat) (fun | (i, c) => i ≤ s.length ∧ c ≤ i ∧ iv s i c = iv s 0 0)
  (fun | (i, c) => ⟨29, [(4, .int .i64 i), (5, .int .i64 c), (0, .str s)], [], []⟩) (fun x => s.length - x.1) [] (0, 0) ⟨by omega, by omega, rfl⟩ ?_ (fun ⟨i, c⟩ ⟨hi, hc, he⟩ _ _ => ?_)
 . refine Go.VG.Sub.mk rfl ?_ ?_ ?_ ?_ <;> (repeat' first | trivial | rfl | exact cZ _ _ | apply ab | apply aV | apply au | apply bX | apply aE | apply cw | apply cJ | apply cK | apply bZ | apply aM)
 have hr := MU s i
 repeat' ((conv => whnf); first | with_reducible (first | refine go1 (fun j q h => ?_) fun h => ?_ | refine go2 ⟨rfl, rfl⟩ (fun h => ?_) fun j h => ?_ | refine go2 ?_ (fun h => ?_) fun j h => ?_ | refine goQ ?_ (fun h => ?_) fun h => ?_) | apply a9 | apply nH | apply aJ | ((first | apply al | apply go7 | apply go8 | apply gk | apply bu) <;> intro h) | with_reducible (first | refine dP.mk _ rfl ?_ | refine goB ?_ fun hc => ?_ | refine nI ?_ fun hc => ?_ | refine i5 ?_ fun hc => ?_ | refine iK ?_ fun hc => ?_ | apply jd | apply iL | refine mn ?_ fun b hb => ?_) | apply je | apply i6 | apply nJ | apply nK | apply nL | apply goN | apply nM | with_reducible refine nN ?_)
 all_goals try conv => whnf
 all_goals try (refine a8.mk ?_; try dsimp only)
 all_goals first | refine stay ?_ | trivial | omega | (simp (discharger := omega) only [wR]; omega) | (simp only [aW]; omega) | (simp (discharger := omega) [-List.getD_eq_getElem?_getD, wR] <;> omega) | skip
 . rw [iv, if_neg (by omega), dif_pos (by omega)] at he
   rw [← he]
   refine a7.mk [] ?_ <;> (repeat' first | trivial | rfl | exact cZ _ _ | apply ab | apply aV | apply au | apply bX | apply aE | apply cw | apply cJ | apply cK | apply bZ | apply aM)
 . rw [iv, if_neg (by omega), dif_neg (by omega)] at he
   refine ⟨[], (i + (iu s i).2, c + 1), ⟨by omega, by omega, he⟩, ?_, by omega⟩
   refine Go.VG.Sub.mk rfl ?_ ?_ ?_ ?_ <;> (repeat' first | trivial | rfl | exact cZ _ _ | apply ab | apply aV | apply au | apply bX | apply aE | apply cw | apply cJ | apply cK | apply bZ | apply aM)
   all_goals (first | omega | (simp (discharger := omega) only [wR]; omega) | (simp only [aW]; omega) | (simp (discharger := omega) [-List.getD_eq_getElem?_getD, wR] <;> omega))
 . rw [iv, if_pos (by omega)] at he
   rw [← he]
   refine a7.mk [] ?_ <;> (repeat' first | trivial | rfl | exact cZ _ _ | apply ab | apply aV | apply au | apply bX | apply aE | apply cw | apply cJ | apply cK | apply bZ | apply aM)
def xG : Sm := fun args σ => match args, σ with
 | [.str s], [] => some (s.length ≤ 10000000, .tuple [.int .i64 (iv s 0 0).1, .int .i64 (iv s 0 0).2], none)
 | _, _ => none
theorem JQ : aa 132 xG := by
 intro args sg pre x r he hp
 unfold xG at he
 split at he <;> cases he
 exact I1 _ hp
def mZ (s : List UInt8) : Int := if (iv s 0 0).1 = s.length then -1 else (iv s 0 0).1
theorem HY (s : List UInt8) (hs : s.length ≤ 10000000) : OK 96 [.str s] [] (.int .i64 (mZ s)) none := by
 refine af (C := cx [(132, xG)]) (ah ⟨JQ, trivial⟩) (fn := Tryz.f96) rfl rfl rfl rfl fun hw _ => ?_
 repeat' ((conv => whnf); first | with_reducible (first | refine go1 (fun j q h => ?_) fun h => ?_ | refine go2 ⟨rfl, rfl⟩ (fun h => ?_) fun j h => ?_ | refine go2 ?_ (fun h => ?_) fun j h => ?_ | refine goQ ?_ (fun h => ?_) fun h => ?_) | apply a9 | apply nH | apply aJ | ((first | apply al | apply go7 | apply go8 | apply gk | apply bu) <;> intro h) | with_reducible (first | refine dP.mk _ rfl ?_ | refine goB ?_ fun hc => ?_ | refine nI ?_ fun hc => ?_ | refine i5 ?_ fun hc => ?_ | refine iK ?_ fun hc => ?_ | apply jd | apply iL | refine mn ?_ fun b hb => ?_) | apply je | apply i6 | apply nJ | apply nK | apply nL | apply goN | apply nM | with_reducible refine nN ?_)
 all_goals try conv => whnf
 all_goals try (refine a8.mk ?_; try dsimp only)
 all_goals first | refine stay ?_ | trivial | omega | (simp (discharger := omega) only [wR]; omega) | (simp only [aW]; omega) | (simp (discharger := omega) [-List.getD_eq_getElem?_getD, wR] <;> omega) | skip
 all_goals unfold mZ
 . rw [if_pos (by omega)]
   refine a7.mk [] ?_ <;> (repeat' first | trivial | rfl | exact cZ _ _ | apply ab | apply aV | apply au | apply bX | apply aE | apply cw | apply cJ | apply cK | apply bZ | apply aM)
 . rw [if_neg (by omega)]
   refine a7.mk [] ?_ <;> (repeat' first | trivial | rfl | exact cZ _ _ | apply ab | apply aV | apply au | apply bX | apply aE | apply cw | apply cJ | apply cK | apply bZ | apply aM)
def tJ : Sm := fun args σ => match args, σ with
 | [.str s], [] => some (s.length ≤ 10000000, .int .i64 (mZ s), none)
 | _, _ => none
theorem AV : aa 96 tJ := by
 intro args sg pre x r he hp
 unfold tJ at he
 split at he <;> cases he
 exact HY _ hp
end Go.Proofs.YtipejldppicijaaGreatDoor
