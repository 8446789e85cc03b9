/-
  A part of the proof.
-/
import Derived.Test.YtllncocibkgjkaaDoorUTFe
import Derived.Test.YtllncocibkgjkaaDoorPHex
set_option linter.unusedSimpArgs false
set_option linter.unusedVariables false
set_option maxHeartbeats 4000000
namespace Go.Proofs.YtllncocibkgjkaaDoor
open Go Go.VG
set_option maxRecDepth 100000
theorem FH (s : List UInt8) (i : Nat) (hp : s.length ≤ 100000000) : OK 77 ([.str s, .int .i64 i]) ([]) (.tuple [.int .i32 (bI s i).1, .int .i64 (bI s i).2]) (none) := by
 rw [← kX]; exact FG s i hp
def wY : Sm := fun args σ => match args, σ with
 | [.str s, .int .i64 (.ofNat i)], [] => some (s.length ≤ 100000000, .tuple [.int .i32 (bI s i).1, .int .i64 (bI s i).2], none)
 | _, _ => none
theorem H3 : aE 77 wY := by
 intro args sg pre x r he hp
 unfold wY at he
 split at he <;> cases he
 . exact FH (hp := hp) ..
theorem Fv (s : List UInt8) (hp : s.length ≤ 10000000) : OK 70 ([.str s]) ([]) (.int .i64 (fi s)) (none) := by
 refine aI (C := cx [(77, wY)]) (aG ⟨H3, trivial⟩) (fn := Tryd.f70) rfl rfl rfl rfl fun hw hs => ?_
 refine cB.mk (Nat × Nat) (fun | (i, c) => i ≤ s.length ∧ c ≤ i ∧ dC s i c = dC s 0 0)
  (fun | (i, _) => ⟨22, [(3, .int .i64 i), (0, .str s)], [], []⟩) (fun x => s.length - x.1) [] (0, 0) ⟨by omega, by omega, rfl⟩ ?_ (fun ⟨i, c⟩ ⟨hi, hc, he⟩ _ _ => ?_)
 . refine Go.VG.Sub.mk rfl ?_ ?_ ?_ ?_ <;> (repeat' first | trivial)
 have hr := qT s i
 repeat' ((conv => whnf); first | apply ai | (apply aj <;> intro h))
 all_goals try conv => whnf
 all_goals try (refine a8.mk ?_; try dsimp only)
 all_goals first | refine stay ?_ | omega | skip
 . rw [dC, if_neg (by omega), dif_pos (by omega)] at he
   unfold fi
   rw [← he, if_neg (by simp only; omega)]
   refine ab.mk [] ?_ <;> (repeat' first | trivial)
 . rw [dC, if_neg (by omega), dif_neg (by omega)] at he
   refine ⟨[], (i + (bI s i).2, c + 1), ⟨by omega, by omega, he⟩, ?_, by omega⟩
   refine Go.VG.Sub.mk rfl ?_ ?_ ?_ ?_ <;> (repeat' first | trivial | apply aa | apply ar)
   all_goals (simp (discharger := omega) only [wR]; omega)
 . rw [dC, if_pos (by omega)] at he
   unfold fi
   rw [← he, if_pos (by simp only; omega)]
   refine ab.mk [] ?_ <;> (repeat' first | trivial)
def wQ : Sm := fun args σ => match args, σ with
 | [.str s], [] => some (s.length ≤ 10000000, .int .i64 (fi s), none)
 | _, _ => none
theorem GW : aE 70 wQ := by
 intro args sg pre x r he hp
 unfold wQ at he
 split at he <;> cases he
 . exact Fv (hp := hp) ..
def ic (r : Int) : Int := if r < 128 then 1 else if r < 2048 then 2 else if r < 65536 then 3 else 4
def oO (r n : Int) : Sm := fun args σ => some (args = [.int .i32 r] ∧ σ = [] ∧ ic r = n, .int .i64 n, none)
theorem rV (r n : Int) : aE 76 (oO r n) := by
 intro args sg pre x rr he hp
 unfold oO at he
 cases he
 obtain ⟨rfl, rfl, rfl⟩ := hp
 refine aI (C := cx []) (aG trivial) (fn := Tryd.f76) rfl rfl rfl rfl fun hw hs => ?_
 repeat' ((conv => whnf); (apply aj <;> intro h))
 all_goals try conv => whnf
 all_goals try (refine a8.mk ?_; try dsimp only)
 all_goals try refine stay ?_
 all_goals
  unfold ic
  repeat (first | rw [if_pos (by omega)] | rw [if_neg (by omega)])
  refine ab.mk [] ?_ <;> (repeat' first | trivial)
theorem sy (a b j : Nat) (ha : a * 2 ^ j + b < 256) (hb : b < 2 ^ j) : jf .u8 ((a * 2 ^ j : Nat) : Int) (b : Int) = ((a * 2 ^ j + b : Nat) : Int) := by
 show IntKind.u8.wrap ((BitVec.ofInt 8 ((a * 2 ^ j : Nat) : Int) ||| BitVec.ofInt 8 (b : Int)).toNat : Int) = _
 rw [BitVec.ofInt_natCast, BitVec.ofInt_natCast, BitVec.toNat_or, BitVec.toNat_ofNat, BitVec.toNat_ofNat, Nat.mod_eq_of_lt (by omega), Nat.mod_eq_of_lt (by omega), vr a b j hb]
 rw [mh]; omega
theorem Ig (b : Nat) (h : b < 64) : jf .u8 128 b = ((128 + b : Nat) : Int) := sy 2 b 6 (by omega) (by omega)
theorem Ih (b : Nat) (h : b < 32) : jf .u8 192 b = ((192 + b : Nat) : Int) := sy 6 b 5 (by omega) (by omega)
theorem Ii (b : Nat) (h : b < 16) : jf .u8 224 b = ((224 + b : Nat) : Int) := sy 14 b 4 (by omega) (by omega)
theorem Ij (b : Nat) (h : b < 8) : jf .u8 240 b = ((240 + b : Nat) : Int) := sy 30 b 3 (by omega) (by omega)
theorem copy_eq (l : List V) : List.take (List.replicate (l.length : Int).toNat (V.int .u8 0)).length l ++ List.drop l.length (List.replicate (l.length : Int).toNat (V.int .u8 0)) = l := by simp
theorem a63 (x : Nat) : jf .u8 128 (lT .u8 (IntKind.u8.wrap x) 63) = ((128 + x % 64 : Nat) : Int) := by
 rw [mh, show ((x : Int) % 256) = ((x % 256 : Nat) : Int) by omega, xE _ (by omega), show x % 256 % 64 = x % 64 by omega]
 exact Ig _ (by omega)
theorem s6 (r : Nat) : fC .i32 r 6 = ((r / 64 : Nat) : Int) := pS .i32 r 6
theorem s12 (r : Nat) : fC .i32 r 12 = ((r / 4096 : Nat) : Int) := pS .i32 r 12
theorem s18 (r : Nat) : fC .i32 r 18 = ((r / 262144 : Nat) : Int) := pS .i32 r 18
theorem sa (r : Nat) (h : r < 2048) : jf .u8 (jF .u8 240 (IntKind.i64.wrap (4 - 2))) (IntKind.u8.wrap (fC .i32 r (IntKind.i64.wrap (6 * IntKind.i64.wrap (2 - 1))))) = ((192 + r / 64 : Nat) : Int) := by
 rw [show jF .u8 240 (IntKind.i64.wrap (4 - 2)) = 192 by decide, show IntKind.i64.wrap (6 * IntKind.i64.wrap (2 - 1)) = 6 by decide, s6, tu _ (by show ((r / 64 : Nat) : Int) ≤ 255; omega)]
 exact Ih _ (by omega)
theorem sc (r : Nat) (h : r < 65536) : jf .u8 (jF .u8 240 (IntKind.i64.wrap (4 - 3))) (IntKind.u8.wrap (fC .i32 r (IntKind.i64.wrap (6 * IntKind.i64.wrap (3 - 1))))) = ((224 + r / 4096 : Nat) : Int) := by
 rw [show jF .u8 240 (IntKind.i64.wrap (4 - 3)) = 224 by decide, show IntKind.i64.wrap (6 * IntKind.i64.wrap (3 - 1)) = 12 by decide, s12, tu _ (by show ((r / 4096 : Nat) : Int) ≤ 255; omega)]
 exact Ii _ (by omega)
theorem sd (r : Nat) (h : r < 1114112) : jf .u8 (jF .u8 240 (IntKind.i64.wrap (4 - 4))) (IntKind.u8.wrap (fC .i32 r (IntKind.i64.wrap (6 * IntKind.i64.wrap (4 - 1))))) = ((240 + r / 262144 : Nat) : Int) := by
 rw [show jF .u8 240 (IntKind.i64.wrap (4 - 4)) = 240 by decide, show IntKind.i64.wrap (6 * IntKind.i64.wrap (4 - 1)) = 18 by decide, s18, tu _ (by show ((r / 262144 : Nat) : Int) ≤ 255; omega)]
 exact Ij _ (by omega)
theorem rm (x : Int) (h : 0 ≤ x ∧ x ≤ 255) (s : List UInt8) : bl (byte x :: s) = V.int .u8 x :: bl s := by simp only [bl, bv, gO h]
theorem FA (l : List V) (r : Nat) (hu : d6 r = true) (hn : ic r = 1) (hl : l.length ≤ 3000000000) : OK 67 [.buf 0, .int .i32 r] [.buf 1 0 l] (.buf 0) (some [.buf 1 0 (l ++ bl (bQ r))]) := by
 refine aI (C := cx [(75, np), (76, oO r 1)]) (aG ⟨pV, rV r 1, trivial⟩) (fn := Tryd.f67) rfl rfl rfl rfl fun hw hs => ?_
 repeat' ((conv => whnf); first | apply ai | apply aw | (apply aj <;> intro h))
 all_goals try conv => whnf
 all_goals try (refine a8.mk ?_; try dsimp only)
 all_goals first | refine stay ?_ | trivial | (simp (discharger := omega) only [wR]; omega) | (simp (discharger := omega) [-List.getD_eq_getElem?_getD, wR] <;> omega) | skip
 . have hb := (iN _).1 hu
   have hr : (1 = 1 ∧ r < 128) ∨ (1 = 2 ∧ 128 ≤ r ∧ r < 2048) ∨ (1 = 3 ∧ 2048 ≤ r ∧ r < 65536) ∨ (1 = 4 ∧ 65536 ≤ r ∧ r < 1114112) := by
    unfold ic at hn
    repeat' split at hn
    all_goals omega
   refine ab.mk [.swap 0 1] ?_ <;> (repeat' first | trivial | apply aa | apply ak)
   rw [copy_eq]
   try rw [sa r (by omega)]
   try rw [sc r (by omega)]
   try rw [sd r (by omega)]
   try simp only [s6, s12, a63]
   unfold bQ
   repeat (first | rw [if_pos (by omega)] | rw [if_neg (by omega)])
   repeat rw [rm _ (by omega)]
   try simp only [List.append_assoc, List.cons_append, List.nil_append]
   repeat' (first | rfl | refine congrArg (l ++ ·) ?_ | refine px ?_ ?_ | refine congrArg (V.int .u8) ?_)
   all_goals (simp (discharger := omega) only [wR]; omega)
 . exact absurd ((iN _).1 hu) (by assumption)
theorem FB (l : List V) (r : Nat) (hu : d6 r = true) (hn : ic r = 2) (hl : l.length ≤ 3000000000) : OK 67 [.buf 0, .int .i32 r] [.buf 1 0 l] (.buf 0) (some [.buf 1 0 (l ++ bl (bQ r))]) := by
 refine aI (C := cx [(75, np), (76, oO r 2)]) (aG ⟨pV, rV r 2, trivial⟩) (fn := Tryd.f67) rfl rfl rfl rfl fun hw hs => ?_
 repeat' ((conv => whnf); first | apply ai | apply aw | (apply aj <;> intro h))
 all_goals try conv => whnf
 all_goals try (refine a8.mk ?_; try dsimp only)
 all_goals first | refine stay ?_ | trivial | (simp (discharger := omega) only [wR]; omega) | (simp (discharger := omega) [-List.getD_eq_getElem?_getD, wR] <;> omega) | skip
 . have hb := (iN _).1 hu
   have hr : (2 = 1 ∧ r < 128) ∨ (2 = 2 ∧ 128 ≤ r ∧ r < 2048) ∨ (2 = 3 ∧ 2048 ≤ r ∧ r < 65536) ∨ (2 = 4 ∧ 65536 ≤ r ∧ r < 1114112) := by
    unfold ic at hn
    repeat' split at hn
    all_goals omega
   refine ab.mk [.swap 0 1] ?_ <;> (repeat' first | trivial | apply aa | apply ak)
   rw [copy_eq]
   try rw [sa r (by omega)]
   try rw [sc r (by omega)]
   try rw [sd r (by omega)]
   try simp only [s6, s12, a63]
   unfold bQ
   repeat (first | rw [if_pos (by omega)] | rw [if_neg (by omega)])
   repeat rw [rm _ (by omega)]
   try simp only [List.append_assoc, List.cons_append, List.nil_append]
   repeat' (first | rfl | refine congrArg (l ++ ·) ?_ | refine px ?_ ?_ | refine congrArg (V.int .u8) ?_)
   all_goals omega
 . exact absurd ((iN _).1 hu) (by assumption)
theorem FC (l : List V) (r : Nat) (hu : d6 r = true) (hn : ic r = 3) (hl : l.length ≤ 3000000000) : OK 67 [.buf 0, .int .i32 r] [.buf 1 0 l] (.buf 0) (some [.buf 1 0 (l ++ bl (bQ r))]) := by
 refine aI (C := cx [(75, np), (76, oO r 3)]) (aG ⟨pV, rV r 3, trivial⟩) (fn := Tryd.f67) rfl rfl rfl rfl fun hw hs => ?_
 repeat' ((conv => whnf); first | apply ai | apply aw | (apply aj <;> intro h))
 all_goals try conv => whnf
 all_goals try (refine a8.mk ?_; try dsimp only)
 all_goals first | refine stay ?_ | trivial | (simp (discharger := omega) only [wR]; omega) | (simp (discharger := omega) [-List.getD_eq_getElem?_getD, wR] <;> omega) | skip
 . have hb := (iN _).1 hu
   have hr : (3 = 1 ∧ r < 128) ∨ (3 = 2 ∧ 128 ≤ r ∧ r < 2048) ∨ (3 = 3 ∧ 2048 ≤ r ∧ r < 65536) ∨ (3 = 4 ∧ 65536 ≤ r ∧ r < 1114112) := by
    unfold ic at hn
    repeat' split at hn
    all_goals omega
   refine ab.mk [.swap 0 1] ?_ <;> (repeat' first | trivial | apply aa | apply ak)
   rw [copy_eq]
   try rw [sa r (by omega)]
   try rw [sc r (by omega)]
   try rw [sd r (by omega)]
   try simp only [s6, s12, a63]
   unfold bQ
   repeat (first | rw [if_pos (by omega)] | rw [if_neg (by omega)])
   repeat rw [rm _ (by omega)]
   try simp only [List.append_assoc, List.cons_append, List.nil_append]
   repeat' (first | rfl | refine congrArg (l ++ ·) ?_ | refine px ?_ ?_ | refine congrArg (V.int .u8) ?_)
   all_goals omega
 . exact absurd ((iN _).1 hu) (by assumption)
theorem FD (l : List V) (r : Nat) (hu : d6 r = true) (hn : ic r = 4) (hl : l.length ≤ 3000000000) : OK 67 [.buf 0, .int .i32 r] [.buf 1 0 l] (.buf 0) (some [.buf 1 0 (l ++ bl (bQ r))]) := by
 refine aI (C := cx [(75, np), (76, oO r 4)]) (aG ⟨pV, rV r 4, trivial⟩) (fn := Tryd.f67) rfl rfl rfl rfl fun hw hs => ?_
 repeat' ((conv => whnf); first | apply ai | apply aw | (apply aj <;> intro h))
 all_goals try conv => whnf
 all_goals try (refine a8.mk ?_; try dsimp only)
 all_goals first | refine stay ?_ | trivial | (simp (discharger := omega) only [wR]; omega) | (simp (discharger := omega) [-List.getD_eq_getElem?_getD, wR] <;> omega) | skip
 . have hb := (iN _).1 hu
   have hr : (4 = 1 ∧ r < 128) ∨ (4 = 2 ∧ 128 ≤ r ∧ r < 2048) ∨ (4 = 3 ∧ 2048 ≤ r ∧ r < 65536) ∨ (4 = 4 ∧ 65536 ≤ r ∧ r < 1114112) := by
    unfold ic at hn
    repeat' split at hn
    all_goals omega
   refine ab.mk [.swap 0 1] ?_ <;> (repeat' first | trivial | apply aa | apply ak)
   rw [copy_eq]
   try rw [sa r (by omega)]
   try rw [sc r (by omega)]
   try rw [sd r (by omega)]
   try simp only [s6, s12, a63]
   unfold bQ
   repeat (first | rw [if_pos (by omega)] | rw [if_neg (by omega)])
   repeat rw [rm _ (by omega)]
   try simp only [List.append_assoc, List.cons_append, List.nil_append]
   repeat' (first | rfl | refine congrArg (l ++ ·) ?_ | refine px ?_ ?_ | refine congrArg (V.int .u8) ?_)
   all_goals omega
 . exact absurd ((iN _).1 hu) (by assumption)
theorem FE (l : List V) (r : Int) (hp : d6 r = true ∧ l.length ≤ 3000000000) : OK 67 ([.buf 0, .int .i32 r]) ([.buf 1 0 l]) (.buf 0) (some [.buf 1 0 (l ++ bl (bQ r))]) := by
 obtain ⟨hu, hl⟩ := hp
 obtain ⟨n, rfl⟩ := Int.eq_ofNat_of_zero_le ((iN _).1 hu).1
 have : ic n = 1 ∨ ic n = 2 ∨ ic n = 3 ∨ ic n = 4 := by
  unfold ic; repeat' split
  all_goals simp
 rcases this with h | h | h | h
 . exact FA l n hu h hl
 . exact FB l n hu h hl
 . exact FC l n hu h hl
 . exact FD l n hu h hl
def wW : Sm := fun args σ => match args, σ with
 | [.buf 0, .int .i32 r], [.buf 1 0 l] => some (d6 r = true ∧ l.length ≤ 3000000000, .buf 0, some [.buf 1 0 (l ++ bl (bQ r))])
 | _, _ => none
theorem H0 : aE 67 wW := by
 intro args sg pre x r he hp
 unfold wW at he
 split at he <;> cases he
 . exact FE (hp := hp) ..
end Go.Proofs.YtllncocibkgjkaaDoor
