/-
  A part of the proof.
-/
import Derived.Test.YtllncocibkgjkaaUTFe
import Derived.Test.YtllncocibkgjkaaPHex
set_option linter.unusedSimpArgs false
set_option linter.unusedVariables false
set_option maxHeartbeats 4000000
namespace Go.Proofs.Ytllncocibkgjkaa
open Go Go.VG
set_option maxRecDepth 100000
theorem FJ (s : List UInt8) (i : Nat) (hp : s.length ≤ 100000000) : OK 112 ([.str s, .int .i64 i]) ([]) (.tuple [.int .i32 (ba s i).1, .int .i64 (ba s i).2]) (none) := by
 rw [← jN]; exact FI s i hp
def wN : Sm := fun args σ => match args, σ with
 | [.str s, .int .i64 (.ofNat i)], [] => some (s.length ≤ 100000000, .tuple [.int .i32 (ba s i).1, .int .i64 (ba s i).2], none)
 | _, _ => none
theorem Hf : aD 112 wN := by
 intro args sg pre x r he hp
 unfold wN at he
 split at he <;> cases he
 . exact FJ (hp := hp) ..
theorem Fx (s : List UInt8) (hp : s.length ≤ 10000000) : OK 96 ([.str s]) ([]) (.int .i64 (jS s)) (none) := by
 refine aC (C := cx [(112, wN)]) (ay ⟨Hf, trivial⟩) (fn := Try.f96) rfl rfl rfl rfl fun hw hs => ?_
 refine bn.mk (Nat × Nat) (fun | (i, c) => i ≤ s.length ∧ c ≤ i ∧ iu s i c = iu s 0 0)
  (fun | (i, _) => ⟨22, [(3, .int .i64 i), (0, .str s)], [], []⟩) (fun x => s.length - x.1) [] (0, 0) ⟨by omega, by omega, rfl⟩ ?_ (fun ⟨i, c⟩ ⟨hi, hc, he⟩ _ _ => ?_)
 . refine Go.VG.Sub.mk rfl ?_ ?_ ?_ ?_ <;> (repeat' first | trivial)
 have hr := ql s i
 repeat' ((conv => whnf); first | apply al | (apply ao <;> intro h))
 all_goals try conv => whnf
 all_goals try (refine ae.mk ?_; try dsimp only)
 all_goals first | refine stay ?_ | omega | skip
 . rw [iu, if_neg (by omega), dif_pos (by omega)] at he
   unfold jS
   rw [← he, if_neg (by simp only; omega)]
   refine a8.mk [] ?_ <;> (repeat' first | trivial)
 . rw [iu, if_neg (by omega), dif_neg (by omega)] at he
   refine ⟨[], (i + (ba s i).2, c + 1), ⟨by omega, by omega, he⟩, ?_, by omega⟩
   refine Go.VG.Sub.mk rfl ?_ ?_ ?_ ?_ <;> (repeat' first | trivial | apply aj | apply aQ)
   all_goals (simp (discharger := omega) only [wR]; omega)
 . rw [iu, if_pos (by omega)] at he
   unfold jS
   rw [← he, if_pos (by simp only; omega)]
   refine a8.mk [] ?_ <;> (repeat' first | trivial)
def wG : Sm := fun args σ => match args, σ with
 | [.str s], [] => some (s.length ≤ 10000000, .int .i64 (jS s), none)
 | _, _ => none
theorem H9 : aD 96 wG := by
 intro args sg pre x r he hp
 unfold wG at he
 split at he <;> cases he
 . exact Fx (hp := hp) ..
def gF (r : Int) : Int := if r < 128 then 1 else if r < 2048 then 2 else if r < 65536 then 3 else 4
def oh (r n : Int) : Sm := fun args σ => some (args = [.int .i32 r] ∧ σ = [] ∧ gF r = n, .int .i64 n, none)
theorem rk (r n : Int) : aD 111 (oh r n) := by
 intro args sg pre x rr he hp
 unfold oh at he
 cases he
 obtain ⟨rfl, rfl, rfl⟩ := hp
 refine aC (C := cx []) (ay trivial) (fn := Try.f111) rfl rfl rfl rfl fun hw hs => ?_
 repeat' ((conv => whnf); (apply ao <;> intro h))
 all_goals try conv => whnf
 all_goals try (refine ae.mk ?_; try dsimp only)
 all_goals try refine stay ?_
 all_goals
  unfold gF
  repeat (first | rw [if_pos (by omega)] | rw [if_neg (by omega)])
  refine a8.mk [] ?_ <;> (repeat' first | trivial)
theorem rQ (a b j : Nat) (ha : a * 2 ^ j + b < 256) (hb : b < 2 ^ j) : iK .u8 ((a * 2 ^ j : Nat) : Int) (b : Int) = ((a * 2 ^ j + b : Nat) : Int) := by
 show IntKind.u8.wrap ((BitVec.ofInt 8 ((a * 2 ^ j : Nat) : Int) ||| BitVec.ofInt 8 (b : Int)).toNat : Int) = _
 rw [BitVec.ofInt_natCast, BitVec.ofInt_natCast, BitVec.toNat_or, BitVec.toNat_ofNat, BitVec.toNat_ofNat, Nat.mod_eq_of_lt (by omega), Nat.mod_eq_of_lt (by omega), uT a b j hb]
 rw [jU]; omega
theorem I2 (b : Nat) (h : b < 64) : iK .u8 128 b = ((128 + b : Nat) : Int) := rQ 2 b 6 (by omega) (by omega)
theorem I3 (b : Nat) (h : b < 32) : iK .u8 192 b = ((192 + b : Nat) : Int) := rQ 6 b 5 (by omega) (by omega)
theorem I4 (b : Nat) (h : b < 16) : iK .u8 224 b = ((224 + b : Nat) : Int) := rQ 14 b 4 (by omega) (by omega)
theorem I5 (b : Nat) (h : b < 8) : iK .u8 240 b = ((240 + b : Nat) : Int) := rQ 30 b 3 (by omega) (by omega)
theorem copy_eq (l : List V) : List.take (List.replicate (l.length : Int).toNat (V.int .u8 0)).length l ++ List.drop l.length (List.replicate (l.length : Int).toNat (V.int .u8 0)) = l := by simp
theorem a63 (x : Nat) : iK .u8 128 (ln .u8 (IntKind.u8.wrap x) 63) = ((128 + x % 64 : Nat) : Int) := by
 rw [jU, show ((x : Int) % 256) = ((x % 256 : Nat) : Int) by omega, xp _ (by omega), show x % 256 % 64 = x % 64 by omega]
 exact I2 _ (by omega)
theorem s6 (r : Nat) : jf .i32 r 6 = ((r / 64 : Nat) : Int) := rf .i32 r 6
theorem s12 (r : Nat) : jf .i32 r 12 = ((r / 4096 : Nat) : Int) := rf .i32 r 12
theorem s18 (r : Nat) : jf .i32 r 18 = ((r / 262144 : Nat) : Int) := rf .i32 r 18
theorem rC (r : Nat) (h : r < 2048) : iK .u8 (je .u8 240 (IntKind.i64.wrap (4 - 2))) (IntKind.u8.wrap (jf .i32 r (IntKind.i64.wrap (6 * IntKind.i64.wrap (2 - 1))))) = ((192 + r / 64 : Nat) : Int) := by
 rw [show je .u8 240 (IntKind.i64.wrap (4 - 2)) = 192 by decide, show IntKind.i64.wrap (6 * IntKind.i64.wrap (2 - 1)) = 6 by decide, s6, sL _ (by show ((r / 64 : Nat) : Int) ≤ 255; omega)]
 exact I3 _ (by omega)
theorem rD (r : Nat) (h : r < 65536) : iK .u8 (je .u8 240 (IntKind.i64.wrap (4 - 3))) (IntKind.u8.wrap (jf .i32 r (IntKind.i64.wrap (6 * IntKind.i64.wrap (3 - 1))))) = ((224 + r / 4096 : Nat) : Int) := by
 rw [show je .u8 240 (IntKind.i64.wrap (4 - 3)) = 224 by decide, show IntKind.i64.wrap (6 * IntKind.i64.wrap (3 - 1)) = 12 by decide, s12, sL _ (by show ((r / 4096 : Nat) : Int) ≤ 255; omega)]
 exact I4 _ (by omega)
theorem rE (r : Nat) (h : r < 1114112) : iK .u8 (je .u8 240 (IntKind.i64.wrap (4 - 4))) (IntKind.u8.wrap (jf .i32 r (IntKind.i64.wrap (6 * IntKind.i64.wrap (4 - 1))))) = ((240 + r / 262144 : Nat) : Int) := by
 rw [show je .u8 240 (IntKind.i64.wrap (4 - 4)) = 240 by decide, show IntKind.i64.wrap (6 * IntKind.i64.wrap (4 - 1)) = 18 by decide, s18, sL _ (by show ((r / 262144 : Nat) : Int) ≤ 255; omega)]
 exact I5 _ (by omega)
theorem qJ (x : Int) (h : 0 ≤ x ∧ x ≤ 255) (s : List UInt8) : bl (byte x :: s) = V.int .u8 x :: bl s := by simp only [bl, bv, d6 h]
theorem FC (l : List V) (r : Nat) (hu : cE r = true) (hn : gF r = 1) (hl : l.length ≤ 3000000000) : OK 93 [.buf 0, .int .i32 r] [.buf 1 0 l] (.buf 0) (some [.buf 1 0 (l ++ bl (b6 r))]) := by
 refine aC (C := cx [(110, mO), (111, oh r 1)]) (ay ⟨pj, rk r 1, trivial⟩) (fn := Try.f93) rfl rfl rfl rfl fun hw hs => ?_
 repeat' ((conv => whnf); first | apply al | apply aZ | (apply ao <;> intro h))
 all_goals try conv => whnf
 all_goals try (refine ae.mk ?_; try dsimp only)
 all_goals first | refine stay ?_ | trivial | (simp (discharger := omega) only [wR]; omega) | (simp (discharger := omega) [-List.getD_eq_getElem?_getD, wR] <;> omega) | skip
 . have hb := (gE _).1 hu
   have hr : (1 = 1 ∧ r < 128) ∨ (1 = 2 ∧ 128 ≤ r ∧ r < 2048) ∨ (1 = 3 ∧ 2048 ≤ r ∧ r < 65536) ∨ (1 = 4 ∧ 65536 ≤ r ∧ r < 1114112) := by
    unfold gF at hn
    repeat' split at hn
    all_goals omega
   refine a8.mk [.swap 0 1] ?_ <;> (repeat' first | trivial | apply aj | apply aV)
   rw [copy_eq]
   try rw [rC r (by omega)]
   try rw [rD r (by omega)]
   try rw [rE r (by omega)]
   try simp only [s6, s12, a63]
   unfold b6
   repeat (first | rw [if_pos (by omega)] | rw [if_neg (by omega)])
   repeat rw [qJ _ (by omega)]
   try simp only [List.append_assoc, List.cons_append, List.nil_append]
   repeat' (first | rfl | refine congrArg (l ++ ·) ?_ | refine oV ?_ ?_ | refine congrArg (V.int .u8) ?_)
   all_goals (simp (discharger := omega) only [wR]; omega)
 . exact absurd ((gE _).1 hu) (by assumption)
theorem FD (l : List V) (r : Nat) (hu : cE r = true) (hn : gF r = 2) (hl : l.length ≤ 3000000000) : OK 93 [.buf 0, .int .i32 r] [.buf 1 0 l] (.buf 0) (some [.buf 1 0 (l ++ bl (b6 r))]) := by
 refine aC (C := cx [(110, mO), (111, oh r 2)]) (ay ⟨pj, rk r 2, trivial⟩) (fn := Try.f93) rfl rfl rfl rfl fun hw hs => ?_
 repeat' ((conv => whnf); first | apply al | apply aZ | (apply ao <;> intro h))
 all_goals try conv => whnf
 all_goals try (refine ae.mk ?_; try dsimp only)
 all_goals first | refine stay ?_ | trivial | (simp (discharger := omega) only [wR]; omega) | (simp (discharger := omega) [-List.getD_eq_getElem?_getD, wR] <;> omega) | skip
 . have hb := (gE _).1 hu
   have hr : (2 = 1 ∧ r < 128) ∨ (2 = 2 ∧ 128 ≤ r ∧ r < 2048) ∨ (2 = 3 ∧ 2048 ≤ r ∧ r < 65536) ∨ (2 = 4 ∧ 65536 ≤ r ∧ r < 1114112) := by
    unfold gF at hn
    repeat' split at hn
    all_goals omega
   refine a8.mk [.swap 0 1] ?_ <;> (repeat' first | trivial | apply aj | apply aV)
   rw [copy_eq]
   try rw [rC r (by omega)]
   try rw [rD r (by omega)]
   try rw [rE r (by omega)]
   try simp only [s6, s12, a63]
   unfold b6
   repeat (first | rw [if_pos (by omega)] | rw [if_neg (by omega)])
   repeat rw [qJ _ (by omega)]
   try simp only [List.append_assoc, List.cons_append, List.nil_append]
   repeat' (first | rfl | refine congrArg (l ++ ·) ?_ | refine oV ?_ ?_ | refine congrArg (V.int .u8) ?_)
   all_goals omega
 . exact absurd ((gE _).1 hu) (by assumption)
theorem FE (l : List V) (r : Nat) (hu : cE r = true) (hn : gF r = 3) (hl : l.length ≤ 3000000000) : OK 93 [.buf 0, .int .i32 r] [.buf 1 0 l] (.buf 0) (some [.buf 1 0 (l ++ bl (b6 r))]) := by
 refine aC (C := cx [(110, mO), (111, oh r 3)]) (ay ⟨pj, rk r 3, trivial⟩) (fn := Try.f93) rfl rfl rfl rfl fun hw hs => ?_
 repeat' ((conv => whnf); first | apply al | apply aZ | (apply ao <;> intro h))
 all_goals try conv => whnf
 all_goals try (refine ae.mk ?_; try dsimp only)
 all_goals first | refine stay ?_ | trivial | (simp (discharger := omega) only [wR]; omega) | (simp (discharger := omega) [-List.getD_eq_getElem?_getD, wR] <;> omega) | skip
 . have hb := (gE _).1 hu
   have hr : (3 = 1 ∧ r < 128) ∨ (3 = 2 ∧ 128 ≤ r ∧ r < 2048) ∨ (3 = 3 ∧ 2048 ≤ r ∧ r < 65536) ∨ (3 = 4 ∧ 65536 ≤ r ∧ r < 1114112) := by
    unfold gF at hn
    repeat' split at hn
    all_goals omega
   refine a8.mk [.swap 0 1] ?_ <;> (repeat' first | trivial | apply aj | apply aV)
   rw [copy_eq]
   try rw [rC r (by omega)]
   try rw [rD r (by omega)]
   try rw [rE r (by omega)]
   try simp only [s6, s12, a63]
   unfold b6
   repeat (first | rw [if_pos (by omega)] | rw [if_neg (by omega)])
   repeat rw [qJ _ (by omega)]
   try simp only [List.append_assoc, List.cons_append, List.nil_append]
   repeat' (first | rfl | refine congrArg (l ++ ·) ?_ | refine oV ?_ ?_ | refine congrArg (V.int .u8) ?_)
   all_goals omega
 . exact absurd ((gE _).1 hu) (by assumption)
theorem FF (l : List V) (r : Nat) (hu : cE r = true) (hn : gF r = 4) (hl : l.length ≤ 3000000000) : OK 93 [.buf 0, .int .i32 r] [.buf 1 0 l] (.buf 0) (some [.buf 1 0 (l ++ bl (b6 r))]) := by
 refine aC (C := cx [(110, mO), (111, oh r 4)]) (ay ⟨pj, rk r 4, trivial⟩) (fn := Try.f93) rfl rfl rfl rfl fun hw hs => ?_
 repeat' ((conv => whnf); first | apply al | apply aZ | (apply ao <;> intro h))
 all_goals try conv => whnf
 all_goals try (refine ae.mk ?_; try dsimp only)
 all_goals first | refine stay ?_ | trivial | (simp (discharger := omega) only [wR]; omega) | (simp (discharger := omega) [-List.getD_eq_getElem?_getD, wR] <;> omega) | skip
 . have hb := (gE _).1 hu
   have hr : (4 = 1 ∧ r < 128) ∨ (4 = 2 ∧ 128 ≤ r ∧ r < 2048) ∨ (4 = 3 ∧ 2048 ≤ r ∧ r < 65536) ∨ (4 = 4 ∧ 65536 ≤ r ∧ r < 1114112) := by
    unfold gF at hn
    repeat' split at hn
    all_goals omega
   refine a8.mk [.swap 0 1] ?_ <;> (repeat' first | trivial | apply aj | apply aV)
   rw [copy_eq]
   try rw [rC r (by omega)]
   try rw [rD r (by omega)]
   try rw [rE r (by omega)]
   try simp only [s6, s12, a63]
   unfold b6
   repeat (first | rw [if_pos (by omega)] | rw [if_neg (by omega)])
   repeat rw [qJ _ (by omega)]
   try simp only [List.append_assoc, List.cons_append, List.nil_append]
   repeat' (first | rfl | refine congrArg (l ++ ·) ?_ | refine oV ?_ ?_ | refine congrArg (V.int .u8) ?_)
   all_goals omega
 . exact absurd ((gE _).1 hu) (by assumption)
theorem FG (l : List V) (r : Int) (hp : cE r = true ∧ l.length ≤ 3000000000) : OK 93 ([.buf 0, .int .i32 r]) ([.buf 1 0 l]) (.buf 0) (some [.buf 1 0 (l ++ bl (b6 r))]) := by
 obtain ⟨hu, hl⟩ := hp
 obtain ⟨n, rfl⟩ := Int.eq_ofNat_of_zero_le ((gE _).1 hu).1
 have : gF n = 1 ∨ gF n = 2 ∨ gF n = 3 ∨ gF n = 4 := by
  unfold gF; repeat' split
  all_goals simp
 rcases this with h | h | h | h
 . exact FC l n hu h hl
 . exact FD l n hu h hl
 . exact FE l n hu h hl
 . exact FF l n hu h hl
def wL : Sm := fun args σ => match args, σ with
 | [.buf 0, .int .i32 r], [.buf 1 0 l] => some (cE r = true ∧ l.length ≤ 3000000000, .buf 0, some [.buf 1 0 (l ++ bl (b6 r))])
 | _, _ => none
theorem Hd : aD 93 wL := by
 intro args sg pre x r he hp
 unfold wL at he
 split at he <;> cases he
 . exact FG (hp := hp) ..
end Go.Proofs.Ytllncocibkgjkaa
