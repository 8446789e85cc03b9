/-
  A part of the proof.
-/
import Derived.Test.YtllncocibkgjkaaGreatUTFe
import Derived.Test.YtllncocibkgjkaaGreatPHex
set_option linter.unusedSimpArgs false
set_option linter.unusedVariables false
set_option maxHeartbeats 4000000
namespace Go.Proofs.YtllncocibkgjkaaGreat
open Go Go.VG
set_option maxRecDepth 100000
theorem GN (s : List UInt8) (i : Nat) (hp : s.length ≤ 100000000) : OK 146 ([.str s, .int .i64 i]) ([]) (.tuple [.int .i32 (b8 s i).1, .int .i64 (b8 s i).2]) (none) := by
 rw [← kd]; exact GM s i hp
def xq : Sm := fun args σ => match args, σ with
 | [.str s, .int .i64 (.ofNat i)], [] => some (s.length ≤ 100000000, .tuple [.int .i32 (b8 s i).1, .int .i64 (b8 s i).2], none)
 | _, _ => none
theorem Il : ay 146 xq := by
 intro args sg pre x r he hp
 unfold xq at he
 split at he <;> cases he
 . exact GN (hp := hp) ..
theorem GA (s : List UInt8) (hp : s.length ≤ 10000000) : OK 135 ([.str s]) ([]) (.int .i64 (kj s)) (none) := by
 refine aq (C := cx [(146, xq)]) (ar ⟨Il, trivial⟩) (fn := Tryz.f135) rfl rfl rfl rfl fun hw hs => ?_
 refine bn.mk (Nat × Nat) (fun | (i, c) => i ≤ s.length ∧ c ≤ i ∧ iL s i c = iL s 0 0)
  (fun | (i, _) => ⟨22, [(3, .int .i64 i), (0, .str s)], [], []⟩) (fun x => s.length - x.1) [] (0, 0) ⟨by omega, by omega, rfl⟩ ?_ (fun ⟨i, c⟩ ⟨hi, hc, he⟩ _ _ => ?_)
 . refine Go.VG.Sub.mk rfl ?_ ?_ ?_ ?_ <;> (repeat' first | trivial)
 have hr := qE s i
 repeat' ((conv => whnf); first | apply ak | (apply al <;> intro h))
 all_goals try conv => whnf
 all_goals try (refine ab.mk ?_; try dsimp only)
 all_goals first | refine stay ?_ | omega | skip
 . rw [iL, if_neg (by omega), dif_pos (by omega)] at he
   unfold kj
   rw [← he, if_neg (by simp only; omega)]
   refine a8.mk [] ?_ <;> (repeat' first | trivial)
 . rw [iL, if_neg (by omega), dif_neg (by omega)] at he
   refine ⟨[], (i + (b8 s i).2, c + 1), ⟨by omega, by omega, he⟩, ?_, by omega⟩
   refine Go.VG.Sub.mk rfl ?_ ?_ ?_ ?_ <;> (repeat' first | trivial | apply aj | apply aR)
   all_goals (simp (discharger := omega) only [wR]; omega)
 . rw [iL, if_pos (by omega)] at he
   unfold kj
   rw [← he, if_pos (by simp only; omega)]
   refine a8.mk [] ?_ <;> (repeat' first | trivial)
def xj : Sm := fun args σ => match args, σ with
 | [.str s], [] => some (s.length ≤ 10000000, .int .i64 (kj s), none)
 | _, _ => none
theorem Ie : ay 135 xj := by
 intro args sg pre x r he hp
 unfold xj at he
 split at he <;> cases he
 . exact GA (hp := hp) ..
def gR (r : Int) : Int := if r < 128 then 1 else if r < 2048 then 2 else if r < 65536 then 3 else 4
def oJ (r n : Int) : Sm := fun args σ => some (args = [.int .i32 r] ∧ σ = [] ∧ gR r = n, .int .i64 n, none)
theorem rG (r n : Int) : ay 145 (oJ r n) := by
 intro args sg pre x rr he hp
 unfold oJ at he
 cases he
 obtain ⟨rfl, rfl, rfl⟩ := hp
 refine aq (C := cx []) (ar trivial) (fn := Tryz.f145) rfl rfl rfl rfl fun hw hs => ?_
 repeat' ((conv => whnf); (apply al <;> intro h))
 all_goals try conv => whnf
 all_goals try (refine ab.mk ?_; try dsimp only)
 all_goals try refine stay ?_
 all_goals
  unfold gR
  repeat (first | rw [if_pos (by omega)] | rw [if_neg (by omega)])
  refine a8.mk [] ?_ <;> (repeat' first | trivial)
theorem sf (a b j : Nat) (ha : a * 2 ^ j + b < 256) (hb : b < 2 ^ j) : j6 .u8 ((a * 2 ^ j : Nat) : Int) (b : Int) = ((a * 2 ^ j + b : Nat) : Int) := by
 show IntKind.u8.wrap ((BitVec.ofInt 8 ((a * 2 ^ j : Nat) : Int) ||| BitVec.ofInt 8 (b : Int)).toNat : Int) = _
 rw [BitVec.ofInt_natCast, BitVec.ofInt_natCast, BitVec.toNat_or, BitVec.toNat_ofNat, BitVec.toNat_ofNat, Nat.mod_eq_of_lt (by omega), Nat.mod_eq_of_lt (by omega), vu a b j hb]
 rw [ko]; omega
theorem Jm (b : Nat) (h : b < 64) : j6 .u8 128 b = ((128 + b : Nat) : Int) := sf 2 b 6 (by omega) (by omega)
theorem Jn (b : Nat) (h : b < 32) : j6 .u8 192 b = ((192 + b : Nat) : Int) := sf 6 b 5 (by omega) (by omega)
theorem Jo (b : Nat) (h : b < 16) : j6 .u8 224 b = ((224 + b : Nat) : Int) := sf 14 b 4 (by omega) (by omega)
theorem Jp (b : Nat) (h : b < 8) : j6 .u8 240 b = ((240 + b : Nat) : Int) := sf 30 b 3 (by omega) (by omega)
theorem copy_eq (l : List V) : List.take (List.replicate (l.length : Int).toNat (V.int .u8 0)).length l ++ List.drop l.length (List.replicate (l.length : Int).toNat (V.int .u8 0)) = l := by simp
theorem a63 (x : Nat) : j6 .u8 128 (lM .u8 (IntKind.u8.wrap x) 63) = ((128 + x % 64 : Nat) : Int) := by
 rw [ko, show ((x : Int) % 256) = ((x % 256 : Nat) : Int) by omega, xX _ (by omega), show x % 256 % 64 = x % 64 by omega]
 exact Jm _ (by omega)
theorem s6 (r : Nat) : jy .i32 r 6 = ((r / 64 : Nat) : Int) := rE .i32 r 6
theorem s12 (r : Nat) : jy .i32 r 12 = ((r / 4096 : Nat) : Int) := rE .i32 r 12
theorem s18 (r : Nat) : jy .i32 r 18 = ((r / 262144 : Nat) : Int) := rE .i32 r 18
theorem rR (r : Nat) (h : r < 2048) : j6 .u8 (jx .u8 240 (IntKind.i64.wrap (4 - 2))) (IntKind.u8.wrap (jy .i32 r (IntKind.i64.wrap (6 * IntKind.i64.wrap (2 - 1))))) = ((192 + r / 64 : Nat) : Int) := by
 rw [show jx .u8 240 (IntKind.i64.wrap (4 - 2)) = 192 by decide, show IntKind.i64.wrap (6 * IntKind.i64.wrap (2 - 1)) = 6 by decide, s6, tC _ (by show ((r / 64 : Nat) : Int) ≤ 255; omega)]
 exact Jn _ (by omega)
theorem rS (r : Nat) (h : r < 65536) : j6 .u8 (jx .u8 240 (IntKind.i64.wrap (4 - 3))) (IntKind.u8.wrap (jy .i32 r (IntKind.i64.wrap (6 * IntKind.i64.wrap (3 - 1))))) = ((224 + r / 4096 : Nat) : Int) := by
 rw [show jx .u8 240 (IntKind.i64.wrap (4 - 3)) = 224 by decide, show IntKind.i64.wrap (6 * IntKind.i64.wrap (3 - 1)) = 12 by decide, s12, tC _ (by show ((r / 4096 : Nat) : Int) ≤ 255; omega)]
 exact Jo _ (by omega)
theorem rT (r : Nat) (h : r < 1114112) : j6 .u8 (jx .u8 240 (IntKind.i64.wrap (4 - 4))) (IntKind.u8.wrap (jy .i32 r (IntKind.i64.wrap (6 * IntKind.i64.wrap (4 - 1))))) = ((240 + r / 262144 : Nat) : Int) := by
 rw [show jx .u8 240 (IntKind.i64.wrap (4 - 4)) = 240 by decide, show IntKind.i64.wrap (6 * IntKind.i64.wrap (4 - 1)) = 18 by decide, s18, tC _ (by show ((r / 262144 : Nat) : Int) ≤ 255; omega)]
 exact Jp _ (by omega)
theorem qX (x : Int) (h : 0 ≤ x ∧ x ≤ 255) (s : List UInt8) : bl (byte x :: s) = V.int .u8 x :: bl s := by simp only [bl, bv, d8 h]
theorem GG (l : List V) (r : Nat) (hu : cF r = true) (hn : gR r = 1) (hl : l.length ≤ 3000000000) : OK 132 [.buf 0, .int .i32 r] [.buf 1 0 l] (.buf 0) (some [.buf 1 0 (l ++ bl (aZ r))]) := by
 refine aq (C := cx [(144, n8), (145, oJ r 1)]) (ar ⟨pL, rG r 1, trivial⟩) (fn := Tryz.f132) rfl rfl rfl rfl fun hw hs => ?_
 repeat' ((conv => whnf); first | apply ak | apply aV | (apply al <;> intro h))
 all_goals try conv => whnf
 all_goals try (refine ab.mk ?_; try dsimp only)
 all_goals first | refine stay ?_ | trivial | (simp (discharger := omega) only [wR]; omega) | (simp (discharger := omega) [-List.getD_eq_getElem?_getD, wR] <;> omega) | skip
 . have hb := (gQ _).1 hu
   have hr : (1 = 1 ∧ r < 128) ∨ (1 = 2 ∧ 128 ≤ r ∧ r < 2048) ∨ (1 = 3 ∧ 2048 ≤ r ∧ r < 65536) ∨ (1 = 4 ∧ 65536 ≤ r ∧ r < 1114112) := by
    unfold gR at hn
    repeat' split at hn
    all_goals omega
   refine a8.mk [.swap 0 1] ?_ <;> (repeat' first | trivial | apply aj | apply aM)
   rw [copy_eq]
   try rw [rR r (by omega)]
   try rw [rS r (by omega)]
   try rw [rT r (by omega)]
   try simp only [s6, s12, a63]
   unfold aZ
   repeat (first | rw [if_pos (by omega)] | rw [if_neg (by omega)])
   repeat rw [qX _ (by omega)]
   try simp only [List.append_assoc, List.cons_append, List.nil_append]
   repeat' (first | rfl | refine congrArg (l ++ ·) ?_ | refine po ?_ ?_ | refine congrArg (V.int .u8) ?_)
   all_goals (simp (discharger := omega) only [wR]; omega)
 . exact absurd ((gQ _).1 hu) (by assumption)
theorem GH (l : List V) (r : Nat) (hu : cF r = true) (hn : gR r = 2) (hl : l.length ≤ 3000000000) : OK 132 [.buf 0, .int .i32 r] [.buf 1 0 l] (.buf 0) (some [.buf 1 0 (l ++ bl (aZ r))]) := by
 refine aq (C := cx [(144, n8), (145, oJ r 2)]) (ar ⟨pL, rG r 2, trivial⟩) (fn := Tryz.f132) rfl rfl rfl rfl fun hw hs => ?_
 repeat' ((conv => whnf); first | apply ak | apply aV | (apply al <;> intro h))
 all_goals try conv => whnf
 all_goals try (refine ab.mk ?_; try dsimp only)
 all_goals first | refine stay ?_ | trivial | (simp (discharger := omega) only [wR]; omega) | (simp (discharger := omega) [-List.getD_eq_getElem?_getD, wR] <;> omega) | skip
 . have hb := (gQ _).1 hu
   have hr : (2 = 1 ∧ r < 128) ∨ (2 = 2 ∧ 128 ≤ r ∧ r < 2048) ∨ (2 = 3 ∧ 2048 ≤ r ∧ r < 65536) ∨ (2 = 4 ∧ 65536 ≤ r ∧ r < 1114112) := by
    unfold gR at hn
    repeat' split at hn
    all_goals omega
   refine a8.mk [.swap 0 1] ?_ <;> (repeat' first | trivial | apply aj | apply aM)
   rw [copy_eq]
   try rw [rR r (by omega)]
   try rw [rS r (by omega)]
   try rw [rT r (by omega)]
   try simp only [s6, s12, a63]
   unfold aZ
   repeat (first | rw [if_pos (by omega)] | rw [if_neg (by omega)])
   repeat rw [qX _ (by omega)]
   try simp only [List.append_assoc, List.cons_append, List.nil_append]
   repeat' (first | rfl | refine congrArg (l ++ ·) ?_ | refine po ?_ ?_ | refine congrArg (V.int .u8) ?_)
   all_goals omega
 . exact absurd ((gQ _).1 hu) (by assumption)
theorem GI (l : List V) (r : Nat) (hu : cF r = true) (hn : gR r = 3) (hl : l.length ≤ 3000000000) : OK 132 [.buf 0, .int .i32 r] [.buf 1 0 l] (.buf 0) (some [.buf 1 0 (l ++ bl (aZ r))]) := by
 refine aq (C := cx [(144, n8), (145, oJ r 3)]) (ar ⟨pL, rG r 3, trivial⟩) (fn := Tryz.f132) rfl rfl rfl rfl fun hw hs => ?_
 repeat' ((conv => whnf); first | apply ak | apply aV | (apply al <;> intro h))
 all_goals try conv => whnf
 all_goals try (refine ab.mk ?_; try dsimp only)
 all_goals first | refine stay ?_ | trivial | (simp (discharger := omega) only [wR]; omega) | (simp (discharger := omega) [-List.getD_eq_getElem?_getD, wR] <;> omega) | skip
 . have hb := (gQ _).1 hu
   have hr : (3 = 1 ∧ r < 128) ∨ (3 = 2 ∧ 128 ≤ r ∧ r < 2048) ∨ (3 = 3 ∧ 2048 ≤ r ∧ r < 65536) ∨ (3 = 4 ∧ 65536 ≤ r ∧ r < 1114112) := by
    unfold gR at hn
    repeat' split at hn
    all_goals omega
   refine a8.mk [.swap 0 1] ?_ <;> (repeat' first | trivial | apply aj | apply aM)
   rw [copy_eq]
   try rw [rR r (by omega)]
   try rw [rS r (by omega)]
   try rw [rT r (by omega)]
   try simp only [s6, s12, a63]
   unfold aZ
   repeat (first | rw [if_pos (by omega)] | rw [if_neg (by omega)])
   repeat rw [qX _ (by omega)]
   try simp only [List.append_assoc, List.cons_append, List.nil_append]
   repeat' (first | rfl | refine congrArg (l ++ ·) ?_ | refine po ?_ ?_ | refine congrArg (V.int .u8) ?_)
   all_goals omega
 . exact absurd ((gQ _).1 hu) (by assumption)
theorem GJ (l : List V) (r : Nat) (hu : cF r = true) (hn : gR r = 4) (hl : l.length ≤ 3000000000) : OK 132 [.buf 0, .int .i32 r] [.buf 1 0 l] (.buf 0) (some [.buf 1 0 (l ++ bl (aZ r))]) := by
 refine aq (C := cx [(144, n8), (145, oJ r 4)]) (ar ⟨pL, rG r 4, trivial⟩) (fn := Tryz.f132) rfl rfl rfl rfl fun hw hs => ?_
 repeat' ((conv => whnf); first | apply ak | apply aV | (apply al <;> intro h))
 all_goals try conv => whnf
 all_goals try (refine ab.mk ?_; try dsimp only)
 all_goals first | refine stay ?_ | trivial | (simp (discharger := omega) only [wR]; omega) | (simp (discharger := omega) [-List.getD_eq_getElem?_getD, wR] <;> omega) | skip
 . have hb := (gQ _).1 hu
   have hr : (4 = 1 ∧ r < 128) ∨ (4 = 2 ∧ 128 ≤ r ∧ r < 2048) ∨ (4 = 3 ∧ 2048 ≤ r ∧ r < 65536) ∨ (4 = 4 ∧ 65536 ≤ r ∧ r < 1114112) := by
    unfold gR at hn
    repeat' split at hn
    all_goals omega
   refine a8.mk [.swap 0 1] ?_ <;> (repeat' first | trivial | apply aj | apply aM)
   rw [copy_eq]
   try rw [rR r (by omega)]
   try rw [rS r (by omega)]
   try rw [rT r (by omega)]
   try simp only [s6, s12, a63]
   unfold aZ
   repeat (first | rw [if_pos (by omega)] | rw [if_neg (by omega)])
   repeat rw [qX _ (by omega)]
   try simp only [List.append_assoc, List.cons_append, List.nil_append]
   repeat' (first | rfl | refine congrArg (l ++ ·) ?_ | refine po ?_ ?_ | refine congrArg (V.int .u8) ?_)
   all_goals omega
 . exact absurd ((gQ _).1 hu) (by assumption)
theorem GK (l : List V) (r : Int) (hp : cF r = true ∧ l.length ≤ 3000000000) : OK 132 ([.buf 0, .int .i32 r]) ([.buf 1 0 l]) (.buf 0) (some [.buf 1 0 (l ++ bl (aZ r))]) := by
 obtain ⟨hu, hl⟩ := hp
 obtain ⟨n, rfl⟩ := Int.eq_ofNat_of_zero_le ((gQ _).1 hu).1
 have : gR n = 1 ∨ gR n = 2 ∨ gR n = 3 ∨ gR n = 4 := by
  unfold gR; repeat' split
  all_goals simp
 rcases this with h | h | h | h
 . exact GG l n hu h hl
 . exact GH l n hu h hl
 . exact GI l n hu h hl
 . exact GJ l n hu h hl
def xo : Sm := fun args σ => match args, σ with
 | [.buf 0, .int .i32 r], [.buf 1 0 l] => some (cF r = true ∧ l.length ≤ 3000000000, .buf 0, some [.buf 1 0 (l ++ bl (aZ r))])
 | _, _ => none
theorem Ij : ay 132 xo := by
 intro args sg pre x r he hp
 unfold xo at he
 split at he <;> cases he
 . exact GK (hp := hp) ..
end Go.Proofs.YtllncocibkgjkaaGreat
