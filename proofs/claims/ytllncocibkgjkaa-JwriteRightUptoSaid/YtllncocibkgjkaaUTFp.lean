/-
  A part of the proof.
-/
import Derived.Test.YtllncocibkgjkaaUTFe
import Derived.Test.YtllncocibkgjkaaPHex
set_option linter.unusedSimpArgs false
set_option linter.unusedVariables false
set_option maxHeartbeats 4000000
namespace Go.Proofs.Ytllncocibkgjkaa
open Go Go.VG
set_option maxRecDepth 100000
theorem E7 (s : List UInt8) (i : Nat) (hp : s.length ≤ 100000000) : OK 112 ([.str s, .int .i64 i]) ([]) (.tuple [.int .i32 (aW s i).1, .int .i64 (aW s i).2]) (none) := by
 rw [← ji]; exact E6 s i hp
def vl : Sm := fun args σ => match args, σ with
 | [.str s, .int .i64 (.ofNat i)], [] => some (s.length ≤ 100000000, .tuple [.int .i32 (aW s i).1, .int .i64 (aW s i).2], none)
 | _, _ => none
theorem Fg : aI 112 vl := by
 intro args sg pre x r he hp
 unfold vl at he
 split at he <;> cases he
 . exact E7 (hp := hp) ..
theorem DU (s : List UInt8) (hp : s.length ≤ 10000000) : OK 96 ([.str s]) ([]) (.int .i64 (jm s)) (none) := by
 refine az (C := cx [(112, vl)]) (ax ⟨Fg, trivial⟩) (fn := Try.f96) rfl rfl rfl rfl fun hw hs => ?_
 refine cg.mk (Nat × Nat) (fun | (i, c) => i ≤ s.length ∧ c ≤ i ∧ gX s i c = gX s 0 0)
  (fun | (i, _) => ⟨22, [(3, .int .i64 i), (0, .str s)], [], []⟩) (fun x => s.length - x.1) [] (0, 0) ⟨by omega, by omega, rfl⟩ ?_ (fun ⟨i, c⟩ ⟨hi, hc, he⟩ _ _ => ?_)
 . refine Go.VG.Sub.mk rfl ?_ ?_ ?_ ?_ <;> (repeat' first | trivial)
 have hr := vw s i
 repeat' ((conv => whnf); first | apply al | (apply ay <;> intro h))
 all_goals try conv => whnf
 all_goals try (refine af.mk ?_; try dsimp only)
 all_goals first | refine stay ?_ | omega | skip
 . rw [gX, if_neg (by omega), dif_pos (by omega)] at he
   unfold jm
   rw [← he, if_neg (by simp only; omega)]
   refine ah.mk [] ?_ <;> (repeat' first | trivial)
 . rw [gX, if_neg (by omega), dif_neg (by omega)] at he
   refine ⟨[], (i + (aW s i).2, c + 1), ⟨by omega, by omega, he⟩, ?_, by omega⟩
   refine Go.VG.Sub.mk rfl ?_ ?_ ?_ ?_ <;> (repeat' first | trivial | apply ak | apply cw)
   all_goals (simp (discharger := omega) only [wR]; omega)
 . rw [gX, if_pos (by omega)] at he
   unfold jm
   rw [← he, if_pos (by simp only; omega)]
   refine ah.mk [] ?_ <;> (repeat' first | trivial)
def vh : Sm := fun args σ => match args, σ with
 | [.str s], [] => some (s.length ≤ 10000000, .int .i64 (jm s), none)
 | _, _ => none
theorem Fb : aI 96 vh := by
 intro args sg pre x r he hp
 unfold vh at he
 split at he <;> cases he
 . exact DU (hp := hp) ..
def fX (r : Int) : Int := if r < 128 then 1 else if r < 2048 then 2 else if r < 65536 then 3 else 4
def nF (r n : Int) : Sm := fun args σ => some (args = [.int .i32 r] ∧ σ = [] ∧ fX r = n, .int .i64 n, none)
theorem qD (r n : Int) : aI 111 (nF r n) := by
 intro args sg pre x rr he hp
 unfold nF at he
 cases he
 obtain ⟨rfl, rfl, rfl⟩ := hp
 refine az (C := cx []) (ax trivial) (fn := Try.f111) rfl rfl rfl rfl fun hw hs => ?_
 repeat' ((conv => whnf); (apply ay <;> intro h))
 all_goals try conv => whnf
 all_goals try (refine af.mk ?_; try dsimp only)
 all_goals try refine stay ?_
 all_goals
  unfold fX
  repeat (first | rw [if_pos (by omega)] | rw [if_neg (by omega)])
  refine ah.mk [] ?_ <;> (repeat' first | trivial)
theorem qX (a b j : Nat) (ha : a * 2 ^ j + b < 256) (hb : b < 2 ^ j) : ig .u8 ((a * 2 ^ j : Nat) : Int) (b : Int) = ((a * 2 ^ j + b : Nat) : Int) := by
 show IntKind.u8.wrap ((BitVec.ofInt 8 ((a * 2 ^ j : Nat) : Int) ||| BitVec.ofInt 8 (b : Int)).toNat : Int) = _
 rw [BitVec.ofInt_natCast, BitVec.ofInt_natCast, BitVec.toNat_or, BitVec.toNat_ofNat, BitVec.toNat_ofNat, Nat.mod_eq_of_lt (by omega), Nat.mod_eq_of_lt (by omega), u0 a b j hb]
 rw [mh]; omega
theorem Gl (b : Nat) (h : b < 64) : ig .u8 128 b = ((128 + b : Nat) : Int) := qX 2 b 6 (by omega) (by omega)
theorem Gm (b : Nat) (h : b < 32) : ig .u8 192 b = ((192 + b : Nat) : Int) := qX 6 b 5 (by omega) (by omega)
theorem Gn (b : Nat) (h : b < 16) : ig .u8 224 b = ((224 + b : Nat) : Int) := qX 14 b 4 (by omega) (by omega)
theorem Gp (b : Nat) (h : b < 8) : ig .u8 240 b = ((240 + b : Nat) : Int) := qX 30 b 3 (by omega) (by omega)
theorem copy_eq (l : List V) : List.take (List.replicate (l.length : Int).toNat (V.int .u8 0)).length l ++ List.drop l.length (List.replicate (l.length : Int).toNat (V.int .u8 0)) = l := by simp
theorem a63 (x : Nat) : ig .u8 128 (kJ .u8 (IntKind.u8.wrap x) 63) = ((128 + x % 64 : Nat) : Int) := by
 rw [mh, show ((x : Int) % 256) = ((x % 256 : Nat) : Int) by omega, vR _ (by omega), show x % 256 % 64 = x % 64 by omega]
 exact Gl _ (by omega)
theorem s6 (r : Nat) : iQ .i32 r 6 = ((r / 64 : Nat) : Int) := qB .i32 r 6
theorem s12 (r : Nat) : iQ .i32 r 12 = ((r / 4096 : Nat) : Int) := qB .i32 r 12
theorem s18 (r : Nat) : iQ .i32 r 18 = ((r / 262144 : Nat) : Int) := qB .i32 r 18
theorem qJ (r : Nat) (h : r < 2048) : ig .u8 (iP .u8 240 (IntKind.i64.wrap (4 - 2))) (IntKind.u8.wrap (iQ .i32 r (IntKind.i64.wrap (6 * IntKind.i64.wrap (2 - 1))))) = ((192 + r / 64 : Nat) : Int) := by
 rw [show iP .u8 240 (IntKind.i64.wrap (4 - 2)) = 192 by decide, show IntKind.i64.wrap (6 * IntKind.i64.wrap (2 - 1)) = 6 by decide, s6, rX _ (by show ((r / 64 : Nat) : Int) ≤ 255; omega)]
 exact Gm _ (by omega)
theorem qK (r : Nat) (h : r < 65536) : ig .u8 (iP .u8 240 (IntKind.i64.wrap (4 - 3))) (IntKind.u8.wrap (iQ .i32 r (IntKind.i64.wrap (6 * IntKind.i64.wrap (3 - 1))))) = ((224 + r / 4096 : Nat) : Int) := by
 rw [show iP .u8 240 (IntKind.i64.wrap (4 - 3)) = 224 by decide, show IntKind.i64.wrap (6 * IntKind.i64.wrap (3 - 1)) = 12 by decide, s12, rX _ (by show ((r / 4096 : Nat) : Int) ≤ 255; omega)]
 exact Gn _ (by omega)
theorem qL (r : Nat) (h : r < 1114112) : ig .u8 (iP .u8 240 (IntKind.i64.wrap (4 - 4))) (IntKind.u8.wrap (iQ .i32 r (IntKind.i64.wrap (6 * IntKind.i64.wrap (4 - 1))))) = ((240 + r / 262144 : Nat) : Int) := by
 rw [show iP .u8 240 (IntKind.i64.wrap (4 - 4)) = 240 by decide, show IntKind.i64.wrap (6 * IntKind.i64.wrap (4 - 1)) = 18 by decide, s18, rX _ (by show ((r / 262144 : Nat) : Int) ≤ 255; omega)]
 exact Gp _ (by omega)
theorem qa (x : Int) (h : 0 ≤ x ∧ x ≤ 255) (s : List UInt8) : bl (byte x :: s) = V.int .u8 x :: bl s := by simp only [bl, bv, mB h]
theorem DY (l : List V) (r : Nat) (hu : cT r = true) (hn : fX r = 1) (hl : l.length ≤ 3000000000) : OK 93 [.buf 0, .int .i32 r] [.buf 1 0 l] (.buf 0) (some [.buf 1 0 (l ++ bl (bI r))]) := by
 refine az (C := cx [(110, mc), (111, nF r 1)]) (ax ⟨oN, qD r 1, trivial⟩) (fn := Try.f93) rfl rfl rfl rfl fun hw hs => ?_
 repeat' ((conv => whnf); first | apply al | apply bh | (apply ay <;> intro h))
 all_goals try conv => whnf
 all_goals try (refine af.mk ?_; try dsimp only)
 all_goals first | refine stay ?_ | trivial | (simp (discharger := omega) only [wR]; omega) | (simp (discharger := omega) [-List.getD_eq_getElem?_getD, wR] <;> omega) | skip
 . have hb := (gL _).1 hu
   have hr : (1 = 1 ∧ r < 128) ∨ (1 = 2 ∧ 128 ≤ r ∧ r < 2048) ∨ (1 = 3 ∧ 2048 ≤ r ∧ r < 65536) ∨ (1 = 4 ∧ 65536 ≤ r ∧ r < 1114112) := by
    unfold fX at hn
    repeat' split at hn
    all_goals omega
   refine ah.mk [.swap 0 1] ?_ <;> (repeat' first | trivial | apply ak | apply aJ)
   rw [copy_eq]
   try rw [qJ r (by omega)]
   try rw [qK r (by omega)]
   try rw [qL r (by omega)]
   try simp only [s6, s12, a63]
   unfold bI
   repeat (first | rw [if_pos (by omega)] | rw [if_neg (by omega)])
   repeat rw [qa _ (by omega)]
   try simp only [List.append_assoc, List.cons_append, List.nil_append]
   repeat' (first | rfl | refine congrArg (l ++ ·) ?_ | refine qg ?_ ?_ | refine congrArg (V.int .u8) ?_)
   all_goals (simp (discharger := omega) only [wR]; omega)
 . exact absurd ((gL _).1 hu) (by assumption)
theorem DZ (l : List V) (r : Nat) (hu : cT r = true) (hn : fX r = 2) (hl : l.length ≤ 3000000000) : OK 93 [.buf 0, .int .i32 r] [.buf 1 0 l] (.buf 0) (some [.buf 1 0 (l ++ bl (bI r))]) := by
 refine az (C := cx [(110, mc), (111, nF r 2)]) (ax ⟨oN, qD r 2, trivial⟩) (fn := Try.f93) rfl rfl rfl rfl fun hw hs => ?_
 repeat' ((conv => whnf); first | apply al | apply bh | (apply ay <;> intro h))
 all_goals try conv => whnf
 all_goals try (refine af.mk ?_; try dsimp only)
 all_goals first | refine stay ?_ | trivial | (simp (discharger := omega) only [wR]; omega) | (simp (discharger := omega) [-List.getD_eq_getElem?_getD, wR] <;> omega) | skip
 . have hb := (gL _).1 hu
   have hr : (2 = 1 ∧ r < 128) ∨ (2 = 2 ∧ 128 ≤ r ∧ r < 2048) ∨ (2 = 3 ∧ 2048 ≤ r ∧ r < 65536) ∨ (2 = 4 ∧ 65536 ≤ r ∧ r < 1114112) := by
    unfold fX at hn
    repeat' split at hn
    all_goals omega
   refine ah.mk [.swap 0 1] ?_ <;> (repeat' first | trivial | apply ak | apply aJ)
   rw [copy_eq]
   try rw [qJ r (by omega)]
   try rw [qK r (by omega)]
   try rw [qL r (by omega)]
   try simp only [s6, s12, a63]
   unfold bI
   repeat (first | rw [if_pos (by omega)] | rw [if_neg (by omega)])
   repeat rw [qa _ (by omega)]
   try simp only [List.append_assoc, List.cons_append, List.nil_append]
   repeat' (first | rfl | refine congrArg (l ++ ·) ?_ | refine qg ?_ ?_ | refine congrArg (V.int .u8) ?_)
   all_goals omega
 . exact absurd ((gL _).1 hu) (by assumption)
theorem E3 (l : List V) (r : Nat) (hu : cT r = true) (hn : fX r = 3) (hl : l.length ≤ 3000000000) : OK 93 [.buf 0, .int .i32 r] [.buf 1 0 l] (.buf 0) (some [.buf 1 0 (l ++ bl (bI r))]) := by
 refine az (C := cx [(110, mc), (111, nF r 3)]) (ax ⟨oN, qD r 3, trivial⟩) (fn := Try.f93) rfl rfl rfl rfl fun hw hs => ?_
 repeat' ((conv => whnf); first | apply al | apply bh | (apply ay <;> intro h))
 all_goals try conv => whnf
 all_goals try (refine af.mk ?_; try dsimp only)
 all_goals first | refine stay ?_ | trivial | (simp (discharger := omega) only [wR]; omega) | (simp (discharger := omega) [-List.getD_eq_getElem?_getD, wR] <;> omega) | skip
 . have hb := (gL _).1 hu
   have hr : (3 = 1 ∧ r < 128) ∨ (3 = 2 ∧ 128 ≤ r ∧ r < 2048) ∨ (3 = 3 ∧ 2048 ≤ r ∧ r < 65536) ∨ (3 = 4 ∧ 65536 ≤ r ∧ r < 1114112) := by
    unfold fX at hn
    repeat' split at hn
    all_goals omega
   refine ah.mk [.swap 0 1] ?_ <;> (repeat' first | trivial | apply ak | apply aJ)
   rw [copy_eq]
   try rw [qJ r (by omega)]
   try rw [qK r (by omega)]
   try rw [qL r (by omega)]
   try simp only [s6, s12, a63]
   unfold bI
   repeat (first | rw [if_pos (by omega)] | rw [if_neg (by omega)])
   repeat rw [qa _ (by omega)]
   try simp only [List.append_assoc, List.cons_append, List.nil_append]
   repeat' (first | rfl | refine congrArg (l ++ ·) ?_ | refine qg ?_ ?_ | refine congrArg (V.int .u8) ?_)
   all_goals omega
 . exact absurd ((gL _).1 hu) (by assumption)
theorem E4 (l : List V) (r : Nat) (hu : cT r = true) (hn : fX r = 4) (hl : l.length ≤ 3000000000) : OK 93 [.buf 0, .int .i32 r] [.buf 1 0 l] (.buf 0) (some [.buf 1 0 (l ++ bl (bI r))]) := by
 refine az (C := cx [(110, mc), (111, nF r 4)]) (ax ⟨oN, qD r 4, trivial⟩) (fn := Try.f93) rfl rfl rfl rfl fun hw hs => ?_
 repeat' ((conv => whnf); first | apply al | apply bh | (apply ay <;> intro h))
 all_goals try conv => whnf
 all_goals try (refine af.mk ?_; try dsimp only)
 all_goals first | refine stay ?_ | trivial | (simp (discharger := omega) only [wR]; omega) | (simp (discharger := omega) [-List.getD_eq_getElem?_getD, wR] <;> omega) | skip
 . have hb := (gL _).1 hu
   have hr : (4 = 1 ∧ r < 128) ∨ (4 = 2 ∧ 128 ≤ r ∧ r < 2048) ∨ (4 = 3 ∧ 2048 ≤ r ∧ r < 65536) ∨ (4 = 4 ∧ 65536 ≤ r ∧ r < 1114112) := by
    unfold fX at hn
    repeat' split at hn
    all_goals omega
   refine ah.mk [.swap 0 1] ?_ <;> (repeat' first | trivial | apply ak | apply aJ)
   rw [copy_eq]
   try rw [qJ r (by omega)]
   try rw [qK r (by omega)]
   try rw [qL r (by omega)]
   try simp only [s6, s12, a63]
   unfold bI
   repeat (first | rw [if_pos (by omega)] | rw [if_neg (by omega)])
   repeat rw [qa _ (by omega)]
   try simp only [List.append_assoc, List.cons_append, List.nil_append]
   repeat' (first | rfl | refine congrArg (l ++ ·) ?_ | refine qg ?_ ?_ | refine congrArg (V.int .u8) ?_)
   all_goals omega
 . exact absurd ((gL _).1 hu) (by assumption)
theorem E5 (l : List V) (r : Int) (hp : cT r = true ∧ l.length ≤ 3000000000) : OK 93 ([.buf 0, .int .i32 r]) ([.buf 1 0 l]) (.buf 0) (some [.buf 1 0 (l ++ bl (bI r))]) := by
 obtain ⟨hu, hl⟩ := hp
 obtain ⟨n, rfl⟩ := Int.eq_ofNat_of_zero_le ((gL _).1 hu).1
 have : fX n = 1 ∨ fX n = 2 ∨ fX n = 3 ∨ fX n = 4 := by
  unfold fX; repeat' split
  all_goals simp
 rcases this with h | h | h | h
 . exact DY l n hu h hl
 . exact DZ l n hu h hl
 . exact E3 l n hu h hl
 . exact E4 l n hu h hl
def vk : Sm := fun args σ => match args, σ with
 | [.buf 0, .int .i32 r], [.buf 1 0 l] => some (cT r = true ∧ l.length ≤ 3000000000, .buf 0, some [.buf 1 0 (l ++ bl (bI r))])
 | _, _ => none
theorem Ff : aI 93 vk := by
 intro args sg pre x r he hp
 unfold vk at he
 split at he <;> cases he
 . exact E5 (hp := hp) ..
end Go.Proofs.Ytllncocibkgjkaa
