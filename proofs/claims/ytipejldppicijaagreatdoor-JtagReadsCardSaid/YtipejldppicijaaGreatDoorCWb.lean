/-
  A part of the proof.
-/
import Derived.Test.YtipejldppicijaaGreatDoorCWa
set_option linter.unusedSimpArgs false
set_option linter.unusedVariables false
set_option maxHeartbeats 4000000
namespace Go.Proofs.YtipejldppicijaaGreatDoor
open Go Go.VG
set_option maxRecDepth 100000
def low (k u : Nat) : List UInt8 := match k with
 | 0 => []
 | k + 1 => .ofNat (u % 256) :: low k (u / 256)
theorem xW : ∀ (k u : Nat), (low k u).length = k
 | 0, _ => rfl
 | k + 1, u => by rw [low, List.length_cons, xW]
theorem HN (l : List V) (m : Int) (hp : (0 ≤ m ∧ m ≤ 1000) ∧ l.length ≤ 2000000000) : OK 149 ([.buf 0, .int .i64 m]) ([.buf 1 0 l]) (.buf 1) (some [.buf 1 0 l, .buf 1 0 l]) := by
 refine ah (C := cx []) (ai trivial) (fn := Tryz.f149) rfl rfl rfl rfl fun hw hs => ?_
 repeat' ((conv => whnf); apply ab)
 all_goals try conv => whnf
 all_goals try (refine a7.mk ?_; try dsimp only)
 all_goals first | refine stay ?_ | (simp (discharger := omega) only [wR]; omega) | skip
 refine a6.mk [] ?_ <;> (repeat' first | trivial | apply ak | apply bI)
 simp
def HS : Sm := fun args σ => match args, σ with
 | [.buf 0, .int .i64 m], [.buf 1 0 l] => some ((0 ≤ m ∧ m ≤ 1000) ∧ l.length ≤ 2000000000, .buf 1, some [.buf 1 0 l, .buf 1 0 l])
 | _, _ => none
def HT : Sm := fun args σ => match args, σ with
 | [.buf 0, .int .u64 u], [.buf 1 0 l] => some ((0 ≤ u ∧ u ≤ 18446744073709551615) ∧ l.length ≤ 2000000000, .buf 1, some [.buf 1 0 l, .buf 1 0 (l ++ bl (low 8 u.toNat))])
 | _, _ => none
theorem CK (b : Int) (hp : 0 ≤ b ∧ b ≤ 63) : OK 130 ([.int .i64 b]) ([]) (.int .u64 (bN b)) (none) := by
 refine ah (C := cx []) (ai trivial) (fn := Tryz.f130) rfl rfl rfl rfl fun hw hs => ?_
 obtain ⟨n, rfl⟩ := Int.eq_ofNat_of_zero_le hp.1
 refine c5.mk Nat (fun i => i ≤ n) (fun i => ⟨13, [(0, .int .i64 n), (3, .int .u64 (2 ^ i : Nat)), (4, .int .i64 i)], [], []⟩) (fun x => n - x) [] 0 (Nat.zero_le _) ?_ (fun i hi _ _ => ?_)
 . refine Go.VG.Sub.mk rfl ?_ ?_ ?_ ?_ <;> (repeat' first | trivial)
 have hpw : i < n → 2 ^ (i + 1) ≤ 2 ^ 63 := fun h => Nat.pow_le_pow_right (by decide) (by omega)
 have hpe : 2 ^ (i + 1) = 2 ^ i * 2 := Nat.pow_succ 2 i
 repeat' ((conv => whnf); (apply ae <;> intro h))
 all_goals try conv => whnf
 all_goals try (refine a7.mk ?_; try dsimp only)
 all_goals try refine stay ?_
 . refine ⟨[], i + 1, by omega, ?_, by omega⟩
   refine Go.VG.Sub.mk rfl ?_ ?_ ?_ ?_ <;> (repeat' first | trivial | apply ak | apply az)
   all_goals first
    | (simp (discharger := omega) only [wR]; omega)
    | (rw [cm, Int.emod_eq_of_lt (by omega) (by omega)]; omega)
 . refine a6.mk [] ?_ <;> (repeat' first | trivial | apply ak | apply az)
   obtain rfl : i = n := by omega
   rfl
def qz : Sm := fun args σ => match args, σ with
 | [.int .i64 b], [] => some (0 ≤ b ∧ b ≤ 63, .int .u64 (bN b), none)
 | _, _ => none
theorem xj : a9 130 qz := by
 intro args sg pre x r he hp
 unfold qz at he
 split at he <;> cases he
 . exact CK (hp := hp) ..
theorem sR {b : Int} (h : b = 1 ∨ b = 8 ∨ b = 16 ∨ b = 32 ∨ b = 64) : (b = 1 ∧ bN b = 2 ∧ bN (b - 1) = 1) ∨ (b = 8 ∧ bN b = 256 ∧ bN (b - 1) = 128) ∨ (b = 16 ∧ bN b = 65536 ∧ bN (b - 1) = 32768) ∨ (b = 32 ∧ bN b = 4294967296 ∧ bN (b - 1) = 2147483648) ∨ (b = 64 ∧ bN b = 18446744073709551616 ∧ bN (b - 1) = 9223372036854775808) := by
 rcases h with rfl | rfl | rfl | rfl | rfl
 . exact .inl ⟨rfl, rfl, rfl⟩
 . exact .inr (.inl ⟨rfl, rfl, rfl⟩)
 . exact .inr (.inr (.inl ⟨rfl, rfl, rfl⟩))
 . exact .inr (.inr (.inr (.inl ⟨rfl, rfl, rfl⟩)))
 . exact .inr (.inr (.inr (.inr ⟨rfl, rfl, rfl⟩)))
def gU (u b : Int) : Int := if u % bN b ≥ bN (b - 1) then u % bN b - bN b else u % bN b
theorem CH (u b : Int) (hp : (0 ≤ u ∧ u ≤ 18446744073709551615) ∧ (b = 1 ∨ b = 8 ∨ b = 16 ∨ b = 32 ∨ b = 64)) : OK 87 ([.int .u64 u, .int .i64 b]) ([]) (.int .i64 (gU u b)) (none) := by
 refine ah (C := cx [(130, qz)]) (ai ⟨xj, trivial⟩) (fn := Tryz.f87) rfl rfl rfl rfl fun hw hs => ?_
 obtain ⟨hu, hb⟩ := hp
 have hb := sR hb
 unfold gU
 have ht := Int.tmod_eq_emod_of_nonneg (b := bN b) hu.1
 have h3 : bN (IntKind.i64.wrap (b - 1)) = bN (b - 1) := by rw [show IntKind.i64.wrap (b - 1) = b - 1 by (simp (discharger := omega) only [wR]; omega)]
 rcases hb with ⟨rfl, h1, h2⟩ | ⟨rfl, h1, h2⟩ | ⟨rfl, h1, h2⟩ | ⟨rfl, h1, h2⟩ | ⟨rfl, h1, h2⟩
 all_goals rw [h2] at h3
 all_goals rw [h1] at ht
 all_goals rw [h1, h2]
 all_goals
  repeat' ((conv => whnf); first | apply ab | (apply ae <;> intro h))
  all_goals try conv => whnf
  all_goals try (refine a7.mk ?_; try dsimp only)
  all_goals (try simp only [h1, h3, ht] at *)
  all_goals first | refine stay ?_ | trivial | skip
  all_goals first
   | omega
   | (first
      | rw [if_pos (by omega)]
      | rw [if_neg (by omega)]
      refine a6.mk [] ?_ <;> (repeat' first | trivial | apply ak | apply az)
      all_goals (simp (discharger := omega) only [wR]; omega)
      done)
   | (split
      all_goals
       refine a6.mk [] ?_ <;> (repeat' first | trivial | apply ak | apply az)
       (simp (discharger := omega) only [wR]; omega)
      done)
   | skip
def qx : Sm := fun args σ => match args, σ with
 | [.int .u64 u, .int .i64 b], [] => some ((0 ≤ u ∧ u ≤ 18446744073709551615) ∧ (b = 1 ∨ b = 8 ∨ b = 16 ∨ b = 32 ∨ b = 64), .int .i64 (gU u b), none)
 | _, _ => none
theorem xh : a9 87 qx := by
 intro args sg pre x r he hp
 unfold qx at he
 split at he <;> cases he
 . exact CH (hp := hp) ..
theorem nm (n : Int) (j : Nat) (hj : j ≤ 64) (h1 : 1 ≤ j) : jL .u64 (IntKind.u64.wrap n) (((2 ^ j - 1 : Nat)) : Int) = n % ((2 ^ j : Nat) : Int) := by
 have hw : IntKind.u64.wrap n = ((n % 18446744073709551616).toNat : Int) := by rw [cm]; omega
 have hp : 2 ^ j ≤ 2 ^ 64 := Nat.pow_le_pow_right (by decide) hj
 have hp0 : 0 < 2 ^ j := Nat.pow_pos (by decide)
 have hd : 2 ^ 64 = 2 ^ j * 2 ^ (64 - j) := by rw [← Nat.pow_add]; congr 1; omega
 rw [hw, Ac .u64 j (n % 18446744073709551616).toNat (by show _ < 2 ^ 64; omega) (by show _ < 2 ^ 64; omega)
  (by have := Nat.mod_lt (n % 18446744073709551616).toNat hp0
      show (((n % 18446744073709551616).toNat % 2 ^ j : Nat) : Int) ≤ 18446744073709551615
      omega)
  (fun m h => by
   have h : (m : Int) ≤ 18446744073709551615 := h
   rw [cm]; omega)]
 have e : (18446744073709551616 : Int) = ((2 ^ j : Nat) : Int) * ((2 ^ (64 - j) : Nat) : Int) := by
  rw [← Int.natCast_mul, ← hd]; rfl
 rw [Int.natCast_emod, Int.toNat_of_nonneg (by omega), e]
 exact Int.emod_emod_of_dvd n (Int.dvd_mul_right ..)
theorem DF (n b : Int) (hp : b = 1 ∨ b = 8 ∨ b = 16 ∨ b = 32 ∨ b = 64) : OK 117 ([.int .i64 n, .int .i64 b]) ([]) (.tuple [.int .u64 (dU n b), .int .i64 (b7 n b)]) (none) := by
 refine ah (C := cx []) (ai trivial) (fn := Tryz.f117) rfl rfl rfl rfl fun hw hs => ?_
 have hn : -9223372036854775808 ≤ n ∧ n ≤ 9223372036854775807 := hw.1
 have hb := sR hp
 unfold dU b7
 have hi : iS n b = true ↔ (-bN (b - 1) ≤ n ∧ n < bN (b - 1)) := decide_eq_true_iff
 rcases hb with ⟨rfl, h1, h2⟩ | ⟨rfl, h1, h2⟩ | ⟨rfl, h1, h2⟩ | ⟨rfl, h1, h2⟩ | ⟨rfl, h1, h2⟩
 all_goals rw [h2] at hi
 . have m := nm n 1 (by decide) (by decide)
   have mk : cB .u64 18446744073709551615 (IntKind.i64.wrap (64 - 1)) = ((2 ^ 1 - 1 : Nat) : Int) := by decide
   have hs : cB .i64 n (IntKind.i64.wrap (1 - 1)) = n / 1 := by show n.fdiv 1 = _; rw [Int.fdiv_eq_ediv_of_nonneg _ (by decide)]
   repeat' ((conv => whnf); first | apply ab | apply ax | (apply ae <;> intro h))
   all_goals try conv => whnf
   all_goals try (refine a7.mk ?_; try dsimp only)
   all_goals (try simp only [hs] at *)
   all_goals first | refine stay ?_ | trivial | skip
   all_goals first
    | (exfalso; omega)
    | rw [if_pos (hi.2 ⟨by omega, by omega⟩), if_pos (hi.2 ⟨by omega, by omega⟩), h1]
    | rw [if_neg (fun q => by have := hi.1 q; omega), if_neg (fun q => by have := hi.1 q; omega)]
   all_goals
    refine a6.mk [] ?_ <;> (repeat' first | trivial | apply ak | apply az | apply bT | apply bo)
   all_goals (rw [mk, m]; rfl)
 . have m := nm n 8 (by decide) (by decide)
   have mk : cB .u64 18446744073709551615 (IntKind.i64.wrap (64 - 8)) = ((2 ^ 8 - 1 : Nat) : Int) := by decide
   have hs : cB .i64 n (IntKind.i64.wrap (8 - 1)) = n / 128 := by show n.fdiv 128 = _; rw [Int.fdiv_eq_ediv_of_nonneg _ (by decide)]
   repeat' ((conv => whnf); first | apply ab | apply ax | (apply ae <;> intro h))
   all_goals try conv => whnf
   all_goals try (refine a7.mk ?_; try dsimp only)
   all_goals (try simp only [hs] at *)
   all_goals first | refine stay ?_ | trivial | skip
   all_goals first
    | (exfalso; omega)
    | rw [if_pos (hi.2 ⟨by omega, by omega⟩), if_pos (hi.2 ⟨by omega, by omega⟩), h1]
    | rw [if_neg (fun q => by have := hi.1 q; omega), if_neg (fun q => by have := hi.1 q; omega)]
   all_goals
    refine a6.mk [] ?_ <;> (repeat' first | trivial | apply ak | apply az | apply bT | apply bo)
   all_goals (rw [mk, m]; rfl)
 . have m := nm n 16 (by decide) (by decide)
   have mk : cB .u64 18446744073709551615 (IntKind.i64.wrap (64 - 16)) = ((2 ^ 16 - 1 : Nat) : Int) := by decide
   have hs : cB .i64 n (IntKind.i64.wrap (16 - 1)) = n / 32768 := by show n.fdiv 32768 = _; rw [Int.fdiv_eq_ediv_of_nonneg _ (by decide)]
   repeat' ((conv => whnf); first | apply ab | apply ax | (apply ae <;> intro h))
   all_goals try conv => whnf
   all_goals try (refine a7.mk ?_; try dsimp only)
   all_goals (try simp only [hs] at *)
   all_goals first | refine stay ?_ | trivial | skip
   all_goals first
    | (exfalso; omega)
    | rw [if_pos (hi.2 ⟨by omega, by omega⟩), if_pos (hi.2 ⟨by omega, by omega⟩), h1]
    | rw [if_neg (fun q => by have := hi.1 q; omega), if_neg (fun q => by have := hi.1 q; omega)]
   all_goals
    refine a6.mk [] ?_ <;> (repeat' first | trivial | apply ak | apply az | apply bT | apply bo)
   all_goals (rw [mk, m]; rfl)
 . have m := nm n 32 (by decide) (by decide)
   have mk : cB .u64 18446744073709551615 (IntKind.i64.wrap (64 - 32)) = ((2 ^ 32 - 1 : Nat) : Int) := by decide
   have hs : cB .i64 n (IntKind.i64.wrap (32 - 1)) = n / 2147483648 := by show n.fdiv 2147483648 = _; rw [Int.fdiv_eq_ediv_of_nonneg _ (by decide)]
   repeat' ((conv => whnf); first | apply ab | apply ax | (apply ae <;> intro h))
   all_goals try conv => whnf
   all_goals try (refine a7.mk ?_; try dsimp only)
   all_goals (try simp only [hs] at *)
   all_goals first | refine stay ?_ | trivial | skip
   all_goals first
    | (exfalso; omega)
    | rw [if_pos (hi.2 ⟨by omega, by omega⟩), if_pos (hi.2 ⟨by omega, by omega⟩), h1]
    | rw [if_neg (fun q => by have := hi.1 q; omega), if_neg (fun q => by have := hi.1 q; omega)]
   all_goals
    refine a6.mk [] ?_ <;> (repeat' first | trivial | apply ak | apply az | apply bT | apply bo)
   all_goals (rw [mk, m]; rfl)
 . have m := nm n 64 (by decide) (by decide)
   have mk : cB .u64 18446744073709551615 (IntKind.i64.wrap (64 - 64)) = ((2 ^ 64 - 1 : Nat) : Int) := by decide
   have hs : cB .i64 n (IntKind.i64.wrap (64 - 1)) = n / 9223372036854775808 := by show n.fdiv 9223372036854775808 = _; rw [Int.fdiv_eq_ediv_of_nonneg _ (by decide)]
   repeat' ((conv => whnf); first | apply ab | apply ax | (apply ae <;> intro h))
   all_goals try conv => whnf
   all_goals try (refine a7.mk ?_; try dsimp only)
   all_goals (try simp only [hs] at *)
   all_goals first | refine stay ?_ | trivial | skip
   all_goals first
    | (exfalso; omega)
    | rw [if_pos (hi.2 ⟨by omega, by omega⟩), if_pos (hi.2 ⟨by omega, by omega⟩), h1]
    | rw [if_neg (fun q => by have := hi.1 q; omega), if_neg (fun q => by have := hi.1 q; omega)]
   all_goals
    refine a6.mk [] ?_ <;> (repeat' first | trivial | apply ak | apply az | apply bT | apply bo)
   all_goals (rw [mk, m]; rfl)
def qL : Sm := fun args σ => match args, σ with
 | [.int .i64 n, .int .i64 b], [] => some (b = 1 ∨ b = 8 ∨ b = 16 ∨ b = 32 ∨ b = 64, .tuple [.int .u64 (dU n b), .int .i64 (b7 n b)], none)
 | _, _ => none
theorem xB : a9 117 qL := by
 intro args sg pre x r he hp
 unfold qL at he
 split at he <;> cases he
 . exact DF (hp := hp) ..
theorem CF (n b : Int) (hp : b = 1 ∨ b = 8 ∨ b = 16 ∨ b = 32 ∨ b = 64) : OK 90 ([.int .i64 n, .int .i64 b]) ([]) (.tuple [.int .u64 (dU n b), .int .i64 (b7 n b)]) (none) := by
 refine ah (C := cx [(130, qz), (87, qx)]) (ai ⟨xj, xh, trivial⟩) (fn := Tryz.f90) rfl rfl rfl rfl fun hw hs => ?_
 have hn : -9223372036854775808 ≤ n ∧ n ≤ 9223372036854775807 := hw.1
 have hb := sR hp
 have hi : iS n b = true ↔ (-bN (b - 1) ≤ n ∧ n < bN (b - 1)) := decide_eq_true_iff
 have hw64 : IntKind.u64.wrap n = n % 18446744073709551616 := cm n
 have ht := Int.tmod_eq_emod_of_nonneg (a := n % 18446744073709551616) (b := bN b) (by omega)
 have hW : ∀ u, gU u b = if u % bN b ≥ bN (b - 1) then u % bN b - bN b else u % bN b := fun _ => rfl
 rcases hb with ⟨rfl, h1, h2⟩ | ⟨rfl, h1, h2⟩ | ⟨rfl, h1, h2⟩ | ⟨rfl, h1, h2⟩ | ⟨rfl, h1, h2⟩
 all_goals rw [h2] at hi
 all_goals rw [h1] at ht
 all_goals rw [h1, h2] at hW
 . have hk : gU (n % 18446744073709551616 % 2) 1 = n ↔ iS n 1 = true := by
     rw [hi, hW]; split <;> omega
   unfold dU b7
   rw [h1]
   repeat' ((conv => whnf); first | apply ab | apply ax | (apply ae <;> intro h))
   all_goals try conv => whnf
   all_goals try (refine a7.mk ?_; try dsimp only)
   all_goals (try simp only [hw64, h1, ht] at *)
   all_goals first | refine stay ?_ | trivial | (simp (discharger := omega) [-List.getD_eq_getElem?_getD, wR] <;> omega) | skip
   all_goals first
    | rw [if_pos (hk.1 (by assumption)), if_pos (hk.1 (by assumption))]
    | rw [if_neg (fun q => absurd (hk.2 q) (by assumption)), if_neg (fun q => absurd (hk.2 q) (by assumption))]
   all_goals
    refine a6.mk [] ?_ <;> (repeat' first | trivial | apply ak | apply az | apply bT | apply bo)
   all_goals omega
 . have hk : gU (n % 18446744073709551616 % 256) 8 = n ↔ iS n 8 = true := by
     rw [hi, hW]; split <;> omega
   unfold dU b7
   rw [h1]
   repeat' ((conv => whnf); first | apply ab | apply ax | (apply ae <;> intro h))
   all_goals try conv => whnf
   all_goals try (refine a7.mk ?_; try dsimp only)
   all_goals (try simp only [hw64, h1, ht] at *)
   all_goals first | refine stay ?_ | trivial | (simp (discharger := omega) [-List.getD_eq_getElem?_getD, wR] <;> omega) | skip
   all_goals first
    | rw [if_pos (hk.1 (by assumption)), if_pos (hk.1 (by assumption))]
    | rw [if_neg (fun q => absurd (hk.2 q) (by assumption)), if_neg (fun q => absurd (hk.2 q) (by assumption))]
   all_goals
    refine a6.mk [] ?_ <;> (repeat' first | trivial | apply ak | apply az | apply bT | apply bo)
   all_goals omega
 . have hk : gU (n % 18446744073709551616 % 65536) 16 = n ↔ iS n 16 = true := by
     rw [hi, hW]; split <;> omega
   unfold dU b7
   rw [h1]
   repeat' ((conv => whnf); first | apply ab | apply ax | (apply ae <;> intro h))
   all_goals try conv => whnf
   all_goals try (refine a7.mk ?_; try dsimp only)
   all_goals (try simp only [hw64, h1, ht] at *)
   all_goals first | refine stay ?_ | trivial | (simp (discharger := omega) [-List.getD_eq_getElem?_getD, wR] <;> omega) | skip
   all_goals first
    | rw [if_pos (hk.1 (by assumption)), if_pos (hk.1 (by assumption))]
    | rw [if_neg (fun q => absurd (hk.2 q) (by assumption)), if_neg (fun q => absurd (hk.2 q) (by assumption))]
   all_goals
    refine a6.mk [] ?_ <;> (repeat' first | trivial | apply ak | apply az | apply bT | apply bo)
   all_goals omega
 . have hk : gU (n % 18446744073709551616 % 4294967296) 32 = n ↔ iS n 32 = true := by
     rw [hi, hW]; split <;> omega
   unfold dU b7
   rw [h1]
   repeat' ((conv => whnf); first | apply ab | apply ax | (apply ae <;> intro h))
   all_goals try conv => whnf
   all_goals try (refine a7.mk ?_; try dsimp only)
   all_goals (try simp only [hw64, h1, ht] at *)
   all_goals first | refine stay ?_ | trivial | (simp (discharger := omega) [-List.getD_eq_getElem?_getD, wR] <;> omega) | skip
   all_goals first
    | rw [if_pos (hk.1 (by assumption)), if_pos (hk.1 (by assumption))]
    | rw [if_neg (fun q => absurd (hk.2 q) (by assumption)), if_neg (fun q => absurd (hk.2 q) (by assumption))]
   all_goals
    refine a6.mk [] ?_ <;> (repeat' first | trivial | apply ak | apply az | apply bT | apply bo)
   all_goals omega
 . have hk : gU (n % 18446744073709551616) 64 = n ↔ iS n 64 = true := by
     rw [hi, hW]; split <;> omega
   unfold dU b7
   rw [h1]
   repeat' ((conv => whnf); first | apply ab | apply ax | (apply ae <;> intro h))
   all_goals try conv => whnf
   all_goals try (refine a7.mk ?_; try dsimp only)
   all_goals (try simp only [hw64, h1, ht] at *)
   all_goals first | refine stay ?_ | (simp (discharger := omega) [-List.getD_eq_getElem?_getD, wR] <;> omega) | skip
   all_goals first
    | rw [if_pos (hk.1 (by assumption)), if_pos (hk.1 (by assumption))]
    | rw [if_neg (fun q => absurd (hk.2 q) (by assumption)), if_neg (fun q => absurd (hk.2 q) (by assumption))]
   all_goals
    refine a6.mk [] ?_ <;> (repeat' first | trivial)
   all_goals omega
def tW : Sm := fun args σ => match args, σ with
 | [.int .i64 n, .int .i64 b], [] => some (b = 1 ∨ b = 8 ∨ b = 16 ∨ b = 32 ∨ b = 64, .tuple [.int .u64 (dU n b), .int .i64 (b7 n b)], none)
 | _, _ => none
theorem EK : a9 90 tW := by
 intro args sg pre x r he hp
 unfold tW at he
 split at he <;> cases he
 . exact CF (hp := hp) ..
end Go.Proofs.YtipejldppicijaaGreatDoor
