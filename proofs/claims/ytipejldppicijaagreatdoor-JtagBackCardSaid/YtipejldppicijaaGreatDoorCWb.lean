/-
  A part of the proof.
-/
import Derived.Test.YtipejldppicijaaGreatDoorCWa
set_option linter.unusedSimpArgs false
set_option linter.unusedVariables false
set_option maxHeartbeats 4000000
namespace Go.Proofs.YtipejldppicijaaGreatDoor
open Go Go.VG
set_option maxRecDepth 100000
def low (k u : Nat) : List UInt8 := match k with
 | 0 => []
 | k + 1 => .ofNat (u % 256) :: low k (u / 256)
theorem fq : ∀ (k u : Nat), (low k u).length = k
 | 0, _ => rfl
 | k + 1, u => by rw [low, List.length_cons, fq]
theorem sk : ∀ (k u : Nat), low (k + 1) u = low k u ++ [.ofNat (u / 256 ^ k % 256)]
 | 0, u => by simp [low]
 | k + 1, u => by
   rw [low, sk k (u / 256), low, List.cons_append, Nat.div_div_eq_div_mul, ← Nat.pow_succ']
theorem I7 (l : List V) (m : Int) (hp : (0 ≤ m ∧ m ≤ 1000) ∧ l.length ≤ 2000000000) : OK 149 ([.buf 0, .int .i64 m]) ([.buf 1 0 l]) (.buf 1) (some [.buf 1 0 l, .buf 1 0 l]) := by
 refine af (C := cx []) (ah trivial) (fn := Tryz.f149) rfl rfl rfl rfl fun hw hs => ?_
 repeat' ((conv => whnf); apply a9)
 all_goals try conv => whnf
 all_goals try (refine a8.mk ?_; try dsimp only)
 all_goals first | refine stay ?_ | (simp (discharger := omega) only [wR]; omega) | skip
 refine a7.mk [] ?_ <;> (repeat' first | trivial | apply ab | apply aE)
 simp
def xH : Sm := fun args σ => match args, σ with
 | [.buf 0, .int .i64 m], [.buf 1 0 l] => some ((0 ≤ m ∧ m ≤ 1000) ∧ l.length ≤ 2000000000, .buf 1, some [.buf 1 0 l, .buf 1 0 l])
 | _, _ => none
theorem JR : aa 149 xH := by
 intro args sg pre x r he hp
 unfold xH at he
 split at he <;> cases he
 . exact I7 (hp := hp) ..
theorem ly (u b : Nat) (hb : b ≤ 64) : IntKind.u8.wrap (bn .u64 u b) = ((UInt8.ofNat (u / 2 ^ b % 256)).toNat : Int) := by
 rw [l4, show min b IntKind.u64.bits = b from Nat.min_eq_left hb, iZ, UInt8.toNat_ofNat']
 omega
theorem lf {l : List V} {u i : Nat} {x : Int} (h : x = ((UInt8.ofNat (u / 256 ^ i % 256)).toNat : Nat)) : l ++ bl (low i u) ++ [.int .u8 x] = l ++ bl (low (i + 1) u) := by rw [sk, cN, ← List.append_assoc, h]; rfl
theorem I8 (l : List V) (u : Int) (hp : (0 ≤ u ∧ u ≤ 18446744073709551615) ∧ l.length ≤ 2000000000) : OK 119 ([.buf 0, .int .u64 u]) ([.buf 1 0 l]) (.buf 1) (some [.buf 1 0 l, .buf 1 0 (l ++ bl (low 8 u.toNat))]) := by
 refine af (C := cx [(149, xH)]) (ah ⟨JR, trivial⟩) (fn := Tryz.f119) rfl rfl rfl rfl fun hw hs => ?_
 obtain ⟨hp, hq⟩ := hp
 obtain ⟨u, rfl⟩ := Int.eq_ofNat_of_zero_le hp.1
 rw [Int.toNat_natCast]
 repeat' ((conv => whnf); apply a9)
 all_goals try conv => whnf
 all_goals try (refine a8.mk ?_; try dsimp only)
 all_goals first | refine stay ?_ | trivial | skip
 refine bd.mk Nat (fun i => i ≤ 8) (fun i => ⟨23, [(1, .int .u64 u), (4, .list true 0 []), (5, .buf 1), (6, .int .i64 (7 - i))], [.buf 1 0 l, .buf 1 0 (l ++ bl (low i u))], [0, 1]⟩) (fun i => 8 - i) [] 0 (by omega) ?_ (fun i hi _ _ => ?_)
 . refine Go.VG.Sub.mk rfl ?_ ?_ ?_ ?_ <;> (repeat' first | trivial | apply ab | apply aE)
   simp [low, bl]
 have hx : i = 0 ∨ i = 1 ∨ i = 2 ∨ i = 3 ∨ i = 4 ∨ i = 5 ∨ i = 6 ∨ i = 7 ∨ i = 8 := by omega
 have e7 : IntKind.u8.wrap (bn .u64 u 56) = _ := ly u 56 (by omega)
 have e6 : IntKind.u8.wrap (bn .u64 u 48) = _ := ly u 48 (by omega)
 have e5 : IntKind.u8.wrap (bn .u64 u 40) = _ := ly u 40 (by omega)
 have e4 : IntKind.u8.wrap (bn .u64 u 32) = _ := ly u 32 (by omega)
 have e3 : IntKind.u8.wrap (bn .u64 u 24) = _ := ly u 24 (by omega)
 have e2 : IntKind.u8.wrap (bn .u64 u 16) = _ := ly u 16 (by omega)
 have e1 : IntKind.u8.wrap (bn .u64 u 8) = _ := ly u 8 (by omega)
 have e0 : IntKind.u8.wrap (bn .u64 u 0) = _ := ly u 0 (by omega)
 rcases hx with h | h | h | h | h | h | h | h | h <;> subst h
 . repeat' ((conv => whnf); apply a9)
   all_goals try conv => whnf
   all_goals try (refine a8.mk ?_; try dsimp only)
   all_goals first
    | (simp only [List.length_append, fq, bN, List.length_singleton]; omega)
    | omega
    | skip
   refine ⟨[], 1, by omega, ?_, by omega⟩
   refine Go.VG.Sub.mk rfl ?_ ?_ ?_ ?_ <;> (repeat' first | trivial | apply ab | apply aE)
   exact lf e0
 . repeat' ((conv => whnf); apply a9)
   all_goals try conv => whnf
   all_goals try (refine a8.mk ?_; try dsimp only)
   all_goals first
    | (simp only [List.length_append, fq, bN, List.length_singleton]; omega)
    | omega
    | skip
   refine ⟨[], 2, by omega, ?_, by omega⟩
   refine Go.VG.Sub.mk rfl ?_ ?_ ?_ ?_ <;> (repeat' first | trivial | apply ab | apply aE)
   exact lf e1
 . repeat' ((conv => whnf); apply a9)
   all_goals try conv => whnf
   all_goals try (refine a8.mk ?_; try dsimp only)
   all_goals first
    | (simp only [List.length_append, fq, bN, List.length_singleton]; omega)
    | omega
    | skip
   refine ⟨[], 3, by omega, ?_, by omega⟩
   refine Go.VG.Sub.mk rfl ?_ ?_ ?_ ?_ <;> (repeat' first | trivial | apply ab | apply aE)
   exact lf e2
 . repeat' ((conv => whnf); apply a9)
   all_goals try conv => whnf
   all_goals try (refine a8.mk ?_; try dsimp only)
   all_goals first
    | (simp only [List.length_append, fq, bN, List.length_singleton]; omega)
    | omega
    | skip
   refine ⟨[], 4, by omega, ?_, by omega⟩
   refine Go.VG.Sub.mk rfl ?_ ?_ ?_ ?_ <;> (repeat' first | trivial | apply ab | apply aE)
   exact lf e3
 . repeat' ((conv => whnf); apply a9)
   all_goals try conv => whnf
   all_goals try (refine a8.mk ?_; try dsimp only)
   all_goals first
    | (simp only [List.length_append, fq, bN, List.length_singleton]; omega)
    | omega
    | skip
   refine ⟨[], 5, by omega, ?_, by omega⟩
   refine Go.VG.Sub.mk rfl ?_ ?_ ?_ ?_ <;> (repeat' first | trivial | apply ab | apply aE)
   exact lf e4
 . repeat' ((conv => whnf); apply a9)
   all_goals try conv => whnf
   all_goals try (refine a8.mk ?_; try dsimp only)
   all_goals first
    | (simp only [List.length_append, fq, bN, List.length_singleton]; omega)
    | omega
    | skip
   refine ⟨[], 6, by omega, ?_, by omega⟩
   refine Go.VG.Sub.mk rfl ?_ ?_ ?_ ?_ <;> (repeat' first | trivial | apply ab | apply aE)
   exact lf e5
 . repeat' ((conv => whnf); apply a9)
   all_goals try conv => whnf
   all_goals try (refine a8.mk ?_; try dsimp only)
   all_goals first
    | (simp only [List.length_append, fq, bN, List.length_singleton]; omega)
    | omega
    | skip
   refine ⟨[], 7, by omega, ?_, by omega⟩
   refine Go.VG.Sub.mk rfl ?_ ?_ ?_ ?_ <;> (repeat' first | trivial | apply ab | apply aE)
   exact lf e6
 . repeat' ((conv => whnf); apply a9)
   all_goals try conv => whnf
   all_goals try (refine a8.mk ?_; try dsimp only)
   all_goals first
    | (simp only [List.length_append, fq, bN, List.length_singleton]; omega)
    | omega
    | skip
   refine ⟨[], 8, by omega, ?_, by omega⟩
   refine Go.VG.Sub.mk rfl ?_ ?_ ?_ ?_ <;> (repeat' first | trivial | apply ab | apply aE)
   exact lf e7
 . all_goals try conv => whnf
   all_goals try (refine a8.mk ?_; try dsimp only)
   refine a7.mk [] ?_ <;> (repeat' first | trivial)
def tM : Sm := fun args σ => match args, σ with
 | [.buf 0, .int .u64 u], [.buf 1 0 l] => some ((0 ≤ u ∧ u ≤ 18446744073709551615) ∧ l.length ≤ 2000000000, .buf 1, some [.buf 1 0 l, .buf 1 0 (l ++ bl (low 8 u.toNat))])
 | _, _ => none
theorem AY : aa 119 tM := by
 intro args sg pre x r he hp
 unfold tM at he
 split at he <;> cases he
 . exact I8 (hp := hp) ..
theorem H2 (u : Int) (hp : 0 ≤ u ∧ u ≤ 18446744073709551615) : OK 140 ([.int .u64 u, .int .i64 8]) ([]) (.str (low 8 u.toNat)) (none) := by
 refine af (C := cx []) (ah trivial) (fn := Tryz.f140) rfl rfl rfl rfl fun hw hs => ?_
 obtain ⟨u, rfl⟩ := Int.eq_ofNat_of_zero_le hp.1
 rw [Int.toNat_natCast]
 all_goals try conv => whnf
 all_goals try (refine a8.mk ?_; try dsimp only)
 refine bd.mk Nat (fun i => i ≤ 8) (fun i => ⟨22, [(0, .int .u64 (u / 256 ^ i : Nat)), (1, .int .i64 8), (5, .str (low i u)), (6, .int .i64 i)], [], []⟩) (fun x => 8 - x) [] 0 (by omega) ?_ (fun i hi _ _ => ?_)
 . refine Go.VG.Sub.mk rfl ?_ ?_ ?_ ?_ <;> (repeat' first | trivial | apply ab | apply au)
   all_goals simp
 have hl := fq i u
 have hsn := sk i u
 have hdd : u / 256 ^ (i + 1) = u / 256 ^ i / 256 := by rw [Nat.pow_succ, Nat.div_div_eq_div_mul]
 have hle : u / 256 ^ i ≤ u := Nat.div_le_self _ _
 generalize u / 256 ^ i = w at *
 repeat' ((conv => whnf); first | apply a9 | (apply al <;> intro h) | apply i6)
 all_goals try conv => whnf
 all_goals try (refine a8.mk ?_; try dsimp only)
 all_goals first | refine stay ?_ | trivial | (simp (discharger := omega) only [wR]; omega) | (simp only [aW]; omega) | skip
 all_goals (try (show (_ : Nat) ≤ _; simp only [List.length_singleton]; omega))
 . refine ⟨[], i + 1, by omega, ?_, by omega⟩
   refine Go.VG.Sub.mk rfl ?_ ?_ ?_ ?_ <;> (repeat' first | trivial | apply ab | apply aV | apply au)
   . rw [hdd]; (simp (discharger := omega) only [wR]; omega)
   . rw [hsn, show IntKind.u8.wrap ((w : Int).tmod 256) = ((w % 256 : Nat) : Int) by (simp (discharger := omega) only [wR]; omega)]; rfl
   all_goals (simp (discharger := omega) only [wR]; omega)
 . obtain rfl : i = 8 := by omega
   refine a7.mk [] ?_ <;> (repeat' first | trivial)
theorem H3 (u : Int) (hp : 0 ≤ u ∧ u ≤ 18446744073709551615) : OK 140 ([.int .u64 u, .int .i64 4]) ([]) (.str (low 4 u.toNat)) (none) := by
 refine af (C := cx []) (ah trivial) (fn := Tryz.f140) rfl rfl rfl rfl fun hw hs => ?_
 obtain ⟨u, rfl⟩ := Int.eq_ofNat_of_zero_le hp.1
 rw [Int.toNat_natCast]
 all_goals try conv => whnf
 all_goals try (refine a8.mk ?_; try dsimp only)
 refine bd.mk Nat (fun i => i ≤ 4) (fun i => ⟨22, [(0, .int .u64 (u / 256 ^ i : Nat)), (1, .int .i64 4), (5, .str (low i u)), (6, .int .i64 i)], [], []⟩) (fun x => 4 - x) [] 0 (by omega) ?_ (fun i hi _ _ => ?_)
 . refine Go.VG.Sub.mk rfl ?_ ?_ ?_ ?_ <;> (repeat' first | trivial | apply ab | apply au)
   all_goals simp
 have hl := fq i u
 have hsn := sk i u
 have hdd : u / 256 ^ (i + 1) = u / 256 ^ i / 256 := by rw [Nat.pow_succ, Nat.div_div_eq_div_mul]
 have hle : u / 256 ^ i ≤ u := Nat.div_le_self _ _
 generalize u / 256 ^ i = w at *
 repeat' ((conv => whnf); first | apply a9 | (apply al <;> intro h) | apply i6)
 all_goals try conv => whnf
 all_goals try (refine a8.mk ?_; try dsimp only)
 all_goals first | refine stay ?_ | trivial | (simp (discharger := omega) only [wR]; omega) | (simp only [aW]; omega) | skip
 all_goals (try (show (_ : Nat) ≤ _; simp only [List.length_singleton]; omega))
 . refine ⟨[], i + 1, by omega, ?_, by omega⟩
   refine Go.VG.Sub.mk rfl ?_ ?_ ?_ ?_ <;> (repeat' first | trivial | apply ab | apply aV | apply au)
   . rw [hdd]; (simp (discharger := omega) only [wR]; omega)
   . rw [hsn, show IntKind.u8.wrap ((w : Int).tmod 256) = ((w % 256 : Nat) : Int) by (simp (discharger := omega) only [wR]; omega)]; rfl
   all_goals (simp (discharger := omega) only [wR]; omega)
 . obtain rfl : i = 4 := by omega
   refine a7.mk [] ?_ <;> (repeat' first | trivial)
def xb : Sm := fun args σ => match args, σ with
 | [.int .u64 u, .int .i64 8], [] => some (0 ≤ u ∧ u ≤ 18446744073709551615, .str (low 8 u.toNat), none)
 | [.int .u64 u, .int .i64 4], [] => some (0 ≤ u ∧ u ≤ 18446744073709551615, .str (low 4 u.toNat), none)
 | _, _ => none
theorem Jf : aa 140 xb := by
 intro args sg pre x r he hp
 unfold xb at he
 split at he <;> cases he
 . exact H2 (hp := hp) ..
 . exact H3 (hp := hp) ..
theorem H6 (b : Int) (hp : 0 ≤ b ∧ b ≤ 63) : OK 130 ([.int .i64 b]) ([]) (.int .u64 (bO b)) (none) := by
 refine af (C := cx []) (ah trivial) (fn := Tryz.f130) rfl rfl rfl rfl fun hw hs => ?_
 obtain ⟨n, rfl⟩ := Int.eq_ofNat_of_zero_le hp.1
 refine bd.mk Nat (fun i => i ≤ n) (fun i => ⟨13, [(0, .int .i64 n), (3, .int .u64 (2 ^ i : Nat)), (4, .int .i64 i)], [], []⟩) (fun x => n - x) [] 0 (Nat.zero_le _) ?_ (fun i hi _ _ => ?_)
 . refine Go.VG.Sub.mk rfl ?_ ?_ ?_ ?_ <;> (repeat' first | trivial)
 have hpw : i < n → 2 ^ (i + 1) ≤ 2 ^ 63 := fun h => Nat.pow_le_pow_right (by decide) (by omega)
 have hpe : 2 ^ (i + 1) = 2 ^ i * 2 := Nat.pow_succ 2 i
 repeat' ((conv => whnf); (apply al <;> intro h))
 all_goals try conv => whnf
 all_goals try (refine a8.mk ?_; try dsimp only)
 all_goals try refine stay ?_
 . refine ⟨[], i + 1, by omega, ?_, by omega⟩
   refine Go.VG.Sub.mk rfl ?_ ?_ ?_ ?_ <;> (repeat' first | trivial | apply ab | apply au)
   all_goals first
    | (simp (discharger := omega) only [wR]; omega)
    | (rw [dN, Int.emod_eq_of_lt (by omega) (by omega)]; omega)
 . refine a7.mk [] ?_ <;> (repeat' first | trivial | apply ab | apply au)
   obtain rfl : i = n := by omega
   rfl
def tp : Sm := fun args σ => match args, σ with
 | [.int .i64 b], [] => some (0 ≤ b ∧ b ≤ 63, .int .u64 (bO b), none)
 | _, _ => none
theorem AF : aa 130 tp := by
 intro args sg pre x r he hp
 unfold tp at he
 split at he <;> cases he
 . exact H6 (hp := hp) ..
theorem vZ {b : Int} (h : b = 1 ∨ b = 8 ∨ b = 16 ∨ b = 32 ∨ b = 64) : (b = 1 ∧ bO b = 2 ∧ bO (b - 1) = 1) ∨ (b = 8 ∧ bO b = 256 ∧ bO (b - 1) = 128) ∨ (b = 16 ∧ bO b = 65536 ∧ bO (b - 1) = 32768) ∨ (b = 32 ∧ bO b = 4294967296 ∧ bO (b - 1) = 2147483648) ∨ (b = 64 ∧ bO b = 18446744073709551616 ∧ bO (b - 1) = 9223372036854775808) := by
 rcases h with rfl | rfl | rfl | rfl | rfl
 . exact .inl ⟨rfl, rfl, rfl⟩
 . exact .inr (.inl ⟨rfl, rfl, rfl⟩)
 . exact .inr (.inr (.inl ⟨rfl, rfl, rfl⟩))
 . exact .inr (.inr (.inr (.inl ⟨rfl, rfl, rfl⟩)))
 . exact .inr (.inr (.inr (.inr ⟨rfl, rfl, rfl⟩)))
def kg (u b : Int) : Int := if u % bO b ≥ bO (b - 1) then u % bO b - bO b else u % bO b
theorem H4 (u b : Int) (hp : (0 ≤ u ∧ u ≤ 18446744073709551615) ∧ (b = 1 ∨ b = 8 ∨ b = 16 ∨ b = 32 ∨ b = 64)) : OK 87 ([.int .u64 u, .int .i64 b]) ([]) (.int .i64 (kg u b)) (none) := by
 refine af (C := cx [(130, tp)]) (ah ⟨AF, trivial⟩) (fn := Tryz.f87) rfl rfl rfl rfl fun hw hs => ?_
 obtain ⟨hu, hb⟩ := hp
 have hb := vZ hb
 unfold kg
 have ht := Int.tmod_eq_emod_of_nonneg (b := bO b) hu.1
 have h3 : bO (IntKind.i64.wrap (b - 1)) = bO (b - 1) := by rw [show IntKind.i64.wrap (b - 1) = b - 1 by (simp (discharger := omega) only [wR]; omega)]
 rcases hb with ⟨rfl, h1, h2⟩ | ⟨rfl, h1, h2⟩ | ⟨rfl, h1, h2⟩ | ⟨rfl, h1, h2⟩ | ⟨rfl, h1, h2⟩
 all_goals rw [h2] at h3
 all_goals rw [h1] at ht
 all_goals rw [h1, h2]
 all_goals
  repeat' ((conv => whnf); first | apply a9 | (apply al <;> intro h))
  all_goals try conv => whnf
  all_goals try (refine a8.mk ?_; try dsimp only)
  all_goals (try simp only [h1, h3, ht] at *)
  all_goals first | refine stay ?_ | trivial | skip
  all_goals first
   | omega
   | (first
      | rw [if_pos (by omega)]
      | rw [if_neg (by omega)]
      refine a7.mk [] ?_ <;> (repeat' first | trivial | apply ab | apply au)
      all_goals (simp (discharger := omega) only [wR]; omega)
      done)
   | (split
      all_goals
       refine a7.mk [] ?_ <;> (repeat' first | trivial | apply ab | apply au)
       (simp (discharger := omega) only [wR]; omega)
      done)
   | skip
def xc : Sm := fun args σ => match args, σ with
 | [.int .u64 u, .int .i64 b], [] => some ((0 ≤ u ∧ u ≤ 18446744073709551615) ∧ (b = 1 ∨ b = 8 ∨ b = 16 ∨ b = 32 ∨ b = 64), .int .i64 (kg u b), none)
 | _, _ => none
theorem Jg : aa 87 xc := by
 intro args sg pre x r he hp
 unfold xc at he
 split at he <;> cases he
 . exact H4 (hp := hp) ..
theorem pw (n : Int) (j : Nat) (hj : j ≤ 64) (h1 : 1 ≤ j) : jI .u64 (IntKind.u64.wrap n) (((2 ^ j - 1 : Nat)) : Int) = n % ((2 ^ j : Nat) : Int) := by
 have hw : IntKind.u64.wrap n = ((n % 18446744073709551616).toNat : Int) := by rw [dN]; omega
 have hp : 2 ^ j ≤ 2 ^ 64 := Nat.pow_le_pow_right (by decide) hj
 have hp0 : 0 < 2 ^ j := Nat.pow_pos (by decide)
 have hd : 2 ^ 64 = 2 ^ j * 2 ^ (64 - j) := by rw [← Nat.pow_add]; congr 1; omega
 rw [hw, DV .u64 j (n % 18446744073709551616).toNat (by show _ < 2 ^ 64; omega) (by show _ < 2 ^ 64; omega)
  (by have := Nat.mod_lt (n % 18446744073709551616).toNat hp0
      show (((n % 18446744073709551616).toNat % 2 ^ j : Nat) : Int) ≤ 18446744073709551615
      omega)
  (fun m h => by
   have h : (m : Int) ≤ 18446744073709551615 := h
   rw [dN]; omega)]
 have e : (18446744073709551616 : Int) = ((2 ^ j : Nat) : Int) * ((2 ^ (64 - j) : Nat) : Int) := by
  rw [← Int.natCast_mul, ← hd]; rfl
 rw [Int.natCast_emod, Int.toNat_of_nonneg (by omega), e]
 exact Int.emod_emod_of_dvd n (Int.dvd_mul_right ..)
theorem I6 (n b : Int) (hp : b = 1 ∨ b = 8 ∨ b = 16 ∨ b = 32 ∨ b = 64) : OK 117 ([.int .i64 n, .int .i64 b]) ([]) (.tuple [.int .u64 (ez n b), .int .i64 (bc n b)]) (none) := by
 refine af (C := cx []) (ah trivial) (fn := Tryz.f117) rfl rfl rfl rfl fun hw hs => ?_
 have hn : -9223372036854775808 ≤ n ∧ n ≤ 9223372036854775807 := hw.1
 have hb := vZ hp
 unfold ez bc
 have hi : gZ n b = true ↔ (-bO (b - 1) ≤ n ∧ n < bO (b - 1)) := decide_eq_true_iff
 rcases hb with ⟨rfl, h1, h2⟩ | ⟨rfl, h1, h2⟩ | ⟨rfl, h1, h2⟩ | ⟨rfl, h1, h2⟩ | ⟨rfl, h1, h2⟩
 all_goals rw [h2] at hi
 . have m := pw n 1 (by decide) (by decide)
   have mk : bn .u64 18446744073709551615 (IntKind.i64.wrap (64 - 1)) = ((2 ^ 1 - 1 : Nat) : Int) := by decide
   have hs : bn .i64 n (IntKind.i64.wrap (1 - 1)) = n / 1 := by show n.fdiv 1 = _; rw [Int.fdiv_eq_ediv_of_nonneg _ (by decide)]
   repeat' ((conv => whnf); first | apply a9 | apply aJ | (apply al <;> intro h))
   all_goals try conv => whnf
   all_goals try (refine a8.mk ?_; try dsimp only)
   all_goals (try simp only [hs] at *)
   all_goals first | refine stay ?_ | trivial | skip
   all_goals first
    | (exfalso; omega)
    | rw [if_pos (hi.2 ⟨by omega, by omega⟩), if_pos (hi.2 ⟨by omega, by omega⟩), h1]
    | rw [if_neg (fun q => by have := hi.1 q; omega), if_neg (fun q => by have := hi.1 q; omega)]
   all_goals
    refine a7.mk [] ?_ <;> (repeat' first | trivial | apply ab | apply au | apply bZ | apply aM)
   all_goals (rw [mk, m]; rfl)
 . have m := pw n 8 (by decide) (by decide)
   have mk : bn .u64 18446744073709551615 (IntKind.i64.wrap (64 - 8)) = ((2 ^ 8 - 1 : Nat) : Int) := by decide
   have hs : bn .i64 n (IntKind.i64.wrap (8 - 1)) = n / 128 := by show n.fdiv 128 = _; rw [Int.fdiv_eq_ediv_of_nonneg _ (by decide)]
   repeat' ((conv => whnf); first | apply a9 | apply aJ | (apply al <;> intro h))
   all_goals try conv => whnf
   all_goals try (refine a8.mk ?_; try dsimp only)
   all_goals (try simp only [hs] at *)
   all_goals first | refine stay ?_ | trivial | skip
   all_goals first
    | (exfalso; omega)
    | rw [if_pos (hi.2 ⟨by omega, by omega⟩), if_pos (hi.2 ⟨by omega, by omega⟩), h1]
    | rw [if_neg (fun q => by have := hi.1 q; omega), if_neg (fun q => by have := hi.1 q; omega)]
   all_goals
    refine a7.mk [] ?_ <;> (repeat' first | trivial | apply ab | apply au | apply bZ | apply aM)
   all_goals (rw [mk, m]; rfl)
 . have m := pw n 16 (by decide) (by decide)
   have mk : bn .u64 18446744073709551615 (IntKind.i64.wrap (64 - 16)) = ((2 ^ 16 - 1 : Nat) : Int) := by decide
   have hs : bn .i64 n (IntKind.i64.wrap (16 - 1)) = n / 32768 := by show n.fdiv 32768 = _; rw [Int.fdiv_eq_ediv_of_nonneg _ (by decide)]
   repeat' ((conv => whnf); first | apply a9 | apply aJ | (apply al <;> intro h))
   all_goals try conv => whnf
   all_goals try (refine a8.mk ?_; try dsimp only)
   all_goals (try simp only [hs] at *)
   all_goals first | refine stay ?_ | trivial | skip
   all_goals first
    | (exfalso; omega)
    | rw [if_pos (hi.2 ⟨by omega, by omega⟩), if_pos (hi.2 ⟨by omega, by omega⟩), h1]
    | rw [if_neg (fun q => by have := hi.1 q; omega), if_neg (fun q => by have := hi.1 q; omega)]
   all_goals
    refine a7.mk [] ?_ <;> (repeat' first | trivial | apply ab | apply au | apply bZ | apply aM)
   all_goals (rw [mk, m]; rfl)
 . have m := pw n 32 (by decide) (by decide)
   have mk : bn .u64 18446744073709551615 (IntKind.i64.wrap (64 - 32)) = ((2 ^ 32 - 1 : Nat) : Int) := by decide
   have hs : bn .i64 n (IntKind.i64.wrap (32 - 1)) = n / 2147483648 := by show n.fdiv 2147483648 = _; rw [Int.fdiv_eq_ediv_of_nonneg _ (by decide)]
   repeat' ((conv => whnf); first | apply a9 | apply aJ | (apply al <;> intro h))
   all_goals try conv => whnf
   all_goals try (refine a8.mk ?_; try dsimp only)
   all_goals (try simp only [hs] at *)
   all_goals first | refine stay ?_ | trivial | skip
   all_goals first
    | (exfalso; omega)
    | rw [if_pos (hi.2 ⟨by omega, by omega⟩), if_pos (hi.2 ⟨by omega, by omega⟩), h1]
    | rw [if_neg (fun q => by have := hi.1 q; omega), if_neg (fun q => by have := hi.1 q; omega)]
   all_goals
    refine a7.mk [] ?_ <;> (repeat' first | trivial | apply ab | apply au | apply bZ | apply aM)
   all_goals (rw [mk, m]; rfl)
 . have m := pw n 64 (by decide) (by decide)
   have mk : bn .u64 18446744073709551615 (IntKind.i64.wrap (64 - 64)) = ((2 ^ 64 - 1 : Nat) : Int) := by decide
   have hs : bn .i64 n (IntKind.i64.wrap (64 - 1)) = n / 9223372036854775808 := by show n.fdiv 9223372036854775808 = _; rw [Int.fdiv_eq_ediv_of_nonneg _ (by decide)]
   repeat' ((conv => whnf); first | apply a9 | apply aJ | (apply al <;> intro h))
   all_goals try conv => whnf
   all_goals try (refine a8.mk ?_; try dsimp only)
   all_goals (try simp only [hs] at *)
   all_goals first | refine stay ?_ | trivial | skip
   all_goals first
    | (exfalso; omega)
    | rw [if_pos (hi.2 ⟨by omega, by omega⟩), if_pos (hi.2 ⟨by omega, by omega⟩), h1]
    | rw [if_neg (fun q => by have := hi.1 q; omega), if_neg (fun q => by have := hi.1 q; omega)]
   all_goals
    refine a7.mk [] ?_ <;> (repeat' first | trivial | apply ab | apply au | apply bZ | apply aM)
   all_goals (rw [mk, m]; rfl)
def tL : Sm := fun args σ => match args, σ with
 | [.int .i64 n, .int .i64 b], [] => some (b = 1 ∨ b = 8 ∨ b = 16 ∨ b = 32 ∨ b = 64, .tuple [.int .u64 (ez n b), .int .i64 (bc n b)], none)
 | _, _ => none
theorem AX : aa 117 tL := by
 intro args sg pre x r he hp
 unfold tL at he
 split at he <;> cases he
 . exact I6 (hp := hp) ..
theorem H0 (n b : Int) (hp : b = 1 ∨ b = 8 ∨ b = 16 ∨ b = 32 ∨ b = 64) : OK 90 ([.int .i64 n, .int .i64 b]) ([]) (.tuple [.int .u64 (ez n b), .int .i64 (bc n b)]) (none) := by
 refine af (C := cx [(130, tp), (87, xc)]) (ah ⟨AF, Jg, trivial⟩) (fn := Tryz.f90) rfl rfl rfl rfl fun hw hs => ?_
 have hn : -9223372036854775808 ≤ n ∧ n ≤ 9223372036854775807 := hw.1
 have hb := vZ hp
 have hi : gZ n b = true ↔ (-bO (b - 1) ≤ n ∧ n < bO (b - 1)) := decide_eq_true_iff
 have hw64 : IntKind.u64.wrap n = n % 18446744073709551616 := dN n
 have ht := Int.tmod_eq_emod_of_nonneg (a := n % 18446744073709551616) (b := bO b) (by omega)
 have hW : ∀ u, kg u b = if u % bO b ≥ bO (b - 1) then u % bO b - bO b else u % bO b := fun _ => rfl
 rcases hb with ⟨rfl, h1, h2⟩ | ⟨rfl, h1, h2⟩ | ⟨rfl, h1, h2⟩ | ⟨rfl, h1, h2⟩ | ⟨rfl, h1, h2⟩
 all_goals rw [h2] at hi
 all_goals rw [h1] at ht
 all_goals rw [h1, h2] at hW
 . have hk : kg (n % 18446744073709551616 % 2) 1 = n ↔ gZ n 1 = true := by
     rw [hi, hW]; split <;> omega
   unfold ez bc
   rw [h1]
   repeat' ((conv => whnf); first | apply a9 | apply aJ | (apply al <;> intro h))
   all_goals try conv => whnf
   all_goals try (refine a8.mk ?_; try dsimp only)
   all_goals (try simp only [hw64, h1, ht] at *)
   all_goals first | refine stay ?_ | trivial | (simp (discharger := omega) [-List.getD_eq_getElem?_getD, wR] <;> omega) | skip
   all_goals first
    | rw [if_pos (hk.1 (by assumption)), if_pos (hk.1 (by assumption))]
    | rw [if_neg (fun q => absurd (hk.2 q) (by assumption)), if_neg (fun q => absurd (hk.2 q) (by assumption))]
   all_goals
    refine a7.mk [] ?_ <;> (repeat' first | trivial | apply ab | apply au | apply bZ | apply aM)
   all_goals omega
 . have hk : kg (n % 18446744073709551616 % 256) 8 = n ↔ gZ n 8 = true := by
     rw [hi, hW]; split <;> omega
   unfold ez bc
   rw [h1]
   repeat' ((conv => whnf); first | apply a9 | apply aJ | (apply al <;> intro h))
   all_goals try conv => whnf
   all_goals try (refine a8.mk ?_; try dsimp only)
   all_goals (try simp only [hw64, h1, ht] at *)
   all_goals first | refine stay ?_ | trivial | (simp (discharger := omega) [-List.getD_eq_getElem?_getD, wR] <;> omega) | skip
   all_goals first
    | rw [if_pos (hk.1 (by assumption)), if_pos (hk.1 (by assumption))]
    | rw [if_neg (fun q => absurd (hk.2 q) (by assumption)), if_neg (fun q => absurd (hk.2 q) (by assumption))]
   all_goals
    refine a7.mk [] ?_ <;> (repeat' first | trivial | apply ab | apply au | apply bZ | apply aM)
   all_goals omega
 . have hk : kg (n % 18446744073709551616 % 65536) 16 = n ↔ gZ n 16 = true := by
     rw [hi, hW]; split <;> omega
   unfold ez bc
   rw [h1]
   repeat' ((conv => whnf); first | apply a9 | apply aJ | (apply al <;> intro h))
   all_goals try conv => whnf
   all_goals try (refine a8.mk ?_; try dsimp only)
   all_goals (try simp only [hw64, h1, ht] at *)
   all_goals first | refine stay ?_ | trivial | (simp (discharger := omega) [-List.getD_eq_getElem?_getD, wR] <;> omega) | skip
   all_goals first
    | rw [if_pos (hk.1 (by assumption)), if_pos (hk.1 (by assumption))]
    | rw [if_neg (fun q => absurd (hk.2 q) (by assumption)), if_neg (fun q => absurd (hk.2 q) (by assumption))]
   all_goals
    refine a7.mk [] ?_ <;> (repeat' first | trivial | apply ab | apply au | apply bZ | apply aM)
   all_goals omega
 . have hk : kg (n % 18446744073709551616 % 4294967296) 32 = n ↔ gZ n 32 = true := by
     rw [hi, hW]; split <;> omega
   unfold ez bc
   rw [h1]
   repeat' ((conv => whnf); first | apply a9 | apply aJ | (apply al <;> intro h))
   all_goals try conv => whnf
   all_goals try (refine a8.mk ?_; try dsimp only)
   all_goals (try simp only [hw64, h1, ht] at *)
   all_goals first | refine stay ?_ | trivial | (simp (discharger := omega) [-List.getD_eq_getElem?_getD, wR] <;> omega) | skip
   all_goals first
    | rw [if_pos (hk.1 (by assumption)), if_pos (hk.1 (by assumption))]
    | rw [if_neg (fun q => absurd (hk.2 q) (by assumption)), if_neg (fun q => absurd (hk.2 q) (by assumption))]
   all_goals
    refine a7.mk [] ?_ <;> (repeat' first | trivial | apply ab | apply au | apply bZ | apply aM)
   all_goals omega
 . have hk : kg (n % 18446744073709551616) 64 = n ↔ gZ n 64 = true := by
     rw [hi, hW]; split <;> omega
   unfold ez bc
   rw [h1]
   repeat' ((conv => whnf); first | apply a9 | apply aJ | (apply al <;> intro h))
   all_goals try conv => whnf
   all_goals try (refine a8.mk ?_; try dsimp only)
   all_goals (try simp only [hw64, h1, ht] at *)
   all_goals first | refine stay ?_ | (simp (discharger := omega) [-List.getD_eq_getElem?_getD, wR] <;> omega) | skip
   all_goals first
    | rw [if_pos (hk.1 (by assumption)), if_pos (hk.1 (by assumption))]
    | rw [if_neg (fun q => absurd (hk.2 q) (by assumption)), if_neg (fun q => absurd (hk.2 q) (by assumption))]
   all_goals
    refine a7.mk [] ?_ <;> (repeat' first | trivial)
   all_goals omega
def tk : Sm := fun args σ => match args, σ with
 | [.int .i64 n, .int .i64 b], [] => some (b = 1 ∨ b = 8 ∨ b = 16 ∨ b = 32 ∨ b = 64, .tuple [.int .u64 (ez n b), .int .i64 (bc n b)], none)
 | _, _ => none
theorem AD : aa 90 tk := by
 intro args sg pre x r he hp
 unfold tk at he
 split at he <;> cases he
 . exact H0 (hp := hp) ..
end Go.Proofs.YtipejldppicijaaGreatDoor
