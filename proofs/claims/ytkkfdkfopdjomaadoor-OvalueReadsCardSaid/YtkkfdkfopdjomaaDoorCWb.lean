/-
  Numbers of so many bits, and heads: what the program lays, and what the document says.
-/
import Derived.Test.YtkkfdkfopdjomaaDoorCWa
set_option linter.unusedSimpArgs false
set_option linter.unusedVariables false
set_option maxHeartbeats 4000000
namespace Go.Proofs.YtkkfdkfopdjomaaDoor
open Go Go.VG
set_option maxRecDepth 100000
def low (k u : Nat) : List UInt8 := match k with
  | 0 => []
  | k + 1 => .ofNat (u % 256) :: low k (u / 256)
theorem low_length : ∀ (k u : Nat), (low k u).length = k
  | 0, _ => rfl
  | k + 1, u => by rw [low, List.length_cons, low_length]
theorem low_snoc : ∀ (k u : Nat), low (k + 1) u = low k u ++ [.ofNat (u / 256 ^ k % 256)]
  | 0, u => by simp [low]
  | k + 1, u => by
    rw [low, low_snoc k (u / 256), low, List.cons_append, Nat.div_div_eq_div_mul, ← Nat.pow_succ']
theorem f_wGrown_1 (l : List V) (m : Int) (hp : (0 ≤ m ∧ m ≤ 1000) ∧ l.length ≤ 2000000000) : OK 111 ([.buf 0, .int .i64 m]) ([.buf 1 0 l]) (.buf 1) (some [.buf 1 0 l, .buf 1 0 l]) := by
  refine funOK_of_vc (C := cx []) (good trivial) (fn := Tryd.f111) rfl rfl rfl rfl fun hw hs => ?_
  repeat' ((conv => whnf); apply go3)
  all_goals try conv => whnf
  all_goals try (refine Side.mk ?_; try dsimp only)
  all_goals first | refine stay ?_ | (simp (discharger := omega) only [wR]; omega) | skip
  refine EndP.mk [] ?_ <;> (repeat' first | trivial | apply andI | apply eqD)
  simp
def sm_wGrown : Sm := fun args σ => match args, σ with
  | [.buf 0, .int .i64 m], [.buf 1 0 l] => some ((0 ≤ m ∧ m ≤ 1000) ∧ l.length ≤ 2000000000, .buf 1, some [.buf 1 0 l, .buf 1 0 l])
  | _, _ => none
theorem k_wGrown : SOK 111 sm_wGrown := by
  intro args sg pre x r he hp
  unfold sm_wGrown at he
  split at he <;> cases he
  · exact f_wGrown_1 (hp := hp) ..
theorem shr_byteC (u b : Nat) (hb : b ≤ 64) : IntKind.u8.wrap (iShr .u64 u b) = ((UInt8.ofNat (u / 2 ^ b % 256)).toNat : Int) := by
  rw [iShr_nat, show min b IntKind.u64.bits = b from Nat.min_eq_left hb, wu8, UInt8.toNat_ofNat']
  omega
theorem low_put {l : List V} {u i : Nat} {x : Int} (h : x = ((UInt8.ofNat (u / 256 ^ i % 256)).toNat : Nat)) : l ++ bl (low i u) ++ [.int .u8 x] = l ++ bl (low (i + 1) u) := by rw [low_snoc, bl_append, ← List.append_assoc, h]; rfl
/-! Wide, Fit -/
theorem pow_b {b : Int} (h : b = 1 ∨ b = 8 ∨ b = 16 ∨ b = 32 ∨ b = 64) : (b = 1 ∧ pow2 b = 2 ∧ pow2 (b - 1) = 1) ∨ (b = 8 ∧ pow2 b = 256 ∧ pow2 (b - 1) = 128) ∨ (b = 16 ∧ pow2 b = 65536 ∧ pow2 (b - 1) = 32768) ∨ (b = 32 ∧ pow2 b = 4294967296 ∧ pow2 (b - 1) = 2147483648) ∨ (b = 64 ∧ pow2 b = 18446744073709551616 ∧ pow2 (b - 1) = 9223372036854775808) := by
  rcases h with rfl | rfl | rfl | rfl | rfl
  · exact .inl ⟨rfl, rfl, rfl⟩
  · exact .inr (.inl ⟨rfl, rfl, rfl⟩)
  · exact .inr (.inr (.inl ⟨rfl, rfl, rfl⟩))
  · exact .inr (.inr (.inr (.inl ⟨rfl, rfl, rfl⟩)))
  · exact .inr (.inr (.inr (.inr ⟨rfl, rfl, rfl⟩)))
/-- the whole number of so many bits -/
def wideV (u b : Int) : Int := if u % pow2 b ≥ pow2 (b - 1) then u % pow2 b - pow2 b else u % pow2 b
theorem fit_mask (n : Int) (j : Nat) (hj : j ≤ 64) (h1 : 1 ≤ j) : iAnd .u64 (IntKind.u64.wrap n) (((2 ^ j - 1 : Nat)) : Int) = n % ((2 ^ j : Nat) : Int) := by
  have hw : IntKind.u64.wrap n = ((n % 18446744073709551616).toNat : Int) := by rw [wu64]; omega
  have hp : 2 ^ j ≤ 2 ^ 64 := Nat.pow_le_pow_right (by decide) hj
  have hp0 : 0 < 2 ^ j := Nat.pow_pos (by decide)
  have hd : 2 ^ 64 = 2 ^ j * 2 ^ (64 - j) := by rw [← Nat.pow_add]; congr 1; omega
  rw [hw, and_maskC .u64 j (n % 18446744073709551616).toNat (by show _ < 2 ^ 64; omega) (by show _ < 2 ^ 64; omega)
    (by have := Nat.mod_lt (n % 18446744073709551616).toNat hp0
        show (((n % 18446744073709551616).toNat % 2 ^ j : Nat) : Int) ≤ 18446744073709551615
        omega)
    (fun m h => by
      have h : (m : Int) ≤ 18446744073709551615 := h
      rw [wu64]; omega)]
  have e : (18446744073709551616 : Int) = ((2 ^ j : Nat) : Int) * ((2 ^ (64 - j) : Nat) : Int) := by
    rw [← Int.natCast_mul, ← hd]; rfl
  rw [Int.natCast_emod, Int.toNat_of_nonneg (by omega), e]
  exact Int.emod_emod_of_dvd n (Int.dvd_mul_right ..)
end Go.Proofs.YtkkfdkfopdjomaaDoor
