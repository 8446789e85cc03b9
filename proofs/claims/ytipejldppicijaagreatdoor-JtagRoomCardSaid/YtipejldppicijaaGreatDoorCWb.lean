/-
  A part of the proof.
-/
import Derived.Test.YtipejldppicijaaGreatDoorCWa
set_option linter.unusedSimpArgs false
set_option linter.unusedVariables false
set_option maxHeartbeats 4000000
namespace Go.Proofs.YtipejldppicijaaGreatDoor
open Go Go.VG
set_option maxRecDepth 100000
def low (k u : Nat) : List UInt8 := match k with
 | 0 => []
 | k + 1 => .ofNat (u % 256) :: low k (u / 256)
theorem gU : ∀ (k u : Nat), (low k u).length = k
 | 0, _ => rfl
 | k + 1, u => by rw [low, List.length_cons, gU]
theorem yu : ∀ (k u : Nat), low (k + 1) u = low k u ++ [.ofNat (u / 256 ^ k % 256)]
 | 0, u => by simp [low]
 | k + 1, u => by
   rw [low, yu k (u / 256), low, List.cons_append, Nat.div_div_eq_div_mul, ← Nat.pow_succ']
theorem DV (l : List V) (m : Int) (hp : (0 ≤ m ∧ m ≤ 1000) ∧ l.length ≤ 2000000000) : OK 149 ([.buf 0, .int .i64 m]) ([.buf 1 0 l]) (.buf 1) (some [.buf 1 0 l, .buf 1 0 l]) := by
 refine ai (C := cx []) (aj trivial) (fn := Tryz.f149) rfl rfl rfl rfl fun hw hs => ?_
 repeat' ((conv => whnf); apply a9)
 all_goals try conv => whnf
 all_goals try (refine a8.mk ?_; try dsimp only)
 all_goals first | refine stay ?_ | (simp (discharger := omega) only [wR]; omega) | skip
 refine a7.mk [] ?_ <;> (repeat' first | trivial | apply ah | apply aG)
 simp
def uZ : Sm := fun args σ => match args, σ with
 | [.buf 0, .int .i64 m], [.buf 1 0 l] => some ((0 ≤ m ∧ m ≤ 1000) ∧ l.length ≤ 2000000000, .buf 1, some [.buf 1 0 l, .buf 1 0 l])
 | _, _ => none
theorem FE : aa 149 uZ := by
 intro args sg pre x r he hp
 unfold uZ at he
 split at he <;> cases he
 . exact DV (hp := hp) ..
theorem kn (u b : Nat) (hb : b ≤ 64) : IntKind.u8.wrap (ba .u64 u b) = ((UInt8.ofNat (u / 2 ^ b % 256)).toNat : Int) := by
 rw [jQ, show min b IntKind.u64.bits = b from Nat.min_eq_left hb, iE, UInt8.toNat_ofNat']
 omega
theorem jZ {l : List V} {u i : Nat} {x : Int} (h : x = ((UInt8.ofNat (u / 256 ^ i % 256)).toNat : Nat)) : l ++ bl (low i u) ++ [.int .u8 x] = l ++ bl (low (i + 1) u) := by rw [yu, cq, ← List.append_assoc, h]; rfl
theorem DW (l : List V) (u : Int) (hp : (0 ≤ u ∧ u ≤ 18446744073709551615) ∧ l.length ≤ 2000000000) : OK 119 ([.buf 0, .int .u64 u]) ([.buf 1 0 l]) (.buf 1) (some [.buf 1 0 l, .buf 1 0 (l ++ bl (low 8 u.toNat))]) := by
 refine ai (C := cx [(149, uZ)]) (aj ⟨FE, trivial⟩) (fn := Tryz.f119) rfl rfl rfl rfl fun hw hs => ?_
 obtain ⟨hp, hq⟩ := hp
 obtain ⟨u, rfl⟩ := Int.eq_ofNat_of_zero_le hp.1
 rw [Int.toNat_natCast]
 repeat' ((conv => whnf); apply a9)
 all_goals try conv => whnf
 all_goals try (refine a8.mk ?_; try dsimp only)
 all_goals first | refine stay ?_ | trivial | skip
 refine br.mk Nat (fun i => i ≤ 8) (fun i => ⟨23, [(1, .int .u64 u), (4, .list true 0 []), (5, .buf 1), (6, .int .i64 (7 - i))], [.buf 1 0 l, .buf 1 0 (l ++ bl (low i u))], [0, 1]⟩) (fun i => 8 - i) [] 0 (by omega) ?_ (fun i hi _ _ => ?_)
 . refine Go.VG.Sub.mk rfl ?_ ?_ ?_ ?_ <;> (repeat' first | trivial | apply ah | apply aG)
   simp [low, bl]
 have hx : i = 0 ∨ i = 1 ∨ i = 2 ∨ i = 3 ∨ i = 4 ∨ i = 5 ∨ i = 6 ∨ i = 7 ∨ i = 8 := by omega
 have e7 : IntKind.u8.wrap (ba .u64 u 56) = _ := kn u 56 (by omega)
 have e6 : IntKind.u8.wrap (ba .u64 u 48) = _ := kn u 48 (by omega)
 have e5 : IntKind.u8.wrap (ba .u64 u 40) = _ := kn u 40 (by omega)
 have e4 : IntKind.u8.wrap (ba .u64 u 32) = _ := kn u 32 (by omega)
 have e3 : IntKind.u8.wrap (ba .u64 u 24) = _ := kn u 24 (by omega)
 have e2 : IntKind.u8.wrap (ba .u64 u 16) = _ := kn u 16 (by omega)
 have e1 : IntKind.u8.wrap (ba .u64 u 8) = _ := kn u 8 (by omega)
 have e0 : IntKind.u8.wrap (ba .u64 u 0) = _ := kn u 0 (by omega)
 rcases hx with h | h | h | h | h | h | h | h | h <;> subst h
 . repeat' ((conv => whnf); apply a9)
   all_goals try conv => whnf
   all_goals try (refine a8.mk ?_; try dsimp only)
   all_goals first
    | (simp only [List.length_append, gU, bC, List.length_singleton]; omega)
    | omega
    | skip
   refine ⟨[], 1, by omega, ?_, by omega⟩
   refine Go.VG.Sub.mk rfl ?_ ?_ ?_ ?_ <;> (repeat' first | trivial | apply ah | apply aG)
   exact jZ e0
 . repeat' ((conv => whnf); apply a9)
   all_goals try conv => whnf
   all_goals try (refine a8.mk ?_; try dsimp only)
   all_goals first
    | (simp only [List.length_append, gU, bC, List.length_singleton]; omega)
    | omega
    | skip
   refine ⟨[], 2, by omega, ?_, by omega⟩
   refine Go.VG.Sub.mk rfl ?_ ?_ ?_ ?_ <;> (repeat' first | trivial | apply ah | apply aG)
   exact jZ e1
 . repeat' ((conv => whnf); apply a9)
   all_goals try conv => whnf
   all_goals try (refine a8.mk ?_; try dsimp only)
   all_goals first
    | (simp only [List.length_append, gU, bC, List.length_singleton]; omega)
    | omega
    | skip
   refine ⟨[], 3, by omega, ?_, by omega⟩
   refine Go.VG.Sub.mk rfl ?_ ?_ ?_ ?_ <;> (repeat' first | trivial | apply ah | apply aG)
   exact jZ e2
 . repeat' ((conv => whnf); apply a9)
   all_goals try conv => whnf
   all_goals try (refine a8.mk ?_; try dsimp only)
   all_goals first
    | (simp only [List.length_append, gU, bC, List.length_singleton]; omega)
    | omega
    | skip
   refine ⟨[], 4, by omega, ?_, by omega⟩
   refine Go.VG.Sub.mk rfl ?_ ?_ ?_ ?_ <;> (repeat' first | trivial | apply ah | apply aG)
   exact jZ e3
 . repeat' ((conv => whnf); apply a9)
   all_goals try conv => whnf
   all_goals try (refine a8.mk ?_; try dsimp only)
   all_goals first
    | (simp only [List.length_append, gU, bC, List.length_singleton]; omega)
    | omega
    | skip
   refine ⟨[], 5, by omega, ?_, by omega⟩
   refine Go.VG.Sub.mk rfl ?_ ?_ ?_ ?_ <;> (repeat' first | trivial | apply ah | apply aG)
   exact jZ e4
 . repeat' ((conv => whnf); apply a9)
   all_goals try conv => whnf
   all_goals try (refine a8.mk ?_; try dsimp only)
   all_goals first
    | (simp only [List.length_append, gU, bC, List.length_singleton]; omega)
    | omega
    | skip
   refine ⟨[], 6, by omega, ?_, by omega⟩
   refine Go.VG.Sub.mk rfl ?_ ?_ ?_ ?_ <;> (repeat' first | trivial | apply ah | apply aG)
   exact jZ e5
 . repeat' ((conv => whnf); apply a9)
   all_goals try conv => whnf
   all_goals try (refine a8.mk ?_; try dsimp only)
   all_goals first
    | (simp only [List.length_append, gU, bC, List.length_singleton]; omega)
    | omega
    | skip
   refine ⟨[], 7, by omega, ?_, by omega⟩
   refine Go.VG.Sub.mk rfl ?_ ?_ ?_ ?_ <;> (repeat' first | trivial | apply ah | apply aG)
   exact jZ e6
 . repeat' ((conv => whnf); apply a9)
   all_goals try conv => whnf
   all_goals try (refine a8.mk ?_; try dsimp only)
   all_goals first
    | (simp only [List.length_append, gU, bC, List.length_singleton]; omega)
    | omega
    | skip
   refine ⟨[], 8, by omega, ?_, by omega⟩
   refine Go.VG.Sub.mk rfl ?_ ?_ ?_ ?_ <;> (repeat' first | trivial | apply ah | apply aG)
   exact jZ e7
 . all_goals try conv => whnf
   all_goals try (refine a8.mk ?_; try dsimp only)
   refine a7.mk [] ?_ <;> (repeat' first | trivial)
def rE : Sm := fun args σ => match args, σ with
 | [.buf 0, .int .u64 u], [.buf 1 0 l] => some ((0 ≤ u ∧ u ≤ 18446744073709551615) ∧ l.length ≤ 2000000000, .buf 1, some [.buf 1 0 l, .buf 1 0 (l ++ bl (low 8 u.toNat))])
 | _, _ => none
theorem y4 : aa 119 rE := by
 intro args sg pre x r he hp
 unfold rE at he
 split at he <;> cases he
 . exact DW (hp := hp) ..
theorem pow_b {b : Int} (h : b = 1 ∨ b = 8 ∨ b = 16 ∨ b = 32 ∨ b = 64) : (b = 1 ∧ dN b = 2 ∧ dN (b - 1) = 1) ∨ (b = 8 ∧ dN b = 256 ∧ dN (b - 1) = 128) ∨ (b = 16 ∧ dN b = 65536 ∧ dN (b - 1) = 32768) ∨ (b = 32 ∧ dN b = 4294967296 ∧ dN (b - 1) = 2147483648) ∨ (b = 64 ∧ dN b = 18446744073709551616 ∧ dN (b - 1) = 9223372036854775808) := by
 rcases h with rfl | rfl | rfl | rfl | rfl
 . exact .inl ⟨rfl, rfl, rfl⟩
 . exact .inr (.inl ⟨rfl, rfl, rfl⟩)
 . exact .inr (.inr (.inl ⟨rfl, rfl, rfl⟩))
 . exact .inr (.inr (.inr (.inl ⟨rfl, rfl, rfl⟩)))
 . exact .inr (.inr (.inr (.inr ⟨rfl, rfl, rfl⟩)))
theorem o3 (n : Int) (j : Nat) (hj : j ≤ 64) (h1 : 1 ≤ j) : iY .u64 (IntKind.u64.wrap n) (((2 ^ j - 1 : Nat)) : Int) = n % ((2 ^ j : Nat) : Int) := by
 have hw : IntKind.u64.wrap n = ((n % 18446744073709551616).toNat : Int) := by rw [eo]; omega
 have hp : 2 ^ j ≤ 2 ^ 64 := Nat.pow_le_pow_right (by decide) hj
 have hp0 : 0 < 2 ^ j := Nat.pow_pos (by decide)
 have hd : 2 ^ 64 = 2 ^ j * 2 ^ (64 - j) := by rw [← Nat.pow_add]; congr 1; omega
 rw [hw, AF .u64 j (n % 18446744073709551616).toNat (by show _ < 2 ^ 64; omega) (by show _ < 2 ^ 64; omega)
  (by have := Nat.mod_lt (n % 18446744073709551616).toNat hp0
      show (((n % 18446744073709551616).toNat % 2 ^ j : Nat) : Int) ≤ 18446744073709551615
      omega)
  (fun m h => by
   have h : (m : Int) ≤ 18446744073709551615 := h
   rw [eo]; omega)]
 have e : (18446744073709551616 : Int) = ((2 ^ j : Nat) : Int) * ((2 ^ (64 - j) : Nat) : Int) := by
  rw [← Int.natCast_mul, ← hd]; rfl
 rw [Int.natCast_emod, Int.toNat_of_nonneg (by omega), e]
 exact Int.emod_emod_of_dvd n (Int.dvd_mul_right ..)
theorem DU (n b : Int) (hp : b = 1 ∨ b = 8 ∨ b = 16 ∨ b = 32 ∨ b = 64) : OK 117 ([.int .i64 n, .int .i64 b]) ([]) (.tuple [.int .u64 (ib n b), .int .i64 (bJ n b)]) (none) := by
 refine ai (C := cx []) (aj trivial) (fn := Tryz.f117) rfl rfl rfl rfl fun hw hs => ?_
 have hn : -9223372036854775808 ≤ n ∧ n ≤ 9223372036854775807 := hw.1
 have hb := pow_b hp
 unfold ib bJ
 have hi : nZ n b = true ↔ (-dN (b - 1) ≤ n ∧ n < dN (b - 1)) := decide_eq_true_iff
 rcases hb with ⟨rfl, h1, h2⟩ | ⟨rfl, h1, h2⟩ | ⟨rfl, h1, h2⟩ | ⟨rfl, h1, h2⟩ | ⟨rfl, h1, h2⟩
 all_goals rw [h2] at hi
 . have m := o3 n 1 (by decide) (by decide)
   have mk : ba .u64 18446744073709551615 (IntKind.i64.wrap (64 - 1)) = ((2 ^ 1 - 1 : Nat) : Int) := by decide
   have hs : ba .i64 n (IntKind.i64.wrap (1 - 1)) = n / 1 := by show n.fdiv 1 = _; rw [Int.fdiv_eq_ediv_of_nonneg _ (by decide)]
   repeat' ((conv => whnf); first | apply a9 | apply aQ | (apply ao <;> intro h))
   all_goals try conv => whnf
   all_goals try (refine a8.mk ?_; try dsimp only)
   all_goals (try simp only [hs] at *)
   all_goals first | refine stay ?_ | trivial | skip
   all_goals first
    | (exfalso; omega)
    | rw [if_pos (hi.2 ⟨by omega, by omega⟩), if_pos (hi.2 ⟨by omega, by omega⟩), h1]
    | rw [if_neg (fun q => by have := hi.1 q; omega), if_neg (fun q => by have := hi.1 q; omega)]
   all_goals
    refine a7.mk [] ?_ <;> (repeat' first | trivial | apply ah | apply ax | apply cg | apply aX)
   all_goals (rw [mk, m]; rfl)
 . have m := o3 n 8 (by decide) (by decide)
   have mk : ba .u64 18446744073709551615 (IntKind.i64.wrap (64 - 8)) = ((2 ^ 8 - 1 : Nat) : Int) := by decide
   have hs : ba .i64 n (IntKind.i64.wrap (8 - 1)) = n / 128 := by show n.fdiv 128 = _; rw [Int.fdiv_eq_ediv_of_nonneg _ (by decide)]
   repeat' ((conv => whnf); first | apply a9 | apply aQ | (apply ao <;> intro h))
   all_goals try conv => whnf
   all_goals try (refine a8.mk ?_; try dsimp only)
   all_goals (try simp only [hs] at *)
   all_goals first | refine stay ?_ | trivial | skip
   all_goals first
    | (exfalso; omega)
    | rw [if_pos (hi.2 ⟨by omega, by omega⟩), if_pos (hi.2 ⟨by omega, by omega⟩), h1]
    | rw [if_neg (fun q => by have := hi.1 q; omega), if_neg (fun q => by have := hi.1 q; omega)]
   all_goals
    refine a7.mk [] ?_ <;> (repeat' first | trivial | apply ah | apply ax | apply cg | apply aX)
   all_goals (rw [mk, m]; rfl)
 . have m := o3 n 16 (by decide) (by decide)
   have mk : ba .u64 18446744073709551615 (IntKind.i64.wrap (64 - 16)) = ((2 ^ 16 - 1 : Nat) : Int) := by decide
   have hs : ba .i64 n (IntKind.i64.wrap (16 - 1)) = n / 32768 := by show n.fdiv 32768 = _; rw [Int.fdiv_eq_ediv_of_nonneg _ (by decide)]
   repeat' ((conv => whnf); first | apply a9 | apply aQ | (apply ao <;> intro h))
   all_goals try conv => whnf
   all_goals try (refine a8.mk ?_; try dsimp only)
   all_goals (try simp only [hs] at *)
   all_goals first | refine stay ?_ | trivial | skip
   all_goals first
    | (exfalso; omega)
    | rw [if_pos (hi.2 ⟨by omega, by omega⟩), if_pos (hi.2 ⟨by omega, by omega⟩), h1]
    | rw [if_neg (fun q => by have := hi.1 q; omega), if_neg (fun q => by have := hi.1 q; omega)]
   all_goals
    refine a7.mk [] ?_ <;> (repeat' first | trivial | apply ah | apply ax | apply cg | apply aX)
   all_goals (rw [mk, m]; rfl)
 . have m := o3 n 32 (by decide) (by decide)
   have mk : ba .u64 18446744073709551615 (IntKind.i64.wrap (64 - 32)) = ((2 ^ 32 - 1 : Nat) : Int) := by decide
   have hs : ba .i64 n (IntKind.i64.wrap (32 - 1)) = n / 2147483648 := by show n.fdiv 2147483648 = _; rw [Int.fdiv_eq_ediv_of_nonneg _ (by decide)]
   repeat' ((conv => whnf); first | apply a9 | apply aQ | (apply ao <;> intro h))
   all_goals try conv => whnf
   all_goals try (refine a8.mk ?_; try dsimp only)
   all_goals (try simp only [hs] at *)
   all_goals first | refine stay ?_ | trivial | skip
   all_goals first
    | (exfalso; omega)
    | rw [if_pos (hi.2 ⟨by omega, by omega⟩), if_pos (hi.2 ⟨by omega, by omega⟩), h1]
    | rw [if_neg (fun q => by have := hi.1 q; omega), if_neg (fun q => by have := hi.1 q; omega)]
   all_goals
    refine a7.mk [] ?_ <;> (repeat' first | trivial | apply ah | apply ax | apply cg | apply aX)
   all_goals (rw [mk, m]; rfl)
 . have m := o3 n 64 (by decide) (by decide)
   have mk : ba .u64 18446744073709551615 (IntKind.i64.wrap (64 - 64)) = ((2 ^ 64 - 1 : Nat) : Int) := by decide
   have hs : ba .i64 n (IntKind.i64.wrap (64 - 1)) = n / 9223372036854775808 := by show n.fdiv 9223372036854775808 = _; rw [Int.fdiv_eq_ediv_of_nonneg _ (by decide)]
   repeat' ((conv => whnf); first | apply a9 | apply aQ | (apply ao <;> intro h))
   all_goals try conv => whnf
   all_goals try (refine a8.mk ?_; try dsimp only)
   all_goals (try simp only [hs] at *)
   all_goals first | refine stay ?_ | trivial | skip
   all_goals first
    | (exfalso; omega)
    | rw [if_pos (hi.2 ⟨by omega, by omega⟩), if_pos (hi.2 ⟨by omega, by omega⟩), h1]
    | rw [if_neg (fun q => by have := hi.1 q; omega), if_neg (fun q => by have := hi.1 q; omega)]
   all_goals
    refine a7.mk [] ?_ <;> (repeat' first | trivial | apply ah | apply ax | apply cg | apply aX)
   all_goals (rw [mk, m]; rfl)
def rD : Sm := fun args σ => match args, σ with
 | [.int .i64 n, .int .i64 b], [] => some (b = 1 ∨ b = 8 ∨ b = 16 ∨ b = 32 ∨ b = 64, .tuple [.int .u64 (ib n b), .int .i64 (bJ n b)], none)
 | _, _ => none
theorem y3 : aa 117 rD := by
 intro args sg pre x r he hp
 unfold rD at he
 split at he <;> cases he
 . exact DU (hp := hp) ..
end Go.Proofs.YtipejldppicijaaGreatDoor
