/-
  A part of the proof.
-/
import Derived.Test.YtipejldppicijaaGreatDoorCWb
set_option linter.unusedSimpArgs false
set_option linter.unusedVariables false
set_option maxHeartbeats 4000000
namespace Go.Proofs.YtipejldppicijaaGreatDoor
open Go Go.VG
set_option maxRecDepth 100000
def il (k : UInt8) : Bool := decide (1 ≤ k.toNat ∧ k.toNat ≤ 12)
def bQ (last id : Int) (k : UInt8) : List UInt8 :=
 if ¬ (1 ≤ k.toNat ∧ k.toNat ≤ 12) ∨ id < -32768 ∨ id > 32767 then []
 else if last ≥ -32768 ∧ last < id ∧ id - last ≤ 15 then [byte (16 * (id - last) + k.toNat)]
 else k :: aY (fj id)
def lB (n : Int) (k : UInt8) : List UInt8 :=
 if ¬ (1 ≤ k.toNat ∧ k.toNat ≤ 12) ∨ n < 0 ∨ n > 2147483647 then []
 else if n < 15 then [byte (16 * n + k.toNat)]
 else byte (240 + k.toNat) :: aY n.toNat
theorem eO {k : UInt8} : il k = true ↔ (1 ≤ k.toNat ∧ k.toNat ≤ 12) := decide_eq_true_iff
def gY (a b : UInt8) : Bool := decide (a.toNat = b.toNat ∨ ((1 ≤ a.toNat ∧ a.toNat ≤ 2) ∧ 1 ≤ b.toNat ∧ b.toNat ≤ 2))
theorem C8 (k : UInt8) (hp : True) : OK 65 ([bv k]) ([]) (.bool (il k)) (none) := by
 refine ai (C := cx []) (aj trivial) (fn := Tryz.f65) rfl rfl rfl rfl fun hw hs => ?_
 have hk : k.toNat < 256 := k.toNat_lt
 repeat' ((conv => whnf); (apply ao <;> intro h))
 all_goals try conv => whnf
 all_goals try (refine a8.mk ?_; try dsimp only)
 all_goals try refine stay ?_
 all_goals first
  | exact ⟨by omega, by omega⟩
  | (show a7 _ _ _ _ _ _
     refine a7.mk [] ?_ <;> (repeat' first | trivial | apply ah | apply ct)
    )
 all_goals (try simp only [cond_true, cond_false])
 all_goals first
  | (rw [Bool.eq_iff_iff]; simp only [il, gY, decide_eq_true_iff, beq_iff_eq, reduceCtorEq, true_iff, false_iff, iff_true, iff_false]; omega)
def lJ : Sm := fun args σ => match args, σ with
 | [.int .u8 n_k], [] => some ((0 ≤ n_k ∧ n_k ≤ 255) ∧ (True), .bool (il (byte n_k)), none)
 | _, _ => none
theorem oa : aa 65 lJ := by
 intro args sg pre x r he hp
 unfold lJ at he
 split at he <;> cases he
 . rw [pI (hp).1]; exact C8 (hp := hp.2) ..
def IX : Sm := fun args σ => match args, σ with
 | [.int .i64 n], [] => some (True, .bool (decide (-32768 ≤ n ∧ n ≤ 32767)), none)
 | _, _ => none
theorem Ch (a b : UInt8) (hp : True) : OK 62 ([bv a, bv b]) ([]) (.bool (gY a b)) (none) := by
 refine ai (C := cx []) (aj trivial) (fn := Tryz.f62) rfl rfl rfl rfl fun hw hs => ?_
 have hk : a.toNat < 256 := a.toNat_lt
 have hk2 : b.toNat < 256 := b.toNat_lt
 repeat' ((conv => whnf); (apply ao <;> intro h))
 all_goals try conv => whnf
 all_goals try (refine a8.mk ?_; try dsimp only)
 all_goals try refine stay ?_
 all_goals first
  | exact ⟨by omega, by omega⟩
  | (show a7 _ _ _ _ _ _
     refine a7.mk [] ?_ <;> (repeat' first | trivial | apply ah | apply ct)
    )
 all_goals (try simp only [cond_true, cond_false])
 all_goals first
  | (rw [Bool.eq_iff_iff]; simp only [il, gY, decide_eq_true_iff, beq_iff_eq, reduceCtorEq, true_iff, false_iff, iff_true, iff_false]; omega)
def lL : Sm := fun args σ => match args, σ with
 | [.int .u8 n_a, .int .u8 n_b], [] => some ((0 ≤ n_b ∧ n_b ≤ 255) ∧ ((0 ≤ n_a ∧ n_a ≤ 255) ∧ (True)), .bool (gY (byte n_a) (byte n_b)), none)
 | _, _ => none
theorem od : aa 62 lL := by
 intro args sg pre x r he hp
 unfold lL at he
 split at he <;> cases he
 . rw [pI (hp).1]; rw [pI (hp.2).1]; exact Ch (hp := hp.2.2) ..
theorem EA : ∀ s : Nat, s < 16 → ∀ k : Nat, k < 13 → ij .u8 (ik .u8 (s : Int) 4) k = ((16 * s + k : Nat) : Int) := by decide
theorem Ey : ∀ k : Nat, k < 13 → ij .u8 240 k = ((240 + k : Nat) : Int) := by decide
theorem xj {d e : Int} {k : Nat} (he : d = e) (h : 0 ≤ e ∧ e < 16) (hk : k ≤ 12) : ij .u8 (ik .u8 (IntKind.u8.wrap d) 4) (k : Int) = ((byte (16 * e + k)).toNat : Int) := by
 subst he
 obtain ⟨n, rfl⟩ := Int.eq_ofNat_of_zero_le h.1
 rw [show IntKind.u8.wrap (n : Int) = n by rw [iE]; omega, EA n (by omega) k (by omega), dc (by omega)]
 omega
theorem Ez {k : Nat} (hk : k ≤ 12) : ij .u8 240 (k : Int) = ((byte (240 + k)).toNat : Int) := by
 rw [Ey k (by omega), dc (by omega)]; omega
theorem Cf (l : List V) (last id : Int) (k : UInt8) (hp : l.length ≤ 1900000000) : OK 133 ([.buf 0, .int .i64 last, .int .i64 id, bv k]) ([.buf 1 0 l]) (.buf 1) (some [.buf 1 0 l, .buf 1 0 (l ++ bl (bQ last id k)), .dead]) := by
 refine ai (C := cx [(65, lJ), (118, rG), (116, np)]) (aj ⟨oa, y6, qF, trivial⟩) (fn := Tryz.f133) rfl rfl rfl rfl fun hw hs => ?_
 have hk : k.toNat < 256 := k.toNat_lt
 have hkk : byte k.toNat = k := sk _
 have hi : -9223372036854775808 ≤ id ∧ id ≤ 9223372036854775807 := hw.2.2.1
 have hla : -9223372036854775808 ≤ last ∧ last ≤ 9223372036854775807 := hw.2.1
 have hq : -32768 ≤ id → -32768 ≤ last → id ≤ 32767 → last < id → IntKind.i64.wrap (id - last) = id - last := fun _ _ _ _ => by (simp (discharger := omega) only [wR]; omega)
 have hz := nA (n := id) hw.2.2.1
 repeat' ((conv => whnf); first | apply a9 | apply aQ | (apply ao <;> intro h))
 all_goals try conv => whnf
 all_goals try (refine a8.mk ?_; try dsimp only)
 all_goals (try simp only [hkk] at *)
 all_goals first | refine stay ?_ | trivial | (simp only [aV]; omega) | (simp (discharger := omega) [-List.getD_eq_getElem?_getD, wR] <;> omega) | skip
 all_goals first
  | exact ⟨by omega, by simp; omega⟩
  | skip
 all_goals
  try have hq := hq (by omega) (by omega) (by omega) (by omega)
  unfold bQ
  repeat (first | rw [if_pos (by omega)] | rw [if_neg (by omega)])
 all_goals first
  | (show a7 _ _ _ _ _ _
     refine a7.mk [.tm 10 1] ?_ <;> (repeat' first | trivial | apply ah | apply aG)
     all_goals first
      | (simp [bl]; done)
      | (rw [xj (d := IntKind.i64.wrap (id - last)) (e := id - last) hq (by omega) (by omega)]; simp [bl, bv]; done)
     done)
  | (show a7 _ _ _ _ _ _
     refine a7.mk [.swap 1 2] ?_ <;> (repeat' first | trivial | apply ah | apply aG)
     all_goals (simp [bl, bv]; done)
     done)
  | skip
def rf : Sm := fun args σ => match args, σ with
 | [.buf 0, .int .i64 last, .int .i64 id, .int .u8 n_k], [.buf 1 0 l] => some ((0 ≤ n_k ∧ n_k ≤ 255) ∧ (l.length ≤ 1900000000), .buf 1, some [.buf 1 0 l, .buf 1 0 (l ++ bl (bQ last id (byte n_k))), .dead])
 | _, _ => none
theorem xJ : aa 133 rf := by
 intro args sg pre x r he hp
 unfold rf at he
 split at he <;> cases he
 . rw [pI (hp).1]; exact Cf (hp := hp.2) ..
theorem Cg (c : Bool) (n : Int) (k : UInt8) (hp : True) : OK 134 ([.list c 0 [], .int .i64 n, bv k]) ([]) (.buf 0) (some [.buf 1 0 (bl (lB n k))]) := by
 refine ai (C := cx [(65, lJ), (116, np)]) (aj ⟨oa, qF, trivial⟩) (fn := Tryz.f134) rfl rfl rfl rfl fun hw hs => ?_
 have hk : k.toNat < 256 := k.toNat_lt
 have hkk : byte k.toNat = k := sk _
 repeat' ((conv => whnf); first | apply a9 | apply aQ | (apply ao <;> intro h))
 all_goals try conv => whnf
 all_goals try (refine a8.mk ?_; try dsimp only)
 all_goals (try simp only [hkk] at *)
 all_goals first | refine stay ?_ | trivial | (simp only [aV]; omega) | (simp (discharger := omega) [-List.getD_eq_getElem?_getD, wR] <;> omega) | skip
 all_goals first
  | (show a7 _ _ _ _ _ _
     unfold lB
     repeat (first | rw [if_pos (by omega)] | rw [if_neg (by omega)])
    )
  | (refine ⟨by omega, ?_⟩; simp; done)
 . refine a7.mk [] ?_ <;> (repeat' first | trivial)
 . refine a7.mk [] ?_ <;> (repeat' first | trivial)
 . refine a7.mk [] ?_ <;> (repeat' first | trivial | apply ah | apply ax | apply aG | apply aX)
   rw [xj (d := n) (e := n) rfl (by omega) (by omega)]
 . refine a7.mk [.swap 0 1] ?_ <;> (repeat' first | trivial | apply ah | apply ax | apply aG | apply aX)
   . rw [Ez (by omega)]
   . rw [show IntKind.u64.wrap n = n by (simp (discharger := omega) only [wR]; omega)]; rfl
 . refine a7.mk [] ?_ <;> (repeat' first | trivial)
def ur : Sm := fun args σ => match args, σ with
 | [.list c 0 [], .int .i64 n, .int .u8 n_k], [] => some ((0 ≤ n_k ∧ n_k ≤ 255) ∧ (True), .buf 0, some [.buf 1 0 (bl (lB n (byte n_k)))])
 | _, _ => none
theorem EX : aa 134 ur := by
 intro args sg pre x r he hp
 unfold ur at he
 split at he <;> cases he
 . rw [pI (hp).1]; exact Cg (hp := hp.2) ..
end Go.Proofs.YtipejldppicijaaGreatDoor
