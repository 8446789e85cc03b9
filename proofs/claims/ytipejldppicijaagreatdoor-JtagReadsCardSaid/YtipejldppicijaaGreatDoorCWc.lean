/-
  A part of the proof.
-/
import Derived.Test.YtipejldppicijaaGreatDoorCWb
set_option linter.unusedSimpArgs false
set_option linter.unusedVariables false
set_option maxHeartbeats 4000000
namespace Go.Proofs.YtipejldppicijaaGreatDoor
open Go Go.VG
set_option maxRecDepth 100000
def dH (k : UInt8) : Bool := decide (1 ≤ k.toNat ∧ k.toNat ≤ 12)
def l5 (last id : Int) (k : UInt8) : List UInt8 :=
 if ¬ (1 ≤ k.toNat ∧ k.toNat ≤ 12) ∨ id < -32768 ∨ id > 32767 then []
 else if last ≥ -32768 ∧ last < id ∧ id - last ≤ 15 then [byte (16 * (id - last) + k.toNat)]
 else k :: cg (iA id)
def l6 (n : Int) (k : UInt8) : List UInt8 :=
 if ¬ (1 ≤ k.toNat ∧ k.toNat ≤ 12) ∨ n < 0 ∨ n > 2147483647 then []
 else if n < 15 then [byte (16 * n + k.toNat)]
 else byte (240 + k.toNat) :: cg n.toNat
theorem bJ {k : UInt8} : dH k = true ↔ (1 ≤ k.toNat ∧ k.toNat ≤ 12) := decide_eq_true_iff
def fH (a b : UInt8) : Bool := decide (a.toNat = b.toNat ∨ ((1 ≤ a.toNat ∧ a.toNat ≤ 2) ∧ 1 ≤ b.toNat ∧ b.toNat ≤ 2))
theorem BF (k : UInt8) (hp : True) : OK 65 ([bv k]) ([]) (.bool (dH k)) (none) := by
 refine ah (C := cx []) (ai trivial) (fn := Tryz.f65) rfl rfl rfl rfl fun hw hs => ?_
 have hk : k.toNat < 256 := k.toNat_lt
 repeat' ((conv => whnf); (apply ae <;> intro h))
 all_goals try conv => whnf
 all_goals try (refine a7.mk ?_; try dsimp only)
 all_goals try refine stay ?_
 all_goals first
  | exact ⟨by omega, by omega⟩
  | (show a6 _ _ _ _ _ _
     refine a6.mk [] ?_ <;> (repeat' first | trivial | apply ak | apply cQ)
    )
 all_goals (try simp only [cond_true, cond_false])
 all_goals first
  | (rw [Bool.eq_iff_iff]; simp only [dH, fH, decide_eq_true_iff, beq_iff_eq, reduceCtorEq, true_iff, false_iff, iff_true, iff_false]; omega)
def la : Sm := fun args σ => match args, σ with
 | [.int .u8 n_k], [] => some ((0 ≤ n_k ∧ n_k ≤ 255) ∧ (True), .bool (dH (byte n_k)), none)
 | _, _ => none
theorem ny : a9 65 la := by
 intro args sg pre x r he hp
 unfold la at he
 split at he <;> cases he
 . rw [mQ (hp).1]; exact BF (hp := hp.2) ..
theorem CP (k : UInt8) (hp : True) : OK 75 ([bv k]) ([]) (.bool (dH k)) (none) := by
 refine ah (C := cx []) (ai trivial) (fn := Tryz.f75) rfl rfl rfl rfl fun hw hs => ?_
 have hk : k.toNat < 256 := k.toNat_lt
 repeat' ((conv => whnf); (apply ae <;> intro h))
 all_goals try conv => whnf
 all_goals try (refine a7.mk ?_; try dsimp only)
 all_goals try refine stay ?_
 all_goals first
  | exact ⟨by omega, by omega⟩
  | (show a6 _ _ _ _ _ _
     refine a6.mk [] ?_ <;> (repeat' first | trivial | apply ak | apply cQ)
    )
 all_goals (try simp only [cond_true, cond_false])
 all_goals first
  | (rw [Bool.eq_iff_iff]; simp only [dH, fH, decide_eq_true_iff, beq_iff_eq, reduceCtorEq, true_iff, false_iff, iff_true, iff_false]; omega)
def lj : Sm := fun args σ => match args, σ with
 | [.int .u8 n_k], [] => some ((0 ≤ n_k ∧ n_k ≤ 255) ∧ (True), .bool (dH (byte n_k)), none)
 | _, _ => none
theorem nD : a9 75 lj := by
 intro args sg pre x r he hp
 unfold lj at he
 split at he <;> cases he
 . rw [mQ (hp).1]; exact CP (hp := hp.2) ..
theorem CT (n : Int) (hp : True) : OK 79 ([.int .i64 n]) ([]) (.bool (decide (-32768 ≤ n ∧ n ≤ 32767))) (none) := by
 refine ah (C := cx []) (ai trivial) (fn := Tryz.f79) rfl rfl rfl rfl fun hw hs => ?_
 repeat' ((conv => whnf); (apply ae <;> intro h))
 all_goals try conv => whnf
 all_goals try (refine a7.mk ?_; try dsimp only)
 all_goals try refine stay ?_
 all_goals first
  | exact ⟨by omega, by omega⟩
  | (show a6 _ _ _ _ _ _
     refine a6.mk [] ?_ <;> (repeat' first | trivial | apply ak | apply cQ)
    )
 all_goals (try simp only [cond_true, cond_false])
 all_goals first
  | (rw [Bool.eq_iff_iff]; simp only [dH, fH, decide_eq_true_iff, beq_iff_eq, reduceCtorEq, true_iff, false_iff, iff_true, iff_false]; omega)
def u5 : Sm := fun args σ => match args, σ with
 | [.int .i64 n], [] => some (True, .bool (decide (-32768 ≤ n ∧ n ≤ 32767)), none)
 | _, _ => none
theorem EP : a9 79 u5 := by
 intro args sg pre x r he hp
 unfold u5 at he
 split at he <;> cases he
 . exact CT (hp := hp) ..
theorem BO (a b : UInt8) (hp : True) : OK 62 ([bv a, bv b]) ([]) (.bool (fH a b)) (none) := by
 refine ah (C := cx []) (ai trivial) (fn := Tryz.f62) rfl rfl rfl rfl fun hw hs => ?_
 have hk : a.toNat < 256 := a.toNat_lt
 have hk2 : b.toNat < 256 := b.toNat_lt
 repeat' ((conv => whnf); (apply ae <;> intro h))
 all_goals try conv => whnf
 all_goals try (refine a7.mk ?_; try dsimp only)
 all_goals try refine stay ?_
 all_goals first
  | exact ⟨by omega, by omega⟩
  | (show a6 _ _ _ _ _ _
     refine a6.mk [] ?_ <;> (repeat' first | trivial | apply ak | apply cQ)
    )
 all_goals (try simp only [cond_true, cond_false])
 all_goals first
  | (rw [Bool.eq_iff_iff]; simp only [dH, fH, decide_eq_true_iff, beq_iff_eq, reduceCtorEq, true_iff, false_iff, iff_true, iff_false]; omega)
def lf : Sm := fun args σ => match args, σ with
 | [.int .u8 n_a, .int .u8 n_b], [] => some ((0 ≤ n_b ∧ n_b ≤ 255) ∧ ((0 ≤ n_a ∧ n_a ≤ 255) ∧ (True)), .bool (fH (byte n_a) (byte n_b)), none)
 | _, _ => none
theorem nA : a9 62 lf := by
 intro args sg pre x r he hp
 unfold lf at he
 split at he <;> cases he
 . rw [mQ (hp).1]; rw [mQ (hp.2).1]; exact BO (hp := hp.2.2) ..
theorem Ec : ∀ s : Nat, s < 16 → ∀ k : Nat, k < 13 → i4 .u8 (i5 .u8 (s : Int) 4) k = ((16 * s + k : Nat) : Int) := by decide
theorem E8 : ∀ k : Nat, k < 13 → i4 .u8 240 k = ((240 + k : Nat) : Int) := by decide
theorem wH {d e : Int} {k : Nat} (he : d = e) (h : 0 ≤ e ∧ e < 16) (hk : k ≤ 12) : i4 .u8 (i5 .u8 (IntKind.u8.wrap d) 4) (k : Int) = ((byte (16 * e + k)).toNat : Int) := by
 subst he
 obtain ⟨n, rfl⟩ := Int.eq_ofNat_of_zero_le h.1
 rw [show IntKind.u8.wrap (n : Int) = n by rw [je]; omega, Ec n (by omega) k (by omega), cq (by omega)]
 omega
theorem E9 {k : Nat} (hk : k ≤ 12) : i4 .u8 240 (k : Int) = ((byte (240 + k)).toNat : Int) := by
 rw [E8 k (by omega), cq (by omega)]; omega
theorem BM (l : List V) (last id : Int) (k : UInt8) (hp : l.length ≤ 1900000000) : OK 133 ([.buf 0, .int .i64 last, .int .i64 id, bv k]) ([.buf 1 0 l]) (.buf 1) (some [.buf 1 0 l, .buf 1 0 (l ++ bl (l5 last id k)), .dead]) := by
 refine ah (C := cx [(65, la), (118, qN), (116, mK)]) (ai ⟨ny, xD, pM, trivial⟩) (fn := Tryz.f133) rfl rfl rfl rfl fun hw hs => ?_
 have hk : k.toNat < 256 := k.toNat_lt
 have hkk : byte k.toNat = k := rF _
 have hi : -9223372036854775808 ≤ id ∧ id ≤ 9223372036854775807 := hw.2.2.1
 have hla : -9223372036854775808 ≤ last ∧ last ≤ 9223372036854775807 := hw.2.1
 have hq : -32768 ≤ id → -32768 ≤ last → id ≤ 32767 → last < id → IntKind.i64.wrap (id - last) = id - last := fun _ _ _ _ => by (simp (discharger := omega) only [wR]; omega)
 have hz := re (n := id) hw.2.2.1
 repeat' ((conv => whnf); first | apply ab | apply ax | (apply ae <;> intro h))
 all_goals try conv => whnf
 all_goals try (refine a7.mk ?_; try dsimp only)
 all_goals (try simp only [hkk] at *)
 all_goals first | refine stay ?_ | trivial | (simp only [fX]; omega) | (simp (discharger := omega) [-List.getD_eq_getElem?_getD, wR] <;> omega) | skip
 all_goals first
  | exact ⟨by omega, by simp; omega⟩
  | skip
 all_goals
  try have hq := hq (by omega) (by omega) (by omega) (by omega)
  unfold l5
  repeat (first | rw [if_pos (by omega)] | rw [if_neg (by omega)])
 all_goals first
  | (show a6 _ _ _ _ _ _
     refine a6.mk [.tm 10 1] ?_ <;> (repeat' first | trivial | apply ak | apply bI)
     all_goals first
      | (simp [bl]; done)
      | (rw [wH (d := IntKind.i64.wrap (id - last)) (e := id - last) hq (by omega) (by omega)]; simp [bl, bv]; done)
     done)
  | (show a6 _ _ _ _ _ _
     refine a6.mk [.swap 1 2] ?_ <;> (repeat' first | trivial | apply ak | apply bI)
     all_goals (simp [bl, bv]; done)
     done)
  | skip
def qi : Sm := fun args σ => match args, σ with
 | [.buf 0, .int .i64 last, .int .i64 id, .int .u8 n_k], [.buf 1 0 l] => some ((0 ≤ n_k ∧ n_k ≤ 255) ∧ (l.length ≤ 1900000000), .buf 1, some [.buf 1 0 l, .buf 1 0 (l ++ bl (l5 last id (byte n_k))), .dead])
 | _, _ => none
theorem wX : a9 133 qi := by
 intro args sg pre x r he hp
 unfold qi at he
 split at he <;> cases he
 . rw [mQ (hp).1]; exact BM (hp := hp.2) ..
theorem BN (c : Bool) (n : Int) (k : UInt8) (hp : True) : OK 134 ([.list c 0 [], .int .i64 n, bv k]) ([]) (.buf 0) (some [.buf 1 0 (bl (l6 n k))]) := by
 refine ah (C := cx [(65, la), (116, mK)]) (ai ⟨ny, pM, trivial⟩) (fn := Tryz.f134) rfl rfl rfl rfl fun hw hs => ?_
 have hk : k.toNat < 256 := k.toNat_lt
 have hkk : byte k.toNat = k := rF _
 repeat' ((conv => whnf); first | apply ab | apply ax | (apply ae <;> intro h))
 all_goals try conv => whnf
 all_goals try (refine a7.mk ?_; try dsimp only)
 all_goals (try simp only [hkk] at *)
 all_goals first | refine stay ?_ | trivial | (simp only [fX]; omega) | (simp (discharger := omega) [-List.getD_eq_getElem?_getD, wR] <;> omega) | skip
 all_goals first
  | (show a6 _ _ _ _ _ _
     unfold l6
     repeat (first | rw [if_pos (by omega)] | rw [if_neg (by omega)])
    )
  | (refine ⟨by omega, ?_⟩; simp; done)
 . refine a6.mk [] ?_ <;> (repeat' first | trivial)
 . refine a6.mk [] ?_ <;> (repeat' first | trivial)
 . refine a6.mk [] ?_ <;> (repeat' first | trivial | apply ak | apply az | apply bI | apply bo)
   rw [wH (d := n) (e := n) rfl (by omega) (by omega)]
 . refine a6.mk [.swap 0 1] ?_ <;> (repeat' first | trivial | apply ak | apply az | apply bI | apply bo)
   . rw [E9 (by omega)]
   . rw [show IntKind.u64.wrap n = n by (simp (discharger := omega) only [wR]; omega)]; rfl
 . refine a6.mk [] ?_ <;> (repeat' first | trivial)
def tH : Sm := fun args σ => match args, σ with
 | [.list c 0 [], .int .i64 n, .int .u8 n_k], [] => some ((0 ≤ n_k ∧ n_k ≤ 255) ∧ (True), .buf 0, some [.buf 1 0 (bl (l6 n (byte n_k)))])
 | _, _ => none
theorem Eu : a9 134 tH := by
 intro args sg pre x r he hp
 unfold tH at he
 split at he <;> cases he
 . rw [mQ (hp).1]; exact BN (hp := hp.2) ..
end Go.Proofs.YtipejldppicijaaGreatDoor
