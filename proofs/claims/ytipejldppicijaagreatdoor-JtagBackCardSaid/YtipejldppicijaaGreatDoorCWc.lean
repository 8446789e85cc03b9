/-
  A part of the proof.
-/
import Derived.Test.YtipejldppicijaaGreatDoorCWb
set_option linter.unusedSimpArgs false
set_option linter.unusedVariables false
set_option maxHeartbeats 4000000
namespace Go.Proofs.YtipejldppicijaaGreatDoor
open Go Go.VG
set_option maxRecDepth 100000
def fp (k : UInt8) : Bool := decide (1 ≤ k.toNat ∧ k.toNat ≤ 12)
def b6 (last id : Int) (k : UInt8) : List UInt8 :=
 if ¬ (1 ≤ k.toNat ∧ k.toNat ≤ 12) ∨ id < -32768 ∨ id > 32767 then []
 else if last ≥ -32768 ∧ last < id ∧ id - last ≤ 15 then [byte (16 * (id - last) + k.toNat)]
 else k :: aF (cA id)
def c9 (n : Int) (k : UInt8) : List UInt8 :=
 if ¬ (1 ≤ k.toNat ∧ k.toNat ≤ 12) ∨ n < 0 ∨ n > 2147483647 then []
 else if n < 15 then [byte (16 * n + k.toNat)]
 else byte (240 + k.toNat) :: aF n.toNat
theorem eD {k : UInt8} : fp k = true ↔ (1 ≤ k.toNat ∧ k.toNat ≤ 12) := decide_eq_true_iff
def eS (a b : UInt8) : Bool := decide (a.toNat = b.toNat ∨ ((1 ≤ a.toNat ∧ a.toNat ≤ 2) ∧ 1 ≤ b.toNat ∧ b.toNat ≤ 2))
theorem FN (k : UInt8) (hp : True) : OK 65 ([bv k]) ([]) (.bool (fp k)) (none) := by
 refine af (C := cx []) (ah trivial) (fn := Tryz.f65) rfl rfl rfl rfl fun hw hs => ?_
 have hk : k.toNat < 256 := k.toNat_lt
 repeat' ((conv => whnf); (apply al <;> intro h))
 all_goals try conv => whnf
 all_goals try (refine a8.mk ?_; try dsimp only)
 all_goals try refine stay ?_
 all_goals first
  | exact ⟨by omega, by omega⟩
  | (show a7 _ _ _ _ _ _
     refine a7.mk [] ?_ <;> (repeat' first | trivial | apply ab | apply bX)
    )
 all_goals (try simp only [cond_true, cond_false])
 all_goals first
  | (rw [Bool.eq_iff_iff]; simp only [fp, eS, decide_eq_true_iff, beq_iff_eq, reduceCtorEq, true_iff, false_iff, iff_true, iff_false]; omega)
def mO : Sm := fun args σ => match args, σ with
 | [.int .u8 n_k], [] => some ((0 ≤ n_k ∧ n_k ≤ 255) ∧ (True), .bool (fp (byte n_k)), none)
 | _, _ => none
theorem pI : aa 65 mO := by
 intro args sg pre x r he hp
 unfold mO at he
 split at he <;> cases he
 . rw [jt (hp).1]; exact FN (hp := hp.2) ..
theorem Ha (k : UInt8) (hp : True) : OK 75 ([bv k]) ([]) (.bool (fp k)) (none) := by
 refine af (C := cx []) (ah trivial) (fn := Tryz.f75) rfl rfl rfl rfl fun hw hs => ?_
 have hk : k.toNat < 256 := k.toNat_lt
 repeat' ((conv => whnf); (apply al <;> intro h))
 all_goals try conv => whnf
 all_goals try (refine a8.mk ?_; try dsimp only)
 all_goals try refine stay ?_
 all_goals first
  | exact ⟨by omega, by omega⟩
  | (show a7 _ _ _ _ _ _
     refine a7.mk [] ?_ <;> (repeat' first | trivial | apply ab | apply bX)
    )
 all_goals (try simp only [cond_true, cond_false])
 all_goals first
  | (rw [Bool.eq_iff_iff]; simp only [fp, eS, decide_eq_true_iff, beq_iff_eq, reduceCtorEq, true_iff, false_iff, iff_true, iff_false]; omega)
def tu : Sm := fun args σ => match args, σ with
 | [.int .u8 n_k], [] => some ((0 ≤ n_k ∧ n_k ≤ 255) ∧ (True), .bool (fp (byte n_k)), none)
 | _, _ => none
theorem AH : aa 75 tu := by
 intro args sg pre x r he hp
 unfold tu at he
 split at he <;> cases he
 . rw [jt (hp).1]; exact Ha (hp := hp.2) ..
theorem He (n : Int) (hp : True) : OK 79 ([.int .i64 n]) ([]) (.bool (decide (-32768 ≤ n ∧ n ≤ 32767))) (none) := by
 refine af (C := cx []) (ah trivial) (fn := Tryz.f79) rfl rfl rfl rfl fun hw hs => ?_
 repeat' ((conv => whnf); (apply al <;> intro h))
 all_goals try conv => whnf
 all_goals try (refine a8.mk ?_; try dsimp only)
 all_goals try refine stay ?_
 all_goals first
  | exact ⟨by omega, by omega⟩
  | (show a7 _ _ _ _ _ _
     refine a7.mk [] ?_ <;> (repeat' first | trivial | apply ab | apply bX)
    )
 all_goals (try simp only [cond_true, cond_false])
 all_goals first
  | (rw [Bool.eq_iff_iff]; simp only [fp, eS, decide_eq_true_iff, beq_iff_eq, reduceCtorEq, true_iff, false_iff, iff_true, iff_false]; omega)
def xf : Sm := fun args σ => match args, σ with
 | [.int .i64 n], [] => some (True, .bool (decide (-32768 ≤ n ∧ n ≤ 32767)), none)
 | _, _ => none
theorem Jj : aa 79 xf := by
 intro args sg pre x r he hp
 unfold xf at he
 split at he <;> cases he
 . exact He (hp := hp) ..
theorem Hd (k : Int) (hp : True) : OK 137 ([.int .u8 k]) ([]) (.str [byte k]) (none) := by
 refine af (C := cx []) (ah trivial) (fn := Tryz.f137) rfl rfl rfl rfl fun hw hs => ?_
 repeat' ((conv => whnf); apply i6)
 all_goals try conv => whnf
 all_goals try (refine a8.mk ?_; try dsimp only)
 all_goals try refine stay ?_
 all_goals first
  | (show a7 _ _ _ _ _ _
     refine a7.mk [] ?_ <;> (repeat' first | trivial)
    )
  | exact hw.1
def tw : Sm := fun args σ => match args, σ with
 | [.int .u8 k], [] => some (True, .str [byte k], none)
 | _, _ => none
theorem AJ : aa 137 tw := by
 intro args sg pre x r he hp
 unfold tw at he
 split at he <;> cases he
 . exact Hd (hp := hp) ..
theorem FX (a b : UInt8) (hp : True) : OK 62 ([bv a, bv b]) ([]) (.bool (eS a b)) (none) := by
 refine af (C := cx []) (ah trivial) (fn := Tryz.f62) rfl rfl rfl rfl fun hw hs => ?_
 have hk : a.toNat < 256 := a.toNat_lt
 have hk2 : b.toNat < 256 := b.toNat_lt
 repeat' ((conv => whnf); (apply al <;> intro h))
 all_goals try conv => whnf
 all_goals try (refine a8.mk ?_; try dsimp only)
 all_goals try refine stay ?_
 all_goals first
  | exact ⟨by omega, by omega⟩
  | (show a7 _ _ _ _ _ _
     refine a7.mk [] ?_ <;> (repeat' first | trivial | apply ab | apply bX)
    )
 all_goals (try simp only [cond_true, cond_false])
 all_goals first
  | (rw [Bool.eq_iff_iff]; simp only [fp, eS, decide_eq_true_iff, beq_iff_eq, reduceCtorEq, true_iff, false_iff, iff_true, iff_false]; omega)
def mQ : Sm := fun args σ => match args, σ with
 | [.int .u8 n_a, .int .u8 n_b], [] => some ((0 ≤ n_b ∧ n_b ≤ 255) ∧ ((0 ≤ n_a ∧ n_a ≤ 255) ∧ (True)), .bool (eS (byte n_a) (byte n_b)), none)
 | _, _ => none
theorem pK : aa 62 mQ := by
 intro args sg pre x r he hp
 unfold mQ at he
 split at he <;> cases he
 . rw [jt (hp).1]; rw [jt (hp.2).1]; exact FX (hp := hp.2.2) ..
theorem Ho (a b : UInt8) (hp : True) : OK 108 ([bv a, bv b]) ([]) (.bool (eS a b)) (none) := by
 refine af (C := cx []) (ah trivial) (fn := Tryz.f108) rfl rfl rfl rfl fun hw hs => ?_
 have hk : a.toNat < 256 := a.toNat_lt
 have hk2 : b.toNat < 256 := b.toNat_lt
 repeat' ((conv => whnf); (apply al <;> intro h))
 all_goals try conv => whnf
 all_goals try (refine a8.mk ?_; try dsimp only)
 all_goals try refine stay ?_
 all_goals first
  | exact ⟨by omega, by omega⟩
  | (show a7 _ _ _ _ _ _
     refine a7.mk [] ?_ <;> (repeat' first | trivial | apply ab | apply bX)
    )
 all_goals (try simp only [cond_true, cond_false])
 all_goals first
  | (rw [Bool.eq_iff_iff]; simp only [fp, eS, decide_eq_true_iff, beq_iff_eq, reduceCtorEq, true_iff, false_iff, iff_true, iff_false]; omega)
def xn : Sm := fun args σ => match args, σ with
 | [.int .u8 n_a, .int .u8 n_b], [] => some ((0 ≤ n_b ∧ n_b ≤ 255) ∧ ((0 ≤ n_a ∧ n_a ≤ 255) ∧ (True)), .bool (eS (byte n_a) (byte n_b)), none)
 | _, _ => none
theorem Jr : aa 108 xn := by
 intro args sg pre x r he hp
 unfold xn at he
 split at he <;> cases he
 . rw [jt (hp).1]; rw [jt (hp.2).1]; exact Ho (hp := hp.2.2) ..
theorem IE : ∀ s : Nat, s < 16 → ∀ k : Nat, k < 13 → jf .u8 (jg .u8 (s : Int) 4) k = ((16 * s + k : Nat) : Int) := by decide
theorem IC : ∀ k : Nat, k < 13 → jf .u8 240 k = ((240 + k : Nat) : Int) := by decide
theorem zP {d e : Int} {k : Nat} (he : d = e) (h : 0 ≤ e ∧ e < 16) (hk : k ≤ 12) : jf .u8 (jg .u8 (IntKind.u8.wrap d) 4) (k : Int) = ((byte (16 * e + k)).toNat : Int) := by
 subst he
 obtain ⟨n, rfl⟩ := Int.eq_ofNat_of_zero_le h.1
 rw [show IntKind.u8.wrap (n : Int) = n by rw [iZ]; omega, IE n (by omega) k (by omega), cE (by omega)]
 omega
theorem ID {k : Nat} (hk : k ≤ 12) : jf .u8 240 (k : Int) = ((byte (240 + k)).toNat : Int) := by
 rw [IC k (by omega), cE (by omega)]; omega
theorem FV (l : List V) (last id : Int) (k : UInt8) (hp : l.length ≤ 1900000000) : OK 133 ([.buf 0, .int .i64 last, .int .i64 id, bv k]) ([.buf 1 0 l]) (.buf 1) (some [.buf 1 0 l, .buf 1 0 (l ++ bl (b6 last id k)), .dead]) := by
 refine af (C := cx [(65, mO), (118, tO), (116, oE)]) (ah ⟨pI, B0, s6, trivial⟩) (fn := Tryz.f133) rfl rfl rfl rfl fun hw hs => ?_
 have hk : k.toNat < 256 := k.toNat_lt
 have hkk : byte k.toNat = k := m5 _
 have hi : -9223372036854775808 ≤ id ∧ id ≤ 9223372036854775807 := hw.2.2.1
 have hla : -9223372036854775808 ≤ last ∧ last ≤ 9223372036854775807 := hw.2.1
 have hq : -32768 ≤ id → -32768 ≤ last → id ≤ 32767 → last < id → IntKind.i64.wrap (id - last) = id - last := fun _ _ _ _ => by (simp (discharger := omega) only [wR]; omega)
 have hz := iz (n := id) hw.2.2.1
 repeat' ((conv => whnf); first | apply a9 | apply aJ | (apply al <;> intro h))
 all_goals try conv => whnf
 all_goals try (refine a8.mk ?_; try dsimp only)
 all_goals (try simp only [hkk] at *)
 all_goals first | refine stay ?_ | trivial | (simp only [aW]; omega) | (simp (discharger := omega) [-List.getD_eq_getElem?_getD, wR] <;> omega) | skip
 all_goals first
  | exact ⟨by omega, by simp; omega⟩
  | skip
 all_goals
  try have hq := hq (by omega) (by omega) (by omega) (by omega)
  unfold b6
  repeat (first | rw [if_pos (by omega)] | rw [if_neg (by omega)])
 all_goals first
  | (show a7 _ _ _ _ _ _
     refine a7.mk [.tm 10 1] ?_ <;> (repeat' first | trivial | apply ab | apply aE)
     all_goals first
      | (simp [bl]; done)
      | (rw [zP (d := IntKind.i64.wrap (id - last)) (e := id - last) hq (by omega) (by omega)]; simp [bl, bv]; done)
     done)
  | (show a7 _ _ _ _ _ _
     refine a7.mk [.swap 1 2] ?_ <;> (repeat' first | trivial | apply ab | apply aE)
     all_goals (simp [bl, bv]; done)
     done)
  | skip
def sT : Sm := fun args σ => match args, σ with
 | [.buf 0, .int .i64 last, .int .i64 id, .int .u8 n_k], [.buf 1 0 l] => some ((0 ≤ n_k ∧ n_k ≤ 255) ∧ (l.length ≤ 1900000000), .buf 1, some [.buf 1 0 l, .buf 1 0 (l ++ bl (b6 last id (byte n_k))), .dead])
 | _, _ => none
theorem An : aa 133 sT := by
 intro args sg pre x r he hp
 unfold sT at he
 split at he <;> cases he
 . rw [jt (hp).1]; exact FV (hp := hp.2) ..
theorem FW (c : Bool) (n : Int) (k : UInt8) (hp : True) : OK 134 ([.list c 0 [], .int .i64 n, bv k]) ([]) (.buf 0) (some [.buf 1 0 (bl (c9 n k))]) := by
 refine af (C := cx [(65, mO), (116, oE)]) (ah ⟨pI, s6, trivial⟩) (fn := Tryz.f134) rfl rfl rfl rfl fun hw hs => ?_
 have hk : k.toNat < 256 := k.toNat_lt
 have hkk : byte k.toNat = k := m5 _
 repeat' ((conv => whnf); first | apply a9 | apply aJ | (apply al <;> intro h))
 all_goals try conv => whnf
 all_goals try (refine a8.mk ?_; try dsimp only)
 all_goals (try simp only [hkk] at *)
 all_goals first | refine stay ?_ | trivial | (simp only [aW]; omega) | (simp (discharger := omega) [-List.getD_eq_getElem?_getD, wR] <;> omega) | skip
 all_goals first
  | (show a7 _ _ _ _ _ _
     unfold c9
     repeat (first | rw [if_pos (by omega)] | rw [if_neg (by omega)])
    )
  | (refine ⟨by omega, ?_⟩; simp; done)
 . refine a7.mk [] ?_ <;> (repeat' first | trivial)
 . refine a7.mk [] ?_ <;> (repeat' first | trivial)
 . refine a7.mk [] ?_ <;> (repeat' first | trivial | apply ab | apply au | apply aE | apply aM)
   rw [zP (d := n) (e := n) rfl (by omega) (by omega)]
 . refine a7.mk [.swap 0 1] ?_ <;> (repeat' first | trivial | apply ab | apply au | apply aE | apply aM)
   . rw [ID (by omega)]
   . rw [show IntKind.u64.wrap n = n by (simp (discharger := omega) only [wR]; omega)]; rfl
 . refine a7.mk [] ?_ <;> (repeat' first | trivial)
def wL : Sm := fun args σ => match args, σ with
 | [.list c 0 [], .int .i64 n, .int .u8 n_k], [] => some ((0 ≤ n_k ∧ n_k ≤ 255) ∧ (True), .buf 0, some [.buf 1 0 (bl (c9 n (byte n_k)))])
 | _, _ => none
theorem J0 : aa 134 wL := by
 intro args sg pre x r he hp
 unfold wL at he
 split at he <;> cases he
 . rw [jt (hp).1]; exact FW (hp := hp.2) ..
theorem Hc (n : Int) (k : UInt8) (hp : True) : OK 135 ([.int .i64 n, bv k]) ([]) (.str (c9 n k)) (none) := by
 refine af (C := cx [(75, tu), (137, tw), (138, qS)]) (ah ⟨AH, AJ, vt, trivial⟩) (fn := Tryz.f135) rfl rfl rfl rfl fun hw hs => ?_
 have hk : k.toNat < 256 := k.toNat_lt
 have hkk : byte k.toNat = k := m5 _
 have hv := fun h => dM (u := (IntKind.u64.wrap n).toNat) h
 repeat' ((conv => whnf); first | apply a9 | apply aJ | (apply al <;> intro h))
 all_goals try conv => whnf
 all_goals try (refine a8.mk ?_; try dsimp only)
 all_goals (try simp only [hkk] at *)
 all_goals first | refine stay ?_ | (simp (discharger := omega) only [wR]; omega) | (simp (discharger := omega) [-List.getD_eq_getElem?_getD, wR] <;> omega) | skip
 all_goals first
  | (show a7 _ _ _ _ _ _
     unfold c9
     repeat (first | rw [if_pos (by omega)] | rw [if_neg (by omega)])
    )
  | exact ⟨by omega, by omega⟩
  | (have hv := hv (by (simp (discharger := omega) only [wR]; omega))
     rw [List.length_singleton]; omega)
 . refine a7.mk [] ?_ <;> (repeat' first | trivial)
 . refine a7.mk [] ?_ <;> (repeat' first | trivial)
 . refine a7.mk [] ?_ <;> (repeat' first | trivial | apply ab | apply aV | apply aM)
   rw [show IntKind.u8.wrap (IntKind.u8.wrap (IntKind.i64.wrap (16 * n)) + (k.toNat : Int)) = 16 * n + k.toNat by (simp (discharger := omega) only [wR]; omega)]
 . refine a7.mk [] ?_ <;> (repeat' first | trivial | apply ab | apply aV | apply aM)
   . rw [show IntKind.u8.wrap (240 + (k.toNat : Int)) = 240 + k.toNat by (simp (discharger := omega) only [wR]; omega)]
   . rw [show IntKind.u64.wrap n = n by (simp (discharger := omega) only [wR]; omega)]; rfl
 . refine a7.mk [] ?_ <;> (repeat' first | trivial)
def tv : Sm := fun args σ => match args, σ with
 | [.int .i64 n, .int .u8 n_k], [] => some ((0 ≤ n_k ∧ n_k ≤ 255) ∧ (True), .str (c9 n (byte n_k)), none)
 | _, _ => none
theorem AI : aa 135 tv := by
 intro args sg pre x r he hp
 unfold tv at he
 split at he <;> cases he
 . rw [jt (hp).1]; exact Hc (hp := hp.2) ..
end Go.Proofs.YtipejldppicijaaGreatDoor
