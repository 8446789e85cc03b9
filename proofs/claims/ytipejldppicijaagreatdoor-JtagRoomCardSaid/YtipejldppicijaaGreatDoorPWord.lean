/-
  A part of the proof.
-/
import Derived.Test.YtipejldppicijaaGreatDoorPDec
import Derived.Test.YtipejldppicijaaGreatDoorTxt
set_option linter.unusedSimpArgs false
set_option linter.unusedVariables false
set_option maxHeartbeats 4000000
namespace Go.Proofs.YtipejldppicijaaGreatDoor
open Go Go.VG
set_option maxRecDepth 100000
theorem E3 (m : Int) (hm : 0 ≤ m ∧ m ≤ 1000) : OK 149 [.list true 0 [], .int .i64 m] [] (.buf 0) (some [.buf 1 0 []]) := by
 refine ai (C := cx []) (aj trivial) (fn := Tryz.f149) rfl rfl rfl rfl fun _ _ => ?_
 repeat' ((conv => whnf); apply a9)
 all_goals try conv => whnf
 all_goals try (refine a8.mk ?_; try dsimp only)
 all_goals first | refine stay ?_ | (simp (discharger := omega) [-List.getD_eq_getElem?_getD, wR] <;> omega) | skip
 refine a7.mk [] ?_ <;> (repeat' first | trivial)
def v8 : Sm := fun args σ => match args, σ with
 | [.list true _ [], .int .i64 m], [] => some (0 ≤ m ∧ m ≤ 1000, .buf 0, some [.buf 1 0 []])
 | _, _ => none
theorem FG : aa 149 v8 := by
 intro args sg pre x r he hp
 unfold v8 at he
 split at he <;> cases he
 exact (E3 _ hp).args (aC.cons (Wk.nil (.inl rfl)) (aC.refl _))
theorem AL (k u : Nat) : be (k + 1) u = be k (u / 256) ++ [.ofNat (u % 256)] := rfl
theorem BT (k u : Nat) (hk : k ≤ 1000) (hu : u < 18446744073709551616) : OK 145 [.int .u64 u, .int .i64 k] [] (.str (be k u)) none := by
 refine ai (C := cx []) (aj trivial) (fn := Tryz.f145) rfl rfl rfl rfl fun _ _ => ?_
 refine br.mk (Nat × Nat × List UInt8) (fun | (i, w, s) => i ≤ k ∧ s.length = i ∧ be k u = be (k - i) w ++ s ∧ w < 18446744073709551616)
  (fun | (i, w, s) => ⟨22, [(0, .int .u64 w), (1, .int .i64 k), (5, .str s), (6, .int .i64 i)], [], []⟩)
  (fun x => k - x.1) [] (0, u, []) (by simp; omega) ?_ (fun ⟨i, w, s⟩ ⟨hi, hs, he, hw⟩ _ _ => ?_)
 . refine Go.VG.Sub.mk rfl ?_ ?_ ?_ ?_ <;> (repeat' first | trivial)
 have hm : IntKind.u8.wrap ((w : Int).tmod 256) = ((w % 256 : Nat) : Int) := by (simp (discharger := omega) only [wR]; omega)
 have hd : IntKind.u64.wrap ((w : Int).tdiv 256) = ((w / 256 : Nat) : Int) := by (simp (discharger := omega) only [wR]; omega)
 repeat' ((conv => whnf); first | apply a9 | (apply ao <;> intro h) | apply ld)
 all_goals try conv => whnf
 all_goals try (refine a8.mk ?_; try dsimp only)
 all_goals first | refine stay ?_ | trivial | omega | (simp only [aV]; omega) | skip
 . have hk1 : k - i = k - (i + 1) + 1 := by omega
   rw [hk1, AL] at he
   refine ⟨[], (i + 1, w / 256, .ofNat (w % 256) :: s), ⟨by omega, by simp [hs], by rw [he]; simp, by omega⟩, ?_, by show k - (i + 1) < k - i; omega⟩
   refine Go.VG.Sub.mk rfl ?_ ?_ ?_ ?_ <;> (repeat' first | trivial | apply ah | apply b9 | apply ax | apply aX)
   . rw [hm]; rfl
   . (simp (discharger := omega) only [wR]; omega)
 . refine a7.mk [] ?_ <;> (repeat' first | trivial | apply ah | apply b9)
   rw [he, show k - i = 0 by omega]; rfl
def ua : Sm := fun args σ => match args, σ with
 | [.int .u64 u, .int .i64 k], [] => some ((0 ≤ u ∧ u ≤ 18446744073709551615) ∧ 0 ≤ k ∧ k ≤ 1000, .str (be k.toNat u.toNat), none)
 | _, _ => none
theorem EK : aa 145 ua := by
 intro args sg pre x r he hp
 unfold ua at he
 split at he <;> cases he
 obtain ⟨⟨h0, h1⟩, h2, h3⟩ := hp
 obtain ⟨m, rfl⟩ := Int.eq_ofNat_of_zero_le h0
 obtain ⟨k, rfl⟩ := Int.eq_ofNat_of_zero_le h2
 exact BT k m (by omega) (by omega)
theorem km (u b : Nat) (hb : b ≤ 64) : IntKind.u8.wrap (ba .u64 u b) = ((UInt8.ofNat (u / 2 ^ b % 256)).toNat : Int) := by
 rw [jQ, show min b IntKind.u64.bits = b from Nat.min_eq_left hb, iE, UInt8.toNat_ofNat']
 omega
set_option maxHeartbeats 2000000 in
theorem BU (u : Nat) (hu : u < 18446744073709551616) : OK 170 [.list true 0 [], .int .u64 u] [] (.buf 0) (some [.buf 1 0 (bl (be 8 u))]) := by
 refine ai (C := cx [(149, v8)]) (aj ⟨FG, trivial⟩) (fn := Tryz.f170) rfl rfl rfl rfl fun _ _ => ?_
 repeat' ((conv => whnf); apply a9)
 all_goals try conv => whnf
 all_goals try (refine a8.mk ?_; try dsimp only)
 all_goals first | refine stay ?_ | trivial | skip
 refine br.mk Nat (fun i => i ≤ 8) (fun i => ⟨23, [(1, .int .u64 u), (5, .buf 0), (9, .int .i64 i)], [.buf 1 0 (bl ((be 8 u).take i))], [0]⟩)
  (fun i => 8 - i) [] 0 (by omega) ?_ (fun i hi _ _ => ?_)
 . refine Go.VG.Sub.mk rfl ?_ ?_ ?_ ?_ <;> (repeat' first | trivial)
 have hx : i = 0 ∨ i = 1 ∨ i = 2 ∨ i = 3 ∨ i = 4 ∨ i = 5 ∨ i = 6 ∨ i = 7 ∨ i = 8 := by omega
 have e0 : IntKind.u8.wrap (ba .u64 u 56) = _ := km u 56 (by omega)
 have e1 : IntKind.u8.wrap (ba .u64 u 48) = _ := km u 48 (by omega)
 have e2 : IntKind.u8.wrap (ba .u64 u 40) = _ := km u 40 (by omega)
 have e3 : IntKind.u8.wrap (ba .u64 u 32) = _ := km u 32 (by omega)
 have e4 : IntKind.u8.wrap (ba .u64 u 24) = _ := km u 24 (by omega)
 have e5 : IntKind.u8.wrap (ba .u64 u 16) = _ := km u 16 (by omega)
 have e6 : IntKind.u8.wrap (ba .u64 u 8) = _ := km u 8 (by omega)
 have e7 : IntKind.u8.wrap (ba .u64 u 0) = _ := km u 0 (by omega)
 rcases hx with h | h | h | h | h | h | h | h | h <;> subst h
 . repeat' ((conv => whnf); apply a9)
   all_goals try conv => whnf
   all_goals try (refine a8.mk ?_; try dsimp only)
   all_goals first | refine stay ?_ | trivial | (simp only [aV]; omega) | skip
   . refine ⟨[], 1, by omega, ?_, by omega⟩
     refine Go.VG.Sub.mk rfl ?_ ?_ ?_ ?_ <;> (repeat' first | trivial | apply ah | apply ax | apply aG | apply aX)
     rw [e0] <;> simp [Nat.div_div_eq_div_mul]
 . repeat' ((conv => whnf); apply a9)
   all_goals try conv => whnf
   all_goals try (refine a8.mk ?_; try dsimp only)
   all_goals first | refine stay ?_ | trivial | (simp only [aV]; omega) | skip
   . refine ⟨[], 2, by omega, ?_, by omega⟩
     refine Go.VG.Sub.mk rfl ?_ ?_ ?_ ?_ <;> (repeat' first | trivial | apply ah | apply ax | apply aG | apply aX)
     rw [e1] <;> simp [Nat.div_div_eq_div_mul]
 . repeat' ((conv => whnf); apply a9)
   all_goals try conv => whnf
   all_goals try (refine a8.mk ?_; try dsimp only)
   all_goals first | refine stay ?_ | trivial | (simp only [aV]; omega) | skip
   . refine ⟨[], 3, by omega, ?_, by omega⟩
     refine Go.VG.Sub.mk rfl ?_ ?_ ?_ ?_ <;> (repeat' first | trivial | apply ah | apply ax | apply aG | apply aX)
     rw [e2] <;> simp [Nat.div_div_eq_div_mul]
 . repeat' ((conv => whnf); apply a9)
   all_goals try conv => whnf
   all_goals try (refine a8.mk ?_; try dsimp only)
   all_goals first | refine stay ?_ | trivial | (simp only [aV]; omega) | skip
   . refine ⟨[], 4, by omega, ?_, by omega⟩
     refine Go.VG.Sub.mk rfl ?_ ?_ ?_ ?_ <;> (repeat' first | trivial | apply ah | apply ax | apply aG | apply aX)
     rw [e3] <;> simp [Nat.div_div_eq_div_mul]
 . repeat' ((conv => whnf); apply a9)
   all_goals try conv => whnf
   all_goals try (refine a8.mk ?_; try dsimp only)
   all_goals first | refine stay ?_ | trivial | (simp only [aV]; omega) | skip
   . refine ⟨[], 5, by omega, ?_, by omega⟩
     refine Go.VG.Sub.mk rfl ?_ ?_ ?_ ?_ <;> (repeat' first | trivial | apply ah | apply ax | apply aG | apply aX)
     rw [e4] <;> simp [Nat.div_div_eq_div_mul]
 . repeat' ((conv => whnf); apply a9)
   all_goals try conv => whnf
   all_goals try (refine a8.mk ?_; try dsimp only)
   all_goals first | refine stay ?_ | trivial | (simp only [aV]; omega) | skip
   . refine ⟨[], 6, by omega, ?_, by omega⟩
     refine Go.VG.Sub.mk rfl ?_ ?_ ?_ ?_ <;> (repeat' first | trivial | apply ah | apply ax | apply aG | apply aX)
     rw [e5] <;> simp [Nat.div_div_eq_div_mul]
 . repeat' ((conv => whnf); apply a9)
   all_goals try conv => whnf
   all_goals try (refine a8.mk ?_; try dsimp only)
   all_goals first | refine stay ?_ | trivial | (simp only [aV]; omega) | skip
   . refine ⟨[], 7, by omega, ?_, by omega⟩
     refine Go.VG.Sub.mk rfl ?_ ?_ ?_ ?_ <;> (repeat' first | trivial | apply ah | apply ax | apply aG | apply aX)
 . repeat' ((conv => whnf); apply a9)
   all_goals try conv => whnf
   all_goals try (refine a8.mk ?_; try dsimp only)
   all_goals first | refine stay ?_ | trivial | (simp only [aV]; omega) | skip
   . refine ⟨[], 8, by omega, ?_, by omega⟩
     refine Go.VG.Sub.mk rfl ?_ ?_ ?_ ?_ <;> (repeat' first | trivial | apply ah | apply ax | apply aG | apply aX)
     rw [e7] <;> simp
 . all_goals try conv => whnf
   all_goals try (refine a8.mk ?_; try dsimp only)
   all_goals try refine stay ?_
   refine a7.mk [] ?_ <;> (repeat' first | trivial)
def ub : Sm := fun args σ => match args, σ with
 | [.list true _ [], .int .u64 u], [] => some (0 ≤ u ∧ u ≤ 18446744073709551615, .buf 0, some [.buf 1 0 (bl (be 8 u.toNat))])
 | _, _ => none
theorem EL : aa 170 ub := by
 intro args sg pre x r he hp
 unfold ub at he
 split at he <;> cases he
 obtain ⟨h0, h1⟩ := hp
 obtain ⟨m, rfl⟩ := Int.eq_ofNat_of_zero_le h0
 exact (BU m (by omega)).args (aC.cons (Wk.nil (.inl rfl)) (aC.refl _))
theorem CN (u : Int) (hu : 0 ≤ u ∧ u ≤ 18446744073709551615) : OK 156 [.int .u64 u] [] (.str (iL u)) none := by
 refine ai (C := cx [(170, ub), (157, px)]) (aj ⟨EL, ta, trivial⟩) (fn := Tryz.f156) rfl rfl rfl rfl fun _ _ => ?_
 repeat' ((conv => whnf); first | apply a9 | apply ig)
 all_goals try conv => whnf
 all_goals try (refine a8.mk ?_; try dsimp only)
 all_goals first | refine stay ?_ | trivial | (simp (discharger := omega) [-List.getD_eq_getElem?_getD, wR] <;> omega) | skip
 refine a7.mk [] ?_ <;> (repeat' first | trivial)
def uz : Sm := fun args σ => match args, σ with
 | [.int .u64 u], [] => some (0 ≤ u ∧ u ≤ 18446744073709551615, .str (iL u), none)
 | _, _ => none
theorem F2 : aa 156 uz := by
 intro args sg pre x r he hp
 unfold uz at he
 split at he <;> cases he
 exact CN _ hp
end Go.Proofs.YtipejldppicijaaGreatDoor
