/-
  A part of the proof.
-/
import Derived.Test.YtipejldppicijaaGreatDoorCVd
set_option linter.unusedSimpArgs false
set_option linter.unusedVariables false
set_option maxHeartbeats 4000000
namespace Go.Proofs.YtipejldppicijaaGreatDoor
open Go Go.VG
set_option maxRecDepth 100000
def rW (u : Nat) : Int := if u ≥ 128 then (u : Int) - 256 else u
theorem IM : ∀ n : Nat, n < 256 → ba .i64 (IntKind.i64.wrap (ik .u64 (n : Int) 56)) 56 = rW n := by decide
def Cu.dF (c : Cu) (b : Int) : Int × Cu :=
 if c.aK.2.c ≠ 0 then (0, c.aK.2) else if bJ (fL c.aK.1) b ≠ 0 then (0, c.aK.2.fail 4) else (fL c.aK.1, c.aK.2)
def lC (k : Nat) (q : Int) (c : Cu) : List UInt8 := if (aW k q c).c ≠ 0 then [] else (c.s.take (aW k q c).p).drop c.p
def c8 (k : Nat) (f : Fd) (c : Cu) : Fd × Cu :=
 if f.k = 1 then ({ f with num := IntKind.i64.wrap (f.num + 1) }, c) else if f.k = 2 then (f, c)
 else if f.k = 3 then ({ f with num := rW c.aL.toNat }, c.byte) else if f.k = 4 then ({ f with num := (c.dF 16).1 }, (c.dF 16).2)
 else if f.k = 5 then ({ f with num := (c.dF 32).1 }, (c.dF 32).2) else if f.k = 6 then ({ f with num := (c.dF 64).1 }, (c.dF 64).2)
 else if f.k = 7 then ({ f with bits := c.mX.1 }, c.mX.2) else if f.k = 8 then ({ f with text := c.text.1 }, c.text.2)
 else ({ f with raw := lC k f.k c }, aW k f.k c)
theorem Ei (n b : Int) : bJ n b = 0 ∨ bJ n b = 4 := by unfold bJ; split <;> simp
theorem Ee {c : Cu} (h : ¬ c.c = 0) (k : Int) : c.fail k = c := by unfold Cu.fail; rw [if_neg h]
theorem Kp.dF {c : Cu} (h : c.ok) (b : Int) : Kp c (c.dF b).2 := by
 have hv := Kp.aK h
 unfold Cu.dF
 repeat' split
 . exact hv
 . exact hv.trans (Kp.fail hv.1 4)
 . exact hv
theorem Kp.c8 {c : Cu} (h : c.ok) (k : Nat) (f : Fd) : Kp c (c8 k f c).2 := by
 unfold Go.Proofs.YtipejldppicijaaGreatDoor.c8
 repeat' split
 . exact Kp.rfl h
 . exact Kp.rfl h
 . exact Kp.pass h 1
 . exact Kp.dF h 16
 . exact Kp.dF h 32
 . exact Kp.dF h 64
 . exact Kp.pass h 8
 . exact Kp.text h
 . exact pd k _ c h
theorem DX (q : Int) (hp : 0 ≤ q ∧ q < 256) : OK 69 ([.int .u64 q, .int .i64 8]) ([]) (.int .i64 (rW q.toNat)) (none) := by
 refine ai (C := cx []) (aj trivial) (fn := Tryz.f69) rfl rfl rfl rfl fun hw hs => ?_
 have h := IM q.toNat (by omega)
 rw [Int.toNat_of_nonneg hp.1] at h
 repeat' ((conv => whnf); apply a9)
 all_goals try conv => whnf
 all_goals try (refine a8.mk ?_; try dsimp only)
 all_goals first | refine stay ?_ | trivial | skip
 refine a7.mk [] ?_ <;> (repeat' first | trivial | apply ah | apply ax)
 all_goals
  rw [show IntKind.i64.wrap (64 - 8) = 56 by decide]
  exact h
def v7 : Sm := fun args σ => match args, σ with
 | [.int .u64 q, .int .i64 8], [] => some (0 ≤ q ∧ q < 256, .int .i64 (rW q.toNat), none)
 | _, _ => none
theorem FF : aa 69 v7 := by
 intro args sg pre x r he hp
 unfold v7 at he
 split at he <;> cases he
 . exact DX (hp := hp) ..
theorem Dm (s : List UInt8) (c : Cu) (b : Int) (hp : c.ok ∧ (b = 16 ∨ b = 32 ∨ b = 64)) : OK 70 ([.ptr 0 0, .int .i64 b]) ([.cells [.str s, .ptr 1 0], .cells (eC c)]) (.int .i64 (c.dF b).1) (some [.cells [.str s, .ptr 1 0], .cells (eC (c.dF b).2)]) := by
 refine ai (C := cx [(68, jh), (67, rF), (117, rD), (66, ff), (35, fK)]) (aj ⟨lp, y5, y3, fY, gu, trivial⟩) (fn := Tryz.f70) rfl rfl rfl rfl fun hw hs => ?_
 obtain ⟨hp, hb⟩ := hp
 have h1 := @pK c
 have h2 := IQ h1
 have h4 := Ei (fL c.aK.1) b
 repeat' ((conv => whnf); first | apply a9 | apply aQ | (apply ao <;> intro h))
 all_goals try conv => whnf
 all_goals try (refine a8.mk ?_; try dsimp only)
 all_goals (try simp only [Int.toNat_natCast] at *)
 all_goals (try simp only [bM] at *)
 all_goals first | refine stay ?_ | trivial | omega | skip
 . unfold Cu.dF
   rw [if_neg (by omega), if_neg (by omega)]
   refine a7.mk [] ?_ <;> (repeat' first | trivial)
 . unfold Cu.dF
   rw [if_pos (by omega)]
   refine a7.mk [] ?_ <;> (repeat' first | trivial)
 . exfalso; exact mz (c := c.aK.2) (k := bJ (fL c.aK.1) b) (by assumption) (by assumption)
 . have e4 : bJ (fL c.aK.1) b = 4 := by omega
   unfold Cu.dF
   rw [e4]
   by_cases q : c.aK.2.c = 0
   . rw [if_neg (by omega), if_pos (by decide)]
     refine a7.mk [] ?_ <;> (repeat' first | trivial)
   . rw [if_pos q, Ee q]
     refine a7.mk [] ?_ <;> (repeat' first | trivial)
def uP : Sm := fun args σ => match args, σ with
 | [.ptr 0 0, .int .i64 b], [.cells [.str s, .ptr 1 0], .cells ([.str s_c, .int .i64 (.ofNat a_c), .int .i64 (.ofNat e_c), .int .i64 c_c])] => some (True ∧ ((Cu.mk s_c a_c e_c c_c).ok ∧ (b = 16 ∨ b = 32 ∨ b = 64)), .int .i64 ((Cu.mk s_c a_c e_c c_c).dF b).1, some [.cells [.str s, .ptr 1 0], .cells (eC ((Cu.mk s_c a_c e_c c_c).dF b).2)])
 | _, _ => none
theorem Fh : aa 70 uP := by
 intro args sg pre x r he hp
 unfold uP at he
 split at he <;> cases he
 . rw [bG (hp).1]; exact Dm (hp := hp.2) ..
theorem Dp (k : Nat) (hv : aa 125 (pC k)) (s : List UInt8) (c : Cu) (q d : Int) (hp : c.ok ∧ c.s.length ≤ 9223372036854775807 ∧ d + k = 32 ∧ c.s = s) : OK 73 ([.ptr 0 0, .int .u8 q, .int .i64 d]) ([.cells [.str s, .ptr 1 0], .cells (eC c)]) (.str (lC k q c)) (some [.cells [.str s, .ptr 1 0], .cells (eC (aW k q c))]) := by
 refine ai (C := cx [(36, rb), (125, (pC k)), (35, fK)]) (aj ⟨xH, hv, gu, trivial⟩) (fn := Tryz.f73) rfl rfl rfl rfl fun hw hs => ?_
 obtain ⟨h1, h2, h3, rfl⟩ := hp
 have hk := pd k q c h1
 have q1 := hk.1.1
 have q2 := hk.1.2
 have q3 := hk.2.2.2
 have q4 := hk.2.1
 repeat' ((conv => whnf); first | apply a9 | apply aQ | (apply ao <;> intro h))
 all_goals try conv => whnf
 all_goals try (refine a8.mk ?_; try dsimp only)
 all_goals (try simp only [bM] at *)
 all_goals first | refine stay ?_ | trivial | skip
 all_goals first
  | exact ⟨by omega, by omega, by rw [q4] at q2; omega⟩
  | exact ⟨trivial, h1, h2, h3⟩
  | exact ⟨h1, h2, h3⟩
  | skip
 . unfold lC
   rw [if_neg (by omega)]
   refine a7.mk [] ?_ <;> (repeat' first | trivial)
 . unfold lC
   rw [if_pos (by assumption)]
   refine a7.mk [] ?_ <;> (repeat' first | trivial)
def pA (k : Nat) : Sm := fun args σ => match args, σ with
 | [.ptr 0 0, .int .u8 q, .int .i64 d], [.cells [.str s, .ptr 1 0], .cells ([.str s_c, .int .i64 (.ofNat a_c), .int .i64 (.ofNat e_c), .int .i64 c_c])] => some (True ∧ ((Cu.mk s_c a_c e_c c_c).ok ∧ (Cu.mk s_c a_c e_c c_c).s.length ≤ 9223372036854775807 ∧ d + k = 32 ∧ (Cu.mk s_c a_c e_c c_c).s = s), .str (lC k q (Cu.mk s_c a_c e_c c_c)), some [.cells [.str s, .ptr 1 0], .cells (eC (aW k q (Cu.mk s_c a_c e_c c_c)))])
 | _, _ => none
theorem Fi (k : Nat) (hv : aa 125 (pC k)) : aa 73 (pA k) := by
 intro args sg pre x r he hp
 unfold pA at he
 split at he <;> cases he
 . rw [bG (hp).1]; exact Dp (hv := hv) (hp := hp.2) ..
theorem Dt (k : Nat) (hr : aa 73 (pA k)) (s : List UInt8) (f : Fd) (d : Int) (c : Cu) (hp : c.ok ∧ c.s.length ≤ 9223372036854775807 ∧ d + k = 32 ∧ c.s = s) : OK 34 ([.ptr 0 0, .ptr 1 0, .int .i64 d]) ([.cells [.str s, .ptr 2 0], .cells (gO f), .cells (eC c)]) (.tuple []) (some [.cells [.str s, .ptr 2 0], .cells (gO (c8 k f c).1), .cells (eC (c8 k f c).2)]) := by
 refine ai (C := cx [(64, hC), (69, v7), (70, uP), (71, uO), (72, uQ), (73, (pA k))]) (aj ⟨iZ, FF, Fh, Fg, Fj, hr, trivial⟩) (fn := Tryz.f34) rfl rfl rfl rfl fun hw hs => ?_
 obtain ⟨h1, h2, h3, rfl⟩ := hp
 have h256 := c.aL.toNat_lt
 have hwb : IntKind.u64.wrap (c.aL.toNat : Int) = (c.aL.toNat : Int) := by rw [eo]; omega
 repeat' ((conv => whnf); first | apply a9 | (apply ao <;> intro h))
 all_goals try conv => whnf
 all_goals try (refine a8.mk ?_; try dsimp only)
 all_goals (try simp only [hwb] at *)
 all_goals (try simp only [bM] at *)
 all_goals first | refine stay ?_ | trivial | omega | skip
 all_goals first
  | exact ⟨trivial, h1, h2, h3, rfl⟩
  | exact ⟨trivial, h1, .inl rfl⟩
  | exact ⟨trivial, h1, .inr (.inl rfl)⟩
  | exact ⟨trivial, h1, .inr (.inr rfl)⟩
  | exact ⟨trivial, h1, h2⟩
  | exact ⟨trivial, h1⟩
  | exact ⟨by omega, by omega⟩
  | (exfalso; omega)
  | skip
 all_goals
  try simp only [Int.toNat_natCast]
  have he : c8 k f c = c8 k f c := rfl
  conv at he => rhs; unfold c8
  repeat (first | rw [if_pos (by first | assumption | omega)] at he | rw [if_neg (by first | assumption | omega)] at he)
  rw [he]
  refine a7.mk [] ?_ <;> (repeat' first | trivial)
def nm (k : Nat) : Sm := fun args σ => match args, σ with
 | [.ptr 0 0, .ptr 1 0, .int .i64 d], [.cells [.str s, .ptr 2 0], .cells ([.int .i64 i_f, .int .u8 k_f, .int .i64 n_f, .int .u64 b_f, .str t_f, .str r_f]), .cells ([.str s_c, .int .i64 (.ofNat a_c), .int .i64 (.ofNat e_c), .int .i64 c_c])] => some (True ∧ (True ∧ ((Cu.mk s_c a_c e_c c_c).ok ∧ (Cu.mk s_c a_c e_c c_c).s.length ≤ 9223372036854775807 ∧ d + k = 32 ∧ (Cu.mk s_c a_c e_c c_c).s = s)), .tuple [], some [.cells [.str s, .ptr 2 0], .cells (gO (c8 k (Fd.mk i_f k_f n_f b_f t_f r_f) (Cu.mk s_c a_c e_c c_c)).1), .cells (eC (c8 k (Fd.mk i_f k_f n_f b_f t_f r_f) (Cu.mk s_c a_c e_c c_c)).2)])
 | _, _ => none
theorem Fl (k : Nat) (hr : aa 73 (pA k)) : aa 34 (nm k) := by
 intro args sg pre x r he hp
 unfold nm at he
 split at he <;> cases he
 . rw [bG (hp).1]; rw [Ak (hp.2).1]; exact Dt (hr := hr) (hp := hp.2.2) ..
end Go.Proofs.YtipejldppicijaaGreatDoor
