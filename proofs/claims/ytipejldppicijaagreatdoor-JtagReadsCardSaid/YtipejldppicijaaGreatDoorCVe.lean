/-
  A part of the proof.
-/
import Derived.Test.YtipejldppicijaaGreatDoorCVd
set_option linter.unusedSimpArgs false
set_option linter.unusedVariables false
set_option maxHeartbeats 4000000
namespace Go.Proofs.YtipejldppicijaaGreatDoor
open Go Go.VG
set_option maxRecDepth 100000
def lq (u : Nat) : Int := if u ≥ 128 then (u : Int) - 256 else u
theorem HG : ∀ n : Nat, n < 256 → cB .i64 (IntKind.i64.wrap (i5 .u64 (n : Int) 56)) 56 = lq n := by decide
def Cu.cU (c : Cu) (b : Int) : Int × Cu :=
 if c.av.2.c ≠ 0 then (0, c.av.2) else if b7 (db c.av.1) b ≠ 0 then (0, c.av.2.fail 4) else (db c.av.1, c.av.2)
def j5 (k : Nat) (q : Int) (c : Cu) : List UInt8 := if (aE k q c).c ≠ 0 then [] else (c.s.take (aE k q c).p).drop c.p
def bO (k : Nat) (f : Fd) (c : Cu) : Fd × Cu :=
 if f.k = 1 then ({ f with num := IntKind.i64.wrap (f.num + 1) }, c) else if f.k = 2 then (f, c)
 else if f.k = 3 then ({ f with num := lq c.ao.toNat }, c.byte) else if f.k = 4 then ({ f with num := (c.cU 16).1 }, (c.cU 16).2)
 else if f.k = 5 then ({ f with num := (c.cU 32).1 }, (c.cU 32).2) else if f.k = 6 then ({ f with num := (c.cU 64).1 }, (c.cU 64).2)
 else if f.k = 7 then ({ f with bits := c.mi.1 }, c.mi.2) else if f.k = 8 then ({ f with text := c.text.1 }, c.text.2)
 else ({ f with raw := j5 k f.k c }, aE k f.k c)
theorem wm (n b : Int) : b7 n b = 0 ∨ b7 n b = 4 := by unfold b7; split <;> simp
theorem DR {c : Cu} (h : ¬ c.c = 0) (k : Int) : c.fail k = c := by unfold Cu.fail; rw [if_neg h]
theorem Kp.cU {c : Cu} (h : c.ok) (b : Int) : Kp c (c.cU b).2 := by
 have hv := Kp.av h
 unfold Cu.cU
 repeat' split
 . exact hv
 . exact hv.trans (Kp.fail hv.1 4)
 . exact hv
theorem Kp.bO {c : Cu} (h : c.ok) (k : Nat) (f : Fd) : Kp c (bO k f c).2 := by
 unfold Go.Proofs.YtipejldppicijaaGreatDoor.bO
 repeat' split
 . exact Kp.rfl h
 . exact Kp.rfl h
 . exact Kp.pass h 1
 . exact Kp.cU h 16
 . exact Kp.cU h 32
 . exact Kp.cU h 64
 . exact Kp.pass h 8
 . exact Kp.text h
 . exact j7 k _ c h
theorem DG (q : Int) (hp : 0 ≤ q ∧ q < 256) : OK 69 ([.int .u64 q, .int .i64 8]) ([]) (.int .i64 (lq q.toNat)) (none) := by
 refine ah (C := cx []) (ai trivial) (fn := Tryz.f69) rfl rfl rfl rfl fun hw hs => ?_
 have h := HG q.toNat (by omega)
 rw [Int.toNat_of_nonneg hp.1] at h
 repeat' ((conv => whnf); apply ab)
 all_goals try conv => whnf
 all_goals try (refine a7.mk ?_; try dsimp only)
 all_goals first | refine stay ?_ | trivial | skip
 refine a6.mk [] ?_ <;> (repeat' first | trivial | apply ak | apply az)
 all_goals
  rw [show IntKind.i64.wrap (64 - 8) = 56 by decide]
  exact h
def ud : Sm := fun args σ => match args, σ with
 | [.int .u64 q, .int .i64 8], [] => some (0 ≤ q ∧ q < 256, .int .i64 (lq q.toNat), none)
 | _, _ => none
theorem Fb : a9 69 ud := by
 intro args sg pre x r he hp
 unfold ud at he
 split at he <;> cases he
 . exact DG (hp := hp) ..
theorem D8 (s : List UInt8) (c : Cu) (b : Int) (hp : c.ok ∧ (b = 16 ∨ b = 32 ∨ b = 64)) : OK 70 ([.ptr 0 0, .int .i64 b]) ([.cells [.str s, .ptr 1 0], .cells (eC c)]) (.int .i64 (c.cU b).1) (some [.cells [.str s, .ptr 1 0], .cells (eC (c.cU b).2)]) := by
 refine ah (C := cx [(68, jb), (67, qM), (117, qL), (66, eZ), (35, fJ)]) (ai ⟨kT, xC, xB, fW, gj, trivial⟩) (fn := Tryz.f70) rfl rfl rfl rfl fun hw hs => ?_
 obtain ⟨hp, hb⟩ := hp
 have h1 := @mR c
 have h2 := HK h1
 have h4 := wm (db c.av.1) b
 repeat' ((conv => whnf); first | apply ab | apply ax | (apply ae <;> intro h))
 all_goals try conv => whnf
 all_goals try (refine a7.mk ?_; try dsimp only)
 all_goals (try simp only [Int.toNat_natCast] at *)
 all_goals (try simp only [aU] at *)
 all_goals first | refine stay ?_ | trivial | omega | skip
 . unfold Cu.cU
   rw [if_neg (by omega), if_neg (by omega)]
   refine a6.mk [] ?_ <;> (repeat' first | trivial)
 . unfold Cu.cU
   rw [if_pos (by omega)]
   refine a6.mk [] ?_ <;> (repeat' first | trivial)
 . exfalso; exact kK (c := c.av.2) (k := b7 (db c.av.1) b) (by assumption) (by assumption)
 . have e4 : b7 (db c.av.1) b = 4 := by omega
   unfold Cu.cU
   rw [e4]
   by_cases q : c.av.2.c = 0
   . rw [if_neg (by omega), if_pos (by decide)]
     refine a6.mk [] ?_ <;> (repeat' first | trivial)
   . rw [if_pos q, DR q]
     refine a6.mk [] ?_ <;> (repeat' first | trivial)
def u7 : Sm := fun args σ => match args, σ with
 | [.ptr 0 0, .int .i64 b], [.cells [.str s, .ptr 1 0], .cells ([.str s_c, .int .i64 (.ofNat a_c), .int .i64 (.ofNat e_c), .int .i64 c_c])] => some (True ∧ ((Cu.mk s_c a_c e_c c_c).ok ∧ (b = 16 ∨ b = 32 ∨ b = 64)), .int .i64 ((Cu.mk s_c a_c e_c c_c).cU b).1, some [.cells [.str s, .ptr 1 0], .cells (eC ((Cu.mk s_c a_c e_c c_c).cU b).2)])
 | _, _ => none
theorem EW : a9 70 u7 := by
 intro args sg pre x r he hp
 unfold u7 at he
 split at he <;> cases he
 . rw [bP (hp).1]; exact D8 (hp := hp.2) ..
theorem Da (k : Nat) (hv : a9 125 (oC k)) (s : List UInt8) (c : Cu) (q d : Int) (hp : c.ok ∧ c.s.length ≤ 9223372036854775807 ∧ d + k = 32 ∧ c.s = s) : OK 73 ([.ptr 0 0, .int .u8 q, .int .i64 d]) ([.cells [.str s, .ptr 1 0], .cells (eC c)]) (.str (j5 k q c)) (some [.cells [.str s, .ptr 1 0], .cells (eC (aE k q c))]) := by
 refine ah (C := cx [(36, qg), (125, (oC k)), (35, fJ)]) (ai ⟨wV, hv, gj, trivial⟩) (fn := Tryz.f73) rfl rfl rfl rfl fun hw hs => ?_
 obtain ⟨h1, h2, h3, rfl⟩ := hp
 have hk := j7 k q c h1
 have q1 := hk.1.1
 have q2 := hk.1.2
 have q3 := hk.2.2.2
 have q4 := hk.2.1
 repeat' ((conv => whnf); first | apply ab | apply ax | (apply ae <;> intro h))
 all_goals try conv => whnf
 all_goals try (refine a7.mk ?_; try dsimp only)
 all_goals (try simp only [aU] at *)
 all_goals first | refine stay ?_ | trivial | skip
 all_goals first
  | exact ⟨by omega, by omega, by rw [q4] at q2; omega⟩
  | exact ⟨trivial, h1, h2, h3⟩
  | exact ⟨h1, h2, h3⟩
  | skip
 . unfold j5
   rw [if_neg (by omega)]
   refine a6.mk [] ?_ <;> (repeat' first | trivial)
 . unfold j5
   rw [if_pos (by assumption)]
   refine a6.mk [] ?_ <;> (repeat' first | trivial)
def oz (k : Nat) : Sm := fun args σ => match args, σ with
 | [.ptr 0 0, .int .u8 q, .int .i64 d], [.cells [.str s, .ptr 1 0], .cells ([.str s_c, .int .i64 (.ofNat a_c), .int .i64 (.ofNat e_c), .int .i64 c_c])] => some (True ∧ ((Cu.mk s_c a_c e_c c_c).ok ∧ (Cu.mk s_c a_c e_c c_c).s.length ≤ 9223372036854775807 ∧ d + k = 32 ∧ (Cu.mk s_c a_c e_c c_c).s = s), .str (j5 k q (Cu.mk s_c a_c e_c c_c)), some [.cells [.str s, .ptr 1 0], .cells (eC (aE k q (Cu.mk s_c a_c e_c c_c)))])
 | _, _ => none
theorem EX (k : Nat) (hv : a9 125 (oC k)) : a9 73 (oz k) := by
 intro args sg pre x r he hp
 unfold oz at he
 split at he <;> cases he
 . rw [bP (hp).1]; exact Da (hv := hv) (hp := hp.2) ..
theorem Dd (k : Nat) (hr : a9 73 (oz k)) (s : List UInt8) (f : Fd) (d : Int) (c : Cu) (hp : c.ok ∧ c.s.length ≤ 9223372036854775807 ∧ d + k = 32 ∧ c.s = s) : OK 34 ([.ptr 0 0, .ptr 1 0, .int .i64 d]) ([.cells [.str s, .ptr 2 0], .cells (eK f), .cells (eC c)]) (.tuple []) (some [.cells [.str s, .ptr 2 0], .cells (eK (bO k f c).1), .cells (eC (bO k f c).2)]) := by
 refine ah (C := cx [(64, gS), (69, ud), (70, u7), (71, u6), (72, u9), (73, (oz k))]) (ai ⟨iX, Fb, EW, EV, EY, hr, trivial⟩) (fn := Tryz.f34) rfl rfl rfl rfl fun hw hs => ?_
 obtain ⟨h1, h2, h3, rfl⟩ := hp
 have h256 := c.ao.toNat_lt
 have hwb : IntKind.u64.wrap (c.ao.toNat : Int) = (c.ao.toNat : Int) := by rw [cm]; omega
 repeat' ((conv => whnf); first | apply ab | (apply ae <;> intro h))
 all_goals try conv => whnf
 all_goals try (refine a7.mk ?_; try dsimp only)
 all_goals (try simp only [hwb] at *)
 all_goals (try simp only [aU] at *)
 all_goals first | refine stay ?_ | trivial | omega | skip
 all_goals first
  | exact ⟨trivial, h1, h2, h3, rfl⟩
  | exact ⟨trivial, h1, .inl rfl⟩
  | exact ⟨trivial, h1, .inr (.inl rfl)⟩
  | exact ⟨trivial, h1, .inr (.inr rfl)⟩
  | exact ⟨trivial, h1, h2⟩
  | exact ⟨trivial, h1⟩
  | exact ⟨by omega, by omega⟩
  | (exfalso; omega)
  | skip
 all_goals
  try simp only [Int.toNat_natCast]
  have he : bO k f c = bO k f c := rfl
  conv at he => rhs; unfold bO
  repeat (first | rw [if_pos (by first | assumption | omega)] at he | rw [if_neg (by first | assumption | omega)] at he)
  rw [he]
  refine a6.mk [] ?_ <;> (repeat' first | trivial)
def mI (k : Nat) : Sm := fun args σ => match args, σ with
 | [.ptr 0 0, .ptr 1 0, .int .i64 d], [.cells [.str s, .ptr 2 0], .cells ([.int .i64 i_f, .int .u8 k_f, .int .i64 n_f, .int .u64 b_f, .str t_f, .str r_f]), .cells ([.str s_c, .int .i64 (.ofNat a_c), .int .i64 (.ofNat e_c), .int .i64 c_c])] => some (True ∧ (True ∧ ((Cu.mk s_c a_c e_c c_c).ok ∧ (Cu.mk s_c a_c e_c c_c).s.length ≤ 9223372036854775807 ∧ d + k = 32 ∧ (Cu.mk s_c a_c e_c c_c).s = s)), .tuple [], some [.cells [.str s, .ptr 2 0], .cells (eK (bO k (Fd.mk i_f k_f n_f b_f t_f r_f) (Cu.mk s_c a_c e_c c_c)).1), .cells (eC (bO k (Fd.mk i_f k_f n_f b_f t_f r_f) (Cu.mk s_c a_c e_c c_c)).2)])
 | _, _ => none
theorem F0 (k : Nat) (hr : a9 73 (oz k)) : a9 34 (mI k) := by
 intro args sg pre x r he hp
 unfold mI at he
 split at he <;> cases he
 . rw [bP (hp).1]; rw [uz (hp.2).1]; exact Dd (hr := hr) (hp := hp.2.2) ..
end Go.Proofs.YtipejldppicijaaGreatDoor
