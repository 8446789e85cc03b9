/-
  A part of the proof.
-/
import Derived.Test.YtllncocibkgjkaaJTx
set_option linter.unusedSimpArgs false
set_option linter.unusedVariables false
set_option maxHeartbeats 4000000
namespace Go.Proofs.Ytllncocibkgjkaa
open Go Go.VG
set_option maxRecDepth 100000
theorem EW (t : List UInt8) (i : Nat) (hp : t.length ≤ 100000000 ∧ i ≤ 900000010) : OK 122 ([.str t, .int .i64 i]) ([]) (.int .i64 (dV t i)) (none) := by
 refine aC (C := cx []) (ay trivial) (fn := Try.f122) rfl rfl rfl rfl fun hw hs => ?_
 obtain ⟨hl, hi⟩ := hp
 refine bn.mk Nat (fun j => i ≤ j ∧ j ≤ 900000010 ∧ dV t j = dV t i) (fun j => ⟨24, [(0, .str t), (1, .int .i64 j)], [], []⟩) (fun j => 900000011 - j) [] i ⟨Nat.le_refl _, hi, rfl⟩ ?_ (fun j ⟨h1, h2, h3⟩ _ _ => ?_)
 . refine Go.VG.Sub.mk rfl ?_ ?_ ?_ ?_ <;> (repeat' first | trivial)
 have hx : (t.getD j 0).toNat < 256 := UInt8.toNat_lt _
 have dT := jr (b := t.getD j 0)
 have dF := n9 (b := t.getD j 0)
 repeat' ((conv => whnf); first | apply al | (apply ao <;> intro h) | with_reducible refine eo ?_ fun hc => ?_)
 all_goals try conv => whnf
 all_goals try (refine ae.mk ?_; try dsimp only)
 all_goals (try simp only [aR] at *)
 all_goals first | refine stay ?_ | omega | skip
 all_goals first
  | (have e := od (t := t) (i := j) (by omega) (dT.2 (by omega))
     refine ⟨[], j + 1, ⟨by omega, by omega, by rw [← e]; exact h3⟩, ?_, by omega⟩
     refine Go.VG.Sub.mk rfl ?_ ?_ ?_ ?_ <;> (repeat' first | trivial | apply aj | apply aQ)
     (simp (discharger := omega) only [wR]; omega))
  | (have e := lE (t := t) (i := j) (.inr (dF.2 (by omega)))
     rw [← h3, e]
     refine a8.mk [] ?_ <;> (repeat' first | trivial)
     )
  | (have e := lE (t := t) (i := j) (.inl (by omega))
     rw [← h3, e]
     refine a8.mk [] ?_ <;> (repeat' first | trivial)
     )
  | skip
def wj : Sm := fun args σ => match args, σ with
 | [.str t, .int .i64 (.ofNat i)], [] => some (t.length ≤ 100000000 ∧ i ≤ 900000010, .int .i64 (dV t i), none)
 | _, _ => none
theorem GQ : aD 122 wj := by
 intro args sg pre x r he hp
 unfold wj at he
 split at he <;> cases he
 . exact EW (hp := hp) ..
theorem EV (t : List UInt8) (i : Nat) (a : UInt8) (b : UInt8) (hp : t.length ≤ 100000000 ∧ i ≤ 900000010) : OK 101 ([.str t, .int .i64 i, bv a, bv b]) ([]) (.bool (cW t i a.toNat b.toNat)) (none) := by
 refine aC (C := cx []) (ay trivial) (fn := Try.f101) rfl rfl rfl rfl fun hw hs => ?_
 obtain ⟨hl, hi⟩ := hp
 have hx : (t.getD i 0).toNat < 256 := UInt8.toNat_lt _
 have ha : a.toNat < 256 := a.toNat_lt
 have hb : b.toNat < 256 := b.toNat_lt
 repeat' ((conv => whnf); first | apply al | (apply ao <;> intro h) | with_reducible refine eo ?_ fun hc => ?_)
 all_goals try conv => whnf
 all_goals try (refine ae.mk ?_; try dsimp only)
 all_goals first | refine stay ?_ | omega | skip
 all_goals
  refine a8.mk [] ?_ <;> (repeat' first | trivial | apply aj | apply iD)
  first
  | (exact (iN.2 (by omega)).symm)
  | (exact (rP.2 (by omega)).symm)
  | (cases h : cW t i a.toNat b.toNat with
     | true => have := iN.1 h; simp [-List.getD_eq_getElem?_getD]; omega
     | false => have := rP.1 h; simp [-List.getD_eq_getElem?_getD]; omega)
def KF : Sm := fun args σ => match args, σ with
 | [.str t, .int .i64 (.ofNat i), .int .u8 n_a, .int .u8 n_b], [] => some ((0 ≤ n_b ∧ n_b ≤ 255) ∧ ((0 ≤ n_a ∧ n_a ≤ 255) ∧ (t.length ≤ 100000000 ∧ i ≤ 900000010)), .bool (cW t i (byte n_a).toNat (byte n_b).toNat), none)
 | _, _ => none
theorem EU (t : List UInt8) (i : Nat) (hp : t.length ≤ 100000000 ∧ i ≤ 900000010) : OK 102 ([.str t, .int .i64 i]) ([]) (.tuple [.int .i64 (cv t i).1, .int .i64 (cv t i).2]) (none) := by
 refine aC (C := cx [(122, wj)]) (ay ⟨GQ, trivial⟩) (fn := Try.f102) rfl rfl rfl rfl fun hw hs => ?_
 obtain ⟨hl, hi⟩ := hp
 have hr := jM t i
 repeat' ((conv => whnf); first | apply al | (apply ao <;> intro h))
 all_goals try conv => whnf
 all_goals try (refine ae.mk ?_; try dsimp only)
 all_goals first | refine stay ?_ | trivial | skip
 all_goals
  unfold cv
  repeat (first | rw [if_pos (by omega)] | rw [if_neg (by omega)])
  refine a8.mk [] ?_ <;> (repeat' first | trivial)
structure NP where
 w : List UInt8
 b : List UInt8
 p : List UInt8
 e : Nat
 c : Int
def ow (t : List UInt8) (i : Nat) : NP :=
 ⟨sub t (bX t i 45 45) (bp t i).1,
  if (bp t i).2 = 0 ∧ cW t (bp t i).1 46 46 = true then sub t ((bp t i).1 + 1) (cn t (bp t i)).1 else [],
  if (cn t (bp t i)).2 = 0 ∧ cW t (cn t (bp t i)).1 101 69 = true then sub t ((cn t (bp t i)).1 + 1) (cw t i).1 else [],
  (cw t i).1, (cw t i).2⟩
abbrev eNP (x : NP) : List V := [.str x.w, .str x.b, .str x.p, .int .i64 x.e, .int .i64 x.c]
def vu (on : List UInt8 → Nat → UInt8 → UInt8 → Bool) : Sm := fun args σ => match args, σ with
 | [.str t, .int .i64 i, .int .u8 a, .int .u8 b], [] => some ((0 ≤ a ∧ a ≤ 255) ∧ (0 ≤ b ∧ b ≤ 255) ∧ t.length ≤ 100000000 ∧ 0 ≤ i ∧ i ≤ 900000010, .bool (on t i.toNat (byte a) (byte b)), none)
 | _, _ => none
theorem GH {on : List UInt8 → Nat → UInt8 → UInt8 → Bool} (h : ∀ t i a b, on t i a b = cW t i a.toNat b.toNat) : aD 101 (vu on) := by
 intro args sg pre x r he hp
 unfold vu at he
 split at he <;> cases he
 obtain ⟨h1, h2, h3, h4, h5⟩ := hp
 rename_i i _ _
 obtain ⟨n, rfl⟩ := Int.eq_ofNat_of_zero_le h4
 rw [h, da h1, da h2]
 exact EV _ _ _ _ ⟨h3, by omega⟩
def vt (nd : List UInt8 → Nat → Nat × Int) : Sm := fun args σ => match args, σ with
 | [.str t, .int .i64 i], [] => some (t.length ≤ 100000000 ∧ 0 ≤ i ∧ i ≤ 900000010, .tuple [.int .i64 (nd t i.toNat).1, .int .i64 (nd t i.toNat).2], none)
 | _, _ => none
theorem GD {nd : List UInt8 → Nat → Nat × Int} (h : ∀ t i, nd t i = cv t i) : aD 102 (vt nd) := by
 intro args sg pre x r he hp
 unfold vt at he
 split at he <;> cases he
 obtain ⟨h3, h4, h5⟩ := hp
 rename_i i
 obtain ⟨n, rfl⟩ := Int.eq_ofNat_of_zero_le h4
 rw [h]
 exact EU _ _ ⟨h3, by omega⟩
theorem wrapS (n : Nat) (h : n ≤ 1000000000) : IntKind.i64.wrap ((n : Int) + 1) = ((n + 1 : Nat) : Int) := by rw [gJ]; omega
theorem A5 {t : List UInt8} {j a b : Nat} (h : cW t j a b = true) : j + 1 ≤ t.length := (iN.1 h).1
theorem Hq {t : List UInt8} {j a b : Nat} (h : cW t j a b = true) : ((j + 1 : Nat) : Int) ≤ (t.length : Int) := by have := A5 h; omega
theorem le_i {t : List UInt8} {j : Nat} (h : j ≤ t.length) : (j : Int) ≤ (t.length : Int) := by omega
theorem Ho {t : List UInt8} {j : Nat} (h : j ≤ t.length) : ((cv t j).1 : Int) ≤ (t.length : Int) := by have := (mB t j h).2; omega
theorem JR {t : List UInt8} {a b : Int} (h1 : 0 ≤ a) (h2 : a ≤ b) (h3 : b ≤ (t.length : Int)) : 0 ≤ a ∧ a ≤ b ∧ b ≤ (t.length : Int) := ⟨h1, h2, h3⟩
theorem DM {on : List UInt8 → Nat → UInt8 → UInt8 → Bool} {nd : List UInt8 → Nat → Nat × Int} (ho : ∀ t i a b, on t i a b = cW t i a.toNat b.toNat) (hn : ∀ t i, nd t i = cv t i) (t : List UInt8) (i : Nat)
   (hl : t.length ≤ 100000000) (hi : i ≤ t.length) : OK 81 [.str t, .int .i64 i] [] (.agg (eNP (ow t i))) none := by
 refine aC (C := cx [(101, vu on), (102, vt nd)]) (ay ⟨GH ho, GD hn, trivial⟩) (fn := Try.f81) rfl rfl rfl rfl fun hw hs => ?_
 have G : ∀ j, j ≤ (nd t j).1 ∧ (nd t j).1 ≤ t.length + j := fun j => by
  have := jM t j
  rw [hn]; unfold cv; repeat' split
  all_goals (dsimp only; omega)
 have L1 : ∀ {j : Nat}, j ≤ t.length → ((nd t j).1 : Int) ≤ (t.length : Int) := fun h => by rw [hn]; exact Ho h
 have f0 := G (i)
 have f1 := G (i + 1)
 have f2 := G ((nd t (i)).1 + 1)
 have f3 := G ((nd t (i + 1)).1 + 1)
 have f4 := G (i + 1 + 1)
 have f5 := G (i + 1 + 1 + 1)
 have f6 := G ((nd t ((nd t (i)).1 + 1)).1 + 1)
 have f7 := G ((nd t ((nd t (i + 1)).1 + 1)).1 + 1)
 have f8 := G ((nd t (i + 1 + 1)).1 + 1)
 have f9 := G ((nd t (i + 1 + 1 + 1)).1 + 1)
 have f10 := G ((nd t (i)).1 + 1 + 1)
 have f11 := G ((nd t (i + 1)).1 + 1 + 1)
 have f12 := G (i + 1 + 1 + 1 + 1)
 have f13 := G ((nd t ((nd t (i)).1 + 1)).1 + 1 + 1)
 have f14 := G ((nd t ((nd t (i + 1)).1 + 1)).1 + 1 + 1)
 have f15 := G ((nd t (i + 1 + 1)).1 + 1 + 1)
 have f16 := G ((nd t (i + 1 + 1 + 1)).1 + 1 + 1)
 repeat' ((conv => whnf); first | apply al | ((first | apply ao | apply goA) <;> intro h))
 all_goals try conv => whnf
 all_goals try (refine ae.mk ?_; try dsimp only)
 all_goals (try simp only [show (byte 45).toNat = 45 from rfl, show (byte 48).toNat = 48 from rfl, show (byte 46).toNat = 46 from rfl, show (byte 101).toNat = 101 from rfl, show (byte 69).toNat = 69 from rfl, show (byte 43).toNat = 43 from rfl, cond_true, cond_false, Int.toNat_natCast] at *)
 all_goals (try simp (discharger := omega) only [wrapS, Int.toNat_natCast] at *)
 all_goals clear hw hs
 all_goals (try simp only [ho, show (byte 45).toNat = 45 from rfl, show (byte 48).toNat = 48 from rfl, show (byte 46).toNat = 46 from rfl, show (byte 101).toNat = 101 from rfl, show (byte 69).toNat = 69 from rfl, show (byte 43).toNat = 43 from rfl] at *)
 all_goals first
  | (show a8 _ _ _ _ _ _; skip)
  | (refine JR ?_ ?_ ?_
     . omega
     . omega
     . repeat' (first | exact Hq (by assumption) | exact le_i hi | refine L1 ?_ | exact A5 (by assumption) | exact hi)
       done)
  | (refine ⟨by omega, by omega, ?_⟩
     omega)
  | skip
 all_goals (simp only [hn] at *)
 all_goals clear f0 f1 f2 f3 f4 f5 f6 f7 f8 f9 f10 f11 f12 f13 f14 f15 f16 G L1 ho hn
 all_goals
  simp only [ow, cw, gY, cn, bp, bX, *, if_true, if_false, and_self, and_true, true_and, and_false, false_and, Bool.false_eq_true, reduceCtorEq, if_pos, if_neg, not_false_eq_true]
  refine a8.mk [] ?_ <;> (repeat' first | trivial)
theorem ET (t : List UInt8) (i : Nat) (hp : t.length ≤ 100000000 ∧ i ≤ t.length) : OK 81 ([.str t, .int .i64 i]) ([]) (.agg (eNP (ow t i))) (none) := by
 exact DM (on := fun t i a b => cW t i a.toNat b.toNat) (nd := cv) (fun _ _ _ _ => rfl) (fun _ _ => rfl) t i hp.1 hp.2
def vv (sp : List UInt8 → Nat → NP) : Sm := fun args σ => match args, σ with
 | [.str t, .int .i64 (.ofNat i)], [] => some (t.length ≤ 100000000 ∧ i ≤ t.length, .agg (eNP (sp t i)), none)
 | _, _ => none
theorem H5 {sp : List UInt8 → Nat → NP} (h : ∀ t i, sp t i = ow t i) : aD 81 (vv sp) := by
 intro args sg pre x r he hp
 unfold vv at he
 split at he <;> cases he
 rw [h]
 exact ET _ _ hp
theorem ER {sp : List UInt8 → Nat → NP} (hsp : ∀ t i, sp t i = ow t i) (c : Cu) (hk : c.ok) (hl : c.s.length ≤ 100000000) : OK 52 [.agg (eC c)] [] (.tuple [.agg (eC c.fj.1), .str c.fj.2]) none := by
 refine aC (C := cx [(81, vv sp), (54, om)]) (ay ⟨H5 hsp, rl, trivial⟩) (fn := Try.f52) rfl rfl rfl rfl fun hw hs => ?_
 have h1 := hk.1
 have h2 := hk.2
 have hlen := ey hk
 have htx : c.s.take c.e = c.a9 := rfl
 have hge := rN c.a9 c.p (by omega)
 have e1 : (sp c.a9 c.p).e = (cw c.a9 c.p).1 := by rw [hsp]; rfl
 have e2 : (sp c.a9 c.p).c = (cw c.a9 c.p).2 := by rw [hsp]; rfl
 repeat' ((conv => whnf); first | apply al | apply aZ | (apply ao <;> intro h))
 all_goals try conv => whnf
 all_goals try (refine ae.mk ?_; try dsimp only)
 all_goals (try simp only [Int.toNat_natCast, htx, e1, e2] at *)
 all_goals (try simp only [aR] at *)
 all_goals first | refine stay ?_ | trivial | omega | skip
 all_goals
  unfold Cu.fj
  repeat (first | rw [if_pos (by omega)] | rw [if_neg (by omega)])
  refine a8.mk [] ?_ <;> (repeat' first | trivial)
theorem ES (c : Cu) (hp : c.ok ∧ c.s.length ≤ 100000000) : OK 52 ([.agg (eC c)]) ([]) (.tuple [.agg (eC c.fj.1), .str c.fj.2]) (none) := by
 exact ER (sp := ow) (fun _ _ => rfl) c hp.1 hp.2
def wi : Sm := fun args σ => match args, σ with
 | [.agg ([.str s_c, .int .i64 (.ofNat a_c), .int .i64 (.ofNat e_c), .int .i64 c_c])], [] => some (True ∧ ((Cu.mk s_c a_c e_c c_c).ok ∧ (Cu.mk s_c a_c e_c c_c).s.length ≤ 100000000), .tuple [.agg (eC (Cu.mk s_c a_c e_c c_c).fj.1), .str (Cu.mk s_c a_c e_c c_c).fj.2], none)
 | _, _ => none
theorem GP : aD 52 wi := by
 intro args sg pre x r he hp
 unfold wi at he
 split at he <;> cases he
 . rw [bZ (hp).1]; exact ES (hp := hp.2) ..
theorem EY (b : UInt8) (hp : True) : OK 40 ([bv b]) ([]) (.bool (bB b)) (none) := by
 refine aC (C := cx []) (ay trivial) (fn := Try.f40) rfl rfl rfl rfl fun hw hs => ?_
 have hb : b.toNat < 256 := b.toNat_lt
 have sT : bB b = true ↔ (b.toNat = 123 ∨ b.toNat = 125 ∨ b.toNat = 91 ∨ b.toNat = 93 ∨ b.toNat = 58 ∨ b.toNat = 44) := decide_eq_true_iff
 repeat' ((conv => whnf); (apply ao <;> intro h))
 all_goals try conv => whnf
 all_goals try (refine ae.mk ?_; try dsimp only)
 all_goals try refine stay ?_
 all_goals
  refine a8.mk [] ?_ <;> (repeat' first | trivial | apply aj | apply iD)
  first
  | exact (sT.2 (by omega)).symm
  | (cases q : bB b with
     | true => have := sT.1 q; simp; omega
     | false =>
      have z : ¬ (b.toNat = 123 ∨ b.toNat = 125 ∨ b.toNat = 91 ∨ b.toNat = 93 ∨ b.toNat = 58 ∨ b.toNat = 44) := fun h => by rw [sT.2 h] at q; cases q
      simp; omega)
def oq : Sm := fun args σ => match args, σ with
 | [.int .u8 n_b], [] => some ((0 ≤ n_b ∧ n_b ≤ 255) ∧ (True), .bool (bB (byte n_b)), none)
 | _, _ => none
theorem rm : aD 40 oq := by
 intro args sg pre x r he hp
 unfold oq at he
 split at he <;> cases he
 . rw [da (hp).1]; exact EY (hp := hp.2) ..
theorem EZ (k : UInt8) (hp : True) : OK 41 ([bv k]) ([]) (.str (spell k)) (none) := by
 refine aC (C := cx []) (ay trivial) (fn := Try.f41) rfl rfl rfl rfl fun hw hs => ?_
 have hb : k.toNat < 256 := k.toNat_lt
 repeat' ((conv => whnf); (apply ao <;> intro h))
 all_goals try conv => whnf
 all_goals try (refine ae.mk ?_; try dsimp only)
 all_goals (try simp only [aR] at *)
 all_goals try refine stay ?_
 all_goals
  unfold spell
  repeat (first | rw [if_pos (by omega)] | rw [if_neg (by omega)])
  refine a8.mk [] ?_ <;> (repeat' first | trivial)
def sq : Sm := fun args σ => match args, σ with
 | [.int .u8 n_k], [] => some ((0 ≤ n_k ∧ n_k ≤ 255) ∧ (True), .str (spell (byte n_k)), none)
 | _, _ => none
theorem zG : aD 41 sq := by
 intro args sg pre x r he hp
 unfold sq at he
 split at he <;> cases he
 . rw [da (hp).1]; exact EZ (hp := hp.2) ..
theorem F1 (c : Cu) (k : UInt8) (t : List UInt8) (hp : True) : OK 51 ([.agg (eC c), bv k, .str t]) ([]) (.tuple [.agg (eC c), .agg (eT (if c.c = 0 then ⟨k, t⟩ else .no))]) (none) := by
 refine aC (C := cx []) (ay trivial) (fn := Try.f51) rfl rfl rfl rfl fun hw hs => ?_
 have hb : k.toNat < 256 := k.toNat_lt
 repeat' ((conv => whnf); first | apply aZ | (apply ao <;> intro h))
 all_goals try conv => whnf
 all_goals try (refine ae.mk ?_; try dsimp only)
 all_goals try refine stay ?_
 all_goals
  first | rw [if_pos (by assumption)] | rw [if_neg (by assumption)]
  refine a8.mk [] ?_ <;> (repeat' first | trivial)
def wo : Sm := fun args σ => match args, σ with
 | [.agg ([.str s_c, .int .i64 (.ofNat a_c), .int .i64 (.ofNat e_c), .int .i64 c_c]), .int .u8 n_k, .str t], [] => some ((0 ≤ n_k ∧ n_k ≤ 255) ∧ (True ∧ (True)), .tuple [.agg (eC (Cu.mk s_c a_c e_c c_c)), .agg (eT (if (Cu.mk s_c a_c e_c c_c).c = 0 then ⟨(byte n_k), t⟩ else .no))], none)
 | _, _ => none
theorem GU : aD 51 wo := by
 intro args sg pre x r he hp
 unfold wo at he
 split at he <;> cases he
 . rw [da (hp).1]; rw [bZ (hp.2).1]; exact F1 (hp := hp.2.2) ..
theorem F2 (c : Cu) (k : UInt8) (hp : c.ok ∧ c.s.length ≤ 100000000) : OK 53 ([.agg (eC c), bv k]) ([]) (.tuple [.agg (eC (c.cr k).1), .agg (eT (c.cr k).2)]) (none) := by
 refine aC (C := cx [(41, sq), (54, om)]) (ay ⟨zG, rl, trivial⟩) (fn := Try.f53) rfl rfl rfl rfl fun hw hs => ?_
 obtain ⟨hk, hl⟩ := hp
 have h1 := hk.1
 have h2 := hk.2
 have hb : k.toNat < 256 := k.toNat_lt
 have hsl : (spell k).length ≤ 5 := by
  unfold spell; repeat' split
  all_goals simp
 have hkk : byte k.toNat = k := bH _
 repeat' ((conv => whnf); apply al)
 all_goals try conv => whnf
 all_goals try (refine ae.mk ?_; try dsimp only)
 all_goals first | refine stay ?_ | (simp (discharger := omega) [-List.getD_eq_getElem?_getD, wR] <;> omega) | skip
 all_goals (try simp only [hkk] at *)
 refine bn.mk Nat (fun i => i ≤ (spell k).length ∧ cP c (spell k) 0 = cP c ((spell k).drop i) i) (fun i => ⟨49, [(1, bv k), (2, .ptr 0 0), (4, .ptr 1 0), (5, .ptr 2 0), (6, .str (spell k)), (7, .int .i64 i)], [.cells (eC c), .cells [.str [], .int .i64 0, .int .i64 0, .int .i64 0], .cells [.int .u8 0, .str []]], []⟩) (fun i => (spell k).length - i) [] 0 ⟨by omega, rfl⟩ ?_ (fun i ⟨hi, he⟩ _ _ => ?_)
 . refine Go.VG.Sub.mk rfl ?_ ?_ ?_ ?_ <;> (repeat' first | trivial)
 have hx : ((spell k).getD i 0).toNat < 256 := UInt8.toNat_lt _
 have hy : (c.s.getD (c.p + i) 0).toNat < 256 := UInt8.toNat_lt _
 have hdr : i < (spell k).length → (spell k).drop i = (spell k).getD i 0 :: (spell k).drop (i + 1) := fun h => by
  rw [List.drop_eq_getElem_cons h, List.getD_eq_getElem?_getD, List.getElem?_eq_getElem h]; rfl
 have hw2 : IntKind.i64.wrap ((c.p : Int) + i) = ((c.p + i : Nat) : Int) := by (simp (discharger := omega) only [wR]; omega)
 have hw3 : IntKind.i64.wrap ((c.p : Int) + (spell k).length) = ((c.p + (spell k).length : Nat) : Int) := by (simp (discharger := omega) only [wR]; omega)
 repeat' ((conv => whnf); first | apply al | apply aZ | (apply ao <;> intro h) | with_reducible (first | refine eo ?_ fun hc => ?_ | refine mg ?_ fun hc => ?_))
 all_goals try conv => whnf
 all_goals try (refine ae.mk ?_; try dsimp only)
 all_goals (try simp only [hw2, hw3, Int.toNat_natCast] at *)
 all_goals (try simp only [aR] at *)
 all_goals first | refine stay ?_ | trivial | omega | skip
 . have z : cP c (spell k) 0 = 1 := by rw [he, hdr (by omega)]; unfold cP; rw [if_pos (by omega)]
   unfold Cu.cr
   rw [z, if_pos (by decide)]
   refine a8.mk [] ?_ <;> (repeat' first | trivial)
 . have z : cP c (spell k) 0 = cP c ((spell k).drop (i + 1)) (i + 1) := by
     rw [he, hdr (by omega)]
     conv => lhs; unfold cP
     rw [if_neg (by omega), if_neg (fun e => e (UInt8.toNat_inj.1 (by omega)))]
   refine ⟨[], i + 1, ⟨by omega, z⟩, ?_, by omega⟩
   refine Go.VG.Sub.mk rfl ?_ ?_ ?_ ?_ <;> (repeat' first | trivial | apply aj | apply aQ)
   all_goals (simp (discharger := omega) only [wR]; omega)
 . have z : cP c (spell k) 0 = 3 := by
     rw [he, hdr (by omega)]; unfold cP
     rw [if_neg (by omega), if_pos (fun e => by have := congrArg UInt8.toNat e; omega)]
   unfold Cu.cr
   rw [z, if_pos (by decide)]
   refine a8.mk [] ?_ <;> (repeat' first | trivial)
 . have z : cP c (spell k) 0 = 0 := by rw [he, List.drop_eq_nil_of_le (by omega)]; unfold cP; rfl
   unfold Cu.cr
   rw [z, if_neg (by decide)]
   refine a8.mk [] ?_ <;> (repeat' first | trivial)
def wq : Sm := fun args σ => match args, σ with
 | [.agg ([.str s_c, .int .i64 (.ofNat a_c), .int .i64 (.ofNat e_c), .int .i64 c_c]), .int .u8 n_k], [] => some ((0 ≤ n_k ∧ n_k ≤ 255) ∧ (True ∧ ((Cu.mk s_c a_c e_c c_c).ok ∧ (Cu.mk s_c a_c e_c c_c).s.length ≤ 100000000)), .tuple [.agg (eC ((Cu.mk s_c a_c e_c c_c).cr (byte n_k)).1), .agg (eT ((Cu.mk s_c a_c e_c c_c).cr (byte n_k)).2)], none)
 | _, _ => none
theorem GV : aD 53 wq := by
 intro args sg pre x r he hp
 unfold wq at he
 split at he <;> cases he
 . rw [da (hp).1]; rw [bZ (hp.2).1]; exact F2 (hp := hp.2.2) ..
theorem EX (c : Cu) (hp : c.ok ∧ c.s.length ≤ 10000000) : OK 19 ([.agg (eC c)]) ([]) (.tuple [.agg (eC c.aJ.1), .agg (eT c.aJ.2)]) (none) := by
 refine aC (C := cx [(40, oq), (50, wb), (51, wo), (52, wi), (53, wq), (54, om)]) (ay ⟨rm, GK, GU, GP, GV, rl, trivial⟩) (fn := Try.f19) rfl rfl rfl rfl fun hw hs => ?_
 obtain ⟨hk, hl⟩ := hp
 have h1 := hk.1
 have h2 := hk.2
 have hlen := ey hk
 repeat' ((conv => whnf); first | apply aZ | (apply ao <;> intro h))
 all_goals try conv => whnf
 all_goals try (refine ae.mk ?_; try dsimp only)
 all_goals try refine stay ?_
 . have h0 : c.c = 0 := by assumption
   refine bn.mk Nat (fun p => c.p ≤ p ∧ p ≤ c.e ∧ cm bO c.a9 p = cm bO c.a9 c.p) (fun p => ⟨128, [(1, .ptr 0 0), (2, .ptr 1 0), (3, .ptr 2 0)], [.cells (eC { c with p := p }), .cells [.str [], .int .i64 0, .int .i64 0, .int .i64 0], .cells [.int .u8 0, .str []]], []⟩) (fun p => c.e - p) [] c.p ⟨Nat.le_refl _, h1, rfl⟩ ?_ (fun p ⟨p1, p2, p3⟩ _ _ => ?_)
   . refine Go.VG.Sub.mk rfl ?_ ?_ ?_ ?_ <;> (repeat' first | trivial)
   have hx : (c.s.getD p 0).toNat < 256 := UInt8.toNat_lt _
   have hxx : byte (c.s.getD p 0).toNat = c.s.getD p 0 := bH _
   have hg : p < c.e → c.a9.getD p 0 = c.s.getD p 0 := fun h => by unfold Cu.a9; exact jz h
   have hit : p < c.e → bO (c.s.getD p 0) = true → cm bO c.a9 (p + 1) = cm bO c.a9 c.p := fun h b => by rw [← p3, vh (i := p) (by omega) (by rw [hg h]; exact b)]
   have stop : p = c.e ∨ bO (c.s.getD p 0) = false → c.aJ = ({ c with p := p } : Cu).ew := fun h => by
    unfold Cu.aJ
    rw [if_neg (by omega), ← p3, oe (i := p) (by
     rcases Nat.lt_or_ge p c.e with q | q
     . right; rw [hg q]; rcases h with h | h; omega; exact h
     . left; omega)]
   have hd : Cu.ok { c with p := p } := ⟨p2, h2⟩
   have hget : ({ c with p := p } : Cu).get = c.s.getD p 0 := rfl
   have sT : bB (c.s.getD p 0) = true ↔ ((c.s.getD p 0).toNat = 123 ∨ (c.s.getD p 0).toNat = 125 ∨ (c.s.getD p 0).toNat = 91 ∨ (c.s.getD p 0).toNat = 93 ∨ (c.s.getD p 0).toNat = 58 ∨ (c.s.getD p 0).toNat = 44) := decide_eq_true_iff
   have dT := jr (b := c.s.getD p 0)
   repeat' ((conv => whnf); first | apply al | (apply ao <;> intro h) | with_reducible refine eo ?_ fun hc => ?_)
   all_goals try conv => whnf
   all_goals try (refine ae.mk ?_; try dsimp only)
   all_goals (try simp only [aR] at *)
   all_goals first | refine stay ?_ | trivial | omega | (simp (discharger := omega) [-List.getD_eq_getElem?_getD, wR] <;> omega) | skip
   all_goals (try simp only [hxx] at *)
   all_goals first
    | (exfalso; omega)
    | exact ⟨trivial, hd, by omega⟩
    | exact ⟨by omega, trivial, hd, by omega⟩
    | (refine ⟨[], p + 1, ⟨by omega, by omega, hit (by omega) (tf.2 (by omega))⟩, ?_, by omega⟩
       refine Go.VG.Sub.mk rfl ?_ ?_ ?_ ?_ <;> (repeat' first | trivial | apply aj | apply aQ | apply eqE | apply eF)
       all_goals (simp (discharger := omega) only [wR]; omega)
       done)
    | skip
   all_goals
    first
    | rw [stop (.inl (by omega))]
    | rw [stop (.inr (qK.2 (by omega)))]
    unfold Cu.ew
    first
    | rw [if_pos (show ({ c with p := p } : Cu).p = ({ c with p := p } : Cu).e by show p = c.e; omega)]
    | rw [if_neg (show ¬ ({ c with p := p } : Cu).p = ({ c with p := p } : Cu).e by show ¬ p = c.e; omega)]
    try rw [hget]
    repeat (first | rw [if_pos (by rw [sT]; omega)] | rw [if_neg (by rw [sT]; omega)] | rw [if_pos (by rw [dT]; omega)] | rw [if_neg (by rw [dT]; omega)] | rw [if_pos (by omega)] | rw [if_neg (by omega)])
    refine a8.mk [] ?_ <;> (repeat' first | trivial | apply aj | apply aQ | apply eqG | apply ja | apply eF)
    all_goals (simp (discharger := omega) only [wR]; omega)
 . unfold Cu.aJ
   rw [if_pos (by assumption)]
   refine a8.mk [] ?_ <;> (repeat' first | trivial)
def wk : Sm := fun args σ => match args, σ with
 | [.agg ([.str s_c, .int .i64 (.ofNat a_c), .int .i64 (.ofNat e_c), .int .i64 c_c])], [] => some (True ∧ ((Cu.mk s_c a_c e_c c_c).ok ∧ (Cu.mk s_c a_c e_c c_c).s.length ≤ 10000000), .tuple [.agg (eC (Cu.mk s_c a_c e_c c_c).aJ.1), .agg (eT (Cu.mk s_c a_c e_c c_c).aJ.2)], none)
 | _, _ => none
theorem GR : aD 19 wk := by
 intro args sg pre x r he hp
 unfold wk at he
 split at he <;> cases he
 . rw [bZ (hp).1]; exact EX (hp := hp.2) ..
end Go.Proofs.Ytllncocibkgjkaa
