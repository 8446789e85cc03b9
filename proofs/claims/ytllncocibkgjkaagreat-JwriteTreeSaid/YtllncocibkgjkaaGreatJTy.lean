/-
  A part of the proof.
-/
import Derived.Test.YtllncocibkgjkaaGreatJTx
set_option linter.unusedSimpArgs false
set_option linter.unusedVariables false
set_option maxHeartbeats 4000000
namespace Go.Proofs.YtllncocibkgjkaaGreat
open Go Go.VG
set_option maxRecDepth 100000
theorem G3 (t : List UInt8) (i : Nat) (hp : t.length ≤ 100000000 ∧ i ≤ 900000010) : OK 128 ([.str t, .int .i64 i]) ([]) (.int .i64 (dX t i)) (none) := by
 refine aq (C := cx []) (ar trivial) (fn := Tryz.f128) rfl rfl rfl rfl fun hw hs => ?_
 obtain ⟨hl, hi⟩ := hp
 refine bn.mk Nat (fun j => i ≤ j ∧ j ≤ 900000010 ∧ dX t j = dX t i) (fun j => ⟨24, [(0, .str t), (1, .int .i64 j)], [], []⟩) (fun j => 900000011 - j) [] i ⟨Nat.le_refl _, hi, rfl⟩ ?_ (fun j ⟨h1, h2, h3⟩ _ _ => ?_)
 . refine Go.VG.Sub.mk rfl ?_ ?_ ?_ ?_ <;> (repeat' first | trivial)
 have hx : (t.getD j 0).toNat < 256 := UInt8.toNat_lt _
 have dT := jK (b := t.getD j 0)
 have dF := ns (b := t.getD j 0)
 repeat' ((conv => whnf); first | apply ak | (apply al <;> intro h) | with_reducible refine et ?_ fun hc => ?_)
 all_goals try conv => whnf
 all_goals try (refine ab.mk ?_; try dsimp only)
 all_goals (try simp only [aP] at *)
 all_goals first | refine stay ?_ | omega | skip
 all_goals first
  | (have e := oG (t := t) (i := j) (by omega) (dT.2 (by omega))
     refine ⟨[], j + 1, ⟨by omega, by omega, by rw [← e]; exact h3⟩, ?_, by omega⟩
     refine Go.VG.Sub.mk rfl ?_ ?_ ?_ ?_ <;> (repeat' first | trivial | apply aj | apply aR)
     (simp (discharger := omega) only [wR]; omega))
  | (have e := lW (t := t) (i := j) (.inr (dF.2 (by omega)))
     rw [← h3, e]
     refine a8.mk [] ?_ <;> (repeat' first | trivial)
     )
  | (have e := lW (t := t) (i := j) (.inl (by omega))
     rw [← h3, e]
     refine a8.mk [] ?_ <;> (repeat' first | trivial)
     )
  | skip
def x8 : Sm := fun args σ => match args, σ with
 | [.str t, .int .i64 (.ofNat i)], [] => some (t.length ≤ 100000000 ∧ i ≤ 900000010, .int .i64 (dX t i), none)
 | _, _ => none
theorem I0 : ay 128 x8 := by
 intro args sg pre x r he hp
 unfold x8 at he
 split at he <;> cases he
 . exact G3 (hp := hp) ..
theorem G2 (t : List UInt8) (i : Nat) (a : UInt8) (b : UInt8) (hp : t.length ≤ 100000000 ∧ i ≤ 900000010) : OK 114 ([.str t, .int .i64 i, bv a, bv b]) ([]) (.bool (cY t i a.toNat b.toNat)) (none) := by
 refine aq (C := cx []) (ar trivial) (fn := Tryz.f114) rfl rfl rfl rfl fun hw hs => ?_
 obtain ⟨hl, hi⟩ := hp
 have hx : (t.getD i 0).toNat < 256 := UInt8.toNat_lt _
 have ha : a.toNat < 256 := a.toNat_lt
 have hb : b.toNat < 256 := b.toNat_lt
 repeat' ((conv => whnf); first | apply ak | (apply al <;> intro h) | with_reducible refine et ?_ fun hc => ?_)
 all_goals try conv => whnf
 all_goals try (refine ab.mk ?_; try dsimp only)
 all_goals first | refine stay ?_ | omega | skip
 all_goals
  refine a8.mk [] ?_ <;> (repeat' first | trivial | apply aj | apply ky)
  first
  | (exact (j9.2 (by omega)).symm)
  | (exact (sd.2 (by omega)).symm)
  | (cases h : cY t i a.toNat b.toNat with
     | true => have := j9.1 h; simp [-List.getD_eq_getElem?_getD]; omega
     | false => have := sd.1 h; simp [-List.getD_eq_getElem?_getD]; omega)
def M1 : Sm := fun args σ => match args, σ with
 | [.str t, .int .i64 (.ofNat i), .int .u8 n_a, .int .u8 n_b], [] => some ((0 ≤ n_b ∧ n_b ≤ 255) ∧ ((0 ≤ n_a ∧ n_a ≤ 255) ∧ (t.length ≤ 100000000 ∧ i ≤ 900000010)), .bool (cY t i (byte n_a).toNat (byte n_b).toNat), none)
 | _, _ => none
theorem G1 (t : List UInt8) (i : Nat) (hp : t.length ≤ 100000000 ∧ i ≤ 900000010) : OK 115 ([.str t, .int .i64 i]) ([]) (.tuple [.int .i64 (cw t i).1, .int .i64 (cw t i).2]) (none) := by
 refine aq (C := cx [(128, x8)]) (ar ⟨I0, trivial⟩) (fn := Tryz.f115) rfl rfl rfl rfl fun hw hs => ?_
 obtain ⟨hl, hi⟩ := hp
 have hr := kc t i
 repeat' ((conv => whnf); first | apply ak | (apply al <;> intro h))
 all_goals try conv => whnf
 all_goals try (refine ab.mk ?_; try dsimp only)
 all_goals first | refine stay ?_ | trivial | skip
 all_goals
  unfold cw
  repeat (first | rw [if_pos (by omega)] | rw [if_neg (by omega)])
  refine a8.mk [] ?_ <;> (repeat' first | trivial)
structure NP where
 w : List UInt8
 b : List UInt8
 p : List UInt8
 e : Nat
 c : Int
def oP (t : List UInt8) (i : Nat) : NP :=
 ⟨sub t (bX t i 45 45) (bm t i).1,
  if (bm t i).2 = 0 ∧ cY t (bm t i).1 46 46 = true then sub t ((bm t i).1 + 1) (cj t (bm t i)).1 else [],
  if (cj t (bm t i)).2 = 0 ∧ cY t (cj t (bm t i)).1 101 69 = true then sub t ((cj t (bm t i)).1 + 1) (cy t i).1 else [],
  (cy t i).1, (cy t i).2⟩
abbrev eNP (x : NP) : List V := [.str x.w, .str x.b, .str x.p, .int .i64 x.e, .int .i64 x.c]
def vX (on : List UInt8 → Nat → UInt8 → UInt8 → Bool) : Sm := fun args σ => match args, σ with
 | [.str t, .int .i64 i, .int .u8 a, .int .u8 b], [] => some ((0 ≤ a ∧ a ≤ 255) ∧ (0 ≤ b ∧ b ≤ 255) ∧ t.length ≤ 100000000 ∧ 0 ≤ i ∧ i ≤ 900000010, .bool (on t i.toNat (byte a) (byte b)), none)
 | _, _ => none
theorem HR {on : List UInt8 → Nat → UInt8 → UInt8 → Bool} (h : ∀ t i a b, on t i a b = cY t i a.toNat b.toNat) : ay 114 (vX on) := by
 intro args sg pre x r he hp
 unfold vX at he
 split at he <;> cases he
 obtain ⟨h1, h2, h3, h4, h5⟩ := hp
 rename_i i _ _
 obtain ⟨n, rfl⟩ := Int.eq_ofNat_of_zero_le h4
 rw [h, dw h1, dw h2]
 exact G2 _ _ _ _ ⟨h3, by omega⟩
def vW (nd : List UInt8 → Nat → Nat × Int) : Sm := fun args σ => match args, σ with
 | [.str t, .int .i64 i], [] => some (t.length ≤ 100000000 ∧ 0 ≤ i ∧ i ≤ 900000010, .tuple [.int .i64 (nd t i.toNat).1, .int .i64 (nd t i.toNat).2], none)
 | _, _ => none
theorem HO {nd : List UInt8 → Nat → Nat × Int} (h : ∀ t i, nd t i = cw t i) : ay 115 (vW nd) := by
 intro args sg pre x r he hp
 unfold vW at he
 split at he <;> cases he
 obtain ⟨h3, h4, h5⟩ := hp
 rename_i i
 obtain ⟨n, rfl⟩ := Int.eq_ofNat_of_zero_le h4
 rw [h]
 exact G1 _ _ ⟨h3, by omega⟩
theorem wrapS (n : Nat) (h : n ≤ 1000000000) : IntKind.i64.wrap ((n : Int) + 1) = ((n + 1 : Nat) : Int) := by rw [gU]; omega
theorem AK {t : List UInt8} {j a b : Nat} (h : cY t j a b = true) : j + 1 ≤ t.length := (j9.1 h).1
theorem IB {t : List UInt8} {j a b : Nat} (h : cY t j a b = true) : ((j + 1 : Nat) : Int) ≤ (t.length : Int) := by have := AK h; omega
theorem le_i {t : List UInt8} {j : Nat} (h : j ≤ t.length) : (j : Int) ≤ (t.length : Int) := by omega
theorem Iz {t : List UInt8} {j : Nat} (h : j ≤ t.length) : ((cw t j).1 : Int) ≤ (t.length : Int) := by have := (mT t j h).2; omega
theorem Lc {t : List UInt8} {a b : Int} (h1 : 0 ≤ a) (h2 : a ≤ b) (h3 : b ≤ (t.length : Int)) : 0 ≤ a ∧ a ≤ b ∧ b ≤ (t.length : Int) := ⟨h1, h2, h3⟩
theorem EH {on : List UInt8 → Nat → UInt8 → UInt8 → Bool} {nd : List UInt8 → Nat → Nat × Int} (ho : ∀ t i a b, on t i a b = cY t i a.toNat b.toNat) (hn : ∀ t i, nd t i = cw t i) (t : List UInt8) (i : Nat)
   (hl : t.length ≤ 100000000) (hi : i ≤ t.length) : OK 81 [.str t, .int .i64 i] [] (.agg (eNP (oP t i))) none := by
 refine aq (C := cx [(114, vX on), (115, vW nd)]) (ar ⟨HR ho, HO hn, trivial⟩) (fn := Tryz.f81) rfl rfl rfl rfl fun hw hs => ?_
 have G : ∀ j, j ≤ (nd t j).1 ∧ (nd t j).1 ≤ t.length + j := fun j => by
  have := kc t j
  rw [hn]; unfold cw; repeat' split
  all_goals (dsimp only; omega)
 have L1 : ∀ {j : Nat}, j ≤ t.length → ((nd t j).1 : Int) ≤ (t.length : Int) := fun h => by rw [hn]; exact Iz h
 have f0 := G (i)
 have f1 := G (i + 1)
 have f2 := G ((nd t (i)).1 + 1)
 have f3 := G ((nd t (i + 1)).1 + 1)
 have f4 := G (i + 1 + 1)
 have f5 := G (i + 1 + 1 + 1)
 have f6 := G ((nd t ((nd t (i)).1 + 1)).1 + 1)
 have f7 := G ((nd t ((nd t (i + 1)).1 + 1)).1 + 1)
 have f8 := G ((nd t (i + 1 + 1)).1 + 1)
 have f9 := G ((nd t (i + 1 + 1 + 1)).1 + 1)
 have f10 := G ((nd t (i)).1 + 1 + 1)
 have f11 := G ((nd t (i + 1)).1 + 1 + 1)
 have f12 := G (i + 1 + 1 + 1 + 1)
 have f13 := G ((nd t ((nd t (i)).1 + 1)).1 + 1 + 1)
 have f14 := G ((nd t ((nd t (i + 1)).1 + 1)).1 + 1 + 1)
 have f15 := G ((nd t (i + 1 + 1)).1 + 1 + 1)
 have f16 := G ((nd t (i + 1 + 1 + 1)).1 + 1 + 1)
 repeat' ((conv => whnf); first | apply ak | ((first | apply al | apply j0) <;> intro h))
 all_goals try conv => whnf
 all_goals try (refine ab.mk ?_; try dsimp only)
 all_goals (try simp only [show (byte 45).toNat = 45 from rfl, show (byte 48).toNat = 48 from rfl, show (byte 46).toNat = 46 from rfl, show (byte 101).toNat = 101 from rfl, show (byte 69).toNat = 69 from rfl, show (byte 43).toNat = 43 from rfl, cond_true, cond_false, Int.toNat_natCast] at *)
 all_goals (try simp (discharger := omega) only [wrapS, Int.toNat_natCast] at *)
 all_goals clear hw hs
 all_goals (try simp only [ho, show (byte 45).toNat = 45 from rfl, show (byte 48).toNat = 48 from rfl, show (byte 46).toNat = 46 from rfl, show (byte 101).toNat = 101 from rfl, show (byte 69).toNat = 69 from rfl, show (byte 43).toNat = 43 from rfl] at *)
 all_goals first
  | (show a8 _ _ _ _ _ _; skip)
  | (refine Lc ?_ ?_ ?_
     . omega
     . omega
     . repeat' (first | exact IB (by assumption) | exact le_i hi | refine L1 ?_ | exact AK (by assumption) | exact hi)
       done)
  | (refine ⟨by omega, by omega, ?_⟩
     omega)
  | skip
 all_goals (simp only [hn] at *)
 all_goals clear f0 f1 f2 f3 f4 f5 f6 f7 f8 f9 f10 f11 f12 f13 f14 f15 f16 G L1 ho hn
 all_goals
  simp only [oP, cy, ik, cj, bm, bX, *, if_true, if_false, and_self, and_true, true_and, and_false, false_and, Bool.false_eq_true, reduceCtorEq, if_pos, if_neg, not_false_eq_true]
  refine a8.mk [] ?_ <;> (repeat' first | trivial)
theorem G0 (t : List UInt8) (i : Nat) (hp : t.length ≤ 100000000 ∧ i ≤ t.length) : OK 81 ([.str t, .int .i64 i]) ([]) (.agg (eNP (oP t i))) (none) := by
 exact EH (on := fun t i a b => cY t i a.toNat b.toNat) (nd := cw) (fun _ _ _ _ => rfl) (fun _ _ => rfl) t i hp.1 hp.2
def vY (sp : List UInt8 → Nat → NP) : Sm := fun args σ => match args, σ with
 | [.str t, .int .i64 (.ofNat i)], [] => some (t.length ≤ 100000000 ∧ i ≤ t.length, .agg (eNP (sp t i)), none)
 | _, _ => none
theorem Ib {sp : List UInt8 → Nat → NP} (h : ∀ t i, sp t i = oP t i) : ay 81 (vY sp) := by
 intro args sg pre x r he hp
 unfold vY at he
 split at he <;> cases he
 rw [h]
 exact G0 _ _ hp
theorem FY {sp : List UInt8 → Nat → NP} (hsp : ∀ t i, sp t i = oP t i) (c : Cu) (hk : c.ok) (hl : c.s.length ≤ 100000000) : OK 89 [.agg (eC c)] [] (.tuple [.agg (eC c.fj.1), .str c.fj.2]) none := by
 refine aq (C := cx [(81, vY sp), (91, oL)]) (ar ⟨Ib hsp, rI, trivial⟩) (fn := Tryz.f89) rfl rfl rfl rfl fun hw hs => ?_
 have h1 := hk.1
 have h2 := hk.2
 have hlen := eA hk
 have htx : c.s.take c.e = c.a9 := rfl
 have hge := sa c.a9 c.p (by omega)
 have e1 : (sp c.a9 c.p).e = (cy c.a9 c.p).1 := by rw [hsp]; rfl
 have e2 : (sp c.a9 c.p).c = (cy c.a9 c.p).2 := by rw [hsp]; rfl
 repeat' ((conv => whnf); first | apply ak | apply aV | (apply al <;> intro h))
 all_goals try conv => whnf
 all_goals try (refine ab.mk ?_; try dsimp only)
 all_goals (try simp only [Int.toNat_natCast, htx, e1, e2] at *)
 all_goals (try simp only [aP] at *)
 all_goals first | refine stay ?_ | trivial | omega | skip
 all_goals
  unfold Cu.fj
  repeat (first | rw [if_pos (by omega)] | rw [if_neg (by omega)])
  refine a8.mk [] ?_ <;> (repeat' first | trivial)
theorem FZ (c : Cu) (hp : c.ok ∧ c.s.length ≤ 100000000) : OK 89 ([.agg (eC c)]) ([]) (.tuple [.agg (eC c.fj.1), .str c.fj.2]) (none) := by
 exact FY (sp := oP) (fun _ _ => rfl) c hp.1 hp.2
def x7 : Sm := fun args σ => match args, σ with
 | [.agg ([.str s_c, .int .i64 (.ofNat a_c), .int .i64 (.ofNat e_c), .int .i64 c_c])], [] => some (True ∧ ((Cu.mk s_c a_c e_c c_c).ok ∧ (Cu.mk s_c a_c e_c c_c).s.length ≤ 100000000), .tuple [.agg (eC (Cu.mk s_c a_c e_c c_c).fj.1), .str (Cu.mk s_c a_c e_c c_c).fj.2], none)
 | _, _ => none
theorem HZ : ay 89 x7 := by
 intro args sg pre x r he hp
 unfold x7 at he
 split at he <;> cases he
 . rw [bZ (hp).1]; exact FZ (hp := hp.2) ..
theorem G5 (b : UInt8) (hp : True) : OK 67 ([bv b]) ([]) (.bool (bJ b)) (none) := by
 refine aq (C := cx []) (ar trivial) (fn := Tryz.f67) rfl rfl rfl rfl fun hw hs => ?_
 have hb : b.toNat < 256 := b.toNat_lt
 have sT : bJ b = true ↔ (b.toNat = 123 ∨ b.toNat = 125 ∨ b.toNat = 91 ∨ b.toNat = 93 ∨ b.toNat = 58 ∨ b.toNat = 44) := decide_eq_true_iff
 repeat' ((conv => whnf); (apply al <;> intro h))
 all_goals try conv => whnf
 all_goals try (refine ab.mk ?_; try dsimp only)
 all_goals try refine stay ?_
 all_goals
  refine a8.mk [] ?_ <;> (repeat' first | trivial | apply aj | apply ky)
  first
  | exact (sT.2 (by omega)).symm
  | (cases q : bJ b with
     | true => have := sT.1 q; simp; omega
     | false =>
      have z : ¬ (b.toNat = 123 ∨ b.toNat = 125 ∨ b.toNat = 91 ∨ b.toNat = 93 ∨ b.toNat = 58 ∨ b.toNat = 44) := fun h => by rw [sT.2 h] at q; cases q
      simp; omega)
def oM : Sm := fun args σ => match args, σ with
 | [.int .u8 n_b], [] => some ((0 ≤ n_b ∧ n_b ≤ 255) ∧ (True), .bool (bJ (byte n_b)), none)
 | _, _ => none
theorem rJ : ay 67 oM := by
 intro args sg pre x r he hp
 unfold oM at he
 split at he <;> cases he
 . rw [dw (hp).1]; exact G5 (hp := hp.2) ..
theorem G6 (k : UInt8) (hp : True) : OK 105 ([bv k]) ([]) (.str (spell k)) (none) := by
 refine aq (C := cx []) (ar trivial) (fn := Tryz.f105) rfl rfl rfl rfl fun hw hs => ?_
 have hb : k.toNat < 256 := k.toNat_lt
 repeat' ((conv => whnf); (apply al <;> intro h))
 all_goals try conv => whnf
 all_goals try (refine ab.mk ?_; try dsimp only)
 all_goals (try simp only [aP] at *)
 all_goals try refine stay ?_
 all_goals
  unfold spell
  repeat (first | rw [if_pos (by omega)] | rw [if_neg (by omega)])
  refine a8.mk [] ?_ <;> (repeat' first | trivial)
def tb : Sm := fun args σ => match args, σ with
 | [.int .u8 n_k], [] => some ((0 ≤ n_k ∧ n_k ≤ 255) ∧ (True), .str (spell (byte n_k)), none)
 | _, _ => none
theorem Ak : ay 105 tb := by
 intro args sg pre x r he hp
 unfold tb at he
 split at he <;> cases he
 . rw [dw (hp).1]; exact G6 (hp := hp.2) ..
theorem G8 (c : Cu) (k : UInt8) (t : List UInt8) (hp : True) : OK 88 ([.agg (eC c), bv k, .str t]) ([]) (.tuple [.agg (eC c), .agg (eT (if c.c = 0 then ⟨k, t⟩ else .no))]) (none) := by
 refine aq (C := cx []) (ar trivial) (fn := Tryz.f88) rfl rfl rfl rfl fun hw hs => ?_
 have hb : k.toNat < 256 := k.toNat_lt
 repeat' ((conv => whnf); first | apply aV | (apply al <;> intro h))
 all_goals try conv => whnf
 all_goals try (refine ab.mk ?_; try dsimp only)
 all_goals try refine stay ?_
 all_goals
  first | rw [if_pos (by assumption)] | rw [if_neg (by assumption)]
  refine a8.mk [] ?_ <;> (repeat' first | trivial)
def xb : Sm := fun args σ => match args, σ with
 | [.agg ([.str s_c, .int .i64 (.ofNat a_c), .int .i64 (.ofNat e_c), .int .i64 c_c]), .int .u8 n_k, .str t], [] => some ((0 ≤ n_k ∧ n_k ≤ 255) ∧ (True ∧ (True)), .tuple [.agg (eC (Cu.mk s_c a_c e_c c_c)), .agg (eT (if (Cu.mk s_c a_c e_c c_c).c = 0 then ⟨(byte n_k), t⟩ else .no))], none)
 | _, _ => none
theorem I3 : ay 88 xb := by
 intro args sg pre x r he hp
 unfold xb at he
 split at he <;> cases he
 . rw [dw (hp).1]; rw [bZ (hp.2).1]; exact G8 (hp := hp.2.2) ..
theorem G9 (c : Cu) (k : UInt8) (hp : c.ok ∧ c.s.length ≤ 100000000) : OK 90 ([.agg (eC c), bv k]) ([]) (.tuple [.agg (eC (c.cr k).1), .agg (eT (c.cr k).2)]) (none) := by
 refine aq (C := cx [(105, tb), (91, oL)]) (ar ⟨Ak, rI, trivial⟩) (fn := Tryz.f90) rfl rfl rfl rfl fun hw hs => ?_
 obtain ⟨hk, hl⟩ := hp
 have h1 := hk.1
 have h2 := hk.2
 have hb : k.toNat < 256 := k.toNat_lt
 have hsl : (spell k).length ≤ 5 := by
  unfold spell; repeat' split
  all_goals simp
 have hkk : byte k.toNat = k := c5 _
 repeat' ((conv => whnf); apply ak)
 all_goals try conv => whnf
 all_goals try (refine ab.mk ?_; try dsimp only)
 all_goals first | refine stay ?_ | (simp (discharger := omega) [-List.getD_eq_getElem?_getD, wR] <;> omega) | skip
 all_goals (try simp only [hkk] at *)
 refine bn.mk Nat (fun i => i ≤ (spell k).length ∧ cS c (spell k) 0 = cS c ((spell k).drop i) i) (fun i => ⟨49, [(1, bv k), (2, .ptr 0 0), (4, .ptr 1 0), (5, .ptr 2 0), (6, .str (spell k)), (7, .int .i64 i)], [.cells (eC c), .cells [.str [], .int .i64 0, .int .i64 0, .int .i64 0], .cells [.int .u8 0, .str []]], []⟩) (fun i => (spell k).length - i) [] 0 ⟨by omega, rfl⟩ ?_ (fun i ⟨hi, he⟩ _ _ => ?_)
 . refine Go.VG.Sub.mk rfl ?_ ?_ ?_ ?_ <;> (repeat' first | trivial)
 have hx : ((spell k).getD i 0).toNat < 256 := UInt8.toNat_lt _
 have hy : (c.s.getD (c.p + i) 0).toNat < 256 := UInt8.toNat_lt _
 have hdr : i < (spell k).length → (spell k).drop i = (spell k).getD i 0 :: (spell k).drop (i + 1) := fun h => by
  rw [List.drop_eq_getElem_cons h, List.getD_eq_getElem?_getD, List.getElem?_eq_getElem h]; rfl
 have hw2 : IntKind.i64.wrap ((c.p : Int) + i) = ((c.p + i : Nat) : Int) := by (simp (discharger := omega) only [wR]; omega)
 have hw3 : IntKind.i64.wrap ((c.p : Int) + (spell k).length) = ((c.p + (spell k).length : Nat) : Int) := by (simp (discharger := omega) only [wR]; omega)
 repeat' ((conv => whnf); first | apply ak | apply aV | (apply al <;> intro h) | with_reducible (first | refine et ?_ fun hc => ?_ | refine mG ?_ fun hc => ?_))
 all_goals try conv => whnf
 all_goals try (refine ab.mk ?_; try dsimp only)
 all_goals (try simp only [hw2, hw3, Int.toNat_natCast] at *)
 all_goals (try simp only [aP] at *)
 all_goals first | refine stay ?_ | trivial | omega | skip
 . have z : cS c (spell k) 0 = 1 := by rw [he, hdr (by omega)]; unfold cS; rw [if_pos (by omega)]
   unfold Cu.cr
   rw [z, if_pos (by decide)]
   refine a8.mk [] ?_ <;> (repeat' first | trivial)
 . have z : cS c (spell k) 0 = cS c ((spell k).drop (i + 1)) (i + 1) := by
     rw [he, hdr (by omega)]
     conv => lhs; unfold cS
     rw [if_neg (by omega), if_neg (fun e => e (UInt8.toNat_inj.1 (by omega)))]
   refine ⟨[], i + 1, ⟨by omega, z⟩, ?_, by omega⟩
   refine Go.VG.Sub.mk rfl ?_ ?_ ?_ ?_ <;> (repeat' first | trivial | apply aj | apply aR)
   all_goals (simp (discharger := omega) only [wR]; omega)
 . have z : cS c (spell k) 0 = 3 := by
     rw [he, hdr (by omega)]; unfold cS
     rw [if_neg (by omega), if_pos (fun e => by have := congrArg UInt8.toNat e; omega)]
   unfold Cu.cr
   rw [z, if_pos (by decide)]
   refine a8.mk [] ?_ <;> (repeat' first | trivial)
 . have z : cS c (spell k) 0 = 0 := by rw [he, List.drop_eq_nil_of_le (by omega)]; unfold cS; rfl
   unfold Cu.cr
   rw [z, if_neg (by decide)]
   refine a8.mk [] ?_ <;> (repeat' first | trivial)
def xc : Sm := fun args σ => match args, σ with
 | [.agg ([.str s_c, .int .i64 (.ofNat a_c), .int .i64 (.ofNat e_c), .int .i64 c_c]), .int .u8 n_k], [] => some ((0 ≤ n_k ∧ n_k ≤ 255) ∧ (True ∧ ((Cu.mk s_c a_c e_c c_c).ok ∧ (Cu.mk s_c a_c e_c c_c).s.length ≤ 100000000)), .tuple [.agg (eC ((Cu.mk s_c a_c e_c c_c).cr (byte n_k)).1), .agg (eT ((Cu.mk s_c a_c e_c c_c).cr (byte n_k)).2)], none)
 | _, _ => none
theorem I4 : ay 90 xc := by
 intro args sg pre x r he hp
 unfold xc at he
 split at he <;> cases he
 . rw [dw (hp).1]; rw [bZ (hp.2).1]; exact G9 (hp := hp.2.2) ..
theorem G4 (c : Cu) (hp : c.ok ∧ c.s.length ≤ 10000000) : OK 63 ([.agg (eC c)]) ([]) (.tuple [.agg (eC c.aN.1), .agg (eT c.aN.2)]) (none) := by
 refine aq (C := cx [(67, oM), (87, wV), (88, xb), (89, x7), (90, xc), (91, oL)]) (ar ⟨rJ, HU, I3, HZ, I4, rI, trivial⟩) (fn := Tryz.f63) rfl rfl rfl rfl fun hw hs => ?_
 obtain ⟨hk, hl⟩ := hp
 have h1 := hk.1
 have h2 := hk.2
 have hlen := eA hk
 repeat' ((conv => whnf); first | apply aV | (apply al <;> intro h))
 all_goals try conv => whnf
 all_goals try (refine ab.mk ?_; try dsimp only)
 all_goals try refine stay ?_
 . have h0 : c.c = 0 := by assumption
   refine bn.mk Nat (fun p => c.p ≤ p ∧ p ≤ c.e ∧ cg bQ c.a9 p = cg bQ c.a9 c.p) (fun p => ⟨128, [(1, .ptr 0 0), (2, .ptr 1 0), (3, .ptr 2 0)], [.cells (eC { c with p := p }), .cells [.str [], .int .i64 0, .int .i64 0, .int .i64 0], .cells [.int .u8 0, .str []]], []⟩) (fun p => c.e - p) [] c.p ⟨Nat.le_refl _, h1, rfl⟩ ?_ (fun p ⟨p1, p2, p3⟩ _ _ => ?_)
   . refine Go.VG.Sub.mk rfl ?_ ?_ ?_ ?_ <;> (repeat' first | trivial)
   have hx : (c.s.getD p 0).toNat < 256 := UInt8.toNat_lt _
   have hxx : byte (c.s.getD p 0).toNat = c.s.getD p 0 := c5 _
   have hg : p < c.e → c.a9.getD p 0 = c.s.getD p 0 := fun h => by unfold Cu.a9; exact jS h
   have hit : p < c.e → bQ (c.s.getD p 0) = true → cg bQ c.a9 (p + 1) = cg bQ c.a9 c.p := fun h b => by rw [← p3, vL (i := p) (by omega) (by rw [hg h]; exact b)]
   have stop : p = c.e ∨ bQ (c.s.getD p 0) = false → c.aN = ({ c with p := p } : Cu).ez := fun h => by
    unfold Cu.aN
    rw [if_neg (by omega), ← p3, oH (i := p) (by
     rcases Nat.lt_or_ge p c.e with q | q
     . right; rw [hg q]; rcases h with h | h; omega; exact h
     . left; omega)]
   have hd : Cu.ok { c with p := p } := ⟨p2, h2⟩
   have hget : ({ c with p := p } : Cu).get = c.s.getD p 0 := rfl
   have sT : bJ (c.s.getD p 0) = true ↔ ((c.s.getD p 0).toNat = 123 ∨ (c.s.getD p 0).toNat = 125 ∨ (c.s.getD p 0).toNat = 91 ∨ (c.s.getD p 0).toNat = 93 ∨ (c.s.getD p 0).toNat = 58 ∨ (c.s.getD p 0).toNat = 44) := decide_eq_true_iff
   have dT := jK (b := c.s.getD p 0)
   repeat' ((conv => whnf); first | apply ak | (apply al <;> intro h) | with_reducible refine et ?_ fun hc => ?_)
   all_goals try conv => whnf
   all_goals try (refine ab.mk ?_; try dsimp only)
   all_goals (try simp only [aP] at *)
   all_goals first | refine stay ?_ | trivial | omega | (simp (discharger := omega) [-List.getD_eq_getElem?_getD, wR] <;> omega) | skip
   all_goals (try simp only [hxx] at *)
   all_goals first
    | (exfalso; omega)
    | exact ⟨trivial, hd, by omega⟩
    | exact ⟨by omega, trivial, hd, by omega⟩
    | (refine ⟨[], p + 1, ⟨by omega, by omega, hit (by omega) (tW.2 (by omega))⟩, ?_, by omega⟩
       refine Go.VG.Sub.mk rfl ?_ ?_ ?_ ?_ <;> (repeat' first | trivial | apply aj | apply aR | apply eqE | apply dm)
       all_goals (simp (discharger := omega) only [wR]; omega)
       done)
    | skip
   all_goals
    first
    | rw [stop (.inl (by omega))]
    | rw [stop (.inr (qY.2 (by omega)))]
    unfold Cu.ez
    first
    | rw [if_pos (show ({ c with p := p } : Cu).p = ({ c with p := p } : Cu).e by show p = c.e; omega)]
    | rw [if_neg (show ¬ ({ c with p := p } : Cu).p = ({ c with p := p } : Cu).e by show ¬ p = c.e; omega)]
    try rw [hget]
    repeat (first | rw [if_pos (by rw [sT]; omega)] | rw [if_neg (by rw [sT]; omega)] | rw [if_pos (by rw [dT]; omega)] | rw [if_neg (by rw [dT]; omega)] | rw [if_pos (by omega)] | rw [if_neg (by omega)])
    refine a8.mk [] ?_ <;> (repeat' first | trivial | apply aj | apply aR | apply eqG | apply jr | apply dm)
    all_goals (simp (discharger := omega) only [wR]; omega)
 . unfold Cu.aN
   rw [if_pos (by assumption)]
   refine a8.mk [] ?_ <;> (repeat' first | trivial)
def x9 : Sm := fun args σ => match args, σ with
 | [.agg ([.str s_c, .int .i64 (.ofNat a_c), .int .i64 (.ofNat e_c), .int .i64 c_c])], [] => some (True ∧ ((Cu.mk s_c a_c e_c c_c).ok ∧ (Cu.mk s_c a_c e_c c_c).s.length ≤ 10000000), .tuple [.agg (eC (Cu.mk s_c a_c e_c c_c).aN.1), .agg (eT (Cu.mk s_c a_c e_c c_c).aN.2)], none)
 | _, _ => none
theorem I1 : ay 63 x9 := by
 intro args sg pre x r he hp
 unfold x9 at he
 split at he <;> cases he
 . rw [bZ (hp).1]; exact G4 (hp := hp.2) ..
end Go.Proofs.YtllncocibkgjkaaGreat
