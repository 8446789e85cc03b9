/-
  A part of the proof.
-/
import Derived.Test.YtllncocibkgjkaaGreatJTx
set_option linter.unusedSimpArgs false
set_option linter.unusedVariables false
set_option maxHeartbeats 4000000
namespace Go.Proofs.YtllncocibkgjkaaGreat
open Go Go.VG
set_option maxRecDepth 100000
theorem GA (t : List UInt8) (i : Nat) (hp : t.length ≤ 100000000 ∧ i ≤ 900000010) : OK 128 ([.str t, .int .i64 i]) ([]) (.int .i64 (dx t i)) (none) := by
 refine au (C := cx []) (aq trivial) (fn := Tryz.f128) rfl rfl rfl rfl fun hw hs => ?_
 obtain ⟨hl, hi⟩ := hp
 refine aU.mk Nat (fun j => i ≤ j ∧ j ≤ 900000010 ∧ dx t j = dx t i) (fun j => ⟨24, [(0, .str t), (1, .int .i64 j)], [], []⟩) (fun j => 900000011 - j) [] i ⟨Nat.le_refl _, hi, rfl⟩ ?_ (fun j ⟨h1, h2, h3⟩ _ _ => ?_)
 . refine Go.VG.Sub.mk rfl ?_ ?_ ?_ ?_ <;> (repeat' first | trivial)
 have hx : (t.getD j 0).toNat < 256 := UInt8.toNat_lt _
 have dT := mD (b := t.getD j 0)
 have dF := nD (b := t.getD j 0)
 repeat' ((conv => whnf); first | apply ak | (apply al <;> intro h) | with_reducible refine c8 ?_ fun hc => ?_)
 all_goals try conv => whnf
 all_goals try (refine a9.mk ?_; try dsimp only)
 all_goals (try simp only [aK] at *)
 all_goals first | refine stay ?_ | omega | skip
 all_goals first
  | (have e := oU (t := t) (i := j) (by omega) (dT.2 (by omega))
     refine ⟨[], j + 1, ⟨by omega, by omega, by rw [← e]; exact h3⟩, ?_, by omega⟩
     refine Go.VG.Sub.mk rfl ?_ ?_ ?_ ?_ <;> (repeat' first | trivial | apply ae | apply aI)
     (simp (discharger := omega) only [wR]; omega))
  | (have e := mb (t := t) (i := j) (.inr (dF.2 (by omega)))
     rw [← h3, e]
     refine a8.mk [] ?_ <;> (repeat' first | trivial)
     )
  | (have e := mb (t := t) (i := j) (.inl (by omega))
     rw [← h3, e]
     refine a8.mk [] ?_ <;> (repeat' first | trivial)
     )
  | skip
def xC : Sm := fun args σ => match args, σ with
 | [.str t, .int .i64 (.ofNat i)], [] => some (t.length ≤ 100000000 ∧ i ≤ 900000010, .int .i64 (dx t i), none)
 | _, _ => none
theorem II : aw 128 xC := by
 intro args sg pre x r he hp
 unfold xC at he
 split at he <;> cases he
 . exact GA (hp := hp) ..
theorem Gy (t : List UInt8) (i : Nat) (a : UInt8) (b : UInt8) (hp : t.length ≤ 100000000 ∧ i ≤ 900000010) : OK 114 ([.str t, .int .i64 i, bv a, bv b]) ([]) (.bool (bI t i a.toNat b.toNat)) (none) := by
 refine au (C := cx []) (aq trivial) (fn := Tryz.f114) rfl rfl rfl rfl fun hw hs => ?_
 obtain ⟨hl, hi⟩ := hp
 have hx : (t.getD i 0).toNat < 256 := UInt8.toNat_lt _
 have ha : a.toNat < 256 := a.toNat_lt
 have hb : b.toNat < 256 := b.toNat_lt
 repeat' ((conv => whnf); first | apply ak | (apply al <;> intro h) | with_reducible refine c8 ?_ fun hc => ?_)
 all_goals try conv => whnf
 all_goals try (refine a9.mk ?_; try dsimp only)
 all_goals first | refine stay ?_ | omega | skip
 all_goals
  refine a8.mk [] ?_ <;> (repeat' first | trivial | apply ae | apply jF)
  first
  | (exact (eM.2 (by omega)).symm)
  | (exact (oN.2 (by omega)).symm)
  | (cases h : bI t i a.toNat b.toNat with
     | true => have := eM.1 h; simp [-List.getD_eq_getElem?_getD]; omega
     | false => have := oN.1 h; simp [-List.getD_eq_getElem?_getD]; omega)
def Mu : Sm := fun args σ => match args, σ with
 | [.str t, .int .i64 (.ofNat i), .int .u8 n_a, .int .u8 n_b], [] => some ((0 ≤ n_b ∧ n_b ≤ 255) ∧ ((0 ≤ n_a ∧ n_a ≤ 255) ∧ (t.length ≤ 100000000 ∧ i ≤ 900000010)), .bool (bI t i (byte n_a).toNat (byte n_b).toNat), none)
 | _, _ => none
theorem Gx (t : List UInt8) (i : Nat) (hp : t.length ≤ 100000000 ∧ i ≤ 900000010) : OK 115 ([.str t, .int .i64 i]) ([]) (.tuple [.int .i64 (bW t i).1, .int .i64 (bW t i).2]) (none) := by
 refine au (C := cx [(128, xC)]) (aq ⟨II, trivial⟩) (fn := Tryz.f115) rfl rfl rfl rfl fun hw hs => ?_
 obtain ⟨hl, hi⟩ := hp
 have hr := k9 t i
 repeat' ((conv => whnf); first | apply ak | (apply al <;> intro h))
 all_goals try conv => whnf
 all_goals try (refine a9.mk ?_; try dsimp only)
 all_goals first | refine stay ?_ | trivial | skip
 all_goals
  unfold bW
  repeat (first | rw [if_pos (by omega)] | rw [if_neg (by omega)])
  refine a8.mk [] ?_ <;> (repeat' first | trivial)
structure NP where
 w : List UInt8
 b : List UInt8
 p : List UInt8
 e : Nat
 c : Int
def aO (t : List UInt8) (i : Nat) : NP :=
 ⟨sub t (bo t i 45 45) (aM t i).1,
  if (aM t i).2 = 0 ∧ bI t (aM t i).1 46 46 = true then sub t ((aM t i).1 + 1) (bz t (aM t i)).1 else [],
  if (bz t (aM t i)).2 = 0 ∧ bI t (bz t (aM t i)).1 101 69 = true then sub t ((bz t (aM t i)).1 + 1) (bR t i).1 else [],
  (bR t i).1, (bR t i).2⟩
abbrev eNP (x : NP) : List V := [.str x.w, .str x.b, .str x.p, .int .i64 x.e, .int .i64 x.c]
def wu (on : List UInt8 → Nat → UInt8 → UInt8 → Bool) : Sm := fun args σ => match args, σ with
 | [.str t, .int .i64 i, .int .u8 a, .int .u8 b], [] => some ((0 ≤ a ∧ a ≤ 255) ∧ (0 ≤ b ∧ b ≤ 255) ∧ t.length ≤ 100000000 ∧ 0 ≤ i ∧ i ≤ 900000010, .bool (on t i.toNat (byte a) (byte b)), none)
 | _, _ => none
theorem Ir {on : List UInt8 → Nat → UInt8 → UInt8 → Bool} (h : ∀ t i a b, on t i a b = bI t i a.toNat b.toNat) : aw 114 (wu on) := by
 intro args sg pre x r he hp
 unfold wu at he
 split at he <;> cases he
 obtain ⟨h1, h2, h3, h4, h5⟩ := hp
 rename_i i _ _
 obtain ⟨n, rfl⟩ := Int.eq_ofNat_of_zero_le h4
 rw [h, eD h1, eD h2]
 exact Gy _ _ _ _ ⟨h3, by omega⟩
def wq (nd : List UInt8 → Nat → Nat × Int) : Sm := fun args σ => match args, σ with
 | [.str t, .int .i64 i], [] => some (t.length ≤ 100000000 ∧ 0 ≤ i ∧ i ≤ 900000010, .tuple [.int .i64 (nd t i.toNat).1, .int .i64 (nd t i.toNat).2], none)
 | _, _ => none
theorem Io {nd : List UInt8 → Nat → Nat × Int} (h : ∀ t i, nd t i = bW t i) : aw 115 (wq nd) := by
 intro args sg pre x r he hp
 unfold wq at he
 split at he <;> cases he
 obtain ⟨h3, h4, h5⟩ := hp
 rename_i i
 obtain ⟨n, rfl⟩ := Int.eq_ofNat_of_zero_le h4
 rw [h]
 exact Gx _ _ ⟨h3, by omega⟩
theorem wrapS (n : Nat) (h : n ≤ 1000000000) : IntKind.i64.wrap ((n : Int) + 1) = ((n + 1 : Nat) : Int) := by rw [c5]; omega
theorem B6 {t : List UInt8} {j a b : Nat} (h : bI t j a b = true) : j + 1 ≤ t.length := (eM.1 h).1
theorem Jg {t : List UInt8} {j a b : Nat} (h : bI t j a b = true) : ((j + 1 : Nat) : Int) ≤ (t.length : Int) := by have := B6 h; omega
theorem le_i {t : List UInt8} {j : Nat} (h : j ≤ t.length) : (j : Int) ≤ (t.length : Int) := by omega
theorem Je {t : List UInt8} {j : Nat} (h : j ≤ t.length) : ((bW t j).1 : Int) ≤ (t.length : Int) := by have := (kH t j h).2; omega
theorem LJ {t : List UInt8} {a b : Int} (h1 : 0 ≤ a) (h2 : a ≤ b) (h3 : b ≤ (t.length : Int)) : 0 ≤ a ∧ a ≤ b ∧ b ≤ (t.length : Int) := ⟨h1, h2, h3⟩
theorem F3 {on : List UInt8 → Nat → UInt8 → UInt8 → Bool} {nd : List UInt8 → Nat → Nat × Int} (ho : ∀ t i a b, on t i a b = bI t i a.toNat b.toNat) (hn : ∀ t i, nd t i = bW t i) (t : List UInt8) (i : Nat)
   (hl : t.length ≤ 100000000) (hi : i ≤ t.length) : OK 81 [.str t, .int .i64 i] [] (.agg (eNP (aO t i))) none := by
 refine au (C := cx [(114, wu on), (115, wq nd)]) (aq ⟨Ir ho, Io hn, trivial⟩) (fn := Tryz.f81) rfl rfl rfl rfl fun hw hs => ?_
 have G : ∀ j, j ≤ (nd t j).1 ∧ (nd t j).1 ≤ t.length + j := fun j => by
  have := k9 t j
  rw [hn]; unfold bW; repeat' split
  all_goals (dsimp only; omega)
 have L1 : ∀ {j : Nat}, j ≤ t.length → ((nd t j).1 : Int) ≤ (t.length : Int) := fun h => by rw [hn]; exact Je h
 have f0 := G (i)
 have f1 := G (i + 1)
 have f2 := G ((nd t (i)).1 + 1)
 have f3 := G ((nd t (i + 1)).1 + 1)
 have f4 := G (i + 1 + 1)
 have f5 := G (i + 1 + 1 + 1)
 have f6 := G ((nd t ((nd t (i)).1 + 1)).1 + 1)
 have f7 := G ((nd t ((nd t (i + 1)).1 + 1)).1 + 1)
 have f8 := G ((nd t (i + 1 + 1)).1 + 1)
 have f9 := G ((nd t (i + 1 + 1 + 1)).1 + 1)
 have f10 := G ((nd t (i)).1 + 1 + 1)
 have f11 := G ((nd t (i + 1)).1 + 1 + 1)
 have f12 := G (i + 1 + 1 + 1 + 1)
 have f13 := G ((nd t ((nd t (i)).1 + 1)).1 + 1 + 1)
 have f14 := G ((nd t ((nd t (i + 1)).1 + 1)).1 + 1 + 1)
 have f15 := G ((nd t (i + 1 + 1)).1 + 1 + 1)
 have f16 := G ((nd t (i + 1 + 1 + 1)).1 + 1 + 1)
 repeat' ((conv => whnf); first | apply ak | ((first | apply al | apply jN) <;> intro h))
 all_goals try conv => whnf
 all_goals try (refine a9.mk ?_; try dsimp only)
 all_goals (try simp only [show (byte 45).toNat = 45 from rfl, show (byte 48).toNat = 48 from rfl, show (byte 46).toNat = 46 from rfl, show (byte 101).toNat = 101 from rfl, show (byte 69).toNat = 69 from rfl, show (byte 43).toNat = 43 from rfl, cond_true, cond_false, Int.toNat_natCast] at *)
 all_goals (try simp (discharger := omega) only [wrapS, Int.toNat_natCast] at *)
 all_goals clear hw hs
 all_goals (try simp only [ho, show (byte 45).toNat = 45 from rfl, show (byte 48).toNat = 48 from rfl, show (byte 46).toNat = 46 from rfl, show (byte 101).toNat = 101 from rfl, show (byte 69).toNat = 69 from rfl, show (byte 43).toNat = 43 from rfl] at *)
 all_goals first
  | (show a8 _ _ _ _ _ _; skip)
  | (refine LJ ?_ ?_ ?_
     . omega
     . omega
     . repeat' (first | exact Jg (by assumption) | exact le_i hi | refine L1 ?_ | exact B6 (by assumption) | exact hi)
       done)
  | (refine ⟨by omega, by omega, ?_⟩
     omega)
  | skip
 all_goals (simp only [hn] at *)
 all_goals clear f0 f1 f2 f3 f4 f5 f6 f7 f8 f9 f10 f11 f12 f13 f14 f15 f16 G L1 ho hn
 all_goals
  simp only [aO, bR, gj, bz, aM, bo, *, if_true, if_false, and_self, and_true, true_and, and_false, false_and, Bool.false_eq_true, reduceCtorEq, if_pos, if_neg, not_false_eq_true]
  refine a8.mk [] ?_ <;> (repeat' first | trivial)
theorem zJ (t : List UInt8) (i : Nat) (hp : t.length ≤ 100000000 ∧ i ≤ t.length) : OK 81 ([.str t, .int .i64 i]) ([]) (.agg (eNP (aO t i))) (none) := by
 exact F3 (on := fun t i a b => bI t i a.toNat b.toNat) (nd := bW) (fun _ _ _ _ => rfl) (fun _ _ => rfl) t i hp.1 hp.2
def xz : Sm := fun args σ => match args, σ with
 | [.str t, .int .i64 (.ofNat i)], [] => some (t.length ≤ 100000000 ∧ i ≤ t.length, .agg (eNP (aO t i)), none)
 | _, _ => none
theorem IE : aw 81 xz := by
 intro args sg pre x r he hp
 unfold xz at he
 split at he <;> cases he
 . exact zJ (hp := hp) ..
def wv (sp : List UInt8 → Nat → NP) : Sm := fun args σ => match args, σ with
 | [.str t, .int .i64 (.ofNat i)], [] => some (t.length ≤ 100000000 ∧ i ≤ t.length, .agg (eNP (sp t i)), none)
 | _, _ => none
theorem IV {sp : List UInt8 → Nat → NP} (h : ∀ t i, sp t i = aO t i) : aw 81 (wv sp) := by
 intro args sg pre x r he hp
 unfold wv at he
 split at he <;> cases he
 rw [h]
 exact zJ _ _ hp
theorem Gu {sp : List UInt8 → Nat → NP} (hsp : ∀ t i, sp t i = aO t i) (c : Cu) (hk : c.ok) (hl : c.s.length ≤ 100000000) : OK 89 [.agg (eC c)] [] (.tuple [.agg (eC c.fP.1), .str c.fP.2]) none := by
 refine au (C := cx [(81, wv sp), (91, oY)]) (aq ⟨IV hsp, s8, trivial⟩) (fn := Tryz.f89) rfl rfl rfl rfl fun hw hs => ?_
 have h1 := hk.1
 have h2 := hk.2
 have hlen := eB hk
 have htx : c.s.take c.e = c.aa := rfl
 have hge := qx c.aa c.p (by omega)
 have e1 : (sp c.aa c.p).e = (bR c.aa c.p).1 := by rw [hsp]; rfl
 have e2 : (sp c.aa c.p).c = (bR c.aa c.p).2 := by rw [hsp]; rfl
 repeat' ((conv => whnf); first | apply ak | apply aW | (apply al <;> intro h))
 all_goals try conv => whnf
 all_goals try (refine a9.mk ?_; try dsimp only)
 all_goals (try simp only [Int.toNat_natCast, htx, e1, e2] at *)
 all_goals (try simp only [aK] at *)
 all_goals first | refine stay ?_ | trivial | omega | skip
 all_goals
  unfold Cu.fP
  repeat (first | rw [if_pos (by omega)] | rw [if_neg (by omega)])
  refine a8.mk [] ?_ <;> (repeat' first | trivial)
theorem Gv (c : Cu) (hp : c.ok ∧ c.s.length ≤ 100000000) : OK 89 ([.agg (eC c)]) ([]) (.tuple [.agg (eC c.fP.1), .str c.fP.2]) (none) := by
 exact Gu (sp := aO) (fun _ _ => rfl) c hp.1 hp.2
def xy : Sm := fun args σ => match args, σ with
 | [.agg ([.str s_c, .int .i64 (.ofNat a_c), .int .i64 (.ofNat e_c), .int .i64 c_c])], [] => some (True ∧ ((Cu.mk s_c a_c e_c c_c).ok ∧ (Cu.mk s_c a_c e_c c_c).s.length ≤ 100000000), .tuple [.agg (eC (Cu.mk s_c a_c e_c c_c).fP.1), .str (Cu.mk s_c a_c e_c c_c).fP.2], none)
 | _, _ => none
theorem ID : aw 89 xy := by
 intro args sg pre x r he hp
 unfold xy at he
 split at he <;> cases he
 . rw [c7 (hp).1]; exact Gv (hp := hp.2) ..
theorem GD (b : UInt8) (hp : True) : OK 67 ([bv b]) ([]) (.bool (cj b)) (none) := by
 refine au (C := cx []) (aq trivial) (fn := Tryz.f67) rfl rfl rfl rfl fun hw hs => ?_
 have hb : b.toNat < 256 := b.toNat_lt
 have sT : cj b = true ↔ (b.toNat = 123 ∨ b.toNat = 125 ∨ b.toNat = 91 ∨ b.toNat = 93 ∨ b.toNat = 58 ∨ b.toNat = 44) := decide_eq_true_iff
 repeat' ((conv => whnf); (apply al <;> intro h))
 all_goals try conv => whnf
 all_goals try (refine a9.mk ?_; try dsimp only)
 all_goals try refine stay ?_
 all_goals
  refine a8.mk [] ?_ <;> (repeat' first | trivial | apply ae | apply jF)
  first
  | exact (sT.2 (by omega)).symm
  | (cases q : cj b with
     | true => have := sT.1 q; simp; omega
     | false =>
      have z : ¬ (b.toNat = 123 ∨ b.toNat = 125 ∨ b.toNat = 91 ∨ b.toNat = 93 ∨ b.toNat = 58 ∨ b.toNat = 44) := fun h => by rw [sT.2 h] at q; cases q
      simp; omega)
def qS : Sm := fun args σ => match args, σ with
 | [.int .u8 n_b], [] => some ((0 ≤ n_b ∧ n_b ≤ 255) ∧ (True), .bool (cj (byte n_b)), none)
 | _, _ => none
theorem vf : aw 67 qS := by
 intro args sg pre x r he hp
 unfold qS at he
 split at he <;> cases he
 . rw [eD (hp).1]; exact GD (hp := hp.2) ..
theorem GF (k : UInt8) (hp : True) : OK 105 ([bv k]) ([]) (.str (spell k)) (none) := by
 refine au (C := cx []) (aq trivial) (fn := Tryz.f105) rfl rfl rfl rfl fun hw hs => ?_
 have hb : k.toNat < 256 := k.toNat_lt
 repeat' ((conv => whnf); (apply al <;> intro h))
 all_goals try conv => whnf
 all_goals try (refine a9.mk ?_; try dsimp only)
 all_goals (try simp only [aK] at *)
 all_goals try refine stay ?_
 all_goals
  unfold spell
  repeat (first | rw [if_pos (by omega)] | rw [if_neg (by omega)])
  refine a8.mk [] ?_ <;> (repeat' first | trivial)
def xF : Sm := fun args σ => match args, σ with
 | [.int .u8 n_k], [] => some ((0 ≤ n_k ∧ n_k ≤ 255) ∧ (True), .str (spell (byte n_k)), none)
 | _, _ => none
theorem IL : aw 105 xF := by
 intro args sg pre x r he hp
 unfold xF at he
 split at he <;> cases he
 . rw [eD (hp).1]; exact GF (hp := hp.2) ..
theorem GG (c : Cu) (k : UInt8) (t : List UInt8) (hp : True) : OK 88 ([.agg (eC c), bv k, .str t]) ([]) (.tuple [.agg (eC c), .agg (eT (if c.c = 0 then ⟨k, t⟩ else .no))]) (none) := by
 refine au (C := cx []) (aq trivial) (fn := Tryz.f88) rfl rfl rfl rfl fun hw hs => ?_
 have hb : k.toNat < 256 := k.toNat_lt
 repeat' ((conv => whnf); first | apply aW | (apply al <;> intro h))
 all_goals try conv => whnf
 all_goals try (refine a9.mk ?_; try dsimp only)
 all_goals try refine stay ?_
 all_goals
  first | rw [if_pos (by assumption)] | rw [if_neg (by assumption)]
  refine a8.mk [] ?_ <;> (repeat' first | trivial)
def xG : Sm := fun args σ => match args, σ with
 | [.agg ([.str s_c, .int .i64 (.ofNat a_c), .int .i64 (.ofNat e_c), .int .i64 c_c]), .int .u8 n_k, .str t], [] => some ((0 ≤ n_k ∧ n_k ≤ 255) ∧ (True ∧ (True)), .tuple [.agg (eC (Cu.mk s_c a_c e_c c_c)), .agg (eT (if (Cu.mk s_c a_c e_c c_c).c = 0 then ⟨(byte n_k), t⟩ else .no))], none)
 | _, _ => none
theorem IM : aw 88 xG := by
 intro args sg pre x r he hp
 unfold xG at he
 split at he <;> cases he
 . rw [eD (hp).1]; rw [c7 (hp.2).1]; exact GG (hp := hp.2.2) ..
theorem GH (c : Cu) (k : UInt8) (hp : c.ok ∧ c.s.length ≤ 100000000) : OK 90 ([.agg (eC c), bv k]) ([]) (.tuple [.agg (eC (c.cF k).1), .agg (eT (c.cF k).2)]) (none) := by
 refine au (C := cx [(105, xF), (91, oY)]) (aq ⟨IL, s8, trivial⟩) (fn := Tryz.f90) rfl rfl rfl rfl fun hw hs => ?_
 obtain ⟨hk, hl⟩ := hp
 have h1 := hk.1
 have h2 := hk.2
 have hb : k.toNat < 256 := k.toNat_lt
 have hsl : (spell k).length ≤ 5 := by
  unfold spell; repeat' split
  all_goals simp
 have hkk : byte k.toNat = k := cg _
 repeat' ((conv => whnf); apply ak)
 all_goals try conv => whnf
 all_goals try (refine a9.mk ?_; try dsimp only)
 all_goals first | refine stay ?_ | (simp (discharger := omega) [-List.getD_eq_getElem?_getD, wR] <;> omega) | skip
 all_goals (try simp only [hkk] at *)
 refine aU.mk Nat (fun i => i ≤ (spell k).length ∧ dj c (spell k) 0 = dj c ((spell k).drop i) i) (fun i => ⟨49, [(1, bv k), (2, .ptr 0 0), (4, .ptr 1 0), (5, .ptr 2 0), (6, .str (spell k)), (7, .int .i64 i)], [.cells (eC c), .cells [.str [], .int .i64 0, .int .i64 0, .int .i64 0], .cells [.int .u8 0, .str []]], []⟩) (fun i => (spell k).length - i) [] 0 ⟨by omega, rfl⟩ ?_ (fun i ⟨hi, he⟩ _ _ => ?_)
 . refine Go.VG.Sub.mk rfl ?_ ?_ ?_ ?_ <;> (repeat' first | trivial)
 have hx : ((spell k).getD i 0).toNat < 256 := UInt8.toNat_lt _
 have hy : (c.s.getD (c.p + i) 0).toNat < 256 := UInt8.toNat_lt _
 have hdr : i < (spell k).length → (spell k).drop i = (spell k).getD i 0 :: (spell k).drop (i + 1) := fun h => by
  rw [List.drop_eq_getElem_cons h, List.getD_eq_getElem?_getD, List.getElem?_eq_getElem h]; rfl
 have hw2 : IntKind.i64.wrap ((c.p : Int) + i) = ((c.p + i : Nat) : Int) := by (simp (discharger := omega) only [wR]; omega)
 have hw3 : IntKind.i64.wrap ((c.p : Int) + (spell k).length) = ((c.p + (spell k).length : Nat) : Int) := by (simp (discharger := omega) only [wR]; omega)
 repeat' ((conv => whnf); first | apply ak | apply aW | (apply al <;> intro h) | with_reducible (first | refine c8 ?_ fun hc => ?_ | refine eH ?_ fun hc => ?_))
 all_goals try conv => whnf
 all_goals try (refine a9.mk ?_; try dsimp only)
 all_goals (try simp only [hw2, hw3, Int.toNat_natCast] at *)
 all_goals (try simp only [aK] at *)
 all_goals first | refine stay ?_ | trivial | omega | skip
 . have z : dj c (spell k) 0 = 1 := by rw [he, hdr (by omega)]; unfold dj; rw [if_pos (by omega)]
   unfold Cu.cF
   rw [z, if_pos (by decide)]
   refine a8.mk [] ?_ <;> (repeat' first | trivial)
 . have z : dj c (spell k) 0 = dj c ((spell k).drop (i + 1)) (i + 1) := by
     rw [he, hdr (by omega)]
     conv => lhs; unfold dj
     rw [if_neg (by omega), if_neg (fun e => e (UInt8.toNat_inj.1 (by omega)))]
   refine ⟨[], i + 1, ⟨by omega, z⟩, ?_, by omega⟩
   refine Go.VG.Sub.mk rfl ?_ ?_ ?_ ?_ <;> (repeat' first | trivial | apply ae | apply aI)
   all_goals (simp (discharger := omega) only [wR]; omega)
 . have z : dj c (spell k) 0 = 3 := by
     rw [he, hdr (by omega)]; unfold dj
     rw [if_neg (by omega), if_pos (fun e => by have := congrArg UInt8.toNat e; omega)]
   unfold Cu.cF
   rw [z, if_pos (by decide)]
   refine a8.mk [] ?_ <;> (repeat' first | trivial)
 . have z : dj c (spell k) 0 = 0 := by rw [he, List.drop_eq_nil_of_le (by omega)]; unfold dj; rfl
   unfold Cu.cF
   rw [z, if_neg (by decide)]
   refine a8.mk [] ?_ <;> (repeat' first | trivial)
def xH : Sm := fun args σ => match args, σ with
 | [.agg ([.str s_c, .int .i64 (.ofNat a_c), .int .i64 (.ofNat e_c), .int .i64 c_c]), .int .u8 n_k], [] => some ((0 ≤ n_k ∧ n_k ≤ 255) ∧ (True ∧ ((Cu.mk s_c a_c e_c c_c).ok ∧ (Cu.mk s_c a_c e_c c_c).s.length ≤ 100000000)), .tuple [.agg (eC ((Cu.mk s_c a_c e_c c_c).cF (byte n_k)).1), .agg (eT ((Cu.mk s_c a_c e_c c_c).cF (byte n_k)).2)], none)
 | _, _ => none
theorem IN : aw 90 xH := by
 intro args sg pre x r he hp
 unfold xH at he
 split at he <;> cases he
 . rw [eD (hp).1]; rw [c7 (hp.2).1]; exact GH (hp := hp.2.2) ..
theorem GC (c : Cu) (hp : c.ok ∧ c.s.length ≤ 10000000) : OK 63 ([.agg (eC c)]) ([]) (.tuple [.agg (eC c.aX.1), .agg (eT c.aX.2)]) (none) := by
 refine au (C := cx [(67, qS), (87, xq), (88, xG), (89, xy), (90, xH), (91, oY)]) (aq ⟨vf, Iy, IM, ID, IN, s8, trivial⟩) (fn := Tryz.f63) rfl rfl rfl rfl fun hw hs => ?_
 obtain ⟨hk, hl⟩ := hp
 have h1 := hk.1
 have h2 := hk.2
 have hlen := eB hk
 repeat' ((conv => whnf); first | apply aW | (apply al <;> intro h))
 all_goals try conv => whnf
 all_goals try (refine a9.mk ?_; try dsimp only)
 all_goals try refine stay ?_
 . have h0 : c.c = 0 := by assumption
   refine aU.mk Nat (fun p => c.p ≤ p ∧ p ≤ c.e ∧ cu cm c.aa p = cu cm c.aa c.p) (fun p => ⟨128, [(1, .ptr 0 0), (2, .ptr 1 0), (3, .ptr 2 0)], [.cells (eC { c with p := p }), .cells [.str [], .int .i64 0, .int .i64 0, .int .i64 0], .cells [.int .u8 0, .str []]], []⟩) (fun p => c.e - p) [] c.p ⟨Nat.le_refl _, h1, rfl⟩ ?_ (fun p ⟨p1, p2, p3⟩ _ _ => ?_)
   . refine Go.VG.Sub.mk rfl ?_ ?_ ?_ ?_ <;> (repeat' first | trivial)
   have hx : (c.s.getD p 0).toNat < 256 := UInt8.toNat_lt _
   have hxx : byte (c.s.getD p 0).toNat = c.s.getD p 0 := cg _
   have hg : p < c.e → c.aa.getD p 0 = c.s.getD p 0 := fun h => by unfold Cu.aa; exact jL h
   have hit : p < c.e → cm (c.s.getD p 0) = true → cu cm c.aa (p + 1) = cu cm c.aa c.p := fun h b => by rw [← p3, w9 (i := p) (by omega) (by rw [hg h]; exact b)]
   have stop : p = c.e ∨ cm (c.s.getD p 0) = false → c.aX = ({ c with p := p } : Cu).fK := fun h => by
    unfold Cu.aX
    rw [if_neg (by omega), ← p3, sM (i := p) (by
     rcases Nat.lt_or_ge p c.e with q | q
     . right; rw [hg q]; rcases h with h | h; omega; exact h
     . left; omega)]
   have hd : Cu.ok { c with p := p } := ⟨p2, h2⟩
   have hget : ({ c with p := p } : Cu).get = c.s.getD p 0 := rfl
   have sT : cj (c.s.getD p 0) = true ↔ ((c.s.getD p 0).toNat = 123 ∨ (c.s.getD p 0).toNat = 125 ∨ (c.s.getD p 0).toNat = 91 ∨ (c.s.getD p 0).toNat = 93 ∨ (c.s.getD p 0).toNat = 58 ∨ (c.s.getD p 0).toNat = 44) := decide_eq_true_iff
   have dT := mD (b := c.s.getD p 0)
   repeat' ((conv => whnf); first | apply ak | (apply al <;> intro h) | with_reducible refine c8 ?_ fun hc => ?_)
   all_goals try conv => whnf
   all_goals try (refine a9.mk ?_; try dsimp only)
   all_goals (try simp only [aK] at *)
   all_goals first | refine stay ?_ | trivial | omega | (simp (discharger := omega) [-List.getD_eq_getElem?_getD, wR] <;> omega) | skip
   all_goals (try simp only [hxx] at *)
   all_goals first
    | (exfalso; omega)
    | exact ⟨trivial, hd, by omega⟩
    | exact ⟨by omega, trivial, hd, by omega⟩
    | (refine ⟨[], p + 1, ⟨by omega, by omega, hit (by omega) (ub.2 (by omega))⟩, ?_, by omega⟩
       refine Go.VG.Sub.mk rfl ?_ ?_ ?_ ?_ <;> (repeat' first | trivial | apply ae | apply aI | apply gC | apply bU)
       all_goals (simp (discharger := omega) only [wR]; omega)
       done)
    | skip
   all_goals
    first
    | rw [stop (.inl (by omega))]
    | rw [stop (.inr (yQ.2 (by omega)))]
    unfold Cu.fK
    first
    | rw [if_pos (show ({ c with p := p } : Cu).p = ({ c with p := p } : Cu).e by show p = c.e; omega)]
    | rw [if_neg (show ¬ ({ c with p := p } : Cu).p = ({ c with p := p } : Cu).e by show ¬ p = c.e; omega)]
    try rw [hget]
    repeat (first | rw [if_pos (by rw [sT]; omega)] | rw [if_neg (by rw [sT]; omega)] | rw [if_pos (by rw [dT]; omega)] | rw [if_neg (by rw [dT]; omega)] | rw [if_pos (by omega)] | rw [if_neg (by omega)])
    refine a8.mk [] ?_ <;> (repeat' first | trivial | apply ae | apply aI | apply fZ | apply hP | apply bU)
    all_goals (simp (discharger := omega) only [wR]; omega)
 . unfold Cu.aX
   rw [if_pos (by assumption)]
   refine a8.mk [] ?_ <;> (repeat' first | trivial)
def xE : Sm := fun args σ => match args, σ with
 | [.agg ([.str s_c, .int .i64 (.ofNat a_c), .int .i64 (.ofNat e_c), .int .i64 c_c])], [] => some (True ∧ ((Cu.mk s_c a_c e_c c_c).ok ∧ (Cu.mk s_c a_c e_c c_c).s.length ≤ 10000000), .tuple [.agg (eC (Cu.mk s_c a_c e_c c_c).aX.1), .agg (eT (Cu.mk s_c a_c e_c c_c).aX.2)], none)
 | _, _ => none
theorem IK : aw 63 xE := by
 intro args sg pre x r he hp
 unfold xE at he
 split at he <;> cases he
 . rw [c7 (hp).1]; exact GC (hp := hp.2) ..
end Go.Proofs.YtllncocibkgjkaaGreat
