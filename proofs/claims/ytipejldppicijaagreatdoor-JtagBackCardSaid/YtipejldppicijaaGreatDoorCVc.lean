/-
  A part of the proof.
-/
import Derived.Test.YtipejldppicijaaGreatDoorCVb
set_option linter.unusedSimpArgs false
set_option linter.unusedVariables false
set_option maxHeartbeats 4000000
namespace Go.Proofs.YtipejldppicijaaGreatDoor
open Go Go.VG
set_option maxRecDepth 100000
def Kp (c d : Cu) : Prop := d.ok ∧ d.s = c.s ∧ d.e = c.e ∧ c.p ≤ d.p
theorem Kp.rfl {c : Cu} (h : c.ok) : Kp c c := ⟨h, Eq.refl _, Eq.refl _, Nat.le_refl _⟩
theorem Kp.trans {a b c : Cu} (h : Kp a b) (g : Kp b c) : Kp a c := ⟨g.1, g.2.1.trans h.2.1, g.2.2.1.trans h.2.2.1, Nat.le_trans h.2.2.2 g.2.2.2⟩
theorem Kp.pass {c : Cu} (h : c.ok) (n : Int) : Kp c (c.pass n) := by
 have := ll h n
 refine ⟨this.1, this.2.1, this.2.2, ?_⟩
 unfold Cu.pass
 repeat' split
 all_goals (try exact Nat.le_refl _)
 exact Nat.le_add_right _ _
theorem Kp.fail {c : Cu} (h : c.ok) (k : Int) : Kp c (c.fail k) := by
 have := kQ h k
 exact ⟨this.1, this.2.1, this.2.2.1, Nat.le_of_eq this.2.2.2.symm⟩
theorem Dy : ∀ (j i u : Nat) (c : Cu), c.ok → Kp c (eX j i u c).2
 | 0, _, _, c, h => Kp.fail h 4
 | j + 1, i, u, c, h => by
   have hb := Kp.pass h 1
   rw [eX]
   repeat' split
   . exact hb
   . exact hb.trans (Kp.fail hb.1 4)
   . exact hb
   . exact hb.trans (Dy j _ _ _ hb.1)
theorem Kp.aO {c : Cu} (h : c.ok) : Kp c c.aO.2 := Dy 10 0 0 c h
theorem Kp.text {c : Cu} (h : c.ok) : Kp c c.text.2 := by
 have hv := Kp.aO h
 unfold Cu.text
 dsimp only
 split
 . exact hv.trans (Kp.fail hv.1 1)
 . exact hv.trans (Kp.pass hv.1 _)
theorem Kp.bP {c : Cu} (h : c.ok) : Kp c c.bP.2 := by
 have hv := Kp.aO h
 unfold Cu.bP
 repeat' split
 . exact hv.trans (Kp.fail hv.1 4)
 . exact hv
 . exact hv
theorem Kp.bf {c : Cu} (h : c.ok) : Kp c c.bf.2 := by
 have hb := Kp.pass h 1
 have hs := Kp.bP hb.1
 unfold Cu.bf
 repeat' split
 . exact hb
 . exact hb.trans hs
 . exact hb.trans hs
 . exact hb
 . exact hb.trans (Kp.fail hb.1 7)
theorem Kp.bJ {c : Cu} (h : c.ok) : Kp c c.bJ.2 := by
 have hs := Kp.bP h
 have hb := hs.trans (Kp.pass hs.1 1)
 unfold Cu.bJ
 repeat' split
 . exact hs
 . exact hb
 . exact hb
 . exact hb.trans (Kp.fail hb.1 7)
theorem Kp.fH {c d : Cu} (h : Kp c d) (id k : Int) : Kp c (fH id k d).2 := by
 unfold Go.Proofs.YtipejldppicijaaGreatDoor.fH
 repeat' split
 . exact h
 . exact h.trans (Kp.fail h.1 4)
 . exact h
theorem Kp.aK {c : Cu} (h : c.ok) (last : Int) : Kp c (c.aK last).2 := by
 have hb := Kp.pass h 1
 have hv := hb.trans (Kp.aO hb.1)
 unfold Cu.aK
 repeat' split
 . exact hb
 . exact hb
 . exact Kp.fH hb _ _
 . exact Kp.fH hv _ _
 . exact hb.trans (Kp.fail hb.1 7)
theorem yy {c : Cu} (h : c.ok) (h0 : c.byte.c = 0) : c.p < c.byte.p := by
 unfold Cu.byte Cu.pass at h0 ⊢
 by_cases q1 : c.c ≠ 0
 . rw [if_pos q1] at h0; exact absurd h0 q1
 rw [if_neg q1] at h0 ⊢
 by_cases q2 : (1 : Int) < 0
 . omega
 rw [if_neg q2] at h0 ⊢
 by_cases q3 : (1 : Int) > c.e - c.p
 . rw [if_pos q3] at h0; cases h0
 rw [if_neg q3]
 show c.p < c.p + 1
 omega
theorem zC {d : Cu} {id k : Int} (h : (fH id k d).1.2 ≠ 0) : (fH id k d).2 = d ∧ d.c = 0 := by
 unfold fH at h ⊢
 split at h
 . exact absurd rfl h
 split at h
 . exact absurd rfl h
 rename_i h1 h2
 rw [if_neg h1, if_neg h2]
 exact ⟨rfl, Decidable.not_not.1 h1⟩
theorem zD {c : Cu} (h : c.ok) {last : Int} (hk : (c.aK last).1.2 ≠ 0) : c.p < (c.aK last).2.p ∧ (c.aK last).2.c = 0 := by
 have hb := Kp.pass h 1
 unfold Cu.aK at hk ⊢
 split at hk
 . exact absurd rfl hk
 rename_i h1
 split at hk
 . exact absurd rfl hk
 rename_i h2
 split at hk
 . rename_i h3
   split at hk
   . rename_i h4
     obtain ⟨e1, e2⟩ := zC hk
     rw [if_neg h1, if_neg h2, if_pos h3, if_pos h4, e1]
     exact ⟨yy h e2, e2⟩
   . rename_i h4
     obtain ⟨e1, e2⟩ := zC hk
     rw [if_neg h1, if_neg h2, if_pos h3, if_neg h4, e1]
     have := Kp.aO hb.1
     have hp := yy h (Decidable.not_not.1 h1)
     exact ⟨Nat.lt_of_lt_of_le hp this.2.2.2, e2⟩
 . exact absurd rfl hk
def n8 (v : SF) : Prop := ∀ k c, c.ok → Kp c (v k c)
theorem qB {v : SF} (hv : n8 v) : n8 (eV v) := fun k c h => by
 have hb := Kp.pass h 1
 unfold eV
 repeat' split
 . exact hb.trans (Kp.fail hb.1 3)
 . exact hb
 . exact hv k c h
theorem wu {f : Cu → Cu} (hf : ∀ c, c.ok → Kp c (f c)) : ∀ (n : Nat) (c : Cu), c.ok → Kp c (fz f n c)
 | 0, c, h => Kp.rfl h
 | n + 1, c, h => by
   rw [fz]
   split
   . exact Kp.rfl h
   . exact (hf c h).trans (wu hf n _ (hf c h).1)
theorem CE {v : SF} (hv : n8 v) : ∀ (n : Nat) (c : Cu) (last : Int), c.ok → Kp c (iU v n c last)
 | 0, c, _, h => Kp.rfl h
 | n + 1, c, last, h => by
   have hf := Kp.aK h last
   rw [iU]
   repeat' split
   . exact Kp.rfl h
   . exact hf
   . exact (hf.trans (hv _ _ hf.1)).trans (CE hv n _ _ (hv _ _ hf.1).1)
theorem CG : n8 il := fun k c h => by
 unfold il
 repeat' split
 . exact Kp.rfl h
 . exact Kp.pass h 1
 . exact Kp.aO h
 . exact Kp.pass h 8
 . exact Kp.text h
 . exact Kp.fail h 7
theorem qD : ∀ d, n8 (aX d)
 | 0 => fun k c h => by
   rw [aX]; split
   . exact Kp.fail h 33
   . exact CG k c h
 | d + 1 => fun k c h => by
   have hv := qD d
   have hl := Kp.bf h
   have hm := Kp.bJ h
   rw [aX]
   repeat' split
   . exact hl.trans (wu (fun c h => qB hv _ c h) _ _ hl.1)
   . exact hm.trans (wu (fun c h => (qB hv _ c h).trans (qB hv _ _ (qB hv _ c h).1)) _ _ hm.1)
   . exact CE hv _ _ _ h
   . exact CG k c h
theorem yP (c : Cu) : 0 ≤ c.bP.1 ∧ c.bP.1 ≤ 2147483647 := by
 unfold Cu.bP
 repeat' split
 all_goals (dsimp only; omega)
theorem vE (c : Cu) : (0 ≤ c.bf.1.1 ∧ c.bf.1.1 ≤ 2147483647) ∧ 0 ≤ c.bf.1.2 ∧ c.bf.1.2 ≤ 15 := by
 have := yP c.byte
 have h256 := c.aQ.toNat_lt
 unfold Cu.bf
 repeat' split
 all_goals (dsimp only; omega)
theorem mhd_b (c : Cu) : (0 ≤ c.bJ.1.1 ∧ c.bJ.1.1 ≤ 2147483647) ∧ (0 ≤ c.bJ.1.2.1 ∧ c.bJ.1.2.1 ≤ 15) ∧ 0 ≤ c.bJ.1.2.2 ∧ c.bJ.1.2.2 ≤ 15 := by
 have := yP c
 have h256 := c.bP.2.aQ.toNat_lt
 unfold Cu.bJ
 repeat' split
 all_goals (dsimp only; omega)
theorem u4 {n : Nat} (h : n < 256) : jI .u8 (n : Int) 15 = ((n % 16 : Nat) : Int) ∧ bn .u8 (n : Int) 4 = ((n / 16 : Nat) : Int) ∧ IntKind.i64.wrap ((n / 16 : Nat) : Int) = ((n / 16 : Nat) : Int) := by
 have e : bn .u8 (n : Int) 4 = ((n / 16 : Nat) : Int) := by
  show (n : Int).fdiv 16 = _
  rw [Int.fdiv_eq_ediv_of_nonneg _ (by decide)]; omega
 exact ⟨vd _ (by omega), e, by rw [bU]; omega⟩
theorem Gy (c : Cu) (hp : c.ok) : OK 131 ([.ptr 0 0]) ([.cells (eC c)]) (.int .i64 c.bP.1) (some [.cells (eC c.bP.2)]) := by
 refine af (C := cx [(68, kb), (35, gD), (66, fX)]) (ah ⟨mz, ib, gK, trivial⟩) (fn := Tryz.f131) rfl rfl rfl rfl fun hw hs => ?_
 have h1 := @ra c
 have hv := ub hp
 repeat' ((conv => whnf); first | apply a9 | apply aJ | (apply al <;> intro h))
 all_goals try conv => whnf
 all_goals try (refine a8.mk ?_; try dsimp only)
 all_goals (try simp only [cg] at *)
 all_goals first | refine stay ?_ | trivial | skip
 all_goals (try (exfalso; exact absurd (by assumption) (nE (c := c.aO.2) (k := 4) (by decide))))
 all_goals
  have he : c.bP = c.bP := rfl
  conv at he => rhs; unfold Cu.bP
  repeat (first | rw [if_pos (by first | assumption | omega)] at he | rw [if_neg (by first | assumption | omega)] at he)
  first
  | (rw [he]
     refine a7.mk [] ?_ <;> (repeat' first | trivial | apply ab | apply au)
     done)
  | (rw [he]
     refine a7.mk [] ?_ <;> (repeat' first | trivial | apply ab | apply au)
     all_goals (rw [bU]; omega)
     done)
  | skip
def td : Sm := fun args σ => match args, σ with
 | [.ptr 0 0], [.cells ([.str s_c, .int .i64 (.ofNat a_c), .int .i64 (.ofNat e_c), .int .i64 c_c])] => some (True ∧ ((Cu.mk s_c a_c e_c c_c).ok), .int .i64 (Cu.mk s_c a_c e_c c_c).bP.1, some [.cells (eC (Cu.mk s_c a_c e_c c_c).bP.2)])
 | _, _ => none
theorem Aw : aa 131 td := by
 intro args sg pre x r he hp
 unfold td at he
 split at he <;> cases he
 . rw [bT (hp).1]; exact Gy (hp := hp.2) ..
theorem Gw (c : Cu) (hp : c.ok) : OK 91 ([.ptr 0 0]) ([.cells (eC c)]) (.tuple [.int .i64 c.bf.1.1, .int .u8 c.bf.1.2]) (some [.cells (eC c.bf.2)]) := by
 refine af (C := cx [(64, iW), (35, gD), (65, mO), (66, fX), (131, td)]) (ah ⟨jL, ib, pI, gK, Aw, trivial⟩) (fn := Tryz.f91) rfl rfl rfl rfl fun hw hs => ?_
 have hb := ll hp 1
 have h256 := c.aQ.toNat_lt
 obtain ⟨a1, a2, a3⟩ := u4 h256
 repeat' ((conv => whnf); first | apply a9 | apply aJ | (apply al <;> intro h))
 all_goals try conv => whnf
 all_goals try (refine a8.mk ?_; try dsimp only)
 all_goals (try simp only [a1, a2, a3, Int.toNat_natCast] at *)
 all_goals (try simp only [cg] at *)
 all_goals first | refine stay ?_ | trivial | (simp (discharger := omega) [-List.getD_eq_getElem?_getD, wR] <;> omega) | skip
 all_goals first
  | exact ⟨trivial, hb.1⟩
  | (exfalso; exact absurd (by assumption) (nE (c := c.byte) (k := 7) (by decide)))
  | (exfalso; omega)
  | skip
 all_goals
  have he : c.bf = c.bf := rfl
  conv at he => rhs; unfold Cu.bf
  repeat (first | rw [if_pos (by first | assumption | omega | exact eD.2 (by assumption) | exact ⟨eD.2 (by assumption), eD.2 (by assumption)⟩)] at he | rw [if_neg (by first | assumption | omega | exact fun q => absurd (eD.1 q) (by assumption) | exact fun q => absurd (eD.1 q.1) (by assumption) | exact fun q => absurd (eD.1 q.2) (by assumption))] at he)
  first
  | (rw [he]
     refine a7.mk [] ?_ <;> (repeat' first | trivial)
     done)
def tc : Sm := fun args σ => match args, σ with
 | [.ptr 0 0], [.cells ([.str s_c, .int .i64 (.ofNat a_c), .int .i64 (.ofNat e_c), .int .i64 c_c])] => some (True ∧ ((Cu.mk s_c a_c e_c c_c).ok), .tuple [.int .i64 (Cu.mk s_c a_c e_c c_c).bf.1.1, .int .u8 (Cu.mk s_c a_c e_c c_c).bf.1.2], some [.cells (eC (Cu.mk s_c a_c e_c c_c).bf.2)])
 | _, _ => none
theorem Av : aa 91 tc := by
 intro args sg pre x r he hp
 unfold tc at he
 split at he <;> cases he
 . rw [bT (hp).1]; exact Gw (hp := hp.2) ..
theorem Gx (c : Cu) (hp : c.ok) : OK 175 ([.ptr 0 0]) ([.cells (eC c)]) (.tuple [.int .i64 c.bJ.1.1, .int .u8 c.bJ.1.2.1, .int .u8 c.bJ.1.2.2]) (some [.cells (eC c.bJ.2)]) := by
 refine af (C := cx [(64, iW), (35, gD), (65, mO), (66, fX), (131, td)]) (ah ⟨jL, ib, pI, gK, Aw, trivial⟩) (fn := Tryz.f175) rfl rfl rfl rfl fun hw hs => ?_
 have hz := Kp.bP hp
 have h256 := c.bP.2.aQ.toNat_lt
 obtain ⟨a1, a2, a3⟩ := u4 h256
 repeat' ((conv => whnf); first | apply a9 | apply aJ | (apply al <;> intro h))
 all_goals try conv => whnf
 all_goals try (refine a8.mk ?_; try dsimp only)
 all_goals (try simp only [a1, a2, a3, Int.toNat_natCast] at *)
 all_goals (try simp only [cg] at *)
 all_goals first | refine stay ?_ | trivial | (simp (discharger := omega) [-List.getD_eq_getElem?_getD, wR] <;> omega) | skip
 all_goals first
  | exact ⟨trivial, hz.1⟩
  | (exfalso; exact absurd (by assumption) (nE (c := c.bP.2.byte) (k := 7) (by decide)))
  | (exfalso; omega)
  | skip
 all_goals
  have he : c.bJ = c.bJ := rfl
  conv at he => rhs; unfold Cu.bJ
  repeat (first | rw [if_pos (by first | assumption | omega | exact eD.2 (by assumption) | exact ⟨eD.2 (by assumption), eD.2 (by assumption)⟩)] at he | rw [if_neg (by first | assumption | omega | exact fun q => absurd (eD.1 q) (by assumption) | exact fun q => absurd (eD.1 q.1) (by assumption) | exact fun q => absurd (eD.1 q.2) (by assumption))] at he)
  first
  | (rw [he]
     refine a7.mk [] ?_ <;> (repeat' first | trivial)
     done)
def wS : Sm := fun args σ => match args, σ with
 | [.ptr 0 0], [.cells ([.str s_c, .int .i64 (.ofNat a_c), .int .i64 (.ofNat e_c), .int .i64 c_c])] => some (True ∧ ((Cu.mk s_c a_c e_c c_c).ok), .tuple [.int .i64 (Cu.mk s_c a_c e_c c_c).bJ.1.1, .int .u8 (Cu.mk s_c a_c e_c c_c).bJ.1.2.1, .int .u8 (Cu.mk s_c a_c e_c c_c).bJ.1.2.2], some [.cells (eC (Cu.mk s_c a_c e_c c_c).bJ.2)])
 | _, _ => none
theorem J5 : aa 175 wS := by
 intro args sg pre x r he hp
 unfold wS at he
 split at he <;> cases he
 . rw [bT (hp).1]; exact Gx (hp := hp.2) ..
end Go.Proofs.YtipejldppicijaaGreatDoor
