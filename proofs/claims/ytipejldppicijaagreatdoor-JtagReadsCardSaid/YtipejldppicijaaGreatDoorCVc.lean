/-
  A part of the proof.
-/
import Derived.Test.YtipejldppicijaaGreatDoorCVb
set_option linter.unusedSimpArgs false
set_option linter.unusedVariables false
set_option maxHeartbeats 4000000
namespace Go.Proofs.YtipejldppicijaaGreatDoor
open Go Go.VG
set_option maxRecDepth 100000
def Kp (c d : Cu) : Prop := d.ok ∧ d.s = c.s ∧ d.e = c.e ∧ c.p ≤ d.p
theorem Kp.rfl {c : Cu} (h : c.ok) : Kp c c := ⟨h, Eq.refl _, Eq.refl _, Nat.le_refl _⟩
theorem Kp.trans {a b c : Cu} (h : Kp a b) (g : Kp b c) : Kp a c := ⟨g.1, g.2.1.trans h.2.1, g.2.2.1.trans h.2.2.1, Nat.le_trans h.2.2.2 g.2.2.2⟩
theorem Kp.pass {c : Cu} (h : c.ok) (n : Int) : Kp c (c.pass n) := by
 have := gp h n
 refine ⟨this.1, this.2.1, this.2.2, ?_⟩
 unfold Cu.pass
 repeat' split
 all_goals (try exact Nat.le_refl _)
 exact Nat.le_add_right _ _
theorem Kp.fail {c : Cu} (h : c.ok) (k : Int) : Kp c (c.fail k) := by
 have := g9 h k
 exact ⟨this.1, this.2.1, this.2.2.1, Nat.le_of_eq this.2.2.2.symm⟩
theorem zQ : ∀ (j i u : Nat) (c : Cu), c.ok → Kp c (dn j i u c).2
 | 0, _, _, c, h => Kp.fail h 4
 | j + 1, i, u, c, h => by
   have hb := Kp.pass h 1
   rw [dn]
   repeat' split
   . exact hb
   . exact hb.trans (Kp.fail hb.1 4)
   . exact hb
   . exact hb.trans (zQ j _ _ _ hb.1)
theorem Kp.av {c : Cu} (h : c.ok) : Kp c c.av.2 := zQ 10 0 0 c h
theorem Kp.text {c : Cu} (h : c.ok) : Kp c c.text.2 := by
 have hv := Kp.av h
 unfold Cu.text
 dsimp only
 split
 . exact hv.trans (Kp.fail hv.1 1)
 . exact hv.trans (Kp.pass hv.1 _)
theorem Kp.ba {c : Cu} (h : c.ok) : Kp c c.ba.2 := by
 have hv := Kp.av h
 unfold Cu.ba
 repeat' split
 . exact hv.trans (Kp.fail hv.1 4)
 . exact hv
 . exact hv
theorem Kp.aJ {c : Cu} (h : c.ok) : Kp c c.aJ.2 := by
 have hb := Kp.pass h 1
 have hs := Kp.ba hb.1
 unfold Cu.aJ
 repeat' split
 . exact hb
 . exact hb.trans hs
 . exact hb.trans hs
 . exact hb
 . exact hb.trans (Kp.fail hb.1 7)
theorem Kp.aT {c : Cu} (h : c.ok) : Kp c c.aT.2 := by
 have hs := Kp.ba h
 have hb := hs.trans (Kp.pass hs.1 1)
 unfold Cu.aT
 repeat' split
 . exact hs
 . exact hb
 . exact hb
 . exact hb.trans (Kp.fail hb.1 7)
theorem Kp.dj {c d : Cu} (h : Kp c d) (id k : Int) : Kp c (dj id k d).2 := by
 unfold Go.Proofs.YtipejldppicijaaGreatDoor.dj
 repeat' split
 . exact h
 . exact h.trans (Kp.fail h.1 4)
 . exact h
theorem Kp.aC {c : Cu} (h : c.ok) (last : Int) : Kp c (c.aC last).2 := by
 have hb := Kp.pass h 1
 have hv := hb.trans (Kp.av hb.1)
 unfold Cu.aC
 repeat' split
 . exact hb
 . exact hb
 . exact Kp.dj hb _ _
 . exact Kp.dj hv _ _
 . exact hb.trans (Kp.fail hb.1 7)
theorem vd {c : Cu} (h : c.ok) (h0 : c.byte.c = 0) : c.p < c.byte.p := by
 unfold Cu.byte Cu.pass at h0 ⊢
 by_cases q1 : c.c ≠ 0
 . rw [if_pos q1] at h0; exact absurd h0 q1
 rw [if_neg q1] at h0 ⊢
 by_cases q2 : (1 : Int) < 0
 . omega
 rw [if_neg q2] at h0 ⊢
 by_cases q3 : (1 : Int) > c.e - c.p
 . rw [if_pos q3] at h0; cases h0
 rw [if_neg q3]
 show c.p < c.p + 1
 omega
theorem wq {d : Cu} {id k : Int} (h : (dj id k d).1.2 ≠ 0) : (dj id k d).2 = d ∧ d.c = 0 := by
 unfold dj at h ⊢
 split at h
 . exact absurd rfl h
 split at h
 . exact absurd rfl h
 rename_i h1 h2
 rw [if_neg h1, if_neg h2]
 exact ⟨rfl, Decidable.not_not.1 h1⟩
theorem px {c : Cu} (h : c.ok) {last : Int} (hk : (c.aC last).1.2 ≠ 0) : c.p < (c.aC last).2.p ∧ (c.aC last).2.c = 0 := by
 have hb := Kp.pass h 1
 unfold Cu.aC at hk ⊢
 split at hk
 . exact absurd rfl hk
 rename_i h1
 split at hk
 . exact absurd rfl hk
 rename_i h2
 split at hk
 . rename_i h3
   split at hk
   . rename_i h4
     obtain ⟨e1, e2⟩ := wq hk
     rw [if_neg h1, if_neg h2, if_pos h3, if_pos h4, e1]
     exact ⟨vd h e2, e2⟩
   . rename_i h4
     obtain ⟨e1, e2⟩ := wq hk
     rw [if_neg h1, if_neg h2, if_pos h3, if_neg h4, e1]
     have := Kp.av hb.1
     have hp := vd h (Decidable.not_not.1 h1)
     exact ⟨Nat.lt_of_lt_of_le hp this.2.2.2, e2⟩
 . exact absurd rfl hk
def lv (v : SF) : Prop := ∀ k c, c.ok → Kp c (v k c)
theorem oe {v : SF} (hv : lv v) : lv (dQ v) := fun k c h => by
 have hb := Kp.pass h 1
 unfold dQ
 repeat' split
 . exact hb.trans (Kp.fail hb.1 3)
 . exact hb
 . exact hv k c h
theorem tv {f : Cu → Cu} (hf : ∀ c, c.ok → Kp c (f c)) : ∀ (n : Nat) (c : Cu), c.ok → Kp c (c9 f n c)
 | 0, c, h => Kp.rfl h
 | n + 1, c, h => by
   rw [c9]
   split
   . exact Kp.rfl h
   . exact (hf c h).trans (tv hf n _ (hf c h).1)
theorem tq {v : SF} (hv : lv v) : ∀ (n : Nat) (c : Cu) (last : Int), c.ok → Kp c (gR v n c last)
 | 0, c, _, h => Kp.rfl h
 | n + 1, c, last, h => by
   have hf := Kp.aC h last
   rw [gR]
   repeat' split
   . exact Kp.rfl h
   . exact hf
   . exact (hf.trans (hv _ _ hf.1)).trans (tq hv n _ _ (hv _ _ hf.1).1)
theorem z9 : lv ik := fun k c h => by
 unfold ik
 repeat' split
 . exact Kp.rfl h
 . exact Kp.pass h 1
 . exact Kp.av h
 . exact Kp.pass h 8
 . exact Kp.text h
 . exact Kp.fail h 7
theorem j7 : ∀ d, lv (aE d)
 | 0 => fun k c h => by
   rw [aE]; split
   . exact Kp.fail h 33
   . exact z9 k c h
 | d + 1 => fun k c h => by
   have hv := j7 d
   have hl := Kp.aJ h
   have hm := Kp.aT h
   rw [aE]
   repeat' split
   . exact hl.trans (tv (fun c h => oe hv _ c h) _ _ hl.1)
   . exact hm.trans (tv (fun c h => (oe hv _ c h).trans (oe hv _ _ (oe hv _ c h).1)) _ _ hm.1)
   . exact tq hv _ _ _ h
   . exact z9 k c h
theorem vr (c : Cu) : 0 ≤ c.ba.1 ∧ c.ba.1 ≤ 2147483647 := by
 unfold Cu.ba
 repeat' split
 all_goals (dsimp only; omega)
theorem mh (c : Cu) : (0 ≤ c.aJ.1.1 ∧ c.aJ.1.1 ≤ 2147483647) ∧ 0 ≤ c.aJ.1.2 ∧ c.aJ.1.2 ≤ 15 := by
 have := vr c.byte
 have h256 := c.ao.toNat_lt
 unfold Cu.aJ
 repeat' split
 all_goals (dsimp only; omega)
theorem nR (c : Cu) : (0 ≤ c.aT.1.1 ∧ c.aT.1.1 ≤ 2147483647) ∧ (0 ≤ c.aT.1.2.1 ∧ c.aT.1.2.1 ≤ 15) ∧ 0 ≤ c.aT.1.2.2 ∧ c.aT.1.2.2 ≤ 15 := by
 have := vr c
 have h256 := c.ba.2.ao.toNat_lt
 unfold Cu.aT
 repeat' split
 all_goals (dsimp only; omega)
theorem u4 {n : Nat} (h : n < 256) : jL .u8 (n : Int) 15 = ((n % 16 : Nat) : Int) ∧ cB .u8 (n : Int) 4 = ((n / 16 : Nat) : Int) ∧ IntKind.i64.wrap ((n / 16 : Nat) : Int) = ((n / 16 : Nat) : Int) := by
 have e : cB .u8 (n : Int) 4 = ((n / 16 : Nat) : Int) := by
  show (n : Int).fdiv 16 = _
  rw [Int.fdiv_eq_ediv_of_nonneg _ (by decide)]; omega
 exact ⟨wJ _ (by omega), e, by rw [bL]; omega⟩
theorem Cj (c : Cu) (hp : c.ok) : OK 131 ([.ptr 0 0]) ([.cells (eC c)]) (.int .i64 c.ba.1) (some [.cells (eC c.ba.2)]) := by
 refine ah (C := cx [(68, jb), (35, fJ), (66, eZ)]) (ai ⟨kT, gj, fW, trivial⟩) (fn := Tryz.f131) rfl rfl rfl rfl fun hw hs => ?_
 have h1 := @mR c
 have hv := lp hp
 repeat' ((conv => whnf); first | apply ab | apply ax | (apply ae <;> intro h))
 all_goals try conv => whnf
 all_goals try (refine a7.mk ?_; try dsimp only)
 all_goals (try simp only [aU] at *)
 all_goals first | refine stay ?_ | trivial | skip
 all_goals (try (exfalso; exact absurd (by assumption) (kK (c := c.av.2) (k := 4) (by decide))))
 all_goals
  have he : c.ba = c.ba := rfl
  conv at he => rhs; unfold Cu.ba
  repeat (first | rw [if_pos (by first | assumption | omega)] at he | rw [if_neg (by first | assumption | omega)] at he)
  first
  | (rw [he]
     refine a6.mk [] ?_ <;> (repeat' first | trivial | apply ak | apply az)
     done)
  | (rw [he]
     refine a6.mk [] ?_ <;> (repeat' first | trivial | apply ak | apply az)
     all_goals (rw [bL]; omega)
     done)
  | skip
def qv : Sm := fun args σ => match args, σ with
 | [.ptr 0 0], [.cells ([.str s_c, .int .i64 (.ofNat a_c), .int .i64 (.ofNat e_c), .int .i64 c_c])] => some (True ∧ ((Cu.mk s_c a_c e_c c_c).ok), .int .i64 (Cu.mk s_c a_c e_c c_c).ba.1, some [.cells (eC (Cu.mk s_c a_c e_c c_c).ba.2)])
 | _, _ => none
theorem xf : a9 131 qv := by
 intro args sg pre x r he hp
 unfold qv at he
 split at he <;> cases he
 . rw [bP (hp).1]; exact Cj (hp := hp.2) ..
theorem Ch (c : Cu) (hp : c.ok) : OK 91 ([.ptr 0 0]) ([.cells (eC c)]) (.tuple [.int .i64 c.aJ.1.1, .int .u8 c.aJ.1.2]) (some [.cells (eC c.aJ.2)]) := by
 refine ah (C := cx [(64, gS), (35, fJ), (65, la), (66, eZ), (131, qv)]) (ai ⟨iX, gj, ny, fW, xf, trivial⟩) (fn := Tryz.f91) rfl rfl rfl rfl fun hw hs => ?_
 have hb := gp hp 1
 have h256 := c.ao.toNat_lt
 obtain ⟨a1, a2, a3⟩ := u4 h256
 repeat' ((conv => whnf); first | apply ab | apply ax | (apply ae <;> intro h))
 all_goals try conv => whnf
 all_goals try (refine a7.mk ?_; try dsimp only)
 all_goals (try simp only [a1, a2, a3, Int.toNat_natCast] at *)
 all_goals (try simp only [aU] at *)
 all_goals first | refine stay ?_ | trivial | (simp (discharger := omega) [-List.getD_eq_getElem?_getD, wR] <;> omega) | skip
 all_goals first
  | exact ⟨trivial, hb.1⟩
  | (exfalso; exact absurd (by assumption) (kK (c := c.byte) (k := 7) (by decide)))
  | (exfalso; omega)
  | skip
 all_goals
  have he : c.aJ = c.aJ := rfl
  conv at he => rhs; unfold Cu.aJ
  repeat (first | rw [if_pos (by first | assumption | omega | exact bJ.2 (by assumption) | exact ⟨bJ.2 (by assumption), bJ.2 (by assumption)⟩)] at he | rw [if_neg (by first | assumption | omega | exact fun q => absurd (bJ.1 q) (by assumption) | exact fun q => absurd (bJ.1 q.1) (by assumption) | exact fun q => absurd (bJ.1 q.2) (by assumption))] at he)
  first
  | (rw [he]
     refine a6.mk [] ?_ <;> (repeat' first | trivial)
     done)
def qu : Sm := fun args σ => match args, σ with
 | [.ptr 0 0], [.cells ([.str s_c, .int .i64 (.ofNat a_c), .int .i64 (.ofNat e_c), .int .i64 c_c])] => some (True ∧ ((Cu.mk s_c a_c e_c c_c).ok), .tuple [.int .i64 (Cu.mk s_c a_c e_c c_c).aJ.1.1, .int .u8 (Cu.mk s_c a_c e_c c_c).aJ.1.2], some [.cells (eC (Cu.mk s_c a_c e_c c_c).aJ.2)])
 | _, _ => none
theorem xe : a9 91 qu := by
 intro args sg pre x r he hp
 unfold qu at he
 split at he <;> cases he
 . rw [bP (hp).1]; exact Ch (hp := hp.2) ..
theorem Ci (c : Cu) (hp : c.ok) : OK 175 ([.ptr 0 0]) ([.cells (eC c)]) (.tuple [.int .i64 c.aT.1.1, .int .u8 c.aT.1.2.1, .int .u8 c.aT.1.2.2]) (some [.cells (eC c.aT.2)]) := by
 refine ah (C := cx [(64, gS), (35, fJ), (65, la), (66, eZ), (131, qv)]) (ai ⟨iX, gj, ny, fW, xf, trivial⟩) (fn := Tryz.f175) rfl rfl rfl rfl fun hw hs => ?_
 have hz := Kp.ba hp
 have h256 := c.ba.2.ao.toNat_lt
 obtain ⟨a1, a2, a3⟩ := u4 h256
 repeat' ((conv => whnf); first | apply ab | apply ax | (apply ae <;> intro h))
 all_goals try conv => whnf
 all_goals try (refine a7.mk ?_; try dsimp only)
 all_goals (try simp only [a1, a2, a3, Int.toNat_natCast] at *)
 all_goals (try simp only [aU] at *)
 all_goals first | refine stay ?_ | trivial | (simp (discharger := omega) [-List.getD_eq_getElem?_getD, wR] <;> omega) | skip
 all_goals first
  | exact ⟨trivial, hz.1⟩
  | (exfalso; exact absurd (by assumption) (kK (c := c.ba.2.byte) (k := 7) (by decide)))
  | (exfalso; omega)
  | skip
 all_goals
  have he : c.aT = c.aT := rfl
  conv at he => rhs; unfold Cu.aT
  repeat (first | rw [if_pos (by first | assumption | omega | exact bJ.2 (by assumption) | exact ⟨bJ.2 (by assumption), bJ.2 (by assumption)⟩)] at he | rw [if_neg (by first | assumption | omega | exact fun q => absurd (bJ.1 q) (by assumption) | exact fun q => absurd (bJ.1 q.1) (by assumption) | exact fun q => absurd (bJ.1 q.2) (by assumption))] at he)
  first
  | (rw [he]
     refine a6.mk [] ?_ <;> (repeat' first | trivial)
     done)
def tN : Sm := fun args σ => match args, σ with
 | [.ptr 0 0], [.cells ([.str s_c, .int .i64 (.ofNat a_c), .int .i64 (.ofNat e_c), .int .i64 c_c])] => some (True ∧ ((Cu.mk s_c a_c e_c c_c).ok), .tuple [.int .i64 (Cu.mk s_c a_c e_c c_c).aT.1.1, .int .u8 (Cu.mk s_c a_c e_c c_c).aT.1.2.1, .int .u8 (Cu.mk s_c a_c e_c c_c).aT.1.2.2], some [.cells (eC (Cu.mk s_c a_c e_c c_c).aT.2)])
 | _, _ => none
theorem EB : a9 175 tN := by
 intro args sg pre x r he hp
 unfold tN at he
 split at he <;> cases he
 . rw [bP (hp).1]; exact Ci (hp := hp.2) ..
end Go.Proofs.YtipejldppicijaaGreatDoor
