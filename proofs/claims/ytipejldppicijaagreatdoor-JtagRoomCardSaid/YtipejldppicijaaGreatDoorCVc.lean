/-
  A part of the proof.
-/
import Derived.Test.YtipejldppicijaaGreatDoorCRh
set_option linter.unusedSimpArgs false
set_option linter.unusedVariables false
set_option maxHeartbeats 4000000
namespace Go.Proofs.YtipejldppicijaaGreatDoor
open Go Go.VG
set_option maxRecDepth 100000
end Go.Proofs.YtipejldppicijaaGreatDoor
namespace Go.Proofs.YtipejldppicijaaGreatDoor
open Go Go.VG
set_option maxRecDepth 100000
def Cu.bL (c : Cu) : Int × Cu :=
 if c.aK.2.c = 0 then if c.aK.1 > 2147483647 then (0, c.aK.2.fail 4) else ((c.aK.1 : Int), c.aK.2) else (0, c.aK.2)
def Cu.bm (c : Cu) : (Int × Int) × Cu :=
 if c.byte.c ≠ 0 then ((0, 0), c.byte)
 else if il (Go.VG.byte ((c.aL.toNat % 16 : Nat) : Int)) = true then
  if c.aL.toNat / 16 = 15 then if c.byte.bL.2.c ≠ 0 then ((0, 0), c.byte.bL.2) else ((c.byte.bL.1, ((c.aL.toNat % 16 : Nat) : Int)), c.byte.bL.2)
  else ((((c.aL.toNat / 16 : Nat) : Int), ((c.aL.toNat % 16 : Nat) : Int)), c.byte)
 else ((0, 0), c.byte.fail 7)
def Cu.bq (c : Cu) : (Int × Int × Int) × Cu :=
 if c.bL.1 = 0 then ((0, 0, 0), c.bL.2)
 else if c.bL.2.byte.c ≠ 0 then ((0, 0, 0), c.bL.2.byte)
 else if il (Go.VG.byte ((c.bL.2.aL.toNat / 16 : Nat) : Int)) = true ∧ il (Go.VG.byte ((c.bL.2.aL.toNat % 16 : Nat) : Int)) = true then ((c.bL.1, ((c.bL.2.aL.toNat / 16 : Nat) : Int), ((c.bL.2.aL.toNat % 16 : Nat) : Int)), c.bL.2.byte)
 else ((0, 0, 0), c.bL.2.byte.fail 7)
abbrev SF : Type := Int → Cu → Cu
def eD (v : SF) (k : Int) (c : Cu) : Cu := if gY (byte k) (byte 1) = true then (if c.aL.toNat > 2 then c.byte.fail 3 else c.byte) else v k c
def fJ (f : Cu → Cu) : Nat → Cu → Cu
 | 0, c => c
 | n + 1, c => if c.c ≠ 0 then c else fJ f n (f c)
def lE (v : SF) (c : Cu) : Cu := fJ (eD v c.bm.1.2) c.bm.1.1.toNat c.bm.2
def lF (v : SF) (c : Cu) : Cu := fJ (fun x => eD v c.bq.1.2.2 (eD v c.bq.1.2.1 x)) c.bq.1.1.toNat c.bq.2
def kq (v : SF) : Nat → Cu → Int → Cu
 | 0, c, _ => c
 | n + 1, c, last => if c.c ≠ 0 then c else if (c.aI last).1.2 = 0 then (c.aI last).2 else kq v n (v (c.aI last).1.2 (c.aI last).2) (c.aI last).1.1
def ko (v : SF) (c : Cu) : Cu := kq v (c.e - c.p + 1) c 0
def ni (k : Int) (c : Cu) : Cu :=
 if k = 1 ∨ k = 2 then c else if k = 3 then c.byte else if k = 4 ∨ k = 5 ∨ k = 6 then c.aK.2 else if k = 7 then c.pass 8 else if k = 8 then c.text.2 else c.fail 7
def aW : Nat → SF
 | 0, k, c => if k = 9 ∨ k = 10 ∨ k = 11 ∨ k = 12 then c.fail 33 else ni k c
 | d + 1, k, c => if k = 9 ∨ k = 10 then lE (aW d) c else if k = 11 then lF (aW d) c else if k = 12 then ko (aW d) c else ni k c
end Go.Proofs.YtipejldppicijaaGreatDoor
namespace Go.Proofs.YtipejldppicijaaGreatDoor
open Go Go.VG
set_option maxRecDepth 100000
def Kp (c d : Cu) : Prop := d.ok ∧ d.s = c.s ∧ d.e = c.e ∧ c.p ≤ d.p
theorem Kp.rfl {c : Cu} (h : c.ok) : Kp c c := ⟨h, Eq.refl _, Eq.refl _, Nat.le_refl _⟩
theorem Kp.trans {a b c : Cu} (h : Kp a b) (g : Kp b c) : Kp a c := ⟨g.1, g.2.1.trans h.2.1, g.2.2.1.trans h.2.2.1, Nat.le_trans h.2.2.2 g.2.2.2⟩
theorem Kp.pass {c : Cu} (h : c.ok) (n : Int) : Kp c (c.pass n) := by
 have := kc h n
 refine ⟨this.1, this.2.1, this.2.2, ?_⟩
 unfold Cu.pass
 repeat' split
 all_goals (try exact Nat.le_refl _)
 exact Nat.le_add_right _ _
theorem Kp.fail {c : Cu} (h : c.ok) (k : Int) : Kp c (c.fail k) := by
 have := jH h k
 exact ⟨this.1, this.2.1, this.2.2.1, Nat.le_of_eq this.2.2.2.symm⟩
theorem Am : ∀ (j i u : Nat) (c : Cu), c.ok → Kp c (g7 j i u c).2
 | 0, _, _, c, h => Kp.fail h 4
 | j + 1, i, u, c, h => by
   have hb := Kp.pass h 1
   rw [g7]
   repeat' split
   . exact hb
   . exact hb.trans (Kp.fail hb.1 4)
   . exact hb
   . exact hb.trans (Am j _ _ _ hb.1)
theorem Kp.aK {c : Cu} (h : c.ok) : Kp c c.aK.2 := Am 10 0 0 c h
theorem Kp.text {c : Cu} (h : c.ok) : Kp c c.text.2 := by
 have hv := Kp.aK h
 unfold Cu.text
 dsimp only
 split
 . exact hv.trans (Kp.fail hv.1 1)
 . exact hv.trans (Kp.pass hv.1 _)
theorem Kp.bL {c : Cu} (h : c.ok) : Kp c c.bL.2 := by
 have hv := Kp.aK h
 unfold Cu.bL
 repeat' split
 . exact hv.trans (Kp.fail hv.1 4)
 . exact hv
 . exact hv
theorem Kp.bm {c : Cu} (h : c.ok) : Kp c c.bm.2 := by
 have hb := Kp.pass h 1
 have hs := Kp.bL hb.1
 unfold Cu.bm
 repeat' split
 . exact hb
 . exact hb.trans hs
 . exact hb.trans hs
 . exact hb
 . exact hb.trans (Kp.fail hb.1 7)
theorem Kp.bq {c : Cu} (h : c.ok) : Kp c c.bq.2 := by
 have hs := Kp.bL h
 have hb := hs.trans (Kp.pass hs.1 1)
 unfold Cu.bq
 repeat' split
 . exact hs
 . exact hb
 . exact hb
 . exact hb.trans (Kp.fail hb.1 7)
theorem Kp.fW {c d : Cu} (h : Kp c d) (id k : Int) : Kp c (fW id k d).2 := by
 unfold Go.Proofs.YtipejldppicijaaGreatDoor.fW
 repeat' split
 . exact h
 . exact h.trans (Kp.fail h.1 4)
 . exact h
theorem Kp.aI {c : Cu} (h : c.ok) (last : Int) : Kp c (c.aI last).2 := by
 have hb := Kp.pass h 1
 have hv := hb.trans (Kp.aK hb.1)
 unfold Cu.aI
 repeat' split
 . exact hb
 . exact hb
 . exact Kp.fW hb _ _
 . exact Kp.fW hv _ _
 . exact hb.trans (Kp.fail hb.1 7)
theorem vU {c : Cu} (h : c.ok) (h0 : c.byte.c = 0) : c.p < c.byte.p := by
 unfold Cu.byte Cu.pass at h0 ⊢
 by_cases q1 : c.c ≠ 0
 . rw [if_pos q1] at h0; exact absurd h0 q1
 rw [if_neg q1] at h0 ⊢
 by_cases q2 : (1 : Int) < 0
 . omega
 rw [if_neg q2] at h0 ⊢
 by_cases q3 : (1 : Int) > c.e - c.p
 . rw [if_pos q3] at h0; cases h0
 rw [if_neg q3]
 show c.p < c.p + 1
 omega
theorem x8 {d : Cu} {id k : Int} (h : (fW id k d).1.2 ≠ 0) : (fW id k d).2 = d ∧ d.c = 0 := by
 unfold fW at h ⊢
 split at h
 . exact absurd rfl h
 split at h
 . exact absurd rfl h
 rename_i h1 h2
 rw [if_neg h1, if_neg h2]
 exact ⟨rfl, Decidable.not_not.1 h1⟩
theorem x9 {c : Cu} (h : c.ok) {last : Int} (hk : (c.aI last).1.2 ≠ 0) : c.p < (c.aI last).2.p ∧ (c.aI last).2.c = 0 := by
 have hb := Kp.pass h 1
 unfold Cu.aI at hk ⊢
 split at hk
 . exact absurd rfl hk
 rename_i h1
 split at hk
 . exact absurd rfl hk
 rename_i h2
 split at hk
 . rename_i h3
   split at hk
   . rename_i h4
     obtain ⟨e1, e2⟩ := x8 hk
     rw [if_neg h1, if_neg h2, if_pos h3, if_pos h4, e1]
     exact ⟨vU h e2, e2⟩
   . rename_i h4
     obtain ⟨e1, e2⟩ := x8 hk
     rw [if_neg h1, if_neg h2, if_pos h3, if_neg h4, e1]
     have := Kp.aK hb.1
     have hp := vU h (Decidable.not_not.1 h1)
     exact ⟨Nat.lt_of_lt_of_le hp this.2.2.2, e2⟩
 . exact absurd rfl hk
def lT (v : SF) : Prop := ∀ k c, c.ok → Kp c (v k c)
theorem pb {v : SF} (hv : lT v) : lT (eD v) := fun k c h => by
 have hb := Kp.pass h 1
 unfold eD
 repeat' split
 . exact hb.trans (Kp.fail hb.1 3)
 . exact hb
 . exact hv k c h
theorem u6 {f : Cu → Cu} (hf : ∀ c, c.ok → Kp c (f c)) : ∀ (n : Nat) (c : Cu), c.ok → Kp c (fJ f n c)
 | 0, c, h => Kp.rfl h
 | n + 1, c, h => by
   rw [fJ]
   split
   . exact Kp.rfl h
   . exact (hf c h).trans (u6 hf n _ (hf c h).1)
theorem zB {v : SF} (hv : lT v) : ∀ (n : Nat) (c : Cu) (last : Int), c.ok → Kp c (kq v n c last)
 | 0, c, _, h => Kp.rfl h
 | n + 1, c, last, h => by
   have hf := Kp.aI h last
   rw [kq]
   repeat' split
   . exact Kp.rfl h
   . exact hf
   . exact (hf.trans (hv _ _ hf.1)).trans (zB hv n _ _ (hv _ _ hf.1).1)
theorem zC : lT ni := fun k c h => by
 unfold ni
 repeat' split
 . exact Kp.rfl h
 . exact Kp.pass h 1
 . exact Kp.aK h
 . exact Kp.pass h 8
 . exact Kp.text h
 . exact Kp.fail h 7
theorem pd : ∀ d, lT (aW d)
 | 0 => fun k c h => by
   rw [aW]; split
   . exact Kp.fail h 33
   . exact zC k c h
 | d + 1 => fun k c h => by
   have hv := pd d
   have hl := Kp.bm h
   have hm := Kp.bq h
   rw [aW]
   repeat' split
   . exact hl.trans (u6 (fun c h => pb hv _ c h) _ _ hl.1)
   . exact hm.trans (u6 (fun c h => (pb hv _ c h).trans (pb hv _ _ (pb hv _ c h).1)) _ _ hm.1)
   . exact zB hv _ _ _ h
   . exact zC k c h
theorem wg (c : Cu) : 0 ≤ c.bL.1 ∧ c.bL.1 ≤ 2147483647 := by
 unfold Cu.bL
 repeat' split
 all_goals (dsimp only; omega)
theorem tn (c : Cu) : (0 ≤ c.bm.1.1 ∧ c.bm.1.1 ≤ 2147483647) ∧ 0 ≤ c.bm.1.2 ∧ c.bm.1.2 ≤ 15 := by
 have := wg c.byte
 have h256 := c.aL.toNat_lt
 unfold Cu.bm
 repeat' split
 all_goals (dsimp only; omega)
theorem mhd_b (c : Cu) : (0 ≤ c.bq.1.1 ∧ c.bq.1.1 ≤ 2147483647) ∧ (0 ≤ c.bq.1.2.1 ∧ c.bq.1.2.1 ≤ 15) ∧ 0 ≤ c.bq.1.2.2 ∧ c.bq.1.2.2 ≤ 15 := by
 have := wg c
 have h256 := c.bL.2.aL.toNat_lt
 unfold Cu.bq
 repeat' split
 all_goals (dsimp only; omega)
theorem u4 {n : Nat} (h : n < 256) : iY .u8 (n : Int) 15 = ((n % 16 : Nat) : Int) ∧ ba .u8 (n : Int) 4 = ((n / 16 : Nat) : Int) ∧ IntKind.i64.wrap ((n / 16 : Nat) : Int) = ((n / 16 : Nat) : Int) := by
 have e : ba .u8 (n : Int) 4 = ((n / 16 : Nat) : Int) := by
  show (n : Int).fdiv 16 = _
  rw [Int.fdiv_eq_ediv_of_nonneg _ (by decide)]; omega
 exact ⟨sL _ (by omega), e, by rw [bS]; omega⟩
theorem CT (c : Cu) (hp : c.ok) : OK 131 ([.ptr 0 0]) ([.cells (eC c)]) (.int .i64 c.bL.1) (some [.cells (eC c.bL.2)]) := by
 refine ai (C := cx [(68, jh), (35, fK), (66, ff)]) (aj ⟨lp, gu, fY, trivial⟩) (fn := Tryz.f131) rfl rfl rfl rfl fun hw hs => ?_
 have h1 := @pK c
 have hv := rV hp
 repeat' ((conv => whnf); first | apply a9 | apply aQ | (apply ao <;> intro h))
 all_goals try conv => whnf
 all_goals try (refine a8.mk ?_; try dsimp only)
 all_goals (try simp only [bM] at *)
 all_goals first | refine stay ?_ | trivial | skip
 all_goals (try (exfalso; exact absurd (by assumption) (mz (c := c.aK.2) (k := 4) (by decide))))
 all_goals
  have he : c.bL = c.bL := rfl
  conv at he => rhs; unfold Cu.bL
  repeat (first | rw [if_pos (by first | assumption | omega)] at he | rw [if_neg (by first | assumption | omega)] at he)
  first
  | (rw [he]
     refine a7.mk [] ?_ <;> (repeat' first | trivial | apply ah | apply ax)
     done)
  | (rw [he]
     refine a7.mk [] ?_ <;> (repeat' first | trivial | apply ah | apply ax)
     all_goals (rw [bS]; omega)
     done)
  | skip
def rr : Sm := fun args σ => match args, σ with
 | [.ptr 0 0], [.cells ([.str s_c, .int .i64 (.ofNat a_c), .int .i64 (.ofNat e_c), .int .i64 c_c])] => some (True ∧ ((Cu.mk s_c a_c e_c c_c).ok), .int .i64 (Cu.mk s_c a_c e_c c_c).bL.1, some [.cells (eC (Cu.mk s_c a_c e_c c_c).bL.2)])
 | _, _ => none
theorem xR : aa 131 rr := by
 intro args sg pre x r he hp
 unfold rr at he
 split at he <;> cases he
 . rw [bG (hp).1]; exact CT (hp := hp.2) ..
theorem CQ (c : Cu) (hp : c.ok) : OK 91 ([.ptr 0 0]) ([.cells (eC c)]) (.tuple [.int .i64 c.bm.1.1, .int .u8 c.bm.1.2]) (some [.cells (eC c.bm.2)]) := by
 refine ai (C := cx [(64, hC), (35, fK), (65, lJ), (66, ff), (131, rr)]) (aj ⟨iZ, gu, oa, fY, xR, trivial⟩) (fn := Tryz.f91) rfl rfl rfl rfl fun hw hs => ?_
 have hb := kc hp 1
 have h256 := c.aL.toNat_lt
 obtain ⟨a1, a2, a3⟩ := u4 h256
 repeat' ((conv => whnf); first | apply a9 | apply aQ | (apply ao <;> intro h))
 all_goals try conv => whnf
 all_goals try (refine a8.mk ?_; try dsimp only)
 all_goals (try simp only [a1, a2, a3, Int.toNat_natCast] at *)
 all_goals (try simp only [bM] at *)
 all_goals first | refine stay ?_ | trivial | (simp (discharger := omega) [-List.getD_eq_getElem?_getD, wR] <;> omega) | skip
 all_goals first
  | exact ⟨trivial, hb.1⟩
  | (exfalso; exact absurd (by assumption) (mz (c := c.byte) (k := 7) (by decide)))
  | (exfalso; omega)
  | skip
 all_goals
  have he : c.bm = c.bm := rfl
  conv at he => rhs; unfold Cu.bm
  repeat (first | rw [if_pos (by first | assumption | omega | exact eO.2 (by assumption) | exact ⟨eO.2 (by assumption), eO.2 (by assumption)⟩)] at he | rw [if_neg (by first | assumption | omega | exact fun q => absurd (eO.1 q) (by assumption) | exact fun q => absurd (eO.1 q.1) (by assumption) | exact fun q => absurd (eO.1 q.2) (by assumption))] at he)
  first
  | (rw [he]
     refine a7.mk [] ?_ <;> (repeat' first | trivial)
     done)
def rq : Sm := fun args σ => match args, σ with
 | [.ptr 0 0], [.cells ([.str s_c, .int .i64 (.ofNat a_c), .int .i64 (.ofNat e_c), .int .i64 c_c])] => some (True ∧ ((Cu.mk s_c a_c e_c c_c).ok), .tuple [.int .i64 (Cu.mk s_c a_c e_c c_c).bm.1.1, .int .u8 (Cu.mk s_c a_c e_c c_c).bm.1.2], some [.cells (eC (Cu.mk s_c a_c e_c c_c).bm.2)])
 | _, _ => none
theorem xQ : aa 91 rq := by
 intro args sg pre x r he hp
 unfold rq at he
 split at he <;> cases he
 . rw [bG (hp).1]; exact CQ (hp := hp.2) ..
theorem CR (c : Cu) (hp : c.ok) : OK 175 ([.ptr 0 0]) ([.cells (eC c)]) (.tuple [.int .i64 c.bq.1.1, .int .u8 c.bq.1.2.1, .int .u8 c.bq.1.2.2]) (some [.cells (eC c.bq.2)]) := by
 refine ai (C := cx [(64, hC), (35, fK), (65, lJ), (66, ff), (131, rr)]) (aj ⟨iZ, gu, oa, fY, xR, trivial⟩) (fn := Tryz.f175) rfl rfl rfl rfl fun hw hs => ?_
 have hz := Kp.bL hp
 have h256 := c.bL.2.aL.toNat_lt
 obtain ⟨a1, a2, a3⟩ := u4 h256
 repeat' ((conv => whnf); first | apply a9 | apply aQ | (apply ao <;> intro h))
 all_goals try conv => whnf
 all_goals try (refine a8.mk ?_; try dsimp only)
 all_goals (try simp only [a1, a2, a3, Int.toNat_natCast] at *)
 all_goals (try simp only [bM] at *)
 all_goals first | refine stay ?_ | trivial | (simp (discharger := omega) [-List.getD_eq_getElem?_getD, wR] <;> omega) | skip
 all_goals first
  | exact ⟨trivial, hz.1⟩
  | (exfalso; exact absurd (by assumption) (mz (c := c.bL.2.byte) (k := 7) (by decide)))
  | (exfalso; omega)
  | skip
 all_goals
  have he : c.bq = c.bq := rfl
  conv at he => rhs; unfold Cu.bq
  repeat (first | rw [if_pos (by first | assumption | omega | exact eO.2 (by assumption) | exact ⟨eO.2 (by assumption), eO.2 (by assumption)⟩)] at he | rw [if_neg (by first | assumption | omega | exact fun q => absurd (eO.1 q) (by assumption) | exact fun q => absurd (eO.1 q.1) (by assumption) | exact fun q => absurd (eO.1 q.2) (by assumption))] at he)
  first
  | (rw [he]
     refine a7.mk [] ?_ <;> (repeat' first | trivial)
     done)
def uB : Sm := fun args σ => match args, σ with
 | [.ptr 0 0], [.cells ([.str s_c, .int .i64 (.ofNat a_c), .int .i64 (.ofNat e_c), .int .i64 c_c])] => some (True ∧ ((Cu.mk s_c a_c e_c c_c).ok), .tuple [.int .i64 (Cu.mk s_c a_c e_c c_c).bq.1.1, .int .u8 (Cu.mk s_c a_c e_c c_c).bq.1.2.1, .int .u8 (Cu.mk s_c a_c e_c c_c).bq.1.2.2], some [.cells (eC (Cu.mk s_c a_c e_c c_c).bq.2)])
 | _, _ => none
theorem F3 : aa 175 uB := by
 intro args sg pre x r he hp
 unfold uB at he
 split at he <;> cases he
 . rw [bG (hp).1]; exact CR (hp := hp.2) ..
end Go.Proofs.YtipejldppicijaaGreatDoor
