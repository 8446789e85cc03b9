/-
  A part of the proof.
-/
import Derived.Test.YtdjolnjlhbfnmaaGreatDoorCRt
import Derived.Test.YtdjolnjlhbfnmaaGreatDoorPRe
set_option linter.unusedSimpArgs false
set_option linter.unusedVariables false
set_option maxHeartbeats 4000000
namespace Go.Proofs.YtdjolnjlhbfnmaaGreatDoor
open Go Go.VG
set_option maxRecDepth 100000
def bD (n w : Int) : Bool := decide ((1 ≤ n ∧ n ≤ 536870911) ∧ (w = 0 ∨ w = 1 ∨ w = 2 ∨ w = 5))
def iV (u : Nat) : Int := if u / 4294967296 ≠ 0 then 0 else ((u / 8 : Nat) : Int)
def iW (u : Nat) : Int := if u / 4294967296 ≠ 0 then 0 else ((u % 8 : Nat) : Int)
theorem Ej (u k : Nat) (hk : k ≤ 63) : jM .u64 (u : Int) (k : Int) = ((u / 2 ^ k : Nat) : Int) := by
 rw [pL, Nat.min_eq_left (by show k ≤ 64; omega)]
theorem and_7 {u : Nat} (h : u ≤ 18446744073709551615) : iAnd .u64 (u : Int) 7 = ((u % 8 : Nat) : Int) := by
 show IntKind.u64.wrap ((BitVec.ofInt 64 (u : Int) &&& BitVec.ofInt 64 7).toNat : Int) = _
 rw [BitVec.ofInt_natCast, show BitVec.ofInt 64 7 = BitVec.ofNat 64 7 from rfl, BitVec.toNat_and, BitVec.toNat_ofNat, BitVec.toNat_ofNat, Nat.mod_eq_of_lt (by omega),
  show u &&& 7 % 2 ^ 64 = u % 8 from Nat.and_two_pow_sub_one_eq_mod u 3, db]
 omega
theorem J4 (n w : Int) (hp : True) : OK 44 ([.agg [.int .i64 n, .int .i64 w]]) ([]) (.bool (bD n w)) (none) := by
 refine al (C := cx []) (aq trivial) (fn := Tryz.f44) rfl rfl rfl rfl fun hw hs => ?_
 repeat' ((conv => whnf); (apply aw <;> intro h))
 all_goals try conv => whnf
 all_goals try (refine ae.mk ?_; try dsimp only)
 all_goals try refine stay ?_
 all_goals first
  | (exfalso; omega)
  | (show af _ _ _ _ _ _
     have he : bD n w = bD n w := rfl
     conv at he => rhs; unfold bD
     first | rw [decide_eq_true (by omega)] at he | rw [decide_eq_false (by omega)] at he
     rw [he]
     refine af.mk [] ?_ <;> (repeat' first | trivial)
     done)
def ju : Sm := fun args σ => match args, σ with
 | [.agg [.int .i64 n, .int .i64 w]], [] => some (True, .bool (bD n w), none)
 | _, _ => none
theorem kK : au 44 ju := by
 intro args sg pre x r he hp
 unfold ju at he
 split at he <;> cases he
 . exact J4 (hp := hp) ..
theorem J6 (q : Int) (hp : 0 ≤ q ∧ q ≤ 18446744073709551615) : OK 144 ([.int .u64 q]) ([]) (.agg [.int .i64 (iV q.toNat), .int .i64 (iW q.toNat)]) (none) := by
 refine al (C := cx []) (aq trivial) (fn := Tryz.f144) rfl rfl rfl rfl fun hw hs => ?_
 obtain ⟨u, rfl⟩ := Int.eq_ofNat_of_zero_le hp.1
 rw [Int.toNat_natCast]
 have h32 : jM .u64 (u : Int) 32 = ((u / 4294967296 : Nat) : Int) := Ej u 32 (by decide)
 have h3 : jM .u64 (u : Int) 3 = ((u / 8 : Nat) : Int) := Ej u 3 (by decide)
 have h7 := and_7 (u := u) (by omega)
 repeat' ((conv => whnf); first | apply aj | apply aO | (apply aw <;> intro h))
 all_goals try conv => whnf
 all_goals try (refine ae.mk ?_; try dsimp only)
 all_goals (try simp only [h32, h3, h7] at *)
 all_goals first | refine stay ?_ | trivial | skip
 all_goals
  unfold iV iW
  first
  | (rw [if_pos (by omega), if_pos (by omega)]
     (refine af.mk [] ?_ <;> (repeat' first | trivial | rfl | exact eN _ _ | apply ax | apply dn | apply aH | apply cR | apply bo | apply cS | apply cU | apply cZ | apply cJ | apply bE))
     done)
  | (rw [if_neg (by omega), if_neg (by omega)]
     (refine af.mk [] ?_ <;> (repeat' first | trivial | rfl | exact eN _ _ | apply ax | apply dn | apply aH | apply cR | apply bo | apply cS | apply cU | apply cZ | apply cJ | apply bE))
     all_goals (simp (discharger := omega) only [wR]; omega))
def yT : Sm := fun args σ => match args, σ with
 | [.int .u64 q], [] => some (0 ≤ q ∧ q ≤ 18446744073709551615, .agg [.int .i64 (iV q.toNat), .int .i64 (iW q.toNat)], none)
 | _, _ => none
theorem k_pOf : au 144 yT := by
 intro args sg pre x r he hp
 unfold yT at he
 split at he <;> cases he
 . exact J6 (hp := hp) ..
structure Pf where
 no : Int
 wi : Int
 num : Int
 text : List UInt8
instance : Inhabited Pf := ⟨⟨0, 0, 0, []⟩⟩
abbrev pb (f : Pf) : List V := [.int .i64 f.no, .int .i64 f.wi, .int .u64 f.num, .str f.text]
abbrev av (f : Pf) : V := .agg (pb f)
theorem iY {n w u : Int} {t : List UInt8} (_ : True) : V.agg [.int .i64 n, .int .i64 w, .int .u64 u, .str t] = av ⟨n, w, u, t⟩ := rfl
def Cu.tag (c : Cu) : (Int × Int) × Cu := if c.bg.2.c ≠ 0 then ((0, 0), c.bg.2) else if bD (iV c.bg.1) (iW c.bg.1) = true then ((iV c.bg.1, iW c.bg.1), c.bg.2) else ((0, 0), c.bg.2.fail 14)
def oE (f : Pf) (c : Cu) : Pf := if f.wi = 0 then { f with num := c.bg.1 } else if f.wi = 1 then { f with num := c.mY.1 } else if f.wi = 5 then { f with num := c.jP.1 } else if f.wi = 2 then { f with text := c.text.1 } else f
def gC (f : Pf) (c : Cu) : Cu := if f.wi = 0 then c.bg.2 else if f.wi = 1 then c.mY.2 else if f.wi = 5 then c.jP.2 else if f.wi = 2 then c.text.2 else c
def Cu.bK (c : Cu) : Cu := gC ⟨c.tag.1.1, c.tag.1.2, 0, []⟩ c.tag.2
def Cu.fz (c : Cu) : Pf := if c.bK.c ≠ 0 then default else oE ⟨c.tag.1.1, c.tag.1.2, 0, []⟩ c.tag.2
theorem J9 (c : Cu) (hp : c.ok) : OK 114 ([.ptr 0 0]) ([.cells (eC c)]) (.agg [.int .i64 c.tag.1.1, .int .i64 c.tag.1.2]) (some [.cells (eC c.tag.2)]) := by
 refine al (C := cx [(115, sK), (52, ni), (144, yT), (44, ju), (145, sx)]) (aq ⟨wT, pR, k_pOf, kK, wH, trivial⟩) (fn := Tryz.f114) rfl rfl rfl rfl fun hw hs => ?_
 have h1 := @zT c
 repeat' ((conv => whnf); first | apply aj | apply aO | ((first | apply aw | apply eG) <;> intro h))
 all_goals try conv => whnf
 all_goals try (refine ae.mk ?_; try dsimp only)
 all_goals (try simp only [Int.toNat_natCast] at *)
 all_goals (try simp only [dc] at *)
 all_goals first | refine stay ?_ | trivial | omega | skip
 all_goals
  show af _ _ _ _ _ _
  have he : c.tag = c.tag := rfl
  conv at he => rhs; unfold Cu.tag
  first
  | rw [if_pos (by assumption)] at he
  | (rw [if_neg (by omega)] at he
     first
     | (have hm : bD (iV c.bg.1) (iW c.bg.1) = true := decide_eq_true (by assumption)
        rw [if_pos hm] at he)
     | (have hm : bD (iV c.bg.1) (iW c.bg.1) = false := decide_eq_false (by assumption)
        rw [if_neg (by rw [hm]; decide)] at he)
     | (have h := ‹(iV c.bg.1 == 0 && iW c.bg.1 == 0) = true›
        simp only [Bool.and_eq_true, beq_iff_eq] at h
        rw [if_neg (by rw [h.1, h.2]; decide)] at he))
  rw [he]
  refine af.mk [] ?_ <;> (repeat' first | trivial)
def yU : Sm := fun args σ => match args, σ with
 | [.ptr 0 0], [.cells ([.str s_c, .int .i64 (.ofNat a_c), .int .i64 (.ofNat e_c), .int .i64 c_c])] => some (True ∧ ((Cu.mk s_c a_c e_c c_c).ok), .agg [.int .i64 (Cu.mk s_c a_c e_c c_c).tag.1.1, .int .i64 (Cu.mk s_c a_c e_c c_c).tag.1.2], some [.cells (eC (Cu.mk s_c a_c e_c c_c).tag.2)])
 | _, _ => none
theorem LS : au 114 yU := by
 intro args sg pre x r he hp
 unfold yU at he
 split at he <;> cases he
 . rw [gm (hp).1]; exact J9 (hp := hp.2) ..
theorem Jb (c : Cu) (hp : c.ok ∧ c.s.length ≤ 9223372036854775807) : OK 118 ([.ptr 0 0]) ([.cells (eC c)]) (.str c.text.1) (some [.cells (eC c.text.2)]) := by
 refine al (C := cx [(115, sK), (52, ni), (75, uL), (145, sx), (147, sy)]) (aq ⟨wT, pR, C8, wH, wI, trivial⟩) (fn := Tryz.f118) rfl rfl rfl rfl fun hw hs => ?_
 obtain ⟨hp, hb⟩ := hp
 have h1 := @zT c
 have hv := sP hp
 have hf := kD hv.1 1
 have hl : c.bg.2.left = (c.bg.2.e : Int) - c.bg.2.p := rfl
 have hw1 := hv.1.1
 have hw2 := hv.1.2
 have hs1 : c.bg.2.s.length = c.s.length := by rw [hv.2.1]
 have hwl : IntKind.u64.wrap c.bg.2.left = c.bg.2.left := by rw [hl, db]; omega
 repeat' ((conv => whnf); first | apply aj | (apply aw <;> intro h))
 all_goals try conv => whnf
 all_goals try (refine ae.mk ?_; try dsimp only)
 all_goals (try simp only [Int.toNat_natCast, hwl] at *)
 all_goals (try simp only [dc] at *)
 all_goals first | refine stay ?_ | trivial | skip
 all_goals first
  | exact ⟨trivial, hv.1⟩
  | exact ⟨trivial, hf.1⟩
  | (show af _ _ _ _ _ _
     have he : c.text = c.text := rfl
     conv at he => rhs; unfold Cu.text
     dsimp only at he
     first | rw [if_pos ⟨by assumption, by omega⟩] at he | rw [if_neg (by omega)] at he
     rw [he])
  | skip
 . have hfc : ¬ (c.bg.2.fail 1).c = 0 := by
     unfold Cu.fail; rw [if_pos (by assumption)]; exact (by decide : ¬ (1 : Int) = 0)
   have ht := Bq hfc (IntKind.i64.wrap c.bg.1)
   simp only [ht.1, ht.2]
   refine af.mk [] ?_ <;> (repeat' first | trivial)
 . have hwn : IntKind.i64.wrap c.bg.1 = c.bg.1 := by rw [bc]; omega
   simp only [hwn]
   refine af.mk [] ?_ <;> (repeat' first | trivial)
 . have ht := Bq (c := c.bg.2) (by assumption)
   simp only [(ht _).1, (ht _).2]
   refine af.mk [] ?_ <;> (repeat' first | trivial)
def yV : Sm := fun args σ => match args, σ with
 | [.ptr 0 0], [.cells ([.str s_c, .int .i64 (.ofNat a_c), .int .i64 (.ofNat e_c), .int .i64 c_c])] => some (True ∧ ((Cu.mk s_c a_c e_c c_c).ok ∧ (Cu.mk s_c a_c e_c c_c).s.length ≤ 9223372036854775807), .str (Cu.mk s_c a_c e_c c_c).text.1, some [.cells (eC (Cu.mk s_c a_c e_c c_c).text.2)])
 | _, _ => none
theorem LU : au 118 yV := by
 intro args sg pre x r he hp
 unfold yV at he
 split at he <;> cases he
 . rw [gm (hp).1]; exact Jb (hp := hp.2) ..
theorem EJ {c : Cu} (h : c.ok) : c.tag.2.ok ∧ c.tag.2.s = c.s ∧ c.tag.2.e = c.e := by
 have hv := sP h
 have hf := kD hv.1 14
 unfold Cu.tag
 repeat' split
 . exact hv
 . exact hv
 . exact ⟨hf.1, hf.2.1.trans hv.2.1, hf.2.2.1.trans hv.2.2⟩
theorem Pa {c : Cu} (h : c.ok) : c.text.2.ok ∧ c.text.2.s = c.s ∧ c.text.2.e = c.e := by
 have hv := sP h
 have hf := kD hv.1 1
 have hq := kT hv.1 c.bg.1
 unfold Cu.text
 dsimp only
 split
 . exact ⟨hf.1, hf.2.1.trans hv.2.1, hf.2.2.1.trans hv.2.2⟩
 . exact ⟨hq.1, hq.2.1.trans hv.2.1, hq.2.2.trans hv.2.2⟩
theorem N1 {c : Cu} (h : c.ok) (f : Pf) : (gC f c).ok ∧ (gC f c).s = c.s ∧ (gC f c).e = c.e := by
 have hv := sP h
 have ht := Pa h
 have h8 := kT h 8
 have h4 := kT h 4
 unfold gC
 repeat' split
 . exact hv
 . exact h8
 . exact h4
 . exact ht
 . exact ⟨h, rfl, rfl⟩
theorem rW {c : Cu} (h : c.ok) : c.bK.ok ∧ c.bK.s = c.s ∧ c.bK.e = c.e := by
 have h1 := EJ h
 have h2 := N1 h1.1 ⟨c.tag.1.1, c.tag.1.2, 0, []⟩
 exact ⟨h2.1, h2.2.1.trans h1.2.1, h2.2.2.trans h1.2.2⟩
theorem J5 (c : Cu) (hp : c.ok ∧ c.s.length ≤ 9223372036854775807) : OK 76 ([.ptr 0 0]) ([.cells (eC c)]) (av c.fz) (some [.cells (eC c.bK)]) := by
 refine al (C := cx [(114, yU), (115, sK), (116, zn), (117, zo), (118, yV), (52, ni)]) (aq ⟨LS, wT, Ma, Mb, LU, pR, trivial⟩) (fn := Tryz.f76) rfl rfl rfl rfl fun hw hs => ?_
 obtain ⟨hp, hb⟩ := hp
 have ht := EJ hp
 have hl : c.tag.2.s.length ≤ 9223372036854775807 := by rw [ht.2.1]; exact hb
 have h32 : c.tag.2.jP.1 < 4294967296 := by
  have h1 := xd (c.tag.2.c7 4)
  have h2 := zL c.tag.2
  have h3 := Nat.pow_le_pow_right (n := 256) (by decide) h2
  have h4 : (256 : Nat) ^ 4 = 4294967296 := by decide
  show fj _ < _
  omega
 have hw32 : IntKind.u64.wrap (c.tag.2.jP.1 : Int) = c.tag.2.jP.1 := by rw [db]; omega
 repeat' ((conv => whnf); first | apply aj | apply aO | (apply aw <;> intro h))
 all_goals try conv => whnf
 all_goals try (refine ae.mk ?_; try dsimp only)
 all_goals (try simp only [hw32] at *)
 all_goals (try simp only [dc] at *)
 all_goals first | refine stay ?_ | trivial | skip
 all_goals first
  | exact ⟨trivial, ht.1⟩
  | exact ⟨trivial, ht.1, hl⟩
  | (show af _ _ _ _ _ _
     have he : c.bK = c.bK := rfl
     conv at he => rhs; unfold Cu.bK gC; dsimp only
     repeat (first | rw [if_pos (by assumption)] at he | rw [if_neg (by assumption)] at he)
     have hf : c.fz = c.fz := rfl
     conv at hf => rhs; unfold Cu.fz oE; dsimp only
     rw [he] at hf
     first
     | (rw [if_neg (by omega)] at hf
        repeat (first | rw [if_pos (by assumption)] at hf | rw [if_neg (by assumption)] at hf))
     | rw [if_pos (by assumption)] at hf
     rw [he, hf]
     (refine af.mk [] ?_ <;> (repeat' first | trivial | rfl | exact eN _ _ | apply ax | apply dn | apply aH | apply cR | apply bo | apply cS | apply cU | apply cZ | apply cJ | apply bE))
     done)
def yS : Sm := fun args σ => match args, σ with
 | [.ptr 0 0], [.cells ([.str s_c, .int .i64 (.ofNat a_c), .int .i64 (.ofNat e_c), .int .i64 c_c])] => some (True ∧ ((Cu.mk s_c a_c e_c c_c).ok ∧ (Cu.mk s_c a_c e_c c_c).s.length ≤ 9223372036854775807), av (Cu.mk s_c a_c e_c c_c).fz, some [.cells (eC (Cu.mk s_c a_c e_c c_c).bK)])
 | _, _ => none
theorem LR : au 76 yS := by
 intro args sg pre x r he hp
 unfold yS at he
 split at he <;> cases he
 . rw [gm (hp).1]; exact J5 (hp := hp.2) ..
end Go.Proofs.YtdjolnjlhbfnmaaGreatDoor
namespace Go.Proofs.YtdjolnjlhbfnmaaGreatDoor
open Go Go.VG
set_option maxRecDepth 100000
theorem s7 (c : Cu) (n : Int) : c.p ≤ (c.pass n).p := by
 unfold Cu.pass
 repeat' split
 all_goals (first | exact Nat.le_refl _ | (dsimp only; omega))
theorem mD (c : Cu) (k : Int) : (c.fail k).p = c.p := by unfold Cu.fail; split <;> rfl
theorem qG : ∀ (j i u : Nat) (c : Cu), c.p ≤ (eL j i u c).2.p
 | 0, i, u, c => by rw [eL]; exact Nat.le_of_eq (mD c 4).symm
 | j + 1, i, u, c => by
   have hb := s7 c 1
   rw [eL]
   split
   . exact hb
   . split
     . show c.p ≤ (c.byte.fail 4).p
       rw [mD]; exact hb
     . split
       . exact hb
       . exact Nat.le_trans hb (qG j _ _ c.byte)
theorem Fa {c : Cu} (h : c.bg.2.c = 0) : c.p < c.bg.2.p := by
 have h1 : c.bg = eL 10 0 0 c := rfl
 rw [eL] at h1
 have hb : c.byte.c = 0 → c.byte.p = c.p + 1 := fun hb => by
  unfold Cu.byte Cu.pass at hb ⊢
  split
  . rename_i q; rw [if_pos q] at hb; exact absurd hb q
  . rename_i q
    rw [if_neg q] at hb
    split
    . rename_i q2; rw [if_pos q2] at hb; cases hb
    . rename_i q2
      rw [if_neg q2] at hb
      split
      . rename_i q3; rw [if_pos q3] at hb; cases hb
      . rfl
 rw [h1] at h ⊢
 split at h
 . rename_i q; exact absurd h q
 . rename_i q
   rw [if_neg q]
   have hb := hb (by simpa using q)
   split at h
   . rename_i q2; rw [if_pos q2]; show c.p < (c.byte.fail 4).p; rw [mD]; omega
   . rename_i q2
     rw [if_neg q2]
     split at h
     . rename_i q3; rw [if_pos q3]; show c.p < c.byte.p; omega
     . rename_i q3
       rw [if_neg q3]
       have := qG 9 (0 + 1) (0 + (c.dG.toNat - 128) * 2 ^ (7 * 0)) c.byte
       omega
theorem Pb (c : Cu) : c.p ≤ c.text.2.p := by
 have hv := qG 10 0 0 c
 have hq := s7 c.bg.2 c.bg.1
 unfold Cu.text
 dsimp only
 split
 . rw [mD]; exact hv
 . exact Nat.le_trans hv hq
theorem D8 (f : Pf) (c : Cu) : c.p ≤ (gC f c).p := by
 unfold gC
 repeat' split
 . exact qG 10 0 0 c
 . exact s7 c 8
 . exact s7 c 4
 . exact Pb c
 . exact Nat.le_refl _
theorem xm {c : Cu} (h : ¬ c.c = 0) (f : Pf) : gC f c = c := by
 unfold gC
 repeat' split
 . rw [zS h]
 . exact qj h 8
 . exact qj h 4
 . unfold Cu.text
   rw [zS h]
   dsimp only
   rw [if_neg (fun q => h q.1)]
   exact qj h _
 . rfl
theorem uf {c : Cu} (h : c.bK.c = 0) : c.p < c.bK.p := by
 have h1 : c.tag.2.c = 0 := by
  rcases Decidable.em (c.tag.2.c = 0) with q | q
  . exact q
  . unfold Cu.bK at h; rw [xm q] at h; exact absurd h q
 have h2 : c.bg.2.c = 0 := by
  unfold Cu.tag at h1
  split at h1
  . rename_i q; exact absurd h1 q
  . rename_i q; simpa using q
 have h3 : c.bg.2.p ≤ c.tag.2.p := by
  unfold Cu.tag
  repeat' split
  . exact Nat.le_refl _
  . exact Nat.le_refl _
  . exact Nat.le_of_eq (mD _ 14).symm
 have := Fa h2
 have := D8 ⟨c.tag.1.1, c.tag.1.2, 0, []⟩ c.tag.2
 unfold Cu.bK
 omega
def dJ : Nat → Cu → List Pf → Cu × List Pf
 | 0, c, acc => (c, acc)
 | n + 1, c, acc => if c.c = 0 ∧ c.left > 0 then (if c.bK.c ≠ 0 then (c.bK, acc) else dJ n c.bK (acc ++ [c.fz])) else (c, acc)
def Cu.all (c : Cu) (acc : List Pf) : Cu × List Pf := dJ (c.e - c.p) c acc
def yP : YT := fun args sg kl => match args, sg, aP 1 kl with
 | [.agg [.int .i64 n, .int .i64 w, .int .u64 u, .str t]], [.cells [.str s, .int .i64 a, .int .i64 b, .int .i64 c], .cells [.buf 3], .cells [.ptr 0 0], .buf 4 0 l, .cells [.int .i64 n2, .int .i64 w2, .int .u64 u2, .str t2]], false =>
   some (l.length ≤ 2000000000, .bool true, [.cells [.str s, .int .i64 a, .int .i64 b, .int .i64 c], .cells [.buf 3], .cells [.ptr 0 0], .buf 4 0 (l ++ [.agg [.int .i64 n, .int .i64 w, .int .u64 u, .str t]]), .cells [.int .i64 n2, .int .i64 w2, .int .u64 u2, .str t2]], [3])
 | _, _, _ => none
theorem J1 (c : Cu) (hp : True) : OK 51 ([.ptr 0 0]) ([.cells (eC c)]) (.func (.func 74) [] [.ptr 1 0]) (some [.cells (eC c), .cells [.ptr 0 0]]) := by
 refine al (C := cx []) (aq trivial) (fn := Tryz.f51) rfl rfl rfl rfl fun hw hs => ?_
 all_goals try conv => whnf
 all_goals try (refine ae.mk ?_; try dsimp only)
 all_goals try refine stay ?_
 refine af.mk [] ?_ <;> (repeat' first | trivial)
def yO : Sm := fun args σ => match args, σ with
 | [.ptr 0 0], [.cells ([.str s_c, .int .i64 (.ofNat a_c), .int .i64 (.ofNat e_c), .int .i64 c_c])] => some (True ∧ (True), .func (.func 74) [] [.ptr 1 0], some [.cells (eC (Cu.mk s_c a_c e_c c_c)), .cells [.ptr 0 0]])
 | _, _ => none
theorem LO : au 51 yO := by
 intro args sg pre x r he hp
 unfold yO at he
 split at he <;> cases he
 . rw [gm (hp).1]; exact J1 (hp := hp.2) ..
theorem OJ (c : Cu) (hc : c.ok) (hl : c.s.length ≤ 1000000000) : vC (cx []) 74 [.ptr 2 0] [.cells (eC c), .cells [.buf 3], .cells [.ptr 0 0], .buf 4 0 []] yP
   [.cells (eC (c.all []).1), .cells [.buf 3], .cells [.ptr 0 0], .buf 4 0 ((c.all []).2.map av)] [3] := by
 refine OI (C := cx []) (Γ := fun f => mX [(52, ni), (75, uL), (76, yS)] f) (fun l => goody ⟨pR, C8, LR, trivial⟩) (fn := Tryz.f74) rfl rfl rfl rfl rfl fun l hw hs => ?_
 all_goals try conv => whnf
 all_goals try (refine ae.mk ?_; try dsimp only)
 refine aT.mk (Nat × Cu × List Pf) (fun (n, d, acc) => d.ok ∧ d.s = c.s ∧ d.e - d.p ≤ n ∧ acc.length ≤ d.p ∧ dJ n d acc = c.all []) (fun (n, d, acc) => ⟨23, [(0, .func (.yield l) [] []), (1, .ptr 2 0)], [.cells (eC d), .cells [.buf 3], .cells [.ptr 0 0], .buf 4 0 (acc.map av)], [3]⟩) (fun x => x.1) [] (c.e - c.p, c, []) ⟨hc, rfl, Nat.le_refl _, Nat.zero_le _, rfl⟩ ?_ (fun ⟨n, d, acc⟩ ⟨h1, h2, h3, h4, h5⟩ _ _ => ?_)
 . refine Go.VG.Sub.mk rfl ?_ ?_ ?_ ?_ <;> (repeat' first | trivial)
 have hdl : d.s.length ≤ 1000000000 := by rw [h2]; exact hl
 have hno := rW h1
 have hp1 := h1.1
 have hp2 := h1.2
 have hlf : d.left = (d.e : Int) - d.p := rfl
 repeat' ((conv => whnf); first | apply aj | apply aO | (apply aw <;> intro h))
 all_goals try conv => whnf
 all_goals try (refine ae.mk ?_; try dsimp only)
 all_goals (try simp only [dc] at *)
 all_goals first | refine stay ?_ | trivial | (simp (discharger := omega) [-List.getD_eq_getElem?_getD, wR] <;> omega) | skip
 . exact ⟨trivial, h1, by omega⟩
 . have h0 : d.c = 0 := by assumption
   have hl0 : d.left > 0 := by assumption
   obtain ⟨m, rfl⟩ : ∃ m, n = m + 1 := ⟨n - 1, by omega⟩
   have hn0 : d.bK.c = 0 := by assumption
   have hadv := uf hn0
   rw [dJ, if_pos ⟨h0, hl0⟩, if_neg (by omega)] at h5
   refine ⟨[], (m, d.bK, acc ++ [d.fz]), ⟨hno.1, hno.2.1.trans h2, by show d.bK.e - d.bK.p ≤ m; rw [hno.2.2]; omega, by show (acc ++ [d.fz]).length ≤ d.bK.p; rw [List.length_append, List.length_singleton]; omega, h5⟩, ?_, by show m < m + 1; omega⟩
   refine Go.VG.Sub.mk rfl ?_ ?_ ?_ ?_ <;> (repeat' first | trivial | apply ax | apply bo)
   simp
 . have h0 : d.c = 0 := by assumption
   have hl0 : d.left > 0 := by assumption
   obtain ⟨m, rfl⟩ : ∃ m, n = m + 1 := ⟨n - 1, by omega⟩
   rw [dJ, if_pos ⟨h0, hl0⟩, if_pos (by assumption)] at h5
   rw [← h5]
   refine af.mk [] ?_ <;> (repeat' first | trivial)
 . have h0 : ¬ (d.c = 0 ∧ d.left > 0) := fun q => absurd q.2 (by assumption)
   have h6 : dJ n d acc = (d, acc) := by
    cases n with
    | zero => rfl
    | succ m => rw [dJ, if_neg h0]
   rw [← h5, h6]
   refine af.mk [] ?_ <;> (repeat' first | trivial)
 . have h0 : ¬ (d.c = 0 ∧ d.left > 0) := fun q => absurd q.1 (by assumption)
   have h6 : dJ n d acc = (d, acc) := by
    cases n with
    | zero => rfl
    | succ m => rw [dJ, if_neg h0]
   rw [← h5, h6]
   refine af.mk [] ?_ <;> (repeat' first | trivial)
def ao (s : List UInt8) : Int := ((Cu.new s).all []).1.c
def aF (s : List UInt8) : List Pf := if ao s = 0 then ((Cu.new s).all []).2 else []
theorem IX (s : List UInt8) (hp : s.length ≤ 1000000000) : OK 24 ([.str s]) ([]) (.tuple [.buf 0, .int .i64 (ao s)]) (some [.buf 4 0 ((aF s).map av)]) := by
 refine al (C := cx [(50, y4), (51, yO), (52, ni)]) (aq ⟨La, LO, pR, trivial⟩) (fn := Tryz.f24) rfl rfl rfl rfl fun hw hs => ?_
 have hnew : (Cu.new s).ok := ⟨Nat.zero_le _, Nat.le_refl _⟩
 have hseq := OJ (.new s) hnew hp
 repeat' ((conv => whnf); apply aj)
 all_goals try conv => whnf
 all_goals try (refine ae.mk ?_; try dsimp only)
 . exact ⟨trivial, trivial⟩
 refine sT.mk [.cell 1 0 4] 74 [.ptr 2 0] yP [(5, .ptr 1 0)] [(4, .ptr 0 0), (5, .ptr 1 0), (2, .list true 0 []), (3, .int .i64 0)] _ [3] rfl rfl rfl hseq (fun args s' pre y sg' ks' hy hpre hwa hws => ?_) ⟨?_, ?_⟩
 . unfold yP at hy
   split at hy
   . rename_i e1 e2
     cases hy
     obtain ⟨nt', tm', sg', kl'⟩ := s'
     dsimp only at e1 e2 hws ⊢
     subst e1
     refine ⟨rfl, rfl, ⟨⟨rfl, ?_⟩, trivial⟩, ?_⟩
     . simp [V.kill, e2]
     repeat' ((conv => whnf); apply aj)
     all_goals try conv => whnf
     all_goals try (refine ae.mk ?_; try dsimp only)
     all_goals first | refine stay ?_ | (simp only [cL]; omega) | skip
     refine ⟨[], ⟨⟨rfl, rfl⟩, ⟨rfl, rfl⟩, ⟨rfl, rfl⟩, ⟨rfl, rfl⟩, ⟨rfl, rfl⟩, trivial⟩, rfl, Nat.le_refl 5⟩
   . cases hy
 . exact ⟨⟨rfl, rfl⟩, ⟨rfl, rfl⟩, ⟨rfl, rfl⟩, ⟨rfl, rfl⟩, trivial⟩
 repeat' ((conv => whnf); first | apply aj | apply aO | (apply aw <;> intro h))
 all_goals try conv => whnf
 all_goals try (refine ae.mk ?_; try dsimp only)
 all_goals (try exact ⟨trivial, trivial⟩)
 all_goals
  show af _ _ _ _ _ _
  have hfa : ao s = ((Cu.new s).all []).1.c := rfl
  have hff : aF s = if ao s = 0 then ((Cu.new s).all []).2 else [] := rfl
  first
  | (rw [if_pos (by assumption)] at hff
     have h0 : ao s = 0 := by assumption
     rw [hff, h0]
     (refine af.mk [.swap 0 3] ?_ <;> (repeat' first | trivial | rfl | exact eN _ _ | apply ax | apply dn | apply aH | apply cR | apply bo | apply cS | apply cU | apply cZ | apply cJ | apply bE))
     done)
  | (rw [if_neg (by assumption)] at hff
     rw [hff, hfa]
     (refine af.mk [.tm 2 4, .swap 0 4] ?_ <;> (repeat' first | trivial | rfl | exact eN _ _ | apply ax | apply dn | apply aH | apply cR | apply bo | apply cS | apply cU | apply cZ | apply cJ | apply bE))
     done)
def uX : Sm := fun args σ => match args, σ with
 | [.str s], [] => some (s.length ≤ 1000000000, .tuple [.buf 0, .int .i64 (ao s)], some [.buf 4 0 ((aF s).map av)])
 | _, _ => none
theorem Cn : au 24 uX := by
 intro args sg pre x r he hp
 unfold uX at he
 split at he <;> cases he
 . exact IX (hp := hp) ..
end Go.Proofs.YtdjolnjlhbfnmaaGreatDoor
namespace Go.Proofs.YtdjolnjlhbfnmaaGreatDoor
open Go Go.VG
set_option maxRecDepth 100000
def n7 (u : Nat) : Bool := bD (iV u) (iW u)
theorem CY (u : Nat) : n7 u = true ↔ u / 8 ≤ 536870911 ∧ bD ((u / 8 : Nat) : Int) ((u % 8 : Nat) : Int) = true := by
 unfold n7 iV iW
 by_cases h : u / 4294967296 = 0
 . rw [if_neg (by omega), if_neg (by omega)]
   exact ⟨fun q => ⟨by omega, q⟩, fun q => q.2⟩
 . rw [if_pos h, if_pos h]
   exact ⟨fun q => absurd q (by decide), fun q => absurd q.1 (by omega)⟩
theorem MU {u : Nat} (h : n7 u = true) : iV u = ((u / 8 : Nat) : Int) ∧ iW u = ((u % 8 : Nat) : Int) := by
 have := (CY u).mp h
 unfold iV iW
 rw [if_neg (by omega), if_neg (by omega)]
 exact ⟨rfl, rfl⟩
def Cu.dj (c : Cu) : (Int × Int) × Cu := if c.aY.2.c ≠ 0 then ((0, 0), c.aY.2) else if n7 c.aY.1 = true then ((iV c.aY.1, iW c.aY.1), c.aY.2) else ((0, 0), c.aY.2.fail 14)
def iH (f : Pf) (c : Cu) : Cu := if f.wi = 0 then c.aY.2 else if f.wi = 1 then c.mY.2 else if f.wi = 5 then c.jP.2 else c.gN.2
def lj (f : Pf) (c : Cu) : Pf := if f.wi = 0 then { f with num := c.aY.1 } else if f.wi = 1 then { f with num := c.mY.1 } else if f.wi = 5 then { f with num := c.jP.1 } else if c.aY.2.c = 0 ∧ (c.aY.1 : Int) > c.aY.2.left then f else { f with text := c.gN.1 }
theorem B8 {c : Cu} (h : c.aY.2.c = 0) : c.dj = c.tag := by
 rw [mf] at h
 have h2 := vZ h
 unfold Cu.dj Cu.tag n7
 rw [h2, if_neg (show ¬ c.bg.2.c ≠ 0 from fun q => q h)]
theorem B9 (c : Cu) : c.dj.2.c = c.tag.2.c := by
 by_cases h : c.aY.2.c = 0
 . rw [B8 h]
 . have h1 : ¬ c.bg.2.c = 0 := by rw [← mf]; exact h
   unfold Cu.dj Cu.tag
   rw [if_pos h, if_pos h1]
   exact mf c
theorem G5 {c : Cu} (h : c.tag.2.c = 0) : c.dj = c.tag := by
 refine B8 ?_
 rw [mf]
 unfold Cu.tag at h
 split at h
 . rename_i q; exact absurd h q
 . rename_i q; simpa using q
theorem dx_c (f : Pf) (c : Cu) (hw : f.wi = 0 ∨ f.wi = 1 ∨ f.wi = 2 ∨ f.wi = 5) : (iH f c).c = (gC f c).c ∧ ((gC f c).c = 0 → iH f c = gC f c ∧ lj f c = oE f c) := by
 have ht := G7 c
 unfold iH gC lj oE
 by_cases h0 : f.wi = 0
 . rw [if_pos h0, if_pos h0, if_pos h0, if_pos h0]
   refine ⟨mf c, fun q => ?_⟩
   rw [vZ q]; exact ⟨rfl, rfl⟩
 rw [if_neg h0, if_neg h0, if_neg h0, if_neg h0]
 by_cases h1 : f.wi = 1
 . rw [if_pos h1, if_pos h1, if_pos h1, if_pos h1]
   exact ⟨rfl, fun q => ⟨rfl, rfl⟩⟩
 rw [if_neg h1, if_neg h1, if_neg h1, if_neg h1]
 by_cases h5 : f.wi = 5
 . rw [if_pos h5, if_pos h5, if_pos h5, if_pos h5]
   exact ⟨rfl, fun q => ⟨rfl, rfl⟩⟩
 have h2 : f.wi = 2 := by omega
 rw [if_neg h5, if_neg h5, if_neg h5, if_neg h5, if_pos h2, if_pos h2]
 refine ⟨ht.1, fun q => ?_⟩
 rw [ht.2 q]
 refine ⟨rfl, ?_⟩
 split
 . rename_i g
   have hd := ht.2 q
   have : c.gN.2.c = 1 := by
    unfold Cu.gN
    rw [if_pos g]
    unfold Cu.fail
    rw [if_pos g.1]
   rw [ht.1, q] at this; cases this
 . rfl
def Cu.jG (c : Cu) : Cu := if c.dj.2.c ≠ 0 then c.dj.2 else iH ⟨c.dj.1.1, c.dj.1.2, 0, []⟩ c.dj.2
def Cu.nV (c : Cu) : Pf := if c.jG.c ≠ 0 then default else lj ⟨c.dj.1.1, c.dj.1.2, 0, []⟩ c.dj.2
theorem P7 {c : Cu} (h : c.tag.2.c = 0) : (c.tag.1.2 = 0 ∨ c.tag.1.2 = 1 ∨ c.tag.1.2 = 2 ∨ c.tag.1.2 = 5) ∧ bD c.tag.1.1 c.tag.1.2 = true := by
 unfold Cu.tag at h ⊢
 split at h
 . rename_i q; exact absurd h q
 . rename_i q
   rw [if_neg q]
   split at h
   . rename_i q2
     rw [if_pos q2]
     exact ⟨(of_decide_eq_true q2).2, q2⟩
   . have h0 : c.bg.2.c = 0 := by simpa using q
     unfold Cu.fail at h
     rw [if_pos h0] at h
     cases h
theorem FV (c : Cu) : c.jG.c = c.bK.c ∧ c.nV = c.fz ∧ (c.bK.c = 0 → c.jG = c.bK) := by
 have hc : c.jG.c = c.bK.c ∧ (c.bK.c = 0 → c.jG = c.bK ∧ lj ⟨c.dj.1.1, c.dj.1.2, 0, []⟩ c.dj.2 = oE ⟨c.tag.1.1, c.tag.1.2, 0, []⟩ c.tag.2) := by
  unfold Cu.jG Cu.bK
  by_cases h : c.tag.2.c = 0
  . have he := G5 h
    rw [he, if_neg (fun q => q h)]
    have hd := dx_c ⟨c.tag.1.1, c.tag.1.2, 0, []⟩ c.tag.2 (P7 h).1
    exact ⟨hd.1, hd.2⟩
  . have h1 : ¬ c.dj.2.c = 0 := by rw [B9]; exact h
    rw [if_pos h1, xm h]
    exact ⟨B9 c, fun q => absurd q h⟩
 refine ⟨hc.1, ?_, fun q => (hc.2 q).1⟩
 unfold Cu.nV Cu.fz
 rw [hc.1]
 by_cases h : c.bK.c = 0
 . rw [if_neg (fun q => q h), if_neg (fun q => q h), (hc.2 h).2]
 . rw [if_pos h, if_pos h]
theorem G6 {c : Cu} (h : c.ok) : c.dj.2.ok ∧ c.dj.2.s = c.s ∧ c.dj.2.e = c.e := by
 have hd := tu h
 have hf := kD hd.1 14
 unfold Cu.dj
 repeat' split
 . exact hd
 . exact hd
 . exact ⟨hf.1, hf.2.1.trans hd.2.1, hf.2.2.1.trans hd.2.2⟩
theorem JO (n w : Int) (hp : True) : OK 95 ([.int .i64 n, .int .i64 w]) ([]) (.bool (bD n w)) (none) := by
 refine al (C := cx []) (aq trivial) (fn := Tryz.f95) rfl rfl rfl rfl fun hw hs => ?_
 repeat' ((conv => whnf); (apply aw <;> intro h))
 all_goals try conv => whnf
 all_goals try (refine ae.mk ?_; try dsimp only)
 all_goals try refine stay ?_
 all_goals first
  | (exfalso; omega)
  | (show af _ _ _ _ _ _
     have he : bD n w = bD n w := rfl
     conv at he => rhs; unfold bD
     first | rw [decide_eq_true (by omega)] at he | rw [decide_eq_false (by omega)] at he
     rw [he]
     refine af.mk [] ?_ <;> (repeat' first | trivial)
     done)
  | (have he : bD n w = (w == 5) := by
       unfold bD
       rw [Bool.eq_iff_iff, decide_eq_true_iff, beq_iff_eq]; omega
     rw [he]
     refine af.mk [] ?_ <;> (repeat' first | trivial)
     done)
def zc : Sm := fun args σ => match args, σ with
 | [.int .i64 n, .int .i64 w], [] => some (True, .bool (bD n w), none)
 | _, _ => none
theorem M4 : au 95 zc := by
 intro args sg pre x r he hp
 unfold zc at he
 split at he <;> cases he
 . exact JO (hp := hp) ..
theorem JP (c : Cu) (hp : c.ok ∧ c.e = c.s.length ∧ c.s.length ≤ 1000000000) : OK 61 ([dI c]) ([]) (.tuple [dI c.dj.2, .int .i64 c.dj.1.1, .int .i64 c.dj.1.2]) (none) := by
 refine al (C := cx [(94, vb), (95, zc), (96, v8)]) (aq ⟨Cw, M4, Cs, trivial⟩) (fn := Tryz.f61) rfl rfl rfl rfl fun hw hs => ?_
 have hl := @G3 c
 have hm := CY c.aY.1
 have hg := @MU c.aY.1
 have hq8 : IntKind.u64.wrap ((c.aY.1 : Int).tdiv 8) = ((c.aY.1 / 8 : Nat) : Int) := by
  rw [Int.tdiv_eq_ediv_of_nonneg (by omega), db]; omega
 have hr8 : (c.aY.1 : Int).tmod 8 = ((c.aY.1 % 8 : Nat) : Int) := rfl
 have hq9 : IntKind.i64.wrap ((c.aY.1 / 8 : Nat) : Int) = ((c.aY.1 / 8 : Nat) : Int) := by rw [bc]; omega
 have hr9 : IntKind.i64.wrap ((c.aY.1 % 8 : Nat) : Int) = ((c.aY.1 % 8 : Nat) : Int) := by rw [bc]; omega
 repeat' ((conv => whnf); first | apply aj | apply aO | (apply aw <;> intro h))
 all_goals try conv => whnf
 all_goals try (refine ae.mk ?_; try dsimp only)
 all_goals (try simp only [hq8, hr8, hq9, hr9] at *)
 all_goals (try simp only [dc] at *)
 all_goals first | refine stay ?_ | trivial | skip
 all_goals
  show af _ _ _ _ _ _
  have he : c.dj = c.dj := rfl
  conv at he => rhs; unfold Cu.dj
  first
  | (rw [if_pos (by assumption)] at he
     rw [he])
  | (rw [if_neg (by omega)] at he
     first
     | (have hm1 : n7 c.aY.1 = true := hm.mpr ⟨by omega, decide_eq_true (by assumption)⟩
        rw [if_pos hm1, (hg hm1).1, (hg hm1).2] at he)
     | (have hm1 : ¬ n7 c.aY.1 = true := fun q => by have := (hm.mp q).1; omega
        rw [if_neg hm1] at he)
     | (have hm1 : ¬ n7 c.aY.1 = true := fun q => absurd (of_decide_eq_true (hm.mp q).2) (by assumption)
        rw [if_neg hm1] at he)
     rw [he])
  first
  | (refine af.mk [] ?_ <;> (repeat' first | trivial | rfl | exact eN _ _ | apply ax | apply dn | apply aH | apply cR | apply bo | apply cS | apply cU | apply cZ | apply cJ | apply bE)
     done)
def zd : Sm := fun args σ => match args, σ with
 | [.agg [.str s_c, .int .i64 (.ofNat a_c), .int .i64 (.ofNat e_c), .int .i64 c_c]], [] => some (True ∧ ((Cu.mk s_c a_c e_c c_c).ok ∧ (Cu.mk s_c a_c e_c c_c).e = (Cu.mk s_c a_c e_c c_c).s.length ∧ (Cu.mk s_c a_c e_c c_c).s.length ≤ 1000000000), .tuple [dI (Cu.mk s_c a_c e_c c_c).dj.2, .int .i64 (Cu.mk s_c a_c e_c c_c).dj.1.1, .int .i64 (Cu.mk s_c a_c e_c c_c).dj.1.2], none)
 | _, _ => none
theorem M5 : au 61 zd := by
 intro args sg pre x r he hp
 unfold zd at he
 split at he <;> cases he
 . rw [ny (hp).1]; exact JP (hp := hp.2) ..
theorem qH {a : Int} (h : -9223372036854775808 ≤ a ∧ a ≤ 9223372036854775807) : IntKind.i64.wrap a = a := by rw [bc]; omega
theorem G9 {c : Cu} (h : c.ok) (f : Pf) : (iH f c).ok ∧ (iH f c).s = c.s ∧ (iH f c).e = c.e := by
 have hv := tu h
 have ht := G8 h
 have h8 := kT h 8
 have h4 := kT h 4
 unfold iH
 repeat' split
 . exact hv
 . exact h8
 . exact h4
 . exact ht
theorem JS (c : Cu) (f : Pf) (hp : c.ok ∧ c.e = c.s.length ∧ c.s.length ≤ 1000000000) : OK 62 ([dI c, av f]) ([]) (.tuple [dI (iH f c), av (lj f c)]) (none) := by
 refine al (C := cx [(94, vb), (97, z7), (96, v8), (98, va)]) (aq ⟨Cw, LZ, Cs, Cv, trivial⟩) (fn := Tryz.f62) rfl rfl rfl rfl fun hw hs => ?_
 have hd := tu hp.1
 have hb : c.aY.2.e ≤ 1000000000 := by rw [hd.2.2]; omega
 have hb2 : c.aY.2.s.length ≤ 1000000000 := by rw [hd.2.1]; omega
 have hd1 := hd.1.1
 have hlf : c.aY.2.left = (c.aY.2.e : Int) - c.aY.2.p := rfl
 have hwl : IntKind.i64.wrap ((c.aY.2.e : Int) - c.aY.2.p) = (c.aY.2.e : Int) - c.aY.2.p := qH (by omega)
 have hwu : IntKind.u64.wrap ((c.aY.2.e : Int) - c.aY.2.p) = (c.aY.2.e : Int) - c.aY.2.p := by rw [db]; omega
 repeat' ((conv => whnf); first | apply aj | (apply aw <;> intro h))
 all_goals try conv => whnf
 all_goals try (refine ae.mk ?_; try dsimp only)
 all_goals (try simp only [hwl, hwu] at *)
 all_goals (try simp only [dc] at *)
 all_goals first | refine stay ?_ | trivial | skip
 all_goals first
  | exact ⟨trivial, ⟨hp.1, hp.2.2⟩, by decide⟩
  | exact ⟨trivial, hd.1, hb2⟩
  | (show af _ _ _ _ _ _
     have hwn : IntKind.i64.wrap (c.aY.1 : Int) = c.aY.1 := by
      by_cases q : c.aY.2.c = 0
      . first
        | exact absurd q (by assumption)
        | exact qH (by omega)
      . rw [G4 q]; rfl
     rw [hwn]
     skip)
  | skip
 all_goals
  have he : iH f c = iH f c := rfl
  conv at he => rhs; unfold iH; dsimp only
  repeat (first | rw [if_pos (by assumption)] at he | rw [if_neg (by assumption)] at he)
  have hf : lj f c = lj f c := rfl
  conv at hf => rhs; unfold lj; dsimp only
  repeat (first | rw [if_pos (by assumption)] at hf | rw [if_neg (by assumption)] at hf)
  try
   (have ht : c.gN = c.gN := rfl
    conv at ht => rhs; unfold Cu.gN; dsimp only
    first
    | (rw [if_pos ⟨by assumption, by omega⟩] at hf ht; rw [ht] at he)
    | (rw [if_neg (by omega)] at hf ht; rw [ht] at he hf))
  rw [he, hf]
  (refine af.mk [] ?_ <;> (repeat' first | trivial | rfl | exact eN _ _ | apply ax | apply dn | apply aH | apply cR | apply bo | apply cS | apply cU | apply cZ | apply cJ | apply bE))
def zf : Sm := fun args σ => match args, σ with
 | [.agg [.str s_c, .int .i64 (.ofNat a_c), .int .i64 (.ofNat e_c), .int .i64 c_c], .agg [.int .i64 n_f, .int .i64 w_f, .int .u64 u_f, .str t_f]], [] => some (True ∧ (True ∧ ((Cu.mk s_c a_c e_c c_c).ok ∧ (Cu.mk s_c a_c e_c c_c).e = (Cu.mk s_c a_c e_c c_c).s.length ∧ (Cu.mk s_c a_c e_c c_c).s.length ≤ 1000000000)), .tuple [dI (iH (Pf.mk n_f w_f u_f t_f) (Cu.mk s_c a_c e_c c_c)), av (lj (Pf.mk n_f w_f u_f t_f) (Cu.mk s_c a_c e_c c_c))], none)
 | _, _ => none
theorem M7 : au 62 zf := by
 intro args sg pre x r he hp
 unfold zf at he
 split at he <;> cases he
 . rw [ny (hp).1]; rw [iY (hp.2).1]; exact JS (hp := hp.2.2) ..
theorem JR (c : Cu) (hp : c.ok ∧ c.e = c.s.length ∧ c.s.length ≤ 1000000000) : OK 35 ([dI c]) ([]) (.tuple [dI c.jG, av c.nV]) (none) := by
 refine al (C := cx [(61, zd), (62, zf)]) (aq ⟨M5, M7, trivial⟩) (fn := Tryz.f35) rfl rfl rfl rfl fun hw hs => ?_
 have hd := G6 hp.1
 have hx := G9 hd.1
 repeat' ((conv => whnf); first | apply aj | apply aO | (apply aw <;> intro h))
 all_goals try conv => whnf
 all_goals try (refine ae.mk ?_; try dsimp only)
 all_goals (try simp only [dc] at *)
 all_goals first | refine stay ?_ | trivial | skip
 all_goals first
  | exact ⟨trivial, trivial, hd.1, by rw [hd.2.2, hd.2.1]; exact hp.2.1, by rw [hd.2.1]; exact hp.2.2⟩
  | skip
 all_goals
  have he : c.jG = c.jG := rfl
  conv at he => rhs; unfold Cu.jG
  first | rw [if_pos (by assumption)] at he | rw [if_neg (by omega)] at he
  have hf : c.nV = c.nV := rfl
  conv at hf => rhs; unfold Cu.nV; rw [he]
  first | rw [if_pos (by assumption)] at hf | rw [if_neg (by omega)] at hf
  rw [he, hf]
  (refine af.mk [] ?_ <;> (repeat' first | trivial | rfl | exact eN _ _ | apply ax | apply dn | apply aH | apply cR | apply bo | apply cS | apply cU | apply cZ | apply cJ | apply bE))
def ze : Sm := fun args σ => match args, σ with
 | [.agg [.str s_c, .int .i64 (.ofNat a_c), .int .i64 (.ofNat e_c), .int .i64 c_c]], [] => some (True ∧ ((Cu.mk s_c a_c e_c c_c).ok ∧ (Cu.mk s_c a_c e_c c_c).e = (Cu.mk s_c a_c e_c c_c).s.length ∧ (Cu.mk s_c a_c e_c c_c).s.length ≤ 1000000000), .tuple [dI (Cu.mk s_c a_c e_c c_c).jG, av (Cu.mk s_c a_c e_c c_c).nV], none)
 | _, _ => none
theorem M6 : au 35 ze := by
 intro args sg pre x r he hp
 unfold ze at he
 split at he <;> cases he
 . rw [ny (hp).1]; exact JR (hp := hp.2) ..
theorem JQ (s : List UInt8) (hp : s.length ≤ 1000000000) : OK 14 ([.str s]) ([]) (.tuple [.buf 0, .int .i64 (ao s)]) (some [.buf 4 0 ((aF s).map av)]) := by
 refine al (C := cx [(34, yX), (35, ze)]) (aq ⟨LW, M6, trivial⟩) (fn := Tryz.f14) rfl rfl rfl rfl fun hw hs => ?_
 have hfa : ao s = ((Cu.new s).all []).1.c := rfl
 have hff : aF s = if ao s = 0 then ((Cu.new s).all []).2 else [] := rfl
 repeat' ((conv => whnf); apply aj)
 all_goals try conv => whnf
 all_goals try (refine ae.mk ?_; try dsimp only)
 refine aT.mk (Nat × Cu × List Pf) (fun (n, d, acc) => d.ok ∧ d.s = s ∧ d.e = s.length ∧ d.c = 0 ∧ d.e - d.p ≤ n ∧ acc.length ≤ d.p ∧ dJ n d acc = (Cu.new s).all []) (fun (n, d, acc) => ⟨31, [(0, .str s), (4, .ptr 0 0), (5, .buf 1)], [.cells (eC d), .buf 4 0 (acc.map av)], [1]⟩) (fun x => x.1) [.tm 5 4] (s.length, .new s, []) ⟨⟨Nat.zero_le _, Nat.le_refl _⟩, rfl, rfl, rfl, Nat.le_refl _, Nat.zero_le _, rfl⟩ ?_ (fun ⟨n, d, acc⟩ ⟨h1, h2, h3, h4, h5, h6, h7⟩ _ _ => ?_)
 . refine Go.VG.Sub.mk rfl ?_ ?_ ?_ ?_ <;> (repeat' first | trivial)
 have hno := rW h1
 have hdn := FV d
 repeat' ((conv => whnf); first | apply aj | apply aO | (apply aw <;> intro h))
 all_goals try conv => whnf
 all_goals try (refine ae.mk ?_; try dsimp only)
 all_goals (try simp only [dc] at *)
 all_goals first | refine stay ?_ | (simp (discharger := omega) [-List.getD_eq_getElem?_getD, wR] <;> omega) | skip
 . exact ⟨trivial, h1, by rw [h2]; exact h3, by rw [h2]; exact hp⟩
 . have hn0 : d.bK.c = 0 := by omega
   have hadv := uf hn0
   have hlf : d.left = (d.e : Int) - d.p := rfl
   obtain ⟨m, rfl⟩ : ∃ m, n = m + 1 := ⟨n - 1, by omega⟩
   rw [dJ, if_pos ⟨h4, by omega⟩, if_neg (by omega)] at h7
   rw [hdn.2.2 hn0, hdn.2.1]
   refine ⟨[], (m, d.bK, acc ++ [d.fz]), ⟨hno.1, hno.2.1.trans h2, hno.2.2.trans h3, hn0, by show d.bK.e - d.bK.p ≤ m; rw [hno.2.2]; omega, by show (acc ++ [d.fz]).length ≤ d.bK.p; rw [List.length_append, List.length_singleton]; omega, h7⟩, ?_, by show m < m + 1; omega⟩
   refine Go.VG.Sub.mk rfl ?_ ?_ ?_ ?_ <;> (repeat' first | trivial | apply ax | apply bo)
   simp
 . have hlf : d.left = (d.e : Int) - d.p := rfl
   obtain ⟨m, rfl⟩ : ∃ m, n = m + 1 := ⟨n - 1, by omega⟩
   rw [dJ, if_pos ⟨h4, by omega⟩, if_pos (by omega)] at h7
   rw [← h7] at hfa
   have hfa : ao s = d.bK.c := hfa
   rw [if_neg (by omega)] at hff
   rw [hfa, hff, hdn.1]
   refine af.mk [.tm 2 4, .swap 0 4] ?_ <;> (repeat' first | trivial)
 . have hlf : d.left = (d.e : Int) - d.p := rfl
   have h8 : dJ n d acc = (d, acc) := by
    cases n with
    | zero => rfl
    | succ m => rw [dJ, if_neg (fun q => by omega)]
   rw [h8] at h7
   rw [← h7] at hfa hff
   have hfa : ao s = 0 := hfa.trans h4
   rw [if_pos hfa] at hff
   rw [hfa, hff]
   refine af.mk [.swap 0 1] ?_ <;> (repeat' first | trivial)
def eK : Sm := fun args σ => match args, σ with
 | [.str s], [] => some (s.length ≤ 1000000000, .tuple [.buf 0, .int .i64 (ao s)], some [.buf 4 0 ((aF s).map av)])
 | _, _ => none
theorem fg : au 14 eK := by
 intro args sg pre x r he hp
 unfold eK at he
 split at he <;> cases he
 . exact JQ (hp := hp) ..
end Go.Proofs.YtdjolnjlhbfnmaaGreatDoor
