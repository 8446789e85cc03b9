/-
  A part of the proof.
-/
import Derived.Test.YtipejldppicijaaGreatDoorCVc
set_option linter.unusedSimpArgs false
set_option linter.unusedVariables false
set_option maxHeartbeats 4000000
namespace Go.Proofs.YtipejldppicijaaGreatDoor
open Go Go.VG
set_option maxRecDepth 100000
theorem Mq {f : Cu → Cu} {c : Cu} (h : c.c ≠ 0) : ∀ n, fz f n c = c
 | 0 => rfl
 | n + 1 => by rw [fz, if_pos h]
theorem Mp {v : SF} {c : Cu} (h : c.c ≠ 0) (last : Int) : ∀ n, iU v n c last = c
 | 0 => rfl
 | n + 1 => by rw [iU, if_pos h]
theorem gT {a : Int} : (a == 0) = true ↔ a = 0 := beq_iff_eq
theorem HP (c : Cu) (hp : True) : OK 173 ([.agg [.ptr 0 0]]) ([.cells (eC c)]) (.bool (c.c == 0)) (none) := by
 refine af (C := cx [(35, gD)]) (ah ⟨ib, trivial⟩) (fn := Tryz.f173) rfl rfl rfl rfl fun hw hs => ?_
 repeat' ((conv => whnf); apply a9)
 all_goals try conv => whnf
 all_goals try (refine a8.mk ?_; try dsimp only)
 all_goals (try simp only [cg] at *)
 all_goals first | refine stay ?_ | trivial | skip
 refine a7.mk [] ?_ <;> (repeat' first | trivial)
def oD : Sm := fun args σ => match args, σ with
 | [.agg [.ptr 0 0]], [.cells ([.str s_c, .int .i64 (.ofNat a_c), .int .i64 (.ofNat e_c), .int .i64 c_c])] => some (True ∧ (True), .bool ((Cu.mk s_c a_c e_c c_c).c == 0), none)
 | _, _ => none
theorem s5 : aa 173 oD := by
 intro args sg pre x r he hp
 unfold oD at he
 split at he <;> cases he
 . rw [bT (hp).1]; exact HP (hp := hp.2) ..
theorem HQ (c : Cu) (d : Int) (hp : c.ok ∧ c.s.length ≤ 9223372036854775807) : OK 160 ([.agg [.ptr 0 0], .int .i64 d]) ([.cells (eC c)]) (.tuple []) (some [.cells (eC c.text.2)]) := by
 refine af (C := cx [(68, kb), (173, oD), (124, qN), (66, fX), (123, mR)]) (ah ⟨mz, s5, vl, gK, pL, trivial⟩) (fn := Tryz.f160) rfl rfl rfl rfl fun hw hs => ?_
 obtain ⟨hp, hb⟩ := hp
 have h1 := @ra c
 have hv := ub hp
 have hf := kQ hv.1 1
 have hl : c.aO.2.left = (c.aO.2.e : Int) - c.aO.2.p := rfl
 have hw1 := hv.1.1
 have hw2 := hv.1.2
 have hs1 : c.aO.2.s.length = c.s.length := by rw [hv.2.1]
 have hwl : IntKind.u64.wrap c.aO.2.left = c.aO.2.left := by rw [hl, dN]; omega
 repeat' ((conv => whnf); first | apply a9 | (apply al <;> intro h))
 all_goals try conv => whnf
 all_goals try (refine a8.mk ?_; try dsimp only)
 all_goals (try simp only [Int.toNat_natCast, hwl, gT] at *)
 all_goals (try simp only [cg] at *)
 all_goals first | refine stay ?_ | trivial | skip
 all_goals first
  | exact ⟨trivial, hv.1⟩
  | exact ⟨trivial, hf.1⟩
  | (show a7 _ _ _ _ _ _
     have he : c.text = c.text := rfl
     conv at he => rhs; unfold Cu.text
     dsimp only at he
     first | rw [if_pos ⟨by assumption, by omega⟩] at he | rw [if_neg (by omega)] at he
     rw [he])
  | skip
 . have hfc : ¬ (c.aO.2.fail 1).c = 0 := by
     unfold Cu.fail; rw [if_pos (by assumption)]; exact (by decide : ¬ (1 : Int) = 0)
   have ht := rN hfc (IntKind.i64.wrap c.aO.1)
   simp only [ht.2]
   refine a7.mk [] ?_ <;> (repeat' first | trivial)
 . have hwn : IntKind.i64.wrap c.aO.1 = c.aO.1 := by rw [bU]; omega
   simp only [hwn]
   refine a7.mk [] ?_ <;> (repeat' first | trivial)
 . have ht := rN (c := c.aO.2) (by assumption)
   simp only [(ht _).2]
   refine a7.mk [] ?_ <;> (repeat' first | trivial)
def tH : Sm := fun args σ => match args, σ with
 | [.agg [.ptr 0 0], .int .i64 d], [.cells ([.str s_c, .int .i64 (.ofNat a_c), .int .i64 (.ofNat e_c), .int .i64 c_c])] => some (True ∧ ((Cu.mk s_c a_c e_c c_c).ok ∧ (Cu.mk s_c a_c e_c c_c).s.length ≤ 9223372036854775807), .tuple [], some [.cells (eC (Cu.mk s_c a_c e_c c_c).text.2)])
 | _, _ => none
theorem AR : aa 160 tH := by
 intro args sg pre x r he hp
 unfold tH at he
 split at he <;> cases he
 . rw [bT (hp).1]; exact HQ (hp := hp.2) ..
-- #name skValue (cskip.skipper).value
def iq (k : Nat) : Sm := fun args σ => match args, σ with
 | [.agg [.ptr 0 0], .int .u8 q, .int .i64 d], [.cells [.str s, .int .i64 (.ofNat p), .int .i64 (.ofNat e), .int .i64 cc]] =>
   some ((⟨s, p, e, cc⟩ : Cu).ok ∧ s.length ≤ 9223372036854775807 ∧ d + k = 32, .tuple [], some [.cells (eC (aX k q ⟨s, p, e, cc⟩))])
 | _, _ => none
theorem HM (k : Nat) (hv : aa 151 (iq k)) (c : Cu) (q d : Int) (hp : c.ok ∧ c.s.length ≤ 9223372036854775807 ∧ d + k = 32) : OK 174 ([.agg [.ptr 0 0], .int .u8 q, .int .i64 d]) ([.cells (eC c)]) (.tuple []) (some [.cells (eC (eV (aX k) q c))]) := by
 refine af (C := cx [(62, mQ), (64, iW), (66, fX), (151, (iq k))]) (ah ⟨pK, jL, gK, hv, trivial⟩) (fn := Tryz.f174) rfl rfl rfl rfl fun hw hs => ?_
 have h256 := c.aQ.toNat_lt
 have hq : 0 ≤ q ∧ q ≤ 255 := hw.2.1
 have hb := ll hp.1 1
 repeat' ((conv => whnf); first | apply a9 | apply aJ | (apply al <;> intro h))
 all_goals try conv => whnf
 all_goals try (refine a8.mk ?_; try dsimp only)
 all_goals (try simp only [cg] at *)
 all_goals first | refine stay ?_ | trivial | skip
 all_goals first
  | exact ⟨trivial, hp.1⟩
  | exact ⟨⟨by omega, by omega⟩, hp⟩
  | skip
 all_goals
  have he : eV (aX k) q c = eV (aX k) q c := rfl
  conv at he => rhs; unfold eV
  repeat (first | rw [if_pos (by first | omega | exact jV.2 (by assumption))] at he | rw [if_neg (by first | omega | exact fun q => absurd (jV.1 q) (by assumption))] at he)
  rw [he]
  refine a7.mk [] ?_ <;> (repeat' first | trivial)
def lI (k : Nat) : Sm := fun args σ => match args, σ with
 | [.agg [.ptr 0 0], .int .u8 q, .int .i64 d], [.cells ([.str s_c, .int .i64 (.ofNat a_c), .int .i64 (.ofNat e_c), .int .i64 c_c])] => some (True ∧ ((Cu.mk s_c a_c e_c c_c).ok ∧ (Cu.mk s_c a_c e_c c_c).s.length ≤ 9223372036854775807 ∧ d + k = 32), .tuple [], some [.cells (eC (eV (aX k) q (Cu.mk s_c a_c e_c c_c)))])
 | _, _ => none
theorem JG (k : Nat) (hv : aa 151 (iq k)) : aa 174 (lI k) := by
 intro args sg pre x r he hp
 unfold lI at he
 split at he <;> cases he
 . rw [bT (hp).1]; exact HM (hv := hv) (hp := hp.2) ..
theorem qC {k : Nat} {q : Int} (c : Cu) (h : c.ok) : Kp c (eV (aX k) q c) := qB (qD k) q c h
structure NI (f : Cu → Cu) (n : Nat) (c : Cu) (x : Nat × Cu) : Prop where
 i : x.1 ≤ n
 k : Kp c x.2
 r : fz f (n - x.1) x.2 = fz f n c
theorem NI.z {f : Cu → Cu} {n : Nat} {c : Cu} (h : c.ok) : NI f n c (0, c) := ⟨Nat.zero_le _, Kp.rfl h, rfl⟩
theorem NI.e {f : Cu → Cu} {n : Nat} {c d : Cu} {i : Nat} (h : NI f n c (i, d)) (hi : ¬ (i : Int) < n ∨ d.c ≠ 0) : fz f n c = d := by
 rw [← h.r]
 show fz f (n - i) d = d
 have := h.i
 dsimp only at this
 rcases hi with hi | hi
 . rw [show n - i = 0 by omega]; rfl
 . exact Mq hi _
theorem NI.s {f : Cu → Cu} (hf : ∀ c, c.ok → Kp c (f c)) {n : Nat} {c d : Cu} {i : Nat} (h : NI f n c (i, d)) (hi : (i : Int) < n) (h0 : d.c = 0) : NI f n c (i + 1, f d) := by
 refine ⟨by show i + 1 ≤ n; omega, h.k.trans (hf d h.k.1), ?_⟩
 rw [← h.r]
 show fz f (n - (i + 1)) (f d) = fz f (n - i) d
 obtain ⟨m, hm⟩ : ∃ m, n - i = m + 1 := ⟨n - i - 1, by omega⟩
 rw [hm, fz, if_neg (by omega), show n - (i + 1) = m by omega]
theorem HN (k : Nat) (hv : aa 174 (lI k)) (c : Cu) (d : Int) (hp : c.ok ∧ c.s.length ≤ 9223372036854775807 ∧ d + k + 1 = 32) : OK 162 ([.agg [.ptr 0 0], .int .i64 d]) ([.cells (eC c)]) (.tuple []) (some [.cells (eC (lA (aX k) c))]) := by
 refine af (C := cx [(91, tc), (173, oD), (174, (lI k))]) (ah ⟨Av, s5, hv, trivial⟩) (fn := Tryz.f162) rfl rfl rfl rfl fun hw hs => ?_
 obtain ⟨hp, hb, hd⟩ := hp
 have hl := Kp.bf hp
 have hn := vE c
 have hd1 : -9223372036854775808 ≤ d := hw.2.1.1
 repeat' ((conv => whnf); apply a9)
 all_goals try conv => whnf
 all_goals try (refine a8.mk ?_; try dsimp only)
 . exact ⟨trivial, hp⟩
 refine bd.mk (Nat × Cu) (NI (eV (aX k) c.bf.1.2) c.bf.1.1.toNat c.bf.2) (fun x => ⟨27, [(1, .int .i64 d), (2, .ptr 1 0), (4, .int .i64 c.bf.1.1), (5, .int .u8 c.bf.1.2), (6, .int .i64 x.1)], [.cells (eC x.2), .cells [.ptr 0 0]], []⟩) (fun x => c.bf.1.1.toNat - x.1) [] (0, c.bf.2) (NI.z hl.1) ?_ (fun ⟨i, x⟩ hI _ _ => ?_)
 . refine Go.VG.Sub.mk rfl ?_ ?_ ?_ ?_ <;> (repeat' first | trivial)
 have hi := hI.i
 have hk := hI.k
 dsimp only at hi hk
 repeat' ((conv => whnf); first | apply a9 | (apply al <;> intro h))
 all_goals try conv => whnf
 all_goals try (refine a8.mk ?_; try dsimp only)
 all_goals (try simp only [cg, gT] at *)
 all_goals first | refine stay ?_ | trivial | skip
 . exact ⟨trivial, hk.1, by rw [hk.2.1, hl.2.1]; exact hb, by rw [bU]; omega⟩
 . refine ⟨[], (i + 1, _), hI.s qC (by omega) (by assumption), ?_, by omega⟩
   refine Go.VG.Sub.mk rfl ?_ ?_ ?_ ?_ <;> (repeat' first | trivial | apply ab | apply au)
   (simp (discharger := omega) only [wR]; omega)
 . have he : lA (aX k) c = x := hI.e (.inr (by assumption))
   rw [he]
   refine a7.mk [] ?_ <;> (repeat' first | trivial)
 . have he : lA (aX k) c = x := hI.e (.inl (by omega))
   rw [he]
   refine a7.mk [] ?_ <;> (repeat' first | trivial)
def k9 (k : Nat) : Sm := fun args σ => match args, σ with
 | [.agg [.ptr 0 0], .int .i64 d], [.cells ([.str s_c, .int .i64 (.ofNat a_c), .int .i64 (.ofNat e_c), .int .i64 c_c])] => some (True ∧ ((Cu.mk s_c a_c e_c c_c).ok ∧ (Cu.mk s_c a_c e_c c_c).s.length ≤ 9223372036854775807 ∧ d + k + 1 = 32), .tuple [], some [.cells (eC (lA (aX k) (Cu.mk s_c a_c e_c c_c)))])
 | _, _ => none
theorem JH (k : Nat) (hv : aa 174 (lI k)) : aa 162 (k9 k) := by
 intro args sg pre x r he hp
 unfold k9 at he
 split at he <;> cases he
 . rw [bT (hp).1]; exact HN (hv := hv) (hp := hp.2) ..
theorem HO (k : Nat) (hv : aa 174 (lI k)) (c : Cu) (d : Int) (hp : c.ok ∧ c.s.length ≤ 9223372036854775807 ∧ d + k + 1 = 32) : OK 163 ([.agg [.ptr 0 0], .int .i64 d]) ([.cells (eC c)]) (.tuple []) (some [.cells (eC (mJ (aX k) c))]) := by
 refine af (C := cx [(175, wS), (173, oD), (174, (lI k))]) (ah ⟨J5, s5, hv, trivial⟩) (fn := Tryz.f163) rfl rfl rfl rfl fun hw hs => ?_
 obtain ⟨hp, hb, hd⟩ := hp
 have hl := Kp.bJ hp
 have hn := mhd_b c
 have hd1 : -9223372036854775808 ≤ d := hw.2.1.1
 have hf : ∀ x : Cu, x.ok → Kp x (eV (aX k) c.bJ.1.2.2 (eV (aX k) c.bJ.1.2.1 x)) := fun x h => (qC x h).trans (qC _ (qC x h).1)
 repeat' ((conv => whnf); apply a9)
 all_goals try conv => whnf
 all_goals try (refine a8.mk ?_; try dsimp only)
 . exact ⟨trivial, hp⟩
 refine bd.mk (Nat × Cu) (NI (fun x => eV (aX k) c.bJ.1.2.2 (eV (aX k) c.bJ.1.2.1 x)) c.bJ.1.1.toNat c.bJ.2) (fun x => ⟨34, [(1, .int .i64 d), (2, .ptr 1 0), (4, .int .i64 c.bJ.1.1), (5, .int .u8 c.bJ.1.2.1), (6, .int .u8 c.bJ.1.2.2), (7, .int .i64 x.1)], [.cells (eC x.2), .cells [.ptr 0 0]], []⟩) (fun x => c.bJ.1.1.toNat - x.1) [] (0, c.bJ.2) (NI.z hl.1) ?_ (fun ⟨i, x⟩ hI _ _ => ?_)
 . refine Go.VG.Sub.mk rfl ?_ ?_ ?_ ?_ <;> (repeat' first | trivial)
 have hi := hI.i
 have hk := hI.k
 dsimp only at hi hk
 have hx := qC (k := k) (q := c.bJ.1.2.1) x hk.1
 repeat' ((conv => whnf); first | apply a9 | (apply al <;> intro h))
 all_goals try conv => whnf
 all_goals try (refine a8.mk ?_; try dsimp only)
 all_goals (try simp only [cg, gT] at *)
 all_goals first | refine stay ?_ | trivial | skip
 . exact ⟨trivial, hk.1, by rw [hk.2.1, hl.2.1]; exact hb, by rw [bU]; omega⟩
 . exact ⟨trivial, hx.1, by rw [hx.2.1, hk.2.1, hl.2.1]; exact hb, by rw [bU]; omega⟩
 . refine ⟨[], (i + 1, _), hI.s hf (by omega) (by assumption), ?_, by omega⟩
   refine Go.VG.Sub.mk rfl ?_ ?_ ?_ ?_ <;> (repeat' first | trivial | apply ab | apply au)
   (simp (discharger := omega) only [wR]; omega)
 . have he : mJ (aX k) c = x := hI.e (.inr (by assumption))
   rw [he]
   refine a7.mk [] ?_ <;> (repeat' first | trivial)
 . have he : mJ (aX k) c = x := hI.e (.inl (by omega))
   rw [he]
   refine a7.mk [] ?_ <;> (repeat' first | trivial)
def ka (k : Nat) : Sm := fun args σ => match args, σ with
 | [.agg [.ptr 0 0], .int .i64 d], [.cells ([.str s_c, .int .i64 (.ofNat a_c), .int .i64 (.ofNat e_c), .int .i64 c_c])] => some (True ∧ ((Cu.mk s_c a_c e_c c_c).ok ∧ (Cu.mk s_c a_c e_c c_c).s.length ≤ 9223372036854775807 ∧ d + k + 1 = 32), .tuple [], some [.cells (eC (mJ (aX k) (Cu.mk s_c a_c e_c c_c)))])
 | _, _ => none
theorem JI (k : Nat) (hv : aa 174 (lI k)) : aa 163 (ka k) := by
 intro args sg pre x r he hp
 unfold ka at he
 split at he <;> cases he
 . rw [bT (hp).1]; exact HO (hv := hv) (hp := hp.2) ..
structure FI (v : SF) (c : Cu) (x : Nat × Cu × Int) : Prop where
 i : x.2.1.e - x.2.1.p < x.1
 k : Kp c x.2.1
 r : iU v x.1 x.2.1 x.2.2 = jX v c
theorem FI.z {v : SF} {c : Cu} (h : c.ok) : FI v c (c.e - c.p + 1, c, 0) := ⟨Nat.lt_succ_self _, Kp.rfl h, rfl⟩
theorem FI.s {v : SF} (hv : n8 v) {c d : Cu} {n : Nat} {a : Int} (h : FI v c (n, d, a)) (h0 : d.c = 0) :
   ((d.aK a).1.2 = 0 → jX v c = (d.aK a).2) ∧ ((d.aK a).1.2 ≠ 0 → ∃ m, n = m + 1 ∧ FI v c (m, v (d.aK a).1.2 (d.aK a).2, (d.aK a).1.1)) := by
 have h1 := h.i
 have h2 := h.k
 have hr := h.r
 dsimp only at h1 h2 hr
 obtain ⟨m, rfl⟩ : ∃ m, n = m + 1 := ⟨n - 1, by omega⟩
 rw [iU, if_neg (by omega)] at hr
 refine ⟨fun q => by rw [if_pos q] at hr; exact hr.symm, fun q => ?_⟩
 rw [if_neg q] at hr
 have hf := Kp.aK h2.1 a
 have hp := (zD h2.1 q).1
 have hx := hv (d.aK a).1.2 _ hf.1
 refine ⟨m, rfl, ?_, (h2.trans hf).trans hx, hr⟩
 show (v _ _).e - (v _ _).p < m
 have q1 := hx.2.2.1
 have q2 := hf.2.2.1
 have q3 := hx.2.2.2
 have q4 := hf.1.1
 omega
theorem fld_b (c : Cu) (a : Int) : 0 ≤ (c.aK a).1.2 ∧ (c.aK a).1.2 ≤ 15 := by
 have h256 := c.aQ.toNat_lt
 unfold Cu.aK fH
 repeat' split
 all_goals (dsimp only; omega)
theorem HH (k : Nat) (hv : aa 151 (iq k)) (c : Cu) (d : Int) (hp : c.ok ∧ c.s.length ≤ 9223372036854775807 ∧ d + k + 1 = 32) : OK 164 ([.agg [.ptr 0 0], .int .i64 d]) ([.cells (eC c)]) (.tuple []) (some [.cells (eC (jX (aX k) c))]) := by
 refine af (C := cx [(33, tb), (173, oD), (151, (iq k))]) (ah ⟨Au, s5, hv, trivial⟩) (fn := Tryz.f164) rfl rfl rfl rfl fun hw hs => ?_
 obtain ⟨hp, hb, hd⟩ := hp
 have hd1 : -9223372036854775808 ≤ d := hw.2.1.1
 all_goals try conv => whnf
 all_goals try (refine a8.mk ?_; try dsimp only)
 refine bd.mk (Nat × Cu × Int) (FI (aX k) c) (fun x => ⟨24, [(1, .int .i64 d), (2, .ptr 1 0), (4, .int .i64 x.2.2)], [.cells (eC x.2.1), .cells [.ptr 0 0]], []⟩) (fun x => x.1) [] (c.e - c.p + 1, c, 0) (FI.z hp) ?_ (fun ⟨n, x, a⟩ hI _ _ => ?_)
 . refine Go.VG.Sub.mk rfl ?_ ?_ ?_ ?_ <;> (repeat' first | trivial)
 have hk := hI.k
 dsimp only at hk
 have hs := fun h => hI.s (qD k) h
 have hf := Kp.aK hk.1 a
 have hkb := fld_b x a
 have hn : ¬ x.c = 0 → jX (aX k) c = x := fun q => by rw [← hI.r]; exact Mp q _ _
 repeat' ((conv => whnf); first | apply a9 | (apply al <;> intro h))
 all_goals try conv => whnf
 all_goals try (refine a8.mk ?_; try dsimp only)
 all_goals (try simp only [cg, gT] at *)
 all_goals first | refine stay ?_ | trivial | skip
 . exact ⟨trivial, hk.1⟩
 . rw [(hs (by assumption)).1 (by assumption)]
   refine a7.mk [] ?_ <;> (repeat' first | trivial)
 . exact ⟨hf.1, by rw [hf.2.1, hk.2.1]; exact hb, by rw [bU]; omega⟩
 . obtain ⟨m, rfl, hI'⟩ := (hs (by assumption)).2 (by assumption)
   refine ⟨[], (m, _, _), hI', ?_, Nat.lt_succ_self m⟩
   refine Go.VG.Sub.mk rfl ?_ ?_ ?_ ?_ <;> (repeat' first | trivial)
 . rw [hn (by assumption)]
   refine a7.mk [] ?_ <;> (repeat' first | trivial)
def jZ (k : Nat) : Sm := fun args σ => match args, σ with
 | [.agg [.ptr 0 0], .int .i64 d], [.cells ([.str s_c, .int .i64 (.ofNat a_c), .int .i64 (.ofNat e_c), .int .i64 c_c])] => some (True ∧ ((Cu.mk s_c a_c e_c c_c).ok ∧ (Cu.mk s_c a_c e_c c_c).s.length ≤ 9223372036854775807 ∧ d + k + 1 = 32), .tuple [], some [.cells (eC (jX (aX k) (Cu.mk s_c a_c e_c c_c)))])
 | _, _ => none
theorem JD (k : Nat) (hv : aa 151 (iq k)) : aa 164 (jZ k) := by
 intro args sg pre x r he hp
 unfold jZ at he
 split at he <;> cases he
 . rw [bT (hp).1]; exact HH (hv := hv) (hp := hp.2) ..
theorem HI (c : Cu) (n : Nat) (d : Int) (hp : 32 ≤ d) : OK 161 ([.agg [.ptr 0 0], .func (.func n) [] [], .int .i64 d]) ([.cells (eC c)]) (.tuple []) (some [.cells (eC (c.fail 33))]) := by
 refine af (C := cx [(66, fX)]) (ah ⟨gK, trivial⟩) (fn := Tryz.f161) rfl rfl rfl rfl fun hw hs => ?_
 repeat' ((conv => whnf); first | apply a9 | (apply al <;> intro h))
 all_goals try conv => whnf
 all_goals try (refine a8.mk ?_; try dsimp only)
 all_goals (try simp only [cg, gT] at *)
 all_goals first | refine stay ?_ | trivial | skip
 refine a7.mk [] ?_ <;> (repeat' first | trivial)
def xA : Sm := fun args σ => match args, σ with
 | [.agg [.ptr 0 0], .func (.func n) [] [], .int .i64 d], [.cells ([.str s_c, .int .i64 (.ofNat a_c), .int .i64 (.ofNat e_c), .int .i64 c_c])] => some (True ∧ (32 ≤ d), .tuple [], some [.cells (eC ((Cu.mk s_c a_c e_c c_c).fail 33))])
 | _, _ => none
theorem JE : aa 161 xA := by
 intro args sg pre x r he hp
 unfold xA at he
 split at he <;> cases he
 . rw [bT (hp).1]; exact HI (hp := hp.2) ..
theorem HJ (k : Nat) (hl : aa 162 (k9 k)) (hm : aa 163 (ka k)) (hf : aa 164 (jZ k)) (c : Cu) (d : Int) (hp : c.ok ∧ c.s.length ≤ 9223372036854775807 ∧ d + k + 1 = 32) : OK 161 ([.agg [.ptr 0 0], .func (.func 162) [] [], .int .i64 d]) ([.cells (eC c)]) (.tuple []) (some [.cells (eC (lA (aX k) c))]) := by
 refine af (C := cx [(162, (k9 k)), (163, (ka k)), (164, (jZ k))]) (ah ⟨hl, hm, hf, trivial⟩) (fn := Tryz.f161) rfl rfl rfl rfl fun hw hs => ?_
 repeat' ((conv => whnf); first | apply a9 | (apply al <;> intro h))
 all_goals try conv => whnf
 all_goals try (refine a8.mk ?_; try dsimp only)
 all_goals (try simp only [cg, gT] at *)
 all_goals first
  | exact ⟨trivial, hp⟩
  | (exfalso; omega)
  | skip
 refine a7.mk [] ?_ <;> (repeat' first | trivial)
theorem HK (k : Nat) (hl : aa 162 (k9 k)) (hm : aa 163 (ka k)) (hf : aa 164 (jZ k)) (c : Cu) (d : Int) (hp : c.ok ∧ c.s.length ≤ 9223372036854775807 ∧ d + k + 1 = 32) : OK 161 ([.agg [.ptr 0 0], .func (.func 163) [] [], .int .i64 d]) ([.cells (eC c)]) (.tuple []) (some [.cells (eC (mJ (aX k) c))]) := by
 refine af (C := cx [(162, (k9 k)), (163, (ka k)), (164, (jZ k))]) (ah ⟨hl, hm, hf, trivial⟩) (fn := Tryz.f161) rfl rfl rfl rfl fun hw hs => ?_
 repeat' ((conv => whnf); first | apply a9 | (apply al <;> intro h))
 all_goals try conv => whnf
 all_goals try (refine a8.mk ?_; try dsimp only)
 all_goals (try simp only [cg, gT] at *)
 all_goals first
  | exact ⟨trivial, hp⟩
  | (exfalso; omega)
  | skip
 refine a7.mk [] ?_ <;> (repeat' first | trivial)
theorem HL (k : Nat) (hl : aa 162 (k9 k)) (hm : aa 163 (ka k)) (hf : aa 164 (jZ k)) (c : Cu) (d : Int) (hp : c.ok ∧ c.s.length ≤ 9223372036854775807 ∧ d + k + 1 = 32) : OK 161 ([.agg [.ptr 0 0], .func (.func 164) [] [], .int .i64 d]) ([.cells (eC c)]) (.tuple []) (some [.cells (eC (jX (aX k) c))]) := by
 refine af (C := cx [(162, (k9 k)), (163, (ka k)), (164, (jZ k))]) (ah ⟨hl, hm, hf, trivial⟩) (fn := Tryz.f161) rfl rfl rfl rfl fun hw hs => ?_
 repeat' ((conv => whnf); first | apply a9 | (apply al <;> intro h))
 all_goals try conv => whnf
 all_goals try (refine a8.mk ?_; try dsimp only)
 all_goals (try simp only [cg, gT] at *)
 all_goals first
  | exact ⟨trivial, hp⟩
  | (exfalso; omega)
  | skip
 refine a7.mk [] ?_ <;> (repeat' first | trivial)
def qU (k : Nat) : Sm := fun args σ => match args, σ with
 | [.agg [.ptr 0 0], .func (.func 162) [] [], .int .i64 d], [.cells ([.str s_c, .int .i64 (.ofNat a_c), .int .i64 (.ofNat e_c), .int .i64 c_c])] => some (True ∧ ((Cu.mk s_c a_c e_c c_c).ok ∧ (Cu.mk s_c a_c e_c c_c).s.length ≤ 9223372036854775807 ∧ d + k + 1 = 32), .tuple [], some [.cells (eC (lA (aX k) (Cu.mk s_c a_c e_c c_c)))])
 | [.agg [.ptr 0 0], .func (.func 163) [] [], .int .i64 d], [.cells ([.str s_c, .int .i64 (.ofNat a_c), .int .i64 (.ofNat e_c), .int .i64 c_c])] => some (True ∧ ((Cu.mk s_c a_c e_c c_c).ok ∧ (Cu.mk s_c a_c e_c c_c).s.length ≤ 9223372036854775807 ∧ d + k + 1 = 32), .tuple [], some [.cells (eC (mJ (aX k) (Cu.mk s_c a_c e_c c_c)))])
 | [.agg [.ptr 0 0], .func (.func 164) [] [], .int .i64 d], [.cells ([.str s_c, .int .i64 (.ofNat a_c), .int .i64 (.ofNat e_c), .int .i64 c_c])] => some (True ∧ ((Cu.mk s_c a_c e_c c_c).ok ∧ (Cu.mk s_c a_c e_c c_c).s.length ≤ 9223372036854775807 ∧ d + k + 1 = 32), .tuple [], some [.cells (eC (jX (aX k) (Cu.mk s_c a_c e_c c_c)))])
 | _, _ => none
theorem JF (k : Nat) (hl : aa 162 (k9 k)) (hm : aa 163 (ka k)) (hf : aa 164 (jZ k)) : aa 161 (qU k) := by
 intro args sg pre x r he hp
 unfold qU at he
 split at he <;> cases he
 . rw [bT (hp).1]; exact HJ (hl := hl) (hm := hm) (hf := hf) (hp := hp.2) ..
 . rw [bT (hp).1]; exact HK (hl := hl) (hm := hm) (hf := hf) (hp := hp.2) ..
 . rw [bT (hp).1]; exact HL (hl := hl) (hm := hm) (hf := hf) (hp := hp.2) ..
theorem HR (c : Cu) (q d : Int) (hp : c.ok ∧ c.s.length ≤ 9223372036854775807 ∧ d = 32) : OK 151 ([.agg [.ptr 0 0], .int .u8 q, .int .i64 d]) ([.cells (eC c)]) (.tuple []) (some [.cells (eC (aX 0 q c))]) := by
 refine af (C := cx [(68, kb), (64, iW), (123, mR), (160, tH), (66, fX), (161, xA)]) (ah ⟨mz, jL, pL, AR, gK, JE, trivial⟩) (fn := Tryz.f151) rfl rfl rfl rfl fun hw hs => ?_
 repeat' ((conv => whnf); first | apply a9 | (apply al <;> intro h))
 all_goals try conv => whnf
 all_goals try (refine a8.mk ?_; try dsimp only)
 all_goals (try simp only [cg, gT] at *)
 all_goals first | refine stay ?_ | trivial | (simp (discharger := omega) [-List.getD_eq_getElem?_getD, wR] <;> omega) | skip
 all_goals first
  | exact ⟨trivial, hp.1⟩
  | exact ⟨trivial, hp.1, hp.2.1⟩
  | exact hp
  | (show (_ : Int) ≤ _; omega)
  | (exfalso; omega)
  | skip
 all_goals
  have he : aX 0 q c = aX 0 q c := rfl
  conv at he => rhs; unfold aX il
  repeat (first | rw [if_pos (by omega)] at he | rw [if_neg (by omega)] at he)
  rw [he]
  refine a7.mk [] ?_ <;> (repeat' first | trivial)
def CR : Sm := fun args σ => match args, σ with
 | [.agg [.ptr 0 0], .int .u8 q, .int .i64 d], [.cells ([.str s_c, .int .i64 (.ofNat a_c), .int .i64 (.ofNat e_c), .int .i64 c_c])] => some (True ∧ ((Cu.mk s_c a_c e_c c_c).ok ∧ (Cu.mk s_c a_c e_c c_c).s.length ≤ 9223372036854775807 ∧ d = 32), .tuple [], some [.cells (eC (aX 0 q (Cu.mk s_c a_c e_c c_c)))])
 | _, _ => none
theorem JJ : aa 151 CR := by
 intro args sg pre x r he hp
 unfold CR at he
 split at he <;> cases he
 . rw [bT (hp).1]; exact HR (hp := hp.2) ..
theorem HS (k : Nat) (hh : aa 161 (qU k)) (c : Cu) (q d : Int) (hp : c.ok ∧ c.s.length ≤ 9223372036854775807 ∧ d + k + 1 = 32) : OK 151 ([.agg [.ptr 0 0], .int .u8 q, .int .i64 d]) ([.cells (eC c)]) (.tuple []) (some [.cells (eC (aX (k + 1) q c))]) := by
 refine af (C := cx [(68, kb), (64, iW), (123, mR), (160, tH), (66, fX), (161, (qU k))]) (ah ⟨mz, jL, pL, AR, gK, hh, trivial⟩) (fn := Tryz.f151) rfl rfl rfl rfl fun hw hs => ?_
 repeat' ((conv => whnf); first | apply a9 | (apply al <;> intro h))
 all_goals try conv => whnf
 all_goals try (refine a8.mk ?_; try dsimp only)
 all_goals (try simp only [cg, gT] at *)
 all_goals first | refine stay ?_ | trivial | skip
 all_goals first
  | exact ⟨trivial, hp.1⟩
  | exact ⟨trivial, hp.1, hp.2.1⟩
  | exact hp
  | (show (_ : Int) ≤ _; omega)
  | (exfalso; omega)
  | skip
 all_goals
  have he : aX (k + 1) q c = aX (k + 1) q c := rfl
  conv at he => rhs; unfold aX il
  repeat (first | rw [if_pos (by omega)] at he | rw [if_neg (by omega)] at he)
  rw [he]
  refine a7.mk [] ?_ <;> (repeat' first | trivial)
def CT (k : Nat) : Sm := fun args σ => match args, σ with
 | [.agg [.ptr 0 0], .int .u8 q, .int .i64 d], [.cells ([.str s_c, .int .i64 (.ofNat a_c), .int .i64 (.ofNat e_c), .int .i64 c_c])] => some (True ∧ ((Cu.mk s_c a_c e_c c_c).ok ∧ (Cu.mk s_c a_c e_c c_c).s.length ≤ 9223372036854775807 ∧ d + k + 1 = 32), .tuple [], some [.cells (eC (aX (k + 1) q (Cu.mk s_c a_c e_c c_c)))])
 | _, _ => none
theorem JK (k : Nat) (hh : aa 161 (qU k)) : aa 151 (CT k) := by
 intro args sg pre x r he hp
 unfold CT at he
 split at he <;> cases he
 . rw [bT (hp).1]; exact HS (hh := hh) (hp := hp.2) ..
theorem AT : ∀ k, aa 151 (iq k)
 | 0 => by
   intro args sg pre x r he hp
   unfold iq at he
   split at he <;> cases he
   exact JJ _ _ _ _ _ rfl ⟨trivial, hp.1, hp.2.1, by have := hp.2.2; omega⟩
 | k + 1 => by
   have hv := AT k
   have hi := JG k hv
   intro args sg pre x r he hp
   unfold iq at he
   split at he <;> cases he
   exact JK k (JF k (JH k hi) (JI k hi) (JD k hv)) _ _ _ _ _ rfl ⟨trivial, hp.1, hp.2.1, by have := hp.2.2; omega⟩
theorem HT (k : Nat) (hv : aa 151 (iq k)) (c : Cu) (q d : Int) (hp : c.ok ∧ c.s.length ≤ 9223372036854775807 ∧ d + k = 32) : OK 125 ([.ptr 0 0, .int .u8 q, .int .i64 d]) ([.cells (eC c)]) (.tuple []) (some [.cells (eC (aX k q c))]) := by
 refine af (C := cx [(151, (iq k))]) (ah ⟨hv, trivial⟩) (fn := Tryz.f125) rfl rfl rfl rfl fun hw hs => ?_
 repeat' ((conv => whnf); apply a9)
 all_goals try conv => whnf
 all_goals try (refine a8.mk ?_; try dsimp only)
 all_goals (try simp only [cg, gT] at *)
 all_goals first
  | exact ⟨trivial, hp⟩
  | exact hp
  | skip
 refine a7.mk [] ?_ <;> (repeat' first | trivial)
def qV (k : Nat) : Sm := fun args σ => match args, σ with
 | [.ptr 0 0, .int .u8 q, .int .i64 d], [.cells ([.str s_c, .int .i64 (.ofNat a_c), .int .i64 (.ofNat e_c), .int .i64 c_c])] => some (True ∧ ((Cu.mk s_c a_c e_c c_c).ok ∧ (Cu.mk s_c a_c e_c c_c).s.length ≤ 9223372036854775807 ∧ d + k = 32), .tuple [], some [.cells (eC (aX k q (Cu.mk s_c a_c e_c c_c)))])
 | _, _ => none
theorem JL (k : Nat) (hv : aa 151 (iq k)) : aa 125 (qV k) := by
 intro args sg pre x r he hp
 unfold qV at he
 split at he <;> cases he
 . rw [bT (hp).1]; exact HT (hv := hv) (hp := hp.2) ..
end Go.Proofs.YtipejldppicijaaGreatDoor
