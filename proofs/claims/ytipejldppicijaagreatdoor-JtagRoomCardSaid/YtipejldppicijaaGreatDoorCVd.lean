/-
  A part of the proof.
-/
import Derived.Test.YtipejldppicijaaGreatDoorCVc
set_option linter.unusedSimpArgs false
set_option linter.unusedVariables false
set_option maxHeartbeats 4000000
namespace Go.Proofs.YtipejldppicijaaGreatDoor
open Go Go.VG
set_option maxRecDepth 100000
theorem Ia {f : Cu → Cu} {c : Cu} (h : c.c ≠ 0) : ∀ n, fJ f n c = c
 | 0 => rfl
 | n + 1 => by rw [fJ, if_pos h]
theorem I9 {v : SF} {c : Cu} (h : c.c ≠ 0) (last : Int) : ∀ n, kq v n c last = c
 | 0 => rfl
 | n + 1 => by rw [kq, if_pos h]
theorem ga {a : Int} : (a == 0) = true ↔ a = 0 := beq_iff_eq
theorem DD (c : Cu) (hp : True) : OK 173 ([.agg [.ptr 0 0]]) ([.cells (eC c)]) (.bool (c.c == 0)) (none) := by
 refine ai (C := cx [(35, fK)]) (aj ⟨gu, trivial⟩) (fn := Tryz.f173) rfl rfl rfl rfl fun hw hs => ?_
 repeat' ((conv => whnf); apply a9)
 all_goals try conv => whnf
 all_goals try (refine a8.mk ?_; try dsimp only)
 all_goals (try simp only [bM] at *)
 all_goals first | refine stay ?_ | trivial | skip
 refine a7.mk [] ?_ <;> (repeat' first | trivial)
def nn : Sm := fun args σ => match args, σ with
 | [.agg [.ptr 0 0]], [.cells ([.str s_c, .int .i64 (.ofNat a_c), .int .i64 (.ofNat e_c), .int .i64 c_c])] => some (True ∧ (True), .bool ((Cu.mk s_c a_c e_c c_c).c == 0), none)
 | _, _ => none
theorem qE : aa 173 nn := by
 intro args sg pre x r he hp
 unfold nn at he
 split at he <;> cases he
 . rw [bG (hp).1]; exact DD (hp := hp.2) ..
theorem DE (c : Cu) (d : Int) (hp : c.ok ∧ c.s.length ≤ 9223372036854775807) : OK 160 ([.agg [.ptr 0 0], .int .i64 d]) ([.cells (eC c)]) (.tuple []) (some [.cells (eC c.text.2)]) := by
 refine ai (C := cx [(68, jh), (173, nn), (124, pr), (66, ff), (123, lM)]) (aj ⟨lp, qE, sX, fY, oe, trivial⟩) (fn := Tryz.f160) rfl rfl rfl rfl fun hw hs => ?_
 obtain ⟨hp, hb⟩ := hp
 have h1 := @pK c
 have hv := rV hp
 have hf := jH hv.1 1
 have hl : c.aK.2.left = (c.aK.2.e : Int) - c.aK.2.p := rfl
 have hw1 := hv.1.1
 have hw2 := hv.1.2
 have hs1 : c.aK.2.s.length = c.s.length := by rw [hv.2.1]
 have hwl : IntKind.u64.wrap c.aK.2.left = c.aK.2.left := by rw [hl, eo]; omega
 repeat' ((conv => whnf); first | apply a9 | (apply ao <;> intro h))
 all_goals try conv => whnf
 all_goals try (refine a8.mk ?_; try dsimp only)
 all_goals (try simp only [Int.toNat_natCast, hwl, ga] at *)
 all_goals (try simp only [bM] at *)
 all_goals first | refine stay ?_ | trivial | skip
 all_goals first
  | exact ⟨trivial, hv.1⟩
  | exact ⟨trivial, hf.1⟩
  | (show a7 _ _ _ _ _ _
     have he : c.text = c.text := rfl
     conv at he => rhs; unfold Cu.text
     dsimp only at he
     first | rw [if_pos ⟨by assumption, by omega⟩] at he | rw [if_neg (by omega)] at he
     rw [he])
  | skip
 . have hfc : ¬ (c.aK.2.fail 1).c = 0 := by
     unfold Cu.fail; rw [if_pos (by assumption)]; exact (by decide : ¬ (1 : Int) = 0)
   have ht := qn hfc (IntKind.i64.wrap c.aK.1)
   simp only [ht.2]
   refine a7.mk [] ?_ <;> (repeat' first | trivial)
 . have hwn : IntKind.i64.wrap c.aK.1 = c.aK.1 := by rw [bS]; omega
   simp only [hwn]
   refine a7.mk [] ?_ <;> (repeat' first | trivial)
 . have ht := qn (c := c.aK.2) (by assumption)
   simp only [(ht _).2]
   refine a7.mk [] ?_ <;> (repeat' first | trivial)
def rz : Sm := fun args σ => match args, σ with
 | [.agg [.ptr 0 0], .int .i64 d], [.cells ([.str s_c, .int .i64 (.ofNat a_c), .int .i64 (.ofNat e_c), .int .i64 c_c])] => some (True ∧ ((Cu.mk s_c a_c e_c c_c).ok ∧ (Cu.mk s_c a_c e_c c_c).s.length ≤ 9223372036854775807), .tuple [], some [.cells (eC (Cu.mk s_c a_c e_c c_c).text.2)])
 | _, _ => none
theorem xW : aa 160 rz := by
 intro args sg pre x r he hp
 unfold rz at he
 split at he <;> cases he
 . rw [bG (hp).1]; exact DE (hp := hp.2) ..
-- #name skValue (cskip.skipper).value
def gE (k : Nat) : Sm := fun args σ => match args, σ with
 | [.agg [.ptr 0 0], .int .u8 q, .int .i64 d], [.cells [.str s, .int .i64 (.ofNat p), .int .i64 (.ofNat e), .int .i64 cc]] =>
   some ((⟨s, p, e, cc⟩ : Cu).ok ∧ s.length ≤ 9223372036854775807 ∧ d + k = 32, .tuple [], some [.cells (eC (aW k q ⟨s, p, e, cc⟩))])
 | _, _ => none
theorem DA (k : Nat) (hv : aa 151 (gE k)) (c : Cu) (q d : Int) (hp : c.ok ∧ c.s.length ≤ 9223372036854775807 ∧ d + k = 32) : OK 174 ([.agg [.ptr 0 0], .int .u8 q, .int .i64 d]) ([.cells (eC c)]) (.tuple []) (some [.cells (eC (eD (aW k) q c))]) := by
 refine ai (C := cx [(62, lL), (64, hC), (66, ff), (151, (gE k))]) (aj ⟨od, iZ, fY, hv, trivial⟩) (fn := Tryz.f174) rfl rfl rfl rfl fun hw hs => ?_
 have h256 := c.aL.toNat_lt
 have hq : 0 ≤ q ∧ q ≤ 255 := hw.2.1
 have hb := kc hp.1 1
 repeat' ((conv => whnf); first | apply a9 | apply aQ | (apply ao <;> intro h))
 all_goals try conv => whnf
 all_goals try (refine a8.mk ?_; try dsimp only)
 all_goals (try simp only [bM] at *)
 all_goals first | refine stay ?_ | trivial | skip
 all_goals first
  | exact ⟨trivial, hp.1⟩
  | exact ⟨⟨by omega, by omega⟩, hp⟩
  | skip
 all_goals
  have he : eD (aW k) q c = eD (aW k) q c := rfl
  conv at he => rhs; unfold eD
  repeat (first | rw [if_pos (by first | omega | exact oZ.2 (by assumption))] at he | rw [if_neg (by first | omega | exact fun q => absurd (oZ.1 q) (by assumption))] at he)
  rw [he]
  refine a7.mk [] ?_ <;> (repeat' first | trivial)
def kA (k : Nat) : Sm := fun args σ => match args, σ with
 | [.agg [.ptr 0 0], .int .u8 q, .int .i64 d], [.cells ([.str s_c, .int .i64 (.ofNat a_c), .int .i64 (.ofNat e_c), .int .i64 c_c])] => some (True ∧ ((Cu.mk s_c a_c e_c c_c).ok ∧ (Cu.mk s_c a_c e_c c_c).s.length ≤ 9223372036854775807 ∧ d + k = 32), .tuple [], some [.cells (eC (eD (aW k) q (Cu.mk s_c a_c e_c c_c)))])
 | _, _ => none
theorem Fs (k : Nat) (hv : aa 151 (gE k)) : aa 174 (kA k) := by
 intro args sg pre x r he hp
 unfold kA at he
 split at he <;> cases he
 . rw [bG (hp).1]; exact DA (hv := hv) (hp := hp.2) ..
theorem pc {k : Nat} {q : Int} (c : Cu) (h : c.ok) : Kp c (eD (aW k) q c) := pb (pd k) q c h
structure NI (f : Cu → Cu) (n : Nat) (c : Cu) (x : Nat × Cu) : Prop where
 i : x.1 ≤ n
 k : Kp c x.2
 r : fJ f (n - x.1) x.2 = fJ f n c
theorem NI.z {f : Cu → Cu} {n : Nat} {c : Cu} (h : c.ok) : NI f n c (0, c) := ⟨Nat.zero_le _, Kp.rfl h, rfl⟩
theorem NI.e {f : Cu → Cu} {n : Nat} {c d : Cu} {i : Nat} (h : NI f n c (i, d)) (hi : ¬ (i : Int) < n ∨ d.c ≠ 0) : fJ f n c = d := by
 rw [← h.r]
 show fJ f (n - i) d = d
 have := h.i
 dsimp only at this
 rcases hi with hi | hi
 . rw [show n - i = 0 by omega]; rfl
 . exact Ia hi _
theorem NI.s {f : Cu → Cu} (hf : ∀ c, c.ok → Kp c (f c)) {n : Nat} {c d : Cu} {i : Nat} (h : NI f n c (i, d)) (hi : (i : Int) < n) (h0 : d.c = 0) : NI f n c (i + 1, f d) := by
 refine ⟨by show i + 1 ≤ n; omega, h.k.trans (hf d h.k.1), ?_⟩
 rw [← h.r]
 show fJ f (n - (i + 1)) (f d) = fJ f (n - i) d
 obtain ⟨m, hm⟩ : ∃ m, n - i = m + 1 := ⟨n - i - 1, by omega⟩
 rw [hm, fJ, if_neg (by omega), show n - (i + 1) = m by omega]
theorem DB (k : Nat) (hv : aa 174 (kA k)) (c : Cu) (d : Int) (hp : c.ok ∧ c.s.length ≤ 9223372036854775807 ∧ d + k + 1 = 32) : OK 162 ([.agg [.ptr 0 0], .int .i64 d]) ([.cells (eC c)]) (.tuple []) (some [.cells (eC (lE (aW k) c))]) := by
 refine ai (C := cx [(91, rq), (173, nn), (174, (kA k))]) (aj ⟨xQ, qE, hv, trivial⟩) (fn := Tryz.f162) rfl rfl rfl rfl fun hw hs => ?_
 obtain ⟨hp, hb, hd⟩ := hp
 have hl := Kp.bm hp
 have hn := tn c
 have hd1 : -9223372036854775808 ≤ d := hw.2.1.1
 repeat' ((conv => whnf); apply a9)
 all_goals try conv => whnf
 all_goals try (refine a8.mk ?_; try dsimp only)
 . exact ⟨trivial, hp⟩
 refine br.mk (Nat × Cu) (NI (eD (aW k) c.bm.1.2) c.bm.1.1.toNat c.bm.2) (fun x => ⟨27, [(1, .int .i64 d), (2, .ptr 1 0), (4, .int .i64 c.bm.1.1), (5, .int .u8 c.bm.1.2), (6, .int .i64 x.1)], [.cells (eC x.2), .cells [.ptr 0 0]], []⟩) (fun x => c.bm.1.1.toNat - x.1) [] (0, c.bm.2) (NI.z hl.1) ?_ (fun ⟨i, x⟩ hI _ _ => ?_)
 . refine Go.VG.Sub.mk rfl ?_ ?_ ?_ ?_ <;> (repeat' first | trivial)
 have hi := hI.i
 have hk := hI.k
 dsimp only at hi hk
 repeat' ((conv => whnf); first | apply a9 | (apply ao <;> intro h))
 all_goals try conv => whnf
 all_goals try (refine a8.mk ?_; try dsimp only)
 all_goals (try simp only [bM, ga] at *)
 all_goals first | refine stay ?_ | trivial | skip
 . exact ⟨trivial, hk.1, by rw [hk.2.1, hl.2.1]; exact hb, by rw [bS]; omega⟩
 . refine ⟨[], (i + 1, _), hI.s pc (by omega) (by assumption), ?_, by omega⟩
   refine Go.VG.Sub.mk rfl ?_ ?_ ?_ ?_ <;> (repeat' first | trivial | apply ah | apply ax)
   (simp (discharger := omega) only [wR]; omega)
 . have he : lE (aW k) c = x := hI.e (.inr (by assumption))
   rw [he]
   refine a7.mk [] ?_ <;> (repeat' first | trivial)
 . have he : lE (aW k) c = x := hI.e (.inl (by omega))
   rw [he]
   refine a7.mk [] ?_ <;> (repeat' first | trivial)
def jf (k : Nat) : Sm := fun args σ => match args, σ with
 | [.agg [.ptr 0 0], .int .i64 d], [.cells ([.str s_c, .int .i64 (.ofNat a_c), .int .i64 (.ofNat e_c), .int .i64 c_c])] => some (True ∧ ((Cu.mk s_c a_c e_c c_c).ok ∧ (Cu.mk s_c a_c e_c c_c).s.length ≤ 9223372036854775807 ∧ d + k + 1 = 32), .tuple [], some [.cells (eC (lE (aW k) (Cu.mk s_c a_c e_c c_c)))])
 | _, _ => none
theorem Ft (k : Nat) (hv : aa 174 (kA k)) : aa 162 (jf k) := by
 intro args sg pre x r he hp
 unfold jf at he
 split at he <;> cases he
 . rw [bG (hp).1]; exact DB (hv := hv) (hp := hp.2) ..
theorem DC (k : Nat) (hv : aa 174 (kA k)) (c : Cu) (d : Int) (hp : c.ok ∧ c.s.length ≤ 9223372036854775807 ∧ d + k + 1 = 32) : OK 163 ([.agg [.ptr 0 0], .int .i64 d]) ([.cells (eC c)]) (.tuple []) (some [.cells (eC (lF (aW k) c))]) := by
 refine ai (C := cx [(175, uB), (173, nn), (174, (kA k))]) (aj ⟨F3, qE, hv, trivial⟩) (fn := Tryz.f163) rfl rfl rfl rfl fun hw hs => ?_
 obtain ⟨hp, hb, hd⟩ := hp
 have hl := Kp.bq hp
 have hn := mhd_b c
 have hd1 : -9223372036854775808 ≤ d := hw.2.1.1
 have hf : ∀ x : Cu, x.ok → Kp x (eD (aW k) c.bq.1.2.2 (eD (aW k) c.bq.1.2.1 x)) := fun x h => (pc x h).trans (pc _ (pc x h).1)
 repeat' ((conv => whnf); apply a9)
 all_goals try conv => whnf
 all_goals try (refine a8.mk ?_; try dsimp only)
 . exact ⟨trivial, hp⟩
 refine br.mk (Nat × Cu) (NI (fun x => eD (aW k) c.bq.1.2.2 (eD (aW k) c.bq.1.2.1 x)) c.bq.1.1.toNat c.bq.2) (fun x => ⟨34, [(1, .int .i64 d), (2, .ptr 1 0), (4, .int .i64 c.bq.1.1), (5, .int .u8 c.bq.1.2.1), (6, .int .u8 c.bq.1.2.2), (7, .int .i64 x.1)], [.cells (eC x.2), .cells [.ptr 0 0]], []⟩) (fun x => c.bq.1.1.toNat - x.1) [] (0, c.bq.2) (NI.z hl.1) ?_ (fun ⟨i, x⟩ hI _ _ => ?_)
 . refine Go.VG.Sub.mk rfl ?_ ?_ ?_ ?_ <;> (repeat' first | trivial)
 have hi := hI.i
 have hk := hI.k
 dsimp only at hi hk
 have hx := pc (k := k) (q := c.bq.1.2.1) x hk.1
 repeat' ((conv => whnf); first | apply a9 | (apply ao <;> intro h))
 all_goals try conv => whnf
 all_goals try (refine a8.mk ?_; try dsimp only)
 all_goals (try simp only [bM, ga] at *)
 all_goals first | refine stay ?_ | trivial | skip
 . exact ⟨trivial, hk.1, by rw [hk.2.1, hl.2.1]; exact hb, by rw [bS]; omega⟩
 . exact ⟨trivial, hx.1, by rw [hx.2.1, hk.2.1, hl.2.1]; exact hb, by rw [bS]; omega⟩
 . refine ⟨[], (i + 1, _), hI.s hf (by omega) (by assumption), ?_, by omega⟩
   refine Go.VG.Sub.mk rfl ?_ ?_ ?_ ?_ <;> (repeat' first | trivial | apply ah | apply ax)
   (simp (discharger := omega) only [wR]; omega)
 . have he : lF (aW k) c = x := hI.e (.inr (by assumption))
   rw [he]
   refine a7.mk [] ?_ <;> (repeat' first | trivial)
 . have he : lF (aW k) c = x := hI.e (.inl (by omega))
   rw [he]
   refine a7.mk [] ?_ <;> (repeat' first | trivial)
def jg (k : Nat) : Sm := fun args σ => match args, σ with
 | [.agg [.ptr 0 0], .int .i64 d], [.cells ([.str s_c, .int .i64 (.ofNat a_c), .int .i64 (.ofNat e_c), .int .i64 c_c])] => some (True ∧ ((Cu.mk s_c a_c e_c c_c).ok ∧ (Cu.mk s_c a_c e_c c_c).s.length ≤ 9223372036854775807 ∧ d + k + 1 = 32), .tuple [], some [.cells (eC (lF (aW k) (Cu.mk s_c a_c e_c c_c)))])
 | _, _ => none
theorem Fu (k : Nat) (hv : aa 174 (kA k)) : aa 163 (jg k) := by
 intro args sg pre x r he hp
 unfold jg at he
 split at he <;> cases he
 . rw [bG (hp).1]; exact DC (hv := hv) (hp := hp.2) ..
structure FI (v : SF) (c : Cu) (x : Nat × Cu × Int) : Prop where
 i : x.2.1.e - x.2.1.p < x.1
 k : Kp c x.2.1
 r : kq v x.1 x.2.1 x.2.2 = ko v c
theorem FI.z {v : SF} {c : Cu} (h : c.ok) : FI v c (c.e - c.p + 1, c, 0) := ⟨Nat.lt_succ_self _, Kp.rfl h, rfl⟩
theorem FI.s {v : SF} (hv : lT v) {c d : Cu} {n : Nat} {a : Int} (h : FI v c (n, d, a)) (h0 : d.c = 0) :
   ((d.aI a).1.2 = 0 → ko v c = (d.aI a).2) ∧ ((d.aI a).1.2 ≠ 0 → ∃ m, n = m + 1 ∧ FI v c (m, v (d.aI a).1.2 (d.aI a).2, (d.aI a).1.1)) := by
 have h1 := h.i
 have h2 := h.k
 have hr := h.r
 dsimp only at h1 h2 hr
 obtain ⟨m, rfl⟩ : ∃ m, n = m + 1 := ⟨n - 1, by omega⟩
 rw [kq, if_neg (by omega)] at hr
 refine ⟨fun q => by rw [if_pos q] at hr; exact hr.symm, fun q => ?_⟩
 rw [if_neg q] at hr
 have hf := Kp.aI h2.1 a
 have hp := (x9 h2.1 q).1
 have hx := hv (d.aI a).1.2 _ hf.1
 refine ⟨m, rfl, ?_, (h2.trans hf).trans hx, hr⟩
 show (v _ _).e - (v _ _).p < m
 have q1 := hx.2.2.1
 have q2 := hf.2.2.1
 have q3 := hx.2.2.2
 have q4 := hf.1.1
 omega
theorem fld_b (c : Cu) (a : Int) : 0 ≤ (c.aI a).1.2 ∧ (c.aI a).1.2 ≤ 15 := by
 have h256 := c.aL.toNat_lt
 unfold Cu.aI fW
 repeat' split
 all_goals (dsimp only; omega)
theorem Dv (k : Nat) (hv : aa 151 (gE k)) (c : Cu) (d : Int) (hp : c.ok ∧ c.s.length ≤ 9223372036854775807 ∧ d + k + 1 = 32) : OK 164 ([.agg [.ptr 0 0], .int .i64 d]) ([.cells (eC c)]) (.tuple []) (some [.cells (eC (ko (aW k) c))]) := by
 refine ai (C := cx [(33, rp), (173, nn), (151, (gE k))]) (aj ⟨xP, qE, hv, trivial⟩) (fn := Tryz.f164) rfl rfl rfl rfl fun hw hs => ?_
 obtain ⟨hp, hb, hd⟩ := hp
 have hd1 : -9223372036854775808 ≤ d := hw.2.1.1
 all_goals try conv => whnf
 all_goals try (refine a8.mk ?_; try dsimp only)
 refine br.mk (Nat × Cu × Int) (FI (aW k) c) (fun x => ⟨24, [(1, .int .i64 d), (2, .ptr 1 0), (4, .int .i64 x.2.2)], [.cells (eC x.2.1), .cells [.ptr 0 0]], []⟩) (fun x => x.1) [] (c.e - c.p + 1, c, 0) (FI.z hp) ?_ (fun ⟨n, x, a⟩ hI _ _ => ?_)
 . refine Go.VG.Sub.mk rfl ?_ ?_ ?_ ?_ <;> (repeat' first | trivial)
 have hk := hI.k
 dsimp only at hk
 have hs := fun h => hI.s (pd k) h
 have hf := Kp.aI hk.1 a
 have hkb := fld_b x a
 have hn : ¬ x.c = 0 → ko (aW k) c = x := fun q => by rw [← hI.r]; exact I9 q _ _
 repeat' ((conv => whnf); first | apply a9 | (apply ao <;> intro h))
 all_goals try conv => whnf
 all_goals try (refine a8.mk ?_; try dsimp only)
 all_goals (try simp only [bM, ga] at *)
 all_goals first | refine stay ?_ | trivial | skip
 . exact ⟨trivial, hk.1⟩
 . rw [(hs (by assumption)).1 (by assumption)]
   refine a7.mk [] ?_ <;> (repeat' first | trivial)
 . exact ⟨hf.1, by rw [hf.2.1, hk.2.1]; exact hb, by rw [bS]; omega⟩
 . obtain ⟨m, rfl, hI'⟩ := (hs (by assumption)).2 (by assumption)
   refine ⟨[], (m, _, _), hI', ?_, Nat.lt_succ_self m⟩
   refine Go.VG.Sub.mk rfl ?_ ?_ ?_ ?_ <;> (repeat' first | trivial)
 . rw [hn (by assumption)]
   refine a7.mk [] ?_ <;> (repeat' first | trivial)
def je (k : Nat) : Sm := fun args σ => match args, σ with
 | [.agg [.ptr 0 0], .int .i64 d], [.cells ([.str s_c, .int .i64 (.ofNat a_c), .int .i64 (.ofNat e_c), .int .i64 c_c])] => some (True ∧ ((Cu.mk s_c a_c e_c c_c).ok ∧ (Cu.mk s_c a_c e_c c_c).s.length ≤ 9223372036854775807 ∧ d + k + 1 = 32), .tuple [], some [.cells (eC (ko (aW k) (Cu.mk s_c a_c e_c c_c)))])
 | _, _ => none
theorem Fm (k : Nat) (hv : aa 151 (gE k)) : aa 164 (je k) := by
 intro args sg pre x r he hp
 unfold je at he
 split at he <;> cases he
 . rw [bG (hp).1]; exact Dv (hv := hv) (hp := hp.2) ..
theorem Dw (c : Cu) (n : Nat) (d : Int) (hp : 32 ≤ d) : OK 161 ([.agg [.ptr 0 0], .func (.func n) [] [], .int .i64 d]) ([.cells (eC c)]) (.tuple []) (some [.cells (eC (c.fail 33))]) := by
 refine ai (C := cx [(66, ff)]) (aj ⟨fY, trivial⟩) (fn := Tryz.f161) rfl rfl rfl rfl fun hw hs => ?_
 repeat' ((conv => whnf); first | apply a9 | (apply ao <;> intro h))
 all_goals try conv => whnf
 all_goals try (refine a8.mk ?_; try dsimp only)
 all_goals (try simp only [bM, ga] at *)
 all_goals first | refine stay ?_ | trivial | skip
 refine a7.mk [] ?_ <;> (repeat' first | trivial)
def uS : Sm := fun args σ => match args, σ with
 | [.agg [.ptr 0 0], .func (.func n) [] [], .int .i64 d], [.cells ([.str s_c, .int .i64 (.ofNat a_c), .int .i64 (.ofNat e_c), .int .i64 c_c])] => some (True ∧ (32 ≤ d), .tuple [], some [.cells (eC ((Cu.mk s_c a_c e_c c_c).fail 33))])
 | _, _ => none
theorem Fp : aa 161 uS := by
 intro args sg pre x r he hp
 unfold uS at he
 split at he <;> cases he
 . rw [bG (hp).1]; exact Dw (hp := hp.2) ..
theorem Dx (k : Nat) (hl : aa 162 (jf k)) (hm : aa 163 (jg k)) (hf : aa 164 (je k)) (c : Cu) (d : Int) (hp : c.ok ∧ c.s.length ≤ 9223372036854775807 ∧ d + k + 1 = 32) : OK 161 ([.agg [.ptr 0 0], .func (.func 162) [] [], .int .i64 d]) ([.cells (eC c)]) (.tuple []) (some [.cells (eC (lE (aW k) c))]) := by
 refine ai (C := cx [(162, (jf k)), (163, (jg k)), (164, (je k))]) (aj ⟨hl, hm, hf, trivial⟩) (fn := Tryz.f161) rfl rfl rfl rfl fun hw hs => ?_
 repeat' ((conv => whnf); first | apply a9 | (apply ao <;> intro h))
 all_goals try conv => whnf
 all_goals try (refine a8.mk ?_; try dsimp only)
 all_goals (try simp only [bM, ga] at *)
 all_goals first
  | exact ⟨trivial, hp⟩
  | (exfalso; omega)
  | skip
 refine a7.mk [] ?_ <;> (repeat' first | trivial)
theorem Dy (k : Nat) (hl : aa 162 (jf k)) (hm : aa 163 (jg k)) (hf : aa 164 (je k)) (c : Cu) (d : Int) (hp : c.ok ∧ c.s.length ≤ 9223372036854775807 ∧ d + k + 1 = 32) : OK 161 ([.agg [.ptr 0 0], .func (.func 163) [] [], .int .i64 d]) ([.cells (eC c)]) (.tuple []) (some [.cells (eC (lF (aW k) c))]) := by
 refine ai (C := cx [(162, (jf k)), (163, (jg k)), (164, (je k))]) (aj ⟨hl, hm, hf, trivial⟩) (fn := Tryz.f161) rfl rfl rfl rfl fun hw hs => ?_
 repeat' ((conv => whnf); first | apply a9 | (apply ao <;> intro h))
 all_goals try conv => whnf
 all_goals try (refine a8.mk ?_; try dsimp only)
 all_goals (try simp only [bM, ga] at *)
 all_goals first
  | exact ⟨trivial, hp⟩
  | (exfalso; omega)
  | skip
 refine a7.mk [] ?_ <;> (repeat' first | trivial)
theorem Dz (k : Nat) (hl : aa 162 (jf k)) (hm : aa 163 (jg k)) (hf : aa 164 (je k)) (c : Cu) (d : Int) (hp : c.ok ∧ c.s.length ≤ 9223372036854775807 ∧ d + k + 1 = 32) : OK 161 ([.agg [.ptr 0 0], .func (.func 164) [] [], .int .i64 d]) ([.cells (eC c)]) (.tuple []) (some [.cells (eC (ko (aW k) c))]) := by
 refine ai (C := cx [(162, (jf k)), (163, (jg k)), (164, (je k))]) (aj ⟨hl, hm, hf, trivial⟩) (fn := Tryz.f161) rfl rfl rfl rfl fun hw hs => ?_
 repeat' ((conv => whnf); first | apply a9 | (apply ao <;> intro h))
 all_goals try conv => whnf
 all_goals try (refine a8.mk ?_; try dsimp only)
 all_goals (try simp only [bM, ga] at *)
 all_goals first
  | exact ⟨trivial, hp⟩
  | (exfalso; omega)
  | skip
 refine a7.mk [] ?_ <;> (repeat' first | trivial)
def pB (k : Nat) : Sm := fun args σ => match args, σ with
 | [.agg [.ptr 0 0], .func (.func 162) [] [], .int .i64 d], [.cells ([.str s_c, .int .i64 (.ofNat a_c), .int .i64 (.ofNat e_c), .int .i64 c_c])] => some (True ∧ ((Cu.mk s_c a_c e_c c_c).ok ∧ (Cu.mk s_c a_c e_c c_c).s.length ≤ 9223372036854775807 ∧ d + k + 1 = 32), .tuple [], some [.cells (eC (lE (aW k) (Cu.mk s_c a_c e_c c_c)))])
 | [.agg [.ptr 0 0], .func (.func 163) [] [], .int .i64 d], [.cells ([.str s_c, .int .i64 (.ofNat a_c), .int .i64 (.ofNat e_c), .int .i64 c_c])] => some (True ∧ ((Cu.mk s_c a_c e_c c_c).ok ∧ (Cu.mk s_c a_c e_c c_c).s.length ≤ 9223372036854775807 ∧ d + k + 1 = 32), .tuple [], some [.cells (eC (lF (aW k) (Cu.mk s_c a_c e_c c_c)))])
 | [.agg [.ptr 0 0], .func (.func 164) [] [], .int .i64 d], [.cells ([.str s_c, .int .i64 (.ofNat a_c), .int .i64 (.ofNat e_c), .int .i64 c_c])] => some (True ∧ ((Cu.mk s_c a_c e_c c_c).ok ∧ (Cu.mk s_c a_c e_c c_c).s.length ≤ 9223372036854775807 ∧ d + k + 1 = 32), .tuple [], some [.cells (eC (ko (aW k) (Cu.mk s_c a_c e_c c_c)))])
 | _, _ => none
theorem Fq (k : Nat) (hl : aa 162 (jf k)) (hm : aa 163 (jg k)) (hf : aa 164 (je k)) : aa 161 (pB k) := by
 intro args sg pre x r he hp
 unfold pB at he
 split at he <;> cases he
 . rw [bG (hp).1]; exact Dx (hl := hl) (hm := hm) (hf := hf) (hp := hp.2) ..
 . rw [bG (hp).1]; exact Dy (hl := hl) (hm := hm) (hf := hf) (hp := hp.2) ..
 . rw [bG (hp).1]; exact Dz (hl := hl) (hm := hm) (hf := hf) (hp := hp.2) ..
theorem DF (c : Cu) (q d : Int) (hp : c.ok ∧ c.s.length ≤ 9223372036854775807 ∧ d = 32) : OK 151 ([.agg [.ptr 0 0], .int .u8 q, .int .i64 d]) ([.cells (eC c)]) (.tuple []) (some [.cells (eC (aW 0 q c))]) := by
 refine ai (C := cx [(68, jh), (64, hC), (123, lM), (160, rz), (66, ff), (161, uS)]) (aj ⟨lp, iZ, oe, xW, fY, Fp, trivial⟩) (fn := Tryz.f151) rfl rfl rfl rfl fun hw hs => ?_
 repeat' ((conv => whnf); first | apply a9 | (apply ao <;> intro h))
 all_goals try conv => whnf
 all_goals try (refine a8.mk ?_; try dsimp only)
 all_goals (try simp only [bM, ga] at *)
 all_goals first | refine stay ?_ | trivial | (simp (discharger := omega) [-List.getD_eq_getElem?_getD, wR] <;> omega) | skip
 all_goals first
  | exact ⟨trivial, hp.1⟩
  | exact ⟨trivial, hp.1, hp.2.1⟩
  | exact hp
  | (show (_ : Int) ≤ _; omega)
  | (exfalso; omega)
  | skip
 all_goals
  have he : aW 0 q c = aW 0 q c := rfl
  conv at he => rhs; unfold aW ni
  repeat (first | rw [if_pos (by omega)] at he | rw [if_neg (by omega)] at he)
  rw [he]
  refine a7.mk [] ?_ <;> (repeat' first | trivial)
def zJ : Sm := fun args σ => match args, σ with
 | [.agg [.ptr 0 0], .int .u8 q, .int .i64 d], [.cells ([.str s_c, .int .i64 (.ofNat a_c), .int .i64 (.ofNat e_c), .int .i64 c_c])] => some (True ∧ ((Cu.mk s_c a_c e_c c_c).ok ∧ (Cu.mk s_c a_c e_c c_c).s.length ≤ 9223372036854775807 ∧ d = 32), .tuple [], some [.cells (eC (aW 0 q (Cu.mk s_c a_c e_c c_c)))])
 | _, _ => none
theorem Fv : aa 151 zJ := by
 intro args sg pre x r he hp
 unfold zJ at he
 split at he <;> cases he
 . rw [bG (hp).1]; exact DF (hp := hp.2) ..
theorem DG (k : Nat) (hh : aa 161 (pB k)) (c : Cu) (q d : Int) (hp : c.ok ∧ c.s.length ≤ 9223372036854775807 ∧ d + k + 1 = 32) : OK 151 ([.agg [.ptr 0 0], .int .u8 q, .int .i64 d]) ([.cells (eC c)]) (.tuple []) (some [.cells (eC (aW (k + 1) q c))]) := by
 refine ai (C := cx [(68, jh), (64, hC), (123, lM), (160, rz), (66, ff), (161, (pB k))]) (aj ⟨lp, iZ, oe, xW, fY, hh, trivial⟩) (fn := Tryz.f151) rfl rfl rfl rfl fun hw hs => ?_
 repeat' ((conv => whnf); first | apply a9 | (apply ao <;> intro h))
 all_goals try conv => whnf
 all_goals try (refine a8.mk ?_; try dsimp only)
 all_goals (try simp only [bM, ga] at *)
 all_goals first | refine stay ?_ | trivial | skip
 all_goals first
  | exact ⟨trivial, hp.1⟩
  | exact ⟨trivial, hp.1, hp.2.1⟩
  | exact hp
  | (show (_ : Int) ≤ _; omega)
  | (exfalso; omega)
  | skip
 all_goals
  have he : aW (k + 1) q c = aW (k + 1) q c := rfl
  conv at he => rhs; unfold aW ni
  repeat (first | rw [if_pos (by omega)] at he | rw [if_neg (by omega)] at he)
  rw [he]
  refine a7.mk [] ?_ <;> (repeat' first | trivial)
def zK (k : Nat) : Sm := fun args σ => match args, σ with
 | [.agg [.ptr 0 0], .int .u8 q, .int .i64 d], [.cells ([.str s_c, .int .i64 (.ofNat a_c), .int .i64 (.ofNat e_c), .int .i64 c_c])] => some (True ∧ ((Cu.mk s_c a_c e_c c_c).ok ∧ (Cu.mk s_c a_c e_c c_c).s.length ≤ 9223372036854775807 ∧ d + k + 1 = 32), .tuple [], some [.cells (eC (aW (k + 1) q (Cu.mk s_c a_c e_c c_c)))])
 | _, _ => none
theorem Fx (k : Nat) (hh : aa 161 (pB k)) : aa 151 (zK k) := by
 intro args sg pre x r he hp
 unfold zK at he
 split at he <;> cases he
 . rw [bG (hp).1]; exact DG (hh := hh) (hp := hp.2) ..
theorem xX : ∀ k, aa 151 (gE k)
 | 0 => by
   intro args sg pre x r he hp
   unfold gE at he
   split at he <;> cases he
   exact Fv _ _ _ _ _ rfl ⟨trivial, hp.1, hp.2.1, by have := hp.2.2; omega⟩
 | k + 1 => by
   have hv := xX k
   have hi := Fs k hv
   intro args sg pre x r he hp
   unfold gE at he
   split at he <;> cases he
   exact Fx k (Fq k (Ft k hi) (Fu k hi) (Fm k hv)) _ _ _ _ _ rfl ⟨trivial, hp.1, hp.2.1, by have := hp.2.2; omega⟩
theorem DH (k : Nat) (hv : aa 151 (gE k)) (c : Cu) (q d : Int) (hp : c.ok ∧ c.s.length ≤ 9223372036854775807 ∧ d + k = 32) : OK 125 ([.ptr 0 0, .int .u8 q, .int .i64 d]) ([.cells (eC c)]) (.tuple []) (some [.cells (eC (aW k q c))]) := by
 refine ai (C := cx [(151, (gE k))]) (aj ⟨hv, trivial⟩) (fn := Tryz.f125) rfl rfl rfl rfl fun hw hs => ?_
 repeat' ((conv => whnf); apply a9)
 all_goals try conv => whnf
 all_goals try (refine a8.mk ?_; try dsimp only)
 all_goals (try simp only [bM, ga] at *)
 all_goals first
  | exact ⟨trivial, hp⟩
  | exact hp
  | skip
 refine a7.mk [] ?_ <;> (repeat' first | trivial)
def pC (k : Nat) : Sm := fun args σ => match args, σ with
 | [.ptr 0 0, .int .u8 q, .int .i64 d], [.cells ([.str s_c, .int .i64 (.ofNat a_c), .int .i64 (.ofNat e_c), .int .i64 c_c])] => some (True ∧ ((Cu.mk s_c a_c e_c c_c).ok ∧ (Cu.mk s_c a_c e_c c_c).s.length ≤ 9223372036854775807 ∧ d + k = 32), .tuple [], some [.cells (eC (aW k q (Cu.mk s_c a_c e_c c_c)))])
 | _, _ => none
theorem Fy (k : Nat) (hv : aa 151 (gE k)) : aa 125 (pC k) := by
 intro args sg pre x r he hp
 unfold pC at he
 split at he <;> cases he
 . rw [bG (hp).1]; exact DH (hv := hv) (hp := hp.2) ..
end Go.Proofs.YtipejldppicijaaGreatDoor
