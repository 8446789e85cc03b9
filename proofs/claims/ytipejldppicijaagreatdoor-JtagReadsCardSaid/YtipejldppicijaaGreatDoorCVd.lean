/-
  A part of the proof.
-/
import Derived.Test.YtipejldppicijaaGreatDoorCVc
set_option linter.unusedSimpArgs false
set_option linter.unusedVariables false
set_option maxHeartbeats 4000000
namespace Go.Proofs.YtipejldppicijaaGreatDoor
open Go Go.VG
set_option maxRecDepth 100000
theorem za {f : Cu → Cu} {c : Cu} (h : c.c ≠ 0) : ∀ n, c9 f n c = c
 | 0 => rfl
 | n + 1 => by rw [c9, if_pos h]
theorem Hk {v : SF} {c : Cu} (h : c.c ≠ 0) (last : Int) : ∀ n, gR v n c last = c
 | 0 => rfl
 | n + 1 => by rw [gR, if_pos h]
theorem g7 {a : Int} : (a == 0) = true ↔ a = 0 := beq_iff_eq
theorem Dv (c : Cu) (hp : True) : OK 173 ([.agg [.ptr 0 0]]) ([.cells (eC c)]) (.bool (c.c == 0)) (none) := by
 refine ah (C := cx [(35, fJ)]) (ai ⟨gj, trivial⟩) (fn := Tryz.f173) rfl rfl rfl rfl fun hw hs => ?_
 repeat' ((conv => whnf); apply ab)
 all_goals try conv => whnf
 all_goals try (refine a7.mk ?_; try dsimp only)
 all_goals (try simp only [aU] at *)
 all_goals first | refine stay ?_ | trivial | skip
 refine a6.mk [] ?_ <;> (repeat' first | trivial)
def mJ : Sm := fun args σ => match args, σ with
 | [.agg [.ptr 0 0]], [.cells ([.str s_c, .int .i64 (.ofNat a_c), .int .i64 (.ofNat e_c), .int .i64 c_c])] => some (True ∧ (True), .bool ((Cu.mk s_c a_c e_c c_c).c == 0), none)
 | _, _ => none
theorem pL : a9 173 mJ := by
 intro args sg pre x r he hp
 unfold mJ at he
 split at he <;> cases he
 . rw [bP (hp).1]; exact Dv (hp := hp.2) ..
theorem Dw (c : Cu) (d : Int) (hp : c.ok ∧ c.s.length ≤ 9223372036854775807) : OK 160 ([.agg [.ptr 0 0], .int .i64 d]) ([.cells (eC c)]) (.tuple []) (some [.cells (eC c.text.2)]) := by
 refine ah (C := cx [(68, jb), (173, mJ), (124, om), (66, eZ), (123, lg)]) (ai ⟨kT, pL, sj, fW, nB, trivial⟩) (fn := Tryz.f160) rfl rfl rfl rfl fun hw hs => ?_
 obtain ⟨hp, hb⟩ := hp
 have h1 := @mR c
 have hv := lp hp
 have hf := g9 hv.1 1
 have hl : c.av.2.left = (c.av.2.e : Int) - c.av.2.p := rfl
 have hw1 := hv.1.1
 have hw2 := hv.1.2
 have hs1 : c.av.2.s.length = c.s.length := by rw [hv.2.1]
 have hwl : IntKind.u64.wrap c.av.2.left = c.av.2.left := by rw [hl, cm]; omega
 repeat' ((conv => whnf); first | apply ab | (apply ae <;> intro h))
 all_goals try conv => whnf
 all_goals try (refine a7.mk ?_; try dsimp only)
 all_goals (try simp only [Int.toNat_natCast, hwl, g7] at *)
 all_goals (try simp only [aU] at *)
 all_goals first | refine stay ?_ | trivial | skip
 all_goals first
  | exact ⟨trivial, hv.1⟩
  | exact ⟨trivial, hf.1⟩
  | (show a6 _ _ _ _ _ _
     have he : c.text = c.text := rfl
     conv at he => rhs; unfold Cu.text
     dsimp only at he
     first | rw [if_pos ⟨by assumption, by omega⟩] at he | rw [if_neg (by omega)] at he
     rw [he])
  | skip
 . have hfc : ¬ (c.av.2.fail 1).c = 0 := by
     unfold Cu.fail; rw [if_pos (by assumption)]; exact (by decide : ¬ (1 : Int) = 0)
   have ht := pk hfc (IntKind.i64.wrap c.av.1)
   simp only [ht.2]
   refine a6.mk [] ?_ <;> (repeat' first | trivial)
 . have hwn : IntKind.i64.wrap c.av.1 = c.av.1 := by rw [bL]; omega
   simp only [hwn]
   refine a6.mk [] ?_ <;> (repeat' first | trivial)
 . have ht := pk (c := c.av.2) (by assumption)
   simp only [(ht _).2]
   refine a6.mk [] ?_ <;> (repeat' first | trivial)
def qJ : Sm := fun args σ => match args, σ with
 | [.agg [.ptr 0 0], .int .i64 d], [.cells ([.str s_c, .int .i64 (.ofNat a_c), .int .i64 (.ofNat e_c), .int .i64 c_c])] => some (True ∧ ((Cu.mk s_c a_c e_c c_c).ok ∧ (Cu.mk s_c a_c e_c c_c).s.length ≤ 9223372036854775807), .tuple [], some [.cells (eC (Cu.mk s_c a_c e_c c_c).text.2)])
 | _, _ => none
theorem xy : a9 160 qJ := by
 intro args sg pre x r he hp
 unfold qJ at he
 split at he <;> cases he
 . rw [bP (hp).1]; exact Dw (hp := hp.2) ..
-- #name skValue (cskip.skipper).value
def gw (k : Nat) : Sm := fun args σ => match args, σ with
 | [.agg [.ptr 0 0], .int .u8 q, .int .i64 d], [.cells [.str s, .int .i64 (.ofNat p), .int .i64 (.ofNat e), .int .i64 cc]] =>
   some ((⟨s, p, e, cc⟩ : Cu).ok ∧ s.length ≤ 9223372036854775807 ∧ d + k = 32, .tuple [], some [.cells (eC (aE k q ⟨s, p, e, cc⟩))])
 | _, _ => none
theorem Dr (k : Nat) (hv : a9 151 (gw k)) (c : Cu) (q d : Int) (hp : c.ok ∧ c.s.length ≤ 9223372036854775807 ∧ d + k = 32) : OK 174 ([.agg [.ptr 0 0], .int .u8 q, .int .i64 d]) ([.cells (eC c)]) (.tuple []) (some [.cells (eC (dQ (aE k) q c))]) := by
 refine ah (C := cx [(62, lf), (64, gS), (66, eZ), (151, (gw k))]) (ai ⟨nA, iX, fW, hv, trivial⟩) (fn := Tryz.f174) rfl rfl rfl rfl fun hw hs => ?_
 have h256 := c.ao.toNat_lt
 have hq : 0 ≤ q ∧ q ≤ 255 := hw.2.1
 have hb := gp hp.1 1
 repeat' ((conv => whnf); first | apply ab | apply ax | (apply ae <;> intro h))
 all_goals try conv => whnf
 all_goals try (refine a7.mk ?_; try dsimp only)
 all_goals (try simp only [aU] at *)
 all_goals first | refine stay ?_ | trivial | skip
 all_goals first
  | exact ⟨trivial, hp.1⟩
  | exact ⟨⟨by omega, by omega⟩, hp⟩
  | skip
 all_goals
  have he : dQ (aE k) q c = dQ (aE k) q c := rfl
  conv at he => rhs; unfold dQ
  repeat (first | rw [if_pos (by first | omega | exact l8.2 (by assumption))] at he | rw [if_neg (by first | omega | exact fun q => absurd (l8.1 q) (by assumption))] at he)
  rw [he]
  refine a6.mk [] ?_ <;> (repeat' first | trivial)
def kc (k : Nat) : Sm := fun args σ => match args, σ with
 | [.agg [.ptr 0 0], .int .u8 q, .int .i64 d], [.cells ([.str s_c, .int .i64 (.ofNat a_c), .int .i64 (.ofNat e_c), .int .i64 c_c])] => some (True ∧ ((Cu.mk s_c a_c e_c c_c).ok ∧ (Cu.mk s_c a_c e_c c_c).s.length ≤ 9223372036854775807 ∧ d + k = 32), .tuple [], some [.cells (eC (dQ (aE k) q (Cu.mk s_c a_c e_c c_c)))])
 | _, _ => none
theorem F5 (k : Nat) (hv : a9 151 (gw k)) : a9 174 (kc k) := by
 intro args sg pre x r he hp
 unfold kc at he
 split at he <;> cases he
 . rw [bP (hp).1]; exact Dr (hv := hv) (hp := hp.2) ..
theorem og {k : Nat} {q : Int} (c : Cu) (h : c.ok) : Kp c (dQ (aE k) q c) := oe (j7 k) q c h
structure NI (f : Cu → Cu) (n : Nat) (c : Cu) (x : Nat × Cu) : Prop where
 i : x.1 ≤ n
 k : Kp c x.2
 r : c9 f (n - x.1) x.2 = c9 f n c
theorem NI.z {f : Cu → Cu} {n : Nat} {c : Cu} (h : c.ok) : NI f n c (0, c) := ⟨Nat.zero_le _, Kp.rfl h, rfl⟩
theorem NI.e {f : Cu → Cu} {n : Nat} {c d : Cu} {i : Nat} (h : NI f n c (i, d)) (hi : ¬ (i : Int) < n ∨ d.c ≠ 0) : c9 f n c = d := by
 rw [← h.r]
 show c9 f (n - i) d = d
 have := h.i
 dsimp only at this
 rcases hi with hi | hi
 . rw [show n - i = 0 by omega]; rfl
 . exact za hi _
theorem NI.s {f : Cu → Cu} (hf : ∀ c, c.ok → Kp c (f c)) {n : Nat} {c d : Cu} {i : Nat} (h : NI f n c (i, d)) (hi : (i : Int) < n) (h0 : d.c = 0) : NI f n c (i + 1, f d) := by
 refine ⟨by show i + 1 ≤ n; omega, h.k.trans (hf d h.k.1), ?_⟩
 rw [← h.r]
 show c9 f (n - (i + 1)) (f d) = c9 f (n - i) d
 obtain ⟨m, hm⟩ : ∃ m, n - i = m + 1 := ⟨n - i - 1, by omega⟩
 rw [hm, c9, if_neg (by omega), show n - (i + 1) = m by omega]
theorem Dt (k : Nat) (hv : a9 174 (kc k)) (c : Cu) (d : Int) (hp : c.ok ∧ c.s.length ≤ 9223372036854775807 ∧ d + k + 1 = 32) : OK 162 ([.agg [.ptr 0 0], .int .i64 d]) ([.cells (eC c)]) (.tuple []) (some [.cells (eC (il (aE k) c))]) := by
 refine ah (C := cx [(91, qu), (173, mJ), (174, (kc k))]) (ai ⟨xe, pL, hv, trivial⟩) (fn := Tryz.f162) rfl rfl rfl rfl fun hw hs => ?_
 obtain ⟨hp, hb, hd⟩ := hp
 have hl := Kp.aJ hp
 have hn := mh c
 have hd1 : -9223372036854775808 ≤ d := hw.2.1.1
 repeat' ((conv => whnf); apply ab)
 all_goals try conv => whnf
 all_goals try (refine a7.mk ?_; try dsimp only)
 . exact ⟨trivial, hp⟩
 refine c5.mk (Nat × Cu) (NI (dQ (aE k) c.aJ.1.2) c.aJ.1.1.toNat c.aJ.2) (fun x => ⟨27, [(1, .int .i64 d), (2, .ptr 1 0), (4, .int .i64 c.aJ.1.1), (5, .int .u8 c.aJ.1.2), (6, .int .i64 x.1)], [.cells (eC x.2), .cells [.ptr 0 0]], []⟩) (fun x => c.aJ.1.1.toNat - x.1) [] (0, c.aJ.2) (NI.z hl.1) ?_ (fun ⟨i, x⟩ hI _ _ => ?_)
 . refine Go.VG.Sub.mk rfl ?_ ?_ ?_ ?_ <;> (repeat' first | trivial)
 have hi := hI.i
 have hk := hI.k
 dsimp only at hi hk
 repeat' ((conv => whnf); first | apply ab | (apply ae <;> intro h))
 all_goals try conv => whnf
 all_goals try (refine a7.mk ?_; try dsimp only)
 all_goals (try simp only [aU, g7] at *)
 all_goals first | refine stay ?_ | trivial | skip
 . exact ⟨trivial, hk.1, by rw [hk.2.1, hl.2.1]; exact hb, by rw [bL]; omega⟩
 . refine ⟨[], (i + 1, _), hI.s og (by omega) (by assumption), ?_, by omega⟩
   refine Go.VG.Sub.mk rfl ?_ ?_ ?_ ?_ <;> (repeat' first | trivial | apply ak | apply az)
   (simp (discharger := omega) only [wR]; omega)
 . have he : il (aE k) c = x := hI.e (.inr (by assumption))
   rw [he]
   refine a6.mk [] ?_ <;> (repeat' first | trivial)
 . have he : il (aE k) c = x := hI.e (.inl (by omega))
   rw [he]
   refine a6.mk [] ?_ <;> (repeat' first | trivial)
def j9 (k : Nat) : Sm := fun args σ => match args, σ with
 | [.agg [.ptr 0 0], .int .i64 d], [.cells ([.str s_c, .int .i64 (.ofNat a_c), .int .i64 (.ofNat e_c), .int .i64 c_c])] => some (True ∧ ((Cu.mk s_c a_c e_c c_c).ok ∧ (Cu.mk s_c a_c e_c c_c).s.length ≤ 9223372036854775807 ∧ d + k + 1 = 32), .tuple [], some [.cells (eC (il (aE k) (Cu.mk s_c a_c e_c c_c)))])
 | _, _ => none
theorem F6 (k : Nat) (hv : a9 174 (kc k)) : a9 162 (j9 k) := by
 intro args sg pre x r he hp
 unfold j9 at he
 split at he <;> cases he
 . rw [bP (hp).1]; exact Dt (hv := hv) (hp := hp.2) ..
theorem Du (k : Nat) (hv : a9 174 (kc k)) (c : Cu) (d : Int) (hp : c.ok ∧ c.s.length ≤ 9223372036854775807 ∧ d + k + 1 = 32) : OK 163 ([.agg [.ptr 0 0], .int .i64 d]) ([.cells (eC c)]) (.tuple []) (some [.cells (eC (im (aE k) c))]) := by
 refine ah (C := cx [(175, tN), (173, mJ), (174, (kc k))]) (ai ⟨EB, pL, hv, trivial⟩) (fn := Tryz.f163) rfl rfl rfl rfl fun hw hs => ?_
 obtain ⟨hp, hb, hd⟩ := hp
 have hl := Kp.aT hp
 have hn := nR c
 have hd1 : -9223372036854775808 ≤ d := hw.2.1.1
 have hf : ∀ x : Cu, x.ok → Kp x (dQ (aE k) c.aT.1.2.2 (dQ (aE k) c.aT.1.2.1 x)) := fun x h => (og x h).trans (og _ (og x h).1)
 repeat' ((conv => whnf); apply ab)
 all_goals try conv => whnf
 all_goals try (refine a7.mk ?_; try dsimp only)
 . exact ⟨trivial, hp⟩
 refine c5.mk (Nat × Cu) (NI (fun x => dQ (aE k) c.aT.1.2.2 (dQ (aE k) c.aT.1.2.1 x)) c.aT.1.1.toNat c.aT.2) (fun x => ⟨34, [(1, .int .i64 d), (2, .ptr 1 0), (4, .int .i64 c.aT.1.1), (5, .int .u8 c.aT.1.2.1), (6, .int .u8 c.aT.1.2.2), (7, .int .i64 x.1)], [.cells (eC x.2), .cells [.ptr 0 0]], []⟩) (fun x => c.aT.1.1.toNat - x.1) [] (0, c.aT.2) (NI.z hl.1) ?_ (fun ⟨i, x⟩ hI _ _ => ?_)
 . refine Go.VG.Sub.mk rfl ?_ ?_ ?_ ?_ <;> (repeat' first | trivial)
 have hi := hI.i
 have hk := hI.k
 dsimp only at hi hk
 have hx := og (k := k) (q := c.aT.1.2.1) x hk.1
 repeat' ((conv => whnf); first | apply ab | (apply ae <;> intro h))
 all_goals try conv => whnf
 all_goals try (refine a7.mk ?_; try dsimp only)
 all_goals (try simp only [aU, g7] at *)
 all_goals first | refine stay ?_ | trivial | skip
 . exact ⟨trivial, hk.1, by rw [hk.2.1, hl.2.1]; exact hb, by rw [bL]; omega⟩
 . exact ⟨trivial, hx.1, by rw [hx.2.1, hk.2.1, hl.2.1]; exact hb, by rw [bL]; omega⟩
 . refine ⟨[], (i + 1, _), hI.s hf (by omega) (by assumption), ?_, by omega⟩
   refine Go.VG.Sub.mk rfl ?_ ?_ ?_ ?_ <;> (repeat' first | trivial | apply ak | apply az)
   (simp (discharger := omega) only [wR]; omega)
 . have he : im (aE k) c = x := hI.e (.inr (by assumption))
   rw [he]
   refine a6.mk [] ?_ <;> (repeat' first | trivial)
 . have he : im (aE k) c = x := hI.e (.inl (by omega))
   rw [he]
   refine a6.mk [] ?_ <;> (repeat' first | trivial)
def ja (k : Nat) : Sm := fun args σ => match args, σ with
 | [.agg [.ptr 0 0], .int .i64 d], [.cells ([.str s_c, .int .i64 (.ofNat a_c), .int .i64 (.ofNat e_c), .int .i64 c_c])] => some (True ∧ ((Cu.mk s_c a_c e_c c_c).ok ∧ (Cu.mk s_c a_c e_c c_c).s.length ≤ 9223372036854775807 ∧ d + k + 1 = 32), .tuple [], some [.cells (eC (im (aE k) (Cu.mk s_c a_c e_c c_c)))])
 | _, _ => none
theorem F7 (k : Nat) (hv : a9 174 (kc k)) : a9 163 (ja k) := by
 intro args sg pre x r he hp
 unfold ja at he
 split at he <;> cases he
 . rw [bP (hp).1]; exact Du (hv := hv) (hp := hp.2) ..
structure FI (v : SF) (c : Cu) (x : Nat × Cu × Int) : Prop where
 i : x.2.1.e - x.2.1.p < x.1
 k : Kp c x.2.1
 r : gR v x.1 x.2.1 x.2.2 = ij v c
theorem FI.z {v : SF} {c : Cu} (h : c.ok) : FI v c (c.e - c.p + 1, c, 0) := ⟨Nat.lt_succ_self _, Kp.rfl h, rfl⟩
theorem FI.s {v : SF} (hv : lv v) {c d : Cu} {n : Nat} {a : Int} (h : FI v c (n, d, a)) (h0 : d.c = 0) :
   ((d.aC a).1.2 = 0 → ij v c = (d.aC a).2) ∧ ((d.aC a).1.2 ≠ 0 → ∃ m, n = m + 1 ∧ FI v c (m, v (d.aC a).1.2 (d.aC a).2, (d.aC a).1.1)) := by
 have h1 := h.i
 have h2 := h.k
 have hr := h.r
 dsimp only at h1 h2 hr
 obtain ⟨m, rfl⟩ : ∃ m, n = m + 1 := ⟨n - 1, by omega⟩
 rw [gR, if_neg (by omega)] at hr
 refine ⟨fun q => by rw [if_pos q] at hr; exact hr.symm, fun q => ?_⟩
 rw [if_neg q] at hr
 have hf := Kp.aC h2.1 a
 have hp := (px h2.1 q).1
 have hx := hv (d.aC a).1.2 _ hf.1
 refine ⟨m, rfl, ?_, (h2.trans hf).trans hx, hr⟩
 show (v _ _).e - (v _ _).p < m
 have q1 := hx.2.2.1
 have q2 := hf.2.2.1
 have q3 := hx.2.2.2
 have q4 := hf.1.1
 omega
theorem rY (c : Cu) (a : Int) : 0 ≤ (c.aC a).1.2 ∧ (c.aC a).1.2 ≤ 15 := by
 have h256 := c.ao.toNat_lt
 unfold Cu.aC dj
 repeat' split
 all_goals (dsimp only; omega)
theorem Dl (k : Nat) (hv : a9 151 (gw k)) (c : Cu) (d : Int) (hp : c.ok ∧ c.s.length ≤ 9223372036854775807 ∧ d + k + 1 = 32) : OK 164 ([.agg [.ptr 0 0], .int .i64 d]) ([.cells (eC c)]) (.tuple []) (some [.cells (eC (ij (aE k) c))]) := by
 refine ah (C := cx [(33, qt), (173, mJ), (151, (gw k))]) (ai ⟨xd, pL, hv, trivial⟩) (fn := Tryz.f164) rfl rfl rfl rfl fun hw hs => ?_
 obtain ⟨hp, hb, hd⟩ := hp
 have hd1 : -9223372036854775808 ≤ d := hw.2.1.1
 all_goals try conv => whnf
 all_goals try (refine a7.mk ?_; try dsimp only)
 refine c5.mk (Nat × Cu × Int) (FI (aE k) c) (fun x => ⟨24, [(1, .int .i64 d), (2, .ptr 1 0), (4, .int .i64 x.2.2)], [.cells (eC x.2.1), .cells [.ptr 0 0]], []⟩) (fun x => x.1) [] (c.e - c.p + 1, c, 0) (FI.z hp) ?_ (fun ⟨n, x, a⟩ hI _ _ => ?_)
 . refine Go.VG.Sub.mk rfl ?_ ?_ ?_ ?_ <;> (repeat' first | trivial)
 have hk := hI.k
 dsimp only at hk
 have hs := fun h => hI.s (j7 k) h
 have hf := Kp.aC hk.1 a
 have hkb := rY x a
 have hn : ¬ x.c = 0 → ij (aE k) c = x := fun q => by rw [← hI.r]; exact Hk q _ _
 repeat' ((conv => whnf); first | apply ab | (apply ae <;> intro h))
 all_goals try conv => whnf
 all_goals try (refine a7.mk ?_; try dsimp only)
 all_goals (try simp only [aU, g7] at *)
 all_goals first | refine stay ?_ | trivial | skip
 . exact ⟨trivial, hk.1⟩
 . rw [(hs (by assumption)).1 (by assumption)]
   refine a6.mk [] ?_ <;> (repeat' first | trivial)
 . exact ⟨hf.1, by rw [hf.2.1, hk.2.1]; exact hb, by rw [bL]; omega⟩
 . obtain ⟨m, rfl, hI'⟩ := (hs (by assumption)).2 (by assumption)
   refine ⟨[], (m, _, _), hI', ?_, Nat.lt_succ_self m⟩
   refine Go.VG.Sub.mk rfl ?_ ?_ ?_ ?_ <;> (repeat' first | trivial)
 . rw [hn (by assumption)]
   refine a6.mk [] ?_ <;> (repeat' first | trivial)
def j8 (k : Nat) : Sm := fun args σ => match args, σ with
 | [.agg [.ptr 0 0], .int .i64 d], [.cells ([.str s_c, .int .i64 (.ofNat a_c), .int .i64 (.ofNat e_c), .int .i64 c_c])] => some (True ∧ ((Cu.mk s_c a_c e_c c_c).ok ∧ (Cu.mk s_c a_c e_c c_c).s.length ≤ 9223372036854775807 ∧ d + k + 1 = 32), .tuple [], some [.cells (eC (ij (aE k) (Cu.mk s_c a_c e_c c_c)))])
 | _, _ => none
theorem F2 (k : Nat) (hv : a9 151 (gw k)) : a9 164 (j8 k) := by
 intro args sg pre x r he hp
 unfold j8 at he
 split at he <;> cases he
 . rw [bP (hp).1]; exact Dl (hv := hv) (hp := hp.2) ..
theorem Dm (c : Cu) (n : Nat) (d : Int) (hp : 32 ≤ d) : OK 161 ([.agg [.ptr 0 0], .func (.func n) [] [], .int .i64 d]) ([.cells (eC c)]) (.tuple []) (some [.cells (eC (c.fail 33))]) := by
 refine ah (C := cx [(66, eZ)]) (ai ⟨fW, trivial⟩) (fn := Tryz.f161) rfl rfl rfl rfl fun hw hs => ?_
 repeat' ((conv => whnf); first | apply ab | (apply ae <;> intro h))
 all_goals try conv => whnf
 all_goals try (refine a7.mk ?_; try dsimp only)
 all_goals (try simp only [aU, g7] at *)
 all_goals first | refine stay ?_ | trivial | skip
 refine a6.mk [] ?_ <;> (repeat' first | trivial)
def uc : Sm := fun args σ => match args, σ with
 | [.agg [.ptr 0 0], .func (.func n) [] [], .int .i64 d], [.cells ([.str s_c, .int .i64 (.ofNat a_c), .int .i64 (.ofNat e_c), .int .i64 c_c])] => some (True ∧ (32 ≤ d), .tuple [], some [.cells (eC ((Cu.mk s_c a_c e_c c_c).fail 33))])
 | _, _ => none
theorem F3 : a9 161 uc := by
 intro args sg pre x r he hp
 unfold uc at he
 split at he <;> cases he
 . rw [bP (hp).1]; exact Dm (hp := hp.2) ..
theorem Dn (k : Nat) (hl : a9 162 (j9 k)) (hm : a9 163 (ja k)) (hf : a9 164 (j8 k)) (c : Cu) (d : Int) (hp : c.ok ∧ c.s.length ≤ 9223372036854775807 ∧ d + k + 1 = 32) : OK 161 ([.agg [.ptr 0 0], .func (.func 162) [] [], .int .i64 d]) ([.cells (eC c)]) (.tuple []) (some [.cells (eC (il (aE k) c))]) := by
 refine ah (C := cx [(162, (j9 k)), (163, (ja k)), (164, (j8 k))]) (ai ⟨hl, hm, hf, trivial⟩) (fn := Tryz.f161) rfl rfl rfl rfl fun hw hs => ?_
 repeat' ((conv => whnf); first | apply ab | (apply ae <;> intro h))
 all_goals try conv => whnf
 all_goals try (refine a7.mk ?_; try dsimp only)
 all_goals (try simp only [aU, g7] at *)
 all_goals first
  | exact ⟨trivial, hp⟩
  | (exfalso; omega)
  | skip
 refine a6.mk [] ?_ <;> (repeat' first | trivial)
theorem Dp (k : Nat) (hl : a9 162 (j9 k)) (hm : a9 163 (ja k)) (hf : a9 164 (j8 k)) (c : Cu) (d : Int) (hp : c.ok ∧ c.s.length ≤ 9223372036854775807 ∧ d + k + 1 = 32) : OK 161 ([.agg [.ptr 0 0], .func (.func 163) [] [], .int .i64 d]) ([.cells (eC c)]) (.tuple []) (some [.cells (eC (im (aE k) c))]) := by
 refine ah (C := cx [(162, (j9 k)), (163, (ja k)), (164, (j8 k))]) (ai ⟨hl, hm, hf, trivial⟩) (fn := Tryz.f161) rfl rfl rfl rfl fun hw hs => ?_
 repeat' ((conv => whnf); first | apply ab | (apply ae <;> intro h))
 all_goals try conv => whnf
 all_goals try (refine a7.mk ?_; try dsimp only)
 all_goals (try simp only [aU, g7] at *)
 all_goals first
  | exact ⟨trivial, hp⟩
  | (exfalso; omega)
  | skip
 refine a6.mk [] ?_ <;> (repeat' first | trivial)
theorem Dq (k : Nat) (hl : a9 162 (j9 k)) (hm : a9 163 (ja k)) (hf : a9 164 (j8 k)) (c : Cu) (d : Int) (hp : c.ok ∧ c.s.length ≤ 9223372036854775807 ∧ d + k + 1 = 32) : OK 161 ([.agg [.ptr 0 0], .func (.func 164) [] [], .int .i64 d]) ([.cells (eC c)]) (.tuple []) (some [.cells (eC (ij (aE k) c))]) := by
 refine ah (C := cx [(162, (j9 k)), (163, (ja k)), (164, (j8 k))]) (ai ⟨hl, hm, hf, trivial⟩) (fn := Tryz.f161) rfl rfl rfl rfl fun hw hs => ?_
 repeat' ((conv => whnf); first | apply ab | (apply ae <;> intro h))
 all_goals try conv => whnf
 all_goals try (refine a7.mk ?_; try dsimp only)
 all_goals (try simp only [aU, g7] at *)
 all_goals first
  | exact ⟨trivial, hp⟩
  | (exfalso; omega)
  | skip
 refine a6.mk [] ?_ <;> (repeat' first | trivial)
def oB (k : Nat) : Sm := fun args σ => match args, σ with
 | [.agg [.ptr 0 0], .func (.func 162) [] [], .int .i64 d], [.cells ([.str s_c, .int .i64 (.ofNat a_c), .int .i64 (.ofNat e_c), .int .i64 c_c])] => some (True ∧ ((Cu.mk s_c a_c e_c c_c).ok ∧ (Cu.mk s_c a_c e_c c_c).s.length ≤ 9223372036854775807 ∧ d + k + 1 = 32), .tuple [], some [.cells (eC (il (aE k) (Cu.mk s_c a_c e_c c_c)))])
 | [.agg [.ptr 0 0], .func (.func 163) [] [], .int .i64 d], [.cells ([.str s_c, .int .i64 (.ofNat a_c), .int .i64 (.ofNat e_c), .int .i64 c_c])] => some (True ∧ ((Cu.mk s_c a_c e_c c_c).ok ∧ (Cu.mk s_c a_c e_c c_c).s.length ≤ 9223372036854775807 ∧ d + k + 1 = 32), .tuple [], some [.cells (eC (im (aE k) (Cu.mk s_c a_c e_c c_c)))])
 | [.agg [.ptr 0 0], .func (.func 164) [] [], .int .i64 d], [.cells ([.str s_c, .int .i64 (.ofNat a_c), .int .i64 (.ofNat e_c), .int .i64 c_c])] => some (True ∧ ((Cu.mk s_c a_c e_c c_c).ok ∧ (Cu.mk s_c a_c e_c c_c).s.length ≤ 9223372036854775807 ∧ d + k + 1 = 32), .tuple [], some [.cells (eC (ij (aE k) (Cu.mk s_c a_c e_c c_c)))])
 | _, _ => none
theorem F4 (k : Nat) (hl : a9 162 (j9 k)) (hm : a9 163 (ja k)) (hf : a9 164 (j8 k)) : a9 161 (oB k) := by
 intro args sg pre x r he hp
 unfold oB at he
 split at he <;> cases he
 . rw [bP (hp).1]; exact Dn (hl := hl) (hm := hm) (hf := hf) (hp := hp.2) ..
 . rw [bP (hp).1]; exact Dp (hl := hl) (hm := hm) (hf := hf) (hp := hp.2) ..
 . rw [bP (hp).1]; exact Dq (hl := hl) (hm := hm) (hf := hf) (hp := hp.2) ..
theorem Dx (c : Cu) (q d : Int) (hp : c.ok ∧ c.s.length ≤ 9223372036854775807 ∧ d = 32) : OK 151 ([.agg [.ptr 0 0], .int .u8 q, .int .i64 d]) ([.cells (eC c)]) (.tuple []) (some [.cells (eC (aE 0 q c))]) := by
 refine ah (C := cx [(68, jb), (64, gS), (123, lg), (160, qJ), (66, eZ), (161, uc)]) (ai ⟨kT, iX, nB, xy, fW, F3, trivial⟩) (fn := Tryz.f151) rfl rfl rfl rfl fun hw hs => ?_
 repeat' ((conv => whnf); first | apply ab | (apply ae <;> intro h))
 all_goals try conv => whnf
 all_goals try (refine a7.mk ?_; try dsimp only)
 all_goals (try simp only [aU, g7] at *)
 all_goals first | refine stay ?_ | trivial | (simp (discharger := omega) [-List.getD_eq_getElem?_getD, wR] <;> omega) | skip
 all_goals first
  | exact ⟨trivial, hp.1⟩
  | exact ⟨trivial, hp.1, hp.2.1⟩
  | exact hp
  | (show (_ : Int) ≤ _; omega)
  | (exfalso; omega)
  | skip
 all_goals
  have he : aE 0 q c = aE 0 q c := rfl
  conv at he => rhs; unfold aE ik
  repeat (first | rw [if_pos (by omega)] at he | rw [if_neg (by omega)] at he)
  rw [he]
  refine a6.mk [] ?_ <;> (repeat' first | trivial)
def zf : Sm := fun args σ => match args, σ with
 | [.agg [.ptr 0 0], .int .u8 q, .int .i64 d], [.cells ([.str s_c, .int .i64 (.ofNat a_c), .int .i64 (.ofNat e_c), .int .i64 c_c])] => some (True ∧ ((Cu.mk s_c a_c e_c c_c).ok ∧ (Cu.mk s_c a_c e_c c_c).s.length ≤ 9223372036854775807 ∧ d = 32), .tuple [], some [.cells (eC (aE 0 q (Cu.mk s_c a_c e_c c_c)))])
 | _, _ => none
theorem F8 : a9 151 zf := by
 intro args sg pre x r he hp
 unfold zf at he
 split at he <;> cases he
 . rw [bP (hp).1]; exact Dx (hp := hp.2) ..
theorem Dy (k : Nat) (hh : a9 161 (oB k)) (c : Cu) (q d : Int) (hp : c.ok ∧ c.s.length ≤ 9223372036854775807 ∧ d + k + 1 = 32) : OK 151 ([.agg [.ptr 0 0], .int .u8 q, .int .i64 d]) ([.cells (eC c)]) (.tuple []) (some [.cells (eC (aE (k + 1) q c))]) := by
 refine ah (C := cx [(68, jb), (64, gS), (123, lg), (160, qJ), (66, eZ), (161, (oB k))]) (ai ⟨kT, iX, nB, xy, fW, hh, trivial⟩) (fn := Tryz.f151) rfl rfl rfl rfl fun hw hs => ?_
 repeat' ((conv => whnf); first | apply ab | (apply ae <;> intro h))
 all_goals try conv => whnf
 all_goals try (refine a7.mk ?_; try dsimp only)
 all_goals (try simp only [aU, g7] at *)
 all_goals first | refine stay ?_ | trivial | skip
 all_goals first
  | exact ⟨trivial, hp.1⟩
  | exact ⟨trivial, hp.1, hp.2.1⟩
  | exact hp
  | (show (_ : Int) ≤ _; omega)
  | (exfalso; omega)
  | skip
 all_goals
  have he : aE (k + 1) q c = aE (k + 1) q c := rfl
  conv at he => rhs; unfold aE ik
  repeat (first | rw [if_pos (by omega)] at he | rw [if_neg (by omega)] at he)
  rw [he]
  refine a6.mk [] ?_ <;> (repeat' first | trivial)
def zg (k : Nat) : Sm := fun args σ => match args, σ with
 | [.agg [.ptr 0 0], .int .u8 q, .int .i64 d], [.cells ([.str s_c, .int .i64 (.ofNat a_c), .int .i64 (.ofNat e_c), .int .i64 c_c])] => some (True ∧ ((Cu.mk s_c a_c e_c c_c).ok ∧ (Cu.mk s_c a_c e_c c_c).s.length ≤ 9223372036854775807 ∧ d + k + 1 = 32), .tuple [], some [.cells (eC (aE (k + 1) q (Cu.mk s_c a_c e_c c_c)))])
 | _, _ => none
theorem F9 (k : Nat) (hh : a9 161 (oB k)) : a9 151 (zg k) := by
 intro args sg pre x r he hp
 unfold zg at he
 split at he <;> cases he
 . rw [bP (hp).1]; exact Dy (hh := hh) (hp := hp.2) ..
theorem xz : ∀ k, a9 151 (gw k)
 | 0 => by
   intro args sg pre x r he hp
   unfold gw at he
   split at he <;> cases he
   exact F8 _ _ _ _ _ rfl ⟨trivial, hp.1, hp.2.1, by have := hp.2.2; omega⟩
 | k + 1 => by
   have hv := xz k
   have hi := F5 k hv
   intro args sg pre x r he hp
   unfold gw at he
   split at he <;> cases he
   exact F9 k (F4 k (F6 k hi) (F7 k hi) (F2 k hv)) _ _ _ _ _ rfl ⟨trivial, hp.1, hp.2.1, by have := hp.2.2; omega⟩
theorem Dz (k : Nat) (hv : a9 151 (gw k)) (c : Cu) (q d : Int) (hp : c.ok ∧ c.s.length ≤ 9223372036854775807 ∧ d + k = 32) : OK 125 ([.ptr 0 0, .int .u8 q, .int .i64 d]) ([.cells (eC c)]) (.tuple []) (some [.cells (eC (aE k q c))]) := by
 refine ah (C := cx [(151, (gw k))]) (ai ⟨hv, trivial⟩) (fn := Tryz.f125) rfl rfl rfl rfl fun hw hs => ?_
 repeat' ((conv => whnf); apply ab)
 all_goals try conv => whnf
 all_goals try (refine a7.mk ?_; try dsimp only)
 all_goals (try simp only [aU, g7] at *)
 all_goals first
  | exact ⟨trivial, hp⟩
  | exact hp
  | skip
 refine a6.mk [] ?_ <;> (repeat' first | trivial)
def oC (k : Nat) : Sm := fun args σ => match args, σ with
 | [.ptr 0 0, .int .u8 q, .int .i64 d], [.cells ([.str s_c, .int .i64 (.ofNat a_c), .int .i64 (.ofNat e_c), .int .i64 c_c])] => some (True ∧ ((Cu.mk s_c a_c e_c c_c).ok ∧ (Cu.mk s_c a_c e_c c_c).s.length ≤ 9223372036854775807 ∧ d + k = 32), .tuple [], some [.cells (eC (aE k q (Cu.mk s_c a_c e_c c_c)))])
 | _, _ => none
theorem Fa (k : Nat) (hv : a9 151 (gw k)) : a9 125 (oC k) := by
 intro args sg pre x r he hp
 unfold oC at he
 split at he <;> cases he
 . rw [bP (hp).1]; exact Dz (hv := hv) (hp := hp.2) ..
end Go.Proofs.YtipejldppicijaaGreatDoor
