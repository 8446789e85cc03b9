/-
  A part of the proof.
-/
import Derived.Test.YtipejldppicijaaGreatDoorGD
import Derived.Test.YtipejldppicijaaGreatDoorGB
set_option linter.unusedSimpArgs false
set_option linter.unusedVariables false
set_option maxHeartbeats 4000000
namespace Go.Proofs.YtipejldppicijaaGreatDoor
open Go Go.VG
set_option maxRecDepth 100000
def bh : V → Fd
 | .agg [.int _ i, .int _ k, .int _ n, .int _ b, .str t, .str r] => ⟨i, k, n, b, t, r⟩
 | _ => default
theorem bn (l : List Fd) : (l.map bE).map bh = l := by
 induction l with
 | nil => rfl
 | cons f l ih => rw [List.map_cons, List.map_cons, ih]; rfl
abbrev c6 (l : List Fd) : V := .list false 6 (l.map bE)
theorem jd {l : List V} (h : l = (l.map bh).map bE) : V.list false 6 l = c6 (l.map bh) := congrArg (V.list false 6) h
theorem bz (l : List Fd) : l.map bE = ((l.map bE).map bh).map bE := by rw [bn]
def sV (r : SR) : V := if r.1 = 0 then .tuple [.list false 6 (r.2.2.map bE), .int .i64 r.2.1, .int .i64 0] else .tuple [.list true 0 [], .int .i64 0, .int .i64 r.1]
theorem yD {o : Option (List Fd × Cu)} (h : (dX o).1 ≠ 0) : (dX o).2 = (0, []) := by
 unfold dX at h ⊢
 split
 . dsimp only at h
   split
   . rename_i q; rw [if_pos q] at h; exact absurd rfl h
   . rfl
 . rfl
theorem yK {r : SR} (h : r.1 ≠ 0 → r.2 = (0, [])) : Wk (sV r) (.tuple [c6 r.2.2, .int .i64 r.2.1, .int .i64 r.1]) := by
 unfold sV
 by_cases q : r.1 = 0
 . rw [if_pos q, q]; exact Wk.refl _
 . rw [if_neg q, h q]
   exact Wk.tuple (aN.cons (Wk.nil (.inl rfl)) (aN.refl _))
def iV (r : IR) : V := if r.1 = 0 then .tuple [.list false 6 (r.2.map bE), .int .i64 0] else .tuple [.list true 0 [], .int .i64 r.1]
theorem wL {r : IR} (h : r.1 ≠ 0 → r.2 = []) : Wk (iV r) (.tuple [c6 r.2, .int .i64 r.1]) := by
 unfold iV
 by_cases q : r.1 = 0
 . rw [if_pos q, q]; exact Wk.refl _
 . rw [if_neg q, h q]
   exact Wk.tuple (aN.cons (Wk.nil (.inl rfl)) (aN.refl _))
theorem DA (k : Nat) (hv : a9 34 (mI k)) (s : List UInt8) (d : Int) (hp : s.length ≤ 1000000000 ∧ d + k + 1 = 32) : OK 10 [.str s, .int .i64 d] [] (sV (dX (oR k s))) none := by
 refine ah (C := cx [(32, mH), (33, qt), (34, mI k), (35, fJ), (36, qg)]) (ai ⟨pK, xd, hv, gj, wV, trivial⟩) (fn := Tryz.f10) rfl rfl rfl rfl fun hw _ => ?_
 obtain ⟨hl, hd⟩ := hp
 obtain ⟨r, hr⟩ := ru k s
 have hd1 : -9223372036854775808 ≤ d := hw.2.1.1
 rw [hr]
 repeat' ((conv => whnf); first | apply ab | (apply ae <;> intro h))
 all_goals try conv => whnf
 all_goals try (refine a7.mk ?_; try dsimp only)
 . exfalso; omega
 refine c5.mk (Nat × Cu × Int × List Fd) (fun (n, c, last, acc) => c.ok ∧ c.s = s ∧ acc.length + n ≤ s.length + 1 ∧ eX k n c last acc = some r) (fun (n, c, last, acc) => ⟨56, [(1, .int .i64 d), (4, .buf 2), (7, .ptr 1 0), (8, .int .i64 last)], [.cells (eC c), .cells [.str s, .ptr 0 0], .buf 6 0 (acc.map bE)], [2]⟩) (fun x => x.1) [.tm 4 6] (s.length + 1, .new s, 0, []) ⟨ib s, rfl, by simp, hr⟩ ?_ (fun ⟨n, c, last, acc⟩ ⟨h1, h2, h3, h4⟩ _ _ => ?_)
 . refine Go.VG.Sub.mk rfl ?_ ?_ ?_ ?_ <;> (repeat' first | trivial)
 cases n with
 | zero => rw [eX] at h4; cases h4
 | succ n =>
 rw [eX] at h4
 have hfo := Kp.aC h1 last
 have hvo := Kp.bO hfo.1 k ⟨(c.aC last).1.1, (c.aC last).1.2, 0, 0, [], []⟩
 repeat' ((conv => whnf); first | apply ab | apply ax | (apply ae <;> intro h))
 all_goals try conv => whnf
 all_goals try (refine a7.mk ?_; try dsimp only)
 all_goals (try simp only [aU] at *)
 all_goals first | refine stay ?_ | trivial | (simp (discharger := omega) [-List.getD_eq_getElem?_getD, wR] <;> omega) | skip
 . rw [if_pos (by assumption)] at h4
   cases h4
   have e : sV (dX (some (acc, (c.aC last).2))) = .tuple [.list false 6 (acc.map bE), .int .i64 (c.aC last).2.p, .int .i64 0] := by
    unfold dX
    dsimp only
    rw [if_pos (by assumption)]; rfl
   rw [e]
   refine a6.mk [.bu 2] ?_ <;> (repeat' first | trivial)
 . rw [if_pos (by assumption)] at h4
   cases h4
   have e : sV (dX (some (acc, (c.aC last).2))) = .tuple [.list true 0 [], .int .i64 0, .int .i64 (c.aC last).2.c] := by
    unfold dX
    dsimp only
    rw [if_neg (by assumption)]
    unfold sV
    rw [if_neg (by assumption)]
   rw [e]
   refine a6.mk [] ?_ <;> (repeat' first | trivial)
 . exact ⟨trivial, trivial, hfo.1, by rw [hfo.2.1, h2]; omega, by rw [bL]; omega, by rw [hfo.2.1, h2]⟩
 . rw [if_neg (by assumption)] at h4
   refine ⟨[], (n, _, _, _), ⟨hvo.1, by rw [hvo.2.1, hfo.2.1, h2], by rw [List.length_append, List.length_singleton]; omega, h4⟩, ?_, by show n < n + 1; omega⟩
   refine Go.VG.Sub.mk rfl ?_ ?_ ?_ ?_ <;> (repeat' first | trivial | apply ak | apply bI)
   all_goals (first | rfl | (simp; done))
theorem BT (s : List UInt8) (d : Int) (hp : d ≥ 32) : OK 10 ([.str s, .int .i64 d]) ([]) (.tuple [.list true 0 [], .int .i64 0, .int .i64 33]) (none) := by
 refine ah (C := cx [(32, mH)]) (ai ⟨pK, trivial⟩) (fn := Tryz.f10) rfl rfl rfl rfl fun hw hs => ?_
 repeat' ((conv => whnf); first | apply ab | (apply ae <;> intro h))
 all_goals try conv => whnf
 all_goals try (refine a7.mk ?_; try dsimp only)
 all_goals first
  | (exfalso; omega)
  | (show a6 _ _ _ _ _ _
     refine a6.mk [] ?_ <;> (repeat' first | trivial)
     done)
def sm_cstD : Sm := fun args σ => match args, σ with
 | [.str s, .int .i64 d], [] => some (d ≥ 32, .tuple [.list true 0 [], .int .i64 0, .int .i64 33], none)
 | _, _ => none
theorem xx (k : Nat) : a9 34 (mI k) := F0 k (EX k (Fa k (xz k)))
theorem wa (s : List UInt8) (d : Int) (hp : 0 ≤ d ∧ s.length ≤ 1000000000) : OK 10 ([.str s, .int .i64 d]) ([]) (.tuple [c6 (aW d s).2.2, .int .i64 ((aW d s).2.1 : Nat), .int .i64 (aW d s).1]) (none) := by
 unfold aW
 by_cases h : d ≥ 32
 . rw [if_pos h]
   exact (BT s d h).res (Wk.tuple (aN.cons (Wk.nil (.inl rfl)) (aN.refl _)))
 . rw [if_neg h]
   exact (DA (31 - d).toNat (xx _) s d ⟨hp.2, by omega⟩).res (yK yD)
def qk : Sm := fun args σ => match args, σ with
 | [.str s, .int .i64 d], [] => some (0 ≤ d ∧ s.length ≤ 1000000000, .tuple [c6 (aW d s).2.2, .int .i64 ((aW d s).2.1 : Nat), .int .i64 (aW d s).1], none)
 | _, _ => none
theorem wZ : a9 10 qk := by
 intro args sg pre x r he hp
 unfold qk at he
 split at he <;> cases he
 . exact wa (hp := hp) ..
def r0 (f : Fd) (c : Cu) : Fd := if c.ao.toNat = 1 then ⟨f.id, 1, 1, f.bits, f.text, f.raw⟩ else ⟨f.id, 2, f.num, f.bits, f.text, f.raw⟩
theorem Hz (i k : Int) (c : Cu) : r0 ⟨i, k, 0, 0, [], []⟩ c = ln i c := rfl
theorem zH {c : Cu} (h : c.ok) : Kp c (ff c) := by
 have hb := Kp.pass h 1
 unfold ff
 split
 . exact hb.trans (Kp.fail hb.1 3)
 . exact hb
theorem Dc (s : List UInt8) (f : Fd) (c : Cu) (hp : c.ok) : OK 92 ([.ptr 0 0, .ptr 1 0]) ([.cells [.str s, .ptr 2 0], .cells (eK f), .cells (eC c)]) (.tuple []) (some [.cells [.str s, .ptr 2 0], .cells (eK (r0 f c)), .cells (eC (ff c))]) := by
 refine ah (C := cx [(64, gS), (66, eZ)]) (ai ⟨iX, fW, trivial⟩) (fn := Tryz.f92) rfl rfl rfl rfl fun hw hs => ?_
 repeat' ((conv => whnf); first | apply ab | (apply ae <;> intro h))
 all_goals try conv => whnf
 all_goals try (refine a7.mk ?_; try dsimp only)
 all_goals (try simp only [aU] at *)
 all_goals first | refine stay ?_ | trivial | skip
 all_goals
  unfold ff r0
  repeat (first | rw [if_pos (by omega)] | rw [if_neg (by omega)])
  refine a6.mk [] ?_ <;> (repeat' first | trivial)
def ua : Sm := fun args σ => match args, σ with
 | [.ptr 0 0, .ptr 1 0], [.cells [.str s, .ptr 2 0], .cells ([.int .i64 i_f, .int .u8 k_f, .int .i64 n_f, .int .u64 b_f, .str t_f, .str r_f]), .cells ([.str s_c, .int .i64 (.ofNat a_c), .int .i64 (.ofNat e_c), .int .i64 c_c])] => some (True ∧ (True ∧ ((Cu.mk s_c a_c e_c c_c).ok)), .tuple [], some [.cells [.str s, .ptr 2 0], .cells (eK (r0 (Fd.mk i_f k_f n_f b_f t_f r_f) (Cu.mk s_c a_c e_c c_c))), .cells (eC (ff (Cu.mk s_c a_c e_c c_c)))])
 | _, _ => none
theorem EZ : a9 92 ua := by
 intro args sg pre x r he hp
 unfold ua at he
 split at he <;> cases he
 . rw [bP (hp).1]; rw [uz (hp.2).1]; exact Dc (hp := hp.2.2) ..
def ji (k : Int) : Int := if k = 4 then 16 else if k = 5 then 32 else if k = 6 then 64 else 0
theorem uZ (k : Int) : (k = 4 ∧ ji k = 16 ∧ ∀ n, cO k n = b7 n 16) ∨ (k = 5 ∧ ji k = 32 ∧ ∀ n, cO k n = b7 n 32) ∨ (k = 6 ∧ ji k = 64 ∧ ∀ n, cO k n = b7 n 64) ∨ ((k ≠ 4 ∧ k ≠ 5 ∧ k ≠ 6) ∧ ji k = 0 ∧ ∀ n, cO k n = 0) := by
 by_cases h4 : k = 4
 . subst h4; exact .inl ⟨rfl, rfl, fun _ => rfl⟩
 by_cases h5 : k = 5
 . subst h5; exact .inr (.inl ⟨rfl, rfl, fun _ => rfl⟩)
 by_cases h6 : k = 6
 . subst h6; exact .inr (.inr (.inl ⟨rfl, rfl, fun _ => rfl⟩))
 refine .inr (.inr (.inr ⟨⟨h4, h5, h6⟩, ?_, fun n => ?_⟩))
 . unfold ji; rw [if_neg h4, if_neg h5, if_neg h6]
 . unfold cO; rw [if_neg h4, if_neg h5, if_neg h6]
theorem D3 (k : Int) (hp : True) : OK 88 ([.int .u8 k]) ([]) (.int .i64 (ji k)) (none) := by
 refine ah (C := cx []) (ai trivial) (fn := Tryz.f88) rfl rfl rfl rfl fun hw hs => ?_
 repeat' ((conv => whnf); (apply ae <;> intro h))
 all_goals try conv => whnf
 all_goals try (refine a7.mk ?_; try dsimp only)
 all_goals
  unfold ji
  repeat (first | rw [if_pos (by assumption)] | rw [if_neg (by assumption)])
  refine a6.mk [] ?_ <;> (repeat' first | trivial)
def qF : Sm := fun args σ => match args, σ with
 | [.int .u8 k], [] => some (True, .int .i64 (ji k), none)
 | _, _ => none
theorem xq : a9 88 qF := by
 intro args sg pre x r he hp
 unfold qF at he
 split at he <;> cases he
 . exact D3 (hp := hp) ..
theorem s9 {d : Nat} {k : Int} : ∀ (m i : Nat) (c : Cu) (acc : List Fd), (dk d k m i c acc).1.length ≤ acc.length + m
 | 0, _, _, _ => Nat.le_refl _
 | m + 1, i, c, acc => by
   rw [dk]
   repeat' split
   . exact Nat.le_add_right _ _
   . have := s9 (d := d) (k := k) m (i + 1) (ff c) (acc ++ [ln i c])
     rw [List.length_append, List.length_singleton] at this; omega
   . have := s9 (d := d) (k := k) m (i + 1) (bO d ⟨i, k, 0, 0, [], []⟩ c).2 (acc ++ [(bO d ⟨i, k, 0, 0, [], []⟩ c).1])
     rw [List.length_append, List.length_singleton] at this; omega
structure gW (d : Nat) (k : Int) (n : Nat) (c0 : Cu) (x : Nat × Cu × List Fd) : Prop where
 i : x.1 ≤ n
 l : x.2.2.length = x.1
 kp : Kp c0 x.2.1
 r : dk d k (n - x.1) x.1 x.2.1 x.2.2 = dk d k n 0 c0 []
theorem gW.z {d : Nat} {k : Int} {n : Nat} {c : Cu} (h : c.ok) : gW d k n c (0, c, []) := ⟨Nat.zero_le _, rfl, Kp.rfl h, rfl⟩
theorem gW.e {d : Nat} {k : Int} {n i : Nat} {c x : Cu} {l : List Fd} (h : gW d k n c (i, x, l)) (hi : ¬ (i : Int) < n ∨ x.c ≠ 0) : dk d k n 0 c [] = (l, x) := by
 rw [← h.r]
 show dk d k (n - i) i x l = (l, x)
 have := h.i
 dsimp only at this
 rcases hi with hi | hi
 . rw [show n - i = 0 by omega]; rfl
 . cases hn : n - i with
   | zero => rfl
   | succ m => rw [dk, if_pos hi]
theorem gW.s {d : Nat} {k : Int} {n i : Nat} {c x : Cu} {l : List Fd} (h : gW d k n c (i, x, l)) (hi : (i : Int) < n) (h0 : x.c = 0) :
   (k = 1 ∨ k = 2 → gW d k n c (i + 1, ff x, l ++ [ln i x])) ∧ (¬ (k = 1 ∨ k = 2) → gW d k n c (i + 1, (bO d ⟨i, k, 0, 0, [], []⟩ x).2, l ++ [(bO d ⟨i, k, 0, 0, [], []⟩ x).1])) := by
 have hr := h.r
 have hk := h.kp
 have hl := h.l
 dsimp only at hr hk hl
 obtain ⟨m, hm⟩ : ∃ m, n - i = m + 1 := ⟨n - i - 1, by omega⟩
 rw [hm, dk, if_neg (show ¬ x.c ≠ 0 from fun z => z h0)] at hr
 have e : n - (i + 1) = m := by omega
 refine ⟨fun q => ?_, fun q => ?_⟩
 . rw [if_pos q] at hr
   exact ⟨by show i + 1 ≤ n; omega, by show (l ++ [_]).length = i + 1; rw [List.length_append, List.length_singleton, hl], hk.trans (zH hk.1), by rw [← hr]; show dk d k (n - (i + 1)) (i + 1) _ _ = _; rw [e]⟩
 . rw [if_neg q] at hr
   exact ⟨by show i + 1 ≤ n; omega, by show (l ++ [_]).length = i + 1; rw [List.length_append, List.length_singleton, hl], hk.trans (Kp.bO hk.1 d _), by rw [← hr]; show dk d k (n - (i + 1)) (i + 1) _ _ = _; rw [e]⟩
theorem wK {r : List Fd × Cu} (h : (dt r).1 ≠ 0) : (dt r).2 = [] := by
 unfold dt at h ⊢
 split
 . rfl
 . rename_i q; rw [if_neg q] at h; exact absurd rfl h
theorem Ck (k : Nat) (s : List UInt8) (d : Int) (hp : s.length ≤ 1000000000 ∧ d + k + 1 = 32) : OK 42 [.str s, .int .i64 d] [] (iV (dt (dk k (Cu.new s).aJ.1.2 (Cu.new s).aJ.1.1.toNat 0 (Cu.new s).aJ.2 []))) none := by
 refine ah (C := cx [(32, mH), (91, qu), (62, lf), (92, ua), (34, mI k), (35, fJ), (93, tD)]) (ai ⟨pK, xe, nA, EZ, xx k, gj, Eo, trivial⟩) (fn := Tryz.f42) rfl rfl rfl rfl fun hw _ => ?_
 obtain ⟨hl, hd⟩ := hp
 have hd1 : -9223372036854775808 ≤ d := hw.2.1.1
 have hok := ib s
 have hh := Kp.aJ hok
 have hb := mh (.new s)
 generalize hq : (Cu.new s).aJ.1.2 = q at *
 generalize hn : (Cu.new s).aJ.1.1 = n at *
 generalize hc : (Cu.new s).aJ.2 = c at *
 obtain ⟨n, rfl⟩ := Int.eq_ofNat_of_zero_le hb.1.1
 rw [Int.toNat_natCast]
 repeat' ((conv => whnf); first | apply ab | (apply ae <;> intro h))
 all_goals try conv => whnf
 all_goals try (refine a7.mk ?_; try dsimp only)
 all_goals (try simp only [hq, hn, hc] at *)
 . exfalso; omega
 . exact ⟨trivial, hok⟩
 refine c5.mk (Nat × Cu × List Fd) (gW k q n c) (fun x => ⟨62, [(1, .int .i64 d), (6, .ptr 1 0), (7, .int .i64 n), (8, .int .u8 q), (9, .buf 2), (10, .int .i64 x.1)], [.cells (eC x.2.1), .cells [.str s, .ptr 0 0], .buf 6 0 (x.2.2.map bE)], [2]⟩) (fun x => n - x.1) [.tm 9 6] (0, c, []) (gW.z hh.1) ?_ (fun ⟨i, x, l⟩ hI _ _ => ?_)
 . refine Go.VG.Sub.mk rfl ?_ ?_ ?_ ?_ <;> (repeat' first | trivial)
 have hi := hI.i
 have hx := hI.kp
 have hlen := hI.l
 have hS := fun h h' => hI.s h h'
 have hE := fun h => hI.e h
 dsimp only at hi hx hlen
 have hxs : x.s = s := by rw [hx.2.1, hh.2.1]; rfl
 have hqb : ((byte q).toNat : Int) = q := cq (by omega)
 have h1n : (byte 1).toNat = 1 := rfl
 repeat' ((conv => whnf); first | apply ab | apply ax | (apply ae <;> intro h))
 all_goals try conv => whnf
 all_goals try (refine a7.mk ?_; try dsimp only)
 all_goals (try simp only [aU, g7, Hz] at *)
 all_goals first | refine stay ?_ | trivial | (simp (discharger := omega) [-List.getD_eq_getElem?_getD, wR] <;> omega) | skip
 all_goals first
  | exact ⟨trivial, trivial, hx.1⟩
  | exact ⟨trivial, hx.1⟩
  | exact ⟨trivial, trivial, hx.1, by rw [hxs]; omega, by rw [bL]; omega, hxs⟩
  | skip
 . have hN := (hS (by assumption) (by assumption)).1 (by omega)
   refine ⟨[], (i + 1, _, _), hN, ?_, by show n - (i + 1) < n - i; omega⟩
   refine Go.VG.Sub.mk rfl ?_ ?_ ?_ ?_ <;> (repeat' first | trivial | apply ak | apply az | apply bI)
   . (simp (discharger := omega) only [wR]; omega)
   . simp
 . have hN := (hS (by assumption) (by assumption)).2 (by omega)
   refine ⟨[], (i + 1, _, _), hN, ?_, by show n - (i + 1) < n - i; omega⟩
   refine Go.VG.Sub.mk rfl ?_ ?_ ?_ ?_ <;> (repeat' first | trivial | apply ak | apply az | apply bI)
   . (simp (discharger := omega) only [wR]; omega)
   . simp
 . rw [hE (.inr (by assumption))]
   have e : iV (dt (l, x)) = .tuple [.list false 6 (l.map bE), .int .i64 0] := by
    unfold dt
    dsimp only
    rw [if_neg (show ¬ x.fin ≠ 0 from fun z => z (by assumption))]; rfl
   rw [e]
   refine a6.mk [.bu 2] ?_ <;> (repeat' first | trivial)
 . rw [hE (.inr (by assumption))]
   have e : iV (dt (l, x)) = .tuple [.list true 0 [], .int .i64 x.fin] := by
    unfold dt
    dsimp only
    rw [if_pos (show x.fin ≠ 0 by assumption)]
    unfold iV
    rw [if_neg (by assumption)]
   rw [e]
   refine a6.mk [] ?_ <;> (repeat' first | trivial)
 . rw [hE (.inl (by assumption))]
   have e : iV (dt (l, x)) = .tuple [.list false 6 (l.map bE), .int .i64 0] := by
    unfold dt
    dsimp only
    rw [if_neg (show ¬ x.fin ≠ 0 from fun z => z (by assumption))]; rfl
   rw [e]
   refine a6.mk [.bu 2] ?_ <;> (repeat' first | trivial)
 . rw [hE (.inl (by assumption))]
   have e : iV (dt (l, x)) = .tuple [.list true 0 [], .int .i64 x.fin] := by
    unfold dt
    dsimp only
    rw [if_pos (show x.fin ≠ 0 by assumption)]
    unfold iV
    rw [if_neg (by assumption)]
   rw [e]
   refine a6.mk [] ?_ <;> (repeat' first | trivial)
theorem D4 (f : Fd) (hp : True) : OK 41 ([.agg (eK f)]) ([]) (.int .i64 (cO f.k f.num)) (none) := by
 refine ah (C := cx [(88, qF), (90, tW)]) (ai ⟨xq, EK, trivial⟩) (fn := Tryz.f41) rfl rfl rfl rfl fun hw hs => ?_
 have hb := uZ f.k
 repeat' ((conv => whnf); first | apply ab | (apply ae <;> intro h))
 all_goals try conv => whnf
 all_goals try (refine a7.mk ?_; try dsimp only)
 all_goals first
  | omega
  | skip
 . rcases hb with hb | hb | hb | hb
   . exact absurd hb.2.1 (by omega)
   . exact absurd hb.2.1 (by omega)
   . exact absurd hb.2.1 (by omega)
   . rw [hb.2.2]
     refine a6.mk [] ?_ <;> (repeat' first | trivial)
 . rcases hb with hb | hb | hb | hb
   . rw [hb.2.2, hb.2.1]
     refine a6.mk [] ?_ <;> (repeat' first | trivial)
   . rw [hb.2.2, hb.2.1]
     refine a6.mk [] ?_ <;> (repeat' first | trivial)
   . rw [hb.2.2, hb.2.1]
     refine a6.mk [] ?_ <;> (repeat' first | trivial)
   . exact absurd hb.2.1 (by assumption)
def qG : Sm := fun args σ => match args, σ with
 | [.agg ([.int .i64 i_f, .int .u8 k_f, .int .i64 n_f, .int .u64 b_f, .str t_f, .str r_f])], [] => some (True ∧ (True), .int .i64 (cO (Fd.mk i_f k_f n_f b_f t_f r_f).k (Fd.mk i_f k_f n_f b_f t_f r_f).num), none)
 | _, _ => none
theorem xt : a9 41 qG := by
 intro args sg pre x r he hp
 unfold qG at he
 split at he <;> cases he
 . rw [uz (hp).1]; exact D4 (hp := hp.2) ..
theorem HH {n : Nat} (h : n < 256) : gU n 8 = lq n := by
 unfold gU lq
 rw [show bN 8 = 256 from rfl, show bN (8 - 1) = 128 from rfl]
 by_cases q : n ≥ 128
 . rw [if_pos q, if_pos (by omega)]; omega
 . rw [if_neg q, if_neg (by omega)]; omega
theorem D5 (i k : Int) (x : List UInt8) (hp : x.length ≤ 1000000000 ∧ (k = 3 → x ≠ []) ∧ (k = 7 → x.length ≤ 8)) : OK 40 ([.int .i64 i, .int .u8 k, .str x]) ([]) (bE (cw i k x)) (none) := by
 refine ah (C := cx [(37, ou), (87, qx), (88, qF), (77, kb), (78, qy), (89, tX)]) (ai ⟨sm, xh, xq, mb, xi, EL, trivial⟩) (fn := Tryz.f40) rfl rfl rfl rfl fun hw hs => ?_
 obtain ⟨hl, h3, h7⟩ := hp
 have hn := ib x
 have hb := uZ k
 have hd := ky hn
 have hdl := @p9 (.new x)
 have hpl : (Cu.new x).aD.2.p ≤ x.length := by
  have h1 := hd.1.1
  have h2 : (Cu.new x).aD.2.e = x.length := hd.2.2
  omega
 have hk : k = 3 → 0 < x.length := fun q => List.length_pos_iff.2 (h3 q)
 have h256 := (x.getD 0 0).toNat_lt
 have hw8 : IntKind.u64.wrap ((x.getD 0 0).toNat : Int) = ((x.getD 0 0).toNat : Int) := by rw [cm]; omega
 have hwv := HH (n := (x.getD 0 0).toNat) (by omega)
 repeat' ((conv => whnf); first | apply ab | (apply ae <;> intro h) | with_reducible refine gJ ?_ fun hc => ?_)
 all_goals try conv => whnf
 all_goals try (refine a7.mk ?_; try dsimp only)
 all_goals (try simp only [aU, show Int.toNat 0 = 0 from rfl, hw8, hwv, Int.toNat_natCast] at *)
 all_goals first | refine stay ?_ | trivial | omega | (simp (discharger := omega) [-List.getD_eq_getElem?_getD, wR] <;> omega) | skip
 all_goals first
  | exact ⟨trivial, hn, rfl, hl⟩
  | exact hk (by assumption)
  | exact h7 (by assumption)
  | exact ⟨⟨by omega, by omega⟩, .inr (.inl rfl)⟩
  | exact ⟨by omega, by omega⟩
  | skip
 all_goals
  have he : cw i k x = cw i k x := rfl
  conv at he => rhs; unfold cw
  repeat (first | rw [if_pos (by omega)] at he | rw [if_neg (by omega)] at he)
  rw [he]
  refine a6.mk [] ?_ <;> (repeat' first | trivial)
def qH : Sm := fun args σ => match args, σ with
 | [.int .i64 i, .int .u8 k, .str x], [] => some (x.length ≤ 1000000000 ∧ (k = 3 → x ≠ []) ∧ (k = 7 → x.length ≤ 8), bE (cw i k x), none)
 | _, _ => none
theorem xu : a9 40 qH := by
 intro args sg pre x r he hp
 unfold qH at he
 split at he <;> cases he
 . exact D5 (hp := hp) ..
end Go.Proofs.YtipejldppicijaaGreatDoor
