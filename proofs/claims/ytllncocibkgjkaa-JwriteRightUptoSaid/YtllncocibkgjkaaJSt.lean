/-
  A part of the proof.
-/
import Derived.Test.YtllncocibkgjkaaJSp
set_option linter.unusedSimpArgs false
set_option linter.unusedVariables false
set_option maxHeartbeats 4000000
namespace Go.Proofs.Ytllncocibkgjkaa
open Go Go.VG
set_option maxRecDepth 100000
theorem su : bl [] = [] := rfl
theorem D2 (c : Cu) (o : List V) (hp : c.ok ∧ o.length ≤ 2000000000) : OK 77 ([.ptr 0 0]) ([.cells [.ptr 1 0, .buf 2], .cells (eC c), .buf 1 0 o]) (.tuple []) (some [.cells [.ptr 1 0, .buf 2], .cells (eC c.d9), .buf 1 0 (o ++ bl c.fi)]) := by
 refine az (C := cx [(44, iw), (92, uR), (21, iy), (93, vk), (94, uS), (49, iU)]) (ax ⟨ja, EU, jb, Ff, EV, jF, trivial⟩) (fn := Try.f77) rfl rfl rfl rfl fun hw hs => ?_
 obtain ⟨hp, ho⟩ := hp
 have h1 := dx hp
 have h2 := zr h1
 have hb : c.aa.toNat < 256 := c.aa.toNat_lt
 have hbb : byte c.aa.toNat = c.aa := cF _
 repeat' ((conv => whnf); first | apply al | apply bh | (apply ay <;> intro h))
 all_goals try conv => whnf
 all_goals try (refine af.mk ?_; try dsimp only)
 all_goals (try simp only [aO] at *)
 all_goals first | refine stay ?_ | trivial | (simp only [cD]; omega) | (simp (discharger := omega) [-List.getD_eq_getElem?_getD, wR] <;> omega) | skip
 all_goals (try simp only [hbb] at *)
 all_goals first
  | exact ⟨Ga (by assumption), by omega⟩
  | skip
 all_goals
  first
  | (have hpl : gF c.aa = true := decide_eq_true (by assumption))
  | (have hpl : gF c.aa = false := decide_eq_false (by assumption))
  | (have hpl : gF c.aa = gF c.aa := rfl)
  unfold Cu.d9 Cu.fi
  try rw [hpl]
  repeat (first | rw [if_pos (by first | rfl | omega)] | rw [if_neg (by first | exact Bool.false_ne_true | omega)])
  refine ah.mk [] ?_ <;> (repeat' first | trivial | apply ak | apply aJ)
 all_goals (try rw [su, List.append_nil])
def uN : Sm := fun args σ => match args, σ with
 | [.ptr 0 0], [.cells [.ptr 1 0, .buf 2], .cells ([.str s_c, .int .i64 (.ofNat a_c), .int .i64 (.ofNat e_c), .int .i64 c_c]), .buf 1 0 o] => some (True ∧ ((Cu.mk s_c a_c e_c c_c).ok ∧ o.length ≤ 2000000000), .tuple [], some [.cells [.ptr 1 0, .buf 2], .cells (eC (Cu.mk s_c a_c e_c c_c).d9), .buf 1 0 (o ++ bl (Cu.mk s_c a_c e_c c_c).fi)])
 | _, _ => none
theorem EP : aI 77 uN := by
 intro args sg pre x r he hp
 unfold uN at he
 split at he <;> cases he
 . rw [bW (hp).1]; exact D2 (hp := hp.2) ..
theorem zT {n : Nat} {d : Cu} {s : List UInt8} (h : n = 0 ∨ ¬ (d.c = 0 ∧ d.p < d.e) ∨ ¬ d.aa.toNat / 64 * 64 = 128) : cr n d s = (d, s) := by
 cases n with
 | zero => rw [cr]
 | succ n =>
   rw [cr, if_neg]
   rw [ff]; omega
theorem zQ {n : Nat} {d : Cu} {s : List UInt8} (h0 : 0 < n) (h : d.c = 0 ∧ d.p < d.e) (h2 : d.aa.toNat / 64 * 64 = 128) : cr n d s = cr (n - 1) d.byte (s ++ [d.aa]) := by
 cases n with
 | zero => omega
 | succ n =>
   rw [cr, if_pos ⟨h.1, h.2, by rw [ff]; have := d.aa.toNat_lt; omega⟩]; rfl
def rawI (b : UInt8) (o : List V) (c : Cu) : Unit ⊕ (Nat × Cu × List UInt8) → AS
 | .inl _ => ⟨55, [(0, .ptr 0 0), (1, bv b), (4, .list true 1 [bv b]), (10, .int .i64 (bV b)), (11, .int .i64 0)], [.cells [.ptr 1 0, .buf 2], .cells (eC c), .buf 1 0 o], []⟩
 | .inr (k, d, s) => ⟨55, [(0, .ptr 0 0), (1, bv b), (4, .buf 3), (10, .int .i64 (bV b)), (11, .int .i64 k)], [.cells [.ptr 1 0, .buf 2], .cells (eC d), .buf 1 0 o, .buf 1 0 (bl s)], [3]⟩
def H0 (b : UInt8) (c : Cu) : Unit ⊕ (Nat × Cu × List UInt8) → Prop
 | .inl _ => True
 | .inr (k, d, s) => 1 ≤ k ∧ k ≤ bV b ∧ d.ok ∧ s.length ≤ k + 1 ∧ cr (bV b - k) d s = cr (bV b) c [b]
def rawM (b : UInt8) : Unit ⊕ (Nat × Cu × List UInt8) → Nat
 | .inl _ => bV b
 | .inr (k, _, _) => bV b - k
theorem D8 (c : Cu) (o : List V) (b : UInt8) (hp : c.ok ∧ o.length ≤ 2000000000) : OK 78 ([.ptr 0 0, bv b]) ([.cells [.ptr 1 0, .buf 2], .cells (eC c), .buf 1 0 o]) (.tuple []) (some [.cells [.ptr 1 0, .buf 2], .cells (eC (c.dK b)), .buf 1 0 (o ++ bl (c.fQ b))]) := by
 refine az (C := cx [(95, uV), (43, kW), (44, iw), (96, vh), (49, iU)]) (ax ⟨EY, na, ja, Fb, jF, trivial⟩) (fn := Try.f78) rfl rfl rfl rfl fun hw hs => ?_
 obtain ⟨hp, ho⟩ := hp
 have hb : b.toNat < 256 := b.toNat_lt
 have hbb : byte b.toNat = b := cF _
 have ht := Ax b
 repeat' ((conv => whnf); apply al)
 all_goals try conv => whnf
 all_goals try (refine af.mk ?_; try dsimp only)
 all_goals first | refine stay ?_ | (simp (discharger := omega) [-List.getD_eq_getElem?_getD, wR] <;> omega) | skip
 rw [hbb]
 refine cg.mk _ (H0 b c) (rawI b o c) (rawM b) [] (.inl ()) trivial ?_ (fun x hx _ _ => ?_)
 . refine Go.VG.Sub.mk rfl ?_ ?_ ?_ ?_ <;> (repeat' first | trivial)
 match x, hx with
 | .inl _, _ =>
   have hc := c.aa.toNat_lt
   have h192 := sn _ hc
   repeat' ((conv => whnf); first | apply al | apply bh | (apply ay <;> intro h) | apply goJ)
   all_goals try conv => whnf
   all_goals try (refine af.mk ?_; try dsimp only)
   all_goals (try simp only [h192] at *)
   all_goals (try simp only [aO] at *)
   all_goals first | refine stay ?_ | trivial | omega | (simp only [cD]; omega) | (simp (discharger := omega) [-List.getD_eq_getElem?_getD, wR] <;> omega) | skip
   . refine ⟨[], .inr (1, c.byte, [b, c.aa]), ⟨by omega, by omega, dx hp, by simp, ?_⟩, ?_, by show bV b - 1 < bV b; omega⟩
     . exact (zQ (n := bV b) (d := c) (s := [b]) (by omega) (by assumption) (by omega)).symm
     . refine Go.VG.Sub.mk rfl ?_ ?_ ?_ ?_ <;> (repeat' first | trivial)
   all_goals
    have he : cr (bV b) c [b] = (c, [b]) := zT (by omega)
    unfold Cu.dK Cu.fQ
    rw [he]
    first | rw [if_pos (by simp only [hbb] at *; omega), if_pos (by simp only [hbb] at *; omega)] | rw [if_neg (by simp only [hbb] at *; omega), if_neg (by simp only [hbb] at *; omega)]
    refine ah.mk [] ?_ <;> (repeat' first | trivial | apply ak | apply aJ)
   all_goals (try rw [su, List.append_nil])
 | .inr (k, d, s), ⟨hk, hk2, hd, hs2, he⟩ =>
   have hc := d.aa.toNat_lt
   have h192 := sn _ hc
   repeat' ((conv => whnf); first | apply al | apply bh | (apply ay <;> intro h) | apply kG)
   all_goals try conv => whnf
   all_goals try (refine af.mk ?_; try dsimp only)
   all_goals (try simp only [h192] at *)
   all_goals (try simp only [aO] at *)
   all_goals first | refine stay ?_ | trivial | omega | (simp only [cD]; omega) | skip
   . refine ⟨[], .inr (k + 1, d.byte, s ++ [d.aa]), ⟨by omega, by omega, dx hd, by simp; omega, ?_⟩, ?_, by show bV b - (k + 1) < bV b - k; omega⟩
     . have e := zQ (n := bV b - k) (d := d) (s := s) (by omega) (by assumption) (by omega)
       rw [← he, e, show bV b - k - 1 = bV b - (k + 1) by omega]
     . refine Go.VG.Sub.mk rfl ?_ ?_ ?_ ?_ <;> (repeat' first | trivial | apply ak | apply cw | apply aJ)
       . (simp (discharger := omega) only [wR]; omega)
       . rw [bz]; rfl
   all_goals
    rw [zT (by omega)] at he
    unfold Cu.dK Cu.fQ
    rw [← he]
    first | rw [if_pos (by omega), if_pos (by omega)] | rw [if_neg (by omega), if_neg (by omega)]
    refine ah.mk [] ?_ <;> (repeat' first | trivial | apply ak | apply aJ)
   all_goals (try rw [su, List.append_nil])
def uT : Sm := fun args σ => match args, σ with
 | [.ptr 0 0, .int .u8 n_b], [.cells [.ptr 1 0, .buf 2], .cells ([.str s_c, .int .i64 (.ofNat a_c), .int .i64 (.ofNat e_c), .int .i64 c_c]), .buf 1 0 o] => some ((0 ≤ n_b ∧ n_b ≤ 255) ∧ (True ∧ ((Cu.mk s_c a_c e_c c_c).ok ∧ o.length ≤ 2000000000)), .tuple [], some [.cells [.ptr 1 0, .buf 2], .cells (eC ((Cu.mk s_c a_c e_c c_c).dK (byte n_b))), .buf 1 0 (o ++ bl ((Cu.mk s_c a_c e_c c_c).fQ (byte n_b)))])
 | _, _ => none
theorem EW : aI 78 uT := by
 intro args sg pre x r he hp
 unfold uT at he
 split at he <;> cases he
 . rw [eK (hp).1]; rw [bW (hp.2).1]; exact D8 (hp := hp.2.2) ..
end Go.Proofs.Ytllncocibkgjkaa
namespace Go.Proofs.Ytllncocibkgjkaa
open Go Go.VG
set_option maxRecDepth 100000
def Cu.le (c d : Cu) : Prop := d.s = c.s ∧ d.e = c.e ∧ c.p ≤ d.p
theorem le_trans {c d f : Cu} (h : c.le d) (k : d.le f) : c.le f := ⟨k.1.trans h.1, k.2.1.trans h.2.1, Nat.le_trans h.2.2 k.2.2⟩
theorem le_refl (c : Cu) : c.le c := ⟨rfl, rfl, Nat.le_refl _⟩
theorem jG (c : Cu) (k : Int) : c.le (c.fail k) := by unfold Cu.fail; split <;> exact ⟨rfl, rfl, Nat.le_refl _⟩
theorem Fz (c : Cu) (n : Int) : c.le (c.pass n) := by
 unfold Cu.pass; repeat' split
 all_goals (refine ⟨rfl, rfl, ?_⟩; (try dsimp only); omega)
theorem dI (c : Cu) : c.le c.byte := Fz c 1
theorem yK (c : Cu) : c.le c.dW := by
 unfold Cu.dW; split
 . exact dI c
 . exact le_trans (dI c) (jG _ _)
theorem yJ : ∀ (k : Nat) (c : Cu) (u : Int), c.le (da k c u).1
 | 0, c, _ => by rw [da]; exact le_refl c
 | k + 1, c, u => by
   rw [da]; split
   . exact yK c
   . exact le_trans (yK c) (yJ k _ _)
theorem yI (c : Cu) : c.le c.four.1 := yJ 4 c 0
theorem yL (c : Cu) (b : UInt8) : c.le (c.bT b) := by
 unfold Cu.bT; split
 . exact dI c
 . exact le_trans (dI c) (jG _ _)
theorem Fy (c : Cu) : c.le c.number.1 := by
 have h1 := yI c
 have h2 := le_trans (le_trans (le_trans h1 (yL _ 92)) (yL _ 117)) (yI _)
 unfold Cu.number
 repeat' split
 . exact h1
 . exact le_trans h1 (jG _ _)
 . exact le_trans h2 (jG _ _)
 . exact h2
theorem tG (c : Cu) : c.le c.d9 := by
 unfold Cu.d9; repeat' split
 . exact le_trans (dI c) (Fy _)
 . exact dI c
 . exact le_trans (dI c) (jG _ _)
theorem tI : ∀ (k : Nat) (c : Cu) (s : List UInt8), c.le (cr k c s).1
 | 0, c, _ => by rw [cr]; exact le_refl c
 | k + 1, c, s => by
   rw [cr]; split
   . exact le_trans (dI c) (tI k _ _)
   . exact le_refl c
theorem tH (c : Cu) (b : UInt8) : c.le (c.dK b) := by
 unfold Cu.dK; split
 . exact le_trans (tI _ _ _) (jG _ _)
 . exact tI _ _ _
theorem sS (c : Cu) : c.fi.length ≤ 4 := by
 unfold Cu.fi; repeat' split
 . exact (rT _).2
 all_goals simp
theorem uh (c : Cu) (b : UInt8) : (c.fQ b).length ≤ 4 := by
 have := zR (bV b) c [b]
 have := Ax b
 unfold Cu.fQ; split
 . simp
 . simp at this ⊢; simp_all; omega
def eG : Nat → Cu → List UInt8 → Cu × List UInt8
 | 0, c, _ => (c, [])
 | n + 1, c, o =>
   if c.c ≠ 0 then (c, [])
   else if c.byte.c ≠ 0 then eG n c.byte o
   else if c.aa.toNat = 34 then (c.byte, o)
   else if c.aa.toNat < 32 then eG n (c.byte.fail 3) o
   else if c.aa.toNat = 92 then eG n c.byte.d9 (o ++ c.byte.fi)
   else eG n (c.byte.dK c.aa) (o ++ c.byte.fQ c.aa)
termination_by n => n
def Cu.mu (c : Cu) : Nat := if c.c ≠ 0 then 0 else c.e - c.p + 1
def Cu.start (c : Cu) : Cu := if (c.c = 0 ∧ c.p < c.e) ∧ c.aa.toNat ≠ 34 then c.fail 3 else c
def Cu.read (c : Cu) : Cu × List UInt8 := eG (c.start.byte.mu + 1) c.start.byte []
theorem I5 {c : Cu} (h : c.ok) : c.start.ok := by unfold Cu.start; split; exact (dV h 3).1; exact h
theorem qc {c : Cu} (h : c.ok) (h0 : c.c = 0) (h1 : c.byte.c = 0) : c.byte.p = c.p + 1 := by
 unfold Cu.byte Cu.pass at h1 ⊢
 obtain ⟨a, b⟩ := h
 rw [if_neg (by omega), if_neg (by omega)] at h1 ⊢
 split at h1
 . cases h1
 . rename_i q; rw [if_neg q]; rfl
theorem jI {c d : Cu} (h : c.ok) (h0 : c.c = 0) (h1 : c.byte.c = 0) (hd : c.byte.le d) (k : d.ok) : d.mu < c.mu := by
 have := qc h h0 h1
 have e1 := (dI c).2.1
 obtain ⟨d1, d2, d3⟩ := hd
 obtain ⟨k1, k2⟩ := k
 unfold Cu.mu
 rw [if_neg (show ¬ c.c ≠ 0 by omega)]
 split <;> omega
theorem tO {c d : Cu} (h0 : c.c = 0) (h1 : d.c ≠ 0) : d.mu < c.mu := by
 unfold Cu.mu; rw [if_pos h1, if_neg (by omega)]; omega
theorem D9 (c : Cu) (hp : c.ok ∧ c.s.length ≤ 100000000) : OK 45 ([.ptr 0 0]) ([.cells (eC c)]) (.str c.read.2) (some [.cells (eC c.read.1)]) := by
 refine az (C := cx [(43, kW), (49, iU), (44, iw), (21, iy), (77, uN), (78, uT)]) (ax ⟨na, jF, ja, jb, EP, EW, trivial⟩) (fn := Try.f45) rfl rfl rfl rfl fun hw hs => ?_
 obtain ⟨hp, hl⟩ := hp
 have hb : c.aa.toNat < 256 := c.aa.toNat_lt
 have k1 := I5 hp
 have k2 := dx k1
 have k3 := dx (dV hp 3).1
 repeat' ((conv => whnf); first | apply al | apply bh | (apply ay <;> intro h))
 all_goals try conv => whnf
 all_goals try (refine af.mk ?_; try dsimp only)
 all_goals (try simp only [aO] at *)
 all_goals first | refine stay ?_ | trivial | skip
 . have hst : c.start = c := by unfold Cu.start; rw [if_neg (by omega)]
   refine cg.mk (Nat × Cu × List UInt8) (fun | (n, d, o) => d.ok ∧ d.s = c.s ∧ d.mu < n ∧ o.length ≤ 4 * d.p ∧ eG n d o = c.read) (fun | (n, d, o) => ⟨54, [(0, .ptr 0 0), (5, .ptr 1 0)], [.cells (eC d), .cells [.ptr 0 0, .buf 2], .buf 1 0 (bl o)], [2]⟩) (fun x => x.1) [.cell 1 1 1] (c.start.byte.mu + 1, c.start.byte, [])
    ⟨k2, by first | (rw [(dI _).1, hst]; done) | (rw [(dI _).1, hst]; exact (dV hp 3).2.1), by omega, by simp, rfl⟩ ?_ (fun ⟨n, d, o⟩ ⟨hd, hds, hm, ho, he⟩ _ _ => ?_)
   . rw [hst]
     refine Go.VG.Sub.mk rfl ?_ ?_ ?_ ?_ <;> (repeat' first | trivial)
   have hdb := dx hd
   have hd1 := hd.1
   have hd2 := hd.2
   have hb := d.aa.toNat_lt
   obtain ⟨n, rfl⟩ : ∃ m, n = m + 1 := ⟨n - 1, by omega⟩
   rw [eG] at he
   have hsl : d.s.length ≤ 100000000 := by rw [hds]; exact hl
   have hbl := cE o
   have n1 := fun h0 h1 => qc hd h0 h1
   have m0 := fun h0 h1 => tO (c := d) (d := d.byte) h0 h1
   have lf := jG d.byte 3
   have m1 := fun h0 h1 => jI hd h0 h1 lf (dV hdb 3).1
   have le := tG d.byte
   have m2 := fun h0 h1 => jI hd h0 h1 le (ly hdb)
   have lr := tH d.byte d.aa
   have m3 := fun h0 h1 => jI hd h0 h1 lr (lZ hdb _)
   have q1 := sS d.byte
   have q2 := uh d.byte d.aa
   have hds2 : d.byte.s = c.s := (dI d).1.trans hds
   have hp2 := (dI d).2.2
   have hvb : byte d.aa.toNat = d.aa := cF _
   repeat' ((conv => whnf); first | apply al | apply bh | (apply ay <;> intro h) | apply kG)
   all_goals try conv => whnf
   all_goals try (refine af.mk ?_; try dsimp only)
   all_goals (try simp only [aO] at *)
   all_goals first | refine stay ?_ | trivial | skip
   all_goals (try simp only [hvb] at *)
   all_goals (repeat (first | rw [if_pos (by omega)] at he | rw [if_neg (by omega)] at he))
   all_goals first
    | (show ah _ _ _ _ _ _
       rw [← he]
       refine ah.mk [] ?_ <;> (repeat' first | trivial)
       done)
    | (refine ⟨trivial, hdb, ?_⟩; omega)
    | (refine ⟨by omega, trivial, hdb, ?_⟩; omega)
    | skip
   . refine ⟨[], (n, d.byte.fail 3, o), ⟨(dV hdb 3).1, lf.1.trans hds2, ?_, ?_, he⟩, ?_, by show n < n + 1; omega⟩
     . have := m1 (by omega) (by omega)
       show (d.byte.fail 3).mu < n; omega
     . have := lf.2.2
       show o.length ≤ 4 * (d.byte.fail 3).p; omega
     . refine Go.VG.Sub.mk rfl ?_ ?_ ?_ ?_ <;> (repeat' first | trivial)
   . refine ⟨[], (n, d.byte.d9, o ++ d.byte.fi), ⟨ly hdb, le.1.trans hds2, ?_, ?_, he⟩, ?_, by show n < n + 1; omega⟩
     . have := m2 (by omega) (by omega)
       show d.byte.d9.mu < n; omega
     . have := le.2.2; have := n1 (by omega) (by omega)
       show (o ++ d.byte.fi).length ≤ 4 * d.byte.d9.p
       rw [List.length_append]; omega
     . refine Go.VG.Sub.mk rfl ?_ ?_ ?_ ?_ <;> (repeat' first | trivial | apply ak | apply aJ)
       rw [bz]
   . refine ⟨[], (n, d.byte.dK d.aa, o ++ d.byte.fQ d.aa), ⟨lZ hdb _, lr.1.trans hds2, ?_, ?_, he⟩, ?_, by show n < n + 1; omega⟩
     . have := m3 (by omega) (by omega)
       show (d.byte.dK d.aa).mu < n; omega
     . have := lr.2.2; have := n1 (by omega) (by omega)
       show (o ++ d.byte.fQ d.aa).length ≤ 4 * (d.byte.dK d.aa).p
       rw [List.length_append]; omega
     . refine Go.VG.Sub.mk rfl ?_ ?_ ?_ ?_ <;> (repeat' first | trivial | apply ak | apply aJ)
       rw [bz]
   . refine ⟨[], (n, d.byte, o), ⟨hdb, hds2, ?_, by show o.length ≤ 4 * d.byte.p; omega, he⟩, ?_, by show n < n + 1; omega⟩
     . have := m0 (by omega) (by omega)
       show d.byte.mu < n; omega
     . refine Go.VG.Sub.mk rfl ?_ ?_ ?_ ?_ <;> (repeat' first | trivial)
 . exact ⟨trivial, (dV hp 3).1⟩
 . have hst : c.start = c.fail 3 := by unfold Cu.start; rw [if_pos ⟨by assumption, by omega⟩]
   refine cg.mk (Nat × Cu × List UInt8) (fun | (n, d, o) => d.ok ∧ d.s = c.s ∧ d.mu < n ∧ o.length ≤ 4 * d.p ∧ eG n d o = c.read) (fun | (n, d, o) => ⟨54, [(0, .ptr 0 0), (5, .ptr 1 0)], [.cells (eC d), .cells [.ptr 0 0, .buf 2], .buf 1 0 (bl o)], [2]⟩) (fun x => x.1) [.cell 1 1 1] (c.start.byte.mu + 1, c.start.byte, [])
    ⟨k2, by first | (rw [(dI _).1, hst]; done) | (rw [(dI _).1, hst]; exact (dV hp 3).2.1), by omega, by simp, rfl⟩ ?_ (fun ⟨n, d, o⟩ ⟨hd, hds, hm, ho, he⟩ _ _ => ?_)
   . rw [hst]
     refine Go.VG.Sub.mk rfl ?_ ?_ ?_ ?_ <;> (repeat' first | trivial)
   have hdb := dx hd
   have hd1 := hd.1
   have hd2 := hd.2
   have hb := d.aa.toNat_lt
   obtain ⟨n, rfl⟩ : ∃ m, n = m + 1 := ⟨n - 1, by omega⟩
   rw [eG] at he
   have hsl : d.s.length ≤ 100000000 := by rw [hds]; exact hl
   have hbl := cE o
   have n1 := fun h0 h1 => qc hd h0 h1
   have m0 := fun h0 h1 => tO (c := d) (d := d.byte) h0 h1
   have lf := jG d.byte 3
   have m1 := fun h0 h1 => jI hd h0 h1 lf (dV hdb 3).1
   have le := tG d.byte
   have m2 := fun h0 h1 => jI hd h0 h1 le (ly hdb)
   have lr := tH d.byte d.aa
   have m3 := fun h0 h1 => jI hd h0 h1 lr (lZ hdb _)
   have q1 := sS d.byte
   have q2 := uh d.byte d.aa
   have hds2 : d.byte.s = c.s := (dI d).1.trans hds
   have hp2 := (dI d).2.2
   have hvb : byte d.aa.toNat = d.aa := cF _
   repeat' ((conv => whnf); first | apply al | apply bh | (apply ay <;> intro h) | apply kG)
   all_goals try conv => whnf
   all_goals try (refine af.mk ?_; try dsimp only)
   all_goals (try simp only [aO] at *)
   all_goals first | refine stay ?_ | trivial | skip
   all_goals (try simp only [hvb] at *)
   all_goals (repeat (first | rw [if_pos (by omega)] at he | rw [if_neg (by omega)] at he))
   all_goals first
    | (show ah _ _ _ _ _ _
       rw [← he]
       refine ah.mk [] ?_ <;> (repeat' first | trivial)
       done)
    | (refine ⟨trivial, hdb, ?_⟩; omega)
    | (refine ⟨by omega, trivial, hdb, ?_⟩; omega)
    | skip
   . refine ⟨[], (n, d.byte.fail 3, o), ⟨(dV hdb 3).1, lf.1.trans hds2, ?_, ?_, he⟩, ?_, by show n < n + 1; omega⟩
     . have := m1 (by omega) (by omega)
       show (d.byte.fail 3).mu < n; omega
     . have := lf.2.2
       show o.length ≤ 4 * (d.byte.fail 3).p; omega
     . refine Go.VG.Sub.mk rfl ?_ ?_ ?_ ?_ <;> (repeat' first | trivial)
   . refine ⟨[], (n, d.byte.d9, o ++ d.byte.fi), ⟨ly hdb, le.1.trans hds2, ?_, ?_, he⟩, ?_, by show n < n + 1; omega⟩
     . have := m2 (by omega) (by omega)
       show d.byte.d9.mu < n; omega
     . have := le.2.2; have := n1 (by omega) (by omega)
       show (o ++ d.byte.fi).length ≤ 4 * d.byte.d9.p
       rw [List.length_append]; omega
     . refine Go.VG.Sub.mk rfl ?_ ?_ ?_ ?_ <;> (repeat' first | trivial | apply ak | apply aJ)
       rw [bz]
   . refine ⟨[], (n, d.byte.dK d.aa, o ++ d.byte.fQ d.aa), ⟨lZ hdb _, lr.1.trans hds2, ?_, ?_, he⟩, ?_, by show n < n + 1; omega⟩
     . have := m3 (by omega) (by omega)
       show (d.byte.dK d.aa).mu < n; omega
     . have := lr.2.2; have := n1 (by omega) (by omega)
       show (o ++ d.byte.fQ d.aa).length ≤ 4 * (d.byte.dK d.aa).p
       rw [List.length_append]; omega
     . refine Go.VG.Sub.mk rfl ?_ ?_ ?_ ?_ <;> (repeat' first | trivial | apply ak | apply aJ)
       rw [bz]
   . refine ⟨[], (n, d.byte, o), ⟨hdb, hds2, ?_, by show o.length ≤ 4 * d.byte.p; omega, he⟩, ?_, by show n < n + 1; omega⟩
     . have := m0 (by omega) (by omega)
       show d.byte.mu < n; omega
     . refine Go.VG.Sub.mk rfl ?_ ?_ ?_ ?_ <;> (repeat' first | trivial)
 . have hst : c.start = c := by unfold Cu.start; rw [if_neg (fun h => by have := h.1; omega)]
   refine cg.mk (Nat × Cu × List UInt8) (fun | (n, d, o) => d.ok ∧ d.s = c.s ∧ d.mu < n ∧ o.length ≤ 4 * d.p ∧ eG n d o = c.read) (fun | (n, d, o) => ⟨54, [(0, .ptr 0 0), (5, .ptr 1 0)], [.cells (eC d), .cells [.ptr 0 0, .buf 2], .buf 1 0 (bl o)], [2]⟩) (fun x => x.1) [.cell 1 1 1] (c.start.byte.mu + 1, c.start.byte, [])
    ⟨k2, by first | (rw [(dI _).1, hst]; done) | (rw [(dI _).1, hst]; exact (dV hp 3).2.1), by omega, by simp, rfl⟩ ?_ (fun ⟨n, d, o⟩ ⟨hd, hds, hm, ho, he⟩ _ _ => ?_)
   . rw [hst]
     refine Go.VG.Sub.mk rfl ?_ ?_ ?_ ?_ <;> (repeat' first | trivial)
   have hdb := dx hd
   have hd1 := hd.1
   have hd2 := hd.2
   have hb := d.aa.toNat_lt
   obtain ⟨n, rfl⟩ : ∃ m, n = m + 1 := ⟨n - 1, by omega⟩
   rw [eG] at he
   have hsl : d.s.length ≤ 100000000 := by rw [hds]; exact hl
   have hbl := cE o
   have n1 := fun h0 h1 => qc hd h0 h1
   have m0 := fun h0 h1 => tO (c := d) (d := d.byte) h0 h1
   have lf := jG d.byte 3
   have m1 := fun h0 h1 => jI hd h0 h1 lf (dV hdb 3).1
   have le := tG d.byte
   have m2 := fun h0 h1 => jI hd h0 h1 le (ly hdb)
   have lr := tH d.byte d.aa
   have m3 := fun h0 h1 => jI hd h0 h1 lr (lZ hdb _)
   have q1 := sS d.byte
   have q2 := uh d.byte d.aa
   have hds2 : d.byte.s = c.s := (dI d).1.trans hds
   have hp2 := (dI d).2.2
   have hvb : byte d.aa.toNat = d.aa := cF _
   repeat' ((conv => whnf); first | apply al | apply bh | (apply ay <;> intro h) | apply kG)
   all_goals try conv => whnf
   all_goals try (refine af.mk ?_; try dsimp only)
   all_goals (try simp only [aO] at *)
   all_goals first | refine stay ?_ | trivial | skip
   all_goals (try simp only [hvb] at *)
   all_goals (repeat (first | rw [if_pos (by omega)] at he | rw [if_neg (by omega)] at he))
   all_goals first
    | (show ah _ _ _ _ _ _
       rw [← he]
       refine ah.mk [] ?_ <;> (repeat' first | trivial)
       done)
    | (refine ⟨trivial, hdb, ?_⟩; omega)
    | (refine ⟨by omega, trivial, hdb, ?_⟩; omega)
    | skip
   . refine ⟨[], (n, d.byte.fail 3, o), ⟨(dV hdb 3).1, lf.1.trans hds2, ?_, ?_, he⟩, ?_, by show n < n + 1; omega⟩
     . have := m1 (by omega) (by omega)
       show (d.byte.fail 3).mu < n; omega
     . have := lf.2.2
       show o.length ≤ 4 * (d.byte.fail 3).p; omega
     . refine Go.VG.Sub.mk rfl ?_ ?_ ?_ ?_ <;> (repeat' first | trivial)
   . refine ⟨[], (n, d.byte.d9, o ++ d.byte.fi), ⟨ly hdb, le.1.trans hds2, ?_, ?_, he⟩, ?_, by show n < n + 1; omega⟩
     . have := m2 (by omega) (by omega)
       show d.byte.d9.mu < n; omega
     . have := le.2.2; have := n1 (by omega) (by omega)
       show (o ++ d.byte.fi).length ≤ 4 * d.byte.d9.p
       rw [List.length_append]; omega
     . refine Go.VG.Sub.mk rfl ?_ ?_ ?_ ?_ <;> (repeat' first | trivial | apply ak | apply aJ)
       rw [bz]
   . refine ⟨[], (n, d.byte.dK d.aa, o ++ d.byte.fQ d.aa), ⟨lZ hdb _, lr.1.trans hds2, ?_, ?_, he⟩, ?_, by show n < n + 1; omega⟩
     . have := m3 (by omega) (by omega)
       show (d.byte.dK d.aa).mu < n; omega
     . have := lr.2.2; have := n1 (by omega) (by omega)
       show (o ++ d.byte.fQ d.aa).length ≤ 4 * (d.byte.dK d.aa).p
       rw [List.length_append]; omega
     . refine Go.VG.Sub.mk rfl ?_ ?_ ?_ ?_ <;> (repeat' first | trivial | apply ak | apply aJ)
       rw [bz]
   . refine ⟨[], (n, d.byte, o), ⟨hdb, hds2, ?_, by show o.length ≤ 4 * d.byte.p; omega, he⟩, ?_, by show n < n + 1; omega⟩
     . have := m0 (by omega) (by omega)
       show d.byte.mu < n; omega
     . refine Go.VG.Sub.mk rfl ?_ ?_ ?_ ?_ <;> (repeat' first | trivial)
def uU : Sm := fun args σ => match args, σ with
 | [.ptr 0 0], [.cells ([.str s_c, .int .i64 (.ofNat a_c), .int .i64 (.ofNat e_c), .int .i64 c_c])] => some (True ∧ ((Cu.mk s_c a_c e_c c_c).ok ∧ (Cu.mk s_c a_c e_c c_c).s.length ≤ 100000000), .str (Cu.mk s_c a_c e_c c_c).read.2, some [.cells (eC (Cu.mk s_c a_c e_c c_c).read.1)])
 | _, _ => none
theorem EX : aI 45 uU := by
 intro args sg pre x r he hp
 unfold uU at he
 split at he <;> cases he
 . rw [bW (hp).1]; exact D9 (hp := hp.2) ..
end Go.Proofs.Ytllncocibkgjkaa
