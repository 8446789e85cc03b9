/-
  A part of the proof.
-/
import Derived.Test.YtllncocibkgjkaaGreatJSp
set_option linter.unusedSimpArgs false
set_option linter.unusedVariables false
set_option maxHeartbeats 4000000
namespace Go.Proofs.YtllncocibkgjkaaGreat
open Go Go.VG
set_option maxRecDepth 100000
theorem ua : bl [] = [] := rfl
theorem FR (c : Cu) (o : List V) (hp : c.ok ∧ o.length ≤ 2000000000) : OK 124 ([.ptr 0 0]) ([.cells [.ptr 1 0, .buf 2], .cells (eC c), .buf 1 0 o]) (.tuple []) (some [.cells [.ptr 1 0, .buf 2], .cells (eC c.dG), .buf 1 0 (o ++ bl c.g8)]) := by
 refine au (C := cx [(98, j7), (131, x9), (73, j8), (132, xS), (133, xa), (104, jt)]) (aq ⟨jQ, Ib, jR, J1, Ic, kC, trivial⟩) (fn := Tryz.f124) rfl rfl rfl rfl fun hw hs => ?_
 obtain ⟨hp, ho⟩ := hp
 have h1 := eu hp
 have h2 := BI h1
 have hb : c.ai.toNat < 256 := c.ai.toNat_lt
 have hbb : byte c.ai.toNat = c.ai := cg _
 repeat' ((conv => whnf); first | apply ak | apply aW | (apply al <;> intro h))
 all_goals try conv => whnf
 all_goals try (refine a9.mk ?_; try dsimp only)
 all_goals (try simp only [aK] at *)
 all_goals first | refine stay ?_ | trivial | (simp only [ig]; omega) | (simp (discharger := omega) [-List.getD_eq_getElem?_getD, wR] <;> omega) | skip
 all_goals (try simp only [hbb] at *)
 all_goals first
  | exact ⟨JP (by assumption), by omega⟩
  | skip
 all_goals
  first
  | (have hpl : eO c.ai = true := decide_eq_true (by assumption))
  | (have hpl : eO c.ai = false := decide_eq_false (by assumption))
  | (have hpl : eO c.ai = eO c.ai := rfl)
  unfold Cu.dG Cu.g8
  try rw [hpl]
  repeat (first | rw [if_pos (by first | rfl | omega)] | rw [if_neg (by first | exact Bool.false_ne_true | omega)])
  refine a8.mk [] ?_ <;> (repeat' first | trivial | apply ae | apply br)
 all_goals (try rw [ua, List.append_nil])
def wY : Sm := fun args σ => match args, σ with
 | [.ptr 0 0], [.cells [.ptr 1 0, .buf 2], .cells ([.str s_c, .int .i64 (.ofNat a_c), .int .i64 (.ofNat e_c), .int .i64 c_c]), .buf 1 0 o] => some (True ∧ ((Cu.mk s_c a_c e_c c_c).ok ∧ o.length ≤ 2000000000), .tuple [], some [.cells [.ptr 1 0, .buf 2], .cells (eC (Cu.mk s_c a_c e_c c_c).dG), .buf 1 0 (o ++ bl (Cu.mk s_c a_c e_c c_c).g8)])
 | _, _ => none
theorem I7 : aw 124 wY := by
 intro args sg pre x r he hp
 unfold wY at he
 split at he <;> cases he
 . rw [c7 (hp).1]; exact FR (hp := hp.2) ..
theorem C8 {n : Nat} {d : Cu} {s : List UInt8} (h : n = 0 ∨ ¬ (d.c = 0 ∧ d.p < d.e) ∨ ¬ d.ai.toNat / 64 * 64 = 128) : cV n d s = (d, s) := by
 cases n with
 | zero => rw [cV]
 | succ n =>
   rw [cV, if_neg]
   rw [hH]; omega
theorem C5 {n : Nat} {d : Cu} {s : List UInt8} (h0 : 0 < n) (h : d.c = 0 ∧ d.p < d.e) (h2 : d.ai.toNat / 64 * 64 = 128) : cV n d s = cV (n - 1) d.byte (s ++ [d.ai]) := by
 cases n with
 | zero => omega
 | succ n =>
   rw [cV, if_pos ⟨h.1, h.2, by rw [hH]; have := d.ai.toNat_lt; omega⟩]; rfl
def rawI (b : UInt8) (o : List V) (c : Cu) : Unit ⊕ (Nat × Cu × List UInt8) → AS
 | .inl _ => ⟨55, [(0, .ptr 0 0), (1, bv b), (4, .list true 1 [bv b]), (10, .int .i64 (cE b)), (11, .int .i64 0)], [.cells [.ptr 1 0, .buf 2], .cells (eC c), .buf 1 0 o], []⟩
 | .inr (k, d, s) => ⟨55, [(0, .ptr 0 0), (1, bv b), (4, .buf 3), (10, .int .i64 (cE b)), (11, .int .i64 k)], [.cells [.ptr 1 0, .buf 2], .cells (eC d), .buf 1 0 o, .buf 1 0 (bl s)], [3]⟩
def Ky (b : UInt8) (c : Cu) : Unit ⊕ (Nat × Cu × List UInt8) → Prop
 | .inl _ => True
 | .inr (k, d, s) => 1 ≤ k ∧ k ≤ cE b ∧ d.ok ∧ s.length ≤ k + 1 ∧ cV (cE b - k) d s = cV (cE b) c [b]
def rawM (b : UInt8) : Unit ⊕ (Nat × Cu × List UInt8) → Nat
 | .inl _ => cE b
 | .inr (k, _, _) => cE b - k
theorem FY (c : Cu) (o : List V) (b : UInt8) (hp : c.ok ∧ o.length ≤ 2000000000) : OK 125 ([.ptr 0 0, bv b]) ([.cells [.ptr 1 0, .buf 2], .cells (eC c), .buf 1 0 o]) (.tuple []) (some [.cells [.ptr 1 0, .buf 2], .cells (eC (c.eP b)), .buf 1 0 (o ++ bl (c.gK b))]) := by
 refine au (C := cx [(134, xd), (96, me), (98, j7), (135, xN), (104, jt)]) (aq ⟨Ih, oy, jQ, IX, kC, trivial⟩) (fn := Tryz.f125) rfl rfl rfl rfl fun hw hs => ?_
 obtain ⟨hp, ho⟩ := hp
 have hb : b.toNat < 256 := b.toNat_lt
 have hbb : byte b.toNat = b := cg _
 have ht := CP b
 repeat' ((conv => whnf); apply ak)
 all_goals try conv => whnf
 all_goals try (refine a9.mk ?_; try dsimp only)
 all_goals first | refine stay ?_ | (simp (discharger := omega) [-List.getD_eq_getElem?_getD, wR] <;> omega) | skip
 rw [hbb]
 refine aU.mk _ (Ky b c) (rawI b o c) (rawM b) [] (.inl ()) trivial ?_ (fun x hx _ _ => ?_)
 . refine Go.VG.Sub.mk rfl ?_ ?_ ?_ ?_ <;> (repeat' first | trivial)
 match x, hx with
 | .inl _, _ =>
   have hc := c.ai.toNat_lt
   have h192 := u6 _ hc
   repeat' ((conv => whnf); first | apply ak | apply aW | (apply al <;> intro h) | apply goJ)
   all_goals try conv => whnf
   all_goals try (refine a9.mk ?_; try dsimp only)
   all_goals (try simp only [h192] at *)
   all_goals (try simp only [aK] at *)
   all_goals first | refine stay ?_ | trivial | omega | (simp only [ig]; omega) | (simp (discharger := omega) [-List.getD_eq_getElem?_getD, wR] <;> omega) | skip
   . refine ⟨[], .inr (1, c.byte, [b, c.ai]), ⟨by omega, by omega, eu hp, by simp, ?_⟩, ?_, by show cE b - 1 < cE b; omega⟩
     . exact (C5 (n := cE b) (d := c) (s := [b]) (by omega) (by assumption) (by omega)).symm
     . refine Go.VG.Sub.mk rfl ?_ ?_ ?_ ?_ <;> (repeat' first | trivial)
   all_goals
    have he : cV (cE b) c [b] = (c, [b]) := C8 (by omega)
    unfold Cu.eP Cu.gK
    rw [he]
    first | rw [if_pos (by simp only [hbb] at *; omega), if_pos (by simp only [hbb] at *; omega)] | rw [if_neg (by simp only [hbb] at *; omega), if_neg (by simp only [hbb] at *; omega)]
    refine a8.mk [] ?_ <;> (repeat' first | trivial | apply ae | apply br)
   all_goals (try rw [ua, List.append_nil])
 | .inr (k, d, s), ⟨hk, hk2, hd, hs2, he⟩ =>
   have hc := d.ai.toNat_lt
   have h192 := u6 _ hc
   repeat' ((conv => whnf); first | apply ak | apply aW | (apply al <;> intro h) | apply og)
   all_goals try conv => whnf
   all_goals try (refine a9.mk ?_; try dsimp only)
   all_goals (try simp only [h192] at *)
   all_goals (try simp only [aK] at *)
   all_goals first | refine stay ?_ | trivial | omega | (simp only [ig]; omega) | skip
   . refine ⟨[], .inr (k + 1, d.byte, s ++ [d.ai]), ⟨by omega, by omega, eu hd, by simp; omega, ?_⟩, ?_, by show cE b - (k + 1) < cE b - k; omega⟩
     . have e := C5 (n := cE b - k) (d := d) (s := s) (by omega) (by assumption) (by omega)
       rw [← he, e, show cE b - k - 1 = cE b - (k + 1) by omega]
     . refine Go.VG.Sub.mk rfl ?_ ?_ ?_ ?_ <;> (repeat' first | trivial | apply ae | apply aI | apply br)
       . (simp (discharger := omega) only [wR]; omega)
       . rw [jC]; rfl
   all_goals
    rw [C8 (by omega)] at he
    unfold Cu.eP Cu.gK
    rw [← he]
    first | rw [if_pos (by omega), if_pos (by omega)] | rw [if_neg (by omega), if_neg (by omega)]
    refine a8.mk [] ?_ <;> (repeat' first | trivial | apply ae | apply br)
   all_goals (try rw [ua, List.append_nil])
def xb : Sm := fun args σ => match args, σ with
 | [.ptr 0 0, .int .u8 n_b], [.cells [.ptr 1 0, .buf 2], .cells ([.str s_c, .int .i64 (.ofNat a_c), .int .i64 (.ofNat e_c), .int .i64 c_c]), .buf 1 0 o] => some ((0 ≤ n_b ∧ n_b ≤ 255) ∧ (True ∧ ((Cu.mk s_c a_c e_c c_c).ok ∧ o.length ≤ 2000000000)), .tuple [], some [.cells [.ptr 1 0, .buf 2], .cells (eC ((Cu.mk s_c a_c e_c c_c).eP (byte n_b))), .buf 1 0 (o ++ bl ((Cu.mk s_c a_c e_c c_c).gK (byte n_b)))])
 | _, _ => none
theorem Ie : aw 125 xb := by
 intro args sg pre x r he hp
 unfold xb at he
 split at he <;> cases he
 . rw [eD (hp).1]; rw [c7 (hp.2).1]; exact FY (hp := hp.2.2) ..
end Go.Proofs.YtllncocibkgjkaaGreat
namespace Go.Proofs.YtllncocibkgjkaaGreat
open Go Go.VG
set_option maxRecDepth 100000
def Cu.le (c d : Cu) : Prop := d.s = c.s ∧ d.e = c.e ∧ c.p ≤ d.p
theorem le_trans {c d f : Cu} (h : c.le d) (k : d.le f) : c.le f := ⟨k.1.trans h.1, k.2.1.trans h.2.1, Nat.le_trans h.2.2 k.2.2⟩
theorem le_refl (c : Cu) : c.le c := ⟨rfl, rfl, Nat.le_refl _⟩
theorem kD (c : Cu) (k : Int) : c.le (c.fail k) := by unfold Cu.fail; split <;> exact ⟨rfl, rfl, Nat.le_refl _⟩
theorem Jh (c : Cu) (n : Int) : c.le (c.pass n) := by
 unfold Cu.pass; repeat' split
 all_goals (refine ⟨rfl, rfl, ?_⟩; (try dsimp only); omega)
theorem eK (c : Cu) : c.le c.byte := Jh c 1
theorem B3 (c : Cu) : c.le c.fk := by
 unfold Cu.fk; split
 . exact eK c
 . exact le_trans (eK c) (kD _ _)
theorem B1 : ∀ (k : Nat) (c : Cu) (u : Int), c.le (dI k c u).1
 | 0, c, _ => by rw [dI]; exact le_refl c
 | k + 1, c, u => by
   rw [dI]; split
   . exact B3 c
   . exact le_trans (B3 c) (B1 k _ _)
theorem B0 (c : Cu) : c.le c.four.1 := B1 4 c 0
theorem B4 (c : Cu) (b : UInt8) : c.le (c.cD b) := by
 unfold Cu.cD; split
 . exact eK c
 . exact le_trans (eK c) (kD _ _)
theorem Jf (c : Cu) : c.le c.number.1 := by
 have h1 := B0 c
 have h2 := le_trans (le_trans (le_trans h1 (B4 _ 92)) (B4 _ 117)) (B0 _)
 unfold Cu.number
 repeat' split
 . exact h1
 . exact le_trans h1 (kD _ _)
 . exact le_trans h2 (kD _ _)
 . exact h2
theorem vt (c : Cu) : c.le c.dG := by
 unfold Cu.dG; repeat' split
 . exact le_trans (eK c) (Jf _)
 . exact eK c
 . exact le_trans (eK c) (kD _ _)
theorem vv : ∀ (k : Nat) (c : Cu) (s : List UInt8), c.le (cV k c s).1
 | 0, c, _ => by rw [cV]; exact le_refl c
 | k + 1, c, s => by
   rw [cV]; split
   . exact le_trans (eK c) (vv k _ _)
   . exact le_refl c
theorem vu (c : Cu) (b : UInt8) : c.le (c.eP b) := by
 unfold Cu.eP; split
 . exact le_trans (vv _ _ _) (kD _ _)
 . exact vv _ _ _
theorem uB (c : Cu) : c.g8.length ≤ 4 := by
 unfold Cu.g8; repeat' split
 . exact (pf _).2
 all_goals simp
theorem vV (c : Cu) (b : UInt8) : (c.gK b).length ≤ 4 := by
 have := C6 (cE b) c [b]
 have := CP b
 unfold Cu.gK; split
 . simp
 . simp at this ⊢; simp_all; omega
def fI : Nat → Cu → List UInt8 → Cu × List UInt8
 | 0, c, _ => (c, [])
 | n + 1, c, o =>
   if c.c ≠ 0 then (c, [])
   else if c.byte.c ≠ 0 then fI n c.byte o
   else if c.ai.toNat = 34 then (c.byte, o)
   else if c.ai.toNat < 32 then fI n (c.byte.fail 3) o
   else if c.ai.toNat = 92 then fI n c.byte.dG (o ++ c.byte.g8)
   else fI n (c.byte.eP c.ai) (o ++ c.byte.gK c.ai)
termination_by n => n
def Cu.mu (c : Cu) : Nat := if c.c ≠ 0 then 0 else c.e - c.p + 1
def Cu.start (c : Cu) : Cu := if (c.c = 0 ∧ c.p < c.e) ∧ c.ai.toNat ≠ 34 then c.fail 3 else c
def Cu.read (c : Cu) : Cu × List UInt8 := fI (c.start.byte.mu + 1) c.start.byte []
theorem LO {c : Cu} (h : c.ok) : c.start.ok := by unfold Cu.start; split; exact (fh h 3).1; exact h
theorem rD {c : Cu} (h : c.ok) (h0 : c.c = 0) (h1 : c.byte.c = 0) : c.byte.p = c.p + 1 := by
 unfold Cu.byte Cu.pass at h1 ⊢
 obtain ⟨a, b⟩ := h
 rw [if_neg (by omega), if_neg (by omega)] at h1 ⊢
 split at h1
 . cases h1
 . rename_i q; rw [if_neg q]; rfl
theorem kF {c d : Cu} (h : c.ok) (h0 : c.c = 0) (h1 : c.byte.c = 0) (hd : c.byte.le d) (k : d.ok) : d.mu < c.mu := by
 have := rD h h0 h1
 have e1 := (eK c).2.1
 obtain ⟨d1, d2, d3⟩ := hd
 obtain ⟨k1, k2⟩ := k
 unfold Cu.mu
 rw [if_neg (show ¬ c.c ≠ 0 by omega)]
 split <;> omega
theorem vB {c d : Cu} (h0 : c.c = 0) (h1 : d.c ≠ 0) : d.mu < c.mu := by
 unfold Cu.mu; rw [if_pos h1, if_neg (by omega)]; omega
theorem FZ (c : Cu) (hp : c.ok ∧ c.s.length ≤ 100000000) : OK 99 ([.ptr 0 0]) ([.cells (eC c)]) (.str c.read.2) (some [.cells (eC c.read.1)]) := by
 refine au (C := cx [(96, me), (104, jt), (98, j7), (73, j8), (124, wY), (125, xb)]) (aq ⟨oy, kC, jQ, jR, I7, Ie, trivial⟩) (fn := Tryz.f99) rfl rfl rfl rfl fun hw hs => ?_
 obtain ⟨hp, hl⟩ := hp
 have hb : c.ai.toNat < 256 := c.ai.toNat_lt
 have k1 := LO hp
 have k2 := eu k1
 have k3 := eu (fh hp 3).1
 repeat' ((conv => whnf); first | apply ak | apply aW | (apply al <;> intro h))
 all_goals try conv => whnf
 all_goals try (refine a9.mk ?_; try dsimp only)
 all_goals (try simp only [aK] at *)
 all_goals first | refine stay ?_ | trivial | skip
 . have hst : c.start = c := by unfold Cu.start; rw [if_neg (by omega)]
   refine aU.mk (Nat × Cu × List UInt8) (fun | (n, d, o) => d.ok ∧ d.s = c.s ∧ d.mu < n ∧ o.length ≤ 4 * d.p ∧ fI n d o = c.read) (fun | (n, d, o) => ⟨54, [(0, .ptr 0 0), (5, .ptr 1 0)], [.cells (eC d), .cells [.ptr 0 0, .buf 2], .buf 1 0 (bl o)], [2]⟩) (fun x => x.1) [.cell 1 1 1] (c.start.byte.mu + 1, c.start.byte, [])
    ⟨k2, by first | (rw [(eK _).1, hst]; done) | (rw [(eK _).1, hst]; exact (fh hp 3).2.1), by omega, by simp, rfl⟩ ?_ (fun ⟨n, d, o⟩ ⟨hd, hds, hm, ho, he⟩ _ _ => ?_)
   . rw [hst]
     refine Go.VG.Sub.mk rfl ?_ ?_ ?_ ?_ <;> (repeat' first | trivial)
   have hdb := eu hd
   have hd1 := hd.1
   have hd2 := hd.2
   have hb := d.ai.toNat_lt
   obtain ⟨n, rfl⟩ : ∃ m, n = m + 1 := ⟨n - 1, by omega⟩
   rw [fI] at he
   have hsl : d.s.length ≤ 100000000 := by rw [hds]; exact hl
   have hbl := iA o
   have n1 := fun h0 h1 => rD hd h0 h1
   have m0 := fun h0 h1 => vB (c := d) (d := d.byte) h0 h1
   have lf := kD d.byte 3
   have m1 := fun h0 h1 => kF hd h0 h1 lf (fh hdb 3).1
   have le := vt d.byte
   have m2 := fun h0 h1 => kF hd h0 h1 le (mH hdb)
   have lr := vu d.byte d.ai
   have m3 := fun h0 h1 => kF hd h0 h1 lr (nb hdb _)
   have q1 := uB d.byte
   have q2 := vV d.byte d.ai
   have hds2 : d.byte.s = c.s := (eK d).1.trans hds
   have hp2 := (eK d).2.2
   have hvb : byte d.ai.toNat = d.ai := cg _
   repeat' ((conv => whnf); first | apply ak | apply aW | (apply al <;> intro h) | apply og)
   all_goals try conv => whnf
   all_goals try (refine a9.mk ?_; try dsimp only)
   all_goals (try simp only [aK] at *)
   all_goals first | refine stay ?_ | trivial | skip
   all_goals (try simp only [hvb] at *)
   all_goals (repeat (first | rw [if_pos (by omega)] at he | rw [if_neg (by omega)] at he))
   all_goals first
    | (show a8 _ _ _ _ _ _
       rw [← he]
       refine a8.mk [] ?_ <;> (repeat' first | trivial)
       done)
    | (refine ⟨trivial, hdb, ?_⟩; omega)
    | (refine ⟨by omega, trivial, hdb, ?_⟩; omega)
    | skip
   . refine ⟨[], (n, d.byte.fail 3, o), ⟨(fh hdb 3).1, lf.1.trans hds2, ?_, ?_, he⟩, ?_, by show n < n + 1; omega⟩
     . have := m1 (by omega) (by omega)
       show (d.byte.fail 3).mu < n; omega
     . have := lf.2.2
       show o.length ≤ 4 * (d.byte.fail 3).p; omega
     . refine Go.VG.Sub.mk rfl ?_ ?_ ?_ ?_ <;> (repeat' first | trivial)
   . refine ⟨[], (n, d.byte.dG, o ++ d.byte.g8), ⟨mH hdb, le.1.trans hds2, ?_, ?_, he⟩, ?_, by show n < n + 1; omega⟩
     . have := m2 (by omega) (by omega)
       show d.byte.dG.mu < n; omega
     . have := le.2.2; have := n1 (by omega) (by omega)
       show (o ++ d.byte.g8).length ≤ 4 * d.byte.dG.p
       rw [List.length_append]; omega
     . refine Go.VG.Sub.mk rfl ?_ ?_ ?_ ?_ <;> (repeat' first | trivial | apply ae | apply br)
       rw [jC]
   . refine ⟨[], (n, d.byte.eP d.ai, o ++ d.byte.gK d.ai), ⟨nb hdb _, lr.1.trans hds2, ?_, ?_, he⟩, ?_, by show n < n + 1; omega⟩
     . have := m3 (by omega) (by omega)
       show (d.byte.eP d.ai).mu < n; omega
     . have := lr.2.2; have := n1 (by omega) (by omega)
       show (o ++ d.byte.gK d.ai).length ≤ 4 * (d.byte.eP d.ai).p
       rw [List.length_append]; omega
     . refine Go.VG.Sub.mk rfl ?_ ?_ ?_ ?_ <;> (repeat' first | trivial | apply ae | apply br)
       rw [jC]
   . refine ⟨[], (n, d.byte, o), ⟨hdb, hds2, ?_, by show o.length ≤ 4 * d.byte.p; omega, he⟩, ?_, by show n < n + 1; omega⟩
     . have := m0 (by omega) (by omega)
       show d.byte.mu < n; omega
     . refine Go.VG.Sub.mk rfl ?_ ?_ ?_ ?_ <;> (repeat' first | trivial)
 . exact ⟨trivial, (fh hp 3).1⟩
 . have hst : c.start = c.fail 3 := by unfold Cu.start; rw [if_pos ⟨by assumption, by omega⟩]
   refine aU.mk (Nat × Cu × List UInt8) (fun | (n, d, o) => d.ok ∧ d.s = c.s ∧ d.mu < n ∧ o.length ≤ 4 * d.p ∧ fI n d o = c.read) (fun | (n, d, o) => ⟨54, [(0, .ptr 0 0), (5, .ptr 1 0)], [.cells (eC d), .cells [.ptr 0 0, .buf 2], .buf 1 0 (bl o)], [2]⟩) (fun x => x.1) [.cell 1 1 1] (c.start.byte.mu + 1, c.start.byte, [])
    ⟨k2, by first | (rw [(eK _).1, hst]; done) | (rw [(eK _).1, hst]; exact (fh hp 3).2.1), by omega, by simp, rfl⟩ ?_ (fun ⟨n, d, o⟩ ⟨hd, hds, hm, ho, he⟩ _ _ => ?_)
   . rw [hst]
     refine Go.VG.Sub.mk rfl ?_ ?_ ?_ ?_ <;> (repeat' first | trivial)
   have hdb := eu hd
   have hd1 := hd.1
   have hd2 := hd.2
   have hb := d.ai.toNat_lt
   obtain ⟨n, rfl⟩ : ∃ m, n = m + 1 := ⟨n - 1, by omega⟩
   rw [fI] at he
   have hsl : d.s.length ≤ 100000000 := by rw [hds]; exact hl
   have hbl := iA o
   have n1 := fun h0 h1 => rD hd h0 h1
   have m0 := fun h0 h1 => vB (c := d) (d := d.byte) h0 h1
   have lf := kD d.byte 3
   have m1 := fun h0 h1 => kF hd h0 h1 lf (fh hdb 3).1
   have le := vt d.byte
   have m2 := fun h0 h1 => kF hd h0 h1 le (mH hdb)
   have lr := vu d.byte d.ai
   have m3 := fun h0 h1 => kF hd h0 h1 lr (nb hdb _)
   have q1 := uB d.byte
   have q2 := vV d.byte d.ai
   have hds2 : d.byte.s = c.s := (eK d).1.trans hds
   have hp2 := (eK d).2.2
   have hvb : byte d.ai.toNat = d.ai := cg _
   repeat' ((conv => whnf); first | apply ak | apply aW | (apply al <;> intro h) | apply og)
   all_goals try conv => whnf
   all_goals try (refine a9.mk ?_; try dsimp only)
   all_goals (try simp only [aK] at *)
   all_goals first | refine stay ?_ | trivial | skip
   all_goals (try simp only [hvb] at *)
   all_goals (repeat (first | rw [if_pos (by omega)] at he | rw [if_neg (by omega)] at he))
   all_goals first
    | (show a8 _ _ _ _ _ _
       rw [← he]
       refine a8.mk [] ?_ <;> (repeat' first | trivial)
       done)
    | (refine ⟨trivial, hdb, ?_⟩; omega)
    | (refine ⟨by omega, trivial, hdb, ?_⟩; omega)
    | skip
   . refine ⟨[], (n, d.byte.fail 3, o), ⟨(fh hdb 3).1, lf.1.trans hds2, ?_, ?_, he⟩, ?_, by show n < n + 1; omega⟩
     . have := m1 (by omega) (by omega)
       show (d.byte.fail 3).mu < n; omega
     . have := lf.2.2
       show o.length ≤ 4 * (d.byte.fail 3).p; omega
     . refine Go.VG.Sub.mk rfl ?_ ?_ ?_ ?_ <;> (repeat' first | trivial)
   . refine ⟨[], (n, d.byte.dG, o ++ d.byte.g8), ⟨mH hdb, le.1.trans hds2, ?_, ?_, he⟩, ?_, by show n < n + 1; omega⟩
     . have := m2 (by omega) (by omega)
       show d.byte.dG.mu < n; omega
     . have := le.2.2; have := n1 (by omega) (by omega)
       show (o ++ d.byte.g8).length ≤ 4 * d.byte.dG.p
       rw [List.length_append]; omega
     . refine Go.VG.Sub.mk rfl ?_ ?_ ?_ ?_ <;> (repeat' first | trivial | apply ae | apply br)
       rw [jC]
   . refine ⟨[], (n, d.byte.eP d.ai, o ++ d.byte.gK d.ai), ⟨nb hdb _, lr.1.trans hds2, ?_, ?_, he⟩, ?_, by show n < n + 1; omega⟩
     . have := m3 (by omega) (by omega)
       show (d.byte.eP d.ai).mu < n; omega
     . have := lr.2.2; have := n1 (by omega) (by omega)
       show (o ++ d.byte.gK d.ai).length ≤ 4 * (d.byte.eP d.ai).p
       rw [List.length_append]; omega
     . refine Go.VG.Sub.mk rfl ?_ ?_ ?_ ?_ <;> (repeat' first | trivial | apply ae | apply br)
       rw [jC]
   . refine ⟨[], (n, d.byte, o), ⟨hdb, hds2, ?_, by show o.length ≤ 4 * d.byte.p; omega, he⟩, ?_, by show n < n + 1; omega⟩
     . have := m0 (by omega) (by omega)
       show d.byte.mu < n; omega
     . refine Go.VG.Sub.mk rfl ?_ ?_ ?_ ?_ <;> (repeat' first | trivial)
 . have hst : c.start = c := by unfold Cu.start; rw [if_neg (fun h => by have := h.1; omega)]
   refine aU.mk (Nat × Cu × List UInt8) (fun | (n, d, o) => d.ok ∧ d.s = c.s ∧ d.mu < n ∧ o.length ≤ 4 * d.p ∧ fI n d o = c.read) (fun | (n, d, o) => ⟨54, [(0, .ptr 0 0), (5, .ptr 1 0)], [.cells (eC d), .cells [.ptr 0 0, .buf 2], .buf 1 0 (bl o)], [2]⟩) (fun x => x.1) [.cell 1 1 1] (c.start.byte.mu + 1, c.start.byte, [])
    ⟨k2, by first | (rw [(eK _).1, hst]; done) | (rw [(eK _).1, hst]; exact (fh hp 3).2.1), by omega, by simp, rfl⟩ ?_ (fun ⟨n, d, o⟩ ⟨hd, hds, hm, ho, he⟩ _ _ => ?_)
   . rw [hst]
     refine Go.VG.Sub.mk rfl ?_ ?_ ?_ ?_ <;> (repeat' first | trivial)
   have hdb := eu hd
   have hd1 := hd.1
   have hd2 := hd.2
   have hb := d.ai.toNat_lt
   obtain ⟨n, rfl⟩ : ∃ m, n = m + 1 := ⟨n - 1, by omega⟩
   rw [fI] at he
   have hsl : d.s.length ≤ 100000000 := by rw [hds]; exact hl
   have hbl := iA o
   have n1 := fun h0 h1 => rD hd h0 h1
   have m0 := fun h0 h1 => vB (c := d) (d := d.byte) h0 h1
   have lf := kD d.byte 3
   have m1 := fun h0 h1 => kF hd h0 h1 lf (fh hdb 3).1
   have le := vt d.byte
   have m2 := fun h0 h1 => kF hd h0 h1 le (mH hdb)
   have lr := vu d.byte d.ai
   have m3 := fun h0 h1 => kF hd h0 h1 lr (nb hdb _)
   have q1 := uB d.byte
   have q2 := vV d.byte d.ai
   have hds2 : d.byte.s = c.s := (eK d).1.trans hds
   have hp2 := (eK d).2.2
   have hvb : byte d.ai.toNat = d.ai := cg _
   repeat' ((conv => whnf); first | apply ak | apply aW | (apply al <;> intro h) | apply og)
   all_goals try conv => whnf
   all_goals try (refine a9.mk ?_; try dsimp only)
   all_goals (try simp only [aK] at *)
   all_goals first | refine stay ?_ | trivial | skip
   all_goals (try simp only [hvb] at *)
   all_goals (repeat (first | rw [if_pos (by omega)] at he | rw [if_neg (by omega)] at he))
   all_goals first
    | (show a8 _ _ _ _ _ _
       rw [← he]
       refine a8.mk [] ?_ <;> (repeat' first | trivial)
       done)
    | (refine ⟨trivial, hdb, ?_⟩; omega)
    | (refine ⟨by omega, trivial, hdb, ?_⟩; omega)
    | skip
   . refine ⟨[], (n, d.byte.fail 3, o), ⟨(fh hdb 3).1, lf.1.trans hds2, ?_, ?_, he⟩, ?_, by show n < n + 1; omega⟩
     . have := m1 (by omega) (by omega)
       show (d.byte.fail 3).mu < n; omega
     . have := lf.2.2
       show o.length ≤ 4 * (d.byte.fail 3).p; omega
     . refine Go.VG.Sub.mk rfl ?_ ?_ ?_ ?_ <;> (repeat' first | trivial)
   . refine ⟨[], (n, d.byte.dG, o ++ d.byte.g8), ⟨mH hdb, le.1.trans hds2, ?_, ?_, he⟩, ?_, by show n < n + 1; omega⟩
     . have := m2 (by omega) (by omega)
       show d.byte.dG.mu < n; omega
     . have := le.2.2; have := n1 (by omega) (by omega)
       show (o ++ d.byte.g8).length ≤ 4 * d.byte.dG.p
       rw [List.length_append]; omega
     . refine Go.VG.Sub.mk rfl ?_ ?_ ?_ ?_ <;> (repeat' first | trivial | apply ae | apply br)
       rw [jC]
   . refine ⟨[], (n, d.byte.eP d.ai, o ++ d.byte.gK d.ai), ⟨nb hdb _, lr.1.trans hds2, ?_, ?_, he⟩, ?_, by show n < n + 1; omega⟩
     . have := m3 (by omega) (by omega)
       show (d.byte.eP d.ai).mu < n; omega
     . have := lr.2.2; have := n1 (by omega) (by omega)
       show (o ++ d.byte.gK d.ai).length ≤ 4 * (d.byte.eP d.ai).p
       rw [List.length_append]; omega
     . refine Go.VG.Sub.mk rfl ?_ ?_ ?_ ?_ <;> (repeat' first | trivial | apply ae | apply br)
       rw [jC]
   . refine ⟨[], (n, d.byte, o), ⟨hdb, hds2, ?_, by show o.length ≤ 4 * d.byte.p; omega, he⟩, ?_, by show n < n + 1; omega⟩
     . have := m0 (by omega) (by omega)
       show d.byte.mu < n; omega
     . refine Go.VG.Sub.mk rfl ?_ ?_ ?_ ?_ <;> (repeat' first | trivial)
def xc : Sm := fun args σ => match args, σ with
 | [.ptr 0 0], [.cells ([.str s_c, .int .i64 (.ofNat a_c), .int .i64 (.ofNat e_c), .int .i64 c_c])] => some (True ∧ ((Cu.mk s_c a_c e_c c_c).ok ∧ (Cu.mk s_c a_c e_c c_c).s.length ≤ 100000000), .str (Cu.mk s_c a_c e_c c_c).read.2, some [.cells (eC (Cu.mk s_c a_c e_c c_c).read.1)])
 | _, _ => none
theorem Ig : aw 99 xc := by
 intro args sg pre x r he hp
 unfold xc at he
 split at he <;> cases he
 . rw [c7 (hp).1]; exact FZ (hp := hp.2) ..
end Go.Proofs.YtllncocibkgjkaaGreat
