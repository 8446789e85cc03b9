/-
  A part of the proof.
-/
import Derived.Test.YtllncocibkgjkaaDoorJSp
set_option linter.unusedSimpArgs false
set_option linter.unusedVariables false
set_option maxHeartbeats 4000000
namespace Go.Proofs.YtllncocibkgjkaaDoor
open Go Go.VG
set_option maxRecDepth 100000
theorem tN : bl [] = [] := rfl
theorem ES (c : Cu) (o : List V) (hp : c.ok ∧ o.length ≤ 2000000000) : OK 62 ([.ptr 0 0]) ([.cells [.ptr 1 0, .buf 2], .cells (eC c), .buf 1 0 o]) (.tuple []) (some [.cells [.ptr 1 0, .buf 2], .cells (eC c.dW), .buf 1 0 (o ++ bl c.gp)]) := by
 refine aI (C := cx [(43, jq), (66, wv), (30, jJ), (67, wW), (68, wx), (49, jK)]) (aG ⟨jX, GD, kJ, H0, GF, kK, trivial⟩) (fn := Tryd.f62) rfl rfl rfl rfl fun hw hs => ?_
 obtain ⟨hp, ho⟩ := hp
 have h1 := eK hp
 have h2 := AU h1
 have hb : c.af.toNat < 256 := c.af.toNat_lt
 have hbb : byte c.af.toNat = c.af := dx _
 repeat' ((conv => whnf); first | apply ai | apply aw | (apply aj <;> intro h))
 all_goals try conv => whnf
 all_goals try (refine a8.mk ?_; try dsimp only)
 all_goals (try simp only [bJ] at *)
 all_goals first | refine stay ?_ | trivial | (simp only [ax]; omega) | (simp (discharger := omega) [-List.getD_eq_getElem?_getD, wR] <;> omega) | skip
 all_goals (try simp only [hbb] at *)
 all_goals first
  | exact ⟨I4 (by assumption), by omega⟩
  | skip
 all_goals
  first
  | (have hpl : iJ c.af = true := decide_eq_true (by assumption))
  | (have hpl : iJ c.af = false := decide_eq_false (by assumption))
  | (have hpl : iJ c.af = iJ c.af := rfl)
  unfold Cu.dW Cu.gp
  try rw [hpl]
  repeat (first | rw [if_pos (by first | rfl | omega)] | rw [if_neg (by first | exact Bool.false_ne_true | omega)])
  refine ab.mk [] ?_ <;> (repeat' first | trivial | apply aa | apply ak)
 all_goals (try rw [tN, List.append_nil])
def wm : Sm := fun args σ => match args, σ with
 | [.ptr 0 0], [.cells [.ptr 1 0, .buf 2], .cells ([.str s_c, .int .i64 (.ofNat a_c), .int .i64 (.ofNat e_c), .int .i64 c_c]), .buf 1 0 o] => some (True ∧ ((Cu.mk s_c a_c e_c c_c).ok ∧ o.length ≤ 2000000000), .tuple [], some [.cells [.ptr 1 0, .buf 2], .cells (eC (Cu.mk s_c a_c e_c c_c).dW), .buf 1 0 (o ++ bl (Cu.mk s_c a_c e_c c_c).gp)])
 | _, _ => none
theorem Gz : aE 62 wm := by
 intro args sg pre x r he hp
 unfold wm at he
 split at he <;> cases he
 . rw [cR (hp).1]; exact ES (hp := hp.2) ..
theorem Bm {n : Nat} {d : Cu} {s : List UInt8} (h : n = 0 ∨ ¬ (d.c = 0 ∧ d.p < d.e) ∨ ¬ d.af.toNat / 64 * 64 = 128) : db n d s = (d, s) := by
 cases n with
 | zero => rw [db]
 | succ n =>
   rw [db, if_neg]
   rw [gS]; omega
theorem Bj {n : Nat} {d : Cu} {s : List UInt8} (h0 : 0 < n) (h : d.c = 0 ∧ d.p < d.e) (h2 : d.af.toNat / 64 * 64 = 128) : db n d s = db (n - 1) d.byte (s ++ [d.af]) := by
 cases n with
 | zero => omega
 | succ n =>
   rw [db, if_pos ⟨h.1, h.2, by rw [gS]; have := d.af.toNat_lt; omega⟩]; rfl
def rawI (b : UInt8) (o : List V) (c : Cu) : Unit ⊕ (Nat × Cu × List UInt8) → AS
 | .inl _ => ⟨55, [(0, .ptr 0 0), (1, bv b), (4, .list true 1 [bv b]), (10, .int .i64 (cQ b)), (11, .int .i64 0)], [.cells [.ptr 1 0, .buf 2], .cells (eC c), .buf 1 0 o], []⟩
 | .inr (k, d, s) => ⟨55, [(0, .ptr 0 0), (1, bv b), (4, .buf 3), (10, .int .i64 (cQ b)), (11, .int .i64 k)], [.cells [.ptr 1 0, .buf 2], .cells (eC d), .buf 1 0 o, .buf 1 0 (bl s)], [3]⟩
def J1 (b : UInt8) (c : Cu) : Unit ⊕ (Nat × Cu × List UInt8) → Prop
 | .inl _ => True
 | .inr (k, d, s) => 1 ≤ k ∧ k ≤ cQ b ∧ d.ok ∧ s.length ≤ k + 1 ∧ db (cQ b - k) d s = db (cQ b) c [b]
def rawM (b : UInt8) : Unit ⊕ (Nat × Cu × List UInt8) → Nat
 | .inl _ => cQ b
 | .inr (k, _, _) => cQ b - k
theorem EY (c : Cu) (o : List V) (b : UInt8) (hp : c.ok ∧ o.length ≤ 2000000000) : OK 63 ([.ptr 0 0, bv b]) ([.cells [.ptr 1 0, .buf 2], .cells (eC c), .buf 1 0 o]) (.tuple []) (some [.cells [.ptr 1 0, .buf 2], .cells (eC (c.fg b)), .buf 1 0 (o ++ bl (c.hP b))]) := by
 refine aI (C := cx [(69, wC), (41, mb), (43, jq), (70, wQ), (49, jK)]) (aG ⟨GI, ot, jX, GW, kK, trivial⟩) (fn := Tryd.f63) rfl rfl rfl rfl fun hw hs => ?_
 obtain ⟨hp, ho⟩ := hp
 have hb : b.toNat < 256 := b.toNat_lt
 have hbb : byte b.toNat = b := dx _
 have ht := C4 b
 repeat' ((conv => whnf); apply ai)
 all_goals try conv => whnf
 all_goals try (refine a8.mk ?_; try dsimp only)
 all_goals first | refine stay ?_ | (simp (discharger := omega) [-List.getD_eq_getElem?_getD, wR] <;> omega) | skip
 rw [hbb]
 refine cB.mk _ (J1 b c) (rawI b o c) (rawM b) [] (.inl ()) trivial ?_ (fun x hx _ _ => ?_)
 . refine Go.VG.Sub.mk rfl ?_ ?_ ?_ ?_ <;> (repeat' first | trivial)
 match x, hx with
 | .inl _, _ =>
   have hc := c.af.toNat_lt
   have h192 := tK _ hc
   repeat' ((conv => whnf); first | apply ai | apply aw | (apply aj <;> intro h) | apply bh)
   all_goals try conv => whnf
   all_goals try (refine a8.mk ?_; try dsimp only)
   all_goals (try simp only [h192] at *)
   all_goals (try simp only [bJ] at *)
   all_goals first | refine stay ?_ | trivial | omega | (simp only [ax]; omega) | (simp (discharger := omega) [-List.getD_eq_getElem?_getD, wR] <;> omega) | skip
   . refine ⟨[], .inr (1, c.byte, [b, c.af]), ⟨by omega, by omega, eK hp, by simp, ?_⟩, ?_, by show cQ b - 1 < cQ b; omega⟩
     . exact (Bj (n := cQ b) (d := c) (s := [b]) (by omega) (by assumption) (by omega)).symm
     . refine Go.VG.Sub.mk rfl ?_ ?_ ?_ ?_ <;> (repeat' first | trivial)
   all_goals
    have he : db (cQ b) c [b] = (c, [b]) := Bm (by omega)
    unfold Cu.fg Cu.hP
    rw [he]
    first | rw [if_pos (by simp only [hbb] at *; omega), if_pos (by simp only [hbb] at *; omega)] | rw [if_neg (by simp only [hbb] at *; omega), if_neg (by simp only [hbb] at *; omega)]
    refine ab.mk [] ?_ <;> (repeat' first | trivial | apply aa | apply ak)
   all_goals (try rw [tN, List.append_nil])
 | .inr (k, d, s), ⟨hk, hk2, hd, hs2, he⟩ =>
   have hc := d.af.toNat_lt
   have h192 := tK _ hc
   repeat' ((conv => whnf); first | apply ai | apply aw | (apply aj <;> intro h) | apply b7)
   all_goals try conv => whnf
   all_goals try (refine a8.mk ?_; try dsimp only)
   all_goals (try simp only [h192] at *)
   all_goals (try simp only [bJ] at *)
   all_goals first | refine stay ?_ | trivial | omega | (simp only [ax]; omega) | skip
   . refine ⟨[], .inr (k + 1, d.byte, s ++ [d.af]), ⟨by omega, by omega, eK hd, by simp; omega, ?_⟩, ?_, by show cQ b - (k + 1) < cQ b - k; omega⟩
     . have e := Bj (n := cQ b - k) (d := d) (s := s) (by omega) (by assumption) (by omega)
       rw [← he, e, show cQ b - k - 1 = cQ b - (k + 1) by omega]
     . refine Go.VG.Sub.mk rfl ?_ ?_ ?_ ?_ <;> (repeat' first | trivial | apply aa | apply ar | apply ak)
       . (simp (discharger := omega) only [wR]; omega)
       . rw [dw]; rfl
   all_goals
    rw [Bm (by omega)] at he
    unfold Cu.fg Cu.hP
    rw [← he]
    first | rw [if_pos (by omega), if_pos (by omega)] | rw [if_neg (by omega), if_neg (by omega)]
    refine ab.mk [] ?_ <;> (repeat' first | trivial | apply aa | apply ak)
   all_goals (try rw [tN, List.append_nil])
def wy : Sm := fun args σ => match args, σ with
 | [.ptr 0 0, .int .u8 n_b], [.cells [.ptr 1 0, .buf 2], .cells ([.str s_c, .int .i64 (.ofNat a_c), .int .i64 (.ofNat e_c), .int .i64 c_c]), .buf 1 0 o] => some ((0 ≤ n_b ∧ n_b ≤ 255) ∧ (True ∧ ((Cu.mk s_c a_c e_c c_c).ok ∧ o.length ≤ 2000000000)), .tuple [], some [.cells [.ptr 1 0, .buf 2], .cells (eC ((Cu.mk s_c a_c e_c c_c).fg (byte n_b))), .buf 1 0 (o ++ bl ((Cu.mk s_c a_c e_c c_c).hP (byte n_b)))])
 | _, _ => none
theorem GG : aE 63 wy := by
 intro args sg pre x r he hp
 unfold wy at he
 split at he <;> cases he
 . rw [gI (hp).1]; rw [cR (hp.2).1]; exact EY (hp := hp.2.2) ..
end Go.Proofs.YtllncocibkgjkaaDoor
namespace Go.Proofs.YtllncocibkgjkaaDoor
open Go Go.VG
set_option maxRecDepth 100000
def Cu.le (c d : Cu) : Prop := d.s = c.s ∧ d.e = c.e ∧ c.p ≤ d.p
theorem le_trans {c d f : Cu} (h : c.le d) (k : d.le f) : c.le f := ⟨k.1.trans h.1, k.2.1.trans h.2.1, Nat.le_trans h.2.2 k.2.2⟩
theorem le_refl (c : Cu) : c.le c := ⟨rfl, rfl, Nat.le_refl _⟩
theorem kL (c : Cu) (k : Int) : c.le (c.fail k) := by unfold Cu.fail; split <;> exact ⟨rfl, rfl, Nat.le_refl _⟩
theorem Hj (c : Cu) (n : Int) : c.le (c.pass n) := by
 unfold Cu.pass; repeat' split
 all_goals (refine ⟨rfl, rfl, ?_⟩; (try dsimp only); omega)
theorem eY (c : Cu) : c.le c.byte := Hj c 1
theorem A9 (c : Cu) : c.le c.fB := by
 unfold Cu.fB; split
 . exact eY c
 . exact le_trans (eY c) (kL _ _)
theorem A8 : ∀ (k : Nat) (c : Cu) (u : Int), c.le (dX k c u).1
 | 0, c, _ => by rw [dX]; exact le_refl c
 | k + 1, c, u => by
   rw [dX]; split
   . exact A9 c
   . exact le_trans (A9 c) (A8 k _ _)
theorem A7 (c : Cu) : c.le c.four.1 := A8 4 c 0
theorem Aa (c : Cu) (b : UInt8) : c.le (c.cO b) := by
 unfold Cu.cO; split
 . exact eY c
 . exact le_trans (eY c) (kL _ _)
theorem Hi (c : Cu) : c.le c.number.1 := by
 have h1 := A7 c
 have h2 := le_trans (le_trans (le_trans h1 (Aa _ 92)) (Aa _ 117)) (A7 _)
 unfold Cu.number
 repeat' split
 . exact h1
 . exact le_trans h1 (kL _ _)
 . exact le_trans h2 (kL _ _)
 . exact h2
theorem uQ (c : Cu) : c.le c.dW := by
 unfold Cu.dW; repeat' split
 . exact le_trans (eY c) (Hi _)
 . exact eY c
 . exact le_trans (eY c) (kL _ _)
theorem uS : ∀ (k : Nat) (c : Cu) (s : List UInt8), c.le (db k c s).1
 | 0, c, _ => by rw [db]; exact le_refl c
 | k + 1, c, s => by
   rw [db]; split
   . exact le_trans (eY c) (uS k _ _)
   . exact le_refl c
theorem uR (c : Cu) (b : UInt8) : c.le (c.fg b) := by
 unfold Cu.fg; split
 . exact le_trans (uS _ _ _) (kL _ _)
 . exact uS _ _ _
theorem uh (c : Cu) : c.gp.length ≤ 4 := by
 unfold Cu.gp; repeat' split
 . exact (qS _).2
 all_goals simp
theorem vD (c : Cu) (b : UInt8) : (c.hP b).length ≤ 4 := by
 have := Bk (cQ b) c [b]
 have := C4 b
 unfold Cu.hP; split
 . simp
 . simp at this ⊢; simp_all; omega
def fU : Nat → Cu → List UInt8 → Cu × List UInt8
 | 0, c, _ => (c, [])
 | n + 1, c, o =>
   if c.c ≠ 0 then (c, [])
   else if c.byte.c ≠ 0 then fU n c.byte o
   else if c.af.toNat = 34 then (c.byte, o)
   else if c.af.toNat < 32 then fU n (c.byte.fail 3) o
   else if c.af.toNat = 92 then fU n c.byte.dW (o ++ c.byte.gp)
   else fU n (c.byte.fg c.af) (o ++ c.byte.hP c.af)
termination_by n => n
def Cu.mu (c : Cu) : Nat := if c.c ≠ 0 then 0 else c.e - c.p + 1
def Cu.start (c : Cu) : Cu := if (c.c = 0 ∧ c.p < c.e) ∧ c.af.toNat ≠ 34 then c.fail 3 else c
def Cu.read (c : Cu) : Cu × List UInt8 := fU (c.start.byte.mu + 1) c.start.byte []
theorem K9 {c : Cu} (h : c.ok) : c.start.ok := by unfold Cu.start; split; exact (fA h 3).1; exact h
theorem rp {c : Cu} (h : c.ok) (h0 : c.c = 0) (h1 : c.byte.c = 0) : c.byte.p = c.p + 1 := by
 unfold Cu.byte Cu.pass at h1 ⊢
 obtain ⟨a, b⟩ := h
 rw [if_neg (by omega), if_neg (by omega)] at h1 ⊢
 split at h1
 . cases h1
 . rename_i q; rw [if_neg q]; rfl
theorem kO {c d : Cu} (h : c.ok) (h0 : c.c = 0) (h1 : c.byte.c = 0) (hd : c.byte.le d) (k : d.ok) : d.mu < c.mu := by
 have := rp h h0 h1
 have e1 := (eY c).2.1
 obtain ⟨d1, d2, d3⟩ := hd
 obtain ⟨k1, k2⟩ := k
 unfold Cu.mu
 rw [if_neg (show ¬ c.c ≠ 0 by omega)]
 split <;> omega
theorem uZ {c d : Cu} (h0 : c.c = 0) (h1 : d.c ≠ 0) : d.mu < c.mu := by
 unfold Cu.mu; rw [if_pos h1, if_neg (by omega)]; omega
theorem EZ (c : Cu) (hp : c.ok ∧ c.s.length ≤ 100000000) : OK 44 ([.ptr 0 0]) ([.cells (eC c)]) (.str c.read.2) (some [.cells (eC c.read.1)]) := by
 refine aI (C := cx [(41, mb), (49, jK), (43, jq), (30, jJ), (62, wm), (63, wy)]) (aG ⟨ot, kK, jX, kJ, Gz, GG, trivial⟩) (fn := Tryd.f44) rfl rfl rfl rfl fun hw hs => ?_
 obtain ⟨hp, hl⟩ := hp
 have hb : c.af.toNat < 256 := c.af.toNat_lt
 have k1 := K9 hp
 have k2 := eK k1
 have k3 := eK (fA hp 3).1
 repeat' ((conv => whnf); first | apply ai | apply aw | (apply aj <;> intro h))
 all_goals try conv => whnf
 all_goals try (refine a8.mk ?_; try dsimp only)
 all_goals (try simp only [bJ] at *)
 all_goals first | refine stay ?_ | trivial | skip
 . have hst : c.start = c := by unfold Cu.start; rw [if_neg (by omega)]
   refine cB.mk (Nat × Cu × List UInt8) (fun | (n, d, o) => d.ok ∧ d.s = c.s ∧ d.mu < n ∧ o.length ≤ 4 * d.p ∧ fU n d o = c.read) (fun | (n, d, o) => ⟨54, [(0, .ptr 0 0), (5, .ptr 1 0)], [.cells (eC d), .cells [.ptr 0 0, .buf 2], .buf 1 0 (bl o)], [2]⟩) (fun x => x.1) [.cell 1 1 1] (c.start.byte.mu + 1, c.start.byte, [])
    ⟨k2, by first | (rw [(eY _).1, hst]; done) | (rw [(eY _).1, hst]; exact (fA hp 3).2.1), by omega, by simp, rfl⟩ ?_ (fun ⟨n, d, o⟩ ⟨hd, hds, hm, ho, he⟩ _ _ => ?_)
   . rw [hst]
     refine Go.VG.Sub.mk rfl ?_ ?_ ?_ ?_ <;> (repeat' first | trivial)
   have hdb := eK hd
   have hd1 := hd.1
   have hd2 := hd.2
   have hb := d.af.toNat_lt
   obtain ⟨n, rfl⟩ : ∃ m, n = m + 1 := ⟨n - 1, by omega⟩
   rw [fU] at he
   have hsl : d.s.length ≤ 100000000 := by rw [hds]; exact hl
   have hbl := cU o
   have n1 := fun h0 h1 => rp hd h0 h1
   have m0 := fun h0 h1 => uZ (c := d) (d := d.byte) h0 h1
   have lf := kL d.byte 3
   have m1 := fun h0 h1 => kO hd h0 h1 lf (fA hdb 3).1
   have le := uQ d.byte
   have m2 := fun h0 h1 => kO hd h0 h1 le (mF hdb)
   have lr := uR d.byte d.af
   have m3 := fun h0 h1 => kO hd h0 h1 lr (nf hdb _)
   have q1 := uh d.byte
   have q2 := vD d.byte d.af
   have hds2 : d.byte.s = c.s := (eY d).1.trans hds
   have hp2 := (eY d).2.2
   have hvb : byte d.af.toNat = d.af := dx _
   repeat' ((conv => whnf); first | apply ai | apply aw | (apply aj <;> intro h) | apply b7)
   all_goals try conv => whnf
   all_goals try (refine a8.mk ?_; try dsimp only)
   all_goals (try simp only [bJ] at *)
   all_goals first | refine stay ?_ | trivial | skip
   all_goals (try simp only [hvb] at *)
   all_goals (repeat (first | rw [if_pos (by omega)] at he | rw [if_neg (by omega)] at he))
   all_goals first
    | (show ab _ _ _ _ _ _
       rw [← he]
       refine ab.mk [] ?_ <;> (repeat' first | trivial)
       done)
    | (refine ⟨trivial, hdb, ?_⟩; omega)
    | (refine ⟨by omega, trivial, hdb, ?_⟩; omega)
    | skip
   . refine ⟨[], (n, d.byte.fail 3, o), ⟨(fA hdb 3).1, lf.1.trans hds2, ?_, ?_, he⟩, ?_, by show n < n + 1; omega⟩
     . have := m1 (by omega) (by omega)
       show (d.byte.fail 3).mu < n; omega
     . have := lf.2.2
       show o.length ≤ 4 * (d.byte.fail 3).p; omega
     . refine Go.VG.Sub.mk rfl ?_ ?_ ?_ ?_ <;> (repeat' first | trivial)
   . refine ⟨[], (n, d.byte.dW, o ++ d.byte.gp), ⟨mF hdb, le.1.trans hds2, ?_, ?_, he⟩, ?_, by show n < n + 1; omega⟩
     . have := m2 (by omega) (by omega)
       show d.byte.dW.mu < n; omega
     . have := le.2.2; have := n1 (by omega) (by omega)
       show (o ++ d.byte.gp).length ≤ 4 * d.byte.dW.p
       rw [List.length_append]; omega
     . refine Go.VG.Sub.mk rfl ?_ ?_ ?_ ?_ <;> (repeat' first | trivial | apply aa | apply ak)
       rw [dw]
   . refine ⟨[], (n, d.byte.fg d.af, o ++ d.byte.hP d.af), ⟨nf hdb _, lr.1.trans hds2, ?_, ?_, he⟩, ?_, by show n < n + 1; omega⟩
     . have := m3 (by omega) (by omega)
       show (d.byte.fg d.af).mu < n; omega
     . have := lr.2.2; have := n1 (by omega) (by omega)
       show (o ++ d.byte.hP d.af).length ≤ 4 * (d.byte.fg d.af).p
       rw [List.length_append]; omega
     . refine Go.VG.Sub.mk rfl ?_ ?_ ?_ ?_ <;> (repeat' first | trivial | apply aa | apply ak)
       rw [dw]
   . refine ⟨[], (n, d.byte, o), ⟨hdb, hds2, ?_, by show o.length ≤ 4 * d.byte.p; omega, he⟩, ?_, by show n < n + 1; omega⟩
     . have := m0 (by omega) (by omega)
       show d.byte.mu < n; omega
     . refine Go.VG.Sub.mk rfl ?_ ?_ ?_ ?_ <;> (repeat' first | trivial)
 . exact ⟨trivial, (fA hp 3).1⟩
 . have hst : c.start = c.fail 3 := by unfold Cu.start; rw [if_pos ⟨by assumption, by omega⟩]
   refine cB.mk (Nat × Cu × List UInt8) (fun | (n, d, o) => d.ok ∧ d.s = c.s ∧ d.mu < n ∧ o.length ≤ 4 * d.p ∧ fU n d o = c.read) (fun | (n, d, o) => ⟨54, [(0, .ptr 0 0), (5, .ptr 1 0)], [.cells (eC d), .cells [.ptr 0 0, .buf 2], .buf 1 0 (bl o)], [2]⟩) (fun x => x.1) [.cell 1 1 1] (c.start.byte.mu + 1, c.start.byte, [])
    ⟨k2, by first | (rw [(eY _).1, hst]; done) | (rw [(eY _).1, hst]; exact (fA hp 3).2.1), by omega, by simp, rfl⟩ ?_ (fun ⟨n, d, o⟩ ⟨hd, hds, hm, ho, he⟩ _ _ => ?_)
   . rw [hst]
     refine Go.VG.Sub.mk rfl ?_ ?_ ?_ ?_ <;> (repeat' first | trivial)
   have hdb := eK hd
   have hd1 := hd.1
   have hd2 := hd.2
   have hb := d.af.toNat_lt
   obtain ⟨n, rfl⟩ : ∃ m, n = m + 1 := ⟨n - 1, by omega⟩
   rw [fU] at he
   have hsl : d.s.length ≤ 100000000 := by rw [hds]; exact hl
   have hbl := cU o
   have n1 := fun h0 h1 => rp hd h0 h1
   have m0 := fun h0 h1 => uZ (c := d) (d := d.byte) h0 h1
   have lf := kL d.byte 3
   have m1 := fun h0 h1 => kO hd h0 h1 lf (fA hdb 3).1
   have le := uQ d.byte
   have m2 := fun h0 h1 => kO hd h0 h1 le (mF hdb)
   have lr := uR d.byte d.af
   have m3 := fun h0 h1 => kO hd h0 h1 lr (nf hdb _)
   have q1 := uh d.byte
   have q2 := vD d.byte d.af
   have hds2 : d.byte.s = c.s := (eY d).1.trans hds
   have hp2 := (eY d).2.2
   have hvb : byte d.af.toNat = d.af := dx _
   repeat' ((conv => whnf); first | apply ai | apply aw | (apply aj <;> intro h) | apply b7)
   all_goals try conv => whnf
   all_goals try (refine a8.mk ?_; try dsimp only)
   all_goals (try simp only [bJ] at *)
   all_goals first | refine stay ?_ | trivial | skip
   all_goals (try simp only [hvb] at *)
   all_goals (repeat (first | rw [if_pos (by omega)] at he | rw [if_neg (by omega)] at he))
   all_goals first
    | (show ab _ _ _ _ _ _
       rw [← he]
       refine ab.mk [] ?_ <;> (repeat' first | trivial)
       done)
    | (refine ⟨trivial, hdb, ?_⟩; omega)
    | (refine ⟨by omega, trivial, hdb, ?_⟩; omega)
    | skip
   . refine ⟨[], (n, d.byte.fail 3, o), ⟨(fA hdb 3).1, lf.1.trans hds2, ?_, ?_, he⟩, ?_, by show n < n + 1; omega⟩
     . have := m1 (by omega) (by omega)
       show (d.byte.fail 3).mu < n; omega
     . have := lf.2.2
       show o.length ≤ 4 * (d.byte.fail 3).p; omega
     . refine Go.VG.Sub.mk rfl ?_ ?_ ?_ ?_ <;> (repeat' first | trivial)
   . refine ⟨[], (n, d.byte.dW, o ++ d.byte.gp), ⟨mF hdb, le.1.trans hds2, ?_, ?_, he⟩, ?_, by show n < n + 1; omega⟩
     . have := m2 (by omega) (by omega)
       show d.byte.dW.mu < n; omega
     . have := le.2.2; have := n1 (by omega) (by omega)
       show (o ++ d.byte.gp).length ≤ 4 * d.byte.dW.p
       rw [List.length_append]; omega
     . refine Go.VG.Sub.mk rfl ?_ ?_ ?_ ?_ <;> (repeat' first | trivial | apply aa | apply ak)
       rw [dw]
   . refine ⟨[], (n, d.byte.fg d.af, o ++ d.byte.hP d.af), ⟨nf hdb _, lr.1.trans hds2, ?_, ?_, he⟩, ?_, by show n < n + 1; omega⟩
     . have := m3 (by omega) (by omega)
       show (d.byte.fg d.af).mu < n; omega
     . have := lr.2.2; have := n1 (by omega) (by omega)
       show (o ++ d.byte.hP d.af).length ≤ 4 * (d.byte.fg d.af).p
       rw [List.length_append]; omega
     . refine Go.VG.Sub.mk rfl ?_ ?_ ?_ ?_ <;> (repeat' first | trivial | apply aa | apply ak)
       rw [dw]
   . refine ⟨[], (n, d.byte, o), ⟨hdb, hds2, ?_, by show o.length ≤ 4 * d.byte.p; omega, he⟩, ?_, by show n < n + 1; omega⟩
     . have := m0 (by omega) (by omega)
       show d.byte.mu < n; omega
     . refine Go.VG.Sub.mk rfl ?_ ?_ ?_ ?_ <;> (repeat' first | trivial)
 . have hst : c.start = c := by unfold Cu.start; rw [if_neg (fun h => by have := h.1; omega)]
   refine cB.mk (Nat × Cu × List UInt8) (fun | (n, d, o) => d.ok ∧ d.s = c.s ∧ d.mu < n ∧ o.length ≤ 4 * d.p ∧ fU n d o = c.read) (fun | (n, d, o) => ⟨54, [(0, .ptr 0 0), (5, .ptr 1 0)], [.cells (eC d), .cells [.ptr 0 0, .buf 2], .buf 1 0 (bl o)], [2]⟩) (fun x => x.1) [.cell 1 1 1] (c.start.byte.mu + 1, c.start.byte, [])
    ⟨k2, by first | (rw [(eY _).1, hst]; done) | (rw [(eY _).1, hst]; exact (fA hp 3).2.1), by omega, by simp, rfl⟩ ?_ (fun ⟨n, d, o⟩ ⟨hd, hds, hm, ho, he⟩ _ _ => ?_)
   . rw [hst]
     refine Go.VG.Sub.mk rfl ?_ ?_ ?_ ?_ <;> (repeat' first | trivial)
   have hdb := eK hd
   have hd1 := hd.1
   have hd2 := hd.2
   have hb := d.af.toNat_lt
   obtain ⟨n, rfl⟩ : ∃ m, n = m + 1 := ⟨n - 1, by omega⟩
   rw [fU] at he
   have hsl : d.s.length ≤ 100000000 := by rw [hds]; exact hl
   have hbl := cU o
   have n1 := fun h0 h1 => rp hd h0 h1
   have m0 := fun h0 h1 => uZ (c := d) (d := d.byte) h0 h1
   have lf := kL d.byte 3
   have m1 := fun h0 h1 => kO hd h0 h1 lf (fA hdb 3).1
   have le := uQ d.byte
   have m2 := fun h0 h1 => kO hd h0 h1 le (mF hdb)
   have lr := uR d.byte d.af
   have m3 := fun h0 h1 => kO hd h0 h1 lr (nf hdb _)
   have q1 := uh d.byte
   have q2 := vD d.byte d.af
   have hds2 : d.byte.s = c.s := (eY d).1.trans hds
   have hp2 := (eY d).2.2
   have hvb : byte d.af.toNat = d.af := dx _
   repeat' ((conv => whnf); first | apply ai | apply aw | (apply aj <;> intro h) | apply b7)
   all_goals try conv => whnf
   all_goals try (refine a8.mk ?_; try dsimp only)
   all_goals (try simp only [bJ] at *)
   all_goals first | refine stay ?_ | trivial | skip
   all_goals (try simp only [hvb] at *)
   all_goals (repeat (first | rw [if_pos (by omega)] at he | rw [if_neg (by omega)] at he))
   all_goals first
    | (show ab _ _ _ _ _ _
       rw [← he]
       refine ab.mk [] ?_ <;> (repeat' first | trivial)
       done)
    | (refine ⟨trivial, hdb, ?_⟩; omega)
    | (refine ⟨by omega, trivial, hdb, ?_⟩; omega)
    | skip
   . refine ⟨[], (n, d.byte.fail 3, o), ⟨(fA hdb 3).1, lf.1.trans hds2, ?_, ?_, he⟩, ?_, by show n < n + 1; omega⟩
     . have := m1 (by omega) (by omega)
       show (d.byte.fail 3).mu < n; omega
     . have := lf.2.2
       show o.length ≤ 4 * (d.byte.fail 3).p; omega
     . refine Go.VG.Sub.mk rfl ?_ ?_ ?_ ?_ <;> (repeat' first | trivial)
   . refine ⟨[], (n, d.byte.dW, o ++ d.byte.gp), ⟨mF hdb, le.1.trans hds2, ?_, ?_, he⟩, ?_, by show n < n + 1; omega⟩
     . have := m2 (by omega) (by omega)
       show d.byte.dW.mu < n; omega
     . have := le.2.2; have := n1 (by omega) (by omega)
       show (o ++ d.byte.gp).length ≤ 4 * d.byte.dW.p
       rw [List.length_append]; omega
     . refine Go.VG.Sub.mk rfl ?_ ?_ ?_ ?_ <;> (repeat' first | trivial | apply aa | apply ak)
       rw [dw]
   . refine ⟨[], (n, d.byte.fg d.af, o ++ d.byte.hP d.af), ⟨nf hdb _, lr.1.trans hds2, ?_, ?_, he⟩, ?_, by show n < n + 1; omega⟩
     . have := m3 (by omega) (by omega)
       show (d.byte.fg d.af).mu < n; omega
     . have := lr.2.2; have := n1 (by omega) (by omega)
       show (o ++ d.byte.hP d.af).length ≤ 4 * (d.byte.fg d.af).p
       rw [List.length_append]; omega
     . refine Go.VG.Sub.mk rfl ?_ ?_ ?_ ?_ <;> (repeat' first | trivial | apply aa | apply ak)
       rw [dw]
   . refine ⟨[], (n, d.byte, o), ⟨hdb, hds2, ?_, by show o.length ≤ 4 * d.byte.p; omega, he⟩, ?_, by show n < n + 1; omega⟩
     . have := m0 (by omega) (by omega)
       show d.byte.mu < n; omega
     . refine Go.VG.Sub.mk rfl ?_ ?_ ?_ ?_ <;> (repeat' first | trivial)
def wz : Sm := fun args σ => match args, σ with
 | [.ptr 0 0], [.cells ([.str s_c, .int .i64 (.ofNat a_c), .int .i64 (.ofNat e_c), .int .i64 c_c])] => some (True ∧ ((Cu.mk s_c a_c e_c c_c).ok ∧ (Cu.mk s_c a_c e_c c_c).s.length ≤ 100000000), .str (Cu.mk s_c a_c e_c c_c).read.2, some [.cells (eC (Cu.mk s_c a_c e_c c_c).read.1)])
 | _, _ => none
theorem GH : aE 44 wz := by
 intro args sg pre x r he hp
 unfold wz at he
 split at he <;> cases he
 . rw [cR (hp).1]; exact EZ (hp := hp.2) ..
end Go.Proofs.YtllncocibkgjkaaDoor
