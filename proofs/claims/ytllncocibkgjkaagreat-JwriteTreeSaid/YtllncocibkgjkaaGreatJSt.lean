/-
  A part of the proof.
-/
import Derived.Test.YtllncocibkgjkaaGreatJSp
set_option linter.unusedSimpArgs false
set_option linter.unusedVariables false
set_option maxHeartbeats 4000000
namespace Go.Proofs.YtllncocibkgjkaaGreat
open Go Go.VG
set_option maxRecDepth 100000
theorem tV : bl [] = [] := rfl
theorem F6 (c : Cu) (o : List V) (hp : c.ok ∧ o.length ≤ 2000000000) : OK 124 ([.ptr 0 0]) ([.cells [.ptr 1 0, .buf 2], .cells (eC c), .buf 1 0 o]) (.tuple []) (some [.cells [.ptr 1 0, .buf 2], .cells (eC c.dE), .buf 1 0 (o ++ bl c.fW)]) := by
 refine aq (C := cx [(98, jd), (131, wD), (73, jD), (132, xo), (133, wE), (104, jE)]) (ar ⟨jV, HB, kG, Ij, HC, kH, trivial⟩) (fn := Tryz.f124) rfl rfl rfl rfl fun hw hs => ?_
 obtain ⟨hp, ho⟩ := hp
 have h1 := ec hp
 have h2 := Bl h1
 have hb : c.ah.toNat < 256 := c.ah.toNat_lt
 have hbb : byte c.ah.toNat = c.ah := c5 _
 repeat' ((conv => whnf); first | apply ak | apply aV | (apply al <;> intro h))
 all_goals try conv => whnf
 all_goals try (refine ab.mk ?_; try dsimp only)
 all_goals (try simp only [aP] at *)
 all_goals first | refine stay ?_ | trivial | (simp only [cK]; omega) | (simp (discharger := omega) [-List.getD_eq_getElem?_getD, wR] <;> omega) | skip
 all_goals (try simp only [hbb] at *)
 all_goals first
  | exact ⟨Je (by assumption), by omega⟩
  | skip
 all_goals
  first
  | (have hpl : dW c.ah = true := decide_eq_true (by assumption))
  | (have hpl : dW c.ah = false := decide_eq_false (by assumption))
  | (have hpl : dW c.ah = dW c.ah := rfl)
  unfold Cu.dE Cu.fW
  try rw [hpl]
  repeat (first | rw [if_pos (by first | rfl | omega)] | rw [if_neg (by first | exact Bool.false_ne_true | omega)])
  refine a8.mk [] ?_ <;> (repeat' first | trivial | apply aj | apply aM)
 all_goals (try rw [tV, List.append_nil])
def wx : Sm := fun args σ => match args, σ with
 | [.ptr 0 0], [.cells [.ptr 1 0, .buf 2], .cells ([.str s_c, .int .i64 (.ofNat a_c), .int .i64 (.ofNat e_c), .int .i64 c_c]), .buf 1 0 o] => some (True ∧ ((Cu.mk s_c a_c e_c c_c).ok ∧ o.length ≤ 2000000000), .tuple [], some [.cells [.ptr 1 0, .buf 2], .cells (eC (Cu.mk s_c a_c e_c c_c).dE), .buf 1 0 (o ++ bl (Cu.mk s_c a_c e_c c_c).fW)])
 | _, _ => none
theorem Hx : ay 124 wx := by
 intro args sg pre x r he hp
 unfold wx at he
 split at he <;> cases he
 . rw [bZ (hp).1]; exact F6 (hp := hp.2) ..
theorem BO {n : Nat} {d : Cu} {s : List UInt8} (h : n = 0 ∨ ¬ (d.c = 0 ∧ d.p < d.e) ∨ ¬ d.ah.toNat / 64 * 64 = 128) : cQ n d s = (d, s) := by
 cases n with
 | zero => rw [cQ]
 | succ n =>
   rw [cQ, if_neg]
   rw [gw]; omega
theorem BL {n : Nat} {d : Cu} {s : List UInt8} (h0 : 0 < n) (h : d.c = 0 ∧ d.p < d.e) (h2 : d.ah.toNat / 64 * 64 = 128) : cQ n d s = cQ (n - 1) d.byte (s ++ [d.ah]) := by
 cases n with
 | zero => omega
 | succ n =>
   rw [cQ, if_pos ⟨h.1, h.2, by rw [gw]; have := d.ah.toNat_lt; omega⟩]; rfl
def rawI (b : UInt8) (o : List V) (c : Cu) : Unit ⊕ (Nat × Cu × List UInt8) → AS
 | .inl _ => ⟨55, [(0, .ptr 0 0), (1, bv b), (4, .list true 1 [bv b]), (10, .int .i64 (cB b)), (11, .int .i64 0)], [.cells [.ptr 1 0, .buf 2], .cells (eC c), .buf 1 0 o], []⟩
 | .inr (k, d, s) => ⟨55, [(0, .ptr 0 0), (1, bv b), (4, .buf 3), (10, .int .i64 (cB b)), (11, .int .i64 k)], [.cells [.ptr 1 0, .buf 2], .cells (eC d), .buf 1 0 o, .buf 1 0 (bl s)], [3]⟩
def K4 (b : UInt8) (c : Cu) : Unit ⊕ (Nat × Cu × List UInt8) → Prop
 | .inl _ => True
 | .inr (k, d, s) => 1 ≤ k ∧ k ≤ cB b ∧ d.ok ∧ s.length ≤ k + 1 ∧ cQ (cB b - k) d s = cQ (cB b) c [b]
def rawM (b : UInt8) : Unit ⊕ (Nat × Cu × List UInt8) → Nat
 | .inl _ => cB b
 | .inr (k, _, _) => cB b - k
theorem Fc (c : Cu) (o : List V) (b : UInt8) (hp : c.ok ∧ o.length ≤ 2000000000) : OK 125 ([.ptr 0 0, bv b]) ([.cells [.ptr 1 0, .buf 2], .cells (eC c), .buf 1 0 o]) (.tuple []) (some [.cells [.ptr 1 0, .buf 2], .cells (eC (c.eI b)), .buf 1 0 (o ++ bl (c.gK b))]) := by
 refine aq (C := cx [(134, wH), (96, lY), (98, jd), (135, xj), (104, jE)]) (ar ⟨HF, nY, jV, Ie, kH, trivial⟩) (fn := Tryz.f125) rfl rfl rfl rfl fun hw hs => ?_
 obtain ⟨hp, ho⟩ := hp
 have hb : b.toNat < 256 := b.toNat_lt
 have hbb : byte b.toNat = b := c5 _
 have ht := Ct b
 repeat' ((conv => whnf); apply ak)
 all_goals try conv => whnf
 all_goals try (refine ab.mk ?_; try dsimp only)
 all_goals first | refine stay ?_ | (simp (discharger := omega) [-List.getD_eq_getElem?_getD, wR] <;> omega) | skip
 rw [hbb]
 refine bn.mk _ (K4 b c) (rawI b o c) (rawM b) [] (.inl ()) trivial ?_ (fun x hx _ _ => ?_)
 . refine Go.VG.Sub.mk rfl ?_ ?_ ?_ ?_ <;> (repeat' first | trivial)
 match x, hx with
 | .inl _, _ =>
   have hc := c.ah.toNat_lt
   have h192 := tS _ hc
   repeat' ((conv => whnf); first | apply ak | apply aV | (apply al <;> intro h) | apply nT)
   all_goals try conv => whnf
   all_goals try (refine ab.mk ?_; try dsimp only)
   all_goals (try simp only [h192] at *)
   all_goals (try simp only [aP] at *)
   all_goals first | refine stay ?_ | trivial | omega | (simp only [cK]; omega) | (simp (discharger := omega) [-List.getD_eq_getElem?_getD, wR] <;> omega) | skip
   . refine ⟨[], .inr (1, c.byte, [b, c.ah]), ⟨by omega, by omega, ec hp, by simp, ?_⟩, ?_, by show cB b - 1 < cB b; omega⟩
     . exact (BL (n := cB b) (d := c) (s := [b]) (by omega) (by assumption) (by omega)).symm
     . refine Go.VG.Sub.mk rfl ?_ ?_ ?_ ?_ <;> (repeat' first | trivial)
   all_goals
    have he : cQ (cB b) c [b] = (c, [b]) := BO (by omega)
    unfold Cu.eI Cu.gK
    rw [he]
    first | rw [if_pos (by simp only [hbb] at *; omega), if_pos (by simp only [hbb] at *; omega)] | rw [if_neg (by simp only [hbb] at *; omega), if_neg (by simp only [hbb] at *; omega)]
    refine a8.mk [] ?_ <;> (repeat' first | trivial | apply aj | apply aM)
   all_goals (try rw [tV, List.append_nil])
 | .inr (k, d, s), ⟨hk, hk2, hd, hs2, he⟩ =>
   have hc := d.ah.toNat_lt
   have h192 := tS _ hc
   repeat' ((conv => whnf); first | apply ak | apply aV | (apply al <;> intro h) | apply mH)
   all_goals try conv => whnf
   all_goals try (refine ab.mk ?_; try dsimp only)
   all_goals (try simp only [h192] at *)
   all_goals (try simp only [aP] at *)
   all_goals first | refine stay ?_ | trivial | omega | (simp only [cK]; omega) | skip
   . refine ⟨[], .inr (k + 1, d.byte, s ++ [d.ah]), ⟨by omega, by omega, ec hd, by simp; omega, ?_⟩, ?_, by show cB b - (k + 1) < cB b - k; omega⟩
     . have e := BL (n := cB b - k) (d := d) (s := s) (by omega) (by assumption) (by omega)
       rw [← he, e, show cB b - k - 1 = cB b - (k + 1) by omega]
     . refine Go.VG.Sub.mk rfl ?_ ?_ ?_ ?_ <;> (repeat' first | trivial | apply aj | apply aR | apply aM)
       . (simp (discharger := omega) only [wR]; omega)
       . rw [cz]; rfl
   all_goals
    rw [BO (by omega)] at he
    unfold Cu.eI Cu.gK
    rw [← he]
    first | rw [if_pos (by omega), if_pos (by omega)] | rw [if_neg (by omega), if_neg (by omega)]
    refine a8.mk [] ?_ <;> (repeat' first | trivial | apply aj | apply aM)
   all_goals (try rw [tV, List.append_nil])
def wF : Sm := fun args σ => match args, σ with
 | [.ptr 0 0, .int .u8 n_b], [.cells [.ptr 1 0, .buf 2], .cells ([.str s_c, .int .i64 (.ofNat a_c), .int .i64 (.ofNat e_c), .int .i64 c_c]), .buf 1 0 o] => some ((0 ≤ n_b ∧ n_b ≤ 255) ∧ (True ∧ ((Cu.mk s_c a_c e_c c_c).ok ∧ o.length ≤ 2000000000)), .tuple [], some [.cells [.ptr 1 0, .buf 2], .cells (eC ((Cu.mk s_c a_c e_c c_c).eI (byte n_b))), .buf 1 0 (o ++ bl ((Cu.mk s_c a_c e_c c_c).gK (byte n_b)))])
 | _, _ => none
theorem HD : ay 125 wF := by
 intro args sg pre x r he hp
 unfold wF at he
 split at he <;> cases he
 . rw [dw (hp).1]; rw [bZ (hp.2).1]; exact Fc (hp := hp.2.2) ..
end Go.Proofs.YtllncocibkgjkaaGreat
namespace Go.Proofs.YtllncocibkgjkaaGreat
open Go Go.VG
set_option maxRecDepth 100000
def Cu.le (c d : Cu) : Prop := d.s = c.s ∧ d.e = c.e ∧ c.p ≤ d.p
theorem le_trans {c d f : Cu} (h : c.le d) (k : d.le f) : c.le f := ⟨k.1.trans h.1, k.2.1.trans h.2.1, Nat.le_trans h.2.2 k.2.2⟩
theorem le_refl (c : Cu) : c.le c := ⟨rfl, rfl, Nat.le_refl _⟩
theorem kJ (c : Cu) (k : Int) : c.le (c.fail k) := by unfold Cu.fail; split <;> exact ⟨rfl, rfl, Nat.le_refl _⟩
theorem IC (c : Cu) (n : Int) : c.le (c.pass n) := by
 unfold Cu.pass; repeat' split
 all_goals (refine ⟨rfl, rfl, ?_⟩; (try dsimp only); omega)
theorem eG (c : Cu) : c.le c.byte := IC c 1
theorem AI (c : Cu) : c.le c.eY := by
 unfold Cu.eY; split
 . exact eG c
 . exact le_trans (eG c) (kJ _ _)
theorem AH : ∀ (k : Nat) (c : Cu) (u : Int), c.le (dH k c u).1
 | 0, c, _ => by rw [dH]; exact le_refl c
 | k + 1, c, u => by
   rw [dH]; split
   . exact AI c
   . exact le_trans (AI c) (AH k _ _)
theorem AG (c : Cu) : c.le c.four.1 := AH 4 c 0
theorem AJ (c : Cu) (b : UInt8) : c.le (c.cv b) := by
 unfold Cu.cv; split
 . exact eG c
 . exact le_trans (eG c) (kJ _ _)
theorem IA (c : Cu) : c.le c.number.1 := by
 have h1 := AG c
 have h2 := le_trans (le_trans (le_trans h1 (AJ _ 92)) (AJ _ 117)) (AG _)
 unfold Cu.number
 repeat' split
 . exact h1
 . exact le_trans h1 (kJ _ _)
 . exact le_trans h2 (kJ _ _)
 . exact h2
theorem uZ (c : Cu) : c.le c.dE := by
 unfold Cu.dE; repeat' split
 . exact le_trans (eG c) (IA _)
 . exact eG c
 . exact le_trans (eG c) (kJ _ _)
theorem v8 : ∀ (k : Nat) (c : Cu) (s : List UInt8), c.le (cQ k c s).1
 | 0, c, _ => by rw [cQ]; exact le_refl c
 | k + 1, c, s => by
   rw [cQ]; split
   . exact le_trans (eG c) (v8 k _ _)
   . exact le_refl c
theorem v7 (c : Cu) (b : UInt8) : c.le (c.eI b) := by
 unfold Cu.eI; split
 . exact le_trans (v8 _ _ _) (kJ _ _)
 . exact v8 _ _ _
theorem uq (c : Cu) : c.fW.length ≤ 4 := by
 unfold Cu.fW; repeat' split
 . exact (oU _).2
 all_goals simp
theorem vG (c : Cu) (b : UInt8) : (c.gK b).length ≤ 4 := by
 have := BM (cB b) c [b]
 have := Ct b
 unfold Cu.gK; split
 . simp
 . simp at this ⊢; simp_all; omega
def fB : Nat → Cu → List UInt8 → Cu × List UInt8
 | 0, c, _ => (c, [])
 | n + 1, c, o =>
   if c.c ≠ 0 then (c, [])
   else if c.byte.c ≠ 0 then fB n c.byte o
   else if c.ah.toNat = 34 then (c.byte, o)
   else if c.ah.toNat < 32 then fB n (c.byte.fail 3) o
   else if c.ah.toNat = 92 then fB n c.byte.dE (o ++ c.byte.fW)
   else fB n (c.byte.eI c.ah) (o ++ c.byte.gK c.ah)
termination_by n => n
def Cu.mu (c : Cu) : Nat := if c.c ≠ 0 then 0 else c.e - c.p + 1
def Cu.start (c : Cu) : Cu := if (c.c = 0 ∧ c.p < c.e) ∧ c.ah.toNat ≠ 34 then c.fail 3 else c
def Cu.read (c : Cu) : Cu × List UInt8 := fB (c.start.byte.mu + 1) c.start.byte []
theorem Lh {c : Cu} (h : c.ok) : c.start.ok := by unfold Cu.start; split; exact (eV h 3).1; exact h
theorem r7 {c : Cu} (h : c.ok) (h0 : c.c = 0) (h1 : c.byte.c = 0) : c.byte.p = c.p + 1 := by
 unfold Cu.byte Cu.pass at h1 ⊢
 obtain ⟨a, b⟩ := h
 rw [if_neg (by omega), if_neg (by omega)] at h1 ⊢
 split at h1
 . cases h1
 . rename_i q; rw [if_neg q]; rfl
theorem kL {c d : Cu} (h : c.ok) (h0 : c.c = 0) (h1 : c.byte.c = 0) (hd : c.byte.le d) (k : d.ok) : d.mu < c.mu := by
 have := r7 h h0 h1
 have e1 := (eG c).2.1
 obtain ⟨d1, d2, d3⟩ := hd
 obtain ⟨k1, k2⟩ := k
 unfold Cu.mu
 rw [if_neg (show ¬ c.c ≠ 0 by omega)]
 split <;> omega
theorem ve {c d : Cu} (h0 : c.c = 0) (h1 : d.c ≠ 0) : d.mu < c.mu := by
 unfold Cu.mu; rw [if_pos h1, if_neg (by omega)]; omega
theorem Fe (c : Cu) (hp : c.ok ∧ c.s.length ≤ 100000000) : OK 99 ([.ptr 0 0]) ([.cells (eC c)]) (.str c.read.2) (some [.cells (eC c.read.1)]) := by
 refine aq (C := cx [(96, lY), (104, jE), (98, jd), (73, jD), (124, wx), (125, wF)]) (ar ⟨nY, kH, jV, kG, Hx, HD, trivial⟩) (fn := Tryz.f99) rfl rfl rfl rfl fun hw hs => ?_
 obtain ⟨hp, hl⟩ := hp
 have hb : c.ah.toNat < 256 := c.ah.toNat_lt
 have k1 := Lh hp
 have k2 := ec k1
 have k3 := ec (eV hp 3).1
 repeat' ((conv => whnf); first | apply ak | apply aV | (apply al <;> intro h))
 all_goals try conv => whnf
 all_goals try (refine ab.mk ?_; try dsimp only)
 all_goals (try simp only [aP] at *)
 all_goals first | refine stay ?_ | trivial | skip
 . have hst : c.start = c := by unfold Cu.start; rw [if_neg (by omega)]
   refine bn.mk (Nat × Cu × List UInt8) (fun | (n, d, o) => d.ok ∧ d.s = c.s ∧ d.mu < n ∧ o.length ≤ 4 * d.p ∧ fB n d o = c.read) (fun | (n, d, o) => ⟨54, [(0, .ptr 0 0), (5, .ptr 1 0)], [.cells (eC d), .cells [.ptr 0 0, .buf 2], .buf 1 0 (bl o)], [2]⟩) (fun x => x.1) [.cell 1 1 1] (c.start.byte.mu + 1, c.start.byte, [])
    ⟨k2, by first | (rw [(eG _).1, hst]; done) | (rw [(eG _).1, hst]; exact (eV hp 3).2.1), by omega, by simp, rfl⟩ ?_ (fun ⟨n, d, o⟩ ⟨hd, hds, hm, ho, he⟩ _ _ => ?_)
   . rw [hst]
     refine Go.VG.Sub.mk rfl ?_ ?_ ?_ ?_ <;> (repeat' first | trivial)
   have hdb := ec hd
   have hd1 := hd.1
   have hd2 := hd.2
   have hb := d.ah.toNat_lt
   obtain ⟨n, rfl⟩ : ∃ m, n = m + 1 := ⟨n - 1, by omega⟩
   rw [fB] at he
   have hsl : d.s.length ≤ 100000000 := by rw [hds]; exact hl
   have hbl := fv o
   have n1 := fun h0 h1 => r7 hd h0 h1
   have m0 := fun h0 h1 => ve (c := d) (d := d.byte) h0 h1
   have lf := kJ d.byte 3
   have m1 := fun h0 h1 => kL hd h0 h1 lf (eV hdb 3).1
   have le := uZ d.byte
   have m2 := fun h0 h1 => kL hd h0 h1 le (my hdb)
   have lr := v7 d.byte d.ah
   have m3 := fun h0 h1 => kL hd h0 h1 lr (mZ hdb _)
   have q1 := uq d.byte
   have q2 := vG d.byte d.ah
   have hds2 : d.byte.s = c.s := (eG d).1.trans hds
   have hp2 := (eG d).2.2
   have hvb : byte d.ah.toNat = d.ah := c5 _
   repeat' ((conv => whnf); first | apply ak | apply aV | (apply al <;> intro h) | apply mH)
   all_goals try conv => whnf
   all_goals try (refine ab.mk ?_; try dsimp only)
   all_goals (try simp only [aP] at *)
   all_goals first | refine stay ?_ | trivial | skip
   all_goals (try simp only [hvb] at *)
   all_goals (repeat (first | rw [if_pos (by omega)] at he | rw [if_neg (by omega)] at he))
   all_goals first
    | (show a8 _ _ _ _ _ _
       rw [← he]
       refine a8.mk [] ?_ <;> (repeat' first | trivial)
       done)
    | (refine ⟨trivial, hdb, ?_⟩; omega)
    | (refine ⟨by omega, trivial, hdb, ?_⟩; omega)
    | skip
   . refine ⟨[], (n, d.byte.fail 3, o), ⟨(eV hdb 3).1, lf.1.trans hds2, ?_, ?_, he⟩, ?_, by show n < n + 1; omega⟩
     . have := m1 (by omega) (by omega)
       show (d.byte.fail 3).mu < n; omega
     . have := lf.2.2
       show o.length ≤ 4 * (d.byte.fail 3).p; omega
     . refine Go.VG.Sub.mk rfl ?_ ?_ ?_ ?_ <;> (repeat' first | trivial)
   . refine ⟨[], (n, d.byte.dE, o ++ d.byte.fW), ⟨my hdb, le.1.trans hds2, ?_, ?_, he⟩, ?_, by show n < n + 1; omega⟩
     . have := m2 (by omega) (by omega)
       show d.byte.dE.mu < n; omega
     . have := le.2.2; have := n1 (by omega) (by omega)
       show (o ++ d.byte.fW).length ≤ 4 * d.byte.dE.p
       rw [List.length_append]; omega
     . refine Go.VG.Sub.mk rfl ?_ ?_ ?_ ?_ <;> (repeat' first | trivial | apply aj | apply aM)
       rw [cz]
   . refine ⟨[], (n, d.byte.eI d.ah, o ++ d.byte.gK d.ah), ⟨mZ hdb _, lr.1.trans hds2, ?_, ?_, he⟩, ?_, by show n < n + 1; omega⟩
     . have := m3 (by omega) (by omega)
       show (d.byte.eI d.ah).mu < n; omega
     . have := lr.2.2; have := n1 (by omega) (by omega)
       show (o ++ d.byte.gK d.ah).length ≤ 4 * (d.byte.eI d.ah).p
       rw [List.length_append]; omega
     . refine Go.VG.Sub.mk rfl ?_ ?_ ?_ ?_ <;> (repeat' first | trivial | apply aj | apply aM)
       rw [cz]
   . refine ⟨[], (n, d.byte, o), ⟨hdb, hds2, ?_, by show o.length ≤ 4 * d.byte.p; omega, he⟩, ?_, by show n < n + 1; omega⟩
     . have := m0 (by omega) (by omega)
       show d.byte.mu < n; omega
     . refine Go.VG.Sub.mk rfl ?_ ?_ ?_ ?_ <;> (repeat' first | trivial)
 . exact ⟨trivial, (eV hp 3).1⟩
 . have hst : c.start = c.fail 3 := by unfold Cu.start; rw [if_pos ⟨by assumption, by omega⟩]
   refine bn.mk (Nat × Cu × List UInt8) (fun | (n, d, o) => d.ok ∧ d.s = c.s ∧ d.mu < n ∧ o.length ≤ 4 * d.p ∧ fB n d o = c.read) (fun | (n, d, o) => ⟨54, [(0, .ptr 0 0), (5, .ptr 1 0)], [.cells (eC d), .cells [.ptr 0 0, .buf 2], .buf 1 0 (bl o)], [2]⟩) (fun x => x.1) [.cell 1 1 1] (c.start.byte.mu + 1, c.start.byte, [])
    ⟨k2, by first | (rw [(eG _).1, hst]; done) | (rw [(eG _).1, hst]; exact (eV hp 3).2.1), by omega, by simp, rfl⟩ ?_ (fun ⟨n, d, o⟩ ⟨hd, hds, hm, ho, he⟩ _ _ => ?_)
   . rw [hst]
     refine Go.VG.Sub.mk rfl ?_ ?_ ?_ ?_ <;> (repeat' first | trivial)
   have hdb := ec hd
   have hd1 := hd.1
   have hd2 := hd.2
   have hb := d.ah.toNat_lt
   obtain ⟨n, rfl⟩ : ∃ m, n = m + 1 := ⟨n - 1, by omega⟩
   rw [fB] at he
   have hsl : d.s.length ≤ 100000000 := by rw [hds]; exact hl
   have hbl := fv o
   have n1 := fun h0 h1 => r7 hd h0 h1
   have m0 := fun h0 h1 => ve (c := d) (d := d.byte) h0 h1
   have lf := kJ d.byte 3
   have m1 := fun h0 h1 => kL hd h0 h1 lf (eV hdb 3).1
   have le := uZ d.byte
   have m2 := fun h0 h1 => kL hd h0 h1 le (my hdb)
   have lr := v7 d.byte d.ah
   have m3 := fun h0 h1 => kL hd h0 h1 lr (mZ hdb _)
   have q1 := uq d.byte
   have q2 := vG d.byte d.ah
   have hds2 : d.byte.s = c.s := (eG d).1.trans hds
   have hp2 := (eG d).2.2
   have hvb : byte d.ah.toNat = d.ah := c5 _
   repeat' ((conv => whnf); first | apply ak | apply aV | (apply al <;> intro h) | apply mH)
   all_goals try conv => whnf
   all_goals try (refine ab.mk ?_; try dsimp only)
   all_goals (try simp only [aP] at *)
   all_goals first | refine stay ?_ | trivial | skip
   all_goals (try simp only [hvb] at *)
   all_goals (repeat (first | rw [if_pos (by omega)] at he | rw [if_neg (by omega)] at he))
   all_goals first
    | (show a8 _ _ _ _ _ _
       rw [← he]
       refine a8.mk [] ?_ <;> (repeat' first | trivial)
       done)
    | (refine ⟨trivial, hdb, ?_⟩; omega)
    | (refine ⟨by omega, trivial, hdb, ?_⟩; omega)
    | skip
   . refine ⟨[], (n, d.byte.fail 3, o), ⟨(eV hdb 3).1, lf.1.trans hds2, ?_, ?_, he⟩, ?_, by show n < n + 1; omega⟩
     . have := m1 (by omega) (by omega)
       show (d.byte.fail 3).mu < n; omega
     . have := lf.2.2
       show o.length ≤ 4 * (d.byte.fail 3).p; omega
     . refine Go.VG.Sub.mk rfl ?_ ?_ ?_ ?_ <;> (repeat' first | trivial)
   . refine ⟨[], (n, d.byte.dE, o ++ d.byte.fW), ⟨my hdb, le.1.trans hds2, ?_, ?_, he⟩, ?_, by show n < n + 1; omega⟩
     . have := m2 (by omega) (by omega)
       show d.byte.dE.mu < n; omega
     . have := le.2.2; have := n1 (by omega) (by omega)
       show (o ++ d.byte.fW).length ≤ 4 * d.byte.dE.p
       rw [List.length_append]; omega
     . refine Go.VG.Sub.mk rfl ?_ ?_ ?_ ?_ <;> (repeat' first | trivial | apply aj | apply aM)
       rw [cz]
   . refine ⟨[], (n, d.byte.eI d.ah, o ++ d.byte.gK d.ah), ⟨mZ hdb _, lr.1.trans hds2, ?_, ?_, he⟩, ?_, by show n < n + 1; omega⟩
     . have := m3 (by omega) (by omega)
       show (d.byte.eI d.ah).mu < n; omega
     . have := lr.2.2; have := n1 (by omega) (by omega)
       show (o ++ d.byte.gK d.ah).length ≤ 4 * (d.byte.eI d.ah).p
       rw [List.length_append]; omega
     . refine Go.VG.Sub.mk rfl ?_ ?_ ?_ ?_ <;> (repeat' first | trivial | apply aj | apply aM)
       rw [cz]
   . refine ⟨[], (n, d.byte, o), ⟨hdb, hds2, ?_, by show o.length ≤ 4 * d.byte.p; omega, he⟩, ?_, by show n < n + 1; omega⟩
     . have := m0 (by omega) (by omega)
       show d.byte.mu < n; omega
     . refine Go.VG.Sub.mk rfl ?_ ?_ ?_ ?_ <;> (repeat' first | trivial)
 . have hst : c.start = c := by unfold Cu.start; rw [if_neg (fun h => by have := h.1; omega)]
   refine bn.mk (Nat × Cu × List UInt8) (fun | (n, d, o) => d.ok ∧ d.s = c.s ∧ d.mu < n ∧ o.length ≤ 4 * d.p ∧ fB n d o = c.read) (fun | (n, d, o) => ⟨54, [(0, .ptr 0 0), (5, .ptr 1 0)], [.cells (eC d), .cells [.ptr 0 0, .buf 2], .buf 1 0 (bl o)], [2]⟩) (fun x => x.1) [.cell 1 1 1] (c.start.byte.mu + 1, c.start.byte, [])
    ⟨k2, by first | (rw [(eG _).1, hst]; done) | (rw [(eG _).1, hst]; exact (eV hp 3).2.1), by omega, by simp, rfl⟩ ?_ (fun ⟨n, d, o⟩ ⟨hd, hds, hm, ho, he⟩ _ _ => ?_)
   . rw [hst]
     refine Go.VG.Sub.mk rfl ?_ ?_ ?_ ?_ <;> (repeat' first | trivial)
   have hdb := ec hd
   have hd1 := hd.1
   have hd2 := hd.2
   have hb := d.ah.toNat_lt
   obtain ⟨n, rfl⟩ : ∃ m, n = m + 1 := ⟨n - 1, by omega⟩
   rw [fB] at he
   have hsl : d.s.length ≤ 100000000 := by rw [hds]; exact hl
   have hbl := fv o
   have n1 := fun h0 h1 => r7 hd h0 h1
   have m0 := fun h0 h1 => ve (c := d) (d := d.byte) h0 h1
   have lf := kJ d.byte 3
   have m1 := fun h0 h1 => kL hd h0 h1 lf (eV hdb 3).1
   have le := uZ d.byte
   have m2 := fun h0 h1 => kL hd h0 h1 le (my hdb)
   have lr := v7 d.byte d.ah
   have m3 := fun h0 h1 => kL hd h0 h1 lr (mZ hdb _)
   have q1 := uq d.byte
   have q2 := vG d.byte d.ah
   have hds2 : d.byte.s = c.s := (eG d).1.trans hds
   have hp2 := (eG d).2.2
   have hvb : byte d.ah.toNat = d.ah := c5 _
   repeat' ((conv => whnf); first | apply ak | apply aV | (apply al <;> intro h) | apply mH)
   all_goals try conv => whnf
   all_goals try (refine ab.mk ?_; try dsimp only)
   all_goals (try simp only [aP] at *)
   all_goals first | refine stay ?_ | trivial | skip
   all_goals (try simp only [hvb] at *)
   all_goals (repeat (first | rw [if_pos (by omega)] at he | rw [if_neg (by omega)] at he))
   all_goals first
    | (show a8 _ _ _ _ _ _
       rw [← he]
       refine a8.mk [] ?_ <;> (repeat' first | trivial)
       done)
    | (refine ⟨trivial, hdb, ?_⟩; omega)
    | (refine ⟨by omega, trivial, hdb, ?_⟩; omega)
    | skip
   . refine ⟨[], (n, d.byte.fail 3, o), ⟨(eV hdb 3).1, lf.1.trans hds2, ?_, ?_, he⟩, ?_, by show n < n + 1; omega⟩
     . have := m1 (by omega) (by omega)
       show (d.byte.fail 3).mu < n; omega
     . have := lf.2.2
       show o.length ≤ 4 * (d.byte.fail 3).p; omega
     . refine Go.VG.Sub.mk rfl ?_ ?_ ?_ ?_ <;> (repeat' first | trivial)
   . refine ⟨[], (n, d.byte.dE, o ++ d.byte.fW), ⟨my hdb, le.1.trans hds2, ?_, ?_, he⟩, ?_, by show n < n + 1; omega⟩
     . have := m2 (by omega) (by omega)
       show d.byte.dE.mu < n; omega
     . have := le.2.2; have := n1 (by omega) (by omega)
       show (o ++ d.byte.fW).length ≤ 4 * d.byte.dE.p
       rw [List.length_append]; omega
     . refine Go.VG.Sub.mk rfl ?_ ?_ ?_ ?_ <;> (repeat' first | trivial | apply aj | apply aM)
       rw [cz]
   . refine ⟨[], (n, d.byte.eI d.ah, o ++ d.byte.gK d.ah), ⟨mZ hdb _, lr.1.trans hds2, ?_, ?_, he⟩, ?_, by show n < n + 1; omega⟩
     . have := m3 (by omega) (by omega)
       show (d.byte.eI d.ah).mu < n; omega
     . have := lr.2.2; have := n1 (by omega) (by omega)
       show (o ++ d.byte.gK d.ah).length ≤ 4 * (d.byte.eI d.ah).p
       rw [List.length_append]; omega
     . refine Go.VG.Sub.mk rfl ?_ ?_ ?_ ?_ <;> (repeat' first | trivial | apply aj | apply aM)
       rw [cz]
   . refine ⟨[], (n, d.byte, o), ⟨hdb, hds2, ?_, by show o.length ≤ 4 * d.byte.p; omega, he⟩, ?_, by show n < n + 1; omega⟩
     . have := m0 (by omega) (by omega)
       show d.byte.mu < n; omega
     . refine Go.VG.Sub.mk rfl ?_ ?_ ?_ ?_ <;> (repeat' first | trivial)
def wG : Sm := fun args σ => match args, σ with
 | [.ptr 0 0], [.cells ([.str s_c, .int .i64 (.ofNat a_c), .int .i64 (.ofNat e_c), .int .i64 c_c])] => some (True ∧ ((Cu.mk s_c a_c e_c c_c).ok ∧ (Cu.mk s_c a_c e_c c_c).s.length ≤ 100000000), .str (Cu.mk s_c a_c e_c c_c).read.2, some [.cells (eC (Cu.mk s_c a_c e_c c_c).read.1)])
 | _, _ => none
theorem HE : ay 99 wG := by
 intro args sg pre x r he hp
 unfold wG at he
 split at he <;> cases he
 . rw [bZ (hp).1]; exact Fe (hp := hp.2) ..
end Go.Proofs.YtllncocibkgjkaaGreat
