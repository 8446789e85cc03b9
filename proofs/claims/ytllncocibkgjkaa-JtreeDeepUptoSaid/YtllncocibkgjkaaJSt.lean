/-
  A part of the proof.
-/
import Derived.Test.YtllncocibkgjkaaJSp
set_option linter.unusedSimpArgs false
set_option linter.unusedVariables false
set_option maxHeartbeats 4000000
namespace Go.Proofs.Ytllncocibkgjkaa
open Go Go.VG
set_option maxRecDepth 100000
theorem td : bl [] = [] := rfl
theorem E9 (c : Cu) (o : List V) (hp : c.ok ∧ o.length ≤ 2000000000) : OK 77 ([.ptr 0 0]) ([.cells [.ptr 1 0, .buf 2], .cells (eC c), .buf 1 0 o]) (.tuple []) (some [.cells [.ptr 1 0, .buf 2], .cells (eC c.dB), .buf 1 0 (o ++ bl c.fR)]) := by
 refine aC (C := cx [(44, iR), (92, vO), (21, iS), (93, wL), (94, vP), (49, jl)]) (ay ⟨jD, Gt, jE, Hd, Gu, kg, trivial⟩) (fn := Try.f77) rfl rfl rfl rfl fun hw hs => ?_
 obtain ⟨hp, ho⟩ := hp
 have h1 := eb hp
 have h2 := AF h1
 have hb : c.ai.toNat < 256 := c.ai.toNat_lt
 have hbb : byte c.ai.toNat = c.ai := bH _
 repeat' ((conv => whnf); first | apply al | apply aZ | (apply ao <;> intro h))
 all_goals try conv => whnf
 all_goals try (refine ae.mk ?_; try dsimp only)
 all_goals (try simp only [aR] at *)
 all_goals first | refine stay ?_ | trivial | (simp only [d7]; omega) | (simp (discharger := omega) [-List.getD_eq_getElem?_getD, wR] <;> omega) | skip
 all_goals (try simp only [hbb] at *)
 all_goals first
  | exact ⟨HY (by assumption), by omega⟩
  | skip
 all_goals
  first
  | (have hpl : dU c.ai = true := decide_eq_true (by assumption))
  | (have hpl : dU c.ai = false := decide_eq_false (by assumption))
  | (have hpl : dU c.ai = dU c.ai := rfl)
  unfold Cu.dB Cu.fR
  try rw [hpl]
  repeat (first | rw [if_pos (by first | rfl | omega)] | rw [if_neg (by first | exact Bool.false_ne_true | omega)])
  refine a8.mk [] ?_ <;> (repeat' first | trivial | apply aj | apply aV)
 all_goals (try rw [td, List.append_nil])
def vK : Sm := fun args σ => match args, σ with
 | [.ptr 0 0], [.cells [.ptr 1 0, .buf 2], .cells ([.str s_c, .int .i64 (.ofNat a_c), .int .i64 (.ofNat e_c), .int .i64 c_c]), .buf 1 0 o] => some (True ∧ ((Cu.mk s_c a_c e_c c_c).ok ∧ o.length ≤ 2000000000), .tuple [], some [.cells [.ptr 1 0, .buf 2], .cells (eC (Cu.mk s_c a_c e_c c_c).dB), .buf 1 0 (o ++ bl (Cu.mk s_c a_c e_c c_c).fR)])
 | _, _ => none
theorem Gp : aD 77 vK := by
 intro args sg pre x r he hp
 unfold vK at he
 split at he <;> cases he
 . rw [bZ (hp).1]; exact E9 (hp := hp.2) ..
theorem B9 {n : Nat} {d : Cu} {s : List UInt8} (h : n = 0 ∨ ¬ (d.c = 0 ∧ d.p < d.e) ∨ ¬ d.ai.toNat / 64 * 64 = 128) : cM n d s = (d, s) := by
 cases n with
 | zero => rw [cM]
 | succ n =>
   rw [cM, if_neg]
   rw [ga]; omega
theorem B4 {n : Nat} {d : Cu} {s : List UInt8} (h0 : 0 < n) (h : d.c = 0 ∧ d.p < d.e) (h2 : d.ai.toNat / 64 * 64 = 128) : cM n d s = cM (n - 1) d.byte (s ++ [d.ai]) := by
 cases n with
 | zero => omega
 | succ n =>
   rw [cM, if_pos ⟨h.1, h.2, by rw [ga]; have := d.ai.toNat_lt; omega⟩]; rfl
def rawI (b : UInt8) (o : List V) (c : Cu) : Unit ⊕ (Nat × Cu × List UInt8) → AS
 | .inl _ => ⟨55, [(0, .ptr 0 0), (1, bv b), (4, .list true 1 [bv b]), (10, .int .i64 (cA b)), (11, .int .i64 0)], [.cells [.ptr 1 0, .buf 2], .cells (eC c), .buf 1 0 o], []⟩
 | .inr (k, d, s) => ⟨55, [(0, .ptr 0 0), (1, bv b), (4, .buf 3), (10, .int .i64 (cA b)), (11, .int .i64 k)], [.cells [.ptr 1 0, .buf 2], .cells (eC d), .buf 1 0 o, .buf 1 0 (bl s)], [3]⟩
def IM (b : UInt8) (c : Cu) : Unit ⊕ (Nat × Cu × List UInt8) → Prop
 | .inl _ => True
 | .inr (k, d, s) => 1 ≤ k ∧ k ≤ cA b ∧ d.ok ∧ s.length ≤ k + 1 ∧ cM (cA b - k) d s = cM (cA b) c [b]
def rawM (b : UInt8) : Unit ⊕ (Nat × Cu × List UInt8) → Nat
 | .inl _ => cA b
 | .inr (k, _, _) => cA b - k
theorem Ei (c : Cu) (o : List V) (b : UInt8) (hp : c.ok ∧ o.length ≤ 2000000000) : OK 78 ([.ptr 0 0, bv b]) ([.cells [.ptr 1 0, .buf 2], .cells (eC c), .buf 1 0 o]) (.tuple []) (some [.cells [.ptr 1 0, .buf 2], .cells (eC (c.eJ b)), .buf 1 0 (o ++ bl (c.gw b))]) := by
 refine aC (C := cx [(95, vS), (43, lG), (44, iR), (96, wG), (49, jl)]) (ay ⟨Gx, nL, jD, H9, kg, trivial⟩) (fn := Try.f78) rfl rfl rfl rfl fun hw hs => ?_
 obtain ⟨hp, ho⟩ := hp
 have hb : b.toNat < 256 := b.toNat_lt
 have hbb : byte b.toNat = b := bH _
 have ht := BN b
 repeat' ((conv => whnf); apply al)
 all_goals try conv => whnf
 all_goals try (refine ae.mk ?_; try dsimp only)
 all_goals first | refine stay ?_ | (simp (discharger := omega) [-List.getD_eq_getElem?_getD, wR] <;> omega) | skip
 rw [hbb]
 refine bn.mk _ (IM b c) (rawI b o c) (rawM b) [] (.inl ()) trivial ?_ (fun x hx _ _ => ?_)
 . refine Go.VG.Sub.mk rfl ?_ ?_ ?_ ?_ <;> (repeat' first | trivial)
 match x, hx with
 | .inl _, _ =>
   have hc := c.ai.toNat_lt
   have h192 := ta _ hc
   repeat' ((conv => whnf); first | apply al | apply aZ | (apply ao <;> intro h) | apply nE)
   all_goals try conv => whnf
   all_goals try (refine ae.mk ?_; try dsimp only)
   all_goals (try simp only [h192] at *)
   all_goals (try simp only [aR] at *)
   all_goals first | refine stay ?_ | trivial | omega | (simp only [d7]; omega) | (simp (discharger := omega) [-List.getD_eq_getElem?_getD, wR] <;> omega) | skip
   . refine ⟨[], .inr (1, c.byte, [b, c.ai]), ⟨by omega, by omega, eb hp, by simp, ?_⟩, ?_, by show cA b - 1 < cA b; omega⟩
     . exact (B4 (n := cA b) (d := c) (s := [b]) (by omega) (by assumption) (by omega)).symm
     . refine Go.VG.Sub.mk rfl ?_ ?_ ?_ ?_ <;> (repeat' first | trivial)
   all_goals
    have he : cM (cA b) c [b] = (c, [b]) := B9 (by omega)
    unfold Cu.eJ Cu.gw
    rw [he]
    first | rw [if_pos (by simp only [hbb] at *; omega), if_pos (by simp only [hbb] at *; omega)] | rw [if_neg (by simp only [hbb] at *; omega), if_neg (by simp only [hbb] at *; omega)]
    refine a8.mk [] ?_ <;> (repeat' first | trivial | apply aj | apply aV)
   all_goals (try rw [td, List.append_nil])
 | .inr (k, d, s), ⟨hk, hk2, hd, hs2, he⟩ =>
   have hc := d.ai.toNat_lt
   have h192 := ta _ hc
   repeat' ((conv => whnf); first | apply al | apply aZ | (apply ao <;> intro h) | apply mh)
   all_goals try conv => whnf
   all_goals try (refine ae.mk ?_; try dsimp only)
   all_goals (try simp only [h192] at *)
   all_goals (try simp only [aR] at *)
   all_goals first | refine stay ?_ | trivial | omega | (simp only [d7]; omega) | skip
   . refine ⟨[], .inr (k + 1, d.byte, s ++ [d.ai]), ⟨by omega, by omega, eb hd, by simp; omega, ?_⟩, ?_, by show cA b - (k + 1) < cA b - k; omega⟩
     . have e := B4 (n := cA b - k) (d := d) (s := s) (by omega) (by assumption) (by omega)
       rw [← he, e, show cA b - k - 1 = cA b - (k + 1) by omega]
     . refine Go.VG.Sub.mk rfl ?_ ?_ ?_ ?_ <;> (repeat' first | trivial | apply aj | apply aQ | apply aV)
       . (simp (discharger := omega) only [wR]; omega)
       . rw [eE]; rfl
   all_goals
    rw [B9 (by omega)] at he
    unfold Cu.eJ Cu.gw
    rw [← he]
    first | rw [if_pos (by omega), if_pos (by omega)] | rw [if_neg (by omega), if_neg (by omega)]
    refine a8.mk [] ?_ <;> (repeat' first | trivial | apply aj | apply aV)
   all_goals (try rw [td, List.append_nil])
def vQ : Sm := fun args σ => match args, σ with
 | [.ptr 0 0, .int .u8 n_b], [.cells [.ptr 1 0, .buf 2], .cells ([.str s_c, .int .i64 (.ofNat a_c), .int .i64 (.ofNat e_c), .int .i64 c_c]), .buf 1 0 o] => some ((0 ≤ n_b ∧ n_b ≤ 255) ∧ (True ∧ ((Cu.mk s_c a_c e_c c_c).ok ∧ o.length ≤ 2000000000)), .tuple [], some [.cells [.ptr 1 0, .buf 2], .cells (eC ((Cu.mk s_c a_c e_c c_c).eJ (byte n_b))), .buf 1 0 (o ++ bl ((Cu.mk s_c a_c e_c c_c).gw (byte n_b)))])
 | _, _ => none
theorem Gv : aD 78 vQ := by
 intro args sg pre x r he hp
 unfold vQ at he
 split at he <;> cases he
 . rw [da (hp).1]; rw [bZ (hp.2).1]; exact Ei (hp := hp.2.2) ..
end Go.Proofs.Ytllncocibkgjkaa
namespace Go.Proofs.Ytllncocibkgjkaa
open Go Go.VG
set_option maxRecDepth 100000
def Cu.le (c d : Cu) : Prop := d.s = c.s ∧ d.e = c.e ∧ c.p ≤ d.p
theorem le_trans {c d f : Cu} (h : c.le d) (k : d.le f) : c.le f := ⟨k.1.trans h.1, k.2.1.trans h.2.1, Nat.le_trans h.2.2 k.2.2⟩
theorem le_refl (c : Cu) : c.le c := ⟨rfl, rfl, Nat.le_refl _⟩
theorem kh (c : Cu) (k : Int) : c.le (c.fail k) := by unfold Cu.fail; split <;> exact ⟨rfl, rfl, Nat.le_refl _⟩
theorem Hr (c : Cu) (n : Int) : c.le (c.pass n) := by
 unfold Cu.pass; repeat' split
 all_goals (refine ⟨rfl, rfl, ?_⟩; (try dsimp only); omega)
theorem eI (c : Cu) : c.le c.byte := Hr c 1
theorem zZ (c : Cu) : c.le c.eW := by
 unfold Cu.eW; split
 . exact eI c
 . exact le_trans (eI c) (kh _ _)
theorem zY : ∀ (k : Nat) (c : Cu) (u : Int), c.le (dC k c u).1
 | 0, c, _ => by rw [dC]; exact le_refl c
 | k + 1, c, u => by
   rw [dC]; split
   . exact zZ c
   . exact le_trans (zZ c) (zY k _ _)
theorem zX (c : Cu) : c.le c.four.1 := zY 4 c 0
theorem A4 (c : Cu) (b : UInt8) : c.le (c.cu b) := by
 unfold Cu.cu; split
 . exact eI c
 . exact le_trans (eI c) (kh _ _)
theorem Hp (c : Cu) : c.le c.number.1 := by
 have h1 := zX c
 have h2 := le_trans (le_trans (le_trans h1 (A4 _ 92)) (A4 _ 117)) (zX _)
 unfold Cu.number
 repeat' split
 . exact h1
 . exact le_trans h1 (kh _ _)
 . exact le_trans h2 (kh _ _)
 . exact h2
theorem uz (c : Cu) : c.le c.dB := by
 unfold Cu.dB; repeat' split
 . exact le_trans (eI c) (Hp _)
 . exact eI c
 . exact le_trans (eI c) (kh _ _)
theorem uB : ∀ (k : Nat) (c : Cu) (s : List UInt8), c.le (cM k c s).1
 | 0, c, _ => by rw [cM]; exact le_refl c
 | k + 1, c, s => by
   rw [cM]; split
   . exact le_trans (eI c) (uB k _ _)
   . exact le_refl c
theorem uA (c : Cu) (b : UInt8) : c.le (c.eJ b) := by
 unfold Cu.eJ; split
 . exact le_trans (uB _ _ _) (kh _ _)
 . exact uB _ _ _
theorem tL (c : Cu) : c.fR.length ≤ 4 := by
 unfold Cu.fR; repeat' split
 . exact (oC _).2
 all_goals simp
theorem va (c : Cu) (b : UInt8) : (c.gw b).length ≤ 4 := by
 have := B6 (cA b) c [b]
 have := BN b
 unfold Cu.gw; split
 . simp
 . simp at this ⊢; simp_all; omega
def fB : Nat → Cu → List UInt8 → Cu × List UInt8
 | 0, c, _ => (c, [])
 | n + 1, c, o =>
   if c.c ≠ 0 then (c, [])
   else if c.byte.c ≠ 0 then fB n c.byte o
   else if c.ai.toNat = 34 then (c.byte, o)
   else if c.ai.toNat < 32 then fB n (c.byte.fail 3) o
   else if c.ai.toNat = 92 then fB n c.byte.dB (o ++ c.byte.fR)
   else fB n (c.byte.eJ c.ai) (o ++ c.byte.gw c.ai)
termination_by n => n
def Cu.mu (c : Cu) : Nat := if c.c ≠ 0 then 0 else c.e - c.p + 1
def Cu.start (c : Cu) : Cu := if (c.c = 0 ∧ c.p < c.e) ∧ c.ai.toNat ≠ 34 then c.fail 3 else c
def Cu.read (c : Cu) : Cu × List UInt8 := fB (c.start.byte.mu + 1) c.start.byte []
theorem JW {c : Cu} (h : c.ok) : c.start.ok := by unfold Cu.start; split; exact (eU h 3).1; exact h
theorem qM {c : Cu} (h : c.ok) (h0 : c.c = 0) (h1 : c.byte.c = 0) : c.byte.p = c.p + 1 := by
 unfold Cu.byte Cu.pass at h1 ⊢
 obtain ⟨a, b⟩ := h
 rw [if_neg (by omega), if_neg (by omega)] at h1 ⊢
 split at h1
 . cases h1
 . rename_i q; rw [if_neg q]; rfl
theorem kj {c d : Cu} (h : c.ok) (h0 : c.c = 0) (h1 : c.byte.c = 0) (hd : c.byte.le d) (k : d.ok) : d.mu < c.mu := by
 have := qM h h0 h1
 have e1 := (eI c).2.1
 obtain ⟨d1, d2, d3⟩ := hd
 obtain ⟨k1, k2⟩ := k
 unfold Cu.mu
 rw [if_neg (show ¬ c.c ≠ 0 by omega)]
 split <;> omega
theorem uF {c d : Cu} (h0 : c.c = 0) (h1 : d.c ≠ 0) : d.mu < c.mu := by
 unfold Cu.mu; rw [if_pos h1, if_neg (by omega)]; omega
theorem Ej (c : Cu) (hp : c.ok ∧ c.s.length ≤ 100000000) : OK 45 ([.ptr 0 0]) ([.cells (eC c)]) (.str c.read.2) (some [.cells (eC c.read.1)]) := by
 refine aC (C := cx [(43, lG), (49, jl), (44, iR), (21, iS), (77, vK), (78, vQ)]) (ay ⟨nL, kg, jD, jE, Gp, Gv, trivial⟩) (fn := Try.f45) rfl rfl rfl rfl fun hw hs => ?_
 obtain ⟨hp, hl⟩ := hp
 have hb : c.ai.toNat < 256 := c.ai.toNat_lt
 have k1 := JW hp
 have k2 := eb k1
 have k3 := eb (eU hp 3).1
 repeat' ((conv => whnf); first | apply al | apply aZ | (apply ao <;> intro h))
 all_goals try conv => whnf
 all_goals try (refine ae.mk ?_; try dsimp only)
 all_goals (try simp only [aR] at *)
 all_goals first | refine stay ?_ | trivial | skip
 . have hst : c.start = c := by unfold Cu.start; rw [if_neg (by omega)]
   refine bn.mk (Nat × Cu × List UInt8) (fun | (n, d, o) => d.ok ∧ d.s = c.s ∧ d.mu < n ∧ o.length ≤ 4 * d.p ∧ fB n d o = c.read) (fun | (n, d, o) => ⟨54, [(0, .ptr 0 0), (5, .ptr 1 0)], [.cells (eC d), .cells [.ptr 0 0, .buf 2], .buf 1 0 (bl o)], [2]⟩) (fun x => x.1) [.cell 1 1 1] (c.start.byte.mu + 1, c.start.byte, [])
    ⟨k2, by first | (rw [(eI _).1, hst]; done) | (rw [(eI _).1, hst]; exact (eU hp 3).2.1), by omega, by simp, rfl⟩ ?_ (fun ⟨n, d, o⟩ ⟨hd, hds, hm, ho, he⟩ _ _ => ?_)
   . rw [hst]
     refine Go.VG.Sub.mk rfl ?_ ?_ ?_ ?_ <;> (repeat' first | trivial)
   have hdb := eb hd
   have hd1 := hd.1
   have hd2 := hd.2
   have hb := d.ai.toNat_lt
   obtain ⟨n, rfl⟩ : ∃ m, n = m + 1 := ⟨n - 1, by omega⟩
   rw [fB] at he
   have hsl : d.s.length ≤ 100000000 := by rw [hds]; exact hl
   have hbl := ea o
   have n1 := fun h0 h1 => qM hd h0 h1
   have m0 := fun h0 h1 => uF (c := d) (d := d.byte) h0 h1
   have lf := kh d.byte 3
   have m1 := fun h0 h1 => kj hd h0 h1 lf (eU hdb 3).1
   have le := uz d.byte
   have m2 := fun h0 h1 => kj hd h0 h1 le (m7 hdb)
   have lr := uA d.byte d.ai
   have m3 := fun h0 h1 => kj hd h0 h1 lr (mI hdb _)
   have q1 := tL d.byte
   have q2 := va d.byte d.ai
   have hds2 : d.byte.s = c.s := (eI d).1.trans hds
   have hp2 := (eI d).2.2
   have hvb : byte d.ai.toNat = d.ai := bH _
   repeat' ((conv => whnf); first | apply al | apply aZ | (apply ao <;> intro h) | apply mh)
   all_goals try conv => whnf
   all_goals try (refine ae.mk ?_; try dsimp only)
   all_goals (try simp only [aR] at *)
   all_goals first | refine stay ?_ | trivial | skip
   all_goals (try simp only [hvb] at *)
   all_goals (repeat (first | rw [if_pos (by omega)] at he | rw [if_neg (by omega)] at he))
   all_goals first
    | (show a8 _ _ _ _ _ _
       rw [← he]
       refine a8.mk [] ?_ <;> (repeat' first | trivial)
       done)
    | (refine ⟨trivial, hdb, ?_⟩; omega)
    | (refine ⟨by omega, trivial, hdb, ?_⟩; omega)
    | skip
   . refine ⟨[], (n, d.byte.fail 3, o), ⟨(eU hdb 3).1, lf.1.trans hds2, ?_, ?_, he⟩, ?_, by show n < n + 1; omega⟩
     . have := m1 (by omega) (by omega)
       show (d.byte.fail 3).mu < n; omega
     . have := lf.2.2
       show o.length ≤ 4 * (d.byte.fail 3).p; omega
     . refine Go.VG.Sub.mk rfl ?_ ?_ ?_ ?_ <;> (repeat' first | trivial)
   . refine ⟨[], (n, d.byte.dB, o ++ d.byte.fR), ⟨m7 hdb, le.1.trans hds2, ?_, ?_, he⟩, ?_, by show n < n + 1; omega⟩
     . have := m2 (by omega) (by omega)
       show d.byte.dB.mu < n; omega
     . have := le.2.2; have := n1 (by omega) (by omega)
       show (o ++ d.byte.fR).length ≤ 4 * d.byte.dB.p
       rw [List.length_append]; omega
     . refine Go.VG.Sub.mk rfl ?_ ?_ ?_ ?_ <;> (repeat' first | trivial | apply aj | apply aV)
       rw [eE]
   . refine ⟨[], (n, d.byte.eJ d.ai, o ++ d.byte.gw d.ai), ⟨mI hdb _, lr.1.trans hds2, ?_, ?_, he⟩, ?_, by show n < n + 1; omega⟩
     . have := m3 (by omega) (by omega)
       show (d.byte.eJ d.ai).mu < n; omega
     . have := lr.2.2; have := n1 (by omega) (by omega)
       show (o ++ d.byte.gw d.ai).length ≤ 4 * (d.byte.eJ d.ai).p
       rw [List.length_append]; omega
     . refine Go.VG.Sub.mk rfl ?_ ?_ ?_ ?_ <;> (repeat' first | trivial | apply aj | apply aV)
       rw [eE]
   . refine ⟨[], (n, d.byte, o), ⟨hdb, hds2, ?_, by show o.length ≤ 4 * d.byte.p; omega, he⟩, ?_, by show n < n + 1; omega⟩
     . have := m0 (by omega) (by omega)
       show d.byte.mu < n; omega
     . refine Go.VG.Sub.mk rfl ?_ ?_ ?_ ?_ <;> (repeat' first | trivial)
 . exact ⟨trivial, (eU hp 3).1⟩
 . have hst : c.start = c.fail 3 := by unfold Cu.start; rw [if_pos ⟨by assumption, by omega⟩]
   refine bn.mk (Nat × Cu × List UInt8) (fun | (n, d, o) => d.ok ∧ d.s = c.s ∧ d.mu < n ∧ o.length ≤ 4 * d.p ∧ fB n d o = c.read) (fun | (n, d, o) => ⟨54, [(0, .ptr 0 0), (5, .ptr 1 0)], [.cells (eC d), .cells [.ptr 0 0, .buf 2], .buf 1 0 (bl o)], [2]⟩) (fun x => x.1) [.cell 1 1 1] (c.start.byte.mu + 1, c.start.byte, [])
    ⟨k2, by first | (rw [(eI _).1, hst]; done) | (rw [(eI _).1, hst]; exact (eU hp 3).2.1), by omega, by simp, rfl⟩ ?_ (fun ⟨n, d, o⟩ ⟨hd, hds, hm, ho, he⟩ _ _ => ?_)
   . rw [hst]
     refine Go.VG.Sub.mk rfl ?_ ?_ ?_ ?_ <;> (repeat' first | trivial)
   have hdb := eb hd
   have hd1 := hd.1
   have hd2 := hd.2
   have hb := d.ai.toNat_lt
   obtain ⟨n, rfl⟩ : ∃ m, n = m + 1 := ⟨n - 1, by omega⟩
   rw [fB] at he
   have hsl : d.s.length ≤ 100000000 := by rw [hds]; exact hl
   have hbl := ea o
   have n1 := fun h0 h1 => qM hd h0 h1
   have m0 := fun h0 h1 => uF (c := d) (d := d.byte) h0 h1
   have lf := kh d.byte 3
   have m1 := fun h0 h1 => kj hd h0 h1 lf (eU hdb 3).1
   have le := uz d.byte
   have m2 := fun h0 h1 => kj hd h0 h1 le (m7 hdb)
   have lr := uA d.byte d.ai
   have m3 := fun h0 h1 => kj hd h0 h1 lr (mI hdb _)
   have q1 := tL d.byte
   have q2 := va d.byte d.ai
   have hds2 : d.byte.s = c.s := (eI d).1.trans hds
   have hp2 := (eI d).2.2
   have hvb : byte d.ai.toNat = d.ai := bH _
   repeat' ((conv => whnf); first | apply al | apply aZ | (apply ao <;> intro h) | apply mh)
   all_goals try conv => whnf
   all_goals try (refine ae.mk ?_; try dsimp only)
   all_goals (try simp only [aR] at *)
   all_goals first | refine stay ?_ | trivial | skip
   all_goals (try simp only [hvb] at *)
   all_goals (repeat (first | rw [if_pos (by omega)] at he | rw [if_neg (by omega)] at he))
   all_goals first
    | (show a8 _ _ _ _ _ _
       rw [← he]
       refine a8.mk [] ?_ <;> (repeat' first | trivial)
       done)
    | (refine ⟨trivial, hdb, ?_⟩; omega)
    | (refine ⟨by omega, trivial, hdb, ?_⟩; omega)
    | skip
   . refine ⟨[], (n, d.byte.fail 3, o), ⟨(eU hdb 3).1, lf.1.trans hds2, ?_, ?_, he⟩, ?_, by show n < n + 1; omega⟩
     . have := m1 (by omega) (by omega)
       show (d.byte.fail 3).mu < n; omega
     . have := lf.2.2
       show o.length ≤ 4 * (d.byte.fail 3).p; omega
     . refine Go.VG.Sub.mk rfl ?_ ?_ ?_ ?_ <;> (repeat' first | trivial)
   . refine ⟨[], (n, d.byte.dB, o ++ d.byte.fR), ⟨m7 hdb, le.1.trans hds2, ?_, ?_, he⟩, ?_, by show n < n + 1; omega⟩
     . have := m2 (by omega) (by omega)
       show d.byte.dB.mu < n; omega
     . have := le.2.2; have := n1 (by omega) (by omega)
       show (o ++ d.byte.fR).length ≤ 4 * d.byte.dB.p
       rw [List.length_append]; omega
     . refine Go.VG.Sub.mk rfl ?_ ?_ ?_ ?_ <;> (repeat' first | trivial | apply aj | apply aV)
       rw [eE]
   . refine ⟨[], (n, d.byte.eJ d.ai, o ++ d.byte.gw d.ai), ⟨mI hdb _, lr.1.trans hds2, ?_, ?_, he⟩, ?_, by show n < n + 1; omega⟩
     . have := m3 (by omega) (by omega)
       show (d.byte.eJ d.ai).mu < n; omega
     . have := lr.2.2; have := n1 (by omega) (by omega)
       show (o ++ d.byte.gw d.ai).length ≤ 4 * (d.byte.eJ d.ai).p
       rw [List.length_append]; omega
     . refine Go.VG.Sub.mk rfl ?_ ?_ ?_ ?_ <;> (repeat' first | trivial | apply aj | apply aV)
       rw [eE]
   . refine ⟨[], (n, d.byte, o), ⟨hdb, hds2, ?_, by show o.length ≤ 4 * d.byte.p; omega, he⟩, ?_, by show n < n + 1; omega⟩
     . have := m0 (by omega) (by omega)
       show d.byte.mu < n; omega
     . refine Go.VG.Sub.mk rfl ?_ ?_ ?_ ?_ <;> (repeat' first | trivial)
 . have hst : c.start = c := by unfold Cu.start; rw [if_neg (fun h => by have := h.1; omega)]
   refine bn.mk (Nat × Cu × List UInt8) (fun | (n, d, o) => d.ok ∧ d.s = c.s ∧ d.mu < n ∧ o.length ≤ 4 * d.p ∧ fB n d o = c.read) (fun | (n, d, o) => ⟨54, [(0, .ptr 0 0), (5, .ptr 1 0)], [.cells (eC d), .cells [.ptr 0 0, .buf 2], .buf 1 0 (bl o)], [2]⟩) (fun x => x.1) [.cell 1 1 1] (c.start.byte.mu + 1, c.start.byte, [])
    ⟨k2, by first | (rw [(eI _).1, hst]; done) | (rw [(eI _).1, hst]; exact (eU hp 3).2.1), by omega, by simp, rfl⟩ ?_ (fun ⟨n, d, o⟩ ⟨hd, hds, hm, ho, he⟩ _ _ => ?_)
   . rw [hst]
     refine Go.VG.Sub.mk rfl ?_ ?_ ?_ ?_ <;> (repeat' first | trivial)
   have hdb := eb hd
   have hd1 := hd.1
   have hd2 := hd.2
   have hb := d.ai.toNat_lt
   obtain ⟨n, rfl⟩ : ∃ m, n = m + 1 := ⟨n - 1, by omega⟩
   rw [fB] at he
   have hsl : d.s.length ≤ 100000000 := by rw [hds]; exact hl
   have hbl := ea o
   have n1 := fun h0 h1 => qM hd h0 h1
   have m0 := fun h0 h1 => uF (c := d) (d := d.byte) h0 h1
   have lf := kh d.byte 3
   have m1 := fun h0 h1 => kj hd h0 h1 lf (eU hdb 3).1
   have le := uz d.byte
   have m2 := fun h0 h1 => kj hd h0 h1 le (m7 hdb)
   have lr := uA d.byte d.ai
   have m3 := fun h0 h1 => kj hd h0 h1 lr (mI hdb _)
   have q1 := tL d.byte
   have q2 := va d.byte d.ai
   have hds2 : d.byte.s = c.s := (eI d).1.trans hds
   have hp2 := (eI d).2.2
   have hvb : byte d.ai.toNat = d.ai := bH _
   repeat' ((conv => whnf); first | apply al | apply aZ | (apply ao <;> intro h) | apply mh)
   all_goals try conv => whnf
   all_goals try (refine ae.mk ?_; try dsimp only)
   all_goals (try simp only [aR] at *)
   all_goals first | refine stay ?_ | trivial | skip
   all_goals (try simp only [hvb] at *)
   all_goals (repeat (first | rw [if_pos (by omega)] at he | rw [if_neg (by omega)] at he))
   all_goals first
    | (show a8 _ _ _ _ _ _
       rw [← he]
       refine a8.mk [] ?_ <;> (repeat' first | trivial)
       done)
    | (refine ⟨trivial, hdb, ?_⟩; omega)
    | (refine ⟨by omega, trivial, hdb, ?_⟩; omega)
    | skip
   . refine ⟨[], (n, d.byte.fail 3, o), ⟨(eU hdb 3).1, lf.1.trans hds2, ?_, ?_, he⟩, ?_, by show n < n + 1; omega⟩
     . have := m1 (by omega) (by omega)
       show (d.byte.fail 3).mu < n; omega
     . have := lf.2.2
       show o.length ≤ 4 * (d.byte.fail 3).p; omega
     . refine Go.VG.Sub.mk rfl ?_ ?_ ?_ ?_ <;> (repeat' first | trivial)
   . refine ⟨[], (n, d.byte.dB, o ++ d.byte.fR), ⟨m7 hdb, le.1.trans hds2, ?_, ?_, he⟩, ?_, by show n < n + 1; omega⟩
     . have := m2 (by omega) (by omega)
       show d.byte.dB.mu < n; omega
     . have := le.2.2; have := n1 (by omega) (by omega)
       show (o ++ d.byte.fR).length ≤ 4 * d.byte.dB.p
       rw [List.length_append]; omega
     . refine Go.VG.Sub.mk rfl ?_ ?_ ?_ ?_ <;> (repeat' first | trivial | apply aj | apply aV)
       rw [eE]
   . refine ⟨[], (n, d.byte.eJ d.ai, o ++ d.byte.gw d.ai), ⟨mI hdb _, lr.1.trans hds2, ?_, ?_, he⟩, ?_, by show n < n + 1; omega⟩
     . have := m3 (by omega) (by omega)
       show (d.byte.eJ d.ai).mu < n; omega
     . have := lr.2.2; have := n1 (by omega) (by omega)
       show (o ++ d.byte.gw d.ai).length ≤ 4 * (d.byte.eJ d.ai).p
       rw [List.length_append]; omega
     . refine Go.VG.Sub.mk rfl ?_ ?_ ?_ ?_ <;> (repeat' first | trivial | apply aj | apply aV)
       rw [eE]
   . refine ⟨[], (n, d.byte, o), ⟨hdb, hds2, ?_, by show o.length ≤ 4 * d.byte.p; omega, he⟩, ?_, by show n < n + 1; omega⟩
     . have := m0 (by omega) (by omega)
       show d.byte.mu < n; omega
     . refine Go.VG.Sub.mk rfl ?_ ?_ ?_ ?_ <;> (repeat' first | trivial)
def vR : Sm := fun args σ => match args, σ with
 | [.ptr 0 0], [.cells ([.str s_c, .int .i64 (.ofNat a_c), .int .i64 (.ofNat e_c), .int .i64 c_c])] => some (True ∧ ((Cu.mk s_c a_c e_c c_c).ok ∧ (Cu.mk s_c a_c e_c c_c).s.length ≤ 100000000), .str (Cu.mk s_c a_c e_c c_c).read.2, some [.cells (eC (Cu.mk s_c a_c e_c c_c).read.1)])
 | _, _ => none
theorem Gw : aD 45 vR := by
 intro args sg pre x r he hp
 unfold vR at he
 split at he <;> cases he
 . rw [bZ (hp).1]; exact Ej (hp := hp.2) ..
end Go.Proofs.Ytllncocibkgjkaa
