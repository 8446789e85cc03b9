/-
  How the program reads a text of JSON: the whole text.
-/
import Derived.Test.YtllncocibkgjkaaJSq
set_option linter.unusedSimpArgs false
set_option linter.unusedVariables false
set_option maxHeartbeats 4000000
namespace Go.Proofs.Ytllncocibkgjkaa
open Go Go.VG
set_option maxRecDepth 100000
def Cu.le (c d : Cu) : Prop := d.s = c.s ∧ d.e = c.e ∧ c.p ≤ d.p
theorem le_trans {c d f : Cu} (h : c.le d) (k : d.le f) : c.le f := ⟨k.1.trans h.1, k.2.1.trans h.2.1, Nat.le_trans h.2.2 k.2.2⟩
theorem le_refl (c : Cu) : c.le c := ⟨rfl, rfl, Nat.le_refl _⟩
theorem ahy (c : Cu) (k : Int) : c.le (c.fail k) := by unfold Cu.fail; split <;> exact ⟨rfl, rfl, Nat.le_refl _⟩
theorem be0 (c : Cu) (n : Int) : c.le (c.pass n) := by
  unfold Cu.pass; repeat' split
  all_goals (refine ⟨rfl, rfl, ?_⟩; (try dsimp only); omega)
theorem abz (c : Cu) : c.le c.byte := be0 c 1
theorem bcg (c : Cu) : c.le c.asd := by
  unfold Cu.asd; split
  · exact abz c
  · exact le_trans (abz c) (ahy _ _)
theorem aww : ∀ (k : Nat) (c : Cu) (u : Int), c.le (acx k c u).1
  | 0, c, _ => by rw [acx]; exact le_refl c
  | k + 1, c, u => by
    rw [acx]; split
    · exact bcg c
    · exact le_trans (bcg c) (aww k _ _)
theorem a7g (c : Cu) : c.le c.four.1 := aww 4 c 0
theorem a7h (c : Cu) (b : UInt8) : c.le (c.ajt b) := by
  unfold Cu.ajt; split
  · exact abz c
  · exact le_trans (abz c) (ahy _ _)
theorem a7i (c : Cu) : c.le c.number.1 := by
  have h1 := a7g c
  have h2 := le_trans (le_trans (le_trans h1 (a7h _ 92)) (a7h _ 117)) (a7g _)
  unfold Cu.number
  repeat' split
  · exact h1
  · exact le_trans h1 (ahy _ _)
  · exact le_trans h2 (ahy _ _)
  · exact h2
theorem a7f (c : Cu) : c.le c.aol := by
  unfold Cu.aol; repeat' split
  · exact le_trans (abz c) (a7i _)
  · exact abz c
  · exact le_trans (abz c) (ahy _ _)
theorem au2 : ∀ (k : Nat) (c : Cu) (s : List UInt8), c.le (ae7 k c s).1
  | 0, c, _ => by rw [ae7]; exact le_refl c
  | k + 1, c, s => by
    rw [ae7]; split
    · exact le_trans (abz c) (au2 k _ _)
    · exact le_refl c
theorem a7j (c : Cu) (b : UInt8) : c.le (c.arj b) := by
  unfold Cu.arj; split
  · exact le_trans (au2 _ _ _) (ahy _ _)
  · exact au2 _ _ _
theorem atg (c : Cu) : c.axx.length ≤ 4 := by
  unfold Cu.axx; repeat' split
  · exact (ahm _).2
  all_goals simp
theorem aub (c : Cu) (b : UInt8) : (c.azo b).length ≤ 4 := by
  have := axg (adk b) c [b]
  have := a1x b
  unfold Cu.azo; split
  · simp
  · simp at this ⊢; simp_all; omega
def aei : Nat → Cu → List UInt8 → Cu × List UInt8
  | 0, c, _ => (c, [])
  | n + 1, c, o =>
    if c.c ≠ 0 then (c, [])
    else if c.byte.c ≠ 0 then aei n c.byte o
    else if c.aa2.toNat = 34 then (c.byte, o)
    else if c.aa2.toNat < 32 then aei n (c.byte.fail 3) o
    else if c.aa2.toNat = 92 then aei n c.byte.aol (o ++ c.byte.axx)
    else aei n (c.byte.arj c.aa2) (o ++ c.byte.azo c.aa2)
termination_by n => n
def Cu.mu (c : Cu) : Nat := if c.c ≠ 0 then 0 else c.e - c.p + 1
def Cu.start (c : Cu) : Cu := if (c.c = 0 ∧ c.p < c.e) ∧ c.aa2.toNat ≠ 34 then c.fail 3 else c
def Cu.read (c : Cu) : Cu × List UInt8 := aei (c.start.byte.mu + 1) c.start.byte []
theorem bbq {c : Cu} (h : c.ok) : c.start.ok := by unfold Cu.start; split; exact (ac9 h 3).1; exact h
theorem al3 {c : Cu} (h : c.ok) (h0 : c.c = 0) (h1 : c.byte.c = 0) : c.byte.p = c.p + 1 := by
  unfold Cu.byte Cu.pass at h1 ⊢
  obtain ⟨a, b⟩ := h
  rw [if_neg (by omega), if_neg (by omega)] at h1 ⊢
  split at h1
  · cases h1
  · rename_i q; rw [if_neg q]; rfl
theorem au6 {c d : Cu} (h : c.ok) (h0 : c.c = 0) (h1 : c.byte.c = 0) (hd : c.byte.le d) (k : d.ok) : d.mu < c.mu := by
  have := al3 h h0 h1
  have e1 := (abz c).2.1
  obtain ⟨d1, d2, d3⟩ := hd
  obtain ⟨k1, k2⟩ := k
  unfold Cu.mu
  rw [if_neg (show ¬ c.c ≠ 0 by omega)]
  split <;> omega
theorem a7q {c d : Cu} (h0 : c.c = 0) (h1 : d.c ≠ 0) : d.mu < c.mu := by
  unfold Cu.mu; rw [if_pos h1, if_neg (by omega)]; omega
theorem a33 (c : Cu) (hp : c.ok ∧ c.s.length ≤ 100000000) : OK 45 ([.ptr 0 0]) ([.cells (eC c)]) (.str c.read.2) (some [.cells (eC c.read.1)]) := by
  refine aa0 (C := cx [(43, agp), (49, ae9), (44, adn), (21, af2), (77, aj1), (78, aus)]) (abh ⟨amv, ahx, agu, ak2, az9, bdq, trivial⟩) (fn := Try.f45) rfl rfl rfl rfl fun hw hs => ?_
  obtain ⟨hp, hl⟩ := hp
  have hb : c.aa2.toNat < 256 := c.aa2.toNat_lt
  have k1 := bbq hp
  have k2 := abv k1
  have k3 := abv (ac9 hp 3).1
  repeat' ((conv => whnf); first | with_reducible (first | refine go1 (fun j q h => ?_) fun h => ?_ | refine go2 ⟨rfl, rfl⟩ (fun h => ?_) fun j h => ?_ | refine go2 ?_ (fun h => ?_) fun j h => ?_ | refine goQ ?_ (fun h => ?_) fun h => ?_) | refine go3 ?_ ?_ | refine go4 ?_ ?_ | refine go5 ?_ | ((first | refine go6 ?_ ?_ | refine go7 ?_ ?_ | refine go8 ?_ ?_ | refine go9 ?_ ?_ | refine goA ?_ ?_) <;> intro h) | with_reducible (first | refine aai.mk _ rfl ?_ | refine goB ?_ fun hc => ?_ | refine goC ?_ fun hc => ?_ | refine goD ?_ fun hc => ?_ | refine goE ?_ fun hc => ?_ | refine goF ?_ ?_ | refine goG ?_ ?_ | refine goH ?_ fun b hb => ?_) | refine goI ?_ | refine goJ ?_ ?_ | refine goK ?_ ?_ ?_ | refine goL ?_ ?_ ?_ ?_ | refine goM ?_ ?_ ?_ ?_ ?_ | refine goN ?_ ?_ | refine goO ?_ ?_ | with_reducible refine goP ?_)
  all_goals try conv => whnf
  all_goals try (refine aac.mk ?_; try dsimp only)
  all_goals (try simp only [aa3] at *)
  all_goals first
    | (refine stay ?_)
    | (first | trivial | omega | (simp (discharger := omega) only [wR]; omega) | (simp only [lnS]; omega) | (simp (discharger := omega) [-List.getD_eq_getElem?_getD, wR] <;> omega)) | skip
  · have hst : c.start = c := by unfold Cu.start; rw [if_neg (by omega)]
    refine abt.mk (Nat × Cu × List UInt8) (fun | (n, d, o) => d.ok ∧ d.s = c.s ∧ d.mu < n ∧ o.length ≤ 4 * d.p ∧ aei n d o = c.read) (fun | (n, d, o) => ⟨54, [(0, .ptr 0 0), (5, .ptr 1 0)], [.cells (eC d), .cells [.ptr 0 0, .buf 2], .buf 1 0 (bl o)], [2]⟩) (fun x => x.1) [.cell 1 1 1] (c.start.byte.mu + 1, c.start.byte, [])
      ⟨k2, by first | (rw [(abz _).1, hst]; done) | (rw [(abz _).1, hst]; exact (ac9 hp 3).2.1), by omega, by simp, rfl⟩ ?_ (fun ⟨n, d, o⟩ ⟨hd, hds, hm, ho, he⟩ _ _ => ?_)
    · rw [hst]
      refine Go.VG.Sub.mk rfl ?_ ?_ ?_ ?_ <;> (repeat' first | trivial | rfl | exact eqS _ _ | apply And.intro | apply eqA | apply eqB | apply eqC | apply eqD | apply eqE | apply eqF | apply eqG | apply eqH | apply eqI)
    have hdb := abv hd
    have hd1 := hd.1
    have hd2 := hd.2
    have hb := d.aa2.toNat_lt
    obtain ⟨n, rfl⟩ : ∃ m, n = m + 1 := ⟨n - 1, by omega⟩
    rw [aei] at he
    have hsl : d.s.length ≤ 100000000 := by rw [hds]; exact hl
    have hbl := aap o
    have n1 := fun h0 h1 => al3 hd h0 h1
    have m0 := fun h0 h1 => a7q (c := d) (d := d.byte) h0 h1
    have lf := ahy d.byte 3
    have m1 := fun h0 h1 => au6 hd h0 h1 lf (ac9 hdb 3).1
    have le := a7f d.byte
    have m2 := fun h0 h1 => au6 hd h0 h1 le (akb hdb)
    have lr := a7j d.byte d.aa2
    have m3 := fun h0 h1 => au6 hd h0 h1 lr (akk hdb _)
    have q1 := atg d.byte
    have q2 := aub d.byte d.aa2
    have hds2 : d.byte.s = c.s := (abz d).1.trans hds
    have hp2 := (abz d).2.2
    have hvb : byte d.aa2.toNat = d.aa2 := aaf _
    repeat' ((conv => whnf); first | with_reducible (first | refine go1 (fun j q h => ?_) fun h => ?_ | refine go2 ⟨rfl, rfl⟩ (fun h => ?_) fun j h => ?_ | refine go2 ?_ (fun h => ?_) fun j h => ?_ | refine goQ ?_ (fun h => ?_) fun h => ?_) | refine go3 ?_ ?_ | refine go4 ?_ ?_ | refine go5 ?_ | ((first | refine go6 ?_ ?_ | refine go7 ?_ ?_ | refine go8 ?_ ?_ | refine go9 ?_ ?_ | refine goA ?_ ?_) <;> intro h) | with_reducible (first | refine aai.mk _ rfl ?_ | refine goB ?_ fun hc => ?_ | refine goC ?_ fun hc => ?_ | refine goD ?_ fun hc => ?_ | refine goE ?_ fun hc => ?_ | refine goF ?_ ?_ | refine goG ?_ ?_ | refine goH ?_ fun b hb => ?_) | refine goI ?_ | refine goJ ?_ ?_ | refine goK ?_ ?_ ?_ | refine goL ?_ ?_ ?_ ?_ | refine goM ?_ ?_ ?_ ?_ ?_ | refine goN ?_ ?_ | refine goO ?_ ?_ | with_reducible refine goP ?_)
    all_goals try conv => whnf
    all_goals try (refine aac.mk ?_; try dsimp only)
    all_goals (try simp only [aa3] at *)
    all_goals first
      | (refine stay ?_)
      | (first | trivial | omega | (simp (discharger := omega) only [wR]; omega) | (simp only [lnS]; omega) | (simp (discharger := omega) [-List.getD_eq_getElem?_getD, wR] <;> omega)) | skip
    all_goals (try simp only [hvb] at *)
    all_goals (repeat (first | rw [if_pos (by omega)] at he | rw [if_neg (by omega)] at he))
    all_goals first
      | (show aa9 _ _ _ _ _ _
         rw [← he]
         refine aa9.mk [] ?_ <;> (repeat' first | trivial | rfl | exact eqS _ _ | apply And.intro | apply eqA | apply eqB | apply eqC | apply eqD | apply eqE | apply eqF | apply eqG | apply eqH | apply eqI)
         done)
      | (refine ⟨trivial, hdb, ?_⟩; omega)
      | (refine ⟨by omega, trivial, hdb, ?_⟩; omega)
      | skip
    · refine ⟨[], (n, d.byte.fail 3, o), ⟨(ac9 hdb 3).1, lf.1.trans hds2, ?_, ?_, he⟩, ?_, by show n < n + 1; omega⟩
      · have := m1 (by omega) (by omega)
        show (d.byte.fail 3).mu < n; omega
      · have := lf.2.2
        show o.length ≤ 4 * (d.byte.fail 3).p; omega
      · refine Go.VG.Sub.mk rfl ?_ ?_ ?_ ?_ <;> (repeat' first | trivial | rfl | exact eqS _ _ | apply And.intro | apply eqA | apply eqB | apply eqC | apply eqD | apply eqE | apply eqF | apply eqG | apply eqH | apply eqI)
    · refine ⟨[], (n, d.byte.aol, o ++ d.byte.axx), ⟨akb hdb, le.1.trans hds2, ?_, ?_, he⟩, ?_, by show n < n + 1; omega⟩
      · have := m2 (by omega) (by omega)
        show d.byte.aol.mu < n; omega
      · have := le.2.2; have := n1 (by omega) (by omega)
        show (o ++ d.byte.axx).length ≤ 4 * d.byte.aol.p
        rw [List.length_append]; omega
      · refine Go.VG.Sub.mk rfl ?_ ?_ ?_ ?_ <;> (repeat' first | trivial | rfl | exact eqS _ _ | apply And.intro | apply eqA | apply eqB | apply eqC | apply eqD | apply eqE | apply eqF | apply eqG | apply eqH | apply eqI)
        rw [aau]
    · refine ⟨[], (n, d.byte.arj d.aa2, o ++ d.byte.azo d.aa2), ⟨akk hdb _, lr.1.trans hds2, ?_, ?_, he⟩, ?_, by show n < n + 1; omega⟩
      · have := m3 (by omega) (by omega)
        show (d.byte.arj d.aa2).mu < n; omega
      · have := lr.2.2; have := n1 (by omega) (by omega)
        show (o ++ d.byte.azo d.aa2).length ≤ 4 * (d.byte.arj d.aa2).p
        rw [List.length_append]; omega
      · refine Go.VG.Sub.mk rfl ?_ ?_ ?_ ?_ <;> (repeat' first | trivial | rfl | exact eqS _ _ | apply And.intro | apply eqA | apply eqB | apply eqC | apply eqD | apply eqE | apply eqF | apply eqG | apply eqH | apply eqI)
        rw [aau]
    · refine ⟨[], (n, d.byte, o), ⟨hdb, hds2, ?_, by show o.length ≤ 4 * d.byte.p; omega, he⟩, ?_, by show n < n + 1; omega⟩
      · have := m0 (by omega) (by omega)
        show d.byte.mu < n; omega
      · refine Go.VG.Sub.mk rfl ?_ ?_ ?_ ?_ <;> (repeat' first | trivial | rfl | exact eqS _ _ | apply And.intro | apply eqA | apply eqB | apply eqC | apply eqD | apply eqE | apply eqF | apply eqG | apply eqH | apply eqI)
  · exact ⟨trivial, (ac9 hp 3).1⟩
  · have hst : c.start = c.fail 3 := by unfold Cu.start; rw [if_pos ⟨by assumption, by omega⟩]
    refine abt.mk (Nat × Cu × List UInt8) (fun | (n, d, o) => d.ok ∧ d.s = c.s ∧ d.mu < n ∧ o.length ≤ 4 * d.p ∧ aei n d o = c.read) (fun | (n, d, o) => ⟨54, [(0, .ptr 0 0), (5, .ptr 1 0)], [.cells (eC d), .cells [.ptr 0 0, .buf 2], .buf 1 0 (bl o)], [2]⟩) (fun x => x.1) [.cell 1 1 1] (c.start.byte.mu + 1, c.start.byte, [])
      ⟨k2, by first | (rw [(abz _).1, hst]; done) | (rw [(abz _).1, hst]; exact (ac9 hp 3).2.1), by omega, by simp, rfl⟩ ?_ (fun ⟨n, d, o⟩ ⟨hd, hds, hm, ho, he⟩ _ _ => ?_)
    · rw [hst]
      refine Go.VG.Sub.mk rfl ?_ ?_ ?_ ?_ <;> (repeat' first | trivial | rfl | exact eqS _ _ | apply And.intro | apply eqA | apply eqB | apply eqC | apply eqD | apply eqE | apply eqF | apply eqG | apply eqH | apply eqI)
    have hdb := abv hd
    have hd1 := hd.1
    have hd2 := hd.2
    have hb := d.aa2.toNat_lt
    obtain ⟨n, rfl⟩ : ∃ m, n = m + 1 := ⟨n - 1, by omega⟩
    rw [aei] at he
    have hsl : d.s.length ≤ 100000000 := by rw [hds]; exact hl
    have hbl := aap o
    have n1 := fun h0 h1 => al3 hd h0 h1
    have m0 := fun h0 h1 => a7q (c := d) (d := d.byte) h0 h1
    have lf := ahy d.byte 3
    have m1 := fun h0 h1 => au6 hd h0 h1 lf (ac9 hdb 3).1
    have le := a7f d.byte
    have m2 := fun h0 h1 => au6 hd h0 h1 le (akb hdb)
    have lr := a7j d.byte d.aa2
    have m3 := fun h0 h1 => au6 hd h0 h1 lr (akk hdb _)
    have q1 := atg d.byte
    have q2 := aub d.byte d.aa2
    have hds2 : d.byte.s = c.s := (abz d).1.trans hds
    have hp2 := (abz d).2.2
    have hvb : byte d.aa2.toNat = d.aa2 := aaf _
    repeat' ((conv => whnf); first | with_reducible (first | refine go1 (fun j q h => ?_) fun h => ?_ | refine go2 ⟨rfl, rfl⟩ (fun h => ?_) fun j h => ?_ | refine go2 ?_ (fun h => ?_) fun j h => ?_ | refine goQ ?_ (fun h => ?_) fun h => ?_) | refine go3 ?_ ?_ | refine go4 ?_ ?_ | refine go5 ?_ | ((first | refine go6 ?_ ?_ | refine go7 ?_ ?_ | refine go8 ?_ ?_ | refine go9 ?_ ?_ | refine goA ?_ ?_) <;> intro h) | with_reducible (first | refine aai.mk _ rfl ?_ | refine goB ?_ fun hc => ?_ | refine goC ?_ fun hc => ?_ | refine goD ?_ fun hc => ?_ | refine goE ?_ fun hc => ?_ | refine goF ?_ ?_ | refine goG ?_ ?_ | refine goH ?_ fun b hb => ?_) | refine goI ?_ | refine goJ ?_ ?_ | refine goK ?_ ?_ ?_ | refine goL ?_ ?_ ?_ ?_ | refine goM ?_ ?_ ?_ ?_ ?_ | refine goN ?_ ?_ | refine goO ?_ ?_ | with_reducible refine goP ?_)
    all_goals try conv => whnf
    all_goals try (refine aac.mk ?_; try dsimp only)
    all_goals (try simp only [aa3] at *)
    all_goals first
      | (refine stay ?_)
      | (first | trivial | omega | (simp (discharger := omega) only [wR]; omega) | (simp only [lnS]; omega) | (simp (discharger := omega) [-List.getD_eq_getElem?_getD, wR] <;> omega)) | skip
    all_goals (try simp only [hvb] at *)
    all_goals (repeat (first | rw [if_pos (by omega)] at he | rw [if_neg (by omega)] at he))
    all_goals first
      | (show aa9 _ _ _ _ _ _
         rw [← he]
         refine aa9.mk [] ?_ <;> (repeat' first | trivial | rfl | exact eqS _ _ | apply And.intro | apply eqA | apply eqB | apply eqC | apply eqD | apply eqE | apply eqF | apply eqG | apply eqH | apply eqI)
         done)
      | (refine ⟨trivial, hdb, ?_⟩; omega)
      | (refine ⟨by omega, trivial, hdb, ?_⟩; omega)
      | skip
    · refine ⟨[], (n, d.byte.fail 3, o), ⟨(ac9 hdb 3).1, lf.1.trans hds2, ?_, ?_, he⟩, ?_, by show n < n + 1; omega⟩
      · have := m1 (by omega) (by omega)
        show (d.byte.fail 3).mu < n; omega
      · have := lf.2.2
        show o.length ≤ 4 * (d.byte.fail 3).p; omega
      · refine Go.VG.Sub.mk rfl ?_ ?_ ?_ ?_ <;> (repeat' first | trivial | rfl | exact eqS _ _ | apply And.intro | apply eqA | apply eqB | apply eqC | apply eqD | apply eqE | apply eqF | apply eqG | apply eqH | apply eqI)
    · refine ⟨[], (n, d.byte.aol, o ++ d.byte.axx), ⟨akb hdb, le.1.trans hds2, ?_, ?_, he⟩, ?_, by show n < n + 1; omega⟩
      · have := m2 (by omega) (by omega)
        show d.byte.aol.mu < n; omega
      · have := le.2.2; have := n1 (by omega) (by omega)
        show (o ++ d.byte.axx).length ≤ 4 * d.byte.aol.p
        rw [List.length_append]; omega
      · refine Go.VG.Sub.mk rfl ?_ ?_ ?_ ?_ <;> (repeat' first | trivial | rfl | exact eqS _ _ | apply And.intro | apply eqA | apply eqB | apply eqC | apply eqD | apply eqE | apply eqF | apply eqG | apply eqH | apply eqI)
        rw [aau]
    · refine ⟨[], (n, d.byte.arj d.aa2, o ++ d.byte.azo d.aa2), ⟨akk hdb _, lr.1.trans hds2, ?_, ?_, he⟩, ?_, by show n < n + 1; omega⟩
      · have := m3 (by omega) (by omega)
        show (d.byte.arj d.aa2).mu < n; omega
      · have := lr.2.2; have := n1 (by omega) (by omega)
        show (o ++ d.byte.azo d.aa2).length ≤ 4 * (d.byte.arj d.aa2).p
        rw [List.length_append]; omega
      · refine Go.VG.Sub.mk rfl ?_ ?_ ?_ ?_ <;> (repeat' first | trivial | rfl | exact eqS _ _ | apply And.intro | apply eqA | apply eqB | apply eqC | apply eqD | apply eqE | apply eqF | apply eqG | apply eqH | apply eqI)
        rw [aau]
    · refine ⟨[], (n, d.byte, o), ⟨hdb, hds2, ?_, by show o.length ≤ 4 * d.byte.p; omega, he⟩, ?_, by show n < n + 1; omega⟩
      · have := m0 (by omega) (by omega)
        show d.byte.mu < n; omega
      · refine Go.VG.Sub.mk rfl ?_ ?_ ?_ ?_ <;> (repeat' first | trivial | rfl | exact eqS _ _ | apply And.intro | apply eqA | apply eqB | apply eqC | apply eqD | apply eqE | apply eqF | apply eqG | apply eqH | apply eqI)
  · have hst : c.start = c := by unfold Cu.start; rw [if_neg (fun h => by have := h.1; omega)]
    refine abt.mk (Nat × Cu × List UInt8) (fun | (n, d, o) => d.ok ∧ d.s = c.s ∧ d.mu < n ∧ o.length ≤ 4 * d.p ∧ aei n d o = c.read) (fun | (n, d, o) => ⟨54, [(0, .ptr 0 0), (5, .ptr 1 0)], [.cells (eC d), .cells [.ptr 0 0, .buf 2], .buf 1 0 (bl o)], [2]⟩) (fun x => x.1) [.cell 1 1 1] (c.start.byte.mu + 1, c.start.byte, [])
      ⟨k2, by first | (rw [(abz _).1, hst]; done) | (rw [(abz _).1, hst]; exact (ac9 hp 3).2.1), by omega, by simp, rfl⟩ ?_ (fun ⟨n, d, o⟩ ⟨hd, hds, hm, ho, he⟩ _ _ => ?_)
    · rw [hst]
      refine Go.VG.Sub.mk rfl ?_ ?_ ?_ ?_ <;> (repeat' first | trivial | rfl | exact eqS _ _ | apply And.intro | apply eqA | apply eqB | apply eqC | apply eqD | apply eqE | apply eqF | apply eqG | apply eqH | apply eqI)
    have hdb := abv hd
    have hd1 := hd.1
    have hd2 := hd.2
    have hb := d.aa2.toNat_lt
    obtain ⟨n, rfl⟩ : ∃ m, n = m + 1 := ⟨n - 1, by omega⟩
    rw [aei] at he
    have hsl : d.s.length ≤ 100000000 := by rw [hds]; exact hl
    have hbl := aap o
    have n1 := fun h0 h1 => al3 hd h0 h1
    have m0 := fun h0 h1 => a7q (c := d) (d := d.byte) h0 h1
    have lf := ahy d.byte 3
    have m1 := fun h0 h1 => au6 hd h0 h1 lf (ac9 hdb 3).1
    have le := a7f d.byte
    have m2 := fun h0 h1 => au6 hd h0 h1 le (akb hdb)
    have lr := a7j d.byte d.aa2
    have m3 := fun h0 h1 => au6 hd h0 h1 lr (akk hdb _)
    have q1 := atg d.byte
    have q2 := aub d.byte d.aa2
    have hds2 : d.byte.s = c.s := (abz d).1.trans hds
    have hp2 := (abz d).2.2
    have hvb : byte d.aa2.toNat = d.aa2 := aaf _
    repeat' ((conv => whnf); first | with_reducible (first | refine go1 (fun j q h => ?_) fun h => ?_ | refine go2 ⟨rfl, rfl⟩ (fun h => ?_) fun j h => ?_ | refine go2 ?_ (fun h => ?_) fun j h => ?_ | refine goQ ?_ (fun h => ?_) fun h => ?_) | refine go3 ?_ ?_ | refine go4 ?_ ?_ | refine go5 ?_ | ((first | refine go6 ?_ ?_ | refine go7 ?_ ?_ | refine go8 ?_ ?_ | refine go9 ?_ ?_ | refine goA ?_ ?_) <;> intro h) | with_reducible (first | refine aai.mk _ rfl ?_ | refine goB ?_ fun hc => ?_ | refine goC ?_ fun hc => ?_ | refine goD ?_ fun hc => ?_ | refine goE ?_ fun hc => ?_ | refine goF ?_ ?_ | refine goG ?_ ?_ | refine goH ?_ fun b hb => ?_) | refine goI ?_ | refine goJ ?_ ?_ | refine goK ?_ ?_ ?_ | refine goL ?_ ?_ ?_ ?_ | refine goM ?_ ?_ ?_ ?_ ?_ | refine goN ?_ ?_ | refine goO ?_ ?_ | with_reducible refine goP ?_)
    all_goals try conv => whnf
    all_goals try (refine aac.mk ?_; try dsimp only)
    all_goals (try simp only [aa3] at *)
    all_goals first
      | (refine stay ?_)
      | (first | trivial | omega | (simp (discharger := omega) only [wR]; omega) | (simp only [lnS]; omega) | (simp (discharger := omega) [-List.getD_eq_getElem?_getD, wR] <;> omega)) | skip
    all_goals (try simp only [hvb] at *)
    all_goals (repeat (first | rw [if_pos (by omega)] at he | rw [if_neg (by omega)] at he))
    all_goals first
      | (show aa9 _ _ _ _ _ _
         rw [← he]
         refine aa9.mk [] ?_ <;> (repeat' first | trivial | rfl | exact eqS _ _ | apply And.intro | apply eqA | apply eqB | apply eqC | apply eqD | apply eqE | apply eqF | apply eqG | apply eqH | apply eqI)
         done)
      | (refine ⟨trivial, hdb, ?_⟩; omega)
      | (refine ⟨by omega, trivial, hdb, ?_⟩; omega)
      | skip
    · refine ⟨[], (n, d.byte.fail 3, o), ⟨(ac9 hdb 3).1, lf.1.trans hds2, ?_, ?_, he⟩, ?_, by show n < n + 1; omega⟩
      · have := m1 (by omega) (by omega)
        show (d.byte.fail 3).mu < n; omega
      · have := lf.2.2
        show o.length ≤ 4 * (d.byte.fail 3).p; omega
      · refine Go.VG.Sub.mk rfl ?_ ?_ ?_ ?_ <;> (repeat' first | trivial | rfl | exact eqS _ _ | apply And.intro | apply eqA | apply eqB | apply eqC | apply eqD | apply eqE | apply eqF | apply eqG | apply eqH | apply eqI)
    · refine ⟨[], (n, d.byte.aol, o ++ d.byte.axx), ⟨akb hdb, le.1.trans hds2, ?_, ?_, he⟩, ?_, by show n < n + 1; omega⟩
      · have := m2 (by omega) (by omega)
        show d.byte.aol.mu < n; omega
      · have := le.2.2; have := n1 (by omega) (by omega)
        show (o ++ d.byte.axx).length ≤ 4 * d.byte.aol.p
        rw [List.length_append]; omega
      · refine Go.VG.Sub.mk rfl ?_ ?_ ?_ ?_ <;> (repeat' first | trivial | rfl | exact eqS _ _ | apply And.intro | apply eqA | apply eqB | apply eqC | apply eqD | apply eqE | apply eqF | apply eqG | apply eqH | apply eqI)
        rw [aau]
    · refine ⟨[], (n, d.byte.arj d.aa2, o ++ d.byte.azo d.aa2), ⟨akk hdb _, lr.1.trans hds2, ?_, ?_, he⟩, ?_, by show n < n + 1; omega⟩
      · have := m3 (by omega) (by omega)
        show (d.byte.arj d.aa2).mu < n; omega
      · have := lr.2.2; have := n1 (by omega) (by omega)
        show (o ++ d.byte.azo d.aa2).length ≤ 4 * (d.byte.arj d.aa2).p
        rw [List.length_append]; omega
      · refine Go.VG.Sub.mk rfl ?_ ?_ ?_ ?_ <;> (repeat' first | trivial | rfl | exact eqS _ _ | apply And.intro | apply eqA | apply eqB | apply eqC | apply eqD | apply eqE | apply eqF | apply eqG | apply eqH | apply eqI)
        rw [aau]
    · refine ⟨[], (n, d.byte, o), ⟨hdb, hds2, ?_, by show o.length ≤ 4 * d.byte.p; omega, he⟩, ?_, by show n < n + 1; omega⟩
      · have := m0 (by omega) (by omega)
        show d.byte.mu < n; omega
      · refine Go.VG.Sub.mk rfl ?_ ?_ ?_ ?_ <;> (repeat' first | trivial | rfl | exact eqS _ _ | apply And.intro | apply eqA | apply eqB | apply eqC | apply eqD | apply eqE | apply eqF | apply eqG | apply eqH | apply eqI)
def aqk : Sm := fun args σ => match args, σ with
  | [.ptr 0 0], [.cells ([.str s_c, .int .i64 (.ofNat a_c), .int .i64 (.ofNat e_c), .int .i64 c_c])] => some (True ∧ ((Cu.mk s_c a_c e_c c_c).ok ∧ (Cu.mk s_c a_c e_c c_c).s.length ≤ 100000000), .str (Cu.mk s_c a_c e_c c_c).read.2, some [.cells (eC (Cu.mk s_c a_c e_c c_c).read.1)])
  | _, _ => none
theorem baf : SOK 45 aqk := by
  intro args sg pre x r he hp
  unfold aqk at he
  split at he <;> cases he
  · rw [acr (hp).1]; exact a33 (hp := hp.2) ..
end Go.Proofs.Ytllncocibkgjkaa
