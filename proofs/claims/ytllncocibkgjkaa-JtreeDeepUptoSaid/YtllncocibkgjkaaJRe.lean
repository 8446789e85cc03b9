/-
  A part of the proof.
-/
import Derived.Test.YtllncocibkgjkaaJD
import Derived.Test.YtllncocibkgjkaaJSt
set_option linter.unusedSimpArgs false
set_option linter.unusedVariables false
set_option maxHeartbeats 4000000
namespace Go.Proofs.Ytllncocibkgjkaa
open Go Go.VG
set_option maxRecDepth 100000
theorem EK (t : List UInt8) (q : Int) (hp : t.length ≤ 90000000 ∧ 0 ≤ q ∧ q ≤ 90000000) : OK 99 ([.str t, .int .i64 q]) ([]) (.tuple [.str (cz t q.toNat).1, .int .i64 (cz t q.toNat).2.1, .int .i64 (cz t q.toNat).2.2]) (none) := by
 obtain ⟨i, rfl⟩ := Int.eq_ofNat_of_zero_le hp.2.1
 exact EL t i ⟨hp.1, by omega⟩
def wc : Sm := fun args σ => match args, σ with
 | [.str t, .int .i64 q], [] => some (t.length ≤ 90000000 ∧ 0 ≤ q ∧ q ≤ 90000000, .tuple [.str (cz t q.toNat).1, .int .i64 (cz t q.toNat).2.1, .int .i64 (cz t q.toNat).2.2], none)
 | _, _ => none
theorem GL : aD 99 wc := by
 intro args sg pre x r he hp
 unfold wc at he
 split at he <;> cases he
 . exact EK (hp := hp) ..
def bm (t : List UInt8) (i : Nat) : List UInt8 × Int × Int :=
 if (t.getD i 0).toNat = 92 then cz t (i + 1)
 else if (t.getD i 0).toNat < 32 then ([], 0, 3)
 else if (ba t i).2 = 0 then ([], 0, 5)
 else ((t.take (i + (ba t i).2)).drop i, ((i + (ba t i).2 : Nat) : Int), 0)
theorem EO (t : List UInt8) (i : Nat) (hp : t.length ≤ 10000000 ∧ i < t.length) : OK 80 ([.str t, .int .i64 i]) ([]) (.tuple [.str (bm t i).1, .int .i64 (bm t i).2.1, .int .i64 (bm t i).2.2]) (none) := by
 refine aC (C := cx [(99, wc), (100, wM)]) (ay ⟨GL, He, trivial⟩) (fn := Try.f80) rfl rfl rfl rfl fun hw hs => ?_
 obtain ⟨hl, hi⟩ := hp
 have hr := ql t i
 have hi1 : (IntKind.i64.wrap ((i : Int) + 1)).toNat = i + 1 := by (simp (discharger := omega) only [wR]; omega)
 have hi2 : IntKind.i64.wrap ((i : Int) + (ba t i).2) = ((i + (ba t i).2 : Nat) : Int) := by (simp (discharger := omega) only [wR]; omega)
 repeat' ((conv => whnf); first | apply al | (apply ao <;> intro h) | with_reducible refine eo ?_ fun hc => ?_)
 all_goals try conv => whnf
 all_goals try (refine ae.mk ?_; try dsimp only)
 all_goals (try simp only [hi1, hi2] at *)
 all_goals first | refine stay ?_ | trivial | omega | (simp (discharger := omega) only [wR]; omega) | skip
 all_goals
  unfold bm
  repeat (first | rw [if_pos (by omega)] | rw [if_neg (by omega)])
  refine a8.mk [] ?_ <;> (repeat' first | trivial)
def wg : Sm := fun args σ => match args, σ with
 | [.str t, .int .i64 (.ofNat i)], [] => some (t.length ≤ 10000000 ∧ i < t.length, .tuple [.str (bm t i).1, .int .i64 (bm t i).2.1, .int .i64 (bm t i).2.2], none)
 | _, _ => none
theorem GN : aD 80 wg := by
 intro args sg pre x r he hp
 unfold wg at he
 split at he <;> cases he
 . exact EO (hp := hp) ..
def bR (t : List UInt8) : Nat → Nat → List UInt8 → Int × Nat × List UInt8
 | 0, _, _ => (1, 0, [])
 | n + 1, i, o =>
   if t.length ≤ i then (1, 0, [])
   else if (t.getD i 0).toNat = 34 then (0, i + 1, o)
   else if (bm t i).2.2 ≠ 0 then ((bm t i).2.2, 0, [])
   else bR t n (bm t i).2.1.toNat (o ++ (bm t i).1)
termination_by n => n
theorem JN (b : UInt8) : (fD b).length ≤ 1 := by unfold fD; split <;> simp
theorem Ij (t : List UInt8) (i : Nat) (n : Int) : (cI t i n).2.2 = 0 → (i : Int) < (cI t i n).2.1 ∧ (cI t i n).2.1 ≤ i + 6 ∧ (cI t i n).1.length ≤ 4 := by
 have hb := fun n => (oC n).2
 unfold cI
 repeat' split
 all_goals intro h
 all_goals first
  | (exfalso; simp at h; done)
  | (exfalso; exact absurd h (by assumption))
  | exact ⟨by show (i : Int) < (i : Int) + 6; omega, by show (i : Int) + 6 ≤ i + 6; omega, hb _⟩
theorem yx (t : List UInt8) (i : Nat) : (cz t i).2.2 = 0 → (i : Int) < (cz t i).2.1 ∧ (cz t i).2.1 ≤ i + 11 ∧ (cz t i).1.length ≤ 4 := by
 have hb := fun n => (oC n).2
 have hs := JN (t.getD i 0)
 unfold cz
 repeat' split
 all_goals intro h
 all_goals first
  | (exfalso; simp at h; done)
  | (exfalso; exact absurd h (by assumption))
  | (have := Ij t (i + 5) _ h; omega)
  | exact ⟨by show (i : Int) < (i : Int) + 5; omega, by show (i : Int) + 5 ≤ i + 11; omega, hb _⟩
  | exact ⟨by show (i : Int) < (i : Int) + 1; omega, by show (i : Int) + 1 ≤ i + 11; omega, by show (fD (t.getD i 0)).length ≤ 4; omega⟩
theorem AR (t : List UInt8) (i : Nat) : (bm t i).2.2 = 0 → (i : Int) < (bm t i).2.1 ∧ (bm t i).2.1 ≤ i + 12 ∧ (bm t i).1.length ≤ 12 := by
 have hr := ql t i
 unfold bm
 repeat' split
 all_goals intro h
 . have := yx t (i + 1) h; omega
 . exfalso; simp at h
 . exfalso; simp at h
 . refine ⟨by show (i : Int) < ((i + (ba t i).2 : Nat) : Int); omega, by show ((i + (ba t i).2 : Nat) : Int) ≤ i + 12; omega, ?_⟩
   show ((t.take (i + (ba t i).2)).drop i).length ≤ 12
   rw [List.length_drop, List.length_take]; omega
def Cu.dr (c : Cu) : Cu × List UInt8 :=
 if c.c ≠ 0 then (c, [])
 else if c.p = c.e then (c.fail 1, [])
 else if c.get.toNat ≠ 34 then (c.fail 3, [])
 else if (bR (c.s.take c.e) (c.e - c.p) (c.p + 1) []).1 = 0 then ({ c with p := (bR (c.s.take c.e) (c.e - c.p) (c.p + 1) []).2.1 }, (bR (c.s.take c.e) (c.e - c.p) (c.p + 1) []).2.2)
 else (c.fail (bR (c.s.take c.e) (c.e - c.p) (c.p + 1) []).1, [])
theorem EE (s : List UInt8) (hp : True) : OK 20 ([.str s]) ([]) (.agg (eC (.new s))) (none) := by
 refine aC (C := cx []) (ay trivial) (fn := Try.f20) rfl rfl rfl rfl fun hw hs => ?_
 all_goals try conv => whnf
 all_goals try (refine ae.mk ?_; try dsimp only)
 all_goals try refine stay ?_
 refine a8.mk [] ?_ <;> (repeat' first | trivial)
def w9 : Sm := fun args σ => match args, σ with
 | [.str s], [] => some (True, .agg (eC (.new s)), none)
 | _, _ => none
theorem GI : aD 20 w9 := by
 intro args sg pre x r he hp
 unfold w9 at he
 split at he <;> cases he
 . exact EE (hp := hp) ..
theorem ED (c : Cu) (k : Int) (hp : True) : OK 54 ([.agg (eC c), .int .i64 k]) ([]) (.agg (eC (c.fail k))) (none) := by
 refine aC (C := cx []) (ay trivial) (fn := Try.f54) rfl rfl rfl rfl fun hw hs => ?_
 repeat' ((conv => whnf); (apply ao <;> intro h))
 all_goals try conv => whnf
 all_goals try (refine ae.mk ?_; try dsimp only)
 all_goals try refine stay ?_
 all_goals
  unfold Cu.fail
  first | rw [if_pos (by assumption)] | rw [if_neg (by assumption)]
  refine a8.mk [] ?_ <;> (repeat' first | trivial)
def om : Sm := fun args σ => match args, σ with
 | [.agg ([.str s_c, .int .i64 (.ofNat a_c), .int .i64 (.ofNat e_c), .int .i64 c_c]), .int .i64 k], [] => some (True ∧ (True), .agg (eC ((Cu.mk s_c a_c e_c c_c).fail k)), none)
 | _, _ => none
theorem rl : aD 54 om := by
 intro args sg pre x r he hp
 unfold om at he
 split at he <;> cases he
 . rw [bZ (hp).1]; exact ED (hp := hp.2) ..
theorem EG (c : Cu) (hp : c.ok ∧ c.s.length ≤ 10000000) : OK 50 ([.agg (eC c)]) ([]) (.tuple [.agg (eC c.dr.1), .str c.dr.2]) (none) := by
 refine aC (C := cx [(80, wg), (54, om)]) (ay ⟨GN, rl, trivial⟩) (fn := Try.f50) rfl rfl rfl rfl fun hw hs => ?_
 obtain ⟨hp, hl⟩ := hp
 have h1 := hp.1
 have h2 := hp.2
 have hget : c.p < c.e → (c.s.take c.e).getD c.p 0 = c.get := fun h => jz h
 have hte : (c.s.take c.e).length = c.e := by rw [List.length_take]; omega
 repeat' ((conv => whnf); first | apply al | apply aZ | (apply ao <;> intro h) | with_reducible refine eo ?_ fun hc => ?_)
 all_goals try conv => whnf
 all_goals try (refine ae.mk ?_; try dsimp only)
 all_goals (try simp only [show ((c.e : Int)).toNat = c.e from rfl] at *)
 all_goals (try simp only [aR] at *)
 all_goals first | refine stay ?_ | trivial | omega | skip
 all_goals (try rw [hget (by omega)] at *)
 all_goals first
  | (show a8 _ _ _ _ _ _
     unfold Cu.dr
     repeat (first | rw [if_pos (by omega)] | rw [if_neg (by omega)])
     refine a8.mk [] ?_ <;> (repeat' first | trivial)
     done)
  | skip
 have hrd : c.dr = if (bR (c.s.take c.e) (c.e - c.p) (c.p + 1) []).1 = 0 then ({ c with p := (bR (c.s.take c.e) (c.e - c.p) (c.p + 1) []).2.1 }, (bR (c.s.take c.e) (c.e - c.p) (c.p + 1) []).2.2)
    else (c.fail (bR (c.s.take c.e) (c.e - c.p) (c.p + 1) []).1, []) := by
  unfold Cu.dr
  rw [if_neg (by omega), if_neg (by omega), if_neg (by omega)]
 rw [hrd]
 generalize hR : bR (c.s.take c.e) (c.e - c.p) (c.p + 1) [] = R
 generalize ht : c.s.take c.e = t at *
 refine bn.mk (Nat × Nat × List UInt8) (fun | (n, i, o) => t.length - i + 1 ≤ n ∧ i ≤ t.length + 12 ∧ o.length ≤ 12 * i ∧ bR t n i o = R)
  (fun | (n, i, o) => ⟨67, [(1, .ptr 0 0), (2, .ptr 1 0), (4, .str t), (5, .str o), (6, .int .i64 i)], [.cells (eC c), .cells [.str [], .int .i64 0, .int .i64 0, .int .i64 0]], []⟩) (fun x => x.1) [] (c.e - c.p, c.p + 1, []) ⟨by omega, by omega, by simp, hR⟩ ?_ (fun ⟨n, i, o⟩ ⟨hn, hi, ho, he⟩ _ _ => ?_)
 . refine Go.VG.Sub.mk rfl ?_ ?_ ?_ ?_ <;> (repeat' first | trivial | apply aj | apply aQ)
   (simp (discharger := omega) only [wR]; omega)
 have hpn := AR t i
 obtain ⟨n, rfl⟩ : ∃ m, n = m + 1 := ⟨n - 1, by omega⟩
 rw [bR] at he
 repeat' ((conv => whnf); first | apply al | apply aZ | (apply ao <;> intro h) | with_reducible refine eo ?_ fun hc => ?_)
 all_goals try conv => whnf
 all_goals try (refine ae.mk ?_; try dsimp only)
 all_goals (try simp only [aR] at *)
 all_goals first | refine stay ?_ | trivial | omega | skip
 all_goals (repeat (first | rw [if_pos (by omega)] at he | rw [if_neg (by omega)] at he))
 . rw [← he]
   rw [if_pos rfl]
   refine a8.mk [] ?_ <;> (repeat' first | trivial | apply aj | apply aQ | apply eqG | apply ja | apply eF)
   (simp (discharger := omega) only [wR]; omega)
 . have hq := hpn (by omega)
   refine ⟨[], (n, (bm t i).2.1.toNat, o ++ (bm t i).1), ⟨?_, ?_, ?_, he⟩, ?_, by show n < n + 1; omega⟩
   . show t.length - (bm t i).2.1.toNat + 1 ≤ n; omega
   . show (bm t i).2.1.toNat ≤ t.length + 12; omega
   . show (o ++ (bm t i).1).length ≤ 12 * (bm t i).2.1.toNat
     rw [List.length_append]; omega
   . refine Go.VG.Sub.mk rfl ?_ ?_ ?_ ?_ <;> (repeat' first | trivial | apply aj | apply aQ)
     show (bm t i).2.1 = (((bm t i).2.1.toNat : Nat) : Int)
     omega
 . rw [← he, if_neg (by assumption)]
   refine a8.mk [] ?_ <;> (repeat' first | trivial)
 . rw [← he, if_neg (by decide)]
   refine a8.mk [] ?_ <;> (repeat' first | trivial)
def wb : Sm := fun args σ => match args, σ with
 | [.agg ([.str s_c, .int .i64 (.ofNat a_c), .int .i64 (.ofNat e_c), .int .i64 c_c])], [] => some (True ∧ ((Cu.mk s_c a_c e_c c_c).ok ∧ (Cu.mk s_c a_c e_c c_c).s.length ≤ 10000000), .tuple [.agg (eC (Cu.mk s_c a_c e_c c_c).dr.1), .str (Cu.mk s_c a_c e_c c_c).dr.2], none)
 | _, _ => none
theorem GK : aD 50 wb := by
 intro args sg pre x r he hp
 unfold wb at he
 split at he <;> cases he
 . rw [bZ (hp).1]; exact EG (hp := hp.2) ..
end Go.Proofs.Ytllncocibkgjkaa
namespace Go.Proofs.Ytllncocibkgjkaa
open Go Go.VG
set_option maxRecDepth 100000
def Cu.a9 (c : Cu) : List UInt8 := c.s.take c.e
theorem fh {c : Cu} (h0 : c.c = 0) (h : c.p < c.e) : c.byte = { c with p := c.p + 1 } ∧ c.ai = c.a9.getD c.p 0 := by
 refine ⟨?_, ?_⟩
 . unfold Cu.byte Cu.pass
   rw [if_neg (by omega), if_neg (by omega), if_neg (by omega)]; rfl
 . unfold Cu.ai Cu.a9
   rw [if_pos ⟨h0, h⟩, jz h]; rfl
theorem lU {c : Cu} (h0 : c.c = 0) (h : c.p = c.e) : c.byte = { c with c := 1 } ∧ c.ai = 0 := by
 refine ⟨?_, ?_⟩
 . unfold Cu.byte Cu.pass
   rw [if_neg (by omega), if_neg (by omega), if_pos (by omega)]
 . unfold Cu.ai; rw [if_neg (by omega)]
theorem n7 {c : Cu} (h0 : c.c ≠ 0) : c.byte = c ∧ c.ai = 0 := by
 refine ⟨?_, ?_⟩
 . unfold Cu.byte Cu.pass; rw [if_pos h0]
 . unfold Cu.ai; rw [if_neg (by omega)]
theorem fI {c : Cu} (k : Int) (h : c.c = 0) : c.fail k = { c with c := k } := by unfold Cu.fail; rw [if_pos h]
theorem kd {c : Cu} (k : Int) (h : c.c ≠ 0) : c.fail k = c := by unfold Cu.fail; rw [if_neg h]
theorem ey {c : Cu} (h : c.ok) : c.a9.length = c.e := by have := h.2; unfold Cu.a9; rw [List.length_take]; omega
theorem G3 {c : Cu} (h0 : c.c = 0) (h : c.p = c.e) : c.eW.c = 1 := by
 obtain ⟨b1, b2⟩ := lU h0 h
 unfold Cu.eW
 rw [b2, if_neg (by decide), b1, kd _ (by show (1 : Int) ≠ 0; decide)]
structure On (c d : Cu) (n : Nat) : Prop where
 s : d.s = c.s
 e : d.e = c.e
 c0 : d.c = 0
 p : d.p = c.p + n
theorem On.trans {c d f : Cu} {n m : Nat} (h : On c d n) (k : On d f m) : On c f (n + m) := ⟨k.s.trans h.s, k.e.trans h.e, k.c0, by rw [k.p, h.p]; omega⟩
theorem On.a9 {c d : Cu} {n : Nat} (h : On c d n) : d.a9 = c.a9 := by unfold Cu.a9; rw [h.s, h.e]
theorem On.byte {c : Cu} (h0 : c.c = 0) (h : c.p < c.e) : On c c.byte 1 := by rw [(fh h0 h).1]; exact ⟨rfl, rfl, h0, rfl⟩
theorem tX : ∀ (k : Nat) (c : Cu) (u : Int), c.ok → c.c = 0 →
   ((bd c.a9 k c.p u).2 = 0 → On c (dC k c u).1 k ∧ (dC k c u).2 = (bd c.a9 k c.p u).1) ∧
   ((bd c.a9 k c.p u).2 ≠ 0 → (dC k c u).1.c = (bd c.a9 k c.p u).2 ∧ (dC k c u).2 = 0)
 | 0, c, u, h, h0 => by
   rw [bd, dC]
   exact ⟨fun _ => ⟨⟨rfl, rfl, h0, rfl⟩, rfl⟩, fun k => absurd rfl k⟩
 | k + 1, c, u, h, h0 => by
   have hl := ey h
   rw [bd, dC]
   by_cases hp : c.p = c.e
   . have he := G3 h0 hp
     rw [if_pos (by omega), if_pos (by omega)]
     exact ⟨fun k => absurd k (by simp), fun _ => ⟨he, rfl⟩⟩
   . have hlt : c.p < c.e := by have := h.1; omega
     obtain ⟨b1, b2⟩ := fh h0 hlt
     rw [if_neg (by omega)]
     by_cases hn : et (cj (c.a9.getD c.p 0)) = true
     . have hx : c.eW = c.byte := by unfold Cu.eW; rw [b2, if_pos hn]
       have hv : c.jC = dn (cj (c.a9.getD c.p 0)) := by unfold Cu.jC; rw [b2]
       have hon := On.byte h0 hlt
       rw [if_pos hn, hx, if_neg (by rw [hon.c0]; simp), hv]
       have ih := tX k c.byte (16 * u + dn (cj (c.a9.getD c.p 0))) (eb h) hon.c0
       rw [hon.a9, hon.p] at ih
       refine ⟨fun q => ?_, ih.2⟩
       obtain ⟨i1, i2⟩ := ih.1 q
       have := hon.trans i1
       rw [Nat.add_comm 1 k] at this
       exact ⟨this, i2⟩
     . have hx : c.eW.c = 6 := by
         unfold Cu.eW
         rw [b2, if_neg hn, fI _ (On.byte h0 hlt).c0]
       rw [if_neg hn, if_pos (by omega)]
       exact ⟨fun k => absurd k (by simp), fun _ => ⟨hx, rfl⟩⟩
theorem Ar {c : Cu} (b : UInt8) (h : c.c ≠ 0) : c.cu b = c := by
 obtain ⟨b1, b2⟩ := n7 h
 unfold Cu.cu; rw [b1]
 split
 . rfl
 . exact kd _ h
theorem G4 {c : Cu} (h : c.c ≠ 0) : c.eW = c := by
 obtain ⟨b1, b2⟩ := n7 h
 unfold Cu.eW; rw [b1, kd _ h]; split <;> rfl
theorem FM {c : Cu} (h : c.c ≠ 0) : c.four = (c, 0) := by
 unfold Cu.four
 rw [dC, G4 h, if_pos h]
theorem Aq {c : Cu} (b : UInt8) (h0 : c.c = 0) (h : c.p = c.e) (hb : b.toNat ≠ 0) : (c.cu b).c = 1 := by
 obtain ⟨b1, b2⟩ := lU h0 h
 unfold Cu.cu
 rw [b2, if_neg (by show ¬ 0 = b.toNat; omega), b1, kd _ (by show (1 : Int) ≠ 0; decide)]
theorem As {c : Cu} (b : UInt8) (h0 : c.c = 0) (h : c.p < c.e) (hb : (c.a9.getD c.p 0).toNat ≠ b.toNat) : (c.cu b).c = 6 := by
 obtain ⟨b1, b2⟩ := fh h0 h
 unfold Cu.cu
 rw [b2, if_neg hb, fI _ (On.byte h0 h).c0]
theorem Au {c : Cu} (b : UInt8) (h0 : c.c = 0) (h : c.p < c.e) (hb : (c.a9.getD c.p 0).toNat = b.toNat) : On c (c.cu b) 1 := by
 obtain ⟨b1, b2⟩ := fh h0 h
 unfold Cu.cu
 rw [b2, if_pos hb]
 exact On.byte h0 h
def Cu.two (c : Cu) : Cu := (c.cu 92).cu 117
theorem Kl {c : Cu} (hk : c.ok) (h0 : c.c = 0) (n : Int) (hn : 55296 ≤ n ∧ n ≤ 56319) :
   ((cI c.a9 c.p n).2.2 = 0 → On c c.two.four.1 6 ∧ 56320 ≤ c.two.four.2 ∧ c.two.four.2 ≤ 57343 ∧ cI c.a9 c.p n = (b6 (65536 + 1024 * (n - 55296) + c.two.four.2 - 56320), (c.p : Int) + 6, 0)) ∧
   ((cI c.a9 c.p n).2.2 ≠ 0 → (c.two.four.2 < 56320 ∨ 57344 ≤ c.two.four.2) ∧ (c.two.four.1.fail 6).c = (cI c.a9 c.p n).2.2) := by
 have hl := ey hk
 have h1 := hk.1
 have bad : ∀ x : Int, x ≠ 0 → c.two.c = x → (c.two.four.2 < 56320 ∨ 57344 ≤ c.two.four.2) ∧ (c.two.four.1.fail 6).c = x := fun x hx hc => by
  have hne : c.two.c ≠ 0 := by rw [hc]; exact hx
  rw [FM hne]
  exact ⟨.inl (by show (0 : Int) < 56320; decide), by show (c.two.fail 6).c = x; rw [kd _ hne, hc]⟩
 unfold cI
 by_cases a : c.p = c.e
 . rw [if_pos (by omega)]
   refine ⟨fun k => absurd k (by simp), fun _ => bad 1 (by decide) ?_⟩
   have := Aq 92 h0 a (by decide)
   unfold Cu.two; rw [Ar _ (by omega)]; exact this
 have a' : c.p < c.e := by omega
 rw [if_neg (by omega)]
 by_cases b : (c.a9.getD c.p 0).toNat ≠ 92
 . rw [if_pos b]
   refine ⟨fun k => absurd k (by simp), fun _ => bad 6 (by decide) ?_⟩
   have := As 92 h0 a' b
   unfold Cu.two; rw [Ar _ (by omega)]; exact this
 have on1 := Au 92 h0 a' (by show _ = 92; omega)
 rw [if_neg b]
 have hk1 := nT hk 92
 by_cases d : c.a9.length ≤ c.p + 1
 . rw [if_pos d]
   refine ⟨fun k => absurd k (by simp), fun _ => bad 1 (by decide) ?_⟩
   exact Aq 117 on1.c0 (by rw [on1.p, on1.e]; omega) (by decide)
 rw [if_neg d]
 have a2 : (c.cu 92).p < (c.cu 92).e := by rw [on1.p, on1.e]; omega
 by_cases f : (c.a9.getD (c.p + 1) 0).toNat ≠ 117
 . rw [if_pos f]
   refine ⟨fun k => absurd k (by simp), fun _ => bad 6 (by decide) ?_⟩
   exact As 117 on1.c0 a2 (by rw [on1.a9, on1.p]; exact f)
 rw [if_neg f]
 have on2 : On c c.two 2 := on1.trans (Au 117 on1.c0 a2 (by rw [on1.a9, on1.p]; show _ = 117; omega))
 have hk2 := nT hk1 117
 have fe := tX 4 c.two 0 hk2 on2.c0
 rw [on2.a9, on2.p] at fe
 have fe : ((bd c.a9 4 (c.p + 2) 0).2 = 0 → On c.two c.two.four.1 4 ∧ c.two.four.2 = (bd c.a9 4 (c.p + 2) 0).1) ∧ ((bd c.a9 4 (c.p + 2) 0).2 ≠ 0 → c.two.four.1.c = (bd c.a9 4 (c.p + 2) 0).2 ∧ c.two.four.2 = 0) := fe
 by_cases g : (bd c.a9 4 (c.p + 2) 0).2 ≠ 0
 . rw [if_pos g]
   obtain ⟨q1, q2⟩ := fe.2 g
   exact ⟨fun k => absurd k g, fun _ => ⟨.inl (by rw [q2]; decide), by rw [kd _ (by rw [q1]; exact g), q1]⟩⟩
 rw [if_neg g]
 obtain ⟨q1, q2⟩ := fe.1 (by omega)
 rw [← q2]
 by_cases m : c.two.four.2 < 56320 ∨ 57343 < c.two.four.2
 . rw [if_pos m]
   exact ⟨fun k => absurd k (by simp), fun _ => ⟨by omega, by rw [fI _ q1.c0]⟩⟩
 . rw [if_neg m]
   exact ⟨fun _ => ⟨on2.trans q1, by omega, by omega, rfl⟩, fun k => absurd rfl k⟩
theorem HZ (c : Cu) : c.number = if c.four.2 < 55296 ∨ 57344 ≤ c.four.2 then c.four
 else if 56320 ≤ c.four.2 then (c.four.1.fail 6, 0)
 else if c.four.1.two.four.2 < 56320 ∨ 57344 ≤ c.four.1.two.four.2 then (c.four.1.two.four.1.fail 6, 0)
 else (c.four.1.two.four.1, 65536 + (c.four.2 - 55296) * 1024 + (c.four.1.two.four.2 - 56320)) := rfl
theorem D7 {c : Cu} (hk : c.ok) (h0 : c.c = 0) :
   ((cz c.a9 c.p).2.2 = 0 → ∃ n, On c c.dB n ∧ (cz c.a9 c.p).2.1 = ((c.p + n : Nat) : Int) ∧ c.fR = (cz c.a9 c.p).1) ∧
   ((cz c.a9 c.p).2.2 ≠ 0 → c.dB.c = (cz c.a9 c.p).2.2) := by
 have hl := ey hk
 have h1 := hk.1
 unfold cz
 by_cases a : c.p = c.e
 . obtain ⟨b1, b2⟩ := lU h0 a
   rw [if_pos (by omega)]
   refine ⟨fun k => absurd k (by simp), fun _ => ?_⟩
   unfold Cu.dB
   rw [b2, if_neg (by decide), if_neg (by decide), b1, kd _ (by show (1 : Int) ≠ 0; decide)]
 have a' : c.p < c.e := by omega
 obtain ⟨b1, b2⟩ := fh h0 a'
 have on1 := On.byte h0 a'
 rw [if_neg (by omega)]
 by_cases b : (c.a9.getD c.p 0).toNat ≠ 117
 . rw [if_pos b]
   by_cases p : dU (c.a9.getD c.p 0) = true
   . rw [if_pos p]
     refine ⟨fun _ => ⟨1, ?_, rfl, ?_⟩, fun k => absurd rfl k⟩
     . unfold Cu.dB; rw [b2, if_neg b, if_pos p]; exact on1
     . unfold Cu.fR fD; rw [b2, if_neg b, if_pos p]
   . rw [if_neg p]
     refine ⟨fun k => absurd k (by simp), fun _ => ?_⟩
     unfold Cu.dB; rw [b2, if_neg b, if_neg p, fI _ on1.c0]
 rw [if_neg b]
 have hb : (c.a9.getD c.p 0).toNat = 117 := by omega
 have hk1 := eb hk
 have hC : c.dB = c.byte.number.1 := by unfold Cu.dB; rw [b2, if_pos hb]
 have hO : c.fR = if c.byte.number.1.c = 0 then b6 c.byte.number.2 else [] := by unfold Cu.fR; rw [b2, if_pos hb]
 have fe : ((bd c.byte.a9 4 c.byte.p 0).2 = 0 → On c.byte c.byte.four.1 4 ∧ c.byte.four.2 = (bd c.byte.a9 4 c.byte.p 0).1) ∧ ((bd c.byte.a9 4 c.byte.p 0).2 ≠ 0 → c.byte.four.1.c = (bd c.byte.a9 4 c.byte.p 0).2 ∧ c.byte.four.2 = 0) := tX 4 c.byte 0 hk1 on1.c0
 rw [on1.a9, on1.p] at fe
 rw [hC, hO, HZ]
 by_cases g : (bd c.a9 4 (c.p + 1) 0).2 ≠ 0
 . rw [if_pos g]
   obtain ⟨q1, q2⟩ := fe.2 g
   refine ⟨fun k => absurd k g, fun _ => ?_⟩
   rw [if_pos (.inl (by rw [q2]; decide)), q1]
 rw [if_neg g]
 obtain ⟨q1, q2⟩ := fe.1 (by omega)
 have on5 := on1.trans q1
 rw [← q2]
 by_cases m1 : 55296 ≤ c.byte.four.2 ∧ c.byte.four.2 ≤ 56319
 . rw [if_pos m1, if_neg (by omega), if_neg (by omega)]
   have te := Kl (ra hk1) q1.c0 c.byte.four.2 m1
   rw [on5.a9, on5.p] at te
   have te : ((cI c.a9 (c.p + 5) c.byte.four.2).2.2 = 0 → On c.byte.four.1 c.byte.four.1.two.four.1 6 ∧ 56320 ≤ c.byte.four.1.two.four.2 ∧ c.byte.four.1.two.four.2 ≤ 57343 ∧ cI c.a9 (c.p + 5) c.byte.four.2 = (b6 (65536 + 1024 * (c.byte.four.2 - 55296) + c.byte.four.1.two.four.2 - 56320), ((c.p + 5 : Nat) : Int) + 6, 0)) ∧
    ((cI c.a9 (c.p + 5) c.byte.four.2).2.2 ≠ 0 → (c.byte.four.1.two.four.2 < 56320 ∨ 57344 ≤ c.byte.four.1.two.four.2) ∧ (c.byte.four.1.two.four.1.fail 6).c = (cI c.a9 (c.p + 5) c.byte.four.2).2.2) := te
   refine ⟨fun k => ?_, fun k => ?_⟩
   . obtain ⟨t1, t2, t3, t4⟩ := te.1 k
     rw [if_neg (by omega)]
     refine ⟨11, on5.trans t1, ?_, ?_⟩
     . rw [t4]; show ((c.p + 5 : Nat) : Int) + 6 = _; omega
     . rw [t4, if_pos t1.c0]
       show b6 _ = b6 _
       congr 1; omega
   . obtain ⟨t1, t2⟩ := te.2 k
     rw [if_pos t1]; exact t2
 . rw [if_neg m1]
   by_cases m2 : 56320 ≤ c.byte.four.2 ∧ c.byte.four.2 ≤ 57343
   . rw [if_pos m2, if_neg (by omega), if_pos m2.1]
     refine ⟨fun k => absurd k (by simp), fun _ => ?_⟩
     show (c.byte.four.1.fail 6).c = 6
     rw [fI _ q1.c0]
   . rw [if_neg m2, if_pos (by omega)]
     exact ⟨fun _ => ⟨5, on5, by show (c.p : Int) + 5 = _; omega, by rw [if_pos q1.c0]⟩, fun k => absurd rfl k⟩
theorem Ba : ∀ (k : Nat) (c : Cu) (s : List UInt8), c.ok → c.c = 0 → ∃ j, j ≤ k ∧ On c (cM k c s).1 j ∧ (cM k c s).2 = s ++ (c.a9.drop c.p).take j ∧ (∀ i, i < j → cont (c.a9.getD (c.p + i) 0) = true) ∧
   c.p + j ≤ c.e ∧ (j = k ∨ c.p + j = c.e ∨ cont (c.a9.getD (c.p + j) 0) = false)
 | 0, c, s, h, h0 => by
   rw [cM]
   exact ⟨0, Nat.le_refl _, ⟨rfl, rfl, h0, rfl⟩, by simp, by omega, by have := h.1; omega, .inl rfl⟩
 | k + 1, c, s, h, h0 => by
   rw [cM]
   by_cases hp : c.p < c.e
   . obtain ⟨b1, b2⟩ := fh h0 hp
     have hl := ey h
     by_cases hc : cont (c.a9.getD c.p 0) = true
     . rw [if_pos ⟨h0, hp, by rw [b2]; exact hc⟩]
       have on1 := On.byte h0 hp
       obtain ⟨j, q1, q2, q3, q4, q5, q6⟩ := Ba k c.byte (s ++ [c.ai]) (eb h) on1.c0
       rw [on1.a9, on1.p] at q3 q4 q6
       rw [on1.p, on1.e] at q5
       rw [on1.e] at q6
       refine ⟨j + 1, by omega, ?_, ?_, fun i hi => ?_, by omega, ?_⟩
       . have := on1.trans q2; rw [Nat.add_comm 1 j] at this; exact this
       . rw [q3, b2, List.append_assoc]
         congr 1
         rw [List.drop_eq_getElem_cons (show c.p < c.a9.length by omega), List.take_succ_cons, List.getD_eq_getElem?_getD, List.getElem?_eq_getElem (show c.p < c.a9.length by omega)]; rfl
       . cases i with
         | zero => exact hc
         | succ i => rw [show c.p + (i + 1) = c.p + 1 + i by omega]; exact q4 i (by omega)
       . rw [show c.p + (j + 1) = c.p + 1 + j by omega]
         rcases q6 with q6 | q6 | q6
         . exact .inl (by omega)
         . exact .inr (.inl q6)
         . exact .inr (.inr q6)
     . rw [if_neg (by rw [b2]; exact fun h => hc h.2.2)]
       refine ⟨0, by omega, ⟨rfl, rfl, h0, rfl⟩, by simp, by omega, by omega, .inr (.inr ?_)⟩
       cases hq : cont (c.a9.getD (c.p + 0) 0) with
       | false => rfl
       | true => exact absurd hq hc
   . rw [if_neg (by omega)]
     have := h.1
     exact ⟨0, by omega, ⟨rfl, rfl, h0, rfl⟩, by simp, by omega, by omega, .inr (.inl (by omega))⟩
theorem zh (x : List UInt8) (m : Nat) : ∀ r i a, i + r ≤ m → m ≤ x.length → eK (x.take m) r i a = eK x r i a
 | 0, _, _, _, _ => rfl
 | r + 1, i, a, h, hm => by
   simp only [eK]
   rw [jz (by omega), zh x m r (i + 1) _ (by omega) hm]
theorem ze (x : List UInt8) : ∀ r i a, eK x r i a ≠ none → ∀ j, i ≤ j → j < i + r → cont (x.getD j 0) = true
 | 0, _, _, _, _, _, _ => by omega
 | r + 1, i, a, h, j, h1, h2 => by
   simp only [eK] at h
   by_cases hc : cont (x.getD i 0) = true
   . rw [if_pos hc] at h
     by_cases e : j = i
     . subst e; exact hc
     . exact ze x r (i + 1) _ h j (by omega) (by omega)
   . rw [if_neg hc] at h; exact absurd rfl h
theorem Kn (n : Nat) (o : Option Nat) : (kz n o).2 = 0 ∨ ((kz n o).2 = n ∧ o ≠ none) := by
 cases o with
 | none => exact .inl rfl
 | some r =>
   rw [sH]
   repeat' split
   . exact .inl rfl
   . exact .inr ⟨rfl, by simp⟩
   . exact .inl rfl
theorem s8 (x : List UInt8) (hx : 0 < x.length) : (cJ x 0).2 = 0 ∨ ((cJ x 0).2 = aS (x.getD 0 0).toNat ∧ 1 ≤ aS (x.getD 0 0).toNat ∧ aS (x.getD 0 0).toNat ≤ x.length ∧ ∀ j, 1 ≤ j → j < aS (x.getD 0 0).toNat → cont (x.getD j 0) = true) := by
 unfold cJ
 rw [if_neg (by omega)]
 split
 . exact .inl rfl
 split
 . exact .inl rfl
 split
 . rename_i h1 h2 h3
   exact .inr ⟨h3.symm, by omega, by omega, by omega⟩
 . rename_i h1 h2 h3
   rcases Kn (aS (x.getD 0 0).toNat) (eK x (aS (x.getD 0 0).toNat - 1) (0 + 1) ((x.getD 0 0).toNat % 2 ^ (7 - aS (x.getD 0 0).toNat))) with h | ⟨h, k⟩
   . exact .inl h
   . exact .inr ⟨h, by omega, by omega, fun j a b => ze x _ _ _ k j a (by omega)⟩
theorem s9 (x : List UInt8) (m : Nat) (hm : aS (x.getD 0 0).toNat ≤ m) (h1 : 1 ≤ m) (hx : m ≤ x.length) : cJ (x.take m) 0 = cJ x 0 := by
 have e : (x.take m).getD 0 0 = x.getD 0 0 := jz (by omega)
 have l : (x.take m).length = m := by rw [List.length_take]; omega
 unfold cJ
 rw [e, l, if_neg (show ¬ m ≤ 0 by omega), if_neg (show ¬ x.length ≤ 0 by omega)]
 by_cases a : aS (x.getD 0 0).toNat = 0
 . rw [if_pos a, if_pos a]
 . rw [if_neg a, if_neg a, if_neg (show ¬ m < 0 + aS (x.getD 0 0).toNat by omega), if_neg (show ¬ x.length < 0 + aS (x.getD 0 0).toNat by omega), zh x m _ _ _ (by omega) hx]
theorem CJ {s : List UInt8} (hs : 0 < s.length) (h : (ba s 0).2 = 0) : jS s = 0 := by
 have hw : iu s 0 0 = (0, 0) := by rw [iu, if_neg (by omega), dif_pos h]
 unfold jS
 rw [hw, if_neg (show ¬ 0 = s.length by omega)]; rfl
theorem check_1 {s : List UInt8} (hs : 0 < s.length) (h : (ba s 0).2 = s.length) : jS s = -1 := by
 have hw : iu s 0 0 = (0 + (ba s 0).2, 0 + 1) := by
  rw [iu, if_neg (by omega), dif_neg (by omega), iu, if_pos (by omega)]
 unfold jS
 rw [hw, if_pos (show 0 + (ba s 0).2 = s.length by omega)]
theorem K7 {b : UInt8} : aS b.toNat = 0 ∨ cA b + 1 = aS b.toNat := by
 unfold aS cA; repeat' split
 all_goals omega
theorem IN {d : Cu} (hk : d.ok) (h0 : d.c = 0) (hp : d.p < d.e) :
   ((ba d.a9 d.p).2 = 0 → (d.byte.eJ (d.a9.getD d.p 0)).c = 5) ∧
   ((ba d.a9 d.p).2 ≠ 0 → On d (d.byte.eJ (d.a9.getD d.p 0)) (ba d.a9 d.p).2 ∧ d.byte.gw (d.a9.getD d.p 0) = (d.a9.take (d.p + (ba d.a9 d.p).2)).drop d.p) := by
 have hl := ey hk
 have on1 := On.byte h0 hp
 have hxl : (d.a9.drop d.p).length = d.e - d.p := by rw [List.length_drop, hl]
 have hx0 : (d.a9.drop d.p).getD 0 0 = d.a9.getD d.p 0 := by simp [List.getD_eq_getElem?_getD, List.getElem?_drop]
 have hxc : d.a9.drop d.p = d.a9.getD d.p 0 :: d.a9.drop (d.p + 1) := by
  rw [List.drop_eq_getElem_cons (show d.p < d.a9.length by omega), List.getD_eq_getElem?_getD, List.getElem?_eq_getElem (show d.p < d.a9.length by omega)]; rfl
 have hu : ba d.a9 d.p = cJ (d.a9.drop d.p) 0 := by rw [sa, if_neg (by omega), jN]
 obtain ⟨j, q1, q2, q3, q4, q5, q6⟩ := Ba (cA (d.a9.getD d.p 0)) d.byte [d.a9.getD d.p 0] (eb hk) on1.c0
 rw [on1.a9, on1.p] at q3 q4 q6
 rw [on1.p, on1.e] at q5
 rw [on1.e] at q6
 have hS : (cM (cA (d.a9.getD d.p 0)) d.byte [d.a9.getD d.p 0]).2 = (d.a9.drop d.p).take (j + 1) := by
  rw [q3, hxc, List.take_succ_cons]; rfl
 have hSl : ((d.a9.drop d.p).take (j + 1)).length = j + 1 := by rw [List.length_take, hxl]; omega
 have hS0 : ((d.a9.drop d.p).take (j + 1)).getD 0 0 = d.a9.getD d.p 0 := by rw [jz (by omega), hx0]
 rw [hu]
 unfold Cu.eJ Cu.gw
 rw [hS]
 refine ⟨fun hn => ?_, fun hn => ?_⟩
 . have hz : (ba ((d.a9.drop d.p).take (j + 1)) 0).2 = 0 := by
     rw [← jN]
     rcases s8 ((d.a9.drop d.p).take (j + 1)) (by omega) with h | ⟨h1, h2, h3, h4⟩
     . exact h
     . rw [hS0] at h1 h2 h3
       rw [s9 _ (j + 1) (by rw [hx0]; omega) (by omega) (by omega)]; exact hn
   rw [CJ (by omega) hz, if_pos (by decide), fI _ q2.c0]
 . rcases s8 (d.a9.drop d.p) (by omega) with h | ⟨h1, h2, h3, h4⟩
   . exact absurd h hn
   . rw [hx0] at h1 h2 h3 h4
     have ht := K7 (b := d.a9.getD d.p 0)
     have hj : j + 1 = aS (d.a9.getD d.p 0).toNat := by
      rcases q6 with q6 | q6 | q6
      . omega
      . omega
      . by_cases e : j + 1 = aS (d.a9.getD d.p 0).toNat
        . exact e
        . exfalso
          have := h4 (j + 1) (by omega) (by omega)
          rw [show (d.a9.drop d.p).getD (j + 1) 0 = d.a9.getD (d.p + 1 + j) 0 by
           rw [List.getD_eq_getElem?_getD, List.getD_eq_getElem?_getD, List.getElem?_drop, show d.p + (j + 1) = d.p + 1 + j by omega], q6] at this
          cases this
     have hz : (ba ((d.a9.drop d.p).take (j + 1)) 0).2 = ((d.a9.drop d.p).take (j + 1)).length := by
      rw [← jN, s9 _ (j + 1) (by rw [hx0]; omega) (by omega) (by omega), h1, hSl, hj]
     rw [check_1 (by omega) hz, if_neg (by decide), if_neg (by decide), h1, ← hj]
     refine ⟨?_, ?_⟩
     . have := on1.trans q2
       rw [Nat.add_comm 1 j] at this; exact this
     . rw [List.drop_take, show d.p + (j + 1) - d.p = j + 1 by omega]
theorem mJ {n : Nat} {c : Cu} {o : List UInt8} (hn : 0 < n) (h : c.c ≠ 0) : fB n c o = (c, []) := by
 cases n with
 | zero => omega
 | succ n => rw [fB, if_pos h]
def qu (d : Cu) (P : Cu × List UInt8) (R : Int × Nat × List UInt8) : Prop :=
 (R.1 = 0 → P.1.c = 0 ∧ P.1.p = R.2.1 ∧ P.2 = R.2.2 ∧ P.1.s = d.s ∧ P.1.e = d.e) ∧ (R.1 ≠ 0 → P.1.c = R.1 ∧ P.2 = [])
theorem go_eq : ∀ (n m : Nat) (d : Cu) (o : List UInt8), d.ok → d.c = 0 → d.mu < n → d.a9.length - d.p + 1 ≤ m → qu d (fB n d o) (bR d.a9 m d.p o)
 | 0, _, _, _, _, _, h, _ => by omega
 | n + 1, 0, _, _, _, _, _, h => by omega
 | n + 1, m + 1, d, o, hk, h0, hn, hm => by
   have hl := ey hk
   have h1 := hk.1
   have hmu : d.mu = d.e - d.p + 1 := by unfold Cu.mu; rw [if_neg (by omega)]
   rw [fB, bR, if_neg (by omega)]
   by_cases a : d.p = d.e
   . obtain ⟨b1, b2⟩ := lU h0 a
     have hc : d.byte.c = 1 := by rw [b1]
     rw [if_pos (by omega), if_pos (by omega), mJ (by omega) (by omega)]
     exact ⟨fun k => absurd k (by decide), fun _ => ⟨hc, rfl⟩⟩
   have a' : d.p < d.e := by omega
   obtain ⟨b1, b2⟩ := fh h0 a'
   have on1 := On.byte h0 a'
   have hkb := eb hk
   rw [if_neg (show ¬ d.byte.c ≠ 0 by rw [on1.c0]; decide), if_neg (show ¬ d.a9.length ≤ d.p by omega), b2]
   by_cases q34 : (d.a9.getD d.p 0).toNat = 34
   . rw [if_pos q34, if_pos q34]
     exact ⟨fun _ => ⟨on1.c0, on1.p, rfl, on1.s, on1.e⟩, fun k => absurd rfl k⟩
   rw [if_neg q34, if_neg q34]
   by_cases q32 : (d.a9.getD d.p 0).toNat < 32
   . have hp : bm d.a9 d.p = ([], 0, 3) := by unfold bm; rw [if_neg (by omega), if_pos q32]
     have hc : (d.byte.fail 3).c = 3 := by rw [fI _ on1.c0]
     rw [if_pos q32, hp, if_pos (by decide), mJ (by omega) (by omega)]
     exact ⟨fun k => absurd k (by decide), fun _ => ⟨hc, rfl⟩⟩
   rw [if_neg q32]
   have step : ∀ (f : Cu) (k : Nat) (w : List UInt8), On d f k → 0 < k → f.ok → qu d (fB n f (o ++ w)) (bR d.a9 m (d.p + k) (o ++ w)) := fun f k w hf hk0 hfk => by
    have hfm : f.mu = f.e - f.p + 1 := by unfold Cu.mu; rw [if_neg (by have := hf.c0; omega)]
    have ih := go_eq n m f (o ++ w) hfk hf.c0 (by rw [hfm, hf.e, hf.p]; omega) (by rw [hf.a9, hf.p]; omega)
    rw [hf.a9, hf.p] at ih
    exact ⟨fun q => by obtain ⟨i1, i2, i3, i4, i5⟩ := ih.1 q; exact ⟨i1, i2, i3, i4.trans hf.s, i5.trans hf.e⟩, ih.2⟩
   by_cases q92 : (d.a9.getD d.p 0).toNat = 92
   . have hp : bm d.a9 d.p = cz d.a9 (d.p + 1) := by unfold bm; rw [if_pos q92]
     have ee := D7 hkb on1.c0
     rw [on1.a9, on1.p] at ee
     rw [if_pos q92, hp]
     by_cases e0 : (cz d.a9 (d.p + 1)).2.2 ≠ 0
     . have hc := ee.2 e0
       rw [if_pos e0, mJ (by omega) (by rw [hc]; exact e0)]
       exact ⟨fun k => absurd k e0, fun _ => ⟨hc, rfl⟩⟩
     . rw [if_neg e0]
       obtain ⟨k, r1, r2, r3⟩ := ee.1 (by omega)
       rw [r2, r3, Int.toNat_natCast]
       have := step _ (1 + k) (cz d.a9 (d.p + 1)).1 (on1.trans r1) (by omega) (m7 hkb)
       rw [← Nat.add_assoc] at this
       exact this
   . have ee := IN hk h0 a'
     rw [if_neg q92]
     by_cases e0 : (ba d.a9 d.p).2 = 0
     . have hp : bm d.a9 d.p = ([], 0, 5) := by unfold bm; rw [if_neg q92, if_neg q32, if_pos e0]
       have hc := ee.1 e0
       rw [hp, if_pos (by decide), mJ (by omega) (by omega)]
       exact ⟨fun k => absurd k (by decide), fun _ => ⟨hc, rfl⟩⟩
     . have hp : bm d.a9 d.p = ((d.a9.take (d.p + (ba d.a9 d.p).2)).drop d.p, ((d.p + (ba d.a9 d.p).2 : Nat) : Int), 0) := by unfold bm; rw [if_neg q92, if_neg q32, if_neg e0]
       obtain ⟨r1, r2⟩ := ee.2 e0
       rw [hp, if_neg (fun k => k rfl), r2]
       exact step _ _ _ r1 (by omega) (mI hkb _)
theorem IT {c : Cu} (hk : c.ok) : c.read.2 = c.dr.2 ∧ c.read.1.c = c.dr.1.c ∧ (c.dr.1.c = 0 → c.read.1 = c.dr.1) := by
 have h1 := hk.1
 have hl := ey hk
 unfold Cu.read Cu.dr
 by_cases a : c.c ≠ 0
 . have hs : c.start = c := by unfold Cu.start; rw [if_neg (by omega)]
   obtain ⟨b1, _⟩ := n7 a
   rw [hs, b1, mJ (by omega) a, if_pos a]
   exact ⟨rfl, rfl, fun k => absurd k a⟩
 have h0 : c.c = 0 := by omega
 rw [if_neg a]
 by_cases b : c.p = c.e
 . have hs : c.start = c := by unfold Cu.start; rw [if_neg (by omega)]
   obtain ⟨b1, _⟩ := lU h0 b
   have hc : c.byte.c = 1 := by rw [b1]
   rw [hs, mJ (by omega) (by omega), if_pos b, fI _ h0]
   exact ⟨rfl, hc, fun k => absurd k (by show (1 : Int) ≠ 0; decide)⟩
 have b' : c.p < c.e := by omega
 obtain ⟨d1, d2⟩ := fh h0 b'
 have hg : c.get = c.a9.getD c.p 0 := by unfold Cu.a9; rw [jz b']; rfl
 rw [if_neg b]
 by_cases e : c.get.toNat ≠ 34
 . have hs : c.start = c.fail 3 := by unfold Cu.start; rw [if_pos ⟨⟨h0, b'⟩, by rw [d2, ← hg]; exact e⟩]
   have hf : (c.fail 3).c = 3 := by rw [fI _ h0]
   obtain ⟨b1, _⟩ := n7 (c := c.fail 3) (by omega)
   rw [hs, b1, mJ (by omega) (by omega), if_pos e]
   exact ⟨rfl, rfl, fun k => absurd (hf.symm.trans k) (by decide)⟩
 rw [if_neg e]
 have hs : c.start = c := by unfold Cu.start; rw [if_neg (by rw [d2, ← hg]; exact fun k => k.2 (by omega))]
 have on1 := On.byte h0 b'
 rw [hs]
 have ge := go_eq (c.byte.mu + 1) (c.e - c.p) c.byte [] (eb hk) on1.c0 (by omega) (by rw [on1.a9, on1.p]; omega)
 rw [on1.a9, on1.p] at ge
 have ge : qu c.byte (fB (c.byte.mu + 1) c.byte []) (bR (c.s.take c.e) (c.e - c.p) (c.p + 1) []) := ge
 by_cases r : (bR (c.s.take c.e) (c.e - c.p) (c.p + 1) []).1 = 0
 . rw [if_pos r]
   obtain ⟨g1, g2, g3, g4, g5⟩ := ge.1 r
   refine ⟨g3, g1.trans h0.symm, fun _ => ?_⟩
   generalize (fB (c.byte.mu + 1) c.byte []).1 = f at *
   obtain ⟨fs, fp, fe, fc⟩ := f
   simp only at g1 g2 g4 g5
   rw [g1, g2, g4, g5, on1.s, on1.e]
   obtain ⟨cs, cp, ce, cc⟩ := c
   simp only at h0
   rw [h0]
 . rw [if_neg r, fI _ h0]
   obtain ⟨g1, g2⟩ := ge.2 r
   exact ⟨g2, g1, fun k => absurd k r⟩
end Go.Proofs.Ytllncocibkgjkaa
