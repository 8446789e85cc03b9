/-
  A part of the proof.
-/
import Derived.Test.YtllncocibkgjkaaGreatJD
import Derived.Test.YtllncocibkgjkaaGreatJSt
set_option linter.unusedSimpArgs false
set_option linter.unusedVariables false
set_option maxHeartbeats 4000000
namespace Go.Proofs.YtllncocibkgjkaaGreat
open Go Go.VG
set_option maxRecDepth 100000
theorem Gn (t : List UInt8) (q : Int) (hp : t.length ≤ 90000000 ∧ 0 ≤ q ∧ q ≤ 90000000) : OK 129 ([.str t, .int .i64 q]) ([]) (.tuple [.str (cO t q.toNat).1, .int .i64 (cO t q.toNat).2.1, .int .i64 (cO t q.toNat).2.2]) (none) := by
 obtain ⟨i, rfl⟩ := Int.eq_ofNat_of_zero_le hp.2.1
 exact Gp t i ⟨hp.1, by omega⟩
def xt : Sm := fun args σ => match args, σ with
 | [.str t, .int .i64 q], [] => some (t.length ≤ 90000000 ∧ 0 ≤ q ∧ q ≤ 90000000, .tuple [.str (cO t q.toNat).1, .int .i64 (cO t q.toNat).2.1, .int .i64 (cO t q.toNat).2.2], none)
 | _, _ => none
theorem Iz : aw 129 xt := by
 intro args sg pre x r he hp
 unfold xt at he
 split at he <;> cases he
 . exact Gn (hp := hp) ..
def bJ (t : List UInt8) (i : Nat) : List UInt8 × Int × Int :=
 if (t.getD i 0).toNat = 92 then cO t (i + 1)
 else if (t.getD i 0).toNat < 32 then ([], 0, 3)
 else if (bg t i).2 = 0 then ([], 0, 5)
 else ((t.take (i + (bg t i).2)).drop i, ((i + (bg t i).2 : Nat) : Int), 0)
theorem Gs (t : List UInt8) (i : Nat) (hp : t.length ≤ 10000000 ∧ i < t.length) : OK 119 ([.str t, .int .i64 i]) ([]) (.tuple [.str (bJ t i).1, .int .i64 (bJ t i).2.1, .int .i64 (bJ t i).2.2]) (none) := by
 refine au (C := cx [(129, xt), (130, xT)]) (aq ⟨Iz, J2, trivial⟩) (fn := Tryz.f119) rfl rfl rfl rfl fun hw hs => ?_
 obtain ⟨hl, hi⟩ := hp
 have hr := qY t i
 have hi1 : (IntKind.i64.wrap ((i : Int) + 1)).toNat = i + 1 := by (simp (discharger := omega) only [wR]; omega)
 have hi2 : IntKind.i64.wrap ((i : Int) + (bg t i).2) = ((i + (bg t i).2 : Nat) : Int) := by (simp (discharger := omega) only [wR]; omega)
 repeat' ((conv => whnf); first | apply ak | (apply al <;> intro h) | with_reducible refine c8 ?_ fun hc => ?_)
 all_goals try conv => whnf
 all_goals try (refine a9.mk ?_; try dsimp only)
 all_goals (try simp only [hi1, hi2] at *)
 all_goals first | refine stay ?_ | trivial | omega | (simp (discharger := omega) only [wR]; omega) | skip
 all_goals
  unfold bJ
  repeat (first | rw [if_pos (by omega)] | rw [if_neg (by omega)])
  refine a8.mk [] ?_ <;> (repeat' first | trivial)
def xw : Sm := fun args σ => match args, σ with
 | [.str t, .int .i64 (.ofNat i)], [] => some (t.length ≤ 10000000 ∧ i < t.length, .tuple [.str (bJ t i).1, .int .i64 (bJ t i).2.1, .int .i64 (bJ t i).2.2], none)
 | _, _ => none
theorem IB : aw 119 xw := by
 intro args sg pre x r he hp
 unfold xw at he
 split at he <;> cases he
 . exact Gs (hp := hp) ..
def ct (t : List UInt8) : Nat → Nat → List UInt8 → Int × Nat × List UInt8
 | 0, _, _ => (1, 0, [])
 | n + 1, i, o =>
   if t.length ≤ i then (1, 0, [])
   else if (t.getD i 0).toNat = 34 then (0, i + 1, o)
   else if (bJ t i).2.2 ≠ 0 then ((bJ t i).2.2, 0, [])
   else ct t n (bJ t i).2.1.toNat (o ++ (bJ t i).1)
termination_by n => n
theorem LF (b : UInt8) : (gm b).length ≤ 1 := by unfold gm; split <;> simp
theorem Ka (t : List UInt8) (i : Nat) (n : Int) : (cP t i n).2.2 = 0 → (i : Int) < (cP t i n).2.1 ∧ (cP t i n).2.1 ≤ i + 6 ∧ (cP t i n).1.length ≤ 4 := by
 have hb := fun n => (pf n).2
 unfold cP
 repeat' split
 all_goals intro h
 all_goals first
  | (exfalso; simp at h; done)
  | (exfalso; exact absurd h (by assumption))
  | exact ⟨by show (i : Int) < (i : Int) + 6; omega, by show (i : Int) + 6 ≤ i + 6; omega, hb _⟩
theorem zB (t : List UInt8) (i : Nat) : (cO t i).2.2 = 0 → (i : Int) < (cO t i).2.1 ∧ (cO t i).2.1 ≤ i + 11 ∧ (cO t i).1.length ≤ 4 := by
 have hb := fun n => (pf n).2
 have hs := LF (t.getD i 0)
 unfold cO
 repeat' split
 all_goals intro h
 all_goals first
  | (exfalso; simp at h; done)
  | (exfalso; exact absurd h (by assumption))
  | (have := Ka t (i + 5) _ h; omega)
  | exact ⟨by show (i : Int) < (i : Int) + 5; omega, by show (i : Int) + 5 ≤ i + 11; omega, hb _⟩
  | exact ⟨by show (i : Int) < (i : Int) + 1; omega, by show (i : Int) + 1 ≤ i + 11; omega, by show (gm (t.getD i 0)).length ≤ 4; omega⟩
theorem BU (t : List UInt8) (i : Nat) : (bJ t i).2.2 = 0 → (i : Int) < (bJ t i).2.1 ∧ (bJ t i).2.1 ≤ i + 12 ∧ (bJ t i).1.length ≤ 12 := by
 have hr := qY t i
 unfold bJ
 repeat' split
 all_goals intro h
 . have := zB t (i + 1) h; omega
 . exfalso; simp at h
 . exfalso; simp at h
 . refine ⟨by show (i : Int) < ((i + (bg t i).2 : Nat) : Int); omega, by show ((i + (bg t i).2 : Nat) : Int) ≤ i + 12; omega, ?_⟩
   show ((t.take (i + (bg t i).2)).drop i).length ≤ 12
   rw [List.length_drop, List.length_take]; omega
def Cu.ea (c : Cu) : Cu × List UInt8 :=
 if c.c ≠ 0 then (c, [])
 else if c.p = c.e then (c.fail 1, [])
 else if c.get.toNat ≠ 34 then (c.fail 3, [])
 else if (ct (c.s.take c.e) (c.e - c.p) (c.p + 1) []).1 = 0 then ({ c with p := (ct (c.s.take c.e) (c.e - c.p) (c.p + 1) []).2.1 }, (ct (c.s.take c.e) (c.e - c.p) (c.p + 1) []).2.2)
 else (c.fail (ct (c.s.take c.e) (c.e - c.p) (c.p + 1) []).1, [])
theorem Ge (s : List UInt8) (hp : True) : OK 62 ([.str s]) ([]) (.agg (eC (.new s))) (none) := by
 refine au (C := cx []) (aq trivial) (fn := Tryz.f62) rfl rfl rfl rfl fun hw hs => ?_
 all_goals try conv => whnf
 all_goals try (refine a9.mk ?_; try dsimp only)
 all_goals try refine stay ?_
 refine a8.mk [] ?_ <;> (repeat' first | trivial)
def xl : Sm := fun args σ => match args, σ with
 | [.str s], [] => some (True, .agg (eC (.new s)), none)
 | _, _ => none
theorem Is : aw 62 xl := by
 intro args sg pre x r he hp
 unfold xl at he
 split at he <;> cases he
 . exact Ge (hp := hp) ..
theorem Gc (c : Cu) (k : Int) (hp : True) : OK 91 ([.agg (eC c), .int .i64 k]) ([]) (.agg (eC (c.fail k))) (none) := by
 refine au (C := cx []) (aq trivial) (fn := Tryz.f91) rfl rfl rfl rfl fun hw hs => ?_
 repeat' ((conv => whnf); (apply al <;> intro h))
 all_goals try conv => whnf
 all_goals try (refine a9.mk ?_; try dsimp only)
 all_goals try refine stay ?_
 all_goals
  unfold Cu.fail
  first | rw [if_pos (by assumption)] | rw [if_neg (by assumption)]
  refine a8.mk [] ?_ <;> (repeat' first | trivial)
def oY : Sm := fun args σ => match args, σ with
 | [.agg ([.str s_c, .int .i64 (.ofNat a_c), .int .i64 (.ofNat e_c), .int .i64 c_c]), .int .i64 k], [] => some (True ∧ (True), .agg (eC ((Cu.mk s_c a_c e_c c_c).fail k)), none)
 | _, _ => none
theorem s8 : aw 91 oY := by
 intro args sg pre x r he hp
 unfold oY at he
 split at he <;> cases he
 . rw [c7 (hp).1]; exact Gc (hp := hp.2) ..
theorem Gk (c : Cu) (hp : c.ok ∧ c.s.length ≤ 10000000) : OK 87 ([.agg (eC c)]) ([]) (.tuple [.agg (eC c.ea.1), .str c.ea.2]) (none) := by
 refine au (C := cx [(119, xw), (91, oY)]) (aq ⟨IB, s8, trivial⟩) (fn := Tryz.f87) rfl rfl rfl rfl fun hw hs => ?_
 obtain ⟨hp, hl⟩ := hp
 have h1 := hp.1
 have h2 := hp.2
 have hget : c.p < c.e → (c.s.take c.e).getD c.p 0 = c.get := fun h => jL h
 have hte : (c.s.take c.e).length = c.e := by rw [List.length_take]; omega
 repeat' ((conv => whnf); first | apply ak | apply aW | (apply al <;> intro h) | with_reducible refine c8 ?_ fun hc => ?_)
 all_goals try conv => whnf
 all_goals try (refine a9.mk ?_; try dsimp only)
 all_goals (try simp only [show ((c.e : Int)).toNat = c.e from rfl] at *)
 all_goals (try simp only [aK] at *)
 all_goals first | refine stay ?_ | trivial | omega | skip
 all_goals (try rw [hget (by omega)] at *)
 all_goals first
  | (show a8 _ _ _ _ _ _
     unfold Cu.ea
     repeat (first | rw [if_pos (by omega)] | rw [if_neg (by omega)])
     refine a8.mk [] ?_ <;> (repeat' first | trivial)
     done)
  | skip
 have hrd : c.ea = if (ct (c.s.take c.e) (c.e - c.p) (c.p + 1) []).1 = 0 then ({ c with p := (ct (c.s.take c.e) (c.e - c.p) (c.p + 1) []).2.1 }, (ct (c.s.take c.e) (c.e - c.p) (c.p + 1) []).2.2)
    else (c.fail (ct (c.s.take c.e) (c.e - c.p) (c.p + 1) []).1, []) := by
  unfold Cu.ea
  rw [if_neg (by omega), if_neg (by omega), if_neg (by omega)]
 rw [hrd]
 generalize hR : ct (c.s.take c.e) (c.e - c.p) (c.p + 1) [] = R
 generalize ht : c.s.take c.e = t at *
 refine aU.mk (Nat × Nat × List UInt8) (fun | (n, i, o) => t.length - i + 1 ≤ n ∧ i ≤ t.length + 12 ∧ o.length ≤ 12 * i ∧ ct t n i o = R)
  (fun | (n, i, o) => ⟨67, [(1, .ptr 0 0), (2, .ptr 1 0), (4, .str t), (5, .str o), (6, .int .i64 i)], [.cells (eC c), .cells [.str [], .int .i64 0, .int .i64 0, .int .i64 0]], []⟩) (fun x => x.1) [] (c.e - c.p, c.p + 1, []) ⟨by omega, by omega, by simp, hR⟩ ?_ (fun ⟨n, i, o⟩ ⟨hn, hi, ho, he⟩ _ _ => ?_)
 . refine Go.VG.Sub.mk rfl ?_ ?_ ?_ ?_ <;> (repeat' first | trivial | apply ae | apply aI)
   (simp (discharger := omega) only [wR]; omega)
 have hpn := BU t i
 obtain ⟨n, rfl⟩ : ∃ m, n = m + 1 := ⟨n - 1, by omega⟩
 rw [ct] at he
 repeat' ((conv => whnf); first | apply ak | apply aW | (apply al <;> intro h) | with_reducible refine c8 ?_ fun hc => ?_)
 all_goals try conv => whnf
 all_goals try (refine a9.mk ?_; try dsimp only)
 all_goals (try simp only [aK] at *)
 all_goals first | refine stay ?_ | trivial | omega | skip
 all_goals (repeat (first | rw [if_pos (by omega)] at he | rw [if_neg (by omega)] at he))
 . rw [← he]
   rw [if_pos rfl]
   refine a8.mk [] ?_ <;> (repeat' first | trivial | apply ae | apply aI | apply fZ | apply hP | apply bU)
   (simp (discharger := omega) only [wR]; omega)
 . have hq := hpn (by omega)
   refine ⟨[], (n, (bJ t i).2.1.toNat, o ++ (bJ t i).1), ⟨?_, ?_, ?_, he⟩, ?_, by show n < n + 1; omega⟩
   . show t.length - (bJ t i).2.1.toNat + 1 ≤ n; omega
   . show (bJ t i).2.1.toNat ≤ t.length + 12; omega
   . show (o ++ (bJ t i).1).length ≤ 12 * (bJ t i).2.1.toNat
     rw [List.length_append]; omega
   . refine Go.VG.Sub.mk rfl ?_ ?_ ?_ ?_ <;> (repeat' first | trivial | apply ae | apply aI)
     show (bJ t i).2.1 = (((bJ t i).2.1.toNat : Nat) : Int)
     omega
 . rw [← he, if_neg (by assumption)]
   refine a8.mk [] ?_ <;> (repeat' first | trivial)
 . rw [← he, if_neg (by decide)]
   refine a8.mk [] ?_ <;> (repeat' first | trivial)
def xq : Sm := fun args σ => match args, σ with
 | [.agg ([.str s_c, .int .i64 (.ofNat a_c), .int .i64 (.ofNat e_c), .int .i64 c_c])], [] => some (True ∧ ((Cu.mk s_c a_c e_c c_c).ok ∧ (Cu.mk s_c a_c e_c c_c).s.length ≤ 10000000), .tuple [.agg (eC (Cu.mk s_c a_c e_c c_c).ea.1), .str (Cu.mk s_c a_c e_c c_c).ea.2], none)
 | _, _ => none
theorem Iy : aw 87 xq := by
 intro args sg pre x r he hp
 unfold xq at he
 split at he <;> cases he
 . rw [c7 (hp).1]; exact Gk (hp := hp.2) ..
end Go.Proofs.YtllncocibkgjkaaGreat
namespace Go.Proofs.YtllncocibkgjkaaGreat
open Go Go.VG
set_option maxRecDepth 100000
def Cu.aa (c : Cu) : List UInt8 := c.s.take c.e
theorem fz {c : Cu} (h0 : c.c = 0) (h : c.p < c.e) : c.byte = { c with p := c.p + 1 } ∧ c.ai = c.aa.getD c.p 0 := by
 refine ⟨?_, ?_⟩
 . unfold Cu.byte Cu.pass
   rw [if_neg (by omega), if_neg (by omega), if_neg (by omega)]; rfl
 . unfold Cu.ai Cu.aa
   rw [if_pos ⟨h0, h⟩, jL h]; rfl
theorem mA {c : Cu} (h0 : c.c = 0) (h : c.p = c.e) : c.byte = { c with c := 1 } ∧ c.ai = 0 := by
 refine ⟨?_, ?_⟩
 . unfold Cu.byte Cu.pass
   rw [if_neg (by omega), if_neg (by omega), if_pos (by omega)]
 . unfold Cu.ai; rw [if_neg (by omega)]
theorem nA {c : Cu} (h0 : c.c ≠ 0) : c.byte = c ∧ c.ai = 0 := by
 refine ⟨?_, ?_⟩
 . unfold Cu.byte Cu.pass; rw [if_pos h0]
 . unfold Cu.ai; rw [if_neg (by omega)]
theorem fO {c : Cu} (k : Int) (h : c.c = 0) : c.fail k = { c with c := k } := by unfold Cu.fail; rw [if_pos h]
theorem kt {c : Cu} (k : Int) (h : c.c ≠ 0) : c.fail k = c := by unfold Cu.fail; rw [if_neg h]
theorem eB {c : Cu} (h : c.ok) : c.aa.length = c.e := by have := h.2; unfold Cu.aa; rw [List.length_take]; omega
theorem HF {c : Cu} (h0 : c.c = 0) (h : c.p = c.e) : c.fk.c = 1 := by
 obtain ⟨b1, b2⟩ := mA h0 h
 unfold Cu.fk
 rw [b2, if_neg (by decide), b1, kt _ (by show (1 : Int) ≠ 0; decide)]
structure On (c d : Cu) (n : Nat) : Prop where
 s : d.s = c.s
 e : d.e = c.e
 c0 : d.c = 0
 p : d.p = c.p + n
theorem On.trans {c d f : Cu} {n m : Nat} (h : On c d n) (k : On d f m) : On c f (n + m) := ⟨k.s.trans h.s, k.e.trans h.e, k.c0, by rw [k.p, h.p]; omega⟩
theorem On.aa {c d : Cu} {n : Nat} (h : On c d n) : d.aa = c.aa := by unfold Cu.aa; rw [h.s, h.e]
theorem On.byte {c : Cu} (h0 : c.c = 0) (h : c.p < c.e) : On c c.byte 1 := by rw [(fz h0 h).1]; exact ⟨rfl, rfl, h0, rfl⟩
theorem uR : ∀ (k : Nat) (c : Cu) (u : Int), c.ok → c.c = 0 →
   ((bA c.aa k c.p u).2 = 0 → On c (dI k c u).1 k ∧ (dI k c u).2 = (bA c.aa k c.p u).1) ∧
   ((bA c.aa k c.p u).2 ≠ 0 → (dI k c u).1.c = (bA c.aa k c.p u).2 ∧ (dI k c u).2 = 0)
 | 0, c, u, h, h0 => by
   rw [bA, dI]
   exact ⟨fun _ => ⟨⟨rfl, rfl, h0, rfl⟩, rfl⟩, fun k => absurd rfl k⟩
 | k + 1, c, u, h, h0 => by
   have hl := eB h
   rw [bA, dI]
   by_cases hp : c.p = c.e
   . have he := HF h0 hp
     rw [if_pos (by omega), if_pos (by omega)]
     exact ⟨fun k => absurd k (by simp), fun _ => ⟨he, rfl⟩⟩
   . have hlt : c.p < c.e := by have := h.1; omega
     obtain ⟨b1, b2⟩ := fz h0 hlt
     rw [if_neg (by omega)]
     by_cases hn : fC (dh (c.aa.getD c.p 0)) = true
     . have hx : c.fk = c.byte := by unfold Cu.fk; rw [b2, if_pos hn]
       have hv : c.jO = fv (dh (c.aa.getD c.p 0)) := by unfold Cu.jO; rw [b2]
       have hon := On.byte h0 hlt
       rw [if_pos hn, hx, if_neg (by rw [hon.c0]; simp), hv]
       have ih := uR k c.byte (16 * u + fv (dh (c.aa.getD c.p 0))) (eu h) hon.c0
       rw [hon.aa, hon.p] at ih
       refine ⟨fun q => ?_, ih.2⟩
       obtain ⟨i1, i2⟩ := ih.1 q
       have := hon.trans i1
       rw [Nat.add_comm 1 k] at this
       exact ⟨this, i2⟩
     . have hx : c.fk.c = 6 := by
         unfold Cu.fk
         rw [b2, if_neg hn, fO _ (On.byte h0 hlt).c0]
       rw [if_neg hn, if_pos (by omega)]
       exact ⟨fun k => absurd k (by simp), fun _ => ⟨hx, rfl⟩⟩
theorem Bt {c : Cu} (b : UInt8) (h : c.c ≠ 0) : c.cD b = c := by
 obtain ⟨b1, b2⟩ := nA h
 unfold Cu.cD; rw [b1]
 split
 . rfl
 . exact kt _ h
theorem HG {c : Cu} (h : c.c ≠ 0) : c.fk = c := by
 obtain ⟨b1, b2⟩ := nA h
 unfold Cu.fk; rw [b1, kt _ h]; split <;> rfl
theorem Ht {c : Cu} (h : c.c ≠ 0) : c.four = (c, 0) := by
 unfold Cu.four
 rw [dI, HG h, if_pos h]
theorem Bs {c : Cu} (b : UInt8) (h0 : c.c = 0) (h : c.p = c.e) (hb : b.toNat ≠ 0) : (c.cD b).c = 1 := by
 obtain ⟨b1, b2⟩ := mA h0 h
 unfold Cu.cD
 rw [b2, if_neg (by show ¬ 0 = b.toNat; omega), b1, kt _ (by show (1 : Int) ≠ 0; decide)]
theorem Bu {c : Cu} (b : UInt8) (h0 : c.c = 0) (h : c.p < c.e) (hb : (c.aa.getD c.p 0).toNat ≠ b.toNat) : (c.cD b).c = 6 := by
 obtain ⟨b1, b2⟩ := fz h0 h
 unfold Cu.cD
 rw [b2, if_neg hb, fO _ (On.byte h0 h).c0]
theorem Bv {c : Cu} (b : UInt8) (h0 : c.c = 0) (h : c.p < c.e) (hb : (c.aa.getD c.p 0).toNat = b.toNat) : On c (c.cD b) 1 := by
 obtain ⟨b1, b2⟩ := fz h0 h
 unfold Cu.cD
 rw [b2, if_pos hb]
 exact On.byte h0 h
def Cu.two (c : Cu) : Cu := (c.cD 92).cD 117
theorem Mc {c : Cu} (hk : c.ok) (h0 : c.c = 0) (n : Int) (hn : 55296 ≤ n ∧ n ≤ 56319) :
   ((cP c.aa c.p n).2.2 = 0 → On c c.two.four.1 6 ∧ 56320 ≤ c.two.four.2 ∧ c.two.four.2 ≤ 57343 ∧ cP c.aa c.p n = (ba (65536 + 1024 * (n - 55296) + c.two.four.2 - 56320), (c.p : Int) + 6, 0)) ∧
   ((cP c.aa c.p n).2.2 ≠ 0 → (c.two.four.2 < 56320 ∨ 57344 ≤ c.two.four.2) ∧ (c.two.four.1.fail 6).c = (cP c.aa c.p n).2.2) := by
 have hl := eB hk
 have h1 := hk.1
 have bad : ∀ x : Int, x ≠ 0 → c.two.c = x → (c.two.four.2 < 56320 ∨ 57344 ≤ c.two.four.2) ∧ (c.two.four.1.fail 6).c = x := fun x hx hc => by
  have hne : c.two.c ≠ 0 := by rw [hc]; exact hx
  rw [Ht hne]
  exact ⟨.inl (by show (0 : Int) < 56320; decide), by show (c.two.fail 6).c = x; rw [kt _ hne, hc]⟩
 unfold cP
 by_cases a : c.p = c.e
 . rw [if_pos (by omega)]
   refine ⟨fun k => absurd k (by simp), fun _ => bad 1 (by decide) ?_⟩
   have := Bs 92 h0 a (by decide)
   unfold Cu.two; rw [Bt _ (by omega)]; exact this
 have a' : c.p < c.e := by omega
 rw [if_neg (by omega)]
 by_cases b : (c.aa.getD c.p 0).toNat ≠ 92
 . rw [if_pos b]
   refine ⟨fun k => absurd k (by simp), fun _ => bad 6 (by decide) ?_⟩
   have := Bu 92 h0 a' b
   unfold Cu.two; rw [Bt _ (by omega)]; exact this
 have on1 := Bv 92 h0 a' (by show _ = 92; omega)
 rw [if_neg b]
 have hk1 := oI hk 92
 by_cases d : c.aa.length ≤ c.p + 1
 . rw [if_pos d]
   refine ⟨fun k => absurd k (by simp), fun _ => bad 1 (by decide) ?_⟩
   exact Bs 117 on1.c0 (by rw [on1.p, on1.e]; omega) (by decide)
 rw [if_neg d]
 have a2 : (c.cD 92).p < (c.cD 92).e := by rw [on1.p, on1.e]; omega
 by_cases f : (c.aa.getD (c.p + 1) 0).toNat ≠ 117
 . rw [if_pos f]
   refine ⟨fun k => absurd k (by simp), fun _ => bad 6 (by decide) ?_⟩
   exact Bu 117 on1.c0 a2 (by rw [on1.aa, on1.p]; exact f)
 rw [if_neg f]
 have on2 : On c c.two 2 := on1.trans (Bv 117 on1.c0 a2 (by rw [on1.aa, on1.p]; show _ = 117; omega))
 have hk2 := oI hk1 117
 have fe := uR 4 c.two 0 hk2 on2.c0
 rw [on2.aa, on2.p] at fe
 have fe : ((bA c.aa 4 (c.p + 2) 0).2 = 0 → On c.two c.two.four.1 4 ∧ c.two.four.2 = (bA c.aa 4 (c.p + 2) 0).1) ∧ ((bA c.aa 4 (c.p + 2) 0).2 ≠ 0 → c.two.four.1.c = (bA c.aa 4 (c.p + 2) 0).2 ∧ c.two.four.2 = 0) := fe
 by_cases g : (bA c.aa 4 (c.p + 2) 0).2 ≠ 0
 . rw [if_pos g]
   obtain ⟨q1, q2⟩ := fe.2 g
   exact ⟨fun k => absurd k g, fun _ => ⟨.inl (by rw [q2]; decide), by rw [kt _ (by rw [q1]; exact g), q1]⟩⟩
 rw [if_neg g]
 obtain ⟨q1, q2⟩ := fe.1 (by omega)
 rw [← q2]
 by_cases m : c.two.four.2 < 56320 ∨ 57343 < c.two.four.2
 . rw [if_pos m]
   exact ⟨fun k => absurd k (by simp), fun _ => ⟨by omega, by rw [fO _ q1.c0]⟩⟩
 . rw [if_neg m]
   exact ⟨fun _ => ⟨on2.trans q1, by omega, by omega, rfl⟩, fun k => absurd rfl k⟩
theorem JQ (c : Cu) : c.number = if c.four.2 < 55296 ∨ 57344 ≤ c.four.2 then c.four
 else if 56320 ≤ c.four.2 then (c.four.1.fail 6, 0)
 else if c.four.1.two.four.2 < 56320 ∨ 57344 ≤ c.four.1.two.four.2 then (c.four.1.two.four.1.fail 6, 0)
 else (c.four.1.two.four.1, 65536 + (c.four.2 - 55296) * 1024 + (c.four.1.two.four.2 - 56320)) := rfl
theorem Eo {c : Cu} (hk : c.ok) (h0 : c.c = 0) :
   ((cO c.aa c.p).2.2 = 0 → ∃ n, On c c.dG n ∧ (cO c.aa c.p).2.1 = ((c.p + n : Nat) : Int) ∧ c.g8 = (cO c.aa c.p).1) ∧
   ((cO c.aa c.p).2.2 ≠ 0 → c.dG.c = (cO c.aa c.p).2.2) := by
 have hl := eB hk
 have h1 := hk.1
 unfold cO
 by_cases a : c.p = c.e
 . obtain ⟨b1, b2⟩ := mA h0 a
   rw [if_pos (by omega)]
   refine ⟨fun k => absurd k (by simp), fun _ => ?_⟩
   unfold Cu.dG
   rw [b2, if_neg (by decide), if_neg (by decide), b1, kt _ (by show (1 : Int) ≠ 0; decide)]
 have a' : c.p < c.e := by omega
 obtain ⟨b1, b2⟩ := fz h0 a'
 have on1 := On.byte h0 a'
 rw [if_neg (by omega)]
 by_cases b : (c.aa.getD c.p 0).toNat ≠ 117
 . rw [if_pos b]
   by_cases p : eO (c.aa.getD c.p 0) = true
   . rw [if_pos p]
     refine ⟨fun _ => ⟨1, ?_, rfl, ?_⟩, fun k => absurd rfl k⟩
     . unfold Cu.dG; rw [b2, if_neg b, if_pos p]; exact on1
     . unfold Cu.g8 gm; rw [b2, if_neg b, if_pos p]
   . rw [if_neg p]
     refine ⟨fun k => absurd k (by simp), fun _ => ?_⟩
     unfold Cu.dG; rw [b2, if_neg b, if_neg p, fO _ on1.c0]
 rw [if_neg b]
 have hb : (c.aa.getD c.p 0).toNat = 117 := by omega
 have hk1 := eu hk
 have hC : c.dG = c.byte.number.1 := by unfold Cu.dG; rw [b2, if_pos hb]
 have hO : c.g8 = if c.byte.number.1.c = 0 then ba c.byte.number.2 else [] := by unfold Cu.g8; rw [b2, if_pos hb]
 have fe : ((bA c.byte.aa 4 c.byte.p 0).2 = 0 → On c.byte c.byte.four.1 4 ∧ c.byte.four.2 = (bA c.byte.aa 4 c.byte.p 0).1) ∧ ((bA c.byte.aa 4 c.byte.p 0).2 ≠ 0 → c.byte.four.1.c = (bA c.byte.aa 4 c.byte.p 0).2 ∧ c.byte.four.2 = 0) := uR 4 c.byte 0 hk1 on1.c0
 rw [on1.aa, on1.p] at fe
 rw [hC, hO, JQ]
 by_cases g : (bA c.aa 4 (c.p + 1) 0).2 ≠ 0
 . rw [if_pos g]
   obtain ⟨q1, q2⟩ := fe.2 g
   refine ⟨fun k => absurd k g, fun _ => ?_⟩
   rw [if_pos (.inl (by rw [q2]; decide)), q1]
 rw [if_neg g]
 obtain ⟨q1, q2⟩ := fe.1 (by omega)
 have on5 := on1.trans q1
 rw [← q2]
 by_cases m1 : 55296 ≤ c.byte.four.2 ∧ c.byte.four.2 ≤ 56319
 . rw [if_pos m1, if_neg (by omega), if_neg (by omega)]
   have te := Mc (rV hk1) q1.c0 c.byte.four.2 m1
   rw [on5.aa, on5.p] at te
   have te : ((cP c.aa (c.p + 5) c.byte.four.2).2.2 = 0 → On c.byte.four.1 c.byte.four.1.two.four.1 6 ∧ 56320 ≤ c.byte.four.1.two.four.2 ∧ c.byte.four.1.two.four.2 ≤ 57343 ∧ cP c.aa (c.p + 5) c.byte.four.2 = (ba (65536 + 1024 * (c.byte.four.2 - 55296) + c.byte.four.1.two.four.2 - 56320), ((c.p + 5 : Nat) : Int) + 6, 0)) ∧
    ((cP c.aa (c.p + 5) c.byte.four.2).2.2 ≠ 0 → (c.byte.four.1.two.four.2 < 56320 ∨ 57344 ≤ c.byte.four.1.two.four.2) ∧ (c.byte.four.1.two.four.1.fail 6).c = (cP c.aa (c.p + 5) c.byte.four.2).2.2) := te
   refine ⟨fun k => ?_, fun k => ?_⟩
   . obtain ⟨t1, t2, t3, t4⟩ := te.1 k
     rw [if_neg (by omega)]
     refine ⟨11, on5.trans t1, ?_, ?_⟩
     . rw [t4]; show ((c.p + 5 : Nat) : Int) + 6 = _; omega
     . rw [t4, if_pos t1.c0]
       show ba _ = ba _
       congr 1; omega
   . obtain ⟨t1, t2⟩ := te.2 k
     rw [if_pos t1]; exact t2
 . rw [if_neg m1]
   by_cases m2 : 56320 ≤ c.byte.four.2 ∧ c.byte.four.2 ≤ 57343
   . rw [if_pos m2, if_neg (by omega), if_pos m2.1]
     refine ⟨fun k => absurd k (by simp), fun _ => ?_⟩
     show (c.byte.four.1.fail 6).c = 6
     rw [fO _ q1.c0]
   . rw [if_neg m2, if_pos (by omega)]
     exact ⟨fun _ => ⟨5, on5, by show (c.p : Int) + 5 = _; omega, by rw [if_pos q1.c0]⟩, fun k => absurd rfl k⟩
theorem C9 : ∀ (k : Nat) (c : Cu) (s : List UInt8), c.ok → c.c = 0 → ∃ j, j ≤ k ∧ On c (cV k c s).1 j ∧ (cV k c s).2 = s ++ (c.aa.drop c.p).take j ∧ (∀ i, i < j → cont (c.aa.getD (c.p + i) 0) = true) ∧
   c.p + j ≤ c.e ∧ (j = k ∨ c.p + j = c.e ∨ cont (c.aa.getD (c.p + j) 0) = false)
 | 0, c, s, h, h0 => by
   rw [cV]
   exact ⟨0, Nat.le_refl _, ⟨rfl, rfl, h0, rfl⟩, by simp, by omega, by have := h.1; omega, .inl rfl⟩
 | k + 1, c, s, h, h0 => by
   rw [cV]
   by_cases hp : c.p < c.e
   . obtain ⟨b1, b2⟩ := fz h0 hp
     have hl := eB h
     by_cases hc : cont (c.aa.getD c.p 0) = true
     . rw [if_pos ⟨h0, hp, by rw [b2]; exact hc⟩]
       have on1 := On.byte h0 hp
       obtain ⟨j, q1, q2, q3, q4, q5, q6⟩ := C9 k c.byte (s ++ [c.ai]) (eu h) on1.c0
       rw [on1.aa, on1.p] at q3 q4 q6
       rw [on1.p, on1.e] at q5
       rw [on1.e] at q6
       refine ⟨j + 1, by omega, ?_, ?_, fun i hi => ?_, by omega, ?_⟩
       . have := on1.trans q2; rw [Nat.add_comm 1 j] at this; exact this
       . rw [q3, b2, List.append_assoc]
         congr 1
         rw [List.drop_eq_getElem_cons (show c.p < c.aa.length by omega), List.take_succ_cons, List.getD_eq_getElem?_getD, List.getElem?_eq_getElem (show c.p < c.aa.length by omega)]; rfl
       . cases i with
         | zero => exact hc
         | succ i => rw [show c.p + (i + 1) = c.p + 1 + i by omega]; exact q4 i (by omega)
       . rw [show c.p + (j + 1) = c.p + 1 + j by omega]
         rcases q6 with q6 | q6 | q6
         . exact .inl (by omega)
         . exact .inr (.inl q6)
         . exact .inr (.inr q6)
     . rw [if_neg (by rw [b2]; exact fun h => hc h.2.2)]
       refine ⟨0, by omega, ⟨rfl, rfl, h0, rfl⟩, by simp, by omega, by omega, .inr (.inr ?_)⟩
       cases hq : cont (c.aa.getD (c.p + 0) 0) with
       | false => rfl
       | true => exact absurd hq hc
   . rw [if_neg (by omega)]
     have := h.1
     exact ⟨0, by omega, ⟨rfl, rfl, h0, rfl⟩, by simp, by omega, by omega, .inr (.inl (by omega))⟩
theorem Af (x : List UInt8) (m : Nat) : ∀ r i a, i + r ≤ m → m ≤ x.length → eQ (x.take m) r i a = eQ x r i a
 | 0, _, _, _, _ => rfl
 | r + 1, i, a, h, hm => by
   simp only [eQ]
   rw [jL (by omega), Af x m r (i + 1) _ (by omega) hm]
theorem Ac (x : List UInt8) : ∀ r i a, eQ x r i a ≠ none → ∀ j, i ≤ j → j < i + r → cont (x.getD j 0) = true
 | 0, _, _, _, _, _, _ => by omega
 | r + 1, i, a, h, j, h1, h2 => by
   simp only [eQ] at h
   by_cases hc : cont (x.getD i 0) = true
   . rw [if_pos hc] at h
     by_cases e : j = i
     . subst e; exact hc
     . exact Ac x r (i + 1) _ h j (by omega) (by omega)
   . rw [if_neg hc] at h; exact absurd rfl h
theorem Me (n : Nat) (o : Option Nat) : (kT n o).2 = 0 ∨ ((kT n o).2 = n ∧ o ≠ none) := by
 cases o with
 | none => exact .inl rfl
 | some r =>
   rw [tJ]
   repeat' split
   . exact .inl rfl
   . exact .inr ⟨rfl, by simp⟩
   . exact .inl rfl
theorem we (x : List UInt8) (hx : 0 < x.length) : (cR x 0).2 = 0 ∨ ((cR x 0).2 = aZ (x.getD 0 0).toNat ∧ 1 ≤ aZ (x.getD 0 0).toNat ∧ aZ (x.getD 0 0).toNat ≤ x.length ∧ ∀ j, 1 ≤ j → j < aZ (x.getD 0 0).toNat → cont (x.getD j 0) = true) := by
 unfold cR
 rw [if_neg (by omega)]
 split
 . exact .inl rfl
 split
 . exact .inl rfl
 split
 . rename_i h1 h2 h3
   exact .inr ⟨h3.symm, by omega, by omega, by omega⟩
 . rename_i h1 h2 h3
   rcases Me (aZ (x.getD 0 0).toNat) (eQ x (aZ (x.getD 0 0).toNat - 1) (0 + 1) ((x.getD 0 0).toNat % 2 ^ (7 - aZ (x.getD 0 0).toNat))) with h | ⟨h, k⟩
   . exact .inl h
   . exact .inr ⟨h, by omega, by omega, fun j a b => Ac x _ _ _ k j a (by omega)⟩
theorem wh (x : List UInt8) (m : Nat) (hm : aZ (x.getD 0 0).toNat ≤ m) (h1 : 1 ≤ m) (hx : m ≤ x.length) : cR (x.take m) 0 = cR x 0 := by
 have e : (x.take m).getD 0 0 = x.getD 0 0 := jL (by omega)
 have l : (x.take m).length = m := by rw [List.length_take]; omega
 unfold cR
 rw [e, l, if_neg (show ¬ m ≤ 0 by omega), if_neg (show ¬ x.length ≤ 0 by omega)]
 by_cases a : aZ (x.getD 0 0).toNat = 0
 . rw [if_pos a, if_pos a]
 . rw [if_neg a, if_neg a, if_neg (show ¬ m < 0 + aZ (x.getD 0 0).toNat by omega), if_neg (show ¬ x.length < 0 + aZ (x.getD 0 0).toNat by omega), Af x m _ _ _ (by omega) hx]
theorem DZ {s : List UInt8} (hs : 0 < s.length) (h : (bg s 0).2 = 0) : kf s = 0 := by
 have hw : iG s 0 0 = (0, 0) := by rw [iG, if_neg (by omega), dif_pos h]
 unfold kf
 rw [hw, if_neg (show ¬ 0 = s.length by omega)]; rfl
theorem check_1 {s : List UInt8} (hs : 0 < s.length) (h : (bg s 0).2 = s.length) : kf s = -1 := by
 have hw : iG s 0 0 = (0 + (bg s 0).2, 0 + 1) := by
  rw [iG, if_neg (by omega), dif_neg (by omega), iG, if_pos (by omega)]
 unfold kf
 rw [hw, if_pos (show 0 + (bg s 0).2 = s.length by omega)]
theorem LX {b : UInt8} : aZ b.toNat = 0 ∨ cE b + 1 = aZ b.toNat := by
 unfold aZ cE; repeat' split
 all_goals omega
theorem Kz {d : Cu} (hk : d.ok) (h0 : d.c = 0) (hp : d.p < d.e) :
   ((bg d.aa d.p).2 = 0 → (d.byte.eP (d.aa.getD d.p 0)).c = 5) ∧
   ((bg d.aa d.p).2 ≠ 0 → On d (d.byte.eP (d.aa.getD d.p 0)) (bg d.aa d.p).2 ∧ d.byte.gK (d.aa.getD d.p 0) = (d.aa.take (d.p + (bg d.aa d.p).2)).drop d.p) := by
 have hl := eB hk
 have on1 := On.byte h0 hp
 have hxl : (d.aa.drop d.p).length = d.e - d.p := by rw [List.length_drop, hl]
 have hx0 : (d.aa.drop d.p).getD 0 0 = d.aa.getD d.p 0 := by simp [List.getD_eq_getElem?_getD, List.getElem?_drop]
 have hxc : d.aa.drop d.p = d.aa.getD d.p 0 :: d.aa.drop (d.p + 1) := by
  rw [List.drop_eq_getElem_cons (show d.p < d.aa.length by omega), List.getD_eq_getElem?_getD, List.getElem?_eq_getElem (show d.p < d.aa.length by omega)]; rfl
 have hu : bg d.aa d.p = cR (d.aa.drop d.p) 0 := by rw [wi, if_neg (by omega), ng]
 obtain ⟨j, q1, q2, q3, q4, q5, q6⟩ := C9 (cE (d.aa.getD d.p 0)) d.byte [d.aa.getD d.p 0] (eu hk) on1.c0
 rw [on1.aa, on1.p] at q3 q4 q6
 rw [on1.p, on1.e] at q5
 rw [on1.e] at q6
 have hS : (cV (cE (d.aa.getD d.p 0)) d.byte [d.aa.getD d.p 0]).2 = (d.aa.drop d.p).take (j + 1) := by
  rw [q3, hxc, List.take_succ_cons]; rfl
 have hSl : ((d.aa.drop d.p).take (j + 1)).length = j + 1 := by rw [List.length_take, hxl]; omega
 have hS0 : ((d.aa.drop d.p).take (j + 1)).getD 0 0 = d.aa.getD d.p 0 := by rw [jL (by omega), hx0]
 rw [hu]
 unfold Cu.eP Cu.gK
 rw [hS]
 refine ⟨fun hn => ?_, fun hn => ?_⟩
 . have hz : (bg ((d.aa.drop d.p).take (j + 1)) 0).2 = 0 := by
     rw [← ng]
     rcases we ((d.aa.drop d.p).take (j + 1)) (by omega) with h | ⟨h1, h2, h3, h4⟩
     . exact h
     . rw [hS0] at h1 h2 h3
       rw [wh _ (j + 1) (by rw [hx0]; omega) (by omega) (by omega)]; exact hn
   rw [DZ (by omega) hz, if_pos (by decide), fO _ q2.c0]
 . rcases we (d.aa.drop d.p) (by omega) with h | ⟨h1, h2, h3, h4⟩
   . exact absurd h hn
   . rw [hx0] at h1 h2 h3 h4
     have ht := LX (b := d.aa.getD d.p 0)
     have hj : j + 1 = aZ (d.aa.getD d.p 0).toNat := by
      rcases q6 with q6 | q6 | q6
      . omega
      . omega
      . by_cases e : j + 1 = aZ (d.aa.getD d.p 0).toNat
        . exact e
        . exfalso
          have := h4 (j + 1) (by omega) (by omega)
          rw [show (d.aa.drop d.p).getD (j + 1) 0 = d.aa.getD (d.p + 1 + j) 0 by
           rw [List.getD_eq_getElem?_getD, List.getD_eq_getElem?_getD, List.getElem?_drop, show d.p + (j + 1) = d.p + 1 + j by omega], q6] at this
          cases this
     have hz : (bg ((d.aa.drop d.p).take (j + 1)) 0).2 = ((d.aa.drop d.p).take (j + 1)).length := by
      rw [← ng, wh _ (j + 1) (by rw [hx0]; omega) (by omega) (by omega), h1, hSl, hj]
     rw [check_1 (by omega) hz, if_neg (by decide), if_neg (by decide), h1, ← hj]
     refine ⟨?_, ?_⟩
     . have := on1.trans q2
       rw [Nat.add_comm 1 j] at this; exact this
     . rw [List.drop_take, show d.p + (j + 1) - d.p = j + 1 by omega]
theorem nc {n : Nat} {c : Cu} {o : List UInt8} (hn : 0 < n) (h : c.c ≠ 0) : fI n c o = (c, []) := by
 cases n with
 | zero => omega
 | succ n => rw [fI, if_pos h]
def tS (d : Cu) (P : Cu × List UInt8) (R : Int × Nat × List UInt8) : Prop :=
 (R.1 = 0 → P.1.c = 0 ∧ P.1.p = R.2.1 ∧ P.2 = R.2.2 ∧ P.1.s = d.s ∧ P.1.e = d.e) ∧ (R.1 ≠ 0 → P.1.c = R.1 ∧ P.2 = [])
theorem go_eq : ∀ (n m : Nat) (d : Cu) (o : List UInt8), d.ok → d.c = 0 → d.mu < n → d.aa.length - d.p + 1 ≤ m → tS d (fI n d o) (ct d.aa m d.p o)
 | 0, _, _, _, _, _, h, _ => by omega
 | n + 1, 0, _, _, _, _, _, h => by omega
 | n + 1, m + 1, d, o, hk, h0, hn, hm => by
   have hl := eB hk
   have h1 := hk.1
   have hmu : d.mu = d.e - d.p + 1 := by unfold Cu.mu; rw [if_neg (by omega)]
   rw [fI, ct, if_neg (by omega)]
   by_cases a : d.p = d.e
   . obtain ⟨b1, b2⟩ := mA h0 a
     have hc : d.byte.c = 1 := by rw [b1]
     rw [if_pos (by omega), if_pos (by omega), nc (by omega) (by omega)]
     exact ⟨fun k => absurd k (by decide), fun _ => ⟨hc, rfl⟩⟩
   have a' : d.p < d.e := by omega
   obtain ⟨b1, b2⟩ := fz h0 a'
   have on1 := On.byte h0 a'
   have hkb := eu hk
   rw [if_neg (show ¬ d.byte.c ≠ 0 by rw [on1.c0]; decide), if_neg (show ¬ d.aa.length ≤ d.p by omega), b2]
   by_cases q34 : (d.aa.getD d.p 0).toNat = 34
   . rw [if_pos q34, if_pos q34]
     exact ⟨fun _ => ⟨on1.c0, on1.p, rfl, on1.s, on1.e⟩, fun k => absurd rfl k⟩
   rw [if_neg q34, if_neg q34]
   by_cases q32 : (d.aa.getD d.p 0).toNat < 32
   . have hp : bJ d.aa d.p = ([], 0, 3) := by unfold bJ; rw [if_neg (by omega), if_pos q32]
     have hc : (d.byte.fail 3).c = 3 := by rw [fO _ on1.c0]
     rw [if_pos q32, hp, if_pos (by decide), nc (by omega) (by omega)]
     exact ⟨fun k => absurd k (by decide), fun _ => ⟨hc, rfl⟩⟩
   rw [if_neg q32]
   have step : ∀ (f : Cu) (k : Nat) (w : List UInt8), On d f k → 0 < k → f.ok → tS d (fI n f (o ++ w)) (ct d.aa m (d.p + k) (o ++ w)) := fun f k w hf hk0 hfk => by
    have hfm : f.mu = f.e - f.p + 1 := by unfold Cu.mu; rw [if_neg (by have := hf.c0; omega)]
    have ih := go_eq n m f (o ++ w) hfk hf.c0 (by rw [hfm, hf.e, hf.p]; omega) (by rw [hf.aa, hf.p]; omega)
    rw [hf.aa, hf.p] at ih
    exact ⟨fun q => by obtain ⟨i1, i2, i3, i4, i5⟩ := ih.1 q; exact ⟨i1, i2, i3, i4.trans hf.s, i5.trans hf.e⟩, ih.2⟩
   by_cases q92 : (d.aa.getD d.p 0).toNat = 92
   . have hp : bJ d.aa d.p = cO d.aa (d.p + 1) := by unfold bJ; rw [if_pos q92]
     have ee := Eo hkb on1.c0
     rw [on1.aa, on1.p] at ee
     rw [if_pos q92, hp]
     by_cases e0 : (cO d.aa (d.p + 1)).2.2 ≠ 0
     . have hc := ee.2 e0
       rw [if_pos e0, nc (by omega) (by rw [hc]; exact e0)]
       exact ⟨fun k => absurd k e0, fun _ => ⟨hc, rfl⟩⟩
     . rw [if_neg e0]
       obtain ⟨k, r1, r2, r3⟩ := ee.1 (by omega)
       rw [r2, r3, Int.toNat_natCast]
       have := step _ (1 + k) (cO d.aa (d.p + 1)).1 (on1.trans r1) (by omega) (mH hkb)
       rw [← Nat.add_assoc] at this
       exact this
   . have ee := Kz hk h0 a'
     rw [if_neg q92]
     by_cases e0 : (bg d.aa d.p).2 = 0
     . have hp : bJ d.aa d.p = ([], 0, 5) := by unfold bJ; rw [if_neg q92, if_neg q32, if_pos e0]
       have hc := ee.1 e0
       rw [hp, if_pos (by decide), nc (by omega) (by omega)]
       exact ⟨fun k => absurd k (by decide), fun _ => ⟨hc, rfl⟩⟩
     . have hp : bJ d.aa d.p = ((d.aa.take (d.p + (bg d.aa d.p).2)).drop d.p, ((d.p + (bg d.aa d.p).2 : Nat) : Int), 0) := by unfold bJ; rw [if_neg q92, if_neg q32, if_neg e0]
       obtain ⟨r1, r2⟩ := ee.2 e0
       rw [hp, if_neg (fun k => k rfl), r2]
       exact step _ _ _ r1 (by omega) (nb hkb _)
theorem KE {c : Cu} (hk : c.ok) : c.read.2 = c.ea.2 ∧ c.read.1.c = c.ea.1.c ∧ (c.ea.1.c = 0 → c.read.1 = c.ea.1) := by
 have h1 := hk.1
 have hl := eB hk
 unfold Cu.read Cu.ea
 by_cases a : c.c ≠ 0
 . have hs : c.start = c := by unfold Cu.start; rw [if_neg (by omega)]
   obtain ⟨b1, _⟩ := nA a
   rw [hs, b1, nc (by omega) a, if_pos a]
   exact ⟨rfl, rfl, fun k => absurd k a⟩
 have h0 : c.c = 0 := by omega
 rw [if_neg a]
 by_cases b : c.p = c.e
 . have hs : c.start = c := by unfold Cu.start; rw [if_neg (by omega)]
   obtain ⟨b1, _⟩ := mA h0 b
   have hc : c.byte.c = 1 := by rw [b1]
   rw [hs, nc (by omega) (by omega), if_pos b, fO _ h0]
   exact ⟨rfl, hc, fun k => absurd k (by show (1 : Int) ≠ 0; decide)⟩
 have b' : c.p < c.e := by omega
 obtain ⟨d1, d2⟩ := fz h0 b'
 have hg : c.get = c.aa.getD c.p 0 := by unfold Cu.aa; rw [jL b']; rfl
 rw [if_neg b]
 by_cases e : c.get.toNat ≠ 34
 . have hs : c.start = c.fail 3 := by unfold Cu.start; rw [if_pos ⟨⟨h0, b'⟩, by rw [d2, ← hg]; exact e⟩]
   have hf : (c.fail 3).c = 3 := by rw [fO _ h0]
   obtain ⟨b1, _⟩ := nA (c := c.fail 3) (by omega)
   rw [hs, b1, nc (by omega) (by omega), if_pos e]
   exact ⟨rfl, rfl, fun k => absurd (hf.symm.trans k) (by decide)⟩
 rw [if_neg e]
 have hs : c.start = c := by unfold Cu.start; rw [if_neg (by rw [d2, ← hg]; exact fun k => k.2 (by omega))]
 have on1 := On.byte h0 b'
 rw [hs]
 have ge := go_eq (c.byte.mu + 1) (c.e - c.p) c.byte [] (eu hk) on1.c0 (by omega) (by rw [on1.aa, on1.p]; omega)
 rw [on1.aa, on1.p] at ge
 have ge : tS c.byte (fI (c.byte.mu + 1) c.byte []) (ct (c.s.take c.e) (c.e - c.p) (c.p + 1) []) := ge
 by_cases r : (ct (c.s.take c.e) (c.e - c.p) (c.p + 1) []).1 = 0
 . rw [if_pos r]
   obtain ⟨g1, g2, g3, g4, g5⟩ := ge.1 r
   refine ⟨g3, g1.trans h0.symm, fun _ => ?_⟩
   generalize (fI (c.byte.mu + 1) c.byte []).1 = f at *
   obtain ⟨fs, fp, fe, fc⟩ := f
   simp only at g1 g2 g4 g5
   rw [g1, g2, g4, g5, on1.s, on1.e]
   obtain ⟨cs, cp, ce, cc⟩ := c
   simp only at h0
   rw [h0]
 . rw [if_neg r, fO _ h0]
   obtain ⟨g1, g2⟩ := ge.2 r
   exact ⟨g2, g1, fun k => absurd k r⟩
end Go.Proofs.YtllncocibkgjkaaGreat
