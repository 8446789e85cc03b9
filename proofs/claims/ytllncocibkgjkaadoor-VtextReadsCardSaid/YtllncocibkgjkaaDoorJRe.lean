/-
  A part of the proof.
-/
import Derived.Test.YtllncocibkgjkaaDoorJSp
import Derived.Test.YtllncocibkgjkaaDoorJSt
set_option linter.unusedSimpArgs false
set_option linter.unusedVariables false
set_option maxHeartbeats 4000000
namespace Go.Proofs.YtllncocibkgjkaaDoor
open Go Go.VG
set_option maxRecDepth 100000
def cA (t : List UInt8) : Nat → Nat → Int → Int × Int
 | 0, _, n => (n, 0)
 | r + 1, i, n => if t.length ≤ i then (0, 1) else if g8 (dF (t.getD i 0)) = true then cA t r (i + 1) (16 * n + fF (dF (t.getD i 0))) else (0, 6)
termination_by r => r
def nj (b : UInt8) : List UInt8 := if iJ b = true then [byte (n8 b)] else []
def g9 (t : List UInt8) (i : Nat) (n : Int) : List UInt8 × Int × Int :=
 if t.length ≤ i then ([], 0, 1) else if (t.getD i 0).toNat ≠ 92 then ([], 0, 6)
 else if t.length ≤ i + 1 then ([], 0, 1) else if (t.getD (i + 1) 0).toNat ≠ 117 then ([], 0, 6)
 else if (cA t 4 (i + 2) 0).2 ≠ 0 then ([], 0, (cA t 4 (i + 2) 0).2)
 else if (cA t 4 (i + 2) 0).1 < 56320 ∨ 57343 < (cA t 4 (i + 2) 0).1 then ([], 0, 6)
 else (bQ (65536 + 1024 * (n - 55296) + (cA t 4 (i + 2) 0).1 - 56320), (i : Int) + 6, 0)
def fL (t : List UInt8) (i : Nat) : List UInt8 × Int × Int :=
 if t.length ≤ i then ([], 0, 1)
 else if (t.getD i 0).toNat ≠ 117 then (if iJ (t.getD i 0) = true then (nj (t.getD i 0), (i : Int) + 1, 0) else ([], 0, 6))
 else if (cA t 4 (i + 1) 0).2 ≠ 0 then ([], 0, (cA t 4 (i + 1) 0).2)
 else if 55296 ≤ (cA t 4 (i + 1) 0).1 ∧ (cA t 4 (i + 1) 0).1 ≤ 56319 then g9 t (i + 5) (cA t 4 (i + 1) 0).1
 else if 56320 ≤ (cA t 4 (i + 1) 0).1 ∧ (cA t 4 (i + 1) 0).1 ≤ 57343 then ([], 0, 6)
 else (bQ (cA t 4 (i + 1) 0).1, (i : Int) + 5, 0)
end Go.Proofs.YtllncocibkgjkaaDoor
namespace Go.Proofs.YtllncocibkgjkaaDoor
open Go Go.VG
set_option maxRecDepth 100000
def dn (t : List UInt8) (i : Nat) : List UInt8 × Int × Int :=
 if (t.getD i 0).toNat = 92 then fL t (i + 1)
 else if (t.getD i 0).toNat < 32 then ([], 0, 3)
 else if (bI t i).2 = 0 then ([], 0, 5)
 else ((t.take (i + (bI t i).2)).drop i, ((i + (bI t i).2 : Nat) : Int), 0)
def eo (t : List UInt8) : Nat → Nat → List UInt8 → Int × Nat × List UInt8
 | 0, _, _ => (1, 0, [])
 | n + 1, i, o =>
   if t.length ≤ i then (1, 0, [])
   else if (t.getD i 0).toNat = 34 then (0, i + 1, o)
   else if (dn t i).2.2 ≠ 0 then ((dn t i).2.2, 0, [])
   else eo t n (dn t i).2.1.toNat (o ++ (dn t i).1)
termination_by n => n
theorem JZ (b : UInt8) : (nj b).length ≤ 1 := by unfold nj; split <;> simp
theorem Ix (t : List UInt8) (i : Nat) (n : Int) : (g9 t i n).2.2 = 0 → (i : Int) < (g9 t i n).2.1 ∧ (g9 t i n).2.1 ≤ i + 6 ∧ (g9 t i n).1.length ≤ 4 := by
 have hb := fun n => (qS n).2
 unfold g9
 repeat' split
 all_goals intro h
 all_goals first
  | (exfalso; simp at h; done)
  | (exfalso; exact absurd h (by assumption))
  | exact ⟨by show (i : Int) < (i : Int) + 6; omega, by show (i : Int) + 6 ≤ i + 6; omega, hb _⟩
theorem DF (t : List UInt8) (i : Nat) : (fL t i).2.2 = 0 → (i : Int) < (fL t i).2.1 ∧ (fL t i).2.1 ≤ i + 11 ∧ (fL t i).1.length ≤ 4 := by
 have hb := fun n => (qS n).2
 have hs := JZ (t.getD i 0)
 unfold fL
 repeat' split
 all_goals intro h
 all_goals first
  | (exfalso; simp at h; done)
  | (exfalso; exact absurd h (by assumption))
  | (have := Ix t (i + 5) _ h; omega)
  | exact ⟨by show (i : Int) < (i : Int) + 5; omega, by show (i : Int) + 5 ≤ i + 11; omega, hb _⟩
  | exact ⟨by show (i : Int) < (i : Int) + 1; omega, by show (i : Int) + 1 ≤ i + 11; omega, by show (nj (t.getD i 0)).length ≤ 4; omega⟩
theorem IC (t : List UInt8) (i : Nat) : (dn t i).2.2 = 0 → (i : Int) < (dn t i).2.1 ∧ (dn t i).2.1 ≤ i + 12 ∧ (dn t i).1.length ≤ 12 := by
 have hr := qT t i
 unfold dn
 repeat' split
 all_goals intro h
 . have := DF t (i + 1) h; omega
 . exfalso; simp at h
 . exfalso; simp at h
 . refine ⟨by show (i : Int) < ((i + (bI t i).2 : Nat) : Int); omega, by show ((i + (bI t i).2 : Nat) : Int) ≤ i + 12; omega, ?_⟩
   show ((t.take (i + (bI t i).2)).drop i).length ≤ 12
   rw [List.length_drop, List.length_take]; omega
def Cu.jo (c : Cu) : Cu × List UInt8 :=
 if c.c ≠ 0 then (c, [])
 else if c.p = c.e then (c.fail 1, [])
 else if c.get.toNat ≠ 34 then (c.fail 3, [])
 else if (eo (c.s.take c.e) (c.e - c.p) (c.p + 1) []).1 = 0 then ({ c with p := (eo (c.s.take c.e) (c.e - c.p) (c.p + 1) []).2.1 }, (eo (c.s.take c.e) (c.e - c.p) (c.p + 1) []).2.2)
 else (c.fail (eo (c.s.take c.e) (c.e - c.p) (c.p + 1) []).1, [])
end Go.Proofs.YtllncocibkgjkaaDoor
namespace Go.Proofs.YtllncocibkgjkaaDoor
open Go Go.VG
set_option maxRecDepth 100000
def Cu.a9 (c : Cu) : List UInt8 := c.s.take c.e
theorem fJ {c : Cu} (h0 : c.c = 0) (h : c.p < c.e) : c.byte = { c with p := c.p + 1 } ∧ c.af = c.a9.getD c.p 0 := by
 refine ⟨?_, ?_⟩
 . unfold Cu.byte Cu.pass
   rw [if_neg (by omega), if_neg (by omega), if_neg (by omega)]; rfl
 . unfold Cu.af Cu.a9
   rw [if_pos ⟨h0, h⟩, oe h]; rfl
theorem my {c : Cu} (h0 : c.c = 0) (h : c.p = c.e) : c.byte = { c with c := 1 } ∧ c.af = 0 := by
 refine ⟨?_, ?_⟩
 . unfold Cu.byte Cu.pass
   rw [if_neg (by omega), if_neg (by omega), if_pos (by omega)]
 . unfold Cu.af; rw [if_neg (by omega)]
theorem nE {c : Cu} (h0 : c.c ≠ 0) : c.byte = c ∧ c.af = 0 := by
 refine ⟨?_, ?_⟩
 . unfold Cu.byte Cu.pass; rw [if_pos h0]
 . unfold Cu.af; rw [if_neg (by omega)]
theorem gT {c : Cu} (k : Int) (h : c.c = 0) : c.fail k = { c with c := k } := by unfold Cu.fail; rw [if_pos h]
theorem kD {c : Cu} (k : Int) (h : c.c ≠ 0) : c.fail k = c := by unfold Cu.fail; rw [if_neg h]
theorem gj {c : Cu} (h : c.ok) : c.a9.length = c.e := by have := h.2; unfold Cu.a9; rw [List.length_take]; omega
theorem G5 {c : Cu} (h0 : c.c = 0) (h : c.p = c.e) : c.fB.c = 1 := by
 obtain ⟨b1, b2⟩ := my h0 h
 unfold Cu.fB
 rw [b2, if_neg (by decide), b1, kD _ (by show (1 : Int) ≠ 0; decide)]
structure On (c d : Cu) (n : Nat) : Prop where
 s : d.s = c.s
 e : d.e = c.e
 c0 : d.c = 0
 p : d.p = c.p + n
theorem On.trans {c d f : Cu} {n m : Nat} (h : On c d n) (k : On d f m) : On c f (n + m) := ⟨k.s.trans h.s, k.e.trans h.e, k.c0, by rw [k.p, h.p]; omega⟩
theorem On.a9 {c d : Cu} {n : Nat} (h : On c d n) : d.a9 = c.a9 := by unfold Cu.a9; rw [h.s, h.e]
theorem On.byte {c : Cu} (h0 : c.c = 0) (h : c.p < c.e) : On c c.byte 1 := by rw [(fJ h0 h).1]; exact ⟨rfl, rfl, h0, rfl⟩
theorem uw : ∀ (k : Nat) (c : Cu) (u : Int), c.ok → c.c = 0 →
   ((cA c.a9 k c.p u).2 = 0 → On c (dX k c u).1 k ∧ (dX k c u).2 = (cA c.a9 k c.p u).1) ∧
   ((cA c.a9 k c.p u).2 ≠ 0 → (dX k c u).1.c = (cA c.a9 k c.p u).2 ∧ (dX k c u).2 = 0)
 | 0, c, u, h, h0 => by
   rw [cA, dX]
   exact ⟨fun _ => ⟨⟨rfl, rfl, h0, rfl⟩, rfl⟩, fun k => absurd rfl k⟩
 | k + 1, c, u, h, h0 => by
   have hl := gj h
   rw [cA, dX]
   by_cases hp : c.p = c.e
   . have he := G5 h0 hp
     rw [if_pos (by omega), if_pos (by omega)]
     exact ⟨fun k => absurd k (by simp), fun _ => ⟨he, rfl⟩⟩
   . have hlt : c.p < c.e := by have := h.1; omega
     obtain ⟨b1, b2⟩ := fJ h0 hlt
     rw [if_neg (by omega)]
     by_cases hn : g8 (dF (c.a9.getD c.p 0)) = true
     . have hx : c.fB = c.byte := by unfold Cu.fB; rw [b2, if_pos hn]
       have hv : c.jW = fF (dF (c.a9.getD c.p 0)) := by unfold Cu.jW; rw [b2]
       have hon := On.byte h0 hlt
       rw [if_pos hn, hx, if_neg (by rw [hon.c0]; simp), hv]
       have ih := uw k c.byte (16 * u + fF (dF (c.a9.getD c.p 0))) (eK h) hon.c0
       rw [hon.a9, hon.p] at ih
       refine ⟨fun q => ?_, ih.2⟩
       obtain ⟨i1, i2⟩ := ih.1 q
       have := hon.trans i1
       rw [Nat.add_comm 1 k] at this
       exact ⟨this, i2⟩
     . have hx : c.fB.c = 6 := by
         unfold Cu.fB
         rw [b2, if_neg hn, gT _ (On.byte h0 hlt).c0]
       rw [if_neg hn, if_pos (by omega)]
       exact ⟨fun k => absurd k (by simp), fun _ => ⟨hx, rfl⟩⟩
theorem AF {c : Cu} (b : UInt8) (h : c.c ≠ 0) : c.cO b = c := by
 obtain ⟨b1, b2⟩ := nE h
 unfold Cu.cO; rw [b1]
 split
 . rfl
 . exact kD _ h
theorem G6 {c : Cu} (h : c.c ≠ 0) : c.fB = c := by
 obtain ⟨b1, b2⟩ := nE h
 unfold Cu.fB; rw [b1, kD _ h]; split <;> rfl
theorem FN {c : Cu} (h : c.c ≠ 0) : c.four = (c, 0) := by
 unfold Cu.four
 rw [dX, G6 h, if_pos h]
theorem AE {c : Cu} (b : UInt8) (h0 : c.c = 0) (h : c.p = c.e) (hb : b.toNat ≠ 0) : (c.cO b).c = 1 := by
 obtain ⟨b1, b2⟩ := my h0 h
 unfold Cu.cO
 rw [b2, if_neg (by show ¬ 0 = b.toNat; omega), b1, kD _ (by show (1 : Int) ≠ 0; decide)]
theorem AG {c : Cu} (b : UInt8) (h0 : c.c = 0) (h : c.p < c.e) (hb : (c.a9.getD c.p 0).toNat ≠ b.toNat) : (c.cO b).c = 6 := by
 obtain ⟨b1, b2⟩ := fJ h0 h
 unfold Cu.cO
 rw [b2, if_neg hb, gT _ (On.byte h0 h).c0]
theorem AH {c : Cu} (b : UInt8) (h0 : c.c = 0) (h : c.p < c.e) (hb : (c.a9.getD c.p 0).toNat = b.toNat) : On c (c.cO b) 1 := by
 obtain ⟨b1, b2⟩ := fJ h0 h
 unfold Cu.cO
 rw [b2, if_pos hb]
 exact On.byte h0 h
def Cu.two (c : Cu) : Cu := (c.cO 92).cO 117
theorem Kt {c : Cu} (hk : c.ok) (h0 : c.c = 0) (n : Int) (hn : 55296 ≤ n ∧ n ≤ 56319) :
   ((g9 c.a9 c.p n).2.2 = 0 → On c c.two.four.1 6 ∧ 56320 ≤ c.two.four.2 ∧ c.two.four.2 ≤ 57343 ∧ g9 c.a9 c.p n = (bQ (65536 + 1024 * (n - 55296) + c.two.four.2 - 56320), (c.p : Int) + 6, 0)) ∧
   ((g9 c.a9 c.p n).2.2 ≠ 0 → (c.two.four.2 < 56320 ∨ 57344 ≤ c.two.four.2) ∧ (c.two.four.1.fail 6).c = (g9 c.a9 c.p n).2.2) := by
 have hl := gj hk
 have h1 := hk.1
 have bad : ∀ x : Int, x ≠ 0 → c.two.c = x → (c.two.four.2 < 56320 ∨ 57344 ≤ c.two.four.2) ∧ (c.two.four.1.fail 6).c = x := fun x hx hc => by
  have hne : c.two.c ≠ 0 := by rw [hc]; exact hx
  rw [FN hne]
  exact ⟨.inl (by show (0 : Int) < 56320; decide), by show (c.two.fail 6).c = x; rw [kD _ hne, hc]⟩
 unfold g9
 by_cases a : c.p = c.e
 . rw [if_pos (by omega)]
   refine ⟨fun k => absurd k (by simp), fun _ => bad 1 (by decide) ?_⟩
   have := AE 92 h0 a (by decide)
   unfold Cu.two; rw [AF _ (by omega)]; exact this
 have a' : c.p < c.e := by omega
 rw [if_neg (by omega)]
 by_cases b : (c.a9.getD c.p 0).toNat ≠ 92
 . rw [if_pos b]
   refine ⟨fun k => absurd k (by simp), fun _ => bad 6 (by decide) ?_⟩
   have := AG 92 h0 a' b
   unfold Cu.two; rw [AF _ (by omega)]; exact this
 have on1 := AH 92 h0 a' (by show _ = 92; omega)
 rw [if_neg b]
 have hk1 := oC hk 92
 by_cases d : c.a9.length ≤ c.p + 1
 . rw [if_pos d]
   refine ⟨fun k => absurd k (by simp), fun _ => bad 1 (by decide) ?_⟩
   exact AE 117 on1.c0 (by rw [on1.p, on1.e]; omega) (by decide)
 rw [if_neg d]
 have a2 : (c.cO 92).p < (c.cO 92).e := by rw [on1.p, on1.e]; omega
 by_cases f : (c.a9.getD (c.p + 1) 0).toNat ≠ 117
 . rw [if_pos f]
   refine ⟨fun k => absurd k (by simp), fun _ => bad 6 (by decide) ?_⟩
   exact AG 117 on1.c0 a2 (by rw [on1.a9, on1.p]; exact f)
 rw [if_neg f]
 have on2 : On c c.two 2 := on1.trans (AH 117 on1.c0 a2 (by rw [on1.a9, on1.p]; show _ = 117; omega))
 have hk2 := oC hk1 117
 have fe := uw 4 c.two 0 hk2 on2.c0
 rw [on2.a9, on2.p] at fe
 have fe : ((cA c.a9 4 (c.p + 2) 0).2 = 0 → On c.two c.two.four.1 4 ∧ c.two.four.2 = (cA c.a9 4 (c.p + 2) 0).1) ∧ ((cA c.a9 4 (c.p + 2) 0).2 ≠ 0 → c.two.four.1.c = (cA c.a9 4 (c.p + 2) 0).2 ∧ c.two.four.2 = 0) := fe
 by_cases g : (cA c.a9 4 (c.p + 2) 0).2 ≠ 0
 . rw [if_pos g]
   obtain ⟨q1, q2⟩ := fe.2 g
   exact ⟨fun k => absurd k g, fun _ => ⟨.inl (by rw [q2]; decide), by rw [kD _ (by rw [q1]; exact g), q1]⟩⟩
 rw [if_neg g]
 obtain ⟨q1, q2⟩ := fe.1 (by omega)
 rw [← q2]
 by_cases m : c.two.four.2 < 56320 ∨ 57343 < c.two.four.2
 . rw [if_pos m]
   exact ⟨fun k => absurd k (by simp), fun _ => ⟨by omega, by rw [gT _ q1.c0]⟩⟩
 . rw [if_neg m]
   exact ⟨fun _ => ⟨on2.trans q1, by omega, by omega, rfl⟩, fun k => absurd rfl k⟩
theorem I5 (c : Cu) : c.number = if c.four.2 < 55296 ∨ 57344 ≤ c.four.2 then c.four
 else if 56320 ≤ c.four.2 then (c.four.1.fail 6, 0)
 else if c.four.1.two.four.2 < 56320 ∨ 57344 ≤ c.four.1.two.four.2 then (c.four.1.two.four.1.fail 6, 0)
 else (c.four.1.two.four.1, 65536 + (c.four.2 - 55296) * 1024 + (c.four.1.two.four.2 - 56320)) := rfl
theorem DE {c : Cu} (hk : c.ok) (h0 : c.c = 0) :
   ((fL c.a9 c.p).2.2 = 0 → ∃ n, On c c.dW n ∧ (fL c.a9 c.p).2.1 = ((c.p + n : Nat) : Int) ∧ c.gp = (fL c.a9 c.p).1) ∧
   ((fL c.a9 c.p).2.2 ≠ 0 → c.dW.c = (fL c.a9 c.p).2.2) := by
 have hl := gj hk
 have h1 := hk.1
 unfold fL
 by_cases a : c.p = c.e
 . obtain ⟨b1, b2⟩ := my h0 a
   rw [if_pos (by omega)]
   refine ⟨fun k => absurd k (by simp), fun _ => ?_⟩
   unfold Cu.dW
   rw [b2, if_neg (by decide), if_neg (by decide), b1, kD _ (by show (1 : Int) ≠ 0; decide)]
 have a' : c.p < c.e := by omega
 obtain ⟨b1, b2⟩ := fJ h0 a'
 have on1 := On.byte h0 a'
 rw [if_neg (by omega)]
 by_cases b : (c.a9.getD c.p 0).toNat ≠ 117
 . rw [if_pos b]
   by_cases p : iJ (c.a9.getD c.p 0) = true
   . rw [if_pos p]
     refine ⟨fun _ => ⟨1, ?_, rfl, ?_⟩, fun k => absurd rfl k⟩
     . unfold Cu.dW; rw [b2, if_neg b, if_pos p]; exact on1
     . unfold Cu.gp nj; rw [b2, if_neg b, if_pos p]
   . rw [if_neg p]
     refine ⟨fun k => absurd k (by simp), fun _ => ?_⟩
     unfold Cu.dW; rw [b2, if_neg b, if_neg p, gT _ on1.c0]
 rw [if_neg b]
 have hb : (c.a9.getD c.p 0).toNat = 117 := by omega
 have hk1 := eK hk
 have hC : c.dW = c.byte.number.1 := by unfold Cu.dW; rw [b2, if_pos hb]
 have hO : c.gp = if c.byte.number.1.c = 0 then bQ c.byte.number.2 else [] := by unfold Cu.gp; rw [b2, if_pos hb]
 have fe : ((cA c.byte.a9 4 c.byte.p 0).2 = 0 → On c.byte c.byte.four.1 4 ∧ c.byte.four.2 = (cA c.byte.a9 4 c.byte.p 0).1) ∧ ((cA c.byte.a9 4 c.byte.p 0).2 ≠ 0 → c.byte.four.1.c = (cA c.byte.a9 4 c.byte.p 0).2 ∧ c.byte.four.2 = 0) := uw 4 c.byte 0 hk1 on1.c0
 rw [on1.a9, on1.p] at fe
 rw [hC, hO, I5]
 by_cases g : (cA c.a9 4 (c.p + 1) 0).2 ≠ 0
 . rw [if_pos g]
   obtain ⟨q1, q2⟩ := fe.2 g
   refine ⟨fun k => absurd k g, fun _ => ?_⟩
   rw [if_pos (.inl (by rw [q2]; decide)), q1]
 rw [if_neg g]
 obtain ⟨q1, q2⟩ := fe.1 (by omega)
 have on5 := on1.trans q1
 rw [← q2]
 by_cases m1 : 55296 ≤ c.byte.four.2 ∧ c.byte.four.2 ≤ 56319
 . rw [if_pos m1, if_neg (by omega), if_neg (by omega)]
   have te := Kt (rQ hk1) q1.c0 c.byte.four.2 m1
   rw [on5.a9, on5.p] at te
   have te : ((g9 c.a9 (c.p + 5) c.byte.four.2).2.2 = 0 → On c.byte.four.1 c.byte.four.1.two.four.1 6 ∧ 56320 ≤ c.byte.four.1.two.four.2 ∧ c.byte.four.1.two.four.2 ≤ 57343 ∧ g9 c.a9 (c.p + 5) c.byte.four.2 = (bQ (65536 + 1024 * (c.byte.four.2 - 55296) + c.byte.four.1.two.four.2 - 56320), ((c.p + 5 : Nat) : Int) + 6, 0)) ∧
    ((g9 c.a9 (c.p + 5) c.byte.four.2).2.2 ≠ 0 → (c.byte.four.1.two.four.2 < 56320 ∨ 57344 ≤ c.byte.four.1.two.four.2) ∧ (c.byte.four.1.two.four.1.fail 6).c = (g9 c.a9 (c.p + 5) c.byte.four.2).2.2) := te
   refine ⟨fun k => ?_, fun k => ?_⟩
   . obtain ⟨t1, t2, t3, t4⟩ := te.1 k
     rw [if_neg (by omega)]
     refine ⟨11, on5.trans t1, ?_, ?_⟩
     . rw [t4]; show ((c.p + 5 : Nat) : Int) + 6 = _; omega
     . rw [t4, if_pos t1.c0]
       show bQ _ = bQ _
       congr 1; omega
   . obtain ⟨t1, t2⟩ := te.2 k
     rw [if_pos t1]; exact t2
 . rw [if_neg m1]
   by_cases m2 : 56320 ≤ c.byte.four.2 ∧ c.byte.four.2 ≤ 57343
   . rw [if_pos m2, if_neg (by omega), if_pos m2.1]
     refine ⟨fun k => absurd k (by simp), fun _ => ?_⟩
     show (c.byte.four.1.fail 6).c = 6
     rw [gT _ q1.c0]
   . rw [if_neg m2, if_pos (by omega)]
     exact ⟨fun _ => ⟨5, on5, by show (c.p : Int) + 5 = _; omega, by rw [if_pos q1.c0]⟩, fun k => absurd rfl k⟩
theorem Bn : ∀ (k : Nat) (c : Cu) (s : List UInt8), c.ok → c.c = 0 → ∃ j, j ≤ k ∧ On c (db k c s).1 j ∧ (db k c s).2 = s ++ (c.a9.drop c.p).take j ∧ (∀ i, i < j → cont (c.a9.getD (c.p + i) 0) = true) ∧
   c.p + j ≤ c.e ∧ (j = k ∨ c.p + j = c.e ∨ cont (c.a9.getD (c.p + j) 0) = false)
 | 0, c, s, h, h0 => by
   rw [db]
   exact ⟨0, Nat.le_refl _, ⟨rfl, rfl, h0, rfl⟩, by simp, by omega, by have := h.1; omega, .inl rfl⟩
 | k + 1, c, s, h, h0 => by
   rw [db]
   by_cases hp : c.p < c.e
   . obtain ⟨b1, b2⟩ := fJ h0 hp
     have hl := gj h
     by_cases hc : cont (c.a9.getD c.p 0) = true
     . rw [if_pos ⟨h0, hp, by rw [b2]; exact hc⟩]
       have on1 := On.byte h0 hp
       obtain ⟨j, q1, q2, q3, q4, q5, q6⟩ := Bn k c.byte (s ++ [c.af]) (eK h) on1.c0
       rw [on1.a9, on1.p] at q3 q4 q6
       rw [on1.p, on1.e] at q5
       rw [on1.e] at q6
       refine ⟨j + 1, by omega, ?_, ?_, fun i hi => ?_, by omega, ?_⟩
       . have := on1.trans q2; rw [Nat.add_comm 1 j] at this; exact this
       . rw [q3, b2, List.append_assoc]
         congr 1
         rw [List.drop_eq_getElem_cons (show c.p < c.a9.length by omega), List.take_succ_cons, List.getD_eq_getElem?_getD, List.getElem?_eq_getElem (show c.p < c.a9.length by omega)]; rfl
       . cases i with
         | zero => exact hc
         | succ i => rw [show c.p + (i + 1) = c.p + 1 + i by omega]; exact q4 i (by omega)
       . rw [show c.p + (j + 1) = c.p + 1 + j by omega]
         rcases q6 with q6 | q6 | q6
         . exact .inl (by omega)
         . exact .inr (.inl q6)
         . exact .inr (.inr q6)
     . rw [if_neg (by rw [b2]; exact fun h => hc h.2.2)]
       refine ⟨0, by omega, ⟨rfl, rfl, h0, rfl⟩, by simp, by omega, by omega, .inr (.inr ?_)⟩
       cases hq : cont (c.a9.getD (c.p + 0) 0) with
       | false => rfl
       | true => exact absurd hq hc
   . rw [if_neg (by omega)]
     have := h.1
     exact ⟨0, by omega, ⟨rfl, rfl, h0, rfl⟩, by simp, by omega, by omega, .inr (.inl (by omega))⟩
theorem zp (x : List UInt8) (m : Nat) : ∀ r i a, i + r ≤ m → m ≤ x.length → fj (x.take m) r i a = fj x r i a
 | 0, _, _, _, _ => rfl
 | r + 1, i, a, h, hm => by
   simp only [fj]
   rw [oe (by omega), zp x m r (i + 1) _ (by omega) hm]
theorem zn (x : List UInt8) : ∀ r i a, fj x r i a ≠ none → ∀ j, i ≤ j → j < i + r → cont (x.getD j 0) = true
 | 0, _, _, _, _, _, _ => by omega
 | r + 1, i, a, h, j, h1, h2 => by
   simp only [fj] at h
   by_cases hc : cont (x.getD i 0) = true
   . rw [if_pos hc] at h
     by_cases e : j = i
     . subst e; exact hc
     . exact zn x r (i + 1) _ h j (by omega) (by omega)
   . rw [if_neg hc] at h; exact absurd rfl h
theorem Kv (n : Nat) (o : Option Nat) : (l6 n o).2 = 0 ∨ ((l6 n o).2 = n ∧ o ≠ none) := by
 cases o with
 | none => exact .inl rfl
 | some r =>
   rw [tj]
   repeat' split
   . exact .inl rfl
   . exact .inr ⟨rfl, by simp⟩
   . exact .inl rfl
theorem sL (x : List UInt8) (hx : 0 < x.length) : (dd x 0).2 = 0 ∨ ((dd x 0).2 = bE (x.getD 0 0).toNat ∧ 1 ≤ bE (x.getD 0 0).toNat ∧ bE (x.getD 0 0).toNat ≤ x.length ∧ ∀ j, 1 ≤ j → j < bE (x.getD 0 0).toNat → cont (x.getD j 0) = true) := by
 unfold dd
 rw [if_neg (by omega)]
 split
 . exact .inl rfl
 split
 . exact .inl rfl
 split
 . rename_i h1 h2 h3
   exact .inr ⟨h3.symm, by omega, by omega, by omega⟩
 . rename_i h1 h2 h3
   rcases Kv (bE (x.getD 0 0).toNat) (fj x (bE (x.getD 0 0).toNat - 1) (0 + 1) ((x.getD 0 0).toNat % 2 ^ (7 - bE (x.getD 0 0).toNat))) with h | ⟨h, k⟩
   . exact .inl h
   . exact .inr ⟨h, by omega, by omega, fun j a b => zn x _ _ _ k j a (by omega)⟩
theorem sM (x : List UInt8) (m : Nat) (hm : bE (x.getD 0 0).toNat ≤ m) (h1 : 1 ≤ m) (hx : m ≤ x.length) : dd (x.take m) 0 = dd x 0 := by
 have e : (x.take m).getD 0 0 = x.getD 0 0 := oe (by omega)
 have l : (x.take m).length = m := by rw [List.length_take]; omega
 unfold dd
 rw [e, l, if_neg (show ¬ m ≤ 0 by omega), if_neg (show ¬ x.length ≤ 0 by omega)]
 by_cases a : bE (x.getD 0 0).toNat = 0
 . rw [if_pos a, if_pos a]
 . rw [if_neg a, if_neg a, if_neg (show ¬ m < 0 + bE (x.getD 0 0).toNat by omega), if_neg (show ¬ x.length < 0 + bE (x.getD 0 0).toNat by omega), zp x m _ _ _ (by omega) hx]
theorem D4 {s : List UInt8} (hs : 0 < s.length) (h : (bI s 0).2 = 0) : fi s = 0 := by
 have hw : dC s 0 0 = (0, 0) := by rw [dC, if_neg (by omega), dif_pos h]
 unfold fi
 rw [hw, if_neg (show ¬ 0 = s.length by omega)]; rfl
theorem check_1 {s : List UInt8} (hs : 0 < s.length) (h : (bI s 0).2 = s.length) : fi s = -1 := by
 have hw : dC s 0 0 = (0 + (bI s 0).2, 0 + 1) := by
  rw [dC, if_neg (by omega), dif_neg (by omega), dC, if_pos (by omega)]
 unfold fi
 rw [hw, if_pos (show 0 + (bI s 0).2 = s.length by omega)]
theorem Ki {b : UInt8} : bE b.toNat = 0 ∨ cQ b + 1 = bE b.toNat := by
 unfold bE cQ; repeat' split
 all_goals omega
theorem J2 {d : Cu} (hk : d.ok) (h0 : d.c = 0) (hp : d.p < d.e) :
   ((bI d.a9 d.p).2 = 0 → (d.byte.fg (d.a9.getD d.p 0)).c = 5) ∧
   ((bI d.a9 d.p).2 ≠ 0 → On d (d.byte.fg (d.a9.getD d.p 0)) (bI d.a9 d.p).2 ∧ d.byte.hP (d.a9.getD d.p 0) = (d.a9.take (d.p + (bI d.a9 d.p).2)).drop d.p) := by
 have hl := gj hk
 have on1 := On.byte h0 hp
 have hxl : (d.a9.drop d.p).length = d.e - d.p := by rw [List.length_drop, hl]
 have hx0 : (d.a9.drop d.p).getD 0 0 = d.a9.getD d.p 0 := by simp [List.getD_eq_getElem?_getD, List.getElem?_drop]
 have hxc : d.a9.drop d.p = d.a9.getD d.p 0 :: d.a9.drop (d.p + 1) := by
  rw [List.drop_eq_getElem_cons (show d.p < d.a9.length by omega), List.getD_eq_getElem?_getD, List.getElem?_eq_getElem (show d.p < d.a9.length by omega)]; rfl
 have hu : bI d.a9 d.p = dd (d.a9.drop d.p) 0 := by rw [sO, if_neg (by omega), kX]
 obtain ⟨j, q1, q2, q3, q4, q5, q6⟩ := Bn (cQ (d.a9.getD d.p 0)) d.byte [d.a9.getD d.p 0] (eK hk) on1.c0
 rw [on1.a9, on1.p] at q3 q4 q6
 rw [on1.p, on1.e] at q5
 rw [on1.e] at q6
 have hS : (db (cQ (d.a9.getD d.p 0)) d.byte [d.a9.getD d.p 0]).2 = (d.a9.drop d.p).take (j + 1) := by
  rw [q3, hxc, List.take_succ_cons]; rfl
 have hSl : ((d.a9.drop d.p).take (j + 1)).length = j + 1 := by rw [List.length_take, hxl]; omega
 have hS0 : ((d.a9.drop d.p).take (j + 1)).getD 0 0 = d.a9.getD d.p 0 := by rw [oe (by omega), hx0]
 rw [hu]
 unfold Cu.fg Cu.hP
 rw [hS]
 refine ⟨fun hn => ?_, fun hn => ?_⟩
 . have hz : (bI ((d.a9.drop d.p).take (j + 1)) 0).2 = 0 := by
     rw [← kX]
     rcases sL ((d.a9.drop d.p).take (j + 1)) (by omega) with h | ⟨h1, h2, h3, h4⟩
     . exact h
     . rw [hS0] at h1 h2 h3
       rw [sM _ (j + 1) (by rw [hx0]; omega) (by omega) (by omega)]; exact hn
   rw [D4 (by omega) hz, if_pos (by decide), gT _ q2.c0]
 . rcases sL (d.a9.drop d.p) (by omega) with h | ⟨h1, h2, h3, h4⟩
   . exact absurd h hn
   . rw [hx0] at h1 h2 h3 h4
     have ht := Ki (b := d.a9.getD d.p 0)
     have hj : j + 1 = bE (d.a9.getD d.p 0).toNat := by
      rcases q6 with q6 | q6 | q6
      . omega
      . omega
      . by_cases e : j + 1 = bE (d.a9.getD d.p 0).toNat
        . exact e
        . exfalso
          have := h4 (j + 1) (by omega) (by omega)
          rw [show (d.a9.drop d.p).getD (j + 1) 0 = d.a9.getD (d.p + 1 + j) 0 by
           rw [List.getD_eq_getElem?_getD, List.getD_eq_getElem?_getD, List.getElem?_drop, show d.p + (j + 1) = d.p + 1 + j by omega], q6] at this
          cases this
     have hz : (bI ((d.a9.drop d.p).take (j + 1)) 0).2 = ((d.a9.drop d.p).take (j + 1)).length := by
      rw [← kX, sM _ (j + 1) (by rw [hx0]; omega) (by omega) (by omega), h1, hSl, hj]
     rw [check_1 (by omega) hz, if_neg (by decide), if_neg (by decide), h1, ← hj]
     refine ⟨?_, ?_⟩
     . have := on1.trans q2
       rw [Nat.add_comm 1 j] at this; exact this
     . rw [List.drop_take, show d.p + (j + 1) - d.p = j + 1 by omega]
theorem ng {n : Nat} {c : Cu} {o : List UInt8} (hn : 0 < n) (h : c.c ≠ 0) : fU n c o = (c, []) := by
 cases n with
 | zero => omega
 | succ n => rw [fU, if_pos h]
def tB (d : Cu) (P : Cu × List UInt8) (R : Int × Nat × List UInt8) : Prop :=
 (R.1 = 0 → P.1.c = 0 ∧ P.1.p = R.2.1 ∧ P.2 = R.2.2 ∧ P.1.s = d.s ∧ P.1.e = d.e) ∧ (R.1 ≠ 0 → P.1.c = R.1 ∧ P.2 = [])
theorem go_eq : ∀ (n m : Nat) (d : Cu) (o : List UInt8), d.ok → d.c = 0 → d.mu < n → d.a9.length - d.p + 1 ≤ m → tB d (fU n d o) (eo d.a9 m d.p o)
 | 0, _, _, _, _, _, h, _ => by omega
 | n + 1, 0, _, _, _, _, _, h => by omega
 | n + 1, m + 1, d, o, hk, h0, hn, hm => by
   have hl := gj hk
   have h1 := hk.1
   have hmu : d.mu = d.e - d.p + 1 := by unfold Cu.mu; rw [if_neg (by omega)]
   rw [fU, eo, if_neg (by omega)]
   by_cases a : d.p = d.e
   . obtain ⟨b1, b2⟩ := my h0 a
     have hc : d.byte.c = 1 := by rw [b1]
     rw [if_pos (by omega), if_pos (by omega), ng (by omega) (by omega)]
     exact ⟨fun k => absurd k (by decide), fun _ => ⟨hc, rfl⟩⟩
   have a' : d.p < d.e := by omega
   obtain ⟨b1, b2⟩ := fJ h0 a'
   have on1 := On.byte h0 a'
   have hkb := eK hk
   rw [if_neg (show ¬ d.byte.c ≠ 0 by rw [on1.c0]; decide), if_neg (show ¬ d.a9.length ≤ d.p by omega), b2]
   by_cases q34 : (d.a9.getD d.p 0).toNat = 34
   . rw [if_pos q34, if_pos q34]
     exact ⟨fun _ => ⟨on1.c0, on1.p, rfl, on1.s, on1.e⟩, fun k => absurd rfl k⟩
   rw [if_neg q34, if_neg q34]
   by_cases q32 : (d.a9.getD d.p 0).toNat < 32
   . have hp : dn d.a9 d.p = ([], 0, 3) := by unfold dn; rw [if_neg (by omega), if_pos q32]
     have hc : (d.byte.fail 3).c = 3 := by rw [gT _ on1.c0]
     rw [if_pos q32, hp, if_pos (by decide), ng (by omega) (by omega)]
     exact ⟨fun k => absurd k (by decide), fun _ => ⟨hc, rfl⟩⟩
   rw [if_neg q32]
   have step : ∀ (f : Cu) (k : Nat) (w : List UInt8), On d f k → 0 < k → f.ok → tB d (fU n f (o ++ w)) (eo d.a9 m (d.p + k) (o ++ w)) := fun f k w hf hk0 hfk => by
    have hfm : f.mu = f.e - f.p + 1 := by unfold Cu.mu; rw [if_neg (by have := hf.c0; omega)]
    have ih := go_eq n m f (o ++ w) hfk hf.c0 (by rw [hfm, hf.e, hf.p]; omega) (by rw [hf.a9, hf.p]; omega)
    rw [hf.a9, hf.p] at ih
    exact ⟨fun q => by obtain ⟨i1, i2, i3, i4, i5⟩ := ih.1 q; exact ⟨i1, i2, i3, i4.trans hf.s, i5.trans hf.e⟩, ih.2⟩
   by_cases q92 : (d.a9.getD d.p 0).toNat = 92
   . have hp : dn d.a9 d.p = fL d.a9 (d.p + 1) := by unfold dn; rw [if_pos q92]
     have ee := DE hkb on1.c0
     rw [on1.a9, on1.p] at ee
     rw [if_pos q92, hp]
     by_cases e0 : (fL d.a9 (d.p + 1)).2.2 ≠ 0
     . have hc := ee.2 e0
       rw [if_pos e0, ng (by omega) (by rw [hc]; exact e0)]
       exact ⟨fun k => absurd k e0, fun _ => ⟨hc, rfl⟩⟩
     . rw [if_neg e0]
       obtain ⟨k, r1, r2, r3⟩ := ee.1 (by omega)
       rw [r2, r3, Int.toNat_natCast]
       have := step _ (1 + k) (fL d.a9 (d.p + 1)).1 (on1.trans r1) (by omega) (mF hkb)
       rw [← Nat.add_assoc] at this
       exact this
   . have ee := J2 hk h0 a'
     rw [if_neg q92]
     by_cases e0 : (bI d.a9 d.p).2 = 0
     . have hp : dn d.a9 d.p = ([], 0, 5) := by unfold dn; rw [if_neg q92, if_neg q32, if_pos e0]
       have hc := ee.1 e0
       rw [hp, if_pos (by decide), ng (by omega) (by omega)]
       exact ⟨fun k => absurd k (by decide), fun _ => ⟨hc, rfl⟩⟩
     . have hp : dn d.a9 d.p = ((d.a9.take (d.p + (bI d.a9 d.p).2)).drop d.p, ((d.p + (bI d.a9 d.p).2 : Nat) : Int), 0) := by unfold dn; rw [if_neg q92, if_neg q32, if_neg e0]
       obtain ⟨r1, r2⟩ := ee.2 e0
       rw [hp, if_neg (fun k => k rfl), r2]
       exact step _ _ _ r1 (by omega) (nf hkb _)
theorem J4 {c : Cu} (hk : c.ok) : c.read.2 = c.jo.2 ∧ c.read.1.c = c.jo.1.c ∧ (c.jo.1.c = 0 → c.read.1 = c.jo.1) := by
 have h1 := hk.1
 have hl := gj hk
 unfold Cu.read Cu.jo
 by_cases a : c.c ≠ 0
 . have hs : c.start = c := by unfold Cu.start; rw [if_neg (by omega)]
   obtain ⟨b1, _⟩ := nE a
   rw [hs, b1, ng (by omega) a, if_pos a]
   exact ⟨rfl, rfl, fun k => absurd k a⟩
 have h0 : c.c = 0 := by omega
 rw [if_neg a]
 by_cases b : c.p = c.e
 . have hs : c.start = c := by unfold Cu.start; rw [if_neg (by omega)]
   obtain ⟨b1, _⟩ := my h0 b
   have hc : c.byte.c = 1 := by rw [b1]
   rw [hs, ng (by omega) (by omega), if_pos b, gT _ h0]
   exact ⟨rfl, hc, fun k => absurd k (by show (1 : Int) ≠ 0; decide)⟩
 have b' : c.p < c.e := by omega
 obtain ⟨d1, d2⟩ := fJ h0 b'
 have hg : c.get = c.a9.getD c.p 0 := by unfold Cu.a9; rw [oe b']; rfl
 rw [if_neg b]
 by_cases e : c.get.toNat ≠ 34
 . have hs : c.start = c.fail 3 := by unfold Cu.start; rw [if_pos ⟨⟨h0, b'⟩, by rw [d2, ← hg]; exact e⟩]
   have hf : (c.fail 3).c = 3 := by rw [gT _ h0]
   obtain ⟨b1, _⟩ := nE (c := c.fail 3) (by omega)
   rw [hs, b1, ng (by omega) (by omega), if_pos e]
   exact ⟨rfl, rfl, fun k => absurd (hf.symm.trans k) (by decide)⟩
 rw [if_neg e]
 have hs : c.start = c := by unfold Cu.start; rw [if_neg (by rw [d2, ← hg]; exact fun k => k.2 (by omega))]
 have on1 := On.byte h0 b'
 rw [hs]
 have ge := go_eq (c.byte.mu + 1) (c.e - c.p) c.byte [] (eK hk) on1.c0 (by omega) (by rw [on1.a9, on1.p]; omega)
 rw [on1.a9, on1.p] at ge
 have ge : tB c.byte (fU (c.byte.mu + 1) c.byte []) (eo (c.s.take c.e) (c.e - c.p) (c.p + 1) []) := ge
 by_cases r : (eo (c.s.take c.e) (c.e - c.p) (c.p + 1) []).1 = 0
 . rw [if_pos r]
   obtain ⟨g1, g2, g3, g4, g5⟩ := ge.1 r
   refine ⟨g3, g1.trans h0.symm, fun _ => ?_⟩
   generalize (fU (c.byte.mu + 1) c.byte []).1 = f at *
   obtain ⟨fs, fp, fe, fc⟩ := f
   simp only at g1 g2 g4 g5
   rw [g1, g2, g4, g5, on1.s, on1.e]
   obtain ⟨cs, cp, ce, cc⟩ := c
   simp only at h0
   rw [h0]
 . rw [if_neg r, gT _ h0]
   obtain ⟨g1, g2⟩ := ge.2 r
   exact ⟨g2, g1, fun k => absurd k r⟩
end Go.Proofs.YtllncocibkgjkaaDoor
