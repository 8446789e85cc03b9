/-
  A part of the proof.
-/
import Derived.Test.YtllncocibkgjkaaJSp
import Derived.Test.YtllncocibkgjkaaJSt
set_option linter.unusedSimpArgs false
set_option linter.unusedVariables false
set_option maxHeartbeats 4000000
namespace Go.Proofs.Ytllncocibkgjkaa
open Go Go.VG
set_option maxRecDepth 100000
def bE (t : List UInt8) : Nat → Nat → Int → Int × Int
 | 0, _, n => (n, 0)
 | r + 1, i, n => if t.length ≤ i then (0, 1) else if eS (cP (t.getD i 0)) = true then bE t r (i + 1) (16 * n + e9 (cP (t.getD i 0))) else (0, 6)
termination_by r => r
def m9 (b : UInt8) : List UInt8 := if gF b = true then [byte (lV b)] else []
def eU (t : List UInt8) (i : Nat) (n : Int) : List UInt8 × Int × Int :=
 if t.length ≤ i then ([], 0, 1) else if (t.getD i 0).toNat ≠ 92 then ([], 0, 6)
 else if t.length ≤ i + 1 then ([], 0, 1) else if (t.getD (i + 1) 0).toNat ≠ 117 then ([], 0, 6)
 else if (bE t 4 (i + 2) 0).2 ≠ 0 then ([], 0, (bE t 4 (i + 2) 0).2)
 else if (bE t 4 (i + 2) 0).1 < 56320 ∨ 57343 < (bE t 4 (i + 2) 0).1 then ([], 0, 6)
 else (bI (65536 + 1024 * (n - 55296) + (bE t 4 (i + 2) 0).1 - 56320), (i : Int) + 6, 0)
def ep (t : List UInt8) (i : Nat) : List UInt8 × Int × Int :=
 if t.length ≤ i then ([], 0, 1)
 else if (t.getD i 0).toNat ≠ 117 then (if gF (t.getD i 0) = true then (m9 (t.getD i 0), (i : Int) + 1, 0) else ([], 0, 6))
 else if (bE t 4 (i + 1) 0).2 ≠ 0 then ([], 0, (bE t 4 (i + 1) 0).2)
 else if 55296 ≤ (bE t 4 (i + 1) 0).1 ∧ (bE t 4 (i + 1) 0).1 ≤ 56319 then eU t (i + 5) (bE t 4 (i + 1) 0).1
 else if 56320 ≤ (bE t 4 (i + 1) 0).1 ∧ (bE t 4 (i + 1) 0).1 ≤ 57343 then ([], 0, 6)
 else (bI (bE t 4 (i + 1) 0).1, (i : Int) + 5, 0)
end Go.Proofs.Ytllncocibkgjkaa
namespace Go.Proofs.Ytllncocibkgjkaa
open Go Go.VG
set_option maxRecDepth 100000
def c6 (t : List UInt8) (i : Nat) : List UInt8 × Int × Int :=
 if (t.getD i 0).toNat = 92 then ep t (i + 1)
 else if (t.getD i 0).toNat < 32 then ([], 0, 3)
 else if (aW t i).2 = 0 then ([], 0, 5)
 else ((t.take (i + (aW t i).2)).drop i, ((i + (aW t i).2 : Nat) : Int), 0)
def cA (t : List UInt8) : Nat → Nat → List UInt8 → Int × Nat × List UInt8
 | 0, _, _ => (1, 0, [])
 | n + 1, i, o =>
   if t.length ≤ i then (1, 0, [])
   else if (t.getD i 0).toNat = 34 then (0, i + 1, o)
   else if (c6 t i).2.2 ≠ 0 then ((c6 t i).2.2, 0, [])
   else cA t n (c6 t i).2.1.toNat (o ++ (c6 t i).1)
termination_by n => n
theorem I0 (b : UInt8) : (m9 b).length ≤ 1 := by unfold m9; split <;> simp
theorem GB (t : List UInt8) (i : Nat) (n : Int) : (eU t i n).2.2 = 0 → (i : Int) < (eU t i n).2.1 ∧ (eU t i n).2.1 ≤ i + 6 ∧ (eU t i n).1.length ≤ 4 := by
 have hb := fun n => (rT n).2
 unfold eU
 repeat' split
 all_goals intro h
 all_goals first
  | (exfalso; simp at h; done)
  | (exfalso; exact absurd h (by assumption))
  | exact ⟨by show (i : Int) < (i : Int) + 6; omega, by show (i : Int) + 6 ≤ i + 6; omega, hb _⟩
theorem C1 (t : List UInt8) (i : Nat) : (ep t i).2.2 = 0 → (i : Int) < (ep t i).2.1 ∧ (ep t i).2.1 ≤ i + 11 ∧ (ep t i).1.length ≤ 4 := by
 have hb := fun n => (rT n).2
 have hs := I0 (t.getD i 0)
 unfold ep
 repeat' split
 all_goals intro h
 all_goals first
  | (exfalso; simp at h; done)
  | (exfalso; exact absurd h (by assumption))
  | (have := GB t (i + 5) _ h; omega)
  | exact ⟨by show (i : Int) < (i : Int) + 5; omega, by show (i : Int) + 5 ≤ i + 11; omega, hb _⟩
  | exact ⟨by show (i : Int) < (i : Int) + 1; omega, by show (i : Int) + 1 ≤ i + 11; omega, by show (m9 (t.getD i 0)).length ≤ 4; omega⟩
theorem GF (t : List UInt8) (i : Nat) : (c6 t i).2.2 = 0 → (i : Int) < (c6 t i).2.1 ∧ (c6 t i).2.1 ≤ i + 12 ∧ (c6 t i).1.length ≤ 12 := by
 have hr := vw t i
 unfold c6
 repeat' split
 all_goals intro h
 . have := C1 t (i + 1) h; omega
 . exfalso; simp at h
 . exfalso; simp at h
 . refine ⟨by show (i : Int) < ((i + (aW t i).2 : Nat) : Int); omega, by show ((i + (aW t i).2 : Nat) : Int) ≤ i + 12; omega, ?_⟩
   show ((t.take (i + (aW t i).2)).drop i).length ≤ 12
   rw [List.length_drop, List.length_take]; omega
def Cu.gJ (c : Cu) : Cu × List UInt8 :=
 if c.c ≠ 0 then (c, [])
 else if c.p = c.e then (c.fail 1, [])
 else if c.get.toNat ≠ 34 then (c.fail 3, [])
 else if (cA (c.s.take c.e) (c.e - c.p) (c.p + 1) []).1 = 0 then ({ c with p := (cA (c.s.take c.e) (c.e - c.p) (c.p + 1) []).2.1 }, (cA (c.s.take c.e) (c.e - c.p) (c.p + 1) []).2.2)
 else (c.fail (cA (c.s.take c.e) (c.e - c.p) (c.p + 1) []).1, [])
end Go.Proofs.Ytllncocibkgjkaa
namespace Go.Proofs.Ytllncocibkgjkaa
open Go Go.VG
set_option maxRecDepth 100000
def Cu.a8 (c : Cu) : List UInt8 := c.s.take c.e
theorem eh {c : Cu} (h0 : c.c = 0) (h : c.p < c.e) : c.byte = { c with p := c.p + 1 } ∧ c.aa = c.a8.getD c.p 0 := by
 refine ⟨?_, ?_⟩
 . unfold Cu.byte Cu.pass
   rw [if_neg (by omega), if_neg (by omega), if_neg (by omega)]; rfl
 . unfold Cu.aa Cu.a8
   rw [if_pos ⟨h0, h⟩, mZ h]; rfl
theorem ln {c : Cu} (h0 : c.c = 0) (h : c.p = c.e) : c.byte = { c with c := 1 } ∧ c.aa = 0 := by
 refine ⟨?_, ?_⟩
 . unfold Cu.byte Cu.pass
   rw [if_neg (by omega), if_neg (by omega), if_pos (by omega)]
 . unfold Cu.aa; rw [if_neg (by omega)]
theorem mA {c : Cu} (h0 : c.c ≠ 0) : c.byte = c ∧ c.aa = 0 := by
 refine ⟨?_, ?_⟩
 . unfold Cu.byte Cu.pass; rw [if_pos h0]
 . unfold Cu.aa; rw [if_neg (by omega)]
theorem fk {c : Cu} (k : Int) (h : c.c = 0) : c.fail k = { c with c := k } := by unfold Cu.fail; rw [if_pos h]
theorem jC {c : Cu} (k : Int) (h : c.c ≠ 0) : c.fail k = c := by unfold Cu.fail; rw [if_neg h]
theorem eY {c : Cu} (h : c.ok) : c.a8.length = c.e := by have := h.2; unfold Cu.a8; rw [List.length_take]; omega
theorem Ew {c : Cu} (h0 : c.c = 0) (h : c.p = c.e) : c.dW.c = 1 := by
 obtain ⟨b1, b2⟩ := ln h0 h
 unfold Cu.dW
 rw [b2, if_neg (by decide), b1, jC _ (by show (1 : Int) ≠ 0; decide)]
structure On (c d : Cu) (n : Nat) : Prop where
 s : d.s = c.s
 e : d.e = c.e
 c0 : d.c = 0
 p : d.p = c.p + n
theorem On.trans {c d f : Cu} {n m : Nat} (h : On c d n) (k : On d f m) : On c f (n + m) := ⟨k.s.trans h.s, k.e.trans h.e, k.c0, by rw [k.p, h.p]; omega⟩
theorem On.a8 {c d : Cu} {n : Nat} (h : On c d n) : d.a8 = c.a8 := by unfold Cu.a8; rw [h.s, h.e]
theorem On.byte {c : Cu} (h0 : c.c = 0) (h : c.p < c.e) : On c c.byte 1 := by rw [(eh h0 h).1]; exact ⟨rfl, rfl, h0, rfl⟩
theorem td : ∀ (k : Nat) (c : Cu) (u : Int), c.ok → c.c = 0 →
   ((bE c.a8 k c.p u).2 = 0 → On c (da k c u).1 k ∧ (da k c u).2 = (bE c.a8 k c.p u).1) ∧
   ((bE c.a8 k c.p u).2 ≠ 0 → (da k c u).1.c = (bE c.a8 k c.p u).2 ∧ (da k c u).2 = 0)
 | 0, c, u, h, h0 => by
   rw [bE, da]
   exact ⟨fun _ => ⟨⟨rfl, rfl, h0, rfl⟩, rfl⟩, fun k => absurd rfl k⟩
 | k + 1, c, u, h, h0 => by
   have hl := eY h
   rw [bE, da]
   by_cases hp : c.p = c.e
   . have he := Ew h0 hp
     rw [if_pos (by omega), if_pos (by omega)]
     exact ⟨fun k => absurd k (by simp), fun _ => ⟨he, rfl⟩⟩
   . have hlt : c.p < c.e := by have := h.1; omega
     obtain ⟨b1, b2⟩ := eh h0 hlt
     rw [if_neg (by omega)]
     by_cases hn : eS (cP (c.a8.getD c.p 0)) = true
     . have hx : c.dW = c.byte := by unfold Cu.dW; rw [b2, if_pos hn]
       have hv : c.j9 = e9 (cP (c.a8.getD c.p 0)) := by unfold Cu.j9; rw [b2]
       have hon := On.byte h0 hlt
       rw [if_pos hn, hx, if_neg (by rw [hon.c0]; simp), hv]
       have ih := td k c.byte (16 * u + e9 (cP (c.a8.getD c.p 0))) (dx h) hon.c0
       rw [hon.a8, hon.p] at ih
       refine ⟨fun q => ?_, ih.2⟩
       obtain ⟨i1, i2⟩ := ih.1 q
       have := hon.trans i1
       rw [Nat.add_comm 1 k] at this
       exact ⟨this, i2⟩
     . have hx : c.dW.c = 6 := by
         unfold Cu.dW
         rw [b2, if_neg hn, fk _ (On.byte h0 hlt).c0]
       rw [if_neg hn, if_pos (by omega)]
       exact ⟨fun k => absurd k (by simp), fun _ => ⟨hx, rfl⟩⟩
theorem zh {c : Cu} (b : UInt8) (h : c.c ≠ 0) : c.bT b = c := by
 obtain ⟨b1, b2⟩ := mA h
 unfold Cu.bT; rw [b1]
 split
 . rfl
 . exact jC _ h
theorem Ey {c : Cu} (h : c.c ≠ 0) : c.dW = c := by
 obtain ⟨b1, b2⟩ := mA h
 unfold Cu.dW; rw [b1, jC _ h]; split <;> rfl
theorem Ed {c : Cu} (h : c.c ≠ 0) : c.four = (c, 0) := by
 unfold Cu.four
 rw [da, Ey h, if_pos h]
theorem zg {c : Cu} (b : UInt8) (h0 : c.c = 0) (h : c.p = c.e) (hb : b.toNat ≠ 0) : (c.bT b).c = 1 := by
 obtain ⟨b1, b2⟩ := ln h0 h
 unfold Cu.bT
 rw [b2, if_neg (by show ¬ 0 = b.toNat; omega), b1, jC _ (by show (1 : Int) ≠ 0; decide)]
theorem zi {c : Cu} (b : UInt8) (h0 : c.c = 0) (h : c.p < c.e) (hb : (c.a8.getD c.p 0).toNat ≠ b.toNat) : (c.bT b).c = 6 := by
 obtain ⟨b1, b2⟩ := eh h0 h
 unfold Cu.bT
 rw [b2, if_neg hb, fk _ (On.byte h0 h).c0]
theorem zj {c : Cu} (b : UInt8) (h0 : c.c = 0) (h : c.p < c.e) (hb : (c.a8.getD c.p 0).toNat = b.toNat) : On c (c.bT b) 1 := by
 obtain ⟨b1, b2⟩ := eh h0 h
 unfold Cu.bT
 rw [b2, if_pos hb]
 exact On.byte h0 h
def Cu.two (c : Cu) : Cu := (c.bT 92).bT 117
theorem Is {c : Cu} (hk : c.ok) (h0 : c.c = 0) (n : Int) (hn : 55296 ≤ n ∧ n ≤ 56319) :
   ((eU c.a8 c.p n).2.2 = 0 → On c c.two.four.1 6 ∧ 56320 ≤ c.two.four.2 ∧ c.two.four.2 ≤ 57343 ∧ eU c.a8 c.p n = (bI (65536 + 1024 * (n - 55296) + c.two.four.2 - 56320), (c.p : Int) + 6, 0)) ∧
   ((eU c.a8 c.p n).2.2 ≠ 0 → (c.two.four.2 < 56320 ∨ 57344 ≤ c.two.four.2) ∧ (c.two.four.1.fail 6).c = (eU c.a8 c.p n).2.2) := by
 have hl := eY hk
 have h1 := hk.1
 have bad : ∀ x : Int, x ≠ 0 → c.two.c = x → (c.two.four.2 < 56320 ∨ 57344 ≤ c.two.four.2) ∧ (c.two.four.1.fail 6).c = x := fun x hx hc => by
  have hne : c.two.c ≠ 0 := by rw [hc]; exact hx
  rw [Ed hne]
  exact ⟨.inl (by show (0 : Int) < 56320; decide), by show (c.two.fail 6).c = x; rw [jC _ hne, hc]⟩
 unfold eU
 by_cases a : c.p = c.e
 . rw [if_pos (by omega)]
   refine ⟨fun k => absurd k (by simp), fun _ => bad 1 (by decide) ?_⟩
   have := zg 92 h0 a (by decide)
   unfold Cu.two; rw [zh _ (by omega)]; exact this
 have a' : c.p < c.e := by omega
 rw [if_neg (by omega)]
 by_cases b : (c.a8.getD c.p 0).toNat ≠ 92
 . rw [if_pos b]
   refine ⟨fun k => absurd k (by simp), fun _ => bad 6 (by decide) ?_⟩
   have := zi 92 h0 a' b
   unfold Cu.two; rw [zh _ (by omega)]; exact this
 have on1 := zj 92 h0 a' (by show _ = 92; omega)
 rw [if_neg b]
 have hk1 := nn hk 92
 by_cases d : c.a8.length ≤ c.p + 1
 . rw [if_pos d]
   refine ⟨fun k => absurd k (by simp), fun _ => bad 1 (by decide) ?_⟩
   exact zg 117 on1.c0 (by rw [on1.p, on1.e]; omega) (by decide)
 rw [if_neg d]
 have a2 : (c.bT 92).p < (c.bT 92).e := by rw [on1.p, on1.e]; omega
 by_cases f : (c.a8.getD (c.p + 1) 0).toNat ≠ 117
 . rw [if_pos f]
   refine ⟨fun k => absurd k (by simp), fun _ => bad 6 (by decide) ?_⟩
   exact zi 117 on1.c0 a2 (by rw [on1.a8, on1.p]; exact f)
 rw [if_neg f]
 have on2 : On c c.two 2 := on1.trans (zj 117 on1.c0 a2 (by rw [on1.a8, on1.p]; show _ = 117; omega))
 have hk2 := nn hk1 117
 have fe := td 4 c.two 0 hk2 on2.c0
 rw [on2.a8, on2.p] at fe
 have fe : ((bE c.a8 4 (c.p + 2) 0).2 = 0 → On c.two c.two.four.1 4 ∧ c.two.four.2 = (bE c.a8 4 (c.p + 2) 0).1) ∧ ((bE c.a8 4 (c.p + 2) 0).2 ≠ 0 → c.two.four.1.c = (bE c.a8 4 (c.p + 2) 0).2 ∧ c.two.four.2 = 0) := fe
 by_cases g : (bE c.a8 4 (c.p + 2) 0).2 ≠ 0
 . rw [if_pos g]
   obtain ⟨q1, q2⟩ := fe.2 g
   exact ⟨fun k => absurd k g, fun _ => ⟨.inl (by rw [q2]; decide), by rw [jC _ (by rw [q1]; exact g), q1]⟩⟩
 rw [if_neg g]
 obtain ⟨q1, q2⟩ := fe.1 (by omega)
 rw [← q2]
 by_cases m : c.two.four.2 < 56320 ∨ 57343 < c.two.four.2
 . rw [if_pos m]
   exact ⟨fun k => absurd k (by simp), fun _ => ⟨by omega, by rw [fk _ q1.c0]⟩⟩
 . rw [if_neg m]
   exact ⟨fun _ => ⟨on2.trans q1, by omega, by omega, rfl⟩, fun k => absurd rfl k⟩
theorem Gb (c : Cu) : c.number = if c.four.2 < 55296 ∨ 57344 ≤ c.four.2 then c.four
 else if 56320 ≤ c.four.2 then (c.four.1.fail 6, 0)
 else if c.four.1.two.four.2 < 56320 ∨ 57344 ≤ c.four.1.two.four.2 then (c.four.1.two.four.1.fail 6, 0)
 else (c.four.1.two.four.1, 65536 + (c.four.2 - 55296) * 1024 + (c.four.1.two.four.2 - 56320)) := rfl
theorem C0 {c : Cu} (hk : c.ok) (h0 : c.c = 0) :
   ((ep c.a8 c.p).2.2 = 0 → ∃ n, On c c.d9 n ∧ (ep c.a8 c.p).2.1 = ((c.p + n : Nat) : Int) ∧ c.fi = (ep c.a8 c.p).1) ∧
   ((ep c.a8 c.p).2.2 ≠ 0 → c.d9.c = (ep c.a8 c.p).2.2) := by
 have hl := eY hk
 have h1 := hk.1
 unfold ep
 by_cases a : c.p = c.e
 . obtain ⟨b1, b2⟩ := ln h0 a
   rw [if_pos (by omega)]
   refine ⟨fun k => absurd k (by simp), fun _ => ?_⟩
   unfold Cu.d9
   rw [b2, if_neg (by decide), if_neg (by decide), b1, jC _ (by show (1 : Int) ≠ 0; decide)]
 have a' : c.p < c.e := by omega
 obtain ⟨b1, b2⟩ := eh h0 a'
 have on1 := On.byte h0 a'
 rw [if_neg (by omega)]
 by_cases b : (c.a8.getD c.p 0).toNat ≠ 117
 . rw [if_pos b]
   by_cases p : gF (c.a8.getD c.p 0) = true
   . rw [if_pos p]
     refine ⟨fun _ => ⟨1, ?_, rfl, ?_⟩, fun k => absurd rfl k⟩
     . unfold Cu.d9; rw [b2, if_neg b, if_pos p]; exact on1
     . unfold Cu.fi m9; rw [b2, if_neg b, if_pos p]
   . rw [if_neg p]
     refine ⟨fun k => absurd k (by simp), fun _ => ?_⟩
     unfold Cu.d9; rw [b2, if_neg b, if_neg p, fk _ on1.c0]
 rw [if_neg b]
 have hb : (c.a8.getD c.p 0).toNat = 117 := by omega
 have hk1 := dx hk
 have hC : c.d9 = c.byte.number.1 := by unfold Cu.d9; rw [b2, if_pos hb]
 have hO : c.fi = if c.byte.number.1.c = 0 then bI c.byte.number.2 else [] := by unfold Cu.fi; rw [b2, if_pos hb]
 have fe : ((bE c.byte.a8 4 c.byte.p 0).2 = 0 → On c.byte c.byte.four.1 4 ∧ c.byte.four.2 = (bE c.byte.a8 4 c.byte.p 0).1) ∧ ((bE c.byte.a8 4 c.byte.p 0).2 ≠ 0 → c.byte.four.1.c = (bE c.byte.a8 4 c.byte.p 0).2 ∧ c.byte.four.2 = 0) := td 4 c.byte 0 hk1 on1.c0
 rw [on1.a8, on1.p] at fe
 rw [hC, hO, Gb]
 by_cases g : (bE c.a8 4 (c.p + 1) 0).2 ≠ 0
 . rw [if_pos g]
   obtain ⟨q1, q2⟩ := fe.2 g
   refine ⟨fun k => absurd k g, fun _ => ?_⟩
   rw [if_pos (.inl (by rw [q2]; decide)), q1]
 rw [if_neg g]
 obtain ⟨q1, q2⟩ := fe.1 (by omega)
 have on5 := on1.trans q1
 rw [← q2]
 by_cases m1 : 55296 ≤ c.byte.four.2 ∧ c.byte.four.2 ≤ 56319
 . rw [if_pos m1, if_neg (by omega), if_neg (by omega)]
   have te := Is (qy hk1) q1.c0 c.byte.four.2 m1
   rw [on5.a8, on5.p] at te
   have te : ((eU c.a8 (c.p + 5) c.byte.four.2).2.2 = 0 → On c.byte.four.1 c.byte.four.1.two.four.1 6 ∧ 56320 ≤ c.byte.four.1.two.four.2 ∧ c.byte.four.1.two.four.2 ≤ 57343 ∧ eU c.a8 (c.p + 5) c.byte.four.2 = (bI (65536 + 1024 * (c.byte.four.2 - 55296) + c.byte.four.1.two.four.2 - 56320), ((c.p + 5 : Nat) : Int) + 6, 0)) ∧
    ((eU c.a8 (c.p + 5) c.byte.four.2).2.2 ≠ 0 → (c.byte.four.1.two.four.2 < 56320 ∨ 57344 ≤ c.byte.four.1.two.four.2) ∧ (c.byte.four.1.two.four.1.fail 6).c = (eU c.a8 (c.p + 5) c.byte.four.2).2.2) := te
   refine ⟨fun k => ?_, fun k => ?_⟩
   . obtain ⟨t1, t2, t3, t4⟩ := te.1 k
     rw [if_neg (by omega)]
     refine ⟨11, on5.trans t1, ?_, ?_⟩
     . rw [t4]; show ((c.p + 5 : Nat) : Int) + 6 = _; omega
     . rw [t4, if_pos t1.c0]
       show bI _ = bI _
       congr 1; omega
   . obtain ⟨t1, t2⟩ := te.2 k
     rw [if_pos t1]; exact t2
 . rw [if_neg m1]
   by_cases m2 : 56320 ≤ c.byte.four.2 ∧ c.byte.four.2 ≤ 57343
   . rw [if_pos m2, if_neg (by omega), if_pos m2.1]
     refine ⟨fun k => absurd k (by simp), fun _ => ?_⟩
     show (c.byte.four.1.fail 6).c = 6
     rw [fk _ q1.c0]
   . rw [if_neg m2, if_pos (by omega)]
     exact ⟨fun _ => ⟨5, on5, by show (c.p : Int) + 5 = _; omega, by rw [if_pos q1.c0]⟩, fun k => absurd rfl k⟩
theorem zU : ∀ (k : Nat) (c : Cu) (s : List UInt8), c.ok → c.c = 0 → ∃ j, j ≤ k ∧ On c (cr k c s).1 j ∧ (cr k c s).2 = s ++ (c.a8.drop c.p).take j ∧ (∀ i, i < j → cont (c.a8.getD (c.p + i) 0) = true) ∧
   c.p + j ≤ c.e ∧ (j = k ∨ c.p + j = c.e ∨ cont (c.a8.getD (c.p + j) 0) = false)
 | 0, c, s, h, h0 => by
   rw [cr]
   exact ⟨0, Nat.le_refl _, ⟨rfl, rfl, h0, rfl⟩, by simp, by omega, by have := h.1; omega, .inl rfl⟩
 | k + 1, c, s, h, h0 => by
   rw [cr]
   by_cases hp : c.p < c.e
   . obtain ⟨b1, b2⟩ := eh h0 hp
     have hl := eY h
     by_cases hc : cont (c.a8.getD c.p 0) = true
     . rw [if_pos ⟨h0, hp, by rw [b2]; exact hc⟩]
       have on1 := On.byte h0 hp
       obtain ⟨j, q1, q2, q3, q4, q5, q6⟩ := zU k c.byte (s ++ [c.aa]) (dx h) on1.c0
       rw [on1.a8, on1.p] at q3 q4 q6
       rw [on1.p, on1.e] at q5
       rw [on1.e] at q6
       refine ⟨j + 1, by omega, ?_, ?_, fun i hi => ?_, by omega, ?_⟩
       . have := on1.trans q2; rw [Nat.add_comm 1 j] at this; exact this
       . rw [q3, b2, List.append_assoc]
         congr 1
         rw [List.drop_eq_getElem_cons (show c.p < c.a8.length by omega), List.take_succ_cons, List.getD_eq_getElem?_getD, List.getElem?_eq_getElem (show c.p < c.a8.length by omega)]; rfl
       . cases i with
         | zero => exact hc
         | succ i => rw [show c.p + (i + 1) = c.p + 1 + i by omega]; exact q4 i (by omega)
       . rw [show c.p + (j + 1) = c.p + 1 + j by omega]
         rcases q6 with q6 | q6 | q6
         . exact .inl (by omega)
         . exact .inr (.inl q6)
         . exact .inr (.inr q6)
     . rw [if_neg (by rw [b2]; exact fun h => hc h.2.2)]
       refine ⟨0, by omega, ⟨rfl, rfl, h0, rfl⟩, by simp, by omega, by omega, .inr (.inr ?_)⟩
       cases hq : cont (c.a8.getD (c.p + 0) 0) with
       | false => rfl
       | true => exact absurd hq hc
   . rw [if_neg (by omega)]
     have := h.1
     exact ⟨0, by omega, ⟨rfl, rfl, h0, rfl⟩, by simp, by omega, by omega, .inr (.inl (by omega))⟩
theorem xQ (x : List UInt8) (m : Nat) : ∀ r i a, i + r ≤ m → m ≤ x.length → dM (x.take m) r i a = dM x r i a
 | 0, _, _, _, _ => rfl
 | r + 1, i, a, h, hm => by
   simp only [dM]
   rw [mZ (by omega), xQ x m r (i + 1) _ (by omega) hm]
theorem xO (x : List UInt8) : ∀ r i a, dM x r i a ≠ none → ∀ j, i ≤ j → j < i + r → cont (x.getD j 0) = true
 | 0, _, _, _, _, _, _ => by omega
 | r + 1, i, a, h, j, h1, h2 => by
   simp only [dM] at h
   by_cases hc : cont (x.getD i 0) = true
   . rw [if_pos hc] at h
     by_cases e : j = i
     . subst e; exact hc
     . exact xO x r (i + 1) _ h j (by omega) (by omega)
   . rw [if_neg hc] at h; exact absurd rfl h
theorem Iv (n : Nat) (o : Option Nat) : (jS n o).2 = 0 ∨ ((jS n o).2 = n ∧ o ≠ none) := by
 cases o with
 | none => exact .inl rfl
 | some r =>
   rw [rV]
   repeat' split
   . exact .inl rfl
   . exact .inr ⟨rfl, by simp⟩
   . exact .inl rfl
theorem rl (x : List UInt8) (hx : 0 < x.length) : (cf x 0).2 = 0 ∨ ((cf x 0).2 = aK (x.getD 0 0).toNat ∧ 1 ≤ aK (x.getD 0 0).toNat ∧ aK (x.getD 0 0).toNat ≤ x.length ∧ ∀ j, 1 ≤ j → j < aK (x.getD 0 0).toNat → cont (x.getD j 0) = true) := by
 unfold cf
 rw [if_neg (by omega)]
 split
 . exact .inl rfl
 split
 . exact .inl rfl
 split
 . rename_i h1 h2 h3
   exact .inr ⟨h3.symm, by omega, by omega, by omega⟩
 . rename_i h1 h2 h3
   rcases Iv (aK (x.getD 0 0).toNat) (dM x (aK (x.getD 0 0).toNat - 1) (0 + 1) ((x.getD 0 0).toNat % 2 ^ (7 - aK (x.getD 0 0).toNat))) with h | ⟨h, k⟩
   . exact .inl h
   . exact .inr ⟨h, by omega, by omega, fun j a b => xO x _ _ _ k j a (by omega)⟩
theorem rm (x : List UInt8) (m : Nat) (hm : aK (x.getD 0 0).toNat ≤ m) (h1 : 1 ≤ m) (hx : m ≤ x.length) : cf (x.take m) 0 = cf x 0 := by
 have e : (x.take m).getD 0 0 = x.getD 0 0 := mZ (by omega)
 have l : (x.take m).length = m := by rw [List.length_take]; omega
 unfold cf
 rw [e, l, if_neg (show ¬ m ≤ 0 by omega), if_neg (show ¬ x.length ≤ 0 by omega)]
 by_cases a : aK (x.getD 0 0).toNat = 0
 . rw [if_pos a, if_pos a]
 . rw [if_neg a, if_neg a, if_neg (show ¬ m < 0 + aK (x.getD 0 0).toNat by omega), if_neg (show ¬ x.length < 0 + aK (x.getD 0 0).toNat by omega), xQ x m _ _ _ (by omega) hx]
theorem BD {s : List UInt8} (hs : 0 < s.length) (h : (aW s 0).2 = 0) : jm s = 0 := by
 have hw : gX s 0 0 = (0, 0) := by rw [gX, if_neg (by omega), dif_pos h]
 unfold jm
 rw [hw, if_neg (show ¬ 0 = s.length by omega)]; rfl
theorem check_1 {s : List UInt8} (hs : 0 < s.length) (h : (aW s 0).2 = s.length) : jm s = -1 := by
 have hw : gX s 0 0 = (0 + (aW s 0).2, 0 + 1) := by
  rw [gX, if_neg (by omega), dif_neg (by omega), gX, if_pos (by omega)]
 unfold jm
 rw [hw, if_pos (show 0 + (aW s 0).2 = s.length by omega)]
theorem Ig {b : UInt8} : aK b.toNat = 0 ∨ bV b + 1 = aK b.toNat := by
 unfold aK bV; repeat' split
 all_goals omega
theorem H2 {d : Cu} (hk : d.ok) (h0 : d.c = 0) (hp : d.p < d.e) :
   ((aW d.a8 d.p).2 = 0 → (d.byte.dK (d.a8.getD d.p 0)).c = 5) ∧
   ((aW d.a8 d.p).2 ≠ 0 → On d (d.byte.dK (d.a8.getD d.p 0)) (aW d.a8 d.p).2 ∧ d.byte.fQ (d.a8.getD d.p 0) = (d.a8.take (d.p + (aW d.a8 d.p).2)).drop d.p) := by
 have hl := eY hk
 have on1 := On.byte h0 hp
 have hxl : (d.a8.drop d.p).length = d.e - d.p := by rw [List.length_drop, hl]
 have hx0 : (d.a8.drop d.p).getD 0 0 = d.a8.getD d.p 0 := by simp [List.getD_eq_getElem?_getD, List.getElem?_drop]
 have hxc : d.a8.drop d.p = d.a8.getD d.p 0 :: d.a8.drop (d.p + 1) := by
  rw [List.drop_eq_getElem_cons (show d.p < d.a8.length by omega), List.getD_eq_getElem?_getD, List.getElem?_eq_getElem (show d.p < d.a8.length by omega)]; rfl
 have hu : aW d.a8 d.p = cf (d.a8.drop d.p) 0 := by rw [rn, if_neg (by omega), ji]
 obtain ⟨j, q1, q2, q3, q4, q5, q6⟩ := zU (bV (d.a8.getD d.p 0)) d.byte [d.a8.getD d.p 0] (dx hk) on1.c0
 rw [on1.a8, on1.p] at q3 q4 q6
 rw [on1.p, on1.e] at q5
 rw [on1.e] at q6
 have hS : (cr (bV (d.a8.getD d.p 0)) d.byte [d.a8.getD d.p 0]).2 = (d.a8.drop d.p).take (j + 1) := by
  rw [q3, hxc, List.take_succ_cons]; rfl
 have hSl : ((d.a8.drop d.p).take (j + 1)).length = j + 1 := by rw [List.length_take, hxl]; omega
 have hS0 : ((d.a8.drop d.p).take (j + 1)).getD 0 0 = d.a8.getD d.p 0 := by rw [mZ (by omega), hx0]
 rw [hu]
 unfold Cu.dK Cu.fQ
 rw [hS]
 refine ⟨fun hn => ?_, fun hn => ?_⟩
 . have hz : (aW ((d.a8.drop d.p).take (j + 1)) 0).2 = 0 := by
     rw [← ji]
     rcases rl ((d.a8.drop d.p).take (j + 1)) (by omega) with h | ⟨h1, h2, h3, h4⟩
     . exact h
     . rw [hS0] at h1 h2 h3
       rw [rm _ (j + 1) (by rw [hx0]; omega) (by omega) (by omega)]; exact hn
   rw [BD (by omega) hz, if_pos (by decide), fk _ q2.c0]
 . rcases rl (d.a8.drop d.p) (by omega) with h | ⟨h1, h2, h3, h4⟩
   . exact absurd h hn
   . rw [hx0] at h1 h2 h3 h4
     have ht := Ig (b := d.a8.getD d.p 0)
     have hj : j + 1 = aK (d.a8.getD d.p 0).toNat := by
      rcases q6 with q6 | q6 | q6
      . omega
      . omega
      . by_cases e : j + 1 = aK (d.a8.getD d.p 0).toNat
        . exact e
        . exfalso
          have := h4 (j + 1) (by omega) (by omega)
          rw [show (d.a8.drop d.p).getD (j + 1) 0 = d.a8.getD (d.p + 1 + j) 0 by
           rw [List.getD_eq_getElem?_getD, List.getD_eq_getElem?_getD, List.getElem?_drop, show d.p + (j + 1) = d.p + 1 + j by omega], q6] at this
          cases this
     have hz : (aW ((d.a8.drop d.p).take (j + 1)) 0).2 = ((d.a8.drop d.p).take (j + 1)).length := by
      rw [← ji, rm _ (j + 1) (by rw [hx0]; omega) (by omega) (by omega), h1, hSl, hj]
     rw [check_1 (by omega) hz, if_neg (by decide), if_neg (by decide), h1, ← hj]
     refine ⟨?_, ?_⟩
     . have := on1.trans q2
       rw [Nat.add_comm 1 j] at this; exact this
     . rw [List.drop_take, show d.p + (j + 1) - d.p = j + 1 by omega]
theorem m6 {n : Nat} {c : Cu} {o : List UInt8} (hn : 0 < n) (h : c.c ≠ 0) : eG n c o = (c, []) := by
 cases n with
 | zero => omega
 | succ n => rw [eG, if_pos h]
def sa (d : Cu) (P : Cu × List UInt8) (R : Int × Nat × List UInt8) : Prop :=
 (R.1 = 0 → P.1.c = 0 ∧ P.1.p = R.2.1 ∧ P.2 = R.2.2 ∧ P.1.s = d.s ∧ P.1.e = d.e) ∧ (R.1 ≠ 0 → P.1.c = R.1 ∧ P.2 = [])
theorem go_eq : ∀ (n m : Nat) (d : Cu) (o : List UInt8), d.ok → d.c = 0 → d.mu < n → d.a8.length - d.p + 1 ≤ m → sa d (eG n d o) (cA d.a8 m d.p o)
 | 0, _, _, _, _, _, h, _ => by omega
 | n + 1, 0, _, _, _, _, _, h => by omega
 | n + 1, m + 1, d, o, hk, h0, hn, hm => by
   have hl := eY hk
   have h1 := hk.1
   have hmu : d.mu = d.e - d.p + 1 := by unfold Cu.mu; rw [if_neg (by omega)]
   rw [eG, cA, if_neg (by omega)]
   by_cases a : d.p = d.e
   . obtain ⟨b1, b2⟩ := ln h0 a
     have hc : d.byte.c = 1 := by rw [b1]
     rw [if_pos (by omega), if_pos (by omega), m6 (by omega) (by omega)]
     exact ⟨fun k => absurd k (by decide), fun _ => ⟨hc, rfl⟩⟩
   have a' : d.p < d.e := by omega
   obtain ⟨b1, b2⟩ := eh h0 a'
   have on1 := On.byte h0 a'
   have hkb := dx hk
   rw [if_neg (show ¬ d.byte.c ≠ 0 by rw [on1.c0]; decide), if_neg (show ¬ d.a8.length ≤ d.p by omega), b2]
   by_cases q34 : (d.a8.getD d.p 0).toNat = 34
   . rw [if_pos q34, if_pos q34]
     exact ⟨fun _ => ⟨on1.c0, on1.p, rfl, on1.s, on1.e⟩, fun k => absurd rfl k⟩
   rw [if_neg q34, if_neg q34]
   by_cases q32 : (d.a8.getD d.p 0).toNat < 32
   . have hp : c6 d.a8 d.p = ([], 0, 3) := by unfold c6; rw [if_neg (by omega), if_pos q32]
     have hc : (d.byte.fail 3).c = 3 := by rw [fk _ on1.c0]
     rw [if_pos q32, hp, if_pos (by decide), m6 (by omega) (by omega)]
     exact ⟨fun k => absurd k (by decide), fun _ => ⟨hc, rfl⟩⟩
   rw [if_neg q32]
   have step : ∀ (f : Cu) (k : Nat) (w : List UInt8), On d f k → 0 < k → f.ok → sa d (eG n f (o ++ w)) (cA d.a8 m (d.p + k) (o ++ w)) := fun f k w hf hk0 hfk => by
    have hfm : f.mu = f.e - f.p + 1 := by unfold Cu.mu; rw [if_neg (by have := hf.c0; omega)]
    have ih := go_eq n m f (o ++ w) hfk hf.c0 (by rw [hfm, hf.e, hf.p]; omega) (by rw [hf.a8, hf.p]; omega)
    rw [hf.a8, hf.p] at ih
    exact ⟨fun q => by obtain ⟨i1, i2, i3, i4, i5⟩ := ih.1 q; exact ⟨i1, i2, i3, i4.trans hf.s, i5.trans hf.e⟩, ih.2⟩
   by_cases q92 : (d.a8.getD d.p 0).toNat = 92
   . have hp : c6 d.a8 d.p = ep d.a8 (d.p + 1) := by unfold c6; rw [if_pos q92]
     have ee := C0 hkb on1.c0
     rw [on1.a8, on1.p] at ee
     rw [if_pos q92, hp]
     by_cases e0 : (ep d.a8 (d.p + 1)).2.2 ≠ 0
     . have hc := ee.2 e0
       rw [if_pos e0, m6 (by omega) (by rw [hc]; exact e0)]
       exact ⟨fun k => absurd k e0, fun _ => ⟨hc, rfl⟩⟩
     . rw [if_neg e0]
       obtain ⟨k, r1, r2, r3⟩ := ee.1 (by omega)
       rw [r2, r3, Int.toNat_natCast]
       have := step _ (1 + k) (ep d.a8 (d.p + 1)).1 (on1.trans r1) (by omega) (ly hkb)
       rw [← Nat.add_assoc] at this
       exact this
   . have ee := H2 hk h0 a'
     rw [if_neg q92]
     by_cases e0 : (aW d.a8 d.p).2 = 0
     . have hp : c6 d.a8 d.p = ([], 0, 5) := by unfold c6; rw [if_neg q92, if_neg q32, if_pos e0]
       have hc := ee.1 e0
       rw [hp, if_pos (by decide), m6 (by omega) (by omega)]
       exact ⟨fun k => absurd k (by decide), fun _ => ⟨hc, rfl⟩⟩
     . have hp : c6 d.a8 d.p = ((d.a8.take (d.p + (aW d.a8 d.p).2)).drop d.p, ((d.p + (aW d.a8 d.p).2 : Nat) : Int), 0) := by unfold c6; rw [if_neg q92, if_neg q32, if_neg e0]
       obtain ⟨r1, r2⟩ := ee.2 e0
       rw [hp, if_neg (fun k => k rfl), r2]
       exact step _ _ _ r1 (by omega) (lZ hkb _)
theorem H4 {c : Cu} (hk : c.ok) : c.read.2 = c.gJ.2 ∧ c.read.1.c = c.gJ.1.c ∧ (c.gJ.1.c = 0 → c.read.1 = c.gJ.1) := by
 have h1 := hk.1
 have hl := eY hk
 unfold Cu.read Cu.gJ
 by_cases a : c.c ≠ 0
 . have hs : c.start = c := by unfold Cu.start; rw [if_neg (by omega)]
   obtain ⟨b1, _⟩ := mA a
   rw [hs, b1, m6 (by omega) a, if_pos a]
   exact ⟨rfl, rfl, fun k => absurd k a⟩
 have h0 : c.c = 0 := by omega
 rw [if_neg a]
 by_cases b : c.p = c.e
 . have hs : c.start = c := by unfold Cu.start; rw [if_neg (by omega)]
   obtain ⟨b1, _⟩ := ln h0 b
   have hc : c.byte.c = 1 := by rw [b1]
   rw [hs, m6 (by omega) (by omega), if_pos b, fk _ h0]
   exact ⟨rfl, hc, fun k => absurd k (by show (1 : Int) ≠ 0; decide)⟩
 have b' : c.p < c.e := by omega
 obtain ⟨d1, d2⟩ := eh h0 b'
 have hg : c.get = c.a8.getD c.p 0 := by unfold Cu.a8; rw [mZ b']; rfl
 rw [if_neg b]
 by_cases e : c.get.toNat ≠ 34
 . have hs : c.start = c.fail 3 := by unfold Cu.start; rw [if_pos ⟨⟨h0, b'⟩, by rw [d2, ← hg]; exact e⟩]
   have hf : (c.fail 3).c = 3 := by rw [fk _ h0]
   obtain ⟨b1, _⟩ := mA (c := c.fail 3) (by omega)
   rw [hs, b1, m6 (by omega) (by omega), if_pos e]
   exact ⟨rfl, rfl, fun k => absurd (hf.symm.trans k) (by decide)⟩
 rw [if_neg e]
 have hs : c.start = c := by unfold Cu.start; rw [if_neg (by rw [d2, ← hg]; exact fun k => k.2 (by omega))]
 have on1 := On.byte h0 b'
 rw [hs]
 have ge := go_eq (c.byte.mu + 1) (c.e - c.p) c.byte [] (dx hk) on1.c0 (by omega) (by rw [on1.a8, on1.p]; omega)
 rw [on1.a8, on1.p] at ge
 have ge : sa c.byte (eG (c.byte.mu + 1) c.byte []) (cA (c.s.take c.e) (c.e - c.p) (c.p + 1) []) := ge
 by_cases r : (cA (c.s.take c.e) (c.e - c.p) (c.p + 1) []).1 = 0
 . rw [if_pos r]
   obtain ⟨g1, g2, g3, g4, g5⟩ := ge.1 r
   refine ⟨g3, g1.trans h0.symm, fun _ => ?_⟩
   generalize (eG (c.byte.mu + 1) c.byte []).1 = f at *
   obtain ⟨fs, fp, fe, fc⟩ := f
   simp only at g1 g2 g4 g5
   rw [g1, g2, g4, g5, on1.s, on1.e]
   obtain ⟨cs, cp, ce, cc⟩ := c
   simp only at h0
   rw [h0]
 . rw [if_neg r, fk _ h0]
   obtain ⟨g1, g2⟩ := ge.2 r
   exact ⟨g2, g1, fun k => absurd k r⟩
end Go.Proofs.Ytllncocibkgjkaa
