/-
  A part of the proof.
-/
import Derived.Test.YtipejldppicijaaGreatDoorGC
set_option linter.unusedSimpArgs false
set_option linter.unusedVariables false
set_option maxHeartbeats 4000000
namespace Go.Proofs.YtipejldppicijaaGreatDoor
open Go Go.VG
set_option maxRecDepth 100000
instance : Inhabited Fd := ⟨⟨0, 0, 0, 0, [], []⟩⟩
abbrev SR : Type := Int × Nat × List Fd
def dX : Option (List Fd × Cu) → SR
 | some r => if r.2.c = 0 then (0, r.2.p, r.1) else (r.2.c, 0, [])
 | none => (1, 0, [])
def aW (d : Int) (s : List UInt8) : SR := if d ≥ 32 then (33, 0, []) else dX (oR (31 - d).toNat s)
theorem DW {c : Cu} (h : c.c ≠ 0) (a : Int) : c.aC a = ((0, 0), c) := by
 unfold Cu.aC
 rw [(rE h).1, if_pos h]
theorem rZ {c : Cu} {a : Int} (h : (c.aC a).1.2 ≠ 0) : 1 ≤ (c.aC a).1.2 ∧ (c.aC a).1.2 ≤ 12 := by
 have h256 := c.ao.toNat_lt
 have hb : ((Go.VG.byte ((c.ao.toNat % 16 : Nat) : Int)).toNat : Int) = ((c.ao.toNat % 16 : Nat) : Int) := cq (by omega)
 unfold Cu.aC dj at h ⊢
 repeat' split at h
 all_goals first
  | exact absurd rfl h
  | skip
 all_goals
  have := bJ.1 ‹dH (Go.VG.byte ((c.ao.toNat % 16 : Nat) : Int)) = true›
  repeat' split
  all_goals first
   | contradiction
   | (dsimp only; omega)
theorem yE {d : Nat} {c : Cu} (h : c.c ≠ 0) (n : Nat) (a : Int) (acc : List Fd) : eX d (n + 1) c a acc = some (acc, c) := by
 rw [eX, DW h, if_pos rfl]
theorem yH {d : Nat} : ∀ (n : Nat) (c : Cu) (a : Int) (acc : List Fd), c.ok → c.e - c.p < n → ∃ r, eX d n c a acc = some r
 | 0, _, _, _, _, h => absurd h (Nat.not_lt_zero _)
 | n + 1, c, a, acc, hc, h => by
   rw [eX]
   by_cases g : (c.aC a).1.2 = 0
   . rw [if_pos g]; exact ⟨_, rfl⟩
   . rw [if_neg g]
     have hp := (px hc g).1
     have hf := Kp.aC hc a
     have hv := Kp.bO hf.1 d ⟨(c.aC a).1.1, (c.aC a).1.2, 0, 0, [], []⟩
     have q1 := hv.2.2.1
     have q2 := hf.2.2.1
     have q3 := hv.2.2.2
     have q4 := hf.1.1
     refine yH n _ _ _ hv.1 (by omega)
theorem ru (d : Nat) (s : List UInt8) : ∃ r, oR d s = some r := yH _ _ _ _ (ib s) (by show s.length - 0 < s.length + 1; omega)
def gF (d : Nat) : Nat → Cu → Int → List Fd → SR
 | 0, _, _, _ => (1, 0, [])
 | n + 1, c, a, acc =>
   if (c.aM a).2.c ≠ 0 then ((c.aM a).2.c, 0, [])
   else if (c.aM a).1.2 = 0 then (0, (c.aM a).2.p, acc)
   else if (aH d (c.aM a).1.2 (c.aM a).2).c ≠ 0 then ((aH d (c.aM a).1.2 (c.aM a).2).c, 0, [])
   else if cO (c.aM a).1.2 (cw (c.aM a).1.1 (c.aM a).1.2 ((c.s.take (aH d (c.aM a).1.2 (c.aM a).2).p).drop (c.aM a).2.p)).num ≠ 0 then
    (cO (c.aM a).1.2 (cw (c.aM a).1.1 (c.aM a).1.2 ((c.s.take (aH d (c.aM a).1.2 (c.aM a).2).p).drop (c.aM a).2.p)).num, 0, [])
   else gF d n (aH d (c.aM a).1.2 (c.aM a).2) (c.aM a).1.1 (acc ++ [cw (c.aM a).1.1 (c.aM a).1.2 ((c.s.take (aH d (c.aM a).1.2 (c.aM a).2).p).drop (c.aM a).2.p)])
theorem vv {k n : Int} (h : cO k n ≠ 0) : cO k n = 4 := by
 unfold cO at h ⊢
 repeat' split at h
 all_goals (repeat' split)
 all_goals first
  | contradiction
  | exact DT 0 _ _ h
  | exact absurd rfl h
theorem vw {d : Nat} : ∀ (n : Nat) (c : Cu) (a : Int) (acc : List Fd), c.c = 0 → c.ok → c.e = c.s.length → c.e - c.p < n → gF d n c a acc = dX (eX d n c a acc)
 | 0, _, _, _, _, _, _, h => absurd h (Nat.not_lt_zero _)
 | n + 1, c, a, acc, h0, hc, he, hn => by
   have ha := p5 c a
   rw [gF, eX]
   by_cases q : (c.aC a).2.c = 0
   . rw [ha.eq q, if_neg (fun z => z q)]
     by_cases g : (c.aC a).1.2 = 0
     . rw [if_pos g, if_pos g]
       unfold dX
       dsimp only
       rw [if_pos q]
     . rw [if_neg g, if_neg g]
       have hk := rZ g
       have hp := (px hc g).1
       have hf := Kp.aC hc a
       have hp2 := hf.1.1
       have hs := hf.2.1
       have hfe := hf.2.2.1
       generalize hid : (c.aC a).1.1 = id at *
       generalize hkk : (c.aC a).1.2 = k at *
       generalize hx : (c.aC a).2 = x at *
       have hv := va (d := d) (id := id) (k := k) (c := x) q hf.1 (by rw [hfe, hs]; exact he) hk
       have hag := (Rl.val d k (by omega)).z x hf.1 q
       have hkv := j7 d k x hf.1
       have hkp := Kp.bO hf.1 d ⟨id, k, 0, 0, [], []⟩
       have hn2 : x.e - x.p < n := by omega
       obtain ⟨m, rfl⟩ : ∃ m, n = m + 1 := ⟨n - 1, by omega⟩
       by_cases g2 : (aE d k x).c = 0
       . rw [hag.2 g2, if_neg (fun z => z g2), ← hs]
         have hcut : (x.s.take (aE d k x).p).drop x.p = cH d k x := rfl
         rw [hcut]
         by_cases g3 : cO k (cw id k (cH d k x)).num = 0
         . rw [if_neg (fun z => z g3), hv.fine g2 g3]
           have q1 := hkv.2.2.1
           have q3 := hkv.2.2.2
           exact vw (m + 1) _ _ _ g2 hkv.1 (by rw [q1, hkv.2.1, hfe, hs]; exact he) (by omega)
         . rw [if_pos g3, vv g3]
           have e4 := hv.big g2 g3
           rw [yE (by rw [e4]; decide)]
           unfold dX
           dsimp only
           rw [e4, if_neg (by decide)]
       . have g2' : (aH d k x).c ≠ 0 := by rw [hag.1]; exact g2
         rw [if_pos g2', hag.1]
         have e := hv.bad g2
         rw [yE (by rw [e]; exact g2)]
         unfold dX
         dsimp only
         rw [e, if_neg g2]
   . have g : (c.aC a).1.2 = 0 := Decidable.byContradiction fun z => q (px hc z).2
     rw [if_pos (show (c.aM a).2.c ≠ 0 by rw [ha.2.1]; exact q), if_pos g, ha.2.1]
     unfold dX
     dsimp only
     rw [if_neg q]
theorem Ar (d : Nat) (s : List UInt8) : gF d (s.length + 1) (.new s) 0 [] = dX (oR d s) := vw _ _ _ _ rfl (ib s) rfl (by show s.length - 0 < s.length + 1; omega)
def ff (c : Cu) : Cu := if c.ao.toNat > 2 then c.byte.fail 3 else c.byte
def ln (i : Int) (c : Cu) : Fd := if c.ao.toNat = 1 then ⟨i, 1, 1, 0, [], []⟩ else ⟨i, 2, 0, 0, [], []⟩
def dk (d : Nat) (k : Int) : Nat → Nat → Cu → List Fd → List Fd × Cu
 | 0, _, c, acc => (acc, c)
 | m + 1, i, c, acc => if c.c ≠ 0 then (acc, c) else if k = 1 ∨ k = 2 then dk d k m (i + 1) (ff c) (acc ++ [ln i c]) else dk d k m (i + 1) (bO d ⟨i, k, 0, 0, [], []⟩ c).2 (acc ++ [(bO d ⟨i, k, 0, 0, [], []⟩ c).1])
abbrev IR : Type := Int × List Fd
def dt (r : List Fd × Cu) : IR := if r.2.fin ≠ 0 then (r.2.fin, []) else (0, r.1)
def bB (d : Int) (s : List UInt8) : IR := if d ≥ 32 then (33, []) else dt (dk (31 - d).toNat (Cu.new s).aJ.1.2 (Cu.new s).aJ.1.1.toNat 0 (Cu.new s).aJ.2 [])
def jK (k : Int) (c : Cu) : Int := if k < 3 then (if (c.s.getD c.p 0).toNat = 1 then 1 else 2) else k
def gL (d : Nat) (k : Int) : Nat → Nat → Cu → List Fd → IR
 | 0, _, c, acc => if c.fin ≠ 0 then (c.fin, []) else (0, acc)
 | m + 1, i, c, acc =>
   if (bq (aH d) k c).c ≠ 0 then ((bq (aH d) k c).c, [])
   else if cO (jK k c) (cw i (jK k c) ((c.s.take (bq (aH d) k c).p).drop c.p)).num ≠ 0 then (cO (jK k c) (cw i (jK k c) ((c.s.take (bq (aH d) k c).p).drop c.p)).num, [])
   else gL d k m (i + 1) (bq (aH d) k c) (acc ++ [cw i (jK k c) ((c.s.take (bq (aH d) k c).p).drop c.p)])
theorem sa {d : Nat} {k : Int} {c : Cu} (h : c.c ≠ 0) (acc : List Fd) : ∀ m i, dt (dk d k m i c acc) = (c.c, [])
 | 0, _ => by unfold dt dk Cu.fin; dsimp only; rw [if_pos h, if_pos h]
 | m + 1, _ => by rw [dk, if_pos h]; unfold dt Cu.fin; dsimp only; rw [if_pos h, if_pos h]
theorem si {d : Nat} {k : Int} (hk : 1 ≤ k ∧ k ≤ 12) : ∀ (m i : Nat) (c : Cu) (acc : List Fd), c.c = 0 → c.ok → c.e = c.s.length → gL d k m i c acc = dt (dk d k m i c acc)
 | 0, _, _, _, _, _, _ => rfl
 | m + 1, i, c, acc, h0, hc, he => by
   rw [gL, dk, if_neg (show ¬ c.c ≠ 0 from fun z => z h0)]
   by_cases q : k = 1 ∨ k = 2
   . rw [if_pos q]
     have e : bq (aH d) k c = ff c := by unfold bq ff; rw [if_pos q]
     rw [e]
     by_cases g : (ff c).c = 0
     . have hb : c.ao.toNat ≤ 2 ∧ ff c = c.byte ∧ c.byte.c = 0 := by
         unfold ff at g ⊢
         by_cases z : c.ao.toNat > 2
         . rw [if_pos z] at g
           by_cases y : c.byte.c = 0
           . rw [pr y] at g; cases g
           . rw [rU y] at g; exact absurd g y
         . rw [if_neg z] at g ⊢
           exact ⟨by omega, rfl, g⟩
       obtain ⟨b1, b2, b3⟩ := hb
       obtain ⟨p1, p2, _⟩ := nZ (n := 1) hc h0 (by decide) b3
       have p1 : c.p + 1 ≤ c.e := p1
       have hbv : c.ao = c.s.getD c.p 0 := by unfold Cu.ao; rw [if_pos ⟨h0, by omega⟩]; rfl
       have hkb := (Kp.pass hc 1)
       have hf : ∀ x, cw i (jK k c) x = ln i c ∧ cO (jK k c) (cw i (jK k c) x).num = 0 := fun x => by
        have ej : jK k c = if c.ao.toNat = 1 then 1 else 2 := by unfold jK; rw [if_pos (by omega), hbv]
        rw [ej]
        unfold ln
        by_cases y : c.ao.toNat = 1
        . rw [if_pos y, if_pos y]; exact ⟨rfl, rfl⟩
        . rw [if_neg y, if_neg y]; exact ⟨rfl, rfl⟩
       rw [if_neg (show ¬ (ff c).c ≠ 0 from fun z => z g), if_neg (show ¬ cO (jK k c) _ ≠ 0 from fun z => z (hf _).2), (hf _).1, b2]
       exact si hk m _ _ _ b3 hkb.1 (by rw [show c.byte.e = c.e from hkb.2.2.1, show c.byte.s = c.s from hkb.2.1]; exact he)
     . rw [if_pos (show (ff c).c ≠ 0 from g), sa g]
   . rw [if_neg q]
     have e : bq (aH d) k c = aH d k c := by unfold bq; rw [if_neg q]
     have ej : jK k c = k := by unfold jK; rw [if_neg (by omega)]
     rw [e, ej]
     have hv := va (d := d) (id := i) (k := k) (c := c) h0 hc he hk
     have hag := (Rl.val d k (by omega)).z c hc h0
     have hkv := j7 d k c hc
     by_cases g2 : (aE d k c).c = 0
     . rw [hag.2 g2, if_neg (show ¬ (aE d k c).c ≠ 0 from fun z => z g2)]
       have hcut : (c.s.take (aE d k c).p).drop c.p = cH d k c := rfl
       rw [hcut]
       by_cases g3 : cO k (cw i k (cH d k c)).num = 0
       . rw [if_neg (show ¬ cO k (cw i k (cH d k c)).num ≠ 0 from fun z => z g3), hv.fine g2 g3]
         exact si hk m _ _ _ g2 hkv.1 (by rw [hkv.2.2.1, hkv.2.1]; exact he)
       . rw [if_pos (show cO k (cw i k (cH d k c)).num ≠ 0 from g3), vv g3]
         have e4 := hv.big g2 g3
         rw [sa (by rw [e4]; decide), e4]
     . rw [if_pos (show (aH d k c).c ≠ 0 by rw [hag.1]; exact g2), hag.1]
       have e := hv.bad g2
       rw [sa (by rw [e]; exact g2), e]
theorem xO {c : Cu} (h : c.aJ.1.1 ≠ 0) : (1 ≤ c.aJ.1.2 ∧ c.aJ.1.2 ≤ 12) ∧ c.aJ.2.c = 0 := by
 have h256 := c.ao.toNat_lt
 have hb : ((Go.VG.byte ((c.ao.toNat % 16 : Nat) : Int)).toNat : Int) = ((c.ao.toNat % 16 : Nat) : Int) := cq (by omega)
 unfold Cu.aJ at h ⊢
 by_cases q1 : c.byte.c ≠ 0
 . rw [if_pos q1] at h; exact absurd rfl h
 rw [if_neg q1] at h ⊢
 by_cases q2 : dH (Go.VG.byte ((c.ao.toNat % 16 : Nat) : Int)) = true
 . rw [if_pos q2] at h ⊢
   have := bJ.1 q2
   by_cases q3 : c.ao.toNat / 16 = 15
   . rw [if_pos q3] at h ⊢
     by_cases q4 : c.byte.ba.2.c ≠ 0
     . rw [if_pos q4] at h; exact absurd rfl h
     . rw [if_neg q4]
       exact ⟨by dsimp only; omega, Decidable.not_not.1 q4⟩
   . rw [if_neg q3]
     exact ⟨by dsimp only; omega, Decidable.not_not.1 q1⟩
 . rw [if_neg q2] at h; exact absurd rfl h
theorem Ek (d : Nat) (s : List UInt8) : gL d (Cu.new s).bD.1.2 (Cu.new s).bD.1.1.toNat 0 (Cu.new s).bD.2 [] = dt (dk d (Cu.new s).aJ.1.2 (Cu.new s).aJ.1.1.toNat 0 (Cu.new s).aJ.2 []) := by
 have ha := p6 (.new s)
 have hk := Kp.aJ (ib s)
 rw [ha.1]
 by_cases h : (Cu.new s).aJ.1.1 = 0
 . rw [h]
   show (if (Cu.new s).bD.2.fin ≠ 0 then _ else _) = dt _
   show _ = if (Cu.new s).aJ.2.fin ≠ 0 then ((Cu.new s).aJ.2.fin, []) else (0, [])
   by_cases q : (Cu.new s).aJ.2.c = 0
   . rw [ha.2.2 q]
   . have e1 : (Cu.new s).bD.2.fin = (Cu.new s).aJ.2.c := by
       unfold Cu.fin
       rw [ha.2.1, if_pos q]
     have e2 : (Cu.new s).aJ.2.fin = (Cu.new s).aJ.2.c := by
      unfold Cu.fin
      rw [if_pos q]
     rw [e1, e2, if_pos q]
 . obtain ⟨h1, h2⟩ := xO h
   rw [ha.2.2 h2]
   exact si h1 _ _ _ _ h2 hk.1 (by rw [hk.2.2.1, hk.2.1]; rfl)
def iY (l : List Fd) (id k : Int) : Nat → Option Fd
 | 0 => none
 | m + 1 => if (l.getD m default).id = id ∧ fH (byte (l.getD m default).k) (byte k) = true then some (l.getD m default) else iY l id k m
def aP (l : List Fd) (id k : Int) : Option Fd := iY l id k l.length
def bk (o : Option Fd) : Fd := o.getD ⟨0, 0, 0, 0, [], []⟩
end Go.Proofs.YtipejldppicijaaGreatDoor
