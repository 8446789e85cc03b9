/-
  A part of the proof.
-/
import Derived.Test.YtipejldppicijaaGreatDoorCVd
import Derived.Test.YtipejldppicijaaGreatDoorPRe
set_option linter.unusedSimpArgs false
set_option linter.unusedVariables false
set_option maxHeartbeats 4000000
namespace Go.Proofs.YtipejldppicijaaGreatDoor
open Go Go.VG
set_option maxRecDepth 100000
def Ag (a b : Cu) : Prop := a.c = b.c ∧ (b.c = 0 → a = b)
theorem Ag.rfl {c : Cu} : Ag c c := ⟨Eq.refl _, fun _ => Eq.refl _⟩
theorem Ag.err {a b : Cu} (h : b.c ≠ 0) (e : a.c = b.c) : Ag a b := ⟨e, fun q => absurd q h⟩
def iB {α : Type} (a b : α × Cu) : Prop := a.1 = b.1 ∧ Ag a.2 b.2
theorem iB.rfl {α : Type} {a : α × Cu} : iB a a := ⟨Eq.refl _, Ag.rfl⟩
theorem iB.eq {α : Type} {a b : α × Cu} (h : iB a b) (k : b.2.c = 0) : a = b := Prod.ext h.1 (h.2.2 k)
structure Rl (f g : Cu → Cu) : Prop where
 e : ∀ c, c.c ≠ 0 → (f c).c = c.c ∧ (g c).c = c.c
 z : ∀ c, c.ok → c.c = 0 → Ag (f c) (g c)
 k : ∀ c, c.ok → (g c).ok
theorem Rl.ag {f g : Cu → Cu} (h : Rl f g) {a b : Cu} (hb : b.ok) (k : Ag a b) : Ag (f a) (g b) := by
 by_cases q : b.c = 0
 . rw [k.2 q]; exact h.z b hb q
 . have h1 := (h.e a (by rw [k.1]; exact q)).1
   have h2 := (h.e b q).2
   exact .err (by rw [h2]; exact q) (by rw [h1, h2, k.1])
theorem Rl.comp {f g f' g' : Cu → Cu} (h : Rl f g) (k : Rl f' g') : Rl (fun c => f' (f c)) (fun c => g' (g c)) :=
 ⟨fun c hc => by
  obtain ⟨h1, h2⟩ := h.e c hc
  exact ⟨by rw [(k.e _ (by rw [h1]; exact hc)).1, h1], by rw [(k.e _ (by rw [h2]; exact hc)).2, h2]⟩, fun c ho hc => k.ag (h.k c ho) (h.z c ho hc), fun c ho => k.k _ (h.k c ho)⟩
theorem Rl.id : Rl (fun c => c) (fun c => c) := ⟨fun _ _ => ⟨rfl, rfl⟩, fun _ _ _ => .rfl, fun _ h => h⟩
theorem rU {c : Cu} (h : c.c ≠ 0) (k : Int) : c.fail k = c := by unfold Cu.fail; rw [if_neg h]
theorem Rl.same {f : Cu → Cu} (h : ∀ c, c.c ≠ 0 → f c = c) (k : ∀ c, c.ok → (f c).ok) : Rl f f := ⟨fun c hc => by rw [h c hc]; exact ⟨rfl, rfl⟩, fun _ _ _ => .rfl, k⟩
theorem Rl.fail (k : Int) : Rl (fun c => c.fail k) (fun c => c.fail k) := .same (fun _ h => rU h k) fun _ h => (g9 h k).1
theorem Rl.pass (n : Int) : Rl (fun c => c.pass n) (fun c => c.pass n) := .same (fun _ h => l4 h n) fun _ h => (gp h n).1
theorem rE {c : Cu} (h : c.c ≠ 0) : c.byte = c ∧ c.ao = 0 := ⟨l4 h 1, by unfold Cu.ao; rw [if_neg (fun q => h q.1)]⟩
theorem vr_z : ∀ (j i u : Nat) (c : Cu), (dn j i u c).2.c ≠ 0 → (dn j i u c).1 = 0
 | 0, _, _, _, _ => rfl
 | j + 1, i, u, c, h => by
   rw [dn] at h ⊢
   repeat' split at h
   . rw [if_pos (by assumption)]
   . rw [if_neg (by assumption), if_pos (by assumption)]
   . rename_i q _ _; exact absurd h q
   . rw [if_neg (by assumption), if_neg (by assumption), if_neg (by assumption)]
     exact vr_z j _ _ _ h
theorem rJ (c : Cu) : iB c.aD c.av := by
 refine ⟨?_, kx c, fun q => by rw [nc q]⟩
 by_cases q : c.av.2.c = 0
 . rw [nc q]
 . rw [vH (by rw [kx]; exact q)]
   exact (vr_z 10 0 0 c q).symm
theorem Rl.read : Rl (fun c => c.aD.2) (fun c => c.av.2) :=
 ⟨fun c h => by rw [rL h, r9 h]; exact ⟨rfl, rfl⟩, fun c _ _ => (rJ c).2, fun c h => (lp h).1⟩
theorem Rl.text : Rl (fun c => c.dM.2) (fun c => c.text.2) := by
 refine ⟨fun c h => ?_, fun c _ _ => ⟨(rN c).1, fun q => by rw [(rN c).2 q]⟩, fun c h => (Kp.text h).1⟩
 have e : c.text.2.c = c.c := by
  unfold Cu.text
  dsimp only
  rw [r9 h]
  dsimp only
  rw [if_neg (fun q => h q.1), l4 h]
 exact ⟨by rw [(rN c).1, e], e⟩
def Cu.bH (c : Cu) : Int × Cu :=
 if c.aD.2.c = 0 then if c.aD.1 > 2147483647 then (0, c.aD.2.fail 4) else ((c.aD.1 : Int), c.aD.2) else (0, c.aD.2)
theorem vI (c : Cu) : iB c.bH c.ba := by
 have h := rJ c
 unfold Cu.bH Cu.ba
 by_cases q : c.av.2.c = 0
 . rw [h.eq q]; exact .rfl
 . rw [if_neg (by rw [h.2.1]; exact q), if_neg q]
   exact ⟨rfl, h.2⟩
def Cu.aM (c : Cu) (last : Int) : (Int × Int) × Cu :=
 if c.byte.c ≠ 0 then ((0, 0), c.byte)
 else if c.ao.toNat = 0 then ((0, 0), c.byte)
 else if dH (Go.VG.byte ((c.ao.toNat % 16 : Nat) : Int)) = true then
  if c.ao.toNat / 16 > 0 then dj (IntKind.i64.wrap (last + ((c.ao.toNat / 16 : Nat) : Int))) ((c.ao.toNat % 16 : Nat) : Int) c.byte
  else dj (db c.byte.aD.1) ((c.ao.toNat % 16 : Nat) : Int) c.byte.aD.2
 else ((0, 0), c.byte.fail 7)
theorem p5 (c : Cu) (last : Int) : iB (c.aM last) (c.aC last) := by
 have h := rJ c.byte
 unfold Cu.aM Cu.aC
 repeat' split
 all_goals first
  | exact .rfl
  | skip
 by_cases q : c.byte.av.2.c = 0
 . rw [h.eq q]; exact .rfl
 . unfold dj
   rw [if_pos (by rw [h.2.1]; exact q), if_pos q]
   exact ⟨rfl, h.2⟩
def Cu.bD (c : Cu) : (Int × Int) × Cu :=
 if c.byte.c ≠ 0 then ((0, 0), c.byte)
 else if dH (Go.VG.byte ((c.ao.toNat % 16 : Nat) : Int)) = true then
  if c.ao.toNat / 16 = 15 then if c.byte.bH.2.c ≠ 0 then ((0, 0), c.byte.bH.2) else ((c.byte.bH.1, ((c.ao.toNat % 16 : Nat) : Int)), c.byte.bH.2)
  else ((((c.ao.toNat / 16 : Nat) : Int), ((c.ao.toNat % 16 : Nat) : Int)), c.byte)
 else ((0, 0), c.byte.fail 7)
theorem p6 (c : Cu) : iB c.bD c.aJ := by
 have h := vI c.byte
 unfold Cu.bD Cu.aJ
 by_cases q : c.byte.ba.2.c = 0
 . rw [h.eq q]; exact .rfl
 . rw [if_pos (show c.byte.bH.2.c ≠ 0 by rw [h.2.1]; exact q), if_pos (show c.byte.ba.2.c ≠ 0 from q)]
   repeat' split
   all_goals first
    | exact .rfl
    | exact ⟨rfl, h.2⟩
def Cu.c8 (c : Cu) : (Int × Int × Int) × Cu :=
 if c.bH.1 = 0 then ((0, 0, 0), c.bH.2)
 else if c.bH.2.byte.c ≠ 0 then ((0, 0, 0), c.bH.2.byte)
 else if dH (Go.VG.byte ((c.bH.2.ao.toNat / 16 : Nat) : Int)) = true ∧ dH (Go.VG.byte ((c.bH.2.ao.toNat % 16 : Nat) : Int)) = true then ((c.bH.1, ((c.bH.2.ao.toNat / 16 : Nat) : Int), ((c.bH.2.ao.toNat % 16 : Nat) : Int)), c.bH.2.byte)
 else ((0, 0, 0), c.bH.2.byte.fail 7)
theorem vt {c : Cu} (h : c.ba.2.c ≠ 0) : c.ba.1 = 0 := by
 unfold Cu.ba at h ⊢
 repeat' split at h
 . rw [if_pos (by assumption), if_pos (by assumption)]
 . rename_i q _; exact absurd q h
 . rw [if_neg (by assumption)]
theorem vE (c : Cu) : iB c.c8 c.aT := by
 have h := vI c
 unfold Cu.c8 Cu.aT
 by_cases q : c.ba.2.c = 0
 . rw [h.eq q]; exact .rfl
 . rw [if_pos (show c.bH.1 = 0 by rw [h.1]; exact vt q), if_pos (vt q)]
   exact ⟨rfl, h.2⟩
def jk (k : Int) (c : Cu) : Cu :=
 if k = 1 ∨ k = 2 then c else if k = 3 then c.byte else if k = 4 ∨ k = 5 ∨ k = 6 then c.aD.2 else if k = 7 then c.pass 8 else if k = 8 then c.dM.2 else c.fail 7
def bq (v : SF) (k : Int) (c : Cu) : Cu := if k = 1 ∨ k = 2 then (if c.ao.toNat > 2 then c.byte.fail 3 else c.byte) else v k c
def dG (v : SF) : Nat → Cu → Int → Cu
 | 0, c, _ => c
 | n + 1, c, last => if c.c ≠ 0 then c else if (c.aM last).1.2 = 0 then (c.aM last).2 else dG v n (v (c.aM last).1.2 (c.aM last).2) (c.aM last).1.1
def gZ (v : SF) (n : Nat) (a b : Int) (c : Cu) : Cu := c9 (fun x => if b = 0 then bq v a x else bq v b (bq v a x)) n c
def aH : Nat → SF
 | 0, k, c => if k = 9 ∨ k = 10 ∨ k = 11 ∨ k = 12 then c.fail 33 else jk k c
 | d + 1, k, c => if k = 9 ∨ k = 10 then gZ (aH d) c.bD.1.1.toNat c.bD.1.2 0 c.bD.2
   else if k = 11 then gZ (aH d) c.c8.1.1.toNat c.c8.1.2.1 c.c8.1.2.2 c.c8.2
   else if k = 12 then dG (aH d) (c.e - c.p + 1) c 0 else jk k c
theorem Rl.leaf (k : Int) : Rl (jk k) (ik k) := by
 have e : ∀ {f g f' g' : Cu → Cu} {p : Prop} [Decidable p], (p → Rl f g) → (¬ p → Rl f' g') → Rl (fun c => if p then f c else f' c) (fun c => if p then g c else g' c) := fun h1 h2 => by
  split
  . exact h1 (by assumption)
  . exact h2 (by assumption)
 unfold jk ik
 exact e (fun _ => .id) fun _ => e (fun _ => .pass 1) fun _ => e (fun _ => .read) fun _ => e (fun _ => .pass 8) fun _ => e (fun _ => .text) fun _ => .fail 7
theorem H7 {k : Int} (hk : 0 ≤ k ∧ k ≤ 255) : fH (byte k) (byte 1) = true ↔ k = 1 ∨ k = 2 := by
 have h1 : ((byte k).toNat : Int) = k := cq hk
 have h2 : (byte 1).toNat = 1 := rfl
 rw [l8, h2]; omega
theorem Rl.inner {v w : SF} (h : ∀ k : Int, 0 ≤ k ∧ k ≤ 255 → Rl (v k) (w k)) {k : Int} (hk : 0 ≤ k ∧ k ≤ 255) : Rl (bq v k) (dQ w k) := by
 have hs := H7 hk
 unfold bq dQ
 by_cases q : k = 1 ∨ k = 2
 . simp only [if_pos q, if_pos (hs.2 q)]
   refine .same (fun c hc => ?_) fun c ho => ?_
   . obtain ⟨b1, b2⟩ := rE hc
     rw [b1, b2, if_neg (by decide)]
   . have hb := gp ho 1
     split
     . exact (g9 hb.1 3).1
     . exact hb.1
 . simp only [if_neg q, if_neg (fun g => q (hs.1 g))]
   exact h k hk
theorem Rl.nth {f g : Cu → Cu} (h : Rl f g) : ∀ n, Rl (c9 f n) (c9 g n)
 | 0 => .id
 | n + 1 => by
   refine ⟨fun c hc => ?_, fun c ho hc => ?_, fun c ho => ?_⟩
   . rw [c9, c9, if_pos hc, if_pos hc]; exact ⟨rfl, rfl⟩
   . rw [c9, c9, if_neg (fun q => q hc), if_neg (fun q => q hc)]
     exact (Rl.nth h n).ag (h.k c ho) (h.z c ho hc)
   . rw [c9]; split
     . exact ho
     . exact (Rl.nth h n).k _ (h.k c ho)
theorem Ag.fs {v w : SF} (h : ∀ k : Int, 0 ≤ k ∧ k ≤ 255 → Rl (v k) (w k)) : ∀ (n : Nat) (a b : Cu) (last : Int), b.ok → Ag a b → Ag (dG v n a last) (gR w n b last)
 | 0, a, b, _, _, hab => hab
 | n + 1, a, b, last, hb, hab => by
   rw [dG, gR]
   by_cases q : b.c = 0
   . obtain rfl := hab.2 q
     have hq : ¬ a.c ≠ 0 := fun g => g q
     rw [if_neg hq, if_neg hq]
     have hf := p5 a last
     rw [hf.1]
     by_cases g : (a.aC last).1.2 = 0
     . rw [if_pos g, if_pos g]; exact hf.2
     . rw [if_neg g, if_neg g]
       have hk := Kp.aC hb last
       have hkb := rY a last
       exact Ag.fs h n _ _ _ ((h _ (by omega)).k _ hk.1) ((h _ (by omega)).ag hk.1 hf.2)
   . rw [if_pos q, if_pos (show a.c ≠ 0 by rw [hab.1]; exact q)]; exact hab
theorem Rl.ite {f g f' g' : Cu → Cu} {p : Prop} [Decidable p] (h1 : p → Rl f g) (h2 : ¬ p → Rl f' g') : Rl (fun c => if p then f c else f' c) (fun c => if p then g c else g' c) := by
 split
 . exact h1 (by assumption)
 . exact h2 (by assumption)
theorem vF {c : Cu} (h : c.c ≠ 0) : c.bH = (0, c) ∧ c.ba = (0, c) := by
 unfold Cu.bH Cu.ba
 rw [rL h, r9 h]
 exact ⟨by rw [if_neg h], by rw [if_neg h]⟩
theorem xP {c : Cu} (h : c.c ≠ 0) : c.bD = ((0, 0), c) ∧ c.aJ = ((0, 0), c) := by
 unfold Cu.bD Cu.aJ
 rw [(rE h).1, if_pos h, if_pos h]; exact ⟨rfl, rfl⟩
theorem y0 {c : Cu} (h : c.c ≠ 0) : c.c8 = ((0, 0, 0), c) ∧ c.aT = ((0, 0, 0), c) := by
 unfold Cu.c8 Cu.aT
 rw [(vF h).1, (vF h).2]; exact ⟨rfl, rfl⟩
theorem mhd_0 {c : Cu} (h : c.aT.1.2.2 = 0) : c.aT.1.1 = 0 := by
 unfold Cu.aT at h ⊢
 repeat' split at h
 . rw [if_pos (by assumption)]
 . rw [if_neg (by assumption), if_pos (by assumption)]
 . rename_i q
   have := bJ.1 q.2
   rw [show ((c.ba.2.ao.toNat % 16 : Nat) : Int) = 0 from h] at this
   exact absurd this.1 (by decide)
 . rw [if_neg (by assumption), if_neg (by assumption), if_neg (by assumption)]
theorem Rl.val : ∀ (d : Nat) (k : Int), 0 ≤ k ∧ k ≤ 255 → Rl (aH d k) (aE d k)
 | 0, k, _ => Rl.ite (p := k = 9 ∨ k = 10 ∨ k = 11 ∨ k = 12) (fun _ => .fail 33) fun _ => .leaf k
 | d + 1, k, _ => by
   have hv := Rl.val d
   have hl : Rl (fun c => gZ (aH d) c.bD.1.1.toNat c.bD.1.2 0 c.bD.2) (il (aE d)) := by
    refine ⟨fun c hc => ?_, fun c ho hc => ?_, fun c ho => ?_⟩
    . unfold il
      rw [(xP hc).1, (xP hc).2]; exact ⟨rfl, rfl⟩
    . have ha := p6 c
      have hb := mh c
      unfold il gZ
      simp only [if_pos]
      rw [ha.1]
      exact ((Rl.inner hv (by omega)).nth _).ag (Kp.aJ ho).1 ha.2
    . exact ((Rl.inner hv (by have := mh c; omega)).nth _).k _ (Kp.aJ ho).1
   have hm : Rl (fun c => gZ (aH d) c.c8.1.1.toNat c.c8.1.2.1 c.c8.1.2.2 c.c8.2) (im (aE d)) := by
    refine ⟨fun c hc => ?_, fun c ho hc => ?_, fun c ho => ?_⟩
    . unfold im
      rw [(y0 hc).1, (y0 hc).2]; exact ⟨rfl, rfl⟩
    . have ha := vE c
      have hb := nR c
      unfold im gZ
      rw [ha.1]
      by_cases q : c.aT.1.2.2 = 0
      . rw [mhd_0 q]; exact ha.2
      . simp only [if_neg q]
        exact (((Rl.inner hv (by omega)).comp (Rl.inner hv (by omega))).nth _).ag (Kp.aT ho).1 ha.2
    . exact (((Rl.inner hv (by have := nR c; omega)).comp (Rl.inner hv (by have := nR c; omega))).nth _).k _ (Kp.aT ho).1
   have hf : Rl (fun c => dG (aH d) (c.e - c.p + 1) c 0) (ij (aE d)) := by
    refine ⟨fun c hc => ?_, fun c ho hc => Ag.fs hv _ c c 0 ho .rfl, fun c ho => (tq (j7 d) _ c 0 ho).1⟩
    unfold ij
    rw [dG, gR, if_pos hc, if_pos hc]; exact ⟨rfl, rfl⟩
   exact Rl.ite (p := k = 9 ∨ k = 10) (fun _ => hl) fun _ => Rl.ite (p := k = 11) (fun _ => hm) fun _ => Rl.ite (p := k = 12) (fun _ => hf) fun _ => .leaf k
def Kd (c d : Cu) : Prop := d.ok ∧ d.s = c.s ∧ d.e = c.e
theorem Kd.rfl {c : Cu} (h : c.ok) : Kd c c := ⟨h, Eq.refl _, Eq.refl _⟩
theorem Kd.trans {a b c : Cu} (h : Kd a b) (g : Kd b c) : Kd a c := ⟨g.1, g.2.1.trans h.2.1, g.2.2.trans h.2.2⟩
theorem Kp.kd {a b : Cu} (h : Kp a b) : Kd a b := ⟨h.1, h.2.1, h.2.2.1⟩
theorem Kd.pass {c : Cu} (h : c.ok) (n : Int) : Kd c (c.pass n) := (Kp.pass h n).kd
theorem Kd.fail {c : Cu} (h : c.ok) (n : Int) : Kd c (c.fail n) := (Kp.fail h n).kd
theorem Kd.size {c : Cu} (h : c.ok) : Kd c c.bH.2 := by
 have hd : Kd c c.aD.2 := ky h
 unfold Cu.bH
 repeat' split
 . exact hd.trans (.fail hd.1 4)
 . exact hd
 . exact hd
theorem Kd.dj {c d : Cu} (h : Kd c d) (id k : Int) : Kd c (dj id k d).2 := by
 unfold Go.Proofs.YtipejldppicijaaGreatDoor.dj
 repeat' split
 . exact h
 . exact h.trans (.fail h.1 4)
 . exact h
theorem Kd.aC {c : Cu} (h : c.ok) (last : Int) : Kd c (c.aM last).2 := by
 have hb := Kd.pass h 1
 have hd : Kd c.byte c.byte.aD.2 := ky hb.1
 unfold Cu.aM
 repeat' split
 . exact hb
 . exact hb
 . exact Kd.dj hb _ _
 . exact Kd.dj (hb.trans hd) _ _
 . exact hb.trans (.fail hb.1 7)
theorem Kd.aJ {c : Cu} (h : c.ok) : Kd c c.bD.2 := by
 have hb := Kd.pass h 1
 have hs := hb.trans (Kd.size hb.1)
 unfold Cu.bD
 repeat' split
 . exact hb
 . exact hs
 . exact hs
 . exact hb
 . exact hb.trans (.fail hb.1 7)
theorem Kd.aT {c : Cu} (h : c.ok) : Kd c c.c8.2 := by
 have hs := Kd.size h
 have hb := hs.trans (.pass hs.1 1)
 unfold Cu.c8
 repeat' split
 . exact hs
 . exact hb
 . exact hb
 . exact hb.trans (.fail hb.1 7)
def kn (v : SF) : Prop := ∀ k c, c.ok → Kd c (v k c)
theorem pd {v : SF} (hv : kn v) : kn (bq v) := fun k c h => by
 have hb := Kd.pass h 1
 unfold bq
 repeat' split
 . exact hb.trans (.fail hb.1 3)
 . exact hb
 . exact hv k c h
theorem tu {f : Cu → Cu} (hf : ∀ c, c.ok → Kd c (f c)) : ∀ (n : Nat) (c : Cu), c.ok → Kd c (c9 f n c)
 | 0, c, h => .rfl h
 | n + 1, c, h => by
   rw [c9]
   split
   . exact .rfl h
   . exact (hf c h).trans (tu hf n _ (hf c h).1)
theorem sJ {v : SF} (hv : kn v) (a b : Int) (c : Cu) (h : c.ok) : Kd c (if b = 0 then bq v a c else bq v b (bq v a c)) := by
 have h1 := pd hv a c h
 split
 . exact h1
 . exact h1.trans (pd hv b _ h1.1)
theorem vJ {v : SF} (hv : kn v) : ∀ (n : Nat) (c : Cu) (last : Int), c.ok → Kd c (dG v n c last)
 | 0, c, _, h => .rfl h
 | n + 1, c, last, h => by
   have hf := Kd.aC h last
   have hx := hv (c.aM last).1.2 _ hf.1
   rw [dG]
   repeat' split
   . exact .rfl h
   . exact hf
   . exact (hf.trans hx).trans (vJ hv n _ _ hx.1)
theorem vz : kn jk := fun k c h => by
 unfold jk
 repeat' split
 . exact .rfl h
 . exact .pass h 1
 . exact ky h
 . exact .pass h 8
 . exact AN h
 . exact .fail h 7
theorem lJ : ∀ d, kn (aH d)
 | 0 => fun k c h => by
   rw [aH]; split
   . exact .fail h 33
   . exact vz k c h
 | d + 1 => fun k c h => by
   have hv := lJ d
   have hl := Kd.aJ h
   have hm := Kd.aT h
   rw [aH]
   repeat' split
   . exact hl.trans (tu (fun c h => sJ hv _ _ c h) _ _ hl.1)
   . exact hm.trans (tu (fun c h => sJ hv _ _ c h) _ _ hm.1)
   . exact vJ hv _ _ _ h
   . exact vz k c h
end Go.Proofs.YtipejldppicijaaGreatDoor
