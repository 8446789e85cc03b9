/-
  A part of the proof.
-/
import Derived.Test.YtipejldppicijaaGreatDoorCRh
set_option linter.unusedSimpArgs false
set_option linter.unusedVariables false
set_option maxHeartbeats 4000000
namespace Go.Proofs.YtipejldppicijaaGreatDoor
open Go Go.VG
set_option maxRecDepth 100000
structure Fw where
 id : Int
 k : Int
 x : List UInt8
def dd : Int → List Fw → List UInt8
 | _, [] => []
 | a, f :: l => b6 a f.id (byte f.k) ++ (f.x ++ dd f.id l)
def kR (k : Int) : Prop := 1 ≤ k ∧ k ≤ 12
def lM (k : Int) : Prop := k = 1 ∨ k = 2
inductive VT : Nat → Int → List UInt8 → Prop
 | no (d : Nat) (k : Int) (h : lM k) : VT d k []
 | one (d : Nat) (b : UInt8) : VT d 3 [b]
 | num (d : Nat) (k n : Int) (h : k = 4 ∨ k = 5 ∨ k = 6) (hf : bc n (c7 k) = 0) (hn : -9223372036854775808 ≤ n ∧ n ≤ 9223372036854775807) : VT d k (aF (cA n))
 | g9 (d u : Nat) (h : u < 18446744073709551616) : VT d 7 (low 8 u)
 | lO (d : Nat) (t : List UInt8) (h : t.length < 1000000000) : VT d 8 (aF t.length ++ t)
 | lst (d : Nat) (k : Int) (l : List (List UInt8)) (hk : kR k) (hn : l.length ≤ 2147483647) (h : ¬ lM k → ∀ x ∈ l, VT d k x) (ht : lM k → ∀ x ∈ l, x = [1] ∨ x = [2]) : VT (d + 1) 9 (c9 l.length (byte k) ++ l.flatten)
 | str (d : Nat) (l : List Fw) (hr : ∀ f ∈ l, bp f.id ∧ kR f.k) (h : ∀ f ∈ l, VT d f.k f.x) : VT (d + 1) 12 (dd 0 l ++ [0])
theorem xW (o : List UInt8) (f : List Pl) (p : Pl) (c : Int) : CS.top ⟨o, f ++ [p], c⟩ = p := by simp [CS.top]
theorem Mj (o : List UInt8) (f : List Pl) (p q : Pl) (c : Int) : CS.gO ⟨o, f ++ [p], c⟩ q = ⟨o, f ++ [q], c⟩ := by simp [CS.gO]
end Go.Proofs.YtipejldppicijaaGreatDoor
namespace Go.Proofs.YtipejldppicijaaGreatDoor
open Go Go.VG
set_option maxRecDepth 100000
def Cu.bP (c : Cu) : Int × Cu :=
 if c.aO.2.c = 0 then if c.aO.1 > 2147483647 then (0, c.aO.2.fail 4) else ((c.aO.1 : Int), c.aO.2) else (0, c.aO.2)
def Cu.bf (c : Cu) : (Int × Int) × Cu :=
 if c.byte.c ≠ 0 then ((0, 0), c.byte)
 else if fp (Go.VG.byte ((c.aQ.toNat % 16 : Nat) : Int)) = true then
  if c.aQ.toNat / 16 = 15 then if c.byte.bP.2.c ≠ 0 then ((0, 0), c.byte.bP.2) else ((c.byte.bP.1, ((c.aQ.toNat % 16 : Nat) : Int)), c.byte.bP.2)
  else ((((c.aQ.toNat / 16 : Nat) : Int), ((c.aQ.toNat % 16 : Nat) : Int)), c.byte)
 else ((0, 0), c.byte.fail 7)
def Cu.bJ (c : Cu) : (Int × Int × Int) × Cu :=
 if c.bP.1 = 0 then ((0, 0, 0), c.bP.2)
 else if c.bP.2.byte.c ≠ 0 then ((0, 0, 0), c.bP.2.byte)
 else if fp (Go.VG.byte ((c.bP.2.aQ.toNat / 16 : Nat) : Int)) = true ∧ fp (Go.VG.byte ((c.bP.2.aQ.toNat % 16 : Nat) : Int)) = true then ((c.bP.1, ((c.bP.2.aQ.toNat / 16 : Nat) : Int), ((c.bP.2.aQ.toNat % 16 : Nat) : Int)), c.bP.2.byte)
 else ((0, 0, 0), c.bP.2.byte.fail 7)
abbrev SF : Type := Int → Cu → Cu
def eV (v : SF) (k : Int) (c : Cu) : Cu := if eS (byte k) (byte 1) = true then (if c.aQ.toNat > 2 then c.byte.fail 3 else c.byte) else v k c
def fz (f : Cu → Cu) : Nat → Cu → Cu
 | 0, c => c
 | n + 1, c => if c.c ≠ 0 then c else fz f n (f c)
def lA (v : SF) (c : Cu) : Cu := fz (eV v c.bf.1.2) c.bf.1.1.toNat c.bf.2
def mJ (v : SF) (c : Cu) : Cu := fz (fun x => eV v c.bJ.1.2.2 (eV v c.bJ.1.2.1 x)) c.bJ.1.1.toNat c.bJ.2
def iU (v : SF) : Nat → Cu → Int → Cu
 | 0, c, _ => c
 | n + 1, c, last => if c.c ≠ 0 then c else if (c.aK last).1.2 = 0 then (c.aK last).2 else iU v n (v (c.aK last).1.2 (c.aK last).2) (c.aK last).1.1
def jX (v : SF) (c : Cu) : Cu := iU v (c.e - c.p + 1) c 0
def il (k : Int) (c : Cu) : Cu :=
 if k = 1 ∨ k = 2 then c else if k = 3 then c.byte else if k = 4 ∨ k = 5 ∨ k = 6 then c.aO.2 else if k = 7 then c.pass 8 else if k = 8 then c.text.2 else c.fail 7
def aX : Nat → SF
 | 0, k, c => if k = 9 ∨ k = 10 ∨ k = 11 ∨ k = 12 then c.fail 33 else il k c
 | d + 1, k, c => if k = 9 ∨ k = 10 then lA (aX d) c else if k = 11 then mJ (aX d) c else if k = 12 then jX (aX d) c else il k c
theorem qE {d : Nat} {k : Int} {c : Cu} (h : ¬ (k = 9 ∨ k = 10 ∨ k = 11 ∨ k = 12)) : aX d k c = il k c := by
 cases d with
 | zero => rw [aX, if_neg h]
 | succ d => rw [aX, if_neg (by omega), if_neg (by omega), if_neg (by omega)]
theorem Bk {s : List UInt8} {n p : Nat} {k : Int} (hk : kR k) (hn : n ≤ 2147483647) (hr : Rd s (c9 n (byte k)) p) : (cu s p).bf = (((n : Int), k), cu s (p + (c9 n (byte k)).length)) := by
 have hkn : ((byte k).toNat : Int) = k := cE (by unfold kR at hk; omega)
 unfold kR at hk
 unfold c9 at hr ⊢
 rw [if_neg (by omega)] at hr ⊢
 have hb : ∀ z : Int, z = k → fp (byte z) = true := fun z hz => eD.2 (by rw [hz]; omega)
 by_cases c : (n : Int) < 15
 . rw [if_pos c] at hr ⊢
   obtain ⟨b1, b2⟩ := iE hr
   have e : ((byte (16 * (n : Int) + ↑(byte k).toNat)).toNat : Int) = 16 * n + k := by rw [cE (by omega), hkn]
   unfold Cu.bf
   rw [b1, b2, if_neg (show ¬ (cu s (p + 1)).c ≠ 0 from fun h => h rfl), if_pos (hb _ (by omega)), if_neg (by omega)]
   refine Prod.ext (Prod.ext ?_ ?_) rfl
   . show (((byte (16 * (n : Int) + ↑(byte k).toNat)).toNat / 16 : Nat) : Int) = n; omega
   . show (((byte (16 * (n : Int) + ↑(byte k).toNat)).toNat % 16 : Nat) : Int) = k; omega
 . rw [if_neg c] at hr ⊢
   obtain ⟨b1, b2⟩ := iE hr
   have e : ((byte (240 + ↑(byte k).toNat)).toNat : Int) = 240 + k := by rw [cE (by omega), hkn]
   have hv := rb (v := (n : Int).toNat) (by omega) hr.cons.2.2
   have hs : (cu s (p + 1)).bP = ((n : Int), cu s (p + 1 + (aF (n : Int).toNat).length)) := by
    unfold Cu.bP
    rw [hv]
    dsimp only
    rw [if_pos (show (cu s _).c = 0 from rfl), if_neg (by omega)]
    rfl
   unfold Cu.bf
   rw [b1, b2, if_neg (show ¬ (cu s (p + 1)).c ≠ 0 from fun h => h rfl), if_pos (hb _ (by omega)), if_pos (by omega), hs]
   dsimp only
   rw [if_neg (show ¬ (cu s _).c ≠ 0 from fun h => h rfl), List.length_cons, show p + 1 + (aF (n : Int).toNat).length = p + ((aF (n : Int).toNat).length + 1) by omega]
   refine Prod.ext (Prod.ext rfl ?_) rfl
   show (((byte (240 + ↑(byte k).toNat)).toNat % 16 : Nat) : Int) = k; omega
theorem CH {s : List UInt8} {f : Cu → Cu} : ∀ (l : List (List UInt8)) (p : Nat), (∀ x ∈ l, ∀ q, Rd s x q → f (cu s q) = cu s (q + x.length)) → Rd s l.flatten p → fz f l.length (cu s p) = cu s (p + l.flatten.length)
 | [], p, _, _ => rfl
 | x :: l, p, h, hr => by
   rw [List.flatten_cons] at hr ⊢
   obtain ⟨r1, r2⟩ := hr.app
   rw [List.length_cons, fz, if_neg (show ¬ (cu s p).c ≠ 0 from fun h => h rfl), h x List.mem_cons_self p r1, CH l _ (fun y hy => h y (List.mem_cons_of_mem _ hy)) r2, List.length_append, Nat.add_assoc]
theorem CF {s : List UInt8} {v : SF} : ∀ (l : List Fw) (a : Int) (p n : Nat), (∀ f ∈ l, bp f.id ∧ kR f.k) → (∀ f ∈ l, ∀ q, Rd s f.x q → v f.k (cu s q) = cu s (q + f.x.length)) → l.length < n → Rd s (dd a l ++ [0]) p → iU v n (cu s p) a = cu s (p + (dd a l ++ [0]).length)
 | l, a, p, 0, _, _, h, _ => absurd h (Nat.not_lt_zero _)
 | [], a, p, n + 1, _, _, _, hr => by
   rw [iU, if_neg (show ¬ (cu s p).c ≠ 0 from fun h => h rfl), zF hr, if_pos rfl]; rfl
 | f :: l, a, p, n + 1, h1, h2, hn, hr => by
   have e : dd a (f :: l) ++ [0] = b6 a f.id (byte f.k) ++ (f.x ++ (dd f.id l ++ [0])) := by
    show (b6 a f.id (byte f.k) ++ (f.x ++ dd f.id l)) ++ [0] = _
    simp only [List.append_assoc]
   rw [e] at hr ⊢
   obtain ⟨r1, r2⟩ := hr.app
   obtain ⟨r2, r3⟩ := r2.app
   obtain ⟨i1, i2⟩ := h1 f List.mem_cons_self
   have i3 := i2
   unfold kR at i3
   rw [iU, if_neg (show ¬ (cu s p).c ≠ 0 from fun h => h rfl), zE i2 i1 r1]
   dsimp only
   rw [if_neg (by omega), h2 f List.mem_cons_self _ r2, CF l f.id _ n (fun y hy => h1 y (List.mem_cons_of_mem _ hy)) (fun y hy => h2 y (List.mem_cons_of_mem _ hy)) (by simp at hn; omega) r3]
   refine congrArg (cu s) ?_
   simp only [List.length_append]; omega
theorem uR : ∀ (l : List Fw) (a : Int), (∀ f ∈ l, bp f.id ∧ kR f.k) → l.length ≤ (dd a l).length
 | [], _, _ => Nat.zero_le _
 | f :: l, a, h => by
   obtain ⟨i1, i2⟩ := h f List.mem_cons_self
   have h1 := vY (last := a) i2 i1
   have h2 := uR l f.id fun y hy => h y (List.mem_cons_of_mem _ hy)
   show l.length + 1 ≤ (b6 a f.id (byte f.k) ++ (f.x ++ dd f.id l)).length
   rw [List.length_append, List.length_append]; omega
theorem VT.skip {d : Nat} {k : Int} {x : List UInt8} (h : VT d k x) : ∀ (s : List UInt8) (p : Nat), Rd s x p → aX d k (cu s p) = cu s (p + x.length) := by
 induction h with
 | no d k h =>
   intro s p hr
   unfold lM at h
   rw [qE (by omega), il, if_pos h]; rfl
 | one d b =>
   intro s p hr
   rw [qE (by omega), il, if_neg (by omega), if_pos rfl]
   exact (iE hr).1
 | num d k n h hf hn =>
   intro s p hr
   rw [qE (by omega), il, if_neg (by omega), if_neg (by omega), if_pos h, rb (by have := iz hn; omega) hr]
 | g9 d u h =>
   intro s p hr
   rw [qE (by omega), il, if_neg (by omega), if_neg (by omega), if_neg (by omega), if_pos rfl]
   exact (uG hr (by rw [fq]; rfl)).2
 | lO d t h =>
   intro s p hr
   rw [qE (by omega), il, if_neg (by omega), if_neg (by omega), if_neg (by omega), if_neg (by omega), if_pos rfl, Db (by omega) hr]
 | lst d k l hk hn h ht ih =>
   intro s p hr
   obtain ⟨r1, r2⟩ := hr.app
   rw [aX, if_pos (.inl rfl)]
   unfold lA
   rw [Bk hk hn r1]
   dsimp only
   rw [Int.toNat_natCast, CH l _ (fun y hy q hq => ?_) r2, List.length_append, Nat.add_assoc]
   unfold eV
   have hkn : ((byte k).toNat : Int) = k := cE (by unfold kR at hk; omega)
   have h1n : (byte 1).toNat = 1 := rfl
   by_cases c : lM k
   . rw [if_pos (jV.2 (by unfold lM at c; omega))]
     rcases ht c y hy with rfl | rfl
     . obtain ⟨b1, b2⟩ := iE hq
       rw [b1, b2, if_neg (by decide)]; rfl
     . obtain ⟨b1, b2⟩ := iE hq
       rw [b1, b2, if_neg (by decide)]; rfl
   . rw [if_neg (fun q => by have := jV.1 q; unfold lM at c; omega)]
     exact ih c y hy s q hq
 | str d l hr h ih =>
   intro s p hd
   rw [aX, if_neg (by omega), if_neg (by omega), if_pos rfl]
   unfold jX
   refine CF l 0 p _ hr (fun f hf q hq => ih f hf s q hq) ?_ hd
   have h1 := uR l 0 hr
   have h2 := hd.take.2
   rw [List.length_append, List.length_singleton] at h2
   show l.length < s.length - p + 1
   omega
end Go.Proofs.YtipejldppicijaaGreatDoor
