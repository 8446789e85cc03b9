/-
  A part of the proof.
-/
import Derived.Test.YtipejldppicijaaGreatDoorCRh
set_option linter.unusedSimpArgs false
set_option linter.unusedVariables false
set_option maxHeartbeats 4000000
namespace Go.Proofs.YtipejldppicijaaGreatDoor
open Go Go.VG
set_option maxRecDepth 100000
end Go.Proofs.YtipejldppicijaaGreatDoor
namespace Go.Proofs.YtipejldppicijaaGreatDoor
open Go Go.VG
set_option maxRecDepth 100000
def Cu.ba (c : Cu) : Int × Cu :=
 if c.av.2.c = 0 then if c.av.1 > 2147483647 then (0, c.av.2.fail 4) else ((c.av.1 : Int), c.av.2) else (0, c.av.2)
def Cu.aJ (c : Cu) : (Int × Int) × Cu :=
 if c.byte.c ≠ 0 then ((0, 0), c.byte)
 else if dH (Go.VG.byte ((c.ao.toNat % 16 : Nat) : Int)) = true then
  if c.ao.toNat / 16 = 15 then if c.byte.ba.2.c ≠ 0 then ((0, 0), c.byte.ba.2) else ((c.byte.ba.1, ((c.ao.toNat % 16 : Nat) : Int)), c.byte.ba.2)
  else ((((c.ao.toNat / 16 : Nat) : Int), ((c.ao.toNat % 16 : Nat) : Int)), c.byte)
 else ((0, 0), c.byte.fail 7)
def Cu.aT (c : Cu) : (Int × Int × Int) × Cu :=
 if c.ba.1 = 0 then ((0, 0, 0), c.ba.2)
 else if c.ba.2.byte.c ≠ 0 then ((0, 0, 0), c.ba.2.byte)
 else if dH (Go.VG.byte ((c.ba.2.ao.toNat / 16 : Nat) : Int)) = true ∧ dH (Go.VG.byte ((c.ba.2.ao.toNat % 16 : Nat) : Int)) = true then ((c.ba.1, ((c.ba.2.ao.toNat / 16 : Nat) : Int), ((c.ba.2.ao.toNat % 16 : Nat) : Int)), c.ba.2.byte)
 else ((0, 0, 0), c.ba.2.byte.fail 7)
abbrev SF : Type := Int → Cu → Cu
def dQ (v : SF) (k : Int) (c : Cu) : Cu := if fH (byte k) (byte 1) = true then (if c.ao.toNat > 2 then c.byte.fail 3 else c.byte) else v k c
def c9 (f : Cu → Cu) : Nat → Cu → Cu
 | 0, c => c
 | n + 1, c => if c.c ≠ 0 then c else c9 f n (f c)
def il (v : SF) (c : Cu) : Cu := c9 (dQ v c.aJ.1.2) c.aJ.1.1.toNat c.aJ.2
def im (v : SF) (c : Cu) : Cu := c9 (fun x => dQ v c.aT.1.2.2 (dQ v c.aT.1.2.1 x)) c.aT.1.1.toNat c.aT.2
def gR (v : SF) : Nat → Cu → Int → Cu
 | 0, c, _ => c
 | n + 1, c, last => if c.c ≠ 0 then c else if (c.aC last).1.2 = 0 then (c.aC last).2 else gR v n (v (c.aC last).1.2 (c.aC last).2) (c.aC last).1.1
def ij (v : SF) (c : Cu) : Cu := gR v (c.e - c.p + 1) c 0
def ik (k : Int) (c : Cu) : Cu :=
 if k = 1 ∨ k = 2 then c else if k = 3 then c.byte else if k = 4 ∨ k = 5 ∨ k = 6 then c.av.2 else if k = 7 then c.pass 8 else if k = 8 then c.text.2 else c.fail 7
def aE : Nat → SF
 | 0, k, c => if k = 9 ∨ k = 10 ∨ k = 11 ∨ k = 12 then c.fail 33 else ik k c
 | d + 1, k, c => if k = 9 ∨ k = 10 then il (aE d) c else if k = 11 then im (aE d) c else if k = 12 then ij (aE d) c else ik k c
theorem Hl {d : Nat} {k : Int} {c : Cu} (h : ¬ (k = 9 ∨ k = 10 ∨ k = 11 ∨ k = 12)) : aE d k c = ik k c := by
 cases d with
 | zero => rw [aE, if_neg h]
 | succ d => rw [aE, if_neg (by omega), if_neg (by omega), if_neg (by omega)]
end Go.Proofs.YtipejldppicijaaGreatDoor
