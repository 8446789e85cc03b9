/-
  A part of the proof.
-/
import Derived.Test.YtipejldppicijaaGreatDoorCWw
set_option linter.unusedSimpArgs false
set_option linter.unusedVariables false
set_option maxHeartbeats 4000000
namespace Go.Proofs.YtipejldppicijaaGreatDoor
open Go Go.VG
set_option maxRecDepth 100000
end Go.Proofs.YtipejldppicijaaGreatDoor
namespace Go.Proofs.YtipejldppicijaaGreatDoor
open Go Go.VG
set_option maxRecDepth 100000
end Go.Proofs.YtipejldppicijaaGreatDoor
namespace Go.Proofs.YtipejldppicijaaGreatDoor
open Go Go.VG
set_option maxRecDepth 100000
theorem pZ (w : CS) (id k : Int) (b : List UInt8) : (w.put id k b).out.length ≤ w.out.length + 11 + b.length ∧ (w.put id k b).l.length = w.l.length := by
 have := gm w id k
 unfold CS.put
 split
 . simp only [List.length_append]; omega
 . omega
theorem G4 (w : CS) (o : iD) (ht : o.text.length ≤ 90000000) (hn : -9223372036854775808 ≤ o.n ∧ o.n ≤ 9223372036854775807) :
   (w.op o).out.length ≤ w.out.length + o.text.length + 40 ∧ (w.op o).l.length ≤ w.l.length + 1 := by
 have h1 := @ym o.n (byte o.what)
 have h2 := iy (re hn)
 have h3 := iy (u := o.text.length) (by omega)
 have p7 := pZ w o.id 7 (low 8 o.bits.toNat)
 have p8 := pZ w o.id 8 (cg o.text.length ++ o.text)
 have p3 := pZ w o.id o.what [byte (dU o.n 8)]
 have p4 := pZ w o.id o.what (cg (iA o.n))
 have m12 := gm w o.id 12
 have m9 := gm w o.id 9
 have m1 := gm w o.id 1
 have m2 := gm w o.id 2
 rw [xW] at p7
 simp only [List.length_append, List.length_singleton] at p8 p3
 unfold CS.op CS.struct CS.list CS.fin CS.flag CS.pw CS.whole CS.begin
 repeat' split
 all_goals (constructor <;> (try simp only [List.length_append, List.length_cons, List.length_nil, List.length_take]) <;> omega)
theorem okC_d {w : CS} (h : w.out.length ≤ 1800000000 ∧ w.l.length ≤ 800) : du (bl w.out) (w.l.map eP) ∧ (aX (bl w.out) (w.l.map eP) w.code).out.length ≤ 1800000000 ∧ (aX (bl w.out) (w.l.map eP) w.code).l.length ≤ 800 := by
 rw [ep]; exact ⟨bU (by omega) (by omega), h⟩
end Go.Proofs.YtipejldppicijaaGreatDoor
