/-
  A part of the proof.
-/
import Derived.Test.YtllncocibkgjkaaTxt0
set_option linter.unusedSimpArgs false
set_option linter.unusedVariables false
set_option maxHeartbeats 4000000
namespace Go.Proofs.Ytllncocibkgjkaa
open Go Go.VG
set_option maxRecDepth 100000
theorem EF (s : List UInt8) (hs : s.length ≤ 1000000) : OK 73 [.str s] [] (.str (fz s)) none := by
 refine aC (C := cx []) (ay trivial) (fn := Try.f73) rfl rfl rfl rfl fun _ _ => ?_
 refine bn.mk Nat (fun i => i ≤ s.length) (fun i => ⟨35, [(0,.str s),(3,.str (fz (s.take i))),(4,.int .i64 i)], [], []⟩) (fun i => s.length - i) [] 0 (Nat.zero_le _) ?_ (fun i hi _ _ => ?_)
 . refine Go.VG.Sub.mk rfl ?_ ?_ ?_ ?_ <;> (repeat' first | trivial)
 repeat' ((conv => whnf); first | apply al | (apply ao <;> intro h) | with_reducible refine eo ?_ fun hc => ?_)
 all_goals try conv => whnf
 all_goals try (refine ae.mk ?_; try dsimp only)
 all_goals first | refine stay ?_ | trivial | omega | (simp (discharger := omega) [-List.getD_eq_getElem?_getD, wR] <;> omega) | skip
 . refine ⟨[], i + 1, by omega, ?_, by omega⟩
   refine Go.VG.Sub.mk rfl ?_ ?_ ?_ ?_ <;> (repeat' first | trivial | apply aj | apply gb | apply aQ)
   . rw [sF (by omega), zp]
     simp only [fz]
     rw [zq ((s.getD i 0).toNat / 16) (n := IntKind.u8.wrap _), zq ((s.getD i 0).toNat % 16)]
     . simp
     all_goals (first | omega | (simp (discharger := omega) only [wR]; omega))
   . rw [gJ]; omega
 . refine a8.mk [] ?_ <;> (repeat' first | trivial | apply aj | apply gb)
   rw [List.take_of_length_le (by omega)]
def wa : Sm := fun args σ => match args, σ with
 | [.str s], [] => some (s.length ≤ 1000000, .str (fz s), none)
 | _, _ => none
theorem GJ : aD 73 wa := by
 intro args sg pre x r he hp
 unfold wa at he
 split at he <;> cases he
 exact EF _ hp

theorem DY (s : List UInt8) (hs : s.length ≤ 1000000) : OK 107 [.list true 0 [], .str s] [] (.buf 0) (some [.buf 1 0 (bl (fz s))]) := by
 refine aC (C := cx []) (ay trivial) (fn := Try.f107) rfl rfl rfl rfl fun _ _ => ?_
 repeat' ((conv => whnf); apply al)
 all_goals try conv => whnf
 all_goals try (refine ae.mk ?_; try dsimp only)
 all_goals first | refine stay ?_ | (simp (discharger := omega) [-List.getD_eq_getElem?_getD, wR] <;> omega) | skip
 refine bn.mk Nat (fun i => i ≤ s.length) (fun i => ⟨39, [(1,.str s),(5,.buf 0),(20,.int .i64 s.length),(21,.int .i64 i)], [.buf 1 0 (bl (fz (s.take i)))], [0]⟩) (fun i => s.length - i) [] 0 (Nat.zero_le _) ?_ (fun i hi _ _ => ?_)
 . refine Go.VG.Sub.mk rfl ?_ ?_ ?_ ?_ <;> (repeat' first | trivial)
 have hA : jf .u8 (((s.getD i 0).toNat : Nat) : Int) 4 = (((s.getD i 0).toNat / 16 : Nat) : Int) := rf .u8 _ 4
 have hB : ln .u8 (((s.getD i 0).toNat : Nat) : Int) 15 = (((s.getD i 0).toNat % 16 : Nat) : Int) := G6 _ (UInt8.toNat_lt _)
 repeat' ((conv => whnf); first | apply al | (apply ao <;> intro h) | with_reducible (first | refine eo ?_ fun hc => ?_ | refine mg ?_ fun hc => ?_))
 all_goals try conv => whnf
 all_goals try (refine ae.mk ?_; try dsimp only)
 all_goals first | refine stay ?_ | trivial | omega | (simp only [d7]; omega) | skip
 . simp only [ea, pg, List.length_take, List.length_cons, List.length_nil]; omega
 . refine ⟨[], i + 1, by omega, ?_, by omega⟩
   refine Go.VG.Sub.mk rfl ?_ ?_ ?_ ?_ <;> (repeat' first | trivial | apply aj | apply aQ | apply aV)
   . (simp (discharger := omega) only [wR]; omega)
   . rw [sF (by omega), zp, eE]
     refine congrArg _ ?_
     simp only [fz, bl, bv, fU, hA, hB, Int.toNat_natCast]
     rfl
 . refine a8.mk [] ?_ <;> (repeat' first | trivial | apply aj | apply aV)
   rw [List.take_of_length_le (by omega)]
def vD : Sm := fun args σ => match args, σ with
 | [.list true _ [], .str s], [] => some (s.length ≤ 1000000, .buf 0, some [.buf 1 0 (bl (fz s))])
 | _, _ => none
theorem Gg : aD 107 vD := by
 intro args sg pre x r he hp
 unfold vD at he
 split at he <;> cases he
 exact (DY _ hp).args (iz.cons (Wk.nil (.inl rfl)) (iz.refl _))

theorem DZ (s : List UInt8) (hs : s.length ≤ 1000000) : OK 91 [.str s] [] (.str (fz s)) none := by
 refine aC (C := cx [(107, vD)]) (ay ⟨Gg, trivial⟩) (fn := Try.f91) rfl rfl rfl rfl fun _ _ => ?_
 repeat' ((conv => whnf); first | apply al | apply mh)
 all_goals try conv => whnf
 all_goals try (refine ae.mk ?_; try dsimp only)
 all_goals first | refine stay ?_ | trivial | skip
 refine a8.mk [] ?_ <;> (repeat' first | trivial)
def vE : Sm := fun args σ => match args, σ with
 | [.str s], [] => some (s.length ≤ 1000000, .str (fz s), none)
 | _, _ => none
theorem Gi : aD 91 vE := by
 intro args sg pre x r he hp
 unfold vE at he
 split at he <;> cases he
 exact DZ _ hp
end Go.Proofs.Ytllncocibkgjkaa
