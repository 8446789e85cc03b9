/-
  A part of the proof.
-/
import Derived.Test.YtipejldppicijaaGreatDoorCRa
set_option linter.unusedSimpArgs false
set_option linter.unusedVariables false
set_option maxHeartbeats 4000000
namespace Go.Proofs.YtipejldppicijaaGreatDoor
open Go Go.VG
set_option maxRecDepth 100000
theorem Es {s : List UInt8} {p n : Int} (h : 0 ≤ p ∧ 0 ≤ n) : List.drop p.toNat (List.take (p + n).toNat s) = (s.drop p.toNat).take n.toNat := by
 rw [List.drop_take, show (p + n).toNat - p.toNat = n.toNat by omega]
theorem FY (c : Cu) (p n : Int) (hp : 0 ≤ p ∧ 0 ≤ n ∧ p + n ≤ c.s.length) : OK 150 ([.int .i64 p, .ptr 0 0, .ptr 1 0, .ptr 2 0]) ([.cells [.ptr 3 0], .cells [.int .i64 n], .cells [.str []], .cells (eC c)]) (.tuple []) (some [.cells [.ptr 3 0], .cells [.int .i64 n], .cells [.str ((c.s.drop p.toNat).take n.toNat)], .cells (eC c)]) := by
 refine af (C := cx []) (ah trivial) (fn := Tryz.f150) rfl rfl rfl rfl fun hw hs => ?_
 have hb : c.s.length ≤ 9223372036854775807 := hs.2.2.2.1.1
 have hpn : IntKind.i64.wrap (p + n) = p + n := by (simp (discharger := omega) only [wR]; omega)
 repeat' ((conv => whnf); apply a9)
 all_goals try conv => whnf
 all_goals try (refine a8.mk ?_; try dsimp only)
 all_goals (try simp only [hpn] at *)
 all_goals first | refine stay ?_ | omega | skip
 refine a7.mk [] ?_ <;> (repeat' first | trivial | apply ab | apply aV | apply cw | apply aM)
 exact Es ⟨hp.1, hp.2.1⟩
def wM : Sm := fun args σ => match args, σ with
 | [.int .i64 p, .ptr 0 0, .ptr 1 0, .ptr 2 0], [.cells [.ptr 3 0], .cells [.int .i64 n], .cells [.str []], .cells ([.str s_c, .int .i64 (.ofNat a_c), .int .i64 (.ofNat e_c), .int .i64 c_c])] => some (True ∧ (0 ≤ p ∧ 0 ≤ n ∧ p + n ≤ (Cu.mk s_c a_c e_c c_c).s.length), .tuple [], some [.cells [.ptr 3 0], .cells [.int .i64 n], .cells [.str (((Cu.mk s_c a_c e_c c_c).s.drop p.toNat).take n.toNat)], .cells (eC (Cu.mk s_c a_c e_c c_c))])
 | _, _ => none
theorem J1 : aa 150 wM := by
 intro args sg pre x r he hp
 unfold wM at he
 split at he <;> cases he
 . rw [bT (hp).1]; exact FY (hp := hp.2) ..
theorem FT (c : Cu) (n m : Int) (hp : c.ok ∧ n = m) : OK 120 ([.func (.func 121) [.ptr 0 0] [], .int .i64 n, .func (.func 150) [] [.ptr 1 0, .ptr 2 0, .ptr 3 0]]) ([.cells (eC c), .cells [.ptr 0 0], .cells [.int .i64 m], .cells [.str []]]) (.tuple []) (some [.cells (eC (c.pass n)), .cells [.ptr 0 0], .cells [.int .i64 n], .cells [.str (c.dI n)]]) := by
 refine af (C := cx [(121, sS), (150, wM)]) (ah ⟨Am, J1, trivial⟩) (fn := Tryz.f120) rfl rfl rfl rfl fun hw hs => ?_
 obtain ⟨hp, rfl⟩ := hp
 have h1 := hp.1
 have h2 := hp.2
 have hq := ll hp n
 repeat' ((conv => whnf); first | apply a9 | (apply al <;> intro h))
 all_goals try conv => whnf
 all_goals try (refine a8.mk ?_; try dsimp only)
 all_goals (try simp only [cg] at *)
 all_goals first | refine stay ?_ | trivial | skip
 . have hm : c.may n = true := decide_eq_true (by assumption)
   rw [hm, if_pos rfl, hq.2.1]
   exact ⟨trivial, by omega, by omega, by omega⟩
 . have hm : c.may n = true := decide_eq_true (by assumption)
   refine a7.mk [] ?_ <;> (repeat' first | trivial | apply ab | apply aV | apply cw | apply aM)
   rw [hm, if_pos rfl, hq.2.1]
   unfold Cu.dI
   rw [hm, if_pos rfl]
   rfl
 . have hm : c.may n = false := decide_eq_false (by assumption)
   refine a7.mk [] ?_ <;> (repeat' first | trivial | apply ab | apply aV | apply cw | apply aM)
   unfold Cu.dI
   rw [hm, if_neg Bool.false_ne_true]
def wK : Sm := fun args σ => match args, σ with
 | [.func (.func 121) [.ptr 0 0] [], .int .i64 n, .func (.func 150) [] [.ptr 1 0, .ptr 2 0, .ptr 3 0]], [.cells ([.str s_c, .int .i64 (.ofNat a_c), .int .i64 (.ofNat e_c), .int .i64 c_c]), .cells [.ptr 0 0], .cells [.int .i64 m], .cells [.str []]] => some (True ∧ ((Cu.mk s_c a_c e_c c_c).ok ∧ n = m), .tuple [], some [.cells (eC ((Cu.mk s_c a_c e_c c_c).pass n)), .cells [.ptr 0 0], .cells [.int .i64 n], .cells [.str ((Cu.mk s_c a_c e_c c_c).dI n)]])
 | _, _ => none
theorem IZ : aa 120 wK := by
 intro args sg pre x r he hp
 unfold wK at he
 split at he <;> cases he
 . rw [bT (hp).1]; exact FT (hp := hp.2) ..
theorem FZ (c : Cu) (n : Int) (hp : c.ok) : OK 123 ([.ptr 0 0, .int .i64 n]) ([.cells (eC c)]) (.str (c.dI n)) (some [.cells (eC (c.pass n))]) := by
 refine af (C := cx [(120, wK)]) (ah ⟨IZ, trivial⟩) (fn := Tryz.f123) rfl rfl rfl rfl fun hw hs => ?_
 repeat' ((conv => whnf); apply a9)
 all_goals try conv => whnf
 all_goals try (refine a8.mk ?_; try dsimp only)
 all_goals (try simp only [cg] at *)
 all_goals first | refine stay ?_ | trivial | skip
 refine a7.mk [] ?_ <;> (repeat' first | trivial)
def mR : Sm := fun args σ => match args, σ with
 | [.ptr 0 0, .int .i64 n], [.cells ([.str s_c, .int .i64 (.ofNat a_c), .int .i64 (.ofNat e_c), .int .i64 c_c])] => some (True ∧ ((Cu.mk s_c a_c e_c c_c).ok), .str ((Cu.mk s_c a_c e_c c_c).dI n), some [.cells (eC ((Cu.mk s_c a_c e_c c_c).pass n))])
 | _, _ => none
theorem pL : aa 123 mR := by
 intro args sg pre x r he hp
 unfold mR at he
 split at he <;> cases he
 . rw [bT (hp).1]; exact FZ (hp := hp.2) ..
theorem DA : ∀ (j i u : Nat) (c : Cu), i + j = 10 → u < 2 ^ (7 * i) → (eX j i u c).1 ≤ 18446744073709551615
 | 0, i, u, c, _, _ => by rw [eX]; exact Nat.zero_le _
 | j + 1, i, u, c, hi, hu => by
   have h256 := c.aQ.toNat_lt
   rw [eX]
   split
   . exact Nat.zero_le _
   . split
     . exact Nat.zero_le _
     . rename_i h2
       split
       . rename_i h3
         have := (vV (i := i) (by omega) hu h3 (fun h => by omega)).2
         show u + _ ≤ _
         omega
       . rename_i h3
         refine DA j (i + 1) _ _ (by omega) ?_
         rw [show 7 * (i + 1) = 7 + 7 * i by omega, Nat.pow_add, show c.aQ.toNat - 128 = c.aQ.toNat % 128 by omega]
         exact Dz hu
theorem ra {c : Cu} : c.aO.1 ≤ 18446744073709551615 := DA 10 0 0 c rfl (by decide)
theorem D8 (c : Cu) : (c.dI 8).length ≤ 8 := by
 unfold Cu.dI
 split
 . rw [List.length_take]; exact Nat.min_le_left _ _
 . simp
theorem KD {s : List UInt8} {m : Nat} (h : m < s.length) : iO (s.drop m) = (s.getD m 0).toNat + 256 * iO (s.drop (m + 1)) := by
 rw [List.drop_eq_getElem_cons h, iO, List.getD_eq_getElem?_getD, List.getElem?_eq_getElem h]; rfl
theorem KB {s : List UInt8} {m : Nat} (h : s.length ≤ 8) (hm : 1 ≤ m) : iO (s.drop m) * 256 + 255 ≤ 18446744073709551615 := by
 have h1 := KC (s.drop m)
 have h2 : (s.drop m).length ≤ 7 := by rw [List.length_drop]; omega
 have h3 := Nat.pow_le_pow_right (n := 256) (by decide) h2
 have h4 : (256 : Nat) ^ 7 = 72057594037927936 := by decide
 omega
theorem Hz (c : Cu) (hp : c.ok) : OK 71 ([.ptr 0 0]) ([.cells (eC c)]) (.int .u64 c.ld.1) (some [.cells (eC c.ld.2)]) := by
 refine af (C := cx [(123, mR)]) (ah ⟨pL, trivial⟩) (fn := Tryz.f71) rfl rfl rfl rfl fun hw hs => ?_
 have hl := D8 c
 repeat' ((conv => whnf); apply a9)
 all_goals try conv => whnf
 all_goals try (refine a8.mk ?_; try dsimp only)
 . exact ⟨trivial, hp⟩
 refine bd.mk Nat (fun m => m ≤ (c.dI 8).length) (fun m => ⟨23, [(3, .int .u64 (iO ((c.dI 8).drop m))), (4, .str (c.dI 8)), (5, .int .i64 ((m : Int) - 1))], [.cells (eC (c.pass 8))], []⟩) (fun m => m) [] (c.dI 8).length (Nat.le_refl _) ?_ (fun m hm _ _ => ?_)
 . refine Go.VG.Sub.mk rfl ?_ ?_ ?_ ?_ <;> (repeat' first | trivial | apply ab | apply au)
   . rw [List.drop_length]; rfl
   . show IntKind.i64.wrap (((c.dI 8).length : Int) - 1) = ((c.dI 8).length : Int) - 1
     (simp (discharger := omega) only [wR]; omega)
 have hl := D8 c
 have hst := fun h => KD (s := c.dI 8) (m := m - 1) h
 have hbb := fun h => KB (m := m) hl h
 repeat' ((conv => whnf); first | apply a9 | (apply al <;> intro h) | with_reducible refine iK ?_ fun hc => ?_)
 all_goals try conv => whnf
 all_goals try (refine a8.mk ?_; try dsimp only)
 all_goals (try simp only [cg] at *)
 all_goals first | refine stay ?_ | trivial | omega | skip
 . obtain ⟨q, rfl⟩ : ∃ q, m = q + 1 := ⟨m - 1, by omega⟩
   have hst := hst (by omega)
   have hbb := hbb (by omega)
   have hq : ((q + 1 : Nat) : Int) - 1 = q := by omega
   have h256 := ((c.dI 8).getD q 0).toNat_lt
   refine ⟨[], q, by omega, ?_, by omega⟩
   refine Go.VG.Sub.mk rfl ?_ ?_ ?_ ?_ <;> (repeat' first | trivial | apply ab | apply au)
   . rw [show (((q + 1 : Nat) : Int) - 1).toNat = q by omega, Mm (by omega) hbb]
     rw [show q + 1 - 1 = q by omega] at hst
     rw [hst]
   . rw [hq]
     (simp (discharger := omega) only [wR]; omega)
 . obtain rfl : m = 0 := by omega
   refine a7.mk [] ?_ <;> (repeat' first | trivial)
def xw : Sm := fun args σ => match args, σ with
 | [.ptr 0 0], [.cells ([.str s_c, .int .i64 (.ofNat a_c), .int .i64 (.ofNat e_c), .int .i64 c_c])] => some (True ∧ ((Cu.mk s_c a_c e_c c_c).ok), .int .u64 (Cu.mk s_c a_c e_c c_c).ld.1, some [.cells (eC (Cu.mk s_c a_c e_c c_c).ld.2)])
 | _, _ => none
theorem Jx : aa 71 xw := by
 intro args sg pre x r he hp
 unfold xw at he
 split at he <;> cases he
 . rw [bT (hp).1]; exact Hz (hp := hp.2) ..
theorem rN {c : Cu} (h : ¬ c.c = 0) (n : Int) : c.dI n = [] ∧ c.pass n = c := by
 constructor
 . unfold Cu.dI Cu.may
   rw [if_neg (by rw [decide_eq_false (fun q => h q.1)]; decide)]
 . unfold Cu.pass; rw [if_pos h]
end Go.Proofs.YtipejldppicijaaGreatDoor
