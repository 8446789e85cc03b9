/-
  A part of the proof.
-/
import Derived.Test.YtllncocibkgjkaaPHex
set_option linter.unusedSimpArgs false
set_option linter.unusedVariables false
set_option maxHeartbeats 4000000
namespace Go.Proofs.Ytllncocibkgjkaa
open Go Go.VG
set_option maxRecDepth 100000
theorem CN (c : Nat) (hp : True) : OK 105 ([.list true c []]) ([]) (.buf 0) (some [.buf 1 0 []]) := by
 refine ez.args (ys := [.list true 0 []]) ?_ (cN.cons (Wk.nil (.inl rfl)) (cN.refl _))
 refine az (C := cx []) (ax trivial) (fn := Try.f105) rfl rfl rfl rfl fun _ _ => ?_
 repeat' ((conv => whnf); apply al)
 all_goals try conv => whnf
 all_goals try (refine af.mk ?_; try dsimp only)
 all_goals first | refine stay ?_ | trivial | skip
 refine ah.mk [] ?_ <;> (repeat' first | trivial)
theorem CP (l : List V) (hp : l.length ≤ 4000000000) : OK 105 ([.buf 0]) ([.buf 1 0 l]) (.buf 0) (some [.buf 1 0 l]) := by
 refine az (C := cx []) (ax trivial) (fn := Try.f105) rfl rfl rfl rfl fun hw hs => ?_
 repeat' ((conv => whnf); apply al)
 all_goals try conv => whnf
 all_goals try (refine af.mk ?_; try dsimp only)
 all_goals first | refine stay ?_ | (simp (discharger := omega) only [wR]; omega) | skip
 refine ah.mk [.swap 0 1] ?_ <;> (repeat' first | trivial | apply ak | apply aJ)
 simp
def ry : Sm := fun args σ => match args, σ with
 | [.list true c []], [] => some (True, .buf 0, some [.buf 1 0 []])
 | [.buf 0], [.buf 1 0 l] => some (l.length ≤ 4000000000, .buf 0, some [.buf 1 0 l])
 | _, _ => none
theorem yc : aI 105 ry := by
 intro args sg pre x r he hp
 unfold ry at he
 split at he <;> cases he
 . exact CN (hp := hp) ..
 . exact CP (hp := hp) ..
theorem HX (a : Nat) (d : UInt8) (ds : List UInt8) : (List.replicate (a + 1) 0 ++ ds).set a d = List.replicate a 0 ++ d :: ds := by
 rw [List.replicate_succ', List.append_assoc, List.set_append_right _ _ (by simp)]
 simp
theorem CQ (l : List V) (hl : l.length ≤ 4000000000) (n : Nat) (hn : n < 18446744073709551616) : OK 106 [.buf 0, .int .u64 n] [.buf 1 0 l] (.buf 0) (some [.buf 1 0 (l ++ bl (dec n))]) := by
 refine az (C := cx []) (ax trivial) (fn := Try.f106) rfl rfl rfl rfl fun _ _ => ?_
 have h20 := sI hn
 refine cg.mk (Nat × Nat × List UInt8) (fun | (i, u, ds) => i + ds.length = 20 ∧ dec n = dec u ++ ds ∧ u ≤ n)
  (fun | (i, u, ds) => ⟨23, [(0, .buf 0), (1, .int .u64 u), (5, .ptr 1 0), (6, .int .i64 i)], [.buf 1 0 l, .cells (bl (List.replicate i 0 ++ ds))], []⟩)
  (fun x => x.2.1) [] (20, n, []) (by simp) ?_ (fun ⟨i, u, ds⟩ ⟨hi, hd, hu⟩ _ _ => ?_)
 . refine Go.VG.Sub.mk rfl ?_ ?_ ?_ ?_ <;> (repeat' first | trivial)
 have hlen : (dec n).length = (dec u).length + ds.length := by rw [hd]; simp
 have hp := qi u
 have hset : (bl (List.replicate i 0 ++ ds)).set (0 + (IntKind.i64.wrap ((i : Int) - 1)).toNat * 1) (V.int .u8 (IntKind.u8.wrap (48 + IntKind.u8.wrap ((u : Int).tmod 10)))) = bl (List.replicate (i - 1) 0 ++ digit (u % 10) :: ds) := by
  rw [show (0 + (IntKind.i64.wrap ((i : Int) - 1)).toNat * 1) = i - 1 by (simp (discharger := omega) only [wR]; omega), show IntKind.u8.wrap (48 + IntKind.u8.wrap ((u : Int).tmod 10)) = ((digit (u % 10)).toNat : Int) by
   simp only [digit, UInt8.toNat_ofNat']; (simp (discharger := omega) only [wR]; omega)]
  rw [Bn, ← HX (i - 1), show i - 1 + 1 = i by omega]
 have hq : IntKind.u64.wrap ((u : Int).tdiv 10) = ((u / 10 : Nat) : Int) := by (simp (discharger := omega) only [wR]; omega)
 repeat' ((conv => whnf); first | apply al | apply iN | (apply ay <;> intro h) | apply goN | apply goO | with_reducible refine goP ?_)
 all_goals try conv => whnf
 all_goals try (refine af.mk ?_; try dsimp only)
 all_goals (try rw [hset])
 all_goals (try rw [hq])
 all_goals first | refine stay ?_ | trivial | (simp (discharger := omega) only [wR]; omega) | (simp only [cD]; omega) | skip
 . rw [cE, List.length_append, List.length_replicate]; (simp (discharger := omega) only [wR]; omega)
 . rw [GK, Ge]; rfl
 . rw [cE]; simp; omega
 . refine ah.mk [] ?_ <;> (repeat' first | trivial | apply ak | apply aJ)
   refine congrArg _ ?_
   rw [List.drop_zero, List.take_of_length_le (by rw [cE]; simp; omega), Bm, show (IntKind.i64.wrap ((i : Int) - 1)).toNat = i - 1 by (simp (discharger := omega) only [wR]; omega), List.drop_left' (by simp), hd, dec_lt (n := u) (by omega), Nat.mod_eq_of_lt (by omega)]
   rfl
 . refine ⟨[], (i - 1, u / 10, digit (u % 10) :: ds), ⟨by simp; omega, by rw [hd, qh (n := u) (by omega)]; simp, by omega⟩, ?_, by show u / 10 < u; omega⟩
   refine Go.VG.Sub.mk rfl ?_ ?_ ?_ ?_ <;> (repeat' first | trivial | exact eqS _ _ | apply ak | apply cw)
   (simp (discharger := omega) only [wR]; omega)
def rz : Sm := fun args σ => match args, σ with
 | [.buf 0, .int .u64 q], [.buf 1 0 l] => some ((0 ≤ q ∧ q ≤ 18446744073709551615) ∧ l.length ≤ 4000000000, .buf 0, some [.buf 1 0 (l ++ bl (dec q.toNat))])
 | _, _ => none
theorem ye : aI 106 rz := by
 intro args sg pre x r he hp
 unfold rz at he
 split at he <;> cases he
 obtain ⟨⟨h0, h1⟩, h2⟩ := hp
 obtain ⟨m, rfl⟩ := Int.eq_ofNat_of_zero_le h0
 exact CQ _ h2 m (by omega)
theorem CR (c : Nat) (q : Int) (hp : -9223372036854775808 ≤ q ∧ q ≤ 9223372036854775807) : OK 90 ([.list true c [], .int .i64 q]) ([]) (.buf 0) (some [.buf 1 0 (bl (eD q))]) := by
 refine ez.args (ys := [.list true 0 [], .int .i64 q]) ?_ (cN.cons (Wk.nil (.inl rfl)) (cN.refl _))
 refine az (C := cx [(105, ry), (106, rz)]) (ax ⟨yc, ye, trivial⟩) (fn := Try.f90) rfl rfl rfl rfl fun _ _ => ?_
 repeat' ((conv => whnf); first | apply al | (apply ay <;> intro h))
 all_goals try conv => whnf
 all_goals try (refine af.mk ?_; try dsimp only)
 all_goals first | refine stay ?_ | trivial | (simp (discharger := omega) [-List.getD_eq_getElem?_getD, wR] <;> omega) | skip
 . refine ah.mk [] ?_ <;> (repeat' first | trivial | apply ak | apply aJ)
   unfold eD
   rw [if_pos (by assumption), show (IntKind.u64.wrap (0 - IntKind.u64.wrap q)).toNat = q.natAbs by (simp (discharger := omega) only [wR]; omega)]
   rfl
 . refine ah.mk [] ?_ <;> (repeat' first | trivial | apply ak | apply aJ)
   unfold eD
   rw [if_neg (by assumption), show (IntKind.u64.wrap q).toNat = q.toNat by (simp (discharger := omega) only [wR]; omega)]
   rfl
theorem CS (q : Int) (l : List V) (hp : (-9223372036854775808 ≤ q ∧ q ≤ 9223372036854775807) ∧ l.length ≤ 3000000000) : OK 90 ([.buf 0, .int .i64 q]) ([.buf 1 0 l]) (.buf 0) (some [.buf 1 0 (l ++ bl (eD q))]) := by
 refine az (C := cx [(105, ry), (106, rz)]) (ax ⟨yc, ye, trivial⟩) (fn := Try.f90) rfl rfl rfl rfl fun hw hs => ?_
 repeat' ((conv => whnf); first | apply al | (apply ay <;> intro h))
 all_goals try conv => whnf
 all_goals try (refine af.mk ?_; try dsimp only)
 all_goals first | refine stay ?_ | omega | (simp (discharger := omega) only [wR]; omega) | (simp only [cD]; omega) | (simp (discharger := omega) [-List.getD_eq_getElem?_getD, wR] <;> omega) | skip
 . refine ah.mk [] ?_ <;> (repeat' first | trivial | apply ak | apply aJ)
   unfold eD
   rw [if_pos (by omega), show (IntKind.u64.wrap (0 - IntKind.u64.wrap q)).toNat = q.natAbs by (simp (discharger := omega) only [wR]; omega)]
   rw [List.append_assoc]; rfl
 . refine ah.mk [] ?_ <;> (repeat' first | trivial | apply ak | apply aJ)
   unfold eD
   rw [if_neg (by omega), show (IntKind.u64.wrap q).toNat = q.toNat by (simp (discharger := omega) only [wR]; omega)]
def uF : Sm := fun args σ => match args, σ with
 | [.list true c [], .int .i64 q], [] => some (-9223372036854775808 ≤ q ∧ q ≤ 9223372036854775807, .buf 0, some [.buf 1 0 (bl (eD q))])
 | [.buf 0, .int .i64 q], [.buf 1 0 l] => some ((-9223372036854775808 ≤ q ∧ q ≤ 9223372036854775807) ∧ l.length ≤ 3000000000, .buf 0, some [.buf 1 0 (l ++ bl (eD q))])
 | _, _ => none
theorem EH : aI 90 uF := by
 intro args sg pre x r he hp
 unfold uF at he
 split at he <;> cases he
 . exact CR (hp := hp) ..
 . exact CS (hp := hp) ..
end Go.Proofs.Ytllncocibkgjkaa
