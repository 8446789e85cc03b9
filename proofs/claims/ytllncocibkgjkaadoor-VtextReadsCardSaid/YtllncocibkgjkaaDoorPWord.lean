/-
  A part of the proof.
-/
import Derived.Test.YtllncocibkgjkaaDoorPHex
import Derived.Test.YtllncocibkgjkaaDoorTxt
set_option linter.unusedSimpArgs false
set_option linter.unusedVariables false
set_option maxHeartbeats 4000000
namespace Go.Proofs.YtllncocibkgjkaaDoor
open Go Go.VG
set_option maxRecDepth 100000
theorem EC (c : Nat) (hp : True) : OK 55 ([.list true c []]) ([]) (.buf 0) (some [.buf 1 0 []]) := by
 refine dv.args (ys := [.list true 0 []]) ?_ (aM.cons (Wk.nil (.inl rfl)) (aM.refl _))
 refine aI (C := cx []) (aG trivial) (fn := Tryd.f55) rfl rfl rfl rfl fun _ _ => ?_
 repeat' ((conv => whnf); apply ai)
 all_goals try conv => whnf
 all_goals try (refine a8.mk ?_; try dsimp only)
 all_goals first | refine stay ?_ | trivial | skip
 refine ab.mk [] ?_ <;> (repeat' first | trivial)
theorem ED (l : List V) (hp : l.length ≤ 4000000000) : OK 55 ([.buf 0]) ([.buf 1 0 l]) (.buf 0) (some [.buf 1 0 l]) := by
 refine aI (C := cx []) (aG trivial) (fn := Tryd.f55) rfl rfl rfl rfl fun hw hs => ?_
 repeat' ((conv => whnf); apply ai)
 all_goals try conv => whnf
 all_goals try (refine a8.mk ?_; try dsimp only)
 all_goals first | refine stay ?_ | (simp (discharger := omega) only [wR]; omega) | skip
 refine ab.mk [.swap 0 1] ?_ <;> (repeat' first | trivial | apply aa | apply ak)
 simp
def sU : Sm := fun args σ => match args, σ with
 | [.list true c []], [] => some (True, .buf 0, some [.buf 1 0 []])
 | [.buf 0], [.buf 1 0 l] => some (l.length ≤ 4000000000, .buf 0, some [.buf 1 0 l])
 | _, _ => none
theorem zJ : aE 55 sU := by
 intro args sg pre x r he hp
 unfold sU at he
 split at he <;> cases he
 . exact EC (hp := hp) ..
 . exact ED (hp := hp) ..
theorem JW (a : Nat) (d : UInt8) (ds : List UInt8) : (List.replicate (a + 1) 0 ++ ds).set a d = List.replicate a 0 ++ d :: ds := by
 rw [List.replicate_succ', List.append_assoc, List.set_append_right _ _ (by simp)]
 simp
theorem EE (l : List V) (hl : l.length ≤ 4000000000) (n : Nat) (hn : n < 18446744073709551616) : OK 56 [.buf 0, .int .u64 n] [.buf 1 0 l] (.buf 0) (some [.buf 1 0 (l ++ bl (dec n))]) := by
 refine aI (C := cx []) (aG trivial) (fn := Tryd.f56) rfl rfl rfl rfl fun _ _ => ?_
 have h20 := u6 hn
 refine cB.mk (Nat × Nat × List UInt8) (fun | (i, u, ds) => i + ds.length = 20 ∧ dec n = dec u ++ ds ∧ u ≤ n)
  (fun | (i, u, ds) => ⟨23, [(0, .buf 0), (1, .int .u64 u), (5, .ptr 1 0), (6, .int .i64 i)], [.buf 1 0 l, .cells (bl (List.replicate i 0 ++ ds))], []⟩)
  (fun x => x.2.1) [] (20, n, []) (by simp) ?_ (fun ⟨i, u, ds⟩ ⟨hi, hd, hu⟩ _ _ => ?_)
 . refine Go.VG.Sub.mk rfl ?_ ?_ ?_ ?_ <;> (repeat' first | trivial)
 have hlen : (dec n).length = (dec u).length + ds.length := by rw [hd]; simp
 have hp := rB u
 have hset : (bl (List.replicate i 0 ++ ds)).set (0 + (IntKind.i64.wrap ((i : Int) - 1)).toNat * 1) (V.int .u8 (IntKind.u8.wrap (48 + IntKind.u8.wrap ((u : Int).tmod 10)))) = bl (List.replicate (i - 1) 0 ++ digit (u % 10) :: ds) := by
  rw [show (0 + (IntKind.i64.wrap ((i : Int) - 1)).toNat * 1) = i - 1 by (simp (discharger := omega) only [wR]; omega), show IntKind.u8.wrap (48 + IntKind.u8.wrap ((u : Int).tmod 10)) = ((digit (u % 10)).toNat : Int) by
   simp only [digit, UInt8.toNat_ofNat']; (simp (discharger := omega) only [wR]; omega)]
  rw [CU, ← JW (i - 1), show i - 1 + 1 = i by omega]
 have hq : IntKind.u64.wrap ((u : Int).tdiv 10) = ((u / 10 : Nat) : Int) := by (simp (discharger := omega) only [wR]; omega)
 repeat' ((conv => whnf); first | apply ai | apply aT | (apply aj <;> intro h) | apply goN | apply bz | with_reducible refine bA ?_)
 all_goals try conv => whnf
 all_goals try (refine a8.mk ?_; try dsimp only)
 all_goals (try rw [hset])
 all_goals (try rw [hq])
 all_goals first | refine stay ?_ | trivial | (simp (discharger := omega) only [wR]; omega) | (simp only [ax]; omega) | skip
 . rw [cU, List.length_append, List.length_replicate]; (simp (discharger := omega) only [wR]; omega)
 . rw [IJ, Ic]; rfl
 . rw [cU]; simp; omega
 . refine ab.mk [] ?_ <;> (repeat' first | trivial | apply aa | apply ak)
   refine congrArg _ ?_
   rw [List.drop_zero, List.take_of_length_le (by rw [cU]; simp; omega), CT, show (IntKind.i64.wrap ((i : Int) - 1)).toNat = i - 1 by (simp (discharger := omega) only [wR]; omega), List.drop_left' (by simp), hd, dec_lt (n := u) (by omega), Nat.mod_eq_of_lt (by omega)]
   rfl
 . refine ⟨[], (i - 1, u / 10, digit (u % 10) :: ds), ⟨by simp; omega, by rw [hd, rA (n := u) (by omega)]; simp, by omega⟩, ?_, by show u / 10 < u; omega⟩
   refine Go.VG.Sub.mk rfl ?_ ?_ ?_ ?_ <;> (repeat' first | trivial | exact aV _ _ | apply aa | apply ar)
   (simp (discharger := omega) only [wR]; omega)
def sV : Sm := fun args σ => match args, σ with
 | [.buf 0, .int .u64 q], [.buf 1 0 l] => some ((0 ≤ q ∧ q ≤ 18446744073709551615) ∧ l.length ≤ 4000000000, .buf 0, some [.buf 1 0 (l ++ bl (dec q.toNat))])
 | _, _ => none
theorem zK : aE 56 sV := by
 intro args sg pre x r he hp
 unfold sV at he
 split at he <;> cases he
 obtain ⟨⟨h0, h1⟩, h2⟩ := hp
 obtain ⟨m, rfl⟩ := Int.eq_ofNat_of_zero_le h0
 exact EE _ h2 m (by omega)
theorem EF (c : Nat) (q : Int) (hp : -9223372036854775808 ≤ q ∧ q ≤ 9223372036854775807) : OK 36 ([.list true c [], .int .i64 q]) ([]) (.buf 0) (some [.buf 1 0 (bl (fK q))]) := by
 refine dv.args (ys := [.list true 0 [], .int .i64 q]) ?_ (aM.cons (Wk.nil (.inl rfl)) (aM.refl _))
 refine aI (C := cx [(55, sU), (56, sV)]) (aG ⟨zJ, zK, trivial⟩) (fn := Tryd.f36) rfl rfl rfl rfl fun _ _ => ?_
 repeat' ((conv => whnf); first | apply ai | (apply aj <;> intro h))
 all_goals try conv => whnf
 all_goals try (refine a8.mk ?_; try dsimp only)
 all_goals first | refine stay ?_ | trivial | (simp (discharger := omega) [-List.getD_eq_getElem?_getD, wR] <;> omega) | skip
 . refine ab.mk [] ?_ <;> (repeat' first | trivial | apply aa | apply ak)
   unfold fK
   rw [if_pos (by assumption), show (IntKind.u64.wrap (0 - IntKind.u64.wrap q)).toNat = q.natAbs by (simp (discharger := omega) only [wR]; omega)]
   rfl
 . refine ab.mk [] ?_ <;> (repeat' first | trivial | apply aa | apply ak)
   unfold fK
   rw [if_neg (by assumption), show (IntKind.u64.wrap q).toNat = q.toNat by (simp (discharger := omega) only [wR]; omega)]
   rfl
theorem EG (q : Int) (l : List V) (hp : (-9223372036854775808 ≤ q ∧ q ≤ 9223372036854775807) ∧ l.length ≤ 3000000000) : OK 36 ([.buf 0, .int .i64 q]) ([.buf 1 0 l]) (.buf 0) (some [.buf 1 0 (l ++ bl (fK q))]) := by
 refine aI (C := cx [(55, sU), (56, sV)]) (aG ⟨zJ, zK, trivial⟩) (fn := Tryd.f36) rfl rfl rfl rfl fun hw hs => ?_
 repeat' ((conv => whnf); first | apply ai | (apply aj <;> intro h))
 all_goals try conv => whnf
 all_goals try (refine a8.mk ?_; try dsimp only)
 all_goals first | refine stay ?_ | omega | (simp (discharger := omega) only [wR]; omega) | (simp only [ax]; omega) | (simp (discharger := omega) [-List.getD_eq_getElem?_getD, wR] <;> omega) | skip
 . refine ab.mk [] ?_ <;> (repeat' first | trivial | apply aa | apply ak)
   unfold fK
   rw [if_pos (by omega), show (IntKind.u64.wrap (0 - IntKind.u64.wrap q)).toNat = q.natAbs by (simp (discharger := omega) only [wR]; omega)]
   rw [List.append_assoc]; rfl
 . refine ab.mk [] ?_ <;> (repeat' first | trivial | apply aa | apply ak)
   unfold fK
   rw [if_neg (by omega), show (IntKind.u64.wrap q).toNat = q.toNat by (simp (discharger := omega) only [wR]; omega)]
def wa : Sm := fun args σ => match args, σ with
 | [.list true c [], .int .i64 q], [] => some (-9223372036854775808 ≤ q ∧ q ≤ 9223372036854775807, .buf 0, some [.buf 1 0 (bl (fK q))])
 | [.buf 0, .int .i64 q], [.buf 1 0 l] => some ((-9223372036854775808 ≤ q ∧ q ≤ 9223372036854775807) ∧ l.length ≤ 3000000000, .buf 0, some [.buf 1 0 (l ++ bl (fK q))])
 | _, _ => none
theorem Gr : aE 36 wa := by
 intro args sg pre x r he hp
 unfold wa at he
 split at he <;> cases he
 . exact EF (hp := hp) ..
 . exact EG (hp := hp) ..
end Go.Proofs.YtllncocibkgjkaaDoor
namespace Go.Proofs.YtllncocibkgjkaaDoor
open Go Go.VG
set_option maxRecDepth 100000
theorem FJ (m : Int) (hm : 0 ≤ m ∧ m ≤ 1000) : OK 65 [.list true 0 [], .int .i64 m] [] (.buf 0) (some [.buf 1 0 []]) := by
 refine aI (C := cx []) (aG trivial) (fn := Tryd.f65) rfl rfl rfl rfl fun _ _ => ?_
 repeat' ((conv => whnf); first | with_reducible (first | refine bg (fun j q h => ?_) fun h => ?_ | refine go2 ⟨rfl, rfl⟩ (fun h => ?_) fun j h => ?_ | refine go2 ?_ (fun h => ?_) fun j h => ?_ | refine aL ?_ (fun h => ?_) fun h => ?_) | apply ai | apply aT | apply aw | ((first | apply aj | apply bB | apply bC | apply bm | apply bc) <;> intro h) | with_reducible (first | refine aQ.mk _ rfl ?_ | refine bn ?_ fun hc => ?_ | refine bo ?_ fun hc => ?_ | refine aY ?_ fun hc => ?_ | refine b9 ?_ fun hc => ?_ | apply bd | apply bf | refine b6 ?_ fun b hb => ?_) | apply b7 | apply bh | apply bp | apply bq | apply br | apply goN | apply bz | with_reducible refine bA ?_)
 all_goals try conv => whnf
 all_goals try (refine a8.mk ?_; try dsimp only)
 all_goals first | refine stay ?_ | trivial | omega | (simp (discharger := omega) only [wR]; omega) | (simp only [ax]; omega) | (simp (discharger := omega) [-List.getD_eq_getElem?_getD, wR] <;> omega) | skip
 refine ab.mk [] ?_ <;> (repeat' first | trivial | rfl | exact aV _ _ | apply aa | apply aU | apply ar | apply aK | apply ak | apply aS | apply aW | apply aX | apply aO | apply aJ)
def x7 : Sm := fun args σ => match args, σ with
 | [.list true _ [], .int .i64 m], [] => some (0 ≤ m ∧ m ≤ 1000, .buf 0, some [.buf 1 0 []])
 | _, _ => none
theorem H5 : aE 65 x7 := by
 intro args sg pre x r he hp
 unfold x7 at he
 split at he <;> cases he
 exact (FJ _ hp).args (aM.cons (Wk.nil (.inl rfl)) (aM.refl _))
theorem ma (u b : Nat) (hb : b ≤ 64) : IntKind.u8.wrap (fC .u64 u b) = ((UInt8.ofNat (u / 2 ^ b % 256)).toNat : Int) := by
 rw [pS, show min b IntKind.u64.bits = b from Nat.min_eq_left hb, mh, UInt8.toNat_ofNat']
 omega
set_option maxHeartbeats 2000000 in
theorem El (u : Nat) (hu : u < 18446744073709551616) : OK 57 [.list true 0 [], .int .u64 u] [] (.buf 0) (some [.buf 1 0 (bl (be 8 u))]) := by
 refine aI (C := cx [(65, x7)]) (aG ⟨H5, trivial⟩) (fn := Tryd.f57) rfl rfl rfl rfl fun _ _ => ?_
 repeat' ((conv => whnf); first | with_reducible (first | refine bg (fun j q h => ?_) fun h => ?_ | refine go2 ⟨rfl, rfl⟩ (fun h => ?_) fun j h => ?_ | refine go2 ?_ (fun h => ?_) fun j h => ?_ | refine aL ?_ (fun h => ?_) fun h => ?_) | apply ai | apply aT | apply aw | ((first | apply aj | apply bB | apply bC | apply bm | apply bc) <;> intro h) | with_reducible (first | refine aQ.mk _ rfl ?_ | refine bn ?_ fun hc => ?_ | refine bo ?_ fun hc => ?_ | refine aY ?_ fun hc => ?_ | refine b9 ?_ fun hc => ?_ | apply bd | apply bf | refine b6 ?_ fun b hb => ?_) | apply b7 | apply bh | apply bp | apply bq | apply br | apply goN | apply bz | with_reducible refine bA ?_)
 all_goals try conv => whnf
 all_goals try (refine a8.mk ?_; try dsimp only)
 all_goals first | refine stay ?_ | trivial | omega | (simp (discharger := omega) only [wR]; omega) | (simp only [ax]; omega) | (simp (discharger := omega) [-List.getD_eq_getElem?_getD, wR] <;> omega) | skip
 refine cB.mk Nat (fun i => i ≤ 8) (fun i => ⟨23, [(1, .int .u64 u), (5, .buf 0), (9, .int .i64 i)], [.buf 1 0 (bl ((be 8 u).take i))], [0]⟩)
  (fun i => 8 - i) [] 0 (by omega) ?_ (fun i hi _ _ => ?_)
 . refine Go.VG.Sub.mk rfl ?_ ?_ ?_ ?_ <;> (repeat' first | trivial | rfl | exact aV _ _ | apply aa | apply aU | apply ar | apply aK | apply ak | apply aS | apply aW | apply aX | apply aO | apply aJ)
 have hx : i = 0 ∨ i = 1 ∨ i = 2 ∨ i = 3 ∨ i = 4 ∨ i = 5 ∨ i = 6 ∨ i = 7 ∨ i = 8 := by omega
 have e0 : IntKind.u8.wrap (fC .u64 u 56) = _ := ma u 56 (by omega)
 have e1 : IntKind.u8.wrap (fC .u64 u 48) = _ := ma u 48 (by omega)
 have e2 : IntKind.u8.wrap (fC .u64 u 40) = _ := ma u 40 (by omega)
 have e3 : IntKind.u8.wrap (fC .u64 u 32) = _ := ma u 32 (by omega)
 have e4 : IntKind.u8.wrap (fC .u64 u 24) = _ := ma u 24 (by omega)
 have e5 : IntKind.u8.wrap (fC .u64 u 16) = _ := ma u 16 (by omega)
 have e6 : IntKind.u8.wrap (fC .u64 u 8) = _ := ma u 8 (by omega)
 have e7 : IntKind.u8.wrap (fC .u64 u 0) = _ := ma u 0 (by omega)
 rcases hx with h | h | h | h | h | h | h | h | h <;> subst h
 . repeat' ((conv => whnf); first | with_reducible (first | refine bg (fun j q h => ?_) fun h => ?_ | refine go2 ⟨rfl, rfl⟩ (fun h => ?_) fun j h => ?_ | refine go2 ?_ (fun h => ?_) fun j h => ?_ | refine aL ?_ (fun h => ?_) fun h => ?_) | apply ai | apply aT | apply aw | ((first | apply aj | apply bB | apply bC | apply bm | apply bc) <;> intro h) | with_reducible (first | refine aQ.mk _ rfl ?_ | refine bn ?_ fun hc => ?_ | refine bo ?_ fun hc => ?_ | refine aY ?_ fun hc => ?_ | refine b9 ?_ fun hc => ?_ | apply bd | apply bf | refine b6 ?_ fun b hb => ?_) | apply b7 | apply bh | apply bp | apply bq | apply br | apply goN | apply bz | with_reducible refine bA ?_)
   all_goals try conv => whnf
   all_goals try (refine a8.mk ?_; try dsimp only)
   all_goals first | refine stay ?_ | trivial | omega | (simp (discharger := omega) only [wR]; omega) | (simp only [ax]; omega) | (simp (discharger := omega) [-List.getD_eq_getElem?_getD, wR] <;> omega) | skip
   . refine ⟨[], 1, by omega, ?_, by omega⟩
     refine Go.VG.Sub.mk rfl ?_ ?_ ?_ ?_ <;> (repeat' first | trivial | rfl | exact aV _ _ | apply aa | apply aU | apply ar | apply aK | apply ak | apply aS | apply aW | apply aX | apply aO | apply aJ)
     rw [e0] <;> simp [Nat.div_div_eq_div_mul]
 . repeat' ((conv => whnf); first | with_reducible (first | refine bg (fun j q h => ?_) fun h => ?_ | refine go2 ⟨rfl, rfl⟩ (fun h => ?_) fun j h => ?_ | refine go2 ?_ (fun h => ?_) fun j h => ?_ | refine aL ?_ (fun h => ?_) fun h => ?_) | apply ai | apply aT | apply aw | ((first | apply aj | apply bB | apply bC | apply bm | apply bc) <;> intro h) | with_reducible (first | refine aQ.mk _ rfl ?_ | refine bn ?_ fun hc => ?_ | refine bo ?_ fun hc => ?_ | refine aY ?_ fun hc => ?_ | refine b9 ?_ fun hc => ?_ | apply bd | apply bf | refine b6 ?_ fun b hb => ?_) | apply b7 | apply bh | apply bp | apply bq | apply br | apply goN | apply bz | with_reducible refine bA ?_)
   all_goals try conv => whnf
   all_goals try (refine a8.mk ?_; try dsimp only)
   all_goals first | refine stay ?_ | trivial | omega | (simp (discharger := omega) only [wR]; omega) | (simp only [ax]; omega) | (simp (discharger := omega) [-List.getD_eq_getElem?_getD, wR] <;> omega) | skip
   . refine ⟨[], 2, by omega, ?_, by omega⟩
     refine Go.VG.Sub.mk rfl ?_ ?_ ?_ ?_ <;> (repeat' first | trivial | rfl | exact aV _ _ | apply aa | apply aU | apply ar | apply aK | apply ak | apply aS | apply aW | apply aX | apply aO | apply aJ)
     rw [e1] <;> simp [Nat.div_div_eq_div_mul]
 . repeat' ((conv => whnf); first | with_reducible (first | refine bg (fun j q h => ?_) fun h => ?_ | refine go2 ⟨rfl, rfl⟩ (fun h => ?_) fun j h => ?_ | refine go2 ?_ (fun h => ?_) fun j h => ?_ | refine aL ?_ (fun h => ?_) fun h => ?_) | apply ai | apply aT | apply aw | ((first | apply aj | apply bB | apply bC | apply bm | apply bc) <;> intro h) | with_reducible (first | refine aQ.mk _ rfl ?_ | refine bn ?_ fun hc => ?_ | refine bo ?_ fun hc => ?_ | refine aY ?_ fun hc => ?_ | refine b9 ?_ fun hc => ?_ | apply bd | apply bf | refine b6 ?_ fun b hb => ?_) | apply b7 | apply bh | apply bp | apply bq | apply br | apply goN | apply bz | with_reducible refine bA ?_)
   all_goals try conv => whnf
   all_goals try (refine a8.mk ?_; try dsimp only)
   all_goals first | refine stay ?_ | trivial | omega | (simp (discharger := omega) only [wR]; omega) | (simp only [ax]; omega) | (simp (discharger := omega) [-List.getD_eq_getElem?_getD, wR] <;> omega) | skip
   . refine ⟨[], 3, by omega, ?_, by omega⟩
     refine Go.VG.Sub.mk rfl ?_ ?_ ?_ ?_ <;> (repeat' first | trivial | rfl | exact aV _ _ | apply aa | apply aU | apply ar | apply aK | apply ak | apply aS | apply aW | apply aX | apply aO | apply aJ)
     rw [e2] <;> simp [Nat.div_div_eq_div_mul]
 . repeat' ((conv => whnf); first | with_reducible (first | refine bg (fun j q h => ?_) fun h => ?_ | refine go2 ⟨rfl, rfl⟩ (fun h => ?_) fun j h => ?_ | refine go2 ?_ (fun h => ?_) fun j h => ?_ | refine aL ?_ (fun h => ?_) fun h => ?_) | apply ai | apply aT | apply aw | ((first | apply aj | apply bB | apply bC | apply bm | apply bc) <;> intro h) | with_reducible (first | refine aQ.mk _ rfl ?_ | refine bn ?_ fun hc => ?_ | refine bo ?_ fun hc => ?_ | refine aY ?_ fun hc => ?_ | refine b9 ?_ fun hc => ?_ | apply bd | apply bf | refine b6 ?_ fun b hb => ?_) | apply b7 | apply bh | apply bp | apply bq | apply br | apply goN | apply bz | with_reducible refine bA ?_)
   all_goals try conv => whnf
   all_goals try (refine a8.mk ?_; try dsimp only)
   all_goals first | refine stay ?_ | trivial | omega | (simp (discharger := omega) only [wR]; omega) | (simp only [ax]; omega) | (simp (discharger := omega) [-List.getD_eq_getElem?_getD, wR] <;> omega) | skip
   . refine ⟨[], 4, by omega, ?_, by omega⟩
     refine Go.VG.Sub.mk rfl ?_ ?_ ?_ ?_ <;> (repeat' first | trivial | rfl | exact aV _ _ | apply aa | apply aU | apply ar | apply aK | apply ak | apply aS | apply aW | apply aX | apply aO | apply aJ)
     rw [e3] <;> simp [Nat.div_div_eq_div_mul]
 . repeat' ((conv => whnf); first | with_reducible (first | refine bg (fun j q h => ?_) fun h => ?_ | refine go2 ⟨rfl, rfl⟩ (fun h => ?_) fun j h => ?_ | refine go2 ?_ (fun h => ?_) fun j h => ?_ | refine aL ?_ (fun h => ?_) fun h => ?_) | apply ai | apply aT | apply aw | ((first | apply aj | apply bB | apply bC | apply bm | apply bc) <;> intro h) | with_reducible (first | refine aQ.mk _ rfl ?_ | refine bn ?_ fun hc => ?_ | refine bo ?_ fun hc => ?_ | refine aY ?_ fun hc => ?_ | refine b9 ?_ fun hc => ?_ | apply bd | apply bf | refine b6 ?_ fun b hb => ?_) | apply b7 | apply bh | apply bp | apply bq | apply br | apply goN | apply bz | with_reducible refine bA ?_)
   all_goals try conv => whnf
   all_goals try (refine a8.mk ?_; try dsimp only)
   all_goals first | refine stay ?_ | trivial | omega | (simp (discharger := omega) only [wR]; omega) | (simp only [ax]; omega) | (simp (discharger := omega) [-List.getD_eq_getElem?_getD, wR] <;> omega) | skip
   . refine ⟨[], 5, by omega, ?_, by omega⟩
     refine Go.VG.Sub.mk rfl ?_ ?_ ?_ ?_ <;> (repeat' first | trivial | rfl | exact aV _ _ | apply aa | apply aU | apply ar | apply aK | apply ak | apply aS | apply aW | apply aX | apply aO | apply aJ)
     rw [e4] <;> simp [Nat.div_div_eq_div_mul]
 . repeat' ((conv => whnf); first | with_reducible (first | refine bg (fun j q h => ?_) fun h => ?_ | refine go2 ⟨rfl, rfl⟩ (fun h => ?_) fun j h => ?_ | refine go2 ?_ (fun h => ?_) fun j h => ?_ | refine aL ?_ (fun h => ?_) fun h => ?_) | apply ai | apply aT | apply aw | ((first | apply aj | apply bB | apply bC | apply bm | apply bc) <;> intro h) | with_reducible (first | refine aQ.mk _ rfl ?_ | refine bn ?_ fun hc => ?_ | refine bo ?_ fun hc => ?_ | refine aY ?_ fun hc => ?_ | refine b9 ?_ fun hc => ?_ | apply bd | apply bf | refine b6 ?_ fun b hb => ?_) | apply b7 | apply bh | apply bp | apply bq | apply br | apply goN | apply bz | with_reducible refine bA ?_)
   all_goals try conv => whnf
   all_goals try (refine a8.mk ?_; try dsimp only)
   all_goals first | refine stay ?_ | trivial | omega | (simp (discharger := omega) only [wR]; omega) | (simp only [ax]; omega) | (simp (discharger := omega) [-List.getD_eq_getElem?_getD, wR] <;> omega) | skip
   . refine ⟨[], 6, by omega, ?_, by omega⟩
     refine Go.VG.Sub.mk rfl ?_ ?_ ?_ ?_ <;> (repeat' first | trivial | rfl | exact aV _ _ | apply aa | apply aU | apply ar | apply aK | apply ak | apply aS | apply aW | apply aX | apply aO | apply aJ)
     rw [e5] <;> simp [Nat.div_div_eq_div_mul]
 . repeat' ((conv => whnf); first | with_reducible (first | refine bg (fun j q h => ?_) fun h => ?_ | refine go2 ⟨rfl, rfl⟩ (fun h => ?_) fun j h => ?_ | refine go2 ?_ (fun h => ?_) fun j h => ?_ | refine aL ?_ (fun h => ?_) fun h => ?_) | apply ai | apply aT | apply aw | ((first | apply aj | apply bB | apply bC | apply bm | apply bc) <;> intro h) | with_reducible (first | refine aQ.mk _ rfl ?_ | refine bn ?_ fun hc => ?_ | refine bo ?_ fun hc => ?_ | refine aY ?_ fun hc => ?_ | refine b9 ?_ fun hc => ?_ | apply bd | apply bf | refine b6 ?_ fun b hb => ?_) | apply b7 | apply bh | apply bp | apply bq | apply br | apply goN | apply bz | with_reducible refine bA ?_)
   all_goals try conv => whnf
   all_goals try (refine a8.mk ?_; try dsimp only)
   all_goals first | refine stay ?_ | trivial | omega | (simp (discharger := omega) only [wR]; omega) | (simp only [ax]; omega) | (simp (discharger := omega) [-List.getD_eq_getElem?_getD, wR] <;> omega) | skip
   . refine ⟨[], 7, by omega, ?_, by omega⟩
     refine Go.VG.Sub.mk rfl ?_ ?_ ?_ ?_ <;> (repeat' first | trivial | rfl | exact aV _ _ | apply aa | apply aU | apply ar | apply aK | apply ak | apply aS | apply aW | apply aX | apply aO | apply aJ)
 . repeat' ((conv => whnf); first | with_reducible (first | refine bg (fun j q h => ?_) fun h => ?_ | refine go2 ⟨rfl, rfl⟩ (fun h => ?_) fun j h => ?_ | refine go2 ?_ (fun h => ?_) fun j h => ?_ | refine aL ?_ (fun h => ?_) fun h => ?_) | apply ai | apply aT | apply aw | ((first | apply aj | apply bB | apply bC | apply bm | apply bc) <;> intro h) | with_reducible (first | refine aQ.mk _ rfl ?_ | refine bn ?_ fun hc => ?_ | refine bo ?_ fun hc => ?_ | refine aY ?_ fun hc => ?_ | refine b9 ?_ fun hc => ?_ | apply bd | apply bf | refine b6 ?_ fun b hb => ?_) | apply b7 | apply bh | apply bp | apply bq | apply br | apply goN | apply bz | with_reducible refine bA ?_)
   all_goals try conv => whnf
   all_goals try (refine a8.mk ?_; try dsimp only)
   all_goals first | refine stay ?_ | trivial | omega | (simp (discharger := omega) only [wR]; omega) | (simp only [ax]; omega) | (simp (discharger := omega) [-List.getD_eq_getElem?_getD, wR] <;> omega) | skip
   . refine ⟨[], 8, by omega, ?_, by omega⟩
     refine Go.VG.Sub.mk rfl ?_ ?_ ?_ ?_ <;> (repeat' first | trivial | rfl | exact aV _ _ | apply aa | apply aU | apply ar | apply aK | apply ak | apply aS | apply aW | apply aX | apply aO | apply aJ)
     rw [e7] <;> simp
 . repeat' ((conv => whnf); first | with_reducible (first | refine bg (fun j q h => ?_) fun h => ?_ | refine go2 ⟨rfl, rfl⟩ (fun h => ?_) fun j h => ?_ | refine go2 ?_ (fun h => ?_) fun j h => ?_ | refine aL ?_ (fun h => ?_) fun h => ?_) | apply ai | apply aT | apply aw | ((first | apply aj | apply bB | apply bC | apply bm | apply bc) <;> intro h) | with_reducible (first | refine aQ.mk _ rfl ?_ | refine bn ?_ fun hc => ?_ | refine bo ?_ fun hc => ?_ | refine aY ?_ fun hc => ?_ | refine b9 ?_ fun hc => ?_ | apply bd | apply bf | refine b6 ?_ fun b hb => ?_) | apply b7 | apply bh | apply bp | apply bq | apply br | apply goN | apply bz | with_reducible refine bA ?_)
   all_goals try conv => whnf
   all_goals try (refine a8.mk ?_; try dsimp only)
   all_goals first | refine stay ?_ | trivial | omega | (simp (discharger := omega) only [wR]; omega) | (simp only [ax]; omega) | (simp (discharger := omega) [-List.getD_eq_getElem?_getD, wR] <;> omega) | skip
   refine ab.mk [] ?_ <;> (repeat' first | trivial | rfl | exact aV _ _ | apply aa | apply aU | apply ar | apply aK | apply ak | apply aS | apply aW | apply aX | apply aO | apply aJ)
def vU : Sm := fun args σ => match args, σ with
 | [.list true _ [], .int .u64 u], [] => some (0 ≤ u ∧ u ≤ 18446744073709551615, .buf 0, some [.buf 1 0 (bl (be 8 u.toNat))])
 | _, _ => none
theorem Gg : aE 57 vU := by
 intro args sg pre x r he hp
 unfold vU at he
 split at he <;> cases he
 obtain ⟨h0, h1⟩ := hp
 obtain ⟨m, rfl⟩ := Int.eq_ofNat_of_zero_le h0
 exact (El m (by omega)).args (aM.cons (Wk.nil (.inl rfl)) (aM.refl _))
theorem EH (u : Int) (hu : 0 ≤ u ∧ u ≤ 18446744073709551615) : OK 37 [.int .u64 u] [] (.str (j8 u)) none := by
 refine aI (C := cx [(57, vU), (38, qJ)]) (aG ⟨Gg, uG, trivial⟩) (fn := Tryd.f37) rfl rfl rfl rfl fun _ _ => ?_
 repeat' ((conv => whnf); first | with_reducible (first | refine bg (fun j q h => ?_) fun h => ?_ | refine go2 ⟨rfl, rfl⟩ (fun h => ?_) fun j h => ?_ | refine go2 ?_ (fun h => ?_) fun j h => ?_ | refine aL ?_ (fun h => ?_) fun h => ?_) | apply ai | apply aT | apply aw | ((first | apply aj | apply bB | apply bC | apply bm | apply bc) <;> intro h) | with_reducible (first | refine aQ.mk _ rfl ?_ | refine bn ?_ fun hc => ?_ | refine bo ?_ fun hc => ?_ | refine aY ?_ fun hc => ?_ | refine b9 ?_ fun hc => ?_ | apply bd | apply bf | refine b6 ?_ fun b hb => ?_) | apply b7 | apply bh | apply bp | apply bq | apply br | apply goN | apply bz | with_reducible refine bA ?_)
 all_goals try conv => whnf
 all_goals try (refine a8.mk ?_; try dsimp only)
 all_goals first | refine stay ?_ | trivial | omega | (simp (discharger := omega) only [wR]; omega) | (simp only [ax]; omega) | (simp (discharger := omega) [-List.getD_eq_getElem?_getD, wR] <;> omega) | skip
 refine ab.mk [] ?_ <;> (repeat' first | trivial | rfl | exact aV _ _ | apply aa | apply aU | apply ar | apply aK | apply ak | apply aS | apply aW | apply aX | apply aO | apply aJ)
def wb : Sm := fun args σ => match args, σ with
 | [.int .u64 u], [] => some (0 ≤ u ∧ u ≤ 18446744073709551615, .str (j8 u), none)
 | _, _ => none
theorem Gs : aE 37 wb := by
 intro args sg pre x r he hp
 unfold wb at he
 split at he <;> cases he
 exact EH _ hp
end Go.Proofs.YtllncocibkgjkaaDoor
