/-
  A part of the proof.
-/
import Derived.Test.YtipejldppicijaaGreatDoorPHex
set_option linter.unusedSimpArgs false
set_option linter.unusedVariables false
set_option maxHeartbeats 4000000
namespace Go.Proofs.YtipejldppicijaaGreatDoor
open Go Go.VG
set_option maxRecDepth 100000
def qM (k : Nat) : Sm := fun args σ => match args, σ with
 | [.int .u64 q], [] => some ((0 ≤ q ∧ q ≤ 18446744073709551615) ∧ q < k, .str (dec q.toNat), none)
 | _, _ => none
theorem FE {k : Nat} (ih : aa 153 (qM k)) (n : Nat) (hn : n < k + 1) (hb : n < 18446744073709551616) : OK 153 [.int .u64 n] [] (.str (dec n)) none := by
 refine af (C := cx [(153, qM k)]) (ah ⟨ih, trivial⟩) (fn := Tryz.f153) rfl rfl rfl rfl fun _ _ => ?_
 have hc : ((n : Int).tmod 10) = ((n % 10 : Nat) : Int) := by (first | omega | (simp (discharger := omega) only [wR]; omega) | (simp only [aW]; omega) | (simp (discharger := omega) [-List.getD_eq_getElem?_getD, wR] <;> omega))
 have hd : IntKind.u64.wrap ((n : Int).tdiv 10) = ((n / 10 : Nat) : Int) := by (first | omega | (simp (discharger := omega) only [wR]; omega) | (simp only [aW]; omega) | (simp (discharger := omega) [-List.getD_eq_getElem?_getD, wR] <;> omega))
 have hcut : ((List.take (IntKind.u64.wrap ((n : Int).tmod 10 + 1)).toNat [48, 49, 50, 51, 52, 53, 54, 55, 56, 57]).drop ((n : Int).tmod 10).toNat : List UInt8) = [digit (n % 10)] := Ez (n % 10) hc (by rw [hc]; (first | omega | (simp (discharger := omega) only [wR]; omega) | (simp only [aW]; omega) | (simp (discharger := omega) [-List.getD_eq_getElem?_getD, wR] <;> omega))) (by omega)
 repeat' ((conv => whnf); first | with_reducible (first | refine go1 (fun j q h => ?_) fun h => ?_ | refine go2 ⟨rfl, rfl⟩ (fun h => ?_) fun j h => ?_ | refine go2 ?_ (fun h => ?_) fun j h => ?_ | refine goQ ?_ (fun h => ?_) fun h => ?_) | apply a9 | apply nH | apply aJ | ((first | apply al | apply go7 | apply go8 | apply gk | apply bu) <;> intro h) | with_reducible (first | refine dP.mk _ rfl ?_ | refine goB ?_ fun hc => ?_ | refine nI ?_ fun hc => ?_ | refine i5 ?_ fun hc => ?_ | refine iK ?_ fun hc => ?_ | apply jd | apply iL | refine mn ?_ fun b hb => ?_) | apply je | apply i6 | apply nJ | apply nK | apply nL | apply goN | apply nM | with_reducible refine nN ?_)
 all_goals try conv => whnf
 all_goals try (refine a8.mk ?_; try dsimp only)
 all_goals first | refine stay ?_ | trivial | omega | (simp (discharger := omega) only [wR]; omega) | (simp only [aW]; omega) | (simp (discharger := omega) [-List.getD_eq_getElem?_getD, wR] <;> omega) | skip
 . refine a7.mk [] ?_ <;> (repeat' first | trivial | rfl | exact cZ _ _ | apply ab | apply aV | apply au | apply bX | apply aE | apply cw | apply cJ | apply cK | apply bZ | apply aM)
   exact hcut.trans (by rw [dec_lt (by omega), Nat.mod_eq_of_lt (by omega)])
 . rw [show (List.drop _ (List.take _ _) : List UInt8) = _ from hcut, hd, Int.toNat_natCast]
   have := nk (n := n / 10) (by omega)
   simp; omega
 . refine a7.mk [] ?_ <;> (repeat' first | trivial | rfl | exact cZ _ _ | apply ab | apply aV | apply au | apply bX | apply aE | apply cw | apply cJ | apply cK | apply bZ | apply aM)
   rw [show (List.drop _ (List.take _ _) : List UInt8) = _ from hcut, hd, Int.toNat_natCast, rF (n := n) (by omega)]
theorem Ak : ∀ k : Nat, aa 153 (qM k)
 | 0 => fun args sg pre x r he hp => by
   unfold qM at he
   split at he <;> cases he
   omega
 | k + 1 => fun args sg pre x r he hp => by
   unfold qM at he
   split at he <;> cases he
   obtain ⟨⟨h0, h1⟩, h2⟩ := hp
   obtain ⟨m, rfl⟩ := Int.eq_ofNat_of_zero_le h0
   exact FE (Ak k) m (by omega) (by omega)
def wF : Sm := fun args σ => match args, σ with
 | [.int .u64 q], [] => some (0 ≤ q ∧ q ≤ 18446744073709551615, .str (dec q.toNat), none)
 | _, _ => none
theorem IM : aa 153 wF := by
 intro args sg pre x r he hp
 unfold wF at he
 split at he <;> cases he
 rename_i q
 exact Ak (q.toNat + 1) [.int .u64 q] [] _ _ _ rfl ⟨hp, by omega⟩
def qJ (k : Nat) : Sm := fun args σ => match args, σ with
 | [.int .i64 q], [] => some ((-9223372036854775808 ≤ q ∧ q ≤ 9223372036854775807) ∧ q.natAbs < k, .str (dS q), none)
 | _, _ => none
theorem Fx {k : Nat} (ih : aa 143 (qJ k)) (n : Int) (hn : n.natAbs < k + 1) (hb : -9223372036854775808 ≤ n ∧ n ≤ 9223372036854775807) : OK 143 [.int .i64 n] [] (.str (dS n)) none := by
 refine af (C := cx [(143, qJ k), (153, wF)]) (ah ⟨ih, IM, trivial⟩) (fn := Tryz.f143) rfl rfl rfl rfl fun _ _ => ?_
 have hq : n < 0 → n.tdiv 10 = -((n.natAbs / 10 : Nat) : Int) := fun h => by
  conv => lhs; rw [show n = -((n.natAbs : Nat) : Int) by omega]
  rw [Int.neg_tdiv]; rfl
 have hr : n < 0 → n.tmod 10 = -((n.natAbs % 10 : Nat) : Int) := fun h => by
  conv => lhs; rw [show n = -((n.natAbs : Nat) : Int) by omega]
  rw [Int.neg_tmod]; rfl
 repeat' ((conv => whnf); first | with_reducible (first | refine go1 (fun j q h => ?_) fun h => ?_ | refine go2 ⟨rfl, rfl⟩ (fun h => ?_) fun j h => ?_ | refine go2 ?_ (fun h => ?_) fun j h => ?_ | refine goQ ?_ (fun h => ?_) fun h => ?_) | apply a9 | apply nH | apply aJ | ((first | apply al | apply go7 | apply go8 | apply gk | apply bu) <;> intro h) | with_reducible (first | refine dP.mk _ rfl ?_ | refine goB ?_ fun hc => ?_ | refine nI ?_ fun hc => ?_ | refine i5 ?_ fun hc => ?_ | refine iK ?_ fun hc => ?_ | apply jd | apply iL | refine mn ?_ fun b hb => ?_) | apply je | apply i6 | apply nJ | apply nK | apply nL | apply goN | apply nM | with_reducible refine nN ?_)
 all_goals try conv => whnf
 all_goals try (refine a8.mk ?_; try dsimp only)
 all_goals first | refine stay ?_ | trivial | omega | (simp (discharger := omega) only [wR]; omega) | (simp only [aW]; omega) | (simp (discharger := omega) [-List.getD_eq_getElem?_getD, wR] <;> omega) | skip
 . refine a7.mk [] ?_ <;> (repeat' first | trivial | rfl | exact cZ _ _ | apply ab | apply aV | apply au | apply bX | apply aE | apply cw | apply cJ | apply cK | apply bZ | apply aM)
   unfold dS
   rw [if_neg (by omega)]
   congr 1; (first | omega | (simp (discharger := omega) only [wR]; omega) | (simp only [aW]; omega) | (simp (discharger := omega) [-List.getD_eq_getElem?_getD, wR] <;> omega))
 . have := nk (n := (IntKind.u64.wrap (IntKind.i64.wrap (0 - n))).toNat) (by (first | omega | (simp (discharger := omega) only [wR]; omega) | (simp only [aW]; omega) | (simp (discharger := omega) [-List.getD_eq_getElem?_getD, wR] <;> omega)))
   simp only [List.length_cons, List.length_nil]; omega
 . refine a7.mk [] ?_ <;> (repeat' first | trivial | rfl | exact cZ _ _ | apply ab | apply aV | apply au | apply bX | apply aE | apply cw | apply cJ | apply cK | apply bZ | apply aM)
   unfold dS
   rw [if_pos (by omega)]
   show 45 :: dec _ = 45 :: dec _
   congr 2; (first | omega | (simp (discharger := omega) only [wR]; omega) | (simp only [aW]; omega) | (simp (discharger := omega) [-List.getD_eq_getElem?_getD, wR] <;> omega))
 . have h1 := hq (by omega)
   have h2 := hr (by omega)
   have := nk (n := (IntKind.u64.wrap (IntKind.i64.wrap (0 - n.tmod 10))).toNat) (by (first | omega | (simp (discharger := omega) only [wR]; omega) | (simp only [aW]; omega) | (simp (discharger := omega) [-List.getD_eq_getElem?_getD, wR] <;> omega)))
   have := pg (n := IntKind.i64.wrap (n.tdiv 10)) (by rw [h1]; (first | omega | (simp (discharger := omega) only [wR]; omega) | (simp only [aW]; omega) | (simp (discharger := omega) [-List.getD_eq_getElem?_getD, wR] <;> omega))) (by rw [h1]; (first | omega | (simp (discharger := omega) only [wR]; omega) | (simp only [aW]; omega) | (simp (discharger := omega) [-List.getD_eq_getElem?_getD, wR] <;> omega)))
   omega
 . refine a7.mk [] ?_ <;> (repeat' first | trivial | rfl | exact cZ _ _ | apply ab | apply aV | apply au | apply bX | apply aE | apply cw | apply cJ | apply cK | apply bZ | apply aM)
   have h1 := hq (by omega)
   have h2 := hr (by omega)
   rw [h1, h2, show IntKind.i64.wrap (-((n.natAbs / 10 : Nat) : Int)) = -((n.natAbs / 10 : Nat) : Int) by (first | omega | (simp (discharger := omega) only [wR]; omega) | (simp only [aW]; omega) | (simp (discharger := omega) [-List.getD_eq_getElem?_getD, wR] <;> omega)),
    show (IntKind.u64.wrap (IntKind.i64.wrap (0 - -((n.natAbs % 10 : Nat) : Int)))).toNat = n.natAbs % 10 by (first | omega | (simp (discharger := omega) only [wR]; omega) | (simp only [aW]; omega) | (simp (discharger := omega) [-List.getD_eq_getElem?_getD, wR] <;> omega))]
   unfold dS
   rw [if_pos (by omega), if_pos (by omega), rF (n := n.natAbs) (by omega), dec_lt (n := n.natAbs % 10) (by omega), show (-((n.natAbs / 10 : Nat) : Int)).natAbs = n.natAbs / 10 by omega]
   simp
theorem Af : ∀ k : Nat, aa 143 (qJ k)
 | 0 => fun args sg pre x r he hp => by
   unfold qJ at he
   split at he <;> cases he
   omega
 | k + 1 => fun args sg pre x r he hp => by
   unfold qJ at he
   split at he <;> cases he
   exact Fx (Af k) _ (by omega) hp.1
def wC : Sm := fun args σ => match args, σ with
 | [.int .i64 q], [] => some (-9223372036854775808 ≤ q ∧ q ≤ 9223372036854775807, .str (dS q), none)
 | _, _ => none
theorem IL : aa 143 wC := by
 intro args sg pre x r he hp
 unfold wC at he
 split at he <;> cases he
 rename_i q
 exact Af (q.natAbs + 1) [.int .i64 q] [] _ _ _ rfl ⟨hp, by omega⟩
theorem Gn (c : Nat) (hp : True) : OK 168 ([.list true c []]) ([]) (.buf 0) (some [.buf 1 0 []]) := by
 refine cW.args (ys := [.list true 0 []]) ?_ (aq.cons (Wk.nil (.inl rfl)) (aq.refl _))
 refine af (C := cx []) (ah trivial) (fn := Tryz.f168) rfl rfl rfl rfl fun _ _ => ?_
 repeat' ((conv => whnf); apply a9)
 all_goals try conv => whnf
 all_goals try (refine a8.mk ?_; try dsimp only)
 all_goals first | refine stay ?_ | trivial | skip
 refine a7.mk [] ?_ <;> (repeat' first | trivial)
theorem Gp (l : List V) (hp : l.length ≤ 4000000000) : OK 168 ([.buf 0]) ([.buf 1 0 l]) (.buf 0) (some [.buf 1 0 l]) := by
 refine af (C := cx []) (ah trivial) (fn := Tryz.f168) rfl rfl rfl rfl fun hw hs => ?_
 repeat' ((conv => whnf); apply a9)
 all_goals try conv => whnf
 all_goals try (refine a8.mk ?_; try dsimp only)
 all_goals first | refine stay ?_ | (simp (discharger := omega) only [wR]; omega) | skip
 refine a7.mk [.swap 0 1] ?_ <;> (repeat' first | trivial | apply ab | apply aE)
 simp
def sY : Sm := fun args σ => match args, σ with
 | [.list true c []], [] => some (True, .buf 0, some [.buf 1 0 []])
 | [.buf 0], [.buf 1 0 l] => some (l.length ≤ 4000000000, .buf 0, some [.buf 1 0 l])
 | _, _ => none
theorem Ar : aa 168 sY := by
 intro args sg pre x r he hp
 unfold sY at he
 split at he <;> cases he
 . exact Gn (hp := hp) ..
 . exact Gp (hp := hp) ..
theorem Mk (a : Nat) (d : UInt8) (ds : List UInt8) : (List.replicate (a + 1) 0 ++ ds).set a d = List.replicate a 0 ++ d :: ds := by
 rw [List.replicate_succ', List.append_assoc, List.set_append_right _ _ (by simp)]
 simp
theorem Gq (l : List V) (hl : l.length ≤ 4000000000) (n : Nat) (hn : n < 18446744073709551616) : OK 169 [.buf 0, .int .u64 n] [.buf 1 0 l] (.buf 0) (some [.buf 1 0 (l ++ bl (dec n))]) := by
 refine af (C := cx []) (ah trivial) (fn := Tryz.f169) rfl rfl rfl rfl fun _ _ => ?_
 have h20 := nk hn
 refine bd.mk (Nat × Nat × List UInt8) (fun | (i, u, ds) => i + ds.length = 20 ∧ dec n = dec u ++ ds ∧ u ≤ n)
  (fun | (i, u, ds) => ⟨23, [(0, .buf 0), (1, .int .u64 u), (5, .ptr 1 0), (6, .int .i64 i)], [.buf 1 0 l, .cells (bl (List.replicate i 0 ++ ds))], []⟩)
  (fun x => x.2.1) [] (20, n, []) (by simp) ?_ (fun ⟨i, u, ds⟩ ⟨hi, hd, hu⟩ _ _ => ?_)
 . refine Go.VG.Sub.mk rfl ?_ ?_ ?_ ?_ <;> (repeat' first | trivial)
 have hlen : (dec n).length = (dec u).length + ds.length := by rw [hd]; simp
 have hp := Ew u
 have hset : (bl (List.replicate i 0 ++ ds)).set (0 + (IntKind.i64.wrap ((i : Int) - 1)).toNat * 1) (V.int .u8 (IntKind.u8.wrap (48 + IntKind.u8.wrap ((u : Int).tmod 10)))) = bl (List.replicate (i - 1) 0 ++ digit (u % 10) :: ds) := by
  rw [show (0 + (IntKind.i64.wrap ((i : Int) - 1)).toNat * 1) = i - 1 by (simp (discharger := omega) only [wR]; omega), show IntKind.u8.wrap (48 + IntKind.u8.wrap ((u : Int).tmod 10)) = ((digit (u % 10)).toNat : Int) by
   simp only [digit, UInt8.toNat_ofNat']; (simp (discharger := omega) only [wR]; omega)]
  rw [Eh, ← Mk (i - 1), show i - 1 + 1 = i by omega]
 have hq : IntKind.u64.wrap ((u : Int).tdiv 10) = ((u / 10 : Nat) : Int) := by (simp (discharger := omega) only [wR]; omega)
 repeat' ((conv => whnf); first | apply a9 | apply nH | (apply al <;> intro h) | apply goN | apply nM | with_reducible refine nN ?_)
 all_goals try conv => whnf
 all_goals try (refine a8.mk ?_; try dsimp only)
 all_goals (try rw [hset])
 all_goals (try rw [hq])
 all_goals first | refine stay ?_ | trivial | (simp (discharger := omega) only [wR]; omega) | (simp only [aW]; omega) | skip
 . rw [bN, List.length_append, List.length_replicate]; (simp (discharger := omega) only [wR]; omega)
 . rw [L1, KV]; rfl
 . rw [bN]; simp; omega
 . refine a7.mk [] ?_ <;> (repeat' first | trivial | apply ab | apply aE)
   refine congrArg _ ?_
   rw [List.drop_zero, List.take_of_length_le (by rw [bN]; simp; omega), Eg, show (IntKind.i64.wrap ((i : Int) - 1)).toNat = i - 1 by (simp (discharger := omega) only [wR]; omega), List.drop_left' (by simp), hd, dec_lt (n := u) (by omega), Nat.mod_eq_of_lt (by omega)]
   rfl
 . refine ⟨[], (i - 1, u / 10, digit (u % 10) :: ds), ⟨by simp; omega, by rw [hd, rF (n := u) (by omega)]; simp, by omega⟩, ?_, by show u / 10 < u; omega⟩
   refine Go.VG.Sub.mk rfl ?_ ?_ ?_ ?_ <;> (repeat' first | trivial | exact cZ _ _ | apply ab | apply au)
   (simp (discharger := omega) only [wR]; omega)
def sZ : Sm := fun args σ => match args, σ with
 | [.buf 0, .int .u64 q], [.buf 1 0 l] => some ((0 ≤ q ∧ q ≤ 18446744073709551615) ∧ l.length ≤ 4000000000, .buf 0, some [.buf 1 0 (l ++ bl (dec q.toNat))])
 | _, _ => none
theorem As : aa 169 sZ := by
 intro args sg pre x r he hp
 unfold sZ at he
 split at he <;> cases he
 obtain ⟨⟨h0, h1⟩, h2⟩ := hp
 obtain ⟨m, rfl⟩ := Int.eq_ofNat_of_zero_le h0
 exact Gq _ h2 m (by omega)
theorem Gr (c : Nat) (q : Int) (hp : -9223372036854775808 ≤ q ∧ q ≤ 9223372036854775807) : OK 155 ([.list true c [], .int .i64 q]) ([]) (.buf 0) (some [.buf 1 0 (bl (dS q))]) := by
 refine cW.args (ys := [.list true 0 [], .int .i64 q]) ?_ (aq.cons (Wk.nil (.inl rfl)) (aq.refl _))
 refine af (C := cx [(168, sY), (169, sZ)]) (ah ⟨Ar, As, trivial⟩) (fn := Tryz.f155) rfl rfl rfl rfl fun _ _ => ?_
 repeat' ((conv => whnf); first | apply a9 | (apply al <;> intro h))
 all_goals try conv => whnf
 all_goals try (refine a8.mk ?_; try dsimp only)
 all_goals first | refine stay ?_ | trivial | (simp (discharger := omega) [-List.getD_eq_getElem?_getD, wR] <;> omega) | skip
 . refine a7.mk [] ?_ <;> (repeat' first | trivial | apply ab | apply aE)
   unfold dS
   rw [if_pos (by assumption), show (IntKind.u64.wrap (0 - IntKind.u64.wrap q)).toNat = q.natAbs by (simp (discharger := omega) only [wR]; omega)]
   rfl
 . refine a7.mk [] ?_ <;> (repeat' first | trivial | apply ab | apply aE)
   unfold dS
   rw [if_neg (by assumption), show (IntKind.u64.wrap q).toNat = q.toNat by (simp (discharger := omega) only [wR]; omega)]
   rfl
theorem Gs (q : Int) (l : List V) (hp : (-9223372036854775808 ≤ q ∧ q ≤ 9223372036854775807) ∧ l.length ≤ 3000000000) : OK 155 ([.buf 0, .int .i64 q]) ([.buf 1 0 l]) (.buf 0) (some [.buf 1 0 (l ++ bl (dS q))]) := by
 refine af (C := cx [(168, sY), (169, sZ)]) (ah ⟨Ar, As, trivial⟩) (fn := Tryz.f155) rfl rfl rfl rfl fun hw hs => ?_
 repeat' ((conv => whnf); first | apply a9 | (apply al <;> intro h))
 all_goals try conv => whnf
 all_goals try (refine a8.mk ?_; try dsimp only)
 all_goals first | refine stay ?_ | omega | (simp (discharger := omega) only [wR]; omega) | (simp only [aW]; omega) | (simp (discharger := omega) [-List.getD_eq_getElem?_getD, wR] <;> omega) | skip
 . refine a7.mk [] ?_ <;> (repeat' first | trivial | apply ab | apply aE)
   unfold dS
   rw [if_pos (by omega), show (IntKind.u64.wrap (0 - IntKind.u64.wrap q)).toNat = q.natAbs by (simp (discharger := omega) only [wR]; omega)]
   rw [List.append_assoc]; rfl
 . refine a7.mk [] ?_ <;> (repeat' first | trivial | apply ab | apply aE)
   unfold dS
   rw [if_neg (by omega), show (IntKind.u64.wrap q).toNat = q.toNat by (simp (discharger := omega) only [wR]; omega)]
def wO : Sm := fun args σ => match args, σ with
 | [.list true c [], .int .i64 q], [] => some (-9223372036854775808 ≤ q ∧ q ≤ 9223372036854775807, .buf 0, some [.buf 1 0 (bl (dS q))])
 | [.buf 0, .int .i64 q], [.buf 1 0 l] => some ((-9223372036854775808 ≤ q ∧ q ≤ 9223372036854775807) ∧ l.length ≤ 3000000000, .buf 0, some [.buf 1 0 (l ++ bl (dS q))])
 | _, _ => none
theorem J3 : aa 155 wO := by
 intro args sg pre x r he hp
 unfold wO at he
 split at he <;> cases he
 . exact Gr (hp := hp) ..
 . exact Gs (hp := hp) ..
end Go.Proofs.YtipejldppicijaaGreatDoor
