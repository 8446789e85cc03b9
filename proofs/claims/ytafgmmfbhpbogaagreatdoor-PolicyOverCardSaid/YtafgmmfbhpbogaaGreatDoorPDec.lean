/-
  Digits to the base 10.
-/
import Derived.Test.YtafgmmfbhpbogaaGreatDoorPHex
set_option linter.unusedSimpArgs false
set_option linter.unusedVariables false
set_option maxHeartbeats 4000000
namespace Go.Proofs.YtafgmmfbhpbogaaGreatDoor
open Go Go.VG
set_option maxRecDepth 100000
def smTextU (k : Nat) : Sm := fun args σ => match args, σ with
  | [.int .u64 q], [] => some ((0 ≤ q ∧ q ≤ 18446744073709551615) ∧ q < k, .str (dec q.toNat), none)
  | _, _ => none
theorem f_TextU {k : Nat} (ih : SOK 71 (smTextU k)) (n : Nat) (hn : n < k + 1) (hb : n < 18446744073709551616) : OK 71 [.int .u64 n] [] (.str (dec n)) none := by
  refine funOK_of_vc (C := cx [(71, smTextU k)]) (good ⟨ih, trivial⟩) (fn := Tryz.f71) rfl rfl rfl rfl fun _ _ => ?_
  have hc : ((n : Int).tmod 10) = ((n % 10 : Nat) : Int) := by (first | omega | (simp (discharger := omega) only [wR]; omega) | (simp only [lnS]; omega) | (simp (discharger := omega) [-List.getD_eq_getElem?_getD, wR] <;> omega))
  have hd : IntKind.u64.wrap ((n : Int).tdiv 10) = ((n / 10 : Nat) : Int) := by (first | omega | (simp (discharger := omega) only [wR]; omega) | (simp only [lnS]; omega) | (simp (discharger := omega) [-List.getD_eq_getElem?_getD, wR] <;> omega))
  have hcut : ((List.take (IntKind.u64.wrap ((n : Int).tmod 10 + 1)).toNat [48, 49, 50, 51, 52, 53, 54, 55, 56, 57]).drop ((n : Int).tmod 10).toNat : List UInt8) = [digit (n % 10)] := digit_cut (n % 10) hc (by rw [hc]; (first | omega | (simp (discharger := omega) only [wR]; omega) | (simp only [lnS]; omega) | (simp (discharger := omega) [-List.getD_eq_getElem?_getD, wR] <;> omega))) (by omega)
  repeat' ((conv => whnf); first | with_reducible (first | refine go1 (fun j q h => ?_) fun h => ?_ | refine go2 ⟨rfl, rfl⟩ (fun h => ?_) fun j h => ?_ | refine go2 ?_ (fun h => ?_) fun j h => ?_ | refine goQ ?_ (fun h => ?_) fun h => ?_) | apply go3 | apply go4 | apply go5 | ((first | apply go6 | apply go7 | apply go8 | apply go9 | apply goA) <;> intro h) | with_reducible (first | refine IdxK.mk _ rfl ?_ | refine goB ?_ fun hc => ?_ | refine goC ?_ fun hc => ?_ | refine goD ?_ fun hc => ?_ | refine goE ?_ fun hc => ?_ | apply goF | apply goG | refine goH ?_ fun b hb => ?_) | apply goI | apply goJ | apply goK | apply goL | apply goM | apply goN | apply goO | with_reducible refine goP ?_)
  all_goals try conv => whnf
  all_goals try (refine Side.mk ?_; try dsimp only)
  all_goals first | refine stay ?_ | trivial | omega | (simp (discharger := omega) only [wR]; omega) | (simp only [lnS]; omega) | (simp (discharger := omega) [-List.getD_eq_getElem?_getD, wR] <;> omega) | skip
  · refine EndP.mk [] ?_ <;> (repeat' first | trivial | rfl | exact eqS _ _ | apply andI | apply eqA | apply eqB | apply eqC | apply eqD | apply eqE | apply eqF | apply eqG | apply eqH | apply eqI)
    exact hcut.trans (by rw [dec_lt (by omega), Nat.mod_eq_of_lt (by omega)])
  · rw [show (List.drop _ (List.take _ _) : List UInt8) = _ from hcut, hd, Int.toNat_natCast]
    have := dec_len20 (n := n / 10) (by omega)
    simp; omega
  · refine EndP.mk [] ?_ <;> (repeat' first | trivial | rfl | exact eqS _ _ | apply andI | apply eqA | apply eqB | apply eqC | apply eqD | apply eqE | apply eqF | apply eqG | apply eqH | apply eqI)
    rw [show (List.drop _ (List.take _ _) : List UInt8) = _ from hcut, hd, Int.toNat_natCast, dec_ge (n := n) (by omega)]
theorem k_TextU : ∀ k : Nat, SOK 71 (smTextU k)
  | 0 => fun args sg pre x r he hp => by
    unfold smTextU at he
    split at he <;> cases he
    omega
  | k + 1 => fun args sg pre x r he hp => by
    unfold smTextU at he
    split at he <;> cases he
    obtain ⟨⟨h0, h1⟩, h2⟩ := hp
    obtain ⟨m, rfl⟩ := Int.eq_ofNat_of_zero_le h0
    exact f_TextU (k_TextU k) m (by omega) (by omega)
def sm_TextU : Sm := fun args σ => match args, σ with
  | [.int .u64 q], [] => some (0 ≤ q ∧ q ≤ 18446744073709551615, .str (dec q.toNat), none)
  | _, _ => none
theorem k0_TextU : SOK 71 sm_TextU := by
  intro args sg pre x r he hp
  unfold sm_TextU at he
  split at he <;> cases he
  rename_i q
  exact k_TextU (q.toNat + 1) [.int .u64 q] [] _ _ _ rfl ⟨hp, by omega⟩
def smR06Text (k : Nat) : Sm := fun args σ => match args, σ with
  | [.int .i64 q], [] => some ((-9223372036854775808 ≤ q ∧ q ≤ 9223372036854775807) ∧ q.natAbs < k, .str (decI q), none)
  | _, _ => none
theorem f_R06Text {k : Nat} (ih : SOK 55 (smR06Text k)) (n : Int) (hn : n.natAbs < k + 1) (hb : -9223372036854775808 ≤ n ∧ n ≤ 9223372036854775807) : OK 55 [.int .i64 n] [] (.str (decI n)) none := by
  refine funOK_of_vc (C := cx [(55, smR06Text k), (71, sm_TextU)]) (good ⟨ih, k0_TextU, trivial⟩) (fn := Tryz.f55) rfl rfl rfl rfl fun _ _ => ?_
  have hq : n < 0 → n.tdiv 10 = -((n.natAbs / 10 : Nat) : Int) := fun h => by
    conv => lhs; rw [show n = -((n.natAbs : Nat) : Int) by omega]
    rw [Int.neg_tdiv]; rfl
  have hr : n < 0 → n.tmod 10 = -((n.natAbs % 10 : Nat) : Int) := fun h => by
    conv => lhs; rw [show n = -((n.natAbs : Nat) : Int) by omega]
    rw [Int.neg_tmod]; rfl
  repeat' ((conv => whnf); first | with_reducible (first | refine go1 (fun j q h => ?_) fun h => ?_ | refine go2 ⟨rfl, rfl⟩ (fun h => ?_) fun j h => ?_ | refine go2 ?_ (fun h => ?_) fun j h => ?_ | refine goQ ?_ (fun h => ?_) fun h => ?_) | apply go3 | apply go4 | apply go5 | ((first | apply go6 | apply go7 | apply go8 | apply go9 | apply goA) <;> intro h) | with_reducible (first | refine IdxK.mk _ rfl ?_ | refine goB ?_ fun hc => ?_ | refine goC ?_ fun hc => ?_ | refine goD ?_ fun hc => ?_ | refine goE ?_ fun hc => ?_ | apply goF | apply goG | refine goH ?_ fun b hb => ?_) | apply goI | apply goJ | apply goK | apply goL | apply goM | apply goN | apply goO | with_reducible refine goP ?_)
  all_goals try conv => whnf
  all_goals try (refine Side.mk ?_; try dsimp only)
  all_goals first | refine stay ?_ | trivial | omega | (simp (discharger := omega) only [wR]; omega) | (simp only [lnS]; omega) | (simp (discharger := omega) [-List.getD_eq_getElem?_getD, wR] <;> omega) | skip
  · refine EndP.mk [] ?_ <;> (repeat' first | trivial | rfl | exact eqS _ _ | apply andI | apply eqA | apply eqB | apply eqC | apply eqD | apply eqE | apply eqF | apply eqG | apply eqH | apply eqI)
    unfold decI
    rw [if_neg (by omega)]
    congr 1; (first | omega | (simp (discharger := omega) only [wR]; omega) | (simp only [lnS]; omega) | (simp (discharger := omega) [-List.getD_eq_getElem?_getD, wR] <;> omega))
  · have := dec_len20 (n := (IntKind.u64.wrap (IntKind.i64.wrap (0 - n))).toNat) (by (first | omega | (simp (discharger := omega) only [wR]; omega) | (simp only [lnS]; omega) | (simp (discharger := omega) [-List.getD_eq_getElem?_getD, wR] <;> omega)))
    simp only [List.length_cons, List.length_nil]; omega
  · refine EndP.mk [] ?_ <;> (repeat' first | trivial | rfl | exact eqS _ _ | apply andI | apply eqA | apply eqB | apply eqC | apply eqD | apply eqE | apply eqF | apply eqG | apply eqH | apply eqI)
    unfold decI
    rw [if_pos (by omega)]
    show 45 :: dec _ = 45 :: dec _
    congr 2; (first | omega | (simp (discharger := omega) only [wR]; omega) | (simp only [lnS]; omega) | (simp (discharger := omega) [-List.getD_eq_getElem?_getD, wR] <;> omega))
  · have h1 := hq (by omega)
    have h2 := hr (by omega)
    have := dec_len20 (n := (IntKind.u64.wrap (IntKind.i64.wrap (0 - n.tmod 10))).toNat) (by (first | omega | (simp (discharger := omega) only [wR]; omega) | (simp only [lnS]; omega) | (simp (discharger := omega) [-List.getD_eq_getElem?_getD, wR] <;> omega)))
    have := decI_len (n := IntKind.i64.wrap (n.tdiv 10)) (by rw [h1]; (first | omega | (simp (discharger := omega) only [wR]; omega) | (simp only [lnS]; omega) | (simp (discharger := omega) [-List.getD_eq_getElem?_getD, wR] <;> omega))) (by rw [h1]; (first | omega | (simp (discharger := omega) only [wR]; omega) | (simp only [lnS]; omega) | (simp (discharger := omega) [-List.getD_eq_getElem?_getD, wR] <;> omega)))
    omega
  · refine EndP.mk [] ?_ <;> (repeat' first | trivial | rfl | exact eqS _ _ | apply andI | apply eqA | apply eqB | apply eqC | apply eqD | apply eqE | apply eqF | apply eqG | apply eqH | apply eqI)
    have h1 := hq (by omega)
    have h2 := hr (by omega)
    rw [h1, h2, show IntKind.i64.wrap (-((n.natAbs / 10 : Nat) : Int)) = -((n.natAbs / 10 : Nat) : Int) by (first | omega | (simp (discharger := omega) only [wR]; omega) | (simp only [lnS]; omega) | (simp (discharger := omega) [-List.getD_eq_getElem?_getD, wR] <;> omega)),
      show (IntKind.u64.wrap (IntKind.i64.wrap (0 - -((n.natAbs % 10 : Nat) : Int)))).toNat = n.natAbs % 10 by (first | omega | (simp (discharger := omega) only [wR]; omega) | (simp only [lnS]; omega) | (simp (discharger := omega) [-List.getD_eq_getElem?_getD, wR] <;> omega))]
    unfold decI
    rw [if_pos (by omega), if_pos (by omega), dec_ge (n := n.natAbs) (by omega), dec_lt (n := n.natAbs % 10) (by omega), show (-((n.natAbs / 10 : Nat) : Int)).natAbs = n.natAbs / 10 by omega]
    simp
theorem k_R06Text : ∀ k : Nat, SOK 55 (smR06Text k)
  | 0 => fun args sg pre x r he hp => by
    unfold smR06Text at he
    split at he <;> cases he
    omega
  | k + 1 => fun args sg pre x r he hp => by
    unfold smR06Text at he
    split at he <;> cases he
    exact f_R06Text (k_R06Text k) _ (by omega) hp.1
def sm_R06Text : Sm := fun args σ => match args, σ with
  | [.int .i64 q], [] => some (-9223372036854775808 ≤ q ∧ q ≤ 9223372036854775807, .str (decI q), none)
  | _, _ => none
theorem k0_R06Text : SOK 55 sm_R06Text := by
  intro args sg pre x r he hp
  unfold sm_R06Text at he
  split at he <;> cases he
  rename_i q
  exact k_R06Text (q.natAbs + 1) [.int .i64 q] [] _ _ _ rfl ⟨hp, by omega⟩
theorem f_deciGrown_1 (c : Nat) (hp : True) : OK 48 ([.list true c []]) ([]) (.buf 0) (some [.buf 1 0 []]) := by
  refine FunOK.args (ys := [.list true 0 []]) ?_ (WkL.cons (Wk.nil (.inl rfl)) (WkL.refl _))
  refine funOK_of_vc (C := cx []) (good trivial) (fn := Tryz.f48) rfl rfl rfl rfl fun _ _ => ?_
  repeat' ((conv => whnf); apply go3)
  all_goals try conv => whnf
  all_goals try (refine Side.mk ?_; try dsimp only)
  all_goals first | refine stay ?_ | trivial | skip
  refine EndP.mk [] ?_ <;> (repeat' first | trivial)
theorem f_deciGrown_2 (l : List V) (hp : l.length ≤ 4000000000) : OK 48 ([.buf 0]) ([.buf 1 0 l]) (.buf 0) (some [.buf 1 0 l]) := by
  refine funOK_of_vc (C := cx []) (good trivial) (fn := Tryz.f48) rfl rfl rfl rfl fun hw hs => ?_
  repeat' ((conv => whnf); apply go3)
  all_goals try conv => whnf
  all_goals try (refine Side.mk ?_; try dsimp only)
  all_goals first | refine stay ?_ | (simp (discharger := omega) only [wR]; omega) | skip
  refine EndP.mk [.swap 0 1] ?_ <;> (repeat' first | trivial | apply andI | apply eqD)
  simp
def sm_deciGrown : Sm := fun args σ => match args, σ with
  | [.list true c []], [] => some (True, .buf 0, some [.buf 1 0 []])
  | [.buf 0], [.buf 1 0 l] => some (l.length ≤ 4000000000, .buf 0, some [.buf 1 0 l])
  | _, _ => none
theorem k_deciGrown : SOK 48 sm_deciGrown := by
  intro args sg pre x r he hp
  unfold sm_deciGrown at he
  split at he <;> cases he
  · exact f_deciGrown_1 (hp := hp) ..
  · exact f_deciGrown_2 (hp := hp) ..
theorem set_rep (a : Nat) (d : UInt8) (ds : List UInt8) : (List.replicate (a + 1) 0 ++ ds).set a d = List.replicate a 0 ++ d :: ds := by
  rw [List.replicate_succ', List.append_assoc, List.set_append_right _ _ (by simp)]
  simp
theorem f_deciLay (l : List V) (hl : l.length ≤ 4000000000) (n : Nat) (hn : n < 18446744073709551616) : OK 49 [.buf 0, .int .u64 n] [.buf 1 0 l] (.buf 0) (some [.buf 1 0 (l ++ bl (dec n))]) := by
  refine funOK_of_vc (C := cx []) (good trivial) (fn := Tryz.f49) rfl rfl rfl rfl fun _ _ => ?_
  have h20 := dec_len20 hn
  refine LoopP.mk (Nat × Nat × List UInt8) (fun | (i, u, ds) => i + ds.length = 20 ∧ dec n = dec u ++ ds ∧ u ≤ n)
    (fun | (i, u, ds) => ⟨23, [(0, .buf 0), (1, .int .u64 u), (5, .ptr 1 0), (6, .int .i64 i)], [.buf 1 0 l, .cells (bl (List.replicate i 0 ++ ds))], []⟩)
    (fun x => x.2.1) [] (20, n, []) (by simp) ?_ (fun ⟨i, u, ds⟩ ⟨hi, hd, hu⟩ _ _ => ?_)
  · refine Go.VG.Sub.mk rfl ?_ ?_ ?_ ?_ <;> (repeat' first | trivial)
  have hlen : (dec n).length = (dec u).length + ds.length := by rw [hd]; simp
  have hp := dec_pos u
  have hset : (bl (List.replicate i 0 ++ ds)).set (0 + (IntKind.i64.wrap ((i : Int) - 1)).toNat * 1) (V.int .u8 (IntKind.u8.wrap (48 + IntKind.u8.wrap ((u : Int).tmod 10)))) = bl (List.replicate (i - 1) 0 ++ digit (u % 10) :: ds) := by
    rw [show (0 + (IntKind.i64.wrap ((i : Int) - 1)).toNat * 1) = i - 1 by (simp (discharger := omega) only [wR]; omega), show IntKind.u8.wrap (48 + IntKind.u8.wrap ((u : Int).tmod 10)) = ((digit (u % 10)).toNat : Int) by
      simp only [digit, UInt8.toNat_ofNat']; (simp (discharger := omega) only [wR]; omega)]
    rw [bl_set, ← set_rep (i - 1), show i - 1 + 1 = i by omega]
  have hq : IntKind.u64.wrap ((u : Int).tdiv 10) = ((u / 10 : Nat) : Int) := by (simp (discharger := omega) only [wR]; omega)
  repeat' ((conv => whnf); first | apply go3 | apply go4 | (apply go6 <;> intro h) | apply goN | apply goO | with_reducible refine goP ?_)
  all_goals try conv => whnf
  all_goals try (refine Side.mk ?_; try dsimp only)
  all_goals (try rw [hset])
  all_goals (try rw [hq])
  all_goals first | refine stay ?_ | trivial | (simp (discharger := omega) only [wR]; omega) | (simp only [lnS]; omega) | skip
  · rw [bl_length, List.length_append, List.length_replicate]; (simp (discharger := omega) only [wR]; omega)
  · rw [pureL_bl, oneL_bl]; rfl
  · rw [bl_length]; simp; omega
  · refine EndP.mk [] ?_ <;> (repeat' first | trivial | apply andI | apply eqD)
    refine congrArg _ ?_
    rw [List.drop_zero, List.take_of_length_le (by rw [bl_length]; simp; omega), bl_drop, show (IntKind.i64.wrap ((i : Int) - 1)).toNat = i - 1 by (simp (discharger := omega) only [wR]; omega), List.drop_left' (by simp), hd, dec_lt (n := u) (by omega), Nat.mod_eq_of_lt (by omega)]
    rfl
  · refine ⟨[], (i - 1, u / 10, digit (u % 10) :: ds), ⟨by simp; omega, by rw [hd, dec_ge (n := u) (by omega)]; simp, by omega⟩, ?_, by show u / 10 < u; omega⟩
    refine Go.VG.Sub.mk rfl ?_ ?_ ?_ ?_ <;> (repeat' first | trivial | exact eqS _ _ | apply andI | apply eqB)
    (simp (discharger := omega) only [wR]; omega)
def sm_deciLay : Sm := fun args σ => match args, σ with
  | [.buf 0, .int .u64 q], [.buf 1 0 l] => some ((0 ≤ q ∧ q ≤ 18446744073709551615) ∧ l.length ≤ 4000000000, .buf 0, some [.buf 1 0 (l ++ bl (dec q.toNat))])
  | _, _ => none
theorem k_deciLay : SOK 49 sm_deciLay := by
  intro args sg pre x r he hp
  unfold sm_deciLay at he
  split at he <;> cases he
  obtain ⟨⟨h0, h1⟩, h2⟩ := hp
  obtain ⟨m, rfl⟩ := Int.eq_ofNat_of_zero_le h0
  exact f_deciLay _ h2 m (by omega)
theorem f_deciPut_1 (c : Nat) (q : Int) (hp : -9223372036854775808 ≤ q ∧ q ≤ 9223372036854775807) : OK 36 ([.list true c [], .int .i64 q]) ([]) (.buf 0) (some [.buf 1 0 (bl (decI q))]) := by
  refine FunOK.args (ys := [.list true 0 [], .int .i64 q]) ?_ (WkL.cons (Wk.nil (.inl rfl)) (WkL.refl _))
  refine funOK_of_vc (C := cx [(48, sm_deciGrown), (49, sm_deciLay)]) (good ⟨k_deciGrown, k_deciLay, trivial⟩) (fn := Tryz.f36) rfl rfl rfl rfl fun _ _ => ?_
  repeat' ((conv => whnf); first | apply go3 | (apply go6 <;> intro h))
  all_goals try conv => whnf
  all_goals try (refine Side.mk ?_; try dsimp only)
  all_goals first | refine stay ?_ | trivial | (simp (discharger := omega) [-List.getD_eq_getElem?_getD, wR] <;> omega) | skip
  · refine EndP.mk [] ?_ <;> (repeat' first | trivial | apply andI | apply eqD)
    unfold decI
    rw [if_pos (by assumption), show (IntKind.u64.wrap (0 - IntKind.u64.wrap q)).toNat = q.natAbs by (simp (discharger := omega) only [wR]; omega)]
    rfl
  · refine EndP.mk [] ?_ <;> (repeat' first | trivial | apply andI | apply eqD)
    unfold decI
    rw [if_neg (by assumption), show (IntKind.u64.wrap q).toNat = q.toNat by (simp (discharger := omega) only [wR]; omega)]
    rfl
theorem f_deciPut_2 (q : Int) (l : List V) (hp : (-9223372036854775808 ≤ q ∧ q ≤ 9223372036854775807) ∧ l.length ≤ 3000000000) : OK 36 ([.buf 0, .int .i64 q]) ([.buf 1 0 l]) (.buf 0) (some [.buf 1 0 (l ++ bl (decI q))]) := by
  refine funOK_of_vc (C := cx [(48, sm_deciGrown), (49, sm_deciLay)]) (good ⟨k_deciGrown, k_deciLay, trivial⟩) (fn := Tryz.f36) rfl rfl rfl rfl fun hw hs => ?_
  repeat' ((conv => whnf); first | apply go3 | (apply go6 <;> intro h))
  all_goals try conv => whnf
  all_goals try (refine Side.mk ?_; try dsimp only)
  all_goals first | refine stay ?_ | omega | (simp (discharger := omega) only [wR]; omega) | (simp only [lnS]; omega) | (simp (discharger := omega) [-List.getD_eq_getElem?_getD, wR] <;> omega) | skip
  · refine EndP.mk [] ?_ <;> (repeat' first | trivial | apply andI | apply eqD)
    unfold decI
    rw [if_pos (by omega), show (IntKind.u64.wrap (0 - IntKind.u64.wrap q)).toNat = q.natAbs by (simp (discharger := omega) only [wR]; omega)]
    rw [List.append_assoc]; rfl
  · refine EndP.mk [] ?_ <;> (repeat' first | trivial | apply andI | apply eqD)
    unfold decI
    rw [if_neg (by omega), show (IntKind.u64.wrap q).toNat = q.toNat by (simp (discharger := omega) only [wR]; omega)]
def sm_deciPut : Sm := fun args σ => match args, σ with
  | [.list true c [], .int .i64 q], [] => some (-9223372036854775808 ≤ q ∧ q ≤ 9223372036854775807, .buf 0, some [.buf 1 0 (bl (decI q))])
  | [.buf 0, .int .i64 q], [.buf 1 0 l] => some ((-9223372036854775808 ≤ q ∧ q ≤ 9223372036854775807) ∧ l.length ≤ 3000000000, .buf 0, some [.buf 1 0 (l ++ bl (decI q))])
  | _, _ => none
theorem k_deciPut : SOK 36 sm_deciPut := by
  intro args sg pre x r he hp
  unfold sm_deciPut at he
  split at he <;> cases he
  · exact f_deciPut_1 (hp := hp) ..
  · exact f_deciPut_2 (hp := hp) ..
end Go.Proofs.YtafgmmfbhpbogaaGreatDoor
