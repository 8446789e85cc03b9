/-
  Digits to the base 10; bytes of numbers.
-/
import Derived.Test.YtgbkjecepncjoaaDoorPHex
set_option linter.unusedSimpArgs false
set_option linter.unusedVariables false
namespace Go.Proofs.YtgbkjecepncjoaaDoor
open Go Go.VG
set_option maxRecDepth 100000
def smTextU (k : Nat) : Sm := fun args σ => match args, σ with
  | [.int .u64 q], [] => some ((0 ≤ q ∧ q ≤ 18446744073709551615) ∧ q < k, .str (dec q.toNat), none)
  | _, _ => none
theorem f_TextU {k : Nat} (ih : SOK 37 (smTextU k)) (n : Nat) (hn : n < k + 1) (hb : n < 18446744073709551616) : OK 37 [.int .u64 n] [] (.str (dec n)) none := by
  refine funOK_of_vc (C := cx [(37, smTextU k)]) (good ⟨ih, trivial⟩) (fn := Tryd.f37) rfl rfl rfl rfl fun _ _ => ?_
  have hc : ((n : Int).tmod 10) = ((n % 10 : Nat) : Int) := by (first | omega | (simp (discharger := omega) only [wu8, wu16, wu32, wu64, wi32, wi64, Int.tdiv_eq_ediv_of_nonneg, Int.tmod_eq_emod_of_nonneg]; omega) | (simp only [List.length_append, List.length_cons, List.length_nil, bl_length, List.length_take, List.length_drop]; omega) | (simp (discharger := omega) [-List.getD_eq_getElem?_getD, wu8, wu16, wu32, wu64, wi32, wi64, Int.tdiv_eq_ediv_of_nonneg, Int.tmod_eq_emod_of_nonneg]; done) | (simp (discharger := omega) [-List.getD_eq_getElem?_getD, wu8, wu16, wu32, wu64, wi32, wi64, Int.tdiv_eq_ediv_of_nonneg, Int.tmod_eq_emod_of_nonneg]; omega))
  have hd : IntKind.u64.wrap ((n : Int).tdiv 10) = ((n / 10 : Nat) : Int) := by (first | omega | (simp (discharger := omega) only [wu8, wu16, wu32, wu64, wi32, wi64, Int.tdiv_eq_ediv_of_nonneg, Int.tmod_eq_emod_of_nonneg]; omega) | (simp only [List.length_append, List.length_cons, List.length_nil, bl_length, List.length_take, List.length_drop]; omega) | (simp (discharger := omega) [-List.getD_eq_getElem?_getD, wu8, wu16, wu32, wu64, wi32, wi64, Int.tdiv_eq_ediv_of_nonneg, Int.tmod_eq_emod_of_nonneg]; done) | (simp (discharger := omega) [-List.getD_eq_getElem?_getD, wu8, wu16, wu32, wu64, wi32, wi64, Int.tdiv_eq_ediv_of_nonneg, Int.tmod_eq_emod_of_nonneg]; omega))
  have hcut : ((List.take (IntKind.u64.wrap ((n : Int).tmod 10 + 1)).toNat [48, 49, 50, 51, 52, 53, 54, 55, 56, 57]).drop ((n : Int).tmod 10).toNat : List UInt8) = [digit (n % 10)] := digit_cut (n % 10) hc (by rw [hc]; (first | omega | (simp (discharger := omega) only [wu8, wu16, wu32, wu64, wi32, wi64, Int.tdiv_eq_ediv_of_nonneg, Int.tmod_eq_emod_of_nonneg]; omega) | (simp only [List.length_append, List.length_cons, List.length_nil, bl_length, List.length_take, List.length_drop]; omega) | (simp (discharger := omega) [-List.getD_eq_getElem?_getD, wu8, wu16, wu32, wu64, wi32, wi64, Int.tdiv_eq_ediv_of_nonneg, Int.tmod_eq_emod_of_nonneg]; done) | (simp (discharger := omega) [-List.getD_eq_getElem?_getD, wu8, wu16, wu32, wu64, wi32, wi64, Int.tdiv_eq_ediv_of_nonneg, Int.tmod_eq_emod_of_nonneg]; omega))) (by omega)
  repeat' (
      conv => whnf
      first
      | refine req_i ?_ ?_
      | refine when_i ?_ ?_
      | refine brn_not ?_
      | refine brn_dec (fun h => ?_) (fun h => ?_)
      | refine brn_int (fun h => ?_) (fun h => ?_)
      | refine brn_intne (fun h => ?_) (fun h => ?_)
      | refine brn_str (fun h => ?_) (fun h => ?_)
      | refine brn_i (fun h => ?_) (fun h => ?_)
      | with_reducible refine IdxK.mk _ rfl ?_
      | with_reducible refine idx_blI ?_ (fun hc => ?_)
      | with_reducible refine idx_bl ?_ (fun hc => ?_)
      | with_reducible refine idx_strI ?_ (fun hc => ?_)
      | with_reducible refine idx_str ?_ (fun hc => ?_)
      | with_reducible refine idx_mapDI ?_ ?_
      | with_reducible refine idx_mapD ?_ ?_
      | with_reducible refine idx_at ?_ (fun b hb => ?_)
      | refine ex_bl ?_
      | refine ex_b1 ?_ ?_
      | refine ex_b2 ?_ ?_ ?_
      | refine ex_b3 ?_ ?_ ?_ ?_
      | refine ex_b4 ?_ ?_ ?_ ?_ ?_
      | refine optK_setL ?_ ?_
      | refine optK_takeL ?_ ?_
      | with_reducible refine forceDs_i ?_
      )
  all_goals try (conv => whnf)
  all_goals try (refine Side.mk ?_; try dsimp only)
  all_goals first
    | (show LoopP _ _ _ _; skip)
    | (show EndP _ _ _ _ _ _; skip)
    | (show ∃ _, _; skip)
    | (first
          | trivial
          | omega
          | (simp (discharger := omega) only [wu8, wu16, wu32, wu64, wi32, wi64, Int.tdiv_eq_ediv_of_nonneg, Int.tmod_eq_emod_of_nonneg]; omega)
          | (simp only [List.length_append, List.length_cons, List.length_nil, bl_length, List.length_take, List.length_drop]; omega)
          | (simp (discharger := omega) [-List.getD_eq_getElem?_getD, wu8, wu16, wu32, wu64, wi32, wi64, Int.tdiv_eq_ediv_of_nonneg, Int.tmod_eq_emod_of_nonneg]; done)
          | (simp (discharger := omega) [-List.getD_eq_getElem?_getD, wu8, wu16, wu32, wu64, wi32, wi64, Int.tdiv_eq_ediv_of_nonneg, Int.tmod_eq_emod_of_nonneg]; omega))
    | skip
  · refine EndP.mk [] ?_ <;> (repeat' (first | trivial | rfl | exact scopedL_bl _ _ | refine And.intro ?_ ?_ | refine congrArg V.str ?_ | refine congrArg (V.int _) ?_ | refine congrArg V.bool ?_ | refine congrArg (O.buf _ _) ?_ | refine congrArg O.cells ?_ | refine congrArg (V.list _ _) ?_ | refine congrArg V.agg ?_ | refine congrArg V.tuple ?_ | refine cons_eq ?_ ?_))
    exact hcut.trans (by rw [dec_lt (by omega), Nat.mod_eq_of_lt (by omega)])
  · rw [show (List.drop _ (List.take _ _) : List UInt8) = _ from hcut, hd, Int.toNat_natCast]
    have := dec_len20 (n := n / 10) (by omega)
    simp; omega
  · refine EndP.mk [] ?_ <;> (repeat' (first | trivial | rfl | exact scopedL_bl _ _ | refine And.intro ?_ ?_ | refine congrArg V.str ?_ | refine congrArg (V.int _) ?_ | refine congrArg V.bool ?_ | refine congrArg (O.buf _ _) ?_ | refine congrArg O.cells ?_ | refine congrArg (V.list _ _) ?_ | refine congrArg V.agg ?_ | refine congrArg V.tuple ?_ | refine cons_eq ?_ ?_))
    rw [show (List.drop _ (List.take _ _) : List UInt8) = _ from hcut, hd, Int.toNat_natCast, dec_ge (n := n) (by omega)]
theorem k_TextU : ∀ k : Nat, SOK 37 (smTextU k)
  | 0 => fun args sg pre x r he hp => by
    unfold smTextU at he
    split at he <;> cases he
    omega
  | k + 1 => fun args sg pre x r he hp => by
    unfold smTextU at he
    split at he <;> cases he
    obtain ⟨⟨h0, h1⟩, h2⟩ := hp
    obtain ⟨m, rfl⟩ := Int.eq_ofNat_of_zero_le h0
    exact f_TextU (k_TextU k) m (by omega) (by omega)
def sm_TextU : Sm := fun args σ => match args, σ with
  | [.int .u64 q], [] => some (0 ≤ q ∧ q ≤ 18446744073709551615, .str (dec q.toNat), none)
  | _, _ => none
theorem k0_TextU : SOK 37 sm_TextU := by
  intro args sg pre x r he hp
  unfold sm_TextU at he
  split at he <;> cases he
  rename_i q
  exact k_TextU (q.toNat + 1) [.int .u64 q] [] _ _ _ rfl ⟨hp, by omega⟩

def smR06Text (k : Nat) : Sm := fun args σ => match args, σ with
  | [.int .i64 q], [] => some ((-9223372036854775808 ≤ q ∧ q ≤ 9223372036854775807) ∧ q.natAbs < k, .str (decI q), none)
  | _, _ => none
theorem f_R06Text {k : Nat} (ih : SOK 27 (smR06Text k)) (n : Int) (hn : n.natAbs < k + 1) (hb : -9223372036854775808 ≤ n ∧ n ≤ 9223372036854775807) : OK 27 [.int .i64 n] [] (.str (decI n)) none := by
  refine funOK_of_vc (C := cx [(27, smR06Text k), (37, sm_TextU)]) (good ⟨ih, k0_TextU, trivial⟩) (fn := Tryd.f27) rfl rfl rfl rfl fun _ _ => ?_
  have hq : n < 0 → n.tdiv 10 = -((n.natAbs / 10 : Nat) : Int) := fun h => by
    conv => lhs; rw [show n = -((n.natAbs : Nat) : Int) by omega]
    rw [Int.neg_tdiv]; rfl
  have hr : n < 0 → n.tmod 10 = -((n.natAbs % 10 : Nat) : Int) := fun h => by
    conv => lhs; rw [show n = -((n.natAbs : Nat) : Int) by omega]
    rw [Int.neg_tmod]; rfl
  repeat' (
      conv => whnf
      first
      | refine req_i ?_ ?_
      | refine when_i ?_ ?_
      | refine brn_not ?_
      | refine brn_dec (fun h => ?_) (fun h => ?_)
      | refine brn_int (fun h => ?_) (fun h => ?_)
      | refine brn_intne (fun h => ?_) (fun h => ?_)
      | refine brn_str (fun h => ?_) (fun h => ?_)
      | refine brn_i (fun h => ?_) (fun h => ?_)
      | with_reducible refine IdxK.mk _ rfl ?_
      | with_reducible refine idx_blI ?_ (fun hc => ?_)
      | with_reducible refine idx_bl ?_ (fun hc => ?_)
      | with_reducible refine idx_strI ?_ (fun hc => ?_)
      | with_reducible refine idx_str ?_ (fun hc => ?_)
      | with_reducible refine idx_mapDI ?_ ?_
      | with_reducible refine idx_mapD ?_ ?_
      | with_reducible refine idx_at ?_ (fun b hb => ?_)
      | refine ex_bl ?_
      | refine ex_b1 ?_ ?_
      | refine ex_b2 ?_ ?_ ?_
      | refine ex_b3 ?_ ?_ ?_ ?_
      | refine ex_b4 ?_ ?_ ?_ ?_ ?_
      | refine optK_setL ?_ ?_
      | refine optK_takeL ?_ ?_
      | with_reducible refine forceDs_i ?_
      )
  all_goals try (conv => whnf)
  all_goals try (refine Side.mk ?_; try dsimp only)
  all_goals first
    | (show LoopP _ _ _ _; skip)
    | (show EndP _ _ _ _ _ _; skip)
    | (show ∃ _, _; skip)
    | (first
          | trivial
          | omega
          | (simp (discharger := omega) only [wu8, wu16, wu32, wu64, wi32, wi64, Int.tdiv_eq_ediv_of_nonneg, Int.tmod_eq_emod_of_nonneg]; omega)
          | (simp only [List.length_append, List.length_cons, List.length_nil, bl_length, List.length_take, List.length_drop]; omega)
          | (simp (discharger := omega) [-List.getD_eq_getElem?_getD, wu8, wu16, wu32, wu64, wi32, wi64, Int.tdiv_eq_ediv_of_nonneg, Int.tmod_eq_emod_of_nonneg]; done)
          | (simp (discharger := omega) [-List.getD_eq_getElem?_getD, wu8, wu16, wu32, wu64, wi32, wi64, Int.tdiv_eq_ediv_of_nonneg, Int.tmod_eq_emod_of_nonneg]; omega))
    | skip
  · refine EndP.mk [] ?_ <;> (repeat' (first | trivial | rfl | exact scopedL_bl _ _ | refine And.intro ?_ ?_ | refine congrArg V.str ?_ | refine congrArg (V.int _) ?_ | refine congrArg V.bool ?_ | refine congrArg (O.buf _ _) ?_ | refine congrArg O.cells ?_ | refine congrArg (V.list _ _) ?_ | refine congrArg V.agg ?_ | refine congrArg V.tuple ?_ | refine cons_eq ?_ ?_))
    unfold decI
    rw [if_neg (by omega)]
    congr 1; (first | omega | (simp (discharger := omega) only [wu8, wu16, wu32, wu64, wi32, wi64, Int.tdiv_eq_ediv_of_nonneg, Int.tmod_eq_emod_of_nonneg]; omega) | (simp only [List.length_append, List.length_cons, List.length_nil, bl_length, List.length_take, List.length_drop]; omega) | (simp (discharger := omega) [-List.getD_eq_getElem?_getD, wu8, wu16, wu32, wu64, wi32, wi64, Int.tdiv_eq_ediv_of_nonneg, Int.tmod_eq_emod_of_nonneg]; done) | (simp (discharger := omega) [-List.getD_eq_getElem?_getD, wu8, wu16, wu32, wu64, wi32, wi64, Int.tdiv_eq_ediv_of_nonneg, Int.tmod_eq_emod_of_nonneg]; omega))
  · have := dec_len20 (n := (IntKind.u64.wrap (IntKind.i64.wrap (0 - n))).toNat) (by (first | omega | (simp (discharger := omega) only [wu8, wu16, wu32, wu64, wi32, wi64, Int.tdiv_eq_ediv_of_nonneg, Int.tmod_eq_emod_of_nonneg]; omega) | (simp only [List.length_append, List.length_cons, List.length_nil, bl_length, List.length_take, List.length_drop]; omega) | (simp (discharger := omega) [-List.getD_eq_getElem?_getD, wu8, wu16, wu32, wu64, wi32, wi64, Int.tdiv_eq_ediv_of_nonneg, Int.tmod_eq_emod_of_nonneg]; done) | (simp (discharger := omega) [-List.getD_eq_getElem?_getD, wu8, wu16, wu32, wu64, wi32, wi64, Int.tdiv_eq_ediv_of_nonneg, Int.tmod_eq_emod_of_nonneg]; omega)))
    simp only [List.length_cons, List.length_nil]; omega
  · refine EndP.mk [] ?_ <;> (repeat' (first | trivial | rfl | exact scopedL_bl _ _ | refine And.intro ?_ ?_ | refine congrArg V.str ?_ | refine congrArg (V.int _) ?_ | refine congrArg V.bool ?_ | refine congrArg (O.buf _ _) ?_ | refine congrArg O.cells ?_ | refine congrArg (V.list _ _) ?_ | refine congrArg V.agg ?_ | refine congrArg V.tuple ?_ | refine cons_eq ?_ ?_))
    unfold decI
    rw [if_pos (by omega)]
    show 45 :: dec _ = 45 :: dec _
    congr 2; (first | omega | (simp (discharger := omega) only [wu8, wu16, wu32, wu64, wi32, wi64, Int.tdiv_eq_ediv_of_nonneg, Int.tmod_eq_emod_of_nonneg]; omega) | (simp only [List.length_append, List.length_cons, List.length_nil, bl_length, List.length_take, List.length_drop]; omega) | (simp (discharger := omega) [-List.getD_eq_getElem?_getD, wu8, wu16, wu32, wu64, wi32, wi64, Int.tdiv_eq_ediv_of_nonneg, Int.tmod_eq_emod_of_nonneg]; done) | (simp (discharger := omega) [-List.getD_eq_getElem?_getD, wu8, wu16, wu32, wu64, wi32, wi64, Int.tdiv_eq_ediv_of_nonneg, Int.tmod_eq_emod_of_nonneg]; omega))
  · have h1 := hq (by omega)
    have h2 := hr (by omega)
    have := dec_len20 (n := (IntKind.u64.wrap (IntKind.i64.wrap (0 - n.tmod 10))).toNat) (by (first | omega | (simp (discharger := omega) only [wu8, wu16, wu32, wu64, wi32, wi64, Int.tdiv_eq_ediv_of_nonneg, Int.tmod_eq_emod_of_nonneg]; omega) | (simp only [List.length_append, List.length_cons, List.length_nil, bl_length, List.length_take, List.length_drop]; omega) | (simp (discharger := omega) [-List.getD_eq_getElem?_getD, wu8, wu16, wu32, wu64, wi32, wi64, Int.tdiv_eq_ediv_of_nonneg, Int.tmod_eq_emod_of_nonneg]; done) | (simp (discharger := omega) [-List.getD_eq_getElem?_getD, wu8, wu16, wu32, wu64, wi32, wi64, Int.tdiv_eq_ediv_of_nonneg, Int.tmod_eq_emod_of_nonneg]; omega)))
    have := decI_len (n := IntKind.i64.wrap (n.tdiv 10)) (by rw [h1]; (first | omega | (simp (discharger := omega) only [wu8, wu16, wu32, wu64, wi32, wi64, Int.tdiv_eq_ediv_of_nonneg, Int.tmod_eq_emod_of_nonneg]; omega) | (simp only [List.length_append, List.length_cons, List.length_nil, bl_length, List.length_take, List.length_drop]; omega) | (simp (discharger := omega) [-List.getD_eq_getElem?_getD, wu8, wu16, wu32, wu64, wi32, wi64, Int.tdiv_eq_ediv_of_nonneg, Int.tmod_eq_emod_of_nonneg]; done) | (simp (discharger := omega) [-List.getD_eq_getElem?_getD, wu8, wu16, wu32, wu64, wi32, wi64, Int.tdiv_eq_ediv_of_nonneg, Int.tmod_eq_emod_of_nonneg]; omega))) (by rw [h1]; (first | omega | (simp (discharger := omega) only [wu8, wu16, wu32, wu64, wi32, wi64, Int.tdiv_eq_ediv_of_nonneg, Int.tmod_eq_emod_of_nonneg]; omega) | (simp only [List.length_append, List.length_cons, List.length_nil, bl_length, List.length_take, List.length_drop]; omega) | (simp (discharger := omega) [-List.getD_eq_getElem?_getD, wu8, wu16, wu32, wu64, wi32, wi64, Int.tdiv_eq_ediv_of_nonneg, Int.tmod_eq_emod_of_nonneg]; done) | (simp (discharger := omega) [-List.getD_eq_getElem?_getD, wu8, wu16, wu32, wu64, wi32, wi64, Int.tdiv_eq_ediv_of_nonneg, Int.tmod_eq_emod_of_nonneg]; omega)))
    omega
  · refine EndP.mk [] ?_ <;> (repeat' (first | trivial | rfl | exact scopedL_bl _ _ | refine And.intro ?_ ?_ | refine congrArg V.str ?_ | refine congrArg (V.int _) ?_ | refine congrArg V.bool ?_ | refine congrArg (O.buf _ _) ?_ | refine congrArg O.cells ?_ | refine congrArg (V.list _ _) ?_ | refine congrArg V.agg ?_ | refine congrArg V.tuple ?_ | refine cons_eq ?_ ?_))
    have h1 := hq (by omega)
    have h2 := hr (by omega)
    rw [h1, h2, show IntKind.i64.wrap (-((n.natAbs / 10 : Nat) : Int)) = -((n.natAbs / 10 : Nat) : Int) by (first | omega | (simp (discharger := omega) only [wu8, wu16, wu32, wu64, wi32, wi64, Int.tdiv_eq_ediv_of_nonneg, Int.tmod_eq_emod_of_nonneg]; omega) | (simp only [List.length_append, List.length_cons, List.length_nil, bl_length, List.length_take, List.length_drop]; omega) | (simp (discharger := omega) [-List.getD_eq_getElem?_getD, wu8, wu16, wu32, wu64, wi32, wi64, Int.tdiv_eq_ediv_of_nonneg, Int.tmod_eq_emod_of_nonneg]; done) | (simp (discharger := omega) [-List.getD_eq_getElem?_getD, wu8, wu16, wu32, wu64, wi32, wi64, Int.tdiv_eq_ediv_of_nonneg, Int.tmod_eq_emod_of_nonneg]; omega)),
      show (IntKind.u64.wrap (IntKind.i64.wrap (0 - -((n.natAbs % 10 : Nat) : Int)))).toNat = n.natAbs % 10 by (first | omega | (simp (discharger := omega) only [wu8, wu16, wu32, wu64, wi32, wi64, Int.tdiv_eq_ediv_of_nonneg, Int.tmod_eq_emod_of_nonneg]; omega) | (simp only [List.length_append, List.length_cons, List.length_nil, bl_length, List.length_take, List.length_drop]; omega) | (simp (discharger := omega) [-List.getD_eq_getElem?_getD, wu8, wu16, wu32, wu64, wi32, wi64, Int.tdiv_eq_ediv_of_nonneg, Int.tmod_eq_emod_of_nonneg]; done) | (simp (discharger := omega) [-List.getD_eq_getElem?_getD, wu8, wu16, wu32, wu64, wi32, wi64, Int.tdiv_eq_ediv_of_nonneg, Int.tmod_eq_emod_of_nonneg]; omega))]
    unfold decI
    rw [if_pos (by omega), if_pos (by omega), dec_ge (n := n.natAbs) (by omega), dec_lt (n := n.natAbs % 10) (by omega), show (-((n.natAbs / 10 : Nat) : Int)).natAbs = n.natAbs / 10 by omega]
    simp
theorem k_R06Text : ∀ k : Nat, SOK 27 (smR06Text k)
  | 0 => fun args sg pre x r he hp => by
    unfold smR06Text at he
    split at he <;> cases he
    omega
  | k + 1 => fun args sg pre x r he hp => by
    unfold smR06Text at he
    split at he <;> cases he
    exact f_R06Text (k_R06Text k) _ (by omega) hp.1
def sm_R06Text : Sm := fun args σ => match args, σ with
  | [.int .i64 q], [] => some (-9223372036854775808 ≤ q ∧ q ≤ 9223372036854775807, .str (decI q), none)
  | _, _ => none
theorem k0_R06Text : SOK 27 sm_R06Text := by
  intro args sg pre x r he hp
  unfold sm_R06Text at he
  split at he <;> cases he
  rename_i q
  exact k_R06Text (q.natAbs + 1) [.int .i64 q] [] _ _ _ rfl ⟨hp, by omega⟩

theorem f_wordGrown (m : Int) (hm : 0 ≤ m ∧ m ≤ 1000) : OK 43 [.list true 0 [], .int .i64 m] [] (.buf 0) (some [.buf 1 0 []]) := by
  refine funOK_of_vc (C := cx []) (good trivial) (fn := Tryd.f43) rfl rfl rfl rfl fun _ _ => ?_
  repeat' (
      conv => whnf
      first
      | refine req_i ?_ ?_
      | refine when_i ?_ ?_
      | refine brn_not ?_
      | refine brn_dec (fun h => ?_) (fun h => ?_)
      | refine brn_int (fun h => ?_) (fun h => ?_)
      | refine brn_intne (fun h => ?_) (fun h => ?_)
      | refine brn_str (fun h => ?_) (fun h => ?_)
      | refine brn_i (fun h => ?_) (fun h => ?_)
      | with_reducible refine IdxK.mk _ rfl ?_
      | with_reducible refine idx_blI ?_ (fun hc => ?_)
      | with_reducible refine idx_bl ?_ (fun hc => ?_)
      | with_reducible refine idx_strI ?_ (fun hc => ?_)
      | with_reducible refine idx_str ?_ (fun hc => ?_)
      | with_reducible refine idx_mapDI ?_ ?_
      | with_reducible refine idx_mapD ?_ ?_
      | with_reducible refine idx_at ?_ (fun b hb => ?_)
      | refine ex_bl ?_
      | refine ex_b1 ?_ ?_
      | refine ex_b2 ?_ ?_ ?_
      | refine ex_b3 ?_ ?_ ?_ ?_
      | refine ex_b4 ?_ ?_ ?_ ?_ ?_
      | refine optK_setL ?_ ?_
      | refine optK_takeL ?_ ?_
      | with_reducible refine forceDs_i ?_
      )
  all_goals try (conv => whnf)
  all_goals try (refine Side.mk ?_; try dsimp only)
  all_goals first
    | (show LoopP _ _ _ _; skip)
    | (show EndP _ _ _ _ _ _; skip)
    | (show ∃ _, _; skip)
    | (first
          | trivial
          | omega
          | (simp (discharger := omega) only [wu8, wu16, wu32, wu64, wi32, wi64, Int.tdiv_eq_ediv_of_nonneg, Int.tmod_eq_emod_of_nonneg]; omega)
          | (simp only [List.length_append, List.length_cons, List.length_nil, bl_length, List.length_take, List.length_drop]; omega)
          | (simp (discharger := omega) [-List.getD_eq_getElem?_getD, wu8, wu16, wu32, wu64, wi32, wi64, Int.tdiv_eq_ediv_of_nonneg, Int.tmod_eq_emod_of_nonneg]; done)
          | (simp (discharger := omega) [-List.getD_eq_getElem?_getD, wu8, wu16, wu32, wu64, wi32, wi64, Int.tdiv_eq_ediv_of_nonneg, Int.tmod_eq_emod_of_nonneg]; omega))
    | skip
  refine EndP.mk [] ?_ <;> (repeat' (first | trivial | rfl | exact scopedL_bl _ _ | refine And.intro ?_ ?_ | refine congrArg V.str ?_ | refine congrArg (V.int _) ?_ | refine congrArg V.bool ?_ | refine congrArg (O.buf _ _) ?_ | refine congrArg O.cells ?_ | refine congrArg (V.list _ _) ?_ | refine congrArg V.agg ?_ | refine congrArg V.tuple ?_ | refine cons_eq ?_ ?_))
def sm_wordGrown : Sm := fun args σ => match args, σ with
  | [.list true _ [], .int .i64 m], [] => some (0 ≤ m ∧ m ≤ 1000, .buf 0, some [.buf 1 0 []])
  | _, _ => none
theorem k_wordGrown : SOK 43 sm_wordGrown := by
  intro args sg pre x r he hp
  unfold sm_wordGrown at he
  split at he <;> cases he
  exact (f_wordGrown _ hp).args (WkL.cons (Wk.nil (.inl rfl)) (WkL.refl _))
theorem f_deciGrown : OK 38 [.list true 0 []] [] (.buf 0) (some [.buf 1 0 []]) := by
  refine funOK_of_vc (C := cx []) (good trivial) (fn := Tryd.f38) rfl rfl rfl rfl fun _ _ => ?_
  repeat' (
      conv => whnf
      first
      | refine req_i ?_ ?_
      | refine when_i ?_ ?_
      | refine brn_not ?_
      | refine brn_dec (fun h => ?_) (fun h => ?_)
      | refine brn_int (fun h => ?_) (fun h => ?_)
      | refine brn_intne (fun h => ?_) (fun h => ?_)
      | refine brn_str (fun h => ?_) (fun h => ?_)
      | refine brn_i (fun h => ?_) (fun h => ?_)
      | with_reducible refine IdxK.mk _ rfl ?_
      | with_reducible refine idx_blI ?_ (fun hc => ?_)
      | with_reducible refine idx_bl ?_ (fun hc => ?_)
      | with_reducible refine idx_strI ?_ (fun hc => ?_)
      | with_reducible refine idx_str ?_ (fun hc => ?_)
      | with_reducible refine idx_mapDI ?_ ?_
      | with_reducible refine idx_mapD ?_ ?_
      | with_reducible refine idx_at ?_ (fun b hb => ?_)
      | refine ex_bl ?_
      | refine ex_b1 ?_ ?_
      | refine ex_b2 ?_ ?_ ?_
      | refine ex_b3 ?_ ?_ ?_ ?_
      | refine ex_b4 ?_ ?_ ?_ ?_ ?_
      | refine optK_setL ?_ ?_
      | refine optK_takeL ?_ ?_
      | with_reducible refine forceDs_i ?_
      )
  all_goals try (conv => whnf)
  all_goals try (refine Side.mk ?_; try dsimp only)
  all_goals first
    | (show LoopP _ _ _ _; skip)
    | (show EndP _ _ _ _ _ _; skip)
    | (show ∃ _, _; skip)
    | (first
          | trivial
          | omega
          | (simp (discharger := omega) only [wu8, wu16, wu32, wu64, wi32, wi64, Int.tdiv_eq_ediv_of_nonneg, Int.tmod_eq_emod_of_nonneg]; omega)
          | (simp only [List.length_append, List.length_cons, List.length_nil, bl_length, List.length_take, List.length_drop]; omega)
          | (simp (discharger := omega) [-List.getD_eq_getElem?_getD, wu8, wu16, wu32, wu64, wi32, wi64, Int.tdiv_eq_ediv_of_nonneg, Int.tmod_eq_emod_of_nonneg]; done)
          | (simp (discharger := omega) [-List.getD_eq_getElem?_getD, wu8, wu16, wu32, wu64, wi32, wi64, Int.tdiv_eq_ediv_of_nonneg, Int.tmod_eq_emod_of_nonneg]; omega))
    | skip
  refine EndP.mk [] ?_ <;> (repeat' (first | trivial | rfl | exact scopedL_bl _ _ | refine And.intro ?_ ?_ | refine congrArg V.str ?_ | refine congrArg (V.int _) ?_ | refine congrArg V.bool ?_ | refine congrArg (O.buf _ _) ?_ | refine congrArg O.cells ?_ | refine congrArg (V.list _ _) ?_ | refine congrArg V.agg ?_ | refine congrArg V.tuple ?_ | refine cons_eq ?_ ?_))
def sm_deciGrown : Sm := fun args σ => match args, σ with
  | [.list true _ []], [] => some (True, .buf 0, some [.buf 1 0 []])
  | _, _ => none
theorem k_deciGrown : SOK 38 sm_deciGrown := by
  intro args sg pre x r he hp
  unfold sm_deciGrown at he
  split at he <;> cases he
  exact f_deciGrown.args (WkL.cons (Wk.nil (.inl rfl)) (WkL.refl _))

theorem set_rep (a : Nat) (d : UInt8) (ds : List UInt8) : (List.replicate (a + 1) 0 ++ ds).set a d = List.replicate a 0 ++ d :: ds := by
  rw [List.replicate_succ', List.append_assoc, List.set_append_right _ _ (by simp)]
  simp
theorem f_deciLay (l : List V) (hl : l.length ≤ 4000000000) (n : Nat) (hn : n < 18446744073709551616) : OK 39 [.buf 0, .int .u64 n] [.buf 1 0 l] (.buf 0) (some [.buf 1 0 (l ++ bl (dec n))]) := by
  refine funOK_of_vc (C := cx []) (good trivial) (fn := Tryd.f39) rfl rfl rfl rfl fun _ _ => ?_
  have h20 := dec_len20 hn
  refine LoopP.mk (Nat × Nat × List UInt8) (fun | (i, u, ds) => i + ds.length = 20 ∧ dec n = dec u ++ ds ∧ u ≤ n)
    (fun | (i, u, ds) => ⟨23, [(0, .buf 0), (1, .int .u64 u), (5, .ptr 1 0), (6, .int .i64 i)], [.buf 1 0 l, .cells (bl (List.replicate i 0 ++ ds))], []⟩)
    (fun x => x.2.1) [] (20, n, []) (by simp) ?_ (fun ⟨i, u, ds⟩ ⟨hi, hd, hu⟩ _ _ => ?_)
  · refine Go.VG.Sub.mk rfl ?_ ?_ ?_ ?_ <;> (repeat' (first | trivial | rfl | exact scopedL_bl _ _ | refine And.intro ?_ ?_ | refine congrArg V.str ?_ | refine congrArg (V.int _) ?_ | refine congrArg V.bool ?_ | refine congrArg (O.buf _ _) ?_ | refine congrArg O.cells ?_ | refine congrArg (V.list _ _) ?_ | refine congrArg V.agg ?_ | refine congrArg V.tuple ?_ | refine cons_eq ?_ ?_))
  have hlen : (dec n).length = (dec u).length + ds.length := by rw [hd]; simp
  have hp := dec_pos u
  have hset : (bl (List.replicate i 0 ++ ds)).set (0 + (IntKind.i64.wrap ((i : Int) - 1)).toNat * 1) (V.int .u8 (IntKind.u8.wrap (48 + IntKind.u8.wrap ((u : Int).tmod 10)))) = bl (List.replicate (i - 1) 0 ++ digit (u % 10) :: ds) := by
    rw [show (0 + (IntKind.i64.wrap ((i : Int) - 1)).toNat * 1) = i - 1 by (first | omega | (simp (discharger := omega) only [wu8, wu16, wu32, wu64, wi32, wi64, Int.tdiv_eq_ediv_of_nonneg, Int.tmod_eq_emod_of_nonneg]; omega) | (simp only [List.length_append, List.length_cons, List.length_nil, bl_length, List.length_take, List.length_drop]; omega) | (simp (discharger := omega) [-List.getD_eq_getElem?_getD, wu8, wu16, wu32, wu64, wi32, wi64, Int.tdiv_eq_ediv_of_nonneg, Int.tmod_eq_emod_of_nonneg]; done) | (simp (discharger := omega) [-List.getD_eq_getElem?_getD, wu8, wu16, wu32, wu64, wi32, wi64, Int.tdiv_eq_ediv_of_nonneg, Int.tmod_eq_emod_of_nonneg]; omega)), show IntKind.u8.wrap (48 + IntKind.u8.wrap ((u : Int).tmod 10)) = ((digit (u % 10)).toNat : Int) by
      simp only [digit, UInt8.toNat_ofNat']; (first | omega | (simp (discharger := omega) only [wu8, wu16, wu32, wu64, wi32, wi64, Int.tdiv_eq_ediv_of_nonneg, Int.tmod_eq_emod_of_nonneg]; omega) | (simp only [List.length_append, List.length_cons, List.length_nil, bl_length, List.length_take, List.length_drop]; omega) | (simp (discharger := omega) [-List.getD_eq_getElem?_getD, wu8, wu16, wu32, wu64, wi32, wi64, Int.tdiv_eq_ediv_of_nonneg, Int.tmod_eq_emod_of_nonneg]; done) | (simp (discharger := omega) [-List.getD_eq_getElem?_getD, wu8, wu16, wu32, wu64, wi32, wi64, Int.tdiv_eq_ediv_of_nonneg, Int.tmod_eq_emod_of_nonneg]; omega))]
    rw [bl_set, ← set_rep (i - 1), show i - 1 + 1 = i by omega]
  have hq : IntKind.u64.wrap ((u : Int).tdiv 10) = ((u / 10 : Nat) : Int) := by (first | omega | (simp (discharger := omega) only [wu8, wu16, wu32, wu64, wi32, wi64, Int.tdiv_eq_ediv_of_nonneg, Int.tmod_eq_emod_of_nonneg]; omega) | (simp only [List.length_append, List.length_cons, List.length_nil, bl_length, List.length_take, List.length_drop]; omega) | (simp (discharger := omega) [-List.getD_eq_getElem?_getD, wu8, wu16, wu32, wu64, wi32, wi64, Int.tdiv_eq_ediv_of_nonneg, Int.tmod_eq_emod_of_nonneg]; done) | (simp (discharger := omega) [-List.getD_eq_getElem?_getD, wu8, wu16, wu32, wu64, wi32, wi64, Int.tdiv_eq_ediv_of_nonneg, Int.tmod_eq_emod_of_nonneg]; omega))
  repeat' (
      conv => whnf
      first
      | refine req_i ?_ ?_
      | refine when_i ?_ ?_
      | refine brn_not ?_
      | refine brn_dec (fun h => ?_) (fun h => ?_)
      | refine brn_int (fun h => ?_) (fun h => ?_)
      | refine brn_intne (fun h => ?_) (fun h => ?_)
      | refine brn_str (fun h => ?_) (fun h => ?_)
      | refine brn_i (fun h => ?_) (fun h => ?_)
      | with_reducible refine IdxK.mk _ rfl ?_
      | with_reducible refine idx_blI ?_ (fun hc => ?_)
      | with_reducible refine idx_bl ?_ (fun hc => ?_)
      | with_reducible refine idx_strI ?_ (fun hc => ?_)
      | with_reducible refine idx_str ?_ (fun hc => ?_)
      | with_reducible refine idx_mapDI ?_ ?_
      | with_reducible refine idx_mapD ?_ ?_
      | with_reducible refine idx_at ?_ (fun b hb => ?_)
      | refine ex_bl ?_
      | refine ex_b1 ?_ ?_
      | refine ex_b2 ?_ ?_ ?_
      | refine ex_b3 ?_ ?_ ?_ ?_
      | refine ex_b4 ?_ ?_ ?_ ?_ ?_
      | refine optK_setL ?_ ?_
      | refine optK_takeL ?_ ?_
      | with_reducible refine forceDs_i ?_
      )
  all_goals try (conv => whnf)
  all_goals try (refine Side.mk ?_; try dsimp only)
  all_goals (try rw [hset])
  all_goals (try rw [hq])
  all_goals first
    | (show LoopP _ _ _ _; skip)
    | (show EndP _ _ _ _ _ _; skip)
    | (show ∃ _, _; skip)
    | (first
          | trivial
          | omega
          | (simp (discharger := omega) only [wu8, wu16, wu32, wu64, wi32, wi64, Int.tdiv_eq_ediv_of_nonneg, Int.tmod_eq_emod_of_nonneg]; omega)
          | (simp only [List.length_append, List.length_cons, List.length_nil, bl_length, List.length_take, List.length_drop]; omega)
          | (simp (discharger := omega) [-List.getD_eq_getElem?_getD, wu8, wu16, wu32, wu64, wi32, wi64, Int.tdiv_eq_ediv_of_nonneg, Int.tmod_eq_emod_of_nonneg]; done)
          | (simp (discharger := omega) [-List.getD_eq_getElem?_getD, wu8, wu16, wu32, wu64, wi32, wi64, Int.tdiv_eq_ediv_of_nonneg, Int.tmod_eq_emod_of_nonneg]; omega))
    | skip
  · rw [bl_length, List.length_append, List.length_replicate]; (first | omega | (simp (discharger := omega) only [wu8, wu16, wu32, wu64, wi32, wi64, Int.tdiv_eq_ediv_of_nonneg, Int.tmod_eq_emod_of_nonneg]; omega) | (simp only [List.length_append, List.length_cons, List.length_nil, bl_length, List.length_take, List.length_drop]; omega) | (simp (discharger := omega) [-List.getD_eq_getElem?_getD, wu8, wu16, wu32, wu64, wi32, wi64, Int.tdiv_eq_ediv_of_nonneg, Int.tmod_eq_emod_of_nonneg]; done) | (simp (discharger := omega) [-List.getD_eq_getElem?_getD, wu8, wu16, wu32, wu64, wi32, wi64, Int.tdiv_eq_ediv_of_nonneg, Int.tmod_eq_emod_of_nonneg]; omega))
  · rw [pureL_bl, oneL_bl]; rfl
  · rw [bl_length]; simp; omega
  · refine EndP.mk [] ?_ <;> (repeat' (first | trivial | rfl | exact scopedL_bl _ _ | refine And.intro ?_ ?_ | refine congrArg V.str ?_ | refine congrArg (V.int _) ?_ | refine congrArg V.bool ?_ | refine congrArg (O.buf _ _) ?_ | refine congrArg O.cells ?_ | refine congrArg (V.list _ _) ?_ | refine congrArg V.agg ?_ | refine congrArg V.tuple ?_ | refine cons_eq ?_ ?_))
    refine congrArg _ ?_
    rw [List.drop_zero, List.take_of_length_le (by rw [bl_length]; simp; omega), bl_drop, show (IntKind.i64.wrap ((i : Int) - 1)).toNat = i - 1 by (first | omega | (simp (discharger := omega) only [wu8, wu16, wu32, wu64, wi32, wi64, Int.tdiv_eq_ediv_of_nonneg, Int.tmod_eq_emod_of_nonneg]; omega) | (simp only [List.length_append, List.length_cons, List.length_nil, bl_length, List.length_take, List.length_drop]; omega) | (simp (discharger := omega) [-List.getD_eq_getElem?_getD, wu8, wu16, wu32, wu64, wi32, wi64, Int.tdiv_eq_ediv_of_nonneg, Int.tmod_eq_emod_of_nonneg]; done) | (simp (discharger := omega) [-List.getD_eq_getElem?_getD, wu8, wu16, wu32, wu64, wi32, wi64, Int.tdiv_eq_ediv_of_nonneg, Int.tmod_eq_emod_of_nonneg]; omega)), List.drop_left' (by simp), hd, dec_lt (n := u) (by omega), Nat.mod_eq_of_lt (by omega)]
    rfl
  · refine ⟨[], (i - 1, u / 10, digit (u % 10) :: ds), ⟨by simp; omega, by rw [hd, dec_ge (n := u) (by omega)]; simp, by omega⟩, ?_, by show u / 10 < u; omega⟩
    refine Go.VG.Sub.mk rfl ?_ ?_ ?_ ?_ <;> (repeat' (first | trivial | rfl | exact scopedL_bl _ _ | refine And.intro ?_ ?_ | refine congrArg V.str ?_ | refine congrArg (V.int _) ?_ | refine congrArg V.bool ?_ | refine congrArg (O.buf _ _) ?_ | refine congrArg O.cells ?_ | refine congrArg (V.list _ _) ?_ | refine congrArg V.agg ?_ | refine congrArg V.tuple ?_ | refine cons_eq ?_ ?_))
    (first | omega | (simp (discharger := omega) only [wu8, wu16, wu32, wu64, wi32, wi64, Int.tdiv_eq_ediv_of_nonneg, Int.tmod_eq_emod_of_nonneg]; omega) | (simp only [List.length_append, List.length_cons, List.length_nil, bl_length, List.length_take, List.length_drop]; omega) | (simp (discharger := omega) [-List.getD_eq_getElem?_getD, wu8, wu16, wu32, wu64, wi32, wi64, Int.tdiv_eq_ediv_of_nonneg, Int.tmod_eq_emod_of_nonneg]; done) | (simp (discharger := omega) [-List.getD_eq_getElem?_getD, wu8, wu16, wu32, wu64, wi32, wi64, Int.tdiv_eq_ediv_of_nonneg, Int.tmod_eq_emod_of_nonneg]; omega))
def sm_deciLay : Sm := fun args σ => match args, σ with
  | [.buf 0, .int .u64 q], [.buf 1 0 l] => some ((0 ≤ q ∧ q ≤ 18446744073709551615) ∧ l.length ≤ 4000000000, .buf 0, some [.buf 1 0 (l ++ bl (dec q.toNat))])
  | _, _ => none
theorem k_deciLay : SOK 39 sm_deciLay := by
  intro args sg pre x r he hp
  unfold sm_deciLay at he
  split at he <;> cases he
  obtain ⟨⟨h0, h1⟩, h2⟩ := hp
  obtain ⟨m, rfl⟩ := Int.eq_ofNat_of_zero_le h0
  exact f_deciLay _ h2 m (by omega)
theorem f_deciPut (n : Int) (hb : -9223372036854775808 ≤ n ∧ n ≤ 9223372036854775807) : OK 30 [.list true 0 [], .int .i64 n] [] (.buf 0) (some [.buf 1 0 (bl (decI n))]) := by
  refine funOK_of_vc (C := cx [(38, sm_deciGrown), (39, sm_deciLay)]) (good ⟨k_deciGrown, k_deciLay, trivial⟩) (fn := Tryd.f30) rfl rfl rfl rfl fun _ _ => ?_
  repeat' (
      conv => whnf
      first
      | refine req_i ?_ ?_
      | refine when_i ?_ ?_
      | refine brn_not ?_
      | refine brn_dec (fun h => ?_) (fun h => ?_)
      | refine brn_int (fun h => ?_) (fun h => ?_)
      | refine brn_intne (fun h => ?_) (fun h => ?_)
      | refine brn_str (fun h => ?_) (fun h => ?_)
      | refine brn_i (fun h => ?_) (fun h => ?_)
      | with_reducible refine IdxK.mk _ rfl ?_
      | with_reducible refine idx_blI ?_ (fun hc => ?_)
      | with_reducible refine idx_bl ?_ (fun hc => ?_)
      | with_reducible refine idx_strI ?_ (fun hc => ?_)
      | with_reducible refine idx_str ?_ (fun hc => ?_)
      | with_reducible refine idx_mapDI ?_ ?_
      | with_reducible refine idx_mapD ?_ ?_
      | with_reducible refine idx_at ?_ (fun b hb => ?_)
      | refine ex_bl ?_
      | refine ex_b1 ?_ ?_
      | refine ex_b2 ?_ ?_ ?_
      | refine ex_b3 ?_ ?_ ?_ ?_
      | refine ex_b4 ?_ ?_ ?_ ?_ ?_
      | refine optK_setL ?_ ?_
      | refine optK_takeL ?_ ?_
      | with_reducible refine forceDs_i ?_
      )
  all_goals try (conv => whnf)
  all_goals try (refine Side.mk ?_; try dsimp only)
  all_goals first
    | (show LoopP _ _ _ _; skip)
    | (show EndP _ _ _ _ _ _; skip)
    | (show ∃ _, _; skip)
    | (first
          | trivial
          | omega
          | (simp (discharger := omega) only [wu8, wu16, wu32, wu64, wi32, wi64, Int.tdiv_eq_ediv_of_nonneg, Int.tmod_eq_emod_of_nonneg]; omega)
          | (simp only [List.length_append, List.length_cons, List.length_nil, bl_length, List.length_take, List.length_drop]; omega)
          | (simp (discharger := omega) [-List.getD_eq_getElem?_getD, wu8, wu16, wu32, wu64, wi32, wi64, Int.tdiv_eq_ediv_of_nonneg, Int.tmod_eq_emod_of_nonneg]; done)
          | (simp (discharger := omega) [-List.getD_eq_getElem?_getD, wu8, wu16, wu32, wu64, wi32, wi64, Int.tdiv_eq_ediv_of_nonneg, Int.tmod_eq_emod_of_nonneg]; omega))
    | skip
  · refine EndP.mk [] ?_ <;> (repeat' (first | trivial | rfl | exact scopedL_bl _ _ | refine And.intro ?_ ?_ | refine congrArg V.str ?_ | refine congrArg (V.int _) ?_ | refine congrArg V.bool ?_ | refine congrArg (O.buf _ _) ?_ | refine congrArg O.cells ?_ | refine congrArg (V.list _ _) ?_ | refine congrArg V.agg ?_ | refine congrArg V.tuple ?_ | refine cons_eq ?_ ?_))
    unfold decI
    rw [if_pos (by assumption), show (IntKind.u64.wrap (0 - IntKind.u64.wrap n)).toNat = n.natAbs by (first | omega | (simp (discharger := omega) only [wu8, wu16, wu32, wu64, wi32, wi64, Int.tdiv_eq_ediv_of_nonneg, Int.tmod_eq_emod_of_nonneg]; omega) | (simp only [List.length_append, List.length_cons, List.length_nil, bl_length, List.length_take, List.length_drop]; omega) | (simp (discharger := omega) [-List.getD_eq_getElem?_getD, wu8, wu16, wu32, wu64, wi32, wi64, Int.tdiv_eq_ediv_of_nonneg, Int.tmod_eq_emod_of_nonneg]; done) | (simp (discharger := omega) [-List.getD_eq_getElem?_getD, wu8, wu16, wu32, wu64, wi32, wi64, Int.tdiv_eq_ediv_of_nonneg, Int.tmod_eq_emod_of_nonneg]; omega))]
    rfl
  · refine EndP.mk [] ?_ <;> (repeat' (first | trivial | rfl | exact scopedL_bl _ _ | refine And.intro ?_ ?_ | refine congrArg V.str ?_ | refine congrArg (V.int _) ?_ | refine congrArg V.bool ?_ | refine congrArg (O.buf _ _) ?_ | refine congrArg O.cells ?_ | refine congrArg (V.list _ _) ?_ | refine congrArg V.agg ?_ | refine congrArg V.tuple ?_ | refine cons_eq ?_ ?_))
    unfold decI
    rw [if_neg (by assumption), show (IntKind.u64.wrap n).toNat = n.toNat by (first | omega | (simp (discharger := omega) only [wu8, wu16, wu32, wu64, wi32, wi64, Int.tdiv_eq_ediv_of_nonneg, Int.tmod_eq_emod_of_nonneg]; omega) | (simp only [List.length_append, List.length_cons, List.length_nil, bl_length, List.length_take, List.length_drop]; omega) | (simp (discharger := omega) [-List.getD_eq_getElem?_getD, wu8, wu16, wu32, wu64, wi32, wi64, Int.tdiv_eq_ediv_of_nonneg, Int.tmod_eq_emod_of_nonneg]; done) | (simp (discharger := omega) [-List.getD_eq_getElem?_getD, wu8, wu16, wu32, wu64, wi32, wi64, Int.tdiv_eq_ediv_of_nonneg, Int.tmod_eq_emod_of_nonneg]; omega))]
    rfl
def sm_deciPut : Sm := fun args σ => match args, σ with
  | [.list true _ [], .int .i64 q], [] => some (-9223372036854775808 ≤ q ∧ q ≤ 9223372036854775807, .buf 0, some [.buf 1 0 (bl (decI q))])
  | _, _ => none
theorem k_deciPut : SOK 30 sm_deciPut := by
  intro args sg pre x r he hp
  unfold sm_deciPut at he
  split at he <;> cases he
  exact (f_deciPut _ hp).args (WkL.cons (Wk.nil (.inl rfl)) (WkL.refl _))

theorem be_next (k u : Nat) : be (k + 1) u = be k (u / 256) ++ [.ofNat (u % 256)] := rfl
theorem f_High (k u : Nat) (hk : k ≤ 1000) (hu : u < 18446744073709551616) : OK 28 [.int .u64 u, .int .i64 k] [] (.str (be k u)) none := by
  refine funOK_of_vc (C := cx []) (good trivial) (fn := Tryd.f28) rfl rfl rfl rfl fun _ _ => ?_
  refine LoopP.mk (Nat × Nat × List UInt8) (fun | (i, w, s) => i ≤ k ∧ s.length = i ∧ be k u = be (k - i) w ++ s ∧ w < 18446744073709551616)
    (fun | (i, w, s) => ⟨22, [(0, .int .u64 w), (1, .int .i64 k), (5, .str s), (6, .int .i64 i)], [], []⟩)
    (fun x => k - x.1) [] (0, u, []) (by simp; omega) ?_ (fun ⟨i, w, s⟩ ⟨hi, hs, he, hw⟩ _ _ => ?_)
  · refine Go.VG.Sub.mk rfl ?_ ?_ ?_ ?_ <;> (repeat' (first | trivial | rfl | exact scopedL_bl _ _ | refine And.intro ?_ ?_ | refine congrArg V.str ?_ | refine congrArg (V.int _) ?_ | refine congrArg V.bool ?_ | refine congrArg (O.buf _ _) ?_ | refine congrArg O.cells ?_ | refine congrArg (V.list _ _) ?_ | refine congrArg V.agg ?_ | refine congrArg V.tuple ?_ | refine cons_eq ?_ ?_))
  have hm : IntKind.u8.wrap ((w : Int).tmod 256) = ((w % 256 : Nat) : Int) := by (first | omega | (simp (discharger := omega) only [wu8, wu16, wu32, wu64, wi32, wi64, Int.tdiv_eq_ediv_of_nonneg, Int.tmod_eq_emod_of_nonneg]; omega) | (simp only [List.length_append, List.length_cons, List.length_nil, bl_length, List.length_take, List.length_drop]; omega) | (simp (discharger := omega) [-List.getD_eq_getElem?_getD, wu8, wu16, wu32, wu64, wi32, wi64, Int.tdiv_eq_ediv_of_nonneg, Int.tmod_eq_emod_of_nonneg]; done) | (simp (discharger := omega) [-List.getD_eq_getElem?_getD, wu8, wu16, wu32, wu64, wi32, wi64, Int.tdiv_eq_ediv_of_nonneg, Int.tmod_eq_emod_of_nonneg]; omega))
  have hd : IntKind.u64.wrap ((w : Int).tdiv 256) = ((w / 256 : Nat) : Int) := by (first | omega | (simp (discharger := omega) only [wu8, wu16, wu32, wu64, wi32, wi64, Int.tdiv_eq_ediv_of_nonneg, Int.tmod_eq_emod_of_nonneg]; omega) | (simp only [List.length_append, List.length_cons, List.length_nil, bl_length, List.length_take, List.length_drop]; omega) | (simp (discharger := omega) [-List.getD_eq_getElem?_getD, wu8, wu16, wu32, wu64, wi32, wi64, Int.tdiv_eq_ediv_of_nonneg, Int.tmod_eq_emod_of_nonneg]; done) | (simp (discharger := omega) [-List.getD_eq_getElem?_getD, wu8, wu16, wu32, wu64, wi32, wi64, Int.tdiv_eq_ediv_of_nonneg, Int.tmod_eq_emod_of_nonneg]; omega))
  repeat' (
      conv => whnf
      first
      | refine req_i ?_ ?_
      | refine when_i ?_ ?_
      | refine brn_not ?_
      | refine brn_dec (fun h => ?_) (fun h => ?_)
      | refine brn_int (fun h => ?_) (fun h => ?_)
      | refine brn_intne (fun h => ?_) (fun h => ?_)
      | refine brn_str (fun h => ?_) (fun h => ?_)
      | refine brn_i (fun h => ?_) (fun h => ?_)
      | with_reducible refine IdxK.mk _ rfl ?_
      | with_reducible refine idx_blI ?_ (fun hc => ?_)
      | with_reducible refine idx_bl ?_ (fun hc => ?_)
      | with_reducible refine idx_strI ?_ (fun hc => ?_)
      | with_reducible refine idx_str ?_ (fun hc => ?_)
      | with_reducible refine idx_mapDI ?_ ?_
      | with_reducible refine idx_mapD ?_ ?_
      | with_reducible refine idx_at ?_ (fun b hb => ?_)
      | refine ex_bl ?_
      | refine ex_b1 ?_ ?_
      | refine ex_b2 ?_ ?_ ?_
      | refine ex_b3 ?_ ?_ ?_ ?_
      | refine ex_b4 ?_ ?_ ?_ ?_ ?_
      | refine optK_setL ?_ ?_
      | refine optK_takeL ?_ ?_
      | with_reducible refine forceDs_i ?_
      )
  all_goals try (conv => whnf)
  all_goals try (refine Side.mk ?_; try dsimp only)
  all_goals first
    | (show LoopP _ _ _ _; skip)
    | (show EndP _ _ _ _ _ _; skip)
    | (show ∃ _, _; skip)
    | (first
          | trivial
          | omega
          | (simp (discharger := omega) only [wu8, wu16, wu32, wu64, wi32, wi64, Int.tdiv_eq_ediv_of_nonneg, Int.tmod_eq_emod_of_nonneg]; omega)
          | (simp only [List.length_append, List.length_cons, List.length_nil, bl_length, List.length_take, List.length_drop]; omega)
          | (simp (discharger := omega) [-List.getD_eq_getElem?_getD, wu8, wu16, wu32, wu64, wi32, wi64, Int.tdiv_eq_ediv_of_nonneg, Int.tmod_eq_emod_of_nonneg]; done)
          | (simp (discharger := omega) [-List.getD_eq_getElem?_getD, wu8, wu16, wu32, wu64, wi32, wi64, Int.tdiv_eq_ediv_of_nonneg, Int.tmod_eq_emod_of_nonneg]; omega))
    | skip
  · have hk1 : k - i = k - (i + 1) + 1 := by omega
    rw [hk1, be_next] at he
    refine ⟨[], (i + 1, w / 256, .ofNat (w % 256) :: s), ⟨by omega, by simp [hs], by rw [he]; simp, by omega⟩, ?_, by show k - (i + 1) < k - i; omega⟩
    refine Go.VG.Sub.mk rfl ?_ ?_ ?_ ?_ <;> (repeat' (first | trivial | rfl | exact scopedL_bl _ _ | refine And.intro ?_ ?_ | refine congrArg V.str ?_ | refine congrArg (V.int _) ?_ | refine congrArg V.bool ?_ | refine congrArg (O.buf _ _) ?_ | refine congrArg O.cells ?_ | refine congrArg (V.list _ _) ?_ | refine congrArg V.agg ?_ | refine congrArg V.tuple ?_ | refine cons_eq ?_ ?_))
    · rw [hm]; rfl
    · (first | omega | (simp (discharger := omega) only [wu8, wu16, wu32, wu64, wi32, wi64, Int.tdiv_eq_ediv_of_nonneg, Int.tmod_eq_emod_of_nonneg]; omega) | (simp only [List.length_append, List.length_cons, List.length_nil, bl_length, List.length_take, List.length_drop]; omega) | (simp (discharger := omega) [-List.getD_eq_getElem?_getD, wu8, wu16, wu32, wu64, wi32, wi64, Int.tdiv_eq_ediv_of_nonneg, Int.tmod_eq_emod_of_nonneg]; done) | (simp (discharger := omega) [-List.getD_eq_getElem?_getD, wu8, wu16, wu32, wu64, wi32, wi64, Int.tdiv_eq_ediv_of_nonneg, Int.tmod_eq_emod_of_nonneg]; omega))
  · refine EndP.mk [] ?_ <;> (repeat' (first | trivial | rfl | exact scopedL_bl _ _ | refine And.intro ?_ ?_ | refine congrArg V.str ?_ | refine congrArg (V.int _) ?_ | refine congrArg V.bool ?_ | refine congrArg (O.buf _ _) ?_ | refine congrArg O.cells ?_ | refine congrArg (V.list _ _) ?_ | refine congrArg V.agg ?_ | refine congrArg V.tuple ?_ | refine cons_eq ?_ ?_))
    rw [he, show k - i = 0 by omega]; rfl
def sm_High : Sm := fun args σ => match args, σ with
  | [.int .u64 u, .int .i64 k], [] => some ((0 ≤ u ∧ u ≤ 18446744073709551615) ∧ 0 ≤ k ∧ k ≤ 1000, .str (be k.toNat u.toNat), none)
  | _, _ => none
theorem k_High : SOK 28 sm_High := by
  intro args sg pre x r he hp
  unfold sm_High at he
  split at he <;> cases he
  obtain ⟨⟨h0, h1⟩, h2, h3⟩ := hp
  obtain ⟨m, rfl⟩ := Int.eq_ofNat_of_zero_le h0
  obtain ⟨k, rfl⟩ := Int.eq_ofNat_of_zero_le h2
  exact f_High k m (by omega) (by omega)
theorem be8 (u : Nat) : be 8 u = [.ofNat (u / 72057594037927936 % 256), .ofNat (u / 281474976710656 % 256), .ofNat (u / 1099511627776 % 256), .ofNat (u / 4294967296 % 256), .ofNat (u / 16777216 % 256), .ofNat (u / 65536 % 256), .ofNat (u / 256 % 256), .ofNat (u % 256)] := by
  simp [be, Nat.div_div_eq_div_mul]
theorem shr_byte (u b : Nat) (hb : b ≤ 64) : IntKind.u8.wrap (iShr .u64 u b) = ((UInt8.ofNat (u / 2 ^ b % 256)).toNat : Int) := by
  rw [iShr_nat, show min b IntKind.u64.bits = b from Nat.min_eq_left hb, wu8, UInt8.toNat_ofNat']
  omega
set_option maxHeartbeats 2000000 in
theorem f_High64 (u : Nat) (hu : u < 18446744073709551616) : OK 40 [.list true 0 [], .int .u64 u] [] (.buf 0) (some [.buf 1 0 (bl (be 8 u))]) := by
  refine funOK_of_vc (C := cx [(43, sm_wordGrown)]) (good ⟨k_wordGrown, trivial⟩) (fn := Tryd.f40) rfl rfl rfl rfl fun _ _ => ?_
  repeat' (
      conv => whnf
      first
      | refine req_i ?_ ?_
      | refine when_i ?_ ?_
      | refine brn_not ?_
      | refine brn_dec (fun h => ?_) (fun h => ?_)
      | refine brn_int (fun h => ?_) (fun h => ?_)
      | refine brn_intne (fun h => ?_) (fun h => ?_)
      | refine brn_str (fun h => ?_) (fun h => ?_)
      | refine brn_i (fun h => ?_) (fun h => ?_)
      | with_reducible refine IdxK.mk _ rfl ?_
      | with_reducible refine idx_blI ?_ (fun hc => ?_)
      | with_reducible refine idx_bl ?_ (fun hc => ?_)
      | with_reducible refine idx_strI ?_ (fun hc => ?_)
      | with_reducible refine idx_str ?_ (fun hc => ?_)
      | with_reducible refine idx_mapDI ?_ ?_
      | with_reducible refine idx_mapD ?_ ?_
      | with_reducible refine idx_at ?_ (fun b hb => ?_)
      | refine ex_bl ?_
      | refine ex_b1 ?_ ?_
      | refine ex_b2 ?_ ?_ ?_
      | refine ex_b3 ?_ ?_ ?_ ?_
      | refine ex_b4 ?_ ?_ ?_ ?_ ?_
      | refine optK_setL ?_ ?_
      | refine optK_takeL ?_ ?_
      | with_reducible refine forceDs_i ?_
      )
  all_goals try (conv => whnf)
  all_goals try (refine Side.mk ?_; try dsimp only)
  all_goals first
    | (show LoopP _ _ _ _; skip)
    | (show EndP _ _ _ _ _ _; skip)
    | (show ∃ _, _; skip)
    | (first
          | trivial
          | omega
          | (simp (discharger := omega) only [wu8, wu16, wu32, wu64, wi32, wi64, Int.tdiv_eq_ediv_of_nonneg, Int.tmod_eq_emod_of_nonneg]; omega)
          | (simp only [List.length_append, List.length_cons, List.length_nil, bl_length, List.length_take, List.length_drop]; omega)
          | (simp (discharger := omega) [-List.getD_eq_getElem?_getD, wu8, wu16, wu32, wu64, wi32, wi64, Int.tdiv_eq_ediv_of_nonneg, Int.tmod_eq_emod_of_nonneg]; done)
          | (simp (discharger := omega) [-List.getD_eq_getElem?_getD, wu8, wu16, wu32, wu64, wi32, wi64, Int.tdiv_eq_ediv_of_nonneg, Int.tmod_eq_emod_of_nonneg]; omega))
    | skip
  refine LoopP.mk Nat (fun i => i ≤ 8) (fun i => ⟨23, [(1, .int .u64 u), (5, .buf 0), (9, .int .i64 i)], [.buf 1 0 (bl ((be 8 u).take i))], [0]⟩)
    (fun i => 8 - i) [] 0 (by omega) ?_ (fun i hi _ _ => ?_)
  · refine Go.VG.Sub.mk rfl ?_ ?_ ?_ ?_ <;> (repeat' (first | trivial | rfl | exact scopedL_bl _ _ | refine And.intro ?_ ?_ | refine congrArg V.str ?_ | refine congrArg (V.int _) ?_ | refine congrArg V.bool ?_ | refine congrArg (O.buf _ _) ?_ | refine congrArg O.cells ?_ | refine congrArg (V.list _ _) ?_ | refine congrArg V.agg ?_ | refine congrArg V.tuple ?_ | refine cons_eq ?_ ?_))
  have hx : i = 0 ∨ i = 1 ∨ i = 2 ∨ i = 3 ∨ i = 4 ∨ i = 5 ∨ i = 6 ∨ i = 7 ∨ i = 8 := by omega
  have e0 : IntKind.u8.wrap (iShr .u64 u 56) = _ := shr_byte u 56 (by omega)
  have e1 : IntKind.u8.wrap (iShr .u64 u 48) = _ := shr_byte u 48 (by omega)
  have e2 : IntKind.u8.wrap (iShr .u64 u 40) = _ := shr_byte u 40 (by omega)
  have e3 : IntKind.u8.wrap (iShr .u64 u 32) = _ := shr_byte u 32 (by omega)
  have e4 : IntKind.u8.wrap (iShr .u64 u 24) = _ := shr_byte u 24 (by omega)
  have e5 : IntKind.u8.wrap (iShr .u64 u 16) = _ := shr_byte u 16 (by omega)
  have e6 : IntKind.u8.wrap (iShr .u64 u 8) = _ := shr_byte u 8 (by omega)
  have e7 : IntKind.u8.wrap (iShr .u64 u 0) = _ := shr_byte u 0 (by omega)
  rcases hx with h | h | h | h | h | h | h | h | h <;> subst h
  · repeat' (
        conv => whnf
        first
        | refine req_i ?_ ?_
        | refine when_i ?_ ?_
        | refine brn_not ?_
        | refine brn_dec (fun h => ?_) (fun h => ?_)
        | refine brn_int (fun h => ?_) (fun h => ?_)
        | refine brn_intne (fun h => ?_) (fun h => ?_)
        | refine brn_str (fun h => ?_) (fun h => ?_)
        | refine brn_i (fun h => ?_) (fun h => ?_)
        | with_reducible refine IdxK.mk _ rfl ?_
        | with_reducible refine idx_blI ?_ (fun hc => ?_)
        | with_reducible refine idx_bl ?_ (fun hc => ?_)
        | with_reducible refine idx_strI ?_ (fun hc => ?_)
        | with_reducible refine idx_str ?_ (fun hc => ?_)
        | with_reducible refine idx_mapDI ?_ ?_
        | with_reducible refine idx_mapD ?_ ?_
        | with_reducible refine idx_at ?_ (fun b hb => ?_)
        | refine ex_bl ?_
        | refine ex_b1 ?_ ?_
        | refine ex_b2 ?_ ?_ ?_
        | refine ex_b3 ?_ ?_ ?_ ?_
        | refine ex_b4 ?_ ?_ ?_ ?_ ?_
        | refine optK_setL ?_ ?_
        | refine optK_takeL ?_ ?_
        | with_reducible refine forceDs_i ?_
        )
    all_goals try (conv => whnf)
    all_goals try (refine Side.mk ?_; try dsimp only)
    all_goals first
      | (show LoopP _ _ _ _; skip)
      | (show EndP _ _ _ _ _ _; skip)
      | (show ∃ _, _; skip)
      | (first
            | trivial
            | omega
            | (simp (discharger := omega) only [wu8, wu16, wu32, wu64, wi32, wi64, Int.tdiv_eq_ediv_of_nonneg, Int.tmod_eq_emod_of_nonneg]; omega)
            | (simp only [List.length_append, List.length_cons, List.length_nil, bl_length, List.length_take, List.length_drop]; omega)
            | (simp (discharger := omega) [-List.getD_eq_getElem?_getD, wu8, wu16, wu32, wu64, wi32, wi64, Int.tdiv_eq_ediv_of_nonneg, Int.tmod_eq_emod_of_nonneg]; done)
            | (simp (discharger := omega) [-List.getD_eq_getElem?_getD, wu8, wu16, wu32, wu64, wi32, wi64, Int.tdiv_eq_ediv_of_nonneg, Int.tmod_eq_emod_of_nonneg]; omega))
      | skip
    · refine ⟨[], 1, by omega, ?_, by omega⟩
      refine Go.VG.Sub.mk rfl ?_ ?_ ?_ ?_ <;> (repeat' (first | trivial | rfl | exact scopedL_bl _ _ | refine And.intro ?_ ?_ | refine congrArg V.str ?_ | refine congrArg (V.int _) ?_ | refine congrArg V.bool ?_ | refine congrArg (O.buf _ _) ?_ | refine congrArg O.cells ?_ | refine congrArg (V.list _ _) ?_ | refine congrArg V.agg ?_ | refine congrArg V.tuple ?_ | refine cons_eq ?_ ?_))
      rw [e0] <;> simp [Nat.div_div_eq_div_mul]
  · repeat' (
        conv => whnf
        first
        | refine req_i ?_ ?_
        | refine when_i ?_ ?_
        | refine brn_not ?_
        | refine brn_dec (fun h => ?_) (fun h => ?_)
        | refine brn_int (fun h => ?_) (fun h => ?_)
        | refine brn_intne (fun h => ?_) (fun h => ?_)
        | refine brn_str (fun h => ?_) (fun h => ?_)
        | refine brn_i (fun h => ?_) (fun h => ?_)
        | with_reducible refine IdxK.mk _ rfl ?_
        | with_reducible refine idx_blI ?_ (fun hc => ?_)
        | with_reducible refine idx_bl ?_ (fun hc => ?_)
        | with_reducible refine idx_strI ?_ (fun hc => ?_)
        | with_reducible refine idx_str ?_ (fun hc => ?_)
        | with_reducible refine idx_mapDI ?_ ?_
        | with_reducible refine idx_mapD ?_ ?_
        | with_reducible refine idx_at ?_ (fun b hb => ?_)
        | refine ex_bl ?_
        | refine ex_b1 ?_ ?_
        | refine ex_b2 ?_ ?_ ?_
        | refine ex_b3 ?_ ?_ ?_ ?_
        | refine ex_b4 ?_ ?_ ?_ ?_ ?_
        | refine optK_setL ?_ ?_
        | refine optK_takeL ?_ ?_
        | with_reducible refine forceDs_i ?_
        )
    all_goals try (conv => whnf)
    all_goals try (refine Side.mk ?_; try dsimp only)
    all_goals first
      | (show LoopP _ _ _ _; skip)
      | (show EndP _ _ _ _ _ _; skip)
      | (show ∃ _, _; skip)
      | (first
            | trivial
            | omega
            | (simp (discharger := omega) only [wu8, wu16, wu32, wu64, wi32, wi64, Int.tdiv_eq_ediv_of_nonneg, Int.tmod_eq_emod_of_nonneg]; omega)
            | (simp only [List.length_append, List.length_cons, List.length_nil, bl_length, List.length_take, List.length_drop]; omega)
            | (simp (discharger := omega) [-List.getD_eq_getElem?_getD, wu8, wu16, wu32, wu64, wi32, wi64, Int.tdiv_eq_ediv_of_nonneg, Int.tmod_eq_emod_of_nonneg]; done)
            | (simp (discharger := omega) [-List.getD_eq_getElem?_getD, wu8, wu16, wu32, wu64, wi32, wi64, Int.tdiv_eq_ediv_of_nonneg, Int.tmod_eq_emod_of_nonneg]; omega))
      | skip
    · refine ⟨[], 2, by omega, ?_, by omega⟩
      refine Go.VG.Sub.mk rfl ?_ ?_ ?_ ?_ <;> (repeat' (first | trivial | rfl | exact scopedL_bl _ _ | refine And.intro ?_ ?_ | refine congrArg V.str ?_ | refine congrArg (V.int _) ?_ | refine congrArg V.bool ?_ | refine congrArg (O.buf _ _) ?_ | refine congrArg O.cells ?_ | refine congrArg (V.list _ _) ?_ | refine congrArg V.agg ?_ | refine congrArg V.tuple ?_ | refine cons_eq ?_ ?_))
      rw [e1] <;> simp [Nat.div_div_eq_div_mul]
  · repeat' (
        conv => whnf
        first
        | refine req_i ?_ ?_
        | refine when_i ?_ ?_
        | refine brn_not ?_
        | refine brn_dec (fun h => ?_) (fun h => ?_)
        | refine brn_int (fun h => ?_) (fun h => ?_)
        | refine brn_intne (fun h => ?_) (fun h => ?_)
        | refine brn_str (fun h => ?_) (fun h => ?_)
        | refine brn_i (fun h => ?_) (fun h => ?_)
        | with_reducible refine IdxK.mk _ rfl ?_
        | with_reducible refine idx_blI ?_ (fun hc => ?_)
        | with_reducible refine idx_bl ?_ (fun hc => ?_)
        | with_reducible refine idx_strI ?_ (fun hc => ?_)
        | with_reducible refine idx_str ?_ (fun hc => ?_)
        | with_reducible refine idx_mapDI ?_ ?_
        | with_reducible refine idx_mapD ?_ ?_
        | with_reducible refine idx_at ?_ (fun b hb => ?_)
        | refine ex_bl ?_
        | refine ex_b1 ?_ ?_
        | refine ex_b2 ?_ ?_ ?_
        | refine ex_b3 ?_ ?_ ?_ ?_
        | refine ex_b4 ?_ ?_ ?_ ?_ ?_
        | refine optK_setL ?_ ?_
        | refine optK_takeL ?_ ?_
        | with_reducible refine forceDs_i ?_
        )
    all_goals try (conv => whnf)
    all_goals try (refine Side.mk ?_; try dsimp only)
    all_goals first
      | (show LoopP _ _ _ _; skip)
      | (show EndP _ _ _ _ _ _; skip)
      | (show ∃ _, _; skip)
      | (first
            | trivial
            | omega
            | (simp (discharger := omega) only [wu8, wu16, wu32, wu64, wi32, wi64, Int.tdiv_eq_ediv_of_nonneg, Int.tmod_eq_emod_of_nonneg]; omega)
            | (simp only [List.length_append, List.length_cons, List.length_nil, bl_length, List.length_take, List.length_drop]; omega)
            | (simp (discharger := omega) [-List.getD_eq_getElem?_getD, wu8, wu16, wu32, wu64, wi32, wi64, Int.tdiv_eq_ediv_of_nonneg, Int.tmod_eq_emod_of_nonneg]; done)
            | (simp (discharger := omega) [-List.getD_eq_getElem?_getD, wu8, wu16, wu32, wu64, wi32, wi64, Int.tdiv_eq_ediv_of_nonneg, Int.tmod_eq_emod_of_nonneg]; omega))
      | skip
    · refine ⟨[], 3, by omega, ?_, by omega⟩
      refine Go.VG.Sub.mk rfl ?_ ?_ ?_ ?_ <;> (repeat' (first | trivial | rfl | exact scopedL_bl _ _ | refine And.intro ?_ ?_ | refine congrArg V.str ?_ | refine congrArg (V.int _) ?_ | refine congrArg V.bool ?_ | refine congrArg (O.buf _ _) ?_ | refine congrArg O.cells ?_ | refine congrArg (V.list _ _) ?_ | refine congrArg V.agg ?_ | refine congrArg V.tuple ?_ | refine cons_eq ?_ ?_))
      rw [e2] <;> simp [Nat.div_div_eq_div_mul]
  · repeat' (
        conv => whnf
        first
        | refine req_i ?_ ?_
        | refine when_i ?_ ?_
        | refine brn_not ?_
        | refine brn_dec (fun h => ?_) (fun h => ?_)
        | refine brn_int (fun h => ?_) (fun h => ?_)
        | refine brn_intne (fun h => ?_) (fun h => ?_)
        | refine brn_str (fun h => ?_) (fun h => ?_)
        | refine brn_i (fun h => ?_) (fun h => ?_)
        | with_reducible refine IdxK.mk _ rfl ?_
        | with_reducible refine idx_blI ?_ (fun hc => ?_)
        | with_reducible refine idx_bl ?_ (fun hc => ?_)
        | with_reducible refine idx_strI ?_ (fun hc => ?_)
        | with_reducible refine idx_str ?_ (fun hc => ?_)
        | with_reducible refine idx_mapDI ?_ ?_
        | with_reducible refine idx_mapD ?_ ?_
        | with_reducible refine idx_at ?_ (fun b hb => ?_)
        | refine ex_bl ?_
        | refine ex_b1 ?_ ?_
        | refine ex_b2 ?_ ?_ ?_
        | refine ex_b3 ?_ ?_ ?_ ?_
        | refine ex_b4 ?_ ?_ ?_ ?_ ?_
        | refine optK_setL ?_ ?_
        | refine optK_takeL ?_ ?_
        | with_reducible refine forceDs_i ?_
        )
    all_goals try (conv => whnf)
    all_goals try (refine Side.mk ?_; try dsimp only)
    all_goals first
      | (show LoopP _ _ _ _; skip)
      | (show EndP _ _ _ _ _ _; skip)
      | (show ∃ _, _; skip)
      | (first
            | trivial
            | omega
            | (simp (discharger := omega) only [wu8, wu16, wu32, wu64, wi32, wi64, Int.tdiv_eq_ediv_of_nonneg, Int.tmod_eq_emod_of_nonneg]; omega)
            | (simp only [List.length_append, List.length_cons, List.length_nil, bl_length, List.length_take, List.length_drop]; omega)
            | (simp (discharger := omega) [-List.getD_eq_getElem?_getD, wu8, wu16, wu32, wu64, wi32, wi64, Int.tdiv_eq_ediv_of_nonneg, Int.tmod_eq_emod_of_nonneg]; done)
            | (simp (discharger := omega) [-List.getD_eq_getElem?_getD, wu8, wu16, wu32, wu64, wi32, wi64, Int.tdiv_eq_ediv_of_nonneg, Int.tmod_eq_emod_of_nonneg]; omega))
      | skip
    · refine ⟨[], 4, by omega, ?_, by omega⟩
      refine Go.VG.Sub.mk rfl ?_ ?_ ?_ ?_ <;> (repeat' (first | trivial | rfl | exact scopedL_bl _ _ | refine And.intro ?_ ?_ | refine congrArg V.str ?_ | refine congrArg (V.int _) ?_ | refine congrArg V.bool ?_ | refine congrArg (O.buf _ _) ?_ | refine congrArg O.cells ?_ | refine congrArg (V.list _ _) ?_ | refine congrArg V.agg ?_ | refine congrArg V.tuple ?_ | refine cons_eq ?_ ?_))
      rw [e3] <;> simp [Nat.div_div_eq_div_mul]
  · repeat' (
        conv => whnf
        first
        | refine req_i ?_ ?_
        | refine when_i ?_ ?_
        | refine brn_not ?_
        | refine brn_dec (fun h => ?_) (fun h => ?_)
        | refine brn_int (fun h => ?_) (fun h => ?_)
        | refine brn_intne (fun h => ?_) (fun h => ?_)
        | refine brn_str (fun h => ?_) (fun h => ?_)
        | refine brn_i (fun h => ?_) (fun h => ?_)
        | with_reducible refine IdxK.mk _ rfl ?_
        | with_reducible refine idx_blI ?_ (fun hc => ?_)
        | with_reducible refine idx_bl ?_ (fun hc => ?_)
        | with_reducible refine idx_strI ?_ (fun hc => ?_)
        | with_reducible refine idx_str ?_ (fun hc => ?_)
        | with_reducible refine idx_mapDI ?_ ?_
        | with_reducible refine idx_mapD ?_ ?_
        | with_reducible refine idx_at ?_ (fun b hb => ?_)
        | refine ex_bl ?_
        | refine ex_b1 ?_ ?_
        | refine ex_b2 ?_ ?_ ?_
        | refine ex_b3 ?_ ?_ ?_ ?_
        | refine ex_b4 ?_ ?_ ?_ ?_ ?_
        | refine optK_setL ?_ ?_
        | refine optK_takeL ?_ ?_
        | with_reducible refine forceDs_i ?_
        )
    all_goals try (conv => whnf)
    all_goals try (refine Side.mk ?_; try dsimp only)
    all_goals first
      | (show LoopP _ _ _ _; skip)
      | (show EndP _ _ _ _ _ _; skip)
      | (show ∃ _, _; skip)
      | (first
            | trivial
            | omega
            | (simp (discharger := omega) only [wu8, wu16, wu32, wu64, wi32, wi64, Int.tdiv_eq_ediv_of_nonneg, Int.tmod_eq_emod_of_nonneg]; omega)
            | (simp only [List.length_append, List.length_cons, List.length_nil, bl_length, List.length_take, List.length_drop]; omega)
            | (simp (discharger := omega) [-List.getD_eq_getElem?_getD, wu8, wu16, wu32, wu64, wi32, wi64, Int.tdiv_eq_ediv_of_nonneg, Int.tmod_eq_emod_of_nonneg]; done)
            | (simp (discharger := omega) [-List.getD_eq_getElem?_getD, wu8, wu16, wu32, wu64, wi32, wi64, Int.tdiv_eq_ediv_of_nonneg, Int.tmod_eq_emod_of_nonneg]; omega))
      | skip
    · refine ⟨[], 5, by omega, ?_, by omega⟩
      refine Go.VG.Sub.mk rfl ?_ ?_ ?_ ?_ <;> (repeat' (first | trivial | rfl | exact scopedL_bl _ _ | refine And.intro ?_ ?_ | refine congrArg V.str ?_ | refine congrArg (V.int _) ?_ | refine congrArg V.bool ?_ | refine congrArg (O.buf _ _) ?_ | refine congrArg O.cells ?_ | refine congrArg (V.list _ _) ?_ | refine congrArg V.agg ?_ | refine congrArg V.tuple ?_ | refine cons_eq ?_ ?_))
      rw [e4] <;> simp [Nat.div_div_eq_div_mul]
  · repeat' (
        conv => whnf
        first
        | refine req_i ?_ ?_
        | refine when_i ?_ ?_
        | refine brn_not ?_
        | refine brn_dec (fun h => ?_) (fun h => ?_)
        | refine brn_int (fun h => ?_) (fun h => ?_)
        | refine brn_intne (fun h => ?_) (fun h => ?_)
        | refine brn_str (fun h => ?_) (fun h => ?_)
        | refine brn_i (fun h => ?_) (fun h => ?_)
        | with_reducible refine IdxK.mk _ rfl ?_
        | with_reducible refine idx_blI ?_ (fun hc => ?_)
        | with_reducible refine idx_bl ?_ (fun hc => ?_)
        | with_reducible refine idx_strI ?_ (fun hc => ?_)
        | with_reducible refine idx_str ?_ (fun hc => ?_)
        | with_reducible refine idx_mapDI ?_ ?_
        | with_reducible refine idx_mapD ?_ ?_
        | with_reducible refine idx_at ?_ (fun b hb => ?_)
        | refine ex_bl ?_
        | refine ex_b1 ?_ ?_
        | refine ex_b2 ?_ ?_ ?_
        | refine ex_b3 ?_ ?_ ?_ ?_
        | refine ex_b4 ?_ ?_ ?_ ?_ ?_
        | refine optK_setL ?_ ?_
        | refine optK_takeL ?_ ?_
        | with_reducible refine forceDs_i ?_
        )
    all_goals try (conv => whnf)
    all_goals try (refine Side.mk ?_; try dsimp only)
    all_goals first
      | (show LoopP _ _ _ _; skip)
      | (show EndP _ _ _ _ _ _; skip)
      | (show ∃ _, _; skip)
      | (first
            | trivial
            | omega
            | (simp (discharger := omega) only [wu8, wu16, wu32, wu64, wi32, wi64, Int.tdiv_eq_ediv_of_nonneg, Int.tmod_eq_emod_of_nonneg]; omega)
            | (simp only [List.length_append, List.length_cons, List.length_nil, bl_length, List.length_take, List.length_drop]; omega)
            | (simp (discharger := omega) [-List.getD_eq_getElem?_getD, wu8, wu16, wu32, wu64, wi32, wi64, Int.tdiv_eq_ediv_of_nonneg, Int.tmod_eq_emod_of_nonneg]; done)
            | (simp (discharger := omega) [-List.getD_eq_getElem?_getD, wu8, wu16, wu32, wu64, wi32, wi64, Int.tdiv_eq_ediv_of_nonneg, Int.tmod_eq_emod_of_nonneg]; omega))
      | skip
    · refine ⟨[], 6, by omega, ?_, by omega⟩
      refine Go.VG.Sub.mk rfl ?_ ?_ ?_ ?_ <;> (repeat' (first | trivial | rfl | exact scopedL_bl _ _ | refine And.intro ?_ ?_ | refine congrArg V.str ?_ | refine congrArg (V.int _) ?_ | refine congrArg V.bool ?_ | refine congrArg (O.buf _ _) ?_ | refine congrArg O.cells ?_ | refine congrArg (V.list _ _) ?_ | refine congrArg V.agg ?_ | refine congrArg V.tuple ?_ | refine cons_eq ?_ ?_))
      rw [e5] <;> simp [Nat.div_div_eq_div_mul]
  · repeat' (
        conv => whnf
        first
        | refine req_i ?_ ?_
        | refine when_i ?_ ?_
        | refine brn_not ?_
        | refine brn_dec (fun h => ?_) (fun h => ?_)
        | refine brn_int (fun h => ?_) (fun h => ?_)
        | refine brn_intne (fun h => ?_) (fun h => ?_)
        | refine brn_str (fun h => ?_) (fun h => ?_)
        | refine brn_i (fun h => ?_) (fun h => ?_)
        | with_reducible refine IdxK.mk _ rfl ?_
        | with_reducible refine idx_blI ?_ (fun hc => ?_)
        | with_reducible refine idx_bl ?_ (fun hc => ?_)
        | with_reducible refine idx_strI ?_ (fun hc => ?_)
        | with_reducible refine idx_str ?_ (fun hc => ?_)
        | with_reducible refine idx_mapDI ?_ ?_
        | with_reducible refine idx_mapD ?_ ?_
        | with_reducible refine idx_at ?_ (fun b hb => ?_)
        | refine ex_bl ?_
        | refine ex_b1 ?_ ?_
        | refine ex_b2 ?_ ?_ ?_
        | refine ex_b3 ?_ ?_ ?_ ?_
        | refine ex_b4 ?_ ?_ ?_ ?_ ?_
        | refine optK_setL ?_ ?_
        | refine optK_takeL ?_ ?_
        | with_reducible refine forceDs_i ?_
        )
    all_goals try (conv => whnf)
    all_goals try (refine Side.mk ?_; try dsimp only)
    all_goals first
      | (show LoopP _ _ _ _; skip)
      | (show EndP _ _ _ _ _ _; skip)
      | (show ∃ _, _; skip)
      | (first
            | trivial
            | omega
            | (simp (discharger := omega) only [wu8, wu16, wu32, wu64, wi32, wi64, Int.tdiv_eq_ediv_of_nonneg, Int.tmod_eq_emod_of_nonneg]; omega)
            | (simp only [List.length_append, List.length_cons, List.length_nil, bl_length, List.length_take, List.length_drop]; omega)
            | (simp (discharger := omega) [-List.getD_eq_getElem?_getD, wu8, wu16, wu32, wu64, wi32, wi64, Int.tdiv_eq_ediv_of_nonneg, Int.tmod_eq_emod_of_nonneg]; done)
            | (simp (discharger := omega) [-List.getD_eq_getElem?_getD, wu8, wu16, wu32, wu64, wi32, wi64, Int.tdiv_eq_ediv_of_nonneg, Int.tmod_eq_emod_of_nonneg]; omega))
      | skip
    · refine ⟨[], 7, by omega, ?_, by omega⟩
      refine Go.VG.Sub.mk rfl ?_ ?_ ?_ ?_ <;> (repeat' (first | trivial | rfl | exact scopedL_bl _ _ | refine And.intro ?_ ?_ | refine congrArg V.str ?_ | refine congrArg (V.int _) ?_ | refine congrArg V.bool ?_ | refine congrArg (O.buf _ _) ?_ | refine congrArg O.cells ?_ | refine congrArg (V.list _ _) ?_ | refine congrArg V.agg ?_ | refine congrArg V.tuple ?_ | refine cons_eq ?_ ?_))
  · repeat' (
        conv => whnf
        first
        | refine req_i ?_ ?_
        | refine when_i ?_ ?_
        | refine brn_not ?_
        | refine brn_dec (fun h => ?_) (fun h => ?_)
        | refine brn_int (fun h => ?_) (fun h => ?_)
        | refine brn_intne (fun h => ?_) (fun h => ?_)
        | refine brn_str (fun h => ?_) (fun h => ?_)
        | refine brn_i (fun h => ?_) (fun h => ?_)
        | with_reducible refine IdxK.mk _ rfl ?_
        | with_reducible refine idx_blI ?_ (fun hc => ?_)
        | with_reducible refine idx_bl ?_ (fun hc => ?_)
        | with_reducible refine idx_strI ?_ (fun hc => ?_)
        | with_reducible refine idx_str ?_ (fun hc => ?_)
        | with_reducible refine idx_mapDI ?_ ?_
        | with_reducible refine idx_mapD ?_ ?_
        | with_reducible refine idx_at ?_ (fun b hb => ?_)
        | refine ex_bl ?_
        | refine ex_b1 ?_ ?_
        | refine ex_b2 ?_ ?_ ?_
        | refine ex_b3 ?_ ?_ ?_ ?_
        | refine ex_b4 ?_ ?_ ?_ ?_ ?_
        | refine optK_setL ?_ ?_
        | refine optK_takeL ?_ ?_
        | with_reducible refine forceDs_i ?_
        )
    all_goals try (conv => whnf)
    all_goals try (refine Side.mk ?_; try dsimp only)
    all_goals first
      | (show LoopP _ _ _ _; skip)
      | (show EndP _ _ _ _ _ _; skip)
      | (show ∃ _, _; skip)
      | (first
            | trivial
            | omega
            | (simp (discharger := omega) only [wu8, wu16, wu32, wu64, wi32, wi64, Int.tdiv_eq_ediv_of_nonneg, Int.tmod_eq_emod_of_nonneg]; omega)
            | (simp only [List.length_append, List.length_cons, List.length_nil, bl_length, List.length_take, List.length_drop]; omega)
            | (simp (discharger := omega) [-List.getD_eq_getElem?_getD, wu8, wu16, wu32, wu64, wi32, wi64, Int.tdiv_eq_ediv_of_nonneg, Int.tmod_eq_emod_of_nonneg]; done)
            | (simp (discharger := omega) [-List.getD_eq_getElem?_getD, wu8, wu16, wu32, wu64, wi32, wi64, Int.tdiv_eq_ediv_of_nonneg, Int.tmod_eq_emod_of_nonneg]; omega))
      | skip
    · refine ⟨[], 8, by omega, ?_, by omega⟩
      refine Go.VG.Sub.mk rfl ?_ ?_ ?_ ?_ <;> (repeat' (first | trivial | rfl | exact scopedL_bl _ _ | refine And.intro ?_ ?_ | refine congrArg V.str ?_ | refine congrArg (V.int _) ?_ | refine congrArg V.bool ?_ | refine congrArg (O.buf _ _) ?_ | refine congrArg O.cells ?_ | refine congrArg (V.list _ _) ?_ | refine congrArg V.agg ?_ | refine congrArg V.tuple ?_ | refine cons_eq ?_ ?_))
      rw [e7] <;> simp
  · repeat' (
        conv => whnf
        first
        | refine req_i ?_ ?_
        | refine when_i ?_ ?_
        | refine brn_not ?_
        | refine brn_dec (fun h => ?_) (fun h => ?_)
        | refine brn_int (fun h => ?_) (fun h => ?_)
        | refine brn_intne (fun h => ?_) (fun h => ?_)
        | refine brn_str (fun h => ?_) (fun h => ?_)
        | refine brn_i (fun h => ?_) (fun h => ?_)
        | with_reducible refine IdxK.mk _ rfl ?_
        | with_reducible refine idx_blI ?_ (fun hc => ?_)
        | with_reducible refine idx_bl ?_ (fun hc => ?_)
        | with_reducible refine idx_strI ?_ (fun hc => ?_)
        | with_reducible refine idx_str ?_ (fun hc => ?_)
        | with_reducible refine idx_mapDI ?_ ?_
        | with_reducible refine idx_mapD ?_ ?_
        | with_reducible refine idx_at ?_ (fun b hb => ?_)
        | refine ex_bl ?_
        | refine ex_b1 ?_ ?_
        | refine ex_b2 ?_ ?_ ?_
        | refine ex_b3 ?_ ?_ ?_ ?_
        | refine ex_b4 ?_ ?_ ?_ ?_ ?_
        | refine optK_setL ?_ ?_
        | refine optK_takeL ?_ ?_
        | with_reducible refine forceDs_i ?_
        )
    all_goals try (conv => whnf)
    all_goals try (refine Side.mk ?_; try dsimp only)
    all_goals first
      | (show LoopP _ _ _ _; skip)
      | (show EndP _ _ _ _ _ _; skip)
      | (show ∃ _, _; skip)
      | (first
            | trivial
            | omega
            | (simp (discharger := omega) only [wu8, wu16, wu32, wu64, wi32, wi64, Int.tdiv_eq_ediv_of_nonneg, Int.tmod_eq_emod_of_nonneg]; omega)
            | (simp only [List.length_append, List.length_cons, List.length_nil, bl_length, List.length_take, List.length_drop]; omega)
            | (simp (discharger := omega) [-List.getD_eq_getElem?_getD, wu8, wu16, wu32, wu64, wi32, wi64, Int.tdiv_eq_ediv_of_nonneg, Int.tmod_eq_emod_of_nonneg]; done)
            | (simp (discharger := omega) [-List.getD_eq_getElem?_getD, wu8, wu16, wu32, wu64, wi32, wi64, Int.tdiv_eq_ediv_of_nonneg, Int.tmod_eq_emod_of_nonneg]; omega))
      | skip
    refine EndP.mk [] ?_ <;> (repeat' (first | trivial | rfl | exact scopedL_bl _ _ | refine And.intro ?_ ?_ | refine congrArg V.str ?_ | refine congrArg (V.int _) ?_ | refine congrArg V.bool ?_ | refine congrArg (O.buf _ _) ?_ | refine congrArg O.cells ?_ | refine congrArg (V.list _ _) ?_ | refine congrArg V.agg ?_ | refine congrArg V.tuple ?_ | refine cons_eq ?_ ?_))
def sm_High64 : Sm := fun args σ => match args, σ with
  | [.list true _ [], .int .u64 u], [] => some (0 ≤ u ∧ u ≤ 18446744073709551615, .buf 0, some [.buf 1 0 (bl (be 8 u.toNat))])
  | _, _ => none
theorem k_High64 : SOK 40 sm_High64 := by
  intro args sg pre x r he hp
  unfold sm_High64 at he
  split at he <;> cases he
  obtain ⟨h0, h1⟩ := hp
  obtain ⟨m, rfl⟩ := Int.eq_ofNat_of_zero_le h0
  exact (f_High64 m (by omega)).args (WkL.cons (Wk.nil (.inl rfl)) (WkL.refl _))
theorem f_double (u : Int) (hu : 0 ≤ u ∧ u ≤ 18446744073709551615) : OK 31 [.int .u64 u] [] (.str (dbl u)) none := by
  refine funOK_of_vc (C := cx [(40, sm_High64), (32, sm_hexaText)]) (good ⟨k_High64, k_hexaText, trivial⟩) (fn := Tryd.f31) rfl rfl rfl rfl fun _ _ => ?_
  repeat' (
      conv => whnf
      first
      | refine req_i ?_ ?_
      | refine when_i ?_ ?_
      | refine brn_not ?_
      | refine brn_dec (fun h => ?_) (fun h => ?_)
      | refine brn_int (fun h => ?_) (fun h => ?_)
      | refine brn_intne (fun h => ?_) (fun h => ?_)
      | refine brn_str (fun h => ?_) (fun h => ?_)
      | refine brn_i (fun h => ?_) (fun h => ?_)
      | with_reducible refine IdxK.mk _ rfl ?_
      | with_reducible refine idx_blI ?_ (fun hc => ?_)
      | with_reducible refine idx_bl ?_ (fun hc => ?_)
      | with_reducible refine idx_strI ?_ (fun hc => ?_)
      | with_reducible refine idx_str ?_ (fun hc => ?_)
      | with_reducible refine idx_mapDI ?_ ?_
      | with_reducible refine idx_mapD ?_ ?_
      | with_reducible refine idx_at ?_ (fun b hb => ?_)
      | refine ex_bl ?_
      | refine ex_b1 ?_ ?_
      | refine ex_b2 ?_ ?_ ?_
      | refine ex_b3 ?_ ?_ ?_ ?_
      | refine ex_b4 ?_ ?_ ?_ ?_ ?_
      | refine optK_setL ?_ ?_
      | refine optK_takeL ?_ ?_
      | with_reducible refine forceDs_i ?_
      )
  all_goals try (conv => whnf)
  all_goals try (refine Side.mk ?_; try dsimp only)
  all_goals first
    | (show LoopP _ _ _ _; skip)
    | (show EndP _ _ _ _ _ _; skip)
    | (show ∃ _, _; skip)
    | (first
          | trivial
          | omega
          | (simp (discharger := omega) only [wu8, wu16, wu32, wu64, wi32, wi64, Int.tdiv_eq_ediv_of_nonneg, Int.tmod_eq_emod_of_nonneg]; omega)
          | (simp only [List.length_append, List.length_cons, List.length_nil, bl_length, List.length_take, List.length_drop]; omega)
          | (simp (discharger := omega) [-List.getD_eq_getElem?_getD, wu8, wu16, wu32, wu64, wi32, wi64, Int.tdiv_eq_ediv_of_nonneg, Int.tmod_eq_emod_of_nonneg]; done)
          | (simp (discharger := omega) [-List.getD_eq_getElem?_getD, wu8, wu16, wu32, wu64, wi32, wi64, Int.tdiv_eq_ediv_of_nonneg, Int.tmod_eq_emod_of_nonneg]; omega))
    | skip
  refine EndP.mk [] ?_ <;> (repeat' (first | trivial | rfl | exact scopedL_bl _ _ | refine And.intro ?_ ?_ | refine congrArg V.str ?_ | refine congrArg (V.int _) ?_ | refine congrArg V.bool ?_ | refine congrArg (O.buf _ _) ?_ | refine congrArg O.cells ?_ | refine congrArg (V.list _ _) ?_ | refine congrArg V.agg ?_ | refine congrArg V.tuple ?_ | refine cons_eq ?_ ?_))
def sm_double : Sm := fun args σ => match args, σ with
  | [.int .u64 u], [] => some (0 ≤ u ∧ u ≤ 18446744073709551615, .str (dbl u), none)
  | _, _ => none
theorem k_double : SOK 31 sm_double := by
  intro args sg pre x r he hp
  unfold sm_double at he
  split at he <;> cases he
  exact f_double _ hp
end Go.Proofs.YtgbkjecepncjoaaDoor
