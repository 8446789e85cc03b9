/-
  All tokens of a text as the document reads them; a token's bytes; whether tokens are the same.
-/
import Derived.Test.YtllncocibkgjkaaJTy
set_option linter.unusedSimpArgs false
set_option linter.unusedVariables false
set_option maxHeartbeats 4000000
namespace Go.Proofs.Ytllncocibkgjkaa
open Go Go.VG
set_option maxRecDepth 100000
theorem f_r12All_1 (s : List UInt8) (hp : s.length ≤ 10000000) : OK 16 ([.str s]) ([]) (.tuple [.buf 0, .int .i64 (allT s).2]) (some [.buf 2 0 ((allT s).1.map vT)]) := by
  refine funOK_of_vc (C := cx [(20, sm_r01New), (19, sm_r12Next)]) (good ⟨k_r01New, k_r12Next, trivial⟩) (fn := Try.f16) rfl rfl rfl rfl fun hw hs => ?_
  repeat' (
      conv => whnf
      first
      | refine req_i ?_ ?_
      | refine when_i ?_ ?_
      | refine brn_not ?_
      | refine brn_dec (fun h => ?_) (fun h => ?_)
      | refine brn_int (fun h => ?_) (fun h => ?_)
      | refine brn_intne (fun h => ?_) (fun h => ?_)
      | refine brn_str (fun h => ?_) (fun h => ?_)
      | refine brn_i (fun h => ?_) (fun h => ?_)
      | with_reducible refine IdxK.mk _ rfl ?_
      | with_reducible refine idx_blI ?_ (fun hc => ?_)
      | with_reducible refine idx_bl ?_ (fun hc => ?_)
      | with_reducible refine idx_strI ?_ (fun hc => ?_)
      | with_reducible refine idx_str ?_ (fun hc => ?_)
      | with_reducible refine idx_mapDI ?_ ?_
      | with_reducible refine idx_mapD ?_ ?_
      | with_reducible refine idx_at ?_ (fun b hb => ?_)
      | refine ex_bl ?_
      | refine ex_b1 ?_ ?_
      | refine ex_b2 ?_ ?_ ?_
      | refine ex_b3 ?_ ?_ ?_ ?_
      | refine ex_b4 ?_ ?_ ?_ ?_ ?_
      | refine optK_setL ?_ ?_
      | refine optK_takeL ?_ ?_
      | with_reducible refine forceDs_i ?_
      )
  all_goals try (conv => whnf)
  all_goals try (refine Side.mk ?_; try dsimp only)
  all_goals (try simp only [Cu_eta] at *)
  all_goals first
    | (show LoopP _ _ _ _; skip)
    | (show GotoP _ _ _ _ _; skip)
    | (show EndP _ _ _ _ _ _; skip)
    | (show ∃ _, _; skip)
    | (first
          | trivial
          | omega
          | (simp (discharger := omega) only [wu8, wu16, wu32, wu64, wi32, wi64, Int.tdiv_eq_ediv_of_nonneg, Int.tmod_eq_emod_of_nonneg]; omega)
          | (simp only [List.length_append, List.length_cons, List.length_nil, bl_length, List.length_take, List.length_drop]; omega)
          | (simp (discharger := omega) [-List.getD_eq_getElem?_getD, wu8, wu16, wu32, wu64, wi32, wi64, Int.tdiv_eq_ediv_of_nonneg, Int.tmod_eq_emod_of_nonneg]; done)
          | (simp (discharger := omega) [-List.getD_eq_getElem?_getD, wu8, wu16, wu32, wu64, wi32, wi64, Int.tdiv_eq_ediv_of_nonneg, Int.tmod_eq_emod_of_nonneg]; omega))
    | skip
  refine LoopP.mk (Nat × Nat × Cu × List Tk) (fun | (i, n, d, l) => i + n = s.length + 1 ∧ d.ok ∧ d.s = s ∧ d.c = 0 ∧ d.e - d.p < n ∧ l.length ≤ d.p ∧ allD n d l = allT s)
    (fun | (i, n, d, l) => ⟨37, [(0, .str s), (4, .ptr 0 0), (5, .buf 1), (6, .int .i64 i)], [.cells (eC d), .buf 2 0 (l.map vT)], [1]⟩) (fun x => x.2.1) [.tm 5 2] (0, s.length + 1, .new s, [])
    ⟨by omega, new_okT s, rfl, rfl, by show s.length - 0 < s.length + 1; omega, by simp, rfl⟩ ?_ (fun ⟨i, n, d, l⟩ ⟨hin, hd, hds, hd0, hn, hl, he⟩ _ _ => ?_)
  · refine Go.VG.Sub.mk rfl ?_ ?_ ?_ ?_ <;> (repeat' (first | trivial | rfl | exact scopedL_bl _ _ | refine And.intro ?_ ?_ | refine congrArg V.str ?_ | refine congrArg (V.int _) ?_ | refine congrArg V.bool ?_ | refine congrArg (O.buf _ _) ?_ | refine congrArg O.cells ?_ | refine congrArg (V.list _ _) ?_ | refine congrArg V.agg ?_ | refine congrArg V.tuple ?_ | refine cons_eq ?_ ?_))
  obtain ⟨n, rfl⟩ : ∃ m, n = m + 1 := ⟨n - 1, by omega⟩
  rw [allD] at he
  have on := fun h => nextD_on hd h
  have hsl : d.s.length ≤ 10000000 := by rw [hds]; exact hp
  have hk : d.nextD.2.k.toNat < 256 := d.nextD.2.k.toNat_lt
  have hp1 := hd.1
  have hp2 := hd.2
  repeat' (
      conv => whnf
      first
      | refine req_i ?_ ?_
      | refine when_i ?_ ?_
      | refine brn_not ?_
      | refine brn_dec (fun h => ?_) (fun h => ?_)
      | refine brn_int (fun h => ?_) (fun h => ?_)
      | refine brn_intne (fun h => ?_) (fun h => ?_)
      | refine brn_str (fun h => ?_) (fun h => ?_)
      | refine brn_i (fun h => ?_) (fun h => ?_)
      | with_reducible refine IdxK.mk _ rfl ?_
      | with_reducible refine idx_blI ?_ (fun hc => ?_)
      | with_reducible refine idx_bl ?_ (fun hc => ?_)
      | with_reducible refine idx_strI ?_ (fun hc => ?_)
      | with_reducible refine idx_str ?_ (fun hc => ?_)
      | with_reducible refine idx_mapDI ?_ ?_
      | with_reducible refine idx_mapD ?_ ?_
      | with_reducible refine idx_at ?_ (fun b hb => ?_)
      | refine ex_bl ?_
      | refine ex_b1 ?_ ?_
      | refine ex_b2 ?_ ?_ ?_
      | refine ex_b3 ?_ ?_ ?_ ?_
      | refine ex_b4 ?_ ?_ ?_ ?_ ?_
      | refine optK_setL ?_ ?_
      | refine optK_takeL ?_ ?_
      | with_reducible refine forceDs_i ?_
      )
  all_goals try (conv => whnf)
  all_goals try (refine Side.mk ?_; try dsimp only)
  all_goals (try simp only [Cu_eta] at *)
  all_goals first
    | (show LoopP _ _ _ _; skip)
    | (show GotoP _ _ _ _ _; skip)
    | (show EndP _ _ _ _ _ _; skip)
    | (show ∃ _, _; skip)
    | (first
          | trivial
          | omega
          | (simp (discharger := omega) only [wu8, wu16, wu32, wu64, wi32, wi64, Int.tdiv_eq_ediv_of_nonneg, Int.tmod_eq_emod_of_nonneg]; omega)
          | (simp only [List.length_append, List.length_cons, List.length_nil, bl_length, List.length_take, List.length_drop]; omega)
          | (simp (discharger := omega) [-List.getD_eq_getElem?_getD, wu8, wu16, wu32, wu64, wi32, wi64, Int.tdiv_eq_ediv_of_nonneg, Int.tmod_eq_emod_of_nonneg]; done)
          | (simp (discharger := omega) [-List.getD_eq_getElem?_getD, wu8, wu16, wu32, wu64, wi32, wi64, Int.tdiv_eq_ediv_of_nonneg, Int.tmod_eq_emod_of_nonneg]; omega))
    | skip
  · have z : d.nextD.1.c = 0 := by assumption
    have k0 : d.nextD.2.k = 0 := UInt8.toNat_inj.1 (by show _ = 0; omega)
    rw [if_neg (by omega), if_pos k0] at he
    rw [← he]
    refine EndP.mk [.swap 0 1] ?_ <;> (repeat' (first | trivial | rfl | exact scopedL_bl _ _ | refine And.intro ?_ ?_ | refine congrArg V.str ?_ | refine congrArg (V.int _) ?_ | refine congrArg V.bool ?_ | refine congrArg (O.buf _ _) ?_ | refine congrArg O.cells ?_ | refine congrArg (V.list _ _) ?_ | refine congrArg V.agg ?_ | refine congrArg V.tuple ?_ | refine cons_eq ?_ ?_))
  · have z : d.nextD.1.c = 0 := by assumption
    have k0 : d.nextD.2.k ≠ 0 := fun e => by
      exact absurd (show ((d.nextD.2.k.toNat : Nat) : Int) = 0 by rw [e]; rfl) (by assumption)
    obtain ⟨o1, o2, o3, o4, o5, o6⟩ := on z
    have o6 := o6 k0
    have o7 := o1.1
    rw [if_neg (by omega), if_neg k0] at he
    refine ⟨[], (i + 1, n, d.nextD.1, l ++ [d.nextD.2]), ⟨by show i + 1 + n = s.length + 1; omega, o1, o2.trans hds, z, by show d.nextD.1.e - d.nextD.1.p < n; omega, by show (l ++ [d.nextD.2]).length ≤ d.nextD.1.p; rw [List.length_append, List.length_singleton]; omega, he⟩, ?_, by show n < n + 1; omega⟩
    refine Go.VG.Sub.mk rfl ?_ ?_ ?_ ?_ <;> (repeat' (first | trivial | rfl | exact scopedL_bl _ _ | refine And.intro ?_ ?_ | refine congrArg V.str ?_ | refine congrArg (V.int _) ?_ | refine congrArg V.bool ?_ | refine congrArg (O.buf _ _) ?_ | refine congrArg O.cells ?_ | refine congrArg (V.list _ _) ?_ | refine congrArg V.agg ?_ | refine congrArg V.tuple ?_ | refine cons_eq ?_ ?_))
    all_goals first
      | (first | omega | (simp (discharger := omega) only [wu8, wu16, wu32, wu64, wi32, wi64, Int.tdiv_eq_ediv_of_nonneg, Int.tmod_eq_emod_of_nonneg]; omega) | (simp only [List.length_append, List.length_cons, List.length_nil, bl_length, List.length_take, List.length_drop]; omega) | (simp (discharger := omega) [-List.getD_eq_getElem?_getD, wu8, wu16, wu32, wu64, wi32, wi64, Int.tdiv_eq_ediv_of_nonneg, Int.tmod_eq_emod_of_nonneg]; done) | (simp (discharger := omega) [-List.getD_eq_getElem?_getD, wu8, wu16, wu32, wu64, wi32, wi64, Int.tdiv_eq_ediv_of_nonneg, Int.tmod_eq_emod_of_nonneg]; omega))
      | simp
  · have z : d.nextD.1.c ≠ 0 := by assumption
    rw [if_pos z] at he
    rw [← he]
    refine EndP.mk [.tm 2 2, .swap 0 4] ?_ <;> (repeat' (first | trivial | rfl | exact scopedL_bl _ _ | refine And.intro ?_ ?_ | refine congrArg V.str ?_ | refine congrArg (V.int _) ?_ | refine congrArg V.bool ?_ | refine congrArg (O.buf _ _) ?_ | refine congrArg O.cells ?_ | refine congrArg (V.list _ _) ?_ | refine congrArg V.agg ?_ | refine congrArg V.tuple ?_ | refine cons_eq ?_ ?_))
  · exfalso; omega
def sm_r12All : Sm := fun args σ => match args, σ with
  | [.str s], [] => some (s.length ≤ 10000000, .tuple [.buf 0, .int .i64 (allT s).2], some [.buf 2 0 ((allT s).1.map vT)])
  | _, _ => none
theorem k_r12All : SOK 16 sm_r12All := by
  intro args sg pre x r he hp
  unfold sm_r12All at he
  split at he <;> cases he
  · exact f_r12All_1 (hp := hp) ..
theorem f_r12Text_1 (k : UInt8) (t : List UInt8) (hp : t.length ≤ 10000000) : OK 15 ([.agg [bv k, .str t]]) ([]) (.str (textT ⟨k, t⟩)) (none) := by
  refine funOK_of_vc (C := cx [(39, sm_r10Text), (40, sm_r12Sign), (41, sm_r12Spelled)]) (good ⟨k_r10Text, k_r12Sign, k_r12Spelled, trivial⟩) (fn := Try.f15) rfl rfl rfl rfl fun hw hs => ?_
  have hb : k.toNat < 256 := k.toNat_lt
  have hbb : byte k.toNat = k := byte_of _
  have sT : signB k = true ↔ (k.toNat = 123 ∨ k.toNat = 125 ∨ k.toNat = 91 ∨ k.toNat = 93 ∨ k.toNat = 58 ∨ k.toNat = 44) := decide_eq_true_iff
  repeat' (
      conv => whnf
      first
      | refine req_i ?_ ?_
      | refine when_i ?_ ?_
      | refine brn_not ?_
      | refine brn_dec (fun h => ?_) (fun h => ?_)
      | refine brn_int (fun h => ?_) (fun h => ?_)
      | refine brn_intne (fun h => ?_) (fun h => ?_)
      | refine brn_str (fun h => ?_) (fun h => ?_)
      | refine brn_i (fun h => ?_) (fun h => ?_)
      | with_reducible refine IdxK.mk _ rfl ?_
      | with_reducible refine idx_blI ?_ (fun hc => ?_)
      | with_reducible refine idx_bl ?_ (fun hc => ?_)
      | with_reducible refine idx_strI ?_ (fun hc => ?_)
      | with_reducible refine idx_str ?_ (fun hc => ?_)
      | with_reducible refine idx_mapDI ?_ ?_
      | with_reducible refine idx_mapD ?_ ?_
      | with_reducible refine idx_at ?_ (fun b hb => ?_)
      | refine ex_bl ?_
      | refine ex_b1 ?_ ?_
      | refine ex_b2 ?_ ?_ ?_
      | refine ex_b3 ?_ ?_ ?_ ?_
      | refine ex_b4 ?_ ?_ ?_ ?_ ?_
      | refine optK_setL ?_ ?_
      | refine optK_takeL ?_ ?_
      | with_reducible refine forceDs_i ?_
      )
  all_goals try (conv => whnf)
  all_goals try (refine Side.mk ?_; try dsimp only)
  all_goals (try simp only [Cu_eta] at *)
  all_goals first
    | (show LoopP _ _ _ _; skip)
    | (show GotoP _ _ _ _ _; skip)
    | (show EndP _ _ _ _ _ _; skip)
    | (show ∃ _, _; skip)
    | (first
          | trivial
          | omega
          | (simp (discharger := omega) only [wu8, wu16, wu32, wu64, wi32, wi64, Int.tdiv_eq_ediv_of_nonneg, Int.tmod_eq_emod_of_nonneg]; omega)
          | (simp only [List.length_append, List.length_cons, List.length_nil, bl_length, List.length_take, List.length_drop]; omega)
          | (simp (discharger := omega) [-List.getD_eq_getElem?_getD, wu8, wu16, wu32, wu64, wi32, wi64, Int.tdiv_eq_ediv_of_nonneg, Int.tmod_eq_emod_of_nonneg]; done)
          | (simp (discharger := omega) [-List.getD_eq_getElem?_getD, wu8, wu16, wu32, wu64, wi32, wi64, Int.tdiv_eq_ediv_of_nonneg, Int.tmod_eq_emod_of_nonneg]; omega))
    | skip
  all_goals (try simp only [hbb] at *)
  all_goals first
    | omega
    | exact ⟨by omega, trivial⟩
    | skip
  all_goals
    rw [show textT ⟨k, t⟩ = if k.toNat = 115 then quote t else if k.toNat = 110 then t else if signB k = true then [k] else spell k from rfl]
    repeat (first | rw [if_pos (by rw [sT]; omega)] | rw [if_neg (by rw [sT]; omega)] | rw [if_pos (by omega)] | rw [if_neg (by omega)])
    refine EndP.mk [] ?_ <;> (repeat' (first | trivial | rfl | exact scopedL_bl _ _ | refine And.intro ?_ ?_ | refine congrArg V.str ?_ | refine congrArg (V.int _) ?_ | refine congrArg V.bool ?_ | refine congrArg (O.buf _ _) ?_ | refine congrArg O.cells ?_ | refine congrArg (V.list _ _) ?_ | refine congrArg V.agg ?_ | refine congrArg V.tuple ?_ | refine cons_eq ?_ ?_))
def sm_r12Text : Sm := fun args σ => match args, σ with
  | [.agg [.int .u8 n_k, .str t]], [] => some ((0 ≤ n_k ∧ n_k ≤ 255) ∧ (t.length ≤ 10000000), .str (textT ⟨(byte n_k), t⟩), none)
  | _, _ => none
theorem k_r12Text : SOK 15 sm_r12Text := by
  intro args sg pre x r he hp
  unfold sm_r12Text at he
  split at he <;> cases he
  · rw [viewB (hp).1]; exact f_r12Text_1 (hp := hp.2) ..
theorem f_r12Same_1 (a : List V) (b : List V) (hp : ∃ x y : List Tk, a = x.map vT ∧ b = y.map vT ∧ a = b ∧ x.length ≤ 100000000) : OK 13 ([.buf 0, .buf 1]) ([.buf 2 0 a, .buf 2 0 b]) (.bool true) (none) := by
  refine funOK_of_vc (C := cx []) (good trivial) (fn := Try.f13) rfl rfl rfl rfl fun hw hs => ?_
  obtain ⟨x, y, rfl, hb, rfl, hl⟩ := hp
  have hml : (x.map vT).length = x.length := List.length_map _
  repeat' (
      conv => whnf
      first
      | refine req_i ?_ ?_
      | refine when_i ?_ ?_
      | refine brn_not ?_
      | refine brn_dec (fun h => ?_) (fun h => ?_)
      | refine brn_int (fun h => ?_) (fun h => ?_)
      | refine brn_intne (fun h => ?_) (fun h => ?_)
      | refine brn_str (fun h => ?_) (fun h => ?_)
      | refine brn_i (fun h => ?_) (fun h => ?_)
      | with_reducible refine IdxK.mk _ rfl ?_
      | with_reducible refine idx_blI ?_ (fun hc => ?_)
      | with_reducible refine idx_bl ?_ (fun hc => ?_)
      | with_reducible refine idx_strI ?_ (fun hc => ?_)
      | with_reducible refine idx_str ?_ (fun hc => ?_)
      | with_reducible refine idx_mapDI ?_ ?_
      | with_reducible refine idx_mapD ?_ ?_
      | with_reducible refine idx_at ?_ (fun b hb => ?_)
      | refine ex_bl ?_
      | refine ex_b1 ?_ ?_
      | refine ex_b2 ?_ ?_ ?_
      | refine ex_b3 ?_ ?_ ?_ ?_
      | refine ex_b4 ?_ ?_ ?_ ?_ ?_
      | refine optK_setL ?_ ?_
      | refine optK_takeL ?_ ?_
      | with_reducible refine forceDs_i ?_
      )
  all_goals try (conv => whnf)
  all_goals try (refine Side.mk ?_; try dsimp only)
  all_goals (try simp only [Cu_eta] at *)
  all_goals first
    | (show LoopP _ _ _ _; skip)
    | (show GotoP _ _ _ _ _; skip)
    | (show EndP _ _ _ _ _ _; skip)
    | (show ∃ _, _; skip)
    | (first
          | trivial
          | omega
          | (simp (discharger := omega) only [wu8, wu16, wu32, wu64, wi32, wi64, Int.tdiv_eq_ediv_of_nonneg, Int.tmod_eq_emod_of_nonneg]; omega)
          | (simp only [List.length_append, List.length_cons, List.length_nil, bl_length, List.length_take, List.length_drop]; omega)
          | (simp (discharger := omega) [-List.getD_eq_getElem?_getD, wu8, wu16, wu32, wu64, wi32, wi64, Int.tdiv_eq_ediv_of_nonneg, Int.tmod_eq_emod_of_nonneg]; done)
          | (simp (discharger := omega) [-List.getD_eq_getElem?_getD, wu8, wu16, wu32, wu64, wi32, wi64, Int.tdiv_eq_ediv_of_nonneg, Int.tmod_eq_emod_of_nonneg]; omega))
    | skip
  · refine LoopP.mk Nat (fun i => i ≤ x.length) (fun i => ⟨26, [(0, .buf 0), (1, .buf 1), (5, .int .i64 i)], [.buf 2 0 (x.map vT), .buf 2 0 (x.map vT)], []⟩) (fun i => x.length - i) [] 0 (Nat.zero_le _) ?_ (fun i hi _ _ => ?_)
    · refine Go.VG.Sub.mk rfl ?_ ?_ ?_ ?_ <;> (repeat' (first | trivial | rfl | exact scopedL_bl _ _ | refine And.intro ?_ ?_ | refine congrArg V.str ?_ | refine congrArg (V.int _) ?_ | refine congrArg V.bool ?_ | refine congrArg (O.buf _ _) ?_ | refine congrArg O.cells ?_ | refine congrArg (V.list _ _) ?_ | refine congrArg V.agg ?_ | refine congrArg V.tuple ?_ | refine cons_eq ?_ ?_))
    repeat' (
        conv => whnf
        first
        | refine req_i ?_ ?_
        | refine when_i ?_ ?_
        | refine brn_not ?_
        | refine brn_dec (fun h => ?_) (fun h => ?_)
        | refine brn_int (fun h => ?_) (fun h => ?_)
        | refine brn_intne (fun h => ?_) (fun h => ?_)
        | refine brn_str (fun h => ?_) (fun h => ?_)
        | refine brn_i (fun h => ?_) (fun h => ?_)
        | with_reducible refine IdxK.mk _ rfl ?_
        | with_reducible refine idx_blI ?_ (fun hc => ?_)
        | with_reducible refine idx_bl ?_ (fun hc => ?_)
        | with_reducible refine idx_strI ?_ (fun hc => ?_)
        | with_reducible refine idx_str ?_ (fun hc => ?_)
        | with_reducible refine idx_mapDI ?_ ?_
        | with_reducible refine idx_mapD ?_ ?_
        | with_reducible refine idx_at ?_ (fun b hb => ?_)
        | refine ex_bl ?_
        | refine ex_b1 ?_ ?_
        | refine ex_b2 ?_ ?_ ?_
        | refine ex_b3 ?_ ?_ ?_ ?_
        | refine ex_b4 ?_ ?_ ?_ ?_ ?_
        | refine optK_setL ?_ ?_
        | refine optK_takeL ?_ ?_
        | with_reducible refine forceDs_i ?_
        )
    all_goals try (conv => whnf)
    all_goals try (refine Side.mk ?_; try dsimp only)
    all_goals (try simp only [Cu_eta] at *)
    all_goals first
      | (show LoopP _ _ _ _; skip)
      | (show GotoP _ _ _ _ _; skip)
      | (show EndP _ _ _ _ _ _; skip)
      | (show ∃ _, _; skip)
      | (first
            | trivial
            | omega
            | (simp (discharger := omega) only [wu8, wu16, wu32, wu64, wi32, wi64, Int.tdiv_eq_ediv_of_nonneg, Int.tmod_eq_emod_of_nonneg]; omega)
            | (simp only [List.length_append, List.length_cons, List.length_nil, bl_length, List.length_take, List.length_drop]; omega)
            | (simp (discharger := omega) [-List.getD_eq_getElem?_getD, wu8, wu16, wu32, wu64, wi32, wi64, Int.tdiv_eq_ediv_of_nonneg, Int.tmod_eq_emod_of_nonneg]; done)
            | (simp (discharger := omega) [-List.getD_eq_getElem?_getD, wu8, wu16, wu32, wu64, wi32, wi64, Int.tdiv_eq_ediv_of_nonneg, Int.tmod_eq_emod_of_nonneg]; omega))
      | skip
    all_goals first
      | (refine ⟨[], i + 1, by omega, ?_, by omega⟩
         refine Go.VG.Sub.mk rfl ?_ ?_ ?_ ?_ <;> (repeat' (first | trivial | rfl | exact scopedL_bl _ _ | refine And.intro ?_ ?_ | refine congrArg V.str ?_ | refine congrArg (V.int _) ?_ | refine congrArg V.bool ?_ | refine congrArg (O.buf _ _) ?_ | refine congrArg O.cells ?_ | refine congrArg (V.list _ _) ?_ | refine congrArg V.agg ?_ | refine congrArg V.tuple ?_ | refine cons_eq ?_ ?_))
         all_goals (first | omega | (simp (discharger := omega) only [wu8, wu16, wu32, wu64, wi32, wi64, Int.tdiv_eq_ediv_of_nonneg, Int.tmod_eq_emod_of_nonneg]; omega) | (simp only [List.length_append, List.length_cons, List.length_nil, bl_length, List.length_take, List.length_drop]; omega) | (simp (discharger := omega) [-List.getD_eq_getElem?_getD, wu8, wu16, wu32, wu64, wi32, wi64, Int.tdiv_eq_ediv_of_nonneg, Int.tmod_eq_emod_of_nonneg]; done) | (simp (discharger := omega) [-List.getD_eq_getElem?_getD, wu8, wu16, wu32, wu64, wi32, wi64, Int.tdiv_eq_ediv_of_nonneg, Int.tmod_eq_emod_of_nonneg]; omega))
         done)
      | (show EndP _ _ _ _ _ _
         refine EndP.mk [] ?_ <;> (repeat' (first | trivial | rfl | exact scopedL_bl _ _ | refine And.intro ?_ ?_ | refine congrArg V.str ?_ | refine congrArg (V.int _) ?_ | refine congrArg V.bool ?_ | refine congrArg (O.buf _ _) ?_ | refine congrArg O.cells ?_ | refine congrArg (V.list _ _) ?_ | refine congrArg V.agg ?_ | refine congrArg V.tuple ?_ | refine cons_eq ?_ ?_))
         done)
      | (exfalso; simp_all; done)
      | skip
  · exact absurd trivial (by assumption)
def sm_r12Same : Sm := fun args σ => match args, σ with
  | [.buf 0, .buf 1], [.buf 2 0 a, .buf 2 0 b] => some (∃ x y : List Tk, a = x.map vT ∧ b = y.map vT ∧ a = b ∧ x.length ≤ 100000000, .bool true, none)
  | _, _ => none
theorem k_r12Same : SOK 13 sm_r12Same := by
  intro args sg pre x r he hp
  unfold sm_r12Same at he
  split at he <;> cases he
  · exact f_r12Same_1 (hp := hp) ..
theorem f_lawBack12_1 (a : List V) (hp : ∃ x : List Tk, a = x.map vT ∧ x.length ≤ 100000000) : OK 14 ([.buf 0]) ([.buf 2 0 a]) (.buf 1) (some [.buf 2 0 a, .buf 2 0 a]) := by
  refine funOK_of_vc (C := cx []) (good trivial) (fn := Try.f14) rfl rfl rfl rfl fun hw hs => ?_
  obtain ⟨x, rfl, hl⟩ := hp
  have hml : (x.map vT).length = x.length := List.length_map _
  repeat' (
      conv => whnf
      first
      | refine req_i ?_ ?_
      | refine when_i ?_ ?_
      | refine brn_not ?_
      | refine brn_dec (fun h => ?_) (fun h => ?_)
      | refine brn_int (fun h => ?_) (fun h => ?_)
      | refine brn_intne (fun h => ?_) (fun h => ?_)
      | refine brn_str (fun h => ?_) (fun h => ?_)
      | refine brn_i (fun h => ?_) (fun h => ?_)
      | with_reducible refine IdxK.mk _ rfl ?_
      | with_reducible refine idx_blI ?_ (fun hc => ?_)
      | with_reducible refine idx_bl ?_ (fun hc => ?_)
      | with_reducible refine idx_strI ?_ (fun hc => ?_)
      | with_reducible refine idx_str ?_ (fun hc => ?_)
      | with_reducible refine idx_mapDI ?_ ?_
      | with_reducible refine idx_mapD ?_ ?_
      | with_reducible refine idx_at ?_ (fun b hb => ?_)
      | refine ex_bl ?_
      | refine ex_b1 ?_ ?_
      | refine ex_b2 ?_ ?_ ?_
      | refine ex_b3 ?_ ?_ ?_ ?_
      | refine ex_b4 ?_ ?_ ?_ ?_ ?_
      | refine optK_setL ?_ ?_
      | refine optK_takeL ?_ ?_
      | with_reducible refine forceDs_i ?_
      )
  all_goals try (conv => whnf)
  all_goals try (refine Side.mk ?_; try dsimp only)
  all_goals (try simp only [Cu_eta] at *)
  all_goals first
    | (show LoopP _ _ _ _; skip)
    | (show GotoP _ _ _ _ _; skip)
    | (show EndP _ _ _ _ _ _; skip)
    | (show ∃ _, _; skip)
    | (first
          | trivial
          | omega
          | (simp (discharger := omega) only [wu8, wu16, wu32, wu64, wi32, wi64, Int.tdiv_eq_ediv_of_nonneg, Int.tmod_eq_emod_of_nonneg]; omega)
          | (simp only [List.length_append, List.length_cons, List.length_nil, bl_length, List.length_take, List.length_drop]; omega)
          | (simp (discharger := omega) [-List.getD_eq_getElem?_getD, wu8, wu16, wu32, wu64, wi32, wi64, Int.tdiv_eq_ediv_of_nonneg, Int.tmod_eq_emod_of_nonneg]; done)
          | (simp (discharger := omega) [-List.getD_eq_getElem?_getD, wu8, wu16, wu32, wu64, wi32, wi64, Int.tdiv_eq_ediv_of_nonneg, Int.tmod_eq_emod_of_nonneg]; omega))
    | skip
  refine LoopP.mk Nat (fun i => i ≤ x.length) (fun i => ⟨19, [(0, .buf 0), (3, .buf 1), (4, .int .i64 i)], [.buf 2 0 (x.map vT), .buf 2 0 ((x.take i).map vT)], [1]⟩) (fun i => x.length - i) [.tm 3 2] 0 (Nat.zero_le _) ?_ (fun i hi _ _ => ?_)
  · refine Go.VG.Sub.mk rfl ?_ ?_ ?_ ?_ <;> (repeat' (first | trivial | rfl | exact scopedL_bl _ _ | refine And.intro ?_ ?_ | refine congrArg V.str ?_ | refine congrArg (V.int _) ?_ | refine congrArg V.bool ?_ | refine congrArg (O.buf _ _) ?_ | refine congrArg O.cells ?_ | refine congrArg (V.list _ _) ?_ | refine congrArg V.agg ?_ | refine congrArg V.tuple ?_ | refine cons_eq ?_ ?_))
  have hml2 : ((x.take i).map vT).length = i := by rw [List.length_map, List.length_take]; omega
  have hnx : i < x.length → x.take (i + 1) = x.take i ++ [x.getD i default] := fun h => by
    rw [List.take_add_one, List.getD_eq_getElem?_getD, List.getElem?_eq_getElem h]; rfl
  repeat' (
      conv => whnf
      first
      | refine req_i ?_ ?_
      | refine when_i ?_ ?_
      | refine brn_not ?_
      | refine brn_dec (fun h => ?_) (fun h => ?_)
      | refine brn_int (fun h => ?_) (fun h => ?_)
      | refine brn_intne (fun h => ?_) (fun h => ?_)
      | refine brn_str (fun h => ?_) (fun h => ?_)
      | refine brn_i (fun h => ?_) (fun h => ?_)
      | with_reducible refine IdxK.mk _ rfl ?_
      | with_reducible refine idx_blI ?_ (fun hc => ?_)
      | with_reducible refine idx_bl ?_ (fun hc => ?_)
      | with_reducible refine idx_strI ?_ (fun hc => ?_)
      | with_reducible refine idx_str ?_ (fun hc => ?_)
      | with_reducible refine idx_mapDI ?_ ?_
      | with_reducible refine idx_mapD ?_ ?_
      | with_reducible refine idx_at ?_ (fun b hb => ?_)
      | refine ex_bl ?_
      | refine ex_b1 ?_ ?_
      | refine ex_b2 ?_ ?_ ?_
      | refine ex_b3 ?_ ?_ ?_ ?_
      | refine ex_b4 ?_ ?_ ?_ ?_ ?_
      | refine optK_setL ?_ ?_
      | refine optK_takeL ?_ ?_
      | with_reducible refine forceDs_i ?_
      )
  all_goals try (conv => whnf)
  all_goals try (refine Side.mk ?_; try dsimp only)
  all_goals (try simp only [Cu_eta] at *)
  all_goals first
    | (show LoopP _ _ _ _; skip)
    | (show GotoP _ _ _ _ _; skip)
    | (show EndP _ _ _ _ _ _; skip)
    | (show ∃ _, _; skip)
    | (first
          | trivial
          | omega
          | (simp (discharger := omega) only [wu8, wu16, wu32, wu64, wi32, wi64, Int.tdiv_eq_ediv_of_nonneg, Int.tmod_eq_emod_of_nonneg]; omega)
          | (simp only [List.length_append, List.length_cons, List.length_nil, bl_length, List.length_take, List.length_drop]; omega)
          | (simp (discharger := omega) [-List.getD_eq_getElem?_getD, wu8, wu16, wu32, wu64, wi32, wi64, Int.tdiv_eq_ediv_of_nonneg, Int.tmod_eq_emod_of_nonneg]; done)
          | (simp (discharger := omega) [-List.getD_eq_getElem?_getD, wu8, wu16, wu32, wu64, wi32, wi64, Int.tdiv_eq_ediv_of_nonneg, Int.tmod_eq_emod_of_nonneg]; omega))
    | skip
  all_goals first
    | (refine ⟨[], i + 1, by omega, ?_, by omega⟩
       refine Go.VG.Sub.mk rfl ?_ ?_ ?_ ?_ <;> (repeat' (first | trivial | rfl | exact scopedL_bl _ _ | refine And.intro ?_ ?_ | refine congrArg V.str ?_ | refine congrArg (V.int _) ?_ | refine congrArg V.bool ?_ | refine congrArg (O.buf _ _) ?_ | refine congrArg O.cells ?_ | refine congrArg (V.list _ _) ?_ | refine congrArg V.agg ?_ | refine congrArg V.tuple ?_ | refine cons_eq ?_ ?_))
       all_goals first
         | (first | omega | (simp (discharger := omega) only [wu8, wu16, wu32, wu64, wi32, wi64, Int.tdiv_eq_ediv_of_nonneg, Int.tmod_eq_emod_of_nonneg]; omega) | (simp only [List.length_append, List.length_cons, List.length_nil, bl_length, List.length_take, List.length_drop]; omega) | (simp (discharger := omega) [-List.getD_eq_getElem?_getD, wu8, wu16, wu32, wu64, wi32, wi64, Int.tdiv_eq_ediv_of_nonneg, Int.tmod_eq_emod_of_nonneg]; done) | (simp (discharger := omega) [-List.getD_eq_getElem?_getD, wu8, wu16, wu32, wu64, wi32, wi64, Int.tdiv_eq_ediv_of_nonneg, Int.tmod_eq_emod_of_nonneg]; omega))
         | (rw [hnx (by omega)]; simp; done)
       done)
    | (show EndP _ _ _ _ _ _
       have e : i = x.length := by omega
       subst e
       rw [List.take_length]
       refine EndP.mk [] ?_ <;> (repeat' (first | trivial | rfl | exact scopedL_bl _ _ | refine And.intro ?_ ?_ | refine congrArg V.str ?_ | refine congrArg (V.int _) ?_ | refine congrArg V.bool ?_ | refine congrArg (O.buf _ _) ?_ | refine congrArg O.cells ?_ | refine congrArg (V.list _ _) ?_ | refine congrArg V.agg ?_ | refine congrArg V.tuple ?_ | refine cons_eq ?_ ?_))
       done)
    | skip
def sm_lawBack12 : Sm := fun args σ => match args, σ with
  | [.buf 0], [.buf 2 0 a] => some (∃ x : List Tk, a = x.map vT ∧ x.length ≤ 100000000, .buf 1, some [.buf 2 0 a, .buf 2 0 a])
  | _, _ => none
theorem k_lawBack12 : SOK 14 sm_lawBack12 := by
  intro args sg pre x r he hp
  unfold sm_lawBack12 at he
  split at he <;> cases he
  · exact f_lawBack12_1 (hp := hp) ..
theorem allD_len : ∀ (n : Nat) (c : Cu) (l : List Tk), (allD n c l).1.length ≤ l.length + n
  | 0, _, l => by rw [allD]; simp
  | n + 1, c, l => by
    rw [allD]
    repeat' split
    · simp
    · simp
    · have := allD_len n c.nextD.1 (l ++ [c.nextD.2]); simp at this; omega
theorem allT_len (s : List UInt8) : (allT s).1.length ≤ s.length + 1 := by have := allD_len (s.length + 1) (.new s) []; rw [List.length_nil, Nat.zero_add] at this; exact this
/-- All, with what it answers as a name -/
def smAllR (A : List UInt8 → List Tk × Int) : Sm := fun args σ => match args, σ with
  | [.str s], [] => some (s.length ≤ 10000000, .tuple [.buf 0, .int .i64 (A s).2], some [.buf 2 0 ((A s).1.map vT)])
  | _, _ => none
theorem k_allR {A : List UInt8 → List Tk × Int} (h : ∀ s, A s = allT s) : SOK 11 (smAllR A) := by
  intro args sg pre x r he hp
  unfold smAllR at he
  split at he <;> cases he
  rw [h]
  exact f_jtAll_1 _ hp
def v1 : List UInt8 := [91, 49, 44, 32, 34, 97, 34, 93]
def v2 : List UInt8 := [116, 114, 117]
def v3 : List UInt8 := [116, 114, 117, 112]
deriving instance DecidableEq for Tk
theorem v1_all : allT v1 = ([⟨91, []⟩, ⟨110, [49]⟩, ⟨44, []⟩, ⟨115, [97]⟩, ⟨93, []⟩], 0) := by decide +kernel
theorem v2_all : (allT v2).2 = 1 := by decide +kernel
theorem v3_all : (allT v3).2 = 3 := by decide +kernel
theorem f_jtWorksR {A : List UInt8 → List Tk × Int} (hA : ∀ s, A s = allT s) : OK 10 [] [] (.bool true) none := by
  refine funOK_of_vc (C := cx [(11, smAllR A), (12, sm_jtPut)]) (good ⟨k_allR hA, k_jtPut, trivial⟩) (fn := Try.f10) rfl rfl rfl rfl fun hw hs => ?_
  have a1 : A v1 = ([⟨91, []⟩, ⟨110, [49]⟩, ⟨44, []⟩, ⟨115, [97]⟩, ⟨93, []⟩], 0) := by rw [hA]; exact v1_all
  have a2 : (A v2).2 = 1 := by rw [hA]; exact v2_all
  have a3 : (A v3).2 = 3 := by rw [hA]; exact v3_all
  have ab : ∀ {p q : Prop}, p → ¬ p → q := fun h k => absurd h k
  repeat' (
      conv => whnf
      first
      | refine req_i ?_ ?_
      | refine when_i ?_ ?_
      | refine brn_not ?_
      | refine brn_dec (fun h => ?_) (fun h => ?_)
      | refine brn_int (fun h => ?_) (fun h => ?_)
      | refine brn_intne (fun h => ?_) (fun h => ?_)
      | refine brn_str (fun h => ?_) (fun h => ?_)
      | refine brn_i (fun h => ?_) (fun h => ?_)
      | with_reducible refine IdxK.mk _ rfl ?_
      | with_reducible refine idx_blI ?_ (fun hc => ?_)
      | with_reducible refine idx_bl ?_ (fun hc => ?_)
      | with_reducible refine idx_strI ?_ (fun hc => ?_)
      | with_reducible refine idx_str ?_ (fun hc => ?_)
      | with_reducible refine idx_mapDI ?_ ?_
      | with_reducible refine idx_mapD ?_ ?_
      | with_reducible refine idx_at ?_ (fun b hb => ?_)
      | refine ex_bl ?_
      | refine ex_b1 ?_ ?_
      | refine ex_b2 ?_ ?_ ?_
      | refine ex_b3 ?_ ?_ ?_ ?_
      | refine ex_b4 ?_ ?_ ?_ ?_ ?_
      | refine optK_setL ?_ ?_
      | refine optK_takeL ?_ ?_
      | with_reducible refine forceDs_i ?_
      )
  all_goals try (conv => whnf)
  all_goals try (refine Side.mk ?_; try dsimp only)
  all_goals first
    | decide
    | (show 0 ≤ (1 : Int) ∧ (1 : Int) < (((A v1).1.map vT).length : Int); rw [a1]; decide)
    | (show 0 ≤ (3 : Int) ∧ (3 : Int) < (((A v1).1.map vT).length : Int); rw [a1]; decide)
    | (show (1 : Nat) < (A v1).1.length; rw [a1]; decide)
    | (show (3 : Nat) < (A v1).1.length; rw [a1]; decide)
    | exact ab (show (A v1).2 = 0 by rw [a1]) (by assumption)
    | exact ab (show (((A v1).1.map vT).length : Int) = 5 by rw [a1]; rfl) (by assumption)
    | exact ab (show ((((A v1).1.getD 1 default).k.toNat : Nat) : Int) = 110 by rw [a1]; rfl) (by assumption)
    | exact ab (show ((A v1).1.getD 1 default).t = [49] by rw [a1]; rfl) (by assumption)
    | exact ab (show ((((A v1).1.getD 3 default).k.toNat : Nat) : Int) = 115 by rw [a1]; rfl) (by assumption)
    | exact ab (show ((A v1).1.getD 3 default).t = [97] by rw [a1]; rfl) (by assumption)
    | exact ab (show (A v2).2 = 1 from a2) (by assumption)
    | exact ab (show (A v3).2 = 3 from a3) (by assumption)
    | skip
  refine ⟨112 :: textT ⟨byte 122, []⟩, rfl, ?_⟩
  repeat' (
      conv => whnf
      first
      | refine req_i ?_ ?_
      | refine when_i ?_ ?_
      | refine brn_not ?_
      | refine brn_dec (fun h => ?_) (fun h => ?_)
      | refine brn_int (fun h => ?_) (fun h => ?_)
      | refine brn_intne (fun h => ?_) (fun h => ?_)
      | refine brn_str (fun h => ?_) (fun h => ?_)
      | refine brn_i (fun h => ?_) (fun h => ?_)
      | with_reducible refine IdxK.mk _ rfl ?_
      | with_reducible refine idx_blI ?_ (fun hc => ?_)
      | with_reducible refine idx_bl ?_ (fun hc => ?_)
      | with_reducible refine idx_strI ?_ (fun hc => ?_)
      | with_reducible refine idx_str ?_ (fun hc => ?_)
      | with_reducible refine idx_mapDI ?_ ?_
      | with_reducible refine idx_mapD ?_ ?_
      | with_reducible refine idx_at ?_ (fun b hb => ?_)
      | refine ex_bl ?_
      | refine ex_b1 ?_ ?_
      | refine ex_b2 ?_ ?_ ?_
      | refine ex_b3 ?_ ?_ ?_ ?_
      | refine ex_b4 ?_ ?_ ?_ ?_ ?_
      | refine optK_setL ?_ ?_
      | refine optK_takeL ?_ ?_
      | with_reducible refine forceDs_i ?_
      )
  all_goals try (conv => whnf)
  all_goals try (refine Side.mk ?_; try dsimp only)
  all_goals first
    | decide
    | (show 0 ≤ (1 : Int) ∧ (1 : Int) < (((A v1).1.map vT).length : Int); rw [a1]; decide)
    | (show 0 ≤ (3 : Int) ∧ (3 : Int) < (((A v1).1.map vT).length : Int); rw [a1]; decide)
    | (show (1 : Nat) < (A v1).1.length; rw [a1]; decide)
    | (show (3 : Nat) < (A v1).1.length; rw [a1]; decide)
    | exact ab (show (A v1).2 = 0 by rw [a1]) (by assumption)
    | exact ab (show (((A v1).1.map vT).length : Int) = 5 by rw [a1]; rfl) (by assumption)
    | exact ab (show ((((A v1).1.getD 1 default).k.toNat : Nat) : Int) = 110 by rw [a1]; rfl) (by assumption)
    | exact ab (show ((A v1).1.getD 1 default).t = [49] by rw [a1]; rfl) (by assumption)
    | exact ab (show ((((A v1).1.getD 3 default).k.toNat : Nat) : Int) = 115 by rw [a1]; rfl) (by assumption)
    | exact ab (show ((A v1).1.getD 3 default).t = [97] by rw [a1]; rfl) (by assumption)
    | exact ab (show (A v2).2 = 1 from a2) (by assumption)
    | exact ab (show (A v3).2 = 3 from a3) (by assumption)
    | skip
  refine ⟨textT ⟨byte 116, []⟩ ++ textT ⟨byte 102, []⟩, rfl, ?_⟩
  repeat' (
      conv => whnf
      first
      | refine req_i ?_ ?_
      | refine when_i ?_ ?_
      | refine brn_not ?_
      | refine brn_dec (fun h => ?_) (fun h => ?_)
      | refine brn_int (fun h => ?_) (fun h => ?_)
      | refine brn_intne (fun h => ?_) (fun h => ?_)
      | refine brn_str (fun h => ?_) (fun h => ?_)
      | refine brn_i (fun h => ?_) (fun h => ?_)
      | with_reducible refine IdxK.mk _ rfl ?_
      | with_reducible refine idx_blI ?_ (fun hc => ?_)
      | with_reducible refine idx_bl ?_ (fun hc => ?_)
      | with_reducible refine idx_strI ?_ (fun hc => ?_)
      | with_reducible refine idx_str ?_ (fun hc => ?_)
      | with_reducible refine idx_mapDI ?_ ?_
      | with_reducible refine idx_mapD ?_ ?_
      | with_reducible refine idx_at ?_ (fun b hb => ?_)
      | refine ex_bl ?_
      | refine ex_b1 ?_ ?_
      | refine ex_b2 ?_ ?_ ?_
      | refine ex_b3 ?_ ?_ ?_ ?_
      | refine ex_b4 ?_ ?_ ?_ ?_ ?_
      | refine optK_setL ?_ ?_
      | refine optK_takeL ?_ ?_
      | with_reducible refine forceDs_i ?_
      )
  all_goals try (conv => whnf)
  all_goals try (refine Side.mk ?_; try dsimp only)
  refine EndP.mk [] ?_ <;> (repeat' (first | trivial | rfl | exact scopedL_bl _ _ | refine And.intro ?_ ?_ | refine congrArg V.str ?_ | refine congrArg (V.int _) ?_ | refine congrArg V.bool ?_ | refine congrArg (O.buf _ _) ?_ | refine congrArg O.cells ?_ | refine congrArg (V.list _ _) ?_ | refine congrArg V.agg ?_ | refine congrArg V.tuple ?_ | refine cons_eq ?_ ?_))
theorem f_jtWorks_1  (hp : True) : OK 10 ([]) ([]) (.bool true) (none) := by
  exact f_jtWorksR (A := allT) fun _ => rfl
def sm_jtWorks : Sm := fun args σ => match args, σ with
  | [], [] => some (True, .bool true, none)
  | _, _ => none
theorem k_jtWorks : SOK 10 sm_jtWorks := by
  intro args sg pre x r he hp
  unfold sm_jtWorks at he
  split at he <;> cases he
  · exact f_jtWorks_1 (hp := hp) ..
theorem nextD_k {c : Cu} (h : c.nextD.2.k ≠ 0) : c.nextD.1.c = 0 := by
  unfold Cu.nextD at h ⊢
  by_cases h0 : c.c ≠ 0
  · rw [if_pos h0] at h; exact absurd rfl h
  rw [if_neg h0] at h ⊢
  have e3 : ({ c with p := runW blkB c.txt c.p } : Cu).c = 0 := by show c.c = 0; omega
  generalize ({ c with p := runW blkB c.txt c.p } : Cu) = d at *
  have hh : ∀ (x : CO) (k : UInt8), (held x k).2.k ≠ 0 → (held x k).1.c = 0 := fun x k h => by
    unfold held at h ⊢
    by_cases z : x.1.c = 0
    · exact z
    · rw [if_neg z] at h; exact absurd rfl h
  have hw : ∀ k, (d.wordD k).2.k ≠ 0 → (d.wordD k).1.c = 0 := fun k h => by
    unfold Cu.wordD at h ⊢
    by_cases z : wordE d (spell k) 0 ≠ 0
    · rw [if_pos z] at h; exact absurd rfl h
    · rw [if_neg z]; exact e3
  unfold Cu.tokD at h ⊢
  repeat' split at h
  all_goals first
    | exact absurd rfl h
    | skip
  · rename_i q1 q2; rw [if_neg q1, if_pos q2]; exact e3
  · rename_i q1 q2 q3; rw [if_neg q1, if_neg q2, if_pos q3]; exact hh _ _ h
  · rename_i q1 q2 q3 q4; rw [if_neg q1, if_neg q2, if_neg q3, if_pos q4]; exact hh _ _ h
  · rename_i q1 q2 q3 q4 q5; rw [if_neg q1, if_neg q2, if_neg q3, if_neg q4, if_pos q5]; exact hw _ h
  · rename_i q1 q2 q3 q4 q5 q6; rw [if_neg q1, if_neg q2, if_neg q3, if_neg q4, if_neg q5, if_pos q6]; exact hw _ h
theorem f_lawAll12_1 (s : List UInt8) (hp : True) : OK 5 ([.str s]) ([]) (.bool true) (none) := by
  refine funOK_of_vc (C := cx [(10, sm_jtWorks), (11, sm_jtAll), (16, sm_r12All), (17, sm_cNew), (18, sm_jtNext), (20, sm_r01New), (19, sm_r12Next), (21, sm_cErr), (22, sm_cAt), (14, sm_lawBack12), (13, sm_r12Same)]) (good ⟨k_jtWorks, k_jtAll, k_r12All, k_cNew, k_jtNext, k_r01New, k_r12Next, k_cErr, k_cAt, k_lawBack12, k_r12Same, trivial⟩) (fn := Try.f5) rfl rfl rfl rfl fun hw hs => ?_
  have hk := new_okT s
  obtain ⟨x1, x2, x3⟩ := next_eq hk
  have hl := allT_len s
  have x4 : (Cu.new s).nextD.2.k ≠ 0 → (Cu.new s).next.1 = (Cu.new s).nextD.1 := fun h => x3 (nextD_k h)
  have ab : ∀ {p q : Prop}, p → ¬ p → q := fun h k => absurd h k
  have x5 : (((Cu.new s).next.2.k.toNat : Int) == ((Cu.new s).nextD.2.k.toNat : Int) && (Cu.new s).next.2.t == (Cu.new s).nextD.2.t) = true := by rw [x1]; simp
  have nl : (Cu.new s).s.length = s.length := rfl
  repeat' (
      conv => whnf
      first
      | refine req_i ?_ ?_
      | refine when_i ?_ ?_
      | refine brn_not ?_
      | refine brn_dec (fun h => ?_) (fun h => ?_)
      | refine brn_int (fun h => ?_) (fun h => ?_)
      | refine brn_intne (fun h => ?_) (fun h => ?_)
      | refine brn_str (fun h => ?_) (fun h => ?_)
      | refine brn_i (fun h => ?_) (fun h => ?_)
      | with_reducible refine IdxK.mk _ rfl ?_
      | with_reducible refine idx_blI ?_ (fun hc => ?_)
      | with_reducible refine idx_bl ?_ (fun hc => ?_)
      | with_reducible refine idx_strI ?_ (fun hc => ?_)
      | with_reducible refine idx_str ?_ (fun hc => ?_)
      | with_reducible refine idx_mapDI ?_ ?_
      | with_reducible refine idx_mapD ?_ ?_
      | with_reducible refine idx_at ?_ (fun b hb => ?_)
      | refine ex_bl ?_
      | refine ex_b1 ?_ ?_
      | refine ex_b2 ?_ ?_ ?_
      | refine ex_b3 ?_ ?_ ?_ ?_
      | refine ex_b4 ?_ ?_ ?_ ?_ ?_
      | refine optK_setL ?_ ?_
      | refine optK_takeL ?_ ?_
      | with_reducible refine forceDs_i ?_
      )
  all_goals try (conv => whnf)
  all_goals try (refine Side.mk ?_; try dsimp only)
  all_goals (try simp only [Cu_eta] at *)
  all_goals first
    | (show LoopP _ _ _ _; skip)
    | (show GotoP _ _ _ _ _; skip)
    | (show EndP _ _ _ _ _ _; skip)
    | (show ∃ _, _; skip)
    | (first
          | trivial
          | omega
          | (simp (discharger := omega) only [wu8, wu16, wu32, wu64, wi32, wi64, Int.tdiv_eq_ediv_of_nonneg, Int.tmod_eq_emod_of_nonneg]; omega)
          | (simp only [List.length_append, List.length_cons, List.length_nil, bl_length, List.length_take, List.length_drop]; omega)
          | (simp (discharger := omega) [-List.getD_eq_getElem?_getD, wu8, wu16, wu32, wu64, wi32, wi64, Int.tdiv_eq_ediv_of_nonneg, Int.tmod_eq_emod_of_nonneg]; done)
          | (simp (discharger := omega) [-List.getD_eq_getElem?_getD, wu8, wu16, wu32, wu64, wi32, wi64, Int.tdiv_eq_ediv_of_nonneg, Int.tmod_eq_emod_of_nonneg]; omega))
    | skip
  all_goals first
    | (show EndP _ _ _ _ _ _
       refine EndP.mk [] ?_ <;> (repeat' (first | trivial | rfl | exact scopedL_bl _ _ | refine And.intro ?_ ?_ | refine congrArg V.str ?_ | refine congrArg (V.int _) ?_ | refine congrArg V.bool ?_ | refine congrArg (O.buf _ _) ?_ | refine congrArg O.cells ?_ | refine congrArg (V.list _ _) ?_ | refine congrArg V.agg ?_ | refine congrArg V.tuple ?_ | refine cons_eq ?_ ?_))
       done)
    | exact ⟨trivial, hk, by omega⟩
    | exact ⟨_, rfl, by omega⟩
    | exact ⟨_, _, rfl, rfl, trivial, by omega⟩
    | exact ab trivial (by assumption)
    | exact ab x2 (by assumption)
    | exact ab (show (((Cu.new s).next.1.p : Nat) : Int) = ((Cu.new s).nextD.1.p : Int) by
        rw [x4 (fun e => ab (show (((Cu.new s).nextD.2.k.toNat : Nat) : Int) = 0 by rw [e]; rfl) (by assumption))]) (by assumption)
    | (exfalso; exact absurd (x5.symm.trans (by assumption)) (by decide))
    | skip
def sm_lawAll12 : Sm := fun args σ => match args, σ with
  | [.str s], [] => some (True, .bool true, none)
  | _, _ => none
theorem k_lawAll12 : SOK 5 sm_lawAll12 := by
  intro args sg pre x r he hp
  unfold sm_lawAll12 at he
  split at he <;> cases he
  · exact f_lawAll12_1 (hp := hp) ..
theorem f_lawPuts12_1 (p : List UInt8) (k : UInt8) (t : List UInt8) (hp : p.length + t.length ≤ 2000000) : OK 4 ([.str p, .agg [bv k, .str t]]) ([]) (.bool true) (none) := by
  refine funOK_of_vc (C := cx [(10, sm_jtWorks), (12, sm_jtPut), (15, sm_r12Text)]) (good ⟨k_jtWorks, k_jtPut, k_r12Text, trivial⟩) (fn := Try.f4) rfl rfl rfl rfl fun hw hs => ?_
  have hb : k.toNat < 256 := k.toNat_lt
  have hbb : byte k.toNat = k := byte_of _
  have hbl : (bl p).length = p.length := bl_length p
  have ht := textT_len ⟨k, t⟩
  have ht2 : (Tk.mk k t).t.length = t.length := rfl
  have ex2 : ∀ {s t : List UInt8} {Q : List UInt8 → Prop}, Q (s ++ t) → ∃ a, bl s ++ bl t = bl a ∧ Q a := fun {s t} _ h => ⟨_, (bl_append s t).symm, h⟩
  repeat' (
      conv => whnf
      first
      | refine req_i ?_ ?_
      | refine when_i ?_ ?_
      | refine brn_not ?_
      | refine brn_dec (fun h => ?_) (fun h => ?_)
      | refine brn_int (fun h => ?_) (fun h => ?_)
      | refine brn_intne (fun h => ?_) (fun h => ?_)
      | refine brn_str (fun h => ?_) (fun h => ?_)
      | refine brn_i (fun h => ?_) (fun h => ?_)
      | with_reducible refine IdxK.mk _ rfl ?_
      | with_reducible refine idx_blI ?_ (fun hc => ?_)
      | with_reducible refine idx_bl ?_ (fun hc => ?_)
      | with_reducible refine idx_strI ?_ (fun hc => ?_)
      | with_reducible refine idx_str ?_ (fun hc => ?_)
      | with_reducible refine idx_mapDI ?_ ?_
      | with_reducible refine idx_mapD ?_ ?_
      | with_reducible refine idx_at ?_ (fun b hb => ?_)
      | refine ex_bl ?_
      | refine ex_b1 ?_ ?_
      | refine ex_b2 ?_ ?_ ?_
      | refine ex_b3 ?_ ?_ ?_ ?_
      | refine ex_b4 ?_ ?_ ?_ ?_ ?_
      | refine optK_setL ?_ ?_
      | refine optK_takeL ?_ ?_
      | with_reducible refine forceDs_i ?_
      )
  all_goals try (conv => whnf)
  all_goals try (refine Side.mk ?_; try dsimp only)
  all_goals (try simp only [Cu_eta] at *)
  all_goals first
    | (show LoopP _ _ _ _; skip)
    | (show GotoP _ _ _ _ _; skip)
    | (show EndP _ _ _ _ _ _; skip)
    | (show ∃ _, _; skip)
    | (first
          | trivial
          | omega
          | (simp (discharger := omega) only [wu8, wu16, wu32, wu64, wi32, wi64, Int.tdiv_eq_ediv_of_nonneg, Int.tmod_eq_emod_of_nonneg]; omega)
          | (simp only [List.length_append, List.length_cons, List.length_nil, bl_length, List.length_take, List.length_drop]; omega)
          | (simp (discharger := omega) [-List.getD_eq_getElem?_getD, wu8, wu16, wu32, wu64, wi32, wi64, Int.tdiv_eq_ediv_of_nonneg, Int.tmod_eq_emod_of_nonneg]; done)
          | (simp (discharger := omega) [-List.getD_eq_getElem?_getD, wu8, wu16, wu32, wu64, wi32, wi64, Int.tdiv_eq_ediv_of_nonneg, Int.tmod_eq_emod_of_nonneg]; omega))
    | skip
  refine ex2 ?_
  repeat' (
      conv => whnf
      first
      | refine req_i ?_ ?_
      | refine when_i ?_ ?_
      | refine brn_not ?_
      | refine brn_dec (fun h => ?_) (fun h => ?_)
      | refine brn_int (fun h => ?_) (fun h => ?_)
      | refine brn_intne (fun h => ?_) (fun h => ?_)
      | refine brn_str (fun h => ?_) (fun h => ?_)
      | refine brn_i (fun h => ?_) (fun h => ?_)
      | with_reducible refine IdxK.mk _ rfl ?_
      | with_reducible refine idx_blI ?_ (fun hc => ?_)
      | with_reducible refine idx_bl ?_ (fun hc => ?_)
      | with_reducible refine idx_strI ?_ (fun hc => ?_)
      | with_reducible refine idx_str ?_ (fun hc => ?_)
      | with_reducible refine idx_mapDI ?_ ?_
      | with_reducible refine idx_mapD ?_ ?_
      | with_reducible refine idx_at ?_ (fun b hb => ?_)
      | refine ex_bl ?_
      | refine ex_b1 ?_ ?_
      | refine ex_b2 ?_ ?_ ?_
      | refine ex_b3 ?_ ?_ ?_ ?_
      | refine ex_b4 ?_ ?_ ?_ ?_ ?_
      | refine optK_setL ?_ ?_
      | refine optK_takeL ?_ ?_
      | with_reducible refine forceDs_i ?_
      )
  all_goals try (conv => whnf)
  all_goals try (refine Side.mk ?_; try dsimp only)
  all_goals (try simp only [hbb] at *)
  all_goals (try simp only [Cu_eta] at *)
  all_goals first
    | (show LoopP _ _ _ _; skip)
    | (show GotoP _ _ _ _ _; skip)
    | (show EndP _ _ _ _ _ _; skip)
    | (show ∃ _, _; skip)
    | (first
          | trivial
          | omega
          | (simp (discharger := omega) only [wu8, wu16, wu32, wu64, wi32, wi64, Int.tdiv_eq_ediv_of_nonneg, Int.tmod_eq_emod_of_nonneg]; omega)
          | (simp only [List.length_append, List.length_cons, List.length_nil, bl_length, List.length_take, List.length_drop]; omega)
          | (simp (discharger := omega) [-List.getD_eq_getElem?_getD, wu8, wu16, wu32, wu64, wi32, wi64, Int.tdiv_eq_ediv_of_nonneg, Int.tmod_eq_emod_of_nonneg]; done)
          | (simp (discharger := omega) [-List.getD_eq_getElem?_getD, wu8, wu16, wu32, wu64, wi32, wi64, Int.tdiv_eq_ediv_of_nonneg, Int.tmod_eq_emod_of_nonneg]; omega))
    | skip
  all_goals first
    | omega
    | exact ⟨by omega, by omega⟩
    | exact absurd rfl (by assumption)
    | (show EndP _ _ _ _ _ _
       refine EndP.mk [] ?_ <;> (repeat' (first | trivial | rfl | exact scopedL_bl _ _ | refine And.intro ?_ ?_ | refine congrArg V.str ?_ | refine congrArg (V.int _) ?_ | refine congrArg V.bool ?_ | refine congrArg (O.buf _ _) ?_ | refine congrArg O.cells ?_ | refine congrArg (V.list _ _) ?_ | refine congrArg V.agg ?_ | refine congrArg V.tuple ?_ | refine cons_eq ?_ ?_))
       done)
    | skip
def sm_lawPuts12 : Sm := fun args σ => match args, σ with
  | [.str p, .agg [.int .u8 n_k, .str t]], [] => some ((0 ≤ n_k ∧ n_k ≤ 255) ∧ (p.length + t.length ≤ 2000000), .bool true, none)
  | _, _ => none
theorem k_lawPuts12 : SOK 4 sm_lawPuts12 := by
  intro args sg pre x r he hp
  unfold sm_lawPuts12 at he
  split at he <;> cases he
  · rw [viewB (hp).1]; exact f_lawPuts12_1 (hp := hp.2) ..
end Go.Proofs.Ytllncocibkgjkaa
