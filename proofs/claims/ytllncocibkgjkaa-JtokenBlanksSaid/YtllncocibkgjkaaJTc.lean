/-
  The law JtokenBlanks.
-/
import Derived.Test.YtllncocibkgjkaaJTb
set_option linter.unusedSimpArgs false
set_option linter.unusedVariables false
set_option maxHeartbeats 4000000
namespace Go.Proofs.Ytllncocibkgjkaa
open Go Go.VG
set_option maxRecDepth 100000
theorem blk_sub (b : UInt8) : List.drop (b.toNat % 4) (List.take (b.toNat % 4 + 1) ([32, 9, 10, 13] : List UInt8)) = [blkOf b] := by
  unfold blkOf
  have : b.toNat % 4 = 0 ∨ b.toNat % 4 = 1 ∨ b.toNat % 4 = 2 ∨ b.toNat % 4 = 3 := by omega
  rcases this with h | h | h | h <;> rw [h] <;> rfl
theorem vT_len (l : List Tk) : (l.map vT).length = l.length := List.length_map _
theorem sepB_pos {b : List UInt8} {i : Nat} (h : i < b.length) : sepB b i = [32, blkOf (b.getD i 0)] := by unfold sepB; rw [if_pos h]
theorem sepB_neg {b : List UInt8} {i : Nat} (h : ¬ i < b.length) : sepB b i = [32] := by unfold sepB; rw [if_neg h]
theorem joinT_none (f : Nat → List UInt8) (i : Nat) : joinT f [] i = [] := rfl
attribute [local irreducible] joinT sepB textT blkOf
theorem f_blanksR {A : List UInt8 → List Tk × Int} (hA : ∀ s, A s = allT s) (s b : List UInt8) : OK 3 [.str s, .list false 1 (bl b)] [] (.bool true) none := by
  refine funOK_of_vc (C := cx [(10, sm_jtWorks), (11, smAllR A), (12, sm_jtPut), (14, sm_lawBack12), (13, sm_r12Same)]) (good ⟨k_jtWorks, k_allR hA, k_jtPut, k_lawBack12, k_r12Same, trivial⟩) (fn := Try.f3) rfl rfl rfl rfl fun hw hs => ?_
  have hfew : (A s).1.length ≤ s.length := by rw [hA]; exact allT_few s
  have htx : ∀ t ∈ (A s).1, t.t.length ≤ 4 * s.length := by rw [hA]; exact allT_txt s
  have hnone : (A s).2 ≠ 0 → (A s).1 = [] := by rw [hA]; exact allT_none
  have hjoin : A (joinT (sepB b) (A s).1 0 ++ [13, 10]) = ((A s).1, 0) := by
    rw [hA, hA]
    exact allT_join (sepB b) (sepB_sep b) (z := [13, 10]) (by simp) (by intro x hx; simp at hx; rcases hx with rfl | rfl <;> decide) s
  have hbb := bl_length b
  have hml : ((A s).1.map vT).length = (A s).1.length := List.length_map _
  repeat' (
      conv => whnf
      first
      | refine req_i ?_ ?_
      | refine when_i ?_ ?_
      | refine brn_not ?_
      | refine brn_dec (fun h => ?_) (fun h => ?_)
      | refine brn_int (fun h => ?_) (fun h => ?_)
      | refine brn_intne (fun h => ?_) (fun h => ?_)
      | refine brn_str (fun h => ?_) (fun h => ?_)
      | refine brn_i (fun h => ?_) (fun h => ?_)
      | with_reducible refine IdxK.mk _ rfl ?_
      | with_reducible refine idx_blI ?_ (fun hc => ?_)
      | with_reducible refine idx_bl ?_ (fun hc => ?_)
      | with_reducible refine idx_strI ?_ (fun hc => ?_)
      | with_reducible refine idx_str ?_ (fun hc => ?_)
      | with_reducible refine idx_mapDI ?_ ?_
      | with_reducible refine idx_mapD ?_ ?_
      | with_reducible refine idx_at ?_ (fun b hb => ?_)
      | refine ex_bl ?_
      | refine ex_b1 ?_ ?_
      | refine ex_b2 ?_ ?_ ?_
      | refine ex_b3 ?_ ?_ ?_ ?_
      | refine ex_b4 ?_ ?_ ?_ ?_ ?_
      | refine optK_setL ?_ ?_
      | refine optK_takeL ?_ ?_
      | with_reducible refine forceDs_i ?_
      )
  all_goals try (conv => whnf)
  all_goals try (refine Side.mk ?_; try dsimp only)
  all_goals (try simp only [Cu_eta] at *)
  all_goals first
    | (show LoopP _ _ _ _; skip)
    | (show GotoP _ _ _ _ _; skip)
    | (show EndP _ _ _ _ _ _; skip)
    | (show ∃ _, _; skip)
    | (first
          | trivial
          | omega
          | (simp (discharger := omega) only [wu8, wu16, wu32, wu64, wi32, wi64, Int.tdiv_eq_ediv_of_nonneg, Int.tmod_eq_emod_of_nonneg]; omega)
          | (simp only [List.length_append, List.length_cons, List.length_nil, bl_length, List.length_take, List.length_drop]; omega)
          | (simp (discharger := omega) [-List.getD_eq_getElem?_getD, wu8, wu16, wu32, wu64, wi32, wi64, Int.tdiv_eq_ediv_of_nonneg, Int.tmod_eq_emod_of_nonneg]; done)
          | (simp (discharger := omega) [-List.getD_eq_getElem?_getD, wu8, wu16, wu32, wu64, wi32, wi64, Int.tdiv_eq_ediv_of_nonneg, Int.tmod_eq_emod_of_nonneg]; omega))
    | skip
  all_goals first
    | (exfalso; omega)
    | (show EndP _ _ _ _ _ _
       refine EndP.mk [] ?_ <;> (repeat' (first | trivial | rfl | exact scopedL_bl _ _ | refine And.intro ?_ ?_ | refine congrArg V.str ?_ | refine congrArg (V.int _) ?_ | refine congrArg V.bool ?_ | refine congrArg (O.buf _ _) ?_ | refine congrArg O.cells ?_ | refine congrArg (V.list _ _) ?_ | refine congrArg V.agg ?_ | refine congrArg V.tuple ?_ | refine cons_eq ?_ ?_))
       done)
    | skip
  · have hs3 : s.length ≤ 300 := by omega
    refine LoopP.mk (Nat × List UInt8) (fun | (i, t) => i ≤ (A s).1.length ∧ t = joinT (sepB b) ((A s).1.take i) 0) (fun | (i, t) => ⟨96, [(0, .str s), (1, .list false 1 (bl b)), (5, .buf 0), (6, .int .i64 (A s).2), (7, .str t), (8, .int .i64 i)], [.buf 2 0 ((A s).1.map vT)], []⟩) (fun x => (A s).1.length - x.1) [] (0, []) ⟨Nat.zero_le _, (joinT_none _ _).symm⟩ ?_ (fun ⟨i, t⟩ ⟨hi, hj⟩ _ _ => ?_)
    · refine Go.VG.Sub.mk rfl ?_ ?_ ?_ ?_ <;> (repeat' (first | trivial | rfl | exact scopedL_bl _ _ | refine And.intro ?_ ?_ | refine congrArg V.str ?_ | refine congrArg (V.int _) ?_ | refine congrArg V.bool ?_ | refine congrArg (O.buf _ _) ?_ | refine congrArg O.cells ?_ | refine congrArg (V.list _ _) ?_ | refine congrArg V.agg ?_ | refine congrArg V.tuple ?_ | refine cons_eq ?_ ?_))
    have hjl := joinT_upto (sepB b) (sepB_len b) (m := 1200) ((A s).1.take i) 0 (fun t ht => by have := htx t (List.mem_of_mem_take ht); omega)
    have hjm : ((A s).1.take i).length * (6 * 1200 + 5 + 2) ≤ 300 * (6 * 1200 + 5 + 2) := Nat.mul_le_mul_right _ (by rw [List.length_take]; omega)
    rw [← hj] at hjl
    have htl0 : t.length ≤ 2200000 := by omega
    have hsn : i < (A s).1.length → t ++ (sepB b i ++ textT ((A s).1.getD i default)) = joinT (sepB b) ((A s).1.take (i + 1)) 0 := fun h => by
      rw [List.take_add_one, List.getElem?_eq_getElem h]
      show _ = joinT (sepB b) (_ ++ [_]) 0
      rw [joinT_snoc, List.length_take, Nat.min_eq_left (by omega), Nat.zero_add, ← hj, List.getD_eq_getElem?_getD, List.getElem?_eq_getElem h]; rfl
    have htl : i < (A s).1.length → ((A s).1.getD i default).t.length ≤ 1200 := fun h => by
      rw [List.getD_eq_getElem?_getD, List.getElem?_eq_getElem h]
      have := htx _ (List.getElem_mem h)
      show ((A s).1[i]).t.length ≤ 1200; omega
    have htt := textT_len ((A s).1.getD i default)
    have hk := ((A s).1.getD i default).k.toNat_lt
    have heta : Tk.mk (byte ↑((A s).1.getD i default).k.toNat) ((A s).1.getD i default).t = (A s).1.getD i default := by rw [byte_of]
    have hx := (b.getD i 0).toNat_lt
    have hbk : List.drop (((b.getD i 0).toNat : Int).tmod 4).toNat (List.take (IntKind.u8.wrap (((b.getD i 0).toNat : Int).tmod 4 + 1)).toNat ([32, 9, 10, 13] : List UInt8)) = [blkOf (b.getD i 0)] := by
      rw [show (((b.getD i 0).toNat : Int).tmod 4).toNat = (b.getD i 0).toNat % 4 by (first | omega | (simp (discharger := omega) only [wu8, wu16, wu32, wu64, wi32, wi64, Int.tdiv_eq_ediv_of_nonneg, Int.tmod_eq_emod_of_nonneg]; omega) | (simp only [List.length_append, List.length_cons, List.length_nil, bl_length, List.length_take, List.length_drop]; omega) | (simp (discharger := omega) [-List.getD_eq_getElem?_getD, wu8, wu16, wu32, wu64, wi32, wi64, Int.tdiv_eq_ediv_of_nonneg, Int.tmod_eq_emod_of_nonneg]; done) | (simp (discharger := omega) [-List.getD_eq_getElem?_getD, wu8, wu16, wu32, wu64, wi32, wi64, Int.tdiv_eq_ediv_of_nonneg, Int.tmod_eq_emod_of_nonneg]; omega)), show (IntKind.u8.wrap (((b.getD i 0).toNat : Int).tmod 4 + 1)).toNat = (b.getD i 0).toNat % 4 + 1 by (first | omega | (simp (discharger := omega) only [wu8, wu16, wu32, wu64, wi32, wi64, Int.tdiv_eq_ediv_of_nonneg, Int.tmod_eq_emod_of_nonneg]; omega) | (simp only [List.length_append, List.length_cons, List.length_nil, bl_length, List.length_take, List.length_drop]; omega) | (simp (discharger := omega) [-List.getD_eq_getElem?_getD, wu8, wu16, wu32, wu64, wi32, wi64, Int.tdiv_eq_ediv_of_nonneg, Int.tmod_eq_emod_of_nonneg]; done) | (simp (discharger := omega) [-List.getD_eq_getElem?_getD, wu8, wu16, wu32, wu64, wi32, wi64, Int.tdiv_eq_ediv_of_nonneg, Int.tmod_eq_emod_of_nonneg]; omega))]
      exact blk_sub _
    have hpos : i < b.length → sepB b i = [32, blkOf (b.getD i 0)] := sepB_pos
    have hneg : ¬ i < b.length → sepB b i = [32] := sepB_neg
    have hend : ¬ i < (A s).1.length → A (t ++ [13, 10]) = ((A s).1, 0) := fun h => by
      rw [hj, List.take_of_length_le (by omega)]; exact hjoin
    repeat' (
        conv => whnf
        first
        | refine req_i ?_ ?_
        | refine when_i ?_ ?_
        | refine brn_not ?_
        | refine brn_dec (fun h => ?_) (fun h => ?_)
        | refine brn_int (fun h => ?_) (fun h => ?_)
        | refine brn_intne (fun h => ?_) (fun h => ?_)
        | refine brn_str (fun h => ?_) (fun h => ?_)
        | refine brn_i (fun h => ?_) (fun h => ?_)
        | with_reducible refine IdxK.mk _ rfl ?_
        | with_reducible refine idx_blI ?_ (fun hc => ?_)
        | with_reducible refine idx_bl ?_ (fun hc => ?_)
        | with_reducible refine idx_strI ?_ (fun hc => ?_)
        | with_reducible refine idx_str ?_ (fun hc => ?_)
        | with_reducible refine idx_mapDI ?_ ?_
        | with_reducible refine idx_mapD ?_ ?_
        | with_reducible refine idx_at ?_ (fun b hb => ?_)
        | refine ex_bl ?_
        | refine ex_b1 ?_ ?_
        | refine ex_b2 ?_ ?_ ?_
        | refine ex_b3 ?_ ?_ ?_ ?_
        | refine ex_b4 ?_ ?_ ?_ ?_ ?_
        | refine optK_setL ?_ ?_
        | refine optK_takeL ?_ ?_
        | with_reducible refine forceDs_i ?_
        )
    all_goals try (conv => whnf)
    all_goals try (refine Side.mk ?_; try dsimp only)
    all_goals (try simp only [hbk, heta] at *)
    all_goals (try simp only [Cu_eta] at *)
    all_goals first
      | (show LoopP _ _ _ _; skip)
      | (show GotoP _ _ _ _ _; skip)
      | (show EndP _ _ _ _ _ _; skip)
      | (show ∃ _, _; skip)
      | (first
            | trivial
            | omega
            | (simp (discharger := omega) only [wu8, wu16, wu32, wu64, wi32, wi64, Int.tdiv_eq_ediv_of_nonneg, Int.tmod_eq_emod_of_nonneg]; omega)
            | (simp only [List.length_append, List.length_cons, List.length_nil, bl_length, List.length_take, List.length_drop]; omega)
            | (simp (discharger := omega) [-List.getD_eq_getElem?_getD, wu8, wu16, wu32, wu64, wi32, wi64, Int.tdiv_eq_ediv_of_nonneg, Int.tmod_eq_emod_of_nonneg]; done)
            | (simp (discharger := omega) [-List.getD_eq_getElem?_getD, wu8, wu16, wu32, wu64, wi32, wi64, Int.tdiv_eq_ediv_of_nonneg, Int.tmod_eq_emod_of_nonneg]; omega))
      | skip
    all_goals first
      | (show EndP _ _ _ _ _ _
         refine EndP.mk [] ?_ <;> (repeat' (first | trivial | rfl | exact scopedL_bl _ _ | refine And.intro ?_ ?_ | refine congrArg V.str ?_ | refine congrArg (V.int _) ?_ | refine congrArg V.bool ?_ | refine congrArg (O.buf _ _) ?_ | refine congrArg O.cells ?_ | refine congrArg (V.list _ _) ?_ | refine congrArg V.agg ?_ | refine congrArg V.tuple ?_ | refine cons_eq ?_ ?_))
         done)
      | (show (_ ∧ _) ∧ _
         have := htl (by omega)
         exact ⟨by omega, by omega⟩)
      | (show (_ : Nat) ≤ _
         have := htl (by omega)
         simp only [List.length_append, List.length_cons, List.length_nil]
         omega)
      | (show (_ : Int) = _
         exact absurd (show (A (t ++ [13, 10])).2 = 0 by rw [hend (by omega)]) (by assumption))
      | skip
    · refine ⟨[], (i + 1, t ++ [32] ++ [blkOf (b.getD i 0)] ++ textT ((A s).1.getD i default)), ⟨by omega, ?_⟩, ?_, by show (A s).1.length - (i + 1) < (A s).1.length - i; omega⟩
      · rw [← hsn (by omega), hpos (by omega)]
        simp only [List.append_assoc, List.cons_append, List.nil_append]
      refine Go.VG.Sub.mk rfl ?_ ?_ ?_ ?_
      · repeat' (refine And.intro ?_ ?_)
        all_goals (try (with_reducible rfl))
        all_goals first
          | (refine congrArg (V.int .i64) ?_; (first | omega | (simp (discharger := omega) only [wu8, wu16, wu32, wu64, wi32, wi64, Int.tdiv_eq_ediv_of_nonneg, Int.tmod_eq_emod_of_nonneg]; omega) | (simp only [List.length_append, List.length_cons, List.length_nil, bl_length, List.length_take, List.length_drop]; omega) | (simp (discharger := omega) [-List.getD_eq_getElem?_getD, wu8, wu16, wu32, wu64, wi32, wi64, Int.tdiv_eq_ediv_of_nonneg, Int.tmod_eq_emod_of_nonneg]; done) | (simp (discharger := omega) [-List.getD_eq_getElem?_getD, wu8, wu16, wu32, wu64, wi32, wi64, Int.tdiv_eq_ediv_of_nonneg, Int.tmod_eq_emod_of_nonneg]; omega)))
          | rfl
          | exact scopedL_bl _ _
          | trivial
      · repeat' (refine And.intro ?_ ?_)
        all_goals (try (with_reducible rfl))
        all_goals first
          | rfl
          | trivial
      · rfl
      · rfl
    · refine ⟨[], (i + 1, t ++ [32] ++ textT ((A s).1.getD i default)), ⟨by omega, ?_⟩, ?_, by show (A s).1.length - (i + 1) < (A s).1.length - i; omega⟩
      · rw [← hsn (by omega), hneg (by omega)]
        simp only [List.append_assoc, List.cons_append, List.nil_append]
      refine Go.VG.Sub.mk rfl ?_ ?_ ?_ ?_
      · repeat' (refine And.intro ?_ ?_)
        all_goals (try (with_reducible rfl))
        all_goals first
          | (refine congrArg (V.int .i64) ?_; (first | omega | (simp (discharger := omega) only [wu8, wu16, wu32, wu64, wi32, wi64, Int.tdiv_eq_ediv_of_nonneg, Int.tmod_eq_emod_of_nonneg]; omega) | (simp only [List.length_append, List.length_cons, List.length_nil, bl_length, List.length_take, List.length_drop]; omega) | (simp (discharger := omega) [-List.getD_eq_getElem?_getD, wu8, wu16, wu32, wu64, wi32, wi64, Int.tdiv_eq_ediv_of_nonneg, Int.tmod_eq_emod_of_nonneg]; done) | (simp (discharger := omega) [-List.getD_eq_getElem?_getD, wu8, wu16, wu32, wu64, wi32, wi64, Int.tdiv_eq_ediv_of_nonneg, Int.tmod_eq_emod_of_nonneg]; omega)))
          | rfl
          | exact scopedL_bl _ _
          | trivial
      · repeat' (refine And.intro ?_ ?_)
        all_goals (try (with_reducible rfl))
        all_goals first
          | rfl
          | trivial
      · rfl
      · rfl
    · exact ⟨_, rfl, by omega⟩
    · rw [hend (by omega)]
      exact ⟨_, rfl, by show (A s).1.length ≤ _; omega⟩
    · rw [hend (by omega)]
      exact ⟨_, _, rfl, rfl, rfl, by show (A s).1.length ≤ _; omega⟩
    · exact absurd (show (A (t ++ [13, 10])).2 = 0 by rw [hend (by omega)]) (by assumption)
  · exact absurd (show (((A s).1.map vT).length : Int) = 0 by rw [hnone (by assumption)]; rfl) (by assumption)
theorem f_blanks (s b : List UInt8) : OK 3 [.str s, .list false 1 (bl b)] [] (.bool true) none := f_blanksR (A := allT) (fun _ => rfl) s b
end Go.Proofs.Ytllncocibkgjkaa
