/-
  Whatever bytes there are: the law JstringReads' own loop.
-/
import Derived.Test.YtgbkjecepncjoaaJRw
set_option linter.unusedSimpArgs false
set_option linter.unusedVariables false
set_option maxHeartbeats 4000000
namespace Go.Proofs.Ytgbkjecepncjoaa
open Go Go.VG
set_option maxRecDepth 100000
def rP (s : List UInt8) : Nat → Cu
  | 0 => .new s
  | n + 1 => (rP s n).read.1
def rD (s : List UInt8) : Nat → Cu
  | 0 => .new s
  | n + 1 => (rD s n).readD.1
theorem readD_err {c : Cu} (h : c.c ≠ 0) : c.readD = (c, []) := by unfold Cu.readD; rw [if_pos h]
theorem read_err {c : Cu} (h : c.c ≠ 0) : c.read = (c, []) := by
  have hs : c.start = c := by unfold Cu.start; rw [if_neg (by omega)]
  unfold Cu.read
  rw [hs, (byte_err h).1, readGo_err (by omega) h]
theorem readD_ok {c : Cu} (h : c.ok) : c.readD.1.ok ∧ c.readD.1.s = c.s := by
  by_cases k : c.readD.1.c = 0
  · rw [← (read_eq h).2.2 k]; exact read_ok h
  · have hf : ∀ x : Int, (c.fail x).ok ∧ (c.fail x).s = c.s := fun x => ⟨(fail_ok h x).1, (le_fail c x).1⟩
    revert k
    unfold Cu.readD
    repeat' split
    all_goals intro k
    · exact ⟨h, rfl⟩
    · exact hf _
    · exact hf _
    · rename_i q _ _ _; exact absurd k q
    · exact hf _
theorem both_read (s : List UInt8) : ∀ n, (rP s n).ok ∧ (rD s n).ok ∧ (rP s n).s = s ∧ (rD s n).s = s ∧ (rP s n).c = (rD s n).c ∧ ((rD s n).c = 0 → rP s n = rD s n)
  | 0 => ⟨new_ok s, new_ok s, rfl, rfl, rfl, fun _ => rfl⟩
  | n + 1 => by
    obtain ⟨a, b, c, d, e, f⟩ := both_read s n
    have h1 := read_ok a
    have h2 := readD_ok b
    refine ⟨h1.1, h2.1, h1.2.trans c, h2.2.trans d, ?_, ?_⟩
    · show (rP s n).read.1.c = (rD s n).readD.1.c
      by_cases k : (rD s n).c = 0
      · rw [f k]; exact (read_eq b).2.1
      · rw [readD_err k, read_err (by rw [e]; exact k)]; exact e
    · show (rD s n).readD.1.c = 0 → (rP s n).read.1 = (rD s n).readD.1
      intro q
      by_cases k : (rD s n).c = 0
      · rw [f k]; exact (read_eq b).2.2 q
      · rw [readD_err k] at q; exact absurd q k
theorem f_JstringReads (s : List UInt8) : OK 5 [.str s] [] (.bool true) none := by
  refine funOK_of_vc (C := cx [(17, sm_jsWorks), (18, sm_cNew), (22, sm_r01New), (19, sm_jsRead), (23, sm_r10Read), (20, sm_cErr), (24, sm_cAt)])
    (good ⟨k_jsWorks, k_cNew, k_r01New, k_jsRead, k_r10Read, k_cErr, k_cAt, trivial⟩) (fn := Try.f5) rfl rfl rfl rfl fun hw hs => ?_
  repeat' (
      conv => whnf
      first
      | refine req_i ?_ ?_
      | refine when_i ?_ ?_
      | refine brn_not ?_
      | refine brn_dec (fun h => ?_) (fun h => ?_)
      | refine brn_int (fun h => ?_) (fun h => ?_)
      | refine brn_intne (fun h => ?_) (fun h => ?_)
      | refine brn_str (fun h => ?_) (fun h => ?_)
      | refine brn_i (fun h => ?_) (fun h => ?_)
      | with_reducible refine IdxK.mk _ rfl ?_
      | with_reducible refine idx_blI ?_ (fun hc => ?_)
      | with_reducible refine idx_bl ?_ (fun hc => ?_)
      | with_reducible refine idx_strI ?_ (fun hc => ?_)
      | with_reducible refine idx_str ?_ (fun hc => ?_)
      | with_reducible refine idx_mapDI ?_ ?_
      | with_reducible refine idx_mapD ?_ ?_
      | with_reducible refine idx_at ?_ (fun b hb => ?_)
      | refine ex_bl ?_
      | refine ex_b1 ?_ ?_
      | refine ex_b2 ?_ ?_ ?_
      | refine ex_b3 ?_ ?_ ?_ ?_
      | refine ex_b4 ?_ ?_ ?_ ?_ ?_
      | refine optK_setL ?_ ?_
      | refine optK_takeL ?_ ?_
      | with_reducible refine forceDs_i ?_
      )
  all_goals try (conv => whnf)
  all_goals try (refine Side.mk ?_; try dsimp only)
  all_goals (try simp only [Cu_eta] at *)
  all_goals first
    | (show LoopP _ _ _ _; skip)
    | (show EndP _ _ _ _ _ _; skip)
    | (show ∃ _, _; skip)
    | (first
          | trivial
          | omega
          | (simp (discharger := omega) only [wu8, wu16, wu32, wu64, wi32, wi64, Int.tdiv_eq_ediv_of_nonneg, Int.tmod_eq_emod_of_nonneg]; omega)
          | (simp only [List.length_append, List.length_cons, List.length_nil, bl_length, List.length_take, List.length_drop]; omega)
          | (simp (discharger := omega) [-List.getD_eq_getElem?_getD, wu8, wu16, wu32, wu64, wi32, wi64, Int.tdiv_eq_ediv_of_nonneg, Int.tmod_eq_emod_of_nonneg]; done)
          | (simp (discharger := omega) [-List.getD_eq_getElem?_getD, wu8, wu16, wu32, wu64, wi32, wi64, Int.tdiv_eq_ediv_of_nonneg, Int.tmod_eq_emod_of_nonneg]; omega))
    | skip
  · refine EndP.mk [] ?_ <;> (repeat' (first | trivial | rfl | exact scopedL_bl _ _ | refine And.intro ?_ ?_ | refine congrArg V.str ?_ | refine congrArg (V.int _) ?_ | refine congrArg V.bool ?_ | refine congrArg (O.buf _ _) ?_ | refine congrArg O.cells ?_ | refine congrArg (V.list _ _) ?_ | refine congrArg V.agg ?_ | refine congrArg V.tuple ?_ | refine cons_eq ?_ ?_))
  refine LoopP.mk Nat (fun i => i ≤ 4) (fun i => ⟨50, [(3, .ptr 0 0), (4, .ptr 1 0), (5, .int .i64 i)], [.cells (eC (rP s i)), .cells (eC (rD s i))], []⟩) (fun i => 4 - i) [] 0 (by omega) ?_ (fun i hi _ _ => ?_)
  · refine Go.VG.Sub.mk rfl ?_ ?_ ?_ ?_ <;> (repeat' (first | trivial | rfl | exact scopedL_bl _ _ | refine And.intro ?_ ?_ | refine congrArg V.str ?_ | refine congrArg (V.int _) ?_ | refine congrArg V.bool ?_ | refine congrArg (O.buf _ _) ?_ | refine congrArg O.cells ?_ | refine congrArg (V.list _ _) ?_ | refine congrArg V.agg ?_ | refine congrArg V.tuple ?_ | refine cons_eq ?_ ?_))
  obtain ⟨q1, q2, q3, q4, q5, q6⟩ := both_read s i
  obtain ⟨r1, r2, r3, r4, r5, r6⟩ := both_read s (i + 1)
  have r7 : (rP s i).read.2 = (rD s i).readD.2 := by
    by_cases k : (rD s i).c = 0
    · rw [q6 k]; exact (read_eq q2).1
    · rw [readD_err k, read_err (by rw [q5]; exact k)]
  have r5 : (rP s i).read.1.c = (rD s i).readD.1.c := r5
  have r6 : (rD s i).readD.1.c = 0 → (rP s i).read.1 = (rD s i).readD.1 := r6
  repeat' (
      conv => whnf
      first
      | refine req_i ?_ ?_
      | refine when_i ?_ ?_
      | refine brn_not ?_
      | refine brn_dec (fun h => ?_) (fun h => ?_)
      | refine brn_int (fun h => ?_) (fun h => ?_)
      | refine brn_intne (fun h => ?_) (fun h => ?_)
      | refine brn_str (fun h => ?_) (fun h => ?_)
      | refine brn_i (fun h => ?_) (fun h => ?_)
      | with_reducible refine IdxK.mk _ rfl ?_
      | with_reducible refine idx_blI ?_ (fun hc => ?_)
      | with_reducible refine idx_bl ?_ (fun hc => ?_)
      | with_reducible refine idx_strI ?_ (fun hc => ?_)
      | with_reducible refine idx_str ?_ (fun hc => ?_)
      | with_reducible refine idx_mapDI ?_ ?_
      | with_reducible refine idx_mapD ?_ ?_
      | with_reducible refine idx_at ?_ (fun b hb => ?_)
      | refine ex_bl ?_
      | refine ex_b1 ?_ ?_
      | refine ex_b2 ?_ ?_ ?_
      | refine ex_b3 ?_ ?_ ?_ ?_
      | refine ex_b4 ?_ ?_ ?_ ?_ ?_
      | refine optK_setL ?_ ?_
      | refine optK_takeL ?_ ?_
      | with_reducible refine forceDs_i ?_
      )
  all_goals try (conv => whnf)
  all_goals try (refine Side.mk ?_; try dsimp only)
  all_goals (try simp only [Cu_eta] at *)
  all_goals first
    | (show LoopP _ _ _ _; skip)
    | (show EndP _ _ _ _ _ _; skip)
    | (show ∃ _, _; skip)
    | (first
          | trivial
          | omega
          | (simp (discharger := omega) only [wu8, wu16, wu32, wu64, wi32, wi64, Int.tdiv_eq_ediv_of_nonneg, Int.tmod_eq_emod_of_nonneg]; omega)
          | (simp only [List.length_append, List.length_cons, List.length_nil, bl_length, List.length_take, List.length_drop]; omega)
          | (simp (discharger := omega) [-List.getD_eq_getElem?_getD, wu8, wu16, wu32, wu64, wi32, wi64, Int.tdiv_eq_ediv_of_nonneg, Int.tmod_eq_emod_of_nonneg]; done)
          | (simp (discharger := omega) [-List.getD_eq_getElem?_getD, wu8, wu16, wu32, wu64, wi32, wi64, Int.tdiv_eq_ediv_of_nonneg, Int.tmod_eq_emod_of_nonneg]; omega))
    | skip
  · exact ⟨trivial, q1, by rw [q3]; omega⟩
  · exact ⟨trivial, q2, by rw [q4]; omega⟩
  · refine ⟨[], i + 1, by omega, ?_, by omega⟩
    refine Go.VG.Sub.mk rfl ?_ ?_ ?_ ?_ <;> (repeat' (first | trivial | rfl | exact scopedL_bl _ _ | refine And.intro ?_ ?_ | refine congrArg V.str ?_ | refine congrArg (V.int _) ?_ | refine congrArg V.bool ?_ | refine congrArg (O.buf _ _) ?_ | refine congrArg O.cells ?_ | refine congrArg (V.list _ _) ?_ | refine congrArg V.agg ?_ | refine congrArg V.tuple ?_ | refine cons_eq ?_ ?_))
    (first | omega | (simp (discharger := omega) only [wu8, wu16, wu32, wu64, wi32, wi64, Int.tdiv_eq_ediv_of_nonneg, Int.tmod_eq_emod_of_nonneg]; omega) | (simp only [List.length_append, List.length_cons, List.length_nil, bl_length, List.length_take, List.length_drop]; omega) | (simp (discharger := omega) [-List.getD_eq_getElem?_getD, wu8, wu16, wu32, wu64, wi32, wi64, Int.tdiv_eq_ediv_of_nonneg, Int.tmod_eq_emod_of_nonneg]; done) | (simp (discharger := omega) [-List.getD_eq_getElem?_getD, wu8, wu16, wu32, wu64, wi32, wi64, Int.tdiv_eq_ediv_of_nonneg, Int.tmod_eq_emod_of_nonneg]; omega))
  · have e := congrArg (fun x : Cu => (x.p : Int)) (r6 (by assumption))
    exact absurd e (by assumption)
  · refine ⟨[], i + 1, by omega, ?_, by omega⟩
    refine Go.VG.Sub.mk rfl ?_ ?_ ?_ ?_ <;> (repeat' (first | trivial | rfl | exact scopedL_bl _ _ | refine And.intro ?_ ?_ | refine congrArg V.str ?_ | refine congrArg (V.int _) ?_ | refine congrArg V.bool ?_ | refine congrArg (O.buf _ _) ?_ | refine congrArg O.cells ?_ | refine congrArg (V.list _ _) ?_ | refine congrArg V.agg ?_ | refine congrArg V.tuple ?_ | refine cons_eq ?_ ?_))
    (first | omega | (simp (discharger := omega) only [wu8, wu16, wu32, wu64, wi32, wi64, Int.tdiv_eq_ediv_of_nonneg, Int.tmod_eq_emod_of_nonneg]; omega) | (simp only [List.length_append, List.length_cons, List.length_nil, bl_length, List.length_take, List.length_drop]; omega) | (simp (discharger := omega) [-List.getD_eq_getElem?_getD, wu8, wu16, wu32, wu64, wi32, wi64, Int.tdiv_eq_ediv_of_nonneg, Int.tmod_eq_emod_of_nonneg]; done) | (simp (discharger := omega) [-List.getD_eq_getElem?_getD, wu8, wu16, wu32, wu64, wi32, wi64, Int.tdiv_eq_ediv_of_nonneg, Int.tmod_eq_emod_of_nonneg]; omega))
  · exact absurd r5 (by assumption)
  · exact absurd r7 (by assumption)
  · refine EndP.mk [] ?_ <;> (repeat' (first | trivial | rfl | exact scopedL_bl _ _ | refine And.intro ?_ ?_ | refine congrArg V.str ?_ | refine congrArg (V.int _) ?_ | refine congrArg V.bool ?_ | refine congrArg (O.buf _ _) ?_ | refine congrArg O.cells ?_ | refine congrArg (V.list _ _) ?_ | refine congrArg V.agg ?_ | refine congrArg V.tuple ?_ | refine cons_eq ?_ ?_))
end Go.Proofs.Ytgbkjecepncjoaa
