/-
  A text of JSON as the document reads it.
-/
import Derived.Test.YtgbkjecepncjoaaJSp
set_option linter.unusedSimpArgs false
set_option linter.unusedVariables false
set_option maxHeartbeats 4000000
namespace Go.Proofs.Ytgbkjecepncjoaa
open Go Go.VG
set_option maxRecDepth 100000
theorem f_nibD_1 (b : UInt8) (hp : True) : OK 84 ([bv b]) ([]) (.tuple [.int .i64 (nibV b), .bool (nibIs b)]) (none) := by
  refine funOK_of_vc (C := cx []) (good trivial) (fn := Try.f84) rfl rfl rfl rfl fun hw hs => ?_
  have hb : b.toNat < 256 := b.toNat_lt
  repeat' (
      conv => whnf
      first
      | refine req_i ?_ ?_
      | refine when_i ?_ ?_
      | refine brn_not ?_
      | refine brn_dec (fun h => ?_) (fun h => ?_)
      | refine brn_int (fun h => ?_) (fun h => ?_)
      | refine brn_intne (fun h => ?_) (fun h => ?_)
      | refine brn_str (fun h => ?_) (fun h => ?_)
      | refine brn_i (fun h => ?_) (fun h => ?_)
      | with_reducible refine IdxK.mk _ rfl ?_
      | with_reducible refine idx_blI ?_ (fun hc => ?_)
      | with_reducible refine idx_bl ?_ (fun hc => ?_)
      | with_reducible refine idx_strI ?_ (fun hc => ?_)
      | with_reducible refine idx_str ?_ (fun hc => ?_)
      | with_reducible refine idx_mapDI ?_ ?_
      | with_reducible refine idx_mapD ?_ ?_
      | with_reducible refine idx_at ?_ (fun b hb => ?_)
      | refine ex_bl ?_
      | refine ex_b1 ?_ ?_
      | refine ex_b2 ?_ ?_ ?_
      | refine ex_b3 ?_ ?_ ?_ ?_
      | refine ex_b4 ?_ ?_ ?_ ?_ ?_
      | refine optK_setL ?_ ?_
      | refine optK_takeL ?_ ?_
      | with_reducible refine forceDs_i ?_
      )
  all_goals try (conv => whnf)
  all_goals try (refine Side.mk ?_; try dsimp only)
  all_goals (try simp only [Cu_eta] at *)
  all_goals first
    | (show LoopP _ _ _ _; skip)
    | (show EndP _ _ _ _ _ _; skip)
    | (show ∃ _, _; skip)
    | (first
          | trivial
          | omega
          | (simp (discharger := omega) only [wu8, wu16, wu32, wu64, wi32, wi64, Int.tdiv_eq_ediv_of_nonneg, Int.tmod_eq_emod_of_nonneg]; omega)
          | (simp only [List.length_append, List.length_cons, List.length_nil, bl_length, List.length_take, List.length_drop]; omega)
          | (simp (discharger := omega) [-List.getD_eq_getElem?_getD, wu8, wu16, wu32, wu64, wi32, wi64, Int.tdiv_eq_ediv_of_nonneg, Int.tmod_eq_emod_of_nonneg]; done)
          | (simp (discharger := omega) [-List.getD_eq_getElem?_getD, wu8, wu16, wu32, wu64, wi32, wi64, Int.tdiv_eq_ediv_of_nonneg, Int.tmod_eq_emod_of_nonneg]; omega))
    | skip
  all_goals
    unfold nibV nibIs
    first | rw [decide_eq_true (by omega)] | rw [decide_eq_false (by omega)]
    repeat (first | rw [if_pos (by omega)] | rw [if_neg (by omega)])
    refine EndP.mk [] ?_ <;> (repeat' (first | trivial | rfl | exact scopedL_bl _ _ | refine And.intro ?_ ?_ | refine congrArg V.str ?_ | refine congrArg (V.int _) ?_ | refine congrArg V.bool ?_ | refine congrArg (O.buf _ _) ?_ | refine congrArg O.cells ?_ | refine congrArg (V.list _ _) ?_ | refine congrArg V.agg ?_ | refine congrArg V.tuple ?_ | refine cons_eq ?_ ?_))
  all_goals (first | omega | (simp (discharger := omega) only [wu8, wu16, wu32, wu64, wi32, wi64, Int.tdiv_eq_ediv_of_nonneg, Int.tmod_eq_emod_of_nonneg]; omega) | (simp only [List.length_append, List.length_cons, List.length_nil, bl_length, List.length_take, List.length_drop]; omega) | (simp (discharger := omega) [-List.getD_eq_getElem?_getD, wu8, wu16, wu32, wu64, wi32, wi64, Int.tdiv_eq_ediv_of_nonneg, Int.tmod_eq_emod_of_nonneg]; done) | (simp (discharger := omega) [-List.getD_eq_getElem?_getD, wu8, wu16, wu32, wu64, wi32, wi64, Int.tdiv_eq_ediv_of_nonneg, Int.tmod_eq_emod_of_nonneg]; omega))
def sm_nibD : Sm := fun args σ => match args, σ with
  | [.int .u8 n_b], [] => some ((0 ≤ n_b ∧ n_b ≤ 255) ∧ (True), .tuple [.int .i64 (nibV (byte n_b)), .bool (nibIs (byte n_b))], none)
  | _, _ => none
theorem k_nibD : SOK 84 sm_nibD := by
  intro args sg pre x r he hp
  unfold sm_nibD at he
  split at he <;> cases he
  · rw [viewB (hp).1]; exact f_nibD_1 (hp := hp.2) ..
/-- the number that digits stand for, or what is wrong -/
def digD (t : List UInt8) : Nat → Nat → Int → Int × Int
  | 0, _, n => (n, 0)
  | r + 1, i, n => if t.length ≤ i then (0, 1) else if nibIs (lowB (t.getD i 0)) = true then digD t r (i + 1) (16 * n + nibV (lowB (t.getD i 0))) else (0, 6)
termination_by r => r
def simpleD (b : UInt8) : List UInt8 := if plainIs b = true then [byte (plainV b)] else []
theorem digD_bound (t : List UInt8) : ∀ (r i : Nat) (n : Int) (m : Nat), 0 ≤ n → n < m → 0 < m → 0 ≤ (digD t r i n).1 ∧ (digD t r i n).1 < ((m * 16 ^ r : Nat) : Int)
  | 0, _, n, m, h0, h, _ => by rw [digD]; simpa using ⟨h0, h⟩
  | r + 1, i, n, m, h0, h, hm => by
    have hp : 0 < m * 16 ^ (r + 1) := Nat.mul_pos hm (Nat.pow_pos (by decide))
    have hv := nibV_lt (lowB (t.getD i 0))
    rw [digD]; repeat' split
    · simp only; omega
    · have := digD_bound t r (i + 1) (16 * n + nibV (lowB (t.getD i 0))) (16 * m) (by omega) (by omega) (by omega)
      rw [Nat.pow_succ, ← Nat.mul_assoc, Nat.mul_right_comm, Nat.mul_comm m 16]; exact this
    · simp only; omega
theorem f_r10digits_1 (t : List UInt8) (i : Nat) (hp : t.length ≤ 100000000 ∧ i ≤ 200000000) : OK 79 ([.str t, .int .i64 i]) ([]) (.tuple [.int .i64 (digD t 4 i 0).1, .int .i64 (digD t 4 i 0).2]) (none) := by
  refine funOK_of_vc (C := cx [(84, sm_nibD)]) (good ⟨k_nibD, trivial⟩) (fn := Try.f79) rfl rfl rfl rfl fun hw hs => ?_
  obtain ⟨hl, hi⟩ := hp
  refine LoopP.mk (Nat × Int) (fun | (k, n) => k ≤ 4 ∧ 0 ≤ n ∧ n < ((16 ^ k : Nat) : Int) ∧ digD t (4 - k) (i + k) n = digD t 4 i 0)
    (fun | (k, n) => ⟨45, [(0, .str t), (1, .int .i64 i), (6, .int .i64 n), (7, .int .i64 ((i + k : Nat) : Int))], [], []⟩) (fun x => 4 - x.1) [] (0, 0) ⟨by omega, by omega, by decide, rfl⟩ ?_ (fun ⟨k, n⟩ ⟨hk, hn, hn2, he⟩ _ _ => ?_)
  · refine Go.VG.Sub.mk rfl ?_ ?_ ?_ ?_ <;> (repeat' (first | trivial | rfl | exact scopedL_bl _ _ | refine And.intro ?_ ?_ | refine congrArg V.str ?_ | refine congrArg (V.int _) ?_ | refine congrArg V.bool ?_ | refine congrArg (O.buf _ _) ?_ | refine congrArg O.cells ?_ | refine congrArg (V.list _ _) ?_ | refine congrArg V.agg ?_ | refine congrArg V.tuple ?_ | refine cons_eq ?_ ?_))
  have hw4 : IntKind.i64.wrap ((i : Int) + 4) = i + 4 := by (first | omega | (simp (discharger := omega) only [wu8, wu16, wu32, wu64, wi32, wi64, Int.tdiv_eq_ediv_of_nonneg, Int.tmod_eq_emod_of_nonneg]; omega) | (simp only [List.length_append, List.length_cons, List.length_nil, bl_length, List.length_take, List.length_drop]; omega) | (simp (discharger := omega) [-List.getD_eq_getElem?_getD, wu8, wu16, wu32, wu64, wi32, wi64, Int.tdiv_eq_ediv_of_nonneg, Int.tmod_eq_emod_of_nonneg]; done) | (simp (discharger := omega) [-List.getD_eq_getElem?_getD, wu8, wu16, wu32, wu64, wi32, wi64, Int.tdiv_eq_ediv_of_nonneg, Int.tmod_eq_emod_of_nonneg]; omega))
  have h16 : k < 4 → n < 4096 := fun h => by
    have : (16 : Nat) ^ k ≤ 16 ^ 3 := Nat.pow_le_pow_right (by decide) (by omega)
    omega
  have hb : (t.getD (i + k) 0).toNat < 256 := UInt8.toNat_lt _
  have hv := nibV_lt (lowB (t.getD (i + k) 0))
  have e1 : 65 ≤ (t.getD (i + k) 0).toNat ∧ (t.getD (i + k) 0).toNat ≤ 70 → byte (IntKind.u8.wrap ((t.getD (i + k) 0).toNat + 32)) = lowB (t.getD (i + k) 0) := fun h => by
    unfold lowB; rw [if_pos h, wu8, show (((t.getD (i + k) 0).toNat : Int) + 32) % 256 = (t.getD (i + k) 0).toNat + 32 by omega]
  have e2 : ¬ (65 ≤ (t.getD (i + k) 0).toNat ∧ (t.getD (i + k) 0).toNat ≤ 70) → byte (t.getD (i + k) 0).toNat = lowB (t.getD (i + k) 0) := fun h => by
    unfold lowB; rw [if_neg h, byte_of]
  repeat' (
      conv => whnf
      first
      | refine req_i ?_ ?_
      | refine when_i ?_ ?_
      | refine brn_not ?_
      | refine brn_dec (fun h => ?_) (fun h => ?_)
      | refine brn_int (fun h => ?_) (fun h => ?_)
      | refine brn_intne (fun h => ?_) (fun h => ?_)
      | refine brn_str (fun h => ?_) (fun h => ?_)
      | refine brn_i (fun h => ?_) (fun h => ?_)
      | with_reducible refine IdxK.mk _ rfl ?_
      | with_reducible refine idx_blI ?_ (fun hc => ?_)
      | with_reducible refine idx_bl ?_ (fun hc => ?_)
      | with_reducible refine idx_strI ?_ (fun hc => ?_)
      | with_reducible refine idx_str ?_ (fun hc => ?_)
      | with_reducible refine idx_mapDI ?_ ?_
      | with_reducible refine idx_mapD ?_ ?_
      | with_reducible refine idx_at ?_ (fun b hb => ?_)
      | refine ex_bl ?_
      | refine ex_b1 ?_ ?_
      | refine ex_b2 ?_ ?_ ?_
      | refine ex_b3 ?_ ?_ ?_ ?_
      | refine ex_b4 ?_ ?_ ?_ ?_ ?_
      | refine optK_setL ?_ ?_
      | refine optK_takeL ?_ ?_
      | with_reducible refine forceDs_i ?_
      )
  all_goals try (conv => whnf)
  all_goals try (refine Side.mk ?_; try dsimp only)
  all_goals (try simp only [Cu_eta] at *)
  all_goals first
    | (show LoopP _ _ _ _; skip)
    | (show EndP _ _ _ _ _ _; skip)
    | (show ∃ _, _; skip)
    | (first
          | trivial
          | omega
          | (simp (discharger := omega) only [wu8, wu16, wu32, wu64, wi32, wi64, Int.tdiv_eq_ediv_of_nonneg, Int.tmod_eq_emod_of_nonneg]; omega)
          | (simp only [List.length_append, List.length_cons, List.length_nil, bl_length, List.length_take, List.length_drop]; omega)
          | (simp (discharger := omega) [-List.getD_eq_getElem?_getD, wu8, wu16, wu32, wu64, wi32, wi64, Int.tdiv_eq_ediv_of_nonneg, Int.tmod_eq_emod_of_nonneg]; done)
          | (simp (discharger := omega) [-List.getD_eq_getElem?_getD, wu8, wu16, wu32, wu64, wi32, wi64, Int.tdiv_eq_ediv_of_nonneg, Int.tmod_eq_emod_of_nonneg]; omega))
    | skip
  all_goals (try rw [hw4] at *)
  all_goals (first | rw [e1 (by omega)] at * | rw [e2 (by omega)] at * | skip)
  all_goals first
    | (have hlt : k < 4 := by omega
       rw [show 4 - k = (4 - k - 1) + 1 by omega, digD] at he
       first
       | (rw [if_pos (by omega)] at he
          rw [← he]
          refine EndP.mk [] ?_ <;> (repeat' (first | trivial | rfl | exact scopedL_bl _ _ | refine And.intro ?_ ?_ | refine congrArg V.str ?_ | refine congrArg (V.int _) ?_ | refine congrArg V.bool ?_ | refine congrArg (O.buf _ _) ?_ | refine congrArg O.cells ?_ | refine congrArg (V.list _ _) ?_ | refine congrArg V.agg ?_ | refine congrArg V.tuple ?_ | refine cons_eq ?_ ?_))
          done)
       | (have hn' : nibIs (lowB (t.getD (i + k) 0)) = true := decide_eq_true (by assumption)
          rw [if_neg (by omega), if_pos hn'] at he
          have h3 := h16 hlt
          refine ⟨[], (k + 1, 16 * n + nibV (lowB (t.getD (i + k) 0))), ⟨by omega, by show 0 ≤ 16 * n + _; omega, ?_, ?_⟩, ?_, by show 4 - (k + 1) < 4 - k; omega⟩
          · show 16 * n + _ < ((16 ^ (k + 1) : Nat) : Int)
            rw [Nat.pow_succ]; omega
          · rw [show 4 - (k + 1) = 4 - k - 1 by omega, show i + (k + 1) = i + k + 1 by omega]; exact he
          · refine Go.VG.Sub.mk rfl ?_ ?_ ?_ ?_ <;> (repeat' (first | trivial | rfl | exact scopedL_bl _ _ | refine And.intro ?_ ?_ | refine congrArg V.str ?_ | refine congrArg (V.int _) ?_ | refine congrArg V.bool ?_ | refine congrArg (O.buf _ _) ?_ | refine congrArg O.cells ?_ | refine congrArg (V.list _ _) ?_ | refine congrArg V.agg ?_ | refine congrArg V.tuple ?_ | refine cons_eq ?_ ?_))
            all_goals (first | omega | (simp (discharger := omega) only [wu8, wu16, wu32, wu64, wi32, wi64, Int.tdiv_eq_ediv_of_nonneg, Int.tmod_eq_emod_of_nonneg]; omega) | (simp only [List.length_append, List.length_cons, List.length_nil, bl_length, List.length_take, List.length_drop]; omega) | (simp (discharger := omega) [-List.getD_eq_getElem?_getD, wu8, wu16, wu32, wu64, wi32, wi64, Int.tdiv_eq_ediv_of_nonneg, Int.tmod_eq_emod_of_nonneg]; done) | (simp (discharger := omega) [-List.getD_eq_getElem?_getD, wu8, wu16, wu32, wu64, wi32, wi64, Int.tdiv_eq_ediv_of_nonneg, Int.tmod_eq_emod_of_nonneg]; omega))
          done)
       | (have hn' : nibIs (lowB (t.getD (i + k) 0)) = false := decide_eq_false (by assumption)
          rw [if_neg (by omega), if_neg (by rw [hn']; exact Bool.false_ne_true)] at he
          rw [← he]
          refine EndP.mk [] ?_ <;> (repeat' (first | trivial | rfl | exact scopedL_bl _ _ | refine And.intro ?_ ?_ | refine congrArg V.str ?_ | refine congrArg (V.int _) ?_ | refine congrArg V.bool ?_ | refine congrArg (O.buf _ _) ?_ | refine congrArg O.cells ?_ | refine congrArg (V.list _ _) ?_ | refine congrArg V.agg ?_ | refine congrArg V.tuple ?_ | refine cons_eq ?_ ?_))
          done))
    | skip
  · rw [show 4 - k = 0 by omega, digD] at he
    rw [← he]
    refine EndP.mk [] ?_ <;> (repeat' (first | trivial | rfl | exact scopedL_bl _ _ | refine And.intro ?_ ?_ | refine congrArg V.str ?_ | refine congrArg (V.int _) ?_ | refine congrArg V.bool ?_ | refine congrArg (O.buf _ _) ?_ | refine congrArg O.cells ?_ | refine congrArg (V.list _ _) ?_ | refine congrArg V.agg ?_ | refine congrArg V.tuple ?_ | refine cons_eq ?_ ?_))
def sm_r10digits : Sm := fun args σ => match args, σ with
  | [.str t, .int .i64 (.ofNat i)], [] => some (t.length ≤ 100000000 ∧ i ≤ 200000000, .tuple [.int .i64 (digD t 4 i 0).1, .int .i64 (digD t 4 i 0).2], none)
  | _, _ => none
theorem k_r10digits : SOK 79 sm_r10digits := by
  intro args sg pre x r he hp
  unfold sm_r10digits at he
  split at he <;> cases he
  · exact f_r10digits_1 (hp := hp) ..
end Go.Proofs.Ytgbkjecepncjoaa
