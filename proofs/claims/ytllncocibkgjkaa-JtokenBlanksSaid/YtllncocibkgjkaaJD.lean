/-
  A text of JSON as the document reads it.
-/
import Derived.Test.YtllncocibkgjkaaJSp
set_option linter.unusedSimpArgs false
set_option linter.unusedVariables false
set_option maxHeartbeats 4000000
namespace Go.Proofs.Ytllncocibkgjkaa
open Go Go.VG
set_option maxRecDepth 100000
theorem f_nibD_1 (b : UInt8) (hp : True) : OK 126 ([bv b]) ([]) (.tuple [.int .i64 (nibV b), .bool (nibIs b)]) (none) := by
  refine funOK_of_vc (C := cx []) (good trivial) (fn := Try.f126) rfl rfl rfl rfl fun hw hs => ?_
  have hb : b.toNat < 256 := b.toNat_lt
  repeat' (
      conv => whnf
      first
      | refine req_i ?_ ?_
      | refine when_i ?_ ?_
      | refine brn_not ?_
      | refine brn_dec (fun h => ?_) (fun h => ?_)
      | refine brn_int (fun h => ?_) (fun h => ?_)
      | refine brn_intne (fun h => ?_) (fun h => ?_)
      | refine brn_str (fun h => ?_) (fun h => ?_)
      | refine brn_i (fun h => ?_) (fun h => ?_)
      | with_reducible refine IdxK.mk _ rfl ?_
      | with_reducible refine idx_blI ?_ (fun hc => ?_)
      | with_reducible refine idx_bl ?_ (fun hc => ?_)
      | with_reducible refine idx_strI ?_ (fun hc => ?_)
      | with_reducible refine idx_str ?_ (fun hc => ?_)
      | with_reducible refine idx_mapDI ?_ ?_
      | with_reducible refine idx_mapD ?_ ?_
      | with_reducible refine idx_at ?_ (fun b hb => ?_)
      | refine ex_bl ?_
      | refine ex_b1 ?_ ?_
      | refine ex_b2 ?_ ?_ ?_
      | refine ex_b3 ?_ ?_ ?_ ?_
      | refine ex_b4 ?_ ?_ ?_ ?_ ?_
      | refine optK_setL ?_ ?_
      | refine optK_takeL ?_ ?_
      | with_reducible refine forceDs_i ?_
      )
  all_goals try (conv => whnf)
  all_goals try (refine Side.mk ?_; try dsimp only)
  all_goals (try simp only [Cu_eta] at *)
  all_goals first
    | (show LoopP _ _ _ _; skip)
    | (show GotoP _ _ _ _ _; skip)
    | (show EndP _ _ _ _ _ _; skip)
    | (show ∃ _, _; skip)
    | (first
          | trivial
          | omega
          | (simp (discharger := omega) only [wu8, wu16, wu32, wu64, wi32, wi64, Int.tdiv_eq_ediv_of_nonneg, Int.tmod_eq_emod_of_nonneg]; omega)
          | (simp only [List.length_append, List.length_cons, List.length_nil, bl_length, List.length_take, List.length_drop]; omega)
          | (simp (discharger := omega) [-List.getD_eq_getElem?_getD, wu8, wu16, wu32, wu64, wi32, wi64, Int.tdiv_eq_ediv_of_nonneg, Int.tmod_eq_emod_of_nonneg]; done)
          | (simp (discharger := omega) [-List.getD_eq_getElem?_getD, wu8, wu16, wu32, wu64, wi32, wi64, Int.tdiv_eq_ediv_of_nonneg, Int.tmod_eq_emod_of_nonneg]; omega))
    | skip
  all_goals
    unfold nibV nibIs
    first | rw [decide_eq_true (by omega)] | rw [decide_eq_false (by omega)]
    repeat (first | rw [if_pos (by omega)] | rw [if_neg (by omega)])
    refine EndP.mk [] ?_ <;> (repeat' (first | trivial | rfl | exact scopedL_bl _ _ | refine And.intro ?_ ?_ | refine congrArg V.str ?_ | refine congrArg (V.int _) ?_ | refine congrArg V.bool ?_ | refine congrArg (O.buf _ _) ?_ | refine congrArg O.cells ?_ | refine congrArg (V.list _ _) ?_ | refine congrArg V.agg ?_ | refine congrArg V.tuple ?_ | refine cons_eq ?_ ?_))
  all_goals (first | omega | (simp (discharger := omega) only [wu8, wu16, wu32, wu64, wi32, wi64, Int.tdiv_eq_ediv_of_nonneg, Int.tmod_eq_emod_of_nonneg]; omega) | (simp only [List.length_append, List.length_cons, List.length_nil, bl_length, List.length_take, List.length_drop]; omega) | (simp (discharger := omega) [-List.getD_eq_getElem?_getD, wu8, wu16, wu32, wu64, wi32, wi64, Int.tdiv_eq_ediv_of_nonneg, Int.tmod_eq_emod_of_nonneg]; done) | (simp (discharger := omega) [-List.getD_eq_getElem?_getD, wu8, wu16, wu32, wu64, wi32, wi64, Int.tdiv_eq_ediv_of_nonneg, Int.tmod_eq_emod_of_nonneg]; omega))
def sm_nibD : Sm := fun args σ => match args, σ with
  | [.int .u8 n_b], [] => some ((0 ≤ n_b ∧ n_b ≤ 255) ∧ (True), .tuple [.int .i64 (nibV (byte n_b)), .bool (nibIs (byte n_b))], none)
  | _, _ => none
theorem k_nibD : SOK 126 sm_nibD := by
  intro args sg pre x r he hp
  unfold sm_nibD at he
  split at he <;> cases he
  · rw [viewB (hp).1]; exact f_nibD_1 (hp := hp.2) ..
/-- the number that digits stand for, or what is wrong -/
def digD (t : List UInt8) : Nat → Nat → Int → Int × Int
  | 0, _, n => (n, 0)
  | r + 1, i, n => if t.length ≤ i then (0, 1) else if nibIs (lowB (t.getD i 0)) = true then digD t r (i + 1) (16 * n + nibV (lowB (t.getD i 0))) else (0, 6)
termination_by r => r
def simpleD (b : UInt8) : List UInt8 := if plainIs b = true then [byte (plainV b)] else []
theorem digD_bound (t : List UInt8) : ∀ (r i : Nat) (n : Int) (m : Nat), 0 ≤ n → n < m → 0 < m → 0 ≤ (digD t r i n).1 ∧ (digD t r i n).1 < ((m * 16 ^ r : Nat) : Int)
  | 0, _, n, m, h0, h, _ => by rw [digD]; simpa using ⟨h0, h⟩
  | r + 1, i, n, m, h0, h, hm => by
    have hp : 0 < m * 16 ^ (r + 1) := Nat.mul_pos hm (Nat.pow_pos (by decide))
    have hv := nibV_lt (lowB (t.getD i 0))
    rw [digD]; repeat' split
    · simp only; omega
    · have := digD_bound t r (i + 1) (16 * n + nibV (lowB (t.getD i 0))) (16 * m) (by omega) (by omega) (by omega)
      rw [Nat.pow_succ, ← Nat.mul_assoc, Nat.mul_right_comm, Nat.mul_comm m 16]; exact this
    · simp only; omega
theorem f_r10digits_1 (t : List UInt8) (i : Nat) (hp : t.length ≤ 100000000 ∧ i ≤ 200000000) : OK 117 ([.str t, .int .i64 i]) ([]) (.tuple [.int .i64 (digD t 4 i 0).1, .int .i64 (digD t 4 i 0).2]) (none) := by
  refine funOK_of_vc (C := cx [(126, sm_nibD)]) (good ⟨k_nibD, trivial⟩) (fn := Try.f117) rfl rfl rfl rfl fun hw hs => ?_
  obtain ⟨hl, hi⟩ := hp
  refine LoopP.mk (Nat × Int) (fun | (k, n) => k ≤ 4 ∧ 0 ≤ n ∧ n < ((16 ^ k : Nat) : Int) ∧ digD t (4 - k) (i + k) n = digD t 4 i 0)
    (fun | (k, n) => ⟨45, [(0, .str t), (1, .int .i64 i), (6, .int .i64 n), (7, .int .i64 ((i + k : Nat) : Int))], [], []⟩) (fun x => 4 - x.1) [] (0, 0) ⟨by omega, by omega, by decide, rfl⟩ ?_ (fun ⟨k, n⟩ ⟨hk, hn, hn2, he⟩ _ _ => ?_)
  · refine Go.VG.Sub.mk rfl ?_ ?_ ?_ ?_ <;> (repeat' (first | trivial | rfl | exact scopedL_bl _ _ | refine And.intro ?_ ?_ | refine congrArg V.str ?_ | refine congrArg (V.int _) ?_ | refine congrArg V.bool ?_ | refine congrArg (O.buf _ _) ?_ | refine congrArg O.cells ?_ | refine congrArg (V.list _ _) ?_ | refine congrArg V.agg ?_ | refine congrArg V.tuple ?_ | refine cons_eq ?_ ?_))
  have hw4 : IntKind.i64.wrap ((i : Int) + 4) = i + 4 := by (first | omega | (simp (discharger := omega) only [wu8, wu16, wu32, wu64, wi32, wi64, Int.tdiv_eq_ediv_of_nonneg, Int.tmod_eq_emod_of_nonneg]; omega) | (simp only [List.length_append, List.length_cons, List.length_nil, bl_length, List.length_take, List.length_drop]; omega) | (simp (discharger := omega) [-List.getD_eq_getElem?_getD, wu8, wu16, wu32, wu64, wi32, wi64, Int.tdiv_eq_ediv_of_nonneg, Int.tmod_eq_emod_of_nonneg]; done) | (simp (discharger := omega) [-List.getD_eq_getElem?_getD, wu8, wu16, wu32, wu64, wi32, wi64, Int.tdiv_eq_ediv_of_nonneg, Int.tmod_eq_emod_of_nonneg]; omega))
  have h16 : k < 4 → n < 4096 := fun h => by
    have : (16 : Nat) ^ k ≤ 16 ^ 3 := Nat.pow_le_pow_right (by decide) (by omega)
    omega
  have hb : (t.getD (i + k) 0).toNat < 256 := UInt8.toNat_lt _
  have hv := nibV_lt (lowB (t.getD (i + k) 0))
  have e1 : 65 ≤ (t.getD (i + k) 0).toNat ∧ (t.getD (i + k) 0).toNat ≤ 70 → byte (IntKind.u8.wrap ((t.getD (i + k) 0).toNat + 32)) = lowB (t.getD (i + k) 0) := fun h => by
    unfold lowB; rw [if_pos h, wu8, show (((t.getD (i + k) 0).toNat : Int) + 32) % 256 = (t.getD (i + k) 0).toNat + 32 by omega]
  have e2 : ¬ (65 ≤ (t.getD (i + k) 0).toNat ∧ (t.getD (i + k) 0).toNat ≤ 70) → byte (t.getD (i + k) 0).toNat = lowB (t.getD (i + k) 0) := fun h => by
    unfold lowB; rw [if_neg h, byte_of]
  repeat' (
      conv => whnf
      first
      | refine req_i ?_ ?_
      | refine when_i ?_ ?_
      | refine brn_not ?_
      | refine brn_dec (fun h => ?_) (fun h => ?_)
      | refine brn_int (fun h => ?_) (fun h => ?_)
      | refine brn_intne (fun h => ?_) (fun h => ?_)
      | refine brn_str (fun h => ?_) (fun h => ?_)
      | refine brn_i (fun h => ?_) (fun h => ?_)
      | with_reducible refine IdxK.mk _ rfl ?_
      | with_reducible refine idx_blI ?_ (fun hc => ?_)
      | with_reducible refine idx_bl ?_ (fun hc => ?_)
      | with_reducible refine idx_strI ?_ (fun hc => ?_)
      | with_reducible refine idx_str ?_ (fun hc => ?_)
      | with_reducible refine idx_mapDI ?_ ?_
      | with_reducible refine idx_mapD ?_ ?_
      | with_reducible refine idx_at ?_ (fun b hb => ?_)
      | refine ex_bl ?_
      | refine ex_b1 ?_ ?_
      | refine ex_b2 ?_ ?_ ?_
      | refine ex_b3 ?_ ?_ ?_ ?_
      | refine ex_b4 ?_ ?_ ?_ ?_ ?_
      | refine optK_setL ?_ ?_
      | refine optK_takeL ?_ ?_
      | with_reducible refine forceDs_i ?_
      )
  all_goals try (conv => whnf)
  all_goals try (refine Side.mk ?_; try dsimp only)
  all_goals (try simp only [Cu_eta] at *)
  all_goals first
    | (show LoopP _ _ _ _; skip)
    | (show GotoP _ _ _ _ _; skip)
    | (show EndP _ _ _ _ _ _; skip)
    | (show ∃ _, _; skip)
    | (first
          | trivial
          | omega
          | (simp (discharger := omega) only [wu8, wu16, wu32, wu64, wi32, wi64, Int.tdiv_eq_ediv_of_nonneg, Int.tmod_eq_emod_of_nonneg]; omega)
          | (simp only [List.length_append, List.length_cons, List.length_nil, bl_length, List.length_take, List.length_drop]; omega)
          | (simp (discharger := omega) [-List.getD_eq_getElem?_getD, wu8, wu16, wu32, wu64, wi32, wi64, Int.tdiv_eq_ediv_of_nonneg, Int.tmod_eq_emod_of_nonneg]; done)
          | (simp (discharger := omega) [-List.getD_eq_getElem?_getD, wu8, wu16, wu32, wu64, wi32, wi64, Int.tdiv_eq_ediv_of_nonneg, Int.tmod_eq_emod_of_nonneg]; omega))
    | skip
  all_goals (try rw [hw4] at *)
  all_goals (first | rw [e1 (by omega)] at * | rw [e2 (by omega)] at * | skip)
  all_goals first
    | (have hlt : k < 4 := by omega
       rw [show 4 - k = (4 - k - 1) + 1 by omega, digD] at he
       first
       | (rw [if_pos (by omega)] at he
          rw [← he]
          refine EndP.mk [] ?_ <;> (repeat' (first | trivial | rfl | exact scopedL_bl _ _ | refine And.intro ?_ ?_ | refine congrArg V.str ?_ | refine congrArg (V.int _) ?_ | refine congrArg V.bool ?_ | refine congrArg (O.buf _ _) ?_ | refine congrArg O.cells ?_ | refine congrArg (V.list _ _) ?_ | refine congrArg V.agg ?_ | refine congrArg V.tuple ?_ | refine cons_eq ?_ ?_))
          done)
       | (have hn' : nibIs (lowB (t.getD (i + k) 0)) = true := decide_eq_true (by assumption)
          rw [if_neg (by omega), if_pos hn'] at he
          have h3 := h16 hlt
          refine ⟨[], (k + 1, 16 * n + nibV (lowB (t.getD (i + k) 0))), ⟨by omega, by show 0 ≤ 16 * n + _; omega, ?_, ?_⟩, ?_, by show 4 - (k + 1) < 4 - k; omega⟩
          · show 16 * n + _ < ((16 ^ (k + 1) : Nat) : Int)
            rw [Nat.pow_succ]; omega
          · rw [show 4 - (k + 1) = 4 - k - 1 by omega, show i + (k + 1) = i + k + 1 by omega]; exact he
          · refine Go.VG.Sub.mk rfl ?_ ?_ ?_ ?_ <;> (repeat' (first | trivial | rfl | exact scopedL_bl _ _ | refine And.intro ?_ ?_ | refine congrArg V.str ?_ | refine congrArg (V.int _) ?_ | refine congrArg V.bool ?_ | refine congrArg (O.buf _ _) ?_ | refine congrArg O.cells ?_ | refine congrArg (V.list _ _) ?_ | refine congrArg V.agg ?_ | refine congrArg V.tuple ?_ | refine cons_eq ?_ ?_))
            all_goals (first | omega | (simp (discharger := omega) only [wu8, wu16, wu32, wu64, wi32, wi64, Int.tdiv_eq_ediv_of_nonneg, Int.tmod_eq_emod_of_nonneg]; omega) | (simp only [List.length_append, List.length_cons, List.length_nil, bl_length, List.length_take, List.length_drop]; omega) | (simp (discharger := omega) [-List.getD_eq_getElem?_getD, wu8, wu16, wu32, wu64, wi32, wi64, Int.tdiv_eq_ediv_of_nonneg, Int.tmod_eq_emod_of_nonneg]; done) | (simp (discharger := omega) [-List.getD_eq_getElem?_getD, wu8, wu16, wu32, wu64, wi32, wi64, Int.tdiv_eq_ediv_of_nonneg, Int.tmod_eq_emod_of_nonneg]; omega))
          done)
       | (have hn' : nibIs (lowB (t.getD (i + k) 0)) = false := decide_eq_false (by assumption)
          rw [if_neg (by omega), if_neg (by rw [hn']; exact Bool.false_ne_true)] at he
          rw [← he]
          refine EndP.mk [] ?_ <;> (repeat' (first | trivial | rfl | exact scopedL_bl _ _ | refine And.intro ?_ ?_ | refine congrArg V.str ?_ | refine congrArg (V.int _) ?_ | refine congrArg V.bool ?_ | refine congrArg (O.buf _ _) ?_ | refine congrArg O.cells ?_ | refine congrArg (V.list _ _) ?_ | refine congrArg V.agg ?_ | refine congrArg V.tuple ?_ | refine cons_eq ?_ ?_))
          done))
    | skip
  · rw [show 4 - k = 0 by omega, digD] at he
    rw [← he]
    refine EndP.mk [] ?_ <;> (repeat' (first | trivial | rfl | exact scopedL_bl _ _ | refine And.intro ?_ ?_ | refine congrArg V.str ?_ | refine congrArg (V.int _) ?_ | refine congrArg V.bool ?_ | refine congrArg (O.buf _ _) ?_ | refine congrArg O.cells ?_ | refine congrArg (V.list _ _) ?_ | refine congrArg V.agg ?_ | refine congrArg V.tuple ?_ | refine cons_eq ?_ ?_))
def sm_r10digits : Sm := fun args σ => match args, σ with
  | [.str t, .int .i64 (.ofNat i)], [] => some (t.length ≤ 100000000 ∧ i ≤ 200000000, .tuple [.int .i64 (digD t 4 i 0).1, .int .i64 (digD t 4 i 0).2], none)
  | _, _ => none
theorem k_r10digits : SOK 117 sm_r10digits := by
  intro args sg pre x r he hp
  unfold sm_r10digits at he
  split at he <;> cases he
  · exact f_r10digits_1 (hp := hp) ..
def fromL : List UInt8 := [34, 92, 47, 98, 102, 110, 114, 116]
def toL : List UInt8 := [34, 92, 47, 8, 12, 10, 13, 9]
theorem simple_at : ∀ i, i < 8 → simpleD (fromL.getD i 0) = [toL.getD i 0] := by decide
theorem simple_no {b : UInt8} (h : ∀ j, j < 8 → fromL.getD j 0 ≠ b) : simpleD b = [] := by
  unfold simpleD
  rw [if_neg]
  intro hp
  unfold plainIs at hp
  rw [decide_eq_true_eq] at hp
  have key : ∀ n : Nat, n = b.toNat → ∀ j, j < 8 → fromL.getD j 0 = UInt8.ofNat n → False := fun n hn j hj e => h j hj (by rw [e, hn, UInt8.ofNat_toNat])
  rcases hp with q | q | q | q | q | q | q | q
  · exact key _ q.symm 0 (by decide) rfl
  · exact key _ q.symm 1 (by decide) rfl
  · exact key _ q.symm 2 (by decide) rfl
  · exact key _ q.symm 3 (by decide) rfl
  · exact key _ q.symm 4 (by decide) rfl
  · exact key _ q.symm 5 (by decide) rfl
  · exact key _ q.symm 6 (by decide) rfl
  · exact key _ q.symm 7 (by decide) rfl
theorem f_r10simple_1 (b : UInt8) (hp : True) : OK 116 ([bv b]) ([]) (.str (simpleD b)) (none) := by
  refine funOK_of_vc (C := cx []) (good trivial) (fn := Try.f116) rfl rfl rfl rfl fun hw hs => ?_
  have hb : b.toNat < 256 := b.toNat_lt
  repeat' (
      conv => whnf
      first
      | refine req_i ?_ ?_
      | refine when_i ?_ ?_
      | refine brn_not ?_
      | refine brn_dec (fun h => ?_) (fun h => ?_)
      | refine brn_int (fun h => ?_) (fun h => ?_)
      | refine brn_intne (fun h => ?_) (fun h => ?_)
      | refine brn_str (fun h => ?_) (fun h => ?_)
      | refine brn_i (fun h => ?_) (fun h => ?_)
      | with_reducible refine IdxK.mk _ rfl ?_
      | with_reducible refine idx_blI ?_ (fun hc => ?_)
      | with_reducible refine idx_bl ?_ (fun hc => ?_)
      | with_reducible refine idx_strI ?_ (fun hc => ?_)
      | with_reducible refine idx_str ?_ (fun hc => ?_)
      | with_reducible refine idx_mapDI ?_ ?_
      | with_reducible refine idx_mapD ?_ ?_
      | with_reducible refine idx_at ?_ (fun b hb => ?_)
      | refine ex_bl ?_
      | refine ex_b1 ?_ ?_
      | refine ex_b2 ?_ ?_ ?_
      | refine ex_b3 ?_ ?_ ?_ ?_
      | refine ex_b4 ?_ ?_ ?_ ?_ ?_
      | refine optK_setL ?_ ?_
      | refine optK_takeL ?_ ?_
      | with_reducible refine forceDs_i ?_
      )
  all_goals try (conv => whnf)
  all_goals try (refine Side.mk ?_; try dsimp only)
  all_goals (try simp only [Cu_eta] at *)
  all_goals first
    | (show LoopP _ _ _ _; skip)
    | (show GotoP _ _ _ _ _; skip)
    | (show EndP _ _ _ _ _ _; skip)
    | (show ∃ _, _; skip)
    | (first
          | trivial
          | omega
          | (simp (discharger := omega) only [wu8, wu16, wu32, wu64, wi32, wi64, Int.tdiv_eq_ediv_of_nonneg, Int.tmod_eq_emod_of_nonneg]; omega)
          | (simp only [List.length_append, List.length_cons, List.length_nil, bl_length, List.length_take, List.length_drop]; omega)
          | (simp (discharger := omega) [-List.getD_eq_getElem?_getD, wu8, wu16, wu32, wu64, wi32, wi64, Int.tdiv_eq_ediv_of_nonneg, Int.tmod_eq_emod_of_nonneg]; done)
          | (simp (discharger := omega) [-List.getD_eq_getElem?_getD, wu8, wu16, wu32, wu64, wi32, wi64, Int.tdiv_eq_ediv_of_nonneg, Int.tmod_eq_emod_of_nonneg]; omega))
    | skip
  refine LoopP.mk Nat (fun i => i ≤ 8 ∧ ∀ j, j < i → fromL.getD j 0 ≠ b) (fun i => ⟨22, [(0, .int .u8 b.toNat), (3, .str fromL), (4, .str toL), (5, .int .i64 i)], [], []⟩) (fun i => 8 - i) [] 0 ⟨by omega, by simp⟩ ?_ (fun i ⟨hi, hj⟩ _ _ => ?_)
  · refine Go.VG.Sub.mk rfl ?_ ?_ ?_ ?_ <;> (repeat' (first | trivial | rfl | exact scopedL_bl _ _ | refine And.intro ?_ ?_ | refine congrArg V.str ?_ | refine congrArg (V.int _) ?_ | refine congrArg V.bool ?_ | refine congrArg (O.buf _ _) ?_ | refine congrArg O.cells ?_ | refine congrArg (V.list _ _) ?_ | refine congrArg V.agg ?_ | refine congrArg V.tuple ?_ | refine cons_eq ?_ ?_))
  have hl : fromL.length = 8 := rfl
  have hl2 : toL.length = 8 := rfl
  have ha := simple_at i
  have hx : (fromL.getD i 0).toNat < 256 := UInt8.toNat_lt _
  repeat' (
      conv => whnf
      first
      | refine req_i ?_ ?_
      | refine when_i ?_ ?_
      | refine brn_not ?_
      | refine brn_dec (fun h => ?_) (fun h => ?_)
      | refine brn_int (fun h => ?_) (fun h => ?_)
      | refine brn_intne (fun h => ?_) (fun h => ?_)
      | refine brn_str (fun h => ?_) (fun h => ?_)
      | refine brn_i (fun h => ?_) (fun h => ?_)
      | with_reducible refine IdxK.mk _ rfl ?_
      | with_reducible refine idx_blI ?_ (fun hc => ?_)
      | with_reducible refine idx_bl ?_ (fun hc => ?_)
      | with_reducible refine idx_strI ?_ (fun hc => ?_)
      | with_reducible refine idx_str ?_ (fun hc => ?_)
      | with_reducible refine idx_mapDI ?_ ?_
      | with_reducible refine idx_mapD ?_ ?_
      | with_reducible refine idx_at ?_ (fun b hb => ?_)
      | refine ex_bl ?_
      | refine ex_b1 ?_ ?_
      | refine ex_b2 ?_ ?_ ?_
      | refine ex_b3 ?_ ?_ ?_ ?_
      | refine ex_b4 ?_ ?_ ?_ ?_ ?_
      | refine optK_setL ?_ ?_
      | refine optK_takeL ?_ ?_
      | with_reducible refine forceDs_i ?_
      )
  all_goals try (conv => whnf)
  all_goals try (refine Side.mk ?_; try dsimp only)
  all_goals (try simp only [Cu_eta] at *)
  all_goals first
    | (show LoopP _ _ _ _; skip)
    | (show GotoP _ _ _ _ _; skip)
    | (show EndP _ _ _ _ _ _; skip)
    | (show ∃ _, _; skip)
    | (first
          | trivial
          | omega
          | (simp (discharger := omega) only [wu8, wu16, wu32, wu64, wi32, wi64, Int.tdiv_eq_ediv_of_nonneg, Int.tmod_eq_emod_of_nonneg]; omega)
          | (simp only [List.length_append, List.length_cons, List.length_nil, bl_length, List.length_take, List.length_drop]; omega)
          | (simp (discharger := omega) [-List.getD_eq_getElem?_getD, wu8, wu16, wu32, wu64, wi32, wi64, Int.tdiv_eq_ediv_of_nonneg, Int.tmod_eq_emod_of_nonneg]; done)
          | (simp (discharger := omega) [-List.getD_eq_getElem?_getD, wu8, wu16, wu32, wu64, wi32, wi64, Int.tdiv_eq_ediv_of_nonneg, Int.tmod_eq_emod_of_nonneg]; omega))
    | skip
  · have e : fromL.getD i 0 = b := UInt8.toNat_inj.1 (by omega)
    have ha := ha (by omega)
    rw [e] at ha
    refine EndP.mk [] ?_ <;> (repeat' (first | trivial | rfl | exact scopedL_bl _ _ | refine And.intro ?_ ?_ | refine congrArg V.str ?_ | refine congrArg (V.int _) ?_ | refine congrArg V.bool ?_ | refine congrArg (O.buf _ _) ?_ | refine congrArg O.cells ?_ | refine congrArg (V.list _ _) ?_ | refine congrArg V.agg ?_ | refine congrArg V.tuple ?_ | refine cons_eq ?_ ?_))
    rw [ha, show (IntKind.i64.wrap ((i : Int) + 1)).toNat = i + 1 by (first | omega | (simp (discharger := omega) only [wu8, wu16, wu32, wu64, wi32, wi64, Int.tdiv_eq_ediv_of_nonneg, Int.tmod_eq_emod_of_nonneg]; omega) | (simp only [List.length_append, List.length_cons, List.length_nil, bl_length, List.length_take, List.length_drop]; omega) | (simp (discharger := omega) [-List.getD_eq_getElem?_getD, wu8, wu16, wu32, wu64, wi32, wi64, Int.tdiv_eq_ediv_of_nonneg, Int.tmod_eq_emod_of_nonneg]; done) | (simp (discharger := omega) [-List.getD_eq_getElem?_getD, wu8, wu16, wu32, wu64, wi32, wi64, Int.tdiv_eq_ediv_of_nonneg, Int.tmod_eq_emod_of_nonneg]; omega))]
    exact cut1 0 (by rw [hl2]; omega)
  · refine ⟨[], i + 1, ⟨by omega, fun j hjj => ?_⟩, ?_, by omega⟩
    · by_cases e : j = i
      · subst e; intro e; have := congrArg UInt8.toNat e; omega
      · exact hj j (by omega)
    · refine Go.VG.Sub.mk rfl ?_ ?_ ?_ ?_ <;> (repeat' (first | trivial | rfl | exact scopedL_bl _ _ | refine And.intro ?_ ?_ | refine congrArg V.str ?_ | refine congrArg (V.int _) ?_ | refine congrArg V.bool ?_ | refine congrArg (O.buf _ _) ?_ | refine congrArg O.cells ?_ | refine congrArg (V.list _ _) ?_ | refine congrArg V.agg ?_ | refine congrArg V.tuple ?_ | refine cons_eq ?_ ?_))
      (first | omega | (simp (discharger := omega) only [wu8, wu16, wu32, wu64, wi32, wi64, Int.tdiv_eq_ediv_of_nonneg, Int.tmod_eq_emod_of_nonneg]; omega) | (simp only [List.length_append, List.length_cons, List.length_nil, bl_length, List.length_take, List.length_drop]; omega) | (simp (discharger := omega) [-List.getD_eq_getElem?_getD, wu8, wu16, wu32, wu64, wi32, wi64, Int.tdiv_eq_ediv_of_nonneg, Int.tmod_eq_emod_of_nonneg]; done) | (simp (discharger := omega) [-List.getD_eq_getElem?_getD, wu8, wu16, wu32, wu64, wi32, wi64, Int.tdiv_eq_ediv_of_nonneg, Int.tmod_eq_emod_of_nonneg]; omega))
  · refine EndP.mk [] ?_ <;> (repeat' (first | trivial | rfl | exact scopedL_bl _ _ | refine And.intro ?_ ?_ | refine congrArg V.str ?_ | refine congrArg (V.int _) ?_ | refine congrArg V.bool ?_ | refine congrArg (O.buf _ _) ?_ | refine congrArg O.cells ?_ | refine congrArg (V.list _ _) ?_ | refine congrArg V.agg ?_ | refine congrArg V.tuple ?_ | refine cons_eq ?_ ?_))
    rw [simple_no fun j h => hj j (by omega)]
def sm_r10simple : Sm := fun args σ => match args, σ with
  | [.int .u8 n_b], [] => some ((0 ≤ n_b ∧ n_b ≤ 255) ∧ (True), .str (simpleD (byte n_b)), none)
  | _, _ => none
theorem k_r10simple : SOK 116 sm_r10simple := by
  intro args sg pre x r he hp
  unfold sm_r10simple at he
  split at he <;> cases he
  · rw [viewB (hp).1]; exact f_r10simple_1 (hp := hp.2) ..
theorem f_r10digitsI_1 (t : List UInt8) (q : Int) (hp : t.length ≤ 100000000 ∧ 0 ≤ q ∧ q ≤ 200000000) : OK 117 ([.str t, .int .i64 q]) ([]) (.tuple [.int .i64 (digD t 4 q.toNat 0).1, .int .i64 (digD t 4 q.toNat 0).2]) (none) := by
  obtain ⟨i, rfl⟩ := Int.eq_ofNat_of_zero_le hp.2.1
  exact f_r10digits_1 t i ⟨hp.1, by omega⟩
def sm_r10digitsI : Sm := fun args σ => match args, σ with
  | [.str t, .int .i64 q], [] => some (t.length ≤ 100000000 ∧ 0 ≤ q ∧ q ≤ 200000000, .tuple [.int .i64 (digD t 4 q.toNat 0).1, .int .i64 (digD t 4 q.toNat 0).2], none)
  | _, _ => none
theorem k_r10digitsI : SOK 117 sm_r10digitsI := by
  intro args sg pre x r he hp
  unfold sm_r10digitsI at he
  split at he <;> cases he
  · exact f_r10digitsI_1 (hp := hp) ..
def pairD (t : List UInt8) (i : Nat) (n : Int) : List UInt8 × Int × Int :=
  if t.length ≤ i then ([], 0, 1) else if (t.getD i 0).toNat ≠ 92 then ([], 0, 6)
  else if t.length ≤ i + 1 then ([], 0, 1) else if (t.getD (i + 1) 0).toNat ≠ 117 then ([], 0, 6)
  else if (digD t 4 (i + 2) 0).2 ≠ 0 then ([], 0, (digD t 4 (i + 2) 0).2)
  else if (digD t 4 (i + 2) 0).1 < 56320 ∨ 57343 < (digD t 4 (i + 2) 0).1 then ([], 0, 6)
  else (uBytes (65536 + 1024 * (n - 55296) + (digD t 4 (i + 2) 0).1 - 56320), (i : Int) + 6, 0)
theorem bu (j : Nat) : ([92, 117] : List UInt8).getD j 0 = if j = 0 then 92 else if j = 1 then 117 else 0 := by
  match j with
  | 0 => rfl
  | 1 => rfl
  | j + 2 => simp
theorem f_r10pair_1 (t : List UInt8) (i : Nat) (n : Int) (hp : (t.length ≤ 100000000 ∧ i ≤ 100000000) ∧ 55296 ≤ n ∧ n ≤ 56319) : OK 118 ([.str t, .int .i64 i, .int .i64 n]) ([]) (.tuple [.str (pairD t i n).1, .int .i64 (pairD t i n).2.1, .int .i64 (pairD t i n).2.2]) (none) := by
  refine funOK_of_vc (C := cx [(117, sm_r10digitsI), (119, sm_uBytes)]) (good ⟨k_r10digitsI, k_uBytes, trivial⟩) (fn := Try.f118) rfl rfl rfl rfl fun hw hs => ?_
  obtain ⟨⟨hl, hi⟩, hn⟩ := hp
  have hd := digD_bound t 4 (i + 2) 0 1 (by decide) (by decide) (by decide)
  refine LoopP.mk Nat (fun j => j ≤ 2 ∧ (0 < j → i < t.length ∧ (t.getD i 0).toNat = 92) ∧ (1 < j → i + 1 < t.length ∧ (t.getD (i + 1) 0).toNat = 117)) (fun j => ⟨57, [(0, .str t), (1, .int .i64 i), (2, .int .i64 n), (9, .int .i64 j)], [], []⟩) (fun j => 2 - j) [] 0 ⟨by omega, by omega, by omega⟩ ?_ (fun j ⟨hj, hj1, hj2⟩ _ _ => ?_)
  · refine Go.VG.Sub.mk rfl ?_ ?_ ?_ ?_ <;> (repeat' (first | trivial | rfl | exact scopedL_bl _ _ | refine And.intro ?_ ?_ | refine congrArg V.str ?_ | refine congrArg (V.int _) ?_ | refine congrArg V.bool ?_ | refine congrArg (O.buf _ _) ?_ | refine congrArg O.cells ?_ | refine congrArg (V.list _ _) ?_ | refine congrArg V.agg ?_ | refine congrArg V.tuple ?_ | refine cons_eq ?_ ?_))
  have hij : (IntKind.i64.wrap ((i : Int) + j)).toNat = i + j := by (first | omega | (simp (discharger := omega) only [wu8, wu16, wu32, wu64, wi32, wi64, Int.tdiv_eq_ediv_of_nonneg, Int.tmod_eq_emod_of_nonneg]; omega) | (simp only [List.length_append, List.length_cons, List.length_nil, bl_length, List.length_take, List.length_drop]; omega) | (simp (discharger := omega) [-List.getD_eq_getElem?_getD, wu8, wu16, wu32, wu64, wi32, wi64, Int.tdiv_eq_ediv_of_nonneg, Int.tmod_eq_emod_of_nonneg]; done) | (simp (discharger := omega) [-List.getD_eq_getElem?_getD, wu8, wu16, wu32, wu64, wi32, wi64, Int.tdiv_eq_ediv_of_nonneg, Int.tmod_eq_emod_of_nonneg]; omega))
  have hij2 : IntKind.i64.wrap ((i : Int) + j) = ((i + j : Nat) : Int) := by (first | omega | (simp (discharger := omega) only [wu8, wu16, wu32, wu64, wi32, wi64, Int.tdiv_eq_ediv_of_nonneg, Int.tmod_eq_emod_of_nonneg]; omega) | (simp only [List.length_append, List.length_cons, List.length_nil, bl_length, List.length_take, List.length_drop]; omega) | (simp (discharger := omega) [-List.getD_eq_getElem?_getD, wu8, wu16, wu32, wu64, wi32, wi64, Int.tdiv_eq_ediv_of_nonneg, Int.tmod_eq_emod_of_nonneg]; done) | (simp (discharger := omega) [-List.getD_eq_getElem?_getD, wu8, wu16, wu32, wu64, wi32, wi64, Int.tdiv_eq_ediv_of_nonneg, Int.tmod_eq_emod_of_nonneg]; omega))
  have hi2 : IntKind.i64.wrap ((i : Int) + 2) = ((i + 2 : Nat) : Int) := by (first | omega | (simp (discharger := omega) only [wu8, wu16, wu32, wu64, wi32, wi64, Int.tdiv_eq_ediv_of_nonneg, Int.tmod_eq_emod_of_nonneg]; omega) | (simp only [List.length_append, List.length_cons, List.length_nil, bl_length, List.length_take, List.length_drop]; omega) | (simp (discharger := omega) [-List.getD_eq_getElem?_getD, wu8, wu16, wu32, wu64, wi32, wi64, Int.tdiv_eq_ediv_of_nonneg, Int.tmod_eq_emod_of_nonneg]; done) | (simp (discharger := omega) [-List.getD_eq_getElem?_getD, wu8, wu16, wu32, wu64, wi32, wi64, Int.tdiv_eq_ediv_of_nonneg, Int.tmod_eq_emod_of_nonneg]; omega))
  have hi3 : (IntKind.i64.wrap ((i : Int) + 2)).toNat = i + 2 := by (first | omega | (simp (discharger := omega) only [wu8, wu16, wu32, wu64, wi32, wi64, Int.tdiv_eq_ediv_of_nonneg, Int.tmod_eq_emod_of_nonneg]; omega) | (simp only [List.length_append, List.length_cons, List.length_nil, bl_length, List.length_take, List.length_drop]; omega) | (simp (discharger := omega) [-List.getD_eq_getElem?_getD, wu8, wu16, wu32, wu64, wi32, wi64, Int.tdiv_eq_ediv_of_nonneg, Int.tmod_eq_emod_of_nonneg]; done) | (simp (discharger := omega) [-List.getD_eq_getElem?_getD, wu8, wu16, wu32, wu64, wi32, wi64, Int.tdiv_eq_ediv_of_nonneg, Int.tmod_eq_emod_of_nonneg]; omega))
  repeat' (
      conv => whnf
      first
      | refine req_i ?_ ?_
      | refine when_i ?_ ?_
      | refine brn_not ?_
      | refine brn_dec (fun h => ?_) (fun h => ?_)
      | refine brn_int (fun h => ?_) (fun h => ?_)
      | refine brn_intne (fun h => ?_) (fun h => ?_)
      | refine brn_str (fun h => ?_) (fun h => ?_)
      | refine brn_i (fun h => ?_) (fun h => ?_)
      | with_reducible refine IdxK.mk _ rfl ?_
      | with_reducible refine idx_blI ?_ (fun hc => ?_)
      | with_reducible refine idx_bl ?_ (fun hc => ?_)
      | with_reducible refine idx_strI ?_ (fun hc => ?_)
      | with_reducible refine idx_str ?_ (fun hc => ?_)
      | with_reducible refine idx_mapDI ?_ ?_
      | with_reducible refine idx_mapD ?_ ?_
      | with_reducible refine idx_at ?_ (fun b hb => ?_)
      | refine ex_bl ?_
      | refine ex_b1 ?_ ?_
      | refine ex_b2 ?_ ?_ ?_
      | refine ex_b3 ?_ ?_ ?_ ?_
      | refine ex_b4 ?_ ?_ ?_ ?_ ?_
      | refine optK_setL ?_ ?_
      | refine optK_takeL ?_ ?_
      | with_reducible refine forceDs_i ?_
      )
  all_goals try (conv => whnf)
  all_goals try (refine Side.mk ?_; try dsimp only)
  all_goals (try simp only [bu, hi3] at *)
  all_goals (try simp only [Cu_eta] at *)
  all_goals first
    | (show LoopP _ _ _ _; skip)
    | (show GotoP _ _ _ _ _; skip)
    | (show EndP _ _ _ _ _ _; skip)
    | (show ∃ _, _; skip)
    | (first
          | trivial
          | omega
          | (simp (discharger := omega) only [wu8, wu16, wu32, wu64, wi32, wi64, Int.tdiv_eq_ediv_of_nonneg, Int.tmod_eq_emod_of_nonneg]; omega)
          | (simp only [List.length_append, List.length_cons, List.length_nil, bl_length, List.length_take, List.length_drop]; omega)
          | (simp (discharger := omega) [-List.getD_eq_getElem?_getD, wu8, wu16, wu32, wu64, wi32, wi64, Int.tdiv_eq_ediv_of_nonneg, Int.tmod_eq_emod_of_nonneg]; done)
          | (simp (discharger := omega) [-List.getD_eq_getElem?_getD, wu8, wu16, wu32, wu64, wi32, wi64, Int.tdiv_eq_ediv_of_nonneg, Int.tmod_eq_emod_of_nonneg]; omega))
    | skip
  all_goals (try rw [hij] at *)
  all_goals (try rw [hij2] at *)
  all_goals first
    | (have hjl : j < 2 := by omega
       rcases (show j = 0 ∨ j = 1 by omega) with rfl | rfl
       all_goals (try simp only [if_true, show ¬ (1 : Nat) = 0 by decide, if_false, Nat.add_zero, show (92 : UInt8).toNat = 92 from rfl, show (117 : UInt8).toNat = 117 from rfl] at *)
       all_goals first
         | (show EndP _ _ _ _ _ _
            unfold pairD
            repeat (first | rw [if_pos (by omega)] | rw [if_neg (by omega)])
            refine EndP.mk [] ?_ <;> (repeat' (first | trivial | rfl | exact scopedL_bl _ _ | refine And.intro ?_ ?_ | refine congrArg V.str ?_ | refine congrArg (V.int _) ?_ | refine congrArg V.bool ?_ | refine congrArg (O.buf _ _) ?_ | refine congrArg O.cells ?_ | refine congrArg (V.list _ _) ?_ | refine congrArg V.agg ?_ | refine congrArg V.tuple ?_ | refine cons_eq ?_ ?_))
            done)
         | (refine ⟨[], 1, ⟨by omega, fun _ => ⟨by omega, by omega⟩, by omega⟩, ?_, by show 2 - 1 < 2 - 0; omega⟩
            refine Go.VG.Sub.mk rfl ?_ ?_ ?_ ?_ <;> (repeat' (first | trivial | rfl | exact scopedL_bl _ _ | refine And.intro ?_ ?_ | refine congrArg V.str ?_ | refine congrArg (V.int _) ?_ | refine congrArg V.bool ?_ | refine congrArg (O.buf _ _) ?_ | refine congrArg O.cells ?_ | refine congrArg (V.list _ _) ?_ | refine congrArg V.agg ?_ | refine congrArg V.tuple ?_ | refine cons_eq ?_ ?_))
            done)
         | (refine ⟨[], 2, ⟨by omega, fun _ => ⟨by omega, by omega⟩, fun _ => ⟨by omega, by omega⟩⟩, ?_, by show 2 - 2 < 2 - 1; omega⟩
            refine Go.VG.Sub.mk rfl ?_ ?_ ?_ ?_ <;> (repeat' (first | trivial | rfl | exact scopedL_bl _ _ | refine And.intro ?_ ?_ | refine congrArg V.str ?_ | refine congrArg (V.int _) ?_ | refine congrArg V.bool ?_ | refine congrArg (O.buf _ _) ?_ | refine congrArg O.cells ?_ | refine congrArg (V.list _ _) ?_ | refine congrArg V.agg ?_ | refine congrArg V.tuple ?_ | refine cons_eq ?_ ?_))
            done))
    | (have h1 := hj1 (by omega)
       have h2 := hj2 (by omega)
       unfold pairD
       repeat (first | rw [if_pos (by omega)] | rw [if_neg (by omega)])
       refine EndP.mk [] ?_ <;> (repeat' (first | trivial | rfl | exact scopedL_bl _ _ | refine And.intro ?_ ?_ | refine congrArg V.str ?_ | refine congrArg (V.int _) ?_ | refine congrArg V.bool ?_ | refine congrArg (O.buf _ _) ?_ | refine congrArg O.cells ?_ | refine congrArg (V.list _ _) ?_ | refine congrArg V.agg ?_ | refine congrArg V.tuple ?_ | refine cons_eq ?_ ?_))
       done)
    | skip
  · have h1 := hj1 (by omega)
    have h2 := hj2 (by omega)
    unfold pairD
    repeat (first | rw [if_pos (by omega)] | rw [if_neg (by omega)])
    refine EndP.mk [] ?_ <;> (repeat' (first | trivial | rfl | exact scopedL_bl _ _ | refine And.intro ?_ ?_ | refine congrArg V.str ?_ | refine congrArg (V.int _) ?_ | refine congrArg V.bool ?_ | refine congrArg (O.buf _ _) ?_ | refine congrArg O.cells ?_ | refine congrArg (V.list _ _) ?_ | refine congrArg V.agg ?_ | refine congrArg V.tuple ?_ | refine cons_eq ?_ ?_))
    · refine congrArg uBytes ?_
      simp only [wi64, wi32]; omega
    · (first | omega | (simp (discharger := omega) only [wu8, wu16, wu32, wu64, wi32, wi64, Int.tdiv_eq_ediv_of_nonneg, Int.tmod_eq_emod_of_nonneg]; omega) | (simp only [List.length_append, List.length_cons, List.length_nil, bl_length, List.length_take, List.length_drop]; omega) | (simp (discharger := omega) [-List.getD_eq_getElem?_getD, wu8, wu16, wu32, wu64, wi32, wi64, Int.tdiv_eq_ediv_of_nonneg, Int.tmod_eq_emod_of_nonneg]; done) | (simp (discharger := omega) [-List.getD_eq_getElem?_getD, wu8, wu16, wu32, wu64, wi32, wi64, Int.tdiv_eq_ediv_of_nonneg, Int.tmod_eq_emod_of_nonneg]; omega))
def sm_r10pair : Sm := fun args σ => match args, σ with
  | [.str t, .int .i64 (.ofNat i), .int .i64 n], [] => some ((t.length ≤ 100000000 ∧ i ≤ 100000000) ∧ 55296 ≤ n ∧ n ≤ 56319, .tuple [.str (pairD t i n).1, .int .i64 (pairD t i n).2.1, .int .i64 (pairD t i n).2.2], none)
  | _, _ => none
theorem k_r10pair : SOK 118 sm_r10pair := by
  intro args sg pre x r he hp
  unfold sm_r10pair at he
  split at he <;> cases he
  · exact f_r10pair_1 (hp := hp) ..
/-- what stands behind a backslash, and the place behind it -/
def escD (t : List UInt8) (i : Nat) : List UInt8 × Int × Int :=
  if t.length ≤ i then ([], 0, 1)
  else if (t.getD i 0).toNat ≠ 117 then (if plainIs (t.getD i 0) = true then (simpleD (t.getD i 0), (i : Int) + 1, 0) else ([], 0, 6))
  else if (digD t 4 (i + 1) 0).2 ≠ 0 then ([], 0, (digD t 4 (i + 1) 0).2)
  else if 55296 ≤ (digD t 4 (i + 1) 0).1 ∧ (digD t 4 (i + 1) 0).1 ≤ 56319 then pairD t (i + 5) (digD t 4 (i + 1) 0).1
  else if 56320 ≤ (digD t 4 (i + 1) 0).1 ∧ (digD t 4 (i + 1) 0).1 ≤ 57343 then ([], 0, 6)
  else (uBytes (digD t 4 (i + 1) 0).1, (i : Int) + 5, 0)
theorem f_r10pairI_1 (t : List UInt8) (q : Int) (n : Int) (hp : (t.length ≤ 100000000 ∧ 0 ≤ q ∧ q ≤ 100000000) ∧ 55296 ≤ n ∧ n ≤ 56319) : OK 118 ([.str t, .int .i64 q, .int .i64 n]) ([]) (.tuple [.str (pairD t q.toNat n).1, .int .i64 (pairD t q.toNat n).2.1, .int .i64 (pairD t q.toNat n).2.2]) (none) := by
  obtain ⟨i, rfl⟩ := Int.eq_ofNat_of_zero_le hp.1.2.1
  exact f_r10pair_1 t i n ⟨⟨hp.1.1, by omega⟩, hp.2⟩
def sm_r10pairI : Sm := fun args σ => match args, σ with
  | [.str t, .int .i64 q, .int .i64 n], [] => some ((t.length ≤ 100000000 ∧ 0 ≤ q ∧ q ≤ 100000000) ∧ 55296 ≤ n ∧ n ≤ 56319, .tuple [.str (pairD t q.toNat n).1, .int .i64 (pairD t q.toNat n).2.1, .int .i64 (pairD t q.toNat n).2.2], none)
  | _, _ => none
theorem k_r10pairI : SOK 118 sm_r10pairI := by
  intro args sg pre x r he hp
  unfold sm_r10pairI at he
  split at he <;> cases he
  · exact f_r10pairI_1 (hp := hp) ..
theorem simple_nil {b : UInt8} (h : simpleD b = []) : plainIs b = false := by
  unfold simpleD at h
  cases hp : plainIs b with
  | false => rfl
  | true => rw [hp, if_pos rfl] at h; cases h
theorem simple_ne {b : UInt8} (h : simpleD b ≠ []) : plainIs b = true := by
  unfold simpleD at h
  cases hp : plainIs b with
  | true => rfl
  | false => rw [hp, if_neg Bool.false_ne_true] at h; exact absurd rfl h
theorem f_r10escape_1 (t : List UInt8) (i : Nat) (hp : t.length ≤ 90000000 ∧ i ≤ 90000000) : OK 99 ([.str t, .int .i64 i]) ([]) (.tuple [.str (escD t i).1, .int .i64 (escD t i).2.1, .int .i64 (escD t i).2.2]) (none) := by
  refine funOK_of_vc (C := cx [(116, sm_r10simple), (117, sm_r10digitsI), (118, sm_r10pairI), (119, sm_uBytes)]) (good ⟨k_r10simple, k_r10digitsI, k_r10pairI, k_uBytes, trivial⟩) (fn := Try.f99) rfl rfl rfl rfl fun hw hs => ?_
  obtain ⟨hl, hi⟩ := hp
  have hd := digD_bound t 4 (i + 1) 0 1 (by decide) (by decide) (by decide)
  have hi1 : (IntKind.i64.wrap ((i : Int) + 1)).toNat = i + 1 := by (first | omega | (simp (discharger := omega) only [wu8, wu16, wu32, wu64, wi32, wi64, Int.tdiv_eq_ediv_of_nonneg, Int.tmod_eq_emod_of_nonneg]; omega) | (simp only [List.length_append, List.length_cons, List.length_nil, bl_length, List.length_take, List.length_drop]; omega) | (simp (discharger := omega) [-List.getD_eq_getElem?_getD, wu8, wu16, wu32, wu64, wi32, wi64, Int.tdiv_eq_ediv_of_nonneg, Int.tmod_eq_emod_of_nonneg]; done) | (simp (discharger := omega) [-List.getD_eq_getElem?_getD, wu8, wu16, wu32, wu64, wi32, wi64, Int.tdiv_eq_ediv_of_nonneg, Int.tmod_eq_emod_of_nonneg]; omega))
  have hi5 : (IntKind.i64.wrap ((i : Int) + 5)).toNat = i + 5 := by (first | omega | (simp (discharger := omega) only [wu8, wu16, wu32, wu64, wi32, wi64, Int.tdiv_eq_ediv_of_nonneg, Int.tmod_eq_emod_of_nonneg]; omega) | (simp only [List.length_append, List.length_cons, List.length_nil, bl_length, List.length_take, List.length_drop]; omega) | (simp (discharger := omega) [-List.getD_eq_getElem?_getD, wu8, wu16, wu32, wu64, wi32, wi64, Int.tdiv_eq_ediv_of_nonneg, Int.tmod_eq_emod_of_nonneg]; done) | (simp (discharger := omega) [-List.getD_eq_getElem?_getD, wu8, wu16, wu32, wu64, wi32, wi64, Int.tdiv_eq_ediv_of_nonneg, Int.tmod_eq_emod_of_nonneg]; omega))
  have hbb : byte ((t.getD i 0).toNat : Int) = t.getD i 0 := byte_of _
  repeat' (
      conv => whnf
      first
      | refine req_i ?_ ?_
      | refine when_i ?_ ?_
      | refine brn_not ?_
      | refine brn_dec (fun h => ?_) (fun h => ?_)
      | refine brn_int (fun h => ?_) (fun h => ?_)
      | refine brn_intne (fun h => ?_) (fun h => ?_)
      | refine brn_str (fun h => ?_) (fun h => ?_)
      | refine brn_i (fun h => ?_) (fun h => ?_)
      | with_reducible refine IdxK.mk _ rfl ?_
      | with_reducible refine idx_blI ?_ (fun hc => ?_)
      | with_reducible refine idx_bl ?_ (fun hc => ?_)
      | with_reducible refine idx_strI ?_ (fun hc => ?_)
      | with_reducible refine idx_str ?_ (fun hc => ?_)
      | with_reducible refine idx_mapDI ?_ ?_
      | with_reducible refine idx_mapD ?_ ?_
      | with_reducible refine idx_at ?_ (fun b hb => ?_)
      | refine ex_bl ?_
      | refine ex_b1 ?_ ?_
      | refine ex_b2 ?_ ?_ ?_
      | refine ex_b3 ?_ ?_ ?_ ?_
      | refine ex_b4 ?_ ?_ ?_ ?_ ?_
      | refine optK_setL ?_ ?_
      | refine optK_takeL ?_ ?_
      | with_reducible refine forceDs_i ?_
      )
  all_goals try (conv => whnf)
  all_goals try (refine Side.mk ?_; try dsimp only)
  all_goals (try simp only [hi1, hi5, hbb] at *)
  all_goals (try simp only [Cu_eta] at *)
  all_goals first
    | (show LoopP _ _ _ _; skip)
    | (show GotoP _ _ _ _ _; skip)
    | (show EndP _ _ _ _ _ _; skip)
    | (show ∃ _, _; skip)
    | (first
          | trivial
          | omega
          | (simp (discharger := omega) only [wu8, wu16, wu32, wu64, wi32, wi64, Int.tdiv_eq_ediv_of_nonneg, Int.tmod_eq_emod_of_nonneg]; omega)
          | (simp only [List.length_append, List.length_cons, List.length_nil, bl_length, List.length_take, List.length_drop]; omega)
          | (simp (discharger := omega) [-List.getD_eq_getElem?_getD, wu8, wu16, wu32, wu64, wi32, wi64, Int.tdiv_eq_ediv_of_nonneg, Int.tmod_eq_emod_of_nonneg]; done)
          | (simp (discharger := omega) [-List.getD_eq_getElem?_getD, wu8, wu16, wu32, wu64, wi32, wi64, Int.tdiv_eq_ediv_of_nonneg, Int.tmod_eq_emod_of_nonneg]; omega))
    | skip
  all_goals
    first
    | (have hpl : plainIs (t.getD i 0) = false := simple_nil (by assumption))
    | (have hpl : plainIs (t.getD i 0) = true := simple_ne (by assumption))
    | (have hpl : plainIs (t.getD i 0) = plainIs (t.getD i 0) := rfl)
    unfold escD
    repeat (first | rw [if_pos (by first | omega | exact hpl)] | rw [if_neg (by first | omega | (rw [hpl]; exact Bool.false_ne_true))])
    refine EndP.mk [] ?_ <;> (repeat' (first | trivial | rfl | exact scopedL_bl _ _ | refine And.intro ?_ ?_ | refine congrArg V.str ?_ | refine congrArg (V.int _) ?_ | refine congrArg V.bool ?_ | refine congrArg (O.buf _ _) ?_ | refine congrArg O.cells ?_ | refine congrArg (V.list _ _) ?_ | refine congrArg V.agg ?_ | refine congrArg V.tuple ?_ | refine cons_eq ?_ ?_))
  all_goals first
    | (refine congrArg uBytes ?_
       simp only [wi32]; omega)
    | (first | omega | (simp (discharger := omega) only [wu8, wu16, wu32, wu64, wi32, wi64, Int.tdiv_eq_ediv_of_nonneg, Int.tmod_eq_emod_of_nonneg]; omega) | (simp only [List.length_append, List.length_cons, List.length_nil, bl_length, List.length_take, List.length_drop]; omega) | (simp (discharger := omega) [-List.getD_eq_getElem?_getD, wu8, wu16, wu32, wu64, wi32, wi64, Int.tdiv_eq_ediv_of_nonneg, Int.tmod_eq_emod_of_nonneg]; done) | (simp (discharger := omega) [-List.getD_eq_getElem?_getD, wu8, wu16, wu32, wu64, wi32, wi64, Int.tdiv_eq_ediv_of_nonneg, Int.tmod_eq_emod_of_nonneg]; omega))
def sm_r10escape : Sm := fun args σ => match args, σ with
  | [.str t, .int .i64 (.ofNat i)], [] => some (t.length ≤ 90000000 ∧ i ≤ 90000000, .tuple [.str (escD t i).1, .int .i64 (escD t i).2.1, .int .i64 (escD t i).2.2], none)
  | _, _ => none
theorem k_r10escape : SOK 99 sm_r10escape := by
  intro args sg pre x r he hp
  unfold sm_r10escape at he
  split at he <;> cases he
  · exact f_r10escape_1 (hp := hp) ..
end Go.Proofs.Ytllncocibkgjkaa
