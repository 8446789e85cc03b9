/-
  Tokens of JSON as the document reads them, and writes them.
-/
import Derived.Test.YtllncocibkgjkaaJTx
set_option linter.unusedSimpArgs false
set_option linter.unusedVariables false
set_option maxHeartbeats 4000000
namespace Go.Proofs.Ytllncocibkgjkaa
open Go Go.VG
set_option maxRecDepth 100000
theorem f_r11run_1 (t : List UInt8) (i : Nat) (hp : t.length ≤ 100000000 ∧ i ≤ 900000010) : OK 122 ([.str t, .int .i64 i]) ([]) (.int .i64 (runD t i)) (none) := by
  refine funOK_of_vc (C := cx []) (good trivial) (fn := Try.f122) rfl rfl rfl rfl fun hw hs => ?_
  obtain ⟨hl, hi⟩ := hp
  refine LoopP.mk Nat (fun j => i ≤ j ∧ j ≤ 900000010 ∧ runD t j = runD t i) (fun j => ⟨24, [(0, .str t), (1, .int .i64 j)], [], []⟩) (fun j => 900000011 - j) [] i ⟨Nat.le_refl _, hi, rfl⟩ ?_ (fun j ⟨h1, h2, h3⟩ _ _ => ?_)
  · refine Go.VG.Sub.mk rfl ?_ ?_ ?_ ?_ <;> (repeat' (first | trivial | rfl | exact scopedL_bl _ _ | refine And.intro ?_ ?_ | refine congrArg V.str ?_ | refine congrArg (V.int _) ?_ | refine congrArg V.bool ?_ | refine congrArg (O.buf _ _) ?_ | refine congrArg O.cells ?_ | refine congrArg (V.list _ _) ?_ | refine congrArg V.agg ?_ | refine congrArg V.tuple ?_ | refine cons_eq ?_ ?_))
  have hx : (t.getD j 0).toNat < 256 := UInt8.toNat_lt _
  have dT := digB_t (b := t.getD j 0)
  have dF := digB_f (b := t.getD j 0)
  repeat' (
      conv => whnf
      first
      | refine req_i ?_ ?_
      | refine when_i ?_ ?_
      | refine brn_not ?_
      | refine brn_dec (fun h => ?_) (fun h => ?_)
      | refine brn_int (fun h => ?_) (fun h => ?_)
      | refine brn_intne (fun h => ?_) (fun h => ?_)
      | refine brn_str (fun h => ?_) (fun h => ?_)
      | refine brn_i (fun h => ?_) (fun h => ?_)
      | with_reducible refine IdxK.mk _ rfl ?_
      | with_reducible refine idx_blI ?_ (fun hc => ?_)
      | with_reducible refine idx_bl ?_ (fun hc => ?_)
      | with_reducible refine idx_strI ?_ (fun hc => ?_)
      | with_reducible refine idx_str ?_ (fun hc => ?_)
      | with_reducible refine idx_mapDI ?_ ?_
      | with_reducible refine idx_mapD ?_ ?_
      | with_reducible refine idx_at ?_ (fun b hb => ?_)
      | refine ex_bl ?_
      | refine ex_b1 ?_ ?_
      | refine ex_b2 ?_ ?_ ?_
      | refine ex_b3 ?_ ?_ ?_ ?_
      | refine ex_b4 ?_ ?_ ?_ ?_ ?_
      | refine optK_setL ?_ ?_
      | refine optK_takeL ?_ ?_
      | with_reducible refine forceDs_i ?_
      )
  all_goals try (conv => whnf)
  all_goals try (refine Side.mk ?_; try dsimp only)
  all_goals (try simp only [Cu_eta] at *)
  all_goals first
    | (show LoopP _ _ _ _; skip)
    | (show GotoP _ _ _ _ _; skip)
    | (show EndP _ _ _ _ _ _; skip)
    | (show ∃ _, _; skip)
    | (first
          | trivial
          | omega
          | (simp (discharger := omega) only [wu8, wu16, wu32, wu64, wi32, wi64, Int.tdiv_eq_ediv_of_nonneg, Int.tmod_eq_emod_of_nonneg]; omega)
          | (simp only [List.length_append, List.length_cons, List.length_nil, bl_length, List.length_take, List.length_drop]; omega)
          | (simp (discharger := omega) [-List.getD_eq_getElem?_getD, wu8, wu16, wu32, wu64, wi32, wi64, Int.tdiv_eq_ediv_of_nonneg, Int.tmod_eq_emod_of_nonneg]; done)
          | (simp (discharger := omega) [-List.getD_eq_getElem?_getD, wu8, wu16, wu32, wu64, wi32, wi64, Int.tdiv_eq_ediv_of_nonneg, Int.tmod_eq_emod_of_nonneg]; omega))
    | skip
  all_goals first
    | (have e := runD_hit (t := t) (i := j) (by omega) (dT.2 (by omega))
       refine ⟨[], j + 1, ⟨by omega, by omega, by rw [← e]; exact h3⟩, ?_, by omega⟩
       refine Go.VG.Sub.mk rfl ?_ ?_ ?_ ?_ <;> (repeat' (first | trivial | rfl | exact scopedL_bl _ _ | refine And.intro ?_ ?_ | refine congrArg V.str ?_ | refine congrArg (V.int _) ?_ | refine congrArg V.bool ?_ | refine congrArg (O.buf _ _) ?_ | refine congrArg O.cells ?_ | refine congrArg (V.list _ _) ?_ | refine congrArg V.agg ?_ | refine congrArg V.tuple ?_ | refine cons_eq ?_ ?_))
       (first | omega | (simp (discharger := omega) only [wu8, wu16, wu32, wu64, wi32, wi64, Int.tdiv_eq_ediv_of_nonneg, Int.tmod_eq_emod_of_nonneg]; omega) | (simp only [List.length_append, List.length_cons, List.length_nil, bl_length, List.length_take, List.length_drop]; omega) | (simp (discharger := omega) [-List.getD_eq_getElem?_getD, wu8, wu16, wu32, wu64, wi32, wi64, Int.tdiv_eq_ediv_of_nonneg, Int.tmod_eq_emod_of_nonneg]; done) | (simp (discharger := omega) [-List.getD_eq_getElem?_getD, wu8, wu16, wu32, wu64, wi32, wi64, Int.tdiv_eq_ediv_of_nonneg, Int.tmod_eq_emod_of_nonneg]; omega)))
    | (have e := runD_stop (t := t) (i := j) (.inr (dF.2 (by omega)))
       rw [← h3, e]
       refine EndP.mk [] ?_ <;> (repeat' (first | trivial | rfl | exact scopedL_bl _ _ | refine And.intro ?_ ?_ | refine congrArg V.str ?_ | refine congrArg (V.int _) ?_ | refine congrArg V.bool ?_ | refine congrArg (O.buf _ _) ?_ | refine congrArg O.cells ?_ | refine congrArg (V.list _ _) ?_ | refine congrArg V.agg ?_ | refine congrArg V.tuple ?_ | refine cons_eq ?_ ?_))
       )
    | (have e := runD_stop (t := t) (i := j) (.inl (by omega))
       rw [← h3, e]
       refine EndP.mk [] ?_ <;> (repeat' (first | trivial | rfl | exact scopedL_bl _ _ | refine And.intro ?_ ?_ | refine congrArg V.str ?_ | refine congrArg (V.int _) ?_ | refine congrArg V.bool ?_ | refine congrArg (O.buf _ _) ?_ | refine congrArg O.cells ?_ | refine congrArg (V.list _ _) ?_ | refine congrArg V.agg ?_ | refine congrArg V.tuple ?_ | refine cons_eq ?_ ?_))
       )
    | skip
def sm_r11run : Sm := fun args σ => match args, σ with
  | [.str t, .int .i64 (.ofNat i)], [] => some (t.length ≤ 100000000 ∧ i ≤ 900000010, .int .i64 (runD t i), none)
  | _, _ => none
theorem k_r11run : SOK 122 sm_r11run := by
  intro args sg pre x r he hp
  unfold sm_r11run at he
  split at he <;> cases he
  · exact f_r11run_1 (hp := hp) ..
theorem f_r11one_1 (t : List UInt8) (i : Nat) (a : UInt8) (b : UInt8) (hp : t.length ≤ 100000000 ∧ i ≤ 900000010) : OK 101 ([.str t, .int .i64 i, bv a, bv b]) ([]) (.bool (oneD t i a.toNat b.toNat)) (none) := by
  refine funOK_of_vc (C := cx []) (good trivial) (fn := Try.f101) rfl rfl rfl rfl fun hw hs => ?_
  obtain ⟨hl, hi⟩ := hp
  have hx : (t.getD i 0).toNat < 256 := UInt8.toNat_lt _
  have ha : a.toNat < 256 := a.toNat_lt
  have hb : b.toNat < 256 := b.toNat_lt
  repeat' (
      conv => whnf
      first
      | refine req_i ?_ ?_
      | refine when_i ?_ ?_
      | refine brn_not ?_
      | refine brn_dec (fun h => ?_) (fun h => ?_)
      | refine brn_int (fun h => ?_) (fun h => ?_)
      | refine brn_intne (fun h => ?_) (fun h => ?_)
      | refine brn_str (fun h => ?_) (fun h => ?_)
      | refine brn_i (fun h => ?_) (fun h => ?_)
      | with_reducible refine IdxK.mk _ rfl ?_
      | with_reducible refine idx_blI ?_ (fun hc => ?_)
      | with_reducible refine idx_bl ?_ (fun hc => ?_)
      | with_reducible refine idx_strI ?_ (fun hc => ?_)
      | with_reducible refine idx_str ?_ (fun hc => ?_)
      | with_reducible refine idx_mapDI ?_ ?_
      | with_reducible refine idx_mapD ?_ ?_
      | with_reducible refine idx_at ?_ (fun b hb => ?_)
      | refine ex_bl ?_
      | refine ex_b1 ?_ ?_
      | refine ex_b2 ?_ ?_ ?_
      | refine ex_b3 ?_ ?_ ?_ ?_
      | refine ex_b4 ?_ ?_ ?_ ?_ ?_
      | refine optK_setL ?_ ?_
      | refine optK_takeL ?_ ?_
      | with_reducible refine forceDs_i ?_
      )
  all_goals try (conv => whnf)
  all_goals try (refine Side.mk ?_; try dsimp only)
  all_goals (try simp only [Cu_eta] at *)
  all_goals first
    | (show LoopP _ _ _ _; skip)
    | (show GotoP _ _ _ _ _; skip)
    | (show EndP _ _ _ _ _ _; skip)
    | (show ∃ _, _; skip)
    | (first
          | trivial
          | omega
          | (simp (discharger := omega) only [wu8, wu16, wu32, wu64, wi32, wi64, Int.tdiv_eq_ediv_of_nonneg, Int.tmod_eq_emod_of_nonneg]; omega)
          | (simp only [List.length_append, List.length_cons, List.length_nil, bl_length, List.length_take, List.length_drop]; omega)
          | (simp (discharger := omega) [-List.getD_eq_getElem?_getD, wu8, wu16, wu32, wu64, wi32, wi64, Int.tdiv_eq_ediv_of_nonneg, Int.tmod_eq_emod_of_nonneg]; done)
          | (simp (discharger := omega) [-List.getD_eq_getElem?_getD, wu8, wu16, wu32, wu64, wi32, wi64, Int.tdiv_eq_ediv_of_nonneg, Int.tmod_eq_emod_of_nonneg]; omega))
    | skip
  all_goals
    refine EndP.mk [] ?_ <;> (repeat' (first | trivial | rfl | exact scopedL_bl _ _ | refine And.intro ?_ ?_ | refine congrArg V.str ?_ | refine congrArg (V.int _) ?_ | refine congrArg V.bool ?_ | refine congrArg (O.buf _ _) ?_ | refine congrArg O.cells ?_ | refine congrArg (V.list _ _) ?_ | refine congrArg V.agg ?_ | refine congrArg V.tuple ?_ | refine cons_eq ?_ ?_))
    first
    | (exact (oneD_t.2 (by omega)).symm)
    | (exact (oneD_f.2 (by omega)).symm)
    | (cases h : oneD t i a.toNat b.toNat with
       | true => have := oneD_t.1 h; simp [-List.getD_eq_getElem?_getD]; omega
       | false => have := oneD_f.1 h; simp [-List.getD_eq_getElem?_getD]; omega)
def sm_r11one : Sm := fun args σ => match args, σ with
  | [.str t, .int .i64 (.ofNat i), .int .u8 n_a, .int .u8 n_b], [] => some ((0 ≤ n_b ∧ n_b ≤ 255) ∧ ((0 ≤ n_a ∧ n_a ≤ 255) ∧ (t.length ≤ 100000000 ∧ i ≤ 900000010)), .bool (oneD t i (byte n_a).toNat (byte n_b).toNat), none)
  | _, _ => none
theorem k_r11one : SOK 101 sm_r11one := by
  intro args sg pre x r he hp
  unfold sm_r11one at he
  split at he <;> cases he
  · rw [viewB (hp).1]; rw [viewB (hp.2).1]; exact f_r11one_1 (hp := hp.2.2) ..
theorem f_r11need_1 (t : List UInt8) (i : Nat) (hp : t.length ≤ 100000000 ∧ i ≤ 900000010) : OK 102 ([.str t, .int .i64 i]) ([]) (.tuple [.int .i64 (needD t i).1, .int .i64 (needD t i).2]) (none) := by
  refine funOK_of_vc (C := cx [(122, sm_r11run)]) (good ⟨k_r11run, trivial⟩) (fn := Try.f102) rfl rfl rfl rfl fun hw hs => ?_
  obtain ⟨hl, hi⟩ := hp
  have hr := runD_le t i
  repeat' (
      conv => whnf
      first
      | refine req_i ?_ ?_
      | refine when_i ?_ ?_
      | refine brn_not ?_
      | refine brn_dec (fun h => ?_) (fun h => ?_)
      | refine brn_int (fun h => ?_) (fun h => ?_)
      | refine brn_intne (fun h => ?_) (fun h => ?_)
      | refine brn_str (fun h => ?_) (fun h => ?_)
      | refine brn_i (fun h => ?_) (fun h => ?_)
      | with_reducible refine IdxK.mk _ rfl ?_
      | with_reducible refine idx_blI ?_ (fun hc => ?_)
      | with_reducible refine idx_bl ?_ (fun hc => ?_)
      | with_reducible refine idx_strI ?_ (fun hc => ?_)
      | with_reducible refine idx_str ?_ (fun hc => ?_)
      | with_reducible refine idx_mapDI ?_ ?_
      | with_reducible refine idx_mapD ?_ ?_
      | with_reducible refine idx_at ?_ (fun b hb => ?_)
      | refine ex_bl ?_
      | refine ex_b1 ?_ ?_
      | refine ex_b2 ?_ ?_ ?_
      | refine ex_b3 ?_ ?_ ?_ ?_
      | refine ex_b4 ?_ ?_ ?_ ?_ ?_
      | refine optK_setL ?_ ?_
      | refine optK_takeL ?_ ?_
      | with_reducible refine forceDs_i ?_
      )
  all_goals try (conv => whnf)
  all_goals try (refine Side.mk ?_; try dsimp only)
  all_goals (try simp only [Cu_eta] at *)
  all_goals first
    | (show LoopP _ _ _ _; skip)
    | (show GotoP _ _ _ _ _; skip)
    | (show EndP _ _ _ _ _ _; skip)
    | (show ∃ _, _; skip)
    | (first
          | trivial
          | omega
          | (simp (discharger := omega) only [wu8, wu16, wu32, wu64, wi32, wi64, Int.tdiv_eq_ediv_of_nonneg, Int.tmod_eq_emod_of_nonneg]; omega)
          | (simp only [List.length_append, List.length_cons, List.length_nil, bl_length, List.length_take, List.length_drop]; omega)
          | (simp (discharger := omega) [-List.getD_eq_getElem?_getD, wu8, wu16, wu32, wu64, wi32, wi64, Int.tdiv_eq_ediv_of_nonneg, Int.tmod_eq_emod_of_nonneg]; done)
          | (simp (discharger := omega) [-List.getD_eq_getElem?_getD, wu8, wu16, wu32, wu64, wi32, wi64, Int.tdiv_eq_ediv_of_nonneg, Int.tmod_eq_emod_of_nonneg]; omega))
    | skip
  all_goals
    unfold needD
    repeat (first | rw [if_pos (by omega)] | rw [if_neg (by omega)])
    refine EndP.mk [] ?_ <;> (repeat' (first | trivial | rfl | exact scopedL_bl _ _ | refine And.intro ?_ ?_ | refine congrArg V.str ?_ | refine congrArg (V.int _) ?_ | refine congrArg V.bool ?_ | refine congrArg (O.buf _ _) ?_ | refine congrArg O.cells ?_ | refine congrArg (V.list _ _) ?_ | refine congrArg V.agg ?_ | refine congrArg V.tuple ?_ | refine cons_eq ?_ ?_))
def sm_r11need : Sm := fun args σ => match args, σ with
  | [.str t, .int .i64 (.ofNat i)], [] => some (t.length ≤ 100000000 ∧ i ≤ 900000010, .tuple [.int .i64 (needD t i).1, .int .i64 (needD t i).2], none)
  | _, _ => none
theorem k_r11need : SOK 102 sm_r11need := by
  intro args sg pre x r he hp
  unfold sm_r11need at he
  split at he <;> cases he
  · exact f_r11need_1 (hp := hp) ..
/-- the parts of a number: its whole digits, those behind the dot, those of its power; its end; what is wrong -/
structure NP where
  w : List UInt8
  b : List UInt8
  p : List UInt8
  e : Nat
  c : Int
def splitD (t : List UInt8) (i : Nat) : NP :=
  ⟨sub t (sgnD t i 45 45) (wholeE t i).1,
   if (wholeE t i).2 = 0 ∧ oneD t (wholeE t i).1 46 46 = true then sub t ((wholeE t i).1 + 1) (behindE t (wholeE t i)).1 else [],
   if (behindE t (wholeE t i)).2 = 0 ∧ oneD t (behindE t (wholeE t i)).1 101 69 = true then sub t ((behindE t (wholeE t i)).1 + 1) (numE t i).1 else [],
   (numE t i).1, (numE t i).2⟩
abbrev eNP (x : NP) : List V := [.str x.w, .str x.b, .str x.p, .int .i64 x.e, .int .i64 x.c]
/-- the same summaries, with what is answered as a name -/
def smOneR (on : List UInt8 → Nat → UInt8 → UInt8 → Bool) : Sm := fun args σ => match args, σ with
  | [.str t, .int .i64 i, .int .u8 a, .int .u8 b], [] => some ((0 ≤ a ∧ a ≤ 255) ∧ (0 ≤ b ∧ b ≤ 255) ∧ t.length ≤ 100000000 ∧ 0 ≤ i ∧ i ≤ 900000010, .bool (on t i.toNat (byte a) (byte b)), none)
  | _, _ => none
theorem k_oneR {on : List UInt8 → Nat → UInt8 → UInt8 → Bool} (h : ∀ t i a b, on t i a b = oneD t i a.toNat b.toNat) : SOK 101 (smOneR on) := by
  intro args sg pre x r he hp
  unfold smOneR at he
  split at he <;> cases he
  obtain ⟨h1, h2, h3, h4, h5⟩ := hp
  rename_i i _ _
  obtain ⟨n, rfl⟩ := Int.eq_ofNat_of_zero_le h4
  rw [h, viewB h1, viewB h2]
  exact f_r11one_1 _ _ _ _ ⟨h3, by omega⟩
def smNeedR (nd : List UInt8 → Nat → Nat × Int) : Sm := fun args σ => match args, σ with
  | [.str t, .int .i64 i], [] => some (t.length ≤ 100000000 ∧ 0 ≤ i ∧ i ≤ 900000010, .tuple [.int .i64 (nd t i.toNat).1, .int .i64 (nd t i.toNat).2], none)
  | _, _ => none
theorem k_needR {nd : List UInt8 → Nat → Nat × Int} (h : ∀ t i, nd t i = needD t i) : SOK 102 (smNeedR nd) := by
  intro args sg pre x r he hp
  unfold smNeedR at he
  split at he <;> cases he
  obtain ⟨h3, h4, h5⟩ := hp
  rename_i i
  obtain ⟨n, rfl⟩ := Int.eq_ofNat_of_zero_le h4
  rw [h]
  exact f_r11need_1 _ _ ⟨h3, by omega⟩
theorem wrapS (n : Nat) (h : n ≤ 1000000000) : IntKind.i64.wrap ((n : Int) + 1) = ((n + 1 : Nat) : Int) := by rw [wi64]; omega
theorem sub_if (t : List UInt8) (i j : Nat) : (t.take ((j : Nat) : Int).toNat).drop ((i : Nat) : Int).toNat = sub t i j := rfl
theorem le_one {t : List UInt8} {j a b : Nat} (h : oneD t j a b = true) : j + 1 ≤ t.length := (oneD_t.1 h).1
theorem le_oneI {t : List UInt8} {j a b : Nat} (h : oneD t j a b = true) : ((j + 1 : Nat) : Int) ≤ (t.length : Int) := by have := le_one h; omega
theorem le_i {t : List UInt8} {j : Nat} (h : j ≤ t.length) : (j : Int) ≤ (t.length : Int) := by omega
theorem le_needI {t : List UInt8} {j : Nat} (h : j ≤ t.length) : ((needD t j).1 : Int) ≤ (t.length : Int) := by have := (needD_ge t j h).2; omega
theorem sliceI {t : List UInt8} {a b : Int} (h1 : 0 ≤ a) (h2 : a ≤ b) (h3 : b ≤ (t.length : Int)) : 0 ≤ a ∧ a ≤ b ∧ b ≤ (t.length : Int) := ⟨h1, h2, h3⟩
theorem f_SplitR {on : List UInt8 → Nat → UInt8 → UInt8 → Bool} {nd : List UInt8 → Nat → Nat × Int} (ho : ∀ t i a b, on t i a b = oneD t i a.toNat b.toNat) (hn : ∀ t i, nd t i = needD t i) (t : List UInt8) (i : Nat)
    (hl : t.length ≤ 100000000) (hi : i ≤ t.length) : OK 81 [.str t, .int .i64 i] [] (.agg (eNP (splitD t i))) none := by
  refine funOK_of_vc (C := cx [(101, smOneR on), (102, smNeedR nd)]) (good ⟨k_oneR ho, k_needR hn, trivial⟩) (fn := Try.f81) rfl rfl rfl rfl fun hw hs => ?_
  have G : ∀ j, j ≤ (nd t j).1 ∧ (nd t j).1 ≤ t.length + j := fun j => by
    have := runD_le t j
    rw [hn]; unfold needD; repeat' split
    all_goals (dsimp only; omega)
  have L1 : ∀ {j : Nat}, j ≤ t.length → ((nd t j).1 : Int) ≤ (t.length : Int) := fun h => by rw [hn]; exact le_needI h
  have f0 := G (i)
  have f1 := G (i + 1)
  have f2 := G ((nd t (i)).1 + 1)
  have f3 := G ((nd t (i + 1)).1 + 1)
  have f4 := G (i + 1 + 1)
  have f5 := G (i + 1 + 1 + 1)
  have f6 := G ((nd t ((nd t (i)).1 + 1)).1 + 1)
  have f7 := G ((nd t ((nd t (i + 1)).1 + 1)).1 + 1)
  have f8 := G ((nd t (i + 1 + 1)).1 + 1)
  have f9 := G ((nd t (i + 1 + 1 + 1)).1 + 1)
  have f10 := G ((nd t (i)).1 + 1 + 1)
  have f11 := G ((nd t (i + 1)).1 + 1 + 1)
  have f12 := G (i + 1 + 1 + 1 + 1)
  have f13 := G ((nd t ((nd t (i)).1 + 1)).1 + 1 + 1)
  have f14 := G ((nd t ((nd t (i + 1)).1 + 1)).1 + 1 + 1)
  have f15 := G ((nd t (i + 1 + 1)).1 + 1 + 1)
  have f16 := G ((nd t (i + 1 + 1 + 1)).1 + 1 + 1)
  repeat' (
      conv => whnf
      first
      | refine req_i ?_ ?_
      | refine when_i ?_ ?_
      | refine brn_not ?_
      | refine brn_dec (fun h => ?_) (fun h => ?_)
      | refine brn_int (fun h => ?_) (fun h => ?_)
      | refine brn_intne (fun h => ?_) (fun h => ?_)
      | refine brn_str (fun h => ?_) (fun h => ?_)
      | refine brn_i (fun h => ?_) (fun h => ?_)
      | with_reducible refine IdxK.mk _ rfl ?_
      | with_reducible refine idx_blI ?_ (fun hc => ?_)
      | with_reducible refine idx_bl ?_ (fun hc => ?_)
      | with_reducible refine idx_strI ?_ (fun hc => ?_)
      | with_reducible refine idx_str ?_ (fun hc => ?_)
      | with_reducible refine idx_mapDI ?_ ?_
      | with_reducible refine idx_mapD ?_ ?_
      | with_reducible refine idx_at ?_ (fun b hb => ?_)
      | refine ex_bl ?_
      | refine ex_b1 ?_ ?_
      | refine ex_b2 ?_ ?_ ?_
      | refine ex_b3 ?_ ?_ ?_ ?_
      | refine ex_b4 ?_ ?_ ?_ ?_ ?_
      | refine optK_setL ?_ ?_
      | refine optK_takeL ?_ ?_
      | with_reducible refine forceDs_i ?_
      )
  all_goals try (conv => whnf)
  all_goals try (refine Side.mk ?_; try dsimp only)
  all_goals (try simp only [show (byte 45).toNat = 45 from rfl, show (byte 48).toNat = 48 from rfl, show (byte 46).toNat = 46 from rfl, show (byte 101).toNat = 101 from rfl, show (byte 69).toNat = 69 from rfl, show (byte 43).toNat = 43 from rfl, cond_true, cond_false, Int.toNat_natCast] at *)
  all_goals (try simp (discharger := omega) only [wrapS, Int.toNat_natCast] at *)
  all_goals clear hw hs
  all_goals (try simp only [ho, show (byte 45).toNat = 45 from rfl, show (byte 48).toNat = 48 from rfl, show (byte 46).toNat = 46 from rfl, show (byte 101).toNat = 101 from rfl, show (byte 69).toNat = 69 from rfl, show (byte 43).toNat = 43 from rfl] at *)
  all_goals first
    | (show EndP _ _ _ _ _ _; skip)
    | (refine sliceI ?_ ?_ ?_
       · omega
       · omega
       · repeat' (first | exact le_oneI (by assumption) | exact le_i hi | refine L1 ?_ | exact le_one (by assumption) | exact hi)
         done)
    | (refine ⟨by omega, by omega, ?_⟩
       omega)
    | skip
  all_goals (simp only [hn] at *)
  all_goals clear f0 f1 f2 f3 f4 f5 f6 f7 f8 f9 f10 f11 f12 f13 f14 f15 f16 G L1 ho hn
  all_goals
    simp only [splitD, numE, powerE, behindE, wholeE, sgnD, *, if_true, if_false, and_self, and_true, true_and, and_false, false_and, Bool.false_eq_true, reduceCtorEq, if_pos, if_neg, not_false_eq_true]
    refine EndP.mk [] ?_ <;> (repeat' (first | trivial | rfl | exact scopedL_bl _ _ | refine And.intro ?_ ?_ | refine congrArg V.str ?_ | refine congrArg (V.int _) ?_ | refine congrArg V.bool ?_ | refine congrArg (O.buf _ _) ?_ | refine congrArg O.cells ?_ | refine congrArg (V.list _ _) ?_ | refine congrArg V.agg ?_ | refine congrArg V.tuple ?_ | refine cons_eq ?_ ?_))
theorem f_r11Split_1 (t : List UInt8) (i : Nat) (hp : t.length ≤ 100000000 ∧ i ≤ t.length) : OK 81 ([.str t, .int .i64 i]) ([]) (.agg (eNP (splitD t i))) (none) := by
  exact f_SplitR (on := fun t i a b => oneD t i a.toNat b.toNat) (nd := needD) (fun _ _ _ _ => rfl) (fun _ _ => rfl) t i hp.1 hp.2
def sm_r11Split : Sm := fun args σ => match args, σ with
  | [.str t, .int .i64 (.ofNat i)], [] => some (t.length ≤ 100000000 ∧ i ≤ t.length, .agg (eNP (splitD t i)), none)
  | _, _ => none
theorem k_r11Split : SOK 81 sm_r11Split := by
  intro args sg pre x r he hp
  unfold sm_r11Split at he
  split at he <;> cases he
  · exact f_r11Split_1 (hp := hp) ..
/-- the same, with what is answered as a name -/
def smSplitR (sp : List UInt8 → Nat → NP) : Sm := fun args σ => match args, σ with
  | [.str t, .int .i64 (.ofNat i)], [] => some (t.length ≤ 100000000 ∧ i ≤ t.length, .agg (eNP (sp t i)), none)
  | _, _ => none
theorem k_splitR {sp : List UInt8 → Nat → NP} (h : ∀ t i, sp t i = splitD t i) : SOK 81 (smSplitR sp) := by
  intro args sg pre x r he hp
  unfold smSplitR at he
  split at he <;> cases he
  rw [h]
  exact f_r11Split_1 _ _ hp
theorem f_r11ReadR {sp : List UInt8 → Nat → NP} (hsp : ∀ t i, sp t i = splitD t i) (c : Cu) (hk : c.ok) (hl : c.s.length ≤ 100000000) : OK 52 [.agg (eC c)] [] (.tuple [.agg (eC c.numD.1), .str c.numD.2]) none := by
  refine funOK_of_vc (C := cx [(81, smSplitR sp), (54, sm_r01Fail)]) (good ⟨k_splitR hsp, k_r01Fail, trivial⟩) (fn := Try.f52) rfl rfl rfl rfl fun hw hs => ?_
  have h1 := hk.1
  have h2 := hk.2
  have hlen := txt_len hk
  have htx : c.s.take c.e = c.txt := rfl
  have hge := numE_ge c.txt c.p (by omega)
  have e1 : (sp c.txt c.p).e = (numE c.txt c.p).1 := by rw [hsp]; rfl
  have e2 : (sp c.txt c.p).c = (numE c.txt c.p).2 := by rw [hsp]; rfl
  repeat' (
      conv => whnf
      first
      | refine req_i ?_ ?_
      | refine when_i ?_ ?_
      | refine brn_not ?_
      | refine brn_dec (fun h => ?_) (fun h => ?_)
      | refine brn_int (fun h => ?_) (fun h => ?_)
      | refine brn_intne (fun h => ?_) (fun h => ?_)
      | refine brn_str (fun h => ?_) (fun h => ?_)
      | refine brn_i (fun h => ?_) (fun h => ?_)
      | with_reducible refine IdxK.mk _ rfl ?_
      | with_reducible refine idx_blI ?_ (fun hc => ?_)
      | with_reducible refine idx_bl ?_ (fun hc => ?_)
      | with_reducible refine idx_strI ?_ (fun hc => ?_)
      | with_reducible refine idx_str ?_ (fun hc => ?_)
      | with_reducible refine idx_mapDI ?_ ?_
      | with_reducible refine idx_mapD ?_ ?_
      | with_reducible refine idx_at ?_ (fun b hb => ?_)
      | refine ex_bl ?_
      | refine ex_b1 ?_ ?_
      | refine ex_b2 ?_ ?_ ?_
      | refine ex_b3 ?_ ?_ ?_ ?_
      | refine ex_b4 ?_ ?_ ?_ ?_ ?_
      | refine optK_setL ?_ ?_
      | refine optK_takeL ?_ ?_
      | with_reducible refine forceDs_i ?_
      )
  all_goals try (conv => whnf)
  all_goals try (refine Side.mk ?_; try dsimp only)
  all_goals (try simp only [Int.toNat_natCast, htx, e1, e2] at *)
  all_goals (try simp only [Cu_eta] at *)
  all_goals first
    | (show LoopP _ _ _ _; skip)
    | (show GotoP _ _ _ _ _; skip)
    | (show EndP _ _ _ _ _ _; skip)
    | (show ∃ _, _; skip)
    | (first
          | trivial
          | omega
          | (simp (discharger := omega) only [wu8, wu16, wu32, wu64, wi32, wi64, Int.tdiv_eq_ediv_of_nonneg, Int.tmod_eq_emod_of_nonneg]; omega)
          | (simp only [List.length_append, List.length_cons, List.length_nil, bl_length, List.length_take, List.length_drop]; omega)
          | (simp (discharger := omega) [-List.getD_eq_getElem?_getD, wu8, wu16, wu32, wu64, wi32, wi64, Int.tdiv_eq_ediv_of_nonneg, Int.tmod_eq_emod_of_nonneg]; done)
          | (simp (discharger := omega) [-List.getD_eq_getElem?_getD, wu8, wu16, wu32, wu64, wi32, wi64, Int.tdiv_eq_ediv_of_nonneg, Int.tmod_eq_emod_of_nonneg]; omega))
    | skip
  all_goals
    unfold Cu.numD
    repeat (first | rw [if_pos (by omega)] | rw [if_neg (by omega)])
    refine EndP.mk [] ?_ <;> (repeat' (first | trivial | rfl | exact scopedL_bl _ _ | refine And.intro ?_ ?_ | refine congrArg V.str ?_ | refine congrArg (V.int _) ?_ | refine congrArg V.bool ?_ | refine congrArg (O.buf _ _) ?_ | refine congrArg O.cells ?_ | refine congrArg (V.list _ _) ?_ | refine congrArg V.agg ?_ | refine congrArg V.tuple ?_ | refine cons_eq ?_ ?_))
theorem f_r11Read_1 (c : Cu) (hp : c.ok ∧ c.s.length ≤ 100000000) : OK 52 ([.agg (eC c)]) ([]) (.tuple [.agg (eC c.numD.1), .str c.numD.2]) (none) := by
  exact f_r11ReadR (sp := splitD) (fun _ _ => rfl) c hp.1 hp.2
def sm_r11Read : Sm := fun args σ => match args, σ with
  | [.agg ([.str s_c, .int .i64 (.ofNat a_c), .int .i64 (.ofNat e_c), .int .i64 c_c])], [] => some (True ∧ ((Cu.mk s_c a_c e_c c_c).ok ∧ (Cu.mk s_c a_c e_c c_c).s.length ≤ 100000000), .tuple [.agg (eC (Cu.mk s_c a_c e_c c_c).numD.1), .str (Cu.mk s_c a_c e_c c_c).numD.2], none)
  | _, _ => none
theorem k_r11Read : SOK 52 sm_r11Read := by
  intro args sg pre x r he hp
  unfold sm_r11Read at he
  split at he <;> cases he
  · rw [viewC (hp).1]; exact f_r11Read_1 (hp := hp.2) ..
theorem f_r12Sign_1 (b : UInt8) (hp : True) : OK 40 ([bv b]) ([]) (.bool (signB b)) (none) := by
  refine funOK_of_vc (C := cx []) (good trivial) (fn := Try.f40) rfl rfl rfl rfl fun hw hs => ?_
  have hb : b.toNat < 256 := b.toNat_lt
  have sT : signB b = true ↔ (b.toNat = 123 ∨ b.toNat = 125 ∨ b.toNat = 91 ∨ b.toNat = 93 ∨ b.toNat = 58 ∨ b.toNat = 44) := decide_eq_true_iff
  repeat' (
      conv => whnf
      first
      | refine req_i ?_ ?_
      | refine when_i ?_ ?_
      | refine brn_not ?_
      | refine brn_dec (fun h => ?_) (fun h => ?_)
      | refine brn_int (fun h => ?_) (fun h => ?_)
      | refine brn_intne (fun h => ?_) (fun h => ?_)
      | refine brn_str (fun h => ?_) (fun h => ?_)
      | refine brn_i (fun h => ?_) (fun h => ?_)
      | with_reducible refine IdxK.mk _ rfl ?_
      | with_reducible refine idx_blI ?_ (fun hc => ?_)
      | with_reducible refine idx_bl ?_ (fun hc => ?_)
      | with_reducible refine idx_strI ?_ (fun hc => ?_)
      | with_reducible refine idx_str ?_ (fun hc => ?_)
      | with_reducible refine idx_mapDI ?_ ?_
      | with_reducible refine idx_mapD ?_ ?_
      | with_reducible refine idx_at ?_ (fun b hb => ?_)
      | refine ex_bl ?_
      | refine ex_b1 ?_ ?_
      | refine ex_b2 ?_ ?_ ?_
      | refine ex_b3 ?_ ?_ ?_ ?_
      | refine ex_b4 ?_ ?_ ?_ ?_ ?_
      | refine optK_setL ?_ ?_
      | refine optK_takeL ?_ ?_
      | with_reducible refine forceDs_i ?_
      )
  all_goals try (conv => whnf)
  all_goals try (refine Side.mk ?_; try dsimp only)
  all_goals (try simp only [Cu_eta] at *)
  all_goals first
    | (show LoopP _ _ _ _; skip)
    | (show GotoP _ _ _ _ _; skip)
    | (show EndP _ _ _ _ _ _; skip)
    | (show ∃ _, _; skip)
    | (first
          | trivial
          | omega
          | (simp (discharger := omega) only [wu8, wu16, wu32, wu64, wi32, wi64, Int.tdiv_eq_ediv_of_nonneg, Int.tmod_eq_emod_of_nonneg]; omega)
          | (simp only [List.length_append, List.length_cons, List.length_nil, bl_length, List.length_take, List.length_drop]; omega)
          | (simp (discharger := omega) [-List.getD_eq_getElem?_getD, wu8, wu16, wu32, wu64, wi32, wi64, Int.tdiv_eq_ediv_of_nonneg, Int.tmod_eq_emod_of_nonneg]; done)
          | (simp (discharger := omega) [-List.getD_eq_getElem?_getD, wu8, wu16, wu32, wu64, wi32, wi64, Int.tdiv_eq_ediv_of_nonneg, Int.tmod_eq_emod_of_nonneg]; omega))
    | skip
  all_goals
    refine EndP.mk [] ?_ <;> (repeat' (first | trivial | rfl | exact scopedL_bl _ _ | refine And.intro ?_ ?_ | refine congrArg V.str ?_ | refine congrArg (V.int _) ?_ | refine congrArg V.bool ?_ | refine congrArg (O.buf _ _) ?_ | refine congrArg O.cells ?_ | refine congrArg (V.list _ _) ?_ | refine congrArg V.agg ?_ | refine congrArg V.tuple ?_ | refine cons_eq ?_ ?_))
    first
    | exact (sT.2 (by omega)).symm
    | (cases q : signB b with
       | true => have := sT.1 q; simp; omega
       | false =>
                have z : ¬ (b.toNat = 123 ∨ b.toNat = 125 ∨ b.toNat = 91 ∨ b.toNat = 93 ∨ b.toNat = 58 ∨ b.toNat = 44) := fun h => by rw [sT.2 h] at q; cases q
                simp; omega)
def sm_r12Sign : Sm := fun args σ => match args, σ with
  | [.int .u8 n_b], [] => some ((0 ≤ n_b ∧ n_b ≤ 255) ∧ (True), .bool (signB (byte n_b)), none)
  | _, _ => none
theorem k_r12Sign : SOK 40 sm_r12Sign := by
  intro args sg pre x r he hp
  unfold sm_r12Sign at he
  split at he <;> cases he
  · rw [viewB (hp).1]; exact f_r12Sign_1 (hp := hp.2) ..
theorem f_r12Spelled_1 (k : UInt8) (hp : True) : OK 41 ([bv k]) ([]) (.str (spell k)) (none) := by
  refine funOK_of_vc (C := cx []) (good trivial) (fn := Try.f41) rfl rfl rfl rfl fun hw hs => ?_
  have hb : k.toNat < 256 := k.toNat_lt
  repeat' (
      conv => whnf
      first
      | refine req_i ?_ ?_
      | refine when_i ?_ ?_
      | refine brn_not ?_
      | refine brn_dec (fun h => ?_) (fun h => ?_)
      | refine brn_int (fun h => ?_) (fun h => ?_)
      | refine brn_intne (fun h => ?_) (fun h => ?_)
      | refine brn_str (fun h => ?_) (fun h => ?_)
      | refine brn_i (fun h => ?_) (fun h => ?_)
      | with_reducible refine IdxK.mk _ rfl ?_
      | with_reducible refine idx_blI ?_ (fun hc => ?_)
      | with_reducible refine idx_bl ?_ (fun hc => ?_)
      | with_reducible refine idx_strI ?_ (fun hc => ?_)
      | with_reducible refine idx_str ?_ (fun hc => ?_)
      | with_reducible refine idx_mapDI ?_ ?_
      | with_reducible refine idx_mapD ?_ ?_
      | with_reducible refine idx_at ?_ (fun b hb => ?_)
      | refine ex_bl ?_
      | refine ex_b1 ?_ ?_
      | refine ex_b2 ?_ ?_ ?_
      | refine ex_b3 ?_ ?_ ?_ ?_
      | refine ex_b4 ?_ ?_ ?_ ?_ ?_
      | refine optK_setL ?_ ?_
      | refine optK_takeL ?_ ?_
      | with_reducible refine forceDs_i ?_
      )
  all_goals try (conv => whnf)
  all_goals try (refine Side.mk ?_; try dsimp only)
  all_goals (try simp only [Cu_eta] at *)
  all_goals first
    | (show LoopP _ _ _ _; skip)
    | (show GotoP _ _ _ _ _; skip)
    | (show EndP _ _ _ _ _ _; skip)
    | (show ∃ _, _; skip)
    | (first
          | trivial
          | omega
          | (simp (discharger := omega) only [wu8, wu16, wu32, wu64, wi32, wi64, Int.tdiv_eq_ediv_of_nonneg, Int.tmod_eq_emod_of_nonneg]; omega)
          | (simp only [List.length_append, List.length_cons, List.length_nil, bl_length, List.length_take, List.length_drop]; omega)
          | (simp (discharger := omega) [-List.getD_eq_getElem?_getD, wu8, wu16, wu32, wu64, wi32, wi64, Int.tdiv_eq_ediv_of_nonneg, Int.tmod_eq_emod_of_nonneg]; done)
          | (simp (discharger := omega) [-List.getD_eq_getElem?_getD, wu8, wu16, wu32, wu64, wi32, wi64, Int.tdiv_eq_ediv_of_nonneg, Int.tmod_eq_emod_of_nonneg]; omega))
    | skip
  all_goals
    unfold spell
    repeat (first | rw [if_pos (by omega)] | rw [if_neg (by omega)])
    refine EndP.mk [] ?_ <;> (repeat' (first | trivial | rfl | exact scopedL_bl _ _ | refine And.intro ?_ ?_ | refine congrArg V.str ?_ | refine congrArg (V.int _) ?_ | refine congrArg V.bool ?_ | refine congrArg (O.buf _ _) ?_ | refine congrArg O.cells ?_ | refine congrArg (V.list _ _) ?_ | refine congrArg V.agg ?_ | refine congrArg V.tuple ?_ | refine cons_eq ?_ ?_))
def sm_r12Spelled : Sm := fun args σ => match args, σ with
  | [.int .u8 n_k], [] => some ((0 ≤ n_k ∧ n_k ≤ 255) ∧ (True), .str (spell (byte n_k)), none)
  | _, _ => none
theorem k_r12Spelled : SOK 41 sm_r12Spelled := by
  intro args sg pre x r he hp
  unfold sm_r12Spelled at he
  split at he <;> cases he
  · rw [viewB (hp).1]; exact f_r12Spelled_1 (hp := hp.2) ..
theorem f_r12of_1 (c : Cu) (k : UInt8) (t : List UInt8) (hp : True) : OK 51 ([.agg (eC c), bv k, .str t]) ([]) (.tuple [.agg (eC c), .agg (eT (if c.c = 0 then ⟨k, t⟩ else .no))]) (none) := by
  refine funOK_of_vc (C := cx []) (good trivial) (fn := Try.f51) rfl rfl rfl rfl fun hw hs => ?_
  have hb : k.toNat < 256 := k.toNat_lt
  repeat' (
      conv => whnf
      first
      | refine req_i ?_ ?_
      | refine when_i ?_ ?_
      | refine brn_not ?_
      | refine brn_dec (fun h => ?_) (fun h => ?_)
      | refine brn_int (fun h => ?_) (fun h => ?_)
      | refine brn_intne (fun h => ?_) (fun h => ?_)
      | refine brn_str (fun h => ?_) (fun h => ?_)
      | refine brn_i (fun h => ?_) (fun h => ?_)
      | with_reducible refine IdxK.mk _ rfl ?_
      | with_reducible refine idx_blI ?_ (fun hc => ?_)
      | with_reducible refine idx_bl ?_ (fun hc => ?_)
      | with_reducible refine idx_strI ?_ (fun hc => ?_)
      | with_reducible refine idx_str ?_ (fun hc => ?_)
      | with_reducible refine idx_mapDI ?_ ?_
      | with_reducible refine idx_mapD ?_ ?_
      | with_reducible refine idx_at ?_ (fun b hb => ?_)
      | refine ex_bl ?_
      | refine ex_b1 ?_ ?_
      | refine ex_b2 ?_ ?_ ?_
      | refine ex_b3 ?_ ?_ ?_ ?_
      | refine ex_b4 ?_ ?_ ?_ ?_ ?_
      | refine optK_setL ?_ ?_
      | refine optK_takeL ?_ ?_
      | with_reducible refine forceDs_i ?_
      )
  all_goals try (conv => whnf)
  all_goals try (refine Side.mk ?_; try dsimp only)
  all_goals (try simp only [Cu_eta] at *)
  all_goals first
    | (show LoopP _ _ _ _; skip)
    | (show GotoP _ _ _ _ _; skip)
    | (show EndP _ _ _ _ _ _; skip)
    | (show ∃ _, _; skip)
    | (first
          | trivial
          | omega
          | (simp (discharger := omega) only [wu8, wu16, wu32, wu64, wi32, wi64, Int.tdiv_eq_ediv_of_nonneg, Int.tmod_eq_emod_of_nonneg]; omega)
          | (simp only [List.length_append, List.length_cons, List.length_nil, bl_length, List.length_take, List.length_drop]; omega)
          | (simp (discharger := omega) [-List.getD_eq_getElem?_getD, wu8, wu16, wu32, wu64, wi32, wi64, Int.tdiv_eq_ediv_of_nonneg, Int.tmod_eq_emod_of_nonneg]; done)
          | (simp (discharger := omega) [-List.getD_eq_getElem?_getD, wu8, wu16, wu32, wu64, wi32, wi64, Int.tdiv_eq_ediv_of_nonneg, Int.tmod_eq_emod_of_nonneg]; omega))
    | skip
  all_goals
    first | rw [if_pos (by assumption)] | rw [if_neg (by assumption)]
    refine EndP.mk [] ?_ <;> (repeat' (first | trivial | rfl | exact scopedL_bl _ _ | refine And.intro ?_ ?_ | refine congrArg V.str ?_ | refine congrArg (V.int _) ?_ | refine congrArg V.bool ?_ | refine congrArg (O.buf _ _) ?_ | refine congrArg O.cells ?_ | refine congrArg (V.list _ _) ?_ | refine congrArg V.agg ?_ | refine congrArg V.tuple ?_ | refine cons_eq ?_ ?_))
def sm_r12of : Sm := fun args σ => match args, σ with
  | [.agg ([.str s_c, .int .i64 (.ofNat a_c), .int .i64 (.ofNat e_c), .int .i64 c_c]), .int .u8 n_k, .str t], [] => some ((0 ≤ n_k ∧ n_k ≤ 255) ∧ (True ∧ (True)), .tuple [.agg (eC (Cu.mk s_c a_c e_c c_c)), .agg (eT (if (Cu.mk s_c a_c e_c c_c).c = 0 then ⟨(byte n_k), t⟩ else .no))], none)
  | _, _ => none
theorem k_r12of : SOK 51 sm_r12of := by
  intro args sg pre x r he hp
  unfold sm_r12of at he
  split at he <;> cases he
  · rw [viewB (hp).1]; rw [viewC (hp.2).1]; exact f_r12of_1 (hp := hp.2.2) ..
theorem f_r12word_1 (c : Cu) (k : UInt8) (hp : c.ok ∧ c.s.length ≤ 100000000) : OK 53 ([.agg (eC c), bv k]) ([]) (.tuple [.agg (eC (c.wordD k).1), .agg (eT (c.wordD k).2)]) (none) := by
  refine funOK_of_vc (C := cx [(41, sm_r12Spelled), (54, sm_r01Fail)]) (good ⟨k_r12Spelled, k_r01Fail, trivial⟩) (fn := Try.f53) rfl rfl rfl rfl fun hw hs => ?_
  obtain ⟨hk, hl⟩ := hp
  have h1 := hk.1
  have h2 := hk.2
  have hb : k.toNat < 256 := k.toNat_lt
  have hsl : (spell k).length ≤ 5 := by
    unfold spell; repeat' split
    all_goals simp
  have hkk : byte k.toNat = k := byte_of _
  repeat' (
      conv => whnf
      first
      | refine req_i ?_ ?_
      | refine when_i ?_ ?_
      | refine brn_not ?_
      | refine brn_dec (fun h => ?_) (fun h => ?_)
      | refine brn_int (fun h => ?_) (fun h => ?_)
      | refine brn_intne (fun h => ?_) (fun h => ?_)
      | refine brn_str (fun h => ?_) (fun h => ?_)
      | refine brn_i (fun h => ?_) (fun h => ?_)
      | with_reducible refine IdxK.mk _ rfl ?_
      | with_reducible refine idx_blI ?_ (fun hc => ?_)
      | with_reducible refine idx_bl ?_ (fun hc => ?_)
      | with_reducible refine idx_strI ?_ (fun hc => ?_)
      | with_reducible refine idx_str ?_ (fun hc => ?_)
      | with_reducible refine idx_mapDI ?_ ?_
      | with_reducible refine idx_mapD ?_ ?_
      | with_reducible refine idx_at ?_ (fun b hb => ?_)
      | refine ex_bl ?_
      | refine ex_b1 ?_ ?_
      | refine ex_b2 ?_ ?_ ?_
      | refine ex_b3 ?_ ?_ ?_ ?_
      | refine ex_b4 ?_ ?_ ?_ ?_ ?_
      | refine optK_setL ?_ ?_
      | refine optK_takeL ?_ ?_
      | with_reducible refine forceDs_i ?_
      )
  all_goals try (conv => whnf)
  all_goals try (refine Side.mk ?_; try dsimp only)
  all_goals (try simp only [Cu_eta] at *)
  all_goals first
    | (show LoopP _ _ _ _; skip)
    | (show GotoP _ _ _ _ _; skip)
    | (show EndP _ _ _ _ _ _; skip)
    | (show ∃ _, _; skip)
    | (first
          | trivial
          | omega
          | (simp (discharger := omega) only [wu8, wu16, wu32, wu64, wi32, wi64, Int.tdiv_eq_ediv_of_nonneg, Int.tmod_eq_emod_of_nonneg]; omega)
          | (simp only [List.length_append, List.length_cons, List.length_nil, bl_length, List.length_take, List.length_drop]; omega)
          | (simp (discharger := omega) [-List.getD_eq_getElem?_getD, wu8, wu16, wu32, wu64, wi32, wi64, Int.tdiv_eq_ediv_of_nonneg, Int.tmod_eq_emod_of_nonneg]; done)
          | (simp (discharger := omega) [-List.getD_eq_getElem?_getD, wu8, wu16, wu32, wu64, wi32, wi64, Int.tdiv_eq_ediv_of_nonneg, Int.tmod_eq_emod_of_nonneg]; omega))
    | skip
  all_goals (try simp only [hkk] at *)
  refine LoopP.mk Nat (fun i => i ≤ (spell k).length ∧ wordE c (spell k) 0 = wordE c ((spell k).drop i) i) (fun i => ⟨49, [(1, bv k), (2, .ptr 0 0), (4, .ptr 1 0), (5, .ptr 2 0), (6, .str (spell k)), (7, .int .i64 i)], [.cells (eC c), .cells [.str [], .int .i64 0, .int .i64 0, .int .i64 0], .cells [.int .u8 0, .str []]], []⟩) (fun i => (spell k).length - i) [] 0 ⟨by omega, rfl⟩ ?_ (fun i ⟨hi, he⟩ _ _ => ?_)
  · refine Go.VG.Sub.mk rfl ?_ ?_ ?_ ?_ <;> (repeat' (first | trivial | rfl | exact scopedL_bl _ _ | refine And.intro ?_ ?_ | refine congrArg V.str ?_ | refine congrArg (V.int _) ?_ | refine congrArg V.bool ?_ | refine congrArg (O.buf _ _) ?_ | refine congrArg O.cells ?_ | refine congrArg (V.list _ _) ?_ | refine congrArg V.agg ?_ | refine congrArg V.tuple ?_ | refine cons_eq ?_ ?_))
  have hx : ((spell k).getD i 0).toNat < 256 := UInt8.toNat_lt _
  have hy : (c.s.getD (c.p + i) 0).toNat < 256 := UInt8.toNat_lt _
  have hdr : i < (spell k).length → (spell k).drop i = (spell k).getD i 0 :: (spell k).drop (i + 1) := fun h => by
    rw [List.drop_eq_getElem_cons h, List.getD_eq_getElem?_getD, List.getElem?_eq_getElem h]; rfl
  have hw2 : IntKind.i64.wrap ((c.p : Int) + i) = ((c.p + i : Nat) : Int) := by (first | omega | (simp (discharger := omega) only [wu8, wu16, wu32, wu64, wi32, wi64, Int.tdiv_eq_ediv_of_nonneg, Int.tmod_eq_emod_of_nonneg]; omega) | (simp only [List.length_append, List.length_cons, List.length_nil, bl_length, List.length_take, List.length_drop]; omega) | (simp (discharger := omega) [-List.getD_eq_getElem?_getD, wu8, wu16, wu32, wu64, wi32, wi64, Int.tdiv_eq_ediv_of_nonneg, Int.tmod_eq_emod_of_nonneg]; done) | (simp (discharger := omega) [-List.getD_eq_getElem?_getD, wu8, wu16, wu32, wu64, wi32, wi64, Int.tdiv_eq_ediv_of_nonneg, Int.tmod_eq_emod_of_nonneg]; omega))
  have hw3 : IntKind.i64.wrap ((c.p : Int) + (spell k).length) = ((c.p + (spell k).length : Nat) : Int) := by (first | omega | (simp (discharger := omega) only [wu8, wu16, wu32, wu64, wi32, wi64, Int.tdiv_eq_ediv_of_nonneg, Int.tmod_eq_emod_of_nonneg]; omega) | (simp only [List.length_append, List.length_cons, List.length_nil, bl_length, List.length_take, List.length_drop]; omega) | (simp (discharger := omega) [-List.getD_eq_getElem?_getD, wu8, wu16, wu32, wu64, wi32, wi64, Int.tdiv_eq_ediv_of_nonneg, Int.tmod_eq_emod_of_nonneg]; done) | (simp (discharger := omega) [-List.getD_eq_getElem?_getD, wu8, wu16, wu32, wu64, wi32, wi64, Int.tdiv_eq_ediv_of_nonneg, Int.tmod_eq_emod_of_nonneg]; omega))
  repeat' (
      conv => whnf
      first
      | refine req_i ?_ ?_
      | refine when_i ?_ ?_
      | refine brn_not ?_
      | refine brn_dec (fun h => ?_) (fun h => ?_)
      | refine brn_int (fun h => ?_) (fun h => ?_)
      | refine brn_intne (fun h => ?_) (fun h => ?_)
      | refine brn_str (fun h => ?_) (fun h => ?_)
      | refine brn_i (fun h => ?_) (fun h => ?_)
      | with_reducible refine IdxK.mk _ rfl ?_
      | with_reducible refine idx_blI ?_ (fun hc => ?_)
      | with_reducible refine idx_bl ?_ (fun hc => ?_)
      | with_reducible refine idx_strI ?_ (fun hc => ?_)
      | with_reducible refine idx_str ?_ (fun hc => ?_)
      | with_reducible refine idx_mapDI ?_ ?_
      | with_reducible refine idx_mapD ?_ ?_
      | with_reducible refine idx_at ?_ (fun b hb => ?_)
      | refine ex_bl ?_
      | refine ex_b1 ?_ ?_
      | refine ex_b2 ?_ ?_ ?_
      | refine ex_b3 ?_ ?_ ?_ ?_
      | refine ex_b4 ?_ ?_ ?_ ?_ ?_
      | refine optK_setL ?_ ?_
      | refine optK_takeL ?_ ?_
      | with_reducible refine forceDs_i ?_
      )
  all_goals try (conv => whnf)
  all_goals try (refine Side.mk ?_; try dsimp only)
  all_goals (try simp only [hw2, hw3, Int.toNat_natCast] at *)
  all_goals (try simp only [Cu_eta] at *)
  all_goals first
    | (show LoopP _ _ _ _; skip)
    | (show GotoP _ _ _ _ _; skip)
    | (show EndP _ _ _ _ _ _; skip)
    | (show ∃ _, _; skip)
    | (first
          | trivial
          | omega
          | (simp (discharger := omega) only [wu8, wu16, wu32, wu64, wi32, wi64, Int.tdiv_eq_ediv_of_nonneg, Int.tmod_eq_emod_of_nonneg]; omega)
          | (simp only [List.length_append, List.length_cons, List.length_nil, bl_length, List.length_take, List.length_drop]; omega)
          | (simp (discharger := omega) [-List.getD_eq_getElem?_getD, wu8, wu16, wu32, wu64, wi32, wi64, Int.tdiv_eq_ediv_of_nonneg, Int.tmod_eq_emod_of_nonneg]; done)
          | (simp (discharger := omega) [-List.getD_eq_getElem?_getD, wu8, wu16, wu32, wu64, wi32, wi64, Int.tdiv_eq_ediv_of_nonneg, Int.tmod_eq_emod_of_nonneg]; omega))
    | skip
  · have z : wordE c (spell k) 0 = 1 := by rw [he, hdr (by omega)]; unfold wordE; rw [if_pos (by omega)]
    unfold Cu.wordD
    rw [z, if_pos (by decide)]
    refine EndP.mk [] ?_ <;> (repeat' (first | trivial | rfl | exact scopedL_bl _ _ | refine And.intro ?_ ?_ | refine congrArg V.str ?_ | refine congrArg (V.int _) ?_ | refine congrArg V.bool ?_ | refine congrArg (O.buf _ _) ?_ | refine congrArg O.cells ?_ | refine congrArg (V.list _ _) ?_ | refine congrArg V.agg ?_ | refine congrArg V.tuple ?_ | refine cons_eq ?_ ?_))
  · have z : wordE c (spell k) 0 = wordE c ((spell k).drop (i + 1)) (i + 1) := by
      rw [he, hdr (by omega)]
      conv => lhs; unfold wordE
      rw [if_neg (by omega), if_neg (fun e => e (UInt8.toNat_inj.1 (by omega)))]
    refine ⟨[], i + 1, ⟨by omega, z⟩, ?_, by omega⟩
    refine Go.VG.Sub.mk rfl ?_ ?_ ?_ ?_ <;> (repeat' (first | trivial | rfl | exact scopedL_bl _ _ | refine And.intro ?_ ?_ | refine congrArg V.str ?_ | refine congrArg (V.int _) ?_ | refine congrArg V.bool ?_ | refine congrArg (O.buf _ _) ?_ | refine congrArg O.cells ?_ | refine congrArg (V.list _ _) ?_ | refine congrArg V.agg ?_ | refine congrArg V.tuple ?_ | refine cons_eq ?_ ?_))
    all_goals (first | omega | (simp (discharger := omega) only [wu8, wu16, wu32, wu64, wi32, wi64, Int.tdiv_eq_ediv_of_nonneg, Int.tmod_eq_emod_of_nonneg]; omega) | (simp only [List.length_append, List.length_cons, List.length_nil, bl_length, List.length_take, List.length_drop]; omega) | (simp (discharger := omega) [-List.getD_eq_getElem?_getD, wu8, wu16, wu32, wu64, wi32, wi64, Int.tdiv_eq_ediv_of_nonneg, Int.tmod_eq_emod_of_nonneg]; done) | (simp (discharger := omega) [-List.getD_eq_getElem?_getD, wu8, wu16, wu32, wu64, wi32, wi64, Int.tdiv_eq_ediv_of_nonneg, Int.tmod_eq_emod_of_nonneg]; omega))
  · have z : wordE c (spell k) 0 = 3 := by
      rw [he, hdr (by omega)]; unfold wordE
      rw [if_neg (by omega), if_pos (fun e => by have := congrArg UInt8.toNat e; omega)]
    unfold Cu.wordD
    rw [z, if_pos (by decide)]
    refine EndP.mk [] ?_ <;> (repeat' (first | trivial | rfl | exact scopedL_bl _ _ | refine And.intro ?_ ?_ | refine congrArg V.str ?_ | refine congrArg (V.int _) ?_ | refine congrArg V.bool ?_ | refine congrArg (O.buf _ _) ?_ | refine congrArg O.cells ?_ | refine congrArg (V.list _ _) ?_ | refine congrArg V.agg ?_ | refine congrArg V.tuple ?_ | refine cons_eq ?_ ?_))
  · have z : wordE c (spell k) 0 = 0 := by rw [he, List.drop_eq_nil_of_le (by omega)]; unfold wordE; rfl
    unfold Cu.wordD
    rw [z, if_neg (by decide)]
    refine EndP.mk [] ?_ <;> (repeat' (first | trivial | rfl | exact scopedL_bl _ _ | refine And.intro ?_ ?_ | refine congrArg V.str ?_ | refine congrArg (V.int _) ?_ | refine congrArg V.bool ?_ | refine congrArg (O.buf _ _) ?_ | refine congrArg O.cells ?_ | refine congrArg (V.list _ _) ?_ | refine congrArg V.agg ?_ | refine congrArg V.tuple ?_ | refine cons_eq ?_ ?_))
def sm_r12word : Sm := fun args σ => match args, σ with
  | [.agg ([.str s_c, .int .i64 (.ofNat a_c), .int .i64 (.ofNat e_c), .int .i64 c_c]), .int .u8 n_k], [] => some ((0 ≤ n_k ∧ n_k ≤ 255) ∧ (True ∧ ((Cu.mk s_c a_c e_c c_c).ok ∧ (Cu.mk s_c a_c e_c c_c).s.length ≤ 100000000)), .tuple [.agg (eC ((Cu.mk s_c a_c e_c c_c).wordD (byte n_k)).1), .agg (eT ((Cu.mk s_c a_c e_c c_c).wordD (byte n_k)).2)], none)
  | _, _ => none
theorem k_r12word : SOK 53 sm_r12word := by
  intro args sg pre x r he hp
  unfold sm_r12word at he
  split at he <;> cases he
  · rw [viewB (hp).1]; rw [viewC (hp.2).1]; exact f_r12word_1 (hp := hp.2.2) ..
theorem f_r12Next_1 (c : Cu) (hp : c.ok ∧ c.s.length ≤ 10000000) : OK 19 ([.agg (eC c)]) ([]) (.tuple [.agg (eC c.nextD.1), .agg (eT c.nextD.2)]) (none) := by
  refine funOK_of_vc (C := cx [(40, sm_r12Sign), (50, sm_r10Read), (51, sm_r12of), (52, sm_r11Read), (53, sm_r12word), (54, sm_r01Fail)]) (good ⟨k_r12Sign, k_r10Read, k_r12of, k_r11Read, k_r12word, k_r01Fail, trivial⟩) (fn := Try.f19) rfl rfl rfl rfl fun hw hs => ?_
  obtain ⟨hk, hl⟩ := hp
  have h1 := hk.1
  have h2 := hk.2
  have hlen := txt_len hk
  repeat' (
      conv => whnf
      first
      | refine req_i ?_ ?_
      | refine when_i ?_ ?_
      | refine brn_not ?_
      | refine brn_dec (fun h => ?_) (fun h => ?_)
      | refine brn_int (fun h => ?_) (fun h => ?_)
      | refine brn_intne (fun h => ?_) (fun h => ?_)
      | refine brn_str (fun h => ?_) (fun h => ?_)
      | refine brn_i (fun h => ?_) (fun h => ?_)
      | with_reducible refine IdxK.mk _ rfl ?_
      | with_reducible refine idx_blI ?_ (fun hc => ?_)
      | with_reducible refine idx_bl ?_ (fun hc => ?_)
      | with_reducible refine idx_strI ?_ (fun hc => ?_)
      | with_reducible refine idx_str ?_ (fun hc => ?_)
      | with_reducible refine idx_mapDI ?_ ?_
      | with_reducible refine idx_mapD ?_ ?_
      | with_reducible refine idx_at ?_ (fun b hb => ?_)
      | refine ex_bl ?_
      | refine ex_b1 ?_ ?_
      | refine ex_b2 ?_ ?_ ?_
      | refine ex_b3 ?_ ?_ ?_ ?_
      | refine ex_b4 ?_ ?_ ?_ ?_ ?_
      | refine optK_setL ?_ ?_
      | refine optK_takeL ?_ ?_
      | with_reducible refine forceDs_i ?_
      )
  all_goals try (conv => whnf)
  all_goals try (refine Side.mk ?_; try dsimp only)
  all_goals (try simp only [Cu_eta] at *)
  all_goals first
    | (show LoopP _ _ _ _; skip)
    | (show GotoP _ _ _ _ _; skip)
    | (show EndP _ _ _ _ _ _; skip)
    | (show ∃ _, _; skip)
    | (first
          | trivial
          | omega
          | (simp (discharger := omega) only [wu8, wu16, wu32, wu64, wi32, wi64, Int.tdiv_eq_ediv_of_nonneg, Int.tmod_eq_emod_of_nonneg]; omega)
          | (simp only [List.length_append, List.length_cons, List.length_nil, bl_length, List.length_take, List.length_drop]; omega)
          | (simp (discharger := omega) [-List.getD_eq_getElem?_getD, wu8, wu16, wu32, wu64, wi32, wi64, Int.tdiv_eq_ediv_of_nonneg, Int.tmod_eq_emod_of_nonneg]; done)
          | (simp (discharger := omega) [-List.getD_eq_getElem?_getD, wu8, wu16, wu32, wu64, wi32, wi64, Int.tdiv_eq_ediv_of_nonneg, Int.tmod_eq_emod_of_nonneg]; omega))
    | skip
  · have h0 : c.c = 0 := by assumption
    refine LoopP.mk Nat (fun p => c.p ≤ p ∧ p ≤ c.e ∧ runW blkB c.txt p = runW blkB c.txt c.p) (fun p => ⟨128, [(1, .ptr 0 0), (2, .ptr 1 0), (3, .ptr 2 0)], [.cells (eC { c with p := p }), .cells [.str [], .int .i64 0, .int .i64 0, .int .i64 0], .cells [.int .u8 0, .str []]], []⟩) (fun p => c.e - p) [] c.p ⟨Nat.le_refl _, h1, rfl⟩ ?_ (fun p ⟨p1, p2, p3⟩ _ _ => ?_)
    · refine Go.VG.Sub.mk rfl ?_ ?_ ?_ ?_ <;> (repeat' (first | trivial | rfl | exact scopedL_bl _ _ | refine And.intro ?_ ?_ | refine congrArg V.str ?_ | refine congrArg (V.int _) ?_ | refine congrArg V.bool ?_ | refine congrArg (O.buf _ _) ?_ | refine congrArg O.cells ?_ | refine congrArg (V.list _ _) ?_ | refine congrArg V.agg ?_ | refine congrArg V.tuple ?_ | refine cons_eq ?_ ?_))
    have hx : (c.s.getD p 0).toNat < 256 := UInt8.toNat_lt _
    have hxx : byte (c.s.getD p 0).toNat = c.s.getD p 0 := byte_of _
    have hg : p < c.e → c.txt.getD p 0 = c.s.getD p 0 := fun h => by unfold Cu.txt; exact getD_take h
    have hit : p < c.e → blkB (c.s.getD p 0) = true → runW blkB c.txt (p + 1) = runW blkB c.txt c.p := fun h b => by rw [← p3, runW_hit (i := p) (by omega) (by rw [hg h]; exact b)]
    have stop : p = c.e ∨ blkB (c.s.getD p 0) = false → c.nextD = ({ c with p := p } : Cu).tokD := fun h => by
      unfold Cu.nextD
      rw [if_neg (by omega), ← p3, runW_stop (i := p) (by
        rcases Nat.lt_or_ge p c.e with q | q
        · right; rw [hg q]; rcases h with h | h; omega; exact h
        · left; omega)]
    have hd : Cu.ok { c with p := p } := ⟨p2, h2⟩
    have hget : ({ c with p := p } : Cu).get = c.s.getD p 0 := rfl
    have sT : signB (c.s.getD p 0) = true ↔ ((c.s.getD p 0).toNat = 123 ∨ (c.s.getD p 0).toNat = 125 ∨ (c.s.getD p 0).toNat = 91 ∨ (c.s.getD p 0).toNat = 93 ∨ (c.s.getD p 0).toNat = 58 ∨ (c.s.getD p 0).toNat = 44) := decide_eq_true_iff
    have dT := digB_t (b := c.s.getD p 0)
    repeat' (
        conv => whnf
        first
        | refine req_i ?_ ?_
        | refine when_i ?_ ?_
        | refine brn_not ?_
        | refine brn_dec (fun h => ?_) (fun h => ?_)
        | refine brn_int (fun h => ?_) (fun h => ?_)
        | refine brn_intne (fun h => ?_) (fun h => ?_)
        | refine brn_str (fun h => ?_) (fun h => ?_)
        | refine brn_i (fun h => ?_) (fun h => ?_)
        | with_reducible refine IdxK.mk _ rfl ?_
        | with_reducible refine idx_blI ?_ (fun hc => ?_)
        | with_reducible refine idx_bl ?_ (fun hc => ?_)
        | with_reducible refine idx_strI ?_ (fun hc => ?_)
        | with_reducible refine idx_str ?_ (fun hc => ?_)
        | with_reducible refine idx_mapDI ?_ ?_
        | with_reducible refine idx_mapD ?_ ?_
        | with_reducible refine idx_at ?_ (fun b hb => ?_)
        | refine ex_bl ?_
        | refine ex_b1 ?_ ?_
        | refine ex_b2 ?_ ?_ ?_
        | refine ex_b3 ?_ ?_ ?_ ?_
        | refine ex_b4 ?_ ?_ ?_ ?_ ?_
        | refine optK_setL ?_ ?_
        | refine optK_takeL ?_ ?_
        | with_reducible refine forceDs_i ?_
        )
    all_goals try (conv => whnf)
    all_goals try (refine Side.mk ?_; try dsimp only)
    all_goals (try simp only [Cu_eta] at *)
    all_goals first
      | (show LoopP _ _ _ _; skip)
      | (show GotoP _ _ _ _ _; skip)
      | (show EndP _ _ _ _ _ _; skip)
      | (show ∃ _, _; skip)
      | (first
            | trivial
            | omega
            | (simp (discharger := omega) only [wu8, wu16, wu32, wu64, wi32, wi64, Int.tdiv_eq_ediv_of_nonneg, Int.tmod_eq_emod_of_nonneg]; omega)
            | (simp only [List.length_append, List.length_cons, List.length_nil, bl_length, List.length_take, List.length_drop]; omega)
            | (simp (discharger := omega) [-List.getD_eq_getElem?_getD, wu8, wu16, wu32, wu64, wi32, wi64, Int.tdiv_eq_ediv_of_nonneg, Int.tmod_eq_emod_of_nonneg]; done)
            | (simp (discharger := omega) [-List.getD_eq_getElem?_getD, wu8, wu16, wu32, wu64, wi32, wi64, Int.tdiv_eq_ediv_of_nonneg, Int.tmod_eq_emod_of_nonneg]; omega))
      | skip
    all_goals (try simp only [hxx] at *)
    all_goals first
      | (exfalso; omega)
      | exact ⟨trivial, hd, by omega⟩
      | exact ⟨by omega, trivial, hd, by omega⟩
      | (refine ⟨[], p + 1, ⟨by omega, by omega, hit (by omega) (blkB_t.2 (by omega))⟩, ?_, by omega⟩
         refine Go.VG.Sub.mk rfl ?_ ?_ ?_ ?_ <;> (repeat' (first | trivial | rfl | exact scopedL_bl _ _ | refine And.intro ?_ ?_ | refine congrArg V.str ?_ | refine congrArg (V.int _) ?_ | refine congrArg V.bool ?_ | refine congrArg (O.buf _ _) ?_ | refine congrArg O.cells ?_ | refine congrArg (V.list _ _) ?_ | refine congrArg V.agg ?_ | refine congrArg V.tuple ?_ | refine cons_eq ?_ ?_))
         all_goals (first | omega | (simp (discharger := omega) only [wu8, wu16, wu32, wu64, wi32, wi64, Int.tdiv_eq_ediv_of_nonneg, Int.tmod_eq_emod_of_nonneg]; omega) | (simp only [List.length_append, List.length_cons, List.length_nil, bl_length, List.length_take, List.length_drop]; omega) | (simp (discharger := omega) [-List.getD_eq_getElem?_getD, wu8, wu16, wu32, wu64, wi32, wi64, Int.tdiv_eq_ediv_of_nonneg, Int.tmod_eq_emod_of_nonneg]; done) | (simp (discharger := omega) [-List.getD_eq_getElem?_getD, wu8, wu16, wu32, wu64, wi32, wi64, Int.tdiv_eq_ediv_of_nonneg, Int.tmod_eq_emod_of_nonneg]; omega))
         done)
      | skip
    all_goals
      first
      | rw [stop (.inl (by omega))]
      | rw [stop (.inr (blkB_f.2 (by omega)))]
      unfold Cu.tokD
      first
      | rw [if_pos (show ({ c with p := p } : Cu).p = ({ c with p := p } : Cu).e by show p = c.e; omega)]
      | rw [if_neg (show ¬ ({ c with p := p } : Cu).p = ({ c with p := p } : Cu).e by show ¬ p = c.e; omega)]
      try rw [hget]
      repeat (first | rw [if_pos (by rw [sT]; omega)] | rw [if_neg (by rw [sT]; omega)] | rw [if_pos (by rw [dT]; omega)] | rw [if_neg (by rw [dT]; omega)] | rw [if_pos (by omega)] | rw [if_neg (by omega)])
      refine EndP.mk [] ?_ <;> (repeat' (first | trivial | rfl | exact scopedL_bl _ _ | refine And.intro ?_ ?_ | refine congrArg V.str ?_ | refine congrArg (V.int _) ?_ | refine congrArg V.bool ?_ | refine congrArg (O.buf _ _) ?_ | refine congrArg O.cells ?_ | refine congrArg (V.list _ _) ?_ | refine congrArg V.agg ?_ | refine congrArg V.tuple ?_ | refine cons_eq ?_ ?_))
      all_goals (first | omega | (simp (discharger := omega) only [wu8, wu16, wu32, wu64, wi32, wi64, Int.tdiv_eq_ediv_of_nonneg, Int.tmod_eq_emod_of_nonneg]; omega) | (simp only [List.length_append, List.length_cons, List.length_nil, bl_length, List.length_take, List.length_drop]; omega) | (simp (discharger := omega) [-List.getD_eq_getElem?_getD, wu8, wu16, wu32, wu64, wi32, wi64, Int.tdiv_eq_ediv_of_nonneg, Int.tmod_eq_emod_of_nonneg]; done) | (simp (discharger := omega) [-List.getD_eq_getElem?_getD, wu8, wu16, wu32, wu64, wi32, wi64, Int.tdiv_eq_ediv_of_nonneg, Int.tmod_eq_emod_of_nonneg]; omega))
  · unfold Cu.nextD
    rw [if_pos (by assumption)]
    refine EndP.mk [] ?_ <;> (repeat' (first | trivial | rfl | exact scopedL_bl _ _ | refine And.intro ?_ ?_ | refine congrArg V.str ?_ | refine congrArg (V.int _) ?_ | refine congrArg V.bool ?_ | refine congrArg (O.buf _ _) ?_ | refine congrArg O.cells ?_ | refine congrArg (V.list _ _) ?_ | refine congrArg V.agg ?_ | refine congrArg V.tuple ?_ | refine cons_eq ?_ ?_))
def sm_r12Next : Sm := fun args σ => match args, σ with
  | [.agg ([.str s_c, .int .i64 (.ofNat a_c), .int .i64 (.ofNat e_c), .int .i64 c_c])], [] => some (True ∧ ((Cu.mk s_c a_c e_c c_c).ok ∧ (Cu.mk s_c a_c e_c c_c).s.length ≤ 10000000), .tuple [.agg (eC (Cu.mk s_c a_c e_c c_c).nextD.1), .agg (eT (Cu.mk s_c a_c e_c c_c).nextD.2)], none)
  | _, _ => none
theorem k_r12Next : SOK 19 sm_r12Next := by
  intro args sg pre x r he hp
  unfold sm_r12Next at he
  split at he <;> cases he
  · rw [viewC (hp).1]; exact f_r12Next_1 (hp := hp.2) ..
end Go.Proofs.Ytllncocibkgjkaa
