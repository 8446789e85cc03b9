/-
  Fields of Protobuf: what the program lays, and what the document says.
-/
import Derived.Test.YtbeejnmeakcpjaaDoorPRf
set_option linter.unusedSimpArgs false
set_option linter.unusedVariables false
set_option maxHeartbeats 4000000
namespace Go.Proofs.YtbeejnmeakcpjaaDoor
open Go Go.VG
set_option maxRecDepth 100000
theorem shr_byteW (u b : Nat) (hb : b ≤ 32) : IntKind.u8.wrap (iShr .u32 u b) = ((UInt8.ofNat (u / 2 ^ b % 256)).toNat : Int) := by
  rw [iShr_nat, show min b IntKind.u32.bits = b from Nat.min_eq_left hb, wu8, UInt8.toNat_ofNat']
  omega
def tagU (n w : Int) : Nat := (8 * n + w).toNat
def tagB (n w : Int) : List UInt8 := if mayT n w = true then vput (tagU n w) else []
theorem mayT_b {n w : Int} (h : mayT n w = true) : (1 ≤ n ∧ n ≤ 536870911) ∧ (w = 0 ∨ w = 1 ∨ w = 2 ∨ w = 5) := of_decide_eq_true h
theorem tag_or {n w : Int} (h : mayT n w = true) : iOr .u64 (iShl .u64 (IntKind.u64.wrap n) 3) (IntKind.u64.wrap w) = (tagU n w : Nat) := by
  have hb := mayT_b h
  obtain ⟨a, rfl⟩ := Int.eq_ofNat_of_zero_le (show 0 ≤ n by omega)
  obtain ⟨b, rfl⟩ := Int.eq_ofNat_of_zero_le (show 0 ≤ w by omega)
  rw [show IntKind.u64.wrap (a : Int) = (a : Int) by rw [wu64]; omega, show IntKind.u64.wrap (b : Int) = (b : Int) by rw [wu64]; omega]
  have e1 : iShl .u64 (a : Int) 3 = ((a * 2 ^ 3 : Nat) : Int) := by
    show IntKind.u64.wrap ((a : Int) * 2 ^ 3) = _
    rw [wu64]; omega
  rw [e1]
  show IntKind.u64.wrap ((BitVec.ofInt 64 ((a * 2 ^ 3 : Nat) : Int) ||| BitVec.ofInt 64 (b : Int)).toNat : Int) = _
  rw [BitVec.ofInt_natCast, BitVec.ofInt_natCast, BitVec.toNat_or, BitVec.toNat_ofNat, BitVec.toNat_ofNat, Nat.mod_eq_of_lt (by omega), Nat.mod_eq_of_lt (by omega), wu64]
  have e2 := Nat.shiftLeft_add_eq_or_of_lt (i := 3) (b := b) (by omega) a
  rw [Nat.shiftLeft_eq] at e2
  rw [← e2]
  unfold tagU
  omega
theorem tagU_lt {n w : Int} (h : mayT n w = true) : tagU n w ≤ 4294967295 := by
  have hb := mayT_b h
  unfold tagU; omega
theorem tagB_len (n w : Int) : (tagB n w).length ≤ 10 := by
  unfold tagB
  split
  · rename_i h
    have := tagU_lt h
    exact (vput_len (by omega)).2
  · simp
theorem f_pTagPut_1 (l : List V) (n w : Int) (hp : l.length ≤ 1900000000) : OK 50 ([.buf 0, .agg [.int .i64 n, .int .i64 w]]) ([.buf 1 0 l]) (.buf 1) (some [.buf 1 0 l, .buf 1 0 (l ++ bl (tagB n w))]) := by
  refine funOK_of_vc (C := cx [(51, sm_pMay), (54, sm_vPut)]) (good ⟨k_pMay, k_vPut, trivial⟩) (fn := Tryd.f50) rfl rfl rfl rfl fun hw hs => ?_
  have h1 := @tag_or n w
  have h2 := @tagU_lt n w
  repeat' (
      conv => whnf
      first
      | with_reducible refine optB_i (fun j q h => ?_) (fun h => ?_)
      | with_reducible refine nextM_i ⟨rfl, rfl⟩ (fun h => ?_) (fun j h => ?_)
      | with_reducible refine nextM_i ?_ (fun h => ?_) (fun j h => ?_)
      | refine req_i ?_ ?_
      | refine when_i ?_ ?_
      | refine brn_not ?_
      | refine brn_dec (fun h => ?_) (fun h => ?_)
      | refine brn_int (fun h => ?_) (fun h => ?_)
      | refine brn_intne (fun h => ?_) (fun h => ?_)
      | refine brn_str (fun h => ?_) (fun h => ?_)
      | refine brn_i (fun h => ?_) (fun h => ?_)
      | with_reducible refine IdxK.mk _ rfl ?_
      | with_reducible refine idx_blI ?_ (fun hc => ?_)
      | with_reducible refine idx_bl ?_ (fun hc => ?_)
      | with_reducible refine idx_strI ?_ (fun hc => ?_)
      | with_reducible refine idx_str ?_ (fun hc => ?_)
      | with_reducible refine idx_mapDI ?_ ?_
      | with_reducible refine idx_mapD ?_ ?_
      | with_reducible refine idx_at ?_ (fun b hb => ?_)
      | refine ex_bl ?_
      | refine ex_b1 ?_ ?_
      | refine ex_b2 ?_ ?_ ?_
      | refine ex_b3 ?_ ?_ ?_ ?_
      | refine ex_b4 ?_ ?_ ?_ ?_ ?_
      | refine optK_setL ?_ ?_
      | refine optK_takeL ?_ ?_
      | with_reducible refine forceDs_i ?_
      )
  all_goals try (conv => whnf)
  all_goals try (refine Side.mk ?_; try dsimp only)
  all_goals first
    | (show LoopP _ _ _ _; skip)
    | (show GotoP _ _ _ _ _; skip)
    | (show EndP _ _ _ _ _ _; skip)
    | (show ∃ _, _; skip)
    | (first
          | trivial
          | omega
          | (simp (discharger := omega) only [wu8, wu16, wu32, wu64, wi32, wi64, Int.tdiv_eq_ediv_of_nonneg, Int.tmod_eq_emod_of_nonneg]; omega)
          | (simp only [List.length_append, List.length_cons, List.length_nil, bl_length, List.length_take, List.length_drop]; omega)
          | (simp (discharger := omega) [-List.getD_eq_getElem?_getD, wu8, wu16, wu32, wu64, wi32, wi64, Int.tdiv_eq_ediv_of_nonneg, Int.tmod_eq_emod_of_nonneg]; done)
          | (simp (discharger := omega) [-List.getD_eq_getElem?_getD, wu8, wu16, wu32, wu64, wi32, wi64, Int.tdiv_eq_ediv_of_nonneg, Int.tmod_eq_emod_of_nonneg]; omega))
    | skip
  · have hm : mayT n w = true := decide_eq_true (by assumption)
    rw [h1 hm]
    have h2 := h2 hm
    refine ⟨⟨?_, ?_⟩, ?_⟩ <;> omega
  · have hm : mayT n w = true := decide_eq_true (by assumption)
    rw [h1 hm]
    unfold tagB
    rw [if_pos hm]
    refine EndP.mk [.swap 1 2] ?_ <;> (repeat' (first | trivial | rfl | exact scopedL_bl _ _ | refine And.intro ?_ ?_ | refine congrArg V.str ?_ | refine congrArg (V.int _) ?_ | refine congrArg V.bool ?_ | refine congrArg (O.buf _ _) ?_ | refine congrArg O.cells ?_ | refine congrArg (V.list _ _) ?_ | refine congrArg V.agg ?_ | refine congrArg V.tuple ?_ | refine cons_eq ?_ ?_))
  · have hm : mayT n w = false := decide_eq_false (by assumption)
    unfold tagB
    rw [hm, if_neg Bool.false_ne_true]
    refine EndP.mk [.swap 1 2] ?_ <;> (repeat' (first | trivial | rfl | exact scopedL_bl _ _ | refine And.intro ?_ ?_ | refine congrArg V.str ?_ | refine congrArg (V.int _) ?_ | refine congrArg V.bool ?_ | refine congrArg (O.buf _ _) ?_ | refine congrArg O.cells ?_ | refine congrArg (V.list _ _) ?_ | refine congrArg V.agg ?_ | refine congrArg V.tuple ?_ | refine cons_eq ?_ ?_))
    simp [bl]
theorem f_pTagPut_2 (c : Bool) (l : List V) (n w : Int) (hp : l.length ≤ 1900000000) : OK 50 ([.list c 1 l, .agg [.int .i64 n, .int .i64 w]]) ([]) (.buf 0) (some [.buf 1 0 (l ++ bl (tagB n w))]) := by
  refine funOK_of_vc (C := cx [(51, sm_pMay), (54, sm_vPut)]) (good ⟨k_pMay, k_vPut, trivial⟩) (fn := Tryd.f50) rfl rfl rfl rfl fun hw hs => ?_
  have h1 := @tag_or n w
  have h2 := @tagU_lt n w
  repeat' (
      conv => whnf
      first
      | with_reducible refine optB_i (fun j q h => ?_) (fun h => ?_)
      | with_reducible refine nextM_i ⟨rfl, rfl⟩ (fun h => ?_) (fun j h => ?_)
      | with_reducible refine nextM_i ?_ (fun h => ?_) (fun j h => ?_)
      | refine req_i ?_ ?_
      | refine when_i ?_ ?_
      | refine brn_not ?_
      | refine brn_dec (fun h => ?_) (fun h => ?_)
      | refine brn_int (fun h => ?_) (fun h => ?_)
      | refine brn_intne (fun h => ?_) (fun h => ?_)
      | refine brn_str (fun h => ?_) (fun h => ?_)
      | refine brn_i (fun h => ?_) (fun h => ?_)
      | with_reducible refine IdxK.mk _ rfl ?_
      | with_reducible refine idx_blI ?_ (fun hc => ?_)
      | with_reducible refine idx_bl ?_ (fun hc => ?_)
      | with_reducible refine idx_strI ?_ (fun hc => ?_)
      | with_reducible refine idx_str ?_ (fun hc => ?_)
      | with_reducible refine idx_mapDI ?_ ?_
      | with_reducible refine idx_mapD ?_ ?_
      | with_reducible refine idx_at ?_ (fun b hb => ?_)
      | refine ex_bl ?_
      | refine ex_b1 ?_ ?_
      | refine ex_b2 ?_ ?_ ?_
      | refine ex_b3 ?_ ?_ ?_ ?_
      | refine ex_b4 ?_ ?_ ?_ ?_ ?_
      | refine optK_setL ?_ ?_
      | refine optK_takeL ?_ ?_
      | with_reducible refine forceDs_i ?_
      )
  all_goals try (conv => whnf)
  all_goals try (refine Side.mk ?_; try dsimp only)
  all_goals first
    | (show LoopP _ _ _ _; skip)
    | (show GotoP _ _ _ _ _; skip)
    | (show EndP _ _ _ _ _ _; skip)
    | (show ∃ _, _; skip)
    | (first
          | trivial
          | omega
          | (simp (discharger := omega) only [wu8, wu16, wu32, wu64, wi32, wi64, Int.tdiv_eq_ediv_of_nonneg, Int.tmod_eq_emod_of_nonneg]; omega)
          | (simp only [List.length_append, List.length_cons, List.length_nil, bl_length, List.length_take, List.length_drop]; omega)
          | (simp (discharger := omega) [-List.getD_eq_getElem?_getD, wu8, wu16, wu32, wu64, wi32, wi64, Int.tdiv_eq_ediv_of_nonneg, Int.tmod_eq_emod_of_nonneg]; done)
          | (simp (discharger := omega) [-List.getD_eq_getElem?_getD, wu8, wu16, wu32, wu64, wi32, wi64, Int.tdiv_eq_ediv_of_nonneg, Int.tmod_eq_emod_of_nonneg]; omega))
    | skip
  · have hm : mayT n w = true := decide_eq_true (by assumption)
    rw [h1 hm]
    have h2 := h2 hm
    refine ⟨⟨?_, ?_⟩, ?_⟩ <;> omega
  · have hm : mayT n w = true := decide_eq_true (by assumption)
    rw [h1 hm]
    unfold tagB
    rw [if_pos hm]
    refine EndP.mk [.swap 0 1] ?_ <;> (repeat' (first | trivial | rfl | exact scopedL_bl _ _ | refine And.intro ?_ ?_ | refine congrArg V.str ?_ | refine congrArg (V.int _) ?_ | refine congrArg V.bool ?_ | refine congrArg (O.buf _ _) ?_ | refine congrArg O.cells ?_ | refine congrArg (V.list _ _) ?_ | refine congrArg V.agg ?_ | refine congrArg V.tuple ?_ | refine cons_eq ?_ ?_))
  · have hm : mayT n w = false := decide_eq_false (by assumption)
    unfold tagB
    rw [hm, if_neg Bool.false_ne_true]
    refine EndP.mk [.tm 4 1, .swap 0 1] ?_ <;> (repeat' (first | trivial | rfl | exact scopedL_bl _ _ | refine And.intro ?_ ?_ | refine congrArg V.str ?_ | refine congrArg (V.int _) ?_ | refine congrArg V.bool ?_ | refine congrArg (O.buf _ _) ?_ | refine congrArg O.cells ?_ | refine congrArg (V.list _ _) ?_ | refine congrArg V.agg ?_ | refine congrArg V.tuple ?_ | refine cons_eq ?_ ?_))
    simp [bl]
def sm_pTagPut : Sm := fun args σ => match args, σ with
  | [.buf 0, .agg [.int .i64 n, .int .i64 w]], [.buf 1 0 l] => some (l.length ≤ 1900000000, .buf 1, some [.buf 1 0 l, .buf 1 0 (l ++ bl (tagB n w))])
  | [.list c 1 l, .agg [.int .i64 n, .int .i64 w]], [] => some (l.length ≤ 1900000000, .buf 0, some [.buf 1 0 (l ++ bl (tagB n w))])
  | _, _ => none
theorem k_pTagPut : SOK 50 sm_pTagPut := by
  intro args sg pre x r he hp
  unfold sm_pTagPut at he
  split at he <;> cases he
  · exact f_pTagPut_1 (hp := hp) ..
  · exact f_pTagPut_2 (hp := hp) ..
end Go.Proofs.YtbeejnmeakcpjaaDoor
