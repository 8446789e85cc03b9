/-
  Characters: the program's check of a text, and how it lays a character.
-/
import Derived.Test.YtllncocibkgjkaaUTFe
import Derived.Test.YtllncocibkgjkaaPHex
set_option linter.unusedSimpArgs false
set_option linter.unusedVariables false
set_option maxHeartbeats 4000000
namespace Go.Proofs.Ytllncocibkgjkaa
open Go Go.VG
set_option maxRecDepth 100000
theorem f_uRuneQ_1 (s : List UInt8) (i : Nat) (hp : s.length ≤ 100000000) : OK 112 ([.str s, .int .i64 i]) ([]) (.tuple [.int .i32 (uRune s i).1, .int .i64 (uRune s i).2]) (none) := by
  rw [← rune_eq]; exact f_uRuneP s i hp
def sm_uRuneQ : Sm := fun args σ => match args, σ with
  | [.str s, .int .i64 (.ofNat i)], [] => some (s.length ≤ 100000000, .tuple [.int .i32 (uRune s i).1, .int .i64 (uRune s i).2], none)
  | _, _ => none
theorem k_uRuneQ : SOK 112 sm_uRuneQ := by
  intro args sg pre x r he hp
  unfold sm_uRuneQ at he
  split at he <;> cases he
  · exact f_uRuneQ_1 (hp := hp) ..
theorem f_uCheckP_1 (s : List UInt8) (hp : s.length ≤ 10000000) : OK 96 ([.str s]) ([]) (.int .i64 (uCheck s)) (none) := by
  refine funOK_of_vc (C := cx [(112, sm_uRuneQ)]) (good ⟨k_uRuneQ, trivial⟩) (fn := Try.f96) rfl rfl rfl rfl fun hw hs => ?_
  refine LoopP.mk (Nat × Nat) (fun | (i, c) => i ≤ s.length ∧ c ≤ i ∧ uWalk s i c = uWalk s 0 0)
    (fun | (i, _) => ⟨22, [(3, .int .i64 i), (0, .str s)], [], []⟩) (fun x => s.length - x.1) [] (0, 0) ⟨by omega, by omega, rfl⟩ ?_ (fun ⟨i, c⟩ ⟨hi, hc, he⟩ _ _ => ?_)
  · refine Go.VG.Sub.mk rfl ?_ ?_ ?_ ?_ <;> (repeat' (first | trivial | rfl | exact scopedL_bl _ _ | refine And.intro ?_ ?_ | refine congrArg V.str ?_ | refine congrArg (V.int _) ?_ | refine congrArg V.bool ?_ | refine congrArg (O.buf _ _) ?_ | refine congrArg O.cells ?_ | refine congrArg (V.list _ _) ?_ | refine congrArg V.agg ?_ | refine congrArg V.tuple ?_ | refine cons_eq ?_ ?_))
  have hr := uRune_le s i
  repeat' (
      conv => whnf
      first
      | refine req_i ?_ ?_
      | refine when_i ?_ ?_
      | refine brn_not ?_
      | refine brn_dec (fun h => ?_) (fun h => ?_)
      | refine brn_int (fun h => ?_) (fun h => ?_)
      | refine brn_intne (fun h => ?_) (fun h => ?_)
      | refine brn_str (fun h => ?_) (fun h => ?_)
      | refine brn_i (fun h => ?_) (fun h => ?_)
      | with_reducible refine IdxK.mk _ rfl ?_
      | with_reducible refine idx_blI ?_ (fun hc => ?_)
      | with_reducible refine idx_bl ?_ (fun hc => ?_)
      | with_reducible refine idx_strI ?_ (fun hc => ?_)
      | with_reducible refine idx_str ?_ (fun hc => ?_)
      | with_reducible refine idx_mapDI ?_ ?_
      | with_reducible refine idx_mapD ?_ ?_
      | with_reducible refine idx_at ?_ (fun b hb => ?_)
      | refine ex_bl ?_
      | refine ex_b1 ?_ ?_
      | refine ex_b2 ?_ ?_ ?_
      | refine ex_b3 ?_ ?_ ?_ ?_
      | refine ex_b4 ?_ ?_ ?_ ?_ ?_
      | refine optK_setL ?_ ?_
      | refine optK_takeL ?_ ?_
      | with_reducible refine forceDs_i ?_
      )
  all_goals try (conv => whnf)
  all_goals try (refine Side.mk ?_; try dsimp only)
  all_goals first
    | (show LoopP _ _ _ _; skip)
    | (show GotoP _ _ _ _ _; skip)
    | (show EndP _ _ _ _ _ _; skip)
    | (show ∃ _, _; skip)
    | (first
          | trivial
          | omega
          | (simp (discharger := omega) only [wu8, wu16, wu32, wu64, wi32, wi64, Int.tdiv_eq_ediv_of_nonneg, Int.tmod_eq_emod_of_nonneg]; omega)
          | (simp only [List.length_append, List.length_cons, List.length_nil, bl_length, List.length_take, List.length_drop]; omega)
          | (simp (discharger := omega) [-List.getD_eq_getElem?_getD, wu8, wu16, wu32, wu64, wi32, wi64, Int.tdiv_eq_ediv_of_nonneg, Int.tmod_eq_emod_of_nonneg]; done)
          | (simp (discharger := omega) [-List.getD_eq_getElem?_getD, wu8, wu16, wu32, wu64, wi32, wi64, Int.tdiv_eq_ediv_of_nonneg, Int.tmod_eq_emod_of_nonneg]; omega))
    | skip
  · rw [uWalk, if_neg (by omega), dif_pos (by omega)] at he
    unfold uCheck
    rw [← he, if_neg (by simp only; omega)]
    refine EndP.mk [] ?_ <;> (repeat' (first | trivial | rfl | exact scopedL_bl _ _ | refine And.intro ?_ ?_ | refine congrArg V.str ?_ | refine congrArg (V.int _) ?_ | refine congrArg V.bool ?_ | refine congrArg (O.buf _ _) ?_ | refine congrArg O.cells ?_ | refine congrArg (V.list _ _) ?_ | refine congrArg V.agg ?_ | refine congrArg V.tuple ?_ | refine cons_eq ?_ ?_))
  · rw [uWalk, if_neg (by omega), dif_neg (by omega)] at he
    refine ⟨[], (i + (uRune s i).2, c + 1), ⟨by omega, by omega, he⟩, ?_, by omega⟩
    refine Go.VG.Sub.mk rfl ?_ ?_ ?_ ?_ <;> (repeat' (first | trivial | rfl | exact scopedL_bl _ _ | refine And.intro ?_ ?_ | refine congrArg V.str ?_ | refine congrArg (V.int _) ?_ | refine congrArg V.bool ?_ | refine congrArg (O.buf _ _) ?_ | refine congrArg O.cells ?_ | refine congrArg (V.list _ _) ?_ | refine congrArg V.agg ?_ | refine congrArg V.tuple ?_ | refine cons_eq ?_ ?_))
    all_goals (first | omega | (simp (discharger := omega) only [wu8, wu16, wu32, wu64, wi32, wi64, Int.tdiv_eq_ediv_of_nonneg, Int.tmod_eq_emod_of_nonneg]; omega) | (simp only [List.length_append, List.length_cons, List.length_nil, bl_length, List.length_take, List.length_drop]; omega) | (simp (discharger := omega) [-List.getD_eq_getElem?_getD, wu8, wu16, wu32, wu64, wi32, wi64, Int.tdiv_eq_ediv_of_nonneg, Int.tmod_eq_emod_of_nonneg]; done) | (simp (discharger := omega) [-List.getD_eq_getElem?_getD, wu8, wu16, wu32, wu64, wi32, wi64, Int.tdiv_eq_ediv_of_nonneg, Int.tmod_eq_emod_of_nonneg]; omega))
  · rw [uWalk, if_pos (by omega)] at he
    unfold uCheck
    rw [← he, if_pos (by simp only; omega)]
    refine EndP.mk [] ?_ <;> (repeat' (first | trivial | rfl | exact scopedL_bl _ _ | refine And.intro ?_ ?_ | refine congrArg V.str ?_ | refine congrArg (V.int _) ?_ | refine congrArg V.bool ?_ | refine congrArg (O.buf _ _) ?_ | refine congrArg O.cells ?_ | refine congrArg (V.list _ _) ?_ | refine congrArg V.agg ?_ | refine congrArg V.tuple ?_ | refine cons_eq ?_ ?_))
def sm_uCheckP : Sm := fun args σ => match args, σ with
  | [.str s], [] => some (s.length ≤ 10000000, .int .i64 (uCheck s), none)
  | _, _ => none
theorem k_uCheckP : SOK 96 sm_uCheckP := by
  intro args sg pre x r he hp
  unfold sm_uCheckP at he
  split at he <;> cases he
  · exact f_uCheckP_1 (hp := hp) ..
def uSize (r : Int) : Int := if r < 128 then 1 else if r < 2048 then 2 else if r < 65536 then 3 else 4
def smSize (r n : Int) : Sm := fun args σ => some (args = [.int .i32 r] ∧ σ = [] ∧ uSize r = n, .int .i64 n, none)
theorem kSize (r n : Int) : SOK 111 (smSize r n) := by
  intro args sg pre x rr he hp
  unfold smSize at he
  cases he
  obtain ⟨rfl, rfl, rfl⟩ := hp
  refine funOK_of_vc (C := cx []) (good trivial) (fn := Try.f111) rfl rfl rfl rfl fun hw hs => ?_
  repeat' (
      conv => whnf
      first
      | refine req_i ?_ ?_
      | refine when_i ?_ ?_
      | refine brn_not ?_
      | refine brn_dec (fun h => ?_) (fun h => ?_)
      | refine brn_int (fun h => ?_) (fun h => ?_)
      | refine brn_intne (fun h => ?_) (fun h => ?_)
      | refine brn_str (fun h => ?_) (fun h => ?_)
      | refine brn_i (fun h => ?_) (fun h => ?_)
      | with_reducible refine IdxK.mk _ rfl ?_
      | with_reducible refine idx_blI ?_ (fun hc => ?_)
      | with_reducible refine idx_bl ?_ (fun hc => ?_)
      | with_reducible refine idx_strI ?_ (fun hc => ?_)
      | with_reducible refine idx_str ?_ (fun hc => ?_)
      | with_reducible refine idx_mapDI ?_ ?_
      | with_reducible refine idx_mapD ?_ ?_
      | with_reducible refine idx_at ?_ (fun b hb => ?_)
      | refine ex_bl ?_
      | refine ex_b1 ?_ ?_
      | refine ex_b2 ?_ ?_ ?_
      | refine ex_b3 ?_ ?_ ?_ ?_
      | refine ex_b4 ?_ ?_ ?_ ?_ ?_
      | refine optK_setL ?_ ?_
      | refine optK_takeL ?_ ?_
      | with_reducible refine forceDs_i ?_
      )
  all_goals try (conv => whnf)
  all_goals try (refine Side.mk ?_; try dsimp only)
  all_goals first
    | (show LoopP _ _ _ _; skip)
    | (show GotoP _ _ _ _ _; skip)
    | (show EndP _ _ _ _ _ _; skip)
    | (show ∃ _, _; skip)
    | (first
          | trivial
          | omega
          | (simp (discharger := omega) only [wu8, wu16, wu32, wu64, wi32, wi64, Int.tdiv_eq_ediv_of_nonneg, Int.tmod_eq_emod_of_nonneg]; omega)
          | (simp only [List.length_append, List.length_cons, List.length_nil, bl_length, List.length_take, List.length_drop]; omega)
          | (simp (discharger := omega) [-List.getD_eq_getElem?_getD, wu8, wu16, wu32, wu64, wi32, wi64, Int.tdiv_eq_ediv_of_nonneg, Int.tmod_eq_emod_of_nonneg]; done)
          | (simp (discharger := omega) [-List.getD_eq_getElem?_getD, wu8, wu16, wu32, wu64, wi32, wi64, Int.tdiv_eq_ediv_of_nonneg, Int.tmod_eq_emod_of_nonneg]; omega))
    | skip
  all_goals
    unfold uSize
    repeat (first | rw [if_pos (by omega)] | rw [if_neg (by omega)])
    refine EndP.mk [] ?_ <;> (repeat' (first | trivial | rfl | exact scopedL_bl _ _ | refine And.intro ?_ ?_ | refine congrArg V.str ?_ | refine congrArg (V.int _) ?_ | refine congrArg V.bool ?_ | refine congrArg (O.buf _ _) ?_ | refine congrArg O.cells ?_ | refine congrArg (V.list _ _) ?_ | refine congrArg V.agg ?_ | refine congrArg V.tuple ?_ | refine cons_eq ?_ ?_))
theorem or_u8 (a b j : Nat) (ha : a * 2 ^ j + b < 256) (hb : b < 2 ^ j) : iOr .u8 ((a * 2 ^ j : Nat) : Int) (b : Int) = ((a * 2 ^ j + b : Nat) : Int) := by
  show IntKind.u8.wrap ((BitVec.ofInt 8 ((a * 2 ^ j : Nat) : Int) ||| BitVec.ofInt 8 (b : Int)).toNat : Int) = _
  rw [BitVec.ofInt_natCast, BitVec.ofInt_natCast, BitVec.toNat_or, BitVec.toNat_ofNat, BitVec.toNat_ofNat, Nat.mod_eq_of_lt (by omega), Nat.mod_eq_of_lt (by omega), or_low a b j hb]
  rw [wu8]; omega
theorem or_128 (b : Nat) (h : b < 64) : iOr .u8 128 b = ((128 + b : Nat) : Int) := or_u8 2 b 6 (by omega) (by omega)
theorem or_192 (b : Nat) (h : b < 32) : iOr .u8 192 b = ((192 + b : Nat) : Int) := or_u8 6 b 5 (by omega) (by omega)
theorem or_224 (b : Nat) (h : b < 16) : iOr .u8 224 b = ((224 + b : Nat) : Int) := or_u8 14 b 4 (by omega) (by omega)
theorem or_240 (b : Nat) (h : b < 8) : iOr .u8 240 b = ((240 + b : Nat) : Int) := or_u8 30 b 3 (by omega) (by omega)
theorem copy_eq (l : List V) : List.take (List.replicate (l.length : Int).toNat (V.int .u8 0)).length l ++ List.drop l.length (List.replicate (l.length : Int).toNat (V.int .u8 0)) = l := by simp
theorem a63 (x : Nat) : iOr .u8 128 (iAnd .u8 (IntKind.u8.wrap x) 63) = ((128 + x % 64 : Nat) : Int) := by
  rw [wu8, show ((x : Int) % 256) = ((x % 256 : Nat) : Int) by omega, and_u8_63 _ (by omega), show x % 256 % 64 = x % 64 by omega]
  exact or_128 _ (by omega)
theorem s6 (r : Nat) : iShr .i32 r 6 = ((r / 64 : Nat) : Int) := iShr_nat .i32 r 6
theorem s12 (r : Nat) : iShr .i32 r 12 = ((r / 4096 : Nat) : Int) := iShr_nat .i32 r 12
theorem s18 (r : Nat) : iShr .i32 r 18 = ((r / 262144 : Nat) : Int) := iShr_nat .i32 r 18
theorem lead2 (r : Nat) (h : r < 2048) : iOr .u8 (iShl .u8 240 (IntKind.i64.wrap (4 - 2))) (IntKind.u8.wrap (iShr .i32 r (IntKind.i64.wrap (6 * IntKind.i64.wrap (2 - 1))))) = ((192 + r / 64 : Nat) : Int) := by
  rw [show iShl .u8 240 (IntKind.i64.wrap (4 - 2)) = 192 by decide, show IntKind.i64.wrap (6 * IntKind.i64.wrap (2 - 1)) = 6 by decide, s6, wrap_u8n _ (by show ((r / 64 : Nat) : Int) ≤ 255; omega)]
  exact or_192 _ (by omega)
theorem lead3 (r : Nat) (h : r < 65536) : iOr .u8 (iShl .u8 240 (IntKind.i64.wrap (4 - 3))) (IntKind.u8.wrap (iShr .i32 r (IntKind.i64.wrap (6 * IntKind.i64.wrap (3 - 1))))) = ((224 + r / 4096 : Nat) : Int) := by
  rw [show iShl .u8 240 (IntKind.i64.wrap (4 - 3)) = 224 by decide, show IntKind.i64.wrap (6 * IntKind.i64.wrap (3 - 1)) = 12 by decide, s12, wrap_u8n _ (by show ((r / 4096 : Nat) : Int) ≤ 255; omega)]
  exact or_224 _ (by omega)
theorem lead4 (r : Nat) (h : r < 1114112) : iOr .u8 (iShl .u8 240 (IntKind.i64.wrap (4 - 4))) (IntKind.u8.wrap (iShr .i32 r (IntKind.i64.wrap (6 * IntKind.i64.wrap (4 - 1))))) = ((240 + r / 262144 : Nat) : Int) := by
  rw [show iShl .u8 240 (IntKind.i64.wrap (4 - 4)) = 240 by decide, show IntKind.i64.wrap (6 * IntKind.i64.wrap (4 - 1)) = 18 by decide, s18, wrap_u8n _ (by show ((r / 262144 : Nat) : Int) ≤ 255; omega)]
  exact or_240 _ (by omega)
theorem bl_byte (x : Int) (h : 0 ≤ x ∧ x ≤ 255) (s : List UInt8) : bl (byte x :: s) = V.int .u8 x :: bl s := by simp only [bl, bv, byte_toNat h]
theorem f_uPut1 (l : List V) (r : Nat) (hu : uIs r = true) (hn : uSize r = 1) (hl : l.length ≤ 3000000000) : OK 93 [.buf 0, .int .i32 r] [.buf 1 0 l] (.buf 0) (some [.buf 1 0 (l ++ bl (uBytes r))]) := by
  refine funOK_of_vc (C := cx [(110, sm_uIsP), (111, smSize r 1)]) (good ⟨k_uIsP, kSize r 1, trivial⟩) (fn := Try.f93) rfl rfl rfl rfl fun hw hs => ?_
  repeat' (
      conv => whnf
      first
      | refine req_i ?_ ?_
      | refine when_i ?_ ?_
      | refine brn_not ?_
      | refine brn_dec (fun h => ?_) (fun h => ?_)
      | refine brn_int (fun h => ?_) (fun h => ?_)
      | refine brn_intne (fun h => ?_) (fun h => ?_)
      | refine brn_str (fun h => ?_) (fun h => ?_)
      | refine brn_i (fun h => ?_) (fun h => ?_)
      | with_reducible refine IdxK.mk _ rfl ?_
      | with_reducible refine idx_blI ?_ (fun hc => ?_)
      | with_reducible refine idx_bl ?_ (fun hc => ?_)
      | with_reducible refine idx_strI ?_ (fun hc => ?_)
      | with_reducible refine idx_str ?_ (fun hc => ?_)
      | with_reducible refine idx_mapDI ?_ ?_
      | with_reducible refine idx_mapD ?_ ?_
      | with_reducible refine idx_at ?_ (fun b hb => ?_)
      | refine ex_bl ?_
      | refine ex_b1 ?_ ?_
      | refine ex_b2 ?_ ?_ ?_
      | refine ex_b3 ?_ ?_ ?_ ?_
      | refine ex_b4 ?_ ?_ ?_ ?_ ?_
      | refine optK_setL ?_ ?_
      | refine optK_takeL ?_ ?_
      | with_reducible refine forceDs_i ?_
      )
  all_goals try (conv => whnf)
  all_goals try (refine Side.mk ?_; try dsimp only)
  all_goals first
    | (show LoopP _ _ _ _; skip)
    | (show GotoP _ _ _ _ _; skip)
    | (show EndP _ _ _ _ _ _; skip)
    | (show ∃ _, _; skip)
    | (first
          | trivial
          | omega
          | (simp (discharger := omega) only [wu8, wu16, wu32, wu64, wi32, wi64, Int.tdiv_eq_ediv_of_nonneg, Int.tmod_eq_emod_of_nonneg]; omega)
          | (simp only [List.length_append, List.length_cons, List.length_nil, bl_length, List.length_take, List.length_drop]; omega)
          | (simp (discharger := omega) [-List.getD_eq_getElem?_getD, wu8, wu16, wu32, wu64, wi32, wi64, Int.tdiv_eq_ediv_of_nonneg, Int.tmod_eq_emod_of_nonneg]; done)
          | (simp (discharger := omega) [-List.getD_eq_getElem?_getD, wu8, wu16, wu32, wu64, wi32, wi64, Int.tdiv_eq_ediv_of_nonneg, Int.tmod_eq_emod_of_nonneg]; omega))
    | skip
  · have hb := (uIs_t _).1 hu
    have hr : (1 = 1 ∧ r < 128) ∨ (1 = 2 ∧ 128 ≤ r ∧ r < 2048) ∨ (1 = 3 ∧ 2048 ≤ r ∧ r < 65536) ∨ (1 = 4 ∧ 65536 ≤ r ∧ r < 1114112) := by
      unfold uSize at hn
      repeat' split at hn
      all_goals omega
    refine EndP.mk [.swap 0 1] ?_ <;> (repeat' (first | trivial | rfl | exact scopedL_bl _ _ | refine And.intro ?_ ?_ | refine congrArg V.str ?_ | refine congrArg (V.int _) ?_ | refine congrArg V.bool ?_ | refine congrArg (O.buf _ _) ?_ | refine congrArg O.cells ?_ | refine congrArg (V.list _ _) ?_ | refine congrArg V.agg ?_ | refine congrArg V.tuple ?_ | refine cons_eq ?_ ?_))
    rw [copy_eq]
    try rw [lead2 r (by omega)]
    try rw [lead3 r (by omega)]
    try rw [lead4 r (by omega)]
    try simp only [s6, s12, a63]
    unfold uBytes
    repeat (first | rw [if_pos (by omega)] | rw [if_neg (by omega)])
    repeat rw [bl_byte _ (by omega)]
    try simp only [List.append_assoc, List.cons_append, List.nil_append]
    repeat' (first | rfl | refine congrArg (l ++ ·) ?_ | refine cons_eq ?_ ?_ | refine congrArg (V.int .u8) ?_)
    all_goals (first | omega | (simp (discharger := omega) only [wu8, wu16, wu32, wu64, wi32, wi64, Int.tdiv_eq_ediv_of_nonneg, Int.tmod_eq_emod_of_nonneg]; omega) | (simp only [List.length_append, List.length_cons, List.length_nil, bl_length, List.length_take, List.length_drop]; omega) | (simp (discharger := omega) [-List.getD_eq_getElem?_getD, wu8, wu16, wu32, wu64, wi32, wi64, Int.tdiv_eq_ediv_of_nonneg, Int.tmod_eq_emod_of_nonneg]; done) | (simp (discharger := omega) [-List.getD_eq_getElem?_getD, wu8, wu16, wu32, wu64, wi32, wi64, Int.tdiv_eq_ediv_of_nonneg, Int.tmod_eq_emod_of_nonneg]; omega))
  · exact absurd ((uIs_t _).1 hu) (by assumption)
theorem f_uPut2 (l : List V) (r : Nat) (hu : uIs r = true) (hn : uSize r = 2) (hl : l.length ≤ 3000000000) : OK 93 [.buf 0, .int .i32 r] [.buf 1 0 l] (.buf 0) (some [.buf 1 0 (l ++ bl (uBytes r))]) := by
  refine funOK_of_vc (C := cx [(110, sm_uIsP), (111, smSize r 2)]) (good ⟨k_uIsP, kSize r 2, trivial⟩) (fn := Try.f93) rfl rfl rfl rfl fun hw hs => ?_
  repeat' (
      conv => whnf
      first
      | refine req_i ?_ ?_
      | refine when_i ?_ ?_
      | refine brn_not ?_
      | refine brn_dec (fun h => ?_) (fun h => ?_)
      | refine brn_int (fun h => ?_) (fun h => ?_)
      | refine brn_intne (fun h => ?_) (fun h => ?_)
      | refine brn_str (fun h => ?_) (fun h => ?_)
      | refine brn_i (fun h => ?_) (fun h => ?_)
      | with_reducible refine IdxK.mk _ rfl ?_
      | with_reducible refine idx_blI ?_ (fun hc => ?_)
      | with_reducible refine idx_bl ?_ (fun hc => ?_)
      | with_reducible refine idx_strI ?_ (fun hc => ?_)
      | with_reducible refine idx_str ?_ (fun hc => ?_)
      | with_reducible refine idx_mapDI ?_ ?_
      | with_reducible refine idx_mapD ?_ ?_
      | with_reducible refine idx_at ?_ (fun b hb => ?_)
      | refine ex_bl ?_
      | refine ex_b1 ?_ ?_
      | refine ex_b2 ?_ ?_ ?_
      | refine ex_b3 ?_ ?_ ?_ ?_
      | refine ex_b4 ?_ ?_ ?_ ?_ ?_
      | refine optK_setL ?_ ?_
      | refine optK_takeL ?_ ?_
      | with_reducible refine forceDs_i ?_
      )
  all_goals try (conv => whnf)
  all_goals try (refine Side.mk ?_; try dsimp only)
  all_goals first
    | (show LoopP _ _ _ _; skip)
    | (show GotoP _ _ _ _ _; skip)
    | (show EndP _ _ _ _ _ _; skip)
    | (show ∃ _, _; skip)
    | (first
          | trivial
          | omega
          | (simp (discharger := omega) only [wu8, wu16, wu32, wu64, wi32, wi64, Int.tdiv_eq_ediv_of_nonneg, Int.tmod_eq_emod_of_nonneg]; omega)
          | (simp only [List.length_append, List.length_cons, List.length_nil, bl_length, List.length_take, List.length_drop]; omega)
          | (simp (discharger := omega) [-List.getD_eq_getElem?_getD, wu8, wu16, wu32, wu64, wi32, wi64, Int.tdiv_eq_ediv_of_nonneg, Int.tmod_eq_emod_of_nonneg]; done)
          | (simp (discharger := omega) [-List.getD_eq_getElem?_getD, wu8, wu16, wu32, wu64, wi32, wi64, Int.tdiv_eq_ediv_of_nonneg, Int.tmod_eq_emod_of_nonneg]; omega))
    | skip
  · have hb := (uIs_t _).1 hu
    have hr : (2 = 1 ∧ r < 128) ∨ (2 = 2 ∧ 128 ≤ r ∧ r < 2048) ∨ (2 = 3 ∧ 2048 ≤ r ∧ r < 65536) ∨ (2 = 4 ∧ 65536 ≤ r ∧ r < 1114112) := by
      unfold uSize at hn
      repeat' split at hn
      all_goals omega
    refine EndP.mk [.swap 0 1] ?_ <;> (repeat' (first | trivial | rfl | exact scopedL_bl _ _ | refine And.intro ?_ ?_ | refine congrArg V.str ?_ | refine congrArg (V.int _) ?_ | refine congrArg V.bool ?_ | refine congrArg (O.buf _ _) ?_ | refine congrArg O.cells ?_ | refine congrArg (V.list _ _) ?_ | refine congrArg V.agg ?_ | refine congrArg V.tuple ?_ | refine cons_eq ?_ ?_))
    rw [copy_eq]
    try rw [lead2 r (by omega)]
    try rw [lead3 r (by omega)]
    try rw [lead4 r (by omega)]
    try simp only [s6, s12, a63]
    unfold uBytes
    repeat (first | rw [if_pos (by omega)] | rw [if_neg (by omega)])
    repeat rw [bl_byte _ (by omega)]
    try simp only [List.append_assoc, List.cons_append, List.nil_append]
    repeat' (first | rfl | refine congrArg (l ++ ·) ?_ | refine cons_eq ?_ ?_ | refine congrArg (V.int .u8) ?_)
    all_goals (first | omega | (simp (discharger := omega) only [wu8, wu16, wu32, wu64, wi32, wi64, Int.tdiv_eq_ediv_of_nonneg, Int.tmod_eq_emod_of_nonneg]; omega) | (simp only [List.length_append, List.length_cons, List.length_nil, bl_length, List.length_take, List.length_drop]; omega) | (simp (discharger := omega) [-List.getD_eq_getElem?_getD, wu8, wu16, wu32, wu64, wi32, wi64, Int.tdiv_eq_ediv_of_nonneg, Int.tmod_eq_emod_of_nonneg]; done) | (simp (discharger := omega) [-List.getD_eq_getElem?_getD, wu8, wu16, wu32, wu64, wi32, wi64, Int.tdiv_eq_ediv_of_nonneg, Int.tmod_eq_emod_of_nonneg]; omega))
  · exact absurd ((uIs_t _).1 hu) (by assumption)
theorem f_uPut3 (l : List V) (r : Nat) (hu : uIs r = true) (hn : uSize r = 3) (hl : l.length ≤ 3000000000) : OK 93 [.buf 0, .int .i32 r] [.buf 1 0 l] (.buf 0) (some [.buf 1 0 (l ++ bl (uBytes r))]) := by
  refine funOK_of_vc (C := cx [(110, sm_uIsP), (111, smSize r 3)]) (good ⟨k_uIsP, kSize r 3, trivial⟩) (fn := Try.f93) rfl rfl rfl rfl fun hw hs => ?_
  repeat' (
      conv => whnf
      first
      | refine req_i ?_ ?_
      | refine when_i ?_ ?_
      | refine brn_not ?_
      | refine brn_dec (fun h => ?_) (fun h => ?_)
      | refine brn_int (fun h => ?_) (fun h => ?_)
      | refine brn_intne (fun h => ?_) (fun h => ?_)
      | refine brn_str (fun h => ?_) (fun h => ?_)
      | refine brn_i (fun h => ?_) (fun h => ?_)
      | with_reducible refine IdxK.mk _ rfl ?_
      | with_reducible refine idx_blI ?_ (fun hc => ?_)
      | with_reducible refine idx_bl ?_ (fun hc => ?_)
      | with_reducible refine idx_strI ?_ (fun hc => ?_)
      | with_reducible refine idx_str ?_ (fun hc => ?_)
      | with_reducible refine idx_mapDI ?_ ?_
      | with_reducible refine idx_mapD ?_ ?_
      | with_reducible refine idx_at ?_ (fun b hb => ?_)
      | refine ex_bl ?_
      | refine ex_b1 ?_ ?_
      | refine ex_b2 ?_ ?_ ?_
      | refine ex_b3 ?_ ?_ ?_ ?_
      | refine ex_b4 ?_ ?_ ?_ ?_ ?_
      | refine optK_setL ?_ ?_
      | refine optK_takeL ?_ ?_
      | with_reducible refine forceDs_i ?_
      )
  all_goals try (conv => whnf)
  all_goals try (refine Side.mk ?_; try dsimp only)
  all_goals first
    | (show LoopP _ _ _ _; skip)
    | (show GotoP _ _ _ _ _; skip)
    | (show EndP _ _ _ _ _ _; skip)
    | (show ∃ _, _; skip)
    | (first
          | trivial
          | omega
          | (simp (discharger := omega) only [wu8, wu16, wu32, wu64, wi32, wi64, Int.tdiv_eq_ediv_of_nonneg, Int.tmod_eq_emod_of_nonneg]; omega)
          | (simp only [List.length_append, List.length_cons, List.length_nil, bl_length, List.length_take, List.length_drop]; omega)
          | (simp (discharger := omega) [-List.getD_eq_getElem?_getD, wu8, wu16, wu32, wu64, wi32, wi64, Int.tdiv_eq_ediv_of_nonneg, Int.tmod_eq_emod_of_nonneg]; done)
          | (simp (discharger := omega) [-List.getD_eq_getElem?_getD, wu8, wu16, wu32, wu64, wi32, wi64, Int.tdiv_eq_ediv_of_nonneg, Int.tmod_eq_emod_of_nonneg]; omega))
    | skip
  · have hb := (uIs_t _).1 hu
    have hr : (3 = 1 ∧ r < 128) ∨ (3 = 2 ∧ 128 ≤ r ∧ r < 2048) ∨ (3 = 3 ∧ 2048 ≤ r ∧ r < 65536) ∨ (3 = 4 ∧ 65536 ≤ r ∧ r < 1114112) := by
      unfold uSize at hn
      repeat' split at hn
      all_goals omega
    refine EndP.mk [.swap 0 1] ?_ <;> (repeat' (first | trivial | rfl | exact scopedL_bl _ _ | refine And.intro ?_ ?_ | refine congrArg V.str ?_ | refine congrArg (V.int _) ?_ | refine congrArg V.bool ?_ | refine congrArg (O.buf _ _) ?_ | refine congrArg O.cells ?_ | refine congrArg (V.list _ _) ?_ | refine congrArg V.agg ?_ | refine congrArg V.tuple ?_ | refine cons_eq ?_ ?_))
    rw [copy_eq]
    try rw [lead2 r (by omega)]
    try rw [lead3 r (by omega)]
    try rw [lead4 r (by omega)]
    try simp only [s6, s12, a63]
    unfold uBytes
    repeat (first | rw [if_pos (by omega)] | rw [if_neg (by omega)])
    repeat rw [bl_byte _ (by omega)]
    try simp only [List.append_assoc, List.cons_append, List.nil_append]
    repeat' (first | rfl | refine congrArg (l ++ ·) ?_ | refine cons_eq ?_ ?_ | refine congrArg (V.int .u8) ?_)
    all_goals (first | omega | (simp (discharger := omega) only [wu8, wu16, wu32, wu64, wi32, wi64, Int.tdiv_eq_ediv_of_nonneg, Int.tmod_eq_emod_of_nonneg]; omega) | (simp only [List.length_append, List.length_cons, List.length_nil, bl_length, List.length_take, List.length_drop]; omega) | (simp (discharger := omega) [-List.getD_eq_getElem?_getD, wu8, wu16, wu32, wu64, wi32, wi64, Int.tdiv_eq_ediv_of_nonneg, Int.tmod_eq_emod_of_nonneg]; done) | (simp (discharger := omega) [-List.getD_eq_getElem?_getD, wu8, wu16, wu32, wu64, wi32, wi64, Int.tdiv_eq_ediv_of_nonneg, Int.tmod_eq_emod_of_nonneg]; omega))
  · exact absurd ((uIs_t _).1 hu) (by assumption)
theorem f_uPut4 (l : List V) (r : Nat) (hu : uIs r = true) (hn : uSize r = 4) (hl : l.length ≤ 3000000000) : OK 93 [.buf 0, .int .i32 r] [.buf 1 0 l] (.buf 0) (some [.buf 1 0 (l ++ bl (uBytes r))]) := by
  refine funOK_of_vc (C := cx [(110, sm_uIsP), (111, smSize r 4)]) (good ⟨k_uIsP, kSize r 4, trivial⟩) (fn := Try.f93) rfl rfl rfl rfl fun hw hs => ?_
  repeat' (
      conv => whnf
      first
      | refine req_i ?_ ?_
      | refine when_i ?_ ?_
      | refine brn_not ?_
      | refine brn_dec (fun h => ?_) (fun h => ?_)
      | refine brn_int (fun h => ?_) (fun h => ?_)
      | refine brn_intne (fun h => ?_) (fun h => ?_)
      | refine brn_str (fun h => ?_) (fun h => ?_)
      | refine brn_i (fun h => ?_) (fun h => ?_)
      | with_reducible refine IdxK.mk _ rfl ?_
      | with_reducible refine idx_blI ?_ (fun hc => ?_)
      | with_reducible refine idx_bl ?_ (fun hc => ?_)
      | with_reducible refine idx_strI ?_ (fun hc => ?_)
      | with_reducible refine idx_str ?_ (fun hc => ?_)
      | with_reducible refine idx_mapDI ?_ ?_
      | with_reducible refine idx_mapD ?_ ?_
      | with_reducible refine idx_at ?_ (fun b hb => ?_)
      | refine ex_bl ?_
      | refine ex_b1 ?_ ?_
      | refine ex_b2 ?_ ?_ ?_
      | refine ex_b3 ?_ ?_ ?_ ?_
      | refine ex_b4 ?_ ?_ ?_ ?_ ?_
      | refine optK_setL ?_ ?_
      | refine optK_takeL ?_ ?_
      | with_reducible refine forceDs_i ?_
      )
  all_goals try (conv => whnf)
  all_goals try (refine Side.mk ?_; try dsimp only)
  all_goals first
    | (show LoopP _ _ _ _; skip)
    | (show GotoP _ _ _ _ _; skip)
    | (show EndP _ _ _ _ _ _; skip)
    | (show ∃ _, _; skip)
    | (first
          | trivial
          | omega
          | (simp (discharger := omega) only [wu8, wu16, wu32, wu64, wi32, wi64, Int.tdiv_eq_ediv_of_nonneg, Int.tmod_eq_emod_of_nonneg]; omega)
          | (simp only [List.length_append, List.length_cons, List.length_nil, bl_length, List.length_take, List.length_drop]; omega)
          | (simp (discharger := omega) [-List.getD_eq_getElem?_getD, wu8, wu16, wu32, wu64, wi32, wi64, Int.tdiv_eq_ediv_of_nonneg, Int.tmod_eq_emod_of_nonneg]; done)
          | (simp (discharger := omega) [-List.getD_eq_getElem?_getD, wu8, wu16, wu32, wu64, wi32, wi64, Int.tdiv_eq_ediv_of_nonneg, Int.tmod_eq_emod_of_nonneg]; omega))
    | skip
  · have hb := (uIs_t _).1 hu
    have hr : (4 = 1 ∧ r < 128) ∨ (4 = 2 ∧ 128 ≤ r ∧ r < 2048) ∨ (4 = 3 ∧ 2048 ≤ r ∧ r < 65536) ∨ (4 = 4 ∧ 65536 ≤ r ∧ r < 1114112) := by
      unfold uSize at hn
      repeat' split at hn
      all_goals omega
    refine EndP.mk [.swap 0 1] ?_ <;> (repeat' (first | trivial | rfl | exact scopedL_bl _ _ | refine And.intro ?_ ?_ | refine congrArg V.str ?_ | refine congrArg (V.int _) ?_ | refine congrArg V.bool ?_ | refine congrArg (O.buf _ _) ?_ | refine congrArg O.cells ?_ | refine congrArg (V.list _ _) ?_ | refine congrArg V.agg ?_ | refine congrArg V.tuple ?_ | refine cons_eq ?_ ?_))
    rw [copy_eq]
    try rw [lead2 r (by omega)]
    try rw [lead3 r (by omega)]
    try rw [lead4 r (by omega)]
    try simp only [s6, s12, a63]
    unfold uBytes
    repeat (first | rw [if_pos (by omega)] | rw [if_neg (by omega)])
    repeat rw [bl_byte _ (by omega)]
    try simp only [List.append_assoc, List.cons_append, List.nil_append]
    repeat' (first | rfl | refine congrArg (l ++ ·) ?_ | refine cons_eq ?_ ?_ | refine congrArg (V.int .u8) ?_)
    all_goals (first | omega | (simp (discharger := omega) only [wu8, wu16, wu32, wu64, wi32, wi64, Int.tdiv_eq_ediv_of_nonneg, Int.tmod_eq_emod_of_nonneg]; omega) | (simp only [List.length_append, List.length_cons, List.length_nil, bl_length, List.length_take, List.length_drop]; omega) | (simp (discharger := omega) [-List.getD_eq_getElem?_getD, wu8, wu16, wu32, wu64, wi32, wi64, Int.tdiv_eq_ediv_of_nonneg, Int.tmod_eq_emod_of_nonneg]; done) | (simp (discharger := omega) [-List.getD_eq_getElem?_getD, wu8, wu16, wu32, wu64, wi32, wi64, Int.tdiv_eq_ediv_of_nonneg, Int.tmod_eq_emod_of_nonneg]; omega))
  · exact absurd ((uIs_t _).1 hu) (by assumption)
theorem f_uPut_1 (l : List V) (r : Int) (hp : uIs r = true ∧ l.length ≤ 3000000000) : OK 93 ([.buf 0, .int .i32 r]) ([.buf 1 0 l]) (.buf 0) (some [.buf 1 0 (l ++ bl (uBytes r))]) := by
  obtain ⟨hu, hl⟩ := hp
  obtain ⟨n, rfl⟩ := Int.eq_ofNat_of_zero_le ((uIs_t _).1 hu).1
  have : uSize n = 1 ∨ uSize n = 2 ∨ uSize n = 3 ∨ uSize n = 4 := by
    unfold uSize; repeat' split
    all_goals simp
  rcases this with h | h | h | h
  · exact f_uPut1 l n hu h hl
  · exact f_uPut2 l n hu h hl
  · exact f_uPut3 l n hu h hl
  · exact f_uPut4 l n hu h hl
def sm_uPut : Sm := fun args σ => match args, σ with
  | [.buf 0, .int .i32 r], [.buf 1 0 l] => some (uIs r = true ∧ l.length ≤ 3000000000, .buf 0, some [.buf 1 0 (l ++ bl (uBytes r))])
  | _, _ => none
theorem k_uPut : SOK 93 sm_uPut := by
  intro args sg pre x r he hp
  unfold sm_uPut at he
  split at he <;> cases he
  · exact f_uPut_1 (hp := hp) ..
end Go.Proofs.Ytllncocibkgjkaa
