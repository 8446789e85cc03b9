/-
  Characters: the program's are the document's.
-/
import Derived.Test.YtllncocibkgjkaaPUtf
set_option linter.unusedSimpArgs false
set_option linter.unusedVariables false
set_option maxHeartbeats 4000000
namespace Go.Proofs.Ytllncocibkgjkaa
open Go Go.VG
set_option maxRecDepth 100000
def uLen (b : Nat) : Nat := if b < 128 then 1 else if b < 194 then 0 else if b < 224 then 2 else if b < 240 then 3 else if b < 245 then 4 else 0
def uLeast (n : Int) : Int := if n = 2 then 128 else if n = 3 then 2048 else if n = 4 then 65536 else 0
def cont (b : UInt8) : Bool := decide (128 ≤ b.toNat ∧ b.toNat < 192)
def uGoP (s : List UInt8) : Nat → Nat → Nat → Option Nat
  | 0, _, a => some a
  | r + 1, i, a => if cont (s.getD i 0) = true then uGoP s r (i + 1) (64 * a + (s.getD i 0).toNat % 64) else none
def uOut (n : Nat) : Option Nat → Int × Nat
  | none => (0, 0)
  | some r => if (r : Int) < uLeast n then (0, 0) else if uIs r = true then ((r : Int), n) else (0, 0)
theorem uOut_some (n r : Nat) : uOut n (some r) = if (r : Int) < uLeast n then (0, 0) else if uIs r = true then ((r : Int), n) else (0, 0) := rfl
def uRuneP (s : List UInt8) (i : Nat) : Int × Nat :=
  if s.length ≤ i then (0, 0)
  else if uLen (s.getD i 0).toNat = 0 then (0, 0)
  else if s.length < i + uLen (s.getD i 0).toNat then (0, 0)
  else if uLen (s.getD i 0).toNat = 1 then (((s.getD i 0).toNat : Int), 1)
  else uOut (uLen (s.getD i 0).toNat) (uGoP s (uLen (s.getD i 0).toNat - 1) (i + 1) ((s.getD i 0).toNat % 2 ^ (7 - uLen (s.getD i 0).toNat)))
/-! bits -/
theorem and_mask (k : IntKind) (j n : Nat) (hk : n < 2 ^ k.bits) (hj : 2 ^ j - 1 < 2 ^ k.bits) (hs : n % 2 ^ j ≤ k.max) (h0 : k.min ≤ (n % 2 ^ j : Nat)) (hw : ∀ m : Nat, (m : Int) ≤ k.max → k.wrap m = m) : iAnd k n ((2 ^ j - 1 : Nat) : Int) = ((n % 2 ^ j : Nat) : Int) := by
  show k.wrap ((BitVec.ofInt k.bits (n : Int) &&& BitVec.ofInt k.bits ((2 ^ j - 1 : Nat) : Int)).toNat : Int) = _
  rw [BitVec.ofInt_natCast, BitVec.ofInt_natCast, BitVec.toNat_and, BitVec.toNat_ofNat, BitVec.toNat_ofNat, Nat.mod_eq_of_lt hk, Nat.mod_eq_of_lt hj, Nat.and_two_pow_sub_one_eq_mod]
  exact hw _ hs
theorem wrap_i32n (m : Nat) (h : (m : Int) ≤ IntKind.i32.max) : IntKind.i32.wrap m = m := by
  have : IntKind.i32.max = 2147483647 := rfl
  rw [wi32]; omega
theorem wrap_u8n (m : Nat) (h : (m : Int) ≤ IntKind.u8.max) : IntKind.u8.wrap m = m := by
  have : IntKind.u8.max = 255 := rfl
  rw [wu8]; omega
theorem and_u8_63 (n : Nat) (h : n < 256) : iAnd .u8 n 63 = ((n % 64 : Nat) : Int) := and_mask .u8 6 n h (by decide) (by show ((n % 64 : Nat) : Int) ≤ 255; omega) (by show (0 : Int) ≤ _; omega) wrap_u8n
theorem and_u8_192 : ∀ n : Nat, n < 256 → iAnd .u8 n 192 = ((n / 64 * 64 : Nat) : Int) := by decide
theorem and_i32_shr (n b : Nat) (hn : n = 2 ∨ n = 3 ∨ n = 4) (h : b < 256) : iAnd .i32 b (iShr .i32 127 n) = ((b % 2 ^ (7 - n) : Nat) : Int) := by
  have hm : IntKind.i32.max = 2147483647 := rfl
  have hi : IntKind.i32.min = -2147483648 := rfl
  have e : IntKind.i32.bits = 32 := rfl
  rcases hn with rfl | rfl | rfl
  · exact and_mask .i32 5 b (by rw [e]; omega) (by rw [e]; decide) (by rw [hm]; omega) (by rw [hi]; omega) wrap_i32n
  · exact and_mask .i32 4 b (by rw [e]; omega) (by rw [e]; decide) (by rw [hm]; omega) (by rw [hi]; omega) wrap_i32n
  · exact and_mask .i32 3 b (by rw [e]; omega) (by rw [e]; decide) (by rw [hm]; omega) (by rw [hi]; omega) wrap_i32n
theorem shl_i32_6 (a : Nat) (h : a < 2000000) : iShl .i32 a 6 = ((64 * a : Nat) : Int) := by
  show IntKind.i32.wrap ((a : Int) * 2 ^ (min 6 32)) = _
  rw [wi32]
  have : ((2 : Int) ^ (min 6 32)) = 64 := rfl
  rw [this]; omega
theorem or_low (a b j : Nat) (h : b < 2 ^ j) : a * 2 ^ j ||| b = a * 2 ^ j + b := by
  have := Nat.shiftLeft_add_eq_or_of_lt h a
  rw [Nat.shiftLeft_eq] at this
  exact this.symm
theorem or_i32_6 (a b : Nat) (ha : a < 2000000) (hb : b < 64) : iOr .i32 ((64 * a : Nat) : Int) b = ((64 * a + b : Nat) : Int) := by
  show IntKind.i32.wrap ((BitVec.ofInt 32 ((64 * a : Nat) : Int) ||| BitVec.ofInt 32 (b : Int)).toNat : Int) = _
  rw [BitVec.ofInt_natCast, BitVec.ofInt_natCast, BitVec.toNat_or, BitVec.toNat_ofNat, BitVec.toNat_ofNat, Nat.mod_eq_of_lt (by omega), Nat.mod_eq_of_lt (by omega), Nat.mul_comm 64 a, or_low a b 6 hb]
  rw [wi32]; omega
theorem f_uLenP_1 (b : UInt8) (hp : True) : OK 124 ([bv b]) ([]) (.int .i64 (uLen b.toNat)) (none) := by
  refine funOK_of_vc (C := cx []) (good trivial) (fn := Try.f124) rfl rfl rfl rfl fun hw hs => ?_
  repeat' (
      conv => whnf
      first
      | refine req_i ?_ ?_
      | refine when_i ?_ ?_
      | refine brn_not ?_
      | refine brn_dec (fun h => ?_) (fun h => ?_)
      | refine brn_int (fun h => ?_) (fun h => ?_)
      | refine brn_intne (fun h => ?_) (fun h => ?_)
      | refine brn_str (fun h => ?_) (fun h => ?_)
      | refine brn_i (fun h => ?_) (fun h => ?_)
      | with_reducible refine IdxK.mk _ rfl ?_
      | with_reducible refine idx_blI ?_ (fun hc => ?_)
      | with_reducible refine idx_bl ?_ (fun hc => ?_)
      | with_reducible refine idx_strI ?_ (fun hc => ?_)
      | with_reducible refine idx_str ?_ (fun hc => ?_)
      | with_reducible refine idx_mapDI ?_ ?_
      | with_reducible refine idx_mapD ?_ ?_
      | with_reducible refine idx_at ?_ (fun b hb => ?_)
      | refine ex_bl ?_
      | refine ex_b1 ?_ ?_
      | refine ex_b2 ?_ ?_ ?_
      | refine ex_b3 ?_ ?_ ?_ ?_
      | refine ex_b4 ?_ ?_ ?_ ?_ ?_
      | refine optK_setL ?_ ?_
      | refine optK_takeL ?_ ?_
      | with_reducible refine forceDs_i ?_
      )
  all_goals try (conv => whnf)
  all_goals try (refine Side.mk ?_; try dsimp only)
  all_goals first
    | (show LoopP _ _ _ _; skip)
    | (show EndP _ _ _ _ _ _; skip)
    | (show ∃ _, _; skip)
    | (first
          | trivial
          | omega
          | (simp (discharger := omega) only [wu8, wu16, wu32, wu64, wi32, wi64, Int.tdiv_eq_ediv_of_nonneg, Int.tmod_eq_emod_of_nonneg]; omega)
          | (simp only [List.length_append, List.length_cons, List.length_nil, bl_length, List.length_take, List.length_drop]; omega)
          | (simp (discharger := omega) [-List.getD_eq_getElem?_getD, wu8, wu16, wu32, wu64, wi32, wi64, Int.tdiv_eq_ediv_of_nonneg, Int.tmod_eq_emod_of_nonneg]; done)
          | (simp (discharger := omega) [-List.getD_eq_getElem?_getD, wu8, wu16, wu32, wu64, wi32, wi64, Int.tdiv_eq_ediv_of_nonneg, Int.tmod_eq_emod_of_nonneg]; omega))
    | skip
  all_goals
    unfold uLen
    repeat (first | rw [if_pos (by omega)] | rw [if_neg (by omega)])
    refine EndP.mk [] ?_ <;> (repeat' (first | trivial | rfl | exact scopedL_bl _ _ | refine And.intro ?_ ?_ | refine congrArg V.str ?_ | refine congrArg (V.int _) ?_ | refine congrArg V.bool ?_ | refine congrArg (O.buf _ _) ?_ | refine congrArg O.cells ?_ | refine congrArg (V.list _ _) ?_ | refine congrArg V.agg ?_ | refine congrArg V.tuple ?_ | refine cons_eq ?_ ?_))
def sm_uLenP : Sm := fun args σ => match args, σ with
  | [.int .u8 n_b], [] => some ((0 ≤ n_b ∧ n_b ≤ 255) ∧ (True), .int .i64 (uLen (byte n_b).toNat), none)
  | _, _ => none
theorem k_uLenP : SOK 124 sm_uLenP := by
  intro args sg pre x r he hp
  unfold sm_uLenP at he
  split at he <;> cases he
  · rw [viewB (hp).1]; exact f_uLenP_1 (hp := hp.2) ..
theorem f_uLeastP_1 (n : Int) (hp : True) : OK 125 ([.int .i64 n]) ([]) (.int .i32 (uLeast n)) (none) := by
  refine funOK_of_vc (C := cx []) (good trivial) (fn := Try.f125) rfl rfl rfl rfl fun hw hs => ?_
  repeat' (
      conv => whnf
      first
      | refine req_i ?_ ?_
      | refine when_i ?_ ?_
      | refine brn_not ?_
      | refine brn_dec (fun h => ?_) (fun h => ?_)
      | refine brn_int (fun h => ?_) (fun h => ?_)
      | refine brn_intne (fun h => ?_) (fun h => ?_)
      | refine brn_str (fun h => ?_) (fun h => ?_)
      | refine brn_i (fun h => ?_) (fun h => ?_)
      | with_reducible refine IdxK.mk _ rfl ?_
      | with_reducible refine idx_blI ?_ (fun hc => ?_)
      | with_reducible refine idx_bl ?_ (fun hc => ?_)
      | with_reducible refine idx_strI ?_ (fun hc => ?_)
      | with_reducible refine idx_str ?_ (fun hc => ?_)
      | with_reducible refine idx_mapDI ?_ ?_
      | with_reducible refine idx_mapD ?_ ?_
      | with_reducible refine idx_at ?_ (fun b hb => ?_)
      | refine ex_bl ?_
      | refine ex_b1 ?_ ?_
      | refine ex_b2 ?_ ?_ ?_
      | refine ex_b3 ?_ ?_ ?_ ?_
      | refine ex_b4 ?_ ?_ ?_ ?_ ?_
      | refine optK_setL ?_ ?_
      | refine optK_takeL ?_ ?_
      | with_reducible refine forceDs_i ?_
      )
  all_goals try (conv => whnf)
  all_goals try (refine Side.mk ?_; try dsimp only)
  all_goals first
    | (show LoopP _ _ _ _; skip)
    | (show EndP _ _ _ _ _ _; skip)
    | (show ∃ _, _; skip)
    | (first
          | trivial
          | omega
          | (simp (discharger := omega) only [wu8, wu16, wu32, wu64, wi32, wi64, Int.tdiv_eq_ediv_of_nonneg, Int.tmod_eq_emod_of_nonneg]; omega)
          | (simp only [List.length_append, List.length_cons, List.length_nil, bl_length, List.length_take, List.length_drop]; omega)
          | (simp (discharger := omega) [-List.getD_eq_getElem?_getD, wu8, wu16, wu32, wu64, wi32, wi64, Int.tdiv_eq_ediv_of_nonneg, Int.tmod_eq_emod_of_nonneg]; done)
          | (simp (discharger := omega) [-List.getD_eq_getElem?_getD, wu8, wu16, wu32, wu64, wi32, wi64, Int.tdiv_eq_ediv_of_nonneg, Int.tmod_eq_emod_of_nonneg]; omega))
    | skip
  all_goals
    unfold uLeast
    repeat (first | rw [if_pos (by omega)] | rw [if_neg (by omega)])
    refine EndP.mk [] ?_ <;> (repeat' (first | trivial | rfl | exact scopedL_bl _ _ | refine And.intro ?_ ?_ | refine congrArg V.str ?_ | refine congrArg (V.int _) ?_ | refine congrArg V.bool ?_ | refine congrArg (O.buf _ _) ?_ | refine congrArg O.cells ?_ | refine congrArg (V.list _ _) ?_ | refine congrArg V.agg ?_ | refine congrArg V.tuple ?_ | refine cons_eq ?_ ?_))
def sm_uLeastP : Sm := fun args σ => match args, σ with
  | [.int .i64 n], [] => some (True, .int .i32 (uLeast n), none)
  | _, _ => none
theorem k_uLeastP : SOK 125 sm_uLeastP := by
  intro args sg pre x r he hp
  unfold sm_uLeastP at he
  split at he <;> cases he
  · exact f_uLeastP_1 (hp := hp) ..
theorem f_uIsP_1 (r : Int) (hp : True) : OK 110 ([.int .i32 r]) ([]) (.bool (uIs r)) (none) := by
  refine funOK_of_vc (C := cx []) (good trivial) (fn := Try.f110) rfl rfl rfl rfl fun hw hs => ?_
  repeat' (
      conv => whnf
      first
      | refine req_i ?_ ?_
      | refine when_i ?_ ?_
      | refine brn_not ?_
      | refine brn_dec (fun h => ?_) (fun h => ?_)
      | refine brn_int (fun h => ?_) (fun h => ?_)
      | refine brn_intne (fun h => ?_) (fun h => ?_)
      | refine brn_str (fun h => ?_) (fun h => ?_)
      | refine brn_i (fun h => ?_) (fun h => ?_)
      | with_reducible refine IdxK.mk _ rfl ?_
      | with_reducible refine idx_blI ?_ (fun hc => ?_)
      | with_reducible refine idx_bl ?_ (fun hc => ?_)
      | with_reducible refine idx_strI ?_ (fun hc => ?_)
      | with_reducible refine idx_str ?_ (fun hc => ?_)
      | with_reducible refine idx_mapDI ?_ ?_
      | with_reducible refine idx_mapD ?_ ?_
      | with_reducible refine idx_at ?_ (fun b hb => ?_)
      | refine ex_bl ?_
      | refine ex_b1 ?_ ?_
      | refine ex_b2 ?_ ?_ ?_
      | refine ex_b3 ?_ ?_ ?_ ?_
      | refine ex_b4 ?_ ?_ ?_ ?_ ?_
      | refine optK_setL ?_ ?_
      | refine optK_takeL ?_ ?_
      | with_reducible refine forceDs_i ?_
      )
  all_goals try (conv => whnf)
  all_goals try (refine Side.mk ?_; try dsimp only)
  all_goals first
    | (show LoopP _ _ _ _; skip)
    | (show EndP _ _ _ _ _ _; skip)
    | (show ∃ _, _; skip)
    | (first
          | trivial
          | omega
          | (simp (discharger := omega) only [wu8, wu16, wu32, wu64, wi32, wi64, Int.tdiv_eq_ediv_of_nonneg, Int.tmod_eq_emod_of_nonneg]; omega)
          | (simp only [List.length_append, List.length_cons, List.length_nil, bl_length, List.length_take, List.length_drop]; omega)
          | (simp (discharger := omega) [-List.getD_eq_getElem?_getD, wu8, wu16, wu32, wu64, wi32, wi64, Int.tdiv_eq_ediv_of_nonneg, Int.tmod_eq_emod_of_nonneg]; done)
          | (simp (discharger := omega) [-List.getD_eq_getElem?_getD, wu8, wu16, wu32, wu64, wi32, wi64, Int.tdiv_eq_ediv_of_nonneg, Int.tmod_eq_emod_of_nonneg]; omega))
    | skip
  all_goals
    refine EndP.mk [] ?_ <;> (repeat' (first | trivial | rfl | exact scopedL_bl _ _ | refine And.intro ?_ ?_ | refine congrArg V.str ?_ | refine congrArg (V.int _) ?_ | refine congrArg V.bool ?_ | refine congrArg (O.buf _ _) ?_ | refine congrArg O.cells ?_ | refine congrArg (V.list _ _) ?_ | refine congrArg V.agg ?_ | refine congrArg V.tuple ?_ | refine cons_eq ?_ ?_))
    unfold uIs
  all_goals first
      | exact (decide_eq_true (by omega)).symm
      | exact (decide_eq_false (by omega)).symm
      | exact decide_eq_decide.2 (by constructor <;> intro _ <;> omega)
def sm_uIsP : Sm := fun args σ => match args, σ with
  | [.int .i32 r], [] => some (True, .bool (uIs r), none)
  | _, _ => none
theorem k_uIsP : SOK 110 sm_uIsP := by
  intro args sg pre x r he hp
  unfold sm_uIsP at he
  split at he <;> cases he
  · exact f_uIsP_1 (hp := hp) ..
theorem uLen_of {b : Nat} (h : b < 256) : uLen b = 0 ∨ uLen b = 1 ∨ uLen b = 2 ∨ uLen b = 3 ∨ uLen b = 4 := by
  unfold uLen
  repeat' split
  all_goals omega
theorem uLen_1 {b : Nat} (h : uLen b = 1) : b < 128 := by
  unfold uLen at h
  repeat' split at h
  all_goals omega
theorem f_uRuneP (s : List UInt8) (i : Nat) (hs : s.length ≤ 100000000) : OK 112 [.str s, .int .i64 i] [] (.tuple [.int .i32 (uRuneP s i).1, .int .i64 (uRuneP s i).2]) none := by
  refine funOK_of_vc (C := cx [(124, sm_uLenP), (125, sm_uLeastP), (110, sm_uIsP)]) (good ⟨k_uLenP, k_uLeastP, k_uIsP, trivial⟩) (fn := Try.f112) rfl rfl rfl rfl fun hw _ => ?_
  have hc0 : (s.getD i 0).toNat < 256 := UInt8.toNat_lt _
  have hL := uLen_of hc0
  have hby : byte ((s.getD i 0).toNat : Int) = s.getD i 0 := byte_of _
  have hq := fun x => and_i32_shr (uLen (s.getD i 0).toNat) (s.getD i 0).toNat x hc0
  have hi : (i : Int) ≤ 9223372036854775807 := hw.2.1.2
  have hwr : IntKind.i64.wrap ((s.length : Int) - i) = s.length - i := by (first | omega | (simp (discharger := omega) only [wu8, wu16, wu32, wu64, wi32, wi64, Int.tdiv_eq_ediv_of_nonneg, Int.tmod_eq_emod_of_nonneg]; omega) | (simp only [List.length_append, List.length_cons, List.length_nil, bl_length, List.length_take, List.length_drop]; omega) | (simp (discharger := omega) [-List.getD_eq_getElem?_getD, wu8, wu16, wu32, wu64, wi32, wi64, Int.tdiv_eq_ediv_of_nonneg, Int.tmod_eq_emod_of_nonneg]; done) | (simp (discharger := omega) [-List.getD_eq_getElem?_getD, wu8, wu16, wu32, wu64, wi32, wi64, Int.tdiv_eq_ediv_of_nonneg, Int.tmod_eq_emod_of_nonneg]; omega))
  have hwb : IntKind.i32.wrap ((s.getD i 0).toNat : Int) = (s.getD i 0).toNat := by (first | omega | (simp (discharger := omega) only [wu8, wu16, wu32, wu64, wi32, wi64, Int.tdiv_eq_ediv_of_nonneg, Int.tmod_eq_emod_of_nonneg]; omega) | (simp only [List.length_append, List.length_cons, List.length_nil, bl_length, List.length_take, List.length_drop]; omega) | (simp (discharger := omega) [-List.getD_eq_getElem?_getD, wu8, wu16, wu32, wu64, wi32, wi64, Int.tdiv_eq_ediv_of_nonneg, Int.tmod_eq_emod_of_nonneg]; done) | (simp (discharger := omega) [-List.getD_eq_getElem?_getD, wu8, wu16, wu32, wu64, wi32, wi64, Int.tdiv_eq_ediv_of_nonneg, Int.tmod_eq_emod_of_nonneg]; omega))
  repeat' (
      conv => whnf
      first
      | refine req_i ?_ ?_
      | refine when_i ?_ ?_
      | refine brn_not ?_
      | refine brn_dec (fun h => ?_) (fun h => ?_)
      | refine brn_int (fun h => ?_) (fun h => ?_)
      | refine brn_intne (fun h => ?_) (fun h => ?_)
      | refine brn_str (fun h => ?_) (fun h => ?_)
      | refine brn_i (fun h => ?_) (fun h => ?_)
      | with_reducible refine IdxK.mk _ rfl ?_
      | with_reducible refine idx_blI ?_ (fun hc => ?_)
      | with_reducible refine idx_bl ?_ (fun hc => ?_)
      | with_reducible refine idx_strI ?_ (fun hc => ?_)
      | with_reducible refine idx_str ?_ (fun hc => ?_)
      | with_reducible refine idx_mapDI ?_ ?_
      | with_reducible refine idx_mapD ?_ ?_
      | with_reducible refine idx_at ?_ (fun b hb => ?_)
      | refine ex_bl ?_
      | refine ex_b1 ?_ ?_
      | refine ex_b2 ?_ ?_ ?_
      | refine ex_b3 ?_ ?_ ?_ ?_
      | refine ex_b4 ?_ ?_ ?_ ?_ ?_
      | refine optK_setL ?_ ?_
      | refine optK_takeL ?_ ?_
      | with_reducible refine forceDs_i ?_
      )
  all_goals try (conv => whnf)
  all_goals try (refine Side.mk ?_; try dsimp only)
  all_goals (try simp only [show ((i : Int)).toNat = i from rfl, hby, hwr, hwb] at *)
  all_goals first
    | (show LoopP _ _ _ _; skip)
    | (show EndP _ _ _ _ _ _; skip)
    | (show ∃ _, _; skip)
    | (first
          | trivial
          | omega
          | (simp (discharger := omega) only [wu8, wu16, wu32, wu64, wi32, wi64, Int.tdiv_eq_ediv_of_nonneg, Int.tmod_eq_emod_of_nonneg]; omega)
          | (simp only [List.length_append, List.length_cons, List.length_nil, bl_length, List.length_take, List.length_drop]; omega)
          | (simp (discharger := omega) [-List.getD_eq_getElem?_getD, wu8, wu16, wu32, wu64, wi32, wi64, Int.tdiv_eq_ediv_of_nonneg, Int.tmod_eq_emod_of_nonneg]; done)
          | (simp (discharger := omega) [-List.getD_eq_getElem?_getD, wu8, wu16, wu32, wu64, wi32, wi64, Int.tdiv_eq_ediv_of_nonneg, Int.tmod_eq_emod_of_nonneg]; omega))
    | skip
  all_goals first
    | (show EndP _ _ _ _ _ _
       unfold uRuneP
       repeat (first | rw [if_pos (by omega)] | rw [if_neg (by omega)])
       refine EndP.mk [] ?_ <;> (repeat' (first | trivial | rfl | exact scopedL_bl _ _ | refine And.intro ?_ ?_ | refine congrArg V.str ?_ | refine congrArg (V.int _) ?_ | refine congrArg V.bool ?_ | refine congrArg (O.buf _ _) ?_ | refine congrArg O.cells ?_ | refine congrArg (V.list _ _) ?_ | refine congrArg V.agg ?_ | refine congrArg V.tuple ?_ | refine cons_eq ?_ ?_))
       done)
    | skip
  have hn : uLen (s.getD i 0).toNat = 2 ∨ uLen (s.getD i 0).toNat = 3 ∨ uLen (s.getD i 0).toNat = 4 := by omega
  have he0 : uRuneP s i = uOut (uLen (s.getD i 0).toNat) (uGoP s (uLen (s.getD i 0).toNat - 1) (i + 1) ((s.getD i 0).toNat % 2 ^ (7 - uLen (s.getD i 0).toNat))) := by
    unfold uRuneP
    repeat (first | rw [if_pos (by omega)] | rw [if_neg (by omega)])
  rw [he0]
  rw [hq hn]
  have hr0 : (s.getD i 0).toNat % 2 ^ (7 - uLen (s.getD i 0).toNat) < 32 := by
    rcases hn with h | h | h <;> rw [h] <;> omega
  generalize hr : (s.getD i 0).toNat % 2 ^ (7 - uLen (s.getD i 0).toNat) = r0 at *
  generalize hu : uLen (s.getD i 0).toNat = n at *
  refine LoopP.mk (Nat × Nat) (fun | (j, a) => 1 ≤ j ∧ j ≤ n ∧ ((j = 1 ∧ a < 32) ∨ (j = 2 ∧ a < 2048) ∨ (j = 3 ∧ a < 131072) ∨ (j = 4 ∧ a < 8388608)) ∧ uGoP s (n - j) (i + j) a = uGoP s (n - 1) (i + 1) r0)
    (fun | (j, a) => ⟨74, [(0, .str s), (1, .int .i64 i), (4, .int .i32 a), (6, .int .i64 n), (7, .int .i64 j)], [], []⟩) (fun x => n - x.1) [] (1, r0) ⟨by omega, by omega, by omega, rfl⟩ ?_ (fun ⟨j, a⟩ ⟨hj, hjn, hb, he⟩ _ _ => ?_)
  · refine Go.VG.Sub.mk rfl ?_ ?_ ?_ ?_ <;> (repeat' (first | trivial | rfl | exact scopedL_bl _ _ | refine And.intro ?_ ?_ | refine congrArg V.str ?_ | refine congrArg (V.int _) ?_ | refine congrArg V.bool ?_ | refine congrArg (O.buf _ _) ?_ | refine congrArg O.cells ?_ | refine congrArg (V.list _ _) ?_ | refine congrArg V.agg ?_ | refine congrArg V.tuple ?_ | refine cons_eq ?_ ?_))
  have hij : (IntKind.i64.wrap ((i : Int) + j)).toNat = i + j := by (first | omega | (simp (discharger := omega) only [wu8, wu16, wu32, wu64, wi32, wi64, Int.tdiv_eq_ediv_of_nonneg, Int.tmod_eq_emod_of_nonneg]; omega) | (simp only [List.length_append, List.length_cons, List.length_nil, bl_length, List.length_take, List.length_drop]; omega) | (simp (discharger := omega) [-List.getD_eq_getElem?_getD, wu8, wu16, wu32, wu64, wi32, wi64, Int.tdiv_eq_ediv_of_nonneg, Int.tmod_eq_emod_of_nonneg]; done) | (simp (discharger := omega) [-List.getD_eq_getElem?_getD, wu8, wu16, wu32, wu64, wi32, wi64, Int.tdiv_eq_ediv_of_nonneg, Int.tmod_eq_emod_of_nonneg]; omega))
  have hc1 : (s.getD (i + j) 0).toNat < 256 := UInt8.toNat_lt _
  have h192 := and_u8_192 _ hc1
  have h63 := and_u8_63 _ hc1
  repeat' (
      conv => whnf
      first
      | refine req_i ?_ ?_
      | refine when_i ?_ ?_
      | refine brn_not ?_
      | refine brn_dec (fun h => ?_) (fun h => ?_)
      | refine brn_int (fun h => ?_) (fun h => ?_)
      | refine brn_intne (fun h => ?_) (fun h => ?_)
      | refine brn_str (fun h => ?_) (fun h => ?_)
      | refine brn_i (fun h => ?_) (fun h => ?_)
      | with_reducible refine IdxK.mk _ rfl ?_
      | with_reducible refine idx_blI ?_ (fun hc => ?_)
      | with_reducible refine idx_bl ?_ (fun hc => ?_)
      | with_reducible refine idx_strI ?_ (fun hc => ?_)
      | with_reducible refine idx_str ?_ (fun hc => ?_)
      | with_reducible refine idx_mapDI ?_ ?_
      | with_reducible refine idx_mapD ?_ ?_
      | with_reducible refine idx_at ?_ (fun b hb => ?_)
      | refine ex_bl ?_
      | refine ex_b1 ?_ ?_
      | refine ex_b2 ?_ ?_ ?_
      | refine ex_b3 ?_ ?_ ?_ ?_
      | refine ex_b4 ?_ ?_ ?_ ?_ ?_
      | refine optK_setL ?_ ?_
      | refine optK_takeL ?_ ?_
      | with_reducible refine forceDs_i ?_
      )
  all_goals try (conv => whnf)
  all_goals try (refine Side.mk ?_; try dsimp only)
  all_goals (try simp only [hij, h192, h63] at *)
  all_goals first
    | (show LoopP _ _ _ _; skip)
    | (show EndP _ _ _ _ _ _; skip)
    | (show ∃ _, _; skip)
    | (first
          | trivial
          | omega
          | (simp (discharger := omega) only [wu8, wu16, wu32, wu64, wi32, wi64, Int.tdiv_eq_ediv_of_nonneg, Int.tmod_eq_emod_of_nonneg]; omega)
          | (simp only [List.length_append, List.length_cons, List.length_nil, bl_length, List.length_take, List.length_drop]; omega)
          | (simp (discharger := omega) [-List.getD_eq_getElem?_getD, wu8, wu16, wu32, wu64, wi32, wi64, Int.tdiv_eq_ediv_of_nonneg, Int.tmod_eq_emod_of_nonneg]; done)
          | (simp (discharger := omega) [-List.getD_eq_getElem?_getD, wu8, wu16, wu32, wu64, wi32, wi64, Int.tdiv_eq_ediv_of_nonneg, Int.tmod_eq_emod_of_nonneg]; omega))
    | skip
  · have hc : cont (s.getD (i + j) 0) = true := decide_eq_true (by omega)
    rw [show n - j = (n - j - 1) + 1 by omega, uGoP, if_pos hc] at he
    refine ⟨[], (j + 1, 64 * a + (s.getD (i + j) 0).toNat % 64), ⟨by omega, by omega, by omega, ?_⟩, ?_, by omega⟩
    · rw [show n - (j + 1) = n - j - 1 by omega, show i + (j + 1) = i + j + 1 by omega]; exact he
    · refine Go.VG.Sub.mk rfl ?_ ?_ ?_ ?_ <;> (repeat' (first | trivial | rfl | exact scopedL_bl _ _ | refine And.intro ?_ ?_ | refine congrArg V.str ?_ | refine congrArg (V.int _) ?_ | refine congrArg V.bool ?_ | refine congrArg (O.buf _ _) ?_ | refine congrArg O.cells ?_ | refine congrArg (V.list _ _) ?_ | refine congrArg V.agg ?_ | refine congrArg V.tuple ?_ | refine cons_eq ?_ ?_))
      · rw [shl_i32_6 a (by omega), show IntKind.i32.wrap (((s.getD (i + j) 0).toNat % 64 : Nat) : Int) = (((s.getD (i + j) 0).toNat % 64 : Nat) : Int) by (first | omega | (simp (discharger := omega) only [wu8, wu16, wu32, wu64, wi32, wi64, Int.tdiv_eq_ediv_of_nonneg, Int.tmod_eq_emod_of_nonneg]; omega) | (simp only [List.length_append, List.length_cons, List.length_nil, bl_length, List.length_take, List.length_drop]; omega) | (simp (discharger := omega) [-List.getD_eq_getElem?_getD, wu8, wu16, wu32, wu64, wi32, wi64, Int.tdiv_eq_ediv_of_nonneg, Int.tmod_eq_emod_of_nonneg]; done) | (simp (discharger := omega) [-List.getD_eq_getElem?_getD, wu8, wu16, wu32, wu64, wi32, wi64, Int.tdiv_eq_ediv_of_nonneg, Int.tmod_eq_emod_of_nonneg]; omega))]
        exact or_i32_6 _ _ (by omega) (by omega)
      · (first | omega | (simp (discharger := omega) only [wu8, wu16, wu32, wu64, wi32, wi64, Int.tdiv_eq_ediv_of_nonneg, Int.tmod_eq_emod_of_nonneg]; omega) | (simp only [List.length_append, List.length_cons, List.length_nil, bl_length, List.length_take, List.length_drop]; omega) | (simp (discharger := omega) [-List.getD_eq_getElem?_getD, wu8, wu16, wu32, wu64, wi32, wi64, Int.tdiv_eq_ediv_of_nonneg, Int.tmod_eq_emod_of_nonneg]; done) | (simp (discharger := omega) [-List.getD_eq_getElem?_getD, wu8, wu16, wu32, wu64, wi32, wi64, Int.tdiv_eq_ediv_of_nonneg, Int.tmod_eq_emod_of_nonneg]; omega))
  · have hc : ¬ cont (s.getD (i + j) 0) = true := by
      unfold cont; rw [decide_eq_true_eq]; omega
    rw [show n - j = (n - j - 1) + 1 by omega, uGoP, if_neg hc] at he
    rw [← he]
    refine EndP.mk [] ?_ <;> (repeat' (first | trivial | rfl | exact scopedL_bl _ _ | refine And.intro ?_ ?_ | refine congrArg V.str ?_ | refine congrArg (V.int _) ?_ | refine congrArg V.bool ?_ | refine congrArg (O.buf _ _) ?_ | refine congrArg O.cells ?_ | refine congrArg (V.list _ _) ?_ | refine congrArg V.agg ?_ | refine congrArg V.tuple ?_ | refine cons_eq ?_ ?_))
  all_goals
    rw [show n - j = 0 by omega, uGoP] at he
    rw [← he, uOut_some]
    first
    | rw [if_pos (by assumption)]
    | rw [if_neg (by assumption), if_pos (show uIs a = true from decide_eq_true (by assumption))]
    | rw [if_neg (by assumption), if_neg (by unfold uIs; rw [decide_eq_true_eq]; assumption)]
    refine EndP.mk [] ?_ <;> (repeat' (first | trivial | rfl | exact scopedL_bl _ _ | refine And.intro ?_ ?_ | refine congrArg V.str ?_ | refine congrArg (V.int _) ?_ | refine congrArg V.bool ?_ | refine congrArg (O.buf _ _) ?_ | refine congrArg O.cells ?_ | refine congrArg (V.list _ _) ?_ | refine congrArg V.agg ?_ | refine congrArg V.tuple ?_ | refine cons_eq ?_ ?_))
end Go.Proofs.Ytllncocibkgjkaa
