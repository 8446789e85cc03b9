/-
  Numbers as bytes: what the program lays, and what the document says.
-/
import Derived.Test.YtkkfdkfopdjomaaDoorCU
set_option linter.unusedSimpArgs false
set_option linter.unusedVariables false
set_option maxHeartbeats 4000000
namespace Go.Proofs.YtkkfdkfopdjomaaDoor
open Go Go.VG
set_option maxRecDepth 100000
def vgo : Nat → Nat → List UInt8
  | 0, u => [.ofNat u]
  | k + 1, u => if u < 128 then [.ofNat u] else .ofNat (128 + u % 128) :: vgo k (u / 128)
def vput (u : Nat) : List UInt8 := vgo u u
theorem vgo_any : ∀ (k j u : Nat), u ≤ k → u ≤ j → vgo k u = vgo j u
  | 0, 0, u, _, _ => rfl
  | 0, j + 1, u, h, _ => by rw [vgo, vgo, if_pos (by omega)]
  | k + 1, 0, u, _, h => by rw [vgo, vgo, if_pos (by omega)]
  | k + 1, j + 1, u, h, h2 => by
    rw [vgo, vgo]
    split
    · rfl
    · rw [vgo_any k j (u / 128) (by omega) (by omega)]
theorem vput_lt {u : Nat} (h : u < 128) : vput u = [.ofNat u] := by
  unfold vput
  rw [vgo_any u (u + 1) u (Nat.le_refl _) (by omega), vgo, if_pos h]
theorem vput_ge {u : Nat} (h : ¬ u < 128) : vput u = .ofNat (128 + u % 128) :: vput (u / 128) := by
  unfold vput
  rw [vgo_any u (u + 1) u (Nat.le_refl _) (by omega), vgo, if_neg h, vgo_any u (u / 128) (u / 128) (by omega) (Nat.le_refl _)]
theorem vput_upto : ∀ (k u : Nat), u < 128 ^ (k + 1) → 1 ≤ (vput u).length ∧ (vput u).length ≤ k + 1
  | 0, u, h => by
    rw [vput_lt (by omega)]
    simp
  | k + 1, u, h => by
    by_cases c : u < 128
    · rw [vput_lt c]; simp
    · rw [vput_ge c]
      have := vput_upto k (u / 128) (by rw [Nat.pow_succ] at h; omega)
      simp only [List.length_cons]; omega
theorem vput_len {u : Nat} (h : u ≤ 18446744073709551615) : 1 ≤ (vput u).length ∧ (vput u).length ≤ 10 := vput_upto 9 u (by omega)
def zigN (n : Int) : Nat := if n < 0 then (-2 * n - 1).toNat else (2 * n).toNat
theorem zigN_lt {n : Int} (h : -9223372036854775808 ≤ n ∧ n ≤ 9223372036854775807) : zigN n ≤ 18446744073709551615 := by unfold zigN; split <;> omega
theorem and_maskC (k : IntKind) (j n : Nat) (hk : n < 2 ^ k.bits) (hj : 2 ^ j - 1 < 2 ^ k.bits) (hs : n % 2 ^ j ≤ k.max) (hw : ∀ m : Nat, (m : Int) ≤ k.max → k.wrap m = m) : iAnd k n ((2 ^ j - 1 : Nat) : Int) = ((n % 2 ^ j : Nat) : Int) := by
  show k.wrap ((BitVec.ofInt k.bits (n : Int) &&& BitVec.ofInt k.bits ((2 ^ j - 1 : Nat) : Int)).toNat : Int) = _
  rw [BitVec.ofInt_natCast, BitVec.ofInt_natCast, BitVec.toNat_and, BitVec.toNat_ofNat, BitVec.toNat_ofNat, Nat.mod_eq_of_lt hk, Nat.mod_eq_of_lt hj, Nat.and_two_pow_sub_one_eq_mod]
  exact hw _ hs
theorem or_128C : ∀ n : Nat, n < 256 → iOr .u8 n 128 = ((128 + n % 128 : Nat) : Int) := by decide
def pow2 (b : Int) : Int := ((2 ^ b.toNat : Nat) : Int)
/-- the bits of a whole number, so many of them -/
def fitIs (n b : Int) : Bool := decide (-pow2 (b - 1) ≤ n ∧ n < pow2 (b - 1))
def fitU (n b : Int) : Int := if fitIs n b = true then n % pow2 b else 0
def fitC (n b : Int) : Int := if fitIs n b = true then 0 else 4
def len8 : List UInt8 := [0, 1, 2, 2, 3, 3, 3, 3, 4, 4, 4, 4, 4, 4, 4, 4, 5, 5, 5, 5, 5, 5, 5, 5, 5, 5, 5, 5, 5, 5, 5, 5, 6, 6, 6, 6, 6, 6, 6, 6, 6, 6, 6, 6, 6, 6, 6, 6, 6, 6, 6, 6, 6, 6, 6, 6, 6, 6, 6, 6, 6, 6, 6, 6, 7, 7, 7, 7, 7, 7, 7, 7, 7, 7, 7, 7, 7, 7, 7, 7, 7, 7, 7, 7, 7, 7, 7, 7, 7, 7, 7, 7, 7, 7, 7, 7, 7, 7, 7, 7, 7, 7, 7, 7, 7, 7, 7, 7, 7, 7, 7, 7, 7, 7, 7, 7, 7, 7, 7, 7, 7, 7, 7, 7, 7, 7, 7, 7, 8, 8, 8, 8, 8, 8, 8, 8, 8, 8, 8, 8, 8, 8, 8, 8, 8, 8, 8, 8, 8, 8, 8, 8, 8, 8, 8, 8, 8, 8, 8, 8, 8, 8, 8, 8, 8, 8, 8, 8, 8, 8, 8, 8, 8, 8, 8, 8, 8, 8, 8, 8, 8, 8, 8, 8, 8, 8, 8, 8, 8, 8, 8, 8, 8, 8, 8, 8, 8, 8, 8, 8, 8, 8, 8, 8, 8, 8, 8, 8, 8, 8, 8, 8, 8, 8, 8, 8, 8, 8, 8, 8, 8, 8, 8, 8, 8, 8, 8, 8, 8, 8, 8, 8, 8, 8, 8, 8, 8, 8, 8, 8, 8, 8, 8, 8, 8, 8, 8, 8, 8, 8, 8, 8, 8, 8, 8, 8]
def len16 (u : Nat) : Nat := if u ≥ 256 then 8 + (len8.getD (u / 256) 0).toNat else (len8.getD u 0).toNat
def len32 (u : Nat) : Nat := if u ≥ 65536 then 16 + len16 (u / 65536) else len16 u
def lenV (u : Nat) : Nat := if u ≥ 4294967296 then 32 + len32 (u / 4294967296) else len32 u
theorem len8_upto : ∀ i, (len8.getD i 0).toNat ≤ 8 := by
  intro i
  have h : ∀ x ∈ len8, x.toNat ≤ 8 := by decide
  rw [List.getD_eq_getElem?_getD]
  cases e : len8[i]? with
  | none => simp
  | some x => exact h x (List.mem_of_getElem? e)
theorem lenV_upto (u : Nat) : lenV u ≤ 64 := by
  have := len8_upto
  have h1 : ∀ u, len16 u ≤ 16 := fun u => by unfold len16; split <;> (have := len8_upto (u / 256); have := len8_upto u; omega)
  have h2 : ∀ u, len32 u ≤ 32 := fun u => by unfold len32; split <;> (have := h1 (u / 65536); have := h1 u; omega)
  unfold lenV; split <;> (have := h2 (u / 4294967296); have := h2 u; omega)
theorem len8_at {l : List UInt8} (h : l = len8) {n : Nat} (hn : n < 256) : l.getD (IntKind.u8.wrap (n : Int)).toNat 0 = len8.getD n 0 := by
  rw [h, show (IntKind.u8.wrap (n : Int)).toNat = n by (simp (discharger := omega) only [wR]; omega)]
theorem f_len64_1 (q : Int) (hp : 0 ≤ q ∧ q ≤ 18446744073709551615) : OK 103 ([.int .u64 q]) ([]) (.int .i64 (lenV q.toNat : Nat)) (none) := by
  refine funOK_of_vc (C := cx []) (good trivial) (fn := Tryd.f103) rfl rfl rfl rfl fun hw hs => ?_
  obtain ⟨u, rfl⟩ := Int.eq_ofNat_of_zero_le hp.1
  rw [Int.toNat_natCast]
  have h32 : ∀ n : Nat, iShr .u64 n 32 = ((n / 4294967296 : Nat) : Int) := fun n => iShr_nat .u64 n 32
  have h16 : ∀ n : Nat, iShr .u64 n 16 = ((n / 65536 : Nat) : Int) := fun n => iShr_nat .u64 n 16
  have h8 : ∀ n : Nat, iShr .u64 n 8 = ((n / 256 : Nat) : Int) := fun n => iShr_nat .u64 n 8
  have hb := len8_upto
  repeat' ((conv => whnf); first | apply go3 | (apply go6 <;> intro h) | with_reducible refine goE ?_ fun hc => ?_)
  all_goals try conv => whnf
  all_goals try (refine Side.mk ?_; try dsimp only)
  all_goals (try simp only [h32, h16, h8] at *)
  all_goals first
    | (show (0 : Int) ≤ _; (first | omega | (simp (discharger := omega) only [wR]; omega)))
    | (refine Nat.lt_of_lt_of_le (m := 256) ?_ (Nat.le_of_eq rfl); (simp (discharger := omega) only [wR]; omega))
    | skip
  all_goals
    unfold lenV len32 len16
    repeat (first | rw [if_pos (by omega)] | rw [if_neg (by omega)])
    refine EndP.mk [] ?_ <;> (repeat' first | trivial | apply andI | apply eqB)
    rw [len8_at]
    · generalize hk : (len8.getD _ 0).toNat = k
      have hk8 : k ≤ 8 := hk ▸ hb _
      (simp (discharger := omega) only [wR]; omega)
    · rfl
    · omega
def sm_len64 : Sm := fun args σ => match args, σ with
  | [.int .u64 q], [] => some (0 ≤ q ∧ q ≤ 18446744073709551615, .int .i64 (lenV q.toNat : Nat), none)
  | _, _ => none
theorem k_len64 : SOK 103 sm_len64 := by
  intro args sg pre x r he hp
  unfold sm_len64 at he
  split at he <;> cases he
  · exact f_len64_1 (hp := hp) ..
def sizeV (u : Nat) : Nat := ((max (lenV u) 1) + 6) / 7
theorem sizeV_upto (u : Nat) : 1 ≤ sizeV u ∧ sizeV u ≤ 10 := by have := lenV_upto u; unfold sizeV; omega
theorem f_vSize_1 (u : Int) (hp : 0 ≤ u ∧ u ≤ 18446744073709551615) : OK 102 ([.int .u64 u]) ([]) (.int .i64 (sizeV u.toNat : Nat)) (none) := by
  refine funOK_of_vc (C := cx [(103, sm_len64)]) (good ⟨k_len64, trivial⟩) (fn := Tryd.f102) rfl rfl rfl rfl fun hw hs => ?_
  obtain ⟨n, rfl⟩ := Int.eq_ofNat_of_zero_le hp.1
  rw [Int.toNat_natCast]
  have := lenV_upto n
  repeat' ((conv => whnf); apply go3)
  all_goals try conv => whnf
  all_goals try (refine Side.mk ?_; try dsimp only)
  all_goals first | refine stay ?_ | trivial | skip
  unfold sizeV
  refine EndP.mk [] ?_ <;> (repeat' first | trivial | apply andI | apply eqB)
  simp only [Int.toNat_natCast]
  split <;> (simp (discharger := omega) only [wR]; omega)
def sm_vSize : Sm := fun args σ => match args, σ with
  | [.int .u64 u], [] => some (0 ≤ u ∧ u ≤ 18446744073709551615, .int .i64 (sizeV u.toNat : Nat), none)
  | _, _ => none
theorem k_vSize : SOK 102 sm_vSize := by
  intro args sg pre x r he hp
  unfold sm_vSize at he
  split at he <;> cases he
  · exact f_vSize_1 (hp := hp) ..
theorem f_vPut_1 (l : List V) (u : Int) (hp : (0 ≤ u ∧ u ≤ 18446744073709551615) ∧ l.length ≤ 2000000000) : OK 99 ([.buf 0, .int .u64 u]) ([.buf 1 0 l]) (.buf 1) (some [.buf 1 0 l, .buf 1 0 (l ++ bl (vput u.toNat))]) := by
  refine funOK_of_vc (C := cx [(102, sm_vSize)]) (good ⟨k_vSize, trivial⟩) (fn := Tryd.f99) rfl rfl rfl rfl fun hw hs => ?_
  obtain ⟨hp, hq⟩ := hp
  obtain ⟨n, rfl⟩ := Int.eq_ofNat_of_zero_le hp.1
  rw [Int.toNat_natCast]
  have hz := sizeV_upto n
  have hv := vput_len (u := n) (by omega)
  repeat' ((conv => whnf); apply go3)
  all_goals try conv => whnf
  all_goals try (refine Side.mk ?_; try dsimp only)
  all_goals first | refine stay ?_ | trivial | (simp (discharger := omega) [-List.getD_eq_getElem?_getD, wR] <;> omega) | skip
  refine LoopP.mk (Nat × List UInt8) (fun | (w, o) => w ≤ 18446744073709551615 ∧ vput n = o ++ vput w) (fun | (w, o) => ⟨32, [(0, .buf 0), (1, .int .u64 w), (4, .list true 0 []), (5, .buf 1)], [.buf 1 0 l, .buf 1 0 (l ++ bl o)], [1]⟩) (fun x => x.1) [] (n, []) ⟨by omega, rfl⟩ ?_ (fun ⟨w, o⟩ ⟨hw, he⟩ _ _ => ?_)
  · refine Go.VG.Sub.mk rfl ?_ ?_ ?_ ?_ <;> (repeat' first | trivial | apply andI | apply eqD)
    simp [bl]
  have hs7 : iShr .u64 w 7 = ((w / 128 : Nat) : Int) := iShr_nat .u64 w 7
  have ho := bl_length o
  have hvw := vput_len hw
  have hel := congrArg List.length he
  rw [List.length_append] at hel
  have ob : iOr .u8 (IntKind.u8.wrap w) 128 = (((UInt8.ofNat (128 + w % 128)).toNat : Nat) : Int) := by
    rw [show IntKind.u8.wrap (w : Int) = ((w % 256 : Nat) : Int) by rw [wu8]; omega, or_128C _ (by omega), UInt8.toNat_ofNat']
    omega
  have on : IntKind.u8.wrap w = (((UInt8.ofNat w).toNat : Nat) : Int) := by rw [wu8, UInt8.toNat_ofNat']; omega
  repeat' ((conv => whnf); first | apply go3 | (apply go6 <;> intro h))
  all_goals try conv => whnf
  all_goals try (refine Side.mk ?_; try dsimp only)
  all_goals first | refine stay ?_ | trivial | (simp only [lnS]; omega) | skip
  · refine ⟨[], (w / 128, o ++ [.ofNat (128 + w % 128)]), ⟨by omega, by rw [he, vput_ge (by omega)]; simp⟩, ?_, by show w / 128 < w; omega⟩
    refine Go.VG.Sub.mk rfl ?_ ?_ ?_ ?_ <;> (repeat' first | trivial | apply andI | apply eqB | apply eqD)
    rw [bl_append, List.append_assoc]; simp [bl, bv, ob]
  · rw [he, vput_lt (by omega)]
    refine EndP.mk [] ?_ <;> (repeat' first | trivial | apply andI | apply eqD)
    rw [bl_append, List.append_assoc]; simp [bl, bv, on]
theorem f_vPut_2 (c : Bool) (l : List V) (u : Int) (hp : (0 ≤ u ∧ u ≤ 18446744073709551615) ∧ l.length ≤ 2000000000) : OK 99 ([.list c 1 l, .int .u64 u]) ([]) (.buf 0) (some [.buf 1 0 (l ++ bl (vput u.toNat))]) := by
  refine funOK_of_vc (C := cx [(102, sm_vSize)]) (good ⟨k_vSize, trivial⟩) (fn := Tryd.f99) rfl rfl rfl rfl fun hw hs => ?_
  obtain ⟨hp, hq⟩ := hp
  obtain ⟨n, rfl⟩ := Int.eq_ofNat_of_zero_le hp.1
  rw [Int.toNat_natCast]
  have hz := sizeV_upto n
  have hv := vput_len (u := n) (by omega)
  repeat' ((conv => whnf); apply go3)
  all_goals try conv => whnf
  all_goals try (refine Side.mk ?_; try dsimp only)
  all_goals first | refine stay ?_ | trivial | (simp (discharger := omega) [-List.getD_eq_getElem?_getD, wR] <;> omega) | skip
  refine LoopP.mk (Nat × List UInt8) (fun | (w, o) => w ≤ 18446744073709551615 ∧ vput n = o ++ vput w) (fun | (w, o) => ⟨32, [(0, .list c 1 l), (1, .int .u64 w), (4, .list true 0 []), (5, .buf 0)], [.buf 1 0 (l ++ bl o)], [0]⟩) (fun x => x.1) [] (n, []) ⟨by omega, rfl⟩ ?_ (fun ⟨w, o⟩ ⟨hw, he⟩ _ _ => ?_)
  · refine Go.VG.Sub.mk rfl ?_ ?_ ?_ ?_ <;> (repeat' first | trivial | apply andI | apply eqD)
    simp [bl]
  have hs7 : iShr .u64 w 7 = ((w / 128 : Nat) : Int) := iShr_nat .u64 w 7
  have ho := bl_length o
  have hvw := vput_len hw
  have hel := congrArg List.length he
  rw [List.length_append] at hel
  have ob : iOr .u8 (IntKind.u8.wrap w) 128 = (((UInt8.ofNat (128 + w % 128)).toNat : Nat) : Int) := by
    rw [show IntKind.u8.wrap (w : Int) = ((w % 256 : Nat) : Int) by rw [wu8]; omega, or_128C _ (by omega), UInt8.toNat_ofNat']
    omega
  have on : IntKind.u8.wrap w = (((UInt8.ofNat w).toNat : Nat) : Int) := by rw [wu8, UInt8.toNat_ofNat']; omega
  repeat' ((conv => whnf); first | apply go3 | (apply go6 <;> intro h))
  all_goals try conv => whnf
  all_goals try (refine Side.mk ?_; try dsimp only)
  all_goals first | refine stay ?_ | trivial | (simp only [lnS]; omega) | skip
  · refine ⟨[], (w / 128, o ++ [.ofNat (128 + w % 128)]), ⟨by omega, by rw [he, vput_ge (by omega)]; simp⟩, ?_, by show w / 128 < w; omega⟩
    refine Go.VG.Sub.mk rfl ?_ ?_ ?_ ?_ <;> (repeat' first | trivial | apply andI | apply eqB | apply eqD)
    rw [bl_append, List.append_assoc]; simp [bl, bv, ob]
  · rw [he, vput_lt (by omega)]
    refine EndP.mk [] ?_ <;> (repeat' first | trivial | apply andI | apply eqD)
    rw [bl_append, List.append_assoc]; simp [bl, bv, on]
theorem f_vPut_3 (z : Nat) (u : Int) (hp : 0 ≤ u ∧ u ≤ 18446744073709551615) : OK 99 ([.list true z [], .int .u64 u]) ([]) (.buf 0) (some [.buf 1 0 (bl (vput u.toNat))]) := by
  exact (f_vPut_2 true [] u ⟨hp, by simp⟩).args (WkL.cons (Wk.nil (.inl rfl)) (WkL.refl _))
def sm_vPut : Sm := fun args σ => match args, σ with
  | [.buf 0, .int .u64 u], [.buf 1 0 l] => some ((0 ≤ u ∧ u ≤ 18446744073709551615) ∧ l.length ≤ 2000000000, .buf 1, some [.buf 1 0 l, .buf 1 0 (l ++ bl (vput u.toNat))])
  | [.list c 1 l, .int .u64 u], [] => some ((0 ≤ u ∧ u ≤ 18446744073709551615) ∧ l.length ≤ 2000000000, .buf 0, some [.buf 1 0 (l ++ bl (vput u.toNat))])
  | [.list true z [], .int .u64 u], [] => some (0 ≤ u ∧ u ≤ 18446744073709551615, .buf 0, some [.buf 1 0 (bl (vput u.toNat))])
  | _, _ => none
theorem k_vPut : SOK 99 sm_vPut := by
  intro args sg pre x r he hp
  unfold sm_vPut at he
  split at he <;> cases he
  · exact f_vPut_1 (hp := hp) ..
  · exact f_vPut_2 (hp := hp) ..
  · exact f_vPut_3 (hp := hp) ..
theorem xor_all {n : Int} (h : -9223372036854775808 ≤ n ∧ n < 0) : iXor .u64 (if IntKind.u64.signed = true then -1 else IntKind.u64.max) (IntKind.u64.wrap n) = -n - 1 := by
  rw [if_neg (by decide)]
  have e : IntKind.u64.wrap n = ((n + 18446744073709551616).toNat : Int) := by rw [wu64]; omega
  rw [e]
  show IntKind.u64.wrap ((BitVec.ofInt 64 18446744073709551615 ^^^ BitVec.ofInt 64 _).toNat : Int) = _
  rw [BitVec.ofInt_natCast, show BitVec.ofInt 64 18446744073709551615 = BitVec.allOnes 64 by decide, BitVec.allOnes_xor, BitVec.toNat_not, BitVec.toNat_ofNat, Nat.mod_eq_of_lt (by omega), wu64]
  omega
theorem zig_xor {n : Int} (h : -9223372036854775808 ≤ n ∧ n ≤ 9223372036854775807) : iXor .u64 (iShl .u64 (IntKind.u64.wrap n) 1) (IntKind.u64.wrap (iShr .i64 n 63)) = zigN n := by
  have e1 : iShl .u64 (IntKind.u64.wrap n) 1 = (if n < 0 then 2 * n + 18446744073709551616 else 2 * n) := by
    show IntKind.u64.wrap (IntKind.u64.wrap n * 2) = _
    rw [wu64, wu64]; split <;> omega
  have e2 : iShr .i64 n 63 = if n < 0 then -1 else 0 := by
    show n.fdiv 9223372036854775808 = _
    rw [Int.fdiv_eq_ediv_of_nonneg _ (by decide)]
    split <;> omega
  rw [e1, e2]
  unfold zigN
  by_cases c : n < 0
  · rw [if_pos c, if_pos c, if_pos c]
    have e : 2 * n + 18446744073709551616 = ((2 * n + 18446744073709551616).toNat : Int) := by omega
    rw [e]
    show IntKind.u64.wrap ((BitVec.ofInt 64 _ ^^^ BitVec.ofInt 64 18446744073709551615).toNat : Int) = _
    rw [BitVec.ofInt_natCast, show BitVec.ofInt 64 18446744073709551615 = BitVec.allOnes 64 by decide, BitVec.xor_allOnes, BitVec.toNat_not, BitVec.toNat_ofNat, Nat.mod_eq_of_lt (by omega), wu64]
    omega
  · rw [if_neg c, if_neg c, if_neg c]
    have e : 2 * n = ((2 * n).toNat : Int) := by omega
    rw [e]
    show IntKind.u64.wrap ((BitVec.ofInt 64 _ ^^^ BitVec.ofInt 64 0).toNat : Int) = _
    rw [BitVec.ofInt_natCast, show BitVec.ofInt 64 0 = 0#64 by decide, BitVec.xor_zero, BitVec.toNat_ofNat, Nat.mod_eq_of_lt (by omega), wu64]
    omega
end Go.Proofs.YtkkfdkfopdjomaaDoor
