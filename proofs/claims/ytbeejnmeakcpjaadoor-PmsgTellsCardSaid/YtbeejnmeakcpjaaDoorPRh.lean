/-
  Fields' bytes and their number.
-/
import Derived.Test.YtbeejnmeakcpjaaDoorPRg
set_option linter.unusedSimpArgs false
set_option linter.unusedVariables false
set_option maxHeartbeats 4000000
namespace Go.Proofs.YtbeejnmeakcpjaaDoor
open Go Go.VG
set_option maxRecDepth 100000
def Bits (f : Nat → Nat) (u : Nat) : Prop := u < 2 ^ f u ∧ (0 < u → 1 ≤ f u ∧ 2 ^ (f u - 1) ≤ u)
theorem bits8 : ∀ u, u < 256 → u < 2 ^ (len8.getD u 0).toNat ∧ (0 < u → 1 ≤ (len8.getD u 0).toNat ∧ 2 ^ ((len8.getD u 0).toNat - 1) ≤ u) := by decide +kernel
theorem bits_up {f : Nat → Nat} {u N : Nat} (hq : Bits f (u / 2 ^ N)) (hu : u ≥ 2 ^ N) : u < 2 ^ (N + f (u / 2 ^ N)) ∧ (0 < u → 1 ≤ N + f (u / 2 ^ N) ∧ 2 ^ (N + f (u / 2 ^ N) - 1) ≤ u) := by
  have hN : 0 < 2 ^ N := Nat.pow_pos (by decide)
  have h1 : 0 < u / 2 ^ N := Nat.div_pos hu hN
  obtain ⟨q1, q2⟩ := hq
  obtain ⟨q2, q3⟩ := q2 h1
  refine ⟨?_, fun _ => ⟨by omega, ?_⟩⟩
  · rw [Nat.pow_add, Nat.mul_comm]
    exact (Nat.div_lt_iff_lt_mul hN).mp q1
  · rw [show N + f (u / 2 ^ N) - 1 = N + (f (u / 2 ^ N) - 1) by omega, Nat.pow_add, Nat.mul_comm]
    exact Nat.le_trans (Nat.mul_le_mul_right _ q3) (Nat.div_mul_le_self u _)
theorem bits16 {u : Nat} (h : u < 65536) : Bits len16 u := by
  unfold Bits len16
  split
  · exact bits_up (f := fun u => (len8.getD u 0).toNat) (N := 8) (bits8 (u / 2 ^ 8) (by omega)) (by omega)
  · exact bits8 u (by omega)
theorem bits32 {u : Nat} (h : u < 4294967296) : Bits len32 u := by
  unfold Bits len32
  split
  · exact bits_up (f := len16) (N := 16) (bits16 (by omega)) (by omega)
  · exact bits16 (by omega)
theorem bits64 {u : Nat} (h : u ≤ 18446744073709551615) : Bits lenV u := by
  unfold Bits lenV
  split
  · exact bits_up (f := len32) (N := 32) (bits32 (by omega)) (by omega)
  · exact bits32 (by omega)
theorem vput_n : ∀ (n u : Nat), u < 128 ^ (n + 1) → (n = 0 ∨ 128 ^ n ≤ u) → (vput u).length = n + 1
  | 0, u, h, _ => by rw [vput_lt (by omega)]; rfl
  | n + 1, u, h, h2 => by
    have h3 : 128 ^ (n + 1) ≤ u := h2.resolve_left (by omega)
    have hp : 1 ≤ 128 ^ n := Nat.pow_pos (by decide)
    rw [Nat.pow_succ] at h h3
    rw [vput_ge (by omega), List.length_cons, vput_n n (u / 128) (by omega) (.inr (by omega))]
theorem size_bd {u : Nat} (h : u ≤ 18446744073709551615) : u < 128 ^ (sizeV u - 1 + 1) ∧ (sizeV u - 1 = 0 ∨ 128 ^ (sizeV u - 1) ≤ u) := by
  obtain ⟨h1, h2⟩ := bits64 h
  have hs := sizeV_upto u
  have hsz : sizeV u = ((max (lenV u) 1) + 6) / 7 := rfl
  have h0 : u = 0 → lenV u = 0 := fun q => by rw [q]; rfl
  generalize sizeV u = m at *
  generalize lenV u = L at *
  rw [show m - 1 + 1 = m by omega]
  constructor
  · rw [show 128 = 2 ^ 7 from rfl, ← Nat.pow_mul]
    exact Nat.lt_of_lt_of_le h1 (Nat.pow_le_pow_right (by decide) (by omega))
  · by_cases hm : m - 1 = 0
    · exact .inl hm
    · right
      have hu : 0 < u := by
        rcases Nat.eq_zero_or_pos u with q | q
        · have := h0 q
          omega
        · exact q
      rw [show 128 = 2 ^ 7 from rfl, ← Nat.pow_mul]
      exact Nat.le_trans (Nat.pow_le_pow_right (by decide) (by omega)) (h2 hu).2
theorem size_len {u : Nat} (h : u ≤ 18446744073709551615) : sizeV u = (vput u).length := by
  have hb := size_bd h
  have hs := sizeV_upto u
  rw [vput_n (sizeV u - 1) u hb.1 hb.2]
  omega
theorem size_tag {n w : Int} (h : mayT n w = true) : sizeV (8 * n).toNat = (vput (tagU n w)).length := by
  have hb := mayT_b h
  obtain ⟨a, rfl⟩ := Int.eq_ofNat_of_zero_le (show 0 ≤ n by omega)
  have e1 : (8 * (a : Int)).toNat = 8 * a := by omega
  have e2 : tagU a w = 8 * a + w.toNat := by unfold tagU; omega
  have hw : w.toNat ≤ 7 := by omega
  rw [e1, e2]
  generalize w.toNat = b at *
  have hs := sizeV_upto (8 * a)
  have hx := size_bd (u := 8 * a) (by omega)
  generalize sizeV (8 * a) = m at *
  obtain ⟨k, rfl⟩ : ∃ k, m = k + 1 := ⟨m - 1, by omega⟩
  rw [show k + 1 - 1 = k by omega] at hx
  rw [vput_n k (8 * a + b) ?_ ?_]
  · have h1 := hx.1
    rw [Nat.pow_succ] at h1 ⊢
    omega
  · rcases hx.2 with q | q
    · exact .inl q
    · exact .inr (by omega)
def conB (f : Pf) : List UInt8 := if f.wi = 1 then low 8 f.num.toNat else if f.wi = 5 then low 4 f.num.toNat else if f.wi = 2 then vput f.text.length ++ f.text else vput f.num.toNat
def fldB (f : Pf) : List UInt8 := if mayT f.no f.wi = true then tagB f.no f.wi ++ conB f else []
theorem low_mod : ∀ (k u : Nat), low k (u % 256 ^ k) = low k u
  | 0, _ => rfl
  | k + 1, u => by
    have e1 : u % 256 ^ (k + 1) / 256 = u / 256 % 256 ^ k := by
      rw [Nat.pow_succ, Nat.mul_comm, Nat.mod_mul_right_div_self]
    have e2 : u % 256 ^ (k + 1) % 256 = u % 256 := by
      rw [Nat.pow_succ, Nat.mul_comm]
      exact Nat.mod_mul_right_mod _ _ _
    rw [low, low, e1, e2, low_mod k (u / 256)]
theorem conB_len {f : Pf} (h : 0 ≤ f.num ∧ f.num ≤ 18446744073709551615) (ht : f.text.length ≤ 18446744073709551615) : (conB f).length ≤ 10 + f.text.length := by
  unfold conB
  repeat' split
  · rw [low_length]; omega
  · rw [low_length]; omega
  · have := vput_len ht
    rw [List.length_append]; omega
  · have := vput_len (u := f.num.toNat) (by omega)
    omega
theorem f_pTagSize_1 (n w : Int) (hp : True) : OK 58 ([.agg [.int .i64 n, .int .i64 w]]) ([]) (.int .i64 ((tagB n w).length : Nat)) (none) := by
  refine funOK_of_vc (C := cx [(51, sm_pMay), (59, sm_vSize)]) (good ⟨k_pMay, k_vSize, trivial⟩) (fn := Tryd.f58) rfl rfl rfl rfl fun hw hs => ?_
  have h1 : mayT n w = true → iShl .u64 (IntKind.u64.wrap n) 3 = ((8 * n).toNat : Nat) := fun h => by
    have hb := mayT_b h
    show IntKind.u64.wrap (IntKind.u64.wrap n * 2 ^ 3) = _
    rw [show IntKind.u64.wrap n = n by rw [wu64]; omega, wu64]; omega
  have h2 : mayT n w = true → (8 * n).toNat ≤ 18446744073709551615 := fun h => by have hb := mayT_b h; omega
  repeat' (
      conv => whnf
      first
      | with_reducible refine optB_i (fun j q h => ?_) (fun h => ?_)
      | with_reducible refine nextM_i ⟨rfl, rfl⟩ (fun h => ?_) (fun j h => ?_)
      | with_reducible refine nextM_i ?_ (fun h => ?_) (fun j h => ?_)
      | refine req_i ?_ ?_
      | refine when_i ?_ ?_
      | refine brn_not ?_
      | refine brn_dec (fun h => ?_) (fun h => ?_)
      | refine brn_int (fun h => ?_) (fun h => ?_)
      | refine brn_intne (fun h => ?_) (fun h => ?_)
      | refine brn_str (fun h => ?_) (fun h => ?_)
      | refine brn_i (fun h => ?_) (fun h => ?_)
      | with_reducible refine IdxK.mk _ rfl ?_
      | with_reducible refine idx_blI ?_ (fun hc => ?_)
      | with_reducible refine idx_bl ?_ (fun hc => ?_)
      | with_reducible refine idx_strI ?_ (fun hc => ?_)
      | with_reducible refine idx_str ?_ (fun hc => ?_)
      | with_reducible refine idx_mapDI ?_ ?_
      | with_reducible refine idx_mapD ?_ ?_
      | with_reducible refine idx_at ?_ (fun b hb => ?_)
      | refine ex_bl ?_
      | refine ex_b1 ?_ ?_
      | refine ex_b2 ?_ ?_ ?_
      | refine ex_b3 ?_ ?_ ?_ ?_
      | refine ex_b4 ?_ ?_ ?_ ?_ ?_
      | refine optK_setL ?_ ?_
      | refine optK_takeL ?_ ?_
      | with_reducible refine forceDs_i ?_
      )
  all_goals try (conv => whnf)
  all_goals try (refine Side.mk ?_; try dsimp only)
  all_goals first
    | (show LoopP _ _ _ _; skip)
    | (show GotoP _ _ _ _ _; skip)
    | (show EndP _ _ _ _ _ _; skip)
    | (show ∃ _, _; skip)
    | (first
          | trivial
          | omega
          | (simp (discharger := omega) only [wu8, wu16, wu32, wu64, wi32, wi64, Int.tdiv_eq_ediv_of_nonneg, Int.tmod_eq_emod_of_nonneg]; omega)
          | (simp only [List.length_append, List.length_cons, List.length_nil, bl_length, List.length_take, List.length_drop]; omega)
          | (simp (discharger := omega) [-List.getD_eq_getElem?_getD, wu8, wu16, wu32, wu64, wi32, wi64, Int.tdiv_eq_ediv_of_nonneg, Int.tmod_eq_emod_of_nonneg]; done)
          | (simp (discharger := omega) [-List.getD_eq_getElem?_getD, wu8, wu16, wu32, wu64, wi32, wi64, Int.tdiv_eq_ediv_of_nonneg, Int.tmod_eq_emod_of_nonneg]; omega))
    | skip
  all_goals
    first
    | (have hm : mayT n w = true := decide_eq_true (by assumption)
       rw [h1 hm]
       have h2 := h2 hm
       omega)
    | (have hm : mayT n w = true := decide_eq_true (by assumption)
       rw [h1 hm, Int.toNat_natCast]
       unfold tagB
       rw [if_pos hm, ← size_tag hm]
       refine EndP.mk [] ?_ <;> (repeat' (first | trivial | rfl | exact scopedL_bl _ _ | refine And.intro ?_ ?_ | refine congrArg V.str ?_ | refine congrArg (V.int _) ?_ | refine congrArg V.bool ?_ | refine congrArg (O.buf _ _) ?_ | refine congrArg O.cells ?_ | refine congrArg (V.list _ _) ?_ | refine congrArg V.agg ?_ | refine congrArg V.tuple ?_ | refine cons_eq ?_ ?_))
       done)
    | (have hm : mayT n w = false := decide_eq_false (by assumption)
       unfold tagB
       rw [hm, if_neg Bool.false_ne_true]
       refine EndP.mk [] ?_ <;> (repeat' (first | trivial | rfl | exact scopedL_bl _ _ | refine And.intro ?_ ?_ | refine congrArg V.str ?_ | refine congrArg (V.int _) ?_ | refine congrArg V.bool ?_ | refine congrArg (O.buf _ _) ?_ | refine congrArg O.cells ?_ | refine congrArg (V.list _ _) ?_ | refine congrArg V.agg ?_ | refine congrArg V.tuple ?_ | refine cons_eq ?_ ?_))
       done)
def sm_pTagSize : Sm := fun args σ => match args, σ with
  | [.agg [.int .i64 n, .int .i64 w]], [] => some (True, .int .i64 ((tagB n w).length : Nat), none)
  | _, _ => none
theorem k_pTagSize : SOK 58 sm_pTagSize := by
  intro args sg pre x r he hp
  unfold sm_pTagSize at he
  split at he <;> cases he
  · exact f_pTagSize_1 (hp := hp) ..
end Go.Proofs.YtbeejnmeakcpjaaDoor
