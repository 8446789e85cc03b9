/-
  Fields of Protobuf: what the program lays, and what the document says.
-/
import Derived.Test.YtkkfdkfopdjomaaDoorPRf
set_option linter.unusedSimpArgs false
set_option linter.unusedVariables false
set_option maxHeartbeats 4000000
namespace Go.Proofs.YtkkfdkfopdjomaaDoor
open Go Go.VG
set_option maxRecDepth 100000
theorem shr_byteW (u b : Nat) (hb : b ≤ 32) : IntKind.u8.wrap (iShr .u32 u b) = ((UInt8.ofNat (u / 2 ^ b % 256)).toNat : Int) := by
  rw [iShr_nat, show min b IntKind.u32.bits = b from Nat.min_eq_left hb, wu8, UInt8.toNat_ofNat']
  omega
def tagU (n w : Int) : Nat := (8 * n + w).toNat
def tagB (n w : Int) : List UInt8 := if mayT n w = true then vput (tagU n w) else []
theorem mayT_b {n w : Int} (h : mayT n w = true) : (1 ≤ n ∧ n ≤ 536870911) ∧ (w = 0 ∨ w = 1 ∨ w = 2 ∨ w = 5) := of_decide_eq_true h
theorem tag_or {n w : Int} (h : mayT n w = true) : iOr .u64 (iShl .u64 (IntKind.u64.wrap n) 3) (IntKind.u64.wrap w) = (tagU n w : Nat) := by
  have hb := mayT_b h
  obtain ⟨a, rfl⟩ := Int.eq_ofNat_of_zero_le (show 0 ≤ n by omega)
  obtain ⟨b, rfl⟩ := Int.eq_ofNat_of_zero_le (show 0 ≤ w by omega)
  rw [show IntKind.u64.wrap (a : Int) = (a : Int) by rw [wu64]; omega, show IntKind.u64.wrap (b : Int) = (b : Int) by rw [wu64]; omega]
  have e1 : iShl .u64 (a : Int) 3 = ((a * 2 ^ 3 : Nat) : Int) := by
    show IntKind.u64.wrap ((a : Int) * 2 ^ 3) = _
    rw [wu64]; omega
  rw [e1]
  show IntKind.u64.wrap ((BitVec.ofInt 64 ((a * 2 ^ 3 : Nat) : Int) ||| BitVec.ofInt 64 (b : Int)).toNat : Int) = _
  rw [BitVec.ofInt_natCast, BitVec.ofInt_natCast, BitVec.toNat_or, BitVec.toNat_ofNat, BitVec.toNat_ofNat, Nat.mod_eq_of_lt (by omega), Nat.mod_eq_of_lt (by omega), wu64]
  have e2 := Nat.shiftLeft_add_eq_or_of_lt (i := 3) (b := b) (by omega) a
  rw [Nat.shiftLeft_eq] at e2
  rw [← e2]
  unfold tagU
  omega
theorem tagU_lt {n w : Int} (h : mayT n w = true) : tagU n w ≤ 4294967295 := by
  have hb := mayT_b h
  unfold tagU; omega
theorem tagB_len (n w : Int) : (tagB n w).length ≤ 10 := by
  unfold tagB
  split
  · rename_i h
    have := tagU_lt h
    exact (vput_len (by omega)).2
  · simp
theorem f_pTagPut_1 (l : List V) (n w : Int) (hp : l.length ≤ 1900000000) : OK 100 ([.buf 0, .agg [.int .i64 n, .int .i64 w]]) ([.buf 1 0 l]) (.buf 1) (some [.buf 1 0 l, .buf 1 0 (l ++ bl (tagB n w))]) := by
  refine funOK_of_vc (C := cx [(44, sm_pMay), (99, sm_vPut)]) (good ⟨k_pMay, k_vPut, trivial⟩) (fn := Tryd.f100) rfl rfl rfl rfl fun hw hs => ?_
  have h1 := @tag_or n w
  have h2 := @tagU_lt n w
  repeat' ((conv => whnf); first | with_reducible (first | refine go1 (fun j q h => ?_) fun h => ?_ | refine go2 ⟨rfl, rfl⟩ (fun h => ?_) fun j h => ?_ | refine go2 ?_ (fun h => ?_) fun j h => ?_ | refine goQ ?_ (fun h => ?_) fun h => ?_) | apply go3 | apply go4 | apply go5 | ((first | apply go6 | apply go7 | apply go8 | apply go9 | apply goA) <;> intro h) | with_reducible (first | refine IdxK.mk _ rfl ?_ | refine goB ?_ fun hc => ?_ | refine goC ?_ fun hc => ?_ | refine goD ?_ fun hc => ?_ | refine goE ?_ fun hc => ?_ | apply goF | apply goG | refine goH ?_ fun b hb => ?_) | apply goI | apply goJ | apply goK | apply goL | apply goM | apply goN | apply goO | with_reducible refine goP ?_)
  all_goals try conv => whnf
  all_goals try (refine Side.mk ?_; try dsimp only)
  all_goals first | refine stay ?_ | trivial | omega | (simp (discharger := omega) only [wR]; omega) | (simp only [lnS]; omega) | (simp (discharger := omega) [-List.getD_eq_getElem?_getD, wR] <;> omega) | skip
  · have hm : mayT n w = true := decide_eq_true (by assumption)
    rw [h1 hm]
    have h2 := h2 hm
    refine ⟨⟨?_, ?_⟩, ?_⟩ <;> omega
  · have hm : mayT n w = true := decide_eq_true (by assumption)
    rw [h1 hm]
    unfold tagB
    rw [if_pos hm]
    refine EndP.mk [.swap 1 2] ?_ <;> (repeat' first | trivial | rfl | exact eqS _ _ | apply andI | apply eqA | apply eqB | apply eqC | apply eqD | apply eqE | apply eqF | apply eqG | apply eqH | apply eqI)
  · have hm : mayT n w = false := decide_eq_false (by assumption)
    unfold tagB
    rw [hm, if_neg Bool.false_ne_true]
    refine EndP.mk [.swap 1 2] ?_ <;> (repeat' first | trivial | rfl | exact eqS _ _ | apply andI | apply eqA | apply eqB | apply eqC | apply eqD | apply eqE | apply eqF | apply eqG | apply eqH | apply eqI)
    simp [bl]
theorem f_pTagPut_2 (c : Bool) (l : List V) (n w : Int) (hp : l.length ≤ 1900000000) : OK 100 ([.list c 1 l, .agg [.int .i64 n, .int .i64 w]]) ([]) (.buf 0) (some [.buf 1 0 (l ++ bl (tagB n w))]) := by
  refine funOK_of_vc (C := cx [(44, sm_pMay), (99, sm_vPut)]) (good ⟨k_pMay, k_vPut, trivial⟩) (fn := Tryd.f100) rfl rfl rfl rfl fun hw hs => ?_
  have h1 := @tag_or n w
  have h2 := @tagU_lt n w
  repeat' ((conv => whnf); first | with_reducible (first | refine go1 (fun j q h => ?_) fun h => ?_ | refine go2 ⟨rfl, rfl⟩ (fun h => ?_) fun j h => ?_ | refine go2 ?_ (fun h => ?_) fun j h => ?_ | refine goQ ?_ (fun h => ?_) fun h => ?_) | apply go3 | apply go4 | apply go5 | ((first | apply go6 | apply go7 | apply go8 | apply go9 | apply goA) <;> intro h) | with_reducible (first | refine IdxK.mk _ rfl ?_ | refine goB ?_ fun hc => ?_ | refine goC ?_ fun hc => ?_ | refine goD ?_ fun hc => ?_ | refine goE ?_ fun hc => ?_ | apply goF | apply goG | refine goH ?_ fun b hb => ?_) | apply goI | apply goJ | apply goK | apply goL | apply goM | apply goN | apply goO | with_reducible refine goP ?_)
  all_goals try conv => whnf
  all_goals try (refine Side.mk ?_; try dsimp only)
  all_goals first | refine stay ?_ | trivial | omega | (simp (discharger := omega) only [wR]; omega) | (simp only [lnS]; omega) | (simp (discharger := omega) [-List.getD_eq_getElem?_getD, wR] <;> omega) | skip
  · have hm : mayT n w = true := decide_eq_true (by assumption)
    rw [h1 hm]
    have h2 := h2 hm
    refine ⟨⟨?_, ?_⟩, ?_⟩ <;> omega
  · have hm : mayT n w = true := decide_eq_true (by assumption)
    rw [h1 hm]
    unfold tagB
    rw [if_pos hm]
    refine EndP.mk [.swap 0 1] ?_ <;> (repeat' first | trivial | rfl | exact eqS _ _ | apply andI | apply eqA | apply eqB | apply eqC | apply eqD | apply eqE | apply eqF | apply eqG | apply eqH | apply eqI)
  · have hm : mayT n w = false := decide_eq_false (by assumption)
    unfold tagB
    rw [hm, if_neg Bool.false_ne_true]
    refine EndP.mk [.tm 4 1, .swap 0 1] ?_ <;> (repeat' first | trivial | rfl | exact eqS _ _ | apply andI | apply eqA | apply eqB | apply eqC | apply eqD | apply eqE | apply eqF | apply eqG | apply eqH | apply eqI)
    simp [bl]
def sm_pTagPut : Sm := fun args σ => match args, σ with
  | [.buf 0, .agg [.int .i64 n, .int .i64 w]], [.buf 1 0 l] => some (l.length ≤ 1900000000, .buf 1, some [.buf 1 0 l, .buf 1 0 (l ++ bl (tagB n w))])
  | [.list c 1 l, .agg [.int .i64 n, .int .i64 w]], [] => some (l.length ≤ 1900000000, .buf 0, some [.buf 1 0 (l ++ bl (tagB n w))])
  | _, _ => none
theorem k_pTagPut : SOK 100 sm_pTagPut := by
  intro args sg pre x r he hp
  unfold sm_pTagPut at he
  split at he <;> cases he
  · exact f_pTagPut_1 (hp := hp) ..
  · exact f_pTagPut_2 (hp := hp) ..
def Bits (f : Nat → Nat) (u : Nat) : Prop := u < 2 ^ f u ∧ (0 < u → 1 ≤ f u ∧ 2 ^ (f u - 1) ≤ u)
theorem bits8 : ∀ u, u < 256 → u < 2 ^ (len8.getD u 0).toNat ∧ (0 < u → 1 ≤ (len8.getD u 0).toNat ∧ 2 ^ ((len8.getD u 0).toNat - 1) ≤ u) := by decide +kernel
theorem bits_up {f : Nat → Nat} {u N : Nat} (hq : Bits f (u / 2 ^ N)) (hu : u ≥ 2 ^ N) : u < 2 ^ (N + f (u / 2 ^ N)) ∧ (0 < u → 1 ≤ N + f (u / 2 ^ N) ∧ 2 ^ (N + f (u / 2 ^ N) - 1) ≤ u) := by
  have hN : 0 < 2 ^ N := Nat.pow_pos (by decide)
  have h1 : 0 < u / 2 ^ N := Nat.div_pos hu hN
  obtain ⟨q1, q2⟩ := hq
  obtain ⟨q2, q3⟩ := q2 h1
  refine ⟨?_, fun _ => ⟨by omega, ?_⟩⟩
  · rw [Nat.pow_add, Nat.mul_comm]
    exact (Nat.div_lt_iff_lt_mul hN).mp q1
  · rw [show N + f (u / 2 ^ N) - 1 = N + (f (u / 2 ^ N) - 1) by omega, Nat.pow_add, Nat.mul_comm]
    exact Nat.le_trans (Nat.mul_le_mul_right _ q3) (Nat.div_mul_le_self u _)
theorem bits16 {u : Nat} (h : u < 65536) : Bits len16 u := by
  unfold Bits len16
  split
  · exact bits_up (f := fun u => (len8.getD u 0).toNat) (N := 8) (bits8 (u / 2 ^ 8) (by omega)) (by omega)
  · exact bits8 u (by omega)
theorem bits32 {u : Nat} (h : u < 4294967296) : Bits len32 u := by
  unfold Bits len32
  split
  · exact bits_up (f := len16) (N := 16) (bits16 (by omega)) (by omega)
  · exact bits16 (by omega)
theorem bits64 {u : Nat} (h : u ≤ 18446744073709551615) : Bits lenV u := by
  unfold Bits lenV
  split
  · exact bits_up (f := len32) (N := 32) (bits32 (by omega)) (by omega)
  · exact bits32 (by omega)
theorem vput_n : ∀ (n u : Nat), u < 128 ^ (n + 1) → (n = 0 ∨ 128 ^ n ≤ u) → (vput u).length = n + 1
  | 0, u, h, _ => by rw [vput_lt (by omega)]; rfl
  | n + 1, u, h, h2 => by
    have h3 : 128 ^ (n + 1) ≤ u := h2.resolve_left (by omega)
    have hp : 1 ≤ 128 ^ n := Nat.pow_pos (by decide)
    rw [Nat.pow_succ] at h h3
    rw [vput_ge (by omega), List.length_cons, vput_n n (u / 128) (by omega) (.inr (by omega))]
theorem size_bd {u : Nat} (h : u ≤ 18446744073709551615) : u < 128 ^ (sizeV u - 1 + 1) ∧ (sizeV u - 1 = 0 ∨ 128 ^ (sizeV u - 1) ≤ u) := by
  obtain ⟨h1, h2⟩ := bits64 h
  have hs := sizeV_upto u
  have hsz : sizeV u = ((max (lenV u) 1) + 6) / 7 := rfl
  have h0 : u = 0 → lenV u = 0 := fun q => by rw [q]; rfl
  generalize sizeV u = m at *
  generalize lenV u = L at *
  rw [show m - 1 + 1 = m by omega]
  constructor
  · rw [show 128 = 2 ^ 7 from rfl, ← Nat.pow_mul]
    exact Nat.lt_of_lt_of_le h1 (Nat.pow_le_pow_right (by decide) (by omega))
  · by_cases hm : m - 1 = 0
    · exact .inl hm
    · right
      have hu : 0 < u := by
        rcases Nat.eq_zero_or_pos u with q | q
        · have := h0 q
          omega
        · exact q
      rw [show 128 = 2 ^ 7 from rfl, ← Nat.pow_mul]
      exact Nat.le_trans (Nat.pow_le_pow_right (by decide) (by omega)) (h2 hu).2
theorem size_len {u : Nat} (h : u ≤ 18446744073709551615) : sizeV u = (vput u).length := by
  have hb := size_bd h
  have hs := sizeV_upto u
  rw [vput_n (sizeV u - 1) u hb.1 hb.2]
  omega
theorem size_tag {n w : Int} (h : mayT n w = true) : sizeV (8 * n).toNat = (vput (tagU n w)).length := by
  have hb := mayT_b h
  obtain ⟨a, rfl⟩ := Int.eq_ofNat_of_zero_le (show 0 ≤ n by omega)
  have e1 : (8 * (a : Int)).toNat = 8 * a := by omega
  have e2 : tagU a w = 8 * a + w.toNat := by unfold tagU; omega
  have hw : w.toNat ≤ 7 := by omega
  rw [e1, e2]
  generalize w.toNat = b at *
  have hs := sizeV_upto (8 * a)
  have hx := size_bd (u := 8 * a) (by omega)
  generalize sizeV (8 * a) = m at *
  obtain ⟨k, rfl⟩ : ∃ k, m = k + 1 := ⟨m - 1, by omega⟩
  rw [show k + 1 - 1 = k by omega] at hx
  rw [vput_n k (8 * a + b) ?_ ?_]
  · have h1 := hx.1
    rw [Nat.pow_succ] at h1 ⊢
    omega
  · rcases hx.2 with q | q
    · exact .inl q
    · exact .inr (by omega)
def conB (f : Pf) : List UInt8 := if f.wi = 1 then low 8 f.num.toNat else if f.wi = 5 then low 4 f.num.toNat else if f.wi = 2 then vput f.text.length ++ f.text else vput f.num.toNat
def fldB (f : Pf) : List UInt8 := if mayT f.no f.wi = true then tagB f.no f.wi ++ conB f else []
theorem low_mod : ∀ (k u : Nat), low k (u % 256 ^ k) = low k u
  | 0, _ => rfl
  | k + 1, u => by
    have e1 : u % 256 ^ (k + 1) / 256 = u / 256 % 256 ^ k := by
      rw [Nat.pow_succ, Nat.mul_comm, Nat.mod_mul_right_div_self]
    have e2 : u % 256 ^ (k + 1) % 256 = u % 256 := by
      rw [Nat.pow_succ, Nat.mul_comm]
      exact Nat.mod_mul_right_mod _ _ _
    rw [low, low, e1, e2, low_mod k (u / 256)]
theorem conB_len {f : Pf} (h : 0 ≤ f.num ∧ f.num ≤ 18446744073709551615) (ht : f.text.length ≤ 18446744073709551615) : (conB f).length ≤ 10 + f.text.length := by
  unfold conB
  repeat' split
  · rw [low_length]; omega
  · rw [low_length]; omega
  · have := vput_len ht
    rw [List.length_append]; omega
  · have := vput_len (u := f.num.toNat) (by omega)
    omega
theorem f_pTagSize_1 (n w : Int) (hp : True) : OK 101 ([.agg [.int .i64 n, .int .i64 w]]) ([]) (.int .i64 ((tagB n w).length : Nat)) (none) := by
  refine funOK_of_vc (C := cx [(44, sm_pMay), (102, sm_vSize)]) (good ⟨k_pMay, k_vSize, trivial⟩) (fn := Tryd.f101) rfl rfl rfl rfl fun hw hs => ?_
  have h1 : mayT n w = true → iShl .u64 (IntKind.u64.wrap n) 3 = ((8 * n).toNat : Nat) := fun h => by
    have hb := mayT_b h
    show IntKind.u64.wrap (IntKind.u64.wrap n * 2 ^ 3) = _
    rw [show IntKind.u64.wrap n = n by rw [wu64]; omega, wu64]; omega
  have h2 : mayT n w = true → (8 * n).toNat ≤ 18446744073709551615 := fun h => by have hb := mayT_b h; omega
  repeat' ((conv => whnf); first | with_reducible (first | refine go1 (fun j q h => ?_) fun h => ?_ | refine go2 ⟨rfl, rfl⟩ (fun h => ?_) fun j h => ?_ | refine go2 ?_ (fun h => ?_) fun j h => ?_ | refine goQ ?_ (fun h => ?_) fun h => ?_) | apply go3 | apply go4 | apply go5 | ((first | apply go6 | apply go7 | apply go8 | apply go9 | apply goA) <;> intro h) | with_reducible (first | refine IdxK.mk _ rfl ?_ | refine goB ?_ fun hc => ?_ | refine goC ?_ fun hc => ?_ | refine goD ?_ fun hc => ?_ | refine goE ?_ fun hc => ?_ | apply goF | apply goG | refine goH ?_ fun b hb => ?_) | apply goI | apply goJ | apply goK | apply goL | apply goM | apply goN | apply goO | with_reducible refine goP ?_)
  all_goals try conv => whnf
  all_goals try (refine Side.mk ?_; try dsimp only)
  all_goals first | refine stay ?_ | trivial | omega | (simp (discharger := omega) only [wR]; omega) | (simp only [lnS]; omega) | (simp (discharger := omega) [-List.getD_eq_getElem?_getD, wR] <;> omega) | skip
  all_goals
    first
    | (have hm : mayT n w = true := decide_eq_true (by assumption)
       rw [h1 hm]
       have h2 := h2 hm
       omega)
    | (have hm : mayT n w = true := decide_eq_true (by assumption)
       rw [h1 hm, Int.toNat_natCast]
       unfold tagB
       rw [if_pos hm, ← size_tag hm]
       refine EndP.mk [] ?_ <;> (repeat' first | trivial | rfl | exact eqS _ _ | apply andI | apply eqA | apply eqB | apply eqC | apply eqD | apply eqE | apply eqF | apply eqG | apply eqH | apply eqI)
       done)
    | (have hm : mayT n w = false := decide_eq_false (by assumption)
       unfold tagB
       rw [hm, if_neg Bool.false_ne_true]
       refine EndP.mk [] ?_ <;> (repeat' first | trivial | rfl | exact eqS _ _ | apply andI | apply eqA | apply eqB | apply eqC | apply eqD | apply eqE | apply eqF | apply eqG | apply eqH | apply eqI)
       done)
def sm_pTagSize : Sm := fun args σ => match args, σ with
  | [.agg [.int .i64 n, .int .i64 w]], [] => some (True, .int .i64 ((tagB n w).length : Nat), none)
  | _, _ => none
theorem k_pTagSize : SOK 101 sm_pTagSize := by
  intro args sg pre x r he hp
  unfold sm_pTagSize at he
  split at he <;> cases he
  · exact f_pTagSize_1 (hp := hp) ..
theorem f_pFSize_1 (f : Pf) (hp : f.text.length ≤ 1000000000) : OK 108 ([ePf f]) ([]) (.int .i64 ((fldB f).length : Nat)) (none) := by
  refine funOK_of_vc (C := cx [(44, sm_pMay), (101, sm_pTagSize), (102, sm_vSize)]) (good ⟨k_pMay, k_pTagSize, k_vSize, trivial⟩) (fn := Tryd.f108) rfl rfl rfl rfl fun hw hs => ?_
  have hn : 0 ≤ f.num ∧ f.num ≤ 18446744073709551615 := hw.1.2.2.1
  have ht := tagB_len f.no f.wi
  have h1 := size_len (u := f.num.toNat) (by omega)
  have h2 := size_len (u := f.text.length) (by omega)
  have h3 := vput_len (u := f.num.toNat) (by omega)
  have h4 := vput_len (u := f.text.length) (by omega)
  have hwt : IntKind.u64.wrap (f.text.length : Int) = f.text.length := by rw [wu64]; omega
  repeat' ((conv => whnf); first | with_reducible (first | refine go1 (fun j q h => ?_) fun h => ?_ | refine go2 ⟨rfl, rfl⟩ (fun h => ?_) fun j h => ?_ | refine go2 ?_ (fun h => ?_) fun j h => ?_ | refine goQ ?_ (fun h => ?_) fun h => ?_) | apply go3 | apply go4 | apply go5 | ((first | apply go6 | apply go7 | apply go8 | apply go9 | apply goA) <;> intro h) | with_reducible (first | refine IdxK.mk _ rfl ?_ | refine goB ?_ fun hc => ?_ | refine goC ?_ fun hc => ?_ | refine goD ?_ fun hc => ?_ | refine goE ?_ fun hc => ?_ | apply goF | apply goG | refine goH ?_ fun b hb => ?_) | apply goI | apply goJ | apply goK | apply goL | apply goM | apply goN | apply goO | with_reducible refine goP ?_)
  all_goals try conv => whnf
  all_goals try (refine Side.mk ?_; try dsimp only)
  all_goals (try simp only [hwt, Int.toNat_natCast, h1, h2] at *)
  all_goals first | refine stay ?_ | trivial | omega | (simp (discharger := omega) only [wR]; omega) | (simp only [lnS]; omega) | (simp (discharger := omega) [-List.getD_eq_getElem?_getD, wR] <;> omega) | skip
  all_goals
    have hf : fldB f = fldB f := rfl
    conv at hf => rhs; unfold fldB conB
    first
    | (have hm : mayT f.no f.wi = true := decide_eq_true (by assumption)
       rw [if_pos hm] at hf
       repeat (first | rw [if_pos (by assumption)] at hf | rw [if_neg (by assumption)] at hf)
       rw [hf]
       (refine EndP.mk [] ?_ <;> (repeat' first | trivial | rfl | exact eqS _ _ | apply andI | apply eqA | apply eqB | apply eqC | apply eqD | apply eqE | apply eqF | apply eqG | apply eqH | apply eqI))
       all_goals
         first | rw [List.length_append, low_length] | (rw [List.length_append, List.length_append]) | rw [List.length_append]
         rw [wi_i] <;> (try rw [wi_i]) <;> omega)
    | (have hm : mayT f.no f.wi = false := decide_eq_false (by assumption)
       rw [hm, if_neg Bool.false_ne_true] at hf
       rw [hf]
       refine EndP.mk [] ?_ <;> (repeat' first | trivial | rfl | exact eqS _ _ | apply andI | apply eqA | apply eqB | apply eqC | apply eqD | apply eqE | apply eqF | apply eqG | apply eqH | apply eqI)
       done)
def sm_pFSize : Sm := fun args σ => match args, σ with
  | [.agg [.int .i64 n_f, .int .i64 w_f, .int .u64 u_f, .str t_f]], [] => some (True ∧ ((Pf.mk n_f w_f u_f t_f).text.length ≤ 1000000000), .int .i64 ((fldB (Pf.mk n_f w_f u_f t_f)).length : Nat), none)
  | _, _ => none
theorem k_pFSize : SOK 108 sm_pFSize := by
  intro args sg pre x r he hp
  unfold sm_pFSize at he
  split at he <;> cases he
  · rw [viewPf (hp).1]; exact f_pFSize_1 (hp := hp.2) ..
end Go.Proofs.YtkkfdkfopdjomaaDoor
