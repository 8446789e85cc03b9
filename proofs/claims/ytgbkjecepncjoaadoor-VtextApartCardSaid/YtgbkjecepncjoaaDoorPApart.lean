/-
  Unlike values of one kind have unlike texts.
-/
import Derived.Test.YtgbkjecepncjoaaDoorPLaw
import Derived.Test.YtgbkjecepncjoaaDoorPCheck
set_option linter.unusedSimpArgs false
set_option linter.unusedVariables false
namespace Go.Proofs.YtgbkjecepncjoaaDoor
open Go Go.VG
set_option maxRecDepth 100000
theorem hexd_inj {a b : Nat} (ha : a < 16) (hb : b < 16) (h : hexd a = hexd b) : a = b := by
  have : ∀ x y : Fin 16, hexd x.val = hexd y.val → x = y := by decide
  exact congrArg Fin.val (this ⟨a, ha⟩ ⟨b, hb⟩ h)
theorem hexText_inj : ∀ {s t : List UInt8}, hexText s = hexText t → s = t
  | [], [], _ => rfl
  | [], _ :: _, h => by simp [hexText] at h
  | _ :: _, [], h => by simp [hexText] at h
  | a :: s, b :: t, h => by
    simp only [hexText, List.cons.injEq] at h
    have ha := UInt8.toNat_lt a
    have hb := UInt8.toNat_lt b
    have h1 := hexd_inj (by omega) (by omega) h.1
    have h2 := hexd_inj (by omega) (by omega) h.2.1
    rw [hexText_inj h.2.2, UInt8.toNat_inj.1 (show a.toNat = b.toNat by omega)]
theorem be_inj : ∀ (k : Nat) {u v : Nat}, u < 256 ^ k → v < 256 ^ k → be k u = be k v → u = v
  | 0, u, v, hu, hv, _ => by simp at hu hv; omega
  | k + 1, u, v, hu, hv, h => by
    simp only [be] at h
    obtain ⟨h1, h2⟩ := List.append_inj h (by simp)
    rw [Nat.pow_succ] at hu hv
    have e1 := be_inj k (Nat.div_lt_of_lt_mul (by rw [Nat.mul_comm]; exact hu)) (Nat.div_lt_of_lt_mul (by rw [Nat.mul_comm]; exact hv)) h1
    simp only [List.cons.injEq, and_true] at h2
    have e2 := congrArg UInt8.toNat h2
    simp only [UInt8.toNat_ofNat'] at e2
    omega
def und (l : List UInt8) : Nat := l.foldl (fun a c => a * 10 + (c.toNat - 48)) 0
theorem digit_toNat {n : Nat} (h : n < 10) : (digit n).toNat = 48 + n := by
  unfold digit
  rw [UInt8.toNat_ofNat']; omega
theorem und_dec (n : Nat) : und (dec n) = n := by
  rw [dec]
  split
  · rename_i h
    have := digit_toNat h
    simp [und, this]
  · rename_i h
    have ih := und_dec (n / 10)
    have := digit_toNat (show n % 10 < 10 by omega)
    unfold und at ih ⊢
    rw [List.foldl_append, ih]
    simp [this]
    omega
theorem dec_ge48 (n : Nat) : ∀ c ∈ dec n, 48 ≤ c.toNat := by
  rw [dec]
  split
  · rename_i h
    intro c hc
    simp only [List.mem_singleton] at hc
    subst hc
    rw [digit_toNat h]; omega
  · rename_i h
    intro c hc
    rcases List.mem_append.1 hc with hc | hc
    · exact dec_ge48 (n / 10) c hc
    · simp only [List.mem_singleton] at hc
      subst hc
      rw [digit_toNat (by omega)]; omega
theorem decI_inj {a b : Int} (h : decI a = decI b) : a = b := by
  have hneg : ∀ n m : Nat, dec n ≠ 45 :: dec m := fun n m e => by
    have := dec_ge48 n 45 (by rw [e]; exact List.mem_cons_self)
    simp at this
  unfold decI at h
  split at h <;> split at h
  · have := congrArg und (List.cons.inj h).2
    rw [und_dec, und_dec] at this; omega
  · exact absurd h.symm (hneg _ _)
  · exact absurd h (hneg _ _)
  · have := congrArg und h
    rw [und_dec, und_dec] at this; omega
theorem dbl_inj {a b : Int} (ha : 0 ≤ a ∧ a ≤ 18446744073709551615) (hb : 0 ≤ b ∧ b ≤ 18446744073709551615) (h : dbl a = dbl b) : a = b := by
  unfold dbl at h
  have h1 := hexText_inj (List.append_cancel_left h)
  have := be_inj 8 (by omega) (by omega) h1
  omega
theorem chk_facts {v : Val} (h : chk v 0 = 0) (h6 : v.kind < 6) : emp v = true ∧ (v.kind = 2 → 0 ≤ v.num ∧ v.num ≤ 1) := by
  rw [chk_eq] at h
  rw [if_neg (by omega)] at h
  by_cases he : emp v = true
  · refine ⟨he, fun h2 => ?_⟩
    rw [if_neg (by simp [he]), if_neg (by omega), if_neg (by omega)] at h
    by_cases hc : v.num < 0 ∨ 1 < v.num
    · rw [if_pos ⟨h2, hc⟩] at h; cases h
    · omega
  · rw [if_pos (by simpa using he)] at h; cases h
theorem text_simple {v : Val} (h6 : v.kind < 6) : text v = simple v := by
  unfold text; rw [if_neg (by omega)]
theorem text_apart {v w : Val} (hk : v.kind = w.kind) (h0 : 0 ≤ v.kind) (h6 : v.kind < 6) (hv : chk v 0 = 0) (hw : chk w 0 = 0) (hbv : 0 ≤ v.bits ∧ v.bits ≤ 18446744073709551615) (hbw : 0 ≤ w.bits ∧ w.bits ≤ 18446744073709551615) :
    text v = text w → v = w := by
  intro h
  rw [text_simple h6, text_simple (by omega)] at h
  obtain ⟨hv1, hv2⟩ := chk_facts hv h6
  obtain ⟨hw1, hw2⟩ := chk_facts hw (by omega)
  have ev := emp_all hv1
  have ew := emp_all hw1
  obtain ⟨k, t, n, b, l, m⟩ := v
  obtain ⟨k', t', n', b', l', m'⟩ := w
  simp only [Val.kind, Val.text, Val.num, Val.bits, Val.list, Val.map, simple, List.length_eq_zero_iff] at *
  subst hk
  rcases (show k = 0 ∨ k = 1 ∨ k = 2 ∨ k = 3 ∨ k = 4 ∨ k = 5 by omega) with rfl | rfl | rfl | rfl | rfl | rfl <;> simp at ev ew h hv2 hw2
  · simp [ev, ew]
  · simp [ev, ew, h]
  · have : n = n' := by
      unfold truth at h
      split at h <;> split at h <;> simp at h <;> omega
    simp [ev, ew, this]
  · simp [ev, ew, decI_inj h]
  · simp [ev, ew, dbl_inj hbv hbw h]
  · simp [ev, ew, hexText_inj h]
set_option maxHeartbeats 4000000 in
theorem f_VtextApart (v w : Val) (hv : v.ok) (hw : w.ok) : OK 4 [ev v, ev w] [] (.bool true) none := by
  refine funOK_of_vc (C := cx [(5, smLeft0), (6, sm_works), (14, sm_Chk), (10, sm_Text), (12, sm_Same)])
    (good ⟨left_ok, k_works, k_Chk, k_Text, k_Same, trivial⟩) (fn := Tryd.f4) rfl rfl rfl rfl fun hww _ => ?_
  have hlv := left_size v 2000
  have hlw := left_size w 2000
  have hbv := wf_ev hww.1
  have hbw := wf_ev hww.2.1
  have hsm := same_iff v w
  repeat' (
      conv => whnf
      first
      | refine req_i ?_ ?_
      | refine when_i ?_ ?_
      | refine brn_not ?_
      | refine brn_dec (fun h => ?_) (fun h => ?_)
      | refine brn_int (fun h => ?_) (fun h => ?_)
      | refine brn_intne (fun h => ?_) (fun h => ?_)
      | refine brn_str (fun h => ?_) (fun h => ?_)
      | refine brn_i (fun h => ?_) (fun h => ?_)
      | with_reducible refine IdxK.mk _ rfl ?_
      | with_reducible refine idx_blI ?_ (fun hc => ?_)
      | with_reducible refine idx_bl ?_ (fun hc => ?_)
      | with_reducible refine idx_strI ?_ (fun hc => ?_)
      | with_reducible refine idx_str ?_ (fun hc => ?_)
      | with_reducible refine idx_mapDI ?_ ?_
      | with_reducible refine idx_mapD ?_ ?_
      | with_reducible refine idx_at ?_ (fun b hb => ?_)
      | refine ex_bl ?_
      | refine ex_b1 ?_ ?_
      | refine ex_b2 ?_ ?_ ?_
      | refine ex_b3 ?_ ?_ ?_ ?_
      | refine ex_b4 ?_ ?_ ?_ ?_ ?_
      | refine optK_setL ?_ ?_
      | refine optK_takeL ?_ ?_
      | with_reducible refine forceDs_i ?_
      )
  all_goals try (conv => whnf)
  all_goals try (refine Side.mk ?_; try dsimp only)
  all_goals (try simp only [decV_ev] at *)
  all_goals first
    | exact ⟨isV_ev _, by omega⟩
    | exact ⟨isV_ev _, by omega, by omega, by omega⟩
    | exact ⟨isV_ev _, hv, by omega⟩
    | exact ⟨isV_ev _, hw, by omega⟩
    | exact ⟨isV_ev _, isV_ev _⟩
    | skip
  all_goals first
    | (have hne : ¬ (text v == text w) = same v w := by assumption
       exfalso
       apply hne
       by_cases e : v = w
       · rw [hsm.2 e, e]; simp
       · have h1 : same v w = false := by
           cases hs : same v w with
           | true => exact absurd (hsm.1 hs) e
           | false => rfl
         rw [h1, beq_eq_false_iff_ne]
         exact fun ht => e (text_apart (by assumption) (by omega) (by omega) (by assumption) (by assumption) hbv.2.2.2.1 hbw.2.2.2.1 ht))
    | (show EndP _ _ _ _ _ _
       refine EndP.mk [] ?_ <;> (repeat' (first | trivial | rfl | exact scopedL_bl _ _ | refine And.intro ?_ ?_ | refine congrArg V.str ?_ | refine congrArg (V.int _) ?_ | refine congrArg V.bool ?_ | refine congrArg (O.buf _ _) ?_ | refine congrArg O.cells ?_ | refine congrArg (V.list _ _) ?_ | refine congrArg V.agg ?_ | refine congrArg V.tuple ?_ | refine cons_eq ?_ ?_))
       all_goals simp_all
      )
end Go.Proofs.YtgbkjecepncjoaaDoor
