/-
  The document's bytes of a field; fields side by side.
-/
import Derived.Test.YtjkbahllghofoaaPRg
set_option linter.unusedSimpArgs false
set_option linter.unusedVariables false
set_option maxHeartbeats 4000000
namespace Go.Proofs.Ytjkbahllghofoaa
open Go Go.VG
set_option maxRecDepth 100000
theorem tagB_nil {n w : Int} : tagB n w = [] ↔ ¬ mayT n w = true := by
  unfold tagB
  split
  · rename_i h
    have := tagU_lt h
    have := vput_len (u := tagU n w) (by omega)
    exact ⟨fun q => by rw [q] at this; simp at this, fun q => absurd h q⟩
  · rename_i h
    exact ⟨fun _ => h, fun _ => rfl⟩
theorem fldB_len {f : Pf} (h : 0 ≤ f.num ∧ f.num ≤ 18446744073709551615) (ht : f.text.length ≤ 18446744073709551615) : (fldB f).length ≤ 20 + f.text.length := by
  have h1 := tagB_len f.no f.wi
  have h2 := conB_len h ht
  unfold fldB
  split
  · rw [List.length_append]; omega
  · simp
theorem f_r16Text_1 (n w : Int) (hp : True) : OK 22 ([.int .i64 n, .int .i64 w]) ([]) (.str (tagB n w)) (none) := by
  refine funOK_of_vc (C := cx [(18, sm_r16May), (23, sm_r03Put)]) (good ⟨k_r16May, k_r03Put, trivial⟩) (fn := Try.f22) rfl rfl rfl rfl fun hw hs => ?_
  have h2 := @tagU_lt n w
  have h1 : mayT n w = true → IntKind.u64.wrap (IntKind.u64.wrap (8 * IntKind.u64.wrap n) + IntKind.u64.wrap w) = (tagU n w : Nat) := fun h => by
    have hb := mayT_b h
    unfold tagU
    rw [show IntKind.u64.wrap n = n by rw [wu64]; omega, show IntKind.u64.wrap w = w by rw [wu64]; omega]
    rw [show IntKind.u64.wrap (8 * n) = 8 * n by rw [wu64]; omega, wu64]; omega
  repeat' ((conv => whnf); first | with_reducible (first | refine go1 (fun j q h => ?_) fun h => ?_ | refine go2 ⟨rfl, rfl⟩ (fun h => ?_) fun j h => ?_ | refine go2 ?_ (fun h => ?_) fun j h => ?_ | refine goQ ?_ (fun h => ?_) fun h => ?_) | apply go3 | apply go4 | apply go5 | ((first | apply go6 | apply go7 | apply go8 | apply go9 | apply goA) <;> intro h) | with_reducible (first | refine IdxK.mk _ rfl ?_ | refine goB ?_ fun hc => ?_ | refine goC ?_ fun hc => ?_ | refine goD ?_ fun hc => ?_ | refine goE ?_ fun hc => ?_ | apply goF | apply goG | refine goH ?_ fun b hb => ?_) | apply goI | apply goJ | apply goK | apply goL | apply goM | apply goN | apply goO | with_reducible refine goP ?_)
  all_goals try conv => whnf
  all_goals try (refine Side.mk ?_; try dsimp only)
  all_goals first | refine stay ?_ | trivial | omega | (simp (discharger := omega) only [wR]; omega) | (simp only [lnS]; omega) | (simp (discharger := omega) [-List.getD_eq_getElem?_getD, wR] <;> omega) | skip
  all_goals first
    | (have hm : mayT n w = true := decide_eq_true (by assumption)
       rw [h1 hm]
       have h2 := h2 hm
       refine ⟨?_, ?_⟩ <;> omega)
    | (have hm : mayT n w = true := decide_eq_true (by assumption)
       rw [h1 hm, Int.toNat_natCast]
       unfold tagB
       rw [if_pos hm]
       refine EndP.mk [] ?_ <;> (repeat' first | trivial | rfl | exact eqS _ _ | apply andI | apply eqA | apply eqB | apply eqC | apply eqD | apply eqE | apply eqF | apply eqG | apply eqH | apply eqI)
       done)
    | (have hm : mayT n w = false := decide_eq_false (by assumption)
       unfold tagB
       rw [hm, if_neg Bool.false_ne_true]
       refine EndP.mk [] ?_ <;> (repeat' first | trivial | rfl | exact eqS _ _ | apply andI | apply eqA | apply eqB | apply eqC | apply eqD | apply eqE | apply eqF | apply eqG | apply eqH | apply eqI)
       done)
def sm_r16Text : Sm := fun args σ => match args, σ with
  | [.int .i64 n, .int .i64 w], [] => some (True, .str (tagB n w), none)
  | _, _ => none
theorem k_r16Text : SOK 22 sm_r16Text := by
  intro args sg pre x r he hp
  unfold sm_r16Text at he
  split at he <;> cases he
  · exact f_r16Text_1 (hp := hp) ..
theorem f_r17Text_1 (f : Pf) (hp : f.text.length ≤ 1000000000) : OK 19 ([ePf f]) ([]) (.str (fldB f)) (none) := by
  refine funOK_of_vc (C := cx [(22, sm_r16Text), (23, sm_r03Put), (24, sm_r02Low)]) (good ⟨k_r16Text, k_r03Put, k_r02Low, trivial⟩) (fn := Try.f19) rfl rfl rfl rfl fun hw hs => ?_
  have hn : 0 ≤ f.num ∧ f.num ≤ 18446744073709551615 := hw.1.2.2.1
  have ht := tagB_len f.no f.wi
  have h3 := vput_len (u := f.num.toNat) (by omega)
  have h4 := vput_len (u := f.text.length) (by omega)
  have hwt : IntKind.u64.wrap (f.text.length : Int) = f.text.length := by rw [wu64]; omega
  have hl4 := low_length 4 f.num.toNat
  have hl8 := low_length 8 f.num.toNat
  have hnil := @tagB_nil f.no f.wi
  repeat' ((conv => whnf); first | with_reducible (first | refine go1 (fun j q h => ?_) fun h => ?_ | refine go2 ⟨rfl, rfl⟩ (fun h => ?_) fun j h => ?_ | refine go2 ?_ (fun h => ?_) fun j h => ?_ | refine goQ ?_ (fun h => ?_) fun h => ?_) | apply go3 | apply go4 | apply go5 | ((first | apply go6 | apply go7 | apply go8 | apply go9 | apply goA) <;> intro h) | with_reducible (first | refine IdxK.mk _ rfl ?_ | refine goB ?_ fun hc => ?_ | refine goC ?_ fun hc => ?_ | refine goD ?_ fun hc => ?_ | refine goE ?_ fun hc => ?_ | apply goF | apply goG | refine goH ?_ fun b hb => ?_) | apply goI | apply goJ | apply goK | apply goL | apply goM | apply goN | apply goO | with_reducible refine goP ?_)
  all_goals try conv => whnf
  all_goals try (refine Side.mk ?_; try dsimp only)
  all_goals (try simp only [hwt, Int.toNat_natCast] at *)
  all_goals first | refine stay ?_ | trivial | omega | (simp (discharger := omega) only [wR]; omega) | (simp only [lnS]; omega) | (simp (discharger := omega) [-List.getD_eq_getElem?_getD, wR] <;> omega) | skip
  all_goals
    have hf : fldB f = fldB f := rfl
    conv at hf => rhs; unfold fldB conB
    first
    | (have hm : ¬ mayT f.no f.wi = true := hnil.mp (by assumption)
       rw [if_neg hm] at hf
       rw [hf]
       (refine EndP.mk [] ?_ <;> (repeat' first | trivial | rfl | exact eqS _ _ | apply andI | apply eqA | apply eqB | apply eqC | apply eqD | apply eqE | apply eqF | apply eqG | apply eqH | apply eqI))
       done)
    | (have hm : mayT f.no f.wi = true := Decidable.not_not.mp (fun q => absurd (hnil.mpr q) (by assumption))
       have hb := mayT_b hm
       rw [if_pos hm] at hf
       repeat (first | rw [if_pos (by omega)] at hf | rw [if_neg (by omega)] at hf)
       rw [hf]
       (refine EndP.mk [] ?_ <;> (repeat' first | trivial | rfl | exact eqS _ _ | apply andI | apply eqA | apply eqB | apply eqC | apply eqD | apply eqE | apply eqF | apply eqG | apply eqH | apply eqI))
       all_goals (first | done | (simp only [List.append_assoc]; done)))
def sm_r17Text : Sm := fun args σ => match args, σ with
  | [.agg [.int .i64 n_f, .int .i64 w_f, .int .u64 u_f, .str t_f]], [] => some (True ∧ ((Pf.mk n_f w_f u_f t_f).text.length ≤ 1000000000), .str (fldB (Pf.mk n_f w_f u_f t_f)), none)
  | _, _ => none
theorem k_r17Text : SOK 19 sm_r17Text := by
  intro args sg pre x r he hp
  unfold sm_r17Text at he
  split at he <;> cases he
  · rw [viewPf (hp).1]; exact f_r17Text_1 (hp := hp.2) ..
theorem take_ePf {a : List Pf} {i : Nat} (h : i < a.length) (x : V) (hx : x = ePf (a.getD i default)) : (a.take i).map ePf ++ [x] = (a.take (i + 1)).map ePf := by
  rw [List.take_add_one, List.map_append, hx, List.getD_eq_getElem?_getD, List.getElem?_eq_getElem h]
  rfl
/-- the fields' bytes, one behind the other -/
def fldsB (l : List Pf) : List UInt8 := (l.map fldB).flatten
end Go.Proofs.Ytjkbahllghofoaa
