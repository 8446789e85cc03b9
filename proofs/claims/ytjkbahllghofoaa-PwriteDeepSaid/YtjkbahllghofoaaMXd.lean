/-
  A message within messages: the law's walk.
-/
import Derived.Test.YtjkbahllghofoaaMXc
set_option linter.unusedSimpArgs false
set_option linter.unusedVariables false
set_option maxHeartbeats 4000000
namespace Go.Proofs.Ytjkbahllghofoaa
open Go Go.VG
set_option maxRecDepth 100000
def sm_bytesX (M : List V → List UInt8) : Sm := fun args σ => match args, σ with
  | [.ptr 0 0], [.cells [.buf 1, .int .i64 n], .buf 1 q l] => some (n = (psB l).length ∧ (∀ v ∈ l, OkP 100 v) ∧ l.length ≤ 1000000 ∧ (psB l).length ≤ 100000000, .str (M l), some [.cells [.buf 1, .int .i64 n], .buf 1 q l])
  | [.nilptr], [] => some (True, .str [], none)
  | _, _ => none
theorem f_bytesN : OK 6 [.nilptr] [] (.str []) none := by
  refine funOK_of_vc (C := cx []) (good trivial) (fn := Try.f6) rfl rfl rfl rfl fun hw _ => ?_
  repeat' ((conv => whnf); first | with_reducible (first | refine go1 (fun j q h => ?_) fun h => ?_ | refine go2 ⟨rfl, rfl⟩ (fun h => ?_) fun j h => ?_ | refine go2 ?_ (fun h => ?_) fun j h => ?_ | refine goQ ?_ (fun h => ?_) fun h => ?_) | apply go3 | apply go4 | apply go5 | ((first | apply go6 | apply go7 | apply go8 | apply go9 | apply goA) <;> intro h) | with_reducible (first | refine IdxK.mk _ rfl ?_ | refine call_ite (fun h => ?_) fun h => ?_ | refine goB ?_ fun hc => ?_ | refine goC ?_ fun hc => ?_ | refine goD ?_ fun hc => ?_ | refine goE ?_ fun hc => ?_ | apply goF | apply goG | refine goH ?_ fun b hb => ?_) | apply goI | apply goJ | apply goK | apply goL | apply goM | apply goN | apply goO | with_reducible refine goP ?_)
  all_goals try conv => whnf
  all_goals try (refine Side.mk ?_; try dsimp only)
  refine EndP.mk [] ?_ <;> (repeat' first | trivial | rfl | exact eqS _ _ | apply andI | apply eqA | apply eqB | apply eqC | apply eqD | apply eqE | apply eqF | apply eqG | apply eqH | apply eqI)
theorem k_bytesX {M : List V → List UInt8} (hM : ∀ l, M l = psB l) : SOK 6 (sm_bytesX M) := by
  intro args sg pre x r he hp
  unfold sm_bytesX at he
  split at he <;> cases he
  · rw [hM]
    obtain ⟨rfl, h1, h2, h3⟩ := hp
    exact f_bytesL 100 _ _ h1 h2 h3
  · exact f_bytesN
theorem psB_eFs (fs : List Pf) : psB (eFs fs) = fldsB fs := by
  induction fs with
  | nil => rw [show eFs [] = [] from rfl, psB_nil]; rfl
  | cons f fs ih => rw [show eFs (f :: fs) = .iface 58 (ePf f) :: eFs fs from rfl, psB_cons, ih, pB_fld]; rfl
theorem ok_eFs (d : Nat) {fs : List Pf} (h : ∀ f ∈ fs, f.text.length ≤ 1000000 ∧ (f.wi = 0 ∨ f.wi = 2)) : ∀ v ∈ eFs fs, OkP d v := fun v hv => by
  obtain ⟨f, hf, rfl⟩ := List.mem_map.1 hv
  exact .fld d f (h f hf).1 (h f hf).2
def w19R : List V := [.iface 58 (ePf ⟨1, 0, 150, []⟩), .iface 45 (eIn false 3 (eFs [⟨2, 2, 0, [97]⟩]) 3), .iface 45 (eIn false 4 [] 0)]
abbrev w19L : List V := [] ++ eFs (fNum 1 0 150) ++ eFs (fNum 1 0 0) ++ sb0L 3 ([] ++ eFs (fText 2 [97])) (0 + (fldsB (fText 2 [97])).length) ++ sbL 4 [] 0
theorem w19_e : w19L = w19R := rfl
theorem w19_b : psB w19R = [8, 150, 1, 26, 3, 18, 1, 97, 34, 0] := by
  unfold w19R
  rw [psB_cons, psB_cons, psB_cons, psB_nil, pB_fld, pB_sub, pB_sub, psB_eFs, psB_nil]
  decide +kernel
theorem w19_p : ∀ v ∈ w19R, OkP 100 v := by
  intro v hv
  simp only [w19R, List.mem_cons, List.not_mem_nil, or_false] at hv
  rcases hv with rfl | rfl | rfl
  · exact .fld _ _ (by decide) (by decide)
  · exact .sub 99 false 3 _ 3 (by rw [psB_eFs]; decide +kernel) (by decide) (by decide) (ok_eFs _ (by simp))
  · exact .sub 99 false 4 [] 0 (by rw [psB_nil]; rfl) (by decide) (by decide) (fun _ h => absurd h List.not_mem_nil)
theorem f_works19 {M : List V → List UInt8} (hM : ∀ P, M P = psB P) : OK 4 [] [] (.bool true) none := by
  refine funOK_of_vc (C := cx [(7, sm_mNew), (9, sm_mTextW), (12, sm_mNum), (13, sm_mSub), (8, sm_mSureS), (6, sm_bytesX M), (11, sm_mSizeW)])
    (good ⟨k_mNew, k_mTextW, k_mNum, k_mSub, k_mSureS, k_bytesX hM, k_mSizeW, trivial⟩) (fn := Try.f4) rfl rfl rfl rfl fun hw hs => ?_
  have hB := hM w19R
  rw [w19_b] at hB
  repeat' ((conv => whnf); first | with_reducible (first | refine go1 (fun j q h => ?_) fun h => ?_ | refine go2 ⟨rfl, rfl⟩ (fun h => ?_) fun j h => ?_ | refine go2 ?_ (fun h => ?_) fun j h => ?_ | refine goQ ?_ (fun h => ?_) fun h => ?_) | apply go3 | apply go4 | apply go5 | ((first | apply go6 | apply go7 | apply go8 | apply go9 | apply goA) <;> intro h) | with_reducible (first | refine IdxK.mk _ rfl ?_ | refine call_ite (fun h => ?_) fun h => ?_ | refine goB ?_ fun hc => ?_ | refine goC ?_ fun hc => ?_ | refine goD ?_ fun hc => ?_ | refine goE ?_ fun hc => ?_ | apply goF | apply goG | refine goH ?_ fun b hb => ?_) | apply goI | apply goJ | apply goK | apply goL | apply goM | apply goN | apply goO | with_reducible refine goP ?_)
  all_goals try conv => whnf
  all_goals try (refine Side.mk ?_; try dsimp only)
  · exact ⟨by decide, by decide, by decide⟩
  · exact ⟨by decide, by decide, by decide⟩
  · exact ⟨by decide +kernel, by decide, by decide⟩
  · exact ⟨by decide +kernel, by decide, by decide +kernel⟩
  · exact ⟨by decide +kernel, by decide, by decide⟩
  · refine ⟨(?_ : _ = ((psB w19R).length : Int)), w19_p, by decide, (?_ : (psB w19R).length ≤ 100000000)⟩
    · rw [w19_b]
      decide +kernel
    · rw [w19_b]
      decide
  · refine EndP.mk [] ?_ <;> (repeat' first | trivial | rfl | exact eqS _ _ | apply andI | apply eqA | apply eqB | apply eqC | apply eqD | apply eqE | apply eqF | apply eqG | apply eqH | apply eqI)
  · exact absurd hB (by assumption)
theorem f_works19x_1  (hp : True) : OK 4 ([]) ([]) (.bool true) (none) := by
  exact f_works19 (M := psB) fun _ => rfl
def sm_works19x : Sm := fun args σ => match args, σ with
  | [], [] => some (True, .bool true, none)
  | _, _ => none
theorem k_works19x : SOK 4 sm_works19x := by
  intro args sg pre x r he hp
  unfold sm_works19x at he
  split at he <;> cases he
  · exact f_works19x_1 (hp := hp) ..
/-- a message within so many others -/
def dL (t : List UInt8) : Nat → List V
  | 0 => eFs (fText 1 t)
  | k + 1 => [.iface 45 (eIn true 2 (dL t k) (psB (dL t k)).length)]
theorem dL_next (t : List UInt8) (k : Nat) : psB (dL t (k + 1)) = fldB ⟨2, 2, 0, psB (dL t k)⟩ := by
  rw [show dL t (k + 1) = [.iface 45 (eIn true 2 (dL t k) (psB (dL t k)).length)] from rfl, psB_cons, psB_nil, pB_sub, List.append_nil, Int.toNat_natCast]
  unfold fldB conB
  dsimp only
  rw [if_pos (by decide), if_neg (by decide), if_neg (by decide), if_pos rfl]
theorem fText_ok {t : List UInt8} (ht : t.length ≤ 300) : (fldsB (fText 1 t)).length ≤ 1000 ∧ ∀ f ∈ fText 1 t, f.text.length ≤ 1000000 ∧ (f.wi = 0 ∨ f.wi = 2) := by
  unfold fText fK
  split
  · exact ⟨by decide, fun _ h => absurd h List.not_mem_nil⟩
  · split
    · rw [flds_one]
      refine ⟨Nat.le_trans (fldB_len (f := ⟨1, 2, 0, t⟩) ⟨Int.le_refl 0, (by decide : (0 : Int) ≤ 18446744073709551615)⟩ (by show t.length ≤ _; omega)) (by show 20 + t.length ≤ _; omega), fun f hf => ?_⟩
      rw [List.mem_singleton] at hf
      subst hf
      exact ⟨by show t.length ≤ _; omega, .inr rfl⟩
    · exact ⟨by decide, fun _ h => absurd h List.not_mem_nil⟩
theorem dL_len {t : List UInt8} (ht : t.length ≤ 300) : ∀ k, (psB (dL t k)).length ≤ 1000 + 20 * k ∨ 100000 ≤ k
  | 0 => .inl (by rw [show dL t 0 = eFs (fText 1 t) from rfl, psB_eFs]; exact (fText_ok ht).1)
  | k + 1 => by
    rcases dL_len ht k with h | h
    · by_cases hk : 100000 ≤ k + 1
      · exact .inr hk
      · left
        rw [dL_next]
        have := fldB_len (f := ⟨2, 2, 0, psB (dL t k)⟩) ⟨Int.le_refl 0, (by decide : (0 : Int) ≤ 18446744073709551615)⟩ (by show (psB (dL t k)).length ≤ _; omega)
        have e : (Pf.mk 2 2 0 (psB (dL t k))).text.length = (psB (dL t k)).length := rfl
        rw [e] at this
        omega
    · exact .inr (by omega)
theorem dL_ok {t : List UInt8} (ht : t.length ≤ 300) : ∀ k d, k ≤ d → d ≤ 1000 → ∀ v ∈ dL t k, OkP d v
  | 0, d, _, _ => ok_eFs d (fText_ok ht).2
  | k + 1, d, hk, hd => by
    obtain ⟨e, rfl⟩ : ∃ e, d = e + 1 := ⟨d - 1, by omega⟩
    intro v hv
    rw [show dL t (k + 1) = [.iface 45 (eIn true 2 (dL t k) (psB (dL t k)).length)] from rfl, List.mem_singleton] at hv
    subst hv
    have := dL_len ht k
    refine .sub e true 2 (dL t k) _ rfl (by omega) ?_ (dL_ok ht k e (by omega) (by omega))
    cases k with
    | zero =>
      rw [show dL t 0 = eFs (fText 1 t) from rfl]
      unfold eFs fText fK
      repeat' split
      all_goals simp
    | succ k => exact Nat.le_trans (Nat.le_of_eq rfl) (by decide : 1 ≤ 1000000)
theorem dL_n (t : List UInt8) (k : Nat) : (dL t k).length ≤ 1 := by
  cases k with
  | zero =>
    rw [show dL t 0 = eFs (fText 1 t) from rfl]
    unfold eFs fText fK
    repeat' split
    all_goals simp
  | succ k => exact Nat.le_refl 1
def sm_subX : Sm := fun args σ => match args, σ with
  | [.ptr 0 0, .int .i64 no, .ptr 1 0], [.cells [.buf 2, .int .i64 n], .cells [.buf 3, .int .i64 m], .buf 1 0 L, .buf 1 q l] => some (SOk n L m ∧ mayT no 2 = true, .tuple [], some [.cells [.buf 2, .int .i64 (n + ((tagB no 2).length + (vput m.toNat).length + m.toNat : Nat))], .cells [.buf 3, .int .i64 m], .buf 1 0 (L ++ [.iface 45 (eIn true no l m)]), .buf 1 l.length l])
  | _, _ => none
theorem k_subX : SOK 8 sm_subX := by
  intro args sg pre x r he hp
  unfold sm_subX at he
  split at he <;> cases he
  exact f_sureSubD _ _ _ _ _ _ hp.1 hp.2
theorem f_lDeep (t : List UInt8) (n : Int) : OK 3 [.str t, .int .u8 n] [] (.bool true) none := by
  refine funOK_of_vc (C := cx [(4, sm_works19x), (5, sm_l19ofX), (6, sm_bytesX psB), (7, sm_mNew), (8, sm_subX), (9, sm_lText), (10, sm_r19Added), (11, sm_mSizeW)])
    (good ⟨k_works19x, k_l19ofX, k_bytesX fun _ => rfl, k_mNew, k_subX, k_lText, k_r19Added, k_mSizeW, trivial⟩) (fn := Try.f3) rfl rfl rfl rfl fun hw hs => ?_
  have hn : 0 ≤ n ∧ n ≤ 255 := hw.2.1
  repeat' ((conv => whnf); first | with_reducible (first | refine go1 (fun j q h => ?_) fun h => ?_ | refine go2 ⟨rfl, rfl⟩ (fun h => ?_) fun j h => ?_ | refine go2 ?_ (fun h => ?_) fun j h => ?_ | refine goQ ?_ (fun h => ?_) fun h => ?_) | apply go3 | apply go4 | apply go5 | ((first | apply go6 | apply go7 | apply go8 | apply go9 | apply goA) <;> intro h) | with_reducible (first | refine IdxK.mk _ rfl ?_ | refine call_ite (fun h => ?_) fun h => ?_ | refine goB ?_ fun hc => ?_ | refine goC ?_ fun hc => ?_ | refine goD ?_ fun hc => ?_ | refine goE ?_ fun hc => ?_ | apply goF | apply goG | refine goH ?_ fun b hb => ?_) | apply goI | apply goJ | apply goK | apply goL | apply goM | apply goN | apply goO | with_reducible refine goP ?_)
  all_goals try conv => whnf
  all_goals try (refine Side.mk ?_; try dsimp only)
  all_goals (try simp only [Cu_eta] at *)
  all_goals first | refine stay ?_ | trivial | omega | (simp (discharger := omega) only [wR]; omega) | (simp only [lnS]; omega) | (simp (discharger := omega) [-List.getD_eq_getElem?_getD, wR] <;> omega) | skip
  · refine EndP.mk [] ?_ <;> (repeat' first | trivial | rfl | exact eqS _ _ | apply andI | apply eqA | apply eqB | apply eqC | apply eqD | apply eqE | apply eqF | apply eqG | apply eqH | apply eqI)
  · have h := fText_ok (t := t) (by omega)
    exact ⟨by rw [psB_eFs], ok_eFs 100 h.2, Nat.le_trans (dL_n t 0) (by decide), by rw [psB_eFs]; have := h.1; omega⟩
  have ht : t.length ≤ 300 := by omega
  refine LoopP.mk Nat (fun i => i ≤ 40) (fun i => ⟨52, [(0, .str t), (1, .int .u8 n), (5, .ptr 0 0), (6, .str (psB (dL t i))), (7, .int .i64 i)], [.cells [.buf 1, .int .i64 (psB (dL t i)).length], .buf 1 0 (dL t i)], [0, 1, 2, 3]⟩) (fun i => 40 - i) [] 0 (Nat.zero_le _) ?_ (fun i hi _ _ => ?_)
  · refine Go.VG.Sub.mk rfl ?_ ?_ ?_ ?_ <;> (repeat' first | trivial | rfl | exact eqS _ _ | apply andI | apply eqA | apply eqB | apply eqC | apply eqD | apply eqE | apply eqF | apply eqG | apply eqH | apply eqI)
    rw [show dL t 0 = eFs (fText 1 t) from rfl, psB_eFs]
  have hl := dL_len ht i
  have hok := dL_ok ht i 100 (by omega) (by decide)
  have hok1 := fun h => dL_ok ht (i + 1) 100 h (by decide)
  have hln := dL_n t i
  have hnx := dL_next t i
  have hB : psB ([] ++ [.iface 45 (eIn true 2 (dL t i) (psB (dL t i)).length)]) = fldB ⟨2, 2, 0, psB (dL t i)⟩ := hnx
  have hT : psB (dL t (i + 1)) = tagB 2 2 ++ (vput (psB (dL t i)).length ++ psB (dL t i)) := by
    rw [show dL t (i + 1) = [.iface 45 (eIn true 2 (dL t i) (psB (dL t i)).length)] from rfl, psB_cons, psB_nil, pB_sub, List.append_nil, Int.toNat_natCast]
  have hz : 0 + (((tagB 2 2).length + (vput ((psB (dL t i)).length : Int).toNat).length + ((psB (dL t i)).length : Int).toNat : Nat) : Int) = (fldB ⟨2, 2, 0, psB (dL t i)⟩).length := by
    rw [← hnx, hT, List.length_append, List.length_append, Int.toNat_natCast]; omega
  have hl2 : (fldB ⟨2, 2, 0, psB (dL t i)⟩).length ≤ 3000 := by
    have := fldB_len (f := ⟨2, 2, 0, psB (dL t i)⟩) ⟨Int.le_refl 0, (by decide : (0 : Int) ≤ 18446744073709551615)⟩ (by show (psB (dL t i)).length ≤ _; omega)
    have e : (Pf.mk 2 2 0 (psB (dL t i))).text.length = (psB (dL t i)).length := rfl
    rw [e] at this
    omega
  have hmod : IntKind.i64.wrap (n.tmod 40) ≤ 39 := by
    have : n.tmod 40 = n % 40 := Int.tmod_eq_emod_of_nonneg hn.1
    rw [this, wi64]; omega
  repeat' ((conv => whnf); first | with_reducible (first | refine go1 (fun j q h => ?_) fun h => ?_ | refine go2 ⟨rfl, rfl⟩ (fun h => ?_) fun j h => ?_ | refine go2 ?_ (fun h => ?_) fun j h => ?_ | refine goQ ?_ (fun h => ?_) fun h => ?_) | apply go3 | apply go4 | apply go5 | ((first | apply go6 | apply go7 | apply go8 | apply go9 | apply goA) <;> intro h) | with_reducible (first | refine IdxK.mk _ rfl ?_ | refine call_ite (fun h => ?_) fun h => ?_ | refine goB ?_ fun hc => ?_ | refine goC ?_ fun hc => ?_ | refine goD ?_ fun hc => ?_ | refine goE ?_ fun hc => ?_ | apply goF | apply goG | refine goH ?_ fun b hb => ?_) | apply goI | apply goJ | apply goK | apply goL | apply goM | apply goN | apply goO | with_reducible refine goP ?_)
  all_goals try conv => whnf
  all_goals try (refine Side.mk ?_; try dsimp only)
  all_goals (try simp only [Cu_eta] at *)
  all_goals first | refine stay ?_ | trivial | omega | (simp (discharger := omega) only [wR]; omega) | (simp only [lnS]; omega) | (simp (discharger := omega) [-List.getD_eq_getElem?_getD, wR] <;> omega) | skip
  · exact ⟨⟨by decide, by decide, by omega⟩, by decide⟩
  · exact ⟨by omega, by omega, by decide⟩
  · exact ⟨hz.trans (by rw [hB]), hok1 (by omega), by simp, by rw [hB]; omega⟩
  · refine ⟨[.swap 0 2, .swap 1 3], i + 1, by omega, ?_, by omega⟩
    rw [hnx]
    refine Go.VG.Sub.mk rfl ?_ ?_ ?_ ?_ <;> (repeat' first | trivial | rfl | exact eqS _ _ | apply andI | apply eqA | apply eqB | apply eqC | apply eqD | apply eqE | apply eqF | apply eqG | apply eqH | apply eqI)
    all_goals first
      | (rw [wi64]; omega)
      | exact hz
      | skip
  · exact absurd hz (by assumption)
  · exact absurd hB (by assumption)
  · exact ⟨by first | trivial | rfl, hok, by omega, by omega⟩
  · refine EndP.mk [] ?_ <;> (repeat' first | trivial | rfl | exact eqS _ _ | apply andI | apply eqA | apply eqB | apply eqC | apply eqD | apply eqE | apply eqF | apply eqG | apply eqH | apply eqI)
  · exact absurd rfl (by assumption)
end Go.Proofs.Ytjkbahllghofoaa
