/-
  All fields of a text: what the program reads.
-/
import Derived.Test.YtkkfdkfopdjomaaDoorPRb
set_option linter.unusedSimpArgs false
set_option linter.unusedVariables false
set_option maxHeartbeats 4000000
namespace Go.Proofs.YtkkfdkfopdjomaaDoor
open Go Go.VG
set_option maxRecDepth 100000
theorem pass_adv (c : Cu) (n : Int) : c.p ≤ (c.pass n).p := by
  unfold Cu.pass
  repeat' split
  all_goals (first | exact Nat.le_refl _ | (dsimp only; omega))
theorem fail_p (c : Cu) (k : Int) : (c.fail k).p = c.p := by unfold Cu.fail; split <;> rfl
theorem vr_adv : ∀ (j i u : Nat) (c : Cu), c.p ≤ (vrGo j i u c).2.p
  | 0, i, u, c => by rw [vrGo]; exact Nat.le_of_eq (fail_p c 4).symm
  | j + 1, i, u, c => by
    have hb := pass_adv c 1
    rw [vrGo]
    split
    · exact hb
    · split
      · show c.p ≤ (c.byte.fail 4).p
        rw [fail_p]; exact hb
      · split
        · exact hb
        · exact Nat.le_trans hb (vr_adv j _ _ c.byte)
theorem vread_adv {c : Cu} (h : c.vread.2.c = 0) : c.p < c.vread.2.p := by
  have h1 : c.vread = vrGo 10 0 0 c := rfl
  rw [vrGo] at h1
  have hb : c.byte.c = 0 → c.byte.p = c.p + 1 := fun hb => by
    unfold Cu.byte Cu.pass at hb ⊢
    split
    · rename_i q; rw [if_pos q] at hb; exact absurd hb q
    · rename_i q
      rw [if_neg q] at hb
      split
      · rename_i q2; rw [if_pos q2] at hb; cases hb
      · rename_i q2
        rw [if_neg q2] at hb
        split
        · rename_i q3; rw [if_pos q3] at hb; cases hb
        · rfl
  rw [h1] at h ⊢
  split at h
  · rename_i q; exact absurd h q
  · rename_i q
    rw [if_neg q]
    have hb := hb (by simpa using q)
    split at h
    · rename_i q2; rw [if_pos q2]; show c.p < (c.byte.fail 4).p; rw [fail_p]; omega
    · rename_i q2
      rw [if_neg q2]
      split at h
      · rename_i q3; rw [if_pos q3]; show c.p < c.byte.p; omega
      · rename_i q3
        rw [if_neg q3]
        have := vr_adv 9 (0 + 1) (0 + (c.byteV.toNat - 128) * 2 ^ (7 * 0)) c.byte
        omega
theorem text_adv (c : Cu) : c.p ≤ c.text.2.p := by
  have hv := vr_adv 10 0 0 c
  have hq := pass_adv c.vread.2 c.vread.1
  unfold Cu.text
  dsimp only
  split
  · rw [fail_p]; exact hv
  · exact Nat.le_trans hv hq
theorem nxC_adv (f : Pf) (c : Cu) : c.p ≤ (nxC f c).p := by
  unfold nxC
  repeat' split
  · exact vr_adv 10 0 0 c
  · exact pass_adv c 8
  · exact pass_adv c 4
  · exact text_adv c
  · exact Nat.le_refl _
theorem nxC_err {c : Cu} (h : ¬ c.c = 0) (f : Pf) : nxC f c = c := by
  unfold nxC
  repeat' split
  · rw [vr_err h]
  · exact pass_err h 8
  · exact pass_err h 4
  · unfold Cu.text
    rw [vr_err h]
    dsimp only
    rw [if_neg (fun q => h q.1)]
    exact pass_err h _
  · rfl
theorem nxt_adv {c : Cu} (h : c.nxtC.c = 0) : c.p < c.nxtC.p := by
  have h1 : c.tag.2.c = 0 := by
    rcases Decidable.em (c.tag.2.c = 0) with q | q
    · exact q
    · unfold Cu.nxtC at h; rw [nxC_err q] at h; exact absurd h q
  have h2 : c.vread.2.c = 0 := by
    unfold Cu.tag at h1
    split at h1
    · rename_i q; exact absurd h1 q
    · rename_i q; simpa using q
  have h3 : c.vread.2.p ≤ c.tag.2.p := by
    unfold Cu.tag
    repeat' split
    · exact Nat.le_refl _
    · exact Nat.le_refl _
    · exact Nat.le_of_eq (fail_p _ 14).symm
  have := vread_adv h2
  have := nxC_adv ⟨c.tag.1.1, c.tag.1.2, 0, []⟩ c.tag.2
  unfold Cu.nxtC
  omega
def eachGo : Nat → Cu → List Pf → Cu × List Pf
  | 0, c, acc => (c, acc)
  | n + 1, c, acc => if c.c = 0 ∧ c.left > 0 then (if c.nxtC.c ≠ 0 then (c.nxtC, acc) else eachGo n c.nxtC (acc ++ [c.nxt])) else (c, acc)
def Cu.all (c : Cu) (acc : List Pf) : Cu × List Pf := eachGo (c.e - c.p) c acc
def yP : YT := fun args sg kl => match args, sg, memN 1 kl with
  | [.agg [.int .i64 n, .int .i64 w, .int .u64 u, .str t]], [.cells [.str s, .int .i64 a, .int .i64 b, .int .i64 c], .cells [.buf 3], .cells [.ptr 0 0], .buf 4 0 l, .cells [.int .i64 n2, .int .i64 w2, .int .u64 u2, .str t2]], false =>
    some (l.length ≤ 2000000000, .bool true, [.cells [.str s, .int .i64 a, .int .i64 b, .int .i64 c], .cells [.buf 3], .cells [.ptr 0 0], .buf 4 0 (l ++ [.agg [.int .i64 n, .int .i64 w, .int .u64 u, .str t]]), .cells [.int .i64 n2, .int .i64 w2, .int .u64 u2, .str t2]], [3])
  | _, _, _ => none
theorem f_pEach_1 (c : Cu) (hp : True) : OK 48 ([.ptr 0 0]) ([.cells (eC c)]) (.func (.func 57) [] [.ptr 1 0]) (some [.cells (eC c), .cells [.ptr 0 0]]) := by
  refine funOK_of_vc (C := cx []) (good trivial) (fn := Tryd.f48) rfl rfl rfl rfl fun hw hs => ?_
  repeat' ((conv => whnf); first | with_reducible (first | refine go1 (fun j q h => ?_) fun h => ?_ | refine go2 ⟨rfl, rfl⟩ (fun h => ?_) fun j h => ?_ | refine go2 ?_ (fun h => ?_) fun j h => ?_ | refine goQ ?_ (fun h => ?_) fun h => ?_) | apply go3 | apply go4 | apply go5 | ((first | apply go6 | apply go7 | apply go8 | apply go9 | apply goA) <;> intro h) | with_reducible (first | refine IdxK.mk _ rfl ?_ | refine goB ?_ fun hc => ?_ | refine goC ?_ fun hc => ?_ | refine goD ?_ fun hc => ?_ | refine goE ?_ fun hc => ?_ | apply goF | apply goG | refine goH ?_ fun b hb => ?_) | apply goI | apply goJ | apply goK | apply goL | apply goM | apply goN | apply goO | with_reducible refine goP ?_)
  all_goals try conv => whnf
  all_goals try (refine Side.mk ?_; try dsimp only)
  all_goals (try simp only [Cu_eta] at *)
  all_goals first | refine stay ?_ | trivial | omega | (simp (discharger := omega) only [wR]; omega) | (simp only [lnS]; omega) | (simp (discharger := omega) [-List.getD_eq_getElem?_getD, wR] <;> omega) | skip
  refine EndP.mk [] ?_ <;> (repeat' first | trivial | rfl | exact eqS _ _ | apply andI | apply eqA | apply eqB | apply eqC | apply eqD | apply eqE | apply eqF | apply eqG | apply eqH | apply eqI)
def sm_pEach : Sm := fun args σ => match args, σ with
  | [.ptr 0 0], [.cells ([.str s_c, .int .i64 (.ofNat a_c), .int .i64 (.ofNat e_c), .int .i64 c_c])] => some (True ∧ (True), .func (.func 57) [] [.ptr 1 0], some [.cells (eC (Cu.mk s_c a_c e_c c_c)), .cells [.ptr 0 0]])
  | _, _ => none
theorem k_pEach : SOK 48 sm_pEach := by
  intro args sg pre x r he hp
  unfold sm_pEach at he
  split at he <;> cases he
  · rw [viewC (hp).1]; exact f_pEach_1 (hp := hp.2) ..
theorem seq_each (c : Cu) (hc : c.ok) (hl : c.s.length ≤ 1000000000) : SeqOK (cx []) 57 [.ptr 2 0] [.cells (eC c), .cells [.buf 3], .cells [.ptr 0 0], .buf 4 0 []] yP
    [.cells (eC (c.all []).1), .cells [.buf 3], .cells [.ptr 0 0], .buf 4 0 ((c.all []).2.map ePf)] [3] := by
  refine seqOK_of_vc (C := cx []) (Γ := fun f => lkS [(49, sm_cErr), (58, sm_cLeft), (59, sm_pNext)] f) (fun l => goody ⟨k_cErr, k_cLeft, k_pNext, trivial⟩) (fn := Tryd.f57) rfl rfl rfl rfl rfl fun l hw hs => ?_
  repeat' ((conv => whnf); first | with_reducible (first | refine go1 (fun j q h => ?_) fun h => ?_ | refine go2 ⟨rfl, rfl⟩ (fun h => ?_) fun j h => ?_ | refine go2 ?_ (fun h => ?_) fun j h => ?_ | refine goQ ?_ (fun h => ?_) fun h => ?_) | apply go3 | apply go4 | apply go5 | ((first | apply go6 | apply go7 | apply go8 | apply go9 | apply goA) <;> intro h) | with_reducible (first | refine IdxK.mk _ rfl ?_ | refine goB ?_ fun hc => ?_ | refine goC ?_ fun hc => ?_ | refine goD ?_ fun hc => ?_ | refine goE ?_ fun hc => ?_ | apply goF | apply goG | refine goH ?_ fun b hb => ?_) | apply goI | apply goJ | apply goK | apply goL | apply goM | apply goN | apply goO | with_reducible refine goP ?_)
  all_goals try conv => whnf
  all_goals try (refine Side.mk ?_; try dsimp only)
  refine LoopP.mk (Nat × Cu × List Pf) (fun (n, d, acc) => d.ok ∧ d.s = c.s ∧ d.e - d.p ≤ n ∧ acc.length ≤ d.p ∧ eachGo n d acc = c.all []) (fun (n, d, acc) => ⟨23, [(0, .func (.yield l) [] []), (1, .ptr 2 0)], [.cells (eC d), .cells [.buf 3], .cells [.ptr 0 0], .buf 4 0 (acc.map ePf)], [3]⟩) (fun x => x.1) [] (c.e - c.p, c, []) ⟨hc, rfl, Nat.le_refl _, Nat.zero_le _, rfl⟩ ?_ (fun ⟨n, d, acc⟩ ⟨h1, h2, h3, h4, h5⟩ _ _ => ?_)
  · refine Go.VG.Sub.mk rfl ?_ ?_ ?_ ?_ <;> (repeat' first | trivial | rfl | exact eqS _ _ | apply andI | apply eqA | apply eqB | apply eqC | apply eqD | apply eqE | apply eqF | apply eqG | apply eqH | apply eqI)
  have hdl : d.s.length ≤ 1000000000 := by rw [h2]; exact hl
  have hno := nxt_ok h1
  have hp1 := h1.1
  have hp2 := h1.2
  have hlf : d.left = (d.e : Int) - d.p := rfl
  repeat' ((conv => whnf); first | with_reducible (first | refine go1 (fun j q h => ?_) fun h => ?_ | refine go2 ⟨rfl, rfl⟩ (fun h => ?_) fun j h => ?_ | refine go2 ?_ (fun h => ?_) fun j h => ?_ | refine goQ ?_ (fun h => ?_) fun h => ?_) | apply go3 | apply go4 | apply go5 | ((first | apply go6 | apply go7 | apply go8 | apply go9 | apply goA) <;> intro h) | with_reducible (first | refine IdxK.mk _ rfl ?_ | refine goB ?_ fun hc => ?_ | refine goC ?_ fun hc => ?_ | refine goD ?_ fun hc => ?_ | refine goE ?_ fun hc => ?_ | apply goF | apply goG | refine goH ?_ fun b hb => ?_) | apply goI | apply goJ | apply goK | apply goL | apply goM | apply goN | apply goO | with_reducible refine goP ?_)
  all_goals try conv => whnf
  all_goals try (refine Side.mk ?_; try dsimp only)
  all_goals (try simp only [Cu_eta] at *)
  all_goals first | refine stay ?_ | trivial | omega | (simp (discharger := omega) only [wR]; omega) | (simp only [lnS]; omega) | (simp (discharger := omega) [-List.getD_eq_getElem?_getD, wR] <;> omega) | skip
  · exact ⟨trivial, h1, by omega⟩
  · have h0 : d.c = 0 := by assumption
    have hl0 : d.left > 0 := by assumption
    obtain ⟨m, rfl⟩ : ∃ m, n = m + 1 := ⟨n - 1, by omega⟩
    have hn0 : d.nxtC.c = 0 := by assumption
    have hadv := nxt_adv hn0
    rw [eachGo, if_pos ⟨h0, hl0⟩, if_neg (by omega)] at h5
    refine ⟨[], (m, d.nxtC, acc ++ [d.nxt]), ⟨hno.1, hno.2.1.trans h2, by show d.nxtC.e - d.nxtC.p ≤ m; rw [hno.2.2]; omega, by show (acc ++ [d.nxt]).length ≤ d.nxtC.p; rw [List.length_append, List.length_singleton]; omega, h5⟩, ?_, by show m < m + 1; omega⟩
    refine Go.VG.Sub.mk rfl ?_ ?_ ?_ ?_ <;> (repeat' first | trivial | rfl | exact eqS _ _ | apply andI | apply eqA | apply eqB | apply eqC | apply eqD | apply eqE | apply eqF | apply eqG | apply eqH | apply eqI)
    simp
  · have h0 : d.c = 0 := by assumption
    have hl0 : d.left > 0 := by assumption
    obtain ⟨m, rfl⟩ : ∃ m, n = m + 1 := ⟨n - 1, by omega⟩
    rw [eachGo, if_pos ⟨h0, hl0⟩, if_pos (by assumption)] at h5
    rw [← h5]
    refine EndP.mk [] ?_ <;> (repeat' first | trivial | rfl | exact eqS _ _ | apply andI | apply eqA | apply eqB | apply eqC | apply eqD | apply eqE | apply eqF | apply eqG | apply eqH | apply eqI)
  · have h0 : ¬ (d.c = 0 ∧ d.left > 0) := fun q => absurd q.2 (by assumption)
    have h6 : eachGo n d acc = (d, acc) := by
      cases n with
      | zero => rfl
      | succ m => rw [eachGo, if_neg h0]
    rw [← h5, h6]
    refine EndP.mk [] ?_ <;> (repeat' first | trivial | rfl | exact eqS _ _ | apply andI | apply eqA | apply eqB | apply eqC | apply eqD | apply eqE | apply eqF | apply eqG | apply eqH | apply eqI)
  · have h0 : ¬ (d.c = 0 ∧ d.left > 0) := fun q => absurd q.1 (by assumption)
    have h6 : eachGo n d acc = (d, acc) := by
      cases n with
      | zero => rfl
      | succ m => rw [eachGo, if_neg h0]
    rw [← h5, h6]
    refine EndP.mk [] ?_ <;> (repeat' first | trivial | rfl | exact eqS _ _ | apply andI | apply eqA | apply eqB | apply eqC | apply eqD | apply eqE | apply eqF | apply eqG | apply eqH | apply eqI)
def aFine (s : List UInt8) : Int := ((Cu.new s).all []).1.c
def aFds (s : List UInt8) : List Pf := if aFine s = 0 then ((Cu.new s).all []).2 else []
theorem f_pAll_1 (s : List UInt8) (hp : s.length ≤ 1000000000) : OK 31 ([.str s]) ([]) (.tuple [.buf 0, .int .i64 (aFine s)]) (some [.buf 4 0 ((aFds s).map ePf)]) := by
  refine funOK_of_vc (C := cx [(47, sm_cNew), (48, sm_pEach), (49, sm_cErr)]) (good ⟨k_cNew, k_pEach, k_cErr, trivial⟩) (fn := Tryd.f31) rfl rfl rfl rfl fun hw hs => ?_
  have hnew : (Cu.new s).ok := ⟨Nat.zero_le _, Nat.le_refl _⟩
  have hseq := seq_each (.new s) hnew hp
  repeat' ((conv => whnf); first | with_reducible (first | refine go1 (fun j q h => ?_) fun h => ?_ | refine go2 ⟨rfl, rfl⟩ (fun h => ?_) fun j h => ?_ | refine go2 ?_ (fun h => ?_) fun j h => ?_ | refine goQ ?_ (fun h => ?_) fun h => ?_) | apply go3 | apply go4 | apply go5 | ((first | apply go6 | apply go7 | apply go8 | apply go9 | apply goA) <;> intro h) | with_reducible (first | refine IdxK.mk _ rfl ?_ | refine goB ?_ fun hc => ?_ | refine goC ?_ fun hc => ?_ | refine goD ?_ fun hc => ?_ | refine goE ?_ fun hc => ?_ | apply goF | apply goG | refine goH ?_ fun b hb => ?_) | apply goI | apply goJ | apply goK | apply goL | apply goM | apply goN | apply goO | with_reducible refine goP ?_)
  all_goals try conv => whnf
  all_goals try (refine Side.mk ?_; try dsimp only)
  · exact ⟨trivial, trivial⟩
  refine RangeP.mk [.cell 1 0 4] 57 [.ptr 2 0] yP [(5, .ptr 1 0)] [(4, .ptr 0 0), (5, .ptr 1 0), (2, .list true 0 []), (3, .int .i64 0)] _ [3] rfl rfl rfl hseq (fun args s' pre y sg' ks' hy hpre hwa hws => ?_) ⟨?_, ?_⟩
  · unfold yP at hy
    split at hy
    · rename_i e1 e2
      cases hy
      obtain ⟨nt', tm', sg', kl'⟩ := s'
      dsimp only at e1 e2 hws ⊢
      subst e1
      refine ⟨rfl, rfl, ⟨⟨rfl, ?_⟩, trivial⟩, ?_⟩
      · simp [V.kill, e2]
      repeat' ((conv => whnf); first | with_reducible (first | refine go1 (fun j q h => ?_) fun h => ?_ | refine go2 ⟨rfl, rfl⟩ (fun h => ?_) fun j h => ?_ | refine go2 ?_ (fun h => ?_) fun j h => ?_ | refine goQ ?_ (fun h => ?_) fun h => ?_) | apply go3 | apply go4 | apply go5 | ((first | apply go6 | apply go7 | apply go8 | apply go9 | apply goA) <;> intro h) | with_reducible (first | refine IdxK.mk _ rfl ?_ | refine goB ?_ fun hc => ?_ | refine goC ?_ fun hc => ?_ | refine goD ?_ fun hc => ?_ | refine goE ?_ fun hc => ?_ | apply goF | apply goG | refine goH ?_ fun b hb => ?_) | apply goI | apply goJ | apply goK | apply goL | apply goM | apply goN | apply goO | with_reducible refine goP ?_)
      all_goals try conv => whnf
      all_goals try (refine Side.mk ?_; try dsimp only)
      all_goals (try simp only [Cu_eta] at *)
      all_goals first | refine stay ?_ | trivial | omega | (simp (discharger := omega) only [wR]; omega) | (simp only [lnS]; omega) | (simp (discharger := omega) [-List.getD_eq_getElem?_getD, wR] <;> omega) | skip
      refine ⟨[], ⟨⟨rfl, rfl⟩, ⟨rfl, rfl⟩, ⟨rfl, rfl⟩, ⟨rfl, rfl⟩, ⟨rfl, rfl⟩, trivial⟩, rfl, Nat.le_refl 5⟩
    · cases hy
  · exact ⟨⟨rfl, rfl⟩, ⟨rfl, rfl⟩, ⟨rfl, rfl⟩, ⟨rfl, rfl⟩, trivial⟩
  repeat' ((conv => whnf); first | with_reducible (first | refine go1 (fun j q h => ?_) fun h => ?_ | refine go2 ⟨rfl, rfl⟩ (fun h => ?_) fun j h => ?_ | refine go2 ?_ (fun h => ?_) fun j h => ?_ | refine goQ ?_ (fun h => ?_) fun h => ?_) | apply go3 | apply go4 | apply go5 | ((first | apply go6 | apply go7 | apply go8 | apply go9 | apply goA) <;> intro h) | with_reducible (first | refine IdxK.mk _ rfl ?_ | refine goB ?_ fun hc => ?_ | refine goC ?_ fun hc => ?_ | refine goD ?_ fun hc => ?_ | refine goE ?_ fun hc => ?_ | apply goF | apply goG | refine goH ?_ fun b hb => ?_) | apply goI | apply goJ | apply goK | apply goL | apply goM | apply goN | apply goO | with_reducible refine goP ?_)
  all_goals try conv => whnf
  all_goals try (refine Side.mk ?_; try dsimp only)
  all_goals (try exact ⟨trivial, trivial⟩)
  all_goals
    show EndP _ _ _ _ _ _
    have hfa : aFine s = ((Cu.new s).all []).1.c := rfl
    have hff : aFds s = if aFine s = 0 then ((Cu.new s).all []).2 else [] := rfl
    first
    | (rw [if_pos (by assumption)] at hff
       have h0 : aFine s = 0 := by assumption
       rw [hff, h0]
       (refine EndP.mk [.swap 0 3] ?_ <;> (repeat' first | trivial | rfl | exact eqS _ _ | apply andI | apply eqA | apply eqB | apply eqC | apply eqD | apply eqE | apply eqF | apply eqG | apply eqH | apply eqI))
       done)
    | (rw [if_neg (by assumption)] at hff
       rw [hff, hfa]
       (refine EndP.mk [.tm 2 4, .swap 0 4] ?_ <;> (repeat' first | trivial | rfl | exact eqS _ _ | apply andI | apply eqA | apply eqB | apply eqC | apply eqD | apply eqE | apply eqF | apply eqG | apply eqH | apply eqI))
       done)
def sm_pAll : Sm := fun args σ => match args, σ with
  | [.str s], [] => some (s.length ≤ 1000000000, .tuple [.buf 0, .int .i64 (aFine s)], some [.buf 4 0 ((aFds s).map ePf)])
  | _, _ => none
theorem k_pAll : SOK 31 sm_pAll := by
  intro args sg pre x r he hp
  unfold sm_pAll at he
  split at he <;> cases he
  · exact f_pAll_1 (hp := hp) ..
end Go.Proofs.YtkkfdkfopdjomaaDoor
