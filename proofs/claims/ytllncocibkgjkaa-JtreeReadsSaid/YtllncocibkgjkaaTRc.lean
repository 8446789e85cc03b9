/-
  A tree of JSON: the reader's small functions.
-/
import Derived.Test.YtllncocibkgjkaaTRa
import Derived.Test.YtllncocibkgjkaaJTw
set_option linter.unusedSimpArgs false
set_option linter.unusedVariables false
set_option maxHeartbeats 4000000
namespace Go.Proofs.Ytllncocibkgjkaa
open Go Go.VG
set_option maxRecDepth 100000
theorem axr (c : Cu) : (c.next.1.c ≠ 0 ∧ c.tkE = c.next.1.c) ∨ (c.next.1.c = 0 ∧ c.next.2.k.toNat = 0 ∧ c.tkE = 1) ∨ (c.next.1.c = 0 ∧ c.next.2.k.toNat ≠ 0 ∧ c.tkE = 0) := by
  unfold Cu.tkE
  by_cases h : c.next.1.c ≠ 0
  · rw [if_pos h]; exact .inl ⟨h, rfl⟩
  · rw [if_neg h]
    have h0 : c.next.1.c = 0 := by omega
    by_cases h2 : c.next.2.k = 0
    · rw [if_pos h2]; exact .inr (.inl ⟨h0, by rw [h2]; rfl, rfl⟩)
    · rw [if_neg h2]; exact .inr (.inr ⟨h0, fun q => h2 (UInt8.toNat_inj.1 q), rfl⟩)
theorem a3h (c : Cu) (l : List V) (hp : c.ok ∧ c.s.length ≤ 10000000) (hc : ¬ (c.tkE ≠ 0)) : OK 57 ([.ptr 0 0]) ([.cells [.ptr 1 0, .buf 2], .cells (eC c), .buf 4 0 l]) (.agg (eT c.next.2)) (some [.cells [.ptr 1 0, .buf 2], .cells (eC c.next.1), .buf 4 0 l]) := by
  refine aa0 (C := cx [(18, ag8), (21, af2)]) (abh ⟨alb, ak2, trivial⟩) (fn := Try.f57) rfl rfl rfl rfl fun hw hs => ?_
  have ht := axr c
  repeat' ((conv => whnf); first | with_reducible (first | refine go1 (fun j q h => ?_) fun h => ?_ | refine go2 ⟨rfl, rfl⟩ (fun h => ?_) fun j h => ?_ | refine go2 ?_ (fun h => ?_) fun j h => ?_ | refine goQ ?_ (fun h => ?_) fun h => ?_) | refine go3 ?_ ?_ | refine go4 ?_ ?_ | refine go5 ?_ | ((first | refine go6 ?_ ?_ | refine go7 ?_ ?_ | refine go8 ?_ ?_ | refine go9 ?_ ?_ | refine goA ?_ ?_) <;> intro h) | with_reducible (first | refine aai.mk _ rfl ?_ | refine goB ?_ fun hc => ?_ | refine goC ?_ fun hc => ?_ | refine goD ?_ fun hc => ?_ | refine goE ?_ fun hc => ?_ | refine goF ?_ ?_ | refine goG ?_ ?_ | refine goH ?_ fun b hb => ?_) | refine goI ?_ | refine goJ ?_ ?_ | refine goK ?_ ?_ ?_ | refine goL ?_ ?_ ?_ ?_ | refine goM ?_ ?_ ?_ ?_ ?_ | refine goN ?_ ?_ | refine goO ?_ ?_ | with_reducible refine goP ?_)
  all_goals try conv => whnf
  all_goals try (refine aac.mk ?_; try dsimp only)
  all_goals (try simp only [aa3] at *)
  all_goals first
    | (refine stay ?_)
    | (first | trivial | omega | (simp (discharger := omega) only [wR]; omega) | (simp only [lnS]; omega) | (simp (discharger := omega) [-List.getD_eq_getElem?_getD, wR] <;> omega)) | skip
  all_goals first
    | (exfalso; omega)
    | (show aa9 _ _ _ _ _ _
       refine aa9.mk [] ?_ <;> (repeat' first | trivial | rfl | exact eqS _ _ | apply And.intro | apply eqA | apply eqB | apply eqC | apply eqD | apply eqE | apply eqF | apply eqG | apply eqH | apply eqI)
       done)
theorem a48 (c : Cu) (l : List V) (hp : c.ok ∧ c.s.length ≤ 10000000) (hc : c.tkE ≠ 0) : POK 57 ([.ptr 0 0]) ([.cells [.ptr 1 0, .buf 2], .cells (eC c), .buf 4 0 l]) (.iface 100 (.int .i64 c.tkE)) (some [.dead, .dead, .dead, .buf 1 0 []]) := by
  refine adu (C := cx [(18, ag8), (21, af2)]) (abh ⟨alb, ak2, trivial⟩) (fn := Try.f57) rfl rfl rfl rfl fun hw hs => ?_
  have ht := axr c
  repeat' ((conv => whnf); first | with_reducible (first | refine go1 (fun j q h => ?_) fun h => ?_ | refine go2 ⟨rfl, rfl⟩ (fun h => ?_) fun j h => ?_ | refine go2 ?_ (fun h => ?_) fun j h => ?_ | refine goQ ?_ (fun h => ?_) fun h => ?_) | refine go3 ?_ ?_ | refine go4 ?_ ?_ | refine go5 ?_ | ((first | refine go6 ?_ ?_ | refine go7 ?_ ?_ | refine go8 ?_ ?_ | refine go9 ?_ ?_ | refine goA ?_ ?_) <;> intro h) | with_reducible (first | refine aai.mk _ rfl ?_ | refine goB ?_ fun hc => ?_ | refine goC ?_ fun hc => ?_ | refine goD ?_ fun hc => ?_ | refine goE ?_ fun hc => ?_ | refine goF ?_ ?_ | refine goG ?_ ?_ | refine goH ?_ fun b hb => ?_) | refine goI ?_ | refine goJ ?_ ?_ | refine goK ?_ ?_ ?_ | refine goL ?_ ?_ ?_ ?_ | refine goM ?_ ?_ ?_ ?_ ?_ | refine goN ?_ ?_ | refine goO ?_ ?_ | with_reducible refine goP ?_)
  all_goals try conv => whnf
  all_goals try (refine aac.mk ?_; try dsimp only)
  all_goals (try simp only [aa3] at *)
  all_goals first
    | (refine stay ?_)
    | (first | trivial | omega | (simp (discharger := omega) only [wR]; omega) | (simp only [lnS]; omega) | (simp (discharger := omega) [-List.getD_eq_getElem?_getD, wR] <;> omega)) | skip
  all_goals first
    | (show aa6 _ _ _
       first | (refine aa6.mk [] ?_ <;> (repeat' first | trivial | rfl | refine And.intro ?_ ?_); done) | (refine aa6.mk [.nw, .swap 3 3] ?_ <;> (repeat' first | trivial | rfl | refine And.intro ?_ ?_); done) | (refine aa6.mk [.nw, .swap 3 4] ?_ <;> (repeat' first | trivial | rfl | refine And.intro ?_ ?_); done) | (refine aa6.mk [.nw, .swap 3 5] ?_ <;> (repeat' first | trivial | rfl | refine And.intro ?_ ?_); done) | (refine aa6.mk [.nw, .swap 3 6] ?_ <;> (repeat' first | trivial | rfl | refine And.intro ?_ ?_); done) | (refine aa6.mk [.nw, .swap 3 7] ?_ <;> (repeat' first | trivial | rfl | refine And.intro ?_ ?_); done) | (refine aa6.mk [.nw, .swap 3 8] ?_ <;> (repeat' first | trivial | rfl | refine And.intro ?_ ?_); done) | (refine aa6.mk [.nw, .swap 3 9] ?_ <;> (repeat' first | trivial | rfl | refine And.intro ?_ ?_); done) | (refine aa6.mk [.nw, .swap 3 10] ?_ <;> (repeat' first | trivial | rfl | refine And.intro ?_ ?_); done) | (refine aa6.mk [.nw, .swap 3 11] ?_ <;> (repeat' first | trivial | rfl | refine And.intro ?_ ?_); done)
       done)
    | (exfalso; omega)
def ae6 : PSm := fun args σ => match args, σ with
  | [.ptr 0 0], [.cells [.ptr 1 0, .buf 2], .cells ([.str s_c, .int .i64 (.ofNat a_c), .int .i64 (.ofNat e_c), .int .i64 c_c]), .buf 4 0 l] => some (True ∧ ((Cu.mk s_c a_c e_c c_c).ok ∧ (Cu.mk s_c a_c e_c c_c).s.length ≤ 10000000), (Cu.mk s_c a_c e_c c_c).tkE ≠ 0, .iface 100 (.int .i64 (Cu.mk s_c a_c e_c c_c).tkE), some [.dead, .dead, .dead, .buf 1 0 []], .agg (eT (Cu.mk s_c a_c e_c c_c).next.2), some [.cells [.ptr 1 0, .buf 2], .cells (eC (Cu.mk s_c a_c e_c c_c).next.1), .buf 4 0 l])
  | _, _ => none
theorem ag1 : aro 57 (ae6) := by
  intro args sg pre c u r x r2 he hp
  unfold ae6 at he
  split at he <;> cases he
  · rw [acr (hp).1]; exact ⟨fun hc => ⟨_, rfl, a48 (hp := hp.2) (hc := hc) ..⟩, fun hc => a3h (hp := hp.2) (hc := hc) ..⟩
theorem a3g (c : Cu) (l : List V) (k : UInt8) (hp : c.ok ∧ c.s.length ≤ 10000000) (hc : ¬ (c.tkE ≠ 0 ∨ c.next.2.k ≠ k)) : OK 103 ([.ptr 0 0, bv k]) ([.cells [.ptr 1 0, .buf 2], .cells (eC c), .buf 4 0 l]) (.tuple []) (some [.cells [.ptr 1 0, .buf 2], .cells (eC c.next.1), .buf 4 0 l]) := by
  refine aa0 (C := cxp [] [(57, ae6)]) (a3r trivial ⟨ag1, trivial⟩) (fn := Try.f103) rfl rfl rfl rfl fun hw hs => ?_
  have h1 : c.tkE = 0 := Decidable.not_not.1 fun q => hc (.inl q)
  have h2 : c.next.2.k = k := Decidable.not_not.1 fun q => hc (.inr q)
  repeat' ((conv => whnf); first | with_reducible (first | refine go1 (fun j q h => ?_) fun h => ?_ | refine go2 ⟨rfl, rfl⟩ (fun h => ?_) fun j h => ?_ | refine go2 ?_ (fun h => ?_) fun j h => ?_ | refine goQ ?_ (fun h => ?_) fun h => ?_) | refine go3 ?_ ?_ | refine go4 ?_ ?_ | refine go5 ?_ | ((first | refine go6 ?_ ?_ | refine go7 ?_ ?_ | refine go8 ?_ ?_ | refine go9 ?_ ?_ | refine goA ?_ ?_) <;> intro h) | with_reducible (first | refine aai.mk _ rfl ?_ | refine goB ?_ fun hc => ?_ | refine goC ?_ fun hc => ?_ | refine goD ?_ fun hc => ?_ | refine goE ?_ fun hc => ?_ | refine goF ?_ ?_ | refine goG ?_ ?_ | refine goH ?_ fun b hb => ?_) | refine goI ?_ | refine goJ ?_ ?_ | refine goK ?_ ?_ ?_ | refine goL ?_ ?_ ?_ ?_ | refine goM ?_ ?_ ?_ ?_ ?_ | refine goN ?_ ?_ | refine goO ?_ ?_ | with_reducible refine goP ?_)
  all_goals try conv => whnf
  all_goals try (refine aac.mk ?_; try dsimp only)
  all_goals (try simp only [aa3] at *)
  all_goals first
    | (refine stay ?_)
    | (first | trivial | omega | (simp (discharger := omega) only [wR]; omega) | (simp only [lnS]; omega) | (simp (discharger := omega) [-List.getD_eq_getElem?_getD, wR] <;> omega)) | skip
  all_goals first
    | (exfalso; omega)
    | (rw [h2]; exact beq_self_eq_true _)
    | (rw [h2]; exact bne_self_eq_false _)
    | (show aa9 _ _ _ _ _ _
       refine aa9.mk [] ?_ <;> (repeat' first | trivial | rfl | exact eqS _ _ | apply And.intro | apply eqA | apply eqB | apply eqC | apply eqD | apply eqE | apply eqF | apply eqG | apply eqH | apply eqI)
       done)
theorem a47 (c : Cu) (l : List V) (k : UInt8) (hp : c.ok ∧ c.s.length ≤ 10000000) (hc : c.tkE ≠ 0 ∨ c.next.2.k ≠ k) : POK 103 ([.ptr 0 0, bv k]) ([.cells [.ptr 1 0, .buf 2], .cells (eC c), .buf 4 0 l]) (.iface 100 (.int .i64 (if c.tkE ≠ 0 then c.tkE else 3))) (some [.dead, .dead, .dead, .buf 1 0 []]) := by
  refine adu (C := cxp [] [(57, ae6)]) (a3r trivial ⟨ag1, trivial⟩) (fn := Try.f103) rfl rfl rfl rfl fun hw hs => ?_
  have hk : (c.next.2.k.toNat : Int) = k.toNat → c.next.2.k = k := fun h => UInt8.toNat_inj.1 (by omega)
  repeat' ((conv => whnf); first | with_reducible (first | refine go1 (fun j q h => ?_) fun h => ?_ | refine go2 ⟨rfl, rfl⟩ (fun h => ?_) fun j h => ?_ | refine go2 ?_ (fun h => ?_) fun j h => ?_ | refine goQ ?_ (fun h => ?_) fun h => ?_) | refine go3 ?_ ?_ | refine go4 ?_ ?_ | refine go5 ?_ | ((first | refine go6 ?_ ?_ | refine go7 ?_ ?_ | refine go8 ?_ ?_ | refine go9 ?_ ?_ | refine goA ?_ ?_) <;> intro h) | with_reducible (first | refine aai.mk _ rfl ?_ | refine goB ?_ fun hc => ?_ | refine goC ?_ fun hc => ?_ | refine goD ?_ fun hc => ?_ | refine goE ?_ fun hc => ?_ | refine goF ?_ ?_ | refine goG ?_ ?_ | refine goH ?_ fun b hb => ?_) | refine goI ?_ | refine goJ ?_ ?_ | refine goK ?_ ?_ ?_ | refine goL ?_ ?_ ?_ ?_ | refine goM ?_ ?_ ?_ ?_ ?_ | refine goN ?_ ?_ | refine goO ?_ ?_ | with_reducible refine goP ?_)
  all_goals try conv => whnf
  all_goals try (refine aac.mk ?_; try dsimp only)
  all_goals (try simp only [aa3] at *)
  all_goals first
    | (refine stay ?_)
    | (first | trivial | omega | (simp (discharger := omega) only [wR]; omega) | (simp only [lnS]; omega) | (simp (discharger := omega) [-List.getD_eq_getElem?_getD, wR] <;> omega)) | skip
  all_goals first
    | (show aa6 _ _ _
       first | (refine aa6.mk [] ?_ <;> (repeat' first | trivial | rfl | refine And.intro ?_ ?_); done) | (refine aa6.mk [.nw, .swap 3 3] ?_ <;> (repeat' first | trivial | rfl | refine And.intro ?_ ?_); done) | (refine aa6.mk [.nw, .swap 3 4] ?_ <;> (repeat' first | trivial | rfl | refine And.intro ?_ ?_); done) | (refine aa6.mk [.nw, .swap 3 5] ?_ <;> (repeat' first | trivial | rfl | refine And.intro ?_ ?_); done) | (refine aa6.mk [.nw, .swap 3 6] ?_ <;> (repeat' first | trivial | rfl | refine And.intro ?_ ?_); done) | (refine aa6.mk [.nw, .swap 3 7] ?_ <;> (repeat' first | trivial | rfl | refine And.intro ?_ ?_); done) | (refine aa6.mk [.nw, .swap 3 8] ?_ <;> (repeat' first | trivial | rfl | refine And.intro ?_ ?_); done) | (refine aa6.mk [.nw, .swap 3 9] ?_ <;> (repeat' first | trivial | rfl | refine And.intro ?_ ?_); done) | (refine aa6.mk [.nw, .swap 3 10] ?_ <;> (repeat' first | trivial | rfl | refine And.intro ?_ ?_); done) | (refine aa6.mk [.nw, .swap 3 11] ?_ <;> (repeat' first | trivial | rfl | refine And.intro ?_ ?_); done)
       done)
    | (have h2 : c.next.2.k ≠ k := hc.resolve_left (by assumption)
       refine bne_iff_ne.2 fun q => h2 (hk q))
    | (exfalso; omega)
def aln : PSm := fun args σ => match args, σ with
  | [.ptr 0 0, .int .u8 n_k], [.cells [.ptr 1 0, .buf 2], .cells ([.str s_c, .int .i64 (.ofNat a_c), .int .i64 (.ofNat e_c), .int .i64 c_c]), .buf 4 0 l] => some ((0 ≤ n_k ∧ n_k ≤ 255) ∧ (True ∧ ((Cu.mk s_c a_c e_c c_c).ok ∧ (Cu.mk s_c a_c e_c c_c).s.length ≤ 10000000)), (Cu.mk s_c a_c e_c c_c).tkE ≠ 0 ∨ (Cu.mk s_c a_c e_c c_c).next.2.k ≠ (byte n_k), .iface 100 (.int .i64 (if (Cu.mk s_c a_c e_c c_c).tkE ≠ 0 then (Cu.mk s_c a_c e_c c_c).tkE else 3)), some [.dead, .dead, .dead, .buf 1 0 []], .tuple [], some [.cells [.ptr 1 0, .buf 2], .cells (eC (Cu.mk s_c a_c e_c c_c).next.1), .buf 4 0 l])
  | _, _ => none
theorem awt : aro 103 (aln) := by
  intro args sg pre c u r x r2 he hp
  unfold aln at he
  split at he <;> cases he
  · rw [af3 (hp).1]; rw [acr (hp.2).1]; exact ⟨fun hc => ⟨_, rfl, a47 (hp := hp.2.2) (hc := hc) ..⟩, fun hc => a3g (hp := hp.2.2) (hc := hc) ..⟩
theorem a3i (c : Cu) (l : List V) (hp : c.ok ∧ c.s.length ≤ 10000000) (hc : ¬ (c.next.2.k ≠ 0 ∨ c.next.1.c ≠ 0)) : OK 58 ([.ptr 0 0]) ([.cells [.ptr 1 0, .buf 2], .cells (eC c), .buf 4 0 l]) (.tuple []) (some [.cells [.ptr 1 0, .buf 2], .cells (eC c.next.1), .buf 4 0 l]) := by
  refine aa0 (C := cx [(18, ag8), (21, af2)]) (abh ⟨alb, ak2, trivial⟩) (fn := Try.f58) rfl rfl rfl rfl fun hw hs => ?_
  have h1 : c.next.2.k = 0 := Decidable.not_not.1 fun q => hc (.inl q)
  have h2 : c.next.1.c = 0 := Decidable.not_not.1 fun q => hc (.inr q)
  repeat' ((conv => whnf); first | with_reducible (first | refine go1 (fun j q h => ?_) fun h => ?_ | refine go2 ⟨rfl, rfl⟩ (fun h => ?_) fun j h => ?_ | refine go2 ?_ (fun h => ?_) fun j h => ?_ | refine goQ ?_ (fun h => ?_) fun h => ?_) | refine go3 ?_ ?_ | refine go4 ?_ ?_ | refine go5 ?_ | ((first | refine go6 ?_ ?_ | refine go7 ?_ ?_ | refine go8 ?_ ?_ | refine go9 ?_ ?_ | refine goA ?_ ?_) <;> intro h) | with_reducible (first | refine aai.mk _ rfl ?_ | refine goB ?_ fun hc => ?_ | refine goC ?_ fun hc => ?_ | refine goD ?_ fun hc => ?_ | refine goE ?_ fun hc => ?_ | refine goF ?_ ?_ | refine goG ?_ ?_ | refine goH ?_ fun b hb => ?_) | refine goI ?_ | refine goJ ?_ ?_ | refine goK ?_ ?_ ?_ | refine goL ?_ ?_ ?_ ?_ | refine goM ?_ ?_ ?_ ?_ ?_ | refine goN ?_ ?_ | refine goO ?_ ?_ | with_reducible refine goP ?_)
  all_goals try conv => whnf
  all_goals try (refine aac.mk ?_; try dsimp only)
  all_goals (try simp only [aa3] at *)
  all_goals first
    | (refine stay ?_)
    | (first | trivial | omega | (simp (discharger := omega) only [wR]; omega) | (simp only [lnS]; omega) | (simp (discharger := omega) [-List.getD_eq_getElem?_getD, wR] <;> omega)) | skip
  all_goals first
    | (rw [h1]; rfl)
    | (rw [h2]; rfl)
    | (exfalso; omega)
    | (show aa9 _ _ _ _ _ _
       refine aa9.mk [] ?_ <;> (repeat' first | trivial | rfl | exact eqS _ _ | apply And.intro | apply eqA | apply eqB | apply eqC | apply eqD | apply eqE | apply eqF | apply eqG | apply eqH | apply eqI)
       done)
theorem a49 (c : Cu) (l : List V) (hp : c.ok ∧ c.s.length ≤ 10000000) (hc : c.next.2.k ≠ 0 ∨ c.next.1.c ≠ 0) : POK 58 ([.ptr 0 0]) ([.cells [.ptr 1 0, .buf 2], .cells (eC c), .buf 4 0 l]) (.iface 100 (.int .i64 2)) (some [.dead, .dead, .dead, .buf 1 0 []]) := by
  refine adu (C := cx [(18, ag8), (21, af2)]) (abh ⟨alb, ak2, trivial⟩) (fn := Try.f58) rfl rfl rfl rfl fun hw hs => ?_
  have hk : (c.next.2.k.toNat : Int) = 0 → c.next.2.k = 0 := fun h => UInt8.toNat_inj.1 (by show c.next.2.k.toNat = 0; omega)
  repeat' ((conv => whnf); first | with_reducible (first | refine go1 (fun j q h => ?_) fun h => ?_ | refine go2 ⟨rfl, rfl⟩ (fun h => ?_) fun j h => ?_ | refine go2 ?_ (fun h => ?_) fun j h => ?_ | refine goQ ?_ (fun h => ?_) fun h => ?_) | refine go3 ?_ ?_ | refine go4 ?_ ?_ | refine go5 ?_ | ((first | refine go6 ?_ ?_ | refine go7 ?_ ?_ | refine go8 ?_ ?_ | refine go9 ?_ ?_ | refine goA ?_ ?_) <;> intro h) | with_reducible (first | refine aai.mk _ rfl ?_ | refine goB ?_ fun hc => ?_ | refine goC ?_ fun hc => ?_ | refine goD ?_ fun hc => ?_ | refine goE ?_ fun hc => ?_ | refine goF ?_ ?_ | refine goG ?_ ?_ | refine goH ?_ fun b hb => ?_) | refine goI ?_ | refine goJ ?_ ?_ | refine goK ?_ ?_ ?_ | refine goL ?_ ?_ ?_ ?_ | refine goM ?_ ?_ ?_ ?_ ?_ | refine goN ?_ ?_ | refine goO ?_ ?_ | with_reducible refine goP ?_)
  all_goals try conv => whnf
  all_goals try (refine aac.mk ?_; try dsimp only)
  all_goals (try simp only [aa3] at *)
  all_goals first
    | (refine stay ?_)
    | (first | trivial | omega | (simp (discharger := omega) only [wR]; omega) | (simp only [lnS]; omega) | (simp (discharger := omega) [-List.getD_eq_getElem?_getD, wR] <;> omega)) | skip
  all_goals first
    | (show aa6 _ _ _
       first | (refine aa6.mk [] ?_ <;> (repeat' first | trivial | rfl | refine And.intro ?_ ?_); done) | (refine aa6.mk [.nw, .swap 3 3] ?_ <;> (repeat' first | trivial | rfl | refine And.intro ?_ ?_); done) | (refine aa6.mk [.nw, .swap 3 4] ?_ <;> (repeat' first | trivial | rfl | refine And.intro ?_ ?_); done) | (refine aa6.mk [.nw, .swap 3 5] ?_ <;> (repeat' first | trivial | rfl | refine And.intro ?_ ?_); done) | (refine aa6.mk [.nw, .swap 3 6] ?_ <;> (repeat' first | trivial | rfl | refine And.intro ?_ ?_); done) | (refine aa6.mk [.nw, .swap 3 7] ?_ <;> (repeat' first | trivial | rfl | refine And.intro ?_ ?_); done) | (refine aa6.mk [.nw, .swap 3 8] ?_ <;> (repeat' first | trivial | rfl | refine And.intro ?_ ?_); done) | (refine aa6.mk [.nw, .swap 3 9] ?_ <;> (repeat' first | trivial | rfl | refine And.intro ?_ ?_); done) | (refine aa6.mk [.nw, .swap 3 10] ?_ <;> (repeat' first | trivial | rfl | refine And.intro ?_ ?_); done) | (refine aa6.mk [.nw, .swap 3 11] ?_ <;> (repeat' first | trivial | rfl | refine And.intro ?_ ?_); done)
       done)
    | (have h2 : c.next.1.c ≠ 0 := hc.resolve_left (fun q => q (hk (by assumption)))
       exact bne_iff_ne.2 h2)
    | (exfalso; omega)
def aq5 : PSm := fun args σ => match args, σ with
  | [.ptr 0 0], [.cells [.ptr 1 0, .buf 2], .cells ([.str s_c, .int .i64 (.ofNat a_c), .int .i64 (.ofNat e_c), .int .i64 c_c]), .buf 4 0 l] => some (True ∧ ((Cu.mk s_c a_c e_c c_c).ok ∧ (Cu.mk s_c a_c e_c c_c).s.length ≤ 10000000), (Cu.mk s_c a_c e_c c_c).next.2.k ≠ 0 ∨ (Cu.mk s_c a_c e_c c_c).next.1.c ≠ 0, .iface 100 (.int .i64 2), some [.dead, .dead, .dead, .buf 1 0 []], .tuple [], some [.cells [.ptr 1 0, .buf 2], .cells (eC (Cu.mk s_c a_c e_c c_c).next.1), .buf 4 0 l])
  | _, _ => none
theorem a7c : aro 58 (aq5) := by
  intro args sg pre c u r x r2 he hp
  unfold aq5 at he
  split at he <;> cases he
  · rw [acr (hp).1]; exact ⟨fun hc => ⟨_, rfl, a49 (hp := hp.2) (hc := hc) ..⟩, fun hc => a3i (hp := hp.2) (hc := hc) ..⟩
end Go.Proofs.Ytllncocibkgjkaa
