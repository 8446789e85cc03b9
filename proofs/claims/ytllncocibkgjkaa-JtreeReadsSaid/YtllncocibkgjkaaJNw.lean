/-
  A number of JSON: the program's functions do what the model turns.
-/
import Derived.Test.YtllncocibkgjkaaJNd
set_option linter.unusedSimpArgs false
set_option linter.unusedVariables false
set_option maxHeartbeats 4000000
namespace Go.Proofs.Ytllncocibkgjkaa
open Go Go.VG
set_option maxRecDepth 100000
theorem ap7 {b : UInt8} : anu b = true ↔ 48 ≤ b.toNat ∧ b.toNat ≤ 57 := by simp [anu]
theorem avn {b : UInt8} : anu b = false ↔ ¬ (48 ≤ b.toNat ∧ b.toNat ≤ 57) := by rw [← ap7, Bool.not_eq_true]
theorem a5o {c : Cu} (h : c.ok) (s : List UInt8) : (c.a4x s).ok ∧ (c.a4x s).s = c.s ∧ (c.a4x s).e = c.e := by
  unfold Cu.a4x; split
  · exact agw h 1
  · exact ⟨h, rfl, rfl⟩
theorem a9j (c : Cu) (s : List UInt8) : (c.a91 s).length ≤ 1 := by unfold Cu.a91; split <;> simp
theorem avo : ∀ (n : Nat) (c : Cu) (o : List UInt8), c.ok → (acw n c o).1.ok ∧ (acw n c o).1.s = c.s ∧ (acw n c o).1.e = c.e ∧ (acw n c o).2.length ≤ o.length + n + 1
  | 0, c, o, h => by
    have hb := agw h 1
    rw [acw]; exact ⟨hb.1, hb.2.1, hb.2.2, by simp⟩
  | n + 1, c, o, h => by
    have hb := agw h 1
    rw [acw]; split
    · have := avo n c.byte (o ++ [c.aa2]) hb.1
      refine ⟨this.1, this.2.1.trans hb.2.1, this.2.2.1.trans hb.2.2, ?_⟩
      have := this.2.2.2; simp at this; omega
    · exact ⟨hb.1, hb.2.1, hb.2.2, by simp⟩
theorem ayb {c : Cu} (h : c.ok) : c.aie.1.ok ∧ c.aie.1.s = c.s ∧ c.aie.1.e = c.e ∧ c.aie.2.length ≤ c.e + 1 := by
  unfold Cu.aie; split
  · have := avo (c.e - c.p) c [] h
    refine ⟨this.1, this.2.1, this.2.2.1, ?_⟩
    have := this.2.2.2; simp at this; omega
  · refine ⟨?_, ?_, ?_, by simp⟩
    all_goals
      dsimp only
      split
      · have hf := ac9 h 3
        have hb := agw hf.1 1
        first | exact hb.1 | exact hb.2.1.trans hf.2.1 | exact hb.2.2.trans hf.2.2.1
      · have hb := agw h 1
        first | exact hb.1 | exact hb.2.1 | exact hb.2.2
theorem a30 (c : Cu) (o : List V) (hp : c.ok ∧ o.length ≤ 2000000000) : OK 113 ([.ptr 0 0]) ([.cells [.ptr 1 0, .buf 2], .cells (eC c), .buf 1 0 o]) (.tuple []) (some [.cells [.ptr 1 0, .buf 2], .cells (eC c.byte), .buf 1 0 (o ++ bl [c.aa2])]) := by
  refine aa0 (C := cx [(44, adn)]) (abh ⟨agu, trivial⟩) (fn := Try.f113) rfl rfl rfl rfl fun hw hs => ?_
  obtain ⟨hp, ho⟩ := hp
  repeat' ((conv => whnf); first | with_reducible (first | refine go1 (fun j q h => ?_) fun h => ?_ | refine go2 ⟨rfl, rfl⟩ (fun h => ?_) fun j h => ?_ | refine go2 ?_ (fun h => ?_) fun j h => ?_ | refine goQ ?_ (fun h => ?_) fun h => ?_) | refine go3 ?_ ?_ | refine go4 ?_ ?_ | refine go5 ?_ | ((first | refine go6 ?_ ?_ | refine go7 ?_ ?_ | refine go8 ?_ ?_ | refine go9 ?_ ?_ | refine goA ?_ ?_) <;> intro h) | with_reducible (first | refine aai.mk _ rfl ?_ | refine goB ?_ fun hc => ?_ | refine goC ?_ fun hc => ?_ | refine goD ?_ fun hc => ?_ | refine goE ?_ fun hc => ?_ | refine goF ?_ ?_ | refine goG ?_ ?_ | refine goH ?_ fun b hb => ?_) | refine goI ?_ | refine goJ ?_ ?_ | refine goK ?_ ?_ ?_ | refine goL ?_ ?_ ?_ ?_ | refine goM ?_ ?_ ?_ ?_ ?_ | refine goN ?_ ?_ | refine goO ?_ ?_ | with_reducible refine goP ?_)
  all_goals try conv => whnf
  all_goals try (refine aac.mk ?_; try dsimp only)
  all_goals (try simp only [aa3] at *)
  all_goals first
    | (refine stay ?_)
    | (first | trivial | omega | (simp (discharger := omega) only [wR]; omega) | (simp only [lnS]; omega) | (simp (discharger := omega) [-List.getD_eq_getElem?_getD, wR] <;> omega)) | skip
  all_goals
    refine aa9.mk [] ?_ <;> (repeat' first | trivial | rfl | exact eqS _ _ | apply And.intro | apply eqA | apply eqB | apply eqC | apply eqD | apply eqE | apply eqF | apply eqG | apply eqH | apply eqI)
def alz : Sm := fun args σ => match args, σ with
  | [.ptr 0 0], [.cells [.ptr 1 0, .buf 2], .cells ([.str s_c, .int .i64 (.ofNat a_c), .int .i64 (.ofNat e_c), .int .i64 c_c]), .buf 1 0 o] => some (True ∧ ((Cu.mk s_c a_c e_c c_c).ok ∧ o.length ≤ 2000000000), .tuple [], some [.cells [.ptr 1 0, .buf 2], .cells (eC (Cu.mk s_c a_c e_c c_c).byte), .buf 1 0 (o ++ bl [(Cu.mk s_c a_c e_c c_c).aa2])])
  | _, _ => none
theorem a0v : SOK 113 alz := by
  intro args sg pre x r he hp
  unfold alz at he
  split at he <;> cases he
  · rw [acr (hp).1]; exact a30 (hp := hp.2) ..
theorem ayl (c : Cu) (o : List V) (hp : c.ok) : OK 114 ([.ptr 0 0]) ([.cells [.ptr 1 0, .buf 2], .cells (eC c), .buf 1 0 o]) (.bool (anu c.aa2)) (none) := by
  refine aa0 (C := cx [(43, agp)]) (abh ⟨amv, trivial⟩) (fn := Try.f114) rfl rfl rfl rfl fun hw hs => ?_
  have hb : c.aa2.toNat < 256 := c.aa2.toNat_lt
  have hn : ¬ (c.c = 0 ∧ c.p < c.e) → anu c.aa2 = false := fun h => by rw [ah2 h]; decide
  repeat' ((conv => whnf); first | with_reducible (first | refine go1 (fun j q h => ?_) fun h => ?_ | refine go2 ⟨rfl, rfl⟩ (fun h => ?_) fun j h => ?_ | refine go2 ?_ (fun h => ?_) fun j h => ?_ | refine goQ ?_ (fun h => ?_) fun h => ?_) | refine go3 ?_ ?_ | refine go4 ?_ ?_ | refine go5 ?_ | ((first | refine go6 ?_ ?_ | refine go7 ?_ ?_ | refine go8 ?_ ?_ | refine go9 ?_ ?_ | refine goA ?_ ?_) <;> intro h) | with_reducible (first | refine aai.mk _ rfl ?_ | refine goB ?_ fun hc => ?_ | refine goC ?_ fun hc => ?_ | refine goD ?_ fun hc => ?_ | refine goE ?_ fun hc => ?_ | refine goF ?_ ?_ | refine goG ?_ ?_ | refine goH ?_ fun b hb => ?_) | refine goI ?_ | refine goJ ?_ ?_ | refine goK ?_ ?_ ?_ | refine goL ?_ ?_ ?_ ?_ | refine goM ?_ ?_ ?_ ?_ ?_ | refine goN ?_ ?_ | refine goO ?_ ?_ | with_reducible refine goP ?_)
  all_goals try conv => whnf
  all_goals try (refine aac.mk ?_; try dsimp only)
  all_goals (try simp only [aa3] at *)
  all_goals first
    | (refine stay ?_)
    | (first | trivial | omega | (simp (discharger := omega) only [wR]; omega) | (simp only [lnS]; omega) | (simp (discharger := omega) [-List.getD_eq_getElem?_getD, wR] <;> omega)) | skip
  all_goals
    refine aa9.mk [] ?_ <;> (repeat' first | trivial | rfl | exact eqS _ _ | apply And.intro | apply eqA | apply eqB | apply eqC | apply eqD | apply eqE | apply eqF | apply eqG | apply eqH | apply eqI)
    first
    | exact (hn (by assumption)).symm
    | (cases h : anu c.aa2 with
       | true => have := ap7.1 h; first | rfl | (simp; omega)
       | false => have := avn.1 h; first | rfl | (simp; omega))
def an6 : Sm := fun args σ => match args, σ with
  | [.ptr 0 0], [.cells [.ptr 1 0, .buf 2], .cells ([.str s_c, .int .i64 (.ofNat a_c), .int .i64 (.ofNat e_c), .int .i64 c_c]), .buf 1 0 o] => some (True ∧ ((Cu.mk s_c a_c e_c c_c).ok), .bool (anu (Cu.mk s_c a_c e_c c_c).aa2), none)
  | _, _ => none
theorem a6x : SOK 114 an6 := by
  intro args sg pre x r he hp
  unfold an6 at he
  split at he <;> cases he
  · rw [acr (hp).1]; exact ayl (hp := hp.2) ..
theorem a67 (c : Cu) (o : List V) (s : List UInt8) (hp : c.ok ∧ o.length ≤ 2000000000 ∧ s.length ≤ 100) : OK 97 ([.ptr 0 0, .str s]) ([.cells [.ptr 1 0, .buf 2], .cells (eC c), .buf 1 0 o]) (.bool (c.as2 s)) (some [.cells [.ptr 1 0, .buf 2], .cells (eC (c.a4x s)), .buf 1 0 (o ++ bl (c.a91 s))]) := by
  refine aa0 (C := cx [(43, agp), (113, alz)]) (abh ⟨amv, a0v, trivial⟩) (fn := Try.f97) rfl rfl rfl rfl fun hw hs => ?_
  obtain ⟨hp, ho, hs⟩ := hp
  have hb : c.aa2.toNat < 256 := c.aa2.toNat_lt
  have hbb : byte c.aa2.toNat = c.aa2 := aaf _
  repeat' ((conv => whnf); first | with_reducible (first | refine go1 (fun j q h => ?_) fun h => ?_ | refine go2 ⟨rfl, rfl⟩ (fun h => ?_) fun j h => ?_ | refine go2 ?_ (fun h => ?_) fun j h => ?_ | refine goQ ?_ (fun h => ?_) fun h => ?_) | refine go3 ?_ ?_ | refine go4 ?_ ?_ | refine go5 ?_ | ((first | refine go6 ?_ ?_ | refine go7 ?_ ?_ | refine go8 ?_ ?_ | refine go9 ?_ ?_ | refine goA ?_ ?_) <;> intro h) | with_reducible (first | refine aai.mk _ rfl ?_ | refine goB ?_ fun hc => ?_ | refine goC ?_ fun hc => ?_ | refine goD ?_ fun hc => ?_ | refine goE ?_ fun hc => ?_ | refine goF ?_ ?_ | refine goG ?_ ?_ | refine goH ?_ fun b hb => ?_) | refine goI ?_ | refine goJ ?_ ?_ | refine goK ?_ ?_ ?_ | refine goL ?_ ?_ ?_ ?_ | refine goM ?_ ?_ ?_ ?_ ?_ | refine goN ?_ ?_ | refine goO ?_ ?_ | with_reducible refine goP ?_)
  all_goals try conv => whnf
  all_goals try (refine aac.mk ?_; try dsimp only)
  all_goals (try simp only [aa3] at *)
  all_goals first
    | (refine stay ?_)
    | (first | trivial | omega | (simp (discharger := omega) only [wR]; omega) | (simp only [lnS]; omega) | (simp (discharger := omega) [-List.getD_eq_getElem?_getD, wR] <;> omega)) | skip
  refine abt.mk Nat (fun i => i ≤ s.length ∧ ∀ j, j < i → ¬ (c.has ∧ s.getD j 0 = c.aa2)) (fun i => ⟨32, [(0, .ptr 0 0), (1, .str s), (5, bv c.aa2), (6, .bool (decide (c.c = 0 ∧ c.p < c.e))), (17, .int .i64 s.length), (18, .int .i64 i)], [.cells [.ptr 1 0, .buf 2], .cells (eC c), .buf 1 0 o], []⟩) (fun i => s.length - i) [] 0 ⟨by omega, fun j hj => absurd hj (by omega)⟩ ?_ (fun i ⟨hi, hj⟩ _ _ => ?_)
  · refine Go.VG.Sub.mk rfl ?_ ?_ ?_ ?_ <;> (repeat' first | trivial | rfl | exact eqS _ _ | apply And.intro | apply eqA | apply eqB | apply eqC | apply eqD | apply eqE | apply eqF | apply eqG | apply eqH | apply eqI)
  have hx : (s.getD i 0).toNat < 256 := UInt8.toNat_lt _
  have yes : c.has → c.aa2 = s.getD i 0 → i < s.length → c.as2 s = true := fun h e hl => aii.2 ⟨h, by rw [e, List.getD_eq_getElem?_getD, List.getElem?_eq_getElem hl]; exact List.getElem_mem hl⟩
  have no : i = s.length → c.as2 s = false := fun e => by
    cases q : c.as2 s with
    | false => rfl
    | true =>
      obtain ⟨q1, q2⟩ := aii.1 q
      obtain ⟨j, hjl, hje⟩ := List.getElem_of_mem q2
      exact absurd ⟨q1, by rw [List.getD_eq_getElem?_getD, List.getElem?_eq_getElem hjl]; exact hje⟩ (hj j (by omega))
  have next : ¬ (c.has ∧ s.getD i 0 = c.aa2) → ∀ j, j < i + 1 → ¬ (c.has ∧ s.getD j 0 = c.aa2) := fun h j hjj => by
    by_cases e : j = i
    · subst e; exact h
    · exact hj j (by omega)
  repeat' ((conv => whnf); first | with_reducible (first | refine go1 (fun j q h => ?_) fun h => ?_ | refine go2 ⟨rfl, rfl⟩ (fun h => ?_) fun j h => ?_ | refine go2 ?_ (fun h => ?_) fun j h => ?_ | refine goQ ?_ (fun h => ?_) fun h => ?_) | refine go3 ?_ ?_ | refine go4 ?_ ?_ | refine go5 ?_ | ((first | refine go6 ?_ ?_ | refine go7 ?_ ?_ | refine go8 ?_ ?_ | refine go9 ?_ ?_ | refine goA ?_ ?_) <;> intro h) | with_reducible (first | refine aai.mk _ rfl ?_ | refine goB ?_ fun hc => ?_ | refine goC ?_ fun hc => ?_ | refine goD ?_ fun hc => ?_ | refine goE ?_ fun hc => ?_ | refine goF ?_ ?_ | refine goG ?_ ?_ | refine goH ?_ fun b hb => ?_) | refine goI ?_ | refine goJ ?_ ?_ | refine goK ?_ ?_ ?_ | refine goL ?_ ?_ ?_ ?_ | refine goM ?_ ?_ ?_ ?_ ?_ | refine goN ?_ ?_ | refine goO ?_ ?_ | with_reducible refine goP ?_)
  all_goals try conv => whnf
  all_goals try (refine aac.mk ?_; try dsimp only)
  all_goals (try simp only [aa3] at *)
  all_goals first
    | (refine stay ?_)
    | (first | trivial | omega | (simp (discharger := omega) only [wR]; omega) | (simp only [lnS]; omega) | (simp (discharger := omega) [-List.getD_eq_getElem?_getD, wR] <;> omega)) | skip
  all_goals (try simp only [hbb] at *)
  all_goals first
    | (refine ⟨[], i + 1, ⟨by omega, next fun h => ?_⟩, ?_, by omega⟩
       · first
         | exact absurd h.1 (by assumption)
         | (have := congrArg UInt8.toNat h.2; omega)
       · refine Go.VG.Sub.mk rfl ?_ ?_ ?_ ?_ <;> (repeat' first | trivial | rfl | exact eqS _ _ | apply And.intro | apply eqA | apply eqB | apply eqC | apply eqD | apply eqE | apply eqF | apply eqG | apply eqH | apply eqI)
         all_goals (first | omega | (simp (discharger := omega) only [wR]; omega) | (simp only [lnS]; omega) | (simp (discharger := omega) [-List.getD_eq_getElem?_getD, wR] <;> omega)))
    | skip
  · have e := yes (by assumption) (UInt8.toNat_inj.1 (by omega)) (by omega)
    unfold Cu.a4x Cu.a91
    rw [if_pos e, if_pos e, e]
    refine aa9.mk [] ?_ <;> (repeat' first | trivial | rfl | exact eqS _ _ | apply And.intro | apply eqA | apply eqB | apply eqC | apply eqD | apply eqE | apply eqF | apply eqG | apply eqH | apply eqI)
  · have e := no (by omega)
    unfold Cu.a4x Cu.a91
    rw [e]
    refine aa9.mk [] ?_ <;> (repeat' first | trivial | rfl | exact eqS _ _ | apply And.intro | apply eqA | apply eqB | apply eqC | apply eqD | apply eqE | apply eqF | apply eqG | apply eqH | apply eqI)
    simp [bl]
def auq : Sm := fun args σ => match args, σ with
  | [.ptr 0 0, .str s], [.cells [.ptr 1 0, .buf 2], .cells ([.str s_c, .int .i64 (.ofNat a_c), .int .i64 (.ofNat e_c), .int .i64 c_c]), .buf 1 0 o] => some (True ∧ ((Cu.mk s_c a_c e_c c_c).ok ∧ o.length ≤ 2000000000 ∧ s.length ≤ 100), .bool ((Cu.mk s_c a_c e_c c_c).as2 s), some [.cells [.ptr 1 0, .buf 2], .cells (eC ((Cu.mk s_c a_c e_c c_c).a4x s)), .buf 1 0 (o ++ bl ((Cu.mk s_c a_c e_c c_c).a91 s))])
  | _, _ => none
theorem bdo : SOK 97 auq := by
  intro args sg pre x r he hp
  unfold auq at he
  split at he <;> cases he
  · rw [acr (hp).1]; exact a67 (hp := hp.2) ..
theorem aw1 (c : Cu) (o : List V) (hp : c.ok ∧ o.length ≤ 1500000000 ∧ c.s.length ≤ 100000000) : OK 98 ([.ptr 0 0]) ([.cells [.ptr 1 0, .buf 2], .cells (eC c), .buf 1 0 o]) (.tuple []) (some [.cells [.ptr 1 0, .buf 2], .cells (eC c.aie.1), .buf 1 0 (o ++ bl c.aie.2)]) := by
  refine aa0 (C := cx [(114, an6), (115, aum), (49, ae9), (44, adn), (113, alz)]) (abh ⟨a6x, bdm, ahx, agu, a0v, trivial⟩) (fn := Try.f98) rfl rfl rfl rfl fun hw hs => ?_
  obtain ⟨hp, ho, hl⟩ := hp
  have h1 := hp.1
  have h2 := hp.2
  have hf := ac9 hp 3
  repeat' ((conv => whnf); first | with_reducible (first | refine go1 (fun j q h => ?_) fun h => ?_ | refine go2 ⟨rfl, rfl⟩ (fun h => ?_) fun j h => ?_ | refine go2 ?_ (fun h => ?_) fun j h => ?_ | refine goQ ?_ (fun h => ?_) fun h => ?_) | refine go3 ?_ ?_ | refine go4 ?_ ?_ | refine go5 ?_ | ((first | refine go6 ?_ ?_ | refine go7 ?_ ?_ | refine go8 ?_ ?_ | refine go9 ?_ ?_ | refine goA ?_ ?_) <;> intro h) | with_reducible (first | refine aai.mk _ rfl ?_ | refine goB ?_ fun hc => ?_ | refine goC ?_ fun hc => ?_ | refine goD ?_ fun hc => ?_ | refine goE ?_ fun hc => ?_ | refine goF ?_ ?_ | refine goG ?_ ?_ | refine goH ?_ fun b hb => ?_) | refine goI ?_ | refine goJ ?_ ?_ | refine goK ?_ ?_ ?_ | refine goL ?_ ?_ ?_ ?_ | refine goM ?_ ?_ ?_ ?_ ?_ | refine goN ?_ ?_ | refine goO ?_ ?_ | with_reducible refine goP ?_)
  all_goals try conv => whnf
  all_goals try (refine aac.mk ?_; try dsimp only)
  all_goals (try simp only [aa3] at *)
  all_goals first
    | (refine stay ?_)
    | (first | trivial | omega | (simp (discharger := omega) only [wR]; omega) | (simp only [lnS]; omega) | (simp (discharger := omega) [-List.getD_eq_getElem?_getD, wR] <;> omega)) | skip
  · have hd : anu c.aa2 = true := ap7.2 (by assumption)
    have hh : c.has := by
      rcases Decidable.em c.has with q | q
      · exact q
      · rw [ah2 q] at hd; exact absurd hd (by decide)
    refine ay1.mk (Nat × Cu × List UInt8) (fun | (n, d, s) => d.ok ∧ d.s = c.s ∧ d.has ∧ anu d.aa2 = true ∧ d.e - d.p ≤ n ∧ s.length ≤ d.p ∧ acw n d s = c.aie)
      (fun | (n, d, s) => ⟨25, [(0, .ptr 0 0)], [.cells [.ptr 1 0, .buf 2], .cells (eC d), .buf 1 0 (o ++ bl s)], [2]⟩) (fun x => x.1) [] (c.e - c.p, c, []) ⟨hp, rfl, hh, hd, Nat.le_refl _, by simp, by unfold Cu.aie; rw [if_pos hd]⟩ ?_ (fun ⟨n, d, s⟩ ⟨hd1, hd2, hd3, hd4, hd5, hd6, hd7⟩ _ _ => ?_)
    · refine Go.VG.Sub.mk rfl ?_ ?_ ?_ ?_ <;> (repeat' first | trivial | rfl | exact eqS _ _ | apply And.intro | apply eqA | apply eqB | apply eqC | apply eqD | apply eqE | apply eqF | apply eqG | apply eqH | apply eqI)
      simp [bl]
    have hsl : d.s.length ≤ 100000000 := by rw [hd2]; exact hl
    have e1 := hd1.1
    have e2 := hd1.2
    have e3 : d.c = 0 := hd3.1
    have e4 : d.p < d.e := hd3.2
    have hb1 := agw hd1 1
    have hb : d.byte.ok := hb1.1
    obtain ⟨b1, _⟩ := ace e3 e4
    have hbp : d.byte.p = d.p + 1 := by rw [b1]
    have hbe : d.byte.e = d.e := by rw [b1]
    have hbl := aap s
    obtain ⟨n, rfl⟩ : ∃ m, n = m + 1 := ⟨n - 1, by omega⟩
    rw [acw] at hd7
    repeat' ((conv => whnf); first | with_reducible (first | refine go1 (fun j q h => ?_) fun h => ?_ | refine go2 ⟨rfl, rfl⟩ (fun h => ?_) fun j h => ?_ | refine go2 ?_ (fun h => ?_) fun j h => ?_ | refine goQ ?_ (fun h => ?_) fun h => ?_) | refine go3 ?_ ?_ | refine go4 ?_ ?_ | refine go5 ?_ | ((first | refine go6 ?_ ?_ | refine go7 ?_ ?_ | refine go8 ?_ ?_ | refine go9 ?_ ?_ | refine goA ?_ ?_) <;> intro h) | with_reducible (first | refine aai.mk _ rfl ?_ | refine goB ?_ fun hc => ?_ | refine goC ?_ fun hc => ?_ | refine goD ?_ fun hc => ?_ | refine goE ?_ fun hc => ?_ | refine goF ?_ ?_ | refine goG ?_ ?_ | refine goH ?_ fun b hb => ?_) | refine goI ?_ | refine goJ ?_ ?_ | refine goK ?_ ?_ ?_ | refine goL ?_ ?_ ?_ ?_ | refine goM ?_ ?_ ?_ ?_ ?_ | refine goN ?_ ?_ | refine goO ?_ ?_ | with_reducible refine goP ?_)
    all_goals try conv => whnf
    all_goals try (refine aac.mk ?_; try dsimp only)
    all_goals (try simp only [aa3] at *)
    all_goals first
      | (refine stay ?_)
      | (first | trivial | omega | (simp (discharger := omega) only [wR]; omega) | (simp only [lnS]; omega) | (simp (discharger := omega) [-List.getD_eq_getElem?_getD, wR] <;> omega)) | skip
    · exact ⟨trivial, hd1, by rw [List.length_append]; omega⟩
    · have q := ap7.2 (by assumption)
      rw [if_pos q] at hd7
      have q2 : d.byte.has := by
        rcases Decidable.em d.byte.has with r | r
        · exact r
        · rw [ah2 r] at q; exact absurd q (by decide)
      refine ⟨[], (n, d.byte, s ++ [d.aa2]), ⟨hb, hb1.2.1.trans hd2, q2, q, by rw [hbe, hbp]; omega, by rw [List.length_append, List.length_singleton, hbp]; omega, hd7⟩, ?_, by show n < n + 1; omega⟩
      refine Go.VG.Sub.mk rfl ?_ ?_ ?_ ?_ <;> (repeat' first | trivial | rfl | exact eqS _ _ | apply And.intro | apply eqA | apply eqB | apply eqC | apply eqD | apply eqE | apply eqF | apply eqG | apply eqH | apply eqI)
      rw [aau, List.append_assoc]
    · have q := avn.2 (by assumption)
      rw [if_neg (by rw [q]; decide)] at hd7
      rw [← hd7]
      refine aa9.mk [] ?_ <;> (repeat' first | trivial | rfl | exact eqS _ _ | apply And.intro | apply eqA | apply eqB | apply eqC | apply eqD | apply eqE | apply eqF | apply eqG | apply eqH | apply eqI)
      rw [aau, List.append_assoc]
  · exact ⟨trivial, hf.1⟩
  · have q1 := avn.2 (by assumption)
    unfold Cu.aie
    rw [if_neg (by rw [q1]; decide), if_pos (by assumption)]
    refine aa9.mk [] ?_ <;> (repeat' first | trivial | rfl | exact eqS _ _ | apply And.intro | apply eqA | apply eqB | apply eqC | apply eqD | apply eqE | apply eqF | apply eqG | apply eqH | apply eqI)
    simp [bl]
  · have q1 := avn.2 (by assumption)
    unfold Cu.aie
    rw [if_neg (by rw [q1]; decide), if_neg (by assumption)]
    refine aa9.mk [] ?_ <;> (repeat' first | trivial | rfl | exact eqS _ _ | apply And.intro | apply eqA | apply eqB | apply eqC | apply eqD | apply eqE | apply eqF | apply eqG | apply eqH | apply eqI)
    simp [bl]
def akn : Sm := fun args σ => match args, σ with
  | [.ptr 0 0], [.cells [.ptr 1 0, .buf 2], .cells ([.str s_c, .int .i64 (.ofNat a_c), .int .i64 (.ofNat e_c), .int .i64 c_c]), .buf 1 0 o] => some (True ∧ ((Cu.mk s_c a_c e_c c_c).ok ∧ o.length ≤ 1500000000 ∧ (Cu.mk s_c a_c e_c c_c).s.length ≤ 100000000), .tuple [], some [.cells [.ptr 1 0, .buf 2], .cells (eC (Cu.mk s_c a_c e_c c_c).aie.1), .buf 1 0 (o ++ bl (Cu.mk s_c a_c e_c c_c).aie.2)])
  | _, _ => none
theorem a3u : SOK 98 akn := by
  intro args sg pre x r he hp
  unfold akn at he
  split at he <;> cases he
  · rw [acr (hp).1]; exact aw1 (hp := hp.2) ..
def Gd (c d : Cu) : Prop := d.ok ∧ d.s = c.s
theorem Gd.self {c : Cu} (h : c.ok) : Gd c c := ⟨h, rfl⟩
theorem Gd.eat {c d : Cu} {s : List UInt8} (h : Gd c d) : Gd c (d.a4x s) := ⟨(a5o h.1 s).1, (a5o h.1 s).2.1.trans h.2⟩
theorem Gd.aie {c d : Cu} (h : Gd c d) : Gd c d.aie.1 := ⟨(ayb h.1).1, (ayb h.1).2.1.trans h.2⟩
def Lb (c : Cu) (o : List V) (n : Nat) (l : List V) : Prop := l.length ≤ o.length + n * 100000001
theorem Lb.base {c : Cu} {o : List V} {n : Nat} : Lb c o n o := by unfold Lb; omega
theorem Lb.eat {c d : Cu} {o l : List V} {n : Nat} {s : List UInt8} (h : Lb c o n l) : Lb c o (n + 1) (l ++ bl (d.a91 s)) := by
  have := a9j d s
  unfold Lb at h ⊢
  rw [List.length_append, aap]; omega
theorem Lb.aie {c d : Cu} {o l : List V} {n : Nat} (hl : c.s.length ≤ 100000000) (hd : Gd c d) (h : Lb c o n l) : Lb c o (n + 1) (l ++ bl d.aie.2) := by
  have h1 := (ayb hd.1).2.2.2
  have h2 := hd.1.2
  rw [hd.2] at h2
  unfold Lb at h ⊢
  rw [List.length_append, aap]; omega
theorem Lb.fin {c : Cu} {o l : List V} (h : Lb c o 9 l) (ho : o.length ≤ 500000000) : l.length ≤ 1500000000 := by unfold Lb at h; omega
theorem le_2g {n : Nat} (h : n ≤ 1500000000) : n ≤ 2000000000 := by omega
theorem Gd.abh {c d : Cu} (h : Gd c d) : d.ok := h.1
theorem a2y (c : Cu) (o : List V) (hp : c.ok ∧ o.length ≤ 500000000 ∧ c.s.length ≤ 100000000) : OK 79 ([.ptr 0 0]) ([.cells [.ptr 1 0, .buf 2], .cells (eC c), .buf 1 0 o]) (.tuple []) (some [.cells [.ptr 1 0, .buf 2], .cells (eC c.a1g.1), .buf 1 0 (o ++ bl c.a1g.2)]) := by
  refine aa0 (C := cx [(97, auq), (98, akn)]) (abh ⟨bdo, a3u, trivial⟩) (fn := Try.f79) rfl rfl rfl rfl fun hw hs => ?_
  obtain ⟨hp, ho, hl⟩ := hp
  have gs : ∀ {d : Cu}, Gd c d → d.s.length ≤ 100000000 := fun h => by rw [h.2]; exact hl
  repeat' ((conv => whnf); first | with_reducible (first | refine go1 (fun j q h => ?_) fun h => ?_ | refine go2 ⟨rfl, rfl⟩ (fun h => ?_) fun j h => ?_ | refine go2 ?_ (fun h => ?_) fun j h => ?_ | refine goQ ?_ (fun h => ?_) fun h => ?_) | refine go3 ?_ ?_ | refine go4 ?_ ?_ | refine go5 ?_ | ((first | refine go6 ?_ ?_ | refine go7 ?_ ?_ | refine go8 ?_ ?_ | refine go9 ?_ ?_ | refine goA ?_ ?_) <;> intro h) | with_reducible (first | refine aai.mk _ rfl ?_ | refine goB ?_ fun hc => ?_ | refine goC ?_ fun hc => ?_ | refine goD ?_ fun hc => ?_ | refine goE ?_ fun hc => ?_ | refine goF ?_ ?_ | refine goG ?_ ?_ | refine goH ?_ fun b hb => ?_) | refine goI ?_ | refine goJ ?_ ?_ | refine goK ?_ ?_ ?_ | refine goL ?_ ?_ ?_ ?_ | refine goM ?_ ?_ ?_ ?_ ?_ | refine goN ?_ ?_ | refine goO ?_ ?_ | with_reducible refine goP ?_)
  all_goals try conv => whnf
  all_goals try (refine aac.mk ?_; try dsimp only)
  all_goals (try simp only [aa3] at *)
  all_goals first
    | (refine stay ?_)
    | (first | trivial | omega | (simp (discharger := omega) only [wR]; omega) | (simp only [lnS]; omega) | (simp (discharger := omega) [-List.getD_eq_getElem?_getD, wR] <;> omega)) | skip
  all_goals first
    | (refine (show True ∧ _ ∧ _ ∧ _ from ⟨trivial, ?_, ?_, ?_⟩) <;> first
        | decide
        | (refine Gd.abh (c := c) ?_
           repeat' (first | exact Gd.self hp | refine Gd.eat ?_ | refine Gd.aie ?_)
           done)
        | (refine gs ?_
           repeat' (first | exact Gd.self hp | refine Gd.eat ?_ | refine Gd.aie ?_)
           done)
        | (first | refine le_2g (Lb.fin (c := c) (o := o) ?_ ho) | refine Lb.fin (c := c) (o := o) ?_ ho
           repeat' (first | exact Lb.base | refine Lb.eat ?_ | refine Lb.aie hl ?_ ?_ | exact Gd.self hp | refine Gd.eat ?_ | refine Gd.aie ?_ | decide)
           done))
    | (refine (show True ∧ _ ∧ _ from ⟨trivial, ?_, ?_⟩) <;> first
        | (refine Gd.abh (c := c) ?_
           repeat' (first | exact Gd.self hp | refine Gd.eat ?_ | refine Gd.aie ?_)
           done)
        | (first | refine le_2g (Lb.fin (c := c) (o := o) ?_ ho) | refine Lb.fin (c := c) (o := o) ?_ ho
           repeat' (first | exact Lb.base | refine Lb.eat ?_ | refine Lb.aie hl ?_ ?_ | exact Gd.self hp | refine Gd.eat ?_ | refine Gd.aie ?_ | decide)
           done))
    | skip
  all_goals
    unfold Cu.a1g CO.whole
    first | rw [if_pos (aii.2 (by assumption))] | rw [if_neg (fun h => absurd (aii.1 h) (by assumption))]
    unfold CO.behind
    first | rw [if_pos (aii.2 (by assumption))] | rw [if_neg (fun h => absurd (aii.1 h) (by assumption))]
    unfold CO.a83
    first | rw [if_pos (aii.2 (by assumption))] | rw [if_neg (fun h => absurd (aii.1 h) (by assumption))]
    refine aa9.mk [] ?_ <;> (repeat' first | trivial | rfl | exact eqS _ _ | apply And.intro | apply eqA | apply eqB | apply eqC | apply eqD | apply eqE | apply eqF | apply eqG | apply eqH | apply eqI)
    all_goals (simp only [CO.eat, CO.aie, aau, List.append_assoc, List.nil_append]; done)
def aqg : Sm := fun args σ => match args, σ with
  | [.ptr 0 0], [.cells [.ptr 1 0, .buf 2], .cells ([.str s_c, .int .i64 (.ofNat a_c), .int .i64 (.ofNat e_c), .int .i64 c_c]), .buf 1 0 o] => some (True ∧ ((Cu.mk s_c a_c e_c c_c).ok ∧ o.length ≤ 500000000 ∧ (Cu.mk s_c a_c e_c c_c).s.length ≤ 100000000), .tuple [], some [.cells [.ptr 1 0, .buf 2], .cells (eC (Cu.mk s_c a_c e_c c_c).a1g.1), .buf 1 0 (o ++ bl (Cu.mk s_c a_c e_c c_c).a1g.2)])
  | _, _ => none
theorem baa : SOK 79 aqg := by
  intro args sg pre x r he hp
  unfold aqg at he
  split at he <;> cases he
  · rw [acr (hp).1]; exact a2y (hp := hp.2) ..
end Go.Proofs.Ytllncocibkgjkaa
