/-
  How the program reads a text of JSON: escapes, characters, the whole text.
-/
import Derived.Test.YtllncocibkgjkaaJSp
set_option linter.unusedSimpArgs false
set_option linter.unusedVariables false
set_option maxHeartbeats 4000000
namespace Go.Proofs.Ytllncocibkgjkaa
open Go Go.VG
set_option maxRecDepth 100000
theorem a5d : bl [] = [] := rfl
theorem atj (c : Cu) (o : List V) (hp : c.ok ∧ o.length ≤ 2000000000) : OK 77 ([.ptr 0 0]) ([.cells [.ptr 1 0, .buf 2], .cells (eC c), .buf 1 0 o]) (.tuple []) (some [.cells [.ptr 1 0, .buf 2], .cells (eC c.aol), .buf 1 0 (o ++ bl c.axx)]) := by
  refine aa0 (C := cx [(44, adn), (92, ako), (21, af2), (93, a07), (94, an7), (49, ae9)]) (abh ⟨agu, a3v, ak2, k_uPut, a6y, ahx, trivial⟩) (fn := Try.f77) rfl rfl rfl rfl fun hw hs => ?_
  obtain ⟨hp, ho⟩ := hp
  have h1 := abv hp
  have h2 := ax4 h1
  have hb : c.aa2.toNat < 256 := c.aa2.toNat_lt
  have hbb : byte c.aa2.toNat = c.aa2 := aaf _
  repeat' ((conv => whnf); first | with_reducible (first | refine go1 (fun j q h => ?_) fun h => ?_ | refine go2 ⟨rfl, rfl⟩ (fun h => ?_) fun j h => ?_ | refine go2 ?_ (fun h => ?_) fun j h => ?_ | refine goQ ?_ (fun h => ?_) fun h => ?_) | refine go3 ?_ ?_ | refine go4 ?_ ?_ | refine go5 ?_ | ((first | refine go6 ?_ ?_ | refine go7 ?_ ?_ | refine go8 ?_ ?_ | refine go9 ?_ ?_ | refine goA ?_ ?_) <;> intro h) | with_reducible (first | refine aai.mk _ rfl ?_ | refine goB ?_ fun hc => ?_ | refine goC ?_ fun hc => ?_ | refine goD ?_ fun hc => ?_ | refine goE ?_ fun hc => ?_ | refine goF ?_ ?_ | refine goG ?_ ?_ | refine goH ?_ fun b hb => ?_) | refine goI ?_ | refine goJ ?_ ?_ | refine goK ?_ ?_ ?_ | refine goL ?_ ?_ ?_ ?_ | refine goM ?_ ?_ ?_ ?_ ?_ | refine goN ?_ ?_ | refine goO ?_ ?_ | with_reducible refine goP ?_)
  all_goals try conv => whnf
  all_goals try (refine aac.mk ?_; try dsimp only)
  all_goals (try simp only [aa3] at *)
  all_goals first
    | (refine stay ?_)
    | (first | trivial | omega | (simp (discharger := omega) only [wR]; omega) | (simp only [lnS]; omega) | (simp (discharger := omega) [-List.getD_eq_getElem?_getD, wR] <;> omega)) | skip
  all_goals (try simp only [hbb] at *)
  all_goals first
    | exact ⟨a7v (by assumption), by omega⟩
    | skip
  all_goals
    first
    | (have hpl : ac1 c.aa2 = true := decide_eq_true (by assumption))
    | (have hpl : ac1 c.aa2 = false := decide_eq_false (by assumption))
    | (have hpl : ac1 c.aa2 = ac1 c.aa2 := rfl)
    unfold Cu.aol Cu.axx
    try rw [hpl]
    repeat (first | rw [if_pos (by first | rfl | omega)] | rw [if_neg (by first | exact Bool.false_ne_true | omega)])
    refine aa9.mk [] ?_ <;> (repeat' first | trivial | rfl | exact eqS _ _ | apply And.intro | apply eqA | apply eqB | apply eqC | apply eqD | apply eqE | apply eqF | apply eqG | apply eqH | apply eqI)
  all_goals (try rw [a5d, List.append_nil])
def aj1 : Sm := fun args σ => match args, σ with
  | [.ptr 0 0], [.cells [.ptr 1 0, .buf 2], .cells ([.str s_c, .int .i64 (.ofNat a_c), .int .i64 (.ofNat e_c), .int .i64 c_c]), .buf 1 0 o] => some (True ∧ ((Cu.mk s_c a_c e_c c_c).ok ∧ o.length ≤ 2000000000), .tuple [], some [.cells [.ptr 1 0, .buf 2], .cells (eC (Cu.mk s_c a_c e_c c_c).aol), .buf 1 0 (o ++ bl (Cu.mk s_c a_c e_c c_c).axx)])
  | _, _ => none
theorem az9 : SOK 77 aj1 := by
  intro args sg pre x r he hp
  unfold aj1 at he
  split at he <;> cases he
  · rw [acr (hp).1]; exact atj (hp := hp.2) ..
theorem asr {n : Nat} {d : Cu} {s : List UInt8} (h : n = 0 ∨ ¬ (d.c = 0 ∧ d.p < d.e) ∨ ¬ d.aa2.toNat / 64 * 64 = 128) : ae7 n d s = (d, s) := by
  cases n with
  | zero => rw [ae7]
  | succ n =>
    rw [ae7, if_neg]
    rw [age]; omega
theorem a1h {n : Nat} {d : Cu} {s : List UInt8} (h0 : 0 < n) (h : d.c = 0 ∧ d.p < d.e) (h2 : d.aa2.toNat / 64 * 64 = 128) : ae7 n d s = ae7 (n - 1) d.byte (s ++ [d.aa2]) := by
  cases n with
  | zero => omega
  | succ n =>
    rw [ae7, if_pos ⟨h.1, h.2, by rw [age]; have := d.aa2.toNat_lt; omega⟩]; rfl
def rawI (b : UInt8) (o : List V) (c : Cu) : Unit ⊕ (Nat × Cu × List UInt8) → AS
  | .inl _ => ⟨55, [(0, .ptr 0 0), (1, bv b), (4, .list true 1 [bv b]), (10, .int .i64 (adk b)), (11, .int .i64 0)], [.cells [.ptr 1 0, .buf 2], .cells (eC c), .buf 1 0 o], []⟩
  | .inr (k, d, s) => ⟨55, [(0, .ptr 0 0), (1, bv b), (4, .buf 3), (10, .int .i64 (adk b)), (11, .int .i64 k)], [.cells [.ptr 1 0, .buf 2], .cells (eC d), .buf 1 0 o, .buf 1 0 (bl s)], [3]⟩
def rawInv (b : UInt8) (c : Cu) : Unit ⊕ (Nat × Cu × List UInt8) → Prop
  | .inl _ => True
  | .inr (k, d, s) => 1 ≤ k ∧ k ≤ adk b ∧ d.ok ∧ s.length ≤ k + 1 ∧ ae7 (adk b - k) d s = ae7 (adk b) c [b]
def rawM (b : UInt8) : Unit ⊕ (Nat × Cu × List UInt8) → Nat
  | .inl _ => adk b
  | .inr (k, _, _) => adk b - k
theorem a69 (c : Cu) (o : List V) (b : UInt8) (hp : c.ok ∧ o.length ≤ 2000000000) : OK 78 ([.ptr 0 0, bv b]) ([.cells [.ptr 1 0, .buf 2], .cells (eC c), .buf 1 0 o]) (.tuple []) (some [.cells [.ptr 1 0, .buf 2], .cells (eC (c.arj b)), .buf 1 0 (o ++ bl (c.azo b))]) := by
  refine aa0 (C := cx [(95, aql), (43, agp), (44, adn), (96, ani), (49, ae9)]) (abh ⟨bag, amv, agu, a77, ahx, trivial⟩) (fn := Try.f78) rfl rfl rfl rfl fun hw hs => ?_
  obtain ⟨hp, ho⟩ := hp
  have hb : b.toNat < 256 := b.toNat_lt
  have hbb : byte b.toNat = b := aaf _
  have ht := a1x b
  repeat' ((conv => whnf); first | with_reducible (first | refine go1 (fun j q h => ?_) fun h => ?_ | refine go2 ⟨rfl, rfl⟩ (fun h => ?_) fun j h => ?_ | refine go2 ?_ (fun h => ?_) fun j h => ?_ | refine goQ ?_ (fun h => ?_) fun h => ?_) | refine go3 ?_ ?_ | refine go4 ?_ ?_ | refine go5 ?_ | ((first | refine go6 ?_ ?_ | refine go7 ?_ ?_ | refine go8 ?_ ?_ | refine go9 ?_ ?_ | refine goA ?_ ?_) <;> intro h) | with_reducible (first | refine aai.mk _ rfl ?_ | refine goB ?_ fun hc => ?_ | refine goC ?_ fun hc => ?_ | refine goD ?_ fun hc => ?_ | refine goE ?_ fun hc => ?_ | refine goF ?_ ?_ | refine goG ?_ ?_ | refine goH ?_ fun b hb => ?_) | refine goI ?_ | refine goJ ?_ ?_ | refine goK ?_ ?_ ?_ | refine goL ?_ ?_ ?_ ?_ | refine goM ?_ ?_ ?_ ?_ ?_ | refine goN ?_ ?_ | refine goO ?_ ?_ | with_reducible refine goP ?_)
  all_goals try conv => whnf
  all_goals try (refine aac.mk ?_; try dsimp only)
  all_goals (try simp only [aa3] at *)
  all_goals first
    | (refine stay ?_)
    | (first | trivial | omega | (simp (discharger := omega) only [wR]; omega) | (simp only [lnS]; omega) | (simp (discharger := omega) [-List.getD_eq_getElem?_getD, wR] <;> omega)) | skip
  rw [hbb]
  refine abt.mk _ (rawInv b c) (rawI b o c) (rawM b) [] (.inl ()) trivial ?_ (fun x hx _ _ => ?_)
  · refine Go.VG.Sub.mk rfl ?_ ?_ ?_ ?_ <;> (repeat' first | trivial | rfl | exact eqS _ _ | apply And.intro | apply eqA | apply eqB | apply eqC | apply eqD | apply eqE | apply eqF | apply eqG | apply eqH | apply eqI)
  match x, hx with
  | .inl _, _ =>
    have hc := c.aa2.toNat_lt
    have h192 := amf _ hc
    repeat' ((conv => whnf); first | with_reducible (first | refine go1 (fun j q h => ?_) fun h => ?_ | refine go2 ⟨rfl, rfl⟩ (fun h => ?_) fun j h => ?_ | refine go2 ?_ (fun h => ?_) fun j h => ?_ | refine goQ ?_ (fun h => ?_) fun h => ?_) | refine go3 ?_ ?_ | refine go4 ?_ ?_ | refine go5 ?_ | ((first | refine go6 ?_ ?_ | refine go7 ?_ ?_ | refine go8 ?_ ?_ | refine go9 ?_ ?_ | refine goA ?_ ?_) <;> intro h) | with_reducible (first | refine aai.mk _ rfl ?_ | refine goB ?_ fun hc => ?_ | refine goC ?_ fun hc => ?_ | refine goD ?_ fun hc => ?_ | refine goE ?_ fun hc => ?_ | refine goF ?_ ?_ | refine goG ?_ ?_ | refine goH ?_ fun b hb => ?_) | refine goI ?_ | refine goJ ?_ ?_ | refine goK ?_ ?_ ?_ | refine goL ?_ ?_ ?_ ?_ | refine goM ?_ ?_ ?_ ?_ ?_ | refine goN ?_ ?_ | refine goO ?_ ?_ | with_reducible refine goP ?_)
    all_goals try conv => whnf
    all_goals try (refine aac.mk ?_; try dsimp only)
    all_goals (try simp only [h192] at *)
    all_goals (try simp only [aa3] at *)
    all_goals first
      | (refine stay ?_)
      | (first | trivial | omega | (simp (discharger := omega) only [wR]; omega) | (simp only [lnS]; omega) | (simp (discharger := omega) [-List.getD_eq_getElem?_getD, wR] <;> omega)) | skip
    · refine ⟨[], .inr (1, c.byte, [b, c.aa2]), ⟨by omega, by omega, abv hp, by simp, ?_⟩, ?_, by show adk b - 1 < adk b; omega⟩
      · exact (a1h (n := adk b) (d := c) (s := [b]) (by omega) (by assumption) (by omega)).symm
      · refine Go.VG.Sub.mk rfl ?_ ?_ ?_ ?_ <;> (repeat' first | trivial | rfl | exact eqS _ _ | apply And.intro | apply eqA | apply eqB | apply eqC | apply eqD | apply eqE | apply eqF | apply eqG | apply eqH | apply eqI)
    all_goals
      have he : ae7 (adk b) c [b] = (c, [b]) := asr (by omega)
      unfold Cu.arj Cu.azo
      rw [he]
      first | rw [if_pos (by simp only [hbb] at *; omega), if_pos (by simp only [hbb] at *; omega)] | rw [if_neg (by simp only [hbb] at *; omega), if_neg (by simp only [hbb] at *; omega)]
      refine aa9.mk [] ?_ <;> (repeat' first | trivial | rfl | exact eqS _ _ | apply And.intro | apply eqA | apply eqB | apply eqC | apply eqD | apply eqE | apply eqF | apply eqG | apply eqH | apply eqI)
    all_goals (try rw [a5d, List.append_nil])
  | .inr (k, d, s), ⟨hk, hk2, hd, hs2, he⟩ =>
    have hc := d.aa2.toNat_lt
    have h192 := amf _ hc
    repeat' ((conv => whnf); first | with_reducible (first | refine go1 (fun j q h => ?_) fun h => ?_ | refine go2 ⟨rfl, rfl⟩ (fun h => ?_) fun j h => ?_ | refine go2 ?_ (fun h => ?_) fun j h => ?_ | refine goQ ?_ (fun h => ?_) fun h => ?_) | refine go3 ?_ ?_ | refine go4 ?_ ?_ | refine go5 ?_ | ((first | refine go6 ?_ ?_ | refine go7 ?_ ?_ | refine go8 ?_ ?_ | refine go9 ?_ ?_ | refine goA ?_ ?_) <;> intro h) | with_reducible (first | refine aai.mk _ rfl ?_ | refine goB ?_ fun hc => ?_ | refine goC ?_ fun hc => ?_ | refine goD ?_ fun hc => ?_ | refine goE ?_ fun hc => ?_ | refine goF ?_ ?_ | refine goG ?_ ?_ | refine goH ?_ fun b hb => ?_) | refine goI ?_ | refine goJ ?_ ?_ | refine goK ?_ ?_ ?_ | refine goL ?_ ?_ ?_ ?_ | refine goM ?_ ?_ ?_ ?_ ?_ | refine goN ?_ ?_ | refine goO ?_ ?_ | with_reducible refine goP ?_)
    all_goals try conv => whnf
    all_goals try (refine aac.mk ?_; try dsimp only)
    all_goals (try simp only [h192] at *)
    all_goals (try simp only [aa3] at *)
    all_goals first
      | (refine stay ?_)
      | (first | trivial | omega | (simp (discharger := omega) only [wR]; omega) | (simp only [lnS]; omega) | (simp (discharger := omega) [-List.getD_eq_getElem?_getD, wR] <;> omega)) | skip
    · refine ⟨[], .inr (k + 1, d.byte, s ++ [d.aa2]), ⟨by omega, by omega, abv hd, by simp; omega, ?_⟩, ?_, by show adk b - (k + 1) < adk b - k; omega⟩
      · have e := a1h (n := adk b - k) (d := d) (s := s) (by omega) (by assumption) (by omega)
        rw [← he, e, show adk b - k - 1 = adk b - (k + 1) by omega]
      · refine Go.VG.Sub.mk rfl ?_ ?_ ?_ ?_ <;> (repeat' first | trivial | rfl | exact eqS _ _ | apply And.intro | apply eqA | apply eqB | apply eqC | apply eqD | apply eqE | apply eqF | apply eqG | apply eqH | apply eqI)
        · (first | omega | (simp (discharger := omega) only [wR]; omega) | (simp only [lnS]; omega) | (simp (discharger := omega) [-List.getD_eq_getElem?_getD, wR] <;> omega))
        · rw [aau]; rfl
    all_goals
      rw [asr (by omega)] at he
      unfold Cu.arj Cu.azo
      rw [← he]
      first | rw [if_pos (by omega), if_pos (by omega)] | rw [if_neg (by omega), if_neg (by omega)]
      refine aa9.mk [] ?_ <;> (repeat' first | trivial | rfl | exact eqS _ _ | apply And.intro | apply eqA | apply eqB | apply eqC | apply eqD | apply eqE | apply eqF | apply eqG | apply eqH | apply eqI)
    all_goals (try rw [a5d, List.append_nil])
def aus : Sm := fun args σ => match args, σ with
  | [.ptr 0 0, .int .u8 n_b], [.cells [.ptr 1 0, .buf 2], .cells ([.str s_c, .int .i64 (.ofNat a_c), .int .i64 (.ofNat e_c), .int .i64 c_c]), .buf 1 0 o] => some ((0 ≤ n_b ∧ n_b ≤ 255) ∧ (True ∧ ((Cu.mk s_c a_c e_c c_c).ok ∧ o.length ≤ 2000000000)), .tuple [], some [.cells [.ptr 1 0, .buf 2], .cells (eC ((Cu.mk s_c a_c e_c c_c).arj (byte n_b))), .buf 1 0 (o ++ bl ((Cu.mk s_c a_c e_c c_c).azo (byte n_b)))])
  | _, _ => none
theorem bdq : SOK 78 aus := by
  intro args sg pre x r he hp
  unfold aus at he
  split at he <;> cases he
  · rw [af3 (hp).1]; rw [acr (hp.2).1]; exact a69 (hp := hp.2.2) ..
end Go.Proofs.Ytllncocibkgjkaa
