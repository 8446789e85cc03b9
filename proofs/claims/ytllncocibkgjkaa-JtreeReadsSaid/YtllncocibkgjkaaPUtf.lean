/-
  Characters: the document's.
-/
import Derived.Test.YtllncocibkgjkaaTxt0
set_option linter.unusedSimpArgs false
set_option linter.unusedVariables false
set_option maxHeartbeats 4000000
namespace Go.Proofs.Ytllncocibkgjkaa
open Go Go.VG
set_option maxRecDepth 100000
def uGo (s : List UInt8) : Nat → Nat → Int → Int
  | 0, _, n => n
  | r + 1, i, n => if s.length ≤ i then -1 else uGo s r (i + 1) (64 * n + ((s.getD i 0).toNat : Int) - 128)
def aah (s : List UInt8) : Int :=
  if (s.getD 0 0).toNat < 128 then ((s.getD 0 0).toNat : Int)
  else if 240 ≤ (s.getD 0 0).toNat then uGo s 3 1 (((s.getD 0 0).toNat : Int) - 240)
  else if 224 ≤ (s.getD 0 0).toNat then uGo s 2 1 (((s.getD 0 0).toNat : Int) - 224)
  else uGo s 1 1 (((s.getD 0 0).toNat : Int) - 192)
theorem a9x (s : List UInt8) (h0 : 0 < s.length) (hs : s.length ≤ 10000000) : OK 120 [.str s] [] (.int .i64 (aah s)) none := by
  refine aa0 (C := cx []) (abh trivial) (fn := Try.f120) rfl rfl rfl rfl fun _ _ => ?_
  have hc0 : (s.getD 0 0).toNat < 256 := UInt8.toNat_lt _
  have hw0 : IntKind.i64.wrap ((s.getD (Int.toNat 0) 0).toNat : Int) = ((s.getD 0 0).toNat : Int) := by
    have e : Int.toNat 0 = 0 := rfl
    rw [e, a27] <;> omega
  repeat' ((conv => whnf); first | with_reducible (first | refine go1 (fun j q h => ?_) fun h => ?_ | refine go2 ⟨rfl, rfl⟩ (fun h => ?_) fun j h => ?_ | refine go2 ?_ (fun h => ?_) fun j h => ?_ | refine goQ ?_ (fun h => ?_) fun h => ?_) | refine go3 ?_ ?_ | refine go4 ?_ ?_ | refine go5 ?_ | ((first | refine go6 ?_ ?_ | refine go7 ?_ ?_ | refine go8 ?_ ?_ | refine go9 ?_ ?_ | refine goA ?_ ?_) <;> intro h) | with_reducible (first | refine aai.mk _ rfl ?_ | refine goB ?_ fun hc => ?_ | refine goC ?_ fun hc => ?_ | refine goD ?_ fun hc => ?_ | refine goE ?_ fun hc => ?_ | refine goF ?_ ?_ | refine goG ?_ ?_ | refine goH ?_ fun b hb => ?_) | refine goI ?_ | refine goJ ?_ ?_ | refine goK ?_ ?_ ?_ | refine goL ?_ ?_ ?_ ?_ | refine goM ?_ ?_ ?_ ?_ ?_ | refine goN ?_ ?_ | refine goO ?_ ?_ | with_reducible refine goP ?_)
  all_goals try conv => whnf
  all_goals try (refine aac.mk ?_; try dsimp only)
  all_goals first
    | (refine stay ?_)
    | (first | trivial | omega | (simp (discharger := omega) only [wR]; omega) | (simp only [lnS]; omega) | (simp (discharger := omega) [-List.getD_eq_getElem?_getD, wR] <;> omega)) | skip
  all_goals simp only [hw0] at *
  · refine aa9.mk [] ?_ <;> (repeat' first | trivial | rfl | exact eqS _ _ | apply And.intro | apply eqA | apply eqB | apply eqC | apply eqD | apply eqE | apply eqF | apply eqG | apply eqH | apply eqI)
    unfold aah
    rw [if_pos (by omega)]
  · have hg : aah s = uGo s 3 1 (((s.getD 0 0).toNat : Int) - 240) := by
      unfold aah
      repeat (first | rw [if_pos (by (first | omega | (simp (discharger := omega) only [wR]; omega) | (simp only [lnS]; omega) | (simp (discharger := omega) [-List.getD_eq_getElem?_getD, wR] <;> omega)))] | rw [if_neg (by (first | omega | (simp (discharger := omega) only [wR]; omega) | (simp only [lnS]; omega) | (simp (discharger := omega) [-List.getD_eq_getElem?_getD, wR] <;> omega)))])
    refine abt.mk (Nat × Int) (fun | (i, n) => i ≤ 3 + 1 ∧ uGo s (3 + 1 - i) i n = aah s ∧ ((i = 1 ∧ -64 ≤ n ∧ n ≤ 64) ∨ (i = 2 ∧ -4300 ≤ n ∧ n ≤ 4300) ∨ (i = 3 ∧ -300000 ≤ n ∧ n ≤ 300000) ∨ (i = 4 ∧ -20000000 ≤ n ∧ n ≤ 20000000)))
      (fun | (i, n) => ⟨41, [(6, .int .i64 i), (5, .int .i64 3), (4, .int .i64 n), (0, .str s)], [], []⟩) (fun x => 3 + 1 - x.1) [] (1, ((s.getD 0 0).toNat : Int) - 240) ⟨by omega, hg.symm, by (first | omega | (simp (discharger := omega) only [wR]; omega) | (simp only [lnS]; omega) | (simp (discharger := omega) [-List.getD_eq_getElem?_getD, wR] <;> omega))⟩ ?_ (fun ⟨i, n⟩ ⟨hi, he, hb⟩ _ _ => ?_)
    · refine Go.VG.Sub.mk rfl ?_ ?_ ?_ ?_ <;> (repeat' first | trivial | rfl | exact eqS _ _ | apply And.intro | apply eqA | apply eqB | apply eqC | apply eqD | apply eqE | apply eqF | apply eqG | apply eqH | apply eqI)
      all_goals (first | omega | (simp (discharger := omega) only [wR]; omega) | (simp only [lnS]; omega) | (simp (discharger := omega) [-List.getD_eq_getElem?_getD, wR] <;> omega))
    have hci : (s.getD i 0).toNat < 256 := UInt8.toNat_lt _
    repeat' ((conv => whnf); first | with_reducible (first | refine go1 (fun j q h => ?_) fun h => ?_ | refine go2 ⟨rfl, rfl⟩ (fun h => ?_) fun j h => ?_ | refine go2 ?_ (fun h => ?_) fun j h => ?_ | refine goQ ?_ (fun h => ?_) fun h => ?_) | refine go3 ?_ ?_ | refine go4 ?_ ?_ | refine go5 ?_ | ((first | refine go6 ?_ ?_ | refine go7 ?_ ?_ | refine go8 ?_ ?_ | refine go9 ?_ ?_ | refine goA ?_ ?_) <;> intro h) | with_reducible (first | refine aai.mk _ rfl ?_ | refine goB ?_ fun hc => ?_ | refine goC ?_ fun hc => ?_ | refine goD ?_ fun hc => ?_ | refine goE ?_ fun hc => ?_ | refine goF ?_ ?_ | refine goG ?_ ?_ | refine goH ?_ fun b hb => ?_) | refine goI ?_ | refine goJ ?_ ?_ | refine goK ?_ ?_ ?_ | refine goL ?_ ?_ ?_ ?_ | refine goM ?_ ?_ ?_ ?_ ?_ | refine goN ?_ ?_ | refine goO ?_ ?_ | with_reducible refine goP ?_)
    all_goals try conv => whnf
    all_goals try (refine aac.mk ?_; try dsimp only)
    all_goals first
      | (refine stay ?_)
      | (first | trivial | omega | (simp (discharger := omega) only [wR]; omega) | (simp only [lnS]; omega) | (simp (discharger := omega) [-List.getD_eq_getElem?_getD, wR] <;> omega)) | skip
    · refine aa9.mk [] ?_ <;> (repeat' first | trivial | rfl | exact eqS _ _ | apply And.intro | apply eqA | apply eqB | apply eqC | apply eqD | apply eqE | apply eqF | apply eqG | apply eqH | apply eqI)
      rw [← he, show 3 + 1 - i = (3 - i) + 1 by omega, uGo, if_pos (by omega)]
    · rw [show 3 + 1 - i = (3 - i) + 1 by omega, uGo, if_neg (by omega)] at he
      refine ⟨[], (i + 1, 64 * n + ((s.getD i 0).toNat : Int) - 128), ⟨by omega, ?_, ?_⟩, ?_, ?_⟩
      · rw [show 3 + 1 - (i + 1) = 3 - i by omega]; exact he
      · (first | omega | (simp (discharger := omega) only [wR]; omega) | (simp only [lnS]; omega) | (simp (discharger := omega) [-List.getD_eq_getElem?_getD, wR] <;> omega))
      · refine Go.VG.Sub.mk rfl ?_ ?_ ?_ ?_ <;> (repeat' first | trivial | rfl | exact eqS _ _ | apply And.intro | apply eqA | apply eqB | apply eqC | apply eqD | apply eqE | apply eqF | apply eqG | apply eqH | apply eqI)
        all_goals (first | omega | (simp (discharger := omega) only [wR]; omega) | (simp only [lnS]; omega) | (simp (discharger := omega) [-List.getD_eq_getElem?_getD, wR] <;> omega))
      · (first | omega | (simp (discharger := omega) only [wR]; omega) | (simp only [lnS]; omega) | (simp (discharger := omega) [-List.getD_eq_getElem?_getD, wR] <;> omega))
    · refine aa9.mk [] ?_ <;> (repeat' first | trivial | rfl | exact eqS _ _ | apply And.intro | apply eqA | apply eqB | apply eqC | apply eqD | apply eqE | apply eqF | apply eqG | apply eqH | apply eqI)
      rw [show 3 + 1 - i = 0 by omega, uGo] at he
      exact he
  · have hg : aah s = uGo s 2 1 (((s.getD 0 0).toNat : Int) - 224) := by
      unfold aah
      repeat (first | rw [if_pos (by (first | omega | (simp (discharger := omega) only [wR]; omega) | (simp only [lnS]; omega) | (simp (discharger := omega) [-List.getD_eq_getElem?_getD, wR] <;> omega)))] | rw [if_neg (by (first | omega | (simp (discharger := omega) only [wR]; omega) | (simp only [lnS]; omega) | (simp (discharger := omega) [-List.getD_eq_getElem?_getD, wR] <;> omega)))])
    refine abt.mk (Nat × Int) (fun | (i, n) => i ≤ 2 + 1 ∧ uGo s (2 + 1 - i) i n = aah s ∧ ((i = 1 ∧ -64 ≤ n ∧ n ≤ 64) ∨ (i = 2 ∧ -4300 ≤ n ∧ n ≤ 4300) ∨ (i = 3 ∧ -300000 ≤ n ∧ n ≤ 300000) ∨ (i = 4 ∧ -20000000 ≤ n ∧ n ≤ 20000000)))
      (fun | (i, n) => ⟨41, [(6, .int .i64 i), (5, .int .i64 2), (4, .int .i64 n), (0, .str s)], [], []⟩) (fun x => 2 + 1 - x.1) [] (1, ((s.getD 0 0).toNat : Int) - 224) ⟨by omega, hg.symm, by (first | omega | (simp (discharger := omega) only [wR]; omega) | (simp only [lnS]; omega) | (simp (discharger := omega) [-List.getD_eq_getElem?_getD, wR] <;> omega))⟩ ?_ (fun ⟨i, n⟩ ⟨hi, he, hb⟩ _ _ => ?_)
    · refine Go.VG.Sub.mk rfl ?_ ?_ ?_ ?_ <;> (repeat' first | trivial | rfl | exact eqS _ _ | apply And.intro | apply eqA | apply eqB | apply eqC | apply eqD | apply eqE | apply eqF | apply eqG | apply eqH | apply eqI)
      all_goals (first | omega | (simp (discharger := omega) only [wR]; omega) | (simp only [lnS]; omega) | (simp (discharger := omega) [-List.getD_eq_getElem?_getD, wR] <;> omega))
    have hci : (s.getD i 0).toNat < 256 := UInt8.toNat_lt _
    repeat' ((conv => whnf); first | with_reducible (first | refine go1 (fun j q h => ?_) fun h => ?_ | refine go2 ⟨rfl, rfl⟩ (fun h => ?_) fun j h => ?_ | refine go2 ?_ (fun h => ?_) fun j h => ?_ | refine goQ ?_ (fun h => ?_) fun h => ?_) | refine go3 ?_ ?_ | refine go4 ?_ ?_ | refine go5 ?_ | ((first | refine go6 ?_ ?_ | refine go7 ?_ ?_ | refine go8 ?_ ?_ | refine go9 ?_ ?_ | refine goA ?_ ?_) <;> intro h) | with_reducible (first | refine aai.mk _ rfl ?_ | refine goB ?_ fun hc => ?_ | refine goC ?_ fun hc => ?_ | refine goD ?_ fun hc => ?_ | refine goE ?_ fun hc => ?_ | refine goF ?_ ?_ | refine goG ?_ ?_ | refine goH ?_ fun b hb => ?_) | refine goI ?_ | refine goJ ?_ ?_ | refine goK ?_ ?_ ?_ | refine goL ?_ ?_ ?_ ?_ | refine goM ?_ ?_ ?_ ?_ ?_ | refine goN ?_ ?_ | refine goO ?_ ?_ | with_reducible refine goP ?_)
    all_goals try conv => whnf
    all_goals try (refine aac.mk ?_; try dsimp only)
    all_goals first
      | (refine stay ?_)
      | (first | trivial | omega | (simp (discharger := omega) only [wR]; omega) | (simp only [lnS]; omega) | (simp (discharger := omega) [-List.getD_eq_getElem?_getD, wR] <;> omega)) | skip
    · refine aa9.mk [] ?_ <;> (repeat' first | trivial | rfl | exact eqS _ _ | apply And.intro | apply eqA | apply eqB | apply eqC | apply eqD | apply eqE | apply eqF | apply eqG | apply eqH | apply eqI)
      rw [← he, show 2 + 1 - i = (2 - i) + 1 by omega, uGo, if_pos (by omega)]
    · rw [show 2 + 1 - i = (2 - i) + 1 by omega, uGo, if_neg (by omega)] at he
      refine ⟨[], (i + 1, 64 * n + ((s.getD i 0).toNat : Int) - 128), ⟨by omega, ?_, ?_⟩, ?_, ?_⟩
      · rw [show 2 + 1 - (i + 1) = 2 - i by omega]; exact he
      · (first | omega | (simp (discharger := omega) only [wR]; omega) | (simp only [lnS]; omega) | (simp (discharger := omega) [-List.getD_eq_getElem?_getD, wR] <;> omega))
      · refine Go.VG.Sub.mk rfl ?_ ?_ ?_ ?_ <;> (repeat' first | trivial | rfl | exact eqS _ _ | apply And.intro | apply eqA | apply eqB | apply eqC | apply eqD | apply eqE | apply eqF | apply eqG | apply eqH | apply eqI)
        all_goals (first | omega | (simp (discharger := omega) only [wR]; omega) | (simp only [lnS]; omega) | (simp (discharger := omega) [-List.getD_eq_getElem?_getD, wR] <;> omega))
      · (first | omega | (simp (discharger := omega) only [wR]; omega) | (simp only [lnS]; omega) | (simp (discharger := omega) [-List.getD_eq_getElem?_getD, wR] <;> omega))
    · refine aa9.mk [] ?_ <;> (repeat' first | trivial | rfl | exact eqS _ _ | apply And.intro | apply eqA | apply eqB | apply eqC | apply eqD | apply eqE | apply eqF | apply eqG | apply eqH | apply eqI)
      rw [show 2 + 1 - i = 0 by omega, uGo] at he
      exact he
  · have hg : aah s = uGo s 1 1 (((s.getD 0 0).toNat : Int) - 192) := by
      unfold aah
      repeat (first | rw [if_pos (by (first | omega | (simp (discharger := omega) only [wR]; omega) | (simp only [lnS]; omega) | (simp (discharger := omega) [-List.getD_eq_getElem?_getD, wR] <;> omega)))] | rw [if_neg (by (first | omega | (simp (discharger := omega) only [wR]; omega) | (simp only [lnS]; omega) | (simp (discharger := omega) [-List.getD_eq_getElem?_getD, wR] <;> omega)))])
    refine abt.mk (Nat × Int) (fun | (i, n) => i ≤ 1 + 1 ∧ uGo s (1 + 1 - i) i n = aah s ∧ ((i = 1 ∧ -64 ≤ n ∧ n ≤ 64) ∨ (i = 2 ∧ -4300 ≤ n ∧ n ≤ 4300) ∨ (i = 3 ∧ -300000 ≤ n ∧ n ≤ 300000) ∨ (i = 4 ∧ -20000000 ≤ n ∧ n ≤ 20000000)))
      (fun | (i, n) => ⟨41, [(6, .int .i64 i), (5, .int .i64 1), (4, .int .i64 n), (0, .str s)], [], []⟩) (fun x => 1 + 1 - x.1) [] (1, ((s.getD 0 0).toNat : Int) - 192) ⟨by omega, hg.symm, by (first | omega | (simp (discharger := omega) only [wR]; omega) | (simp only [lnS]; omega) | (simp (discharger := omega) [-List.getD_eq_getElem?_getD, wR] <;> omega))⟩ ?_ (fun ⟨i, n⟩ ⟨hi, he, hb⟩ _ _ => ?_)
    · refine Go.VG.Sub.mk rfl ?_ ?_ ?_ ?_ <;> (repeat' first | trivial | rfl | exact eqS _ _ | apply And.intro | apply eqA | apply eqB | apply eqC | apply eqD | apply eqE | apply eqF | apply eqG | apply eqH | apply eqI)
      all_goals (first | omega | (simp (discharger := omega) only [wR]; omega) | (simp only [lnS]; omega) | (simp (discharger := omega) [-List.getD_eq_getElem?_getD, wR] <;> omega))
    have hci : (s.getD i 0).toNat < 256 := UInt8.toNat_lt _
    repeat' ((conv => whnf); first | with_reducible (first | refine go1 (fun j q h => ?_) fun h => ?_ | refine go2 ⟨rfl, rfl⟩ (fun h => ?_) fun j h => ?_ | refine go2 ?_ (fun h => ?_) fun j h => ?_ | refine goQ ?_ (fun h => ?_) fun h => ?_) | refine go3 ?_ ?_ | refine go4 ?_ ?_ | refine go5 ?_ | ((first | refine go6 ?_ ?_ | refine go7 ?_ ?_ | refine go8 ?_ ?_ | refine go9 ?_ ?_ | refine goA ?_ ?_) <;> intro h) | with_reducible (first | refine aai.mk _ rfl ?_ | refine goB ?_ fun hc => ?_ | refine goC ?_ fun hc => ?_ | refine goD ?_ fun hc => ?_ | refine goE ?_ fun hc => ?_ | refine goF ?_ ?_ | refine goG ?_ ?_ | refine goH ?_ fun b hb => ?_) | refine goI ?_ | refine goJ ?_ ?_ | refine goK ?_ ?_ ?_ | refine goL ?_ ?_ ?_ ?_ | refine goM ?_ ?_ ?_ ?_ ?_ | refine goN ?_ ?_ | refine goO ?_ ?_ | with_reducible refine goP ?_)
    all_goals try conv => whnf
    all_goals try (refine aac.mk ?_; try dsimp only)
    all_goals first
      | (refine stay ?_)
      | (first | trivial | omega | (simp (discharger := omega) only [wR]; omega) | (simp only [lnS]; omega) | (simp (discharger := omega) [-List.getD_eq_getElem?_getD, wR] <;> omega)) | skip
    · refine aa9.mk [] ?_ <;> (repeat' first | trivial | rfl | exact eqS _ _ | apply And.intro | apply eqA | apply eqB | apply eqC | apply eqD | apply eqE | apply eqF | apply eqG | apply eqH | apply eqI)
      rw [← he, show 1 + 1 - i = (1 - i) + 1 by omega, uGo, if_pos (by omega)]
    · rw [show 1 + 1 - i = (1 - i) + 1 by omega, uGo, if_neg (by omega)] at he
      refine ⟨[], (i + 1, 64 * n + ((s.getD i 0).toNat : Int) - 128), ⟨by omega, ?_, ?_⟩, ?_, ?_⟩
      · rw [show 1 + 1 - (i + 1) = 1 - i by omega]; exact he
      · (first | omega | (simp (discharger := omega) only [wR]; omega) | (simp only [lnS]; omega) | (simp (discharger := omega) [-List.getD_eq_getElem?_getD, wR] <;> omega))
      · refine Go.VG.Sub.mk rfl ?_ ?_ ?_ ?_ <;> (repeat' first | trivial | rfl | exact eqS _ _ | apply And.intro | apply eqA | apply eqB | apply eqC | apply eqD | apply eqE | apply eqF | apply eqG | apply eqH | apply eqI)
        all_goals (first | omega | (simp (discharger := omega) only [wR]; omega) | (simp only [lnS]; omega) | (simp (discharger := omega) [-List.getD_eq_getElem?_getD, wR] <;> omega))
      · (first | omega | (simp (discharger := omega) only [wR]; omega) | (simp only [lnS]; omega) | (simp (discharger := omega) [-List.getD_eq_getElem?_getD, wR] <;> omega))
    · refine aa9.mk [] ?_ <;> (repeat' first | trivial | rfl | exact eqS _ _ | apply And.intro | apply eqA | apply eqB | apply eqC | apply eqD | apply eqE | apply eqF | apply eqG | apply eqH | apply eqI)
      rw [show 1 + 1 - i = 0 by omega, uGo] at he
      exact he
def aqr : Sm := fun args σ => match args, σ with
  | [.str s], [] => some (0 < s.length ∧ s.length ≤ 10000000, .int .i64 (aah s), none)
  | _, _ => none
theorem ban : SOK 120 aqr := by
  intro args sg pre x r he hp
  unfold aqr at he
  split at he <;> cases he
  exact a9x _ hp.1 hp.2
def uIs (r : Int) : Bool := decide (0 ≤ r ∧ r ≤ 1114111 ∧ (r < 55296 ∨ 57343 < r))
theorem f_uIs (r : Int) (h0 : 0 ≤ r) (h1 : r ≤ 1114111) : OK 121 [.int .i32 r] [] (.bool (uIs r)) none := by
  refine aa0 (C := cx []) (abh trivial) (fn := Try.f121) rfl rfl rfl rfl fun _ _ => ?_
  repeat' ((conv => whnf); first | with_reducible (first | refine go1 (fun j q h => ?_) fun h => ?_ | refine go2 ⟨rfl, rfl⟩ (fun h => ?_) fun j h => ?_ | refine go2 ?_ (fun h => ?_) fun j h => ?_ | refine goQ ?_ (fun h => ?_) fun h => ?_) | refine go3 ?_ ?_ | refine go4 ?_ ?_ | refine go5 ?_ | ((first | refine go6 ?_ ?_ | refine go7 ?_ ?_ | refine go8 ?_ ?_ | refine go9 ?_ ?_ | refine goA ?_ ?_) <;> intro h) | with_reducible (first | refine aai.mk _ rfl ?_ | refine goB ?_ fun hc => ?_ | refine goC ?_ fun hc => ?_ | refine goD ?_ fun hc => ?_ | refine goE ?_ fun hc => ?_ | refine goF ?_ ?_ | refine goG ?_ ?_ | refine goH ?_ fun b hb => ?_) | refine goI ?_ | refine goJ ?_ ?_ | refine goK ?_ ?_ ?_ | refine goL ?_ ?_ ?_ ?_ | refine goM ?_ ?_ ?_ ?_ ?_ | refine goN ?_ ?_ | refine goO ?_ ?_ | with_reducible refine goP ?_)
  all_goals try conv => whnf
  all_goals try (refine aac.mk ?_; try dsimp only)
  all_goals first
    | (refine stay ?_)
    | (first | trivial | omega | (simp (discharger := omega) only [wR]; omega) | (simp only [lnS]; omega) | (simp (discharger := omega) [-List.getD_eq_getElem?_getD, wR] <;> omega)) | skip
  all_goals
    refine aa9.mk [] ?_ <;> (repeat' first | trivial | rfl | exact eqS _ _ | apply And.intro | apply eqA | apply eqB | apply eqC | apply eqD | apply eqE | apply eqF | apply eqG | apply eqH | apply eqI)
    try unfold uIs
  all_goals first
      | exact (decide_eq_true (by omega)).symm
      | exact (decide_eq_false (by omega)).symm
      | exact decide_eq_decide.2 (by constructor <;> intro _ <;> omega)
def a8r : Sm := fun args σ => match args, σ with
  | [.int .i32 r], [] => some (0 ≤ r ∧ r ≤ 1114111, .bool (uIs r), none)
  | _, _ => none
theorem k_uIs : SOK 121 a8r := by
  intro args sg pre x r he hp
  unfold a8r at he
  split at he <;> cases he
  exact f_uIs _ hp.1 hp.2
def aaj (n : Int) : List UInt8 :=
  if n < 128 then [byte n]
  else if n < 2048 then [byte (192 + n / 64), byte (128 + n % 64)]
  else if n < 65536 then [byte (224 + n / 4096), byte (128 + n / 64 % 64), byte (128 + n % 64)]
  else [byte (240 + n / 262144), byte (128 + n / 4096 % 64), byte (128 + n / 64 % 64), byte (128 + n % 64)]
theorem a9w (n : Int) (h0 : 0 ≤ n) (h1 : n ≤ 1114111) : OK 119 [.int .i32 n] [] (.str (aaj n)) none := by
  refine aa0 (C := cx []) (abh trivial) (fn := Try.f119) rfl rfl rfl rfl fun _ _ => ?_
  have hw : IntKind.i64.wrap n = n := by rw [a27]; omega
  have q1 : n.tdiv 64 = n / 64 := Int.tdiv_eq_ediv_of_nonneg h0
  repeat' ((conv => whnf); first | with_reducible (first | refine go1 (fun j q h => ?_) fun h => ?_ | refine go2 ⟨rfl, rfl⟩ (fun h => ?_) fun j h => ?_ | refine go2 ?_ (fun h => ?_) fun j h => ?_ | refine goQ ?_ (fun h => ?_) fun h => ?_) | refine go3 ?_ ?_ | refine go4 ?_ ?_ | refine go5 ?_ | ((first | refine go6 ?_ ?_ | refine go7 ?_ ?_ | refine go8 ?_ ?_ | refine go9 ?_ ?_ | refine goA ?_ ?_) <;> intro h) | with_reducible (first | refine aai.mk _ rfl ?_ | refine goB ?_ fun hc => ?_ | refine goC ?_ fun hc => ?_ | refine goD ?_ fun hc => ?_ | refine goE ?_ fun hc => ?_ | refine goF ?_ ?_ | refine goG ?_ ?_ | refine goH ?_ fun b hb => ?_) | refine goI ?_ | refine goJ ?_ ?_ | refine goK ?_ ?_ ?_ | refine goL ?_ ?_ ?_ ?_ | refine goM ?_ ?_ ?_ ?_ ?_ | refine goN ?_ ?_ | refine goO ?_ ?_ | with_reducible refine goP ?_)
  all_goals try conv => whnf
  all_goals try (refine aac.mk ?_; try dsimp only)
  all_goals first
    | (refine stay ?_)
    | (first | trivial | omega | (simp (discharger := omega) only [wR]; omega) | (simp only [lnS]; omega) | (simp (discharger := omega) [-List.getD_eq_getElem?_getD, wR] <;> omega)) | skip
  all_goals simp only [hw] at *
  all_goals
    refine aa9.mk [] ?_ <;> (repeat' first | trivial | rfl | exact eqS _ _ | apply And.intro | apply eqA | apply eqB | apply eqC | apply eqD | apply eqE | apply eqF | apply eqG | apply eqH | apply eqI)
    unfold aaj
    repeat (first | rw [if_pos (by omega)] | rw [if_neg (by omega)])
    repeat' (first | rfl | refine congrArg byte ?_ | refine ap5 ?_ ?_)
    all_goals (first | omega | (simp (discharger := omega) only [wR]; omega) | (simp only [lnS]; omega) | (simp (discharger := omega) [-List.getD_eq_getElem?_getD, wR] <;> omega))
def aj6 : Sm := fun args σ => match args, σ with
  | [.int .i32 n], [] => some (0 ≤ n ∧ n ≤ 1114111, .str (aaj n), none)
  | _, _ => none
theorem au1 : SOK 119 aj6 := by
  intro args sg pre x r he hp
  unfold aj6 at he
  split at he <;> cases he
  exact a9w _ hp.1 hp.2
theorem ahm (n : Int) : 1 ≤ (aaj n).length ∧ (aaj n).length ≤ 4 := by
  unfold aaj
  repeat' split
  all_goals simp
def abr (s : List UInt8) (i : Nat) : Int × Nat :=
  if s.length ≤ i then (0, 0)
  else if aah (s.drop i) < 0 ∨ 1114111 < aah (s.drop i) ∨ uIs (aah (s.drop i)) = false then (0, 0)
  else if (s.drop i).take (aaj (aah (s.drop i))).length = aaj (aah (s.drop i)) then (aah (s.drop i), (aaj (aah (s.drop i))).length)
  else (0, 0)
theorem bdb (s : List UInt8) (i : Nat) (hs : s.length ≤ 10000000) : OK 100 [.str s, .int .i64 i] [] (.tuple [.int .i32 (abr s i).1, .int .i64 (abr s i).2]) none := by
  refine aa0 (C := cx [(120, aqr), (121, a8r), (119, aj6)]) (abh ⟨ban, k_uIs, au1, trivial⟩) (fn := Try.f100) rfl rfl rfl rfl fun hw _ => ?_
  have hl := ahm (aah (s.drop i))
  have hg : 0 ≤ aah (s.drop i) → aah (s.drop i) ≤ 1114111 → IntKind.i32.wrap (aah (s.drop i)) = aah (s.drop i) := fun a b => by rw [a97]; omega
  have hr : abr s i = if s.length ≤ i then (0, 0)
    else if aah (s.drop i) < 0 ∨ 1114111 < aah (s.drop i) ∨ uIs (aah (s.drop i)) = false then (0, 0)
    else if (s.drop i).take (aaj (aah (s.drop i))).length = aaj (aah (s.drop i)) then (aah (s.drop i), (aaj (aah (s.drop i))).length)
    else (0, 0) := rfl
  repeat' ((conv => whnf); first | with_reducible (first | refine go1 (fun j q h => ?_) fun h => ?_ | refine go2 ⟨rfl, rfl⟩ (fun h => ?_) fun j h => ?_ | refine go2 ?_ (fun h => ?_) fun j h => ?_ | refine goQ ?_ (fun h => ?_) fun h => ?_) | refine go3 ?_ ?_ | refine go4 ?_ ?_ | refine go5 ?_ | ((first | refine go6 ?_ ?_ | refine go7 ?_ ?_ | refine go8 ?_ ?_ | refine go9 ?_ ?_ | refine goA ?_ ?_) <;> intro h) | with_reducible (first | refine aai.mk _ rfl ?_ | refine goB ?_ fun hc => ?_ | refine goC ?_ fun hc => ?_ | refine goD ?_ fun hc => ?_ | refine goE ?_ fun hc => ?_ | refine goF ?_ ?_ | refine goG ?_ ?_ | refine goH ?_ fun b hb => ?_) | refine goI ?_ | refine goJ ?_ ?_ | refine goK ?_ ?_ ?_ | refine goL ?_ ?_ ?_ ?_ | refine goM ?_ ?_ ?_ ?_ ?_ | refine goN ?_ ?_ | refine goO ?_ ?_ | with_reducible refine goP ?_)
  all_goals try conv => whnf
  all_goals try (refine aac.mk ?_; try dsimp only)
  all_goals first
    | (refine stay ?_)
    | (first | trivial | omega | (simp (discharger := omega) only [wR]; omega) | (simp only [lnS]; omega) | (simp (discharger := omega) [-List.getD_eq_getElem?_getD, wR] <;> omega)) | skip
  all_goals try simp only [Int.toNat_natCast] at *
  · rw [hr, if_pos (by omega)]
    refine aa9.mk [] ?_ <;> (repeat' first | trivial | rfl | exact eqS _ _ | apply And.intro | apply eqA | apply eqB | apply eqC | apply eqD | apply eqE | apply eqF | apply eqG | apply eqH | apply eqI)
  · rw [hr, if_neg (by omega), if_pos (.inl (by assumption))]
    refine aa9.mk [] ?_ <;> (repeat' first | trivial | rfl | exact eqS _ _ | apply And.intro | apply eqA | apply eqB | apply eqC | apply eqD | apply eqE | apply eqF | apply eqG | apply eqH | apply eqI)
  · rw [hr, if_neg (by omega), if_pos (.inr (.inl (by assumption)))]
    refine aa9.mk [] ?_ <;> (repeat' first | trivial | rfl | exact eqS _ _ | apply And.intro | apply eqA | apply eqB | apply eqC | apply eqD | apply eqE | apply eqF | apply eqG | apply eqH | apply eqI)
  all_goals have hg' := hg (by omega) (by omega)
  all_goals have hw1 : IntKind.i64.wrap ((s.length : Int) - (i : Int)) = (s.length : Int) - i := by rw [a27]; omega
  all_goals have hw2 : IntKind.i64.wrap ((i : Int) + ((aaj (aah (s.drop i))).length : Int)) = ((i + (aaj (aah (s.drop i))).length : Nat) : Int) := by rw [a27]; omega
  all_goals simp only [hg', hw1, hw2, Int.toNat_natCast] at *
  · rw [hr, if_neg (by omega)]
    have hn : ¬ (s.drop i).take (aaj (aah (s.drop i))).length = aaj (aah (s.drop i)) := fun e => by
      have := congrArg List.length e
      rw [List.length_take, List.length_drop] at this
      omega
    rw [if_neg hn, ite_self]
    refine aa9.mk [] ?_ <;> (repeat' first | trivial | rfl | exact eqS _ _ | apply And.intro | apply eqA | apply eqB | apply eqC | apply eqD | apply eqE | apply eqF | apply eqG | apply eqH | apply eqI)
  · omega
  all_goals (have hI : uIs (aah (s.drop i)) = decide (0 ≤ aah (s.drop i) ∧ aah (s.drop i) ≤ 1114111 ∧ (aah (s.drop i) < 55296 ∨ 57343 < aah (s.drop i))) := rfl)
  · rw [hr, if_neg (by omega)]
    have e : (s.drop i).take (aaj (aah (s.drop i))).length = aaj (aah (s.drop i)) := by
      rw [List.take_drop]; assumption
    rw [if_neg (by rw [hI, decide_eq_false_iff_not]; omega), if_pos e]
    refine aa9.mk [] ?_ <;> (repeat' first | trivial | rfl | exact eqS _ _ | apply And.intro | apply eqA | apply eqB | apply eqC | apply eqD | apply eqE | apply eqF | apply eqG | apply eqH | apply eqI)
  · rw [hr, if_neg (by omega)]
    have e : ¬ (s.drop i).take (aaj (aah (s.drop i))).length = aaj (aah (s.drop i)) := by
      rw [List.take_drop]; assumption
    rw [if_neg e, ite_self]
    refine aa9.mk [] ?_ <;> (repeat' first | trivial | rfl | exact eqS _ _ | apply And.intro | apply eqA | apply eqB | apply eqC | apply eqD | apply eqE | apply eqF | apply eqG | apply eqH | apply eqI)
  · rw [hr, if_neg (by omega), if_pos (.inr (.inr (by rw [hI]; exact decide_eq_false (by assumption))))]
    refine aa9.mk [] ?_ <;> (repeat' first | trivial | rfl | exact eqS _ _ | apply And.intro | apply eqA | apply eqB | apply eqC | apply eqD | apply eqE | apply eqF | apply eqG | apply eqH | apply eqI)
def auw : Sm := fun args σ => match args, σ with
  | [.str s, .int .i64 (.ofNat i)], [] => some (s.length ≤ 10000000, .tuple [.int .i32 (abr s i).1, .int .i64 (abr s i).2], none)
  | _, _ => none
theorem bdv : SOK 100 auw := by
  intro args sg pre x r he hp
  unfold auw at he
  split at he <;> cases he
  exact bdb _ _ hp
theorem av1 (s : List UInt8) (i : Nat) : (abr s i).2 ≤ 4 ∧ ((abr s i).2 = 0 ∨ i + (abr s i).2 ≤ s.length) := by
  unfold abr
  have hl := ahm (aah (s.drop i))
  split
  · simp
  · split
    · simp
    · split
      · rename_i h
        have := congrArg List.length h
        rw [List.length_take, List.length_drop] at this
        simp only; omega
      · simp
def anl (s : List UInt8) (i c : Nat) : Nat × Nat :=
  if s.length ≤ i then (i, c)
  else if h : (abr s i).2 = 0 then (i, c)
  else anl s (i + (abr s i).2) (c + 1)
termination_by s.length - i
decreasing_by omega
def ak7 (s : List UInt8) : Int := if (anl s 0 0).1 = s.length then -1 else (anl s 0 0).1
end Go.Proofs.Ytllncocibkgjkaa
