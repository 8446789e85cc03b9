/-
  A text of JSON as the document reads it: parts, the whole text.
-/
import Derived.Test.YtllncocibkgjkaaJD
set_option linter.unusedSimpArgs false
set_option linter.unusedVariables false
set_option maxHeartbeats 4000000
namespace Go.Proofs.Ytllncocibkgjkaa
open Go Go.VG
set_option maxRecDepth 100000
theorem ar6 (t : List UInt8) (q : Int) (hp : t.length ≤ 90000000 ∧ 0 ≤ q ∧ q ≤ 90000000) : OK 99 ([.str t, .int .i64 q]) ([]) (.tuple [.str (amo t q.toNat).1, .int .i64 (amo t q.toNat).2.1, .int .i64 (amo t q.toNat).2.2]) (none) := by
  obtain ⟨i, rfl⟩ := Int.eq_ofNat_of_zero_le hp.2.1
  exact ato t i ⟨hp.1, by omega⟩
def ai1 : Sm := fun args σ => match args, σ with
  | [.str t, .int .i64 q], [] => some (t.length ≤ 90000000 ∧ 0 ≤ q ∧ q ≤ 90000000, .tuple [.str (amo t q.toNat).1, .int .i64 (amo t q.toNat).2.1, .int .i64 (amo t q.toNat).2.2], none)
  | _, _ => none
theorem awl : SOK 99 ai1 := by
  intro args sg pre x r he hp
  unfold ai1 at he
  split at he <;> cases he
  · exact ar6 (hp := hp) ..
def ad1 (t : List UInt8) (i : Nat) : List UInt8 × Int × Int :=
  if (t.getD i 0).toNat = 92 then amo t (i + 1)
  else if (t.getD i 0).toNat < 32 then ([], 0, 3)
  else if (abr t i).2 = 0 then ([], 0, 5)
  else ((t.take (i + (abr t i).2)).drop i, ((i + (abr t i).2 : Nat) : Int), 0)
theorem ays (t : List UInt8) (i : Nat) (hp : t.length ≤ 10000000 ∧ i < t.length) : OK 80 ([.str t, .int .i64 i]) ([]) (.tuple [.str (ad1 t i).1, .int .i64 (ad1 t i).2.1, .int .i64 (ad1 t i).2.2]) (none) := by
  refine aa0 (C := cx [(99, ai1), (100, auw)]) (abh ⟨awl, bdv, trivial⟩) (fn := Try.f80) rfl rfl rfl rfl fun hw hs => ?_
  obtain ⟨hl, hi⟩ := hp
  have hr := av1 t i
  have hi1 : (IntKind.i64.wrap ((i : Int) + 1)).toNat = i + 1 := by (first | omega | (simp (discharger := omega) only [wR]; omega) | (simp only [lnS]; omega) | (simp (discharger := omega) [-List.getD_eq_getElem?_getD, wR] <;> omega))
  have hi2 : IntKind.i64.wrap ((i : Int) + (abr t i).2) = ((i + (abr t i).2 : Nat) : Int) := by (first | omega | (simp (discharger := omega) only [wR]; omega) | (simp only [lnS]; omega) | (simp (discharger := omega) [-List.getD_eq_getElem?_getD, wR] <;> omega))
  repeat' ((conv => whnf); first | with_reducible (first | refine go1 (fun j q h => ?_) fun h => ?_ | refine go2 ⟨rfl, rfl⟩ (fun h => ?_) fun j h => ?_ | refine go2 ?_ (fun h => ?_) fun j h => ?_ | refine goQ ?_ (fun h => ?_) fun h => ?_) | refine go3 ?_ ?_ | refine go4 ?_ ?_ | refine go5 ?_ | ((first | refine go6 ?_ ?_ | refine go7 ?_ ?_ | refine go8 ?_ ?_ | refine go9 ?_ ?_ | refine goA ?_ ?_) <;> intro h) | with_reducible (first | refine aai.mk _ rfl ?_ | refine goB ?_ fun hc => ?_ | refine goC ?_ fun hc => ?_ | refine goD ?_ fun hc => ?_ | refine goE ?_ fun hc => ?_ | refine goF ?_ ?_ | refine goG ?_ ?_ | refine goH ?_ fun b hb => ?_) | refine goI ?_ | refine goJ ?_ ?_ | refine goK ?_ ?_ ?_ | refine goL ?_ ?_ ?_ ?_ | refine goM ?_ ?_ ?_ ?_ ?_ | refine goN ?_ ?_ | refine goO ?_ ?_ | with_reducible refine goP ?_)
  all_goals try conv => whnf
  all_goals try (refine aac.mk ?_; try dsimp only)
  all_goals (try simp only [hi1, hi2] at *)
  all_goals (try simp only [aa3] at *)
  all_goals first
    | (refine stay ?_)
    | (first | trivial | omega | (simp (discharger := omega) only [wR]; omega) | (simp only [lnS]; omega) | (simp (discharger := omega) [-List.getD_eq_getElem?_getD, wR] <;> omega)) | skip
  all_goals
    unfold ad1
    repeat (first | rw [if_pos (by omega)] | rw [if_neg (by omega)])
    refine aa9.mk [] ?_ <;> (repeat' first | trivial | rfl | exact eqS _ _ | apply And.intro | apply eqA | apply eqB | apply eqC | apply eqD | apply eqE | apply eqF | apply eqG | apply eqH | apply eqI)
def ana : Sm := fun args σ => match args, σ with
  | [.str t, .int .i64 (.ofNat i)], [] => some (t.length ≤ 10000000 ∧ i < t.length, .tuple [.str (ad1 t i).1, .int .i64 (ad1 t i).2.1, .int .i64 (ad1 t i).2.2], none)
  | _, _ => none
theorem a71 : SOK 80 ana := by
  intro args sg pre x r he hp
  unfold ana at he
  split at he <;> cases he
  · exact ays (hp := hp) ..
def ab4 (t : List UInt8) : Nat → Nat → List UInt8 → Int × Nat × List UInt8
  | 0, _, _ => (1, 0, [])
  | n + 1, i, o =>
    if t.length ≤ i then (1, 0, [])
    else if (t.getD i 0).toNat = 34 then (0, i + 1, o)
    else if (ad1 t i).2.2 ≠ 0 then ((ad1 t i).2.2, 0, [])
    else ab4 t n (ad1 t i).2.1.toNat (o ++ (ad1 t i).1)
termination_by n => n
theorem a4n (b : UInt8) : (ae8 b).length ≤ 1 := by unfold ae8; split <;> simp
theorem a81 (t : List UInt8) (i : Nat) (n : Int) : (ae5 t i n).2.2 = 0 → (i : Int) < (ae5 t i n).2.1 ∧ (ae5 t i n).2.1 ≤ i + 6 ∧ (ae5 t i n).1.length ≤ 4 := by
  have hb := fun n => (ahm n).2
  unfold ae5
  repeat' split
  all_goals intro h
  all_goals first
    | (exfalso; simp at h; done)
    | (exfalso; exact absurd h (by assumption))
    | exact ⟨by show (i : Int) < (i : Int) + 6; omega, by show (i : Int) + 6 ≤ i + 6; omega, hb _⟩
theorem a9m (t : List UInt8) (i : Nat) : (amo t i).2.2 = 0 → (i : Int) < (amo t i).2.1 ∧ (amo t i).2.1 ≤ i + 11 ∧ (amo t i).1.length ≤ 4 := by
  have hb := fun n => (ahm n).2
  have hs := a4n (t.getD i 0)
  unfold amo
  repeat' split
  all_goals intro h
  all_goals first
    | (exfalso; simp at h; done)
    | (exfalso; exact absurd h (by assumption))
    | (have := a81 t (i + 5) _ h; omega)
    | exact ⟨by show (i : Int) < (i : Int) + 5; omega, by show (i : Int) + 5 ≤ i + 11; omega, hb _⟩
    | exact ⟨by show (i : Int) < (i : Int) + 1; omega, by show (i : Int) + 1 ≤ i + 11; omega, by show (ae8 (t.getD i 0)).length ≤ 4; omega⟩
theorem axa (t : List UInt8) (i : Nat) : (ad1 t i).2.2 = 0 → (i : Int) < (ad1 t i).2.1 ∧ (ad1 t i).2.1 ≤ i + 12 ∧ (ad1 t i).1.length ≤ 12 := by
  have hr := av1 t i
  unfold ad1
  repeat' split
  all_goals intro h
  · have := a9m t (i + 1) h; omega
  · exfalso; simp at h
  · exfalso; simp at h
  · refine ⟨by show (i : Int) < ((i + (abr t i).2 : Nat) : Int); omega, by show ((i + (abr t i).2 : Nat) : Int) ≤ i + 12; omega, ?_⟩
    show ((t.take (i + (abr t i).2)).drop i).length ≤ 12
    rw [List.length_drop, List.length_take]; omega
def Cu.aiy (c : Cu) : Cu × List UInt8 :=
  if c.c ≠ 0 then (c, [])
  else if c.p = c.e then (c.fail 1, [])
  else if c.get.toNat ≠ 34 then (c.fail 3, [])
  else if (ab4 (c.s.take c.e) (c.e - c.p) (c.p + 1) []).1 = 0 then ({ c with p := (ab4 (c.s.take c.e) (c.e - c.p) (c.p + 1) []).2.1 }, (ab4 (c.s.take c.e) (c.e - c.p) (c.p + 1) []).2.2)
  else (c.fail (ab4 (c.s.take c.e) (c.e - c.p) (c.p + 1) []).1, [])
theorem a39 (s : List UInt8) (hp : True) : OK 20 ([.str s]) ([]) (.agg (eC (.new s))) (none) := by
  refine aa0 (C := cx []) (abh trivial) (fn := Try.f20) rfl rfl rfl rfl fun hw hs => ?_
  repeat' ((conv => whnf); first | with_reducible (first | refine go1 (fun j q h => ?_) fun h => ?_ | refine go2 ⟨rfl, rfl⟩ (fun h => ?_) fun j h => ?_ | refine go2 ?_ (fun h => ?_) fun j h => ?_ | refine goQ ?_ (fun h => ?_) fun h => ?_) | refine go3 ?_ ?_ | refine go4 ?_ ?_ | refine go5 ?_ | ((first | refine go6 ?_ ?_ | refine go7 ?_ ?_ | refine go8 ?_ ?_ | refine go9 ?_ ?_ | refine goA ?_ ?_) <;> intro h) | with_reducible (first | refine aai.mk _ rfl ?_ | refine goB ?_ fun hc => ?_ | refine goC ?_ fun hc => ?_ | refine goD ?_ fun hc => ?_ | refine goE ?_ fun hc => ?_ | refine goF ?_ ?_ | refine goG ?_ ?_ | refine goH ?_ fun b hb => ?_) | refine goI ?_ | refine goJ ?_ ?_ | refine goK ?_ ?_ ?_ | refine goL ?_ ?_ ?_ ?_ | refine goM ?_ ?_ ?_ ?_ ?_ | refine goN ?_ ?_ | refine goO ?_ ?_ | with_reducible refine goP ?_)
  all_goals try conv => whnf
  all_goals try (refine aac.mk ?_; try dsimp only)
  all_goals (try simp only [aa3] at *)
  all_goals first
    | (refine stay ?_)
    | (first | trivial | omega | (simp (discharger := omega) only [wR]; omega) | (simp only [lnS]; omega) | (simp (discharger := omega) [-List.getD_eq_getElem?_getD, wR] <;> omega)) | skip
  refine aa9.mk [] ?_ <;> (repeat' first | trivial | rfl | exact eqS _ _ | apply And.intro | apply eqA | apply eqB | apply eqC | apply eqD | apply eqE | apply eqF | apply eqG | apply eqH | apply eqI)
def aqo : Sm := fun args σ => match args, σ with
  | [.str s], [] => some (True, .agg (eC (.new s)), none)
  | _, _ => none
theorem baj : SOK 20 aqo := by
  intro args sg pre x r he hp
  unfold aqo at he
  split at he <;> cases he
  · exact a39 (hp := hp) ..
theorem ayp (c : Cu) (k : Int) (hp : True) : OK 54 ([.agg (eC c), .int .i64 k]) ([]) (.agg (eC (c.fail k))) (none) := by
  refine aa0 (C := cx []) (abh trivial) (fn := Try.f54) rfl rfl rfl rfl fun hw hs => ?_
  repeat' ((conv => whnf); first | with_reducible (first | refine go1 (fun j q h => ?_) fun h => ?_ | refine go2 ⟨rfl, rfl⟩ (fun h => ?_) fun j h => ?_ | refine go2 ?_ (fun h => ?_) fun j h => ?_ | refine goQ ?_ (fun h => ?_) fun h => ?_) | refine go3 ?_ ?_ | refine go4 ?_ ?_ | refine go5 ?_ | ((first | refine go6 ?_ ?_ | refine go7 ?_ ?_ | refine go8 ?_ ?_ | refine go9 ?_ ?_ | refine goA ?_ ?_) <;> intro h) | with_reducible (first | refine aai.mk _ rfl ?_ | refine goB ?_ fun hc => ?_ | refine goC ?_ fun hc => ?_ | refine goD ?_ fun hc => ?_ | refine goE ?_ fun hc => ?_ | refine goF ?_ ?_ | refine goG ?_ ?_ | refine goH ?_ fun b hb => ?_) | refine goI ?_ | refine goJ ?_ ?_ | refine goK ?_ ?_ ?_ | refine goL ?_ ?_ ?_ ?_ | refine goM ?_ ?_ ?_ ?_ ?_ | refine goN ?_ ?_ | refine goO ?_ ?_ | with_reducible refine goP ?_)
  all_goals try conv => whnf
  all_goals try (refine aac.mk ?_; try dsimp only)
  all_goals (try simp only [aa3] at *)
  all_goals first
    | (refine stay ?_)
    | (first | trivial | omega | (simp (discharger := omega) only [wR]; omega) | (simp only [lnS]; omega) | (simp (discharger := omega) [-List.getD_eq_getElem?_getD, wR] <;> omega)) | skip
  all_goals
    unfold Cu.fail
    first | rw [if_pos (by assumption)] | rw [if_neg (by assumption)]
    refine aa9.mk [] ?_ <;> (repeat' first | trivial | rfl | exact eqS _ _ | apply And.intro | apply eqA | apply eqB | apply eqC | apply eqD | apply eqE | apply eqF | apply eqG | apply eqH | apply eqI)
def afo : Sm := fun args σ => match args, σ with
  | [.agg ([.str s_c, .int .i64 (.ofNat a_c), .int .i64 (.ofNat e_c), .int .i64 c_c]), .int .i64 k], [] => some (True ∧ (True), .agg (eC ((Cu.mk s_c a_c e_c c_c).fail k)), none)
  | _, _ => none
theorem alc : SOK 54 afo := by
  intro args sg pre x r he hp
  unfold afo at he
  split at he <;> cases he
  · rw [acr (hp).1]; exact ayp (hp := hp.2) ..
theorem ayq (c : Cu) (hp : c.ok ∧ c.s.length ≤ 10000000) : OK 50 ([.agg (eC c)]) ([]) (.tuple [.agg (eC c.aiy.1), .str c.aiy.2]) (none) := by
  refine aa0 (C := cx [(80, ana), (54, afo)]) (abh ⟨a71, alc, trivial⟩) (fn := Try.f50) rfl rfl rfl rfl fun hw hs => ?_
  obtain ⟨hp, hl⟩ := hp
  have h1 := hp.1
  have h2 := hp.2
  have hget : c.p < c.e → (c.s.take c.e).getD c.p 0 = c.get := fun h => aeu h
  have hte : (c.s.take c.e).length = c.e := by rw [List.length_take]; omega
  repeat' ((conv => whnf); first | with_reducible (first | refine go1 (fun j q h => ?_) fun h => ?_ | refine go2 ⟨rfl, rfl⟩ (fun h => ?_) fun j h => ?_ | refine go2 ?_ (fun h => ?_) fun j h => ?_ | refine goQ ?_ (fun h => ?_) fun h => ?_) | refine go3 ?_ ?_ | refine go4 ?_ ?_ | refine go5 ?_ | ((first | refine go6 ?_ ?_ | refine go7 ?_ ?_ | refine go8 ?_ ?_ | refine go9 ?_ ?_ | refine goA ?_ ?_) <;> intro h) | with_reducible (first | refine aai.mk _ rfl ?_ | refine goB ?_ fun hc => ?_ | refine goC ?_ fun hc => ?_ | refine goD ?_ fun hc => ?_ | refine goE ?_ fun hc => ?_ | refine goF ?_ ?_ | refine goG ?_ ?_ | refine goH ?_ fun b hb => ?_) | refine goI ?_ | refine goJ ?_ ?_ | refine goK ?_ ?_ ?_ | refine goL ?_ ?_ ?_ ?_ | refine goM ?_ ?_ ?_ ?_ ?_ | refine goN ?_ ?_ | refine goO ?_ ?_ | with_reducible refine goP ?_)
  all_goals try conv => whnf
  all_goals try (refine aac.mk ?_; try dsimp only)
  all_goals (try simp only [show ((c.e : Int)).toNat = c.e from rfl] at *)
  all_goals (try simp only [aa3] at *)
  all_goals first
    | (refine stay ?_)
    | (first | trivial | omega | (simp (discharger := omega) only [wR]; omega) | (simp only [lnS]; omega) | (simp (discharger := omega) [-List.getD_eq_getElem?_getD, wR] <;> omega)) | skip
  all_goals (try rw [hget (by omega)] at *)
  all_goals first
    | (show aa9 _ _ _ _ _ _
       unfold Cu.aiy
       repeat (first | rw [if_pos (by omega)] | rw [if_neg (by omega)])
       refine aa9.mk [] ?_ <;> (repeat' first | trivial | rfl | exact eqS _ _ | apply And.intro | apply eqA | apply eqB | apply eqC | apply eqD | apply eqE | apply eqF | apply eqG | apply eqH | apply eqI)
       done)
    | skip
  have hrd : c.aiy = if (ab4 (c.s.take c.e) (c.e - c.p) (c.p + 1) []).1 = 0 then ({ c with p := (ab4 (c.s.take c.e) (c.e - c.p) (c.p + 1) []).2.1 }, (ab4 (c.s.take c.e) (c.e - c.p) (c.p + 1) []).2.2)
      else (c.fail (ab4 (c.s.take c.e) (c.e - c.p) (c.p + 1) []).1, []) := by
    unfold Cu.aiy
    rw [if_neg (by omega), if_neg (by omega), if_neg (by omega)]
  rw [hrd]
  generalize hR : ab4 (c.s.take c.e) (c.e - c.p) (c.p + 1) [] = R
  generalize ht : c.s.take c.e = t at *
  refine abt.mk (Nat × Nat × List UInt8) (fun | (n, i, o) => t.length - i + 1 ≤ n ∧ i ≤ t.length + 12 ∧ o.length ≤ 12 * i ∧ ab4 t n i o = R)
    (fun | (n, i, o) => ⟨67, [(1, .ptr 0 0), (2, .ptr 1 0), (4, .str t), (5, .str o), (6, .int .i64 i)], [.cells (eC c), .cells [.str [], .int .i64 0, .int .i64 0, .int .i64 0]], []⟩) (fun x => x.1) [] (c.e - c.p, c.p + 1, []) ⟨by omega, by omega, by simp, hR⟩ ?_ (fun ⟨n, i, o⟩ ⟨hn, hi, ho, he⟩ _ _ => ?_)
  · refine Go.VG.Sub.mk rfl ?_ ?_ ?_ ?_ <;> (repeat' first | trivial | rfl | exact eqS _ _ | apply And.intro | apply eqA | apply eqB | apply eqC | apply eqD | apply eqE | apply eqF | apply eqG | apply eqH | apply eqI)
    (first | omega | (simp (discharger := omega) only [wR]; omega) | (simp only [lnS]; omega) | (simp (discharger := omega) [-List.getD_eq_getElem?_getD, wR] <;> omega))
  have hpn := axa t i
  obtain ⟨n, rfl⟩ : ∃ m, n = m + 1 := ⟨n - 1, by omega⟩
  rw [ab4] at he
  repeat' ((conv => whnf); first | with_reducible (first | refine go1 (fun j q h => ?_) fun h => ?_ | refine go2 ⟨rfl, rfl⟩ (fun h => ?_) fun j h => ?_ | refine go2 ?_ (fun h => ?_) fun j h => ?_ | refine goQ ?_ (fun h => ?_) fun h => ?_) | refine go3 ?_ ?_ | refine go4 ?_ ?_ | refine go5 ?_ | ((first | refine go6 ?_ ?_ | refine go7 ?_ ?_ | refine go8 ?_ ?_ | refine go9 ?_ ?_ | refine goA ?_ ?_) <;> intro h) | with_reducible (first | refine aai.mk _ rfl ?_ | refine goB ?_ fun hc => ?_ | refine goC ?_ fun hc => ?_ | refine goD ?_ fun hc => ?_ | refine goE ?_ fun hc => ?_ | refine goF ?_ ?_ | refine goG ?_ ?_ | refine goH ?_ fun b hb => ?_) | refine goI ?_ | refine goJ ?_ ?_ | refine goK ?_ ?_ ?_ | refine goL ?_ ?_ ?_ ?_ | refine goM ?_ ?_ ?_ ?_ ?_ | refine goN ?_ ?_ | refine goO ?_ ?_ | with_reducible refine goP ?_)
  all_goals try conv => whnf
  all_goals try (refine aac.mk ?_; try dsimp only)
  all_goals (try simp only [aa3] at *)
  all_goals first
    | (refine stay ?_)
    | (first | trivial | omega | (simp (discharger := omega) only [wR]; omega) | (simp only [lnS]; omega) | (simp (discharger := omega) [-List.getD_eq_getElem?_getD, wR] <;> omega)) | skip
  all_goals (repeat (first | rw [if_pos (by omega)] at he | rw [if_neg (by omega)] at he))
  · rw [← he]
    rw [if_pos rfl]
    refine aa9.mk [] ?_ <;> (repeat' first | trivial | rfl | exact eqS _ _ | apply And.intro | apply eqA | apply eqB | apply eqC | apply eqD | apply eqE | apply eqF | apply eqG | apply eqH | apply eqI)
    (first | omega | (simp (discharger := omega) only [wR]; omega) | (simp only [lnS]; omega) | (simp (discharger := omega) [-List.getD_eq_getElem?_getD, wR] <;> omega))
  · have hq := hpn (by omega)
    refine ⟨[], (n, (ad1 t i).2.1.toNat, o ++ (ad1 t i).1), ⟨?_, ?_, ?_, he⟩, ?_, by show n < n + 1; omega⟩
    · show t.length - (ad1 t i).2.1.toNat + 1 ≤ n; omega
    · show (ad1 t i).2.1.toNat ≤ t.length + 12; omega
    · show (o ++ (ad1 t i).1).length ≤ 12 * (ad1 t i).2.1.toNat
      rw [List.length_append]; omega
    · refine Go.VG.Sub.mk rfl ?_ ?_ ?_ ?_ <;> (repeat' first | trivial | rfl | exact eqS _ _ | apply And.intro | apply eqA | apply eqB | apply eqC | apply eqD | apply eqE | apply eqF | apply eqG | apply eqH | apply eqI)
      show (ad1 t i).2.1 = (((ad1 t i).2.1.toNat : Nat) : Int)
      omega
  · rw [← he, if_neg (by assumption)]
    refine aa9.mk [] ?_ <;> (repeat' first | trivial | rfl | exact eqS _ _ | apply And.intro | apply eqA | apply eqB | apply eqC | apply eqD | apply eqE | apply eqF | apply eqG | apply eqH | apply eqI)
  · rw [← he, if_neg (by decide)]
    refine aa9.mk [] ?_ <;> (repeat' first | trivial | rfl | exact eqS _ _ | apply And.intro | apply eqA | apply eqB | apply eqC | apply eqD | apply eqE | apply eqF | apply eqG | apply eqH | apply eqI)
def an9 : Sm := fun args σ => match args, σ with
  | [.agg ([.str s_c, .int .i64 (.ofNat a_c), .int .i64 (.ofNat e_c), .int .i64 c_c])], [] => some (True ∧ ((Cu.mk s_c a_c e_c c_c).ok ∧ (Cu.mk s_c a_c e_c c_c).s.length ≤ 10000000), .tuple [.agg (eC (Cu.mk s_c a_c e_c c_c).aiy.1), .str (Cu.mk s_c a_c e_c c_c).aiy.2], none)
  | _, _ => none
theorem a70 : SOK 50 an9 := by
  intro args sg pre x r he hp
  unfold an9 at he
  split at he <;> cases he
  · rw [acr (hp).1]; exact ayq (hp := hp.2) ..
end Go.Proofs.Ytllncocibkgjkaa
