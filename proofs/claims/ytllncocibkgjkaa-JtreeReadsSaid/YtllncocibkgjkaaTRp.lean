/-
  A tree of JSON: kids, and the text (the program's functions and the document's).
-/
import Derived.Test.YtllncocibkgjkaaJRe
import Derived.Test.YtllncocibkgjkaaJTu
import Derived.Test.YtllncocibkgjkaaTRb
import Derived.Test.YtllncocibkgjkaaTRq
set_option linter.unusedSimpArgs false
set_option linter.unusedVariables false
set_option maxHeartbeats 4000000
namespace Go.Proofs.Ytllncocibkgjkaa
open Go Go.VG
set_option maxRecDepth 100000
end Go.Proofs.Ytllncocibkgjkaa
set_option linter.unusedSimpArgs false
set_option linter.unusedVariables false
set_option maxHeartbeats 4000000
namespace Go.Proofs.Ytllncocibkgjkaa
open Go Go.VG
set_option maxRecDepth 100000
end Go.Proofs.Ytllncocibkgjkaa
set_option linter.unusedSimpArgs false
set_option linter.unusedVariables false
set_option maxHeartbeats 4000000
namespace Go.Proofs.Ytllncocibkgjkaa
open Go Go.VG
set_option maxRecDepth 100000
section
variable {t u : List UInt8} {p q m : Nat}
end
end Go.Proofs.Ytllncocibkgjkaa
set_option linter.unusedSimpArgs false
set_option linter.unusedVariables false
set_option maxHeartbeats 4000000
namespace Go.Proofs.Ytllncocibkgjkaa
open Go Go.VG
set_option maxRecDepth 100000
def ak3 (L : List Nd) (e : Nat) : Nat → Nat → List Nat
  | 0, _ => []
  | n + 1, k => if k < e then k :: ak3 L e n (k + (L.getD k default).sz.toNat) else []
def apr (L : List Nd) (a : Nat) : Nat := min L.length (a + (L.getD a default).sz.toNat)
def aca (L : List Nd) (a : Nat) : List Nat := ak3 L (apr L a) L.length (a + 1)
def amx (L : List Nd) (a : Int) : List Nat := if 0 ≤ a ∧ a < L.length then aca L a.toNat else []
def a50 (f : Nat → List UInt8) (L : List Nd) (k0 : UInt8) : List Nat → Nat → List UInt8
  | [], _ => []
  | k :: ks, i => (if i = 0 then [] else [44]) ++ ((if k0.toNat = 123 then quote (L.getD k default).key ++ [58] else []) ++ (f k ++ a50 f L k0 ks (i + 1)))
def ag7 (L : List Nd) : Nat → Nat → List UInt8
  | 0, _ => []
  | n + 1, a =>
    if (L.getD a default).k.toNat ≠ 123 ∧ (L.getD a default).k.toNat ≠ 91 then ark ⟨(L.getD a default).k, (L.getD a default).t⟩
    else (L.getD a default).k :: (a50 (ag7 L n) L (L.getD a default).k (aca L a) 0 ++ [if (L.getD a default).k.toNat = 123 then 125 else 93])
end Go.Proofs.Ytllncocibkgjkaa
set_option linter.unusedSimpArgs false
set_option linter.unusedVariables false
set_option maxHeartbeats 4000000
namespace Go.Proofs.Ytllncocibkgjkaa
open Go Go.VG
set_option maxRecDepth 100000
def a2b (L : List Nd) : Prop := (∀ x ∈ L, 1 ≤ x.sz ∧ x.sz ≤ L.length ∧ x.key.length ≤ 10000000 ∧ x.t.length ≤ 10000000) ∧ L.length ≤ 100000000
abbrev nI (k : Nat) : V := .int .i64 k
theorem azj {L : List Nd} (h : a2b L) {a : Nat} (ha : a < L.length) : 1 ≤ (L.getD a default).sz ∧ (L.getD a default).sz ≤ L.length ∧ (L.getD a default).key.length ≤ 10000000 ∧ (L.getD a default).t.length ≤ 10000000 := by
  rw [List.getD_eq_getElem?_getD, List.getElem?_eq_getElem ha]
  exact h.1 _ (List.getElem_mem ha)
theorem unN {l : List V} (h : okN l) : ∃ L, l = L.map eNd ∧ upN l = L := ⟨_, h, rfl⟩
theorem aon (L : List Nd) (a : Nat) : apr L a ≤ L.length := Nat.min_le_left _ _
theorem a0y {L : List Nd} {a : Nat} (h : a < L.length) : amx L (a : Nat) = aca L a := by unfold amx; rw [if_pos ⟨by omega, by omega⟩, Int.toNat_natCast]
theorem awp {L : List Nd} {q : Int} (h : q < 0 ∨ q ≥ L.length) : amx L q = [] := by unfold amx; rw [if_neg (by omega)]
theorem ax1 (l : List Nat) : (l.map nI).length = l.length := List.length_map _
def KI (L : List Nd) (a : Nat) (x : Nat × Nat × List Nat) : Prop := (aca L a = x.2.2 ++ ak3 L (apr L a) x.1 x.2.1 ∧ apr L a - x.2.1 ≤ x.1) ∧ a < x.2.1 ∧ x.2.1 ≤ 200000001 ∧ x.2.2.length ≤ x.2.1
theorem KI_0 {L : List Nd} {a : Nat} (hl : L.length ≤ 100000000) (ha : a < L.length) : KI L a (L.length, a + 1, []) := ⟨⟨rfl, by have := aon L a; show apr L a - (a + 1) ≤ L.length; omega⟩, Nat.lt_succ_self a, by show a + 1 ≤ _; omega, Nat.zero_le _⟩
theorem KI_end {L : List Nd} {a n k : Nat} {acc : List Nat} (h : KI L a (n, k, acc)) (hk : ¬ k < apr L a) : aca L a = acc := by
  obtain ⟨⟨h1, h2⟩, _⟩ := h
  rw [h1]
  show acc ++ ak3 L (apr L a) n k = acc
  cases n with
  | zero => exact List.append_nil acc
  | succ n => rw [ak3, if_neg hk, List.append_nil]
theorem bcx {L : List Nd} {a n k : Nat} {acc : List Nat} (hp : a2b L) (h : KI L a (n, k, acc)) (hk : k < apr L a) : ∃ m, n = m + 1 ∧ KI L a (m, k + (L.getD k default).sz.toNat, acc ++ [k]) := by
  obtain ⟨⟨h1, h2⟩, h3, h4, h5⟩ := h
  dsimp only at h1 h2 h3 h4 h5
  have hE := aon L a
  have hn := azj hp (a := k) (by omega)
  have hl := hp.2
  obtain ⟨m, rfl⟩ : ∃ m, n = m + 1 := ⟨n - 1, by omega⟩
  rw [ak3, if_pos hk] at h1
  refine ⟨m, rfl, ⟨?_, ?_⟩, ?_, ?_, ?_⟩
  · rw [h1, List.append_assoc]; rfl
  · show apr L a - (k + (L.getD k default).sz.toNat) ≤ m; omega
  · show a < k + (L.getD k default).sz.toNat; omega
  · show k + (L.getD k default).sz.toNat ≤ 200000001; omega
  · show (acc ++ [k]).length ≤ k + (L.getD k default).sz.toNat
    rw [List.length_append, List.length_singleton]; omega
theorem a3e (c : Bool) (l : List V) (q : Int) (hp : okN l ∧ a2b (upN l)) : OK 30 ([.list c 4 l, .int .i64 q]) ([]) (.buf 0) (some [.buf 1 0 ((amx (upN l) q).map nI)]) := by
  refine aa0 (C := cx []) (abh trivial) (fn := Try.f30) rfl rfl rfl rfl fun hw hs => ?_
  obtain ⟨hN, hp⟩ := hp
  obtain ⟨L, rfl, eL⟩ := unN hN
  rw [eL] at hp ⊢
  have hml : (L.map eNd).length = L.length := List.length_map _
  have hl := hp.2
  repeat' ((conv => whnf); first | with_reducible (first | refine go1 (fun j q h => ?_) fun h => ?_ | refine go2 ⟨rfl, rfl⟩ (fun h => ?_) fun j h => ?_ | refine go2 ?_ (fun h => ?_) fun j h => ?_ | refine goQ ?_ (fun h => ?_) fun h => ?_) | refine go3 ?_ ?_ | refine go4 ?_ ?_ | refine go5 ?_ | ((first | refine go6 ?_ ?_ | refine go7 ?_ ?_ | refine go8 ?_ ?_ | refine go9 ?_ ?_ | refine goA ?_ ?_) <;> intro h) | with_reducible (first | refine aai.mk _ rfl ?_ | refine goB ?_ fun hc => ?_ | refine goC ?_ fun hc => ?_ | refine goD ?_ fun hc => ?_ | refine goE ?_ fun hc => ?_ | refine goF ?_ ?_ | refine goG ?_ ?_ | refine goH ?_ fun b hb => ?_) | refine goI ?_ | refine goJ ?_ ?_ | refine goK ?_ ?_ ?_ | refine goL ?_ ?_ ?_ ?_ | refine goM ?_ ?_ ?_ ?_ ?_ | refine goN ?_ ?_ | refine goO ?_ ?_ | with_reducible refine goP ?_)
  all_goals try conv => whnf
  all_goals try (refine aac.mk ?_; try dsimp only)
  all_goals (try simp only [aaa, aaf] at *)
  all_goals first
    | (exact aco)
    | (refine stay ?_)
    | (first | trivial | omega | (simp (discharger := omega) only [wR]; omega) | (simp only [lnS]; omega) | (simp (discharger := omega) [-List.getD_eq_getElem?_getD, wR] <;> omega)) | skip
  · rw [awp (by omega)]
    refine aa9.mk [.tm 4 1] ?_ <;> (repeat' first | trivial | rfl | exact eqS _ _ | apply And.intro | apply eqA | apply eqB | apply eqC | apply eqD | apply eqE | apply eqF | apply eqG | apply eqH | apply eqI)
  · rw [awp (by omega)]
    refine aa9.mk [.tm 4 1] ?_ <;> (repeat' first | trivial | rfl | exact eqS _ _ | apply And.intro | apply eqA | apply eqB | apply eqC | apply eqD | apply eqE | apply eqF | apply eqG | apply eqH | apply eqI)
  have hq1 : 0 ≤ q := by omega
  obtain ⟨a, rfl⟩ := Int.eq_ofNat_of_zero_le hq1
  have ha : a < L.length := by omega
  have hna := azj hp ha
  have hE := aon L a
  have hEe : apr L a = min L.length (a + (L.getD a default).sz.toNat) := rfl
  rw [a0y ha]
  have hif : ∀ {k : Nat}, k < L.length → (if (L.getD k default).sz < (L.length : Int) then (L.getD k default).sz else (L.length : Int)) = (L.getD k default).sz := fun hk => by
    have := azj hp hk
    split <;> omega
  have hwa : IntKind.i64.wrap ((a : Int) + (L.getD a default).sz) = (a : Int) + (L.getD a default).sz := by rw [a27]; omega
  have hif := hif ha
  refine abt.mk (Nat × Nat × List Nat) (KI L a) (fun x => ⟨50, [(0, .list c 4 (L.map eNd)), (1, .int .i64 a), (5, .buf 0), (6, .int .i64 (apr L a)), (7, .int .i64 x.2.1)], [.buf 1 0 (x.2.2.map nI)], [0]⟩) (fun x => x.1) [.tm 5 1] (L.length, a + 1, []) (KI_0 hl ha) ?_ (fun ⟨n, k, acc⟩ hI _ _ => ?_)
  · refine Go.VG.Sub.mk rfl ?_ ?_ ?_ ?_ <;> (repeat' first | trivial | rfl | exact eqS _ _ | apply And.intro | apply eqA | apply eqB | apply eqC | apply eqD | apply eqE | apply eqF | apply eqG | apply eqH | apply eqI)
    all_goals (try simp only [hml, Int.toNat_natCast, hif, hwa])
    all_goals first
      | (show IntKind.i64.wrap (↑a + 1) = ((a + 1 : Nat) : Int); (first | omega | (simp (discharger := omega) only [wR]; omega) | (simp only [lnS]; omega) | (simp (discharger := omega) [-List.getD_eq_getElem?_getD, wR] <;> omega)))
      | (rw [hEe]; split <;> omega)
  have hI2 := hI.2
  dsimp only at hI2
  have hn := fun h : k < L.length => azj hp h
  have hma := ax1 acc
  repeat' ((conv => whnf); first | with_reducible (first | refine go1 (fun j q h => ?_) fun h => ?_ | refine go2 ⟨rfl, rfl⟩ (fun h => ?_) fun j h => ?_ | refine go2 ?_ (fun h => ?_) fun j h => ?_ | refine goQ ?_ (fun h => ?_) fun h => ?_) | refine go3 ?_ ?_ | refine go4 ?_ ?_ | refine go5 ?_ | ((first | refine go6 ?_ ?_ | refine go7 ?_ ?_ | refine go8 ?_ ?_ | refine go9 ?_ ?_ | refine goA ?_ ?_) <;> intro h) | with_reducible (first | refine aai.mk _ rfl ?_ | refine goB ?_ fun hc => ?_ | refine goC ?_ fun hc => ?_ | refine goD ?_ fun hc => ?_ | refine goE ?_ fun hc => ?_ | refine goF ?_ ?_ | refine goG ?_ ?_ | refine goH ?_ fun b hb => ?_) | refine goI ?_ | refine goJ ?_ ?_ | refine goK ?_ ?_ ?_ | refine goL ?_ ?_ ?_ ?_ | refine goM ?_ ?_ ?_ ?_ ?_ | refine goN ?_ ?_ | refine goO ?_ ?_ | with_reducible refine goP ?_)
  all_goals try conv => whnf
  all_goals try (refine aac.mk ?_; try dsimp only)
  all_goals (try simp only [aaa, aaf] at *)
  all_goals first
    | (exact aco)
    | (refine stay ?_)
    | (first | trivial | omega | (simp (discharger := omega) only [wR]; omega) | (simp only [lnS]; omega) | (simp (discharger := omega) [-List.getD_eq_getElem?_getD, wR] <;> omega)) | skip
  all_goals first
    | (show aa9 _ _ _ _ _ _
       rw [KI_end hI (by omega)]
       refine aa9.mk [] ?_ <;> (repeat' first | trivial | rfl | exact eqS _ _ | apply And.intro | apply eqA | apply eqB | apply eqC | apply eqD | apply eqE | apply eqF | apply eqG | apply eqH | apply eqI)
       done)
    | skip
  obtain ⟨m, rfl, hI'⟩ := bcx hp hI (by omega)
  have hn := hn (by omega)
  refine ⟨[], (m, k + (L.getD k default).sz.toNat, acc ++ [k]), hI', ?_, Nat.lt_succ_self m⟩
  refine Go.VG.Sub.mk rfl ?_ ?_ ?_ ?_ <;> (repeat' first | trivial | rfl | exact eqS _ _ | apply And.intro | apply eqA | apply eqB | apply eqC | apply eqD | apply eqE | apply eqF | apply eqG | apply eqH | apply eqI)
  all_goals (try simp only [hml, Int.toNat_natCast])
  all_goals first
    | (rw [List.map_append]; rfl)
    | (show IntKind.i64.wrap _ = ((k + (L.getD k default).sz.toNat : Nat) : Int)
       (repeat' split)
       all_goals (first | omega | (simp (discharger := omega) only [wR]; omega) | (simp only [lnS]; omega) | (simp (discharger := omega) [-List.getD_eq_getElem?_getD, wR] <;> omega)))
def am1 : Sm := fun args σ => match args, σ with
  | [.list c 4 l, .int .i64 q], [] => some (okN l ∧ a2b (upN l), .buf 0, some [.buf 1 0 ((amx (upN l) q).map nI)])
  | _, _ => none
theorem a0x : SOK 30 am1 := by
  intro args sg pre x r he hp
  unfold am1 at he
  split at he <;> cases he
  · exact a3e (hp := hp) ..
end Go.Proofs.Ytllncocibkgjkaa
