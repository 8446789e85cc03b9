/-
  A tree of JSON as the document reads it: the whole text; whether trees are the same.
-/
import Derived.Test.YtllncocibkgjkaaTRs
set_option linter.unusedSimpArgs false
set_option linter.unusedVariables false
set_option maxHeartbeats 4000000
namespace Go.Proofs.Ytllncocibkgjkaa
open Go Go.VG
set_option maxRecDepth 100000
theorem aly (k : UInt8) : ach k = true ↔ (k.toNat = 123 ∨ k.toNat = 125 ∨ k.toNat = 91 ∨ k.toNat = 93 ∨ k.toNat = 58 ∨ k.toNat = 44) := decide_eq_true_iff
theorem a6g (s : Sx) (key : List UInt8) (d : Int) (hp : d = 32 ∧ s.1.length ≤ 10000000) : OK 60 [eSx s, .str key, .int .i64 d] [] (.tuple [.buf 0, eSx (aay 0 key s).2.2, .int .i64 (aay 0 key s).1]) (some [eNb (aay 0 key s).2.1]) := by
  refine aa0 (C := cxl [(84, afp), (40, ahk)] [64]) (bdf ⟨ald, apo, trivial⟩) (fn := Try.f60) rfl rfl rfl rfl fun hw hs => ?_
  have hml : (s.1.map vT).length = s.1.length := List.length_map _
  have g0 : stE s ≠ 0 → aay 0 key s = (stE s, [], s) := fun h => by rw [aay, if_pos h]
  have g1 : stE s = 0 → (stT s).k.toNat = 123 ∨ (stT s).k.toNat = 91 → aay 0 key s = (33, [], s) := fun h h2 => by rw [aay, if_neg (by omega), if_pos h2]
  have g2 : stE s = 0 → ¬ ((stT s).k.toNat = 123 ∨ (stT s).k.toNat = 91) → ach (stT s).k = true → aay 0 key s = (3, [], s) := fun h h2 h3 => by rw [aay, if_neg (by omega), if_neg h2, if_pos h3]
  have g3 : stE s = 0 → ¬ ((stT s).k.toNat = 123 ∨ (stT s).k.toNat = 91) → ¬ ach (stT s).k = true → aay 0 key s = (0, [⟨(stT s).k, key, (stT s).t, 1⟩], stR s) := fun h h2 h3 => by rw [aay, if_neg (by omega), if_neg h2, if_neg h3]
  have hk := (stT s).k.toNat_lt
  repeat' ((conv => whnf); first | with_reducible (first | refine go1 (fun j q h => ?_) fun h => ?_ | refine go2 ⟨rfl, rfl⟩ (fun h => ?_) fun j h => ?_ | refine go2 ?_ (fun h => ?_) fun j h => ?_ | refine goQ ?_ (fun h => ?_) fun h => ?_) | refine go3 ?_ ?_ | refine go4 ?_ ?_ | refine go5 ?_ | ((first | refine go6 ?_ ?_ | refine go7 ?_ ?_ | refine go8 ?_ ?_ | refine go9 ?_ ?_ | refine goA ?_ ?_) <;> intro h) | with_reducible (first | refine aai.mk _ rfl ?_ | refine goB ?_ fun hc => ?_ | refine goC ?_ fun hc => ?_ | refine goD ?_ fun hc => ?_ | refine goE ?_ fun hc => ?_ | refine goF ?_ ?_ | refine goG ?_ ?_ | refine goH ?_ fun b hb => ?_) | refine goI ?_ | refine goJ ?_ ?_ | refine goK ?_ ?_ ?_ | refine goL ?_ ?_ ?_ ?_ | refine goM ?_ ?_ ?_ ?_ ?_ | refine goN ?_ ?_ | refine goO ?_ ?_ | with_reducible refine goP ?_)
  all_goals try conv => whnf
  all_goals try (refine aac.mk ?_; try dsimp only)
  all_goals (try simp only [aat, aaa, abn, akz, aaf] at *)
  all_goals (try (exfalso; omega))
  all_goals (try rw [if_pos (show stE s = 0 by assumption)] at *)
  all_goals (try simp only [aat, aaa, abn, akz, aaf] at *)
  all_goals first
    | (exact ⟨acp, trivial⟩)
    | (exact acp)
    | (exact aco)
    | (exact aki)
    | (refine stay ?_)
    | (first | trivial | omega | (simp (discharger := omega) only [wR]; omega) | (simp only [lnS]; omega) | (simp (discharger := omega) [-List.getD_eq_getElem?_getD, wR] <;> omega)) | skip
  · rw [g1 (by assumption) (by omega)]
    (refine aa9.mk [.tm 6 4, .swap 0 4] ?_ <;> (repeat' first | trivial | rfl | refine And.intro ?_ ?_))
  · rw [g1 (by assumption) (by omega)]
    (refine aa9.mk [.tm 6 4, .swap 0 4] ?_ <;> (repeat' first | trivial | rfl | refine And.intro ?_ ?_))
  · rw [g2 (by assumption) (by omega) ((aly _).2 (by assumption))]
    (refine aa9.mk [.tm 6 4, .swap 0 4] ?_ <;> (repeat' first | trivial | rfl | refine And.intro ?_ ?_))
  · rw [g3 (by assumption) (by omega) (fun q => absurd ((aly _).1 q) (by assumption))]
    refine aa9.mk [.swap 0 4] ?_ <;> (repeat' first | trivial | rfl | exact eqS _ _ | apply And.intro | apply eqA | apply eqB | apply eqC | apply eqD | apply eqE | apply eqF | apply eqG | apply eqH | apply eqI)
  · rw [g0 (by assumption)]
    (refine aa9.mk [.tm 6 4, .swap 0 4] ?_ <;> (repeat' first | trivial | rfl | refine And.intro ?_ ?_))
theorem a6h (k : Nat) (hv : SOK 85 (ai3 k)) (s : Sx) (key : List UInt8) (d : Int) (hp : d + k + 1 = 32 ∧ s.1.length ≤ 10000000) : OK 60 [eSx s, .str key, .int .i64 d] [] (.tuple [.buf 0, eSx (aay (k + 1) key s).2.2, .int .i64 (aay (k + 1) key s).1]) (some [eNb (aay (k + 1) key s).2.1]) := by
  refine aa0 (C := cxl [(84, afp), (40, ahk), (85, ai3 k), (86, aj5)] [64]) (bdf ⟨ald, apo, hv, azd, trivial⟩) (fn := Try.f60) rfl rfl rfl rfl fun hw hs => ?_
  have hml : (s.1.map vT).length = s.1.length := List.length_map _
  have hd0 : -9223372036854775808 ≤ d := hw.2.2.1.1
  have hdw : IntKind.i64.wrap (d + 1) = d + 1 := by rw [a27]; omega
  have g0 : stE s ≠ 0 → aay (k + 1) key s = (stE s, [], s) := fun h => by rw [aay, if_pos h]
  have g1 : stE s = 0 → (stT s).k.toNat = 123 ∨ (stT s).k.toNat = 91 → aay (k + 1) key s = ((aec (aay k) ((stT s).k.toNat + 2) (stR s)).1, ⟨(stT s).k, key, [], (aec (aay k) ((stT s).k.toNat + 2) (stR s)).2.1.length + 1⟩ :: (aec (aay k) ((stT s).k.toNat + 2) (stR s)).2.1, (aec (aay k) ((stT s).k.toNat + 2) (stR s)).2.2) := fun h h2 => by rw [aay, if_neg (by omega), if_pos h2]
  have g2 : stE s = 0 → ¬ ((stT s).k.toNat = 123 ∨ (stT s).k.toNat = 91) → ach (stT s).k = true → aay (k + 1) key s = (3, [], s) := fun h h2 h3 => by rw [aay, if_neg (by omega), if_neg h2, if_pos h3]
  have g3 : stE s = 0 → ¬ ((stT s).k.toNat = 123 ∨ (stT s).k.toNat = 91) → ¬ ach (stT s).k = true → aay (k + 1) key s = (0, [⟨(stT s).k, key, (stT s).t, 1⟩], stR s) := fun h h2 h3 => by rw [aay, if_neg (by omega), if_neg h2, if_neg h3]
  have hk := (stT s).k.toNat_lt
  have hr := ab5 s
  have hw2 : (stT s).k.toNat = 123 ∨ (stT s).k.toNat = 91 → (IntKind.u8.wrap (((stT s).k.toNat : Int) + 2)).toNat = (stT s).k.toNat + 2 := fun h => by rw [wu8]; omega
  have hw3 : (stT s).k.toNat = 123 ∨ (stT s).k.toNat = 91 → IntKind.u8.wrap (((stT s).k.toNat : Int) + 2) = 93 ∨ IntKind.u8.wrap (((stT s).k.toNat : Int) + 2) = 125 := fun h => by rw [wu8]; omega
  have hm2 : ∀ L : List Nd, (L.map eNd).length = L.length := fun L => List.length_map _
  have hm3 : ((stR s).1.map vT).length = (stR s).1.length := List.length_map _
  have hln : (aec (aay k) ((stT s).k.toNat + 2) (stR s)).2.1.length ≤ 10000000 := by
    by_cases h : (aec (aay k) ((stT s).k.toNat + 2) (stR s)).1 = 0
    · have := a5j (amm k) h; omega
    · rw [a5k h]; exact Nat.zero_le _
  repeat' ((conv => whnf); first | with_reducible (first | refine go1 (fun j q h => ?_) fun h => ?_ | refine go2 ⟨rfl, rfl⟩ (fun h => ?_) fun j h => ?_ | refine go2 ?_ (fun h => ?_) fun j h => ?_ | refine goQ ?_ (fun h => ?_) fun h => ?_) | refine go3 ?_ ?_ | refine go4 ?_ ?_ | refine go5 ?_ | ((first | refine go6 ?_ ?_ | refine go7 ?_ ?_ | refine go8 ?_ ?_ | refine go9 ?_ ?_ | refine goA ?_ ?_) <;> intro h) | with_reducible (first | refine aai.mk _ rfl ?_ | refine goB ?_ fun hc => ?_ | refine goC ?_ fun hc => ?_ | refine goD ?_ fun hc => ?_ | refine goE ?_ fun hc => ?_ | refine goF ?_ ?_ | refine goG ?_ ?_ | refine goH ?_ fun b hb => ?_) | refine goI ?_ | refine goJ ?_ ?_ | refine goK ?_ ?_ ?_ | refine goL ?_ ?_ ?_ ?_ | refine goM ?_ ?_ ?_ ?_ ?_ | refine goN ?_ ?_ | refine goO ?_ ?_ | with_reducible refine goP ?_)
  all_goals try conv => whnf
  all_goals try (refine aac.mk ?_; try dsimp only)
  all_goals (try simp only [aat, aaa, abn, akz, aaf] at *)
  all_goals (try (exfalso; omega))
  all_goals (try rw [if_pos (show stE s = 0 by assumption)] at *)
  all_goals (try simp only [aat, aaa, abn, akz, aaf] at *)
  all_goals first
    | (exact ⟨acp, trivial⟩)
    | (exact acp)
    | (exact aco)
    | (exact aki)
    | (refine stay ?_)
    | (first | trivial | omega | (simp (discharger := omega) only [wR]; omega) | (simp only [lnS]; omega) | (simp (discharger := omega) [-List.getD_eq_getElem?_getD, wR] <;> omega)) | skip
  all_goals (try rw [hw2 (by omega)] at *)
  all_goals (try rw [hdw] at *)
  all_goals (try rw [hm3] at *)
  all_goals (try simp only [hm2] at *)
  · exact ⟨acp, hw3 (by omega), by omega, by omega⟩
  · exact ⟨aco, by omega, by omega⟩
  · rw [g1 (by assumption) (by omega)]
    refine aa9.mk [.swap 0 6] ?_ <;> (repeat' first | trivial | rfl | exact eqS _ _ | apply And.intro | apply eqA | apply eqB | apply eqC | apply eqD | apply eqE | apply eqF | apply eqG | apply eqH | apply eqI)
  · exact ⟨acp, hw3 (by omega), by omega, by omega⟩
  · exact ⟨aco, by omega, by omega⟩
  · rw [g1 (by assumption) (by omega)]
    refine aa9.mk [.swap 0 6] ?_ <;> (repeat' first | trivial | rfl | exact eqS _ _ | apply And.intro | apply eqA | apply eqB | apply eqC | apply eqD | apply eqE | apply eqF | apply eqG | apply eqH | apply eqI)
  · rw [g2 (by assumption) (by omega) ((aly _).2 (by assumption))]
    (refine aa9.mk [.tm 6 4, .swap 0 4] ?_ <;> (repeat' first | trivial | rfl | refine And.intro ?_ ?_))
  · rw [g3 (by assumption) (by omega) (fun q => absurd ((aly _).1 q) (by assumption))]
    refine aa9.mk [.swap 0 4] ?_ <;> (repeat' first | trivial | rfl | exact eqS _ _ | apply And.intro | apply eqA | apply eqB | apply eqC | apply eqD | apply eqE | apply eqF | apply eqG | apply eqH | apply eqI)
  · rw [g0 (by assumption)]
    (refine aa9.mk [.tm 6 4, .swap 0 4] ?_ <;> (repeat' first | trivial | rfl | refine And.intro ?_ ?_))
theorem aps : ∀ k, SOK 60 (ac2 k)
  | 0 => by
    intro args sg pre x r he hp
    unfold ac2 at he
    split at he <;> cases he
    rename_i l e key d
    obtain ⟨h1, h2, h3⟩ := hp
    have el : (upT l).length = l.length := by have h := congrArg List.length h1; rw [List.length_map] at h; exact h.symm
    rw [a25 h1]
    exact a6g (upT l, e) key d ⟨by omega, by show (upT l).length ≤ _; omega⟩
  | k + 1 => by
    have hv := a3z k (aps k)
    intro args sg pre x r he hp
    unfold ac2 at he
    split at he <;> cases he
    rename_i l e key d
    obtain ⟨h1, h2, h3⟩ := hp
    have el : (upT l).length = l.length := by have h := congrArg List.length h1; rw [List.length_map] at h; exact h.symm
    rw [a25 h1]
    exact a6h k hv (upT l, e) key d ⟨by omega, by show (upT l).length ≤ _; omega⟩
theorem arc : SOK 60 (ac2 32) := aps 32
end Go.Proofs.Ytllncocibkgjkaa
set_option linter.unusedSimpArgs false
set_option linter.unusedVariables false
set_option maxHeartbeats 4000000
namespace Go.Proofs.Ytllncocibkgjkaa
open Go Go.VG
set_option maxRecDepth 100000
theorem ayz (s : List UInt8) (hp : s.length ≤ 10000000) : OK 25 ([.str s]) ([]) (.tuple [.buf 0, .int .i64 (aeh s)]) (some [eNb (ah4 s)]) := by
  refine aa0 (C := cx [(59, aj4), (60, (ac2 32))]) (abh ⟨azc, (arc), trivial⟩) (fn := Try.f25) rfl rfl rfl rfl fun hw hs => ?_
  have hml : ((aeb (.new s)).1.map vT).length = (aeb (.new s)).1.length := List.length_map _
  have htl : (aeb (.new s)).1.length ≤ s.length := by
    have := a20 (s.length + 1) (.new s) (azl s)
    exact this
  repeat' ((conv => whnf); first | with_reducible (first | refine go1 (fun j q h => ?_) fun h => ?_ | refine go2 ⟨rfl, rfl⟩ (fun h => ?_) fun j h => ?_ | refine go2 ?_ (fun h => ?_) fun j h => ?_ | refine goQ ?_ (fun h => ?_) fun h => ?_) | refine go3 ?_ ?_ | refine go4 ?_ ?_ | refine go5 ?_ | ((first | refine go6 ?_ ?_ | refine go7 ?_ ?_ | refine go8 ?_ ?_ | refine go9 ?_ ?_ | refine goA ?_ ?_) <;> intro h) | with_reducible (first | refine aai.mk _ rfl ?_ | refine goB ?_ fun hc => ?_ | refine goC ?_ fun hc => ?_ | refine goD ?_ fun hc => ?_ | refine goE ?_ fun hc => ?_ | refine goF ?_ ?_ | refine goG ?_ ?_ | refine goH ?_ fun b hb => ?_) | refine goI ?_ | refine goJ ?_ ?_ | refine goK ?_ ?_ ?_ | refine goL ?_ ?_ ?_ ?_ | refine goM ?_ ?_ ?_ ?_ ?_ | refine goN ?_ ?_ | refine goO ?_ ?_ | with_reducible refine goP ?_)
  all_goals try conv => whnf
  all_goals try (refine aac.mk ?_; try dsimp only)
  all_goals (try simp only [aat, aaa, abn, akz, aaf] at *)
  all_goals (try (exfalso; omega))
  all_goals (try simp only [aat, aaa, abn, akz, aaf] at *)
  all_goals first
    | (exact ⟨acp, trivial⟩)
    | (exact acp)
    | (exact aco)
    | (exact aki)
    | (refine stay ?_)
    | (first | trivial | omega | (simp (discharger := omega) only [wR]; omega) | (simp only [lnS]; omega) | (simp (discharger := omega) [-List.getD_eq_getElem?_getD, wR] <;> omega)) | skip
  all_goals (try have hmm : ((aay 32 [] (aeb (.new s))).2.2.1.map vT).length = (aay 32 [] (aeb (.new s))).2.2.1.length := List.length_map _)
  · exact ⟨acp, rfl, by omega⟩
  · have e : aeh s = 2 := by unfold aeh; rw [if_neg (by omega), if_pos (.inl (by omega))]
    have el : ah4 s = [] := by unfold ah4; rw [if_neg (by rw [e]; decide)]
    rw [e, el]
    refine aa9.mk [.tm 2 4, .swap 0 3] ?_ <;> (repeat' first | trivial | rfl | exact eqS _ _ | apply And.intro | apply eqA | apply eqB | apply eqC | apply eqD | apply eqE | apply eqF | apply eqG | apply eqH | apply eqI)
  · have e : aeh s = 0 := by unfold aeh; rw [if_neg (by omega), if_neg (by omega)]
    have el : ah4 s = (aay 32 [] (aeb (.new s))).2.1 := by unfold ah4; rw [if_pos e]
    rw [e, el]
    refine aa9.mk [.swap 0 1] ?_ <;> (repeat' first | trivial | rfl | exact eqS _ _ | apply And.intro | apply eqA | apply eqB | apply eqC | apply eqD | apply eqE | apply eqF | apply eqG | apply eqH | apply eqI)
  · have e : aeh s = 2 := by unfold aeh; rw [if_neg (by omega), if_pos (.inr (by assumption))]
    have el : ah4 s = [] := by unfold ah4; rw [if_neg (by rw [e]; decide)]
    rw [e, el]
    refine aa9.mk [.tm 2 4, .swap 0 3] ?_ <;> (repeat' first | trivial | rfl | exact eqS _ _ | apply And.intro | apply eqA | apply eqB | apply eqC | apply eqD | apply eqE | apply eqF | apply eqG | apply eqH | apply eqI)
  · have e : aeh s = (aay 32 [] (aeb (.new s))).1 := by unfold aeh; rw [if_pos (by assumption)]
    have el : ah4 s = [] := by unfold ah4; rw [if_neg (by rw [e]; assumption)]
    rw [e, el]
    refine aa9.mk [.tm 2 4, .swap 0 3] ?_ <;> (repeat' first | trivial | rfl | exact eqS _ _ | apply And.intro | apply eqA | apply eqB | apply eqC | apply eqD | apply eqE | apply eqF | apply eqG | apply eqH | apply eqI)
def bfb : Sm := fun args σ => match args, σ with
  | [.str s], [] => some (s.length ≤ 10000000, .tuple [.buf 0, .int .i64 (aeh s)], some [eNb (ah4 s)])
  | _, _ => none
theorem az0 (a b : List Nd) (hp : a = b ∧ a.length ≤ 100000000) : OK 26 ([.buf 0, .buf 1]) ([eNb a, eNb b]) (.bool true) (none) := by
  refine aa0 (C := cx []) (abh trivial) (fn := Try.f26) rfl rfl rfl rfl fun hw hs => ?_
  obtain ⟨rfl, hl⟩ := hp
  have hml : (a.map eNd).length = a.length := List.length_map _
  repeat' ((conv => whnf); first | with_reducible (first | refine go1 (fun j q h => ?_) fun h => ?_ | refine go2 ⟨rfl, rfl⟩ (fun h => ?_) fun j h => ?_ | refine go2 ?_ (fun h => ?_) fun j h => ?_ | refine goQ ?_ (fun h => ?_) fun h => ?_) | refine go3 ?_ ?_ | refine go4 ?_ ?_ | refine go5 ?_ | ((first | refine go6 ?_ ?_ | refine go7 ?_ ?_ | refine go8 ?_ ?_ | refine go9 ?_ ?_ | refine goA ?_ ?_) <;> intro h) | with_reducible (first | refine aai.mk _ rfl ?_ | refine goB ?_ fun hc => ?_ | refine goC ?_ fun hc => ?_ | refine goD ?_ fun hc => ?_ | refine goE ?_ fun hc => ?_ | refine goF ?_ ?_ | refine goG ?_ ?_ | refine goH ?_ fun b hb => ?_) | refine goI ?_ | refine goJ ?_ ?_ | refine goK ?_ ?_ ?_ | refine goL ?_ ?_ ?_ ?_ | refine goM ?_ ?_ ?_ ?_ ?_ | refine goN ?_ ?_ | refine goO ?_ ?_ | with_reducible refine goP ?_)
  all_goals try conv => whnf
  all_goals try (refine aac.mk ?_; try dsimp only)
  all_goals (try simp only [aat, aaa, abn, akz, aaf] at *)
  all_goals first
    | (exact ⟨acp, trivial⟩)
    | (exact acp)
    | (exact aco)
    | (exact aki)
    | (refine stay ?_)
    | (first | trivial | omega | (simp (discharger := omega) only [wR]; omega) | (simp only [lnS]; omega) | (simp (discharger := omega) [-List.getD_eq_getElem?_getD, wR] <;> omega)) | skip
  · refine abt.mk Nat (fun i => i ≤ a.length) (fun i => ⟨26, [(0, .buf 0), (1, .buf 1), (5, .int .i64 i)], [eNb a, eNb a], []⟩) (fun i => a.length - i) [] 0 (Nat.zero_le _) ?_ (fun i hi _ _ => ?_)
    · refine Go.VG.Sub.mk rfl ?_ ?_ ?_ ?_ <;> (repeat' first | trivial | rfl | exact eqS _ _ | apply And.intro | apply eqA | apply eqB | apply eqC | apply eqD | apply eqE | apply eqF | apply eqG | apply eqH | apply eqI)
    repeat' ((conv => whnf); first | with_reducible (first | refine go1 (fun j q h => ?_) fun h => ?_ | refine go2 ⟨rfl, rfl⟩ (fun h => ?_) fun j h => ?_ | refine go2 ?_ (fun h => ?_) fun j h => ?_ | refine goQ ?_ (fun h => ?_) fun h => ?_) | refine go3 ?_ ?_ | refine go4 ?_ ?_ | refine go5 ?_ | ((first | refine go6 ?_ ?_ | refine go7 ?_ ?_ | refine go8 ?_ ?_ | refine go9 ?_ ?_ | refine goA ?_ ?_) <;> intro h) | with_reducible (first | refine aai.mk _ rfl ?_ | refine goB ?_ fun hc => ?_ | refine goC ?_ fun hc => ?_ | refine goD ?_ fun hc => ?_ | refine goE ?_ fun hc => ?_ | refine goF ?_ ?_ | refine goG ?_ ?_ | refine goH ?_ fun b hb => ?_) | refine goI ?_ | refine goJ ?_ ?_ | refine goK ?_ ?_ ?_ | refine goL ?_ ?_ ?_ ?_ | refine goM ?_ ?_ ?_ ?_ ?_ | refine goN ?_ ?_ | refine goO ?_ ?_ | with_reducible refine goP ?_)
    all_goals try conv => whnf
    all_goals try (refine aac.mk ?_; try dsimp only)
    all_goals (try simp only [aat, aaa, abn, akz, aaf] at *)
    all_goals first
      | (exact ⟨acp, trivial⟩)
      | (exact acp)
      | (exact aco)
      | (exact aki)
      | (refine stay ?_)
      | (first | trivial | omega | (simp (discharger := omega) only [wR]; omega) | (simp only [lnS]; omega) | (simp (discharger := omega) [-List.getD_eq_getElem?_getD, wR] <;> omega)) | skip
    all_goals first
      | (refine ⟨[], i + 1, by omega, ?_, by omega⟩
         refine Go.VG.Sub.mk rfl ?_ ?_ ?_ ?_ <;> (repeat' first | trivial | rfl | exact eqS _ _ | apply And.intro | apply eqA | apply eqB | apply eqC | apply eqD | apply eqE | apply eqF | apply eqG | apply eqH | apply eqI)
         all_goals (first | omega | (simp (discharger := omega) only [wR]; omega) | (simp only [lnS]; omega) | (simp (discharger := omega) [-List.getD_eq_getElem?_getD, wR] <;> omega))
         done)
      | (show aa9 _ _ _ _ _ _
         refine aa9.mk [] ?_ <;> (repeat' first | trivial | rfl | exact eqS _ _ | apply And.intro | apply eqA | apply eqB | apply eqC | apply eqD | apply eqE | apply eqF | apply eqG | apply eqH | apply eqI)
         done)
      | (exfalso; simp_all; done)
      | skip
  · exact absurd trivial (by assumption)
def ang : Sm := fun args σ => match args, σ with
  | [.buf 0, .buf 1], [.buf 4 0 l_a, .buf 4 0 l_b] => some (okN l_b ∧ (okN l_a ∧ ((upN l_a) = (upN l_b) ∧ (upN l_a).length ≤ 100000000)), .bool true, none)
  | _, _ => none
theorem a75 : SOK 26 ang := by
  intro args sg pre x r he hp
  unfold ang at he
  split at he <;> cases he
  · rw [a24 (hp).1]; rw [a24 (hp.2).1]; exact az0 (hp := hp.2.2) ..
theorem atm (a : List Nd) (hp : a.length ≤ 100000000) : OK 27 ([.buf 0]) ([eNb a]) (.buf 1) (some [eNb a, eNb a]) := by
  refine aa0 (C := cx []) (abh trivial) (fn := Try.f27) rfl rfl rfl rfl fun hw hs => ?_
  have hml : (a.map eNd).length = a.length := List.length_map _
  repeat' ((conv => whnf); first | with_reducible (first | refine go1 (fun j q h => ?_) fun h => ?_ | refine go2 ⟨rfl, rfl⟩ (fun h => ?_) fun j h => ?_ | refine go2 ?_ (fun h => ?_) fun j h => ?_ | refine goQ ?_ (fun h => ?_) fun h => ?_) | refine go3 ?_ ?_ | refine go4 ?_ ?_ | refine go5 ?_ | ((first | refine go6 ?_ ?_ | refine go7 ?_ ?_ | refine go8 ?_ ?_ | refine go9 ?_ ?_ | refine goA ?_ ?_) <;> intro h) | with_reducible (first | refine aai.mk _ rfl ?_ | refine goB ?_ fun hc => ?_ | refine goC ?_ fun hc => ?_ | refine goD ?_ fun hc => ?_ | refine goE ?_ fun hc => ?_ | refine goF ?_ ?_ | refine goG ?_ ?_ | refine goH ?_ fun b hb => ?_) | refine goI ?_ | refine goJ ?_ ?_ | refine goK ?_ ?_ ?_ | refine goL ?_ ?_ ?_ ?_ | refine goM ?_ ?_ ?_ ?_ ?_ | refine goN ?_ ?_ | refine goO ?_ ?_ | with_reducible refine goP ?_)
  all_goals try conv => whnf
  all_goals try (refine aac.mk ?_; try dsimp only)
  all_goals (try simp only [aat, aaa, abn, akz, aaf] at *)
  all_goals first
    | (exact ⟨acp, trivial⟩)
    | (exact acp)
    | (exact aco)
    | (exact aki)
    | (refine stay ?_)
    | (first | trivial | omega | (simp (discharger := omega) only [wR]; omega) | (simp only [lnS]; omega) | (simp (discharger := omega) [-List.getD_eq_getElem?_getD, wR] <;> omega)) | skip
  refine abt.mk Nat (fun i => i ≤ a.length) (fun i => ⟨19, [(0, .buf 0), (3, .buf 1), (4, .int .i64 i)], [eNb a, eNb (a.take i)], [1]⟩) (fun i => a.length - i) [.tm 3 4] 0 (Nat.zero_le _) ?_ (fun i hi _ _ => ?_)
  · refine Go.VG.Sub.mk rfl ?_ ?_ ?_ ?_ <;> (repeat' first | trivial | rfl | exact eqS _ _ | apply And.intro | apply eqA | apply eqB | apply eqC | apply eqD | apply eqE | apply eqF | apply eqG | apply eqH | apply eqI)
  have hml2 : ((a.take i).map eNd).length = i := by rw [List.length_map, List.length_take]; omega
  have hnx : i < a.length → a.take (i + 1) = a.take i ++ [a.getD i default] := fun h => by
    rw [List.take_add_one, List.getD_eq_getElem?_getD, List.getElem?_eq_getElem h]; rfl
  repeat' ((conv => whnf); first | with_reducible (first | refine go1 (fun j q h => ?_) fun h => ?_ | refine go2 ⟨rfl, rfl⟩ (fun h => ?_) fun j h => ?_ | refine go2 ?_ (fun h => ?_) fun j h => ?_ | refine goQ ?_ (fun h => ?_) fun h => ?_) | refine go3 ?_ ?_ | refine go4 ?_ ?_ | refine go5 ?_ | ((first | refine go6 ?_ ?_ | refine go7 ?_ ?_ | refine go8 ?_ ?_ | refine go9 ?_ ?_ | refine goA ?_ ?_) <;> intro h) | with_reducible (first | refine aai.mk _ rfl ?_ | refine goB ?_ fun hc => ?_ | refine goC ?_ fun hc => ?_ | refine goD ?_ fun hc => ?_ | refine goE ?_ fun hc => ?_ | refine goF ?_ ?_ | refine goG ?_ ?_ | refine goH ?_ fun b hb => ?_) | refine goI ?_ | refine goJ ?_ ?_ | refine goK ?_ ?_ ?_ | refine goL ?_ ?_ ?_ ?_ | refine goM ?_ ?_ ?_ ?_ ?_ | refine goN ?_ ?_ | refine goO ?_ ?_ | with_reducible refine goP ?_)
  all_goals try conv => whnf
  all_goals try (refine aac.mk ?_; try dsimp only)
  all_goals (try simp only [aat, aaa, abn, akz, aaf] at *)
  all_goals first
    | (exact ⟨acp, trivial⟩)
    | (exact acp)
    | (exact aco)
    | (exact aki)
    | (refine stay ?_)
    | (first | trivial | omega | (simp (discharger := omega) only [wR]; omega) | (simp only [lnS]; omega) | (simp (discharger := omega) [-List.getD_eq_getElem?_getD, wR] <;> omega)) | skip
  all_goals first
    | (refine ⟨[], i + 1, by omega, ?_, by omega⟩
       refine Go.VG.Sub.mk rfl ?_ ?_ ?_ ?_ <;> (repeat' first | trivial | rfl | exact eqS _ _ | apply And.intro | apply eqA | apply eqB | apply eqC | apply eqD | apply eqE | apply eqF | apply eqG | apply eqH | apply eqI)
       all_goals first
         | (first | omega | (simp (discharger := omega) only [wR]; omega) | (simp only [lnS]; omega) | (simp (discharger := omega) [-List.getD_eq_getElem?_getD, wR] <;> omega))
         | (rw [hnx (by omega)]; simp; done)
       done)
    | (show aa9 _ _ _ _ _ _
       have e : i = a.length := by omega
       subst e
       rw [List.take_length]
       refine aa9.mk [] ?_ <;> (repeat' first | trivial | rfl | exact eqS _ _ | apply And.intro | apply eqA | apply eqB | apply eqC | apply eqD | apply eqE | apply eqF | apply eqG | apply eqH | apply eqI)
       done)
    | skip
def aj2 : Sm := fun args σ => match args, σ with
  | [.buf 0], [.buf 4 0 l_a] => some (okN l_a ∧ ((upN l_a).length ≤ 100000000), .buf 1, some [eNb (upN l_a), eNb (upN l_a)])
  | _, _ => none
theorem aza : SOK 27 aj2 := by
  intro args sg pre x r he hp
  unfold aj2 at he
  split at he <;> cases he
  · rw [a24 (hp).1]; exact atm (hp := hp.2) ..
end Go.Proofs.Ytllncocibkgjkaa
