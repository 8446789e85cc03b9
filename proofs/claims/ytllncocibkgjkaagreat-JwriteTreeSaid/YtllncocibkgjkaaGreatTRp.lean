/-
  A part of the proof.
-/
import Derived.Test.YtllncocibkgjkaaGreatTRq
import Derived.Test.YtllncocibkgjkaaGreatTRk
set_option linter.unusedSimpArgs false
set_option linter.unusedVariables false
set_option maxHeartbeats 4000000
namespace Go.Proofs.YtllncocibkgjkaaGreat
open Go Go.VG
set_option maxRecDepth 100000
def gm (L : List Nd) : Prop := (∀ x ∈ L, 1 ≤ x.sz ∧ x.sz ≤ L.length ∧ x.key.length ≤ 10000000 ∧ x.t.length ≤ 10000000) ∧ L.length ≤ 100000000
abbrev nI (k : Nat) : V := .int .i64 k
theorem iI {L : List Nd} (h : gm L) {a : Nat} (ha : a < L.length) : 1 ≤ (L.getD a default).sz ∧ (L.getD a default).sz ≤ L.length ∧ (L.getD a default).key.length ≤ 10000000 ∧ (L.getD a default).t.length ≤ 10000000 := by
 rw [List.getD_eq_getElem?_getD, List.getElem?_eq_getElem ha]
 exact h.1 _ (List.getElem_mem ha)
theorem unN {l : List V} (h : gG l) : ∃ L, l = L.map aQ ∧ bH l = L := ⟨_, h, rfl⟩
theorem pN (L : List Nd) (a : Nat) : iG L a ≤ L.length := Nat.min_le_left _ _
theorem zX {L : List Nd} {e : Nat} : ∀ (n p k : Nat), k ∈ iH L e n p → p ≤ k ∧ k < e
 | 0, _, _, h => by cases h
 | n + 1, p, k, h => by
   rw [iH] at h
   split at h
   . rcases List.mem_cons.1 h with rfl | h
     . exact ⟨Nat.le_refl _, by assumption⟩
     . have := zX n _ k h; omega
   . cases h
theorem pP {L : List Nd} {a k : Nat} (h : k ∈ aJ L a) : a < k ∧ k < L.length := by
 have := zX _ _ _ h
 have := pN L a
 omega
theorem zW {L : List Nd} {e : Nat} : ∀ (n p : Nat), (iH L e n p).length ≤ n
 | 0, _ => Nat.le_refl _
 | n + 1, p => by
   rw [iH]
   split
   . have := zW (L := L) (e := e) n (p + (L.getD p default).sz.toNat)
     rw [List.length_cons]; omega
   . exact Nat.zero_le _
theorem An (L : List Nd) (a : Nat) : (aJ L a).length ≤ L.length := zW _ _
theorem rL {L : List Nd} {a : Nat} (h : a < L.length) : lO L (a : Nat) = aJ L a := by unfold lO; rw [if_pos ⟨by omega, by omega⟩, Int.toNat_natCast]
theorem rM {L : List Nd} {q : Int} (h : q < 0 ∨ q ≥ L.length) : lO L q = [] := by unfold lO; rw [if_neg (by omega)]
theorem om (l : List Nat) : (l.map nI).length = l.length := List.length_map _
def KI (L : List Nd) (a : Nat) (x : Nat × Nat × List Nat) : Prop := (aJ L a = x.2.2 ++ iH L (iG L a) x.1 x.2.1 ∧ iG L a - x.2.1 ≤ x.1) ∧ a < x.2.1 ∧ x.2.1 ≤ 200000001 ∧ x.2.2.length ≤ x.2.1
theorem KI_0 {L : List Nd} {a : Nat} (hl : L.length ≤ 100000000) (ha : a < L.length) : KI L a (L.length, a + 1, []) := ⟨⟨rfl, by have := pN L a; show iG L a - (a + 1) ≤ L.length; omega⟩, Nat.lt_succ_self a, by show a + 1 ≤ _; omega, Nat.zero_le _⟩
theorem xM {L : List Nd} {a n k : Nat} {acc : List Nat} (h : KI L a (n, k, acc)) (hk : ¬ k < iG L a) : aJ L a = acc := by
 obtain ⟨⟨h1, h2⟩, _⟩ := h
 rw [h1]
 show acc ++ iH L (iG L a) n k = acc
 cases n with
 | zero => exact List.append_nil acc
 | succ n => rw [iH, if_neg hk, List.append_nil]
theorem xN {L : List Nd} {a n k : Nat} {acc : List Nat} (hp : gm L) (h : KI L a (n, k, acc)) (hk : k < iG L a) : ∃ m, n = m + 1 ∧ KI L a (m, k + (L.getD k default).sz.toNat, acc ++ [k]) := by
 obtain ⟨⟨h1, h2⟩, h3, h4, h5⟩ := h
 dsimp only at h1 h2 h3 h4 h5
 have hE := pN L a
 have hn := iI hp (a := k) (by omega)
 have hl := hp.2
 obtain ⟨m, rfl⟩ : ∃ m, n = m + 1 := ⟨n - 1, by omega⟩
 rw [iH, if_pos hk] at h1
 refine ⟨m, rfl, ⟨?_, ?_⟩, ?_, ?_, ?_⟩
 . rw [h1, List.append_assoc]; rfl
 . show iG L a - (k + (L.getD k default).sz.toNat) ≤ m; omega
 . show a < k + (L.getD k default).sz.toNat; omega
 . show k + (L.getD k default).sz.toNat ≤ 200000001; omega
 . show (acc ++ [k]).length ≤ k + (L.getD k default).sz.toNat
   rw [List.length_append, List.length_singleton]; omega
theorem LY (c : Bool) (l : List V) (q : Int) (hp : gG l ∧ gm (bH l)) : OK 45 ([.list c 4 l, .int .i64 q]) ([]) (.buf 0) (some [.buf 1 0 ((lO (bH l) q).map nI)]) := by
 refine aq (C := cx []) (ar trivial) (fn := Tryz.f45) rfl rfl rfl rfl fun hw hs => ?_
 obtain ⟨hN, hp⟩ := hp
 obtain ⟨L, rfl, eL⟩ := unN hN
 rw [eL] at hp ⊢
 have hml : (L.map aQ).length = L.length := List.length_map _
 have hl := hp.2
 repeat' ((conv => whnf); first | apply ak | (apply al <;> intro h) | with_reducible apply goG)
 all_goals try conv => whnf
 all_goals try (refine ab.mk ?_; try dsimp only)
 all_goals (try simp only [du, c5] at *)
 all_goals first | refine stay ?_ | omega | skip
 . rw [rM (by omega)]
   refine a8.mk [.tm 4 1] ?_ <;> (repeat' first | trivial)
 . rw [rM (by omega)]
   refine a8.mk [.tm 4 1] ?_ <;> (repeat' first | trivial)
 have hq1 : 0 ≤ q := by omega
 obtain ⟨a, rfl⟩ := Int.eq_ofNat_of_zero_le hq1
 have ha : a < L.length := by omega
 have hna := iI hp ha
 have hE := pN L a
 have hEe : iG L a = min L.length (a + (L.getD a default).sz.toNat) := rfl
 rw [rL ha]
 have hif : ∀ {k : Nat}, k < L.length → (if (L.getD k default).sz < (L.length : Int) then (L.getD k default).sz else (L.length : Int)) = (L.getD k default).sz := fun hk => by
  have := iI hp hk
  split <;> omega
 have hwa : IntKind.i64.wrap ((a : Int) + (L.getD a default).sz) = (a : Int) + (L.getD a default).sz := by rw [gU]; omega
 have hif := hif ha
 refine bn.mk (Nat × Nat × List Nat) (KI L a) (fun x => ⟨50, [(0, .list c 4 (L.map aQ)), (1, .int .i64 a), (5, .buf 0), (6, .int .i64 (iG L a)), (7, .int .i64 x.2.1)], [.buf 1 0 (x.2.2.map nI)], [0]⟩) (fun x => x.1) [.tm 5 1] (L.length, a + 1, []) (KI_0 hl ha) ?_ (fun ⟨n, k, acc⟩ hI _ _ => ?_)
 . refine Go.VG.Sub.mk rfl ?_ ?_ ?_ ?_ <;> (repeat' first | trivial | apply aj | apply aR)
   all_goals (try simp only [hml, Int.toNat_natCast, hif, hwa])
   all_goals first
    | (show IntKind.i64.wrap (↑a + 1) = ((a + 1 : Nat) : Int); (simp (discharger := omega) only [wR]; omega))
    | (rw [hEe]; split <;> omega)
 have hI2 := hI.2
 dsimp only at hI2
 have hn := fun h : k < L.length => iI hp h
 have hma := om acc
 repeat' ((conv => whnf); first | apply ak | (apply al <;> intro h) | with_reducible apply jw)
 all_goals try conv => whnf
 all_goals try (refine ab.mk ?_; try dsimp only)
 all_goals (try simp only [du, c5] at *)
 all_goals first | refine stay ?_ | omega | (simp only [cK]; omega) | skip
 all_goals first
  | (show a8 _ _ _ _ _ _
     rw [xM hI (by omega)]
     refine a8.mk [] ?_ <;> (repeat' first | trivial)
     done)
  | skip
 obtain ⟨m, rfl, hI'⟩ := xN hp hI (by omega)
 have hn := hn (by omega)
 refine ⟨[], (m, k + (L.getD k default).sz.toNat, acc ++ [k]), hI', ?_, Nat.lt_succ_self m⟩
 refine Go.VG.Sub.mk rfl ?_ ?_ ?_ ?_ <;> (repeat' first | trivial | apply aj | apply aR | apply aM)
 all_goals (try simp only [hml, Int.toNat_natCast])
 all_goals first
  | (rw [List.map_append]; rfl)
  | (show IntKind.i64.wrap _ = ((k + (L.getD k default).sz.toNat : Nat) : Int)
     (repeat' split)
     all_goals (first | omega | (simp (discharger := omega) only [wR]; omega)))
def M3 : Sm := fun args σ => match args, σ with
 | [.list c 4 l, .int .i64 q], [] => some (gG l ∧ gm (bH l), .buf 0, some [.buf 1 0 ((lO (bH l) q).map nI)])
 | _, _ => none
theorem Gf (c : Bool) (l : List V) (q : Int) (hp : gG l ∧ gm (bH l)) : OK 27 ([.list c 4 l, .int .i64 q]) ([]) (.buf 0) (some [.buf 1 0 ((lO (bH l) q).map nI)]) := by
 refine aq (C := cx []) (ar trivial) (fn := Tryz.f27) rfl rfl rfl rfl fun hw hs => ?_
 obtain ⟨hN, hp⟩ := hp
 obtain ⟨L, rfl, eL⟩ := unN hN
 rw [eL] at hp ⊢
 have hml : (L.map aQ).length = L.length := List.length_map _
 have hl := hp.2
 repeat' ((conv => whnf); (apply al <;> intro h))
 all_goals try conv => whnf
 all_goals try (refine ab.mk ?_; try dsimp only)
 all_goals (try simp only [du, c5] at *)
 all_goals try refine stay ?_
 . rw [rM (by omega)]
   refine a8.mk [.tm 4 1] ?_ <;> (repeat' first | trivial)
 . rw [rM (by omega)]
   refine a8.mk [.tm 4 1] ?_ <;> (repeat' first | trivial)
 have hq1 : 0 ≤ q := by omega
 obtain ⟨a, rfl⟩ := Int.eq_ofNat_of_zero_le hq1
 have ha : a < L.length := by omega
 have hna := iI hp ha
 have hE := pN L a
 have hEe : iG L a = min L.length (a + (L.getD a default).sz.toNat) := rfl
 rw [rL ha]
 have hif : ∀ {k : Nat}, k < L.length → (if (L.getD k default).sz < (L.length : Int) then (L.getD k default).sz else (L.length : Int)) = (L.getD k default).sz := fun hk => by
  have := iI hp hk
  split <;> omega
 have hwa : IntKind.i64.wrap ((a : Int) + (L.getD a default).sz) = (a : Int) + (L.getD a default).sz := by rw [gU]; omega
 have hif := hif ha
 refine bn.mk (Nat × Nat × List Nat) (KI L a) (fun x => ⟨45, [(0, .list c 4 (L.map aQ)), (1, .int .i64 a), (5, .buf 0), (6, .int .i64 x.2.1)], [.buf 1 0 (x.2.2.map nI)], [0]⟩) (fun x => x.1) [.tm 5 1] (L.length, a + 1, []) (KI_0 hl ha) ?_ (fun ⟨n, k, acc⟩ hI _ _ => ?_)
 . refine Go.VG.Sub.mk rfl ?_ ?_ ?_ ?_ <;> (repeat' first | trivial | apply aj | apply aR)
   all_goals (try simp only [hml, Int.toNat_natCast, hif, hwa])
   all_goals first
    | (show IntKind.i64.wrap (↑a + 1) = ((a + 1 : Nat) : Int); (simp (discharger := omega) only [wR]; omega))
    | (rw [hEe]; split <;> omega)
 have hI2 := hI.2
 dsimp only at hI2
 have hn := fun h : k < L.length => iI hp h
 have hma := om acc
 repeat' ((conv => whnf); first | apply ak | (apply al <;> intro h) | with_reducible apply jw)
 all_goals try conv => whnf
 all_goals try (refine ab.mk ?_; try dsimp only)
 all_goals (try simp only [du, c5] at *)
 all_goals first | refine stay ?_ | trivial | omega | (simp only [cK]; omega) | skip
 all_goals first
  | (show a8 _ _ _ _ _ _
     rw [xM hI (by omega)]
     refine a8.mk [] ?_ <;> (repeat' first | trivial)
     done)
  | skip
 obtain ⟨m, rfl, hI'⟩ := xN hp hI (by omega)
 have hn := hn (by omega)
 refine ⟨[], (m, k + (L.getD k default).sz.toNat, acc ++ [k]), hI', ?_, Nat.lt_succ_self m⟩
 refine Go.VG.Sub.mk rfl ?_ ?_ ?_ ?_ <;> (repeat' first | trivial | apply aj | apply aR | apply aM)
 all_goals (try simp only [hml, Int.toNat_natCast])
 all_goals first
  | (rw [List.map_append]; rfl)
  | (show IntKind.i64.wrap _ = ((k + (L.getD k default).sz.toNat : Nat) : Int)
     (repeat' split)
     all_goals (simp (discharger := omega) only [wR]; omega))
def tf : Sm := fun args σ => match args, σ with
 | [.list c 4 l, .int .i64 q], [] => some (gG l ∧ gm (bH l), .buf 0, some [.buf 1 0 ((lO (bH l) q).map nI)])
 | _, _ => none
theorem Am : ay 27 tf := by
 intro args sg pre x r he hp
 unfold tf at he
 split at he <;> cases he
 . exact Gf (hp := hp) ..
end Go.Proofs.YtllncocibkgjkaaGreat
