/-
  A part of the proof.
-/
import Derived.Test.YtllncocibkgjkaaGreatTRq
import Derived.Test.YtllncocibkgjkaaGreatTRk
set_option linter.unusedSimpArgs false
set_option linter.unusedVariables false
set_option maxHeartbeats 4000000
namespace Go.Proofs.YtllncocibkgjkaaGreat
open Go Go.VG
set_option maxRecDepth 100000
def cf (L : List Nd) : Prop := (∀ x ∈ L, 1 ≤ x.sz ∧ x.sz ≤ L.length ∧ x.key.length ≤ 10000000 ∧ x.t.length ≤ 10000000) ∧ L.length ≤ 100000000
abbrev nI (k : Nat) : V := .int .i64 k
theorem kG {L : List Nd} (h : cf L) {a : Nat} (ha : a < L.length) : 1 ≤ (L.getD a default).sz ∧ (L.getD a default).sz ≤ L.length ∧ (L.getD a default).key.length ≤ 10000000 ∧ (L.getD a default).t.length ≤ 10000000 := by
 rw [List.getD_eq_getElem?_getD, List.getElem?_eq_getElem ha]
 exact h.1 _ (List.getElem_mem ha)
theorem jw {l : List V} (h : cr l) : ∃ L, l = L.map aR ∧ ao l = L := ⟨_, h, rfl⟩
theorem qd (L : List Nd) (a : Nat) : iY L a ≤ L.length := Nat.min_le_left _ _
theorem Ax {L : List Nd} {e : Nat} : ∀ (n p k : Nat), k ∈ jS L e n p → p ≤ k ∧ k < e
 | 0, _, _, h => by cases h
 | n + 1, p, k, h => by
   rw [jS] at h
   split at h
   . rcases List.mem_cons.1 h with rfl | h
     . exact ⟨Nat.le_refl _, by assumption⟩
     . have := Ax n _ k h; omega
   . cases h
theorem J6 {L : List Nd} {a k : Nat} (h : k ∈ oA L a) : a < k ∧ k < L.length := by
 have := Ax _ _ _ h
 have := qd L a
 omega
theorem Aw {L : List Nd} {e : Nat} : ∀ (n p : Nat), (jS L e n p).length ≤ n
 | 0, _ => Nat.le_refl _
 | n + 1, p => by
   rw [jS]
   split
   . have := Aw (L := L) (e := e) n (p + (L.getD p default).sz.toNat)
     rw [List.length_cons]; omega
   . exact Nat.zero_le _
theorem J5 (L : List Nd) (a : Nat) : (oA L a).length ≤ L.length := Aw _ _
theorem AR {L : List Nd} {a : Nat} (h : a < L.length) : cz L (a : Nat) = oA L a := by unfold cz; rw [if_pos ⟨by omega, by omega⟩, Int.toNat_natCast]
theorem qe {L : List Nd} {q : Int} (h : q < 0 ∨ q ≥ L.length) : cz L q = [] := by unfold cz; rw [if_neg (by omega)]
theorem qv (l : List Nat) : (l.map nI).length = l.length := List.length_map _
def KI (L : List Nd) (a : Nat) (x : Nat × Nat × List Nat) : Prop := (oA L a = x.2.2 ++ jS L (iY L a) x.1 x.2.1 ∧ iY L a - x.2.1 ≤ x.1) ∧ a < x.2.1 ∧ x.2.1 ≤ 200000001 ∧ x.2.2.length ≤ x.2.1
theorem KI_0 {L : List Nd} {a : Nat} (hl : L.length ≤ 100000000) (ha : a < L.length) : KI L a (L.length, a + 1, []) := ⟨⟨rfl, by have := qd L a; show iY L a - (a + 1) ≤ L.length; omega⟩, Nat.lt_succ_self a, by show a + 1 ≤ _; omega, Nat.zero_le _⟩
theorem yq {L : List Nd} {a n k : Nat} {acc : List Nat} (h : KI L a (n, k, acc)) (hk : ¬ k < iY L a) : oA L a = acc := by
 obtain ⟨⟨h1, h2⟩, _⟩ := h
 rw [h1]
 show acc ++ jS L (iY L a) n k = acc
 cases n with
 | zero => exact List.append_nil acc
 | succ n => rw [jS, if_neg hk, List.append_nil]
theorem yu {L : List Nd} {a n k : Nat} {acc : List Nat} (hp : cf L) (h : KI L a (n, k, acc)) (hk : k < iY L a) : ∃ m, n = m + 1 ∧ KI L a (m, k + (L.getD k default).sz.toNat, acc ++ [k]) := by
 obtain ⟨⟨h1, h2⟩, h3, h4, h5⟩ := h
 dsimp only at h1 h2 h3 h4 h5
 have hE := qd L a
 have hn := kG hp (a := k) (by omega)
 have hl := hp.2
 obtain ⟨m, rfl⟩ : ∃ m, n = m + 1 := ⟨n - 1, by omega⟩
 rw [jS, if_pos hk] at h1
 refine ⟨m, rfl, ⟨?_, ?_⟩, ?_, ?_, ?_⟩
 . rw [h1, List.append_assoc]; rfl
 . show iY L a - (k + (L.getD k default).sz.toNat) ≤ m; omega
 . show a < k + (L.getD k default).sz.toNat; omega
 . show k + (L.getD k default).sz.toNat ≤ 200000001; omega
 . show (acc ++ [k]).length ≤ k + (L.getD k default).sz.toNat
   rw [List.length_append, List.length_singleton]; omega
theorem GZ (c : Bool) (l : List V) (q : Int) (hp : cr l ∧ cf (ao l)) : OK 45 ([.list c 4 l, .int .i64 q]) ([]) (.buf 0) (some [.buf 1 0 ((cz (ao l) q).map nI)]) := by
 refine au (C := cx []) (aq trivial) (fn := Tryz.f45) rfl rfl rfl rfl fun hw hs => ?_
 obtain ⟨hN, hp⟩ := hp
 obtain ⟨L, rfl, eL⟩ := jw hN
 rw [eL] at hp ⊢
 have hml : (L.map aR).length = L.length := List.length_map _
 have hl := hp.2
 repeat' ((conv => whnf); first | apply ak | (apply al <;> intro h) | with_reducible apply gF)
 all_goals try conv => whnf
 all_goals try (refine a9.mk ?_; try dsimp only)
 all_goals (try simp only [cv, cg] at *)
 all_goals first | refine stay ?_ | omega | skip
 . rw [qe (by omega)]
   refine a8.mk [.tm 4 1] ?_ <;> (repeat' first | trivial)
 . rw [qe (by omega)]
   refine a8.mk [.tm 4 1] ?_ <;> (repeat' first | trivial)
 have hq1 : 0 ≤ q := by omega
 obtain ⟨a, rfl⟩ := Int.eq_ofNat_of_zero_le hq1
 have ha : a < L.length := by omega
 have hna := kG hp ha
 have hE := qd L a
 have hEe : iY L a = min L.length (a + (L.getD a default).sz.toNat) := rfl
 rw [AR ha]
 have hif : ∀ {k : Nat}, k < L.length → (if (L.getD k default).sz < (L.length : Int) then (L.getD k default).sz else (L.length : Int)) = (L.getD k default).sz := fun hk => by
  have := kG hp hk
  split <;> omega
 have hwa : IntKind.i64.wrap ((a : Int) + (L.getD a default).sz) = (a : Int) + (L.getD a default).sz := by rw [c5]; omega
 have hif := hif ha
 refine aU.mk (Nat × Nat × List Nat) (KI L a) (fun x => ⟨50, [(0, .list c 4 (L.map aR)), (1, .int .i64 a), (5, .buf 0), (6, .int .i64 (iY L a)), (7, .int .i64 x.2.1)], [.buf 1 0 (x.2.2.map nI)], [0]⟩) (fun x => x.1) [.tm 5 1] (L.length, a + 1, []) (KI_0 hl ha) ?_ (fun ⟨n, k, acc⟩ hI _ _ => ?_)
 . refine Go.VG.Sub.mk rfl ?_ ?_ ?_ ?_ <;> (repeat' first | trivial | apply ae | apply aI)
   all_goals (try simp only [hml, Int.toNat_natCast, hif, hwa])
   all_goals first
    | (show IntKind.i64.wrap (↑a + 1) = ((a + 1 : Nat) : Int); (simp (discharger := omega) only [wR]; omega))
    | (rw [hEe]; split <;> omega)
 have hI2 := hI.2
 dsimp only at hI2
 have hn := fun h : k < L.length => kG hp h
 have hma := qv acc
 repeat' ((conv => whnf); first | apply ak | (apply al <;> intro h) | with_reducible apply lR)
 all_goals try conv => whnf
 all_goals try (refine a9.mk ?_; try dsimp only)
 all_goals (try simp only [cv, cg] at *)
 all_goals first | refine stay ?_ | omega | (simp only [ig]; omega) | skip
 all_goals first
  | (show a8 _ _ _ _ _ _
     rw [yq hI (by omega)]
     refine a8.mk [] ?_ <;> (repeat' first | trivial)
     done)
  | skip
 obtain ⟨m, rfl, hI'⟩ := yu hp hI (by omega)
 have hn := hn (by omega)
 refine ⟨[], (m, k + (L.getD k default).sz.toNat, acc ++ [k]), hI', ?_, Nat.lt_succ_self m⟩
 refine Go.VG.Sub.mk rfl ?_ ?_ ?_ ?_ <;> (repeat' first | trivial | apply ae | apply aI | apply br)
 all_goals (try simp only [hml, Int.toNat_natCast])
 all_goals first
  | (rw [List.map_append]; rfl)
  | (show IntKind.i64.wrap _ = ((k + (L.getD k default).sz.toNat : Nat) : Int)
     (repeat' split)
     all_goals (first | omega | (simp (discharger := omega) only [wR]; omega)))
def tB : Sm := fun args σ => match args, σ with
 | [.list c 4 l, .int .i64 q], [] => some (cr l ∧ cf (ao l), .buf 0, some [.buf 1 0 ((cz (ao l) q).map nI)])
 | _, _ => none
theorem AQ : aw 45 tB := by
 intro args sg pre x r he hp
 unfold tB at he
 split at he <;> cases he
 . exact GZ (hp := hp) ..
theorem GL (c : Bool) (l : List V) (q : Int) (hp : cr l ∧ cf (ao l)) : OK 27 ([.list c 4 l, .int .i64 q]) ([]) (.buf 0) (some [.buf 1 0 ((cz (ao l) q).map nI)]) := by
 refine au (C := cx []) (aq trivial) (fn := Tryz.f27) rfl rfl rfl rfl fun hw hs => ?_
 obtain ⟨hN, hp⟩ := hp
 obtain ⟨L, rfl, eL⟩ := jw hN
 rw [eL] at hp ⊢
 have hml : (L.map aR).length = L.length := List.length_map _
 have hl := hp.2
 repeat' ((conv => whnf); (apply al <;> intro h))
 all_goals try conv => whnf
 all_goals try (refine a9.mk ?_; try dsimp only)
 all_goals (try simp only [cv, cg] at *)
 all_goals try refine stay ?_
 . rw [qe (by omega)]
   refine a8.mk [.tm 4 1] ?_ <;> (repeat' first | trivial)
 . rw [qe (by omega)]
   refine a8.mk [.tm 4 1] ?_ <;> (repeat' first | trivial)
 have hq1 : 0 ≤ q := by omega
 obtain ⟨a, rfl⟩ := Int.eq_ofNat_of_zero_le hq1
 have ha : a < L.length := by omega
 have hna := kG hp ha
 have hE := qd L a
 have hEe : iY L a = min L.length (a + (L.getD a default).sz.toNat) := rfl
 rw [AR ha]
 have hif : ∀ {k : Nat}, k < L.length → (if (L.getD k default).sz < (L.length : Int) then (L.getD k default).sz else (L.length : Int)) = (L.getD k default).sz := fun hk => by
  have := kG hp hk
  split <;> omega
 have hwa : IntKind.i64.wrap ((a : Int) + (L.getD a default).sz) = (a : Int) + (L.getD a default).sz := by rw [c5]; omega
 have hif := hif ha
 refine aU.mk (Nat × Nat × List Nat) (KI L a) (fun x => ⟨45, [(0, .list c 4 (L.map aR)), (1, .int .i64 a), (5, .buf 0), (6, .int .i64 x.2.1)], [.buf 1 0 (x.2.2.map nI)], [0]⟩) (fun x => x.1) [.tm 5 1] (L.length, a + 1, []) (KI_0 hl ha) ?_ (fun ⟨n, k, acc⟩ hI _ _ => ?_)
 . refine Go.VG.Sub.mk rfl ?_ ?_ ?_ ?_ <;> (repeat' first | trivial | apply ae | apply aI)
   all_goals (try simp only [hml, Int.toNat_natCast, hif, hwa])
   all_goals first
    | (show IntKind.i64.wrap (↑a + 1) = ((a + 1 : Nat) : Int); (simp (discharger := omega) only [wR]; omega))
    | (rw [hEe]; split <;> omega)
 have hI2 := hI.2
 dsimp only at hI2
 have hn := fun h : k < L.length => kG hp h
 have hma := qv acc
 repeat' ((conv => whnf); first | apply ak | (apply al <;> intro h) | with_reducible apply lR)
 all_goals try conv => whnf
 all_goals try (refine a9.mk ?_; try dsimp only)
 all_goals (try simp only [cv, cg] at *)
 all_goals first | refine stay ?_ | trivial | omega | (simp only [ig]; omega) | skip
 all_goals first
  | (show a8 _ _ _ _ _ _
     rw [yq hI (by omega)]
     refine a8.mk [] ?_ <;> (repeat' first | trivial)
     done)
  | skip
 obtain ⟨m, rfl, hI'⟩ := yu hp hI (by omega)
 have hn := hn (by omega)
 refine ⟨[], (m, k + (L.getD k default).sz.toNat, acc ++ [k]), hI', ?_, Nat.lt_succ_self m⟩
 refine Go.VG.Sub.mk rfl ?_ ?_ ?_ ?_ <;> (repeat' first | trivial | apply ae | apply aI | apply br)
 all_goals (try simp only [hml, Int.toNat_natCast])
 all_goals first
  | (rw [List.map_append]; rfl)
  | (show IntKind.i64.wrap _ = ((k + (L.getD k default).sz.toNat : Nat) : Int)
     (repeat' split)
     all_goals (simp (discharger := omega) only [wR]; omega))
def tz : Sm := fun args σ => match args, σ with
 | [.list c 4 l, .int .i64 q], [] => some (cr l ∧ cf (ao l), .buf 0, some [.buf 1 0 ((cz (ao l) q).map nI)])
 | _, _ => none
theorem AO : aw 27 tz := by
 intro args sg pre x r he hp
 unfold tz at he
 split at he <;> cases he
 . exact GL (hp := hp) ..
end Go.Proofs.YtllncocibkgjkaaGreat
namespace Go.Proofs.YtllncocibkgjkaaGreat
open Go Go.VG
set_option maxRecDepth 100000
theorem vm {L : List Nd} {q : Int} {k : Nat} (h : k ∈ cz L q) : k < L.length := by
 unfold cz at h
 split at h
 . exact (J6 h).2
 . cases h
theorem vl (L : List Nd) (q : Int) : (cz L q).length ≤ L.length := by
 unfold cz; split
 . exact J5 _ _
 . exact Nat.zero_le _
def iE (L : List Nd) (key : List UInt8) : List Nat → Int
 | [] => -1
 | k :: r => if (L.getD k default).key = key then k else iE L key r
def bN (L : List Nd) (q : Int) (key : List UInt8) : Int := if 0 ≤ q ∧ q < L.length ∧ (L.getD q.toNat default).k.toNat = 123 then iE L key (cz L q) else -1
theorem zN (L : List Nd) (key : List UInt8) : ∀ l : List Nat, iE L key l = -1 ∨ ∃ k ∈ l, iE L key l = (k : Int) ∧ (L.getD k default).key = key
 | [] => .inl rfl
 | k :: r => by
   rw [iE]
   split
   . rename_i h; exact .inr ⟨k, List.mem_cons_self, rfl, h⟩
   . rcases zN L key r with h | ⟨j, h1, h2⟩
     . exact .inl h
     . exact .inr ⟨j, List.mem_cons_of_mem _ h1, h2⟩
theorem rR (L : List Nd) (q : Int) (key : List UInt8) : bN L q key = -1 ∨ ∃ k : Nat, bN L q key = k ∧ k < L.length ∧ (L.getD k default).key = key := by
 unfold bN
 split
 . rcases zN L key (cz L q) with h | ⟨k, h1, h2, h3⟩
   . exact .inl h
   . exact .inr ⟨k, h2, vm h1, h3⟩
 . exact .inl rfl
structure FI (L : List Nd) (key : List UInt8) (ks : List Nat) (i : Nat) : Prop where
 le : i ≤ ks.length
 e : iE L key ks = iE L key (ks.drop i)
theorem FI.at {L : List Nd} {key : List UInt8} {ks : List Nat} {i : Nat} (h : FI L key ks i) (hi : i < ks.length) : iE L key ks = if (L.getD (ks.getD i default) default).key = key then ((ks.getD i default : Nat) : Int) else iE L key (ks.drop (i + 1)) := by
 rw [h.e, List.drop_eq_getElem_cons hi, iE]
 have e : ks.getD i default = ks[i] := by rw [List.getD_eq_getElem?_getD, List.getElem?_eq_getElem hi]; rfl
 rw [e]
theorem FI.stop {L : List Nd} {key : List UInt8} {ks : List Nat} {i : Nat} (h : FI L key ks i) (hi : ¬ i < ks.length) : iE L key ks = -1 := by
 rw [h.e, List.drop_eq_nil_of_le (by omega)]; rfl
theorem Fl (c : Bool) (l : List V) (q : Int) (key : List UInt8) (hp : cr l ∧ cf (ao l)) : OK 17 ([.list c 4 l, .int .i64 q, .str key]) ([]) (.int .i64 (bN (ao l) q key)) (none) := by
 refine au (C := cx [(45, tB)]) (aq ⟨AQ, trivial⟩) (fn := Tryz.f17) rfl rfl rfl rfl fun hw hs => ?_
 obtain ⟨hN, hp⟩ := hp
 obtain ⟨L, rfl, eL⟩ := jw hN
 rw [eL] at hp ⊢
 have hml : (L.map aR).length = L.length := List.length_map _
 have hl := hp.2
 have hkl := vl L q
 have hkm := qv (cz L q)
 have hkk : ∀ i, i < (cz L q).length → (cz L q).getD i default < L.length := fun i h => by
  rw [List.getD_eq_getElem?_getD, List.getElem?_eq_getElem h]
  exact vm (List.getElem_mem h)
 have hno : ¬ (0 ≤ q ∧ q < L.length ∧ (L.getD q.toNat default).k.toNat = 123) → bN L q key = -1 := fun h => by unfold bN; rw [if_neg h]
 have hyes : 0 ≤ q ∧ q < L.length ∧ (L.getD q.toNat default).k.toNat = 123 → bN L q key = iE L key (cz L q) := fun h => by unfold bN; rw [if_pos h]
 repeat' ((conv => whnf); first | apply ak | apply aW | (apply al <;> intro h) | with_reducible apply gF)
 all_goals try conv => whnf
 all_goals try (refine a9.mk ?_; try dsimp only)
 all_goals (try simp only [cv, cg] at *)
 all_goals first | refine stay ?_ | trivial | omega | skip
 . rw [hno (by omega)]
   refine a8.mk [] ?_ <;> (repeat' first | trivial)
 . rw [hno (by omega)]
   refine a8.mk [] ?_ <;> (repeat' first | trivial)
 . rw [hyes (by omega)]
   refine aU.mk Nat (FI L key (cz L q)) (fun i => ⟨42, [(0, .list c 4 (L.map aR)), (2, .str key), (27, .buf 0), (28, .int .i64 (cz L q).length), (29, .int .i64 i)], [.buf 1 0 ((cz L q).map nI)], []⟩) (fun i => (cz L q).length - i) [] 0 ⟨Nat.zero_le _, rfl⟩ ?_ (fun i hI _ _ => ?_)
   . refine Go.VG.Sub.mk rfl ?_ ?_ ?_ ?_ <;> (repeat' first | trivial | apply ae | apply aI)
     all_goals (simp only [hkm]; done)
   have hle := hI.le
   have hkk := hkk i
   repeat' ((conv => whnf); first | apply ak | ((first | apply al | apply ga) <;> intro h) | with_reducible apply lR)
   all_goals try conv => whnf
   all_goals try (refine a9.mk ?_; try dsimp only)
   all_goals (try simp only [cv, cg] at *)
   all_goals first | refine stay ?_ | omega | skip
   . rw [hI.at (by omega), if_pos (by assumption)]
     refine a8.mk [] ?_ <;> (repeat' first | trivial)
   . refine ⟨[], i + 1, ⟨by omega, by rw [hI.at (by omega), if_neg (by assumption)]⟩, ?_, by omega⟩
     refine Go.VG.Sub.mk rfl ?_ ?_ ?_ ?_ <;> (repeat' first | trivial | apply ae | apply aI)
     all_goals (simp (discharger := omega) only [wR]; omega)
   . rw [hI.stop (by omega)]
     refine a8.mk [] ?_ <;> (repeat' first | trivial)
 . rw [hno (by omega)]
   refine a8.mk [] ?_ <;> (repeat' first | trivial)
def qP : Sm := fun args σ => match args, σ with
 | [.list c 4 l, .int .i64 q, .str key], [] => some (cr l ∧ cf (ao l), .int .i64 (bN (ao l) q key), none)
 | _, _ => none
theorem va : aw 17 qP := by
 intro args sg pre x r he hp
 unfold qP at he
 split at he <;> cases he
 . exact Fl (hp := hp) ..
theorem GS (c : Bool) (l : List V) (q : Int) (key : List UInt8) (hp : cr l ∧ cf (ao l)) : OK 18 ([.list c 4 l, .int .i64 q, .str key]) ([]) (.int .i64 (bN (ao l) q key)) (none) := by
 refine au (C := cx [(27, tz)]) (aq ⟨AO, trivial⟩) (fn := Tryz.f18) rfl rfl rfl rfl fun hw hs => ?_
 obtain ⟨hN, hp⟩ := hp
 obtain ⟨L, rfl, eL⟩ := jw hN
 rw [eL] at hp ⊢
 have hml : (L.map aR).length = L.length := List.length_map _
 have hl := hp.2
 have hkl := vl L q
 have hkm := qv (cz L q)
 have hkk : ∀ i, i < (cz L q).length → (cz L q).getD i default < L.length := fun i h => by
  rw [List.getD_eq_getElem?_getD, List.getElem?_eq_getElem h]
  exact vm (List.getElem_mem h)
 have hno : ¬ (0 ≤ q ∧ q < L.length ∧ (L.getD q.toNat default).k.toNat = 123) → bN L q key = -1 := fun h => by unfold bN; rw [if_neg h]
 have hyes : 0 ≤ q ∧ q < L.length ∧ (L.getD q.toNat default).k.toNat = 123 → bN L q key = iE L key (cz L q) := fun h => by unfold bN; rw [if_pos h]
 repeat' ((conv => whnf); first | apply ak | apply aW | (apply al <;> intro h) | with_reducible apply gF)
 all_goals try conv => whnf
 all_goals try (refine a9.mk ?_; try dsimp only)
 all_goals (try simp only [cv, cg] at *)
 all_goals first | refine stay ?_ | trivial | omega | skip
 . rw [hno (by omega)]
   refine a8.mk [] ?_ <;> (repeat' first | trivial)
 . rw [hno (by omega)]
   refine a8.mk [] ?_ <;> (repeat' first | trivial)
 . rw [hyes (by omega)]
   refine aU.mk Nat (FI L key (cz L q)) (fun i => ⟨48, [(0, .list c 4 (L.map aR)), (2, .str key), (7, .buf 0), (8, .int .i64 i)], [.buf 1 0 ((cz L q).map nI)], []⟩) (fun i => (cz L q).length - i) [] 0 ⟨Nat.zero_le _, rfl⟩ ?_ (fun i hI _ _ => ?_)
   . refine Go.VG.Sub.mk rfl ?_ ?_ ?_ ?_ <;> (repeat' first | trivial)
     all_goals (simp only [hkm]; done)
   have hle := hI.le
   have hkk := hkk i
   repeat' ((conv => whnf); first | apply ak | ((first | apply al | apply ga) <;> intro h) | with_reducible apply lR)
   all_goals try conv => whnf
   all_goals try (refine a9.mk ?_; try dsimp only)
   all_goals (try simp only [cv, cg] at *)
   all_goals first | refine stay ?_ | omega | skip
   . rw [hI.at (by omega), if_pos (by assumption)]
     refine a8.mk [] ?_ <;> (repeat' first | trivial)
   . refine ⟨[], i + 1, ⟨by omega, by rw [hI.at (by omega), if_neg (by assumption)]⟩, ?_, by omega⟩
     refine Go.VG.Sub.mk rfl ?_ ?_ ?_ ?_ <;> (repeat' first | trivial | apply ae | apply aI)
     all_goals (simp (discharger := omega) only [wR]; omega)
   . rw [hI.stop (by omega)]
     refine a8.mk [] ?_ <;> (repeat' first | trivial)
 . rw [hno (by omega)]
   refine a8.mk [] ?_ <;> (repeat' first | trivial)
def tA : Sm := fun args σ => match args, σ with
 | [.list c 4 l, .int .i64 q, .str key], [] => some (cr l ∧ cf (ao l), .int .i64 (bN (ao l) q key), none)
 | _, _ => none
theorem AP : aw 18 tA := by
 intro args sg pre x r he hp
 unfold tA at he
 split at he <;> cases he
 . exact GS (hp := hp) ..
def aJ (L : List Nd) (q : Int) (key : List UInt8) (a b : Int) : Int × Int :=
 if bN L q key < 0 ∨ (L.getD (bN L q key).toNat default).k.toNat = 122 then (-1, 0)
 else if ((L.getD (bN L q key).toNat default).k.toNat : Int) = a ∨ ((L.getD (bN L q key).toNat default).k.toNat : Int) = b then (bN L q key, 0) else (-1, 7)
theorem qF (L : List Nd) (q : Int) (key : List UInt8) (a b : Int) : (aJ L q key a b).1 = -1 ∨ (0 ≤ (aJ L q key a b).1 ∧ (aJ L q key a b).1 < L.length ∧ (aJ L q key a b).2 = 0 ∧ (((L.getD (aJ L q key a b).1.toNat default).k.toNat : Int) = a ∨ ((L.getD (aJ L q key a b).1.toNat default).k.toNat : Int) = b)) := by
 unfold aJ
 rcases rR L q key with h | ⟨k, h1, h2, h3⟩
 . rw [if_pos (.inl (by omega))]; exact .inl rfl
 . rw [h1]
   split
   . exact .inl rfl
   . split
     . refine .inr ⟨Int.natCast_nonneg _, by show (k : Int) < _; omega, rfl, by assumption⟩
     . exact .inl rfl
theorem Fz (c : Bool) (l : List V) (q : Int) (key : List UInt8) (a b : Int) (hp : cr l ∧ cf (ao l)) : OK 46 ([.list c 4 l, .int .i64 q, .str key, .int .u8 a, .int .u8 b]) ([]) (.tuple [.int .i64 (aJ (ao l) q key a b).1, .int .i64 (aJ (ao l) q key a b).2]) (none) := by
 refine au (C := cx [(17, qP)]) (aq ⟨va, trivial⟩) (fn := Tryz.f46) rfl rfl rfl rfl fun hw hs => ?_
 obtain ⟨hN, hp⟩ := hp
 obtain ⟨L, rfl, eL⟩ := jw hN
 rw [eL] at hp ⊢
 have hml : (L.map aR).length = L.length := List.length_map _
 have hl := hp.2
 have hon : bN L q key = -1 ∨ (0 ≤ bN L q key ∧ bN L q key < L.length) := by
  rcases rR L q key with h | ⟨k, h1, h2, h3⟩
  . exact .inl h
  . exact .inr ⟨by omega, by omega⟩
 have hpk : aJ L q key a b = if bN L q key < 0 ∨ (L.getD (bN L q key).toNat default).k.toNat = 122 then (-1, 0) else if ((L.getD (bN L q key).toNat default).k.toNat : Int) = a ∨ ((L.getD (bN L q key).toNat default).k.toNat : Int) = b then (bN L q key, 0) else (-1, 7) := rfl
 rw [hpk]
 clear hpk
 repeat' ((conv => whnf); first | apply ak | apply aW | (apply al <;> intro h) | with_reducible apply gF)
 all_goals try conv => whnf
 all_goals try (refine a9.mk ?_; try dsimp only)
 all_goals (try simp only [cv] at *)
 all_goals generalize bN L q key = f at *
 all_goals first | refine stay ?_ | trivial | omega | skip
 all_goals
  repeat (first | rw [if_pos (by omega)] | rw [if_neg (by omega)])
  refine a8.mk [] ?_ <;> (repeat' first | trivial)
def ni : Sm := fun args σ => match args, σ with
 | [.list c 4 l, .int .i64 q, .str key, .int .u8 a, .int .u8 b], [] => some (cr l ∧ cf (ao l), .tuple [.int .i64 (aJ (ao l) q key a b).1, .int .i64 (aJ (ao l) q key a b).2], none)
 | _, _ => none
theorem qa : aw 46 ni := by
 intro args sg pre x r he hp
 unfold ni at he
 split at he <;> cases he
 . exact Fz (hp := hp) ..
theorem GU (c : Bool) (l : List V) (q : Int) (key : List UInt8) (a b : Int) (hp : cr l ∧ cf (ao l)) : OK 24 ([.list c 4 l, .int .i64 q, .str key, .int .u8 a, .int .u8 b]) ([]) (.tuple [.int .i64 (aJ (ao l) q key a b).1, .int .i64 (aJ (ao l) q key a b).2]) (none) := by
 refine au (C := cx [(18, tA)]) (aq ⟨AP, trivial⟩) (fn := Tryz.f24) rfl rfl rfl rfl fun hw hs => ?_
 obtain ⟨hN, hp⟩ := hp
 obtain ⟨L, rfl, eL⟩ := jw hN
 rw [eL] at hp ⊢
 have hml : (L.map aR).length = L.length := List.length_map _
 have hl := hp.2
 have hon : bN L q key = -1 ∨ (0 ≤ bN L q key ∧ bN L q key < L.length) := by
  rcases rR L q key with h | ⟨k, h1, h2, h3⟩
  . exact .inl h
  . exact .inr ⟨by omega, by omega⟩
 have hpk : aJ L q key a b = if bN L q key < 0 ∨ (L.getD (bN L q key).toNat default).k.toNat = 122 then (-1, 0) else if ((L.getD (bN L q key).toNat default).k.toNat : Int) = a ∨ ((L.getD (bN L q key).toNat default).k.toNat : Int) = b then (bN L q key, 0) else (-1, 7) := rfl
 rw [hpk]
 clear hpk
 repeat' ((conv => whnf); first | apply ak | (apply al <;> intro h) | with_reducible apply gF)
 all_goals try conv => whnf
 all_goals try (refine a9.mk ?_; try dsimp only)
 all_goals (try simp only [cv] at *)
 all_goals generalize bN L q key = f at *
 all_goals first | refine stay ?_ | trivial | omega | skip
 all_goals
  repeat (first | rw [if_pos (by omega)] | rw [if_neg (by omega)])
  refine a8.mk [] ?_ <;> (repeat' first | trivial)
def p0 : Sm := fun args σ => match args, σ with
 | [.list c 4 l, .int .i64 q, .str key, .int .u8 a, .int .u8 b], [] => some (cr l ∧ cf (ao l), .tuple [.int .i64 (aJ (ao l) q key a b).1, .int .i64 (aJ (ao l) q key a b).2], none)
 | _, _ => none
theorem sa : aw 24 p0 := by
 intro args sg pre x r he hp
 unfold p0 at he
 split at he <;> cases he
 . exact GU (hp := hp) ..
theorem G7 (a : List Nd) (hp : a.length ≤ 100000000) : OK 16 ([.buf 0]) ([dD a]) (.buf 1) (some [dD a, dD a, .dead]) := by
 refine au (C := cx []) (aq trivial) (fn := Tryz.f16) rfl rfl rfl rfl fun hw hs => ?_
 have hml : (a.map aR).length = a.length := List.length_map _
 all_goals try conv => whnf
 all_goals try (refine a9.mk ?_; try dsimp only)
 all_goals try refine stay ?_
 refine aU.mk Nat (fun i => i ≤ a.length) (fun i => ⟨19, [(0, .buf 0), (3, .buf 1), (4, .int .i64 i)], [dD a, dD (a.take i)], [1]⟩) (fun i => a.length - i) [.tm 3 4] 0 (Nat.zero_le _) ?_ (fun i hi _ _ => ?_)
 . refine Go.VG.Sub.mk rfl ?_ ?_ ?_ ?_ <;> (repeat' first | trivial)
 have hml2 : ((a.take i).map aR).length = i := by rw [List.length_map, List.length_take]; omega
 have hnx : i < a.length → a.take (i + 1) = a.take i ++ [a.getD i default] := fun h => by
  rw [List.take_add_one, List.getD_eq_getElem?_getD, List.getElem?_eq_getElem h]; rfl
 repeat' ((conv => whnf); first | apply ak | (apply al <;> intro h) | with_reducible apply lR)
 all_goals try conv => whnf
 all_goals try (refine a9.mk ?_; try dsimp only)
 all_goals (try simp only [cv, cg] at *)
 all_goals first | refine stay ?_ | omega | (simp only [ig]; omega) | skip
 all_goals first
  | (refine ⟨[], i + 1, by omega, ?_, by omega⟩
     refine Go.VG.Sub.mk rfl ?_ ?_ ?_ ?_ <;> (repeat' first | trivial | apply ae | apply aI | apply br)
     all_goals first
      | (simp (discharger := omega) only [wR]; omega)
      | (rw [hnx (by omega)]; simp; done)
     done)
  | (show a8 _ _ _ _ _ _
     have e : i = a.length := by omega
     subst e
     rw [List.take_length]
     refine a8.mk [.nw] ?_ <;> (repeat' first | trivial)
     done)
  | skip
def qR : Sm := fun args σ => match args, σ with
 | [.buf 0], [.buf 4 0 l_a] => some (cr l_a ∧ ((ao l_a).length ≤ 100000000), .buf 1, some [dD (ao l_a), dD (ao l_a), .dead])
 | _, _ => none
theorem ve : aw 16 qR := by
 intro args sg pre x r he hp
 unfold qR at he
 split at he <;> cases he
 . rw [Dh (hp).1]; exact G7 (hp := hp.2) ..
end Go.Proofs.YtllncocibkgjkaaGreat
