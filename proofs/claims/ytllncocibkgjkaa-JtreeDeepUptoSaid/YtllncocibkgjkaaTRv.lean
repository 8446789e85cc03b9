/-
  A part of the proof.
-/
import Derived.Test.YtllncocibkgjkaaTRq
import Derived.Test.YtllncocibkgjkaaTRk
set_option linter.unusedSimpArgs false
set_option linter.unusedVariables false
set_option maxHeartbeats 4000000
namespace Go.Proofs.Ytllncocibkgjkaa
open Go Go.VG
set_option maxRecDepth 100000
def dK (L : List Nd) : Prop := (∀ x ∈ L, 1 ≤ x.sz ∧ x.sz ≤ L.length ∧ x.key.length ≤ 10000000 ∧ x.t.length ≤ 10000000) ∧ L.length ≤ 100000000
abbrev nI (k : Nat) : V := .int .i64 k
theorem iq {L : List Nd} (h : dK L) {a : Nat} (ha : a < L.length) : 1 ≤ (L.getD a default).sz ∧ (L.getD a default).sz ≤ L.length ∧ (L.getD a default).key.length ≤ 10000000 ∧ (L.getD a default).t.length ≤ 10000000 := by
 rw [List.getD_eq_getElem?_getD, List.getElem?_eq_getElem ha]
 exact h.1 _ (List.getElem_mem ha)
theorem mR {l : List V} (h : cV l) : ∃ L, l = L.map aH ∧ aP l = L := ⟨_, h, rfl⟩
theorem po (L : List Nd) (a : Nat) : ik L a ≤ L.length := Nat.min_le_left _ _
theorem zA {L : List Nd} {e : Nat} : ∀ (n p k : Nat), k ∈ il L e n p → p ≤ k ∧ k < e
 | 0, _, _, h => by cases h
 | n + 1, p, k, h => by
   rw [il] at h
   split at h
   . rcases List.mem_cons.1 h with rfl | h
     . exact ⟨Nat.le_refl _, by assumption⟩
     . have := zA n _ k h; omega
   . cases h
theorem zL {L : List Nd} {a k : Nat} (h : k ∈ aM L a) : a < k ∧ k < L.length := by
 have := zA _ _ _ h
 have := po L a
 omega
theorem zz {L : List Nd} {e : Nat} : ∀ (n p : Nat), (il L e n p).length ≤ n
 | 0, _ => Nat.le_refl _
 | n + 1, p => by
   rw [il]
   split
   . have := zz (L := L) (e := e) n (p + (L.getD p default).sz.toNat)
     rw [List.length_cons]; omega
   . exact Nat.zero_le _
theorem uv (L : List Nd) (a : Nat) : (aM L a).length ≤ L.length := zz _ _
theorem rp {L : List Nd} {a : Nat} (h : a < L.length) : er L (a : Nat) = aM L a := by unfold er; rw [if_pos ⟨by omega, by omega⟩, Int.toNat_natCast]
theorem rq {L : List Nd} {q : Int} (h : q < 0 ∨ q ≥ L.length) : er L q = [] := by unfold er; rw [if_neg (by omega)]
theorem km (l : List Nat) : (l.map nI).length = l.length := List.length_map _
def KI (L : List Nd) (a : Nat) (x : Nat × Nat × List Nat) : Prop := (aM L a = x.2.2 ++ il L (ik L a) x.1 x.2.1 ∧ ik L a - x.2.1 ≤ x.1) ∧ a < x.2.1 ∧ x.2.1 ≤ 200000001 ∧ x.2.2.length ≤ x.2.1
theorem KI_0 {L : List Nd} {a : Nat} (hl : L.length ≤ 100000000) (ha : a < L.length) : KI L a (L.length, a + 1, []) := ⟨⟨rfl, by have := po L a; show ik L a - (a + 1) ≤ L.length; omega⟩, Nat.lt_succ_self a, by show a + 1 ≤ _; omega, Nat.zero_le _⟩
theorem xf {L : List Nd} {a n k : Nat} {acc : List Nat} (h : KI L a (n, k, acc)) (hk : ¬ k < ik L a) : aM L a = acc := by
 obtain ⟨⟨h1, h2⟩, _⟩ := h
 rw [h1]
 show acc ++ il L (ik L a) n k = acc
 cases n with
 | zero => exact List.append_nil acc
 | succ n => rw [il, if_neg hk, List.append_nil]
theorem xg {L : List Nd} {a n k : Nat} {acc : List Nat} (hp : dK L) (h : KI L a (n, k, acc)) (hk : k < ik L a) : ∃ m, n = m + 1 ∧ KI L a (m, k + (L.getD k default).sz.toNat, acc ++ [k]) := by
 obtain ⟨⟨h1, h2⟩, h3, h4, h5⟩ := h
 dsimp only at h1 h2 h3 h4 h5
 have hE := po L a
 have hn := iq hp (a := k) (by omega)
 have hl := hp.2
 obtain ⟨m, rfl⟩ : ∃ m, n = m + 1 := ⟨n - 1, by omega⟩
 rw [il, if_pos hk] at h1
 refine ⟨m, rfl, ⟨?_, ?_⟩, ?_, ?_, ?_⟩
 . rw [h1, List.append_assoc]; rfl
 . show ik L a - (k + (L.getD k default).sz.toNat) ≤ m; omega
 . show a < k + (L.getD k default).sz.toNat; omega
 . show k + (L.getD k default).sz.toNat ≤ 200000001; omega
 . show (acc ++ [k]).length ≤ k + (L.getD k default).sz.toNat
   rw [List.length_append, List.length_singleton]; omega
theorem Fi (c : Bool) (l : List V) (q : Int) (hp : cV l ∧ dK (aP l)) : OK 30 ([.list c 4 l, .int .i64 q]) ([]) (.buf 0) (some [.buf 1 0 ((er (aP l) q).map nI)]) := by
 refine aC (C := cx []) (ay trivial) (fn := Try.f30) rfl rfl rfl rfl fun hw hs => ?_
 obtain ⟨hN, hp⟩ := hp
 obtain ⟨L, rfl, eL⟩ := mR hN
 rw [eL] at hp ⊢
 have hml : (L.map aH).length = L.length := List.length_map _
 have hl := hp.2
 repeat' ((conv => whnf); first | apply al | (apply ao <;> intro h) | with_reducible apply goG)
 all_goals try conv => whnf
 all_goals try (refine ae.mk ?_; try dsimp only)
 all_goals (try simp only [bT, bH] at *)
 all_goals first | refine stay ?_ | omega | skip
 . rw [rq (by omega)]
   refine a8.mk [.tm 4 1] ?_ <;> (repeat' first | trivial)
 . rw [rq (by omega)]
   refine a8.mk [.tm 4 1] ?_ <;> (repeat' first | trivial)
 have hq1 : 0 ≤ q := by omega
 obtain ⟨a, rfl⟩ := Int.eq_ofNat_of_zero_le hq1
 have ha : a < L.length := by omega
 have hna := iq hp ha
 have hE := po L a
 have hEe : ik L a = min L.length (a + (L.getD a default).sz.toNat) := rfl
 rw [rp ha]
 have hif : ∀ {k : Nat}, k < L.length → (if (L.getD k default).sz < (L.length : Int) then (L.getD k default).sz else (L.length : Int)) = (L.getD k default).sz := fun hk => by
  have := iq hp hk
  split <;> omega
 have hwa : IntKind.i64.wrap ((a : Int) + (L.getD a default).sz) = (a : Int) + (L.getD a default).sz := by rw [gJ]; omega
 have hif := hif ha
 refine bn.mk (Nat × Nat × List Nat) (KI L a) (fun x => ⟨50, [(0, .list c 4 (L.map aH)), (1, .int .i64 a), (5, .buf 0), (6, .int .i64 (ik L a)), (7, .int .i64 x.2.1)], [.buf 1 0 (x.2.2.map nI)], [0]⟩) (fun x => x.1) [.tm 5 1] (L.length, a + 1, []) (KI_0 hl ha) ?_ (fun ⟨n, k, acc⟩ hI _ _ => ?_)
 . refine Go.VG.Sub.mk rfl ?_ ?_ ?_ ?_ <;> (repeat' first | trivial | apply aj | apply aQ)
   all_goals (try simp only [hml, Int.toNat_natCast, hif, hwa])
   all_goals first
    | (show IntKind.i64.wrap (↑a + 1) = ((a + 1 : Nat) : Int); (simp (discharger := omega) only [wR]; omega))
    | (rw [hEe]; split <;> omega)
 have hI2 := hI.2
 dsimp only at hI2
 have hn := fun h : k < L.length => iq hp h
 have hma := km acc
 repeat' ((conv => whnf); first | apply al | (apply ao <;> intro h) | with_reducible apply ie)
 all_goals try conv => whnf
 all_goals try (refine ae.mk ?_; try dsimp only)
 all_goals (try simp only [bT, bH] at *)
 all_goals first | refine stay ?_ | omega | (simp only [d7]; omega) | skip
 all_goals first
  | (show a8 _ _ _ _ _ _
     rw [xf hI (by omega)]
     refine a8.mk [] ?_ <;> (repeat' first | trivial)
     done)
  | skip
 obtain ⟨m, rfl, hI'⟩ := xg hp hI (by omega)
 have hn := hn (by omega)
 refine ⟨[], (m, k + (L.getD k default).sz.toNat, acc ++ [k]), hI', ?_, Nat.lt_succ_self m⟩
 refine Go.VG.Sub.mk rfl ?_ ?_ ?_ ?_ <;> (repeat' first | trivial | apply aj | apply aQ | apply aV)
 all_goals (try simp only [hml, Int.toNat_natCast])
 all_goals first
  | (rw [List.map_append]; rfl)
  | (show IntKind.i64.wrap _ = ((k + (L.getD k default).sz.toNat : Nat) : Int)
     (repeat' split)
     all_goals (first | omega | (simp (discharger := omega) only [wR]; omega)))
def qd : Sm := fun args σ => match args, σ with
 | [.list c 4 l, .int .i64 q], [] => some (cV l ∧ dK (aP l), .buf 0, some [.buf 1 0 ((er (aP l) q).map nI)])
 | _, _ => none
theorem uj : aD 30 qd := by
 intro args sg pre x r he hp
 unfold qd at he
 split at he <;> cases he
 . exact Fi (hp := hp) ..
theorem F7 (c : Bool) (l : List V) (q : Int) (hp : cV l ∧ dK (aP l)) : OK 31 ([.list c 4 l, .int .i64 q]) ([]) (.buf 0) (some [.buf 1 0 ((er (aP l) q).map nI)]) := by
 refine aC (C := cx []) (ay trivial) (fn := Try.f31) rfl rfl rfl rfl fun hw hs => ?_
 obtain ⟨hN, hp⟩ := hp
 obtain ⟨L, rfl, eL⟩ := mR hN
 rw [eL] at hp ⊢
 have hml : (L.map aH).length = L.length := List.length_map _
 have hl := hp.2
 repeat' ((conv => whnf); (apply ao <;> intro h))
 all_goals try conv => whnf
 all_goals try (refine ae.mk ?_; try dsimp only)
 all_goals (try simp only [bT, bH] at *)
 all_goals try refine stay ?_
 . rw [rq (by omega)]
   refine a8.mk [.tm 4 1] ?_ <;> (repeat' first | trivial)
 . rw [rq (by omega)]
   refine a8.mk [.tm 4 1] ?_ <;> (repeat' first | trivial)
 have hq1 : 0 ≤ q := by omega
 obtain ⟨a, rfl⟩ := Int.eq_ofNat_of_zero_le hq1
 have ha : a < L.length := by omega
 have hna := iq hp ha
 have hE := po L a
 have hEe : ik L a = min L.length (a + (L.getD a default).sz.toNat) := rfl
 rw [rp ha]
 have hif : ∀ {k : Nat}, k < L.length → (if (L.getD k default).sz < (L.length : Int) then (L.getD k default).sz else (L.length : Int)) = (L.getD k default).sz := fun hk => by
  have := iq hp hk
  split <;> omega
 have hwa : IntKind.i64.wrap ((a : Int) + (L.getD a default).sz) = (a : Int) + (L.getD a default).sz := by rw [gJ]; omega
 have hif := hif ha
 refine bn.mk (Nat × Nat × List Nat) (KI L a) (fun x => ⟨45, [(0, .list c 4 (L.map aH)), (1, .int .i64 a), (5, .buf 0), (6, .int .i64 x.2.1)], [.buf 1 0 (x.2.2.map nI)], [0]⟩) (fun x => x.1) [.tm 5 1] (L.length, a + 1, []) (KI_0 hl ha) ?_ (fun ⟨n, k, acc⟩ hI _ _ => ?_)
 . refine Go.VG.Sub.mk rfl ?_ ?_ ?_ ?_ <;> (repeat' first | trivial | apply aj | apply aQ)
   all_goals (try simp only [hml, Int.toNat_natCast, hif, hwa])
   all_goals first
    | (show IntKind.i64.wrap (↑a + 1) = ((a + 1 : Nat) : Int); (simp (discharger := omega) only [wR]; omega))
    | (rw [hEe]; split <;> omega)
 have hI2 := hI.2
 dsimp only at hI2
 have hn := fun h : k < L.length => iq hp h
 have hma := km acc
 repeat' ((conv => whnf); first | apply al | (apply ao <;> intro h) | with_reducible apply ie)
 all_goals try conv => whnf
 all_goals try (refine ae.mk ?_; try dsimp only)
 all_goals (try simp only [bT, bH] at *)
 all_goals first | refine stay ?_ | trivial | omega | (simp only [d7]; omega) | skip
 all_goals first
  | (show a8 _ _ _ _ _ _
     rw [xf hI (by omega)]
     refine a8.mk [] ?_ <;> (repeat' first | trivial)
     done)
  | skip
 obtain ⟨m, rfl, hI'⟩ := xg hp hI (by omega)
 have hn := hn (by omega)
 refine ⟨[], (m, k + (L.getD k default).sz.toNat, acc ++ [k]), hI', ?_, Nat.lt_succ_self m⟩
 refine Go.VG.Sub.mk rfl ?_ ?_ ?_ ?_ <;> (repeat' first | trivial | apply aj | apply aQ | apply aV)
 all_goals (try simp only [hml, Int.toNat_natCast])
 all_goals first
  | (rw [List.map_append]; rfl)
  | (show IntKind.i64.wrap _ = ((k + (L.getD k default).sz.toNat : Nat) : Int)
     (repeat' split)
     all_goals (simp (discharger := omega) only [wR]; omega))
def sv : Sm := fun args σ => match args, σ with
 | [.list c 4 l, .int .i64 q], [] => some (cV l ∧ dK (aP l), .buf 0, some [.buf 1 0 ((er (aP l) q).map nI)])
 | _, _ => none
theorem zI : aD 31 sv := by
 intro args sg pre x r he hp
 unfold sv at he
 split at he <;> cases he
 . exact F7 (hp := hp) ..
end Go.Proofs.Ytllncocibkgjkaa
namespace Go.Proofs.Ytllncocibkgjkaa
open Go Go.VG
set_option maxRecDepth 100000
theorem rB {f : Nat → List UInt8} {L : List Nd} {k0 : UInt8} {K : List Nat} {i : Nat} (h : i < K.length) :
   eH f L k0 (K.drop i) i = (if i = 0 then [] else [44]) ++ ((if k0.toNat = 123 then quote (L.getD (K.getD i default) default).key ++ [58] else []) ++ (f (K.getD i default) ++ eH f L k0 (K.drop (i + 1)) (i + 1))) := by
 rw [List.drop_eq_getElem_cons h, List.getD_eq_getElem?_getD (l := K), List.getElem?_eq_getElem h]
 rfl
theorem rA {f : Nat → List UInt8} {L : List Nd} {k0 : UInt8} {K : List Nat} {i : Nat} (h : K.length ≤ i) : eH f L k0 (K.drop i) i = [] := by
 rw [List.drop_of_length_le h]; rfl
-- #name trPut jtree.put
def qe (n : Nat) : Sm := fun args σ => match args, σ with
 | [.buf 0, .list c 4 N, .int .i64 (.ofNat a)], [.buf 1 0 l] => some (cV N ∧ dK (aP N) ∧ a < (aP N).length ∧ (aP N).length - a ≤ n ∧ l.length + (bq (aP N) n a).length ≤ 100000000, .buf 0, some [.buf 1 0 (l ++ bl (bq (aP N) n a))])
 | _, _ => none
theorem Cj {k : UInt8} (h : k.toNat = 123 ∨ k.toNat = 91) : IntKind.u8.wrap ((k.toNat : Int) + 2) = if k.toNat = 123 then 125 else 93 := by
 rw [jU]; split <;> omega
theorem yM {k : UInt8} (h : k.toNat = 123 ∨ k.toNat = 91) : bl [if k.toNat = 123 then 125 else 93] = [V.int .u8 (IntKind.u8.wrap ((k.toNat : Int) + 2))] := by
 rw [Cj h]
 split <;> rfl
structure PI (f : Nat → List UInt8) (L : List Nd) (k0 : UInt8) (K : List Nat) (x : Nat × List UInt8) : Prop where
 i : x.1 ≤ K.length
 e : eH f L k0 K 0 = x.2 ++ eH f L k0 (K.drop x.1) x.1
theorem Fo (n : Nat) (hv : aD 61 (qe n)) (c : Bool) (L : List Nd) (l : List V) (a : Nat) (hp : dK L ∧ a < L.length ∧ L.length - a ≤ n + 1 ∧ l.length + (bq L (n + 1) a).length ≤ 100000000) : OK 61 [.buf 0, .list c 4 (L.map aH), .int .i64 a] [.buf 1 0 l] (.buf 0) (some [.buf 1 0 (l ++ bl (bq L (n + 1) a))]) := by
 refine aC (C := cx [(12, vW), (30, qd), (36, q9), (61, qe n)]) (ay ⟨GA, uj, ug, hv, trivial⟩) (fn := Try.f61) rfl rfl rfl rfl fun hw hs => ?_
 obtain ⟨h1, h2, h3, h4⟩ := hp
 have hml : (L.map aH).length = L.length := List.length_map _
 have hna := iq h1 h2
 have hki := rp h2
 have hll := h1.2
 have hk0 := (L.getD a default).k.toNat_lt
 have hkl := uv L a
 have g1 : (L.getD a default).k.toNat ≠ 123 → (L.getD a default).k.toNat ≠ 91 → bq L (n + 1) a = bI ⟨(L.getD a default).k, (L.getD a default).t⟩ := fun q1 q2 => by rw [bq, if_pos ⟨q1, q2⟩]
 have g2 : (L.getD a default).k.toNat = 123 ∨ (L.getD a default).k.toNat = 91 → bq L (n + 1) a = (L.getD a default).k :: (eH (bq L n) L (L.getD a default).k (aM L a) 0 ++ [if (L.getD a default).k.toNat = 123 then 125 else 93]) := fun q => by rw [bq, if_neg (by omega)]
 have hkm : ∀ i, i < (aM L a).length → a < (aM L a).getD i default ∧ (aM L a).getD i default < L.length := fun i hi => by
  rw [List.getD_eq_getElem?_getD, List.getElem?_eq_getElem hi]
  exact zL (List.getElem_mem hi)
 repeat' ((conv => whnf); first | apply al | apply aZ | (apply ao <;> intro h) | with_reducible apply ie)
 all_goals try conv => whnf
 all_goals try (refine ae.mk ?_; try dsimp only)
 all_goals (try simp only [bT, bH, hki] at *)
 all_goals first | refine stay ?_ | trivial | omega | (simp only [d7]; omega) | skip
 . exact ⟨dH, h1⟩
 . rw [g2 (by omega)] at h4 ⊢
   refine bn.mk (Nat × List UInt8) (PI (bq L n) L (L.getD a default).k (aM L a)) (fun x => ⟨71, [(0, .buf 0), (1, .list c 4 (L.map aH)), (2, .int .i64 a), (7, .ptr 1 0), (36, .buf 2), (37, .int .i64 (aM L a).length), (38, .int .i64 x.1)], [.buf 1 0 (l ++ [.int .u8 (L.getD a default).k.toNat] ++ bl x.2), .cells (nc (L.getD a default)), .buf 1 0 ((aM L a).map nI)], [0]⟩) (fun x => (aM L a).length - x.1) [] (0, []) ⟨Nat.zero_le _, rfl⟩ ?_ (fun ⟨i, pre⟩ ⟨hi, he⟩ _ _ => ?_)
   . refine Go.VG.Sub.mk rfl ?_ ?_ ?_ ?_ <;> (repeat' first | trivial | apply aj | apply aQ | apply aV)
     all_goals first
      | (rw [km]; done)
      | (exact (List.append_nil _).symm)
   dsimp only at hi he
   have hst := fun h => rB (f := bq L n) (L := L) (k0 := (L.getD a default).k) (K := aM L a) (i := i) h
   have hfin := fun h => rA (f := bq L n) (L := L) (k0 := (L.getD a default).k) (K := aM L a) (i := i) h
   have hlen := congrArg List.length he
   rw [List.length_append] at hlen
   rw [List.length_cons, List.length_append, List.length_singleton] at h4
   have hkm := hkm i
   have hnk := fun h : i < (aM L a).length => iq h1 (hkm h).2
   have hmk := km (aM L a)
   have hbl := ea pre
   repeat' ((conv => whnf); first | apply al | (apply ao <;> intro h) | with_reducible apply ie)
   all_goals try conv => whnf
   all_goals try (refine ae.mk ?_; try dsimp only)
   all_goals (try simp only [bT, bH] at *)
   all_goals first | refine stay ?_ | trivial | omega | (simp only [d7]; omega) | skip
   all_goals first
    | (show a8 _ _ _ _ _ _
       rw [hfin (by omega), List.append_nil] at he
       rw [he]
       refine a8.mk [] ?_ <;> (repeat' first | trivial | apply aj | apply aV)
       rw [show [V.int .u8 (IntKind.u8.wrap (((L.getD a default).k.toNat : Int) + 2))] = bl [if (L.getD a default).k.toNat = 123 then 125 else 93] from (yM (by omega)).symm]
       show _ = l ++ bl ([_] ++ (pre ++ _))
       rw [eE, eE, ← List.append_assoc, ← List.append_assoc]
       rfl)
    | skip
   all_goals
    have hlt : i < (aM L a).length := by omega
    have hs := hst hlt
    have hs2 : eH (bq L n) L (L.getD a default).k (aM L a) 0 = (pre ++ ((if i = 0 then [] else [44]) ++ ((if (L.getD a default).k.toNat = 123 then quote (L.getD ((aM L a).getD i default) default).key ++ [58] else []) ++ bq L n ((aM L a).getD i default)))) ++ eH (bq L n) L (L.getD a default).k (List.drop (i + 1) (aM L a)) (i + 1) := by
     rw [he, hs]; simp only [List.append_assoc]
    first
     | rw [if_pos (show i = 0 by omega)] at hs hs2
     | rw [if_neg (show ¬ i = 0 by omega)] at hs hs2
    first
     | rw [if_pos (show (L.getD a default).k.toNat = 123 by omega)] at hs hs2
     | rw [if_neg (show ¬ (L.getD a default).k.toNat = 123 by omega)] at hs hs2
    have hsl := congrArg List.length hs
    simp only [List.length_append, List.length_cons, List.length_nil] at hsl
    first
     | (simp only [List.length_append, List.length_cons, List.length_nil, ea]; omega)
     | (refine ⟨dH, h1, (hkm hlt).2, by have := (hkm hlt).1; omega, ?_⟩
        simp only [List.length_append, List.length_cons, List.length_nil, ea]; omega)
     | (refine ⟨[], (i + 1, _), ⟨hlt, hs2⟩, ?_, by show (aM L a).length - (i + 1) < (aM L a).length - i; omega⟩
        refine Go.VG.Sub.mk rfl ?_ ?_ ?_ ?_ <;> (repeat' first | trivial | apply aj | apply aQ | apply aV)
        all_goals first
         | (show IntKind.i64.wrap _ = _; (simp (discharger := omega) only [wR]; omega))
         | (simp only [bl, eE, List.append_assoc, List.cons_append, List.nil_append]; done)
         | (simp only [bl, eE, List.append_assoc, List.cons_append, List.nil_append]; rfl))
 . exact ⟨dH, h1⟩
 . rw [g2 (by omega)] at h4 ⊢
   refine bn.mk (Nat × List UInt8) (PI (bq L n) L (L.getD a default).k (aM L a)) (fun x => ⟨71, [(0, .buf 0), (1, .list c 4 (L.map aH)), (2, .int .i64 a), (7, .ptr 1 0), (36, .buf 2), (37, .int .i64 (aM L a).length), (38, .int .i64 x.1)], [.buf 1 0 (l ++ [.int .u8 (L.getD a default).k.toNat] ++ bl x.2), .cells (nc (L.getD a default)), .buf 1 0 ((aM L a).map nI)], [0]⟩) (fun x => (aM L a).length - x.1) [] (0, []) ⟨Nat.zero_le _, rfl⟩ ?_ (fun ⟨i, pre⟩ ⟨hi, he⟩ _ _ => ?_)
   . refine Go.VG.Sub.mk rfl ?_ ?_ ?_ ?_ <;> (repeat' first | trivial | apply aj | apply aQ | apply aV)
     all_goals first
      | (rw [km]; done)
      | (exact (List.append_nil _).symm)
   dsimp only at hi he
   have hst := fun h => rB (f := bq L n) (L := L) (k0 := (L.getD a default).k) (K := aM L a) (i := i) h
   have hfin := fun h => rA (f := bq L n) (L := L) (k0 := (L.getD a default).k) (K := aM L a) (i := i) h
   have hlen := congrArg List.length he
   rw [List.length_append] at hlen
   rw [List.length_cons, List.length_append, List.length_singleton] at h4
   have hkm := hkm i
   have hnk := fun h : i < (aM L a).length => iq h1 (hkm h).2
   have hmk := km (aM L a)
   have hbl := ea pre
   repeat' ((conv => whnf); first | apply al | (apply ao <;> intro h) | with_reducible apply ie)
   all_goals try conv => whnf
   all_goals try (refine ae.mk ?_; try dsimp only)
   all_goals (try simp only [bT, bH] at *)
   all_goals first | refine stay ?_ | trivial | omega | (simp only [d7]; omega) | skip
   all_goals first
    | (show a8 _ _ _ _ _ _
       rw [hfin (by omega), List.append_nil] at he
       rw [he]
       refine a8.mk [] ?_ <;> (repeat' first | trivial | apply aj | apply aV)
       rw [show [V.int .u8 (IntKind.u8.wrap (((L.getD a default).k.toNat : Int) + 2))] = bl [if (L.getD a default).k.toNat = 123 then 125 else 93] from (yM (by omega)).symm]
       show _ = l ++ bl ([_] ++ (pre ++ _))
       rw [eE, eE, ← List.append_assoc, ← List.append_assoc]
       rfl)
    | skip
   all_goals
    have hlt : i < (aM L a).length := by omega
    have hs := hst hlt
    have hs2 : eH (bq L n) L (L.getD a default).k (aM L a) 0 = (pre ++ ((if i = 0 then [] else [44]) ++ ((if (L.getD a default).k.toNat = 123 then quote (L.getD ((aM L a).getD i default) default).key ++ [58] else []) ++ bq L n ((aM L a).getD i default)))) ++ eH (bq L n) L (L.getD a default).k (List.drop (i + 1) (aM L a)) (i + 1) := by
     rw [he, hs]; simp only [List.append_assoc]
    first
     | rw [if_pos (show i = 0 by omega)] at hs hs2
     | rw [if_neg (show ¬ i = 0 by omega)] at hs hs2
    first
     | rw [if_pos (show (L.getD a default).k.toNat = 123 by omega)] at hs hs2
     | rw [if_neg (show ¬ (L.getD a default).k.toNat = 123 by omega)] at hs hs2
    have hsl := congrArg List.length hs
    simp only [List.length_append, List.length_cons, List.length_nil] at hsl
    first
     | (simp only [List.length_append, List.length_cons, List.length_nil, ea]; omega)
     | (refine ⟨dH, h1, (hkm hlt).2, by have := (hkm hlt).1; omega, ?_⟩
        simp only [List.length_append, List.length_cons, List.length_nil, ea]; omega)
     | (refine ⟨[], (i + 1, _), ⟨hlt, hs2⟩, ?_, by show (aM L a).length - (i + 1) < (aM L a).length - i; omega⟩
        refine Go.VG.Sub.mk rfl ?_ ?_ ?_ ?_ <;> (repeat' first | trivial | apply aj | apply aQ | apply aV)
        all_goals first
         | (show IntKind.i64.wrap _ = _; (simp (discharger := omega) only [wR]; omega))
         | (simp only [bl, eE, List.append_assoc, List.cons_append, List.nil_append]; done)
         | (simp only [bl, eE, List.append_assoc, List.cons_append, List.nil_append]; rfl))
 . rw [g1 (by omega) (by omega)]
   refine a8.mk [] ?_ <;> (repeat' first | trivial)
theorem zS : ∀ n, aD 61 (qe n)
 | 0 => by
   intro args sg pre x r he hp
   unfold qe at he
   split at he <;> cases he
   obtain ⟨h1, h2, h3, h4, h5⟩ := hp
   exfalso; omega
 | n + 1 => by
   intro args sg pre x r he hp
   unfold qe at he
   split at he <;> cases he
   obtain ⟨h1, h2, h3, h4, h5⟩ := hp
   obtain ⟨L, rfl, eL⟩ := mR h1
   rw [eL] at h2 h3 h4 h5 ⊢
   exact Fo n (zS n) _ L _ _ ⟨h2, h3, h4, h5⟩
def lB (L : List Nd) (a : Nat) : List UInt8 := bq L L.length a
-- #name trPutN jtree.put
def wE : Sm := fun args σ => match args, σ with
 | [.buf 0, .list c 4 N, .int .i64 (.ofNat a)], [.buf 1 0 l] => some (cV N ∧ dK (aP N) ∧ a < (aP N).length ∧ l.length + (lB (aP N) a).length ≤ 100000000, .buf 0, some [.buf 1 0 (l ++ bl (lB (aP N) a))])
 | _, _ => none
theorem H7 : aD 61 wE := by
 intro args sg pre x r he hp
 unfold wE at he
 split at he <;> cases he
 rename_i c N a l
 exact zS (aP N).length _ _ _ _ _ rfl ⟨hp.1, hp.2.1, hp.2.2.1, Nat.sub_le _ _, hp.2.2.2⟩
def cy (L : List Nd) : List UInt8 := if L.length = 0 then [] else lB L 0
theorem yI (c d : Bool) (b N : List V) (hp : cV N ∧ dK (aP N) ∧ b.length + (cy (aP N)).length ≤ 100000000) : OK 28 ([.list c 1 b, .list d 4 N]) ([]) (.buf 0) (some [.buf 1 0 (b ++ bl (cy (aP N)))]) := by
 refine aC (C := cx [(61, wE)]) (ay ⟨H7, trivial⟩) (fn := Try.f28) rfl rfl rfl rfl fun hw hs => ?_
 obtain ⟨h1, h2, h3⟩ := hp
 obtain ⟨L, rfl, eL⟩ := mR h1
 rw [eL] at h2 h3 ⊢
 have hml : (L.map aH).length = L.length := List.length_map _
 have hll := h2.2
 have e0 : L.length = 0 → cy L = [] := fun h => by unfold cy; rw [if_pos h]
 have e1 : L.length ≠ 0 → cy L = lB L 0 := fun h => by unfold cy; rw [if_neg h]
 repeat' ((conv => whnf); first | apply al | (apply ao <;> intro h))
 all_goals try conv => whnf
 all_goals try (refine ae.mk ?_; try dsimp only)
 all_goals (try simp only [bT, bH] at *)
 all_goals first | refine stay ?_ | (simp only [d7]; omega) | (simp (discharger := omega) [-List.getD_eq_getElem?_getD, wR] <;> omega) | skip
 . rw [e0 (by omega)]
   refine a8.mk [] ?_ <;> (repeat' first | trivial | apply aj | apply aV)
   exact (List.append_nil _).symm
 . rw [e1 (by omega)] at h3
   exact ⟨dH, h2, by omega, h3⟩
 . rw [e1 (by omega)]
   refine a8.mk [] ?_ <;> (repeat' first | trivial)
def wD : Sm := fun args σ => match args, σ with
 | [.list c 1 b, .list d 4 N], [] => some (cV N ∧ dK (aP N) ∧ b.length + (cy (aP N)).length ≤ 100000000, .buf 0, some [.buf 1 0 (b ++ bl (cy (aP N)))])
 | _, _ => none
theorem H6 : aD 28 wD := by
 intro args sg pre x r he hp
 unfold wD at he
 split at he <;> cases he
 . exact yI (hp := hp) ..
end Go.Proofs.Ytllncocibkgjkaa
