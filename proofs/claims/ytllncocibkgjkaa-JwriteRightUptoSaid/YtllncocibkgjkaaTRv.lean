/-
  A part of the proof.
-/
import Derived.Test.YtllncocibkgjkaaTRq
import Derived.Test.YtllncocibkgjkaaTRk
set_option linter.unusedSimpArgs false
set_option linter.unusedVariables false
set_option maxHeartbeats 4000000
namespace Go.Proofs.Ytllncocibkgjkaa
open Go Go.VG
set_option maxRecDepth 100000
def iE (L : List Nd) : Prop := (∀ x ∈ L, 1 ≤ x.sz ∧ x.sz ≤ L.length ∧ x.key.length ≤ 10000000 ∧ x.t.length ≤ 10000000) ∧ L.length ≤ 100000000
abbrev nI (k : Nat) : V := .int .i64 k
theorem lR {L : List Nd} (h : iE L) {a : Nat} (ha : a < L.length) : 1 ≤ (L.getD a default).sz ∧ (L.getD a default).sz ≤ L.length ∧ (L.getD a default).key.length ≤ 10000000 ∧ (L.getD a default).t.length ≤ 10000000 := by
 rw [List.getD_eq_getElem?_getD, List.getElem?_eq_getElem ha]
 exact h.1 _ (List.getElem_mem ha)
theorem unN {l : List V} (h : jJ l) : ∃ L, l = L.map aX ∧ cL l = L := ⟨_, h, rfl⟩
theorem qE (L : List Nd) (a : Nat) : ij L a ≤ L.length := Nat.min_le_left _ _
theorem ya {L : List Nd} {e : Nat} : ∀ (n p k : Nat), k ∈ gV L e n p → p ≤ k ∧ k < e
 | 0, _, _, h => by cases h
 | n + 1, p, k, h => by
   rw [gV] at h
   split at h
   . rcases List.mem_cons.1 h with rfl | h
     . exact ⟨Nat.le_refl _, by assumption⟩
     . have := ya n _ k h; omega
   . cases h
theorem Fm {L : List Nd} {a k : Nat} (h : k ∈ bk L a) : a < k ∧ k < L.length := by
 have := ya _ _ _ h
 have := qE L a
 omega
theorem y9 {L : List Nd} {e : Nat} : ∀ (n p : Nat), (gV L e n p).length ≤ n
 | 0, _ => Nat.le_refl _
 | n + 1, p => by
   rw [gV]
   split
   . have := y9 (L := L) (e := e) n (p + (L.getD p default).sz.toNat)
     rw [List.length_cons]; omega
   . exact Nat.zero_le _
theorem Fl (L : List Nd) (a : Nat) : (bk L a).length ≤ L.length := y9 _ _
theorem yv {L : List Nd} {a : Nat} (h : a < L.length) : nh L (a : Nat) = bk L a := by unfold nh; rw [if_pos ⟨by omega, by omega⟩, Int.toNat_natCast]
theorem yw {L : List Nd} {q : Int} (h : q < 0 ∨ q ≥ L.length) : nh L q = [] := by unfold nh; rw [if_neg (by omega)]
theorem p7 (l : List Nat) : (l.map nI).length = l.length := List.length_map _
def KI (L : List Nd) (a : Nat) (x : Nat × Nat × List Nat) : Prop := (bk L a = x.2.2 ++ gV L (ij L a) x.1 x.2.1 ∧ ij L a - x.2.1 ≤ x.1) ∧ a < x.2.1 ∧ x.2.1 ≤ 200000001 ∧ x.2.2.length ≤ x.2.1
theorem KI_0 {L : List Nd} {a : Nat} (hl : L.length ≤ 100000000) (ha : a < L.length) : KI L a (L.length, a + 1, []) := ⟨⟨rfl, by have := qE L a; show ij L a - (a + 1) ≤ L.length; omega⟩, Nat.lt_succ_self a, by show a + 1 ≤ _; omega, Nat.zero_le _⟩
theorem B9 {L : List Nd} {a n k : Nat} {acc : List Nat} (h : KI L a (n, k, acc)) (hk : ¬ k < ij L a) : bk L a = acc := by
 obtain ⟨⟨h1, h2⟩, _⟩ := h
 rw [h1]
 show acc ++ gV L (ij L a) n k = acc
 cases n with
 | zero => exact List.append_nil acc
 | succ n => rw [gV, if_neg hk, List.append_nil]
theorem Ba {L : List Nd} {a n k : Nat} {acc : List Nat} (hp : iE L) (h : KI L a (n, k, acc)) (hk : k < ij L a) : ∃ m, n = m + 1 ∧ KI L a (m, k + (L.getD k default).sz.toNat, acc ++ [k]) := by
 obtain ⟨⟨h1, h2⟩, h3, h4, h5⟩ := h
 dsimp only at h1 h2 h3 h4 h5
 have hE := qE L a
 have hn := lR hp (a := k) (by omega)
 have hl := hp.2
 obtain ⟨m, rfl⟩ : ∃ m, n = m + 1 := ⟨n - 1, by omega⟩
 rw [gV, if_pos hk] at h1
 refine ⟨m, rfl, ⟨?_, ?_⟩, ?_, ?_, ?_⟩
 . rw [h1, List.append_assoc]; rfl
 . show ij L a - (k + (L.getD k default).sz.toNat) ≤ m; omega
 . show a < k + (L.getD k default).sz.toNat; omega
 . show k + (L.getD k default).sz.toNat ≤ 200000001; omega
 . show (acc ++ [k]).length ≤ k + (L.getD k default).sz.toNat
   rw [List.length_append, List.length_singleton]; omega
theorem DH (c : Bool) (l : List V) (q : Int) (hp : jJ l ∧ iE (cL l)) : OK 30 ([.list c 4 l, .int .i64 q]) ([]) (.buf 0) (some [.buf 1 0 ((nh (cL l) q).map nI)]) := by
 refine az (C := cx []) (ax trivial) (fn := Try.f30) rfl rfl rfl rfl fun hw hs => ?_
 obtain ⟨hN, hp⟩ := hp
 obtain ⟨L, rfl, eL⟩ := unN hN
 rw [eL] at hp ⊢
 have hml : (L.map aX).length = L.length := List.length_map _
 have hl := hp.2
 repeat' ((conv => whnf); first | apply al | (apply ay <;> intro h) | with_reducible apply goG)
 all_goals try conv => whnf
 all_goals try (refine af.mk ?_; try dsimp only)
 all_goals (try simp only [jn, cF] at *)
 all_goals first | refine stay ?_ | omega | skip
 . rw [yw (by omega)]
   refine ah.mk [.tm 4 1] ?_ <;> (repeat' first | trivial)
 . rw [yw (by omega)]
   refine ah.mk [.tm 4 1] ?_ <;> (repeat' first | trivial)
 have hq1 : 0 ≤ q := by omega
 obtain ⟨a, rfl⟩ := Int.eq_ofNat_of_zero_le hq1
 have ha : a < L.length := by omega
 have hna := lR hp ha
 have hE := qE L a
 have hEe : ij L a = min L.length (a + (L.getD a default).sz.toNat) := rfl
 rw [yv ha]
 have hif : ∀ {k : Nat}, k < L.length → (if (L.getD k default).sz < (L.length : Int) then (L.getD k default).sz else (L.length : Int)) = (L.getD k default).sz := fun hk => by
  have := lR hp hk
  split <;> omega
 have hwa : IntKind.i64.wrap ((a : Int) + (L.getD a default).sz) = (a : Int) + (L.getD a default).sz := by rw [nP]; omega
 have hif := hif ha
 refine cg.mk (Nat × Nat × List Nat) (KI L a) (fun x => ⟨50, [(0, .list c 4 (L.map aX)), (1, .int .i64 a), (5, .buf 0), (6, .int .i64 (ij L a)), (7, .int .i64 x.2.1)], [.buf 1 0 (x.2.2.map nI)], [0]⟩) (fun x => x.1) [.tm 5 1] (L.length, a + 1, []) (KI_0 hl ha) ?_ (fun ⟨n, k, acc⟩ hI _ _ => ?_)
 . refine Go.VG.Sub.mk rfl ?_ ?_ ?_ ?_ <;> (repeat' first | trivial | apply ak | apply cw)
   all_goals (try simp only [hml, Int.toNat_natCast, hif, hwa])
   all_goals first
    | (show IntKind.i64.wrap (↑a + 1) = ((a + 1 : Nat) : Int); (simp (discharger := omega) only [wR]; omega))
    | (rw [hEe]; split <;> omega)
 have hI2 := hI.2
 dsimp only at hI2
 have hn := fun h : k < L.length => lR hp h
 have hma := p7 acc
 repeat' ((conv => whnf); first | apply al | (apply ay <;> intro h) | with_reducible apply goF)
 all_goals try conv => whnf
 all_goals try (refine af.mk ?_; try dsimp only)
 all_goals (try simp only [jn, cF] at *)
 all_goals first | refine stay ?_ | omega | (simp only [cD]; omega) | skip
 all_goals first
  | (show ah _ _ _ _ _ _
     rw [B9 hI (by omega)]
     refine ah.mk [] ?_ <;> (repeat' first | trivial)
     done)
  | skip
 obtain ⟨m, rfl, hI'⟩ := Ba hp hI (by omega)
 have hn := hn (by omega)
 refine ⟨[], (m, k + (L.getD k default).sz.toNat, acc ++ [k]), hI', ?_, Nat.lt_succ_self m⟩
 refine Go.VG.Sub.mk rfl ?_ ?_ ?_ ?_ <;> (repeat' first | trivial | apply ak | apply cw | apply aJ)
 all_goals (try simp only [hml, Int.toNat_natCast])
 all_goals first
  | (rw [List.map_append]; rfl)
  | (show IntKind.i64.wrap _ = ((k + (L.getD k default).sz.toNat : Nat) : Int)
     (repeat' split)
     all_goals (first | omega | (simp (discharger := omega) only [wR]; omega)))
def vb : Sm := fun args σ => match args, σ with
 | [.list c 4 l, .int .i64 q], [] => some (jJ l ∧ iE (cL l), .buf 0, some [.buf 1 0 ((nh (cL l) q).map nI)])
 | _, _ => none
theorem F7 : aI 30 vb := by
 intro args sg pre x r he hp
 unfold vb at he
 split at he <;> cases he
 . exact DH (hp := hp) ..
end Go.Proofs.Ytllncocibkgjkaa
namespace Go.Proofs.Ytllncocibkgjkaa
open Go Go.VG
set_option maxRecDepth 100000
theorem yF {f : Nat → List UInt8} {L : List Nd} {k0 : UInt8} {K : List Nat} {i : Nat} (h : i < K.length) :
   fv f L k0 (K.drop i) i = (if i = 0 then [] else [44]) ++ ((if k0.toNat = 123 then quote (L.getD (K.getD i default) default).key ++ [58] else []) ++ (f (K.getD i default) ++ fv f L k0 (K.drop (i + 1)) (i + 1))) := by
 rw [List.drop_eq_getElem_cons h, List.getD_eq_getElem?_getD (l := K), List.getElem?_eq_getElem h]
 rfl
theorem yE {f : Nat → List UInt8} {L : List Nd} {k0 : UInt8} {K : List Nat} {i : Nat} (h : K.length ≤ i) : fv f L k0 (K.drop i) i = [] := by
 rw [List.drop_of_length_le h]; rfl
theorem zP (s : List UInt8) : s.length ≤ (quote s).length := by
 unfold quote
 have : ∀ s : List UInt8, s.length ≤ (b8 s).length := by
  intro s
  induction s with
  | nil => exact Nat.le_refl _
  | cons c s ih =>
    have : 1 ≤ (cq c).length := by unfold cq; split <;> (try split) <;> simp
    simp only [b8, List.flatMap_cons, List.length_append, List.length_cons] at ih ⊢
    omega
 have := this s
 rw [List.length_cons, List.length_append]; omega
-- #name trPut jtree.put
def pC (n : Nat) : Sm := fun args σ => match args, σ with
 | [.buf 0, .list c 4 N, .int .i64 (.ofNat a)], [.buf 1 0 l] => some (jJ N ∧ iE (cL N) ∧ a < (cL N).length ∧ (cL N).length - a ≤ n ∧ l.length + (cn (cL N) n a).length ≤ 100000000, .buf 0, some [.buf 1 0 (l ++ bl (cn (cL N) n a))])
 | _, _ => none
theorem ID {k : UInt8} (h : k.toNat = 123 ∨ k.toNat = 91) : IntKind.u8.wrap ((k.toNat : Int) + 2) = if k.toNat = 123 then 125 else 93 := by
 rw [mh]; split <;> omega
theorem xq {k : UInt8} (h : k.toNat = 123 ∨ k.toNat = 91) : bl [if k.toNat = 123 then 125 else 93] = [V.int .u8 (IntKind.u8.wrap ((k.toNat : Int) + 2))] := by
 rw [ID h]
 split <;> rfl
structure PI (f : Nat → List UInt8) (L : List Nd) (k0 : UInt8) (K : List Nat) (x : Nat × List UInt8) : Prop where
 i : x.1 ≤ K.length
 e : fv f L k0 K 0 = x.2 ++ fv f L k0 (K.drop x.1) x.1
theorem DN (n : Nat) (hv : aI 61 (pC n)) (c : Bool) (L : List Nd) (l : List V) (a : Nat) (hp : iE L ∧ a < L.length ∧ L.length - a ≤ n + 1 ∧ l.length + (cn L (n + 1) a).length ≤ 100000000) : OK 61 [.buf 0, .list c 4 (L.map aX), .int .i64 a] [.buf 1 0 l] (.buf 0) (some [.buf 1 0 (l ++ bl (cn L (n + 1) a))]) := by
 refine az (C := cx [(12, uY), (30, vb), (36, kX), (61, pC n)]) (ax ⟨F1, F7, nc, hv, trivial⟩) (fn := Try.f61) rfl rfl rfl rfl fun hw hs => ?_
 obtain ⟨h1, h2, h3, h4⟩ := hp
 have hml : (L.map aX).length = L.length := List.length_map _
 have hna := lR h1 h2
 have hki := yv h2
 have hll := h1.2
 have hk0 := (L.getD a default).k.toNat_lt
 have hkl := Fl L a
 have g1 : (L.getD a default).k.toNat ≠ 123 → (L.getD a default).k.toNat ≠ 91 → cn L (n + 1) a = bG ⟨(L.getD a default).k, (L.getD a default).t⟩ := fun q1 q2 => by rw [cn, if_pos ⟨q1, q2⟩]
 have g2 : (L.getD a default).k.toNat = 123 ∨ (L.getD a default).k.toNat = 91 → cn L (n + 1) a = (L.getD a default).k :: (fv (cn L n) L (L.getD a default).k (bk L a) 0 ++ [if (L.getD a default).k.toNat = 123 then 125 else 93]) := fun q => by rw [cn, if_neg (by omega)]
 have hkm : ∀ i, i < (bk L a).length → a < (bk L a).getD i default ∧ (bk L a).getD i default < L.length := fun i hi => by
  rw [List.getD_eq_getElem?_getD, List.getElem?_eq_getElem hi]
  exact Fm (List.getElem_mem hi)
 repeat' ((conv => whnf); first | apply al | apply bh | (apply ay <;> intro h) | with_reducible apply goF)
 all_goals try conv => whnf
 all_goals try (refine af.mk ?_; try dsimp only)
 all_goals (try simp only [jn, cF, hki] at *)
 all_goals first | refine stay ?_ | trivial | omega | (simp only [cD]; omega) | skip
 . exact ⟨ns, h1⟩
 . rw [g2 (by omega)] at h4 ⊢
   refine cg.mk (Nat × List UInt8) (PI (cn L n) L (L.getD a default).k (bk L a)) (fun x => ⟨71, [(0, .buf 0), (1, .list c 4 (L.map aX)), (2, .int .i64 a), (7, .ptr 1 0), (36, .buf 2), (37, .int .i64 (bk L a).length), (38, .int .i64 x.1)], [.buf 1 0 (l ++ [.int .u8 (L.getD a default).k.toNat] ++ bl x.2), .cells (eNc (L.getD a default)), .buf 1 0 ((bk L a).map nI)], [0]⟩) (fun x => (bk L a).length - x.1) [] (0, []) ⟨Nat.zero_le _, rfl⟩ ?_ (fun ⟨i, pre⟩ ⟨hi, he⟩ _ _ => ?_)
   . refine Go.VG.Sub.mk rfl ?_ ?_ ?_ ?_ <;> (repeat' first | trivial | apply ak | apply cw | apply aJ)
     all_goals first
      | (rw [p7]; done)
      | (exact (List.append_nil _).symm)
   dsimp only at hi he
   have hst := fun h => yF (f := cn L n) (L := L) (k0 := (L.getD a default).k) (K := bk L a) (i := i) h
   have hfin := fun h => yE (f := cn L n) (L := L) (k0 := (L.getD a default).k) (K := bk L a) (i := i) h
   have hlen := congrArg List.length he
   rw [List.length_append] at hlen
   rw [List.length_cons, List.length_append, List.length_singleton] at h4
   have hkm := hkm i
   have hnk := fun h : i < (bk L a).length => lR h1 (hkm h).2
   have hmk := p7 (bk L a)
   have hbl := cE pre
   repeat' ((conv => whnf); first | apply al | (apply ay <;> intro h) | with_reducible apply goF)
   all_goals try conv => whnf
   all_goals try (refine af.mk ?_; try dsimp only)
   all_goals (try simp only [jn, cF] at *)
   all_goals first | refine stay ?_ | trivial | omega | (simp only [cD]; omega) | skip
   all_goals first
    | (show ah _ _ _ _ _ _
       rw [hfin (by omega), List.append_nil] at he
       rw [he]
       refine ah.mk [] ?_ <;> (repeat' first | trivial | apply ak | apply aJ)
       rw [show [V.int .u8 (IntKind.u8.wrap (((L.getD a default).k.toNat : Int) + 2))] = bl [if (L.getD a default).k.toNat = 123 then 125 else 93] from (xq (by omega)).symm]
       show _ = l ++ bl ([_] ++ (pre ++ _))
       rw [bz, bz, ← List.append_assoc, ← List.append_assoc]
       rfl)
    | skip
   all_goals
    have hlt : i < (bk L a).length := by omega
    have hs := hst hlt
    have hs2 : fv (cn L n) L (L.getD a default).k (bk L a) 0 = (pre ++ ((if i = 0 then [] else [44]) ++ ((if (L.getD a default).k.toNat = 123 then quote (L.getD ((bk L a).getD i default) default).key ++ [58] else []) ++ cn L n ((bk L a).getD i default)))) ++ fv (cn L n) L (L.getD a default).k (List.drop (i + 1) (bk L a)) (i + 1) := by
     rw [he, hs]; simp only [List.append_assoc]
    first
     | rw [if_pos (show i = 0 by omega)] at hs hs2
     | rw [if_neg (show ¬ i = 0 by omega)] at hs hs2
    first
     | rw [if_pos (show (L.getD a default).k.toNat = 123 by omega)] at hs hs2
     | rw [if_neg (show ¬ (L.getD a default).k.toNat = 123 by omega)] at hs hs2
    have hsl := congrArg List.length hs
    simp only [List.length_append, List.length_cons, List.length_nil] at hsl
    first
     | (simp only [List.length_append, List.length_cons, List.length_nil, cE]; omega)
     | (refine ⟨ns, h1, (hkm hlt).2, by have := (hkm hlt).1; omega, ?_⟩
        simp only [List.length_append, List.length_cons, List.length_nil, cE]; omega)
     | (refine ⟨[], (i + 1, _), ⟨hlt, hs2⟩, ?_, by show (bk L a).length - (i + 1) < (bk L a).length - i; omega⟩
        refine Go.VG.Sub.mk rfl ?_ ?_ ?_ ?_ <;> (repeat' first | trivial | apply ak | apply cw | apply aJ)
        all_goals first
         | (show IntKind.i64.wrap _ = _; (simp (discharger := omega) only [wR]; omega))
         | (simp only [bl, bz, List.append_assoc, List.cons_append, List.nil_append]; done)
         | (simp only [bl, bz, List.append_assoc, List.cons_append, List.nil_append]; rfl))
 . exact ⟨ns, h1⟩
 . rw [g2 (by omega)] at h4 ⊢
   refine cg.mk (Nat × List UInt8) (PI (cn L n) L (L.getD a default).k (bk L a)) (fun x => ⟨71, [(0, .buf 0), (1, .list c 4 (L.map aX)), (2, .int .i64 a), (7, .ptr 1 0), (36, .buf 2), (37, .int .i64 (bk L a).length), (38, .int .i64 x.1)], [.buf 1 0 (l ++ [.int .u8 (L.getD a default).k.toNat] ++ bl x.2), .cells (eNc (L.getD a default)), .buf 1 0 ((bk L a).map nI)], [0]⟩) (fun x => (bk L a).length - x.1) [] (0, []) ⟨Nat.zero_le _, rfl⟩ ?_ (fun ⟨i, pre⟩ ⟨hi, he⟩ _ _ => ?_)
   . refine Go.VG.Sub.mk rfl ?_ ?_ ?_ ?_ <;> (repeat' first | trivial | apply ak | apply cw | apply aJ)
     all_goals first
      | (rw [p7]; done)
      | (exact (List.append_nil _).symm)
   dsimp only at hi he
   have hst := fun h => yF (f := cn L n) (L := L) (k0 := (L.getD a default).k) (K := bk L a) (i := i) h
   have hfin := fun h => yE (f := cn L n) (L := L) (k0 := (L.getD a default).k) (K := bk L a) (i := i) h
   have hlen := congrArg List.length he
   rw [List.length_append] at hlen
   rw [List.length_cons, List.length_append, List.length_singleton] at h4
   have hkm := hkm i
   have hnk := fun h : i < (bk L a).length => lR h1 (hkm h).2
   have hmk := p7 (bk L a)
   have hbl := cE pre
   repeat' ((conv => whnf); first | apply al | (apply ay <;> intro h) | with_reducible apply goF)
   all_goals try conv => whnf
   all_goals try (refine af.mk ?_; try dsimp only)
   all_goals (try simp only [jn, cF] at *)
   all_goals first | refine stay ?_ | trivial | omega | (simp only [cD]; omega) | skip
   all_goals first
    | (show ah _ _ _ _ _ _
       rw [hfin (by omega), List.append_nil] at he
       rw [he]
       refine ah.mk [] ?_ <;> (repeat' first | trivial | apply ak | apply aJ)
       rw [show [V.int .u8 (IntKind.u8.wrap (((L.getD a default).k.toNat : Int) + 2))] = bl [if (L.getD a default).k.toNat = 123 then 125 else 93] from (xq (by omega)).symm]
       show _ = l ++ bl ([_] ++ (pre ++ _))
       rw [bz, bz, ← List.append_assoc, ← List.append_assoc]
       rfl)
    | skip
   all_goals
    have hlt : i < (bk L a).length := by omega
    have hs := hst hlt
    have hs2 : fv (cn L n) L (L.getD a default).k (bk L a) 0 = (pre ++ ((if i = 0 then [] else [44]) ++ ((if (L.getD a default).k.toNat = 123 then quote (L.getD ((bk L a).getD i default) default).key ++ [58] else []) ++ cn L n ((bk L a).getD i default)))) ++ fv (cn L n) L (L.getD a default).k (List.drop (i + 1) (bk L a)) (i + 1) := by
     rw [he, hs]; simp only [List.append_assoc]
    first
     | rw [if_pos (show i = 0 by omega)] at hs hs2
     | rw [if_neg (show ¬ i = 0 by omega)] at hs hs2
    first
     | rw [if_pos (show (L.getD a default).k.toNat = 123 by omega)] at hs hs2
     | rw [if_neg (show ¬ (L.getD a default).k.toNat = 123 by omega)] at hs hs2
    have hsl := congrArg List.length hs
    simp only [List.length_append, List.length_cons, List.length_nil] at hsl
    first
     | (simp only [List.length_append, List.length_cons, List.length_nil, cE]; omega)
     | (refine ⟨ns, h1, (hkm hlt).2, by have := (hkm hlt).1; omega, ?_⟩
        simp only [List.length_append, List.length_cons, List.length_nil, cE]; omega)
     | (refine ⟨[], (i + 1, _), ⟨hlt, hs2⟩, ?_, by show (bk L a).length - (i + 1) < (bk L a).length - i; omega⟩
        refine Go.VG.Sub.mk rfl ?_ ?_ ?_ ?_ <;> (repeat' first | trivial | apply ak | apply cw | apply aJ)
        all_goals first
         | (show IntKind.i64.wrap _ = _; (simp (discharger := omega) only [wR]; omega))
         | (simp only [bl, bz, List.append_assoc, List.cons_append, List.nil_append]; done)
         | (simp only [bl, bz, List.append_assoc, List.cons_append, List.nil_append]; rfl))
 . rw [g1 (by omega) (by omega)]
   refine ah.mk [] ?_ <;> (repeat' first | trivial)
theorem yC : ∀ n, aI 61 (pC n)
 | 0 => by
   intro args sg pre x r he hp
   unfold pC at he
   split at he <;> cases he
   obtain ⟨h1, h2, h3, h4, h5⟩ := hp
   exfalso; omega
 | n + 1 => by
   intro args sg pre x r he hp
   unfold pC at he
   split at he <;> cases he
   obtain ⟨h1, h2, h3, h4, h5⟩ := hp
   obtain ⟨L, rfl, eL⟩ := unN h1
   rw [eL] at h2 h3 h4 h5 ⊢
   exact DN n (yC n) _ L _ _ ⟨h2, h3, h4, h5⟩
def pk (L : List Nd) (a : Nat) : List UInt8 := cn L L.length a
-- #name trPutN jtree.put
def ve : Sm := fun args σ => match args, σ with
 | [.buf 0, .list c 4 N, .int .i64 (.ofNat a)], [.buf 1 0 l] => some (jJ N ∧ iE (cL N) ∧ a < (cL N).length ∧ l.length + (pk (cL N) a).length ≤ 100000000, .buf 0, some [.buf 1 0 (l ++ bl (pk (cL N) a))])
 | _, _ => none
theorem F8 : aI 61 ve := by
 intro args sg pre x r he hp
 unfold ve at he
 split at he <;> cases he
 rename_i c N a l
 exact yC (cL N).length _ _ _ _ _ rfl ⟨hp.1, hp.2.1, hp.2.2.1, Nat.sub_le _ _, hp.2.2.2⟩
def iu (L : List Nd) : List UInt8 := if L.length = 0 then [] else pk L 0
theorem DP (c d : Bool) (b N : List V) (hp : jJ N ∧ iE (cL N) ∧ b.length + (iu (cL N)).length ≤ 100000000) : OK 28 ([.list c 1 b, .list d 4 N]) ([]) (.buf 0) (some [.buf 1 0 (b ++ bl (iu (cL N)))]) := by
 refine az (C := cx [(61, ve)]) (ax ⟨F8, trivial⟩) (fn := Try.f28) rfl rfl rfl rfl fun hw hs => ?_
 obtain ⟨h1, h2, h3⟩ := hp
 obtain ⟨L, rfl, eL⟩ := unN h1
 rw [eL] at h2 h3 ⊢
 have hml : (L.map aX).length = L.length := List.length_map _
 have hll := h2.2
 have e0 : L.length = 0 → iu L = [] := fun h => by unfold iu; rw [if_pos h]
 have e1 : L.length ≠ 0 → iu L = pk L 0 := fun h => by unfold iu; rw [if_neg h]
 repeat' ((conv => whnf); first | apply al | (apply ay <;> intro h))
 all_goals try conv => whnf
 all_goals try (refine af.mk ?_; try dsimp only)
 all_goals (try simp only [jn, cF] at *)
 all_goals first | refine stay ?_ | (simp only [cD]; omega) | (simp (discharger := omega) [-List.getD_eq_getElem?_getD, wR] <;> omega) | skip
 . rw [e0 (by omega)]
   refine ah.mk [] ?_ <;> (repeat' first | trivial | apply ak | apply aJ)
   exact (List.append_nil _).symm
 . rw [e1 (by omega)] at h3
   exact ⟨ns, h2, by omega, h3⟩
 . rw [e1 (by omega)]
   refine ah.mk [] ?_ <;> (repeat' first | trivial)
end Go.Proofs.Ytllncocibkgjkaa
