/-
  A part of the proof.
-/
import Derived.Test.YtllncocibkgjkaaDoorTRb
import Derived.Test.YtllncocibkgjkaaDoorJTu
import Derived.Test.YtllncocibkgjkaaDoorTRk
set_option linter.unusedSimpArgs false
set_option linter.unusedVariables false
set_option maxHeartbeats 4000000
namespace Go.Proofs.YtllncocibkgjkaaDoor
open Go Go.VG
set_option maxRecDepth 100000
def upT : List V → List Tk
 | [] => []
 | .agg [.int _ a, .str t] :: r => ⟨byte a, t⟩ :: upT r
 | _ :: r => default :: upT r
def dD : List V → List Nd
 | [] => []
 | .agg [.int _ a, .str k, .str t, .int _ n] :: r => ⟨byte a, k, t, n⟩ :: dD r
 | _ :: r => default :: dD r
@[simp] theorem ju (l : List Nd) : dD (l.map bX) = l := by
 induction l with
 | nil => rfl
 | cons b s ih =>
   have h : byte (b.k.toNat : Int) = b.k := dx _
   simp only [List.map_cons, bX, eNc, dD, ih, h]
def kQ (l : List V) : Prop := l = (dD l).map bX
theorem kb {l : List Nd} : kQ (l.map bX) := by unfold kQ; rw [ju]
abbrev eNb (L : List Nd) : O := .buf 4 0 (L.map bX)
def upK : List V → List (List UInt8)
 | [] => []
 | .str t :: r => t :: upK r
 | _ :: r => [] :: upK r
def n5 (l : List V) : Prop := l = (upK l).map V.str
end Go.Proofs.YtllncocibkgjkaaDoor
namespace Go.Proofs.YtllncocibkgjkaaDoor
open Go Go.VG
set_option maxRecDepth 100000
def jN (L : List Nd) : Prop := (∀ x ∈ L, 1 ≤ x.sz ∧ x.sz ≤ L.length ∧ x.key.length ≤ 10000000 ∧ x.t.length ≤ 10000000) ∧ L.length ≤ 100000000
abbrev nI (k : Nat) : V := .int .i64 k
theorem mZ {L : List Nd} (h : jN L) {a : Nat} (ha : a < L.length) : 1 ≤ (L.getD a default).sz ∧ (L.getD a default).sz ≤ L.length ∧ (L.getD a default).key.length ≤ 10000000 ∧ (L.getD a default).t.length ≤ 10000000 := by
 rw [List.getD_eq_getElem?_getD, List.getElem?_eq_getElem ha]
 exact h.1 _ (List.getElem_mem ha)
theorem unN {l : List V} (h : kQ l) : ∃ L, l = L.map bX ∧ dD l = L := ⟨_, h, rfl⟩
theorem rY (L : List Nd) (a : Nat) : jh L a ≤ L.length := Nat.min_le_left _ _
theorem zH {L : List Nd} {e : Nat} : ∀ (n p k : Nat), k ∈ iX L e n p → p ≤ k ∧ k < e
 | 0, _, _, h => by cases h
 | n + 1, p, k, h => by
   rw [iX] at h
   split at h
   . rcases List.mem_cons.1 h with rfl | h
     . exact ⟨Nat.le_refl _, by assumption⟩
     . have := zH n _ k h; omega
   . cases h
theorem H9 {L : List Nd} {a k : Nat} (h : k ∈ cr L a) : a < k ∧ k < L.length := by
 have := zH _ _ _ h
 have := rY L a
 omega
theorem zG {L : List Nd} {e : Nat} : ∀ (n p : Nat), (iX L e n p).length ≤ n
 | 0, _ => Nat.le_refl _
 | n + 1, p => by
   rw [iX]
   split
   . have := zG (L := L) (e := e) n (p + (L.getD p default).sz.toNat)
     rw [List.length_cons]; omega
   . exact Nat.zero_le _
theorem H8 (L : List Nd) (a : Nat) : (cr L a).length ≤ L.length := zG _ _
theorem zP {L : List Nd} {a : Nat} (h : a < L.length) : ow L (a : Nat) = cr L a := by unfold ow; rw [if_pos ⟨by omega, by omega⟩, Int.toNat_natCast]
theorem zQ {L : List Nd} {q : Int} (h : q < 0 ∨ q ≥ L.length) : ow L q = [] := by unfold ow; rw [if_neg (by omega)]
theorem qj (l : List Nat) : (l.map nI).length = l.length := List.length_map _
def KI (L : List Nd) (a : Nat) (x : Nat × Nat × List Nat) : Prop := (cr L a = x.2.2 ++ iX L (jh L a) x.1 x.2.1 ∧ jh L a - x.2.1 ≤ x.1) ∧ a < x.2.1 ∧ x.2.1 ≤ 200000001 ∧ x.2.2.length ≤ x.2.1
theorem KI_0 {L : List Nd} {a : Nat} (hl : L.length ≤ 100000000) (ha : a < L.length) : KI L a (L.length, a + 1, []) := ⟨⟨rfl, by have := rY L a; show jh L a - (a + 1) ≤ L.length; omega⟩, Nat.lt_succ_self a, by show a + 1 ≤ _; omega, Nat.zero_le _⟩
theorem CF {L : List Nd} {a n k : Nat} {acc : List Nat} (h : KI L a (n, k, acc)) (hk : ¬ k < jh L a) : cr L a = acc := by
 obtain ⟨⟨h1, h2⟩, _⟩ := h
 rw [h1]
 show acc ++ iX L (jh L a) n k = acc
 cases n with
 | zero => exact List.append_nil acc
 | succ n => rw [iX, if_neg hk, List.append_nil]
theorem CG {L : List Nd} {a n k : Nat} {acc : List Nat} (hp : jN L) (h : KI L a (n, k, acc)) (hk : k < jh L a) : ∃ m, n = m + 1 ∧ KI L a (m, k + (L.getD k default).sz.toNat, acc ++ [k]) := by
 obtain ⟨⟨h1, h2⟩, h3, h4, h5⟩ := h
 dsimp only at h1 h2 h3 h4 h5
 have hE := rY L a
 have hn := mZ hp (a := k) (by omega)
 have hl := hp.2
 obtain ⟨m, rfl⟩ : ∃ m, n = m + 1 := ⟨n - 1, by omega⟩
 rw [iX, if_pos hk] at h1
 refine ⟨m, rfl, ⟨?_, ?_⟩, ?_, ?_, ?_⟩
 . rw [h1, List.append_assoc]; rfl
 . show jh L a - (k + (L.getD k default).sz.toNat) ≤ m; omega
 . show a < k + (L.getD k default).sz.toNat; omega
 . show k + (L.getD k default).sz.toNat ≤ 200000001; omega
 . show (acc ++ [k]).length ≤ k + (L.getD k default).sz.toNat
   rw [List.length_append, List.length_singleton]; omega
theorem Ff (c : Bool) (l : List V) (q : Int) (hp : kQ l ∧ jN (dD l)) : OK 33 ([.list c 4 l, .int .i64 q]) ([]) (.buf 0) (some [.buf 1 0 ((ow (dD l) q).map nI)]) := by
 refine aI (C := cx []) (aG trivial) (fn := Tryd.f33) rfl rfl rfl rfl fun hw hs => ?_
 obtain ⟨hN, hp⟩ := hp
 obtain ⟨L, rfl, eL⟩ := unN hN
 rw [eL] at hp ⊢
 have hml : (L.map bX).length = L.length := List.length_map _
 have hl := hp.2
 repeat' ((conv => whnf); first | apply ai | (apply aj <;> intro h) | with_reducible apply bf)
 all_goals try conv => whnf
 all_goals try (refine a8.mk ?_; try dsimp only)
 all_goals (try simp only [ju, dx] at *)
 all_goals first | refine stay ?_ | omega | skip
 . rw [zQ (by omega)]
   refine ab.mk [.tm 4 1] ?_ <;> (repeat' first | trivial)
 . rw [zQ (by omega)]
   refine ab.mk [.tm 4 1] ?_ <;> (repeat' first | trivial)
 have hq1 : 0 ≤ q := by omega
 obtain ⟨a, rfl⟩ := Int.eq_ofNat_of_zero_le hq1
 have ha : a < L.length := by omega
 have hna := mZ hp ha
 have hE := rY L a
 have hEe : jh L a = min L.length (a + (L.getD a default).sz.toNat) := rfl
 rw [zP ha]
 have hif : ∀ {k : Nat}, k < L.length → (if (L.getD k default).sz < (L.length : Int) then (L.getD k default).sz else (L.length : Int)) = (L.getD k default).sz := fun hk => by
  have := mZ hp hk
  split <;> omega
 have hwa : IntKind.i64.wrap ((a : Int) + (L.getD a default).sz) = (a : Int) + (L.getD a default).sz := by rw [iO]; omega
 have hif := hif ha
 refine cB.mk (Nat × Nat × List Nat) (KI L a) (fun x => ⟨50, [(0, .list c 4 (L.map bX)), (1, .int .i64 a), (5, .buf 0), (6, .int .i64 (jh L a)), (7, .int .i64 x.2.1)], [.buf 1 0 (x.2.2.map nI)], [0]⟩) (fun x => x.1) [.tm 5 1] (L.length, a + 1, []) (KI_0 hl ha) ?_ (fun ⟨n, k, acc⟩ hI _ _ => ?_)
 . refine Go.VG.Sub.mk rfl ?_ ?_ ?_ ?_ <;> (repeat' first | trivial | apply aa | apply ar)
   all_goals (try simp only [hml, Int.toNat_natCast, hif, hwa])
   all_goals first
    | (show IntKind.i64.wrap (↑a + 1) = ((a + 1 : Nat) : Int); (simp (discharger := omega) only [wR]; omega))
    | (rw [hEe]; split <;> omega)
 have hI2 := hI.2
 dsimp only at hI2
 have hn := fun h : k < L.length => mZ hp h
 have hma := qj acc
 repeat' ((conv => whnf); first | apply ai | (apply aj <;> intro h) | with_reducible apply bd)
 all_goals try conv => whnf
 all_goals try (refine a8.mk ?_; try dsimp only)
 all_goals (try simp only [ju, dx] at *)
 all_goals first | refine stay ?_ | omega | (simp only [ax]; omega) | skip
 all_goals first
  | (show ab _ _ _ _ _ _
     rw [CF hI (by omega)]
     refine ab.mk [] ?_ <;> (repeat' first | trivial)
     done)
  | skip
 obtain ⟨m, rfl, hI'⟩ := CG hp hI (by omega)
 have hn := hn (by omega)
 refine ⟨[], (m, k + (L.getD k default).sz.toNat, acc ++ [k]), hI', ?_, Nat.lt_succ_self m⟩
 refine Go.VG.Sub.mk rfl ?_ ?_ ?_ ?_ <;> (repeat' first | trivial | apply aa | apply ar | apply ak)
 all_goals (try simp only [hml, Int.toNat_natCast])
 all_goals first
  | (rw [List.map_append]; rfl)
  | (show IntKind.i64.wrap _ = ((k + (L.getD k default).sz.toNat : Nat) : Int)
     (repeat' split)
     all_goals (first | omega | (simp (discharger := omega) only [wR]; omega)))
def wK : Sm := fun args σ => match args, σ with
 | [.list c 4 l, .int .i64 q], [] => some (kQ l ∧ jN (dD l), .buf 0, some [.buf 1 0 ((ow (dD l) q).map nI)])
 | _, _ => none
theorem GP : aE 33 wK := by
 intro args sg pre x r he hp
 unfold wK at he
 split at he <;> cases he
 . exact Ff (hp := hp) ..
end Go.Proofs.YtllncocibkgjkaaDoor
namespace Go.Proofs.YtllncocibkgjkaaDoor
open Go Go.VG
set_option maxRecDepth 100000
theorem zZ {f : Nat → List UInt8} {L : List Nd} {k0 : UInt8} {K : List Nat} {i : Nat} (h : i < K.length) :
   gC f L k0 (K.drop i) i = (if i = 0 then [] else [44]) ++ ((if k0.toNat = 123 then quote (L.getD (K.getD i default) default).key ++ [58] else []) ++ (f (K.getD i default) ++ gC f L k0 (K.drop (i + 1)) (i + 1))) := by
 rw [List.drop_eq_getElem_cons h, List.getD_eq_getElem?_getD (l := K), List.getElem?_eq_getElem h]
 rfl
theorem zY {f : Nat → List UInt8} {L : List Nd} {k0 : UInt8} {K : List Nat} {i : Nat} (h : K.length ≤ i) : gC f L k0 (K.drop i) i = [] := by
 rw [List.drop_of_length_le h]; rfl
theorem Bi (s : List UInt8) : s.length ≤ (quote s).length := by
 unfold quote
 have : ∀ s : List UInt8, s.length ≤ (d5 s).length := by
  intro s
  induction s with
  | nil => exact Nat.le_refl _
  | cons c s ih =>
    have : 1 ≤ (hJ c).length := by unfold hJ; split <;> (try split) <;> simp
    simp only [d5, List.flatMap_cons, List.length_append, List.length_cons] at ih ⊢
    omega
 have := this s
 rw [List.length_cons, List.length_append]; omega
-- #name trPut jtree.put
def qM (n : Nat) : Sm := fun args σ => match args, σ with
 | [.buf 0, .list c 4 N, .int .i64 (.ofNat a)], [.buf 1 0 l] => some (kQ N ∧ jN (dD N) ∧ a < (dD N).length ∧ (dD N).length - a ≤ n ∧ l.length + (da (dD N) n a).length ≤ 100000000, .buf 0, some [.buf 1 0 (l ++ bl (da (dD N) n a))])
 | _, _ => none
theorem KE {k : UInt8} (h : k.toNat = 123 ∨ k.toNat = 91) : IntKind.u8.wrap ((k.toNat : Int) + 2) = if k.toNat = 123 then 125 else 93 := by
 rw [mh]; split <;> omega
theorem yX {k : UInt8} (h : k.toNat = 123 ∨ k.toNat = 91) : bl [if k.toNat = 123 then 125 else 93] = [V.int .u8 (IntKind.u8.wrap ((k.toNat : Int) + 2))] := by
 rw [KE h]
 split <;> rfl
structure PI (f : Nat → List UInt8) (L : List Nd) (k0 : UInt8) (K : List Nat) (x : Nat × List UInt8) : Prop where
 i : x.1 ≤ K.length
 e : gC f L k0 K 0 = x.2 ++ gC f L k0 (K.drop x.1) x.1
theorem Fk (n : Nat) (hv : aE 23 (qM n)) (c : Bool) (L : List Nd) (l : List V) (a : Nat) (hp : jN L ∧ a < L.length ∧ L.length - a ≤ n + 1 ∧ l.length + (da L (n + 1) a).length ≤ 100000000) : OK 23 [.buf 0, .list c 4 (L.map bX), .int .i64 a] [.buf 1 0 l] (.buf 0) (some [.buf 1 0 (l ++ bl (da L (n + 1) a))]) := by
 refine aI (C := cx [(32, wF), (33, wK), (31, oP), (23, qM n)]) (aG ⟨GL, GP, rW, hv, trivial⟩) (fn := Tryd.f23) rfl rfl rfl rfl fun hw hs => ?_
 obtain ⟨h1, h2, h3, h4⟩ := hp
 have hml : (L.map bX).length = L.length := List.length_map _
 have hna := mZ h1 h2
 have hki := zP h2
 have hll := h1.2
 have hk0 := (L.getD a default).k.toNat_lt
 have hkl := H8 L a
 have g1 : (L.getD a default).k.toNat ≠ 123 → (L.getD a default).k.toNat ≠ 91 → da L (n + 1) a = cE ⟨(L.getD a default).k, (L.getD a default).t⟩ := fun q1 q2 => by rw [da, if_pos ⟨q1, q2⟩]
 have g2 : (L.getD a default).k.toNat = 123 ∨ (L.getD a default).k.toNat = 91 → da L (n + 1) a = (L.getD a default).k :: (gC (da L n) L (L.getD a default).k (cr L a) 0 ++ [if (L.getD a default).k.toNat = 123 then 125 else 93]) := fun q => by rw [da, if_neg (by omega)]
 have hkm : ∀ i, i < (cr L a).length → a < (cr L a).getD i default ∧ (cr L a).getD i default < L.length := fun i hi => by
  rw [List.getD_eq_getElem?_getD, List.getElem?_eq_getElem hi]
  exact H9 (List.getElem_mem hi)
 repeat' ((conv => whnf); first | apply ai | apply aw | (apply aj <;> intro h) | with_reducible apply bd)
 all_goals try conv => whnf
 all_goals try (refine a8.mk ?_; try dsimp only)
 all_goals (try simp only [ju, dx, hki] at *)
 all_goals first | refine stay ?_ | trivial | omega | (simp only [ax]; omega) | skip
 . exact ⟨kb, h1⟩
 . rw [g2 (by omega)] at h4 ⊢
   refine cB.mk (Nat × List UInt8) (PI (da L n) L (L.getD a default).k (cr L a)) (fun x => ⟨71, [(0, .buf 0), (1, .list c 4 (L.map bX)), (2, .int .i64 a), (7, .ptr 1 0), (36, .buf 2), (37, .int .i64 (cr L a).length), (38, .int .i64 x.1)], [.buf 1 0 (l ++ [.int .u8 (L.getD a default).k.toNat] ++ bl x.2), .cells (eNc (L.getD a default)), .buf 1 0 ((cr L a).map nI)], [0]⟩) (fun x => (cr L a).length - x.1) [] (0, []) ⟨Nat.zero_le _, rfl⟩ ?_ (fun ⟨i, pre⟩ ⟨hi, he⟩ _ _ => ?_)
   . refine Go.VG.Sub.mk rfl ?_ ?_ ?_ ?_ <;> (repeat' first | trivial | apply aa | apply ar | apply ak)
     all_goals first
      | (rw [qj]; done)
      | (exact (List.append_nil _).symm)
   dsimp only at hi he
   have hst := fun h => zZ (f := da L n) (L := L) (k0 := (L.getD a default).k) (K := cr L a) (i := i) h
   have hfin := fun h => zY (f := da L n) (L := L) (k0 := (L.getD a default).k) (K := cr L a) (i := i) h
   have hlen := congrArg List.length he
   rw [List.length_append] at hlen
   rw [List.length_cons, List.length_append, List.length_singleton] at h4
   have hkm := hkm i
   have hnk := fun h : i < (cr L a).length => mZ h1 (hkm h).2
   have hmk := qj (cr L a)
   have hbl := cU pre
   repeat' ((conv => whnf); first | apply ai | (apply aj <;> intro h) | with_reducible apply bd)
   all_goals try conv => whnf
   all_goals try (refine a8.mk ?_; try dsimp only)
   all_goals (try simp only [ju, dx] at *)
   all_goals first | refine stay ?_ | trivial | omega | (simp only [ax]; omega) | skip
   all_goals first
    | (show ab _ _ _ _ _ _
       rw [hfin (by omega), List.append_nil] at he
       rw [he]
       refine ab.mk [] ?_ <;> (repeat' first | trivial | apply aa | apply ak)
       rw [show [V.int .u8 (IntKind.u8.wrap (((L.getD a default).k.toNat : Int) + 2))] = bl [if (L.getD a default).k.toNat = 123 then 125 else 93] from (yX (by omega)).symm]
       show _ = l ++ bl ([_] ++ (pre ++ _))
       rw [dw, dw, ← List.append_assoc, ← List.append_assoc]
       rfl)
    | skip
   all_goals
    have hlt : i < (cr L a).length := by omega
    have hs := hst hlt
    have hs2 : gC (da L n) L (L.getD a default).k (cr L a) 0 = (pre ++ ((if i = 0 then [] else [44]) ++ ((if (L.getD a default).k.toNat = 123 then quote (L.getD ((cr L a).getD i default) default).key ++ [58] else []) ++ da L n ((cr L a).getD i default)))) ++ gC (da L n) L (L.getD a default).k (List.drop (i + 1) (cr L a)) (i + 1) := by
     rw [he, hs]; simp only [List.append_assoc]
    first
     | rw [if_pos (show i = 0 by omega)] at hs hs2
     | rw [if_neg (show ¬ i = 0 by omega)] at hs hs2
    first
     | rw [if_pos (show (L.getD a default).k.toNat = 123 by omega)] at hs hs2
     | rw [if_neg (show ¬ (L.getD a default).k.toNat = 123 by omega)] at hs hs2
    have hsl := congrArg List.length hs
    simp only [List.length_append, List.length_cons, List.length_nil] at hsl
    first
     | (simp only [List.length_append, List.length_cons, List.length_nil, cU]; omega)
     | (refine ⟨kb, h1, (hkm hlt).2, by have := (hkm hlt).1; omega, ?_⟩
        simp only [List.length_append, List.length_cons, List.length_nil, cU]; omega)
     | (refine ⟨[], (i + 1, _), ⟨hlt, hs2⟩, ?_, by show (cr L a).length - (i + 1) < (cr L a).length - i; omega⟩
        refine Go.VG.Sub.mk rfl ?_ ?_ ?_ ?_ <;> (repeat' first | trivial | apply aa | apply ar | apply ak)
        all_goals first
         | (show IntKind.i64.wrap _ = _; (simp (discharger := omega) only [wR]; omega))
         | (simp only [bl, dw, List.append_assoc, List.cons_append, List.nil_append]; done)
         | (simp only [bl, dw, List.append_assoc, List.cons_append, List.nil_append]; rfl))
 . exact ⟨kb, h1⟩
 . rw [g2 (by omega)] at h4 ⊢
   refine cB.mk (Nat × List UInt8) (PI (da L n) L (L.getD a default).k (cr L a)) (fun x => ⟨71, [(0, .buf 0), (1, .list c 4 (L.map bX)), (2, .int .i64 a), (7, .ptr 1 0), (36, .buf 2), (37, .int .i64 (cr L a).length), (38, .int .i64 x.1)], [.buf 1 0 (l ++ [.int .u8 (L.getD a default).k.toNat] ++ bl x.2), .cells (eNc (L.getD a default)), .buf 1 0 ((cr L a).map nI)], [0]⟩) (fun x => (cr L a).length - x.1) [] (0, []) ⟨Nat.zero_le _, rfl⟩ ?_ (fun ⟨i, pre⟩ ⟨hi, he⟩ _ _ => ?_)
   . refine Go.VG.Sub.mk rfl ?_ ?_ ?_ ?_ <;> (repeat' first | trivial | apply aa | apply ar | apply ak)
     all_goals first
      | (rw [qj]; done)
      | (exact (List.append_nil _).symm)
   dsimp only at hi he
   have hst := fun h => zZ (f := da L n) (L := L) (k0 := (L.getD a default).k) (K := cr L a) (i := i) h
   have hfin := fun h => zY (f := da L n) (L := L) (k0 := (L.getD a default).k) (K := cr L a) (i := i) h
   have hlen := congrArg List.length he
   rw [List.length_append] at hlen
   rw [List.length_cons, List.length_append, List.length_singleton] at h4
   have hkm := hkm i
   have hnk := fun h : i < (cr L a).length => mZ h1 (hkm h).2
   have hmk := qj (cr L a)
   have hbl := cU pre
   repeat' ((conv => whnf); first | apply ai | (apply aj <;> intro h) | with_reducible apply bd)
   all_goals try conv => whnf
   all_goals try (refine a8.mk ?_; try dsimp only)
   all_goals (try simp only [ju, dx] at *)
   all_goals first | refine stay ?_ | trivial | omega | (simp only [ax]; omega) | skip
   all_goals first
    | (show ab _ _ _ _ _ _
       rw [hfin (by omega), List.append_nil] at he
       rw [he]
       refine ab.mk [] ?_ <;> (repeat' first | trivial | apply aa | apply ak)
       rw [show [V.int .u8 (IntKind.u8.wrap (((L.getD a default).k.toNat : Int) + 2))] = bl [if (L.getD a default).k.toNat = 123 then 125 else 93] from (yX (by omega)).symm]
       show _ = l ++ bl ([_] ++ (pre ++ _))
       rw [dw, dw, ← List.append_assoc, ← List.append_assoc]
       rfl)
    | skip
   all_goals
    have hlt : i < (cr L a).length := by omega
    have hs := hst hlt
    have hs2 : gC (da L n) L (L.getD a default).k (cr L a) 0 = (pre ++ ((if i = 0 then [] else [44]) ++ ((if (L.getD a default).k.toNat = 123 then quote (L.getD ((cr L a).getD i default) default).key ++ [58] else []) ++ da L n ((cr L a).getD i default)))) ++ gC (da L n) L (L.getD a default).k (List.drop (i + 1) (cr L a)) (i + 1) := by
     rw [he, hs]; simp only [List.append_assoc]
    first
     | rw [if_pos (show i = 0 by omega)] at hs hs2
     | rw [if_neg (show ¬ i = 0 by omega)] at hs hs2
    first
     | rw [if_pos (show (L.getD a default).k.toNat = 123 by omega)] at hs hs2
     | rw [if_neg (show ¬ (L.getD a default).k.toNat = 123 by omega)] at hs hs2
    have hsl := congrArg List.length hs
    simp only [List.length_append, List.length_cons, List.length_nil] at hsl
    first
     | (simp only [List.length_append, List.length_cons, List.length_nil, cU]; omega)
     | (refine ⟨kb, h1, (hkm hlt).2, by have := (hkm hlt).1; omega, ?_⟩
        simp only [List.length_append, List.length_cons, List.length_nil, cU]; omega)
     | (refine ⟨[], (i + 1, _), ⟨hlt, hs2⟩, ?_, by show (cr L a).length - (i + 1) < (cr L a).length - i; omega⟩
        refine Go.VG.Sub.mk rfl ?_ ?_ ?_ ?_ <;> (repeat' first | trivial | apply aa | apply ar | apply ak)
        all_goals first
         | (show IntKind.i64.wrap _ = _; (simp (discharger := omega) only [wR]; omega))
         | (simp only [bl, dw, List.append_assoc, List.cons_append, List.nil_append]; done)
         | (simp only [bl, dw, List.append_assoc, List.cons_append, List.nil_append]; rfl))
 . rw [g1 (by omega) (by omega)]
   refine ab.mk [] ?_ <;> (repeat' first | trivial)
theorem zW : ∀ n, aE 23 (qM n)
 | 0 => by
   intro args sg pre x r he hp
   unfold qM at he
   split at he <;> cases he
   obtain ⟨h1, h2, h3, h4, h5⟩ := hp
   exfalso; omega
 | n + 1 => by
   intro args sg pre x r he hp
   unfold qM at he
   split at he <;> cases he
   obtain ⟨h1, h2, h3, h4, h5⟩ := hp
   obtain ⟨L, rfl, eL⟩ := unN h1
   rw [eL] at h2 h3 h4 h5 ⊢
   exact Fk n (zW n) _ L _ _ ⟨h2, h3, h4, h5⟩
def qv (L : List Nd) (a : Nat) : List UInt8 := da L L.length a
-- #name trPutN jtree.put
def wL : Sm := fun args σ => match args, σ with
 | [.buf 0, .list c 4 N, .int .i64 (.ofNat a)], [.buf 1 0 l] => some (kQ N ∧ jN (dD N) ∧ a < (dD N).length ∧ l.length + (qv (dD N) a).length ≤ 100000000, .buf 0, some [.buf 1 0 (l ++ bl (qv (dD N) a))])
 | _, _ => none
theorem GQ : aE 23 wL := by
 intro args sg pre x r he hp
 unfold wL at he
 split at he <;> cases he
 rename_i c N a l
 exact zW (dD N).length _ _ _ _ _ rfl ⟨hp.1, hp.2.1, hp.2.2.1, Nat.sub_le _ _, hp.2.2.2⟩
def jm (L : List Nd) : List UInt8 := if L.length = 0 then [] else qv L 0
theorem Fl (c d : Bool) (b N : List V) (hp : kQ N ∧ jN (dD N) ∧ b.length + (jm (dD N)).length ≤ 100000000) : OK 10 ([.list c 1 b, .list d 4 N]) ([]) (.buf 0) (some [.buf 1 0 (b ++ bl (jm (dD N)))]) := by
 refine aI (C := cx [(23, wL)]) (aG ⟨GQ, trivial⟩) (fn := Tryd.f10) rfl rfl rfl rfl fun hw hs => ?_
 obtain ⟨h1, h2, h3⟩ := hp
 obtain ⟨L, rfl, eL⟩ := unN h1
 rw [eL] at h2 h3 ⊢
 have hml : (L.map bX).length = L.length := List.length_map _
 have hll := h2.2
 have e0 : L.length = 0 → jm L = [] := fun h => by unfold jm; rw [if_pos h]
 have e1 : L.length ≠ 0 → jm L = qv L 0 := fun h => by unfold jm; rw [if_neg h]
 repeat' ((conv => whnf); first | apply ai | (apply aj <;> intro h))
 all_goals try conv => whnf
 all_goals try (refine a8.mk ?_; try dsimp only)
 all_goals (try simp only [ju, dx] at *)
 all_goals first | refine stay ?_ | (simp only [ax]; omega) | (simp (discharger := omega) [-List.getD_eq_getElem?_getD, wR] <;> omega) | skip
 . rw [e0 (by omega)]
   refine ab.mk [] ?_ <;> (repeat' first | trivial | apply aa | apply ak)
   exact (List.append_nil _).symm
 . rw [e1 (by omega)] at h3
   exact ⟨kb, h2, by omega, h3⟩
 . rw [e1 (by omega)]
   refine ab.mk [] ?_ <;> (repeat' first | trivial)
end Go.Proofs.YtllncocibkgjkaaDoor
