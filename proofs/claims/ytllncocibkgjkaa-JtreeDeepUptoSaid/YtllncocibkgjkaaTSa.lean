/-
  A part of the proof.
-/
import Derived.Test.YtllncocibkgjkaaTRv
import Derived.Test.YtllncocibkgjkaaJTu
import Derived.Test.YtllncocibkgjkaaTRx
import Derived.Test.YtllncocibkgjkaaTRz
set_option linter.unusedSimpArgs false
set_option linter.unusedVariables false
set_option maxHeartbeats 4000000
namespace Go.Proofs.Ytllncocibkgjkaa
open Go Go.VG
set_option maxRecDepth 100000
-- #name r13text truchmanref13.text
def qc (n : Nat) : Sm := fun args σ => match args, σ with
 | [.list c 4 N, .int .i64 (.ofNat a)], [] => some (cV N ∧ dK (aP N) ∧ a < (aP N).length ∧ (aP N).length - a ≤ n ∧ (bq (aP N) n a).length ≤ 100000000, .str (bq (aP N) n a), none)
 | _, _ => none
theorem finb {k : UInt8} (h : k.toNat = 123 ∨ k.toNat = 91) : byte (IntKind.u8.wrap ((k.toNat : Int) + 2)) = if k.toNat = 123 then 125 else 93 := by
 rw [Cj h]
 split <;> rfl
theorem Fc (n : Nat) (hv : aD 62 (qc n)) (c : Bool) (L : List Nd) (a : Nat) (hp : dK L ∧ a < L.length ∧ L.length - a ≤ n + 1 ∧ (bq L (n + 1) a).length ≤ 100000000) : OK 62 [.list c 4 (L.map aH), .int .i64 a] [] (.str (bq L (n + 1) a)) none := by
 refine aC (C := cx [(15, wm), (31, sv), (39, sl), (62, qc n)]) (ay ⟨GS, zI, zE, hv, trivial⟩) (fn := Try.f62) rfl rfl rfl rfl fun hw hs => ?_
 obtain ⟨h1, h2, h3, h4⟩ := hp
 have hml : (L.map aH).length = L.length := List.length_map _
 have hna := iq h1 h2
 have hki := rp h2
 have hll := h1.2
 have hk0 := (L.getD a default).k.toNat_lt
 have hkl := uv L a
 have g1 : (L.getD a default).k.toNat ≠ 123 → (L.getD a default).k.toNat ≠ 91 → bq L (n + 1) a = bI ⟨(L.getD a default).k, (L.getD a default).t⟩ := fun q1 q2 => by rw [bq, if_pos ⟨q1, q2⟩]
 have g2 : (L.getD a default).k.toNat = 123 ∨ (L.getD a default).k.toNat = 91 → bq L (n + 1) a = (L.getD a default).k :: (eH (bq L n) L (L.getD a default).k (aM L a) 0 ++ [if (L.getD a default).k.toNat = 123 then 125 else 93]) := fun q => by rw [bq, if_neg (by omega)]
 have hkm : ∀ i, i < (aM L a).length → a < (aM L a).getD i default ∧ (aM L a).getD i default < L.length := fun i hi => by
  rw [List.getD_eq_getElem?_getD, List.getElem?_eq_getElem hi]
  exact zL (List.getElem_mem hi)
 repeat' ((conv => whnf); first | apply al | apply aZ | (apply ao <;> intro h) | with_reducible apply ie | apply nE)
 all_goals try conv => whnf
 all_goals try (refine ae.mk ?_; try dsimp only)
 all_goals (try simp only [bT, bH, hki] at *)
 all_goals first | refine stay ?_ | trivial | omega | skip
 . exact ⟨dH, h1⟩
 . rw [g2 (by omega)] at h4 ⊢
   refine bn.mk (Nat × List UInt8) (PI (bq L n) L (L.getD a default).k (aM L a)) (fun x => ⟨74, [(0, .list c 4 (L.map aH)), (1, .int .i64 a), (5, .ptr 0 0), (6, .str ((L.getD a default).k :: x.2)), (7, .buf 1), (8, .int .i64 x.1)], [.cells (nc (L.getD a default)), .buf 1 0 ((aM L a).map nI)], []⟩) (fun x => (aM L a).length - x.1) [] (0, []) ⟨Nat.zero_le _, rfl⟩ ?_ (fun ⟨i, pre⟩ ⟨hi, he⟩ _ _ => ?_)
   . refine Go.VG.Sub.mk rfl ?_ ?_ ?_ ?_ <;> (repeat' first | trivial)
   dsimp only at hi he
   have hst := fun h => rB (f := bq L n) (L := L) (k0 := (L.getD a default).k) (K := aM L a) (i := i) h
   have hfin := fun h => rA (f := bq L n) (L := L) (k0 := (L.getD a default).k) (K := aM L a) (i := i) h
   have hlen := congrArg List.length he
   rw [List.length_append] at hlen
   rw [List.length_cons, List.length_append, List.length_singleton] at h4
   have hkm := hkm i
   have hnk := fun h : i < (aM L a).length => iq h1 (hkm h).2
   have hmk := km (aM L a)
   repeat' ((conv => whnf); first | apply al | (apply ao <;> intro h) | with_reducible apply ie | apply nE)
   all_goals try conv => whnf
   all_goals try (refine ae.mk ?_; try dsimp only)
   all_goals (try simp only [bT, bH] at *)
   all_goals first | refine stay ?_ | trivial | omega | (simp (discharger := omega) only [wR]; omega) | (simp only [d7]; omega) | skip
   all_goals first
    | (show a8 _ _ _ _ _ _
       rw [hfin (by omega), List.append_nil] at he
       rw [he]
       refine a8.mk [] ?_ <;> (repeat' first | trivial | apply aj | apply gb | apply eF)
       show pre ++ [_] = _
       rw [finb (by omega)]
       done)
    | skip
   all_goals
    have hlt : i < (aM L a).length := by omega
    have hs := hst hlt
    have hs2 : eH (bq L n) L (L.getD a default).k (aM L a) 0 = (pre ++ ((if i = 0 then [] else [44]) ++ ((if (L.getD a default).k.toNat = 123 then quote (L.getD ((aM L a).getD i default) default).key ++ [58] else []) ++ bq L n ((aM L a).getD i default)))) ++ eH (bq L n) L (L.getD a default).k (List.drop (i + 1) (aM L a)) (i + 1) := by
     rw [he, hs]; simp only [List.append_assoc]
    first
     | rw [if_pos (show i = 0 by omega)] at hs hs2
     | rw [if_neg (show ¬ i = 0 by omega)] at hs hs2
    first
     | rw [if_pos (show (L.getD a default).k.toNat = 123 by omega)] at hs hs2
     | rw [if_neg (show ¬ (L.getD a default).k.toNat = 123 by omega)] at hs hs2
    have hsl := congrArg List.length hs
    simp only [List.length_append, List.length_cons, List.length_nil] at hsl
    first
     | (simp only [List.length_append, List.length_cons, List.length_nil]; omega)
     | (refine ⟨dH, h1, (hkm hlt).2, by have := (hkm hlt).1; omega, ?_⟩
        omega)
     | (refine ⟨[], (i + 1, _), ⟨hlt, hs2⟩, ?_, by show (aM L a).length - (i + 1) < (aM L a).length - i; omega⟩
        refine Go.VG.Sub.mk rfl ?_ ?_ ?_ ?_ <;> (repeat' first | trivial | apply aj | apply gb | apply aQ | apply eF)
        all_goals first
         | (show IntKind.i64.wrap _ = _; (simp (discharger := omega) only [wR]; omega))
         | (simp only [List.append_eq, List.append_assoc, List.cons_append, List.nil_append]; done))
 . exact ⟨dH, h1⟩
 . rw [g2 (by omega)] at h4 ⊢
   refine bn.mk (Nat × List UInt8) (PI (bq L n) L (L.getD a default).k (aM L a)) (fun x => ⟨74, [(0, .list c 4 (L.map aH)), (1, .int .i64 a), (5, .ptr 0 0), (6, .str ((L.getD a default).k :: x.2)), (7, .buf 1), (8, .int .i64 x.1)], [.cells (nc (L.getD a default)), .buf 1 0 ((aM L a).map nI)], []⟩) (fun x => (aM L a).length - x.1) [] (0, []) ⟨Nat.zero_le _, rfl⟩ ?_ (fun ⟨i, pre⟩ ⟨hi, he⟩ _ _ => ?_)
   . refine Go.VG.Sub.mk rfl ?_ ?_ ?_ ?_ <;> (repeat' first | trivial)
   dsimp only at hi he
   have hst := fun h => rB (f := bq L n) (L := L) (k0 := (L.getD a default).k) (K := aM L a) (i := i) h
   have hfin := fun h => rA (f := bq L n) (L := L) (k0 := (L.getD a default).k) (K := aM L a) (i := i) h
   have hlen := congrArg List.length he
   rw [List.length_append] at hlen
   rw [List.length_cons, List.length_append, List.length_singleton] at h4
   have hkm := hkm i
   have hnk := fun h : i < (aM L a).length => iq h1 (hkm h).2
   have hmk := km (aM L a)
   repeat' ((conv => whnf); first | apply al | (apply ao <;> intro h) | with_reducible apply ie | apply nE)
   all_goals try conv => whnf
   all_goals try (refine ae.mk ?_; try dsimp only)
   all_goals (try simp only [bT, bH] at *)
   all_goals first | refine stay ?_ | trivial | omega | (simp (discharger := omega) only [wR]; omega) | (simp only [d7]; omega) | skip
   all_goals first
    | (show a8 _ _ _ _ _ _
       rw [hfin (by omega), List.append_nil] at he
       rw [he]
       refine a8.mk [] ?_ <;> (repeat' first | trivial | apply aj | apply gb | apply eF)
       show pre ++ [_] = _
       rw [finb (by omega)]
       done)
    | skip
   all_goals
    have hlt : i < (aM L a).length := by omega
    have hs := hst hlt
    have hs2 : eH (bq L n) L (L.getD a default).k (aM L a) 0 = (pre ++ ((if i = 0 then [] else [44]) ++ ((if (L.getD a default).k.toNat = 123 then quote (L.getD ((aM L a).getD i default) default).key ++ [58] else []) ++ bq L n ((aM L a).getD i default)))) ++ eH (bq L n) L (L.getD a default).k (List.drop (i + 1) (aM L a)) (i + 1) := by
     rw [he, hs]; simp only [List.append_assoc]
    first
     | rw [if_pos (show i = 0 by omega)] at hs hs2
     | rw [if_neg (show ¬ i = 0 by omega)] at hs hs2
    first
     | rw [if_pos (show (L.getD a default).k.toNat = 123 by omega)] at hs hs2
     | rw [if_neg (show ¬ (L.getD a default).k.toNat = 123 by omega)] at hs hs2
    have hsl := congrArg List.length hs
    simp only [List.length_append, List.length_cons, List.length_nil] at hsl
    first
     | (simp only [List.length_append, List.length_cons, List.length_nil]; omega)
     | (refine ⟨dH, h1, (hkm hlt).2, by have := (hkm hlt).1; omega, ?_⟩
        omega)
     | (refine ⟨[], (i + 1, _), ⟨hlt, hs2⟩, ?_, by show (aM L a).length - (i + 1) < (aM L a).length - i; omega⟩
        refine Go.VG.Sub.mk rfl ?_ ?_ ?_ ?_ <;> (repeat' first | trivial | apply aj | apply gb | apply aQ | apply eF)
        all_goals first
         | (show IntKind.i64.wrap _ = _; (simp (discharger := omega) only [wR]; omega))
         | (simp only [List.append_eq, List.append_assoc, List.cons_append, List.nil_append]; done))
 . rw [g1 (by omega) (by omega)]
   refine a8.mk [] ?_ <;> (repeat' first | trivial)
theorem zP : ∀ n, aD 62 (qc n)
 | 0 => by
   intro args sg pre x r he hp
   unfold qc at he
   split at he <;> cases he
   obtain ⟨h1, h2, h3, h4, h5⟩ := hp
   exfalso; omega
 | n + 1 => by
   intro args sg pre x r he hp
   unfold qc at he
   split at he <;> cases he
   obtain ⟨h1, h2, h3, h4, h5⟩ := hp
   obtain ⟨L, rfl, eL⟩ := mR h1
   rw [eL] at h2 h3 h4 h5 ⊢
   exact Fc n (zP n) _ L _ ⟨h2, h3, h4, h5⟩
-- #name r13textN truchmanref13.text
def wy : Sm := fun args σ => match args, σ with
 | [.list c 4 N, .int .i64 (.ofNat a)], [] => some (cV N ∧ dK (aP N) ∧ a < (aP N).length ∧ (lB (aP N) a).length ≤ 100000000, .str (lB (aP N) a), none)
 | _, _ => none
theorem H2 : aD 62 wy := by
 intro args sg pre x r he hp
 unfold wy at he
 split at he <;> cases he
 exact zP _ _ _ _ _ _ rfl ⟨hp.1, hp.2.1, hp.2.2.1, Nat.sub_le _ _, hp.2.2.2⟩
theorem F3 (c : Bool) (N : List V) (hp : cV N ∧ dK (aP N) ∧ (cy (aP N)).length ≤ 100000000) : OK 29 ([.list c 4 N]) ([]) (.str (cy (aP N))) (none) := by
 refine aC (C := cx [(62, wy)]) (ay ⟨H2, trivial⟩) (fn := Try.f29) rfl rfl rfl rfl fun hw hs => ?_
 obtain ⟨h1, h2, h3⟩ := hp
 obtain ⟨L, rfl, eL⟩ := mR h1
 rw [eL] at h2 h3 ⊢
 have hml : (L.map aH).length = L.length := List.length_map _
 have hll := h2.2
 have e0 : L.length = 0 → cy L = [] := fun h => by unfold cy; rw [if_pos h]
 have e1 : L.length ≠ 0 → cy L = lB L 0 := fun h => by unfold cy; rw [if_neg h]
 repeat' ((conv => whnf); first | apply al | (apply ao <;> intro h))
 all_goals try conv => whnf
 all_goals try (refine ae.mk ?_; try dsimp only)
 all_goals (try simp only [bT, bH] at *)
 all_goals try refine stay ?_
 . rw [e0 (by omega)]
   refine a8.mk [] ?_ <;> (repeat' first | trivial)
 . rw [e1 (by omega)] at h3
   exact ⟨dH, h2, by omega, h3⟩
 . rw [e1 (by omega)]
   refine a8.mk [] ?_ <;> (repeat' first | trivial)
def wv : Sm := fun args σ => match args, σ with
 | [.list c 4 N], [] => some (cV N ∧ dK (aP N) ∧ (cy (aP N)).length ≤ 100000000, .str (cy (aP N)), none)
 | _, _ => none
theorem GX : aD 29 wv := by
 intro args sg pre x r he hp
 unfold wv at he
 split at he <;> cases he
 . exact F3 (hp := hp) ..
end Go.Proofs.Ytllncocibkgjkaa
namespace Go.Proofs.Ytllncocibkgjkaa
open Go Go.VG
set_option maxRecDepth 100000
theorem ID {d : Nat} {L : List Nd} {x : List UInt8} (h : TT d L x) : cy L = x := by
 have h1 := h.pos.1
 have := h.put [] [] L.length (by simp)
 rw [List.append_nil, List.nil_append] at this
 unfold cy lB
 rw [if_neg (by omega)]
 exact this
theorem Ki {s : List UInt8} (h : s.length ≤ 300) : dK (c5 s) ∧ (cy (c5 s)).length ≤ 5000000 ∧ (c5 s).length ≤ 301 ∧ (bS s = 0 → bS (cy (c5 s)) = 0 ∧ c5 (cy (c5 s)) = c5 s) := by
 have hl := Kg (s := s) (by omega)
 by_cases h0 : bS s = 0
 . obtain ⟨x, h1, h2, h3⟩ := Kh (s := s) (by omega) h0
   have h4 := h1.len h2
   have h5 := h1.sz
   have hm : (c5 s).length * (12 * (4 * s.length) + 30) ≤ 301 * (12 * (4 * s.length) + 30) := Nat.mul_le_mul_right _ (by omega)
   rw [ID h1]
   refine ⟨⟨fun z hz => ⟨(h5 z hz).1, (h5 z hz).2, by have := (h2 z hz).1; omega, by have := (h2 z hz).2; omega⟩, by omega⟩, by omega, by omega, fun _ => BV h1 h3 (by omega)⟩
 . have e : c5 s = [] := by unfold c5; rw [if_neg h0]
   rw [e]
   exact ⟨⟨fun _ hz => (by cases hz), Nat.zero_le _⟩, Nat.zero_le _, Nat.zero_le _, fun q => absurd q h0⟩
-- #name r13sameL truchmanref13.qu
theorem Fa (c : Bool) (a : List Nd) (hl : a.length ≤ 100000000) : OK 26 [.buf 0, .list c 4 (a.map aH)] [cD a] (.bool true) none := by
 refine aC (C := cx []) (ay trivial) (fn := Try.f26) rfl rfl rfl rfl fun hw hs => ?_
 have hml : (a.map aH).length = a.length := List.length_map _
 repeat' ((conv => whnf); first | apply aZ | (apply ao <;> intro h))
 all_goals try conv => whnf
 all_goals try (refine ae.mk ?_; try dsimp only)
 all_goals (try simp only [bT, bH] at *)
 all_goals try refine stay ?_
 . refine bn.mk Nat (fun i => i ≤ a.length) (fun i => ⟨26, [(0, .buf 0), (1, .list c 4 (a.map aH)), (5, .int .i64 i)], [cD a], []⟩) (fun i => a.length - i) [] 0 (Nat.zero_le _) ?_ (fun i hi _ _ => ?_)
   . refine Go.VG.Sub.mk rfl ?_ ?_ ?_ ?_ <;> (repeat' first | trivial)
   repeat' ((conv => whnf); first | apply al | apply aZ | ((first | apply ao | apply goA) <;> intro h) | with_reducible apply ie)
   all_goals try conv => whnf
   all_goals try (refine ae.mk ?_; try dsimp only)
   all_goals (try simp only [bT, bH] at *)
   all_goals first | refine stay ?_ | omega | skip
   all_goals first
    | (refine ⟨[], i + 1, by omega, ?_, by omega⟩
       refine Go.VG.Sub.mk rfl ?_ ?_ ?_ ?_ <;> (repeat' first | trivial | apply aj | apply aQ)
       all_goals (simp (discharger := omega) only [wR]; omega)
       done)
    | (show a8 _ _ _ _ _ _
       refine a8.mk [] ?_ <;> (repeat' first | trivial | apply aj | apply iD)
       done)
    | (exfalso; simp_all; done)
    | skip
 . exact absurd trivial (by assumption)
def wx : Sm := fun args σ => match args, σ with
 | [.buf 0, .list c 4 l], [.buf 4 0 a] => some (cV a ∧ l = a ∧ a.length ≤ 100000000, .bool true, none)
 | [.buf 0, .buf 1], [.buf 4 0 a, .buf 4 0 b] => some (cV a ∧ cV b ∧ aP a = aP b ∧ a.length ≤ 100000000, .bool true, none)
 | _, _ => none
theorem Ko {l : List V} (h : cV l) : (aP l).length = l.length := by have h := congrArg List.length h; rw [List.length_map] at h; exact h.symm
theorem H0 : aD 26 wx := by
 intro args sg pre x r he hp
 unfold wx at he
 split at he <;> cases he
 . obtain ⟨h1, rfl, h3⟩ := hp
   obtain ⟨L, rfl, eL⟩ := mR h1
   rw [List.length_map] at h3
   exact Fa _ L h3
 . obtain ⟨h1, h2, h3, h4⟩ := hp
   exact GZ _ _ _ _ _ rfl ⟨h2, h1, h3, by rw [Ko h1]; exact h4⟩
-- #name trPutNil jtree.Put
def wF : Sm := fun args σ => match args, σ with
 | [.list true z [], .list d 4 N], [] => some (cV N ∧ dK (aP N) ∧ (cy (aP N)).length ≤ 100000000, .buf 0, some [.buf 1 0 (bl (cy (aP N)))])
 | _, _ => none
theorem H8 : aD 28 wF := by
 intro args sg pre x r he hp
 unfold wF at he
 split at he <;> cases he
 exact (yI true _ [] _ ⟨hp.1, hp.2.1, by simpa using hp.2.2⟩).args (iz.cons (Wk.nil (.inl rfl)) (iz.refl _))
theorem Ew (a : List Nd) (hp : a.length ≤ 100000000) : OK 27 ([.buf 0]) ([cD a]) (.buf 1) (some [cD a, cD a, .dead]) := by
 refine aC (C := cx []) (ay trivial) (fn := Try.f27) rfl rfl rfl rfl fun hw hs => ?_
 have hml : (a.map aH).length = a.length := List.length_map _
 all_goals try conv => whnf
 all_goals try (refine ae.mk ?_; try dsimp only)
 all_goals try refine stay ?_
 refine bn.mk Nat (fun i => i ≤ a.length) (fun i => ⟨19, [(0, .buf 0), (3, .buf 1), (4, .int .i64 i)], [cD a, cD (a.take i)], [1]⟩) (fun i => a.length - i) [.tm 3 4] 0 (Nat.zero_le _) ?_ (fun i hi _ _ => ?_)
 . refine Go.VG.Sub.mk rfl ?_ ?_ ?_ ?_ <;> (repeat' first | trivial)
 have hml2 : ((a.take i).map aH).length = i := by rw [List.length_map, List.length_take]; omega
 have hnx : i < a.length → a.take (i + 1) = a.take i ++ [a.getD i default] := fun h => by
  rw [List.take_add_one, List.getD_eq_getElem?_getD, List.getElem?_eq_getElem h]; rfl
 repeat' ((conv => whnf); first | apply al | (apply ao <;> intro h) | with_reducible apply ie)
 all_goals try conv => whnf
 all_goals try (refine ae.mk ?_; try dsimp only)
 all_goals (try simp only [bT, bH] at *)
 all_goals first | refine stay ?_ | omega | (simp only [d7]; omega) | skip
 all_goals first
  | (refine ⟨[], i + 1, by omega, ?_, by omega⟩
     refine Go.VG.Sub.mk rfl ?_ ?_ ?_ ?_ <;> (repeat' first | trivial | apply aj | apply aQ | apply aV)
     all_goals first
      | (simp (discharger := omega) only [wR]; omega)
      | (rw [hnx (by omega)]; simp; done)
     done)
  | (show a8 _ _ _ _ _ _
     have e : i = a.length := by omega
     subst e
     rw [List.take_length]
     refine a8.mk [.nw] ?_ <;> (repeat' first | trivial)
     done)
  | skip
def vY : Sm := fun args σ => match args, σ with
 | [.buf 0], [.buf 4 0 l_a] => some (cV l_a ∧ ((aP l_a).length ≤ 100000000), .buf 1, some [cD (aP l_a), cD (aP l_a), .dead])
 | _, _ => none
theorem GC : aD 27 vY := by
 intro args sg pre x r he hp
 unfold vY at he
 split at he <;> cases he
 . rw [sI (hp).1]; exact Ew (hp := hp.2) ..
theorem Ez {R : List UInt8 → Int × List Nd} (hR : ∀ s, R s = (bS s, c5 s)) (s : List UInt8) (q : Int) : OK 7 [.str s, .int .i64 q] [] (.bool true) none := by
 refine aC (C := cxh [(23, sw), (24, qf R), (25, wu R), (26, wx), (27, vY), (28, wF), (29, wv), (30, qd), (31, sv)] [(7, [.dk 0, .dk 1])]) (ay ⟨zJ, uk hR, GW hR, H0, GC, H8, GX, uj, zI, trivial⟩) (fn := Try.f7) rfl rfl rfl rfl fun hw hs => ?_
 have hf : s.length ≤ 300 → dK (R s).2 ∧ (cy (R s).2).length ≤ 5000000 ∧ (R s).2.length ≤ 301 ∧ ((R s).1 = 0 → R (cy (R s).2) = (0, (R s).2)) := fun h => by
  have := Ki h
  rw [hR, hR]
  exact ⟨this.1, this.2.1, this.2.2.1, fun h0 => Prod.ext (this.2.2.2 h0).1 (this.2.2.2 h0).2⟩
 have hml : ((R s).2.map aH).length = (R s).2.length := List.length_map _
 have hkl : (er (R s).2 q).length ≤ (R s).2.length := by
  unfold er; split
  . exact uv _ _
  . exact Nat.zero_le _
 have hkm := km (er (R s).2 q)
 repeat' ((conv => whnf); first | apply al | apply aZ | ((first | apply ao | apply nC) <;> intro h) | apply mh)
 all_goals try conv => whnf
 all_goals try (refine ae.mk ?_; try dsimp only)
 all_goals (try simp only [bT] at *)
 all_goals first | refine stay ?_ | omega | skip
 all_goals (try have hf := hf (by omega))
 . refine a8.mk [] ?_ <;> (repeat' first | trivial)
 . exact ⟨dH, by omega⟩
 . exact ⟨dH, dH, trivial, by omega⟩
 . exact ⟨dH, hf.1, by omega⟩
 . exact ⟨dH, hf.1, by omega⟩
 . exact ⟨dH, hf.1⟩
 . exact ⟨dH, hf.1⟩
 . refine bn.mk Nat (fun i => i ≤ (er (R s).2 q).length) (fun i => ⟨91, [(0, .str s), (1, .int .i64 q), (5, .list false 4 ((R s).2.map aH)), (8, .int .i64 (R s).1), (9, .str (cy (R s).2)), (10, .buf 5), (11, .buf 6), (12, .int .i64 i)], [.dead, .dead, .dead, .dead, .dead, .buf 1 0 ((er (R s).2 q).map nI), .buf 1 0 ((er (R s).2 q).map nI)], []⟩) (fun i => (er (R s).2 q).length - i) [] 0 (Nat.zero_le _) ?_ (fun i hi _ _ => ?_)
   . refine Go.VG.Sub.mk rfl ?_ ?_ ?_ ?_ <;> (repeat' first | trivial)
   repeat' ((conv => whnf); first | apply al | apply aZ | (apply ao <;> intro h) | with_reducible apply ie)
   all_goals try conv => whnf
   all_goals try (refine ae.mk ?_; try dsimp only)
   all_goals (try simp only [bT] at *)
   all_goals first | refine stay ?_ | omega | skip
   all_goals (try have hb : R (cy (R s).2) = (0, (R s).2) := hf.2.2.2 (by assumption))
   . refine ⟨[], i + 1, by omega, ?_, by omega⟩
     refine Go.VG.Sub.mk rfl ?_ ?_ ?_ ?_ <;> (repeat' first | trivial | apply aj | apply aQ)
     all_goals (simp (discharger := omega) only [wR]; omega)
   . exact absurd trivial (by assumption)
   . rw [hb]; exact ⟨dH, by show (R s).2.length ≤ _; omega⟩
   . rw [hb]; exact ⟨dH, rfl, by show ((R s).2.map aH).length ≤ _; omega⟩
   . refine a8.mk [] ?_ <;> (repeat' first | trivial)
   . exact absurd (show (R (cy (R s).2)).1 = 0 by rw [hb]) (by assumption)
   . refine a8.mk [] ?_ <;> (repeat' first | trivial)
 . exact absurd trivial (by assumption)
 . exact absurd rfl (by assumption)
 . exact absurd trivial (by assumption)
theorem Ey (s : List UInt8) (q : Int) : OK 7 [.str s, .int .i64 q] [] (.bool true) none := Ez (R := fun s => (bS s, c5 s)) (fun _ => rfl) s q
theorem EA {R : List UInt8 → Int × List Nd} (hR : ∀ s, R s = (bS s, c5 s)) (n : UInt8) (x : List UInt8) (hx : x.length ≤ 2000000) : OK 8 [bv n, .str x] [] (.bool true) none := by
 refine aC (C := cx [(23, sw), (24, qf R)]) (ay ⟨zJ, uk hR, trivial⟩) (fn := Try.f8) rfl rfl rfl rfl fun hw hs => ?_
 have hn := n.toNat_lt
 have hk : ((n.toNat : Int)).tmod 60 = ((n.toNat % 60 : Nat) : Int) := by rw [Int.tmod_eq_emod_of_nonneg (by omega)]; omega
 have hk2 : n.toNat % 60 < 60 := Nat.mod_lt _ (by decide)
 repeat' ((conv => whnf); apply al)
 all_goals try conv => whnf
 all_goals try (refine ae.mk ?_; try dsimp only)
 all_goals (try simp only [hk] at *)
 all_goals first | refine stay ?_ | trivial | skip
 generalize n.toNat % 60 = k at *
 refine bn.mk Nat (fun i => i ≤ k) (fun i => ⟨68, [(1, .str x), (5, .int .i64 k), (6, .str (List.replicate i 91)), (7, .str (List.replicate i 93)), (8, .int .i64 i)], [], []⟩) (fun i => k - i) [] 0 (Nat.zero_le _) ?_ (fun i hi _ _ => ?_)
 . refine Go.VG.Sub.mk rfl ?_ ?_ ?_ ?_ <;> (repeat' first | trivial | apply aj | apply aQ)
   all_goals (simp (discharger := omega) only [wR]; omega)
 have h1 : i = k → k ≤ 32 → R (List.replicate i 91 ++ [49] ++ List.replicate i 93) = (0, (R (List.replicate i 91 ++ [49] ++ List.replicate i 93)).2) ∧ (R (List.replicate i 91 ++ [49] ++ List.replicate i 93)).2.length = k + 1 := fun e h => by
  subst e
  rw [hR]
  have e : List.replicate i (91 : UInt8) ++ [49] ++ List.replicate i 93 = List.replicate i 91 ++ (49 :: List.replicate i 93) := by rw [List.append_assoc]; rfl
  rw [e]
  obtain ⟨a, b⟩ := CS h
  exact ⟨Prod.ext a rfl, b⟩
 have h2 : i = k → 32 < k → ∀ r : List UInt8, r.length ≤ 2000000 → R (List.replicate i 91 ++ r) = (33, []) := fun e h r hr => by
  subst e
  rw [hR]
  obtain ⟨a, b⟩ := CR (k := i) (r := r) h (by rw [List.length_append, List.length_replicate]; omega)
  exact Prod.ext a b
 have hr1 : (List.replicate i (91 : UInt8)).length = i := List.length_replicate
 have hr2 : (List.replicate i (93 : UInt8)).length = i := List.length_replicate
 have h3 : i = k → 32 < k → R (List.replicate i 91 ++ [49] ++ List.replicate i 93) = (33, []) := fun e h => by
  rw [List.append_assoc]
  exact h2 e h _ (by rw [List.length_append, hr2]; show 1 + i ≤ _; omega)
 have hm : ∀ L : List Nd, (L.map aH).length = L.length := fun L => List.length_map _
 repeat' ((conv => whnf); first | apply al | (apply ao <;> intro h))
 all_goals try conv => whnf
 all_goals try (refine ae.mk ?_; try dsimp only)
 all_goals (try simp only [bT, bH] at *)
 all_goals first | refine stay ?_ | omega | (simp only [d7]; omega) | skip
 . refine ⟨[], i + 1, by omega, ?_, by omega⟩
   refine Go.VG.Sub.mk rfl ?_ ?_ ?_ ?_ <;> (repeat' first | trivial | apply aj | apply gb | apply aQ)
   all_goals first
    | (simp (discharger := omega) only [wR]; omega)
    | exact (Bg _ _).symm
 . refine a8.mk [] ?_ <;> (repeat' first | trivial)
 . exact absurd (show (R (List.replicate i 91 ++ x)).1 = 33 by rw [h2 (by omega) (by omega) x hx]) (by assumption)
 . exact absurd (show (((R (List.replicate i 91 ++ [49] ++ List.replicate i 93)).2.map aH).length : Int) = 0 by rw [h3 (by omega) (by omega)]; rfl) (by assumption)
 . exact absurd (show (R (List.replicate i 91 ++ [49] ++ List.replicate i 93)).1 = 33 by rw [h3 (by omega) (by omega)]) (by assumption)
 . refine a8.mk [] ?_ <;> (repeat' first | trivial)
 . exact absurd (show (((R (List.replicate i 91 ++ [49] ++ List.replicate i 93)).2.map aH).length : Int) = IntKind.i64.wrap ((k : Int) + 1) by rw [hm, (h1 (by omega) (by omega)).2]; (simp (discharger := omega) only [wR]; omega)) (by assumption)
 . exact absurd (show (R (List.replicate i 91 ++ [49] ++ List.replicate i 93)).1 = 0 by rw [(h1 (by omega) (by omega)).1]) (by assumption)
theorem yH (n : UInt8) (x : List UInt8) (hx : x.length ≤ 2000000) : OK 8 [bv n, .str x] [] (.bool true) none := EA (R := fun s => (bS s, c5 s)) (fun _ => rfl) n x hx
end Go.Proofs.Ytllncocibkgjkaa
