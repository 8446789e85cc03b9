/-
  A part of the proof.
-/
import Derived.Test.YtllncocibkgjkaaGreatTRp
import Derived.Test.YtllncocibkgjkaaGreatJTu
import Derived.Test.YtllncocibkgjkaaGreatKL
import Derived.Test.YtllncocibkgjkaaGreatTRy
import Derived.Test.YtllncocibkgjkaaGreatJWp
import Derived.Test.YtllncocibkgjkaaGreatB
import Derived.Test.YtllncocibkgjkaaGreatVgZC
import Derived.TacticsInMore
import Derived.Test.YtllncocibkgjkaaGreatTRs
import Derived.Test.YtllncocibkgjkaaGreatTRa
import Derived.Test.YtllncocibkgjkaaGreatTRf
import Derived.Test.YtllncocibkgjkaaGreatTRb
set_option linter.unusedSimpArgs false
set_option linter.unusedVariables false
set_option maxHeartbeats 4000000
namespace Go.Proofs.YtllncocibkgjkaaGreat
open Go Go.VG
set_option maxRecDepth 100000
theorem AD {f : Nat → List UInt8} {L : List Nd} {k0 : UInt8} {K : List Nat} {i : Nat} (h : i < K.length) :
   fZ f L k0 (K.drop i) i = (if i = 0 then [] else [44]) ++ ((if k0.toNat = 123 then quote (L.getD (K.getD i default) default).key ++ [58] else []) ++ (f (K.getD i default) ++ fZ f L k0 (K.drop (i + 1)) (i + 1))) := by
 rw [List.drop_eq_getElem_cons h, List.getD_eq_getElem?_getD (l := K), List.getElem?_eq_getElem h]
 rfl
theorem AB {f : Nat → List UInt8} {L : List Nd} {k0 : UInt8} {K : List Nat} {i : Nat} (h : K.length ≤ i) : fZ f L k0 (K.drop i) i = [] := by
 rw [List.drop_of_length_le h]; rfl
theorem LV {k : UInt8} (h : k.toNat = 123 ∨ k.toNat = 91) : IntKind.u8.wrap ((k.toNat : Int) + 2) = if k.toNat = 123 then 125 else 93 := by
 rw [ko]; split <;> omega
structure PI (f : Nat → List UInt8) (L : List Nd) (k0 : UInt8) (K : List Nat) (x : Nat × List UInt8) : Prop where
 i : x.1 ≤ K.length
 e : fZ f L k0 K 0 = x.2 ++ fZ f L k0 (K.drop x.1) x.1
def qm (L : List Nd) (a : Nat) : List UInt8 := cP L L.length a
-- #name trPutN jtree.put
def ga (L : List Nd) : List UInt8 := if L.length = 0 then [] else qm L 0
end Go.Proofs.YtllncocibkgjkaaGreat
namespace Go.Proofs.YtllncocibkgjkaaGreat
open Go Go.VG
set_option maxRecDepth 100000
-- #name r13text truchmanref13.text
def qz (n : Nat) : Sm := fun args σ => match args, σ with
 | [.list c 4 N, .int .i64 (.ofNat a)], [] => some (gG N ∧ gm (bH N) ∧ a < (bH N).length ∧ (bH N).length - a ≤ n ∧ (cP (bH N) n a).length ≤ 100000000, .str (cP (bH N) n a), none)
 | _, _ => none
theorem finb {k : UInt8} (h : k.toNat = 123 ∨ k.toNat = 91) : byte (IntKind.u8.wrap ((k.toNat : Int) + 2)) = if k.toNat = 123 then 125 else 93 := by
 rw [LV h]
 split <;> rfl
theorem Gj (n : Nat) (hv : ay 44 (qz n)) (c : Bool) (L : List Nd) (a : Nat) (hp : gm L ∧ a < L.length ∧ L.length - a ≤ n + 1 ∧ (cP L (n + 1) a).length ≤ 100000000) : OK 44 [.list c 4 (L.map aQ), .int .i64 a] [] (.str (cP L (n + 1) a)) none := by
 refine aq (C := cx [(74, xa), (27, tf), (75, sZ), (44, qz n)]) (ar ⟨I2, Am, Ai, hv, trivial⟩) (fn := Tryz.f44) rfl rfl rfl rfl fun hw hs => ?_
 obtain ⟨h1, h2, h3, h4⟩ := hp
 have hml : (L.map aQ).length = L.length := List.length_map _
 have hna := iI h1 h2
 have hki := rL h2
 have hll := h1.2
 have hk0 := (L.getD a default).k.toNat_lt
 have hkl := An L a
 have g1 : (L.getD a default).k.toNat ≠ 123 → (L.getD a default).k.toNat ≠ 91 → cP L (n + 1) a = cq ⟨(L.getD a default).k, (L.getD a default).t⟩ := fun q1 q2 => by rw [cP, if_pos ⟨q1, q2⟩]
 have g2 : (L.getD a default).k.toNat = 123 ∨ (L.getD a default).k.toNat = 91 → cP L (n + 1) a = (L.getD a default).k :: (fZ (cP L n) L (L.getD a default).k (aJ L a) 0 ++ [if (L.getD a default).k.toNat = 123 then 125 else 93]) := fun q => by rw [cP, if_neg (by omega)]
 have hkm : ∀ i, i < (aJ L a).length → a < (aJ L a).getD i default ∧ (aJ L a).getD i default < L.length := fun i hi => by
  rw [List.getD_eq_getElem?_getD, List.getElem?_eq_getElem hi]
  exact pP (List.getElem_mem hi)
 repeat' ((conv => whnf); first | apply ak | apply aV | (apply al <;> intro h) | with_reducible apply jw | apply nT)
 all_goals try conv => whnf
 all_goals try (refine ab.mk ?_; try dsimp only)
 all_goals (try simp only [du, c5, hki] at *)
 all_goals first | refine stay ?_ | trivial | omega | skip
 . exact ⟨iJ, h1⟩
 . rw [g2 (by omega)] at h4 ⊢
   refine bn.mk (Nat × List UInt8) (PI (cP L n) L (L.getD a default).k (aJ L a)) (fun x => ⟨74, [(0, .list c 4 (L.map aQ)), (1, .int .i64 a), (5, .ptr 0 0), (6, .str ((L.getD a default).k :: x.2)), (7, .buf 1), (8, .int .i64 x.1)], [.cells (nx (L.getD a default)), .buf 1 0 ((aJ L a).map nI)], []⟩) (fun x => (aJ L a).length - x.1) [] (0, []) ⟨Nat.zero_le _, rfl⟩ ?_ (fun ⟨i, pre⟩ ⟨hi, he⟩ _ _ => ?_)
   . refine Go.VG.Sub.mk rfl ?_ ?_ ?_ ?_ <;> (repeat' first | trivial)
   dsimp only at hi he
   have hst := fun h => AD (f := cP L n) (L := L) (k0 := (L.getD a default).k) (K := aJ L a) (i := i) h
   have hfin := fun h => AB (f := cP L n) (L := L) (k0 := (L.getD a default).k) (K := aJ L a) (i := i) h
   have hlen := congrArg List.length he
   rw [List.length_append] at hlen
   rw [List.length_cons, List.length_append, List.length_singleton] at h4
   have hkm := hkm i
   have hnk := fun h : i < (aJ L a).length => iI h1 (hkm h).2
   have hmk := om (aJ L a)
   repeat' ((conv => whnf); first | apply ak | (apply al <;> intro h) | with_reducible apply jw | apply nT)
   all_goals try conv => whnf
   all_goals try (refine ab.mk ?_; try dsimp only)
   all_goals (try simp only [du, c5] at *)
   all_goals first | refine stay ?_ | trivial | omega | (simp (discharger := omega) only [wR]; omega) | (simp only [cK]; omega) | skip
   all_goals first
    | (show a8 _ _ _ _ _ _
       rw [hfin (by omega), List.append_nil] at he
       rw [he]
       refine a8.mk [] ?_ <;> (repeat' first | trivial | apply aj | apply hH | apply dm)
       show pre ++ [_] = _
       rw [finb (by omega)]
       done)
    | skip
   all_goals
    have hlt : i < (aJ L a).length := by omega
    have hs := hst hlt
    have hs2 : fZ (cP L n) L (L.getD a default).k (aJ L a) 0 = (pre ++ ((if i = 0 then [] else [44]) ++ ((if (L.getD a default).k.toNat = 123 then quote (L.getD ((aJ L a).getD i default) default).key ++ [58] else []) ++ cP L n ((aJ L a).getD i default)))) ++ fZ (cP L n) L (L.getD a default).k (List.drop (i + 1) (aJ L a)) (i + 1) := by
     rw [he, hs]; simp only [List.append_assoc]
    first
     | rw [if_pos (show i = 0 by omega)] at hs hs2
     | rw [if_neg (show ¬ i = 0 by omega)] at hs hs2
    first
     | rw [if_pos (show (L.getD a default).k.toNat = 123 by omega)] at hs hs2
     | rw [if_neg (show ¬ (L.getD a default).k.toNat = 123 by omega)] at hs hs2
    have hsl := congrArg List.length hs
    simp only [List.length_append, List.length_cons, List.length_nil] at hsl
    first
     | (simp only [List.length_append, List.length_cons, List.length_nil]; omega)
     | (refine ⟨iJ, h1, (hkm hlt).2, by have := (hkm hlt).1; omega, ?_⟩
        omega)
     | (refine ⟨[], (i + 1, _), ⟨hlt, hs2⟩, ?_, by show (aJ L a).length - (i + 1) < (aJ L a).length - i; omega⟩
        refine Go.VG.Sub.mk rfl ?_ ?_ ?_ ?_ <;> (repeat' first | trivial | apply aj | apply hH | apply aR | apply dm)
        all_goals first
         | (show IntKind.i64.wrap _ = _; (simp (discharger := omega) only [wR]; omega))
         | (simp only [List.append_eq, List.append_assoc, List.cons_append, List.nil_append]; done))
 . exact ⟨iJ, h1⟩
 . rw [g2 (by omega)] at h4 ⊢
   refine bn.mk (Nat × List UInt8) (PI (cP L n) L (L.getD a default).k (aJ L a)) (fun x => ⟨74, [(0, .list c 4 (L.map aQ)), (1, .int .i64 a), (5, .ptr 0 0), (6, .str ((L.getD a default).k :: x.2)), (7, .buf 1), (8, .int .i64 x.1)], [.cells (nx (L.getD a default)), .buf 1 0 ((aJ L a).map nI)], []⟩) (fun x => (aJ L a).length - x.1) [] (0, []) ⟨Nat.zero_le _, rfl⟩ ?_ (fun ⟨i, pre⟩ ⟨hi, he⟩ _ _ => ?_)
   . refine Go.VG.Sub.mk rfl ?_ ?_ ?_ ?_ <;> (repeat' first | trivial)
   dsimp only at hi he
   have hst := fun h => AD (f := cP L n) (L := L) (k0 := (L.getD a default).k) (K := aJ L a) (i := i) h
   have hfin := fun h => AB (f := cP L n) (L := L) (k0 := (L.getD a default).k) (K := aJ L a) (i := i) h
   have hlen := congrArg List.length he
   rw [List.length_append] at hlen
   rw [List.length_cons, List.length_append, List.length_singleton] at h4
   have hkm := hkm i
   have hnk := fun h : i < (aJ L a).length => iI h1 (hkm h).2
   have hmk := om (aJ L a)
   repeat' ((conv => whnf); first | apply ak | (apply al <;> intro h) | with_reducible apply jw | apply nT)
   all_goals try conv => whnf
   all_goals try (refine ab.mk ?_; try dsimp only)
   all_goals (try simp only [du, c5] at *)
   all_goals first | refine stay ?_ | trivial | omega | (simp (discharger := omega) only [wR]; omega) | (simp only [cK]; omega) | skip
   all_goals first
    | (show a8 _ _ _ _ _ _
       rw [hfin (by omega), List.append_nil] at he
       rw [he]
       refine a8.mk [] ?_ <;> (repeat' first | trivial | apply aj | apply hH | apply dm)
       show pre ++ [_] = _
       rw [finb (by omega)]
       done)
    | skip
   all_goals
    have hlt : i < (aJ L a).length := by omega
    have hs := hst hlt
    have hs2 : fZ (cP L n) L (L.getD a default).k (aJ L a) 0 = (pre ++ ((if i = 0 then [] else [44]) ++ ((if (L.getD a default).k.toNat = 123 then quote (L.getD ((aJ L a).getD i default) default).key ++ [58] else []) ++ cP L n ((aJ L a).getD i default)))) ++ fZ (cP L n) L (L.getD a default).k (List.drop (i + 1) (aJ L a)) (i + 1) := by
     rw [he, hs]; simp only [List.append_assoc]
    first
     | rw [if_pos (show i = 0 by omega)] at hs hs2
     | rw [if_neg (show ¬ i = 0 by omega)] at hs hs2
    first
     | rw [if_pos (show (L.getD a default).k.toNat = 123 by omega)] at hs hs2
     | rw [if_neg (show ¬ (L.getD a default).k.toNat = 123 by omega)] at hs hs2
    have hsl := congrArg List.length hs
    simp only [List.length_append, List.length_cons, List.length_nil] at hsl
    first
     | (simp only [List.length_append, List.length_cons, List.length_nil]; omega)
     | (refine ⟨iJ, h1, (hkm hlt).2, by have := (hkm hlt).1; omega, ?_⟩
        omega)
     | (refine ⟨[], (i + 1, _), ⟨hlt, hs2⟩, ?_, by show (aJ L a).length - (i + 1) < (aJ L a).length - i; omega⟩
        refine Go.VG.Sub.mk rfl ?_ ?_ ?_ ?_ <;> (repeat' first | trivial | apply aj | apply hH | apply aR | apply dm)
        all_goals first
         | (show IntKind.i64.wrap _ = _; (simp (discharger := omega) only [wR]; omega))
         | (simp only [List.append_eq, List.append_assoc, List.cons_append, List.nil_append]; done))
 . rw [g1 (by omega) (by omega)]
   refine a8.mk [] ?_ <;> (repeat' first | trivial)
theorem Aw : ∀ n, ay 44 (qz n)
 | 0 => by
   intro args sg pre x r he hp
   unfold qz at he
   split at he <;> cases he
   obtain ⟨h1, h2, h3, h4, h5⟩ := hp
   exfalso; omega
 | n + 1 => by
   intro args sg pre x r he hp
   unfold qz at he
   split at he <;> cases he
   obtain ⟨h1, h2, h3, h4, h5⟩ := hp
   obtain ⟨L, rfl, eL⟩ := unN h1
   rw [eL] at h2 h3 h4 h5 ⊢
   exact Gj n (Aw n) _ L _ ⟨h2, h3, h4, h5⟩
-- #name r13textN truchmanref13.text
def xf : Sm := fun args σ => match args, σ with
 | [.list c 4 N, .int .i64 (.ofNat a)], [] => some (gG N ∧ gm (bH N) ∧ a < (bH N).length ∧ (qm (bH N) a).length ≤ 100000000, .str (qm (bH N) a), none)
 | _, _ => none
theorem I8 : ay 44 xf := by
 intro args sg pre x r he hp
 unfold xf at he
 split at he <;> cases he
 exact Aw _ _ _ _ _ _ rfl ⟨hp.1, hp.2.1, hp.2.2.1, Nat.sub_le _ _, hp.2.2.2⟩
theorem Ga (c : Bool) (N : List V) (hp : gG N ∧ gm (bH N) ∧ (ga (bH N)).length ≤ 100000000) : OK 14 ([.list c 4 N]) ([]) (.str (ga (bH N))) (none) := by
 refine aq (C := cx [(44, xf)]) (ar ⟨I8, trivial⟩) (fn := Tryz.f14) rfl rfl rfl rfl fun hw hs => ?_
 obtain ⟨h1, h2, h3⟩ := hp
 obtain ⟨L, rfl, eL⟩ := unN h1
 rw [eL] at h2 h3 ⊢
 have hml : (L.map aQ).length = L.length := List.length_map _
 have hll := h2.2
 have e0 : L.length = 0 → ga L = [] := fun h => by unfold ga; rw [if_pos h]
 have e1 : L.length ≠ 0 → ga L = qm L 0 := fun h => by unfold ga; rw [if_neg h]
 repeat' ((conv => whnf); first | apply ak | (apply al <;> intro h))
 all_goals try conv => whnf
 all_goals try (refine ab.mk ?_; try dsimp only)
 all_goals (try simp only [du, c5] at *)
 all_goals try refine stay ?_
 . rw [e0 (by omega)]
   refine a8.mk [] ?_ <;> (repeat' first | trivial)
 . rw [e1 (by omega)] at h3
   exact ⟨iJ, h2, by omega, h3⟩
 . rw [e1 (by omega)]
   refine a8.mk [] ?_ <;> (repeat' first | trivial)
def xe : Sm := fun args σ => match args, σ with
 | [.list c 4 N], [] => some (gG N ∧ gm (bH N) ∧ (ga (bH N)).length ≤ 100000000, .str (ga (bH N)), none)
 | _, _ => none
theorem I6 : ay 14 xe := by
 intro args sg pre x r he hp
 unfold xe at he
 split at he <;> cases he
 . exact Ga (hp := hp) ..
end Go.Proofs.YtllncocibkgjkaaGreat
namespace Go.Proofs.YtllncocibkgjkaaGreat
open Go Go.VG
set_option maxRecDepth 100000
structure OI (f : Nat → List cD) (L : List Nd) (k0 : UInt8) (K : List Nat) (x : Nat × List cD) : Prop where
 i : x.1 ≤ K.length
 e : fM f L k0 K = x.2 ++ fM f L k0 (K.drop x.1)
theorem Au {f : Nat → List cD} {L : List Nd} {k0 : UInt8} {K : List Nat} {i : Nat} (h : i < K.length) :
   fM f L k0 (K.drop i) = (if k0.toNat = 123 then [⟨107, (L.getD (K.getD i default) default).key, 0⟩] else []) ++ (f (K.getD i default) ++ fM f L k0 (K.drop (i + 1))) := by
 rw [List.drop_eq_getElem_cons h, List.getD_eq_getElem?_getD (l := K), List.getElem?_eq_getElem h]
 rfl
theorem Ar {f : Nat → List cD} {L : List Nd} {k0 : UInt8} {K : List Nat} {i : Nat} (h : K.length ≤ i) : fM f L k0 (K.drop i) = [] := by
 rw [List.drop_of_length_le h]; rfl
abbrev eOb (l : List cD) : O := .buf 3 0 (l.map eo)
-- #name lawOps truchmanlaw15.ops
def qy (n : Nat) : Sm := fun args σ => match args, σ with
 | [.list c 4 N, .int .i64 (.ofNat a)], [] => some (gG N ∧ gm (bH N) ∧ a < (bH N).length ∧ (bH N).length - a ≤ n ∧ (cn (bH N) n a).length ≤ 100000000, .buf 0, some [eOb (cn (bH N) n a)])
 | _, _ => none
theorem FH (n : Nat) (hv : ay 10 (qy n)) (c : Bool) (L : List Nd) (a : Nat) (hp : gm L ∧ a < L.length ∧ L.length - a ≤ n + 1 ∧ (cn L (n + 1) a).length ≤ 100000000) : OK 10 [.list c 4 (L.map aQ), .int .i64 a] [] (.buf 0) (some [eOb (cn L (n + 1) a)]) := by
 refine aq (C := cxl [(27, tf), (10, qy n)] [26, 30]) (rC ⟨Am, hv, trivial⟩) (fn := Tryz.f10) rfl rfl rfl rfl fun hw hs => ?_
 obtain ⟨h1, h2, h3, h4⟩ := hp
 have hml : (L.map aQ).length = L.length := List.length_map _
 have hna := iI h1 h2
 have hki := rL h2
 have hll := h1.2
 have hkl := An L a
 have g1 : (L.getD a default).k.toNat ≠ 123 → (L.getD a default).k.toNat ≠ 91 → cn L (n + 1) a = [⟨(L.getD a default).k.toNat, (L.getD a default).t, 0⟩] := fun q1 q2 => by rw [cn, if_pos ⟨q1, q2⟩]
 have g2 : (L.getD a default).k.toNat = 123 ∨ (L.getD a default).k.toNat = 91 → cn L (n + 1) a = ⟨(L.getD a default).k.toNat, [], 0⟩ :: (fM (cn L n) L (L.getD a default).k (aJ L a) ++ [⟨101, [], 0⟩]) := fun q => by rw [cn, if_neg (by omega)]
 have hkm : ∀ i, i < (aJ L a).length → a < (aJ L a).getD i default ∧ (aJ L a).getD i default < L.length := fun i hi => by
  rw [List.getD_eq_getElem?_getD, List.getElem?_eq_getElem hi]
  exact pP (List.getElem_mem hi)
 repeat' ((conv => whnf); first | apply ak | apply aV | (apply al <;> intro h) | with_reducible apply jw)
 all_goals try conv => whnf
 all_goals try (refine ab.mk ?_; try dsimp only)
 all_goals (try simp only [du, c5, hki] at *)
 all_goals first | refine stay ?_ | trivial | omega | skip
 . exact ⟨iJ, h1⟩
 . rw [g2 (by omega)] at h4 ⊢
   refine bn.mk (Nat × List cD) (OI (cn L n) L (L.getD a default).k (aJ L a)) (fun x => ⟨67, [(0, .list c 4 (L.map aQ)), (5, .ptr 0 0), (6, .buf 1), (7, .buf 2), (8, .int .i64 x.1)], [.cells (nx (L.getD a default)), .buf 3 0 ((⟨(L.getD a default).k.toNat, [], 0⟩ :: x.2 : List cD).map eo), .buf 1 0 ((aJ L a).map nI)], [1]⟩) (fun x => (aJ L a).length - x.1) [] (0, []) ⟨Nat.zero_le _, rfl⟩ ?_ (fun ⟨i, pre⟩ ⟨hi, he⟩ _ _ => ?_)
   . refine Go.VG.Sub.mk rfl ?_ ?_ ?_ ?_ <;> (repeat' first | trivial)
   dsimp only at hi he
   have hst := fun h => Au (f := cn L n) (L := L) (k0 := (L.getD a default).k) (K := aJ L a) (i := i) h
   have hfin := fun h => Ar (f := cn L n) (L := L) (k0 := (L.getD a default).k) (K := aJ L a) (i := i) h
   have hlen := congrArg List.length he
   rw [List.length_append] at hlen
   rw [List.length_cons, List.length_append, List.length_singleton] at h4
   have hkm := hkm i
   have hnk := fun h : i < (aJ L a).length => iI h1 (hkm h).2
   have hmk := om (aJ L a)
   have hpl : (pre.map eo).length = pre.length := List.length_map _
   repeat' ((conv => whnf); first | apply ak | (apply al <;> intro h) | with_reducible apply jw)
   all_goals try conv => whnf
   all_goals try (refine ab.mk ?_; try dsimp only)
   all_goals (try simp only [du, c5] at *)
   all_goals first | refine stay ?_ | trivial | omega | (simp (discharger := omega) [-List.getD_eq_getElem?_getD, wR] <;> omega) | skip
   all_goals first
    | (show a8 _ _ _ _ _ _
       rw [hfin (by omega), List.append_nil] at he
       rw [he]
       refine a8.mk [.swap 0 1] ?_ <;> (repeat' first | trivial | apply aj | apply aM | apply dm)
       all_goals (simp only [List.map_cons, List.map_append, List.cons_append]; rfl))
    | skip
   all_goals
    have hlt : i < (aJ L a).length := by omega
    have hs := hst hlt
    have hs2 : fM (cn L n) L (L.getD a default).k (aJ L a) = (pre ++ ((if (L.getD a default).k.toNat = 123 then [⟨107, (L.getD ((aJ L a).getD i default) default).key, 0⟩] else []) ++ cn L n ((aJ L a).getD i default))) ++ fM (cn L n) L (L.getD a default).k (List.drop (i + 1) (aJ L a)) := by
     rw [he, hs]; simp only [List.append_assoc]
    first
     | rw [if_pos (show (L.getD a default).k.toNat = 123 by omega)] at hs hs2
     | rw [if_neg (show ¬ (L.getD a default).k.toNat = 123 by omega)] at hs hs2
    have hsl := congrArg List.length hs
    simp only [List.length_append, List.length_cons, List.length_nil] at hsl
    first
     | (simp only [List.length_append, List.length_cons, List.length_nil, List.length_map]; omega)
     | (refine ⟨iJ, h1, (hkm hlt).2, by have := (hkm hlt).1; omega, by omega⟩)
     | (refine ⟨[], (i + 1, _), ⟨hlt, hs2⟩, ?_, by show (aJ L a).length - (i + 1) < (aJ L a).length - i; omega⟩
        refine Go.VG.Sub.mk rfl ?_ ?_ ?_ ?_ <;> (repeat' first | trivial | apply aj | apply aR | apply aM | apply dm)
        all_goals first
         | (show IntKind.i64.wrap _ = _; (simp (discharger := omega) only [wR]; omega))
         | (simp only [List.append_eq, List.map_cons, List.map_append, List.append_assoc, List.cons_append, List.nil_append, List.map_nil]; done)
         | (simp only [List.append_eq, List.map_cons, List.map_append, List.append_assoc, List.cons_append, List.nil_append, List.map_nil]; rfl))
 . exact ⟨iJ, h1⟩
 . rw [g2 (by omega)] at h4 ⊢
   refine bn.mk (Nat × List cD) (OI (cn L n) L (L.getD a default).k (aJ L a)) (fun x => ⟨67, [(0, .list c 4 (L.map aQ)), (5, .ptr 0 0), (6, .buf 1), (7, .buf 2), (8, .int .i64 x.1)], [.cells (nx (L.getD a default)), .buf 3 0 ((⟨(L.getD a default).k.toNat, [], 0⟩ :: x.2 : List cD).map eo), .buf 1 0 ((aJ L a).map nI)], [1]⟩) (fun x => (aJ L a).length - x.1) [] (0, []) ⟨Nat.zero_le _, rfl⟩ ?_ (fun ⟨i, pre⟩ ⟨hi, he⟩ _ _ => ?_)
   . refine Go.VG.Sub.mk rfl ?_ ?_ ?_ ?_ <;> (repeat' first | trivial)
   dsimp only at hi he
   have hst := fun h => Au (f := cn L n) (L := L) (k0 := (L.getD a default).k) (K := aJ L a) (i := i) h
   have hfin := fun h => Ar (f := cn L n) (L := L) (k0 := (L.getD a default).k) (K := aJ L a) (i := i) h
   have hlen := congrArg List.length he
   rw [List.length_append] at hlen
   rw [List.length_cons, List.length_append, List.length_singleton] at h4
   have hkm := hkm i
   have hnk := fun h : i < (aJ L a).length => iI h1 (hkm h).2
   have hmk := om (aJ L a)
   have hpl : (pre.map eo).length = pre.length := List.length_map _
   repeat' ((conv => whnf); first | apply ak | (apply al <;> intro h) | with_reducible apply jw)
   all_goals try conv => whnf
   all_goals try (refine ab.mk ?_; try dsimp only)
   all_goals (try simp only [du, c5] at *)
   all_goals first | refine stay ?_ | trivial | omega | (simp (discharger := omega) [-List.getD_eq_getElem?_getD, wR] <;> omega) | skip
   all_goals first
    | (show a8 _ _ _ _ _ _
       rw [hfin (by omega), List.append_nil] at he
       rw [he]
       refine a8.mk [.swap 0 1] ?_ <;> (repeat' first | trivial | apply aj | apply aM | apply dm)
       all_goals (simp only [List.map_cons, List.map_append, List.cons_append]; rfl))
    | skip
   all_goals
    have hlt : i < (aJ L a).length := by omega
    have hs := hst hlt
    have hs2 : fM (cn L n) L (L.getD a default).k (aJ L a) = (pre ++ ((if (L.getD a default).k.toNat = 123 then [⟨107, (L.getD ((aJ L a).getD i default) default).key, 0⟩] else []) ++ cn L n ((aJ L a).getD i default))) ++ fM (cn L n) L (L.getD a default).k (List.drop (i + 1) (aJ L a)) := by
     rw [he, hs]; simp only [List.append_assoc]
    first
     | rw [if_pos (show (L.getD a default).k.toNat = 123 by omega)] at hs hs2
     | rw [if_neg (show ¬ (L.getD a default).k.toNat = 123 by omega)] at hs hs2
    have hsl := congrArg List.length hs
    simp only [List.length_append, List.length_cons, List.length_nil] at hsl
    first
     | (simp only [List.length_append, List.length_cons, List.length_nil, List.length_map]; omega)
     | (refine ⟨iJ, h1, (hkm hlt).2, by have := (hkm hlt).1; omega, by omega⟩)
     | (refine ⟨[], (i + 1, _), ⟨hlt, hs2⟩, ?_, by show (aJ L a).length - (i + 1) < (aJ L a).length - i; omega⟩
        refine Go.VG.Sub.mk rfl ?_ ?_ ?_ ?_ <;> (repeat' first | trivial | apply aj | apply aR | apply aM | apply dm)
        all_goals first
         | (show IntKind.i64.wrap _ = _; (simp (discharger := omega) only [wR]; omega))
         | (simp only [List.append_eq, List.map_cons, List.map_append, List.append_assoc, List.cons_append, List.nil_append, List.map_nil]; done)
         | (simp only [List.append_eq, List.map_cons, List.map_append, List.append_assoc, List.cons_append, List.nil_append, List.map_nil]; rfl))
 . rw [g1 (by omega) (by omega)]
   refine a8.mk [.swap 0 1] ?_ <;> (repeat' first | trivial)
theorem Av : ∀ n, ay 10 (qy n)
 | 0 => by
   intro args sg pre x r he hp
   unfold qy at he
   split at he <;> cases he
   obtain ⟨h1, h2, h3, h4, h5⟩ := hp
   exfalso; omega
 | n + 1 => by
   intro args sg pre x r he hp
   unfold qy at he
   split at he <;> cases he
   obtain ⟨h1, h2, h3, h4, h5⟩ := hp
   obtain ⟨L, rfl, eL⟩ := unN h1
   rw [eL] at h2 h3 h4 h5 ⊢
   exact FH n (Av n) _ L _ ⟨h2, h3, h4, h5⟩
-- #name lawOps0 truchmanlaw15.ops
def wP : Sm := fun args σ => match args, σ with
 | [.list c 4 N, .int .i64 0], [] => some (gG N ∧ gm (bH N) ∧ 0 < (bH N).length ∧ (opsL (bH N)).length ≤ 100000000, .buf 0, some [eOb (opsL (bH N))])
 | _, _ => none
theorem HN : ay 10 wP := by
 intro args sg pre x r he hp
 unfold wP at he
 split at he <;> cases he
 rename_i c N
 exact Av (bH N).length _ _ _ _ _ rfl ⟨hp.1, hp.2.1, hp.2.2.1, Nat.sub_le _ _, hp.2.2.2⟩
end Go.Proofs.YtllncocibkgjkaaGreat
namespace Go.Proofs.YtllncocibkgjkaaGreat
open Go Go.VG
set_option maxRecDepth 100000
theorem xA {c : Cu} (hc : c.live) (h : c.ax = 0) : jI c.next.2 ∧ c.next.2.t.length ≤ 4 * c.s.length := by
 obtain ⟨_, _, _, _, hn⟩ := aX hc h
 have h2 : c.aN.2.k ≠ 0 := by
  unfold Cu.ax at h
  split at h
  . rename_i q; exact absurd h q
  . split at h
    . cases h
    . rename_i q; rw [← hn]; exact q
 rw [hn]
 exact ⟨J4 hc.1 h2, J3 hc.1⟩
structure iz (d m : Nat) (x : It) : Prop where
 t : TT d x.1 x.2
 n : nc m x.1
def VTT (d : Nat) : Prop := ∀ (m : Nat) (c : Cu) (key : List UInt8), c.live → c.ax = 0 → 4 * c.s.length ≤ m → key.length ≤ m → (gv d c.next.2 key c.next.1).1 = 0 → ∃ x, iz d m ((gv d c.next.2 key c.next.1).2.1, x) ∧ bo ((gv d c.next.2 key c.next.1).2.1, x) = key
theorem zC {d : Nat} (hv : VTT d) {m : Nat} : ∀ (n : Nat) (c : Cu) (acc : List Nd) (its : List It), c.live → c.ax = 0 → 4 * c.s.length ≤ m → acc = aw its → (∀ x ∈ its, iz d m x ∧ bo x = []) → (er (gv d) n c.next.2 c.next.1 acc).1 = 0 →
   ∃ l, (er (gv d) n c.next.2 c.next.1 acc).2.1 = aw l ∧ ∀ x ∈ l, iz d m x ∧ bo x = []
 | 0, _, _, _, _, _, _, _, _, h => by rw [er] at h; cases h
 | n + 1, c, acc, its, hc, h0, hm, ha, hi, h => by
   rw [er] at h ⊢
   obtain ⟨t1, t2, _⟩ := aX hc h0
   by_cases h1 : (gv d c.next.2 [] c.next.1).1 ≠ 0
   . rw [if_pos h1] at h; exact absurd h h1
   rw [if_neg h1] at h ⊢
   have f1 := eX d c.next.2 [] c.next.1 t1 (by omega)
   obtain ⟨x, hx, hk⟩ := hv m c [] hc h0 hm (Nat.zero_le _) (by omega)
   have hi2 : ∀ y ∈ its ++ [((gv d c.next.2 [] c.next.1).2.1, x)], iz d m y ∧ bo y = [] := fun y hy => by
    rcases List.mem_append.1 hy with hy | hy
    . exact hi y hy
    . rw [List.mem_singleton] at hy; rw [hy]; exact ⟨hx, hk⟩
   have ha2 : acc ++ (gv d c.next.2 [] c.next.1).2.1 = aw (its ++ [((gv d c.next.2 [] c.next.1).2.1, x)]) := by
    rw [uy, ha]; show _ = _ ++ (_ ++ []); rw [List.append_nil]
   by_cases h2 : (gv d c.next.2 [] c.next.1).2.2.ax ≠ 0
   . rw [if_pos h2] at h; exact absurd h h2
   rw [if_neg h2] at h ⊢
   obtain ⟨l1, l2, _⟩ := aX f1.live (by omega)
   have fs := f1.s
   by_cases h3 : (gv d c.next.2 [] c.next.1).2.2.next.2.k.toNat = 93
   . rw [if_pos h3]
     exact ⟨_, ha2, hi2⟩
   rw [if_neg h3] at h ⊢
   by_cases h4 : (gv d c.next.2 [] c.next.1).2.2.next.2.k.toNat ≠ 44
   . rw [if_pos h4] at h; cases h
   rw [if_neg h4] at h ⊢
   by_cases h5 : (gv d c.next.2 [] c.next.1).2.2.next.1.ax ≠ 0
   . rw [if_pos h5] at h; exact absurd h h5
   rw [if_neg h5] at h ⊢
   exact zC hv n _ _ _ l1 (by omega) (by rw [l2, fs, t2]; exact hm) ha2 hi2 h
theorem zK {d : Nat} (hv : VTT d) {m : Nat} : ∀ (n : Nat) (c : Cu) (ks : List (List UInt8)) (acc : List Nd) (its : List It), c.live → c.ax = 0 → 4 * c.s.length ≤ m → acc = aw its → ks = its.map bo → ks.Nodup → (∀ x ∈ its, iz d m x ∧ cN (bo x)) → (eu (gv d) n c.next.2 c.next.1 ks acc).1 = 0 →
   ∃ l, (eu (gv d) n c.next.2 c.next.1 ks acc).2.1 = aw l ∧ (l.map bo).Nodup ∧ ∀ x ∈ l, iz d m x ∧ cN (bo x)
 | 0, _, _, _, _, _, _, _, _, _, _, _, h => by rw [eu] at h; cases h
 | n + 1, c, ks, acc, its, hc, h0, hm, ha, hks, hnd, hi, h => by
   rw [eu] at h ⊢
   obtain ⟨t1, t2, _⟩ := aX hc h0
   by_cases a0 : d9 c.next.2 c.next.1 ks ≠ 0
   . rw [if_pos a0] at h; exact absurd h a0
   rw [if_neg a0] at h ⊢
   obtain ⟨m1, m2, m3, m4, m5⟩ := s5 (t := c.next.2) (ks := ks) t1 (by omega)
   obtain ⟨a1, a2, _⟩ := aX t1 m3
   obtain ⟨b1, b2, _⟩ := aX a1 m5
   by_cases h1 : (bf (gv d) c.next.2 c.next.1).1 ≠ 0
   . rw [if_pos h1] at h; exact absurd h h1
   rw [if_neg h1] at h ⊢
   obtain ⟨r1, r2⟩ := xA hc h0
   have f1 : Fit c.next.1.next.1.next.1 (bf (gv d) c.next.2 c.next.1) := eX d _ _ _ b1 (show (bf (gv d) c.next.2 c.next.1).1 = 0 by omega)
   obtain ⟨x, hx, hk⟩ := hv m c.next.1.next.1 c.next.2.t a1 m5 (by rw [a2, t2]; exact hm) (by omega) (show (bf (gv d) c.next.2 c.next.1).1 = 0 by omega)
   have hx : iz d m ((bf (gv d) c.next.2 c.next.1).2.1, x) := hx
   have hk : bo ((bf (gv d) c.next.2 c.next.1).2.1, x) = c.next.2.t := hk
   have htx : cN c.next.2.t := by
    rcases r1 with ⟨_, q⟩ | ⟨q, _⟩ | ⟨q, _⟩ | ⟨q, _⟩
    . exact q
    . rw [q] at m1; exact absurd m1 (by decide)
    . have q : c.next.2.k.toNat = 123 ∨ c.next.2.k.toNat = 125 ∨ c.next.2.k.toNat = 91 ∨ c.next.2.k.toNat = 93 ∨ c.next.2.k.toNat = 58 ∨ c.next.2.k.toNat = 44 := of_decide_eq_true q
      omega
    . rcases q with q | q | q <;> (rw [q] at m1; exact absurd m1 (by decide))
   have hi2 : ∀ y ∈ its ++ [((bf (gv d) c.next.2 c.next.1).2.1, x)], iz d m y ∧ cN (bo y) := fun y hy => by
    rcases List.mem_append.1 hy with hy | hy
    . exact hi y hy
    . rw [List.mem_singleton] at hy; rw [hy]; exact ⟨hx, by rw [hk]; exact htx⟩
   have ha2 : acc ++ (bf (gv d) c.next.2 c.next.1).2.1 = aw (its ++ [((bf (gv d) c.next.2 c.next.1).2.1, x)]) := by
    rw [uy, ha]; show _ = _ ++ (_ ++ []); rw [List.append_nil]
   have hks2 : ks ++ [c.next.2.t] = (its ++ [((bf (gv d) c.next.2 c.next.1).2.1, x)]).map bo := by
    rw [List.map_append, hks]; show _ = _ ++ [bo _]; rw [hk]
   have hnd2 : (ks ++ [c.next.2.t]).Nodup := by
    refine List.nodup_append.2 ⟨hnd, by simp, ?_⟩
    intro a ha b hb e
    rw [List.mem_singleton] at hb
    rw [← hb, ← e] at m2
    exact m2 ha
   by_cases h2 : (bf (gv d) c.next.2 c.next.1).2.2.ax ≠ 0
   . rw [if_pos h2] at h; exact absurd h h2
   rw [if_neg h2] at h ⊢
   obtain ⟨l1, l2, _⟩ := aX f1.live (by omega)
   have fs := f1.s
   by_cases h3 : (bf (gv d) c.next.2 c.next.1).2.2.next.2.k.toNat = 125
   . rw [if_pos h3]
     exact ⟨_, ha2, by rw [← hks2]; exact hnd2, hi2⟩
   rw [if_neg h3] at h ⊢
   by_cases h4 : (bf (gv d) c.next.2 c.next.1).2.2.next.2.k.toNat ≠ 44
   . rw [if_pos h4] at h; cases h
   rw [if_neg h4] at h ⊢
   by_cases h5 : (bf (gv d) c.next.2 c.next.1).2.2.next.1.ax ≠ 0
   . rw [if_pos h5] at h; exact absurd h h5
   rw [if_neg h5] at h ⊢
   exact zK hv n _ _ _ _ l1 (by omega) (by rw [l2, fs, b2, a2, t2]; exact hm) ha2 hks2 hnd2 hi2 h
theorem Be {m : Nat} {l : List It} (h : ∀ x ∈ l, nc m x.1) : nc m (aw l) := fun z hz => by
 obtain ⟨x, hx, hz⟩ := uz hz
 exact h x hx z hz
theorem AL {d m : Nat} {t : Tk} {key : List UInt8} (h : jI t) (hl : dd t.k = true) (h1 : t.t.length ≤ m) (h2 : key.length ≤ m) : ∃ x, iz d m ([⟨t.k, key, t.t, 1⟩], x) ∧ bo (([⟨t.k, key, t.t, 1⟩] : List Nd), x) = key :=
 ⟨_, ⟨.leaf d t.k key t.t h hl, fun z hz => by rw [List.mem_singleton] at hz; rw [hz]; exact ⟨h2, h1⟩⟩, rfl⟩
theorem uI : ∀ d, VTT d
 | 0 => fun m c key hc h0 hm hk h => by
   obtain ⟨r1, r2⟩ := xA hc h0
   rw [gv] at h ⊢
   by_cases h1 : c.next.2.k.toNat = 123 ∨ c.next.2.k.toNat = 91
   . rw [if_pos h1] at h; cases h
   rw [if_neg h1] at h ⊢
   by_cases h2 : dd c.next.2.k = true
   . rw [if_pos h2]; exact AL r1 h2 (by omega) hk
   . rw [if_neg h2] at h; cases h
 | d + 1 => fun m c key hc h0 hm hk h => by
   obtain ⟨r1, r2⟩ := xA hc h0
   obtain ⟨t1, t2, _⟩ := aX hc h0
   have hnk := vj hc h0
   have hsg : c.next.2.k.toNat = 123 ∨ c.next.2.k.toNat = 91 → c.next.2.t = [] := fun q => by
    rcases hnk with ⟨_, e⟩ | ⟨_, e⟩
    . exact e
    . rw [vV q] at e; cases e
   rw [gv] at h ⊢
   by_cases h1 : c.next.2.k.toNat = 123
   . rw [if_pos h1] at h ⊢
     have e1 : c.next.2.k = 123 := UInt8.toNat_inj.1 (by rw [h1]; rfl)
     rw [hsg (.inl h1), e1]
     have key1 : ∃ l, (b6 (gv d) c.next.1).2.1 = aw l ∧ (l.map bo).Nodup ∧ ∀ x ∈ l, iz d m x ∧ cN (bo x) := by
      have h : (b6 (gv d) c.next.1).1 = 0 := h
      unfold b6 at h ⊢
      by_cases a1 : c.next.1.ax ≠ 0
      . rw [if_pos a1] at h; exact absurd h a1
      rw [if_neg a1] at h ⊢
      by_cases a2 : c.next.1.next.2.k.toNat = 125
      . rw [if_pos a2]; exact ⟨[], rfl, by simp, fun _ hx => by cases hx⟩
      rw [if_neg a2] at h ⊢
      exact zK (uI d) _ _ [] [] [] t1 (by omega) (by rw [t2]; exact hm) rfl rfl (by simp) (fun _ hx => by cases hx) h
     obtain ⟨l, q1, q2, q3⟩ := key1
     show ∃ x, iz (d + 1) m (⟨123, key, [], ((b6 (gv d) c.next.1).2.1.length : Int) + 1⟩ :: (b6 (gv d) c.next.1).2.1, x) ∧ key = key
     rw [q1]
     refine ⟨_, ⟨.obj d key l (fun x hx => (q3 x hx).1.t) q2 (fun x hx => (q3 x hx).2), fun z hz => ?_⟩, rfl⟩
     rcases List.mem_cons.1 hz with rfl | hz
     . exact ⟨hk, Nat.zero_le _⟩
     . exact Be (fun x hx => (q3 x hx).1.n) z hz
   rw [if_neg h1] at h ⊢
   by_cases h2 : c.next.2.k.toNat = 91
   . rw [if_pos h2] at h ⊢
     have e1 : c.next.2.k = 91 := UInt8.toNat_inj.1 (by rw [h2]; rfl)
     rw [hsg (.inr h2), e1]
     have key1 : ∃ l, (b9 (gv d) c.next.1).2.1 = aw l ∧ ∀ x ∈ l, iz d m x ∧ bo x = [] := by
      have h : (b9 (gv d) c.next.1).1 = 0 := h
      unfold b9 at h ⊢
      by_cases a1 : c.next.1.ax ≠ 0
      . rw [if_pos a1] at h; exact absurd h a1
      rw [if_neg a1] at h ⊢
      by_cases a2 : c.next.1.next.2.k.toNat = 93
      . rw [if_pos a2]; exact ⟨[], rfl, fun _ hx => by cases hx⟩
      rw [if_neg a2] at h ⊢
      exact zC (uI d) _ _ [] [] t1 (by omega) (by rw [t2]; exact hm) rfl (fun _ hx => by cases hx) h
     obtain ⟨l, q1, q3⟩ := key1
     show ∃ x, iz (d + 1) m (⟨91, key, [], ((b9 (gv d) c.next.1).2.1.length : Int) + 1⟩ :: (b9 (gv d) c.next.1).2.1, x) ∧ key = key
     rw [q1]
     refine ⟨_, ⟨.lst d key l (fun x hx => (q3 x hx).1.t) (fun x hx => (q3 x hx).2), fun z hz => ?_⟩, rfl⟩
     rcases List.mem_cons.1 hz with rfl | hz
     . exact ⟨hk, Nat.zero_le _⟩
     . exact Be (fun x hx => (q3 x hx).1.n) z hz
   rw [if_neg h2] at h ⊢
   by_cases h3 : dd c.next.2.k = true
   . rw [if_pos h3]; exact AL r1 h3 (by omega) hk
   . rw [if_neg h3] at h; cases h
theorem LB {s : List UInt8} (hl : s.length ≤ 10000000) (h : d6 s = 0) : ∃ x, TT 32 (di s) x ∧ nc (4 * s.length) (di s) ∧ (j4 (di s)).key = [] := by
 have hc : (Cu.new s).live := ⟨⟨Nat.zero_le _, Nat.le_refl _⟩, rfl, hl⟩
 have e : di s = (gv 32 (Cu.new s).next.2 [] (Cu.new s).next.1).2.1 := by unfold di; rw [if_pos h]
 unfold d6 at h
 by_cases h1 : (Cu.new s).ax ≠ 0
 . rw [if_pos h1] at h; exact absurd h h1
 rw [if_neg h1] at h
 by_cases h2 : (gv 32 (Cu.new s).next.2 [] (Cu.new s).next.1).1 ≠ 0
 . rw [if_pos h2] at h; exact absurd h h2
 obtain ⟨x, hx, hk⟩ := uI 32 (4 * s.length) (.new s) [] hc (by omega) (Nat.le_refl _) (Nat.zero_le _) (by omega)
 rw [e]
 exact ⟨x, hx.t, hx.n, hk⟩
end Go.Proofs.YtllncocibkgjkaaGreat
namespace Go.Proofs.YtllncocibkgjkaaGreat
open Go Go.VG
set_option maxRecDepth 100000
theorem vo {w : WS} (h : w.out.length ≤ 1900000000 ∧ w.l.length ≤ 900) : okW (bl w.out) (w.l.map ef) ∧ (bq (bl w.out) (w.l.map ef) w.whole w.code).out.length ≤ 1900000000 ∧ (bq (bl w.out) (w.l.map ef) w.whole w.code).l.length ≤ 900 := by
 rw [bR]; exact ⟨ie (by omega) (by omega), h⟩
theorem Fp (w : WS) (o : cD) (hp : (w.out.length ≤ 1900000000 ∧ w.l.length ≤ 900) ∧ o.text.length ≤ 100000000) : OK 11 ([.ptr 0 0, eo o]) (eW w) (.tuple []) (some (eW (w.op o))) := by
 refine aq (C := cx [(28, sW), (30, sS), (33, sP), (29, sR), (35, sX), (31, sY), (34, sQ), (32, sV)]) (ar ⟨Ae, Ab, A8, Aa, Af, Ah, A9, Ad, trivial⟩) (fn := Tryz.f11) rfl rfl rfl rfl fun hw hs => ?_
 obtain ⟨hp, hq⟩ := hp
 repeat' ((conv => whnf); first | apply ak | (apply al <;> intro h))
 all_goals try conv => whnf
 all_goals try (refine ab.mk ?_; try dsimp only)
 all_goals try refine stay ?_
 all_goals first
  | exact vo hp
  | exact ⟨(vo hp).1, (vo hp).2, hq⟩
  | skip
 all_goals
  rw [bR]
  unfold WS.op
  repeat (first | rw [if_pos (by omega)] | rw [if_neg (by omega)])
  refine a8.mk [] ?_ <;> (repeat' first | trivial)
def wN : Sm := fun args σ => match args, σ with
 | [.ptr 0 0, .agg [.int .u8 k_o, .str t_o, .int .i64 n_o]], [.cells [.buf 1, .buf 2, .bool h_w, .int .i64 c_w, .func (.func 38) [] []], .buf 1 0 o_w, .buf 3 0 l_w] => some (True ∧ (okW o_w l_w ∧ (((bq o_w l_w h_w c_w).out.length ≤ 1900000000 ∧ (bq o_w l_w h_w c_w).l.length ≤ 900) ∧ (cD.mk k_o t_o n_o).text.length ≤ 100000000)), .tuple [], some (eW ((bq o_w l_w h_w c_w).op (cD.mk k_o t_o n_o))))
 | _, _ => none
theorem HL : ay 11 wN := by
 intro args sg pre x r he hp
 unfold wN at he
 split at he <;> cases he
 . rw [viewO (hp).1]; rw [iO (hp.2).1]; exact Fp (hp := hp.2.2) ..
theorem bM (o : List UInt8) (l : List Fr) (wh : Bool) (c : Int) : bq (bl o) (l.map ef) wh c = ⟨o, l, wh, c⟩ := bR ⟨o, l, wh, c⟩
theorem bN (o : List UInt8) (l : List Fr) (h : o.length ≤ 2000000000 ∧ l.length ≤ 1000) : okW (bl o) (l.map ef) := ie h.1 h.2
theorem iq : quote [97] = [34, 97, 34] := rfl
theorem gZ : gy 1 = [49] := by unfold gy; rw [if_neg (by decide), dec_lt (by decide)]; rfl
theorem w1 : WS.begin ⟨[], [], false, 0⟩ 123 125 = ⟨[123], [⟨125, false, false⟩], true, 0⟩ := rfl
theorem w2 : WS.key ⟨[123], [⟨125, false, false⟩], true, 0⟩ [97] = ⟨[123, 34, 97, 34, 58], [⟨125, true, true⟩], true, 0⟩ := rfl
theorem w3 : WS.begin ⟨[123, 34, 97, 34, 58], [⟨125, true, true⟩], true, 0⟩ 91 93 = ⟨[123, 34, 97, 34, 58, 91], [⟨125, true, false⟩, ⟨93, false, false⟩], true, 0⟩ := rfl
theorem w4 : WS.put ⟨[123, 34, 97, 34, 58, 91], [⟨125, true, false⟩, ⟨93, false, false⟩], true, 0⟩ [49] = ⟨[123, 34, 97, 34, 58, 91, 49], [⟨125, true, false⟩, ⟨93, true, false⟩], true, 0⟩ := rfl
theorem w5 : WS.put ⟨[123, 34, 97, 34, 58, 91, 49], [⟨125, true, false⟩, ⟨93, true, false⟩], true, 0⟩ [110, 117, 108, 108] = ⟨[123, 34, 97, 34, 58, 91, 49, 44, 110, 117, 108, 108], [⟨125, true, false⟩, ⟨93, true, false⟩], true, 0⟩ := rfl
theorem w6 : WS.fin ⟨[123, 34, 97, 34, 58, 91, 49, 44, 110, 117, 108, 108], [⟨125, true, false⟩, ⟨93, true, false⟩], true, 0⟩ = ⟨[123, 34, 97, 34, 58, 91, 49, 44, 110, 117, 108, 108, 93], [⟨125, true, false⟩], true, 0⟩ := rfl
theorem w7 : WS.done ⟨[123, 34, 97, 34, 58, 91, 49, 44, 110, 117, 108, 108, 93], [⟨125, true, false⟩], true, 0⟩ = ([], 1) := rfl
theorem w8 : WS.fin ⟨[123, 34, 97, 34, 58, 91, 49, 44, 110, 117, 108, 108, 93], [⟨125, true, false⟩], true, 0⟩ = ⟨[123, 34, 97, 34, 58, 91, 49, 44, 110, 117, 108, 108, 93, 125], [], true, 0⟩ := rfl
theorem w9 : WS.done ⟨[123, 34, 97, 34, 58, 91, 49, 44, 110, 117, 108, 108, 93, 125], [], true, 0⟩ = ([123, 34, 97, 34, 58, 91, 49, 44, 110, 117, 108, 108, 93, 125], 0) := rfl
theorem iu : WS.put ⟨[123, 34, 97, 34, 58, 91, 49, 44, 110, 117, 108, 108, 93, 125], [], true, 0⟩ (jQ true) = ⟨[123, 34, 97, 34, 58, 91, 49, 44, 110, 117, 108, 108, 93, 125], [], true, 12⟩ := rfl
theorem iv : WS.done ⟨[123, 34, 97, 34, 58, 91, 49, 44, 110, 117, 108, 108, 93, 125], [], true, 12⟩ = ([], 12) := rfl
theorem FG  (hp : True) : OK 7 ([]) ([]) (.bool true) (none) := by
 refine aq (C := cx [(9, sU), (28, sW), (29, sR), (30, sS), (31, sY), (32, sV), (33, sP), (12, sO), (34, sQ), (35, sX)]) (ar ⟨Ac, Ae, Aa, Ab, Ah, Ad, A8, A7, A9, Af, trivial⟩) (fn := Tryz.f7) rfl rfl rfl rfl fun hw hs => ?_
 conv => whnf
 refine ak ⟨?_⟩ ?_
 . first
   | trivial
   | exact ⟨bN _ _ (by decide), by rw [bM]; decide⟩
   | exact ⟨bN _ _ (by decide), trivial⟩
   | exact ⟨bN _ _ (by decide), by rw [bM]; decide, by decide⟩
 simp only [WS.new, bM, iq, gZ, w1, w2, w3, w4, w5, w6, w7, w8, w9, iu, iv]
 conv => whnf
 refine ak ⟨?_⟩ ?_
 . first
   | trivial
   | exact ⟨bN _ _ (by decide), by rw [bM]; decide⟩
   | exact ⟨bN _ _ (by decide), trivial⟩
   | exact ⟨bN _ _ (by decide), by rw [bM]; decide, by decide⟩
 simp only [WS.new, bM, iq, gZ, w1, w2, w3, w4, w5, w6, w7, w8, w9, iu, iv]
 conv => whnf
 refine ak ⟨?_⟩ ?_
 . first
   | trivial
   | exact ⟨bN _ _ (by decide), by rw [bM]; decide⟩
   | exact ⟨bN _ _ (by decide), trivial⟩
   | exact ⟨bN _ _ (by decide), by rw [bM]; decide, by decide⟩
 simp only [WS.new, bM, iq, gZ, w1, w2, w3, w4, w5, w6, w7, w8, w9, iu, iv]
 conv => whnf
 refine ak ⟨?_⟩ ?_
 . first
   | trivial
   | exact ⟨bN _ _ (by decide), by rw [bM]; decide⟩
   | exact ⟨bN _ _ (by decide), trivial⟩
   | exact ⟨bN _ _ (by decide), by rw [bM]; decide, by decide⟩
 simp only [WS.new, bM, iq, gZ, w1, w2, w3, w4, w5, w6, w7, w8, w9, iu, iv]
 conv => whnf
 refine ak ⟨?_⟩ ?_
 . first
   | trivial
   | exact ⟨bN _ _ (by decide), by rw [bM]; decide⟩
   | exact ⟨bN _ _ (by decide), trivial⟩
   | exact ⟨bN _ _ (by decide), by rw [bM]; decide, by decide⟩
 simp only [WS.new, bM, iq, gZ, w1, w2, w3, w4, w5, w6, w7, w8, w9, iu, iv]
 conv => whnf
 refine ak ⟨?_⟩ ?_
 . first
   | trivial
   | exact ⟨bN _ _ (by decide), by rw [bM]; decide⟩
   | exact ⟨bN _ _ (by decide), trivial⟩
   | exact ⟨bN _ _ (by decide), by rw [bM]; decide, by decide⟩
 simp only [WS.new, bM, iq, gZ, w1, w2, w3, w4, w5, w6, w7, w8, w9, iu, iv]
 conv => whnf
 refine ak ⟨?_⟩ ?_
 . first
   | trivial
   | exact ⟨bN _ _ (by decide), by rw [bM]; decide⟩
   | exact ⟨bN _ _ (by decide), trivial⟩
   | exact ⟨bN _ _ (by decide), by rw [bM]; decide, by decide⟩
 simp only [WS.new, bM, iq, gZ, w1, w2, w3, w4, w5, w6, w7, w8, w9, iu, iv]
 conv => whnf
 refine ak ⟨?_⟩ ?_
 . first
   | trivial
   | exact ⟨bN _ _ (by decide), by rw [bM]; decide⟩
   | exact ⟨bN _ _ (by decide), trivial⟩
   | exact ⟨bN _ _ (by decide), by rw [bM]; decide, by decide⟩
 simp only [WS.new, bM, iq, gZ, w1, w2, w3, w4, w5, w6, w7, w8, w9, iu, iv]
 conv => whnf
 refine ak ⟨?_⟩ ?_
 . first
   | trivial
   | exact ⟨bN _ _ (by decide), by rw [bM]; decide⟩
   | exact ⟨bN _ _ (by decide), trivial⟩
   | exact ⟨bN _ _ (by decide), by rw [bM]; decide, by decide⟩
 simp only [WS.new, bM, iq, gZ, w1, w2, w3, w4, w5, w6, w7, w8, w9, iu, iv]
 conv => whnf
 refine ak ⟨?_⟩ ?_
 . first
   | trivial
   | exact ⟨bN _ _ (by decide), by rw [bM]; decide⟩
   | exact ⟨bN _ _ (by decide), trivial⟩
   | exact ⟨bN _ _ (by decide), by rw [bM]; decide, by decide⟩
 simp only [WS.new, bM, iq, gZ, w1, w2, w3, w4, w5, w6, w7, w8, w9, iu, iv]
 conv => whnf
 refine ak ⟨?_⟩ ?_
 . first
   | trivial
   | exact ⟨bN _ _ (by decide), by rw [bM]; decide⟩
   | exact ⟨bN _ _ (by decide), trivial⟩
   | exact ⟨bN _ _ (by decide), by rw [bM]; decide, by decide⟩
 simp only [WS.new, bM, iq, gZ, w1, w2, w3, w4, w5, w6, w7, w8, w9, iu, iv]
 conv => whnf
 refine ak ⟨?_⟩ ?_
 . first
   | trivial
   | exact ⟨bN _ _ (by decide), by rw [bM]; decide⟩
   | exact ⟨bN _ _ (by decide), trivial⟩
   | exact ⟨bN _ _ (by decide), by rw [bM]; decide, by decide⟩
 simp only [WS.new, bM, iq, gZ, w1, w2, w3, w4, w5, w6, w7, w8, w9, iu, iv]
 conv => whnf
 refine ak ⟨?_⟩ ?_
 . first
   | trivial
   | exact ⟨bN _ _ (by decide), by rw [bM]; decide⟩
   | exact ⟨bN _ _ (by decide), trivial⟩
   | exact ⟨bN _ _ (by decide), by rw [bM]; decide, by decide⟩
 simp only [WS.new, bM, iq, gZ, w1, w2, w3, w4, w5, w6, w7, w8, w9, iu, iv]
 conv => whnf
 refine ak ⟨?_⟩ ?_
 . first
   | trivial
   | exact ⟨bN _ _ (by decide), by rw [bM]; decide⟩
   | exact ⟨bN _ _ (by decide), trivial⟩
   | exact ⟨bN _ _ (by decide), by rw [bM]; decide, by decide⟩
 simp only [WS.new, bM, iq, gZ, w1, w2, w3, w4, w5, w6, w7, w8, w9, iu, iv]
 conv => whnf
 refine a8.mk [] ?_ <;> (repeat' first | trivial)
def wO : Sm := fun args σ => match args, σ with
 | [], [] => some (True, .bool true, none)
 | _, _ => none
theorem HM : ay 7 wO := by
 intro args sg pre x r he hp
 unfold wO at he
 split at he <;> cases he
 . exact FG (hp := hp) ..
end Go.Proofs.YtllncocibkgjkaaGreat
namespace Go.Proofs.YtllncocibkgjkaaGreat
open Go Go.VG
set_option maxRecDepth 100000
theorem as0' (w : World) : (Instr.typeAssert .nilIface 20 86 true).run Tryz.prog w = .ok (.tuple #[.int .i64 0, .bool false]) w := by rfl
theorem as1' (n : Int) (w : World) : (Instr.typeAssert (.iface 86 (.int .i64 n)) 20 86 true).run Tryz.prog w = .ok (.tuple #[.int .i64 n, .bool true]) w := by rfl
theorem as0 {ev : Operand → Value} {o : Oper} {x : Operand} (ho : o.op = .typeAssert x 20 86 true) (hx : ev x = .nilIface) (w : World) : (execOp ev o).run Tryz.prog w = .ok (.value (.tuple #[.int .i64 0, .bool false])) w := by
 simp only [execOp, ho, hx, Sem.run_bind, as0', Result.andThen_ok, Sem.run_pure]
theorem as1 {ev : Operand → Value} {o : Oper} {x : Operand} {n : Int} (ho : o.op = .typeAssert x 20 86 true) (hx : ev x = .iface 86 (.int .i64 n)) (w : World) : (execOp ev o).run Tryz.prog w = .ok (.value (.tuple #[.int .i64 n, .bool true])) w := by
 simp only [execOp, ho, hx, Sem.run_bind, as1', Result.andThen_ok, Sem.run_pure]
theorem oO {ev : Operand → Value} {o : Oper} {x : Operand} {v : Value} {P : Program} (ho : o.op = .move x ∨ o.op = .assign x) (hx : ev x = v) (w : World) : (execOp ev o).run P w = .ok (.value v) w := by
 rcases ho with ho | ho <;> simp only [execOp, ho, hx, Sem.run_pure]
theorem tg {ev : Operand → Value} {o : Oper} {x : Operand} {i : Nat} {vs : Array Value} {v : Value} {P : Program} (ho : o.op = .extract x i) (hx : ev x = .tuple vs) (hv : vs[i]? = some v) (w : World) : (execOp ev o).run P w = .ok (.value v) w := by
 simp [execOp, ho, hx, Instr.extract, hv]
section
variable {P : Program} {ops : Array Oper} {Q : Exit → Act → List Frame → World → Prop} {i : Nat} {rest : List Nat} {a : Act} {cs : List Frame} {w : World} {o : Oper}
theorem je {v : Value} (ho : ops[i]? = some o) (hg : o.guard = none) (hx : (execOp a.eval o).run P w = .ok (.value v) w) (h : wpOpsSIn Fence.wide 0 P ops Q rest (a.put o.dst v) cs w) : wpOpsSIn Fence.wide 0 P ops Q (i :: rest) a cs w := by
 unfold wpOpsSIn
 rw [ho]
 refine ⟨fun _ _ => trivial, ?_⟩
 rw [if_pos (by simp [Region.wanted, hg]), hx]
 exact h
theorem Lf {v : Value} {cs' : List Frame} (ho : ops[i]? = some o) (hg : o.guard = none) (hx : (execOp a.eval o).run P w = .ok .recover w) (hc : recoverD cs = some (v, cs')) (h : wpOpsSIn Fence.wide 0 P ops Q rest (a.put o.dst v) cs' w) : wpOpsSIn Fence.wide 0 P ops Q (i :: rest) a cs w := by
 unfold wpOpsSIn
 rw [ho]
 refine ⟨fun _ _ => trivial, ?_⟩
 rw [if_pos (by simp [Region.wanted, hg]), hx]
 show (match recoverD cs with | some (v, cs') => _ | none => _)
 rw [hc]
 exact h
theorem Le (ho : ops[i]? = some o) (hg : o.guard = none) (hx : (execOp a.eval o).run P w = .ok .recover w) (hc : recoverD cs = none) (h : wpOpsSIn Fence.wide 0 P ops Q rest (a.put o.dst .nilIface) cs w) : wpOpsSIn Fence.wide 0 P ops Q (i :: rest) a cs w := by
 unfold wpOpsSIn
 rw [ho]
 refine ⟨fun _ _ => trivial, ?_⟩
 rw [if_pos (by simp [Region.wanted, hg]), hx]
 show (match recoverD cs with | some (v, cs') => _ | none => _)
 rw [hc]
 exact h
end
theorem AQ (v1 v2 : Value) : [v1, v2].toArray ++ Array.replicate (11 - [v1, v2].toArray.size) undef = #[v1, v2, undef, undef, undef, undef, undef, undef, undef, undef, undef] := by rfl
theorem CU {v1 v2 y4 y5 y6 y7 y8 : Value} {n : Int} {b : Bool} (hn : -9223372036854775808 ≤ n ∧ n ≤ 9223372036854775807) : ∀ (st : St) (g : af) (n' : Nat), av st g [.ptr 0 0, .ptr 1 0] n' [v1, v2] → ∀ t, VR st g (lk [(3, .bool b), (2, .int .i64 n), (1, .ptr 1 0), (0, .ptr 0 0)] t) n' ((#[v1, v2, .int .i64 n, .bool b, y4, y5, y6, y7, y8, undef, undef] : Array Value).getD t undef) := by
 intro st g n' hv t
 obtain ⟨x1, q1, q2⟩ := jk hv (i := 0) rfl
 obtain ⟨x2, q3, q4⟩ := jk hv (i := 1) rfl
 cases q1; cases q3
 match t with
 | 0 => exact q2
 | 1 => exact q4
 | 2 => exact ⟨rfl, hn⟩
 | 3 => rfl
 | t + 4 => trivial
theorem DA (σ : List O) (hσ : ey σ σ σ.length) : qG Tryz.prog fL 40 [.ptr 0 0, .ptr 1 0] σ none σ := by
 refine yx (C := cx []) (ar trivial) (cfn := Tryz.f40) (tm := [(3, .bool false), (2, .int .i64 0), (1, .ptr 1 0), (0, .ptr 0 0)]) rfl rfl rfl rfl (fun vs w c₀ cs Q hl hu h => ?_) ?_
 . obtain ⟨v1, v2, rfl⟩ : ∃ v1 v2, vs = [v1, v2] := by
     match vs, hl with
     | [v1, v2], _ => exact ⟨v1, v2, rfl⟩
   rw [show Tryz.f40.ntmps = 11 from rfl] at h ⊢
   rw [AQ]
   apply wpSIn_region
   show wpOpsSIn Fence.wide 0 Tryz.prog _ _ _ _ _ _
   refine Le rfl rfl rfl (by simp [recoverD, hu, lQ]) ?_
   refine je (v := .tuple #[.int .i64 0, .bool false]) rfl rfl (as0 rfl rfl w) ?_
   refine je (v := .tuple #[.int .i64 0, .bool false]) rfl rfl (oO (x := .tmp 6) (v := .tuple #[.int .i64 0, .bool false]) (.inl rfl) rfl w) ?_
   refine je (v := .int .i64 0) rfl rfl (tg (x := .tmp 4) (i := 0) (vs := #[.int .i64 0, .bool false]) (v := .int .i64 0) rfl rfl rfl w) ?_
   refine je (v := .bool false) rfl rfl (tg (x := .tmp 4) (i := 1) (vs := #[.int .i64 0, .bool false]) (v := .bool false) rfl rfl rfl w) ?_
   refine je (v := .int .i64 0) rfl rfl (oO (x := .tmp 7) (v := .int .i64 0) (.inr rfl) rfl w) ?_
   refine je (v := .bool false) rfl rfl (oO (x := .tmp 8) (v := .bool false) (.inr rfl) rfl w) ?_
   have hc0 : c₀ = { c₀ with mode := .returning } := by cases c₀; simp_all [lQ]
   rw [hc0]
   refine h _ .returning rfl rfl rfl ?_
   exact CU (by decide)
 . repeat' ((conv => whnf); apply ak)
   all_goals try conv => whnf
   all_goals try (refine ab.mk ?_; try dsimp only)
   . rfl
   . exact hσ
   . exact Nat.ble_eq_true_of_le (Nat.le_refl _)
theorem u7 (n : Int) (hm : -9223372036854775808 ≤ n ∧ n ≤ 9223372036854775807) : qG Tryz.prog fL 40 [.ptr 0 0, .ptr 1 0] [.cells [.list true 0 []], .cells [.int .i64 0], .dead, .dead, .dead, .buf 1 0 []]
   (some (.iface 86 (.int .i64 n))) [.cells [.list true 0 []], .cells [.int .i64 n], .dead, .dead, .dead, .buf 1 0 []] := by
 refine yx (C := cx []) (ar trivial) (cfn := Tryz.f40) (tm := [(3, .bool true), (2, .int .i64 n), (1, .ptr 1 0), (0, .ptr 0 0)]) rfl rfl rfl rfl (fun vs w c₀ cs Q hl hu h => ?_) ?_
 . obtain ⟨v1, v2, rfl⟩ : ∃ v1 v2, vs = [v1, v2] := by
     match vs, hl with
     | [v1, v2], _ => exact ⟨v1, v2, rfl⟩
   rw [show Tryz.f40.ntmps = 11 from rfl] at h ⊢
   rw [AQ]
   apply wpSIn_region
   show wpOpsSIn Fence.wide 0 Tryz.prog _ _ _ _ _ _
   refine Lf (v := .iface 86 (.int .i64 n)) (cs' := { c₀ with mode := .panicking [{ v := .iface 86 (.int .i64 n), recovered := true }] } :: cs) rfl rfl rfl (by simp [recoverD, hu, lQ]) ?_
   refine je (v := .tuple #[.int .i64 n, .bool true]) rfl rfl (as1 rfl rfl w) ?_
   refine je (v := .tuple #[.int .i64 n, .bool true]) rfl rfl (oO (x := .tmp 6) (v := .tuple #[.int .i64 n, .bool true]) (.inl rfl) rfl w) ?_
   refine je (v := .int .i64 n) rfl rfl (tg (x := .tmp 4) (i := 0) (vs := #[.int .i64 n, .bool true]) (v := .int .i64 n) rfl rfl rfl w) ?_
   refine je (v := .bool true) rfl rfl (tg (x := .tmp 4) (i := 1) (vs := #[.int .i64 n, .bool true]) (v := .bool true) rfl rfl rfl w) ?_
   refine je (v := .int .i64 n) rfl rfl (oO (x := .tmp 7) (v := .int .i64 n) (.inr rfl) rfl w) ?_
   refine je (v := .bool true) rfl rfl (oO (x := .tmp 8) (v := .bool true) (.inr rfl) rfl w) ?_
   refine h _ (.panicking [{ v := .iface 86 (.int .i64 n), recovered := true }]) rfl rfl rfl ?_
   exact CU hm
 . repeat' ((conv => whnf); apply ak)
   all_goals try conv => whnf
   all_goals try (refine ab.mk ?_; try dsimp only)
   . rfl
   . (repeat' first | trivial | rfl | refine And.intro ?_ ?_)
   . rfl
end Go.Proofs.YtllncocibkgjkaaGreat
namespace Go.Proofs.YtllncocibkgjkaaGreat
open Go Go.VG
set_option maxRecDepth 100000
theorem sH (k : UInt8) : bJ k = true ↔ (k.toNat = 123 ∨ k.toNat = 125 ∨ k.toNat = 91 ∨ k.toNat = 93 ∨ k.toNat = 58 ∨ k.toNat = 44) := decide_eq_true_iff
theorem Gl (s : Sx) (key : List UInt8) (d : Int) (hp : d = 32 ∧ s.1.length ≤ 10000000) : OK 37 [fU s, .str key, .int .i64 d] [] (.tuple [.buf 0, fU (ao 0 key s).2.2, .int .i64 (ao 0 key s).1]) (some [fJ (ao 0 key s).2.1]) := by
 refine aq (C := cxl [(64, oN), (67, oM)] [64]) (rC ⟨rK, rJ, trivial⟩) (fn := Tryz.f37) rfl rfl rfl rfl fun hw hs => ?_
 have hml : (s.1.map vT).length = s.1.length := List.length_map _
 have g0 : az s ≠ 0 → ao 0 key s = (az s, [], s) := fun h => by rw [ao, if_pos h]
 have g1 : az s = 0 → (ae s).k.toNat = 123 ∨ (ae s).k.toNat = 91 → ao 0 key s = (33, [], s) := fun h h2 => by rw [ao, if_neg (by omega), if_pos h2]
 have g2 : az s = 0 → ¬ ((ae s).k.toNat = 123 ∨ (ae s).k.toNat = 91) → bJ (ae s).k = true → ao 0 key s = (3, [], s) := fun h h2 h3 => by rw [ao, if_neg (by omega), if_neg h2, if_pos h3]
 have g3 : az s = 0 → ¬ ((ae s).k.toNat = 123 ∨ (ae s).k.toNat = 91) → ¬ bJ (ae s).k = true → ao 0 key s = (0, [⟨(ae s).k, key, (ae s).t, 1⟩], aa s) := fun h h2 h3 => by rw [ao, if_neg (by omega), if_neg h2, if_neg h3]
 have hk := (ae s).k.toNat_lt
 repeat' ((conv => whnf); first | apply ak | apply aV | (apply al <;> intro h))
 all_goals try conv => whnf
 all_goals try (refine ab.mk ?_; try dsimp only)
 all_goals (try simp only [iM, du, km, fO, c5] at *)
 all_goals (try (exfalso; omega))
 all_goals (try rw [if_pos (show az s = 0 by assumption)] at *)
 all_goals first | refine stay ?_ | (exact ⟨gH, trivial⟩) | (simp (discharger := omega) [-List.getD_eq_getElem?_getD, wR] <;> omega) | skip
 . rw [g1 (by assumption) (by omega)]
   (refine a8.mk [.tm 6 4, .swap 0 4] ?_ <;> (repeat' first | trivial | rfl | refine And.intro ?_ ?_))
 . rw [g1 (by assumption) (by omega)]
   (refine a8.mk [.tm 6 4, .swap 0 4] ?_ <;> (repeat' first | trivial | rfl | refine And.intro ?_ ?_))
 . rw [g2 (by assumption) (by omega) ((sH _).2 (by assumption))]
   (refine a8.mk [.tm 6 4, .swap 0 4] ?_ <;> (repeat' first | trivial | rfl | refine And.intro ?_ ?_))
 . rw [g3 (by assumption) (by omega) (fun q => absurd ((sH _).1 q) (by assumption))]
   refine a8.mk [.swap 0 4] ?_ <;> (repeat' first | trivial)
 . rw [g0 (by assumption)]
   (refine a8.mk [.tm 6 4, .swap 0 4] ?_ <;> (repeat' first | trivial | rfl | refine And.intro ?_ ?_))
theorem Gm (k : Nat) (hv : ay 65 (td k)) (s : Sx) (key : List UInt8) (d : Int) (hp : d + k + 1 = 32 ∧ s.1.length ≤ 10000000) : OK 37 [fU s, .str key, .int .i64 d] [] (.tuple [.buf 0, fU (ao (k + 1) key s).2.2, .int .i64 (ao (k + 1) key s).1]) (some [fJ (ao (k + 1) key s).2.1]) := by
 refine aq (C := cxl [(64, oN), (67, oM), (65, td k), (66, xh)] [64]) (rC ⟨rK, rJ, hv, Ia, trivial⟩) (fn := Tryz.f37) rfl rfl rfl rfl fun hw hs => ?_
 have hml : (s.1.map vT).length = s.1.length := List.length_map _
 have hd0 : -9223372036854775808 ≤ d := hw.2.2.1.1
 have hdw : IntKind.i64.wrap (d + 1) = d + 1 := by rw [gU]; omega
 have g0 : az s ≠ 0 → ao (k + 1) key s = (az s, [], s) := fun h => by rw [ao, if_pos h]
 have g1 : az s = 0 → (ae s).k.toNat = 123 ∨ (ae s).k.toNat = 91 → ao (k + 1) key s = ((aY (ao k) ((ae s).k.toNat + 2) (aa s)).1, ⟨(ae s).k, key, [], (aY (ao k) ((ae s).k.toNat + 2) (aa s)).2.1.length + 1⟩ :: (aY (ao k) ((ae s).k.toNat + 2) (aa s)).2.1, (aY (ao k) ((ae s).k.toNat + 2) (aa s)).2.2) := fun h h2 => by rw [ao, if_neg (by omega), if_pos h2]
 have g2 : az s = 0 → ¬ ((ae s).k.toNat = 123 ∨ (ae s).k.toNat = 91) → bJ (ae s).k = true → ao (k + 1) key s = (3, [], s) := fun h h2 h3 => by rw [ao, if_neg (by omega), if_neg h2, if_pos h3]
 have g3 : az s = 0 → ¬ ((ae s).k.toNat = 123 ∨ (ae s).k.toNat = 91) → ¬ bJ (ae s).k = true → ao (k + 1) key s = (0, [⟨(ae s).k, key, (ae s).t, 1⟩], aa s) := fun h h2 h3 => by rw [ao, if_neg (by omega), if_neg h2, if_neg h3]
 have hk := (ae s).k.toNat_lt
 have hr := da s
 have hw2 : (ae s).k.toNat = 123 ∨ (ae s).k.toNat = 91 → (IntKind.u8.wrap (((ae s).k.toNat : Int) + 2)).toNat = (ae s).k.toNat + 2 := fun h => by rw [ko]; omega
 have hw3 : (ae s).k.toNat = 123 ∨ (ae s).k.toNat = 91 → IntKind.u8.wrap (((ae s).k.toNat : Int) + 2) = 93 ∨ IntKind.u8.wrap (((ae s).k.toNat : Int) + 2) = 125 := fun h => by rw [ko]; omega
 have hm2 : ∀ L : List Nd, (L.map aQ).length = L.length := fun L => List.length_map _
 have hm3 : ((aa s).1.map vT).length = (aa s).1.length := List.length_map _
 have hln : (aY (ao k) ((ae s).k.toNat + 2) (aa s)).2.1.length ≤ 10000000 := by
  by_cases h : (aY (ao k) ((ae s).k.toNat + 2) (aa s)).1 = 0
  . have := yE (nv k) h; omega
  . rw [DI h]; exact Nat.zero_le _
 repeat' ((conv => whnf); first | apply ak | apply aV | (apply al <;> intro h))
 all_goals try conv => whnf
 all_goals try (refine ab.mk ?_; try dsimp only)
 all_goals (try simp only [iM, du, km, fO, c5] at *)
 all_goals (try (exfalso; omega))
 all_goals (try rw [if_pos (show az s = 0 by assumption)] at *)
 all_goals first | refine stay ?_ | (exact ⟨gH, trivial⟩) | (simp (discharger := omega) [-List.getD_eq_getElem?_getD, wR] <;> omega) | skip
 all_goals (try rw [hw2 (by omega)] at *)
 all_goals (try rw [hdw] at *)
 all_goals (try rw [hm3] at *)
 all_goals (try simp only [hm2] at *)
 . exact ⟨gH, hw3 (by omega), by omega, by omega⟩
 . exact ⟨iJ, by omega, by omega⟩
 . rw [g1 (by assumption) (by omega)]
   refine a8.mk [.swap 0 6] ?_ <;> (repeat' first | trivial)
 . exact ⟨gH, hw3 (by omega), by omega, by omega⟩
 . exact ⟨iJ, by omega, by omega⟩
 . rw [g1 (by assumption) (by omega)]
   refine a8.mk [.swap 0 6] ?_ <;> (repeat' first | trivial)
 . rw [g2 (by assumption) (by omega) ((sH _).2 (by assumption))]
   (refine a8.mk [.tm 6 4, .swap 0 4] ?_ <;> (repeat' first | trivial | rfl | refine And.intro ?_ ?_))
 . rw [g3 (by assumption) (by omega) (fun q => absurd ((sH _).1 q) (by assumption))]
   refine a8.mk [.swap 0 4] ?_ <;> (repeat' first | trivial)
 . rw [g0 (by assumption)]
   (refine a8.mk [.tm 6 4, .swap 0 4] ?_ <;> (repeat' first | trivial | rfl | refine And.intro ?_ ?_))
theorem Ax : ∀ k, ay 37 (kf k)
 | 0 => by
   intro args sg pre x r he hp
   unfold kf at he
   split at he <;> cases he
   rename_i l e key d
   obtain ⟨h1, h2, h3⟩ := hp
   have el : (cR l).length = l.length := by have h := congrArg List.length h1; rw [List.length_map] at h; exact h.symm
   rw [tA h1]
   exact Gl (cR l, e) key d ⟨by omega, by show (cR l).length ≤ _; omega⟩
 | k + 1 => by
   have hv := I7 k (Ax k)
   intro args sg pre x r he hp
   unfold kf at he
   split at he <;> cases he
   rename_i l e key d
   obtain ⟨h1, h2, h3⟩ := hp
   have el : (cR l).length = l.length := by have h := congrArg List.length h1; rw [List.length_map] at h; exact h.symm
   rw [tA h1]
   exact Gm k hv (cR l, e) key d ⟨by omega, by show (cR l).length ≤ _; omega⟩
theorem Iq : ay 37 (kf 32) := Ax 32
end Go.Proofs.YtllncocibkgjkaaGreat
namespace Go.Proofs.YtllncocibkgjkaaGreat
open Go Go.VG
set_option maxRecDepth 100000
def Cd (n : Int) : Prop := 0 ≤ n ∧ n ≤ 100
theorem cE {n : Int} (h : decide (0 ≤ n ∧ n ≤ 100) = true) : Cd n := by unfold Cd; exact of_decide_eq_true h
theorem ud (t : List UInt8) : ∀ (n i : Nat) (a : Int), Cd (ba t n i a).2
 | 0, _, _ => by rw [ba]; exact cE rfl
 | n + 1, i, a => by
   rw [ba]
   repeat' split
   all_goals first
    | exact cE rfl
    | exact ud t n _ _
theorem JA (t : List UInt8) (i : Nat) (n : Int) : Cd (cL t i n).2.2 := by
 unfold cL
 repeat' split
 all_goals first
  | exact cE rfl
  | exact ud _ _ _ _
theorem DV (t : List UInt8) (i : Nat) : Cd (cA t i).2.2 := by
 unfold cA
 repeat' split
 all_goals first
  | exact cE rfl
  | exact ud _ _ _ _
  | exact JA _ _ _
theorem JD (t : List UInt8) (i : Nat) : Cd (bh t i).2.2 := by
 unfold bh
 repeat' split
 all_goals first
  | exact cE rfl
  | exact DV _ _
theorem BS (t : List UInt8) : ∀ (n i : Nat) (o : List UInt8), Cd (bU t n i o).1
 | 0, _, _ => by rw [bU]; exact cE rfl
 | n + 1, i, o => by
   rw [bU]
   repeat' split
   all_goals first
    | exact cE rfl
    | exact JD _ _
    | exact BS t n _ _
theorem nO {c : Cu} {k : Int} (h0 : c.c = 0) (h : Cd k) : Cd (c.fail k).c := by
 unfold Cu.fail
 rw [if_pos h0]; exact h
theorem K6 {c : Cu} (h0 : c.c = 0) : Cd c.dt.1.c := by
 unfold Cu.dt
 repeat' split
 . exact absurd h0 (by assumption)
 . exact nO h0 (cE rfl)
 . exact nO h0 (cE rfl)
 . show Cd c.c; rw [h0]; exact cE rfl
 . exact nO h0 (BS _ _ _ _)
theorem vh (t : List UInt8) (i : Nat) : Cd (cw t i).2 := by
 unfold cw
 repeat' split
 all_goals exact cE rfl
theorem Jc (t : List UInt8) (i : Nat) : Cd (cy t i).2 := by
 have hw : Cd (bm t i).2 := by
  unfold bm; split
  . exact cE rfl
  . exact vh _ _
 have hb : ∀ x, Cd x.2 → Cd (cj t x).2 := fun x hx => by
  unfold cj; split
  . exact vh _ _
  . exact hx
 have hp : ∀ x, Cd x.2 → Cd (ik t x).2 := fun x hx => by
  unfold ik; split
  . exact vh _ _
  . exact hx
 exact hp _ (hb _ hw)
theorem Jb {c : Cu} (h0 : c.c = 0) : Cd c.fj.1.c := by
 unfold Cu.fj
 repeat' split
 . exact absurd h0 (by assumption)
 . exact nO h0 (Jc _ _)
 . show Cd c.c; rw [h0]; exact cE rfl
theorem D0 (c : Cu) : ∀ (s : List UInt8) (i : Nat), Cd (cS c s i)
 | [], _ => cE rfl
 | b :: s, i => by
   unfold cS
   repeat' split
   all_goals first
    | exact cE rfl
    | exact D0 c s _
theorem CY {c : Cu} (h0 : c.c = 0) (k : UInt8) : Cd (c.cr k).1.c := by
 unfold Cu.cr
 split
 . exact nO h0 (D0 _ _ _)
 . show Cd c.c; rw [h0]; exact cE rfl
theorem Lv {d : Cu} (h0 : d.c = 0) : Cd d.ez.1.c := by
 have z : Cd d.c := by rw [h0]; exact cE rfl
 unfold Cu.ez
 repeat' split
 . exact z
 . exact z
 . exact K6 h0
 . exact Jb h0
 . exact CY h0 _
 . exact CY h0 _
 . exact nO h0 (cE rfl)
theorem J1 {c : Cu} (h0 : c.c = 0) : Cd c.aN.1.c := by
 unfold Cu.aN
 rw [if_neg (by omega)]
 exact Lv (d := { c with p := cg bQ c.a9 c.p }) h0
theorem kU {c : Cu} (h : c.live) : Cd c.ax := by
 have hs := ou h.1
 unfold Cu.ax
 repeat' split
 . rw [hs.2.1]; exact J1 h.2.1
 . exact cE rfl
 . exact cE rfl
def CdV (v : VF) : Prop := ∀ t key c, c.live → Cd (v t key c).1
theorem zA {v : VF} (hf : iy v) (hv : CdV v) : ∀ (n : Nat) (t : Tk) (c : Cu) (acc : List Nd), c.live → Cd (er v n t c acc).1
 | 0, _, _, _, _ => by rw [er]; exact cE rfl
 | n + 1, t, c, acc, hc => by
   rw [er]
   by_cases h1 : (v t [] c).1 ≠ 0
   . rw [if_pos h1]; exact hv _ _ _ hc
   rw [if_neg h1]
   have f1 := hf t [] c hc (by omega)
   by_cases h2 : (v t [] c).2.2.ax ≠ 0
   . rw [if_pos h2]; exact kU f1.live
   rw [if_neg h2]
   obtain ⟨l1, _⟩ := aX f1.live (by omega)
   by_cases h3 : (v t [] c).2.2.next.2.k.toNat = 93
   . rw [if_pos h3]; exact cE rfl
   rw [if_neg h3]
   by_cases h4 : (v t [] c).2.2.next.2.k.toNat ≠ 44
   . rw [if_pos h4]; exact cE rfl
   rw [if_neg h4]
   by_cases h5 : (v t [] c).2.2.next.1.ax ≠ 0
   . rw [if_pos h5]; exact kU l1
   rw [if_neg h5]
   obtain ⟨m1, _⟩ := aX l1 (by omega)
   exact zA hf hv n _ _ _ m1
theorem H0 {v : VF} (hf : iy v) (hv : CdV v) {c : Cu} (hc : c.live) : Cd (b9 v c).1 := by
 unfold b9
 by_cases h1 : c.ax ≠ 0
 . rw [if_pos h1]; exact kU hc
 rw [if_neg h1]
 obtain ⟨l1, _⟩ := aX hc (by omega)
 split
 . exact cE rfl
 . exact zA hf hv _ _ _ _ l1
theorem zI {v : VF} (hf : iy v) (hv : CdV v) : ∀ (n : Nat) (t : Tk) (c : Cu) (ks : List (List UInt8)) (acc : List Nd), c.live → Cd (eu v n t c ks acc).1
 | 0, _, _, _, _, _ => by rw [eu]; exact cE rfl
 | n + 1, t, c, ks, acc, hc => by
   rw [eu]
   by_cases h0 : d9 t c ks ≠ 0
   . rw [if_pos h0]
     show Cd (d9 t c ks)
     unfold d9
     repeat' split
     all_goals first
      | exact cE rfl
      | exact kU hc
      | exact kU (aX hc (by omega)).1
   rw [if_neg h0]
   obtain ⟨_, _, q1, _, q2⟩ := s5 (t := t) (ks := ks) hc (by omega)
   obtain ⟨a1, _⟩ := aX hc q1
   obtain ⟨b1, _⟩ := aX a1 q2
   by_cases h1 : (bf v t c).1 ≠ 0
   . rw [if_pos h1]; exact hv _ _ _ b1
   rw [if_neg h1]
   have f1 : Fit c.next.1.next.1 (bf v t c) := hf _ _ _ b1 (show (bf v t c).1 = 0 by omega)
   by_cases h2 : (bf v t c).2.2.ax ≠ 0
   . rw [if_pos h2]; exact kU f1.live
   rw [if_neg h2]
   obtain ⟨l1, _⟩ := aX f1.live (by omega)
   by_cases h3 : (bf v t c).2.2.next.2.k.toNat = 125
   . rw [if_pos h3]; exact cE rfl
   rw [if_neg h3]
   by_cases h4 : (bf v t c).2.2.next.2.k.toNat ≠ 44
   . rw [if_pos h4]; exact cE rfl
   rw [if_neg h4]
   by_cases h5 : (bf v t c).2.2.next.1.ax ≠ 0
   . rw [if_pos h5]; exact kU l1
   rw [if_neg h5]
   obtain ⟨m1, _⟩ := aX l1 (by omega)
   exact zI hf hv n _ _ _ _ m1
theorem H4 {v : VF} (hf : iy v) (hv : CdV v) {c : Cu} (hc : c.live) : Cd (b6 v c).1 := by
 unfold b6
 by_cases h1 : c.ax ≠ 0
 . rw [if_pos h1]; exact kU hc
 rw [if_neg h1]
 obtain ⟨l1, _⟩ := aX hc (by omega)
 split
 . exact cE rfl
 . exact zI hf hv _ _ _ _ _ l1
theorem uJ : ∀ k, CdV (gv k)
 | 0 => fun t key c hc => by
   rw [gv]
   repeat' split
   all_goals exact cE rfl
 | k + 1 => fun t key c hc => by
   rw [gv]
   repeat' split
   . exact H4 (eX k) (uJ k) hc
   . exact H0 (eX k) (uJ k) hc
   all_goals exact cE rfl
end Go.Proofs.YtllncocibkgjkaaGreat
namespace Go.Proofs.YtllncocibkgjkaaGreat
open Go Go.VG
set_option maxRecDepth 100000
noncomputable def cxr (l : List (Nat × Sm)) (p : List (Nat × eD)) (h : List (Nat × List e9)) : Ctx := ⟨Tryz.prog, tt, fL, fun f => lP l f, fun _ _ _ => False, fun r => oc h r, fun _ => false, fun _ _ _ _ => none, fun f => od p f, fun _ => false⟩
theorem goodr {l : List (Nat × Sm)} {p : List (Nat × eD)} {hs : List (Nat × List e9)} (h : me l) (hp : OKp p) : bK (cxr l p hs) where
 ti := oT
 mt := fun _ _ _ h => h.elim
 hm := q9
 gam := fun f args sg pre x r h' hp => oe h args sg pre x r h' hp
 del := fun f args sg pre c u r x r2 h' hq => rX hp args sg pre c u r x r2 h' hq
theorem Gt (s : List UInt8) (hp : s.length ≤ 10000000) : OK 13 [.str s] [] (.tuple [.buf 0, .int .i64 (d6 s)]) (some [.buf 4 0 ((di s).map aQ)]) := by
 refine GV (C := cxr [(39, wc)] [(42, kO), (41, il 32), (43, vB)] [(3, [.cell 3 1 4])]) (goodr ⟨Hm, trivial⟩ ⟨mM, AA 32, Iu, trivial⟩) (gf := 40) (fn := Tryz.f13) rfl rfl rfl rfl rfl rfl rfl rfl rfl rfl fun hw hs => ?_
 have hc : (Cu.new s).live := ⟨⟨Nat.zero_le _, Nat.le_refl _⟩, rfl, hp⟩
 have hn := fun h => aX hc h
 have hrg : ∀ {n : Int}, Cd n → -9223372036854775808 ≤ n ∧ n ≤ 9223372036854775807 := fun h => ⟨by have := h.1; omega, by have := h.2; omega⟩
 have hnil : ∀ {n : Int}, d6 s = n → n ≠ 0 → di s = [] := fun h h0 => by unfold di; rw [if_neg (by rw [h]; exact h0)]
 repeat' ((conv => whnf); first | with_reducible refine gD ?_ (fun h => ?_) fun h => ?_ | apply ak)
 all_goals try conv => whnf
 all_goals try (refine ab.mk ?_; try dsimp only)
 all_goals (try simp only [aP, l5] at *)
 . rfl
 . exact ⟨trivial, hc.1, hc.2.2⟩
 . have e : d6 s = (Cu.new s).ax := by unfold d6; rw [if_pos (by assumption)]
   rw [hnil e (by assumption), e]
   refine kZ.mk _ (u7 _ (hrg (kU hc))) rfl ?_
   refine a8.mk [.cell 0 0 4, .swap 0 6] ?_ <;> (repeat' first | trivial)
 all_goals
  have h0 : ¬ (Cu.new s).ax ≠ 0 := by assumption
  obtain ⟨l1, l2, l3, l4, _⟩ := hn (by omega)
  have hkk := (Cu.new s).next.2.k.toNat_lt
  have le := l1.1
  have he : (Cu.new s).e = s.length := rfl
  have fit := eX 32 (Cu.new s).next.2 [] (Cu.new s).next.1 l1
 . exact ⟨by omega, l1, by decide, ⟨[], rfl⟩, by show 0 + _ + 1 ≤ _; omega⟩
 . have e : d6 s = (gv 32 (Cu.new s).next.2 [] (Cu.new s).next.1).1 := by unfold d6; rw [if_neg h0, if_pos (by assumption)]
   rw [hnil e (by assumption), e]
   refine kZ.mk _ (u7 _ (hrg (uJ 32 _ _ _ l1))) rfl ?_
   refine a8.mk [.cell 0 0 4, .swap 0 6] ?_ <;> (repeat' first | trivial)
 all_goals
  have h1 : ¬ (gv 32 (Cu.new s).next.2 [] (Cu.new s).next.1).1 ≠ 0 := by assumption
  have f := fit (by omega)
 . exact ⟨trivial, f.live.1, f.live.2.2⟩
 . have e : d6 s = 2 := by unfold d6; rw [if_neg h0, if_neg h1, if_pos (by assumption)]
   rw [hnil e (by decide), e]
   refine kZ.mk _ (u7 2 (by decide)) rfl ?_
   refine a8.mk [.cell 0 0 4, .swap 0 6] ?_ <;> (repeat' first | trivial)
 . have e : d6 s = 0 := by unfold d6; rw [if_neg h0, if_neg h1, if_neg (by assumption)]
   have el : di s = (gv 32 (Cu.new s).next.2 [] (Cu.new s).next.1).2.1 := by unfold di; rw [if_pos e]
   rw [el, e]
   refine kZ.mk _ (DA _ ?_) rfl ?_
   . (repeat' first | trivial | rfl | refine And.intro ?_ ?_)
   refine a8.mk [.swap 0 4] ?_ <;> (repeat' first | trivial)
end Go.Proofs.YtllncocibkgjkaaGreat
namespace Go.Proofs.YtllncocibkgjkaaGreat
open Go Go.VG
set_option maxRecDepth 100000
theorem Gi (s : List UInt8) (hp : s.length ≤ 10000000) : OK 8 ([.str s]) ([]) (.tuple [.buf 0, .int .i64 (iB s)]) (some [fJ (jo s)]) := by
 refine aq (C := cx [(36, xg), (37, (kf 32))]) (ar ⟨I9, (Iq), trivial⟩) (fn := Tryz.f8) rfl rfl rfl rfl fun hw hs => ?_
 have hml : ((aW (.new s)).1.map vT).length = (aW (.new s)).1.length := List.length_map _
 have htl : (aW (.new s)).1.length ≤ s.length := by
  have := CC (s.length + 1) (.new s) (Bh s)
  exact this
 repeat' ((conv => whnf); first | apply ak | apply aV | (apply al <;> intro h))
 all_goals try conv => whnf
 all_goals try (refine ab.mk ?_; try dsimp only)
 all_goals (try simp only [iM, du, km, fO, c5] at *)
 all_goals (try (exfalso; omega))
 all_goals first | refine stay ?_ | trivial | skip
 all_goals (try have hmm : ((ao 32 [] (aW (.new s))).2.2.1.map vT).length = (ao 32 [] (aW (.new s))).2.2.1.length := List.length_map _)
 . exact ⟨gH, rfl, by omega⟩
 . have e : iB s = 2 := by unfold iB; rw [if_neg (by omega), if_pos (.inl (by omega))]
   have el : jo s = [] := by unfold jo; rw [if_neg (by rw [e]; decide)]
   rw [e, el]
   refine a8.mk [.tm 2 4, .swap 0 3] ?_ <;> (repeat' first | trivial)
 . have e : iB s = 0 := by unfold iB; rw [if_neg (by omega), if_neg (by omega)]
   have el : jo s = (ao 32 [] (aW (.new s))).2.1 := by unfold jo; rw [if_pos e]
   rw [e, el]
   refine a8.mk [.swap 0 1] ?_ <;> (repeat' first | trivial)
 . have e : iB s = 2 := by unfold iB; rw [if_neg (by omega), if_pos (.inr (by assumption))]
   have el : jo s = [] := by unfold jo; rw [if_neg (by rw [e]; decide)]
   rw [e, el]
   refine a8.mk [.tm 2 4, .swap 0 3] ?_ <;> (repeat' first | trivial)
 . have e : iB s = (ao 32 [] (aW (.new s))).1 := by unfold iB; rw [if_pos (by assumption)]
   have el : jo s = [] := by unfold jo; rw [if_neg (by rw [e]; assumption)]
   rw [e, el]
   refine a8.mk [.tm 2 4, .swap 0 3] ?_ <;> (repeat' first | trivial)
end Go.Proofs.YtllncocibkgjkaaGreat
namespace Go.Proofs.YtllncocibkgjkaaGreat
open Go Go.VG
set_option maxRecDepth 100000
def xi (R : List UInt8 → Int × List Nd) : Sm := fun args σ => match args, σ with
 | [.str s], [] => some (s.length ≤ 10000000, .tuple [.buf 0, .int .i64 (R s).1], some [fJ (R s).2])
 | _, _ => none
theorem Ic {R : List UInt8 → Int × List Nd} (hR : ∀ s, R s = (d6 s, di s)) : ay 13 (xi R) := by
 intro args sg pre x r he hp
 unfold xi at he
 split at he <;> cases he
 rw [hR]
 exact Gt _ hp
def xd (R : List UInt8 → Int × List Nd) : Sm := fun args σ => match args, σ with
 | [.str s], [] => some (s.length ≤ 10000000, .tuple [.buf 0, .int .i64 (R s).1], some [fJ (R s).2])
 | _, _ => none
theorem I5 {R : List UInt8 → Int × List Nd} (hR : ∀ s, R s = (d6 s, di s)) : ay 8 (xd R) := by
 intro args sg pre x r he hp
 unfold xd at he
 split at he <;> cases he
 rw [hR]
 have h := Gi _ hp
 rw [(CE hp).1, (CE hp).2] at h
 exact h
theorem H7 (d : Nat) {c : Cu} (hc : c.live) (t : Tk) (key : List UInt8) (h : (gv d t key c).1 = 0) : (gv d t key c).2.1.length ≤ c.s.length + 1 := by
 have f := eX d t key c hc h
 have h1 := f.len
 obtain ⟨h3, h4⟩ := f.live.1
 rw [f.e] at h3 h4
 rw [f.s] at h4
 omega
theorem CD {s : List UInt8} (h : s.length ≤ 10000000) : (di s).length ≤ s.length + 1 := by
 unfold di
 split
 . rename_i h0
   have hc : (Cu.new s).live := ⟨⟨Nat.zero_le _, Nat.le_refl _⟩, rfl, h⟩
   unfold d6 at h0
   by_cases h1 : (Cu.new s).ax ≠ 0
   . rw [if_pos h1] at h0; exact absurd h0 h1
   rw [if_neg h1] at h0
   obtain ⟨l1, l2, _⟩ := aX hc (by omega)
   by_cases h2 : (gv 32 (Cu.new s).next.2 [] (Cu.new s).next.1).1 ≠ 0
   . rw [if_pos h2] at h0; exact absurd h0 h2
   have := H7 32 l1 (Cu.new s).next.2 [] (by omega)
   rw [l2] at this
   exact this
 . exact Nat.zero_le _
end Go.Proofs.YtllncocibkgjkaaGreat
namespace Go.Proofs.YtllncocibkgjkaaGreat
open Go Go.VG
set_option maxRecDepth 100000
theorem JU {d : Nat} {L : List Nd} {x : List UInt8} (h : TT d L x) : ga L = x := by
 have h1 := h.pos.1
 have := h.put [] [] L.length (by simp)
 rw [List.append_nil, List.nil_append] at this
 unfold ga qm
 rw [if_neg (by omega)]
 exact this
theorem Bu {L : List Nd} {m : Nat} (h : nc m L) : ∀ (n a : Nat), a < L.length → (∀ k ∈ aJ L a, k < L.length) → ∀ o ∈ cn L n a, o.text.length ≤ m ∧ o.n = 0 ∧ 0 ≤ o.kind ∧ o.kind ≤ 255
 | 0, _, _, _, o, ho => by cases ho
 | n + 1, a, ha, _, o, ho => by
   have hg : ∀ k, k < L.length → (L.getD k default).key.length ≤ m ∧ (L.getD k default).t.length ≤ m := fun k hk => by
    rw [List.getD_eq_getElem?_getD, List.getElem?_eq_getElem hk]
    exact h _ (List.getElem_mem hk)
   have hk := (L.getD a default).k.toNat_lt
   have hks : ∀ ks : List Nat, (∀ k ∈ ks, k < L.length) → ∀ o ∈ fM (cn L n) L (L.getD a default).k ks, o.text.length ≤ m ∧ o.n = 0 ∧ 0 ≤ o.kind ∧ o.kind ≤ 255 := by
    intro ks
    induction ks with
    | nil => intro _ o ho; cases ho
    | cons k ks ih =>
      intro hb o ho
      rw [fM] at ho
      rcases List.mem_append.1 ho with ho | ho
      . split at ho
        . rw [List.mem_singleton.1 ho]; exact ⟨(hg k (hb k List.mem_cons_self)).1, rfl, by show (0 : Int) ≤ 107; decide, by show (107 : Int) ≤ 255; decide⟩
        . cases ho
      . rcases List.mem_append.1 ho with ho | ho
        . exact Bu h n k (hb k List.mem_cons_self) (fun j hj => (pP hj).2) o ho
        . exact ih (fun j hj => hb j (List.mem_cons_of_mem _ hj)) o ho
   rw [cn] at ho
   split at ho
   . rw [List.mem_singleton.1 ho]; exact ⟨(hg a ha).2, rfl, by show (0 : Int) ≤ ((L.getD a default).k.toNat : Int); omega, by show ((L.getD a default).k.toNat : Int) ≤ 255; omega⟩
   . rcases List.mem_cons.1 ho with rfl | ho
     . exact ⟨Nat.zero_le _, rfl, by show (0 : Int) ≤ ((L.getD a default).k.toNat : Int); omega, by show ((L.getD a default).k.toNat : Int) ≤ 255; omega⟩
     . rcases List.mem_append.1 ho with ho | ho
       . exact hks _ (fun j hj => (pP hj).2) o ho
       . rw [List.mem_singleton.1 ho]; exact ⟨Nat.zero_le _, rfl, by show (0 : Int) ≤ 101; decide, by show (101 : Int) ≤ 255; decide⟩
theorem uO {k0 : UInt8} : ∀ l : List It, (∀ x ∈ l, (opsL x.1).length + 1 ≤ 3 * x.1.length) → (l.flatMap (gE k0)).length ≤ 3 * (aw l).length
 | [], _ => Nat.zero_le _
 | x :: l, h => by
   have h1 := h x List.mem_cons_self
   have h2 := uO (k0 := k0) l fun y hy => h y (List.mem_cons_of_mem _ hy)
   rw [List.flatMap_cons, List.length_append]
   have h3 : (gE k0 x).length ≤ (opsL x.1).length + 1 := by unfold gE; rw [List.length_append]; split <;> simp <;> omega
   show _ ≤ 3 * (x.1 ++ aw l).length
   rw [List.length_append]; omega
theorem TT.Jl {d : Nat} {L : List Nd} {x : List UInt8} (h : TT d L x) : (opsL L).length + 1 ≤ 3 * L.length := by
 induction h with
 | leaf d k key t h hl =>
   have k0 : k.toNat = 115 ∨ k.toNat = 110 ∨ k.toNat = 116 ∨ k.toNat = 102 ∨ k.toNat = 122 := of_decide_eq_true hl
   have e : opsL [⟨k, key, t, 1⟩] = [⟨k.toNat, t, 0⟩] := by
    show (if k.toNat ≠ 123 ∧ k.toNat ≠ 91 then _ else _) = _
    rw [if_pos (by omega)]; rfl
   rw [e]; exact Nat.le_succ 2
 | lst d key l h hk ih =>
   have := uO (k0 := 91) l ih
   rw [se h (.inr rfl), List.length_cons, List.length_append, List.length_cons, List.length_cons, List.length_nil]; omega
 | obj d key l h hk ht ih =>
   have := uO (k0 := 123) l ih
   rw [se h (.inl rfl), List.length_cons, List.length_append, List.length_cons, List.length_cons, List.length_nil]; omega
structure xQ (s : List UInt8) (L : List Nd) : Prop where
 ok : gm L
 len : L.length ≤ 301
 pos : 0 < L.length
 ol : (opsL L).length ≤ 903
 ot : ∀ i, i < (opsL L).length → ((opsL L).getD i default).text.length ≤ 1200 ∧ ((opsL L).getD i default).n = 0 ∧ 0 ≤ ((opsL L).getD i default).kind ∧ ((opsL L).getD i default).kind ≤ 255
 tl : (ga L).length ≤ 5000000
 rd : qd L → (wA (opsL L) (opsL L).length).done = (ga L, 0)
 back : d6 (ga L) = 0 ∧ di (ga L) = L
theorem LA {s : List UInt8} (h : s.length ≤ 300) (h0 : d6 s = 0) : xQ s (di s) := by
 have hl := CD (s := s) (by omega)
 obtain ⟨x, h1, h2, h3⟩ := LB (s := s) (by omega) h0
 have h4 := h1.len h2
 have h5 := h1.sz
 have hm : (di s).length * (12 * (4 * s.length) + 30) ≤ 301 * (12 * (4 * s.length) + 30) := Nat.mul_le_mul_right _ (by omega)
 have ho := h1.Jl
 have hp := h1.pos.1
 have e := JU h1
 refine ⟨⟨fun z hz => ⟨(h5 z hz).1, (h5 z hz).2, by have := (h2 z hz).1; omega, by have := (h2 z hz).2; omega⟩, by omega⟩, by omega, by omega, by omega, fun i hi => ?_, by rw [e]; omega, fun hn => by rw [e]; exact LC h1 hn, by rw [e]; exact LF h1 h3 (by omega)⟩
 have := Bu h2 (di s).length 0 hp (fun k hk => (pP hk).2) ((opsL (di s)).getD i default) (by
  rw [List.getD_eq_getElem?_getD, List.getElem?_eq_getElem hi]
  exact List.getElem_mem hi)
 exact ⟨by omega, this.2⟩
theorem Jj (w : WS) (o : cD) (h : w.l.length ≤ 32) : (w.op o).l.length ≤ 32 := by
 have h1 := fA w
 unfold WS.op WS.begin WS.fin WS.key WS.put WS.fail WS.fD
 repeat' split
 all_goals ((try simp only [List.length_append, List.length_cons, List.length_nil, List.length_set, List.length_take]) <;> omega)
theorem CV {l : List cD} {m : Nat} (h : ∀ i, i < l.length → (l.getD i default).text.length ≤ m ∧ (l.getD i default).n = 0 ∧ 0 ≤ (l.getD i default).kind ∧ (l.getD i default).kind ≤ 255) : ∀ i, i ≤ l.length → (wA l i).out.length ≤ i * (6 * m + 30) ∧ (wA l i).l.length ≤ 32
 | 0, _ => by simp [wA, WS.new]
 | i + 1, hi => by
   obtain ⟨a, b⟩ := CV h i (by omega)
   obtain ⟨h1, h2, _⟩ := h i (by omega)
   have := Jk (wA l i) (l.getD i default) (by rw [h2]; decide)
   have := Jj (wA l i) (l.getD i default) b
   rw [CW (by omega), Nat.add_mul]
   omega
theorem Gy {R : List UInt8 → Int × List Nd} (hR : ∀ s, R s = (d6 s, di s)) (s : List UInt8) : OK 3 [.str s] [] (.bool true) none := by
 refine aq (C := cxh [(7, wO), (8, xd R), (9, sU), (10, wP), (11, wN), (12, sO), (13, xi R), (14, xe)] [(4, [.dQ 0])]) (ar ⟨HM, I5 hR, Ac, HN, HL, A7, Ic hR, I6, trivial⟩) (fn := Tryz.f3) rfl rfl rfl rfl fun hw hs => ?_
 have hf : s.length ≤ 300 → (R s).2.length ≤ 301 ∧ ((R s).1 = 0 → xQ s (R s).2) := fun h => by
  rw [hR]
  have := CD (s := s) (by omega)
  exact ⟨by show (di s).length ≤ _; omega, fun h0 => LA h h0⟩
 have hml : ((R s).2.map aQ).length = (R s).2.length := List.length_map _
 repeat' ((conv => whnf); first | apply ak | (apply al <;> intro h))
 all_goals try conv => whnf
 all_goals try (refine ab.mk ?_; try dsimp only)
 all_goals (try simp only [du] at *)
 all_goals first | refine stay ?_ | omega | skip
 . refine a8.mk [] ?_ <;> (repeat' first | trivial)
 obtain ⟨hL, hT⟩ := hf (by omega)
 have hTb : (R s).1 = 0 → R (ga (R s).2) = (0, (R s).2) := fun h0 => by
  rw [hR (ga _)]
  exact Prod.ext (hT h0).back.1 (hT h0).back.2
 generalize (R s).2 = L at *
 generalize (R s).1 = e at *
 refine bn.mk Nat (fun i => i ≤ L.length ∧ ∀ j, j < i → (L.getD j default).k.toNat ≠ 110) (fun i => ⟨85, [(3, .list false 4 (L.map aQ)), (4, .int .i64 e), (5, .int .i64 i)], [.dead], []⟩) (fun i => L.length - i) [] 0 ⟨Nat.zero_le _, fun j hj => absurd hj (Nat.not_lt_zero j)⟩ ?_ (fun i ⟨hi, hj⟩ _ _ => ?_)
 . refine Go.VG.Sub.mk rfl ?_ ?_ ?_ ?_ <;> (repeat' first | trivial)
 repeat' ((conv => whnf); first | apply ak | apply aV | (apply al <;> intro h) | with_reducible apply jw)
 all_goals try conv => whnf
 all_goals try (refine ab.mk ?_; try dsimp only)
 all_goals (try simp only [du] at *)
 all_goals first | refine stay ?_ | omega | skip
 all_goals (try have hT := hT (by omega))
 all_goals (try have hTb := hTb (by omega))
 . refine a8.mk [] ?_ <;> (repeat' first | trivial)
 . refine ⟨[], i + 1, ⟨by omega, fun j hjj => ?_⟩, ?_, by omega⟩
   . rcases Nat.lt_or_eq_of_le (Nat.le_of_lt_succ hjj) with q | q
     . exact hj j q
     . subst q; omega
   . refine Go.VG.Sub.mk rfl ?_ ?_ ?_ ?_ <;> (repeat' first | trivial | apply aj | apply aR)
     all_goals (simp (discharger := omega) only [wR]; omega)
 . exact ⟨iJ, hT.ok, hT.pos, by have := hT.ol; omega⟩
 . have hn : qd L := fun z hz => by
     obtain ⟨j, hjl, rfl⟩ := List.mem_iff_getElem.1 hz
     have := hj j (by omega)
     rw [List.getD_eq_getElem?_getD, List.getElem?_eq_getElem hjl] at this
     exact this
   have hdone := hT.rd hn
   have hol := hT.ol
   have hot := hT.ot
   have htl := hT.tl
   have hok := hT.ok
   generalize opsL L = l at *
   have hwl := CV hot
   have hlm : (l.map eo).length = l.length := List.length_map _
   refine bn.mk Nat (fun i => i ≤ l.length) (fun i => ⟨85, [(3, .list false 4 (L.map aQ)), (6, .ptr 1 0), (7, .buf 4), (8, .int .i64 i)], [.dead, .cells [.buf 2, .buf 3, .bool (wA l i).whole, .int .i64 (wA l i).code, .func (.func 38) [] []], .buf 1 0 (bl (wA l i).out), .buf 3 0 ((wA l i).l.map ef), .buf 3 0 (l.map eo)], [2, 3]⟩) (fun i => l.length - i) [] 0 (Nat.zero_le _) ?_ (fun i hi _ _ => ?_)
   . refine Go.VG.Sub.mk rfl ?_ ?_ ?_ ?_ <;> (repeat' first | trivial)
   have hwi := hwl i hi
   have hoi := fun h => hot i h
   have wn : i < l.length → (bq (bl (wA l i).out) ((wA l i).l.map ef) (wA l i).whole (wA l i).code).op ⟨(l.getD i default).kind, (l.getD i default).text, (l.getD i default).n⟩ = wA l (i + 1) := fun h => by rw [bR]; exact (CW h).symm
   repeat' ((conv => whnf); first | apply ak | ((first | apply al | apply go9) <;> intro h) | with_reducible apply jw)
   all_goals try conv => whnf
   all_goals try (refine ab.mk ?_; try dsimp only)
   all_goals (try simp only [du] at *)
   all_goals first | refine stay ?_ | omega | skip
   . have hoi := hoi (by omega)
     rw [bR]; exact ⟨trivial, ie (by omega) (by omega), ⟨by omega, by omega⟩, by omega⟩
   . have hlt : i < l.length := by omega
     refine ⟨[], i + 1, by omega, ?_, by omega⟩
     simp only [wn hlt]
     refine Go.VG.Sub.mk rfl ?_ ?_ ?_ ?_ <;> (repeat' first | trivial | apply aj | apply aR)
     (simp (discharger := omega) only [wR]; omega)
   . exact ⟨ie (by omega) (by omega), trivial⟩
   all_goals
    have ei : i = l.length := by omega
    subst ei
    clear wn
    simp only [bR, hdone, hTb, du, ne_eq, not_true_eq_false, true_implies] at *
   . omega
   . exact ⟨iJ, hok, by omega⟩
   . refine a8.mk [] ?_ <;> (repeat' first | trivial)
 . refine a8.mk [] ?_ <;> (repeat' first | trivial)
theorem Gx (s : List UInt8) : OK 3 [.str s] [] (.bool true) none := Gy (R := fun s => (d6 s, di s)) (fun _ => rfl) s
end Go.Proofs.YtllncocibkgjkaaGreat
