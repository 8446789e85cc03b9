/-
  A tree of JSON: its text (the program's functions and the document's).
-/
import Derived.Test.YtllncocibkgjkaaTRp
set_option linter.unusedSimpArgs false
set_option linter.unusedVariables false
set_option maxHeartbeats 4000000
namespace Go.Proofs.Ytllncocibkgjkaa
open Go Go.VG
set_option maxRecDepth 100000
theorem a6v {L : List Nd} {e : Nat} : ∀ (n p k : Nat), k ∈ ak3 L e n p → p ≤ k ∧ k < e
  | 0, _, _, h => by cases h
  | n + 1, p, k, h => by
    rw [ak3] at h
    split at h
    · rcases List.mem_cons.1 h with rfl | h
      · exact ⟨Nat.le_refl _, by assumption⟩
      · have := a6v n _ k h; omega
    · cases h
theorem baq {L : List Nd} {a k : Nat} (h : k ∈ aca L a) : a < k ∧ k < L.length := by
  have := a6v _ _ _ h
  have := aon L a
  omega
theorem a6u {L : List Nd} {e : Nat} : ∀ (n p : Nat), (ak3 L e n p).length ≤ n
  | 0, _ => Nat.le_refl _
  | n + 1, p => by
    rw [ak3]
    split
    · have := a6u (L := L) (e := e) n (p + (L.getD p default).sz.toNat)
      rw [List.length_cons]; omega
    · exact Nat.zero_le _
theorem bap (L : List Nd) (a : Nat) : (aca L a).length ≤ L.length := a6u _ _
theorem awu {f : Nat → List UInt8} {L : List Nd} {k0 : UInt8} {K : List Nat} {i : Nat} (h : i < K.length) :
    a50 f L k0 (K.drop i) i = (if i = 0 then [] else [44]) ++ ((if k0.toNat = 123 then quote (L.getD (K.getD i default) default).key ++ [58] else []) ++ (f (K.getD i default) ++ a50 f L k0 (K.drop (i + 1)) (i + 1))) := by
  rw [List.drop_eq_getElem_cons h, List.getD_eq_getElem?_getD (l := K), List.getElem?_eq_getElem h]
  rfl
theorem a12 {f : Nat → List UInt8} {L : List Nd} {k0 : UInt8} {K : List Nat} {i : Nat} (h : K.length ≤ i) : a50 f L k0 (K.drop i) i = [] := by
  rw [List.drop_of_length_le h]; rfl
-- #name trPut jtree.put
def am2 (n : Nat) : Sm := fun args σ => match args, σ with
  | [.buf 0, .list c 4 N, .int .i64 (.ofNat a)], [.buf 1 0 l] => some (okN N ∧ a2b (upN N) ∧ a < (upN N).length ∧ (upN N).length - a ≤ n ∧ l.length + (ag7 (upN N) n a).length ≤ 100000000, .buf 0, some [.buf 1 0 (l ++ bl (ag7 (upN N) n a))])
  | _, _ => none
theorem bf4 {k : UInt8} (h : k.toNat = 123 ∨ k.toNat = 91) : IntKind.u8.wrap ((k.toNat : Int) + 2) = if k.toNat = 123 then 125 else 93 := by
  rw [wu8]; split <;> omega
theorem bca {k : UInt8} (h : k.toNat = 123 ∨ k.toNat = 91) : bl [if k.toNat = 123 then 125 else 93] = [V.int .u8 (IntKind.u8.wrap ((k.toNat : Int) + 2))] := by
  rw [bf4 h]
  split <;> rfl
structure PI (f : Nat → List UInt8) (L : List Nd) (k0 : UInt8) (K : List Nat) (x : Nat × List UInt8) : Prop where
  i : x.1 ≤ K.length
  e : a50 f L k0 K 0 = x.2 ++ a50 f L k0 (K.drop x.1) x.1
theorem bd6 (n : Nat) (hv : SOK 61 (am2 n)) (c : Bool) (L : List Nd) (l : List V) (a : Nat) (hp : a2b L ∧ a < L.length ∧ L.length - a ≤ n + 1 ∧ l.length + (ag7 L (n + 1) a).length ≤ 100000000) : OK 61 [.buf 0, .list c 4 (L.map eNd), .int .i64 a] [.buf 1 0 l] (.buf 0) (some [.buf 1 0 (l ++ bl (ag7 L (n + 1) a))]) := by
  refine aa0 (C := cx [(12, aut), (30, am1), (36, aea), (61, am2 n)]) (abh ⟨bdr, a0x, aiq, hv, trivial⟩) (fn := Try.f61) rfl rfl rfl rfl fun hw hs => ?_
  obtain ⟨h1, h2, h3, h4⟩ := hp
  have hml : (L.map eNd).length = L.length := List.length_map _
  have hna := azj h1 h2
  have hki := a0y h2
  have hll := h1.2
  have hk0 := (L.getD a default).k.toNat_lt
  have hkl := bap L a
  have g1 : (L.getD a default).k.toNat ≠ 123 → (L.getD a default).k.toNat ≠ 91 → ag7 L (n + 1) a = ark ⟨(L.getD a default).k, (L.getD a default).t⟩ := fun q1 q2 => by rw [ag7, if_pos ⟨q1, q2⟩]
  have g2 : (L.getD a default).k.toNat = 123 ∨ (L.getD a default).k.toNat = 91 → ag7 L (n + 1) a = (L.getD a default).k :: (a50 (ag7 L n) L (L.getD a default).k (aca L a) 0 ++ [if (L.getD a default).k.toNat = 123 then 125 else 93]) := fun q => by rw [ag7, if_neg (by omega)]
  have hkm : ∀ i, i < (aca L a).length → a < (aca L a).getD i default ∧ (aca L a).getD i default < L.length := fun i hi => by
    rw [List.getD_eq_getElem?_getD, List.getElem?_eq_getElem hi]
    exact baq (List.getElem_mem hi)
  repeat' ((conv => whnf); first | with_reducible (first | refine go1 (fun j q h => ?_) fun h => ?_ | refine go2 ⟨rfl, rfl⟩ (fun h => ?_) fun j h => ?_ | refine go2 ?_ (fun h => ?_) fun j h => ?_ | refine goQ ?_ (fun h => ?_) fun h => ?_) | refine go3 ?_ ?_ | refine go4 ?_ ?_ | refine go5 ?_ | ((first | refine go6 ?_ ?_ | refine go7 ?_ ?_ | refine go8 ?_ ?_ | refine go9 ?_ ?_ | refine goA ?_ ?_) <;> intro h) | with_reducible (first | refine aai.mk _ rfl ?_ | refine goB ?_ fun hc => ?_ | refine goC ?_ fun hc => ?_ | refine goD ?_ fun hc => ?_ | refine goE ?_ fun hc => ?_ | refine goF ?_ ?_ | refine goG ?_ ?_ | refine goH ?_ fun b hb => ?_) | refine goI ?_ | refine goJ ?_ ?_ | refine goK ?_ ?_ ?_ | refine goL ?_ ?_ ?_ ?_ | refine goM ?_ ?_ ?_ ?_ ?_ | refine goN ?_ ?_ | refine goO ?_ ?_ | with_reducible refine goP ?_)
  all_goals try conv => whnf
  all_goals try (refine aac.mk ?_; try dsimp only)
  all_goals (try simp only [aaa, aaf, hki] at *)
  all_goals (try simp only [aaa, aaf] at *)
  all_goals first
    | (exact aco)
    | (refine stay ?_)
    | (first | trivial | omega | (simp (discharger := omega) only [wR]; omega) | (simp only [lnS]; omega) | (simp (discharger := omega) [-List.getD_eq_getElem?_getD, wR] <;> omega)) | skip
  · exact ⟨aco, h1⟩
  · rw [g2 (by omega)] at h4 ⊢
    refine abt.mk (Nat × List UInt8) (PI (ag7 L n) L (L.getD a default).k (aca L a)) (fun x => ⟨71, [(0, .buf 0), (1, .list c 4 (L.map eNd)), (2, .int .i64 a), (7, .ptr 1 0), (36, .buf 2), (37, .int .i64 (aca L a).length), (38, .int .i64 x.1)], [.buf 1 0 (l ++ [.int .u8 (L.getD a default).k.toNat] ++ bl x.2), .cells (eNc (L.getD a default)), .buf 1 0 ((aca L a).map nI)], [0]⟩) (fun x => (aca L a).length - x.1) [] (0, []) ⟨Nat.zero_le _, rfl⟩ ?_ (fun ⟨i, pre⟩ ⟨hi, he⟩ _ _ => ?_)
    · refine Go.VG.Sub.mk rfl ?_ ?_ ?_ ?_ <;> (repeat' first | trivial | rfl | exact eqS _ _ | apply And.intro | apply eqA | apply eqB | apply eqC | apply eqD | apply eqE | apply eqF | apply eqG | apply eqH | apply eqI)
      all_goals first
        | (rw [ax1]; done)
        | (exact (List.append_nil _).symm)
    dsimp only at hi he
    have hst := fun h => awu (f := ag7 L n) (L := L) (k0 := (L.getD a default).k) (K := aca L a) (i := i) h
    have hfin := fun h => a12 (f := ag7 L n) (L := L) (k0 := (L.getD a default).k) (K := aca L a) (i := i) h
    have hlen := congrArg List.length he
    rw [List.length_append] at hlen
    rw [List.length_cons, List.length_append, List.length_singleton] at h4
    have hkm := hkm i
    have hnk := fun h : i < (aca L a).length => azj h1 (hkm h).2
    have hmk := ax1 (aca L a)
    have hbl := aap pre
    repeat' ((conv => whnf); first | with_reducible (first | refine go1 (fun j q h => ?_) fun h => ?_ | refine go2 ⟨rfl, rfl⟩ (fun h => ?_) fun j h => ?_ | refine go2 ?_ (fun h => ?_) fun j h => ?_ | refine goQ ?_ (fun h => ?_) fun h => ?_) | refine go3 ?_ ?_ | refine go4 ?_ ?_ | refine go5 ?_ | ((first | refine go6 ?_ ?_ | refine go7 ?_ ?_ | refine go8 ?_ ?_ | refine go9 ?_ ?_ | refine goA ?_ ?_) <;> intro h) | with_reducible (first | refine aai.mk _ rfl ?_ | refine goB ?_ fun hc => ?_ | refine goC ?_ fun hc => ?_ | refine goD ?_ fun hc => ?_ | refine goE ?_ fun hc => ?_ | refine goF ?_ ?_ | refine goG ?_ ?_ | refine goH ?_ fun b hb => ?_) | refine goI ?_ | refine goJ ?_ ?_ | refine goK ?_ ?_ ?_ | refine goL ?_ ?_ ?_ ?_ | refine goM ?_ ?_ ?_ ?_ ?_ | refine goN ?_ ?_ | refine goO ?_ ?_ | with_reducible refine goP ?_)
    all_goals try conv => whnf
    all_goals try (refine aac.mk ?_; try dsimp only)
    all_goals (try simp only [aaa, aaf] at *)
    all_goals (try simp only [aaa, aaf] at *)
    all_goals first
      | (exact aco)
      | (refine stay ?_)
      | (first | trivial | omega | (simp (discharger := omega) only [wR]; omega) | (simp only [lnS]; omega) | (simp (discharger := omega) [-List.getD_eq_getElem?_getD, wR] <;> omega)) | skip
    all_goals first
      | (show aa9 _ _ _ _ _ _
         rw [hfin (by omega), List.append_nil] at he
         rw [he]
         refine aa9.mk [] ?_ <;> (repeat' first | trivial | rfl | exact eqS _ _ | apply And.intro | apply eqA | apply eqB | apply eqC | apply eqD | apply eqE | apply eqF | apply eqG | apply eqH | apply eqI)
         rw [show [V.int .u8 (IntKind.u8.wrap (((L.getD a default).k.toNat : Int) + 2))] = bl [if (L.getD a default).k.toNat = 123 then 125 else 93] from (bca (by omega)).symm]
         show _ = l ++ bl ([_] ++ (pre ++ _))
         rw [aau, aau, ← List.append_assoc, ← List.append_assoc]
         rfl)
      | skip
    all_goals
      have hlt : i < (aca L a).length := by omega
      have hs := hst hlt
      have hs2 : a50 (ag7 L n) L (L.getD a default).k (aca L a) 0 = (pre ++ ((if i = 0 then [] else [44]) ++ ((if (L.getD a default).k.toNat = 123 then quote (L.getD ((aca L a).getD i default) default).key ++ [58] else []) ++ ag7 L n ((aca L a).getD i default)))) ++ a50 (ag7 L n) L (L.getD a default).k (List.drop (i + 1) (aca L a)) (i + 1) := by
        rw [he, hs]; simp only [List.append_assoc]
      first
        | rw [if_pos (show i = 0 by omega)] at hs hs2
        | rw [if_neg (show ¬ i = 0 by omega)] at hs hs2
      first
        | rw [if_pos (show (L.getD a default).k.toNat = 123 by omega)] at hs hs2
        | rw [if_neg (show ¬ (L.getD a default).k.toNat = 123 by omega)] at hs hs2
      have hsl := congrArg List.length hs
      simp only [List.length_append, List.length_cons, List.length_nil] at hsl
      first
        | (simp only [List.length_append, List.length_cons, List.length_nil, aap]; omega)
        | (refine ⟨aco, h1, (hkm hlt).2, by have := (hkm hlt).1; omega, ?_⟩
           simp only [List.length_append, List.length_cons, List.length_nil, aap]; omega)
        | (refine ⟨[], (i + 1, _), ⟨hlt, hs2⟩, ?_, by show (aca L a).length - (i + 1) < (aca L a).length - i; omega⟩
           refine Go.VG.Sub.mk rfl ?_ ?_ ?_ ?_ <;> (repeat' first | trivial | rfl | exact eqS _ _ | apply And.intro | apply eqA | apply eqB | apply eqC | apply eqD | apply eqE | apply eqF | apply eqG | apply eqH | apply eqI)
           all_goals first
             | (show IntKind.i64.wrap _ = _; (first | omega | (simp (discharger := omega) only [wR]; omega) | (simp only [lnS]; omega) | (simp (discharger := omega) [-List.getD_eq_getElem?_getD, wR] <;> omega)))
             | (simp only [bl, aau, List.append_assoc, List.cons_append, List.nil_append]; done)
             | (simp only [bl, aau, List.append_assoc, List.cons_append, List.nil_append]; rfl))
  · exact ⟨aco, h1⟩
  · rw [g2 (by omega)] at h4 ⊢
    refine abt.mk (Nat × List UInt8) (PI (ag7 L n) L (L.getD a default).k (aca L a)) (fun x => ⟨71, [(0, .buf 0), (1, .list c 4 (L.map eNd)), (2, .int .i64 a), (7, .ptr 1 0), (36, .buf 2), (37, .int .i64 (aca L a).length), (38, .int .i64 x.1)], [.buf 1 0 (l ++ [.int .u8 (L.getD a default).k.toNat] ++ bl x.2), .cells (eNc (L.getD a default)), .buf 1 0 ((aca L a).map nI)], [0]⟩) (fun x => (aca L a).length - x.1) [] (0, []) ⟨Nat.zero_le _, rfl⟩ ?_ (fun ⟨i, pre⟩ ⟨hi, he⟩ _ _ => ?_)
    · refine Go.VG.Sub.mk rfl ?_ ?_ ?_ ?_ <;> (repeat' first | trivial | rfl | exact eqS _ _ | apply And.intro | apply eqA | apply eqB | apply eqC | apply eqD | apply eqE | apply eqF | apply eqG | apply eqH | apply eqI)
      all_goals first
        | (rw [ax1]; done)
        | (exact (List.append_nil _).symm)
    dsimp only at hi he
    have hst := fun h => awu (f := ag7 L n) (L := L) (k0 := (L.getD a default).k) (K := aca L a) (i := i) h
    have hfin := fun h => a12 (f := ag7 L n) (L := L) (k0 := (L.getD a default).k) (K := aca L a) (i := i) h
    have hlen := congrArg List.length he
    rw [List.length_append] at hlen
    rw [List.length_cons, List.length_append, List.length_singleton] at h4
    have hkm := hkm i
    have hnk := fun h : i < (aca L a).length => azj h1 (hkm h).2
    have hmk := ax1 (aca L a)
    have hbl := aap pre
    repeat' ((conv => whnf); first | with_reducible (first | refine go1 (fun j q h => ?_) fun h => ?_ | refine go2 ⟨rfl, rfl⟩ (fun h => ?_) fun j h => ?_ | refine go2 ?_ (fun h => ?_) fun j h => ?_ | refine goQ ?_ (fun h => ?_) fun h => ?_) | refine go3 ?_ ?_ | refine go4 ?_ ?_ | refine go5 ?_ | ((first | refine go6 ?_ ?_ | refine go7 ?_ ?_ | refine go8 ?_ ?_ | refine go9 ?_ ?_ | refine goA ?_ ?_) <;> intro h) | with_reducible (first | refine aai.mk _ rfl ?_ | refine goB ?_ fun hc => ?_ | refine goC ?_ fun hc => ?_ | refine goD ?_ fun hc => ?_ | refine goE ?_ fun hc => ?_ | refine goF ?_ ?_ | refine goG ?_ ?_ | refine goH ?_ fun b hb => ?_) | refine goI ?_ | refine goJ ?_ ?_ | refine goK ?_ ?_ ?_ | refine goL ?_ ?_ ?_ ?_ | refine goM ?_ ?_ ?_ ?_ ?_ | refine goN ?_ ?_ | refine goO ?_ ?_ | with_reducible refine goP ?_)
    all_goals try conv => whnf
    all_goals try (refine aac.mk ?_; try dsimp only)
    all_goals (try simp only [aaa, aaf] at *)
    all_goals (try simp only [aaa, aaf] at *)
    all_goals first
      | (exact aco)
      | (refine stay ?_)
      | (first | trivial | omega | (simp (discharger := omega) only [wR]; omega) | (simp only [lnS]; omega) | (simp (discharger := omega) [-List.getD_eq_getElem?_getD, wR] <;> omega)) | skip
    all_goals first
      | (show aa9 _ _ _ _ _ _
         rw [hfin (by omega), List.append_nil] at he
         rw [he]
         refine aa9.mk [] ?_ <;> (repeat' first | trivial | rfl | exact eqS _ _ | apply And.intro | apply eqA | apply eqB | apply eqC | apply eqD | apply eqE | apply eqF | apply eqG | apply eqH | apply eqI)
         rw [show [V.int .u8 (IntKind.u8.wrap (((L.getD a default).k.toNat : Int) + 2))] = bl [if (L.getD a default).k.toNat = 123 then 125 else 93] from (bca (by omega)).symm]
         show _ = l ++ bl ([_] ++ (pre ++ _))
         rw [aau, aau, ← List.append_assoc, ← List.append_assoc]
         rfl)
      | skip
    all_goals
      have hlt : i < (aca L a).length := by omega
      have hs := hst hlt
      have hs2 : a50 (ag7 L n) L (L.getD a default).k (aca L a) 0 = (pre ++ ((if i = 0 then [] else [44]) ++ ((if (L.getD a default).k.toNat = 123 then quote (L.getD ((aca L a).getD i default) default).key ++ [58] else []) ++ ag7 L n ((aca L a).getD i default)))) ++ a50 (ag7 L n) L (L.getD a default).k (List.drop (i + 1) (aca L a)) (i + 1) := by
        rw [he, hs]; simp only [List.append_assoc]
      first
        | rw [if_pos (show i = 0 by omega)] at hs hs2
        | rw [if_neg (show ¬ i = 0 by omega)] at hs hs2
      first
        | rw [if_pos (show (L.getD a default).k.toNat = 123 by omega)] at hs hs2
        | rw [if_neg (show ¬ (L.getD a default).k.toNat = 123 by omega)] at hs hs2
      have hsl := congrArg List.length hs
      simp only [List.length_append, List.length_cons, List.length_nil] at hsl
      first
        | (simp only [List.length_append, List.length_cons, List.length_nil, aap]; omega)
        | (refine ⟨aco, h1, (hkm hlt).2, by have := (hkm hlt).1; omega, ?_⟩
           simp only [List.length_append, List.length_cons, List.length_nil, aap]; omega)
        | (refine ⟨[], (i + 1, _), ⟨hlt, hs2⟩, ?_, by show (aca L a).length - (i + 1) < (aca L a).length - i; omega⟩
           refine Go.VG.Sub.mk rfl ?_ ?_ ?_ ?_ <;> (repeat' first | trivial | rfl | exact eqS _ _ | apply And.intro | apply eqA | apply eqB | apply eqC | apply eqD | apply eqE | apply eqF | apply eqG | apply eqH | apply eqI)
           all_goals first
             | (show IntKind.i64.wrap _ = _; (first | omega | (simp (discharger := omega) only [wR]; omega) | (simp only [lnS]; omega) | (simp (discharger := omega) [-List.getD_eq_getElem?_getD, wR] <;> omega)))
             | (simp only [bl, aau, List.append_assoc, List.cons_append, List.nil_append]; done)
             | (simp only [bl, aau, List.append_assoc, List.cons_append, List.nil_append]; rfl))
  · rw [g1 (by omega) (by omega)]
    refine aa9.mk [] ?_ <;> (repeat' first | trivial | rfl | exact eqS _ _ | apply And.intro | apply eqA | apply eqB | apply eqC | apply eqD | apply eqE | apply eqF | apply eqG | apply eqH | apply eqI)
theorem a11 : ∀ n, SOK 61 (am2 n)
  | 0 => by
    intro args sg pre x r he hp
    unfold am2 at he
    split at he <;> cases he
    obtain ⟨h1, h2, h3, h4, h5⟩ := hp
    exfalso; omega
  | n + 1 => by
    intro args sg pre x r he hp
    unfold am2 at he
    split at he <;> cases he
    obtain ⟨h1, h2, h3, h4, h5⟩ := hp
    obtain ⟨L, rfl, eL⟩ := unN h1
    rw [eL] at h2 h3 h4 h5 ⊢
    exact bd6 n (a11 n) _ L _ _ ⟨h2, h3, h4, h5⟩
def putA (L : List Nd) (a : Nat) : List UInt8 := ag7 L L.length a
-- #name trPutN jtree.put
def aqq : Sm := fun args σ => match args, σ with
  | [.buf 0, .list c 4 N, .int .i64 (.ofNat a)], [.buf 1 0 l] => some (okN N ∧ a2b (upN N) ∧ a < (upN N).length ∧ l.length + (putA (upN N) a).length ≤ 100000000, .buf 0, some [.buf 1 0 (l ++ bl (putA (upN N) a))])
  | _, _ => none
theorem bam : SOK 61 aqq := by
  intro args sg pre x r he hp
  unfold aqq at he
  split at he <;> cases he
  rename_i c N a l
  exact a11 (upN N).length _ _ _ _ _ rfl ⟨hp.1, hp.2.1, hp.2.2.1, Nat.sub_le _ _, hp.2.2.2⟩
def ahh (L : List Nd) : List UInt8 := if L.length = 0 then [] else putA L 0
theorem aw8 (c d : Bool) (b N : List V) (hp : okN N ∧ a2b (upN N) ∧ b.length + (ahh (upN N)).length ≤ 100000000) : OK 28 ([.list c 1 b, .list d 4 N]) ([]) (.buf 0) (some [.buf 1 0 (b ++ bl (ahh (upN N)))]) := by
  refine aa0 (C := cx [(61, aqq)]) (abh ⟨bam, trivial⟩) (fn := Try.f28) rfl rfl rfl rfl fun hw hs => ?_
  obtain ⟨h1, h2, h3⟩ := hp
  obtain ⟨L, rfl, eL⟩ := unN h1
  rw [eL] at h2 h3 ⊢
  have hml : (L.map eNd).length = L.length := List.length_map _
  have hll := h2.2
  have e0 : L.length = 0 → ahh L = [] := fun h => by unfold ahh; rw [if_pos h]
  have e1 : L.length ≠ 0 → ahh L = putA L 0 := fun h => by unfold ahh; rw [if_neg h]
  repeat' ((conv => whnf); first | with_reducible (first | refine go1 (fun j q h => ?_) fun h => ?_ | refine go2 ⟨rfl, rfl⟩ (fun h => ?_) fun j h => ?_ | refine go2 ?_ (fun h => ?_) fun j h => ?_ | refine goQ ?_ (fun h => ?_) fun h => ?_) | refine go3 ?_ ?_ | refine go4 ?_ ?_ | refine go5 ?_ | ((first | refine go6 ?_ ?_ | refine go7 ?_ ?_ | refine go8 ?_ ?_ | refine go9 ?_ ?_ | refine goA ?_ ?_) <;> intro h) | with_reducible (first | refine aai.mk _ rfl ?_ | refine goB ?_ fun hc => ?_ | refine goC ?_ fun hc => ?_ | refine goD ?_ fun hc => ?_ | refine goE ?_ fun hc => ?_ | refine goF ?_ ?_ | refine goG ?_ ?_ | refine goH ?_ fun b hb => ?_) | refine goI ?_ | refine goJ ?_ ?_ | refine goK ?_ ?_ ?_ | refine goL ?_ ?_ ?_ ?_ | refine goM ?_ ?_ ?_ ?_ ?_ | refine goN ?_ ?_ | refine goO ?_ ?_ | with_reducible refine goP ?_)
  all_goals try conv => whnf
  all_goals try (refine aac.mk ?_; try dsimp only)
  all_goals (try simp only [aaa, aaf] at *)
  all_goals (try simp only [aaa, aaf] at *)
  all_goals first
    | (exact aco)
    | (refine stay ?_)
    | (first | trivial | omega | (simp (discharger := omega) only [wR]; omega) | (simp only [lnS]; omega) | (simp (discharger := omega) [-List.getD_eq_getElem?_getD, wR] <;> omega)) | skip
  · rw [e0 (by omega)]
    refine aa9.mk [] ?_ <;> (repeat' first | trivial | rfl | exact eqS _ _ | apply And.intro | apply eqA | apply eqB | apply eqC | apply eqD | apply eqE | apply eqF | apply eqG | apply eqH | apply eqI)
    exact (List.append_nil _).symm
  · rw [e1 (by omega)] at h3
    exact ⟨aco, h2, by omega, h3⟩
  · rw [e1 (by omega)]
    refine aa9.mk [] ?_ <;> (repeat' first | trivial | rfl | exact eqS _ _ | apply And.intro | apply eqA | apply eqB | apply eqC | apply eqD | apply eqE | apply eqF | apply eqG | apply eqH | apply eqI)
def aks : Sm := fun args σ => match args, σ with
  | [.list c 1 b, .list d 4 N], [] => some (okN N ∧ a2b (upN N) ∧ b.length + (ahh (upN N)).length ≤ 100000000, .buf 0, some [.buf 1 0 (b ++ bl (ahh (upN N)))])
  | _, _ => none
theorem a40 : SOK 28 aks := by
  intro args sg pre x r he hp
  unfold aks at he
  split at he <;> cases he
  · exact aw8 (hp := hp) ..
end Go.Proofs.Ytllncocibkgjkaa
