/-
  A part of the proof.
-/
import Derived.Test.YtipejldppicijaaGreatDoorGI
set_option linter.unusedSimpArgs false
set_option linter.unusedVariables false
set_option maxHeartbeats 4000000
namespace Go.Proofs.YtipejldppicijaaGreatDoor
open Go Go.VG
set_option maxRecDepth 100000
theorem Ai {d : Nat} {i k : Int} {c : Cu} : (c8 d ⟨i, k, 0, 0, [], []⟩ c).1.raw.length ≤ c.s.length := by
 have h : (lC d k c).length ≤ c.s.length := by
  unfold lC
  split
  . exact Nat.zero_le _
  . rw [List.length_drop, List.length_take]; omega
 unfold c8
 repeat' split
 all_goals first
  | exact Nat.zero_le _
  | exact h
theorem tv {α : Type} {P : α → Prop} {l : List α} {x : α} (h : ∀ f ∈ l, P f) (k : P x) : ∀ f ∈ l ++ [x], P f := fun f hf => by
 rcases List.mem_append.1 hf with hf | hf
 . exact h f hf
 . rw [List.mem_singleton.1 hf]; exact k
theorem zd {d : Nat} {s : List UInt8} : ∀ (n : Nat) (c : Cu) (a : Int) (acc : List Fd) (r), c.ok → c.s = s → (∀ f ∈ acc, f.raw.length ≤ s.length) → gX d n c a acc = some r → ∀ f ∈ r.1, f.raw.length ≤ s.length
 | 0, _, _, _, _, _, _, _, h => by cases h
 | n + 1, c, a, acc, r, hc, hs, ha, h => by
   rw [gX] at h
   have hf := Kp.aI hc a
   have hv := Kp.c8 hf.1 d ⟨(c.aI a).1.1, (c.aI a).1.2, 0, 0, [], []⟩
   by_cases g : (c.aI a).1.2 = 0
   . rw [if_pos g] at h; cases h; exact ha
   . rw [if_neg g] at h
     refine zd n _ _ _ r hv.1 (by rw [hv.2.1, hf.2.1, hs]) (tv ha ?_) h
     have := Ai (d := d) (i := (c.aI a).1.1) (k := (c.aI a).1.2) (c := (c.aI a).2)
     rw [hf.2.1, hs] at this; exact this
theorem Hn (d : Int) (s : List UInt8) : ∀ f ∈ (c7 d s).2.2, f.raw.length ≤ s.length := by
 unfold c7
 split
 . intro f hf; cases hf
 . obtain ⟨r, hr⟩ := sa (31 - d).toNat s
   rw [hr]
   unfold gW
   dsimp only
   split
   . exact zd _ _ _ _ r (oK s) rfl (fun f hf => by cases hf) hr
   . intro f hf; cases hf
theorem sO {d : Nat} {k : Int} {s : List UInt8} : ∀ (m i : Nat) (c : Cu) (acc : List Fd), c.ok → c.s = s → (∀ f ∈ acc, f.raw.length ≤ s.length) → ∀ f ∈ (ey d k m i c acc).1, f.raw.length ≤ s.length
 | 0, _, _, _, _, _, h => h
 | m + 1, i, c, acc, hc, hs, h => by
   have ht := Aa hc
   have hv := Kp.c8 hc d ⟨i, k, 0, 0, [], []⟩
   rw [ey]
   repeat' split
   . exact h
   . refine sO m _ _ _ ht.1 (by rw [ht.2.1, hs]) (tv h ?_)
     unfold pH
     split <;> exact Nat.zero_le _
   . refine sO m _ _ _ hv.1 (by rw [hv.2.1, hs]) (tv h ?_)
     have := Ai (d := d) (i := i) (k := k) (c := c)
     rw [hs] at this; exact this
theorem EE (d : Int) (s : List UInt8) : ∀ f ∈ (c6 d s).2, f.raw.length ≤ s.length := by
 unfold c6
 split
 . intro f hf; cases hf
 . have hk := Kp.bm (oK s)
   unfold eN
   split
   . intro f hf; cases hf
   . exact sO _ _ _ _ hk.1 (by rw [hk.2.1]; rfl) (fun f hf => by cases hf)
theorem Ii {l : List Fd} {id d : Int} (h : ∀ f ∈ l, f.raw.length ≤ 1000000000) : (strs l id d).1.length ≤ 2147483647 ∧ ∀ x ∈ (strs l id d).1, x.length ≤ 1000000000 := by
 unfold strs
 cases hL : bA l id 9 with
 | none => exact ⟨Nat.zero_le _, fun _ h => by cases h⟩
 | some f =>
   have hf := h f (qJ (Nat.le_refl _) hL).1
   dsimp only
   repeat' split
   . exact ⟨Nat.zero_le _, fun _ h => by cases h⟩
   . refine ⟨by rw [List.length_map]; exact xn d f.raw, fun x hx => ?_⟩
     obtain ⟨g, hg, rfl⟩ := List.mem_map.1 hx
     have := EE d f.raw g hg; omega
   . exact ⟨Nat.zero_le _, fun _ h => by cases h⟩
def oD (r : List Tg × Int) : V := if r.2 = 0 then .tuple [eTl r.1, .int .i64 0] else .tuple [.list true 0 [], .int .i64 r.2]
theorem FT {r : List Tg × Int} (h : r.2 ≠ 0 → r.1 = []) : Wk (oD r) (.tuple [eTl r.1, .int .i64 r.2]) := by
 unfold oD
 by_cases q : r.2 = 0
 . rw [if_pos q, q]; exact Wk.refl _
 . rw [if_neg q, h q]; exact Wk.tuple (aC.cons (Wk.nil (.inl rfl)) (aC.refl _))
theorem Et {L : List (List UInt8)} (h : ∀ x ∈ L, x.length ≤ 1000000000) {i : Nat} (hi : i < L.length) : (L.getD i default).length ≤ 1000000000 := by
 refine h _ ?_
 rw [List.getD_eq_getElem?_getD, List.getElem?_eq_getElem hi]; exact List.getElem_mem hi
theorem CY (l : List Fd) (id d : Int) (hp : 0 ≤ d ∧ ∀ f ∈ l, f.raw.length ≤ 1000000000) (hd : d ≤ 1000000) (h0 : (strs l id d).2 = 0) : OK 12 [dt l, .int .i64 id, .int .i64 d] [] (oD (gD d (strs l id d).1 [])) none := by
 refine ai (C := cx [(14, ru), (7, uE)]) (aj ⟨xS, F6, trivial⟩) (fn := Tryz.f12) rfl rfl rfl rfl fun hw _ => ?_
 obtain ⟨hb1, hb2⟩ := Ii (id := id) (d := d) hp.2
 repeat' ((conv => whnf); first | apply a9 | apply aQ | (apply ao <;> intro h))
 all_goals try conv => whnf
 all_goals try (refine a8.mk ?_; try dsimp only)
 all_goals (try simp only [dd, h0] at *)
 all_goals first
  | exact ⟨trivial, hp⟩
  | exact ⟨di _, hp⟩
  | (exfalso; simp_all; done)
  | skip
 generalize (strs l id d).1 = L at *
 refine br.mk (Nat × List Tg) (fun (i, acc) => i ≤ L.length ∧ acc.length = i ∧ gD d (L.drop i) acc = gD d L []) (fun (i, acc) => ⟨47, [(2, .int .i64 d), (10, .buf 0), (25, .list false 1 (L.map V.str)), (26, .int .i64 L.length), (27, .int .i64 i)], [.buf 7 0 (acc.map mc)], [0]⟩) (fun x => L.length - x.1) [.tm 10 7] (0, []) ⟨Nat.zero_le _, rfl, by rw [List.drop_zero]⟩ ?_ (fun ⟨i, acc⟩ ⟨h1, h2, h3⟩ _ _ => ?_)
 . refine Go.VG.Sub.mk rfl ?_ ?_ ?_ ?_ <;> (repeat' first | trivial | apply ah | apply ax)
   all_goals first
    | rfl
    | (simp; done)
 have hb := fun h => Et hb2 (i := i) h
 have hst := fun h => H8 (d := d) (l := L) (acc := acc) (i := i) h
 rw [h3] at hst
 have hw1 : IntKind.i64.wrap (d + 1) = d + 1 := by rw [bS]; omega
 have hz : i = L.length → gD d L [] = (acc, 0) := fun q => by rw [← h3, q, List.drop_length]; rfl
 generalize hR : dy (d + 1) (L.getD i default) = R at *
 repeat' ((conv => whnf); first | apply a9 | apply aQ | (apply ao <;> intro h) | with_reducible apply l9)
 all_goals try conv => whnf
 all_goals try (refine a8.mk ?_; try dsimp only)
 all_goals (try simp only [List.length_map, hw1, hR] at *)
 all_goals first | refine stay ?_ | omega | (simp only [aV]; omega) | skip
 all_goals first
  | (exact ⟨by omega, hb (by omega)⟩)
  | skip
 all_goals try
  (show a7 _ _ _ _ _ _
   first
   | (rw [hst (by omega), if_pos (by assumption)]
      unfold oD
      rw [if_neg (by assumption)]
      refine a7.mk [] ?_ <;> (repeat' first | trivial)
      done)
   | (rw [hz (by omega)]
      unfold oD
      rw [if_pos rfl]
      refine a7.mk [.bD 0] ?_ <;> (repeat' first | trivial)
      done))
 rw [hst (by omega), if_neg (show ¬ R.2 ≠ 0 from fun z => z (by assumption))] at h3
 refine ⟨[], (i + 1, acc ++ [R.1]), ⟨by show i + 1 ≤ L.length; omega, by show (acc ++ [R.1]).length = i + 1; rw [List.length_append, List.length_singleton, h2], ?_⟩, ?_, by show L.length - (i + 1) < L.length - i; omega⟩
 . rw [hst (by omega), if_neg (show ¬ R.2 ≠ 0 from fun z => z (by assumption))]
 . refine Go.VG.Sub.mk rfl ?_ ?_ ?_ ?_ <;> (repeat' first | trivial | apply ah | apply ax | apply aG)
   . (simp (discharger := omega) only [wR]; omega)
   . simp
theorem CX (l : List Fd) (id d : Int) (hp : (0 ≤ d ∧ ∀ f ∈ l, f.raw.length ≤ 1000000000) ∧ (strs l id d).2 ≠ 0) : OK 12 ([dt l, .int .i64 id, .int .i64 d]) ([]) (.tuple [.list true 0 [], .int .i64 (strs l id d).2]) (none) := by
 refine ai (C := cx [(14, ru)]) (aj ⟨xS, trivial⟩) (fn := Tryz.f12) rfl rfl rfl rfl fun hw hs => ?_
 repeat' ((conv => whnf); first | apply a9 | apply aQ | (apply ao <;> intro h))
 all_goals try conv => whnf
 all_goals try (refine a8.mk ?_; try dsimp only)
 all_goals (try simp only [dd] at *)
 all_goals first
  | exact ⟨trivial, hp.1⟩
  | exact ⟨di _, hp.1⟩
  | (exfalso; exact absurd (by assumption) hp.2)
  | (show a7 _ _ _ _ _ _
     refine a7.mk [] ?_ <;> (repeat' first | trivial)
     done)
  | skip
theorem CZ (l : List Fd) (id d : Int) (hp : (0 ≤ d ∧ ∀ f ∈ l, f.raw.length ≤ 1000000000) ∧ d ≤ 1000000) : OK 12 ([dt l, .int .i64 id, .int .i64 d]) ([]) (.tuple [eTl (kg l id d).1, .int .i64 (kg l id d).2]) (none) := by
 unfold kg
 by_cases h : (strs l id d).2 = 0
 . rw [if_neg (fun q => q h)]
   exact (CY l id d hp.1 hp.2 h).res (FT z7)
 . rw [if_pos h]
   exact (CX l id d ⟨hp.1, h⟩).res (Wk.tuple (aC.cons (Wk.nil (.inl rfl)) (aC.refl _)))
end Go.Proofs.YtipejldppicijaaGreatDoor
