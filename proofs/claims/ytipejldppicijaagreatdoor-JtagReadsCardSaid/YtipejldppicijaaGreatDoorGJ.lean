/-
  A part of the proof.
-/
import Derived.Test.YtipejldppicijaaGreatDoorGI
set_option linter.unusedSimpArgs false
set_option linter.unusedVariables false
set_option maxHeartbeats 4000000
namespace Go.Proofs.YtipejldppicijaaGreatDoor
open Go Go.VG
set_option maxRecDepth 100000
theorem zM {d : Nat} {i k : Int} {c : Cu} : (bO d ⟨i, k, 0, 0, [], []⟩ c).1.raw.length ≤ c.s.length := by
 have h : (j5 d k c).length ≤ c.s.length := by
  unfold j5
  split
  . exact Nat.zero_le _
  . rw [List.length_drop, List.length_take]; omega
 unfold bO
 repeat' split
 all_goals first
  | exact Nat.zero_le _
  | exact h
theorem sF {α : Type} {P : α → Prop} {l : List α} {x : α} (h : ∀ f ∈ l, P f) (k : P x) : ∀ f ∈ l ++ [x], P f := fun f hf => by
 rcases List.mem_append.1 hf with hf | hf
 . exact h f hf
 . rw [List.mem_singleton.1 hf]; exact k
theorem yF {d : Nat} {s : List UInt8} : ∀ (n : Nat) (c : Cu) (a : Int) (acc : List Fd) (r), c.ok → c.s = s → (∀ f ∈ acc, f.raw.length ≤ s.length) → eX d n c a acc = some r → ∀ f ∈ r.1, f.raw.length ≤ s.length
 | 0, _, _, _, _, _, _, _, h => by cases h
 | n + 1, c, a, acc, r, hc, hs, ha, h => by
   rw [eX] at h
   have hf := Kp.aC hc a
   have hv := Kp.bO hf.1 d ⟨(c.aC a).1.1, (c.aC a).1.2, 0, 0, [], []⟩
   by_cases g : (c.aC a).1.2 = 0
   . rw [if_pos g] at h; cases h; exact ha
   . rw [if_neg g] at h
     refine yF n _ _ _ r hv.1 (by rw [hv.2.1, hf.2.1, hs]) (sF ha ?_) h
     have := zM (d := d) (i := (c.aC a).1.1) (k := (c.aC a).1.2) (c := (c.aC a).2)
     rw [hf.2.1, hs] at this; exact this
theorem yJ (d : Int) (s : List UInt8) : ∀ f ∈ (aW d s).2.2, f.raw.length ≤ s.length := by
 unfold aW
 split
 . intro f hf; cases hf
 . obtain ⟨r, hr⟩ := ru (31 - d).toNat s
   rw [hr]
   unfold dX
   dsimp only
   split
   . exact yF _ _ _ _ r (ib s) rfl (fun f hf => by cases hf) hr
   . intro f hf; cases hf
theorem sb {d : Nat} {k : Int} {s : List UInt8} : ∀ (m i : Nat) (c : Cu) (acc : List Fd), c.ok → c.s = s → (∀ f ∈ acc, f.raw.length ≤ s.length) → ∀ f ∈ (dk d k m i c acc).1, f.raw.length ≤ s.length
 | 0, _, _, _, _, _, h => h
 | m + 1, i, c, acc, hc, hs, h => by
   have ht := zH hc
   have hv := Kp.bO hc d ⟨i, k, 0, 0, [], []⟩
   rw [dk]
   repeat' split
   . exact h
   . refine sb m _ _ _ ht.1 (by rw [ht.2.1, hs]) (sF h ?_)
     unfold ln
     split <;> exact Nat.zero_le _
   . refine sb m _ _ _ hv.1 (by rw [hv.2.1, hs]) (sF h ?_)
     have := zM (d := d) (i := i) (k := k) (c := c)
     rw [hs] at this; exact this
theorem Ed (d : Int) (s : List UInt8) : ∀ f ∈ (bB d s).2, f.raw.length ≤ s.length := by
 unfold bB
 split
 . intro f hf; cases hf
 . have hk := Kp.aJ (ib s)
   unfold dt
   split
   . intro f hf; cases hf
   . exact sb _ _ _ _ hk.1 (by rw [hk.2.1]; rfl) (fun f hf => by cases hf)
theorem ug {l : List Fd} {id d : Int} (h : ∀ f ∈ l, f.raw.length ≤ 1000000000) : (strs l id d).1.length ≤ 2147483647 ∧ ∀ x ∈ (strs l id d).1, x.length ≤ 1000000000 := by
 unfold strs
 cases hL : aP l id 9 with
 | none => exact ⟨Nat.zero_le _, fun _ h => by cases h⟩
 | some f =>
   have hf := h f (kU (Nat.le_refl _) hL).1
   dsimp only
   repeat' split
   . exact ⟨Nat.zero_le _, fun _ h => by cases h⟩
   . refine ⟨by rw [List.length_map]; exact sc d f.raw, fun x hx => ?_⟩
     obtain ⟨g, hg, rfl⟩ := List.mem_map.1 hx
     have := Ed d f.raw g hg; omega
   . exact ⟨Nat.zero_le _, fun _ h => by cases h⟩
def jR (r : List Tg × Int) : V := if r.2 = 0 then .tuple [iL r.1, .int .i64 0] else .tuple [.list true 0 [], .int .i64 r.2]
theorem xH {r : List Tg × Int} (h : r.2 ≠ 0 → r.1 = []) : Wk (jR r) (.tuple [iL r.1, .int .i64 r.2]) := by
 unfold jR
 by_cases q : r.2 = 0
 . rw [if_pos q, q]; exact Wk.refl _
 . rw [if_neg q, h q]; exact Wk.tuple (aN.cons (Wk.nil (.inl rfl)) (aN.refl _))
theorem wC {L : List (List UInt8)} (h : ∀ x ∈ L, x.length ≤ 1000000000) {i : Nat} (hi : i < L.length) : (L.getD i default).length ≤ 1000000000 := by
 refine h _ ?_
 rw [List.getD_eq_getElem?_getD, List.getElem?_eq_getElem hi]; exact List.getElem_mem hi
theorem Cm (l : List Fd) (id d : Int) (hp : 0 ≤ d ∧ ∀ f ∈ l, f.raw.length ≤ 1000000000) (hd : d ≤ 1000000) (h0 : (strs l id d).2 = 0) : OK 12 [c6 l, .int .i64 id, .int .i64 d] [] (jR (ey d (strs l id d).1 [])) none := by
 refine ah (C := cx [(14, ot), (7, qw)]) (ai ⟨sl, xg, trivial⟩) (fn := Tryz.f12) rfl rfl rfl rfl fun hw _ => ?_
 obtain ⟨hb1, hb2⟩ := ug (id := id) (d := d) hp.2
 repeat' ((conv => whnf); first | apply ab | apply ax | (apply ae <;> intro h))
 all_goals try conv => whnf
 all_goals try (refine a7.mk ?_; try dsimp only)
 all_goals (try simp only [bn, h0] at *)
 all_goals first
  | exact ⟨trivial, hp⟩
  | exact ⟨bz _, hp⟩
  | (exfalso; simp_all; done)
  | skip
 generalize (strs l id d).1 = L at *
 refine c5.mk (Nat × List Tg) (fun (i, acc) => i ≤ L.length ∧ acc.length = i ∧ ey d (L.drop i) acc = ey d L []) (fun (i, acc) => ⟨47, [(2, .int .i64 d), (10, .buf 0), (25, .list false 1 (L.map V.str)), (26, .int .i64 L.length), (27, .int .i64 i)], [.buf 7 0 (acc.map eL)], [0]⟩) (fun x => L.length - x.1) [.tm 10 7] (0, []) ⟨Nat.zero_le _, rfl, by rw [List.drop_zero]⟩ ?_ (fun ⟨i, acc⟩ ⟨h1, h2, h3⟩ _ _ => ?_)
 . refine Go.VG.Sub.mk rfl ?_ ?_ ?_ ?_ <;> (repeat' first | trivial | apply ak | apply az)
   all_goals first
    | rfl
    | (simp; done)
 have hb := fun h => wC hb2 (i := i) h
 have hst := fun h => yv (d := d) (l := L) (acc := acc) (i := i) h
 rw [h3] at hst
 have hw1 : IntKind.i64.wrap (d + 1) = d + 1 := by rw [bL]; omega
 have hz : i = L.length → ey d L [] = (acc, 0) := fun q => by rw [← h3, q, List.drop_length]; rfl
 generalize hR : cC (d + 1) (L.getD i default) = R at *
 repeat' ((conv => whnf); first | apply ab | apply ax | (apply ae <;> intro h) | with_reducible apply m5)
 all_goals try conv => whnf
 all_goals try (refine a7.mk ?_; try dsimp only)
 all_goals (try simp only [List.length_map, hw1, hR] at *)
 all_goals first | refine stay ?_ | omega | (simp only [fX]; omega) | skip
 all_goals first
  | (exact ⟨by omega, hb (by omega)⟩)
  | skip
 all_goals try
  (show a6 _ _ _ _ _ _
   first
   | (rw [hst (by omega), if_pos (by assumption)]
      unfold jR
      rw [if_neg (by assumption)]
      refine a6.mk [] ?_ <;> (repeat' first | trivial)
      done)
   | (rw [hz (by omega)]
      unfold jR
      rw [if_pos rfl]
      refine a6.mk [.bu 0] ?_ <;> (repeat' first | trivial)
      done))
 rw [hst (by omega), if_neg (show ¬ R.2 ≠ 0 from fun z => z (by assumption))] at h3
 refine ⟨[], (i + 1, acc ++ [R.1]), ⟨by show i + 1 ≤ L.length; omega, by show (acc ++ [R.1]).length = i + 1; rw [List.length_append, List.length_singleton, h2], ?_⟩, ?_, by show L.length - (i + 1) < L.length - i; omega⟩
 . rw [hst (by omega), if_neg (show ¬ R.2 ≠ 0 from fun z => z (by assumption))]
 . refine Go.VG.Sub.mk rfl ?_ ?_ ?_ ?_ <;> (repeat' first | trivial | apply ak | apply az | apply bI)
   . (simp (discharger := omega) only [wR]; omega)
   . simp
theorem Cl (l : List Fd) (id d : Int) (hp : (0 ≤ d ∧ ∀ f ∈ l, f.raw.length ≤ 1000000000) ∧ (strs l id d).2 ≠ 0) : OK 12 ([c6 l, .int .i64 id, .int .i64 d]) ([]) (.tuple [.list true 0 [], .int .i64 (strs l id d).2]) (none) := by
 refine ah (C := cx [(14, ot)]) (ai ⟨sl, trivial⟩) (fn := Tryz.f12) rfl rfl rfl rfl fun hw hs => ?_
 repeat' ((conv => whnf); first | apply ab | apply ax | (apply ae <;> intro h))
 all_goals try conv => whnf
 all_goals try (refine a7.mk ?_; try dsimp only)
 all_goals (try simp only [bn] at *)
 all_goals first
  | exact ⟨trivial, hp.1⟩
  | exact ⟨bz _, hp.1⟩
  | (exfalso; exact absurd (by assumption) hp.2)
  | (show a6 _ _ _ _ _ _
     refine a6.mk [] ?_ <;> (repeat' first | trivial)
     done)
  | skip
def HP : Sm := fun args σ => match args, σ with
 | [.list false 6 l_l, .int .i64 id, .int .i64 d], [] => some (l_l = (l_l.map bh).map bE ∧ ((0 ≤ d ∧ ∀ f ∈ (l_l.map bh), f.raw.length ≤ 1000000000) ∧ (strs (l_l.map bh) id d).2 ≠ 0), .tuple [.list true 0 [], .int .i64 (strs (l_l.map bh) id d).2], none)
 | _, _ => none
theorem wb (l : List Fd) (id d : Int) (hp : (0 ≤ d ∧ ∀ f ∈ l, f.raw.length ≤ 1000000000) ∧ d ≤ 1000000) : OK 12 ([c6 l, .int .i64 id, .int .i64 d]) ([]) (.tuple [iL (dV l id d).1, .int .i64 (dV l id d).2]) (none) := by
 unfold dV
 by_cases h : (strs l id d).2 = 0
 . rw [if_neg (fun q => q h)]
   exact (Cm l id d hp.1 hp.2 h).res (xH sW)
 . rw [if_pos h]
   exact (Cl l id d ⟨hp.1, h⟩).res (Wk.tuple (aN.cons (Wk.nil (.inl rfl)) (aN.refl _)))
def tO : Sm := fun args σ => match args, σ with
 | [.list false 6 l_l, .int .i64 id, .int .i64 d], [] => some (l_l = (l_l.map bh).map bE ∧ ((0 ≤ d ∧ ∀ f ∈ (l_l.map bh), f.raw.length ≤ 1000000000) ∧ d ≤ 1000000), .tuple [iL (dV (l_l.map bh) id d).1, .int .i64 (dV (l_l.map bh) id d).2], none)
 | _, _ => none
theorem EC : a9 12 tO := by
 intro args sg pre x r he hp
 unfold tO at he
 split at he <;> cases he
 . rw [jd (hp).1]; exact wb (hp := hp.2) ..
theorem Df (l : List Fd) (id d : Int) (hp : 0 ≤ d ∧ ∀ f ∈ l, f.raw.length ≤ 1000000000) (hd : d ≤ 1000000) (h0 : (strs l id d).2 = 0) : OK 13 [c6 l, .int .i64 id, .int .i64 d] [] (jR (ey d (strs l id d).1 [])) none := by
 refine ah (C := cx [(15, oA), (8, qI)]) (ai ⟨sq, xw, trivial⟩) (fn := Tryz.f13) rfl rfl rfl rfl fun hw _ => ?_
 obtain ⟨hb1, hb2⟩ := ug (id := id) (d := d) hp.2
 repeat' ((conv => whnf); first | apply ab | apply ax | (apply ae <;> intro h))
 all_goals try conv => whnf
 all_goals try (refine a7.mk ?_; try dsimp only)
 all_goals (try simp only [bn, h0] at *)
 all_goals first
  | exact ⟨trivial, hp⟩
  | exact ⟨bz _, hp⟩
  | (exfalso; simp_all; done)
  | skip
 generalize (strs l id d).1 = L at *
 refine c5.mk (Nat × List Tg) (fun (i, acc) => i ≤ L.length ∧ acc.length = i ∧ ey d (L.drop i) acc = ey d L []) (fun (i, acc) => ⟨48, [(2, .int .i64 d), (10, .buf 0), (8, .list false 1 (L.map V.str)), (11, .int .i64 i)], [.buf 7 0 (acc.map eL)], [0]⟩) (fun x => L.length - x.1) [.tm 10 7] (0, []) ⟨Nat.zero_le _, rfl, by rw [List.drop_zero]⟩ ?_ (fun ⟨i, acc⟩ ⟨h1, h2, h3⟩ _ _ => ?_)
 . refine Go.VG.Sub.mk rfl ?_ ?_ ?_ ?_ <;> (repeat' first | trivial)
   all_goals first
    | rfl
    | (simp; done)
 have hb := fun h => wC hb2 (i := i) h
 have hst := fun h => yv (d := d) (l := L) (acc := acc) (i := i) h
 rw [h3] at hst
 have hw1 : IntKind.i64.wrap (d + 1) = d + 1 := by rw [bL]; omega
 have hz : i = L.length → ey d L [] = (acc, 0) := fun q => by rw [← h3, q, List.drop_length]; rfl
 generalize hR : cC (d + 1) (L.getD i default) = R at *
 repeat' ((conv => whnf); first | apply ab | apply ax | (apply ae <;> intro h) | with_reducible apply m5)
 all_goals try conv => whnf
 all_goals try (refine a7.mk ?_; try dsimp only)
 all_goals (try simp only [List.length_map, hw1, hR] at *)
 all_goals first | refine stay ?_ | omega | (simp only [fX]; omega) | skip
 all_goals first
  | (exact ⟨by omega, hb (by omega)⟩)
  | skip
 all_goals try
  (show a6 _ _ _ _ _ _
   first
   | (rw [hst (by omega), if_pos (by assumption)]
      unfold jR
      rw [if_neg (by assumption)]
      refine a6.mk [] ?_ <;> (repeat' first | trivial)
      done)
   | (rw [hz (by omega)]
      unfold jR
      rw [if_pos rfl]
      refine a6.mk [.bu 0] ?_ <;> (repeat' first | trivial)
      done))
 rw [hst (by omega), if_neg (show ¬ R.2 ≠ 0 from fun z => z (by assumption))] at h3
 refine ⟨[], (i + 1, acc ++ [R.1]), ⟨by show i + 1 ≤ L.length; omega, by show (acc ++ [R.1]).length = i + 1; rw [List.length_append, List.length_singleton, h2], ?_⟩, ?_, by show L.length - (i + 1) < L.length - i; omega⟩
 . rw [hst (by omega), if_neg (show ¬ R.2 ≠ 0 from fun z => z (by assumption))]
 . refine Go.VG.Sub.mk rfl ?_ ?_ ?_ ?_ <;> (repeat' first | trivial | apply ak | apply az | apply bI)
   . (simp (discharger := omega) only [wR]; omega)
   . simp
theorem De (l : List Fd) (id d : Int) (hp : (0 ≤ d ∧ ∀ f ∈ l, f.raw.length ≤ 1000000000) ∧ (strs l id d).2 ≠ 0) : OK 13 ([c6 l, .int .i64 id, .int .i64 d]) ([]) (.tuple [.list true 0 [], .int .i64 (strs l id d).2]) (none) := by
 refine ah (C := cx [(15, oA)]) (ai ⟨sq, trivial⟩) (fn := Tryz.f13) rfl rfl rfl rfl fun hw hs => ?_
 repeat' ((conv => whnf); first | apply ab | apply ax | (apply ae <;> intro h))
 all_goals try conv => whnf
 all_goals try (refine a7.mk ?_; try dsimp only)
 all_goals (try simp only [bn] at *)
 all_goals first
  | exact ⟨trivial, hp.1⟩
  | exact ⟨bz _, hp.1⟩
  | (exfalso; exact absurd (by assumption) hp.2)
  | (show a6 _ _ _ _ _ _
     refine a6.mk [] ?_ <;> (repeat' first | trivial)
     done)
  | skip
theorem Dg (l : List Fd) (id d : Int) (hp : (0 ≤ d ∧ ∀ f ∈ l, f.raw.length ≤ 1000000000) ∧ d ≤ 1000000) : OK 13 ([c6 l, .int .i64 id, .int .i64 d]) ([]) (.tuple [iL (dV l id d).1, .int .i64 (dV l id d).2]) (none) := by
 unfold dV
 by_cases h : (strs l id d).2 = 0
 . rw [if_neg (fun q => q h)]
   exact (Df l id d hp.1 hp.2 h).res (xH sW)
 . rw [if_pos h]
   exact (De l id d ⟨hp.1, h⟩).res (Wk.tuple (aN.cons (Wk.nil (.inl rfl)) (aN.refl _)))
def ub : Sm := fun args σ => match args, σ with
 | [.list false 6 l_l, .int .i64 id, .int .i64 d], [] => some (l_l = (l_l.map bh).map bE ∧ ((0 ≤ d ∧ ∀ f ∈ (l_l.map bh), f.raw.length ≤ 1000000000) ∧ d ≤ 1000000), .tuple [iL (dV (l_l.map bh) id d).1, .int .i64 (dV (l_l.map bh) id d).2], none)
 | _, _ => none
theorem F1 : a9 13 ub := by
 intro args sg pre x r he hp
 unfold ub at he
 split at he <;> cases he
 . rw [jd (hp).1]; exact Dg (hp := hp.2) ..
end Go.Proofs.YtipejldppicijaaGreatDoor
