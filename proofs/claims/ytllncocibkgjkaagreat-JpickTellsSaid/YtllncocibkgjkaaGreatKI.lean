/-
  A part of the proof.
-/
import Derived.Test.YtllncocibkgjkaaGreatKH
set_option linter.unusedSimpArgs false
set_option linter.unusedVariables false
set_option maxHeartbeats 4000000
namespace Go.Proofs.YtllncocibkgjkaaGreat
open Go Go.VG
set_option maxRecDepth 100000
theorem v9 {H : Type} {ti : TypeId → TI} {t : TypeId} {d : DataW H} {x : V} {k : IntKind} (hk : (ti t).k = .int k) (h : IsD ti t d x) : ∃ n, x = .int k n := by
 obtain ⟨f, hd⟩ := h
 simp only [Option.bind_eq_some_iff] at hd
 obtain ⟨cs, h1, h2⟩ := hd
 obtain ⟨n, rfl⟩ := DW hk h1
 rw [hk] at h2
 exact ⟨n, (Option.some.inj h2).symm⟩
theorem Hn (L : List Nd) (key : List UInt8) (q : Int) : bN L q key = -1 ∨ (0 ≤ bN L q key ∧ bN L q key < L.length ∧ (L.getD (bN L q key).toNat default).key = key) := by
 rcases rR L q key with h | ⟨k, h1, h2, h3⟩
 . exact .inl h
 . rw [h1, Int.toNat_natCast]; exact .inr ⟨by omega, by omega, h3⟩
theorem Fk {R : List UInt8 → Int × List Nd} (hR : ∀ s, R s = (cQ s, d9 s)) (s : List UInt8) (q : Int) (key : List UInt8) : OK 4 [.str s, .int .i64 q, .str key] [] (.bool true) none := by
 refine au (C := la [(15, qQ), (8, qT R), (16, qR), (17, qP), (18, tA)] [(5, [.cU 0, .cU 1])]) (aq ⟨vb, vg hR, ve, va, AP, trivial⟩) (fn := Tryz.f4) rfl rfl rfl rfl fun hw hs => ?_
 have hf : s.length ≤ 300 → cf (R s).2 ∧ (R s).2.length ≤ 301 := fun h => by rw [hR]; exact yb h
 have hml : ((R s).2.map aR).length = (R s).2.length := List.length_map _
 repeat' ((conv => whnf); first | apply ak | (apply al <;> intro h))
 all_goals try conv => whnf
 all_goals try (refine a9.mk ?_; try dsimp only)
 all_goals (try simp only [cv] at *)
 all_goals first | refine stay ?_ | omega | skip
 . refine a8.mk [] ?_ <;> (repeat' first | trivial)
 . exact ⟨kJ, by have := hf (by omega); omega⟩
 . obtain ⟨hk, hl⟩ := hf (by omega)
   generalize (R s).2 = L at *
   have hon := fun q => Hn L key q
   refine aU.mk Nat (fun i => i ≤ L.length + 2) (fun i => ⟨64, [(0, .str s), (1, .int .i64 q), (2, .str key), (7, .list false 4 (L.map aR)), (9, .list false 4 (L.map aR)), (10, .int .i64 ((i : Int) - 1))], [.dead, .dead, .dead], []⟩) (fun i => L.length + 2 - i) [] 0 (Nat.zero_le _) ?_ (fun i hi _ _ => ?_)
   . refine Go.VG.Sub.mk rfl ?_ ?_ ?_ ?_ <;> (repeat' first | trivial)
   have hoi := hon ((i : Int) - 1)
   repeat' ((conv => whnf); first | apply ak | apply aW | ((first | apply al | apply ga) <;> intro h) | with_reducible apply gF)
   all_goals try conv => whnf
   all_goals try (refine a9.mk ?_; try dsimp only)
   all_goals (try simp only [cv] at *)
   all_goals first | refine stay ?_ | trivial | omega | skip
   all_goals first
    | exact ⟨kJ, hk⟩
    | exact absurd trivial ‹¬ True›
    | (refine ⟨[], i + 1, by omega, ?_, by omega⟩
       refine Go.VG.Sub.mk rfl ?_ ?_ ?_ ?_ <;> (repeat' first | trivial | apply ae | apply aI)
       all_goals (simp (discharger := omega) only [wR]; omega)
       done)
    | (exfalso; rcases hoi with k | k; omega; exact ‹_ ≠ key› k.2.2)
    | (show a8 _ _ _ _ _ _
       refine a8.mk [] ?_ <;> (repeat' first | trivial)
       )
theorem Fj (s : List UInt8) (q : Int) (key : List UInt8) : OK 4 [.str s, .int .i64 q, .str key] [] (.bool true) none := Fk (R := fun s => (cQ s, d9 s)) (fun _ => rfl) s q key
theorem zQ (L : List Nd) (q : Int) (key : List UInt8) (a b : Int) : dg (aJ L q key a b).1 (aJ L q key a b).2 = (aJ L q key a b).2 := by
 unfold dg
 split
 . rfl
 . rcases qF L q key a b with h | h <;> omega
theorem Br {f : Int} (h : f ≥ 0) : (if f > 0 then f else 0) = f := by split <;> omega
theorem GY {R : List UInt8 → Int × List Nd} (hR : ∀ s, R s = (cQ s, d9 s)) (s : List UInt8) (q : Int) (key : List UInt8) : OK 5 [.str s, .int .i64 q, .str key] [] (.bool true) none := by
 refine au (C := la [(15, qQ), (8, qT R), (16, qR), (19, tg), (20, tj), (21, ta), (22, xK), (23, xL), (24, p0)] [(5, [.cU 0, .cU 1])]) (aq ⟨vb, vg hR, ve, AH, AI, AB, IT, IU, sa, trivial⟩) (fn := Tryz.f5) rfl rfl rfl rfl fun hw hs => ?_
 have hf : s.length ≤ 300 → cf (R s).2 ∧ (R s).2.length ≤ 301 := fun h => by rw [hR]; exact yb h
 have hml : ((R s).2.map aR).length = (R s).2.length := List.length_map _
 repeat' ((conv => whnf); first | apply ak | apply aW | ((first | apply al | apply ga) <;> intro h) | with_reducible apply gF)
 all_goals try conv => whnf
 all_goals try (refine a9.mk ?_; try dsimp only)
 all_goals (try simp only [cv, zQ] at *)
 all_goals first | refine stay ?_ | omega | skip
 all_goals first
  | exact ⟨kJ, (hf (by omega)).1⟩
  | exact ⟨kJ, by have := hf (by omega); omega⟩
  | exact absurd trivial ‹¬ True›
  | (have h0 : (aJ (R s).2 q key 116 102).1 ≥ 0 := by assumption
     rw [Br h0]
     rcases qF (R s).2 q key 116 102 with k | k
     . omega
     . have := k.2.1; omega)
  | (exfalso
     refine absurd ?_ ‹¬ lH _ _ = _›
     unfold lH
     first
      | (rw [if_neg (by omega), Br (by omega)]; rfl)
      | (rw [if_pos (by omega)]; rfl)
      | rw [if_pos (by omega)])
  | (show a8 _ _ _ _ _ _
     refine a8.mk [] ?_ <;> (repeat' first | trivial)
     )
theorem GX (s : List UInt8) (q : Int) (key : List UInt8) : OK 5 [.str s, .int .i64 q, .str key] [] (.bool true) none := GY (R := fun s => (cQ s, d9 s)) (fun _ => rfl) s q key
theorem Hq (f : Int) : lI f = if f > 0 then f else 0 := by unfold lI; split <;> split <;> omega
theorem Hr (L : List Nd) (k : Int) : lJ L k = cz L k := by
 unfold lJ
 split
 . rw [qe (.inl ‹_›)]
 . rfl
theorem G9 {R : List UInt8 → Int × List Nd} (hR : ∀ s, R s = (cQ s, d9 s)) (s : List UInt8) (q : Int) (key : List UInt8) : OK 6 [.str s, .int .i64 q, .str key] [] (.bool true) none := by
 refine au (C := la [(15, qQ), (8, qT R), (16, qR), (25, td), (26, tc), (24, p0), (27, tz)] [(5, [.cU 0, .cU 1])]) (aq ⟨vb, vg hR, ve, AF, AE, sa, AO, trivial⟩) (fn := Tryz.f6) rfl rfl rfl rfl fun hw hs => ?_
 have hf : s.length ≤ 300 → cf (R s).2 ∧ (R s).2.length ≤ 301 := fun h => by rw [hR]; exact yb h
 have hml : ((R s).2.map aR).length = (R s).2.length := List.length_map _
 repeat' ((conv => whnf); first | apply ak | apply aW | (apply al <;> intro h))
 all_goals try conv => whnf
 all_goals try (refine a9.mk ?_; try dsimp only)
 all_goals (try simp only [cv, zQ, Hq, Hr] at *)
 all_goals first | refine stay ?_ | omega | skip
 all_goals (try first
  | exact ⟨kJ, (hf (by omega)).1⟩
  | exact ⟨kJ, by have := hf (by omega); omega⟩
  | exact absurd trivial ‹¬ True›
  | (show a8 _ _ _ _ _ _
     refine a8.mk [] ?_ <;> (repeat' first | trivial)
     done))
 generalize hK : cz (R s).2 (aJ (R s).2 q key 91 91).1 = K at *
 have hKl : K.length ≤ 301 := by have := vl (R s).2 (aJ (R s).2 q key 91 91).1; rw [hK] at this; have := hf (by omega); omega
 have hkm := qv K
 refine aU.mk Nat (fun i => i ≤ K.length) (fun i => ⟨108, [(11, .ptr 5 0), (16, .buf 6), (17, .int .i64 i)], [.dead, .dead, .dead, .buf 1 0 (K.map nI), .dead, .cells [.buf 3, .bool (decide ((aJ (R s).2 q key 91 91).1 ≥ 0)), .int .i64 (aJ (R s).2 q key 91 91).2], .buf 1 0 (K.map nI)], []⟩) (fun i => K.length - i) [] 0 (Nat.zero_le _) ?_ (fun i hi _ _ => ?_)
 . refine Go.VG.Sub.mk rfl ?_ ?_ ?_ ?_ <;> (repeat' first | trivial)
 repeat' ((conv => whnf); first | apply ak | apply aW | (apply al <;> intro h) | with_reducible apply lR)
 all_goals try conv => whnf
 all_goals try (refine a9.mk ?_; try dsimp only)
 all_goals (try simp only [cv, cg] at *)
 all_goals first | refine stay ?_ | omega | skip
 . refine ⟨[], i + 1, by omega, ?_, by omega⟩
   refine Go.VG.Sub.mk rfl ?_ ?_ ?_ ?_ <;> (repeat' first | trivial | apply ae | apply aI)
   all_goals (simp (discharger := omega) only [wR]; omega)
 . exact absurd trivial (by assumption)
 . refine a8.mk [] ?_ <;> (repeat' first | trivial)
theorem G8 (s : List UInt8) (q : Int) (key : List UInt8) : OK 6 [.str s, .int .i64 q, .str key] [] (.bool true) none := G9 (R := fun s => (cQ s, d9 s)) (fun _ => rfl) s q key
end Go.Proofs.YtllncocibkgjkaaGreat
