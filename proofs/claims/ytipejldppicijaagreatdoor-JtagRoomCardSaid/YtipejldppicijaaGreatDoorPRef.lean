/-
  A part of the proof.
-/
import Derived.Test.YtipejldppicijaaGreatDoorPText2
set_option linter.unusedSimpArgs false
set_option linter.unusedVariables false
set_option maxHeartbeats 4000000
namespace Go.Proofs.YtipejldppicijaaGreatDoor
open Go Go.VG
set_option maxRecDepth 100000
theorem Du (v : af) (h1 : v.ok) (h2 : v.size ≤ 300000) : OK 114 [ev v] [] (.str (simple v)) none := by
 refine ai (C := cx [(143, ue), (145, ua), (144, rv)]) (aj ⟨EH, EK, xT, trivial⟩) (fn := Tryz.f114) rfl rfl rfl rfl fun hw _ => ?_
 have hb := nz hw.1
 have hz := size_eq v
 have hbe := AK 8 v.bits.toNat
 repeat' ((conv => whnf); first | apply a9 | (apply ao <;> intro h))
 all_goals try conv => whnf
 all_goals try (refine a8.mk ?_; try dsimp only)
 all_goals first | refine stay ?_ | trivial | omega | (simp (discharger := omega) [-List.getD_eq_getElem?_getD, wR] <;> omega) | skip
 all_goals first
  | (exfalso; omega)
  | (unfold simple hM
     repeat (first | rw [if_pos (by omega)] | rw [if_neg (by omega)])
     refine a7.mk [] ?_ <;> (repeat' first | trivial)
    )
def ry : Sm := fun args σ => match args, σ with
 | [x], [] => some (eQ x ∧ (b8 x).ok ∧ (b8 x).size ≤ 300000, .str (simple (b8 x)), none)
 | _, _ => none
theorem xV : aa 114 ry := by
 intro args sg pre x r he hp
 unfold ry at he
 split at he <;> cases he
 exact (Du _ hp.2.1 hp.2.2).args (aC.cons hp.1 aC.nil)
theorem Cm (i : Int) : OK 142 [.int .i64 i] [] (.str (if i = 0 then [] else [44])) none := by
 refine ai (C := cx []) (aj trivial) (fn := Tryz.f142) rfl rfl rfl rfl fun hw _ => ?_
 repeat' ((conv => whnf); (apply ao <;> intro h))
 all_goals try conv => whnf
 all_goals try (refine a8.mk ?_; try dsimp only)
 all_goals try refine stay ?_
 . refine a7.mk [] ?_ <;> (repeat' first | trivial | apply ah | apply b9)
   rw [if_pos (by assumption)]
 . refine a7.mk [] ?_ <;> (repeat' first | trivial | apply ah | apply b9)
   rw [if_neg (by assumption)]
def uv : Sm := fun args σ => match args, σ with
 | [.int .i64 q], [] => some (True, .str (if q = 0 then [] else [44]), none)
 | _, _ => none
theorem EZ : aa 142 uv := by
 intro args sg pre x r he hp
 unfold uv at he
 split at he <;> cases he
 exact Cm _
def po (k : Nat) : Sm := fun args σ => match args, σ with
 | [x], [] => some (eQ x ∧ (b8 x).ok ∧ (b8 x).nodes < k ∧ (b8 x).size ≤ 300000, .str (json (b8 x)), none)
 | _, _ => none
theorem zI {k : Nat} (h : ∀ v, v.ok → v.nodes < k → v.size ≤ 300000 → OK 113 [ev v] [] (.str (json v)) none) : aa 113 (po k) := by
 intro args sg pre x r he hp
 unfold po at he
 split at he <;> cases he
 exact (h _ hp.2.1 hp.2.2.1 hp.2.2.2).args (aC.cons hp.1 aC.nil)
set_option maxHeartbeats 4000000 in
theorem BY {k : Nat} (ih : aa 113 (po k)) (v : af) (hok : v.ok) (hk : v.nodes < k + 1) (hs : v.size ≤ 300000) : OK 113 [ev v] [] (.str (json v)) none := by
 refine ai (C := cx [(114, ry), (141, uM), (142, uv), (113, po k)]) (aj ⟨xV, Fe, EZ, ih, trivial⟩) (fn := Tryz.f113) rfl rfl rfl rfl fun hw _ => ?_
 have hb := nz hw.1
 have hz := size_eq v
 have hj := xE v
 have hlen := jT v hok
 have e1 := mf v.list
 have e2 := jq v.map
 have hsl : (simple v).length ≤ 1000000 := by
  have a1 := vn v.num
  have a2 := qd hb.2.2.1.1 hb.2.2.1.2
  have a3 := qc v.bits
  have a4 := fX v.text
  unfold simple
  repeat' split
  all_goals (try simp only [List.length_nil]); all_goals omega
 repeat' ((conv => whnf); first | apply a9 | (apply ao <;> intro h))
 all_goals try conv => whnf
 all_goals try (refine a8.mk ?_; try dsimp only)
 all_goals first | refine stay ?_ | ((refine And.intro (bk _) ?_; simp only [aD]; repeat' (refine And.intro ?_ ?_)); all_goals (first | assumption | omega); done) | skip
 all_goals first
  | (exfalso; omega)
  | (rw [aD]; omega)
  | (show a7 _ _ _ _ _ _
     rw [hj]
     repeat (first | rw [if_pos (by omega)] | rw [if_neg (by omega)])
     refine a7.mk [] ?_ <;> (repeat' first | trivial | apply ah | apply b9 | apply aX)
     rw [aD]
     unfold simple
     repeat (first | rw [if_pos (by omega)] | rw [if_neg (by omega)])
     done
    )
  | (show a7 _ _ _ _ _ _
     rw [hj]
     repeat (first | rw [if_pos (by omega)] | rw [if_neg (by omega)])
     refine a7.mk [] ?_ <;> (repeat' first | trivial | apply ah | apply b9)
     done
    )
  | skip
 . have hj : json v = 91 :: (eR v.list ++ [93]) := by rw [hj]; repeat (first | rw [if_pos (by omega)] | rw [if_neg (by omega)])
   rw [hj] at hlen
   simp only [List.length_cons, List.length_append, List.length_nil] at hlen
   rw [hj]
   have hok' := (ok_eq hok).2.2.2.1
   refine br.mk Nat (fun i => i ≤ v.list.length) (fun i => ⟨85, [(1, .ptr 0 0), (3, .str (eR (v.list.take i))), (4, .int .i64 i)], [.cells (cv v)], []⟩) (fun i => v.list.length - i) [] 0 (Nat.zero_le _) ?_ (fun i hi _ _ => ?_)
   . refine Go.VG.Sub.mk rfl ?_ ?_ ?_ ?_ <;> (repeat' first | trivial)
   have hx : i < v.list.length → (eR (v.list.take i)).length + 120 * (v.list.getD i default).size ≤ 120 * dG v.list ∧ (v.list.getD i default).ok ∧ (v.list.getD i default).nodes < k ∧ (v.list.getD i default).size ≤ 300000 ∧ (json (v.list.getD i default)).length ≤ 120 * (v.list.getD i default).size := fun h => by
    have q1 := zx h
    have q2 := sU _ (yI hok' i)
    have q3 := j7 v
    have q4 := qS h
    have q5 := jT _ (tF hok' h)
    exact ⟨by omega, tF hok' h, by omega, by omega, by omega⟩
   have hc : (if (i : Int) = 0 then [] else [44] : List UInt8).length ≤ 1 := by split <;> simp
   repeat' ((conv => whnf); first | apply a9 | (apply ao <;> intro h) | with_reducible refine qz ?_ ?_)
   all_goals try conv => whnf
   all_goals try (refine a8.mk ?_; try dsimp only)
   all_goals first | refine stay ?_ | omega | skip
   all_goals first
    | (have hlt : i < v.list.length := by omega
       obtain ⟨x1, x2, x3, x4, x5⟩ := hx hlt
       refine ⟨bk _, ?_⟩
       rw [aD]
       exact ⟨x2, x3, x4⟩)
    | (have hlt : i < v.list.length := by omega
       obtain ⟨x1, x2, x3, x4, x5⟩ := hx hlt
       try rw [aD]
       simp only [List.length_append]; omega)
    | (refine ⟨[], i + 1, by omega, ?_, by omega⟩
       refine Go.VG.Sub.mk rfl ?_ ?_ ?_ ?_ <;> (repeat' first | trivial | apply ah | apply b9 | apply ax)
       . rw [aD, xA (by omega)]
         by_cases hi0 : i = 0
         . subst hi0; simp
         . rw [if_neg (by omega), if_neg hi0]; simp
       . (simp (discharger := omega) only [wR]; omega)
      )
    | skip
   . rw [List.take_of_length_le (by omega)]
     simp only [List.length_append, List.length_cons, List.length_nil]; omega
   . rw [List.take_of_length_le (by omega)]
     simp only [List.length_append, List.length_cons, List.length_nil]; omega
   . refine a7.mk [] ?_ <;> (repeat' first | trivial | apply ah | apply b9 | apply aX)
     rw [List.take_of_length_le (by omega)]
     simp
 . have hj : json v = 123 :: (eS v.map ++ [125]) := by rw [hj]; repeat (first | rw [if_pos (by omega)] | rw [if_neg (by omega)])
   rw [hj] at hlen
   simp only [List.length_cons, List.length_append, List.length_nil] at hlen
   rw [hj]
   have hok' := (ok_eq hok).2.2.2.2
   refine br.mk Nat (fun i => i ≤ v.map.length) (fun i => ⟨85, [(1, .ptr 0 0), (3, .str (eS (v.map.take i))), (5, .int .i64 i)], [.cells (cv v)], []⟩) (fun i => v.map.length - i) [] 0 (Nat.zero_le _) ?_ (fun i hi _ _ => ?_)
   . refine Go.VG.Sub.mk rfl ?_ ?_ ?_ ?_ <;> (repeat' first | trivial)
   have hx : i < v.map.length → (eS (v.map.take i)).length + 120 * ((v.map.getD i default).key.length + (v.map.getD i default).value.size) ≤ 120 * cF v.map ∧ (v.map.getD i default).value.ok ∧ (v.map.getD i default).value.nodes < k ∧ (v.map.getD i default).value.size ≤ 300000 ∧
      (json (v.map.getD i default).value).length ≤ 120 * (v.map.getD i default).value.size ∧ (quote (v.map.getD i default).key).length ≤ 6 * (v.map.getD i default).key.length + 2 ∧ (v.map.getD i default).key.length ≤ 300000 := fun h => by
    have q1 := zz h
    have q2 := sW _ (yJ hok' i)
    have q3 := j7 v
    have q4 := qT h
    have q5 := jT _ (tH hok' h)
    have q6 := nd (v.map.getD i default).key
    exact ⟨by omega, tH hok' h, by omega, by omega, by omega, by omega, by omega⟩
   have hc : (if (i : Int) = 0 then [] else [44] : List UInt8).length ≤ 1 := by split <;> simp
   repeat' ((conv => whnf); first | apply a9 | (apply ao <;> intro h) | with_reducible refine qA ?_ ?_)
   all_goals try conv => whnf
   all_goals try (refine a8.mk ?_; try dsimp only)
   all_goals first | refine stay ?_ | omega | (simp only [aV]; omega) | skip
   all_goals first
    | (have hlt : i < v.map.length := by omega
       obtain ⟨x1, x2, x3, x4, x5, x6, x7⟩ := hx hlt
       refine ⟨bk _, ?_⟩
       rw [aD]
       exact ⟨x2, x3, x4⟩)
    | (have hlt : i < v.map.length := by omega
       obtain ⟨x1, x2, x3, x4, x5, x6, x7⟩ := hx hlt
       try rw [aD]
       simp only [List.length_append, List.length_cons, List.length_nil]; omega)
    | (refine ⟨[], i + 1, by omega, ?_, by omega⟩
       refine Go.VG.Sub.mk rfl ?_ ?_ ?_ ?_ <;> (repeat' first | trivial | apply ah | apply b9 | apply ax)
       . rw [aD, xD (by omega), xw]
         by_cases hi0 : i = 0
         . subst hi0; simp
         . rw [if_neg (by omega), if_neg hi0]; simp
       . (simp (discharger := omega) only [wR]; omega)
      )
    | skip
   . rw [List.take_of_length_le (by omega)]
     simp only [List.length_append, List.length_cons, List.length_nil]; omega
   . rw [List.take_of_length_le (by omega)]
     simp only [List.length_append, List.length_cons, List.length_nil]; omega
   . refine a7.mk [] ?_ <;> (repeat' first | trivial | apply ah | apply b9 | apply aX)
     rw [List.take_of_length_le (by omega)]
     simp
 . have hj : json v = simple v := by
     rw [hj]
     unfold simple
     by_cases h2 : v.kind = 2
     . repeat (first | rw [if_pos (by omega)] | rw [if_neg (by omega)])
     . by_cases h3 : v.kind = 3
       . repeat (first | rw [if_pos (by omega)] | rw [if_neg (by omega)])
       . repeat (first | rw [if_pos (by omega)] | rw [if_neg (by omega)])
   rw [hj]
   refine a7.mk [] ?_ <;> (repeat' first | trivial)
   all_goals rw [aD]
theorem vD : ∀ k : Nat, aa 113 (po k)
 | 0 => zI fun _ _ h => by omega
 | k + 1 => zI fun v h1 h2 h3 => BY (vD k) v h1 h2 h3
def uf : Sm := fun args σ => match args, σ with
 | [x], [] => some (eQ x ∧ (b8 x).ok ∧ (b8 x).size ≤ 300000, .str (json (b8 x)), none)
 | _, _ => none
theorem EO : aa 113 uf := by
 intro args sg pre x r he hp
 unfold uf at he
 split at he <;> cases he
 rename_i y
 exact (vD ((b8 y).nodes + 1)) [y] [] _ _ _ rfl ⟨hp.1, hp.2.1, Nat.lt_succ_self _, hp.2.2⟩
theorem BZ (v : af) (h1 : v.ok) (h2 : v.size ≤ 300000) : OK 56 [ev v] [] (.str (text v)) none := by
 refine ai (C := cx [(114, ry), (113, uf)]) (aj ⟨xV, EO, trivial⟩) (fn := Tryz.f56) rfl rfl rfl rfl fun hw _ => ?_
 repeat' ((conv => whnf); first | apply a9 | (apply ao <;> intro h))
 all_goals try conv => whnf
 all_goals try (refine a8.mk ?_; try dsimp only)
 all_goals first | refine stay ?_ | ((refine And.intro (bk _) ?_; simp only [aD]; repeat' (refine And.intro ?_ ?_)); all_goals (first | assumption | omega); done) | skip
 all_goals
  unfold text
  first
  | rw [if_pos (by omega)]
  | rw [if_neg (by omega)]
  refine a7.mk [] ?_ <;> (repeat' first | trivial | apply ah | apply b9)
  all_goals rw [aD]
def ug : Sm := fun args σ => match args, σ with
 | [x], [] => some (eQ x ∧ (b8 x).ok ∧ (b8 x).size ≤ 300000, .str (text (b8 x)), none)
 | _, _ => none
theorem EP : aa 56 ug := by
 intro args sg pre x r he hp
 unfold ug at he
 split at he <;> cases he
 exact (BZ _ hp.2.1 hp.2.2).args (aC.cons hp.1 aC.nil)
end Go.Proofs.YtipejldppicijaaGreatDoor
