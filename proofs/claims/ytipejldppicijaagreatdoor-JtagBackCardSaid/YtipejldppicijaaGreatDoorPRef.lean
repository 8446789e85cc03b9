/-
  A part of the proof.
-/
import Derived.Test.YtipejldppicijaaGreatDoorPText2
set_option linter.unusedSimpArgs false
set_option linter.unusedVariables false
set_option maxHeartbeats 4000000
namespace Go.Proofs.YtipejldppicijaaGreatDoor
open Go Go.VG
set_option maxRecDepth 100000
theorem HG (v : ae) (h1 : v.ok) (h2 : v.size ≤ 300000) : OK 114 [ev v] [] (.str (simple v)) none := by
 refine af (C := cx [(143, wC), (145, wv), (144, tq)]) (ah ⟨IL, IN, AG, trivial⟩) (fn := Tryz.f114) rfl rfl rfl rfl fun hw _ => ?_
 have hb := lP hw.1
 have hz := size_eq v
 have hbe := E7 8 v.bits.toNat
 repeat' ((conv => whnf); first | apply a9 | (apply al <;> intro h))
 all_goals try conv => whnf
 all_goals try (refine a8.mk ?_; try dsimp only)
 all_goals first | refine stay ?_ | trivial | omega | (simp (discharger := omega) [-List.getD_eq_getElem?_getD, wR] <;> omega) | skip
 all_goals first
  | (exfalso; omega)
  | (unfold simple ir
     repeat (first | rw [if_pos (by omega)] | rw [if_neg (by omega)])
     refine a7.mk [] ?_ <;> (repeat' first | trivial)
    )
def tG : Sm := fun args σ => match args, σ with
 | [x], [] => some (dV x ∧ (aY x).ok ∧ (aY x).size ≤ 300000, .str (simple (aY x)), none)
 | _, _ => none
theorem AQ : aa 114 tG := by
 intro args sg pre x r he hp
 unfold tG at he
 split at he <;> cases he
 exact (HG _ hp.2.1 hp.2.2).args (aq.cons hp.1 aq.nil)
theorem G2 (i : Int) : OK 142 [.int .i64 i] [] (.str (if i = 0 then [] else [44])) none := by
 refine af (C := cx []) (ah trivial) (fn := Tryz.f142) rfl rfl rfl rfl fun hw _ => ?_
 repeat' ((conv => whnf); (apply al <;> intro h))
 all_goals try conv => whnf
 all_goals try (refine a8.mk ?_; try dsimp only)
 all_goals try refine stay ?_
 . refine a7.mk [] ?_ <;> (repeat' first | trivial | apply ab | apply aV)
   rw [if_pos (by assumption)]
 . refine a7.mk [] ?_ <;> (repeat' first | trivial | apply ab | apply aV)
   rw [if_neg (by assumption)]
def wN : Sm := fun args σ => match args, σ with
 | [.int .i64 q], [] => some (True, .str (if q = 0 then [] else [44]), none)
 | _, _ => none
theorem J2 : aa 142 wN := by
 intro args sg pre x r he hp
 unfold wN at he
 split at he <;> cases he
 exact G2 _
def qK (k : Nat) : Sm := fun args σ => match args, σ with
 | [x], [] => some (dV x ∧ (aY x).ok ∧ (aY x).nodes < k ∧ (aY x).size ≤ 300000, .str (json (aY x)), none)
 | _, _ => none
theorem CO {k : Nat} (h : ∀ v, v.ok → v.nodes < k → v.size ≤ 300000 → OK 113 [ev v] [] (.str (json v)) none) : aa 113 (qK k) := by
 intro args sg pre x r he hp
 unfold qK at he
 split at he <;> cases he
 exact (h _ hp.2.1 hp.2.2.1 hp.2.2.2).args (aq.cons hp.1 aq.nil)
set_option maxHeartbeats 4000000 in
theorem Fy {k : Nat} (ih : aa 113 (qK k)) (v : ae) (hok : v.ok) (hk : v.nodes < k + 1) (hs : v.size ≤ 300000) : OK 113 [ev v] [] (.str (json v)) none := by
 refine af (C := cx [(114, tG), (141, xd), (142, wN), (113, qK k)]) (ah ⟨AQ, Jh, J2, ih, trivial⟩) (fn := Tryz.f113) rfl rfl rfl rfl fun hw _ => ?_
 have hb := lP hw.1
 have hz := size_eq v
 have hj := Ac v
 have hlen := jJ v hok
 have e1 := kx v.list
 have e2 := iG v.map
 have hsl : (simple v).length ≤ 1000000 := by
  have a1 := u9 v.num
  have a2 := pg hb.2.2.1.1 hb.2.2.1.2
  have a3 := pf v.bits
  have a4 := gm v.text
  unfold simple
  repeat' split
  all_goals (try simp only [List.length_nil]); all_goals omega
 repeat' ((conv => whnf); first | apply a9 | (apply al <;> intro h))
 all_goals try conv => whnf
 all_goals try (refine a8.mk ?_; try dsimp only)
 all_goals first | refine stay ?_ | ((refine And.intro (ba _) ?_; simp only [az]; repeat' (refine And.intro ?_ ?_)); all_goals (first | assumption | omega); done) | skip
 all_goals first
  | (exfalso; omega)
  | (rw [az]; omega)
  | (show a7 _ _ _ _ _ _
     rw [hj]
     repeat (first | rw [if_pos (by omega)] | rw [if_neg (by omega)])
     refine a7.mk [] ?_ <;> (repeat' first | trivial | apply ab | apply aV | apply aM)
     rw [az]
     unfold simple
     repeat (first | rw [if_pos (by omega)] | rw [if_neg (by omega)])
     done
    )
  | (show a7 _ _ _ _ _ _
     rw [hj]
     repeat (first | rw [if_pos (by omega)] | rw [if_neg (by omega)])
     refine a7.mk [] ?_ <;> (repeat' first | trivial | apply ab | apply aV)
     done
    )
  | skip
 . have hj : json v = 91 :: (fL v.list ++ [93]) := by rw [hj]; repeat (first | rw [if_pos (by omega)] | rw [if_neg (by omega)])
   rw [hj] at hlen
   simp only [List.length_cons, List.length_append, List.length_nil] at hlen
   rw [hj]
   have hok' := (ok_eq hok).2.2.2.1
   refine bd.mk Nat (fun i => i ≤ v.list.length) (fun i => ⟨85, [(1, .ptr 0 0), (3, .str (fL (v.list.take i))), (4, .int .i64 i)], [.cells (cv v)], []⟩) (fun i => v.list.length - i) [] 0 (Nat.zero_le _) ?_ (fun i hi _ _ => ?_)
   . refine Go.VG.Sub.mk rfl ?_ ?_ ?_ ?_ <;> (repeat' first | trivial)
   have hx : i < v.list.length → (fL (v.list.take i)).length + 120 * (v.list.getD i default).size ≤ 120 * eb v.list ∧ (v.list.getD i default).ok ∧ (v.list.getD i default).nodes < k ∧ (v.list.getD i default).size ≤ 300000 ∧ (json (v.list.getD i default)).length ≤ 120 * (v.list.getD i default).size := fun h => by
    have q1 := CA h
    have q2 := vj _ (BF hok' i)
    have q3 := iP v
    have q4 := qh h
    have q5 := jJ _ (vP hok' h)
    exact ⟨by omega, vP hok' h, by omega, by omega, by omega⟩
   have hc : (if (i : Int) = 0 then [] else [44] : List UInt8).length ≤ 1 := by split <;> simp
   repeat' ((conv => whnf); first | apply a9 | (apply al <;> intro h) | with_reducible refine pG ?_ ?_)
   all_goals try conv => whnf
   all_goals try (refine a8.mk ?_; try dsimp only)
   all_goals first | refine stay ?_ | omega | skip
   all_goals first
    | (have hlt : i < v.list.length := by omega
       obtain ⟨x1, x2, x3, x4, x5⟩ := hx hlt
       refine ⟨ba _, ?_⟩
       rw [az]
       exact ⟨x2, x3, x4⟩)
    | (have hlt : i < v.list.length := by omega
       obtain ⟨x1, x2, x3, x4, x5⟩ := hx hlt
       try rw [az]
       simp only [List.length_append]; omega)
    | (refine ⟨[], i + 1, by omega, ?_, by omega⟩
       refine Go.VG.Sub.mk rfl ?_ ?_ ?_ ?_ <;> (repeat' first | trivial | apply ab | apply aV | apply au)
       . rw [az, A8 (by omega)]
         by_cases hi0 : i = 0
         . subst hi0; simp
         . rw [if_neg (by omega), if_neg hi0]; simp
       . (simp (discharger := omega) only [wR]; omega)
      )
    | skip
   . rw [List.take_of_length_le (by omega)]
     simp only [List.length_append, List.length_cons, List.length_nil]; omega
   . rw [List.take_of_length_le (by omega)]
     simp only [List.length_append, List.length_cons, List.length_nil]; omega
   . refine a7.mk [] ?_ <;> (repeat' first | trivial | apply ab | apply aV | apply aM)
     rw [List.take_of_length_le (by omega)]
     simp
 . have hj : json v = 123 :: (fM v.map ++ [125]) := by rw [hj]; repeat (first | rw [if_pos (by omega)] | rw [if_neg (by omega)])
   rw [hj] at hlen
   simp only [List.length_cons, List.length_append, List.length_nil] at hlen
   rw [hj]
   have hok' := (ok_eq hok).2.2.2.2
   refine bd.mk Nat (fun i => i ≤ v.map.length) (fun i => ⟨85, [(1, .ptr 0 0), (3, .str (fM (v.map.take i))), (5, .int .i64 i)], [.cells (cv v)], []⟩) (fun i => v.map.length - i) [] 0 (Nat.zero_le _) ?_ (fun i hi _ _ => ?_)
   . refine Go.VG.Sub.mk rfl ?_ ?_ ?_ ?_ <;> (repeat' first | trivial)
   have hx : i < v.map.length → (fM (v.map.take i)).length + 120 * ((v.map.getD i default).key.length + (v.map.getD i default).value.size) ≤ 120 * bE v.map ∧ (v.map.getD i default).value.ok ∧ (v.map.getD i default).value.nodes < k ∧ (v.map.getD i default).value.size ≤ 300000 ∧
      (json (v.map.getD i default).value).length ≤ 120 * (v.map.getD i default).value.size ∧ (quote (v.map.getD i default).key).length ≤ 6 * (v.map.getD i default).key.length + 2 ∧ (v.map.getD i default).key.length ≤ 300000 := fun h => by
    have q1 := CC h
    have q2 := vk _ (BH hok' i)
    have q3 := iP v
    have q4 := qi h
    have q5 := jJ _ (vR hok' h)
    have q6 := oq (v.map.getD i default).key
    exact ⟨by omega, vR hok' h, by omega, by omega, by omega, by omega, by omega⟩
   have hc : (if (i : Int) = 0 then [] else [44] : List UInt8).length ≤ 1 := by split <;> simp
   repeat' ((conv => whnf); first | apply a9 | (apply al <;> intro h) | with_reducible refine nR ?_ ?_)
   all_goals try conv => whnf
   all_goals try (refine a8.mk ?_; try dsimp only)
   all_goals first | refine stay ?_ | omega | (simp only [aW]; omega) | skip
   all_goals first
    | (have hlt : i < v.map.length := by omega
       obtain ⟨x1, x2, x3, x4, x5, x6, x7⟩ := hx hlt
       refine ⟨ba _, ?_⟩
       rw [az]
       exact ⟨x2, x3, x4⟩)
    | (have hlt : i < v.map.length := by omega
       obtain ⟨x1, x2, x3, x4, x5, x6, x7⟩ := hx hlt
       try rw [az]
       simp only [List.length_append, List.length_cons, List.length_nil]; omega)
    | (refine ⟨[], i + 1, by omega, ?_, by omega⟩
       refine Go.VG.Sub.mk rfl ?_ ?_ ?_ ?_ <;> (repeat' first | trivial | apply ab | apply aV | apply au)
       . rw [az, Ab (by omega), A4]
         by_cases hi0 : i = 0
         . subst hi0; simp
         . rw [if_neg (by omega), if_neg hi0]; simp
       . (simp (discharger := omega) only [wR]; omega)
      )
    | skip
   . rw [List.take_of_length_le (by omega)]
     simp only [List.length_append, List.length_cons, List.length_nil]; omega
   . rw [List.take_of_length_le (by omega)]
     simp only [List.length_append, List.length_cons, List.length_nil]; omega
   . refine a7.mk [] ?_ <;> (repeat' first | trivial | apply ab | apply aV | apply aM)
     rw [List.take_of_length_le (by omega)]
     simp
 . have hj : json v = simple v := by
     rw [hj]
     unfold simple
     by_cases h2 : v.kind = 2
     . repeat (first | rw [if_pos (by omega)] | rw [if_neg (by omega)])
     . by_cases h3 : v.kind = 3
       . repeat (first | rw [if_pos (by omega)] | rw [if_neg (by omega)])
       . repeat (first | rw [if_pos (by omega)] | rw [if_neg (by omega)])
   rw [hj]
   refine a7.mk [] ?_ <;> (repeat' first | trivial)
   all_goals rw [az]
theorem yc : ∀ k : Nat, aa 113 (qK k)
 | 0 => CO fun _ _ h => by omega
 | k + 1 => CO fun v h1 h2 h3 => Fy (yc k) v h1 h2 h3
def wD : Sm := fun args σ => match args, σ with
 | [x], [] => some (dV x ∧ (aY x).ok ∧ (aY x).size ≤ 300000, .str (json (aY x)), none)
 | _, _ => none
theorem IT : aa 113 wD := by
 intro args sg pre x r he hp
 unfold wD at he
 split at he <;> cases he
 rename_i y
 exact (yc ((aY y).nodes + 1)) [y] [] _ _ _ rfl ⟨hp.1, hp.2.1, Nat.lt_succ_self _, hp.2.2⟩
theorem FA (v : ae) (h1 : v.ok) (h2 : v.size ≤ 300000) : OK 56 [ev v] [] (.str (text v)) none := by
 refine af (C := cx [(114, tG), (113, wD)]) (ah ⟨AQ, IT, trivial⟩) (fn := Tryz.f56) rfl rfl rfl rfl fun hw _ => ?_
 repeat' ((conv => whnf); first | apply a9 | (apply al <;> intro h))
 all_goals try conv => whnf
 all_goals try (refine a8.mk ?_; try dsimp only)
 all_goals first | refine stay ?_ | ((refine And.intro (ba _) ?_; simp only [az]; repeat' (refine And.intro ?_ ?_)); all_goals (first | assumption | omega); done) | skip
 all_goals
  unfold text
  first
  | rw [if_pos (by omega)]
  | rw [if_neg (by omega)]
  refine a7.mk [] ?_ <;> (repeat' first | trivial | apply ab | apply aV)
  all_goals rw [az]
def sP : Sm := fun args σ => match args, σ with
 | [x], [] => some (dV x ∧ (aY x).ok ∧ (aY x).size ≤ 300000, .str (text (aY x)), none)
 | _, _ => none
theorem Ai : aa 56 sP := by
 intro args sg pre x r he hp
 unfold sP at he
 split at he <;> cases he
 exact (FA _ hp.2.1 hp.2.2).args (aq.cons hp.1 aq.nil)
theorem Fz (v : ae) (h1 : v.ok) (h2 : v.size ≤ 300000) : OK 24 [ev v] [] (ev (.mk 1 (text v) 0 0 [] [])) none := by
 refine cW.res (x := .agg [.int .u8 1, .str (text v), .int .i64 0, .int .u64 0, .list true 0 [], .list true 0 []]) ?_ (Wk.agg (aq.cons (Wk.refl _) (aq.cons (Wk.refl _) (aq.cons (Wk.refl _) (aq.cons (Wk.refl _) (aq.cons (Wk.nil (.inl rfl)) (aq.cons (Wk.nil (.inl rfl)) aq.nil)))))))
 refine af (C := cx [(56, sP)]) (ah ⟨Ai, trivial⟩) (fn := Tryz.f24) rfl rfl rfl rfl fun _ _ => ?_
 repeat' ((conv => whnf); apply a9)
 all_goals try conv => whnf
 all_goals try (refine a8.mk ?_; try dsimp only)
 all_goals first | refine stay ?_ | ((refine And.intro (ba _) ?_; simp only [az]; repeat' (refine And.intro ?_ ?_)); all_goals (first | assumption | omega); done) | skip
 refine a7.mk [] ?_ <;> (repeat' first | trivial | apply ab | apply aV | apply cK | apply aM)
 rw [az]
def sO : Sm := fun args σ => match args, σ with
 | [x], [] => some (dV x ∧ (aY x).ok ∧ (aY x).size ≤ 300000, ev (.mk 1 (text (aY x)) 0 0 [] []), none)
 | _, _ => none
theorem Ah : aa 24 sO := by
 intro args sg pre x r he hp
 unfold sO at he
 split at he <;> cases he
 exact (Fz _ hp.2.1 hp.2.2).args (aq.cons hp.1 aq.nil)
end Go.Proofs.YtipejldppicijaaGreatDoor
