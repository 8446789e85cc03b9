/-
  A part of the proof.
-/
import Derived.Test.YtipejldppicijaaGreatDoorPQuote
import Derived.Test.YtipejldppicijaaGreatDoorPWord
import Derived.Test.YtipejldppicijaaGreatDoorTxt
set_option linter.unusedSimpArgs false
set_option linter.unusedVariables false
set_option maxHeartbeats 4000000
namespace Go.Proofs.YtipejldppicijaaGreatDoor
open Go Go.VG
set_option maxRecDepth 100000
theorem DK (n : Int) : OK 154 [.int .i64 n] [] (.str (hM n)) none := by
 refine ai (C := cx []) (aj trivial) (fn := Tryz.f154) rfl rfl rfl rfl fun _ _ => ?_
 repeat' ((conv => whnf); first | apply aQ | (apply ao <;> intro h))
 all_goals try conv => whnf
 all_goals try (refine a8.mk ?_; try dsimp only)
 all_goals try refine stay ?_
 . refine a7.mk [] ?_ <;> (repeat' first | trivial | apply ah | apply b9)
   unfold hM; rw [if_pos (by assumption)]
 . refine a7.mk [] ?_ <;> (repeat' first | trivial | apply ah | apply b9)
   unfold hM; rw [if_neg (by assumption)]
def uT : Sm := fun args σ => match args, σ with
 | [.int .i64 q], [] => some (True, .str (hM q), none)
 | _, _ => none
theorem Fz : aa 154 uT := by
 intro args sg pre x r he hp
 unfold uT at he
 split at he <;> cases he
 exact DK _
def jj (v : af) : V := if v.kind = 0 then .iface 208 (.str [110, 117, 108, 108]) else if v.kind = 1 then .iface 207 (.str v.text) else if v.kind = 2 then .iface 208 (.str (hM v.num))
 else if v.kind = 3 then .iface 208 (.str (dr v.num)) else if v.kind = 4 then .iface 207 (.str (iL v.bits)) else if v.kind = 5 then .iface 207 (.str (cP v.text))
 else if v.kind = 6 then .iface 217 (.list false 6 (dE v.list)) else if v.kind = 7 then .iface 218 (.list false 7 (bW v.map)) else .iface 208 (.str [])
theorem DJ (v : af) (hs : v.text.length ≤ 1000000) : OK 146 [ev v] [] (jj v) none := by
 refine ai (C := cx [(154, uT), (155, uy), (156, uz), (157, px)]) (aj ⟨Fz, F1, F2, ta, trivial⟩) (fn := Tryz.f146) rfl rfl rfl rfl fun hw _ => ?_
 have hb := nz hw.1
 repeat' ((conv => whnf); first | apply a9 | (apply ao <;> intro h) | apply ig)
 all_goals try conv => whnf
 all_goals try (refine a8.mk ?_; try dsimp only)
 all_goals first | refine stay ?_ | trivial | omega | skip
 all_goals
  unfold jj
  repeat' (first | rw [if_pos (by assumption)] | rw [if_neg (by assumption)])
  refine a7.mk [] ?_ <;> (repeat' first | trivial)
def rA : Sm := fun args σ => match args, σ with
 | [x], [] => some (eQ x ∧ (b8 x).text.length ≤ 1000000, jj (b8 x), none)
 | _, _ => none
theorem xY : aa 146 rA := by
 intro args sg pre x r he hp
 unfold rA at he
 split at he <;> cases he
 exact (DJ _ hp.2).args (aC.cons hp.1 aC.nil)
def pg (k : Nat) : Sm := fun args σ => match args, σ with
 | [.buf 0, x], [.buf 1 0 l] => some (eQ x ∧ (b8 x).ok ∧ (b8 x).nodes < k ∧ (b8 x).size ≤ 300000 ∧ l.length + 120 * (b8 x).size ≤ 2000000000, .buf 0, some [.buf 1 0 (l ++ bl (json (b8 x)))])
 | _, _ => none
theorem zF {k : Nat} (h : ∀ v l, v.ok → v.nodes < k → v.size ≤ 300000 → l.length + 120 * v.size ≤ 2000000000 → OK 158 [.buf 0, ev v] [.buf 1 0 l] (.buf 0) (some [.buf 1 0 (l ++ bl (json v))])) : aa 158 (pg k) := by
 intro args sg pre x r he hp
 unfold pg at he
 split at he <;> cases he
 exact (h _ _ hp.2.1 hp.2.2.1 hp.2.2.2.1 hp.2.2.2.2).args (aC.cons (Wk.refl _) (aC.cons hp.1 aC.nil))
theorem tF {l : List af} (h : dW l) {i : Nat} (hi : i < l.length) : (l.getD i default).ok := by
 induction l generalizing i with
 | nil => simp at hi
 | cons v r ih =>
   simp only [dW] at h
   cases i with
   | zero => exact h.1
   | succ i => exact ih h.2 (by simpa using hi)
theorem tH {l : List aw} (h : dX l) {i : Nat} (hi : i < l.length) : (l.getD i default).value.ok := by
 induction l generalizing i with
 | nil => simp at hi
 | cons v r ih =>
   simp only [dX] at h
   cases i with
   | zero => have := h.1; cases v; exact this
   | succ i => exact ih h.2 (by simpa using hi)
theorem ok_eq {v : af} (h : v.ok) : (0 ≤ v.kind ∧ v.kind ≤ 255) ∧ (-9223372036854775808 ≤ v.num ∧ v.num ≤ 9223372036854775807) ∧ (0 ≤ v.bits ∧ v.bits ≤ 18446744073709551615) ∧ dW v.list ∧ dX v.map := by cases v; exact h
theorem zx {l : List af} {i : Nat} (h : i < l.length) : dG (l.take i) + (l.getD i default).size ≤ dG l := by
 induction l generalizing i with
 | nil => simp at h
 | cons v r ih =>
   cases i with
   | zero => simp [dG]
   | succ i => have := ih (i := i) (by simpa using h); simp only [dG, List.getD_cons_succ, List.take_succ_cons]; omega
theorem zz {l : List aw} {i : Nat} (h : i < l.length) : cF (l.take i) + ((l.getD i default).key.length + (l.getD i default).value.size) ≤ cF l := by
 induction l generalizing i with
 | nil => simp at h
 | cons v r ih =>
   cases i with
   | zero => simp [cF, u5]
   | succ i => have := ih (i := i) (by simpa using h); simp only [cF, List.getD_cons_succ, List.take_succ_cons]; omega
theorem yI {l : List af} (h : dW l) (i : Nat) : dW (l.take i) := by
 induction l generalizing i with
 | nil => simpa using h
 | cons v r ih =>
   simp only [dW] at h
   cases i with
   | zero => simp [dW]
   | succ i => simp only [List.take_succ_cons, dW]; exact ⟨h.1, ih h.2 i⟩
theorem yJ {l : List aw} (h : dX l) (i : Nat) : dX (l.take i) := by
 induction l generalizing i with
 | nil => simpa using h
 | cons v r ih =>
   simp only [dX] at h
   cases i with
   | zero => simp [dX]
   | succ i => simp only [List.take_succ_cons, dX]; exact ⟨h.1, ih h.2 i⟩
set_option maxHeartbeats 4000000 in
theorem f_lay {k : Nat} (ih : aa 158 (pg k)) (v : af) (l : List V) (hok : v.ok) (hk : v.nodes < k + 1) (hs : v.size ≤ 300000) (hl : l.length + 120 * v.size ≤ 2000000000) :
   OK 158 [.buf 0, ev v] [.buf 1 0 l] (.buf 0) (some [.buf 1 0 (l ++ bl (json v))]) := by
 refine ai (C := cx [(146, rA), (172, uH), (158, pg k)]) (aj ⟨xY, F9, ih, trivial⟩) (fn := Tryz.f158) rfl rfl rfl rfl fun hw _ => ?_
 have hb := nz hw.2.1
 have hz := size_eq v
 have hj := xE v
 have hlen := jT v hok
 have ht : jj v = jj v := rfl
 rw (occs := .pos [2]) [jj] at ht
 have e1 := mf v.list
 have e2 := jq v.map
 by_cases h0 : v.kind = 0
 . rw [if_pos h0] at ht hj
   rw [hj]
   repeat' ((conv => whnf); apply a9)
   all_goals try conv => whnf
   all_goals try (refine a8.mk ?_; try dsimp only)
   all_goals try ((refine And.intro (bk _) ?_; simp only [aD]; repeat' (refine And.intro ?_ ?_)); all_goals (first | assumption | omega); done)
   simp only [aD, ht]
   repeat' ((conv => whnf); apply a9)
   all_goals try conv => whnf
   all_goals try (refine a8.mk ?_; try dsimp only)
   all_goals first | refine stay ?_ | (simp only [aV]; omega) | skip
   refine a7.mk [] ?_ <;> (repeat' first | trivial)
 rw [if_neg h0] at ht hj
 by_cases h1 : v.kind = 1
 . rw [if_pos h1] at ht hj
   rw [hj] at hlen
   rw [hj]
   have h21 := fX v.text
   repeat' ((conv => whnf); apply a9)
   all_goals try conv => whnf
   all_goals try (refine a8.mk ?_; try dsimp only)
   all_goals try ((refine And.intro (bk _) ?_; simp only [aD]; repeat' (refine And.intro ?_ ?_)); all_goals (first | assumption | omega); done)
   simp only [aD, ht]
   repeat' ((conv => whnf); apply a9)
   all_goals try conv => whnf
   all_goals try (refine a8.mk ?_; try dsimp only)
   all_goals first | refine stay ?_ | omega | skip
   refine a7.mk [] ?_ <;> (repeat' first | trivial)
 rw [if_neg h1] at ht hj
 by_cases h2 : v.kind = 2
 . rw [if_pos h2] at ht hj
   rw [hj] at hlen
   rw [hj]
   have h21 := fX v.text
   repeat' ((conv => whnf); apply a9)
   all_goals try conv => whnf
   all_goals try (refine a8.mk ?_; try dsimp only)
   all_goals try ((refine And.intro (bk _) ?_; simp only [aD]; repeat' (refine And.intro ?_ ?_)); all_goals (first | assumption | omega); done)
   simp only [aD, ht]
   repeat' ((conv => whnf); apply a9)
   all_goals try conv => whnf
   all_goals try (refine a8.mk ?_; try dsimp only)
   all_goals first | refine stay ?_ | (simp only [aV]; omega) | skip
   refine a7.mk [] ?_ <;> (repeat' first | trivial)
 rw [if_neg h2] at ht hj
 by_cases h3 : v.kind = 3
 . rw [if_pos h3] at ht hj
   rw [hj] at hlen
   rw [hj]
   have h21 := fX v.text
   repeat' ((conv => whnf); apply a9)
   all_goals try conv => whnf
   all_goals try (refine a8.mk ?_; try dsimp only)
   all_goals try ((refine And.intro (bk _) ?_; simp only [aD]; repeat' (refine And.intro ?_ ?_)); all_goals (first | assumption | omega); done)
   simp only [aD, ht]
   repeat' ((conv => whnf); apply a9)
   all_goals try conv => whnf
   all_goals try (refine a8.mk ?_; try dsimp only)
   all_goals first | refine stay ?_ | (simp only [aV]; omega) | skip
   refine a7.mk [] ?_ <;> (repeat' first | trivial)
 rw [if_neg h3] at ht hj
 by_cases h4 : v.kind = 4
 . rw [if_pos h4] at ht hj
   rw [hj] at hlen
   rw [hj]
   have h21 := qc v.bits
   repeat' ((conv => whnf); apply a9)
   all_goals try conv => whnf
   all_goals try (refine a8.mk ?_; try dsimp only)
   all_goals try ((refine And.intro (bk _) ?_; simp only [aD]; repeat' (refine And.intro ?_ ?_)); all_goals (first | assumption | omega); done)
   simp only [aD, ht]
   repeat' ((conv => whnf); apply a9)
   all_goals try conv => whnf
   all_goals try (refine a8.mk ?_; try dsimp only)
   all_goals first | refine stay ?_ | omega | skip
   refine a7.mk [] ?_ <;> (repeat' first | trivial)
 rw [if_neg h4] at ht hj
 by_cases h5 : v.kind = 5
 . rw [if_pos h5] at ht hj
   rw [hj] at hlen
   rw [hj]
   have h21 := fX v.text
   repeat' ((conv => whnf); apply a9)
   all_goals try conv => whnf
   all_goals try (refine a8.mk ?_; try dsimp only)
   all_goals try ((refine And.intro (bk _) ?_; simp only [aD]; repeat' (refine And.intro ?_ ?_)); all_goals (first | assumption | omega); done)
   simp only [aD, ht]
   repeat' ((conv => whnf); apply a9)
   all_goals try conv => whnf
   all_goals try (refine a8.mk ?_; try dsimp only)
   all_goals first | refine stay ?_ | omega | skip
   refine a7.mk [] ?_ <;> (repeat' first | trivial)
 rw [if_neg h5] at ht hj
 by_cases h6 : v.kind = 6
 . rw [if_pos h6] at ht hj
   rw [hj] at hlen
   simp only [List.length_cons, List.length_append, List.length_nil] at hlen
   rw [hj]
   repeat' ((conv => whnf); apply a9)
   all_goals try conv => whnf
   all_goals try (refine a8.mk ?_; try dsimp only)
   all_goals try ((refine And.intro (bk _) ?_; simp only [aD]; repeat' (refine And.intro ?_ ?_)); all_goals (first | assumption | omega); done)
   simp only [aD, ht]
   repeat' ((conv => whnf); apply a9)
   all_goals try conv => whnf
   all_goals try (refine a8.mk ?_; try dsimp only)
   all_goals first | refine stay ?_ | (simp only [aV]; omega) | skip
   have hok' := (ok_eq hok).2.2.2.1
   refine br.mk Nat (fun i => i ≤ v.list.length) (fun i => ⟨84, [(0, .buf 0), (33, .list false 6 (dE v.list)), (34, .int .i64 (dE v.list).length), (35, .int .i64 i)], [.buf 1 0 (l ++ bl (91 :: eR (v.list.take i))), .cells (cv v)], [0]⟩) (fun i => v.list.length - i) [] 0 (Nat.zero_le _) ?_ (fun i hi _ _ => ?_)
   . refine Go.VG.Sub.mk rfl ?_ ?_ ?_ ?_ <;> (repeat' first | trivial)
   have hx : i < v.list.length → (eR (v.list.take i)).length + 120 * (v.list.getD i default).size ≤ 120 * dG v.list ∧ (v.list.getD i default).ok ∧ (v.list.getD i default).nodes < k ∧ (v.list.getD i default).size ≤ 300000 := fun h => by
    have q1 := zx h
    have q2 := sU _ (yI hok' i)
    have q3 := j7 v
    have q4 := qS h
    exact ⟨by omega, tF hok' h, by omega, by omega⟩
   repeat' ((conv => whnf); first | apply a9 | (apply ao <;> intro h) | with_reducible refine qz ?_ ?_)
   all_goals try conv => whnf
   all_goals try (refine a8.mk ?_; try dsimp only)
   all_goals first | refine stay ?_ | omega | (simp only [aV]; omega) | skip
   all_goals first
    | (have hlt : i < v.list.length := by omega
       obtain ⟨x1, x2, x3, x4⟩ := hx hlt
       refine ⟨bk _, ?_⟩
       rw [aD]
       refine ⟨x2, x3, x4, ?_⟩
       simp only [List.length_append, bC, List.length_cons, List.length_nil]; omega)
    | (have hlt : i < v.list.length := by omega
       obtain ⟨x1, x2, x3, x4⟩ := hx hlt
       simp only [List.length_append, bC, List.length_cons, List.length_nil]; omega)
    | (refine ⟨[], i + 1, by omega, ?_, by omega⟩
       refine Go.VG.Sub.mk rfl ?_ ?_ ?_ ?_ <;> (repeat' first | trivial | apply ah | apply ax | apply aG)
       . (simp (discharger := omega) only [wR]; omega)
       . rw [aD, xA (by omega)]
         first
         | (rw [if_pos (by omega)]; simp [bl, cq, bv]; done)
         | (rw [if_neg (by omega)]; simp [bl, cq, bv]; done)
      )
    | skip
   . rw [List.take_of_length_le (by omega)]
     simp only [List.length_append, bC, List.length_cons, List.length_nil]; omega
   . refine a7.mk [] ?_ <;> (repeat' first | trivial | apply ah | apply aG)
     rw [List.take_of_length_le (by omega)]
     simp [bl, cq, bv]
 rw [if_neg h6] at ht hj
 by_cases h7 : v.kind = 7
 . rw [if_pos h7] at ht hj
   rw [hj] at hlen
   simp only [List.length_cons, List.length_append, List.length_nil] at hlen
   rw [hj]
   repeat' ((conv => whnf); apply a9)
   all_goals try conv => whnf
   all_goals try (refine a8.mk ?_; try dsimp only)
   all_goals try ((refine And.intro (bk _) ?_; simp only [aD]; repeat' (refine And.intro ?_ ?_)); all_goals (first | assumption | omega); done)
   simp only [aD, ht]
   repeat' ((conv => whnf); apply a9)
   all_goals try conv => whnf
   all_goals try (refine a8.mk ?_; try dsimp only)
   all_goals first | refine stay ?_ | (simp only [aV]; omega) | skip
   have hok' := (ok_eq hok).2.2.2.2
   refine br.mk Nat (fun i => i ≤ v.map.length) (fun i => ⟨84, [(0, .buf 0), (58, .list false 7 (bW v.map)), (59, .int .i64 (bW v.map).length), (60, .int .i64 i)], [.buf 1 0 (l ++ bl (123 :: eS (v.map.take i))), .cells (cv v)], [0]⟩) (fun i => v.map.length - i) [] 0 (Nat.zero_le _) ?_ (fun i hi _ _ => ?_)
   . refine Go.VG.Sub.mk rfl ?_ ?_ ?_ ?_ <;> (repeat' first | trivial)
   have hx : i < v.map.length → ((eS (v.map.take i)).length + 120 * ((v.map.getD i default).key.length + (v.map.getD i default).value.size) ≤ 120 * cF v.map ∧ (quote (v.map.getD i default).key).length ≤ 6 * (v.map.getD i default).key.length + 2) ∧ (v.map.getD i default).value.ok ∧
      (v.map.getD i default).value.nodes < k ∧ (v.map.getD i default).value.size ≤ 300000 ∧ (v.map.getD i default).key.length ≤ 300000 := fun h => by
    have q1 := zz h
    have q2 := sW _ (yJ hok' i)
    have q3 := j7 v
    have q4 := qT h
    have q5 := nd (v.map.getD i default).key
    exact ⟨⟨by omega, by omega⟩, tH hok' h, by omega, by omega, by omega⟩
   repeat' ((conv => whnf); first | apply a9 | (apply ao <;> intro h) | with_reducible refine qA ?_ ?_)
   all_goals try conv => whnf
   all_goals try (refine a8.mk ?_; try dsimp only)
   all_goals first | refine stay ?_ | omega | (simp only [aV]; omega) | skip
   all_goals first
    | (have hlt : i < v.map.length := by omega
       obtain ⟨⟨x1, x5⟩, x2, x3, x4, x6⟩ := hx hlt
       refine ⟨bk _, ?_⟩
       rw [aD]
       refine ⟨x2, x3, x4, ?_⟩
       simp only [List.length_append, bC, List.length_cons, List.length_nil]; omega)
    | (have hlt : i < v.map.length := by omega
       obtain ⟨⟨x1, x5⟩, x2, x3, x4, x6⟩ := hx hlt
       simp only [List.length_append, bC, List.length_cons, List.length_nil]; omega)
    | (refine ⟨[], i + 1, by omega, ?_, by omega⟩
       refine Go.VG.Sub.mk rfl ?_ ?_ ?_ ?_ <;> (repeat' first | trivial | apply ah | apply ax | apply aG)
       . (simp (discharger := omega) only [wR]; omega)
       . rw [aD, xD (by omega), xw]
         first
         | (rw [if_pos (by omega)]; simp [bl, cq, bv]; done)
         | (rw [if_neg (by omega)]; simp [bl, cq, bv]; done)
      )
    | skip
   . rw [List.take_of_length_le (by omega)]
     simp only [List.length_append, bC, List.length_cons, List.length_nil]; omega
   . refine a7.mk [] ?_ <;> (repeat' first | trivial | apply ah | apply aG)
     rw [List.take_of_length_le (by omega)]
     simp [bl, cq, bv]
 rw [if_neg h7] at ht hj
 rw [hj]
 repeat' ((conv => whnf); apply a9)
 all_goals try conv => whnf
 all_goals try (refine a8.mk ?_; try dsimp only)
 all_goals try ((refine And.intro (bk _) ?_; simp only [aD]; repeat' (refine And.intro ?_ ?_)); all_goals (first | assumption | omega); done)
 simp only [aD, ht]
 repeat' ((conv => whnf); apply a9)
 all_goals try conv => whnf
 all_goals try (refine a8.mk ?_; try dsimp only)
 all_goals first | refine stay ?_ | (simp only [aV]; omega) | skip
 refine a7.mk [] ?_ <;> (repeat' first | trivial)
theorem yb : ∀ k : Nat, aa 158 (pg k)
 | 0 => zF fun _ _ _ h => by omega
 | k + 1 => zF fun v l h1 h2 h3 h4 => f_lay (yb k) v l h1 h2 h3 h4
def uK : Sm := fun args σ => match args, σ with
 | [.list true _ [], x], [] => some (eQ x ∧ (b8 x).ok ∧ (b8 x).size ≤ 300000, .buf 0, some [.buf 1 0 (bl (json (b8 x)))])
 | _, _ => none
theorem k_lay : aa 158 uK := by
 intro args sg pre x r he hp
 unfold uK at he
 split at he <;> cases he
 rename_i z y
 refine cI.nil 0 _ 0 rfl ?_
 exact (yb ((b8 y).nodes + 1)) [.buf 0, y] [.buf 1 0 []] _ _ _ rfl ⟨hp.1, hp.2.1, Nat.lt_succ_self _, hp.2.2, by have := hp.2.2; simp; omega⟩
end Go.Proofs.YtipejldppicijaaGreatDoor
