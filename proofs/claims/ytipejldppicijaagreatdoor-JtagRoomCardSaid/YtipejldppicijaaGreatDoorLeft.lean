/-
  A part of the proof.
-/
import Derived.Test.YtipejldppicijaaGreatDoorVal
set_option linter.unusedSimpArgs false
set_option linter.unusedVariables false
set_option maxHeartbeats 4000000
namespace Go.Proofs.YtipejldppicijaaGreatDoor
open Go Go.VG
set_option maxRecDepth 100000
mutual
def left : af → Int → Int
 | .mk _ t _ _ l m, n => if n < 0 ∨ (t.length : Int) > n then -1 else cy m (d6 l (n - 1 - t.length))
def d6 : List af → Int → Int
 | [], n => n
 | v :: r, n => if n < 0 then n else d6 r (left v n)
def fE : aw → Int → Int
 | .mk k v, n => if (k.length : Int) > n then -1 else left v (n - k.length)
def cy : List aw → Int → Int
 | [], n => n
 | a :: r, n => if n < 0 then n else cy r (fE a n)
end
theorem left_eq (v : af) (n : Int) : left v n = if n < 0 ∨ (v.text.length : Int) > n then -1 else cy v.map (d6 v.list (n - 1 - v.text.length)) := by cases v; simp [left, af.text, af.list, af.map]
theorem ye (a : aw) (n : Int) : fE a n = if (a.key.length : Int) > n then -1 else left a.value (n - a.key.length) := by cases a; simp [fE, aw.key, aw.value]
theorem yg : ∀ (l : List af) (n : Int), n < 0 → d6 l n = n
 | [], n, _ => by simp [d6]
 | v :: r, n, h => by simp [d6, h]
theorem qK : ∀ (l : List aw) (n : Int), n < 0 → cy l n = n
 | [], n, _ => by simp [cy]
 | v :: r, n, h => by simp [cy, h]
mutual
theorem qM : ∀ (v : af) (n : Int), -1 ≤ left v n ∧ (left v n ≤ n ∨ left v n = -1)
 | .mk k t m b l a, n => by
   simp only [left]
   split
   . omega
   . have h1 := yf l (n - 1 - t.length)
     have h2 := yi a (d6 l (n - 1 - t.length))
     omega
theorem yf : ∀ (l : List af) (n : Int), (-1 ≤ n → -1 ≤ d6 l n) ∧ (d6 l n ≤ n ∨ d6 l n = -1)
 | [], n => by simp [d6]
 | v :: r, n => by
   simp only [d6]
   split
   . omega
   . have h1 := qM v n
     have h2 := yf r (left v n)
     omega
theorem FY : ∀ (a : aw) (n : Int), -1 ≤ fE a n ∧ (fE a n ≤ n ∨ fE a n = -1)
 | .mk k v, n => by
   simp only [fE]
   split
   . omega
   . have := qM v (n - k.length)
     omega
theorem yi : ∀ (l : List aw) (n : Int), (-1 ≤ n → -1 ≤ cy l n) ∧ (cy l n ≤ n ∨ cy l n = -1)
 | [], n => by simp [cy]
 | v :: r, n => by
   simp only [cy]
   split
   . omega
   . have h1 := FY v n
     have h2 := yi r (fE v n)
     omega
end
theorem FZ {l : List af} {i : Nat} (h : i < l.length) (n : Int) : d6 (l.drop i) n = if n < 0 then n else d6 (l.drop (i + 1)) (left (l.getD i default) n) := by
 rw [List.drop_eq_getElem_cons h, d6, List.getD_eq_getElem?_getD, List.getElem?_eq_getElem h]; rfl
theorem yh {l : List aw} {i : Nat} (h : i < l.length) (n : Int) : cy (l.drop i) n = if n < 0 then n else cy (l.drop (i + 1)) (fE (l.getD i default) n) := by
 rw [List.drop_eq_getElem_cons h, cy, List.getD_eq_getElem?_getD, List.getElem?_eq_getElem h]; rfl

def lH (k : Nat) : Sm := fun args σ => match args, σ with
 | [x, .int .i64 q], [] => some (eQ x ∧ (b8 x).nodes < k ∧ q ≤ 6000, .int .i64 (left (b8 x) q), none)
 | _, _ => none
def ph (k : Nat) : Sm := fun args σ => match args, σ with
 | [x, .int .i64 q], [] => some (jS x ∧ eV (fv x) < k ∧ q ≤ 6000, .int .i64 (cy (fv x) q), none)
 | _, _ => none
theorem zH {k : Nat} (h : ∀ v n, v.nodes < k → n ≤ 6000 → OK 44 [ev v, .int .i64 n] [] (.int .i64 (left v n)) none) : aa 44 (lH k) := by
 intro args sg pre x r he hp
 unfold lH at he
 split at he <;> cases he
 exact (h _ _ hp.2.1 hp.2.2).args (aC.cons hp.1 (aC.refl _))
theorem zG {k : Nat} (h : ∀ m n, eV m < k → n ≤ 6000 → OK 17 [.list false 7 (bW m), .int .i64 n] [] (.int .i64 (cy m n)) none) : aa 17 (ph k) := by
 intro args sg pre x r he hp
 unfold ph at he
 split at he <;> cases he
 exact (h _ _ hp.2.1 hp.2.2).args (aC.cons hp.1 (aC.refl _))

theorem G5 {k : Nat} (h1 : aa 44 (lH k)) (h2 : aa 17 (ph k)) (v : af) (n : Int) (hk : v.nodes < k + 1) (hn : n ≤ 6000) : OK 44 [ev v, .int .i64 n] [] (.int .i64 (left v n)) none := by
 refine ai (C := cx [(44, lH k), (17, ph k)]) (aj ⟨h1, h2, trivial⟩) (fn := Tryz.f44) rfl rfl rfl rfl fun hw _ => ?_
 repeat' ((conv => whnf); (apply ao <;> intro h))
 all_goals try conv => whnf
 all_goals try (refine a8.mk ?_; try dsimp only)
 all_goals try refine stay ?_
 . refine a7.mk [] ?_ <;> (repeat' first | trivial | apply ah | apply ax)
   rw [left_eq, if_pos (.inl (by assumption))]
 . refine a7.mk [] ?_ <;> (repeat' first | trivial | apply ah | apply ax)
   rw [left_eq, if_pos (.inr (by assumption))]
 have hv := left_eq v n
 have hb := nz hw.1
 rw [if_neg (by omega)] at hv
 refine br.mk (Nat × Int) (fun | (i, q) => i ≤ v.list.length ∧ q ≤ 6000 ∧ -1 ≤ q ∧ d6 (v.list.drop i) q = d6 v.list (n - 1 - v.text.length))
  (fun | (i, q) => ⟨43, [(5, .int .i64 i), (1, .int .i64 q), (2, .ptr 0 0)], [.cells (cv v)], []⟩) (fun x => v.list.length - x.1) [] (0, n - 1 - v.text.length) (by simp; omega) ?_ (fun ⟨i, q⟩ ⟨hi, hq, hq1, he⟩ _ _ => ?_)
 . refine Go.VG.Sub.mk rfl ?_ ?_ ?_ ?_ <;> (repeat' first | trivial | apply ah | apply ax)
   all_goals (simp (discharger := omega) only [wR]; omega)
 have e1 := mf v.list
 repeat' ((conv => whnf); first | apply a9 | (apply ao <;> intro h) | with_reducible refine qz ?_ ?_)
 all_goals try conv => whnf
 all_goals try (refine a8.mk ?_; try dsimp only)
 all_goals first | refine stay ?_ | omega | skip
 . refine ⟨bk _, ?_, by omega⟩
   have := j7 v
   have := qS (l := v.list) (i := i) (by omega)
   have := GB v.map
   rw [aD]; omega
 . have hl := qM (v.list.getD i default) q
   rw [FZ (by omega), if_neg (by omega)] at he
   refine ⟨[], (i + 1, left (v.list.getD i default) q), ⟨by omega, by omega, by omega, he⟩, ?_, by omega⟩
   rw [aD]
   refine Go.VG.Sub.mk rfl ?_ ?_ ?_ ?_ <;> (repeat' first | trivial | apply ah | apply ax)
   (simp (discharger := omega) only [wR]; omega)
 . refine ⟨sS _, ?_, by omega⟩
   have := j7 v
   rw [m8]; omega
 . refine a7.mk [] ?_ <;> (repeat' first | trivial | apply ah | apply ax)
   rw [m8, hv, ← he, yg _ _ (by omega)]
 . refine ⟨sS _, ?_, by omega⟩
   have := j7 v
   rw [m8]; omega
 . refine a7.mk [] ?_ <;> (repeat' first | trivial | apply ah | apply ax)
   rw [m8, hv, ← he, List.drop_of_length_le (by omega)]
   rfl

theorem G1 {k : Nat} (h1 : aa 44 (lH (k + 1))) (m : List aw) (n : Int) (hk : eV m < k + 1) (hn : n ≤ 6000) : OK 17 [.list false 7 (bW m), .int .i64 n] [] (.int .i64 (cy m n)) none := by
 refine ai (C := cx [(44, lH (k + 1))]) (aj ⟨h1, trivial⟩) (fn := Tryz.f17) rfl rfl rfl rfl fun hw _ => ?_
 refine br.mk (Nat × Int) (fun | (i, q) => i ≤ m.length ∧ q ≤ 6000 ∧ cy (m.drop i) q = cy m n)
  (fun | (i, q) => ⟨39, [(5, .int .i64 i), (1, .int .i64 q), (0, .list false 7 (bW m))], [], []⟩) (fun x => m.length - x.1) [] (0, n) (by simp; omega) ?_ (fun ⟨i, q⟩ ⟨hi, hq, he⟩ _ _ => ?_)
 . refine Go.VG.Sub.mk rfl ?_ ?_ ?_ ?_ <;> (repeat' first | trivial)
 have e1 := jq m
 have hb : m.length ≤ 9223372036854775807 := by have := hw.1.1; rw [jq] at this; exact this
 repeat' ((conv => whnf); first | apply a9 | (apply ao <;> intro h) | with_reducible refine qA ?_ ?_)
 all_goals try conv => whnf
 all_goals try (refine a8.mk ?_; try dsimp only)
 all_goals first | refine stay ?_ | omega | skip
 . have hA := yh (l := m) (i := i) (by omega) q
   refine a7.mk [] ?_ <;> (repeat' first | trivial | apply ah | apply ax)
   rw [← he, hA, if_neg (by omega), ye, if_pos (by omega), qK _ _ (by omega)]
 . refine ⟨bk _, ?_, by (simp (discharger := omega) only [wR]; omega)⟩
   have := qT (l := m) (i := i) (by omega)
   rw [aD]; omega
 . have hl := qM (m.getD i default).value (q - (m.getD i default).key.length)
   rw [yh (by omega), if_neg (by omega), ye, if_neg (by omega)] at he
   refine ⟨[], (i + 1, _), ⟨by omega, ?_, he⟩, ?_, by omega⟩
   . omega
   . rw [aD]
     refine Go.VG.Sub.mk rfl ?_ ?_ ?_ ?_ <;> (repeat' first | trivial | apply ah | apply ax)
     . (simp (discharger := omega) only [wR]; omega)
     . congr 1; (simp (discharger := omega) only [wR]; omega)
 . refine a7.mk [] ?_ <;> (repeat' first | trivial | apply ah | apply ax)
   rw [← he, qK _ _ (by omega)]
 . refine a7.mk [] ?_ <;> (repeat' first | trivial | apply ah | apply ax)
   rw [← he, List.drop_of_length_le (by omega)]; rfl

theorem yj : ∀ k : Nat, aa 44 (lH k) ∧ aa 17 (ph k)
 | 0 => ⟨zH fun _ _ h => by omega, zG fun _ _ h => by omega⟩
 | k + 1 => by
   have ih := yj k
   have h1 := zH (k := k + 1) fun v n hk hn => G5 ih.1 ih.2 v n hk hn
   exact ⟨h1, zG fun m n hk hn => G1 h1 m n hk hn⟩
def u7 : Sm := fun args σ => match args, σ with
 | [x, .int .i64 q], [] => some (jS x ∧ q ≤ 6000, .int .i64 (cy (fv x) q), none)
 | _, _ => none
theorem G0 : aa 17 u7 := by
 intro args sg pre x r he hp
 unfold u7 at he
 split at he <;> cases he
 rename_i y q
 exact (yj (eV (fv y) + 1)).2 [y, .int .i64 q] [] _ _ _ rfl ⟨hp.1, Nat.lt_succ_self _, hp.2⟩
end Go.Proofs.YtipejldppicijaaGreatDoor
