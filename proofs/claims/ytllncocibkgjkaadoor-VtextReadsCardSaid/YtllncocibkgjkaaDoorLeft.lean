/-
  A part of the proof.
-/
import Derived.Test.YtllncocibkgjkaaDoorVal
set_option linter.unusedSimpArgs false
set_option linter.unusedVariables false
set_option maxHeartbeats 4000000
namespace Go.Proofs.YtllncocibkgjkaaDoor
open Go Go.VG
set_option maxRecDepth 100000
mutual
def left : ah → Int → Int
 | .mk _ t _ _ l m, n => if n < 0 ∨ (t.length : Int) > n then -1 else eB m (eA l (n - 1 - t.length))
def eA : List ah → Int → Int
 | [], n => n
 | v :: r, n => if n < 0 then n else eA r (left v n)
def iE : aD → Int → Int
 | .mk k v, n => if (k.length : Int) > n then -1 else left v (n - k.length)
def eB : List aD → Int → Int
 | [], n => n
 | a :: r, n => if n < 0 then n else eB r (iE a n)
end
theorem left_eq (v : ah) (n : Int) : left v n = if n < 0 ∨ (v.text.length : Int) > n then -1 else eB v.map (eA v.list (n - 1 - v.text.length)) := by cases v; simp [left, ah.text, ah.list, ah.map]
theorem Af (a : aD) (n : Int) : iE a n = if (a.key.length : Int) > n then -1 else left a.value (n - a.key.length) := by cases a; simp [iE, aD.key, aD.value]
theorem Ai : ∀ (l : List ah) (n : Int), n < 0 → eA l n = n
 | [], n, _ => by simp [eA]
 | v :: r, n, h => by simp [eA, h]
theorem se : ∀ (l : List aD) (n : Int), n < 0 → eB l n = n
 | [], n, _ => by simp [eB]
 | v :: r, n, h => by simp [eB, h]
mutual
theorem si : ∀ (v : ah) (n : Int), -1 ≤ left v n ∧ (left v n ≤ n ∨ left v n = -1)
 | .mk k t m b l a, n => by
   simp only [left]
   split
   . omega
   . have h1 := Ah l (n - 1 - t.length)
     have h2 := Ak a (eA l (n - 1 - t.length))
     omega
theorem Ah : ∀ (l : List ah) (n : Int), (-1 ≤ n → -1 ≤ eA l n) ∧ (eA l n ≤ n ∨ eA l n = -1)
 | [], n => by simp [eA]
 | v :: r, n => by
   simp only [eA]
   split
   . omega
   . have h1 := si v n
     have h2 := Ah r (left v n)
     omega
theorem Hk : ∀ (a : aD) (n : Int), -1 ≤ iE a n ∧ (iE a n ≤ n ∨ iE a n = -1)
 | .mk k v, n => by
   simp only [iE]
   split
   . omega
   . have := si v (n - k.length)
     omega
theorem Ak : ∀ (l : List aD) (n : Int), (-1 ≤ n → -1 ≤ eB l n) ∧ (eB l n ≤ n ∨ eB l n = -1)
 | [], n => by simp [eB]
 | v :: r, n => by
   simp only [eB]
   split
   . omega
   . have h1 := Hk v n
     have h2 := Ak r (iE v n)
     omega
end
theorem Hl {l : List ah} {i : Nat} (h : i < l.length) (n : Int) : eA (l.drop i) n = if n < 0 then n else eA (l.drop (i + 1)) (left (l.getD i default) n) := by
 rw [List.drop_eq_getElem_cons h, eA, List.getD_eq_getElem?_getD, List.getElem?_eq_getElem h]; rfl
theorem Aj {l : List aD} {i : Nat} (h : i < l.length) (n : Int) : eB (l.drop i) n = if n < 0 then n else eB (l.drop (i + 1)) (iE (l.getD i default) n) := by
 rw [List.drop_eq_getElem_cons h, eB, List.getD_eq_getElem?_getD, List.getElem?_eq_getElem h]; rfl

def nn (k : Nat) : Sm := fun args σ => match args, σ with
 | [x, .int .i64 q], [] => some (fM x ∧ (bW x).nodes < k ∧ q ≤ 2000, .int .i64 (left (bW x) q), none)
 | _, _ => none
def qH (k : Nat) : Sm := fun args σ => match args, σ with
 | [x, .int .i64 q], [] => some (isM x ∧ cM (ll x) < k ∧ q ≤ 2000, .int .i64 (eB (ll x) q), none)
 | _, _ => none
theorem BS {k : Nat} (h : ∀ v n, v.nodes < k → n ≤ 2000 → OK 4 [ev v, .int .i64 n] [] (.int .i64 (left v n)) none) : aE 4 (nn k) := by
 intro args sg pre x r he hp
 unfold nn at he
 split at he <;> cases he
 exact (h _ _ hp.2.1 hp.2.2).args (aM.cons hp.1 (aM.refl _))
theorem BR {k : Nat} (h : ∀ m n, cM m < k → n ≤ 2000 → OK 11 [.list false 7 (d8 m), .int .i64 n] [] (.int .i64 (eB m n)) none) : aE 11 (qH k) := by
 intro args sg pre x r he hp
 unfold qH at he
 split at he <;> cases he
 exact (h _ _ hp.2.1 hp.2.2).args (aM.cons hp.1 (aM.refl _))

theorem Hr {k : Nat} (h1 : aE 4 (nn k)) (h2 : aE 11 (qH k)) (v : ah) (n : Int) (hk : v.nodes < k + 1) (hn : n ≤ 2000) : OK 4 [ev v, .int .i64 n] [] (.int .i64 (left v n)) none := by
 refine aI (C := cx [(4, nn k), (11, qH k)]) (aG ⟨h1, h2, trivial⟩) (fn := Tryd.f4) rfl rfl rfl rfl fun hw _ => ?_
 repeat' ((conv => whnf); first | with_reducible (first | refine bg (fun j q h => ?_) fun h => ?_ | refine go2 ⟨rfl, rfl⟩ (fun h => ?_) fun j h => ?_ | refine go2 ?_ (fun h => ?_) fun j h => ?_ | refine aL ?_ (fun h => ?_) fun h => ?_) | apply ai | apply aT | apply aw | ((first | apply aj | apply bB | apply bC | apply bm | apply bc) <;> intro h) | with_reducible (first | refine aQ.mk _ rfl ?_ | refine bL ?_ ?_ | refine bM ?_ ?_ | refine bn ?_ fun hc => ?_ | refine bo ?_ fun hc => ?_ | refine aY ?_ fun hc => ?_ | refine b9 ?_ fun hc => ?_ | apply bd | apply bf | refine b6 ?_ fun b hb => ?_) | apply b7 | apply bh | apply bp | apply bq | apply br | apply goN | apply bz | with_reducible refine bA ?_)
 all_goals try conv => whnf
 all_goals try (refine a8.mk ?_; try dsimp only)
 all_goals first | refine stay ?_ | trivial | omega | (simp (discharger := omega) only [wR]; omega) | (simp only [ax]; omega) | (simp (discharger := omega) [-List.getD_eq_getElem?_getD, wR] <;> omega) | skip
 . refine ab.mk [] ?_ <;> (repeat' first | trivial | rfl | exact aV _ _ | apply aa | apply aU | apply ar | apply aK | apply ak | apply aS | apply aW | apply aX | apply aO | apply aJ)
   rw [left_eq, if_pos (.inl (by assumption))]
 . refine ab.mk [] ?_ <;> (repeat' first | trivial | rfl | exact aV _ _ | apply aa | apply aU | apply ar | apply aK | apply ak | apply aS | apply aW | apply aX | apply aO | apply aJ)
   rw [left_eq, if_pos (.inr (by assumption))]
 have hv := left_eq v n
 have hb := tp hw.1
 rw [if_neg (by omega)] at hv
 refine cB.mk (Nat × Int) (fun | (i, q) => i ≤ v.list.length ∧ q ≤ 2000 ∧ -1 ≤ q ∧ eA (v.list.drop i) q = eA v.list (n - 1 - v.text.length))
  (fun | (i, q) => ⟨43, [(5, .int .i64 i), (1, .int .i64 q), (2, .ptr 0 0)], [.cells (cv v)], []⟩) (fun x => v.list.length - x.1) [] (0, n - 1 - v.text.length) (by simp; omega) ?_ (fun ⟨i, q⟩ ⟨hi, hq, hq1, he⟩ _ _ => ?_)
 . refine Go.VG.Sub.mk rfl ?_ ?_ ?_ ?_ <;> (repeat' first | trivial | rfl | exact aV _ _ | apply aa | apply aU | apply ar | apply aK | apply ak | apply aS | apply aW | apply aX | apply aO | apply aJ)
   all_goals (first | omega | (simp (discharger := omega) only [wR]; omega) | (simp only [ax]; omega) | (simp (discharger := omega) [-List.getD_eq_getElem?_getD, wR] <;> omega))
 have e1 := nN v.list
 repeat' ((conv => whnf); first | with_reducible (first | refine bg (fun j q h => ?_) fun h => ?_ | refine go2 ⟨rfl, rfl⟩ (fun h => ?_) fun j h => ?_ | refine go2 ?_ (fun h => ?_) fun j h => ?_ | refine aL ?_ (fun h => ?_) fun h => ?_) | apply ai | apply aT | apply aw | ((first | apply aj | apply bB | apply bC | apply bm | apply bc) <;> intro h) | with_reducible (first | refine aQ.mk _ rfl ?_ | refine bL ?_ ?_ | refine bM ?_ ?_ | refine bn ?_ fun hc => ?_ | refine bo ?_ fun hc => ?_ | refine aY ?_ fun hc => ?_ | refine b9 ?_ fun hc => ?_ | apply bd | apply bf | refine b6 ?_ fun b hb => ?_) | apply b7 | apply bh | apply bp | apply bq | apply br | apply goN | apply bz | with_reducible refine bA ?_)
 all_goals try conv => whnf
 all_goals try (refine a8.mk ?_; try dsimp only)
 all_goals first | refine stay ?_ | trivial | omega | (simp (discharger := omega) only [wR]; omega) | (simp only [ax]; omega) | (simp (discharger := omega) [-List.getD_eq_getElem?_getD, wR] <;> omega) | skip
 . refine ⟨az _, ?_, by omega⟩
   have := kP v
   have := vb (l := v.list) (i := i) (by omega)
   have := HW v.map
   rw [aN]; omega
 . have hl := si (v.list.getD i default) q
   rw [Hl (by omega), if_neg (by omega)] at he
   refine ⟨[], (i + 1, left (v.list.getD i default) q), ⟨by omega, by omega, by omega, he⟩, ?_, by omega⟩
   rw [aN]
   refine Go.VG.Sub.mk rfl ?_ ?_ ?_ ?_ <;> (repeat' first | trivial | rfl | exact aV _ _ | apply aa | apply aU | apply ar | apply aK | apply ak | apply aS | apply aW | apply aX | apply aO | apply aJ)
   (first | omega | (simp (discharger := omega) only [wR]; omega) | (simp only [ax]; omega) | (simp (discharger := omega) [-List.getD_eq_getElem?_getD, wR] <;> omega))
 . refine ⟨aH _, ?_, by omega⟩
   have := kP v
   rw [bU]; omega
 . refine ab.mk [] ?_ <;> (repeat' first | trivial | rfl | exact aV _ _ | apply aa | apply aU | apply ar | apply aK | apply ak | apply aS | apply aW | apply aX | apply aO | apply aJ)
   rw [bU, hv, ← he, Ai _ _ (by omega)]
 . refine ⟨aH _, ?_, by omega⟩
   have := kP v
   rw [bU]; omega
 . refine ab.mk [] ?_ <;> (repeat' first | trivial | rfl | exact aV _ _ | apply aa | apply aU | apply ar | apply aK | apply ak | apply aS | apply aW | apply aX | apply aO | apply aJ)
   rw [bU, hv, ← he, List.drop_of_length_le (by omega)]
   rfl

theorem Hm {k : Nat} (h1 : aE 4 (nn (k + 1))) (m : List aD) (n : Int) (hk : cM m < k + 1) (hn : n ≤ 2000) : OK 11 [.list false 7 (d8 m), .int .i64 n] [] (.int .i64 (eB m n)) none := by
 refine aI (C := cx [(4, nn (k + 1))]) (aG ⟨h1, trivial⟩) (fn := Tryd.f11) rfl rfl rfl rfl fun hw _ => ?_
 refine cB.mk (Nat × Int) (fun | (i, q) => i ≤ m.length ∧ q ≤ 2000 ∧ eB (m.drop i) q = eB m n)
  (fun | (i, q) => ⟨39, [(5, .int .i64 i), (1, .int .i64 q), (0, .list false 7 (d8 m))], [], []⟩) (fun x => m.length - x.1) [] (0, n) (by simp; omega) ?_ (fun ⟨i, q⟩ ⟨hi, hq, he⟩ _ _ => ?_)
 . refine Go.VG.Sub.mk rfl ?_ ?_ ?_ ?_ <;> (repeat' first | trivial | rfl | exact aV _ _ | apply aa | apply aU | apply ar | apply aK | apply ak | apply aS | apply aW | apply aX | apply aO | apply aJ)
 have e1 := lp m
 have hb : m.length ≤ 9223372036854775807 := by have := hw.1.1; rw [lp] at this; exact this
 repeat' ((conv => whnf); first | with_reducible (first | refine bg (fun j q h => ?_) fun h => ?_ | refine go2 ⟨rfl, rfl⟩ (fun h => ?_) fun j h => ?_ | refine go2 ?_ (fun h => ?_) fun j h => ?_ | refine aL ?_ (fun h => ?_) fun h => ?_) | apply ai | apply aT | apply aw | ((first | apply aj | apply bB | apply bC | apply bm | apply bc) <;> intro h) | with_reducible (first | refine aQ.mk _ rfl ?_ | refine bL ?_ ?_ | refine bM ?_ ?_ | refine bn ?_ fun hc => ?_ | refine bo ?_ fun hc => ?_ | refine aY ?_ fun hc => ?_ | refine b9 ?_ fun hc => ?_ | apply bd | apply bf | refine b6 ?_ fun b hb => ?_) | apply b7 | apply bh | apply bp | apply bq | apply br | apply goN | apply bz | with_reducible refine bA ?_)
 all_goals try conv => whnf
 all_goals try (refine a8.mk ?_; try dsimp only)
 all_goals first | refine stay ?_ | trivial | omega | (simp (discharger := omega) only [wR]; omega) | (simp only [ax]; omega) | (simp (discharger := omega) [-List.getD_eq_getElem?_getD, wR] <;> omega) | skip
 . have hA := Aj (l := m) (i := i) (by omega) q
   refine ab.mk [] ?_ <;> (repeat' first | trivial | rfl | exact aV _ _ | apply aa | apply aU | apply ar | apply aK | apply ak | apply aS | apply aW | apply aX | apply aO | apply aJ)
   rw [← he, hA, if_neg (by omega), Af, if_pos (by omega), se _ _ (by omega)]
 . refine ⟨az _, ?_, by (first | omega | (simp (discharger := omega) only [wR]; omega) | (simp only [ax]; omega) | (simp (discharger := omega) [-List.getD_eq_getElem?_getD, wR] <;> omega))⟩
   have := ve (l := m) (i := i) (by omega)
   rw [aN]; omega
 . have hl := si (m.getD i default).value (q - (m.getD i default).key.length)
   rw [Aj (by omega), if_neg (by omega), Af, if_neg (by omega)] at he
   refine ⟨[], (i + 1, _), ⟨by omega, ?_, he⟩, ?_, by omega⟩
   . omega
   . rw [aN]
     refine Go.VG.Sub.mk rfl ?_ ?_ ?_ ?_ <;> (repeat' first | trivial | rfl | exact aV _ _ | apply aa | apply aU | apply ar | apply aK | apply ak | apply aS | apply aW | apply aX | apply aO | apply aJ)
     . (first | omega | (simp (discharger := omega) only [wR]; omega) | (simp only [ax]; omega) | (simp (discharger := omega) [-List.getD_eq_getElem?_getD, wR] <;> omega))
     . congr 1; (first | omega | (simp (discharger := omega) only [wR]; omega) | (simp only [ax]; omega) | (simp (discharger := omega) [-List.getD_eq_getElem?_getD, wR] <;> omega))
 . refine ab.mk [] ?_ <;> (repeat' first | trivial | rfl | exact aV _ _ | apply aa | apply aU | apply ar | apply aK | apply ak | apply aS | apply aW | apply aX | apply aO | apply aJ)
   rw [← he, se _ _ (by omega)]
 . refine ab.mk [] ?_ <;> (repeat' first | trivial | rfl | exact aV _ _ | apply aa | apply aU | apply ar | apply aK | apply ak | apply aS | apply aW | apply aX | apply aO | apply aJ)
   rw [← he, List.drop_of_length_le (by omega)]; rfl

theorem Al : ∀ k : Nat, aE 4 (nn k) ∧ aE 11 (qH k)
 | 0 => ⟨BS fun _ _ h => by omega, BR fun _ _ h => by omega⟩
 | k + 1 => by
   have ih := Al k
   have h1 := BS (k := k + 1) fun v n hk hn => Hr ih.1 ih.2 v n hk hn
   exact ⟨h1, BR fun m n hk hn => Hm h1 m n hk hn⟩
def vR : Sm := fun args σ => match args, σ with
 | [x, .int .i64 q], [] => some (fM x ∧ q ≤ 2000, .int .i64 (left (bW x) q), none)
 | _, _ => none
theorem Ho : aE 4 vR := by
 intro args sg pre x r he hp
 unfold vR at he
 split at he <;> cases he
 rename_i y q
 exact (Al ((bW y).nodes + 1)).1 [y, .int .i64 q] [] _ _ _ rfl ⟨hp.1, Nat.lt_succ_self _, hp.2⟩
end Go.Proofs.YtllncocibkgjkaaDoor
