/-
  A part of the proof.
-/
import Derived.Test.YtipejldppicijaaGreatDoorVal
import Derived.Test.YtipejldppicijaaGreatDoorTxt0
set_option linter.unusedSimpArgs false
set_option linter.unusedVariables false
set_option maxHeartbeats 4000000
namespace Go.Proofs.YtipejldppicijaaGreatDoor
open Go Go.VG
set_option maxRecDepth 100000
mutual
def left : ae → Int → Int
 | .mk _ t _ _ l m, n => if n < 0 ∨ (t.length : Int) > n then -1 else d6 m (dv l (n - 1 - t.length))
def dv : List ae → Int → Int
 | [], n => n
 | v :: r, n => if n < 0 then n else dv r (left v n)
def gu : ak → Int → Int
 | .mk k v, n => if (k.length : Int) > n then -1 else left v (n - k.length)
def d6 : List ak → Int → Int
 | [], n => n
 | a :: r, n => if n < 0 then n else d6 r (gu a n)
end
theorem left_eq (v : ae) (n : Int) : left v n = if n < 0 ∨ (v.text.length : Int) > n then -1 else d6 v.map (dv v.list (n - 1 - v.text.length)) := by cases v; simp [left, ae.text, ae.list, ae.map]
theorem Ba (a : ak) (n : Int) : gu a n = if (a.key.length : Int) > n then -1 else left a.value (n - a.key.length) := by cases a; simp [gu, ak.key, ak.value]
theorem Bc : ∀ (l : List ae) (n : Int), n < 0 → dv l n = n
 | [], n, _ => by simp [dv]
 | v :: r, n, h => by simp [dv, h]
theorem sb : ∀ (l : List ak) (n : Int), n < 0 → d6 l n = n
 | [], n, _ => by simp [d6]
 | v :: r, n, h => by simp [d6, h]
mutual
theorem sd : ∀ (v : ae) (n : Int), -1 ≤ left v n ∧ (left v n ≤ n ∨ left v n = -1)
 | .mk k t m b l a, n => by
   simp only [left]
   split
   . omega
   . have h1 := Bb l (n - 1 - t.length)
     have h2 := Be a (dv l (n - 1 - t.length))
     omega
theorem Bb : ∀ (l : List ae) (n : Int), (-1 ≤ n → -1 ≤ dv l n) ∧ (dv l n ≤ n ∨ dv l n = -1)
 | [], n => by simp [dv]
 | v :: r, n => by
   simp only [dv]
   split
   . omega
   . have h1 := sd v n
     have h2 := Bb r (left v n)
     omega
theorem Kb : ∀ (a : ak) (n : Int), -1 ≤ gu a n ∧ (gu a n ≤ n ∨ gu a n = -1)
 | .mk k v, n => by
   simp only [gu]
   split
   . omega
   . have := sd v (n - k.length)
     omega
theorem Be : ∀ (l : List ak) (n : Int), (-1 ≤ n → -1 ≤ d6 l n) ∧ (d6 l n ≤ n ∨ d6 l n = -1)
 | [], n => by simp [d6]
 | v :: r, n => by
   simp only [d6]
   split
   . omega
   . have h1 := Kb v n
     have h2 := Be r (gu v n)
     omega
end
theorem Kc {l : List ae} {i : Nat} (h : i < l.length) (n : Int) : dv (l.drop i) n = if n < 0 then n else dv (l.drop (i + 1)) (left (l.getD i default) n) := by
 rw [List.drop_eq_getElem_cons h, dv, List.getD_eq_getElem?_getD, List.getElem?_eq_getElem h]; rfl
theorem Bd {l : List ak} {i : Nat} (h : i < l.length) (n : Int) : d6 (l.drop i) n = if n < 0 then n else d6 (l.drop (i + 1)) (gu (l.getD i default) n) := by
 rw [List.drop_eq_getElem_cons h, d6, List.getD_eq_getElem?_getD, List.getElem?_eq_getElem h]; rfl

def mL (k : Nat) : Sm := fun args σ => match args, σ with
 | [x, .int .i64 q], [] => some (dV x ∧ (aY x).nodes < k ∧ q ≤ 6000, .int .i64 (left (aY x) q), none)
 | _, _ => none
def qH (k : Nat) : Sm := fun args σ => match args, σ with
 | [x, .int .i64 q], [] => some (dK x ∧ dY (bF x) < k ∧ q ≤ 6000, .int .i64 (d6 (bF x) q), none)
 | _, _ => none
theorem CN {k : Nat} (h : ∀ v n, v.nodes < k → n ≤ 6000 → OK 44 [ev v, .int .i64 n] [] (.int .i64 (left v n)) none) : aa 44 (mL k) := by
 intro args sg pre x r he hp
 unfold mL at he
 split at he <;> cases he
 exact (h _ _ hp.2.1 hp.2.2).args (aq.cons hp.1 (aq.refl _))
theorem CM {k : Nat} (h : ∀ m n, dY m < k → n ≤ 6000 → OK 17 [.list false 7 (bB m), .int .i64 n] [] (.int .i64 (d6 m n)) none) : aa 17 (qH k) := by
 intro args sg pre x r he hp
 unfold qH at he
 split at he <;> cases he
 exact (h _ _ hp.2.1 hp.2.2).args (aq.cons hp.1 (aq.refl _))

theorem Ki {k : Nat} (h1 : aa 44 (mL k)) (h2 : aa 17 (qH k)) (v : ae) (n : Int) (hk : v.nodes < k + 1) (hn : n ≤ 6000) : OK 44 [ev v, .int .i64 n] [] (.int .i64 (left v n)) none := by
 refine af (C := cx [(44, mL k), (17, qH k)]) (ah ⟨h1, h2, trivial⟩) (fn := Tryz.f44) rfl rfl rfl rfl fun hw _ => ?_
 repeat' ((conv => whnf); (apply al <;> intro h))
 all_goals try conv => whnf
 all_goals try (refine a8.mk ?_; try dsimp only)
 all_goals try refine stay ?_
 . refine a7.mk [] ?_ <;> (repeat' first | trivial | apply ab | apply au)
   rw [left_eq, if_pos (.inl (by assumption))]
 . refine a7.mk [] ?_ <;> (repeat' first | trivial | apply ab | apply au)
   rw [left_eq, if_pos (.inr (by assumption))]
 have hv := left_eq v n
 have hb := lP hw.1
 rw [if_neg (by omega)] at hv
 refine bd.mk (Nat × Int) (fun | (i, q) => i ≤ v.list.length ∧ q ≤ 6000 ∧ -1 ≤ q ∧ dv (v.list.drop i) q = dv v.list (n - 1 - v.text.length))
  (fun | (i, q) => ⟨43, [(5, .int .i64 i), (1, .int .i64 q), (2, .ptr 0 0)], [.cells (cv v)], []⟩) (fun x => v.list.length - x.1) [] (0, n - 1 - v.text.length) (by simp; omega) ?_ (fun ⟨i, q⟩ ⟨hi, hq, hq1, he⟩ _ _ => ?_)
 . refine Go.VG.Sub.mk rfl ?_ ?_ ?_ ?_ <;> (repeat' first | trivial | apply ab | apply au)
   all_goals (simp (discharger := omega) only [wR]; omega)
 have e1 := kx v.list
 repeat' ((conv => whnf); first | apply a9 | (apply al <;> intro h) | with_reducible refine pG ?_ ?_)
 all_goals try conv => whnf
 all_goals try (refine a8.mk ?_; try dsimp only)
 all_goals first | refine stay ?_ | omega | skip
 . refine ⟨ba _, ?_, by omega⟩
   have := iP v
   have := qh (l := v.list) (i := i) (by omega)
   have := KP v.map
   rw [az]; omega
 . have hl := sd (v.list.getD i default) q
   rw [Kc (by omega), if_neg (by omega)] at he
   refine ⟨[], (i + 1, left (v.list.getD i default) q), ⟨by omega, by omega, by omega, he⟩, ?_, by omega⟩
   rw [az]
   refine Go.VG.Sub.mk rfl ?_ ?_ ?_ ?_ <;> (repeat' first | trivial | apply ab | apply au)
   (simp (discharger := omega) only [wR]; omega)
 . refine ⟨i7 _, ?_, by omega⟩
   have := iP v
   rw [gW]; omega
 . refine a7.mk [] ?_ <;> (repeat' first | trivial | apply ab | apply au)
   rw [gW, hv, ← he, Bc _ _ (by omega)]
 . refine ⟨i7 _, ?_, by omega⟩
   have := iP v
   rw [gW]; omega
 . refine a7.mk [] ?_ <;> (repeat' first | trivial | apply ab | apply au)
   rw [gW, hv, ← he, List.drop_of_length_le (by omega)]
   rfl

theorem Ke {k : Nat} (h1 : aa 44 (mL (k + 1))) (m : List ak) (n : Int) (hk : dY m < k + 1) (hn : n ≤ 6000) : OK 17 [.list false 7 (bB m), .int .i64 n] [] (.int .i64 (d6 m n)) none := by
 refine af (C := cx [(44, mL (k + 1))]) (ah ⟨h1, trivial⟩) (fn := Tryz.f17) rfl rfl rfl rfl fun hw _ => ?_
 refine bd.mk (Nat × Int) (fun | (i, q) => i ≤ m.length ∧ q ≤ 6000 ∧ d6 (m.drop i) q = d6 m n)
  (fun | (i, q) => ⟨39, [(5, .int .i64 i), (1, .int .i64 q), (0, .list false 7 (bB m))], [], []⟩) (fun x => m.length - x.1) [] (0, n) (by simp; omega) ?_ (fun ⟨i, q⟩ ⟨hi, hq, he⟩ _ _ => ?_)
 . refine Go.VG.Sub.mk rfl ?_ ?_ ?_ ?_ <;> (repeat' first | trivial)
 have e1 := iG m
 have hb : m.length ≤ 9223372036854775807 := by have := hw.1.1; rw [iG] at this; exact this
 repeat' ((conv => whnf); first | apply a9 | (apply al <;> intro h) | with_reducible refine nR ?_ ?_)
 all_goals try conv => whnf
 all_goals try (refine a8.mk ?_; try dsimp only)
 all_goals first | refine stay ?_ | omega | skip
 . have hA := Bd (l := m) (i := i) (by omega) q
   refine a7.mk [] ?_ <;> (repeat' first | trivial | apply ab | apply au)
   rw [← he, hA, if_neg (by omega), Ba, if_pos (by omega), sb _ _ (by omega)]
 . refine ⟨ba _, ?_, by (simp (discharger := omega) only [wR]; omega)⟩
   have := qi (l := m) (i := i) (by omega)
   rw [az]; omega
 . have hl := sd (m.getD i default).value (q - (m.getD i default).key.length)
   rw [Bd (by omega), if_neg (by omega), Ba, if_neg (by omega)] at he
   refine ⟨[], (i + 1, _), ⟨by omega, ?_, he⟩, ?_, by omega⟩
   . omega
   . rw [az]
     refine Go.VG.Sub.mk rfl ?_ ?_ ?_ ?_ <;> (repeat' first | trivial | apply ab | apply au)
     . (simp (discharger := omega) only [wR]; omega)
     . congr 1; (simp (discharger := omega) only [wR]; omega)
 . refine a7.mk [] ?_ <;> (repeat' first | trivial | apply ab | apply au)
   rw [← he, sb _ _ (by omega)]
 . refine a7.mk [] ?_ <;> (repeat' first | trivial | apply ab | apply au)
   rw [← he, List.drop_of_length_le (by omega)]; rfl

theorem Bg : ∀ k : Nat, aa 44 (mL k) ∧ aa 17 (qH k)
 | 0 => ⟨CN fun _ _ h => by omega, CM fun _ _ h => by omega⟩
 | k + 1 => by
   have ih := Bg k
   have h1 := CN (k := k + 1) fun v n hk hn => Ki ih.1 ih.2 v n hk hn
   exact ⟨h1, CM fun m n hk hn => Ke h1 m n hk hn⟩
def sK : Sm := fun args σ => match args, σ with
 | [x, .int .i64 q], [] => some (dK x ∧ q ≤ 6000, .int .i64 (d6 (bF x) q), none)
 | _, _ => none
theorem Bf : aa 17 sK := by
 intro args sg pre x r he hp
 unfold sK at he
 split at he <;> cases he
 rename_i y q
 exact (Bg (dY (bF y) + 1)).2 [y, .int .i64 q] [] _ _ _ rfl ⟨hp.1, Nat.lt_succ_self _, hp.2⟩
end Go.Proofs.YtipejldppicijaaGreatDoor
namespace Go.Proofs.YtipejldppicijaaGreatDoor
open Go Go.VG
set_option maxRecDepth 100000
def ir (n : Int) : List UInt8 := if n = 0 then [102, 97, 108, 115, 101] else [116, 114, 117, 101]
def g9 (b : Int) : List UInt8 := [48, 120] ++ dg (be 8 b.toNat)
mutual
def json : ae → List UInt8
 | .mk k t n b l m => if k = 0 then [110, 117, 108, 108] else if k = 1 then quote t else if k = 2 then ir n else if k = 3 then dS n else if k = 4 then quote (g9 b) else if k = 5 then quote (dg t)
   else if k = 6 then 91 :: (fL l ++ [93]) else if k = 7 then 123 :: (fM m ++ [125]) else []
def fL : List ae → List UInt8
 | [] => []
 | v :: r => json v ++ i9 r
def i9 : List ae → List UInt8
 | [] => []
 | v :: r => 44 :: (json v ++ i9 r)
def mw : ak → List UInt8
 | .mk k v => quote k ++ 58 :: json v
def fM : List ak → List UInt8
 | [] => []
 | a :: r => mw a ++ ia r
def ia : List ak → List UInt8
 | [] => []
 | a :: r => 44 :: (mw a ++ ia r)
end
theorem Ac (v : ae) : json v = if v.kind = 0 then [110, 117, 108, 108] else if v.kind = 1 then quote v.text else if v.kind = 2 then ir v.num else if v.kind = 3 then dS v.num else if v.kind = 4 then quote (g9 v.bits)
   else if v.kind = 5 then quote (dg v.text) else if v.kind = 6 then 91 :: (fL v.list ++ [93]) else if v.kind = 7 then 123 :: (fM v.map ++ [125]) else [] := by
 cases v; simp only [json, ae.kind, ae.text, ae.num, ae.bits, ae.list, ae.map]; rfl
theorem A4 (a : ak) : mw a = quote a.key ++ 58 :: json a.value := by cases a; simp only [mw, ak.key, ak.value]
theorem A6 : ∀ (l m : List ae), i9 (l ++ m) = i9 l ++ i9 m
 | [], _ => by simp [i9]
 | v :: r, m => by simp [i9, A6 r m]
theorem A9 : ∀ (l m : List ak), ia (l ++ m) = ia l ++ ia m
 | [], _ => by simp [ia]
 | v :: r, m => by simp [ia, A9 r m]
theorem D9 {α : Type} [Inhabited α] {s : List α} {i : Nat} (h : i < s.length) : s.take (i + 1) = s.take i ++ [s.getD i default] := by
 rw [List.take_add_one, List.getD_eq_getElem?_getD, List.getElem?_eq_getElem h]; rfl
theorem A8 {l : List ae} {i : Nat} (h : i < l.length) : fL (l.take (i + 1)) = fL (l.take i) ++ ((if i = 0 then [] else [44]) ++ json (l.getD i default)) := by
 cases l with
 | nil => simp at h
 | cons v r =>
   cases i with
   | zero => simp [fL, i9]
   | succ i =>
     rw [show (v :: r).take (i + 1 + 1) = v :: r.take (i + 1) from rfl, show (v :: r).take (i + 1) = v :: r.take i from rfl, fL, fL, D9 (by simpa using h), A6]
     simp [i9]
theorem Ab {l : List ak} {i : Nat} (h : i < l.length) : fM (l.take (i + 1)) = fM (l.take i) ++ ((if i = 0 then [] else [44]) ++ mw (l.getD i default)) := by
 cases l with
 | nil => simp at h
 | cons v r =>
   cases i with
   | zero => simp [fM, ia]
   | succ i =>
     rw [show (v :: r).take (i + 1 + 1) = v :: r.take (i + 1) from rfl, show (v :: r).take (i + 1) = v :: r.take i from rfl, fM, fM, D9 (by simpa using h), A9]
     simp [ia]
def simple (v : ae) : List UInt8 := if v.kind = 1 then v.text else if v.kind = 2 then ir v.num else if v.kind = 3 then dS v.num else if v.kind = 4 then g9 v.bits else if v.kind = 5 then dg v.text else []
def text (v : ae) : List UInt8 := if v.kind = 6 ∨ v.kind = 7 then json v else simple v
mutual
def ae.size : ae → Nat
 | .mk _ t _ _ l m => 1 + t.length + eb l + bE m
def eb : List ae → Nat
 | [] => 0
 | v :: r => v.size + eb r
def ak.size : ak → Nat
 | .mk k v => k.length + v.size
def bE : List ak → Nat
 | [] => 0
 | a :: r => a.size + bE r
end
theorem size_eq (v : ae) : v.size = 1 + v.text.length + eb v.list + bE v.map := by cases v; simp [ae.size, ae.text, ae.list, ae.map]
theorem lz (a : ak) : a.size = a.key.length + a.value.size := by cases a; simp [ak.size, ak.key, ak.value]
theorem Mo {l : List ae} {i : Nat} (h : i < l.length) : (l.getD i default).size ≤ eb l := by
 induction l generalizing i with
 | nil => simp at h
 | cons v r ih =>
   cases i with
   | zero => simp [eb]
   | succ i => have := ih (i := i) (by simpa using h); simp only [eb, List.getD_cons_succ]; omega
theorem CB {l : List ak} {i : Nat} (h : i < l.length) : (l.getD i default).key.length + (l.getD i default).value.size ≤ bE l := by
 induction l generalizing i with
 | nil => simp at h
 | cons v r ih =>
   cases i with
   | zero => simp [bE, lz]
   | succ i => have := ih (i := i) (by simpa using h); simp only [bE, List.getD_cons_succ]; omega
mutual
theorem Bh : ∀ (v : ae) (n : Int), 0 ≤ left v n → (v.size : Int) + left v n ≤ n
 | .mk k t m b l a, n, h => by
   simp only [left] at h ⊢
   split at h
   . omega
   . rename_i hh
     rw [if_neg hh]
     have h1 : 0 ≤ dv l (n - 1 - t.length) := by
      by_cases hc : dv l (n - 1 - t.length) < 0
      . rw [sb _ _ hc] at h; omega
      . omega
     have h2 := Bi l _ h1
     have h3 := vD a _ h
     simp only [ae.size]; omega
theorem Bi : ∀ (l : List ae) (n : Int), 0 ≤ dv l n → (eb l : Int) + dv l n ≤ n
 | [], n, h => by simp [dv, eb]
 | v :: r, n, h => by
   simp only [dv] at h ⊢
   split at h
   . omega
   . rename_i hh
     rw [if_neg hh]
     have h1 : 0 ≤ left v n := by
      by_cases hc : left v n < 0
      . rw [Bc _ _ hc] at h; omega
      . omega
     have h2 := Bh v n h1
     have h3 := Bi r _ h
     simp only [eb]; omega
theorem Kh : ∀ (a : ak) (n : Int), 0 ≤ gu a n → (a.size : Int) + gu a n ≤ n
 | .mk k v, n, h => by
   simp only [gu] at h ⊢
   split at h
   . omega
   . rename_i hh
     rw [if_neg hh]
     have := Bh v _ h
     simp only [ak.size]; omega
theorem vD : ∀ (l : List ak) (n : Int), 0 ≤ d6 l n → (bE l : Int) + d6 l n ≤ n
 | [], n, h => by simp [d6, bE]
 | v :: r, n, h => by
   simp only [d6] at h ⊢
   split at h
   . omega
   . rename_i hh
     rw [if_neg hh]
     have h1 : 0 ≤ gu v n := by
      by_cases hc : gu v n < 0
      . rw [sb _ _ hc] at h; omega
      . omega
     have h2 := Kh v n h1
     have h3 := vD r _ h
     simp only [bE]; omega
end
mutual
def ae.ok : ae → Prop
 | .mk k _ n b l m => (0 ≤ k ∧ k ≤ 255) ∧ (-9223372036854775808 ≤ n ∧ n ≤ 9223372036854775807) ∧ (0 ≤ b ∧ b ≤ 18446744073709551615) ∧ eG l ∧ dG m
def eG : List ae → Prop
 | [] => True
 | v :: r => v.ok ∧ eG r
def ak.ok : ak → Prop
 | .mk _ v => v.ok
def dG : List ak → Prop
 | [] => True
 | a :: r => a.ok ∧ dG r
end
mutual
theorem KU : ∀ v : ae, (j8 v).wf → v.ok
 | .mk k t n b l m, h => by
   simp only [j8, V.wf, V.cp] at h
   obtain ⟨h1, h2, h3, h4, ⟨_, h5⟩, ⟨_, h6⟩, _⟩ := h
   simp only [ae.ok]
   exact ⟨h1, h3, h4, vQ l h5, sr m h6⟩
theorem vQ : ∀ l : List ae, V.cp (eo l) → eG l
 | [], _ => by simp [eG]
 | v :: r, h => by
   simp only [eo, V.cp] at h
   simp only [eG]
   exact ⟨KU v h.1, vQ r h.2⟩
theorem KT : ∀ a : ak, (mb a).wf → a.ok
 | .mk s (.mk k t n b l m), h => by
   simp only [mb, j8, V.cells, V.wf, V.cp] at h
   obtain ⟨_, h1, h2, h3, h4, ⟨_, h5⟩, ⟨_, h6⟩, _⟩ := h
   simp only [ak.ok, ae.ok]
   exact ⟨h1, h3, h4, vQ l h5, sr m h6⟩
theorem sr : ∀ l : List ak, V.cp (bB l) → dG l
 | [], _ => by simp [dG]
 | v :: r, h => by
   simp only [bB, V.cp] at h
   simp only [dG]
   exact ⟨KT v h.1, sr r h.2⟩
end
theorem pf (b : Int) : (g9 b).length = 18 := by simp [g9]
theorem u9 (n : Int) : (ir n).length ≤ 5 := by unfold ir; split <;> simp
mutual
theorem jJ : ∀ v : ae, v.ok → (json v).length + 8 ≤ 120 * v.size
 | .mk k t n b l m, h => by
   simp only [ae.ok] at h
   obtain ⟨_, h2, h3, h4, h5⟩ := h
   have e1 := oq t
   have e2 := u9 n
   have e3 := pg h2.1 h2.2
   have e4 := oq (g9 b)
   have e5 := pf b
   have e6 := oq (dg t)
   have e7 := gm t
   have e8 := vj l h4
   have e9 := vk m h5
   simp only [json, ae.size]
   repeat' split
   all_goals (first | omega | (simp only [List.length_cons, List.length_append, List.length_nil]; omega))
theorem vj : ∀ l : List ae, eG l → (fL l).length ≤ 120 * eb l
 | [], _ => by simp [fL]
 | v :: r, h => by
   simp only [eG] at h
   have e1 := jJ v h.1
   have e2 := A7 r h.2
   simp only [fL, eb, List.length_append]; omega
theorem A7 : ∀ l : List ae, eG l → (i9 l).length ≤ 120 * eb l
 | [], _ => by simp [i9]
 | v :: r, h => by
   simp only [eG] at h
   have e1 := jJ v h.1
   have e2 := A7 r h.2
   have e3 := size_eq v
   simp only [i9, eb, List.length_append, List.length_cons]; omega
theorem A5 : ∀ a : ak, a.ok → (mw a).length + 4 ≤ 120 * a.size
 | .mk k v, h => by
   simp only [ak.ok] at h
   have e1 := oq k
   have e2 := jJ v h
   have e3 := size_eq v
   simp only [mw, ak.size, List.length_append, List.length_cons]; omega
theorem vk : ∀ l : List ak, dG l → (fM l).length ≤ 120 * bE l
 | [], _ => by simp [fM]
 | v :: r, h => by
   simp only [dG] at h
   have e1 := A5 v h.1
   have e2 := Aa r h.2
   simp only [fM, bE, List.length_append]; omega
theorem Aa : ∀ l : List ak, dG l → (ia l).length ≤ 120 * bE l
 | [], _ => by simp [ia]
 | v :: r, h => by
   simp only [dG] at h
   have e1 := A5 v h.1
   have e2 := Aa r h.2
   simp only [ia, bE, List.length_append, List.length_cons]; omega
end
end Go.Proofs.YtipejldppicijaaGreatDoor
