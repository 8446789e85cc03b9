/-
  A part of the proof.
-/
import Derived.Test.YtdjolnjlhbfnmaaGreatDoorNA
import Derived.Test.YtdjolnjlhbfnmaaGreatDoorB
set_option linter.unusedSimpArgs false
set_option linter.unusedVariables false
set_option maxHeartbeats 4000000
namespace Go.Proofs.YtdjolnjlhbfnmaaGreatDoor
open Go Go.VG
set_option maxRecDepth 100000
def less : List aG → Ky → Nat
 | [], _ => 0
 | b :: r, k => if b.key < k then less r k + 1 else 0
theorem Mv (l : List aG) (k : Ky) : less l k ≤ l.length := by
 induction l with
 | nil => exact Nat.le_refl 0
 | cons b r ih =>
   rw [less]
   split
   . exact Nat.succ_le_succ ih
   . exact Nat.zero_le _
theorem Mw {l : List aG} {k : Ky} {j : Nat} (h : j < less l k) : (l.getD j default).key < k := by
 induction l generalizing j with
 | nil => exact absurd h (Nat.not_lt_zero _)
 | cons b r ih =>
   rw [less] at h
   split at h
   . cases j with
     | zero => assumption
     | succ j => exact ih (by omega)
   . exact absurd h (Nat.not_lt_zero _)
theorem Mu {l : List aG} {k : Ky} (h : less l k < l.length) : ¬ (l.getD (less l k) default).key < k := by
 induction l with
 | nil => exact absurd h (Nat.not_lt_zero _)
 | cons b r ih =>
   rw [less] at h ⊢
   by_cases q : b.key < k
   . rw [if_pos q] at h ⊢
     exact ih (by simpa using h)
   . rw [if_neg q] at h ⊢
     exact q
theorem wz (l : List aG) (a : aG) : du l a = l.take (less l a.key) ++ a :: (if less l a.key < l.length ∧ (l.getD (less l a.key) default).key = a.key then l.drop (less l a.key + 1) else l.drop (less l a.key)) := by
 induction l with
 | nil => simp [du, less]
 | cons b r ih =>
   rw [du, less]
   by_cases q : b.key < a.key
   . rw [if_pos q, if_pos q, ih]
     have e : (less r a.key + 1 < (b :: r).length ∧ ((b :: r).getD (less r a.key + 1) default).key = a.key) ↔ (less r a.key < r.length ∧ (r.getD (less r a.key) default).key = a.key) := by simp
     by_cases z : less r a.key < r.length ∧ (r.getD (less r a.key) default).key = a.key
     . rw [if_pos z, if_pos (e.2 z)]; rfl
     . rw [if_neg z, if_neg (fun y => z (e.1 y))]; rfl
   . rw [if_neg q, if_neg q]
     by_cases z : b.key = a.key
     . rw [if_pos z, if_pos ⟨Nat.succ_pos _, z⟩]; rfl
     . rw [if_neg z, if_neg (fun y => z y.2)]; rfl
theorem KT (l : List aG) (a : aG) : (du l a).length ≤ l.length + 1 := by
 induction l with
 | nil => simp [du]
 | cons b r ih =>
   rw [du]
   split
   . simp only [List.length_cons]; omega
   . split
     . simp only [List.length_cons]; omega
     . simp only [List.length_cons]; omega
theorem KV {l : List aG} {a : aG} {j m : Nat} (h : j = less l a.key) (h2 : j < l.length) (h3 : (l.getD j default).key = a.key) (hm : m = j + 1) : [] ++ List.take j (aV l) ++ [ea a] ++ List.drop m (aV l) = aV (du l a) := by
 subst hm
 rw [wz, ← h, if_pos ⟨h2, h3⟩, gP, gP, List.map_append, List.map_cons, List.map_take, List.map_drop]
 simp
theorem BX {l : List aG} {a : aG} {j : Nat} (h : j = less l a.key) (h2 : ¬ (j < l.length ∧ (l.getD j default).key = a.key)) : [] ++ List.take j (aV l) ++ [ea a] ++ List.drop j (aV l) = aV (du l a) := by
 rw [wz, ← h, if_neg h2, gP, gP, List.map_append, List.map_cons, List.map_take, List.map_drop]
 simp
theorem Hm (l : List aG) (a : aG) (hp : l.length ≤ 100000) : OK 67 [.list false 7 (aV l), ea a] [] (.list false 7 (aV (du l a))) none := by
 refine al (C := cx []) (aq trivial) (fn := Tryz.f67) rfl rfl rfl rfl fun hw _ => ?_
 have e1 := jH l
 have hle := Mv l a.key
 have hlt := fun j => Mw (l := l) (k := a.key) (j := j)
 have hge := Mu (l := l) (k := a.key)
 have hin := wz l a
 all_goals try conv => whnf
 all_goals try (refine ae.mk ?_; try dsimp only)
 refine aT.mk Nat (fun j => j ≤ less l a.key) (fun j => ⟨52, [(0, .list false 7 (aV l)), (3, .ptr 0 0), (5, .int .i64 j)], [.cells [.str a.key, .int .u8 a.value.kind, .str a.value.text, .int .i64 a.value.num, .int .u64 a.value.bits, .list false 6 (dK a.value.list), .list false 7 (aV a.value.map)]], []⟩) (fun j => l.length - j) [] 0 (Nat.zero_le _) ?_ (fun j hj _ _ => ?_)
 . refine Go.VG.Sub.mk rfl ?_ ?_ ?_ ?_ <;> (repeat' first | trivial)
 have hlt := hlt j
 have hun : (j < l.length → ¬ (l.getD j default).key < a.key) → j = less l a.key := fun h => by
  rcases Nat.lt_or_ge j (less l a.key) with q | q
  . exact absurd (hlt q) (h (by omega))
  . omega
 repeat' ((conv => whnf); first | apply aj | ((first | apply aw | apply fw | apply eG) <;> intro h) | with_reducible refine rv ?_ ?_)
 all_goals try conv => whnf
 all_goals try (refine ae.mk ?_; try dsimp only)
 all_goals (try simp only [jH, bytesLess_eq, cond_true, decide_eq_true_eq, decide_eq_false_iff_not] at *)
 all_goals first | refine stay ?_ | trivial | omega | (simp (discharger := omega) only [wR]; omega) | (simp only [cL]; omega) | (simp (discharger := omega) [-List.getD_eq_getElem?_getD, wR] <;> omega) | skip
 . have hnl : ¬ j = less l a.key := fun q => hge (by omega) (q ▸ (by assumption))
   refine ⟨[], j + 1, by omega, ?_, by omega⟩
   refine Go.VG.Sub.mk rfl ?_ ?_ ?_ ?_ <;> (repeat' first | trivial | apply ax | apply aH)
   rw [bc]; omega
 . have hj2 := hun fun _ => by assumption
   refine af.mk [.bk 1] ?_ <;> (repeat' first | trivial | apply ax | apply cU)
   exact KV hj2 (by omega) (by assumption) (by rw [bc]; omega)
 . have hj2 := hun fun _ => by assumption
   refine af.mk [.bk 1] ?_ <;> (repeat' first | trivial | apply ax | apply cU)
   exact BX hj2 (fun q => absurd q.2 (by assumption))
 . exfalso; omega
 . exfalso; omega
 . exfalso; omega
 . have hj2 := hun fun q => absurd q (by omega)
   refine af.mk [.bk 1] ?_ <;> (repeat' first | trivial | apply ax | apply cU)
   exact BX hj2 (fun q => absurd q.1 (by omega))
def isA (x : V) : Prop := Wk x (ea (p8 x))
theorem KW (a : aG) : isA (ea a) := by unfold isA; rw [B1]; exact Wk.refl _
def y9 : Sm := fun args σ => match args, σ with
 | [x, y], [] => some (kJ x ∧ isA y ∧ (iG x).length ≤ 100000, .list false 7 (aV (du (iG x) (p8 y))), none)
 | _, _ => none
-- #name du truchmanref24.Into
theorem Le : au 67 y9 := by
 intro args sg pre x r he hp
 unfold y9 at he
 split at he <;> cases he
 exact (Hm _ _ hp.2.2).args (aE.cons hp.1 (aE.cons hp.2.1 aE.nil))
def jt (k : Nat) : Sm := fun args σ => match args, σ with
 | [x], [] => some (isV x ∧ (kx x).nodes < k, ev (dH (kx x)), none)
 | _, _ => none
def kV (k : Nat) : Sm := fun args σ => match args, σ with
 | [x], [] => some (kJ x ∧ bd (iG x) < k, .list false 7 (aV (bM (iG x) [])), none)
 | _, _ => none
theorem uG {f : Nat} {k : Nat} (h : ∀ v, v.nodes < k → OK f [ev v] [] (ev (dH v)) none) : au f (jt k) := by
 intro args sg pre x r he hp
 unfold jt at he
 split at he <;> cases he
 exact (h _ hp.2).args (aE.cons hp.1 aE.nil)
theorem uE {f : Nat} {k : Nat} (h : ∀ l, bd l < k → OK f [.list false 7 (aV l)] [] (.list false 7 (aV (bM l []))) none) : au f (kV k) := by
 intro args sg pre x r he hp
 unfold kV at he
 split at he <;> cases he
 exact (h _ hp.2).args (aE.cons hp.1 aE.nil)
theorem D3 (l : List aK) : l.length ≤ dq l := by
 induction l with
 | nil => exact Nat.zero_le _
 | cons v r ih => rw [dq, List.length_cons]; have := D6 v; omega
theorem D4 (l : List aG) : l.length ≤ bd l := by
 induction l with
 | nil => exact Nat.zero_le _
 | cons v r ih => rw [bd, List.length_cons, D5]; have := D6 v.value; omega
theorem AN (v : aK) : dH v = .mk v.kind v.text v.num v.bits (v.list.map dH) (bM v.map []) := by cases v; simp [dH, FD, aK.kind, aK.text, aK.num, aK.bits, aK.list, aK.map]
theorem FE (l : List aG) (acc : List aG) : (bM l acc).length ≤ l.length + acc.length := by
 induction l generalizing acc with
 | nil => simp [bM]
 | cons a r ih =>
   rw [bM]
   have := ih (du acc (fv a))
   have := KT acc (fv a)
   simp only [List.length_cons]
   omega
theorem iA {α : Type} {l : List α} {i : Nat} {d : α} (h : i < l.length) : l.take (i + 1) = l.take i ++ [l.getD i d] := by
 rw [List.take_add_one, List.getD_eq_getElem?_getD, List.getElem?_eq_getElem h]; rfl
theorem K8 {k : Nat} (hk : k ≤ 100000) (h1 : au 68 (jt k)) (h2 : au 40 (kV k)) (v : aK) (hv : v.nodes < k + 1) : OK 68 [ev v] [] (ev (dH v)) none := by
 refine al (C := cx [(68, jt k), (40, kV k)]) (aq ⟨h1, h2, trivial⟩) (fn := Tryz.f68) rfl rfl rfl rfl fun hw _ => ?_
 have e1 := nY v.list
 have hn := rV v
 have hl := D3 v.list
 rw [AN]
 all_goals try conv => whnf
 all_goals try (refine ae.mk ?_; try dsimp only)
 refine aT.mk Nat (fun i => i ≤ v.list.length) (fun i => ⟨28, [(1, .ptr 0 0), (2, .ptr 1 0), (3, .buf 2), (4, .int .i64 i)], [.cells (cv v), .cells [.int .u8 0, .str [], .int .i64 0, .int .u64 0, .list true 0 [], .list true 0 []], .buf 6 0 (((v.list.take i).map dH).map ev)], [0, 1, 2, 3]⟩) (fun i => v.list.length - i) [.tm 3 6] 0 (Nat.zero_le _) ?_ (fun i hi _ _ => ?_)
 . refine Go.VG.Sub.mk rfl ?_ ?_ ?_ ?_ <;> (repeat' first | trivial)
 repeat' ((conv => whnf); first | apply aj | (apply aw <;> intro h) | with_reducible refine wv ?_ ?_)
 all_goals try conv => whnf
 all_goals try (refine ae.mk ?_; try dsimp only)
 all_goals (try simp only [fU, eM, nY] at *)
 all_goals first | refine stay ?_ | omega | (simp (discharger := omega) [-List.getD_eq_getElem?_getD, wR] <;> omega) | skip
 . have q4 := xj (l := v.list) (i := i) (by omega)
   exact ⟨lC _, by omega⟩
 . refine ⟨[], i + 1, by omega, ?_, by omega⟩
   rw [iA (d := default) (by omega), List.map_append, List.map_append]
   refine Go.VG.Sub.mk rfl ?_ ?_ ?_ ?_ <;> (repeat' first | trivial | apply ax | apply aH)
   all_goals first
    | rfl
    | (rw [bc]; omega)
 . exact ⟨eP _, by omega⟩
 . have hi2 : i = v.list.length := by omega
   subst hi2
   rw [List.take_length]
   refine af.mk [.bk 2] ?_ <;> (repeat' first | trivial | apply ax | apply cU | apply cZ | apply bE)
   exact (pg _).symm
def stX (l : List aG) : Nat → V
 | 0 => .list true 0 []
 | i + 1 => .list false 7 (aV (bM (l.take (i + 1)) []))
theorem zF (l : List aG) (i : Nat) : kJ (stX l i) ∧ iG (stX l i) = bM (l.take i) [] := by
 cases i with
 | zero => exact ⟨Wk.nil (.inl rfl), rfl⟩
 | succ i => exact ⟨eP _, eM _ _ _⟩
theorem K6 {k : Nat} (hk : k ≤ 100000) (h1 : au 68 (jt (k + 1))) (l : List aG) (hl : bd l < k + 1) : OK 40 [.list false 7 (aV l)] [] (.list false 7 (aV (bM l []))) none := by
 refine ey.res (x := stX l l.length) ?_ (by have := (zF l l.length).1; unfold kJ at this; rw [(zF l l.length).2, List.take_length] at this; exact this)
 refine al (C := cx [(68, jt (k + 1)), (67, y9)]) (aq ⟨h1, Le, trivial⟩) (fn := Tryz.f40) rfl rfl rfl rfl fun hw _ => ?_
 have e1 := jH l
 have hn := D4 l
 all_goals try conv => whnf
 all_goals try (refine ae.mk ?_; try dsimp only)
 refine aT.mk Nat (fun i => i ≤ l.length) (fun i => ⟨26, [(0, .list false 7 (aV l)), (3, stX l i), (4, .int .i64 i)], [], []⟩) (fun i => l.length - i) [] 0 (Nat.zero_le _) ?_ (fun i hi _ _ => ?_)
 . refine Go.VG.Sub.mk rfl ?_ ?_ ?_ ?_ <;> (repeat' first | trivial)
 have q4 : i < l.length → (l.getD i default).value.nodes ≤ bd l := fun h => xk h
 have hlen : (bM (l.take i) []).length ≤ 100000 := by
  have := FE (l.take i) []
  rw [List.length_take, List.length_nil] at this
  omega
 have hX := zF l i
 have hnx : i < l.length → bM (l.take (i + 1)) [] = du (bM (l.take i) []) (fv (l.getD i default)) := fun q => by rw [iA (d := default) q, AL, AM]
 have hea : ∀ a : aG, ea (fv a) = .agg [.str a.key, .int .u8 (dH a.value).kind, .str (dH a.value).text, .int .i64 (dH a.value).num, .int .u64 (dH a.value).bits, .list false 6 (dK (dH a.value).list), .list false 7 (aV (dH a.value).map)] := fun a => by cases a; rfl
 have hdA := B1 (fv (l.getD i default))
 rw [hea] at hdA
 have hiA := KW (fv (l.getD i default))
 rw [hea] at hiA
 cases i with
 | zero =>
   repeat' ((conv => whnf); first | apply aj | (apply aw <;> intro h) | with_reducible refine rv ?_ ?_)
   all_goals try conv => whnf
   all_goals try (refine ae.mk ?_; try dsimp only)
   all_goals (try simp only [fU, eM, jH, hdA] at *)
   all_goals first | refine stay ?_ | trivial | omega | skip
   . exact ⟨lC _, by have := q4 (by omega); omega⟩
   . exact ⟨hX.1, hiA, by first | exact hlen | exact Nat.zero_le _⟩
   . refine ⟨[], 1, by omega, ?_, by omega⟩
     refine Go.VG.Sub.mk rfl ?_ ?_ ?_ ?_ <;> (repeat' first | trivial | apply ax | apply cU)
     rw [hnx (by omega), hX.2.symm]
     rfl
   . rw [show l.length = 0 by omega]
     refine af.mk [] ?_ <;> (repeat' first | trivial)
 | succ i =>
   repeat' ((conv => whnf); first | apply aj | (apply aw <;> intro h) | with_reducible refine rv ?_ ?_)
   all_goals try conv => whnf
   all_goals try (refine ae.mk ?_; try dsimp only)
   all_goals (try simp only [fU, eM, jH, hdA] at *)
   all_goals first | refine stay ?_ | omega | skip
   . exact ⟨lC _, by have := q4 (by omega); omega⟩
   . exact ⟨hX.1, hiA, by first | exact hlen | exact Nat.zero_le _⟩
   . refine ⟨[], i + 1 + 1, by omega, ?_, by omega⟩
     refine Go.VG.Sub.mk rfl ?_ ?_ ?_ ?_ <;> (repeat' first | trivial | apply ax | apply aH | apply cU)
     . rw [hnx (by omega)]
     . rw [bc]; omega
   . rw [show l.length = i + 1 by omega]
     refine af.mk [] ?_ <;> (repeat' first | trivial)
theorem DH : ∀ k : Nat, k ≤ 100000 → au 68 (jt k) ∧ au 40 (kV k)
 | 0, _ => ⟨uG fun _ h => by omega, uE fun _ h => by omega⟩
 | k + 1, hk => by
   have ih := DH k (by omega)
   have h1 := uG (k := k + 1) fun v hv => K8 (k := k) (by omega) ih.1 ih.2 v hv
   exact ⟨h1, uE fun l hl => K6 (k := k) (by omega) h1 l hl⟩
-- #name rCanV truchmanref24.Canon
-- #name rCanM truchmanref24.CanonEntries
def zi : Sm := kV 100000
theorem CA : au 40 zi := (DH 100000 (Nat.le_refl _)).2
end Go.Proofs.YtdjolnjlhbfnmaaGreatDoor
