/-
  A part of the proof.
-/
import Derived.Test.YtipejldppicijaaGreatDoorVal
set_option linter.unusedSimpArgs false
set_option linter.unusedVariables false
set_option maxHeartbeats 4000000
namespace Go.Proofs.YtipejldppicijaaGreatDoor
open Go Go.VG
set_option maxRecDepth 100000
mutual
def same : ae → ae → Bool
 | .mk k t n b l m, w => decide (k = w.kind) && decide (t = w.text) && decide (n = w.num) && decide (b = w.bits) && fy l w.list && cU m w.map
def fy : List ae → List ae → Bool
 | [], [] => true
 | v :: r, w :: s => same v w && fy r s
 | _, _ => false
def ou : ak → ak → Bool
 | .mk k v, b => decide (k = b.key) && same v b.value
def cU : List ak → List ak → Bool
 | [], [] => true
 | v :: r, w :: s => ou v w && cU r s
 | _, _ => false
end
mutual
theorem Cl : ∀ v w : ae, same v w = true ↔ v = w
 | .mk k t n b l m, .mk k' t' n' b' l' m' => by
   simp only [same]
   simp only [ae.kind, ae.text, ae.num, ae.bits, ae.list, ae.map]
   simp only [Bool.and_eq_true, decide_eq_true_eq, wk l l', sJ m m', ae.mk.injEq]
   constructor
   . rintro ⟨⟨⟨⟨⟨a, b⟩, c⟩, d⟩, e⟩, f⟩; exact ⟨of_decide_eq_true a, of_decide_eq_true b, of_decide_eq_true c, of_decide_eq_true d, e, f⟩
   . rintro ⟨a, b, c, d, e, f⟩; exact ⟨⟨⟨⟨⟨decide_eq_true a, decide_eq_true b⟩, decide_eq_true c⟩, decide_eq_true d⟩, e⟩, f⟩
theorem wk : ∀ v w : List ae, fy v w = true ↔ v = w
 | [], [] => by simp [fy]
 | v :: r, w :: s => by simp only [fy, Bool.and_eq_true, Cl v w, wk r s, List.cons.injEq]
 | [], _ :: _ => by simp [fy]
 | _ :: _, [] => by simp [fy]
theorem M7 : ∀ v w : ak, ou v w = true ↔ v = w
 | .mk k v, .mk k' v' => by
   simp only [ou]
   simp only [ak.key, ak.value]
   simp only [Bool.and_eq_true, Cl v v', ak.mk.injEq]
   exact ⟨fun ⟨a, b⟩ => ⟨of_decide_eq_true a, b⟩, fun ⟨a, b⟩ => ⟨decide_eq_true a, b⟩⟩
theorem sJ : ∀ v w : List ak, cU v w = true ↔ v = w
 | [], [] => by simp [cU]
 | v :: r, w :: s => by simp only [cU, Bool.and_eq_true, M7 v w, sJ r s, List.cons.injEq]
 | [], _ :: _ => by simp [cU]
 | _ :: _, [] => by simp [cU]
end
theorem Cj {l m : List ae} {i : Nat} (hi : i < l.length) (hm : l.length = m.length) : fy (l.drop i) (m.drop i) = (same (l.getD i default) (m.getD i default) && fy (l.drop (i + 1)) (m.drop (i + 1))) := by
 rw [List.drop_eq_getElem_cons hi, List.drop_eq_getElem_cons (by omega : i < m.length), fy, List.getD_eq_getElem?_getD, List.getD_eq_getElem?_getD, List.getElem?_eq_getElem hi, List.getElem?_eq_getElem (by omega : i < m.length)]; rfl
theorem wm {l m : List ak} {i : Nat} (hi : i < l.length) (hm : l.length = m.length) : cU (l.drop i) (m.drop i) = (ou (l.getD i default) (m.getD i default) && cU (l.drop (i + 1)) (m.drop (i + 1))) := by
 rw [List.drop_eq_getElem_cons hi, List.drop_eq_getElem_cons (by omega : i < m.length), cU, List.getD_eq_getElem?_getD, List.getD_eq_getElem?_getD, List.getElem?_eq_getElem hi, List.getElem?_eq_getElem (by omega : i < m.length)]; rfl
theorem wj (a b : ak) : ou a b = (decide (a.key = b.key) && same a.value b.value) := by cases a; simp only [ou]; rfl
theorem M9 {l m : List ae} (h : l.length ≠ m.length) : fy l m = false := by
 cases hs : fy l m with
 | false => rfl
 | true => rw [wk] at hs; subst hs; exact absurd rfl h
theorem Ma {l m : List ak} (h : l.length ≠ m.length) : cU l m = false := by
 cases hs : cU l m with
 | false => rfl
 | true => rw [sJ] at hs; subst hs; exact absurd rfl h
theorem Mb (v w : ae) : same v w = (decide (v.kind = w.kind) && decide (v.text = w.text) && decide (v.num = w.num) && decide (v.bits = w.bits) && fy v.list w.list && cU v.map w.map) := by
 cases v; simp only [same]; rfl
def mN (k : Nat) : Sm := fun args σ => match args, σ with
 | [x, y], [] => some (dV x ∧ dV y ∧ (aY x).nodes < k, .bool (same (aY x) (aY y)), none)
 | _, _ => none
def qL (k : Nat) : Sm := fun args σ => match args, σ with
 | [x, y], [] => some (dK x ∧ dK y ∧ dY (bF x) < k, .bool (cU (bF x) (bF y)), none)
 | _, _ => none
theorem CQ {k : Nat} (h : ∀ v w, v.nodes < k → OK 9 [ev v, ev w] [] (.bool (same v w)) none) : aa 9 (mN k) := by
 intro args sg pre x r he hp
 unfold mN at he
 split at he <;> cases he
 exact (h _ _ hp.2.2).args (aq.cons hp.1 (aq.cons hp.2.1 aq.nil))
theorem CP {k : Nat} (h : ∀ v w, dY v < k → OK 16 [.list false 7 (bB v), .list false 7 (bB w)] [] (.bool (cU v w)) none) : aa 16 (qL k) := by
 intro args sg pre x r he hp
 unfold qL at he
 split at he <;> cases he
 exact (h _ _ hp.2.2).args (aq.cons hp.1 (aq.cons hp.2.1 aq.nil))
theorem FB {k : Nat} (h1 : aa 9 (mN k)) (h2 : aa 16 (qL k)) (v w : ae) (hk : v.nodes < k + 1) : OK 9 [ev v, ev w] [] (.bool (same v w)) none := by
 refine af (C := cx [(9, mN k), (16, qL k)]) (ah ⟨h1, h2, trivial⟩) (fn := Tryz.f9) rfl rfl rfl rfl fun hw _ => ?_
 have hb := lP hw.1
 have hb2 := lP hw.2.1
 have e1 := kx v.list
 have e2 := kx w.list
 have hs := Mb v w
 repeat' ((conv => whnf); first | apply aJ | ((first | apply al | apply gk) <;> intro h))
 all_goals try conv => whnf
 all_goals try (refine a8.mk ?_; try dsimp only)
 all_goals try refine stay ?_
 . have hl : v.list.length = w.list.length := by omega
   have hs' : same v w = (fy v.list w.list && cU v.map w.map) := by rw [hs]; simp_all
   refine bd.mk Nat (fun i => i ≤ v.list.length ∧ same v w = (fy (v.list.drop i) (w.list.drop i) && cU v.map w.map)) (fun i => ⟨65, [(2, .ptr 0 0), (3, .ptr 1 0), (5, .int .i64 i)], [.cells (cv v), .cells (cv w)], []⟩) (fun i => v.list.length - i) [] 0 ⟨Nat.zero_le _, hs'⟩ ?_ (fun i ⟨hi, he⟩ _ _ => ?_)
   . refine Go.VG.Sub.mk rfl ?_ ?_ ?_ ?_ <;> (repeat' first | trivial)
   clear hs hs'
   repeat' ((conv => whnf); first | apply a9 | apply aJ | ((first | apply al | apply bu) <;> intro h) | with_reducible refine pG ?_ ?_)
   all_goals try conv => whnf
   all_goals try (refine a8.mk ?_; try dsimp only)
   all_goals first | refine stay ?_ | omega | skip
   . refine ⟨ba _, ba _, ?_⟩
     have q3 := iP v
     have q4 := qh (l := v.list) (i := i) (by omega)
     rw [az]; omega
   . rw [az, az] at h
     rw [Cj (by omega) hl, h, Bool.true_and] at he
     refine ⟨[], i + 1, ⟨by omega, he⟩, ?_, by omega⟩
     refine Go.VG.Sub.mk rfl ?_ ?_ ?_ ?_ <;> (repeat' first | trivial | apply ab | apply au)
     (simp (discharger := omega) only [wR]; omega)
   . rw [az, az] at h
     rw [Cj (by omega) hl, h] at he
     refine a7.mk [] ?_ <;> (repeat' first | trivial | apply ab | apply bX)
     rw [he]; rfl
   . refine ⟨i7 _, i7 _, ?_⟩
     have q3 := iP v
     rw [gW]; omega
   . refine a7.mk [] ?_ <;> (repeat' first | trivial | apply ab | apply bX)
     rw [gW, gW, he, List.drop_of_length_le (by omega), List.drop_of_length_le (by omega)]
     simp [fy]
 . rw [hs, M9 (by omega)]
   refine a7.mk [] ?_ <;> (repeat' first | trivial | apply ab | apply bX)
   simp
 all_goals
  rw [hs]
  refine a7.mk [] ?_ <;> (repeat' first | trivial | apply ab | apply bX)
  simp_all
  done
theorem FC {k : Nat} (h1 : aa 9 (mN (k + 1))) (v w : List ak) (hk : dY v < k + 1) : OK 16 [.list false 7 (bB v), .list false 7 (bB w)] [] (.bool (cU v w)) none := by
 refine af (C := cx [(9, mN (k + 1))]) (ah ⟨h1, trivial⟩) (fn := Tryz.f16) rfl rfl rfl rfl fun hw _ => ?_
 have e1 := iG v
 have e2 := iG w
 have hb : v.length ≤ 9223372036854775807 := by have := hw.1.1; rw [iG] at this; exact this
 repeat' ((conv => whnf); first | apply aJ | (apply al <;> intro h))
 all_goals try conv => whnf
 all_goals try (refine a8.mk ?_; try dsimp only)
 all_goals try refine stay ?_
 . have hl : v.length = w.length := by omega
   refine bd.mk Nat (fun i => i ≤ v.length ∧ cU v w = cU (v.drop i) (w.drop i)) (fun i => ⟨42, [(0, .list false 7 (bB v)), (1, .list false 7 (bB w)), (5, .int .i64 i)], [], []⟩) (fun i => v.length - i) [] 0 ⟨Nat.zero_le _, rfl⟩ ?_ (fun i ⟨hi, he⟩ _ _ => ?_)
   . refine Go.VG.Sub.mk rfl ?_ ?_ ?_ ?_ <;> (repeat' first | trivial)
   have q4 : i < v.length → (v.getD i default).value.nodes ≤ dY v := fun h => qi h
   repeat' ((conv => whnf); first | apply a9 | apply aJ | ((first | apply al | apply gk | apply bu) <;> intro h) | with_reducible refine nR ?_ ?_)
   all_goals try conv => whnf
   all_goals try (refine a8.mk ?_; try dsimp only)
   all_goals first | refine stay ?_ | omega | skip
   . refine ⟨ba _, ba _, ?_⟩
     have := q4 (by omega)
     rw [az]; omega
   . rw [az, az] at h
     rw [wm (by omega) hl, wj, h, decide_eq_true (by assumption), Bool.true_and, Bool.true_and] at he
     refine ⟨[], i + 1, ⟨by omega, he⟩, ?_, by omega⟩
     refine Go.VG.Sub.mk rfl ?_ ?_ ?_ ?_ <;> (repeat' first | trivial | apply ab | apply au)
     (simp (discharger := omega) only [wR]; omega)
   . rw [az, az] at h
     rw [wm (by omega) hl, wj, h, Bool.and_false, Bool.false_and] at he
     rw [he]
     refine a7.mk [] ?_ <;> (repeat' first | trivial)
   . rw [wm (by omega) hl, wj, decide_eq_false (by assumption), Bool.false_and, Bool.false_and] at he
     rw [he]
     refine a7.mk [] ?_ <;> (repeat' first | trivial)
   . rw [List.drop_of_length_le (by omega), List.drop_of_length_le (by omega)] at he
     rw [he]
     simp only [cU]
     refine a7.mk [] ?_ <;> (repeat' first | trivial)
 . rw [Ma (by omega)]
   refine a7.mk [] ?_ <;> (repeat' first | trivial)
theorem Ck : ∀ k : Nat, aa 9 (mN k) ∧ aa 16 (qL k)
 | 0 => ⟨CQ fun _ _ h => by omega, CP fun _ _ h => by omega⟩
 | k + 1 => by
   have ih := Ck k
   have h1 := CQ (k := k + 1) fun v w hk => FB ih.1 ih.2 v w hk
   exact ⟨h1, CP fun v w hk => FC h1 v w hk⟩
def sQ : Sm := fun args σ => match args, σ with
 | [x, y], [] => some (dK x ∧ dK y, .bool (cU (bF x) (bF y)), none)
 | _, _ => none
theorem Aj : aa 16 sQ := by
 intro args sg pre x r he hp
 unfold sQ at he
 split at he <;> cases he
 rename_i y z
 exact (Ck (dY (bF y) + 1)).2 [y, z] [] _ _ _ rfl ⟨hp.1, hp.2, Nat.lt_succ_self _⟩
end Go.Proofs.YtipejldppicijaaGreatDoor
