/-
  A part of the proof.
-/
import Derived.Test.YtipejldppicijaaGreatDoorVal
set_option linter.unusedSimpArgs false
set_option linter.unusedVariables false
set_option maxHeartbeats 4000000
namespace Go.Proofs.YtipejldppicijaaGreatDoor
open Go Go.VG
set_option maxRecDepth 100000
mutual
def same : aK → aK → Bool
 | .mk k t n b l m, w => decide (k = w.kind) && decide (t = w.text) && decide (n = w.num) && decide (b = w.bits) && eB l w.list && dm m w.map
def eB : List aK → List aK → Bool
 | [], [] => true
 | v :: r, w :: s => same v w && eB r s
 | _, _ => false
def mz : bc → bc → Bool
 | .mk k v, b => decide (k = b.key) && same v b.value
def dm : List bc → List bc → Bool
 | [], [] => true
 | v :: r, w :: s => mz v w && dm r s
 | _, _ => false
end
mutual
theorem tk : ∀ v w : aK, same v w = true ↔ v = w
 | .mk k t n b l m, .mk k' t' n' b' l' m' => by
   simp only [same]
   simp only [aK.kind, aK.text, aK.num, aK.bits, aK.list, aK.map]
   simp only [Bool.and_eq_true, decide_eq_true_eq, tf l l', qf m m', aK.mk.injEq]
   constructor
   . rintro ⟨⟨⟨⟨⟨a, b⟩, c⟩, d⟩, e⟩, f⟩; exact ⟨of_decide_eq_true a, of_decide_eq_true b, of_decide_eq_true c, of_decide_eq_true d, e, f⟩
   . rintro ⟨a, b, c, d, e, f⟩; exact ⟨⟨⟨⟨⟨decide_eq_true a, decide_eq_true b⟩, decide_eq_true c⟩, decide_eq_true d⟩, e⟩, f⟩
theorem tf : ∀ v w : List aK, eB v w = true ↔ v = w
 | [], [] => by simp [eB]
 | v :: r, w :: s => by simp only [eB, Bool.and_eq_true, tk v w, tf r s, List.cons.injEq]
 | [], _ :: _ => by simp [eB]
 | _ :: _, [] => by simp [eB]
theorem H6 : ∀ v w : bc, mz v w = true ↔ v = w
 | .mk k v, .mk k' v' => by
   simp only [mz]
   simp only [bc.key, bc.value]
   simp only [Bool.and_eq_true, tk v v', bc.mk.injEq]
   exact ⟨fun ⟨a, b⟩ => ⟨of_decide_eq_true a, b⟩, fun ⟨a, b⟩ => ⟨decide_eq_true a, b⟩⟩
theorem qf : ∀ v w : List bc, dm v w = true ↔ v = w
 | [], [] => by simp [dm]
 | v :: r, w :: s => by simp only [dm, Bool.and_eq_true, H6 v w, qf r s, List.cons.injEq]
 | [], _ :: _ => by simp [dm]
 | _ :: _, [] => by simp [dm]
end
theorem yN {l m : List aK} {i : Nat} (hi : i < l.length) (hm : l.length = m.length) : eB (l.drop i) (m.drop i) = (same (l.getD i default) (m.getD i default) && eB (l.drop (i + 1)) (m.drop (i + 1))) := by
 rw [List.drop_eq_getElem_cons hi, List.drop_eq_getElem_cons (by omega : i < m.length), eB, List.getD_eq_getElem?_getD, List.getD_eq_getElem?_getD, List.getElem?_eq_getElem hi, List.getElem?_eq_getElem (by omega : i < m.length)]; rfl
theorem tg {l m : List bc} {i : Nat} (hi : i < l.length) (hm : l.length = m.length) : dm (l.drop i) (m.drop i) = (mz (l.getD i default) (m.getD i default) && dm (l.drop (i + 1)) (m.drop (i + 1))) := by
 rw [List.drop_eq_getElem_cons hi, List.drop_eq_getElem_cons (by omega : i < m.length), dm, List.getD_eq_getElem?_getD, List.getD_eq_getElem?_getD, List.getElem?_eq_getElem hi, List.getElem?_eq_getElem (by omega : i < m.length)]; rfl
theorem te (a b : bc) : mz a b = (decide (a.key = b.key) && same a.value b.value) := by cases a; simp only [mz]; rfl
theorem H8 {l m : List aK} (h : l.length ≠ m.length) : eB l m = false := by
 cases hs : eB l m with
 | false => rfl
 | true => rw [tf] at hs; subst hs; exact absurd rfl h
theorem H9 {l m : List bc} (h : l.length ≠ m.length) : dm l m = false := by
 cases hs : dm l m with
 | false => rfl
 | true => rw [qf] at hs; subst hs; exact absurd rfl h
theorem Ha (v w : aK) : same v w = (decide (v.kind = w.kind) && decide (v.text = w.text) && decide (v.num = w.num) && decide (v.bits = w.bits) && eB v.list w.list && dm v.map w.map) := by
 cases v; simp only [same]; rfl
def l9 (k : Nat) : Sm := fun args σ => match args, σ with
 | [x, y], [] => some (jO x ∧ jO y ∧ (fv x).nodes < k, .bool (same (fv x) (fv y)), none)
 | _, _ => none
def oh (k : Nat) : Sm := fun args σ => match args, σ with
 | [x, y], [] => some (jN x ∧ jN y ∧ gO (gY x) < k, .bool (dm (gY x) (gY y)), none)
 | _, _ => none
theorem zc {k : Nat} (h : ∀ v w, v.nodes < k → OK 9 [ev v, ev w] [] (.bool (same v w)) none) : a9 9 (l9 k) := by
 intro args sg pre x r he hp
 unfold l9 at he
 split at he <;> cases he
 exact (h _ _ hp.2.2).args (aN.cons hp.1 (aN.cons hp.2.1 aN.nil))
theorem zb {k : Nat} (h : ∀ v w, gO v < k → OK 16 [.list false 7 (dg v), .list false 7 (dg w)] [] (.bool (dm v w)) none) : a9 16 (oh k) := by
 intro args sg pre x r he hp
 unfold oh at he
 split at he <;> cases he
 exact (h _ _ hp.2.2).args (aN.cons hp.1 (aN.cons hp.2.1 aN.nil))
theorem Bv {k : Nat} (h1 : a9 9 (l9 k)) (h2 : a9 16 (oh k)) (v w : aK) (hk : v.nodes < k + 1) : OK 9 [ev v, ev w] [] (.bool (same v w)) none := by
 refine ah (C := cx [(9, l9 k), (16, oh k)]) (ai ⟨h1, h2, trivial⟩) (fn := Tryz.f9) rfl rfl rfl rfl fun hw _ => ?_
 have hb := zX hw.1
 have hb2 := zX hw.2.1
 have e1 := rP v.list
 have e2 := rP w.list
 have hs := Ha v w
 repeat' ((conv => whnf); first | apply ax | ((first | apply ae | apply kM) <;> intro h))
 all_goals try conv => whnf
 all_goals try (refine a7.mk ?_; try dsimp only)
 all_goals try refine stay ?_
 . have hl : v.list.length = w.list.length := by omega
   have hs' : same v w = (eB v.list w.list && dm v.map w.map) := by rw [hs]; simp_all
   refine c5.mk Nat (fun i => i ≤ v.list.length ∧ same v w = (eB (v.list.drop i) (w.list.drop i) && dm v.map w.map)) (fun i => ⟨65, [(2, .ptr 0 0), (3, .ptr 1 0), (5, .int .i64 i)], [.cells (cv v), .cells (cv w)], []⟩) (fun i => v.list.length - i) [] 0 ⟨Nat.zero_le _, hs'⟩ ?_ (fun i ⟨hi, he⟩ _ _ => ?_)
   . refine Go.VG.Sub.mk rfl ?_ ?_ ?_ ?_ <;> (repeat' first | trivial)
   clear hs hs'
   repeat' ((conv => whnf); first | apply ab | apply ax | ((first | apply ae | apply aV) <;> intro h) | with_reducible refine Ee ?_ ?_)
   all_goals try conv => whnf
   all_goals try (refine a7.mk ?_; try dsimp only)
   all_goals first | refine stay ?_ | omega | skip
   . refine ⟨pF _, pF _, ?_⟩
     have q3 := y8 v
     have q4 := FY (l := v.list) (i := i) (by omega)
     rw [gG]; omega
   . rw [gG, gG] at h
     rw [yN (by omega) hl, h, Bool.true_and] at he
     refine ⟨[], i + 1, ⟨by omega, he⟩, ?_, by omega⟩
     refine Go.VG.Sub.mk rfl ?_ ?_ ?_ ?_ <;> (repeat' first | trivial | apply ak | apply az)
     (simp (discharger := omega) only [wR]; omega)
   . rw [gG, gG] at h
     rw [yN (by omega) hl, h] at he
     refine a6.mk [] ?_ <;> (repeat' first | trivial | apply ak | apply cQ)
     rw [he]; rfl
   . refine ⟨wS _, wS _, ?_⟩
     have q3 := y8 v
     rw [p0]; omega
   . refine a6.mk [] ?_ <;> (repeat' first | trivial | apply ak | apply cQ)
     rw [p0, p0, he, List.drop_of_length_le (by omega), List.drop_of_length_le (by omega)]
     simp [eB]
 . rw [hs, H8 (by omega)]
   refine a6.mk [] ?_ <;> (repeat' first | trivial | apply ak | apply cQ)
   simp
 all_goals
  rw [hs]
  refine a6.mk [] ?_ <;> (repeat' first | trivial | apply ak | apply cQ)
  simp_all
  done
theorem Bw {k : Nat} (h1 : a9 9 (l9 (k + 1))) (v w : List bc) (hk : gO v < k + 1) : OK 16 [.list false 7 (dg v), .list false 7 (dg w)] [] (.bool (dm v w)) none := by
 refine ah (C := cx [(9, l9 (k + 1))]) (ai ⟨h1, trivial⟩) (fn := Tryz.f16) rfl rfl rfl rfl fun hw _ => ?_
 have e1 := pf v
 have e2 := pf w
 have hb : v.length ≤ 9223372036854775807 := by have := hw.1.1; rw [pf] at this; exact this
 repeat' ((conv => whnf); first | apply ax | (apply ae <;> intro h))
 all_goals try conv => whnf
 all_goals try (refine a7.mk ?_; try dsimp only)
 all_goals try refine stay ?_
 . have hl : v.length = w.length := by omega
   refine c5.mk Nat (fun i => i ≤ v.length ∧ dm v w = dm (v.drop i) (w.drop i)) (fun i => ⟨42, [(0, .list false 7 (dg v)), (1, .list false 7 (dg w)), (5, .int .i64 i)], [], []⟩) (fun i => v.length - i) [] 0 ⟨Nat.zero_le _, rfl⟩ ?_ (fun i ⟨hi, he⟩ _ _ => ?_)
   . refine Go.VG.Sub.mk rfl ?_ ?_ ?_ ?_ <;> (repeat' first | trivial)
   have q4 : i < v.length → (v.getD i default).value.nodes ≤ gO v := fun h => FZ h
   repeat' ((conv => whnf); first | apply ab | apply ax | ((first | apply ae | apply kM | apply aV) <;> intro h) | with_reducible refine Eg ?_ ?_)
   all_goals try conv => whnf
   all_goals try (refine a7.mk ?_; try dsimp only)
   all_goals first | refine stay ?_ | omega | skip
   . refine ⟨pF _, pF _, ?_⟩
     have := q4 (by omega)
     rw [gG]; omega
   . rw [gG, gG] at h
     rw [tg (by omega) hl, te, h, decide_eq_true (by assumption), Bool.true_and, Bool.true_and] at he
     refine ⟨[], i + 1, ⟨by omega, he⟩, ?_, by omega⟩
     refine Go.VG.Sub.mk rfl ?_ ?_ ?_ ?_ <;> (repeat' first | trivial | apply ak | apply az)
     (simp (discharger := omega) only [wR]; omega)
   . rw [gG, gG] at h
     rw [tg (by omega) hl, te, h, Bool.and_false, Bool.false_and] at he
     rw [he]
     refine a6.mk [] ?_ <;> (repeat' first | trivial)
   . rw [tg (by omega) hl, te, decide_eq_false (by assumption), Bool.false_and, Bool.false_and] at he
     rw [he]
     refine a6.mk [] ?_ <;> (repeat' first | trivial)
   . rw [List.drop_of_length_le (by omega), List.drop_of_length_le (by omega)] at he
     rw [he]
     simp only [dm]
     refine a6.mk [] ?_ <;> (repeat' first | trivial)
 . rw [H9 (by omega)]
   refine a6.mk [] ?_ <;> (repeat' first | trivial)
theorem tj : ∀ k : Nat, a9 9 (l9 k) ∧ a9 16 (oh k)
 | 0 => ⟨zc fun _ _ h => by omega, zb fun _ _ h => by omega⟩
 | k + 1 => by
   have ih := tj k
   have h1 := zc (k := k + 1) fun v w hk => Bv ih.1 ih.2 v w hk
   exact ⟨h1, zb fun v w hk => Bw h1 v w hk⟩
def tw : Sm := fun args σ => match args, σ with
 | [x, y], [] => some (jO x ∧ jO y, .bool (same (fv x) (fv y)), none)
 | _, _ => none
theorem El : a9 9 tw := by
 intro args sg pre x r he hp
 unfold tw at he
 split at he <;> cases he
 rename_i y z
 exact (tj ((fv y).nodes + 1)).1 [y, z] [] _ _ _ rfl ⟨hp.1, hp.2, Nat.lt_succ_self _⟩
def tB : Sm := fun args σ => match args, σ with
 | [x, y], [] => some (jN x ∧ jN y, .bool (dm (gY x) (gY y)), none)
 | _, _ => none
theorem Em : a9 16 tB := by
 intro args sg pre x r he hp
 unfold tB at he
 split at he <;> cases he
 rename_i y z
 exact (tj (gO (gY y) + 1)).2 [y, z] [] _ _ _ rfl ⟨hp.1, hp.2, Nat.lt_succ_self _⟩
end Go.Proofs.YtipejldppicijaaGreatDoor
