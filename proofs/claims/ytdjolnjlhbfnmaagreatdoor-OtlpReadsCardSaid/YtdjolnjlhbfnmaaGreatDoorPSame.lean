/-
  A part of the proof.
-/
import Derived.Test.YtdjolnjlhbfnmaaGreatDoorVal
set_option linter.unusedSimpArgs false
set_option linter.unusedVariables false
set_option maxHeartbeats 4000000
namespace Go.Proofs.YtdjolnjlhbfnmaaGreatDoor
open Go Go.VG
set_option maxRecDepth 100000
mutual
def same : aK → aK → Bool
 | .mk k t n b l m, w => decide (k = w.kind) && decide (t = w.text) && decide (n = w.num) && decide (b = w.bits) && gF l w.list && dm m w.map
def gF : List aK → List aK → Bool
 | [], [] => true
 | v :: r, w :: s => same v w && gF r s
 | _, _ => false
def qt : aG → aG → Bool
 | .mk k v, b => decide (k = b.key) && same v b.value
def dm : List aG → List aG → Bool
 | [], [] => true
 | v :: r, w :: s => qt v w && dm r s
 | _, _ => false
end
mutual
theorem E5 : ∀ v w : aK, same v w = true ↔ v = w
 | .mk k t n b l m, .mk k' t' n' b' l' m' => by
   simp only [same]
   simp only [aK.kind, aK.text, aK.num, aK.bits, aK.list, aK.map]
   simp only [Bool.and_eq_true, decide_eq_true_eq, xP l l', jr m m', aK.mk.injEq]
   constructor
   . rintro ⟨⟨⟨⟨⟨a, b⟩, c⟩, d⟩, e⟩, f⟩; exact ⟨of_decide_eq_true a, of_decide_eq_true b, of_decide_eq_true c, of_decide_eq_true d, e, f⟩
   . rintro ⟨a, b, c, d, e, f⟩; exact ⟨⟨⟨⟨⟨decide_eq_true a, decide_eq_true b⟩, decide_eq_true c⟩, decide_eq_true d⟩, e⟩, f⟩
theorem xP : ∀ v w : List aK, gF v w = true ↔ v = w
 | [], [] => by simp [gF]
 | v :: r, w :: s => by simp only [gF, Bool.and_eq_true, E5 v w, xP r s, List.cons.injEq]
 | [], _ :: _ => by simp [gF]
 | _ :: _, [] => by simp [gF]
theorem Ow : ∀ v w : aG, qt v w = true ↔ v = w
 | .mk k v, .mk k' v' => by
   simp only [qt]
   simp only [aG.key, aG.value]
   simp only [Bool.and_eq_true, E5 v v', aG.mk.injEq]
   exact ⟨fun ⟨a, b⟩ => ⟨of_decide_eq_true a, b⟩, fun ⟨a, b⟩ => ⟨decide_eq_true a, b⟩⟩
theorem jr : ∀ v w : List aG, dm v w = true ↔ v = w
 | [], [] => by simp [dm]
 | v :: r, w :: s => by simp only [dm, Bool.and_eq_true, Ow v w, jr r s, List.cons.injEq]
 | [], _ :: _ => by simp [dm]
 | _ :: _, [] => by simp [dm]
end
theorem E3 {l m : List aK} {i : Nat} (hi : i < l.length) (hm : l.length = m.length) : gF (l.drop i) (m.drop i) = (same (l.getD i default) (m.getD i default) && gF (l.drop (i + 1)) (m.drop (i + 1))) := by
 rw [List.drop_eq_getElem_cons hi, List.drop_eq_getElem_cons (by omega : i < m.length), gF, List.getD_eq_getElem?_getD, List.getD_eq_getElem?_getD, List.getElem?_eq_getElem hi, List.getElem?_eq_getElem (by omega : i < m.length)]; rfl
theorem xQ {l m : List aG} {i : Nat} (hi : i < l.length) (hm : l.length = m.length) : dm (l.drop i) (m.drop i) = (qt (l.getD i default) (m.getD i default) && dm (l.drop (i + 1)) (m.drop (i + 1))) := by
 rw [List.drop_eq_getElem_cons hi, List.drop_eq_getElem_cons (by omega : i < m.length), dm, List.getD_eq_getElem?_getD, List.getD_eq_getElem?_getD, List.getElem?_eq_getElem hi, List.getElem?_eq_getElem (by omega : i < m.length)]; rfl
theorem xO (a b : aG) : qt a b = (decide (a.key = b.key) && same a.value b.value) := by cases a; simp only [qt]; rfl
theorem Ox {l m : List aK} (h : l.length ≠ m.length) : gF l m = false := by
 cases hs : gF l m with
 | false => rfl
 | true => rw [xP] at hs; subst hs; exact absurd rfl h
theorem Oy {l m : List aG} (h : l.length ≠ m.length) : dm l m = false := by
 cases hs : dm l m with
 | false => rfl
 | true => rw [jr] at hs; subst hs; exact absurd rfl h
theorem Oz (v w : aK) : same v w = (decide (v.kind = w.kind) && decide (v.text = w.text) && decide (v.num = w.num) && decide (v.bits = w.bits) && gF v.list w.list && dm v.map w.map) := by
 cases v; simp only [same]; rfl
def oI (k : Nat) : Sm := fun args σ => match args, σ with
 | [x, y], [] => some (isV x ∧ isV y ∧ (kx x).nodes < k, .bool (same (kx x) (kx y)), none)
 | _, _ => none
def sv (k : Nat) : Sm := fun args σ => match args, σ with
 | [x, y], [] => some (kJ x ∧ kJ y ∧ bd (iG x) < k, .bool (dm (iG x) (iG y)), none)
 | _, _ => none
theorem Et {k : Nat} (h : ∀ v w, v.nodes < k → OK 42 [ev v, ev w] [] (.bool (same v w)) none) : au 42 (oI k) := by
 intro args sg pre x r he hp
 unfold oI at he
 split at he <;> cases he
 exact (h _ _ hp.2.2).args (aE.cons hp.1 (aE.cons hp.2.1 aE.nil))
theorem Es {k : Nat} (h : ∀ v w, bd v < k → OK 18 [.list false 7 (aV v), .list false 7 (aV w)] [] (.bool (dm v w)) none) : au 18 (sv k) := by
 intro args sg pre x r he hp
 unfold sv at he
 split at he <;> cases he
 exact (h _ _ hp.2.2).args (aE.cons hp.1 (aE.cons hp.2.1 aE.nil))
theorem GY {k : Nat} (h1 : au 42 (oI k)) (h2 : au 18 (sv k)) (v w : aK) (hk : v.nodes < k + 1) : OK 42 [ev v, ev w] [] (.bool (same v w)) none := by
 refine al (C := cx [(42, oI k), (18, sv k)]) (aq ⟨h1, h2, trivial⟩) (fn := Tryz.f42) rfl rfl rfl rfl fun hw _ => ?_
 have hb := Fc hw.1
 have hb2 := Fc hw.2.1
 have e1 := nY v.list
 have e2 := nY w.list
 have hs := Oz v w
 repeat' ((conv => whnf); first | apply aO | ((first | apply aw | apply fw) <;> intro h))
 all_goals try conv => whnf
 all_goals try (refine ae.mk ?_; try dsimp only)
 all_goals try refine stay ?_
 . have hl : v.list.length = w.list.length := by omega
   have hs' : same v w = (gF v.list w.list && dm v.map w.map) := by rw [hs]; simp_all
   refine aT.mk Nat (fun i => i ≤ v.list.length ∧ same v w = (gF (v.list.drop i) (w.list.drop i) && dm v.map w.map)) (fun i => ⟨65, [(2, .ptr 0 0), (3, .ptr 1 0), (5, .int .i64 i)], [.cells (cv v), .cells (cv w)], []⟩) (fun i => v.list.length - i) [] 0 ⟨Nat.zero_le _, hs'⟩ ?_ (fun i ⟨hi, he⟩ _ _ => ?_)
   . refine Go.VG.Sub.mk rfl ?_ ?_ ?_ ?_ <;> (repeat' first | trivial)
   clear hs hs'
   repeat' ((conv => whnf); first | apply aj | apply aO | ((first | apply aw | apply eG) <;> intro h) | with_reducible refine wv ?_ ?_)
   all_goals try conv => whnf
   all_goals try (refine ae.mk ?_; try dsimp only)
   all_goals first | refine stay ?_ | omega | skip
   . refine ⟨lC _, lC _, ?_⟩
     have q3 := rV v
     have q4 := xj (l := v.list) (i := i) (by omega)
     rw [fU]; omega
   . rw [fU, fU] at h
     rw [E3 (by omega) hl, h, Bool.true_and] at he
     refine ⟨[], i + 1, ⟨by omega, he⟩, ?_, by omega⟩
     refine Go.VG.Sub.mk rfl ?_ ?_ ?_ ?_ <;> (repeat' first | trivial | apply ax | apply aH)
     (simp (discharger := omega) only [wR]; omega)
   . rw [fU, fU] at h
     rw [E3 (by omega) hl, h] at he
     refine af.mk [] ?_ <;> (repeat' first | trivial | apply ax | apply cR)
     rw [he]; rfl
   . refine ⟨eP _, eP _, ?_⟩
     have q3 := rV v
     rw [eM]; omega
   . refine af.mk [] ?_ <;> (repeat' first | trivial | apply ax | apply cR)
     rw [eM, eM, he, List.drop_of_length_le (by omega), List.drop_of_length_le (by omega)]
     simp [gF]
 . rw [hs, Ox (by omega)]
   refine af.mk [] ?_ <;> (repeat' first | trivial | apply ax | apply cR)
   simp
 all_goals
  rw [hs]
  refine af.mk [] ?_ <;> (repeat' first | trivial | apply ax | apply cR)
  simp_all
  done
theorem GZ {k : Nat} (h1 : au 42 (oI (k + 1))) (v w : List aG) (hk : bd v < k + 1) : OK 18 [.list false 7 (aV v), .list false 7 (aV w)] [] (.bool (dm v w)) none := by
 refine al (C := cx [(42, oI (k + 1))]) (aq ⟨h1, trivial⟩) (fn := Tryz.f18) rfl rfl rfl rfl fun hw _ => ?_
 have e1 := jH v
 have e2 := jH w
 have hb : v.length ≤ 9223372036854775807 := by have := hw.1.1; rw [jH] at this; exact this
 repeat' ((conv => whnf); first | apply aO | (apply aw <;> intro h))
 all_goals try conv => whnf
 all_goals try (refine ae.mk ?_; try dsimp only)
 all_goals try refine stay ?_
 . have hl : v.length = w.length := by omega
   refine aT.mk Nat (fun i => i ≤ v.length ∧ dm v w = dm (v.drop i) (w.drop i)) (fun i => ⟨42, [(0, .list false 7 (aV v)), (1, .list false 7 (aV w)), (5, .int .i64 i)], [], []⟩) (fun i => v.length - i) [] 0 ⟨Nat.zero_le _, rfl⟩ ?_ (fun i ⟨hi, he⟩ _ _ => ?_)
   . refine Go.VG.Sub.mk rfl ?_ ?_ ?_ ?_ <;> (repeat' first | trivial)
   have q4 : i < v.length → (v.getD i default).value.nodes ≤ bd v := fun h => xk h
   repeat' ((conv => whnf); first | apply aj | apply aO | ((first | apply aw | apply fw | apply eG) <;> intro h) | with_reducible refine rv ?_ ?_)
   all_goals try conv => whnf
   all_goals try (refine ae.mk ?_; try dsimp only)
   all_goals first | refine stay ?_ | omega | skip
   . refine ⟨lC _, lC _, ?_⟩
     have := q4 (by omega)
     rw [fU]; omega
   . rw [fU, fU] at h
     rw [xQ (by omega) hl, xO, h, decide_eq_true (by assumption), Bool.true_and, Bool.true_and] at he
     refine ⟨[], i + 1, ⟨by omega, he⟩, ?_, by omega⟩
     refine Go.VG.Sub.mk rfl ?_ ?_ ?_ ?_ <;> (repeat' first | trivial | apply ax | apply aH)
     (simp (discharger := omega) only [wR]; omega)
   . rw [fU, fU] at h
     rw [xQ (by omega) hl, xO, h, Bool.and_false, Bool.false_and] at he
     rw [he]
     refine af.mk [] ?_ <;> (repeat' first | trivial)
   . rw [xQ (by omega) hl, xO, decide_eq_false (by assumption), Bool.false_and, Bool.false_and] at he
     rw [he]
     refine af.mk [] ?_ <;> (repeat' first | trivial)
   . rw [List.drop_of_length_le (by omega), List.drop_of_length_le (by omega)] at he
     rw [he]
     simp only [dm]
     refine af.mk [] ?_ <;> (repeat' first | trivial)
 . rw [Oy (by omega)]
   refine af.mk [] ?_ <;> (repeat' first | trivial)
theorem E4 : ∀ k : Nat, au 42 (oI k) ∧ au 18 (sv k)
 | 0 => ⟨Et fun _ _ h => by omega, Es fun _ _ h => by omega⟩
 | k + 1 => by
   have ih := E4 k
   have h1 := Et (k := k + 1) fun v w hk => GY ih.1 ih.2 v w hk
   exact ⟨h1, Es fun v w hk => GZ h1 v w hk⟩
def uH : Sm := fun args σ => match args, σ with
 | [x, y], [] => some (kJ x ∧ kJ y, .bool (dm (iG x) (iG y)), none)
 | _, _ => none
theorem C4 : au 18 uH := by
 intro args sg pre x r he hp
 unfold uH at he
 split at he <;> cases he
 rename_i y z
 exact (E4 (bd (iG y) + 1)).2 [y, z] [] _ _ _ rfl ⟨hp.1, hp.2, Nat.lt_succ_self _⟩
end Go.Proofs.YtdjolnjlhbfnmaaGreatDoor
