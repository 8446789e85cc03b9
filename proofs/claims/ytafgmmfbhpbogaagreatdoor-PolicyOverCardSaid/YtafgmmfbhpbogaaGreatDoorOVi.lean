/-
  A batch is told of what stands in a run.
-/
import Derived.Test.YtafgmmfbhpbogaaGreatDoorOVa
set_option linter.unusedSimpArgs false
set_option linter.unusedVariables false
set_option maxHeartbeats 4000000
namespace Go.Proofs.YtafgmmfbhpbogaaGreatDoor
open Go Go.VG
set_option maxRecDepth 100000
/-- what is encoded by a value -/
noncomputable def unE {α : Type} [Inhabited α] (e : α → V) (x : V) : α := @dite α (∃ a, x = e a) (Classical.propDecidable _) (fun h => h.choose) (fun _ => default)
theorem unE_e {α : Type} [Inhabited α] {e : α → V} (inj : ∀ a b, e a = e b → a = b) (a : α) : unE e (e a) = a := by
  have h : ∃ b, e a = e b := ⟨a, rfl⟩
  unfold unE
  rw [dif_pos h]
  exact (inj _ _ h.choose_spec).symm
theorem map_injE {α : Type} {e : α → V} (inj : ∀ a b, e a = e b → a = b) : ∀ {l m : List α}, l.map e = m.map e → l = m
  | [], [], _ => rfl
  | [], _ :: _, h => by cases h
  | _ :: _, [], h => by cases h
  | a :: l, b :: m, h => by
    rw [List.map_cons, List.map_cons] at h
    obtain ⟨h1, h2⟩ := List.cons.inj h
    rw [inj _ _ h1, map_injE inj h2]
theorem encM_inj {l m : List Att} (h : encM l = encM m) : l = m := by
  have := congrArg decM h
  rwa [decM_enc, decM_enc] at this
theorem eEv_inj : ∀ a b : Ev, eEv a = eEv b → a = b := fun a b h => by
  cases a; cases b
  simp only [eEv, eEvc, V.agg.injEq, List.cons.injEq, V.int.injEq, V.str.injEq, V.list.injEq, true_and, and_true] at h
  obtain ⟨rfl, rfl, h⟩ := h
  rw [encM_inj h]
theorem eLk_inj : ∀ a b : Lk, eLk a = eLk b → a = b := fun a b h => by
  cases a; cases b
  simp only [eLk, eLkc, V.agg.injEq, List.cons.injEq, V.int.injEq, V.str.injEq, V.list.injEq, true_and, and_true] at h
  obtain ⟨rfl, rfl, rfl, rfl, rfl, rfl, rfl, rfl, rfl, rfl, rfl, rfl, rfl, rfl, rfl, rfl, rfl, rfl, rfl, rfl, rfl, rfl, rfl, rfl, rfl, h⟩ := h
  rw [encM_inj h]
theorem eSp_inj : ∀ a b : Sp, eSp a = eSp b → a = b := fun a b h => by
  cases a; cases b
  simp only [eSp, eSpc, V.agg.injEq, List.cons.injEq, V.int.injEq, V.str.injEq, V.list.injEq, true_and, and_true] at h
  obtain ⟨rfl, rfl, rfl, rfl, rfl, rfl, rfl, rfl, rfl, rfl, rfl, rfl, rfl, rfl, rfl, rfl, rfl, rfl, rfl, rfl, rfl, rfl, rfl, rfl, rfl, rfl, rfl, rfl, rfl, rfl, rfl, rfl, rfl, rfl, rfl, rfl, rfl, h1, h2, h3, rfl, rfl⟩ := h
  rw [encM_inj h1, map_injE eEv_inj h2, map_injE eLk_inj h3]
theorem eSc_inj : ∀ a b : Sc, eSc a = eSc b → a = b := fun a b h => by
  cases a; cases b
  simp only [eSc, V.agg.injEq, List.cons.injEq, V.str.injEq, V.list.injEq, true_and, and_true] at h
  obtain ⟨rfl, rfl, h⟩ := h
  rw [map_injE eSp_inj h]
theorem eRs_inj : ∀ a b : Rs, eRs a = eRs b → a = b := fun a b h => by
  cases a; cases b
  simp only [eRs, V.agg.injEq, List.cons.injEq, V.list.injEq, true_and, and_true] at h
  obtain ⟨h1, h2⟩ := h
  rw [encM_inj h1, map_injE eSc_inj h2]
theorem eBt_inj : ∀ a b : List Rs, eBt a = eBt b → a = b := fun a b h => by
  simp only [eBt, V.agg.injEq, List.cons.injEq, V.list.injEq, true_and, and_true] at h
  exact map_injE eRs_inj h
theorem un_bt (b : List Rs) : unE eBt (.agg [.list false 2 (b.map eRs)]) = b := unE_e eBt_inj b
theorem un_sp (s : Sp) : unE eSp (.agg (eSpc s)) = s := unE_e eSp_inj s
/-! lists, by their places -/
theorem drop_nextE {α : Type} [Inhabited α] {l : List α} {i : Nat} (h : i < l.length) : l.drop i = l.getD i default :: l.drop (i + 1) := by
  rw [List.drop_eq_getElem_cons h, List.getD_eq_getElem?_getD, List.getElem?_eq_getElem h]; rfl
end Go.Proofs.YtafgmmfbhpbogaaGreatDoor
