/-
  Which data are values of the document.
-/
import Derived.Test.YtafgmmfbhpbogaaGreatDoorVal
import Derived.Test.YtafgmmfbhpbogaaGreatDoorVgZ
set_option linter.unusedSimpArgs false
set_option linter.unusedVariables false
set_option maxHeartbeats 4000000
namespace Go.Proofs.YtafgmmfbhpbogaaGreatDoor
open Go Go.VG
set_option maxRecDepth 100000
section
variable {H : Type}
theorem data_val : ∀ f : Nat, (∀ (d : DataW H) xs, cellsD tt f 72 d = some xs → ∃ v : Val, WkL xs (cv v)) ∧ (∀ (d : DataW H) xs, cellsD tt f 74 d = some xs → ∃ a : Att, WkL xs (.str a.key :: cv a.value))
  | 0 => ⟨fun d xs h => by simp [cellsD] at h, fun d xs h => by simp [cellsD] at h⟩
  | f + 1 => by
    have ih := data_val f
    have vals : ∀ g, g ≤ f → ∀ (d : DataW H) xs, cellsD tt (g + 1) 70 d = some xs → ∃ l : List Val, WkL xs [.list false 6 (encL l)] := fun g hg d xs h => by
      rcases cellsD_slice (e := 72) rfl h with rfl | ⟨f', ds, l, hf, hm, rfl⟩
      · exact ⟨[], WkL.cons (Wk.nil (.inl rfl)) WkL.nil⟩
      · cases hf
        obtain ⟨bs, hb, _⟩ := list_of (sz := 6) hm (enc := ev) fun d x hx => by
          simp only [Option.bind_eq_some_iff] at hx
          obtain ⟨cs, h1, h2⟩ := hx
          obtain ⟨v, hv⟩ := (data_val f).1 d cs (cellsD_le hg h1)
          have h2 : some (V.agg cs) = some x := h2
          cases h2
          exact ⟨v, Wk.agg hv⟩
        exact ⟨bs, WkL.cons (by rw [encL_map]; exact hb) WkL.nil⟩
    have atts : ∀ g, g ≤ f → ∀ (d : DataW H) xs, cellsD tt (g + 1) 43 d = some xs → ∃ l : List Att, WkL xs [.list false 7 (encM l)] := fun g hg d xs h => by
      rcases cellsD_slice (e := 74) rfl h with rfl | ⟨f', ds, l, hf, hm, rfl⟩
      · exact ⟨[], WkL.cons (Wk.nil (.inl rfl)) WkL.nil⟩
      · cases hf
        obtain ⟨bs, hb, _⟩ := list_of (sz := 7) hm (enc := ea) fun d x hx => by
          simp only [Option.bind_eq_some_iff] at hx
          obtain ⟨cs, h1, h2⟩ := hx
          obtain ⟨v, hv⟩ := (data_val f).2 d cs (cellsD_le hg h1)
          have h2 : some (V.agg cs) = some x := h2
          cases h2
          exact ⟨v, Wk.agg hv⟩
        exact ⟨bs, WkL.cons (by rw [encM_map]; exact hb) WkL.nil⟩
    refine ⟨fun d xs h => ?_, fun d xs h => ?_⟩
    · obtain ⟨f', parts, xss, hf, hlen, hm, rfl⟩ := cellsD_struct (fs := [(0, 5), (1, 9), (2, 3), (3, 56), (4, 70), (5, 43)]) rfl h
      cases hf
      match parts, hlen, hm with
      | [p0, p1, p2, p3, p4, p5], _, hm0 =>
        obtain ⟨c0, r0, h0, hm1, rfl⟩ := mapM_two hm0
        obtain ⟨c1, r1, h1, hm2, rfl⟩ := mapM_two hm1
        obtain ⟨c2, r2, h2, hm3, rfl⟩ := mapM_two hm2
        obtain ⟨c3, r3, h3, hm4, rfl⟩ := mapM_two hm3
        obtain ⟨c4, r4, h4, hm5, rfl⟩ := mapM_two hm4
        obtain ⟨c5, r5, h5, hm6, rfl⟩ := mapM_two hm5
        simp at hm6; subst hm6
        obtain ⟨k, rfl⟩ := cellsD_intK (k := .u8) rfl h0
        obtain ⟨s, rfl⟩ := cellsD_str rfl h1
        obtain ⟨n, rfl⟩ := cellsD_intK (k := .i64) rfl h2
        obtain ⟨b, rfl⟩ := cellsD_intK (k := .u64) rfl h3
        cases f with
        | zero => simp [cellsD] at h4
        | succ g =>
          obtain ⟨l, hl⟩ := vals g (Nat.le_succ g) p4 c4 h4
          obtain ⟨m, hm⟩ := atts g (Nat.le_succ g) p5 c5 h5
          refine ⟨.mk k s n b l m, ?_⟩
          intro st gg q vs hv
          simp only [List.flatten_cons, List.flatten_nil, List.append_nil, List.cons_append, List.nil_append] at hv
          simp only [VRs] at hv
          obtain ⟨u0, us0, rfl, a0, u1, us1, rfl, a1, u2, us2, rfl, a2, u3, us3, rfl, a3, hv⟩ := hv
          refine VRs_cons a0 (VRs_cons a1 (VRs_cons a2 (VRs_cons a3 ?_)))
          have hd := VRs_take (k := c4.length) hv
          have he := VRs_drop (k := c4.length) hv
          rw [List.take_left] at hd
          rw [List.drop_left] at he
          have := VRs_append (hl _ _ _ _ hd) (hm _ _ _ _ he)
          rw [List.take_append_drop] at this
          exact this
    · obtain ⟨f', parts, xss, hf, hlen, hm, rfl⟩ := cellsD_struct (fs := [(0, 9), (1, 72)]) rfl h
      cases hf
      match parts, hlen, hm with
      | [p0, p1], _, hm0 =>
        obtain ⟨c0, r0, h0, hm1, rfl⟩ := mapM_two hm0
        obtain ⟨c1, r1, h1, hm2, rfl⟩ := mapM_two hm1
        simp at hm2; subst hm2
        obtain ⟨s, rfl⟩ := cellsD_str rfl h0
        obtain ⟨v, hv⟩ := ih.1 p1 c1 h1
        refine ⟨.mk s v, ?_⟩
        simp only [List.flatten_cons, List.flatten_nil, List.append_nil, List.cons_append, List.nil_append]
        exact WkL.cons (Wk.refl _) hv
theorem isD_val {d : DataW H} {x : V} (h : IsD tt 72 d x) : ∃ v : Val, Wk x (ev v) := by
  obtain ⟨f, h⟩ := h
  simp only [Option.bind_eq_some_iff] at h
  obtain ⟨cs, h1, h2⟩ := h
  obtain ⟨v, hv⟩ := (data_val f).1 d cs h1
  have h2 : some (V.agg cs) = some x := h2
  cases h2
  exact ⟨v, Wk.agg hv⟩
end
end Go.Proofs.YtafgmmfbhpbogaaGreatDoor
