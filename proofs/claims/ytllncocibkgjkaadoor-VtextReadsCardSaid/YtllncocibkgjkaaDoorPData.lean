/-
  A part of the proof.
-/
import Derived.Test.YtllncocibkgjkaaDoorVal
import Derived.Test.YtllncocibkgjkaaDoorVgZ
set_option linter.unusedSimpArgs false
set_option linter.unusedVariables false
set_option maxHeartbeats 4000000
namespace Go.Proofs.YtllncocibkgjkaaDoor
open Go Go.VG
set_option maxRecDepth 100000
section
variable {H : Type}
theorem rz : ∀ f : Nat, (∀ (d : DataW H) xs, bH tt f 26 d = some xs → ∃ v : ah, aM xs (cv v)) ∧ (∀ (d : DataW H) xs, bH tt f 56 d = some xs → ∃ a : aD, aM xs (.str a.key :: cv a.value))
 | 0 => ⟨fun d xs h => by simp [bH] at h, fun d xs h => by simp [bH] at h⟩
 | f + 1 => by
   have ih := rz f
   have vals : ∀ g, g ≤ f → ∀ (d : DataW H) xs, bH tt (g + 1) 23 d = some xs → ∃ l : List ah, aM xs [.list false 6 (eM l)] := fun g hg d xs h => by
    rcases y9 (e := 26) rfl h with rfl | ⟨f', ds, l, hf, hm, rfl⟩
    . exact ⟨[], aM.cons (Wk.nil (.inl rfl)) aM.nil⟩
    . cases hf
      obtain ⟨bs, hb, _⟩ := uV (sz := 6) hm (enc := ev) fun d x hx => by
       simp only [Option.bind_eq_some_iff] at hx
       obtain ⟨cs, h1, h2⟩ := hx
       obtain ⟨v, hv⟩ := (rz f).1 d cs (ru hg h1)
       have h2 : some (V.agg cs) = some x := h2
       cases h2
       exact ⟨v, Wk.agg hv⟩
      exact ⟨bs, aM.cons (by rw [ug]; exact hb) aM.nil⟩
   have atts : ∀ g, g ≤ f → ∀ (d : DataW H) xs, bH tt (g + 1) 24 d = some xs → ∃ l : List aD, aM xs [.list false 7 (d8 l)] := fun g hg d xs h => by
    rcases y9 (e := 56) rfl h with rfl | ⟨f', ds, l, hf, hm, rfl⟩
    . exact ⟨[], aM.cons (Wk.nil (.inl rfl)) aM.nil⟩
    . cases hf
      obtain ⟨bs, hb, _⟩ := uV (sz := 7) hm (enc := ea) fun d x hx => by
       simp only [Option.bind_eq_some_iff] at hx
       obtain ⟨cs, h1, h2⟩ := hx
       obtain ⟨v, hv⟩ := (rz f).2 d cs (ru hg h1)
       have h2 : some (V.agg cs) = some x := h2
       cases h2
       exact ⟨v, Wk.agg hv⟩
      exact ⟨bs, aM.cons (by rw [rF]; exact hb) aM.nil⟩
   refine ⟨fun d xs h => ?_, fun d xs h => ?_⟩
   . obtain ⟨f', parts, xss, hf, hlen, hm, rfl⟩ := yb (fs := [(0, 5), (1, 9), (2, 3), (3, 22), (4, 23), (5, 24)]) rfl h
     cases hf
     match parts, hlen, hm with
     | [p0, p1, p2, p3, p4, p5], _, hm0 =>
       obtain ⟨c0, r0, h0, hm1, rfl⟩ := kN hm0
       obtain ⟨c1, r1, h1, hm2, rfl⟩ := kN hm1
       obtain ⟨c2, r2, h2, hm3, rfl⟩ := kN hm2
       obtain ⟨c3, r3, h3, hm4, rfl⟩ := kN hm3
       obtain ⟨c4, r4, h4, hm5, rfl⟩ := kN hm4
       obtain ⟨c5, r5, h5, hm6, rfl⟩ := kN hm5
       simp at hm6; subst hm6
       obtain ⟨k, rfl⟩ := tR (k := .u8) rfl h0
       obtain ⟨s, rfl⟩ := ya rfl h1
       obtain ⟨n, rfl⟩ := tR (k := .i64) rfl h2
       obtain ⟨b, rfl⟩ := tR (k := .u64) rfl h3
       cases f with
       | zero => simp [bH] at h4
       | succ g =>
         obtain ⟨l, hl⟩ := vals g (Nat.le_succ g) p4 c4 h4
         obtain ⟨m, hm⟩ := atts g (Nat.le_succ g) p5 c5 h5
         refine ⟨.mk k s n b l m, ?_⟩
         intro st gg q vs hv
         simp only [List.flatten_cons, List.flatten_nil, List.append_nil, List.cons_append, List.nil_append] at hv
         simp only [aq] at hv
         obtain ⟨u0, us0, rfl, a0, u1, us1, rfl, a1, u2, us2, rfl, a2, u3, us3, rfl, a3, hv⟩ := hv
         refine c7 a0 (c7 a1 (c7 a2 (c7 a3 ?_)))
         have hd := pf (k := c4.length) hv
         have he := pb (k := c4.length) hv
         rw [List.take_left] at hd
         rw [List.drop_left] at he
         have := mn (hl _ _ _ _ hd) (hm _ _ _ _ he)
         rw [List.take_append_drop] at this
         exact this
   . obtain ⟨f', parts, xss, hf, hlen, hm, rfl⟩ := yb (fs := [(0, 9), (1, 26)]) rfl h
     cases hf
     match parts, hlen, hm with
     | [p0, p1], _, hm0 =>
       obtain ⟨c0, r0, h0, hm1, rfl⟩ := kN hm0
       obtain ⟨c1, r1, h1, hm2, rfl⟩ := kN hm1
       simp at hm2; subst hm2
       obtain ⟨s, rfl⟩ := ya rfl h0
       obtain ⟨v, hv⟩ := ih.1 p1 c1 h1
       refine ⟨.mk s v, ?_⟩
       simp only [List.flatten_cons, List.flatten_nil, List.append_nil, List.cons_append, List.nil_append]
       exact aM.cons (Wk.refl _) hv
theorem G9 {d : DataW H} {x : V} (h : IsD tt 26 d x) : ∃ v : ah, Wk x (ev v) := by
 obtain ⟨f, h⟩ := h
 simp only [Option.bind_eq_some_iff] at h
 obtain ⟨cs, h1, h2⟩ := h
 obtain ⟨v, hv⟩ := (rz f).1 d cs h1
 have h2 : some (V.agg cs) = some x := h2
 cases h2
 exact ⟨v, Wk.agg hv⟩
end
end Go.Proofs.YtllncocibkgjkaaDoor
