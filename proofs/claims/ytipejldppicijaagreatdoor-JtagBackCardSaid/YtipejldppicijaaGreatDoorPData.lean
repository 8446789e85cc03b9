/-
  A part of the proof.
-/
import Derived.Test.YtipejldppicijaaGreatDoorVal
import Derived.Test.YtipejldppicijaaGreatDoorVgZ
set_option linter.unusedSimpArgs false
set_option linter.unusedVariables false
set_option maxHeartbeats 4000000
namespace Go.Proofs.YtipejldppicijaaGreatDoor
open Go Go.VG
set_option maxRecDepth 100000
section
variable {H : Type}
theorem rD : ∀ f : Nat, (∀ (d : DataW H) xs, aS tt f 27 d = some xs → ∃ v : ae, aq xs (cv v)) ∧ (∀ (d : DataW H) xs, aS tt f 29 d = some xs → ∃ a : ak, aq xs (.str a.key :: cv a.value))
 | 0 => ⟨fun d xs h => by simp [aS] at h, fun d xs h => by simp [aS] at h⟩
 | f + 1 => by
   have ih := rD f
   have vals : ∀ g, g ≤ f → ∀ (d : DataW H) xs, aS tt (g + 1) 24 d = some xs → ∃ l : List ae, aq xs [.list false 6 (eo l)] := fun g hg d xs h => by
    rcases uD (e := 27) rfl h with rfl | ⟨f', ds, l, hf, hm, rfl⟩
    . exact ⟨[], aq.cons (Wk.nil (.inl rfl)) aq.nil⟩
    . cases hf
      obtain ⟨bs, hb, _⟩ := sf (sz := 6) hm (enc := ev) fun d x hx => by
       simp only [Option.bind_eq_some_iff] at hx
       obtain ⟨cs, h1, h2⟩ := hx
       obtain ⟨v, hv⟩ := (rD f).1 d cs (rA hg h1)
       have h2 : some (V.agg cs) = some x := h2
       cases h2
       exact ⟨v, Wk.agg hv⟩
      exact ⟨bs, aq.cons (by rw [uN]; exact hb) aq.nil⟩
   have atts : ∀ g, g ≤ f → ∀ (d : DataW H) xs, aS tt (g + 1) 25 d = some xs → ∃ l : List ak, aq xs [.list false 7 (bB l)] := fun g hg d xs h => by
    rcases uD (e := 29) rfl h with rfl | ⟨f', ds, l, hf, hm, rfl⟩
    . exact ⟨[], aq.cons (Wk.nil (.inl rfl)) aq.nil⟩
    . cases hf
      obtain ⟨bs, hb, _⟩ := sf (sz := 7) hm (enc := ea) fun d x hx => by
       simp only [Option.bind_eq_some_iff] at hx
       obtain ⟨cs, h1, h2⟩ := hx
       obtain ⟨v, hv⟩ := (rD f).2 d cs (rA hg h1)
       have h2 : some (V.agg cs) = some x := h2
       cases h2
       exact ⟨v, Wk.agg hv⟩
      exact ⟨bs, aq.cons (by rw [iH]; exact hb) aq.nil⟩
   refine ⟨fun d xs h => ?_, fun d xs h => ?_⟩
   . obtain ⟨f', parts, xss, hf, hlen, hm, rfl⟩ := yF (fs := [(0, 5), (1, 9), (2, 3), (3, 23), (4, 24), (5, 25)]) rfl h
     cases hf
     match parts, hlen, hm with
     | [p0, p1, p2, p3, p4, p5], _, hm0 =>
       obtain ⟨c0, r0, h0, hm1, rfl⟩ := jO hm0
       obtain ⟨c1, r1, h1, hm2, rfl⟩ := jO hm1
       obtain ⟨c2, r2, h2, hm3, rfl⟩ := jO hm2
       obtain ⟨c3, r3, h3, hm4, rfl⟩ := jO hm3
       obtain ⟨c4, r4, h4, hm5, rfl⟩ := jO hm4
       obtain ⟨c5, r5, h5, hm6, rfl⟩ := jO hm5
       simp at hm6; subst hm6
       obtain ⟨k, rfl⟩ := uC (k := .u8) rfl h0
       obtain ⟨s, rfl⟩ := yE rfl h1
       obtain ⟨n, rfl⟩ := uC (k := .i64) rfl h2
       obtain ⟨b, rfl⟩ := uC (k := .u64) rfl h3
       cases f with
       | zero => simp [aS] at h4
       | succ g =>
         obtain ⟨l, hl⟩ := vals g (Nat.le_succ g) p4 c4 h4
         obtain ⟨m, hm⟩ := atts g (Nat.le_succ g) p5 c5 h5
         refine ⟨.mk k s n b l m, ?_⟩
         intro st gg q vs hv
         simp only [List.flatten_cons, List.flatten_nil, List.append_nil, List.cons_append, List.nil_append] at hv
         simp only [av] at hv
         obtain ⟨u0, us0, rfl, a0, u1, us1, rfl, a1, u2, us2, rfl, a2, u3, us3, rfl, a3, hv⟩ := hv
         refine bm a0 (bm a1 (bm a2 (bm a3 ?_)))
         have hd := oV (k := c4.length) hv
         have he := oS (k := c4.length) hv
         rw [List.take_left] at hd
         rw [List.drop_left] at he
         have := lW (hl _ _ _ _ hd) (hm _ _ _ _ he)
         rw [List.take_append_drop] at this
         exact this
   . obtain ⟨f', parts, xss, hf, hlen, hm, rfl⟩ := yF (fs := [(0, 9), (1, 27)]) rfl h
     cases hf
     match parts, hlen, hm with
     | [p0, p1], _, hm0 =>
       obtain ⟨c0, r0, h0, hm1, rfl⟩ := jO hm0
       obtain ⟨c1, r1, h1, hm2, rfl⟩ := jO hm1
       simp at hm2; subst hm2
       obtain ⟨s, rfl⟩ := yE rfl h0
       obtain ⟨v, hv⟩ := ih.1 p1 c1 h1
       refine ⟨.mk s v, ?_⟩
       simp only [List.flatten_cons, List.flatten_nil, List.append_nil, List.cons_append, List.nil_append]
       exact aq.cons (Wk.refl _) hv
end
end Go.Proofs.YtipejldppicijaaGreatDoor
