/-
  A part of the proof.
-/
import Derived.Test.YtdjolnjlhbfnmaaGreatDoorVgU
import Derived.Deep.LoopGhost
import Derived.Sort.LoopGhostIn
import Derived.ScopeJumps
set_option linter.unusedSimpArgs false
set_option linter.unusedVariables false
namespace Go.VG
open Go

theorem zV : ∀ {l : List V}, V.ee l ↔ ∀ x ∈ l, x.wf
 | [] => by simp [V.ee]
 | c :: cs => by simp [V.ee, zV (l := cs)]

section
variable {st : St} {g : ay}
mutual
theorem sX : ∀ {x : V} {n : Nat} {v : Value}, VR st g x n v → x.wf
 | .int k m, n, v, h => by simp only [VR] at h; simp only [V.wf]; exact h.2
 | .str s, n, v, h => by simp only [VR] at h; simp only [V.wf]; exact h.2
 | .agg cs, n, v, h | .tuple cs, n, v, h => by
   simp only [VR] at h; obtain ⟨vs, _, h⟩ := h
   simp only [V.wf]; exact oW h
 | .list c sz l, n, v, h => by
   simp only [VR] at h; obtain ⟨base, cap, _, _, h2, _, h3⟩ := h
   simp only [V.wf]
   refine ⟨h2, ?_⟩
   rcases h3 with rfl | ⟨b, o, _, _, h3⟩
   . simp [V.ee]
   . exact vG h3
 | .box cs off, n, v, h => by
   simp only [VR] at h; obtain ⟨b, o, vs, _, h, _⟩ := h
   simp only [V.wf]; exact oW h
 | .iface t x, n, v, h => by
   simp only [VR] at h; obtain ⟨u, _, h⟩ := h
   simp only [V.wf]; exact sX h
 | .undef, _, _, _ | .bool _, _, _, _ | .nilptr, _, _, _ | .ptr .., _, _, _ | .bptr .., _, _, _ | .buf _, _, _, _ | .nilIface, _, _, _ | .func .., _, _, _ | .nilFunc, _, _, _ | .map _, _, _, _ | .nilmap, _, _, _ => by simp [V.wf]
theorem oW : ∀ {x : List V} {n : Nat} {v : List Value}, aJ st g x n v → V.ee x
 | [], _, _, _ => by simp [V.ee]
 | c :: cs, _, _, h => by
   simp only [aJ] at h; obtain ⟨u, us, _, h1, h2⟩ := h
   simp only [V.ee]; exact ⟨sX h1, oW h2⟩
theorem vG : ∀ {x : List V} {sz o : Nat} {look : Nat → Option Value}, bP st g x sz look o → V.ee x
 | [], _, _, _, _ => by simp [V.ee]
 | c :: cs, _, _, _, h => by
   simp only [bP] at h
   obtain ⟨⟨u, h1, _⟩, h2⟩ := h
   simp only [V.ee]; exact ⟨sX h1, vG h2⟩
end
end

theorem Fb : ∀ {l : List O}, gn l ↔ ∀ x ∈ l, x.wf
 | [] => by simp [gn]
 | c :: cs => by simp [gn, Fb (l := cs)]

section
variable {C : Ctx} {E : Env} {st : St} {g : ay} {s : AS} {a : Act} {w : World}

theorem cX.wf {n : Nat} {gi : Gh} {o : O} (h : cX E st g n w gi o) : o.wf := by
 cases o with
 | dead => simp [O.wf]
 | cells cs => obtain ⟨b, c, el, fr, _, _, _, h, _⟩ := h; simp only [O.wf]; exact oW h
 | buf sz pre l =>
   obtain ⟨_, _, _, h4, h5, _, h7⟩ := h
   simp only [O.wf]
   refine ⟨h4, ?_⟩
   rcases h7 with ⟨h7, _⟩ | ⟨b, c, el, fr, _, _, _, _, _, k6, _⟩
   . have : l = [] := List.eq_nil_of_length_eq_zero (by omega)
     subst this; simp [V.ee]
   . exact vG k6
 | siter s p => simp only [O.wf]; exact h.1
 | map ag sh es bs ck =>
   obtain ⟨_, _, _, _, _, h4, _⟩ := h
   simp only [O.wf]
   have := ph h4
   omega
 | miter m bs ck l x => simp [O.wf]
theorem aR.wf {sg : List O} (h : aR E st g sg w) : gn sg := Fb.2 fun o ho => by
 obtain ⟨i, hi, hio⟩ := List.getElem_of_mem ho
 exact (h.ob i o (by rw [List.getElem?_eq_getElem hi, hio])).wf
theorem sR (f : Nat → Value) {n : Nat} : ∀ (l : List (Nat × V)) (seen : List Nat), (∀ t, t ∉ seen → VR st g (lk l t) n (f t)) → l7 l seen
 | [], _, _ => trivial
 | (t, x) :: r, seen, h => by
   simp only [l7]
   refine ⟨?_, sR f (n := n) r (t :: seen) fun t' ht' => ?_⟩
   . cases hm : aP t seen with
     | true => trivial
     | false =>
       have := h t (oD.1 hm)
       simp only [lk, show Nat.beq t t = true from Nat.beq_refl t, cond_true] at this
       exact sX this
   . simp only [List.mem_cons, not_or] at ht'
     have := h t' ht'.2
     simp only [lk] at this
     rwa [show Nat.beq t t' = false from by cases hb : Nat.beq t t' with | false => rfl | true => exact absurd (Nat.eq_of_beq_eq_true hb).symm ht'.1, cond_false] at this

def eo (C : Ctx) (E : Env) (n : Nat) (st0 : St) (g0 : ay) (s' : AS) (a' : Act) (w' : World) : Prop := ∃ E', fS E E' ∧ ∃ st' g', Rel E' st' g' s' a' w' ∧ aW C.gl st' ∧ l8 n st0 g0 st' g' s'

theorem EI {s : AS} {m : Nat} : ∀ {l : List (Nat × V)} {t : Nat}, zH s m l → lk l t = .undef ∨ (lk s.tm t = lk l t ∧ (lk l t).ff m = true)
 | [], t, _ => .inl rfl
 | (k, x) :: r, t, h => by
   simp only [lk]
   cases hb : Nat.beq k t with
   | true =>
     have := Nat.eq_of_beq_eq_true hb
     subst this
     simp only [cond_true]
     exact .inr h.1
   | false => simp only [cond_false]; exact EI h.2
theorem EF {i : Nat} : ∀ {ks l : List Nat}, vk ks l = true → aP i ks = true → aP i l = true
 | [], _, _, h => by simp [aP] at h
 | k :: ks, l, h, hm => by
   simp only [vk, Bool.and_eq_true] at h
   simp only [aP, Bool.or_eq_true] at hm
   rcases hm with hm | hm
   . have := Nat.eq_of_beq_eq_true hm; subst this; exact h.1
   . exact EF h.2 hm

theorem eo.sub {n : Nat} {st0 : St} {g0 : ay} {t : AS} (h : eo C E n st0 g0 s a w) (hs : Sub n s t) : eo C E n st0 g0 t a w := by
 obtain ⟨E', hE', st', g', R, hg, B⟩ := h
 refine ⟨E', hE', st', g', ⟨R.nt.trans hs.nt, R.df, fun u => ?_, R.wr.zG hs.sg⟩, hg, ⟨B.mono, fun i hi hm => B.bm i hi ?_, Nat.le_of_ble_eq_true hs.len⟩⟩
 . rcases EI (t := u) hs.tm with h | ⟨h1, h2⟩
   . rw [h]; simp [VR]
   . have := R.tm u
     rw [h1] at this
     exact fu (fun _ _ _ h => h) (fun i hi _ => ⟨rr h2 hi, rfl⟩) this
 . cases hb : aP i s.kl with
   | false => rfl
   | true => rw [EF hs.kl hb] at hm; cases hm

theorem E9 {y : V} : ∀ {xs : List V} {off j : Nat}, (jY xs off y)[j]? = if j = off ∧ off < xs.length then some y else xs[j]?
 | [], off, j => by simp [jY]
 | x :: xs, 0, j => by cases j <;> simp [jY]
 | x :: xs, off + 1, j => by
   cases j with
   | zero => simp [jY]
   | succ j => simp [jY, E9 (xs := xs) (off := off) (j := j)]
theorem Ec {y : V} : ∀ {xs : List V} {off : Nat}, (jY xs off y).length = xs.length
 | [], _ => rfl
 | _ :: _, 0 => rfl
 | _ :: xs, off + 1 => by simp [jY, Ec (xs := xs)]

theorem aR.ghost {sg : List O} (h : aR E st g sg w) {base : Option Addr} {sz : Nat} (hsz : 0 < sz) : aR E st (ba g sg.length ⟨none, base, 0, 0, sz⟩) (sg ++ [.buf sz 0 []]) w := by
 refine h.step (cP.same (aU.refl w)) ?_ ?_
 . intro i o ho
   rw [List.length_append, List.length_singleton]
   rcases Nat.lt_trichotomy i sg.length with hlt | heq | hgt
   . rw [List.getElem?_append_left hlt] at ho
     rw [cp (Nat.ne_of_lt hlt)]
     exact (h.ob i o ho).bm (fun _ _ => rfl) (fun _ _ _ hv => hv) (fun _ _ _ _ hv => hv) (fun j _ hj => ⟨by omega, cp (Nat.ne_of_lt hj)⟩)
   . subst heq
     rw [List.getElem?_append_right (Nat.le_refl _)] at ho
     simp at ho; subst ho
     rw [dg]
     exact ⟨hsz, rfl, Nat.zero_le _, Nat.zero_le _, rfl, Nat.le_refl _, .inl ⟨rfl, rfl⟩⟩
   . rw [List.getElem?_eq_none (by simp; omega)] at ho; cases ho
 . intro i j b hi hj h1 h2
   rw [List.length_append, List.length_singleton] at hi hj
   by_cases e1 : i = sg.length
   . subst e1; rw [dg] at h1; cases h1
   . by_cases e2 : j = sg.length
     . subst e2; rw [dg] at h2; cases h2
     . rw [cp e1] at h1; rw [cp e2] at h2
       exact h.inj i j b (by omega) (by omega) h1 h2

theorem aR.wo {sg : List O} (h : aR E st g sg w) {base : Option Addr} {sz : Nat} : aR E st (ba g sg.length ⟨none, base, 0, 0, sz⟩) (sg ++ [.dead]) w := by
 refine h.step (cP.same (aU.refl w)) ?_ ?_
 . intro i o ho
   rw [List.length_append, List.length_singleton]
   rcases Nat.lt_trichotomy i sg.length with hlt | heq | hgt
   . rw [List.getElem?_append_left hlt] at ho
     rw [cp (Nat.ne_of_lt hlt)]
     exact (h.ob i o ho).bm (fun _ _ => rfl) (fun _ _ _ hv => hv) (fun _ _ _ _ hv => hv) (fun j _ hj => ⟨by omega, cp (Nat.ne_of_lt hj)⟩)
   . subst heq
     rw [List.getElem?_append_right (Nat.le_refl _)] at ho
     simp at ho; subst ho
     rw [dg]
     intro b hb; cases hb
   . rw [List.getElem?_eq_none (by simp; omega)] at ho; cases ho
 . intro i j b hi hj h1 h2
   rw [List.length_append, List.length_singleton] at hi hj
   by_cases e1 : i = sg.length
   . subst e1; rw [dg] at h1; cases h1
   . by_cases e2 : j = sg.length
     . subst e2; rw [dg] at h2; cases h2
     . rw [cp e1] at h1; rw [cp e2] at h2
       exact h.inj i j b (by omega) (by omega) h1 h2

theorem qM {sg : List O} {x : V} {v : Value} {gh : Gh} (h : VR st g x sg.length v) : VR st (ba g sg.length gh) x (sg.length + 1) v :=
 fu (fun _ _ _ h => h) (fun i _ hi => ⟨by omega, cp (Nat.ne_of_lt hi)⟩) h

theorem vl (i j k : Nat) : swp i j k = if k = i then j else if k = j then i else k := by
 unfold swp
 cases h1 : Nat.beq k i with
 | true => simp [Nat.eq_of_beq_eq_true h1]
 | false =>
   have h1' : k ≠ i := fun e => by subst e; rw [show Nat.beq k k = true from Nat.beq_refl k] at h1; cases h1
   cases h2 : Nat.beq k j with
   | true => simp only [cond_true, cond_false]; rw [if_neg h1', if_pos (Nat.eq_of_beq_eq_true h2)]
   | false =>
     have h2' : k ≠ j := fun e => by subst e; rw [show Nat.beq k k = true from Nat.beq_refl k] at h2; cases h2
     simp [h1', h2']
theorem zJ (i j k : Nat) : swp i j (swp i j k) = k := by
 rw [vl, vl]
 by_cases h1 : k = i
 . subst h1
   by_cases h2 : j = k
   . subst h2; simp
   . simp [h2]
 . by_cases h2 : k = j
   . subst h2; simp [h1]
   . simp [h1, h2]
theorem zI {i j k n : Nat} (hi : i < n) (hj : j < n) (hk : k < n) : swp i j k < n := by
 rw [vl]; split
 . exact hj
 . split
   . exact hi
   . exact hk
theorem wm {sg : List O} {i : Nat} (h : i < sg.length) : sg[i]? = some (aL sg i) := by
 rw [rp, List.getD_eq_getElem?_getD, List.getElem?_eq_getElem h]; rfl
theorem P4 {sg : List O} {i j : Nat} (hi : i < sg.length) (hj : j < sg.length) (k : Nat) : (swapAt sg i j)[k]? = sg[swp i j k]? := by
 unfold swapAt
 rw [vl, fQ, fQ]
 by_cases h2 : k = j
 . subst h2
   rw [List.getElem?_set_self (by simpa using hj)]
   by_cases h1 : k = i
   . subst h1; simp [wm hj]
   . simp [h1, wm hi]
 . rw [List.getElem?_set_ne (Ne.symm h2)]
   by_cases h1 : k = i
   . subst h1
     rw [List.getElem?_set_self hi]
     simp [wm hj]
   . rw [List.getElem?_set_ne (Ne.symm h1)]
     simp [h1, h2]
theorem P5 (sg : List O) (i j : Nat) : (swapAt sg i j).length = sg.length := by simp [swapAt, fQ]
theorem CQ (f : Nat → Option Nat) : ∀ (tm : List (Nat × V)) (t : Nat), lk (qq f tm) t = (lk tm t).bz f
 | [], t => by simp [qq, lk, V.bz]
 | (k, x) :: r, t => by
   simp only [qq, lk]
   cases Nat.beq k t <;> simp [CQ f r t]

mutual
theorem qN {i : Nat} {y : V} {z : Nat → V} (hy : ∀ n v, VR st g (.buf i) n v → VR st g y n v) (hz : ∀ o n v, VR st g (.ptr i o) n v → VR st g (z o) n v) : ∀ {x : V} {n : Nat} {v : Value}, VR st g x n v → VR st g (V.put i y z x) n v
 | .buf j, n, v, h => by
   simp only [V.put]
   cases hb : Nat.beq j i with
   | true =>
     have := Nat.eq_of_beq_eq_true hb
     subst this
     exact hy n v h
   | false => exact h
 | .ptr j o, n, v, h => by
   simp only [V.put]
   cases hb : Nat.beq j i with
   | true =>
     have := Nat.eq_of_beq_eq_true hb
     subst this
     exact hz o n v h
   | false => exact h
 | .agg cs, n, v, h | .tuple cs, n, v, h => by
   simp only [VR, V.put] at h ⊢
   obtain ⟨vs, rfl, h⟩ := h
   exact ⟨vs, rfl, qR hy hz h⟩
 | .iface t x, n, v, h => by
   simp only [VR, V.put] at h ⊢
   obtain ⟨u, rfl, h⟩ := h
   exact ⟨u, rfl, qN hy hz h⟩
 | .func f a b, n, v, h => by
   simp only [VR, V.put] at h ⊢
   obtain ⟨p, q, rfl, h1, h2⟩ := h
   exact ⟨p, q, rfl, qR hy hz h1, qR hy hz h2⟩
 | .undef, _, _, h | .int .., _, _, h | .bool _, _, _, h | .str _, _, _, h | .list .., _, _, h | .nilptr, _, _, h | .box .., _, _, h | .nilIface, _, _, h | .nilFunc, _, _, h | .nilmap, _, _, h | .bptr .., _, _, h | .map _, _, _, h => by
   simpa only [V.put] using h
theorem qR {i : Nat} {y : V} {z : Nat → V} (hy : ∀ n v, VR st g (.buf i) n v → VR st g y n v) (hz : ∀ o n v, VR st g (.ptr i o) n v → VR st g (z o) n v) : ∀ {x : List V} {n : Nat} {v : List Value}, aJ st g x n v → aJ st g (V.lU i y z x) n v
 | [], _, _, h => by simpa only [V.lU] using h
 | c :: cs, n, v, h => by
   simp only [aJ, V.lU] at h ⊢
   obtain ⟨u, us, rfl, h1, h2⟩ := h
   exact ⟨u, us, rfl, qN hy hz h1, qR hy hz h2⟩
end
theorem cX.put {n : Nat} {gi : Gh} {o : O} {i : Nat} {y : V} {z : Nat → V} (hy : ∀ n v, VR st g (.buf i) n v → VR st g y n v) (hz : ∀ o n v, VR st g (.ptr i o) n v → VR st g (z o) n v) (h : cX E st g n w gi o) : cX E st g n w gi (o.put i y z) := by
 cases o with
 | cells cs =>
   obtain ⟨b, c, el, fr, h1, h2, h3, h4, h5, h6⟩ := h
   exact ⟨b, c, el, fr, h1, h2, h3, qR hy hz h4, h5, h6⟩
 | miter m bs ck l x =>
   obtain ⟨b, b', seen, h1, h2, h3, h4, h5⟩ := h
   exact ⟨b, b', seen, h1, h2, h3, qN hy hz h4, h5⟩
 | _ => exact h
theorem xD {i : Nat} {y : V} {z : Nat → V} : ∀ {sg : List O} {j : Nat}, (hO i y z sg)[j]? = (sg[j]?).map (O.put i y z)
 | [], _ => by simp [hO]
 | o :: os, 0 => by simp [hO]
 | o :: os, j + 1 => by simp only [hO, List.getElem?_cons_succ]; exact xD
theorem sa {i : Nat} {y : V} {z : Nat → V} : ∀ {sg : List O}, (hO i y z sg).length = sg.length
 | [] => rfl
 | _ :: os => by simp only [hO, List.length_cons]; rw [sa (sg := os)]
theorem xc {i : Nat} {y : V} {z : Nat → V} : ∀ (tm : List (Nat × V)) (t : Nat), lk (na i y z tm) t = V.put i y z (lk tm t)
 | [], t => by simp [na, lk, V.put]
 | (k, x) :: r, t => by
   simp only [na, lk]
   cases Nat.beq k t with
   | true => rfl
   | false => exact xc r t
theorem eo.jU   {n : Nat} {st0 : St} {g0 : ay} (h : eo C E n st0 g0 s a w) (p : dR) : eo C E n st0 g0 (s.jU p) a w := by
 cases p with
 | tm t sz =>
   simp only [AS.jU]
   split
   . rename_i sz0 sz1 hlk
     obtain ⟨E', hE', st', g', R, hg, B⟩ := h
     have hv := R.tm t
     rw [hlk] at hv
     simp only [VR] at hv
     obtain ⟨base, cap, hv, _, _, hcap, _⟩ := hv
     obtain rfl : cap = 0 := by simpa using hcap trivial
     refine ⟨E', hE', st', ba g' s.sg.length ⟨none, base, 0, 0, sz1 + 1⟩, ⟨R.nt, R.df, fun u => ?_, R.wr.ghost (Nat.succ_pos _)⟩, hg, ⟨B.mono, fun i hi hm => ?_, by simp; exact Nat.le_succ_of_le B.len⟩⟩
     . show VR st' _ (lk ((t, .buf s.sg.length) :: s.tm) u) (s.sg ++ [_]).length _
       rw [List.length_append, List.length_singleton]
       simp only [lk]
       cases hb : Nat.beq t u with
       | true =>
         have := Nat.eq_of_beq_eq_true hb; subst this
         simp only [cond_true, VR]
         exact ⟨Nat.lt_succ_self _, by rw [dg]; simpa using hv⟩
       | false => simp only [cond_false]; exact qM (R.tm u)
     . have := B.len
       show ba g' s.sg.length _ i = g0 i
       rw [cp (by omega)]; exact B.bm i hi hm
   . exact h
 | cell i off sz =>
   simp only [AS.jU]
   split
   . rename_i cs sz1 hob
     split
     . rename_i sz0 hgl
       obtain ⟨E', hE', st', g', R, hg, B⟩ := h
       obtain ⟨hoi, hil⟩ := dY hob (by simp)
       rw [tL] at hgl
       have W1 := R.wr
       have hobr := W1.ob i _ hoi
       obtain ⟨b, c, el, fr, k1, k2, k3, k4, k5, k6⟩ := hobr
       obtain ⟨v, hv1, hv⟩ := nH k4 hgl
       simp only [VR] at hv
       obtain ⟨base, cap, rfl, _, _, hcap, _⟩ := hv
       obtain rfl : cap = 0 := by simpa using hcap trivial
       have W2 := W1.ghost (base := base) (sz := sz1 + 1) (Nat.succ_pos _)
       have hlen : (ec s.sg i (.cells (jY cs off (.buf s.sg.length))) ++ [O.buf (sz1 + 1) 0 []]).length = s.sg.length + 1 := by simp [fQ]
       have hoff : off < cs.length := by
        rcases Nat.lt_or_ge off cs.length with h' | h'
        . exact h'
        . simp [List.getElem?_eq_none h'] at hgl
       have W3 : aR E' st' (ba g' s.sg.length ⟨none, base, 0, 0, sz1 + 1⟩) (ec s.sg i (.cells (jY cs off (.buf s.sg.length))) ++ [O.buf (sz1 + 1) 0 []]) w := by
        refine W2.step (cP.same (aU.refl w)) ?_ ?_
        . intro j o ho
          rw [hlen]
          by_cases e : j = i
          . subst e
            rw [fQ, List.getElem?_append_left (by simpa using hil), List.getElem?_set_self hil] at ho
            cases ho
            rw [cp (Nat.ne_of_lt hil)]
            refine ⟨b, c, el, fr, k1, k2, k3, iD.2 ⟨by rw [Ec]; exact eD k4, fun q x v hx hv => ?_⟩, k5, k6⟩
            rw [E9] at hx
            split at hx
            . rename_i hq
              obtain ⟨rfl, _⟩ := hq
              cases hx
              rw [hv1] at hv; cases hv
              simp only [VR]
              exact ⟨Nat.lt_succ_self _, by rw [dg]; simp⟩
            . exact qM ((iD.1 k4).2 q x v hx hv)
          . have ho' : (s.sg ++ [O.buf (sz1 + 1) 0 []])[j]? = some o := by
              rw [fQ] at ho
              rcases Nat.lt_or_ge j s.sg.length with hj | hj
              . rw [List.getElem?_append_left (by simpa using hj), List.getElem?_set_ne (Ne.symm e)] at ho
                rw [List.getElem?_append_left hj]; exact ho
              . rw [List.getElem?_append_right (by simpa using hj)] at ho
                rw [List.getElem?_append_right hj]; simpa using ho
            have := W2.ob j o ho'
            rw [List.length_append, List.length_singleton] at this
            exact this
        . intro q r bb hq hr h1 h2
          rw [hlen] at hq hr
          exact W2.inj q r bb (by simpa using hq) (by simpa using hr) h1 h2
       refine ⟨E', hE', st', ba g' s.sg.length ⟨none, base, 0, 0, sz1 + 1⟩, ⟨R.nt, R.df, fun u => ?_, W3⟩, hg, ⟨B.mono, fun j hj hm => ?_, ?_⟩⟩
       . show VR st' _ (lk s.tm u) (ec s.sg i _ ++ [_]).length _
         rw [hlen]
         exact qM (R.tm u)
       . have := B.len
         show ba g' s.sg.length _ j = g0 j
         rw [cp (by omega)]; exact B.bm j hj hm
       . show n ≤ (ec s.sg i _ ++ [_]).length
         rw [hlen]; exact Nat.le_succ_of_le B.len
     . exact h
   . exact h
 | swap i j =>
   simp only [AS.jU]
   split
   . rename_i hij
     simp only [Bool.and_eq_true] at hij
     have hi : i < s.sg.length := Nat.le_of_ble_eq_true hij.1
     have hj : j < s.sg.length := Nat.le_of_ble_eq_true hij.2
     obtain ⟨E', hE', st', g', R, hg, B⟩ := h
     have hlen : (iu (fun k => some (swp i j k)) (swapAt s.sg i j)).length = s.sg.length := by rw [qc]; simp [P5]
     have hf : ∀ a b, (fun k => some (swp i j k)) a = some b → a < s.sg.length → b < s.sg.length ∧ (fun k => g' (swp i j k)) b = g' a := fun a b hab ha => by
      cases hab
      exact ⟨zI hi hj ha, by simp only [zJ]⟩
     have W1 := R.wr
     refine ⟨E', hE', st', fun k => g' (swp i j k), ⟨R.nt, R.df, fun u => ?_, ?_⟩, hg, ⟨B.mono, fun k hk hm => ?_, ?_⟩⟩
     . show VR st' _ (lk (qq _ s.tm) u) (iu _ _).length _
       rw [CQ, hlen]
       exact oU hf (R.tm u)
     . refine W1.step (cP.same (aU.refl w)) ?_ ?_
       . intro k o ho
         rw [qc, List.getElem?_map, P4 hi hj] at ho
         cases hs : s.sg[swp i j k]? with
         | none => rw [hs] at ho; cases ho
         | some o0 =>
           rw [hs] at ho
           cases ho
           show cX E' st' _ (iu _ _).length w (g' (swp i j k)) (o0.bz _)
           rw [hlen]
           have h0 := W1.ob _ _ hs
           exact h0.bz hf (fun b hb => (h0.bQ hb).2)
       . intro q r bb hq hr h1 h2
         have hq : q < s.sg.length := hlen ▸ hq
         have hr : r < s.sg.length := hlen ▸ hr
         have := W1.inj _ _ bb (zI hi hj hq) (zI hi hj hr) h1 h2
         rw [← zJ i j q, this, zJ]
     . have hm : aP k (i :: j :: s.kl) = false := hm
       simp only [aP, Bool.or_eq_false_iff] at hm
       show g' (swp i j k) = g0 k
       rw [show swp i j k = k by simp [swp, hm.1, hm.2.1]]
       exact B.bm k hk hm.2.2
     . show n ≤ (iu _ _).length
       rw [hlen]; exact B.len
   . exact h
 | nw =>
   simp only [AS.jU]
   obtain ⟨E', hE', st', g', R, hg, B⟩ := h
   refine ⟨E', hE', st', ba g' s.sg.length ⟨none, none, 0, 0, 1⟩, ⟨R.nt, R.df, fun u => ?_, R.wr.ghost (Nat.succ_pos _)⟩, hg, ⟨B.mono, fun i hi hm => ?_, by simp; exact Nat.le_succ_of_le B.len⟩⟩
   . show VR st' _ (lk s.tm u) (s.sg ++ [_]).length _
     rw [List.length_append, List.length_singleton]
     exact qM (R.tm u)
   . have := B.len
     show ba g' s.sg.length _ i = g0 i
     rw [cp (by omega)]; exact B.bm i hi hm
 | res =>
   simp only [AS.jU]
   obtain ⟨E', hE', st', g', R, hg, B⟩ := h
   refine ⟨E', hE', st', ba g' s.sg.length ⟨none, none, 0, 0, 0⟩, ⟨R.nt, R.df, fun u => ?_, R.wr.wo⟩, hg, ⟨B.mono, fun i hi hm => ?_, by simp; exact Nat.le_succ_of_le B.len⟩⟩
   . show VR st' _ (lk s.tm u) (s.sg ++ [_]).length _
     rw [List.length_append, List.length_singleton]
     exact qM (R.tm u)
   . have := B.len
     show ba g' s.sg.length _ i = g0 i
     rw [cp (by omega)]; exact B.bm i hi hm
 | bk  i =>
   simp only [AS.jU]
   split
   . rename_i sz pre l hob
     obtain ⟨E', hE', st', g', R, hg, B⟩ := h
     obtain ⟨hoi, hil⟩ := dY hob (by simp)
     obtain ⟨q1, q2, q3, q4, q5, q6, q7⟩ := R.wr.ob i _ hoi
     obtain ⟨st2, hch, hnew, hy⟩ : ∃ st2, cP E' st' st2 w w (fun b => (g' i).blk = some b) ∧ (∀ j b, j < s.sg.length → j ≠ i → (g' j).blk = some b → ∀ o v, st2 b o = some v → st' b o = some v) ∧
        ∀ n v, VR st2 g' (.buf i) n v → VR st2 g' (.list false sz l) n v := by
      rcases q7 with ⟨q7, q8⟩ | ⟨b, c, el, fr, k1, k2, k3, k4, k5, k6, k7, k8⟩
      . refine ⟨st', ⟨rfl, rfl, rfl, Nat.le_refl _, fun _ _ _ => rfl, fun b hb => (by rw [q8] at hb; cases hb), fun _ _ _ h => h, fun _ _ _ h => .inl h, fun b o v _ h => R.wr.stw _ _ _ h⟩, fun _ _ _ _ _ _ _ h => h, fun m v h => ?_⟩
        simp only [VR] at h ⊢
        obtain ⟨_, rfl⟩ := h
        exact ⟨_, _, by rw [q5], by rw [← q5, q5]; exact q6, q4, by simp, .inl (List.eq_nil_of_length_eq_zero (by omega))⟩
      . have hmono : ∀ b' o' v', st' b' o' = some v' → bk st' b c b' o' = some v' := fun b' o' v' h => by
          simp only [bk]
          split
          . rename_i e; subst e; rw [← eF k4]; exact R.wr.stw _ _ _ h
          . exact h
        refine ⟨bk st' b c, ⟨rfl, rfl, rfl, Nat.le_refl _, fun _ _ _ => rfl, fun b' hb' => (R.wr.bQ hil hb').2, hmono, fun b' o' v' h => ?_, fun b' o' v' hb' h => R.wr.stw _ _ _ h⟩, fun j b' hj hne hb' o' v' h => ?_, fun m v h => ?_⟩
        . simp only [bk] at h
          split at h
          . rename_i e; subst e; exact .inr ⟨k3, by rw [eF k4]; exact h⟩
          . exact .inl h
        . simp only [bk] at h
          split at h
          . rename_i e; subst e; exact absurd (R.wr.inj j i b' hj hil hb' k1) hne
          . exact h
        . simp only [VR] at h ⊢
          obtain ⟨_, rfl⟩ := h
          refine ⟨_, _, by rw [q5], q6, q4, by simp, .inr ⟨b, 0, k2, q1, ?_⟩⟩
          exact iC hmono (fun o' v' h => by simp only [bk, if_true]; exact h) k6
     have hlen : (ec (hO i (.list false sz l) (.ptr i) s.sg) i .dead).length = s.sg.length := by rw [fQ, List.length_set, sa]
     have W2 : aR E' st2 g' (ec (hO i (.list false sz l) (.ptr i) s.sg) i .dead) w := by
      refine R.wr.step hch ?_ ?_
      . intro j o ho
        rw [hlen]
        rw [fQ] at ho
        by_cases e : j = i
        . subst e
          rw [List.getElem?_set_self (by rw [sa]; exact hil)] at ho
          cases ho
          exact fun b hb => R.wr.bQ hil hb
        . rw [List.getElem?_set_ne (Ne.symm e), xD] at ho
          cases hs : s.sg[j]? with
          | none => rw [hs] at ho; cases ho
          | some o₀ =>
            rw [hs] at ho; cases ho
            have hjl : j < s.sg.length := by
             rcases Nat.lt_or_ge j s.sg.length with h' | h'
             . exact h'
             . simp [List.getElem?_eq_none h'] at hs
            refine cX.put hy (fun _ _ _ h => h) ((R.wr.ob j o₀ hs).bm (fun b hb => rfl) hch.mono (fun b hb => hnew j b hjl e hb) (fun k hk hkn => ⟨hkn, rfl⟩))
      . intro p q b hp hq
        rw [hlen] at hp hq
        exact R.wr.inj p q b hp hq
     refine ⟨E', hE', st2, g', ⟨R.nt, R.df, fun u => ?_, W2⟩, hg.mono hch.mono, ⟨fun b o v hv => hch.mono _ _ _ (B.mono b o v hv), B.bm, by rw [hlen]; exact B.len⟩⟩
     show VR st2 g' (lk (na i (.list false sz l) (.ptr i) s.tm) u) (ec (hO i (.list false sz l) (.ptr i) s.sg) i .dead).length _
     rw [xc, hlen]
     exact qN hy (fun _ _ _ h => h) (fu hch.mono (fun _ _ h => ⟨h, rfl⟩) (R.tm u))
   . exact h
 | fbx i =>
   simp only [AS.jU]
   split
   . rename_i cs hob
     cases hpu : V.eJ cs with
     | false => exact h
     | true =>
     simp only [cond_true]
     obtain ⟨E', hE', st', g', R, hg, B⟩ := h
     obtain ⟨hoi, hil⟩ := dY hob (by simp)
     obtain ⟨b, c, el, fr, k1, k2, k3, k4, k5, k6⟩ := R.wr.ob i _ hoi
     have hmono : ∀ b' o' v', st' b' o' = some v' → bk st' b c b' o' = some v' := fun b' o' v' h => by
      simp only [bk]
      split
      . rename_i e; subst e; rw [← eF k3]; exact R.wr.stw _ _ _ h
      . exact h
     have hch : cP E' st' (bk st' b c) w w (fun b => (g' i).blk = some b) := ⟨rfl, rfl, rfl, Nat.le_refl _, fun _ _ _ => rfl, fun b' hb' => (R.wr.bQ hil hb').2, hmono, fun b' o' v' h => by
      simp only [bk] at h
      split at h
      . rename_i e; subst e; exact .inr ⟨k2, by rw [eF k3]; exact h⟩
      . exact .inl h, fun b' o' v' hb' h => R.wr.stw _ _ _ h⟩
     have hnew : ∀ j b', j < s.sg.length → j ≠ i → (g' j).blk = some b' → ∀ o' v', bk st' b c b' o' = some v' → st' b' o' = some v' := fun j b' hj hne hb' o' v' h => by
      simp only [bk] at h
      split at h
      . rename_i e; subst e; exact absurd (R.wr.inj j i b' hj hil hb' k1) hne
      . exact h
     have hz : ∀ o n v, VR (bk st' b c) g' (.ptr i o) n v → VR (bk st' b c) g' (.box cs o) n v := fun o n v h => by
      simp only [VR] at h ⊢
      obtain ⟨_, b2, hb2, rfl⟩ := h
      rw [k1] at hb2; cases hb2
      refine ⟨b, 0, c.toList, by rw [Nat.zero_add], jz hmono (fun _ _ h => ⟨h, rfl⟩) (DD k4 hpu), fun j hj => ?_⟩
      simp [bk]
     have hlen : (ec (hO i (.buf i) (.box cs) s.sg) i .dead).length = s.sg.length := by rw [fQ, List.length_set, sa]
     have W2 : aR E' (bk st' b c) g' (ec (hO i (.buf i) (.box cs) s.sg) i .dead) w := by
      refine R.wr.step hch ?_ ?_
      . intro j o ho
        rw [hlen]
        rw [fQ] at ho
        by_cases e : j = i
        . subst e
          rw [List.getElem?_set_self (by rw [sa]; exact hil)] at ho
          cases ho
          exact fun b hb => R.wr.bQ hil hb
        . rw [List.getElem?_set_ne (Ne.symm e), xD] at ho
          cases hs : s.sg[j]? with
          | none => rw [hs] at ho; cases ho
          | some o₀ =>
            rw [hs] at ho; cases ho
            have hjl : j < s.sg.length := by
             rcases Nat.lt_or_ge j s.sg.length with h' | h'
             . exact h'
             . simp [List.getElem?_eq_none h'] at hs
            refine cX.put (fun _ _ h => h) hz ((R.wr.ob j o₀ hs).bm (fun b hb => rfl) hch.mono (fun b hb => hnew j b hjl e hb) (fun k hk hkn => ⟨hkn, rfl⟩))
      . intro p q b hp hq
        rw [hlen] at hp hq
        exact R.wr.inj p q b hp hq
     refine ⟨E', hE', bk st' b c, g', ⟨R.nt, R.df, fun u => ?_, W2⟩, hg.mono hch.mono, ⟨fun b o v hv => hch.mono _ _ _ (B.mono b o v hv), B.bm, by rw [hlen]; exact B.len⟩⟩
     show VR (bk st' b c) g' (lk (na i (.buf i) (.box cs) s.tm) u) (ec (hO i (.buf i) (.box cs) s.sg) i .dead).length _
     rw [xc, hlen]
     exact qN (fun _ _ h => h) hz (fu hch.mono (fun _ _ h => ⟨h, rfl⟩) (R.tm u))
   . exact h
theorem eo.cC {n : Nat} {st0 : St} {g0 : ay} : ∀ (ps : List dR) {s : AS}, eo C E n st0 g0 s a w → eo C E n st0 g0 (s.cC ps) a w
 | [], _, h => h
 | p :: ps, _, h => eo.cC ps (h.jU p)

def pF : Ex → Exit
 | .norm => .normal
 | .exit i => .exit i
 | .goto l => .goto l
 | .ret => .ret
 | .pan v => .panic [{ v := v, recovered := false }]

theorem u0 {c : Operand} {b : Bool} {K : AS → Prop} {n : Nat} {st0 : St} {g0 : ay} (h : ou s c b K) (hc : s.ev C c = .bool b) (hgo : eo C E n st0 g0 s a w) : ∃ s', K s' ∧ eo C E n st0 g0 s' a w := by
 obtain ⟨nt, tm, sg, kl⟩ := s
 cases c with
 | tmp t =>
   obtain ⟨E', hE', st', g', R, hg, B⟩ := hgo
   exact ⟨_, h, E', hE', st', g', R.lit hc, hg, B.mono, B.bm, B.len⟩
 | _ => exact ⟨_, h, hgo⟩

theorem Pr {P : Program} {a : Act} {w : World} {Q : Exit → Act → World → Prop} {c rest : Code} (l : Nat) (I : Nat → Act → World → Prop) (hf : findLabel c l = some rest)
   (first : c.wp P (Exit.jump l (fun a w => ∃ n, I n a w) Q) a w)
   (pass : ∀ n a w, I n a w → rest.wp P (Exit.jump l (fun a' w' => ∃ n', n' < n ∧ I n' a' w') Q) a w) : (Code.scope c).wp P Q a w := by
 refine wp_scope_jumps l (fun a w => ∃ n, I n a w) (fun a w => leastOf (fun n => I n a w)) hf first ?_
 intro a w hI
 refine wp_mono (pass _ a w (leastOf_spec hI).1) ?_
 intro e a' w' hq
 cases e with
 | goto l' =>
   obtain ⟨h1, n', hlt, hI'⟩ := hq
   exact ⟨h1, ⟨n', hI'⟩, Nat.lt_of_le_of_lt ((leastOf_spec ⟨n', hI'⟩).2 n' hI') hlt⟩
 | normal => exact hq
 | exit id => exact hq
 | ret => exact hq
 | panic ch => exact hq
 | outgrown => exact hq
def Sound (C : Ctx) (E : Env) (n : Nat) (st0 : St) (g0 : ay) (c : Code) : Prop := ∀ (s : AS) (a : Act) (w : World) (K : Ex → AS → Prop) (Q : Exit → Act → World → Prop), eo C E n st0 g0 s a w → vc C n c s K →
 (∀ ex s' a' w', K ex s' → eo C E n st0 g0 s' a' w' → Q (pF ex) a' w') → c.wp C.P Q a w
theorem OE {n : Nat} {st0 : St} {g0 : ay} {x b : Code} {l : Nat} (hx : Sound C E n st0 g0 x) (hb : Sound C E n st0 g0 b) : ∀ (s : AS) (a : Act) (w : World) (K : Ex → AS → Prop) (Q : Exit → Act → World → Prop), eo C E n st0 g0 s a w →
   findLabel x l = none → vc C n x s (ng (fun s' => nD n l s' (vc C n b) K) (n8 K)) →
   (∀ ex s' a' w', K ex s' → eo C E n st0 g0 s' a' w' → Q (pF ex) a' w') → (Code.scope (.seq x (.seq (.label l) b))).wp C.P Q a w := by
 intro s a w K Q hgo hf h hQ
 -- where the label is come to for the first time, all that is needed later is told
 have hfind : findLabel (Code.seq x (Code.seq (Code.label l) b)) l = some (Code.seq Code.skip b) := by
  show (match findLabel x l with
   | some rest => some (Code.seq rest (Code.seq (Code.label l) b))
   | none => findLabel (Code.seq (Code.label l) b) l) = _
  rw [hf]
  show (match findLabel (Code.label l) l with
   | some rest => some (Code.seq rest b)
   | none => findLabel b l) = _
  have : findLabel (Code.label l) l = some Code.skip := by simp [findLabel]
  rw [this]
 refine Pr l (fun m a w => ∃ (X : Type) (inv : X → Prop) (I : X → AS) (μ : X → Nat) (y : X), inv y ∧ μ y = m ∧ eo C E n st0 g0 (I y) a w ∧
  (∀ x, inv x → l7 (I x).tm [] → gn (I x).sg → vc C n b (I x) (tO l (fun s' => ∃ (qs : List dR) (x' : X), inv x' ∧ Sub n (s'.cC qs) (I x') ∧ μ x' < μ x) K))) hfind ?_ ?_
 . refine wp_seq (hx s a w _ _ hgo h fun ex s' a' w' hk hgo' => ?_)
   cases ex with
   | norm =>
     have hk : nD n l s' (vc C n b) K := hk
     obtain ⟨X, inv, I, μ, ps, x0, h0, hs, hr⟩ := hk
     have g1 := (hgo'.cC ps).sub hs
     have hw : l7 (I x0).tm [] ∧ gn (I x0).sg := by
      obtain ⟨E', hE', st', g', R, hg, B⟩ := g1
      exact ⟨sR _ _ _ fun t _ => R.tm t, R.wr.wf⟩
     refine wp_seq (wp_label (show (b.wp C.P _) a' w' from ?_))
     refine hb (I x0) a' w' _ _ g1 (hr x0 h0 hw.1 hw.2) fun ex s2 a2 w2 hk hgo2 => ?_
     cases ex with
     | norm => exact hQ .norm _ _ _ hk hgo2
     | exit id => exact hQ (.exit id) _ _ _ hk hgo2
     | ret => exact hQ .ret _ _ _ hk hgo2
     | pan u => exact hQ (.pan u) _ _ _ hk hgo2
     | goto j =>
       simp only [tO] at hk
       split at hk
       . rename_i hj
         obtain ⟨qs, x', hi', h1, h2⟩ := hk
         exact ⟨Nat.eq_of_beq_eq_true hj, μ x', X, inv, I, μ, x', hi', rfl, (hgo2.cC qs).sub h1, hr⟩
       . exact hk.elim
   | exit id => exact hQ (.exit id) _ _ _ hk hgo'
   | ret => exact hQ .ret _ _ _ hk hgo'
   | goto j => exact False.elim hk
   | pan u => exact hQ (.pan u) _ _ _ hk hgo'
 . rintro m a w ⟨X, inv, I, μ, y, hy, hm, hgo, hr⟩
   have hw : l7 (I y).tm [] ∧ gn (I y).sg := by
    obtain ⟨E', hE', st', g', R, hg, B⟩ := hgo
    exact ⟨sR _ _ _ fun t _ => R.tm t, R.wr.wf⟩
   refine wp_seq (wp_skip (show (b.wp C.P _) a w from ?_))
   refine hb (I y) a w _ _ hgo (hr y hy hw.1 hw.2) fun ex s2 a2 w2 hk hgo2 => ?_
   cases ex with
   | norm => exact hQ .norm _ _ _ hk hgo2
   | exit id => exact hQ (.exit id) _ _ _ hk hgo2
   | ret => exact hQ .ret _ _ _ hk hgo2
   | pan u => exact hQ (.pan u) _ _ _ hk hgo2
   | goto j =>
     simp only [tO] at hk
     split at hk
     . rename_i hj
       obtain ⟨qs, x', hi', h1, h2⟩ := hk
       exact ⟨Nat.eq_of_beq_eq_true hj, μ x', by omega, X, inv, I, μ, x', hi', rfl, (hgo2.cC qs).sub h1, hr⟩
     . exact hk.elim

theorem Pl {n : Nat} {c : Code} {K : Ex → AS → Prop} : vc C n (.scope c) s K → (∃ a l b, c = .seq a (.seq (.label l) b) ∧ findLabel a l = none ∧ vc C n a s (ng (fun s' => nD n l s' (vc C n b) K) (n8 K))) ∨ vc C n c s (n8 K) := by
 intro h
 cases c with
 | seq a y =>
   cases y with
   | seq l b =>
     cases l with
     | label l =>
       left
       refine ⟨a, l, b, rfl, ?_⟩
       have h : (match findLabel a l with
        | none => vc C n a s (ng (fun s' => nD n l s' (vc C n b) K) (n8 K))
        | some _ => False) := h
       split at h
       . rename_i hf; exact ⟨hf, h⟩
       . exact h.elim
     | _ => right; exact h
   | _ => right; exact h
 | _ => right; exact h
theorem aR.ds {E : Env} {st : St} {g : ay} {sg : List O} {w : World} (R : aR E st g sg w) (D : List Deferred) : aR { E with ds := D } st g sg w :=
 ⟨R.os, R.tape, R.output, R.size, R.gnew, R.sub, R.stG, R.stw, R.fr, fun i o h => by
  have := R.ob i o h
  cases o <;> exact this, R.inj⟩
theorem aR.undo {E : Env} {D : List Deferred} {st : St} {g : ay} {sg : List O} {w : World} (R : aR { E with ds := D } st g sg w) : aR E st g sg w :=
 ⟨R.os, R.tape, R.output, R.size, R.gnew, R.sub, R.stG, R.stw, R.fr, fun i o h => by
  have := R.ob i o h
  cases o <;> exact this, R.inj⟩
theorem aR.env {E1 E2 : Env} {st : St} {g : ay} {sg : List O} {w w' : World} (R : aR E1 st g sg w) (hos : w'.os = E2.w0.os) (htp : w'.tape = E2.w0.tape) (hou : w'.output = E2.w0.output) (hsz : E2.w0.heap.size ≤ w'.heap.size)
   (hgn : ∀ b, E2.w0.heap.size ≤ b → E2.G b) (hsub : ∀ b o v, E2.st0 b o = some v → st b o = some v) (hstG : ∀ b o v, st b o = some v → E2.st0 b o = some v ∨ E2.G b)
   (hG : ∀ i b, i < sg.length → (g i).blk = some b → E2.G b) (hheap : ∀ b, (∃ i, i < sg.length ∧ (g i).blk = some b) ∨ (∃ o v, st b o = some v) → w'.heap[b]? = w.heap[b]?)
   (hle : w.heap.size ≤ w'.heap.size) (hfr : ∀ b, ¬ E2.G b → w'.heap[b]? = E2.w0.heap[b]?) : aR E2 st g sg w' where
 os := hos
 tape := htp
 output := hou
 size := hsz
 gnew := hgn
 sub := hsub
 stG := hstG
 stw := fun b o v h => by rw [nO (hheap b (.inr ⟨o, v, h⟩))]; exact R.stw b o v h
 fr := hfr
 ob := fun i o ho => by
  have h := R.ob i o ho
  have hi : i < sg.length := by
   rcases Nat.lt_or_ge i sg.length with q | q
   . exact q
   . rw [List.getElem?_eq_none q] at ho; cases ho
  cases o with
  | dead => exact fun b hb => ⟨Nat.lt_of_lt_of_le (h b hb).1 hle, hG i b hi hb⟩
  | cells cs =>
    obtain ⟨b, c, el, fr, h1, h2, h3, h4⟩ := h
    exact ⟨b, c, el, fr, h1, hG i b hi h1, (hheap b (.inl ⟨i, hi, h1⟩)).trans h3, h4⟩
  | buf sz pre l =>
    obtain ⟨h1, h2, h3, h4, h5, h6, h7⟩ := h
    refine ⟨h1, h2, h3, h4, h5, h6, ?_⟩
    rcases h7 with h7 | ⟨b, c, el, fr, k1, k2, k3, k4, k5⟩
    . exact .inl h7
    . exact .inr ⟨b, c, el, fr, k1, k2, hG i b hi k1, (hheap b (.inl ⟨i, hi, k1⟩)).trans k4, k5⟩
  | siter ss pos =>
    obtain ⟨h1, b, h2, h3, h4⟩ := h
    exact ⟨h1, b, h2, hG i b hi h2, (hheap b (.inl ⟨i, hi, h2⟩)).trans h4⟩
  | map ag sh es bs ck =>
    obtain ⟨b, arr, h1, h2, h3, h4⟩ := h
    exact ⟨b, arr, h1, hG i b hi h1, (hheap b (.inl ⟨i, hi, h1⟩)).trans h3, h4⟩
  | miter m bs ck l x =>
    obtain ⟨b, b', seen, h1, h2, h3, h4⟩ := h
    exact ⟨b, b', seen, h1, hG i b hi h1, (hheap b (.inl ⟨i, hi, h1⟩)).trans h3, h4⟩
 inj := R.inj
theorem aR.sL {E1 : Env} {st : St} {g : ay} {sg : List O} {w : World} (R : aR E1 st g sg w) {b o : Nat} {v : Value} (h : st b o = some v) : ∃ c el fr, w.heap[b]? = some (.cells c el fr) := by
 have h := R.stw b o v h
 simp only [World.cell?] at h
 split at h
 . rename_i c el fr hh
   exact ⟨_, _, _, hh⟩
 . cases h
theorem fS.refl {E0 : Env} (hg : ∀ b, E0.w0.heap.size ≤ b → E0.G b) : fS E0 E0 :=
 ⟨fun _ h => h, fun _ _ => rfl, rfl, rfl, rfl, Nat.le_refl _, rfl, hg, [], rfl, List.nodup_nil, fun _ h => by cases h⟩
theorem fS.whole {E0 E1 : Env} (h : fS E0 E1) {st : St} {g : ay} {sg : List O} {w : World} (R : aR E1 st g sg w) : aR E0 st g sg w :=
 R.env (R.os.trans h.os) (R.tape.trans h.tape) (R.output.trans h.output) (Nat.le_trans h.size R.size) h.gnew (by rw [← h.st0]; exact R.sub)
  (fun b o v k => by rw [← h.st0]; exact (R.stG b o v k).imp id (h.G b)) (fun i b hi hb => h.G b (R.bQ hi hb).2) (fun _ _ => rfl) (Nat.le_refl _) (fun b hb => (R.fr b fun k => hb (h.G b k)).trans (h.w0 b hb))
theorem En {F : Fence} (hF : WF F) (G : cH C) {n : Nat} {st0 : St} {g0 : ay} (hY : ∀ E', fS E E' → iE C E' n st0 g0) : ∀ (c : Code), gb c = true → ∀ (s : AS) (a : Act) (w : World) (K : Ex → AS → Prop) (Q : Exit → Act → World → Prop), eo C E n st0 g0 s a w → vc C n c s K →
   (∀ ex s' a' w', K ex s' → eo C E n st0 g0 s' a' w' → Q (pF ex) a' w') → c.wpIn F 0 C.P Q a w := by
 intro c
 induction c with
 | skip => intro _ s a w K Q hgo h hQ; exact wpIn_skip (hQ .norm _ _ _ h hgo)
 | label l => intro _ s a w K Q hgo h hQ; exact wpIn_label (hQ .norm _ _ _ h hgo)
 | region id ops drawn =>
   intro hs0 s0 a w K Q hgo0 h hQ
   have hgo := hgo0.cC (C.hint id)
   generalize hs : s0.cC (C.hint id) = s at hgo
   obtain ⟨E', hE', st', g', R, hg, B⟩ := hgo
   have hK : ∀ s' a' w', K .norm s' → Go C E' st' g' s s' a' w' → Q .normal a' w' := fun s' a' w' hk hgo => by
    obtain ⟨st2, g2, R2, hg2, A⟩ := hgo
    exact hQ .norm _ _ _ hk ⟨E', hE', st2, g2, R2, hg2, B.nJ A⟩
   have hX : ∀ u s' a' w', K (.pan u) s' → Go C E' st' g' s s' a' w' → Q (.panic [{ v := u, recovered := false }]) a' w' := fun u s' a' w' hk hgo => by
    obtain ⟨st2, g2, R2, hg2, A⟩ := hgo
    exact hQ (.pan u) _ _ _ hk ⟨E', hE', st2, g2, R2, hg2, B.nJ A⟩
   cases drawn with
   | false =>
     simp only [vc, xA, hs] at h
     exact DU hF (hY E' hE') R hg G B h hK hX
   | true => simp [gb] at hs0
 | seq x y ihx ihy =>
   intro hs s a w K Q hgo h hQ
   simp only [gb, Bool.and_eq_true] at hs
   refine wpIn_seq (ihx hs.1 s a w _ _ hgo h fun ex s' a' w' hk hgo' => ?_)
   cases ex with
   | norm => exact ihy hs.2 s' a' w' K Q hgo' hk hQ
   | exit id => exact hQ (.exit id) _ _ _ hk hgo'
   | ret => exact hQ .ret _ _ _ hk hgo'
   | goto j => exact hQ (.goto j) _ _ _ hk hgo'
   | pan u => exact hQ (.pan u) _ _ _ hk hgo'
 | cond c x y ihx ihy =>
   intro hs s a w K Q hgo h hQ
   simp only [gb, Bool.and_eq_true] at hs
   simp only [vc] at h
   split at h
   . rename_i b hb
     have hgo' := hgo
     obtain ⟨E', hE', st', g', R, hg, B⟩ := hgo'
     have hv := aZ (C := C) R hg c
     rw [hb] at hv
     simp only [VR] at hv
     cases b with
     | true =>
       have h : ou s c true fun s => vc C n x s K := h
       obtain ⟨s', h1, h2⟩ := u0 h hb hgo
       exact wpIn_cond_true hv (ihx hs.1 s' a w K Q h2 h1 hQ)
     | false =>
       have h : ou s c false fun s => vc C n y s K := h
       obtain ⟨s', h1, h2⟩ := u0 h hb hgo
       exact wpIn_cond_false hv (ihy hs.2 s' a w K Q h2 h1 hQ)
   . exact h.elim
 | block id c ih =>
   intro hs s a w K Q hgo h hQ
   refine wpIn_block (ih hs s a w _ _ hgo h fun ex s' a' w' hk hgo' => ?_)
   cases ex with
   | norm => exact hQ .norm _ _ _ hk hgo'
   | exit j =>
     simp only [pF, Exit.inBlock]
     by_cases hj : j = id
     . subst hj
       rw [if_pos rfl]
       simp only [qV, show Nat.beq j j = true from Nat.beq_refl j] at hk
       exact hQ .norm _ _ _ hk hgo'
     . rw [if_neg hj]
       have : Nat.beq j id = false := by
        cases hb : Nat.beq j id with
        | false => rfl
        | true => exact absurd (Nat.eq_of_beq_eq_true hb) hj
       simp only [qV, this] at hk
       exact hQ (.exit j) _ _ _ hk hgo'
   | ret => exact hQ .ret _ _ _ hk hgo'
   | goto j => exact hQ (.goto j) _ _ _ hk hgo'
   | pan u => exact hQ (.pan u) _ _ _ hk hgo'
 | loop c ih =>
   intro hs s a w K Q hgo h hQ
   simp only [gb] at hs
   have h : aT n s (vc C n c) K := h
   obtain ⟨X, inv, I, μ, ps, x0, h0, hs0, hr⟩ := h
   refine wpIn_loop_ghost (fun m a w => ∃ x, inv x ∧ μ x = m ∧ eo C E n st0 g0 (I x) a w) (μ x0) ⟨x0, h0, rfl, (hgo.cC ps).sub hs0⟩ fun m a w ⟨x, hi, hm, hgo⟩ => ?_
   have hw : l7 (I x).tm [] ∧ gn (I x).sg := by
    obtain ⟨E', hE', st', g', R, hg, B⟩ := hgo
    exact ⟨sR _ _ _ fun t _ => R.tm t, R.wr.wf⟩
   refine ih hs (I x) a w _ _ hgo (hr x hi hw.1 hw.2) fun ex s' a' w' hk hgo' => ?_
   cases ex with
   | norm =>
     obtain ⟨qs, x', hi', h1, h2⟩ := hk
     exact ⟨μ x', by omega, x', hi', rfl, (hgo'.cC qs).sub h1⟩
   | exit id => exact hQ (.exit id) _ _ _ hk hgo'
   | ret => exact hQ .ret _ _ _ hk hgo'
   | goto j => exact hQ (.goto j) _ _ _ hk hgo'
   | pan u => exact hQ (.pan u) _ _ _ hk hgo'
 | exit id => intro _ s a w K Q hgo h hQ; exact wpIn_exit (hQ (.exit id) _ _ _ h hgo)
 | ret => intro _ s a w K Q hgo h hQ; exact wpIn_ret (hQ .ret _ _ _ h hgo)
 | goto l => intro _ s a w K Q hgo h hQ; exact wpIn_goto (hQ (.goto l) _ _ _ h hgo)
 | _ => intro hs; simp [gb] at hs
theorem ES {tm : List (Nat × V)} {kl : List Nat} : ∀ {l : List (Nat × V)} (t : Nat), qF tm kl l → lk l t = .undef ∨ (lk tm t = lk l t ∧ (lk l t).kill kl = lk l t)
 | [], _, _ => .inl rfl
 | (k, x) :: r, t, h => by
   simp only [lk]
   cases hb : Nat.beq k t with
   | true =>
     have := Nat.eq_of_beq_eq_true hb
     subst this
     simp only [cond_true]
     exact .inr h.1
   | false => simp only [cond_false]; exact ES t h.2
theorem ET {tm l : List (Nat × V)} {kl : List Nat} {st st2 : St} {g g2 : ay} {n n2 : Nat} {f : Nat → Value} (h : qF tm kl l) (hR : ∀ t, VR st g (lk tm t) n (f t)) (hm : ∀ b o v, st b o = some v → st2 b o = some v)
   (hk : ∀ i, i < n → aP i kl = false → g2 i = g i) (hn : n ≤ n2) (t : Nat) : VR st2 g2 (lk l t) n2 (f t) := by
 rcases ES t h with q | ⟨q1, q2⟩
 . rw [q]; simp [VR]
 . have h0 := hR t
   rw [q1] at h0
   rw [← q2]
   exact fu hm (fun i hi hin => ⟨Nat.lt_of_lt_of_le hin hn, hk i hin (lB hi).1⟩) (qL h0)
theorem CF {n : Nat} {ks : List Nat} : ∀ {kl : List Nat}, tX n ks kl = true → ∀ i, i < n → aP i ks = false → aP i kl = false
 | [], _, _, _, _ => rfl
 | k :: kl, h, i, hi, hm => by
   simp only [tX, Bool.and_eq_true, Bool.or_eq_true] at h
   simp only [aP, Bool.or_eq_false_iff]
   refine ⟨?_, CF h.2 i hi hm⟩
   cases hb : Nat.beq i k with
   | false => rfl
   | true =>
     have := Nat.eq_of_beq_eq_true hb
     subst this
     rcases h.1 with q | q
     . rw [q] at hm; cases hm
     . have := Nat.le_of_ble_eq_true q; omega
theorem As {st : St} {g : ay} {n : Nat} : ∀ (ps : List Nat) (xs : List V) (vs : List Value) (tm : List (Nat × V)) (a : Array Value), aJ st g xs n vs → la ps a.size = true → (∀ t, VR st g (lk tm t) n (a.getD t undef)) →
   ((ps.zip vs).foldl (fun (tmps : Array Value) (p : Nat × Value) => tmps.setIfInBounds p.1 p.2) a).size = a.size ∧ ∀ t, VR st g (lk (p0 ps xs tm) t) n (((ps.zip vs).foldl (fun (tmps : Array Value) (p : Nat × Value) => tmps.setIfInBounds p.1 p.2) a).getD t undef)
 | [], xs, vs, tm, a, _, _, h => ⟨rfl, by cases xs <;> exact h⟩
 | p :: ps, [], vs, tm, a, hv, _, h => by
   simp only [aJ] at hv
   subst hv
   exact ⟨rfl, h⟩
 | p :: ps, x :: xs, vs, tm, a, hv, hp, h => by
   simp only [aJ] at hv
   obtain ⟨v, vs', rfl, hv0, hv⟩ := hv
   simp only [la, Bool.and_eq_true] at hp
   have hp1 : p < a.size := Nat.le_of_ble_eq_true hp.1
   have h2 : ∀ t, VR st g (lk ((p, x) :: tm) t) n ((a.setIfInBounds p v).getD t undef) := fun t => by
    simp only [lk]
    cases hb : Nat.beq p t with
    | true =>
      have := Nat.eq_of_beq_eq_true hb
      subst this
      simp only [cond_true]
      rw [show (a.setIfInBounds p v).getD p undef = v by simp [hp1]]
      exact hv0
    | false =>
      simp only [cond_false]
      have hne : p ≠ t := fun e => by subst e; rw [show Nat.beq p p = true from Nat.beq_refl p] at hb; cases hb
      rw [show (a.setIfInBounds p v).getD t undef = a.getD t undef by simp [hne]]
      exact h t
   have := As ps xs vs' ((p, x) :: tm) (a.setIfInBounds p v) hv (by rw [Array.size_setIfInBounds]; exact hp.2) h2
   exact ⟨this.1.trans (Array.size_setIfInBounds ..), this.2⟩
theorem NH (G : cH C) (hyd : C.yd = fun _ _ _ _ => none) {E1 : Env} {st0 : St} {g0 : ay} {s1 : AS} {a : Act} {ps : Array Tmp} {assign body : Code} {tmI : List (Nat × V)} {Y : YT} {fn : FuncId} {L D : Nat} (hds : E1.ds = [])
   (hnt : a.tmps.size = s1.nt) (hp : la ps.toList s1.nt = true) (hsa : gb assign = true) (hsb : gb body = true) (hR : ∀ t, VR st0 g0 (lk s1.tm t) s1.sg.length (a.tmps.getD t undef))
   (hL : ¬ E1.G L) (hLh : E1.w0.heap[L]? = some (.loop { state := .ready, pending := none, fn, tmps := a.tmps, params := ps, assign, body, defers := D }))
   (hround : ∀ args (s' : AS) pre y sg' ks', Y args s'.sg s'.kl = some (pre, y, sg', ks') → pre → V.ee args → gn s'.sg → ps.toList.length = args.length ∧ y = .bool true ∧ qF s1.tm s'.kl tmI ∧
    vc C s'.sg.length assign ⟨s1.nt, p0 ps.toList args tmI, s'.sg, []⟩ (fun ex s1 => ex = .norm ∧ vc C s'.sg.length body s1 (fun ex s2 => ex = .norm ∧ Aa s'.sg.length sg' ks' s2))) :
   ∀ E', fS E1 E' → vI C E' s1.sg.length st0 g0 L Y := by
 intro E' hE' args s' pre x sg' ks' hy hpre st g w vs W hg hv B
 have hnG : ¬ E'.G L := fun q => hL (hE'.G L q)
 obtain ⟨hlen0, rfl, htI, hA⟩ := hround _ _ _ _ _ _ hy hpre (oW hv) W.wf
 have hvl := eD hv
 have hl3 : w.heap[L]? = some (.loop { state := .ready, pending := none, fn, tmps := a.tmps, params := ps, assign, body, defers := D }) := (W.fr L hnG).trans ((hE'.w0 L hL).trans hLh)
 have hlt : L < w.heap.size := (Array.getElem?_eq_some_iff.1 hl3).1
 have hlt0 : L < E'.w0.heap.size := (Array.getElem?_eq_some_iff.1 ((hE'.w0 L hL).trans hLh)).1
 have hst : ∀ {E2 : Env} {st2 : St} {g2 : ay} {sg2 : List O} {w2 : World} (_ : aR E2 st2 g2 sg2 w2) (r : Loop), w2.heap[L]? = some (.loop r) → ∀ b o v, st2 b o = some v → b ≠ L := fun R2 r hr b o v h e => by
  subst e
  obtain ⟨c, el, fr, hc⟩ := R2.sL h
  rw [hr] at hc; cases hc
 refine ⟨fn, _, assign, body, run_yield hl3 (by show vs.toArray.size = ps.size; rw [List.size_toArray, ← hvl, ← hlen0, Array.length_toList]), roundIn_of_wpIn (F := Fence.wide) trivial ?_⟩
 have htm : ∀ f : Array Value → Tmp × Value → Array Value, (ps.zip vs.toArray).foldl f a.tmps = (ps.toList.zip vs).foldl f a.tmps := fun f => by rw [← Array.foldl_toList, Array.toList_zip]
 have hbo := As (st := st) (g := g) (n := s'.sg.length) ps.toList args vs tmI a.tmps hv (by rw [hnt]; exact hp) (fun t => ET htI hR B.mono B.bm B.len t)
 obtain ⟨tm2, htm2⟩ : ∃ t, t = (ps.toList.zip vs).foldl (fun tmps (t, a) => tmps.setIfInBounds t a) a.tmps := ⟨_, rfl⟩
 rw [← htm2] at hbo
 have Ra : Rel { E' with ds := [] } st g ⟨s1.nt, p0 ps.toList args tmI, s'.sg, []⟩ { tmps := tm2, defers := [] } w := ⟨by show tm2.size = s1.nt; rw [hbo.1, hnt], rfl, hbo.2, W.ds []⟩
 have hgE : ∀ E2 : Env, (∀ b, E2.w0.heap.size ≤ b → E2.G b) → fS E2 E2 := fun E2 h => fS.refl h
 show assign.wpIn _ _ _ _ { tmps := ((ps.zip vs.toArray).foldl (fun tmps (t, a) => tmps.setIfInBounds t a) a.tmps), defers := [] } w
 rw [htm, ← htm2]
 refine En (F := Fence.wide.inRound L) (E := { E' with ds := [] }) (.inr ⟨L, rfl⟩) G (fun _ _ => iE.none hyd) assign hsa ⟨s1.nt, p0 ps.toList args tmI, s'.sg, []⟩ { tmps := tm2, defers := [] } w _ _ ⟨_, fS.refl W.gnew, st, g, Ra, hg, ⟨fun _ _ _ h => h, fun _ _ _ => rfl, Nat.le_refl _⟩⟩ hA fun ex sA aA wA hk hgo => ?_
 obtain ⟨rfl, hB⟩ := hk
 obtain ⟨Ea, hEa, stA, gA, RA, hgA, BA⟩ := hgo
 have WA : aR E' stA gA sA.sg wA := (hEa.whole RA.wr).undo
 -- nothing was set aside
 have hlA : wA.heap[L]? = some (.loop { state := .ready, pending := none, fn, tmps := a.tmps, params := ps, assign, body, defers := D }) := (WA.fr L hnG).trans ((hE'.w0 L hL).trans hLh)
 have hltA : L < wA.heap.size := (Array.getElem?_eq_some_iff.1 hlA).1
 refine ⟨_, run_beginRound hlA rfl, ?_⟩
 obtain ⟨W2, hW2⟩ : ∃ W2, W2 = wA.putObj L (.loop { state := .busy, pending := none, fn, tmps := a.tmps, params := ps, assign, body, defers := D }) := ⟨_, rfl⟩
 show body.wpIn _ _ _ _ aA (wA.putObj L (.loop { state := .busy, pending := none, fn, tmps := a.tmps, params := ps, assign, body, defers := D }))
 rw [← hW2]
 have hother : ∀ b, b ≠ L → W2.heap[b]? = wA.heap[b]? := fun b hb => by rw [hW2]; exact World.putObj_heap_other hb
 have hsize : W2.heap.size = wA.heap.size := by rw [hW2]; exact World.putObj_size
 obtain ⟨Er, hEr⟩ : ∃ Er : Env, Er = ⟨E'.G, E'.w0.putObj L (.loop { state := .busy, pending := none, fn, tmps := a.tmps, params := ps, assign, body, defers := D }), E'.st0, aA.defers⟩ := ⟨_, rfl⟩
 have WB : aR Er stA gA sA.sg W2 := by
  subst hEr
  refine WA.env ?_ ?_ ?_ ?_ ?_ WA.sub WA.stG (fun i b hi hb => (WA.bQ hi hb).2) (fun b hb => hother b fun e => ?_) (by rw [hsize]; exact Nat.le_refl _) (fun b hb => ?_)
  . rw [hW2]; exact WA.os
  . rw [hW2]; exact WA.tape
  . rw [hW2]; exact WA.output
  . rw [hsize, World.putObj_size]; exact WA.size
  . intro b hb; rw [World.putObj_size] at hb; exact WA.gnew b hb
  . subst e
    rcases hb with ⟨i, hi, hb⟩ | ⟨o, v, hv⟩
    . exact hnG (WA.bQ hi hb).2
    . exact hst WA _ hlA _ _ _ hv rfl
  . by_cases e : b = L
    . subst e
      rw [hW2, World.putObj_heap_same hltA, World.putObj_heap_same hlt0]
    . rw [hother b e, World.putObj_heap_other e]; exact WA.fr b hb
 have RB : Rel Er stA gA sA aA W2 := ⟨RA.nt, by rw [hEr], RA.tm, WB⟩
 have hErL : ¬ Er.G L := by rw [hEr]; exact hnG
 have hErw : Er.w0.heap[L]? = some (.loop { state := .busy, pending := none, fn, tmps := a.tmps, params := ps, assign, body, defers := D }) := by rw [hEr]; exact World.putObj_heap_same hlt0
 refine En (F := Fence.wide.inRound L) (E := Er) (.inr ⟨L, rfl⟩) G (fun _ _ => iE.none hyd) body hsb sA aA W2 _ _ ⟨_, fS.refl WB.gnew, stA, gA, RB, hgA, BA⟩ hB fun ex sB aB wB hk hgo => ?_
 obtain ⟨rfl, pz, hsub, hkl, hlen⟩ := hk
 replace hgo := hgo.cC pz
 generalize sB.cC pz = sB at hgo hsub hkl
 obtain ⟨Eb, hEb, stB, gB, RB', hgB, BB⟩ := hgo
 have WC : aR Er stB gB sB.sg wB := hEb.whole RB'.wr
 have hlB : wB.heap[L]? = some (.loop { state := .busy, pending := none, fn, tmps := a.tmps, params := ps, assign, body, defers := D }) := (WC.fr L hErL).trans hErw
 have hltB : L < wB.heap.size := (Array.getElem?_eq_some_iff.1 hlB).1
 refine ⟨_, _, run_endRound none hlB, .bool true, stB, gB, rfl, ?_, by simp [VR], ⟨BB.mono, fun i hi hm => BB.bm i hi (CF hkl i hi hm), hlen⟩⟩
 have WC' := WC.zG hsub
 have hE'L : E'.w0.heap[L]? = some (.loop { state := .ready, pending := none, fn, tmps := a.tmps, params := ps, assign, body, defers := D }) := (hE'.w0 L hL).trans hLh
 subst hEr
 refine WC'.env (E2 := E') WC.os WC.tape WC.output ?_ W.gnew WC.sub WC.stG (fun i b hi hb => (WC'.bQ hi hb).2) (fun b hb => World.putObj_heap_other fun e => ?_) (by rw [World.putObj_size]; exact Nat.le_refl _) (fun b hb => ?_)
 . rw [World.putObj_size]; have := WC.size; rw [World.putObj_size] at this; exact this
 . subst e
   rcases hb with ⟨i, hi, hb⟩ | ⟨o, v, hv⟩
   . exact hnG (WC'.bQ hi hb).2
   . exact hst WC' _ hlB _ _ _ hv rfl
 . by_cases e : b = L
   . subst e
     rw [World.putObj_heap_same hltB, hE'L]
     rfl
   . rw [World.putObj_heap_other e]
     have := WC.fr b hb
     rw [World.putObj_heap_other e] at this
     exact this
theorem Nv (G : cH C) {n : Nat} {st0 : St} {g0 : ay} {gx : Operand} {ps : Array Tmp} {assign body : Code} (hsa : gb assign = true) (hsb : gb body = true) {s : AS} {a : Act} {w : World} {K : Ex → AS → Prop} {Q : Exit → Act → World → Prop}
    (hgo : eo C E n st0 g0 s a w) (h : sT C s gx ps (fun m => vc C m assign) (fun m => vc C m body) K) (hQ : ∀ ex s' a' w', K ex s' → eo C E n st0 g0 s' a' w' → Q (pF ex) a' w') : (Code.rangeFunc gx ps assign body).wp C.P Q a w := by
  obtain ⟨ps0, gf, lb, Y, tmI, tmE, r, ks, hyd, hp, hgv, hseq, hround, htE, hK⟩ := h
  have hnt0 : a.tmps.size = s.nt := by obtain ⟨_, _, _, _, R, _⟩ := hgo; exact R.nt
  replace hgo := hgo.cC ps0
  generalize s.cC ps0 = s1 at *
  obtain ⟨E', hE', st', g', R, hg, B⟩ := hgo
  have hnt : s1.nt = s.nt := R.nt.symm.trans hnt0
  have hv := aZ (C := C) R hg gx
  rw [hgv] at hv
  simp only [VR, aJ] at hv
  obtain ⟨fa, cb, hev, hfa, hcb⟩ := hv
  have hfa : fa = #[] := by apply Array.ext'; simpa using hfa
  subst hfa
  have hev : a.eval gx = .func (.func gf) #[] cb := hev
  refine wpIn_wide.1 (wpIn_rangeFunc (F := Fence.wide) (n := 0) fun fn _ => ?_)
  obtain ⟨rec, hrec⟩ : ∃ rec : LoopState → Loop, rec = fun stt => { state := stt, pending := none, fn, tmps := a.tmps, params := ps, assign, body, defers := w.heap.size } := ⟨_, rfl⟩
  obtain ⟨W1, hW1⟩ : ∃ W1, (w.alloc (.deferred (some []))).alloc (.loop (rec .ready)) = W1 := ⟨_, rfl⟩
  have hs1 : W1.heap.size = w.heap.size + 2 := by rw [← hW1]; simp
  have hL1 : W1.heap[w.heap.size + 1]? = some (.loop (rec .ready)) := by
   rw [← hW1]; have := World.alloc_heap_new (w.alloc (.deferred (some []))) (.loop (rec .ready)); rwa [World.size_alloc] at this
  have hD1 : W1.heap[w.heap.size]? = some (.deferred (some [])) := by
   rw [← hW1]
   show ((w.heap.push _).push _)[w.heap.size]? = _
   rw [Array.getElem?_push_lt (by simp)]
   simp
  have hold : ∀ b, b < w.heap.size → W1.heap[b]? = w.heap[b]? := fun b hb => by
   rw [← hW1]
   show ((w.heap.push _).push _)[b]? = _
   rw [Array.getElem?_push_lt (by simp; omega), Array.getElem_push_lt hb, Array.getElem?_eq_getElem hb]
  have hro : W1.os = w.os ∧ W1.tape = w.tape ∧ W1.output = w.output := by rw [← hW1]; exact ⟨rfl, rfl, rfl⟩
  obtain ⟨E1, hE1⟩ : ∃ E1 : Env, E1 = ⟨fun b => E'.G b ∧ b ≠ w.heap.size ∧ b ≠ w.heap.size + 1, W1, E'.st0, []⟩ := ⟨_, rfl⟩
  have hstlt : ∀ b o v, st' b o = some v → b < w.heap.size := fun b o v h => by
   obtain ⟨c, el, fr, hc⟩ := R.wr.sL h
   exact (Array.getElem?_eq_some_iff.1 hc).1
  have WR1 : aR E1 st' g' s1.sg W1 := by
   subst hE1
   refine R.wr.env rfl rfl rfl (Nat.le_refl _) (fun b hb => ?_) R.wr.sub (fun b o v h => ?_) (fun i b hi hb => ?_) (fun b hb => ?_) (by omega) (fun _ _ => rfl)
   . have hb : W1.heap.size ≤ b := hb
     exact ⟨R.wr.gnew b (by have := R.wr.size; omega), by omega, by omega⟩
   . have := hstlt b o v h
     exact (R.wr.stG b o v h).imp id fun q => ⟨q, by omega, by omega⟩
   . have := R.wr.bQ hi hb
     exact ⟨this.2, by omega, by omega⟩
   . rcases hb with ⟨i, hi, hb⟩ | ⟨o, v, hv⟩
     . exact hold b (R.wr.bQ hi hb).1
     . exact hold b (hstlt b o v hv)
  have hnL : ¬ E1.G (w.heap.size + 1) := by rw [hE1]; exact fun q => q.2.2 rfl
  have hE1w : E1.w0 = W1 := by rw [hE1]
  have hE1d : E1.ds = [] := by rw [hE1]
  have hys := NH G hyd (E1 := E1) (st0 := st') (g0 := g') (s1 := s1) (a := a) (ps := ps) (assign := assign) (body := body) (tmI := tmI) (Y := Y) (fn := fn) (L := w.heap.size + 1) (D := w.heap.size) hE1d R.nt (by rw [hnt]; exact hp) hsa hsb R.tm hnL (by rw [hE1w, hL1, hrec])
   (fun args s' pre y sg' ks' h1 h2 h3 h4 => by rw [hnt]; exact hround args s' pre y sg' ks' h1 h2 h3 h4)
  have eg : ∀ args w, (callFunc gf args).run C.P w = .ok (.enter gf args) w := fun args w => xK hseq.1 args w
  refine ⟨w.heap.size + 1, [{ target := .collected w.heap.size, args := #[] }], W1, { target := .fn (.func gf) cb, args := #[.func (.yield (w.heap.size + 1)) #[] #[]] }, W1, gf,
   #[.func (.yield (w.heap.size + 1)) #[] #[]] ++ cb, W1, ?_, ?_, ?_, ?_, (fun q => by simp [Fence.wide] at q), callsIn_wide.2 ?_⟩
  . rw [← hW1, hrec]; exact run_enterLoop_outer _ _ _ _ _
  . simp only [resolve, hev]
    simp [go_sem]
  . intro f' _; trivial
  . simp [invoke, go_sem, eg]
  . have hcall := hseq.2 E1 st' g' W1 (w.heap.size + 1) cb.toList WR1 hg hE1d hcb hys
    have ecb : (Value.func (.yield (w.heap.size + 1)) #[] #[] :: cb.toList).toArray = #[.func (.yield (w.heap.size + 1)) #[] #[]] ++ cb := by apply Array.ext'; simp
    rw [ecb] at hcall
    refine Calls.mono hcall ?_
    rintro e w2 ⟨v, st2, g2, rfl, W2, hm2, hl2, hk2⟩
    have hL2 : w2.heap[w.heap.size + 1]? = some (.loop (rec .ready)) := by rw [W2.fr _ hnL, hE1w, hL1]
    have hltL : w.heap.size + 1 < w2.heap.size := (Array.getElem?_eq_some_iff.1 hL2).1
    refine ⟨none, _, by have := run_endLoop (P := C.P) hL2 (by rw [hrec]; simp); rw [hrec] at this; exact this, ?_⟩
    have hn : n ≤ s1.sg.length := B.len
    have hE1b : ∀ b, E1.G b → E'.G b ∧ b ≠ w.heap.size ∧ b ≠ w.heap.size + 1 := fun b h => by rw [hE1] at h; exact h
    have hE1s : E1.st0 = E'.st0 := by rw [hE1]
    have hother : ∀ b (o : Obj), b ≠ w.heap.size + 1 → (w2.putObj (w.heap.size + 1) o).heap[b]? = w2.heap[b]? := fun b o hb => World.putObj_heap_other hb
    obtain ⟨exh, hexh⟩ : ∃ exh : Obj, exh = .loop { state := .exhausted, pending := none, fn, tmps := a.tmps, params := ps, assign, body, defers := w.heap.size } := ⟨_, rfl⟩
    obtain ⟨E2, hE2⟩ : ∃ E2 : Env, E2 = ⟨E1.G, W1.putObj (w.heap.size + 1) exh, E'.st0, { target := .collected w.heap.size, args := #[] } :: a.defers⟩ := ⟨_, rfl⟩
    have hsz2 : W1.heap.size ≤ w2.heap.size := by have := W2.size; rw [hE1w] at this; exact this
    have W4 : aR E2 st2 g2 r (w2.putObj (w.heap.size + 1) exh) := by
     subst hE2
     refine W2.env ?_ ?_ ?_ ?_ ?_ ?_ ?_ (fun i b hi hb => (W2.bQ hi hb).2) (fun b hb => hother b _ fun e => ?_) (by rw [World.putObj_size]; exact Nat.le_refl _) (fun b hb => ?_)
     . have := W2.os; rw [hE1w] at this; exact this
     . have := W2.tape; rw [hE1w] at this; exact this
     . have := W2.output; rw [hE1w] at this; exact this
     . rw [World.putObj_size, World.putObj_size]; exact hsz2
     . intro b hb; rw [World.putObj_size] at hb; exact W2.gnew b (by rw [hE1w]; exact hb)
     . intro b o v h; exact W2.sub b o v (by rw [hE1s]; exact h)
     . intro b o v h; have := W2.stG b o v h; rw [hE1s] at this; exact this
     . subst e
       rcases hb with ⟨i, hi, hb⟩ | ⟨o, v, hv⟩
       . exact hnL (W2.bQ hi hb).2
       . obtain ⟨c, el, fr, hc⟩ := W2.sL hv
         rw [hL2] at hc; cases hc
     . by_cases e : b = w.heap.size + 1
       . subst e
         rw [World.putObj_heap_same hltL, World.putObj_heap_same (by omega)]
       . rw [hother b _ e, World.putObj_heap_other e, W2.fr b hb, hE1w]
    have hgD : E'.G w.heap.size ∧ E'.G (w.heap.size + 1) := ⟨R.wr.gnew _ R.wr.size, R.wr.gnew _ (by have := R.wr.size; omega)⟩
    have hEnv : fS E E2 := by
     subst hE2
     refine ⟨fun b h => hE'.G b (hE1b b h).1, fun b hb => ?_, hro.1.trans (R.wr.os.trans hE'.os), hro.2.1.trans (R.wr.tape.trans hE'.tape), hro.2.2.trans (R.wr.output.trans hE'.output), ?_, hE'.st0, hE'.gnew, ?_⟩
     . have h1 : ¬ E'.G b := fun q => hb (hE'.G b q)
       have h2 : b ≠ w.heap.size := fun e => h1 (by rw [e]; exact hgD.1)
       have h3 : b ≠ w.heap.size + 1 := fun e => h1 (by rw [e]; exact hgD.2)
       show (W1.putObj _ _).heap[b]? = _
       rw [World.putObj_heap_other h3]
       rcases Nat.lt_or_ge b w.heap.size with q | q
       . rw [hold b q, R.wr.fr b h1, hE'.w0 b hb]
       . exact absurd (R.wr.gnew b (Nat.le_trans R.wr.size q)) h1
     . show E.w0.heap.size ≤ (W1.putObj _ _).heap.size
       rw [World.putObj_size]; have := hE'.size; have := R.wr.size; omega
     . obtain ⟨Ds, hd1, hd2, hd3⟩ := hE'.ds
       refine ⟨w.heap.size :: Ds, ?_, List.nodup_cons.2 ⟨fun q => (hd3 _ q).2.1 hgD.1, hd2⟩, fun D hD => ?_⟩
       . show _ :: a.defers = _
         rw [R.df, hd1]; rfl
       . rcases List.mem_cons.1 hD with rfl | hD
         . refine ⟨hE'.G _ hgD.1, fun q => (hE1b _ q).2.1 rfl, ?_⟩
           show (W1.putObj _ _).heap[_]? = _
           rw [World.putObj_heap_other (by omega)]; exact hD1
         . obtain ⟨k1, k2, k3⟩ := hd3 D hD
           refine ⟨k1, fun q => k2 (hE1b _ q).1, ?_⟩
           show (W1.putObj _ _).heap[_]? = _
           have h2 : D ≠ w.heap.size := fun e => k2 (by rw [e]; exact hgD.1)
           have h3 : D ≠ w.heap.size + 1 := fun e => k2 (by rw [e]; exact hgD.2)
           rw [World.putObj_heap_other h3]
           rcases Nat.lt_or_ge D w.heap.size with q | q
           . rw [hold D q, R.wr.fr D k2, k3]
           . exact absurd (R.wr.gnew D (Nat.le_trans R.wr.size q)) k2
    have hfin := hQ .norm _ { a with defers := { target := .collected w.heap.size, args := #[] } :: a.defers } (w2.putObj (w.heap.size + 1) exh) hK ⟨E2, hEnv, st2, g2, ⟨hnt0, by rw [hE2], fun t => ?_, W4⟩, hg.mono hm2, ⟨fun b o v h => hm2 _ _ _ (B.mono _ _ _ h), fun i hi hm => ?_, Nat.le_trans hn hl2⟩⟩
    . rw [hexh] at hfin
      exact hfin
    . exact ET htE R.tm hm2 hk2 hl2 t
    . have hki : aP i ks = false := by
        cases hb : aP i ks with
        | false => rfl
        | true => have : aP i (ep ks s1.kl) = true := gK.2 (.inl (ji.1 hb)); rw [this] at hm; cases hm
      have hkl : aP i s1.kl = false := by
       cases hb : aP i s1.kl with
       | false => rfl
       | true => have : aP i (ep ks s1.kl) = true := gK.2 (.inr hb); rw [this] at hm; cases hm
      rw [hk2 i (Nat.lt_of_lt_of_le hi hn) hki]
      exact B.bm i hi hkl
theorem Pn (G : cH C) {n : Nat} {st0 : St} {g0 : ay} (hY : ∀ E', fS E E' → iE C E' n st0 g0) : ∀ (k : Nat) (c : Code), SizeOf.sizeOf c ≤ k → Sound C E n st0 g0 c := by
 intro k
 induction k with
 | zero => intro c hc; cases c <;> simp at hc
 | succ k IH =>
 intro c hc
 cases c with
 | skip => intro s a w K Q hgo h hQ; exact wp_skip (hQ .norm _ _ _ h hgo)
 | label l => intro s a w K Q hgo h hQ; exact wp_label (hQ .norm _ _ _ h hgo)
 | region id ops drawn =>
   intro s0 a w K Q hgo0 h hQ
   have hgo := hgo0.cC (C.hint id)
   generalize hs : s0.cC (C.hint id) = s at hgo
   obtain ⟨E', hE', st', g', R, hg, B⟩ := hgo
   have hK : ∀ s' a' w', K .norm s' → Go C E' st' g' s s' a' w' → Q .normal a' w' := fun s' a' w' hk hgo => by
    obtain ⟨st2, g2, R2, hg2, A⟩ := hgo
    exact hQ .norm _ _ _ hk ⟨E', hE', st2, g2, R2, hg2, B.nJ A⟩
   have hX : ∀ u s' a' w', K (.pan u) s' → Go C E' st' g' s s' a' w' → Q (.panic [{ v := u, recovered := false }]) a' w' := fun u s' a' w' hk hgo => by
    obtain ⟨st2, g2, R2, hg2, A⟩ := hgo
    exact hQ (.pan u) _ _ _ hk ⟨E', hE', st2, g2, R2, hg2, B.nJ A⟩
   cases drawn with
   | false =>
     simp only [vc, xA, hs] at h
     exact NF (hY E' hE') R hg G B h hK hX
   | true =>
     simp only [vc, xA, hs] at h
     cases hp : C.pdr id with
     | false => rw [hp] at h; exact FW R hg G h hK
     | true => rw [hp] at h; exact FX R hg G h hK hX
 | seq x y =>
   have ihx := IH x (by simp at hc; omega)
   have ihy := IH y (by simp at hc; omega)
   intro s a w K Q hgo h hQ
   refine wp_seq (ihx s a w _ _ hgo h fun ex s' a' w' hk hgo' => ?_)
   cases ex with
   | norm => exact ihy s' a' w' K Q hgo' hk hQ
   | exit id => exact hQ (.exit id) _ _ _ hk hgo'
   | ret => exact hQ .ret _ _ _ hk hgo'
   | goto j => exact hQ (.goto j) _ _ _ hk hgo'
   | pan u => exact hQ (.pan u) _ _ _ hk hgo'
 | cond c x y =>
   have ihx := IH x (by simp at hc; omega)
   have ihy := IH y (by simp at hc; omega)
   intro s a w K Q hgo h hQ
   simp only [vc] at h
   split at h
   . rename_i b hb
     have hgo' := hgo
     obtain ⟨E', hE', st', g', R, hg, B⟩ := hgo'
     have hv := aZ (C := C) R hg c
     rw [hb] at hv
     simp only [VR] at hv
     cases b with
     | true =>
       have h : ou s c true fun s => vc C n x s K := h
       obtain ⟨s', h1, h2⟩ := u0 h hb hgo
       exact wp_cond_true hv (ihx s' a w K Q h2 h1 hQ)
     | false =>
       have h : ou s c false fun s => vc C n y s K := h
       obtain ⟨s', h1, h2⟩ := u0 h hb hgo
       exact wp_cond_false hv (ihy s' a w K Q h2 h1 hQ)
   . exact h.elim
 | block id c =>
   have ih := IH c (by simp at hc; omega)
   intro s a w K Q hgo h hQ
   refine wp_block (ih s a w _ _ hgo h fun ex s' a' w' hk hgo' => ?_)
   cases ex with
   | norm => exact hQ .norm _ _ _ hk hgo'
   | exit j =>
     simp only [pF, Exit.inBlock]
     by_cases hj : j = id
     . subst hj
       rw [if_pos rfl]
       simp only [qV, show Nat.beq j j = true from Nat.beq_refl j] at hk
       exact hQ .norm _ _ _ hk hgo'
     . rw [if_neg hj]
       have : Nat.beq j id = false := by
        cases hb : Nat.beq j id with
        | false => rfl
        | true => exact absurd (Nat.eq_of_beq_eq_true hb) hj
       simp only [qV, this] at hk
       exact hQ (.exit j) _ _ _ hk hgo'
   | ret => exact hQ .ret _ _ _ hk hgo'
   | goto j => exact hQ (.goto j) _ _ _ hk hgo'
   | pan u => exact hQ (.pan u) _ _ _ hk hgo'
 | loop c =>
   have ih := IH c (by simp at hc; omega)
   intro s a w K Q hgo h hQ
   have h : aT n s (vc C n c) K := h
   obtain ⟨X, inv, I, μ, ps, x0, h0, hs, hr⟩ := h
   refine wp_loop_ghost (fun m a w => ∃ x, inv x ∧ μ x = m ∧ eo C E n st0 g0 (I x) a w) (μ x0) ⟨x0, h0, rfl, (hgo.cC ps).sub hs⟩ fun m a w ⟨x, hi, hm, hgo⟩ => ?_
   have hw : l7 (I x).tm [] ∧ gn (I x).sg := by
    obtain ⟨E', hE', st', g', R, hg, B⟩ := hgo
    exact ⟨sR _ _ _ fun t _ => R.tm t, R.wr.wf⟩
   refine ih (I x) a w _ _ hgo (hr x hi hw.1 hw.2) fun ex s' a' w' hk hgo' => ?_
   cases ex with
   | norm =>
     obtain ⟨qs, x', hi', h1, h2⟩ := hk
     exact ⟨μ x', by omega, x', hi', rfl, (hgo'.cC qs).sub h1⟩
   | exit id => exact hQ (.exit id) _ _ _ hk hgo'
   | ret => exact hQ .ret _ _ _ hk hgo'
   | goto j => exact hQ (.goto j) _ _ _ hk hgo'
   | pan u => exact hQ (.pan u) _ _ _ hk hgo'
 | scope c =>
   have ih := IH c (by simp at hc; omega)
   intro s a w K Q hgo h hQ
   have straight : vc C n c s (n8 K) → (Code.scope c).wp C.P Q a w := fun h => by
    refine wp_scope_straight (ih s a w (n8 K) _ hgo h fun ex s' a' w' hk hgo' => ?_)
    cases ex with
    | goto j => exact False.elim hk
    | pan u => exact hQ (.pan u) _ _ _ hk hgo'
    | norm => exact hQ .norm _ _ _ hk hgo'
    | exit id => exact hQ (.exit id) _ _ _ hk hgo'
    | ret => exact hQ .ret _ _ _ hk hgo'
   rcases Pl h with ⟨x, l, b, rfl, hf, h⟩ | h
   . exact OE (IH x (by simp at hc; omega)) (IH b (by simp at hc; omega)) s a w K Q hgo hf h hQ
   . exact straight h
 | exit id => intro s a w K Q hgo h hQ; exact wp_exit (hQ (.exit id) _ _ _ h hgo)
 | ret => intro s a w K Q hgo h hQ; exact wp_ret (hQ .ret _ _ _ h hgo)
 | goto l => intro s a w K Q hgo h hQ; exact wp_goto (hQ (.goto l) _ _ _ h hgo)
 | rangeFunc g ps assign body =>
   intro s a w K Q hgo h hQ
   have h : ic (gb assign && gb body) (sT C s g ps (fun m => vc C m assign) (fun m => vc C m body) K) := h
   obtain ⟨hs, h⟩ := nz.1 h
   simp only [Bool.and_eq_true] at hs
   exact Nv G hs.1 hs.2 hgo h hQ
 | _ => intro s a w K Q hgo h hQ; exact h.elim
theorem Pm (G : cH C) {n : Nat} {st0 : St} {g0 : ay} (hY : ∀ E', fS E E' → iE C E' n st0 g0) (c : Code) : Sound C E n st0 g0 c := Pn G hY _ c (Nat.le_refl _)

theorem Nf {agg : Bool} {size off : Nat} {cs : List V} {v : V} (h : xx agg size cs off = some v) (K : V → Prop) (hk : K v) : gZ agg size cs off K := by
 unfold xx at h
 unfold gZ
 cases agg with
 | true =>
   simp only at h ⊢
   cases hr : gk (ik cs off) size with
   | none => rw [hr] at h; cases h
   | some r => rw [hr] at h; cases h; exact hk
 | false =>
   simp only at h ⊢
   rw [h]; exact hk

theorem xH (G : Good C) (R : Rel E st g s a w) : ∀ {rs : List ResultVar} {xs : List V}, nf C.ti s rs = some xs → ∃ vs : List Value, (rs.mapM fun | .tmp t => pure (a.tmps.getD t undef) | .cell b t => do loadVar t (← asAddr (a.tmps.getD b undef)) : Sem (List Value)).run C.P w = .ok vs w ∧ aJ st g xs s.sg.length vs
  | [], xs, h => by
    simp only [nf, Option.some.injEq] at h; subst h
    exact ⟨[], by simp, by simp [aJ]⟩
  | .tmp t :: r, xs, h => by
    simp only [nf] at h
    split at h
    . rename_i ys hy
      cases h
      obtain ⟨vs, h1, h2⟩ := xH G R hy
      refine ⟨a.tmps.getD t undef :: vs, ?_, cg (R.tm t) h2⟩
      rw [List.mapM_cons]
      simp only [Sem.run_bind, Sem.run_pure, Result.andThen_ok]
      rw [h1]
      simp
    . cases h
  | .cell b t :: r, xs, h => by
    simp only [nf] at h
    split at h
    . rename_i i off hlk
      split at h
      . rename_i cs hob
        split at h
        . cases h
        . rename_i hk
          have hk : (C.ti t).k ≠ .other := fun h => hk h
          split at h
          . rename_i x ys hx hy
            cases h
            obtain ⟨vs, h1, h2⟩ := xH G R hy
            have hv := R.tm b
            rw [hlk] at hv
            simp only [VR] at hv
            obtain ⟨hi, bb, hbb, hv⟩ := hv
            obtain ⟨hs1, _⟩ := dY hob (by simp)
            obtain ⟨b', c, el, fr, k1, k2, k3, k4, k5, k6⟩ := vV R.wr hs1
            rw [hbb] at k1; cases k1
            have hcell : ∀ j, j < c.toList.length → w.cell? ⟨bb, 0 + j, none⟩ = c.toList[j]? := fun j hj => by rw [eF k3]; simp
            obtain ⟨u, h5, h6⟩ := uz (w := w) (b := bb) (o := 0) G hk k4 hcell (Nf hx)
            rw [Nat.zero_add] at h5
            refine ⟨u :: vs, ?_, cg h6 h2⟩
            rw [List.mapM_cons]
            have ha : (asAddr (a.tmps.getD b undef)).run C.P w = .ok ⟨bb, off, none⟩ w := by rw [hv]; rfl
            simp only [Sem.run_bind, Sem.run_pure, Result.andThen_ok, ha, h5]
            rw [h1]
            simp
          . cases h
      . cases h
    . cases h

theorem NG (G : Good C) (R : Rel E st g s a w) {fn : Func} {x : V} (h : sk C.ti s fn.results.toList = some x) : ∃ v, (results fn a.tmps).run C.P w = .ok v w ∧ VR st g x s.sg.length v := by
 unfold sk at h
 have key : ∀ xs, nf C.ti s fn.results.toList = some xs → ∃ vs : List Value, aJ st g xs s.sg.length vs ∧ (results fn a.tmps).run C.P w = .ok (if h : vs.toArray.size = 1 then vs.toArray[0] else .tuple vs.toArray) w := fun xs hx => by
  obtain ⟨vs, h1, h2⟩ := xH G R hx
  refine ⟨vs, h2, ?_⟩
  unfold results
  rw [Array.mapM_eq_mapM_toList]
  simp only [map_eq_pure_bind, bind_assoc, pure_bind]
  rw [Sem.run_bind]
  erw [h1]
  rfl
 split at h
 . rename_i x' hx
   cases h
   obtain ⟨vs, h2, h3⟩ := key _ hx
   refine ⟨_, h3, ?_⟩
   simp only [aJ] at h2
   obtain ⟨u, us, rfl, h5, rfl⟩ := h2
   simpa using h5
 . rename_i xs hne hx
   cases h
   obtain ⟨vs, h2, h3⟩ := key _ hx
   refine ⟨_, h3, ?_⟩
   have hl := eD h2
   rw [dif_neg (by
    intro h4
    simp only [List.size_toArray] at h4
    rw [h4] at hl
    match xs, hl with
    | [x], _ => exact hne x rfl)]
   simp only [VR]
   exact ⟨_, rfl, by simpa using h2⟩
 . cases h

theorem Bk : ∀ (xs : List V) (i t : Nat), lk (lq xs i) t = if i ≤ t then xs.getD (t - i) .undef else .undef
 | [], i, t => by simp [lq, lk]
 | x :: xs, i, t => by
   simp only [lq, lk]
   rw [Bk xs (i + 1) t]
   cases hb : Nat.beq i t with
   | true =>
     have := Nat.eq_of_beq_eq_true hb
     subst this
     simp
   | false =>
     have hne : i ≠ t := fun e => by subst e; rw [show Nat.beq i i = true from Nat.beq_refl i] at hb; cases hb
     simp only [cond_false]
     by_cases h : i ≤ t
     . rw [if_pos h, if_pos (by omega)]
       rw [show t - i = (t - (i + 1)) + 1 by omega]
       simp
     . rw [if_neg h, if_neg (by omega)]

theorem CG {sg : List O} {bm : Bool} : ∀ {kl : List Nat}, mT sg bm kl = true → ∀ i o, sg[i]? = some o → (bm = true ∨ o.gU = false) → aP i kl = false
 | [], _, i, o, _, _ => rfl
 | k :: kl, h, i, o, ho, hk => by
   simp only [mT, Bool.and_eq_true] at h
   simp only [aP, Bool.or_eq_false_iff]
   refine ⟨?_, CG h.2 i o ho hk⟩
   cases hb : Nat.beq i k with
   | false => rfl
   | true =>
     exfalso
     have := Nat.eq_of_beq_eq_true hb
     subst this
     have hil : i < sg.length := by
      rcases Nat.lt_or_ge i sg.length with h' | h'
      . exact h'
      . simp [List.getElem?_eq_none h'] at ho
     have hg : aL sg i = o := by rw [rp, List.getD_eq_getElem?_getD, ho]; rfl
     have h1 := h.1
     rw [hg] at h1
     split at h1
     . rcases hk with hk | hk
       . rw [hk] at h1; cases h1
       . simp [O.gU] at hk
     . have := Nat.le_of_ble_eq_true h1; omega

def shut (w : World) : List Nat → World
 | [] => w
 | D :: Ds => shut (w.putObj D (.deferred none)) Ds
theorem Ek : ∀ (Ds : List Nat) (w : World) (b : Nat), b ∉ Ds → (shut w Ds).heap[b]? = w.heap[b]?
 | [], _, _, _ => rfl
 | D :: Ds, w, b, h => by
   rw [shut, Ek Ds _ b (fun q => h (List.mem_cons_of_mem _ q))]
   exact World.putObj_heap_other (fun e => h (by rw [e]; exact List.mem_cons_self))
theorem Em : ∀ (Ds : List Nat) (w : World), (shut w Ds).heap.size = w.heap.size ∧ (shut w Ds).os = w.os ∧ (shut w Ds).tape = w.tape ∧ (shut w Ds).output = w.output
 | [], _ => ⟨rfl, rfl, rfl, rfl⟩
 | D :: Ds, w => by
   obtain ⟨h1, h2, h3, h4⟩ := Em Ds (w.putObj D (.deferred none))
   exact ⟨h1.trans World.putObj_size, h2, h3, h4⟩
theorem CK {P : Program} {fn : Func} {tmps : Array Value} {R : Ending → World → Prop} : ∀ (Ds : List Nat) (w : World), Ds.Nodup → (∀ D ∈ Ds, w.heap[D]? = some (.deferred (some []))) →
   (∃ v, (results fn tmps).run P (shut w Ds) = .ok v (shut w Ds) ∧ R (.returned v) (shut w Ds)) → LeavesInM Fence.wide 0 P fn tmps R (Ds.map fun D => { target := .collected D, args := #[] }) .returning w
 | [], w, _, _, h => h
 | D :: Ds, w, hn, hD, h => by
   refine ⟨by simp, .inl ⟨D, w.putObj D (.deferred none), rfl, run_takeDeferred (hD D List.mem_cons_self), ?_⟩⟩
   have hn := List.nodup_cons.1 hn
   refine CK Ds _ hn.2 (fun D' h' => ?_) h
   rw [World.putObj_heap_other (fun e => hn.1 (by rw [← e]; exact h'))]
   exact hD D' (List.mem_cons_of_mem _ h')
theorem AI (G : cH C) {f : FuncId} {fn : Func} {c : Code} {args : List V} {σ : List O} {x : V} {r : Option (List O)} (hf : C.P.funcs[f]? = some fn) (hb : fn.body = some c) (hn : (fn.name == "runtime.NumGoroutine") = false)
   (hnt : Nat.ble args.length fn.ntmps = true) (h : V.ee args → gn σ → vc C σ.length c ⟨fn.ntmps, lq args 0, σ, []⟩ (Ends C.ti fn.results.toList σ x r)) {E : Env} (hds : E.ds = []) (st : St) (g : ay) (hY : ∀ E', fS E E' → iE C E' σ.length st g) (w : World) (vs : List Value) (W : aR E st g σ w) (hg : aW C.gl st) (hv : aJ st g args σ.length vs) :
   Calls C.P f vs.toArray w fun e w' => ∃ v st' g', e = .returned v ∧ aR E st' g' (r.getD σ) w' ∧ VR st' g' x (r.getD σ).length v ∧ (∀ b o v, st b o = some v → st' b o = some v) ∧
    σ.length ≤ (r.getD σ).length ∧ ∀ i o, σ[i]? = some o → (r = none ∨ fO (r.getD []) = true ∨ o.gU = false) → g' i = g i := by
 have hlen := eD hv
 have hnt' := Nat.le_of_ble_eq_true hnt
 have hvc := h (oW hv) W.wf
 have R : Rel E st g ⟨fn.ntmps, lq args 0, σ, []⟩ { tmps := vs.toArray ++ Array.replicate (fn.ntmps - vs.toArray.size) undef, defers := [] } w := by
  refine ⟨by simp; omega, hds.symm, fun t => ?_, W⟩
  show VR st g (lk (lq args 0) t) σ.length _
  rw [Bk, if_pos (Nat.zero_le _), Nat.sub_zero]
  rcases Nat.lt_or_ge t args.length with h1 | h1
  . have h2 : args[t]? = some args[t] := List.getElem?_eq_getElem h1
    obtain ⟨v, h3, h4⟩ := nH hv h2
    have h5 : (vs.toArray ++ Array.replicate (fn.ntmps - vs.toArray.size) undef).getD t undef = v := by
     rw [Array.getD_eq_getD_getElem?, Array.getElem?_append_left (by simp; omega)]
     simp [h3]
    rw [List.getD_eq_getElem?_getD, h2]
    show VR st g args[t] σ.length ((vs.toArray ++ Array.replicate (fn.ntmps - vs.toArray.size) undef).getD t undef)
    rw [h5]; exact h4
  . rw [List.getD_eq_getElem?_getD, List.getElem?_eq_none h1]
    simp [VR]
 refine callsIn_wide.1 (callsIn_of_wp_marks (F := Fence.wide) (n := 0) hf hb trivial (wpIn_wide.2 (Pm G hY c _ _ w _ _ ⟨E, fS.refl W.gnew, st, g, R, hg, ⟨fun _ _ _ h => h, fun _ _ _ => rfl, Nat.le_refl _⟩⟩ hvc fun ex s' a' w0' hk hgo => ?_)))
 have hex0 : ex = .norm ∨ ex = .ret := by
  cases ex with
  | norm => exact .inl rfl
  | ret => exact .inr rfl
  | exit id => exact hk.elim
  | goto l => exact hk.elim
  | pan u => exact hk.elim
 have hk0 : af C.ti fn.results.toList σ x r s' := by rcases hex0 with rfl | rfl <;> exact hk
 obtain ⟨ps, hk1⟩ := hk0
 replace hgo := hgo.cC ps
 clear hk
 generalize s'.cC ps = s' at hgo hk1
 obtain ⟨E', hE', st', g', R0', hg', B⟩ := hgo
 obtain ⟨Ds, hDs, hnd, hDall⟩ := hE'.ds
 have hdf : a'.defers = Ds.map fun D => { target := .collected D, args := #[] } := by rw [R0'.df, hDs, hds, List.append_nil]
 have hDh : ∀ D ∈ Ds, w0'.heap[D]? = some (.deferred (some [])) := fun D hD => (R0'.wr.fr D (hDall D hD).2.1).trans (hDall D hD).2.2
 obtain ⟨w', hw'⟩ : ∃ w', w' = shut w0' Ds := ⟨_, rfl⟩
 obtain ⟨q1, q2, q3, q4⟩ := Em Ds w0'
 rw [← hw'] at q1 q2 q3 q4
 have hheap : ∀ b, b ∉ Ds → w'.heap[b]? = w0'.heap[b]? := fun b hb => by rw [hw']; exact Ek Ds w0' b hb
 have RW : aR E st' g' s'.sg w' := by
  have R1 := hE'.whole R0'.wr
  refine R1.env (q2.trans R1.os) (q3.trans R1.tape) (q4.trans R1.output) (by rw [q1]; exact R1.size) R1.gnew R1.sub R1.stG (fun i b hi hb => (R1.bQ hi hb).2) (fun b hb => hheap b fun hD => ?_) (by rw [q1]; exact Nat.le_refl _) (fun b hb => ?_)
  . rcases hb with ⟨i, hi, hb⟩ | ⟨o, v, hv⟩
    . exact (hDall b hD).2.1 (R0'.wr.bQ hi hb).2
    . obtain ⟨c, el, fr, hc⟩ := R0'.wr.sL hv
      rw [hDh b hD] at hc; cases hc
  . rw [hheap b fun hD => hb (hDall b hD).1]; exact R1.fr b hb
 have R' : Rel { E with ds := a'.defers } st' g' s' a' w' := ⟨R0'.nt, rfl, R0'.tm, RW.ds _⟩
 have hend : ∀ (x' : V) (σ' : List O), sk C.ti s' fn.results.toList = some x' → x'.ff σ'.length = true → fC s'.sg σ' σ'.length → ∃ v, (results fn a'.tmps).run C.P w' = .ok v w' ∧ aR E st' g' σ' w' ∧ VR st' g' x' σ'.length v := fun x' σ' h1 h2 h3 => by
  obtain ⟨v, h4, h5⟩ := NG G.toGood R' h1
  exact ⟨v, h4, RW.zG h3, fu (fun _ _ _ h => h) (fun i hi _ => ⟨rr h2 hi, rfl⟩) h5⟩
 unfold EndQ at hk1
 cases hres : sk C.ti s' fn.results.toList with
 | none => rw [hres] at hk1; exact hk1.elim
 | some y =>
 rw [hres] at hk1
 simp only [fk] at hk1
 have hfin : (∃ v, (results fn a'.tmps).run C.P w' = .ok v w' ∧ aR E st' g' (r.getD σ) w' ∧ VR st' g' x (r.getD σ).length v ∧ (∀ b o v, st b o = some v → st' b o = some v) ∧ σ.length ≤ (r.getD σ).length ∧ ∀ i o, σ[i]? = some o → (r = none ∨ fO (r.getD []) = true ∨ o.gU = false) → g' i = g i) ∧ (ex = .norm ∨ ex = .ret) := by
  have hex := hex0
  have hk' := hk1
  refine ⟨?_, hex⟩
  have hkeep : ∀ bm, mT σ bm s'.kl = true → ∀ i o, σ[i]? = some o → (bm = true ∨ o.gU = false) → g' i = g i := fun bm hkl i o ho hor => by
   refine B.bm i ?_ (CG hkl i o ho hor)
   rcases Nat.lt_or_ge i σ.length with h' | h'
   . exact h'
   . simp [List.getElem?_eq_none h'] at ho
  cases r with
  | none =>
    obtain ⟨h1, h2, h3, h4⟩ := hk'
    subst h1
    obtain ⟨v, q1, q2, q3⟩ := hend y σ hres h2 h3
    exact ⟨v, q1, q2, q3, B.mono, Nat.le_refl _, fun i o ho _ => hkeep true h4 i o ho (.inl rfl)⟩
  | some σ' =>
    obtain ⟨h1, h2, h3, h4, h5⟩ := hk'
    subst h1
    obtain ⟨v, q1, q2, q3⟩ := hend y σ' hres h2 h3
    exact ⟨v, q1, q2, q3, B.mono, Nat.le_of_ble_eq_true h5, fun i o ho hor => hkeep (fO σ') h4 i o ho (hor.resolve_left (by simp))⟩
 obtain ⟨⟨v, h1, h2, h3, h4, h5, h6⟩, hex⟩ := hfin
 have hfinal : LeavesInM Fence.wide 0 C.P fn a'.tmps (fun e w' => ∃ v st' g', e = .returned v ∧ aR E st' g' (r.getD σ) w' ∧ VR st' g' x (r.getD σ).length v ∧ (∀ b o v, st b o = some v → st' b o = some v) ∧
    σ.length ≤ (r.getD σ).length ∧ ∀ i o, σ[i]? = some o → (r = none ∨ fO (r.getD []) = true ∨ o.gU = false) → g' i = g i) a'.defers .returning w0' := by
  rw [hdf]
  refine CK Ds w0' hnd hDh ?_
  rw [← hw']
  exact ⟨v, h1, v, st', g', rfl, h2, h3, h4, h5, h6⟩
 rcases hex with rfl | rfl
 . exact hfinal
 . exact hfinal
theorem al (G : cH C) {f : FuncId} {fn : Func} {c : Code} {args : List V} {σ : List O} {x : V} {r : Option (List O)} (hf : C.P.funcs[f]? = some fn) (hb : fn.body = some c) (hn : (fn.name == "runtime.NumGoroutine") = false)
   (hnt : Nat.ble args.length fn.ntmps = true) (h : V.ee args → gn σ → vc C σ.length c ⟨fn.ntmps, lq args 0, σ, []⟩ (Ends C.ti fn.results.toList σ x r)) (hy : C.yd = fun _ _ _ _ => none := by rfl) : ey C.P C.gl f args σ x r := by
 refine ⟨⟨fn, hf, hn, by rw [hb]; rfl⟩, fun E st g w vs W hg hv => ?_⟩
 refine Calls.mono (AI G hf hb hn hnt h (E := { E with ds := [] }) rfl st g (fun _ _ => iE.none hy) w vs (W.ds []) hg hv) ?_
 rintro e w' ⟨v, st', g', h1, h2, h3, h4, h5, h6⟩
 exact ⟨v, st', g', h1, h2.undo, h3, h4, h5, h6⟩
def ydl (l : Nat) (Y : YT) (l' : Nat) : YT := fun args sg kl => match Y args sg kl with
 | some (pre, x, sg', ks) => some (l' = l ∧ pre, x, sg', ks)
 | none => none
def nN (ks : List Nat) : Nat → List O → Bool
 | _, [] => true
 | i, .buf _ _ _ :: os => aP i ks && nN ks (i + 1) os
 | i, _ :: os => nN ks (i + 1) os
theorem AB {ks : List Nat} : ∀ {os : List O} {k i : Nat} {o : O}, nN ks k os = true → os[i]? = some o → aP (k + i) ks = false → o.gU = false
 | [], _, _, _, _, h, _ => by simp at h
 | x :: os, k, i, o, h, ho, hm => by
   have hr : nN ks (k + 1) os = true := by
    cases x <;> simp only [nN, Bool.and_eq_true] at h <;> first | exact h | exact h.2
   cases i with
   | zero =>
     simp at ho
     subst ho
     cases x <;> first
      | rfl
      | (simp only [nN, Bool.and_eq_true] at h; rw [Nat.add_zero] at hm; rw [hm] at h; cases h.1)
   | succ i => exact AB hr (by simpa using ho) (by rw [show k + 1 + i = k + (i + 1) by omega]; exact hm)
theorem OI {Γ : FuncId → List V → List O → Option (Prop × V × Option (List O))} {Y : YT} (G : ∀ l, cH { C with Γ := Γ, yd := ydl l Y }) {gf : FuncId} {fn : Func} {c : Code} {lb : List V} {σ r : List O} {ks : List Nat}
   (hf : C.P.funcs[gf]? = some fn) (hb : fn.body = some c) (hn : (fn.name == "runtime.NumGoroutine") = false) (hnt : Nat.ble (lb.length + 1) fn.ntmps = true) (hbuf : nN ks 0 σ = true)
   (h : ∀ l, V.ee (.func (.yield l) [] [] :: lb) → gn σ → vc { C with Γ := Γ, yd := ydl l Y } σ.length c ⟨fn.ntmps, lq (.func (.yield l) [] [] :: lb) 0, σ, []⟩ (Ends C.ti fn.results.toList σ (.tuple []) (some r))) : vC C gf lb σ Y r ks := by
 refine ⟨⟨fn, hf, hn, by rw [hb]; rfl⟩, fun E st g w l vs W hg hds hv hy => ?_⟩
 have hvs : aJ st g (.func (.yield l) [] [] :: lb) σ.length (.func (.yield l) #[] #[] :: vs) := cg (by simp only [VR]; exact ⟨#[], #[], rfl, cY, cY⟩) hv
 refine Calls.mono (AI (C := { C with Γ := Γ, yd := ydl l Y }) (args := .func (.yield l) [] [] :: lb) (G l) hf hb hn hnt (h l) hds st g (fun E' hE' l' => ?_) w _ W hg hvs) ?_
 . intro args s pre x sg' ks' he hp st2 g2 w2 vs2 W2 hg2 hv2 B2
   have he : ydl l Y l' args s.sg s.kl = some (pre, x, sg', ks') := he
   unfold ydl at he
   split at he
   . rename_i pre0 x0 sg0 ks0 hY
     simp only [Option.some.injEq, Prod.mk.injEq] at he
     obtain ⟨rfl, rfl, rfl, rfl⟩ := he
     obtain ⟨rfl, hp⟩ := hp
     exact hy E' hE' args s _ _ _ _ hY hp st2 g2 w2 vs2 W2 hg2 hv2 B2
   . cases he
 . rintro e w' ⟨v, st', g', h1, h2, h3, h4, h5, h6⟩
   refine ⟨v, st', g', h1, h2, h4, h5, fun i hi hm => ?_⟩
   have ho : σ[i]? = some σ[i] := List.getElem?_eq_getElem hi
   exact h6 i _ ho (.inr (.inr (AB hbuf ho (by rw [Nat.zero_add]; exact hm))))
end
end Go.VG
