/-
  A part of the proof.
-/
import Derived.Test.YtdjolnjlhbfnmaaGreatDoorVgO
set_option linter.unusedSimpArgs false
set_option linter.unusedVariables false
namespace Go.VG
open Go

theorem nb {e : Ef} : quiet e = true ↔ e.ks = [] ∧ e.up = [] ∧ e.nw = [] := by
 obtain ⟨v, ks, up, nw, rd⟩ := e
 cases ks <;> cases up <;> cases nw <;> simp [quiet]

mutual
theorem xg : ∀ {x : V} {acc : List Nat} {i : Nat}, i ∈ acc → i ∈ V.names x acc
 | .ptr j _, acc, i, h | .bptr j _ _, acc, i, h | .buf j, acc, i, h | .map j, acc, i, h => by
   simp only [V.names]
   cases aP j acc with
   | true => exact h
   | false => exact List.mem_append_left _ h
 | .agg cs, acc, i, h | .tuple cs, acc, i, h => by simp only [V.names]; exact rT h
 | .iface _ x, acc, i, h => by simp only [V.names]; exact xg h
 | .func _ fs cs, acc, i, h => by simp only [V.names]; exact rT (rT h)
 | .undef, _, _, h | .int .., _, _, h | .bool _, _, _, h | .str _, _, _, h | .list .., _, _, h | .nilptr, _, _, h | .box .., _, _, h | .nilIface, _, _, h | .nilFunc, _, _, h | .nilmap, _, _, h => by simp only [V.names]; exact h
theorem rT : ∀ {x : List V} {acc : List Nat} {i : Nat}, i ∈ acc → i ∈ V.dL x acc
 | [], _, _, h => by simp only [V.dL]; exact h
 | c :: cs, _, _, h => by simp only [V.dL]; exact rT (xg h)
end
theorem Dc {o : O} {acc : List Nat} {i : Nat} (h : i ∈ acc) : i ∈ o.names acc := by
 cases o <;> simp only [O.names] <;> first | exact h | exact rT h | exact xg h

theorem DS {sg : List O} : ∀ {fuel : Nat} {todo acc : List Nat} {i : Nat}, i ∈ acc → i ∈ reach sg fuel todo acc
 | 0, _, _, _, h => by simp only [reach]; exact h
 | _ + 1, [], _, _, h => by simp only [reach]; exact h
 | fuel + 1, k :: todo, acc, i, h => by simp only [reach]; exact DS (Dc h)
theorem DT {sg sg' : List O} : ∀ {fuel : Nat} {todo acc : List Nat}, (∀ i ∈ todo, i ∈ acc) → (∀ r ∈ reach sg fuel todo acc, aL sg' r = aL sg r) → reach sg' fuel todo acc = reach sg fuel todo acc
 | 0, _, _, _, _ => by simp only [reach]
 | _ + 1, [], _, _, _ => by simp only [reach]
 | fuel + 1, k :: todo, acc, ht, h => by
   have hk : aL sg' k = aL sg k := h k (DS (ht k (by simp)))
   simp only [reach] at h ⊢
   rw [hk]
   refine DT (fun i hi => ?_) h
   rcases List.mem_append.1 hi with hi | hi
   . exact Dc (ht i (List.mem_cons_of_mem _ hi))
   . exact List.mem_of_mem_drop hi

theorem Af {sg sg' : List O} : ∀ {th : List Nat}, (∀ r ∈ th, aL sg' r = aL sg r) → gL sg' th = gL sg th
 | [], _ => rfl
 | k :: ks, h => by simp only [gL, h k (by simp), Af (th := ks) fun r hr => h r (List.mem_cons_of_mem _ hr)]
theorem AY {sg sg' : List O} {th0 : List Nat} : ∀ {th : List Nat}, (∀ r ∈ th, aL sg' r = aL sg r) → gM sg' th0 th = gM sg th0 th
 | [], _ => rfl
 | k :: ks, h => by simp only [gM, h k (by simp), AY (th := ks) fun r hr => h r (List.mem_cons_of_mem _ hr)]
theorem CS {sg sg' : List O} {f : Nat → Option Nat} : ∀ {th : List Nat}, (∀ r ∈ th, aL sg' r = aL sg r) → locals sg' f th = locals sg f th
 | [], _ => rfl
 | k :: ks, h => by simp only [locals, h k (by simp), CS (th := ks) fun r hr => h r (List.mem_cons_of_mem _ hr)]
theorem AD {sg sg' : List O} : ∀ {th : List Nat}, (∀ r ∈ th, aL sg' r = aL sg r) → ij sg' th = ij sg th
 | [], _ => rfl
 | k :: ks, h => by simp only [ij, h k (by simp), AD (th := ks) fun r hr => h r (List.mem_cons_of_mem _ hr)]
theorem Ar {n n' : Nat} : ∀ {th : List Nat}, cT th n 0 = cT th n' 0
 | [] => rfl
 | k :: ks => by
   funext j
   cases j with
   | zero => simp [cT]
   | succ j => simp only [cT]; exact congrFun (Ar (th := ks)) j

section
variable {C : Ctx} {s s' : AS} {o : Oper} {e : Ef}

theorem Bs {sg sg' : List O} {f : FuncId} {args : List V} {pre : Prop} (h : cV C sg f args = some (pre, e)) (hq : quiet e = true) (hr : ∀ r ∈ e.rd, aL sg' r = aL sg r) : cV C sg' f args = some (pre, e) := by
 unfold cV at h ⊢
 rw [mI, mI] at h ⊢
 -- what is read
 have hrd : e.rd = reach sg 256 (V.dL args []) (V.dL args []) := by
  unfold ra at h
  simp only [j9, pH] at h
  cases hc : (gz (reach sg 256 (V.dL args []) (V.dL args [])) && gL sg (reach sg 256 (V.dL args []) (V.dL args []))) with
  | false => rw [hc] at h; cases h
  | true =>
    rw [hc, cond_true] at h
    split at h
    . cases h
    . cases hcl : gM sg (reach sg 256 (V.dL args []) (V.dL args [])) (reach sg 256 (V.dL args []) (V.dL args [])) with
      | false => rw [hcl] at h; cases h
      | true => rw [hcl] at h; cases h; rfl
    . cases h; rfl
 rw [hrd] at hr
 rw [DT (fun _ h => h) hr]
 generalize reach sg 256 (V.dL args []) (V.dL args []) = th at *
 unfold ra at h ⊢
 simp only [j9, pH] at h ⊢
 rw [Af hr, AY hr, CS hr, AD hr]
 cases hc : (gz th && gL sg th) with
 | false => rw [hc] at h; cases h
 | true =>
   rw [hc, cond_true] at h
   rw [cond_true]
   generalize C.Γ f (V.i4 (fun i => idxOf i th 0) args) (locals sg (fun i => idxOf i th 0) th) = r at h ⊢
   rcases r with _ | ⟨pre', v, _ | σ⟩
   . cases h
   . exact h
   . simp only [Option.some.injEq, Prod.mk.injEq] at h ⊢
     obtain ⟨rfl, rfl⟩ := h
     refine ⟨rfl, ?_⟩
     obtain ⟨q1, q2, q3⟩ := nb.1 hq
     simp only [qc, List.map_eq_nil_iff] at q3
     rw [q3]
     simp only [List.length_nil]
     rw [Ar (n := sg'.length) (n' := sg.length)]

theorem kC : ∀ {l : List Operand}, (∀ x ∈ l, s'.ev C x = s.ev C x) → s'.aX C l = s.aX C l
 | [], _ => rfl
 | x :: xs, h => by simp only [AS.aX, h x (by simp), kC (l := xs) fun y hy => h y (List.mem_cons_of_mem _ hy)]
theorem tH : ∀ {l : List (Nat × Operand)}, (∀ x ∈ s6 l, s'.ev C x = s.ev C x) → gy C s' l = gy C s l
 | [], _ => rfl
 | (i, x) :: r, h => by simp only [gy, h x (by simp [s6]), tH (l := r) fun y hy => h y (by simp [s6, hy])]
theorem Bu {n : Nat} {lo hi : Option Operand} (h1 : ∀ x ∈ lT lo, s'.ev C x = s.ev C x) (h2 : ∀ x ∈ lT hi, s'.ev C x = s.ev C x) : gQ C s' n lo hi = gQ C s n lo hi := by
 cases lo <;> cases hi <;> simp only [gQ] <;> simp only [lT, List.mem_singleton, forall_eq, List.not_mem_nil] at h1 h2 <;> simp only [h1, h2]
theorem Bf {x : V} (h : ∀ i, x = .buf i → aL s'.sg i = aL s.sg i) : elems s' x = elems s x := by
 unfold elems
 cases x <;> try rfl
 rename_i i
 simp only [h i rfl]
theorem EO {c : Call} (h : ∀ x ∈ gG (.call c), s'.ev C x = s.ev C x) : target C s' c = target C s c := by
 unfold target
 cases hc : c.callee with
 | value f =>
   simp only [gG, hc] at h
   simp only [h f (by simp), kC fun x hx => h x (List.mem_cons_of_mem _ hx)]
 | invoke r m => rfl
 | builtin b => rfl

theorem AH {r : Option (Prop × Ef)} {e : Ef} (h : dr r (fun b => b = e)) : ∃ pre : Prop, r = some (pre, e) ∧ pre := by
 cases r with
 | none => exact h.elim
 | some p =>
   have h1 : p.1 := h.1
   have h2 : gR p.2 (fun b => b = e) := h.2
   rw [iq] at h2
   exact ⟨p.1, by rw [← h2], h1⟩
theorem AG {r : Option (Prop × Ef)} {e : Ef} {pre : Prop} (h : r = some (pre, e)) (hp : pre) : dr r (fun b => b = e) := by
 subst h
 refine ⟨hp, ?_⟩
 show gR e _
 rw [iq]

theorem w8 (h : ∀ x ∈ gG o.op, s'.ev C x = s.ev C x) (hs : s'.sg = s.sg) : cr C s' o = cr C s o := by
 obtain ⟨dst, op, type, pos, after, guard⟩ := o
 have hel : ∀ x, elems s' x = elems s x := fun x => Bf fun i _ => by rw [hs]
 cases op <;> simp only [cr, gG] at h ⊢
 case move x => rw [h x (by simp)]
 case assign x => rw [h x (by simp)]
 case pick c a b => simp only [pC, h c (by simp), h a (by simp), h b (by simp)]
 case alloc t => simp only [jJ, jI, hs]
 case box t x => rw [h x (by simp), hs]
 case build t ps => simp only [o4, tH h]
 case buildSlice t n ps => simp only [lr, pw, iI, tH h, hs]
 case load t x => simp only [ly, h x (by simp), hs]
 case store t x y => simp only [mC, h x (by simp), h y (by simp), hs]
 case nilCheck x => simp only [mA, h x (by simp)]
 case binOp b t x y u => rw [h x (by simp), h y (by simp)]
 case unOp b t x => rw [h x (by simp)]
 case convert a b x => simp only [mz, iJ, h x (by simp), hel, hs]
 case makeInterface t x => simp only [px, h x (by simp)]
 case makeFunc fn a b => rw [kC fun x hx => h x (by simp [hx]), kC fun x hx => h x (by simp [hx])]
 case makeSlice t x y => simp only [mw, h x (by simp), h y (by simp), hs]
 case slice t x lo hi mx =>
  have hr : ∀ n, gQ C s' n lo hi = gQ C s n lo hi := fun n => Bu (fun x hx => h x (by simp [hx])) (fun x hx => h x (by simp [hx]))
  have hh : ∀ y, hi = some y → s'.ev C y = s.ev C y := fun y hy => h y (by simp [hy, lT])
  have hm : ∀ y, mx = some y → s'.ev C y = s.ev C y := fun y hy => h y (by simp [hy, lT])
  simp only [oa, h x (by simp), hs, hr]
  repeat' (first
   | rfl
   | (simp only [hh _ rfl]; done)
   | (simp only [hh _ rfl, hm _ rfl]; done)
   | split)
 case fieldAddr t x f => simp only [mn, h x (by simp)]
 case field t x f => simp only [mm, h x (by simp)]
 case indexAddr t x y => simp only [o7, h x (by simp), h y (by simp), hs]
 case index t x y => simp only [pt, h x (by simp), h y (by simp)]
 case typeAssert x _ t ok => simp only [pq, h x (by simp)]
 case extract x i => simp only [pr, h x (by simp)]
 case range t x => simp only [mq, mr, eu, h x (by simp), hs]
 case makeMap t r => cases r <;> simp only [mu, hs]
 case lookup t m x ok => simp only [j7, eu, h m (by simp), h x (by simp), hs]
 case mapUpdate t m x y => simp only [my, eu, h m (by simp), h x (by simp), h y (by simp), hs]
 case mapEntry t m x => simp only [kA, eu, h m (by simp), h x (by simp), hs]
 case entryStore t m b y => simp only [ml, eu, h m (by simp), h b (by simp), h y (by simp), hs]
 case entry x => simp only [o6, h x (by simp), hs]
 case sliceToArrayPointer t x => simp only [po, h x (by simp)]
 case next x b => simp only [o8, h x (by simp), hs]
 case call c =>
  have ht := EO (C := C) (s := s) (s' := s') (c := c) (by simpa only [gG] using h)
  unfold o5
  cases hc : c.callee with
  | value f => simp only [ht, hs]
  | invoke r m =>
    simp only [hc] at h
    simp only [h r (by simp), kC fun x hx => h x (List.mem_cons_of_mem _ hx), hs]
  | builtin b =>
    simp only [hc] at h
    simp only [kC h]
    have hb : ∀ xs, jK C s' b c.argTypes.toList xs = jK C s b c.argTypes.toList xs := fun xs => by
     unfold jK
     simp only [hs, hel, mi, mh, mj, eu]
    simp only [hb]
end
end Go.VG
namespace Go.VG
open Go

section
variable {C : Ctx} {s s' : AS} {o : Oper} {e : Ef} {nt : Nat} {tm : List (Nat × V)} {sg sg' : List O} {kl : List Nat}

theorem CT {t : TypeId} : aa (fun e => quiet e = false) (jI C s t) := by
 unfold jI
 split
 . exact aa.fail
 . rw [force_eq, de]; exact aa.when fun _ => aa.ret rfl
theorem MB {d : Option Nat} {t : TypeId} : aa (fun e => quiet e = false) (jJ C s d t) := by
 unfold jJ
 split
 . split
   . split
     . split
       . exact aa.fail
       . rw [force_eq]; exact aa.when fun _ => aa.ret rfl
     . exact aa.fail
   . exact CT
 . exact CT
theorem ME {x : V} : aa (fun e => quiet e = false) (force x fun x => bq s.sg.length fun n => bp (!x.dz) (ret ⟨.ptr n 0, [], [], [.cells x.cells], []⟩)) := by
 rw [force_eq, de]; exact aa.when fun _ => aa.ret rfl
theorem ML {t : TypeId} {x y : Operand} : aa (fun e => quiet e = false) (mw C s t x y) := by
 unfold mw
 split
 . split
   . exact aa.fail
   . refine aa.when fun _ => aa.aN fun _ => ?_
     rw [de, de, force_eq]
     exact aa.ret rfl
 . exact aa.fail
theorem MJ {t : TypeId} {len : Nat} {ps : Array (Nat × Operand)} : aa (fun e => quiet e = false) (pw C s t len ps) := by
 unfold pw
 refine aa.bind (r9 _ _ _ _ _) fun e _ => ?_
 split
 . rw [de]; exact aa.ret rfl
 . exact aa.fail
theorem qi {α β : Type} {o : Option α} {f : α → Tr β} {K : β → Prop} : dw o f K ↔ ∃ a, o = some a ∧ f a K := by
 cases o with
 | none => exact ⟨fun h => h.elim, fun ⟨_, h, _⟩ => by cases h⟩
 | some a => exact ⟨fun h => ⟨a, rfl, h⟩, fun ⟨_, h, k⟩ => by cases h; exact k⟩
theorem rY {t : TypeId} {m : V} {F : Nat → Bool → List Sc → List (V × Int) → List Nat → Nat → Tr Ef} (h : ∀ i ag sh es bs ck, aa (fun e => quiet e = false) (F i ag sh es bs ck)) : aa (fun e => quiet e = false) (eu C s t m F) := by
 unfold eu
 refine aa.opt fun _ _ => ?_
 split
 . split
   . exact aa.when fun _ => h _ _ _ _ _ _
   . exact aa.fail
 . exact aa.fail
theorem MK {t : TypeId} : aa (fun e => quiet e = false) (mu C s t) := by
 unfold mu
 refine aa.opt fun _ _ => ?_
 rw [de]
 exact aa.ret rfl
theorem MN {t : TypeId} {m x y : Operand} : aa (fun e => quiet e = false) (my C s t m x y) := by
 unfold my
 refine rY fun i ag sh es bs ck => ?_
 rw [force_eq]
 refine aa.when fun _ => ?_
 split
 . exact aa.dv (fun _ _ => aa.ret rfl) (fun _ => aa.ret rfl)
 . exact aa.fail
theorem MM {t : TypeId} {m x : Operand} : aa (fun e => quiet e = false) (kA C s t m x) := by
 unfold kA
 refine rY fun i ag sh es bs ck => ?_
 rw [force_eq]
 exact aa.when fun _ => aa.aN fun _ => aa.dv (fun _ _ => aa.ret rfl) (fun _ => aa.ret rfl)
theorem MG {t : TypeId} {m x y : Operand} : aa (fun e => quiet e = false) (ml C s t m x y) := by
 unfold ml
 refine rY fun i ag sh es bs ck => ?_
 split
 . exact aa.ex fun _ => aa.aN fun _ => aa.ret rfl
 . exact aa.fail
theorem MF {t : TypeId} {m x : V} : aa (fun e => quiet e = false) (mj C s t m x) := by
 unfold mj
 refine rY fun i ag sh es bs ck => ?_
 rw [force_eq]
 exact aa.when fun _ => aa.dv (fun _ _ => aa.ret rfl) (fun _ => aa.ret rfl)
theorem MI {t : TypeId} {m : V} : aa (fun e => quiet e = false) (mr C s t m) := by
 unfold mr
 refine rY fun i ag sh es bs ck => ?_
 rw [de]
 exact aa.ret rfl
theorem MH {t : TypeId} {x : Operand} : aa (fun e => quiet e = false) (mq C s t x) := by
 unfold mq
 split
 . rw [de]; exact aa.ret rfl
 . exact MI
 . exact aa.fail
theorem MO {t : TypeId} {x y : Operand} : aa (fun e => quiet e = false) (mC C s t x y) := by
 unfold mC
 simp only [jN]
 split
 . exact aa.fail
 . rw [force_eq]
   refine aa.when fun _ => ?_
   split
   . split
     . exact aa.opt fun _ _ => aa.ret rfl
     . exact aa.fail
   . split
     . refine aa.opt fun _ _ => ?_
       split
       . exact aa.when fun _ => aa.opt fun _ _ => aa.aN fun _ => aa.ret rfl
       . exact aa.fail
     . exact aa.fail
   . exact aa.fail
theorem MC {t : TypeId} {x : V} {ys : List V} {rd : List Nat} : aa (fun e => quiet e = false) (mh C s t x ys rd) := by
 unfold mh
 split
 . refine aa.when fun _ => aa.aN fun _ => aa.aN fun _ => ?_
   rw [de, de]; exact aa.ret rfl
 . split
   . exact aa.when fun _ => aa.aN fun _ => aa.ret rfl
   . exact aa.fail
 . exact aa.fail
theorem MD {t : TypeId} {sz : Nat} {x : V} {ys : List V} {rd : List Nat} : aa (fun e => quiet e = false) (mi C s t sz x ys rd) := by
 unfold mi
 split
 . refine aa.when fun _ => aa.aN fun _ => ?_
   rw [de]; exact aa.ret rfl
 . exact MC

theorem Ga {x : V} : aa (fun r => ∀ i, x = .buf i → r.2.2 = [i]) (elems s x) := by
 unfold elems
 split
 . exact aa.ret fun i h => by cases h
 . exact aa.ret fun i h => by cases h
 . split
   . exact aa.ret fun i h => by cases h; rfl
   . exact aa.fail
 . exact aa.fail

theorem GO (he : cr C ⟨nt, tm, sg, kl⟩ o (fun b => b = e)) (hq : quiet e = true) (hr : ∀ r ∈ e.rd, aL sg' r = aL sg r) : cr C ⟨nt, tm, sg', kl⟩ o (fun b => b = e) := by
  obtain ⟨dst, op, type, pos, after, guard⟩ := o
  have hev : ∀ x, AS.ev C ⟨nt, tm, sg', kl⟩ x = AS.ev C ⟨nt, tm, sg, kl⟩ x := fun _ => rfl
  have hevs : ∀ l, AS.aX C ⟨nt, tm, sg', kl⟩ l = AS.aX C ⟨nt, tm, sg, kl⟩ l := fun l => kC fun _ _ => rfl
  have hps : ∀ l, gy C ⟨nt, tm, sg', kl⟩ l = gy C ⟨nt, tm, sg, kl⟩ l := fun l => tH fun _ _ => rfl
  have hrg : ∀ n lo hi, gQ C ⟨nt, tm, sg', kl⟩ n lo hi = gQ C ⟨nt, tm, sg, kl⟩ n lo hi := fun n lo hi => Bu (fun _ _ => rfl) (fun _ _ => rfl)
  have hno : ∀ {p : Prop}, quiet e = false → p := fun h => by rw [h] at hq; cases hq
  cases op <;> simp only [cr] at he ⊢
  case move x => exact he
  case assign x => exact he
  case pick c a b => exact he
  case alloc t => exact hno (MB e he)
  case box t x => exact hno (ME (s := ⟨nt, tm, sg, kl⟩) e he)
  case build t ps => simp only [o4, hps] at he ⊢; exact he
  case buildSlice t n ps =>
   have hb : iI C ⟨nt, tm, sg', kl⟩ t n ps = iI C ⟨nt, tm, sg, kl⟩ t n ps := by simp only [iI, hps]
   cases dst with
   | none => simp only [lr, hb] at he ⊢; exact he
   | some d =>
     simp only [lr] at he ⊢
     cases hd : C.lits d with
     | false => rw [hd] at he; simp only [cond_false, hb] at he ⊢; exact he
     | true => rw [hd] at he; exact hno (MJ e he)
  case load t x =>
   unfold ly at he ⊢
   simp only [jN] at he ⊢
   rw [hev]
   cases hv : AS.ev C ⟨nt, tm, sg, kl⟩ x <;> rw [hv] at he <;> try exact he
   . rename_i i off
     have hi : i ∈ e.rd := by
      refine (?_ : aa (fun e : Ef => i ∈ e.rd) _) e he
      split
      . exact aa.fail
      . simp only
        split
        . refine aa.bind (dO _ _ _ _) fun v _ => ?_
          rw [force_eq]; exact aa.ret (by simp)
        . exact aa.fail
     simp only [hr i hi]
     exact he
   . rename_i i idx off
     have hi : i ∈ e.rd := by
      refine (?_ : aa (fun e : Ef => i ∈ e.rd) _) e he
      split
      . exact aa.fail
      . simp only
        split
        . refine aa.opt fun _ _ => aa.when fun _ => aa.bind (dO _ _ _ _) fun v _ => ?_
          rw [force_eq]; exact aa.ret (by simp)
        . exact aa.fail
     simp only [hr i hi]
     exact he
  case store t x y => exact hno (MO e he)
  case nilCheck x => exact he
  case sliceToArrayPointer t x => exact he
  case binOp b t x y u => exact he
  case unOp b t x => exact he
  case convert a b x =>
   rw [hev]
   have hmk : (iJ C ⟨nt, tm, sg, kl⟩ a b (AS.ev C ⟨nt, tm, sg, kl⟩ x) (fun b => b = e) → iJ C ⟨nt, tm, sg', kl⟩ a b (AS.ev C ⟨nt, tm, sg, kl⟩ x) (fun b => b = e)) → mz C ⟨nt, tm, sg', kl⟩ a b (AS.ev C ⟨nt, tm, sg, kl⟩ x) (fun b => b = e) := fun hk => by
    unfold mz at he ⊢
    cases hv : AS.ev C ⟨nt, tm, sg, kl⟩ x <;> rw [hv] at he hk <;> try exact hk he
    rename_i i
    simp only at he ⊢
    cases hb : Nat.beq a b with
    | false => rw [hb] at he; exact hk he
    | true =>
      rw [hb] at he
      refine hno ((?_ : aa (fun e : Ef => quiet e = false) _) e he)
      simp only [cond_true]
      split
      . split
        . split
          . exact aa.ret rfl
          . exact aa.fail
        . exact aa.fail
      . exact aa.fail
   refine hmk fun he => ?_
   have hc : ∀ v, elems ⟨nt, tm, sg', kl⟩ v = elems ⟨nt, tm, sg, kl⟩ v → iJ C ⟨nt, tm, sg', kl⟩ a b v = iJ C ⟨nt, tm, sg, kl⟩ a b v := fun v hel => by
    unfold iJ
    repeat' (first
     | rfl
     | (simp only [hel]; done)
     | split)
   generalize AS.ev C ⟨nt, tm, sg, kl⟩ x = v at he ⊢
   rw [hc v (Bf fun i hv => ?_)]
   . exact he
   subst hv
   refine hr i ?_
   refine (?_ : aa (fun e : Ef => i ∈ e.rd) _) e he
   unfold iJ
   split <;> first
    | exact aa.fail
    | contradiction
    | skip
   split
   . exact aa.fail
   . refine aa.bind (mg _ _) fun r hr' => ?_
     have := Ga r (hr' _ rfl) i rfl
     obtain ⟨sz, l, rd⟩ := r
     simp only at this
     subst this
     exact aa.when fun _ => aa.ex fun _ => aa.aN fun _ => aa.ret (by simp)
   . exact aa.fail
  case makeInterface t x => exact he
  case makeFunc fn a b => rw [hevs, hevs]; exact he
  case makeSlice t x y => exact hno (ML e he)
  case slice t x lo hi mx =>
   unfold oa at he ⊢
   rw [hev]
   simp only [hrg, hev] at he ⊢
   generalize AS.ev C ⟨nt, tm, sg, kl⟩ x = v at he ⊢
   by_cases hv : ∃ i, v = .buf i
   . obtain ⟨i, rfl⟩ := hv
     refine hno ((?_ : aa (fun e : Ef => quiet e = false) _) e he)
     split <;> first
      | exact aa.fail
      | contradiction
      | skip
     all_goals
      split
      . exact aa.fail
      . split
        . split
          . exact aa.when fun _ => aa.aN fun _ => aa.ret rfl
          . exact aa.fail
        . exact aa.fail
   . by_cases hp : ∃ i a, v = .ptr i a
     . obtain ⟨i, a, rfl⟩ := hp
       refine hno ((?_ : aa (fun e : Ef => quiet e = false) _) e he)
       split <;> first
        | exact aa.fail
        | contradiction
        | skip
       split
       . exact aa.fail
       . split
         . exact aa.when fun _ => aa.opt fun _ _ => aa.bind (et _ _ _ _ _) fun _ _ => by rw [p5]; exact aa.ret rfl
         . exact aa.fail
     cases v <;> first
      | exact absurd ⟨_, rfl⟩ hv
      | exact absurd ⟨_, _, rfl⟩ hp
      | skip
     all_goals (generalize (C.ti t).k = k at he ⊢; cases k <;> cases mx <;> exact he)
  case fieldAddr t x f => exact he
  case field t x f => exact he
  case indexAddr t x y =>
   unfold o7 at he ⊢
   simp only [jN] at he ⊢
   rw [hev, hev]
   generalize AS.ev C ⟨nt, tm, sg, kl⟩ x = v at he ⊢
   generalize AS.ev C ⟨nt, tm, sg, kl⟩ y = u at he ⊢
   by_cases hv : ∃ i, v = .buf i
   . obtain ⟨i, rfl⟩ := hv
     have hi : i ∈ e.rd := by
      refine (?_ : aa (fun e : Ef => i ∈ e.rd) _) e he
      split <;> first
       | exact aa.fail
       | contradiction
       | skip
      rename_i h
      cases h
      split
      . exact aa.fail
      . split
        . exact aa.when fun _ => aa.aN fun _ => aa.ret (by simp)
        . exact aa.fail
     generalize (C.ti t).k = k at he ⊢
     cases k <;> cases u <;> simp only [hr i hi] <;> exact he
   . cases v <;> first
       | exact absurd ⟨_, rfl⟩ hv
       | skip
     all_goals (generalize (C.ti t).k = k at he ⊢; cases k <;> cases u <;> exact he)
  case index t x y => exact he
  case typeAssert x _ t ok => exact he
  case extract x i => exact he
  case range t x => exact hno (MH e he)
  case makeMap t r => cases r with
   | none => exact hno (MK e he)
   | some r => exact he
  case mapUpdate t m x y => exact hno (MN e he)
  case mapEntry t m x => exact hno (MM e he)
  case entryStore t m b y => exact hno (MG e he)
  case lookup t m x ok =>
   unfold j7 eu at he ⊢
   rw [hev, hev]
   obtain ⟨p, hp, he⟩ := qi.1 he
   refine qi.2 ⟨p, hp, ?_⟩
   generalize AS.ev C ⟨nt, tm, sg, kl⟩ m = v at he ⊢
   cases v <;> try exact he
   rename_i i
   have hi : i ∈ e.rd := by
    refine (?_ : aa (fun e : Ef => i ∈ e.rd) _) e he
    simp only
    split
    . rw [force_eq]
      refine aa.when fun _ => aa.when fun _ => ?_
      split
      . exact aa.dv (fun _ _ => aa.ret (by simp)) (fun _ => aa.ret (by simp))
      . exact aa.ret (by simp)
    . exact aa.fail
   simp only [hr i hi]
   exact he
  case entry x =>
   unfold o6 at he ⊢
   simp only [jN] at he ⊢
   rw [hev]
   generalize AS.ev C ⟨nt, tm, sg, kl⟩ x = v at he ⊢
   cases v <;> try exact he
   rename_i k off
   cases off with
   | succ off => exact he
   | zero =>
     have hk : k ∈ e.rd ∧ ∀ i bs ck left last, aL sg k = .miter (.map i) bs ck left last → i ∈ e.rd := by
      refine (?_ : aa (fun e : Ef => k ∈ e.rd ∧ ∀ i bs ck left last, aL sg k = .miter (.map i) bs ck left last → i ∈ e.rd) _) e he
      simp only
      split
      . rename_i i bs ck left last hs
        split
        . refine aa.aN fun _ => aa.opt fun _ _ => aa.ret ⟨by simp, fun i' bs' ck' left' last' h' => ?_⟩
          rw [hs] at h'
          injection h' with h' _
          injection h' with h'
          subst h'
          simp
        . exact aa.fail
      . exact aa.fail
     simp only [hr k hk.1]
     have hk2 := hk.2
     simp only at he
     generalize aL sg k = ob at he hk2 ⊢
     cases ob <;> try exact he
     rename_i m bs ck left last
     cases m <;> try exact he
     rename_i i
     simp only [hr i (hk2 i bs ck left last rfl)]
     exact he
  case next x b =>
   unfold o8 at he ⊢
   rw [hev]
   cases hv : AS.ev C ⟨nt, tm, sg, kl⟩ x <;> rw [hv] at he <;> try exact he
   rename_i i off
   cases off with
   | succ off => cases b <;> exact he
   | zero => cases b with
     | false => exact he
     | true =>
       have hi : i ∈ e.rd := by
        refine (?_ : aa (fun e : Ef => i ∈ e.rd) _) e he
        simp only
        split
        . exact aa.c8 (fun _ => aa.opt fun _ _ => aa.aN fun _ => aa.ret (by simp)) (fun _ => aa.ret (by simp))
        . exact aa.fail
       simp only [hr i hi]
       exact he
  case call c =>
   unfold o5 at he ⊢
   have htg : target C ⟨nt, tm, sg', kl⟩ c = target C ⟨nt, tm, sg, kl⟩ c := EO fun _ _ => rfl
   rw [htg]
   generalize hcal : c.callee = cal at he ⊢
   cases cal
   . -- a function's value
     obtain ⟨p, hp, hc⟩ : ∃ p, target C ⟨nt, tm, sg, kl⟩ c = some p ∧ dr (cV C sg p.1 p.2) (fun b => b = e) := by
      cases ht : target C ⟨nt, tm, sg, kl⟩ c with
      | none => rw [ht] at he; exact he.elim
      | some p => rw [ht] at he; exact ⟨p, rfl, he⟩
     obtain ⟨pre, h1, h2⟩ := AH hc
     rw [hp]
     exact AG (Bs h1 hq hr) h2
   . rename_i r m
     simp only at he ⊢
     rw [hev, hevs]
     generalize AS.ev C ⟨nt, tm, sg, kl⟩ r = v at he ⊢
     cases v <;> try exact he
     obtain ⟨f, hm, hc⟩ := he
     obtain ⟨pre, h1, h2⟩ := AH hc
     exact ⟨f, hm, AG (Bs h1 hq hr) h2⟩
   . rename_i b
     simp only at he ⊢
     rw [hevs]
     rw [rl] at he ⊢
     generalize AS.aX C ⟨nt, tm, sg, kl⟩ c.args.toList = xs at he ⊢
     generalize c.argTypes.toList = ts at he ⊢
     have hbt : aa (fun e' => quiet e' = true → (∀ r ∈ e'.rd, aL sg' r = aL sg r) → jK C ⟨nt, tm, sg', kl⟩ b ts xs (fun b => b = e')) (jK C ⟨nt, tm, sg, kl⟩ b ts xs) := by
      unfold jK
      split
      . rename_i t x
        intro e he hq hr
        generalize (C.ti t).k = k at he ⊢
        cases k <;> try exact he
        cases x <;> try exact he
        rename_i i _
        have hi : i ∈ e.rd := by
         refine (?_ : aa (fun e : Ef => i ∈ e.rd) _) e he
         simp only
         split
         . exact aa.ret (by simp)
         . exact aa.fail
        simp only [hr i hi]
        exact he
      . rename_i t t2 x y
        refine fun e he hq _ => (?_ : ∀ {p : Prop}, quiet e = false → p) ((?_ : aa (fun e : Ef => quiet e = false) _) e he)
        . intro p h; rw [h] at hq; cases hq
        split
        . exact aa.fail
        . exact aa.fail
        . split
          . exact aa.fail
          . exact aa.when fun _ => aa.bind (mg _ _) fun r _ => aa.when fun _ => MD
        . exact aa.fail
      . rename_i t t2 x y
        refine fun e he hq _ => (?_ : ∀ {p : Prop}, quiet e = false → p) ((?_ : aa (fun e : Ef => quiet e = false) _) e he)
        . intro p h; rw [h] at hq; cases hq
        split
        . split
          . exact aa.fail
          . split
            . exact aa.bind (mg _ _) fun r _ => aa.when fun _ => aa.ret rfl
            . exact aa.fail
        . exact aa.fail
      . exact fun e he hq _ => absurd hq (by rw [MF e he]; exact Bool.false_ne_true)
      . exact fun e he _ _ => he
      . exact fun e he _ _ => he
      . exact fun e he _ _ => he
     exact hbt e he hq hr
  all_goals exact he

theorem GN (h : ∀ x ∈ gG o.op, s'.ev C x = s.ev C x) (he : cr C s o (fun b => b = e)) (hq : quiet e = true) (hr : ∀ r ∈ e.rd, aL s'.sg r = aL s.sg r) : cr C s' o (fun b => b = e) := by
 obtain ⟨nt, tm, sg, kl⟩ := s
 obtain ⟨nt', tm', sg', kl'⟩ := s'
 have h1 : cr C ⟨nt', tm', sg, kl'⟩ o (fun b => b = e) := by
  rw [w8 (s' := ⟨nt', tm', sg, kl'⟩) (s := ⟨nt, tm, sg, kl⟩) (fun x hx => h x hx) rfl]
  exact he
 exact GO h1 hq hr
end
end Go.VG
namespace Go.VG
open Go

mutual
theorem pZ {ks : List Nat} : ∀ {x : V}, x.free ks = true → x.kill ks = x
 | .undef, _ | .int .., _ | .bool _, _ | .str _, _ | .nilptr, _ | .nilIface, _ | .nilFunc, _ | .nilmap, _ | .list .., _ | .box .., _ => by simp [V.kill]
 | .ptr i _, h | .bptr i _ _, h | .buf i, h | .map i, h => by
   simp only [V.free, Bool.not_eq_true'] at h
   simp [V.kill, h]
 | .agg cs, h | .tuple cs, h => by simp [V.kill, rJ (by simpa [V.free] using h)]
 | .iface t x, h => by simp [V.kill, pZ (by simpa [V.free] using h)]
 | .func fn fs cs, h => by
   simp only [V.free, Bool.and_eq_true] at h
   simp [V.kill, rJ h.1, rJ h.2]
theorem rJ {ks : List Nat} : ∀ {x : List V}, V.kE ks x = true → V.cW ks x = x
 | [], _ => by simp [V.cW]
 | c :: cs, h => by
   simp only [V.kE, Bool.and_eq_true] at h
   simp [V.cW, pZ h.1, rJ h.2]
end
mutual
theorem tW {ks : List Nat} : ∀ {x : V}, (x.kill ks).lX = true → x.kill ks = x
 | .undef, _ | .int .., _ | .bool _, _ | .str _, _ | .nilptr, _ | .nilIface, _ | .nilFunc, _ | .nilmap, _ | .list .., _ | .box .., _ => by simp [V.kill]
 | .ptr i _, h | .bptr i _ _, h | .buf i, h | .map i, h => by
   cases hm : aP i ks with
   | true => simp [V.kill, hm, V.lX] at h
   | false => simp [V.kill, hm]
 | .agg cs, h | .tuple cs, h => by
   simp only [V.kill, V.lX] at h
   simp [V.kill, rL h]
 | .iface t x, h => by
   simp only [V.kill, V.lX] at h
   simp [V.kill, tW h]
 | .func fn fs cs, h => by
   simp only [V.kill, V.lX, Bool.and_eq_true] at h
   simp [V.kill, rL h.1, rL h.2]
theorem rL {ks : List Nat} : ∀ {x : List V}, V.kZ (V.cW ks x) = true → V.cW ks x = x
 | [], _ => by simp [V.cW]
 | c :: cs, h => by
   simp only [V.cW, V.kZ, Bool.and_eq_true] at h
   simp [V.cW, tW h.1, rL h.2]
end

theorem rp : ∀ (sg : List O) (i : Nat), aL sg i = sg.getD i .dead
 | [], i => by simp [aL]
 | o :: os, 0 => by simp [aL]
 | o :: os, i + 1 => by simp [aL, rp os i]

theorem vN : ∀ {up : List (Nat × O)} {rd : List Nat}, qU up rd = true → ∀ p ∈ up, p.1 ∉ rd
 | [], _, _, p, h => by simp at h
 | (i, o) :: r, rd, h, p, hp => by
   simp only [qU, Bool.and_eq_true, Bool.not_eq_true'] at h
   rcases List.mem_cons.1 hp with rfl | hp
   . exact oD.1 h.1
   . exact vN h.2 p hp
theorem vK : ∀ {l : List Nat} {n : Nat}, la l n = true → ∀ i ∈ l, i < n
 | [], _, _, i, h => by simp at h
 | k :: ks, n, h, i, hi => by
   simp only [la, Bool.and_eq_true] at h
   rcases List.mem_cons.1 hi with rfl | hi
   . exact Nat.le_of_ble_eq_true h.1
   . exact vK h.2 i hi
theorem F0 : ∀ {up : List (Nat × O)} {sg : List O} {r : Nat}, (∀ p ∈ up, p.1 ≠ r) → (cF sg up)[r]? = sg[r]?
 | [], sg, r, _ => rfl
 | (i, o) :: up, sg, r, h => by
   simp only [cF]
   rw [F0 fun p hp => h p (List.mem_cons_of_mem _ hp), fQ, List.getElem?_set_ne (h (i, o) (by simp))]

structure eV (s t : AS) : Prop where
 nt : s.nt = t.nt
 tm : ∀ u, lk s.tm u = lk t.tm u
 sg : s.sg = t.sg
 kl : ∀ i, aP i s.kl = true ↔ aP i t.kl = true
theorem eV.refl (s : AS) : eV s s := ⟨rfl, fun _ => rfl, rfl, fun _ => Iff.rfl⟩
theorem eV.symm {s t : AS} (h : eV s t) : eV t s := ⟨h.nt.symm, fun u => (h.tm u).symm, h.sg.symm, fun i => (h.kl i).symm⟩
theorem eV.trans {s t u : AS} (h : eV s t) (k : eV t u) : eV s u := ⟨h.nt.trans k.nt, fun x => (h.tm x).trans (k.tm x), h.sg.trans k.sg, fun i => (h.kl i).trans (k.kl i)⟩

theorem gX (s : AS) (d : Option Nat) (e : Ef) (t : Nat) : lk (s.app d e).tm t = if d = some t then e.v else (lk s.tm t).kill e.ks := by
 cases d with
 | none => simp only [AS.app]; rw [lP]; simp
 | some d =>
   simp only [AS.app, lk]
   rw [lP]
   by_cases h : d = t
   . subst h; simp
   . have : Nat.beq d t = false := by
       cases hb : Nat.beq d t with
       | false => rfl
       | true => exact absurd (Nat.eq_of_beq_eq_true hb) h
     simp [this, h]
theorem ig (s : AS) (d : Option Nat) (e : Ef) : (s.app d e).sg = gp (cF (eH e.ks s.sg) e.up) e.nw := rfl
theorem gq {s : AS} {d : Option Nat} {e : Ef} (h : quiet e = true) : (s.app d e).sg = s.sg := by
 obtain ⟨h1, h2, h3⟩ := nb.1 h
 rw [ig, h1, h2, h3]; rfl
theorem eV.app {s t : AS} (h : eV s t) (d : Option Nat) (e : Ef) : eV (s.app d e) (t.app d e) := by
 refine ⟨h.nt, fun u => ?_, ?_, fun i => ?_⟩
 . rw [gX, gX, h.tm]
 . rw [ig, ig, h.sg]
 . simp only [AS.app, gK, h.kl]
theorem tM {s : AS} {d : Option Nat} {e : Ef} {r : Nat} (hr : r < s.sg.length) (hu : ∀ p ∈ e.up, p.1 ≠ r) : aL (s.app d e).sg r = (aL s.sg r).kill e.ks := by
 rw [rp, rp, ig, sY, List.getD_eq_getElem?_getD, List.getD_eq_getElem?_getD, List.getElem?_append_left (by rw [mW, ot]; simpa using hr), F0 hu, ot,
  List.getElem?_map, List.getElem?_eq_getElem hr]
 rfl

section
variable {C : Ctx} {ops : List Oper}

structure dA (C : Ctx) (ops : List Oper) (o : Oper) (s : AS) (r : Rc) : Prop where
 ef : stepT C ops s o (fun b => b = r.e)
 d : r.d = o.dst
 us : r.us = looks ops o
 ov : r.ov = s.aX C (gG o.op)
 oo : (iT o).1 = 1 ∨ r.oo = jb s.sg r.e.rd
 lu : r.lu = iT o
 n : quiet r.e = false → r.n = s.sg.length
 dok : dD s o.dst = true

theorem zM : ∀ {l : List Operand} {t : Nat}, Operand.tmp t ∈ l → t ∈ tmpsOf l
 | [], _, h => by simp at h
 | x :: xs, t, h => by
   rcases List.mem_cons.1 h with h | h
   . subst h; simp [tmpsOf]
   . have := zM h
     cases x <;> simp [tmpsOf, this]
theorem Bx {s s' : AS} {x : Operand} (h : ∀ t, x = .tmp t → lk s'.tm t = lk s.tm t) : s'.ev C x = s.ev C x := by
 cases x with
 | tmp t => exact h t rfl
 | _ => rfl
theorem BO {sg sg' : List O} : ∀ {l : List Nat}, (∀ r ∈ l, aL sg' r = aL sg r) → jb sg' l = jb sg l
 | [], _ => rfl
 | r :: rs, h => by simp only [jb, h r (by simp), BO (l := rs) fun x hx => h x (List.mem_cons_of_mem _ hx)]

theorem P1 {s s' : AS} {o : Oper} {e : Ef} (hg : ∀ t ∈ pJ ops o.guard, lk s'.tm t = lk s.tm t) (ho : cr C s o (fun b => b = e) → cr C s' o (fun b => b = e)) (h : stepT C ops s o (fun b => b = e)) : stepT C ops s' o (fun b => b = e) := by
 unfold stepT at h ⊢
 cases hgd : o.guard with
 | none => rw [hgd] at h; exact ho h
 | some p =>
   obtain ⟨j, want⟩ := p
   rw [hgd] at h hg
   simp only at h ⊢
   cases hd : cq ops j with
   | none => rw [hd] at h; exact h
   | some t =>
     rw [hd] at h
     simp only at h ⊢
     rw [hg t (by simp [pJ, hd])]
     generalize lk s.tm t = v at h ⊢
     cases v <;> try exact h
     rotate_left
     . rename_i l
       cases l with
       | nil => exact h
       | cons _ _ => exact h
     rename_i b
     cases want <;> cases b <;> simp only [cond_true, cond_false, jD, c8] at h ⊢ <;> first
      | exact h
      | exact ho h

theorem ED {s : AS} {o : Oper} {e : Ef} (h : stepT C ops s o (fun b => b = e)) : ∀ t ∈ pJ ops o.guard, (∃ b, lk s.tm t = .bool b) ∨ lk s.tm t = .tuple [] := by
 intro t ht
 unfold stepT at h
 cases hgd : o.guard with
 | none => rw [hgd] at ht; simp [pJ] at ht
 | some p =>
   obtain ⟨j, want⟩ := p
   rw [hgd] at h ht
   simp only [pJ] at ht
   simp only at h
   cases hd : cq ops j with
   | none => rw [hd] at ht; simp at ht
   | some t' =>
     rw [hd] at ht h
     simp only [List.mem_singleton] at ht
     subst ht
     simp only at h
     generalize lk s.tm t = v at h
     cases v <;> first
      | exact .inl ⟨_, rfl⟩
      | exact h.elim
      | (rename_i l; cases l with
         | nil => exact .inr rfl
         | cons _ _ => exact h.elim)

theorem dA.loc {s s' : AS} {o : Oper} {r : Rc} (h : dA C ops o s r) (hnt : s'.nt = s.nt) (hl : ∀ t ∈ looks ops o, lk s'.tm t = lk s.tm t) (hsg : s'.sg = s.sg ∨ (quiet r.e = true ∧ ∀ i ∈ r.e.rd, aL s'.sg i = aL s.sg i)) :
   dA C ops o s' r := by
 have hev : ∀ x ∈ gG o.op, s'.ev C x = s.ev C x := fun x hx => Bx fun t ht => hl t (List.mem_append_left _ (zM (ht ▸ hx)))
 refine ⟨?_, h.d, h.us, ?_, ?_, h.lu, fun hq => ?_, ?_⟩
 . refine P1 (fun t ht => hl t (List.mem_append_right _ ht)) (fun he => ?_) h.ef
   rcases hsg with hsg | ⟨hq, hr⟩
   . rw [w8 hev hsg]; exact he
   . exact GN hev he hq hr
 . rw [h.ov, kC hev]
 . refine h.oo.imp id fun hoo => ?_
   rw [hoo]
   rcases hsg with hsg | ⟨_, hr⟩
   . rw [hsg]
   . exact (BO hr).symm
 . rcases hsg with hsg | ⟨hq', _⟩
   . rw [hsg]; exact h.n hq
   . rw [hq'] at hq; cases hq
 . have := h.dok
   cases hd : o.dst with
   | none => rfl
   | some d => rw [hd] at this; simp only [dD] at this ⊢; rw [hnt]; exact this

theorem dA.eqv {s s' : AS} {o : Oper} {r : Rc} (h : dA C ops o s r) (e : eV s s') : dA C ops o s' r :=
 h.loc e.nt.symm (fun t _ => (e.tm t).symm) (.inl e.sg.symm)

theorem BK {ks : List Nat} : ∀ {l : List V}, V.kE ks l = true → ∀ x ∈ l, x.free ks = true
 | [], _, x, h => by simp at h
 | c :: cs, h, x, hx => by
   simp only [V.kE, Bool.and_eq_true] at h
   rcases List.mem_cons.1 hx with rfl | hx
   . exact h.1
   . exact BK h.2 x hx
theorem Ez : ∀ {l : List V}, V.kZ l = true → ∀ x ∈ l, x.lX = true
 | [], _, x, h => by simp at h
 | c :: cs, h, x, hx => by
   simp only [V.kZ, Bool.and_eq_true] at h
   rcases List.mem_cons.1 hx with rfl | hx
   . exact h.1
   . exact Ez h.2 x hx
theorem w9 {s : AS} : ∀ {l : List Operand} {x : Operand}, x ∈ l → s.ev C x ∈ s.aX C l
 | [], _, h => by simp at h
 | y :: ys, x, h => by
   rcases List.mem_cons.1 h with rfl | h
   . simp [AS.aX]
   . simp only [AS.aX, List.mem_cons]; exact .inr (w9 h)
theorem BL {ks : List Nat} {sg : List O} : ∀ {l : List Nat}, mJ ks (jb sg l) = true → ∀ i ∈ l, (aL sg i).kill ks = aL sg i
 | [], _, i, h => by simp at h
 | k :: l, h, i, hi => by
   simp only [jb] at h
   have hrest : mJ ks (jb sg l) = true := by
    cases ho : aL sg k <;> rw [ho] at h <;> simp only [mJ, Bool.and_eq_true] at h <;> first | exact h | exact h.2
   rcases List.mem_cons.1 hi with rfl | hi
   . cases ho : aL sg i <;> try rfl
     all_goals
      rw [ho] at h
      simp only [mJ, Bool.and_eq_true] at h
      first
      | (simp only [O.kill, rJ h.1]; done)
      | (simp only [O.kill, pZ h.1]; done)
   . exact BL hrest i hi
theorem EA {ks : List Nat} {sg sg' : List O} : ∀ {l : List Nat}, ns (jb sg' l) = true → ∀ i ∈ l, aL sg' i = (aL sg i).kill ks → aL sg' i = aL sg i
 | [], _, i, h, _ => by simp at h
 | k :: l, h, i, hi, he => by
   simp only [jb] at h
   have hrest : ns (jb sg' l) = true := by
    cases ho : aL sg' k <;> rw [ho] at h <;> simp only [ns, Bool.and_eq_true] at h <;> first | exact h | exact h.2 | cases h
   rcases List.mem_cons.1 hi with rfl | hi
   . cases ho : aL sg i <;> rw [ho] at he <;> try exact he
     all_goals
      simp only [O.kill] at he
      rw [he] at h
      simp only [ns, Bool.and_eq_true] at h
      first
      | (rw [he, rL h.1]; done)
      | (rw [he, tW h.1]; done)
   . exact EA hrest i hi he

theorem w3 {d : Option Nat} {us : List Nat} (h : r0 d us = true) {t : Nat} (ht : t ∈ us) : d ≠ some t := by
 intro e
 subst e
 simp only [r0, Bool.not_eq_true'] at h
 exact oD.1 h ht

theorem Bl : ∀ {a b : List Nat}, tD a b = true → a = b
 | [], [], _ => rfl
 | x :: xs, y :: ys, h => by
   simp only [tD, Bool.and_eq_true] at h
   rw [Nat.eq_of_beq_eq_true h.1, Bl h.2]
 | [], _ :: _, h => by cases h
 | _ :: _, [], h => by cases h
theorem CW {o : Oper} (h : (iT o).1 = 1) : ∃ t m x, o.guard = none ∧ o.op = .lookup t (.tmp m) (.tmp x) false ∧ iT o = (1, [t, m, x]) := by
 unfold iT at h ⊢
 split at h <;> first
  | (rename_i t m x hg ho; exact ⟨t, m, x, hg, ho, rfl⟩)
  | (cases h; done)
theorem MR {o : Oper} (h : (iT o).1 = 2) : ∃ t m x, o.guard = none ∧ o.op = .mapEntry t (.tmp m) (.tmp x) ∧ iT o = (2, [t, m, x]) := by
 unfold iT at h ⊢
 split at h <;> first
  | (rename_i t m x hg ho; exact ⟨t, m, x, hg, ho, rfl⟩)
  | (cases h; done)
theorem KL {es : List (V × Int)} {x y : V} {q : Int} (h : cB es x = none) : cB (es ++ [(y, q)]) x = cond (iR y x) (some (es.length, q)) none := by
 induction es with
 | nil => simp only [List.nil_append, cB]; cases iR y x <;> rfl
 | cons p es ih =>
   obtain ⟨z, r⟩ := p
   simp only [List.cons_append, cB] at h ⊢
   cases hz : iR z x with
   | true => rw [hz] at h; simp at h
   | false =>
     rw [hz] at h
     simp only [cond_false] at h ⊢
     have hn : cB es x = none := by
      cases he : cB es x with
      | none => rfl
      | some p => rw [he] at h; cases h
     rw [ih hn]
     cases iR y x <;> simp
theorem KP {es : List (V × Int)} {x y : V} (h : cB es x = none) : getM (es ++ [(y, 0)]) x = getM es x := by
 unfold getM
 rw [KL h, h]
 cases iR y x <;> rfl
theorem KQ {sg : List O} {i : Nat} {o : O} (h : i < sg.length) : aL (ec sg i o) i = o := by
 have : ∀ (sg : List O) (i : Nat), i < sg.length → aL (ec sg i o) i = o := by
  intro sg
  induction sg with
  | nil => intro i h; simp at h
  | cons a r ih =>
    intro i h
    cases i with
    | zero => rfl
    | succ i => exact ih i (by simpa using h)
 exact this sg i h
theorem dA.look {s : AS} {o : Oper} {r : Rc} (h : dA C ops o s r) (hl : (iT o).1 = 1) : quiet r.e = true ∧ ∀ i ∈ r.e.rd, ∃ ag sh es bs ck, aL s.sg i = .map ag sh es bs ck := by
 obtain ⟨t, m, x, hg, ho, _⟩ := CW hl
 have ef : j7 C s t (.tmp m) (.tmp x) false (fun b => b = r.e) := by
  have := h.ef
  unfold stepT at this
  rw [hg] at this
  simp only [cr, ho] at this
  exact this
 unfold j7 eu at ef
 obtain ⟨p, hp, ef⟩ := qi.1 ef
 cases hm : AS.ev C s (.tmp m) <;> rw [hm] at ef <;> try exact ef.elim
 rename_i i
 simp only at ef
 cases hs : aL s.sg i <;> rw [hs] at ef <;> try exact ef.elim
 rename_i ag sh es bs ck
 simp only [force_eq] at ef
 cases hw : (tc ag p.1 && qv sh p.2) with
 | false => rw [hw] at ef; exact ef.elim
 | true =>
   cases hf : im ag sh (AS.ev C s (.tmp x)) with
   | false => rw [hw, hf] at ef; exact ef.elim
   | true =>
     rw [hw, hf] at ef
     have ef : (⟨.int .i64 (getM es (AS.ev C s (.tmp x))), [], [], [], [i]⟩ : Ef) = r.e := ef
     rw [← ef]
     refine ⟨rfl, fun k hk => ?_⟩
     simp at hk
     subst hk
     exact ⟨_, _, _, _, _, hs⟩
theorem dA.pair {s : AS} {oj oi : Oper} {rj ri : Rc} (hj : dA C ops oj s rj) (hi : dA C ops oi s ri) (h : s5 rj ri = true) (a2 : r0 oi.dst (looks ops oj) = true) : quiet rj.e = true ∧ ri.e.ks = [] ∧ dA C ops oj (s.app oi.dst ri.e) rj := by
 unfold s5 at h
 simp only [Bool.and_eq_true] at h
 rw [hj.lu, hi.lu] at h
 obtain ⟨l1, l2, l3⟩ := h
 obtain ⟨t, m, x, hgj, hoj, ej⟩ := CW (Nat.eq_of_beq_eq_true l1)
 obtain ⟨t', m', x', hgi, hoi, ei⟩ := MR (Nat.eq_of_beq_eq_true l2)
 rw [ej, ei] at l3
 have l3 := Bl l3
 simp only [List.cons.injEq, and_true] at l3
 obtain ⟨rfl, rfl, rfl⟩ := l3
 have efj : j7 C s t (.tmp m) (.tmp x) false (fun b => b = rj.e) := by
  have := hj.ef
  unfold stepT at this
  rw [hgj] at this
  simp only [cr, hoj] at this
  exact this
 have efi : kA C s t (.tmp m) (.tmp x) (fun b => b = ri.e) := by
  have := hi.ef
  unfold stepT at this
  rw [hgi] at this
  simp only [cr, hoi] at this
  exact this
 unfold j7 eu at efj
 obtain ⟨p, hp, efj⟩ := qi.1 efj
 unfold kA eu at efi
 obtain ⟨p', hp', efi⟩ := qi.1 efi
 rw [hp] at hp'; cases hp'
 have hlm : Operand.tmp m ∈ gG oj.op := by rw [hoj]; simp [gG]
 have hlx : Operand.tmp x ∈ gG oj.op := by rw [hoj]; simp [gG]
 cases hm : AS.ev C s (.tmp m) <;> rw [hm] at efj efi <;> try exact efj.elim
 rename_i i
 simp only at efj efi
 cases hs : aL s.sg i <;> rw [hs] at efj efi <;> try exact efj.elim
 rename_i ag sh es bs ck
 simp only [force_eq] at efj efi
 have hil : i < s.sg.length := (dY hs (by simp)).2
 cases hw : (tc ag p.1 && qv sh p.2) with
 | false => rw [hw] at efj; exact efj.elim
 | true =>
   cases hf : im ag sh (AS.ev C s (.tmp x)) with
   | false => rw [hw, hf] at efj; exact efj.elim
   | true =>
     rw [hw, hf] at efj efi
     have efj : (⟨.int .i64 (getM es (AS.ev C s (.tmp x))), [], [], [], [i]⟩ : Ef) = rj.e := efj
     have hri : ∃ v es' bs' ck', ri.e = ⟨v, [], [(i, .map ag sh es' bs' ck')], [], [i]⟩ ∧ getM es' (AS.ev C s (.tmp x)) = getM es (AS.ev C s (.tmp x)) := by
      obtain ⟨_, k1, k2⟩ := efi
      cases hfd : cB es (AS.ev C s (.tmp x)) with
      | some r =>
        have := k1 r hfd
        exact ⟨_, _, _, _, (show _ = ri.e from this).symm, rfl⟩
      | none =>
        have := k2 hfd
        exact ⟨_, _, _, _, (show _ = ri.e from this).symm, KP hfd⟩
     obtain ⟨v, es', bs', ck', hri, hget⟩ := hri
     have hks : ri.e.ks = [] := by rw [hri]
     have hlk : ∀ u ∈ looks ops oj, lk (s.app oi.dst ri.e).tm u = lk s.tm u := fun u hu => by
      rw [gX, if_neg (w3 a2 hu), hks, fy]
     have hev : ∀ y ∈ gG oj.op, (s.app oi.dst ri.e).ev C y = s.ev C y := fun y hy => Bx fun u hu => hlk u (List.mem_append_left _ (zM (hu ▸ hy)))
     refine ⟨by rw [← efj]; rfl, hks, ?_⟩
     have hsg : (s.app oi.dst ri.e).sg = ec s.sg i (.map ag sh es' bs' ck') := by
      rw [hri]
      simp [AS.app, eH, cF, gp]
     refine ⟨?_, hj.d, hj.us, ?_, .inl (Nat.eq_of_beq_eq_true l1), hj.lu, fun hq => ?_, ?_⟩
     . unfold stepT
       rw [hgj]
       simp only [cr, hoj]
       unfold j7 eu
       refine qi.2 ⟨p, hp, ?_⟩
       rw [hev _ hlm, hm]
       simp only
       rw [hsg, KQ hil]
       simp only [force_eq]
       rw [hev _ hlx, hw, hf]
       show (⟨.int .i64 (getM es' (AS.ev C s (.tmp x))), [], [], [], [i]⟩ : Ef) = rj.e
       rw [hget]
       exact efj
     . rw [hj.ov, kC hev]
     . rw [← efj] at hq; cases hq
     . have := hj.dok
       cases hd : oj.dst with
       | none => rfl
       | some d => rw [hd] at this; simp only [dD] at this ⊢; exact this
theorem MS {o : Oper} (h : (iT o).1 = 3) : o.guard = none ∧ ∃ t, o.op = .alloc t := by
 unfold iT at h
 split at h
 . cases h
 . cases h
 . rename_i h1 h2; exact ⟨h1, _, h2⟩
 . cases h
mutual
theorem tV (a b : List Nat) : ∀ x : V, (x.kill a).kill b = (x.kill b).kill a
 | .undef | .int .. | .bool _ | .str _ | .list .. | .nilptr | .box .. | .nilIface | .nilFunc | .nilmap => by simp only [V.kill]
 | .ptr i _ | .bptr i _ _ | .buf i | .map i => by
   simp only [V.kill]
   cases h1 : aP i a <;> cases h2 : aP i b <;> simp [V.kill, h1, h2]
 | .agg cs | .tuple cs => by simp only [V.kill]; rw [rI a b cs]
 | .iface t x => by simp only [V.kill]; rw [tV a b x]
 | .func f xs ys => by simp only [V.kill]; rw [rI a b xs, rI a b ys]
theorem rI (a b : List Nat) : ∀ l : List V, V.cW b (V.cW a l) = V.cW a (V.cW b l)
 | [] => by simp only [V.cW]
 | x :: xs => by simp only [V.cW]; rw [tV a b x, rI a b xs]
end
theorem N7 (a b : List Nat) (o : O) : (o.kill a).kill b = (o.kill b).kill a := by
 cases o <;> simp only [O.kill]
 . rw [rI]
 . rw [tV]
mutual
theorem CE (a : List Nat) : ∀ x : V, x.pure = true → x.kill a = x
 | .undef, h | .ptr .., h | .bptr .., h | .buf _, h | .map _, h => by simp [V.pure] at h
 | .int .., _ | .bool _, _ | .str _, _ | .list .., _ | .nilptr, _ | .box .., _ | .nilIface, _ | .nilFunc, _ | .nilmap, _ => by simp only [V.kill]
 | .agg cs, h | .tuple cs, h => by simp only [V.pure] at h; simp only [V.kill]; rw [pY a cs h]
 | .iface t x, h => by simp only [V.pure] at h; simp only [V.kill]; rw [CE a x h]
 | .func f xs ys, h => by
   simp only [V.pure, Bool.and_eq_true] at h
   simp only [V.kill]; rw [pY a xs h.1, pY a ys h.2]
theorem pY (a : List Nat) : ∀ l : List V, V.eJ l = true → V.cW a l = l
 | [], _ => by simp only [V.cW]
 | x :: xs, h => by
   simp only [V.eJ, Bool.and_eq_true] at h
   simp only [V.cW]; rw [CE a x h.1, pY a xs h.2]
end
theorem N8 {a : List Nat} {o : O} (h : o.kill a = .dead) : o = .dead := by cases o <;> simp only [O.kill] at h <;> first | rfl | cases h
theorem dA.laid {s : AS} {o : Oper} {r : Rc} (h : dA C ops o s r) (hl : (iT o).1 = 3) (hn : r.e.nw = []) :
   ∃ k z, r.e = ⟨.ptr k 0, [k], [(k, .cells z)], [], []⟩ ∧ aL s.sg k = .dead ∧ k < s.sg.length ∧ V.eJ z = true ∧ ∀ s' : AS, s'.sg.length = s.sg.length → s'.nt = s.nt → aL s'.sg k = .dead → dA C ops o s' r := by
 obtain ⟨hg, t, ho⟩ := MS hl
 have hu : gG o.op = [] := by rw [ho]; rfl
 have ef : jJ C s o.dst t (fun b => b = r.e) := by
  have := h.ef
  unfold stepT at this
  rw [hg] at this
  simp only [cr, ho] at this
  exact this
 have hold : ¬ jI C s t (fun b => b = r.e) := fun q => by
  unfold jI at q
  cases hk : (C.ti t).k <;> rw [hk] at q <;> try exact q.elim
  all_goals
   simp only [force_eq, de] at q
   cases hz : (!((C.ti t).zero).dz) with
   | false => rw [hz] at q; exact q
   | true =>
     rw [hz] at q
     have q : _ = r.e := q
     rw [← q] at hn
     cases hn
 unfold jJ at ef
 cases hd : o.dst with
 | none => rw [hd] at ef; exact absurd ef hold
 | some d =>
   rw [hd] at ef
   simp only at ef
   cases hr : C.rsv d with
   | none => rw [hr] at ef; exact absurd ef hold
   | some k =>
     rw [hr] at ef
     simp only at ef
     cases hs : aL s.sg k <;> rw [hs] at ef <;> try exact ef.elim
     simp only at ef
     cases hk : (C.ti t).k <;> rw [hk] at ef <;> try exact ef.elim
     all_goals
      simp only [force_eq] at ef
      cases hb : (Nat.blt k s.sg.length && !((C.ti t).zero).dz && V.eJ ((C.ti t).zero).cells) with
      | false => rw [hb] at ef; exact ef.elim
      | true =>
        rw [hb] at ef
        have ef : (⟨.ptr k 0, [k], [(k, .cells ((C.ti t).zero).cells)], [], []⟩ : Ef) = r.e := ef
        have hb2 := hb
        simp only [Bool.and_eq_true, Bool.not_eq_true'] at hb2
        refine ⟨k, _, ef.symm, hs, Nat.le_of_ble_eq_true hb2.1.1, hb2.2, fun s' h1 h2 h3 => ⟨?_, h.d, h.us, ?_, .inr ?_, h.lu, fun q => by rw [h1]; exact h.n q, ?_⟩⟩
        . unfold stepT
          rw [hg]
          simp only [cr, ho]
          unfold jJ
          rw [hd]
          simp only
          rw [hr]
          simp only
          rw [h3]
          simp only
          rw [hk]
          simp only [force_eq]
          rw [h1, hb]
          exact ef
        . rw [h.ov, hu]; rfl
        . rcases h.oo with q | q
          . rw [hl] at q; cases q
          . rw [q, ← ef]; rfl
        . have := h.dok
          rw [hd] at this ⊢
          simp only [dD] at this ⊢
          rw [h2]; exact this
theorem Ph {sg : List O} {a b : Nat} {x y : O} (hab : a ≠ b) (hx : x.kill [b] = x) (hy : y.kill [a] = y) :
   cF (eH [b] (cF (eH [a] sg) [(a, x)])) [(b, y)] = cF (eH [a] (cF (eH [b] sg) [(b, y)])) [(a, x)] := by
 simp only [cF, ot, fQ]
 apply List.ext_getElem?
 intro i
 simp only [List.getElem?_set, List.getElem?_map, List.length_set, List.length_map]
 by_cases h1 : b = i
 . subst h1
   by_cases h2 : b < sg.length
   . simp [h2, hab, hy]
   . simp [h2, hab]
 . by_cases h2 : a = i
   . subst h2
     by_cases h3 : a < sg.length
     . simp [h1, h3, hx]
     . simp [h1, h3]
   . simp only [if_neg h1, if_neg h2]
     cases sg[i]? with
     | none => rfl
     | some o => simp only [Option.map_some]; rw [N7]
theorem dA.swap {s : AS} {oj oi : Oper} {rj ri : Rc} (hj : dA C ops oj s rj) (hi : dA C ops oi (s.app oj.dst rj.e) ri) (h : indep rj ri = true) :
   dA C ops oi s ri ∧ dA C ops oj (s.app oi.dst ri.e) rj ∧ eV ((s.app oi.dst ri.e).app oj.dst rj.e) ((s.app oj.dst rj.e).app oi.dst ri.e) := by
 unfold indep at h
 simp only [Bool.and_eq_true] at h
 obtain ⟨⟨⟨a1, a2⟩, a3⟩, h⟩ := h
 rw [hj.d, hi.us] at a1
 rw [hi.d, hj.us] at a2
 rw [hi.d, hj.d] at a3
 have hne : ∀ t, oj.dst = some t → oi.dst = some t → False := fun t h1 h2 => by
  rw [h1, h2] at a3; simp [B6] at a3
 -- what i looks at, ahead of j
 have lki : ∀ t ∈ looks ops oi, lk (s.app oj.dst rj.e).tm t = (lk s.tm t).kill rj.e.ks := fun t ht => by
  rw [gX, if_neg (w3 a1 ht)]
 have lkj : ∀ t ∈ looks ops oj, lk (s.app oi.dst ri.e).tm t = (lk s.tm t).kill ri.e.ks := fun t ht => by
  rw [gX, if_neg (w3 a2 ht)]
 have hfin : (rj.e.ks = [] ∨ ri.e.ks = []) → rj.e.v.kill ri.e.ks = rj.e.v → ri.e.v.kill rj.e.ks = ri.e.v → ((s.app oi.dst ri.e).app oj.dst rj.e).sg = ((s.app oj.dst rj.e).app oi.dst ri.e).sg →
    eV ((s.app oi.dst ri.e).app oj.dst rj.e) ((s.app oj.dst rj.e).app oi.dst ri.e) := fun hks hv1 hv2 hsg => by
  refine ⟨rfl, fun t => ?_, hsg, fun i => by simp only [AS.app, gK]; exact or_left_comm⟩
  rw [gX, gX, gX, gX]
  by_cases e1 : oj.dst = some t
  . rw [if_pos e1, if_pos e1, if_neg (fun e2 => hne t e1 e2), hv1]
  . rw [if_neg e1, if_neg e1]
    by_cases e2 : oi.dst = some t
    . rw [if_pos e2, if_pos e2, hv2]
    . rw [if_neg e2, if_neg e2]
      rcases hks with hks | hks <;> rw [hks, fy, fy]
 cases hpl : s5 rj ri with
 | true =>
   have hqj : quiet rj.e = true := by
    have hp2 := hpl
    unfold s5 at hp2
    simp only [Bool.and_eq_true] at hp2
    rw [hj.lu] at hp2
    exact (hj.look (Nat.eq_of_beq_eq_true hp2.1)).1
   obtain ⟨j1, j2, j3⟩ := nb.1 hqj
   have hsi : dA C ops oi s ri := hi.loc rfl (fun t ht => by rw [lki t ht, j1, fy]) (.inl (gq hqj).symm)
   rw [← hi.d] at a2
   obtain ⟨_, i1, hsj⟩ := hj.pair hsi hpl (hi.d ▸ a2)
   refine ⟨hsi, hsj, hfin (.inl j1) (by rw [i1, fy]) (by rw [j1, fy]) ?_⟩
   rw [gq hqj, ig, ig, gq hqj]
 | false =>
 rw [hpl, Bool.false_or] at h
 cases hqj : quiet rj.e with
 | true =>
   obtain ⟨j1, j2, j3⟩ := nb.1 hqj
   have hsi : dA C ops oi s ri := hi.loc rfl (fun t ht => by rw [lki t ht, j1, fy]) (.inl (gq hqj).symm)
   cases hqi : quiet ri.e with
   | true =>
     obtain ⟨i1, i2, i3⟩ := nb.1 hqi
     refine ⟨hsi, hj.loc rfl (fun t ht => by rw [lkj t ht, i1, fy]) (.inl (gq hqi)), hfin (.inl j1) (by rw [i1, fy]) (by rw [j1, fy]) ?_⟩
     rw [gq hqj, gq hqi, gq hqi, gq hqj]
   | false =>
     rw [hqj, hqi] at h
     simp only [Bool.and_eq_true] at h
     obtain ⟨⟨⟨⟨b1, b2⟩, b3⟩, b4⟩, b5⟩ := h
     rw [hj.ov] at b1
     have hb2 : ∀ r ∈ rj.e.rd, (aL s.sg r).kill ri.e.ks = aL s.sg r := fun r hr => by
      rcases hj.oo with q | q
      . obtain ⟨_, _, _, _, _, hm⟩ := (hj.look q).2 r hr
        rw [hm]; rfl
      . rw [q] at b2; exact BL b2 r hr
     have hn : ri.n = s.sg.length := by rw [hi.n hqi, gq hqj]
     rw [hn] at b5
     refine ⟨hsi, hj.loc rfl (fun t ht => ?_) (.inr ⟨hqj, fun r hr => ?_⟩), hfin (.inl j1) (pZ b3) (by rw [j1, fy]) ?_⟩
     . rw [lkj t ht]
       rcases List.mem_append.1 ht with ht | ht
       . have : ∀ (l : List Operand) t, t ∈ tmpsOf l → Operand.tmp t ∈ l := by
           intro l
           induction l with
           | nil => intro t h; simp [tmpsOf] at h
           | cons x xs ih =>
             intro t h
             cases x <;> simp only [tmpsOf, List.mem_cons] at h ⊢ <;> first
              | exact .inr (ih t h)
              | (rcases h with rfl | h
                 . exact .inl rfl
                 . exact .inr (ih t h))
         exact pZ (BK b1 _ (w9 (this _ _ ht)))
       . rcases ED hj.ef t ht with ⟨b, hb⟩ | hb <;> rw [hb] <;> simp [V.kill, V.cW]
     . rw [tM (vK b5 r hr) (fun p hp e => vN b4 p hp (e ▸ hr)), hb2 r hr]
     . rw [gq hqj, ig, ig, gq hqj]
 | false =>
   cases hqi : quiet ri.e with
   | false =>
     rw [hqj, hqi] at h
     have h : zO rj ri = true := h
     have ht : rj.e.nw = [] ∧ ri.e.nw = [] ∧ rj.lu.1 = 3 ∧ ri.lu.1 = 3 ∧ ∀ a b, rj.e.ks = [a] → ri.e.ks = [b] → a ≠ b := by
      unfold zO at h
      split at h
      . rename_i e1 e2
        simp only [Bool.and_eq_true, Bool.not_eq_true'] at h
        rw [e1, e2]
        refine ⟨rfl, rfl, Nat.eq_of_beq_eq_true h.1.1, Nat.eq_of_beq_eq_true h.1.2, fun a b ha hb q => ?_⟩
        cases ha; cases hb; subst q
        have := h.2
        rw [Nat.beq_refl] at this
        cases this
      . cases h
     obtain ⟨t1, t2, t3, t4, t5⟩ := ht
     rw [hj.lu] at t3
     rw [hi.lu] at t4
     obtain ⟨a, x, ej, hdj, hla, hpx, hSj⟩ := hj.laid t3 t1
     obtain ⟨b, y, ei, hdi, hlb, hpy, hSi⟩ := hi.laid t4 t2
     have hab : a ≠ b := t5 a b (by rw [ej]) (by rw [ei])
     have hlj : (s.app oj.dst rj.e).sg.length = s.sg.length := by rw [CM, t1]; rfl
     have hli : (s.app oi.dst ri.e).sg.length = s.sg.length := by rw [CM, t2]; rfl
     have hb0 : aL s.sg b = .dead := by
      have := tM (s := s) (d := oj.dst) (e := rj.e) (r := b) (by rw [hlj] at hlb; exact hlb) (fun p hp q => by
       rw [ej] at hp
       simp only [List.mem_singleton] at hp
       subst hp
       exact hab q)
      rw [hdi] at this
      exact N8 this.symm
     have ha1 : aL (s.app oi.dst ri.e).sg a = .dead := by
      have := tM (s := s) (d := oi.dst) (e := ri.e) (r := a) hla (fun p hp q => by
       rw [ei] at hp
       simp only [List.mem_singleton] at hp
       subst hp
       exact hab q.symm)
      rw [this, hdj]; rfl
     have hma : aP a [b] = false := by simp only [aP, Bool.or_false]; cases q : Nat.beq a b with | false => simp [aP, q] | true => exact absurd (Nat.eq_of_beq_eq_true q) hab
     have hmb : aP b [a] = false := by cases q : Nat.beq b a with | false => simp [aP, q] | true => exact absurd (Nat.eq_of_beq_eq_true q).symm hab
     refine ⟨hSi s hlj.symm rfl hb0, hSj _ hli rfl ha1, ⟨rfl, fun t => ?_, ?_, fun i => by simp only [AS.app, gK]; exact or_left_comm⟩⟩
     . rw [gX, gX, gX, gX]
       by_cases e1 : oj.dst = some t
       . rw [if_pos e1, if_pos e1, if_neg (fun e2 => hne t e1 e2), ej, ei]
         simp [V.kill, hma]
       . rw [if_neg e1, if_neg e1]
         by_cases e2 : oi.dst = some t
         . rw [if_pos e2, if_pos e2, ej, ei]
           simp [V.kill, hmb]
         . rw [if_neg e2, if_neg e2, tV]
     . rw [ig, ig, ig, ig, ej, ei]
       show cF (eH [a] (cF (eH [b] s.sg) [(b, .cells y)])) [(a, .cells x)] = cF (eH [b] (cF (eH [a] s.sg) [(a, .cells x)])) [(b, .cells y)]
       exact (Ph hab (by simp only [O.kill]; rw [pY _ _ hpx]) (by simp only [O.kill]; rw [pY _ _ hpy])).symm
   | true =>
     obtain ⟨i1, i2, i3⟩ := nb.1 hqi
     rw [hqj, hqi] at h
     simp only [Bool.and_eq_true] at h
     obtain ⟨⟨⟨⟨b1, b2⟩, b3⟩, b4⟩, b5⟩ := h
     rw [hi.ov] at b1
     have hb2 : ∀ r ∈ ri.e.rd, aL (s.app oj.dst rj.e).sg r = (aL s.sg r).kill rj.e.ks → aL (s.app oj.dst rj.e).sg r = aL s.sg r := fun r hr he => by
      rcases hi.oo with q | q
      . obtain ⟨_, _, _, _, _, hm⟩ := (hi.look q).2 r hr
        rw [hm] at he ⊢
        cases hg : aL s.sg r <;> rw [hg] at he <;> first
         | (cases he; done)
         | exact he
      . rw [q] at b2; exact EA b2 r hr he
     rw [hj.n hqj] at b5
     have hlk : ∀ t ∈ looks ops oi, lk s.tm t = lk (s.app oj.dst rj.e).tm t := fun t ht => by
      have h1 := lki t ht
      rw [h1]
      refine (tW ?_).symm
      rw [← h1]
      rcases List.mem_append.1 ht with ht | ht
      . have : ∀ (l : List Operand) t, t ∈ tmpsOf l → Operand.tmp t ∈ l := by
          intro l
          induction l with
          | nil => intro t h; simp [tmpsOf] at h
          | cons x xs ih =>
            intro t h
            cases x <;> simp only [tmpsOf, List.mem_cons] at h ⊢ <;> first
             | exact .inr (ih t h)
             | (rcases h with rfl | h
                . exact .inl rfl
                . exact .inr (ih t h))
        exact Ez b1 _ (w9 (this _ _ ht))
      . rcases ED hi.ef t ht with ⟨b, hb⟩ | hb <;> rw [hb] <;> rfl
     refine ⟨hi.loc rfl hlk (.inr ⟨hqi, fun r hr => ?_⟩), hj.loc rfl (fun t ht => by rw [lkj t ht, i1, fy]) (.inl (gq hqi)), hfin (.inr i1) (by rw [i1, fy]) (pZ b3) ?_⟩
     . exact (hb2 r hr (tM (vK b5 r hr) (fun p hp e => vN b4 p hp (e ▸ hr)))).symm
     . show gp (cF (eH rj.e.ks (s.app oi.dst ri.e).sg) rj.e.up) rj.e.nw = _
       rw [gq hqi, gq hqi]; rfl

def gI (C : Ctx) (ops : List Oper) (f : Nat → Rc) (sN : AS) : List Nat → AS → Prop
 | [], s => eV s sN
 | i :: L, s => ∃ o, ops[i]? = some o ∧ dA C ops o s (f i) ∧ gI C ops f sN L (s.app o.dst (f i).e)

theorem gI.eqv {f : Nat → Rc} {sN : AS} : ∀ {L : List Nat} {s s' : AS}, gI C ops f sN L s → eV s s' → gI C ops f sN L s'
 | [], _, _, h, e => e.symm.trans h
 | _ :: _, _, _, ⟨o, h1, h2, h3⟩, e => ⟨o, h1, h2.eqv e, h3.eqv (e.app _ _)⟩

theorem gI.front {f : Nat → Rc} {sN : AS} {i : Nat} {l2 : List Nat} : ∀ {l1 : List Nat} {s : AS}, gI C ops f sN (l1 ++ i :: l2) s → (∀ j ∈ l1, indep (f j) (f i) = true) → gI C ops f sN (i :: (l1 ++ l2)) s
 | [], _, h, _ => h
 | j :: l1, s, ⟨oj, h1, h2, h3⟩, hi => by
   obtain ⟨oi, k1, k2, k3⟩ := gI.front h3 fun k hk => hi k (List.mem_cons_of_mem _ hk)
   obtain ⟨q1, q2, q3⟩ := h2.swap k2 (hi j (by simp))
   exact ⟨oi, k1, q1, oj, h1, q2, k3.eqv q3.symm⟩
end
end Go.VG
