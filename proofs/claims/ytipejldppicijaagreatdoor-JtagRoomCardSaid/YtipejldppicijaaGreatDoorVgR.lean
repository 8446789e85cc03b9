/-
  A part of the proof.
-/
import Derived.Test.YtipejldppicijaaGreatDoorVgO
set_option linter.unusedSimpArgs false
set_option linter.unusedVariables false
namespace Go.VG
open Go

theorem kf {e : Ef} : quiet e = true ↔ e.ks = [] ∧ e.up = [] ∧ e.nw = [] := by
 obtain ⟨v, ks, up, nw, rd⟩ := e
 cases ks <;> cases up <;> cases nw <;> simp [quiet]

mutual
theorem tw : ∀ {x : V} {acc : List Nat} {i : Nat}, i ∈ acc → i ∈ V.names x acc
 | .ptr j _, acc, i, h | .bptr j _ _, acc, i, h | .buf j, acc, i, h | .map j, acc, i, h => by
   simp only [V.names]
   cases ay j acc with
   | true => exact h
   | false => exact List.mem_append_left _ h
 | .agg cs, acc, i, h | .tuple cs, acc, i, h => by simp only [V.names]; exact oJ h
 | .iface _ x, acc, i, h => by simp only [V.names]; exact tw h
 | .func _ fs cs, acc, i, h => by simp only [V.names]; exact oJ (oJ h)
 | .undef, _, _, h | .int .., _, _, h | .bool _, _, _, h | .str _, _, _, h | .list .., _, _, h | .nilptr, _, _, h | .box .., _, _, h | .nilIface, _, _, h | .nilFunc, _, _, h | .nilmap, _, _, h => by simp only [V.names]; exact h
theorem oJ : ∀ {x : List V} {acc : List Nat} {i : Nat}, i ∈ acc → i ∈ V.cD x acc
 | [], _, _, h => by simp only [V.cD]; exact h
 | c :: cs, _, _, h => by simp only [V.cD]; exact oJ (tw h)
end
theorem yK {o : O} {acc : List Nat} {i : Nat} (h : i ∈ acc) : i ∈ o.names acc := by
 cases o <;> simp only [O.names] <;> first | exact h | exact oJ h | exact tw h

theorem z8 {sg : List O} : ∀ {fuel : Nat} {todo acc : List Nat} {i : Nat}, i ∈ acc → i ∈ reach sg fuel todo acc
 | 0, _, _, _, h => by simp only [reach]; exact h
 | _ + 1, [], _, _, h => by simp only [reach]; exact h
 | fuel + 1, k :: todo, acc, i, h => by simp only [reach]; exact z8 (yK h)
theorem z9 {sg sg' : List O} : ∀ {fuel : Nat} {todo acc : List Nat}, (∀ i ∈ todo, i ∈ acc) → (∀ r ∈ reach sg fuel todo acc, ar sg' r = ar sg r) → reach sg' fuel todo acc = reach sg fuel todo acc
 | 0, _, _, _, _ => by simp only [reach]
 | _ + 1, [], _, _, _ => by simp only [reach]
 | fuel + 1, k :: todo, acc, ht, h => by
   have hk : ar sg' k = ar sg k := h k (z8 (ht k (by simp)))
   simp only [reach] at h ⊢
   rw [hk]
   refine z9 (fun i hi => ?_) h
   rcases List.mem_append.1 hi with hi | hi
   . exact yK (ht i (List.mem_cons_of_mem _ hi))
   . exact List.mem_of_mem_drop hi

theorem vI {sg sg' : List O} : ∀ {th : List Nat}, (∀ r ∈ th, ar sg' r = ar sg r) → eI sg' th = eI sg th
 | [], _ => rfl
 | k :: ks, h => by simp only [eI, h k (by simp), vI (th := ks) fun r hr => h r (List.mem_cons_of_mem _ hr)]
theorem we {sg sg' : List O} {th0 : List Nat} : ∀ {th : List Nat}, (∀ r ∈ th, ar sg' r = ar sg r) → eJ sg' th0 th = eJ sg th0 th
 | [], _ => rfl
 | k :: ks, h => by simp only [eJ, h k (by simp), we (th := ks) fun r hr => h r (List.mem_cons_of_mem _ hr)]
theorem yq {sg sg' : List O} {f : Nat → Option Nat} : ∀ {th : List Nat}, (∀ r ∈ th, ar sg' r = ar sg r) → locals sg' f th = locals sg f th
 | [], _ => rfl
 | k :: ks, h => by simp only [locals, h k (by simp), yq (th := ks) fun r hr => h r (List.mem_cons_of_mem _ hr)]
theorem vT {sg sg' : List O} : ∀ {th : List Nat}, (∀ r ∈ th, ar sg' r = ar sg r) → fu sg' th = fu sg th
 | [], _ => rfl
 | k :: ks, h => by simp only [fu, h k (by simp), vT (th := ks) fun r hr => h r (List.mem_cons_of_mem _ hr)]
theorem vQ {n n' : Nat} : ∀ {th : List Nat}, bO th n 0 = bO th n' 0
 | [] => rfl
 | k :: ks => by
   funext j
   cases j with
   | zero => simp [bO]
   | succ j => simp only [bO]; exact congrFun (vQ (th := ks)) j

section
variable {C : Ctx} {s s' : AS} {o : Oper} {e : Ef}

theorem wI {sg sg' : List O} {f : FuncId} {args : List V} {pre : Prop} (h : dg C sg f args = some (pre, e)) (hq : quiet e = true) (hr : ∀ r ∈ e.rd, ar sg' r = ar sg r) : dg C sg' f args = some (pre, e) := by
 unfold dg at h ⊢
 rw [jM, jM] at h ⊢
 -- what is read
 have hrd : e.rd = reach sg 256 (V.cD args []) (V.cD args []) := by
  unfold nW at h
  simp only [gj, mC] at h
  cases hc : (ez (reach sg 256 (V.cD args []) (V.cD args [])) && eI sg (reach sg 256 (V.cD args []) (V.cD args []))) with
  | false => rw [hc] at h; cases h
  | true =>
    rw [hc, cond_true] at h
    split at h
    . cases h
    . cases hcl : eJ sg (reach sg 256 (V.cD args []) (V.cD args [])) (reach sg 256 (V.cD args []) (V.cD args [])) with
      | false => rw [hcl] at h; cases h
      | true => rw [hcl] at h; cases h; rfl
    . cases h; rfl
 rw [hrd] at hr
 rw [z9 (fun _ h => h) hr]
 generalize reach sg 256 (V.cD args []) (V.cD args []) = th at *
 unfold nW at h ⊢
 simp only [gj, mC] at h ⊢
 rw [vI hr, we hr, yq hr, vT hr]
 cases hc : (ez th && eI sg th) with
 | false => rw [hc] at h; cases h
 | true =>
   rw [hc, cond_true] at h
   rw [cond_true]
   generalize C.Γ f (V.fc (fun i => idxOf i th 0) args) (locals sg (fun i => idxOf i th 0) th) = r at h ⊢
   rcases r with _ | ⟨pre', v, _ | σ⟩
   . cases h
   . exact h
   . simp only [Option.some.injEq, Prod.mk.injEq] at h ⊢
     obtain ⟨rfl, rfl⟩ := h
     refine ⟨rfl, ?_⟩
     obtain ⟨q1, q2, q3⟩ := kf.1 hq
     simp only [mY, List.map_eq_nil_iff] at q3
     rw [q3]
     simp only [List.length_nil]
     rw [vQ (n := sg'.length) (n' := sg.length)]

theorem ia : ∀ {l : List Operand}, (∀ x ∈ l, s'.ev C x = s.ev C x) → s'.bz C l = s.bz C l
 | [], _ => rfl
 | x :: xs, h => by simp only [AS.bz, h x (by simp), ia (l := xs) fun y hy => h y (List.mem_cons_of_mem _ hy)]
theorem qp : ∀ {l : List (Nat × Operand)}, (∀ x ∈ oQ l, s'.ev C x = s.ev C x) → eu C s' l = eu C s l
 | [], _ => rfl
 | (i, x) :: r, h => by simp only [eu, h x (by simp [oQ]), qp (l := r) fun y hy => h y (by simp [oQ, hy])]
theorem wK {n : Nat} {lo hi : Option Operand} (h1 : ∀ x ∈ j8 lo, s'.ev C x = s.ev C x) (h2 : ∀ x ∈ j8 hi, s'.ev C x = s.ev C x) : fw C s' n lo hi = fw C s n lo hi := by
 cases lo <;> cases hi <;> simp only [fw] <;> simp only [j8, List.mem_singleton, forall_eq, List.not_mem_nil] at h1 h2 <;> simp only [h1, h2]
theorem wu {x : V} (h : ∀ i, x = .buf i → ar s'.sg i = ar s.sg i) : elems s' x = elems s x := by
 unfold elems
 cases x <;> try rfl
 rename_i i
 simp only [h i rfl]
theorem zZ {c : Call} (h : ∀ x ∈ fg (.call c), s'.ev C x = s.ev C x) : target C s' c = target C s c := by
 unfold target
 cases hc : c.callee with
 | value f =>
   simp only [fg, hc] at h
   simp only [h f (by simp), ia fun x hx => h x (List.mem_cons_of_mem _ hx)]
 | invoke r m => rfl
 | builtin b => rfl

theorem vX {r : Option (Prop × Ef)} {e : Ef} (h : c9 r (fun b => b = e)) : ∃ pre : Prop, r = some (pre, e) ∧ pre := by
 cases r with
 | none => exact h.elim
 | some p =>
   have h1 : p.1 := h.1
   have h2 : eL p.2 (fun b => b = e) := h.2
   rw [fz] at h2
   exact ⟨p.1, by rw [← h2], h1⟩
theorem vW {r : Option (Prop × Ef)} {e : Ef} {pre : Prop} (h : r = some (pre, e)) (hp : pre) : c9 r (fun b => b = e) := by
 subst h
 refine ⟨hp, ?_⟩
 show eL e _
 rw [fz]

theorem sy (h : ∀ x ∈ fg o.op, s'.ev C x = s.ev C x) (hs : s'.sg = s.sg) : bp C s' o = bp C s o := by
 obtain ⟨dst, op, type, pos, after, guard⟩ := o
 have hel : ∀ x, elems s' x = elems s x := fun x => wu fun i _ => by rw [hs]
 cases op <;> simp only [bp, fg] at h ⊢
 case move x => rw [h x (by simp)]
 case assign x => rw [h x (by simp)]
 case pick c a b => simp only [mr, h c (by simp), h a (by simp), h b (by simp)]
 case alloc t => simp only [jt, hs]
 case box t x => rw [h x (by simp), hs]
 case build t ps => simp only [kY, qp h]
 case buildSlice t n ps => simp only [iP, mm, fS, qp h, hs]
 case load t x => simp only [iR, h x (by simp), hs]
 case store t x y => simp only [jG, h x (by simp), h y (by simp), hs]
 case nilCheck x => simp only [jF, h x (by simp)]
 case binOp b t x y u => rw [h x (by simp), h y (by simp)]
 case unOp b t x => rw [h x (by simp)]
 case convert a b x => simp only [jE, fT, h x (by simp), hel, hs]
 case makeInterface t x => simp only [mn, h x (by simp)]
 case makeFunc fn a b => rw [ia fun x hx => h x (by simp [hx]), ia fun x hx => h x (by simp [hx])]
 case makeSlice t x y => simp only [jC, h x (by simp), h y (by simp), hs]
 case slice t x lo hi mx =>
  have hr : ∀ n, fw C s' n lo hi = fw C s n lo hi := fun n => wK (fun x hx => h x (by simp [hx])) (fun x hx => h x (by simp [hx]))
  have hh : ∀ y, hi = some y → s'.ev C y = s.ev C y := fun y hy => h y (by simp [hy, j8])
  have hm : ∀ y, mx = some y → s'.ev C y = s.ev C y := fun y hy => h y (by simp [hy, j8])
  simp only [l7, h x (by simp), hs, hr]
  repeat' (first
   | rfl
   | (simp only [hh _ rfl]; done)
   | (simp only [hh _ rfl, hm _ rfl]; done)
   | split)
 case fieldAddr t x f => simp only [jy, h x (by simp)]
 case field t x f => simp only [jx, h x (by simp)]
 case indexAddr t x y => simp only [l4, h x (by simp), h y (by simp), hs]
 case index t x y => simp only [ml, h x (by simp), h y (by simp)]
 case typeAssert x _ t ok => simp only [mi, h x (by simp)]
 case extract x i => simp only [mj, h x (by simp)]
 case range t x => simp only [jz, jA, d8, h x (by simp), hs]
 case makeMap t r => cases r <;> simp only [jB, hs]
 case lookup t m x ok => simp only [gd, d8, h m (by simp), h x (by simp), hs]
 case mapUpdate t m x y => simp only [jD, d8, h m (by simp), h x (by simp), h y (by simp), hs]
 case mapEntry t m x => simp only [i9, d8, h m (by simp), h x (by simp), hs]
 case entryStore t m b y => simp only [jw, d8, h m (by simp), h b (by simp), h y (by simp), hs]
 case entry x => simp only [l0, h x (by simp), hs]
 case next x b => simp only [l5, h x (by simp), hs]
 case call c =>
  have ht := zZ (C := C) (s := s) (s' := s') (c := c) (by simpa only [fg] using h)
  unfold kZ
  cases hc : c.callee with
  | value f => simp only [ht, hs]
  | invoke r m =>
    simp only [hc] at h
    simp only [h r (by simp), ia fun x hx => h x (List.mem_cons_of_mem _ hx), hs]
  | builtin b =>
    simp only [hc] at h
    simp only [ia h]
    have hb : ∀ xs, gP C s' b c.argTypes.toList xs = gP C s b c.argTypes.toList xs := fun xs => by
     unfold gP
     simp only [hs, hel, ju, jv, d8]
    simp only [hb]
end
end Go.VG
namespace Go.VG
open Go

section
variable {C : Ctx} {s s' : AS} {o : Oper} {e : Ef} {nt : Nat} {tm : List (Nat × V)} {sg sg' : List O} {kl : List Nat}

theorem G9 {t : TypeId} : a5 (fun e => quiet e = false) (jt C s t) := by
 unfold jt
 split
 . exact a5.fail
 . rw [force_eq, cj]; exact a5.when fun _ => a5.ret rfl
theorem Gb {x : V} : a5 (fun e => quiet e = false) (force x fun x => aS s.sg.length fun n => aT (!x.d5) (ret ⟨.ptr n 0, [], [], [.cells x.cells], []⟩)) := by
 rw [force_eq, cj]; exact a5.when fun _ => a5.ret rfl
theorem Gj {t : TypeId} {x y : Operand} : a5 (fun e => quiet e = false) (jC C s t x y) := by
 unfold jC
 split
 . split
   . exact a5.fail
   . refine a5.when fun _ => a5.au fun _ => ?_
     rw [cj, cj, force_eq]
     exact a5.ret rfl
 . exact a5.fail
theorem Gg {t : TypeId} {len : Nat} {ps : Array (Nat × Operand)} : a5 (fun e => quiet e = false) (mm C s t len ps) := by
 unfold mm
 refine a5.bind (nV _ _ _ _ _) fun e _ => ?_
 split
 . rw [cj]; exact a5.ret rfl
 . exact a5.fail
theorem n8 {α β : Type} {o : Option α} {f : α → Tr β} {K : β → Prop} : cA o f K ↔ ∃ a, o = some a ∧ f a K := by
 cases o with
 | none => exact ⟨fun h => h.elim, fun ⟨_, h, _⟩ => by cases h⟩
 | some a => exact ⟨fun h => ⟨a, rfl, h⟩, fun ⟨_, h, k⟩ => by cases h; exact k⟩
theorem oM {t : TypeId} {m : V} {F : Nat → Bool → List Sc → List (V × Int) → List Nat → Nat → Tr Ef} (h : ∀ i ag sh es bs ck, a5 (fun e => quiet e = false) (F i ag sh es bs ck)) : a5 (fun e => quiet e = false) (d8 C s t m F) := by
 unfold d8
 refine a5.opt fun _ _ => ?_
 split
 . split
   . exact a5.when fun _ => h _ _ _ _ _ _
   . exact a5.fail
 . exact a5.fail
theorem Gi {t : TypeId} : a5 (fun e => quiet e = false) (jB C s t) := by
 unfold jB
 refine a5.opt fun _ _ => ?_
 rw [cj]
 exact a5.ret rfl
theorem Gl {t : TypeId} {m x y : Operand} : a5 (fun e => quiet e = false) (jD C s t m x y) := by
 unfold jD
 refine oM fun i ag sh es bs ck => ?_
 rw [force_eq]
 refine a5.when fun _ => ?_
 split
 . exact a5.cm (fun _ _ => a5.ret rfl) (fun _ => a5.ret rfl)
 . exact a5.fail
theorem Gk {t : TypeId} {m x : Operand} : a5 (fun e => quiet e = false) (i9 C s t m x) := by
 unfold i9
 refine oM fun i ag sh es bs ck => ?_
 rw [force_eq]
 exact a5.when fun _ => a5.au fun _ => a5.cm (fun _ _ => a5.ret rfl) (fun _ => a5.ret rfl)
theorem Gd {t : TypeId} {m x y : Operand} : a5 (fun e => quiet e = false) (jw C s t m x y) := by
 unfold jw
 refine oM fun i ag sh es bs ck => ?_
 split
 . exact a5.ex fun _ => a5.au fun _ => a5.ret rfl
 . exact a5.fail
theorem Gc {t : TypeId} {m x : V} : a5 (fun e => quiet e = false) (jv C s t m x) := by
 unfold jv
 refine oM fun i ag sh es bs ck => ?_
 rw [force_eq]
 exact a5.when fun _ => a5.cm (fun _ _ => a5.ret rfl) (fun _ => a5.ret rfl)
theorem Gf {t : TypeId} {m : V} : a5 (fun e => quiet e = false) (jA C s t m) := by
 unfold jA
 refine oM fun i ag sh es bs ck => ?_
 rw [cj]
 exact a5.ret rfl
theorem Ge {t : TypeId} {x : Operand} : a5 (fun e => quiet e = false) (jz C s t x) := by
 unfold jz
 split
 . rw [cj]; exact a5.ret rfl
 . exact Gf
 . exact a5.fail
theorem Gm {t : TypeId} {x y : Operand} : a5 (fun e => quiet e = false) (jG C s t x y) := by
 unfold jG
 simp only [gS]
 split
 . exact a5.fail
 . rw [force_eq]
   refine a5.when fun _ => ?_
   split
   . split
     . exact a5.opt fun _ _ => a5.ret rfl
     . exact a5.fail
   . split
     . refine a5.opt fun _ _ => ?_
       split
       . exact a5.when fun _ => a5.opt fun _ _ => a5.au fun _ => a5.ret rfl
       . exact a5.fail
     . exact a5.fail
   . exact a5.fail
theorem Ga {t : TypeId} {x : V} {ys : List V} {rd : List Nat} : a5 (fun e => quiet e = false) (ju C s t x ys rd) := by
 unfold ju
 split
 . refine a5.when fun _ => a5.au fun _ => a5.au fun _ => ?_
   rw [cj, cj]; exact a5.ret rfl
 . split
   . exact a5.when fun _ => a5.au fun _ => a5.ret rfl
   . exact a5.fail
 . exact a5.fail

theorem Bb {x : V} : a5 (fun r => ∀ i, x = .buf i → r.2.2 = [i]) (elems s x) := by
 unfold elems
 split
 . exact a5.ret fun i h => by cases h
 . exact a5.ret fun i h => by cases h
 . split
   . exact a5.ret fun i h => by cases h; rfl
   . exact a5.fail
 . exact a5.fail

theorem BM (he : bp C ⟨nt, tm, sg, kl⟩ o (fun b => b = e)) (hq : quiet e = true) (hr : ∀ r ∈ e.rd, ar sg' r = ar sg r) : bp C ⟨nt, tm, sg', kl⟩ o (fun b => b = e) := by
  obtain ⟨dst, op, type, pos, after, guard⟩ := o
  have hev : ∀ x, AS.ev C ⟨nt, tm, sg', kl⟩ x = AS.ev C ⟨nt, tm, sg, kl⟩ x := fun _ => rfl
  have hevs : ∀ l, AS.bz C ⟨nt, tm, sg', kl⟩ l = AS.bz C ⟨nt, tm, sg, kl⟩ l := fun l => ia fun _ _ => rfl
  have hps : ∀ l, eu C ⟨nt, tm, sg', kl⟩ l = eu C ⟨nt, tm, sg, kl⟩ l := fun l => qp fun _ _ => rfl
  have hrg : ∀ n lo hi, fw C ⟨nt, tm, sg', kl⟩ n lo hi = fw C ⟨nt, tm, sg, kl⟩ n lo hi := fun n lo hi => wK (fun _ _ => rfl) (fun _ _ => rfl)
  have hno : ∀ {p : Prop}, quiet e = false → p := fun h => by rw [h] at hq; cases hq
  cases op <;> simp only [bp] at he ⊢
  case move x => exact he
  case assign x => exact he
  case pick c a b => exact he
  case alloc t => exact hno (G9 e he)
  case box t x => exact hno (Gb (s := ⟨nt, tm, sg, kl⟩) e he)
  case build t ps => simp only [kY, hps] at he ⊢; exact he
  case buildSlice t n ps =>
   have hb : fS C ⟨nt, tm, sg', kl⟩ t n ps = fS C ⟨nt, tm, sg, kl⟩ t n ps := by simp only [fS, hps]
   cases dst with
   | none => simp only [iP, hb] at he ⊢; exact he
   | some d =>
     simp only [iP] at he ⊢
     cases hd : C.lits d with
     | false => rw [hd] at he; simp only [cond_false, hb] at he ⊢; exact he
     | true => rw [hd] at he; exact hno (Gg e he)
  case load t x =>
   unfold iR at he ⊢
   simp only [gS] at he ⊢
   rw [hev]
   cases hv : AS.ev C ⟨nt, tm, sg, kl⟩ x <;> rw [hv] at he <;> try exact he
   . rename_i i off
     have hi : i ∈ e.rd := by
      refine (?_ : a5 (fun e : Ef => i ∈ e.rd) _) e he
      split
      . exact a5.fail
      . simp only
        split
        . refine a5.bind (cE _ _ _ _) fun v _ => ?_
          rw [force_eq]; exact a5.ret (by simp)
        . exact a5.fail
     simp only [hr i hi]
     exact he
   . rename_i i idx off
     have hi : i ∈ e.rd := by
      refine (?_ : a5 (fun e : Ef => i ∈ e.rd) _) e he
      split
      . exact a5.fail
      . simp only
        split
        . refine a5.opt fun _ _ => a5.when fun _ => a5.bind (cE _ _ _ _) fun v _ => ?_
          rw [force_eq]; exact a5.ret (by simp)
        . exact a5.fail
     simp only [hr i hi]
     exact he
  case store t x y => exact hno (Gm e he)
  case nilCheck x => exact he
  case binOp b t x y u => exact he
  case unOp b t x => exact he
  case convert a b x =>
   rw [hev]
   have hmk : (fT C ⟨nt, tm, sg, kl⟩ a b (AS.ev C ⟨nt, tm, sg, kl⟩ x) (fun b => b = e) → fT C ⟨nt, tm, sg', kl⟩ a b (AS.ev C ⟨nt, tm, sg, kl⟩ x) (fun b => b = e)) → jE C ⟨nt, tm, sg', kl⟩ a b (AS.ev C ⟨nt, tm, sg, kl⟩ x) (fun b => b = e) := fun hk => by
    unfold jE at he ⊢
    cases hv : AS.ev C ⟨nt, tm, sg, kl⟩ x <;> rw [hv] at he hk <;> try exact hk he
    rename_i i
    simp only at he ⊢
    cases hb : Nat.beq a b with
    | false => rw [hb] at he; exact hk he
    | true =>
      rw [hb] at he
      refine hno ((?_ : a5 (fun e : Ef => quiet e = false) _) e he)
      simp only [cond_true]
      split
      . split
        . split
          . exact a5.ret rfl
          . exact a5.fail
        . exact a5.fail
      . exact a5.fail
   refine hmk fun he => ?_
   have hc : ∀ v, elems ⟨nt, tm, sg', kl⟩ v = elems ⟨nt, tm, sg, kl⟩ v → fT C ⟨nt, tm, sg', kl⟩ a b v = fT C ⟨nt, tm, sg, kl⟩ a b v := fun v hel => by
    unfold fT
    repeat' (first
     | rfl
     | (simp only [hel]; done)
     | split)
   generalize AS.ev C ⟨nt, tm, sg, kl⟩ x = v at he ⊢
   rw [hc v (wu fun i hv => ?_)]
   . exact he
   subst hv
   refine hr i ?_
   refine (?_ : a5 (fun e : Ef => i ∈ e.rd) _) e he
   unfold fT
   split <;> first
    | exact a5.fail
    | contradiction
    | skip
   split
   . exact a5.fail
   . refine a5.bind (jo _ _) fun r hr' => ?_
     have := Bb r (hr' _ rfl) i rfl
     obtain ⟨sz, l, rd⟩ := r
     simp only at this
     subst this
     exact a5.when fun _ => a5.ex fun _ => a5.au fun _ => a5.ret (by simp)
   . exact a5.fail
  case makeInterface t x => exact he
  case makeFunc fn a b => rw [hevs, hevs]; exact he
  case makeSlice t x y => exact hno (Gj e he)
  case slice t x lo hi mx =>
   unfold l7 at he ⊢
   rw [hev]
   simp only [hrg, hev] at he ⊢
   generalize AS.ev C ⟨nt, tm, sg, kl⟩ x = v at he ⊢
   by_cases hv : ∃ i, v = .buf i
   . obtain ⟨i, rfl⟩ := hv
     refine hno ((?_ : a5 (fun e : Ef => quiet e = false) _) e he)
     split <;> first
      | exact a5.fail
      | contradiction
      | skip
     all_goals
      split
      . exact a5.fail
      . split
        . split
          . exact a5.when fun _ => a5.au fun _ => a5.ret rfl
          . exact a5.fail
        . exact a5.fail
   . by_cases hp : ∃ i a, v = .ptr i a
     . obtain ⟨i, a, rfl⟩ := hp
       refine hno ((?_ : a5 (fun e : Ef => quiet e = false) _) e he)
       split <;> first
        | exact a5.fail
        | contradiction
        | skip
       split
       . exact a5.fail
       . split
         . exact a5.when fun _ => a5.opt fun _ _ => a5.bind (dh _ _ _ _ _) fun _ _ => by rw [nR]; exact a5.ret rfl
         . exact a5.fail
     cases v <;> first
      | exact absurd ⟨_, rfl⟩ hv
      | exact absurd ⟨_, _, rfl⟩ hp
      | skip
     all_goals (generalize (C.ti t).k = k at he ⊢; cases k <;> cases mx <;> exact he)
  case fieldAddr t x f => exact he
  case field t x f => exact he
  case indexAddr t x y =>
   unfold l4 at he ⊢
   simp only [gS] at he ⊢
   rw [hev, hev]
   generalize AS.ev C ⟨nt, tm, sg, kl⟩ x = v at he ⊢
   generalize AS.ev C ⟨nt, tm, sg, kl⟩ y = u at he ⊢
   by_cases hv : ∃ i, v = .buf i
   . obtain ⟨i, rfl⟩ := hv
     have hi : i ∈ e.rd := by
      refine (?_ : a5 (fun e : Ef => i ∈ e.rd) _) e he
      split <;> first
       | exact a5.fail
       | contradiction
       | skip
      rename_i h
      cases h
      split
      . exact a5.fail
      . split
        . exact a5.when fun _ => a5.au fun _ => a5.ret (by simp)
        . exact a5.fail
     generalize (C.ti t).k = k at he ⊢
     cases k <;> cases u <;> simp only [hr i hi] <;> exact he
   . cases v <;> first
       | exact absurd ⟨_, rfl⟩ hv
       | skip
     all_goals (generalize (C.ti t).k = k at he ⊢; cases k <;> cases u <;> exact he)
  case index t x y => exact he
  case typeAssert x _ t ok => exact he
  case extract x i => exact he
  case range t x => exact hno (Ge e he)
  case makeMap t r => cases r with
   | none => exact hno (Gi e he)
   | some r => exact he
  case mapUpdate t m x y => exact hno (Gl e he)
  case mapEntry t m x => exact hno (Gk e he)
  case entryStore t m b y => exact hno (Gd e he)
  case lookup t m x ok =>
   unfold gd d8 at he ⊢
   rw [hev, hev]
   obtain ⟨p, hp, he⟩ := n8.1 he
   refine n8.2 ⟨p, hp, ?_⟩
   generalize AS.ev C ⟨nt, tm, sg, kl⟩ m = v at he ⊢
   cases v <;> try exact he
   rename_i i
   have hi : i ∈ e.rd := by
    refine (?_ : a5 (fun e : Ef => i ∈ e.rd) _) e he
    simp only
    split
    . rw [force_eq]
      refine a5.when fun _ => a5.when fun _ => ?_
      split
      . exact a5.cm (fun _ _ => a5.ret (by simp)) (fun _ => a5.ret (by simp))
      . exact a5.ret (by simp)
    . exact a5.fail
   simp only [hr i hi]
   exact he
  case entry x =>
   unfold l0 at he ⊢
   simp only [gS] at he ⊢
   rw [hev]
   generalize AS.ev C ⟨nt, tm, sg, kl⟩ x = v at he ⊢
   cases v <;> try exact he
   rename_i k off
   cases off with
   | succ off => exact he
   | zero =>
     have hk : k ∈ e.rd ∧ ∀ i bs ck left last, ar sg k = .miter (.map i) bs ck left last → i ∈ e.rd := by
      refine (?_ : a5 (fun e : Ef => k ∈ e.rd ∧ ∀ i bs ck left last, ar sg k = .miter (.map i) bs ck left last → i ∈ e.rd) _) e he
      simp only
      split
      . rename_i i bs ck left last hs
        split
        . refine a5.au fun _ => a5.opt fun _ _ => a5.ret ⟨by simp, fun i' bs' ck' left' last' h' => ?_⟩
          rw [hs] at h'
          injection h' with h' _
          injection h' with h'
          subst h'
          simp
        . exact a5.fail
      . exact a5.fail
     simp only [hr k hk.1]
     have hk2 := hk.2
     simp only at he
     generalize ar sg k = ob at he hk2 ⊢
     cases ob <;> try exact he
     rename_i m bs ck left last
     cases m <;> try exact he
     rename_i i
     simp only [hr i (hk2 i bs ck left last rfl)]
     exact he
  case next x b =>
   unfold l5 at he ⊢
   rw [hev]
   cases hv : AS.ev C ⟨nt, tm, sg, kl⟩ x <;> rw [hv] at he <;> try exact he
   rename_i i off
   cases off with
   | succ off => cases b <;> exact he
   | zero => cases b with
     | false => exact he
     | true =>
       have hi : i ∈ e.rd := by
        refine (?_ : a5 (fun e : Ef => i ∈ e.rd) _) e he
        simp only
        split
        . exact a5.bc (fun _ => a5.opt fun _ _ => a5.au fun _ => a5.ret (by simp)) (fun _ => a5.ret (by simp))
        . exact a5.fail
       simp only [hr i hi]
       exact he
  case call c =>
   unfold kZ at he ⊢
   have htg : target C ⟨nt, tm, sg', kl⟩ c = target C ⟨nt, tm, sg, kl⟩ c := zZ fun _ _ => rfl
   rw [htg]
   generalize hcal : c.callee = cal at he ⊢
   cases cal
   . -- a function's value
     obtain ⟨p, hp, hc⟩ : ∃ p, target C ⟨nt, tm, sg, kl⟩ c = some p ∧ c9 (dg C sg p.1 p.2) (fun b => b = e) := by
      cases ht : target C ⟨nt, tm, sg, kl⟩ c with
      | none => rw [ht] at he; exact he.elim
      | some p => rw [ht] at he; exact ⟨p, rfl, he⟩
     obtain ⟨pre, h1, h2⟩ := vX hc
     rw [hp]
     exact vW (wI h1 hq hr) h2
   . rename_i r m
     simp only at he ⊢
     rw [hev, hevs]
     generalize AS.ev C ⟨nt, tm, sg, kl⟩ r = v at he ⊢
     cases v <;> try exact he
     obtain ⟨f, hm, hc⟩ := he
     obtain ⟨pre, h1, h2⟩ := vX hc
     exact ⟨f, hm, vW (wI h1 hq hr) h2⟩
   . rename_i b
     simp only at he ⊢
     rw [hevs]
     rw [o4] at he ⊢
     generalize AS.bz C ⟨nt, tm, sg, kl⟩ c.args.toList = xs at he ⊢
     generalize c.argTypes.toList = ts at he ⊢
     have hbt : a5 (fun e' => quiet e' = true → (∀ r ∈ e'.rd, ar sg' r = ar sg r) → gP C ⟨nt, tm, sg', kl⟩ b ts xs (fun b => b = e')) (gP C ⟨nt, tm, sg, kl⟩ b ts xs) := by
      unfold gP
      split
      . rename_i t x
        intro e he hq hr
        generalize (C.ti t).k = k at he ⊢
        cases k <;> try exact he
        cases x <;> try exact he
        rename_i i _
        have hi : i ∈ e.rd := by
         refine (?_ : a5 (fun e : Ef => i ∈ e.rd) _) e he
         simp only
         split
         . exact a5.ret (by simp)
         . exact a5.fail
        simp only [hr i hi]
        exact he
      . rename_i t t2 x y
        refine fun e he hq _ => (?_ : ∀ {p : Prop}, quiet e = false → p) ((?_ : a5 (fun e : Ef => quiet e = false) _) e he)
        . intro p h; rw [h] at hq; cases hq
        split
        . exact a5.fail
        . exact a5.fail
        . split
          . exact a5.fail
          . exact a5.when fun _ => a5.bind (jo _ _) fun r _ => a5.when fun _ => Ga
        . exact a5.fail
      . rename_i t t2 x y
        refine fun e he hq _ => (?_ : ∀ {p : Prop}, quiet e = false → p) ((?_ : a5 (fun e : Ef => quiet e = false) _) e he)
        . intro p h; rw [h] at hq; cases hq
        split
        . split
          . exact a5.fail
          . split
            . exact a5.bind (jo _ _) fun r _ => a5.when fun _ => a5.ret rfl
            . exact a5.fail
        . exact a5.fail
      . exact fun e he hq _ => absurd hq (by rw [Gc e he]; exact Bool.false_ne_true)
      . exact fun e he _ _ => he
      . exact fun e he _ _ => he
      . exact fun e he _ _ => he
     exact hbt e he hq hr
  all_goals exact he

theorem BL (h : ∀ x ∈ fg o.op, s'.ev C x = s.ev C x) (he : bp C s o (fun b => b = e)) (hq : quiet e = true) (hr : ∀ r ∈ e.rd, ar s'.sg r = ar s.sg r) : bp C s' o (fun b => b = e) := by
 obtain ⟨nt, tm, sg, kl⟩ := s
 obtain ⟨nt', tm', sg', kl'⟩ := s'
 have h1 : bp C ⟨nt', tm', sg, kl'⟩ o (fun b => b = e) := by
  rw [sy (s' := ⟨nt', tm', sg, kl'⟩) (s := ⟨nt, tm, sg, kl⟩) (fun x hx => h x hx) rfl]
  exact he
 exact BM h1 hq hr
end
end Go.VG
namespace Go.VG
open Go

mutual
theorem mU {ks : List Nat} : ∀ {x : V}, x.free ks = true → x.kill ks = x
 | .undef, _ | .int .., _ | .bool _, _ | .str _, _ | .nilptr, _ | .nilIface, _ | .nilFunc, _ | .nilmap, _ | .list .., _ | .box .., _ => by simp [V.kill]
 | .ptr i _, h | .bptr i _ _, h | .buf i, h | .map i, h => by
   simp only [V.free, Bool.not_eq_true'] at h
   simp [V.kill, h]
 | .agg cs, h | .tuple cs, h => by simp [V.kill, oz (by simpa [V.free] using h)]
 | .iface t x, h => by simp [V.kill, mU (by simpa [V.free] using h)]
 | .func fn fs cs, h => by
   simp only [V.free, Bool.and_eq_true] at h
   simp [V.kill, oz h.1, oz h.2]
theorem oz {ks : List Nat} : ∀ {x : List V}, V.ic ks x = true → V.cR ks x = x
 | [], _ => by simp [V.cR]
 | c :: cs, h => by
   simp only [V.ic, Bool.and_eq_true] at h
   simp [V.cR, mU h.1, oz h.2]
end
mutual
theorem qH {ks : List Nat} : ∀ {x : V}, (x.kill ks).ji = true → x.kill ks = x
 | .undef, _ | .int .., _ | .bool _, _ | .str _, _ | .nilptr, _ | .nilIface, _ | .nilFunc, _ | .nilmap, _ | .list .., _ | .box .., _ => by simp [V.kill]
 | .ptr i _, h | .bptr i _ _, h | .buf i, h | .map i, h => by
   cases hm : ay i ks with
   | true => simp [V.kill, hm, V.ji] at h
   | false => simp [V.kill, hm]
 | .agg cs, h | .tuple cs, h => by
   simp only [V.kill, V.ji] at h
   simp [V.kill, oB h]
 | .iface t x, h => by
   simp only [V.kill, V.ji] at h
   simp [V.kill, qH h]
 | .func fn fs cs, h => by
   simp only [V.kill, V.ji, Bool.and_eq_true] at h
   simp [V.kill, oB h.1, oB h.2]
theorem oB {ks : List Nat} : ∀ {x : List V}, V.iA (V.cR ks x) = true → V.cR ks x = x
 | [], _ => by simp [V.cR]
 | c :: cs, h => by
   simp only [V.cR, V.iA, Bool.and_eq_true] at h
   simp [V.cR, qH h.1, oB h.2]
end

theorem o7 : ∀ (sg : List O) (i : Nat), ar sg i = sg.getD i .dead
 | [], i => by simp [ar]
 | o :: os, 0 => by simp [ar]
 | o :: os, i + 1 => by simp [ar, o7 os i]

theorem sf : ∀ {up : List (Nat × O)} {rd : List Nat}, nL up rd = true → ∀ p ∈ up, p.1 ∉ rd
 | [], _, _, p, h => by simp at h
 | (i, o) :: r, rd, h, p, hp => by
   simp only [nL, Bool.and_eq_true, Bool.not_eq_true'] at h
   rcases List.mem_cons.1 hp with rfl | hp
   . exact lz.1 h.1
   . exact sf h.2 p hp
theorem sc : ∀ {l : List Nat} {n : Nat}, iH l n = true → ∀ i ∈ l, i < n
 | [], _, _, i, h => by simp at h
 | k :: ks, n, h, i, hi => by
   simp only [iH, Bool.and_eq_true] at h
   rcases List.mem_cons.1 hi with rfl | hi
   . exact Nat.le_of_ble_eq_true h.1
   . exact sc h.2 i hi
theorem Ad : ∀ {up : List (Nat × O)} {sg : List O} {r : Nat}, (∀ p ∈ up, p.1 ≠ r) → (cn sg up)[r]? = sg[r]?
 | [], sg, r, _ => rfl
 | (i, o) :: up, sg, r, h => by
   simp only [cn]
   rw [Ad fun p hp => h p (List.mem_cons_of_mem _ hp), dZ, List.getElem?_set_ne (h (i, o) (by simp))]

structure dn (s t : AS) : Prop where
 nt : s.nt = t.nt
 tm : ∀ u, lk s.tm u = lk t.tm u
 sg : s.sg = t.sg
 kl : ∀ i, ay i s.kl = true ↔ ay i t.kl = true
theorem dn.refl (s : AS) : dn s s := ⟨rfl, fun _ => rfl, rfl, fun _ => Iff.rfl⟩
theorem dn.symm {s t : AS} (h : dn s t) : dn t s := ⟨h.nt.symm, fun u => (h.tm u).symm, h.sg.symm, fun i => (h.kl i).symm⟩
theorem dn.trans {s t u : AS} (h : dn s t) (k : dn t u) : dn s u := ⟨h.nt.trans k.nt, fun x => (h.tm x).trans (k.tm x), h.sg.trans k.sg, fun i => (h.kl i).trans (k.kl i)⟩

theorem gT (s : AS) (d : Option Nat) (e : Ef) (t : Nat) : lk (s.app d e).tm t = if d = some t then e.v else (lk s.tm t).kill e.ks := by
 cases d with
 | none => simp only [AS.app]; rw [j4]; simp
 | some d =>
   simp only [AS.app, lk]
   rw [j4]
   by_cases h : d = t
   . subst h; simp
   . have : Nat.beq d t = false := by
       cases hb : Nat.beq d t with
       | false => rfl
       | true => exact absurd (Nat.eq_of_beq_eq_true hb) h
     simp [this, h]
theorem i5 (s : AS) (d : Option Nat) (e : Ef) : (s.app d e).sg = ep (cn (fD e.ks s.sg) e.up) e.nw := rfl
theorem er {s : AS} {d : Option Nat} {e : Ef} (h : quiet e = true) : (s.app d e).sg = s.sg := by
 obtain ⟨h1, h2, h3⟩ := kf.1 h
 rw [i5, h1, h2, h3]; rfl
theorem dn.app {s t : AS} (h : dn s t) (d : Option Nat) (e : Ef) : dn (s.app d e) (t.app d e) := by
 refine ⟨h.nt, fun u => ?_, ?_, fun i => ?_⟩
 . rw [gT, gT, h.tm]
 . rw [i5, i5, h.sg]
 . simp only [AS.app, fp, h.kl]
theorem xg {s : AS} {d : Option Nat} {e : Ef} {r : Nat} (hr : r < s.sg.length) (hu : ∀ p ∈ e.up, p.1 ≠ r) : ar (s.app d e).sg r = (ar s.sg r).kill e.ks := by
 rw [o7, o7, i5, sb, List.getD_eq_getElem?_getD, List.getD_eq_getElem?_getD, List.getElem?_append_left (by rw [lq, oy]; simpa using hr), Ad hu, oy,
  List.getElem?_map, List.getElem?_eq_getElem hr]
 rfl

section
variable {C : Ctx} {ops : List Oper}

structure cV (C : Ctx) (ops : List Oper) (o : Oper) (s : AS) (r : Rc) : Prop where
 ef : stepT C ops s o (fun b => b = r.e)
 d : r.d = o.dst
 us : r.us = looks ops o
 ov : r.ov = s.bz C (fg o.op)
 oo : (ir o).1 = 1 ∨ r.oo = gm s.sg r.e.rd
 lu : r.lu = ir o
 n : quiet r.e = false → r.n = s.sg.length
 dok : cB s o.dst = true

theorem vl : ∀ {l : List Operand} {t : Nat}, Operand.tmp t ∈ l → t ∈ tmpsOf l
 | [], _, h => by simp at h
 | x :: xs, t, h => by
   rcases List.mem_cons.1 h with h | h
   . subst h; simp [tmpsOf]
   . have := vl h
     cases x <;> simp [tmpsOf, this]
theorem wN {s s' : AS} {x : Operand} (h : ∀ t, x = .tmp t → lk s'.tm t = lk s.tm t) : s'.ev C x = s.ev C x := by
 cases x with
 | tmp t => exact h t rfl
 | _ => rfl
theorem xh {sg sg' : List O} : ∀ {l : List Nat}, (∀ r ∈ l, ar sg' r = ar sg r) → gm sg' l = gm sg l
 | [], _ => rfl
 | r :: rs, h => by simp only [gm, h r (by simp), xh (l := rs) fun x hx => h x (List.mem_cons_of_mem _ hx)]

theorem Ig {s s' : AS} {o : Oper} {e : Ef} (hg : ∀ t ∈ mL ops o.guard, lk s'.tm t = lk s.tm t) (ho : bp C s o (fun b => b = e) → bp C s' o (fun b => b = e)) (h : stepT C ops s o (fun b => b = e)) : stepT C ops s' o (fun b => b = e) := by
 unfold stepT at h ⊢
 cases hgd : o.guard with
 | none => rw [hgd] at h; exact ho h
 | some p =>
   obtain ⟨j, want⟩ := p
   rw [hgd] at h hg
   simp only at h ⊢
   cases hd : bo ops j with
   | none => rw [hd] at h; exact h
   | some t =>
     rw [hd] at h
     simp only at h ⊢
     rw [hg t (by simp [mL, hd])]
     generalize lk s.tm t = v at h ⊢
     cases v <;> try exact h
     rotate_left
     . rename_i l
       cases l with
       | nil => exact h
       | cons _ _ => exact h
     rename_i b
     cases want <;> cases b <;> simp only [cond_true, cond_false, gM, bc] at h ⊢ <;> first
      | exact h
      | exact ho h

theorem zO {s : AS} {o : Oper} {e : Ef} (h : stepT C ops s o (fun b => b = e)) : ∀ t ∈ mL ops o.guard, (∃ b, lk s.tm t = .bool b) ∨ lk s.tm t = .tuple [] := by
 intro t ht
 unfold stepT at h
 cases hgd : o.guard with
 | none => rw [hgd] at ht; simp [mL] at ht
 | some p =>
   obtain ⟨j, want⟩ := p
   rw [hgd] at h ht
   simp only [mL] at ht
   simp only at h
   cases hd : bo ops j with
   | none => rw [hd] at ht; simp at ht
   | some t' =>
     rw [hd] at ht h
     simp only [List.mem_singleton] at ht
     subst ht
     simp only at h
     generalize lk s.tm t = v at h
     cases v <;> first
      | exact .inl ⟨_, rfl⟩
      | exact h.elim
      | (rename_i l; cases l with
         | nil => exact .inr rfl
         | cons _ _ => exact h.elim)

theorem cV.loc {s s' : AS} {o : Oper} {r : Rc} (h : cV C ops o s r) (hnt : s'.nt = s.nt) (hl : ∀ t ∈ looks ops o, lk s'.tm t = lk s.tm t) (hsg : s'.sg = s.sg ∨ (quiet r.e = true ∧ ∀ i ∈ r.e.rd, ar s'.sg i = ar s.sg i)) :
   cV C ops o s' r := by
 have hev : ∀ x ∈ fg o.op, s'.ev C x = s.ev C x := fun x hx => wN fun t ht => hl t (List.mem_append_left _ (vl (ht ▸ hx)))
 refine ⟨?_, h.d, h.us, ?_, ?_, h.lu, fun hq => ?_, ?_⟩
 . refine Ig (fun t ht => hl t (List.mem_append_right _ ht)) (fun he => ?_) h.ef
   rcases hsg with hsg | ⟨hq, hr⟩
   . rw [sy hev hsg]; exact he
   . exact BL hev he hq hr
 . rw [h.ov, ia hev]
 . refine h.oo.imp id fun hoo => ?_
   rw [hoo]
   rcases hsg with hsg | ⟨_, hr⟩
   . rw [hsg]
   . exact (xh hr).symm
 . rcases hsg with hsg | ⟨hq', _⟩
   . rw [hsg]; exact h.n hq
   . rw [hq'] at hq; cases hq
 . have := h.dok
   cases hd : o.dst with
   | none => rfl
   | some d => rw [hd] at this; simp only [cB] at this ⊢; rw [hnt]; exact this

theorem cV.eqv {s s' : AS} {o : Oper} {r : Rc} (h : cV C ops o s r) (e : dn s s') : cV C ops o s' r :=
 h.loc e.nt.symm (fun t _ => (e.tm t).symm) (.inl e.sg.symm)

theorem xd {ks : List Nat} : ∀ {l : List V}, V.ic ks l = true → ∀ x ∈ l, x.free ks = true
 | [], _, x, h => by simp at h
 | c :: cs, h, x, hx => by
   simp only [V.ic, Bool.and_eq_true] at h
   rcases List.mem_cons.1 hx with rfl | hx
   . exact h.1
   . exact xd h.2 x hx
theorem zL : ∀ {l : List V}, V.iA l = true → ∀ x ∈ l, x.ji = true
 | [], _, x, h => by simp at h
 | c :: cs, h, x, hx => by
   simp only [V.iA, Bool.and_eq_true] at h
   rcases List.mem_cons.1 hx with rfl | hx
   . exact h.1
   . exact zL h.2 x hx
theorem sC {s : AS} : ∀ {l : List Operand} {x : Operand}, x ∈ l → s.ev C x ∈ s.bz C l
 | [], _, h => by simp at h
 | y :: ys, x, h => by
   rcases List.mem_cons.1 h with rfl | h
   . simp [AS.bz]
   . simp only [AS.bz, List.mem_cons]; exact .inr (sC h)
theorem xe {ks : List Nat} {sg : List O} : ∀ {l : List Nat}, jN ks (gm sg l) = true → ∀ i ∈ l, (ar sg i).kill ks = ar sg i
 | [], _, i, h => by simp at h
 | k :: l, h, i, hi => by
   simp only [gm] at h
   have hrest : jN ks (gm sg l) = true := by
    cases ho : ar sg k <;> rw [ho] at h <;> simp only [jN, Bool.and_eq_true] at h <;> first | exact h | exact h.2
   rcases List.mem_cons.1 hi with rfl | hi
   . cases ho : ar sg i <;> try rfl
     all_goals
      rw [ho] at h
      simp only [jN, Bool.and_eq_true] at h
      first
      | (simp only [O.kill, oz h.1]; done)
      | (simp only [O.kill, mU h.1]; done)
   . exact xe hrest i hi
theorem zM {ks : List Nat} {sg sg' : List O} : ∀ {l : List Nat}, kC (gm sg' l) = true → ∀ i ∈ l, ar sg' i = (ar sg i).kill ks → ar sg' i = ar sg i
 | [], _, i, h, _ => by simp at h
 | k :: l, h, i, hi, he => by
   simp only [gm] at h
   have hrest : kC (gm sg' l) = true := by
    cases ho : ar sg' k <;> rw [ho] at h <;> simp only [kC, Bool.and_eq_true] at h <;> first | exact h | exact h.2 | cases h
   rcases List.mem_cons.1 hi with rfl | hi
   . cases ho : ar sg i <;> rw [ho] at he <;> try exact he
     all_goals
      simp only [O.kill] at he
      rw [he] at h
      simp only [kC, Bool.and_eq_true] at h
      first
      | (rw [he, oB h.1]; done)
      | (rw [he, qH h.1]; done)
   . exact zM hrest i hi he

theorem su {d : Option Nat} {us : List Nat} (h : nT d us = true) {t : Nat} (ht : t ∈ us) : d ≠ some t := by
 intro e
 subst e
 simp only [nT, Bool.not_eq_true'] at h
 exact lz.1 h ht

theorem wC : ∀ {a b : List Nat}, ql a b = true → a = b
 | [], [], _ => rfl
 | x :: xs, y :: ys, h => by
   simp only [ql, Bool.and_eq_true] at h
   rw [Nat.eq_of_beq_eq_true h.1, wC h.2]
 | [], _ :: _, h => by cases h
 | _ :: _, [], h => by cases h
theorem yv {o : Oper} (h : (ir o).1 = 1) : ∃ t m x, o.guard = none ∧ o.op = .lookup t (.tmp m) (.tmp x) false ∧ ir o = (1, [t, m, x]) := by
 unfold ir at h ⊢
 split at h <;> first
  | (rename_i t m x hg ho; exact ⟨t, m, x, hg, ho, rfl⟩)
  | (cases h; done)
theorem Gr {o : Oper} (h : (ir o).1 = 2) : ∃ t m x, o.guard = none ∧ o.op = .mapEntry t (.tmp m) (.tmp x) ∧ ir o = (2, [t, m, x]) := by
 unfold ir at h ⊢
 split at h <;> first
  | (rename_i t m x hg ho; exact ⟨t, m, x, hg, ho, rfl⟩)
  | (cases h; done)
theorem Em {es : List (V × Int)} {x y : V} {q : Int} (h : cw es x = none) : cw (es ++ [(y, q)]) x = cond (gv y x) (some (es.length, q)) none := by
 induction es with
 | nil => simp only [List.nil_append, cw]; cases gv y x <;> rfl
 | cons p es ih =>
   obtain ⟨z, r⟩ := p
   simp only [List.cons_append, cw] at h ⊢
   cases hz : gv z x with
   | true => rw [hz] at h; simp at h
   | false =>
     rw [hz] at h
     simp only [cond_false] at h ⊢
     have hn : cw es x = none := by
      cases he : cw es x with
      | none => rfl
      | some p => rw [he] at h; cases h
     rw [ih hn]
     cases gv y x <;> simp
theorem Eu {es : List (V × Int)} {x y : V} (h : cw es x = none) : getM (es ++ [(y, 0)]) x = getM es x := by
 unfold getM
 rw [Em h, h]
 cases gv y x <;> rfl
theorem Ev {sg : List O} {i : Nat} {o : O} (h : i < sg.length) : ar (cS sg i o) i = o := by
 have : ∀ (sg : List O) (i : Nat), i < sg.length → ar (cS sg i o) i = o := by
  intro sg
  induction sg with
  | nil => intro i h; simp at h
  | cons a r ih =>
    intro i h
    cases i with
    | zero => rfl
    | succ i => exact ih i (by simpa using h)
 exact this sg i h
theorem cV.look {s : AS} {o : Oper} {r : Rc} (h : cV C ops o s r) (hl : (ir o).1 = 1) : quiet r.e = true ∧ ∀ i ∈ r.e.rd, ∃ ag sh es bs ck, ar s.sg i = .map ag sh es bs ck := by
 obtain ⟨t, m, x, hg, ho, _⟩ := yv hl
 have ef : gd C s t (.tmp m) (.tmp x) false (fun b => b = r.e) := by
  have := h.ef
  unfold stepT at this
  rw [hg] at this
  simp only [bp, ho] at this
  exact this
 unfold gd d8 at ef
 obtain ⟨p, hp, ef⟩ := n8.1 ef
 cases hm : AS.ev C s (.tmp m) <;> rw [hm] at ef <;> try exact ef.elim
 rename_i i
 simp only at ef
 cases hs : ar s.sg i <;> rw [hs] at ef <;> try exact ef.elim
 rename_i ag sh es bs ck
 simp only [force_eq] at ef
 cases hw : (pX ag p.1 && ng sh p.2) with
 | false => rw [hw] at ef; exact ef.elim
 | true =>
   cases hf : fy ag sh (AS.ev C s (.tmp x)) with
   | false => rw [hw, hf] at ef; exact ef.elim
   | true =>
     rw [hw, hf] at ef
     have ef : (⟨.int .i64 (getM es (AS.ev C s (.tmp x))), [], [], [], [i]⟩ : Ef) = r.e := ef
     rw [← ef]
     refine ⟨rfl, fun k hk => ?_⟩
     simp at hk
     subst hk
     exact ⟨_, _, _, _, _, hs⟩
theorem cV.pair {s : AS} {oj oi : Oper} {rj ri : Rc} (hj : cV C ops oj s rj) (hi : cV C ops oi s ri) (h : oP rj ri = true) (a2 : nT oi.dst (looks ops oj) = true) : quiet rj.e = true ∧ ri.e.ks = [] ∧ cV C ops oj (s.app oi.dst ri.e) rj := by
 unfold oP at h
 simp only [Bool.and_eq_true] at h
 rw [hj.lu, hi.lu] at h
 obtain ⟨l1, l2, l3⟩ := h
 obtain ⟨t, m, x, hgj, hoj, ej⟩ := yv (Nat.eq_of_beq_eq_true l1)
 obtain ⟨t', m', x', hgi, hoi, ei⟩ := Gr (Nat.eq_of_beq_eq_true l2)
 rw [ej, ei] at l3
 have l3 := wC l3
 simp only [List.cons.injEq, and_true] at l3
 obtain ⟨rfl, rfl, rfl⟩ := l3
 have efj : gd C s t (.tmp m) (.tmp x) false (fun b => b = rj.e) := by
  have := hj.ef
  unfold stepT at this
  rw [hgj] at this
  simp only [bp, hoj] at this
  exact this
 have efi : i9 C s t (.tmp m) (.tmp x) (fun b => b = ri.e) := by
  have := hi.ef
  unfold stepT at this
  rw [hgi] at this
  simp only [bp, hoi] at this
  exact this
 unfold gd d8 at efj
 obtain ⟨p, hp, efj⟩ := n8.1 efj
 unfold i9 d8 at efi
 obtain ⟨p', hp', efi⟩ := n8.1 efi
 rw [hp] at hp'; cases hp'
 have hlm : Operand.tmp m ∈ fg oj.op := by rw [hoj]; simp [fg]
 have hlx : Operand.tmp x ∈ fg oj.op := by rw [hoj]; simp [fg]
 cases hm : AS.ev C s (.tmp m) <;> rw [hm] at efj efi <;> try exact efj.elim
 rename_i i
 simp only at efj efi
 cases hs : ar s.sg i <;> rw [hs] at efj efi <;> try exact efj.elim
 rename_i ag sh es bs ck
 simp only [force_eq] at efj efi
 have hil : i < s.sg.length := (cO hs (by simp)).2
 cases hw : (pX ag p.1 && ng sh p.2) with
 | false => rw [hw] at efj; exact efj.elim
 | true =>
   cases hf : fy ag sh (AS.ev C s (.tmp x)) with
   | false => rw [hw, hf] at efj; exact efj.elim
   | true =>
     rw [hw, hf] at efj efi
     have efj : (⟨.int .i64 (getM es (AS.ev C s (.tmp x))), [], [], [], [i]⟩ : Ef) = rj.e := efj
     have hri : ∃ v es' bs' ck', ri.e = ⟨v, [], [(i, .map ag sh es' bs' ck')], [], [i]⟩ ∧ getM es' (AS.ev C s (.tmp x)) = getM es (AS.ev C s (.tmp x)) := by
      obtain ⟨_, k1, k2⟩ := efi
      cases hfd : cw es (AS.ev C s (.tmp x)) with
      | some r =>
        have := k1 r hfd
        exact ⟨_, _, _, _, (show _ = ri.e from this).symm, rfl⟩
      | none =>
        have := k2 hfd
        exact ⟨_, _, _, _, (show _ = ri.e from this).symm, Eu hfd⟩
     obtain ⟨v, es', bs', ck', hri, hget⟩ := hri
     have hks : ri.e.ks = [] := by rw [hri]
     have hlk : ∀ u ∈ looks ops oj, lk (s.app oi.dst ri.e).tm u = lk s.tm u := fun u hu => by
      rw [gT, if_neg (su a2 hu), hks, dM]
     have hev : ∀ y ∈ fg oj.op, (s.app oi.dst ri.e).ev C y = s.ev C y := fun y hy => wN fun u hu => hlk u (List.mem_append_left _ (vl (hu ▸ hy)))
     refine ⟨by rw [← efj]; rfl, hks, ?_⟩
     have hsg : (s.app oi.dst ri.e).sg = cS s.sg i (.map ag sh es' bs' ck') := by
      rw [hri]
      simp [AS.app, fD, cn, ep]
     refine ⟨?_, hj.d, hj.us, ?_, .inl (Nat.eq_of_beq_eq_true l1), hj.lu, fun hq => ?_, ?_⟩
     . unfold stepT
       rw [hgj]
       simp only [bp, hoj]
       unfold gd d8
       refine n8.2 ⟨p, hp, ?_⟩
       rw [hev _ hlm, hm]
       simp only
       rw [hsg, Ev hil]
       simp only [force_eq]
       rw [hev _ hlx, hw, hf]
       show (⟨.int .i64 (getM es' (AS.ev C s (.tmp x))), [], [], [], [i]⟩ : Ef) = rj.e
       rw [hget]
       exact efj
     . rw [hj.ov, ia hev]
     . rw [← efj] at hq; cases hq
     . have := hj.dok
       cases hd : oj.dst with
       | none => rfl
       | some d => rw [hd] at this; simp only [cB] at this ⊢; exact this
theorem cV.swap {s : AS} {oj oi : Oper} {rj ri : Rc} (hj : cV C ops oj s rj) (hi : cV C ops oi (s.app oj.dst rj.e) ri) (h : indep rj ri = true) :
   cV C ops oi s ri ∧ cV C ops oj (s.app oi.dst ri.e) rj ∧ dn ((s.app oi.dst ri.e).app oj.dst rj.e) ((s.app oj.dst rj.e).app oi.dst ri.e) := by
 unfold indep at h
 simp only [Bool.and_eq_true] at h
 obtain ⟨⟨⟨a1, a2⟩, a3⟩, h⟩ := h
 rw [hj.d, hi.us] at a1
 rw [hi.d, hj.us] at a2
 rw [hi.d, hj.d] at a3
 have hne : ∀ t, oj.dst = some t → oi.dst = some t → False := fun t h1 h2 => by
  rw [h1, h2] at a3; simp [wo] at a3
 -- what i looks at, ahead of j
 have lki : ∀ t ∈ looks ops oi, lk (s.app oj.dst rj.e).tm t = (lk s.tm t).kill rj.e.ks := fun t ht => by
  rw [gT, if_neg (su a1 ht)]
 have lkj : ∀ t ∈ looks ops oj, lk (s.app oi.dst ri.e).tm t = (lk s.tm t).kill ri.e.ks := fun t ht => by
  rw [gT, if_neg (su a2 ht)]
 have hfin : (rj.e.ks = [] ∨ ri.e.ks = []) → rj.e.v.kill ri.e.ks = rj.e.v → ri.e.v.kill rj.e.ks = ri.e.v → ((s.app oi.dst ri.e).app oj.dst rj.e).sg = ((s.app oj.dst rj.e).app oi.dst ri.e).sg →
    dn ((s.app oi.dst ri.e).app oj.dst rj.e) ((s.app oj.dst rj.e).app oi.dst ri.e) := fun hks hv1 hv2 hsg => by
  refine ⟨rfl, fun t => ?_, hsg, fun i => by simp only [AS.app, fp]; exact or_left_comm⟩
  rw [gT, gT, gT, gT]
  by_cases e1 : oj.dst = some t
  . rw [if_pos e1, if_pos e1, if_neg (fun e2 => hne t e1 e2), hv1]
  . rw [if_neg e1, if_neg e1]
    by_cases e2 : oi.dst = some t
    . rw [if_pos e2, if_pos e2, hv2]
    . rw [if_neg e2, if_neg e2]
      rcases hks with hks | hks <;> rw [hks, dM, dM]
 cases hpl : oP rj ri with
 | true =>
   have hqj : quiet rj.e = true := by
    have hp2 := hpl
    unfold oP at hp2
    simp only [Bool.and_eq_true] at hp2
    rw [hj.lu] at hp2
    exact (hj.look (Nat.eq_of_beq_eq_true hp2.1)).1
   obtain ⟨j1, j2, j3⟩ := kf.1 hqj
   have hsi : cV C ops oi s ri := hi.loc rfl (fun t ht => by rw [lki t ht, j1, dM]) (.inl (er hqj).symm)
   rw [← hi.d] at a2
   obtain ⟨_, i1, hsj⟩ := hj.pair hsi hpl (hi.d ▸ a2)
   refine ⟨hsi, hsj, hfin (.inl j1) (by rw [i1, dM]) (by rw [j1, dM]) ?_⟩
   rw [er hqj, i5, i5, er hqj]
 | false =>
 rw [hpl, Bool.false_or] at h
 cases hqj : quiet rj.e with
 | true =>
   obtain ⟨j1, j2, j3⟩ := kf.1 hqj
   have hsi : cV C ops oi s ri := hi.loc rfl (fun t ht => by rw [lki t ht, j1, dM]) (.inl (er hqj).symm)
   cases hqi : quiet ri.e with
   | true =>
     obtain ⟨i1, i2, i3⟩ := kf.1 hqi
     refine ⟨hsi, hj.loc rfl (fun t ht => by rw [lkj t ht, i1, dM]) (.inl (er hqi)), hfin (.inl j1) (by rw [i1, dM]) (by rw [j1, dM]) ?_⟩
     rw [er hqj, er hqi, er hqi, er hqj]
   | false =>
     rw [hqj, hqi] at h
     simp only [Bool.and_eq_true] at h
     obtain ⟨⟨⟨⟨b1, b2⟩, b3⟩, b4⟩, b5⟩ := h
     rw [hj.ov] at b1
     have hb2 : ∀ r ∈ rj.e.rd, (ar s.sg r).kill ri.e.ks = ar s.sg r := fun r hr => by
      rcases hj.oo with q | q
      . obtain ⟨_, _, _, _, _, hm⟩ := (hj.look q).2 r hr
        rw [hm]; rfl
      . rw [q] at b2; exact xe b2 r hr
     have hn : ri.n = s.sg.length := by rw [hi.n hqi, er hqj]
     rw [hn] at b5
     refine ⟨hsi, hj.loc rfl (fun t ht => ?_) (.inr ⟨hqj, fun r hr => ?_⟩), hfin (.inl j1) (mU b3) (by rw [j1, dM]) ?_⟩
     . rw [lkj t ht]
       rcases List.mem_append.1 ht with ht | ht
       . have : ∀ (l : List Operand) t, t ∈ tmpsOf l → Operand.tmp t ∈ l := by
           intro l
           induction l with
           | nil => intro t h; simp [tmpsOf] at h
           | cons x xs ih =>
             intro t h
             cases x <;> simp only [tmpsOf, List.mem_cons] at h ⊢ <;> first
              | exact .inr (ih t h)
              | (rcases h with rfl | h
                 . exact .inl rfl
                 . exact .inr (ih t h))
         exact mU (xd b1 _ (sC (this _ _ ht)))
       . rcases zO hj.ef t ht with ⟨b, hb⟩ | hb <;> rw [hb] <;> simp [V.kill, V.cR]
     . rw [xg (sc b5 r hr) (fun p hp e => sf b4 p hp (e ▸ hr)), hb2 r hr]
     . rw [er hqj, i5, i5, er hqj]
 | false =>
   cases hqi : quiet ri.e with
   | false => rw [hqj, hqi] at h; cases h
   | true =>
     obtain ⟨i1, i2, i3⟩ := kf.1 hqi
     rw [hqj, hqi] at h
     simp only [Bool.and_eq_true] at h
     obtain ⟨⟨⟨⟨b1, b2⟩, b3⟩, b4⟩, b5⟩ := h
     rw [hi.ov] at b1
     have hb2 : ∀ r ∈ ri.e.rd, ar (s.app oj.dst rj.e).sg r = (ar s.sg r).kill rj.e.ks → ar (s.app oj.dst rj.e).sg r = ar s.sg r := fun r hr he => by
      rcases hi.oo with q | q
      . obtain ⟨_, _, _, _, _, hm⟩ := (hi.look q).2 r hr
        rw [hm] at he ⊢
        cases hg : ar s.sg r <;> rw [hg] at he <;> first
         | (cases he; done)
         | exact he
      . rw [q] at b2; exact zM b2 r hr he
     rw [hj.n hqj] at b5
     have hlk : ∀ t ∈ looks ops oi, lk s.tm t = lk (s.app oj.dst rj.e).tm t := fun t ht => by
      have h1 := lki t ht
      rw [h1]
      refine (qH ?_).symm
      rw [← h1]
      rcases List.mem_append.1 ht with ht | ht
      . have : ∀ (l : List Operand) t, t ∈ tmpsOf l → Operand.tmp t ∈ l := by
          intro l
          induction l with
          | nil => intro t h; simp [tmpsOf] at h
          | cons x xs ih =>
            intro t h
            cases x <;> simp only [tmpsOf, List.mem_cons] at h ⊢ <;> first
             | exact .inr (ih t h)
             | (rcases h with rfl | h
                . exact .inl rfl
                . exact .inr (ih t h))
        exact zL b1 _ (sC (this _ _ ht))
      . rcases zO hi.ef t ht with ⟨b, hb⟩ | hb <;> rw [hb] <;> rfl
     refine ⟨hi.loc rfl hlk (.inr ⟨hqi, fun r hr => ?_⟩), hj.loc rfl (fun t ht => by rw [lkj t ht, i1, dM]) (.inl (er hqi)), hfin (.inr i1) (by rw [i1, dM]) (mU b3) ?_⟩
     . exact (hb2 r hr (xg (sc b5 r hr) (fun p hp e => sf b4 p hp (e ▸ hr)))).symm
     . show ep (cn (fD rj.e.ks (s.app oi.dst ri.e).sg) rj.e.up) rj.e.nw = _
       rw [er hqi, er hqi]; rfl

def eG (C : Ctx) (ops : List Oper) (f : Nat → Rc) (sN : AS) : List Nat → AS → Prop
 | [], s => dn s sN
 | i :: L, s => ∃ o, ops[i]? = some o ∧ cV C ops o s (f i) ∧ eG C ops f sN L (s.app o.dst (f i).e)

theorem eG.eqv {f : Nat → Rc} {sN : AS} : ∀ {L : List Nat} {s s' : AS}, eG C ops f sN L s → dn s s' → eG C ops f sN L s'
 | [], _, _, h, e => e.symm.trans h
 | _ :: _, _, _, ⟨o, h1, h2, h3⟩, e => ⟨o, h1, h2.eqv e, h3.eqv (e.app _ _)⟩

theorem eG.front {f : Nat → Rc} {sN : AS} {i : Nat} {l2 : List Nat} : ∀ {l1 : List Nat} {s : AS}, eG C ops f sN (l1 ++ i :: l2) s → (∀ j ∈ l1, indep (f j) (f i) = true) → eG C ops f sN (i :: (l1 ++ l2)) s
 | [], _, h, _ => h
 | j :: l1, s, ⟨oj, h1, h2, h3⟩, hi => by
   obtain ⟨oi, k1, k2, k3⟩ := eG.front h3 fun k hk => hi k (List.mem_cons_of_mem _ hk)
   obtain ⟨q1, q2, q3⟩ := h2.swap k2 (hi j (by simp))
   exact ⟨oi, k1, q1, oj, h1, q2, k3.eqv q3.symm⟩
end
end Go.VG
