/-
  A part of the proof.
-/
import Derived.Test.YtipejldppicijaaGreatDoorVgO
set_option linter.unusedSimpArgs false
set_option linter.unusedVariables false
namespace Go.VG
open Go

theorem jW {e : Ef} : quiet e = true ↔ e.ks = [] ∧ e.up = [] ∧ e.nw = [] := by
 obtain ⟨v, ks, up, nw, rd⟩ := e
 cases ks <;> cases up <;> cases nw <;> simp [quiet]

mutual
theorem sG : ∀ {x : V} {acc : List Nat} {i : Nat}, i ∈ acc → i ∈ V.names x acc
 | .ptr j _, acc, i, h | .bptr j _ _, acc, i, h | .buf j, acc, i, h | .map j, acc, i, h => by
   simp only [V.names]
   cases aw j acc with
   | true => exact h
   | false => exact List.mem_append_left _ h
 | .agg cs, acc, i, h | .tuple cs, acc, i, h => by simp only [V.names]; exact nS h
 | .iface _ x, acc, i, h => by simp only [V.names]; exact sG h
 | .func _ fs cs, acc, i, h => by simp only [V.names]; exact nS (nS h)
 | .undef, _, _, h | .int .., _, _, h | .bool _, _, _, h | .str _, _, _, h | .list .., _, _, h | .nilptr, _, _, h | .box .., _, _, h | .nilIface, _, _, h | .nilFunc, _, _, h | .nilmap, _, _, h => by simp only [V.names]; exact h
theorem nS : ∀ {x : List V} {acc : List Nat} {i : Nat}, i ∈ acc → i ∈ V.cJ x acc
 | [], _, _, h => by simp only [V.cJ]; exact h
 | c :: cs, _, _, h => by simp only [V.cJ]; exact nS (sG h)
end
theorem yc {o : O} {acc : List Nat} {i : Nat} (h : i ∈ acc) : i ∈ o.names acc := by
 cases o <;> simp only [O.names] <;> first | exact h | exact nS h | exact sG h

theorem yy {sg : List O} : ∀ {fuel : Nat} {todo acc : List Nat} {i : Nat}, i ∈ acc → i ∈ reach sg fuel todo acc
 | 0, _, _, _, h => by simp only [reach]; exact h
 | _ + 1, [], _, _, h => by simp only [reach]; exact h
 | fuel + 1, k :: todo, acc, i, h => by simp only [reach]; exact yy (yc h)
theorem yz {sg sg' : List O} : ∀ {fuel : Nat} {todo acc : List Nat}, (∀ i ∈ todo, i ∈ acc) → (∀ r ∈ reach sg fuel todo acc, aq sg' r = aq sg r) → reach sg' fuel todo acc = reach sg fuel todo acc
 | 0, _, _, _, _ => by simp only [reach]
 | _ + 1, [], _, _, _ => by simp only [reach]
 | fuel + 1, k :: todo, acc, ht, h => by
   have hk : aq sg' k = aq sg k := h k (yy (ht k (by simp)))
   simp only [reach] at h ⊢
   rw [hk]
   refine yz (fun i hi => ?_) h
   rcases List.mem_append.1 hi with hi | hi
   . exact yc (ht i (List.mem_cons_of_mem _ hi))
   . exact List.mem_of_mem_drop hi

theorem uN {sg sg' : List O} : ∀ {th : List Nat}, (∀ r ∈ th, aq sg' r = aq sg r) → eI sg' th = eI sg th
 | [], _ => rfl
 | k :: ks, h => by simp only [eI, h k (by simp), uN (th := ks) fun r hr => h r (List.mem_cons_of_mem _ hr)]
theorem vo {sg sg' : List O} {th0 : List Nat} : ∀ {th : List Nat}, (∀ r ∈ th, aq sg' r = aq sg r) → eJ sg' th0 th = eJ sg th0 th
 | [], _ => rfl
 | k :: ks, h => by simp only [eJ, h k (by simp), vo (th := ks) fun r hr => h r (List.mem_cons_of_mem _ hr)]
theorem xT {sg sg' : List O} {f : Nat → Option Nat} : ∀ {th : List Nat}, (∀ r ∈ th, aq sg' r = aq sg r) → locals sg' f th = locals sg f th
 | [], _ => rfl
 | k :: ks, h => by simp only [locals, h k (by simp), xT (th := ks) fun r hr => h r (List.mem_cons_of_mem _ hr)]
theorem v9 {sg sg' : List O} : ∀ {th : List Nat}, (∀ r ∈ th, aq sg' r = aq sg r) → fu sg' th = fu sg th
 | [], _ => rfl
 | k :: ks, h => by simp only [fu, h k (by simp), v9 (th := ks) fun r hr => h r (List.mem_cons_of_mem _ hr)]
theorem uX {n n' : Nat} : ∀ {th : List Nat}, bX th n 0 = bX th n' 0
 | [] => rfl
 | k :: ks => by
   funext j
   cases j with
   | zero => simp [bX]
   | succ j => simp only [bX]; exact congrFun (uX (th := ks)) j

section
variable {C : Ctx} {s s' : AS} {o : Oper} {e : Ef}

theorem w4 {sg sg' : List O} {f : FuncId} {args : List V} {pre : Prop} (h : dh C sg f args = some (pre, e)) (hq : quiet e = true) (hr : ∀ r ∈ e.rd, aq sg' r = aq sg r) : dh C sg' f args = some (pre, e) := by
 unfold dh at h ⊢
 rw [jG, jG] at h ⊢
 -- what is read
 have hrd : e.rd = reach sg 256 (V.cJ args []) (V.cJ args []) := by
  unfold ni at h
  simp only [ga, m0] at h
  cases hc : (eu (reach sg 256 (V.cJ args []) (V.cJ args [])) && eI sg (reach sg 256 (V.cJ args []) (V.cJ args []))) with
  | false => rw [hc] at h; cases h
  | true =>
    rw [hc, cond_true] at h
    split at h
    . cases h
    . cases hcl : eJ sg (reach sg 256 (V.cJ args []) (V.cJ args [])) (reach sg 256 (V.cJ args []) (V.cJ args [])) with
      | false => rw [hcl] at h; cases h
      | true => rw [hcl] at h; cases h; rfl
    . cases h; rfl
 rw [hrd] at hr
 rw [yz (fun _ h => h) hr]
 generalize reach sg 256 (V.cJ args []) (V.cJ args []) = th at *
 unfold ni at h ⊢
 simp only [ga, m0] at h ⊢
 rw [uN hr, vo hr, xT hr, v9 hr]
 cases hc : (eu th && eI sg th) with
 | false => rw [hc] at h; cases h
 | true =>
   rw [hc, cond_true] at h
   rw [cond_true]
   generalize C.Γ f (V.eW (fun i => idxOf i th 0) args) (locals sg (fun i => idxOf i th 0) th) = r at h ⊢
   rcases r with _ | ⟨pre', v, _ | σ⟩
   . cases h
   . exact h
   . simp only [Option.some.injEq, Prod.mk.injEq] at h ⊢
     obtain ⟨rfl, rfl⟩ := h
     refine ⟨rfl, ?_⟩
     obtain ⟨q1, q2, q3⟩ := jW.1 hq
     simp only [mj, List.map_eq_nil_iff] at q3
     rw [q3]
     simp only [List.length_nil]
     rw [uX (n := sg'.length) (n' := sg.length)]

theorem hO : ∀ {l : List Operand}, (∀ x ∈ l, s'.ev C x = s.ev C x) → s'.bF C l = s.bF C l
 | [], _ => rfl
 | x :: xs, h => by simp only [AS.bF, h x (by simp), hO (l := xs) fun y hy => h y (List.mem_cons_of_mem _ hy)]
theorem pq : ∀ {l : List (Nat × Operand)}, (∀ x ∈ nY l, s'.ev C x = s.ev C x) → et C s' l = et C s l
 | [], _ => rfl
 | (i, x) :: r, h => by simp only [et, h x (by simp [nY]), pq (l := r) fun y hy => h y (by simp [nY, hy])]
theorem w6 {n : Nat} {lo hi : Option Operand} (h1 : ∀ x ∈ j0 lo, s'.ev C x = s.ev C x) (h2 : ∀ x ∈ j0 hi, s'.ev C x = s.ev C x) : fy C s' n lo hi = fy C s n lo hi := by
 cases lo <;> cases hi <;> simp only [fy] <;> simp only [j0, List.mem_singleton, forall_eq, List.not_mem_nil] at h1 h2 <;> simp only [h1, h2]
theorem vO {x : V} (h : ∀ i, x = .buf i → aq s'.sg i = aq s.sg i) : elems s' x = elems s x := by
 unfold elems
 cases x <;> try rfl
 rename_i i
 simp only [h i rfl]
theorem zz {c : Call} (h : ∀ x ∈ fg (.call c), s'.ev C x = s.ev C x) : target C s' c = target C s c := by
 unfold target
 cases hc : c.callee with
 | value f =>
   simp only [fg, hc] at h
   simp only [h f (by simp), hO fun x hx => h x (List.mem_cons_of_mem _ hx)]
 | invoke r m => rfl
 | builtin b => rfl

theorem vg {r : Option (Prop × Ef)} {e : Ef} (h : ct r (fun b => b = e)) : ∃ pre : Prop, r = some (pre, e) ∧ pre := by
 cases r with
 | none => exact h.elim
 | some p =>
   have h1 : p.1 := h.1
   have h2 : eN p.2 (fun b => b = e) := h.2
   rw [fA] at h2
   exact ⟨p.1, by rw [← h2], h1⟩
theorem vf {r : Option (Prop × Ef)} {e : Ef} {pre : Prop} (h : r = some (pre, e)) (hp : pre) : ct r (fun b => b = e) := by
 subst h
 refine ⟨hp, ?_⟩
 show eN e _
 rw [fA]

theorem rS (h : ∀ x ∈ fg o.op, s'.ev C x = s.ev C x) (hs : s'.sg = s.sg) : bC C s' o = bC C s o := by
 obtain ⟨dst, op, type, pos, after, guard⟩ := o
 have hel : ∀ x, elems s' x = elems s x := fun x => vO fun i _ => by rw [hs]
 cases op <;> simp only [bC, fg] at h ⊢
 case move x => rw [h x (by simp)]
 case assign x => rw [h x (by simp)]
 case pick c a b => simp only [lV, h c (by simp), h a (by simp), h b (by simp)]
 case alloc t => simp only [jn, hs]
 case box t x => rw [h x (by simp), hs]
 case build t ps => simp only [kC, pq h]
 case buildSlice t n ps => simp only [iO, lS, fS, pq h, hs]
 case load t x => simp only [iQ, h x (by simp), hs]
 case store t x y => simp only [jC, h x (by simp), h y (by simp), hs]
 case nilCheck x => simp only [jB, h x (by simp)]
 case binOp b t x y u => rw [h x (by simp), h y (by simp)]
 case unOp b t x => rw [h x (by simp)]
 case convert a b x => simp only [jA, fT, h x (by simp), hel, hs]
 case makeInterface t x => simp only [lT, h x (by simp)]
 case makeFunc fn a b => rw [hO fun x hx => h x (by simp [hx]), hO fun x hx => h x (by simp [hx])]
 case makeSlice t x y => simp only [jy, h x (by simp), h y (by simp), hs]
 case slice t x lo hi mx =>
  have hr : ∀ n, fy C s' n lo hi = fy C s n lo hi := fun n => w6 (fun x hx => h x (by simp [hx])) (fun x hx => h x (by simp [hx]))
  have hh : ∀ y, hi = some y → s'.ev C y = s.ev C y := fun y hy => h y (by simp [hy, j0])
  have hm : ∀ y, mx = some y → s'.ev C y = s.ev C y := fun y hy => h y (by simp [hy, j0])
  simp only [kJ, h x (by simp), hs, hr]
  repeat' (first
   | rfl
   | (simp only [hh _ rfl]; done)
   | (simp only [hh _ rfl, hm _ rfl]; done)
   | split)
 case fieldAddr t x f => simp only [ju, h x (by simp)]
 case field t x f => simp only [jt, h x (by simp)]
 case indexAddr t x y => simp only [kF, h x (by simp), h y (by simp), hs]
 case index t x y => simp only [lR, h x (by simp), h y (by simp)]
 case typeAssert x _ t ok => simp only [lP, h x (by simp)]
 case extract x i => simp only [lQ, h x (by simp)]
 case range t x => simp only [jv, jw, da, h x (by simp), hs]
 case makeMap t r => cases r <;> simp only [jx, hs]
 case lookup t m x ok => simp only [g8, da, h m (by simp), h x (by simp), hs]
 case mapUpdate t m x y => simp only [jz, da, h m (by simp), h x (by simp), h y (by simp), hs]
 case mapEntry t m x => simp only [hM, da, h m (by simp), h x (by simp), hs]
 case entryStore t m b y => simp only [jr, da, h m (by simp), h b (by simp), h y (by simp), hs]
 case entry x => simp only [kE, h x (by simp), hs]
 case next x b => simp only [kG, h x (by simp), hs]
 case call c =>
  have ht := zz (C := C) (s := s) (s' := s') (c := c) (by simpa only [fg] using h)
  unfold kD
  cases hc : c.callee with
  | value f => simp only [ht, hs]
  | invoke r m =>
    simp only [hc] at h
    simp only [h r (by simp), hO fun x hx => h x (List.mem_cons_of_mem _ hx), hs]
  | builtin b =>
    simp only [hc] at h
    simp only [hO h]
    have hb : ∀ xs, gH C s' b c.argTypes.toList xs = gH C s b c.argTypes.toList xs := fun xs => by
     unfold gH
     simp only [hs, hel, jo, jq, da]
    simp only [hb]
end
end Go.VG
namespace Go.VG
open Go

section
variable {C : Ctx} {s s' : AS} {o : Oper} {e : Ef} {nt : Nat} {tm : List (Nat × V)} {sg sg' : List O} {kl : List Nat}

theorem Fx {t : TypeId} : a4 (fun e => quiet e = false) (jn C s t) := by
 unfold jn
 split
 . exact a4.fail
 . rw [force_eq, cy]; exact a4.when fun _ => a4.ret rfl
theorem Fz {x : V} : a4 (fun e => quiet e = false) (force x fun x => aR s.sg.length fun n => aS (!x.d9) (ret ⟨.ptr n 0, [], [], [.cells x.cells], []⟩)) := by
 rw [force_eq, cy]; exact a4.when fun _ => a4.ret rfl
theorem FG {t : TypeId} {x y : Operand} : a4 (fun e => quiet e = false) (jy C s t x y) := by
 unfold jy
 split
 . split
   . exact a4.fail
   . refine a4.when fun _ => a4.ar fun _ => ?_
     rw [cy, cy, force_eq]
     exact a4.ret rfl
 . exact a4.fail
theorem FE {t : TypeId} {len : Nat} {ps : Array (Nat × Operand)} : a4 (fun e => quiet e = false) (lS C s t len ps) := by
 unfold lS
 refine a4.bind (nh _ _ _ _ _) fun e _ => ?_
 split
 . rw [cy]; exact a4.ret rfl
 . exact a4.fail
theorem mr {α β : Type} {o : Option α} {f : α → Tr β} {K : β → Prop} : cG o f K ↔ ∃ a, o = some a ∧ f a K := by
 cases o with
 | none => exact ⟨fun h => h.elim, fun ⟨_, h, _⟩ => by cases h⟩
 | some a => exact ⟨fun h => ⟨a, rfl, h⟩, fun ⟨_, h, k⟩ => by cases h; exact k⟩
theorem nU {t : TypeId} {m : V} {F : Nat → Bool → List Sc → List (V × Int) → List Nat → Nat → Tr Ef} (h : ∀ i ag sh es bs ck, a4 (fun e => quiet e = false) (F i ag sh es bs ck)) : a4 (fun e => quiet e = false) (da C s t m F) := by
 unfold da
 refine a4.opt fun _ _ => ?_
 split
 . split
   . exact a4.when fun _ => h _ _ _ _ _ _
   . exact a4.fail
 . exact a4.fail
theorem FF {t : TypeId} : a4 (fun e => quiet e = false) (jx C s t) := by
 unfold jx
 refine a4.opt fun _ _ => ?_
 rw [cy]
 exact a4.ret rfl
theorem FK {t : TypeId} {m x y : Operand} : a4 (fun e => quiet e = false) (jz C s t m x y) := by
 unfold jz
 refine nU fun i ag sh es bs ck => ?_
 rw [force_eq]
 refine a4.when fun _ => ?_
 split
 . exact a4.cz (fun _ _ => a4.ret rfl) (fun _ => a4.ret rfl)
 . exact a4.fail
theorem FH {t : TypeId} {m x : Operand} : a4 (fun e => quiet e = false) (hM C s t m x) := by
 unfold hM
 refine nU fun i ag sh es bs ck => ?_
 rw [force_eq]
 exact a4.when fun _ => a4.ar fun _ => a4.cz (fun _ _ => a4.ret rfl) (fun _ => a4.ret rfl)
theorem FB {t : TypeId} {m x y : Operand} : a4 (fun e => quiet e = false) (jr C s t m x y) := by
 unfold jr
 refine nU fun i ag sh es bs ck => ?_
 split
 . exact a4.ex fun _ => a4.ar fun _ => a4.ret rfl
 . exact a4.fail
theorem FA {t : TypeId} {m x : V} : a4 (fun e => quiet e = false) (jq C s t m x) := by
 unfold jq
 refine nU fun i ag sh es bs ck => ?_
 rw [force_eq]
 exact a4.when fun _ => a4.cz (fun _ _ => a4.ret rfl) (fun _ => a4.ret rfl)
theorem FD {t : TypeId} {m : V} : a4 (fun e => quiet e = false) (jw C s t m) := by
 unfold jw
 refine nU fun i ag sh es bs ck => ?_
 rw [cy]
 exact a4.ret rfl
theorem FC {t : TypeId} {x : Operand} : a4 (fun e => quiet e = false) (jv C s t x) := by
 unfold jv
 split
 . rw [cy]; exact a4.ret rfl
 . exact FD
 . exact a4.fail
theorem FL {t : TypeId} {x y : Operand} : a4 (fun e => quiet e = false) (jC C s t x y) := by
 unfold jC
 simp only [gK]
 split
 . exact a4.fail
 . rw [force_eq]
   refine a4.when fun _ => ?_
   split
   . split
     . exact a4.opt fun _ _ => a4.ret rfl
     . exact a4.fail
   . split
     . refine a4.opt fun _ _ => ?_
       split
       . exact a4.when fun _ => a4.opt fun _ _ => a4.ar fun _ => a4.ret rfl
       . exact a4.fail
     . exact a4.fail
   . exact a4.fail
theorem Fy {t : TypeId} {x : V} {ys : List V} {rd : List Nat} : a4 (fun e => quiet e = false) (jo C s t x ys rd) := by
 unfold jo
 split
 . refine a4.when fun _ => a4.ar fun _ => a4.ar fun _ => ?_
   rw [cy, cy]; exact a4.ret rfl
 . split
   . exact a4.when fun _ => a4.ar fun _ => a4.ret rfl
   . exact a4.fail
 . exact a4.fail

theorem AO {x : V} : a4 (fun r => ∀ i, x = .buf i → r.2.2 = [i]) (elems s x) := by
 unfold elems
 split
 . exact a4.ret fun i h => by cases h
 . exact a4.ret fun i h => by cases h
 . split
   . exact a4.ret fun i h => by cases h; rfl
   . exact a4.fail
 . exact a4.fail

theorem Bo (he : bC C ⟨nt, tm, sg, kl⟩ o (fun b => b = e)) (hq : quiet e = true) (hr : ∀ r ∈ e.rd, aq sg' r = aq sg r) : bC C ⟨nt, tm, sg', kl⟩ o (fun b => b = e) := by
  obtain ⟨dst, op, type, pos, after, guard⟩ := o
  have hev : ∀ x, AS.ev C ⟨nt, tm, sg', kl⟩ x = AS.ev C ⟨nt, tm, sg, kl⟩ x := fun _ => rfl
  have hevs : ∀ l, AS.bF C ⟨nt, tm, sg', kl⟩ l = AS.bF C ⟨nt, tm, sg, kl⟩ l := fun l => hO fun _ _ => rfl
  have hps : ∀ l, et C ⟨nt, tm, sg', kl⟩ l = et C ⟨nt, tm, sg, kl⟩ l := fun l => pq fun _ _ => rfl
  have hrg : ∀ n lo hi, fy C ⟨nt, tm, sg', kl⟩ n lo hi = fy C ⟨nt, tm, sg, kl⟩ n lo hi := fun n lo hi => w6 (fun _ _ => rfl) (fun _ _ => rfl)
  have hno : ∀ {p : Prop}, quiet e = false → p := fun h => by rw [h] at hq; cases hq
  cases op <;> simp only [bC] at he ⊢
  case move x => exact he
  case assign x => exact he
  case pick c a b => exact he
  case alloc t => exact hno (Fx e he)
  case box t x => exact hno (Fz (s := ⟨nt, tm, sg, kl⟩) e he)
  case build t ps => simp only [kC, hps] at he ⊢; exact he
  case buildSlice t n ps =>
   have hb : fS C ⟨nt, tm, sg', kl⟩ t n ps = fS C ⟨nt, tm, sg, kl⟩ t n ps := by simp only [fS, hps]
   cases dst with
   | none => simp only [iO, hb] at he ⊢; exact he
   | some d =>
     simp only [iO] at he ⊢
     cases hd : C.lits d with
     | false => rw [hd] at he; simp only [cond_false, hb] at he ⊢; exact he
     | true => rw [hd] at he; exact hno (FE e he)
  case load t x =>
   unfold iQ at he ⊢
   simp only [gK] at he ⊢
   rw [hev]
   cases hv : AS.ev C ⟨nt, tm, sg, kl⟩ x <;> rw [hv] at he <;> try exact he
   . rename_i i off
     have hi : i ∈ e.rd := by
      refine (?_ : a4 (fun e : Ef => i ∈ e.rd) _) e he
      split
      . exact a4.fail
      . simp only
        split
        . refine a4.bind (cK _ _ _ _) fun v _ => ?_
          rw [force_eq]; exact a4.ret (by simp)
        . exact a4.fail
     simp only [hr i hi]
     exact he
   . rename_i i idx off
     have hi : i ∈ e.rd := by
      refine (?_ : a4 (fun e : Ef => i ∈ e.rd) _) e he
      split
      . exact a4.fail
      . simp only
        split
        . refine a4.opt fun _ _ => a4.when fun _ => a4.bind (cK _ _ _ _) fun v _ => ?_
          rw [force_eq]; exact a4.ret (by simp)
        . exact a4.fail
     simp only [hr i hi]
     exact he
  case store t x y => exact hno (FL e he)
  case nilCheck x => exact he
  case binOp b t x y u => exact he
  case unOp b t x => exact he
  case convert a b x =>
   rw [hev]
   have hmk : (fT C ⟨nt, tm, sg, kl⟩ a b (AS.ev C ⟨nt, tm, sg, kl⟩ x) (fun b => b = e) → fT C ⟨nt, tm, sg', kl⟩ a b (AS.ev C ⟨nt, tm, sg, kl⟩ x) (fun b => b = e)) → jA C ⟨nt, tm, sg', kl⟩ a b (AS.ev C ⟨nt, tm, sg, kl⟩ x) (fun b => b = e) := fun hk => by
    unfold jA at he ⊢
    cases hv : AS.ev C ⟨nt, tm, sg, kl⟩ x <;> rw [hv] at he hk <;> try exact hk he
    rename_i i
    simp only at he ⊢
    cases hb : Nat.beq a b with
    | false => rw [hb] at he; exact hk he
    | true =>
      rw [hb] at he
      refine hno ((?_ : a4 (fun e : Ef => quiet e = false) _) e he)
      simp only [cond_true]
      split
      . split
        . split
          . exact a4.ret rfl
          . exact a4.fail
        . exact a4.fail
      . exact a4.fail
   refine hmk fun he => ?_
   have hc : ∀ v, elems ⟨nt, tm, sg', kl⟩ v = elems ⟨nt, tm, sg, kl⟩ v → fT C ⟨nt, tm, sg', kl⟩ a b v = fT C ⟨nt, tm, sg, kl⟩ a b v := fun v hel => by
    unfold fT
    repeat' (first
     | rfl
     | (simp only [hel]; done)
     | split)
   generalize AS.ev C ⟨nt, tm, sg, kl⟩ x = v at he ⊢
   rw [hc v (vO fun i hv => ?_)]
   . exact he
   subst hv
   refine hr i ?_
   refine (?_ : a4 (fun e : Ef => i ∈ e.rd) _) e he
   unfold fT
   split <;> first
    | exact a4.fail
    | contradiction
    | skip
   split
   . exact a4.fail
   . refine a4.bind (jl _ _) fun r hr' => ?_
     have := AO r (hr' _ rfl) i rfl
     obtain ⟨sz, l, rd⟩ := r
     simp only at this
     subst this
     exact a4.when fun _ => a4.ex fun _ => a4.ar fun _ => a4.ret (by simp)
   . exact a4.fail
  case makeInterface t x => exact he
  case makeFunc fn a b => rw [hevs, hevs]; exact he
  case makeSlice t x y => exact hno (FG e he)
  case slice t x lo hi mx =>
   unfold kJ at he ⊢
   rw [hev]
   simp only [hrg, hev] at he ⊢
   generalize AS.ev C ⟨nt, tm, sg, kl⟩ x = v at he ⊢
   by_cases hv : ∃ i, v = .buf i
   . obtain ⟨i, rfl⟩ := hv
     refine hno ((?_ : a4 (fun e : Ef => quiet e = false) _) e he)
     split <;> first
      | exact a4.fail
      | contradiction
      | skip
     all_goals
      split
      . exact a4.fail
      . split
        . split
          . exact a4.when fun _ => a4.ar fun _ => a4.ret rfl
          . exact a4.fail
        . exact a4.fail
   . by_cases hp : ∃ i a, v = .ptr i a
     . obtain ⟨i, a, rfl⟩ := hp
       refine hno ((?_ : a4 (fun e : Ef => quiet e = false) _) e he)
       split <;> first
        | exact a4.fail
        | contradiction
        | skip
       split
       . exact a4.fail
       . split
         . exact a4.when fun _ => a4.opt fun _ _ => a4.bind (di _ _ _ _ _) fun _ _ => by rw [n9]; exact a4.ret rfl
         . exact a4.fail
     cases v <;> first
      | exact absurd ⟨_, rfl⟩ hv
      | exact absurd ⟨_, _, rfl⟩ hp
      | skip
     all_goals (generalize (C.ti t).k = k at he ⊢; cases k <;> cases mx <;> exact he)
  case fieldAddr t x f => exact he
  case field t x f => exact he
  case indexAddr t x y =>
   unfold kF at he ⊢
   simp only [gK] at he ⊢
   rw [hev, hev]
   generalize AS.ev C ⟨nt, tm, sg, kl⟩ x = v at he ⊢
   generalize AS.ev C ⟨nt, tm, sg, kl⟩ y = u at he ⊢
   by_cases hv : ∃ i, v = .buf i
   . obtain ⟨i, rfl⟩ := hv
     have hi : i ∈ e.rd := by
      refine (?_ : a4 (fun e : Ef => i ∈ e.rd) _) e he
      split <;> first
       | exact a4.fail
       | contradiction
       | skip
      rename_i h
      cases h
      split
      . exact a4.fail
      . split
        . exact a4.when fun _ => a4.ar fun _ => a4.ret (by simp)
        . exact a4.fail
     generalize (C.ti t).k = k at he ⊢
     cases k <;> cases u <;> simp only [hr i hi] <;> exact he
   . cases v <;> first
       | exact absurd ⟨_, rfl⟩ hv
       | skip
     all_goals (generalize (C.ti t).k = k at he ⊢; cases k <;> cases u <;> exact he)
  case index t x y => exact he
  case typeAssert x _ t ok => exact he
  case extract x i => exact he
  case range t x => exact hno (FC e he)
  case makeMap t r => cases r with
   | none => exact hno (FF e he)
   | some r => exact he
  case mapUpdate t m x y => exact hno (FK e he)
  case mapEntry t m x => exact hno (FH e he)
  case entryStore t m b y => exact hno (FB e he)
  case lookup t m x ok =>
   unfold g8 da at he ⊢
   rw [hev, hev]
   obtain ⟨p, hp, he⟩ := mr.1 he
   refine mr.2 ⟨p, hp, ?_⟩
   generalize AS.ev C ⟨nt, tm, sg, kl⟩ m = v at he ⊢
   cases v <;> try exact he
   rename_i i
   have hi : i ∈ e.rd := by
    refine (?_ : a4 (fun e : Ef => i ∈ e.rd) _) e he
    simp only
    split
    . rw [force_eq]
      refine a4.when fun _ => a4.when fun _ => ?_
      split
      . exact a4.cz (fun _ _ => a4.ret (by simp)) (fun _ => a4.ret (by simp))
      . exact a4.ret (by simp)
    . exact a4.fail
   simp only [hr i hi]
   exact he
  case entry x =>
   unfold kE at he ⊢
   simp only [gK] at he ⊢
   rw [hev]
   generalize AS.ev C ⟨nt, tm, sg, kl⟩ x = v at he ⊢
   cases v <;> try exact he
   rename_i k off
   cases off with
   | succ off => exact he
   | zero =>
     have hk : k ∈ e.rd ∧ ∀ i bs ck left last, aq sg k = .miter (.map i) bs ck left last → i ∈ e.rd := by
      refine (?_ : a4 (fun e : Ef => k ∈ e.rd ∧ ∀ i bs ck left last, aq sg k = .miter (.map i) bs ck left last → i ∈ e.rd) _) e he
      simp only
      split
      . rename_i i bs ck left last hs
        split
        . refine a4.ar fun _ => a4.opt fun _ _ => a4.ret ⟨by simp, fun i' bs' ck' left' last' h' => ?_⟩
          rw [hs] at h'
          injection h' with h' _
          injection h' with h'
          subst h'
          simp
        . exact a4.fail
      . exact a4.fail
     simp only [hr k hk.1]
     have hk2 := hk.2
     simp only at he
     generalize aq sg k = ob at he hk2 ⊢
     cases ob <;> try exact he
     rename_i m bs ck left last
     cases m <;> try exact he
     rename_i i
     simp only [hr i (hk2 i bs ck left last rfl)]
     exact he
  case next x b =>
   unfold kG at he ⊢
   rw [hev]
   cases hv : AS.ev C ⟨nt, tm, sg, kl⟩ x <;> rw [hv] at he <;> try exact he
   rename_i i off
   cases off with
   | succ off => cases b <;> exact he
   | zero => cases b with
     | false => exact he
     | true =>
       have hi : i ∈ e.rd := by
        refine (?_ : a4 (fun e : Ef => i ∈ e.rd) _) e he
        simp only
        split
        . exact a4.bd (fun _ => a4.opt fun _ _ => a4.ar fun _ => a4.ret (by simp)) (fun _ => a4.ret (by simp))
        . exact a4.fail
       simp only [hr i hi]
       exact he
  case call c =>
   unfold kD at he ⊢
   have htg : target C ⟨nt, tm, sg', kl⟩ c = target C ⟨nt, tm, sg, kl⟩ c := zz fun _ _ => rfl
   rw [htg]
   generalize hcal : c.callee = cal at he ⊢
   cases cal
   . -- a function's value
     obtain ⟨p, hp, hc⟩ : ∃ p, target C ⟨nt, tm, sg, kl⟩ c = some p ∧ ct (dh C sg p.1 p.2) (fun b => b = e) := by
      cases ht : target C ⟨nt, tm, sg, kl⟩ c with
      | none => rw [ht] at he; exact he.elim
      | some p => rw [ht] at he; exact ⟨p, rfl, he⟩
     obtain ⟨pre, h1, h2⟩ := vg hc
     rw [hp]
     exact vf (w4 h1 hq hr) h2
   . rename_i r m
     simp only at he ⊢
     rw [hev, hevs]
     generalize AS.ev C ⟨nt, tm, sg, kl⟩ r = v at he ⊢
     cases v <;> try exact he
     obtain ⟨f, hm, hc⟩ := he
     obtain ⟨pre, h1, h2⟩ := vg hc
     exact ⟨f, hm, vf (w4 h1 hq hr) h2⟩
   . rename_i b
     simp only at he ⊢
     rw [hevs]
     rw [nn] at he ⊢
     generalize AS.bF C ⟨nt, tm, sg, kl⟩ c.args.toList = xs at he ⊢
     generalize c.argTypes.toList = ts at he ⊢
     have hbt : a4 (fun e' => quiet e' = true → (∀ r ∈ e'.rd, aq sg' r = aq sg r) → gH C ⟨nt, tm, sg', kl⟩ b ts xs (fun b => b = e')) (gH C ⟨nt, tm, sg, kl⟩ b ts xs) := by
      unfold gH
      split
      . rename_i t x
        intro e he hq hr
        generalize (C.ti t).k = k at he ⊢
        cases k <;> try exact he
        cases x <;> try exact he
        rename_i i _
        have hi : i ∈ e.rd := by
         refine (?_ : a4 (fun e : Ef => i ∈ e.rd) _) e he
         simp only
         split
         . exact a4.ret (by simp)
         . exact a4.fail
        simp only [hr i hi]
        exact he
      . rename_i t t2 x y
        refine fun e he hq _ => (?_ : ∀ {p : Prop}, quiet e = false → p) ((?_ : a4 (fun e : Ef => quiet e = false) _) e he)
        . intro p h; rw [h] at hq; cases hq
        split
        . exact a4.fail
        . exact a4.fail
        . split
          . exact a4.fail
          . exact a4.when fun _ => a4.bind (jl _ _) fun r _ => a4.when fun _ => Fy
        . exact a4.fail
      . rename_i t t2 x y
        refine fun e he hq _ => (?_ : ∀ {p : Prop}, quiet e = false → p) ((?_ : a4 (fun e : Ef => quiet e = false) _) e he)
        . intro p h; rw [h] at hq; cases hq
        split
        . split
          . exact a4.fail
          . split
            . exact a4.bind (jl _ _) fun r _ => a4.when fun _ => a4.ret rfl
            . exact a4.fail
        . exact a4.fail
      . exact fun e he hq _ => absurd hq (by rw [FA e he]; exact Bool.false_ne_true)
      . exact fun e he _ _ => he
      . exact fun e he _ _ => he
      . exact fun e he _ _ => he
     exact hbt e he hq hr
  all_goals exact he

theorem Bn (h : ∀ x ∈ fg o.op, s'.ev C x = s.ev C x) (he : bC C s o (fun b => b = e)) (hq : quiet e = true) (hr : ∀ r ∈ e.rd, aq s'.sg r = aq s.sg r) : bC C s' o (fun b => b = e) := by
 obtain ⟨nt, tm, sg, kl⟩ := s
 obtain ⟨nt', tm', sg', kl'⟩ := s'
 have h1 : bC C ⟨nt', tm', sg, kl'⟩ o (fun b => b = e) := by
  rw [rS (s' := ⟨nt', tm', sg, kl'⟩) (s := ⟨nt, tm, sg, kl⟩) (fun x hx => h x hx) rfl]
  exact he
 exact Bo h1 hq hr
end
end Go.VG
namespace Go.VG
open Go

mutual
theorem me {ks : List Nat} : ∀ {x : V}, x.free ks = true → x.kill ks = x
 | .undef, _ | .int .., _ | .bool _, _ | .str _, _ | .nilptr, _ | .nilIface, _ | .nilFunc, _ | .nilmap, _ | .list .., _ | .box .., _ => by simp [V.kill]
 | .ptr i _, h | .bptr i _ _, h | .buf i, h | .map i, h => by
   simp only [V.free, Bool.not_eq_true'] at h
   simp [V.kill, h]
 | .agg cs, h | .tuple cs, h => by simp [V.kill, nH (by simpa [V.free] using h)]
 | .iface t x, h => by simp [V.kill, me (by simpa [V.free] using h)]
 | .func fn fs cs, h => by
   simp only [V.free, Bool.and_eq_true] at h
   simp [V.kill, nH h.1, nH h.2]
theorem nH {ks : List Nat} : ∀ {x : List V}, V.hZ ks x = true → V.cT ks x = x
 | [], _ => by simp [V.cT]
 | c :: cs, h => by
   simp only [V.hZ, Bool.and_eq_true] at h
   simp [V.cT, me h.1, nH h.2]
end
mutual
theorem pO {ks : List Nat} : ∀ {x : V}, (x.kill ks).jc = true → x.kill ks = x
 | .undef, _ | .int .., _ | .bool _, _ | .str _, _ | .nilptr, _ | .nilIface, _ | .nilFunc, _ | .nilmap, _ | .list .., _ | .box .., _ => by simp [V.kill]
 | .ptr i _, h | .bptr i _ _, h | .buf i, h | .map i, h => by
   cases hm : aw i ks with
   | true => simp [V.kill, hm, V.jc] at h
   | false => simp [V.kill, hm]
 | .agg cs, h | .tuple cs, h => by
   simp only [V.kill, V.jc] at h
   simp [V.kill, nJ h]
 | .iface t x, h => by
   simp only [V.kill, V.jc] at h
   simp [V.kill, pO h]
 | .func fn fs cs, h => by
   simp only [V.kill, V.jc, Bool.and_eq_true] at h
   simp [V.kill, nJ h.1, nJ h.2]
theorem nJ {ks : List Nat} : ∀ {x : List V}, V.iu (V.cT ks x) = true → V.cT ks x = x
 | [], _ => by simp [V.cT]
 | c :: cs, h => by
   simp only [V.cT, V.iu, Bool.and_eq_true] at h
   simp [V.cT, pO h.1, nJ h.2]
end

theorem nr : ∀ (sg : List O) (i : Nat), aq sg i = sg.getD i .dead
 | [], i => by simp [aq]
 | o :: os, 0 => by simp [aq]
 | o :: os, i + 1 => by simp [aq, nr os i]

theorem rB : ∀ {up : List (Nat × O)} {rd : List Nat}, mZ up rd = true → ∀ p ∈ up, p.1 ∉ rd
 | [], _, _, p, h => by simp at h
 | (i, o) :: r, rd, h, p, hp => by
   simp only [mZ, Bool.and_eq_true, Bool.not_eq_true'] at h
   rcases List.mem_cons.1 hp with rfl | hp
   . exact kZ.1 h.1
   . exact rB h.2 p hp
theorem ry : ∀ {l : List Nat} {n : Nat}, iF l n = true → ∀ i ∈ l, i < n
 | [], _, _, i, h => by simp at h
 | k :: ks, n, h, i, hi => by
   simp only [iF, Bool.and_eq_true] at h
   rcases List.mem_cons.1 hi with rfl | hi
   . exact Nat.le_of_ble_eq_true h.1
   . exact ry h.2 i hi
theorem zI : ∀ {up : List (Nat × O)} {sg : List O} {r : Nat}, (∀ p ∈ up, p.1 ≠ r) → (cA sg up)[r]? = sg[r]?
 | [], sg, r, _ => rfl
 | (i, o) :: up, sg, r, h => by
   simp only [cA]
   rw [zI fun p hp => h p (List.mem_cons_of_mem _ hp), dY, List.getElem?_set_ne (h (i, o) (by simp))]

structure dv (s t : AS) : Prop where
 nt : s.nt = t.nt
 tm : ∀ u, lk s.tm u = lk t.tm u
 sg : s.sg = t.sg
 kl : ∀ i, aw i s.kl = true ↔ aw i t.kl = true
theorem dv.refl (s : AS) : dv s s := ⟨rfl, fun _ => rfl, rfl, fun _ => Iff.rfl⟩
theorem dv.symm {s t : AS} (h : dv s t) : dv t s := ⟨h.nt.symm, fun u => (h.tm u).symm, h.sg.symm, fun i => (h.kl i).symm⟩
theorem dv.trans {s t u : AS} (h : dv s t) (k : dv t u) : dv s u := ⟨h.nt.trans k.nt, fun x => (h.tm x).trans (k.tm x), h.sg.trans k.sg, fun i => (h.kl i).trans (k.kl i)⟩

theorem gN (s : AS) (d : Option Nat) (e : Ef) (t : Nat) : lk (s.app d e).tm t = if d = some t then e.v else (lk s.tm t).kill e.ks := by
 cases d with
 | none => simp only [AS.app]; rw [iZ]; simp
 | some d =>
   simp only [AS.app, lk]
   rw [iZ]
   by_cases h : d = t
   . subst h; simp
   . have : Nat.beq d t = false := by
       cases hb : Nat.beq d t with
       | false => rfl
       | true => exact absurd (Nat.eq_of_beq_eq_true hb) h
     simp [this, h]
theorem gX (s : AS) (d : Option Nat) (e : Ef) : (s.app d e).sg = ec (cA (fD e.ks s.sg) e.up) e.nw := rfl
theorem ee {s : AS} {d : Option Nat} {e : Ef} (h : quiet e = true) : (s.app d e).sg = s.sg := by
 obtain ⟨h1, h2, h3⟩ := jW.1 h
 rw [gX, h1, h2, h3]; rfl
theorem dv.app {s t : AS} (h : dv s t) (d : Option Nat) (e : Ef) : dv (s.app d e) (t.app d e) := by
 refine ⟨h.nt, fun u => ?_, ?_, fun i => ?_⟩
 . rw [gN, gN, h.tm]
 . rw [gX, gX, h.sg]
 . simp only [AS.app, fj, h.kl]
theorem wE {s : AS} {d : Option Nat} {e : Ef} {r : Nat} (hr : r < s.sg.length) (hu : ∀ p ∈ e.up, p.1 ≠ r) : aq (s.app d e).sg r = (aq s.sg r).kill e.ks := by
 rw [nr, nr, gX, rv, List.getD_eq_getElem?_getD, List.getD_eq_getElem?_getD, List.getElem?_append_left (by rw [kV, nG]; simpa using hr), zI hu, nG,
  List.getElem?_map, List.getElem?_eq_getElem hr]
 rfl

section
variable {C : Ctx} {ops : List Oper}

structure d6 (C : Ctx) (ops : List Oper) (o : Oper) (s : AS) (r : Rc) : Prop where
 ef : stepT C ops s o (fun b => b = r.e)
 d : r.d = o.dst
 us : r.us = looks ops o
 ov : r.ov = s.bF C (fg o.op)
 oo : (i9 o).1 = 1 ∨ r.oo = gd s.sg r.e.rd
 lu : r.lu = i9 o
 n : quiet r.e = false → r.n = s.sg.length
 dok : cI s o.dst = true

theorem uu : ∀ {l : List Operand} {t : Nat}, Operand.tmp t ∈ l → t ∈ tmpsOf l
 | [], _, h => by simp at h
 | x :: xs, t, h => by
   rcases List.mem_cons.1 h with h | h
   . subst h; simp [tmpsOf]
   . have := uu h
     cases x <;> simp [tmpsOf, this]
theorem w9 {s s' : AS} {x : Operand} (h : ∀ t, x = .tmp t → lk s'.tm t = lk s.tm t) : s'.ev C x = s.ev C x := by
 cases x with
 | tmp t => exact h t rfl
 | _ => rfl
theorem wF {sg sg' : List O} : ∀ {l : List Nat}, (∀ r ∈ l, aq sg' r = aq sg r) → gd sg' l = gd sg l
 | [], _ => rfl
 | r :: rs, h => by simp only [gd, h r (by simp), wF (l := rs) fun x hx => h x (List.mem_cons_of_mem _ hx)]

theorem Hp {s s' : AS} {o : Oper} {e : Ef} (hg : ∀ t ∈ m6 ops o.guard, lk s'.tm t = lk s.tm t) (ho : bC C s o (fun b => b = e) → bC C s' o (fun b => b = e)) (h : stepT C ops s o (fun b => b = e)) : stepT C ops s' o (fun b => b = e) := by
 unfold stepT at h ⊢
 cases hgd : o.guard with
 | none => rw [hgd] at h; exact ho h
 | some p =>
   obtain ⟨j, want⟩ := p
   rw [hgd] at h hg
   simp only at h ⊢
   cases hd : br ops j with
   | none => rw [hd] at h; exact h
   | some t =>
     rw [hd] at h
     simp only at h ⊢
     rw [hg t (by simp [m6, hd])]
     generalize lk s.tm t = v at h ⊢
     cases v <;> try exact h
     rotate_left
     . rename_i l
       cases l with
       | nil => exact h
       | cons _ _ => exact h
     rename_i b
     cases want <;> cases b <;> simp only [cond_true, cond_false, gE, bd] at h ⊢ <;> first
      | exact h
      | exact ho h

theorem zk {s : AS} {o : Oper} {e : Ef} (h : stepT C ops s o (fun b => b = e)) : ∀ t ∈ m6 ops o.guard, (∃ b, lk s.tm t = .bool b) ∨ lk s.tm t = .tuple [] := by
 intro t ht
 unfold stepT at h
 cases hgd : o.guard with
 | none => rw [hgd] at ht; simp [m6] at ht
 | some p =>
   obtain ⟨j, want⟩ := p
   rw [hgd] at h ht
   simp only [m6] at ht
   simp only at h
   cases hd : br ops j with
   | none => rw [hd] at ht; simp at ht
   | some t' =>
     rw [hd] at ht h
     simp only [List.mem_singleton] at ht
     subst ht
     simp only at h
     generalize lk s.tm t = v at h
     cases v <;> first
      | exact .inl ⟨_, rfl⟩
      | exact h.elim
      | (rename_i l; cases l with
         | nil => exact .inr rfl
         | cons _ _ => exact h.elim)

theorem d6.loc {s s' : AS} {o : Oper} {r : Rc} (h : d6 C ops o s r) (hnt : s'.nt = s.nt) (hl : ∀ t ∈ looks ops o, lk s'.tm t = lk s.tm t) (hsg : s'.sg = s.sg ∨ (quiet r.e = true ∧ ∀ i ∈ r.e.rd, aq s'.sg i = aq s.sg i)) :
   d6 C ops o s' r := by
 have hev : ∀ x ∈ fg o.op, s'.ev C x = s.ev C x := fun x hx => w9 fun t ht => hl t (List.mem_append_left _ (uu (ht ▸ hx)))
 refine ⟨?_, h.d, h.us, ?_, ?_, h.lu, fun hq => ?_, ?_⟩
 . refine Hp (fun t ht => hl t (List.mem_append_right _ ht)) (fun he => ?_) h.ef
   rcases hsg with hsg | ⟨hq, hr⟩
   . rw [rS hev hsg]; exact he
   . exact Bn hev he hq hr
 . rw [h.ov, hO hev]
 . refine h.oo.imp id fun hoo => ?_
   rw [hoo]
   rcases hsg with hsg | ⟨_, hr⟩
   . rw [hsg]
   . exact (wF hr).symm
 . rcases hsg with hsg | ⟨hq', _⟩
   . rw [hsg]; exact h.n hq
   . rw [hq'] at hq; cases hq
 . have := h.dok
   cases hd : o.dst with
   | none => rfl
   | some d => rw [hd] at this; simp only [cI] at this ⊢; rw [hnt]; exact this

theorem d6.eqv {s s' : AS} {o : Oper} {r : Rc} (h : d6 C ops o s r) (e : dv s s') : d6 C ops o s' r :=
 h.loc e.nt.symm (fun t _ => (e.tm t).symm) (.inl e.sg.symm)

theorem wy {ks : List Nat} : ∀ {l : List V}, V.hZ ks l = true → ∀ x ∈ l, x.free ks = true
 | [], _, x, h => by simp at h
 | c :: cs, h, x, hx => by
   simp only [V.hZ, Bool.and_eq_true] at h
   rcases List.mem_cons.1 hx with rfl | hx
   . exact h.1
   . exact wy h.2 x hx
theorem zh : ∀ {l : List V}, V.iu l = true → ∀ x ∈ l, x.jc = true
 | [], _, x, h => by simp at h
 | c :: cs, h, x, hx => by
   simp only [V.iu, Bool.and_eq_true] at h
   rcases List.mem_cons.1 hx with rfl | hx
   . exact h.1
   . exact zh h.2 x hx
theorem rT {s : AS} : ∀ {l : List Operand} {x : Operand}, x ∈ l → s.ev C x ∈ s.bF C l
 | [], _, h => by simp at h
 | y :: ys, x, h => by
   rcases List.mem_cons.1 h with rfl | h
   . simp [AS.bF]
   . simp only [AS.bF, List.mem_cons]; exact .inr (rT h)
theorem wz {ks : List Nat} {sg : List O} : ∀ {l : List Nat}, jH ks (gd sg l) = true → ∀ i ∈ l, (aq sg i).kill ks = aq sg i
 | [], _, i, h => by simp at h
 | k :: l, h, i, hi => by
   simp only [gd] at h
   have hrest : jH ks (gd sg l) = true := by
    cases ho : aq sg k <;> rw [ho] at h <;> simp only [jH, Bool.and_eq_true] at h <;> first | exact h | exact h.2
   rcases List.mem_cons.1 hi with rfl | hi
   . cases ho : aq sg i <;> try rfl
     all_goals
      rw [ho] at h
      simp only [jH, Bool.and_eq_true] at h
      first
      | (simp only [O.kill, nH h.1]; done)
      | (simp only [O.kill, me h.1]; done)
   . exact wz hrest i hi
theorem zi {ks : List Nat} {sg sg' : List O} : ∀ {l : List Nat}, ke (gd sg' l) = true → ∀ i ∈ l, aq sg' i = (aq sg i).kill ks → aq sg' i = aq sg i
 | [], _, i, h, _ => by simp at h
 | k :: l, h, i, hi, he => by
   simp only [gd] at h
   have hrest : ke (gd sg' l) = true := by
    cases ho : aq sg' k <;> rw [ho] at h <;> simp only [ke, Bool.and_eq_true] at h <;> first | exact h | exact h.2 | cases h
   rcases List.mem_cons.1 hi with rfl | hi
   . cases ho : aq sg i <;> rw [ho] at he <;> try exact he
     all_goals
      simp only [O.kill] at he
      rw [he] at h
      simp only [ke, Bool.and_eq_true] at h
      first
      | (rw [he, nJ h.1]; done)
      | (rw [he, pO h.1]; done)
   . exact zi hrest i hi he

theorem rM {d : Option Nat} {us : List Nat} (h : nd d us = true) {t : Nat} (ht : t ∈ us) : d ≠ some t := by
 intro e
 subst e
 simp only [nd, Bool.not_eq_true'] at h
 exact kZ.1 h ht

theorem vU : ∀ {a b : List Nat}, ph a b = true → a = b
 | [], [], _ => rfl
 | x :: xs, y :: ys, h => by
   simp only [ph, Bool.and_eq_true] at h
   rw [Nat.eq_of_beq_eq_true h.1, vU h.2]
 | [], _ :: _, h => by cases h
 | _ :: _, [], h => by cases h
theorem xX {o : Oper} (h : (i9 o).1 = 1) : ∃ t m x, o.guard = none ∧ o.op = .lookup t (.tmp m) (.tmp x) false ∧ i9 o = (1, [t, m, x]) := by
 unfold i9 at h ⊢
 split at h <;> first
  | (rename_i t m x hg ho; exact ⟨t, m, x, hg, ho, rfl⟩)
  | (cases h; done)
theorem FN {o : Oper} (h : (i9 o).1 = 2) : ∃ t m x, o.guard = none ∧ o.op = .mapEntry t (.tmp m) (.tmp x) ∧ i9 o = (2, [t, m, x]) := by
 unfold i9 at h ⊢
 split at h <;> first
  | (rename_i t m x hg ho; exact ⟨t, m, x, hg, ho, rfl⟩)
  | (cases h; done)
theorem DX {es : List (V × Int)} {x y : V} {q : Int} (h : cF es x = none) : cF (es ++ [(y, q)]) x = cond (gk y x) (some (es.length, q)) none := by
 induction es with
 | nil => simp only [List.nil_append, cF]; cases gk y x <;> rfl
 | cons p es ih =>
   obtain ⟨z, r⟩ := p
   simp only [List.cons_append, cF] at h ⊢
   cases hz : gk z x with
   | true => rw [hz] at h; simp at h
   | false =>
     rw [hz] at h
     simp only [cond_false] at h ⊢
     have hn : cF es x = none := by
      cases he : cF es x with
      | none => rfl
      | some p => rw [he] at h; cases h
     rw [ih hn]
     cases gk y x <;> simp
theorem E5 {es : List (V × Int)} {x y : V} (h : cF es x = none) : getM (es ++ [(y, 0)]) x = getM es x := by
 unfold getM
 rw [DX h, h]
 cases gk y x <;> rfl
theorem E6 {sg : List O} {i : Nat} {o : O} (h : i < sg.length) : aq (cW sg i o) i = o := by
 have : ∀ (sg : List O) (i : Nat), i < sg.length → aq (cW sg i o) i = o := by
  intro sg
  induction sg with
  | nil => intro i h; simp at h
  | cons a r ih =>
    intro i h
    cases i with
    | zero => rfl
    | succ i => exact ih i (by simpa using h)
 exact this sg i h
theorem d6.look {s : AS} {o : Oper} {r : Rc} (h : d6 C ops o s r) (hl : (i9 o).1 = 1) : quiet r.e = true ∧ ∀ i ∈ r.e.rd, ∃ ag sh es bs ck, aq s.sg i = .map ag sh es bs ck := by
 obtain ⟨t, m, x, hg, ho, _⟩ := xX hl
 have ef : g8 C s t (.tmp m) (.tmp x) false (fun b => b = r.e) := by
  have := h.ef
  unfold stepT at this
  rw [hg] at this
  simp only [bC, ho] at this
  exact this
 unfold g8 da at ef
 obtain ⟨p, hp, ef⟩ := mr.1 ef
 cases hm : AS.ev C s (.tmp m) <;> rw [hm] at ef <;> try exact ef.elim
 rename_i i
 simp only at ef
 cases hs : aq s.sg i <;> rw [hs] at ef <;> try exact ef.elim
 rename_i ag sh es bs ck
 simp only [force_eq] at ef
 cases hw : (oV ag p.1 && mA sh p.2) with
 | false => rw [hw] at ef; exact ef.elim
 | true =>
   cases hf : fz ag sh (AS.ev C s (.tmp x)) with
   | false => rw [hw, hf] at ef; exact ef.elim
   | true =>
     rw [hw, hf] at ef
     have ef : (⟨.int .i64 (getM es (AS.ev C s (.tmp x))), [], [], [], [i]⟩ : Ef) = r.e := ef
     rw [← ef]
     refine ⟨rfl, fun k hk => ?_⟩
     simp at hk
     subst hk
     exact ⟨_, _, _, _, _, hs⟩
theorem d6.pair {s : AS} {oj oi : Oper} {rj ri : Rc} (hj : d6 C ops oj s rj) (hi : d6 C ops oi s ri) (h : nX rj ri = true) (a2 : nd oi.dst (looks ops oj) = true) : quiet rj.e = true ∧ ri.e.ks = [] ∧ d6 C ops oj (s.app oi.dst ri.e) rj := by
 unfold nX at h
 simp only [Bool.and_eq_true] at h
 rw [hj.lu, hi.lu] at h
 obtain ⟨l1, l2, l3⟩ := h
 obtain ⟨t, m, x, hgj, hoj, ej⟩ := xX (Nat.eq_of_beq_eq_true l1)
 obtain ⟨t', m', x', hgi, hoi, ei⟩ := FN (Nat.eq_of_beq_eq_true l2)
 rw [ej, ei] at l3
 have l3 := vU l3
 simp only [List.cons.injEq, and_true] at l3
 obtain ⟨rfl, rfl, rfl⟩ := l3
 have efj : g8 C s t (.tmp m) (.tmp x) false (fun b => b = rj.e) := by
  have := hj.ef
  unfold stepT at this
  rw [hgj] at this
  simp only [bC, hoj] at this
  exact this
 have efi : hM C s t (.tmp m) (.tmp x) (fun b => b = ri.e) := by
  have := hi.ef
  unfold stepT at this
  rw [hgi] at this
  simp only [bC, hoi] at this
  exact this
 unfold g8 da at efj
 obtain ⟨p, hp, efj⟩ := mr.1 efj
 unfold hM da at efi
 obtain ⟨p', hp', efi⟩ := mr.1 efi
 rw [hp] at hp'; cases hp'
 have hlm : Operand.tmp m ∈ fg oj.op := by rw [hoj]; simp [fg]
 have hlx : Operand.tmp x ∈ fg oj.op := by rw [hoj]; simp [fg]
 cases hm : AS.ev C s (.tmp m) <;> rw [hm] at efj efi <;> try exact efj.elim
 rename_i i
 simp only at efj efi
 cases hs : aq s.sg i <;> rw [hs] at efj efi <;> try exact efj.elim
 rename_i ag sh es bs ck
 simp only [force_eq] at efj efi
 have hil : i < s.sg.length := (cR hs (by simp)).2
 cases hw : (oV ag p.1 && mA sh p.2) with
 | false => rw [hw] at efj; exact efj.elim
 | true =>
   cases hf : fz ag sh (AS.ev C s (.tmp x)) with
   | false => rw [hw, hf] at efj; exact efj.elim
   | true =>
     rw [hw, hf] at efj efi
     have efj : (⟨.int .i64 (getM es (AS.ev C s (.tmp x))), [], [], [], [i]⟩ : Ef) = rj.e := efj
     have hri : ∃ v es' bs' ck', ri.e = ⟨v, [], [(i, .map ag sh es' bs' ck')], [], [i]⟩ ∧ getM es' (AS.ev C s (.tmp x)) = getM es (AS.ev C s (.tmp x)) := by
      obtain ⟨_, k1, k2⟩ := efi
      cases hfd : cF es (AS.ev C s (.tmp x)) with
      | some r =>
        have := k1 r hfd
        exact ⟨_, _, _, _, (show _ = ri.e from this).symm, rfl⟩
      | none =>
        have := k2 hfd
        exact ⟨_, _, _, _, (show _ = ri.e from this).symm, E5 hfd⟩
     obtain ⟨v, es', bs', ck', hri, hget⟩ := hri
     have hks : ri.e.ks = [] := by rw [hri]
     have hlk : ∀ u ∈ looks ops oj, lk (s.app oi.dst ri.e).tm u = lk s.tm u := fun u hu => by
      rw [gN, if_neg (rM a2 hu), hks, dP]
     have hev : ∀ y ∈ fg oj.op, (s.app oi.dst ri.e).ev C y = s.ev C y := fun y hy => w9 fun u hu => hlk u (List.mem_append_left _ (uu (hu ▸ hy)))
     refine ⟨by rw [← efj]; rfl, hks, ?_⟩
     have hsg : (s.app oi.dst ri.e).sg = cW s.sg i (.map ag sh es' bs' ck') := by
      rw [hri]
      simp [AS.app, fD, cA, ec]
     refine ⟨?_, hj.d, hj.us, ?_, .inl (Nat.eq_of_beq_eq_true l1), hj.lu, fun hq => ?_, ?_⟩
     . unfold stepT
       rw [hgj]
       simp only [bC, hoj]
       unfold g8 da
       refine mr.2 ⟨p, hp, ?_⟩
       rw [hev _ hlm, hm]
       simp only
       rw [hsg, E6 hil]
       simp only [force_eq]
       rw [hev _ hlx, hw, hf]
       show (⟨.int .i64 (getM es' (AS.ev C s (.tmp x))), [], [], [], [i]⟩ : Ef) = rj.e
       rw [hget]
       exact efj
     . rw [hj.ov, hO hev]
     . rw [← efj] at hq; cases hq
     . have := hj.dok
       cases hd : oj.dst with
       | none => rfl
       | some d => rw [hd] at this; simp only [cI] at this ⊢; exact this
theorem d6.swap {s : AS} {oj oi : Oper} {rj ri : Rc} (hj : d6 C ops oj s rj) (hi : d6 C ops oi (s.app oj.dst rj.e) ri) (h : indep rj ri = true) :
   d6 C ops oi s ri ∧ d6 C ops oj (s.app oi.dst ri.e) rj ∧ dv ((s.app oi.dst ri.e).app oj.dst rj.e) ((s.app oj.dst rj.e).app oi.dst ri.e) := by
 unfold indep at h
 simp only [Bool.and_eq_true] at h
 obtain ⟨⟨⟨a1, a2⟩, a3⟩, h⟩ := h
 rw [hj.d, hi.us] at a1
 rw [hi.d, hj.us] at a2
 rw [hi.d, hj.d] at a3
 have hne : ∀ t, oj.dst = some t → oi.dst = some t → False := fun t h1 h2 => by
  rw [h1, h2] at a3; simp [vL] at a3
 -- what i looks at, ahead of j
 have lki : ∀ t ∈ looks ops oi, lk (s.app oj.dst rj.e).tm t = (lk s.tm t).kill rj.e.ks := fun t ht => by
  rw [gN, if_neg (rM a1 ht)]
 have lkj : ∀ t ∈ looks ops oj, lk (s.app oi.dst ri.e).tm t = (lk s.tm t).kill ri.e.ks := fun t ht => by
  rw [gN, if_neg (rM a2 ht)]
 have hfin : (rj.e.ks = [] ∨ ri.e.ks = []) → rj.e.v.kill ri.e.ks = rj.e.v → ri.e.v.kill rj.e.ks = ri.e.v → ((s.app oi.dst ri.e).app oj.dst rj.e).sg = ((s.app oj.dst rj.e).app oi.dst ri.e).sg →
    dv ((s.app oi.dst ri.e).app oj.dst rj.e) ((s.app oj.dst rj.e).app oi.dst ri.e) := fun hks hv1 hv2 hsg => by
  refine ⟨rfl, fun t => ?_, hsg, fun i => by simp only [AS.app, fj]; exact or_left_comm⟩
  rw [gN, gN, gN, gN]
  by_cases e1 : oj.dst = some t
  . rw [if_pos e1, if_pos e1, if_neg (fun e2 => hne t e1 e2), hv1]
  . rw [if_neg e1, if_neg e1]
    by_cases e2 : oi.dst = some t
    . rw [if_pos e2, if_pos e2, hv2]
    . rw [if_neg e2, if_neg e2]
      rcases hks with hks | hks <;> rw [hks, dP, dP]
 cases hpl : nX rj ri with
 | true =>
   have hqj : quiet rj.e = true := by
    have hp2 := hpl
    unfold nX at hp2
    simp only [Bool.and_eq_true] at hp2
    rw [hj.lu] at hp2
    exact (hj.look (Nat.eq_of_beq_eq_true hp2.1)).1
   obtain ⟨j1, j2, j3⟩ := jW.1 hqj
   have hsi : d6 C ops oi s ri := hi.loc rfl (fun t ht => by rw [lki t ht, j1, dP]) (.inl (ee hqj).symm)
   rw [← hi.d] at a2
   obtain ⟨_, i1, hsj⟩ := hj.pair hsi hpl (hi.d ▸ a2)
   refine ⟨hsi, hsj, hfin (.inl j1) (by rw [i1, dP]) (by rw [j1, dP]) ?_⟩
   rw [ee hqj, gX, gX, ee hqj]
 | false =>
 rw [hpl, Bool.false_or] at h
 cases hqj : quiet rj.e with
 | true =>
   obtain ⟨j1, j2, j3⟩ := jW.1 hqj
   have hsi : d6 C ops oi s ri := hi.loc rfl (fun t ht => by rw [lki t ht, j1, dP]) (.inl (ee hqj).symm)
   cases hqi : quiet ri.e with
   | true =>
     obtain ⟨i1, i2, i3⟩ := jW.1 hqi
     refine ⟨hsi, hj.loc rfl (fun t ht => by rw [lkj t ht, i1, dP]) (.inl (ee hqi)), hfin (.inl j1) (by rw [i1, dP]) (by rw [j1, dP]) ?_⟩
     rw [ee hqj, ee hqi, ee hqi, ee hqj]
   | false =>
     rw [hqj, hqi] at h
     simp only [Bool.and_eq_true] at h
     obtain ⟨⟨⟨⟨b1, b2⟩, b3⟩, b4⟩, b5⟩ := h
     rw [hj.ov] at b1
     have hb2 : ∀ r ∈ rj.e.rd, (aq s.sg r).kill ri.e.ks = aq s.sg r := fun r hr => by
      rcases hj.oo with q | q
      . obtain ⟨_, _, _, _, _, hm⟩ := (hj.look q).2 r hr
        rw [hm]; rfl
      . rw [q] at b2; exact wz b2 r hr
     have hn : ri.n = s.sg.length := by rw [hi.n hqi, ee hqj]
     rw [hn] at b5
     refine ⟨hsi, hj.loc rfl (fun t ht => ?_) (.inr ⟨hqj, fun r hr => ?_⟩), hfin (.inl j1) (me b3) (by rw [j1, dP]) ?_⟩
     . rw [lkj t ht]
       rcases List.mem_append.1 ht with ht | ht
       . have : ∀ (l : List Operand) t, t ∈ tmpsOf l → Operand.tmp t ∈ l := by
           intro l
           induction l with
           | nil => intro t h; simp [tmpsOf] at h
           | cons x xs ih =>
             intro t h
             cases x <;> simp only [tmpsOf, List.mem_cons] at h ⊢ <;> first
              | exact .inr (ih t h)
              | (rcases h with rfl | h
                 . exact .inl rfl
                 . exact .inr (ih t h))
         exact me (wy b1 _ (rT (this _ _ ht)))
       . rcases zk hj.ef t ht with ⟨b, hb⟩ | hb <;> rw [hb] <;> simp [V.kill, V.cT]
     . rw [wE (ry b5 r hr) (fun p hp e => rB b4 p hp (e ▸ hr)), hb2 r hr]
     . rw [ee hqj, gX, gX, ee hqj]
 | false =>
   cases hqi : quiet ri.e with
   | false => rw [hqj, hqi] at h; cases h
   | true =>
     obtain ⟨i1, i2, i3⟩ := jW.1 hqi
     rw [hqj, hqi] at h
     simp only [Bool.and_eq_true] at h
     obtain ⟨⟨⟨⟨b1, b2⟩, b3⟩, b4⟩, b5⟩ := h
     rw [hi.ov] at b1
     have hb2 : ∀ r ∈ ri.e.rd, aq (s.app oj.dst rj.e).sg r = (aq s.sg r).kill rj.e.ks → aq (s.app oj.dst rj.e).sg r = aq s.sg r := fun r hr he => by
      rcases hi.oo with q | q
      . obtain ⟨_, _, _, _, _, hm⟩ := (hi.look q).2 r hr
        rw [hm] at he ⊢
        cases hg : aq s.sg r <;> rw [hg] at he <;> first
         | (cases he; done)
         | exact he
      . rw [q] at b2; exact zi b2 r hr he
     rw [hj.n hqj] at b5
     have hlk : ∀ t ∈ looks ops oi, lk s.tm t = lk (s.app oj.dst rj.e).tm t := fun t ht => by
      have h1 := lki t ht
      rw [h1]
      refine (pO ?_).symm
      rw [← h1]
      rcases List.mem_append.1 ht with ht | ht
      . have : ∀ (l : List Operand) t, t ∈ tmpsOf l → Operand.tmp t ∈ l := by
          intro l
          induction l with
          | nil => intro t h; simp [tmpsOf] at h
          | cons x xs ih =>
            intro t h
            cases x <;> simp only [tmpsOf, List.mem_cons] at h ⊢ <;> first
             | exact .inr (ih t h)
             | (rcases h with rfl | h
                . exact .inl rfl
                . exact .inr (ih t h))
        exact zh b1 _ (rT (this _ _ ht))
      . rcases zk hi.ef t ht with ⟨b, hb⟩ | hb <;> rw [hb] <;> rfl
     refine ⟨hi.loc rfl hlk (.inr ⟨hqi, fun r hr => ?_⟩), hj.loc rfl (fun t ht => by rw [lkj t ht, i1, dP]) (.inl (ee hqi)), hfin (.inr i1) (by rw [i1, dP]) (me b3) ?_⟩
     . exact (hb2 r hr (wE (ry b5 r hr) (fun p hp e => rB b4 p hp (e ▸ hr)))).symm
     . show ec (cA (fD rj.e.ks (s.app oi.dst ri.e).sg) rj.e.up) rj.e.nw = _
       rw [ee hqi, ee hqi]; rfl

def eG (C : Ctx) (ops : List Oper) (f : Nat → Rc) (sN : AS) : List Nat → AS → Prop
 | [], s => dv s sN
 | i :: L, s => ∃ o, ops[i]? = some o ∧ d6 C ops o s (f i) ∧ eG C ops f sN L (s.app o.dst (f i).e)

theorem eG.eqv {f : Nat → Rc} {sN : AS} : ∀ {L : List Nat} {s s' : AS}, eG C ops f sN L s → dv s s' → eG C ops f sN L s'
 | [], _, _, h, e => e.symm.trans h
 | _ :: _, _, _, ⟨o, h1, h2, h3⟩, e => ⟨o, h1, h2.eqv e, h3.eqv (e.app _ _)⟩

theorem eG.front {f : Nat → Rc} {sN : AS} {i : Nat} {l2 : List Nat} : ∀ {l1 : List Nat} {s : AS}, eG C ops f sN (l1 ++ i :: l2) s → (∀ j ∈ l1, indep (f j) (f i) = true) → eG C ops f sN (i :: (l1 ++ l2)) s
 | [], _, h, _ => h
 | j :: l1, s, ⟨oj, h1, h2, h3⟩, hi => by
   obtain ⟨oi, k1, k2, k3⟩ := eG.front h3 fun k hk => hi k (List.mem_cons_of_mem _ hk)
   obtain ⟨q1, q2, q3⟩ := h2.swap k2 (hi j (by simp))
   exact ⟨oi, k1, q1, oj, h1, q2, k3.eqv q3.symm⟩
end
end Go.VG
