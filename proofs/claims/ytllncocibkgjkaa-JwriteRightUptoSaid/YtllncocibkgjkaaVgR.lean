/-
  A part of the proof.
-/
import Derived.Test.YtllncocibkgjkaaVgO
set_option linter.unusedSimpArgs false
set_option linter.unusedVariables false
namespace Go.VG
open Go

theorem kR {e : Ef} : quiet e = true ↔ e.ks = [] ∧ e.up = [] ∧ e.nw = [] := by
 obtain ⟨v, ks, up, nw, rd⟩ := e
 cases ks <;> cases up <;> cases nw <;> simp [quiet]

mutual
theorem tP : ∀ {x : V} {acc : List Nat} {i : Nat}, i ∈ acc → i ∈ V.names x acc
 | .ptr j _, acc, i, h | .bptr j _ _, acc, i, h | .buf j, acc, i, h | .map j, acc, i, h => by
   simp only [V.names]
   cases au j acc with
   | true => exact h
   | false => exact List.mem_append_left _ h
 | .agg cs, acc, i, h | .tuple cs, acc, i, h => by simp only [V.names]; exact p8 h
 | .iface _ x, acc, i, h => by simp only [V.names]; exact tP h
 | .func _ fs cs, acc, i, h => by simp only [V.names]; exact p8 (p8 h)
 | .undef, _, _, h | .int .., _, _, h | .bool _, _, _, h | .str _, _, _, h | .list .., _, _, h | .nilptr, _, _, h | .box .., _, _, h | .nilIface, _, _, h | .nilFunc, _, _, h | .nilmap, _, _, h => by simp only [V.names]; exact h
theorem p8 : ∀ {x : List V} {acc : List Nat} {i : Nat}, i ∈ acc → i ∈ V.cQ x acc
 | [], _, _, h => by simp only [V.cQ]; exact h
 | c :: cs, _, _, h => by simp only [V.cQ]; exact p8 (tP h)
end
theorem zv {o : O} {acc : List Nat} {i : Nat} (h : i ∈ acc) : i ∈ o.names acc := by
 cases o <;> simp only [O.names] <;> first | exact h | exact p8 h | exact tP h

theorem zV {sg : List O} : ∀ {fuel : Nat} {todo acc : List Nat} {i : Nat}, i ∈ acc → i ∈ reach sg fuel todo acc
 | 0, _, _, _, h => by simp only [reach]; exact h
 | _ + 1, [], _, _, h => by simp only [reach]; exact h
 | fuel + 1, k :: todo, acc, i, h => by simp only [reach]; exact zV (zv h)
theorem zW {sg sg' : List O} : ∀ {fuel : Nat} {todo acc : List Nat}, (∀ i ∈ todo, i ∈ acc) → (∀ r ∈ reach sg fuel todo acc, ao sg' r = ao sg r) → reach sg' fuel todo acc = reach sg fuel todo acc
 | 0, _, _, _, _ => by simp only [reach]
 | _ + 1, [], _, _, _ => by simp only [reach]
 | fuel + 1, k :: todo, acc, ht, h => by
   have hk : ao sg' k = ao sg k := h k (zV (ht k (by simp)))
   simp only [reach] at h ⊢
   rw [hk]
   refine zW (fun i hi => ?_) h
   rcases List.mem_append.1 hi with hi | hi
   . exact zv (ht i (List.mem_cons_of_mem _ hi))
   . exact List.mem_of_mem_drop hi

theorem vO {sg sg' : List O} : ∀ {th : List Nat}, (∀ r ∈ th, ao sg' r = ao sg r) → fG sg' th = fG sg th
 | [], _ => rfl
 | k :: ks, h => by simp only [fG, h k (by simp), vO (th := ks) fun r hr => h r (List.mem_cons_of_mem _ hr)]
theorem wJ {sg sg' : List O} {th0 : List Nat} : ∀ {th : List Nat}, (∀ r ∈ th, ao sg' r = ao sg r) → fH sg' th0 th = fH sg th0 th
 | [], _ => rfl
 | k :: ks, h => by simp only [fH, h k (by simp), wJ (th := ks) fun r hr => h r (List.mem_cons_of_mem _ hr)]
theorem yW {sg sg' : List O} {f : Nat → Option Nat} : ∀ {th : List Nat}, (∀ r ∈ th, ao sg' r = ao sg r) → locals sg' f th = locals sg f th
 | [], _ => rfl
 | k :: ks, h => by simp only [locals, h k (by simp), yW (th := ks) fun r hr => h r (List.mem_cons_of_mem _ hr)]
theorem wi {sg sg' : List O} : ∀ {th : List Nat}, (∀ r ∈ th, ao sg' r = ao sg r) → ga sg' th = ga sg th
 | [], _ => rfl
 | k :: ks, h => by simp only [ga, h k (by simp), wi (th := ks) fun r hr => h r (List.mem_cons_of_mem _ hr)]
theorem vZ {n n' : Nat} : ∀ {th : List Nat}, bS th n 0 = bS th n' 0
 | [] => rfl
 | k :: ks => by
   funext j
   cases j with
   | zero => simp [bS]
   | succ j => simp only [bS]; exact congrFun (vZ (th := ks)) j

section
variable {C : Ctx} {s s' : AS} {o : Oper} {e : Ef}

theorem xe {sg sg' : List O} {f : FuncId} {args : List V} {pre : Prop} (h : dy C sg f args = some (pre, e)) (hq : quiet e = true) (hr : ∀ r ∈ e.rd, ao sg' r = ao sg r) : dy C sg' f args = some (pre, e) := by
 unfold dy at h ⊢
 rw [kC, kC] at h ⊢
 -- what is read
 have hrd : e.rd = reach sg 256 (V.cQ args []) (V.cQ args []) := by
  unfold oB at h
  simp only [ia, mX] at h
  cases hc : (fw (reach sg 256 (V.cQ args []) (V.cQ args [])) && fG sg (reach sg 256 (V.cQ args []) (V.cQ args []))) with
  | false => rw [hc] at h; cases h
  | true =>
    rw [hc, cond_true] at h
    split at h
    . cases h
    . cases hcl : fH sg (reach sg 256 (V.cQ args []) (V.cQ args [])) (reach sg 256 (V.cQ args []) (V.cQ args [])) with
      | false => rw [hcl] at h; cases h
      | true => rw [hcl] at h; cases h; rfl
    . cases h; rfl
 rw [hrd] at hr
 rw [zW (fun _ h => h) hr]
 generalize reach sg 256 (V.cQ args []) (V.cQ args []) = th at *
 unfold oB at h ⊢
 simp only [ia, mX] at h ⊢
 rw [vO hr, wJ hr, yW hr, wi hr]
 cases hc : (fw th && fG sg th) with
 | false => rw [hc] at h; cases h
 | true =>
   rw [hc, cond_true] at h
   rw [cond_true]
   generalize C.Γ f (V.fS (fun i => idxOf i th 0) args) (locals sg (fun i => idxOf i th 0) th) = r at h ⊢
   rcases r with _ | ⟨pre', v, _ | σ⟩
   . cases h
   . exact h
   . simp only [Option.some.injEq, Prod.mk.injEq] at h ⊢
     obtain ⟨rfl, rfl⟩ := h
     refine ⟨rfl, ?_⟩
     obtain ⟨q1, q2, q3⟩ := kR.1 hq
     simp only [nm, List.map_eq_nil_iff] at q3
     rw [q3]
     simp only [List.length_nil]
     rw [vZ (n := sg'.length) (n' := sg.length)]

theorem j6 : ∀ {l : List Operand}, (∀ x ∈ l, s'.ev C x = s.ev C x) → s'.aT C l = s.aT C l
 | [], _ => rfl
 | x :: xs, h => by simp only [AS.aT, h x (by simp), j6 (l := xs) fun y hy => h y (List.mem_cons_of_mem _ hy)]
theorem qt : ∀ {l : List (Nat × Operand)}, (∀ x ∈ pg l, s'.ev C x = s.ev C x) → fj C s' l = fj C s l
 | [], _ => rfl
 | (i, x) :: r, h => by simp only [fj, h x (by simp [pg]), qt (l := r) fun y hy => h y (by simp [pg, hy])]
theorem xg {n : Nat} {lo hi : Option Operand} (h1 : ∀ x ∈ jK lo, s'.ev C x = s.ev C x) (h2 : ∀ x ∈ jK hi, s'.ev C x = s.ev C x) : gj C s' n lo hi = gj C s n lo hi := by
 cases lo <;> cases hi <;> simp only [gj] <;> simp only [jK, List.mem_singleton, forall_eq, List.not_mem_nil] at h1 h2 <;> simp only [h1, h2]
theorem wY {x : V} (h : ∀ i, x = .buf i → ao s'.sg i = ao s.sg i) : elems s' x = elems s x := by
 unfold elems
 cases x <;> try rfl
 rename_i i
 simp only [h i rfl]
theorem AA {c : Call} (h : ∀ x ∈ fY (.call c), s'.ev C x = s.ev C x) : target C s' c = target C s c := by
 unfold target
 cases hc : c.callee with
 | value f =>
   simp only [fY, hc] at h
   simp only [h f (by simp), j6 fun x hx => h x (List.mem_cons_of_mem _ hx)]
 | invoke r m => rfl
 | builtin b => rfl

theorem wo {r : Option (Prop × Ef)} {e : Ef} (h : cu r (fun b => b = e)) : ∃ pre : Prop, r = some (pre, e) ∧ pre := by
 cases r with
 | none => exact h.elim
 | some p =>
   have h1 : p.1 := h.1
   have h2 : fJ p.2 (fun b => b = e) := h.2
   rw [gn] at h2
   exact ⟨p.1, by rw [← h2], h1⟩
theorem wm {r : Option (Prop × Ef)} {e : Ef} {pre : Prop} (h : r = some (pre, e)) (hp : pre) : cu r (fun b => b = e) := by
 subst h
 refine ⟨hp, ?_⟩
 show fJ e _
 rw [gn]

theorem sU (h : ∀ x ∈ fY o.op, s'.ev C x = s.ev C x) (hs : s'.sg = s.sg) : bB C s' o = bB C s o := by
 obtain ⟨dst, op, type, pos, after, guard⟩ := o
 have hel : ∀ x, elems s' x = elems s x := fun x => wY fun i _ => by rw [hs]
 cases op <;> simp only [bB, fY] at h ⊢
 case move x => rw [h x (by simp)]
 case assign x => rw [h x (by simp)]
 case pick c a b => simp only [mQ, h c (by simp), h a (by simp), h b (by simp)]
 case alloc t => simp only [ke, hs]
 case box t x => rw [h x (by simp), hs]
 case build t ps => simp only [lz, qt h]
 case buildSlice t n ps => simp only [jA, mN, gS, qt h, hs]
 case load t x => simp only [jB, h x (by simp), hs]
 case store t x y => simp only [kx, h x (by simp), h y (by simp), hs]
 case nilCheck x => simp only [ku, h x (by simp)]
 case binOp b t x y u => rw [h x (by simp), h y (by simp)]
 case unOp b t x => rw [h x (by simp)]
 case convert a b x => simp only [kt, gT, h x (by simp), hel, hs]
 case makeInterface t x => simp only [mO, h x (by simp)]
 case makeFunc fn a b => rw [j6 fun x hx => h x (by simp [hx]), j6 fun x hx => h x (by simp [hx])]
 case makeSlice t x y => simp only [kp, h x (by simp), h y (by simp), hs]
 case slice t x lo hi mx =>
  have hr : ∀ n, gj C s' n lo hi = gj C s n lo hi := fun n => xg (fun x hx => h x (by simp [hx])) (fun x hx => h x (by simp [hx]))
  have hh : ∀ y, hi = some y → s'.ev C y = s.ev C y := fun y hy => h y (by simp [hy, jK])
  have hm : ∀ y, mx = some y → s'.ev C y = s.ev C y := fun y hy => h y (by simp [hy, jK])
  simp only [lE, h x (by simp), hs, hr]
  repeat' (first
   | rfl
   | (simp only [hh _ rfl]; done)
   | (simp only [hh _ rfl, hm _ rfl]; done)
   | split)
 case fieldAddr t x f => simp only [kj, h x (by simp)]
 case field t x f => simp only [ki, h x (by simp)]
 case indexAddr t x y => simp only [lC, h x (by simp), h y (by simp), hs]
 case index t x y => simp only [mM, h x (by simp), h y (by simp)]
 case typeAssert x _ t ok => simp only [mI, h x (by simp)]
 case extract x i => simp only [mL, h x (by simp)]
 case range t x => simp only [km, kn, dq, h x (by simp), hs]
 case makeMap t r => cases r <;> simp only [ko, hs]
 case lookup t m x ok => simp only [i7, dq, h m (by simp), h x (by simp), hs]
 case mapUpdate t m x y => simp only [kq, dq, h m (by simp), h x (by simp), h y (by simp), hs]
 case mapEntry t m x => simp only [j5, dq, h m (by simp), h x (by simp), hs]
 case entryStore t m b y => simp only [kh, dq, h m (by simp), h b (by simp), h y (by simp), hs]
 case entry x => simp only [lB, h x (by simp), hs]
 case next x b => simp only [lD, h x (by simp), hs]
 case call c =>
  have ht := AA (C := C) (s := s) (s' := s') (c := c) (by simpa only [fY] using h)
  unfold lA
  cases hc : c.callee with
  | value f => simp only [ht, hs]
  | invoke r m =>
    simp only [hc] at h
    simp only [h r (by simp), j6 fun x hx => h x (List.mem_cons_of_mem _ hx), hs]
  | builtin b =>
    simp only [hc] at h
    simp only [j6 h]
    have hb : ∀ xs, iK C s' b c.argTypes.toList xs = iK C s b c.argTypes.toList xs := fun xs => by
     unfold iK
     simp only [hs, hel, kf, kg, dq]
    simp only [hb]
end
end Go.VG
namespace Go.VG
open Go

section
variable {C : Ctx} {s s' : AS} {o : Oper} {e : Ef} {nt : Nat} {tm : List (Nat × V)} {sg sg' : List O} {kl : List Nat}

theorem FF {t : TypeId} : a6 (fun e => quiet e = false) (ke C s t) := by
 unfold ke
 split
 . exact a6.fail
 . rw [force_eq, cy]; exact a6.when fun _ => a6.ret rfl
theorem FH {x : V} : a6 (fun e => quiet e = false) (force x fun x => aQ s.sg.length fun n => aR (!x.dn) (ret ⟨.ptr n 0, [], [], [.cells x.cells], []⟩)) := by
 rw [force_eq, cy]; exact a6.when fun _ => a6.ret rfl
theorem FO {t : TypeId} {x y : Operand} : a6 (fun e => quiet e = false) (kp C s t x y) := by
 unfold kp
 split
 . split
   . exact a6.fail
   . refine a6.when fun _ => a6.aq fun _ => ?_
     rw [cy, cy, force_eq]
     exact a6.ret rfl
 . exact a6.fail
theorem FM {t : TypeId} {len : Nat} {ps : Array (Nat × Operand)} : a6 (fun e => quiet e = false) (mN C s t len ps) := by
 unfold mN
 refine a6.bind (oA _ _ _ _ _) fun e _ => ?_
 split
 . rw [cy]; exact a6.ret rfl
 . exact a6.fail
theorem nx {α β : Type} {o : Option α} {f : α → Tr β} {K : β → Prop} : cJ o f K ↔ ∃ a, o = some a ∧ f a K := by
 cases o with
 | none => exact ⟨fun h => h.elim, fun ⟨_, h, _⟩ => by cases h⟩
 | some a => exact ⟨fun h => ⟨a, rfl, h⟩, fun ⟨_, h, k⟩ => by cases h; exact k⟩
theorem p9 {t : TypeId} {m : V} {F : Nat → Bool → List Sc → List (V × Int) → List Nat → Nat → Tr Ef} (h : ∀ i ag sh es bs ck, a6 (fun e => quiet e = false) (F i ag sh es bs ck)) : a6 (fun e => quiet e = false) (dq C s t m F) := by
 unfold dq
 refine a6.opt fun _ _ => ?_
 split
 . split
   . exact a6.when fun _ => h _ _ _ _ _ _
   . exact a6.fail
 . exact a6.fail
theorem FN {t : TypeId} : a6 (fun e => quiet e = false) (ko C s t) := by
 unfold ko
 refine a6.opt fun _ _ => ?_
 rw [cy]
 exact a6.ret rfl
theorem FQ {t : TypeId} {m x y : Operand} : a6 (fun e => quiet e = false) (kq C s t m x y) := by
 unfold kq
 refine p9 fun i ag sh es bs ck => ?_
 rw [force_eq]
 refine a6.when fun _ => ?_
 split
 . exact a6.cz (fun _ _ => a6.ret rfl) (fun _ => a6.ret rfl)
 . exact a6.fail
theorem FP {t : TypeId} {m x : Operand} : a6 (fun e => quiet e = false) (j5 C s t m x) := by
 unfold j5
 refine p9 fun i ag sh es bs ck => ?_
 rw [force_eq]
 exact a6.when fun _ => a6.aq fun _ => a6.cz (fun _ _ => a6.ret rfl) (fun _ => a6.ret rfl)
theorem FJ {t : TypeId} {m x y : Operand} : a6 (fun e => quiet e = false) (kh C s t m x y) := by
 unfold kh
 refine p9 fun i ag sh es bs ck => ?_
 split
 . exact a6.ex fun _ => a6.aq fun _ => a6.ret rfl
 . exact a6.fail
theorem FI {t : TypeId} {m x : V} : a6 (fun e => quiet e = false) (kg C s t m x) := by
 unfold kg
 refine p9 fun i ag sh es bs ck => ?_
 rw [force_eq]
 exact a6.when fun _ => a6.cz (fun _ _ => a6.ret rfl) (fun _ => a6.ret rfl)
theorem FL {t : TypeId} {m : V} : a6 (fun e => quiet e = false) (kn C s t m) := by
 unfold kn
 refine p9 fun i ag sh es bs ck => ?_
 rw [cy]
 exact a6.ret rfl
theorem FK {t : TypeId} {x : Operand} : a6 (fun e => quiet e = false) (km C s t x) := by
 unfold km
 split
 . rw [cy]; exact a6.ret rfl
 . exact FL
 . exact a6.fail
theorem FR {t : TypeId} {x y : Operand} : a6 (fun e => quiet e = false) (kx C s t x y) := by
 unfold kx
 simp only [iR]
 split
 . exact a6.fail
 . rw [force_eq]
   refine a6.when fun _ => ?_
   split
   . split
     . exact a6.opt fun _ _ => a6.ret rfl
     . exact a6.fail
   . split
     . refine a6.opt fun _ _ => ?_
       split
       . exact a6.when fun _ => a6.opt fun _ _ => a6.aq fun _ => a6.ret rfl
       . exact a6.fail
     . exact a6.fail
   . exact a6.fail
theorem FG {t : TypeId} {x : V} {ys : List V} {rd : List Nat} : a6 (fun e => quiet e = false) (kf C s t x ys rd) := by
 unfold kf
 split
 . refine a6.when fun _ => a6.aq fun _ => a6.aq fun _ => ?_
   rw [cy, cy]; exact a6.ret rfl
 . split
   . exact a6.when fun _ => a6.aq fun _ => a6.ret rfl
   . exact a6.fail
 . exact a6.fail

theorem BV {x : V} : a6 (fun r => ∀ i, x = .buf i → r.2.2 = [i]) (elems s x) := by
 unfold elems
 split
 . exact a6.ret fun i h => by cases h
 . exact a6.ret fun i h => by cases h
 . split
   . exact a6.ret fun i h => by cases h; rfl
   . exact a6.fail
 . exact a6.fail

theorem Cw (he : bB C ⟨nt, tm, sg, kl⟩ o (fun b => b = e)) (hq : quiet e = true) (hr : ∀ r ∈ e.rd, ao sg' r = ao sg r) : bB C ⟨nt, tm, sg', kl⟩ o (fun b => b = e) := by
  obtain ⟨dst, op, type, pos, after, guard⟩ := o
  have hev : ∀ x, AS.ev C ⟨nt, tm, sg', kl⟩ x = AS.ev C ⟨nt, tm, sg, kl⟩ x := fun _ => rfl
  have hevs : ∀ l, AS.aT C ⟨nt, tm, sg', kl⟩ l = AS.aT C ⟨nt, tm, sg, kl⟩ l := fun l => j6 fun _ _ => rfl
  have hps : ∀ l, fj C ⟨nt, tm, sg', kl⟩ l = fj C ⟨nt, tm, sg, kl⟩ l := fun l => qt fun _ _ => rfl
  have hrg : ∀ n lo hi, gj C ⟨nt, tm, sg', kl⟩ n lo hi = gj C ⟨nt, tm, sg, kl⟩ n lo hi := fun n lo hi => xg (fun _ _ => rfl) (fun _ _ => rfl)
  have hno : ∀ {p : Prop}, quiet e = false → p := fun h => by rw [h] at hq; cases hq
  cases op <;> simp only [bB] at he ⊢
  case move x => exact he
  case assign x => exact he
  case pick c a b => exact he
  case alloc t => exact hno (FF e he)
  case box t x => exact hno (FH (s := ⟨nt, tm, sg, kl⟩) e he)
  case build t ps => simp only [lz, hps] at he ⊢; exact he
  case buildSlice t n ps =>
   have hb : gS C ⟨nt, tm, sg', kl⟩ t n ps = gS C ⟨nt, tm, sg, kl⟩ t n ps := by simp only [gS, hps]
   cases dst with
   | none => simp only [jA, hb] at he ⊢; exact he
   | some d =>
     simp only [jA] at he ⊢
     cases hd : C.lits d with
     | false => rw [hd] at he; simp only [cond_false, hb] at he ⊢; exact he
     | true => rw [hd] at he; exact hno (FM e he)
  case load t x =>
   unfold jB at he ⊢
   simp only [iR] at he ⊢
   rw [hev]
   cases hv : AS.ev C ⟨nt, tm, sg, kl⟩ x <;> rw [hv] at he <;> try exact he
   . rename_i i off
     have hi : i ∈ e.rd := by
      refine (?_ : a6 (fun e : Ef => i ∈ e.rd) _) e he
      split
      . exact a6.fail
      . simp only
        split
        . refine a6.bind (cS _ _ _ _) fun v _ => ?_
          rw [force_eq]; exact a6.ret (by simp)
        . exact a6.fail
     simp only [hr i hi]
     exact he
   . rename_i i idx off
     have hi : i ∈ e.rd := by
      refine (?_ : a6 (fun e : Ef => i ∈ e.rd) _) e he
      split
      . exact a6.fail
      . simp only
        split
        . refine a6.opt fun _ _ => a6.when fun _ => a6.bind (cS _ _ _ _) fun v _ => ?_
          rw [force_eq]; exact a6.ret (by simp)
        . exact a6.fail
     simp only [hr i hi]
     exact he
  case store t x y => exact hno (FR e he)
  case nilCheck x => exact he
  case binOp b t x y u => exact he
  case unOp b t x => exact he
  case convert a b x =>
   rw [hev]
   have hmk : (gT C ⟨nt, tm, sg, kl⟩ a b (AS.ev C ⟨nt, tm, sg, kl⟩ x) (fun b => b = e) → gT C ⟨nt, tm, sg', kl⟩ a b (AS.ev C ⟨nt, tm, sg, kl⟩ x) (fun b => b = e)) → kt C ⟨nt, tm, sg', kl⟩ a b (AS.ev C ⟨nt, tm, sg, kl⟩ x) (fun b => b = e) := fun hk => by
    unfold kt at he ⊢
    cases hv : AS.ev C ⟨nt, tm, sg, kl⟩ x <;> rw [hv] at he hk <;> try exact hk he
    rename_i i
    simp only at he ⊢
    cases hb : Nat.beq a b with
    | false => rw [hb] at he; exact hk he
    | true =>
      rw [hb] at he
      refine hno ((?_ : a6 (fun e : Ef => quiet e = false) _) e he)
      simp only [cond_true]
      split
      . split
        . split
          . exact a6.ret rfl
          . exact a6.fail
        . exact a6.fail
      . exact a6.fail
   refine hmk fun he => ?_
   have hc : ∀ v, elems ⟨nt, tm, sg', kl⟩ v = elems ⟨nt, tm, sg, kl⟩ v → gT C ⟨nt, tm, sg', kl⟩ a b v = gT C ⟨nt, tm, sg, kl⟩ a b v := fun v hel => by
    unfold gT
    repeat' (first
     | rfl
     | (simp only [hel]; done)
     | split)
   generalize AS.ev C ⟨nt, tm, sg, kl⟩ x = v at he ⊢
   rw [hc v (wY fun i hv => ?_)]
   . exact he
   subst hv
   refine hr i ?_
   refine (?_ : a6 (fun e : Ef => i ∈ e.rd) _) e he
   unfold gT
   split <;> first
    | exact a6.fail
    | contradiction
    | skip
   split
   . exact a6.fail
   . refine a6.bind (kd _ _) fun r hr' => ?_
     have := BV r (hr' _ rfl) i rfl
     obtain ⟨sz, l, rd⟩ := r
     simp only at this
     subst this
     exact a6.when fun _ => a6.ex fun _ => a6.aq fun _ => a6.ret (by simp)
   . exact a6.fail
  case makeInterface t x => exact he
  case makeFunc fn a b => rw [hevs, hevs]; exact he
  case makeSlice t x y => exact hno (FO e he)
  case slice t x lo hi mx =>
   unfold lE at he ⊢
   rw [hev]
   simp only [hrg, hev] at he ⊢
   generalize AS.ev C ⟨nt, tm, sg, kl⟩ x = v at he ⊢
   by_cases hv : ∃ i, v = .buf i
   . obtain ⟨i, rfl⟩ := hv
     refine hno ((?_ : a6 (fun e : Ef => quiet e = false) _) e he)
     split <;> first
      | exact a6.fail
      | contradiction
      | skip
     all_goals
      split
      . exact a6.fail
      . split
        . split
          . exact a6.when fun _ => a6.aq fun _ => a6.ret rfl
          . exact a6.fail
        . exact a6.fail
   . by_cases hp : ∃ i a, v = .ptr i a
     . obtain ⟨i, a, rfl⟩ := hp
       refine hno ((?_ : a6 (fun e : Ef => quiet e = false) _) e he)
       split <;> first
        | exact a6.fail
        | contradiction
        | skip
       split
       . exact a6.fail
       . split
         . exact a6.when fun _ => a6.opt fun _ _ => a6.bind (dz _ _ _ _ _) fun _ _ => by rw [ot]; exact a6.ret rfl
         . exact a6.fail
     cases v <;> first
      | exact absurd ⟨_, rfl⟩ hv
      | exact absurd ⟨_, _, rfl⟩ hp
      | skip
     all_goals (generalize (C.ti t).k = k at he ⊢; cases k <;> cases mx <;> exact he)
  case fieldAddr t x f => exact he
  case field t x f => exact he
  case indexAddr t x y =>
   unfold lC at he ⊢
   simp only [iR] at he ⊢
   rw [hev, hev]
   generalize AS.ev C ⟨nt, tm, sg, kl⟩ x = v at he ⊢
   generalize AS.ev C ⟨nt, tm, sg, kl⟩ y = u at he ⊢
   by_cases hv : ∃ i, v = .buf i
   . obtain ⟨i, rfl⟩ := hv
     have hi : i ∈ e.rd := by
      refine (?_ : a6 (fun e : Ef => i ∈ e.rd) _) e he
      split <;> first
       | exact a6.fail
       | contradiction
       | skip
      rename_i h
      cases h
      split
      . exact a6.fail
      . split
        . exact a6.when fun _ => a6.aq fun _ => a6.ret (by simp)
        . exact a6.fail
     generalize (C.ti t).k = k at he ⊢
     cases k <;> cases u <;> simp only [hr i hi] <;> exact he
   . cases v <;> first
       | exact absurd ⟨_, rfl⟩ hv
       | skip
     all_goals (generalize (C.ti t).k = k at he ⊢; cases k <;> cases u <;> exact he)
  case index t x y => exact he
  case typeAssert x _ t ok => exact he
  case extract x i => exact he
  case range t x => exact hno (FK e he)
  case makeMap t r => cases r with
   | none => exact hno (FN e he)
   | some r => exact he
  case mapUpdate t m x y => exact hno (FQ e he)
  case mapEntry t m x => exact hno (FP e he)
  case entryStore t m b y => exact hno (FJ e he)
  case lookup t m x ok =>
   unfold i7 dq at he ⊢
   rw [hev, hev]
   obtain ⟨p, hp, he⟩ := nx.1 he
   refine nx.2 ⟨p, hp, ?_⟩
   generalize AS.ev C ⟨nt, tm, sg, kl⟩ m = v at he ⊢
   cases v <;> try exact he
   rename_i i
   have hi : i ∈ e.rd := by
    refine (?_ : a6 (fun e : Ef => i ∈ e.rd) _) e he
    simp only
    split
    . rw [force_eq]
      refine a6.when fun _ => a6.when fun _ => ?_
      split
      . exact a6.cz (fun _ _ => a6.ret (by simp)) (fun _ => a6.ret (by simp))
      . exact a6.ret (by simp)
    . exact a6.fail
   simp only [hr i hi]
   exact he
  case entry x =>
   unfold lB at he ⊢
   simp only [iR] at he ⊢
   rw [hev]
   generalize AS.ev C ⟨nt, tm, sg, kl⟩ x = v at he ⊢
   cases v <;> try exact he
   rename_i k off
   cases off with
   | succ off => exact he
   | zero =>
     have hk : k ∈ e.rd ∧ ∀ i bs ck left last, ao sg k = .miter (.map i) bs ck left last → i ∈ e.rd := by
      refine (?_ : a6 (fun e : Ef => k ∈ e.rd ∧ ∀ i bs ck left last, ao sg k = .miter (.map i) bs ck left last → i ∈ e.rd) _) e he
      simp only
      split
      . rename_i i bs ck left last hs
        split
        . refine a6.aq fun _ => a6.opt fun _ _ => a6.ret ⟨by simp, fun i' bs' ck' left' last' h' => ?_⟩
          rw [hs] at h'
          injection h' with h' _
          injection h' with h'
          subst h'
          simp
        . exact a6.fail
      . exact a6.fail
     simp only [hr k hk.1]
     have hk2 := hk.2
     simp only at he
     generalize ao sg k = ob at he hk2 ⊢
     cases ob <;> try exact he
     rename_i m bs ck left last
     cases m <;> try exact he
     rename_i i
     simp only [hr i (hk2 i bs ck left last rfl)]
     exact he
  case next x b =>
   unfold lD at he ⊢
   rw [hev]
   cases hv : AS.ev C ⟨nt, tm, sg, kl⟩ x <;> rw [hv] at he <;> try exact he
   rename_i i off
   cases off with
   | succ off => cases b <;> exact he
   | zero => cases b with
     | false => exact he
     | true =>
       have hi : i ∈ e.rd := by
        refine (?_ : a6 (fun e : Ef => i ∈ e.rd) _) e he
        simp only
        split
        . exact a6.bg (fun _ => a6.opt fun _ _ => a6.aq fun _ => a6.ret (by simp)) (fun _ => a6.ret (by simp))
        . exact a6.fail
       simp only [hr i hi]
       exact he
  case call c =>
   unfold lA at he ⊢
   have htg : target C ⟨nt, tm, sg', kl⟩ c = target C ⟨nt, tm, sg, kl⟩ c := AA fun _ _ => rfl
   rw [htg]
   generalize hcal : c.callee = cal at he ⊢
   cases cal
   . -- a function's value
     obtain ⟨p, hp, hc⟩ : ∃ p, target C ⟨nt, tm, sg, kl⟩ c = some p ∧ cu (dy C sg p.1 p.2) (fun b => b = e) := by
      cases ht : target C ⟨nt, tm, sg, kl⟩ c with
      | none => rw [ht] at he; exact he.elim
      | some p => rw [ht] at he; exact ⟨p, rfl, he⟩
     obtain ⟨pre, h1, h2⟩ := wo hc
     rw [hp]
     exact wm (xe h1 hq hr) h2
   . rename_i r m
     simp only at he ⊢
     rw [hev, hevs]
     generalize AS.ev C ⟨nt, tm, sg, kl⟩ r = v at he ⊢
     cases v <;> try exact he
     obtain ⟨f, hm, hc⟩ := he
     obtain ⟨pre, h1, h2⟩ := wo hc
     exact ⟨f, hm, wm (xe h1 hq hr) h2⟩
   . rename_i b
     simp only at he ⊢
     rw [hevs]
     rw [mW] at he ⊢
     generalize AS.aT C ⟨nt, tm, sg, kl⟩ c.args.toList = xs at he ⊢
     generalize c.argTypes.toList = ts at he ⊢
     have hbt : a6 (fun e' => quiet e' = true → (∀ r ∈ e'.rd, ao sg' r = ao sg r) → iK C ⟨nt, tm, sg', kl⟩ b ts xs (fun b => b = e')) (iK C ⟨nt, tm, sg, kl⟩ b ts xs) := by
      unfold iK
      split
      . rename_i t x
        intro e he hq hr
        generalize (C.ti t).k = k at he ⊢
        cases k <;> try exact he
        cases x <;> try exact he
        rename_i i _
        have hi : i ∈ e.rd := by
         refine (?_ : a6 (fun e : Ef => i ∈ e.rd) _) e he
         simp only
         split
         . exact a6.ret (by simp)
         . exact a6.fail
        simp only [hr i hi]
        exact he
      . rename_i t t2 x y
        refine fun e he hq _ => (?_ : ∀ {p : Prop}, quiet e = false → p) ((?_ : a6 (fun e : Ef => quiet e = false) _) e he)
        . intro p h; rw [h] at hq; cases hq
        split
        . exact a6.fail
        . exact a6.fail
        . split
          . exact a6.fail
          . exact a6.when fun _ => a6.bind (kd _ _) fun r _ => a6.when fun _ => FG
        . exact a6.fail
      . rename_i t t2 x y
        refine fun e he hq _ => (?_ : ∀ {p : Prop}, quiet e = false → p) ((?_ : a6 (fun e : Ef => quiet e = false) _) e he)
        . intro p h; rw [h] at hq; cases hq
        split
        . split
          . exact a6.fail
          . split
            . exact a6.bind (kd _ _) fun r _ => a6.when fun _ => a6.ret rfl
            . exact a6.fail
        . exact a6.fail
      . exact fun e he hq _ => absurd hq (by rw [FI e he]; exact Bool.false_ne_true)
      . exact fun e he _ _ => he
      . exact fun e he _ _ => he
      . exact fun e he _ _ => he
     exact hbt e he hq hr
  all_goals exact he

theorem Cv (h : ∀ x ∈ fY o.op, s'.ev C x = s.ev C x) (he : bB C s o (fun b => b = e)) (hq : quiet e = true) (hr : ∀ r ∈ e.rd, ao s'.sg r = ao s.sg r) : bB C s' o (fun b => b = e) := by
 obtain ⟨nt, tm, sg, kl⟩ := s
 obtain ⟨nt', tm', sg', kl'⟩ := s'
 have h1 : bB C ⟨nt', tm', sg, kl'⟩ o (fun b => b = e) := by
  rw [sU (s' := ⟨nt', tm', sg, kl'⟩) (s := ⟨nt, tm, sg, kl⟩) (fun x hx => h x hx) rfl]
  exact he
 exact Cw h1 hq hr
end
end Go.VG
namespace Go.VG
open Go

mutual
theorem ni {ks : List Nat} : ∀ {x : V}, x.free ks = true → x.kill ks = x
 | .undef, _ | .int .., _ | .bool _, _ | .str _, _ | .nilptr, _ | .nilIface, _ | .nilFunc, _ | .nilmap, _ | .list .., _ | .box .., _ => by simp [V.kill]
 | .ptr i _, h | .bptr i _ _, h | .buf i, h | .map i, h => by
   simp only [V.free, Bool.not_eq_true'] at h
   simp [V.kill, h]
 | .agg cs, h | .tuple cs, h => by simp [V.kill, oR (by simpa [V.free] using h)]
 | .iface t x, h => by simp [V.kill, ni (by simpa [V.free] using h)]
 | .func fn fs cs, h => by
   simp only [V.free, Bool.and_eq_true] at h
   simp [V.kill, oR h.1, oR h.2]
theorem oR {ks : List Nat} : ∀ {x : List V}, V.j7 ks x = true → V.dg ks x = x
 | [], _ => by simp [V.dg]
 | c :: cs, h => by
   simp only [V.j7, Bool.and_eq_true] at h
   simp [V.dg, ni h.1, oR h.2]
end
mutual
theorem qG {ks : List Nat} : ∀ {x : V}, (x.kill ks).jP = true → x.kill ks = x
 | .undef, _ | .int .., _ | .bool _, _ | .str _, _ | .nilptr, _ | .nilIface, _ | .nilFunc, _ | .nilmap, _ | .list .., _ | .box .., _ => by simp [V.kill]
 | .ptr i _, h | .bptr i _ _, h | .buf i, h | .map i, h => by
   cases hm : au i ks with
   | true => simp [V.kill, hm, V.jP] at h
   | false => simp [V.kill, hm]
 | .agg cs, h | .tuple cs, h => by
   simp only [V.kill, V.jP] at h
   simp [V.kill, oT h]
 | .iface t x, h => by
   simp only [V.kill, V.jP] at h
   simp [V.kill, qG h]
 | .func fn fs cs, h => by
   simp only [V.kill, V.jP, Bool.and_eq_true] at h
   simp [V.kill, oT h.1, oT h.2]
theorem oT {ks : List Nat} : ∀ {x : List V}, V.jk (V.dg ks x) = true → V.dg ks x = x
 | [], _ => by simp [V.dg]
 | c :: cs, h => by
   simp only [V.dg, V.jk, Bool.and_eq_true] at h
   simp [V.dg, qG h.1, oT h.2]
end

theorem oI : ∀ (sg : List O) (i : Nat), ao sg i = sg.getD i .dead
 | [], i => by simp [ao]
 | o :: os, 0 => by simp [ao]
 | o :: os, i + 1 => by simp [ao, oI os i]

theorem sq : ∀ {up : List (Nat × O)} {rd : List Nat}, o9 up rd = true → ∀ p ∈ up, p.1 ∉ rd
 | [], _, _, p, h => by simp at h
 | (i, o) :: r, rd, h, p, hp => by
   simp only [o9, Bool.and_eq_true, Bool.not_eq_true'] at h
   rcases List.mem_cons.1 hp with rfl | hp
   . exact lQ.1 h.1
   . exact sq h.2 p hp
theorem sj : ∀ {l : List Nat} {n : Nat}, nZ l n = true → ∀ i ∈ l, i < n
 | [], _, _, i, h => by simp at h
 | k :: ks, n, h, i, hi => by
   simp only [nZ, Bool.and_eq_true] at h
   rcases List.mem_cons.1 hi with rfl | hi
   . exact Nat.le_of_ble_eq_true h.1
   . exact sj h.2 i hi
theorem AN : ∀ {up : List (Nat × O)} {sg : List O} {r : Nat}, (∀ p ∈ up, p.1 ≠ r) → (cB sg up)[r]? = sg[r]?
 | [], sg, r, _ => rfl
 | (i, o) :: up, sg, r, h => by
   simp only [cB]
   rw [AN fun p hp => h p (List.mem_cons_of_mem _ hp), fV, List.getElem?_set_ne (h (i, o) (by simp))]

structure dO (s t : AS) : Prop where
 nt : s.nt = t.nt
 tm : ∀ u, lk s.tm u = lk t.tm u
 sg : s.sg = t.sg
 kl : ∀ i, au i s.kl = true ↔ au i t.kl = true
theorem dO.refl (s : AS) : dO s s := ⟨rfl, fun _ => rfl, rfl, fun _ => Iff.rfl⟩
theorem dO.symm {s t : AS} (h : dO s t) : dO t s := ⟨h.nt.symm, fun u => (h.tm u).symm, h.sg.symm, fun i => (h.kl i).symm⟩
theorem dO.trans {s t u : AS} (h : dO s t) (k : dO t u) : dO s u := ⟨h.nt.trans k.nt, fun x => (h.tm x).trans (k.tm x), h.sg.trans k.sg, fun i => (h.kl i).trans (k.kl i)⟩

theorem ik (s : AS) (d : Option Nat) (e : Ef) (t : Nat) : lk (s.app d e).tm t = if d = some t then e.v else (lk s.tm t).kill e.ks := by
 cases d with
 | none => simp only [AS.app]; rw [jH]; simp
 | some d =>
   simp only [AS.app, lk]
   rw [jH]
   by_cases h : d = t
   . subst h; simp
   . have : Nat.beq d t = false := by
       cases hb : Nat.beq d t with
       | false => rfl
       | true => exact absurd (Nat.eq_of_beq_eq_true hb) h
     simp [this, h]
theorem iY (s : AS) (d : Option Nat) (e : Ef) : (s.app d e).sg = eZ (cB (gw e.ks s.sg) e.up) e.nw := rfl
theorem eN {s : AS} {d : Option Nat} {e : Ef} (h : quiet e = true) : (s.app d e).sg = s.sg := by
 obtain ⟨h1, h2, h3⟩ := kR.1 h
 rw [iY, h1, h2, h3]; rfl
theorem dO.app {s t : AS} (h : dO s t) (d : Option Nat) (e : Ef) : dO (s.app d e) (t.app d e) := by
 refine ⟨h.nt, fun u => ?_, ?_, fun i => ?_⟩
 . rw [ik, ik, h.tm]
 . rw [iY, iY, h.sg]
 . simp only [AS.app, g8, h.kl]
theorem xJ {s : AS} {d : Option Nat} {e : Ef} {r : Nat} (hr : r < s.sg.length) (hu : ∀ p ∈ e.up, p.1 ≠ r) : ao (s.app d e).sg r = (ao s.sg r).kill e.ks := by
 rw [oI, oI, iY, si, List.getD_eq_getElem?_getD, List.getD_eq_getElem?_getD, List.getElem?_append_left (by rw [lL, oQ]; simpa using hr), AN hu, oQ,
  List.getElem?_map, List.getElem?_eq_getElem hr]
 rfl

section
variable {C : Ctx} {ops : List Oper}

structure dj (C : Ctx) (ops : List Oper) (o : Oper) (s : AS) (r : Rc) : Prop where
 ef : stepT C ops s o (fun b => b = r.e)
 d : r.d = o.dst
 us : r.us = looks ops o
 ov : r.ov = s.aT C (fY o.op)
 oo : (jf o).1 = 1 ∨ r.oo = ic s.sg r.e.rd
 lu : r.lu = jf o
 n : quiet r.e = false → r.n = s.sg.length
 dok : cv s o.dst = true

theorem vu : ∀ {l : List Operand} {t : Nat}, Operand.tmp t ∈ l → t ∈ tmpsOf l
 | [], _, h => by simp at h
 | x :: xs, t, h => by
   rcases List.mem_cons.1 h with h | h
   . subst h; simp [tmpsOf]
   . have := vu h
     cases x <;> simp [tmpsOf, this]
theorem xj {s s' : AS} {x : Operand} (h : ∀ t, x = .tmp t → lk s'.tm t = lk s.tm t) : s'.ev C x = s.ev C x := by
 cases x with
 | tmp t => exact h t rfl
 | _ => rfl
theorem xK {sg sg' : List O} : ∀ {l : List Nat}, (∀ r ∈ l, ao sg' r = ao sg r) → ic sg' l = ic sg l
 | [], _ => rfl
 | r :: rs, h => by simp only [ic, h r (by simp), xK (l := rs) fun x hx => h x (List.mem_cons_of_mem _ hx)]

theorem I8 {s s' : AS} {o : Oper} {e : Ef} (hg : ∀ t ∈ n7 ops o.guard, lk s'.tm t = lk s.tm t) (ho : bB C s o (fun b => b = e) → bB C s' o (fun b => b = e)) (h : stepT C ops s o (fun b => b = e)) : stepT C ops s' o (fun b => b = e) := by
 unfold stepT at h ⊢
 cases hgd : o.guard with
 | none => rw [hgd] at h; exact ho h
 | some p =>
   obtain ⟨j, want⟩ := p
   rw [hgd] at h hg
   simp only at h ⊢
   cases hd : br ops j with
   | none => rw [hd] at h; exact h
   | some t =>
     rw [hd] at h
     simp only at h ⊢
     rw [hg t (by simp [n7, hd])]
     generalize lk s.tm t = v at h ⊢
     cases v <;> try exact h
     rotate_left
     . rename_i l
       cases l with
       | nil => exact h
       | cons _ _ => exact h
     rename_i b
     cases want <;> cases b <;> simp only [cond_true, cond_false, iI, bg] at h ⊢ <;> first
      | exact h
      | exact ho h

theorem Ao {s : AS} {o : Oper} {e : Ef} (h : stepT C ops s o (fun b => b = e)) : ∀ t ∈ n7 ops o.guard, (∃ b, lk s.tm t = .bool b) ∨ lk s.tm t = .tuple [] := by
 intro t ht
 unfold stepT at h
 cases hgd : o.guard with
 | none => rw [hgd] at ht; simp [n7] at ht
 | some p =>
   obtain ⟨j, want⟩ := p
   rw [hgd] at h ht
   simp only [n7] at ht
   simp only at h
   cases hd : br ops j with
   | none => rw [hd] at ht; simp at ht
   | some t' =>
     rw [hd] at ht h
     simp only [List.mem_singleton] at ht
     subst ht
     simp only at h
     generalize lk s.tm t = v at h
     cases v <;> first
      | exact .inl ⟨_, rfl⟩
      | exact h.elim
      | (rename_i l; cases l with
         | nil => exact .inr rfl
         | cons _ _ => exact h.elim)

theorem dj.loc {s s' : AS} {o : Oper} {r : Rc} (h : dj C ops o s r) (hnt : s'.nt = s.nt) (hl : ∀ t ∈ looks ops o, lk s'.tm t = lk s.tm t) (hsg : s'.sg = s.sg ∨ (quiet r.e = true ∧ ∀ i ∈ r.e.rd, ao s'.sg i = ao s.sg i)) :
   dj C ops o s' r := by
 have hev : ∀ x ∈ fY o.op, s'.ev C x = s.ev C x := fun x hx => xj fun t ht => hl t (List.mem_append_left _ (vu (ht ▸ hx)))
 refine ⟨?_, h.d, h.us, ?_, ?_, h.lu, fun hq => ?_, ?_⟩
 . refine I8 (fun t ht => hl t (List.mem_append_right _ ht)) (fun he => ?_) h.ef
   rcases hsg with hsg | ⟨hq, hr⟩
   . rw [sU hev hsg]; exact he
   . exact Cv hev he hq hr
 . rw [h.ov, j6 hev]
 . refine h.oo.imp id fun hoo => ?_
   rw [hoo]
   rcases hsg with hsg | ⟨_, hr⟩
   . rw [hsg]
   . exact (xK hr).symm
 . rcases hsg with hsg | ⟨hq', _⟩
   . rw [hsg]; exact h.n hq
   . rw [hq'] at hq; cases hq
 . have := h.dok
   cases hd : o.dst with
   | none => rfl
   | some d => rw [hd] at this; simp only [cv] at this ⊢; rw [hnt]; exact this

theorem dj.eqv {s s' : AS} {o : Oper} {r : Rc} (h : dj C ops o s r) (e : dO s s') : dj C ops o s' r :=
 h.loc e.nt.symm (fun t _ => (e.tm t).symm) (.inl e.sg.symm)

theorem xE {ks : List Nat} : ∀ {l : List V}, V.j7 ks l = true → ∀ x ∈ l, x.free ks = true
 | [], _, x, h => by simp at h
 | c :: cs, h, x, hx => by
   simp only [V.j7, Bool.and_eq_true] at h
   rcases List.mem_cons.1 hx with rfl | hx
   . exact h.1
   . exact xE h.2 x hx
theorem Al : ∀ {l : List V}, V.jk l = true → ∀ x ∈ l, x.jP = true
 | [], _, x, h => by simp at h
 | c :: cs, h, x, hx => by
   simp only [V.jk, Bool.and_eq_true] at h
   rcases List.mem_cons.1 hx with rfl | hx
   . exact h.1
   . exact Al h.2 x hx
theorem sV {s : AS} : ∀ {l : List Operand} {x : Operand}, x ∈ l → s.ev C x ∈ s.aT C l
 | [], _, h => by simp at h
 | y :: ys, x, h => by
   rcases List.mem_cons.1 h with rfl | h
   . simp [AS.aT]
   . simp only [AS.aT, List.mem_cons]; exact .inr (sV h)
theorem xF {ks : List Nat} {sg : List O} : ∀ {l : List Nat}, kD ks (ic sg l) = true → ∀ i ∈ l, (ao sg i).kill ks = ao sg i
 | [], _, i, h => by simp at h
 | k :: l, h, i, hi => by
   simp only [ic] at h
   have hrest : kD ks (ic sg l) = true := by
    cases ho : ao sg k <;> rw [ho] at h <;> simp only [kD, Bool.and_eq_true] at h <;> first | exact h | exact h.2
   rcases List.mem_cons.1 hi with rfl | hi
   . cases ho : ao sg i <;> try rfl
     all_goals
      rw [ho] at h
      simp only [kD, Bool.and_eq_true] at h
      first
      | (simp only [O.kill, oR h.1]; done)
      | (simp only [O.kill, ni h.1]; done)
   . exact xF hrest i hi
theorem Am {ks : List Nat} {sg sg' : List O} : ∀ {l : List Nat}, kZ (ic sg' l) = true → ∀ i ∈ l, ao sg' i = (ao sg i).kill ks → ao sg' i = ao sg i
 | [], _, i, h, _ => by simp at h
 | k :: l, h, i, hi, he => by
   simp only [ic] at h
   have hrest : kZ (ic sg' l) = true := by
    cases ho : ao sg' k <;> rw [ho] at h <;> simp only [kZ, Bool.and_eq_true] at h <;> first | exact h | exact h.2 | cases h
   rcases List.mem_cons.1 hi with rfl | hi
   . cases ho : ao sg i <;> rw [ho] at he <;> try exact he
     all_goals
      simp only [O.kill] at he
      rw [he] at h
      simp only [kZ, Bool.and_eq_true] at h
      first
      | (rw [he, oT h.1]; done)
      | (rw [he, qG h.1]; done)
   . exact Am hrest i hi he

theorem sP {d : Option Nat} {us : List Nat} (h : ow d us = true) {t : Nat} (ht : t ∈ us) : d ≠ some t := by
 intro e
 subst e
 simp only [ow, Bool.not_eq_true'] at h
 exact lQ.1 h ht

theorem x9 : ∀ {a b : List Nat}, qo a b = true → a = b
 | [], [], _ => rfl
 | x :: xs, y :: ys, h => by
   simp only [qo, Bool.and_eq_true] at h
   rw [Nat.eq_of_beq_eq_true h.1, x9 h.2]
 | [], _ :: _, h => by cases h
 | _ :: _, [], h => by cases h
theorem yY {o : Oper} (h : (jf o).1 = 1) : ∃ t m x, o.guard = none ∧ o.op = .lookup t (.tmp m) (.tmp x) false ∧ jf o = (1, [t, m, x]) := by
 unfold jf at h ⊢
 split at h <;> first
  | (rename_i t m x hg ho; exact ⟨t, m, x, hg, ho, rfl⟩)
  | (cases h; done)
theorem FT {o : Oper} (h : (jf o).1 = 2) : ∃ t m x, o.guard = none ∧ o.op = .mapEntry t (.tmp m) (.tmp x) ∧ jf o = (2, [t, m, x]) := by
 unfold jf at h ⊢
 split at h <;> first
  | (rename_i t m x hg ho; exact ⟨t, m, x, hg, ho, rfl⟩)
  | (cases h; done)
theorem xy {es : List (V × Int)} {x y : V} {q : Int} (h : b9 es x = none) : b9 (es ++ [(y, q)]) x = cond (gU y x) (some (es.length, q)) none := by
 induction es with
 | nil => simp only [List.nil_append, b9]; cases gU y x <;> rfl
 | cons p es ih =>
   obtain ⟨z, r⟩ := p
   simp only [List.cons_append, b9] at h ⊢
   cases hz : gU z x with
   | true => rw [hz] at h; simp at h
   | false =>
     rw [hz] at h
     simp only [cond_false] at h ⊢
     have hn : b9 es x = none := by
      cases he : b9 es x with
      | none => rfl
      | some p => rw [he] at h; cases h
     rw [ih hn]
     cases gU y x <;> simp
theorem Ek {es : List (V × Int)} {x y : V} (h : b9 es x = none) : getM (es ++ [(y, 0)]) x = getM es x := by
 unfold getM
 rw [xy h, h]
 cases gU y x <;> rfl
theorem El {sg : List O} {i : Nat} {o : O} (h : i < sg.length) : ao (eb sg i o) i = o := by
 have : ∀ (sg : List O) (i : Nat), i < sg.length → ao (eb sg i o) i = o := by
  intro sg
  induction sg with
  | nil => intro i h; simp at h
  | cons a r ih =>
    intro i h
    cases i with
    | zero => rfl
    | succ i => exact ih i (by simpa using h)
 exact this sg i h
theorem dj.look {s : AS} {o : Oper} {r : Rc} (h : dj C ops o s r) (hl : (jf o).1 = 1) : quiet r.e = true ∧ ∀ i ∈ r.e.rd, ∃ ag sh es bs ck, ao s.sg i = .map ag sh es bs ck := by
 obtain ⟨t, m, x, hg, ho, _⟩ := yY hl
 have ef : i7 C s t (.tmp m) (.tmp x) false (fun b => b = r.e) := by
  have := h.ef
  unfold stepT at this
  rw [hg] at this
  simp only [bB, ho] at this
  exact this
 unfold i7 dq at ef
 obtain ⟨p, hp, ef⟩ := nx.1 ef
 cases hm : AS.ev C s (.tmp m) <;> rw [hm] at ef <;> try exact ef.elim
 rename_i i
 simp only at ef
 cases hs : ao s.sg i <;> rw [hs] at ef <;> try exact ef.elim
 rename_i ag sh es bs ck
 simp only [force_eq] at ef
 cases hw : (q9 ag p.1 && nE sh p.2) with
 | false => rw [hw] at ef; exact ef.elim
 | true =>
   cases hf : gm ag sh (AS.ev C s (.tmp x)) with
   | false => rw [hw, hf] at ef; exact ef.elim
   | true =>
     rw [hw, hf] at ef
     have ef : (⟨.int .i64 (getM es (AS.ev C s (.tmp x))), [], [], [], [i]⟩ : Ef) = r.e := ef
     rw [← ef]
     refine ⟨rfl, fun k hk => ?_⟩
     simp at hk
     subst hk
     exact ⟨_, _, _, _, _, hs⟩
theorem dj.pair {s : AS} {oj oi : Oper} {rj ri : Rc} (hj : dj C ops oj s rj) (hi : dj C ops oi s ri) (h : pf rj ri = true) (a2 : ow oi.dst (looks ops oj) = true) : quiet rj.e = true ∧ ri.e.ks = [] ∧ dj C ops oj (s.app oi.dst ri.e) rj := by
 unfold pf at h
 simp only [Bool.and_eq_true] at h
 rw [hj.lu, hi.lu] at h
 obtain ⟨l1, l2, l3⟩ := h
 obtain ⟨t, m, x, hgj, hoj, ej⟩ := yY (Nat.eq_of_beq_eq_true l1)
 obtain ⟨t', m', x', hgi, hoi, ei⟩ := FT (Nat.eq_of_beq_eq_true l2)
 rw [ej, ei] at l3
 have l3 := x9 l3
 simp only [List.cons.injEq, and_true] at l3
 obtain ⟨rfl, rfl, rfl⟩ := l3
 have efj : i7 C s t (.tmp m) (.tmp x) false (fun b => b = rj.e) := by
  have := hj.ef
  unfold stepT at this
  rw [hgj] at this
  simp only [bB, hoj] at this
  exact this
 have efi : j5 C s t (.tmp m) (.tmp x) (fun b => b = ri.e) := by
  have := hi.ef
  unfold stepT at this
  rw [hgi] at this
  simp only [bB, hoi] at this
  exact this
 unfold i7 dq at efj
 obtain ⟨p, hp, efj⟩ := nx.1 efj
 unfold j5 dq at efi
 obtain ⟨p', hp', efi⟩ := nx.1 efi
 rw [hp] at hp'; cases hp'
 have hlm : Operand.tmp m ∈ fY oj.op := by rw [hoj]; simp [fY]
 have hlx : Operand.tmp x ∈ fY oj.op := by rw [hoj]; simp [fY]
 cases hm : AS.ev C s (.tmp m) <;> rw [hm] at efj efi <;> try exact efj.elim
 rename_i i
 simp only at efj efi
 cases hs : ao s.sg i <;> rw [hs] at efj efi <;> try exact efj.elim
 rename_i ag sh es bs ck
 simp only [force_eq] at efj efi
 have hil : i < s.sg.length := (dm hs (by simp)).2
 cases hw : (q9 ag p.1 && nE sh p.2) with
 | false => rw [hw] at efj; exact efj.elim
 | true =>
   cases hf : gm ag sh (AS.ev C s (.tmp x)) with
   | false => rw [hw, hf] at efj; exact efj.elim
   | true =>
     rw [hw, hf] at efj efi
     have efj : (⟨.int .i64 (getM es (AS.ev C s (.tmp x))), [], [], [], [i]⟩ : Ef) = rj.e := efj
     have hri : ∃ v es' bs' ck', ri.e = ⟨v, [], [(i, .map ag sh es' bs' ck')], [], [i]⟩ ∧ getM es' (AS.ev C s (.tmp x)) = getM es (AS.ev C s (.tmp x)) := by
      obtain ⟨_, k1, k2⟩ := efi
      cases hfd : b9 es (AS.ev C s (.tmp x)) with
      | some r =>
        have := k1 r hfd
        exact ⟨_, _, _, _, (show _ = ri.e from this).symm, rfl⟩
      | none =>
        have := k2 hfd
        exact ⟨_, _, _, _, (show _ = ri.e from this).symm, Ek hfd⟩
     obtain ⟨v, es', bs', ck', hri, hget⟩ := hri
     have hks : ri.e.ks = [] := by rw [hri]
     have hlk : ∀ u ∈ looks ops oj, lk (s.app oi.dst ri.e).tm u = lk s.tm u := fun u hu => by
      rw [ik, if_neg (sP a2 hu), hks, eF]
     have hev : ∀ y ∈ fY oj.op, (s.app oi.dst ri.e).ev C y = s.ev C y := fun y hy => xj fun u hu => hlk u (List.mem_append_left _ (vu (hu ▸ hy)))
     refine ⟨by rw [← efj]; rfl, hks, ?_⟩
     have hsg : (s.app oi.dst ri.e).sg = eb s.sg i (.map ag sh es' bs' ck') := by
      rw [hri]
      simp [AS.app, gw, cB, eZ]
     refine ⟨?_, hj.d, hj.us, ?_, .inl (Nat.eq_of_beq_eq_true l1), hj.lu, fun hq => ?_, ?_⟩
     . unfold stepT
       rw [hgj]
       simp only [bB, hoj]
       unfold i7 dq
       refine nx.2 ⟨p, hp, ?_⟩
       rw [hev _ hlm, hm]
       simp only
       rw [hsg, El hil]
       simp only [force_eq]
       rw [hev _ hlx, hw, hf]
       show (⟨.int .i64 (getM es' (AS.ev C s (.tmp x))), [], [], [], [i]⟩ : Ef) = rj.e
       rw [hget]
       exact efj
     . rw [hj.ov, j6 hev]
     . rw [← efj] at hq; cases hq
     . have := hj.dok
       cases hd : oj.dst with
       | none => rfl
       | some d => rw [hd] at this; simp only [cv] at this ⊢; exact this
theorem dj.swap {s : AS} {oj oi : Oper} {rj ri : Rc} (hj : dj C ops oj s rj) (hi : dj C ops oi (s.app oj.dst rj.e) ri) (h : indep rj ri = true) :
   dj C ops oi s ri ∧ dj C ops oj (s.app oi.dst ri.e) rj ∧ dO ((s.app oi.dst ri.e).app oj.dst rj.e) ((s.app oj.dst rj.e).app oi.dst ri.e) := by
 unfold indep at h
 simp only [Bool.and_eq_true] at h
 obtain ⟨⟨⟨a1, a2⟩, a3⟩, h⟩ := h
 rw [hj.d, hi.us] at a1
 rw [hi.d, hj.us] at a2
 rw [hi.d, hj.d] at a3
 have hne : ∀ t, oj.dst = some t → oi.dst = some t → False := fun t h1 h2 => by
  rw [h1, h2] at a3; simp [wU] at a3
 -- what i looks at, ahead of j
 have lki : ∀ t ∈ looks ops oi, lk (s.app oj.dst rj.e).tm t = (lk s.tm t).kill rj.e.ks := fun t ht => by
  rw [ik, if_neg (sP a1 ht)]
 have lkj : ∀ t ∈ looks ops oj, lk (s.app oi.dst ri.e).tm t = (lk s.tm t).kill ri.e.ks := fun t ht => by
  rw [ik, if_neg (sP a2 ht)]
 have hfin : (rj.e.ks = [] ∨ ri.e.ks = []) → rj.e.v.kill ri.e.ks = rj.e.v → ri.e.v.kill rj.e.ks = ri.e.v → ((s.app oi.dst ri.e).app oj.dst rj.e).sg = ((s.app oj.dst rj.e).app oi.dst ri.e).sg →
    dO ((s.app oi.dst ri.e).app oj.dst rj.e) ((s.app oj.dst rj.e).app oi.dst ri.e) := fun hks hv1 hv2 hsg => by
  refine ⟨rfl, fun t => ?_, hsg, fun i => by simp only [AS.app, g8]; exact or_left_comm⟩
  rw [ik, ik, ik, ik]
  by_cases e1 : oj.dst = some t
  . rw [if_pos e1, if_pos e1, if_neg (fun e2 => hne t e1 e2), hv1]
  . rw [if_neg e1, if_neg e1]
    by_cases e2 : oi.dst = some t
    . rw [if_pos e2, if_pos e2, hv2]
    . rw [if_neg e2, if_neg e2]
      rcases hks with hks | hks <;> rw [hks, eF, eF]
 cases hpl : pf rj ri with
 | true =>
   have hqj : quiet rj.e = true := by
    have hp2 := hpl
    unfold pf at hp2
    simp only [Bool.and_eq_true] at hp2
    rw [hj.lu] at hp2
    exact (hj.look (Nat.eq_of_beq_eq_true hp2.1)).1
   obtain ⟨j1, j2, j3⟩ := kR.1 hqj
   have hsi : dj C ops oi s ri := hi.loc rfl (fun t ht => by rw [lki t ht, j1, eF]) (.inl (eN hqj).symm)
   rw [← hi.d] at a2
   obtain ⟨_, i1, hsj⟩ := hj.pair hsi hpl (hi.d ▸ a2)
   refine ⟨hsi, hsj, hfin (.inl j1) (by rw [i1, eF]) (by rw [j1, eF]) ?_⟩
   rw [eN hqj, iY, iY, eN hqj]
 | false =>
 rw [hpl, Bool.false_or] at h
 cases hqj : quiet rj.e with
 | true =>
   obtain ⟨j1, j2, j3⟩ := kR.1 hqj
   have hsi : dj C ops oi s ri := hi.loc rfl (fun t ht => by rw [lki t ht, j1, eF]) (.inl (eN hqj).symm)
   cases hqi : quiet ri.e with
   | true =>
     obtain ⟨i1, i2, i3⟩ := kR.1 hqi
     refine ⟨hsi, hj.loc rfl (fun t ht => by rw [lkj t ht, i1, eF]) (.inl (eN hqi)), hfin (.inl j1) (by rw [i1, eF]) (by rw [j1, eF]) ?_⟩
     rw [eN hqj, eN hqi, eN hqi, eN hqj]
   | false =>
     rw [hqj, hqi] at h
     simp only [Bool.and_eq_true] at h
     obtain ⟨⟨⟨⟨b1, b2⟩, b3⟩, b4⟩, b5⟩ := h
     rw [hj.ov] at b1
     have hb2 : ∀ r ∈ rj.e.rd, (ao s.sg r).kill ri.e.ks = ao s.sg r := fun r hr => by
      rcases hj.oo with q | q
      . obtain ⟨_, _, _, _, _, hm⟩ := (hj.look q).2 r hr
        rw [hm]; rfl
      . rw [q] at b2; exact xF b2 r hr
     have hn : ri.n = s.sg.length := by rw [hi.n hqi, eN hqj]
     rw [hn] at b5
     refine ⟨hsi, hj.loc rfl (fun t ht => ?_) (.inr ⟨hqj, fun r hr => ?_⟩), hfin (.inl j1) (ni b3) (by rw [j1, eF]) ?_⟩
     . rw [lkj t ht]
       rcases List.mem_append.1 ht with ht | ht
       . have : ∀ (l : List Operand) t, t ∈ tmpsOf l → Operand.tmp t ∈ l := by
           intro l
           induction l with
           | nil => intro t h; simp [tmpsOf] at h
           | cons x xs ih =>
             intro t h
             cases x <;> simp only [tmpsOf, List.mem_cons] at h ⊢ <;> first
              | exact .inr (ih t h)
              | (rcases h with rfl | h
                 . exact .inl rfl
                 . exact .inr (ih t h))
         exact ni (xE b1 _ (sV (this _ _ ht)))
       . rcases Ao hj.ef t ht with ⟨b, hb⟩ | hb <;> rw [hb] <;> simp [V.kill, V.dg]
     . rw [xJ (sj b5 r hr) (fun p hp e => sq b4 p hp (e ▸ hr)), hb2 r hr]
     . rw [eN hqj, iY, iY, eN hqj]
 | false =>
   cases hqi : quiet ri.e with
   | false => rw [hqj, hqi] at h; cases h
   | true =>
     obtain ⟨i1, i2, i3⟩ := kR.1 hqi
     rw [hqj, hqi] at h
     simp only [Bool.and_eq_true] at h
     obtain ⟨⟨⟨⟨b1, b2⟩, b3⟩, b4⟩, b5⟩ := h
     rw [hi.ov] at b1
     have hb2 : ∀ r ∈ ri.e.rd, ao (s.app oj.dst rj.e).sg r = (ao s.sg r).kill rj.e.ks → ao (s.app oj.dst rj.e).sg r = ao s.sg r := fun r hr he => by
      rcases hi.oo with q | q
      . obtain ⟨_, _, _, _, _, hm⟩ := (hi.look q).2 r hr
        rw [hm] at he ⊢
        cases hg : ao s.sg r <;> rw [hg] at he <;> first
         | (cases he; done)
         | exact he
      . rw [q] at b2; exact Am b2 r hr he
     rw [hj.n hqj] at b5
     have hlk : ∀ t ∈ looks ops oi, lk s.tm t = lk (s.app oj.dst rj.e).tm t := fun t ht => by
      have h1 := lki t ht
      rw [h1]
      refine (qG ?_).symm
      rw [← h1]
      rcases List.mem_append.1 ht with ht | ht
      . have : ∀ (l : List Operand) t, t ∈ tmpsOf l → Operand.tmp t ∈ l := by
          intro l
          induction l with
          | nil => intro t h; simp [tmpsOf] at h
          | cons x xs ih =>
            intro t h
            cases x <;> simp only [tmpsOf, List.mem_cons] at h ⊢ <;> first
             | exact .inr (ih t h)
             | (rcases h with rfl | h
                . exact .inl rfl
                . exact .inr (ih t h))
        exact Al b1 _ (sV (this _ _ ht))
      . rcases Ao hi.ef t ht with ⟨b, hb⟩ | hb <;> rw [hb] <;> rfl
     refine ⟨hi.loc rfl hlk (.inr ⟨hqi, fun r hr => ?_⟩), hj.loc rfl (fun t ht => by rw [lkj t ht, i1, eF]) (.inl (eN hqi)), hfin (.inr i1) (by rw [i1, eF]) (ni b3) ?_⟩
     . exact (hb2 r hr (xJ (sj b5 r hr) (fun p hp e => sq b4 p hp (e ▸ hr)))).symm
     . show eZ (cB (gw rj.e.ks (s.app oi.dst ri.e).sg) rj.e.up) rj.e.nw = _
       rw [eN hqi, eN hqi]; rfl

def fE (C : Ctx) (ops : List Oper) (f : Nat → Rc) (sN : AS) : List Nat → AS → Prop
 | [], s => dO s sN
 | i :: L, s => ∃ o, ops[i]? = some o ∧ dj C ops o s (f i) ∧ fE C ops f sN L (s.app o.dst (f i).e)

theorem fE.eqv {f : Nat → Rc} {sN : AS} : ∀ {L : List Nat} {s s' : AS}, fE C ops f sN L s → dO s s' → fE C ops f sN L s'
 | [], _, _, h, e => e.symm.trans h
 | _ :: _, _, _, ⟨o, h1, h2, h3⟩, e => ⟨o, h1, h2.eqv e, h3.eqv (e.app _ _)⟩

theorem fE.front {f : Nat → Rc} {sN : AS} {i : Nat} {l2 : List Nat} : ∀ {l1 : List Nat} {s : AS}, fE C ops f sN (l1 ++ i :: l2) s → (∀ j ∈ l1, indep (f j) (f i) = true) → fE C ops f sN (i :: (l1 ++ l2)) s
 | [], _, h, _ => h
 | j :: l1, s, ⟨oj, h1, h2, h3⟩, hi => by
   obtain ⟨oi, k1, k2, k3⟩ := fE.front h3 fun k hk => hi k (List.mem_cons_of_mem _ hk)
   obtain ⟨q1, q2, q3⟩ := h2.swap k2 (hi j (by simp))
   exact ⟨oi, k1, q1, oj, h1, q2, k3.eqv q3.symm⟩
end
end Go.VG
