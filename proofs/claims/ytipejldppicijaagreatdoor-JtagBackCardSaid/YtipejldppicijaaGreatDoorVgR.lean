/-
  A part of the proof.
-/
import Derived.Test.YtipejldppicijaaGreatDoorVgO
set_option linter.unusedSimpArgs false
set_option linter.unusedVariables false
namespace Go.VG
open Go

theorem lp {e : Ef} : quiet e = true ↔ e.ks = [] ∧ e.up = [] ∧ e.nw = [] := by
 obtain ⟨v, ks, up, nw, rd⟩ := e
 cases ks <;> cases up <;> cases nw <;> simp [quiet]

mutual
theorem vK : ∀ {x : V} {acc : List Nat} {i : Nat}, i ∈ acc → i ∈ V.names x acc
 | .ptr j _, acc, i, h | .bptr j _ _, acc, i, h | .buf j, acc, i, h | .map j, acc, i, h => by
   simp only [V.names]
   cases aC j acc with
   | true => exact h
   | false => exact List.mem_append_left _ h
 | .agg cs, acc, i, h | .tuple cs, acc, i, h => by simp only [V.names]; exact qe h
 | .iface _ x, acc, i, h => by simp only [V.names]; exact vK h
 | .func _ fs cs, acc, i, h => by simp only [V.names]; exact qe (qe h)
 | .undef, _, _, h | .int .., _, _, h | .bool _, _, _, h | .str _, _, _, h | .list .., _, _, h | .nilptr, _, _, h | .box .., _, _, h | .nilIface, _, _, h | .nilFunc, _, _, h | .nilmap, _, _, h => by simp only [V.names]; exact h
theorem qe : ∀ {x : List V} {acc : List Nat} {i : Nat}, i ∈ acc → i ∈ V.d7 x acc
 | [], _, _, h => by simp only [V.d7]; exact h
 | c :: cs, _, _, h => by simp only [V.d7]; exact qe (vK h)
end
theorem BI {o : O} {acc : List Nat} {i : Nat} (h : i ∈ acc) : i ∈ o.names acc := by
 cases o <;> simp only [O.names] <;> first | exact h | exact qe h | exact vK h

theorem C9 {sg : List O} : ∀ {fuel : Nat} {todo acc : List Nat} {i : Nat}, i ∈ acc → i ∈ reach sg fuel todo acc
 | 0, _, _, _, h => by simp only [reach]; exact h
 | _ + 1, [], _, _, h => by simp only [reach]; exact h
 | fuel + 1, k :: todo, acc, i, h => by simp only [reach]; exact C9 (BI h)
theorem Ca {sg sg' : List O} : ∀ {fuel : Nat} {todo acc : List Nat}, (∀ i ∈ todo, i ∈ acc) → (∀ r ∈ reach sg fuel todo acc, ax sg' r = ax sg r) → reach sg' fuel todo acc = reach sg fuel todo acc
 | 0, _, _, _, _ => by simp only [reach]
 | _ + 1, [], _, _, _ => by simp only [reach]
 | fuel + 1, k :: todo, acc, ht, h => by
   have hk : ax sg' k = ax sg k := h k (C9 (ht k (by simp)))
   simp only [reach] at h ⊢
   rw [hk]
   refine Ca (fun i hi => ?_) h
   rcases List.mem_append.1 hi with hi | hi
   . exact BI (ht i (List.mem_cons_of_mem _ hi))
   . exact List.mem_of_mem_drop hi

theorem yh {sg sg' : List O} : ∀ {th : List Nat}, (∀ r ∈ th, ax sg' r = ax sg r) → fF sg' th = fF sg th
 | [], _ => rfl
 | k :: ks, h => by simp only [fF, h k (by simp), yh (th := ks) fun r hr => h r (List.mem_cons_of_mem _ hr)]
theorem yO {sg sg' : List O} {th0 : List Nat} : ∀ {th : List Nat}, (∀ r ∈ th, ax sg' r = ax sg r) → fG sg' th0 th = fG sg th0 th
 | [], _ => rfl
 | k :: ks, h => by simp only [fG, h k (by simp), yO (th := ks) fun r hr => h r (List.mem_cons_of_mem _ hr)]
theorem Bo {sg sg' : List O} {f : Nat → Option Nat} : ∀ {th : List Nat}, (∀ r ∈ th, ax sg' r = ax sg r) → locals sg' f th = locals sg f th
 | [], _ => rfl
 | k :: ks, h => by simp only [locals, h k (by simp), Bo (th := ks) fun r hr => h r (List.mem_cons_of_mem _ hr)]
theorem yx {sg sg' : List O} : ∀ {th : List Nat}, (∀ r ∈ th, ax sg' r = ax sg r) → g8 sg' th = g8 sg th
 | [], _ => rfl
 | k :: ks, h => by simp only [g8, h k (by simp), yx (th := ks) fun r hr => h r (List.mem_cons_of_mem _ hr)]
theorem yq {n n' : Nat} : ∀ {th : List Nat}, cm th n 0 = cm th n' 0
 | [] => rfl
 | k :: ks => by
   funext j
   cases j with
   | zero => simp [cm]
   | succ j => simp only [cm]; exact congrFun (yq (th := ks)) j

section
variable {C : Ctx} {s s' : AS} {o : Oper} {e : Ef}

theorem zg {sg sg' : List O} {f : FuncId} {args : List V} {pre : Prop} (h : dD C sg f args = some (pre, e)) (hq : quiet e = true) (hr : ∀ r ∈ e.rd, ax sg' r = ax sg r) : dD C sg' f args = some (pre, e) := by
 unfold dD at h ⊢
 rw [kW, kW] at h ⊢
 -- what is read
 have hrd : e.rd = reach sg 256 (V.d7 args []) (V.d7 args []) := by
  unfold pq at h
  simp only [hJ, nG] at h
  cases hc : (fv (reach sg 256 (V.d7 args []) (V.d7 args [])) && fF sg (reach sg 256 (V.d7 args []) (V.d7 args []))) with
  | false => rw [hc] at h; cases h
  | true =>
    rw [hc, cond_true] at h
    split at h
    . cases h
    . cases hcl : fG sg (reach sg 256 (V.d7 args []) (V.d7 args [])) (reach sg 256 (V.d7 args []) (V.d7 args [])) with
      | false => rw [hcl] at h; cases h
      | true => rw [hcl] at h; cases h; rfl
    . cases h; rfl
 rw [hrd] at hr
 rw [Ca (fun _ h => h) hr]
 generalize reach sg 256 (V.d7 args []) (V.d7 args []) = th at *
 unfold pq at h ⊢
 simp only [hJ, nG] at h ⊢
 rw [yh hr, yO hr, Bo hr, yx hr]
 cases hc : (fv th && fF sg th) with
 | false => rw [hc] at h; cases h
 | true =>
   rw [hc, cond_true] at h
   rw [cond_true]
   generalize C.Γ f (V.fV (fun i => idxOf i th 0) args) (locals sg (fun i => idxOf i th 0) th) = r at h ⊢
   rcases r with _ | ⟨pre', v, _ | σ⟩
   . cases h
   . exact h
   . simp only [Option.some.injEq, Prod.mk.injEq] at h ⊢
     obtain ⟨rfl, rfl⟩ := h
     refine ⟨rfl, ?_⟩
     obtain ⟨q1, q2, q3⟩ := lp.1 hq
     simp only [o6, List.map_eq_nil_iff] at q3
     rw [q3]
     simp only [List.length_nil]
     rw [yq (n := sg'.length) (n' := sg.length)]

theorem jb : ∀ {l : List Operand}, (∀ x ∈ l, s'.ev C x = s.ev C x) → s'.bL C l = s.bL C l
 | [], _ => rfl
 | x :: xs, h => by simp only [AS.bL, h x (by simp), jb (l := xs) fun y hy => h y (List.mem_cons_of_mem _ hy)]
theorem rP : ∀ {l : List (Nat × Operand)}, (∀ x ∈ qn l, s'.ev C x = s.ev C x) → fi C s' l = fi C s l
 | [], _ => rfl
 | (i, x) :: r, h => by simp only [fi, h x (by simp [qn]), rP (l := r) fun y hy => h y (by simp [qn, hy])]
theorem zi {n : Nat} {lo hi : Option Operand} (h1 : ∀ x ∈ jP lo, s'.ev C x = s.ev C x) (h2 : ∀ x ∈ jP hi, s'.ev C x = s.ev C x) : ga C s' n lo hi = ga C s n lo hi := by
 cases lo <;> cases hi <;> simp only [ga] <;> simp only [jP, List.mem_singleton, forall_eq, List.not_mem_nil] at h1 h2 <;> simp only [h1, h2]
theorem yX {x : V} (h : ∀ i, x = .buf i → ax s'.sg i = ax s.sg i) : elems s' x = elems s x := by
 unfold elems
 cases x <;> try rfl
 rename_i i
 simp only [h i rfl]
theorem Da {c : Call} (h : ∀ x ∈ fY (.call c), s'.ev C x = s.ev C x) : target C s' c = target C s c := by
 unfold target
 cases hc : c.callee with
 | value f =>
   simp only [fY, hc] at h
   simp only [h f (by simp), jb fun x hx => h x (List.mem_cons_of_mem _ hx)]
 | invoke r m => rfl
 | builtin b => rfl

theorem yB {r : Option (Prop × Ef)} {e : Ef} (h : cF r (fun b => b = e)) : ∃ pre : Prop, r = some (pre, e) ∧ pre := by
 cases r with
 | none => exact h.elim
 | some p =>
   have h1 : p.1 := h.1
   have h2 : fJ p.2 (fun b => b = e) := h.2
   rw [gd] at h2
   exact ⟨p.1, by rw [← h2], h1⟩
theorem yA {r : Option (Prop × Ef)} {e : Ef} {pre : Prop} (h : r = some (pre, e)) (hp : pre) : cF r (fun b => b = e) := by
 subst h
 refine ⟨hp, ?_⟩
 show fJ e _
 rw [gd]

theorem uP (h : ∀ x ∈ fY o.op, s'.ev C x = s.ev C x) (hs : s'.sg = s.sg) : bG C s' o = bG C s o := by
 obtain ⟨dst, op, type, pos, after, guard⟩ := o
 have hel : ∀ x, elems s' x = elems s x := fun x => yX fun i _ => by rw [hs]
 cases op <;> simp only [bG, fY] at h ⊢
 case move x => rw [h x (by simp)]
 case assign x => rw [h x (by simp)]
 case pick c a b => simp only [nA, h c (by simp), h a (by simp), h b (by simp)]
 case alloc t => simp only [kz, hs]
 case box t x => rw [h x (by simp), hs]
 case build t ps => simp only [me, rP h]
 case buildSlice t n ps => simp only [jB, nx, gG, rP h, hs]
 case load t x => simp only [jD, h x (by simp), hs]
 case store t x y => simp only [kP, h x (by simp), h y (by simp), hs]
 case nilCheck x => simp only [kO, h x (by simp)]
 case binOp b t x y u => rw [h x (by simp), h y (by simp)]
 case unOp b t x => rw [h x (by simp)]
 case convert a b x => simp only [kN, gH, h x (by simp), hel, hs]
 case makeInterface t x => simp only [ny, h x (by simp)]
 case makeFunc fn a b => rw [jb fun x hx => h x (by simp [hx]), jb fun x hx => h x (by simp [hx])]
 case makeSlice t x y => simp only [kL, h x (by simp), h y (by simp), hs]
 case slice t x lo hi mx =>
  have hr : ∀ n, ga C s' n lo hi = ga C s n lo hi := fun n => zi (fun x hx => h x (by simp [hx])) (fun x hx => h x (by simp [hx]))
  have hh : ∀ y, hi = some y → s'.ev C y = s.ev C y := fun y hy => h y (by simp [hy, jP])
  have hm : ∀ y, mx = some y → s'.ev C y = s.ev C y := fun y hy => h y (by simp [hy, jP])
  simp only [ml, h x (by simp), hs, hr]
  repeat' (first
   | rfl
   | (simp only [hh _ rfl]; done)
   | (simp only [hh _ rfl, hm _ rfl]; done)
   | split)
 case fieldAddr t x f => simp only [kG, h x (by simp)]
 case field t x f => simp only [kF, h x (by simp)]
 case indexAddr t x y => simp only [mh, h x (by simp), h y (by simp), hs]
 case index t x y => simp only [nv, h x (by simp), h y (by simp)]
 case typeAssert x _ t ok => simp only [ns, h x (by simp)]
 case extract x i => simp only [nu, h x (by simp)]
 case range t x => simp only [kH, kJ, dw, h x (by simp), hs]
 case makeMap t r => cases r <;> simp only [kK, hs]
 case lookup t m x ok => simp only [gY, dw, h m (by simp), h x (by simp), hs]
 case mapUpdate t m x y => simp only [kM, dw, h m (by simp), h x (by simp), h y (by simp), hs]
 case mapEntry t m x => simp only [ja, dw, h m (by simp), h x (by simp), hs]
 case entryStore t m b y => simp only [kE, dw, h m (by simp), h b (by simp), h y (by simp), hs]
 case entry x => simp only [mg, h x (by simp), hs]
 case next x b => simp only [mi, h x (by simp), hs]
 case call c =>
  have ht := Da (C := C) (s := s) (s' := s') (c := c) (by simpa only [fY] using h)
  unfold mf
  cases hc : c.callee with
  | value f => simp only [ht, hs]
  | invoke r m =>
    simp only [hc] at h
    simp only [h r (by simp), jb fun x hx => h x (List.mem_cons_of_mem _ hx), hs]
  | builtin b =>
    simp only [hc] at h
    simp only [jb h]
    have hb : ∀ xs, iI C s' b c.argTypes.toList xs = iI C s b c.argTypes.toList xs := fun xs => by
     unfold iI
     simp only [hs, hel, kC, kA, kD, dw]
    simp only [hb]
end
end Go.VG
namespace Go.VG
open Go

section
variable {C : Ctx} {s s' : AS} {o : Oper} {e : Ef} {nt : Nat} {tm : List (Nat × V)} {sg sg' : List O} {kl : List Nat}

theorem Km {t : TypeId} : a5 (fun e => quiet e = false) (kz C s t) := by
 unfold kz
 split
 . exact a5.fail
 . rw [force_eq, cy]; exact a5.when fun _ => a5.ret rfl
theorem Kq {x : V} : a5 (fun e => quiet e = false) (force x fun x => aZ s.sg.length fun n => b7 (!x.dh) (ret ⟨.ptr n 0, [], [], [.cells x.cells], []⟩)) := by
 rw [force_eq, cy]; exact a5.when fun _ => a5.ret rfl
theorem Kx {t : TypeId} {x y : Operand} : a5 (fun e => quiet e = false) (kL C s t x y) := by
 unfold kL
 split
 . split
   . exact a5.fail
   . refine a5.when fun _ => a5.aw fun _ => ?_
     rw [cy, cy, force_eq]
     exact a5.ret rfl
 . exact a5.fail
theorem Kv {t : TypeId} {len : Nat} {ps : Array (Nat × Operand)} : a5 (fun e => quiet e = false) (nx C s t len ps) := by
 unfold nx
 refine a5.bind (po _ _ _ _ _) fun e _ => ?_
 split
 . rw [cy]; exact a5.ret rfl
 . exact a5.fail
theorem od {α β : Type} {o : Option α} {f : α → Tr β} {K : β → Prop} : cT o f K ↔ ∃ a, o = some a ∧ f a K := by
 cases o with
 | none => exact ⟨fun h => h.elim, fun ⟨_, h, _⟩ => by cases h⟩
 | some a => exact ⟨fun h => ⟨a, rfl, h⟩, fun ⟨_, h, k⟩ => by cases h; exact k⟩
theorem qj {t : TypeId} {m : V} {F : Nat → Bool → List Sc → List (V × Int) → List Nat → Nat → Tr Ef} (h : ∀ i ag sh es bs ck, a5 (fun e => quiet e = false) (F i ag sh es bs ck)) : a5 (fun e => quiet e = false) (dw C s t m F) := by
 unfold dw
 refine a5.opt fun _ _ => ?_
 split
 . split
   . exact a5.when fun _ => h _ _ _ _ _ _
   . exact a5.fail
 . exact a5.fail
theorem Kw {t : TypeId} : a5 (fun e => quiet e = false) (kK C s t) := by
 unfold kK
 refine a5.opt fun _ _ => ?_
 rw [cy]
 exact a5.ret rfl
theorem Kz {t : TypeId} {m x y : Operand} : a5 (fun e => quiet e = false) (kM C s t m x y) := by
 unfold kM
 refine qj fun i ag sh es bs ck => ?_
 rw [force_eq]
 refine a5.when fun _ => ?_
 split
 . exact a5.cG (fun _ _ => a5.ret rfl) (fun _ => a5.ret rfl)
 . exact a5.fail
theorem Ky {t : TypeId} {m x : Operand} : a5 (fun e => quiet e = false) (ja C s t m x) := by
 unfold ja
 refine qj fun i ag sh es bs ck => ?_
 rw [force_eq]
 exact a5.when fun _ => a5.aw fun _ => a5.cG (fun _ _ => a5.ret rfl) (fun _ => a5.ret rfl)
theorem Ks {t : TypeId} {m x y : Operand} : a5 (fun e => quiet e = false) (kE C s t m x y) := by
 unfold kE
 refine qj fun i ag sh es bs ck => ?_
 split
 . exact a5.ex fun _ => a5.aw fun _ => a5.ret rfl
 . exact a5.fail
theorem Kr {t : TypeId} {m x : V} : a5 (fun e => quiet e = false) (kD C s t m x) := by
 unfold kD
 refine qj fun i ag sh es bs ck => ?_
 rw [force_eq]
 exact a5.when fun _ => a5.cG (fun _ _ => a5.ret rfl) (fun _ => a5.ret rfl)
theorem Ku {t : TypeId} {m : V} : a5 (fun e => quiet e = false) (kJ C s t m) := by
 unfold kJ
 refine qj fun i ag sh es bs ck => ?_
 rw [cy]
 exact a5.ret rfl
theorem Kt {t : TypeId} {x : Operand} : a5 (fun e => quiet e = false) (kH C s t x) := by
 unfold kH
 split
 . rw [cy]; exact a5.ret rfl
 . exact Ku
 . exact a5.fail
theorem KA {t : TypeId} {x y : Operand} : a5 (fun e => quiet e = false) (kP C s t x y) := by
 unfold kP
 simp only [iM]
 split
 . exact a5.fail
 . rw [force_eq]
   refine a5.when fun _ => ?_
   split
   . split
     . exact a5.opt fun _ _ => a5.ret rfl
     . exact a5.fail
   . split
     . refine a5.opt fun _ _ => ?_
       split
       . exact a5.when fun _ => a5.opt fun _ _ => a5.aw fun _ => a5.ret rfl
       . exact a5.fail
     . exact a5.fail
   . exact a5.fail
theorem Kn {t : TypeId} {x : V} {ys : List V} {rd : List Nat} : a5 (fun e => quiet e = false) (kA C s t x ys rd) := by
 unfold kA
 split
 . refine a5.when fun _ => a5.aw fun _ => a5.aw fun _ => ?_
   rw [cy, cy]; exact a5.ret rfl
 . split
   . exact a5.when fun _ => a5.aw fun _ => a5.ret rfl
   . exact a5.fail
 . exact a5.fail
theorem Ko {t : TypeId} {sz : Nat} {x : V} {ys : List V} {rd : List Nat} : a5 (fun e => quiet e = false) (kC C s t sz x ys rd) := by
 unfold kC
 split
 . refine a5.when fun _ => a5.aw fun _ => ?_
   rw [cy]; exact a5.ret rfl
 . exact Kn

theorem EG {x : V} : a5 (fun r => ∀ i, x = .buf i → r.2.2 = [i]) (elems s x) := by
 unfold elems
 split
 . exact a5.ret fun i h => by cases h
 . exact a5.ret fun i h => by cases h
 . split
   . exact a5.ret fun i h => by cases h; rfl
   . exact a5.fail
 . exact a5.fail

theorem Fi (he : bG C ⟨nt, tm, sg, kl⟩ o (fun b => b = e)) (hq : quiet e = true) (hr : ∀ r ∈ e.rd, ax sg' r = ax sg r) : bG C ⟨nt, tm, sg', kl⟩ o (fun b => b = e) := by
  obtain ⟨dst, op, type, pos, after, guard⟩ := o
  have hev : ∀ x, AS.ev C ⟨nt, tm, sg', kl⟩ x = AS.ev C ⟨nt, tm, sg, kl⟩ x := fun _ => rfl
  have hevs : ∀ l, AS.bL C ⟨nt, tm, sg', kl⟩ l = AS.bL C ⟨nt, tm, sg, kl⟩ l := fun l => jb fun _ _ => rfl
  have hps : ∀ l, fi C ⟨nt, tm, sg', kl⟩ l = fi C ⟨nt, tm, sg, kl⟩ l := fun l => rP fun _ _ => rfl
  have hrg : ∀ n lo hi, ga C ⟨nt, tm, sg', kl⟩ n lo hi = ga C ⟨nt, tm, sg, kl⟩ n lo hi := fun n lo hi => zi (fun _ _ => rfl) (fun _ _ => rfl)
  have hno : ∀ {p : Prop}, quiet e = false → p := fun h => by rw [h] at hq; cases hq
  cases op <;> simp only [bG] at he ⊢
  case move x => exact he
  case assign x => exact he
  case pick c a b => exact he
  case alloc t => exact hno (Km e he)
  case box t x => exact hno (Kq (s := ⟨nt, tm, sg, kl⟩) e he)
  case build t ps => simp only [me, hps] at he ⊢; exact he
  case buildSlice t n ps =>
   have hb : gG C ⟨nt, tm, sg', kl⟩ t n ps = gG C ⟨nt, tm, sg, kl⟩ t n ps := by simp only [gG, hps]
   cases dst with
   | none => simp only [jB, hb] at he ⊢; exact he
   | some d =>
     simp only [jB] at he ⊢
     cases hd : C.lits d with
     | false => rw [hd] at he; simp only [cond_false, hb] at he ⊢; exact he
     | true => rw [hd] at he; exact hno (Kv e he)
  case load t x =>
   unfold jD at he ⊢
   simp only [iM] at he ⊢
   rw [hev]
   cases hv : AS.ev C ⟨nt, tm, sg, kl⟩ x <;> rw [hv] at he <;> try exact he
   . rename_i i off
     have hi : i ∈ e.rd := by
      refine (?_ : a5 (fun e : Ef => i ∈ e.rd) _) e he
      split
      . exact a5.fail
      . simp only
        split
        . refine a5.bind (d8 _ _ _ _) fun v _ => ?_
          rw [force_eq]; exact a5.ret (by simp)
        . exact a5.fail
     simp only [hr i hi]
     exact he
   . rename_i i idx off
     have hi : i ∈ e.rd := by
      refine (?_ : a5 (fun e : Ef => i ∈ e.rd) _) e he
      split
      . exact a5.fail
      . simp only
        split
        . refine a5.opt fun _ _ => a5.when fun _ => a5.bind (d8 _ _ _ _) fun v _ => ?_
          rw [force_eq]; exact a5.ret (by simp)
        . exact a5.fail
     simp only [hr i hi]
     exact he
  case store t x y => exact hno (KA e he)
  case nilCheck x => exact he
  case binOp b t x y u => exact he
  case unOp b t x => exact he
  case convert a b x =>
   rw [hev]
   have hmk : (gH C ⟨nt, tm, sg, kl⟩ a b (AS.ev C ⟨nt, tm, sg, kl⟩ x) (fun b => b = e) → gH C ⟨nt, tm, sg', kl⟩ a b (AS.ev C ⟨nt, tm, sg, kl⟩ x) (fun b => b = e)) → kN C ⟨nt, tm, sg', kl⟩ a b (AS.ev C ⟨nt, tm, sg, kl⟩ x) (fun b => b = e) := fun hk => by
    unfold kN at he ⊢
    cases hv : AS.ev C ⟨nt, tm, sg, kl⟩ x <;> rw [hv] at he hk <;> try exact hk he
    rename_i i
    simp only at he ⊢
    cases hb : Nat.beq a b with
    | false => rw [hb] at he; exact hk he
    | true =>
      rw [hb] at he
      refine hno ((?_ : a5 (fun e : Ef => quiet e = false) _) e he)
      simp only [cond_true]
      split
      . split
        . split
          . exact a5.ret rfl
          . exact a5.fail
        . exact a5.fail
      . exact a5.fail
   refine hmk fun he => ?_
   have hc : ∀ v, elems ⟨nt, tm, sg', kl⟩ v = elems ⟨nt, tm, sg, kl⟩ v → gH C ⟨nt, tm, sg', kl⟩ a b v = gH C ⟨nt, tm, sg, kl⟩ a b v := fun v hel => by
    unfold gH
    repeat' (first
     | rfl
     | (simp only [hel]; done)
     | split)
   generalize AS.ev C ⟨nt, tm, sg, kl⟩ x = v at he ⊢
   rw [hc v (yX fun i hv => ?_)]
   . exact he
   subst hv
   refine hr i ?_
   refine (?_ : a5 (fun e : Ef => i ∈ e.rd) _) e he
   unfold gH
   split <;> first
    | exact a5.fail
    | contradiction
    | skip
   split
   . exact a5.fail
   . refine a5.bind (ku _ _) fun r hr' => ?_
     have := EG r (hr' _ rfl) i rfl
     obtain ⟨sz, l, rd⟩ := r
     simp only at this
     subst this
     exact a5.when fun _ => a5.ex fun _ => a5.aw fun _ => a5.ret (by simp)
   . exact a5.fail
  case makeInterface t x => exact he
  case makeFunc fn a b => rw [hevs, hevs]; exact he
  case makeSlice t x y => exact hno (Kx e he)
  case slice t x lo hi mx =>
   unfold ml at he ⊢
   rw [hev]
   simp only [hrg, hev] at he ⊢
   generalize AS.ev C ⟨nt, tm, sg, kl⟩ x = v at he ⊢
   by_cases hv : ∃ i, v = .buf i
   . obtain ⟨i, rfl⟩ := hv
     refine hno ((?_ : a5 (fun e : Ef => quiet e = false) _) e he)
     split <;> first
      | exact a5.fail
      | contradiction
      | skip
     all_goals
      split
      . exact a5.fail
      . split
        . split
          . exact a5.when fun _ => a5.aw fun _ => a5.ret rfl
          . exact a5.fail
        . exact a5.fail
   . by_cases hp : ∃ i a, v = .ptr i a
     . obtain ⟨i, a, rfl⟩ := hp
       refine hno ((?_ : a5 (fun e : Ef => quiet e = false) _) e he)
       split <;> first
        | exact a5.fail
        | contradiction
        | skip
       split
       . exact a5.fail
       . split
         . exact a5.when fun _ => a5.opt fun _ _ => a5.bind (dE _ _ _ _ _) fun _ _ => by rw [pd]; exact a5.ret rfl
         . exact a5.fail
     cases v <;> first
      | exact absurd ⟨_, rfl⟩ hv
      | exact absurd ⟨_, _, rfl⟩ hp
      | skip
     all_goals (generalize (C.ti t).k = k at he ⊢; cases k <;> cases mx <;> exact he)
  case fieldAddr t x f => exact he
  case field t x f => exact he
  case indexAddr t x y =>
   unfold mh at he ⊢
   simp only [iM] at he ⊢
   rw [hev, hev]
   generalize AS.ev C ⟨nt, tm, sg, kl⟩ x = v at he ⊢
   generalize AS.ev C ⟨nt, tm, sg, kl⟩ y = u at he ⊢
   by_cases hv : ∃ i, v = .buf i
   . obtain ⟨i, rfl⟩ := hv
     have hi : i ∈ e.rd := by
      refine (?_ : a5 (fun e : Ef => i ∈ e.rd) _) e he
      split <;> first
       | exact a5.fail
       | contradiction
       | skip
      rename_i h
      cases h
      split
      . exact a5.fail
      . split
        . exact a5.when fun _ => a5.aw fun _ => a5.ret (by simp)
        . exact a5.fail
     generalize (C.ti t).k = k at he ⊢
     cases k <;> cases u <;> simp only [hr i hi] <;> exact he
   . cases v <;> first
       | exact absurd ⟨_, rfl⟩ hv
       | skip
     all_goals (generalize (C.ti t).k = k at he ⊢; cases k <;> cases u <;> exact he)
  case index t x y => exact he
  case typeAssert x _ t ok => exact he
  case extract x i => exact he
  case range t x => exact hno (Kt e he)
  case makeMap t r => cases r with
   | none => exact hno (Kw e he)
   | some r => exact he
  case mapUpdate t m x y => exact hno (Kz e he)
  case mapEntry t m x => exact hno (Ky e he)
  case entryStore t m b y => exact hno (Ks e he)
  case lookup t m x ok =>
   unfold gY dw at he ⊢
   rw [hev, hev]
   obtain ⟨p, hp, he⟩ := od.1 he
   refine od.2 ⟨p, hp, ?_⟩
   generalize AS.ev C ⟨nt, tm, sg, kl⟩ m = v at he ⊢
   cases v <;> try exact he
   rename_i i
   have hi : i ∈ e.rd := by
    refine (?_ : a5 (fun e : Ef => i ∈ e.rd) _) e he
    simp only
    split
    . rw [force_eq]
      refine a5.when fun _ => a5.when fun _ => ?_
      split
      . exact a5.cG (fun _ _ => a5.ret (by simp)) (fun _ => a5.ret (by simp))
      . exact a5.ret (by simp)
    . exact a5.fail
   simp only [hr i hi]
   exact he
  case entry x =>
   unfold mg at he ⊢
   simp only [iM] at he ⊢
   rw [hev]
   generalize AS.ev C ⟨nt, tm, sg, kl⟩ x = v at he ⊢
   cases v <;> try exact he
   rename_i k off
   cases off with
   | succ off => exact he
   | zero =>
     have hk : k ∈ e.rd ∧ ∀ i bs ck left last, ax sg k = .miter (.map i) bs ck left last → i ∈ e.rd := by
      refine (?_ : a5 (fun e : Ef => k ∈ e.rd ∧ ∀ i bs ck left last, ax sg k = .miter (.map i) bs ck left last → i ∈ e.rd) _) e he
      simp only
      split
      . rename_i i bs ck left last hs
        split
        . refine a5.aw fun _ => a5.opt fun _ _ => a5.ret ⟨by simp, fun i' bs' ck' left' last' h' => ?_⟩
          rw [hs] at h'
          injection h' with h' _
          injection h' with h'
          subst h'
          simp
        . exact a5.fail
      . exact a5.fail
     simp only [hr k hk.1]
     have hk2 := hk.2
     simp only at he
     generalize ax sg k = ob at he hk2 ⊢
     cases ob <;> try exact he
     rename_i m bs ck left last
     cases m <;> try exact he
     rename_i i
     simp only [hr i (hk2 i bs ck left last rfl)]
     exact he
  case next x b =>
   unfold mi at he ⊢
   rw [hev]
   cases hv : AS.ev C ⟨nt, tm, sg, kl⟩ x <;> rw [hv] at he <;> try exact he
   rename_i i off
   cases off with
   | succ off => cases b <;> exact he
   | zero => cases b with
     | false => exact he
     | true =>
       have hi : i ∈ e.rd := by
        refine (?_ : a5 (fun e : Ef => i ∈ e.rd) _) e he
        simp only
        split
        . exact a5.bo (fun _ => a5.opt fun _ _ => a5.aw fun _ => a5.ret (by simp)) (fun _ => a5.ret (by simp))
        . exact a5.fail
       simp only [hr i hi]
       exact he
  case call c =>
   unfold mf at he ⊢
   have htg : target C ⟨nt, tm, sg', kl⟩ c = target C ⟨nt, tm, sg, kl⟩ c := Da fun _ _ => rfl
   rw [htg]
   generalize hcal : c.callee = cal at he ⊢
   cases cal
   . -- a function's value
     obtain ⟨p, hp, hc⟩ : ∃ p, target C ⟨nt, tm, sg, kl⟩ c = some p ∧ cF (dD C sg p.1 p.2) (fun b => b = e) := by
      cases ht : target C ⟨nt, tm, sg, kl⟩ c with
      | none => rw [ht] at he; exact he.elim
      | some p => rw [ht] at he; exact ⟨p, rfl, he⟩
     obtain ⟨pre, h1, h2⟩ := yB hc
     rw [hp]
     exact yA (zg h1 hq hr) h2
   . rename_i r m
     simp only at he ⊢
     rw [hev, hevs]
     generalize AS.ev C ⟨nt, tm, sg, kl⟩ r = v at he ⊢
     cases v <;> try exact he
     obtain ⟨f, hm, hc⟩ := he
     obtain ⟨pre, h1, h2⟩ := yB hc
     exact ⟨f, hm, yA (zg h1 hq hr) h2⟩
   . rename_i b
     simp only at he ⊢
     rw [hevs]
     rw [px] at he ⊢
     generalize AS.bL C ⟨nt, tm, sg, kl⟩ c.args.toList = xs at he ⊢
     generalize c.argTypes.toList = ts at he ⊢
     have hbt : a5 (fun e' => quiet e' = true → (∀ r ∈ e'.rd, ax sg' r = ax sg r) → iI C ⟨nt, tm, sg', kl⟩ b ts xs (fun b => b = e')) (iI C ⟨nt, tm, sg, kl⟩ b ts xs) := by
      unfold iI
      split
      . rename_i t x
        intro e he hq hr
        generalize (C.ti t).k = k at he ⊢
        cases k <;> try exact he
        cases x <;> try exact he
        rename_i i _
        have hi : i ∈ e.rd := by
         refine (?_ : a5 (fun e : Ef => i ∈ e.rd) _) e he
         simp only
         split
         . exact a5.ret (by simp)
         . exact a5.fail
        simp only [hr i hi]
        exact he
      . rename_i t t2 x y
        refine fun e he hq _ => (?_ : ∀ {p : Prop}, quiet e = false → p) ((?_ : a5 (fun e : Ef => quiet e = false) _) e he)
        . intro p h; rw [h] at hq; cases hq
        split
        . exact a5.fail
        . exact a5.fail
        . split
          . exact a5.fail
          . exact a5.when fun _ => a5.bind (ku _ _) fun r _ => a5.when fun _ => Ko
        . exact a5.fail
      . rename_i t t2 x y
        refine fun e he hq _ => (?_ : ∀ {p : Prop}, quiet e = false → p) ((?_ : a5 (fun e : Ef => quiet e = false) _) e he)
        . intro p h; rw [h] at hq; cases hq
        split
        . split
          . exact a5.fail
          . split
            . exact a5.bind (ku _ _) fun r _ => a5.when fun _ => a5.ret rfl
            . exact a5.fail
        . exact a5.fail
      . exact fun e he hq _ => absurd hq (by rw [Kr e he]; exact Bool.false_ne_true)
      . exact fun e he _ _ => he
      . exact fun e he _ _ => he
      . exact fun e he _ _ => he
     exact hbt e he hq hr
  all_goals exact he

theorem Fh (h : ∀ x ∈ fY o.op, s'.ev C x = s.ev C x) (he : bG C s o (fun b => b = e)) (hq : quiet e = true) (hr : ∀ r ∈ e.rd, ax s'.sg r = ax s.sg r) : bG C s' o (fun b => b = e) := by
 obtain ⟨nt, tm, sg, kl⟩ := s
 obtain ⟨nt', tm', sg', kl'⟩ := s'
 have h1 : bG C ⟨nt', tm', sg, kl'⟩ o (fun b => b = e) := by
  rw [uP (s' := ⟨nt', tm', sg, kl'⟩) (s := ⟨nt, tm, sg, kl⟩) (fun x hx => h x hx) rfl]
  exact he
 exact Fi h1 hq hr
end
end Go.VG
namespace Go.VG
open Go

mutual
theorem o3 {ks : List Nat} : ∀ {x : V}, x.free ks = true → x.kill ks = x
 | .undef, _ | .int .., _ | .bool _, _ | .str _, _ | .nilptr, _ | .nilIface, _ | .nilFunc, _ | .nilmap, _ | .list .., _ | .box .., _ => by simp [V.kill]
 | .ptr i _, h | .bptr i _ _, h | .buf i, h | .map i, h => by
   simp only [V.free, Bool.not_eq_true'] at h
   simp [V.kill, h]
 | .agg cs, h | .tuple cs, h => by simp [V.kill, pU (by simpa [V.free] using h)]
 | .iface t x, h => by simp [V.kill, o3 (by simpa [V.free] using h)]
 | .func fn fs cs, h => by
   simp only [V.free, Bool.and_eq_true] at h
   simp [V.kill, pU h.1, pU h.2]
theorem pU {ks : List Nat} : ∀ {x : List V}, V.jc ks x = true → V.dj ks x = x
 | [], _ => by simp [V.dj]
 | c :: cs, h => by
   simp only [V.jc, Bool.and_eq_true] at h
   simp [V.dj, o3 h.1, pU h.2]
end
mutual
theorem s8 {ks : List Nat} : ∀ {x : V}, (x.kill ks).kc = true → x.kill ks = x
 | .undef, _ | .int .., _ | .bool _, _ | .str _, _ | .nilptr, _ | .nilIface, _ | .nilFunc, _ | .nilmap, _ | .list .., _ | .box .., _ => by simp [V.kill]
 | .ptr i _, h | .bptr i _ _, h | .buf i, h | .map i, h => by
   cases hm : aC i ks with
   | true => simp [V.kill, hm, V.kc] at h
   | false => simp [V.kill, hm]
 | .agg cs, h | .tuple cs, h => by
   simp only [V.kill, V.kc] at h
   simp [V.kill, pW h]
 | .iface t x, h => by
   simp only [V.kill, V.kc] at h
   simp [V.kill, s8 h]
 | .func fn fs cs, h => by
   simp only [V.kill, V.kc, Bool.and_eq_true] at h
   simp [V.kill, pW h.1, pW h.2]
theorem pW {ks : List Nat} : ∀ {x : List V}, V.jr (V.dj ks x) = true → V.dj ks x = x
 | [], _ => by simp [V.dj]
 | c :: cs, h => by
   simp only [V.dj, V.jr, Bool.and_eq_true] at h
   simp [V.dj, s8 h.1, pW h.2]
end

theorem pC : ∀ (sg : List O) (i : Nat), ax sg i = sg.getD i .dead
 | [], i => by simp [ax]
 | o :: os, 0 => by simp [ax]
 | o :: os, i + 1 => by simp [ax, pC os i]

theorem uy : ∀ {up : List (Nat × O)} {rd : List Nat}, oY up rd = true → ∀ p ∈ up, p.1 ∉ rd
 | [], _, _, p, h => by simp at h
 | (i, o) :: r, rd, h, p, hp => by
   simp only [oY, Bool.and_eq_true, Bool.not_eq_true'] at h
   rcases List.mem_cons.1 hp with rfl | hp
   . exact mE.1 h.1
   . exact uy h.2 p hp
theorem uv : ∀ {l : List Nat} {n : Nat}, jw l n = true → ∀ i ∈ l, i < n
 | [], _, _, i, h => by simp at h
 | k :: ks, n, h, i, hi => by
   simp only [jw, Bool.and_eq_true] at h
   rcases List.mem_cons.1 hi with rfl | hi
   . exact Nat.le_of_ble_eq_true h.1
   . exact uv h.2 i hi
theorem Dn : ∀ {up : List (Nat × O)} {sg : List O} {r : Nat}, (∀ p ∈ up, p.1 ≠ r) → (cH sg up)[r]? = sg[r]?
 | [], sg, r, _ => rfl
 | (i, o) :: up, sg, r, h => by
   simp only [cH]
   rw [Dn fun p hp => h p (List.mem_cons_of_mem _ hp), eT, List.getElem?_set_ne (h (i, o) (by simp))]

structure dO (s t : AS) : Prop where
 nt : s.nt = t.nt
 tm : ∀ u, lk s.tm u = lk t.tm u
 sg : s.sg = t.sg
 kl : ∀ i, aC i s.kl = true ↔ aC i t.kl = true
theorem dO.refl (s : AS) : dO s s := ⟨rfl, fun _ => rfl, rfl, fun _ => Iff.rfl⟩
theorem dO.symm {s t : AS} (h : dO s t) : dO t s := ⟨h.nt.symm, fun u => (h.tm u).symm, h.sg.symm, fun i => (h.kl i).symm⟩
theorem dO.trans {s t u : AS} (h : dO s t) (k : dO t u) : dO s u := ⟨h.nt.trans k.nt, fun x => (h.tm x).trans (k.tm x), h.sg.trans k.sg, fun i => (h.kl i).trans (k.kl i)⟩

theorem iN (s : AS) (d : Option Nat) (e : Ef) (t : Nat) : lk (s.app d e).tm t = if d = some t then e.v else (lk s.tm t).kill e.ks := by
 cases d with
 | none => simp only [AS.app]; rw [jN]; simp
 | some d =>
   simp only [AS.app, lk]
   rw [jN]
   by_cases h : d = t
   . subst h; simp
   . have : Nat.beq d t = false := by
       cases hb : Nat.beq d t with
       | false => rfl
       | true => exact absurd (Nat.eq_of_beq_eq_true hb) h
     simp [this, h]
theorem j6 (s : AS) (d : Option Nat) (e : Ef) : (s.app d e).sg = eZ (cH (gp e.ks s.sg) e.up) e.nw := rfl
theorem fc {s : AS} {d : Option Nat} {e : Ef} (h : quiet e = true) : (s.app d e).sg = s.sg := by
 obtain ⟨h1, h2, h3⟩ := lp.1 h
 rw [j6, h1, h2, h3]; rfl
theorem dO.app {s t : AS} (h : dO s t) (d : Option Nat) (e : Ef) : dO (s.app d e) (t.app d e) := by
 refine ⟨h.nt, fun u => ?_, ?_, fun i => ?_⟩
 . rw [iN, iN, h.tm]
 . rw [j6, j6, h.sg]
 . simp only [AS.app, g6, h.kl]
theorem zM {s : AS} {d : Option Nat} {e : Ef} {r : Nat} (hr : r < s.sg.length) (hu : ∀ p ∈ e.up, p.1 ≠ r) : ax (s.app d e).sg r = (ax s.sg r).kill e.ks := by
 rw [pC, pC, j6, uu, List.getD_eq_getElem?_getD, List.getD_eq_getElem?_getD, List.getElem?_append_left (by rw [mA, pT]; simpa using hr), Dn hu, pT,
  List.getElem?_map, List.getElem?_eq_getElem hr]
 rfl

section
variable {C : Ctx} {ops : List Oper}

structure dq (C : Ctx) (ops : List Oper) (o : Oper) (s : AS) (r : Rc) : Prop where
 ef : stepT C ops s o (fun b => b = r.e)
 d : r.d = o.dst
 us : r.us = looks ops o
 ov : r.ov = s.bL C (fY o.op)
 oo : (jk o).1 = 1 ∨ r.oo = hO s.sg r.e.rd
 lu : r.lu = jk o
 n : quiet r.e = false → r.n = s.sg.length
 dok : cY s o.dst = true

theorem xV : ∀ {l : List Operand} {t : Nat}, Operand.tmp t ∈ l → t ∈ tmpsOf l
 | [], _, h => by simp at h
 | x :: xs, t, h => by
   rcases List.mem_cons.1 h with h | h
   . subst h; simp [tmpsOf]
   . have := xV h
     cases x <;> simp [tmpsOf, this]
theorem zl {s s' : AS} {x : Operand} (h : ∀ t, x = .tmp t → lk s'.tm t = lk s.tm t) : s'.ev C x = s.ev C x := by
 cases x with
 | tmp t => exact h t rfl
 | _ => rfl
theorem zN {sg sg' : List O} : ∀ {l : List Nat}, (∀ r ∈ l, ax sg' r = ax sg r) → hO sg' l = hO sg l
 | [], _ => rfl
 | r :: rs, h => by simp only [hO, h r (by simp), zN (l := rs) fun x hx => h x (List.mem_cons_of_mem _ hx)]

theorem Mu {s s' : AS} {o : Oper} {e : Ef} (hg : ∀ t ∈ nP ops o.guard, lk s'.tm t = lk s.tm t) (ho : bG C s o (fun b => b = e) → bG C s' o (fun b => b = e)) (h : stepT C ops s o (fun b => b = e)) : stepT C ops s' o (fun b => b = e) := by
 unfold stepT at h ⊢
 cases hgd : o.guard with
 | none => rw [hgd] at h; exact ho h
 | some p =>
   obtain ⟨j, want⟩ := p
   rw [hgd] at h hg
   simp only at h ⊢
   cases hd : bC ops j with
   | none => rw [hd] at h; exact h
   | some t =>
     rw [hd] at h
     simp only at h ⊢
     rw [hg t (by simp [nP, hd])]
     generalize lk s.tm t = v at h ⊢
     cases v <;> try exact h
     rotate_left
     . rename_i l
       cases l with
       | nil => exact h
       | cons _ _ => exact h
     rename_i b
     cases want <;> cases b <;> simp only [cond_true, cond_false, iD, bo] at h ⊢ <;> first
      | exact h
      | exact ho h

theorem CX {s : AS} {o : Oper} {e : Ef} (h : stepT C ops s o (fun b => b = e)) : ∀ t ∈ nP ops o.guard, (∃ b, lk s.tm t = .bool b) ∨ lk s.tm t = .tuple [] := by
 intro t ht
 unfold stepT at h
 cases hgd : o.guard with
 | none => rw [hgd] at ht; simp [nP] at ht
 | some p =>
   obtain ⟨j, want⟩ := p
   rw [hgd] at h ht
   simp only [nP] at ht
   simp only at h
   cases hd : bC ops j with
   | none => rw [hd] at ht; simp at ht
   | some t' =>
     rw [hd] at ht h
     simp only [List.mem_singleton] at ht
     subst ht
     simp only at h
     generalize lk s.tm t = v at h
     cases v <;> first
      | exact .inl ⟨_, rfl⟩
      | exact h.elim
      | (rename_i l; cases l with
         | nil => exact .inr rfl
         | cons _ _ => exact h.elim)

theorem dq.loc {s s' : AS} {o : Oper} {r : Rc} (h : dq C ops o s r) (hnt : s'.nt = s.nt) (hl : ∀ t ∈ looks ops o, lk s'.tm t = lk s.tm t) (hsg : s'.sg = s.sg ∨ (quiet r.e = true ∧ ∀ i ∈ r.e.rd, ax s'.sg i = ax s.sg i)) :
   dq C ops o s' r := by
 have hev : ∀ x ∈ fY o.op, s'.ev C x = s.ev C x := fun x hx => zl fun t ht => hl t (List.mem_append_left _ (xV (ht ▸ hx)))
 refine ⟨?_, h.d, h.us, ?_, ?_, h.lu, fun hq => ?_, ?_⟩
 . refine Mu (fun t ht => hl t (List.mem_append_right _ ht)) (fun he => ?_) h.ef
   rcases hsg with hsg | ⟨hq, hr⟩
   . rw [uP hev hsg]; exact he
   . exact Fh hev he hq hr
 . rw [h.ov, jb hev]
 . refine h.oo.imp id fun hoo => ?_
   rw [hoo]
   rcases hsg with hsg | ⟨_, hr⟩
   . rw [hsg]
   . exact (zN hr).symm
 . rcases hsg with hsg | ⟨hq', _⟩
   . rw [hsg]; exact h.n hq
   . rw [hq'] at hq; cases hq
 . have := h.dok
   cases hd : o.dst with
   | none => rfl
   | some d => rw [hd] at this; simp only [cY] at this ⊢; rw [hnt]; exact this

theorem dq.eqv {s s' : AS} {o : Oper} {r : Rc} (h : dq C ops o s r) (e : dO s s') : dq C ops o s' r :=
 h.loc e.nt.symm (fun t _ => (e.tm t).symm) (.inl e.sg.symm)

theorem zJ {ks : List Nat} : ∀ {l : List V}, V.jc ks l = true → ∀ x ∈ l, x.free ks = true
 | [], _, x, h => by simp at h
 | c :: cs, h, x, hx => by
   simp only [V.jc, Bool.and_eq_true] at h
   rcases List.mem_cons.1 hx with rfl | hx
   . exact h.1
   . exact zJ h.2 x hx
theorem CU : ∀ {l : List V}, V.jr l = true → ∀ x ∈ l, x.kc = true
 | [], _, x, h => by simp at h
 | c :: cs, h, x, hx => by
   simp only [V.jr, Bool.and_eq_true] at h
   rcases List.mem_cons.1 hx with rfl | hx
   . exact h.1
   . exact CU h.2 x hx
theorem uQ {s : AS} : ∀ {l : List Operand} {x : Operand}, x ∈ l → s.ev C x ∈ s.bL C l
 | [], _, h => by simp at h
 | y :: ys, x, h => by
   rcases List.mem_cons.1 h with rfl | h
   . simp [AS.bL]
   . simp only [AS.bL, List.mem_cons]; exact .inr (uQ h)
theorem zK {ks : List Nat} {sg : List O} : ∀ {l : List Nat}, kX ks (hO sg l) = true → ∀ i ∈ l, (ax sg i).kill ks = ax sg i
 | [], _, i, h => by simp at h
 | k :: l, h, i, hi => by
   simp only [hO] at h
   have hrest : kX ks (hO sg l) = true := by
    cases ho : ax sg k <;> rw [ho] at h <;> simp only [kX, Bool.and_eq_true] at h <;> first | exact h | exact h.2
   rcases List.mem_cons.1 hi with rfl | hi
   . cases ho : ax sg i <;> try rfl
     all_goals
      rw [ho] at h
      simp only [kX, Bool.and_eq_true] at h
      first
      | (simp only [O.kill, pU h.1]; done)
      | (simp only [O.kill, o3 h.1]; done)
   . exact zK hrest i hi
theorem CV {ks : List Nat} {sg sg' : List O} : ∀ {l : List Nat}, lJ (hO sg' l) = true → ∀ i ∈ l, ax sg' i = (ax sg i).kill ks → ax sg' i = ax sg i
 | [], _, i, h, _ => by simp at h
 | k :: l, h, i, hi, he => by
   simp only [hO] at h
   have hrest : lJ (hO sg' l) = true := by
    cases ho : ax sg' k <;> rw [ho] at h <;> simp only [lJ, Bool.and_eq_true] at h <;> first | exact h | exact h.2 | cases h
   rcases List.mem_cons.1 hi with rfl | hi
   . cases ho : ax sg i <;> rw [ho] at he <;> try exact he
     all_goals
      simp only [O.kill] at he
      rw [he] at h
      simp only [lJ, Bool.and_eq_true] at h
      first
      | (rw [he, pW h.1]; done)
      | (rw [he, s8 h.1]; done)
   . exact CV hrest i hi he

theorem uL {d : Option Nat} {us : List Nat} (h : pj d us = true) {t : Nat} (ht : t ∈ us) : d ≠ some t := by
 intro e
 subst e
 simp only [pj, Bool.not_eq_true'] at h
 exact mE.1 h ht

theorem za : ∀ {a b : List Nat}, rL a b = true → a = b
 | [], [], _ => rfl
 | x :: xs, y :: ys, h => by
   simp only [rL, Bool.and_eq_true] at h
   rw [Nat.eq_of_beq_eq_true h.1, za h.2]
 | [], _ :: _, h => by cases h
 | _ :: _, [], h => by cases h
theorem Bq {o : Oper} (h : (jk o).1 = 1) : ∃ t m x, o.guard = none ∧ o.op = .lookup t (.tmp m) (.tmp x) false ∧ jk o = (1, [t, m, x]) := by
 unfold jk at h ⊢
 split at h <;> first
  | (rename_i t m x hg ho; exact ⟨t, m, x, hg, ho, rfl⟩)
  | (cases h; done)
theorem KF {o : Oper} (h : (jk o).1 = 2) : ∃ t m x, o.guard = none ∧ o.op = .mapEntry t (.tmp m) (.tmp x) ∧ jk o = (2, [t, m, x]) := by
 unfold jk at h ⊢
 split at h <;> first
  | (rename_i t m x hg ho; exact ⟨t, m, x, hg, ho, rfl⟩)
  | (cases h; done)
theorem It {es : List (V × Int)} {x y : V} {q : Int} (h : cR es x = none) : cR (es ++ [(y, q)]) x = cond (ic y x) (some (es.length, q)) none := by
 induction es with
 | nil => simp only [List.nil_append, cR]; cases ic y x <;> rfl
 | cons p es ih =>
   obtain ⟨z, r⟩ := p
   simp only [List.cons_append, cR] at h ⊢
   cases hz : ic z x with
   | true => rw [hz] at h; simp at h
   | false =>
     rw [hz] at h
     simp only [cond_false] at h ⊢
     have hn : cR es x = none := by
      cases he : cR es x with
      | none => rfl
      | some p => rw [he] at h; cases h
     rw [ih hn]
     cases ic y x <;> simp
theorem Iz {es : List (V × Int)} {x y : V} (h : cR es x = none) : getM (es ++ [(y, 0)]) x = getM es x := by
 unfold getM
 rw [It h, h]
 cases ic y x <;> rfl
theorem IA {sg : List O} {i : Nat} {o : O} (h : i < sg.length) : ax (dm sg i o) i = o := by
 have : ∀ (sg : List O) (i : Nat), i < sg.length → ax (dm sg i o) i = o := by
  intro sg
  induction sg with
  | nil => intro i h; simp at h
  | cons a r ih =>
    intro i h
    cases i with
    | zero => rfl
    | succ i => exact ih i (by simpa using h)
 exact this sg i h
theorem dq.look {s : AS} {o : Oper} {r : Rc} (h : dq C ops o s r) (hl : (jk o).1 = 1) : quiet r.e = true ∧ ∀ i ∈ r.e.rd, ∃ ag sh es bs ck, ax s.sg i = .map ag sh es bs ck := by
 obtain ⟨t, m, x, hg, ho, _⟩ := Bq hl
 have ef : gY C s t (.tmp m) (.tmp x) false (fun b => b = r.e) := by
  have := h.ef
  unfold stepT at this
  rw [hg] at this
  simp only [bG, ho] at this
  exact this
 unfold gY dw at ef
 obtain ⟨p, hp, ef⟩ := od.1 ef
 cases hm : AS.ev C s (.tmp m) <;> rw [hm] at ef <;> try exact ef.elim
 rename_i i
 simp only at ef
 cases hs : ax s.sg i <;> rw [hs] at ef <;> try exact ef.elim
 rename_i ag sh es bs ck
 simp only [force_eq] at ef
 cases hw : (ry ag p.1 && ow sh p.2) with
 | false => rw [hw] at ef; exact ef.elim
 | true =>
   cases hf : gb ag sh (AS.ev C s (.tmp x)) with
   | false => rw [hw, hf] at ef; exact ef.elim
   | true =>
     rw [hw, hf] at ef
     have ef : (⟨.int .i64 (getM es (AS.ev C s (.tmp x))), [], [], [], [i]⟩ : Ef) = r.e := ef
     rw [← ef]
     refine ⟨rfl, fun k hk => ?_⟩
     simp at hk
     subst hk
     exact ⟨_, _, _, _, _, hs⟩
theorem dq.pair {s : AS} {oj oi : Oper} {rj ri : Rc} (hj : dq C ops oj s rj) (hi : dq C ops oi s ri) (h : qm rj ri = true) (a2 : pj oi.dst (looks ops oj) = true) : quiet rj.e = true ∧ ri.e.ks = [] ∧ dq C ops oj (s.app oi.dst ri.e) rj := by
 unfold qm at h
 simp only [Bool.and_eq_true] at h
 rw [hj.lu, hi.lu] at h
 obtain ⟨l1, l2, l3⟩ := h
 obtain ⟨t, m, x, hgj, hoj, ej⟩ := Bq (Nat.eq_of_beq_eq_true l1)
 obtain ⟨t', m', x', hgi, hoi, ei⟩ := KF (Nat.eq_of_beq_eq_true l2)
 rw [ej, ei] at l3
 have l3 := za l3
 simp only [List.cons.injEq, and_true] at l3
 obtain ⟨rfl, rfl, rfl⟩ := l3
 have efj : gY C s t (.tmp m) (.tmp x) false (fun b => b = rj.e) := by
  have := hj.ef
  unfold stepT at this
  rw [hgj] at this
  simp only [bG, hoj] at this
  exact this
 have efi : ja C s t (.tmp m) (.tmp x) (fun b => b = ri.e) := by
  have := hi.ef
  unfold stepT at this
  rw [hgi] at this
  simp only [bG, hoi] at this
  exact this
 unfold gY dw at efj
 obtain ⟨p, hp, efj⟩ := od.1 efj
 unfold ja dw at efi
 obtain ⟨p', hp', efi⟩ := od.1 efi
 rw [hp] at hp'; cases hp'
 have hlm : Operand.tmp m ∈ fY oj.op := by rw [hoj]; simp [fY]
 have hlx : Operand.tmp x ∈ fY oj.op := by rw [hoj]; simp [fY]
 cases hm : AS.ev C s (.tmp m) <;> rw [hm] at efj efi <;> try exact efj.elim
 rename_i i
 simp only at efj efi
 cases hs : ax s.sg i <;> rw [hs] at efj efi <;> try exact efj.elim
 rename_i ag sh es bs ck
 simp only [force_eq] at efj efi
 have hil : i < s.sg.length := (de hs (by simp)).2
 cases hw : (ry ag p.1 && ow sh p.2) with
 | false => rw [hw] at efj; exact efj.elim
 | true =>
   cases hf : gb ag sh (AS.ev C s (.tmp x)) with
   | false => rw [hw, hf] at efj; exact efj.elim
   | true =>
     rw [hw, hf] at efj efi
     have efj : (⟨.int .i64 (getM es (AS.ev C s (.tmp x))), [], [], [], [i]⟩ : Ef) = rj.e := efj
     have hri : ∃ v es' bs' ck', ri.e = ⟨v, [], [(i, .map ag sh es' bs' ck')], [], [i]⟩ ∧ getM es' (AS.ev C s (.tmp x)) = getM es (AS.ev C s (.tmp x)) := by
      obtain ⟨_, k1, k2⟩ := efi
      cases hfd : cR es (AS.ev C s (.tmp x)) with
      | some r =>
        have := k1 r hfd
        exact ⟨_, _, _, _, (show _ = ri.e from this).symm, rfl⟩
      | none =>
        have := k2 hfd
        exact ⟨_, _, _, _, (show _ = ri.e from this).symm, Iz hfd⟩
     obtain ⟨v, es', bs', ck', hri, hget⟩ := hri
     have hks : ri.e.ks = [] := by rw [hri]
     have hlk : ∀ u ∈ looks ops oj, lk (s.app oi.dst ri.e).tm u = lk s.tm u := fun u hu => by
      rw [iN, if_neg (uL a2 hu), hks, er]
     have hev : ∀ y ∈ fY oj.op, (s.app oi.dst ri.e).ev C y = s.ev C y := fun y hy => zl fun u hu => hlk u (List.mem_append_left _ (xV (hu ▸ hy)))
     refine ⟨by rw [← efj]; rfl, hks, ?_⟩
     have hsg : (s.app oi.dst ri.e).sg = dm s.sg i (.map ag sh es' bs' ck') := by
      rw [hri]
      simp [AS.app, gp, cH, eZ]
     refine ⟨?_, hj.d, hj.us, ?_, .inl (Nat.eq_of_beq_eq_true l1), hj.lu, fun hq => ?_, ?_⟩
     . unfold stepT
       rw [hgj]
       simp only [bG, hoj]
       unfold gY dw
       refine od.2 ⟨p, hp, ?_⟩
       rw [hev _ hlm, hm]
       simp only
       rw [hsg, IA hil]
       simp only [force_eq]
       rw [hev _ hlx, hw, hf]
       show (⟨.int .i64 (getM es' (AS.ev C s (.tmp x))), [], [], [], [i]⟩ : Ef) = rj.e
       rw [hget]
       exact efj
     . rw [hj.ov, jb hev]
     . rw [← efj] at hq; cases hq
     . have := hj.dok
       cases hd : oj.dst with
       | none => rfl
       | some d => rw [hd] at this; simp only [cY] at this ⊢; exact this
theorem dq.swap {s : AS} {oj oi : Oper} {rj ri : Rc} (hj : dq C ops oj s rj) (hi : dq C ops oi (s.app oj.dst rj.e) ri) (h : indep rj ri = true) :
   dq C ops oi s ri ∧ dq C ops oj (s.app oi.dst ri.e) rj ∧ dO ((s.app oi.dst ri.e).app oj.dst rj.e) ((s.app oj.dst rj.e).app oi.dst ri.e) := by
 unfold indep at h
 simp only [Bool.and_eq_true] at h
 obtain ⟨⟨⟨a1, a2⟩, a3⟩, h⟩ := h
 rw [hj.d, hi.us] at a1
 rw [hi.d, hj.us] at a2
 rw [hi.d, hj.d] at a3
 have hne : ∀ t, oj.dst = some t → oi.dst = some t → False := fun t h1 h2 => by
  rw [h1, h2] at a3; simp [yV] at a3
 -- what i looks at, ahead of j
 have lki : ∀ t ∈ looks ops oi, lk (s.app oj.dst rj.e).tm t = (lk s.tm t).kill rj.e.ks := fun t ht => by
  rw [iN, if_neg (uL a1 ht)]
 have lkj : ∀ t ∈ looks ops oj, lk (s.app oi.dst ri.e).tm t = (lk s.tm t).kill ri.e.ks := fun t ht => by
  rw [iN, if_neg (uL a2 ht)]
 have hfin : (rj.e.ks = [] ∨ ri.e.ks = []) → rj.e.v.kill ri.e.ks = rj.e.v → ri.e.v.kill rj.e.ks = ri.e.v → ((s.app oi.dst ri.e).app oj.dst rj.e).sg = ((s.app oj.dst rj.e).app oi.dst ri.e).sg →
    dO ((s.app oi.dst ri.e).app oj.dst rj.e) ((s.app oj.dst rj.e).app oi.dst ri.e) := fun hks hv1 hv2 hsg => by
  refine ⟨rfl, fun t => ?_, hsg, fun i => by simp only [AS.app, g6]; exact or_left_comm⟩
  rw [iN, iN, iN, iN]
  by_cases e1 : oj.dst = some t
  . rw [if_pos e1, if_pos e1, if_neg (fun e2 => hne t e1 e2), hv1]
  . rw [if_neg e1, if_neg e1]
    by_cases e2 : oi.dst = some t
    . rw [if_pos e2, if_pos e2, hv2]
    . rw [if_neg e2, if_neg e2]
      rcases hks with hks | hks <;> rw [hks, er, er]
 cases hpl : qm rj ri with
 | true =>
   have hqj : quiet rj.e = true := by
    have hp2 := hpl
    unfold qm at hp2
    simp only [Bool.and_eq_true] at hp2
    rw [hj.lu] at hp2
    exact (hj.look (Nat.eq_of_beq_eq_true hp2.1)).1
   obtain ⟨j1, j2, j3⟩ := lp.1 hqj
   have hsi : dq C ops oi s ri := hi.loc rfl (fun t ht => by rw [lki t ht, j1, er]) (.inl (fc hqj).symm)
   rw [← hi.d] at a2
   obtain ⟨_, i1, hsj⟩ := hj.pair hsi hpl (hi.d ▸ a2)
   refine ⟨hsi, hsj, hfin (.inl j1) (by rw [i1, er]) (by rw [j1, er]) ?_⟩
   rw [fc hqj, j6, j6, fc hqj]
 | false =>
 rw [hpl, Bool.false_or] at h
 cases hqj : quiet rj.e with
 | true =>
   obtain ⟨j1, j2, j3⟩ := lp.1 hqj
   have hsi : dq C ops oi s ri := hi.loc rfl (fun t ht => by rw [lki t ht, j1, er]) (.inl (fc hqj).symm)
   cases hqi : quiet ri.e with
   | true =>
     obtain ⟨i1, i2, i3⟩ := lp.1 hqi
     refine ⟨hsi, hj.loc rfl (fun t ht => by rw [lkj t ht, i1, er]) (.inl (fc hqi)), hfin (.inl j1) (by rw [i1, er]) (by rw [j1, er]) ?_⟩
     rw [fc hqj, fc hqi, fc hqi, fc hqj]
   | false =>
     rw [hqj, hqi] at h
     simp only [Bool.and_eq_true] at h
     obtain ⟨⟨⟨⟨b1, b2⟩, b3⟩, b4⟩, b5⟩ := h
     rw [hj.ov] at b1
     have hb2 : ∀ r ∈ rj.e.rd, (ax s.sg r).kill ri.e.ks = ax s.sg r := fun r hr => by
      rcases hj.oo with q | q
      . obtain ⟨_, _, _, _, _, hm⟩ := (hj.look q).2 r hr
        rw [hm]; rfl
      . rw [q] at b2; exact zK b2 r hr
     have hn : ri.n = s.sg.length := by rw [hi.n hqi, fc hqj]
     rw [hn] at b5
     refine ⟨hsi, hj.loc rfl (fun t ht => ?_) (.inr ⟨hqj, fun r hr => ?_⟩), hfin (.inl j1) (o3 b3) (by rw [j1, er]) ?_⟩
     . rw [lkj t ht]
       rcases List.mem_append.1 ht with ht | ht
       . have : ∀ (l : List Operand) t, t ∈ tmpsOf l → Operand.tmp t ∈ l := by
           intro l
           induction l with
           | nil => intro t h; simp [tmpsOf] at h
           | cons x xs ih =>
             intro t h
             cases x <;> simp only [tmpsOf, List.mem_cons] at h ⊢ <;> first
              | exact .inr (ih t h)
              | (rcases h with rfl | h
                 . exact .inl rfl
                 . exact .inr (ih t h))
         exact o3 (zJ b1 _ (uQ (this _ _ ht)))
       . rcases CX hj.ef t ht with ⟨b, hb⟩ | hb <;> rw [hb] <;> simp [V.kill, V.dj]
     . rw [zM (uv b5 r hr) (fun p hp e => uy b4 p hp (e ▸ hr)), hb2 r hr]
     . rw [fc hqj, j6, j6, fc hqj]
 | false =>
   cases hqi : quiet ri.e with
   | false => rw [hqj, hqi] at h; cases h
   | true =>
     obtain ⟨i1, i2, i3⟩ := lp.1 hqi
     rw [hqj, hqi] at h
     simp only [Bool.and_eq_true] at h
     obtain ⟨⟨⟨⟨b1, b2⟩, b3⟩, b4⟩, b5⟩ := h
     rw [hi.ov] at b1
     have hb2 : ∀ r ∈ ri.e.rd, ax (s.app oj.dst rj.e).sg r = (ax s.sg r).kill rj.e.ks → ax (s.app oj.dst rj.e).sg r = ax s.sg r := fun r hr he => by
      rcases hi.oo with q | q
      . obtain ⟨_, _, _, _, _, hm⟩ := (hi.look q).2 r hr
        rw [hm] at he ⊢
        cases hg : ax s.sg r <;> rw [hg] at he <;> first
         | (cases he; done)
         | exact he
      . rw [q] at b2; exact CV b2 r hr he
     rw [hj.n hqj] at b5
     have hlk : ∀ t ∈ looks ops oi, lk s.tm t = lk (s.app oj.dst rj.e).tm t := fun t ht => by
      have h1 := lki t ht
      rw [h1]
      refine (s8 ?_).symm
      rw [← h1]
      rcases List.mem_append.1 ht with ht | ht
      . have : ∀ (l : List Operand) t, t ∈ tmpsOf l → Operand.tmp t ∈ l := by
          intro l
          induction l with
          | nil => intro t h; simp [tmpsOf] at h
          | cons x xs ih =>
            intro t h
            cases x <;> simp only [tmpsOf, List.mem_cons] at h ⊢ <;> first
             | exact .inr (ih t h)
             | (rcases h with rfl | h
                . exact .inl rfl
                . exact .inr (ih t h))
        exact CU b1 _ (uQ (this _ _ ht))
      . rcases CX hi.ef t ht with ⟨b, hb⟩ | hb <;> rw [hb] <;> rfl
     refine ⟨hi.loc rfl hlk (.inr ⟨hqi, fun r hr => ?_⟩), hj.loc rfl (fun t ht => by rw [lkj t ht, i1, er]) (.inl (fc hqi)), hfin (.inr i1) (by rw [i1, er]) (o3 b3) ?_⟩
     . exact (hb2 r hr (zM (uv b5 r hr) (fun p hp e => uy b4 p hp (e ▸ hr)))).symm
     . show eZ (cH (gp rj.e.ks (s.app oi.dst ri.e).sg) rj.e.up) rj.e.nw = _
       rw [fc hqi, fc hqi]; rfl

def fD (C : Ctx) (ops : List Oper) (f : Nat → Rc) (sN : AS) : List Nat → AS → Prop
 | [], s => dO s sN
 | i :: L, s => ∃ o, ops[i]? = some o ∧ dq C ops o s (f i) ∧ fD C ops f sN L (s.app o.dst (f i).e)

theorem fD.eqv {f : Nat → Rc} {sN : AS} : ∀ {L : List Nat} {s s' : AS}, fD C ops f sN L s → dO s s' → fD C ops f sN L s'
 | [], _, _, h, e => e.symm.trans h
 | _ :: _, _, _, ⟨o, h1, h2, h3⟩, e => ⟨o, h1, h2.eqv e, h3.eqv (e.app _ _)⟩

theorem fD.front {f : Nat → Rc} {sN : AS} {i : Nat} {l2 : List Nat} : ∀ {l1 : List Nat} {s : AS}, fD C ops f sN (l1 ++ i :: l2) s → (∀ j ∈ l1, indep (f j) (f i) = true) → fD C ops f sN (i :: (l1 ++ l2)) s
 | [], _, h, _ => h
 | j :: l1, s, ⟨oj, h1, h2, h3⟩, hi => by
   obtain ⟨oi, k1, k2, k3⟩ := fD.front h3 fun k hk => hi k (List.mem_cons_of_mem _ hk)
   obtain ⟨q1, q2, q3⟩ := h2.swap k2 (hi j (by simp))
   exact ⟨oi, k1, q1, oj, h1, q2, k3.eqv q3.symm⟩
end
end Go.VG
