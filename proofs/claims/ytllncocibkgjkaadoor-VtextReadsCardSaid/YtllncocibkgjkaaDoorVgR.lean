/-
  A part of the proof.
-/
import Derived.Test.YtllncocibkgjkaaDoorVgO
set_option linter.unusedSimpArgs false
set_option linter.unusedVariables false
namespace Go.VG
open Go

theorem m6 {e : Ef} : quiet e = true ↔ e.ks = [] ∧ e.up = [] ∧ e.nw = [] := by
 obtain ⟨v, ks, up, nw, rd⟩ := e
 cases ks <;> cases up <;> cases nw <;> simp [quiet]

mutual
theorem v7 : ∀ {x : V} {acc : List Nat} {i : Nat}, i ∈ acc → i ∈ V.names x acc
 | .ptr j _, acc, i, h | .bptr j _ _, acc, i, h | .buf j, acc, i, h | .map j, acc, i, h => by
   simp only [V.names]
   cases aC j acc with
   | true => exact h
   | false => exact List.mem_append_left _ h
 | .agg cs, acc, i, h | .tuple cs, acc, i, h => by simp only [V.names]; exact qk h
 | .iface _ x, acc, i, h => by simp only [V.names]; exact v7 h
 | .func _ fs cs, acc, i, h => by simp only [V.names]; exact qk (qk h)
 | .undef, _, _, h | .int .., _, _, h | .bool _, _, _, h | .str _, _, _, h | .list .., _, _, h | .nilptr, _, _, h | .box .., _, _, h | .nilIface, _, _, h | .nilFunc, _, _, h | .nilmap, _, _, h => by simp only [V.names]; exact h
theorem qk : ∀ {x : List V} {acc : List Nat} {i : Nat}, i ∈ acc → i ∈ V.dH x acc
 | [], _, _, h => by simp only [V.dH]; exact h
 | c :: cs, _, _, h => by simp only [V.dH]; exact qk (v7 h)
end
theorem AY {o : O} {acc : List Nat} {i : Nat} (h : i ∈ acc) : i ∈ o.names acc := by
 cases o <;> simp only [O.names] <;> first | exact h | exact qk h | exact v7 h

theorem Bo {sg : List O} : ∀ {fuel : Nat} {todo acc : List Nat} {i : Nat}, i ∈ acc → i ∈ reach sg fuel todo acc
 | 0, _, _, _, h => by simp only [reach]; exact h
 | _ + 1, [], _, _, h => by simp only [reach]; exact h
 | fuel + 1, k :: todo, acc, i, h => by simp only [reach]; exact Bo (AY h)
theorem Bp {sg sg' : List O} : ∀ {fuel : Nat} {todo acc : List Nat}, (∀ i ∈ todo, i ∈ acc) → (∀ r ∈ reach sg fuel todo acc, au sg' r = au sg r) → reach sg' fuel todo acc = reach sg fuel todo acc
 | 0, _, _, _, _ => by simp only [reach]
 | _ + 1, [], _, _, _ => by simp only [reach]
 | fuel + 1, k :: todo, acc, ht, h => by
   have hk : au sg' k = au sg k := h k (Bo (ht k (by simp)))
   simp only [reach] at h ⊢
   rw [hk]
   refine Bp (fun i hi => ?_) h
   rcases List.mem_append.1 hi with hi | hi
   . exact AY (ht i (List.mem_cons_of_mem _ hi))
   . exact List.mem_of_mem_drop hi

theorem xB {sg sg' : List O} : ∀ {th : List Nat}, (∀ r ∈ th, au sg' r = au sg r) → gN sg' th = gN sg th
 | [], _ => rfl
 | k :: ks, h => by simp only [gN, h k (by simp), xB (th := ks) fun r hr => h r (List.mem_cons_of_mem _ hr)]
theorem ym {sg sg' : List O} {th0 : List Nat} : ∀ {th : List Nat}, (∀ r ∈ th, au sg' r = au sg r) → gR sg' th0 th = gR sg th0 th
 | [], _ => rfl
 | k :: ks, h => by simp only [gR, h k (by simp), ym (th := ks) fun r hr => h r (List.mem_cons_of_mem _ hr)]
theorem Au {sg sg' : List O} {f : Nat → Option Nat} : ∀ {th : List Nat}, (∀ r ∈ th, au sg' r = au sg r) → locals sg' f th = locals sg f th
 | [], _ => rfl
 | k :: ks, h => by simp only [locals, h k (by simp), Au (th := ks) fun r hr => h r (List.mem_cons_of_mem _ hr)]
theorem xU {sg sg' : List O} : ∀ {th : List Nat}, (∀ r ∈ th, au sg' r = au sg r) → il sg' th = il sg th
 | [], _ => rfl
 | k :: ks, h => by simp only [il, h k (by simp), xU (th := ks) fun r hr => h r (List.mem_cons_of_mem _ hr)]
theorem xL {n n' : Nat} : ∀ {th : List Nat}, cN th n 0 = cN th n' 0
 | [] => rfl
 | k :: ks => by
   funext j
   cases j with
   | zero => simp [cN]
   | succ j => simp only [cN]; exact congrFun (xL (th := ks)) j

section
variable {C : Ctx} {s s' : AS} {o : Oper} {e : Ef}

theorem yM {sg sg' : List O} {f : FuncId} {args : List V} {pre : Prop} (h : eN C sg f args = some (pre, e)) (hq : quiet e = true) (hr : ∀ r ∈ e.rd, au sg' r = au sg r) : eN C sg' f args = some (pre, e) := by
 unfold eN at h ⊢
 rw [lP, lP] at h ⊢
 -- what is read
 have hrd : e.rd = reach sg 256 (V.dH args []) (V.dH args []) := by
  unfold pJ at h
  simp only [jc, oc] at h
  cases hc : (gD (reach sg 256 (V.dH args []) (V.dH args [])) && gN sg (reach sg 256 (V.dH args []) (V.dH args []))) with
  | false => rw [hc] at h; cases h
  | true =>
    rw [hc, cond_true] at h
    split at h
    . cases h
    . cases hcl : gR sg (reach sg 256 (V.dH args []) (V.dH args [])) (reach sg 256 (V.dH args []) (V.dH args [])) with
      | false => rw [hcl] at h; cases h
      | true => rw [hcl] at h; cases h; rfl
    . cases h; rfl
 rw [hrd] at hr
 rw [Bp (fun _ h => h) hr]
 generalize reach sg 256 (V.dH args []) (V.dH args []) = th at *
 unfold pJ at h ⊢
 simp only [jc, oc] at h ⊢
 rw [xB hr, ym hr, Au hr, xU hr]
 cases hc : (gD th && gN sg th) with
 | false => rw [hc] at h; cases h
 | true =>
   rw [hc, cond_true] at h
   rw [cond_true]
   generalize C.Γ f (V.i7 (fun i => idxOf i th 0) args) (locals sg (fun i => idxOf i th 0) th) = r at h ⊢
   rcases r with _ | ⟨pre', v, _ | σ⟩
   . cases h
   . exact h
   . simp only [Option.some.injEq, Prod.mk.injEq] at h ⊢
     obtain ⟨rfl, rfl⟩ := h
     refine ⟨rfl, ?_⟩
     obtain ⟨q1, q2, q3⟩ := m6.1 hq
     simp only [oB, List.map_eq_nil_iff] at q3
     rw [q3]
     simp only [List.length_nil]
     rw [xL (n := sg'.length) (n' := sg.length)]

theorem jT : ∀ {l : List Operand}, (∀ x ∈ l, s'.ev C x = s.ev C x) → s'.bS C l = s.bS C l
 | [], _ => rfl
 | x :: xs, h => by simp only [AS.bS, h x (by simp), jT (l := xs) fun y hy => h y (List.mem_cons_of_mem _ hy)]
theorem rL : ∀ {l : List (Nat × Operand)}, (∀ x ∈ qq l, s'.ev C x = s.ev C x) → gu C s' l = gu C s l
 | [], _ => rfl
 | (i, x) :: r, h => by simp only [gu, h x (by simp [qq]), rL (l := r) fun y hy => h y (by simp [qq, hy])]
theorem yO {n : Nat} {lo hi : Option Operand} (h1 : ∀ x ∈ kR lo, s'.ev C x = s.ev C x) (h2 : ∀ x ∈ kR hi, s'.ev C x = s.ev C x) : ir C s' n lo hi = ir C s n lo hi := by
 cases lo <;> cases hi <;> simp only [ir] <;> simp only [kR, List.mem_singleton, forall_eq, List.not_mem_nil] at h1 h2 <;> simp only [h1, h2]
theorem yD {x : V} (h : ∀ i, x = .buf i → au s'.sg i = au s.sg i) : elems s' x = elems s x := by
 unfold elems
 cases x <;> try rfl
 rename_i i
 simp only [h i rfl]
theorem C7 {c : Call} (h : ∀ x ∈ ie (.call c), s'.ev C x = s.ev C x) : target C s' c = target C s c := by
 unfold target
 cases hc : c.callee with
 | value f =>
   simp only [ie, hc] at h
   simp only [h f (by simp), jT fun x hx => h x (List.mem_cons_of_mem _ hx)]
 | invoke r m => rfl
 | builtin b => rfl

theorem xY {r : Option (Prop × Ef)} {e : Ef} (h : dh r (fun b => b = e)) : ∃ pre : Prop, r = some (pre, e) ∧ pre := by
 cases r with
 | none => exact h.elim
 | some p =>
   have h1 : p.1 := h.1
   have h2 : gU p.2 (fun b => b = e) := h.2
   rw [iw] at h2
   exact ⟨p.1, by rw [← h2], h1⟩
theorem xX {r : Option (Prop × Ef)} {e : Ef} {pre : Prop} (h : r = some (pre, e)) (hp : pre) : dh r (fun b => b = e) := by
 subst h
 refine ⟨hp, ?_⟩
 show gU e _
 rw [iw]

theorem ui (h : ∀ x ∈ ie o.op, s'.ev C x = s.ev C x) (hs : s'.sg = s.sg) : cw C s' o = cw C s o := by
 obtain ⟨dst, op, type, pos, after, guard⟩ := o
 have hel : ∀ x, elems s' x = elems s x := fun x => yD fun i _ => by rw [hs]
 cases op <;> simp only [cw, ie] at h ⊢
 case move x => rw [h x (by simp)]
 case assign x => rw [h x (by simp)]
 case pick c a b => simp only [nX, h c (by simp), h a (by simp), h b (by simp)]
 case alloc t => simp only [lq, hs]
 case box t x => rw [h x (by simp), hs]
 case build t ps => simp only [mG, rL h]
 case buildSlice t n ps => simp only [kA, nU, iU, rL h, hs]
 case load t x => simp only [kC, h x (by simp), hs]
 case store t x y => simp only [lL, h x (by simp), h y (by simp), hs]
 case nilCheck x => simp only [lK, h x (by simp)]
 case binOp b t x y u => rw [h x (by simp), h y (by simp)]
 case unOp b t x => rw [h x (by simp)]
 case convert a b x => simp only [lJ, iV, h x (by simp), hel, hs]
 case makeInterface t x => simp only [nV, h x (by simp)]
 case makeFunc fn a b => rw [jT fun x hx => h x (by simp [hx]), jT fun x hx => h x (by simp [hx])]
 case makeSlice t x y => simp only [lH, h x (by simp), h y (by simp), hs]
 case slice t x lo hi mx =>
  have hr : ∀ n, ir C s' n lo hi = ir C s n lo hi := fun n => yO (fun x hx => h x (by simp [hx])) (fun x hx => h x (by simp [hx]))
  have hh : ∀ y, hi = some y → s'.ev C y = s.ev C y := fun y hy => h y (by simp [hy, kR])
  have hm : ∀ y, mx = some y → s'.ev C y = s.ev C y := fun y hy => h y (by simp [hy, kR])
  simp only [mM, h x (by simp), hs, hr]
  repeat' (first
   | rfl
   | (simp only [hh _ rfl]; done)
   | (simp only [hh _ rfl, hm _ rfl]; done)
   | split)
 case fieldAddr t x f => simp only [lD, h x (by simp)]
 case field t x f => simp only [lC, h x (by simp)]
 case indexAddr t x y => simp only [mJ, h x (by simp), h y (by simp), hs]
 case index t x y => simp only [nT, h x (by simp), h y (by simp)]
 case typeAssert x _ t ok => simp only [nQ, h x (by simp)]
 case extract x i => simp only [nS, h x (by simp)]
 case range t x => simp only [lE, lF, eD, h x (by simp), hs]
 case makeMap t r => cases r <;> simp only [lG, hs]
 case lookup t m x ok => simp only [ja, eD, h m (by simp), h x (by simp), hs]
 case mapUpdate t m x y => simp only [lI, eD, h m (by simp), h x (by simp), h y (by simp), hs]
 case mapEntry t m x => simp only [jS, eD, h m (by simp), h x (by simp), hs]
 case entryStore t m b y => simp only [lB, eD, h m (by simp), h b (by simp), h y (by simp), hs]
 case entry x => simp only [mI, h x (by simp), hs]
 case next x b => simp only [mL, h x (by simp), hs]
 case call c =>
  have ht := C7 (C := C) (s := s) (s' := s') (c := c) (by simpa only [ie] using h)
  unfold mH
  cases hc : c.callee with
  | value f => simp only [ht, hs]
  | invoke r m =>
    simp only [hc] at h
    simp only [h r (by simp), jT fun x hx => h x (List.mem_cons_of_mem _ hx), hs]
  | builtin b =>
    simp only [hc] at h
    simp only [jT h]
    have hb : ∀ xs, jD C s' b c.argTypes.toList xs = jD C s b c.argTypes.toList xs := fun xs => by
     unfold jD
     simp only [hs, hel, ly, lz, eD]
    simp only [hb]
end
end Go.VG
namespace Go.VG
open Go

section
variable {C : Ctx} {s s' : AS} {o : Oper} {e : Ef} {nt : Nat} {tm : List (Nat × V)} {sg sg' : List O} {kl : List Nat}

theorem Hv {t : TypeId} : a6 (fun e => quiet e = false) (lq C s t) := by
 unfold lq
 split
 . exact a6.fail
 . rw [force_eq, dj]; exact a6.when fun _ => a6.ret rfl
theorem Hx {x : V} : a6 (fun e => quiet e = false) (force x fun x => bK s.sg.length fun n => bO (!x.ez) (ret ⟨.ptr n 0, [], [], [.cells x.cells], []⟩)) := by
 rw [force_eq, dj]; exact a6.when fun _ => a6.ret rfl
theorem HE {t : TypeId} {x y : Operand} : a6 (fun e => quiet e = false) (lH C s t x y) := by
 unfold lH
 split
 . split
   . exact a6.fail
   . refine a6.when fun _ => a6.av fun _ => ?_
     rw [dj, dj, force_eq]
     exact a6.ret rfl
 . exact a6.fail
theorem HC {t : TypeId} {len : Nat} {ps : Array (Nat × Operand)} : a6 (fun e => quiet e = false) (nU C s t len ps) := by
 unfold nU
 refine a6.bind (pI _ _ _ _ _) fun e _ => ?_
 split
 . rw [dj]; exact a6.ret rfl
 . exact a6.fail
theorem oH {α β : Type} {o : Option α} {f : α → Tr β} {K : β → Prop} : dB o f K ↔ ∃ a, o = some a ∧ f a K := by
 cases o with
 | none => exact ⟨fun h => h.elim, fun ⟨_, h, _⟩ => by cases h⟩
 | some a => exact ⟨fun h => ⟨a, rfl, h⟩, fun ⟨_, h, k⟩ => by cases h; exact k⟩
theorem ql {t : TypeId} {m : V} {F : Nat → Bool → List Sc → List (V × Int) → List Nat → Nat → Tr Ef} (h : ∀ i ag sh es bs ck, a6 (fun e => quiet e = false) (F i ag sh es bs ck)) : a6 (fun e => quiet e = false) (eD C s t m F) := by
 unfold eD
 refine a6.opt fun _ _ => ?_
 split
 . split
   . exact a6.when fun _ => h _ _ _ _ _ _
   . exact a6.fail
 . exact a6.fail
theorem HD {t : TypeId} : a6 (fun e => quiet e = false) (lG C s t) := by
 unfold lG
 refine a6.opt fun _ _ => ?_
 rw [dj]
 exact a6.ret rfl
theorem HG {t : TypeId} {m x y : Operand} : a6 (fun e => quiet e = false) (lI C s t m x y) := by
 unfold lI
 refine ql fun i ag sh es bs ck => ?_
 rw [force_eq]
 refine a6.when fun _ => ?_
 split
 . exact a6.dm (fun _ _ => a6.ret rfl) (fun _ => a6.ret rfl)
 . exact a6.fail
theorem HF {t : TypeId} {m x : Operand} : a6 (fun e => quiet e = false) (jS C s t m x) := by
 unfold jS
 refine ql fun i ag sh es bs ck => ?_
 rw [force_eq]
 exact a6.when fun _ => a6.av fun _ => a6.dm (fun _ _ => a6.ret rfl) (fun _ => a6.ret rfl)
theorem Hz {t : TypeId} {m x y : Operand} : a6 (fun e => quiet e = false) (lB C s t m x y) := by
 unfold lB
 refine ql fun i ag sh es bs ck => ?_
 split
 . exact a6.ex fun _ => a6.av fun _ => a6.ret rfl
 . exact a6.fail
theorem Hy {t : TypeId} {m x : V} : a6 (fun e => quiet e = false) (lz C s t m x) := by
 unfold lz
 refine ql fun i ag sh es bs ck => ?_
 rw [force_eq]
 exact a6.when fun _ => a6.dm (fun _ _ => a6.ret rfl) (fun _ => a6.ret rfl)
theorem HB {t : TypeId} {m : V} : a6 (fun e => quiet e = false) (lF C s t m) := by
 unfold lF
 refine ql fun i ag sh es bs ck => ?_
 rw [dj]
 exact a6.ret rfl
theorem HA {t : TypeId} {x : Operand} : a6 (fun e => quiet e = false) (lE C s t x) := by
 unfold lE
 split
 . rw [dj]; exact a6.ret rfl
 . exact HB
 . exact a6.fail
theorem HH {t : TypeId} {x y : Operand} : a6 (fun e => quiet e = false) (lL C s t x y) := by
 unfold lL
 simp only [jG]
 split
 . exact a6.fail
 . rw [force_eq]
   refine a6.when fun _ => ?_
   split
   . split
     . exact a6.opt fun _ _ => a6.ret rfl
     . exact a6.fail
   . split
     . refine a6.opt fun _ _ => ?_
       split
       . exact a6.when fun _ => a6.opt fun _ _ => a6.av fun _ => a6.ret rfl
       . exact a6.fail
     . exact a6.fail
   . exact a6.fail
theorem Hw {t : TypeId} {x : V} {ys : List V} {rd : List Nat} : a6 (fun e => quiet e = false) (ly C s t x ys rd) := by
 unfold ly
 split
 . refine a6.when fun _ => a6.av fun _ => a6.av fun _ => ?_
   rw [dj, dj]; exact a6.ret rfl
 . split
   . exact a6.when fun _ => a6.av fun _ => a6.ret rfl
   . exact a6.fail
 . exact a6.fail

theorem Dv {x : V} : a6 (fun r => ∀ i, x = .buf i → r.2.2 = [i]) (elems s x) := by
 unfold elems
 split
 . exact a6.ret fun i h => by cases h
 . exact a6.ret fun i h => by cases h
 . split
   . exact a6.ret fun i h => by cases h; rfl
   . exact a6.fail
 . exact a6.fail

theorem Ed (he : cw C ⟨nt, tm, sg, kl⟩ o (fun b => b = e)) (hq : quiet e = true) (hr : ∀ r ∈ e.rd, au sg' r = au sg r) : cw C ⟨nt, tm, sg', kl⟩ o (fun b => b = e) := by
  obtain ⟨dst, op, type, pos, after, guard⟩ := o
  have hev : ∀ x, AS.ev C ⟨nt, tm, sg', kl⟩ x = AS.ev C ⟨nt, tm, sg, kl⟩ x := fun _ => rfl
  have hevs : ∀ l, AS.bS C ⟨nt, tm, sg', kl⟩ l = AS.bS C ⟨nt, tm, sg, kl⟩ l := fun l => jT fun _ _ => rfl
  have hps : ∀ l, gu C ⟨nt, tm, sg', kl⟩ l = gu C ⟨nt, tm, sg, kl⟩ l := fun l => rL fun _ _ => rfl
  have hrg : ∀ n lo hi, ir C ⟨nt, tm, sg', kl⟩ n lo hi = ir C ⟨nt, tm, sg, kl⟩ n lo hi := fun n lo hi => yO (fun _ _ => rfl) (fun _ _ => rfl)
  have hno : ∀ {p : Prop}, quiet e = false → p := fun h => by rw [h] at hq; cases hq
  cases op <;> simp only [cw] at he ⊢
  case move x => exact he
  case assign x => exact he
  case pick c a b => exact he
  case alloc t => exact hno (Hv e he)
  case box t x => exact hno (Hx (s := ⟨nt, tm, sg, kl⟩) e he)
  case build t ps => simp only [mG, hps] at he ⊢; exact he
  case buildSlice t n ps =>
   have hb : iU C ⟨nt, tm, sg', kl⟩ t n ps = iU C ⟨nt, tm, sg, kl⟩ t n ps := by simp only [iU, hps]
   cases dst with
   | none => simp only [kA, hb] at he ⊢; exact he
   | some d =>
     simp only [kA] at he ⊢
     cases hd : C.lits d with
     | false => rw [hd] at he; simp only [cond_false, hb] at he ⊢; exact he
     | true => rw [hd] at he; exact hno (HC e he)
  case load t x =>
   unfold kC at he ⊢
   simp only [jG] at he ⊢
   rw [hev]
   cases hv : AS.ev C ⟨nt, tm, sg, kl⟩ x <;> rw [hv] at he <;> try exact he
   . rename_i i off
     have hi : i ∈ e.rd := by
      refine (?_ : a6 (fun e : Ef => i ∈ e.rd) _) e he
      split
      . exact a6.fail
      . simp only
        split
        . refine a6.bind (dJ _ _ _ _) fun v _ => ?_
          rw [force_eq]; exact a6.ret (by simp)
        . exact a6.fail
     simp only [hr i hi]
     exact he
   . rename_i i idx off
     have hi : i ∈ e.rd := by
      refine (?_ : a6 (fun e : Ef => i ∈ e.rd) _) e he
      split
      . exact a6.fail
      . simp only
        split
        . refine a6.opt fun _ _ => a6.when fun _ => a6.bind (dJ _ _ _ _) fun v _ => ?_
          rw [force_eq]; exact a6.ret (by simp)
        . exact a6.fail
     simp only [hr i hi]
     exact he
  case store t x y => exact hno (HH e he)
  case nilCheck x => exact he
  case binOp b t x y u => exact he
  case unOp b t x => exact he
  case convert a b x =>
   rw [hev]
   have hmk : (iV C ⟨nt, tm, sg, kl⟩ a b (AS.ev C ⟨nt, tm, sg, kl⟩ x) (fun b => b = e) → iV C ⟨nt, tm, sg', kl⟩ a b (AS.ev C ⟨nt, tm, sg, kl⟩ x) (fun b => b = e)) → lJ C ⟨nt, tm, sg', kl⟩ a b (AS.ev C ⟨nt, tm, sg, kl⟩ x) (fun b => b = e) := fun hk => by
    unfold lJ at he ⊢
    cases hv : AS.ev C ⟨nt, tm, sg, kl⟩ x <;> rw [hv] at he hk <;> try exact hk he
    rename_i i
    simp only at he ⊢
    cases hb : Nat.beq a b with
    | false => rw [hb] at he; exact hk he
    | true =>
      rw [hb] at he
      refine hno ((?_ : a6 (fun e : Ef => quiet e = false) _) e he)
      simp only [cond_true]
      split
      . split
        . split
          . exact a6.ret rfl
          . exact a6.fail
        . exact a6.fail
      . exact a6.fail
   refine hmk fun he => ?_
   have hc : ∀ v, elems ⟨nt, tm, sg', kl⟩ v = elems ⟨nt, tm, sg, kl⟩ v → iV C ⟨nt, tm, sg', kl⟩ a b v = iV C ⟨nt, tm, sg, kl⟩ a b v := fun v hel => by
    unfold iV
    repeat' (first
     | rfl
     | (simp only [hel]; done)
     | split)
   generalize AS.ev C ⟨nt, tm, sg, kl⟩ x = v at he ⊢
   rw [hc v (yD fun i hv => ?_)]
   . exact he
   subst hv
   refine hr i ?_
   refine (?_ : a6 (fun e : Ef => i ∈ e.rd) _) e he
   unfold iV
   split <;> first
    | exact a6.fail
    | contradiction
    | skip
   split
   . exact a6.fail
   . refine a6.bind (ln _ _) fun r hr' => ?_
     have := Dv r (hr' _ rfl) i rfl
     obtain ⟨sz, l, rd⟩ := r
     simp only at this
     subst this
     exact a6.when fun _ => a6.ex fun _ => a6.av fun _ => a6.ret (by simp)
   . exact a6.fail
  case makeInterface t x => exact he
  case makeFunc fn a b => rw [hevs, hevs]; exact he
  case makeSlice t x y => exact hno (HE e he)
  case slice t x lo hi mx =>
   unfold mM at he ⊢
   rw [hev]
   simp only [hrg, hev] at he ⊢
   generalize AS.ev C ⟨nt, tm, sg, kl⟩ x = v at he ⊢
   by_cases hv : ∃ i, v = .buf i
   . obtain ⟨i, rfl⟩ := hv
     refine hno ((?_ : a6 (fun e : Ef => quiet e = false) _) e he)
     split <;> first
      | exact a6.fail
      | contradiction
      | skip
     all_goals
      split
      . exact a6.fail
      . split
        . split
          . exact a6.when fun _ => a6.av fun _ => a6.ret rfl
          . exact a6.fail
        . exact a6.fail
   . by_cases hp : ∃ i a, v = .ptr i a
     . obtain ⟨i, a, rfl⟩ := hp
       refine hno ((?_ : a6 (fun e : Ef => quiet e = false) _) e he)
       split <;> first
        | exact a6.fail
        | contradiction
        | skip
       split
       . exact a6.fail
       . split
         . exact a6.when fun _ => a6.opt fun _ _ => a6.bind (eO _ _ _ _ _) fun _ _ => by rw [pA]; exact a6.ret rfl
         . exact a6.fail
     cases v <;> first
      | exact absurd ⟨_, rfl⟩ hv
      | exact absurd ⟨_, _, rfl⟩ hp
      | skip
     all_goals (generalize (C.ti t).k = k at he ⊢; cases k <;> cases mx <;> exact he)
  case fieldAddr t x f => exact he
  case field t x f => exact he
  case indexAddr t x y =>
   unfold mJ at he ⊢
   simp only [jG] at he ⊢
   rw [hev, hev]
   generalize AS.ev C ⟨nt, tm, sg, kl⟩ x = v at he ⊢
   generalize AS.ev C ⟨nt, tm, sg, kl⟩ y = u at he ⊢
   by_cases hv : ∃ i, v = .buf i
   . obtain ⟨i, rfl⟩ := hv
     have hi : i ∈ e.rd := by
      refine (?_ : a6 (fun e : Ef => i ∈ e.rd) _) e he
      split <;> first
       | exact a6.fail
       | contradiction
       | skip
      rename_i h
      cases h
      split
      . exact a6.fail
      . split
        . exact a6.when fun _ => a6.av fun _ => a6.ret (by simp)
        . exact a6.fail
     generalize (C.ti t).k = k at he ⊢
     cases k <;> cases u <;> simp only [hr i hi] <;> exact he
   . cases v <;> first
       | exact absurd ⟨_, rfl⟩ hv
       | skip
     all_goals (generalize (C.ti t).k = k at he ⊢; cases k <;> cases u <;> exact he)
  case index t x y => exact he
  case typeAssert x _ t ok => exact he
  case extract x i => exact he
  case range t x => exact hno (HA e he)
  case makeMap t r => cases r with
   | none => exact hno (HD e he)
   | some r => exact he
  case mapUpdate t m x y => exact hno (HG e he)
  case mapEntry t m x => exact hno (HF e he)
  case entryStore t m b y => exact hno (Hz e he)
  case lookup t m x ok =>
   unfold ja eD at he ⊢
   rw [hev, hev]
   obtain ⟨p, hp, he⟩ := oH.1 he
   refine oH.2 ⟨p, hp, ?_⟩
   generalize AS.ev C ⟨nt, tm, sg, kl⟩ m = v at he ⊢
   cases v <;> try exact he
   rename_i i
   have hi : i ∈ e.rd := by
    refine (?_ : a6 (fun e : Ef => i ∈ e.rd) _) e he
    simp only
    split
    . rw [force_eq]
      refine a6.when fun _ => a6.when fun _ => ?_
      split
      . exact a6.dm (fun _ _ => a6.ret (by simp)) (fun _ => a6.ret (by simp))
      . exact a6.ret (by simp)
    . exact a6.fail
   simp only [hr i hi]
   exact he
  case entry x =>
   unfold mI at he ⊢
   simp only [jG] at he ⊢
   rw [hev]
   generalize AS.ev C ⟨nt, tm, sg, kl⟩ x = v at he ⊢
   cases v <;> try exact he
   rename_i k off
   cases off with
   | succ off => exact he
   | zero =>
     have hk : k ∈ e.rd ∧ ∀ i bs ck left last, au sg k = .miter (.map i) bs ck left last → i ∈ e.rd := by
      refine (?_ : a6 (fun e : Ef => k ∈ e.rd ∧ ∀ i bs ck left last, au sg k = .miter (.map i) bs ck left last → i ∈ e.rd) _) e he
      simp only
      split
      . rename_i i bs ck left last hs
        split
        . refine a6.av fun _ => a6.opt fun _ _ => a6.ret ⟨by simp, fun i' bs' ck' left' last' h' => ?_⟩
          rw [hs] at h'
          injection h' with h' _
          injection h' with h'
          subst h'
          simp
        . exact a6.fail
      . exact a6.fail
     simp only [hr k hk.1]
     have hk2 := hk.2
     simp only at he
     generalize au sg k = ob at he hk2 ⊢
     cases ob <;> try exact he
     rename_i m bs ck left last
     cases m <;> try exact he
     rename_i i
     simp only [hr i (hk2 i bs ck left last rfl)]
     exact he
  case next x b =>
   unfold mL at he ⊢
   rw [hev]
   cases hv : AS.ev C ⟨nt, tm, sg, kl⟩ x <;> rw [hv] at he <;> try exact he
   rename_i i off
   cases off with
   | succ off => cases b <;> exact he
   | zero => cases b with
     | false => exact he
     | true =>
       have hi : i ∈ e.rd := by
        refine (?_ : a6 (fun e : Ef => i ∈ e.rd) _) e he
        simp only
        split
        . exact a6.c9 (fun _ => a6.opt fun _ _ => a6.av fun _ => a6.ret (by simp)) (fun _ => a6.ret (by simp))
        . exact a6.fail
       simp only [hr i hi]
       exact he
  case call c =>
   unfold mH at he ⊢
   have htg : target C ⟨nt, tm, sg', kl⟩ c = target C ⟨nt, tm, sg, kl⟩ c := C7 fun _ _ => rfl
   rw [htg]
   generalize hcal : c.callee = cal at he ⊢
   cases cal
   . -- a function's value
     obtain ⟨p, hp, hc⟩ : ∃ p, target C ⟨nt, tm, sg, kl⟩ c = some p ∧ dh (eN C sg p.1 p.2) (fun b => b = e) := by
      cases ht : target C ⟨nt, tm, sg, kl⟩ c with
      | none => rw [ht] at he; exact he.elim
      | some p => rw [ht] at he; exact ⟨p, rfl, he⟩
     obtain ⟨pre, h1, h2⟩ := xY hc
     rw [hp]
     exact xX (yM h1 hq hr) h2
   . rename_i r m
     simp only at he ⊢
     rw [hev, hevs]
     generalize AS.ev C ⟨nt, tm, sg, kl⟩ r = v at he ⊢
     cases v <;> try exact he
     obtain ⟨f, hm, hc⟩ := he
     obtain ⟨pre, h1, h2⟩ := xY hc
     exact ⟨f, hm, xX (yM h1 hq hr) h2⟩
   . rename_i b
     simp only at he ⊢
     rw [hevs]
     rw [oa] at he ⊢
     generalize AS.bS C ⟨nt, tm, sg, kl⟩ c.args.toList = xs at he ⊢
     generalize c.argTypes.toList = ts at he ⊢
     have hbt : a6 (fun e' => quiet e' = true → (∀ r ∈ e'.rd, au sg' r = au sg r) → jD C ⟨nt, tm, sg', kl⟩ b ts xs (fun b => b = e')) (jD C ⟨nt, tm, sg, kl⟩ b ts xs) := by
      unfold jD
      split
      . rename_i t x
        intro e he hq hr
        generalize (C.ti t).k = k at he ⊢
        cases k <;> try exact he
        cases x <;> try exact he
        rename_i i _
        have hi : i ∈ e.rd := by
         refine (?_ : a6 (fun e : Ef => i ∈ e.rd) _) e he
         simp only
         split
         . exact a6.ret (by simp)
         . exact a6.fail
        simp only [hr i hi]
        exact he
      . rename_i t t2 x y
        refine fun e he hq _ => (?_ : ∀ {p : Prop}, quiet e = false → p) ((?_ : a6 (fun e : Ef => quiet e = false) _) e he)
        . intro p h; rw [h] at hq; cases hq
        split
        . exact a6.fail
        . exact a6.fail
        . split
          . exact a6.fail
          . exact a6.when fun _ => a6.bind (ln _ _) fun r _ => a6.when fun _ => Hw
        . exact a6.fail
      . rename_i t t2 x y
        refine fun e he hq _ => (?_ : ∀ {p : Prop}, quiet e = false → p) ((?_ : a6 (fun e : Ef => quiet e = false) _) e he)
        . intro p h; rw [h] at hq; cases hq
        split
        . split
          . exact a6.fail
          . split
            . exact a6.bind (ln _ _) fun r _ => a6.when fun _ => a6.ret rfl
            . exact a6.fail
        . exact a6.fail
      . exact fun e he hq _ => absurd hq (by rw [Hy e he]; exact Bool.false_ne_true)
      . exact fun e he _ _ => he
      . exact fun e he _ _ => he
      . exact fun e he _ _ => he
     exact hbt e he hq hr
  all_goals exact he

theorem Ec (h : ∀ x ∈ ie o.op, s'.ev C x = s.ev C x) (he : cw C s o (fun b => b = e)) (hq : quiet e = true) (hr : ∀ r ∈ e.rd, au s'.sg r = au s.sg r) : cw C s' o (fun b => b = e) := by
 obtain ⟨nt, tm, sg, kl⟩ := s
 obtain ⟨nt', tm', sg', kl'⟩ := s'
 have h1 : cw C ⟨nt', tm', sg, kl'⟩ o (fun b => b = e) := by
  rw [ui (s' := ⟨nt', tm', sg, kl'⟩) (s := ⟨nt, tm, sg, kl⟩) (fun x hx => h x hx) rfl]
  exact he
 exact Ed h1 hq hr
end
end Go.VG
namespace Go.VG
open Go

mutual
theorem oy {ks : List Nat} : ∀ {x : V}, x.free ks = true → x.kill ks = x
 | .undef, _ | .int .., _ | .bool _, _ | .str _, _ | .nilptr, _ | .nilIface, _ | .nilFunc, _ | .nilmap, _ | .list .., _ | .box .., _ => by simp [V.kill]
 | .ptr i _, h | .bptr i _ _, h | .buf i, h | .map i, h => by
   simp only [V.free, Bool.not_eq_true'] at h
   simp [V.kill, h]
 | .agg cs, h | .tuple cs, h => by simp [V.kill, pZ (by simpa [V.free] using h)]
 | .iface t x, h => by simp [V.kill, oy (by simpa [V.free] using h)]
 | .func fn fs cs, h => by
   simp only [V.free, Bool.and_eq_true] at h
   simp [V.kill, pZ h.1, pZ h.2]
theorem pZ {ks : List Nat} : ∀ {x : List V}, V.jU ks x = true → V.eb ks x = x
 | [], _ => by simp [V.eb]
 | c :: cs, h => by
   simp only [V.jU, Bool.and_eq_true] at h
   simp [V.eb, oy h.1, pZ h.2]
end
mutual
theorem s5 {ks : List Nat} : ∀ {x : V}, (x.kill ks).kY = true → x.kill ks = x
 | .undef, _ | .int .., _ | .bool _, _ | .str _, _ | .nilptr, _ | .nilIface, _ | .nilFunc, _ | .nilmap, _ | .list .., _ | .box .., _ => by simp [V.kill]
 | .ptr i _, h | .bptr i _ _, h | .buf i, h | .map i, h => by
   cases hm : aC i ks with
   | true => simp [V.kill, hm, V.kY] at h
   | false => simp [V.kill, hm]
 | .agg cs, h | .tuple cs, h => by
   simp only [V.kill, V.kY] at h
   simp [V.kill, qa h]
 | .iface t x, h => by
   simp only [V.kill, V.kY] at h
   simp [V.kill, s5 h]
 | .func fn fs cs, h => by
   simp only [V.kill, V.kY, Bool.and_eq_true] at h
   simp [V.kill, qa h.1, qa h.2]
theorem qa {ks : List Nat} : ∀ {x : List V}, V.kf (V.eb ks x) = true → V.eb ks x = x
 | [], _ => by simp [V.eb]
 | c :: cs, h => by
   simp only [V.eb, V.kf, Bool.and_eq_true] at h
   simp [V.eb, s5 h.1, qa h.2]
end

theorem pQ : ∀ (sg : List O) (i : Nat), au sg i = sg.getD i .dead
 | [], i => by simp [au]
 | o :: os, 0 => by simp [au]
 | o :: os, i + 1 => by simp [au, pQ os i]

theorem tL : ∀ {up : List (Nat × O)} {rd : List Nat}, pj up rd = true → ∀ p ∈ up, p.1 ∉ rd
 | [], _, _, p, h => by simp at h
 | (i, o) :: r, rd, h, p, hp => by
   simp only [pj, Bool.and_eq_true, Bool.not_eq_true'] at h
   rcases List.mem_cons.1 hp with rfl | hp
   . exact mY.1 h.1
   . exact tL h.2 p hp
theorem tH : ∀ {l : List Nat} {n : Nat}, ph l n = true → ∀ i ∈ l, i < n
 | [], _, _, i, h => by simp at h
 | k :: ks, n, h, i, hi => by
   simp only [ph, Bool.and_eq_true] at h
   rcases List.mem_cons.1 hi with rfl | hi
   . exact Nat.le_of_ble_eq_true h.1
   . exact tH h.2 i hi
theorem Cm : ∀ {up : List (Nat × O)} {sg : List O} {r : Nat}, (∀ p ∈ up, p.1 ≠ r) → (dr sg up)[r]? = sg[r]?
 | [], sg, r, _ => rfl
 | (i, o) :: up, sg, r, h => by
   simp only [dr]
   rw [Cm fun p hp => h p (List.mem_cons_of_mem _ hp), ib, List.getElem?_set_ne (h (i, o) (by simp))]

structure fq (s t : AS) : Prop where
 nt : s.nt = t.nt
 tm : ∀ u, lk s.tm u = lk t.tm u
 sg : s.sg = t.sg
 kl : ∀ i, aC i s.kl = true ↔ aC i t.kl = true
theorem fq.refl (s : AS) : fq s s := ⟨rfl, fun _ => rfl, rfl, fun _ => Iff.rfl⟩
theorem fq.symm {s t : AS} (h : fq s t) : fq t s := ⟨h.nt.symm, fun u => (h.tm u).symm, h.sg.symm, fun i => (h.kl i).symm⟩
theorem fq.trans {s t u : AS} (h : fq s t) (k : fq t u) : fq s u := ⟨h.nt.trans k.nt, fun x => (h.tm x).trans (k.tm x), h.sg.trans k.sg, fun i => (h.kl i).trans (k.kl i)⟩

theorem ji (s : AS) (d : Option Nat) (e : Ef) (t : Nat) : lk (s.app d e).tm t = if d = some t then e.v else (lk s.tm t).kill e.ks := by
 cases d with
 | none => simp only [AS.app]; rw [kM]; simp
 | some d =>
   simp only [AS.app, lk]
   rw [kM]
   by_cases h : d = t
   . subst h; simp
   . have : Nat.beq d t = false := by
       cases hb : Nat.beq d t with
       | false => rfl
       | true => exact absurd (Nat.eq_of_beq_eq_true hb) h
     simp [this, h]
theorem jO (s : AS) (d : Option Nat) (e : Ef) : (s.app d e).sg = gk (dr (iD e.ks s.sg) e.up) e.nw := rfl
theorem fW {s : AS} {d : Option Nat} {e : Ef} (h : quiet e = true) : (s.app d e).sg = s.sg := by
 obtain ⟨h1, h2, h3⟩ := m6.1 h
 rw [jO, h1, h2, h3]; rfl
theorem fq.app {s t : AS} (h : fq s t) (d : Option Nat) (e : Ef) : fq (s.app d e) (t.app d e) := by
 refine ⟨h.nt, fun u => ?_, ?_, fun i => ?_⟩
 . rw [ji, ji, h.tm]
 . rw [jO, jO, h.sg]
 . simp only [AS.app, ij, h.kl]
theorem zj {s : AS} {d : Option Nat} {e : Ef} {r : Nat} (hr : r < s.sg.length) (hu : ∀ p ∈ e.up, p.1 ≠ r) : au (s.app d e).sg r = (au s.sg r).kill e.ks := by
 rw [pQ, pQ, jO, tG, List.getD_eq_getElem?_getD, List.getD_eq_getElem?_getD, List.getElem?_append_left (by rw [mT, pY]; simpa using hr), Cm hu, pY,
  List.getElem?_map, List.getElem?_eq_getElem hr]
 rfl

section
variable {C : Ctx} {ops : List Oper}

structure et (C : Ctx) (ops : List Oper) (o : Oper) (s : AS) (r : Rc) : Prop where
 ef : stepT C ops s o (fun b => b = r.e)
 d : r.d = o.dst
 us : r.us = looks ops o
 ov : r.ov = s.bS C (ie o.op)
 oo : (ka o).1 = 1 ∨ r.oo = je s.sg r.e.rd
 lu : r.lu = ka o
 n : quiet r.e = false → r.n = s.sg.length
 dok : di s o.dst = true

theorem xf : ∀ {l : List Operand} {t : Nat}, Operand.tmp t ∈ l → t ∈ tmpsOf l
 | [], _, h => by simp at h
 | x :: xs, t, h => by
   rcases List.mem_cons.1 h with h | h
   . subst h; simp [tmpsOf]
   . have := xf h
     cases x <;> simp [tmpsOf, this]
theorem yR {s s' : AS} {x : Operand} (h : ∀ t, x = .tmp t → lk s'.tm t = lk s.tm t) : s'.ev C x = s.ev C x := by
 cases x with
 | tmp t => exact h t rfl
 | _ => rfl
theorem zk {sg sg' : List O} : ∀ {l : List Nat}, (∀ r ∈ l, au sg' r = au sg r) → je sg' l = je sg l
 | [], _ => rfl
 | r :: rs, h => by simp only [je, h r (by simp), zk (l := rs) fun x hx => h x (List.mem_cons_of_mem _ hx)]

theorem Kc {s s' : AS} {o : Oper} {e : Ef} (hg : ∀ t ∈ oh ops o.guard, lk s'.tm t = lk s.tm t) (ho : cw C s o (fun b => b = e) → cw C s' o (fun b => b = e)) (h : stepT C ops s o (fun b => b = e)) : stepT C ops s' o (fun b => b = e) := by
 unfold stepT at h ⊢
 cases hgd : o.guard with
 | none => rw [hgd] at h; exact ho h
 | some p =>
   obtain ⟨j, want⟩ := p
   rw [hgd] at h hg
   simp only at h ⊢
   cases hd : cu ops j with
   | none => rw [hd] at h; exact h
   | some t =>
     rw [hd] at h
     simp only at h ⊢
     rw [hg t (by simp [oh, hd])]
     generalize lk s.tm t = v at h ⊢
     cases v <;> try exact h
     rotate_left
     . rename_i l
       cases l with
       | nil => exact h
       | cons _ _ => exact h
     rename_i b
     cases want <;> cases b <;> simp only [cond_true, cond_false, jB, c9] at h ⊢ <;> first
      | exact h
      | exact ho h

theorem BW {s : AS} {o : Oper} {e : Ef} (h : stepT C ops s o (fun b => b = e)) : ∀ t ∈ oh ops o.guard, (∃ b, lk s.tm t = .bool b) ∨ lk s.tm t = .tuple [] := by
 intro t ht
 unfold stepT at h
 cases hgd : o.guard with
 | none => rw [hgd] at ht; simp [oh] at ht
 | some p =>
   obtain ⟨j, want⟩ := p
   rw [hgd] at h ht
   simp only [oh] at ht
   simp only at h
   cases hd : cu ops j with
   | none => rw [hd] at ht; simp at ht
   | some t' =>
     rw [hd] at ht h
     simp only [List.mem_singleton] at ht
     subst ht
     simp only at h
     generalize lk s.tm t = v at h
     cases v <;> first
      | exact .inl ⟨_, rfl⟩
      | exact h.elim
      | (rename_i l; cases l with
         | nil => exact .inr rfl
         | cons _ _ => exact h.elim)

theorem et.loc {s s' : AS} {o : Oper} {r : Rc} (h : et C ops o s r) (hnt : s'.nt = s.nt) (hl : ∀ t ∈ looks ops o, lk s'.tm t = lk s.tm t) (hsg : s'.sg = s.sg ∨ (quiet r.e = true ∧ ∀ i ∈ r.e.rd, au s'.sg i = au s.sg i)) :
   et C ops o s' r := by
 have hev : ∀ x ∈ ie o.op, s'.ev C x = s.ev C x := fun x hx => yR fun t ht => hl t (List.mem_append_left _ (xf (ht ▸ hx)))
 refine ⟨?_, h.d, h.us, ?_, ?_, h.lu, fun hq => ?_, ?_⟩
 . refine Kc (fun t ht => hl t (List.mem_append_right _ ht)) (fun he => ?_) h.ef
   rcases hsg with hsg | ⟨hq, hr⟩
   . rw [ui hev hsg]; exact he
   . exact Ec hev he hq hr
 . rw [h.ov, jT hev]
 . refine h.oo.imp id fun hoo => ?_
   rw [hoo]
   rcases hsg with hsg | ⟨_, hr⟩
   . rw [hsg]
   . exact (zk hr).symm
 . rcases hsg with hsg | ⟨hq', _⟩
   . rw [hsg]; exact h.n hq
   . rw [hq'] at hq; cases hq
 . have := h.dok
   cases hd : o.dst with
   | none => rfl
   | some d => rw [hd] at this; simp only [di] at this ⊢; rw [hnt]; exact this

theorem et.eqv {s s' : AS} {o : Oper} {r : Rc} (h : et C ops o s r) (e : fq s s') : et C ops o s' r :=
 h.loc e.nt.symm (fun t _ => (e.tm t).symm) (.inl e.sg.symm)

theorem ze {ks : List Nat} : ∀ {l : List V}, V.jU ks l = true → ∀ x ∈ l, x.free ks = true
 | [], _, x, h => by simp at h
 | c :: cs, h, x, hx => by
   simp only [V.jU, Bool.and_eq_true] at h
   rcases List.mem_cons.1 hx with rfl | hx
   . exact h.1
   . exact ze h.2 x hx
theorem BT : ∀ {l : List V}, V.kf l = true → ∀ x ∈ l, x.kY = true
 | [], _, x, h => by simp at h
 | c :: cs, h, x, hx => by
   simp only [V.kf, Bool.and_eq_true] at h
   rcases List.mem_cons.1 hx with rfl | hx
   . exact h.1
   . exact BT h.2 x hx
theorem uj {s : AS} : ∀ {l : List Operand} {x : Operand}, x ∈ l → s.ev C x ∈ s.bS C l
 | [], _, h => by simp at h
 | y :: ys, x, h => by
   rcases List.mem_cons.1 h with rfl | h
   . simp [AS.bS]
   . simp only [AS.bS, List.mem_cons]; exact .inr (uj h)
theorem zf {ks : List Nat} {sg : List O} : ∀ {l : List Nat}, lQ ks (je sg l) = true → ∀ i ∈ l, (au sg i).kill ks = au sg i
 | [], _, i, h => by simp at h
 | k :: l, h, i, hi => by
   simp only [je] at h
   have hrest : lQ ks (je sg l) = true := by
    cases ho : au sg k <;> rw [ho] at h <;> simp only [lQ, Bool.and_eq_true] at h <;> first | exact h | exact h.2
   rcases List.mem_cons.1 hi with rfl | hi
   . cases ho : au sg i <;> try rfl
     all_goals
      rw [ho] at h
      simp only [lQ, Bool.and_eq_true] at h
      first
      | (simp only [O.kill, pZ h.1]; done)
      | (simp only [O.kill, oy h.1]; done)
   . exact zf hrest i hi
theorem BU {ks : List Nat} {sg sg' : List O} : ∀ {l : List Nat}, mc (je sg' l) = true → ∀ i ∈ l, au sg' i = (au sg i).kill ks → au sg' i = au sg i
 | [], _, i, h, _ => by simp at h
 | k :: l, h, i, hi, he => by
   simp only [je] at h
   have hrest : mc (je sg' l) = true := by
    cases ho : au sg' k <;> rw [ho] at h <;> simp only [mc, Bool.and_eq_true] at h <;> first | exact h | exact h.2 | cases h
   rcases List.mem_cons.1 hi with rfl | hi
   . cases ho : au sg i <;> rw [ho] at he <;> try exact he
     all_goals
      simp only [O.kill] at he
      rw [he] at h
      simp only [mc, Bool.and_eq_true] at h
      first
      | (rw [he, qa h.1]; done)
      | (rw [he, s5 h.1]; done)
   . exact BU hrest i hi he

theorem ud {d : Option Nat} {us : List Nat} (h : pF d us = true) {t : Nat} (ht : t ∈ us) : d ≠ some t := by
 intro e
 subst e
 simp only [pF, Bool.not_eq_true'] at h
 exact mY.1 h ht

theorem yH : ∀ {a b : List Nat}, rI a b = true → a = b
 | [], [], _ => rfl
 | x :: xs, y :: ys, h => by
   simp only [rI, Bool.and_eq_true] at h
   rw [Nat.eq_of_beq_eq_true h.1, yH h.2]
 | [], _ :: _, h => by cases h
 | _ :: _, [], h => by cases h
theorem Aw {o : Oper} (h : (ka o).1 = 1) : ∃ t m x, o.guard = none ∧ o.op = .lookup t (.tmp m) (.tmp x) false ∧ ka o = (1, [t, m, x]) := by
 unfold ka at h ⊢
 split at h <;> first
  | (rename_i t m x hg ho; exact ⟨t, m, x, hg, ho, rfl⟩)
  | (cases h; done)
theorem HI {o : Oper} (h : (ka o).1 = 2) : ∃ t m x, o.guard = none ∧ o.op = .mapEntry t (.tmp m) (.tmp x) ∧ ka o = (2, [t, m, x]) := by
 unfold ka at h ⊢
 split at h <;> first
  | (rename_i t m x hg ho; exact ⟨t, m, x, hg, ho, rfl⟩)
  | (cases h; done)
theorem z8 {es : List (V × Int)} {x y : V} {q : Int} (h : cf es x = none) : cf (es ++ [(y, q)]) x = cond (iW y x) (some (es.length, q)) none := by
 induction es with
 | nil => simp only [List.nil_append, cf]; cases iW y x <;> rfl
 | cons p es ih =>
   obtain ⟨z, r⟩ := p
   simp only [List.cons_append, cf] at h ⊢
   cases hz : iW z x with
   | true => rw [hz] at h; simp at h
   | false =>
     rw [hz] at h
     simp only [cond_false] at h ⊢
     have hn : cf es x = none := by
      cases he : cf es x with
      | none => rfl
      | some p => rw [he] at h; cases h
     rw [ih hn]
     cases iW y x <;> simp
theorem FU {es : List (V × Int)} {x y : V} (h : cf es x = none) : getM (es ++ [(y, 0)]) x = getM es x := by
 unfold getM
 rw [z8 h, h]
 cases iW y x <;> rfl
theorem FV {sg : List O} {i : Nat} {o : O} (h : i < sg.length) : au (fH sg i o) i = o := by
 have : ∀ (sg : List O) (i : Nat), i < sg.length → au (fH sg i o) i = o := by
  intro sg
  induction sg with
  | nil => intro i h; simp at h
  | cons a r ih =>
    intro i h
    cases i with
    | zero => rfl
    | succ i => exact ih i (by simpa using h)
 exact this sg i h
theorem et.look {s : AS} {o : Oper} {r : Rc} (h : et C ops o s r) (hl : (ka o).1 = 1) : quiet r.e = true ∧ ∀ i ∈ r.e.rd, ∃ ag sh es bs ck, au s.sg i = .map ag sh es bs ck := by
 obtain ⟨t, m, x, hg, ho, _⟩ := Aw hl
 have ef : ja C s t (.tmp m) (.tmp x) false (fun b => b = r.e) := by
  have := h.ef
  unfold stepT at this
  rw [hg] at this
  simp only [cw, ho] at this
  exact this
 unfold ja eD at ef
 obtain ⟨p, hp, ef⟩ := oH.1 ef
 cases hm : AS.ev C s (.tmp m) <;> rw [hm] at ef <;> try exact ef.elim
 rename_i i
 simp only at ef
 cases hs : au s.sg i <;> rw [hs] at ef <;> try exact ef.elim
 rename_i ag sh es bs ck
 simp only [force_eq] at ef
 cases hw : (rl ag p.1 && oN sh p.2) with
 | false => rw [hw] at ef; exact ef.elim
 | true =>
   cases hf : iv ag sh (AS.ev C s (.tmp x)) with
   | false => rw [hw, hf] at ef; exact ef.elim
   | true =>
     rw [hw, hf] at ef
     have ef : (⟨.int .i64 (getM es (AS.ev C s (.tmp x))), [], [], [], [i]⟩ : Ef) = r.e := ef
     rw [← ef]
     refine ⟨rfl, fun k hk => ?_⟩
     simp at hk
     subst hk
     exact ⟨_, _, _, _, _, hs⟩
theorem et.pair {s : AS} {oj oi : Oper} {rj ri : Rc} (hj : et C ops oj s rj) (hi : et C ops oi s ri) (h : qp rj ri = true) (a2 : pF oi.dst (looks ops oj) = true) : quiet rj.e = true ∧ ri.e.ks = [] ∧ et C ops oj (s.app oi.dst ri.e) rj := by
 unfold qp at h
 simp only [Bool.and_eq_true] at h
 rw [hj.lu, hi.lu] at h
 obtain ⟨l1, l2, l3⟩ := h
 obtain ⟨t, m, x, hgj, hoj, ej⟩ := Aw (Nat.eq_of_beq_eq_true l1)
 obtain ⟨t', m', x', hgi, hoi, ei⟩ := HI (Nat.eq_of_beq_eq_true l2)
 rw [ej, ei] at l3
 have l3 := yH l3
 simp only [List.cons.injEq, and_true] at l3
 obtain ⟨rfl, rfl, rfl⟩ := l3
 have efj : ja C s t (.tmp m) (.tmp x) false (fun b => b = rj.e) := by
  have := hj.ef
  unfold stepT at this
  rw [hgj] at this
  simp only [cw, hoj] at this
  exact this
 have efi : jS C s t (.tmp m) (.tmp x) (fun b => b = ri.e) := by
  have := hi.ef
  unfold stepT at this
  rw [hgi] at this
  simp only [cw, hoi] at this
  exact this
 unfold ja eD at efj
 obtain ⟨p, hp, efj⟩ := oH.1 efj
 unfold jS eD at efi
 obtain ⟨p', hp', efi⟩ := oH.1 efi
 rw [hp] at hp'; cases hp'
 have hlm : Operand.tmp m ∈ ie oj.op := by rw [hoj]; simp [ie]
 have hlx : Operand.tmp x ∈ ie oj.op := by rw [hoj]; simp [ie]
 cases hm : AS.ev C s (.tmp m) <;> rw [hm] at efj efi <;> try exact efj.elim
 rename_i i
 simp only at efj efi
 cases hs : au s.sg i <;> rw [hs] at efj efi <;> try exact efj.elim
 rename_i ag sh es bs ck
 simp only [force_eq] at efj efi
 have hil : i < s.sg.length := (ew hs (by simp)).2
 cases hw : (rl ag p.1 && oN sh p.2) with
 | false => rw [hw] at efj; exact efj.elim
 | true =>
   cases hf : iv ag sh (AS.ev C s (.tmp x)) with
   | false => rw [hw, hf] at efj; exact efj.elim
   | true =>
     rw [hw, hf] at efj efi
     have efj : (⟨.int .i64 (getM es (AS.ev C s (.tmp x))), [], [], [], [i]⟩ : Ef) = rj.e := efj
     have hri : ∃ v es' bs' ck', ri.e = ⟨v, [], [(i, .map ag sh es' bs' ck')], [], [i]⟩ ∧ getM es' (AS.ev C s (.tmp x)) = getM es (AS.ev C s (.tmp x)) := by
      obtain ⟨_, k1, k2⟩ := efi
      cases hfd : cf es (AS.ev C s (.tmp x)) with
      | some r =>
        have := k1 r hfd
        exact ⟨_, _, _, _, (show _ = ri.e from this).symm, rfl⟩
      | none =>
        have := k2 hfd
        exact ⟨_, _, _, _, (show _ = ri.e from this).symm, FU hfd⟩
     obtain ⟨v, es', bs', ck', hri, hget⟩ := hri
     have hks : ri.e.ks = [] := by rw [hri]
     have hlk : ∀ u ∈ looks ops oj, lk (s.app oi.dst ri.e).tm u = lk s.tm u := fun u hu => by
      rw [ji, if_neg (ud a2 hu), hks, fT]
     have hev : ∀ y ∈ ie oj.op, (s.app oi.dst ri.e).ev C y = s.ev C y := fun y hy => yR fun u hu => hlk u (List.mem_append_left _ (xf (hu ▸ hy)))
     refine ⟨by rw [← efj]; rfl, hks, ?_⟩
     have hsg : (s.app oi.dst ri.e).sg = fH s.sg i (.map ag sh es' bs' ck') := by
      rw [hri]
      simp [AS.app, iD, dr, gk]
     refine ⟨?_, hj.d, hj.us, ?_, .inl (Nat.eq_of_beq_eq_true l1), hj.lu, fun hq => ?_, ?_⟩
     . unfold stepT
       rw [hgj]
       simp only [cw, hoj]
       unfold ja eD
       refine oH.2 ⟨p, hp, ?_⟩
       rw [hev _ hlm, hm]
       simp only
       rw [hsg, FV hil]
       simp only [force_eq]
       rw [hev _ hlx, hw, hf]
       show (⟨.int .i64 (getM es' (AS.ev C s (.tmp x))), [], [], [], [i]⟩ : Ef) = rj.e
       rw [hget]
       exact efj
     . rw [hj.ov, jT hev]
     . rw [← efj] at hq; cases hq
     . have := hj.dok
       cases hd : oj.dst with
       | none => rfl
       | some d => rw [hd] at this; simp only [di] at this ⊢; exact this
theorem et.swap {s : AS} {oj oi : Oper} {rj ri : Rc} (hj : et C ops oj s rj) (hi : et C ops oi (s.app oj.dst rj.e) ri) (h : indep rj ri = true) :
   et C ops oi s ri ∧ et C ops oj (s.app oi.dst ri.e) rj ∧ fq ((s.app oi.dst ri.e).app oj.dst rj.e) ((s.app oj.dst rj.e).app oi.dst ri.e) := by
 unfold indep at h
 simp only [Bool.and_eq_true] at h
 obtain ⟨⟨⟨a1, a2⟩, a3⟩, h⟩ := h
 rw [hj.d, hi.us] at a1
 rw [hi.d, hj.us] at a2
 rw [hi.d, hj.d] at a3
 have hne : ∀ t, oj.dst = some t → oi.dst = some t → False := fun t h1 h2 => by
  rw [h1, h2] at a3; simp [yz] at a3
 -- what i looks at, ahead of j
 have lki : ∀ t ∈ looks ops oi, lk (s.app oj.dst rj.e).tm t = (lk s.tm t).kill rj.e.ks := fun t ht => by
  rw [ji, if_neg (ud a1 ht)]
 have lkj : ∀ t ∈ looks ops oj, lk (s.app oi.dst ri.e).tm t = (lk s.tm t).kill ri.e.ks := fun t ht => by
  rw [ji, if_neg (ud a2 ht)]
 have hfin : (rj.e.ks = [] ∨ ri.e.ks = []) → rj.e.v.kill ri.e.ks = rj.e.v → ri.e.v.kill rj.e.ks = ri.e.v → ((s.app oi.dst ri.e).app oj.dst rj.e).sg = ((s.app oj.dst rj.e).app oi.dst ri.e).sg →
    fq ((s.app oi.dst ri.e).app oj.dst rj.e) ((s.app oj.dst rj.e).app oi.dst ri.e) := fun hks hv1 hv2 hsg => by
  refine ⟨rfl, fun t => ?_, hsg, fun i => by simp only [AS.app, ij]; exact or_left_comm⟩
  rw [ji, ji, ji, ji]
  by_cases e1 : oj.dst = some t
  . rw [if_pos e1, if_pos e1, if_neg (fun e2 => hne t e1 e2), hv1]
  . rw [if_neg e1, if_neg e1]
    by_cases e2 : oi.dst = some t
    . rw [if_pos e2, if_pos e2, hv2]
    . rw [if_neg e2, if_neg e2]
      rcases hks with hks | hks <;> rw [hks, fT, fT]
 cases hpl : qp rj ri with
 | true =>
   have hqj : quiet rj.e = true := by
    have hp2 := hpl
    unfold qp at hp2
    simp only [Bool.and_eq_true] at hp2
    rw [hj.lu] at hp2
    exact (hj.look (Nat.eq_of_beq_eq_true hp2.1)).1
   obtain ⟨j1, j2, j3⟩ := m6.1 hqj
   have hsi : et C ops oi s ri := hi.loc rfl (fun t ht => by rw [lki t ht, j1, fT]) (.inl (fW hqj).symm)
   rw [← hi.d] at a2
   obtain ⟨_, i1, hsj⟩ := hj.pair hsi hpl (hi.d ▸ a2)
   refine ⟨hsi, hsj, hfin (.inl j1) (by rw [i1, fT]) (by rw [j1, fT]) ?_⟩
   rw [fW hqj, jO, jO, fW hqj]
 | false =>
 rw [hpl, Bool.false_or] at h
 cases hqj : quiet rj.e with
 | true =>
   obtain ⟨j1, j2, j3⟩ := m6.1 hqj
   have hsi : et C ops oi s ri := hi.loc rfl (fun t ht => by rw [lki t ht, j1, fT]) (.inl (fW hqj).symm)
   cases hqi : quiet ri.e with
   | true =>
     obtain ⟨i1, i2, i3⟩ := m6.1 hqi
     refine ⟨hsi, hj.loc rfl (fun t ht => by rw [lkj t ht, i1, fT]) (.inl (fW hqi)), hfin (.inl j1) (by rw [i1, fT]) (by rw [j1, fT]) ?_⟩
     rw [fW hqj, fW hqi, fW hqi, fW hqj]
   | false =>
     rw [hqj, hqi] at h
     simp only [Bool.and_eq_true] at h
     obtain ⟨⟨⟨⟨b1, b2⟩, b3⟩, b4⟩, b5⟩ := h
     rw [hj.ov] at b1
     have hb2 : ∀ r ∈ rj.e.rd, (au s.sg r).kill ri.e.ks = au s.sg r := fun r hr => by
      rcases hj.oo with q | q
      . obtain ⟨_, _, _, _, _, hm⟩ := (hj.look q).2 r hr
        rw [hm]; rfl
      . rw [q] at b2; exact zf b2 r hr
     have hn : ri.n = s.sg.length := by rw [hi.n hqi, fW hqj]
     rw [hn] at b5
     refine ⟨hsi, hj.loc rfl (fun t ht => ?_) (.inr ⟨hqj, fun r hr => ?_⟩), hfin (.inl j1) (oy b3) (by rw [j1, fT]) ?_⟩
     . rw [lkj t ht]
       rcases List.mem_append.1 ht with ht | ht
       . have : ∀ (l : List Operand) t, t ∈ tmpsOf l → Operand.tmp t ∈ l := by
           intro l
           induction l with
           | nil => intro t h; simp [tmpsOf] at h
           | cons x xs ih =>
             intro t h
             cases x <;> simp only [tmpsOf, List.mem_cons] at h ⊢ <;> first
              | exact .inr (ih t h)
              | (rcases h with rfl | h
                 . exact .inl rfl
                 . exact .inr (ih t h))
         exact oy (ze b1 _ (uj (this _ _ ht)))
       . rcases BW hj.ef t ht with ⟨b, hb⟩ | hb <;> rw [hb] <;> simp [V.kill, V.eb]
     . rw [zj (tH b5 r hr) (fun p hp e => tL b4 p hp (e ▸ hr)), hb2 r hr]
     . rw [fW hqj, jO, jO, fW hqj]
 | false =>
   cases hqi : quiet ri.e with
   | false => rw [hqj, hqi] at h; cases h
   | true =>
     obtain ⟨i1, i2, i3⟩ := m6.1 hqi
     rw [hqj, hqi] at h
     simp only [Bool.and_eq_true] at h
     obtain ⟨⟨⟨⟨b1, b2⟩, b3⟩, b4⟩, b5⟩ := h
     rw [hi.ov] at b1
     have hb2 : ∀ r ∈ ri.e.rd, au (s.app oj.dst rj.e).sg r = (au s.sg r).kill rj.e.ks → au (s.app oj.dst rj.e).sg r = au s.sg r := fun r hr he => by
      rcases hi.oo with q | q
      . obtain ⟨_, _, _, _, _, hm⟩ := (hi.look q).2 r hr
        rw [hm] at he ⊢
        cases hg : au s.sg r <;> rw [hg] at he <;> first
         | (cases he; done)
         | exact he
      . rw [q] at b2; exact BU b2 r hr he
     rw [hj.n hqj] at b5
     have hlk : ∀ t ∈ looks ops oi, lk s.tm t = lk (s.app oj.dst rj.e).tm t := fun t ht => by
      have h1 := lki t ht
      rw [h1]
      refine (s5 ?_).symm
      rw [← h1]
      rcases List.mem_append.1 ht with ht | ht
      . have : ∀ (l : List Operand) t, t ∈ tmpsOf l → Operand.tmp t ∈ l := by
          intro l
          induction l with
          | nil => intro t h; simp [tmpsOf] at h
          | cons x xs ih =>
            intro t h
            cases x <;> simp only [tmpsOf, List.mem_cons] at h ⊢ <;> first
             | exact .inr (ih t h)
             | (rcases h with rfl | h
                . exact .inl rfl
                . exact .inr (ih t h))
        exact BT b1 _ (uj (this _ _ ht))
      . rcases BW hi.ef t ht with ⟨b, hb⟩ | hb <;> rw [hb] <;> rfl
     refine ⟨hi.loc rfl hlk (.inr ⟨hqi, fun r hr => ?_⟩), hj.loc rfl (fun t ht => by rw [lkj t ht, i1, fT]) (.inl (fW hqi)), hfin (.inr i1) (by rw [i1, fT]) (oy b3) ?_⟩
     . exact (hb2 r hr (zj (tH b5 r hr) (fun p hp e => tL b4 p hp (e ▸ hr)))).symm
     . show gk (dr (iD rj.e.ks (s.app oi.dst ri.e).sg) rj.e.up) rj.e.nw = _
       rw [fW hqi, fW hqi]; rfl

def gL (C : Ctx) (ops : List Oper) (f : Nat → Rc) (sN : AS) : List Nat → AS → Prop
 | [], s => fq s sN
 | i :: L, s => ∃ o, ops[i]? = some o ∧ et C ops o s (f i) ∧ gL C ops f sN L (s.app o.dst (f i).e)

theorem gL.eqv {f : Nat → Rc} {sN : AS} : ∀ {L : List Nat} {s s' : AS}, gL C ops f sN L s → fq s s' → gL C ops f sN L s'
 | [], _, _, h, e => e.symm.trans h
 | _ :: _, _, _, ⟨o, h1, h2, h3⟩, e => ⟨o, h1, h2.eqv e, h3.eqv (e.app _ _)⟩

theorem gL.front {f : Nat → Rc} {sN : AS} {i : Nat} {l2 : List Nat} : ∀ {l1 : List Nat} {s : AS}, gL C ops f sN (l1 ++ i :: l2) s → (∀ j ∈ l1, indep (f j) (f i) = true) → gL C ops f sN (i :: (l1 ++ l2)) s
 | [], _, h, _ => h
 | j :: l1, s, ⟨oj, h1, h2, h3⟩, hi => by
   obtain ⟨oi, k1, k2, k3⟩ := gL.front h3 fun k hk => hi k (List.mem_cons_of_mem _ hk)
   obtain ⟨q1, q2, q3⟩ := h2.swap k2 (hi j (by simp))
   exact ⟨oi, k1, q1, oj, h1, q2, k3.eqv q3.symm⟩
end
end Go.VG
