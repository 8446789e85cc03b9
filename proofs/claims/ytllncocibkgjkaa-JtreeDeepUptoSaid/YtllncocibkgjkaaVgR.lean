/-
  A part of the proof.
-/
import Derived.Test.YtllncocibkgjkaaVgO
set_option linter.unusedSimpArgs false
set_option linter.unusedVariables false
namespace Go.VG
open Go

theorem lC {e : Ef} : quiet e = true ↔ e.ks = [] ∧ e.up = [] ∧ e.nw = [] := by
 obtain ⟨v, ks, up, nw, rd⟩ := e
 cases ks <;> cases up <;> cases nw <;> simp [quiet]

mutual
theorem uI : ∀ {x : V} {acc : List Nat} {i : Nat}, i ∈ acc → i ∈ V.names x acc
 | .ptr j _, acc, i, h | .bptr j _ _, acc, i, h | .buf j, acc, i, h | .map j, acc, i, h => by
   simp only [V.names]
   cases aF j acc with
   | true => exact h
   | false => exact List.mem_append_left _ h
 | .agg cs, acc, i, h | .tuple cs, acc, i, h => by simp only [V.names]; exact pI h
 | .iface _ x, acc, i, h => by simp only [V.names]; exact uI h
 | .func _ fs cs, acc, i, h => by simp only [V.names]; exact pI (pI h)
 | .undef, _, _, h | .int .., _, _, h | .bool _, _, _, h | .str _, _, _, h | .list .., _, _, h | .nilptr, _, _, h | .box .., _, _, h | .nilIface, _, _, h | .nilFunc, _, _, h | .nilmap, _, _, h => by simp only [V.names]; exact h
theorem pI : ∀ {x : List V} {acc : List Nat} {i : Nat}, i ∈ acc → i ∈ V.dm x acc
 | [], _, _, h => by simp only [V.dm]; exact h
 | c :: cs, _, _, h => by simp only [V.dm]; exact pI (uI h)
end
theorem AK {o : O} {acc : List Nat} {i : Nat} (h : i ∈ acc) : i ∈ o.names acc := by
 cases o <;> simp only [O.names] <;> first | exact h | exact pI h | exact uI h

theorem Bb {sg : List O} : ∀ {fuel : Nat} {todo acc : List Nat} {i : Nat}, i ∈ acc → i ∈ reach sg fuel todo acc
 | 0, _, _, _, h => by simp only [reach]; exact h
 | _ + 1, [], _, _, h => by simp only [reach]; exact h
 | fuel + 1, k :: todo, acc, i, h => by simp only [reach]; exact Bb (AK h)
theorem Bc {sg sg' : List O} : ∀ {fuel : Nat} {todo acc : List Nat}, (∀ i ∈ todo, i ∈ acc) → (∀ r ∈ reach sg fuel todo acc, ax sg' r = ax sg r) → reach sg' fuel todo acc = reach sg fuel todo acc
 | 0, _, _, _, _ => by simp only [reach]
 | _ + 1, [], _, _, _ => by simp only [reach]
 | fuel + 1, k :: todo, acc, ht, h => by
   have hk : ax sg' k = ax sg k := h k (Bb (ht k (by simp)))
   simp only [reach] at h ⊢
   rw [hk]
   refine Bc (fun i hi => ?_) h
   rcases List.mem_append.1 hi with hi | hi
   . exact AK (ht i (List.mem_cons_of_mem _ hi))
   . exact List.mem_of_mem_drop hi

theorem xm {sg sg' : List O} : ∀ {th : List Nat}, (∀ r ∈ th, ax sg' r = ax sg r) → g8 sg' th = g8 sg th
 | [], _ => rfl
 | k :: ks, h => by simp only [g8, h k (by simp), xm (th := ks) fun r hr => h r (List.mem_cons_of_mem _ hr)]
theorem xW {sg sg' : List O} {th0 : List Nat} : ∀ {th : List Nat}, (∀ r ∈ th, ax sg' r = ax sg r) → g9 sg' th0 th = g9 sg th0 th
 | [], _ => rfl
 | k :: ks, h => by simp only [g9, h k (by simp), xW (th := ks) fun r hr => h r (List.mem_cons_of_mem _ hr)]
theorem Ah {sg sg' : List O} {f : Nat → Option Nat} : ∀ {th : List Nat}, (∀ r ∈ th, ax sg' r = ax sg r) → locals sg' f th = locals sg f th
 | [], _ => rfl
 | k :: ks, h => by simp only [locals, h k (by simp), Ah (th := ks) fun r hr => h r (List.mem_cons_of_mem _ hr)]
theorem xF {sg sg' : List O} : ∀ {th : List Nat}, (∀ r ∈ th, ax sg' r = ax sg r) → gM sg' th = gM sg th
 | [], _ => rfl
 | k :: ks, h => by simp only [gM, h k (by simp), xF (th := ks) fun r hr => h r (List.mem_cons_of_mem _ hr)]
theorem xz {n n' : Nat} : ∀ {th : List Nat}, ct th n 0 = ct th n' 0
 | [] => rfl
 | k :: ks => by
   funext j
   cases j with
   | zero => simp [ct]
   | succ j => simp only [ct]; exact congrFun (xz (th := ks)) j

section
variable {C : Ctx} {s s' : AS} {o : Oper} {e : Ef}

theorem yz {sg sg' : List O} {f : FuncId} {args : List V} {pre : Prop} (h : ec C sg f args = some (pre, e)) (hq : quiet e = true) (hr : ∀ r ∈ e.rd, ax sg' r = ax sg r) : ec C sg' f args = some (pre, e) := by
 unfold ec at h ⊢
 rw [ld, ld] at h ⊢
 -- what is read
 have hrd : e.rd = reach sg 256 (V.dm args []) (V.dm args []) := by
  unfold p5 at h
  simp only [jd, nA] at h
  cases hc : (fV (reach sg 256 (V.dm args []) (V.dm args [])) && g8 sg (reach sg 256 (V.dm args []) (V.dm args []))) with
  | false => rw [hc] at h; cases h
  | true =>
    rw [hc, cond_true] at h
    split at h
    . cases h
    . cases hcl : g9 sg (reach sg 256 (V.dm args []) (V.dm args [])) (reach sg 256 (V.dm args []) (V.dm args [])) with
      | false => rw [hcl] at h; cases h
      | true => rw [hcl] at h; cases h; rfl
    . cases h; rfl
 rw [hrd] at hr
 rw [Bc (fun _ h => h) hr]
 generalize reach sg 256 (V.dm args []) (V.dm args []) = th at *
 unfold p5 at h ⊢
 simp only [jd, nA] at h ⊢
 rw [xm hr, xW hr, Ah hr, xF hr]
 cases hc : (fV th && g8 sg th) with
 | false => rw [hc] at h; cases h
 | true =>
   rw [hc, cond_true] at h
   rw [cond_true]
   generalize C.Γ f (V.gz (fun i => idxOf i th 0) args) (locals sg (fun i => idxOf i th 0) th) = r at h ⊢
   rcases r with _ | ⟨pre', v, _ | σ⟩
   . cases h
   . exact h
   . simp only [Option.some.injEq, Prod.mk.injEq] at h ⊢
     obtain ⟨rfl, rfl⟩ := h
     refine ⟨rfl, ?_⟩
     obtain ⟨q1, q2, q3⟩ := lC.1 hq
     simp only [nS, List.map_eq_nil_iff] at q3
     rw [q3]
     simp only [List.length_nil]
     rw [xz (n := sg'.length) (n' := sg.length)]

theorem jx : ∀ {l : List Operand}, (∀ x ∈ l, s'.ev C x = s.ev C x) → s'.bo C l = s.bo C l
 | [], _ => rfl
 | x :: xs, h => by simp only [AS.bo, h x (by simp), jx (l := xs) fun y hy => h y (List.mem_cons_of_mem _ hy)]
theorem qZ : ∀ {l : List (Nat × Operand)}, (∀ x ∈ pP l, s'.ev C x = s.ev C x) → fS C s' l = fS C s l
 | [], _ => rfl
 | (i, x) :: r, h => by simp only [fS, h x (by simp [pP]), qZ (l := r) fun y hy => h y (by simp [pP, hy])]
theorem yB {n : Nat} {lo hi : Option Operand} (h1 : ∀ x ∈ kn lo, s'.ev C x = s.ev C x) (h2 : ∀ x ∈ kn hi, s'.ev C x = s.ev C x) : gO C s' n lo hi = gO C s n lo hi := by
 cases lo <;> cases hi <;> simp only [gO] <;> simp only [kn, List.mem_singleton, forall_eq, List.not_mem_nil] at h1 h2 <;> simp only [h1, h2]
theorem ym {x : V} (h : ∀ i, x = .buf i → ax s'.sg i = ax s.sg i) : elems s' x = elems s x := by
 unfold elems
 cases x <;> try rfl
 rename_i i
 simp only [h i rfl]
theorem BO {c : Call} (h : ∀ x ∈ gH (.call c), s'.ev C x = s.ev C x) : target C s' c = target C s c := by
 unfold target
 cases hc : c.callee with
 | value f =>
   simp only [gH, hc] at h
   simp only [h f (by simp), jx fun x hx => h x (List.mem_cons_of_mem _ hx)]
 | invoke r m => rfl
 | builtin b => rfl

theorem xJ {r : Option (Prop × Ef)} {e : Ef} (h : cS r (fun b => b = e)) : ∃ pre : Prop, r = some (pre, e) ∧ pre := by
 cases r with
 | none => exact h.elim
 | some p =>
   have h1 : p.1 := h.1
   have h2 : gd p.2 (fun b => b = e) := h.2
   rw [gR] at h2
   exact ⟨p.1, by rw [← h2], h1⟩
theorem xI {r : Option (Prop × Ef)} {e : Ef} {pre : Prop} (h : r = some (pre, e)) (hp : pre) : cS r (fun b => b = e) := by
 subst h
 refine ⟨hp, ?_⟩
 show gd e _
 rw [gR]

theorem tM (h : ∀ x ∈ gH o.op, s'.ev C x = s.ev C x) (hs : s'.sg = s.sg) : bP C s' o = bP C s o := by
 obtain ⟨dst, op, type, pos, after, guard⟩ := o
 have hel : ∀ x, elems s' x = elems s x := fun x => ym fun i _ => by rw [hs]
 cases op <;> simp only [bP, gH] at h ⊢
 case move x => rw [h x (by simp)]
 case assign x => rw [h x (by simp)]
 case pick c a b => simp only [nr, h c (by simp), h a (by simp), h b (by simp)]
 case alloc t => simp only [kP, hs]
 case box t x => rw [h x (by simp), hs]
 case build t ps => simp only [m8, qZ h]
 case buildSlice t n ps => simp only [kb, nn, ib, qZ h, hs]
 case load t x => simp only [kc, h x (by simp), hs]
 case store t x y => simp only [l7, h x (by simp), h y (by simp), hs]
 case nilCheck x => simp only [l6, h x (by simp)]
 case binOp b t x y u => rw [h x (by simp), h y (by simp)]
 case unOp b t x => rw [h x (by simp)]
 case convert a b x => simp only [l5, ic, h x (by simp), hel, hs]
 case makeInterface t x => simp only [np, h x (by simp)]
 case makeFunc fn a b => rw [jx fun x hx => h x (by simp [hx]), jx fun x hx => h x (by simp [hx])]
 case makeSlice t x y => simp only [kZ, h x (by simp), h y (by simp), hs]
 case slice t x lo hi mx =>
  have hr : ∀ n, gO C s' n lo hi = gO C s n lo hi := fun n => yB (fun x hx => h x (by simp [hx])) (fun x hx => h x (by simp [hx]))
  have hh : ∀ y, hi = some y → s'.ev C y = s.ev C y := fun y hy => h y (by simp [hy, kn])
  have hm : ∀ y, mx = some y → s'.ev C y = s.ev C y := fun y hy => h y (by simp [hy, kn])
  simp only [me, h x (by simp), hs, hr]
  repeat' (first
   | rfl
   | (simp only [hh _ rfl]; done)
   | (simp only [hh _ rfl, hm _ rfl]; done)
   | split)
 case fieldAddr t x f => simp only [kV, h x (by simp)]
 case field t x f => simp only [kU, h x (by simp)]
 case indexAddr t x y => simp only [mb, h x (by simp), h y (by simp), hs]
 case index t x y => simp only [nm, h x (by simp), h y (by simp)]
 case typeAssert x _ t ok => simp only [ni, h x (by simp)]
 case extract x i => simp only [nk, h x (by simp)]
 case range t x => simp only [kW, kX, dS, h x (by simp), hs]
 case makeMap t r => cases r <;> simp only [kY, hs]
 case lookup t m x ok => simp only [iF, dS, h m (by simp), h x (by simp), hs]
 case mapUpdate t m x y => simp only [l0, dS, h m (by simp), h x (by simp), h y (by simp), hs]
 case mapEntry t m x => simp only [jw, dS, h m (by simp), h x (by simp), hs]
 case entryStore t m b y => simp only [kT, dS, h m (by simp), h b (by simp), h y (by simp), hs]
 case entry x => simp only [ma, h x (by simp), hs]
 case next x b => simp only [mc, h x (by simp), hs]
 case call c =>
  have ht := BO (C := C) (s := s) (s' := s') (c := c) (by simpa only [gH] using h)
  unfold m9
  cases hc : c.callee with
  | value f => simp only [ht, hs]
  | invoke r m =>
    simp only [hc] at h
    simp only [h r (by simp), jx fun x hx => h x (List.mem_cons_of_mem _ hx), hs]
  | builtin b =>
    simp only [hc] at h
    simp only [jx h]
    have hb : ∀ xs, jb C s' b c.argTypes.toList xs = jb C s b c.argTypes.toList xs := fun xs => by
     unfold jb
     simp only [hs, hel, kQ, kR, dS]
    simp only [hb]
end
end Go.VG
namespace Go.VG
open Go

section
variable {C : Ctx} {s s' : AS} {o : Oper} {e : Ef} {nt : Nat} {tm : List (Nat × V)} {sg sg' : List O} {kl : List Nat}

theorem Hw {t : TypeId} : a6 (fun e => quiet e = false) (kP C s t) := by
 unfold kP
 split
 . exact a6.fail
 . rw [force_eq, cU]; exact a6.when fun _ => a6.ret rfl
theorem Hy {x : V} : a6 (fun e => quiet e = false) (force x fun x => bf s.sg.length fun n => bg (!x.dQ) (ret ⟨.ptr n 0, [], [], [.cells x.cells], []⟩)) := by
 rw [force_eq, cU]; exact a6.when fun _ => a6.ret rfl
theorem HF {t : TypeId} {x y : Operand} : a6 (fun e => quiet e = false) (kZ C s t x y) := by
 unfold kZ
 split
 . split
   . exact a6.fail
   . refine a6.when fun _ => a6.az fun _ => ?_
     rw [cU, cU, force_eq]
     exact a6.ret rfl
 . exact a6.fail
theorem HD {t : TypeId} {len : Nat} {ps : Array (Nat × Operand)} : a6 (fun e => quiet e = false) (nn C s t len ps) := by
 unfold nn
 refine a6.bind (p4 _ _ _ _ _) fun e _ => ?_
 split
 . rw [cU]; exact a6.ret rfl
 . exact a6.fail
theorem nZ {α β : Type} {o : Option α} {f : α → Tr β} {K : β → Prop} : dg o f K ↔ ∃ a, o = some a ∧ f a K := by
 cases o with
 | none => exact ⟨fun h => h.elim, fun ⟨_, h, _⟩ => by cases h⟩
 | some a => exact ⟨fun h => ⟨a, rfl, h⟩, fun ⟨_, h, k⟩ => by cases h; exact k⟩
theorem pK {t : TypeId} {m : V} {F : Nat → Bool → List Sc → List (V × Int) → List Nat → Nat → Tr Ef} (h : ∀ i ag sh es bs ck, a6 (fun e => quiet e = false) (F i ag sh es bs ck)) : a6 (fun e => quiet e = false) (dS C s t m F) := by
 unfold dS
 refine a6.opt fun _ _ => ?_
 split
 . split
   . exact a6.when fun _ => h _ _ _ _ _ _
   . exact a6.fail
 . exact a6.fail
theorem HE {t : TypeId} : a6 (fun e => quiet e = false) (kY C s t) := by
 unfold kY
 refine a6.opt fun _ _ => ?_
 rw [cU]
 exact a6.ret rfl
theorem HH {t : TypeId} {m x y : Operand} : a6 (fun e => quiet e = false) (l0 C s t m x y) := by
 unfold l0
 refine pK fun i ag sh es bs ck => ?_
 rw [force_eq]
 refine a6.when fun _ => ?_
 split
 . exact a6.cX (fun _ _ => a6.ret rfl) (fun _ => a6.ret rfl)
 . exact a6.fail
theorem HG {t : TypeId} {m x : Operand} : a6 (fun e => quiet e = false) (jw C s t m x) := by
 unfold jw
 refine pK fun i ag sh es bs ck => ?_
 rw [force_eq]
 exact a6.when fun _ => a6.az fun _ => a6.cX (fun _ _ => a6.ret rfl) (fun _ => a6.ret rfl)
theorem HA {t : TypeId} {m x y : Operand} : a6 (fun e => quiet e = false) (kT C s t m x y) := by
 unfold kT
 refine pK fun i ag sh es bs ck => ?_
 split
 . exact a6.ex fun _ => a6.az fun _ => a6.ret rfl
 . exact a6.fail
theorem Hz {t : TypeId} {m x : V} : a6 (fun e => quiet e = false) (kR C s t m x) := by
 unfold kR
 refine pK fun i ag sh es bs ck => ?_
 rw [force_eq]
 exact a6.when fun _ => a6.cX (fun _ _ => a6.ret rfl) (fun _ => a6.ret rfl)
theorem HC {t : TypeId} {m : V} : a6 (fun e => quiet e = false) (kX C s t m) := by
 unfold kX
 refine pK fun i ag sh es bs ck => ?_
 rw [cU]
 exact a6.ret rfl
theorem HB {t : TypeId} {x : Operand} : a6 (fun e => quiet e = false) (kW C s t x) := by
 unfold kW
 split
 . rw [cU]; exact a6.ret rfl
 . exact HC
 . exact a6.fail
theorem HI {t : TypeId} {x y : Operand} : a6 (fun e => quiet e = false) (l7 C s t x y) := by
 unfold l7
 simp only [jg]
 split
 . exact a6.fail
 . rw [force_eq]
   refine a6.when fun _ => ?_
   split
   . split
     . exact a6.opt fun _ _ => a6.ret rfl
     . exact a6.fail
   . split
     . refine a6.opt fun _ _ => ?_
       split
       . exact a6.when fun _ => a6.opt fun _ _ => a6.az fun _ => a6.ret rfl
       . exact a6.fail
     . exact a6.fail
   . exact a6.fail
theorem Hx {t : TypeId} {x : V} {ys : List V} {rd : List Nat} : a6 (fun e => quiet e = false) (kQ C s t x ys rd) := by
 unfold kQ
 split
 . refine a6.when fun _ => a6.az fun _ => a6.az fun _ => ?_
   rw [cU, cU]; exact a6.ret rfl
 . split
   . exact a6.when fun _ => a6.az fun _ => a6.ret rfl
   . exact a6.fail
 . exact a6.fail

theorem D2 {x : V} : a6 (fun r => ∀ i, x = .buf i → r.2.2 = [i]) (elems s x) := by
 unfold elems
 split
 . exact a6.ret fun i h => by cases h
 . exact a6.ret fun i h => by cases h
 . split
   . exact a6.ret fun i h => by cases h; rfl
   . exact a6.fail
 . exact a6.fail

theorem DD (he : bP C ⟨nt, tm, sg, kl⟩ o (fun b => b = e)) (hq : quiet e = true) (hr : ∀ r ∈ e.rd, ax sg' r = ax sg r) : bP C ⟨nt, tm, sg', kl⟩ o (fun b => b = e) := by
  obtain ⟨dst, op, type, pos, after, guard⟩ := o
  have hev : ∀ x, AS.ev C ⟨nt, tm, sg', kl⟩ x = AS.ev C ⟨nt, tm, sg, kl⟩ x := fun _ => rfl
  have hevs : ∀ l, AS.bo C ⟨nt, tm, sg', kl⟩ l = AS.bo C ⟨nt, tm, sg, kl⟩ l := fun l => jx fun _ _ => rfl
  have hps : ∀ l, fS C ⟨nt, tm, sg', kl⟩ l = fS C ⟨nt, tm, sg, kl⟩ l := fun l => qZ fun _ _ => rfl
  have hrg : ∀ n lo hi, gO C ⟨nt, tm, sg', kl⟩ n lo hi = gO C ⟨nt, tm, sg, kl⟩ n lo hi := fun n lo hi => yB (fun _ _ => rfl) (fun _ _ => rfl)
  have hno : ∀ {p : Prop}, quiet e = false → p := fun h => by rw [h] at hq; cases hq
  cases op <;> simp only [bP] at he ⊢
  case move x => exact he
  case assign x => exact he
  case pick c a b => exact he
  case alloc t => exact hno (Hw e he)
  case box t x => exact hno (Hy (s := ⟨nt, tm, sg, kl⟩) e he)
  case build t ps => simp only [m8, hps] at he ⊢; exact he
  case buildSlice t n ps =>
   have hb : ib C ⟨nt, tm, sg', kl⟩ t n ps = ib C ⟨nt, tm, sg, kl⟩ t n ps := by simp only [ib, hps]
   cases dst with
   | none => simp only [kb, hb] at he ⊢; exact he
   | some d =>
     simp only [kb] at he ⊢
     cases hd : C.lits d with
     | false => rw [hd] at he; simp only [cond_false, hb] at he ⊢; exact he
     | true => rw [hd] at he; exact hno (HD e he)
  case load t x =>
   unfold kc at he ⊢
   simp only [jg] at he ⊢
   rw [hev]
   cases hv : AS.ev C ⟨nt, tm, sg, kl⟩ x <;> rw [hv] at he <;> try exact he
   . rename_i i off
     have hi : i ∈ e.rd := by
      refine (?_ : a6 (fun e : Ef => i ∈ e.rd) _) e he
      split
      . exact a6.fail
      . simp only
        split
        . refine a6.bind (dq _ _ _ _) fun v _ => ?_
          rw [force_eq]; exact a6.ret (by simp)
        . exact a6.fail
     simp only [hr i hi]
     exact he
   . rename_i i idx off
     have hi : i ∈ e.rd := by
      refine (?_ : a6 (fun e : Ef => i ∈ e.rd) _) e he
      split
      . exact a6.fail
      . simp only
        split
        . refine a6.opt fun _ _ => a6.when fun _ => a6.bind (dq _ _ _ _) fun v _ => ?_
          rw [force_eq]; exact a6.ret (by simp)
        . exact a6.fail
     simp only [hr i hi]
     exact he
  case store t x y => exact hno (HI e he)
  case nilCheck x => exact he
  case binOp b t x y u => exact he
  case unOp b t x => exact he
  case convert a b x =>
   rw [hev]
   have hmk : (ic C ⟨nt, tm, sg, kl⟩ a b (AS.ev C ⟨nt, tm, sg, kl⟩ x) (fun b => b = e) → ic C ⟨nt, tm, sg', kl⟩ a b (AS.ev C ⟨nt, tm, sg, kl⟩ x) (fun b => b = e)) → l5 C ⟨nt, tm, sg', kl⟩ a b (AS.ev C ⟨nt, tm, sg, kl⟩ x) (fun b => b = e) := fun hk => by
    unfold l5 at he ⊢
    cases hv : AS.ev C ⟨nt, tm, sg, kl⟩ x <;> rw [hv] at he hk <;> try exact hk he
    rename_i i
    simp only at he ⊢
    cases hb : Nat.beq a b with
    | false => rw [hb] at he; exact hk he
    | true =>
      rw [hb] at he
      refine hno ((?_ : a6 (fun e : Ef => quiet e = false) _) e he)
      simp only [cond_true]
      split
      . split
        . split
          . exact a6.ret rfl
          . exact a6.fail
        . exact a6.fail
      . exact a6.fail
   refine hmk fun he => ?_
   have hc : ∀ v, elems ⟨nt, tm, sg', kl⟩ v = elems ⟨nt, tm, sg, kl⟩ v → ic C ⟨nt, tm, sg', kl⟩ a b v = ic C ⟨nt, tm, sg, kl⟩ a b v := fun v hel => by
    unfold ic
    repeat' (first
     | rfl
     | (simp only [hel]; done)
     | split)
   generalize AS.ev C ⟨nt, tm, sg, kl⟩ x = v at he ⊢
   rw [hc v (ym fun i hv => ?_)]
   . exact he
   subst hv
   refine hr i ?_
   refine (?_ : a6 (fun e : Ef => i ∈ e.rd) _) e he
   unfold ic
   split <;> first
    | exact a6.fail
    | contradiction
    | skip
   split
   . exact a6.fail
   . refine a6.bind (kO _ _) fun r hr' => ?_
     have := D2 r (hr' _ rfl) i rfl
     obtain ⟨sz, l, rd⟩ := r
     simp only at this
     subst this
     exact a6.when fun _ => a6.ex fun _ => a6.az fun _ => a6.ret (by simp)
   . exact a6.fail
  case makeInterface t x => exact he
  case makeFunc fn a b => rw [hevs, hevs]; exact he
  case makeSlice t x y => exact hno (HF e he)
  case slice t x lo hi mx =>
   unfold me at he ⊢
   rw [hev]
   simp only [hrg, hev] at he ⊢
   generalize AS.ev C ⟨nt, tm, sg, kl⟩ x = v at he ⊢
   by_cases hv : ∃ i, v = .buf i
   . obtain ⟨i, rfl⟩ := hv
     refine hno ((?_ : a6 (fun e : Ef => quiet e = false) _) e he)
     split <;> first
      | exact a6.fail
      | contradiction
      | skip
     all_goals
      split
      . exact a6.fail
      . split
        . split
          . exact a6.when fun _ => a6.az fun _ => a6.ret rfl
          . exact a6.fail
        . exact a6.fail
   . by_cases hp : ∃ i a, v = .ptr i a
     . obtain ⟨i, a, rfl⟩ := hp
       refine hno ((?_ : a6 (fun e : Ef => quiet e = false) _) e he)
       split <;> first
        | exact a6.fail
        | contradiction
        | skip
       split
       . exact a6.fail
       . split
         . exact a6.when fun _ => a6.opt fun _ _ => a6.bind (eh _ _ _ _ _) fun _ _ => by rw [oX]; exact a6.ret rfl
         . exact a6.fail
     cases v <;> first
      | exact absurd ⟨_, rfl⟩ hv
      | exact absurd ⟨_, _, rfl⟩ hp
      | skip
     all_goals (generalize (C.ti t).k = k at he ⊢; cases k <;> cases mx <;> exact he)
  case fieldAddr t x f => exact he
  case field t x f => exact he
  case indexAddr t x y =>
   unfold mb at he ⊢
   simp only [jg] at he ⊢
   rw [hev, hev]
   generalize AS.ev C ⟨nt, tm, sg, kl⟩ x = v at he ⊢
   generalize AS.ev C ⟨nt, tm, sg, kl⟩ y = u at he ⊢
   by_cases hv : ∃ i, v = .buf i
   . obtain ⟨i, rfl⟩ := hv
     have hi : i ∈ e.rd := by
      refine (?_ : a6 (fun e : Ef => i ∈ e.rd) _) e he
      split <;> first
       | exact a6.fail
       | contradiction
       | skip
      rename_i h
      cases h
      split
      . exact a6.fail
      . split
        . exact a6.when fun _ => a6.az fun _ => a6.ret (by simp)
        . exact a6.fail
     generalize (C.ti t).k = k at he ⊢
     cases k <;> cases u <;> simp only [hr i hi] <;> exact he
   . cases v <;> first
       | exact absurd ⟨_, rfl⟩ hv
       | skip
     all_goals (generalize (C.ti t).k = k at he ⊢; cases k <;> cases u <;> exact he)
  case index t x y => exact he
  case typeAssert x _ t ok => exact he
  case extract x i => exact he
  case range t x => exact hno (HB e he)
  case makeMap t r => cases r with
   | none => exact hno (HE e he)
   | some r => exact he
  case mapUpdate t m x y => exact hno (HH e he)
  case mapEntry t m x => exact hno (HG e he)
  case entryStore t m b y => exact hno (HA e he)
  case lookup t m x ok =>
   unfold iF dS at he ⊢
   rw [hev, hev]
   obtain ⟨p, hp, he⟩ := nZ.1 he
   refine nZ.2 ⟨p, hp, ?_⟩
   generalize AS.ev C ⟨nt, tm, sg, kl⟩ m = v at he ⊢
   cases v <;> try exact he
   rename_i i
   have hi : i ∈ e.rd := by
    refine (?_ : a6 (fun e : Ef => i ∈ e.rd) _) e he
    simp only
    split
    . rw [force_eq]
      refine a6.when fun _ => a6.when fun _ => ?_
      split
      . exact a6.cX (fun _ _ => a6.ret (by simp)) (fun _ => a6.ret (by simp))
      . exact a6.ret (by simp)
    . exact a6.fail
   simp only [hr i hi]
   exact he
  case entry x =>
   unfold ma at he ⊢
   simp only [jg] at he ⊢
   rw [hev]
   generalize AS.ev C ⟨nt, tm, sg, kl⟩ x = v at he ⊢
   cases v <;> try exact he
   rename_i k off
   cases off with
   | succ off => exact he
   | zero =>
     have hk : k ∈ e.rd ∧ ∀ i bs ck left last, ax sg k = .miter (.map i) bs ck left last → i ∈ e.rd := by
      refine (?_ : a6 (fun e : Ef => k ∈ e.rd ∧ ∀ i bs ck left last, ax sg k = .miter (.map i) bs ck left last → i ∈ e.rd) _) e he
      simp only
      split
      . rename_i i bs ck left last hs
        split
        . refine a6.az fun _ => a6.opt fun _ _ => a6.ret ⟨by simp, fun i' bs' ck' left' last' h' => ?_⟩
          rw [hs] at h'
          injection h' with h' _
          injection h' with h'
          subst h'
          simp
        . exact a6.fail
      . exact a6.fail
     simp only [hr k hk.1]
     have hk2 := hk.2
     simp only at he
     generalize ax sg k = ob at he hk2 ⊢
     cases ob <;> try exact he
     rename_i m bs ck left last
     cases m <;> try exact he
     rename_i i
     simp only [hr i (hk2 i bs ck left last rfl)]
     exact he
  case next x b =>
   unfold mc at he ⊢
   rw [hev]
   cases hv : AS.ev C ⟨nt, tm, sg, kl⟩ x <;> rw [hv] at he <;> try exact he
   rename_i i off
   cases off with
   | succ off => cases b <;> exact he
   | zero => cases b with
     | false => exact he
     | true =>
       have hi : i ∈ e.rd := by
        refine (?_ : a6 (fun e : Ef => i ∈ e.rd) _) e he
        simp only
        split
        . exact a6.bG (fun _ => a6.opt fun _ _ => a6.az fun _ => a6.ret (by simp)) (fun _ => a6.ret (by simp))
        . exact a6.fail
       simp only [hr i hi]
       exact he
  case call c =>
   unfold m9 at he ⊢
   have htg : target C ⟨nt, tm, sg', kl⟩ c = target C ⟨nt, tm, sg, kl⟩ c := BO fun _ _ => rfl
   rw [htg]
   generalize hcal : c.callee = cal at he ⊢
   cases cal
   . -- a function's value
     obtain ⟨p, hp, hc⟩ : ∃ p, target C ⟨nt, tm, sg, kl⟩ c = some p ∧ cS (ec C sg p.1 p.2) (fun b => b = e) := by
      cases ht : target C ⟨nt, tm, sg, kl⟩ c with
      | none => rw [ht] at he; exact he.elim
      | some p => rw [ht] at he; exact ⟨p, rfl, he⟩
     obtain ⟨pre, h1, h2⟩ := xJ hc
     rw [hp]
     exact xI (yz h1 hq hr) h2
   . rename_i r m
     simp only at he ⊢
     rw [hev, hevs]
     generalize AS.ev C ⟨nt, tm, sg, kl⟩ r = v at he ⊢
     cases v <;> try exact he
     obtain ⟨f, hm, hc⟩ := he
     obtain ⟨pre, h1, h2⟩ := xJ hc
     exact ⟨f, hm, xI (yz h1 hq hr) h2⟩
   . rename_i b
     simp only at he ⊢
     rw [hevs]
     rw [nz] at he ⊢
     generalize AS.bo C ⟨nt, tm, sg, kl⟩ c.args.toList = xs at he ⊢
     generalize c.argTypes.toList = ts at he ⊢
     have hbt : a6 (fun e' => quiet e' = true → (∀ r ∈ e'.rd, ax sg' r = ax sg r) → jb C ⟨nt, tm, sg', kl⟩ b ts xs (fun b => b = e')) (jb C ⟨nt, tm, sg, kl⟩ b ts xs) := by
      unfold jb
      split
      . rename_i t x
        intro e he hq hr
        generalize (C.ti t).k = k at he ⊢
        cases k <;> try exact he
        cases x <;> try exact he
        rename_i i _
        have hi : i ∈ e.rd := by
         refine (?_ : a6 (fun e : Ef => i ∈ e.rd) _) e he
         simp only
         split
         . exact a6.ret (by simp)
         . exact a6.fail
        simp only [hr i hi]
        exact he
      . rename_i t t2 x y
        refine fun e he hq _ => (?_ : ∀ {p : Prop}, quiet e = false → p) ((?_ : a6 (fun e : Ef => quiet e = false) _) e he)
        . intro p h; rw [h] at hq; cases hq
        split
        . exact a6.fail
        . exact a6.fail
        . split
          . exact a6.fail
          . exact a6.when fun _ => a6.bind (kO _ _) fun r _ => a6.when fun _ => Hx
        . exact a6.fail
      . rename_i t t2 x y
        refine fun e he hq _ => (?_ : ∀ {p : Prop}, quiet e = false → p) ((?_ : a6 (fun e : Ef => quiet e = false) _) e he)
        . intro p h; rw [h] at hq; cases hq
        split
        . split
          . exact a6.fail
          . split
            . exact a6.bind (kO _ _) fun r _ => a6.when fun _ => a6.ret rfl
            . exact a6.fail
        . exact a6.fail
      . exact fun e he hq _ => absurd hq (by rw [Hz e he]; exact Bool.false_ne_true)
      . exact fun e he _ _ => he
      . exact fun e he _ _ => he
      . exact fun e he _ _ => he
     exact hbt e he hq hr
  all_goals exact he

theorem DC (h : ∀ x ∈ gH o.op, s'.ev C x = s.ev C x) (he : bP C s o (fun b => b = e)) (hq : quiet e = true) (hr : ∀ r ∈ e.rd, ax s'.sg r = ax s.sg r) : bP C s' o (fun b => b = e) := by
 obtain ⟨nt, tm, sg, kl⟩ := s
 obtain ⟨nt', tm', sg', kl'⟩ := s'
 have h1 : bP C ⟨nt', tm', sg, kl'⟩ o (fun b => b = e) := by
  rw [tM (s' := ⟨nt', tm', sg, kl'⟩) (s := ⟨nt, tm, sg, kl⟩) (fun x hx => h x hx) rfl]
  exact he
 exact DD h1 hq hr
end
end Go.VG
namespace Go.VG
open Go

mutual
theorem nN {ks : List Nat} : ∀ {x : V}, x.free ks = true → x.kill ks = x
 | .undef, _ | .int .., _ | .bool _, _ | .str _, _ | .nilptr, _ | .nilIface, _ | .nilFunc, _ | .nilmap, _ | .list .., _ | .box .., _ => by simp [V.kill]
 | .ptr i _, h | .bptr i _ _, h | .buf i, h | .map i, h => by
   simp only [V.free, Bool.not_eq_true'] at h
   simp [V.kill, h]
 | .agg cs, h | .tuple cs, h => by simp [V.kill, pt (by simpa [V.free] using h)]
 | .iface t x, h => by simp [V.kill, nN (by simpa [V.free] using h)]
 | .func fn fs cs, h => by
   simp only [V.free, Bool.and_eq_true] at h
   simp [V.kill, pt h.1, pt h.2]
theorem pt {ks : List Nat} : ∀ {x : List V}, V.jy ks x = true → V.dG ks x = x
 | [], _ => by simp [V.dG]
 | c :: cs, h => by
   simp only [V.jy, Bool.and_eq_true] at h
   simp [V.dG, nN h.1, pt h.2]
end
mutual
theorem rv {ks : List Nat} : ∀ {x : V}, (x.kill ks).ku = true → x.kill ks = x
 | .undef, _ | .int .., _ | .bool _, _ | .str _, _ | .nilptr, _ | .nilIface, _ | .nilFunc, _ | .nilmap, _ | .list .., _ | .box .., _ => by simp [V.kill]
 | .ptr i _, h | .bptr i _ _, h | .buf i, h | .map i, h => by
   cases hm : aF i ks with
   | true => simp [V.kill, hm, V.ku] at h
   | false => simp [V.kill, hm]
 | .agg cs, h | .tuple cs, h => by
   simp only [V.kill, V.ku] at h
   simp [V.kill, px h]
 | .iface t x, h => by
   simp only [V.kill, V.ku] at h
   simp [V.kill, rv h]
 | .func fn fs cs, h => by
   simp only [V.kill, V.ku, Bool.and_eq_true] at h
   simp [V.kill, px h.1, px h.2]
theorem px {ks : List Nat} : ∀ {x : List V}, V.jP (V.dG ks x) = true → V.dG ks x = x
 | [], _ => by simp [V.dG]
 | c :: cs, h => by
   simp only [V.dG, V.jP, Bool.and_eq_true] at h
   simp [V.dG, rv h.1, px h.2]
end

theorem pd : ∀ (sg : List O) (i : Nat), ax sg i = sg.getD i .dead
 | [], i => by simp [ax]
 | o :: os, 0 => by simp [ax]
 | o :: os, i + 1 => by simp [ax, pd os i]

theorem tb : ∀ {up : List (Nat × O)} {rd : List Nat}, oP up rd = true → ∀ p ∈ up, p.1 ∉ rd
 | [], _, _, p, h => by simp at h
 | (i, o) :: r, rd, h, p, hp => by
   simp only [oP, Bool.and_eq_true, Bool.not_eq_true'] at h
   rcases List.mem_cons.1 hp with rfl | hp
   . exact mA.1 h.1
   . exact tb h.2 p hp
theorem sX : ∀ {l : List Nat} {n : Nat}, oO l n = true → ∀ i ∈ l, i < n
 | [], _, _, i, h => by simp at h
 | k :: ks, n, h, i, hi => by
   simp only [oO, Bool.and_eq_true] at h
   rcases List.mem_cons.1 hi with rfl | hi
   . exact Nat.le_of_ble_eq_true h.1
   . exact sX h.2 i hi
theorem C4 : ∀ {up : List (Nat × O)} {sg : List O} {r : Nat}, (∀ p ∈ up, p.1 ≠ r) → (cZ sg up)[r]? = sg[r]?
 | [], sg, r, _ => rfl
 | (i, o) :: up, sg, r, h => by
   simp only [cZ]
   rw [C4 fun p hp => h p (List.mem_cons_of_mem _ hp), gD, List.getElem?_set_ne (h (i, o) (by simp))]

structure eN (s t : AS) : Prop where
 nt : s.nt = t.nt
 tm : ∀ u, lk s.tm u = lk t.tm u
 sg : s.sg = t.sg
 kl : ∀ i, aF i s.kl = true ↔ aF i t.kl = true
theorem eN.refl (s : AS) : eN s s := ⟨rfl, fun _ => rfl, rfl, fun _ => Iff.rfl⟩
theorem eN.symm {s t : AS} (h : eN s t) : eN t s := ⟨h.nt.symm, fun u => (h.tm u).symm, h.sg.symm, fun i => (h.kl i).symm⟩
theorem eN.trans {s t u : AS} (h : eN s t) (k : eN t u) : eN s u := ⟨h.nt.trans k.nt, fun x => (h.tm x).trans (k.tm x), h.sg.trans k.sg, fun i => (h.kl i).trans (k.kl i)⟩

theorem iL (s : AS) (d : Option Nat) (e : Ef) (t : Nat) : lk (s.app d e).tm t = if d = some t then e.v else (lk s.tm t).kill e.ks := by
 cases d with
 | none => simp only [AS.app]; rw [ki]; simp
 | some d =>
   simp only [AS.app, lk]
   rw [ki]
   by_cases h : d = t
   . subst h; simp
   . have : Nat.beq d t = false := by
       cases hb : Nat.beq d t with
       | false => rfl
       | true => exact absurd (Nat.eq_of_beq_eq_true hb) h
     simp [this, h]
theorem jq (s : AS) (d : Option Nat) (e : Ef) : (s.app d e).sg = fM (cZ (gT e.ks s.sg) e.up) e.nw := rfl
theorem fF {s : AS} {d : Option Nat} {e : Ef} (h : quiet e = true) : (s.app d e).sg = s.sg := by
 obtain ⟨h1, h2, h3⟩ := lC.1 h
 rw [jq, h1, h2, h3]; rfl
theorem eN.app {s t : AS} (h : eN s t) (d : Option Nat) (e : Ef) : eN (s.app d e) (t.app d e) := by
 refine ⟨h.nt, fun u => ?_, ?_, fun i => ?_⟩
 . rw [iL, iL, h.tm]
 . rw [jq, jq, h.sg]
 . simp only [AS.app, gK, h.kl]
theorem z9 {s : AS} {d : Option Nat} {e : Ef} {r : Nat} (hr : r < s.sg.length) (hu : ∀ p ∈ e.up, p.1 ≠ r) : ax (s.app d e).sg r = (ax s.sg r).kill e.ks := by
 rw [pd, pd, jq, sW, List.getD_eq_getElem?_getD, List.getD_eq_getElem?_getD, List.getElem?_append_left (by rw [mr, pr]; simpa using hr), C4 hu, pr,
  List.getElem?_map, List.getElem?_eq_getElem hr]
 rfl

section
variable {C : Ctx} {ops : List Oper}

structure dL (C : Ctx) (ops : List Oper) (o : Oper) (s : AS) (r : Rc) : Prop where
 ef : stepT C ops s o (fun b => b = r.e)
 d : r.d = o.dst
 us : r.us = looks ops o
 ov : r.ov = s.bo C (gH o.op)
 oo : (jI o).1 = 1 ∨ r.oo = iI s.sg r.e.rd
 lu : r.lu = jI o
 n : quiet r.e = false → r.n = s.sg.length
 dok : cT s o.dst = true

theorem wW : ∀ {l : List Operand} {t : Nat}, Operand.tmp t ∈ l → t ∈ tmpsOf l
 | [], _, h => by simp at h
 | x :: xs, t, h => by
   rcases List.mem_cons.1 h with h | h
   . subst h; simp [tmpsOf]
   . have := wW h
     cases x <;> simp [tmpsOf, this]
theorem yE {s s' : AS} {x : Operand} (h : ∀ t, x = .tmp t → lk s'.tm t = lk s.tm t) : s'.ev C x = s.ev C x := by
 cases x with
 | tmp t => exact h t rfl
 | _ => rfl
theorem za {sg sg' : List O} : ∀ {l : List Nat}, (∀ r ∈ l, ax sg' r = ax sg r) → iI sg' l = iI sg l
 | [], _ => rfl
 | r :: rs, h => by simp only [iI, h r (by simp), za (l := rs) fun x hx => h x (List.mem_cons_of_mem _ hx)]

theorem JZ {s s' : AS} {o : Oper} {e : Ef} (hg : ∀ t ∈ nG ops o.guard, lk s'.tm t = lk s.tm t) (ho : bP C s o (fun b => b = e) → bP C s' o (fun b => b = e)) (h : stepT C ops s o (fun b => b = e)) : stepT C ops s' o (fun b => b = e) := by
 unfold stepT at h ⊢
 cases hgd : o.guard with
 | none => rw [hgd] at h; exact ho h
 | some p =>
   obtain ⟨j, want⟩ := p
   rw [hgd] at h hg
   simp only at h ⊢
   cases hd : bM ops j with
   | none => rw [hd] at h; exact h
   | some t =>
     rw [hd] at h
     simp only at h ⊢
     rw [hg t (by simp [nG, hd])]
     generalize lk s.tm t = v at h ⊢
     cases v <;> try exact h
     rotate_left
     . rename_i l
       cases l with
       | nil => exact h
       | cons _ _ => exact h
     rename_i b
     cases want <;> cases b <;> simp only [cond_true, cond_false, j8, bG] at h ⊢ <;> first
      | exact h
      | exact ho h

theorem Bz {s : AS} {o : Oper} {e : Ef} (h : stepT C ops s o (fun b => b = e)) : ∀ t ∈ nG ops o.guard, (∃ b, lk s.tm t = .bool b) ∨ lk s.tm t = .tuple [] := by
 intro t ht
 unfold stepT at h
 cases hgd : o.guard with
 | none => rw [hgd] at ht; simp [nG] at ht
 | some p =>
   obtain ⟨j, want⟩ := p
   rw [hgd] at h ht
   simp only [nG] at ht
   simp only at h
   cases hd : bM ops j with
   | none => rw [hd] at ht; simp at ht
   | some t' =>
     rw [hd] at ht h
     simp only [List.mem_singleton] at ht
     subst ht
     simp only at h
     generalize lk s.tm t = v at h
     cases v <;> first
      | exact .inl ⟨_, rfl⟩
      | exact h.elim
      | (rename_i l; cases l with
         | nil => exact .inr rfl
         | cons _ _ => exact h.elim)

theorem dL.loc {s s' : AS} {o : Oper} {r : Rc} (h : dL C ops o s r) (hnt : s'.nt = s.nt) (hl : ∀ t ∈ looks ops o, lk s'.tm t = lk s.tm t) (hsg : s'.sg = s.sg ∨ (quiet r.e = true ∧ ∀ i ∈ r.e.rd, ax s'.sg i = ax s.sg i)) :
   dL C ops o s' r := by
 have hev : ∀ x ∈ gH o.op, s'.ev C x = s.ev C x := fun x hx => yE fun t ht => hl t (List.mem_append_left _ (wW (ht ▸ hx)))
 refine ⟨?_, h.d, h.us, ?_, ?_, h.lu, fun hq => ?_, ?_⟩
 . refine JZ (fun t ht => hl t (List.mem_append_right _ ht)) (fun he => ?_) h.ef
   rcases hsg with hsg | ⟨hq, hr⟩
   . rw [tM hev hsg]; exact he
   . exact DC hev he hq hr
 . rw [h.ov, jx hev]
 . refine h.oo.imp id fun hoo => ?_
   rw [hoo]
   rcases hsg with hsg | ⟨_, hr⟩
   . rw [hsg]
   . exact (za hr).symm
 . rcases hsg with hsg | ⟨hq', _⟩
   . rw [hsg]; exact h.n hq
   . rw [hq'] at hq; cases hq
 . have := h.dok
   cases hd : o.dst with
   | none => rfl
   | some d => rw [hd] at this; simp only [cT] at this ⊢; rw [hnt]; exact this

theorem dL.eqv {s s' : AS} {o : Oper} {r : Rc} (h : dL C ops o s r) (e : eN s s') : dL C ops o s' r :=
 h.loc e.nt.symm (fun t _ => (e.tm t).symm) (.inl e.sg.symm)

theorem yW {ks : List Nat} : ∀ {l : List V}, V.jy ks l = true → ∀ x ∈ l, x.free ks = true
 | [], _, x, h => by simp at h
 | c :: cs, h, x, hx => by
   simp only [V.jy, Bool.and_eq_true] at h
   rcases List.mem_cons.1 hx with rfl | hx
   . exact h.1
   . exact yW h.2 x hx
theorem Bw : ∀ {l : List V}, V.jP l = true → ∀ x ∈ l, x.ku = true
 | [], _, x, h => by simp at h
 | c :: cs, h, x, hx => by
   simp only [V.jP, Bool.and_eq_true] at h
   rcases List.mem_cons.1 hx with rfl | hx
   . exact h.1
   . exact Bw h.2 x hx
theorem tN {s : AS} : ∀ {l : List Operand} {x : Operand}, x ∈ l → s.ev C x ∈ s.bo C l
 | [], _, h => by simp at h
 | y :: ys, x, h => by
   rcases List.mem_cons.1 h with rfl | h
   . simp [AS.bo]
   . simp only [AS.bo, List.mem_cons]; exact .inr (tN h)
theorem yX {ks : List Nat} {sg : List O} : ∀ {l : List Nat}, lg ks (iI sg l) = true → ∀ i ∈ l, (ax sg i).kill ks = ax sg i
 | [], _, i, h => by simp at h
 | k :: l, h, i, hi => by
   simp only [iI] at h
   have hrest : lg ks (iI sg l) = true := by
    cases ho : ax sg k <;> rw [ho] at h <;> simp only [lg, Bool.and_eq_true] at h <;> first | exact h | exact h.2
   rcases List.mem_cons.1 hi with rfl | hi
   . cases ho : ax sg i <;> try rfl
     all_goals
      rw [ho] at h
      simp only [lg, Bool.and_eq_true] at h
      first
      | (simp only [O.kill, pt h.1]; done)
      | (simp only [O.kill, nN h.1]; done)
   . exact yX hrest i hi
theorem Bx {ks : List Nat} {sg sg' : List O} : ∀ {l : List Nat}, lH (iI sg' l) = true → ∀ i ∈ l, ax sg' i = (ax sg i).kill ks → ax sg' i = ax sg i
 | [], _, i, h, _ => by simp at h
 | k :: l, h, i, hi, he => by
   simp only [iI] at h
   have hrest : lH (iI sg' l) = true := by
    cases ho : ax sg' k <;> rw [ho] at h <;> simp only [lH, Bool.and_eq_true] at h <;> first | exact h | exact h.2 | cases h
   rcases List.mem_cons.1 hi with rfl | hi
   . cases ho : ax sg i <;> rw [ho] at he <;> try exact he
     all_goals
      simp only [O.kill] at he
      rw [he] at h
      simp only [lH, Bool.and_eq_true] at h
      first
      | (rw [he, px h.1]; done)
      | (rw [he, rv h.1]; done)
   . exact Bx hrest i hi he

theorem tG {d : Option Nat} {us : List Nat} (h : oY d us = true) {t : Nat} (ht : t ∈ us) : d ≠ some t := by
 intro e
 subst e
 simp only [oY, Bool.not_eq_true'] at h
 exact mA.1 h ht

theorem yq : ∀ {a b : List Nat}, qW a b = true → a = b
 | [], [], _ => rfl
 | x :: xs, y :: ys, h => by
   simp only [qW, Bool.and_eq_true] at h
   rw [Nat.eq_of_beq_eq_true h.1, yq h.2]
 | [], _ :: _, h => by cases h
 | _ :: _, [], h => by cases h
theorem Ak {o : Oper} (h : (jI o).1 = 1) : ∃ t m x, o.guard = none ∧ o.op = .lookup t (.tmp m) (.tmp x) false ∧ jI o = (1, [t, m, x]) := by
 unfold jI at h ⊢
 split at h <;> first
  | (rename_i t m x hg ho; exact ⟨t, m, x, hg, ho, rfl⟩)
  | (cases h; done)
theorem HJ {o : Oper} (h : (jI o).1 = 2) : ∃ t m x, o.guard = none ∧ o.op = .mapEntry t (.tmp m) (.tmp x) ∧ jI o = (2, [t, m, x]) := by
 unfold jI at h ⊢
 split at h <;> first
  | (rename_i t m x hg ho; exact ⟨t, m, x, hg, ho, rfl⟩)
  | (cases h; done)
theorem yQ {es : List (V × Int)} {x y : V} {q : Int} (h : bE es x = none) : bE (es ++ [(y, q)]) x = cond (ij y x) (some (es.length, q)) none := by
 induction es with
 | nil => simp only [List.nil_append, bE]; cases ij y x <;> rfl
 | cons p es ih =>
   obtain ⟨z, r⟩ := p
   simp only [List.cons_append, bE] at h ⊢
   cases hz : ij z x with
   | true => rw [hz] at h; simp at h
   | false =>
     rw [hz] at h
     simp only [cond_false] at h ⊢
     have hn : bE es x = none := by
      cases he : bE es x with
      | none => rfl
      | some p => rw [he] at h; cases h
     rw [ih hn]
     cases ij y x <;> simp
theorem FQ {es : List (V × Int)} {x y : V} (h : bE es x = none) : getM (es ++ [(y, 0)]) x = getM es x := by
 unfold getM
 rw [yQ h, h]
 cases ij y x <;> rfl
theorem FR {sg : List O} {i : Nat} {o : O} (h : i < sg.length) : ax (ff sg i o) i = o := by
 have : ∀ (sg : List O) (i : Nat), i < sg.length → ax (ff sg i o) i = o := by
  intro sg
  induction sg with
  | nil => intro i h; simp at h
  | cons a r ih =>
    intro i h
    cases i with
    | zero => rfl
    | succ i => exact ih i (by simpa using h)
 exact this sg i h
theorem dL.look {s : AS} {o : Oper} {r : Rc} (h : dL C ops o s r) (hl : (jI o).1 = 1) : quiet r.e = true ∧ ∀ i ∈ r.e.rd, ∃ ag sh es bs ck, ax s.sg i = .map ag sh es bs ck := by
 obtain ⟨t, m, x, hg, ho, _⟩ := Ak hl
 have ef : iF C s t (.tmp m) (.tmp x) false (fun b => b = r.e) := by
  have := h.ef
  unfold stepT at this
  rw [hg] at this
  simp only [bP, ho] at this
  exact this
 unfold iF dS at ef
 obtain ⟨p, hp, ef⟩ := nZ.1 ef
 cases hm : AS.ev C s (.tmp m) <;> rw [hm] at ef <;> try exact ef.elim
 rename_i i
 simp only at ef
 cases hs : ax s.sg i <;> rw [hs] at ef <;> try exact ef.elim
 rename_i ag sh es bs ck
 simp only [force_eq] at ef
 cases hw : (qI ag p.1 && og sh p.2) with
 | false => rw [hw] at ef; exact ef.elim
 | true =>
   cases hf : gQ ag sh (AS.ev C s (.tmp x)) with
   | false => rw [hw, hf] at ef; exact ef.elim
   | true =>
     rw [hw, hf] at ef
     have ef : (⟨.int .i64 (getM es (AS.ev C s (.tmp x))), [], [], [], [i]⟩ : Ef) = r.e := ef
     rw [← ef]
     refine ⟨rfl, fun k hk => ?_⟩
     simp at hk
     subst hk
     exact ⟨_, _, _, _, _, hs⟩
theorem dL.pair {s : AS} {oj oi : Oper} {rj ri : Rc} (hj : dL C ops oj s rj) (hi : dL C ops oi s ri) (h : pO rj ri = true) (a2 : oY oi.dst (looks ops oj) = true) : quiet rj.e = true ∧ ri.e.ks = [] ∧ dL C ops oj (s.app oi.dst ri.e) rj := by
 unfold pO at h
 simp only [Bool.and_eq_true] at h
 rw [hj.lu, hi.lu] at h
 obtain ⟨l1, l2, l3⟩ := h
 obtain ⟨t, m, x, hgj, hoj, ej⟩ := Ak (Nat.eq_of_beq_eq_true l1)
 obtain ⟨t', m', x', hgi, hoi, ei⟩ := HJ (Nat.eq_of_beq_eq_true l2)
 rw [ej, ei] at l3
 have l3 := yq l3
 simp only [List.cons.injEq, and_true] at l3
 obtain ⟨rfl, rfl, rfl⟩ := l3
 have efj : iF C s t (.tmp m) (.tmp x) false (fun b => b = rj.e) := by
  have := hj.ef
  unfold stepT at this
  rw [hgj] at this
  simp only [bP, hoj] at this
  exact this
 have efi : jw C s t (.tmp m) (.tmp x) (fun b => b = ri.e) := by
  have := hi.ef
  unfold stepT at this
  rw [hgi] at this
  simp only [bP, hoi] at this
  exact this
 unfold iF dS at efj
 obtain ⟨p, hp, efj⟩ := nZ.1 efj
 unfold jw dS at efi
 obtain ⟨p', hp', efi⟩ := nZ.1 efi
 rw [hp] at hp'; cases hp'
 have hlm : Operand.tmp m ∈ gH oj.op := by rw [hoj]; simp [gH]
 have hlx : Operand.tmp x ∈ gH oj.op := by rw [hoj]; simp [gH]
 cases hm : AS.ev C s (.tmp m) <;> rw [hm] at efj efi <;> try exact efj.elim
 rename_i i
 simp only at efj efi
 cases hs : ax s.sg i <;> rw [hs] at efj efi <;> try exact efj.elim
 rename_i ag sh es bs ck
 simp only [force_eq] at efj efi
 have hil : i < s.sg.length := (dO hs (by simp)).2
 cases hw : (qI ag p.1 && og sh p.2) with
 | false => rw [hw] at efj; exact efj.elim
 | true =>
   cases hf : gQ ag sh (AS.ev C s (.tmp x)) with
   | false => rw [hw, hf] at efj; exact efj.elim
   | true =>
     rw [hw, hf] at efj efi
     have efj : (⟨.int .i64 (getM es (AS.ev C s (.tmp x))), [], [], [], [i]⟩ : Ef) = rj.e := efj
     have hri : ∃ v es' bs' ck', ri.e = ⟨v, [], [(i, .map ag sh es' bs' ck')], [], [i]⟩ ∧ getM es' (AS.ev C s (.tmp x)) = getM es (AS.ev C s (.tmp x)) := by
      obtain ⟨_, k1, k2⟩ := efi
      cases hfd : bE es (AS.ev C s (.tmp x)) with
      | some r =>
        have := k1 r hfd
        exact ⟨_, _, _, _, (show _ = ri.e from this).symm, rfl⟩
      | none =>
        have := k2 hfd
        exact ⟨_, _, _, _, (show _ = ri.e from this).symm, FQ hfd⟩
     obtain ⟨v, es', bs', ck', hri, hget⟩ := hri
     have hks : ri.e.ks = [] := by rw [hri]
     have hlk : ∀ u ∈ looks ops oj, lk (s.app oi.dst ri.e).tm u = lk s.tm u := fun u hu => by
      rw [iL, if_neg (tG a2 hu), hks, fA]
     have hev : ∀ y ∈ gH oj.op, (s.app oi.dst ri.e).ev C y = s.ev C y := fun y hy => yE fun u hu => hlk u (List.mem_append_left _ (wW (hu ▸ hy)))
     refine ⟨by rw [← efj]; rfl, hks, ?_⟩
     have hsg : (s.app oi.dst ri.e).sg = ff s.sg i (.map ag sh es' bs' ck') := by
      rw [hri]
      simp [AS.app, gT, cZ, fM]
     refine ⟨?_, hj.d, hj.us, ?_, .inl (Nat.eq_of_beq_eq_true l1), hj.lu, fun hq => ?_, ?_⟩
     . unfold stepT
       rw [hgj]
       simp only [bP, hoj]
       unfold iF dS
       refine nZ.2 ⟨p, hp, ?_⟩
       rw [hev _ hlm, hm]
       simp only
       rw [hsg, FR hil]
       simp only [force_eq]
       rw [hev _ hlx, hw, hf]
       show (⟨.int .i64 (getM es' (AS.ev C s (.tmp x))), [], [], [], [i]⟩ : Ef) = rj.e
       rw [hget]
       exact efj
     . rw [hj.ov, jx hev]
     . rw [← efj] at hq; cases hq
     . have := hj.dok
       cases hd : oj.dst with
       | none => rfl
       | some d => rw [hd] at this; simp only [cT] at this ⊢; exact this
theorem dL.swap {s : AS} {oj oi : Oper} {rj ri : Rc} (hj : dL C ops oj s rj) (hi : dL C ops oi (s.app oj.dst rj.e) ri) (h : indep rj ri = true) :
   dL C ops oi s ri ∧ dL C ops oj (s.app oi.dst ri.e) rj ∧ eN ((s.app oi.dst ri.e).app oj.dst rj.e) ((s.app oj.dst rj.e).app oi.dst ri.e) := by
 unfold indep at h
 simp only [Bool.and_eq_true] at h
 obtain ⟨⟨⟨a1, a2⟩, a3⟩, h⟩ := h
 rw [hj.d, hi.us] at a1
 rw [hi.d, hj.us] at a2
 rw [hi.d, hj.d] at a3
 have hne : ∀ t, oj.dst = some t → oi.dst = some t → False := fun t h1 h2 => by
  rw [h1, h2] at a3; simp [yi] at a3
 -- what i looks at, ahead of j
 have lki : ∀ t ∈ looks ops oi, lk (s.app oj.dst rj.e).tm t = (lk s.tm t).kill rj.e.ks := fun t ht => by
  rw [iL, if_neg (tG a1 ht)]
 have lkj : ∀ t ∈ looks ops oj, lk (s.app oi.dst ri.e).tm t = (lk s.tm t).kill ri.e.ks := fun t ht => by
  rw [iL, if_neg (tG a2 ht)]
 have hfin : (rj.e.ks = [] ∨ ri.e.ks = []) → rj.e.v.kill ri.e.ks = rj.e.v → ri.e.v.kill rj.e.ks = ri.e.v → ((s.app oi.dst ri.e).app oj.dst rj.e).sg = ((s.app oj.dst rj.e).app oi.dst ri.e).sg →
    eN ((s.app oi.dst ri.e).app oj.dst rj.e) ((s.app oj.dst rj.e).app oi.dst ri.e) := fun hks hv1 hv2 hsg => by
  refine ⟨rfl, fun t => ?_, hsg, fun i => by simp only [AS.app, gK]; exact or_left_comm⟩
  rw [iL, iL, iL, iL]
  by_cases e1 : oj.dst = some t
  . rw [if_pos e1, if_pos e1, if_neg (fun e2 => hne t e1 e2), hv1]
  . rw [if_neg e1, if_neg e1]
    by_cases e2 : oi.dst = some t
    . rw [if_pos e2, if_pos e2, hv2]
    . rw [if_neg e2, if_neg e2]
      rcases hks with hks | hks <;> rw [hks, fA, fA]
 cases hpl : pO rj ri with
 | true =>
   have hqj : quiet rj.e = true := by
    have hp2 := hpl
    unfold pO at hp2
    simp only [Bool.and_eq_true] at hp2
    rw [hj.lu] at hp2
    exact (hj.look (Nat.eq_of_beq_eq_true hp2.1)).1
   obtain ⟨j1, j2, j3⟩ := lC.1 hqj
   have hsi : dL C ops oi s ri := hi.loc rfl (fun t ht => by rw [lki t ht, j1, fA]) (.inl (fF hqj).symm)
   rw [← hi.d] at a2
   obtain ⟨_, i1, hsj⟩ := hj.pair hsi hpl (hi.d ▸ a2)
   refine ⟨hsi, hsj, hfin (.inl j1) (by rw [i1, fA]) (by rw [j1, fA]) ?_⟩
   rw [fF hqj, jq, jq, fF hqj]
 | false =>
 rw [hpl, Bool.false_or] at h
 cases hqj : quiet rj.e with
 | true =>
   obtain ⟨j1, j2, j3⟩ := lC.1 hqj
   have hsi : dL C ops oi s ri := hi.loc rfl (fun t ht => by rw [lki t ht, j1, fA]) (.inl (fF hqj).symm)
   cases hqi : quiet ri.e with
   | true =>
     obtain ⟨i1, i2, i3⟩ := lC.1 hqi
     refine ⟨hsi, hj.loc rfl (fun t ht => by rw [lkj t ht, i1, fA]) (.inl (fF hqi)), hfin (.inl j1) (by rw [i1, fA]) (by rw [j1, fA]) ?_⟩
     rw [fF hqj, fF hqi, fF hqi, fF hqj]
   | false =>
     rw [hqj, hqi] at h
     simp only [Bool.and_eq_true] at h
     obtain ⟨⟨⟨⟨b1, b2⟩, b3⟩, b4⟩, b5⟩ := h
     rw [hj.ov] at b1
     have hb2 : ∀ r ∈ rj.e.rd, (ax s.sg r).kill ri.e.ks = ax s.sg r := fun r hr => by
      rcases hj.oo with q | q
      . obtain ⟨_, _, _, _, _, hm⟩ := (hj.look q).2 r hr
        rw [hm]; rfl
      . rw [q] at b2; exact yX b2 r hr
     have hn : ri.n = s.sg.length := by rw [hi.n hqi, fF hqj]
     rw [hn] at b5
     refine ⟨hsi, hj.loc rfl (fun t ht => ?_) (.inr ⟨hqj, fun r hr => ?_⟩), hfin (.inl j1) (nN b3) (by rw [j1, fA]) ?_⟩
     . rw [lkj t ht]
       rcases List.mem_append.1 ht with ht | ht
       . have : ∀ (l : List Operand) t, t ∈ tmpsOf l → Operand.tmp t ∈ l := by
           intro l
           induction l with
           | nil => intro t h; simp [tmpsOf] at h
           | cons x xs ih =>
             intro t h
             cases x <;> simp only [tmpsOf, List.mem_cons] at h ⊢ <;> first
              | exact .inr (ih t h)
              | (rcases h with rfl | h
                 . exact .inl rfl
                 . exact .inr (ih t h))
         exact nN (yW b1 _ (tN (this _ _ ht)))
       . rcases Bz hj.ef t ht with ⟨b, hb⟩ | hb <;> rw [hb] <;> simp [V.kill, V.dG]
     . rw [z9 (sX b5 r hr) (fun p hp e => tb b4 p hp (e ▸ hr)), hb2 r hr]
     . rw [fF hqj, jq, jq, fF hqj]
 | false =>
   cases hqi : quiet ri.e with
   | false => rw [hqj, hqi] at h; cases h
   | true =>
     obtain ⟨i1, i2, i3⟩ := lC.1 hqi
     rw [hqj, hqi] at h
     simp only [Bool.and_eq_true] at h
     obtain ⟨⟨⟨⟨b1, b2⟩, b3⟩, b4⟩, b5⟩ := h
     rw [hi.ov] at b1
     have hb2 : ∀ r ∈ ri.e.rd, ax (s.app oj.dst rj.e).sg r = (ax s.sg r).kill rj.e.ks → ax (s.app oj.dst rj.e).sg r = ax s.sg r := fun r hr he => by
      rcases hi.oo with q | q
      . obtain ⟨_, _, _, _, _, hm⟩ := (hi.look q).2 r hr
        rw [hm] at he ⊢
        cases hg : ax s.sg r <;> rw [hg] at he <;> first
         | (cases he; done)
         | exact he
      . rw [q] at b2; exact Bx b2 r hr he
     rw [hj.n hqj] at b5
     have hlk : ∀ t ∈ looks ops oi, lk s.tm t = lk (s.app oj.dst rj.e).tm t := fun t ht => by
      have h1 := lki t ht
      rw [h1]
      refine (rv ?_).symm
      rw [← h1]
      rcases List.mem_append.1 ht with ht | ht
      . have : ∀ (l : List Operand) t, t ∈ tmpsOf l → Operand.tmp t ∈ l := by
          intro l
          induction l with
          | nil => intro t h; simp [tmpsOf] at h
          | cons x xs ih =>
            intro t h
            cases x <;> simp only [tmpsOf, List.mem_cons] at h ⊢ <;> first
             | exact .inr (ih t h)
             | (rcases h with rfl | h
                . exact .inl rfl
                . exact .inr (ih t h))
        exact Bw b1 _ (tN (this _ _ ht))
      . rcases Bz hi.ef t ht with ⟨b, hb⟩ | hb <;> rw [hb] <;> rfl
     refine ⟨hi.loc rfl hlk (.inr ⟨hqi, fun r hr => ?_⟩), hj.loc rfl (fun t ht => by rw [lkj t ht, i1, fA]) (.inl (fF hqi)), hfin (.inr i1) (by rw [i1, fA]) (nN b3) ?_⟩
     . exact (hb2 r hr (z9 (sX b5 r hr) (fun p hp e => tb b4 p hp (e ▸ hr)))).symm
     . show fM (cZ (gT rj.e.ks (s.app oi.dst ri.e).sg) rj.e.up) rj.e.nw = _
       rw [fF hqi, fF hqi]; rfl

def fY (C : Ctx) (ops : List Oper) (f : Nat → Rc) (sN : AS) : List Nat → AS → Prop
 | [], s => eN s sN
 | i :: L, s => ∃ o, ops[i]? = some o ∧ dL C ops o s (f i) ∧ fY C ops f sN L (s.app o.dst (f i).e)

theorem fY.eqv {f : Nat → Rc} {sN : AS} : ∀ {L : List Nat} {s s' : AS}, fY C ops f sN L s → eN s s' → fY C ops f sN L s'
 | [], _, _, h, e => e.symm.trans h
 | _ :: _, _, _, ⟨o, h1, h2, h3⟩, e => ⟨o, h1, h2.eqv e, h3.eqv (e.app _ _)⟩

theorem fY.front {f : Nat → Rc} {sN : AS} {i : Nat} {l2 : List Nat} : ∀ {l1 : List Nat} {s : AS}, fY C ops f sN (l1 ++ i :: l2) s → (∀ j ∈ l1, indep (f j) (f i) = true) → fY C ops f sN (i :: (l1 ++ l2)) s
 | [], _, h, _ => h
 | j :: l1, s, ⟨oj, h1, h2, h3⟩, hi => by
   obtain ⟨oi, k1, k2, k3⟩ := fY.front h3 fun k hk => hi k (List.mem_cons_of_mem _ hk)
   obtain ⟨q1, q2, q3⟩ := h2.swap k2 (hi j (by simp))
   exact ⟨oi, k1, q1, oj, h1, q2, k3.eqv q3.symm⟩
end
end Go.VG
