/-
  A part of the proof.
-/
import Derived.Test.YtllncocibkgjkaaGreatVgO
set_option linter.unusedSimpArgs false
set_option linter.unusedVariables false
namespace Go.VG
open Go

theorem lU {e : Ef} : quiet e = true ↔ e.ks = [] ∧ e.up = [] ∧ e.nw = [] := by
 obtain ⟨v, ks, up, nw, rd⟩ := e
 cases ks <;> cases up <;> cases nw <;> simp [quiet]

mutual
theorem vf : ∀ {x : V} {acc : List Nat} {i : Nat}, i ∈ acc → i ∈ V.names x acc
 | .ptr j _, acc, i, h | .bptr j _ _, acc, i, h | .buf j, acc, i, h | .map j, acc, i, h => by
   simp only [V.names]
   cases aH j acc with
   | true => exact h
   | false => exact List.mem_append_left _ h
 | .agg cs, acc, i, h | .tuple cs, acc, i, h => by simp only [V.names]; exact qc h
 | .iface _ x, acc, i, h => by simp only [V.names]; exact vf h
 | .func _ fs cs, acc, i, h => by simp only [V.names]; exact qc (qc h)
 | .undef, _, _, h | .int .., _, _, h | .bool _, _, _, h | .str _, _, _, h | .list .., _, _, h | .nilptr, _, _, h | .box .., _, _, h | .nilIface, _, _, h | .nilFunc, _, _, h | .nilmap, _, _, h => by simp only [V.names]; exact h
theorem qc : ∀ {x : List V} {acc : List Nat} {i : Nat}, i ∈ acc → i ∈ V.dn x acc
 | [], _, _, h => by simp only [V.dn]; exact h
 | c :: cs, _, _, h => by simp only [V.dn]; exact qc (vf h)
end
theorem Bq {o : O} {acc : List Nat} {i : Nat} (h : i ∈ acc) : i ∈ o.names acc := by
 cases o <;> simp only [O.names] <;> first | exact h | exact qc h | exact vf h

theorem BQ {sg : List O} : ∀ {fuel : Nat} {todo acc : List Nat} {i : Nat}, i ∈ acc → i ∈ reach sg fuel todo acc
 | 0, _, _, _, h => by simp only [reach]; exact h
 | _ + 1, [], _, _, h => by simp only [reach]; exact h
 | fuel + 1, k :: todo, acc, i, h => by simp only [reach]; exact BQ (Bq h)
theorem BR {sg sg' : List O} : ∀ {fuel : Nat} {todo acc : List Nat}, (∀ i ∈ todo, i ∈ acc) → (∀ r ∈ reach sg fuel todo acc, aC sg' r = aC sg r) → reach sg' fuel todo acc = reach sg fuel todo acc
 | 0, _, _, _, _ => by simp only [reach]
 | _ + 1, [], _, _, _ => by simp only [reach]
 | fuel + 1, k :: todo, acc, ht, h => by
   have hk : aC sg' k = aC sg k := h k (BQ (ht k (by simp)))
   simp only [reach] at h ⊢
   rw [hk]
   refine BR (fun i hi => ?_) h
   rcases List.mem_append.1 hi with hi | hi
   . exact Bq (ht i (List.mem_cons_of_mem _ hi))
   . exact List.mem_of_mem_drop hi

theorem xU {sg sg' : List O} : ∀ {th : List Nat}, (∀ r ∈ th, aC sg' r = aC sg r) → gp sg' th = gp sg th
 | [], _ => rfl
 | k :: ks, h => by simp only [gp, h k (by simp), xU (th := ks) fun r hr => h r (List.mem_cons_of_mem _ hr)]
theorem yA {sg sg' : List O} {th0 : List Nat} : ∀ {th : List Nat}, (∀ r ∈ th, aC sg' r = aC sg r) → gu sg' th0 th = gu sg th0 th
 | [], _ => rfl
 | k :: ks, h => by simp only [gu, h k (by simp), yA (th := ks) fun r hr => h r (List.mem_cons_of_mem _ hr)]
theorem AW {sg sg' : List O} {f : Nat → Option Nat} : ∀ {th : List Nat}, (∀ r ∈ th, aC sg' r = aC sg r) → locals sg' f th = locals sg f th
 | [], _ => rfl
 | k :: ks, h => by simp only [locals, h k (by simp), AW (th := ks) fun r hr => h r (List.mem_cons_of_mem _ hr)]
theorem yh {sg sg' : List O} : ∀ {th : List Nat}, (∀ r ∈ th, aC sg' r = aC sg r) → gX sg' th = gX sg th
 | [], _ => rfl
 | k :: ks, h => by simp only [gX, h k (by simp), yh (th := ks) fun r hr => h r (List.mem_cons_of_mem _ hr)]
theorem yb {n n' : Nat} : ∀ {th : List Nat}, cu th n 0 = cu th n' 0
 | [] => rfl
 | k :: ks => by
   funext j
   cases j with
   | zero => simp [cu]
   | succ j => simp only [cu]; exact congrFun (yb (th := ks)) j

section
variable {C : Ctx} {s s' : AS} {o : Oper} {e : Ef}

theorem z7 {sg sg' : List O} {f : FuncId} {args : List V} {pre : Prop} (h : eh C sg f args = some (pre, e)) (hq : quiet e = true) (hr : ∀ r ∈ e.rd, aC sg' r = aC sg r) : eh C sg' f args = some (pre, e) := by
 unfold eh at h ⊢
 rw [lH, lH] at h ⊢
 -- what is read
 have hrd : e.rd = reach sg 256 (V.dn args []) (V.dn args []) := by
  unfold pA at h
  simp only [iX, nR] at h
  cases hc : (g8 (reach sg 256 (V.dn args []) (V.dn args [])) && gp sg (reach sg 256 (V.dn args []) (V.dn args []))) with
  | false => rw [hc] at h; cases h
  | true =>
    rw [hc, cond_true] at h
    split at h
    . cases h
    . cases hcl : gu sg (reach sg 256 (V.dn args []) (V.dn args [])) (reach sg 256 (V.dn args []) (V.dn args [])) with
      | false => rw [hcl] at h; cases h
      | true => rw [hcl] at h; cases h; rfl
    . cases h; rfl
 rw [hrd] at hr
 rw [BR (fun _ h => h) hr]
 generalize reach sg 256 (V.dn args []) (V.dn args []) = th at *
 unfold pA at h ⊢
 simp only [iX, nR] at h ⊢
 rw [xU hr, yA hr, AW hr, yh hr]
 cases hc : (g8 th && gp sg th) with
 | false => rw [hc] at h; cases h
 | true =>
   rw [hc, cond_true] at h
   rw [cond_true]
   generalize C.Γ f (V.gM (fun i => idxOf i th 0) args) (locals sg (fun i => idxOf i th 0) th) = r at h ⊢
   rcases r with _ | ⟨pre', v, _ | σ⟩
   . cases h
   . exact h
   . simp only [Option.some.injEq, Prod.mk.injEq] at h ⊢
     obtain ⟨rfl, rfl⟩ := h
     refine ⟨rfl, ?_⟩
     obtain ⟨q1, q2, q3⟩ := lU.1 hq
     simp only [og, List.map_eq_nil_iff] at q3
     rw [q3]
     simp only [List.length_nil]
     rw [yb (n := sg'.length) (n' := sg.length)]

theorem jP : ∀ {l : List Operand}, (∀ x ∈ l, s'.ev C x = s.ev C x) → s'.bk C l = s.bk C l
 | [], _ => rfl
 | x :: xs, h => by simp only [AS.bk, h x (by simp), jP (l := xs) fun y hy => h y (List.mem_cons_of_mem _ hy)]
theorem ru : ∀ {l : List (Nat × Operand)}, (∀ x ∈ qj l, s'.ev C x = s.ev C x) → fX C s' l = fX C s l
 | [], _ => rfl
 | (i, x) :: r, h => by simp only [fX, h x (by simp [qj]), ru (l := r) fun y hy => h y (by simp [qj, hy])]
theorem z9 {n : Nat} {lo hi : Option Operand} (h1 : ∀ x ∈ kM lo, s'.ev C x = s.ev C x) (h2 : ∀ x ∈ kM hi, s'.ev C x = s.ev C x) : hJ C s' n lo hi = hJ C s n lo hi := by
 cases lo <;> cases hi <;> simp only [hJ] <;> simp only [kM, List.mem_singleton, forall_eq, List.not_mem_nil] at h1 h2 <;> simp only [h1, h2]
theorem yQ {x : V} (h : ∀ i, x = .buf i → aC s'.sg i = aC s.sg i) : elems s' x = elems s x := by
 unfold elems
 cases x <;> try rfl
 rename_i i
 simp only [h i rfl]
theorem Cw {c : Call} (h : ∀ x ∈ gS (.call c), s'.ev C x = s.ev C x) : target C s' c = target C s c := by
 unfold target
 cases hc : c.callee with
 | value f =>
   simp only [gS, hc] at h
   simp only [h f (by simp), jP fun x hx => h x (List.mem_cons_of_mem _ hx)]
 | invoke r m => rfl
 | builtin b => rfl

theorem yl {r : Option (Prop × Ef)} {e : Ef} (h : cV r (fun b => b = e)) : ∃ pre : Prop, r = some (pre, e) ∧ pre := by
 cases r with
 | none => exact h.elim
 | some p =>
   have h1 : p.1 := h.1
   have h2 : gz p.2 (fun b => b = e) := h.2
   rw [i7] at h2
   exact ⟨p.1, by rw [← h2], h1⟩
theorem yk {r : Option (Prop × Ef)} {e : Ef} {pre : Prop} (h : r = some (pre, e)) (hp : pre) : cV r (fun b => b = e) := by
 subst h
 refine ⟨hp, ?_⟩
 show gz e _
 rw [i7]

theorem ur (h : ∀ x ∈ gS o.op, s'.ev C x = s.ev C x) (hs : s'.sg = s.sg) : bS C s' o = bS C s o := by
 obtain ⟨dst, op, type, pos, after, guard⟩ := o
 have hel : ∀ x, elems s' x = elems s x := fun x => yQ fun i _ => by rw [hs]
 cases op <;> simp only [bS, gS] at h ⊢
 case move x => rw [h x (by simp)]
 case assign x => rw [h x (by simp)]
 case pick c a b => simp only [nJ, h c (by simp), h a (by simp), h b (by simp)]
 case alloc t => simp only [lg, hs]
 case box t x => rw [h x (by simp), hs]
 case build t ps => simp only [mz, ru h]
 case buildSlice t n ps => simp only [kz, nF, iD, ru h, hs]
 case load t x => simp only [kA, h x (by simp), hs]
 case store t x y => simp only [lD, h x (by simp), h y (by simp), hs]
 case nilCheck x => simp only [lC, h x (by simp)]
 case binOp b t x y u => rw [h x (by simp), h y (by simp)]
 case unOp b t x => rw [h x (by simp)]
 case convert a b x => simp only [lB, iE, h x (by simp), hel, hs]
 case makeInterface t x => simp only [nG, h x (by simp)]
 case makeFunc fn a b => rw [jP fun x hx => h x (by simp [hx]), jP fun x hx => h x (by simp [hx])]
 case makeSlice t x y => simp only [lz, h x (by simp), h y (by simp), hs]
 case slice t x lo hi mx =>
  have hr : ∀ n, hJ C s' n lo hi = hJ C s n lo hi := fun n => z9 (fun x hx => h x (by simp [hx])) (fun x hx => h x (by simp [hx]))
  have hh : ∀ y, hi = some y → s'.ev C y = s.ev C y := fun y hy => h y (by simp [hy, kM])
  have hm : ∀ y, mx = some y → s'.ev C y = s.ev C y := fun y hy => h y (by simp [hy, kM])
  simp only [mE, h x (by simp), hs, hr]
  repeat' (first
   | rfl
   | (simp only [hh _ rfl]; done)
   | (simp only [hh _ rfl, hm _ rfl]; done)
   | split)
 case fieldAddr t x f => simp only [lp, h x (by simp)]
 case field t x f => simp only [ln, h x (by simp)]
 case indexAddr t x y => simp only [mC, h x (by simp), h y (by simp), hs]
 case index t x y => simp only [nE, h x (by simp), h y (by simp)]
 case typeAssert x _ t ok => simp only [nB, h x (by simp)]
 case extract x i => simp only [nD, h x (by simp)]
 case range t x => simp only [lq, lv, dV, h x (by simp), hs]
 case makeMap t r => cases r <;> simp only [ly, hs]
 case lookup t m x ok => simp only [iV, dV, h m (by simp), h x (by simp), hs]
 case mapUpdate t m x y => simp only [lA, dV, h m (by simp), h x (by simp), h y (by simp), hs]
 case mapEntry t m x => simp only [jO, dV, h m (by simp), h x (by simp), hs]
 case entryStore t m b y => simp only [ll, dV, h m (by simp), h b (by simp), h y (by simp), hs]
 case entry x => simp only [mB, h x (by simp), hs]
 case next x b => simp only [mD, h x (by simp), hs]
 case call c =>
  have ht := Cw (C := C) (s := s) (s' := s') (c := c) (by simpa only [gS] using h)
  unfold mA
  cases hc : c.callee with
  | value f => simp only [ht, hs]
  | invoke r m =>
    simp only [hc] at h
    simp only [h r (by simp), jP fun x hx => h x (List.mem_cons_of_mem _ hx), hs]
  | builtin b =>
    simp only [hc] at h
    simp only [jP h]
    have hb : ∀ xs, jt C s' b c.argTypes.toList xs = jt C s b c.argTypes.toList xs := fun xs => by
     unfold jt
     simp only [hs, hel, lh, lj, dV]
    simp only [hb]
end
end Go.VG
namespace Go.VG
open Go

section
variable {C : Ctx} {s s' : AS} {o : Oper} {e : Ef} {nt : Nat} {tm : List (Nat × V)} {sg sg' : List O} {kl : List Nat}

theorem II {t : TypeId} : a6 (fun e => quiet e = false) (lg C s t) := by
 unfold lg
 split
 . exact a6.fail
 . rw [force_eq, cX]; exact a6.when fun _ => a6.ret rfl
theorem IK {x : V} : a6 (fun e => quiet e = false) (force x fun x => bc s.sg.length fun n => bd (!x.dS) (ret ⟨.ptr n 0, [], [], [.cells x.cells], []⟩)) := by
 rw [force_eq, cX]; exact a6.when fun _ => a6.ret rfl
theorem IT {t : TypeId} {x y : Operand} : a6 (fun e => quiet e = false) (lz C s t x y) := by
 unfold lz
 split
 . split
   . exact a6.fail
   . refine a6.when fun _ => a6.aD fun _ => ?_
     rw [cX, cX, force_eq]
     exact a6.ret rfl
 . exact a6.fail
theorem IQ {t : TypeId} {len : Nat} {ps : Array (Nat × Operand)} : a6 (fun e => quiet e = false) (nF C s t len ps) := by
 unfold nF
 refine a6.bind (pz _ _ _ _ _) fun e _ => ?_
 split
 . rw [cX]; exact a6.ret rfl
 . exact a6.fail
theorem oB {α β : Type} {o : Option α} {f : α → Tr β} {K : β → Prop} : dh o f K ↔ ∃ a, o = some a ∧ f a K := by
 cases o with
 | none => exact ⟨fun h => h.elim, fun ⟨_, h, _⟩ => by cases h⟩
 | some a => exact ⟨fun h => ⟨a, rfl, h⟩, fun ⟨_, h, k⟩ => by cases h; exact k⟩
theorem qe {t : TypeId} {m : V} {F : Nat → Bool → List Sc → List (V × Int) → List Nat → Nat → Tr Ef} (h : ∀ i ag sh es bs ck, a6 (fun e => quiet e = false) (F i ag sh es bs ck)) : a6 (fun e => quiet e = false) (dV C s t m F) := by
 unfold dV
 refine a6.opt fun _ _ => ?_
 split
 . split
   . exact a6.when fun _ => h _ _ _ _ _ _
   . exact a6.fail
 . exact a6.fail
theorem IS {t : TypeId} : a6 (fun e => quiet e = false) (ly C s t) := by
 unfold ly
 refine a6.opt fun _ _ => ?_
 rw [cX]
 exact a6.ret rfl
theorem IV {t : TypeId} {m x y : Operand} : a6 (fun e => quiet e = false) (lA C s t m x y) := by
 unfold lA
 refine qe fun i ag sh es bs ck => ?_
 rw [force_eq]
 refine a6.when fun _ => ?_
 split
 . exact a6.cZ (fun _ _ => a6.ret rfl) (fun _ => a6.ret rfl)
 . exact a6.fail
theorem IU {t : TypeId} {m x : Operand} : a6 (fun e => quiet e = false) (jO C s t m x) := by
 unfold jO
 refine qe fun i ag sh es bs ck => ?_
 rw [force_eq]
 exact a6.when fun _ => a6.aD fun _ => a6.cZ (fun _ _ => a6.ret rfl) (fun _ => a6.ret rfl)
theorem IM {t : TypeId} {m x y : Operand} : a6 (fun e => quiet e = false) (ll C s t m x y) := by
 unfold ll
 refine qe fun i ag sh es bs ck => ?_
 split
 . exact a6.ex fun _ => a6.aD fun _ => a6.ret rfl
 . exact a6.fail
theorem IL {t : TypeId} {m x : V} : a6 (fun e => quiet e = false) (lj C s t m x) := by
 unfold lj
 refine qe fun i ag sh es bs ck => ?_
 rw [force_eq]
 exact a6.when fun _ => a6.cZ (fun _ _ => a6.ret rfl) (fun _ => a6.ret rfl)
theorem IP {t : TypeId} {m : V} : a6 (fun e => quiet e = false) (lv C s t m) := by
 unfold lv
 refine qe fun i ag sh es bs ck => ?_
 rw [cX]
 exact a6.ret rfl
theorem IN {t : TypeId} {x : Operand} : a6 (fun e => quiet e = false) (lq C s t x) := by
 unfold lq
 split
 . rw [cX]; exact a6.ret rfl
 . exact IP
 . exact a6.fail
theorem IW {t : TypeId} {x y : Operand} : a6 (fun e => quiet e = false) (lD C s t x y) := by
 unfold lD
 simp only [jz]
 split
 . exact a6.fail
 . rw [force_eq]
   refine a6.when fun _ => ?_
   split
   . split
     . exact a6.opt fun _ _ => a6.ret rfl
     . exact a6.fail
   . split
     . refine a6.opt fun _ _ => ?_
       split
       . exact a6.when fun _ => a6.opt fun _ _ => a6.aD fun _ => a6.ret rfl
       . exact a6.fail
     . exact a6.fail
   . exact a6.fail
theorem IJ {t : TypeId} {x : V} {ys : List V} {rd : List Nat} : a6 (fun e => quiet e = false) (lh C s t x ys rd) := by
 unfold lh
 split
 . refine a6.when fun _ => a6.aD fun _ => a6.aD fun _ => ?_
   rw [cX, cX]; exact a6.ret rfl
 . split
   . exact a6.when fun _ => a6.aD fun _ => a6.ret rfl
   . exact a6.fail
 . exact a6.fail

theorem DR {x : V} : a6 (fun r => ∀ i, x = .buf i → r.2.2 = [i]) (elems s x) := by
 unfold elems
 split
 . exact a6.ret fun i h => by cases h
 . exact a6.ret fun i h => by cases h
 . split
   . exact a6.ret fun i h => by cases h; rfl
   . exact a6.fail
 . exact a6.fail

theorem Ez (he : bS C ⟨nt, tm, sg, kl⟩ o (fun b => b = e)) (hq : quiet e = true) (hr : ∀ r ∈ e.rd, aC sg' r = aC sg r) : bS C ⟨nt, tm, sg', kl⟩ o (fun b => b = e) := by
  obtain ⟨dst, op, type, pos, after, guard⟩ := o
  have hev : ∀ x, AS.ev C ⟨nt, tm, sg', kl⟩ x = AS.ev C ⟨nt, tm, sg, kl⟩ x := fun _ => rfl
  have hevs : ∀ l, AS.bk C ⟨nt, tm, sg', kl⟩ l = AS.bk C ⟨nt, tm, sg, kl⟩ l := fun l => jP fun _ _ => rfl
  have hps : ∀ l, fX C ⟨nt, tm, sg', kl⟩ l = fX C ⟨nt, tm, sg, kl⟩ l := fun l => ru fun _ _ => rfl
  have hrg : ∀ n lo hi, hJ C ⟨nt, tm, sg', kl⟩ n lo hi = hJ C ⟨nt, tm, sg, kl⟩ n lo hi := fun n lo hi => z9 (fun _ _ => rfl) (fun _ _ => rfl)
  have hno : ∀ {p : Prop}, quiet e = false → p := fun h => by rw [h] at hq; cases hq
  cases op <;> simp only [bS] at he ⊢
  case move x => exact he
  case assign x => exact he
  case pick c a b => exact he
  case alloc t => exact hno (II e he)
  case box t x => exact hno (IK (s := ⟨nt, tm, sg, kl⟩) e he)
  case build t ps => simp only [mz, hps] at he ⊢; exact he
  case buildSlice t n ps =>
   have hb : iD C ⟨nt, tm, sg', kl⟩ t n ps = iD C ⟨nt, tm, sg, kl⟩ t n ps := by simp only [iD, hps]
   cases dst with
   | none => simp only [kz, hb] at he ⊢; exact he
   | some d =>
     simp only [kz] at he ⊢
     cases hd : C.lits d with
     | false => rw [hd] at he; simp only [cond_false, hb] at he ⊢; exact he
     | true => rw [hd] at he; exact hno (IQ e he)
  case load t x =>
   unfold kA at he ⊢
   simp only [jz] at he ⊢
   rw [hev]
   cases hv : AS.ev C ⟨nt, tm, sg, kl⟩ x <;> rw [hv] at he <;> try exact he
   . rename_i i off
     have hi : i ∈ e.rd := by
      refine (?_ : a6 (fun e : Ef => i ∈ e.rd) _) e he
      split
      . exact a6.fail
      . simp only
        split
        . refine a6.bind (dr _ _ _ _) fun v _ => ?_
          rw [force_eq]; exact a6.ret (by simp)
        . exact a6.fail
     simp only [hr i hi]
     exact he
   . rename_i i idx off
     have hi : i ∈ e.rd := by
      refine (?_ : a6 (fun e : Ef => i ∈ e.rd) _) e he
      split
      . exact a6.fail
      . simp only
        split
        . refine a6.opt fun _ _ => a6.when fun _ => a6.bind (dr _ _ _ _) fun v _ => ?_
          rw [force_eq]; exact a6.ret (by simp)
        . exact a6.fail
     simp only [hr i hi]
     exact he
  case store t x y => exact hno (IW e he)
  case nilCheck x => exact he
  case binOp b t x y u => exact he
  case unOp b t x => exact he
  case convert a b x =>
   rw [hev]
   have hmk : (iE C ⟨nt, tm, sg, kl⟩ a b (AS.ev C ⟨nt, tm, sg, kl⟩ x) (fun b => b = e) → iE C ⟨nt, tm, sg', kl⟩ a b (AS.ev C ⟨nt, tm, sg, kl⟩ x) (fun b => b = e)) → lB C ⟨nt, tm, sg', kl⟩ a b (AS.ev C ⟨nt, tm, sg, kl⟩ x) (fun b => b = e) := fun hk => by
    unfold lB at he ⊢
    cases hv : AS.ev C ⟨nt, tm, sg, kl⟩ x <;> rw [hv] at he hk <;> try exact hk he
    rename_i i
    simp only at he ⊢
    cases hb : Nat.beq a b with
    | false => rw [hb] at he; exact hk he
    | true =>
      rw [hb] at he
      refine hno ((?_ : a6 (fun e : Ef => quiet e = false) _) e he)
      simp only [cond_true]
      split
      . split
        . split
          . exact a6.ret rfl
          . exact a6.fail
        . exact a6.fail
      . exact a6.fail
   refine hmk fun he => ?_
   have hc : ∀ v, elems ⟨nt, tm, sg', kl⟩ v = elems ⟨nt, tm, sg, kl⟩ v → iE C ⟨nt, tm, sg', kl⟩ a b v = iE C ⟨nt, tm, sg, kl⟩ a b v := fun v hel => by
    unfold iE
    repeat' (first
     | rfl
     | (simp only [hel]; done)
     | split)
   generalize AS.ev C ⟨nt, tm, sg, kl⟩ x = v at he ⊢
   rw [hc v (yQ fun i hv => ?_)]
   . exact he
   subst hv
   refine hr i ?_
   refine (?_ : a6 (fun e : Ef => i ∈ e.rd) _) e he
   unfold iE
   split <;> first
    | exact a6.fail
    | contradiction
    | skip
   split
   . exact a6.fail
   . refine a6.bind (ld _ _) fun r hr' => ?_
     have := DR r (hr' _ rfl) i rfl
     obtain ⟨sz, l, rd⟩ := r
     simp only at this
     subst this
     exact a6.when fun _ => a6.ex fun _ => a6.aD fun _ => a6.ret (by simp)
   . exact a6.fail
  case makeInterface t x => exact he
  case makeFunc fn a b => rw [hevs, hevs]; exact he
  case makeSlice t x y => exact hno (IT e he)
  case slice t x lo hi mx =>
   unfold mE at he ⊢
   rw [hev]
   simp only [hrg, hev] at he ⊢
   generalize AS.ev C ⟨nt, tm, sg, kl⟩ x = v at he ⊢
   by_cases hv : ∃ i, v = .buf i
   . obtain ⟨i, rfl⟩ := hv
     refine hno ((?_ : a6 (fun e : Ef => quiet e = false) _) e he)
     split <;> first
      | exact a6.fail
      | contradiction
      | skip
     all_goals
      split
      . exact a6.fail
      . split
        . split
          . exact a6.when fun _ => a6.aD fun _ => a6.ret rfl
          . exact a6.fail
        . exact a6.fail
   . by_cases hp : ∃ i a, v = .ptr i a
     . obtain ⟨i, a, rfl⟩ := hp
       refine hno ((?_ : a6 (fun e : Ef => quiet e = false) _) e he)
       split <;> first
        | exact a6.fail
        | contradiction
        | skip
       split
       . exact a6.fail
       . split
         . exact a6.when fun _ => a6.opt fun _ _ => a6.bind (ep _ _ _ _ _) fun _ _ => by rw [pr]; exact a6.ret rfl
         . exact a6.fail
     cases v <;> first
      | exact absurd ⟨_, rfl⟩ hv
      | exact absurd ⟨_, _, rfl⟩ hp
      | skip
     all_goals (generalize (C.ti t).k = k at he ⊢; cases k <;> cases mx <;> exact he)
  case fieldAddr t x f => exact he
  case field t x f => exact he
  case indexAddr t x y =>
   unfold mC at he ⊢
   simp only [jz] at he ⊢
   rw [hev, hev]
   generalize AS.ev C ⟨nt, tm, sg, kl⟩ x = v at he ⊢
   generalize AS.ev C ⟨nt, tm, sg, kl⟩ y = u at he ⊢
   by_cases hv : ∃ i, v = .buf i
   . obtain ⟨i, rfl⟩ := hv
     have hi : i ∈ e.rd := by
      refine (?_ : a6 (fun e : Ef => i ∈ e.rd) _) e he
      split <;> first
       | exact a6.fail
       | contradiction
       | skip
      rename_i h
      cases h
      split
      . exact a6.fail
      . split
        . exact a6.when fun _ => a6.aD fun _ => a6.ret (by simp)
        . exact a6.fail
     generalize (C.ti t).k = k at he ⊢
     cases k <;> cases u <;> simp only [hr i hi] <;> exact he
   . cases v <;> first
       | exact absurd ⟨_, rfl⟩ hv
       | skip
     all_goals (generalize (C.ti t).k = k at he ⊢; cases k <;> cases u <;> exact he)
  case index t x y => exact he
  case typeAssert x _ t ok => exact he
  case extract x i => exact he
  case range t x => exact hno (IN e he)
  case makeMap t r => cases r with
   | none => exact hno (IS e he)
   | some r => exact he
  case mapUpdate t m x y => exact hno (IV e he)
  case mapEntry t m x => exact hno (IU e he)
  case entryStore t m b y => exact hno (IM e he)
  case lookup t m x ok =>
   unfold iV dV at he ⊢
   rw [hev, hev]
   obtain ⟨p, hp, he⟩ := oB.1 he
   refine oB.2 ⟨p, hp, ?_⟩
   generalize AS.ev C ⟨nt, tm, sg, kl⟩ m = v at he ⊢
   cases v <;> try exact he
   rename_i i
   have hi : i ∈ e.rd := by
    refine (?_ : a6 (fun e : Ef => i ∈ e.rd) _) e he
    simp only
    split
    . rw [force_eq]
      refine a6.when fun _ => a6.when fun _ => ?_
      split
      . exact a6.cZ (fun _ _ => a6.ret (by simp)) (fun _ => a6.ret (by simp))
      . exact a6.ret (by simp)
    . exact a6.fail
   simp only [hr i hi]
   exact he
  case entry x =>
   unfold mB at he ⊢
   simp only [jz] at he ⊢
   rw [hev]
   generalize AS.ev C ⟨nt, tm, sg, kl⟩ x = v at he ⊢
   cases v <;> try exact he
   rename_i k off
   cases off with
   | succ off => exact he
   | zero =>
     have hk : k ∈ e.rd ∧ ∀ i bs ck left last, aC sg k = .miter (.map i) bs ck left last → i ∈ e.rd := by
      refine (?_ : a6 (fun e : Ef => k ∈ e.rd ∧ ∀ i bs ck left last, aC sg k = .miter (.map i) bs ck left last → i ∈ e.rd) _) e he
      simp only
      split
      . rename_i i bs ck left last hs
        split
        . refine a6.aD fun _ => a6.opt fun _ _ => a6.ret ⟨by simp, fun i' bs' ck' left' last' h' => ?_⟩
          rw [hs] at h'
          injection h' with h' _
          injection h' with h'
          subst h'
          simp
        . exact a6.fail
      . exact a6.fail
     simp only [hr k hk.1]
     have hk2 := hk.2
     simp only at he
     generalize aC sg k = ob at he hk2 ⊢
     cases ob <;> try exact he
     rename_i m bs ck left last
     cases m <;> try exact he
     rename_i i
     simp only [hr i (hk2 i bs ck left last rfl)]
     exact he
  case next x b =>
   unfold mD at he ⊢
   rw [hev]
   cases hv : AS.ev C ⟨nt, tm, sg, kl⟩ x <;> rw [hv] at he <;> try exact he
   rename_i i off
   cases off with
   | succ off => cases b <;> exact he
   | zero => cases b with
     | false => exact he
     | true =>
       have hi : i ∈ e.rd := by
        refine (?_ : a6 (fun e : Ef => i ∈ e.rd) _) e he
        simp only
        split
        . exact a6.bI (fun _ => a6.opt fun _ _ => a6.aD fun _ => a6.ret (by simp)) (fun _ => a6.ret (by simp))
        . exact a6.fail
       simp only [hr i hi]
       exact he
  case call c =>
   unfold mA at he ⊢
   have htg : target C ⟨nt, tm, sg', kl⟩ c = target C ⟨nt, tm, sg, kl⟩ c := Cw fun _ _ => rfl
   rw [htg]
   generalize hcal : c.callee = cal at he ⊢
   cases cal
   . -- a function's value
     obtain ⟨p, hp, hc⟩ : ∃ p, target C ⟨nt, tm, sg, kl⟩ c = some p ∧ cV (eh C sg p.1 p.2) (fun b => b = e) := by
      cases ht : target C ⟨nt, tm, sg, kl⟩ c with
      | none => rw [ht] at he; exact he.elim
      | some p => rw [ht] at he; exact ⟨p, rfl, he⟩
     obtain ⟨pre, h1, h2⟩ := yl hc
     rw [hp]
     exact yk (z7 h1 hq hr) h2
   . rename_i r m
     simp only at he ⊢
     rw [hev, hevs]
     generalize AS.ev C ⟨nt, tm, sg, kl⟩ r = v at he ⊢
     cases v <;> try exact he
     obtain ⟨f, hm, hc⟩ := he
     obtain ⟨pre, h1, h2⟩ := yl hc
     exact ⟨f, hm, yk (z7 h1 hq hr) h2⟩
   . rename_i b
     simp only at he ⊢
     rw [hevs]
     rw [nQ] at he ⊢
     generalize AS.bk C ⟨nt, tm, sg, kl⟩ c.args.toList = xs at he ⊢
     generalize c.argTypes.toList = ts at he ⊢
     have hbt : a6 (fun e' => quiet e' = true → (∀ r ∈ e'.rd, aC sg' r = aC sg r) → jt C ⟨nt, tm, sg', kl⟩ b ts xs (fun b => b = e')) (jt C ⟨nt, tm, sg, kl⟩ b ts xs) := by
      unfold jt
      split
      . rename_i t x
        intro e he hq hr
        generalize (C.ti t).k = k at he ⊢
        cases k <;> try exact he
        cases x <;> try exact he
        rename_i i _
        have hi : i ∈ e.rd := by
         refine (?_ : a6 (fun e : Ef => i ∈ e.rd) _) e he
         simp only
         split
         . exact a6.ret (by simp)
         . exact a6.fail
        simp only [hr i hi]
        exact he
      . rename_i t t2 x y
        refine fun e he hq _ => (?_ : ∀ {p : Prop}, quiet e = false → p) ((?_ : a6 (fun e : Ef => quiet e = false) _) e he)
        . intro p h; rw [h] at hq; cases hq
        split
        . exact a6.fail
        . exact a6.fail
        . split
          . exact a6.fail
          . exact a6.when fun _ => a6.bind (ld _ _) fun r _ => a6.when fun _ => IJ
        . exact a6.fail
      . rename_i t t2 x y
        refine fun e he hq _ => (?_ : ∀ {p : Prop}, quiet e = false → p) ((?_ : a6 (fun e : Ef => quiet e = false) _) e he)
        . intro p h; rw [h] at hq; cases hq
        split
        . split
          . exact a6.fail
          . split
            . exact a6.bind (ld _ _) fun r _ => a6.when fun _ => a6.ret rfl
            . exact a6.fail
        . exact a6.fail
      . exact fun e he hq _ => absurd hq (by rw [IL e he]; exact Bool.false_ne_true)
      . exact fun e he _ _ => he
      . exact fun e he _ _ => he
      . exact fun e he _ _ => he
     exact hbt e he hq hr
  all_goals exact he

theorem Ey (h : ∀ x ∈ gS o.op, s'.ev C x = s.ev C x) (he : bS C s o (fun b => b = e)) (hq : quiet e = true) (hr : ∀ r ∈ e.rd, aC s'.sg r = aC s.sg r) : bS C s' o (fun b => b = e) := by
 obtain ⟨nt, tm, sg, kl⟩ := s
 obtain ⟨nt', tm', sg', kl'⟩ := s'
 have h1 : bS C ⟨nt', tm', sg, kl'⟩ o (fun b => b = e) := by
  rw [ur (s' := ⟨nt', tm', sg, kl'⟩) (s := ⟨nt, tm, sg, kl⟩) (fun x hx => h x hx) rfl]
  exact he
 exact Ez h1 hq hr
end
end Go.VG
namespace Go.VG
open Go

mutual
theorem o9 {ks : List Nat} : ∀ {x : V}, x.free ks = true → x.kill ks = x
 | .undef, _ | .int .., _ | .bool _, _ | .str _, _ | .nilptr, _ | .nilIface, _ | .nilFunc, _ | .nilmap, _ | .list .., _ | .box .., _ => by simp [V.kill]
 | .ptr i _, h | .bptr i _ _, h | .buf i, h | .map i, h => by
   simp only [V.free, Bool.not_eq_true'] at h
   simp [V.kill, h]
 | .agg cs, h | .tuple cs, h => by simp [V.kill, pR (by simpa [V.free] using h)]
 | .iface t x, h => by simp [V.kill, o9 (by simpa [V.free] using h)]
 | .func fn fs cs, h => by
   simp only [V.free, Bool.and_eq_true] at h
   simp [V.kill, pR h.1, pR h.2]
theorem pR {ks : List Nat} : ∀ {x : List V}, V.jR ks x = true → V.dK ks x = x
 | [], _ => by simp [V.dK]
 | c :: cs, h => by
   simp only [V.jR, Bool.and_eq_true] at h
   simp [V.dK, o9 h.1, pR h.2]
end
mutual
theorem rO {ks : List Nat} : ∀ {x : V}, (x.kill ks).kR = true → x.kill ks = x
 | .undef, _ | .int .., _ | .bool _, _ | .str _, _ | .nilptr, _ | .nilIface, _ | .nilFunc, _ | .nilmap, _ | .list .., _ | .box .., _ => by simp [V.kill]
 | .ptr i _, h | .bptr i _ _, h | .buf i, h | .map i, h => by
   cases hm : aH i ks with
   | true => simp [V.kill, hm, V.kR] at h
   | false => simp [V.kill, hm]
 | .agg cs, h | .tuple cs, h => by
   simp only [V.kill, V.kR] at h
   simp [V.kill, pT h]
 | .iface t x, h => by
   simp only [V.kill, V.kR] at h
   simp [V.kill, rO h]
 | .func fn fs cs, h => by
   simp only [V.kill, V.kR, Bool.and_eq_true] at h
   simp [V.kill, pT h.1, pT h.2]
theorem pT {ks : List Nat} : ∀ {x : List V}, V.kg (V.dK ks x) = true → V.dK ks x = x
 | [], _ => by simp [V.dK]
 | c :: cs, h => by
   simp only [V.dK, V.kg, Bool.and_eq_true] at h
   simp [V.dK, rO h.1, pT h.2]
end

theorem pH : ∀ (sg : List O) (i : Nat), aC sg i = sg.getD i .dead
 | [], i => by simp [aC]
 | o :: os, 0 => by simp [aC]
 | o :: os, i + 1 => by simp [aC, pH os i]

theorem tT : ∀ {up : List (Nat × O)} {rd : List Nat}, pc up rd = true → ∀ p ∈ up, p.1 ∉ rd
 | [], _, _, p, h => by simp at h
 | (i, o) :: r, rd, h, p, hp => by
   simp only [pc, Bool.and_eq_true, Bool.not_eq_true'] at h
   rcases List.mem_cons.1 hp with rfl | hp
   . exact mS.1 h.1
   . exact tT h.2 p hp
theorem tP : ∀ {l : List Nat} {n : Nat}, pb l n = true → ∀ i ∈ l, i < n
 | [], _, _, i, h => by simp at h
 | k :: ks, n, h, i, hi => by
   simp only [pb, Bool.and_eq_true] at h
   rcases List.mem_cons.1 hi with rfl | hi
   . exact Nat.le_of_ble_eq_true h.1
   . exact tP h.2 i hi
theorem CN : ∀ {up : List (Nat × O)} {sg : List O} {r : Nat}, (∀ p ∈ up, p.1 ≠ r) → (d7 sg up)[r]? = sg[r]?
 | [], sg, r, _ => rfl
 | (i, o) :: up, sg, r, h => by
   simp only [d7]
   rw [CN fun p hp => h p (List.mem_cons_of_mem _ hp), gP, List.getElem?_set_ne (h (i, o) (by simp))]

structure eO (s t : AS) : Prop where
 nt : s.nt = t.nt
 tm : ∀ u, lk s.tm u = lk t.tm u
 sg : s.sg = t.sg
 kl : ∀ i, aH i s.kl = true ↔ aH i t.kl = true
theorem eO.refl (s : AS) : eO s s := ⟨rfl, fun _ => rfl, rfl, fun _ => Iff.rfl⟩
theorem eO.symm {s t : AS} (h : eO s t) : eO t s := ⟨h.nt.symm, fun u => (h.tm u).symm, h.sg.symm, fun i => (h.kl i).symm⟩
theorem eO.trans {s t u : AS} (h : eO s t) (k : eO t u) : eO s u := ⟨h.nt.trans k.nt, fun x => (h.tm x).trans (k.tm x), h.sg.trans k.sg, fun i => (h.kl i).trans (k.kl i)⟩

theorem j7 (s : AS) (d : Option Nat) (e : Ef) (t : Nat) : lk (s.app d e).tm t = if d = some t then e.v else (lk s.tm t).kill e.ks := by
 cases d with
 | none => simp only [AS.app]; rw [kK]; simp
 | some d =>
   simp only [AS.app, lk]
   rw [kK]
   by_cases h : d = t
   . subst h; simp
   . have : Nat.beq d t = false := by
       cases hb : Nat.beq d t with
       | false => rfl
       | true => exact absurd (Nat.eq_of_beq_eq_true hb) h
     simp [this, h]
theorem jJ (s : AS) (d : Option Nat) (e : Ef) : (s.app d e).sg = fR (d7 (ia e.ks s.sg) e.up) e.nw := rfl
theorem fG {s : AS} {d : Option Nat} {e : Ef} (h : quiet e = true) : (s.app d e).sg = s.sg := by
 obtain ⟨h1, h2, h3⟩ := lU.1 h
 rw [jJ, h1, h2, h3]; rfl
theorem eO.app {s t : AS} (h : eO s t) (d : Option Nat) (e : Ef) : eO (s.app d e) (t.app d e) := by
 refine ⟨h.nt, fun u => ?_, ?_, fun i => ?_⟩
 . rw [j7, j7, h.tm]
 . rw [jJ, jJ, h.sg]
 . simp only [AS.app, gV, h.kl]
theorem zy {s : AS} {d : Option Nat} {e : Ef} {r : Nat} (hr : r < s.sg.length) (hu : ∀ p ∈ e.up, p.1 ≠ r) : aC (s.app d e).sg r = (aC s.sg r).kill e.ks := by
 rw [pH, pH, jJ, tO, List.getD_eq_getElem?_getD, List.getD_eq_getElem?_getD, List.getElem?_append_left (by rw [mO, pQ]; simpa using hr), CN hu, pQ,
  List.getElem?_map, List.getElem?_eq_getElem hr]
 rfl

section
variable {C : Ctx} {ops : List Oper}

structure dN (C : Ctx) (ops : List Oper) (o : Oper) (s : AS) (r : Rc) : Prop where
 ef : stepT C ops s o (fun b => b = r.e)
 d : r.d = o.dst
 us : r.us = looks ops o
 ov : r.ov = s.bk C (gS o.op)
 oo : (jZ o).1 = 1 ∨ r.oo = iZ s.sg r.e.rd
 lu : r.lu = jZ o
 n : quiet r.e = false → r.n = s.sg.length
 dok : cW s o.dst = true

theorem xB : ∀ {l : List Operand} {t : Nat}, Operand.tmp t ∈ l → t ∈ tmpsOf l
 | [], _, h => by simp at h
 | x :: xs, t, h => by
   rcases List.mem_cons.1 h with h | h
   . subst h; simp [tmpsOf]
   . have := xB h
     cases x <;> simp [tmpsOf, this]
theorem zc {s s' : AS} {x : Operand} (h : ∀ t, x = .tmp t → lk s'.tm t = lk s.tm t) : s'.ev C x = s.ev C x := by
 cases x with
 | tmp t => exact h t rfl
 | _ => rfl
theorem zz {sg sg' : List O} : ∀ {l : List Nat}, (∀ r ∈ l, aC sg' r = aC sg r) → iZ sg' l = iZ sg l
 | [], _ => rfl
 | r :: rs, h => by simp only [iZ, h r (by simp), zz (l := rs) fun x hx => h x (List.mem_cons_of_mem _ hx)]

theorem Lk {s s' : AS} {o : Oper} {e : Ef} (hg : ∀ t ∈ nV ops o.guard, lk s'.tm t = lk s.tm t) (ho : bS C s o (fun b => b = e) → bS C s' o (fun b => b = e)) (h : stepT C ops s o (fun b => b = e)) : stepT C ops s' o (fun b => b = e) := by
 unfold stepT at h ⊢
 cases hgd : o.guard with
 | none => rw [hgd] at h; exact ho h
 | some p =>
   obtain ⟨j, want⟩ := p
   rw [hgd] at h hg
   simp only at h ⊢
   cases hd : bO ops j with
   | none => rw [hd] at h; exact h
   | some t =>
     rw [hd] at h
     simp only at h ⊢
     rw [hg t (by simp [nV, hd])]
     generalize lk s.tm t = v at h ⊢
     cases v <;> try exact h
     rotate_left
     . rename_i l
       cases l with
       | nil => exact h
       | cons _ _ => exact h
     rename_i b
     cases want <;> cases b <;> simp only [cond_true, cond_false, jn, bI] at h ⊢ <;> first
      | exact h
      | exact ho h

theorem Ch {s : AS} {o : Oper} {e : Ef} (h : stepT C ops s o (fun b => b = e)) : ∀ t ∈ nV ops o.guard, (∃ b, lk s.tm t = .bool b) ∨ lk s.tm t = .tuple [] := by
 intro t ht
 unfold stepT at h
 cases hgd : o.guard with
 | none => rw [hgd] at ht; simp [nV] at ht
 | some p =>
   obtain ⟨j, want⟩ := p
   rw [hgd] at h ht
   simp only [nV] at ht
   simp only at h
   cases hd : bO ops j with
   | none => rw [hd] at ht; simp at ht
   | some t' =>
     rw [hd] at ht h
     simp only [List.mem_singleton] at ht
     subst ht
     simp only at h
     generalize lk s.tm t = v at h
     cases v <;> first
      | exact .inl ⟨_, rfl⟩
      | exact h.elim
      | (rename_i l; cases l with
         | nil => exact .inr rfl
         | cons _ _ => exact h.elim)

theorem dN.loc {s s' : AS} {o : Oper} {r : Rc} (h : dN C ops o s r) (hnt : s'.nt = s.nt) (hl : ∀ t ∈ looks ops o, lk s'.tm t = lk s.tm t) (hsg : s'.sg = s.sg ∨ (quiet r.e = true ∧ ∀ i ∈ r.e.rd, aC s'.sg i = aC s.sg i)) :
   dN C ops o s' r := by
 have hev : ∀ x ∈ gS o.op, s'.ev C x = s.ev C x := fun x hx => zc fun t ht => hl t (List.mem_append_left _ (xB (ht ▸ hx)))
 refine ⟨?_, h.d, h.us, ?_, ?_, h.lu, fun hq => ?_, ?_⟩
 . refine Lk (fun t ht => hl t (List.mem_append_right _ ht)) (fun he => ?_) h.ef
   rcases hsg with hsg | ⟨hq, hr⟩
   . rw [ur hev hsg]; exact he
   . exact Ey hev he hq hr
 . rw [h.ov, jP hev]
 . refine h.oo.imp id fun hoo => ?_
   rw [hoo]
   rcases hsg with hsg | ⟨_, hr⟩
   . rw [hsg]
   . exact (zz hr).symm
 . rcases hsg with hsg | ⟨hq', _⟩
   . rw [hsg]; exact h.n hq
   . rw [hq'] at hq; cases hq
 . have := h.dok
   cases hd : o.dst with
   | none => rfl
   | some d => rw [hd] at this; simp only [cW] at this ⊢; rw [hnt]; exact this

theorem dN.eqv {s s' : AS} {o : Oper} {r : Rc} (h : dN C ops o s r) (e : eO s s') : dN C ops o s' r :=
 h.loc e.nt.symm (fun t _ => (e.tm t).symm) (.inl e.sg.symm)

theorem zr {ks : List Nat} : ∀ {l : List V}, V.jR ks l = true → ∀ x ∈ l, x.free ks = true
 | [], _, x, h => by simp at h
 | c :: cs, h, x, hx => by
   simp only [V.jR, Bool.and_eq_true] at h
   rcases List.mem_cons.1 hx with rfl | hx
   . exact h.1
   . exact zr h.2 x hx
theorem Ce : ∀ {l : List V}, V.kg l = true → ∀ x ∈ l, x.kR = true
 | [], _, x, h => by simp at h
 | c :: cs, h, x, hx => by
   simp only [V.kg, Bool.and_eq_true] at h
   rcases List.mem_cons.1 hx with rfl | hx
   . exact h.1
   . exact Ce h.2 x hx
theorem uu {s : AS} : ∀ {l : List Operand} {x : Operand}, x ∈ l → s.ev C x ∈ s.bk C l
 | [], _, h => by simp at h
 | y :: ys, x, h => by
   rcases List.mem_cons.1 h with rfl | h
   . simp [AS.bk]
   . simp only [AS.bk, List.mem_cons]; exact .inr (uu h)
theorem zt {ks : List Nat} {sg : List O} : ∀ {l : List Nat}, lI ks (iZ sg l) = true → ∀ i ∈ l, (aC sg i).kill ks = aC sg i
 | [], _, i, h => by simp at h
 | k :: l, h, i, hi => by
   simp only [iZ] at h
   have hrest : lI ks (iZ sg l) = true := by
    cases ho : aC sg k <;> rw [ho] at h <;> simp only [lI, Bool.and_eq_true] at h <;> first | exact h | exact h.2
   rcases List.mem_cons.1 hi with rfl | hi
   . cases ho : aC sg i <;> try rfl
     all_goals
      rw [ho] at h
      simp only [lI, Bool.and_eq_true] at h
      first
      | (simp only [O.kill, pR h.1]; done)
      | (simp only [O.kill, o9 h.1]; done)
   . exact zt hrest i hi
theorem Cf {ks : List Nat} {sg sg' : List O} : ∀ {l : List Nat}, m6 (iZ sg' l) = true → ∀ i ∈ l, aC sg' i = (aC sg i).kill ks → aC sg' i = aC sg i
 | [], _, i, h, _ => by simp at h
 | k :: l, h, i, hi, he => by
   simp only [iZ] at h
   have hrest : m6 (iZ sg' l) = true := by
    cases ho : aC sg' k <;> rw [ho] at h <;> simp only [m6, Bool.and_eq_true] at h <;> first | exact h | exact h.2 | cases h
   rcases List.mem_cons.1 hi with rfl | hi
   . cases ho : aC sg i <;> rw [ho] at he <;> try exact he
     all_goals
      simp only [O.kill] at he
      rw [he] at h
      simp only [m6, Bool.and_eq_true] at h
      first
      | (rw [he, pT h.1]; done)
      | (rw [he, rO h.1]; done)
   . exact Cf hrest i hi he

theorem ui {d : Option Nat} {us : List Nat} (h : pt d us = true) {t : Nat} (ht : t ∈ us) : d ≠ some t := by
 intro e
 subst e
 simp only [pt, Bool.not_eq_true'] at h
 exact mS.1 h ht

theorem yU : ∀ {a b : List Nat}, rn a b = true → a = b
 | [], [], _ => rfl
 | x :: xs, y :: ys, h => by
   simp only [rn, Bool.and_eq_true] at h
   rw [Nat.eq_of_beq_eq_true h.1, yU h.2]
 | [], _ :: _, h => by cases h
 | _ :: _, [], h => by cases h
theorem AZ {o : Oper} (h : (jZ o).1 = 1) : ∃ t m x, o.guard = none ∧ o.op = .lookup t (.tmp m) (.tmp x) false ∧ jZ o = (1, [t, m, x]) := by
 unfold jZ at h ⊢
 split at h <;> first
  | (rename_i t m x hg ho; exact ⟨t, m, x, hg, ho, rfl⟩)
  | (cases h; done)
theorem IX {o : Oper} (h : (jZ o).1 = 2) : ∃ t m x, o.guard = none ∧ o.op = .mapEntry t (.tmp m) (.tmp x) ∧ jZ o = (2, [t, m, x]) := by
 unfold jZ at h ⊢
 split at h <;> first
  | (rename_i t m x hg ho; exact ⟨t, m, x, hg, ho, rfl⟩)
  | (cases h; done)
theorem zl {es : List (V × Int)} {x y : V} {q : Int} (h : bB es x = none) : bB (es ++ [(y, q)]) x = cond (iF y x) (some (es.length, q)) none := by
 induction es with
 | nil => simp only [List.nil_append, bB]; cases iF y x <;> rfl
 | cons p es ih =>
   obtain ⟨z, r⟩ := p
   simp only [List.cons_append, bB] at h ⊢
   cases hz : iF z x with
   | true => rw [hz] at h; simp at h
   | false =>
     rw [hz] at h
     simp only [cond_false] at h ⊢
     have hn : bB es x = none := by
      cases he : bB es x with
      | none => rfl
      | some p => rw [he] at h; cases h
     rw [ih hn]
     cases iF y x <;> simp
theorem GX {es : List (V × Int)} {x y : V} (h : bB es x = none) : getM (es ++ [(y, 0)]) x = getM es x := by
 unfold getM
 rw [zl h, h]
 cases iF y x <;> rfl
theorem GY {sg : List O} {i : Nat} {o : O} (h : i < sg.length) : aC (fg sg i o) i = o := by
 have : ∀ (sg : List O) (i : Nat), i < sg.length → aC (fg sg i o) i = o := by
  intro sg
  induction sg with
  | nil => intro i h; simp at h
  | cons a r ih =>
    intro i h
    cases i with
    | zero => rfl
    | succ i => exact ih i (by simpa using h)
 exact this sg i h
theorem dN.look {s : AS} {o : Oper} {r : Rc} (h : dN C ops o s r) (hl : (jZ o).1 = 1) : quiet r.e = true ∧ ∀ i ∈ r.e.rd, ∃ ag sh es bs ck, aC s.sg i = .map ag sh es bs ck := by
 obtain ⟨t, m, x, hg, ho, _⟩ := AZ hl
 have ef : iV C s t (.tmp m) (.tmp x) false (fun b => b = r.e) := by
  have := h.ef
  unfold stepT at this
  rw [hg] at this
  simp only [bS, ho] at this
  exact this
 unfold iV dV at ef
 obtain ⟨p, hp, ef⟩ := oB.1 ef
 cases hm : AS.ev C s (.tmp m) <;> rw [hm] at ef <;> try exact ef.elim
 rename_i i
 simp only at ef
 cases hs : aC s.sg i <;> rw [hs] at ef <;> try exact ef.elim
 rename_i ag sh es bs ck
 simp only [force_eq] at ef
 cases hw : (qW ag p.1 && oI sh p.2) with
 | false => rw [hw] at ef; exact ef.elim
 | true =>
   cases hf : hZ ag sh (AS.ev C s (.tmp x)) with
   | false => rw [hw, hf] at ef; exact ef.elim
   | true =>
     rw [hw, hf] at ef
     have ef : (⟨.int .i64 (getM es (AS.ev C s (.tmp x))), [], [], [], [i]⟩ : Ef) = r.e := ef
     rw [← ef]
     refine ⟨rfl, fun k hk => ?_⟩
     simp at hk
     subst hk
     exact ⟨_, _, _, _, _, hs⟩
theorem dN.pair {s : AS} {oj oi : Oper} {rj ri : Rc} (hj : dN C ops oj s rj) (hi : dN C ops oi s ri) (h : qi rj ri = true) (a2 : pt oi.dst (looks ops oj) = true) : quiet rj.e = true ∧ ri.e.ks = [] ∧ dN C ops oj (s.app oi.dst ri.e) rj := by
 unfold qi at h
 simp only [Bool.and_eq_true] at h
 rw [hj.lu, hi.lu] at h
 obtain ⟨l1, l2, l3⟩ := h
 obtain ⟨t, m, x, hgj, hoj, ej⟩ := AZ (Nat.eq_of_beq_eq_true l1)
 obtain ⟨t', m', x', hgi, hoi, ei⟩ := IX (Nat.eq_of_beq_eq_true l2)
 rw [ej, ei] at l3
 have l3 := yU l3
 simp only [List.cons.injEq, and_true] at l3
 obtain ⟨rfl, rfl, rfl⟩ := l3
 have efj : iV C s t (.tmp m) (.tmp x) false (fun b => b = rj.e) := by
  have := hj.ef
  unfold stepT at this
  rw [hgj] at this
  simp only [bS, hoj] at this
  exact this
 have efi : jO C s t (.tmp m) (.tmp x) (fun b => b = ri.e) := by
  have := hi.ef
  unfold stepT at this
  rw [hgi] at this
  simp only [bS, hoi] at this
  exact this
 unfold iV dV at efj
 obtain ⟨p, hp, efj⟩ := oB.1 efj
 unfold jO dV at efi
 obtain ⟨p', hp', efi⟩ := oB.1 efi
 rw [hp] at hp'; cases hp'
 have hlm : Operand.tmp m ∈ gS oj.op := by rw [hoj]; simp [gS]
 have hlx : Operand.tmp x ∈ gS oj.op := by rw [hoj]; simp [gS]
 cases hm : AS.ev C s (.tmp m) <;> rw [hm] at efj efi <;> try exact efj.elim
 rename_i i
 simp only at efj efi
 cases hs : aC s.sg i <;> rw [hs] at efj efi <;> try exact efj.elim
 rename_i ag sh es bs ck
 simp only [force_eq] at efj efi
 have hil : i < s.sg.length := (dR hs (by simp)).2
 cases hw : (qW ag p.1 && oI sh p.2) with
 | false => rw [hw] at efj; exact efj.elim
 | true =>
   cases hf : hZ ag sh (AS.ev C s (.tmp x)) with
   | false => rw [hw, hf] at efj; exact efj.elim
   | true =>
     rw [hw, hf] at efj efi
     have efj : (⟨.int .i64 (getM es (AS.ev C s (.tmp x))), [], [], [], [i]⟩ : Ef) = rj.e := efj
     have hri : ∃ v es' bs' ck', ri.e = ⟨v, [], [(i, .map ag sh es' bs' ck')], [], [i]⟩ ∧ getM es' (AS.ev C s (.tmp x)) = getM es (AS.ev C s (.tmp x)) := by
      obtain ⟨_, k1, k2⟩ := efi
      cases hfd : bB es (AS.ev C s (.tmp x)) with
      | some r =>
        have := k1 r hfd
        exact ⟨_, _, _, _, (show _ = ri.e from this).symm, rfl⟩
      | none =>
        have := k2 hfd
        exact ⟨_, _, _, _, (show _ = ri.e from this).symm, GX hfd⟩
     obtain ⟨v, es', bs', ck', hri, hget⟩ := hri
     have hks : ri.e.ks = [] := by rw [hri]
     have hlk : ∀ u ∈ looks ops oj, lk (s.app oi.dst ri.e).tm u = lk s.tm u := fun u hu => by
      rw [j7, if_neg (ui a2 hu), hks, fz]
     have hev : ∀ y ∈ gS oj.op, (s.app oi.dst ri.e).ev C y = s.ev C y := fun y hy => zc fun u hu => hlk u (List.mem_append_left _ (xB (hu ▸ hy)))
     refine ⟨by rw [← efj]; rfl, hks, ?_⟩
     have hsg : (s.app oi.dst ri.e).sg = fg s.sg i (.map ag sh es' bs' ck') := by
      rw [hri]
      simp [AS.app, ia, d7, fR]
     refine ⟨?_, hj.d, hj.us, ?_, .inl (Nat.eq_of_beq_eq_true l1), hj.lu, fun hq => ?_, ?_⟩
     . unfold stepT
       rw [hgj]
       simp only [bS, hoj]
       unfold iV dV
       refine oB.2 ⟨p, hp, ?_⟩
       rw [hev _ hlm, hm]
       simp only
       rw [hsg, GY hil]
       simp only [force_eq]
       rw [hev _ hlx, hw, hf]
       show (⟨.int .i64 (getM es' (AS.ev C s (.tmp x))), [], [], [], [i]⟩ : Ef) = rj.e
       rw [hget]
       exact efj
     . rw [hj.ov, jP hev]
     . rw [← efj] at hq; cases hq
     . have := hj.dok
       cases hd : oj.dst with
       | none => rfl
       | some d => rw [hd] at this; simp only [cW] at this ⊢; exact this
theorem dN.swap {s : AS} {oj oi : Oper} {rj ri : Rc} (hj : dN C ops oj s rj) (hi : dN C ops oi (s.app oj.dst rj.e) ri) (h : indep rj ri = true) :
   dN C ops oi s ri ∧ dN C ops oj (s.app oi.dst ri.e) rj ∧ eO ((s.app oi.dst ri.e).app oj.dst rj.e) ((s.app oj.dst rj.e).app oi.dst ri.e) := by
 unfold indep at h
 simp only [Bool.and_eq_true] at h
 obtain ⟨⟨⟨a1, a2⟩, a3⟩, h⟩ := h
 rw [hj.d, hi.us] at a1
 rw [hi.d, hj.us] at a2
 rw [hi.d, hj.d] at a3
 have hne : ∀ t, oj.dst = some t → oi.dst = some t → False := fun t h1 h2 => by
  rw [h1, h2] at a3; simp [yM] at a3
 -- what i looks at, ahead of j
 have lki : ∀ t ∈ looks ops oi, lk (s.app oj.dst rj.e).tm t = (lk s.tm t).kill rj.e.ks := fun t ht => by
  rw [j7, if_neg (ui a1 ht)]
 have lkj : ∀ t ∈ looks ops oj, lk (s.app oi.dst ri.e).tm t = (lk s.tm t).kill ri.e.ks := fun t ht => by
  rw [j7, if_neg (ui a2 ht)]
 have hfin : (rj.e.ks = [] ∨ ri.e.ks = []) → rj.e.v.kill ri.e.ks = rj.e.v → ri.e.v.kill rj.e.ks = ri.e.v → ((s.app oi.dst ri.e).app oj.dst rj.e).sg = ((s.app oj.dst rj.e).app oi.dst ri.e).sg →
    eO ((s.app oi.dst ri.e).app oj.dst rj.e) ((s.app oj.dst rj.e).app oi.dst ri.e) := fun hks hv1 hv2 hsg => by
  refine ⟨rfl, fun t => ?_, hsg, fun i => by simp only [AS.app, gV]; exact or_left_comm⟩
  rw [j7, j7, j7, j7]
  by_cases e1 : oj.dst = some t
  . rw [if_pos e1, if_pos e1, if_neg (fun e2 => hne t e1 e2), hv1]
  . rw [if_neg e1, if_neg e1]
    by_cases e2 : oi.dst = some t
    . rw [if_pos e2, if_pos e2, hv2]
    . rw [if_neg e2, if_neg e2]
      rcases hks with hks | hks <;> rw [hks, fz, fz]
 cases hpl : qi rj ri with
 | true =>
   have hqj : quiet rj.e = true := by
    have hp2 := hpl
    unfold qi at hp2
    simp only [Bool.and_eq_true] at hp2
    rw [hj.lu] at hp2
    exact (hj.look (Nat.eq_of_beq_eq_true hp2.1)).1
   obtain ⟨j1, j2, j3⟩ := lU.1 hqj
   have hsi : dN C ops oi s ri := hi.loc rfl (fun t ht => by rw [lki t ht, j1, fz]) (.inl (fG hqj).symm)
   rw [← hi.d] at a2
   obtain ⟨_, i1, hsj⟩ := hj.pair hsi hpl (hi.d ▸ a2)
   refine ⟨hsi, hsj, hfin (.inl j1) (by rw [i1, fz]) (by rw [j1, fz]) ?_⟩
   rw [fG hqj, jJ, jJ, fG hqj]
 | false =>
 rw [hpl, Bool.false_or] at h
 cases hqj : quiet rj.e with
 | true =>
   obtain ⟨j1, j2, j3⟩ := lU.1 hqj
   have hsi : dN C ops oi s ri := hi.loc rfl (fun t ht => by rw [lki t ht, j1, fz]) (.inl (fG hqj).symm)
   cases hqi : quiet ri.e with
   | true =>
     obtain ⟨i1, i2, i3⟩ := lU.1 hqi
     refine ⟨hsi, hj.loc rfl (fun t ht => by rw [lkj t ht, i1, fz]) (.inl (fG hqi)), hfin (.inl j1) (by rw [i1, fz]) (by rw [j1, fz]) ?_⟩
     rw [fG hqj, fG hqi, fG hqi, fG hqj]
   | false =>
     rw [hqj, hqi] at h
     simp only [Bool.and_eq_true] at h
     obtain ⟨⟨⟨⟨b1, b2⟩, b3⟩, b4⟩, b5⟩ := h
     rw [hj.ov] at b1
     have hb2 : ∀ r ∈ rj.e.rd, (aC s.sg r).kill ri.e.ks = aC s.sg r := fun r hr => by
      rcases hj.oo with q | q
      . obtain ⟨_, _, _, _, _, hm⟩ := (hj.look q).2 r hr
        rw [hm]; rfl
      . rw [q] at b2; exact zt b2 r hr
     have hn : ri.n = s.sg.length := by rw [hi.n hqi, fG hqj]
     rw [hn] at b5
     refine ⟨hsi, hj.loc rfl (fun t ht => ?_) (.inr ⟨hqj, fun r hr => ?_⟩), hfin (.inl j1) (o9 b3) (by rw [j1, fz]) ?_⟩
     . rw [lkj t ht]
       rcases List.mem_append.1 ht with ht | ht
       . have : ∀ (l : List Operand) t, t ∈ tmpsOf l → Operand.tmp t ∈ l := by
           intro l
           induction l with
           | nil => intro t h; simp [tmpsOf] at h
           | cons x xs ih =>
             intro t h
             cases x <;> simp only [tmpsOf, List.mem_cons] at h ⊢ <;> first
              | exact .inr (ih t h)
              | (rcases h with rfl | h
                 . exact .inl rfl
                 . exact .inr (ih t h))
         exact o9 (zr b1 _ (uu (this _ _ ht)))
       . rcases Ch hj.ef t ht with ⟨b, hb⟩ | hb <;> rw [hb] <;> simp [V.kill, V.dK]
     . rw [zy (tP b5 r hr) (fun p hp e => tT b4 p hp (e ▸ hr)), hb2 r hr]
     . rw [fG hqj, jJ, jJ, fG hqj]
 | false =>
   cases hqi : quiet ri.e with
   | false => rw [hqj, hqi] at h; cases h
   | true =>
     obtain ⟨i1, i2, i3⟩ := lU.1 hqi
     rw [hqj, hqi] at h
     simp only [Bool.and_eq_true] at h
     obtain ⟨⟨⟨⟨b1, b2⟩, b3⟩, b4⟩, b5⟩ := h
     rw [hi.ov] at b1
     have hb2 : ∀ r ∈ ri.e.rd, aC (s.app oj.dst rj.e).sg r = (aC s.sg r).kill rj.e.ks → aC (s.app oj.dst rj.e).sg r = aC s.sg r := fun r hr he => by
      rcases hi.oo with q | q
      . obtain ⟨_, _, _, _, _, hm⟩ := (hi.look q).2 r hr
        rw [hm] at he ⊢
        cases hg : aC s.sg r <;> rw [hg] at he <;> first
         | (cases he; done)
         | exact he
      . rw [q] at b2; exact Cf b2 r hr he
     rw [hj.n hqj] at b5
     have hlk : ∀ t ∈ looks ops oi, lk s.tm t = lk (s.app oj.dst rj.e).tm t := fun t ht => by
      have h1 := lki t ht
      rw [h1]
      refine (rO ?_).symm
      rw [← h1]
      rcases List.mem_append.1 ht with ht | ht
      . have : ∀ (l : List Operand) t, t ∈ tmpsOf l → Operand.tmp t ∈ l := by
          intro l
          induction l with
          | nil => intro t h; simp [tmpsOf] at h
          | cons x xs ih =>
            intro t h
            cases x <;> simp only [tmpsOf, List.mem_cons] at h ⊢ <;> first
             | exact .inr (ih t h)
             | (rcases h with rfl | h
                . exact .inl rfl
                . exact .inr (ih t h))
        exact Ce b1 _ (uu (this _ _ ht))
      . rcases Ch hi.ef t ht with ⟨b, hb⟩ | hb <;> rw [hb] <;> rfl
     refine ⟨hi.loc rfl hlk (.inr ⟨hqi, fun r hr => ?_⟩), hj.loc rfl (fun t ht => by rw [lkj t ht, i1, fz]) (.inl (fG hqi)), hfin (.inr i1) (by rw [i1, fz]) (o9 b3) ?_⟩
     . exact (hb2 r hr (zy (tP b5 r hr) (fun p hp e => tT b4 p hp (e ▸ hr)))).symm
     . show fR (d7 (ia rj.e.ks (s.app oi.dst ri.e).sg) rj.e.up) rj.e.nw = _
       rw [fG hqi, fG hqi]; rfl

def gk (C : Ctx) (ops : List Oper) (f : Nat → Rc) (sN : AS) : List Nat → AS → Prop
 | [], s => eO s sN
 | i :: L, s => ∃ o, ops[i]? = some o ∧ dN C ops o s (f i) ∧ gk C ops f sN L (s.app o.dst (f i).e)

theorem gk.eqv {f : Nat → Rc} {sN : AS} : ∀ {L : List Nat} {s s' : AS}, gk C ops f sN L s → eO s s' → gk C ops f sN L s'
 | [], _, _, h, e => e.symm.trans h
 | _ :: _, _, _, ⟨o, h1, h2, h3⟩, e => ⟨o, h1, h2.eqv e, h3.eqv (e.app _ _)⟩

theorem gk.front {f : Nat → Rc} {sN : AS} {i : Nat} {l2 : List Nat} : ∀ {l1 : List Nat} {s : AS}, gk C ops f sN (l1 ++ i :: l2) s → (∀ j ∈ l1, indep (f j) (f i) = true) → gk C ops f sN (i :: (l1 ++ l2)) s
 | [], _, h, _ => h
 | j :: l1, s, ⟨oj, h1, h2, h3⟩, hi => by
   obtain ⟨oi, k1, k2, k3⟩ := gk.front h3 fun k hk => hi k (List.mem_cons_of_mem _ hk)
   obtain ⟨q1, q2, q3⟩ := h2.swap k2 (hi j (by simp))
   exact ⟨oi, k1, q1, oj, h1, q2, k3.eqv q3.symm⟩
end
end Go.VG
