/-
  A part of the proof.
-/
import Derived.Test.YtllncocibkgjkaaGreatVgO
set_option linter.unusedSimpArgs false
set_option linter.unusedVariables false
namespace Go.VG
open Go

theorem m9 {e : Ef} : quiet e = true ↔ e.ks = [] ∧ e.up = [] ∧ e.nw = [] := by
 obtain ⟨v, ks, up, nw, rd⟩ := e
 cases ks <;> cases up <;> cases nw <;> simp [quiet]

mutual
theorem vC : ∀ {x : V} {acc : List Nat} {i : Nat}, i ∈ acc → i ∈ V.names x acc
 | .ptr j _, acc, i, h | .bptr j _ _, acc, i, h | .buf j, acc, i, h | .map j, acc, i, h => by
   simp only [V.names]
   cases aH j acc with
   | true => exact h
   | false => exact List.mem_append_left _ h
 | .agg cs, acc, i, h | .tuple cs, acc, i, h => by simp only [V.names]; exact qw h
 | .iface _ x, acc, i, h => by simp only [V.names]; exact vC h
 | .func _ fs cs, acc, i, h => by simp only [V.names]; exact qw (qw h)
 | .undef, _, _, h | .int .., _, _, h | .bool _, _, _, h | .str _, _, _, h | .list .., _, _, h | .nilptr, _, _, h | .box .., _, _, h | .nilIface, _, _, h | .nilFunc, _, _, h | .nilmap, _, _, h => by simp only [V.names]; exact h
theorem qw : ∀ {x : List V} {acc : List Nat} {i : Nat}, i ∈ acc → i ∈ V.dv x acc
 | [], _, _, h => by simp only [V.dv]; exact h
 | c :: cs, _, _, h => by simp only [V.dv]; exact qw (vC h)
end
theorem BN {o : O} {acc : List Nat} {i : Nat} (h : i ∈ acc) : i ∈ o.names acc := by
 cases o <;> simp only [O.names] <;> first | exact h | exact qw h | exact vC h

theorem Ca {sg : List O} : ∀ {fuel : Nat} {todo acc : List Nat} {i : Nat}, i ∈ acc → i ∈ reach sg fuel todo acc
 | 0, _, _, _, h => by simp only [reach]; exact h
 | _ + 1, [], _, _, h => by simp only [reach]; exact h
 | fuel + 1, k :: todo, acc, i, h => by simp only [reach]; exact Ca (BN h)
theorem Cb {sg sg' : List O} : ∀ {fuel : Nat} {todo acc : List Nat}, (∀ i ∈ todo, i ∈ acc) → (∀ r ∈ reach sg fuel todo acc, aC sg' r = aC sg r) → reach sg' fuel todo acc = reach sg fuel todo acc
 | 0, _, _, _, _ => by simp only [reach]
 | _ + 1, [], _, _, _ => by simp only [reach]
 | fuel + 1, k :: todo, acc, ht, h => by
   have hk : aC sg' k = aC sg k := h k (Ca (ht k (by simp)))
   simp only [reach] at h ⊢
   rw [hk]
   refine Cb (fun i hi => ?_) h
   rcases List.mem_append.1 hi with hi | hi
   . exact BN (ht i (List.mem_cons_of_mem _ hi))
   . exact List.mem_of_mem_drop hi

theorem yA {sg sg' : List O} : ∀ {th : List Nat}, (∀ r ∈ th, aC sg' r = aC sg r) → gy sg' th = gy sg th
 | [], _ => rfl
 | k :: ks, h => by simp only [gy, h k (by simp), yA (th := ks) fun r hr => h r (List.mem_cons_of_mem _ hr)]
theorem zd {sg sg' : List O} {th0 : List Nat} : ∀ {th : List Nat}, (∀ r ∈ th, aC sg' r = aC sg r) → gz sg' th0 th = gz sg th0 th
 | [], _ => rfl
 | k :: ks, h => by simp only [gz, h k (by simp), zd (th := ks) fun r hr => h r (List.mem_cons_of_mem _ hr)]
theorem Bi {sg sg' : List O} {f : Nat → Option Nat} : ∀ {th : List Nat}, (∀ r ∈ th, aC sg' r = aC sg r) → locals sg' f th = locals sg f th
 | [], _ => rfl
 | k :: ks, h => by simp only [locals, h k (by simp), Bi (th := ks) fun r hr => h r (List.mem_cons_of_mem _ hr)]
theorem yR {sg sg' : List O} : ∀ {th : List Nat}, (∀ r ∈ th, aC sg' r = aC sg r) → gY sg' th = gY sg th
 | [], _ => rfl
 | k :: ks, h => by simp only [gY, h k (by simp), yR (th := ks) fun r hr => h r (List.mem_cons_of_mem _ hr)]
theorem yK {n n' : Nat} : ∀ {th : List Nat}, cB th n 0 = cB th n' 0
 | [] => rfl
 | k :: ks => by
   funext j
   cases j with
   | zero => simp [cB]
   | succ j => simp only [cB]; exact congrFun (yK (th := ks)) j

section
variable {C : Ctx} {s s' : AS} {o : Oper} {e : Ef}

theorem zD {sg sg' : List O} {f : FuncId} {args : List V} {pre : Prop} (h : ew C sg f args = some (pre, e)) (hq : quiet e = true) (hr : ∀ r ∈ e.rd, aC sg' r = aC sg r) : ew C sg' f args = some (pre, e) := by
 unfold ew at h ⊢
 rw [lN, lN] at h ⊢
 -- what is read
 have hrd : e.rd = reach sg 256 (V.dv args []) (V.dv args []) := by
  unfold pQ at h
  simp only [iT, oe] at h
  cases hc : (gd (reach sg 256 (V.dv args []) (V.dv args [])) && gy sg (reach sg 256 (V.dv args []) (V.dv args []))) with
  | false => rw [hc] at h; cases h
  | true =>
    rw [hc, cond_true] at h
    split at h
    . cases h
    . cases hcl : gz sg (reach sg 256 (V.dv args []) (V.dv args [])) (reach sg 256 (V.dv args []) (V.dv args [])) with
      | false => rw [hcl] at h; cases h
      | true => rw [hcl] at h; cases h; rfl
    . cases h; rfl
 rw [hrd] at hr
 rw [Cb (fun _ h => h) hr]
 generalize reach sg 256 (V.dv args []) (V.dv args []) = th at *
 unfold pQ at h ⊢
 simp only [iT, oe] at h ⊢
 rw [yA hr, zd hr, Bi hr, yR hr]
 cases hc : (gd th && gy sg th) with
 | false => rw [hc] at h; cases h
 | true =>
   rw [hc, cond_true] at h
   rw [cond_true]
   generalize C.Γ f (V.gM (fun i => idxOf i th 0) args) (locals sg (fun i => idxOf i th 0) th) = r at h ⊢
   rcases r with _ | ⟨pre', v, _ | σ⟩
   . cases h
   . exact h
   . simp only [Option.some.injEq, Prod.mk.injEq] at h ⊢
     obtain ⟨rfl, rfl⟩ := h
     refine ⟨rfl, ?_⟩
     obtain ⟨q1, q2, q3⟩ := m9.1 hq
     simp only [oH, List.map_eq_nil_iff] at q3
     rw [q3]
     simp only [List.length_nil]
     rw [yK (n := sg'.length) (n' := sg.length)]

theorem jJ : ∀ {l : List Operand}, (∀ x ∈ l, s'.ev C x = s.ev C x) → s'.bq C l = s.bq C l
 | [], _ => rfl
 | x :: xs, h => by simp only [AS.bq, h x (by simp), jJ (l := xs) fun y hy => h y (List.mem_cons_of_mem _ hy)]
theorem rQ : ∀ {l : List (Nat × Operand)}, (∀ x ∈ qE l, s'.ev C x = s.ev C x) → g9 C s' l = g9 C s l
 | [], _ => rfl
 | (i, x) :: r, h => by simp only [g9, h x (by simp [qE]), rQ (l := r) fun y hy => h y (by simp [qE, hy])]
theorem zF {n : Nat} {lo hi : Option Operand} (h1 : ∀ x ∈ kK lo, s'.ev C x = s.ev C x) (h2 : ∀ x ∈ kK hi, s'.ev C x = s.ev C x) : hZ C s' n lo hi = hZ C s n lo hi := by
 cases lo <;> cases hi <;> simp only [hZ] <;> simp only [kK, List.mem_singleton, forall_eq, List.not_mem_nil] at h1 h2 <;> simp only [h1, h2]
theorem zt {x : V} (h : ∀ i, x = .buf i → aC s'.sg i = aC s.sg i) : elems s' x = elems s x := by
 unfold elems
 cases x <;> try rfl
 rename_i i
 simp only [h i rfl]
theorem CR {c : Call} (h : ∀ x ∈ gS (.call c), s'.ev C x = s.ev C x) : target C s' c = target C s c := by
 unfold target
 cases hc : c.callee with
 | value f =>
   simp only [gS, hc] at h
   simp only [h f (by simp), jJ fun x hx => h x (List.mem_cons_of_mem _ hx)]
 | invoke r m => rfl
 | builtin b => rfl

theorem yU {r : Option (Prop × Ef)} {e : Ef} (h : d5 r (fun b => b = e)) : ∃ pre : Prop, r = some (pre, e) ∧ pre := by
 cases r with
 | none => exact h.elim
 | some p =>
   have h1 : p.1 := h.1
   have h2 : gD p.2 (fun b => b = e) := h.2
   rw [ia] at h2
   exact ⟨p.1, by rw [← h2], h1⟩
theorem yT {r : Option (Prop × Ef)} {e : Ef} {pre : Prop} (h : r = some (pre, e)) (hp : pre) : d5 r (fun b => b = e) := by
 subst h
 refine ⟨hp, ?_⟩
 show gD e _
 rw [ia]

theorem uC (h : ∀ x ∈ gS o.op, s'.ev C x = s.ev C x) (hs : s'.sg = s.sg) : bV C s' o = bV C s o := by
 obtain ⟨dst, op, type, pos, after, guard⟩ := o
 have hel : ∀ x, elems s' x = elems s x := fun x => zt fun i _ => by rw [hs]
 cases op <;> simp only [bV, gS] at h ⊢
 case move x => rw [h x (by simp)]
 case assign x => rw [h x (by simp)]
 case pick c a b => simp only [nX, h c (by simp), h a (by simp), h b (by simp)]
 case alloc t => simp only [lj, hs]
 case box t x => rw [h x (by simp), hs]
 case build t ps => simp only [mI, rQ h]
 case buildSlice t n ps => simp only [kp, nT, iC, rQ h, hs]
 case load t x => simp only [kq, h x (by simp), hs]
 case store t x y => simp only [lF, h x (by simp), h y (by simp), hs]
 case nilCheck x => simp only [lE, h x (by simp)]
 case binOp b t x y u => rw [h x (by simp), h y (by simp)]
 case unOp b t x => rw [h x (by simp)]
 case convert a b x => simp only [lD, iD, h x (by simp), hel, hs]
 case makeInterface t x => simp only [nU, h x (by simp)]
 case makeFunc fn a b => rw [jJ fun x hx => h x (by simp [hx]), jJ fun x hx => h x (by simp [hx])]
 case makeSlice t x y => simp only [lB, h x (by simp), h y (by simp), hs]
 case slice t x lo hi mx =>
  have hr : ∀ n, hZ C s' n lo hi = hZ C s n lo hi := fun n => zF (fun x hx => h x (by simp [hx])) (fun x hx => h x (by simp [hx]))
  have hh : ∀ y, hi = some y → s'.ev C y = s.ev C y := fun y hy => h y (by simp [hy, kK])
  have hm : ∀ y, mx = some y → s'.ev C y = s.ev C y := fun y hy => h y (by simp [hy, kK])
  simp only [mO, h x (by simp), hs, hr]
  repeat' (first
   | rfl
   | (simp only [hh _ rfl]; done)
   | (simp only [hh _ rfl, hm _ rfl]; done)
   | split)
 case fieldAddr t x f => simp only [lv, h x (by simp)]
 case field t x f => simp only [lq, h x (by simp)]
 case indexAddr t x y => simp only [mM, h x (by simp), h y (by simp), hs]
 case index t x y => simp only [nS, h x (by simp), h y (by simp)]
 case typeAssert x _ t ok => simp only [nP, h x (by simp)]
 case extract x i => simp only [nR, h x (by simp)]
 case range t x => simp only [ly, lz, dZ, h x (by simp), hs]
 case makeMap t r => cases r <;> simp only [lA, hs]
 case lookup t m x ok => simp only [iR, dZ, h m (by simp), h x (by simp), hs]
 case mapUpdate t m x y => simp only [lC, dZ, h m (by simp), h x (by simp), h y (by simp), hs]
 case mapEntry t m x => simp only [jI, dZ, h m (by simp), h x (by simp), hs]
 case entryStore t m b y => simp only [lp, dZ, h m (by simp), h b (by simp), h y (by simp), hs]
 case entry x => simp only [mL, h x (by simp), hs]
 case next x b => simp only [mN, h x (by simp), hs]
 case call c =>
  have ht := CR (C := C) (s := s) (s' := s') (c := c) (by simpa only [gS] using h)
  unfold mJ
  cases hc : c.callee with
  | value f => simp only [ht, hs]
  | invoke r m =>
    simp only [hc] at h
    simp only [h r (by simp), jJ fun x hx => h x (List.mem_cons_of_mem _ hx), hs]
  | builtin b =>
    simp only [hc] at h
    simp only [jJ h]
    have hb : ∀ xs, ji C s' b c.argTypes.toList xs = ji C s b c.argTypes.toList xs := fun xs => by
     unfold ji
     simp only [hs, hel, ll, ln, dZ]
    simp only [hb]
end
end Go.VG
namespace Go.VG
open Go

section
variable {C : Ctx} {s s' : AS} {o : Oper} {e : Ef} {nt : Nat} {tm : List (Nat × V)} {sg sg' : List O} {kl : List Nat}

theorem Jm {t : TypeId} : a6 (fun e => quiet e = false) (lj C s t) := by
 unfold lj
 split
 . exact a6.fail
 . rw [force_eq, d7]; exact a6.when fun _ => a6.ret rfl
theorem Jo {x : V} : a6 (fun e => quiet e = false) (force x fun x => bc s.sg.length fun n => bk (!x.dX) (ret ⟨.ptr n 0, [], [], [.cells x.cells], []⟩)) := by
 rw [force_eq, d7]; exact a6.when fun _ => a6.ret rfl
theorem Jv {t : TypeId} {x y : Operand} : a6 (fun e => quiet e = false) (lB C s t x y) := by
 unfold lB
 split
 . split
   . exact a6.fail
   . refine a6.when fun _ => a6.aD fun _ => ?_
     rw [d7, d7, force_eq]
     exact a6.ret rfl
 . exact a6.fail
theorem Jt {t : TypeId} {len : Nat} {ps : Array (Nat × Operand)} : a6 (fun e => quiet e = false) (nT C s t len ps) := by
 unfold nT
 refine a6.bind (pP _ _ _ _ _) fun e _ => ?_
 split
 . rw [d7]; exact a6.ret rfl
 . exact a6.fail
theorem oP {α β : Type} {o : Option α} {f : α → Tr β} {K : β → Prop} : dq o f K ↔ ∃ a, o = some a ∧ f a K := by
 cases o with
 | none => exact ⟨fun h => h.elim, fun ⟨_, h, _⟩ => by cases h⟩
 | some a => exact ⟨fun h => ⟨a, rfl, h⟩, fun ⟨_, h, k⟩ => by cases h; exact k⟩
theorem qz {t : TypeId} {m : V} {F : Nat → Bool → List Sc → List (V × Int) → List Nat → Nat → Tr Ef} (h : ∀ i ag sh es bs ck, a6 (fun e => quiet e = false) (F i ag sh es bs ck)) : a6 (fun e => quiet e = false) (dZ C s t m F) := by
 unfold dZ
 refine a6.opt fun _ _ => ?_
 split
 . split
   . exact a6.when fun _ => h _ _ _ _ _ _
   . exact a6.fail
 . exact a6.fail
theorem Ju {t : TypeId} : a6 (fun e => quiet e = false) (lA C s t) := by
 unfold lA
 refine a6.opt fun _ _ => ?_
 rw [d7]
 exact a6.ret rfl
theorem Jx {t : TypeId} {m x y : Operand} : a6 (fun e => quiet e = false) (lC C s t m x y) := by
 unfold lC
 refine qz fun i ag sh es bs ck => ?_
 rw [force_eq]
 refine a6.when fun _ => ?_
 split
 . exact a6.d8 (fun _ _ => a6.ret rfl) (fun _ => a6.ret rfl)
 . exact a6.fail
theorem Jw {t : TypeId} {m x : Operand} : a6 (fun e => quiet e = false) (jI C s t m x) := by
 unfold jI
 refine qz fun i ag sh es bs ck => ?_
 rw [force_eq]
 exact a6.when fun _ => a6.aD fun _ => a6.d8 (fun _ _ => a6.ret rfl) (fun _ => a6.ret rfl)
theorem Jq {t : TypeId} {m x y : Operand} : a6 (fun e => quiet e = false) (lp C s t m x y) := by
 unfold lp
 refine qz fun i ag sh es bs ck => ?_
 split
 . exact a6.ex fun _ => a6.aD fun _ => a6.ret rfl
 . exact a6.fail
theorem Jp {t : TypeId} {m x : V} : a6 (fun e => quiet e = false) (ln C s t m x) := by
 unfold ln
 refine qz fun i ag sh es bs ck => ?_
 rw [force_eq]
 exact a6.when fun _ => a6.d8 (fun _ _ => a6.ret rfl) (fun _ => a6.ret rfl)
theorem Js {t : TypeId} {m : V} : a6 (fun e => quiet e = false) (lz C s t m) := by
 unfold lz
 refine qz fun i ag sh es bs ck => ?_
 rw [d7]
 exact a6.ret rfl
theorem Jr {t : TypeId} {x : Operand} : a6 (fun e => quiet e = false) (ly C s t x) := by
 unfold ly
 split
 . rw [d7]; exact a6.ret rfl
 . exact Js
 . exact a6.fail
theorem Jy {t : TypeId} {x y : Operand} : a6 (fun e => quiet e = false) (lF C s t x y) := by
 unfold lF
 simp only [jm]
 split
 . exact a6.fail
 . rw [force_eq]
   refine a6.when fun _ => ?_
   split
   . split
     . exact a6.opt fun _ _ => a6.ret rfl
     . exact a6.fail
   . split
     . refine a6.opt fun _ _ => ?_
       split
       . exact a6.when fun _ => a6.opt fun _ _ => a6.aD fun _ => a6.ret rfl
       . exact a6.fail
     . exact a6.fail
   . exact a6.fail
theorem Jn {t : TypeId} {x : V} {ys : List V} {rd : List Nat} : a6 (fun e => quiet e = false) (ll C s t x ys rd) := by
 unfold ll
 split
 . refine a6.when fun _ => a6.aD fun _ => a6.aD fun _ => ?_
   rw [d7, d7]; exact a6.ret rfl
 . split
   . exact a6.when fun _ => a6.aD fun _ => a6.ret rfl
   . exact a6.fail
 . exact a6.fail

theorem Ei {x : V} : a6 (fun r => ∀ i, x = .buf i → r.2.2 = [i]) (elems s x) := by
 unfold elems
 split
 . exact a6.ret fun i h => by cases h
 . exact a6.ret fun i h => by cases h
 . split
   . exact a6.ret fun i h => by cases h; rfl
   . exact a6.fail
 . exact a6.fail

theorem EW (he : bV C ⟨nt, tm, sg, kl⟩ o (fun b => b = e)) (hq : quiet e = true) (hr : ∀ r ∈ e.rd, aC sg' r = aC sg r) : bV C ⟨nt, tm, sg', kl⟩ o (fun b => b = e) := by
  obtain ⟨dst, op, type, pos, after, guard⟩ := o
  have hev : ∀ x, AS.ev C ⟨nt, tm, sg', kl⟩ x = AS.ev C ⟨nt, tm, sg, kl⟩ x := fun _ => rfl
  have hevs : ∀ l, AS.bq C ⟨nt, tm, sg', kl⟩ l = AS.bq C ⟨nt, tm, sg, kl⟩ l := fun l => jJ fun _ _ => rfl
  have hps : ∀ l, g9 C ⟨nt, tm, sg', kl⟩ l = g9 C ⟨nt, tm, sg, kl⟩ l := fun l => rQ fun _ _ => rfl
  have hrg : ∀ n lo hi, hZ C ⟨nt, tm, sg', kl⟩ n lo hi = hZ C ⟨nt, tm, sg, kl⟩ n lo hi := fun n lo hi => zF (fun _ _ => rfl) (fun _ _ => rfl)
  have hno : ∀ {p : Prop}, quiet e = false → p := fun h => by rw [h] at hq; cases hq
  cases op <;> simp only [bV] at he ⊢
  case move x => exact he
  case assign x => exact he
  case pick c a b => exact he
  case alloc t => exact hno (Jm e he)
  case box t x => exact hno (Jo (s := ⟨nt, tm, sg, kl⟩) e he)
  case build t ps => simp only [mI, hps] at he ⊢; exact he
  case buildSlice t n ps =>
   have hb : iC C ⟨nt, tm, sg', kl⟩ t n ps = iC C ⟨nt, tm, sg, kl⟩ t n ps := by simp only [iC, hps]
   cases dst with
   | none => simp only [kp, hb] at he ⊢; exact he
   | some d =>
     simp only [kp] at he ⊢
     cases hd : C.lits d with
     | false => rw [hd] at he; simp only [cond_false, hb] at he ⊢; exact he
     | true => rw [hd] at he; exact hno (Jt e he)
  case load t x =>
   unfold kq at he ⊢
   simp only [jm] at he ⊢
   rw [hev]
   cases hv : AS.ev C ⟨nt, tm, sg, kl⟩ x <;> rw [hv] at he <;> try exact he
   . rename_i i off
     have hi : i ∈ e.rd := by
      refine (?_ : a6 (fun e : Ef => i ∈ e.rd) _) e he
      split
      . exact a6.fail
      . simp only
        split
        . refine a6.bind (dw _ _ _ _) fun v _ => ?_
          rw [force_eq]; exact a6.ret (by simp)
        . exact a6.fail
     simp only [hr i hi]
     exact he
   . rename_i i idx off
     have hi : i ∈ e.rd := by
      refine (?_ : a6 (fun e : Ef => i ∈ e.rd) _) e he
      split
      . exact a6.fail
      . simp only
        split
        . refine a6.opt fun _ _ => a6.when fun _ => a6.bind (dw _ _ _ _) fun v _ => ?_
          rw [force_eq]; exact a6.ret (by simp)
        . exact a6.fail
     simp only [hr i hi]
     exact he
  case store t x y => exact hno (Jy e he)
  case nilCheck x => exact he
  case binOp b t x y u => exact he
  case unOp b t x => exact he
  case convert a b x =>
   rw [hev]
   have hmk : (iD C ⟨nt, tm, sg, kl⟩ a b (AS.ev C ⟨nt, tm, sg, kl⟩ x) (fun b => b = e) → iD C ⟨nt, tm, sg', kl⟩ a b (AS.ev C ⟨nt, tm, sg, kl⟩ x) (fun b => b = e)) → lD C ⟨nt, tm, sg', kl⟩ a b (AS.ev C ⟨nt, tm, sg, kl⟩ x) (fun b => b = e) := fun hk => by
    unfold lD at he ⊢
    cases hv : AS.ev C ⟨nt, tm, sg, kl⟩ x <;> rw [hv] at he hk <;> try exact hk he
    rename_i i
    simp only at he ⊢
    cases hb : Nat.beq a b with
    | false => rw [hb] at he; exact hk he
    | true =>
      rw [hb] at he
      refine hno ((?_ : a6 (fun e : Ef => quiet e = false) _) e he)
      simp only [cond_true]
      split
      . split
        . split
          . exact a6.ret rfl
          . exact a6.fail
        . exact a6.fail
      . exact a6.fail
   refine hmk fun he => ?_
   have hc : ∀ v, elems ⟨nt, tm, sg', kl⟩ v = elems ⟨nt, tm, sg, kl⟩ v → iD C ⟨nt, tm, sg', kl⟩ a b v = iD C ⟨nt, tm, sg, kl⟩ a b v := fun v hel => by
    unfold iD
    repeat' (first
     | rfl
     | (simp only [hel]; done)
     | split)
   generalize AS.ev C ⟨nt, tm, sg, kl⟩ x = v at he ⊢
   rw [hc v (zt fun i hv => ?_)]
   . exact he
   subst hv
   refine hr i ?_
   refine (?_ : a6 (fun e : Ef => i ∈ e.rd) _) e he
   unfold iD
   split <;> first
    | exact a6.fail
    | contradiction
    | skip
   split
   . exact a6.fail
   . refine a6.bind (lh _ _) fun r hr' => ?_
     have := Ei r (hr' _ rfl) i rfl
     obtain ⟨sz, l, rd⟩ := r
     simp only at this
     subst this
     exact a6.when fun _ => a6.ex fun _ => a6.aD fun _ => a6.ret (by simp)
   . exact a6.fail
  case makeInterface t x => exact he
  case makeFunc fn a b => rw [hevs, hevs]; exact he
  case makeSlice t x y => exact hno (Jv e he)
  case slice t x lo hi mx =>
   unfold mO at he ⊢
   rw [hev]
   simp only [hrg, hev] at he ⊢
   generalize AS.ev C ⟨nt, tm, sg, kl⟩ x = v at he ⊢
   by_cases hv : ∃ i, v = .buf i
   . obtain ⟨i, rfl⟩ := hv
     refine hno ((?_ : a6 (fun e : Ef => quiet e = false) _) e he)
     split <;> first
      | exact a6.fail
      | contradiction
      | skip
     all_goals
      split
      . exact a6.fail
      . split
        . split
          . exact a6.when fun _ => a6.aD fun _ => a6.ret rfl
          . exact a6.fail
        . exact a6.fail
   . by_cases hp : ∃ i a, v = .ptr i a
     . obtain ⟨i, a, rfl⟩ := hp
       refine hno ((?_ : a6 (fun e : Ef => quiet e = false) _) e he)
       split <;> first
        | exact a6.fail
        | contradiction
        | skip
       split
       . exact a6.fail
       . split
         . exact a6.when fun _ => a6.opt fun _ _ => a6.bind (ey _ _ _ _ _) fun _ _ => by rw [pL]; exact a6.ret rfl
         . exact a6.fail
     cases v <;> first
      | exact absurd ⟨_, rfl⟩ hv
      | exact absurd ⟨_, _, rfl⟩ hp
      | skip
     all_goals (generalize (C.ti t).k = k at he ⊢; cases k <;> cases mx <;> exact he)
  case fieldAddr t x f => exact he
  case field t x f => exact he
  case indexAddr t x y =>
   unfold mM at he ⊢
   simp only [jm] at he ⊢
   rw [hev, hev]
   generalize AS.ev C ⟨nt, tm, sg, kl⟩ x = v at he ⊢
   generalize AS.ev C ⟨nt, tm, sg, kl⟩ y = u at he ⊢
   by_cases hv : ∃ i, v = .buf i
   . obtain ⟨i, rfl⟩ := hv
     have hi : i ∈ e.rd := by
      refine (?_ : a6 (fun e : Ef => i ∈ e.rd) _) e he
      split <;> first
       | exact a6.fail
       | contradiction
       | skip
      rename_i h
      cases h
      split
      . exact a6.fail
      . split
        . exact a6.when fun _ => a6.aD fun _ => a6.ret (by simp)
        . exact a6.fail
     generalize (C.ti t).k = k at he ⊢
     cases k <;> cases u <;> simp only [hr i hi] <;> exact he
   . cases v <;> first
       | exact absurd ⟨_, rfl⟩ hv
       | skip
     all_goals (generalize (C.ti t).k = k at he ⊢; cases k <;> cases u <;> exact he)
  case index t x y => exact he
  case typeAssert x _ t ok => exact he
  case extract x i => exact he
  case range t x => exact hno (Jr e he)
  case makeMap t r => cases r with
   | none => exact hno (Ju e he)
   | some r => exact he
  case mapUpdate t m x y => exact hno (Jx e he)
  case mapEntry t m x => exact hno (Jw e he)
  case entryStore t m b y => exact hno (Jq e he)
  case lookup t m x ok =>
   unfold iR dZ at he ⊢
   rw [hev, hev]
   obtain ⟨p, hp, he⟩ := oP.1 he
   refine oP.2 ⟨p, hp, ?_⟩
   generalize AS.ev C ⟨nt, tm, sg, kl⟩ m = v at he ⊢
   cases v <;> try exact he
   rename_i i
   have hi : i ∈ e.rd := by
    refine (?_ : a6 (fun e : Ef => i ∈ e.rd) _) e he
    simp only
    split
    . rw [force_eq]
      refine a6.when fun _ => a6.when fun _ => ?_
      split
      . exact a6.d8 (fun _ _ => a6.ret (by simp)) (fun _ => a6.ret (by simp))
      . exact a6.ret (by simp)
    . exact a6.fail
   simp only [hr i hi]
   exact he
  case entry x =>
   unfold mL at he ⊢
   simp only [jm] at he ⊢
   rw [hev]
   generalize AS.ev C ⟨nt, tm, sg, kl⟩ x = v at he ⊢
   cases v <;> try exact he
   rename_i k off
   cases off with
   | succ off => exact he
   | zero =>
     have hk : k ∈ e.rd ∧ ∀ i bs ck left last, aC sg k = .miter (.map i) bs ck left last → i ∈ e.rd := by
      refine (?_ : a6 (fun e : Ef => k ∈ e.rd ∧ ∀ i bs ck left last, aC sg k = .miter (.map i) bs ck left last → i ∈ e.rd) _) e he
      simp only
      split
      . rename_i i bs ck left last hs
        split
        . refine a6.aD fun _ => a6.opt fun _ _ => a6.ret ⟨by simp, fun i' bs' ck' left' last' h' => ?_⟩
          rw [hs] at h'
          injection h' with h' _
          injection h' with h'
          subst h'
          simp
        . exact a6.fail
      . exact a6.fail
     simp only [hr k hk.1]
     have hk2 := hk.2
     simp only at he
     generalize aC sg k = ob at he hk2 ⊢
     cases ob <;> try exact he
     rename_i m bs ck left last
     cases m <;> try exact he
     rename_i i
     simp only [hr i (hk2 i bs ck left last rfl)]
     exact he
  case next x b =>
   unfold mN at he ⊢
   rw [hev]
   cases hv : AS.ev C ⟨nt, tm, sg, kl⟩ x <;> rw [hv] at he <;> try exact he
   rename_i i off
   cases off with
   | succ off => cases b <;> exact he
   | zero => cases b with
     | false => exact he
     | true =>
       have hi : i ∈ e.rd := by
        refine (?_ : a6 (fun e : Ef => i ∈ e.rd) _) e he
        simp only
        split
        . exact a6.bG (fun _ => a6.opt fun _ _ => a6.aD fun _ => a6.ret (by simp)) (fun _ => a6.ret (by simp))
        . exact a6.fail
       simp only [hr i hi]
       exact he
  case call c =>
   unfold mJ at he ⊢
   have htg : target C ⟨nt, tm, sg', kl⟩ c = target C ⟨nt, tm, sg, kl⟩ c := CR fun _ _ => rfl
   rw [htg]
   generalize hcal : c.callee = cal at he ⊢
   cases cal
   . -- a function's value
     obtain ⟨p, hp, hc⟩ : ∃ p, target C ⟨nt, tm, sg, kl⟩ c = some p ∧ d5 (ew C sg p.1 p.2) (fun b => b = e) := by
      cases ht : target C ⟨nt, tm, sg, kl⟩ c with
      | none => rw [ht] at he; exact he.elim
      | some p => rw [ht] at he; exact ⟨p, rfl, he⟩
     obtain ⟨pre, h1, h2⟩ := yU hc
     rw [hp]
     exact yT (zD h1 hq hr) h2
   . rename_i r m
     simp only at he ⊢
     rw [hev, hevs]
     generalize AS.ev C ⟨nt, tm, sg, kl⟩ r = v at he ⊢
     cases v <;> try exact he
     obtain ⟨f, hm, hc⟩ := he
     obtain ⟨pre, h1, h2⟩ := yU hc
     exact ⟨f, hm, yT (zD h1 hq hr) h2⟩
   . rename_i b
     simp only at he ⊢
     rw [hevs]
     rw [od] at he ⊢
     generalize AS.bq C ⟨nt, tm, sg, kl⟩ c.args.toList = xs at he ⊢
     generalize c.argTypes.toList = ts at he ⊢
     have hbt : a6 (fun e' => quiet e' = true → (∀ r ∈ e'.rd, aC sg' r = aC sg r) → ji C ⟨nt, tm, sg', kl⟩ b ts xs (fun b => b = e')) (ji C ⟨nt, tm, sg, kl⟩ b ts xs) := by
      unfold ji
      split
      . rename_i t x
        intro e he hq hr
        generalize (C.ti t).k = k at he ⊢
        cases k <;> try exact he
        cases x <;> try exact he
        rename_i i _
        have hi : i ∈ e.rd := by
         refine (?_ : a6 (fun e : Ef => i ∈ e.rd) _) e he
         simp only
         split
         . exact a6.ret (by simp)
         . exact a6.fail
        simp only [hr i hi]
        exact he
      . rename_i t t2 x y
        refine fun e he hq _ => (?_ : ∀ {p : Prop}, quiet e = false → p) ((?_ : a6 (fun e : Ef => quiet e = false) _) e he)
        . intro p h; rw [h] at hq; cases hq
        split
        . exact a6.fail
        . exact a6.fail
        . split
          . exact a6.fail
          . exact a6.when fun _ => a6.bind (lh _ _) fun r _ => a6.when fun _ => Jn
        . exact a6.fail
      . rename_i t t2 x y
        refine fun e he hq _ => (?_ : ∀ {p : Prop}, quiet e = false → p) ((?_ : a6 (fun e : Ef => quiet e = false) _) e he)
        . intro p h; rw [h] at hq; cases hq
        split
        . split
          . exact a6.fail
          . split
            . exact a6.bind (lh _ _) fun r _ => a6.when fun _ => a6.ret rfl
            . exact a6.fail
        . exact a6.fail
      . exact fun e he hq _ => absurd hq (by rw [Jp e he]; exact Bool.false_ne_true)
      . exact fun e he _ _ => he
      . exact fun e he _ _ => he
      . exact fun e he _ _ => he
     exact hbt e he hq hr
  all_goals exact he

theorem EV (h : ∀ x ∈ gS o.op, s'.ev C x = s.ev C x) (he : bV C s o (fun b => b = e)) (hq : quiet e = true) (hr : ∀ r ∈ e.rd, aC s'.sg r = aC s.sg r) : bV C s' o (fun b => b = e) := by
 obtain ⟨nt, tm, sg, kl⟩ := s
 obtain ⟨nt', tm', sg', kl'⟩ := s'
 have h1 : bV C ⟨nt', tm', sg, kl'⟩ o (fun b => b = e) := by
  rw [uC (s' := ⟨nt', tm', sg, kl'⟩) (s := ⟨nt, tm, sg, kl⟩) (fun x hx => h x hx) rfl]
  exact he
 exact EW h1 hq hr
end
end Go.VG
namespace Go.VG
open Go

mutual
theorem oB {ks : List Nat} : ∀ {x : V}, x.free ks = true → x.kill ks = x
 | .undef, _ | .int .., _ | .bool _, _ | .str _, _ | .nilptr, _ | .nilIface, _ | .nilFunc, _ | .nilmap, _ | .list .., _ | .box .., _ => by simp [V.kill]
 | .ptr i _, h | .bptr i _ _, h | .buf i, h | .map i, h => by
   simp only [V.free, Bool.not_eq_true'] at h
   simp [V.kill, h]
 | .agg cs, h | .tuple cs, h => by simp [V.kill, qh (by simpa [V.free] using h)]
 | .iface t x, h => by simp [V.kill, oB (by simpa [V.free] using h)]
 | .func fn fs cs, h => by
   simp only [V.free, Bool.and_eq_true] at h
   simp [V.kill, qh h.1, qh h.2]
theorem qh {ks : List Nat} : ∀ {x : List V}, V.jK ks x = true → V.dL ks x = x
 | [], _ => by simp [V.dL]
 | c :: cs, h => by
   simp only [V.jK, Bool.and_eq_true] at h
   simp [V.dL, oB h.1, qh h.2]
end
mutual
theorem sd {ks : List Nat} : ∀ {x : V}, (x.kill ks).kQ = true → x.kill ks = x
 | .undef, _ | .int .., _ | .bool _, _ | .str _, _ | .nilptr, _ | .nilIface, _ | .nilFunc, _ | .nilmap, _ | .list .., _ | .box .., _ => by simp [V.kill]
 | .ptr i _, h | .bptr i _ _, h | .buf i, h | .map i, h => by
   cases hm : aH i ks with
   | true => simp [V.kill, hm, V.kQ] at h
   | false => simp [V.kill, hm]
 | .agg cs, h | .tuple cs, h => by
   simp only [V.kill, V.kQ] at h
   simp [V.kill, qj h]
 | .iface t x, h => by
   simp only [V.kill, V.kQ] at h
   simp [V.kill, sd h]
 | .func fn fs cs, h => by
   simp only [V.kill, V.kQ, Bool.and_eq_true] at h
   simp [V.kill, qj h.1, qj h.2]
theorem qj {ks : List Nat} : ∀ {x : List V}, V.kc (V.dL ks x) = true → V.dL ks x = x
 | [], _ => by simp [V.dL]
 | c :: cs, h => by
   simp only [V.dL, V.kc, Bool.and_eq_true] at h
   simp [V.dL, sd h.1, qj h.2]
end

theorem pY : ∀ (sg : List O) (i : Nat), aC sg i = sg.getD i .dead
 | [], i => by simp [aC]
 | o :: os, 0 => by simp [aC]
 | o :: os, i + 1 => by simp [aC, pY os i]

theorem u7 : ∀ {up : List (Nat × O)} {rd : List Nat}, pD up rd = true → ∀ p ∈ up, p.1 ∉ rd
 | [], _, _, p, h => by simp at h
 | (i, o) :: r, rd, h, p, hp => by
   simp only [pD, Bool.and_eq_true, Bool.not_eq_true'] at h
   rcases List.mem_cons.1 hp with rfl | hp
   . exact n6.1 h.1
   . exact u7 h.2 p hp
theorem tY : ∀ {l : List Nat} {n : Nat}, pC l n = true → ∀ i ∈ l, i < n
 | [], _, _, i, h => by simp at h
 | k :: ks, n, h, i, hi => by
   simp only [pC, Bool.and_eq_true] at h
   rcases List.mem_cons.1 hi with rfl | hi
   . exact Nat.le_of_ble_eq_true h.1
   . exact tY h.2 i hi
theorem D8 : ∀ {up : List (Nat × O)} {sg : List O} {r : Nat}, (∀ p ∈ up, p.1 ≠ r) → (da sg up)[r]? = sg[r]?
 | [], sg, r, _ => rfl
 | (i, o) :: up, sg, r, h => by
   simp only [da]
   rw [D8 fun p hp => h p (List.mem_cons_of_mem _ hp), gP, List.getElem?_set_ne (h (i, o) (by simp))]

structure eW (s t : AS) : Prop where
 nt : s.nt = t.nt
 tm : ∀ u, lk s.tm u = lk t.tm u
 sg : s.sg = t.sg
 kl : ∀ i, aH i s.kl = true ↔ aH i t.kl = true
theorem eW.refl (s : AS) : eW s s := ⟨rfl, fun _ => rfl, rfl, fun _ => Iff.rfl⟩
theorem eW.symm {s t : AS} (h : eW s t) : eW t s := ⟨h.nt.symm, fun u => (h.tm u).symm, h.sg.symm, fun i => (h.kl i).symm⟩
theorem eW.trans {s t u : AS} (h : eW s t) (k : eW t u) : eW s u := ⟨h.nt.trans k.nt, fun x => (h.tm x).trans (k.tm x), h.sg.trans k.sg, fun i => (h.kl i).trans (k.kl i)⟩

theorem iZ (s : AS) (d : Option Nat) (e : Ef) (t : Nat) : lk (s.app d e).tm t = if d = some t then e.v else (lk s.tm t).kill e.ks := by
 cases d with
 | none => simp only [AS.app]; rw [kE]; simp
 | some d =>
   simp only [AS.app, lk]
   rw [kE]
   by_cases h : d = t
   . subst h; simp
   . have : Nat.beq d t = false := by
       cases hb : Nat.beq d t with
       | false => rfl
       | true => exact absurd (Nat.eq_of_beq_eq_true hb) h
     simp [this, h]
theorem jB (s : AS) (d : Option Nat) (e : Ef) : (s.app d e).sg = fU (da (ic e.ks s.sg) e.up) e.nw := rfl
theorem fM {s : AS} {d : Option Nat} {e : Ef} (h : quiet e = true) : (s.app d e).sg = s.sg := by
 obtain ⟨h1, h2, h3⟩ := m9.1 h
 rw [jB, h1, h2, h3]; rfl
theorem eW.app {s t : AS} (h : eW s t) (d : Option Nat) (e : Ef) : eW (s.app d e) (t.app d e) := by
 refine ⟨h.nt, fun u => ?_, ?_, fun i => ?_⟩
 . rw [iZ, iZ, h.tm]
 . rw [jB, jB, h.sg]
 . simp only [AS.app, gV, h.kl]
theorem A7 {s : AS} {d : Option Nat} {e : Ef} {r : Nat} (hr : r < s.sg.length) (hu : ∀ p ∈ e.up, p.1 ≠ r) : aC (s.app d e).sg r = (aC s.sg r).kill e.ks := by
 rw [pY, pY, jB, tX, List.getD_eq_getElem?_getD, List.getD_eq_getElem?_getD, List.getElem?_append_left (by rw [mX, qg]; simpa using hr), D8 hu, qg,
  List.getElem?_map, List.getElem?_eq_getElem hr]
 rfl

section
variable {C : Ctx} {ops : List Oper}

structure dR (C : Ctx) (ops : List Oper) (o : Oper) (s : AS) (r : Rc) : Prop where
 ef : stepT C ops s o (fun b => b = r.e)
 d : r.d = o.dst
 us : r.us = looks ops o
 ov : r.ov = s.bq C (gS o.op)
 oo : (jW o).1 = 1 ∨ r.oo = iV s.sg r.e.rd
 lu : r.lu = jW o
 n : quiet r.e = false → r.n = s.sg.length
 dok : d6 s o.dst = true

theorem ya : ∀ {l : List Operand} {t : Nat}, Operand.tmp t ∈ l → t ∈ tmpsOf l
 | [], _, h => by simp at h
 | x :: xs, t, h => by
   rcases List.mem_cons.1 h with h | h
   . subst h; simp [tmpsOf]
   . have := ya h
     cases x <;> simp [tmpsOf, this]
theorem zI {s s' : AS} {x : Operand} (h : ∀ t, x = .tmp t → lk s'.tm t = lk s.tm t) : s'.ev C x = s.ev C x := by
 cases x with
 | tmp t => exact h t rfl
 | _ => rfl
theorem A8 {sg sg' : List O} : ∀ {l : List Nat}, (∀ r ∈ l, aC sg' r = aC sg r) → iV sg' l = iV sg l
 | [], _ => rfl
 | r :: rs, h => by simp only [iV, h r (by simp), A8 (l := rs) fun x hx => h x (List.mem_cons_of_mem _ hx)]

theorem LR {s s' : AS} {o : Oper} {e : Ef} (hg : ∀ t ∈ om ops o.guard, lk s'.tm t = lk s.tm t) (ho : bV C s o (fun b => b = e) → bV C s' o (fun b => b = e)) (h : stepT C ops s o (fun b => b = e)) : stepT C ops s' o (fun b => b = e) := by
 unfold stepT at h ⊢
 cases hgd : o.guard with
 | none => rw [hgd] at h; exact ho h
 | some p =>
   obtain ⟨j, want⟩ := p
   rw [hgd] at h hg
   simp only at h ⊢
   cases hd : bS ops j with
   | none => rw [hd] at h; exact h
   | some t =>
     rw [hd] at h
     simp only at h ⊢
     rw [hg t (by simp [om, hd])]
     generalize lk s.tm t = v at h ⊢
     cases v <;> try exact h
     rotate_left
     . rename_i l
       cases l with
       | nil => exact h
       | cons _ _ => exact h
     rename_i b
     cases want <;> cases b <;> simp only [cond_true, cond_false, jg, bG] at h ⊢ <;> first
      | exact h
      | exact ho h

theorem CB {s : AS} {o : Oper} {e : Ef} (h : stepT C ops s o (fun b => b = e)) : ∀ t ∈ om ops o.guard, (∃ b, lk s.tm t = .bool b) ∨ lk s.tm t = .tuple [] := by
 intro t ht
 unfold stepT at h
 cases hgd : o.guard with
 | none => rw [hgd] at ht; simp [om] at ht
 | some p =>
   obtain ⟨j, want⟩ := p
   rw [hgd] at h ht
   simp only [om] at ht
   simp only at h
   cases hd : bS ops j with
   | none => rw [hd] at ht; simp at ht
   | some t' =>
     rw [hd] at ht h
     simp only [List.mem_singleton] at ht
     subst ht
     simp only at h
     generalize lk s.tm t = v at h
     cases v <;> first
      | exact .inl ⟨_, rfl⟩
      | exact h.elim
      | (rename_i l; cases l with
         | nil => exact .inr rfl
         | cons _ _ => exact h.elim)

theorem dR.loc {s s' : AS} {o : Oper} {r : Rc} (h : dR C ops o s r) (hnt : s'.nt = s.nt) (hl : ∀ t ∈ looks ops o, lk s'.tm t = lk s.tm t) (hsg : s'.sg = s.sg ∨ (quiet r.e = true ∧ ∀ i ∈ r.e.rd, aC s'.sg i = aC s.sg i)) :
   dR C ops o s' r := by
 have hev : ∀ x ∈ gS o.op, s'.ev C x = s.ev C x := fun x hx => zI fun t ht => hl t (List.mem_append_left _ (ya (ht ▸ hx)))
 refine ⟨?_, h.d, h.us, ?_, ?_, h.lu, fun hq => ?_, ?_⟩
 . refine LR (fun t ht => hl t (List.mem_append_right _ ht)) (fun he => ?_) h.ef
   rcases hsg with hsg | ⟨hq, hr⟩
   . rw [uC hev hsg]; exact he
   . exact EV hev he hq hr
 . rw [h.ov, jJ hev]
 . refine h.oo.imp id fun hoo => ?_
   rw [hoo]
   rcases hsg with hsg | ⟨_, hr⟩
   . rw [hsg]
   . exact (A8 hr).symm
 . rcases hsg with hsg | ⟨hq', _⟩
   . rw [hsg]; exact h.n hq
   . rw [hq'] at hq; cases hq
 . have := h.dok
   cases hd : o.dst with
   | none => rfl
   | some d => rw [hd] at this; simp only [d6] at this ⊢; rw [hnt]; exact this

theorem dR.eqv {s s' : AS} {o : Oper} {r : Rc} (h : dR C ops o s r) (e : eW s s') : dR C ops o s' r :=
 h.loc e.nt.symm (fun t _ => (e.tm t).symm) (.inl e.sg.symm)

theorem zX {ks : List Nat} : ∀ {l : List V}, V.jK ks l = true → ∀ x ∈ l, x.free ks = true
 | [], _, x, h => by simp at h
 | c :: cs, h, x, hx => by
   simp only [V.jK, Bool.and_eq_true] at h
   rcases List.mem_cons.1 hx with rfl | hx
   . exact h.1
   . exact zX h.2 x hx
theorem Cy : ∀ {l : List V}, V.kc l = true → ∀ x ∈ l, x.kQ = true
 | [], _, x, h => by simp at h
 | c :: cs, h, x, hx => by
   simp only [V.kc, Bool.and_eq_true] at h
   rcases List.mem_cons.1 hx with rfl | hx
   . exact h.1
   . exact Cy h.2 x hx
theorem uD {s : AS} : ∀ {l : List Operand} {x : Operand}, x ∈ l → s.ev C x ∈ s.bq C l
 | [], _, h => by simp at h
 | y :: ys, x, h => by
   rcases List.mem_cons.1 h with rfl | h
   . simp [AS.bq]
   . simp only [AS.bq, List.mem_cons]; exact .inr (uD h)
theorem zY {ks : List Nat} {sg : List O} : ∀ {l : List Nat}, lO ks (iV sg l) = true → ∀ i ∈ l, (aC sg i).kill ks = aC sg i
 | [], _, i, h => by simp at h
 | k :: l, h, i, hi => by
   simp only [iV] at h
   have hrest : lO ks (iV sg l) = true := by
    cases ho : aC sg k <;> rw [ho] at h <;> simp only [lO, Bool.and_eq_true] at h <;> first | exact h | exact h.2
   rcases List.mem_cons.1 hi with rfl | hi
   . cases ho : aC sg i <;> try rfl
     all_goals
      rw [ho] at h
      simp only [lO, Bool.and_eq_true] at h
      first
      | (simp only [O.kill, qh h.1]; done)
      | (simp only [O.kill, oB h.1]; done)
   . exact zY hrest i hi
theorem Cz {ks : List Nat} {sg sg' : List O} : ∀ {l : List Nat}, mf (iV sg' l) = true → ∀ i ∈ l, aC sg' i = (aC sg i).kill ks → aC sg' i = aC sg i
 | [], _, i, h, _ => by simp at h
 | k :: l, h, i, hi, he => by
   simp only [iV] at h
   have hrest : mf (iV sg' l) = true := by
    cases ho : aC sg' k <;> rw [ho] at h <;> simp only [mf, Bool.and_eq_true] at h <;> first | exact h | exact h.2 | cases h
   rcases List.mem_cons.1 hi with rfl | hi
   . cases ho : aC sg i <;> rw [ho] at he <;> try exact he
     all_goals
      simp only [O.kill] at he
      rw [he] at h
      simp only [mf, Bool.and_eq_true] at h
      first
      | (rw [he, qj h.1]; done)
      | (rw [he, sd h.1]; done)
   . exact Cz hrest i hi he

theorem uw {d : Option Nat} {us : List Nat} (h : pM d us = true) {t : Nat} (ht : t ∈ us) : d ≠ some t := by
 intro e
 subst e
 simp only [pM, Bool.not_eq_true'] at h
 exact n6.1 h ht

theorem zx : ∀ {a b : List Nat}, rN a b = true → a = b
 | [], [], _ => rfl
 | x :: xs, y :: ys, h => by
   simp only [rN, Bool.and_eq_true] at h
   rw [Nat.eq_of_beq_eq_true h.1, zx h.2]
 | [], _ :: _, h => by cases h
 | _ :: _, [], h => by cases h
theorem Bk {o : Oper} (h : (jW o).1 = 1) : ∃ t m x, o.guard = none ∧ o.op = .lookup t (.tmp m) (.tmp x) false ∧ jW o = (1, [t, m, x]) := by
 unfold jW at h ⊢
 split at h <;> first
  | (rename_i t m x hg ho; exact ⟨t, m, x, hg, ho, rfl⟩)
  | (cases h; done)
theorem Jz {o : Oper} (h : (jW o).1 = 2) : ∃ t m x, o.guard = none ∧ o.op = .mapEntry t (.tmp m) (.tmp x) ∧ jW o = (2, [t, m, x]) := by
 unfold jW at h ⊢
 split at h <;> first
  | (rename_i t m x hg ho; exact ⟨t, m, x, hg, ho, rfl⟩)
  | (cases h; done)
theorem zR {es : List (V × Int)} {x y : V} {q : Int} (h : bH es x = none) : bH (es ++ [(y, q)]) x = cond (iF y x) (some (es.length, q)) none := by
 induction es with
 | nil => simp only [List.nil_append, bH]; cases iF y x <;> rfl
 | cons p es ih =>
   obtain ⟨z, r⟩ := p
   simp only [List.cons_append, bH] at h ⊢
   cases hz : iF z x with
   | true => rw [hz] at h; simp at h
   | false =>
     rw [hz] at h
     simp only [cond_false] at h ⊢
     have hn : bH es x = none := by
      cases he : bH es x with
      | none => rfl
      | some p => rw [he] at h; cases h
     rw [ih hn]
     cases iF y x <;> simp
theorem Hy {es : List (V × Int)} {x y : V} (h : bH es x = none) : getM (es ++ [(y, 0)]) x = getM es x := by
 unfold getM
 rw [zR h, h]
 cases iF y x <;> rfl
theorem Hz {sg : List O} {i : Nat} {o : O} (h : i < sg.length) : aC (fw sg i o) i = o := by
 have : ∀ (sg : List O) (i : Nat), i < sg.length → aC (fw sg i o) i = o := by
  intro sg
  induction sg with
  | nil => intro i h; simp at h
  | cons a r ih =>
    intro i h
    cases i with
    | zero => rfl
    | succ i => exact ih i (by simpa using h)
 exact this sg i h
theorem dR.look {s : AS} {o : Oper} {r : Rc} (h : dR C ops o s r) (hl : (jW o).1 = 1) : quiet r.e = true ∧ ∀ i ∈ r.e.rd, ∃ ag sh es bs ck, aC s.sg i = .map ag sh es bs ck := by
 obtain ⟨t, m, x, hg, ho, _⟩ := Bk hl
 have ef : iR C s t (.tmp m) (.tmp x) false (fun b => b = r.e) := by
  have := h.ef
  unfold stepT at this
  rw [hg] at this
  simp only [bV, ho] at this
  exact this
 unfold iR dZ at ef
 obtain ⟨p, hp, ef⟩ := oP.1 ef
 cases hm : AS.ev C s (.tmp m) <;> rw [hm] at ef <;> try exact ef.elim
 rename_i i
 simp only at ef
 cases hs : aC s.sg i <;> rw [hs] at ef <;> try exact ef.elim
 rename_i ag sh es bs ck
 simp only [force_eq] at ef
 cases hw : (rA ag p.1 && oV sh p.2) with
 | false => rw [hw] at ef; exact ef.elim
 | true =>
   cases hf : i9 ag sh (AS.ev C s (.tmp x)) with
   | false => rw [hw, hf] at ef; exact ef.elim
   | true =>
     rw [hw, hf] at ef
     have ef : (⟨.int .i64 (getM es (AS.ev C s (.tmp x))), [], [], [], [i]⟩ : Ef) = r.e := ef
     rw [← ef]
     refine ⟨rfl, fun k hk => ?_⟩
     simp at hk
     subst hk
     exact ⟨_, _, _, _, _, hs⟩
theorem dR.pair {s : AS} {oj oi : Oper} {rj ri : Rc} (hj : dR C ops oj s rj) (hi : dR C ops oi s ri) (h : qD rj ri = true) (a2 : pM oi.dst (looks ops oj) = true) : quiet rj.e = true ∧ ri.e.ks = [] ∧ dR C ops oj (s.app oi.dst ri.e) rj := by
 unfold qD at h
 simp only [Bool.and_eq_true] at h
 rw [hj.lu, hi.lu] at h
 obtain ⟨l1, l2, l3⟩ := h
 obtain ⟨t, m, x, hgj, hoj, ej⟩ := Bk (Nat.eq_of_beq_eq_true l1)
 obtain ⟨t', m', x', hgi, hoi, ei⟩ := Jz (Nat.eq_of_beq_eq_true l2)
 rw [ej, ei] at l3
 have l3 := zx l3
 simp only [List.cons.injEq, and_true] at l3
 obtain ⟨rfl, rfl, rfl⟩ := l3
 have efj : iR C s t (.tmp m) (.tmp x) false (fun b => b = rj.e) := by
  have := hj.ef
  unfold stepT at this
  rw [hgj] at this
  simp only [bV, hoj] at this
  exact this
 have efi : jI C s t (.tmp m) (.tmp x) (fun b => b = ri.e) := by
  have := hi.ef
  unfold stepT at this
  rw [hgi] at this
  simp only [bV, hoi] at this
  exact this
 unfold iR dZ at efj
 obtain ⟨p, hp, efj⟩ := oP.1 efj
 unfold jI dZ at efi
 obtain ⟨p', hp', efi⟩ := oP.1 efi
 rw [hp] at hp'; cases hp'
 have hlm : Operand.tmp m ∈ gS oj.op := by rw [hoj]; simp [gS]
 have hlx : Operand.tmp x ∈ gS oj.op := by rw [hoj]; simp [gS]
 cases hm : AS.ev C s (.tmp m) <;> rw [hm] at efj efi <;> try exact efj.elim
 rename_i i
 simp only at efj efi
 cases hs : aC s.sg i <;> rw [hs] at efj efi <;> try exact efj.elim
 rename_i ag sh es bs ck
 simp only [force_eq] at efj efi
 have hil : i < s.sg.length := (dW hs (by simp)).2
 cases hw : (rA ag p.1 && oV sh p.2) with
 | false => rw [hw] at efj; exact efj.elim
 | true =>
   cases hf : i9 ag sh (AS.ev C s (.tmp x)) with
   | false => rw [hw, hf] at efj; exact efj.elim
   | true =>
     rw [hw, hf] at efj efi
     have efj : (⟨.int .i64 (getM es (AS.ev C s (.tmp x))), [], [], [], [i]⟩ : Ef) = rj.e := efj
     have hri : ∃ v es' bs' ck', ri.e = ⟨v, [], [(i, .map ag sh es' bs' ck')], [], [i]⟩ ∧ getM es' (AS.ev C s (.tmp x)) = getM es (AS.ev C s (.tmp x)) := by
      obtain ⟨_, k1, k2⟩ := efi
      cases hfd : bH es (AS.ev C s (.tmp x)) with
      | some r =>
        have := k1 r hfd
        exact ⟨_, _, _, _, (show _ = ri.e from this).symm, rfl⟩
      | none =>
        have := k2 hfd
        exact ⟨_, _, _, _, (show _ = ri.e from this).symm, Hy hfd⟩
     obtain ⟨v, es', bs', ck', hri, hget⟩ := hri
     have hks : ri.e.ks = [] := by rw [hri]
     have hlk : ∀ u ∈ looks ops oj, lk (s.app oi.dst ri.e).tm u = lk s.tm u := fun u hu => by
      rw [iZ, if_neg (uw a2 hu), hks, fH]
     have hev : ∀ y ∈ gS oj.op, (s.app oi.dst ri.e).ev C y = s.ev C y := fun y hy => zI fun u hu => hlk u (List.mem_append_left _ (ya (hu ▸ hy)))
     refine ⟨by rw [← efj]; rfl, hks, ?_⟩
     have hsg : (s.app oi.dst ri.e).sg = fw s.sg i (.map ag sh es' bs' ck') := by
      rw [hri]
      simp [AS.app, ic, da, fU]
     refine ⟨?_, hj.d, hj.us, ?_, .inl (Nat.eq_of_beq_eq_true l1), hj.lu, fun hq => ?_, ?_⟩
     . unfold stepT
       rw [hgj]
       simp only [bV, hoj]
       unfold iR dZ
       refine oP.2 ⟨p, hp, ?_⟩
       rw [hev _ hlm, hm]
       simp only
       rw [hsg, Hz hil]
       simp only [force_eq]
       rw [hev _ hlx, hw, hf]
       show (⟨.int .i64 (getM es' (AS.ev C s (.tmp x))), [], [], [], [i]⟩ : Ef) = rj.e
       rw [hget]
       exact efj
     . rw [hj.ov, jJ hev]
     . rw [← efj] at hq; cases hq
     . have := hj.dok
       cases hd : oj.dst with
       | none => rfl
       | some d => rw [hd] at this; simp only [d6] at this ⊢; exact this
theorem dR.swap {s : AS} {oj oi : Oper} {rj ri : Rc} (hj : dR C ops oj s rj) (hi : dR C ops oi (s.app oj.dst rj.e) ri) (h : indep rj ri = true) :
   dR C ops oi s ri ∧ dR C ops oj (s.app oi.dst ri.e) rj ∧ eW ((s.app oi.dst ri.e).app oj.dst rj.e) ((s.app oj.dst rj.e).app oi.dst ri.e) := by
 unfold indep at h
 simp only [Bool.and_eq_true] at h
 obtain ⟨⟨⟨a1, a2⟩, a3⟩, h⟩ := h
 rw [hj.d, hi.us] at a1
 rw [hi.d, hj.us] at a2
 rw [hi.d, hj.d] at a3
 have hne : ∀ t, oj.dst = some t → oi.dst = some t → False := fun t h1 h2 => by
  rw [h1, h2] at a3; simp [zn] at a3
 -- what i looks at, ahead of j
 have lki : ∀ t ∈ looks ops oi, lk (s.app oj.dst rj.e).tm t = (lk s.tm t).kill rj.e.ks := fun t ht => by
  rw [iZ, if_neg (uw a1 ht)]
 have lkj : ∀ t ∈ looks ops oj, lk (s.app oi.dst ri.e).tm t = (lk s.tm t).kill ri.e.ks := fun t ht => by
  rw [iZ, if_neg (uw a2 ht)]
 have hfin : (rj.e.ks = [] ∨ ri.e.ks = []) → rj.e.v.kill ri.e.ks = rj.e.v → ri.e.v.kill rj.e.ks = ri.e.v → ((s.app oi.dst ri.e).app oj.dst rj.e).sg = ((s.app oj.dst rj.e).app oi.dst ri.e).sg →
    eW ((s.app oi.dst ri.e).app oj.dst rj.e) ((s.app oj.dst rj.e).app oi.dst ri.e) := fun hks hv1 hv2 hsg => by
  refine ⟨rfl, fun t => ?_, hsg, fun i => by simp only [AS.app, gV]; exact or_left_comm⟩
  rw [iZ, iZ, iZ, iZ]
  by_cases e1 : oj.dst = some t
  . rw [if_pos e1, if_pos e1, if_neg (fun e2 => hne t e1 e2), hv1]
  . rw [if_neg e1, if_neg e1]
    by_cases e2 : oi.dst = some t
    . rw [if_pos e2, if_pos e2, hv2]
    . rw [if_neg e2, if_neg e2]
      rcases hks with hks | hks <;> rw [hks, fH, fH]
 cases hpl : qD rj ri with
 | true =>
   have hqj : quiet rj.e = true := by
    have hp2 := hpl
    unfold qD at hp2
    simp only [Bool.and_eq_true] at hp2
    rw [hj.lu] at hp2
    exact (hj.look (Nat.eq_of_beq_eq_true hp2.1)).1
   obtain ⟨j1, j2, j3⟩ := m9.1 hqj
   have hsi : dR C ops oi s ri := hi.loc rfl (fun t ht => by rw [lki t ht, j1, fH]) (.inl (fM hqj).symm)
   rw [← hi.d] at a2
   obtain ⟨_, i1, hsj⟩ := hj.pair hsi hpl (hi.d ▸ a2)
   refine ⟨hsi, hsj, hfin (.inl j1) (by rw [i1, fH]) (by rw [j1, fH]) ?_⟩
   rw [fM hqj, jB, jB, fM hqj]
 | false =>
 rw [hpl, Bool.false_or] at h
 cases hqj : quiet rj.e with
 | true =>
   obtain ⟨j1, j2, j3⟩ := m9.1 hqj
   have hsi : dR C ops oi s ri := hi.loc rfl (fun t ht => by rw [lki t ht, j1, fH]) (.inl (fM hqj).symm)
   cases hqi : quiet ri.e with
   | true =>
     obtain ⟨i1, i2, i3⟩ := m9.1 hqi
     refine ⟨hsi, hj.loc rfl (fun t ht => by rw [lkj t ht, i1, fH]) (.inl (fM hqi)), hfin (.inl j1) (by rw [i1, fH]) (by rw [j1, fH]) ?_⟩
     rw [fM hqj, fM hqi, fM hqi, fM hqj]
   | false =>
     rw [hqj, hqi] at h
     simp only [Bool.and_eq_true] at h
     obtain ⟨⟨⟨⟨b1, b2⟩, b3⟩, b4⟩, b5⟩ := h
     rw [hj.ov] at b1
     have hb2 : ∀ r ∈ rj.e.rd, (aC s.sg r).kill ri.e.ks = aC s.sg r := fun r hr => by
      rcases hj.oo with q | q
      . obtain ⟨_, _, _, _, _, hm⟩ := (hj.look q).2 r hr
        rw [hm]; rfl
      . rw [q] at b2; exact zY b2 r hr
     have hn : ri.n = s.sg.length := by rw [hi.n hqi, fM hqj]
     rw [hn] at b5
     refine ⟨hsi, hj.loc rfl (fun t ht => ?_) (.inr ⟨hqj, fun r hr => ?_⟩), hfin (.inl j1) (oB b3) (by rw [j1, fH]) ?_⟩
     . rw [lkj t ht]
       rcases List.mem_append.1 ht with ht | ht
       . have : ∀ (l : List Operand) t, t ∈ tmpsOf l → Operand.tmp t ∈ l := by
           intro l
           induction l with
           | nil => intro t h; simp [tmpsOf] at h
           | cons x xs ih =>
             intro t h
             cases x <;> simp only [tmpsOf, List.mem_cons] at h ⊢ <;> first
              | exact .inr (ih t h)
              | (rcases h with rfl | h
                 . exact .inl rfl
                 . exact .inr (ih t h))
         exact oB (zX b1 _ (uD (this _ _ ht)))
       . rcases CB hj.ef t ht with ⟨b, hb⟩ | hb <;> rw [hb] <;> simp [V.kill, V.dL]
     . rw [A7 (tY b5 r hr) (fun p hp e => u7 b4 p hp (e ▸ hr)), hb2 r hr]
     . rw [fM hqj, jB, jB, fM hqj]
 | false =>
   cases hqi : quiet ri.e with
   | false => rw [hqj, hqi] at h; cases h
   | true =>
     obtain ⟨i1, i2, i3⟩ := m9.1 hqi
     rw [hqj, hqi] at h
     simp only [Bool.and_eq_true] at h
     obtain ⟨⟨⟨⟨b1, b2⟩, b3⟩, b4⟩, b5⟩ := h
     rw [hi.ov] at b1
     have hb2 : ∀ r ∈ ri.e.rd, aC (s.app oj.dst rj.e).sg r = (aC s.sg r).kill rj.e.ks → aC (s.app oj.dst rj.e).sg r = aC s.sg r := fun r hr he => by
      rcases hi.oo with q | q
      . obtain ⟨_, _, _, _, _, hm⟩ := (hi.look q).2 r hr
        rw [hm] at he ⊢
        cases hg : aC s.sg r <;> rw [hg] at he <;> first
         | (cases he; done)
         | exact he
      . rw [q] at b2; exact Cz b2 r hr he
     rw [hj.n hqj] at b5
     have hlk : ∀ t ∈ looks ops oi, lk s.tm t = lk (s.app oj.dst rj.e).tm t := fun t ht => by
      have h1 := lki t ht
      rw [h1]
      refine (sd ?_).symm
      rw [← h1]
      rcases List.mem_append.1 ht with ht | ht
      . have : ∀ (l : List Operand) t, t ∈ tmpsOf l → Operand.tmp t ∈ l := by
          intro l
          induction l with
          | nil => intro t h; simp [tmpsOf] at h
          | cons x xs ih =>
            intro t h
            cases x <;> simp only [tmpsOf, List.mem_cons] at h ⊢ <;> first
             | exact .inr (ih t h)
             | (rcases h with rfl | h
                . exact .inl rfl
                . exact .inr (ih t h))
        exact Cy b1 _ (uD (this _ _ ht))
      . rcases CB hi.ef t ht with ⟨b, hb⟩ | hb <;> rw [hb] <;> rfl
     refine ⟨hi.loc rfl hlk (.inr ⟨hqi, fun r hr => ?_⟩), hj.loc rfl (fun t ht => by rw [lkj t ht, i1, fH]) (.inl (fM hqi)), hfin (.inr i1) (by rw [i1, fH]) (oB b3) ?_⟩
     . exact (hb2 r hr (A7 (tY b5 r hr) (fun p hp e => u7 b4 p hp (e ▸ hr)))).symm
     . show fU (da (ic rj.e.ks (s.app oi.dst ri.e).sg) rj.e.up) rj.e.nw = _
       rw [fM hqi, fM hqi]; rfl

def gw (C : Ctx) (ops : List Oper) (f : Nat → Rc) (sN : AS) : List Nat → AS → Prop
 | [], s => eW s sN
 | i :: L, s => ∃ o, ops[i]? = some o ∧ dR C ops o s (f i) ∧ gw C ops f sN L (s.app o.dst (f i).e)

theorem gw.eqv {f : Nat → Rc} {sN : AS} : ∀ {L : List Nat} {s s' : AS}, gw C ops f sN L s → eW s s' → gw C ops f sN L s'
 | [], _, _, h, e => e.symm.trans h
 | _ :: _, _, _, ⟨o, h1, h2, h3⟩, e => ⟨o, h1, h2.eqv e, h3.eqv (e.app _ _)⟩

theorem gw.front {f : Nat → Rc} {sN : AS} {i : Nat} {l2 : List Nat} : ∀ {l1 : List Nat} {s : AS}, gw C ops f sN (l1 ++ i :: l2) s → (∀ j ∈ l1, indep (f j) (f i) = true) → gw C ops f sN (i :: (l1 ++ l2)) s
 | [], _, h, _ => h
 | j :: l1, s, ⟨oj, h1, h2, h3⟩, hi => by
   obtain ⟨oi, k1, k2, k3⟩ := gw.front h3 fun k hk => hi k (List.mem_cons_of_mem _ hk)
   obtain ⟨q1, q2, q3⟩ := h2.swap k2 (hi j (by simp))
   exact ⟨oi, k1, q1, oj, h1, q2, k3.eqv q3.symm⟩
end
end Go.VG
