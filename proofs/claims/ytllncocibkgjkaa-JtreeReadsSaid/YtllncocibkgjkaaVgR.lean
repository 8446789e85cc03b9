/-
  What an operation does depends on what it looks at alone.
-/
import Derived.Test.YtllncocibkgjkaaVgO
set_option linter.unusedSimpArgs false
set_option linter.unusedVariables false
namespace Go.VG
open Go

theorem aex {e : Ef} : quiet e = true ↔ e.ks = [] ∧ e.up = [] ∧ e.nw = [] := by
  obtain ⟨v, ks, up, nw, rd⟩ := e
  cases ks <;> cases up <;> cases nw <;> simp [quiet]

mutual
theorem apx : ∀ {x : V} {acc : List Nat} {i : Nat}, i ∈ acc → i ∈ V.names x acc
  | .ptr j _, acc, i, h | .bptr j _ _, acc, i, h | .buf j, acc, i, h | .map j, acc, i, h => by
    simp only [V.names]
    cases abk j acc with
    | true => exact h
    | false => exact List.mem_append_left _ h
  | .agg cs, acc, i, h | .tuple cs, acc, i, h => by simp only [V.names]; exact ahd h
  | .iface _ x, acc, i, h => by simp only [V.names]; exact apx h
  | .func _ fs cs, acc, i, h => by simp only [V.names]; exact ahd (ahd h)
  | .undef, _, _, h | .int .., _, _, h | .bool _, _, _, h | .str _, _, _, h | .list .., _, _, h | .nilptr, _, _, h | .box .., _, _, h | .nilIface, _, _, h | .nilFunc, _, _, h | .nilmap, _, _, h => by simp only [V.names]; exact h
theorem ahd : ∀ {x : List V} {acc : List Nat} {i : Nat}, i ∈ acc → i ∈ V.acn x acc
  | [], _, _, h => by simp only [V.acn]; exact h
  | c :: cs, _, _, h => by simp only [V.acn]; exact ahd (apx h)
end
theorem aso {o : O} {acc : List Nat} {i : Nat} (h : i ∈ acc) : i ∈ o.names acc := by
  cases o <;> simp only [O.names] <;> first | exact h | exact ahd h | exact apx h

theorem axh {sg : List O} : ∀ {fuel : Nat} {todo acc : List Nat} {i : Nat}, i ∈ acc → i ∈ reach sg fuel todo acc
  | 0, _, _, _, h => by simp only [reach]; exact h
  | _ + 1, [], _, _, h => by simp only [reach]; exact h
  | fuel + 1, k :: todo, acc, i, h => by simp only [reach]; exact axh (aso h)
theorem axi {sg sg' : List O} : ∀ {fuel : Nat} {todo acc : List Nat}, (∀ i ∈ todo, i ∈ acc) → (∀ r ∈ reach sg fuel todo acc, aa7 sg' r = aa7 sg r) → reach sg' fuel todo acc = reach sg fuel todo acc
  | 0, _, _, _, _ => by simp only [reach]
  | _ + 1, [], _, _, _ => by simp only [reach]
  | fuel + 1, k :: todo, acc, ht, h => by
    have hk : aa7 sg' k = aa7 sg k := h k (axh (ht k (by simp)))
    simp only [reach] at h ⊢
    rw [hk]
    refine axi (fun i hi => ?_) h
    rcases List.mem_append.1 hi with hi | hi
    · exact aso (ht i (List.mem_cons_of_mem _ hi))
    · exact List.mem_of_mem_drop hi

theorem ars {sg sg' : List O} : ∀ {th : List Nat}, (∀ r ∈ th, aa7 sg' r = aa7 sg r) → afs sg' th = afs sg th
  | [], _ => rfl
  | k :: ks, h => by simp only [afs, h k (by simp), ars (th := ks) fun r hr => h r (List.mem_cons_of_mem _ hr)]
theorem ap4 {sg sg' : List O} {th0 : List Nat} : ∀ {th : List Nat}, (∀ r ∈ th, aa7 sg' r = aa7 sg r) → adq sg' th0 th = adq sg th0 th
  | [], _ => rfl
  | k :: ks, h => by simp only [adq, h k (by simp), ap4 (th := ks) fun r hr => h r (List.mem_cons_of_mem _ hr)]
theorem asj {sg sg' : List O} {f : Nat → Option Nat} : ∀ {th : List Nat}, (∀ r ∈ th, aa7 sg' r = aa7 sg r) → locals sg' f th = locals sg f th
  | [], _ => rfl
  | k :: ks, h => by simp only [locals, h k (by simp), asj (th := ks) fun r hr => h r (List.mem_cons_of_mem _ hr)]
theorem arv {sg sg' : List O} : ∀ {th : List Nat}, (∀ r ∈ th, aa7 sg' r = aa7 sg r) → agd sg' th = agd sg th
  | [], _ => rfl
  | k :: ks, h => by simp only [agd, h k (by simp), arv (th := ks) fun r hr => h r (List.mem_cons_of_mem _ hr)]
theorem anq {n n' : Nat} : ∀ {th : List Nat}, aaq th n 0 = aaq th n' 0
  | [] => rfl
  | k :: ks => by
    funext j
    cases j with
    | zero => simp [aaq]
    | succ j => simp only [aaq]; exact congrFun (anq (th := ks)) j

section
variable {C : Ctx} {s s' : AS} {o : Oper} {e : Ef}

theorem as4 {sg sg' : List O} {f : FuncId} {args : List V} {pre : Prop} (h : adg C sg f args = some (pre, e)) (hq : quiet e = true) (hr : ∀ r ∈ e.rd, aa7 sg' r = aa7 sg r) : adg C sg' f args = some (pre, e) := by
  unfold adg at h ⊢
  rw [ae1, ae1] at h ⊢
  -- what is read
  have hrd : e.rd = reach sg 256 (V.acn args []) (V.acn args []) := by
    unfold al7 at h
    simp only [abw, afn] at h
    cases hc : (afa (reach sg 256 (V.acn args []) (V.acn args [])) && afs sg (reach sg 256 (V.acn args []) (V.acn args []))) with
    | false => rw [hc] at h; cases h
    | true =>
      rw [hc, cond_true] at h
      split at h
      · cases h
      · cases hcl : adq sg (reach sg 256 (V.acn args []) (V.acn args [])) (reach sg 256 (V.acn args []) (V.acn args [])) with
        | false => rw [hcl] at h; cases h
        | true => rw [hcl] at h; cases h; rfl
      · cases h; rfl
  rw [hrd] at hr
  rw [axi (fun _ h => h) hr]
  generalize reach sg 256 (V.acn args []) (V.acn args []) = th at *
  unfold al7 at h ⊢
  simp only [abw, afn] at h ⊢
  rw [ars hr, ap4 hr, asj hr, arv hr]
  cases hc : (afa th && afs sg th) with
  | false => rw [hc] at h; cases h
  | true =>
    rw [hc, cond_true] at h
    rw [cond_true]
    generalize C.Γ f (V.azp (fun i => idxOf i th 0) args) (locals sg (fun i => idxOf i th 0) th) = r at h ⊢
    rcases r with _ | ⟨pre', v, _ | σ⟩
    · cases h
    · exact h
    · simp only [Option.some.injEq, Prod.mk.injEq] at h ⊢
      obtain ⟨rfl, rfl⟩ := h
      refine ⟨rfl, ?_⟩
      obtain ⟨q1, q2, q3⟩ := aex.1 hq
      simp only [ahc, List.map_eq_nil_iff] at q3
      rw [q3]
      simp only [List.length_nil]
      rw [anq (n := sg'.length) (n' := sg.length)]

theorem aeq : ∀ {l : List Operand}, (∀ x ∈ l, s'.ev C x = s.ev C x) → s'.evs C l = s.evs C l
  | [], _ => rfl
  | x :: xs, h => by simp only [AS.evs, h x (by simp), aeq (l := xs) fun y hy => h y (List.mem_cons_of_mem _ hy)]
theorem agj : ∀ {l : List (Nat × Operand)}, (∀ x ∈ aq3 l, s'.ev C x = s.ev C x) → adh C s' l = adh C s l
  | [], _ => rfl
  | (i, x) :: r, h => by simp only [adh, h x (by simp [aq3]), agj (l := r) fun y hy => h y (by simp [aq3, hy])]
theorem anx {n : Nat} {lo hi : Option Operand} (h1 : ∀ x ∈ alk lo, s'.ev C x = s.ev C x) (h2 : ∀ x ∈ alk hi, s'.ev C x = s.ev C x) : ae2 C s' n lo hi = ae2 C s n lo hi := by
  cases lo <;> cases hi <;> simp only [ae2] <;> simp only [alk, List.mem_singleton, forall_eq, List.not_mem_nil] at h1 h2 <;> simp only [h1, h2]
theorem as3 {x : V} (h : ∀ i, x = .buf i → aa7 s'.sg i = aa7 s.sg i) : elems s' x = elems s x := by
  unfold elems
  cases x <;> try rfl
  rename_i i
  simp only [h i rfl]
theorem aqv {c : Call} (h : ∀ x ∈ a0c (.call c), s'.ev C x = s.ev C x) : target C s' c = target C s c := by
  unfold target
  cases hc : c.callee with
  | value f =>
    simp only [a0c, hc] at h
    simp only [h f (by simp), aeq fun x hx => h x (List.mem_cons_of_mem _ hx)]
  | invoke r m => rfl
  | builtin b => rfl

theorem arw {r : Option (Prop × Ef)} {e : Ef} (h : aed r (fun b => b = e)) : ∃ pre : Prop, r = some (pre, e) ∧ pre := by
  cases r with
  | none => exact h.elim
  | some p =>
    have h1 : p.1 := h.1
    have h2 : adt p.2 (fun b => b = e) := h.2
    rw [abb] at h2
    exact ⟨p.1, by rw [← h2], h1⟩
theorem a0g {r : Option (Prop × Ef)} {e : Ef} {pre : Prop} (h : r = some (pre, e)) (hp : pre) : aed r (fun b => b = e) := by
  subst h
  refine ⟨hp, ?_⟩
  show adt e _
  rw [abb]

theorem apd (h : ∀ x ∈ a0c o.op, s'.ev C x = s.ev C x) (hs : s'.sg = s.sg) : aho C s' o = aho C s o := by
  obtain ⟨dst, op, type, pos, after, guard⟩ := o
  have hel : ∀ x, elems s' x = elems s x := fun x => as3 fun i _ => by rw [hs]
  cases op <;> simp only [aho, a0c] at h ⊢
  case move x => rw [h x (by simp)]
  case assign x => rw [h x (by simp)]
  case pick c a b => simp only [as5, h c (by simp), h a (by simp), h b (by simp)]
  case alloc t => simp only [ail, hs]
  case box t x => rw [h x (by simp), hs]
  case build t ps => simp only [akc, agj h]
  case buildSlice t n ps => simp only [a9n, a2s, aaz, agj h, hs]
  case load t x => simp only [al8, h x (by simp), hs]
  case store t x y => simp only [aio, h x (by simp), h y (by simp), hs]
  case nilCheck x => simp only [ae0, h x (by simp)]
  case binOp b t x y u => rw [h x (by simp), h y (by simp)]
  case unOp b t x => rw [h x (by simp)]
  case convert a b x => simp only [anw, ah5, h x (by simp), hel, hs]
  case makeInterface t x => simp only [aek, h x (by simp)]
  case makeFunc fn a b => rw [aeq fun x hx => h x (by simp [hx]), aeq fun x hx => h x (by simp [hx])]
  case makeSlice t x y => simp only [ad6, h x (by simp), h y (by simp), hs]
  case slice t x lo hi mx =>
    have hr : ∀ n, ae2 C s' n lo hi = ae2 C s n lo hi := fun n => anx (fun x hx => h x (by simp [hx])) (fun x hx => h x (by simp [hx]))
    have hh : ∀ y, hi = some y → s'.ev C y = s.ev C y := fun y hy => h y (by simp [hy, alk])
    have hm : ∀ y, mx = some y → s'.ev C y = s.ev C y := fun y hy => h y (by simp [hy, alk])
    simp only [ake, h x (by simp), hs, hr]
    repeat' (first
      | rfl
      | (simp only [hh _ rfl]; done)
      | (simp only [hh _ rfl, hm _ rfl]; done)
      | split)
  case fieldAddr t x f => simp only [ad5, h x (by simp)]
  case field t x f => simp only [aim, h x (by simp)]
  case indexAddr t x y => simp only [adr, h x (by simp), h y (by simp), hs]
  case index t x y => simp only [amp, h x (by simp), h y (by simp)]
  case typeAssert x _ t ok => simp only [ajg, h x (by simp)]
  case extract x i => simp only [ah6, h x (by simp)]
  case range t x => simp only [anv, ain, ag4, h x (by simp), hs]
  case makeMap t r => cases r <;> simp only [aes, hs]
  case lookup t m x ok => simp only [adl, ag4, h m (by simp), h x (by simp), hs]
  case mapUpdate t m x y => simp only [ad7, ag4, h m (by simp), h x (by simp), h y (by simp), hs]
  case mapEntry t m x => simp only [acs, ag4, h m (by simp), h x (by simp), hs]
  case entryStore t m b y => simp only [acd, ag4, h m (by simp), h b (by simp), h y (by simp), hs]
  case entry x => simp only [akd, h x (by simp), hs]
  case next x b => simp only [apc, h x (by simp), hs]
  case call c =>
    have ht := aqv (C := C) (s := s) (s' := s') (c := c) (by simpa only [a0c] using h)
    unfold ahu
    cases hc : c.callee with
    | value f => simp only [ht, hs]
    | invoke r m =>
      simp only [hc] at h
      simp only [h r (by simp), aeq fun x hx => h x (List.mem_cons_of_mem _ hx), hs]
    | builtin b =>
      simp only [hc] at h
      simp only [aeq h]
      have hb : ∀ xs, ad4 C s' b c.argTypes.toList xs = ad4 C s b c.argTypes.toList xs := fun xs => by
        unfold ad4
        simp only [hs, hel, agh, agi, ag4]
      simp only [hb]
end
end Go.VG
namespace Go.VG
open Go

section
variable {C : Ctx} {s s' : AS} {o : Oper} {e : Ef} {nt : Nat} {tm : List (Nat × V)} {sg sg' : List O} {kl : List Nat}

theorem a41 {t : TypeId} : All (fun e => quiet e = false) (ail C s t) := by
  unfold ail
  split
  · exact All.fail
  · rw [force_eq, aae]; exact All.when fun _ => All.ret rfl
theorem bax {x : V} : All (fun e => quiet e = false) (force x fun x => aag s.sg.length fun n => ab6 (!x.isU) (ret ⟨.ptr n 0, [], [], [.cells x.cells], []⟩)) := by
  rw [force_eq, aae]; exact All.when fun _ => All.ret rfl
theorem ard {t : TypeId} {x y : Operand} : All (fun e => quiet e = false) (ad6 C s t x y) := by
  unfold ad6
  split
  · split
    · exact All.fail
    · refine All.when fun _ => All.req fun _ => ?_
      rw [aae, aae, force_eq]
      exact All.ret rfl
  · exact All.fail
theorem bay {t : TypeId} {len : Nat} {ps : Array (Nat × Operand)} : All (fun e => quiet e = false) (a2s C s t len ps) := by
  unfold a2s
  refine All.bind (ad3 _ _ _ _ _) fun e _ => ?_
  split
  · rw [aae]; exact All.ret rfl
  · exact All.fail
theorem ajl {α β : Type} {o : Option α} {f : α → Tr β} {K : β → Prop} : ao5 o f K ↔ ∃ a, o = some a ∧ f a K := by
  cases o with
  | none => exact ⟨fun h => h.elim, fun ⟨_, h, _⟩ => by cases h⟩
  | some a => exact ⟨fun h => ⟨a, rfl, h⟩, fun ⟨_, h, k⟩ => by cases h; exact k⟩
theorem ahf {t : TypeId} {m : V} {F : Nat → Bool → List Sc → List (V × Int) → List Nat → Nat → Tr Ef} (h : ∀ i ag sh es bs ck, All (fun e => quiet e = false) (F i ag sh es bs ck)) : All (fun e => quiet e = false) (ag4 C s t m F) := by
  unfold ag4
  refine All.opt fun _ _ => ?_
  split
  · split
    · exact All.when fun _ => h _ _ _ _ _ _
    · exact All.fail
  · exact All.fail
theorem awz {t : TypeId} : All (fun e => quiet e = false) (aes C s t) := by
  unfold aes
  refine All.opt fun _ _ => ?_
  rw [aae]
  exact All.ret rfl
theorem arf {t : TypeId} {m x y : Operand} : All (fun e => quiet e = false) (ad7 C s t m x y) := by
  unfold ad7
  refine ahf fun i ag sh es bs ck => ?_
  rw [force_eq]
  refine All.when fun _ => ?_
  split
  · exact All.ama (fun _ _ => All.ret rfl) (fun _ => All.ret rfl)
  · exact All.fail
theorem au5 {t : TypeId} {m x : Operand} : All (fun e => quiet e = false) (acs C s t m x) := by
  unfold acs
  refine ahf fun i ag sh es bs ck => ?_
  rw [force_eq]
  exact All.when fun _ => All.req fun _ => All.ama (fun _ _ => All.ret rfl) (fun _ => All.ret rfl)
theorem apu {t : TypeId} {m x y : Operand} : All (fun e => quiet e = false) (acd C s t m x y) := by
  unfold acd
  refine ahf fun i ag sh es bs ck => ?_
  split
  · exact All.ex fun _ => All.req fun _ => All.ret rfl
  · exact All.fail
theorem azh {t : TypeId} {m x : V} : All (fun e => quiet e = false) (agi C s t m x) := by
  unfold agi
  refine ahf fun i ag sh es bs ck => ?_
  rw [force_eq]
  exact All.when fun _ => All.ama (fun _ _ => All.ret rfl) (fun _ => All.ret rfl)
theorem a42 {t : TypeId} {m : V} : All (fun e => quiet e = false) (ain C s t m) := by
  unfold ain
  refine ahf fun i ag sh es bs ck => ?_
  rw [aae]
  exact All.ret rfl
theorem a7m {t : TypeId} {x : Operand} : All (fun e => quiet e = false) (anv C s t x) := by
  unfold anv
  split
  · rw [aae]; exact All.ret rfl
  · exact a42
  · exact All.fail
theorem a43 {t : TypeId} {x y : Operand} : All (fun e => quiet e = false) (aio C s t x y) := by
  unfold aio
  simp only [afy]
  split
  · exact All.fail
  · rw [force_eq]
    refine All.when fun _ => ?_
    split
    · split
      · exact All.opt fun _ _ => All.ret rfl
      · exact All.fail
    · split
      · refine All.opt fun _ _ => ?_
        split
        · exact All.when fun _ => All.opt fun _ _ => All.req fun _ => All.ret rfl
        · exact All.fail
      · exact All.fail
    · exact All.fail
theorem azg {t : TypeId} {x : V} {ys : List V} {rd : List Nat} : All (fun e => quiet e = false) (agh C s t x ys rd) := by
  unfold agh
  split
  · refine All.when fun _ => All.req fun _ => All.req fun _ => ?_
    rw [aae, aae]; exact All.ret rfl
  · split
    · exact All.when fun _ => All.req fun _ => All.ret rfl
    · exact All.fail
  · exact All.fail

theorem a9k {x : V} : All (fun r => ∀ i, x = .buf i → r.2.2 = [i]) (elems s x) := by
  unfold elems
  split
  · exact All.ret fun i h => by cases h
  · exact All.ret fun i h => by cases h
  · split
    · exact All.ret fun i h => by cases h; rfl
    · exact All.fail
  · exact All.fail

theorem bd4 (he : aho C ⟨nt, tm, sg, kl⟩ o (fun b => b = e)) (hq : quiet e = true) (hr : ∀ r ∈ e.rd, aa7 sg' r = aa7 sg r) : aho C ⟨nt, tm, sg', kl⟩ o (fun b => b = e) := by
  obtain ⟨dst, op, type, pos, after, guard⟩ := o
  have hev : ∀ x, AS.ev C ⟨nt, tm, sg', kl⟩ x = AS.ev C ⟨nt, tm, sg, kl⟩ x := fun _ => rfl
  have hevs : ∀ l, AS.evs C ⟨nt, tm, sg', kl⟩ l = AS.evs C ⟨nt, tm, sg, kl⟩ l := fun l => aeq fun _ _ => rfl
  have hps : ∀ l, adh C ⟨nt, tm, sg', kl⟩ l = adh C ⟨nt, tm, sg, kl⟩ l := fun l => agj fun _ _ => rfl
  have hrg : ∀ n lo hi, ae2 C ⟨nt, tm, sg', kl⟩ n lo hi = ae2 C ⟨nt, tm, sg, kl⟩ n lo hi := fun n lo hi => anx (fun _ _ => rfl) (fun _ _ => rfl)
  have hno : ∀ {p : Prop}, quiet e = false → p := fun h => by rw [h] at hq; cases hq
  cases op <;> simp only [aho] at he ⊢
  case move x => exact he
  case assign x => exact he
  case pick c a b => exact he
  case alloc t => exact hno (a41 e he)
  case box t x => exact hno (bax (s := ⟨nt, tm, sg, kl⟩) e he)
  case build t ps => simp only [akc, hps] at he ⊢; exact he
  case buildSlice t n ps =>
    have hb : aaz C ⟨nt, tm, sg', kl⟩ t n ps = aaz C ⟨nt, tm, sg, kl⟩ t n ps := by simp only [aaz, hps]
    cases dst with
    | none => simp only [a9n, hb] at he ⊢; exact he
    | some d =>
      simp only [a9n] at he ⊢
      cases hd : C.lits d with
      | false => rw [hd] at he; simp only [cond_false, hb] at he ⊢; exact he
      | true => rw [hd] at he; exact hno (bay e he)
  case load t x =>
    unfold al8 at he ⊢
    simp only [afy] at he ⊢
    rw [hev]
    cases hv : AS.ev C ⟨nt, tm, sg, kl⟩ x <;> rw [hv] at he <;> try exact he
    · rename_i i off
      have hi : i ∈ e.rd := by
        refine (?_ : All (fun e : Ef => i ∈ e.rd) _) e he
        split
        · exact All.fail
        · simp only
          split
          · refine All.bind (aaw _ _ _ _) fun v _ => ?_
            rw [force_eq]; exact All.ret (by simp)
          · exact All.fail
      simp only [hr i hi]
      exact he
    · rename_i i idx off
      have hi : i ∈ e.rd := by
        refine (?_ : All (fun e : Ef => i ∈ e.rd) _) e he
        split
        · exact All.fail
        · simp only
          split
          · refine All.opt fun _ _ => All.when fun _ => All.bind (aaw _ _ _ _) fun v _ => ?_
            rw [force_eq]; exact All.ret (by simp)
          · exact All.fail
      simp only [hr i hi]
      exact he
  case store t x y => exact hno (a43 e he)
  case nilCheck x => exact he
  case binOp b t x y u => exact he
  case unOp b t x => exact he
  case convert a b x =>
    rw [hev]
    have hmk : (ah5 C ⟨nt, tm, sg, kl⟩ a b (AS.ev C ⟨nt, tm, sg, kl⟩ x) (fun b => b = e) → ah5 C ⟨nt, tm, sg', kl⟩ a b (AS.ev C ⟨nt, tm, sg, kl⟩ x) (fun b => b = e)) → anw C ⟨nt, tm, sg', kl⟩ a b (AS.ev C ⟨nt, tm, sg, kl⟩ x) (fun b => b = e) := fun hk => by
      unfold anw at he ⊢
      cases hv : AS.ev C ⟨nt, tm, sg, kl⟩ x <;> rw [hv] at he hk <;> try exact hk he
      rename_i i
      simp only at he ⊢
      cases hb : Nat.beq a b with
      | false => rw [hb] at he; exact hk he
      | true =>
        rw [hb] at he
        refine hno ((?_ : All (fun e : Ef => quiet e = false) _) e he)
        simp only [cond_true]
        split
        · split
          · split
            · exact All.ret rfl
            · exact All.fail
          · exact All.fail
        · exact All.fail
    refine hmk fun he => ?_
    have hc : ∀ v, elems ⟨nt, tm, sg', kl⟩ v = elems ⟨nt, tm, sg, kl⟩ v → ah5 C ⟨nt, tm, sg', kl⟩ a b v = ah5 C ⟨nt, tm, sg, kl⟩ a b v := fun v hel => by
      unfold ah5
      repeat' (first
        | rfl
        | (simp only [hel]; done)
        | split)
    generalize AS.ev C ⟨nt, tm, sg, kl⟩ x = v at he ⊢
    rw [hc v (as3 fun i hv => ?_)]
    · exact he
    subst hv
    refine hr i ?_
    refine (?_ : All (fun e : Ef => i ∈ e.rd) _) e he
    unfold ah5
    split <;> first
      | exact All.fail
      | contradiction
      | skip
    split
    · exact All.fail
    · refine All.bind (agf _ _) fun r hr' => ?_
      have := a9k r (hr' _ rfl) i rfl
      obtain ⟨sz, l, rd⟩ := r
      simp only at this
      subst this
      exact All.when fun _ => All.ex fun _ => All.req fun _ => All.ret (by simp)
    · exact All.fail
  case makeInterface t x => exact he
  case makeFunc fn a b => rw [hevs, hevs]; exact he
  case makeSlice t x y => exact hno (ard e he)
  case slice t x lo hi mx =>
    unfold ake at he ⊢
    rw [hev]
    simp only [hrg, hev] at he ⊢
    generalize AS.ev C ⟨nt, tm, sg, kl⟩ x = v at he ⊢
    by_cases hv : ∃ i, v = .buf i
    · obtain ⟨i, rfl⟩ := hv
      refine hno ((?_ : All (fun e : Ef => quiet e = false) _) e he)
      split <;> first
        | exact All.fail
        | contradiction
        | skip
      all_goals
        split
        · exact All.fail
        · split
          · split
            · exact All.when fun _ => All.req fun _ => All.ret rfl
            · exact All.fail
          · exact All.fail
    · by_cases hp : ∃ i a, v = .ptr i a
      · obtain ⟨i, a, rfl⟩ := hp
        refine hno ((?_ : All (fun e : Ef => quiet e = false) _) e he)
        split <;> first
          | exact All.fail
          | contradiction
          | skip
        split
        · exact All.fail
        · split
          · exact All.when fun _ => All.opt fun _ _ => All.bind (aak _ _ _ _ _) fun _ _ => by rw [ap6]; exact All.ret rfl
          · exact All.fail
      cases v <;> first
        | exact absurd ⟨_, rfl⟩ hv
        | exact absurd ⟨_, _, rfl⟩ hp
        | skip
      all_goals (generalize (C.ti t).k = k at he ⊢; cases k <;> cases mx <;> exact he)
  case fieldAddr t x f => exact he
  case field t x f => exact he
  case indexAddr t x y =>
    unfold adr at he ⊢
    simp only [afy] at he ⊢
    rw [hev, hev]
    generalize AS.ev C ⟨nt, tm, sg, kl⟩ x = v at he ⊢
    generalize AS.ev C ⟨nt, tm, sg, kl⟩ y = u at he ⊢
    by_cases hv : ∃ i, v = .buf i
    · obtain ⟨i, rfl⟩ := hv
      have hi : i ∈ e.rd := by
        refine (?_ : All (fun e : Ef => i ∈ e.rd) _) e he
        split <;> first
          | exact All.fail
          | contradiction
          | skip
        rename_i h
        cases h
        split
        · exact All.fail
        · split
          · exact All.when fun _ => All.req fun _ => All.ret (by simp)
          · exact All.fail
      generalize (C.ti t).k = k at he ⊢
      cases k <;> cases u <;> simp only [hr i hi] <;> exact he
    · cases v <;> first
        | exact absurd ⟨_, rfl⟩ hv
        | skip
      all_goals (generalize (C.ti t).k = k at he ⊢; cases k <;> cases u <;> exact he)
  case index t x y => exact he
  case typeAssert x _ t ok => exact he
  case extract x i => exact he
  case range t x => exact hno (a7m e he)
  case makeMap t r => cases r with
    | none => exact hno (awz e he)
    | some r => exact he
  case mapUpdate t m x y => exact hno (arf e he)
  case mapEntry t m x => exact hno (au5 e he)
  case entryStore t m b y => exact hno (apu e he)
  case lookup t m x ok =>
    unfold adl ag4 at he ⊢
    rw [hev, hev]
    obtain ⟨p, hp, he⟩ := ajl.1 he
    refine ajl.2 ⟨p, hp, ?_⟩
    generalize AS.ev C ⟨nt, tm, sg, kl⟩ m = v at he ⊢
    cases v <;> try exact he
    rename_i i
    have hi : i ∈ e.rd := by
      refine (?_ : All (fun e : Ef => i ∈ e.rd) _) e he
      simp only
      split
      · rw [force_eq]
        refine All.when fun _ => All.when fun _ => ?_
        split
        · exact All.ama (fun _ _ => All.ret (by simp)) (fun _ => All.ret (by simp))
        · exact All.ret (by simp)
      · exact All.fail
    simp only [hr i hi]
    exact he
  case entry x =>
    unfold akd at he ⊢
    simp only [afy] at he ⊢
    rw [hev]
    generalize AS.ev C ⟨nt, tm, sg, kl⟩ x = v at he ⊢
    cases v <;> try exact he
    rename_i k off
    cases off with
    | succ off => exact he
    | zero =>
      have hk : k ∈ e.rd ∧ ∀ i bs ck left last, aa7 sg k = .miter (.map i) bs ck left last → i ∈ e.rd := by
        refine (?_ : All (fun e : Ef => k ∈ e.rd ∧ ∀ i bs ck left last, aa7 sg k = .miter (.map i) bs ck left last → i ∈ e.rd) _) e he
        simp only
        split
        · rename_i i bs ck left last hs
          split
          · refine All.req fun _ => All.opt fun _ _ => All.ret ⟨by simp, fun i' bs' ck' left' last' h' => ?_⟩
            rw [hs] at h'
            injection h' with h' _
            injection h' with h'
            subst h'
            simp
          · exact All.fail
        · exact All.fail
      simp only [hr k hk.1]
      have hk2 := hk.2
      simp only at he
      generalize aa7 sg k = ob at he hk2 ⊢
      cases ob <;> try exact he
      rename_i m bs ck left last
      cases m <;> try exact he
      rename_i i
      simp only [hr i (hk2 i bs ck left last rfl)]
      exact he
  case next x b =>
    unfold apc at he ⊢
    rw [hev]
    cases hv : AS.ev C ⟨nt, tm, sg, kl⟩ x <;> rw [hv] at he <;> try exact he
    rename_i i off
    cases off with
    | succ off => cases b <;> exact he
    | zero => cases b with
      | false => exact he
      | true =>
        have hi : i ∈ e.rd := by
          refine (?_ : All (fun e : Ef => i ∈ e.rd) _) e he
          simp only
          split
          · exact All.brn (fun _ => All.opt fun _ _ => All.req fun _ => All.ret (by simp)) (fun _ => All.ret (by simp))
          · exact All.fail
        simp only [hr i hi]
        exact he
  case call c =>
    unfold ahu at he ⊢
    have htg : target C ⟨nt, tm, sg', kl⟩ c = target C ⟨nt, tm, sg, kl⟩ c := aqv fun _ _ => rfl
    rw [htg]
    generalize hcal : c.callee = cal at he ⊢
    cases cal
    · -- a function's value
      obtain ⟨p, hp, hc⟩ : ∃ p, target C ⟨nt, tm, sg, kl⟩ c = some p ∧ aed (adg C sg p.1 p.2) (fun b => b = e) := by
        cases ht : target C ⟨nt, tm, sg, kl⟩ c with
        | none => rw [ht] at he; exact he.elim
        | some p => rw [ht] at he; exact ⟨p, rfl, he⟩
      obtain ⟨pre, h1, h2⟩ := arw hc
      rw [hp]
      exact a0g (as4 h1 hq hr) h2
    · rename_i r m
      simp only at he ⊢
      rw [hev, hevs]
      generalize AS.ev C ⟨nt, tm, sg, kl⟩ r = v at he ⊢
      cases v <;> try exact he
      obtain ⟨f, hm, hc⟩ := he
      obtain ⟨pre, h1, h2⟩ := arw hc
      exact ⟨f, hm, a0g (as4 h1 hq hr) h2⟩
    · rename_i b
      simp only at he ⊢
      rw [hevs]
      rw [ael] at he ⊢
      generalize AS.evs C ⟨nt, tm, sg, kl⟩ c.args.toList = xs at he ⊢
      generalize c.argTypes.toList = ts at he ⊢
      have hbt : All (fun e' => quiet e' = true → (∀ r ∈ e'.rd, aa7 sg' r = aa7 sg r) → ad4 C ⟨nt, tm, sg', kl⟩ b ts xs (fun b => b = e')) (ad4 C ⟨nt, tm, sg, kl⟩ b ts xs) := by
        unfold ad4
        split
        · rename_i t x
          intro e he hq hr
          generalize (C.ti t).k = k at he ⊢
          cases k <;> try exact he
          cases x <;> try exact he
          rename_i i _
          have hi : i ∈ e.rd := by
            refine (?_ : All (fun e : Ef => i ∈ e.rd) _) e he
            simp only
            split
            · exact All.ret (by simp)
            · exact All.fail
          simp only [hr i hi]
          exact he
        · rename_i t t2 x y
          refine fun e he hq _ => (?_ : ∀ {p : Prop}, quiet e = false → p) ((?_ : All (fun e : Ef => quiet e = false) _) e he)
          · intro p h; rw [h] at hq; cases hq
          split
          · exact All.fail
          · exact All.fail
          · split
            · exact All.fail
            · exact All.when fun _ => All.bind (agf _ _) fun r _ => All.when fun _ => azg
          · exact All.fail
        · rename_i t t2 x y
          refine fun e he hq _ => (?_ : ∀ {p : Prop}, quiet e = false → p) ((?_ : All (fun e : Ef => quiet e = false) _) e he)
          · intro p h; rw [h] at hq; cases hq
          split
          · split
            · exact All.fail
            · split
              · exact All.bind (agf _ _) fun r _ => All.when fun _ => All.ret rfl
              · exact All.fail
          · exact All.fail
        · exact fun e he hq _ => absurd hq (by rw [azh e he]; exact Bool.false_ne_true)
        · exact fun e he _ _ => he
        · exact fun e he _ _ => he
        · exact fun e he _ _ => he
      exact hbt e he hq hr
  all_goals exact he

theorem a9o (h : ∀ x ∈ a0c o.op, s'.ev C x = s.ev C x) (he : aho C s o (fun b => b = e)) (hq : quiet e = true) (hr : ∀ r ∈ e.rd, aa7 s'.sg r = aa7 s.sg r) : aho C s' o (fun b => b = e) := by
  obtain ⟨nt, tm, sg, kl⟩ := s
  obtain ⟨nt', tm', sg', kl'⟩ := s'
  have h1 : aho C ⟨nt', tm', sg, kl'⟩ o (fun b => b = e) := by
    rw [apd (s' := ⟨nt', tm', sg, kl'⟩) (s := ⟨nt, tm, sg, kl⟩) (fun x hx => h x hx) rfl]
    exact he
  exact bd4 h1 hq hr
end
end Go.VG
namespace Go.VG
open Go

mutual
theorem aha {ks : List Nat} : ∀ {x : V}, x.free ks = true → x.kill ks = x
  | .undef, _ | .int .., _ | .bool _, _ | .str _, _ | .nilptr, _ | .nilIface, _ | .nilFunc, _ | .nilmap, _ | .list .., _ | .box .., _ => by simp [V.kill]
  | .ptr i _, h | .bptr i _ _, h | .buf i, h | .map i, h => by
    simp only [V.free, Bool.not_eq_true'] at h
    simp [V.kill, h]
  | .agg cs, h | .tuple cs, h => by simp [V.kill, ah9 (by simpa [V.free] using h)]
  | .iface t x, h => by simp [V.kill, aha (by simpa [V.free] using h)]
  | .func fn fs cs, h => by
    simp only [V.free, Bool.and_eq_true] at h
    simp [V.kill, ah9 h.1, ah9 h.2]
theorem ah9 {ks : List Nat} : ∀ {x : List V}, V.ar8 ks x = true → V.afi ks x = x
  | [], _ => by simp [V.afi]
  | c :: cs, h => by
    simp only [V.ar8, Bool.and_eq_true] at h
    simp [V.afi, aha h.1, ah9 h.2]
end
mutual
theorem aji {ks : List Nat} : ∀ {x : V}, (x.kill ks).auy = true → x.kill ks = x
  | .undef, _ | .int .., _ | .bool _, _ | .str _, _ | .nilptr, _ | .nilIface, _ | .nilFunc, _ | .nilmap, _ | .list .., _ | .box .., _ => by simp [V.kill]
  | .ptr i _, h | .bptr i _ _, h | .buf i, h | .map i, h => by
    cases hm : abk i ks with
    | true => simp [V.kill, hm, V.auy] at h
    | false => simp [V.kill, hm]
  | .agg cs, h | .tuple cs, h => by
    simp only [V.kill, V.auy] at h
    simp [V.kill, ag0 h]
  | .iface t x, h => by
    simp only [V.kill, V.auy] at h
    simp [V.kill, aji h]
  | .func fn fs cs, h => by
    simp only [V.kill, V.auy, Bool.and_eq_true] at h
    simp [V.kill, ag0 h.1, ag0 h.2]
theorem ag0 {ks : List Nat} : ∀ {x : List V}, V.ak6 (V.afi ks x) = true → V.afi ks x = x
  | [], _ => by simp [V.afi]
  | c :: cs, h => by
    simp only [V.afi, V.ak6, Bool.and_eq_true] at h
    simp [V.afi, aji h.1, ag0 h.2]
end

theorem ah7 : ∀ (sg : List O) (i : Nat), aa7 sg i = sg.getD i .dead
  | [], i => by simp [aa7]
  | o :: os, 0 => by simp [aa7]
  | o :: os, i + 1 => by simp [aa7, ah7 os i]

theorem aka : ∀ {up : List (Nat × O)} {rd : List Nat}, ap0 up rd = true → ∀ p ∈ up, p.1 ∉ rd
  | [], _, _, p, h => by simp at h
  | (i, o) :: r, rd, h, p, hp => by
    simp only [ap0, Bool.and_eq_true, Bool.not_eq_true'] at h
    rcases List.mem_cons.1 hp with rfl | hp
    · exact aeo.1 h.1
    · exact aka h.2 p hp
theorem aoz : ∀ {l : List Nat} {n : Nat}, a57 l n = true → ∀ i ∈ l, i < n
  | [], _, _, i, h => by simp at h
  | k :: ks, n, h, i, hi => by
    simp only [a57, Bool.and_eq_true] at h
    rcases List.mem_cons.1 hi with rfl | hi
    · exact Nat.le_of_ble_eq_true h.1
    · exact aoz h.2 i hi
theorem aqx : ∀ {up : List (Nat × O)} {sg : List O} {r : Nat}, (∀ p ∈ up, p.1 ≠ r) → (aef sg up)[r]? = sg[r]?
  | [], sg, r, _ => rfl
  | (i, o) :: up, sg, r, h => by
    simp only [aef]
    rw [aqx fun p hp => h p (List.mem_cons_of_mem _ hp), acg, List.getElem?_set_ne (h (i, o) (by simp))]

structure Eqv (s t : AS) : Prop where
  nt : s.nt = t.nt
  tm : ∀ u, lk s.tm u = lk t.tm u
  sg : s.sg = t.sg
  kl : ∀ i, abk i s.kl = true ↔ abk i t.kl = true
theorem Eqv.refl (s : AS) : Eqv s s := ⟨rfl, fun _ => rfl, rfl, fun _ => Iff.rfl⟩
theorem Eqv.symm {s t : AS} (h : Eqv s t) : Eqv t s := ⟨h.nt.symm, fun u => (h.tm u).symm, h.sg.symm, fun i => (h.kl i).symm⟩
theorem Eqv.trans {s t u : AS} (h : Eqv s t) (k : Eqv t u) : Eqv s u := ⟨h.nt.trans k.nt, fun x => (h.tm x).trans (k.tm x), h.sg.trans k.sg, fun i => (h.kl i).trans (k.kl i)⟩

theorem ai6 (s : AS) (d : Option Nat) (e : Ef) (t : Nat) : lk (s.app d e).tm t = if d = some t then e.v else (lk s.tm t).kill e.ks := by
  cases d with
  | none => simp only [AS.app]; rw [ae4]; simp
  | some d =>
    simp only [AS.app, lk]
    rw [ae4]
    by_cases h : d = t
    · subst h; simp
    · have : Nat.beq d t = false := by
        cases hb : Nat.beq d t with
        | false => rfl
        | true => exact absurd (Nat.eq_of_beq_eq_true hb) h
      simp [this, h]
theorem ajy (s : AS) (d : Option Nat) (e : Ef) : (s.app d e).sg = ajq (aef (acz e.ks s.sg) e.up) e.nw := rfl
theorem ab9 {s : AS} {d : Option Nat} {e : Ef} (h : quiet e = true) : (s.app d e).sg = s.sg := by
  obtain ⟨h1, h2, h3⟩ := aex.1 h
  rw [ajy, h1, h2, h3]; rfl
theorem Eqv.app {s t : AS} (h : Eqv s t) (d : Option Nat) (e : Ef) : Eqv (s.app d e) (t.app d e) := by
  refine ⟨h.nt, fun u => ?_, ?_, fun i => ?_⟩
  · rw [ai6, ai6, h.tm]
  · rw [ajy, ajy, h.sg]
  · simp only [AS.app, acv, h.kl]
theorem awg {s : AS} {d : Option Nat} {e : Ef} {r : Nat} (hr : r < s.sg.length) (hu : ∀ p ∈ e.up, p.1 ≠ r) : aa7 (s.app d e).sg r = (aa7 s.sg r).kill e.ks := by
  rw [ah7, ah7, ajy, at8, List.getD_eq_getElem?_getD, List.getD_eq_getElem?_getD, List.getElem?_append_left (by rw [ada, afz]; simpa using hr), aqx hu, afz,
    List.getElem?_map, List.getElem?_eq_getElem hr]
  rfl

section
variable {C : Ctx} {ops : List Oper}

structure Stp (C : Ctx) (ops : List Oper) (o : Oper) (s : AS) (r : Rc) : Prop where
  ef : stepT C ops s o (fun b => b = r.e)
  d : r.d = o.dst
  us : r.us = looks ops o
  ov : r.ov = s.evs C (a0c o.op)
  oo : (a95 o).1 = 1 ∨ r.oo = ai5 s.sg r.e.rd
  lu : r.lu = a95 o
  n : quiet r.e = false → r.n = s.sg.length
  dok : aee s o.dst = true

theorem ank : ∀ {l : List Operand} {t : Nat}, Operand.tmp t ∈ l → t ∈ tmpsOf l
  | [], _, h => by simp at h
  | x :: xs, t, h => by
    rcases List.mem_cons.1 h with h | h
    · subst h; simp [tmpsOf]
    · have := ank h
      cases x <;> simp [tmpsOf, this]
theorem a0o {s s' : AS} {x : Operand} (h : ∀ t, x = .tmp t → lk s'.tm t = lk s.tm t) : s'.ev C x = s.ev C x := by
  cases x with
  | tmp t => exact h t rfl
  | _ => rfl
theorem api {sg sg' : List O} : ∀ {l : List Nat}, (∀ r ∈ l, aa7 sg' r = aa7 sg r) → ai5 sg' l = ai5 sg l
  | [], _ => rfl
  | r :: rs, h => by simp only [ai5, h r (by simp), api (l := rs) fun x hx => h x (List.mem_cons_of_mem _ hx)]

theorem bbs {s s' : AS} {o : Oper} {e : Ef} (hg : ∀ t ∈ ajh ops o.guard, lk s'.tm t = lk s.tm t) (ho : aho C s o (fun b => b = e) → aho C s' o (fun b => b = e)) (h : stepT C ops s o (fun b => b = e)) : stepT C ops s' o (fun b => b = e) := by
  unfold stepT at h ⊢
  cases hgd : o.guard with
  | none => rw [hgd] at h; exact ho h
  | some p =>
    obtain ⟨j, want⟩ := p
    rw [hgd] at h hg
    simp only at h ⊢
    cases hd : ac7 ops j with
    | none => rw [hd] at h; exact h
    | some t =>
      rw [hd] at h
      simp only at h ⊢
      rw [hg t (by simp [ajh, hd])]
      generalize lk s.tm t = v at h ⊢
      cases v <;> try exact h
      rotate_left
      · rename_i l
        cases l with
        | nil => exact h
        | cons _ _ => exact h
      rename_i b
      cases want <;> cases b <;> simp only [cond_true, cond_false, a5f, brn] at h ⊢ <;> first
        | exact h
        | exact ho h

theorem aqu {s : AS} {o : Oper} {e : Ef} (h : stepT C ops s o (fun b => b = e)) : ∀ t ∈ ajh ops o.guard, (∃ b, lk s.tm t = .bool b) ∨ lk s.tm t = .tuple [] := by
  intro t ht
  unfold stepT at h
  cases hgd : o.guard with
  | none => rw [hgd] at ht; simp [ajh] at ht
  | some p =>
    obtain ⟨j, want⟩ := p
    rw [hgd] at h ht
    simp only [ajh] at ht
    simp only at h
    cases hd : ac7 ops j with
    | none => rw [hd] at ht; simp at ht
    | some t' =>
      rw [hd] at ht h
      simp only [List.mem_singleton] at ht
      subst ht
      simp only at h
      generalize lk s.tm t = v at h
      cases v <;> first
        | exact .inl ⟨_, rfl⟩
        | exact h.elim
        | (rename_i l; cases l with
           | nil => exact .inr rfl
           | cons _ _ => exact h.elim)

theorem Stp.loc {s s' : AS} {o : Oper} {r : Rc} (h : Stp C ops o s r) (hnt : s'.nt = s.nt) (hl : ∀ t ∈ looks ops o, lk s'.tm t = lk s.tm t) (hsg : s'.sg = s.sg ∨ (quiet r.e = true ∧ ∀ i ∈ r.e.rd, aa7 s'.sg i = aa7 s.sg i)) :
    Stp C ops o s' r := by
  have hev : ∀ x ∈ a0c o.op, s'.ev C x = s.ev C x := fun x hx => a0o fun t ht => hl t (List.mem_append_left _ (ank (ht ▸ hx)))
  refine ⟨?_, h.d, h.us, ?_, ?_, h.lu, fun hq => ?_, ?_⟩
  · refine bbs (fun t ht => hl t (List.mem_append_right _ ht)) (fun he => ?_) h.ef
    rcases hsg with hsg | ⟨hq, hr⟩
    · rw [apd hev hsg]; exact he
    · exact a9o hev he hq hr
  · rw [h.ov, aeq hev]
  · refine h.oo.imp id fun hoo => ?_
    rw [hoo]
    rcases hsg with hsg | ⟨_, hr⟩
    · rw [hsg]
    · exact (api hr).symm
  · rcases hsg with hsg | ⟨hq', _⟩
    · rw [hsg]; exact h.n hq
    · rw [hq'] at hq; cases hq
  · have := h.dok
    cases hd : o.dst with
    | none => rfl
    | some d => rw [hd] at this; simp only [aee] at this ⊢; rw [hnt]; exact this

theorem Stp.eqv {s s' : AS} {o : Oper} {r : Rc} (h : Stp C ops o s r) (e : Eqv s s') : Stp C ops o s' r :=
  h.loc e.nt.symm (fun t _ => (e.tm t).symm) (.inl e.sg.symm)

theorem awe {ks : List Nat} : ∀ {l : List V}, V.ar8 ks l = true → ∀ x ∈ l, x.free ks = true
  | [], _, x, h => by simp at h
  | c :: cs, h, x, hx => by
    simp only [V.ar8, Bool.and_eq_true] at h
    rcases List.mem_cons.1 hx with rfl | hx
    · exact h.1
    · exact awe h.2 x hx
theorem asy : ∀ {l : List V}, V.ak6 l = true → ∀ x ∈ l, x.auy = true
  | [], _, x, h => by simp at h
  | c :: cs, h, x, hx => by
    simp only [V.ak6, Bool.and_eq_true] at h
    rcases List.mem_cons.1 hx with rfl | hx
    · exact h.1
    · exact asy h.2 x hx
theorem ayk {s : AS} : ∀ {l : List Operand} {x : Operand}, x ∈ l → s.ev C x ∈ s.evs C l
  | [], _, h => by simp at h
  | y :: ys, x, h => by
    rcases List.mem_cons.1 h with rfl | h
    · simp [AS.evs]
    · simp only [AS.evs, List.mem_cons]; exact .inr (ayk h)
theorem as8 {ks : List Nat} {sg : List O} : ∀ {l : List Nat}, ao0 ks (ai5 sg l) = true → ∀ i ∈ l, (aa7 sg i).kill ks = aa7 sg i
  | [], _, i, h => by simp at h
  | k :: l, h, i, hi => by
    simp only [ai5] at h
    have hrest : ao0 ks (ai5 sg l) = true := by
      cases ho : aa7 sg k <;> rw [ho] at h <;> simp only [ao0, Bool.and_eq_true] at h <;> first | exact h | exact h.2
    rcases List.mem_cons.1 hi with rfl | hi
    · cases ho : aa7 sg i <;> try rfl
      all_goals
        rw [ho] at h
        simp only [ao0, Bool.and_eq_true] at h
        first
        | (simp only [O.kill, ah9 h.1]; done)
        | (simp only [O.kill, aha h.1]; done)
    · exact as8 hrest i hi
theorem aqt {ks : List Nat} {sg sg' : List O} : ∀ {l : List Nat}, aj7 (ai5 sg' l) = true → ∀ i ∈ l, aa7 sg' i = (aa7 sg i).kill ks → aa7 sg' i = aa7 sg i
  | [], _, i, h, _ => by simp at h
  | k :: l, h, i, hi, he => by
    simp only [ai5] at h
    have hrest : aj7 (ai5 sg' l) = true := by
      cases ho : aa7 sg' k <;> rw [ho] at h <;> simp only [aj7, Bool.and_eq_true] at h <;> first | exact h | exact h.2 | cases h
    rcases List.mem_cons.1 hi with rfl | hi
    · cases ho : aa7 sg i <;> rw [ho] at he <;> try exact he
      all_goals
        simp only [O.kill] at he
        rw [he] at h
        simp only [aj7, Bool.and_eq_true] at h
        first
        | (rw [he, ag0 h.1]; done)
        | (rw [he, aji h.1]; done)
    · exact aqt hrest i hi he

theorem aih {d : Option Nat} {us : List Nat} (h : al6 d us = true) {t : Nat} (ht : t ∈ us) : d ≠ some t := by
  intro e
  subst e
  simp only [al6, Bool.not_eq_true'] at h
  exact aeo.1 h ht

theorem a5s : ∀ {a b : List Nat}, eqNs a b = true → a = b
  | [], [], _ => rfl
  | x :: xs, y :: ys, h => by
    simp only [eqNs, Bool.and_eq_true] at h
    rw [Nat.eq_of_beq_eq_true h.1, a5s h.2]
  | [], _ :: _, h => by cases h
  | _ :: _, [], h => by cases h
theorem bcj {o : Oper} (h : (a95 o).1 = 1) : ∃ t m x, o.guard = none ∧ o.op = .lookup t (.tmp m) (.tmp x) false ∧ a95 o = (1, [t, m, x]) := by
  unfold a95 at h ⊢
  split at h <;> first
    | (rename_i t m x hg ho; exact ⟨t, m, x, hg, ho, rfl⟩)
    | (cases h; done)
theorem luOf_2 {o : Oper} (h : (a95 o).1 = 2) : ∃ t m x, o.guard = none ∧ o.op = .mapEntry t (.tmp m) (.tmp x) ∧ a95 o = (2, [t, m, x]) := by
  unfold a95 at h ⊢
  split at h <;> first
    | (rename_i t m x hg ho; exact ⟨t, m, x, hg, ho, rfl⟩)
    | (cases h; done)
theorem a6j {es : List (V × Int)} {x y : V} {q : Int} (h : agb es x = none) : agb (es ++ [(y, q)]) x = cond (amw y x) (some (es.length, q)) none := by
  induction es with
  | nil => simp only [List.nil_append, agb]; cases amw y x <;> rfl
  | cons p es ih =>
    obtain ⟨z, r⟩ := p
    simp only [List.cons_append, agb] at h ⊢
    cases hz : amw z x with
    | true => rw [hz] at h; simp at h
    | false =>
      rw [hz] at h
      simp only [cond_false] at h ⊢
      have hn : agb es x = none := by
        cases he : agb es x with
        | none => rfl
        | some p => rw [he] at h; cases h
      rw [ih hn]
      cases amw y x <;> simp
theorem ba3 {es : List (V × Int)} {x y : V} (h : agb es x = none) : getM (es ++ [(y, 0)]) x = getM es x := by
  unfold getM
  rw [a6j h, h]
  cases amw y x <;> rfl
theorem a6m {sg : List O} {i : Nat} {o : O} (h : i < sg.length) : aa7 (ahi sg i o) i = o := by
  have : ∀ (sg : List O) (i : Nat), i < sg.length → aa7 (ahi sg i o) i = o := by
    intro sg
    induction sg with
    | nil => intro i h; simp at h
    | cons a r ih =>
      intro i h
      cases i with
      | zero => rfl
      | succ i => exact ih i (by simpa using h)
  exact this sg i h
theorem Stp.look {s : AS} {o : Oper} {r : Rc} (h : Stp C ops o s r) (hl : (a95 o).1 = 1) : quiet r.e = true ∧ ∀ i ∈ r.e.rd, ∃ ag sh es bs ck, aa7 s.sg i = .map ag sh es bs ck := by
  obtain ⟨t, m, x, hg, ho, _⟩ := bcj hl
  have ef : adl C s t (.tmp m) (.tmp x) false (fun b => b = r.e) := by
    have := h.ef
    unfold stepT at this
    rw [hg] at this
    simp only [aho, ho] at this
    exact this
  unfold adl ag4 at ef
  obtain ⟨p, hp, ef⟩ := ajl.1 ef
  cases hm : AS.ev C s (.tmp m) <;> rw [hm] at ef <;> try exact ef.elim
  rename_i i
  simp only at ef
  cases hs : aa7 s.sg i <;> rw [hs] at ef <;> try exact ef.elim
  rename_i ag sh es bs ck
  simp only [force_eq] at ef
  cases hw : (beqB ag p.1 && bf9 sh p.2) with
  | false => rw [hw] at ef; exact ef.elim
  | true =>
    cases hf : ala ag sh (AS.ev C s (.tmp x)) with
    | false => rw [hw, hf] at ef; exact ef.elim
    | true =>
      rw [hw, hf] at ef
      have ef : (⟨.int .i64 (getM es (AS.ev C s (.tmp x))), [], [], [], [i]⟩ : Ef) = r.e := ef
      rw [← ef]
      refine ⟨rfl, fun k hk => ?_⟩
      simp at hk
      subst hk
      exact ⟨_, _, _, _, _, hs⟩
theorem Stp.pair {s : AS} {oj oi : Oper} {rj ri : Rc} (hj : Stp C ops oj s rj) (hi : Stp C ops oi s ri) (h : ax9 rj ri = true) (a2 : al6 oi.dst (looks ops oj) = true) : quiet rj.e = true ∧ ri.e.ks = [] ∧ Stp C ops oj (s.app oi.dst ri.e) rj := by
  unfold ax9 at h
  simp only [Bool.and_eq_true] at h
  rw [hj.lu, hi.lu] at h
  obtain ⟨l1, l2, l3⟩ := h
  obtain ⟨t, m, x, hgj, hoj, ej⟩ := bcj (Nat.eq_of_beq_eq_true l1)
  obtain ⟨t', m', x', hgi, hoi, ei⟩ := luOf_2 (Nat.eq_of_beq_eq_true l2)
  rw [ej, ei] at l3
  have l3 := a5s l3
  simp only [List.cons.injEq, and_true] at l3
  obtain ⟨rfl, rfl, rfl⟩ := l3
  have efj : adl C s t (.tmp m) (.tmp x) false (fun b => b = rj.e) := by
    have := hj.ef
    unfold stepT at this
    rw [hgj] at this
    simp only [aho, hoj] at this
    exact this
  have efi : acs C s t (.tmp m) (.tmp x) (fun b => b = ri.e) := by
    have := hi.ef
    unfold stepT at this
    rw [hgi] at this
    simp only [aho, hoi] at this
    exact this
  unfold adl ag4 at efj
  obtain ⟨p, hp, efj⟩ := ajl.1 efj
  unfold acs ag4 at efi
  obtain ⟨p', hp', efi⟩ := ajl.1 efi
  rw [hp] at hp'; cases hp'
  have hlm : Operand.tmp m ∈ a0c oj.op := by rw [hoj]; simp [a0c]
  have hlx : Operand.tmp x ∈ a0c oj.op := by rw [hoj]; simp [a0c]
  cases hm : AS.ev C s (.tmp m) <;> rw [hm] at efj efi <;> try exact efj.elim
  rename_i i
  simp only at efj efi
  cases hs : aa7 s.sg i <;> rw [hs] at efj efi <;> try exact efj.elim
  rename_i ag sh es bs ck
  simp only [force_eq] at efj efi
  have hil : i < s.sg.length := (ab1 hs (by simp)).2
  cases hw : (beqB ag p.1 && bf9 sh p.2) with
  | false => rw [hw] at efj; exact efj.elim
  | true =>
    cases hf : ala ag sh (AS.ev C s (.tmp x)) with
    | false => rw [hw, hf] at efj; exact efj.elim
    | true =>
      rw [hw, hf] at efj efi
      have efj : (⟨.int .i64 (getM es (AS.ev C s (.tmp x))), [], [], [], [i]⟩ : Ef) = rj.e := efj
      have hri : ∃ v es' bs' ck', ri.e = ⟨v, [], [(i, .map ag sh es' bs' ck')], [], [i]⟩ ∧ getM es' (AS.ev C s (.tmp x)) = getM es (AS.ev C s (.tmp x)) := by
        obtain ⟨_, k1, k2⟩ := efi
        cases hfd : agb es (AS.ev C s (.tmp x)) with
        | some r =>
          have := k1 r hfd
          exact ⟨_, _, _, _, (show _ = ri.e from this).symm, rfl⟩
        | none =>
          have := k2 hfd
          exact ⟨_, _, _, _, (show _ = ri.e from this).symm, ba3 hfd⟩
      obtain ⟨v, es', bs', ck', hri, hget⟩ := hri
      have hks : ri.e.ks = [] := by rw [hri]
      have hlk : ∀ u ∈ looks ops oj, lk (s.app oi.dst ri.e).tm u = lk s.tm u := fun u hu => by
        rw [ai6, if_neg (aih a2 hu), hks, abp]
      have hev : ∀ y ∈ a0c oj.op, (s.app oi.dst ri.e).ev C y = s.ev C y := fun y hy => a0o fun u hu => hlk u (List.mem_append_left _ (ank (hu ▸ hy)))
      refine ⟨by rw [← efj]; rfl, hks, ?_⟩
      have hsg : (s.app oi.dst ri.e).sg = ahi s.sg i (.map ag sh es' bs' ck') := by
        rw [hri]
        simp [AS.app, acz, aef, ajq]
      refine ⟨?_, hj.d, hj.us, ?_, .inl (Nat.eq_of_beq_eq_true l1), hj.lu, fun hq => ?_, ?_⟩
      · unfold stepT
        rw [hgj]
        simp only [aho, hoj]
        unfold adl ag4
        refine ajl.2 ⟨p, hp, ?_⟩
        rw [hev _ hlm, hm]
        simp only
        rw [hsg, a6m hil]
        simp only [force_eq]
        rw [hev _ hlx, hw, hf]
        show (⟨.int .i64 (getM es' (AS.ev C s (.tmp x))), [], [], [], [i]⟩ : Ef) = rj.e
        rw [hget]
        exact efj
      · rw [hj.ov, aeq hev]
      · rw [← efj] at hq; cases hq
      · have := hj.dok
        cases hd : oj.dst with
        | none => rfl
        | some d => rw [hd] at this; simp only [aee] at this ⊢; exact this
theorem Stp.swap {s : AS} {oj oi : Oper} {rj ri : Rc} (hj : Stp C ops oj s rj) (hi : Stp C ops oi (s.app oj.dst rj.e) ri) (h : indep rj ri = true) :
    Stp C ops oi s ri ∧ Stp C ops oj (s.app oi.dst ri.e) rj ∧ Eqv ((s.app oi.dst ri.e).app oj.dst rj.e) ((s.app oj.dst rj.e).app oi.dst ri.e) := by
  unfold indep at h
  simp only [Bool.and_eq_true] at h
  obtain ⟨⟨⟨a1, a2⟩, a3⟩, h⟩ := h
  rw [hj.d, hi.us] at a1
  rw [hi.d, hj.us] at a2
  rw [hi.d, hj.d] at a3
  have hne : ∀ t, oj.dst = some t → oi.dst = some t → False := fun t h1 h2 => by
    rw [h1, h2] at a3; simp [dstNe] at a3
  -- what i looks at, ahead of j
  have lki : ∀ t ∈ looks ops oi, lk (s.app oj.dst rj.e).tm t = (lk s.tm t).kill rj.e.ks := fun t ht => by
    rw [ai6, if_neg (aih a1 ht)]
  have lkj : ∀ t ∈ looks ops oj, lk (s.app oi.dst ri.e).tm t = (lk s.tm t).kill ri.e.ks := fun t ht => by
    rw [ai6, if_neg (aih a2 ht)]
  have hfin : (rj.e.ks = [] ∨ ri.e.ks = []) → rj.e.v.kill ri.e.ks = rj.e.v → ri.e.v.kill rj.e.ks = ri.e.v → ((s.app oi.dst ri.e).app oj.dst rj.e).sg = ((s.app oj.dst rj.e).app oi.dst ri.e).sg →
      Eqv ((s.app oi.dst ri.e).app oj.dst rj.e) ((s.app oj.dst rj.e).app oi.dst ri.e) := fun hks hv1 hv2 hsg => by
    refine ⟨rfl, fun t => ?_, hsg, fun i => by simp only [AS.app, acv]; exact or_left_comm⟩
    rw [ai6, ai6, ai6, ai6]
    by_cases e1 : oj.dst = some t
    · rw [if_pos e1, if_pos e1, if_neg (fun e2 => hne t e1 e2), hv1]
    · rw [if_neg e1, if_neg e1]
      by_cases e2 : oi.dst = some t
      · rw [if_pos e2, if_pos e2, hv2]
      · rw [if_neg e2, if_neg e2]
        rcases hks with hks | hks <;> rw [hks, abp, abp]
  cases hpl : ax9 rj ri with
  | true =>
    have hqj : quiet rj.e = true := by
      have hp2 := hpl
      unfold ax9 at hp2
      simp only [Bool.and_eq_true] at hp2
      rw [hj.lu] at hp2
      exact (hj.look (Nat.eq_of_beq_eq_true hp2.1)).1
    obtain ⟨j1, j2, j3⟩ := aex.1 hqj
    have hsi : Stp C ops oi s ri := hi.loc rfl (fun t ht => by rw [lki t ht, j1, abp]) (.inl (ab9 hqj).symm)
    rw [← hi.d] at a2
    obtain ⟨_, i1, hsj⟩ := hj.pair hsi hpl (hi.d ▸ a2)
    refine ⟨hsi, hsj, hfin (.inl j1) (by rw [i1, abp]) (by rw [j1, abp]) ?_⟩
    rw [ab9 hqj, ajy, ajy, ab9 hqj]
  | false =>
  rw [hpl, Bool.false_or] at h
  cases hqj : quiet rj.e with
  | true =>
    obtain ⟨j1, j2, j3⟩ := aex.1 hqj
    have hsi : Stp C ops oi s ri := hi.loc rfl (fun t ht => by rw [lki t ht, j1, abp]) (.inl (ab9 hqj).symm)
    cases hqi : quiet ri.e with
    | true =>
      obtain ⟨i1, i2, i3⟩ := aex.1 hqi
      refine ⟨hsi, hj.loc rfl (fun t ht => by rw [lkj t ht, i1, abp]) (.inl (ab9 hqi)), hfin (.inl j1) (by rw [i1, abp]) (by rw [j1, abp]) ?_⟩
      rw [ab9 hqj, ab9 hqi, ab9 hqi, ab9 hqj]
    | false =>
      rw [hqj, hqi] at h
      simp only [Bool.and_eq_true] at h
      obtain ⟨⟨⟨⟨b1, b2⟩, b3⟩, b4⟩, b5⟩ := h
      rw [hj.ov] at b1
      have hb2 : ∀ r ∈ rj.e.rd, (aa7 s.sg r).kill ri.e.ks = aa7 s.sg r := fun r hr => by
        rcases hj.oo with q | q
        · obtain ⟨_, _, _, _, _, hm⟩ := (hj.look q).2 r hr
          rw [hm]; rfl
        · rw [q] at b2; exact as8 b2 r hr
      have hn : ri.n = s.sg.length := by rw [hi.n hqi, ab9 hqj]
      rw [hn] at b5
      refine ⟨hsi, hj.loc rfl (fun t ht => ?_) (.inr ⟨hqj, fun r hr => ?_⟩), hfin (.inl j1) (aha b3) (by rw [j1, abp]) ?_⟩
      · rw [lkj t ht]
        rcases List.mem_append.1 ht with ht | ht
        · have : ∀ (l : List Operand) t, t ∈ tmpsOf l → Operand.tmp t ∈ l := by
            intro l
            induction l with
            | nil => intro t h; simp [tmpsOf] at h
            | cons x xs ih =>
              intro t h
              cases x <;> simp only [tmpsOf, List.mem_cons] at h ⊢ <;> first
                | exact .inr (ih t h)
                | (rcases h with rfl | h
                   · exact .inl rfl
                   · exact .inr (ih t h))
          exact aha (awe b1 _ (ayk (this _ _ ht)))
        · rcases aqu hj.ef t ht with ⟨b, hb⟩ | hb <;> rw [hb] <;> simp [V.kill, V.afi]
      · rw [awg (aoz b5 r hr) (fun p hp e => aka b4 p hp (e ▸ hr)), hb2 r hr]
      · rw [ab9 hqj, ajy, ajy, ab9 hqj]
  | false =>
    cases hqi : quiet ri.e with
    | false => rw [hqj, hqi] at h; cases h
    | true =>
      obtain ⟨i1, i2, i3⟩ := aex.1 hqi
      rw [hqj, hqi] at h
      simp only [Bool.and_eq_true] at h
      obtain ⟨⟨⟨⟨b1, b2⟩, b3⟩, b4⟩, b5⟩ := h
      rw [hi.ov] at b1
      have hb2 : ∀ r ∈ ri.e.rd, aa7 (s.app oj.dst rj.e).sg r = (aa7 s.sg r).kill rj.e.ks → aa7 (s.app oj.dst rj.e).sg r = aa7 s.sg r := fun r hr he => by
        rcases hi.oo with q | q
        · obtain ⟨_, _, _, _, _, hm⟩ := (hi.look q).2 r hr
          rw [hm] at he ⊢
          cases hg : aa7 s.sg r <;> rw [hg] at he <;> first
            | (cases he; done)
            | exact he
        · rw [q] at b2; exact aqt b2 r hr he
      rw [hj.n hqj] at b5
      have hlk : ∀ t ∈ looks ops oi, lk s.tm t = lk (s.app oj.dst rj.e).tm t := fun t ht => by
        have h1 := lki t ht
        rw [h1]
        refine (aji ?_).symm
        rw [← h1]
        rcases List.mem_append.1 ht with ht | ht
        · have : ∀ (l : List Operand) t, t ∈ tmpsOf l → Operand.tmp t ∈ l := by
            intro l
            induction l with
            | nil => intro t h; simp [tmpsOf] at h
            | cons x xs ih =>
              intro t h
              cases x <;> simp only [tmpsOf, List.mem_cons] at h ⊢ <;> first
                | exact .inr (ih t h)
                | (rcases h with rfl | h
                   · exact .inl rfl
                   · exact .inr (ih t h))
          exact asy b1 _ (ayk (this _ _ ht))
        · rcases aqu hi.ef t ht with ⟨b, hb⟩ | hb <;> rw [hb] <;> rfl
      refine ⟨hi.loc rfl hlk (.inr ⟨hqi, fun r hr => ?_⟩), hj.loc rfl (fun t ht => by rw [lkj t ht, i1, abp]) (.inl (ab9 hqi)), hfin (.inr i1) (by rw [i1, abp]) (aha b3) ?_⟩
      · exact (hb2 r hr (awg (aoz b5 r hr) (fun p hp e => aka b4 p hp (e ▸ hr)))).symm
      · show ajq (aef (acz rj.e.ks (s.app oi.dst ri.e).sg) rj.e.up) rj.e.nw = _
        rw [ab9 hqi, ab9 hqi]; rfl

def ak8 (C : Ctx) (ops : List Oper) (f : Nat → Rc) (sN : AS) : List Nat → AS → Prop
  | [], s => Eqv s sN
  | i :: L, s => ∃ o, ops[i]? = some o ∧ Stp C ops o s (f i) ∧ ak8 C ops f sN L (s.app o.dst (f i).e)

theorem ak8.eqv {f : Nat → Rc} {sN : AS} : ∀ {L : List Nat} {s s' : AS}, ak8 C ops f sN L s → Eqv s s' → ak8 C ops f sN L s'
  | [], _, _, h, e => e.symm.trans h
  | _ :: _, _, _, ⟨o, h1, h2, h3⟩, e => ⟨o, h1, h2.eqv e, h3.eqv (e.app _ _)⟩

theorem ak8.front {f : Nat → Rc} {sN : AS} {i : Nat} {l2 : List Nat} : ∀ {l1 : List Nat} {s : AS}, ak8 C ops f sN (l1 ++ i :: l2) s → (∀ j ∈ l1, indep (f j) (f i) = true) → ak8 C ops f sN (i :: (l1 ++ l2)) s
  | [], _, h, _ => h
  | j :: l1, s, ⟨oj, h1, h2, h3⟩, hi => by
    obtain ⟨oi, k1, k2, k3⟩ := ak8.front h3 fun k hk => hi k (List.mem_cons_of_mem _ hk)
    obtain ⟨q1, q2, q3⟩ := h2.swap k2 (hi j (by simp))
    exact ⟨oi, k1, q1, oj, h1, q2, k3.eqv q3.symm⟩
end
end Go.VG
