/-
  What an operation does depends on what it looks at alone.
-/
import Derived.Test.YtkkfdkfopdjomaaDoorVgO
set_option linter.unusedSimpArgs false
set_option linter.unusedVariables false
namespace Go.VG
open Go

theorem quiet_iff {e : Ef} : quiet e = true ↔ e.ks = [] ∧ e.up = [] ∧ e.nw = [] := by
  obtain ⟨v, ks, up, nw, rd⟩ := e
  cases ks <;> cases up <;> cases nw <;> simp [quiet]

mutual
theorem names_acc : ∀ {x : V} {acc : List Nat} {i : Nat}, i ∈ acc → i ∈ V.names x acc
  | .ptr j _, acc, i, h | .bptr j _ _, acc, i, h | .buf j, acc, i, h | .map j, acc, i, h => by
    simp only [V.names]
    cases memN j acc with
    | true => exact h
    | false => exact List.mem_append_left _ h
  | .agg cs, acc, i, h | .tuple cs, acc, i, h => by simp only [V.names]; exact namesL_acc h
  | .iface _ x, acc, i, h => by simp only [V.names]; exact names_acc h
  | .func _ fs cs, acc, i, h => by simp only [V.names]; exact namesL_acc (namesL_acc h)
  | .undef, _, _, h | .int .., _, _, h | .bool _, _, _, h | .str _, _, _, h | .list .., _, _, h | .nilptr, _, _, h | .box .., _, _, h | .nilIface, _, _, h | .nilFunc, _, _, h | .nilmap, _, _, h => by simp only [V.names]; exact h
theorem namesL_acc : ∀ {x : List V} {acc : List Nat} {i : Nat}, i ∈ acc → i ∈ V.namesL x acc
  | [], _, _, h => by simp only [V.namesL]; exact h
  | c :: cs, _, _, h => by simp only [V.namesL]; exact namesL_acc (names_acc h)
end
theorem onames_acc {o : O} {acc : List Nat} {i : Nat} (h : i ∈ acc) : i ∈ o.names acc := by
  cases o <;> simp only [O.names] <;> first | exact h | exact namesL_acc h | exact names_acc h

theorem reach_acc {sg : List O} : ∀ {fuel : Nat} {todo acc : List Nat} {i : Nat}, i ∈ acc → i ∈ reach sg fuel todo acc
  | 0, _, _, _, h => by simp only [reach]; exact h
  | _ + 1, [], _, _, h => by simp only [reach]; exact h
  | fuel + 1, k :: todo, acc, i, h => by simp only [reach]; exact reach_acc (onames_acc h)
theorem reach_loc {sg sg' : List O} : ∀ {fuel : Nat} {todo acc : List Nat}, (∀ i ∈ todo, i ∈ acc) → (∀ r ∈ reach sg fuel todo acc, getSg sg' r = getSg sg r) → reach sg' fuel todo acc = reach sg fuel todo acc
  | 0, _, _, _, _ => by simp only [reach]
  | _ + 1, [], _, _, _ => by simp only [reach]
  | fuel + 1, k :: todo, acc, ht, h => by
    have hk : getSg sg' k = getSg sg k := h k (reach_acc (ht k (by simp)))
    simp only [reach] at h ⊢
    rw [hk]
    refine reach_loc (fun i hi => ?_) h
    rcases List.mem_append.1 hi with hi | hi
    · exact onames_acc (ht i (List.mem_cons_of_mem _ hi))
    · exact List.mem_of_mem_drop hi

theorem aliveN_loc {sg sg' : List O} : ∀ {th : List Nat}, (∀ r ∈ th, getSg sg' r = getSg sg r) → aliveN sg' th = aliveN sg th
  | [], _ => rfl
  | k :: ks, h => by simp only [aliveN, h k (by simp), aliveN_loc (th := ks) fun r hr => h r (List.mem_cons_of_mem _ hr)]
theorem closedN_loc {sg sg' : List O} {th0 : List Nat} : ∀ {th : List Nat}, (∀ r ∈ th, getSg sg' r = getSg sg r) → closedN sg' th0 th = closedN sg th0 th
  | [], _ => rfl
  | k :: ks, h => by simp only [closedN, h k (by simp), closedN_loc (th := ks) fun r hr => h r (List.mem_cons_of_mem _ hr)]
theorem locals_loc {sg sg' : List O} {f : Nat → Option Nat} : ∀ {th : List Nat}, (∀ r ∈ th, getSg sg' r = getSg sg r) → locals sg' f th = locals sg f th
  | [], _ => rfl
  | k :: ks, h => by simp only [locals, h k (by simp), locals_loc (th := ks) fun r hr => h r (List.mem_cons_of_mem _ hr)]
theorem bufsOf_loc {sg sg' : List O} : ∀ {th : List Nat}, (∀ r ∈ th, getSg sg' r = getSg sg r) → bufsOf sg' th = bufsOf sg th
  | [], _ => rfl
  | k :: ks, h => by simp only [bufsOf, h k (by simp), bufsOf_loc (th := ks) fun r hr => h r (List.mem_cons_of_mem _ hr)]
theorem backIdx_zero {n n' : Nat} : ∀ {th : List Nat}, backIdx th n 0 = backIdx th n' 0
  | [] => rfl
  | k :: ks => by
    funext j
    cases j with
    | zero => simp [backIdx]
    | succ j => simp only [backIdx]; exact congrFun (backIdx_zero (th := ks)) j

section
variable {C : Ctx} {s s' : AS} {o : Oper} {e : Ef}

theorem evCall_loc {sg sg' : List O} {f : FuncId} {args : List V} {pre : Prop} (h : evCall C sg f args = some (pre, e)) (hq : quiet e = true) (hr : ∀ r ∈ e.rd, getSg sg' r = getSg sg r) : evCall C sg' f args = some (pre, e) := by
  unfold evCall at h ⊢
  rw [forceNs_eq, forceNs_eq] at h ⊢
  -- what is read
  have hrd : e.rd = reach sg 256 (V.namesL args []) (V.namesL args []) := by
    unfold evCallAt at h
    simp only [forceDs_eq, forceOs_eq] at h
    cases hc : (nodupN (reach sg 256 (V.namesL args []) (V.namesL args [])) && aliveN sg (reach sg 256 (V.namesL args []) (V.namesL args []))) with
    | false => rw [hc] at h; cases h
    | true =>
      rw [hc, cond_true] at h
      split at h
      · cases h
      · cases hcl : closedN sg (reach sg 256 (V.namesL args []) (V.namesL args [])) (reach sg 256 (V.namesL args []) (V.namesL args [])) with
        | false => rw [hcl] at h; cases h
        | true => rw [hcl] at h; cases h; rfl
      · cases h; rfl
  rw [hrd] at hr
  rw [reach_loc (fun _ h => h) hr]
  generalize reach sg 256 (V.namesL args []) (V.namesL args []) = th at *
  unfold evCallAt at h ⊢
  simp only [forceDs_eq, forceOs_eq] at h ⊢
  rw [aliveN_loc hr, closedN_loc hr, locals_loc hr, bufsOf_loc hr]
  cases hc : (nodupN th && aliveN sg th) with
  | false => rw [hc] at h; cases h
  | true =>
    rw [hc, cond_true] at h
    rw [cond_true]
    generalize C.Γ f (V.renL (fun i => idxOf i th 0) args) (locals sg (fun i => idxOf i th 0) th) = r at h ⊢
    rcases r with _ | ⟨pre', v, _ | σ⟩
    · cases h
    · exact h
    · simp only [Option.some.injEq, Prod.mk.injEq] at h ⊢
      obtain ⟨rfl, rfl⟩ := h
      refine ⟨rfl, ?_⟩
      obtain ⟨q1, q2, q3⟩ := quiet_iff.1 hq
      simp only [mapRen_eq, List.map_eq_nil_iff] at q3
      rw [q3]
      simp only [List.length_nil]
      rw [backIdx_zero (n := sg'.length) (n' := sg.length)]

theorem evs_same : ∀ {l : List Operand}, (∀ x ∈ l, s'.ev C x = s.ev C x) → s'.evs C l = s.evs C l
  | [], _ => rfl
  | x :: xs, h => by simp only [AS.evs, h x (by simp), evs_same (l := xs) fun y hy => h y (List.mem_cons_of_mem _ hy)]
theorem evParts_same : ∀ {l : List (Nat × Operand)}, (∀ x ∈ partOps l, s'.ev C x = s.ev C x) → evParts C s' l = evParts C s l
  | [], _ => rfl
  | (i, x) :: r, h => by simp only [evParts, h x (by simp [partOps]), evParts_same (l := r) fun y hy => h y (by simp [partOps, hy])]
theorem evRange_same {n : Nat} {lo hi : Option Operand} (h1 : ∀ x ∈ optOps lo, s'.ev C x = s.ev C x) (h2 : ∀ x ∈ optOps hi, s'.ev C x = s.ev C x) : evRange C s' n lo hi = evRange C s n lo hi := by
  cases lo <;> cases hi <;> simp only [evRange] <;> simp only [optOps, List.mem_singleton, forall_eq, List.not_mem_nil] at h1 h2 <;> simp only [h1, h2]
theorem elems_same {x : V} (h : ∀ i, x = .buf i → getSg s'.sg i = getSg s.sg i) : elems s' x = elems s x := by
  unfold elems
  cases x <;> try rfl
  rename_i i
  simp only [h i rfl]
theorem target_same {c : Call} (h : ∀ x ∈ uses (.call c), s'.ev C x = s.ev C x) : target C s' c = target C s c := by
  unfold target
  cases hc : c.callee with
  | value f =>
    simp only [uses, hc] at h
    simp only [h f (by simp), evs_same fun x hx => h x (List.mem_cons_of_mem _ hx)]
  | invoke r m => rfl
  | builtin b => rfl

/-- what is looked at is the same -/
structure SameOn (C : Ctx) (s s' : AS) (o : Oper) : Prop where
  ev : ∀ x ∈ uses o.op, s'.ev C x = s.ev C x

theorem callT_same {r : Option (Prop × Ef)} {e : Ef} (h : callT r (fun b => b = e)) : ∃ pre : Prop, r = some (pre, e) ∧ pre := by
  cases r with
  | none => exact h.elim
  | some p =>
    have h1 : p.1 := h.1
    have h2 : forceEf p.2 (fun b => b = e) := h.2
    rw [forceEf_eq] at h2
    exact ⟨p.1, by rw [← h2], h1⟩
theorem callT_of {r : Option (Prop × Ef)} {e : Ef} {pre : Prop} (h : r = some (pre, e)) (hp : pre) : callT r (fun b => b = e) := by
  subst h
  refine ⟨hp, ?_⟩
  show forceEf e _
  rw [forceEf_eq]

/-- the same store: the same -/
theorem evOp_same (h : ∀ x ∈ uses o.op, s'.ev C x = s.ev C x) (hs : s'.sg = s.sg) : evOp C s' o = evOp C s o := by
  obtain ⟨dst, op, type, pos, after, guard⟩ := o
  have hel : ∀ x, elems s' x = elems s x := fun x => elems_same fun i _ => by rw [hs]
  cases op <;> simp only [evOp, uses] at h ⊢
  case move x => rw [h x (by simp)]
  case assign x => rw [h x (by simp)]
  case pick c a b => simp only [evPick, h c (by simp), h a (by simp), h b (by simp)]
  case alloc t => simp only [evAllocD, evAlloc, hs]
  case box t x => rw [h x (by simp), hs]
  case build t ps => simp only [evBuild, evParts_same h]
  case buildSlice t n ps => simp only [evBS, evLit, evBuildSlice, evParts_same h, hs]
  case load t x => simp only [evLoad, h x (by simp), hs]
  case store t x y => simp only [evStore, h x (by simp), h y (by simp), hs]
  case nilCheck x => simp only [evNilCheck, h x (by simp)]
  case binOp b t x y u => rw [h x (by simp), h y (by simp)]
  case unOp b t x => rw [h x (by simp)]
  case convert a b x => simp only [evMark, evConv, h x (by simp), hel, hs]
  case makeInterface t x => simp only [evMakeIface, h x (by simp)]
  case makeFunc fn a b => rw [evs_same fun x hx => h x (by simp [hx]), evs_same fun x hx => h x (by simp [hx])]
  case makeSlice t x y => simp only [evMakeSlice, h x (by simp), h y (by simp), hs]
  case slice t x lo hi mx =>
    have hr : ∀ n, evRange C s' n lo hi = evRange C s n lo hi := fun n => evRange_same (fun x hx => h x (by simp [hx])) (fun x hx => h x (by simp [hx]))
    have hh : ∀ y, hi = some y → s'.ev C y = s.ev C y := fun y hy => h y (by simp [hy, optOps])
    have hm : ∀ y, mx = some y → s'.ev C y = s.ev C y := fun y hy => h y (by simp [hy, optOps])
    simp only [evSlice, h x (by simp), hs, hr]
    repeat' (first
      | rfl
      | (simp only [hh _ rfl]; done)
      | (simp only [hh _ rfl, hm _ rfl]; done)
      | split)
  case fieldAddr t x f => simp only [evFieldAddr, h x (by simp)]
  case field t x f => simp only [evField, h x (by simp)]
  case indexAddr t x y => simp only [evIndexAddr, h x (by simp), h y (by simp), hs]
  case index t x y => simp only [evIndex, h x (by simp), h y (by simp)]
  case typeAssert x _ t ok => simp only [evAssert, h x (by simp)]
  case extract x i => simp only [evExtract, h x (by simp)]
  case range t x => simp only [evIter, evIterM, onMap, h x (by simp), hs]
  case makeMap t r => cases r <;> simp only [evMakeMap, hs]
  case lookup t m x ok => simp only [evLookup, onMap, h m (by simp), h x (by simp), hs]
  case mapUpdate t m x y => simp only [evMapUpdate, onMap, h m (by simp), h x (by simp), h y (by simp), hs]
  case mapEntry t m x => simp only [evMapEntry, onMap, h m (by simp), h x (by simp), hs]
  case entryStore t m b y => simp only [evEntryStore, onMap, h m (by simp), h b (by simp), h y (by simp), hs]
  case entry x => simp only [evEntry, h x (by simp), hs]
  case next x b => simp only [evNext, h x (by simp), hs]
  case call c =>
    have ht := target_same (C := C) (s := s) (s' := s') (c := c) (by simpa only [uses] using h)
    unfold evCallOp
    cases hc : c.callee with
    | value f => simp only [ht, hs]
    | invoke r m =>
      simp only [hc] at h
      simp only [h r (by simp), evs_same fun x hx => h x (List.mem_cons_of_mem _ hx), hs]
    | builtin b =>
      simp only [hc] at h
      simp only [evs_same h]
      have hb : ∀ xs, evBuiltin C s' b c.argTypes.toList xs = evBuiltin C s b c.argTypes.toList xs := fun xs => by
        unfold evBuiltin
        simp only [hs, hel, evAppendZ, evAppend, evDelete, onMap]
      simp only [hb]
end
end Go.VG
namespace Go.VG
open Go

section
variable {C : Ctx} {s s' : AS} {o : Oper} {e : Ef} {nt : Nat} {tm : List (Nat × V)} {sg sg' : List O} {kl : List Nat}

theorem loud_alloc {t : TypeId} : All (fun e => quiet e = false) (evAlloc C s t) := by
  unfold evAlloc
  split
  · exact All.fail
  · rw [force_eq, forceN_eq]; exact All.when fun _ => All.ret rfl
theorem loud_allocD {d : Option Nat} {t : TypeId} : All (fun e => quiet e = false) (evAllocD C s d t) := by
  unfold evAllocD
  split
  · split
    · split
      · split
        · exact All.fail
        · rw [force_eq]; exact All.when fun _ => All.ret rfl
      · exact All.fail
    · exact loud_alloc
  · exact loud_alloc
theorem loud_box {x : V} : All (fun e => quiet e = false) (force x fun x => forceN s.sg.length fun n => whenT (!x.isU) (ret ⟨.ptr n 0, [], [], [.cells x.cells], []⟩)) := by
  rw [force_eq, forceN_eq]; exact All.when fun _ => All.ret rfl
theorem loud_makeSlice {t : TypeId} {x y : Operand} : All (fun e => quiet e = false) (evMakeSlice C s t x y) := by
  unfold evMakeSlice
  split
  · split
    · exact All.fail
    · refine All.when fun _ => All.req fun _ => ?_
      rw [forceN_eq, forceN_eq, force_eq]
      exact All.ret rfl
  · exact All.fail
theorem loud_lit {t : TypeId} {len : Nat} {ps : Array (Nat × Operand)} : All (fun e => quiet e = false) (evLit C s t len ps) := by
  unfold evLit
  refine All.bind (evBuildSlice_fn _ _ _ _ _) fun e _ => ?_
  split
  · rw [forceN_eq]; exact All.ret rfl
  · exact All.fail
theorem optT_iff {α β : Type} {o : Option α} {f : α → Tr β} {K : β → Prop} : optT o f K ↔ ∃ a, o = some a ∧ f a K := by
  cases o with
  | none => exact ⟨fun h => h.elim, fun ⟨_, h, _⟩ => by cases h⟩
  | some a => exact ⟨fun h => ⟨a, rfl, h⟩, fun ⟨_, h, k⟩ => by cases h; exact k⟩
theorem onMap_loud {t : TypeId} {m : V} {F : Nat → Bool → List Sc → List (V × Int) → List Nat → Nat → Tr Ef} (h : ∀ i ag sh es bs ck, All (fun e => quiet e = false) (F i ag sh es bs ck)) : All (fun e => quiet e = false) (onMap C s t m F) := by
  unfold onMap
  refine All.opt fun _ _ => ?_
  split
  · split
    · exact All.when fun _ => h _ _ _ _ _ _
    · exact All.fail
  · exact All.fail
theorem loud_makeMap {t : TypeId} : All (fun e => quiet e = false) (evMakeMap C s t) := by
  unfold evMakeMap
  refine All.opt fun _ _ => ?_
  rw [forceN_eq]
  exact All.ret rfl
theorem loud_mapUpdate {t : TypeId} {m x y : Operand} : All (fun e => quiet e = false) (evMapUpdate C s t m x y) := by
  unfold evMapUpdate
  refine onMap_loud fun i ag sh es bs ck => ?_
  rw [force_eq]
  refine All.when fun _ => ?_
  split
  · exact All.optB (fun _ _ => All.ret rfl) (fun _ => All.ret rfl)
  · exact All.fail
theorem loud_mapEntry {t : TypeId} {m x : Operand} : All (fun e => quiet e = false) (evMapEntry C s t m x) := by
  unfold evMapEntry
  refine onMap_loud fun i ag sh es bs ck => ?_
  rw [force_eq]
  exact All.when fun _ => All.req fun _ => All.optB (fun _ _ => All.ret rfl) (fun _ => All.ret rfl)
theorem loud_entryStore {t : TypeId} {m x y : Operand} : All (fun e => quiet e = false) (evEntryStore C s t m x y) := by
  unfold evEntryStore
  refine onMap_loud fun i ag sh es bs ck => ?_
  split
  · exact All.ex fun _ => All.req fun _ => All.ret rfl
  · exact All.fail
theorem loud_delete {t : TypeId} {m x : V} : All (fun e => quiet e = false) (evDelete C s t m x) := by
  unfold evDelete
  refine onMap_loud fun i ag sh es bs ck => ?_
  rw [force_eq]
  exact All.when fun _ => All.optB (fun _ _ => All.ret rfl) (fun _ => All.ret rfl)
theorem loud_iterM {t : TypeId} {m : V} : All (fun e => quiet e = false) (evIterM C s t m) := by
  unfold evIterM
  refine onMap_loud fun i ag sh es bs ck => ?_
  rw [forceN_eq]
  exact All.ret rfl
theorem loud_iter {t : TypeId} {x : Operand} : All (fun e => quiet e = false) (evIter C s t x) := by
  unfold evIter
  split
  · rw [forceN_eq]; exact All.ret rfl
  · exact loud_iterM
  · exact All.fail
theorem loud_store {t : TypeId} {x y : Operand} : All (fun e => quiet e = false) (evStore C s t x y) := by
  unfold evStore
  simp only [idxT_eq]
  split
  · exact All.fail
  · rw [force_eq]
    refine All.when fun _ => ?_
    split
    · split
      · exact All.opt fun _ _ => All.ret rfl
      · exact All.fail
    · split
      · refine All.opt fun _ _ => ?_
        split
        · exact All.when fun _ => All.opt fun _ _ => All.req fun _ => All.ret rfl
        · exact All.fail
      · exact All.fail
    · exact All.fail
theorem loud_append {t : TypeId} {x : V} {ys : List V} {rd : List Nat} : All (fun e => quiet e = false) (evAppend C s t x ys rd) := by
  unfold evAppend
  split
  · refine All.when fun _ => All.req fun _ => All.req fun _ => ?_
    rw [forceN_eq, forceN_eq]; exact All.ret rfl
  · split
    · exact All.when fun _ => All.req fun _ => All.ret rfl
    · exact All.fail
  · exact All.fail
theorem loud_appendZ {t : TypeId} {sz : Nat} {x : V} {ys : List V} {rd : List Nat} : All (fun e => quiet e = false) (evAppendZ C s t sz x ys rd) := by
  unfold evAppendZ
  split
  · refine All.when fun _ => All.req fun _ => ?_
    rw [forceN_eq]; exact All.ret rfl
  · exact loud_append

theorem elems_rd {x : V} : All (fun r => ∀ i, x = .buf i → r.2.2 = [i]) (elems s x) := by
  unfold elems
  split
  · exact All.ret fun i h => by cases h
  · exact All.ret fun i h => by cases h
  · split
    · exact All.ret fun i h => by cases h; rfl
    · exact All.fail
  · exact All.fail

theorem evOp_sg (he : evOp C ⟨nt, tm, sg, kl⟩ o (fun b => b = e)) (hq : quiet e = true) (hr : ∀ r ∈ e.rd, getSg sg' r = getSg sg r) : evOp C ⟨nt, tm, sg', kl⟩ o (fun b => b = e) := by
  obtain ⟨dst, op, type, pos, after, guard⟩ := o
  have hev : ∀ x, AS.ev C ⟨nt, tm, sg', kl⟩ x = AS.ev C ⟨nt, tm, sg, kl⟩ x := fun _ => rfl
  have hevs : ∀ l, AS.evs C ⟨nt, tm, sg', kl⟩ l = AS.evs C ⟨nt, tm, sg, kl⟩ l := fun l => evs_same fun _ _ => rfl
  have hps : ∀ l, evParts C ⟨nt, tm, sg', kl⟩ l = evParts C ⟨nt, tm, sg, kl⟩ l := fun l => evParts_same fun _ _ => rfl
  have hrg : ∀ n lo hi, evRange C ⟨nt, tm, sg', kl⟩ n lo hi = evRange C ⟨nt, tm, sg, kl⟩ n lo hi := fun n lo hi => evRange_same (fun _ _ => rfl) (fun _ _ => rfl)
  have hno : ∀ {p : Prop}, quiet e = false → p := fun h => by rw [h] at hq; cases hq
  cases op <;> simp only [evOp] at he ⊢
  case move x => exact he
  case assign x => exact he
  case pick c a b => exact he
  case alloc t => exact hno (loud_allocD e he)
  case box t x => exact hno (loud_box (s := ⟨nt, tm, sg, kl⟩) e he)
  case build t ps => simp only [evBuild, hps] at he ⊢; exact he
  case buildSlice t n ps =>
    have hb : evBuildSlice C ⟨nt, tm, sg', kl⟩ t n ps = evBuildSlice C ⟨nt, tm, sg, kl⟩ t n ps := by simp only [evBuildSlice, hps]
    cases dst with
    | none => simp only [evBS, hb] at he ⊢; exact he
    | some d =>
      simp only [evBS] at he ⊢
      cases hd : C.lits d with
      | false => rw [hd] at he; simp only [cond_false, hb] at he ⊢; exact he
      | true => rw [hd] at he; exact hno (loud_lit e he)
  case load t x =>
    unfold evLoad at he ⊢
    simp only [idxT_eq] at he ⊢
    rw [hev]
    cases hv : AS.ev C ⟨nt, tm, sg, kl⟩ x <;> rw [hv] at he <;> try exact he
    · rename_i i off
      have hi : i ∈ e.rd := by
        refine (?_ : All (fun e : Ef => i ∈ e.rd) _) e he
        split
        · exact All.fail
        · simp only
          split
          · refine All.bind (part1_fn _ _ _ _) fun v _ => ?_
            rw [force_eq]; exact All.ret (by simp)
          · exact All.fail
      simp only [hr i hi]
      exact he
    · rename_i i idx off
      have hi : i ∈ e.rd := by
        refine (?_ : All (fun e : Ef => i ∈ e.rd) _) e he
        split
        · exact All.fail
        · simp only
          split
          · refine All.opt fun _ _ => All.when fun _ => All.bind (part1_fn _ _ _ _) fun v _ => ?_
            rw [force_eq]; exact All.ret (by simp)
          · exact All.fail
      simp only [hr i hi]
      exact he
  case store t x y => exact hno (loud_store e he)
  case nilCheck x => exact he
  case binOp b t x y u => exact he
  case unOp b t x => exact he
  case convert a b x =>
    rw [hev]
    have hmk : (evConv C ⟨nt, tm, sg, kl⟩ a b (AS.ev C ⟨nt, tm, sg, kl⟩ x) (fun b => b = e) → evConv C ⟨nt, tm, sg', kl⟩ a b (AS.ev C ⟨nt, tm, sg, kl⟩ x) (fun b => b = e)) → evMark C ⟨nt, tm, sg', kl⟩ a b (AS.ev C ⟨nt, tm, sg, kl⟩ x) (fun b => b = e) := fun hk => by
      unfold evMark at he ⊢
      cases hv : AS.ev C ⟨nt, tm, sg, kl⟩ x <;> rw [hv] at he hk <;> try exact hk he
      rename_i i
      simp only at he ⊢
      cases hb : Nat.beq a b with
      | false => rw [hb] at he; exact hk he
      | true =>
        rw [hb] at he
        refine hno ((?_ : All (fun e : Ef => quiet e = false) _) e he)
        simp only [cond_true]
        split
        · split
          · split
            · exact All.ret rfl
            · exact All.fail
          · exact All.fail
        · exact All.fail
    refine hmk fun he => ?_
    have hc : ∀ v, elems ⟨nt, tm, sg', kl⟩ v = elems ⟨nt, tm, sg, kl⟩ v → evConv C ⟨nt, tm, sg', kl⟩ a b v = evConv C ⟨nt, tm, sg, kl⟩ a b v := fun v hel => by
      unfold evConv
      repeat' (first
        | rfl
        | (simp only [hel]; done)
        | split)
    generalize AS.ev C ⟨nt, tm, sg, kl⟩ x = v at he ⊢
    rw [hc v (elems_same fun i hv => ?_)]
    · exact he
    subst hv
    refine hr i ?_
    refine (?_ : All (fun e : Ef => i ∈ e.rd) _) e he
    unfold evConv
    split <;> first
      | exact All.fail
      | contradiction
      | skip
    split
    · exact All.fail
    · refine All.bind (elems_fn _ _) fun r hr' => ?_
      have := elems_rd r (hr' _ rfl) i rfl
      obtain ⟨sz, l, rd⟩ := r
      simp only at this
      subst this
      exact All.when fun _ => All.ex fun _ => All.req fun _ => All.ret (by simp)
    · exact All.fail
  case makeInterface t x => exact he
  case makeFunc fn a b => rw [hevs, hevs]; exact he
  case makeSlice t x y => exact hno (loud_makeSlice e he)
  case slice t x lo hi mx =>
    unfold evSlice at he ⊢
    rw [hev]
    simp only [hrg, hev] at he ⊢
    generalize AS.ev C ⟨nt, tm, sg, kl⟩ x = v at he ⊢
    by_cases hv : ∃ i, v = .buf i
    · obtain ⟨i, rfl⟩ := hv
      refine hno ((?_ : All (fun e : Ef => quiet e = false) _) e he)
      split <;> first
        | exact All.fail
        | contradiction
        | skip
      all_goals
        split
        · exact All.fail
        · split
          · split
            · exact All.when fun _ => All.req fun _ => All.ret rfl
            · exact All.fail
          · exact All.fail
    · by_cases hp : ∃ i a, v = .ptr i a
      · obtain ⟨i, a, rfl⟩ := hp
        refine hno ((?_ : All (fun e : Ef => quiet e = false) _) e he)
        split <;> first
          | exact All.fail
          | contradiction
          | skip
        split
        · exact All.fail
        · split
          · exact All.when fun _ => All.opt fun _ _ => All.bind (evRange_fn _ _ _ _ _) fun _ _ => by rw [cutK_eq]; exact All.ret rfl
          · exact All.fail
      cases v <;> first
        | exact absurd ⟨_, rfl⟩ hv
        | exact absurd ⟨_, _, rfl⟩ hp
        | skip
      all_goals (generalize (C.ti t).k = k at he ⊢; cases k <;> cases mx <;> exact he)
  case fieldAddr t x f => exact he
  case field t x f => exact he
  case indexAddr t x y =>
    unfold evIndexAddr at he ⊢
    simp only [idxT_eq] at he ⊢
    rw [hev, hev]
    generalize AS.ev C ⟨nt, tm, sg, kl⟩ x = v at he ⊢
    generalize AS.ev C ⟨nt, tm, sg, kl⟩ y = u at he ⊢
    by_cases hv : ∃ i, v = .buf i
    · obtain ⟨i, rfl⟩ := hv
      have hi : i ∈ e.rd := by
        refine (?_ : All (fun e : Ef => i ∈ e.rd) _) e he
        split <;> first
          | exact All.fail
          | contradiction
          | skip
        rename_i h
        cases h
        split
        · exact All.fail
        · split
          · exact All.when fun _ => All.req fun _ => All.ret (by simp)
          · exact All.fail
      generalize (C.ti t).k = k at he ⊢
      cases k <;> cases u <;> simp only [hr i hi] <;> exact he
    · cases v <;> first
        | exact absurd ⟨_, rfl⟩ hv
        | skip
      all_goals (generalize (C.ti t).k = k at he ⊢; cases k <;> cases u <;> exact he)
  case index t x y => exact he
  case typeAssert x _ t ok => exact he
  case extract x i => exact he
  case range t x => exact hno (loud_iter e he)
  case makeMap t r => cases r with
    | none => exact hno (loud_makeMap e he)
    | some r => exact he
  case mapUpdate t m x y => exact hno (loud_mapUpdate e he)
  case mapEntry t m x => exact hno (loud_mapEntry e he)
  case entryStore t m b y => exact hno (loud_entryStore e he)
  case lookup t m x ok =>
    unfold evLookup onMap at he ⊢
    rw [hev, hev]
    obtain ⟨p, hp, he⟩ := optT_iff.1 he
    refine optT_iff.2 ⟨p, hp, ?_⟩
    generalize AS.ev C ⟨nt, tm, sg, kl⟩ m = v at he ⊢
    cases v <;> try exact he
    rename_i i
    have hi : i ∈ e.rd := by
      refine (?_ : All (fun e : Ef => i ∈ e.rd) _) e he
      simp only
      split
      · rw [force_eq]
        refine All.when fun _ => All.when fun _ => ?_
        split
        · exact All.optB (fun _ _ => All.ret (by simp)) (fun _ => All.ret (by simp))
        · exact All.ret (by simp)
      · exact All.fail
    simp only [hr i hi]
    exact he
  case entry x =>
    unfold evEntry at he ⊢
    simp only [idxT_eq] at he ⊢
    rw [hev]
    generalize AS.ev C ⟨nt, tm, sg, kl⟩ x = v at he ⊢
    cases v <;> try exact he
    rename_i k off
    cases off with
    | succ off => exact he
    | zero =>
      have hk : k ∈ e.rd ∧ ∀ i bs ck left last, getSg sg k = .miter (.map i) bs ck left last → i ∈ e.rd := by
        refine (?_ : All (fun e : Ef => k ∈ e.rd ∧ ∀ i bs ck left last, getSg sg k = .miter (.map i) bs ck left last → i ∈ e.rd) _) e he
        simp only
        split
        · rename_i i bs ck left last hs
          split
          · refine All.req fun _ => All.opt fun _ _ => All.ret ⟨by simp, fun i' bs' ck' left' last' h' => ?_⟩
            rw [hs] at h'
            injection h' with h' _
            injection h' with h'
            subst h'
            simp
          · exact All.fail
        · exact All.fail
      simp only [hr k hk.1]
      have hk2 := hk.2
      simp only at he
      generalize getSg sg k = ob at he hk2 ⊢
      cases ob <;> try exact he
      rename_i m bs ck left last
      cases m <;> try exact he
      rename_i i
      simp only [hr i (hk2 i bs ck left last rfl)]
      exact he
  case next x b =>
    unfold evNext at he ⊢
    rw [hev]
    cases hv : AS.ev C ⟨nt, tm, sg, kl⟩ x <;> rw [hv] at he <;> try exact he
    rename_i i off
    cases off with
    | succ off => cases b <;> exact he
    | zero => cases b with
      | false => exact he
      | true =>
        have hi : i ∈ e.rd := by
          refine (?_ : All (fun e : Ef => i ∈ e.rd) _) e he
          simp only
          split
          · exact All.brn (fun _ => All.opt fun _ _ => All.req fun _ => All.ret (by simp)) (fun _ => All.ret (by simp))
          · exact All.fail
        simp only [hr i hi]
        exact he
  case call c =>
    unfold evCallOp at he ⊢
    have htg : target C ⟨nt, tm, sg', kl⟩ c = target C ⟨nt, tm, sg, kl⟩ c := target_same fun _ _ => rfl
    rw [htg]
    generalize hcal : c.callee = cal at he ⊢
    cases cal
    · -- a function's value
      obtain ⟨p, hp, hc⟩ : ∃ p, target C ⟨nt, tm, sg, kl⟩ c = some p ∧ callT (evCall C sg p.1 p.2) (fun b => b = e) := by
        cases ht : target C ⟨nt, tm, sg, kl⟩ c with
        | none => rw [ht] at he; exact he.elim
        | some p => rw [ht] at he; exact ⟨p, rfl, he⟩
      obtain ⟨pre, h1, h2⟩ := callT_same hc
      rw [hp]
      exact callT_of (evCall_loc h1 hq hr) h2
    · rename_i r m
      simp only at he ⊢
      rw [hev, hevs]
      generalize AS.ev C ⟨nt, tm, sg, kl⟩ r = v at he ⊢
      cases v <;> try exact he
      obtain ⟨f, hm, hc⟩ := he
      obtain ⟨pre, h1, h2⟩ := callT_same hc
      exact ⟨f, hm, callT_of (evCall_loc h1 hq hr) h2⟩
    · rename_i b
      simp only at he ⊢
      rw [hevs]
      rw [forceDsT_eq] at he ⊢
      generalize AS.evs C ⟨nt, tm, sg, kl⟩ c.args.toList = xs at he ⊢
      generalize c.argTypes.toList = ts at he ⊢
      have hbt : All (fun e' => quiet e' = true → (∀ r ∈ e'.rd, getSg sg' r = getSg sg r) → evBuiltin C ⟨nt, tm, sg', kl⟩ b ts xs (fun b => b = e')) (evBuiltin C ⟨nt, tm, sg, kl⟩ b ts xs) := by
        unfold evBuiltin
        split
        · rename_i t x
          intro e he hq hr
          generalize (C.ti t).k = k at he ⊢
          cases k <;> try exact he
          cases x <;> try exact he
          rename_i i _
          have hi : i ∈ e.rd := by
            refine (?_ : All (fun e : Ef => i ∈ e.rd) _) e he
            simp only
            split
            · exact All.ret (by simp)
            · exact All.fail
          simp only [hr i hi]
          exact he
        · rename_i t t2 x y
          refine fun e he hq _ => (?_ : ∀ {p : Prop}, quiet e = false → p) ((?_ : All (fun e : Ef => quiet e = false) _) e he)
          · intro p h; rw [h] at hq; cases hq
          split
          · exact All.fail
          · exact All.fail
          · split
            · exact All.fail
            · exact All.when fun _ => All.bind (elems_fn _ _) fun r _ => All.when fun _ => loud_appendZ
          · exact All.fail
        · rename_i t t2 x y
          refine fun e he hq _ => (?_ : ∀ {p : Prop}, quiet e = false → p) ((?_ : All (fun e : Ef => quiet e = false) _) e he)
          · intro p h; rw [h] at hq; cases hq
          split
          · split
            · exact All.fail
            · split
              · exact All.bind (elems_fn _ _) fun r _ => All.when fun _ => All.ret rfl
              · exact All.fail
          · exact All.fail
        · exact fun e he hq _ => absurd hq (by rw [loud_delete e he]; exact Bool.false_ne_true)
        · exact fun e he _ _ => he
        · exact fun e he _ _ => he
        · exact fun e he _ _ => he
      exact hbt e he hq hr
  all_goals exact he

theorem evOp_loc (h : ∀ x ∈ uses o.op, s'.ev C x = s.ev C x) (he : evOp C s o (fun b => b = e)) (hq : quiet e = true) (hr : ∀ r ∈ e.rd, getSg s'.sg r = getSg s.sg r) : evOp C s' o (fun b => b = e) := by
  obtain ⟨nt, tm, sg, kl⟩ := s
  obtain ⟨nt', tm', sg', kl'⟩ := s'
  have h1 : evOp C ⟨nt', tm', sg, kl'⟩ o (fun b => b = e) := by
    rw [evOp_same (s' := ⟨nt', tm', sg, kl'⟩) (s := ⟨nt, tm, sg, kl⟩) (fun x hx => h x hx) rfl]
    exact he
  exact evOp_sg h1 hq hr
end
end Go.VG
namespace Go.VG
open Go

mutual
theorem kill_free {ks : List Nat} : ∀ {x : V}, x.free ks = true → x.kill ks = x
  | .undef, _ | .int .., _ | .bool _, _ | .str _, _ | .nilptr, _ | .nilIface, _ | .nilFunc, _ | .nilmap, _ | .list .., _ | .box .., _ => by simp [V.kill]
  | .ptr i _, h | .bptr i _ _, h | .buf i, h | .map i, h => by
    simp only [V.free, Bool.not_eq_true'] at h
    simp [V.kill, h]
  | .agg cs, h | .tuple cs, h => by simp [V.kill, killL_free (by simpa [V.free] using h)]
  | .iface t x, h => by simp [V.kill, kill_free (by simpa [V.free] using h)]
  | .func fn fs cs, h => by
    simp only [V.free, Bool.and_eq_true] at h
    simp [V.kill, killL_free h.1, killL_free h.2]
theorem killL_free {ks : List Nat} : ∀ {x : List V}, V.freeL ks x = true → V.killL ks x = x
  | [], _ => by simp [V.killL]
  | c :: cs, h => by
    simp only [V.freeL, Bool.and_eq_true] at h
    simp [V.killL, kill_free h.1, killL_free h.2]
end
mutual
theorem kill_solid {ks : List Nat} : ∀ {x : V}, (x.kill ks).solid = true → x.kill ks = x
  | .undef, _ | .int .., _ | .bool _, _ | .str _, _ | .nilptr, _ | .nilIface, _ | .nilFunc, _ | .nilmap, _ | .list .., _ | .box .., _ => by simp [V.kill]
  | .ptr i _, h | .bptr i _ _, h | .buf i, h | .map i, h => by
    cases hm : memN i ks with
    | true => simp [V.kill, hm, V.solid] at h
    | false => simp [V.kill, hm]
  | .agg cs, h | .tuple cs, h => by
    simp only [V.kill, V.solid] at h
    simp [V.kill, killL_solid h]
  | .iface t x, h => by
    simp only [V.kill, V.solid] at h
    simp [V.kill, kill_solid h]
  | .func fn fs cs, h => by
    simp only [V.kill, V.solid, Bool.and_eq_true] at h
    simp [V.kill, killL_solid h.1, killL_solid h.2]
theorem killL_solid {ks : List Nat} : ∀ {x : List V}, V.solidL (V.killL ks x) = true → V.killL ks x = x
  | [], _ => by simp [V.killL]
  | c :: cs, h => by
    simp only [V.killL, V.solidL, Bool.and_eq_true] at h
    simp [V.killL, kill_solid h.1, killL_solid h.2]
end

theorem getSg_getD : ∀ (sg : List O) (i : Nat), getSg sg i = sg.getD i .dead
  | [], i => by simp [getSg]
  | o :: os, 0 => by simp [getSg]
  | o :: os, i + 1 => by simp [getSg, getSg_getD os i]

theorem apartUp_mem : ∀ {up : List (Nat × O)} {rd : List Nat}, apartUp up rd = true → ∀ p ∈ up, p.1 ∉ rd
  | [], _, _, p, h => by simp at h
  | (i, o) :: r, rd, h, p, hp => by
    simp only [apartUp, Bool.and_eq_true, Bool.not_eq_true'] at h
    rcases List.mem_cons.1 hp with rfl | hp
    · exact memN_false.1 h.1
    · exact apartUp_mem h.2 p hp
theorem allLt_mem : ∀ {l : List Nat} {n : Nat}, allLt l n = true → ∀ i ∈ l, i < n
  | [], _, _, i, h => by simp at h
  | k :: ks, n, h, i, hi => by
    simp only [allLt, Bool.and_eq_true] at h
    rcases List.mem_cons.1 hi with rfl | hi
    · exact Nat.le_of_ble_eq_true h.1
    · exact allLt_mem h.2 i hi
theorem updSg_other : ∀ {up : List (Nat × O)} {sg : List O} {r : Nat}, (∀ p ∈ up, p.1 ≠ r) → (updSg sg up)[r]? = sg[r]?
  | [], sg, r, _ => rfl
  | (i, o) :: up, sg, r, h => by
    simp only [updSg]
    rw [updSg_other fun p hp => h p (List.mem_cons_of_mem _ hp), setSg_eq, List.getElem?_set_ne (h (i, o) (by simp))]

/-- the same, but for the order of what was noted -/
structure Eqv (s t : AS) : Prop where
  nt : s.nt = t.nt
  tm : ∀ u, lk s.tm u = lk t.tm u
  sg : s.sg = t.sg
  kl : ∀ i, memN i s.kl = true ↔ memN i t.kl = true
theorem Eqv.refl (s : AS) : Eqv s s := ⟨rfl, fun _ => rfl, rfl, fun _ => Iff.rfl⟩
theorem Eqv.symm {s t : AS} (h : Eqv s t) : Eqv t s := ⟨h.nt.symm, fun u => (h.tm u).symm, h.sg.symm, fun i => (h.kl i).symm⟩
theorem Eqv.trans {s t u : AS} (h : Eqv s t) (k : Eqv t u) : Eqv s u := ⟨h.nt.trans k.nt, fun x => (h.tm x).trans (k.tm x), h.sg.trans k.sg, fun i => (h.kl i).trans (k.kl i)⟩

theorem lk_app (s : AS) (d : Option Nat) (e : Ef) (t : Nat) : lk (s.app d e).tm t = if d = some t then e.v else (lk s.tm t).kill e.ks := by
  cases d with
  | none => simp only [AS.app]; rw [lk_killIf]; simp
  | some d =>
    simp only [AS.app, lk]
    rw [lk_killIf]
    by_cases h : d = t
    · subst h; simp
    · have : Nat.beq d t = false := by
        cases hb : Nat.beq d t with
        | false => rfl
        | true => exact absurd (Nat.eq_of_beq_eq_true hb) h
      simp [this, h]
theorem app_sg (s : AS) (d : Option Nat) (e : Ef) : (s.app d e).sg = addSg (updSg (killIfSg e.ks s.sg) e.up) e.nw := rfl
theorem app_quiet {s : AS} {d : Option Nat} {e : Ef} (h : quiet e = true) : (s.app d e).sg = s.sg := by
  obtain ⟨h1, h2, h3⟩ := quiet_iff.1 h
  rw [app_sg, h1, h2, h3]; rfl
theorem Eqv.app {s t : AS} (h : Eqv s t) (d : Option Nat) (e : Ef) : Eqv (s.app d e) (t.app d e) := by
  refine ⟨h.nt, fun u => ?_, ?_, fun i => ?_⟩
  · rw [lk_app, lk_app, h.tm]
  · rw [app_sg, app_sg, h.sg]
  · simp only [AS.app, addN_mem, h.kl]
theorem getSg_app {s : AS} {d : Option Nat} {e : Ef} {r : Nat} (hr : r < s.sg.length) (hu : ∀ p ∈ e.up, p.1 ≠ r) : getSg (s.app d e).sg r = (getSg s.sg r).kill e.ks := by
  rw [getSg_getD, getSg_getD, app_sg, addSg_eq, List.getD_eq_getElem?_getD, List.getD_eq_getElem?_getD, List.getElem?_append_left (by rw [length_updSg, killIfSg_eq]; simpa using hr), updSg_other hu, killIfSg_eq,
    List.getElem?_map, List.getElem?_eq_getElem hr]
  rfl

section
variable {C : Ctx} {ops : List Oper}

structure Stp (C : Ctx) (ops : List Oper) (o : Oper) (s : AS) (r : Rc) : Prop where
  ef : stepT C ops s o (fun b => b = r.e)
  d : r.d = o.dst
  us : r.us = looks ops o
  ov : r.ov = s.evs C (uses o.op)
  oo : (luOf o).1 = 1 ∨ r.oo = getSgs s.sg r.e.rd
  lu : r.lu = luOf o
  n : quiet r.e = false → r.n = s.sg.length
  dok : dstOk s o.dst = true

theorem tmpsOf_mem : ∀ {l : List Operand} {t : Nat}, Operand.tmp t ∈ l → t ∈ tmpsOf l
  | [], _, h => by simp at h
  | x :: xs, t, h => by
    rcases List.mem_cons.1 h with h | h
    · subst h; simp [tmpsOf]
    · have := tmpsOf_mem h
      cases x <;> simp [tmpsOf, this]
theorem ev_of_lk {s s' : AS} {x : Operand} (h : ∀ t, x = .tmp t → lk s'.tm t = lk s.tm t) : s'.ev C x = s.ev C x := by
  cases x with
  | tmp t => exact h t rfl
  | _ => rfl
theorem getSgs_same {sg sg' : List O} : ∀ {l : List Nat}, (∀ r ∈ l, getSg sg' r = getSg sg r) → getSgs sg' l = getSgs sg l
  | [], _ => rfl
  | r :: rs, h => by simp only [getSgs, h r (by simp), getSgs_same (l := rs) fun x hx => h x (List.mem_cons_of_mem _ hx)]

theorem stepT_of {s s' : AS} {o : Oper} {e : Ef} (hg : ∀ t ∈ guardTmp ops o.guard, lk s'.tm t = lk s.tm t) (ho : evOp C s o (fun b => b = e) → evOp C s' o (fun b => b = e)) (h : stepT C ops s o (fun b => b = e)) : stepT C ops s' o (fun b => b = e) := by
  unfold stepT at h ⊢
  cases hgd : o.guard with
  | none => rw [hgd] at h; exact ho h
  | some p =>
    obtain ⟨j, want⟩ := p
    rw [hgd] at h hg
    simp only at h ⊢
    cases hd : dstAt ops j with
    | none => rw [hd] at h; exact h
    | some t =>
      rw [hd] at h
      simp only at h ⊢
      rw [hg t (by simp [guardTmp, hd])]
      generalize lk s.tm t = v at h ⊢
      cases v <;> try exact h
      rotate_left
      · rename_i l
        cases l with
        | nil => exact h
        | cons _ _ => exact h
      rename_i b
      cases want <;> cases b <;> simp only [cond_true, cond_false, brnT, brn] at h ⊢ <;> first
        | exact h
        | exact ho h

/-- the guard's truth is known -/
theorem stepT_guard {s : AS} {o : Oper} {e : Ef} (h : stepT C ops s o (fun b => b = e)) : ∀ t ∈ guardTmp ops o.guard, (∃ b, lk s.tm t = .bool b) ∨ lk s.tm t = .tuple [] := by
  intro t ht
  unfold stepT at h
  cases hgd : o.guard with
  | none => rw [hgd] at ht; simp [guardTmp] at ht
  | some p =>
    obtain ⟨j, want⟩ := p
    rw [hgd] at h ht
    simp only [guardTmp] at ht
    simp only at h
    cases hd : dstAt ops j with
    | none => rw [hd] at ht; simp at ht
    | some t' =>
      rw [hd] at ht h
      simp only [List.mem_singleton] at ht
      subst ht
      simp only at h
      generalize lk s.tm t = v at h
      cases v <;> first
        | exact .inl ⟨_, rfl⟩
        | exact h.elim
        | (rename_i l; cases l with
           | nil => exact .inr rfl
           | cons _ _ => exact h.elim)

theorem quiet_pe {v : V} : quiet (pe v) = true := rfl

/-- the same looks, the same objects: the same -/
theorem Stp.loc {s s' : AS} {o : Oper} {r : Rc} (h : Stp C ops o s r) (hnt : s'.nt = s.nt) (hl : ∀ t ∈ looks ops o, lk s'.tm t = lk s.tm t) (hsg : s'.sg = s.sg ∨ (quiet r.e = true ∧ ∀ i ∈ r.e.rd, getSg s'.sg i = getSg s.sg i)) :
    Stp C ops o s' r := by
  have hev : ∀ x ∈ uses o.op, s'.ev C x = s.ev C x := fun x hx => ev_of_lk fun t ht => hl t (List.mem_append_left _ (tmpsOf_mem (ht ▸ hx)))
  refine ⟨?_, h.d, h.us, ?_, ?_, h.lu, fun hq => ?_, ?_⟩
  · refine stepT_of (fun t ht => hl t (List.mem_append_right _ ht)) (fun he => ?_) h.ef
    rcases hsg with hsg | ⟨hq, hr⟩
    · rw [evOp_same hev hsg]; exact he
    · exact evOp_loc hev he hq hr
  · rw [h.ov, evs_same hev]
  · refine h.oo.imp id fun hoo => ?_
    rw [hoo]
    rcases hsg with hsg | ⟨_, hr⟩
    · rw [hsg]
    · exact (getSgs_same hr).symm
  · rcases hsg with hsg | ⟨hq', _⟩
    · rw [hsg]; exact h.n hq
    · rw [hq'] at hq; cases hq
  · have := h.dok
    cases hd : o.dst with
    | none => rfl
    | some d => rw [hd] at this; simp only [dstOk] at this ⊢; rw [hnt]; exact this

theorem Stp.eqv {s s' : AS} {o : Oper} {r : Rc} (h : Stp C ops o s r) (e : Eqv s s') : Stp C ops o s' r :=
  h.loc e.nt.symm (fun t _ => (e.tm t).symm) (.inl e.sg.symm)

theorem freeL_mem {ks : List Nat} : ∀ {l : List V}, V.freeL ks l = true → ∀ x ∈ l, x.free ks = true
  | [], _, x, h => by simp at h
  | c :: cs, h, x, hx => by
    simp only [V.freeL, Bool.and_eq_true] at h
    rcases List.mem_cons.1 hx with rfl | hx
    · exact h.1
    · exact freeL_mem h.2 x hx
theorem solidL_mem : ∀ {l : List V}, V.solidL l = true → ∀ x ∈ l, x.solid = true
  | [], _, x, h => by simp at h
  | c :: cs, h, x, hx => by
    simp only [V.solidL, Bool.and_eq_true] at h
    rcases List.mem_cons.1 hx with rfl | hx
    · exact h.1
    · exact solidL_mem h.2 x hx
theorem evs_mem {s : AS} : ∀ {l : List Operand} {x : Operand}, x ∈ l → s.ev C x ∈ s.evs C l
  | [], _, h => by simp at h
  | y :: ys, x, h => by
    rcases List.mem_cons.1 h with rfl | h
    · simp [AS.evs]
    · simp only [AS.evs, List.mem_cons]; exact .inr (evs_mem h)
theorem freeOs_mem {ks : List Nat} {sg : List O} : ∀ {l : List Nat}, freeOs ks (getSgs sg l) = true → ∀ i ∈ l, (getSg sg i).kill ks = getSg sg i
  | [], _, i, h => by simp at h
  | k :: l, h, i, hi => by
    simp only [getSgs] at h
    have hrest : freeOs ks (getSgs sg l) = true := by
      cases ho : getSg sg k <;> rw [ho] at h <;> simp only [freeOs, Bool.and_eq_true] at h <;> first | exact h | exact h.2
    rcases List.mem_cons.1 hi with rfl | hi
    · cases ho : getSg sg i <;> try rfl
      all_goals
        rw [ho] at h
        simp only [freeOs, Bool.and_eq_true] at h
        first
        | (simp only [O.kill, killL_free h.1]; done)
        | (simp only [O.kill, kill_free h.1]; done)
    · exact freeOs_mem hrest i hi
theorem solidOs_mem {ks : List Nat} {sg sg' : List O} : ∀ {l : List Nat}, solidOs (getSgs sg' l) = true → ∀ i ∈ l, getSg sg' i = (getSg sg i).kill ks → getSg sg' i = getSg sg i
  | [], _, i, h, _ => by simp at h
  | k :: l, h, i, hi, he => by
    simp only [getSgs] at h
    have hrest : solidOs (getSgs sg' l) = true := by
      cases ho : getSg sg' k <;> rw [ho] at h <;> simp only [solidOs, Bool.and_eq_true] at h <;> first | exact h | exact h.2 | cases h
    rcases List.mem_cons.1 hi with rfl | hi
    · cases ho : getSg sg i <;> rw [ho] at he <;> try exact he
      all_goals
        simp only [O.kill] at he
        rw [he] at h
        simp only [solidOs, Bool.and_eq_true] at h
        first
        | (rw [he, killL_solid h.1]; done)
        | (rw [he, kill_solid h.1]; done)
    · exact solidOs_mem hrest i hi he

theorem dstApart_mem {d : Option Nat} {us : List Nat} (h : dstApart d us = true) {t : Nat} (ht : t ∈ us) : d ≠ some t := by
  intro e
  subst e
  simp only [dstApart, Bool.not_eq_true'] at h
  exact memN_false.1 h ht

theorem eqNs_eq : ∀ {a b : List Nat}, eqNs a b = true → a = b
  | [], [], _ => rfl
  | x :: xs, y :: ys, h => by
    simp only [eqNs, Bool.and_eq_true] at h
    rw [Nat.eq_of_beq_eq_true h.1, eqNs_eq h.2]
  | [], _ :: _, h => by cases h
  | _ :: _, [], h => by cases h
theorem luOf_1 {o : Oper} (h : (luOf o).1 = 1) : ∃ t m x, o.guard = none ∧ o.op = .lookup t (.tmp m) (.tmp x) false ∧ luOf o = (1, [t, m, x]) := by
  unfold luOf at h ⊢
  split at h <;> first
    | (rename_i t m x hg ho; exact ⟨t, m, x, hg, ho, rfl⟩)
    | (cases h; done)
theorem luOf_2 {o : Oper} (h : (luOf o).1 = 2) : ∃ t m x, o.guard = none ∧ o.op = .mapEntry t (.tmp m) (.tmp x) ∧ luOf o = (2, [t, m, x]) := by
  unfold luOf at h ⊢
  split at h <;> first
    | (rename_i t m x hg ho; exact ⟨t, m, x, hg, ho, rfl⟩)
    | (cases h; done)
theorem fnd_app {es : List (V × Int)} {x y : V} {q : Int} (h : fndM es x = none) : fndM (es ++ [(y, q)]) x = cond (keyEq y x) (some (es.length, q)) none := by
  induction es with
  | nil => simp only [List.nil_append, fndM]; cases keyEq y x <;> rfl
  | cons p es ih =>
    obtain ⟨z, r⟩ := p
    simp only [List.cons_append, fndM] at h ⊢
    cases hz : keyEq z x with
    | true => rw [hz] at h; simp at h
    | false =>
      rw [hz] at h
      simp only [cond_false] at h ⊢
      have hn : fndM es x = none := by
        cases he : fndM es x with
        | none => rfl
        | some p => rw [he] at h; cases h
      rw [ih hn]
      cases keyEq y x <;> simp
theorem getM_app {es : List (V × Int)} {x y : V} (h : fndM es x = none) : getM (es ++ [(y, 0)]) x = getM es x := by
  unfold getM
  rw [fnd_app h, h]
  cases keyEq y x <;> rfl
theorem getSg_set {sg : List O} {i : Nat} {o : O} (h : i < sg.length) : getSg (setSg sg i o) i = o := by
  have : ∀ (sg : List O) (i : Nat), i < sg.length → getSg (setSg sg i o) i = o := by
    intro sg
    induction sg with
    | nil => intro i h; simp at h
    | cons a r ih =>
      intro i h
      cases i with
      | zero => rfl
      | succ i => exact ih i (by simpa using h)
  exact this sg i h
/-- a look into a map sees the map alone -/
theorem Stp.look {s : AS} {o : Oper} {r : Rc} (h : Stp C ops o s r) (hl : (luOf o).1 = 1) : quiet r.e = true ∧ ∀ i ∈ r.e.rd, ∃ ag sh es bs ck, getSg s.sg i = .map ag sh es bs ck := by
  obtain ⟨t, m, x, hg, ho, _⟩ := luOf_1 hl
  have ef : evLookup C s t (.tmp m) (.tmp x) false (fun b => b = r.e) := by
    have := h.ef
    unfold stepT at this
    rw [hg] at this
    simp only [evOp, ho] at this
    exact this
  unfold evLookup onMap at ef
  obtain ⟨p, hp, ef⟩ := optT_iff.1 ef
  cases hm : AS.ev C s (.tmp m) <;> rw [hm] at ef <;> try exact ef.elim
  rename_i i
  simp only at ef
  cases hs : getSg s.sg i <;> rw [hs] at ef <;> try exact ef.elim
  rename_i ag sh es bs ck
  simp only [force_eq] at ef
  cases hw : (beqB ag p.1 && shEq sh p.2) with
  | false => rw [hw] at ef; exact ef.elim
  | true =>
    cases hf : fitsK ag sh (AS.ev C s (.tmp x)) with
    | false => rw [hw, hf] at ef; exact ef.elim
    | true =>
      rw [hw, hf] at ef
      have ef : (⟨.int .i64 (getM es (AS.ev C s (.tmp x))), [], [], [], [i]⟩ : Ef) = r.e := ef
      rw [← ef]
      refine ⟨rfl, fun k hk => ?_⟩
      simp at hk
      subst hk
      exact ⟨_, _, _, _, _, hs⟩
/-- a look into a map tells the same behind the making of room for that key -/
theorem Stp.pair {s : AS} {oj oi : Oper} {rj ri : Rc} (hj : Stp C ops oj s rj) (hi : Stp C ops oi s ri) (h : pairLE rj ri = true) (a2 : dstApart oi.dst (looks ops oj) = true) : quiet rj.e = true ∧ ri.e.ks = [] ∧ Stp C ops oj (s.app oi.dst ri.e) rj := by
  unfold pairLE at h
  simp only [Bool.and_eq_true] at h
  rw [hj.lu, hi.lu] at h
  obtain ⟨l1, l2, l3⟩ := h
  obtain ⟨t, m, x, hgj, hoj, ej⟩ := luOf_1 (Nat.eq_of_beq_eq_true l1)
  obtain ⟨t', m', x', hgi, hoi, ei⟩ := luOf_2 (Nat.eq_of_beq_eq_true l2)
  rw [ej, ei] at l3
  have l3 := eqNs_eq l3
  simp only [List.cons.injEq, and_true] at l3
  obtain ⟨rfl, rfl, rfl⟩ := l3
  have efj : evLookup C s t (.tmp m) (.tmp x) false (fun b => b = rj.e) := by
    have := hj.ef
    unfold stepT at this
    rw [hgj] at this
    simp only [evOp, hoj] at this
    exact this
  have efi : evMapEntry C s t (.tmp m) (.tmp x) (fun b => b = ri.e) := by
    have := hi.ef
    unfold stepT at this
    rw [hgi] at this
    simp only [evOp, hoi] at this
    exact this
  unfold evLookup onMap at efj
  obtain ⟨p, hp, efj⟩ := optT_iff.1 efj
  unfold evMapEntry onMap at efi
  obtain ⟨p', hp', efi⟩ := optT_iff.1 efi
  rw [hp] at hp'; cases hp'
  have hlm : Operand.tmp m ∈ uses oj.op := by rw [hoj]; simp [uses]
  have hlx : Operand.tmp x ∈ uses oj.op := by rw [hoj]; simp [uses]
  cases hm : AS.ev C s (.tmp m) <;> rw [hm] at efj efi <;> try exact efj.elim
  rename_i i
  simp only at efj efi
  cases hs : getSg s.sg i <;> rw [hs] at efj efi <;> try exact efj.elim
  rename_i ag sh es bs ck
  simp only [force_eq] at efj efi
  have hil : i < s.sg.length := (getSg_eq hs (by simp)).2
  cases hw : (beqB ag p.1 && shEq sh p.2) with
  | false => rw [hw] at efj; exact efj.elim
  | true =>
    cases hf : fitsK ag sh (AS.ev C s (.tmp x)) with
    | false => rw [hw, hf] at efj; exact efj.elim
    | true =>
      rw [hw, hf] at efj efi
      have efj : (⟨.int .i64 (getM es (AS.ev C s (.tmp x))), [], [], [], [i]⟩ : Ef) = rj.e := efj
      have hri : ∃ v es' bs' ck', ri.e = ⟨v, [], [(i, .map ag sh es' bs' ck')], [], [i]⟩ ∧ getM es' (AS.ev C s (.tmp x)) = getM es (AS.ev C s (.tmp x)) := by
        obtain ⟨_, k1, k2⟩ := efi
        cases hfd : fndM es (AS.ev C s (.tmp x)) with
        | some r =>
          have := k1 r hfd
          exact ⟨_, _, _, _, (show _ = ri.e from this).symm, rfl⟩
        | none =>
          have := k2 hfd
          exact ⟨_, _, _, _, (show _ = ri.e from this).symm, getM_app hfd⟩
      obtain ⟨v, es', bs', ck', hri, hget⟩ := hri
      have hks : ri.e.ks = [] := by rw [hri]
      have hlk : ∀ u ∈ looks ops oj, lk (s.app oi.dst ri.e).tm u = lk s.tm u := fun u hu => by
        rw [lk_app, if_neg (dstApart_mem a2 hu), hks, kill_nil]
      have hev : ∀ y ∈ uses oj.op, (s.app oi.dst ri.e).ev C y = s.ev C y := fun y hy => ev_of_lk fun u hu => hlk u (List.mem_append_left _ (tmpsOf_mem (hu ▸ hy)))
      refine ⟨by rw [← efj]; rfl, hks, ?_⟩
      have hsg : (s.app oi.dst ri.e).sg = setSg s.sg i (.map ag sh es' bs' ck') := by
        rw [hri]
        simp [AS.app, killIfSg, updSg, addSg]
      refine ⟨?_, hj.d, hj.us, ?_, .inl (Nat.eq_of_beq_eq_true l1), hj.lu, fun hq => ?_, ?_⟩
      · unfold stepT
        rw [hgj]
        simp only [evOp, hoj]
        unfold evLookup onMap
        refine optT_iff.2 ⟨p, hp, ?_⟩
        rw [hev _ hlm, hm]
        simp only
        rw [hsg, getSg_set hil]
        simp only [force_eq]
        rw [hev _ hlx, hw, hf]
        show (⟨.int .i64 (getM es' (AS.ev C s (.tmp x))), [], [], [], [i]⟩ : Ef) = rj.e
        rw [hget]
        exact efj
      · rw [hj.ov, evs_same hev]
      · rw [← efj] at hq; cases hq
      · have := hj.dok
        cases hd : oj.dst with
        | none => rfl
        | some d => rw [hd] at this; simp only [dstOk] at this ⊢; exact this
theorem luOf_3 {o : Oper} (h : (luOf o).1 = 3) : o.guard = none ∧ ∃ t, o.op = .alloc t := by
  unfold luOf at h
  split at h
  · cases h
  · cases h
  · rename_i h1 h2; exact ⟨h1, _, h2⟩
  · cases h
mutual
theorem kill_comm (a b : List Nat) : ∀ x : V, (x.kill a).kill b = (x.kill b).kill a
  | .undef | .int .. | .bool _ | .str _ | .list .. | .nilptr | .box .. | .nilIface | .nilFunc | .nilmap => by simp only [V.kill]
  | .ptr i _ | .bptr i _ _ | .buf i | .map i => by
    simp only [V.kill]
    cases h1 : memN i a <;> cases h2 : memN i b <;> simp [V.kill, h1, h2]
  | .agg cs | .tuple cs => by simp only [V.kill]; rw [killL_comm a b cs]
  | .iface t x => by simp only [V.kill]; rw [kill_comm a b x]
  | .func f xs ys => by simp only [V.kill]; rw [killL_comm a b xs, killL_comm a b ys]
theorem killL_comm (a b : List Nat) : ∀ l : List V, V.killL b (V.killL a l) = V.killL a (V.killL b l)
  | [] => by simp only [V.killL]
  | x :: xs => by simp only [V.killL]; rw [kill_comm a b x, killL_comm a b xs]
end
theorem okill_comm (a b : List Nat) (o : O) : (o.kill a).kill b = (o.kill b).kill a := by
  cases o <;> simp only [O.kill]
  · rw [killL_comm]
  · rw [kill_comm]
mutual
theorem kill_pure (a : List Nat) : ∀ x : V, x.pure = true → x.kill a = x
  | .undef, h | .ptr .., h | .bptr .., h | .buf _, h | .map _, h => by simp [V.pure] at h
  | .int .., _ | .bool _, _ | .str _, _ | .list .., _ | .nilptr, _ | .box .., _ | .nilIface, _ | .nilFunc, _ | .nilmap, _ => by simp only [V.kill]
  | .agg cs, h | .tuple cs, h => by simp only [V.pure] at h; simp only [V.kill]; rw [killL_pure a cs h]
  | .iface t x, h => by simp only [V.pure] at h; simp only [V.kill]; rw [kill_pure a x h]
  | .func f xs ys, h => by
    simp only [V.pure, Bool.and_eq_true] at h
    simp only [V.kill]; rw [killL_pure a xs h.1, killL_pure a ys h.2]
theorem killL_pure (a : List Nat) : ∀ l : List V, V.pureL l = true → V.killL a l = l
  | [], _ => by simp only [V.killL]
  | x :: xs, h => by
    simp only [V.pureL, Bool.and_eq_true] at h
    simp only [V.killL]; rw [kill_pure a x h.1, killL_pure a xs h.2]
end
theorem okill_dead {a : List Nat} {o : O} (h : o.kill a = .dead) : o = .dead := by cases o <;> simp only [O.kill] at h <;> first | rfl | cases h
/-- an object is laid in a place that is kept for it -/
theorem Stp.laid {s : AS} {o : Oper} {r : Rc} (h : Stp C ops o s r) (hl : (luOf o).1 = 3) (hn : r.e.nw = []) :
    ∃ k z, r.e = ⟨.ptr k 0, [k], [(k, .cells z)], [], []⟩ ∧ getSg s.sg k = .dead ∧ k < s.sg.length ∧ V.pureL z = true ∧ ∀ s' : AS, s'.sg.length = s.sg.length → s'.nt = s.nt → getSg s'.sg k = .dead → Stp C ops o s' r := by
  obtain ⟨hg, t, ho⟩ := luOf_3 hl
  have hu : uses o.op = [] := by rw [ho]; rfl
  have ef : evAllocD C s o.dst t (fun b => b = r.e) := by
    have := h.ef
    unfold stepT at this
    rw [hg] at this
    simp only [evOp, ho] at this
    exact this
  have hold : ¬ evAlloc C s t (fun b => b = r.e) := fun q => by
    unfold evAlloc at q
    cases hk : (C.ti t).k <;> rw [hk] at q <;> try exact q.elim
    all_goals
      simp only [force_eq, forceN_eq] at q
      cases hz : (!((C.ti t).zero).isU) with
      | false => rw [hz] at q; exact q
      | true =>
        rw [hz] at q
        have q : _ = r.e := q
        rw [← q] at hn
        cases hn
  unfold evAllocD at ef
  cases hd : o.dst with
  | none => rw [hd] at ef; exact absurd ef hold
  | some d =>
    rw [hd] at ef
    simp only at ef
    cases hr : C.rsv d with
    | none => rw [hr] at ef; exact absurd ef hold
    | some k =>
      rw [hr] at ef
      simp only at ef
      cases hs : getSg s.sg k <;> rw [hs] at ef <;> try exact ef.elim
      simp only at ef
      cases hk : (C.ti t).k <;> rw [hk] at ef <;> try exact ef.elim
      all_goals
        simp only [force_eq] at ef
        cases hb : (Nat.blt k s.sg.length && !((C.ti t).zero).isU && V.pureL ((C.ti t).zero).cells) with
        | false => rw [hb] at ef; exact ef.elim
        | true =>
          rw [hb] at ef
          have ef : (⟨.ptr k 0, [k], [(k, .cells ((C.ti t).zero).cells)], [], []⟩ : Ef) = r.e := ef
          have hb2 := hb
          simp only [Bool.and_eq_true, Bool.not_eq_true'] at hb2
          refine ⟨k, _, ef.symm, hs, Nat.le_of_ble_eq_true hb2.1.1, hb2.2, fun s' h1 h2 h3 => ⟨?_, h.d, h.us, ?_, .inr ?_, h.lu, fun q => by rw [h1]; exact h.n q, ?_⟩⟩
          · unfold stepT
            rw [hg]
            simp only [evOp, ho]
            unfold evAllocD
            rw [hd]
            simp only
            rw [hr]
            simp only
            rw [h3]
            simp only
            rw [hk]
            simp only [force_eq]
            rw [h1, hb]
            exact ef
          · rw [h.ov, hu]; rfl
          · rcases h.oo with q | q
            · rw [hl] at q; cases q
            · rw [q, ← ef]; rfl
          · have := h.dok
            rw [hd] at this ⊢
            simp only [dstOk] at this ⊢
            rw [h2]; exact this
theorem two_sg {sg : List O} {a b : Nat} {x y : O} (hab : a ≠ b) (hx : x.kill [b] = x) (hy : y.kill [a] = y) :
    updSg (killIfSg [b] (updSg (killIfSg [a] sg) [(a, x)])) [(b, y)] = updSg (killIfSg [a] (updSg (killIfSg [b] sg) [(b, y)])) [(a, x)] := by
  simp only [updSg, killIfSg_eq, setSg_eq]
  apply List.ext_getElem?
  intro i
  simp only [List.getElem?_set, List.getElem?_map, List.length_set, List.length_map]
  by_cases h1 : b = i
  · subst h1
    by_cases h2 : b < sg.length
    · simp [h2, hab, hy]
    · simp [h2, hab]
  · by_cases h2 : a = i
    · subst h2
      by_cases h3 : a < sg.length
      · simp [h1, h3, hx]
      · simp [h1, h3]
    · simp only [if_neg h1, if_neg h2]
      cases sg[i]? with
      | none => rfl
      | some o => simp only [Option.map_some]; rw [okill_comm]
theorem Stp.swap {s : AS} {oj oi : Oper} {rj ri : Rc} (hj : Stp C ops oj s rj) (hi : Stp C ops oi (s.app oj.dst rj.e) ri) (h : indep rj ri = true) :
    Stp C ops oi s ri ∧ Stp C ops oj (s.app oi.dst ri.e) rj ∧ Eqv ((s.app oi.dst ri.e).app oj.dst rj.e) ((s.app oj.dst rj.e).app oi.dst ri.e) := by
  unfold indep at h
  simp only [Bool.and_eq_true] at h
  obtain ⟨⟨⟨a1, a2⟩, a3⟩, h⟩ := h
  rw [hj.d, hi.us] at a1
  rw [hi.d, hj.us] at a2
  rw [hi.d, hj.d] at a3
  have hne : ∀ t, oj.dst = some t → oi.dst = some t → False := fun t h1 h2 => by
    rw [h1, h2] at a3; simp [dstNe] at a3
  -- what i looks at, ahead of j
  have lki : ∀ t ∈ looks ops oi, lk (s.app oj.dst rj.e).tm t = (lk s.tm t).kill rj.e.ks := fun t ht => by
    rw [lk_app, if_neg (dstApart_mem a1 ht)]
  have lkj : ∀ t ∈ looks ops oj, lk (s.app oi.dst ri.e).tm t = (lk s.tm t).kill ri.e.ks := fun t ht => by
    rw [lk_app, if_neg (dstApart_mem a2 ht)]
  have hfin : (rj.e.ks = [] ∨ ri.e.ks = []) → rj.e.v.kill ri.e.ks = rj.e.v → ri.e.v.kill rj.e.ks = ri.e.v → ((s.app oi.dst ri.e).app oj.dst rj.e).sg = ((s.app oj.dst rj.e).app oi.dst ri.e).sg →
      Eqv ((s.app oi.dst ri.e).app oj.dst rj.e) ((s.app oj.dst rj.e).app oi.dst ri.e) := fun hks hv1 hv2 hsg => by
    refine ⟨rfl, fun t => ?_, hsg, fun i => by simp only [AS.app, addN_mem]; exact or_left_comm⟩
    rw [lk_app, lk_app, lk_app, lk_app]
    by_cases e1 : oj.dst = some t
    · rw [if_pos e1, if_pos e1, if_neg (fun e2 => hne t e1 e2), hv1]
    · rw [if_neg e1, if_neg e1]
      by_cases e2 : oi.dst = some t
      · rw [if_pos e2, if_pos e2, hv2]
      · rw [if_neg e2, if_neg e2]
        rcases hks with hks | hks <;> rw [hks, kill_nil, kill_nil]
  cases hpl : pairLE rj ri with
  | true =>
    have hqj : quiet rj.e = true := by
      have hp2 := hpl
      unfold pairLE at hp2
      simp only [Bool.and_eq_true] at hp2
      rw [hj.lu] at hp2
      exact (hj.look (Nat.eq_of_beq_eq_true hp2.1)).1
    obtain ⟨j1, j2, j3⟩ := quiet_iff.1 hqj
    have hsi : Stp C ops oi s ri := hi.loc rfl (fun t ht => by rw [lki t ht, j1, kill_nil]) (.inl (app_quiet hqj).symm)
    rw [← hi.d] at a2
    obtain ⟨_, i1, hsj⟩ := hj.pair hsi hpl (hi.d ▸ a2)
    refine ⟨hsi, hsj, hfin (.inl j1) (by rw [i1, kill_nil]) (by rw [j1, kill_nil]) ?_⟩
    rw [app_quiet hqj, app_sg, app_sg, app_quiet hqj]
  | false =>
  rw [hpl, Bool.false_or] at h
  cases hqj : quiet rj.e with
  | true =>
    obtain ⟨j1, j2, j3⟩ := quiet_iff.1 hqj
    have hsi : Stp C ops oi s ri := hi.loc rfl (fun t ht => by rw [lki t ht, j1, kill_nil]) (.inl (app_quiet hqj).symm)
    cases hqi : quiet ri.e with
    | true =>
      obtain ⟨i1, i2, i3⟩ := quiet_iff.1 hqi
      refine ⟨hsi, hj.loc rfl (fun t ht => by rw [lkj t ht, i1, kill_nil]) (.inl (app_quiet hqi)), hfin (.inl j1) (by rw [i1, kill_nil]) (by rw [j1, kill_nil]) ?_⟩
      rw [app_quiet hqj, app_quiet hqi, app_quiet hqi, app_quiet hqj]
    | false =>
      rw [hqj, hqi] at h
      simp only [Bool.and_eq_true] at h
      obtain ⟨⟨⟨⟨b1, b2⟩, b3⟩, b4⟩, b5⟩ := h
      rw [hj.ov] at b1
      have hb2 : ∀ r ∈ rj.e.rd, (getSg s.sg r).kill ri.e.ks = getSg s.sg r := fun r hr => by
        rcases hj.oo with q | q
        · obtain ⟨_, _, _, _, _, hm⟩ := (hj.look q).2 r hr
          rw [hm]; rfl
        · rw [q] at b2; exact freeOs_mem b2 r hr
      have hn : ri.n = s.sg.length := by rw [hi.n hqi, app_quiet hqj]
      rw [hn] at b5
      refine ⟨hsi, hj.loc rfl (fun t ht => ?_) (.inr ⟨hqj, fun r hr => ?_⟩), hfin (.inl j1) (kill_free b3) (by rw [j1, kill_nil]) ?_⟩
      · rw [lkj t ht]
        rcases List.mem_append.1 ht with ht | ht
        · have : ∀ (l : List Operand) t, t ∈ tmpsOf l → Operand.tmp t ∈ l := by
            intro l
            induction l with
            | nil => intro t h; simp [tmpsOf] at h
            | cons x xs ih =>
              intro t h
              cases x <;> simp only [tmpsOf, List.mem_cons] at h ⊢ <;> first
                | exact .inr (ih t h)
                | (rcases h with rfl | h
                   · exact .inl rfl
                   · exact .inr (ih t h))
          exact kill_free (freeL_mem b1 _ (evs_mem (this _ _ ht)))
        · rcases stepT_guard hj.ef t ht with ⟨b, hb⟩ | hb <;> rw [hb] <;> simp [V.kill, V.killL]
      · rw [getSg_app (allLt_mem b5 r hr) (fun p hp e => apartUp_mem b4 p hp (e ▸ hr)), hb2 r hr]
      · rw [app_quiet hqj, app_sg, app_sg, app_quiet hqj]
  | false =>
    cases hqi : quiet ri.e with
    | false =>
      rw [hqj, hqi] at h
      have h : twoB rj ri = true := h
      have ht : rj.e.nw = [] ∧ ri.e.nw = [] ∧ rj.lu.1 = 3 ∧ ri.lu.1 = 3 ∧ ∀ a b, rj.e.ks = [a] → ri.e.ks = [b] → a ≠ b := by
        unfold twoB at h
        split at h
        · rename_i e1 e2
          simp only [Bool.and_eq_true, Bool.not_eq_true'] at h
          rw [e1, e2]
          refine ⟨rfl, rfl, Nat.eq_of_beq_eq_true h.1.1, Nat.eq_of_beq_eq_true h.1.2, fun a b ha hb q => ?_⟩
          cases ha; cases hb; subst q
          have := h.2
          rw [Nat.beq_refl] at this
          cases this
        · cases h
      obtain ⟨t1, t2, t3, t4, t5⟩ := ht
      rw [hj.lu] at t3
      rw [hi.lu] at t4
      obtain ⟨a, x, ej, hdj, hla, hpx, hSj⟩ := hj.laid t3 t1
      obtain ⟨b, y, ei, hdi, hlb, hpy, hSi⟩ := hi.laid t4 t2
      have hab : a ≠ b := t5 a b (by rw [ej]) (by rw [ei])
      have hlj : (s.app oj.dst rj.e).sg.length = s.sg.length := by rw [length_app, t1]; rfl
      have hli : (s.app oi.dst ri.e).sg.length = s.sg.length := by rw [length_app, t2]; rfl
      have hb0 : getSg s.sg b = .dead := by
        have := getSg_app (s := s) (d := oj.dst) (e := rj.e) (r := b) (by rw [hlj] at hlb; exact hlb) (fun p hp q => by
          rw [ej] at hp
          simp only [List.mem_singleton] at hp
          subst hp
          exact hab q)
        rw [hdi] at this
        exact okill_dead this.symm
      have ha1 : getSg (s.app oi.dst ri.e).sg a = .dead := by
        have := getSg_app (s := s) (d := oi.dst) (e := ri.e) (r := a) hla (fun p hp q => by
          rw [ei] at hp
          simp only [List.mem_singleton] at hp
          subst hp
          exact hab q.symm)
        rw [this, hdj]; rfl
      have hma : memN a [b] = false := by simp only [memN, Bool.or_false]; cases q : Nat.beq a b with | false => simp [memN, q] | true => exact absurd (Nat.eq_of_beq_eq_true q) hab
      have hmb : memN b [a] = false := by cases q : Nat.beq b a with | false => simp [memN, q] | true => exact absurd (Nat.eq_of_beq_eq_true q).symm hab
      refine ⟨hSi s hlj.symm rfl hb0, hSj _ hli rfl ha1, ⟨rfl, fun t => ?_, ?_, fun i => by simp only [AS.app, addN_mem]; exact or_left_comm⟩⟩
      · rw [lk_app, lk_app, lk_app, lk_app]
        by_cases e1 : oj.dst = some t
        · rw [if_pos e1, if_pos e1, if_neg (fun e2 => hne t e1 e2), ej, ei]
          simp [V.kill, hma]
        · rw [if_neg e1, if_neg e1]
          by_cases e2 : oi.dst = some t
          · rw [if_pos e2, if_pos e2, ej, ei]
            simp [V.kill, hmb]
          · rw [if_neg e2, if_neg e2, kill_comm]
      · rw [app_sg, app_sg, app_sg, app_sg, ej, ei]
        show updSg (killIfSg [a] (updSg (killIfSg [b] s.sg) [(b, .cells y)])) [(a, .cells x)] = updSg (killIfSg [b] (updSg (killIfSg [a] s.sg) [(a, .cells x)])) [(b, .cells y)]
        exact (two_sg hab (by simp only [O.kill]; rw [killL_pure _ _ hpx]) (by simp only [O.kill]; rw [killL_pure _ _ hpy])).symm
    | true =>
      obtain ⟨i1, i2, i3⟩ := quiet_iff.1 hqi
      rw [hqj, hqi] at h
      simp only [Bool.and_eq_true] at h
      obtain ⟨⟨⟨⟨b1, b2⟩, b3⟩, b4⟩, b5⟩ := h
      rw [hi.ov] at b1
      have hb2 : ∀ r ∈ ri.e.rd, getSg (s.app oj.dst rj.e).sg r = (getSg s.sg r).kill rj.e.ks → getSg (s.app oj.dst rj.e).sg r = getSg s.sg r := fun r hr he => by
        rcases hi.oo with q | q
        · obtain ⟨_, _, _, _, _, hm⟩ := (hi.look q).2 r hr
          rw [hm] at he ⊢
          cases hg : getSg s.sg r <;> rw [hg] at he <;> first
            | (cases he; done)
            | exact he
        · rw [q] at b2; exact solidOs_mem b2 r hr he
      rw [hj.n hqj] at b5
      have hlk : ∀ t ∈ looks ops oi, lk s.tm t = lk (s.app oj.dst rj.e).tm t := fun t ht => by
        have h1 := lki t ht
        rw [h1]
        refine (kill_solid ?_).symm
        rw [← h1]
        rcases List.mem_append.1 ht with ht | ht
        · have : ∀ (l : List Operand) t, t ∈ tmpsOf l → Operand.tmp t ∈ l := by
            intro l
            induction l with
            | nil => intro t h; simp [tmpsOf] at h
            | cons x xs ih =>
              intro t h
              cases x <;> simp only [tmpsOf, List.mem_cons] at h ⊢ <;> first
                | exact .inr (ih t h)
                | (rcases h with rfl | h
                   · exact .inl rfl
                   · exact .inr (ih t h))
          exact solidL_mem b1 _ (evs_mem (this _ _ ht))
        · rcases stepT_guard hi.ef t ht with ⟨b, hb⟩ | hb <;> rw [hb] <;> rfl
      refine ⟨hi.loc rfl hlk (.inr ⟨hqi, fun r hr => ?_⟩), hj.loc rfl (fun t ht => by rw [lkj t ht, i1, kill_nil]) (.inl (app_quiet hqi)), hfin (.inr i1) (by rw [i1, kill_nil]) (kill_free b3) ?_⟩
      · exact (hb2 r hr (getSg_app (allLt_mem b5 r hr) (fun p hp e => apartUp_mem b4 p hp (e ▸ hr)))).symm
      · show addSg (updSg (killIfSg rj.e.ks (s.app oi.dst ri.e).sg) rj.e.up) rj.e.nw = _
        rw [app_quiet hqi, app_quiet hqi]; rfl

/-! chains -/
def Chain (C : Ctx) (ops : List Oper) (f : Nat → Rc) (sN : AS) : List Nat → AS → Prop
  | [], s => Eqv s sN
  | i :: L, s => ∃ o, ops[i]? = some o ∧ Stp C ops o s (f i) ∧ Chain C ops f sN L (s.app o.dst (f i).e)

theorem Chain.eqv {f : Nat → Rc} {sN : AS} : ∀ {L : List Nat} {s s' : AS}, Chain C ops f sN L s → Eqv s s' → Chain C ops f sN L s'
  | [], _, _, h, e => e.symm.trans h
  | _ :: _, _, _, ⟨o, h1, h2, h3⟩, e => ⟨o, h1, h2.eqv e, h3.eqv (e.app _ _)⟩

theorem Chain.front {f : Nat → Rc} {sN : AS} {i : Nat} {l2 : List Nat} : ∀ {l1 : List Nat} {s : AS}, Chain C ops f sN (l1 ++ i :: l2) s → (∀ j ∈ l1, indep (f j) (f i) = true) → Chain C ops f sN (i :: (l1 ++ l2)) s
  | [], _, h, _ => h
  | j :: l1, s, ⟨oj, h1, h2, h3⟩, hi => by
    obtain ⟨oi, k1, k2, k3⟩ := Chain.front h3 fun k hk => hi k (List.mem_cons_of_mem _ hk)
    obtain ⟨q1, q2, q3⟩ := h2.swap k2 (hi j (by simp))
    exact ⟨oi, k1, q1, oj, h1, q2, k3.eqv q3.symm⟩
end
end Go.VG
