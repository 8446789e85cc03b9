/-
  What an operation does depends on what it looks at alone.
-/
import Derived.Test.YtbeejnmeakcpjaaDoorVgQ
set_option linter.unusedSimpArgs false
set_option linter.unusedVariables false
namespace Go.VG
open Go

theorem quiet_iff {e : Ef} : quiet e = true ↔ e.ks = [] ∧ e.up = [] ∧ e.nw = [] := by
  obtain ⟨v, ks, up, nw, rd⟩ := e
  cases ks <;> cases up <;> cases nw <;> simp [quiet]

mutual
theorem names_acc : ∀ {x : V} {acc : List Nat} {i : Nat}, i ∈ acc → i ∈ V.names x acc
  | .ptr j _, acc, i, h | .bptr j _ _, acc, i, h | .buf j, acc, i, h | .map j, acc, i, h => by
    simp only [V.names]
    cases memN j acc with
    | true => exact h
    | false => exact List.mem_append_left _ h
  | .agg cs, acc, i, h | .tuple cs, acc, i, h => by simp only [V.names]; exact namesL_acc h
  | .iface _ x, acc, i, h => by simp only [V.names]; exact names_acc h
  | .func _ fs cs, acc, i, h => by simp only [V.names]; exact namesL_acc (namesL_acc h)
  | .undef, _, _, h | .int .., _, _, h | .bool _, _, _, h | .str _, _, _, h | .list .., _, _, h | .nilptr, _, _, h | .box .., _, _, h | .nilIface, _, _, h | .nilFunc, _, _, h | .nilmap, _, _, h => by simp only [V.names]; exact h
theorem namesL_acc : ∀ {x : List V} {acc : List Nat} {i : Nat}, i ∈ acc → i ∈ V.namesL x acc
  | [], _, _, h => by simp only [V.namesL]; exact h
  | c :: cs, _, _, h => by simp only [V.namesL]; exact namesL_acc (names_acc h)
end
theorem onames_acc {o : O} {acc : List Nat} {i : Nat} (h : i ∈ acc) : i ∈ o.names acc := by
  cases o <;> simp only [O.names] <;> first | exact h | exact namesL_acc h | exact names_acc h

theorem reach_acc {sg : List O} : ∀ {fuel : Nat} {todo acc : List Nat} {i : Nat}, i ∈ acc → i ∈ reach sg fuel todo acc
  | 0, _, _, _, h => by simp only [reach]; exact h
  | _ + 1, [], _, _, h => by simp only [reach]; exact h
  | fuel + 1, k :: todo, acc, i, h => by simp only [reach]; exact reach_acc (onames_acc h)
theorem reach_loc {sg sg' : List O} : ∀ {fuel : Nat} {todo acc : List Nat}, (∀ i ∈ todo, i ∈ acc) → (∀ r ∈ reach sg fuel todo acc, getSg sg' r = getSg sg r) → reach sg' fuel todo acc = reach sg fuel todo acc
  | 0, _, _, _, _ => by simp only [reach]
  | _ + 1, [], _, _, _ => by simp only [reach]
  | fuel + 1, k :: todo, acc, ht, h => by
    have hk : getSg sg' k = getSg sg k := h k (reach_acc (ht k (by simp)))
    simp only [reach] at h ⊢
    rw [hk]
    refine reach_loc (fun i hi => ?_) h
    rcases List.mem_append.1 hi with hi | hi
    · exact onames_acc (ht i (List.mem_cons_of_mem _ hi))
    · exact List.mem_of_mem_drop hi

theorem aliveN_loc {sg sg' : List O} : ∀ {th : List Nat}, (∀ r ∈ th, getSg sg' r = getSg sg r) → aliveN sg' th = aliveN sg th
  | [], _ => rfl
  | k :: ks, h => by simp only [aliveN, h k (by simp), aliveN_loc (th := ks) fun r hr => h r (List.mem_cons_of_mem _ hr)]
theorem closedN_loc {sg sg' : List O} {th0 : List Nat} : ∀ {th : List Nat}, (∀ r ∈ th, getSg sg' r = getSg sg r) → closedN sg' th0 th = closedN sg th0 th
  | [], _ => rfl
  | k :: ks, h => by simp only [closedN, h k (by simp), closedN_loc (th := ks) fun r hr => h r (List.mem_cons_of_mem _ hr)]
theorem locals_loc {sg sg' : List O} {f : Nat → Option Nat} : ∀ {th : List Nat}, (∀ r ∈ th, getSg sg' r = getSg sg r) → locals sg' f th = locals sg f th
  | [], _ => rfl
  | k :: ks, h => by simp only [locals, h k (by simp), locals_loc (th := ks) fun r hr => h r (List.mem_cons_of_mem _ hr)]
theorem bufsOf_loc {sg sg' : List O} : ∀ {th : List Nat}, (∀ r ∈ th, getSg sg' r = getSg sg r) → bufsOf sg' th = bufsOf sg th
  | [], _ => rfl
  | k :: ks, h => by simp only [bufsOf, h k (by simp), bufsOf_loc (th := ks) fun r hr => h r (List.mem_cons_of_mem _ hr)]
theorem backIdx_zero {n n' : Nat} : ∀ {th : List Nat}, backIdx th n 0 = backIdx th n' 0
  | [] => rfl
  | k :: ks => by
    funext j
    cases j with
    | zero => simp [backIdx]
    | succ j => simp only [backIdx]; exact congrFun (backIdx_zero (th := ks)) j

section
variable {C : Ctx} {s s' : AS} {o : Oper} {e : Ef}

theorem evCall_loc {sg sg' : List O} {f : FuncId} {args : List V} {pre : Prop} (h : evCall C sg f args = some (pre, e)) (hq : quiet e = true) (hr : ∀ r ∈ e.rd, getSg sg' r = getSg sg r) : evCall C sg' f args = some (pre, e) := by
  unfold evCall at h ⊢
  rw [forceNs_eq, forceNs_eq] at h ⊢
  -- what is read
  have hrd : e.rd = reach sg 256 (V.namesL args []) (V.namesL args []) := by
    unfold evCallAt at h
    simp only [forceDs_eq, forceOs_eq] at h
    cases hc : (nodupN (reach sg 256 (V.namesL args []) (V.namesL args [])) && aliveN sg (reach sg 256 (V.namesL args []) (V.namesL args []))) with
    | false => rw [hc] at h; cases h
    | true =>
      rw [hc, cond_true] at h
      split at h
      · cases h
      · cases hcl : closedN sg (reach sg 256 (V.namesL args []) (V.namesL args [])) (reach sg 256 (V.namesL args []) (V.namesL args [])) with
        | false => rw [hcl] at h; cases h
        | true => rw [hcl] at h; cases h; rfl
      · cases h; rfl
  rw [hrd] at hr
  rw [reach_loc (fun _ h => h) hr]
  generalize reach sg 256 (V.namesL args []) (V.namesL args []) = th at *
  unfold evCallAt at h ⊢
  simp only [forceDs_eq, forceOs_eq] at h ⊢
  rw [aliveN_loc hr, closedN_loc hr, locals_loc hr, bufsOf_loc hr]
  cases hc : (nodupN th && aliveN sg th) with
  | false => rw [hc] at h; cases h
  | true =>
    rw [hc, cond_true] at h
    rw [cond_true]
    generalize C.Γ f (V.renL (fun i => idxOf i th 0) args) (locals sg (fun i => idxOf i th 0) th) = r at h ⊢
    rcases r with _ | ⟨pre', v, _ | σ⟩
    · cases h
    · exact h
    · simp only [Option.some.injEq, Prod.mk.injEq] at h ⊢
      obtain ⟨rfl, rfl⟩ := h
      refine ⟨rfl, ?_⟩
      obtain ⟨q1, q2, q3⟩ := quiet_iff.1 hq
      simp only [mapRen_eq, List.map_eq_nil_iff] at q3
      rw [q3]
      simp only [List.length_nil]
      rw [backIdx_zero (n := sg'.length) (n' := sg.length)]

theorem evs_same : ∀ {l : List Operand}, (∀ x ∈ l, s'.ev C x = s.ev C x) → s'.evs C l = s.evs C l
  | [], _ => rfl
  | x :: xs, h => by simp only [AS.evs, h x (by simp), evs_same (l := xs) fun y hy => h y (List.mem_cons_of_mem _ hy)]
theorem evParts_same : ∀ {l : List (Nat × Operand)}, (∀ x ∈ partOps l, s'.ev C x = s.ev C x) → evParts C s' l = evParts C s l
  | [], _ => rfl
  | (i, x) :: r, h => by simp only [evParts, h x (by simp [partOps]), evParts_same (l := r) fun y hy => h y (by simp [partOps, hy])]
theorem evRange_same {n : Nat} {lo hi : Option Operand} (h1 : ∀ x ∈ optOps lo, s'.ev C x = s.ev C x) (h2 : ∀ x ∈ optOps hi, s'.ev C x = s.ev C x) : evRange C s' n lo hi = evRange C s n lo hi := by
  cases lo <;> cases hi <;> simp only [evRange] <;> simp only [optOps, List.mem_singleton, forall_eq, List.not_mem_nil] at h1 h2 <;> simp only [h1, h2]
theorem elems_same {x : V} (h : ∀ i, x = .buf i → getSg s'.sg i = getSg s.sg i) : elems s' x = elems s x := by
  unfold elems
  cases x <;> try rfl
  rename_i i
  simp only [h i rfl]
theorem target_same {c : Call} (h : ∀ x ∈ uses (.call c), s'.ev C x = s.ev C x) : target C s' c = target C s c := by
  unfold target
  cases hc : c.callee with
  | value f =>
    simp only [uses, hc] at h
    simp only [h f (by simp), evs_same fun x hx => h x (List.mem_cons_of_mem _ hx)]
  | invoke r m => rfl
  | builtin b => rfl

/-- what is looked at is the same -/
structure SameOn (C : Ctx) (s s' : AS) (o : Oper) : Prop where
  ev : ∀ x ∈ uses o.op, s'.ev C x = s.ev C x

theorem callT_same {r : Option (Prop × Ef)} {e : Ef} (h : callT r (fun b => b = e)) : ∃ pre : Prop, r = some (pre, e) ∧ pre := by
  cases r with
  | none => exact h.elim
  | some p =>
    have h1 : p.1 := h.1
    have h2 : forceEf p.2 (fun b => b = e) := h.2
    rw [forceEf_eq] at h2
    exact ⟨p.1, by rw [← h2], h1⟩
theorem callT_of {r : Option (Prop × Ef)} {e : Ef} {pre : Prop} (h : r = some (pre, e)) (hp : pre) : callT r (fun b => b = e) := by
  subst h
  refine ⟨hp, ?_⟩
  show forceEf e _
  rw [forceEf_eq]

/-- the same store: the same -/
theorem evOp_same (h : ∀ x ∈ uses o.op, s'.ev C x = s.ev C x) (hs : s'.sg = s.sg) : evOp C s' o = evOp C s o := by
  obtain ⟨dst, op, type, pos, after, guard⟩ := o
  have hel : ∀ x, elems s' x = elems s x := fun x => elems_same fun i _ => by rw [hs]
  cases op <;> simp only [evOp, uses] at h ⊢
  case move x => rw [h x (by simp)]
  case assign x => rw [h x (by simp)]
  case pick c a b => simp only [evPick, h c (by simp), h a (by simp), h b (by simp)]
  case alloc t => simp only [evAlloc, hs]
  case box t x => rw [h x (by simp), hs]
  case build t ps => simp only [evBuild, evParts_same h]
  case buildSlice t n ps => simp only [evBS, evLit, evBuildSlice, evParts_same h, hs]
  case load t x => simp only [evLoad, h x (by simp), hs]
  case store t x y => simp only [evStore, h x (by simp), h y (by simp), hs]
  case nilCheck x => simp only [evNilCheck, h x (by simp)]
  case binOp b t x y u => rw [h x (by simp), h y (by simp)]
  case unOp b t x => rw [h x (by simp)]
  case convert a b x => simp only [evMark, evConv, h x (by simp), hel, hs]
  case makeInterface t x => simp only [evMakeIface, h x (by simp)]
  case makeFunc fn a b => rw [evs_same fun x hx => h x (by simp [hx]), evs_same fun x hx => h x (by simp [hx])]
  case makeSlice t x y => simp only [evMakeSlice, h x (by simp), h y (by simp), hs]
  case slice t x lo hi mx =>
    have hr : ∀ n, evRange C s' n lo hi = evRange C s n lo hi := fun n => evRange_same (fun x hx => h x (by simp [hx])) (fun x hx => h x (by simp [hx]))
    have hh : ∀ y, hi = some y → s'.ev C y = s.ev C y := fun y hy => h y (by simp [hy, optOps])
    have hm : ∀ y, mx = some y → s'.ev C y = s.ev C y := fun y hy => h y (by simp [hy, optOps])
    simp only [evSlice, h x (by simp), hs, hr]
    repeat' (first
      | rfl
      | (simp only [hh _ rfl]; done)
      | (simp only [hh _ rfl, hm _ rfl]; done)
      | split)
  case fieldAddr t x f => simp only [evFieldAddr, h x (by simp)]
  case field t x f => simp only [evField, h x (by simp)]
  case indexAddr t x y => simp only [evIndexAddr, h x (by simp), h y (by simp), hs]
  case index t x y => simp only [evIndex, h x (by simp), h y (by simp)]
  case typeAssert x _ t ok => simp only [evAssert, h x (by simp)]
  case extract x i => simp only [evExtract, h x (by simp)]
  case range t x => simp only [evIter, evIterM, onMap, h x (by simp), hs]
  case makeMap t r => cases r <;> simp only [evMakeMap, hs]
  case lookup t m x ok => simp only [evLookup, onMap, h m (by simp), h x (by simp), hs]
  case mapUpdate t m x y => simp only [evMapUpdate, onMap, h m (by simp), h x (by simp), h y (by simp), hs]
  case mapEntry t m x => simp only [evMapEntry, onMap, h m (by simp), h x (by simp), hs]
  case entryStore t m b y => simp only [evEntryStore, onMap, h m (by simp), h b (by simp), h y (by simp), hs]
  case entry x => simp only [evEntry, h x (by simp), hs]
  case next x b => simp only [evNext, h x (by simp), hs]
  case call c =>
    have ht := target_same (C := C) (s := s) (s' := s') (c := c) (by simpa only [uses] using h)
    unfold evCallOp
    cases hc : c.callee with
    | value f => simp only [ht, hs]
    | invoke r m =>
      simp only [hc] at h
      simp only [h r (by simp), evs_same fun x hx => h x (List.mem_cons_of_mem _ hx), hs]
    | builtin b =>
      simp only [hc] at h
      simp only [evs_same h]
      have hb : ∀ xs, evBuiltin C s' b c.argTypes.toList xs = evBuiltin C s b c.argTypes.toList xs := fun xs => by
        unfold evBuiltin
        simp only [hs, hel, evAppend, evDelete, onMap]
      simp only [hb]
end
end Go.VG
