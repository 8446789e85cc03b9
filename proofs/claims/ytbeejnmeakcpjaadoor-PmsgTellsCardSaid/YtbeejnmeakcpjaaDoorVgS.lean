/-
  A quiet operation reads what it names alone.
-/
import Derived.Test.YtbeejnmeakcpjaaDoorVgR
set_option linter.unusedSimpArgs false
set_option linter.unusedVariables false
namespace Go.VG
open Go

section
variable {C : Ctx} {s s' : AS} {o : Oper} {e : Ef} {nt : Nat} {tm : List (Nat × V)} {sg sg' : List O} {kl : List Nat}

theorem loud_alloc {t : TypeId} : All (fun e => quiet e = false) (evAlloc C s t) := by
  unfold evAlloc
  split
  · exact All.fail
  · rw [force_eq, forceN_eq]; exact All.when fun _ => All.ret rfl
theorem loud_box {x : V} : All (fun e => quiet e = false) (force x fun x => forceN s.sg.length fun n => whenT (!x.isU) (ret ⟨.ptr n 0, [], [], [.cells x.cells], []⟩)) := by
  rw [force_eq, forceN_eq]; exact All.when fun _ => All.ret rfl
theorem loud_makeSlice {t : TypeId} {x y : Operand} : All (fun e => quiet e = false) (evMakeSlice C s t x y) := by
  unfold evMakeSlice
  split
  · split
    · exact All.fail
    · refine All.when fun _ => All.req fun _ => ?_
      rw [forceN_eq, forceN_eq, force_eq]
      exact All.ret rfl
  · exact All.fail
theorem loud_lit {t : TypeId} {len : Nat} {ps : Array (Nat × Operand)} : All (fun e => quiet e = false) (evLit C s t len ps) := by
  unfold evLit
  refine All.bind (evBuildSlice_fn _ _ _ _ _) fun e _ => ?_
  split
  · rw [forceN_eq]; exact All.ret rfl
  · exact All.fail
theorem optT_iff {α β : Type} {o : Option α} {f : α → Tr β} {K : β → Prop} : optT o f K ↔ ∃ a, o = some a ∧ f a K := by
  cases o with
  | none => exact ⟨fun h => h.elim, fun ⟨_, h, _⟩ => by cases h⟩
  | some a => exact ⟨fun h => ⟨a, rfl, h⟩, fun ⟨_, h, k⟩ => by cases h; exact k⟩
theorem onMap_loud {t : TypeId} {m : V} {F : Nat → Bool → List Sc → List (V × Int) → List Nat → Nat → Tr Ef} (h : ∀ i ag sh es bs ck, All (fun e => quiet e = false) (F i ag sh es bs ck)) : All (fun e => quiet e = false) (onMap C s t m F) := by
  unfold onMap
  refine All.opt fun _ _ => ?_
  split
  · split
    · exact All.when fun _ => h _ _ _ _ _ _
    · exact All.fail
  · exact All.fail
theorem loud_makeMap {t : TypeId} : All (fun e => quiet e = false) (evMakeMap C s t) := by
  unfold evMakeMap
  refine All.opt fun _ _ => ?_
  rw [forceN_eq]
  exact All.ret rfl
theorem loud_mapUpdate {t : TypeId} {m x y : Operand} : All (fun e => quiet e = false) (evMapUpdate C s t m x y) := by
  unfold evMapUpdate
  refine onMap_loud fun i ag sh es bs ck => ?_
  rw [force_eq]
  refine All.when fun _ => ?_
  split
  · exact All.optB (fun _ _ => All.ret rfl) (fun _ => All.ret rfl)
  · exact All.fail
theorem loud_mapEntry {t : TypeId} {m x : Operand} : All (fun e => quiet e = false) (evMapEntry C s t m x) := by
  unfold evMapEntry
  refine onMap_loud fun i ag sh es bs ck => ?_
  rw [force_eq]
  exact All.when fun _ => All.req fun _ => All.optB (fun _ _ => All.ret rfl) (fun _ => All.ret rfl)
theorem loud_entryStore {t : TypeId} {m x y : Operand} : All (fun e => quiet e = false) (evEntryStore C s t m x y) := by
  unfold evEntryStore
  refine onMap_loud fun i ag sh es bs ck => ?_
  split
  · exact All.ex fun _ => All.req fun _ => All.ret rfl
  · exact All.fail
theorem loud_delete {t : TypeId} {m x : V} : All (fun e => quiet e = false) (evDelete C s t m x) := by
  unfold evDelete
  refine onMap_loud fun i ag sh es bs ck => ?_
  rw [force_eq]
  exact All.when fun _ => All.optB (fun _ _ => All.ret rfl) (fun _ => All.ret rfl)
theorem loud_iterM {t : TypeId} {m : V} : All (fun e => quiet e = false) (evIterM C s t m) := by
  unfold evIterM
  refine onMap_loud fun i ag sh es bs ck => ?_
  rw [forceN_eq]
  exact All.ret rfl
theorem loud_iter {t : TypeId} {x : Operand} : All (fun e => quiet e = false) (evIter C s t x) := by
  unfold evIter
  split
  · rw [forceN_eq]; exact All.ret rfl
  · exact loud_iterM
  · exact All.fail
theorem loud_store {t : TypeId} {x y : Operand} : All (fun e => quiet e = false) (evStore C s t x y) := by
  unfold evStore
  simp only [idxT_eq]
  split
  · exact All.fail
  · rw [force_eq]
    refine All.when fun _ => ?_
    split
    · split
      · exact All.opt fun _ _ => All.ret rfl
      · exact All.fail
    · split
      · refine All.opt fun _ _ => ?_
        split
        · exact All.when fun _ => All.opt fun _ _ => All.req fun _ => All.ret rfl
        · exact All.fail
      · exact All.fail
    · exact All.fail
theorem loud_append {t : TypeId} {x : V} {ys : List V} {rd : List Nat} : All (fun e => quiet e = false) (evAppend C s t x ys rd) := by
  unfold evAppend
  split
  · refine All.when fun _ => All.req fun _ => All.req fun _ => ?_
    rw [forceN_eq, forceN_eq]; exact All.ret rfl
  · split
    · exact All.when fun _ => All.req fun _ => All.ret rfl
    · exact All.fail
  · exact All.fail

theorem elems_rd {x : V} : All (fun r => ∀ i, x = .buf i → r.2.2 = [i]) (elems s x) := by
  unfold elems
  split
  · exact All.ret fun i h => by cases h
  · exact All.ret fun i h => by cases h
  · split
    · exact All.ret fun i h => by cases h; rfl
    · exact All.fail
  · exact All.fail

theorem evOp_sg (he : evOp C ⟨nt, tm, sg, kl⟩ o (fun b => b = e)) (hq : quiet e = true) (hr : ∀ r ∈ e.rd, getSg sg' r = getSg sg r) : evOp C ⟨nt, tm, sg', kl⟩ o (fun b => b = e) := by
  obtain ⟨dst, op, type, pos, after, guard⟩ := o
  have hev : ∀ x, AS.ev C ⟨nt, tm, sg', kl⟩ x = AS.ev C ⟨nt, tm, sg, kl⟩ x := fun _ => rfl
  have hevs : ∀ l, AS.evs C ⟨nt, tm, sg', kl⟩ l = AS.evs C ⟨nt, tm, sg, kl⟩ l := fun l => evs_same fun _ _ => rfl
  have hps : ∀ l, evParts C ⟨nt, tm, sg', kl⟩ l = evParts C ⟨nt, tm, sg, kl⟩ l := fun l => evParts_same fun _ _ => rfl
  have hrg : ∀ n lo hi, evRange C ⟨nt, tm, sg', kl⟩ n lo hi = evRange C ⟨nt, tm, sg, kl⟩ n lo hi := fun n lo hi => evRange_same (fun _ _ => rfl) (fun _ _ => rfl)
  have hno : ∀ {p : Prop}, quiet e = false → p := fun h => by rw [h] at hq; cases hq
  cases op <;> simp only [evOp] at he ⊢
  case move x => exact he
  case assign x => exact he
  case pick c a b => exact he
  case alloc t => exact hno (loud_alloc e he)
  case box t x => exact hno (loud_box (s := ⟨nt, tm, sg, kl⟩) e he)
  case build t ps => simp only [evBuild, hps] at he ⊢; exact he
  case buildSlice t n ps =>
    have hb : evBuildSlice C ⟨nt, tm, sg', kl⟩ t n ps = evBuildSlice C ⟨nt, tm, sg, kl⟩ t n ps := by simp only [evBuildSlice, hps]
    cases dst with
    | none => simp only [evBS, hb] at he ⊢; exact he
    | some d =>
      simp only [evBS] at he ⊢
      cases hd : C.lits d with
      | false => rw [hd] at he; simp only [cond_false, hb] at he ⊢; exact he
      | true => rw [hd] at he; exact hno (loud_lit e he)
  case load t x =>
    unfold evLoad at he ⊢
    simp only [idxT_eq] at he ⊢
    rw [hev]
    cases hv : AS.ev C ⟨nt, tm, sg, kl⟩ x <;> rw [hv] at he <;> try exact he
    · rename_i i off
      have hi : i ∈ e.rd := by
        refine (?_ : All (fun e : Ef => i ∈ e.rd) _) e he
        split
        · exact All.fail
        · simp only
          split
          · refine All.bind (part1_fn _ _ _ _) fun v _ => ?_
            rw [force_eq]; exact All.ret (by simp)
          · exact All.fail
      simp only [hr i hi]
      exact he
    · rename_i i idx off
      have hi : i ∈ e.rd := by
        refine (?_ : All (fun e : Ef => i ∈ e.rd) _) e he
        split
        · exact All.fail
        · simp only
          split
          · refine All.opt fun _ _ => All.when fun _ => All.bind (part1_fn _ _ _ _) fun v _ => ?_
            rw [force_eq]; exact All.ret (by simp)
          · exact All.fail
      simp only [hr i hi]
      exact he
  case store t x y => exact hno (loud_store e he)
  case nilCheck x => exact he
  case binOp b t x y u => exact he
  case unOp b t x => exact he
  case convert a b x =>
    rw [hev]
    have hmk : (evConv C ⟨nt, tm, sg, kl⟩ a b (AS.ev C ⟨nt, tm, sg, kl⟩ x) (fun b => b = e) → evConv C ⟨nt, tm, sg', kl⟩ a b (AS.ev C ⟨nt, tm, sg, kl⟩ x) (fun b => b = e)) → evMark C ⟨nt, tm, sg', kl⟩ a b (AS.ev C ⟨nt, tm, sg, kl⟩ x) (fun b => b = e) := fun hk => by
      unfold evMark at he ⊢
      cases hv : AS.ev C ⟨nt, tm, sg, kl⟩ x <;> rw [hv] at he hk <;> try exact hk he
      rename_i i
      simp only at he ⊢
      cases hb : Nat.beq a b with
      | false => rw [hb] at he; exact hk he
      | true =>
        rw [hb] at he
        refine hno ((?_ : All (fun e : Ef => quiet e = false) _) e he)
        simp only [cond_true]
        split
        · split
          · split
            · exact All.ret rfl
            · exact All.fail
          · exact All.fail
        · exact All.fail
    refine hmk fun he => ?_
    have hc : ∀ v, elems ⟨nt, tm, sg', kl⟩ v = elems ⟨nt, tm, sg, kl⟩ v → evConv C ⟨nt, tm, sg', kl⟩ a b v = evConv C ⟨nt, tm, sg, kl⟩ a b v := fun v hel => by
      unfold evConv
      repeat' (first
        | rfl
        | (simp only [hel]; done)
        | split)
    generalize AS.ev C ⟨nt, tm, sg, kl⟩ x = v at he ⊢
    rw [hc v (elems_same fun i hv => ?_)]
    · exact he
    subst hv
    refine hr i ?_
    refine (?_ : All (fun e : Ef => i ∈ e.rd) _) e he
    unfold evConv
    split <;> first
      | exact All.fail
      | contradiction
      | skip
    split
    · exact All.fail
    · refine All.bind (elems_fn _ _) fun r hr' => ?_
      have := elems_rd r (hr' _ rfl) i rfl
      obtain ⟨sz, l, rd⟩ := r
      simp only at this
      subst this
      exact All.when fun _ => All.ex fun _ => All.req fun _ => All.ret (by simp)
    · exact All.fail
  case makeInterface t x => exact he
  case makeFunc fn a b => rw [hevs, hevs]; exact he
  case makeSlice t x y => exact hno (loud_makeSlice e he)
  case slice t x lo hi mx =>
    unfold evSlice at he ⊢
    rw [hev]
    simp only [hrg, hev] at he ⊢
    generalize AS.ev C ⟨nt, tm, sg, kl⟩ x = v at he ⊢
    by_cases hv : ∃ i, v = .buf i
    · obtain ⟨i, rfl⟩ := hv
      refine hno ((?_ : All (fun e : Ef => quiet e = false) _) e he)
      split <;> first
        | exact All.fail
        | contradiction
        | skip
      all_goals
        split
        · exact All.fail
        · split
          · split
            · exact All.when fun _ => All.req fun _ => All.ret rfl
            · exact All.fail
          · exact All.fail
    · by_cases hp : ∃ i a, v = .ptr i a
      · obtain ⟨i, a, rfl⟩ := hp
        refine hno ((?_ : All (fun e : Ef => quiet e = false) _) e he)
        split <;> first
          | exact All.fail
          | contradiction
          | skip
        split
        · exact All.fail
        · split
          · exact All.when fun _ => All.opt fun _ _ => All.bind (evRange_fn _ _ _ _ _) fun _ _ => by rw [cutK_eq]; exact All.ret rfl
          · exact All.fail
      cases v <;> first
        | exact absurd ⟨_, rfl⟩ hv
        | exact absurd ⟨_, _, rfl⟩ hp
        | skip
      all_goals (generalize (C.ti t).k = k at he ⊢; cases k <;> cases mx <;> exact he)
  case fieldAddr t x f => exact he
  case field t x f => exact he
  case indexAddr t x y =>
    unfold evIndexAddr at he ⊢
    simp only [idxT_eq] at he ⊢
    rw [hev, hev]
    generalize AS.ev C ⟨nt, tm, sg, kl⟩ x = v at he ⊢
    generalize AS.ev C ⟨nt, tm, sg, kl⟩ y = u at he ⊢
    by_cases hv : ∃ i, v = .buf i
    · obtain ⟨i, rfl⟩ := hv
      have hi : i ∈ e.rd := by
        refine (?_ : All (fun e : Ef => i ∈ e.rd) _) e he
        split <;> first
          | exact All.fail
          | contradiction
          | skip
        rename_i h
        cases h
        split
        · exact All.fail
        · split
          · exact All.when fun _ => All.req fun _ => All.ret (by simp)
          · exact All.fail
      generalize (C.ti t).k = k at he ⊢
      cases k <;> cases u <;> simp only [hr i hi] <;> exact he
    · cases v <;> first
        | exact absurd ⟨_, rfl⟩ hv
        | skip
      all_goals (generalize (C.ti t).k = k at he ⊢; cases k <;> cases u <;> exact he)
  case index t x y => exact he
  case typeAssert x _ t ok => exact he
  case extract x i => exact he
  case range t x => exact hno (loud_iter e he)
  case makeMap t r => cases r with
    | none => exact hno (loud_makeMap e he)
    | some r => exact he
  case mapUpdate t m x y => exact hno (loud_mapUpdate e he)
  case mapEntry t m x => exact hno (loud_mapEntry e he)
  case entryStore t m b y => exact hno (loud_entryStore e he)
  case lookup t m x ok =>
    unfold evLookup onMap at he ⊢
    rw [hev, hev]
    obtain ⟨p, hp, he⟩ := optT_iff.1 he
    refine optT_iff.2 ⟨p, hp, ?_⟩
    generalize AS.ev C ⟨nt, tm, sg, kl⟩ m = v at he ⊢
    cases v <;> try exact he
    rename_i i
    have hi : i ∈ e.rd := by
      refine (?_ : All (fun e : Ef => i ∈ e.rd) _) e he
      simp only
      split
      · rw [force_eq]
        refine All.when fun _ => All.when fun _ => ?_
        split
        · exact All.optB (fun _ _ => All.ret (by simp)) (fun _ => All.ret (by simp))
        · exact All.ret (by simp)
      · exact All.fail
    simp only [hr i hi]
    exact he
  case entry x =>
    unfold evEntry at he ⊢
    simp only [idxT_eq] at he ⊢
    rw [hev]
    generalize AS.ev C ⟨nt, tm, sg, kl⟩ x = v at he ⊢
    cases v <;> try exact he
    rename_i k off
    cases off with
    | succ off => exact he
    | zero =>
      have hk : k ∈ e.rd ∧ ∀ i bs ck left last, getSg sg k = .miter (.map i) bs ck left last → i ∈ e.rd := by
        refine (?_ : All (fun e : Ef => k ∈ e.rd ∧ ∀ i bs ck left last, getSg sg k = .miter (.map i) bs ck left last → i ∈ e.rd) _) e he
        simp only
        split
        · rename_i i bs ck left last hs
          split
          · refine All.req fun _ => All.opt fun _ _ => All.ret ⟨by simp, fun i' bs' ck' left' last' h' => ?_⟩
            rw [hs] at h'
            injection h' with h' _
            injection h' with h'
            subst h'
            simp
          · exact All.fail
        · exact All.fail
      simp only [hr k hk.1]
      have hk2 := hk.2
      simp only at he
      generalize getSg sg k = ob at he hk2 ⊢
      cases ob <;> try exact he
      rename_i m bs ck left last
      cases m <;> try exact he
      rename_i i
      simp only [hr i (hk2 i bs ck left last rfl)]
      exact he
  case next x b =>
    unfold evNext at he ⊢
    rw [hev]
    cases hv : AS.ev C ⟨nt, tm, sg, kl⟩ x <;> rw [hv] at he <;> try exact he
    rename_i i off
    cases off with
    | succ off => cases b <;> exact he
    | zero => cases b with
      | false => exact he
      | true =>
        have hi : i ∈ e.rd := by
          refine (?_ : All (fun e : Ef => i ∈ e.rd) _) e he
          simp only
          split
          · exact All.brn (fun _ => All.opt fun _ _ => All.req fun _ => All.ret (by simp)) (fun _ => All.ret (by simp))
          · exact All.fail
        simp only [hr i hi]
        exact he
  case call c =>
    unfold evCallOp at he ⊢
    have htg : target C ⟨nt, tm, sg', kl⟩ c = target C ⟨nt, tm, sg, kl⟩ c := target_same fun _ _ => rfl
    rw [htg]
    generalize hcal : c.callee = cal at he ⊢
    cases cal
    · -- a function's value
      obtain ⟨p, hp, hc⟩ : ∃ p, target C ⟨nt, tm, sg, kl⟩ c = some p ∧ callT (evCall C sg p.1 p.2) (fun b => b = e) := by
        cases ht : target C ⟨nt, tm, sg, kl⟩ c with
        | none => rw [ht] at he; exact he.elim
        | some p => rw [ht] at he; exact ⟨p, rfl, he⟩
      obtain ⟨pre, h1, h2⟩ := callT_same hc
      rw [hp]
      exact callT_of (evCall_loc h1 hq hr) h2
    · rename_i r m
      simp only at he ⊢
      rw [hev, hevs]
      generalize AS.ev C ⟨nt, tm, sg, kl⟩ r = v at he ⊢
      cases v <;> try exact he
      obtain ⟨f, hm, hc⟩ := he
      obtain ⟨pre, h1, h2⟩ := callT_same hc
      exact ⟨f, hm, callT_of (evCall_loc h1 hq hr) h2⟩
    · rename_i b
      simp only at he ⊢
      rw [hevs]
      rw [forceDsT_eq] at he ⊢
      generalize AS.evs C ⟨nt, tm, sg, kl⟩ c.args.toList = xs at he ⊢
      generalize c.argTypes.toList = ts at he ⊢
      have hbt : All (fun e' => quiet e' = true → (∀ r ∈ e'.rd, getSg sg' r = getSg sg r) → evBuiltin C ⟨nt, tm, sg', kl⟩ b ts xs (fun b => b = e')) (evBuiltin C ⟨nt, tm, sg, kl⟩ b ts xs) := by
        unfold evBuiltin
        split
        · rename_i t x
          intro e he hq hr
          generalize (C.ti t).k = k at he ⊢
          cases k <;> try exact he
          cases x <;> try exact he
          rename_i i _
          have hi : i ∈ e.rd := by
            refine (?_ : All (fun e : Ef => i ∈ e.rd) _) e he
            simp only
            split
            · exact All.ret (by simp)
            · exact All.fail
          simp only [hr i hi]
          exact he
        · rename_i t t2 x y
          refine fun e he hq _ => (?_ : ∀ {p : Prop}, quiet e = false → p) ((?_ : All (fun e : Ef => quiet e = false) _) e he)
          · intro p h; rw [h] at hq; cases hq
          split
          · exact All.fail
          · exact All.fail
          · split
            · exact All.fail
            · exact All.when fun _ => All.bind (elems_fn _ _) fun r _ => All.when fun _ => loud_append
          · exact All.fail
        · rename_i t t2 x y
          refine fun e he hq _ => (?_ : ∀ {p : Prop}, quiet e = false → p) ((?_ : All (fun e : Ef => quiet e = false) _) e he)
          · intro p h; rw [h] at hq; cases hq
          split
          · split
            · exact All.fail
            · split
              · exact All.bind (elems_fn _ _) fun r _ => All.when fun _ => All.ret rfl
              · exact All.fail
          · exact All.fail
        · exact fun e he hq _ => absurd hq (by rw [loud_delete e he]; exact Bool.false_ne_true)
        · exact fun e he _ _ => he
        · exact fun e he _ _ => he
        · exact fun e he _ _ => he
      exact hbt e he hq hr
  all_goals exact he

theorem evOp_loc (h : ∀ x ∈ uses o.op, s'.ev C x = s.ev C x) (he : evOp C s o (fun b => b = e)) (hq : quiet e = true) (hr : ∀ r ∈ e.rd, getSg s'.sg r = getSg s.sg r) : evOp C s' o (fun b => b = e) := by
  obtain ⟨nt, tm, sg, kl⟩ := s
  obtain ⟨nt', tm', sg', kl'⟩ := s'
  have h1 : evOp C ⟨nt', tm', sg, kl'⟩ o (fun b => b = e) := by
    rw [evOp_same (s' := ⟨nt', tm', sg, kl'⟩) (s := ⟨nt, tm, sg, kl⟩) (fun x hx => h x hx) rfl]
    exact he
  exact evOp_sg h1 hq hr
end
end Go.VG
