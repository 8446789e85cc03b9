/-
  A symbolic operation that goes on goes on with one effect; the relation between a symbolic state and an activation.
-/
import Derived.Test.YtkkfdkfopdjomaaDoorVgD
set_option linter.unusedSimpArgs false
set_option linter.unusedVariables false
namespace Go.VG
open Go

def FnP {α : Type} (t : Tr α) : Prop := ∀ K : α → Prop, t K → ∃ a, K a ∧ ∀ K' : α → Prop, K' a → t K'

section
variable {α β : Type}
theorem FnP.ret (a : α) : FnP (ret a) := fun _ h => ⟨a, h, fun _ h => h⟩
theorem FnP.fail : FnP (fail : Tr α) := fun _ h => h.elim
theorem FnP.req {A : Prop} {t : Tr α} (h : FnP t) : FnP (req A t) := fun K hk => let ⟨a, h1, h2⟩ := h K hk.2; ⟨a, h1, fun K' k => ⟨hk.1, h2 K' k⟩⟩
theorem FnP.when {b : Bool} {t : Tr α} (h : FnP t) : FnP (whenT b t) := fun K hk => by
  cases b with
  | false => exact hk.elim
  | true => exact h K hk
theorem FnP.opt {o : Option α} {f : α → Tr β} (h : ∀ a, FnP (f a)) : FnP (optT o f) := fun K hk => by
  cases o with
  | none => exact hk.elim
  | some a => exact h a K hk
theorem FnP.brn {b : Bool} {t u : Tr α} (ht : FnP t) (hu : FnP u) : FnP (brnT b t u) := fun K hk => by
  cases b with
  | false => exact hu K hk
  | true => exact ht K hk
theorem FnP.optB {o : Option α} {h : α → Tr β} {u : Tr β} (hf : ∀ a, FnP (h a)) (hu : FnP u) : FnP (optB o h u) := fun K hk => by
  cases o with
  | none => obtain ⟨a, h1, h2⟩ := hu K (hk.2 rfl); exact ⟨a, h1, fun K' k => ⟨fun _ q => (by cases q), fun _ => h2 K' k⟩⟩
  | some x => obtain ⟨a, h1, h2⟩ := hf x K (hk.1 x rfl); exact ⟨a, h1, fun K' k => ⟨fun _ q => (by cases q; exact h2 K' k), fun q => (by cases q)⟩⟩
theorem FnP.idx {l : List α} {n : Nat} {f : α → Tr β} (h : ∀ a, FnP (f a)) : FnP (idxT l n f) := by rw [idxT_eq]; exact FnP.opt h
theorem FnP.bind {t : Tr α} {f : α → Tr β} (ht : FnP t) (hf : ∀ a, FnP (f a)) : FnP (bindT t f) := fun K hk => by
  obtain ⟨a, h1, h2⟩ := ht _ hk
  obtain ⟨b, h3, h4⟩ := hf a K h1
  exact ⟨b, h3, fun K' k => h2 _ (h4 K' k)⟩
theorem FnP.ex {f : α → Tr β} (h : ∀ a, FnP (f a)) : FnP (exT f) := fun K ⟨a, hk⟩ => let ⟨b, h1, h2⟩ := h a K hk; ⟨b, h1, fun K' k => ⟨a, h2 K' k⟩⟩
theorem FnP.force {x : V} {f : V → Tr α} (h : ∀ x, FnP (f x)) : FnP (force x f) := by rw [force_eq]; exact h x
theorem FnP.forceN {x : Nat} {f : Nat → Tr α} (h : ∀ x, FnP (f x)) : FnP (forceN x f) := by rw [forceN_eq]; exact h x
theorem FnP.forceDs {x : List V} {f : List V → Tr α} (h : ∀ x, FnP (f x)) : FnP (forceDsT x f) := by rw [forceDsT_eq]; exact h x
theorem FnP.cut {a : List α} {r : Option Int × Option Int} {f : List α → Tr β} (h : ∀ x, FnP (f x)) : FnP (cutK a r f) := by rw [cutK_eq]; exact h _
theorem FnP.callT (r : Option (Prop × Ef)) : FnP (callT r) := by
  refine FnP.opt fun p => FnP.req fun K hk => ?_
  rw [forceEf_eq] at hk
  exact ⟨p.2, hk, fun K' k => by rw [forceEf_eq]; exact k⟩
end

theorem evBin_fn (C : Ctx) (op : BinOp) (t : TypeId) (x y : V) : FnP (evBin C op t x y) := by
  unfold evBin
  repeat' first
    | with_reducible exact FnP.ret _
    | with_reducible exact FnP.fail
    | with_reducible refine FnP.req ?_
    | with_reducible refine FnP.when ?_
    | (with_reducible refine FnP.opt fun _ => ?_)
    | (with_reducible refine FnP.idx fun _ => ?_)
    | (with_reducible refine FnP.forceDs fun _ => ?_)
    | split
theorem evUn_fn (op : UnOp) (x : V) : FnP (evUn op x) := by
  unfold evUn; split <;> first | with_reducible exact FnP.ret _ | with_reducible exact FnP.fail
theorem part1_fn (agg : Bool) (size : Nat) (cs : List V) (off : Nat) : FnP (part1 agg size cs off) := by
  unfold part1; split <;> exact FnP.opt fun _ => FnP.ret _
theorem elems_fn (s : AS) (x : V) : FnP (elems s x) := by
  unfold elems
  repeat' first
    | with_reducible exact FnP.ret _
    | with_reducible exact FnP.fail
    | split
theorem evAppend_fn (C : Ctx) (s : AS) (e : TypeId) (x : V) (ys : List V) (rd : List Nat) : FnP (evAppend C s e x ys rd) := by
  unfold evAppend
  repeat' first
    | with_reducible exact FnP.ret _
    | with_reducible exact FnP.fail
    | with_reducible refine FnP.req ?_
    | with_reducible refine FnP.when ?_
    | (with_reducible refine FnP.forceN fun _ => ?_)
    | split
theorem evAppendZ_fn (C : Ctx) (s : AS) (e : TypeId) (sz : Nat) (x : V) (ys : List V) (rd : List Nat) : FnP (evAppendZ C s e sz x ys rd) := by
  unfold evAppendZ
  split
  · repeat' first
      | with_reducible exact FnP.ret _
      | with_reducible refine FnP.req ?_
      | with_reducible refine FnP.when ?_
      | (with_reducible refine FnP.forceN fun _ => ?_)
  · exact evAppend_fn _ _ _ _ _ _
theorem onMap_fn {C : Ctx} {s : AS} {t : TypeId} {m : V} {F : Nat → Bool → List Sc → List (V × Int) → List Nat → Nat → Tr Ef} (h : ∀ i ag sh es bs ck, FnP (F i ag sh es bs ck)) : FnP (onMap C s t m F) := by
  unfold onMap
  refine FnP.opt fun p => ?_
  split
  · split
    · exact FnP.when (h _ _ _ _ _ _)
    · exact FnP.fail
  · exact FnP.fail
theorem evMakeMap_fn (C : Ctx) (s : AS) (t : TypeId) : FnP (evMakeMap C s t) := by
  unfold evMakeMap
  repeat' first
    | with_reducible exact FnP.ret _
    | with_reducible exact FnP.fail
    | with_reducible refine FnP.req ?_
    | with_reducible refine FnP.when ?_
    | (with_reducible refine onMap_fn fun _ _ _ _ _ _ => ?_)
    | (with_reducible refine FnP.opt fun _ => ?_)
    | (with_reducible refine FnP.optB (fun _ => ?_) ?_)
    | (with_reducible refine FnP.idx fun _ => ?_)
    | (with_reducible refine FnP.force fun _ => ?_)
    | (with_reducible refine FnP.forceN fun _ => ?_)
    | (with_reducible refine FnP.ex fun _ => ?_)
    | split
theorem evLookup_fn (C : Ctx) (s : AS) (t : TypeId) (m x : Operand) (ok : Bool) : FnP (evLookup C s t m x ok) := by
  unfold evLookup
  repeat' first
    | with_reducible exact FnP.ret _
    | with_reducible exact FnP.fail
    | with_reducible refine FnP.req ?_
    | with_reducible refine FnP.when ?_
    | (with_reducible refine onMap_fn fun _ _ _ _ _ _ => ?_)
    | (with_reducible refine FnP.opt fun _ => ?_)
    | (with_reducible refine FnP.optB (fun _ => ?_) ?_)
    | (with_reducible refine FnP.idx fun _ => ?_)
    | (with_reducible refine FnP.force fun _ => ?_)
    | (with_reducible refine FnP.forceN fun _ => ?_)
    | (with_reducible refine FnP.ex fun _ => ?_)
    | split
theorem evMapUpdate_fn (C : Ctx) (s : AS) (t : TypeId) (m x y : Operand) : FnP (evMapUpdate C s t m x y) := by
  unfold evMapUpdate
  repeat' first
    | with_reducible exact FnP.ret _
    | with_reducible exact FnP.fail
    | with_reducible refine FnP.req ?_
    | with_reducible refine FnP.when ?_
    | (with_reducible refine onMap_fn fun _ _ _ _ _ _ => ?_)
    | (with_reducible refine FnP.opt fun _ => ?_)
    | (with_reducible refine FnP.optB (fun _ => ?_) ?_)
    | (with_reducible refine FnP.idx fun _ => ?_)
    | (with_reducible refine FnP.force fun _ => ?_)
    | (with_reducible refine FnP.forceN fun _ => ?_)
    | (with_reducible refine FnP.ex fun _ => ?_)
    | split
theorem evMapEntry_fn (C : Ctx) (s : AS) (t : TypeId) (m x : Operand) : FnP (evMapEntry C s t m x) := by
  unfold evMapEntry
  repeat' first
    | with_reducible exact FnP.ret _
    | with_reducible exact FnP.fail
    | with_reducible refine FnP.req ?_
    | with_reducible refine FnP.when ?_
    | (with_reducible refine onMap_fn fun _ _ _ _ _ _ => ?_)
    | (with_reducible refine FnP.opt fun _ => ?_)
    | (with_reducible refine FnP.optB (fun _ => ?_) ?_)
    | (with_reducible refine FnP.idx fun _ => ?_)
    | (with_reducible refine FnP.force fun _ => ?_)
    | (with_reducible refine FnP.forceN fun _ => ?_)
    | (with_reducible refine FnP.ex fun _ => ?_)
    | split
theorem evEntryStore_fn (C : Ctx) (s : AS) (t : TypeId) (m b y : Operand) : FnP (evEntryStore C s t m b y) := by
  unfold evEntryStore
  repeat' first
    | with_reducible exact FnP.ret _
    | with_reducible exact FnP.fail
    | with_reducible refine FnP.req ?_
    | with_reducible refine FnP.when ?_
    | (with_reducible refine onMap_fn fun _ _ _ _ _ _ => ?_)
    | (with_reducible refine FnP.opt fun _ => ?_)
    | (with_reducible refine FnP.optB (fun _ => ?_) ?_)
    | (with_reducible refine FnP.idx fun _ => ?_)
    | (with_reducible refine FnP.force fun _ => ?_)
    | (with_reducible refine FnP.forceN fun _ => ?_)
    | (with_reducible refine FnP.ex fun _ => ?_)
    | split
theorem evDelete_fn (C : Ctx) (s : AS) (t : TypeId) (m x : V) : FnP (evDelete C s t m x) := by
  unfold evDelete
  repeat' first
    | with_reducible exact FnP.ret _
    | with_reducible exact FnP.fail
    | with_reducible refine FnP.req ?_
    | with_reducible refine FnP.when ?_
    | (with_reducible refine onMap_fn fun _ _ _ _ _ _ => ?_)
    | (with_reducible refine FnP.opt fun _ => ?_)
    | (with_reducible refine FnP.optB (fun _ => ?_) ?_)
    | (with_reducible refine FnP.idx fun _ => ?_)
    | (with_reducible refine FnP.force fun _ => ?_)
    | (with_reducible refine FnP.forceN fun _ => ?_)
    | (with_reducible refine FnP.ex fun _ => ?_)
    | split
theorem evIterM_fn (C : Ctx) (s : AS) (t : TypeId) (m : V) : FnP (evIterM C s t m) := by
  unfold evIterM
  repeat' first
    | with_reducible exact FnP.ret _
    | with_reducible exact FnP.fail
    | with_reducible refine FnP.req ?_
    | with_reducible refine FnP.when ?_
    | (with_reducible refine onMap_fn fun _ _ _ _ _ _ => ?_)
    | (with_reducible refine FnP.opt fun _ => ?_)
    | (with_reducible refine FnP.optB (fun _ => ?_) ?_)
    | (with_reducible refine FnP.idx fun _ => ?_)
    | (with_reducible refine FnP.force fun _ => ?_)
    | (with_reducible refine FnP.forceN fun _ => ?_)
    | (with_reducible refine FnP.ex fun _ => ?_)
    | split
theorem evEntry_fn (C : Ctx) (s : AS) (x : Operand) : FnP (evEntry C s x) := by
  unfold evEntry
  repeat' first
    | with_reducible exact FnP.ret _
    | with_reducible exact FnP.fail
    | with_reducible refine FnP.req ?_
    | with_reducible refine FnP.when ?_
    | (with_reducible refine onMap_fn fun _ _ _ _ _ _ => ?_)
    | (with_reducible refine FnP.opt fun _ => ?_)
    | (with_reducible refine FnP.optB (fun _ => ?_) ?_)
    | (with_reducible refine FnP.idx fun _ => ?_)
    | (with_reducible refine FnP.force fun _ => ?_)
    | (with_reducible refine FnP.forceN fun _ => ?_)
    | (with_reducible refine FnP.ex fun _ => ?_)
    | split
theorem evBuiltin_fn (C : Ctx) (s : AS) (b : Builtin) (ts : List TypeId) (args : List V) : FnP (evBuiltin C s b ts args) := by
  unfold evBuiltin
  repeat' first
    | with_reducible exact FnP.ret _
    | with_reducible exact FnP.fail
    | with_reducible exact evAppendZ_fn _ _ _ _ _ _ _
    | with_reducible exact evDelete_fn _ _ _ _ _
    | with_reducible refine FnP.req ?_
    | with_reducible refine FnP.when ?_
    | (with_reducible refine FnP.bind (elems_fn _ _) fun _ => ?_)
    | (with_reducible refine FnP.forceN fun _ => ?_)
    | split
theorem evConv_fn (C : Ctx) (s : AS) (a b : TypeId) (x : V) : FnP (evConv C s a b x) := by
  unfold evConv
  repeat' first
    | with_reducible exact FnP.ret _
    | with_reducible exact FnP.fail
    | with_reducible refine FnP.req ?_
    | with_reducible refine FnP.when ?_
    | (with_reducible refine FnP.bind (elems_fn _ _) fun _ => ?_)
    | (with_reducible refine FnP.ex fun _ => ?_)
    | split
theorem evRange_fn (C : Ctx) (s : AS) (len : Nat) (lo hi : Option Operand) : FnP (evRange C s len lo hi) := by
  unfold evRange
  repeat' first
    | with_reducible exact FnP.ret _
    | with_reducible exact FnP.fail
    | with_reducible refine FnP.req ?_
    | split

theorem evPick_fn (C : Ctx) (s : AS) (c a b : Operand) : FnP (evPick C s c a b) := by
  unfold evPick
  repeat' first
    | with_reducible exact FnP.ret _
    | with_reducible exact FnP.fail
    | with_reducible exact FnP.callT _
    | with_reducible refine FnP.req ?_
    | with_reducible refine FnP.when ?_
    | (with_reducible refine FnP.opt fun _ => ?_)
    | (with_reducible refine FnP.idx fun _ => ?_)
    | (with_reducible refine FnP.forceDs fun _ => ?_)
    | with_reducible refine FnP.brn ?_ ?_
    | (with_reducible refine FnP.force fun _ => ?_)
    | (with_reducible refine FnP.forceN fun _ => ?_)
    | (with_reducible refine FnP.cut fun _ => ?_)
    | (with_reducible refine FnP.ex fun _ => ?_)
    | (with_reducible refine FnP.bind (part1_fn _ _ _ _) fun _ => ?_)
    | (with_reducible refine FnP.bind (evRange_fn _ _ _ _ _) fun _ => ?_)
    | split
theorem evAlloc_fn (C : Ctx) (s : AS) (t : TypeId) : FnP (evAlloc C s t) := by
  unfold evAlloc
  repeat' first
    | with_reducible exact FnP.ret _
    | with_reducible exact FnP.fail
    | with_reducible exact FnP.callT _
    | with_reducible refine FnP.req ?_
    | with_reducible refine FnP.when ?_
    | (with_reducible refine FnP.opt fun _ => ?_)
    | (with_reducible refine FnP.idx fun _ => ?_)
    | (with_reducible refine FnP.forceDs fun _ => ?_)
    | with_reducible refine FnP.brn ?_ ?_
    | (with_reducible refine FnP.force fun _ => ?_)
    | (with_reducible refine FnP.forceN fun _ => ?_)
    | (with_reducible refine FnP.cut fun _ => ?_)
    | (with_reducible refine FnP.ex fun _ => ?_)
    | (with_reducible refine FnP.bind (part1_fn _ _ _ _) fun _ => ?_)
    | (with_reducible refine FnP.bind (evRange_fn _ _ _ _ _) fun _ => ?_)
    | split
theorem evAllocD_fn (C : Ctx) (s : AS) (d : Option Nat) (t : TypeId) : FnP (evAllocD C s d t) := by
  unfold evAllocD
  repeat' first
    | with_reducible exact FnP.ret _
    | with_reducible exact FnP.fail
    | exact evAlloc_fn _ _ _
    | with_reducible refine FnP.when ?_
    | (with_reducible refine FnP.force fun _ => ?_)
    | split
theorem evBuild_fn (C : Ctx) (s : AS) (t : TypeId) (parts : Array (Nat × Operand)) : FnP (evBuild C s t parts) := by
  unfold evBuild
  repeat' first
    | with_reducible exact FnP.ret _
    | with_reducible exact FnP.fail
    | with_reducible exact FnP.callT _
    | with_reducible refine FnP.req ?_
    | with_reducible refine FnP.when ?_
    | (with_reducible refine FnP.opt fun _ => ?_)
    | (with_reducible refine FnP.idx fun _ => ?_)
    | (with_reducible refine FnP.forceDs fun _ => ?_)
    | with_reducible refine FnP.brn ?_ ?_
    | (with_reducible refine FnP.force fun _ => ?_)
    | (with_reducible refine FnP.forceN fun _ => ?_)
    | (with_reducible refine FnP.cut fun _ => ?_)
    | (with_reducible refine FnP.ex fun _ => ?_)
    | (with_reducible refine FnP.bind (part1_fn _ _ _ _) fun _ => ?_)
    | (with_reducible refine FnP.bind (evRange_fn _ _ _ _ _) fun _ => ?_)
    | split
theorem evBuildSlice_fn (C : Ctx) (s : AS) (t : TypeId) (len : Nat) (parts : Array (Nat × Operand)) : FnP (evBuildSlice C s t len parts) := by
  unfold evBuildSlice
  repeat' first
    | with_reducible exact FnP.ret _
    | with_reducible exact FnP.fail
    | with_reducible exact FnP.callT _
    | with_reducible refine FnP.req ?_
    | with_reducible refine FnP.when ?_
    | (with_reducible refine FnP.opt fun _ => ?_)
    | (with_reducible refine FnP.idx fun _ => ?_)
    | (with_reducible refine FnP.forceDs fun _ => ?_)
    | with_reducible refine FnP.brn ?_ ?_
    | (with_reducible refine FnP.force fun _ => ?_)
    | (with_reducible refine FnP.forceN fun _ => ?_)
    | (with_reducible refine FnP.cut fun _ => ?_)
    | (with_reducible refine FnP.ex fun _ => ?_)
    | (with_reducible refine FnP.bind (part1_fn _ _ _ _) fun _ => ?_)
    | (with_reducible refine FnP.bind (evRange_fn _ _ _ _ _) fun _ => ?_)
    | split
theorem evLoad_fn (C : Ctx) (s : AS) (t : TypeId) (a : Operand) : FnP (evLoad C s t a) := by
  unfold evLoad
  repeat' first
    | with_reducible exact FnP.ret _
    | with_reducible exact FnP.fail
    | with_reducible exact FnP.callT _
    | with_reducible refine FnP.req ?_
    | with_reducible refine FnP.when ?_
    | (with_reducible refine FnP.opt fun _ => ?_)
    | (with_reducible refine FnP.idx fun _ => ?_)
    | (with_reducible refine FnP.forceDs fun _ => ?_)
    | with_reducible refine FnP.brn ?_ ?_
    | (with_reducible refine FnP.force fun _ => ?_)
    | (with_reducible refine FnP.forceN fun _ => ?_)
    | (with_reducible refine FnP.cut fun _ => ?_)
    | (with_reducible refine FnP.ex fun _ => ?_)
    | (with_reducible refine FnP.bind (part1_fn _ _ _ _) fun _ => ?_)
    | (with_reducible refine FnP.bind (evRange_fn _ _ _ _ _) fun _ => ?_)
    | split
theorem evStore_fn (C : Ctx) (s : AS) (t : TypeId) (a x : Operand) : FnP (evStore C s t a x) := by
  unfold evStore
  repeat' first
    | with_reducible exact FnP.ret _
    | with_reducible exact FnP.fail
    | with_reducible exact FnP.callT _
    | with_reducible refine FnP.req ?_
    | with_reducible refine FnP.when ?_
    | (with_reducible refine FnP.opt fun _ => ?_)
    | (with_reducible refine FnP.idx fun _ => ?_)
    | (with_reducible refine FnP.forceDs fun _ => ?_)
    | with_reducible refine FnP.brn ?_ ?_
    | (with_reducible refine FnP.force fun _ => ?_)
    | (with_reducible refine FnP.forceN fun _ => ?_)
    | (with_reducible refine FnP.cut fun _ => ?_)
    | (with_reducible refine FnP.ex fun _ => ?_)
    | (with_reducible refine FnP.bind (part1_fn _ _ _ _) fun _ => ?_)
    | (with_reducible refine FnP.bind (evRange_fn _ _ _ _ _) fun _ => ?_)
    | split
theorem evNilCheck_fn (C : Ctx) (s : AS) (x : Operand) : FnP (evNilCheck C s x) := by
  unfold evNilCheck
  repeat' first
    | with_reducible exact FnP.ret _
    | with_reducible exact FnP.fail
    | with_reducible exact FnP.callT _
    | with_reducible refine FnP.req ?_
    | with_reducible refine FnP.when ?_
    | (with_reducible refine FnP.opt fun _ => ?_)
    | (with_reducible refine FnP.idx fun _ => ?_)
    | (with_reducible refine FnP.forceDs fun _ => ?_)
    | with_reducible refine FnP.brn ?_ ?_
    | (with_reducible refine FnP.force fun _ => ?_)
    | (with_reducible refine FnP.forceN fun _ => ?_)
    | (with_reducible refine FnP.cut fun _ => ?_)
    | (with_reducible refine FnP.ex fun _ => ?_)
    | (with_reducible refine FnP.bind (part1_fn _ _ _ _) fun _ => ?_)
    | (with_reducible refine FnP.bind (evRange_fn _ _ _ _ _) fun _ => ?_)
    | split
theorem evMakeIface_fn (C : Ctx) (s : AS) (t : TypeId) (x : Operand) : FnP (evMakeIface C s t x) := by
  unfold evMakeIface
  repeat' first
    | with_reducible exact FnP.ret _
    | with_reducible exact FnP.fail
    | with_reducible exact FnP.callT _
    | with_reducible refine FnP.req ?_
    | with_reducible refine FnP.when ?_
    | (with_reducible refine FnP.opt fun _ => ?_)
    | (with_reducible refine FnP.idx fun _ => ?_)
    | (with_reducible refine FnP.forceDs fun _ => ?_)
    | with_reducible refine FnP.brn ?_ ?_
    | (with_reducible refine FnP.force fun _ => ?_)
    | (with_reducible refine FnP.forceN fun _ => ?_)
    | (with_reducible refine FnP.cut fun _ => ?_)
    | (with_reducible refine FnP.ex fun _ => ?_)
    | (with_reducible refine FnP.bind (part1_fn _ _ _ _) fun _ => ?_)
    | (with_reducible refine FnP.bind (evRange_fn _ _ _ _ _) fun _ => ?_)
    | split
theorem evMakeSlice_fn (C : Ctx) (s : AS) (t : TypeId) (l c : Operand) : FnP (evMakeSlice C s t l c) := by
  unfold evMakeSlice
  repeat' first
    | with_reducible exact FnP.ret _
    | with_reducible exact FnP.fail
    | with_reducible exact FnP.callT _
    | with_reducible refine FnP.req ?_
    | with_reducible refine FnP.when ?_
    | (with_reducible refine FnP.opt fun _ => ?_)
    | (with_reducible refine FnP.idx fun _ => ?_)
    | (with_reducible refine FnP.forceDs fun _ => ?_)
    | with_reducible refine FnP.brn ?_ ?_
    | (with_reducible refine FnP.force fun _ => ?_)
    | (with_reducible refine FnP.forceN fun _ => ?_)
    | (with_reducible refine FnP.cut fun _ => ?_)
    | (with_reducible refine FnP.ex fun _ => ?_)
    | (with_reducible refine FnP.bind (part1_fn _ _ _ _) fun _ => ?_)
    | (with_reducible refine FnP.bind (evRange_fn _ _ _ _ _) fun _ => ?_)
    | split
theorem evSlice_fn (C : Ctx) (s : AS) (t : TypeId) (x : Operand) (lo hi mx : Option Operand) : FnP (evSlice C s t x lo hi mx) := by
  unfold evSlice
  repeat' first
    | with_reducible exact FnP.ret _
    | with_reducible exact FnP.fail
    | with_reducible exact FnP.callT _
    | with_reducible refine FnP.req ?_
    | with_reducible refine FnP.when ?_
    | (with_reducible refine FnP.opt fun _ => ?_)
    | (with_reducible refine FnP.idx fun _ => ?_)
    | (with_reducible refine FnP.forceDs fun _ => ?_)
    | with_reducible refine FnP.brn ?_ ?_
    | (with_reducible refine FnP.force fun _ => ?_)
    | (with_reducible refine FnP.forceN fun _ => ?_)
    | (with_reducible refine FnP.cut fun _ => ?_)
    | (with_reducible refine FnP.ex fun _ => ?_)
    | (with_reducible refine FnP.bind (part1_fn _ _ _ _) fun _ => ?_)
    | (with_reducible refine FnP.bind (evRange_fn _ _ _ _ _) fun _ => ?_)
    | split
theorem evFieldAddr_fn (C : Ctx) (s : AS) (t : TypeId) (x : Operand) (f : Nat) : FnP (evFieldAddr C s t x f) := by
  unfold evFieldAddr
  repeat' first
    | with_reducible exact FnP.ret _
    | with_reducible exact FnP.fail
    | with_reducible exact FnP.callT _
    | with_reducible refine FnP.req ?_
    | with_reducible refine FnP.when ?_
    | (with_reducible refine FnP.opt fun _ => ?_)
    | (with_reducible refine FnP.idx fun _ => ?_)
    | (with_reducible refine FnP.forceDs fun _ => ?_)
    | with_reducible refine FnP.brn ?_ ?_
    | (with_reducible refine FnP.force fun _ => ?_)
    | (with_reducible refine FnP.forceN fun _ => ?_)
    | (with_reducible refine FnP.cut fun _ => ?_)
    | (with_reducible refine FnP.ex fun _ => ?_)
    | (with_reducible refine FnP.bind (part1_fn _ _ _ _) fun _ => ?_)
    | (with_reducible refine FnP.bind (evRange_fn _ _ _ _ _) fun _ => ?_)
    | split
theorem evField_fn (C : Ctx) (s : AS) (t : TypeId) (x : Operand) (f : Nat) : FnP (evField C s t x f) := by
  unfold evField
  repeat' first
    | with_reducible exact FnP.ret _
    | with_reducible exact FnP.fail
    | with_reducible exact FnP.callT _
    | with_reducible refine FnP.req ?_
    | with_reducible refine FnP.when ?_
    | (with_reducible refine FnP.opt fun _ => ?_)
    | (with_reducible refine FnP.idx fun _ => ?_)
    | (with_reducible refine FnP.forceDs fun _ => ?_)
    | with_reducible refine FnP.brn ?_ ?_
    | (with_reducible refine FnP.force fun _ => ?_)
    | (with_reducible refine FnP.forceN fun _ => ?_)
    | (with_reducible refine FnP.cut fun _ => ?_)
    | (with_reducible refine FnP.ex fun _ => ?_)
    | (with_reducible refine FnP.bind (part1_fn _ _ _ _) fun _ => ?_)
    | (with_reducible refine FnP.bind (evRange_fn _ _ _ _ _) fun _ => ?_)
    | split
theorem evIndexAddr_fn (C : Ctx) (s : AS) (t : TypeId) (x ix : Operand) : FnP (evIndexAddr C s t x ix) := by
  unfold evIndexAddr
  repeat' first
    | with_reducible exact FnP.ret _
    | with_reducible exact FnP.fail
    | with_reducible exact FnP.callT _
    | with_reducible refine FnP.req ?_
    | with_reducible refine FnP.when ?_
    | (with_reducible refine FnP.opt fun _ => ?_)
    | (with_reducible refine FnP.idx fun _ => ?_)
    | (with_reducible refine FnP.forceDs fun _ => ?_)
    | with_reducible refine FnP.brn ?_ ?_
    | (with_reducible refine FnP.force fun _ => ?_)
    | (with_reducible refine FnP.forceN fun _ => ?_)
    | (with_reducible refine FnP.cut fun _ => ?_)
    | (with_reducible refine FnP.ex fun _ => ?_)
    | (with_reducible refine FnP.bind (part1_fn _ _ _ _) fun _ => ?_)
    | (with_reducible refine FnP.bind (evRange_fn _ _ _ _ _) fun _ => ?_)
    | split
theorem evIndex_fn (C : Ctx) (s : AS) (t : TypeId) (x ix : Operand) : FnP (evIndex C s t x ix) := by
  unfold evIndex
  repeat' first
    | with_reducible exact FnP.ret _
    | with_reducible exact FnP.fail
    | with_reducible exact FnP.callT _
    | with_reducible refine FnP.req ?_
    | with_reducible refine FnP.when ?_
    | (with_reducible refine FnP.opt fun _ => ?_)
    | (with_reducible refine FnP.idx fun _ => ?_)
    | (with_reducible refine FnP.forceDs fun _ => ?_)
    | with_reducible refine FnP.brn ?_ ?_
    | (with_reducible refine FnP.force fun _ => ?_)
    | (with_reducible refine FnP.forceN fun _ => ?_)
    | (with_reducible refine FnP.cut fun _ => ?_)
    | (with_reducible refine FnP.ex fun _ => ?_)
    | (with_reducible refine FnP.bind (part1_fn _ _ _ _) fun _ => ?_)
    | (with_reducible refine FnP.bind (evRange_fn _ _ _ _ _) fun _ => ?_)
    | split
theorem evAssert_fn (C : Ctx) (s : AS) (x : Operand) (t : TypeId) (ok : Bool) : FnP (evAssert C s x t ok) := by
  unfold evAssert
  repeat' first
    | with_reducible exact FnP.ret _
    | with_reducible exact FnP.fail
    | with_reducible exact FnP.callT _
    | with_reducible refine FnP.req ?_
    | with_reducible refine FnP.when ?_
    | (with_reducible refine FnP.opt fun _ => ?_)
    | (with_reducible refine FnP.idx fun _ => ?_)
    | (with_reducible refine FnP.forceDs fun _ => ?_)
    | with_reducible refine FnP.brn ?_ ?_
    | (with_reducible refine FnP.force fun _ => ?_)
    | (with_reducible refine FnP.forceN fun _ => ?_)
    | (with_reducible refine FnP.cut fun _ => ?_)
    | (with_reducible refine FnP.ex fun _ => ?_)
    | (with_reducible refine FnP.bind (part1_fn _ _ _ _) fun _ => ?_)
    | (with_reducible refine FnP.bind (evRange_fn _ _ _ _ _) fun _ => ?_)
    | split
theorem evExtract_fn (C : Ctx) (s : AS) (x : Operand) (i : Nat) : FnP (evExtract C s x i) := by
  unfold evExtract
  repeat' first
    | with_reducible exact FnP.ret _
    | with_reducible exact FnP.fail
    | with_reducible exact FnP.callT _
    | with_reducible refine FnP.req ?_
    | with_reducible refine FnP.when ?_
    | (with_reducible refine FnP.opt fun _ => ?_)
    | (with_reducible refine FnP.idx fun _ => ?_)
    | (with_reducible refine FnP.forceDs fun _ => ?_)
    | with_reducible refine FnP.brn ?_ ?_
    | (with_reducible refine FnP.force fun _ => ?_)
    | (with_reducible refine FnP.forceN fun _ => ?_)
    | (with_reducible refine FnP.cut fun _ => ?_)
    | (with_reducible refine FnP.ex fun _ => ?_)
    | (with_reducible refine FnP.bind (part1_fn _ _ _ _) fun _ => ?_)
    | (with_reducible refine FnP.bind (evRange_fn _ _ _ _ _) fun _ => ?_)
    | split
theorem evIter_fn (C : Ctx) (s : AS) (t : TypeId) (x : Operand) : FnP (evIter C s t x) := by
  unfold evIter
  repeat' first
    | with_reducible exact FnP.ret _
    | with_reducible exact FnP.fail
    | with_reducible exact evIterM_fn _ _ _ _
    | with_reducible exact FnP.callT _
    | with_reducible refine FnP.req ?_
    | with_reducible refine FnP.when ?_
    | (with_reducible refine FnP.opt fun _ => ?_)
    | (with_reducible refine FnP.idx fun _ => ?_)
    | (with_reducible refine FnP.forceDs fun _ => ?_)
    | with_reducible refine FnP.brn ?_ ?_
    | (with_reducible refine FnP.force fun _ => ?_)
    | (with_reducible refine FnP.forceN fun _ => ?_)
    | (with_reducible refine FnP.cut fun _ => ?_)
    | (with_reducible refine FnP.ex fun _ => ?_)
    | (with_reducible refine FnP.bind (part1_fn _ _ _ _) fun _ => ?_)
    | (with_reducible refine FnP.bind (evRange_fn _ _ _ _ _) fun _ => ?_)
    | split
theorem evNext_fn (C : Ctx) (s : AS) (x : Operand) (b : Bool) : FnP (evNext C s x b) := by
  unfold evNext
  repeat' first
    | with_reducible exact FnP.ret _
    | with_reducible exact FnP.fail
    | with_reducible exact FnP.callT _
    | with_reducible refine FnP.req ?_
    | with_reducible refine FnP.when ?_
    | (with_reducible refine FnP.opt fun _ => ?_)
    | (with_reducible refine FnP.idx fun _ => ?_)
    | (with_reducible refine FnP.forceDs fun _ => ?_)
    | with_reducible refine FnP.brn ?_ ?_
    | (with_reducible refine FnP.force fun _ => ?_)
    | (with_reducible refine FnP.forceN fun _ => ?_)
    | (with_reducible refine FnP.cut fun _ => ?_)
    | (with_reducible refine FnP.ex fun _ => ?_)
    | (with_reducible refine FnP.bind (part1_fn _ _ _ _) fun _ => ?_)
    | (with_reducible refine FnP.bind (evRange_fn _ _ _ _ _) fun _ => ?_)
    | split
theorem evCallOp_fn (C : Ctx) (s : AS) (c : Call) : FnP (evCallOp C s c) := by
  unfold evCallOp
  split
  · exact FnP.forceDs fun _ => evBuiltin_fn _ _ _ _ _
  · exact FnP.opt fun _ => FnP.callT _
  · split
    · exact FnP.ex fun _ => FnP.req (FnP.callT _)
    · exact FnP.fail
theorem evBS_fn (C : Ctx) (s : AS) (dst : Option Nat) (t : TypeId) (len : Nat) (parts : Array (Nat × Operand)) : FnP (evBS C s dst t len parts) := by
  unfold evBS
  split
  · rename_i d
    cases C.lits d
    · exact evBuildSlice_fn _ _ _ _ _
    · simp only [cond_true, evLit]
      refine FnP.bind (evBuildSlice_fn _ _ _ _ _) fun e => ?_
      split
      · exact FnP.forceN fun _ => FnP.ret _
      · exact FnP.fail
  · exact evBuildSlice_fn _ _ _ _ _
theorem evMark_fn (C : Ctx) (s : AS) (a b : TypeId) (x : V) : FnP (evMark C s a b x) := by
  unfold evMark
  split
  · cases Nat.beq a b
    · exact evConv_fn _ _ _ _ _
    · simp only [cond_true]
      split
      · split
        · split
          · exact FnP.ret _
          · exact FnP.fail
        · exact FnP.fail
      · exact FnP.fail
  · exact evConv_fn _ _ _ _ _
theorem evBinN_fn (C : Ctx) (c : Bool) (op : BinOp) (t : TypeId) (u v : V) : FnP (cond c (evNil C op t) (bindT (evBin C op t u v) fun v => ret (pe v))) := by
  cases c with
  | false =>
    show FnP (bindT (evBin C op t u v) fun v => ret (pe v))
    exact FnP.bind (evBin_fn C op t u v) fun _ => FnP.ret _
  | true =>
    show FnP (evNil C op t)
    unfold evNil
    split
    · exact FnP.ret _
    · exact FnP.ret _
    · exact FnP.fail
theorem evOp_fn (C : Ctx) (s : AS) (o : Oper) : FnP (evOp C s o) := by
  unfold evOp
  split
  · exact FnP.force fun _ => FnP.ret _
  · exact FnP.force fun _ => FnP.ret _
  · exact evPick_fn _ _ _ _ _
  · exact evAllocD_fn _ _ _ _
  · exact FnP.force fun _ => FnP.forceN fun _ => FnP.when (FnP.ret _)
  · exact evBuild_fn _ _ _ _
  · exact evBS_fn _ _ _ _ _ _
  · exact evLoad_fn _ _ _ _
  · exact evStore_fn _ _ _ _ _
  · exact evNilCheck_fn _ _ _
  · exact evBinN_fn _ _ _ _ _ _
  · exact FnP.bind (evUn_fn _ _) fun _ => FnP.ret _
  · exact evMark_fn _ _ _ _ _
  · exact evMakeIface_fn _ _ _ _
  · exact FnP.forceDs fun _ => FnP.forceDs fun _ => FnP.ret _
  · exact evMakeSlice_fn _ _ _ _ _
  · exact evSlice_fn _ _ _ _ _ _ _
  · exact evFieldAddr_fn _ _ _ _ _
  · exact evField_fn _ _ _ _ _
  · exact evIndexAddr_fn _ _ _ _ _
  · exact evIndex_fn _ _ _ _ _
  · exact evAssert_fn _ _ _ _ _
  · exact evExtract_fn _ _ _ _
  · exact evIter_fn _ _ _ _
  · exact evNext_fn _ _ _ _
  · exact evMakeMap_fn _ _ _
  · exact evLookup_fn _ _ _ _ _ _
  · exact evMapUpdate_fn _ _ _ _ _ _
  · exact evMapEntry_fn _ _ _ _ _
  · exact evEntryStore_fn _ _ _ _ _ _
  · exact evEntry_fn _ _ _
  · exact evCallOp_fn _ _ _
  · exact FnP.fail

structure Rel (E : Env) (st : St) (g : Ghost) (s : AS) (a : Act) (w : World) : Prop where
  nt : a.tmps.size = s.nt
  df : a.defers = E.ds
  tm : ∀ t, VR st g (lk s.tm t) s.sg.length (a.tmps.getD t undef)
  wr : WRel E st g s.sg w

theorem wf_intIn {k : IntKind} {n : Int} (h : intIn k n = true) : k.min ≤ n ∧ n ≤ k.max := by
  unfold intIn at h
  split at h
  · cases k <;> simp only [natIn] at h <;> have h' := Nat.le_of_ble_eq_true h <;> simp [IntKind.min, IntKind.max, IntKind.signed, IntKind.bits] <;> omega
  · cases k <;> simp only [negIn] at h <;> first
      | (have h' := Nat.le_of_ble_eq_true h; simp [IntKind.min, IntKind.max, IntKind.signed, IntKind.bits]; omega)
      | cases h

theorem ofVal1_ok {st : St} {g : Ghost} {n : Nat} (v : Value) : VR st g (ofVal1 v) n v := by
  unfold ofVal1
  split
  · rename_i k m
    cases h : intIn k m with
    | true => simpa [VR] using wf_intIn h
    | false => simp [VR]
  · simp [VR]
  · rename_i s
    cases h : Nat.ble s.data.toList.length 1048576 with
    | true =>
      have := Nat.le_of_ble_eq_true h
      simp only [cond_true, VR]
      have h3 : s.data.toList.length ≤ maxLen := by unfold maxLen; omega
      simpa [VR] using h3
    | false => simp [VR]
  · simp only [VR]; exact ⟨none, 0, by simp, by simp, by simp [maxLen], by simp, .inl trivial⟩
  · simp [VR]
  · simp [VR]
  · simp [VR]
  · simp [VR]
  · simp [VR]
theorem ofVals_ok {st : St} {g : Ghost} {n : Nat} : ∀ vs : List Value, VRs st g (ofVals vs) n vs
  | [] => VRs_nil
  | v :: vs => VRs_cons (ofVal1_ok v) (ofVals_ok vs)
theorem ofVal_ok {st : St} {g : Ghost} {n : Nat} (v : Value) : VR st g (ofVal v) n v := by
  unfold ofVal
  split
  · rename_i cs
    simp only [VR]
    exact ⟨cs, rfl, ofVals_ok _⟩
  · exact ofVal1_ok v

theorem ev_ok {E : Env} {st : St} {g : Ghost} {s : AS} {a : Act} {w : World} {C : Ctx} (R : Rel E st g s a w) (hg : GlobOK C.gl st) (x : Operand) : VR st g (s.ev C x) s.sg.length (a.eval x) := by
  cases x with
  | tmp t => exact R.tm t
  | const v => exact ofVal_ok v
  | global b =>
    simp only [AS.ev, Act.eval]
    split
    · rename_i cs h
      obtain ⟨vs, h1, h2⟩ := hg b cs h g
      simp only [VR]
      exact ⟨b, 0, vs, rfl, h1, fun j hj => by rw [Nat.zero_add]; exact h2 j hj⟩
    · simp [VR]
  | func f =>
    simp only [AS.ev, Act.eval, VR]
    exact ⟨#[], #[], rfl, VRs_nil, VRs_nil⟩
theorem evs_ok {E : Env} {st : St} {g : Ghost} {s : AS} {a : Act} {w : World} {C : Ctx} (R : Rel E st g s a w) (hg : GlobOK C.gl st) : ∀ xs : List Operand, VRs st g (s.evs C xs) s.sg.length (xs.map a.eval)
  | [] => VRs_nil
  | x :: xs => VRs_cons (ev_ok R hg x) (evs_ok R hg xs)

theorem length_updSg : ∀ (up : List (Nat × O)) (sg : List O), (updSg sg up).length = sg.length
  | [], sg => rfl
  | (i, o) :: r, sg => by simp only [updSg]; rw [length_updSg r, setSg_eq]; simp
theorem length_app (s : AS) (d : Option Nat) (e : Ef) : (s.app d e).sg.length = s.sg.length + e.nw.length := by
  simp [AS.app, addSg_eq, length_updSg, killIfSg_eq]

theorem VR_after {E : Env} {st st' : St} {g g' : Ghost} {n n' : Nat} {ks : List Nat} (A : After E st g n st' g' n' ks) {x : V} {v : Value} (h : VR st g x n v) : VR st' g' (x.kill ks) n' v :=
  VR_map A.mono (fun i hi hn => ⟨Nat.lt_of_lt_of_le hn A.len, A.keep i hn (has_kill hi).1⟩) (VR_kill h)

theorem Rel.app {E : Env} {st st' : St} {g g' : Ghost} {s : AS} {a : Act} {w w' : World} {d : Option Nat} {e : Ef} {v : Value} (R : Rel E st g s a w) (hd : dstOk s d = true)
    (A : After E st g s.sg.length st' g' (s.app d e).sg.length e.ks) (W : WRel E st' g' (s.app d e).sg w') (hv : VR st' g' e.v (s.app d e).sg.length v) : Rel E st' g' (s.app d e) (a.put d v) w' where
  nt := by
    cases d with
    | none => exact R.nt
    | some d => simp [Act.put, AS.app, R.nt]
  df := by cases d <;> exact R.df
  wr := W
  tm := fun t => by
    cases d with
    | none =>
      have h1 : lk (s.app none e).tm t = (lk s.tm t).kill e.ks := by simp only [AS.app]; exact lk_killIf _ _ _
      rw [h1]
      exact VR_after A (R.tm t)
    | some d =>
      have hlt : d < s.nt := by simpa [dstOk] using hd
      have h1 : lk (s.app (some d) e).tm t = cond (Nat.beq d t) e.v ((lk s.tm t).kill e.ks) := by simp only [AS.app, lk]; rw [lk_killIf]
      rw [h1]
      by_cases hdt : d = t
      · subst hdt
        rw [show Nat.beq d d = true from Nat.beq_refl d]
        simp only [cond_true, Act.put]
        rw [show (a.tmps.setIfInBounds d v).getD d undef = v by simp [R.nt, hlt]]
        exact hv
      · rw [show Nat.beq d t = false from by cases hb : Nat.beq d t with | false => rfl | true => exact absurd (Nat.eq_of_beq_eq_true hb) hdt]
        simp only [cond_false, Act.put]
        rw [show (a.tmps.setIfInBounds d v).getD t undef = a.tmps.getD t undef by simp [hdt]]
        exact VR_after A (R.tm t)

structure Good (C : Ctx) : Prop where
  ti : ∀ t, TIok C.P t (C.ti t)
  mt : ∀ t m f, C.mt t m f → ∀ (v : Value) (w : World), (method (C.P.types.size + Made.depth) t v m).run C.P w = .ok (f, v) w
  hm : C.P.follows .mixedOrders = true

def OpOK (C : Ctx) (E : Env) (st : St) (g : Ghost) (s : AS) (a : Act) (w : World) (o : Oper) (e : Ef) : Prop :=
  ∀ (next : Act → World → Prop) (Q : Exit → Act → World → Prop), (∀ st' g' w' v, After E st g s.sg.length st' g' (s.app o.dst e).sg.length e.ks → WRel E st' g' (s.app o.dst e).sg w' →
    VR st' g' e.v (s.app o.dst e).sg.length v → next (a.put o.dst v) w') → o.wp C.P a w next Q

section
variable {C : Ctx} {E : Env} {st : St} {g : Ghost} {s : AS} {a : Act} {w : World} {o : Oper}

theorem OpOK.val {e : Ef} (v : Value) (w' : World) (st' : St) (g' : Ghost) (hr : (execOp a.eval o).run C.P w = .ok (.value v) w')
    (A : After E st g s.sg.length st' g' (s.app o.dst e).sg.length e.ks) (W : WRel E st' g' (s.app o.dst e).sg w') (hv : VR st' g' e.v (s.app o.dst e).sg.length v) : OpOK C E st g s a w o e := by
  intro next Q h
  unfold Oper.wp
  rw [hr]
  exact h st' g' w' v A W hv

theorem OpOK.skip {e : Ef} (w' : World) (st' : St) (g' : Ghost) (hr : (execOp a.eval o).run C.P w = .ok .skip w')
    (A : After E st g s.sg.length st' g' (s.app o.dst e).sg.length e.ks) (W : WRel E st' g' (s.app o.dst e).sg w') (hv : VR st' g' e.v (s.app o.dst e).sg.length undef) : OpOK C E st g s a w o e := by
  intro next Q h
  unfold Oper.wp
  rw [hr]
  exact h st' g' w' undef A W hv

theorem app_pe (s : AS) (d : Option Nat) (x : V) : (s.app d (pe x)).sg = s.sg := by simp [AS.app, pe, killIfSg, updSg, addSg]
theorem app_rd (s : AS) (d : Option Nat) (x : V) (rd : List Nat) : (s.app d ⟨x, [], [], [], rd⟩).sg = s.sg := by simp [AS.app, killIfSg, updSg, addSg]

/-- an operation that turns nothing -/
theorem OpOK.pure {x : V} {rd : List Nat} (R : Rel E st g s a w) (v : Value) (w' : World) (hr : (execOp a.eval o).run C.P w = .ok (.value v) w') (hw : SameW w w') (hv : VR st g x s.sg.length v) :
    OpOK C E st g s a w o ⟨x, [], [], [], rd⟩ := by
  refine OpOK.val v w' st g hr ⟨fun _ _ _ h => h, fun _ _ _ => rfl, ?_⟩ ?_ ?_
  · rw [app_rd]; exact Nat.le_refl _
  · rw [app_rd]; exact R.wr.same hw
  · rw [app_rd]; exact hv
end
end Go.VG
namespace Go.VG
open Go

section
variable {C : Ctx} {E : Env} {st : St} {g : Ghost} {s : AS} {a : Act} {w : World} {o : Oper} {e : Ef}

theorem app_new (s : AS) (d : Option Nat) (x : V) (rd : List Nat) (ob : O) : (s.app d ⟨x, [], [], [ob], rd⟩).sg = s.sg ++ [ob] := by simp [AS.app, killIfSg, updSg, addSg]

/-- a new object, of whatever kind -/
theorem OpOK.new {x : V} {rd : List Nat} {ob : O} (R : Rel E st g s a w) (v : Value) (w1 : World) (hw : SameW w w1) (gi : Gh) (oj : Obj)
    (hr : (execOp a.eval o).run C.P w = .ok (.value v) (w1.alloc oj)) (hb : ∀ b, gi.blk = some b → b = w1.heap.size)
    (ho : ObjR E st (upd g s.sg.length gi) (s.sg.length + 1) (w1.alloc oj) gi ob)
    (hv : VR st (upd g s.sg.length gi) x (s.sg.length + 1) v) : OpOK C E st g s a w o ⟨x, [], [], [ob], rd⟩ := by
  refine OpOK.val v _ st (upd g s.sg.length gi) hr ⟨fun _ _ _ h => h, fun i hi _ => upd_other (Nat.ne_of_lt hi), ?_⟩ ?_ ?_
  · rw [app_new]; simp
  · rw [app_new]; exact (R.wr.same hw).allocObj oj gi ob hb ho
  · rw [app_new]; simpa using hv

theorem OpOK.newCells {rd : List Nat} {cs : List V} (R : Rel E st g s a w) (vs : Array Value) (el : TypeId)
    (hr : (execOp a.eval o).run C.P w = .ok (.value (.pointer (some ⟨w.heap.size, 0, none⟩))) (w.alloc (.cells vs el))) (hc : VRs st g cs s.sg.length vs.toList) :
    OpOK C E st g s a w o ⟨.ptr s.sg.length 0, [], [], [.cells cs], rd⟩ := by
  refine OpOK.new R _ w (SameW.refl w) ⟨some w.heap.size, none, 0, 0, 0⟩ _ hr (by simp) ?_ ?_
  · refine ⟨w.heap.size, vs, el, (0, 0), rfl, R.wr.gnew _ R.wr.size, heap_alloc_new, ?_, ⟨by simp, by intro o _; simp⟩, R.wr.st_new⟩
    exact VRs_map (fun _ _ _ h => h) (fun i _ hi => ⟨by omega, upd_other (Nat.ne_of_lt hi)⟩) hc
  · simp only [VR]
    exact ⟨by omega, w.heap.size, by simp, rfl⟩

/-- whatever something goes on with has a property -/
def All {α : Type} (p : α → Prop) (t : Tr α) : Prop := ∀ e, t (fun b => b = e) → p e
section
variable {α β : Type} {p : α → Prop}
theorem All.ret {x : α} (h : p x) : All p (ret x) := by rintro _ ⟨⟩; exact h
theorem All.fail : All p fail := fun _ h => h.elim
theorem All.req {A : Prop} {t : Tr α} (h : A → All p t) : All p (req A t) := fun e he => h he.1 e he.2
theorem All.when {b : Bool} {t : Tr α} (h : b = true → All p t) : All p (whenT b t) := fun e he => by
  cases b with
  | false => exact he.elim
  | true => exact h rfl e he
theorem All.opt {x : Option β} {f : β → Tr α} (h : ∀ y, x = some y → All p (f y)) : All p (optT x f) := fun e he => by
  cases x with
  | none => exact he.elim
  | some y => exact h y rfl e he
theorem All.brn {b : Bool} {t u : Tr α} (ht : b = true → All p t) (hu : b = false → All p u) : All p (brnT b t u) := fun e he => by
  cases b with
  | false => exact hu rfl e he
  | true => exact ht rfl e he
theorem All.optB {x : Option β} {f : β → Tr α} {u : Tr α} (h : ∀ y, x = some y → All p (f y)) (hu : x = none → All p u) : All p (optB x f u) := fun e he => by
  cases hx : x with
  | none => exact hu hx e (he.2 hx)
  | some y => exact h y hx e (he.1 y hx)
theorem All.ex {f : β → Tr α} (h : ∀ y, All p (f y)) : All p (exT f) := fun e ⟨y, he⟩ => h y e he
theorem All.bind {t : Tr β} {f : β → Tr α} (ht : FnP t) (h : ∀ y, (∀ K : β → Prop, K y → t K) → All p (f y)) : All p (bindT t f) := fun e he => by
  obtain ⟨y, h1, h2⟩ := ht _ he
  exact h y h2 e h1
end
/-- whatever a symbolic operation goes on with is what the operation does -/
abbrev Snd (C : Ctx) (E : Env) (st : St) (g : Ghost) (s : AS) (a : Act) (w : World) (o : Oper) (t : Tr Ef) : Prop := All (OpOK C E st g s a w o) t

theorem s_move {x : Operand} (R : Rel E st g s a w) (hg : GlobOK C.gl st) (ho : o.op = .move x ∨ o.op = .assign x) : Snd C E st g s a w o (force (s.ev C x) fun x => ret (pe x)) := by
  rw [force_eq]
  exact All.ret (OpOK.pure R (a.eval x) w (by rcases ho with ho | ho <;> simp [execOp, ho]) (SameW.refl w) (ev_ok R hg x))

theorem s_pick {c x y : Operand} (R : Rel E st g s a w) (hg : GlobOK C.gl st) (ho : o.op = .pick c x y) : Snd C E st g s a w o (evPick C s c x y) := by
  unfold evPick
  have hc := ev_ok R hg c
  split
  · rename_i t ht
    rw [ht] at hc
    simp only [VR] at hc
    simp only [force_eq]
    have hx := ev_ok R hg x
    have hy := ev_ok R hg y
    have hr : (execOp a.eval o).run C.P w = .ok (.value (if t then a.eval x else a.eval y)) w := by simp [execOp, ho, hc, asBool]
    split
    · rename_i bx bY h1 h2
      refine All.ret (OpOK.pure R _ w hr (SameW.refl w) ?_)
      rw [h1] at hx; rw [h2] at hy
      cases t
      · simpa [VR] using hy
      · simpa [VR] using hx
    · refine All.brn (fun h => ?_) (fun h => ?_)
      · subst h; exact All.ret (OpOK.pure R _ w hr (SameW.refl w) (by simpa using hx))
      · subst h; exact All.ret (OpOK.pure R _ w hr (SameW.refl w) (by simpa using hy))
  · exact All.fail

theorem s_alloc {t : TypeId} (R : Rel E st g s a w) (G : Good C) (ho : o.op = .alloc t) : Snd C E st g s a w o (evAlloc C s t) := by
  unfold evAlloc
  split
  · exact All.fail
  · rename_i hk
    simp only [force_eq, forceN_eq]
    refine All.when fun hu => All.ret ?_
    obtain ⟨z, hz, hz'⟩ := run_zero w (G.ti t) (fun h => hk h)
    refine OpOK.newCells R z.cells t ?_ (VR_cells (hz' st g _) (by simpa using hu))
    simp [execOp, ho, Instr.alloc, hz, newVar, newRow]

theorem s_box {t : TypeId} {x : Operand} (R : Rel E st g s a w) (hg : GlobOK C.gl st) (ho : o.op = .box t x) :
    Snd C E st g s a w o (force (s.ev C x) fun x => forceN s.sg.length fun n => whenT (!x.isU) (ret ⟨.ptr n 0, [], [], [.cells x.cells], []⟩)) := by
  simp only [force_eq, forceN_eq]
  refine All.when fun hu => All.ret ?_
  refine OpOK.newCells R (a.eval x).cells t ?_ (VR_cells (ev_ok R hg x) (by simpa using hu))
  simp [execOp, ho, Instr.box, newVar, newRow]

/-! parts of cells -/
theorem part1_cases {agg : Bool} {size off : Nat} {cs : List V} {v : V} (h : ∀ K : V → Prop, K v → part1 agg size cs off K) :
    (agg = true ∧ (size = 0 ∨ off + size ≤ cs.length) ∧ v = .agg ((cs.drop off).take size)) ∨ (agg = false ∧ cs[off]? = some v) := by
  have h := h (fun x => x = v) rfl
  unfold part1 at h
  cases agg
  · cases hr : getL cs off with
    | none => simp only [optT, hr, optK] at h
    | some r =>
      simp only [optT, hr, optK] at h
      rw [getL_eq] at hr
      cases h
      exact .inr ⟨rfl, hr⟩
  · cases hr : takeL (dropL cs off) size with
    | none => simp only [optT, hr, optK] at h
    | some r =>
      simp only [optT, hr, optK] at h
      obtain ⟨h1, h2⟩ := takeL_eq hr
      rw [dropL_eq] at h1 h2
      subst h1
      cases h
      simp only [List.length_drop] at h2
      exact .inl ⟨rfl, by omega, rfl⟩

/-- a variable is read out of cells that are known -/
theorem run_loadVar {t : TypeId} {b o : Nat} {cs : List V} {vs : List Value} {v : V} {n : Nat} (G : Good C) (hk : (C.ti t).k ≠ .other) (hc : VRs st g cs n vs)
    (hw : ∀ j, j < vs.length → w.cell? ⟨b, o + j, none⟩ = vs[j]?) {off : Nat} (h : ∀ K : V → Prop, K v → part1 (C.ti t).k.isAgg (C.ti t).size cs off K) :
    ∃ u, (loadVar t ⟨b, o + off, none⟩).run C.P w = .ok u w ∧ VR st g v n u := by
  rcases part1_cases h with ⟨h1, h2, rfl⟩ | ⟨h1, h2⟩
  · have hl := VRs_length hc
    have hlen : (C.ti t).size = ((vs.drop off).take (C.ti t).size).length := by simp; omega
    refine ⟨.agg ((vs.drop off).take (C.ti t).size).toArray, ?_, ?_⟩
    · have := run_loadCells_list (P := C.P) w ⟨b, o + off, none⟩ ((vs.drop off).take (C.ti t).size) (fun j v hj => by
        rw [Addr.add_lit]
        rw [List.getElem?_take] at hj
        split at hj
        · rw [List.getElem?_drop] at hj
          have hlt : off + j < vs.length := by
            rcases Nat.lt_or_ge (off + j) vs.length with h' | h'
            · exact h'
            · simp [List.getElem?_eq_none h'] at hj
          have := hw (off + j) hlt
          rw [hj] at this
          rw [Nat.add_assoc]; exact this
        · cases hj)
      rw [← hlen] at this
      simp [loadVar, run_agg? w (G.ti t) hk, h1, run_size w (G.ti t) hk, this]
    · simp only [VR]
      exact ⟨_, rfl, by simpa using VRs_take (VRs_drop hc)⟩
  · obtain ⟨u, h3, h4⟩ := VRs_get hc h2
    have hlt : off < vs.length := by
      rcases Nat.lt_or_ge off vs.length with h' | h'
      · exact h'
      · simp [List.getElem?_eq_none h'] at h3
    refine ⟨u, ?_, h4⟩
    have := hw off hlt
    rw [h3] at this
    simp [loadVar, run_agg? w (G.ti t) hk, h1, this]

theorem run_part {t : TypeId} {cs : List V} {vs : Array Value} {v : V} {n off : Nat} (G : Good C) (hk : (C.ti t).k ≠ .other) (hc : VRs st g cs n vs.toList)
    (h : ∀ K : V → Prop, K v → part1 (C.ti t).k.isAgg (C.ti t).size cs off K) : ∃ u, (part t vs off).run C.P w = .ok u w ∧ VR st g v n u := by
  rcases part1_cases h with ⟨h1, h2, rfl⟩ | ⟨h1, h2⟩
  · refine ⟨.agg (vs.extract off (off + (C.ti t).size)), ?_, ?_⟩
    · simp [part, run_agg? w (G.ti t) hk, h1, run_size w (G.ti t) hk]
    · simp only [VR]
      refine ⟨_, rfl, ?_⟩
      rw [Array.toList_extract, List.extract_eq_take_drop]
      simpa using VRs_take (VRs_drop hc)
  · obtain ⟨u, h3, h4⟩ := VRs_get hc h2
    refine ⟨u, ?_, h4⟩
    have h3' : vs[off]? = some u := by simpa using h3
    simp [part, run_agg? w (G.ti t) hk, h1, h3']

theorem cells_look {E : Env} {sg : List O} (W : WRel E st g sg w) {i : Nat} {cs : List V} (hi : sg[i]? = some (.cells cs)) : ∃ b c el fr, (g i).blk = some b ∧ E.G b ∧ w.heap[b]? = some (.cells c el fr) ∧ VRs st g cs sg.length c.toList ∧ ffree c fr ∧ ∀ o, st b o = none :=
  W.ob i _ hi

theorem s_load {t : TypeId} {x : Operand} (R : Rel E st g s a w) (hg : GlobOK C.gl st) (G : Good C) (ho : o.op = .load t x) : Snd C E st g s a w o (evLoad C s t x) := by
  unfold evLoad
  simp only [idxT_eq]
  split
  · exact All.fail
  rename_i hk
  have hk : (C.ti t).k ≠ .other := fun h => hk h
  have hx := ev_ok R hg x
  split
  · rename_i cs off he
    rw [he] at hx
    simp only [VR] at hx
    obtain ⟨b, of, vs, h1, h2, h3⟩ := hx
    refine All.bind (part1_fn _ _ _ _) fun v hv => ?_
    rw [force_eq]
    have hcell : ∀ j, j < vs.length → w.cell? ⟨b, of + j, none⟩ = vs[j]? := fun j hj => by
      have h4 := h3 j hj
      rw [List.getElem?_eq_getElem hj] at h4 ⊢
      exact R.wr.stw _ _ _ h4
    obtain ⟨u, h5, h6⟩ := run_loadVar (w := w) (b := b) (o := of) G hk h2 hcell hv
    refine All.ret (OpOK.pure R u w ?_ (SameW.refl w) (VR_map (fun _ _ _ h => h) (fun i _ hi => absurd hi (Nat.not_lt_zero _)) h6))
    simp [execOp, ho, Instr.loadAt, h1, Instr.sureAddr, h5]
  · rename_i i off he
    rw [he] at hx
    simp only [VR] at hx
    obtain ⟨hi, b, hb, h1⟩ := hx
    split
    · rename_i cs hs
      obtain ⟨hs1, _⟩ := getSg_eq hs (by simp)
      obtain ⟨b', c, el, fr, k1, k2, k3, k4, k5, k6⟩ := cells_look R.wr hs1
      rw [hb] at k1; cases k1
      refine All.bind (part1_fn _ _ _ _) fun v hv => ?_
      rw [force_eq]
      have hcell : ∀ j, j < c.toList.length → w.cell? ⟨b, 0 + j, none⟩ = c.toList[j]? := fun j hj => by rw [cell?_of k3]; simp
      obtain ⟨u, h5, h6⟩ := run_loadVar (w := w) (b := b) (o := 0) G hk k4 hcell hv
      refine All.ret (OpOK.pure R u w ?_ (SameW.refl w) h6)
      rw [Nat.zero_add] at h5
      simp [execOp, ho, Instr.loadAt, h1, Instr.sureAddr, h5]
    · exact All.fail
  · rename_i i idx off he
    rw [he] at hx
    simp only [VR] at hx
    obtain ⟨hi, b, hb, h1⟩ := hx
    split
    · rename_i sz pre l hs
      obtain ⟨hs1, _⟩ := getSg_eq hs (by simp)
      obtain ⟨q1, q2, q3, q4, q5, q6, q7⟩ := R.wr.ob i _ hs1
      refine All.opt fun y hy => All.when fun hu => All.bind (part1_fn _ _ _ _) fun v hv => ?_
      rw [force_eq]
      rcases q7 with ⟨_, q7⟩ | ⟨b', c, el, fr, k1, k2, k3, k4, k5, k6, _⟩
      · rw [hb] at q7; cases q7
      · rw [hb] at k1; cases k1
        obtain ⟨u, r1, r2, r3, r4⟩ := VRrow_iff.1 k6 idx y hy
        have r5 := VR_cells r1 (by simpa using hu)
        have hcell : ∀ j, j < u.cells.toList.length → w.cell? ⟨b, idx * sz + j, none⟩ = u.cells.toList[j]? := fun j hj => by
          rw [cell?_of k4]
          have := r4 j (by rw [← r2]; simpa using hj)
          rw [Nat.zero_add] at this
          simpa using this
        obtain ⟨u', h5, h6⟩ := run_loadVar (w := w) (b := b) (o := idx * sz) G hk r5 hcell hv
        refine All.ret (OpOK.pure R u' w ?_ (SameW.refl w) (VR_map (fun _ _ _ h => h) (fun i _ hi => absurd hi (Nat.not_lt_zero _)) h6))
        rw [q2] at h1
        simp [execOp, ho, Instr.loadAt, h1, Instr.sureAddr, h5]
    · exact All.fail
  · exact All.fail

theorem s_nilCheck {x : Operand} (R : Rel E st g s a w) (hg : GlobOK C.gl st) (ho : o.op = .nilCheck x) : Snd C E st g s a w o (evNilCheck C s x) := by
  unfold evNilCheck
  have hx := ev_ok R hg x
  split
  all_goals first
    | exact All.fail
    | skip
  all_goals
    rename_i he
    rw [he] at hx
    have hx' := hx
    simp only [VR] at hx
  · obtain ⟨_, b, _, h1⟩ := hx
    exact All.ret (OpOK.pure R (a.eval x) w (by simp [execOp, ho, h1]) (SameW.refl w) hx')
  · obtain ⟨_, b, _, h1⟩ := hx
    exact All.ret (OpOK.pure R (a.eval x) w (by simp [execOp, ho, h1]) (SameW.refl w) hx')
  · obtain ⟨b, _, _, h1, _⟩ := hx
    exact All.ret (OpOK.pure R (a.eval x) w (by simp [execOp, ho, h1]) (SameW.refl w) hx')
  · obtain ⟨b, _, h1, _⟩ := hx
    exact All.ret (OpOK.pure R (a.eval x) w (by simp [execOp, ho, h1]) (SameW.refl w) hx')
  · obtain ⟨b, h1, _⟩ := hx
    exact All.ret (OpOK.pure R (a.eval x) w (by simp [execOp, ho, h1]) (SameW.refl w) hx')

theorem s_makeIface {t : TypeId} {x : Operand} (R : Rel E st g s a w) (hg : GlobOK C.gl st) (G : Good C) (ho : o.op = .makeInterface t x) : Snd C E st g s a w o (evMakeIface C s t x) := by
  unfold evMakeIface
  split
  · exact All.fail
  · exact All.fail
  · rename_i h1 h2
    rw [force_eq]
    refine All.when fun hu => All.ret ?_
    refine OpOK.pure R (.iface t (a.eval x)) w ?_ (SameW.refl w) (by simp only [VR]; exact ⟨_, rfl, ev_ok R hg x⟩)
    obtain ⟨h3, _⟩ := (G.ti t).of (fun h => h1 h)
    cases hk' : (C.ti t).k <;> rw [hk'] at h3 <;> simp only [TK.ok] at h3
    case struct fs => obtain ⟨f, h3, _⟩ := h3; simp [execOp, ho, Instr.makeInterface, run_underlying h3]
    case iface => exact absurd hk' (fun h => h2 h)
    case func => obtain ⟨p, q, r, h3⟩ := h3; simp [execOp, ho, Instr.makeInterface, run_underlying h3]
    all_goals simp [execOp, ho, Instr.makeInterface, run_underlying h3]

theorem s_makeFunc {fn : Fn} {xs ys : Array Operand} (R : Rel E st g s a w) (hg : GlobOK C.gl st) (ho : o.op = .makeFunc fn xs ys) :
    Snd C E st g s a w o (forceDsT (s.evs C xs.toList) fun a => forceDsT (s.evs C ys.toList) fun b => ret (pe (.func fn a b))) := by
  simp only [forceDsT_eq]
  refine All.ret (OpOK.pure R (.func fn (xs.map a.eval) (ys.map a.eval)) w (by simp [execOp, ho, Instr.makeFunc]) (SameW.refl w) ?_)
  simp only [VR]
  exact ⟨_, _, rfl, by simpa using evs_ok R hg xs.toList, by simpa using evs_ok R hg ys.toList⟩

theorem s_extract {x : Operand} {i : Nat} (R : Rel E st g s a w) (hg : GlobOK C.gl st) (ho : o.op = .extract x i) : Snd C E st g s a w o (evExtract C s x i) := by
  unfold evExtract
  have hx := ev_ok R hg x
  split
  · rename_i vs he
    rw [he] at hx
    simp only [VR] at hx
    obtain ⟨us, h1, h2⟩ := hx
    refine All.opt fun v hv => ?_
    rw [force_eq]
    rw [getL_eq] at hv
    obtain ⟨u, h3, h4⟩ := VRs_get h2 hv
    have h3' : us[i]? = some u := by simpa using h3
    exact All.ret (OpOK.pure R u w (by simp [execOp, ho, h1, Instr.extract, h3']) (SameW.refl w) h4)
  · exact All.fail

theorem getF_eq : ∀ {fs : List (Nat × TypeId)} {i : Nat} {x : Nat × TypeId}, getF fs i = some x → fs[i]? = some x
  | [], i, x, h => by simp [getF] at h
  | y :: ys, 0, x, h => by simpa [getF] using h
  | y :: ys, i + 1, x, h => by simpa [getF] using getF_eq (fs := ys) (by simpa [getF] using h)
theorem field_of {fields : Array Field} {fs : List (Nat × TypeId)} (h : fields.toList.map (fun f => (f.offset, f.type)) = fs) {i : Nat} {x : Nat × TypeId} (hx : getF fs i = some x) :
    ∃ f, fields[i]? = some f ∧ f.offset = x.1 ∧ f.type = x.2 := by
  have := getF_eq hx
  rw [← h, List.getElem?_map] at this
  cases hf : fields.toList[i]? with
  | none => rw [hf] at this; cases this
  | some f => rw [hf] at this; cases this; exact ⟨f, by simpa using hf, rfl, rfl⟩

theorem s_field {t : TypeId} {x : Operand} {f : Nat} (R : Rel E st g s a w) (hg : GlobOK C.gl st) (G : Good C) (ho : o.op = .field t x f) : Snd C E st g s a w o (evField C s t x f) := by
  unfold evField
  have hx := ev_ok R hg x
  split
  · rename_i fs cs hk he
    rw [he] at hx
    simp only [VR] at hx
    obtain ⟨us, h1, h2⟩ := hx
    obtain ⟨h3, _⟩ := (G.ti t).of (by rw [hk]; simp)
    rw [hk] at h3
    obtain ⟨fields, h3, h4, _⟩ := h3
    refine All.opt fun ft hft => ?_
    split
    · exact All.fail
    rename_i hk2
    refine All.bind (part1_fn _ _ _ _) fun v hv => ?_
    rw [force_eq]
    obtain ⟨fd, h5, h6, h7⟩ := field_of h4 hft
    obtain ⟨u, h8, h9⟩ := run_part (w := w) G (fun h => hk2 h) h2 hv
    refine All.ret (OpOK.pure R u w ?_ (SameW.refl w) h9)
    simp [execOp, ho, Instr.field, run_underlying h3, h5, h1, asAgg, h6, h7, h8]
  · exact All.fail

theorem s_fieldAddr {t : TypeId} {x : Operand} {f : Nat} (R : Rel E st g s a w) (hg : GlobOK C.gl st) (G : Good C) (ho : o.op = .fieldAddr t x f) : Snd C E st g s a w o (evFieldAddr C s t x f) := by
  unfold evFieldAddr
  have hx := ev_ok R hg x
  split
  · rename_i fs hk
    obtain ⟨h3, _⟩ := (G.ti t).of (by rw [hk]; simp)
    rw [hk] at h3
    obtain ⟨fields, h3, h4, _⟩ := h3
    refine All.opt fun ft hft => ?_
    split
    · exact All.fail
    rename_i hk2
    refine All.when fun hsz => ?_
    obtain ⟨fd, h5, h6, h7⟩ := field_of h4 hft
    have hsz' := Nat.le_of_ble_eq_true hsz
    have hs0 : ¬ (C.ti fd.type).size = 0 := by rw [h7]; omega
    have hrs := run_size w (G.ti fd.type) (by rw [h7]; exact fun h => hk2 h)
    have hr : ∀ ad : Addr, a.eval x = .pointer (some ad) → (execOp a.eval o).run C.P w = .ok (.value (.pointer (some (ad.add ft.1)))) w := fun ad had => by
      simp [execOp, ho, Instr.fieldAt, run_underlying h3, h5, had, Instr.sureAddr, fieldPlace, hrs, hs0, h6]
    split
    · rename_i i off he
      rw [he] at hx
      simp only [VR] at hx
      obtain ⟨hi, b, hb, h1⟩ := hx
      rw [forceN_eq]
      refine All.ret (OpOK.pure R _ w (hr _ h1) (SameW.refl w) ?_)
      simp only [VR]
      exact ⟨hi, b, hb, by rw [Addr.add_lit]⟩
    · rename_i i j off he
      rw [he] at hx
      simp only [VR] at hx
      obtain ⟨hi, b, hb, h1⟩ := hx
      rw [forceN_eq]
      refine All.ret (OpOK.pure R _ w (hr _ h1) (SameW.refl w) ?_)
      simp only [VR]
      exact ⟨hi, b, hb, by rw [Addr.add_lit, Nat.add_assoc]⟩
    · rename_i cs off he
      rw [he] at hx
      simp only [VR] at hx
      obtain ⟨b, of, vs, h1, h2, h8⟩ := hx
      rw [forceN_eq]
      refine All.ret (OpOK.pure R _ w (hr _ h1) (SameW.refl w) ?_)
      simp only [VR]
      exact ⟨b, of, vs, by rw [Addr.add_lit, Nat.add_assoc], h2, h8⟩
    · exact All.fail
  · exact All.fail
end
end Go.VG
