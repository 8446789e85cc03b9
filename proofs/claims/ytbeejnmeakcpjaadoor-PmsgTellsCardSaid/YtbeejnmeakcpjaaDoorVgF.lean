/-
  A symbolic operation that goes on goes on with one effect; the relation between a symbolic state and an activation.
-/
import Derived.Test.YtbeejnmeakcpjaaDoorVgE
set_option linter.unusedSimpArgs false
set_option linter.unusedVariables false
namespace Go.VG
open Go

def FnP {α : Type} (t : Tr α) : Prop := ∀ K : α → Prop, t K → ∃ a, K a ∧ ∀ K' : α → Prop, K' a → t K'

section
variable {α β : Type}
theorem FnP.ret (a : α) : FnP (ret a) := fun _ h => ⟨a, h, fun _ h => h⟩
theorem FnP.fail : FnP (fail : Tr α) := fun _ h => h.elim
theorem FnP.req {A : Prop} {t : Tr α} (h : FnP t) : FnP (req A t) := fun K hk => let ⟨a, h1, h2⟩ := h K hk.2; ⟨a, h1, fun K' k => ⟨hk.1, h2 K' k⟩⟩
theorem FnP.when {b : Bool} {t : Tr α} (h : FnP t) : FnP (whenT b t) := fun K hk => by
  cases b with
  | false => exact hk.elim
  | true => exact h K hk
theorem FnP.opt {o : Option α} {f : α → Tr β} (h : ∀ a, FnP (f a)) : FnP (optT o f) := fun K hk => by
  cases o with
  | none => exact hk.elim
  | some a => exact h a K hk
theorem FnP.brn {b : Bool} {t u : Tr α} (ht : FnP t) (hu : FnP u) : FnP (brnT b t u) := fun K hk => by
  cases b with
  | false => exact hu K hk
  | true => exact ht K hk
theorem FnP.optB {o : Option α} {h : α → Tr β} {u : Tr β} (hf : ∀ a, FnP (h a)) (hu : FnP u) : FnP (optB o h u) := fun K hk => by
  cases o with
  | none => obtain ⟨a, h1, h2⟩ := hu K (hk.2 rfl); exact ⟨a, h1, fun K' k => ⟨fun _ q => (by cases q), fun _ => h2 K' k⟩⟩
  | some x => obtain ⟨a, h1, h2⟩ := hf x K (hk.1 x rfl); exact ⟨a, h1, fun K' k => ⟨fun _ q => (by cases q; exact h2 K' k), fun q => (by cases q)⟩⟩
theorem FnP.idx {l : List α} {n : Nat} {f : α → Tr β} (h : ∀ a, FnP (f a)) : FnP (idxT l n f) := by rw [idxT_eq]; exact FnP.opt h
theorem FnP.bind {t : Tr α} {f : α → Tr β} (ht : FnP t) (hf : ∀ a, FnP (f a)) : FnP (bindT t f) := fun K hk => by
  obtain ⟨a, h1, h2⟩ := ht _ hk
  obtain ⟨b, h3, h4⟩ := hf a K h1
  exact ⟨b, h3, fun K' k => h2 _ (h4 K' k)⟩
theorem FnP.ex {f : α → Tr β} (h : ∀ a, FnP (f a)) : FnP (exT f) := fun K ⟨a, hk⟩ => let ⟨b, h1, h2⟩ := h a K hk; ⟨b, h1, fun K' k => ⟨a, h2 K' k⟩⟩
theorem FnP.force {x : V} {f : V → Tr α} (h : ∀ x, FnP (f x)) : FnP (force x f) := by rw [force_eq]; exact h x
theorem FnP.forceN {x : Nat} {f : Nat → Tr α} (h : ∀ x, FnP (f x)) : FnP (forceN x f) := by rw [forceN_eq]; exact h x
theorem FnP.forceDs {x : List V} {f : List V → Tr α} (h : ∀ x, FnP (f x)) : FnP (forceDsT x f) := by rw [forceDsT_eq]; exact h x
theorem FnP.cut {a : List α} {r : Option Int × Option Int} {f : List α → Tr β} (h : ∀ x, FnP (f x)) : FnP (cutK a r f) := by rw [cutK_eq]; exact h _
theorem FnP.callT (r : Option (Prop × Ef)) : FnP (callT r) := by
  refine FnP.opt fun p => FnP.req fun K hk => ?_
  rw [forceEf_eq] at hk
  exact ⟨p.2, hk, fun K' k => by rw [forceEf_eq]; exact k⟩
end

theorem evBin_fn (C : Ctx) (op : BinOp) (t : TypeId) (x y : V) : FnP (evBin C op t x y) := by
  unfold evBin
  repeat' first
    | with_reducible exact FnP.ret _
    | with_reducible exact FnP.fail
    | with_reducible refine FnP.req ?_
    | with_reducible refine FnP.when ?_
    | (with_reducible refine FnP.opt fun _ => ?_)
    | (with_reducible refine FnP.idx fun _ => ?_)
    | (with_reducible refine FnP.forceDs fun _ => ?_)
    | split
theorem evUn_fn (op : UnOp) (x : V) : FnP (evUn op x) := by
  unfold evUn; split <;> first | with_reducible exact FnP.ret _ | with_reducible exact FnP.fail
theorem part1_fn (agg : Bool) (size : Nat) (cs : List V) (off : Nat) : FnP (part1 agg size cs off) := by
  unfold part1; split <;> exact FnP.opt fun _ => FnP.ret _
theorem elems_fn (s : AS) (x : V) : FnP (elems s x) := by
  unfold elems
  repeat' first
    | with_reducible exact FnP.ret _
    | with_reducible exact FnP.fail
    | split
theorem evAppend_fn (C : Ctx) (s : AS) (e : TypeId) (x : V) (ys : List V) (rd : List Nat) : FnP (evAppend C s e x ys rd) := by
  unfold evAppend
  repeat' first
    | with_reducible exact FnP.ret _
    | with_reducible exact FnP.fail
    | with_reducible refine FnP.req ?_
    | with_reducible refine FnP.when ?_
    | (with_reducible refine FnP.forceN fun _ => ?_)
    | split
theorem onMap_fn {C : Ctx} {s : AS} {t : TypeId} {m : V} {F : Nat → Bool → List Sc → List (V × Int) → List Nat → Nat → Tr Ef} (h : ∀ i ag sh es bs ck, FnP (F i ag sh es bs ck)) : FnP (onMap C s t m F) := by
  unfold onMap
  refine FnP.opt fun p => ?_
  split
  · split
    · exact FnP.when (h _ _ _ _ _ _)
    · exact FnP.fail
  · exact FnP.fail
theorem evMakeMap_fn (C : Ctx) (s : AS) (t : TypeId) : FnP (evMakeMap C s t) := by
  unfold evMakeMap
  repeat' first
    | with_reducible exact FnP.ret _
    | with_reducible exact FnP.fail
    | with_reducible refine FnP.req ?_
    | with_reducible refine FnP.when ?_
    | (with_reducible refine onMap_fn fun _ _ _ _ _ _ => ?_)
    | (with_reducible refine FnP.opt fun _ => ?_)
    | (with_reducible refine FnP.optB (fun _ => ?_) ?_)
    | (with_reducible refine FnP.idx fun _ => ?_)
    | (with_reducible refine FnP.force fun _ => ?_)
    | (with_reducible refine FnP.forceN fun _ => ?_)
    | (with_reducible refine FnP.ex fun _ => ?_)
    | split
theorem evLookup_fn (C : Ctx) (s : AS) (t : TypeId) (m x : Operand) (ok : Bool) : FnP (evLookup C s t m x ok) := by
  unfold evLookup
  repeat' first
    | with_reducible exact FnP.ret _
    | with_reducible exact FnP.fail
    | with_reducible refine FnP.req ?_
    | with_reducible refine FnP.when ?_
    | (with_reducible refine onMap_fn fun _ _ _ _ _ _ => ?_)
    | (with_reducible refine FnP.opt fun _ => ?_)
    | (with_reducible refine FnP.optB (fun _ => ?_) ?_)
    | (with_reducible refine FnP.idx fun _ => ?_)
    | (with_reducible refine FnP.force fun _ => ?_)
    | (with_reducible refine FnP.forceN fun _ => ?_)
    | (with_reducible refine FnP.ex fun _ => ?_)
    | split
theorem evMapUpdate_fn (C : Ctx) (s : AS) (t : TypeId) (m x y : Operand) : FnP (evMapUpdate C s t m x y) := by
  unfold evMapUpdate
  repeat' first
    | with_reducible exact FnP.ret _
    | with_reducible exact FnP.fail
    | with_reducible refine FnP.req ?_
    | with_reducible refine FnP.when ?_
    | (with_reducible refine onMap_fn fun _ _ _ _ _ _ => ?_)
    | (with_reducible refine FnP.opt fun _ => ?_)
    | (with_reducible refine FnP.optB (fun _ => ?_) ?_)
    | (with_reducible refine FnP.idx fun _ => ?_)
    | (with_reducible refine FnP.force fun _ => ?_)
    | (with_reducible refine FnP.forceN fun _ => ?_)
    | (with_reducible refine FnP.ex fun _ => ?_)
    | split
theorem evMapEntry_fn (C : Ctx) (s : AS) (t : TypeId) (m x : Operand) : FnP (evMapEntry C s t m x) := by
  unfold evMapEntry
  repeat' first
    | with_reducible exact FnP.ret _
    | with_reducible exact FnP.fail
    | with_reducible refine FnP.req ?_
    | with_reducible refine FnP.when ?_
    | (with_reducible refine onMap_fn fun _ _ _ _ _ _ => ?_)
    | (with_reducible refine FnP.opt fun _ => ?_)
    | (with_reducible refine FnP.optB (fun _ => ?_) ?_)
    | (with_reducible refine FnP.idx fun _ => ?_)
    | (with_reducible refine FnP.force fun _ => ?_)
    | (with_reducible refine FnP.forceN fun _ => ?_)
    | (with_reducible refine FnP.ex fun _ => ?_)
    | split
theorem evEntryStore_fn (C : Ctx) (s : AS) (t : TypeId) (m b y : Operand) : FnP (evEntryStore C s t m b y) := by
  unfold evEntryStore
  repeat' first
    | with_reducible exact FnP.ret _
    | with_reducible exact FnP.fail
    | with_reducible refine FnP.req ?_
    | with_reducible refine FnP.when ?_
    | (with_reducible refine onMap_fn fun _ _ _ _ _ _ => ?_)
    | (with_reducible refine FnP.opt fun _ => ?_)
    | (with_reducible refine FnP.optB (fun _ => ?_) ?_)
    | (with_reducible refine FnP.idx fun _ => ?_)
    | (with_reducible refine FnP.force fun _ => ?_)
    | (with_reducible refine FnP.forceN fun _ => ?_)
    | (with_reducible refine FnP.ex fun _ => ?_)
    | split
theorem evDelete_fn (C : Ctx) (s : AS) (t : TypeId) (m x : V) : FnP (evDelete C s t m x) := by
  unfold evDelete
  repeat' first
    | with_reducible exact FnP.ret _
    | with_reducible exact FnP.fail
    | with_reducible refine FnP.req ?_
    | with_reducible refine FnP.when ?_
    | (with_reducible refine onMap_fn fun _ _ _ _ _ _ => ?_)
    | (with_reducible refine FnP.opt fun _ => ?_)
    | (with_reducible refine FnP.optB (fun _ => ?_) ?_)
    | (with_reducible refine FnP.idx fun _ => ?_)
    | (with_reducible refine FnP.force fun _ => ?_)
    | (with_reducible refine FnP.forceN fun _ => ?_)
    | (with_reducible refine FnP.ex fun _ => ?_)
    | split
theorem evIterM_fn (C : Ctx) (s : AS) (t : TypeId) (m : V) : FnP (evIterM C s t m) := by
  unfold evIterM
  repeat' first
    | with_reducible exact FnP.ret _
    | with_reducible exact FnP.fail
    | with_reducible refine FnP.req ?_
    | with_reducible refine FnP.when ?_
    | (with_reducible refine onMap_fn fun _ _ _ _ _ _ => ?_)
    | (with_reducible refine FnP.opt fun _ => ?_)
    | (with_reducible refine FnP.optB (fun _ => ?_) ?_)
    | (with_reducible refine FnP.idx fun _ => ?_)
    | (with_reducible refine FnP.force fun _ => ?_)
    | (with_reducible refine FnP.forceN fun _ => ?_)
    | (with_reducible refine FnP.ex fun _ => ?_)
    | split
theorem evEntry_fn (C : Ctx) (s : AS) (x : Operand) : FnP (evEntry C s x) := by
  unfold evEntry
  repeat' first
    | with_reducible exact FnP.ret _
    | with_reducible exact FnP.fail
    | with_reducible refine FnP.req ?_
    | with_reducible refine FnP.when ?_
    | (with_reducible refine onMap_fn fun _ _ _ _ _ _ => ?_)
    | (with_reducible refine FnP.opt fun _ => ?_)
    | (with_reducible refine FnP.optB (fun _ => ?_) ?_)
    | (with_reducible refine FnP.idx fun _ => ?_)
    | (with_reducible refine FnP.force fun _ => ?_)
    | (with_reducible refine FnP.forceN fun _ => ?_)
    | (with_reducible refine FnP.ex fun _ => ?_)
    | split
theorem evBuiltin_fn (C : Ctx) (s : AS) (b : Builtin) (ts : List TypeId) (args : List V) : FnP (evBuiltin C s b ts args) := by
  unfold evBuiltin
  repeat' first
    | with_reducible exact FnP.ret _
    | with_reducible exact FnP.fail
    | with_reducible exact evAppend_fn _ _ _ _ _ _
    | with_reducible exact evDelete_fn _ _ _ _ _
    | with_reducible refine FnP.req ?_
    | with_reducible refine FnP.when ?_
    | (with_reducible refine FnP.bind (elems_fn _ _) fun _ => ?_)
    | (with_reducible refine FnP.forceN fun _ => ?_)
    | split
theorem evConv_fn (C : Ctx) (s : AS) (a b : TypeId) (x : V) : FnP (evConv C s a b x) := by
  unfold evConv
  repeat' first
    | with_reducible exact FnP.ret _
    | with_reducible exact FnP.fail
    | with_reducible refine FnP.req ?_
    | with_reducible refine FnP.when ?_
    | (with_reducible refine FnP.bind (elems_fn _ _) fun _ => ?_)
    | (with_reducible refine FnP.ex fun _ => ?_)
    | split
theorem evRange_fn (C : Ctx) (s : AS) (len : Nat) (lo hi : Option Operand) : FnP (evRange C s len lo hi) := by
  unfold evRange
  repeat' first
    | with_reducible exact FnP.ret _
    | with_reducible exact FnP.fail
    | with_reducible refine FnP.req ?_
    | split

theorem evPick_fn (C : Ctx) (s : AS) (c a b : Operand) : FnP (evPick C s c a b) := by
  unfold evPick
  repeat' first
    | with_reducible exact FnP.ret _
    | with_reducible exact FnP.fail
    | with_reducible exact FnP.callT _
    | with_reducible refine FnP.req ?_
    | with_reducible refine FnP.when ?_
    | (with_reducible refine FnP.opt fun _ => ?_)
    | (with_reducible refine FnP.idx fun _ => ?_)
    | (with_reducible refine FnP.forceDs fun _ => ?_)
    | with_reducible refine FnP.brn ?_ ?_
    | (with_reducible refine FnP.force fun _ => ?_)
    | (with_reducible refine FnP.forceN fun _ => ?_)
    | (with_reducible refine FnP.cut fun _ => ?_)
    | (with_reducible refine FnP.ex fun _ => ?_)
    | (with_reducible refine FnP.bind (part1_fn _ _ _ _) fun _ => ?_)
    | (with_reducible refine FnP.bind (evRange_fn _ _ _ _ _) fun _ => ?_)
    | split
theorem evAlloc_fn (C : Ctx) (s : AS) (t : TypeId) : FnP (evAlloc C s t) := by
  unfold evAlloc
  repeat' first
    | with_reducible exact FnP.ret _
    | with_reducible exact FnP.fail
    | with_reducible exact FnP.callT _
    | with_reducible refine FnP.req ?_
    | with_reducible refine FnP.when ?_
    | (with_reducible refine FnP.opt fun _ => ?_)
    | (with_reducible refine FnP.idx fun _ => ?_)
    | (with_reducible refine FnP.forceDs fun _ => ?_)
    | with_reducible refine FnP.brn ?_ ?_
    | (with_reducible refine FnP.force fun _ => ?_)
    | (with_reducible refine FnP.forceN fun _ => ?_)
    | (with_reducible refine FnP.cut fun _ => ?_)
    | (with_reducible refine FnP.ex fun _ => ?_)
    | (with_reducible refine FnP.bind (part1_fn _ _ _ _) fun _ => ?_)
    | (with_reducible refine FnP.bind (evRange_fn _ _ _ _ _) fun _ => ?_)
    | split
theorem evBuild_fn (C : Ctx) (s : AS) (t : TypeId) (parts : Array (Nat × Operand)) : FnP (evBuild C s t parts) := by
  unfold evBuild
  repeat' first
    | with_reducible exact FnP.ret _
    | with_reducible exact FnP.fail
    | with_reducible exact FnP.callT _
    | with_reducible refine FnP.req ?_
    | with_reducible refine FnP.when ?_
    | (with_reducible refine FnP.opt fun _ => ?_)
    | (with_reducible refine FnP.idx fun _ => ?_)
    | (with_reducible refine FnP.forceDs fun _ => ?_)
    | with_reducible refine FnP.brn ?_ ?_
    | (with_reducible refine FnP.force fun _ => ?_)
    | (with_reducible refine FnP.forceN fun _ => ?_)
    | (with_reducible refine FnP.cut fun _ => ?_)
    | (with_reducible refine FnP.ex fun _ => ?_)
    | (with_reducible refine FnP.bind (part1_fn _ _ _ _) fun _ => ?_)
    | (with_reducible refine FnP.bind (evRange_fn _ _ _ _ _) fun _ => ?_)
    | split
theorem evBuildSlice_fn (C : Ctx) (s : AS) (t : TypeId) (len : Nat) (parts : Array (Nat × Operand)) : FnP (evBuildSlice C s t len parts) := by
  unfold evBuildSlice
  repeat' first
    | with_reducible exact FnP.ret _
    | with_reducible exact FnP.fail
    | with_reducible exact FnP.callT _
    | with_reducible refine FnP.req ?_
    | with_reducible refine FnP.when ?_
    | (with_reducible refine FnP.opt fun _ => ?_)
    | (with_reducible refine FnP.idx fun _ => ?_)
    | (with_reducible refine FnP.forceDs fun _ => ?_)
    | with_reducible refine FnP.brn ?_ ?_
    | (with_reducible refine FnP.force fun _ => ?_)
    | (with_reducible refine FnP.forceN fun _ => ?_)
    | (with_reducible refine FnP.cut fun _ => ?_)
    | (with_reducible refine FnP.ex fun _ => ?_)
    | (with_reducible refine FnP.bind (part1_fn _ _ _ _) fun _ => ?_)
    | (with_reducible refine FnP.bind (evRange_fn _ _ _ _ _) fun _ => ?_)
    | split
theorem evLoad_fn (C : Ctx) (s : AS) (t : TypeId) (a : Operand) : FnP (evLoad C s t a) := by
  unfold evLoad
  repeat' first
    | with_reducible exact FnP.ret _
    | with_reducible exact FnP.fail
    | with_reducible exact FnP.callT _
    | with_reducible refine FnP.req ?_
    | with_reducible refine FnP.when ?_
    | (with_reducible refine FnP.opt fun _ => ?_)
    | (with_reducible refine FnP.idx fun _ => ?_)
    | (with_reducible refine FnP.forceDs fun _ => ?_)
    | with_reducible refine FnP.brn ?_ ?_
    | (with_reducible refine FnP.force fun _ => ?_)
    | (with_reducible refine FnP.forceN fun _ => ?_)
    | (with_reducible refine FnP.cut fun _ => ?_)
    | (with_reducible refine FnP.ex fun _ => ?_)
    | (with_reducible refine FnP.bind (part1_fn _ _ _ _) fun _ => ?_)
    | (with_reducible refine FnP.bind (evRange_fn _ _ _ _ _) fun _ => ?_)
    | split
theorem evStore_fn (C : Ctx) (s : AS) (t : TypeId) (a x : Operand) : FnP (evStore C s t a x) := by
  unfold evStore
  repeat' first
    | with_reducible exact FnP.ret _
    | with_reducible exact FnP.fail
    | with_reducible exact FnP.callT _
    | with_reducible refine FnP.req ?_
    | with_reducible refine FnP.when ?_
    | (with_reducible refine FnP.opt fun _ => ?_)
    | (with_reducible refine FnP.idx fun _ => ?_)
    | (with_reducible refine FnP.forceDs fun _ => ?_)
    | with_reducible refine FnP.brn ?_ ?_
    | (with_reducible refine FnP.force fun _ => ?_)
    | (with_reducible refine FnP.forceN fun _ => ?_)
    | (with_reducible refine FnP.cut fun _ => ?_)
    | (with_reducible refine FnP.ex fun _ => ?_)
    | (with_reducible refine FnP.bind (part1_fn _ _ _ _) fun _ => ?_)
    | (with_reducible refine FnP.bind (evRange_fn _ _ _ _ _) fun _ => ?_)
    | split
theorem evNilCheck_fn (C : Ctx) (s : AS) (x : Operand) : FnP (evNilCheck C s x) := by
  unfold evNilCheck
  repeat' first
    | with_reducible exact FnP.ret _
    | with_reducible exact FnP.fail
    | with_reducible exact FnP.callT _
    | with_reducible refine FnP.req ?_
    | with_reducible refine FnP.when ?_
    | (with_reducible refine FnP.opt fun _ => ?_)
    | (with_reducible refine FnP.idx fun _ => ?_)
    | (with_reducible refine FnP.forceDs fun _ => ?_)
    | with_reducible refine FnP.brn ?_ ?_
    | (with_reducible refine FnP.force fun _ => ?_)
    | (with_reducible refine FnP.forceN fun _ => ?_)
    | (with_reducible refine FnP.cut fun _ => ?_)
    | (with_reducible refine FnP.ex fun _ => ?_)
    | (with_reducible refine FnP.bind (part1_fn _ _ _ _) fun _ => ?_)
    | (with_reducible refine FnP.bind (evRange_fn _ _ _ _ _) fun _ => ?_)
    | split
theorem evMakeIface_fn (C : Ctx) (s : AS) (t : TypeId) (x : Operand) : FnP (evMakeIface C s t x) := by
  unfold evMakeIface
  repeat' first
    | with_reducible exact FnP.ret _
    | with_reducible exact FnP.fail
    | with_reducible exact FnP.callT _
    | with_reducible refine FnP.req ?_
    | with_reducible refine FnP.when ?_
    | (with_reducible refine FnP.opt fun _ => ?_)
    | (with_reducible refine FnP.idx fun _ => ?_)
    | (with_reducible refine FnP.forceDs fun _ => ?_)
    | with_reducible refine FnP.brn ?_ ?_
    | (with_reducible refine FnP.force fun _ => ?_)
    | (with_reducible refine FnP.forceN fun _ => ?_)
    | (with_reducible refine FnP.cut fun _ => ?_)
    | (with_reducible refine FnP.ex fun _ => ?_)
    | (with_reducible refine FnP.bind (part1_fn _ _ _ _) fun _ => ?_)
    | (with_reducible refine FnP.bind (evRange_fn _ _ _ _ _) fun _ => ?_)
    | split
theorem evMakeSlice_fn (C : Ctx) (s : AS) (t : TypeId) (l c : Operand) : FnP (evMakeSlice C s t l c) := by
  unfold evMakeSlice
  repeat' first
    | with_reducible exact FnP.ret _
    | with_reducible exact FnP.fail
    | with_reducible exact FnP.callT _
    | with_reducible refine FnP.req ?_
    | with_reducible refine FnP.when ?_
    | (with_reducible refine FnP.opt fun _ => ?_)
    | (with_reducible refine FnP.idx fun _ => ?_)
    | (with_reducible refine FnP.forceDs fun _ => ?_)
    | with_reducible refine FnP.brn ?_ ?_
    | (with_reducible refine FnP.force fun _ => ?_)
    | (with_reducible refine FnP.forceN fun _ => ?_)
    | (with_reducible refine FnP.cut fun _ => ?_)
    | (with_reducible refine FnP.ex fun _ => ?_)
    | (with_reducible refine FnP.bind (part1_fn _ _ _ _) fun _ => ?_)
    | (with_reducible refine FnP.bind (evRange_fn _ _ _ _ _) fun _ => ?_)
    | split
theorem evSlice_fn (C : Ctx) (s : AS) (t : TypeId) (x : Operand) (lo hi mx : Option Operand) : FnP (evSlice C s t x lo hi mx) := by
  unfold evSlice
  repeat' first
    | with_reducible exact FnP.ret _
    | with_reducible exact FnP.fail
    | with_reducible exact FnP.callT _
    | with_reducible refine FnP.req ?_
    | with_reducible refine FnP.when ?_
    | (with_reducible refine FnP.opt fun _ => ?_)
    | (with_reducible refine FnP.idx fun _ => ?_)
    | (with_reducible refine FnP.forceDs fun _ => ?_)
    | with_reducible refine FnP.brn ?_ ?_
    | (with_reducible refine FnP.force fun _ => ?_)
    | (with_reducible refine FnP.forceN fun _ => ?_)
    | (with_reducible refine FnP.cut fun _ => ?_)
    | (with_reducible refine FnP.ex fun _ => ?_)
    | (with_reducible refine FnP.bind (part1_fn _ _ _ _) fun _ => ?_)
    | (with_reducible refine FnP.bind (evRange_fn _ _ _ _ _) fun _ => ?_)
    | split
theorem evFieldAddr_fn (C : Ctx) (s : AS) (t : TypeId) (x : Operand) (f : Nat) : FnP (evFieldAddr C s t x f) := by
  unfold evFieldAddr
  repeat' first
    | with_reducible exact FnP.ret _
    | with_reducible exact FnP.fail
    | with_reducible exact FnP.callT _
    | with_reducible refine FnP.req ?_
    | with_reducible refine FnP.when ?_
    | (with_reducible refine FnP.opt fun _ => ?_)
    | (with_reducible refine FnP.idx fun _ => ?_)
    | (with_reducible refine FnP.forceDs fun _ => ?_)
    | with_reducible refine FnP.brn ?_ ?_
    | (with_reducible refine FnP.force fun _ => ?_)
    | (with_reducible refine FnP.forceN fun _ => ?_)
    | (with_reducible refine FnP.cut fun _ => ?_)
    | (with_reducible refine FnP.ex fun _ => ?_)
    | (with_reducible refine FnP.bind (part1_fn _ _ _ _) fun _ => ?_)
    | (with_reducible refine FnP.bind (evRange_fn _ _ _ _ _) fun _ => ?_)
    | split
theorem evField_fn (C : Ctx) (s : AS) (t : TypeId) (x : Operand) (f : Nat) : FnP (evField C s t x f) := by
  unfold evField
  repeat' first
    | with_reducible exact FnP.ret _
    | with_reducible exact FnP.fail
    | with_reducible exact FnP.callT _
    | with_reducible refine FnP.req ?_
    | with_reducible refine FnP.when ?_
    | (with_reducible refine FnP.opt fun _ => ?_)
    | (with_reducible refine FnP.idx fun _ => ?_)
    | (with_reducible refine FnP.forceDs fun _ => ?_)
    | with_reducible refine FnP.brn ?_ ?_
    | (with_reducible refine FnP.force fun _ => ?_)
    | (with_reducible refine FnP.forceN fun _ => ?_)
    | (with_reducible refine FnP.cut fun _ => ?_)
    | (with_reducible refine FnP.ex fun _ => ?_)
    | (with_reducible refine FnP.bind (part1_fn _ _ _ _) fun _ => ?_)
    | (with_reducible refine FnP.bind (evRange_fn _ _ _ _ _) fun _ => ?_)
    | split
theorem evIndexAddr_fn (C : Ctx) (s : AS) (t : TypeId) (x ix : Operand) : FnP (evIndexAddr C s t x ix) := by
  unfold evIndexAddr
  repeat' first
    | with_reducible exact FnP.ret _
    | with_reducible exact FnP.fail
    | with_reducible exact FnP.callT _
    | with_reducible refine FnP.req ?_
    | with_reducible refine FnP.when ?_
    | (with_reducible refine FnP.opt fun _ => ?_)
    | (with_reducible refine FnP.idx fun _ => ?_)
    | (with_reducible refine FnP.forceDs fun _ => ?_)
    | with_reducible refine FnP.brn ?_ ?_
    | (with_reducible refine FnP.force fun _ => ?_)
    | (with_reducible refine FnP.forceN fun _ => ?_)
    | (with_reducible refine FnP.cut fun _ => ?_)
    | (with_reducible refine FnP.ex fun _ => ?_)
    | (with_reducible refine FnP.bind (part1_fn _ _ _ _) fun _ => ?_)
    | (with_reducible refine FnP.bind (evRange_fn _ _ _ _ _) fun _ => ?_)
    | split
theorem evIndex_fn (C : Ctx) (s : AS) (t : TypeId) (x ix : Operand) : FnP (evIndex C s t x ix) := by
  unfold evIndex
  repeat' first
    | with_reducible exact FnP.ret _
    | with_reducible exact FnP.fail
    | with_reducible exact FnP.callT _
    | with_reducible refine FnP.req ?_
    | with_reducible refine FnP.when ?_
    | (with_reducible refine FnP.opt fun _ => ?_)
    | (with_reducible refine FnP.idx fun _ => ?_)
    | (with_reducible refine FnP.forceDs fun _ => ?_)
    | with_reducible refine FnP.brn ?_ ?_
    | (with_reducible refine FnP.force fun _ => ?_)
    | (with_reducible refine FnP.forceN fun _ => ?_)
    | (with_reducible refine FnP.cut fun _ => ?_)
    | (with_reducible refine FnP.ex fun _ => ?_)
    | (with_reducible refine FnP.bind (part1_fn _ _ _ _) fun _ => ?_)
    | (with_reducible refine FnP.bind (evRange_fn _ _ _ _ _) fun _ => ?_)
    | split
theorem evAssert_fn (C : Ctx) (s : AS) (x : Operand) (t : TypeId) (ok : Bool) : FnP (evAssert C s x t ok) := by
  unfold evAssert
  repeat' first
    | with_reducible exact FnP.ret _
    | with_reducible exact FnP.fail
    | with_reducible exact FnP.callT _
    | with_reducible refine FnP.req ?_
    | with_reducible refine FnP.when ?_
    | (with_reducible refine FnP.opt fun _ => ?_)
    | (with_reducible refine FnP.idx fun _ => ?_)
    | (with_reducible refine FnP.forceDs fun _ => ?_)
    | with_reducible refine FnP.brn ?_ ?_
    | (with_reducible refine FnP.force fun _ => ?_)
    | (with_reducible refine FnP.forceN fun _ => ?_)
    | (with_reducible refine FnP.cut fun _ => ?_)
    | (with_reducible refine FnP.ex fun _ => ?_)
    | (with_reducible refine FnP.bind (part1_fn _ _ _ _) fun _ => ?_)
    | (with_reducible refine FnP.bind (evRange_fn _ _ _ _ _) fun _ => ?_)
    | split
theorem evExtract_fn (C : Ctx) (s : AS) (x : Operand) (i : Nat) : FnP (evExtract C s x i) := by
  unfold evExtract
  repeat' first
    | with_reducible exact FnP.ret _
    | with_reducible exact FnP.fail
    | with_reducible exact FnP.callT _
    | with_reducible refine FnP.req ?_
    | with_reducible refine FnP.when ?_
    | (with_reducible refine FnP.opt fun _ => ?_)
    | (with_reducible refine FnP.idx fun _ => ?_)
    | (with_reducible refine FnP.forceDs fun _ => ?_)
    | with_reducible refine FnP.brn ?_ ?_
    | (with_reducible refine FnP.force fun _ => ?_)
    | (with_reducible refine FnP.forceN fun _ => ?_)
    | (with_reducible refine FnP.cut fun _ => ?_)
    | (with_reducible refine FnP.ex fun _ => ?_)
    | (with_reducible refine FnP.bind (part1_fn _ _ _ _) fun _ => ?_)
    | (with_reducible refine FnP.bind (evRange_fn _ _ _ _ _) fun _ => ?_)
    | split
theorem evIter_fn (C : Ctx) (s : AS) (t : TypeId) (x : Operand) : FnP (evIter C s t x) := by
  unfold evIter
  repeat' first
    | with_reducible exact FnP.ret _
    | with_reducible exact FnP.fail
    | with_reducible exact evIterM_fn _ _ _ _
    | with_reducible exact FnP.callT _
    | with_reducible refine FnP.req ?_
    | with_reducible refine FnP.when ?_
    | (with_reducible refine FnP.opt fun _ => ?_)
    | (with_reducible refine FnP.idx fun _ => ?_)
    | (with_reducible refine FnP.forceDs fun _ => ?_)
    | with_reducible refine FnP.brn ?_ ?_
    | (with_reducible refine FnP.force fun _ => ?_)
    | (with_reducible refine FnP.forceN fun _ => ?_)
    | (with_reducible refine FnP.cut fun _ => ?_)
    | (with_reducible refine FnP.ex fun _ => ?_)
    | (with_reducible refine FnP.bind (part1_fn _ _ _ _) fun _ => ?_)
    | (with_reducible refine FnP.bind (evRange_fn _ _ _ _ _) fun _ => ?_)
    | split
theorem evNext_fn (C : Ctx) (s : AS) (x : Operand) (b : Bool) : FnP (evNext C s x b) := by
  unfold evNext
  repeat' first
    | with_reducible exact FnP.ret _
    | with_reducible exact FnP.fail
    | with_reducible exact FnP.callT _
    | with_reducible refine FnP.req ?_
    | with_reducible refine FnP.when ?_
    | (with_reducible refine FnP.opt fun _ => ?_)
    | (with_reducible refine FnP.idx fun _ => ?_)
    | (with_reducible refine FnP.forceDs fun _ => ?_)
    | with_reducible refine FnP.brn ?_ ?_
    | (with_reducible refine FnP.force fun _ => ?_)
    | (with_reducible refine FnP.forceN fun _ => ?_)
    | (with_reducible refine FnP.cut fun _ => ?_)
    | (with_reducible refine FnP.ex fun _ => ?_)
    | (with_reducible refine FnP.bind (part1_fn _ _ _ _) fun _ => ?_)
    | (with_reducible refine FnP.bind (evRange_fn _ _ _ _ _) fun _ => ?_)
    | split
theorem evCallOp_fn (C : Ctx) (s : AS) (c : Call) : FnP (evCallOp C s c) := by
  unfold evCallOp
  split
  · exact FnP.forceDs fun _ => evBuiltin_fn _ _ _ _ _
  · exact FnP.opt fun _ => FnP.callT _
  · split
    · exact FnP.ex fun _ => FnP.req (FnP.callT _)
    · exact FnP.fail
theorem evBS_fn (C : Ctx) (s : AS) (dst : Option Nat) (t : TypeId) (len : Nat) (parts : Array (Nat × Operand)) : FnP (evBS C s dst t len parts) := by
  unfold evBS
  split
  · rename_i d
    cases C.lits d
    · exact evBuildSlice_fn _ _ _ _ _
    · simp only [cond_true, evLit]
      refine FnP.bind (evBuildSlice_fn _ _ _ _ _) fun e => ?_
      split
      · exact FnP.forceN fun _ => FnP.ret _
      · exact FnP.fail
  · exact evBuildSlice_fn _ _ _ _ _
theorem evMark_fn (C : Ctx) (s : AS) (a b : TypeId) (x : V) : FnP (evMark C s a b x) := by
  unfold evMark
  split
  · cases Nat.beq a b
    · exact evConv_fn _ _ _ _ _
    · simp only [cond_true]
      split
      · split
        · split
          · exact FnP.ret _
          · exact FnP.fail
        · exact FnP.fail
      · exact FnP.fail
  · exact evConv_fn _ _ _ _ _
theorem evOp_fn (C : Ctx) (s : AS) (o : Oper) : FnP (evOp C s o) := by
  unfold evOp
  split
  · exact FnP.force fun _ => FnP.ret _
  · exact FnP.force fun _ => FnP.ret _
  · exact evPick_fn _ _ _ _ _
  · exact evAlloc_fn _ _ _
  · exact FnP.force fun _ => FnP.forceN fun _ => FnP.when (FnP.ret _)
  · exact evBuild_fn _ _ _ _
  · exact evBS_fn _ _ _ _ _ _
  · exact evLoad_fn _ _ _ _
  · exact evStore_fn _ _ _ _ _
  · exact evNilCheck_fn _ _ _
  · exact FnP.bind (evBin_fn _ _ _ _ _) fun _ => FnP.ret _
  · exact FnP.bind (evUn_fn _ _) fun _ => FnP.ret _
  · exact evMark_fn _ _ _ _ _
  · exact evMakeIface_fn _ _ _ _
  · exact FnP.forceDs fun _ => FnP.forceDs fun _ => FnP.ret _
  · exact evMakeSlice_fn _ _ _ _ _
  · exact evSlice_fn _ _ _ _ _ _ _
  · exact evFieldAddr_fn _ _ _ _ _
  · exact evField_fn _ _ _ _ _
  · exact evIndexAddr_fn _ _ _ _ _
  · exact evIndex_fn _ _ _ _ _
  · exact evAssert_fn _ _ _ _ _
  · exact evExtract_fn _ _ _ _
  · exact evIter_fn _ _ _ _
  · exact evNext_fn _ _ _ _
  · exact evMakeMap_fn _ _ _
  · exact evLookup_fn _ _ _ _ _ _
  · exact evMapUpdate_fn _ _ _ _ _ _
  · exact evMapEntry_fn _ _ _ _ _
  · exact evEntryStore_fn _ _ _ _ _ _
  · exact evEntry_fn _ _ _
  · exact evCallOp_fn _ _ _
  · exact FnP.fail

structure Rel (E : Env) (st : St) (g : Ghost) (s : AS) (a : Act) (w : World) : Prop where
  nt : a.tmps.size = s.nt
  df : a.defers = E.ds
  tm : ∀ t, VR st g (lk s.tm t) s.sg.length (a.tmps.getD t undef)
  wr : WRel E st g s.sg w

theorem wf_intIn {k : IntKind} {n : Int} (h : intIn k n = true) : k.min ≤ n ∧ n ≤ k.max := by
  unfold intIn at h
  split at h
  · cases k <;> simp only [natIn] at h <;> have h' := Nat.le_of_ble_eq_true h <;> simp [IntKind.min, IntKind.max, IntKind.signed, IntKind.bits] <;> omega
  · cases k <;> simp only [negIn] at h <;> first
      | (have h' := Nat.le_of_ble_eq_true h; simp [IntKind.min, IntKind.max, IntKind.signed, IntKind.bits]; omega)
      | cases h

theorem ofVal1_ok {st : St} {g : Ghost} {n : Nat} (v : Value) : VR st g (ofVal1 v) n v := by
  unfold ofVal1
  split
  · rename_i k m
    cases h : intIn k m with
    | true => simpa [VR] using wf_intIn h
    | false => simp [VR]
  · simp [VR]
  · rename_i s
    cases h : Nat.ble s.data.toList.length 1048576 with
    | true =>
      have := Nat.le_of_ble_eq_true h
      simp only [cond_true, VR]
      have h3 : s.data.toList.length ≤ maxLen := by unfold maxLen; omega
      simpa [VR] using h3
    | false => simp [VR]
  · simp only [VR]; exact ⟨none, 0, by simp, by simp, by simp [maxLen], by simp, .inl trivial⟩
  · simp [VR]
  · simp [VR]
  · simp [VR]
  · simp [VR]
  · simp [VR]
theorem ofVals_ok {st : St} {g : Ghost} {n : Nat} : ∀ vs : List Value, VRs st g (ofVals vs) n vs
  | [] => VRs_nil
  | v :: vs => VRs_cons (ofVal1_ok v) (ofVals_ok vs)
theorem ofVal_ok {st : St} {g : Ghost} {n : Nat} (v : Value) : VR st g (ofVal v) n v := by
  unfold ofVal
  split
  · rename_i cs
    simp only [VR]
    exact ⟨cs, rfl, ofVals_ok _⟩
  · exact ofVal1_ok v

theorem ev_ok {E : Env} {st : St} {g : Ghost} {s : AS} {a : Act} {w : World} {C : Ctx} (R : Rel E st g s a w) (hg : GlobOK C.gl st) (x : Operand) : VR st g (s.ev C x) s.sg.length (a.eval x) := by
  cases x with
  | tmp t => exact R.tm t
  | const v => exact ofVal_ok v
  | global b =>
    simp only [AS.ev, Act.eval]
    split
    · rename_i cs h
      obtain ⟨vs, h1, h2⟩ := hg b cs h g
      simp only [VR]
      exact ⟨b, 0, vs, rfl, h1, fun j hj => by rw [Nat.zero_add]; exact h2 j hj⟩
    · simp [VR]
  | func f =>
    simp only [AS.ev, Act.eval, VR]
    exact ⟨#[], #[], rfl, VRs_nil, VRs_nil⟩
theorem evs_ok {E : Env} {st : St} {g : Ghost} {s : AS} {a : Act} {w : World} {C : Ctx} (R : Rel E st g s a w) (hg : GlobOK C.gl st) : ∀ xs : List Operand, VRs st g (s.evs C xs) s.sg.length (xs.map a.eval)
  | [] => VRs_nil
  | x :: xs => VRs_cons (ev_ok R hg x) (evs_ok R hg xs)

theorem length_updSg : ∀ (up : List (Nat × O)) (sg : List O), (updSg sg up).length = sg.length
  | [], sg => rfl
  | (i, o) :: r, sg => by simp only [updSg]; rw [length_updSg r, setSg_eq]; simp
theorem length_app (s : AS) (d : Option Nat) (e : Ef) : (s.app d e).sg.length = s.sg.length + e.nw.length := by
  simp [AS.app, addSg_eq, length_updSg, killIfSg_eq]

theorem VR_after {E : Env} {st st' : St} {g g' : Ghost} {n n' : Nat} {ks : List Nat} (A : After E st g n st' g' n' ks) {x : V} {v : Value} (h : VR st g x n v) : VR st' g' (x.kill ks) n' v :=
  VR_map A.mono (fun i hi hn => ⟨Nat.lt_of_lt_of_le hn A.len, A.keep i hn (has_kill hi).1⟩) (VR_kill h)

theorem Rel.app {E : Env} {st st' : St} {g g' : Ghost} {s : AS} {a : Act} {w w' : World} {d : Option Nat} {e : Ef} {v : Value} (R : Rel E st g s a w) (hd : dstOk s d = true)
    (A : After E st g s.sg.length st' g' (s.app d e).sg.length e.ks) (W : WRel E st' g' (s.app d e).sg w') (hv : VR st' g' e.v (s.app d e).sg.length v) : Rel E st' g' (s.app d e) (a.put d v) w' where
  nt := by
    cases d with
    | none => exact R.nt
    | some d => simp [Act.put, AS.app, R.nt]
  df := by cases d <;> exact R.df
  wr := W
  tm := fun t => by
    cases d with
    | none =>
      have h1 : lk (s.app none e).tm t = (lk s.tm t).kill e.ks := by simp only [AS.app]; exact lk_killIf _ _ _
      rw [h1]
      exact VR_after A (R.tm t)
    | some d =>
      have hlt : d < s.nt := by simpa [dstOk] using hd
      have h1 : lk (s.app (some d) e).tm t = cond (Nat.beq d t) e.v ((lk s.tm t).kill e.ks) := by simp only [AS.app, lk]; rw [lk_killIf]
      rw [h1]
      by_cases hdt : d = t
      · subst hdt
        rw [show Nat.beq d d = true from Nat.beq_refl d]
        simp only [cond_true, Act.put]
        rw [show (a.tmps.setIfInBounds d v).getD d undef = v by simp [R.nt, hlt]]
        exact hv
      · rw [show Nat.beq d t = false from by cases hb : Nat.beq d t with | false => rfl | true => exact absurd (Nat.eq_of_beq_eq_true hb) hdt]
        simp only [cond_false, Act.put]
        rw [show (a.tmps.setIfInBounds d v).getD t undef = a.tmps.getD t undef by simp [hdt]]
        exact VR_after A (R.tm t)

structure Good (C : Ctx) : Prop where
  ti : ∀ t, TIok C.P t (C.ti t)
  mt : ∀ t m f, C.mt t m f → ∀ (v : Value) (w : World), (method (C.P.types.size + Made.depth) t v m).run C.P w = .ok (f, v) w
  hm : C.P.follows .mixedOrders = true

def OpOK (C : Ctx) (E : Env) (st : St) (g : Ghost) (s : AS) (a : Act) (w : World) (o : Oper) (e : Ef) : Prop :=
  ∀ (next : Act → World → Prop) (Q : Exit → Act → World → Prop), (∀ st' g' w' v, After E st g s.sg.length st' g' (s.app o.dst e).sg.length e.ks → WRel E st' g' (s.app o.dst e).sg w' →
    VR st' g' e.v (s.app o.dst e).sg.length v → next (a.put o.dst v) w') → o.wp C.P a w next Q

section
variable {C : Ctx} {E : Env} {st : St} {g : Ghost} {s : AS} {a : Act} {w : World} {o : Oper}

theorem OpOK.val {e : Ef} (v : Value) (w' : World) (st' : St) (g' : Ghost) (hr : (execOp a.eval o).run C.P w = .ok (.value v) w')
    (A : After E st g s.sg.length st' g' (s.app o.dst e).sg.length e.ks) (W : WRel E st' g' (s.app o.dst e).sg w') (hv : VR st' g' e.v (s.app o.dst e).sg.length v) : OpOK C E st g s a w o e := by
  intro next Q h
  unfold Oper.wp
  rw [hr]
  exact h st' g' w' v A W hv

theorem OpOK.skip {e : Ef} (w' : World) (st' : St) (g' : Ghost) (hr : (execOp a.eval o).run C.P w = .ok .skip w')
    (A : After E st g s.sg.length st' g' (s.app o.dst e).sg.length e.ks) (W : WRel E st' g' (s.app o.dst e).sg w') (hv : VR st' g' e.v (s.app o.dst e).sg.length undef) : OpOK C E st g s a w o e := by
  intro next Q h
  unfold Oper.wp
  rw [hr]
  exact h st' g' w' undef A W hv

theorem app_pe (s : AS) (d : Option Nat) (x : V) : (s.app d (pe x)).sg = s.sg := by simp [AS.app, pe, killIfSg, updSg, addSg]
theorem app_rd (s : AS) (d : Option Nat) (x : V) (rd : List Nat) : (s.app d ⟨x, [], [], [], rd⟩).sg = s.sg := by simp [AS.app, killIfSg, updSg, addSg]

/-- an operation that turns nothing -/
theorem OpOK.pure {x : V} {rd : List Nat} (R : Rel E st g s a w) (v : Value) (w' : World) (hr : (execOp a.eval o).run C.P w = .ok (.value v) w') (hw : SameW w w') (hv : VR st g x s.sg.length v) :
    OpOK C E st g s a w o ⟨x, [], [], [], rd⟩ := by
  refine OpOK.val v w' st g hr ⟨fun _ _ _ h => h, fun _ _ _ => rfl, ?_⟩ ?_ ?_
  · rw [app_rd]; exact Nat.le_refl _
  · rw [app_rd]; exact R.wr.same hw
  · rw [app_rd]; exact hv
end
end Go.VG
