/-
  A symbolic operation that goes on goes on with one effect; the relation between a symbolic state and an activation.
-/
import Derived.Test.YtllncocibkgjkaaVgD
set_option linter.unusedSimpArgs false
set_option linter.unusedVariables false
namespace Go.VG
open Go

def FnP {α : Type} (t : Tr α) : Prop := ∀ K : α → Prop, t K → ∃ a, K a ∧ ∀ K' : α → Prop, K' a → t K'

section
variable {α β : Type}
theorem FnP.ret (a : α) : FnP (ret a) := fun _ h => ⟨a, h, fun _ h => h⟩
theorem FnP.fail : FnP (fail : Tr α) := fun _ h => h.elim
theorem FnP.req {A : Prop} {t : Tr α} (h : FnP t) : FnP (req A t) := fun K hk => let ⟨a, h1, h2⟩ := h K hk.2; ⟨a, h1, fun K' k => ⟨hk.1, h2 K' k⟩⟩
theorem FnP.when {b : Bool} {t : Tr α} (h : FnP t) : FnP (ab6 b t) := fun K hk => by
  cases b with
  | false => exact hk.elim
  | true => exact h K hk
theorem FnP.opt {o : Option α} {f : α → Tr β} (h : ∀ a, FnP (f a)) : FnP (ao5 o f) := fun K hk => by
  cases o with
  | none => exact hk.elim
  | some a => exact h a K hk
theorem FnP.brn {b : Bool} {t u : Tr α} (ht : FnP t) (hu : FnP u) : FnP (a5f b t u) := fun K hk => by
  cases b with
  | false => exact hu K hk
  | true => exact ht K hk
theorem FnP.ama {o : Option α} {h : α → Tr β} {u : Tr β} (hf : ∀ a, FnP (h a)) (hu : FnP u) : FnP (ama o h u) := fun K hk => by
  cases o with
  | none => obtain ⟨a, h1, h2⟩ := hu K (hk.2 rfl); exact ⟨a, h1, fun K' k => ⟨fun _ q => (by cases q), fun _ => h2 K' k⟩⟩
  | some x => obtain ⟨a, h1, h2⟩ := hf x K (hk.1 x rfl); exact ⟨a, h1, fun K' k => ⟨fun _ q => (by cases q; exact h2 K' k), fun q => (by cases q)⟩⟩
theorem FnP.idx {l : List α} {n : Nat} {f : α → Tr β} (h : ∀ a, FnP (f a)) : FnP (bcc l n f) := by rw [afy]; exact FnP.opt h
theorem FnP.bind {t : Tr α} {f : α → Tr β} (ht : FnP t) (hf : ∀ a, FnP (f a)) : FnP (ah1 t f) := fun K hk => by
  obtain ⟨a, h1, h2⟩ := ht _ hk
  obtain ⟨b, h3, h4⟩ := hf a K h1
  exact ⟨b, h3, fun K' k => h2 _ (h4 K' k)⟩
theorem FnP.ex {f : α → Tr β} (h : ∀ a, FnP (f a)) : FnP (exT f) := fun K ⟨a, hk⟩ => let ⟨b, h1, h2⟩ := h a K hk; ⟨b, h1, fun K' k => ⟨a, h2 K' k⟩⟩
theorem FnP.force {x : V} {f : V → Tr α} (h : ∀ x, FnP (f x)) : FnP (force x f) := by rw [force_eq]; exact h x
theorem FnP.aag {x : Nat} {f : Nat → Tr α} (h : ∀ x, FnP (f x)) : FnP (aag x f) := by rw [aae]; exact h x
theorem FnP.aam {x : List V} {f : List V → Tr α} (h : ∀ x, FnP (f x)) : FnP (agk x f) := by rw [ael]; exact h x
theorem FnP.cut {a : List α} {r : Option Int × Option Int} {f : List α → Tr β} (h : ∀ x, FnP (f x)) : FnP (cutK a r f) := by rw [ap6]; exact h _
theorem FnP.aed (r : Option (Prop × Ef)) : FnP (aed r) := by
  refine FnP.opt fun p => FnP.req fun K hk => ?_
  rw [abb] at hk
  exact ⟨p.2, hk, fun K' k => by rw [abb]; exact k⟩
end

theorem a0n (C : Ctx) (op : BinOp) (t : TypeId) (x y : V) : FnP (a2m C op t x y) := by
  unfold a2m
  repeat' first
    | with_reducible exact FnP.ret _
    | with_reducible exact FnP.fail
    | with_reducible refine FnP.req ?_
    | with_reducible refine FnP.when ?_
    | (with_reducible refine FnP.opt fun _ => ?_)
    | (with_reducible refine FnP.idx fun _ => ?_)
    | (with_reducible refine FnP.aam fun _ => ?_)
    | split
theorem a5z (op : UnOp) (x : V) : FnP (evUn op x) := by
  unfold evUn; split <;> first | with_reducible exact FnP.ret _ | with_reducible exact FnP.fail
theorem aaw (agg : Bool) (size : Nat) (cs : List V) (off : Nat) : FnP (akj agg size cs off) := by
  unfold akj; split <;> exact FnP.opt fun _ => FnP.ret _
theorem agf (s : AS) (x : V) : FnP (elems s x) := by
  unfold elems
  repeat' first
    | with_reducible exact FnP.ret _
    | with_reducible exact FnP.fail
    | split
theorem ayf (C : Ctx) (s : AS) (e : TypeId) (x : V) (ys : List V) (rd : List Nat) : FnP (agh C s e x ys rd) := by
  unfold agh
  repeat' first
    | with_reducible exact FnP.ret _
    | with_reducible exact FnP.fail
    | with_reducible refine FnP.req ?_
    | with_reducible refine FnP.when ?_
    | (with_reducible refine FnP.aag fun _ => ?_)
    | split
theorem agn {C : Ctx} {s : AS} {t : TypeId} {m : V} {F : Nat → Bool → List Sc → List (V × Int) → List Nat → Nat → Tr Ef} (h : ∀ i ag sh es bs ck, FnP (F i ag sh es bs ck)) : FnP (ag4 C s t m F) := by
  unfold ag4
  refine FnP.opt fun p => ?_
  split
  · split
    · exact FnP.when (h _ _ _ _ _ _)
    · exact FnP.fail
  · exact FnP.fail
theorem aw0 (C : Ctx) (s : AS) (t : TypeId) : FnP (aes C s t) := by
  unfold aes
  repeat' first
    | with_reducible exact FnP.ret _
    | with_reducible exact FnP.fail
    | with_reducible refine FnP.req ?_
    | with_reducible refine FnP.when ?_
    | (with_reducible refine agn fun _ _ _ _ _ _ => ?_)
    | (with_reducible refine FnP.opt fun _ => ?_)
    | (with_reducible refine FnP.ama (fun _ => ?_) ?_)
    | (with_reducible refine FnP.idx fun _ => ?_)
    | (with_reducible refine FnP.force fun _ => ?_)
    | (with_reducible refine FnP.aag fun _ => ?_)
    | (with_reducible refine FnP.ex fun _ => ?_)
    | split
theorem ayj (C : Ctx) (s : AS) (t : TypeId) (m x : Operand) (ok : Bool) : FnP (adl C s t m x ok) := by
  unfold adl
  repeat' first
    | with_reducible exact FnP.ret _
    | with_reducible exact FnP.fail
    | with_reducible refine FnP.req ?_
    | with_reducible refine FnP.when ?_
    | (with_reducible refine agn fun _ _ _ _ _ _ => ?_)
    | (with_reducible refine FnP.opt fun _ => ?_)
    | (with_reducible refine FnP.ama (fun _ => ?_) ?_)
    | (with_reducible refine FnP.idx fun _ => ?_)
    | (with_reducible refine FnP.force fun _ => ?_)
    | (with_reducible refine FnP.aag fun _ => ?_)
    | (with_reducible refine FnP.ex fun _ => ?_)
    | split
theorem ar4 (C : Ctx) (s : AS) (t : TypeId) (m x y : Operand) : FnP (ad7 C s t m x y) := by
  unfold ad7
  repeat' first
    | with_reducible exact FnP.ret _
    | with_reducible exact FnP.fail
    | with_reducible refine FnP.req ?_
    | with_reducible refine FnP.when ?_
    | (with_reducible refine agn fun _ _ _ _ _ _ => ?_)
    | (with_reducible refine FnP.opt fun _ => ?_)
    | (with_reducible refine FnP.ama (fun _ => ?_) ?_)
    | (with_reducible refine FnP.idx fun _ => ?_)
    | (with_reducible refine FnP.force fun _ => ?_)
    | (with_reducible refine FnP.aag fun _ => ?_)
    | (with_reducible refine FnP.ex fun _ => ?_)
    | split
theorem ath (C : Ctx) (s : AS) (t : TypeId) (m x : Operand) : FnP (acs C s t m x) := by
  unfold acs
  repeat' first
    | with_reducible exact FnP.ret _
    | with_reducible exact FnP.fail
    | with_reducible refine FnP.req ?_
    | with_reducible refine FnP.when ?_
    | (with_reducible refine agn fun _ _ _ _ _ _ => ?_)
    | (with_reducible refine FnP.opt fun _ => ?_)
    | (with_reducible refine FnP.ama (fun _ => ?_) ?_)
    | (with_reducible refine FnP.idx fun _ => ?_)
    | (with_reducible refine FnP.force fun _ => ?_)
    | (with_reducible refine FnP.aag fun _ => ?_)
    | (with_reducible refine FnP.ex fun _ => ?_)
    | split
theorem apb (C : Ctx) (s : AS) (t : TypeId) (m b y : Operand) : FnP (acd C s t m b y) := by
  unfold acd
  repeat' first
    | with_reducible exact FnP.ret _
    | with_reducible exact FnP.fail
    | with_reducible refine FnP.req ?_
    | with_reducible refine FnP.when ?_
    | (with_reducible refine agn fun _ _ _ _ _ _ => ?_)
    | (with_reducible refine FnP.opt fun _ => ?_)
    | (with_reducible refine FnP.ama (fun _ => ?_) ?_)
    | (with_reducible refine FnP.idx fun _ => ?_)
    | (with_reducible refine FnP.force fun _ => ?_)
    | (with_reducible refine FnP.aag fun _ => ?_)
    | (with_reducible refine FnP.ex fun _ => ?_)
    | split
theorem ayi (C : Ctx) (s : AS) (t : TypeId) (m x : V) : FnP (agi C s t m x) := by
  unfold agi
  repeat' first
    | with_reducible exact FnP.ret _
    | with_reducible exact FnP.fail
    | with_reducible refine FnP.req ?_
    | with_reducible refine FnP.when ?_
    | (with_reducible refine agn fun _ _ _ _ _ _ => ?_)
    | (with_reducible refine FnP.opt fun _ => ?_)
    | (with_reducible refine FnP.ama (fun _ => ?_) ?_)
    | (with_reducible refine FnP.idx fun _ => ?_)
    | (with_reducible refine FnP.force fun _ => ?_)
    | (with_reducible refine FnP.aag fun _ => ?_)
    | (with_reducible refine FnP.ex fun _ => ?_)
    | split
theorem a2r (C : Ctx) (s : AS) (t : TypeId) (m : V) : FnP (ain C s t m) := by
  unfold ain
  repeat' first
    | with_reducible exact FnP.ret _
    | with_reducible exact FnP.fail
    | with_reducible refine FnP.req ?_
    | with_reducible refine FnP.when ?_
    | (with_reducible refine agn fun _ _ _ _ _ _ => ?_)
    | (with_reducible refine FnP.opt fun _ => ?_)
    | (with_reducible refine FnP.ama (fun _ => ?_) ?_)
    | (with_reducible refine FnP.idx fun _ => ?_)
    | (with_reducible refine FnP.force fun _ => ?_)
    | (with_reducible refine FnP.aag fun _ => ?_)
    | (with_reducible refine FnP.ex fun _ => ?_)
    | split
theorem a2o (C : Ctx) (s : AS) (x : Operand) : FnP (akd C s x) := by
  unfold akd
  repeat' first
    | with_reducible exact FnP.ret _
    | with_reducible exact FnP.fail
    | with_reducible refine FnP.req ?_
    | with_reducible refine FnP.when ?_
    | (with_reducible refine agn fun _ _ _ _ _ _ => ?_)
    | (with_reducible refine FnP.opt fun _ => ?_)
    | (with_reducible refine FnP.ama (fun _ => ?_) ?_)
    | (with_reducible refine FnP.idx fun _ => ?_)
    | (with_reducible refine FnP.force fun _ => ?_)
    | (with_reducible refine FnP.aag fun _ => ?_)
    | (with_reducible refine FnP.ex fun _ => ?_)
    | split
theorem avx (C : Ctx) (s : AS) (b : Builtin) (ts : List TypeId) (args : List V) : FnP (ad4 C s b ts args) := by
  unfold ad4
  repeat' first
    | with_reducible exact FnP.ret _
    | with_reducible exact FnP.fail
    | with_reducible exact ayf _ _ _ _ _ _
    | with_reducible exact ayi _ _ _ _ _
    | with_reducible refine FnP.req ?_
    | with_reducible refine FnP.when ?_
    | (with_reducible refine FnP.bind (agf _ _) fun _ => ?_)
    | (with_reducible refine FnP.aag fun _ => ?_)
    | split
theorem avy (C : Ctx) (s : AS) (a b : TypeId) (x : V) : FnP (ah5 C s a b x) := by
  unfold ah5
  repeat' first
    | with_reducible exact FnP.ret _
    | with_reducible exact FnP.fail
    | with_reducible refine FnP.req ?_
    | with_reducible refine FnP.when ?_
    | (with_reducible refine FnP.bind (agf _ _) fun _ => ?_)
    | (with_reducible refine FnP.ex fun _ => ?_)
    | split
theorem aak (C : Ctx) (s : AS) (len : Nat) (lo hi : Option Operand) : FnP (ae2 C s len lo hi) := by
  unfold ae2
  repeat' first
    | with_reducible exact FnP.ret _
    | with_reducible exact FnP.fail
    | with_reducible refine FnP.req ?_
    | split

theorem a5x (C : Ctx) (s : AS) (c a b : Operand) : FnP (as5 C s c a b) := by
  unfold as5
  repeat' first
    | with_reducible exact FnP.ret _
    | with_reducible exact FnP.fail
    | with_reducible exact FnP.aed _
    | with_reducible refine FnP.req ?_
    | with_reducible refine FnP.when ?_
    | (with_reducible refine FnP.opt fun _ => ?_)
    | (with_reducible refine FnP.idx fun _ => ?_)
    | (with_reducible refine FnP.aam fun _ => ?_)
    | with_reducible refine FnP.brn ?_ ?_
    | (with_reducible refine FnP.force fun _ => ?_)
    | (with_reducible refine FnP.aag fun _ => ?_)
    | (with_reducible refine FnP.cut fun _ => ?_)
    | (with_reducible refine FnP.ex fun _ => ?_)
    | (with_reducible refine FnP.bind (aaw _ _ _ _) fun _ => ?_)
    | (with_reducible refine FnP.bind (aak _ _ _ _ _) fun _ => ?_)
    | split
theorem a2k (C : Ctx) (s : AS) (t : TypeId) : FnP (ail C s t) := by
  unfold ail
  repeat' first
    | with_reducible exact FnP.ret _
    | with_reducible exact FnP.fail
    | with_reducible exact FnP.aed _
    | with_reducible refine FnP.req ?_
    | with_reducible refine FnP.when ?_
    | (with_reducible refine FnP.opt fun _ => ?_)
    | (with_reducible refine FnP.idx fun _ => ?_)
    | (with_reducible refine FnP.aam fun _ => ?_)
    | with_reducible refine FnP.brn ?_ ?_
    | (with_reducible refine FnP.force fun _ => ?_)
    | (with_reducible refine FnP.aag fun _ => ?_)
    | (with_reducible refine FnP.cut fun _ => ?_)
    | (with_reducible refine FnP.ex fun _ => ?_)
    | (with_reducible refine FnP.bind (aaw _ _ _ _) fun _ => ?_)
    | (with_reducible refine FnP.bind (aak _ _ _ _ _) fun _ => ?_)
    | split
theorem a2n (C : Ctx) (s : AS) (t : TypeId) (parts : Array (Nat × Operand)) : FnP (akc C s t parts) := by
  unfold akc
  repeat' first
    | with_reducible exact FnP.ret _
    | with_reducible exact FnP.fail
    | with_reducible exact FnP.aed _
    | with_reducible refine FnP.req ?_
    | with_reducible refine FnP.when ?_
    | (with_reducible refine FnP.opt fun _ => ?_)
    | (with_reducible refine FnP.idx fun _ => ?_)
    | (with_reducible refine FnP.aam fun _ => ?_)
    | with_reducible refine FnP.brn ?_ ?_
    | (with_reducible refine FnP.force fun _ => ?_)
    | (with_reducible refine FnP.aag fun _ => ?_)
    | (with_reducible refine FnP.cut fun _ => ?_)
    | (with_reducible refine FnP.ex fun _ => ?_)
    | (with_reducible refine FnP.bind (aaw _ _ _ _) fun _ => ?_)
    | (with_reducible refine FnP.bind (aak _ _ _ _ _) fun _ => ?_)
    | split
theorem ad3 (C : Ctx) (s : AS) (t : TypeId) (len : Nat) (parts : Array (Nat × Operand)) : FnP (aaz C s t len parts) := by
  unfold aaz
  repeat' first
    | with_reducible exact FnP.ret _
    | with_reducible exact FnP.fail
    | with_reducible exact FnP.aed _
    | with_reducible refine FnP.req ?_
    | with_reducible refine FnP.when ?_
    | (with_reducible refine FnP.opt fun _ => ?_)
    | (with_reducible refine FnP.idx fun _ => ?_)
    | (with_reducible refine FnP.aam fun _ => ?_)
    | with_reducible refine FnP.brn ?_ ?_
    | (with_reducible refine FnP.force fun _ => ?_)
    | (with_reducible refine FnP.aag fun _ => ?_)
    | (with_reducible refine FnP.cut fun _ => ?_)
    | (with_reducible refine FnP.ex fun _ => ?_)
    | (with_reducible refine FnP.bind (aaw _ _ _ _) fun _ => ?_)
    | (with_reducible refine FnP.bind (aak _ _ _ _ _) fun _ => ?_)
    | split
theorem a5u (C : Ctx) (s : AS) (t : TypeId) (a : Operand) : FnP (al8 C s t a) := by
  unfold al8
  repeat' first
    | with_reducible exact FnP.ret _
    | with_reducible exact FnP.fail
    | with_reducible exact FnP.aed _
    | with_reducible refine FnP.req ?_
    | with_reducible refine FnP.when ?_
    | (with_reducible refine FnP.opt fun _ => ?_)
    | (with_reducible refine FnP.idx fun _ => ?_)
    | (with_reducible refine FnP.aam fun _ => ?_)
    | with_reducible refine FnP.brn ?_ ?_
    | (with_reducible refine FnP.force fun _ => ?_)
    | (with_reducible refine FnP.aag fun _ => ?_)
    | (with_reducible refine FnP.cut fun _ => ?_)
    | (with_reducible refine FnP.ex fun _ => ?_)
    | (with_reducible refine FnP.bind (aaw _ _ _ _) fun _ => ?_)
    | (with_reducible refine FnP.bind (aak _ _ _ _ _) fun _ => ?_)
    | split
theorem a2u (C : Ctx) (s : AS) (t : TypeId) (a x : Operand) : FnP (aio C s t a x) := by
  unfold aio
  repeat' first
    | with_reducible exact FnP.ret _
    | with_reducible exact FnP.fail
    | with_reducible exact FnP.aed _
    | with_reducible refine FnP.req ?_
    | with_reducible refine FnP.when ?_
    | (with_reducible refine FnP.opt fun _ => ?_)
    | (with_reducible refine FnP.idx fun _ => ?_)
    | (with_reducible refine FnP.aam fun _ => ?_)
    | with_reducible refine FnP.brn ?_ ?_
    | (with_reducible refine FnP.force fun _ => ?_)
    | (with_reducible refine FnP.aag fun _ => ?_)
    | (with_reducible refine FnP.cut fun _ => ?_)
    | (with_reducible refine FnP.ex fun _ => ?_)
    | (with_reducible refine FnP.bind (aaw _ _ _ _) fun _ => ?_)
    | (with_reducible refine FnP.bind (aak _ _ _ _ _) fun _ => ?_)
    | split
theorem ati (C : Ctx) (s : AS) (x : Operand) : FnP (ae0 C s x) := by
  unfold ae0
  repeat' first
    | with_reducible exact FnP.ret _
    | with_reducible exact FnP.fail
    | with_reducible exact FnP.aed _
    | with_reducible refine FnP.req ?_
    | with_reducible refine FnP.when ?_
    | (with_reducible refine FnP.opt fun _ => ?_)
    | (with_reducible refine FnP.idx fun _ => ?_)
    | (with_reducible refine FnP.aam fun _ => ?_)
    | with_reducible refine FnP.brn ?_ ?_
    | (with_reducible refine FnP.force fun _ => ?_)
    | (with_reducible refine FnP.aag fun _ => ?_)
    | (with_reducible refine FnP.cut fun _ => ?_)
    | (with_reducible refine FnP.ex fun _ => ?_)
    | (with_reducible refine FnP.bind (aaw _ _ _ _) fun _ => ?_)
    | (with_reducible refine FnP.bind (aak _ _ _ _ _) fun _ => ?_)
    | split
theorem ar2 (C : Ctx) (s : AS) (t : TypeId) (x : Operand) : FnP (aek C s t x) := by
  unfold aek
  repeat' first
    | with_reducible exact FnP.ret _
    | with_reducible exact FnP.fail
    | with_reducible exact FnP.aed _
    | with_reducible refine FnP.req ?_
    | with_reducible refine FnP.when ?_
    | (with_reducible refine FnP.opt fun _ => ?_)
    | (with_reducible refine FnP.idx fun _ => ?_)
    | (with_reducible refine FnP.aam fun _ => ?_)
    | with_reducible refine FnP.brn ?_ ?_
    | (with_reducible refine FnP.force fun _ => ?_)
    | (with_reducible refine FnP.aag fun _ => ?_)
    | (with_reducible refine FnP.cut fun _ => ?_)
    | (with_reducible refine FnP.ex fun _ => ?_)
    | (with_reducible refine FnP.bind (aaw _ _ _ _) fun _ => ?_)
    | (with_reducible refine FnP.bind (aak _ _ _ _ _) fun _ => ?_)
    | split
theorem ar3 (C : Ctx) (s : AS) (t : TypeId) (l c : Operand) : FnP (ad6 C s t l c) := by
  unfold ad6
  repeat' first
    | with_reducible exact FnP.ret _
    | with_reducible exact FnP.fail
    | with_reducible exact FnP.aed _
    | with_reducible refine FnP.req ?_
    | with_reducible refine FnP.when ?_
    | (with_reducible refine FnP.opt fun _ => ?_)
    | (with_reducible refine FnP.idx fun _ => ?_)
    | (with_reducible refine FnP.aam fun _ => ?_)
    | with_reducible refine FnP.brn ?_ ?_
    | (with_reducible refine FnP.force fun _ => ?_)
    | (with_reducible refine FnP.aag fun _ => ?_)
    | (with_reducible refine FnP.cut fun _ => ?_)
    | (with_reducible refine FnP.ex fun _ => ?_)
    | (with_reducible refine FnP.bind (aaw _ _ _ _) fun _ => ?_)
    | (with_reducible refine FnP.bind (aak _ _ _ _ _) fun _ => ?_)
    | split
theorem a2t (C : Ctx) (s : AS) (t : TypeId) (x : Operand) (lo hi mx : Option Operand) : FnP (ake C s t x lo hi mx) := by
  unfold ake
  repeat' first
    | with_reducible exact FnP.ret _
    | with_reducible exact FnP.fail
    | with_reducible exact FnP.aed _
    | with_reducible refine FnP.req ?_
    | with_reducible refine FnP.when ?_
    | (with_reducible refine FnP.opt fun _ => ?_)
    | (with_reducible refine FnP.idx fun _ => ?_)
    | (with_reducible refine FnP.aam fun _ => ?_)
    | with_reducible refine FnP.brn ?_ ?_
    | (with_reducible refine FnP.force fun _ => ?_)
    | (with_reducible refine FnP.aag fun _ => ?_)
    | (with_reducible refine FnP.cut fun _ => ?_)
    | (with_reducible refine FnP.ex fun _ => ?_)
    | (with_reducible refine FnP.bind (aaw _ _ _ _) fun _ => ?_)
    | (with_reducible refine FnP.bind (aak _ _ _ _ _) fun _ => ?_)
    | split
theorem ar0 (C : Ctx) (s : AS) (t : TypeId) (x : Operand) (f : Nat) : FnP (ad5 C s t x f) := by
  unfold ad5
  repeat' first
    | with_reducible exact FnP.ret _
    | with_reducible exact FnP.fail
    | with_reducible exact FnP.aed _
    | with_reducible refine FnP.req ?_
    | with_reducible refine FnP.when ?_
    | (with_reducible refine FnP.opt fun _ => ?_)
    | (with_reducible refine FnP.idx fun _ => ?_)
    | (with_reducible refine FnP.aam fun _ => ?_)
    | with_reducible refine FnP.brn ?_ ?_
    | (with_reducible refine FnP.force fun _ => ?_)
    | (with_reducible refine FnP.aag fun _ => ?_)
    | (with_reducible refine FnP.cut fun _ => ?_)
    | (with_reducible refine FnP.ex fun _ => ?_)
    | (with_reducible refine FnP.bind (aaw _ _ _ _) fun _ => ?_)
    | (with_reducible refine FnP.bind (aak _ _ _ _ _) fun _ => ?_)
    | split
theorem a2p (C : Ctx) (s : AS) (t : TypeId) (x : Operand) (f : Nat) : FnP (aim C s t x f) := by
  unfold aim
  repeat' first
    | with_reducible exact FnP.ret _
    | with_reducible exact FnP.fail
    | with_reducible exact FnP.aed _
    | with_reducible refine FnP.req ?_
    | with_reducible refine FnP.when ?_
    | (with_reducible refine FnP.opt fun _ => ?_)
    | (with_reducible refine FnP.idx fun _ => ?_)
    | (with_reducible refine FnP.aam fun _ => ?_)
    | with_reducible refine FnP.brn ?_ ?_
    | (with_reducible refine FnP.force fun _ => ?_)
    | (with_reducible refine FnP.aag fun _ => ?_)
    | (with_reducible refine FnP.cut fun _ => ?_)
    | (with_reducible refine FnP.ex fun _ => ?_)
    | (with_reducible refine FnP.bind (aaw _ _ _ _) fun _ => ?_)
    | (with_reducible refine FnP.bind (aak _ _ _ _ _) fun _ => ?_)
    | split
theorem ar1 (C : Ctx) (s : AS) (t : TypeId) (x ix : Operand) : FnP (adr C s t x ix) := by
  unfold adr
  repeat' first
    | with_reducible exact FnP.ret _
    | with_reducible exact FnP.fail
    | with_reducible exact FnP.aed _
    | with_reducible refine FnP.req ?_
    | with_reducible refine FnP.when ?_
    | (with_reducible refine FnP.opt fun _ => ?_)
    | (with_reducible refine FnP.idx fun _ => ?_)
    | (with_reducible refine FnP.aam fun _ => ?_)
    | with_reducible refine FnP.brn ?_ ?_
    | (with_reducible refine FnP.force fun _ => ?_)
    | (with_reducible refine FnP.aag fun _ => ?_)
    | (with_reducible refine FnP.cut fun _ => ?_)
    | (with_reducible refine FnP.ex fun _ => ?_)
    | (with_reducible refine FnP.bind (aaw _ _ _ _) fun _ => ?_)
    | (with_reducible refine FnP.bind (aak _ _ _ _ _) fun _ => ?_)
    | split
theorem a2q (C : Ctx) (s : AS) (t : TypeId) (x ix : Operand) : FnP (amp C s t x ix) := by
  unfold amp
  repeat' first
    | with_reducible exact FnP.ret _
    | with_reducible exact FnP.fail
    | with_reducible exact FnP.aed _
    | with_reducible refine FnP.req ?_
    | with_reducible refine FnP.when ?_
    | (with_reducible refine FnP.opt fun _ => ?_)
    | (with_reducible refine FnP.idx fun _ => ?_)
    | (with_reducible refine FnP.aam fun _ => ?_)
    | with_reducible refine FnP.brn ?_ ?_
    | (with_reducible refine FnP.force fun _ => ?_)
    | (with_reducible refine FnP.aag fun _ => ?_)
    | (with_reducible refine FnP.cut fun _ => ?_)
    | (with_reducible refine FnP.ex fun _ => ?_)
    | (with_reducible refine FnP.bind (aaw _ _ _ _) fun _ => ?_)
    | (with_reducible refine FnP.bind (aak _ _ _ _ _) fun _ => ?_)
    | split
theorem ayg (C : Ctx) (s : AS) (x : Operand) (t : TypeId) (ok : Bool) : FnP (ajg C s x t ok) := by
  unfold ajg
  repeat' first
    | with_reducible exact FnP.ret _
    | with_reducible exact FnP.fail
    | with_reducible exact FnP.aed _
    | with_reducible refine FnP.req ?_
    | with_reducible refine FnP.when ?_
    | (with_reducible refine FnP.opt fun _ => ?_)
    | (with_reducible refine FnP.idx fun _ => ?_)
    | (with_reducible refine FnP.aam fun _ => ?_)
    | with_reducible refine FnP.brn ?_ ?_
    | (with_reducible refine FnP.force fun _ => ?_)
    | (with_reducible refine FnP.aag fun _ => ?_)
    | (with_reducible refine FnP.cut fun _ => ?_)
    | (with_reducible refine FnP.ex fun _ => ?_)
    | (with_reducible refine FnP.bind (aaw _ _ _ _) fun _ => ?_)
    | (with_reducible refine FnP.bind (aak _ _ _ _ _) fun _ => ?_)
    | split
theorem avz (C : Ctx) (s : AS) (x : Operand) (i : Nat) : FnP (ah6 C s x i) := by
  unfold ah6
  repeat' first
    | with_reducible exact FnP.ret _
    | with_reducible exact FnP.fail
    | with_reducible exact FnP.aed _
    | with_reducible refine FnP.req ?_
    | with_reducible refine FnP.when ?_
    | (with_reducible refine FnP.opt fun _ => ?_)
    | (with_reducible refine FnP.idx fun _ => ?_)
    | (with_reducible refine FnP.aam fun _ => ?_)
    | with_reducible refine FnP.brn ?_ ?_
    | (with_reducible refine FnP.force fun _ => ?_)
    | (with_reducible refine FnP.aag fun _ => ?_)
    | (with_reducible refine FnP.cut fun _ => ?_)
    | (with_reducible refine FnP.ex fun _ => ?_)
    | (with_reducible refine FnP.bind (aaw _ _ _ _) fun _ => ?_)
    | (with_reducible refine FnP.bind (aak _ _ _ _ _) fun _ => ?_)
    | split
theorem a5t (C : Ctx) (s : AS) (t : TypeId) (x : Operand) : FnP (anv C s t x) := by
  unfold anv
  repeat' first
    | with_reducible exact FnP.ret _
    | with_reducible exact FnP.fail
    | with_reducible exact a2r _ _ _ _
    | with_reducible exact FnP.aed _
    | with_reducible refine FnP.req ?_
    | with_reducible refine FnP.when ?_
    | (with_reducible refine FnP.opt fun _ => ?_)
    | (with_reducible refine FnP.idx fun _ => ?_)
    | (with_reducible refine FnP.aam fun _ => ?_)
    | with_reducible refine FnP.brn ?_ ?_
    | (with_reducible refine FnP.force fun _ => ?_)
    | (with_reducible refine FnP.aag fun _ => ?_)
    | (with_reducible refine FnP.cut fun _ => ?_)
    | (with_reducible refine FnP.ex fun _ => ?_)
    | (with_reducible refine FnP.bind (aaw _ _ _ _) fun _ => ?_)
    | (with_reducible refine FnP.bind (aak _ _ _ _ _) fun _ => ?_)
    | split
theorem a5w (C : Ctx) (s : AS) (x : Operand) (b : Bool) : FnP (apc C s x b) := by
  unfold apc
  repeat' first
    | with_reducible exact FnP.ret _
    | with_reducible exact FnP.fail
    | with_reducible exact FnP.aed _
    | with_reducible refine FnP.req ?_
    | with_reducible refine FnP.when ?_
    | (with_reducible refine FnP.opt fun _ => ?_)
    | (with_reducible refine FnP.idx fun _ => ?_)
    | (with_reducible refine FnP.aam fun _ => ?_)
    | with_reducible refine FnP.brn ?_ ?_
    | (with_reducible refine FnP.force fun _ => ?_)
    | (with_reducible refine FnP.aag fun _ => ?_)
    | (with_reducible refine FnP.cut fun _ => ?_)
    | (with_reducible refine FnP.ex fun _ => ?_)
    | (with_reducible refine FnP.bind (aaw _ _ _ _) fun _ => ?_)
    | (with_reducible refine FnP.bind (aak _ _ _ _ _) fun _ => ?_)
    | split
theorem ayh (C : Ctx) (s : AS) (c : Call) : FnP (ahu C s c) := by
  unfold ahu
  split
  · exact FnP.aam fun _ => avx _ _ _ _ _
  · exact FnP.opt fun _ => FnP.aed _
  · split
    · exact FnP.ex fun _ => FnP.req (FnP.aed _)
    · exact FnP.fail
theorem bd3 (C : Ctx) (s : AS) (dst : Option Nat) (t : TypeId) (len : Nat) (parts : Array (Nat × Operand)) : FnP (a9n C s dst t len parts) := by
  unfold a9n
  split
  · rename_i d
    cases C.lits d
    · exact ad3 _ _ _ _ _
    · simp only [cond_true, a2s]
      refine FnP.bind (ad3 _ _ _ _ _) fun e => ?_
      split
      · exact FnP.aag fun _ => FnP.ret _
      · exact FnP.fail
  · exact ad3 _ _ _ _ _
theorem a5v (C : Ctx) (s : AS) (a b : TypeId) (x : V) : FnP (anw C s a b x) := by
  unfold anw
  split
  · cases Nat.beq a b
    · exact avy _ _ _ _ _
    · simp only [cond_true]
      split
      · split
        · split
          · exact FnP.ret _
          · exact FnP.fail
        · exact FnP.fail
      · exact FnP.fail
  · exact avy _ _ _ _ _
theorem amq (C : Ctx) (s : AS) (o : Oper) : FnP (aho C s o) := by
  unfold aho
  split
  · exact FnP.force fun _ => FnP.ret _
  · exact FnP.force fun _ => FnP.ret _
  · exact a5x _ _ _ _ _
  · exact a2k _ _ _
  · exact FnP.force fun _ => FnP.aag fun _ => FnP.when (FnP.ret _)
  · exact a2n _ _ _ _
  · exact bd3 _ _ _ _ _ _
  · exact a5u _ _ _ _
  · exact a2u _ _ _ _ _
  · exact ati _ _ _
  · exact FnP.bind (a0n _ _ _ _ _) fun _ => FnP.ret _
  · exact FnP.bind (a5z _ _) fun _ => FnP.ret _
  · exact a5v _ _ _ _ _
  · exact ar2 _ _ _ _
  · exact FnP.aam fun _ => FnP.aam fun _ => FnP.ret _
  · exact ar3 _ _ _ _ _
  · exact a2t _ _ _ _ _ _ _
  · exact ar0 _ _ _ _ _
  · exact a2p _ _ _ _ _
  · exact ar1 _ _ _ _ _
  · exact a2q _ _ _ _ _
  · exact ayg _ _ _ _ _
  · exact avz _ _ _ _
  · exact a5t _ _ _ _
  · exact a5w _ _ _ _
  · exact aw0 _ _ _
  · exact ayj _ _ _ _ _ _
  · exact ar4 _ _ _ _ _ _
  · exact ath _ _ _ _ _
  · exact apb _ _ _ _ _ _
  · exact a2o _ _ _
  · exact ayh _ _ _
  · exact FnP.fail

structure Rel (E : Env) (st : St) (g : aa1) (s : AS) (a : Act) (w : World) : Prop where
  nt : a.tmps.size = s.nt
  df : a.defers = E.ds
  tm : ∀ t, VR st g (lk s.tm t) s.sg.length (a.tmps.getD t undef)
  wr : abj E st g s.sg w

theorem bc0 {k : IntKind} {n : Int} (h : ba5 k n = true) : k.min ≤ n ∧ n ≤ k.max := by
  unfold ba5 at h
  split at h
  · cases k <;> simp only [natIn] at h <;> have h' := Nat.le_of_ble_eq_true h <;> simp [IntKind.min, IntKind.max, IntKind.signed, IntKind.bits] <;> omega
  · cases k <;> simp only [negIn] at h <;> first
      | (have h' := Nat.le_of_ble_eq_true h; simp [IntKind.min, IntKind.max, IntKind.signed, IntKind.bits]; omega)
      | cases h

theorem ax5 {st : St} {g : aa1} {n : Nat} (v : Value) : VR st g (a1e v) n v := by
  unfold a1e
  split
  · rename_i k m
    cases h : ba5 k m with
    | true => simpa [VR] using bc0 h
    | false => simp [VR]
  · simp [VR]
  · rename_i s
    cases h : Nat.ble s.data.toList.length 1048576 with
    | true =>
      have := Nat.le_of_ble_eq_true h
      simp only [cond_true, VR]
      have h3 : s.data.toList.length ≤ maxLen := by unfold maxLen; omega
      simpa [VR] using h3
    | false => simp [VR]
  · simp only [VR]; exact ⟨none, 0, by simp, by simp, by simp [maxLen], by simp, .inl trivial⟩
  · simp [VR]
  · simp [VR]
  · simp [VR]
  · simp [VR]
  · simp [VR]
theorem ax6 {st : St} {g : aa1} {n : Nat} : ∀ vs : List Value, VRs st g (a7w vs) n vs
  | [] => ab0
  | v :: vs => aa8 (ax5 v) (ax6 vs)
theorem bb5 {st : St} {g : aa1} {n : Nat} (v : Value) : VR st g (be8 v) n v := by
  unfold be8
  split
  · rename_i cs
    simp only [VR]
    exact ⟨cs, rfl, ax6 _⟩
  · exact ax5 v

theorem aar {E : Env} {st : St} {g : aa1} {s : AS} {a : Act} {w : World} {C : Ctx} (R : Rel E st g s a w) (hg : aa5 C.gl st) (x : Operand) : VR st g (s.ev C x) s.sg.length (a.eval x) := by
  cases x with
  | tmp t => exact R.tm t
  | const v => exact bb5 v
  | global b =>
    simp only [AS.ev, Act.eval]
    split
    · rename_i cs h
      obtain ⟨vs, h1, h2⟩ := hg b cs h g
      simp only [VR]
      exact ⟨b, 0, vs, rfl, h1, fun j hj => by rw [Nat.zero_add]; exact h2 j hj⟩
    · simp [VR]
  | func f =>
    simp only [AS.ev, Act.eval, VR]
    exact ⟨#[], #[], rfl, ab0, ab0⟩
theorem as6 {E : Env} {st : St} {g : aa1} {s : AS} {a : Act} {w : World} {C : Ctx} (R : Rel E st g s a w) (hg : aa5 C.gl st) : ∀ xs : List Operand, VRs st g (s.evs C xs) s.sg.length (xs.map a.eval)
  | [] => ab0
  | x :: xs => aa8 (aar R hg x) (as6 R hg xs)

theorem ada : ∀ (up : List (Nat × O)) (sg : List O), (aef sg up).length = sg.length
  | [], sg => rfl
  | (i, o) :: r, sg => by simp only [aef]; rw [ada r, acg]; simp
theorem aoc {E : Env} {st st' : St} {g g' : aa1} {n n' : Nat} {ks : List Nat} (A : amc E st g n st' g' n' ks) {x : V} {v : Value} (h : VR st g x n v) : VR st' g' (x.kill ks) n' v :=
  ady A.mono (fun i hi hn => ⟨Nat.lt_of_lt_of_le hn A.len, A.acy i hn (afg hi).1⟩) (aow h)

theorem Rel.app {E : Env} {st st' : St} {g g' : aa1} {s : AS} {a : Act} {w w' : World} {d : Option Nat} {e : Ef} {v : Value} (R : Rel E st g s a w) (hd : aee s d = true)
    (A : amc E st g s.sg.length st' g' (s.app d e).sg.length e.ks) (W : abj E st' g' (s.app d e).sg w') (hv : VR st' g' e.v (s.app d e).sg.length v) : Rel E st' g' (s.app d e) (a.put d v) w' where
  nt := by
    cases d with
    | none => exact R.nt
    | some d => simp [Act.put, AS.app, R.nt]
  df := by cases d <;> exact R.df
  wr := W
  tm := fun t => by
    cases d with
    | none =>
      have h1 : lk (s.app none e).tm t = (lk s.tm t).kill e.ks := by simp only [AS.app]; exact ae4 _ _ _
      rw [h1]
      exact aoc A (R.tm t)
    | some d =>
      have hlt : d < s.nt := by simpa [aee] using hd
      have h1 : lk (s.app (some d) e).tm t = cond (Nat.beq d t) e.v ((lk s.tm t).kill e.ks) := by simp only [AS.app, lk]; rw [ae4]
      rw [h1]
      by_cases hdt : d = t
      · subst hdt
        rw [show Nat.beq d d = true from Nat.beq_refl d]
        simp only [cond_true, Act.put]
        rw [show (a.tmps.setIfInBounds d v).getD d undef = v by simp [R.nt, hlt]]
        exact hv
      · rw [show Nat.beq d t = false from by cases hb : Nat.beq d t with | false => rfl | true => exact absurd (Nat.eq_of_beq_eq_true hb) hdt]
        simp only [cond_false, Act.put]
        rw [show (a.tmps.setIfInBounds d v).getD t undef = a.tmps.getD t undef by simp [hdt]]
        exact aoc A (R.tm t)

structure Good (C : Ctx) : Prop where
  ti : ∀ t, abq C.P t (C.ti t)
  mt : ∀ t m f, C.mt t m f → ∀ (v : Value) (w : World), (method (C.P.types.size + Made.depth) t v m).run C.P w = .ok (f, v) w
  hm : C.P.follows .mixedOrders = true

def ab2 (C : Ctx) (E : Env) (st : St) (g : aa1) (s : AS) (a : Act) (w : World) (o : Oper) (e : Ef) : Prop :=
  ∀ (next : Act → World → Prop) (Q : Exit → Act → World → Prop), (∀ st' g' w' v, amc E st g s.sg.length st' g' (s.app o.dst e).sg.length e.ks → abj E st' g' (s.app o.dst e).sg w' →
    VR st' g' e.v (s.app o.dst e).sg.length v → next (a.put o.dst v) w') → o.wp C.P a w next Q

section
variable {C : Ctx} {E : Env} {st : St} {g : aa1} {s : AS} {a : Act} {w : World} {o : Oper}

theorem ab2.val {e : Ef} (v : Value) (w' : World) (st' : St) (g' : aa1) (hr : (execOp a.eval o).run C.P w = .ok (.value v) w')
    (A : amc E st g s.sg.length st' g' (s.app o.dst e).sg.length e.ks) (W : abj E st' g' (s.app o.dst e).sg w') (hv : VR st' g' e.v (s.app o.dst e).sg.length v) : ab2 C E st g s a w o e := by
  intro next Q h
  unfold Oper.wp
  rw [hr]
  exact h st' g' w' v A W hv

theorem ab2.skip {e : Ef} (w' : World) (st' : St) (g' : aa1) (hr : (execOp a.eval o).run C.P w = .ok .skip w')
    (A : amc E st g s.sg.length st' g' (s.app o.dst e).sg.length e.ks) (W : abj E st' g' (s.app o.dst e).sg w') (hv : VR st' g' e.v (s.app o.dst e).sg.length undef) : ab2 C E st g s a w o e := by
  intro next Q h
  unfold Oper.wp
  rw [hr]
  exact h st' g' w' undef A W hv

theorem aeg (s : AS) (d : Option Nat) (x : V) : (s.app d (pe x)).sg = s.sg := by simp [AS.app, pe, acz, aef, ajq]
theorem ano (s : AS) (d : Option Nat) (x : V) (rd : List Nat) : (s.app d ⟨x, [], [], [], rd⟩).sg = s.sg := by simp [AS.app, acz, aef, ajq]

theorem ab2.pure {x : V} {rd : List Nat} (R : Rel E st g s a w) (v : Value) (w' : World) (hr : (execOp a.eval o).run C.P w = .ok (.value v) w') (hw : aal w w') (hv : VR st g x s.sg.length v) :
    ab2 C E st g s a w o ⟨x, [], [], [], rd⟩ := by
  refine ab2.val v w' st g hr ⟨fun _ _ _ h => h, fun _ _ _ => rfl, ?_⟩ ?_ ?_
  · rw [ano]; exact Nat.le_refl _
  · rw [ano]; exact R.wr.same hw
  · rw [ano]; exact hv
end
end Go.VG
namespace Go.VG
open Go

section
variable {C : Ctx} {E : Env} {st : St} {g : aa1} {s : AS} {a : Act} {w : World} {o : Oper} {e : Ef}

theorem amg (s : AS) (d : Option Nat) (x : V) (rd : List Nat) (ob : O) : (s.app d ⟨x, [], [], [ob], rd⟩).sg = s.sg ++ [ob] := by simp [AS.app, acz, aef, ajq]

theorem ab2.new {x : V} {rd : List Nat} {ob : O} (R : Rel E st g s a w) (v : Value) (w1 : World) (hw : aal w w1) (gi : Gh) (oj : Obj)
    (hr : (execOp a.eval o).run C.P w = .ok (.value v) (w1.alloc oj)) (hb : ∀ b, gi.blk = some b → b = w1.heap.size)
    (ho : am9 E st (upd g s.sg.length gi) (s.sg.length + 1) (w1.alloc oj) gi ob)
    (hv : VR st (upd g s.sg.length gi) x (s.sg.length + 1) v) : ab2 C E st g s a w o ⟨x, [], [], [ob], rd⟩ := by
  refine ab2.val v _ st (upd g s.sg.length gi) hr ⟨fun _ _ _ h => h, fun i hi _ => aab (Nat.ne_of_lt hi), ?_⟩ ?_ ?_
  · rw [amg]; simp
  · rw [amg]; exact (R.wr.same hw).a9e oj gi ob hb ho
  · rw [amg]; simpa using hv

theorem ab2.a1c {rd : List Nat} {cs : List V} (R : Rel E st g s a w) (vs : Array Value) (el : TypeId)
    (hr : (execOp a.eval o).run C.P w = .ok (.value (.pointer (some ⟨w.heap.size, 0, none⟩))) (w.alloc (.cells vs el))) (hc : VRs st g cs s.sg.length vs.toList) :
    ab2 C E st g s a w o ⟨.ptr s.sg.length 0, [], [], [.cells cs], rd⟩ := by
  refine ab2.new R _ w (aal.refl w) ⟨some w.heap.size, none, 0, 0, 0⟩ _ hr (by simp) ?_ ?_
  · refine ⟨w.heap.size, vs, el, (0, 0), rfl, R.wr.gnew _ R.wr.size, heap_alloc_new, ?_, ⟨by simp, by intro o _; simp⟩, R.wr.aj8⟩
    exact afr (fun _ _ _ h => h) (fun i _ hi => ⟨by omega, aab (Nat.ne_of_lt hi)⟩) hc
  · simp only [VR]
    exact ⟨by omega, w.heap.size, by simp, rfl⟩

def All {α : Type} (p : α → Prop) (t : Tr α) : Prop := ∀ e, t (fun b => b = e) → p e
section
variable {α β : Type} {p : α → Prop}
theorem All.ret {x : α} (h : p x) : All p (ret x) := by rintro _ ⟨⟩; exact h
theorem All.fail : All p fail := fun _ h => h.elim
theorem All.req {A : Prop} {t : Tr α} (h : A → All p t) : All p (req A t) := fun e he => h he.1 e he.2
theorem All.when {b : Bool} {t : Tr α} (h : b = true → All p t) : All p (ab6 b t) := fun e he => by
  cases b with
  | false => exact he.elim
  | true => exact h rfl e he
theorem All.opt {x : Option β} {f : β → Tr α} (h : ∀ y, x = some y → All p (f y)) : All p (ao5 x f) := fun e he => by
  cases x with
  | none => exact he.elim
  | some y => exact h y rfl e he
theorem All.brn {b : Bool} {t u : Tr α} (ht : b = true → All p t) (hu : b = false → All p u) : All p (a5f b t u) := fun e he => by
  cases b with
  | false => exact hu rfl e he
  | true => exact ht rfl e he
theorem All.ama {x : Option β} {f : β → Tr α} {u : Tr α} (h : ∀ y, x = some y → All p (f y)) (hu : x = none → All p u) : All p (ama x f u) := fun e he => by
  cases hx : x with
  | none => exact hu hx e (he.2 hx)
  | some y => exact h y hx e (he.1 y hx)
theorem All.ex {f : β → Tr α} (h : ∀ y, All p (f y)) : All p (exT f) := fun e ⟨y, he⟩ => h y e he
theorem All.bind {t : Tr β} {f : β → Tr α} (ht : FnP t) (h : ∀ y, (∀ K : β → Prop, K y → t K) → All p (f y)) : All p (ah1 t f) := fun e he => by
  obtain ⟨y, h1, h2⟩ := ht _ he
  exact h y h2 e h1
end
abbrev Snd (C : Ctx) (E : Env) (st : St) (g : aa1) (s : AS) (a : Act) (w : World) (o : Oper) (t : Tr Ef) : Prop := All (ab2 C E st g s a w o) t

theorem bcq {x : Operand} (R : Rel E st g s a w) (hg : aa5 C.gl st) (ho : o.op = .move x ∨ o.op = .assign x) : Snd C E st g s a w o (force (s.ev C x) fun x => ret (pe x)) := by
  rw [force_eq]
  exact All.ret (ab2.pure R (a.eval x) w (by rcases ho with ho | ho <;> simp [execOp, ho]) (aal.refl w) (aar R hg x))

theorem s_pick {c x y : Operand} (R : Rel E st g s a w) (hg : aa5 C.gl st) (ho : o.op = .pick c x y) : Snd C E st g s a w o (as5 C s c x y) := by
  unfold as5
  have hc := aar R hg c
  split
  · rename_i t ht
    rw [ht] at hc
    simp only [VR] at hc
    simp only [force_eq]
    have hx := aar R hg x
    have hy := aar R hg y
    have hr : (execOp a.eval o).run C.P w = .ok (.value (if t then a.eval x else a.eval y)) w := by simp [execOp, ho, hc, asBool]
    split
    · rename_i bx bY h1 h2
      refine All.ret (ab2.pure R _ w hr (aal.refl w) ?_)
      rw [h1] at hx; rw [h2] at hy
      cases t
      · simpa [VR] using hy
      · simpa [VR] using hx
    · refine All.brn (fun h => ?_) (fun h => ?_)
      · subst h; exact All.ret (ab2.pure R _ w hr (aal.refl w) (by simpa using hx))
      · subst h; exact All.ret (ab2.pure R _ w hr (aal.refl w) (by simpa using hy))
  · exact All.fail

theorem bek {t : TypeId} (R : Rel E st g s a w) (G : Good C) (ho : o.op = .alloc t) : Snd C E st g s a w o (ail C s t) := by
  unfold ail
  split
  · exact All.fail
  · rename_i hk
    simp only [force_eq, aae]
    refine All.when fun hu => All.ret ?_
    obtain ⟨z, hz, hz'⟩ := auh w (G.ti t) (fun h => hk h)
    refine ab2.a1c R z.cells t ?_ (adb (hz' st g _) (by simpa using hu))
    simp [execOp, ho, Instr.alloc, hz, newVar, newRow]

theorem s_box {t : TypeId} {x : Operand} (R : Rel E st g s a w) (hg : aa5 C.gl st) (ho : o.op = .box t x) :
    Snd C E st g s a w o (force (s.ev C x) fun x => aag s.sg.length fun n => ab6 (!x.isU) (ret ⟨.ptr n 0, [], [], [.cells x.cells], []⟩)) := by
  simp only [force_eq, aae]
  refine All.when fun hu => All.ret ?_
  refine ab2.a1c R (a.eval x).cells t ?_ (adb (aar R hg x) (by simpa using hu))
  simp [execOp, ho, Instr.box, newVar, newRow]

theorem aq2 {agg : Bool} {size off : Nat} {cs : List V} {v : V} (h : ∀ K : V → Prop, K v → akj agg size cs off K) :
    (agg = true ∧ (size = 0 ∨ off + size ≤ cs.length) ∧ v = .agg ((cs.drop off).take size)) ∨ (agg = false ∧ cs[off]? = some v) := by
  have h := h (fun x => x = v) rfl
  unfold akj at h
  cases agg
  · cases hr : a4z cs off with
    | none => simp only [ao5, hr, ari] at h
    | some r =>
      simp only [ao5, hr, ari] at h
      rw [aty] at hr
      cases h
      exact .inr ⟨rfl, hr⟩
  · cases hr : aju (amk cs off) size with
    | none => simp only [ao5, hr, ari] at h
    | some r =>
      simp only [ao5, hr, ari] at h
      obtain ⟨h1, h2⟩ := av0 hr
      rw [aoi] at h1 h2
      subst h1
      cases h
      simp only [List.length_drop] at h2
      exact .inl ⟨rfl, by omega, rfl⟩

theorem ai0 {t : TypeId} {b o : Nat} {cs : List V} {vs : List Value} {v : V} {n : Nat} (G : Good C) (hk : (C.ti t).k ≠ .other) (hc : VRs st g cs n vs)
    (hw : ∀ j, j < vs.length → w.cell? ⟨b, o + j, none⟩ = vs[j]?) {off : Nat} (h : ∀ K : V → Prop, K v → akj (C.ti t).k.isAgg (C.ti t).size cs off K) :
    ∃ u, (loadVar t ⟨b, o + off, none⟩).run C.P w = .ok u w ∧ VR st g v n u := by
  rcases aq2 h with ⟨h1, h2, rfl⟩ | ⟨h1, h2⟩
  · have hl := aad hc
    have hlen : (C.ti t).size = ((vs.drop off).take (C.ti t).size).length := by simp; omega
    refine ⟨.agg ((vs.drop off).take (C.ti t).size).toArray, ?_, ?_⟩
    · have := run_loadCells_list (P := C.P) w ⟨b, o + off, none⟩ ((vs.drop off).take (C.ti t).size) (fun j v hj => by
        rw [Addr.add_lit]
        rw [List.getElem?_take] at hj
        split at hj
        · rw [List.getElem?_drop] at hj
          have hlt : off + j < vs.length := by
            rcases Nat.lt_or_ge (off + j) vs.length with h' | h'
            · exact h'
            · simp [List.getElem?_eq_none h'] at hj
          have := hw (off + j) hlt
          rw [hj] at this
          rw [Nat.add_assoc]; exact this
        · cases hj)
      rw [← hlen] at this
      simp [loadVar, aos w (G.ti t) hk, h1, aby w (G.ti t) hk, this]
    · simp only [VR]
      exact ⟨_, rfl, by simpa using aoe (aod hc)⟩
  · obtain ⟨u, h3, h4⟩ := afq hc h2
    have hlt : off < vs.length := by
      rcases Nat.lt_or_ge off vs.length with h' | h'
      · exact h'
      · simp [List.getElem?_eq_none h'] at h3
    refine ⟨u, ?_, h4⟩
    have := hw off hlt
    rw [h3] at this
    simp [loadVar, aos w (G.ti t) hk, h1, this]

theorem a1j {t : TypeId} {cs : List V} {vs : Array Value} {v : V} {n off : Nat} (G : Good C) (hk : (C.ti t).k ≠ .other) (hc : VRs st g cs n vs.toList)
    (h : ∀ K : V → Prop, K v → akj (C.ti t).k.isAgg (C.ti t).size cs off K) : ∃ u, (part t vs off).run C.P w = .ok u w ∧ VR st g v n u := by
  rcases aq2 h with ⟨h1, h2, rfl⟩ | ⟨h1, h2⟩
  · refine ⟨.agg (vs.extract off (off + (C.ti t).size)), ?_, ?_⟩
    · simp [part, aos w (G.ti t) hk, h1, aby w (G.ti t) hk]
    · simp only [VR]
      refine ⟨_, rfl, ?_⟩
      rw [Array.toList_extract, List.extract_eq_take_drop]
      simpa using aoe (aod hc)
  · obtain ⟨u, h3, h4⟩ := afq hc h2
    refine ⟨u, ?_, h4⟩
    have h3' : vs[off]? = some u := by simpa using h3
    simp [part, aos w (G.ti t) hk, h1, h3']

theorem ami {E : Env} {sg : List O} (W : abj E st g sg w) {i : Nat} {cs : List V} (hi : sg[i]? = some (.cells cs)) : ∃ b c el fr, (g i).blk = some b ∧ E.G b ∧ w.heap[b]? = some (.cells c el fr) ∧ VRs st g cs sg.length c.toList ∧ aw9 c fr ∧ ∀ o, st b o = none :=
  W.ob i _ hi

theorem s_load {t : TypeId} {x : Operand} (R : Rel E st g s a w) (hg : aa5 C.gl st) (G : Good C) (ho : o.op = .load t x) : Snd C E st g s a w o (al8 C s t x) := by
  unfold al8
  simp only [afy]
  split
  · exact All.fail
  rename_i hk
  have hk : (C.ti t).k ≠ .other := fun h => hk h
  have hx := aar R hg x
  split
  · rename_i cs off he
    rw [he] at hx
    simp only [VR] at hx
    obtain ⟨b, of, vs, h1, h2, h3⟩ := hx
    refine All.bind (aaw _ _ _ _) fun v hv => ?_
    rw [force_eq]
    have hcell : ∀ j, j < vs.length → w.cell? ⟨b, of + j, none⟩ = vs[j]? := fun j hj => by
      have h4 := h3 j hj
      rw [List.getElem?_eq_getElem hj] at h4 ⊢
      exact R.wr.stw _ _ _ h4
    obtain ⟨u, h5, h6⟩ := ai0 (w := w) (b := b) (o := of) G hk h2 hcell hv
    refine All.ret (ab2.pure R u w ?_ (aal.refl w) (ady (fun _ _ _ h => h) (fun i _ hi => absurd hi (Nat.not_lt_zero _)) h6))
    simp [execOp, ho, Instr.loadAt, h1, Instr.sureAddr, h5]
  · rename_i i off he
    rw [he] at hx
    simp only [VR] at hx
    obtain ⟨hi, b, hb, h1⟩ := hx
    split
    · rename_i cs hs
      obtain ⟨hs1, _⟩ := ab1 hs (by simp)
      obtain ⟨b', c, el, fr, k1, k2, k3, k4, k5, k6⟩ := ami R.wr hs1
      rw [hb] at k1; cases k1
      refine All.bind (aaw _ _ _ _) fun v hv => ?_
      rw [force_eq]
      have hcell : ∀ j, j < c.toList.length → w.cell? ⟨b, 0 + j, none⟩ = c.toList[j]? := fun j hj => by rw [abo k3]; simp
      obtain ⟨u, h5, h6⟩ := ai0 (w := w) (b := b) (o := 0) G hk k4 hcell hv
      refine All.ret (ab2.pure R u w ?_ (aal.refl w) h6)
      rw [Nat.zero_add] at h5
      simp [execOp, ho, Instr.loadAt, h1, Instr.sureAddr, h5]
    · exact All.fail
  · rename_i i idx off he
    rw [he] at hx
    simp only [VR] at hx
    obtain ⟨hi, b, hb, h1⟩ := hx
    split
    · rename_i sz pre l hs
      obtain ⟨hs1, _⟩ := ab1 hs (by simp)
      obtain ⟨q1, q2, q3, q4, q5, q6, q7⟩ := R.wr.ob i _ hs1
      refine All.opt fun y hy => All.when fun hu => All.bind (aaw _ _ _ _) fun v hv => ?_
      rw [force_eq]
      rcases q7 with ⟨_, q7⟩ | ⟨b', c, el, fr, k1, k2, k3, k4, k5, k6, _⟩
      · rw [hb] at q7; cases q7
      · rw [hb] at k1; cases k1
        obtain ⟨u, r1, r2, r3, r4⟩ := ab8.1 k6 idx y hy
        have r5 := adb r1 (by simpa using hu)
        have hcell : ∀ j, j < u.cells.toList.length → w.cell? ⟨b, idx * sz + j, none⟩ = u.cells.toList[j]? := fun j hj => by
          rw [abo k4]
          have := r4 j (by rw [← r2]; simpa using hj)
          rw [Nat.zero_add] at this
          simpa using this
        obtain ⟨u', h5, h6⟩ := ai0 (w := w) (b := b) (o := idx * sz) G hk r5 hcell hv
        refine All.ret (ab2.pure R u' w ?_ (aal.refl w) (ady (fun _ _ _ h => h) (fun i _ hi => absurd hi (Nat.not_lt_zero _)) h6))
        rw [q2] at h1
        simp [execOp, ho, Instr.loadAt, h1, Instr.sureAddr, h5]
    · exact All.fail
  · exact All.fail

theorem a4j {x : Operand} (R : Rel E st g s a w) (hg : aa5 C.gl st) (ho : o.op = .nilCheck x) : Snd C E st g s a w o (ae0 C s x) := by
  unfold ae0
  have hx := aar R hg x
  split
  all_goals first
    | exact All.fail
    | skip
  all_goals
    rename_i he
    rw [he] at hx
    have hx' := hx
    simp only [VR] at hx
  · obtain ⟨_, b, _, h1⟩ := hx
    exact All.ret (ab2.pure R (a.eval x) w (by simp [execOp, ho, h1]) (aal.refl w) hx')
  · obtain ⟨_, b, _, h1⟩ := hx
    exact All.ret (ab2.pure R (a.eval x) w (by simp [execOp, ho, h1]) (aal.refl w) hx')
  · obtain ⟨b, _, _, h1, _⟩ := hx
    exact All.ret (ab2.pure R (a.eval x) w (by simp [execOp, ho, h1]) (aal.refl w) hx')
  · obtain ⟨b, _, h1, _⟩ := hx
    exact All.ret (ab2.pure R (a.eval x) w (by simp [execOp, ho, h1]) (aal.refl w) hx')
  · obtain ⟨b, h1, _⟩ := hx
    exact All.ret (ab2.pure R (a.eval x) w (by simp [execOp, ho, h1]) (aal.refl w) hx')

theorem azz {t : TypeId} {x : Operand} (R : Rel E st g s a w) (hg : aa5 C.gl st) (G : Good C) (ho : o.op = .makeInterface t x) : Snd C E st g s a w o (aek C s t x) := by
  unfold aek
  split
  · exact All.fail
  · exact All.fail
  · rename_i h1 h2
    rw [force_eq]
    refine All.when fun hu => All.ret ?_
    refine ab2.pure R (.iface t (a.eval x)) w ?_ (aal.refl w) (by simp only [VR]; exact ⟨_, rfl, aar R hg x⟩)
    obtain ⟨h3, _⟩ := (G.ti t).of (fun h => h1 h)
    cases hk' : (C.ti t).k <;> rw [hk'] at h3 <;> simp only [TK.ok] at h3
    case struct fs => obtain ⟨f, h3, _⟩ := h3; simp [execOp, ho, Instr.makeInterface, run_underlying h3]
    case iface => exact absurd hk' (fun h => h2 h)
    case func => obtain ⟨p, q, r, h3⟩ := h3; simp [execOp, ho, Instr.makeInterface, run_underlying h3]
    all_goals simp [execOp, ho, Instr.makeInterface, run_underlying h3]

theorem a4h {fn : Fn} {xs ys : Array Operand} (R : Rel E st g s a w) (hg : aa5 C.gl st) (ho : o.op = .makeFunc fn xs ys) :
    Snd C E st g s a w o (agk (s.evs C xs.toList) fun a => agk (s.evs C ys.toList) fun b => ret (pe (.func fn a b))) := by
  simp only [ael]
  refine All.ret (ab2.pure R (.func fn (xs.map a.eval) (ys.map a.eval)) w (by simp [execOp, ho, Instr.makeFunc]) (aal.refl w) ?_)
  simp only [VR]
  exact ⟨_, _, rfl, by simpa using as6 R hg xs.toList, by simpa using as6 R hg ys.toList⟩

theorem a8h {x : Operand} {i : Nat} (R : Rel E st g s a w) (hg : aa5 C.gl st) (ho : o.op = .extract x i) : Snd C E st g s a w o (ah6 C s x i) := by
  unfold ah6
  have hx := aar R hg x
  split
  · rename_i vs he
    rw [he] at hx
    simp only [VR] at hx
    obtain ⟨us, h1, h2⟩ := hx
    refine All.opt fun v hv => ?_
    rw [force_eq]
    rw [aty] at hv
    obtain ⟨u, h3, h4⟩ := afq h2 hv
    have h3' : us[i]? = some u := by simpa using h3
    exact All.ret (ab2.pure R u w (by simp [execOp, ho, h1, Instr.extract, h3']) (aal.refl w) h4)
  · exact All.fail

theorem a6l : ∀ {fs : List (Nat × TypeId)} {i : Nat} {x : Nat × TypeId}, a92 fs i = some x → fs[i]? = some x
  | [], i, x, h => by simp [a92] at h
  | y :: ys, 0, x, h => by simpa [a92] using h
  | y :: ys, i + 1, x, h => by simpa [a92] using a6l (fs := ys) (by simpa [a92] using h)
theorem att {fields : Array Field} {fs : List (Nat × TypeId)} (h : fields.toList.map (fun f => (f.offset, f.type)) = fs) {i : Nat} {x : Nat × TypeId} (hx : a92 fs i = some x) :
    ∃ f, fields[i]? = some f ∧ f.offset = x.1 ∧ f.type = x.2 := by
  have := a6l hx
  rw [← h, List.getElem?_map] at this
  cases hf : fields.toList[i]? with
  | none => rw [hf] at this; cases this
  | some f => rw [hf] at this; cases this; exact ⟨f, by simpa using hf, rfl, rfl⟩

theorem ben {t : TypeId} {x : Operand} {f : Nat} (R : Rel E st g s a w) (hg : aa5 C.gl st) (G : Good C) (ho : o.op = .field t x f) : Snd C E st g s a w o (aim C s t x f) := by
  unfold aim
  have hx := aar R hg x
  split
  · rename_i fs cs hk he
    rw [he] at hx
    simp only [VR] at hx
    obtain ⟨us, h1, h2⟩ := hx
    obtain ⟨h3, _⟩ := (G.ti t).of (by rw [hk]; simp)
    rw [hk] at h3
    obtain ⟨fields, h3, h4, _⟩ := h3
    refine All.opt fun ft hft => ?_
    split
    · exact All.fail
    rename_i hk2
    refine All.bind (aaw _ _ _ _) fun v hv => ?_
    rw [force_eq]
    obtain ⟨fd, h5, h6, h7⟩ := att h4 hft
    obtain ⟨u, h8, h9⟩ := a1j (w := w) G (fun h => hk2 h) h2 hv
    refine All.ret (ab2.pure R u w ?_ (aal.refl w) h9)
    simp [execOp, ho, Instr.field, run_underlying h3, h5, h1, asAgg, h6, h7, h8]
  · exact All.fail

theorem azx {t : TypeId} {x : Operand} {f : Nat} (R : Rel E st g s a w) (hg : aa5 C.gl st) (G : Good C) (ho : o.op = .fieldAddr t x f) : Snd C E st g s a w o (ad5 C s t x f) := by
  unfold ad5
  have hx := aar R hg x
  split
  · rename_i fs hk
    obtain ⟨h3, _⟩ := (G.ti t).of (by rw [hk]; simp)
    rw [hk] at h3
    obtain ⟨fields, h3, h4, _⟩ := h3
    refine All.opt fun ft hft => ?_
    split
    · exact All.fail
    rename_i hk2
    refine All.when fun hsz => ?_
    obtain ⟨fd, h5, h6, h7⟩ := att h4 hft
    have hsz' := Nat.le_of_ble_eq_true hsz
    have hs0 : ¬ (C.ti fd.type).size = 0 := by rw [h7]; omega
    have hrs := aby w (G.ti fd.type) (by rw [h7]; exact fun h => hk2 h)
    have hr : ∀ ad : Addr, a.eval x = .pointer (some ad) → (execOp a.eval o).run C.P w = .ok (.value (.pointer (some (ad.add ft.1)))) w := fun ad had => by
      simp [execOp, ho, Instr.fieldAt, run_underlying h3, h5, had, Instr.sureAddr, fieldPlace, hrs, hs0, h6]
    split
    · rename_i i off he
      rw [he] at hx
      simp only [VR] at hx
      obtain ⟨hi, b, hb, h1⟩ := hx
      rw [aae]
      refine All.ret (ab2.pure R _ w (hr _ h1) (aal.refl w) ?_)
      simp only [VR]
      exact ⟨hi, b, hb, by rw [Addr.add_lit]⟩
    · rename_i i j off he
      rw [he] at hx
      simp only [VR] at hx
      obtain ⟨hi, b, hb, h1⟩ := hx
      rw [aae]
      refine All.ret (ab2.pure R _ w (hr _ h1) (aal.refl w) ?_)
      simp only [VR]
      exact ⟨hi, b, hb, by rw [Addr.add_lit, Nat.add_assoc]⟩
    · rename_i cs off he
      rw [he] at hx
      simp only [VR] at hx
      obtain ⟨b, of, vs, h1, h2, h8⟩ := hx
      rw [aae]
      refine All.ret (ab2.pure R _ w (hr _ h1) (aal.refl w) ?_)
      simp only [VR]
      exact ⟨b, of, vs, by rw [Addr.add_lit, Nat.add_assoc], h2, h8⟩
    · exact All.fail
  · exact All.fail
end
end Go.VG
