/-
  A part of the proof.
-/
import Derived.Test.YtipejldppicijaaGreatDoorVgD
set_option linter.unusedSimpArgs false
set_option linter.unusedVariables false
namespace Go.VG
open Go

def a6 {α : Type} (t : Tr α) : Prop := ∀ K : α → Prop, t K → ∃ a, K a ∧ ∀ K' : α → Prop, K' a → t K'

section
variable {α β : Type}
theorem a6.ret (a : α) : a6 (ret a) := fun _ h => ⟨a, h, fun _ h => h⟩
theorem a6.fail : a6 (fail : Tr α) := fun _ h => h.elim
theorem a6.aw {A : Prop} {t : Tr α} (h : a6 t) : a6 (aw A t) := fun K hk => let ⟨a, h1, h2⟩ := h K hk.2; ⟨a, h1, fun K' k => ⟨hk.1, h2 K' k⟩⟩
theorem a6.when {b : Bool} {t : Tr α} (h : a6 t) : a6 (b7 b t) := fun K hk => by
 cases b with
 | false => exact hk.elim
 | true => exact h K hk
theorem a6.opt {o : Option α} {f : α → Tr β} (h : ∀ a, a6 (f a)) : a6 (cT o f) := fun K hk => by
 cases o with
 | none => exact hk.elim
 | some a => exact h a K hk
theorem a6.bo {b : Bool} {t u : Tr α} (ht : a6 t) (hu : a6 u) : a6 (iD b t u) := fun K hk => by
 cases b with
 | false => exact hu K hk
 | true => exact ht K hk
theorem a6.cG {o : Option α} {h : α → Tr β} {u : Tr β} (hf : ∀ a, a6 (h a)) (hu : a6 u) : a6 (cG o h u) := fun K hk => by
 cases o with
 | none => obtain ⟨a, h1, h2⟩ := hu K (hk.2 rfl); exact ⟨a, h1, fun K' k => ⟨fun _ q => (by cases q), fun _ => h2 K' k⟩⟩
 | some x => obtain ⟨a, h1, h2⟩ := hf x K (hk.1 x rfl); exact ⟨a, h1, fun K' k => ⟨fun _ q => (by cases q; exact h2 K' k), fun q => (by cases q)⟩⟩
theorem a6.idx {l : List α} {n : Nat} {f : α → Tr β} (h : ∀ a, a6 (f a)) : a6 (l5 l n f) := by rw [iM]; exact a6.opt h
theorem a6.bind {t : Tr α} {f : α → Tr β} (ht : a6 t) (hf : ∀ a, a6 (f a)) : a6 (dt t f) := fun K hk => by
 obtain ⟨a, h1, h2⟩ := ht _ hk
 obtain ⟨b, h3, h4⟩ := hf a K h1
 exact ⟨b, h3, fun K' k => h2 _ (h4 K' k)⟩
theorem a6.ex {f : α → Tr β} (h : ∀ a, a6 (f a)) : a6 (exT f) := fun K ⟨a, hk⟩ => let ⟨b, h1, h2⟩ := h a K hk; ⟨b, h1, fun K' k => ⟨a, h2 K' k⟩⟩
theorem a6.force {x : V} {f : V → Tr α} (h : ∀ x, a6 (f x)) : a6 (force x f) := by rw [force_eq]; exact h x
theorem a6.aZ {x : Nat} {f : Nat → Tr α} (h : ∀ x, a6 (f x)) : a6 (aZ x f) := by rw [cy]; exact h x
theorem a6.bQ {x : List V} {f : List V → Tr α} (h : ∀ x, a6 (f x)) : a6 (kV x f) := by rw [px]; exact h x
theorem a6.cut {a : List α} {r : Option Int × Option Int} {f : List α → Tr β} (h : ∀ x, a6 (f x)) : a6 (pc a r f) := by rw [pd]; exact h _
theorem a6.cF (r : Option (Prop × Ef)) : a6 (cF r) := by
 refine a6.opt fun p => a6.aw fun K hk => ?_
 rw [gd] at hk
 exact ⟨p.2, hk, fun K' k => by rw [gd]; exact k⟩
end

theorem zf (C : Ctx) (op : BinOp) (t : TypeId) (x y : V) : a6 (jC C op t x y) := by
 unfold jC
 repeat' first
  | with_reducible exact a6.ret _
  | with_reducible exact a6.fail
  | with_reducible refine a6.aw ?_
  | with_reducible refine a6.when ?_
  | (with_reducible refine a6.opt fun _ => ?_)
  | (with_reducible refine a6.idx fun _ => ?_)
  | (with_reducible refine a6.bQ fun _ => ?_)
  | split
theorem zk (op : UnOp) (x : V) : a6 (pr op x) := by
 unfold pr; split <;> first | with_reducible exact a6.ret _ | with_reducible exact a6.fail
theorem d8 (agg : Bool) (size : Nat) (cs : List V) (off : Nat) : a6 (fQ agg size cs off) := by
 unfold fQ; split <;> exact a6.opt fun _ => a6.ret _
theorem ku (s : AS) (x : V) : a6 (elems s x) := by
 unfold elems
 repeat' first
  | with_reducible exact a6.ret _
  | with_reducible exact a6.fail
  | split
theorem EO (C : Ctx) (s : AS) (e : TypeId) (x : V) (ys : List V) (rd : List Nat) : a6 (kA C s e x ys rd) := by
 unfold kA
 repeat' first
  | with_reducible exact a6.ret _
  | with_reducible exact a6.fail
  | with_reducible refine a6.aw ?_
  | with_reducible refine a6.when ?_
  | (with_reducible refine a6.aZ fun _ => ?_)
  | split
theorem EN (C : Ctx) (s : AS) (e : TypeId) (sz : Nat) (x : V) (ys : List V) (rd : List Nat) : a6 (kC C s e sz x ys rd) := by
 unfold kC
 split
 . repeat' first
  | with_reducible exact a6.ret _
  | with_reducible refine a6.aw ?_
  | with_reducible refine a6.when ?_
  | (with_reducible refine a6.aZ fun _ => ?_)
 . exact EO _ _ _ _ _ _
theorem lh {C : Ctx} {s : AS} {t : TypeId} {m : V} {F : Nat → Bool → List Sc → List (V × Int) → List Nat → Nat → Tr Ef} (h : ∀ i ag sh es bs ck, a6 (F i ag sh es bs ck)) : a6 (dw C s t m F) := by
 unfold dw
 refine a6.opt fun p => ?_
 split
 . split
   . exact a6.when (h _ _ _ _ _ _)
   . exact a6.fail
 . exact a6.fail
theorem F9 (C : Ctx) (s : AS) (t : TypeId) : a6 (kK C s t) := by
 unfold kK
 repeat' first
  | with_reducible exact a6.ret _
  | with_reducible exact a6.fail
  | with_reducible refine a6.aw ?_
  | with_reducible refine a6.when ?_
  | (with_reducible refine lh fun _ _ _ _ _ _ => ?_)
  | (with_reducible refine a6.opt fun _ => ?_)
  | (with_reducible refine a6.cG (fun _ => ?_) ?_)
  | (with_reducible refine a6.idx fun _ => ?_)
  | (with_reducible refine a6.force fun _ => ?_)
  | (with_reducible refine a6.aZ fun _ => ?_)
  | (with_reducible refine a6.ex fun _ => ?_)
  | split
theorem F7 (C : Ctx) (s : AS) (t : TypeId) (m x : Operand) (ok : Bool) : a6 (gY C s t m x ok) := by
 unfold gY
 repeat' first
  | with_reducible exact a6.ret _
  | with_reducible exact a6.fail
  | with_reducible refine a6.aw ?_
  | with_reducible refine a6.when ?_
  | (with_reducible refine lh fun _ _ _ _ _ _ => ?_)
  | (with_reducible refine a6.opt fun _ => ?_)
  | (with_reducible refine a6.cG (fun _ => ?_) ?_)
  | (with_reducible refine a6.idx fun _ => ?_)
  | (with_reducible refine a6.force fun _ => ?_)
  | (with_reducible refine a6.aZ fun _ => ?_)
  | (with_reducible refine a6.ex fun _ => ?_)
  | split
theorem Fc (C : Ctx) (s : AS) (t : TypeId) (m x y : Operand) : a6 (kM C s t m x y) := by
 unfold kM
 repeat' first
  | with_reducible exact a6.ret _
  | with_reducible exact a6.fail
  | with_reducible refine a6.aw ?_
  | with_reducible refine a6.when ?_
  | (with_reducible refine lh fun _ _ _ _ _ _ => ?_)
  | (with_reducible refine a6.opt fun _ => ?_)
  | (with_reducible refine a6.cG (fun _ => ?_) ?_)
  | (with_reducible refine a6.idx fun _ => ?_)
  | (with_reducible refine a6.force fun _ => ?_)
  | (with_reducible refine a6.aZ fun _ => ?_)
  | (with_reducible refine a6.ex fun _ => ?_)
  | split
theorem Fb (C : Ctx) (s : AS) (t : TypeId) (m x : Operand) : a6 (ja C s t m x) := by
 unfold ja
 repeat' first
  | with_reducible exact a6.ret _
  | with_reducible exact a6.fail
  | with_reducible refine a6.aw ?_
  | with_reducible refine a6.when ?_
  | (with_reducible refine lh fun _ _ _ _ _ _ => ?_)
  | (with_reducible refine a6.opt fun _ => ?_)
  | (with_reducible refine a6.cG (fun _ => ?_) ?_)
  | (with_reducible refine a6.idx fun _ => ?_)
  | (with_reducible refine a6.force fun _ => ?_)
  | (with_reducible refine a6.aZ fun _ => ?_)
  | (with_reducible refine a6.ex fun _ => ?_)
  | split
theorem EX (C : Ctx) (s : AS) (t : TypeId) (m b y : Operand) : a6 (kE C s t m b y) := by
 unfold kE
 repeat' first
  | with_reducible exact a6.ret _
  | with_reducible exact a6.fail
  | with_reducible refine a6.aw ?_
  | with_reducible refine a6.when ?_
  | (with_reducible refine lh fun _ _ _ _ _ _ => ?_)
  | (with_reducible refine a6.opt fun _ => ?_)
  | (with_reducible refine a6.cG (fun _ => ?_) ?_)
  | (with_reducible refine a6.idx fun _ => ?_)
  | (with_reducible refine a6.force fun _ => ?_)
  | (with_reducible refine a6.aZ fun _ => ?_)
  | (with_reducible refine a6.ex fun _ => ?_)
  | split
theorem EW (C : Ctx) (s : AS) (t : TypeId) (m x : V) : a6 (kD C s t m x) := by
 unfold kD
 repeat' first
  | with_reducible exact a6.ret _
  | with_reducible exact a6.fail
  | with_reducible refine a6.aw ?_
  | with_reducible refine a6.when ?_
  | (with_reducible refine lh fun _ _ _ _ _ _ => ?_)
  | (with_reducible refine a6.opt fun _ => ?_)
  | (with_reducible refine a6.cG (fun _ => ?_) ?_)
  | (with_reducible refine a6.idx fun _ => ?_)
  | (with_reducible refine a6.force fun _ => ?_)
  | (with_reducible refine a6.aZ fun _ => ?_)
  | (with_reducible refine a6.ex fun _ => ?_)
  | split
theorem F4 (C : Ctx) (s : AS) (t : TypeId) (m : V) : a6 (kJ C s t m) := by
 unfold kJ
 repeat' first
  | with_reducible exact a6.ret _
  | with_reducible exact a6.fail
  | with_reducible refine a6.aw ?_
  | with_reducible refine a6.when ?_
  | (with_reducible refine lh fun _ _ _ _ _ _ => ?_)
  | (with_reducible refine a6.opt fun _ => ?_)
  | (with_reducible refine a6.cG (fun _ => ?_) ?_)
  | (with_reducible refine a6.idx fun _ => ?_)
  | (with_reducible refine a6.force fun _ => ?_)
  | (with_reducible refine a6.aZ fun _ => ?_)
  | (with_reducible refine a6.ex fun _ => ?_)
  | split
theorem EY (C : Ctx) (s : AS) (x : Operand) : a6 (mg C s x) := by
 unfold mg
 repeat' first
  | with_reducible exact a6.ret _
  | with_reducible exact a6.fail
  | with_reducible refine a6.aw ?_
  | with_reducible refine a6.when ?_
  | (with_reducible refine lh fun _ _ _ _ _ _ => ?_)
  | (with_reducible refine a6.opt fun _ => ?_)
  | (with_reducible refine a6.cG (fun _ => ?_) ?_)
  | (with_reducible refine a6.idx fun _ => ?_)
  | (with_reducible refine a6.force fun _ => ?_)
  | (with_reducible refine a6.aZ fun _ => ?_)
  | (with_reducible refine a6.ex fun _ => ?_)
  | split
theorem EU (C : Ctx) (s : AS) (b : Builtin) (ts : List TypeId) (args : List V) : a6 (iI C s b ts args) := by
 unfold iI
 repeat' first
  | with_reducible exact a6.ret _
  | with_reducible exact a6.fail
  | with_reducible exact EN _ _ _ _ _ _ _
  | with_reducible exact EW _ _ _ _ _
  | with_reducible refine a6.aw ?_
  | with_reducible refine a6.when ?_
  | (with_reducible refine a6.bind (ku _ _) fun _ => ?_)
  | (with_reducible refine a6.aZ fun _ => ?_)
  | split
theorem zh (C : Ctx) (s : AS) (a b : TypeId) (x : V) : a6 (gH C s a b x) := by
 unfold gH
 repeat' first
  | with_reducible exact a6.ret _
  | with_reducible exact a6.fail
  | with_reducible refine a6.aw ?_
  | with_reducible refine a6.when ?_
  | (with_reducible refine a6.bind (ku _ _) fun _ => ?_)
  | (with_reducible refine a6.ex fun _ => ?_)
  | split
theorem dE (C : Ctx) (s : AS) (len : Nat) (lo hi : Option Operand) : a6 (ga C s len lo hi) := by
 unfold ga
 repeat' first
  | with_reducible exact a6.ret _
  | with_reducible exact a6.fail
  | with_reducible refine a6.aw ?_
  | split

theorem Fj (C : Ctx) (s : AS) (c a b : Operand) : a6 (nA C s c a b) := by
 unfold nA
 repeat' first
  | with_reducible exact a6.ret _
  | with_reducible exact a6.fail
  | with_reducible exact a6.cF _
  | with_reducible refine a6.aw ?_
  | with_reducible refine a6.when ?_
  | (with_reducible refine a6.opt fun _ => ?_)
  | (with_reducible refine a6.idx fun _ => ?_)
  | (with_reducible refine a6.bQ fun _ => ?_)
  | with_reducible refine a6.bo ?_ ?_
  | (with_reducible refine a6.force fun _ => ?_)
  | (with_reducible refine a6.aZ fun _ => ?_)
  | (with_reducible refine a6.cut fun _ => ?_)
  | (with_reducible refine a6.ex fun _ => ?_)
  | (with_reducible refine a6.bind (d8 _ _ _ _) fun _ => ?_)
  | (with_reducible refine a6.bind (dE _ _ _ _ _) fun _ => ?_)
  | split
theorem EM (C : Ctx) (s : AS) (t : TypeId) : a6 (kz C s t) := by
 unfold kz
 repeat' first
  | with_reducible exact a6.ret _
  | with_reducible exact a6.fail
  | with_reducible exact a6.cF _
  | with_reducible refine a6.aw ?_
  | with_reducible refine a6.when ?_
  | (with_reducible refine a6.opt fun _ => ?_)
  | (with_reducible refine a6.idx fun _ => ?_)
  | (with_reducible refine a6.bQ fun _ => ?_)
  | with_reducible refine a6.bo ?_ ?_
  | (with_reducible refine a6.force fun _ => ?_)
  | (with_reducible refine a6.aZ fun _ => ?_)
  | (with_reducible refine a6.cut fun _ => ?_)
  | (with_reducible refine a6.ex fun _ => ?_)
  | (with_reducible refine a6.bind (d8 _ _ _ _) fun _ => ?_)
  | (with_reducible refine a6.bind (dE _ _ _ _ _) fun _ => ?_)
  | split
theorem ET (C : Ctx) (s : AS) (t : TypeId) (parts : Array (Nat × Operand)) : a6 (me C s t parts) := by
 unfold me
 repeat' first
  | with_reducible exact a6.ret _
  | with_reducible exact a6.fail
  | with_reducible exact a6.cF _
  | with_reducible refine a6.aw ?_
  | with_reducible refine a6.when ?_
  | (with_reducible refine a6.opt fun _ => ?_)
  | (with_reducible refine a6.idx fun _ => ?_)
  | (with_reducible refine a6.bQ fun _ => ?_)
  | with_reducible refine a6.bo ?_ ?_
  | (with_reducible refine a6.force fun _ => ?_)
  | (with_reducible refine a6.aZ fun _ => ?_)
  | (with_reducible refine a6.cut fun _ => ?_)
  | (with_reducible refine a6.ex fun _ => ?_)
  | (with_reducible refine a6.bind (d8 _ _ _ _) fun _ => ?_)
  | (with_reducible refine a6.bind (dE _ _ _ _ _) fun _ => ?_)
  | split
theorem po (C : Ctx) (s : AS) (t : TypeId) (len : Nat) (parts : Array (Nat × Operand)) : a6 (gG C s t len parts) := by
 unfold gG
 repeat' first
  | with_reducible exact a6.ret _
  | with_reducible exact a6.fail
  | with_reducible exact a6.cF _
  | with_reducible refine a6.aw ?_
  | with_reducible refine a6.when ?_
  | (with_reducible refine a6.opt fun _ => ?_)
  | (with_reducible refine a6.idx fun _ => ?_)
  | (with_reducible refine a6.bQ fun _ => ?_)
  | with_reducible refine a6.bo ?_ ?_
  | (with_reducible refine a6.force fun _ => ?_)
  | (with_reducible refine a6.aZ fun _ => ?_)
  | (with_reducible refine a6.cut fun _ => ?_)
  | (with_reducible refine a6.ex fun _ => ?_)
  | (with_reducible refine a6.bind (d8 _ _ _ _) fun _ => ?_)
  | (with_reducible refine a6.bind (dE _ _ _ _ _) fun _ => ?_)
  | split
theorem F6 (C : Ctx) (s : AS) (t : TypeId) (a : Operand) : a6 (jD C s t a) := by
 unfold jD
 repeat' first
  | with_reducible exact a6.ret _
  | with_reducible exact a6.fail
  | with_reducible exact a6.cF _
  | with_reducible refine a6.aw ?_
  | with_reducible refine a6.when ?_
  | (with_reducible refine a6.opt fun _ => ?_)
  | (with_reducible refine a6.idx fun _ => ?_)
  | (with_reducible refine a6.bQ fun _ => ?_)
  | with_reducible refine a6.bo ?_ ?_
  | (with_reducible refine a6.force fun _ => ?_)
  | (with_reducible refine a6.aZ fun _ => ?_)
  | (with_reducible refine a6.cut fun _ => ?_)
  | (with_reducible refine a6.ex fun _ => ?_)
  | (with_reducible refine a6.bind (d8 _ _ _ _) fun _ => ?_)
  | (with_reducible refine a6.bind (dE _ _ _ _ _) fun _ => ?_)
  | split
theorem Fm (C : Ctx) (s : AS) (t : TypeId) (a x : Operand) : a6 (kP C s t a x) := by
 unfold kP
 repeat' first
  | with_reducible exact a6.ret _
  | with_reducible exact a6.fail
  | with_reducible exact a6.cF _
  | with_reducible refine a6.aw ?_
  | with_reducible refine a6.when ?_
  | (with_reducible refine a6.opt fun _ => ?_)
  | (with_reducible refine a6.idx fun _ => ?_)
  | (with_reducible refine a6.bQ fun _ => ?_)
  | with_reducible refine a6.bo ?_ ?_
  | (with_reducible refine a6.force fun _ => ?_)
  | (with_reducible refine a6.aZ fun _ => ?_)
  | (with_reducible refine a6.cut fun _ => ?_)
  | (with_reducible refine a6.ex fun _ => ?_)
  | (with_reducible refine a6.bind (d8 _ _ _ _) fun _ => ?_)
  | (with_reducible refine a6.bind (dE _ _ _ _ _) fun _ => ?_)
  | split
theorem Fg (C : Ctx) (s : AS) (x : Operand) : a6 (kO C s x) := by
 unfold kO
 repeat' first
  | with_reducible exact a6.ret _
  | with_reducible exact a6.fail
  | with_reducible exact a6.cF _
  | with_reducible refine a6.aw ?_
  | with_reducible refine a6.when ?_
  | (with_reducible refine a6.opt fun _ => ?_)
  | (with_reducible refine a6.idx fun _ => ?_)
  | (with_reducible refine a6.bQ fun _ => ?_)
  | with_reducible refine a6.bo ?_ ?_
  | (with_reducible refine a6.force fun _ => ?_)
  | (with_reducible refine a6.aZ fun _ => ?_)
  | (with_reducible refine a6.cut fun _ => ?_)
  | (with_reducible refine a6.ex fun _ => ?_)
  | (with_reducible refine a6.bind (d8 _ _ _ _) fun _ => ?_)
  | (with_reducible refine a6.bind (dE _ _ _ _ _) fun _ => ?_)
  | split
theorem F8 (C : Ctx) (s : AS) (t : TypeId) (x : Operand) : a6 (ny C s t x) := by
 unfold ny
 repeat' first
  | with_reducible exact a6.ret _
  | with_reducible exact a6.fail
  | with_reducible exact a6.cF _
  | with_reducible refine a6.aw ?_
  | with_reducible refine a6.when ?_
  | (with_reducible refine a6.opt fun _ => ?_)
  | (with_reducible refine a6.idx fun _ => ?_)
  | (with_reducible refine a6.bQ fun _ => ?_)
  | with_reducible refine a6.bo ?_ ?_
  | (with_reducible refine a6.force fun _ => ?_)
  | (with_reducible refine a6.aZ fun _ => ?_)
  | (with_reducible refine a6.cut fun _ => ?_)
  | (with_reducible refine a6.ex fun _ => ?_)
  | (with_reducible refine a6.bind (d8 _ _ _ _) fun _ => ?_)
  | (with_reducible refine a6.bind (dE _ _ _ _ _) fun _ => ?_)
  | split
theorem Fa (C : Ctx) (s : AS) (t : TypeId) (l c : Operand) : a6 (kL C s t l c) := by
 unfold kL
 repeat' first
  | with_reducible exact a6.ret _
  | with_reducible exact a6.fail
  | with_reducible exact a6.cF _
  | with_reducible refine a6.aw ?_
  | with_reducible refine a6.when ?_
  | (with_reducible refine a6.opt fun _ => ?_)
  | (with_reducible refine a6.idx fun _ => ?_)
  | (with_reducible refine a6.bQ fun _ => ?_)
  | with_reducible refine a6.bo ?_ ?_
  | (with_reducible refine a6.force fun _ => ?_)
  | (with_reducible refine a6.aZ fun _ => ?_)
  | (with_reducible refine a6.cut fun _ => ?_)
  | (with_reducible refine a6.ex fun _ => ?_)
  | (with_reducible refine a6.bind (d8 _ _ _ _) fun _ => ?_)
  | (with_reducible refine a6.bind (dE _ _ _ _ _) fun _ => ?_)
  | split
theorem Fk (C : Ctx) (s : AS) (t : TypeId) (x : Operand) (lo hi mx : Option Operand) : a6 (ml C s t x lo hi mx) := by
 unfold ml
 repeat' first
  | with_reducible exact a6.ret _
  | with_reducible exact a6.fail
  | with_reducible exact a6.cF _
  | with_reducible refine a6.aw ?_
  | with_reducible refine a6.when ?_
  | (with_reducible refine a6.opt fun _ => ?_)
  | (with_reducible refine a6.idx fun _ => ?_)
  | (with_reducible refine a6.bQ fun _ => ?_)
  | with_reducible refine a6.bo ?_ ?_
  | (with_reducible refine a6.force fun _ => ?_)
  | (with_reducible refine a6.aZ fun _ => ?_)
  | (with_reducible refine a6.cut fun _ => ?_)
  | (with_reducible refine a6.ex fun _ => ?_)
  | (with_reducible refine a6.bind (d8 _ _ _ _) fun _ => ?_)
  | (with_reducible refine a6.bind (dE _ _ _ _ _) fun _ => ?_)
  | split
theorem F0 (C : Ctx) (s : AS) (t : TypeId) (x : Operand) (f : Nat) : a6 (kG C s t x f) := by
 unfold kG
 repeat' first
  | with_reducible exact a6.ret _
  | with_reducible exact a6.fail
  | with_reducible exact a6.cF _
  | with_reducible refine a6.aw ?_
  | with_reducible refine a6.when ?_
  | (with_reducible refine a6.opt fun _ => ?_)
  | (with_reducible refine a6.idx fun _ => ?_)
  | (with_reducible refine a6.bQ fun _ => ?_)
  | with_reducible refine a6.bo ?_ ?_
  | (with_reducible refine a6.force fun _ => ?_)
  | (with_reducible refine a6.aZ fun _ => ?_)
  | (with_reducible refine a6.cut fun _ => ?_)
  | (with_reducible refine a6.ex fun _ => ?_)
  | (with_reducible refine a6.bind (d8 _ _ _ _) fun _ => ?_)
  | (with_reducible refine a6.bind (dE _ _ _ _ _) fun _ => ?_)
  | split
theorem F1 (C : Ctx) (s : AS) (t : TypeId) (x : Operand) (f : Nat) : a6 (kF C s t x f) := by
 unfold kF
 repeat' first
  | with_reducible exact a6.ret _
  | with_reducible exact a6.fail
  | with_reducible exact a6.cF _
  | with_reducible refine a6.aw ?_
  | with_reducible refine a6.when ?_
  | (with_reducible refine a6.opt fun _ => ?_)
  | (with_reducible refine a6.idx fun _ => ?_)
  | (with_reducible refine a6.bQ fun _ => ?_)
  | with_reducible refine a6.bo ?_ ?_
  | (with_reducible refine a6.force fun _ => ?_)
  | (with_reducible refine a6.aZ fun _ => ?_)
  | (with_reducible refine a6.cut fun _ => ?_)
  | (with_reducible refine a6.ex fun _ => ?_)
  | (with_reducible refine a6.bind (d8 _ _ _ _) fun _ => ?_)
  | (with_reducible refine a6.bind (dE _ _ _ _ _) fun _ => ?_)
  | split
theorem F2 (C : Ctx) (s : AS) (t : TypeId) (x ix : Operand) : a6 (mh C s t x ix) := by
 unfold mh
 repeat' first
  | with_reducible exact a6.ret _
  | with_reducible exact a6.fail
  | with_reducible exact a6.cF _
  | with_reducible refine a6.aw ?_
  | with_reducible refine a6.when ?_
  | (with_reducible refine a6.opt fun _ => ?_)
  | (with_reducible refine a6.idx fun _ => ?_)
  | (with_reducible refine a6.bQ fun _ => ?_)
  | with_reducible refine a6.bo ?_ ?_
  | (with_reducible refine a6.force fun _ => ?_)
  | (with_reducible refine a6.aZ fun _ => ?_)
  | (with_reducible refine a6.cut fun _ => ?_)
  | (with_reducible refine a6.ex fun _ => ?_)
  | (with_reducible refine a6.bind (d8 _ _ _ _) fun _ => ?_)
  | (with_reducible refine a6.bind (dE _ _ _ _ _) fun _ => ?_)
  | split
theorem F3 (C : Ctx) (s : AS) (t : TypeId) (x ix : Operand) : a6 (nv C s t x ix) := by
 unfold nv
 repeat' first
  | with_reducible exact a6.ret _
  | with_reducible exact a6.fail
  | with_reducible exact a6.cF _
  | with_reducible refine a6.aw ?_
  | with_reducible refine a6.when ?_
  | (with_reducible refine a6.opt fun _ => ?_)
  | (with_reducible refine a6.idx fun _ => ?_)
  | (with_reducible refine a6.bQ fun _ => ?_)
  | with_reducible refine a6.bo ?_ ?_
  | (with_reducible refine a6.force fun _ => ?_)
  | (with_reducible refine a6.aZ fun _ => ?_)
  | (with_reducible refine a6.cut fun _ => ?_)
  | (with_reducible refine a6.ex fun _ => ?_)
  | (with_reducible refine a6.bind (d8 _ _ _ _) fun _ => ?_)
  | (with_reducible refine a6.bind (dE _ _ _ _ _) fun _ => ?_)
  | split
theorem EP (C : Ctx) (s : AS) (x : Operand) (t : TypeId) (ok : Bool) : a6 (ns C s x t ok) := by
 unfold ns
 repeat' first
  | with_reducible exact a6.ret _
  | with_reducible exact a6.fail
  | with_reducible exact a6.cF _
  | with_reducible refine a6.aw ?_
  | with_reducible refine a6.when ?_
  | (with_reducible refine a6.opt fun _ => ?_)
  | (with_reducible refine a6.idx fun _ => ?_)
  | (with_reducible refine a6.bQ fun _ => ?_)
  | with_reducible refine a6.bo ?_ ?_
  | (with_reducible refine a6.force fun _ => ?_)
  | (with_reducible refine a6.aZ fun _ => ?_)
  | (with_reducible refine a6.cut fun _ => ?_)
  | (with_reducible refine a6.ex fun _ => ?_)
  | (with_reducible refine a6.bind (d8 _ _ _ _) fun _ => ?_)
  | (with_reducible refine a6.bind (dE _ _ _ _ _) fun _ => ?_)
  | split
theorem EZ (C : Ctx) (s : AS) (x : Operand) (i : Nat) : a6 (nu C s x i) := by
 unfold nu
 repeat' first
  | with_reducible exact a6.ret _
  | with_reducible exact a6.fail
  | with_reducible exact a6.cF _
  | with_reducible refine a6.aw ?_
  | with_reducible refine a6.when ?_
  | (with_reducible refine a6.opt fun _ => ?_)
  | (with_reducible refine a6.idx fun _ => ?_)
  | (with_reducible refine a6.bQ fun _ => ?_)
  | with_reducible refine a6.bo ?_ ?_
  | (with_reducible refine a6.force fun _ => ?_)
  | (with_reducible refine a6.aZ fun _ => ?_)
  | (with_reducible refine a6.cut fun _ => ?_)
  | (with_reducible refine a6.ex fun _ => ?_)
  | (with_reducible refine a6.bind (d8 _ _ _ _) fun _ => ?_)
  | (with_reducible refine a6.bind (dE _ _ _ _ _) fun _ => ?_)
  | split
theorem F5 (C : Ctx) (s : AS) (t : TypeId) (x : Operand) : a6 (kH C s t x) := by
 unfold kH
 repeat' first
  | with_reducible exact a6.ret _
  | with_reducible exact a6.fail
  | with_reducible exact F4 _ _ _ _
  | with_reducible exact a6.cF _
  | with_reducible refine a6.aw ?_
  | with_reducible refine a6.when ?_
  | (with_reducible refine a6.opt fun _ => ?_)
  | (with_reducible refine a6.idx fun _ => ?_)
  | (with_reducible refine a6.bQ fun _ => ?_)
  | with_reducible refine a6.bo ?_ ?_
  | (with_reducible refine a6.force fun _ => ?_)
  | (with_reducible refine a6.aZ fun _ => ?_)
  | (with_reducible refine a6.cut fun _ => ?_)
  | (with_reducible refine a6.ex fun _ => ?_)
  | (with_reducible refine a6.bind (d8 _ _ _ _) fun _ => ?_)
  | (with_reducible refine a6.bind (dE _ _ _ _ _) fun _ => ?_)
  | split
theorem Ff (C : Ctx) (s : AS) (x : Operand) (b : Bool) : a6 (mi C s x b) := by
 unfold mi
 repeat' first
  | with_reducible exact a6.ret _
  | with_reducible exact a6.fail
  | with_reducible exact a6.cF _
  | with_reducible refine a6.aw ?_
  | with_reducible refine a6.when ?_
  | (with_reducible refine a6.opt fun _ => ?_)
  | (with_reducible refine a6.idx fun _ => ?_)
  | (with_reducible refine a6.bQ fun _ => ?_)
  | with_reducible refine a6.bo ?_ ?_
  | (with_reducible refine a6.force fun _ => ?_)
  | (with_reducible refine a6.aZ fun _ => ?_)
  | (with_reducible refine a6.cut fun _ => ?_)
  | (with_reducible refine a6.ex fun _ => ?_)
  | (with_reducible refine a6.bind (d8 _ _ _ _) fun _ => ?_)
  | (with_reducible refine a6.bind (dE _ _ _ _ _) fun _ => ?_)
  | split
theorem EV (C : Ctx) (s : AS) (c : Call) : a6 (mf C s c) := by
 unfold mf
 split
 . exact a6.bQ fun _ => EU _ _ _ _ _
 . exact a6.opt fun _ => a6.cF _
 . split
   . exact a6.ex fun _ => a6.aw (a6.cF _)
   . exact a6.fail
theorem ER (C : Ctx) (s : AS) (dst : Option Nat) (t : TypeId) (len : Nat) (parts : Array (Nat × Operand)) : a6 (jB C s dst t len parts) := by
 unfold jB
 split
 . rename_i d
   cases C.lits d
   . exact po _ _ _ _ _
   . simp only [cond_true, nx]
     refine a6.bind (po _ _ _ _ _) fun e => ?_
     split
     . exact a6.aZ fun _ => a6.ret _
     . exact a6.fail
 . exact po _ _ _ _ _
theorem Fe (C : Ctx) (s : AS) (a b : TypeId) (x : V) : a6 (kN C s a b x) := by
 unfold kN
 split
 . cases Nat.beq a b
   . exact zh _ _ _ _ _
   . simp only [cond_true]
     split
     . split
       . split
         . exact a6.ret _
         . exact a6.fail
       . exact a6.fail
     . exact a6.fail
 . exact zh _ _ _ _ _
theorem ES (C : Ctx) (c : Bool) (op : BinOp) (t : TypeId) (u v : V) : a6 (cond c (mj C op t) (dt (jC C op t u v) fun v => ret (pe v))) := by
 cases c with
 | false =>
   show a6 (dt (jC C op t u v) fun v => ret (pe v))
   exact a6.bind (zf C op t u v) fun _ => a6.ret _
 | true =>
   show a6 (mj C op t)
   unfold mj
   split
   . exact a6.ret _
   . exact a6.ret _
   . exact a6.fail
theorem nz (C : Ctx) (s : AS) (o : Oper) : a6 (bG C s o) := by
 unfold bG
 split
 . exact a6.force fun _ => a6.ret _
 . exact a6.force fun _ => a6.ret _
 . exact Fj _ _ _ _ _
 . exact EM _ _ _
 . exact a6.force fun _ => a6.aZ fun _ => a6.when (a6.ret _)
 . exact ET _ _ _ _
 . exact ER _ _ _ _ _ _
 . exact F6 _ _ _ _
 . exact Fm _ _ _ _ _
 . exact Fg _ _ _
 . exact ES _ _ _ _ _ _
 . exact a6.bind (zk _ _) fun _ => a6.ret _
 . exact Fe _ _ _ _ _
 . exact F8 _ _ _ _
 . exact a6.bQ fun _ => a6.bQ fun _ => a6.ret _
 . exact Fa _ _ _ _ _
 . exact Fk _ _ _ _ _ _ _
 . exact F0 _ _ _ _ _
 . exact F1 _ _ _ _ _
 . exact F2 _ _ _ _ _
 . exact F3 _ _ _ _ _
 . exact EP _ _ _ _ _
 . exact EZ _ _ _ _
 . exact F5 _ _ _ _
 . exact Ff _ _ _ _
 . exact F9 _ _ _
 . exact F7 _ _ _ _ _ _
 . exact Fc _ _ _ _ _ _
 . exact Fb _ _ _ _ _
 . exact EX _ _ _ _ _ _
 . exact EY _ _ _
 . exact EV _ _ _
 . exact a6.fail

structure Rel (E : Env) (st : St) (g : aj) (s : AS) (a : Act) (w : World) : Prop where
 nt : a.tmps.size = s.nt
 df : a.defers = E.ds
 tm : ∀ t, VR st g (lk s.tm t) s.sg.length (a.tmps.getD t undef)
 wr : aD E st g s.sg w

theorem MZ {k : IntKind} {n : Int} (h : rY k n = true) : k.min ≤ n ∧ n ≤ k.max := by
 unfold rY at h
 split at h
 . cases k <;> simp only [Bv] at h <;> have h' := Nat.le_of_ble_eq_true h <;> simp [IntKind.min, IntKind.max, IntKind.signed, IntKind.bits] <;> omega
 . cases k <;> simp only [Bx] at h <;> first
  | (have h' := Nat.le_of_ble_eq_true h; simp [IntKind.min, IntKind.max, IntKind.signed, IntKind.bits]; omega)
  | cases h

theorem BD {st : St} {g : aj} {n : Nat} (v : Value) : VR st g (sq v) n v := by
 unfold sq
 split
 . rename_i k m
   cases h : rY k m with
   | true => simpa [VR] using MZ h
   | false => simp [VR]
 . simp [VR]
 . rename_i s
   cases h : Nat.ble s.data.toList.length 1048576 with
   | true =>
     have := Nat.le_of_ble_eq_true h
     simp only [cond_true, VR]
     have h3 : s.data.toList.length ≤ maxLen := by unfold maxLen; omega
     simpa [VR] using h3
   | false => simp [VR]
 . simp only [VR]; exact ⟨none, 0, by simp, by simp, by simp [maxLen], by simp, .inl trivial⟩
 . simp [VR]
 . simp [VR]
 . simp [VR]
 . simp [VR]
 . simp [VR]
theorem BE {st : St} {g : aj} {n : Nat} : ∀ vs : List Value, av st g (vO vs) n vs
 | [] => cC
 | v :: vs => bm (BD v) (BE vs)
theorem KS {st : St} {g : aj} {n : Nat} (v : Value) : VR st g (vN v) n v := by
 unfold vN
 split
 . rename_i cs
   simp only [VR]
   exact ⟨cs, rfl, BE _⟩
 . exact BD v

theorem aI {E : Env} {st : St} {g : aj} {s : AS} {a : Act} {w : World} {C : Ctx} (R : Rel E st g s a w) (hg : aG C.gl st) (x : Operand) : VR st g (s.ev C x) s.sg.length (a.eval x) := by
 cases x with
 | tmp t => exact R.tm t
 | const v => exact KS v
 | global b =>
   simp only [AS.ev, Act.eval]
   split
   . rename_i cs h
     obtain ⟨vs, h1, h2⟩ := hg b cs h g
     simp only [VR]
     exact ⟨b, 0, vs, rfl, h1, fun j hj => by rw [Nat.zero_add]; exact h2 j hj⟩
   . simp [VR]
 | func f =>
   simp only [AS.ev, Act.eval, VR]
   exact ⟨#[], #[], rfl, cC, cC⟩
theorem nC {E : Env} {st : St} {g : aj} {s : AS} {a : Act} {w : World} {C : Ctx} (R : Rel E st g s a w) (hg : aG C.gl st) : ∀ xs : List Operand, av st g (s.bL C xs) s.sg.length (xs.map a.eval)
 | [] => cC
 | x :: xs => bm (aI R hg x) (nC R hg xs)

theorem mA : ∀ (up : List (Nat × O)) (sg : List O), (cH sg up).length = sg.length
 | [], sg => rfl
 | (i, o) :: r, sg => by simp only [cH]; rw [mA r, eT]; simp
theorem oN {E : Env} {st st' : St} {g g' : aj} {n n' : Nat} {ks : List Nat} (A : g4 E st g n st' g' n' ks) {x : V} {v : Value} (h : VR st g x n v) : VR st' g' (x.kill ks) n' v :=
 ee A.mono (fun i hi hn => ⟨Nat.lt_of_lt_of_le hn A.len, A.aT i hn (jH hi).1⟩) (oO h)

theorem Rel.app {E : Env} {st st' : St} {g g' : aj} {s : AS} {a : Act} {w w' : World} {d : Option Nat} {e : Ef} {v : Value} (R : Rel E st g s a w) (hd : cY s d = true)
   (A : g4 E st g s.sg.length st' g' (s.app d e).sg.length e.ks) (W : aD E st' g' (s.app d e).sg w') (hv : VR st' g' e.v (s.app d e).sg.length v) : Rel E st' g' (s.app d e) (a.put d v) w' where
 nt := by
  cases d with
  | none => exact R.nt
  | some d => simp [Act.put, AS.app, R.nt]
 df := by cases d <;> exact R.df
 wr := W
 tm := fun t => by
   cases d with
   | none =>
     have h1 : lk (s.app none e).tm t = (lk s.tm t).kill e.ks := by simp only [AS.app]; exact jN _ _ _
     rw [h1]
     exact oN A (R.tm t)
   | some d =>
     have hlt : d < s.nt := by simpa [cY] using hd
     have h1 : lk (s.app (some d) e).tm t = cond (Nat.beq d t) e.v ((lk s.tm t).kill e.ks) := by simp only [AS.app, lk]; rw [jN]
     rw [h1]
     by_cases hdt : d = t
     . subst hdt
       rw [show Nat.beq d d = true from Nat.beq_refl d]
       simp only [cond_true, Act.put]
       rw [show (a.tmps.setIfInBounds d v).getD d undef = v by simp [R.nt, hlt]]
       exact hv
     . rw [show Nat.beq d t = false from by cases hb : Nat.beq d t with | false => rfl | true => exact absurd (Nat.eq_of_beq_eq_true hb) hdt]
       simp only [cond_false, Act.put]
       rw [show (a.tmps.setIfInBounds d v).getD t undef = a.tmps.getD t undef by simp [hdt]]
       exact oN A (R.tm t)

structure Good (C : Ctx) : Prop where
 ti : ∀ t, ay C.P t (C.ti t)
 mt : ∀ t m f, C.mt t m f → ∀ (v : Value) (w : World), (method (C.P.types.size + Made.depth) t v m).run C.P w = .ok (f, v) w
 hm : C.P.follows .mixedOrders = true

def ar (C : Ctx) (E : Env) (st : St) (g : aj) (s : AS) (a : Act) (w : World) (o : Oper) (e : Ef) : Prop :=
 ∀ (next : Act → World → Prop) (Q : Exit → Act → World → Prop), (∀ st' g' w' v, g4 E st g s.sg.length st' g' (s.app o.dst e).sg.length e.ks → aD E st' g' (s.app o.dst e).sg w' →
  VR st' g' e.v (s.app o.dst e).sg.length v → next (a.put o.dst v) w') → o.wp C.P a w next Q

section
variable {C : Ctx} {E : Env} {st : St} {g : aj} {s : AS} {a : Act} {w : World} {o : Oper}

theorem ar.val {e : Ef} (v : Value) (w' : World) (st' : St) (g' : aj) (hr : (execOp a.eval o).run C.P w = .ok (.value v) w')
   (A : g4 E st g s.sg.length st' g' (s.app o.dst e).sg.length e.ks) (W : aD E st' g' (s.app o.dst e).sg w') (hv : VR st' g' e.v (s.app o.dst e).sg.length v) : ar C E st g s a w o e := by
 intro next Q h
 unfold Oper.wp
 rw [hr]
 exact h st' g' w' v A W hv

theorem ar.skip {e : Ef} (w' : World) (st' : St) (g' : aj) (hr : (execOp a.eval o).run C.P w = .ok .skip w')
   (A : g4 E st g s.sg.length st' g' (s.app o.dst e).sg.length e.ks) (W : aD E st' g' (s.app o.dst e).sg w') (hv : VR st' g' e.v (s.app o.dst e).sg.length undef) : ar C E st g s a w o e := by
 intro next Q h
 unfold Oper.wp
 rw [hr]
 exact h st' g' w' undef A W hv

theorem ey (s : AS) (d : Option Nat) (x : V) : (s.app d (pe x)).sg = s.sg := by simp [AS.app, pe, gp, cH, eZ]
theorem ko (s : AS) (d : Option Nat) (x : V) (rd : List Nat) : (s.app d ⟨x, [], [], [], rd⟩).sg = s.sg := by simp [AS.app, gp, cH, eZ]

theorem ar.pure {x : V} {rd : List Nat} (R : Rel E st g s a w) (v : Value) (w' : World) (hr : (execOp a.eval o).run C.P w = .ok (.value v) w') (hw : aH w w') (hv : VR st g x s.sg.length v) :
   ar C E st g s a w o ⟨x, [], [], [], rd⟩ := by
 refine ar.val v w' st g hr ⟨fun _ _ _ h => h, fun _ _ _ => rfl, ?_⟩ ?_ ?_
 . rw [ko]; exact Nat.le_refl _
 . rw [ko]; exact R.wr.same hw
 . rw [ko]; exact hv
end
end Go.VG
namespace Go.VG
open Go

section
variable {C : Ctx} {E : Env} {st : St} {g : aj} {s : AS} {a : Act} {w : World} {o : Oper} {e : Ef}

theorem kn (s : AS) (d : Option Nat) (x : V) (rd : List Nat) (ob : O) : (s.app d ⟨x, [], [], [ob], rd⟩).sg = s.sg ++ [ob] := by simp [AS.app, gp, cH, eZ]

theorem ar.new {x : V} {rd : List Nat} {ob : O} (R : Rel E st g s a w) (v : Value) (w1 : World) (hw : aH w w1) (gi : Gh) (oj : Obj)
   (hr : (execOp a.eval o).run C.P w = .ok (.value v) (w1.alloc oj)) (hb : ∀ b, gi.blk = some b → b = w1.heap.size)
   (ho : cB E st (bh g s.sg.length gi) (s.sg.length + 1) (w1.alloc oj) gi ob)
   (hv : VR st (bh g s.sg.length gi) x (s.sg.length + 1) v) : ar C E st g s a w o ⟨x, [], [], [ob], rd⟩ := by
 refine ar.val v _ st (bh g s.sg.length gi) hr ⟨fun _ _ _ h => h, fun i hi _ => bR (Nat.ne_of_lt hi), ?_⟩ ?_ ?_
 . rw [kn]; simp
 . rw [kn]; exact (R.wr.same hw).DS oj gi ob hb ho
 . rw [kn]; simpa using hv

theorem ar.By {rd : List Nat} {cs : List V} (R : Rel E st g s a w) (vs : Array Value) (el : TypeId)
   (hr : (execOp a.eval o).run C.P w = .ok (.value (.pointer (some ⟨w.heap.size, 0, none⟩))) (w.alloc (.cells vs el))) (hc : av st g cs s.sg.length vs.toList) :
   ar C E st g s a w o ⟨.ptr s.sg.length 0, [], [], [.cells cs], rd⟩ := by
 refine ar.new R _ w (aH.refl w) ⟨some w.heap.size, none, 0, 0, 0⟩ _ hr (by simp) ?_ ?_
 . refine ⟨w.heap.size, vs, el, (0, 0), rfl, R.wr.gnew _ R.wr.size, heap_alloc_new, ?_, ⟨by simp, by intro o _; simp⟩, R.wr.iX⟩
   exact iA (fun _ _ _ h => h) (fun i _ hi => ⟨by omega, bR (Nat.ne_of_lt hi)⟩) hc
 . simp only [VR]
   exact ⟨by omega, w.heap.size, by simp, rfl⟩

def a5 {α : Type} (p : α → Prop) (t : Tr α) : Prop := ∀ e, t (fun b => b = e) → p e
section
variable {α β : Type} {p : α → Prop}
theorem a5.ret {x : α} (h : p x) : a5 p (ret x) := by rintro _ ⟨⟩; exact h
theorem a5.fail : a5 p fail := fun _ h => h.elim
theorem a5.aw {A : Prop} {t : Tr α} (h : A → a5 p t) : a5 p (aw A t) := fun e he => h he.1 e he.2
theorem a5.when {b : Bool} {t : Tr α} (h : b = true → a5 p t) : a5 p (b7 b t) := fun e he => by
 cases b with
 | false => exact he.elim
 | true => exact h rfl e he
theorem a5.opt {x : Option β} {f : β → Tr α} (h : ∀ y, x = some y → a5 p (f y)) : a5 p (cT x f) := fun e he => by
 cases x with
 | none => exact he.elim
 | some y => exact h y rfl e he
theorem a5.bo {b : Bool} {t u : Tr α} (ht : b = true → a5 p t) (hu : b = false → a5 p u) : a5 p (iD b t u) := fun e he => by
 cases b with
 | false => exact hu rfl e he
 | true => exact ht rfl e he
theorem a5.cG {x : Option β} {f : β → Tr α} {u : Tr α} (h : ∀ y, x = some y → a5 p (f y)) (hu : x = none → a5 p u) : a5 p (cG x f u) := fun e he => by
 cases hx : x with
 | none => exact hu hx e (he.2 hx)
 | some y => exact h y hx e (he.1 y hx)
theorem a5.ex {f : β → Tr α} (h : ∀ y, a5 p (f y)) : a5 p (exT f) := fun e ⟨y, he⟩ => h y e he
theorem a5.bind {t : Tr β} {f : β → Tr α} (ht : a6 t) (h : ∀ y, (∀ K : β → Prop, K y → t K) → a5 p (f y)) : a5 p (dt t f) := fun e he => by
 obtain ⟨y, h1, h2⟩ := ht _ he
 exact h y h2 e h1
end
abbrev bA (C : Ctx) (E : Env) (st : St) (g : aj) (s : AS) (a : Act) (w : World) (o : Oper) (t : Tr Ef) : Prop := a5 (ar C E st g s a w o) t

theorem Ci {x : Operand} (R : Rel E st g s a w) (hg : aG C.gl st) (ho : o.op = .move x ∨ o.op = .assign x) : bA C E st g s a w o (force (s.ev C x) fun x => ret (pe x)) := by
 rw [force_eq]
 exact a5.ret (ar.pure R (a.eval x) w (by rcases ho with ho | ho <;> simp [execOp, ho]) (aH.refl w) (aI R hg x))

theorem M4 {c x y : Operand} (R : Rel E st g s a w) (hg : aG C.gl st) (ho : o.op = .pick c x y) : bA C E st g s a w o (nA C s c x y) := by
 unfold nA
 have hc := aI R hg c
 split
 . rename_i t ht
   rw [ht] at hc
   simp only [VR] at hc
   simp only [force_eq]
   have hx := aI R hg x
   have hy := aI R hg y
   have hr : (execOp a.eval o).run C.P w = .ok (.value (if t then a.eval x else a.eval y)) w := by simp [execOp, ho, hc, asBool]
   split
   . rename_i bx bY h1 h2
     refine a5.ret (ar.pure R _ w hr (aH.refl w) ?_)
     rw [h1] at hx; rw [h2] at hy
     cases t
     . simpa [VR] using hy
     . simpa [VR] using hx
   . refine a5.bo (fun h => ?_) (fun h => ?_)
     . subst h; exact a5.ret (ar.pure R _ w hr (aH.refl w) (by simpa using hx))
     . subst h; exact a5.ret (ar.pure R _ w hr (aH.refl w) (by simpa using hy))
 . exact a5.fail

theorem Lv {t : TypeId} (R : Rel E st g s a w) (G : Good C) (ho : o.op = .alloc t) : bA C E st g s a w o (kz C s t) := by
 unfold kz
 split
 . exact a5.fail
 . rename_i hk
   simp only [force_eq, cy]
   refine a5.when fun hu => a5.ret ?_
   obtain ⟨z, hz, hz'⟩ := wg w (G.ti t) (fun h => hk h)
   refine ar.By R z.cells t ?_ (g5 (hz' st g _) (by simpa using hu))
   simp [execOp, ho, Instr.alloc, hz, newVar, newRow]

theorem s_box {t : TypeId} {x : Operand} (R : Rel E st g s a w) (hg : aG C.gl st) (ho : o.op = .box t x) :
   bA C E st g s a w o (force (s.ev C x) fun x => aZ s.sg.length fun n => b7 (!x.dh) (ret ⟨.ptr n 0, [], [], [.cells x.cells], []⟩)) := by
 simp only [force_eq, cy]
 refine a5.when fun hu => a5.ret ?_
 refine ar.By R (a.eval x).cells t ?_ (g5 (aI R hg x) (by simpa using hu))
 simp [execOp, ho, Instr.box, newVar, newRow]

theorem BV {agg : Bool} {size off : Nat} {cs : List V} {v : V} (h : ∀ K : V → Prop, K v → fQ agg size cs off K) :
   (agg = true ∧ (size = 0 ∨ off + size ≤ cs.length) ∧ v = .agg ((cs.drop off).take size)) ∨ (agg = false ∧ cs[off]? = some v) := by
 have h := h (fun x => x = v) rfl
 unfold fQ at h
 cases agg
 . cases hr : hM cs off with
   | none => simp only [cT, hr, dZ] at h
   | some r =>
     simp only [cT, hr, dZ] at h
     rw [rV] at hr
     cases h
     exact .inr ⟨rfl, hr⟩
 . cases hr : fA (gF cs off) size with
   | none => simp only [cT, hr, dZ] at h
   | some r =>
     simp only [cT, hr, dZ] at h
     obtain ⟨h1, h2⟩ := xS hr
     rw [rI] at h1 h2
     subst h1
     cases h
     simp only [List.length_drop] at h2
     exact .inl ⟨rfl, by omega, rfl⟩

theorem sG {t : TypeId} {b o : Nat} {cs : List V} {vs : List Value} {v : V} {n : Nat} (G : Good C) (hk : (C.ti t).k ≠ .other) (hc : av st g cs n vs)
   (hw : ∀ j, j < vs.length → w.cell? ⟨b, o + j, none⟩ = vs[j]?) {off : Nat} (h : ∀ K : V → Prop, K v → fQ (C.ti t).k.isAgg (C.ti t).size cs off K) :
   ∃ u, (loadVar t ⟨b, o + off, none⟩).run C.P w = .ok u w ∧ VR st g v n u := by
 rcases BV h with ⟨h1, h2, rfl⟩ | ⟨h1, h2⟩
 . have hl := dA hc
   have hlen : (C.ti t).size = ((vs.drop off).take (C.ti t).size).length := by simp; omega
   refine ⟨.agg ((vs.drop off).take (C.ti t).size).toArray, ?_, ?_⟩
   . have := run_loadCells_list (P := C.P) w ⟨b, o + off, none⟩ ((vs.drop off).take (C.ti t).size) (fun j v hj => by
       rw [Addr.add_lit]
       rw [List.getElem?_take] at hj
       split at hj
       . rw [List.getElem?_drop] at hj
         have hlt : off + j < vs.length := by
          rcases Nat.lt_or_ge (off + j) vs.length with h' | h'
          . exact h'
          . simp [List.getElem?_eq_none h'] at hj
         have := hw (off + j) hlt
         rw [hj] at this
         rw [Nat.add_assoc]; exact this
       . cases hj)
     rw [← hlen] at this
     simp [loadVar, sE w (G.ti t) hk, h1, eJ w (G.ti t) hk, this]
   . simp only [VR]
     exact ⟨_, rfl, by simpa using oV (oS hc)⟩
 . obtain ⟨u, h3, h4⟩ := lX hc h2
   have hlt : off < vs.length := by
    rcases Nat.lt_or_ge off vs.length with h' | h'
    . exact h'
    . simp [List.getElem?_eq_none h'] at h3
   refine ⟨u, ?_, h4⟩
   have := hw off hlt
   rw [h3] at this
   simp [loadVar, sE w (G.ti t) hk, h1, this]

theorem Cc {t : TypeId} {cs : List V} {vs : Array Value} {v : V} {n off : Nat} (G : Good C) (hk : (C.ti t).k ≠ .other) (hc : av st g cs n vs.toList)
   (h : ∀ K : V → Prop, K v → fQ (C.ti t).k.isAgg (C.ti t).size cs off K) : ∃ u, (part t vs off).run C.P w = .ok u w ∧ VR st g v n u := by
 rcases BV h with ⟨h1, h2, rfl⟩ | ⟨h1, h2⟩
 . refine ⟨.agg (vs.extract off (off + (C.ti t).size)), ?_, ?_⟩
   . simp [part, sE w (G.ti t) hk, h1, eJ w (G.ti t) hk]
   . simp only [VR]
     refine ⟨_, rfl, ?_⟩
     rw [Array.toList_extract, List.extract_eq_take_drop]
     simpa using oV (oS hc)
 . obtain ⟨u, h3, h4⟩ := lX hc h2
   refine ⟨u, ?_, h4⟩
   have h3' : vs[off]? = some u := by simpa using h3
   simp [part, sE w (G.ti t) hk, h1, h3']

theorem uF {E : Env} {sg : List O} (W : aD E st g sg w) {i : Nat} {cs : List V} (hi : sg[i]? = some (.cells cs)) : ∃ b c el fr, (g i).blk = some b ∧ E.G b ∧ w.heap[b]? = some (.cells c el fr) ∧ av st g cs sg.length c.toList ∧ kT c fr ∧ ∀ o, st b o = none :=
 W.ob i _ hi

theorem LQ {t : TypeId} {x : Operand} (R : Rel E st g s a w) (hg : aG C.gl st) (G : Good C) (ho : o.op = .load t x) : bA C E st g s a w o (jD C s t x) := by
 unfold jD
 simp only [iM]
 split
 . exact a5.fail
 rename_i hk
 have hk : (C.ti t).k ≠ .other := fun h => hk h
 have hx := aI R hg x
 split
 . rename_i cs off he
   rw [he] at hx
   simp only [VR] at hx
   obtain ⟨b, of, vs, h1, h2, h3⟩ := hx
   refine a5.bind (d8 _ _ _ _) fun v hv => ?_
   rw [force_eq]
   have hcell : ∀ j, j < vs.length → w.cell? ⟨b, of + j, none⟩ = vs[j]? := fun j hj => by
    have h4 := h3 j hj
    rw [List.getElem?_eq_getElem hj] at h4 ⊢
    exact R.wr.stw _ _ _ h4
   obtain ⟨u, h5, h6⟩ := sG (w := w) (b := b) (o := of) G hk h2 hcell hv
   refine a5.ret (ar.pure R u w ?_ (aH.refl w) (ee (fun _ _ _ h => h) (fun i _ hi => absurd hi (Nat.not_lt_zero _)) h6))
   simp [execOp, ho, Instr.loadAt, h1, Instr.sureAddr, h5]
 . rename_i i off he
   rw [he] at hx
   simp only [VR] at hx
   obtain ⟨hi, b, hb, h1⟩ := hx
   split
   . rename_i cs hs
     obtain ⟨hs1, _⟩ := de hs (by simp)
     obtain ⟨b', c, el, fr, k1, k2, k3, k4, k5, k6⟩ := uF R.wr hs1
     rw [hb] at k1; cases k1
     refine a5.bind (d8 _ _ _ _) fun v hv => ?_
     rw [force_eq]
     have hcell : ∀ j, j < c.toList.length → w.cell? ⟨b, 0 + j, none⟩ = c.toList[j]? := fun j hj => by rw [dR k3]; simp
     obtain ⟨u, h5, h6⟩ := sG (w := w) (b := b) (o := 0) G hk k4 hcell hv
     refine a5.ret (ar.pure R u w ?_ (aH.refl w) h6)
     rw [Nat.zero_add] at h5
     simp [execOp, ho, Instr.loadAt, h1, Instr.sureAddr, h5]
   . exact a5.fail
 . rename_i i idx off he
   rw [he] at hx
   simp only [VR] at hx
   obtain ⟨hi, b, hb, h1⟩ := hx
   split
   . rename_i sz pre l hs
     obtain ⟨hs1, _⟩ := de hs (by simp)
     obtain ⟨q1, q2, q3, q4, q5, q6, q7⟩ := R.wr.ob i _ hs1
     refine a5.opt fun y hy => a5.when fun hu => a5.bind (d8 _ _ _ _) fun v hv => ?_
     rw [force_eq]
     rcases q7 with ⟨_, q7⟩ | ⟨b', c, el, fr, k1, k2, k3, k4, k5, k6, _⟩
     . rw [hb] at q7; cases q7
     . rw [hb] at k1; cases k1
       obtain ⟨u, r1, r2, r3, r4⟩ := ew.1 k6 idx y hy
       have r5 := g5 r1 (by simpa using hu)
       have hcell : ∀ j, j < u.cells.toList.length → w.cell? ⟨b, idx * sz + j, none⟩ = u.cells.toList[j]? := fun j hj => by
        rw [dR k4]
        have := r4 j (by rw [← r2]; simpa using hj)
        rw [Nat.zero_add] at this
        simpa using this
       obtain ⟨u', h5, h6⟩ := sG (w := w) (b := b) (o := idx * sz) G hk r5 hcell hv
       refine a5.ret (ar.pure R u' w ?_ (aH.refl w) (ee (fun _ _ _ h => h) (fun i _ hi => absurd hi (Nat.not_lt_zero _)) h6))
       rw [q2] at h1
       simp [execOp, ho, Instr.loadAt, h1, Instr.sureAddr, h5]
   . exact a5.fail
 . exact a5.fail

theorem M3 {x : Operand} (R : Rel E st g s a w) (hg : aG C.gl st) (ho : o.op = .nilCheck x) : bA C E st g s a w o (kO C s x) := by
 unfold kO
 have hx := aI R hg x
 split
 all_goals first
  | exact a5.fail
  | skip
 all_goals
  rename_i he
  rw [he] at hx
  have hx' := hx
  simp only [VR] at hx
 . obtain ⟨_, b, _, h1⟩ := hx
   exact a5.ret (ar.pure R (a.eval x) w (by simp [execOp, ho, h1]) (aH.refl w) hx')
 . obtain ⟨_, b, _, h1⟩ := hx
   exact a5.ret (ar.pure R (a.eval x) w (by simp [execOp, ho, h1]) (aH.refl w) hx')
 . obtain ⟨b, _, _, h1, _⟩ := hx
   exact a5.ret (ar.pure R (a.eval x) w (by simp [execOp, ho, h1]) (aH.refl w) hx')
 . obtain ⟨b, _, h1, _⟩ := hx
   exact a5.ret (ar.pure R (a.eval x) w (by simp [execOp, ho, h1]) (aH.refl w) hx')
 . obtain ⟨b, h1, _⟩ := hx
   exact a5.ret (ar.pure R (a.eval x) w (by simp [execOp, ho, h1]) (aH.refl w) hx')

theorem LU {t : TypeId} {x : Operand} (R : Rel E st g s a w) (hg : aG C.gl st) (G : Good C) (ho : o.op = .makeInterface t x) : bA C E st g s a w o (ny C s t x) := by
 unfold ny
 split
 . exact a5.fail
 . exact a5.fail
 . rename_i h1 h2
   rw [force_eq]
   refine a5.when fun hu => a5.ret ?_
   refine ar.pure R (.iface t (a.eval x)) w ?_ (aH.refl w) (by simp only [VR]; exact ⟨_, rfl, aI R hg x⟩)
   obtain ⟨h3, _⟩ := (G.ti t).of (fun h => h1 h)
   cases hk' : (C.ti t).k <;> rw [hk'] at h3 <;> simp only [TK.ok] at h3
   case struct fs => obtain ⟨f, h3, _⟩ := h3; simp [execOp, ho, Instr.makeInterface, run_underlying h3]
   case iface => exact absurd hk' (fun h => h2 h)
   case func => obtain ⟨p, q, r, h3⟩ := h3; simp [execOp, ho, Instr.makeInterface, run_underlying h3]
   all_goals simp [execOp, ho, Instr.makeInterface, run_underlying h3]

theorem LS {fn : Fn} {xs ys : Array Operand} (R : Rel E st g s a w) (hg : aG C.gl st) (ho : o.op = .makeFunc fn xs ys) :
   bA C E st g s a w o (kV (s.bL C xs.toList) fun a => kV (s.bL C ys.toList) fun b => ret (pe (.func fn a b))) := by
 simp only [px]
 refine a5.ret (ar.pure R (.func fn (xs.map a.eval) (ys.map a.eval)) w (by simp [execOp, ho, Instr.makeFunc]) (aH.refl w) ?_)
 simp only [VR]
 exact ⟨_, _, rfl, by simpa using nC R hg xs.toList, by simpa using nC R hg ys.toList⟩

theorem LJ {x : Operand} {i : Nat} (R : Rel E st g s a w) (hg : aG C.gl st) (ho : o.op = .extract x i) : bA C E st g s a w o (nu C s x i) := by
 unfold nu
 have hx := aI R hg x
 split
 . rename_i vs he
   rw [he] at hx
   simp only [VR] at hx
   obtain ⟨us, h1, h2⟩ := hx
   refine a5.opt fun v hv => ?_
   rw [force_eq]
   rw [rV] at hv
   obtain ⟨u, h3, h4⟩ := lX h2 hv
   have h3' : us[i]? = some u := by simpa using h3
   exact a5.ret (ar.pure R u w (by simp [execOp, ho, h1, Instr.extract, h3']) (aH.refl w) h4)
 . exact a5.fail

theorem zL : ∀ {fs : List (Nat × TypeId)} {i : Nat} {x : Nat × TypeId}, d5 fs i = some x → fs[i]? = some x
 | [], i, x, h => by simp [d5] at h
 | y :: ys, 0, x, h => by simpa [d5] using h
 | y :: ys, i + 1, x, h => by simpa [d5] using zL (fs := ys) (by simpa [d5] using h)
theorem uS {fields : Array Field} {fs : List (Nat × TypeId)} (h : fields.toList.map (fun f => (f.offset, f.type)) = fs) {i : Nat} {x : Nat × TypeId} (hx : d5 fs i = some x) :
   ∃ f, fields[i]? = some f ∧ f.offset = x.1 ∧ f.type = x.2 := by
 have := zL hx
 rw [← h, List.getElem?_map] at this
 cases hf : fields.toList[i]? with
 | none => rw [hf] at this; cases this
 | some f => rw [hf] at this; cases this; exact ⟨f, by simpa using hf, rfl, rfl⟩

theorem LK {t : TypeId} {x : Operand} {f : Nat} (R : Rel E st g s a w) (hg : aG C.gl st) (G : Good C) (ho : o.op = .field t x f) : bA C E st g s a w o (kF C s t x f) := by
 unfold kF
 have hx := aI R hg x
 split
 . rename_i fs cs hk he
   rw [he] at hx
   simp only [VR] at hx
   obtain ⟨us, h1, h2⟩ := hx
   obtain ⟨h3, _⟩ := (G.ti t).of (by rw [hk]; simp)
   rw [hk] at h3
   obtain ⟨fields, h3, h4, _⟩ := h3
   refine a5.opt fun ft hft => ?_
   split
   . exact a5.fail
   rename_i hk2
   refine a5.bind (d8 _ _ _ _) fun v hv => ?_
   rw [force_eq]
   obtain ⟨fd, h5, h6, h7⟩ := uS h4 hft
   obtain ⟨u, h8, h9⟩ := Cc (w := w) G (fun h => hk2 h) h2 hv
   refine a5.ret (ar.pure R u w ?_ (aH.refl w) h9)
   simp [execOp, ho, Instr.field, run_underlying h3, h5, h1, asAgg, h6, h7, h8]
 . exact a5.fail

theorem LL {t : TypeId} {x : Operand} {f : Nat} (R : Rel E st g s a w) (hg : aG C.gl st) (G : Good C) (ho : o.op = .fieldAddr t x f) : bA C E st g s a w o (kG C s t x f) := by
 unfold kG
 have hx := aI R hg x
 split
 . rename_i fs hk
   obtain ⟨h3, _⟩ := (G.ti t).of (by rw [hk]; simp)
   rw [hk] at h3
   obtain ⟨fields, h3, h4, _⟩ := h3
   refine a5.opt fun ft hft => ?_
   split
   . exact a5.fail
   rename_i hk2
   refine a5.when fun hsz => ?_
   obtain ⟨fd, h5, h6, h7⟩ := uS h4 hft
   have hsz' := Nat.le_of_ble_eq_true hsz
   have hs0 : ¬ (C.ti fd.type).size = 0 := by rw [h7]; omega
   have hrs := eJ w (G.ti fd.type) (by rw [h7]; exact fun h => hk2 h)
   have hr : ∀ ad : Addr, a.eval x = .pointer (some ad) → (execOp a.eval o).run C.P w = .ok (.value (.pointer (some (ad.add ft.1)))) w := fun ad had => by
    simp [execOp, ho, Instr.fieldAt, run_underlying h3, h5, had, Instr.sureAddr, fieldPlace, hrs, hs0, h6]
   split
   . rename_i i off he
     rw [he] at hx
     simp only [VR] at hx
     obtain ⟨hi, b, hb, h1⟩ := hx
     rw [cy]
     refine a5.ret (ar.pure R _ w (hr _ h1) (aH.refl w) ?_)
     simp only [VR]
     exact ⟨hi, b, hb, by rw [Addr.add_lit]⟩
   . rename_i i j off he
     rw [he] at hx
     simp only [VR] at hx
     obtain ⟨hi, b, hb, h1⟩ := hx
     rw [cy]
     refine a5.ret (ar.pure R _ w (hr _ h1) (aH.refl w) ?_)
     simp only [VR]
     exact ⟨hi, b, hb, by rw [Addr.add_lit, Nat.add_assoc]⟩
   . rename_i cs off he
     rw [he] at hx
     simp only [VR] at hx
     obtain ⟨b, of, vs, h1, h2, h8⟩ := hx
     rw [cy]
     refine a5.ret (ar.pure R _ w (hr _ h1) (aH.refl w) ?_)
     simp only [VR]
     exact ⟨b, of, vs, by rw [Addr.add_lit, Nat.add_assoc], h2, h8⟩
   . exact a5.fail
 . exact a5.fail
end
end Go.VG
