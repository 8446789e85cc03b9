/-
  A part of the proof.
-/
import Derived.Test.YtipejldppicijaaGreatDoorVgD
set_option linter.unusedSimpArgs false
set_option linter.unusedVariables false
namespace Go.VG
open Go

def a5 {α : Type} (t : Tr α) : Prop := ∀ K : α → Prop, t K → ∃ a, K a ∧ ∀ K' : α → Prop, K' a → t K'

section
variable {α β : Type}
theorem a5.ret (a : α) : a5 (ret a) := fun _ h => ⟨a, h, fun _ h => h⟩
theorem a5.fail : a5 (fail : Tr α) := fun _ h => h.elim
theorem a5.ar {A : Prop} {t : Tr α} (h : a5 t) : a5 (ar A t) := fun K hk => let ⟨a, h1, h2⟩ := h K hk.2; ⟨a, h1, fun K' k => ⟨hk.1, h2 K' k⟩⟩
theorem a5.when {b : Bool} {t : Tr α} (h : a5 t) : a5 (aS b t) := fun K hk => by
 cases b with
 | false => exact hk.elim
 | true => exact h K hk
theorem a5.opt {o : Option α} {f : α → Tr β} (h : ∀ a, a5 (f a)) : a5 (cG o f) := fun K hk => by
 cases o with
 | none => exact hk.elim
 | some a => exact h a K hk
theorem a5.bd {b : Bool} {t u : Tr α} (ht : a5 t) (hu : a5 u) : a5 (gE b t u) := fun K hk => by
 cases b with
 | false => exact hu K hk
 | true => exact ht K hk
theorem a5.cz {o : Option α} {h : α → Tr β} {u : Tr β} (hf : ∀ a, a5 (h a)) (hu : a5 u) : a5 (cz o h u) := fun K hk => by
 cases o with
 | none => obtain ⟨a, h1, h2⟩ := hu K (hk.2 rfl); exact ⟨a, h1, fun K' k => ⟨fun _ q => (by cases q), fun _ => h2 K' k⟩⟩
 | some x => obtain ⟨a, h1, h2⟩ := hf x K (hk.1 x rfl); exact ⟨a, h1, fun K' k => ⟨fun _ q => (by cases q; exact h2 K' k), fun q => (by cases q)⟩⟩
theorem a5.idx {l : List α} {n : Nat} {f : α → Tr β} (h : ∀ a, a5 (f a)) : a5 (jM l n f) := by rw [gK]; exact a5.opt h
theorem a5.bind {t : Tr α} {f : α → Tr β} (ht : a5 t) (hf : ∀ a, a5 (f a)) : a5 (d8 t f) := fun K hk => by
 obtain ⟨a, h1, h2⟩ := ht _ hk
 obtain ⟨b, h3, h4⟩ := hf a K h1
 exact ⟨b, h3, fun K' k => h2 _ (h4 K' k)⟩
theorem a5.ex {f : α → Tr β} (h : ∀ a, a5 (f a)) : a5 (exT f) := fun K ⟨a, hk⟩ => let ⟨b, h1, h2⟩ := h a K hk; ⟨b, h1, fun K' k => ⟨a, h2 K' k⟩⟩
theorem a5.force {x : V} {f : V → Tr α} (h : ∀ x, a5 (f x)) : a5 (force x f) := by rw [force_eq]; exact h x
theorem a5.aR {x : Nat} {f : Nat → Tr α} (h : ∀ x, a5 (f x)) : a5 (aR x f) := by rw [cy]; exact h x
theorem a5.bM {x : List V} {f : List V → Tr α} (h : ∀ x, a5 (f x)) : a5 (jF x f) := by rw [nn]; exact h x
theorem a5.cut {a : List α} {r : Option Int × Option Int} {f : List α → Tr β} (h : ∀ x, a5 (f x)) : a5 (n8 a r f) := by rw [n9]; exact h _
theorem a5.ct (r : Option (Prop × Ef)) : a5 (ct r) := by
 refine a5.opt fun p => a5.ar fun K hk => ?_
 rw [fA] at hk
 exact ⟨p.2, hk, fun K' k => by rw [fA]; exact k⟩
end

theorem vZ (C : Ctx) (op : BinOp) (t : TypeId) (x y : V) : a5 (iP C op t x y) := by
 unfold iP
 repeat' first
  | with_reducible exact a5.ret _
  | with_reducible exact a5.fail
  | with_reducible refine a5.ar ?_
  | with_reducible refine a5.when ?_
  | (with_reducible refine a5.opt fun _ => ?_)
  | (with_reducible refine a5.idx fun _ => ?_)
  | (with_reducible refine a5.bM fun _ => ?_)
  | split
theorem w8 (op : UnOp) (x : V) : a5 (nj op x) := by
 unfold nj; split <;> first | with_reducible exact a5.ret _ | with_reducible exact a5.fail
theorem cK (agg : Bool) (size : Nat) (cs : List V) (off : Nat) : a5 (eS agg size cs off) := by
 unfold eS; split <;> exact a5.opt fun _ => a5.ret _
theorem jl (s : AS) (x : V) : a5 (elems s x) := by
 unfold elems
 repeat' first
  | with_reducible exact a5.ret _
  | with_reducible exact a5.fail
  | split
theorem AV (C : Ctx) (s : AS) (e : TypeId) (x : V) (ys : List V) (rd : List Nat) : a5 (jo C s e x ys rd) := by
 unfold jo
 repeat' first
  | with_reducible exact a5.ret _
  | with_reducible exact a5.fail
  | with_reducible refine a5.ar ?_
  | with_reducible refine a5.when ?_
  | (with_reducible refine a5.aR fun _ => ?_)
  | split
theorem jU {C : Ctx} {s : AS} {t : TypeId} {m : V} {F : Nat → Bool → List Sc → List (V × Int) → List Nat → Nat → Tr Ef} (h : ∀ i ag sh es bs ck, a5 (F i ag sh es bs ck)) : a5 (da C s t m F) := by
 unfold da
 refine a5.opt fun p => ?_
 split
 . split
   . exact a5.when (h _ _ _ _ _ _)
   . exact a5.fail
 . exact a5.fail
theorem Bg (C : Ctx) (s : AS) (t : TypeId) : a5 (jx C s t) := by
 unfold jx
 repeat' first
  | with_reducible exact a5.ret _
  | with_reducible exact a5.fail
  | with_reducible refine a5.ar ?_
  | with_reducible refine a5.when ?_
  | (with_reducible refine jU fun _ _ _ _ _ _ => ?_)
  | (with_reducible refine a5.opt fun _ => ?_)
  | (with_reducible refine a5.cz (fun _ => ?_) ?_)
  | (with_reducible refine a5.idx fun _ => ?_)
  | (with_reducible refine a5.force fun _ => ?_)
  | (with_reducible refine a5.aR fun _ => ?_)
  | (with_reducible refine a5.ex fun _ => ?_)
  | split
theorem Be (C : Ctx) (s : AS) (t : TypeId) (m x : Operand) (ok : Bool) : a5 (g8 C s t m x ok) := by
 unfold g8
 repeat' first
  | with_reducible exact a5.ret _
  | with_reducible exact a5.fail
  | with_reducible refine a5.ar ?_
  | with_reducible refine a5.when ?_
  | (with_reducible refine jU fun _ _ _ _ _ _ => ?_)
  | (with_reducible refine a5.opt fun _ => ?_)
  | (with_reducible refine a5.cz (fun _ => ?_) ?_)
  | (with_reducible refine a5.idx fun _ => ?_)
  | (with_reducible refine a5.force fun _ => ?_)
  | (with_reducible refine a5.aR fun _ => ?_)
  | (with_reducible refine a5.ex fun _ => ?_)
  | split
theorem Bj (C : Ctx) (s : AS) (t : TypeId) (m x y : Operand) : a5 (jz C s t m x y) := by
 unfold jz
 repeat' first
  | with_reducible exact a5.ret _
  | with_reducible exact a5.fail
  | with_reducible refine a5.ar ?_
  | with_reducible refine a5.when ?_
  | (with_reducible refine jU fun _ _ _ _ _ _ => ?_)
  | (with_reducible refine a5.opt fun _ => ?_)
  | (with_reducible refine a5.cz (fun _ => ?_) ?_)
  | (with_reducible refine a5.idx fun _ => ?_)
  | (with_reducible refine a5.force fun _ => ?_)
  | (with_reducible refine a5.aR fun _ => ?_)
  | (with_reducible refine a5.ex fun _ => ?_)
  | split
theorem Bi (C : Ctx) (s : AS) (t : TypeId) (m x : Operand) : a5 (hM C s t m x) := by
 unfold hM
 repeat' first
  | with_reducible exact a5.ret _
  | with_reducible exact a5.fail
  | with_reducible refine a5.ar ?_
  | with_reducible refine a5.when ?_
  | (with_reducible refine jU fun _ _ _ _ _ _ => ?_)
  | (with_reducible refine a5.opt fun _ => ?_)
  | (with_reducible refine a5.cz (fun _ => ?_) ?_)
  | (with_reducible refine a5.idx fun _ => ?_)
  | (with_reducible refine a5.force fun _ => ?_)
  | (with_reducible refine a5.aR fun _ => ?_)
  | (with_reducible refine a5.ex fun _ => ?_)
  | split
theorem B4 (C : Ctx) (s : AS) (t : TypeId) (m b y : Operand) : a5 (jr C s t m b y) := by
 unfold jr
 repeat' first
  | with_reducible exact a5.ret _
  | with_reducible exact a5.fail
  | with_reducible refine a5.ar ?_
  | with_reducible refine a5.when ?_
  | (with_reducible refine jU fun _ _ _ _ _ _ => ?_)
  | (with_reducible refine a5.opt fun _ => ?_)
  | (with_reducible refine a5.cz (fun _ => ?_) ?_)
  | (with_reducible refine a5.idx fun _ => ?_)
  | (with_reducible refine a5.force fun _ => ?_)
  | (with_reducible refine a5.aR fun _ => ?_)
  | (with_reducible refine a5.ex fun _ => ?_)
  | split
theorem B3 (C : Ctx) (s : AS) (t : TypeId) (m x : V) : a5 (jq C s t m x) := by
 unfold jq
 repeat' first
  | with_reducible exact a5.ret _
  | with_reducible exact a5.fail
  | with_reducible refine a5.ar ?_
  | with_reducible refine a5.when ?_
  | (with_reducible refine jU fun _ _ _ _ _ _ => ?_)
  | (with_reducible refine a5.opt fun _ => ?_)
  | (with_reducible refine a5.cz (fun _ => ?_) ?_)
  | (with_reducible refine a5.idx fun _ => ?_)
  | (with_reducible refine a5.force fun _ => ?_)
  | (with_reducible refine a5.aR fun _ => ?_)
  | (with_reducible refine a5.ex fun _ => ?_)
  | split
theorem Bb (C : Ctx) (s : AS) (t : TypeId) (m : V) : a5 (jw C s t m) := by
 unfold jw
 repeat' first
  | with_reducible exact a5.ret _
  | with_reducible exact a5.fail
  | with_reducible refine a5.ar ?_
  | with_reducible refine a5.when ?_
  | (with_reducible refine jU fun _ _ _ _ _ _ => ?_)
  | (with_reducible refine a5.opt fun _ => ?_)
  | (with_reducible refine a5.cz (fun _ => ?_) ?_)
  | (with_reducible refine a5.idx fun _ => ?_)
  | (with_reducible refine a5.force fun _ => ?_)
  | (with_reducible refine a5.aR fun _ => ?_)
  | (with_reducible refine a5.ex fun _ => ?_)
  | split
theorem B5 (C : Ctx) (s : AS) (x : Operand) : a5 (kE C s x) := by
 unfold kE
 repeat' first
  | with_reducible exact a5.ret _
  | with_reducible exact a5.fail
  | with_reducible refine a5.ar ?_
  | with_reducible refine a5.when ?_
  | (with_reducible refine jU fun _ _ _ _ _ _ => ?_)
  | (with_reducible refine a5.opt fun _ => ?_)
  | (with_reducible refine a5.cz (fun _ => ?_) ?_)
  | (with_reducible refine a5.idx fun _ => ?_)
  | (with_reducible refine a5.force fun _ => ?_)
  | (with_reducible refine a5.aR fun _ => ?_)
  | (with_reducible refine a5.ex fun _ => ?_)
  | split
theorem B0 (C : Ctx) (s : AS) (b : Builtin) (ts : List TypeId) (args : List V) : a5 (gH C s b ts args) := by
 unfold gH
 repeat' first
  | with_reducible exact a5.ret _
  | with_reducible exact a5.fail
  | with_reducible exact AV _ _ _ _ _ _
  | with_reducible exact B3 _ _ _ _ _
  | with_reducible refine a5.ar ?_
  | with_reducible refine a5.when ?_
  | (with_reducible refine a5.bind (jl _ _) fun _ => ?_)
  | (with_reducible refine a5.aR fun _ => ?_)
  | split
theorem w5 (C : Ctx) (s : AS) (a b : TypeId) (x : V) : a5 (fT C s a b x) := by
 unfold fT
 repeat' first
  | with_reducible exact a5.ret _
  | with_reducible exact a5.fail
  | with_reducible refine a5.ar ?_
  | with_reducible refine a5.when ?_
  | (with_reducible refine a5.bind (jl _ _) fun _ => ?_)
  | (with_reducible refine a5.ex fun _ => ?_)
  | split
theorem di (C : Ctx) (s : AS) (len : Nat) (lo hi : Option Operand) : a5 (fy C s len lo hi) := by
 unfold fy
 repeat' first
  | with_reducible exact a5.ret _
  | with_reducible exact a5.fail
  | with_reducible refine a5.ar ?_
  | split

theorem Bp (C : Ctx) (s : AS) (c a b : Operand) : a5 (lV C s c a b) := by
 unfold lV
 repeat' first
  | with_reducible exact a5.ret _
  | with_reducible exact a5.fail
  | with_reducible exact a5.ct _
  | with_reducible refine a5.ar ?_
  | with_reducible refine a5.when ?_
  | (with_reducible refine a5.opt fun _ => ?_)
  | (with_reducible refine a5.idx fun _ => ?_)
  | (with_reducible refine a5.bM fun _ => ?_)
  | with_reducible refine a5.bd ?_ ?_
  | (with_reducible refine a5.force fun _ => ?_)
  | (with_reducible refine a5.aR fun _ => ?_)
  | (with_reducible refine a5.cut fun _ => ?_)
  | (with_reducible refine a5.ex fun _ => ?_)
  | (with_reducible refine a5.bind (cK _ _ _ _) fun _ => ?_)
  | (with_reducible refine a5.bind (di _ _ _ _ _) fun _ => ?_)
  | split
theorem AU (C : Ctx) (s : AS) (t : TypeId) : a5 (jn C s t) := by
 unfold jn
 repeat' first
  | with_reducible exact a5.ret _
  | with_reducible exact a5.fail
  | with_reducible exact a5.ct _
  | with_reducible refine a5.ar ?_
  | with_reducible refine a5.when ?_
  | (with_reducible refine a5.opt fun _ => ?_)
  | (with_reducible refine a5.idx fun _ => ?_)
  | (with_reducible refine a5.bM fun _ => ?_)
  | with_reducible refine a5.bd ?_ ?_
  | (with_reducible refine a5.force fun _ => ?_)
  | (with_reducible refine a5.aR fun _ => ?_)
  | (with_reducible refine a5.cut fun _ => ?_)
  | (with_reducible refine a5.ex fun _ => ?_)
  | (with_reducible refine a5.bind (cK _ _ _ _) fun _ => ?_)
  | (with_reducible refine a5.bind (di _ _ _ _ _) fun _ => ?_)
  | split
theorem AZ (C : Ctx) (s : AS) (t : TypeId) (parts : Array (Nat × Operand)) : a5 (kC C s t parts) := by
 unfold kC
 repeat' first
  | with_reducible exact a5.ret _
  | with_reducible exact a5.fail
  | with_reducible exact a5.ct _
  | with_reducible refine a5.ar ?_
  | with_reducible refine a5.when ?_
  | (with_reducible refine a5.opt fun _ => ?_)
  | (with_reducible refine a5.idx fun _ => ?_)
  | (with_reducible refine a5.bM fun _ => ?_)
  | with_reducible refine a5.bd ?_ ?_
  | (with_reducible refine a5.force fun _ => ?_)
  | (with_reducible refine a5.aR fun _ => ?_)
  | (with_reducible refine a5.cut fun _ => ?_)
  | (with_reducible refine a5.ex fun _ => ?_)
  | (with_reducible refine a5.bind (cK _ _ _ _) fun _ => ?_)
  | (with_reducible refine a5.bind (di _ _ _ _ _) fun _ => ?_)
  | split
theorem nh (C : Ctx) (s : AS) (t : TypeId) (len : Nat) (parts : Array (Nat × Operand)) : a5 (fS C s t len parts) := by
 unfold fS
 repeat' first
  | with_reducible exact a5.ret _
  | with_reducible exact a5.fail
  | with_reducible exact a5.ct _
  | with_reducible refine a5.ar ?_
  | with_reducible refine a5.when ?_
  | (with_reducible refine a5.opt fun _ => ?_)
  | (with_reducible refine a5.idx fun _ => ?_)
  | (with_reducible refine a5.bM fun _ => ?_)
  | with_reducible refine a5.bd ?_ ?_
  | (with_reducible refine a5.force fun _ => ?_)
  | (with_reducible refine a5.aR fun _ => ?_)
  | (with_reducible refine a5.cut fun _ => ?_)
  | (with_reducible refine a5.ex fun _ => ?_)
  | (with_reducible refine a5.bind (cK _ _ _ _) fun _ => ?_)
  | (with_reducible refine a5.bind (di _ _ _ _ _) fun _ => ?_)
  | split
theorem Bd (C : Ctx) (s : AS) (t : TypeId) (a : Operand) : a5 (iQ C s t a) := by
 unfold iQ
 repeat' first
  | with_reducible exact a5.ret _
  | with_reducible exact a5.fail
  | with_reducible exact a5.ct _
  | with_reducible refine a5.ar ?_
  | with_reducible refine a5.when ?_
  | (with_reducible refine a5.opt fun _ => ?_)
  | (with_reducible refine a5.idx fun _ => ?_)
  | (with_reducible refine a5.bM fun _ => ?_)
  | with_reducible refine a5.bd ?_ ?_
  | (with_reducible refine a5.force fun _ => ?_)
  | (with_reducible refine a5.aR fun _ => ?_)
  | (with_reducible refine a5.cut fun _ => ?_)
  | (with_reducible refine a5.ex fun _ => ?_)
  | (with_reducible refine a5.bind (cK _ _ _ _) fun _ => ?_)
  | (with_reducible refine a5.bind (di _ _ _ _ _) fun _ => ?_)
  | split
theorem Bs (C : Ctx) (s : AS) (t : TypeId) (a x : Operand) : a5 (jC C s t a x) := by
 unfold jC
 repeat' first
  | with_reducible exact a5.ret _
  | with_reducible exact a5.fail
  | with_reducible exact a5.ct _
  | with_reducible refine a5.ar ?_
  | with_reducible refine a5.when ?_
  | (with_reducible refine a5.opt fun _ => ?_)
  | (with_reducible refine a5.idx fun _ => ?_)
  | (with_reducible refine a5.bM fun _ => ?_)
  | with_reducible refine a5.bd ?_ ?_
  | (with_reducible refine a5.force fun _ => ?_)
  | (with_reducible refine a5.aR fun _ => ?_)
  | (with_reducible refine a5.cut fun _ => ?_)
  | (with_reducible refine a5.ex fun _ => ?_)
  | (with_reducible refine a5.bind (cK _ _ _ _) fun _ => ?_)
  | (with_reducible refine a5.bind (di _ _ _ _ _) fun _ => ?_)
  | split
theorem Bm (C : Ctx) (s : AS) (x : Operand) : a5 (jB C s x) := by
 unfold jB
 repeat' first
  | with_reducible exact a5.ret _
  | with_reducible exact a5.fail
  | with_reducible exact a5.ct _
  | with_reducible refine a5.ar ?_
  | with_reducible refine a5.when ?_
  | (with_reducible refine a5.opt fun _ => ?_)
  | (with_reducible refine a5.idx fun _ => ?_)
  | (with_reducible refine a5.bM fun _ => ?_)
  | with_reducible refine a5.bd ?_ ?_
  | (with_reducible refine a5.force fun _ => ?_)
  | (with_reducible refine a5.aR fun _ => ?_)
  | (with_reducible refine a5.cut fun _ => ?_)
  | (with_reducible refine a5.ex fun _ => ?_)
  | (with_reducible refine a5.bind (cK _ _ _ _) fun _ => ?_)
  | (with_reducible refine a5.bind (di _ _ _ _ _) fun _ => ?_)
  | split
theorem Bf (C : Ctx) (s : AS) (t : TypeId) (x : Operand) : a5 (lT C s t x) := by
 unfold lT
 repeat' first
  | with_reducible exact a5.ret _
  | with_reducible exact a5.fail
  | with_reducible exact a5.ct _
  | with_reducible refine a5.ar ?_
  | with_reducible refine a5.when ?_
  | (with_reducible refine a5.opt fun _ => ?_)
  | (with_reducible refine a5.idx fun _ => ?_)
  | (with_reducible refine a5.bM fun _ => ?_)
  | with_reducible refine a5.bd ?_ ?_
  | (with_reducible refine a5.force fun _ => ?_)
  | (with_reducible refine a5.aR fun _ => ?_)
  | (with_reducible refine a5.cut fun _ => ?_)
  | (with_reducible refine a5.ex fun _ => ?_)
  | (with_reducible refine a5.bind (cK _ _ _ _) fun _ => ?_)
  | (with_reducible refine a5.bind (di _ _ _ _ _) fun _ => ?_)
  | split
theorem Bh (C : Ctx) (s : AS) (t : TypeId) (l c : Operand) : a5 (jy C s t l c) := by
 unfold jy
 repeat' first
  | with_reducible exact a5.ret _
  | with_reducible exact a5.fail
  | with_reducible exact a5.ct _
  | with_reducible refine a5.ar ?_
  | with_reducible refine a5.when ?_
  | (with_reducible refine a5.opt fun _ => ?_)
  | (with_reducible refine a5.idx fun _ => ?_)
  | (with_reducible refine a5.bM fun _ => ?_)
  | with_reducible refine a5.bd ?_ ?_
  | (with_reducible refine a5.force fun _ => ?_)
  | (with_reducible refine a5.aR fun _ => ?_)
  | (with_reducible refine a5.cut fun _ => ?_)
  | (with_reducible refine a5.ex fun _ => ?_)
  | (with_reducible refine a5.bind (cK _ _ _ _) fun _ => ?_)
  | (with_reducible refine a5.bind (di _ _ _ _ _) fun _ => ?_)
  | split
theorem Bq (C : Ctx) (s : AS) (t : TypeId) (x : Operand) (lo hi mx : Option Operand) : a5 (kJ C s t x lo hi mx) := by
 unfold kJ
 repeat' first
  | with_reducible exact a5.ret _
  | with_reducible exact a5.fail
  | with_reducible exact a5.ct _
  | with_reducible refine a5.ar ?_
  | with_reducible refine a5.when ?_
  | (with_reducible refine a5.opt fun _ => ?_)
  | (with_reducible refine a5.idx fun _ => ?_)
  | (with_reducible refine a5.bM fun _ => ?_)
  | with_reducible refine a5.bd ?_ ?_
  | (with_reducible refine a5.force fun _ => ?_)
  | (with_reducible refine a5.aR fun _ => ?_)
  | (with_reducible refine a5.cut fun _ => ?_)
  | (with_reducible refine a5.ex fun _ => ?_)
  | (with_reducible refine a5.bind (cK _ _ _ _) fun _ => ?_)
  | (with_reducible refine a5.bind (di _ _ _ _ _) fun _ => ?_)
  | split
theorem B7 (C : Ctx) (s : AS) (t : TypeId) (x : Operand) (f : Nat) : a5 (ju C s t x f) := by
 unfold ju
 repeat' first
  | with_reducible exact a5.ret _
  | with_reducible exact a5.fail
  | with_reducible exact a5.ct _
  | with_reducible refine a5.ar ?_
  | with_reducible refine a5.when ?_
  | (with_reducible refine a5.opt fun _ => ?_)
  | (with_reducible refine a5.idx fun _ => ?_)
  | (with_reducible refine a5.bM fun _ => ?_)
  | with_reducible refine a5.bd ?_ ?_
  | (with_reducible refine a5.force fun _ => ?_)
  | (with_reducible refine a5.aR fun _ => ?_)
  | (with_reducible refine a5.cut fun _ => ?_)
  | (with_reducible refine a5.ex fun _ => ?_)
  | (with_reducible refine a5.bind (cK _ _ _ _) fun _ => ?_)
  | (with_reducible refine a5.bind (di _ _ _ _ _) fun _ => ?_)
  | split
theorem B8 (C : Ctx) (s : AS) (t : TypeId) (x : Operand) (f : Nat) : a5 (jt C s t x f) := by
 unfold jt
 repeat' first
  | with_reducible exact a5.ret _
  | with_reducible exact a5.fail
  | with_reducible exact a5.ct _
  | with_reducible refine a5.ar ?_
  | with_reducible refine a5.when ?_
  | (with_reducible refine a5.opt fun _ => ?_)
  | (with_reducible refine a5.idx fun _ => ?_)
  | (with_reducible refine a5.bM fun _ => ?_)
  | with_reducible refine a5.bd ?_ ?_
  | (with_reducible refine a5.force fun _ => ?_)
  | (with_reducible refine a5.aR fun _ => ?_)
  | (with_reducible refine a5.cut fun _ => ?_)
  | (with_reducible refine a5.ex fun _ => ?_)
  | (with_reducible refine a5.bind (cK _ _ _ _) fun _ => ?_)
  | (with_reducible refine a5.bind (di _ _ _ _ _) fun _ => ?_)
  | split
theorem B9 (C : Ctx) (s : AS) (t : TypeId) (x ix : Operand) : a5 (kF C s t x ix) := by
 unfold kF
 repeat' first
  | with_reducible exact a5.ret _
  | with_reducible exact a5.fail
  | with_reducible exact a5.ct _
  | with_reducible refine a5.ar ?_
  | with_reducible refine a5.when ?_
  | (with_reducible refine a5.opt fun _ => ?_)
  | (with_reducible refine a5.idx fun _ => ?_)
  | (with_reducible refine a5.bM fun _ => ?_)
  | with_reducible refine a5.bd ?_ ?_
  | (with_reducible refine a5.force fun _ => ?_)
  | (with_reducible refine a5.aR fun _ => ?_)
  | (with_reducible refine a5.cut fun _ => ?_)
  | (with_reducible refine a5.ex fun _ => ?_)
  | (with_reducible refine a5.bind (cK _ _ _ _) fun _ => ?_)
  | (with_reducible refine a5.bind (di _ _ _ _ _) fun _ => ?_)
  | split
theorem Ba (C : Ctx) (s : AS) (t : TypeId) (x ix : Operand) : a5 (lR C s t x ix) := by
 unfold lR
 repeat' first
  | with_reducible exact a5.ret _
  | with_reducible exact a5.fail
  | with_reducible exact a5.ct _
  | with_reducible refine a5.ar ?_
  | with_reducible refine a5.when ?_
  | (with_reducible refine a5.opt fun _ => ?_)
  | (with_reducible refine a5.idx fun _ => ?_)
  | (with_reducible refine a5.bM fun _ => ?_)
  | with_reducible refine a5.bd ?_ ?_
  | (with_reducible refine a5.force fun _ => ?_)
  | (with_reducible refine a5.aR fun _ => ?_)
  | (with_reducible refine a5.cut fun _ => ?_)
  | (with_reducible refine a5.ex fun _ => ?_)
  | (with_reducible refine a5.bind (cK _ _ _ _) fun _ => ?_)
  | (with_reducible refine a5.bind (di _ _ _ _ _) fun _ => ?_)
  | split
theorem AW (C : Ctx) (s : AS) (x : Operand) (t : TypeId) (ok : Bool) : a5 (lP C s x t ok) := by
 unfold lP
 repeat' first
  | with_reducible exact a5.ret _
  | with_reducible exact a5.fail
  | with_reducible exact a5.ct _
  | with_reducible refine a5.ar ?_
  | with_reducible refine a5.when ?_
  | (with_reducible refine a5.opt fun _ => ?_)
  | (with_reducible refine a5.idx fun _ => ?_)
  | (with_reducible refine a5.bM fun _ => ?_)
  | with_reducible refine a5.bd ?_ ?_
  | (with_reducible refine a5.force fun _ => ?_)
  | (with_reducible refine a5.aR fun _ => ?_)
  | (with_reducible refine a5.cut fun _ => ?_)
  | (with_reducible refine a5.ex fun _ => ?_)
  | (with_reducible refine a5.bind (cK _ _ _ _) fun _ => ?_)
  | (with_reducible refine a5.bind (di _ _ _ _ _) fun _ => ?_)
  | split
theorem B6 (C : Ctx) (s : AS) (x : Operand) (i : Nat) : a5 (lQ C s x i) := by
 unfold lQ
 repeat' first
  | with_reducible exact a5.ret _
  | with_reducible exact a5.fail
  | with_reducible exact a5.ct _
  | with_reducible refine a5.ar ?_
  | with_reducible refine a5.when ?_
  | (with_reducible refine a5.opt fun _ => ?_)
  | (with_reducible refine a5.idx fun _ => ?_)
  | (with_reducible refine a5.bM fun _ => ?_)
  | with_reducible refine a5.bd ?_ ?_
  | (with_reducible refine a5.force fun _ => ?_)
  | (with_reducible refine a5.aR fun _ => ?_)
  | (with_reducible refine a5.cut fun _ => ?_)
  | (with_reducible refine a5.ex fun _ => ?_)
  | (with_reducible refine a5.bind (cK _ _ _ _) fun _ => ?_)
  | (with_reducible refine a5.bind (di _ _ _ _ _) fun _ => ?_)
  | split
theorem Bc (C : Ctx) (s : AS) (t : TypeId) (x : Operand) : a5 (jv C s t x) := by
 unfold jv
 repeat' first
  | with_reducible exact a5.ret _
  | with_reducible exact a5.fail
  | with_reducible exact Bb _ _ _ _
  | with_reducible exact a5.ct _
  | with_reducible refine a5.ar ?_
  | with_reducible refine a5.when ?_
  | (with_reducible refine a5.opt fun _ => ?_)
  | (with_reducible refine a5.idx fun _ => ?_)
  | (with_reducible refine a5.bM fun _ => ?_)
  | with_reducible refine a5.bd ?_ ?_
  | (with_reducible refine a5.force fun _ => ?_)
  | (with_reducible refine a5.aR fun _ => ?_)
  | (with_reducible refine a5.cut fun _ => ?_)
  | (with_reducible refine a5.ex fun _ => ?_)
  | (with_reducible refine a5.bind (cK _ _ _ _) fun _ => ?_)
  | (with_reducible refine a5.bind (di _ _ _ _ _) fun _ => ?_)
  | split
theorem Bl (C : Ctx) (s : AS) (x : Operand) (b : Bool) : a5 (kG C s x b) := by
 unfold kG
 repeat' first
  | with_reducible exact a5.ret _
  | with_reducible exact a5.fail
  | with_reducible exact a5.ct _
  | with_reducible refine a5.ar ?_
  | with_reducible refine a5.when ?_
  | (with_reducible refine a5.opt fun _ => ?_)
  | (with_reducible refine a5.idx fun _ => ?_)
  | (with_reducible refine a5.bM fun _ => ?_)
  | with_reducible refine a5.bd ?_ ?_
  | (with_reducible refine a5.force fun _ => ?_)
  | (with_reducible refine a5.aR fun _ => ?_)
  | (with_reducible refine a5.cut fun _ => ?_)
  | (with_reducible refine a5.ex fun _ => ?_)
  | (with_reducible refine a5.bind (cK _ _ _ _) fun _ => ?_)
  | (with_reducible refine a5.bind (di _ _ _ _ _) fun _ => ?_)
  | split
theorem B1 (C : Ctx) (s : AS) (c : Call) : a5 (kD C s c) := by
 unfold kD
 split
 . exact a5.bM fun _ => B0 _ _ _ _ _
 . exact a5.opt fun _ => a5.ct _
 . split
   . exact a5.ex fun _ => a5.ar (a5.ct _)
   . exact a5.fail
theorem AX (C : Ctx) (s : AS) (dst : Option Nat) (t : TypeId) (len : Nat) (parts : Array (Nat × Operand)) : a5 (iO C s dst t len parts) := by
 unfold iO
 split
 . rename_i d
   cases C.lits d
   . exact nh _ _ _ _ _
   . simp only [cond_true, lS]
     refine a5.bind (nh _ _ _ _ _) fun e => ?_
     split
     . exact a5.aR fun _ => a5.ret _
     . exact a5.fail
 . exact nh _ _ _ _ _
theorem Bk (C : Ctx) (s : AS) (a b : TypeId) (x : V) : a5 (jA C s a b x) := by
 unfold jA
 split
 . cases Nat.beq a b
   . exact w5 _ _ _ _ _
   . simp only [cond_true]
     split
     . split
       . split
         . exact a5.ret _
         . exact a5.fail
       . exact a5.fail
     . exact a5.fail
 . exact w5 _ _ _ _ _
theorem AY (C : Ctx) (c : Bool) (op : BinOp) (t : TypeId) (u v : V) : a5 (cond c (kH C op t) (d8 (iP C op t u v) fun v => ret (pe v))) := by
 cases c with
 | false =>
   show a5 (d8 (iP C op t u v) fun v => ret (pe v))
   exact a5.bind (vZ C op t u v) fun _ => a5.ret _
 | true =>
   show a5 (kH C op t)
   unfold kH
   split
   . exact a5.ret _
   . exact a5.ret _
   . exact a5.fail
theorem lU (C : Ctx) (s : AS) (o : Oper) : a5 (bC C s o) := by
 unfold bC
 split
 . exact a5.force fun _ => a5.ret _
 . exact a5.force fun _ => a5.ret _
 . exact Bp _ _ _ _ _
 . exact AU _ _ _
 . exact a5.force fun _ => a5.aR fun _ => a5.when (a5.ret _)
 . exact AZ _ _ _ _
 . exact AX _ _ _ _ _ _
 . exact Bd _ _ _ _
 . exact Bs _ _ _ _ _
 . exact Bm _ _ _
 . exact AY _ _ _ _ _ _
 . exact a5.bind (w8 _ _) fun _ => a5.ret _
 . exact Bk _ _ _ _ _
 . exact Bf _ _ _ _
 . exact a5.bM fun _ => a5.bM fun _ => a5.ret _
 . exact Bh _ _ _ _ _
 . exact Bq _ _ _ _ _ _ _
 . exact B7 _ _ _ _ _
 . exact B8 _ _ _ _ _
 . exact B9 _ _ _ _ _
 . exact Ba _ _ _ _ _
 . exact AW _ _ _ _ _
 . exact B6 _ _ _ _
 . exact Bc _ _ _ _
 . exact Bl _ _ _ _
 . exact Bg _ _ _
 . exact Be _ _ _ _ _ _
 . exact Bj _ _ _ _ _ _
 . exact Bi _ _ _ _ _
 . exact B4 _ _ _ _ _ _
 . exact B5 _ _ _
 . exact B1 _ _ _
 . exact a5.fail

structure Rel (E : Env) (st : St) (g : aa) (s : AS) (a : Act) (w : World) : Prop where
 nt : a.tmps.size = s.nt
 df : a.defers = E.ds
 tm : ∀ t, VR st g (lk s.tm t) s.sg.length (a.tmps.getD t undef)
 wr : ay E st g s.sg w

theorem HD {k : IntKind} {n : Int} (h : pE k n = true) : k.min ≤ n ∧ n ≤ k.max := by
 unfold pE at h
 split at h
 . cases k <;> simp only [y3] at h <;> have h' := Nat.le_of_ble_eq_true h <;> simp [IntKind.min, IntKind.max, IntKind.signed, IntKind.bits] <;> omega
 . cases k <;> simp only [y5] at h <;> first
  | (have h' := Nat.le_of_ble_eq_true h; simp [IntKind.min, IntKind.max, IntKind.signed, IntKind.bits]; omega)
  | cases h

theorem ya {st : St} {g : aa} {n : Nat} (v : Value) : VR st g (pW v) n v := by
 unfold pW
 split
 . rename_i k m
   cases h : pE k m with
   | true => simpa [VR] using HD h
   | false => simp [VR]
 . simp [VR]
 . rename_i s
   cases h : Nat.ble s.data.toList.length 1048576 with
   | true =>
     have := Nat.le_of_ble_eq_true h
     simp only [cond_true, VR]
     have h3 : s.data.toList.length ≤ maxLen := by unfold maxLen; omega
     simpa [VR] using h3
   | false => simp [VR]
 . simp only [VR]; exact ⟨none, 0, by simp, by simp, by simp [maxLen], by simp, .inl trivial⟩
 . simp [VR]
 . simp [VR]
 . simp [VR]
 . simp [VR]
 . simp [VR]
theorem yb {st : St} {g : aa} {n : Nat} : ∀ vs : List Value, al st g (sL vs) n vs
 | [] => cp
 | v :: vs => bm (ya v) (yb vs)
theorem G2 {st : St} {g : aa} {n : Nat} (v : Value) : VR st g (sK v) n v := by
 unfold sK
 split
 . rename_i cs
   simp only [VR]
   exact ⟨cs, rfl, yb _⟩
 . exact ya v

theorem aI {E : Env} {st : St} {g : aa} {s : AS} {a : Act} {w : World} {C : Ctx} (R : Rel E st g s a w) (hg : aF C.gl st) (x : Operand) : VR st g (s.ev C x) s.sg.length (a.eval x) := by
 cases x with
 | tmp t => exact R.tm t
 | const v => exact G2 v
 | global b =>
   simp only [AS.ev, Act.eval]
   split
   . rename_i cs h
     obtain ⟨vs, h1, h2⟩ := hg b cs h g
     simp only [VR]
     exact ⟨b, 0, vs, rfl, h1, fun j hj => by rw [Nat.zero_add]; exact h2 j hj⟩
   . simp [VR]
 | func f =>
   simp only [AS.ev, Act.eval, VR]
   exact ⟨#[], #[], rfl, cp, cp⟩
theorem lX {E : Env} {st : St} {g : aa} {s : AS} {a : Act} {w : World} {C : Ctx} (R : Rel E st g s a w) (hg : aF C.gl st) : ∀ xs : List Operand, al st g (s.bF C xs) s.sg.length (xs.map a.eval)
 | [] => cp
 | x :: xs => bm (aI R hg x) (lX R hg xs)

theorem kV : ∀ (up : List (Nat × O)) (sg : List O), (cA sg up).length = sg.length
 | [], sg => rfl
 | (i, o) :: r, sg => by simp only [cA]; rw [kV r, dY]; simp
theorem oL {E : Env} {st st' : St} {g g' : aa} {n n' : Nat} {ks : List Nat} (A : fK E st g n st' g' n' ks) {x : V} {v : Value} (h : VR st g x n v) : VR st' g' (x.kill ks) n' v :=
 dF A.mono (fun i hi hn => ⟨Nat.lt_of_lt_of_le hn A.len, A.aO i hn (iW hi).1⟩) (mT h)

theorem Rel.app {E : Env} {st st' : St} {g g' : aa} {s : AS} {a : Act} {w w' : World} {d : Option Nat} {e : Ef} {v : Value} (R : Rel E st g s a w) (hd : cI s d = true)
   (A : fK E st g s.sg.length st' g' (s.app d e).sg.length e.ks) (W : ay E st' g' (s.app d e).sg w') (hv : VR st' g' e.v (s.app d e).sg.length v) : Rel E st' g' (s.app d e) (a.put d v) w' where
 nt := by
  cases d with
  | none => exact R.nt
  | some d => simp [Act.put, AS.app, R.nt]
 df := by cases d <;> exact R.df
 wr := W
 tm := fun t => by
   cases d with
   | none =>
     have h1 : lk (s.app none e).tm t = (lk s.tm t).kill e.ks := by simp only [AS.app]; exact iZ _ _ _
     rw [h1]
     exact oL A (R.tm t)
   | some d =>
     have hlt : d < s.nt := by simpa [cI] using hd
     have h1 : lk (s.app (some d) e).tm t = cond (Nat.beq d t) e.v ((lk s.tm t).kill e.ks) := by simp only [AS.app, lk]; rw [iZ]
     rw [h1]
     by_cases hdt : d = t
     . subst hdt
       rw [show Nat.beq d d = true from Nat.beq_refl d]
       simp only [cond_true, Act.put]
       rw [show (a.tmps.setIfInBounds d v).getD d undef = v by simp [R.nt, hlt]]
       exact hv
     . rw [show Nat.beq d t = false from by cases hb : Nat.beq d t with | false => rfl | true => exact absurd (Nat.eq_of_beq_eq_true hb) hdt]
       simp only [cond_false, Act.put]
       rw [show (a.tmps.setIfInBounds d v).getD t undef = a.tmps.getD t undef by simp [hdt]]
       exact oL A (R.tm t)

structure Good (C : Ctx) : Prop where
 ti : ∀ t, au C.P t (C.ti t)
 mt : ∀ t m f, C.mt t m f → ∀ (v : Value) (w : World), (method (C.P.types.size + Made.depth) t v m).run C.P w = .ok (f, v) w
 hm : C.P.follows .mixedOrders = true

def aj (C : Ctx) (E : Env) (st : St) (g : aa) (s : AS) (a : Act) (w : World) (o : Oper) (e : Ef) : Prop :=
 ∀ (next : Act → World → Prop) (Q : Exit → Act → World → Prop), (∀ st' g' w' v, fK E st g s.sg.length st' g' (s.app o.dst e).sg.length e.ks → ay E st' g' (s.app o.dst e).sg w' →
  VR st' g' e.v (s.app o.dst e).sg.length v → next (a.put o.dst v) w') → o.wp C.P a w next Q

section
variable {C : Ctx} {E : Env} {st : St} {g : aa} {s : AS} {a : Act} {w : World} {o : Oper}

theorem aj.val {e : Ef} (v : Value) (w' : World) (st' : St) (g' : aa) (hr : (execOp a.eval o).run C.P w = .ok (.value v) w')
   (A : fK E st g s.sg.length st' g' (s.app o.dst e).sg.length e.ks) (W : ay E st' g' (s.app o.dst e).sg w') (hv : VR st' g' e.v (s.app o.dst e).sg.length v) : aj C E st g s a w o e := by
 intro next Q h
 unfold Oper.wp
 rw [hr]
 exact h st' g' w' v A W hv

theorem aj.skip {e : Ef} (w' : World) (st' : St) (g' : aa) (hr : (execOp a.eval o).run C.P w = .ok .skip w')
   (A : fK E st g s.sg.length st' g' (s.app o.dst e).sg.length e.ks) (W : ay E st' g' (s.app o.dst e).sg w') (hv : VR st' g' e.v (s.app o.dst e).sg.length undef) : aj C E st g s a w o e := by
 intro next Q h
 unfold Oper.wp
 rw [hr]
 exact h st' g' w' undef A W hv

theorem dK (s : AS) (d : Option Nat) (x : V) : (s.app d (pe x)).sg = s.sg := by simp [AS.app, pe, fD, cA, ec]
theorem jh (s : AS) (d : Option Nat) (x : V) (rd : List Nat) : (s.app d ⟨x, [], [], [], rd⟩).sg = s.sg := by simp [AS.app, fD, cA, ec]

theorem aj.pure {x : V} {rd : List Nat} (R : Rel E st g s a w) (v : Value) (w' : World) (hr : (execOp a.eval o).run C.P w = .ok (.value v) w') (hw : aG w w') (hv : VR st g x s.sg.length v) :
   aj C E st g s a w o ⟨x, [], [], [], rd⟩ := by
 refine aj.val v w' st g hr ⟨fun _ _ _ h => h, fun _ _ _ => rfl, ?_⟩ ?_ ?_
 . rw [jh]; exact Nat.le_refl _
 . rw [jh]; exact R.wr.same hw
 . rw [jh]; exact hv
end
end Go.VG
namespace Go.VG
open Go

section
variable {C : Ctx} {E : Env} {st : St} {g : aa} {s : AS} {a : Act} {w : World} {o : Oper} {e : Ef}

theorem lE (s : AS) (d : Option Nat) (x : V) (rd : List Nat) (ob : O) : (s.app d ⟨x, [], [], [ob], rd⟩).sg = s.sg ++ [ob] := by simp [AS.app, fD, cA, ec]

theorem aj.new {x : V} {rd : List Nat} {ob : O} (R : Rel E st g s a w) (v : Value) (w1 : World) (hw : aG w w1) (gi : Gh) (oj : Obj)
   (hr : (execOp a.eval o).run C.P w = .ok (.value v) (w1.alloc oj)) (hb : ∀ b, gi.blk = some b → b = w1.heap.size)
   (ho : cn E st (bf g s.sg.length gi) (s.sg.length + 1) (w1.alloc oj) gi ob)
   (hv : VR st (bf g s.sg.length gi) x (s.sg.length + 1) v) : aj C E st g s a w o ⟨x, [], [], [ob], rd⟩ := by
 refine aj.val v _ st (bf g s.sg.length gi) hr ⟨fun _ _ _ h => h, fun i hi _ => cj (Nat.ne_of_lt hi), ?_⟩ ?_ ?_
 . rw [lE]; simp
 . rw [lE]; exact (R.wr.same hw).A9 oj gi ob hb ho
 . rw [lE]; simpa using hv

theorem aj.y6 {rd : List Nat} {cs : List V} (R : Rel E st g s a w) (vs : Array Value) (el : TypeId)
   (hr : (execOp a.eval o).run C.P w = .ok (.value (.pointer (some ⟨w.heap.size, 0, none⟩))) (w.alloc (.cells vs el))) (hc : al st g cs s.sg.length vs.toList) :
   aj C E st g s a w o ⟨.ptr s.sg.length 0, [], [], [.cells cs], rd⟩ := by
 refine aj.new R _ w (aG.refl w) ⟨some w.heap.size, none, 0, 0, 0⟩ _ hr (by simp) ?_ ?_
 . refine ⟨w.heap.size, vs, el, (0, 0), rfl, R.wr.gnew _ R.wr.size, heap_alloc_new, ?_, ⟨by simp, by intro o _; simp⟩, R.wr.gT⟩
   exact gC (fun _ _ _ h => h) (fun i _ hi => ⟨by omega, cj (Nat.ne_of_lt hi)⟩) hc
 . simp only [VR]
   exact ⟨by omega, w.heap.size, by simp, rfl⟩

def a4 {α : Type} (p : α → Prop) (t : Tr α) : Prop := ∀ e, t (fun b => b = e) → p e
section
variable {α β : Type} {p : α → Prop}
theorem a4.ret {x : α} (h : p x) : a4 p (ret x) := by rintro _ ⟨⟩; exact h
theorem a4.fail : a4 p fail := fun _ h => h.elim
theorem a4.ar {A : Prop} {t : Tr α} (h : A → a4 p t) : a4 p (ar A t) := fun e he => h he.1 e he.2
theorem a4.when {b : Bool} {t : Tr α} (h : b = true → a4 p t) : a4 p (aS b t) := fun e he => by
 cases b with
 | false => exact he.elim
 | true => exact h rfl e he
theorem a4.opt {x : Option β} {f : β → Tr α} (h : ∀ y, x = some y → a4 p (f y)) : a4 p (cG x f) := fun e he => by
 cases x with
 | none => exact he.elim
 | some y => exact h y rfl e he
theorem a4.bd {b : Bool} {t u : Tr α} (ht : b = true → a4 p t) (hu : b = false → a4 p u) : a4 p (gE b t u) := fun e he => by
 cases b with
 | false => exact hu rfl e he
 | true => exact ht rfl e he
theorem a4.cz {x : Option β} {f : β → Tr α} {u : Tr α} (h : ∀ y, x = some y → a4 p (f y)) (hu : x = none → a4 p u) : a4 p (cz x f u) := fun e he => by
 cases hx : x with
 | none => exact hu hx e (he.2 hx)
 | some y => exact h y hx e (he.1 y hx)
theorem a4.ex {f : β → Tr α} (h : ∀ y, a4 p (f y)) : a4 p (exT f) := fun e ⟨y, he⟩ => h y e he
theorem a4.bind {t : Tr β} {f : β → Tr α} (ht : a5 t) (h : ∀ y, (∀ K : β → Prop, K y → t K) → a4 p (f y)) : a4 p (d8 t f) := fun e he => by
 obtain ⟨y, h1, h2⟩ := ht _ he
 exact h y h2 e h1
end
abbrev bp (C : Ctx) (E : Env) (st : St) (g : aa) (s : AS) (a : Act) (w : World) (o : Oper) (t : Tr Ef) : Prop := a4 (aj C E st g s a w o) t

theorem yL {x : Operand} (R : Rel E st g s a w) (hg : aF C.gl st) (ho : o.op = .move x ∨ o.op = .assign x) : bp C E st g s a w o (force (s.ev C x) fun x => ret (pe x)) := by
 rw [force_eq]
 exact a4.ret (aj.pure R (a.eval x) w (by rcases ho with ho | ho <;> simp [execOp, ho]) (aG.refl w) (aI R hg x))

theorem H3 {c x y : Operand} (R : Rel E st g s a w) (hg : aF C.gl st) (ho : o.op = .pick c x y) : bp C E st g s a w o (lV C s c x y) := by
 unfold lV
 have hc := aI R hg c
 split
 . rename_i t ht
   rw [ht] at hc
   simp only [VR] at hc
   simp only [force_eq]
   have hx := aI R hg x
   have hy := aI R hg y
   have hr : (execOp a.eval o).run C.P w = .ok (.value (if t then a.eval x else a.eval y)) w := by simp [execOp, ho, hc, asBool]
   split
   . rename_i bx bY h1 h2
     refine a4.ret (aj.pure R _ w hr (aG.refl w) ?_)
     rw [h1] at hx; rw [h2] at hy
     cases t
     . simpa [VR] using hy
     . simpa [VR] using hx
   . refine a4.bd (fun h => ?_) (fun h => ?_)
     . subst h; exact a4.ret (aj.pure R _ w hr (aG.refl w) (by simpa using hx))
     . subst h; exact a4.ret (aj.pure R _ w hr (aG.refl w) (by simpa using hy))
 . exact a4.fail

theorem Gv {t : TypeId} (R : Rel E st g s a w) (G : Good C) (ho : o.op = .alloc t) : bp C E st g s a w o (jn C s t) := by
 unfold jn
 split
 . exact a4.fail
 . rename_i hk
   simp only [force_eq, cy]
   refine a4.when fun hu => a4.ret ?_
   obtain ⟨z, hz, hz'⟩ := tc w (G.ti t) (fun h => hk h)
   refine aj.y6 R z.cells t ?_ (fM (hz' st g _) (by simpa using hu))
   simp [execOp, ho, Instr.alloc, hz, newVar, newRow]

theorem s_box {t : TypeId} {x : Operand} (R : Rel E st g s a w) (hg : aF C.gl st) (ho : o.op = .box t x) :
   bp C E st g s a w o (force (s.ev C x) fun x => aR s.sg.length fun n => aS (!x.d9) (ret ⟨.ptr n 0, [], [], [.cells x.cells], []⟩)) := by
 simp only [force_eq, cy]
 refine a4.when fun hu => a4.ret ?_
 refine aj.y6 R (a.eval x).cells t ?_ (fM (aI R hg x) (by simpa using hu))
 simp [execOp, ho, Instr.box, newVar, newRow]

theorem yj {agg : Bool} {size off : Nat} {cs : List V} {v : V} (h : ∀ K : V → Prop, K v → eS agg size cs off K) :
   (agg = true ∧ (size = 0 ∨ off + size ≤ cs.length) ∧ v = .agg ((cs.drop off).take size)) ∨ (agg = false ∧ cs[off]? = some v) := by
 have h := h (fun x => x = v) rfl
 unfold eS at h
 cases agg
 . cases hr : gb cs off with
   | none => simp only [cG, hr, dE] at h
   | some r =>
     simp only [cG, hr, dE] at h
     rw [pC] at hr
     cases h
     exact .inr ⟨rfl, hr⟩
 . cases hr : eD (fQ cs off) size with
   | none => simp only [cG, hr, dE] at h
   | some r =>
     simp only [cG, hr, dE] at h
     obtain ⟨h1, h2⟩ := uq hr
     rw [pb] at h1 h2
     subst h1
     cases h
     simp only [List.length_drop] at h2
     exact .inl ⟨rfl, by omega, rfl⟩

theorem qc {t : TypeId} {b o : Nat} {cs : List V} {vs : List Value} {v : V} {n : Nat} (G : Good C) (hk : (C.ti t).k ≠ .other) (hc : al st g cs n vs)
   (hw : ∀ j, j < vs.length → w.cell? ⟨b, o + j, none⟩ = vs[j]?) {off : Nat} (h : ∀ K : V → Prop, K v → eS (C.ti t).k.isAgg (C.ti t).size cs off K) :
   ∃ u, (loadVar t ⟨b, o + off, none⟩).run C.P w = .ok u w ∧ VR st g v n u := by
 rcases yj h with ⟨h1, h2, rfl⟩ | ⟨h1, h2⟩
 . have hl := dx hc
   have hlen : (C.ti t).size = ((vs.drop off).take (C.ti t).size).length := by simp; omega
   refine ⟨.agg ((vs.drop off).take (C.ti t).size).toArray, ?_, ?_⟩
   . have := run_loadCells_list (P := C.P) w ⟨b, o + off, none⟩ ((vs.drop off).take (C.ti t).size) (fun j v hj => by
       rw [Addr.add_lit]
       rw [List.getElem?_take] at hj
       split at hj
       . rw [List.getElem?_drop] at hj
         have hlt : off + j < vs.length := by
          rcases Nat.lt_or_ge (off + j) vs.length with h' | h'
          . exact h'
          . simp [List.getElem?_eq_none h'] at hj
         have := hw (off + j) hlt
         rw [hj] at this
         rw [Nat.add_assoc]; exact this
       . cases hj)
     rw [← hlen] at this
     simp [loadVar, qa w (G.ti t) hk, h1, dW w (G.ti t) hk, this]
   . simp only [VR]
     exact ⟨_, rfl, by simpa using oQ (oP hc)⟩
 . obtain ⟨u, h3, h4⟩ := lB hc h2
   have hlt : off < vs.length := by
    rcases Nat.lt_or_ge off vs.length with h' | h'
    . exact h'
    . simp [List.getElem?_eq_none h'] at h3
   refine ⟨u, ?_, h4⟩
   have := hw off hlt
   rw [h3] at this
   simp [loadVar, qa w (G.ti t) hk, h1, this]

theorem yC {t : TypeId} {cs : List V} {vs : Array Value} {v : V} {n off : Nat} (G : Good C) (hk : (C.ti t).k ≠ .other) (hc : al st g cs n vs.toList)
   (h : ∀ K : V → Prop, K v → eS (C.ti t).k.isAgg (C.ti t).size cs off K) : ∃ u, (part t vs off).run C.P w = .ok u w ∧ VR st g v n u := by
 rcases yj h with ⟨h1, h2, rfl⟩ | ⟨h1, h2⟩
 . refine ⟨.agg (vs.extract off (off + (C.ti t).size)), ?_, ?_⟩
   . simp [part, qa w (G.ti t) hk, h1, dW w (G.ti t) hk]
   . simp only [VR]
     refine ⟨_, rfl, ?_⟩
     rw [Array.toList_extract, List.extract_eq_take_drop]
     simpa using oQ (oP hc)
 . obtain ⟨u, h3, h4⟩ := lB hc h2
   refine ⟨u, ?_, h4⟩
   have h3' : vs[off]? = some u := by simpa using h3
   simp [part, qa w (G.ti t) hk, h1, h3']

theorem rI {E : Env} {sg : List O} (W : ay E st g sg w) {i : Nat} {cs : List V} (hi : sg[i]? = some (.cells cs)) : ∃ b c el fr, (g i).blk = some b ∧ E.G b ∧ w.heap[b]? = some (.cells c el fr) ∧ al st g cs sg.length c.toList ∧ jD c fr ∧ ∀ o, st b o = none :=
 W.ob i _ hi

theorem GP {t : TypeId} {x : Operand} (R : Rel E st g s a w) (hg : aF C.gl st) (G : Good C) (ho : o.op = .load t x) : bp C E st g s a w o (iQ C s t x) := by
 unfold iQ
 simp only [gK]
 split
 . exact a4.fail
 rename_i hk
 have hk : (C.ti t).k ≠ .other := fun h => hk h
 have hx := aI R hg x
 split
 . rename_i cs off he
   rw [he] at hx
   simp only [VR] at hx
   obtain ⟨b, of, vs, h1, h2, h3⟩ := hx
   refine a4.bind (cK _ _ _ _) fun v hv => ?_
   rw [force_eq]
   have hcell : ∀ j, j < vs.length → w.cell? ⟨b, of + j, none⟩ = vs[j]? := fun j hj => by
    have h4 := h3 j hj
    rw [List.getElem?_eq_getElem hj] at h4 ⊢
    exact R.wr.stw _ _ _ h4
   obtain ⟨u, h5, h6⟩ := qc (w := w) (b := b) (o := of) G hk h2 hcell hv
   refine a4.ret (aj.pure R u w ?_ (aG.refl w) (dF (fun _ _ _ h => h) (fun i _ hi => absurd hi (Nat.not_lt_zero _)) h6))
   simp [execOp, ho, Instr.loadAt, h1, Instr.sureAddr, h5]
 . rename_i i off he
   rw [he] at hx
   simp only [VR] at hx
   obtain ⟨hi, b, hb, h1⟩ := hx
   split
   . rename_i cs hs
     obtain ⟨hs1, _⟩ := cR hs (by simp)
     obtain ⟨b', c, el, fr, k1, k2, k3, k4, k5, k6⟩ := rI R.wr hs1
     rw [hb] at k1; cases k1
     refine a4.bind (cK _ _ _ _) fun v hv => ?_
     rw [force_eq]
     have hcell : ∀ j, j < c.toList.length → w.cell? ⟨b, 0 + j, none⟩ = c.toList[j]? := fun j hj => by rw [dy k3]; simp
     obtain ⟨u, h5, h6⟩ := qc (w := w) (b := b) (o := 0) G hk k4 hcell hv
     refine a4.ret (aj.pure R u w ?_ (aG.refl w) h6)
     rw [Nat.zero_add] at h5
     simp [execOp, ho, Instr.loadAt, h1, Instr.sureAddr, h5]
   . exact a4.fail
 . rename_i i idx off he
   rw [he] at hx
   simp only [VR] at hx
   obtain ⟨hi, b, hb, h1⟩ := hx
   split
   . rename_i sz pre l hs
     obtain ⟨hs1, _⟩ := cR hs (by simp)
     obtain ⟨q1, q2, q3, q4, q5, q6, q7⟩ := R.wr.ob i _ hs1
     refine a4.opt fun y hy => a4.when fun hu => a4.bind (cK _ _ _ _) fun v hv => ?_
     rw [force_eq]
     rcases q7 with ⟨_, q7⟩ | ⟨b', c, el, fr, k1, k2, k3, k4, k5, k6, _⟩
     . rw [hb] at q7; cases q7
     . rw [hb] at k1; cases k1
       obtain ⟨u, r1, r2, r3, r4⟩ := dJ.1 k6 idx y hy
       have r5 := fM r1 (by simpa using hu)
       have hcell : ∀ j, j < u.cells.toList.length → w.cell? ⟨b, idx * sz + j, none⟩ = u.cells.toList[j]? := fun j hj => by
        rw [dy k4]
        have := r4 j (by rw [← r2]; simpa using hj)
        rw [Nat.zero_add] at this
        simpa using this
       obtain ⟨u', h5, h6⟩ := qc (w := w) (b := b) (o := idx * sz) G hk r5 hcell hv
       refine a4.ret (aj.pure R u' w ?_ (aG.refl w) (dF (fun _ _ _ h => h) (fun i _ hi => absurd hi (Nat.not_lt_zero _)) h6))
       rw [q2] at h1
       simp [execOp, ho, Instr.loadAt, h1, Instr.sureAddr, h5]
   . exact a4.fail
 . exact a4.fail

theorem H2 {x : Operand} (R : Rel E st g s a w) (hg : aF C.gl st) (ho : o.op = .nilCheck x) : bp C E st g s a w o (jB C s x) := by
 unfold jB
 have hx := aI R hg x
 split
 all_goals first
  | exact a4.fail
  | skip
 all_goals
  rename_i he
  rw [he] at hx
  have hx' := hx
  simp only [VR] at hx
 . obtain ⟨_, b, _, h1⟩ := hx
   exact a4.ret (aj.pure R (a.eval x) w (by simp [execOp, ho, h1]) (aG.refl w) hx')
 . obtain ⟨_, b, _, h1⟩ := hx
   exact a4.ret (aj.pure R (a.eval x) w (by simp [execOp, ho, h1]) (aG.refl w) hx')
 . obtain ⟨b, _, _, h1, _⟩ := hx
   exact a4.ret (aj.pure R (a.eval x) w (by simp [execOp, ho, h1]) (aG.refl w) hx')
 . obtain ⟨b, _, h1, _⟩ := hx
   exact a4.ret (aj.pure R (a.eval x) w (by simp [execOp, ho, h1]) (aG.refl w) hx')
 . obtain ⟨b, h1, _⟩ := hx
   exact a4.ret (aj.pure R (a.eval x) w (by simp [execOp, ho, h1]) (aG.refl w) hx')

theorem GS {t : TypeId} {x : Operand} (R : Rel E st g s a w) (hg : aF C.gl st) (G : Good C) (ho : o.op = .makeInterface t x) : bp C E st g s a w o (lT C s t x) := by
 unfold lT
 split
 . exact a4.fail
 . exact a4.fail
 . rename_i h1 h2
   rw [force_eq]
   refine a4.when fun hu => a4.ret ?_
   refine aj.pure R (.iface t (a.eval x)) w ?_ (aG.refl w) (by simp only [VR]; exact ⟨_, rfl, aI R hg x⟩)
   obtain ⟨h3, _⟩ := (G.ti t).of (fun h => h1 h)
   cases hk' : (C.ti t).k <;> rw [hk'] at h3 <;> simp only [TK.ok] at h3
   case struct fs => obtain ⟨f, h3, _⟩ := h3; simp [execOp, ho, Instr.makeInterface, run_underlying h3]
   case iface => exact absurd hk' (fun h => h2 h)
   case func => obtain ⟨p, q, r, h3⟩ := h3; simp [execOp, ho, Instr.makeInterface, run_underlying h3]
   all_goals simp [execOp, ho, Instr.makeInterface, run_underlying h3]

theorem GR {fn : Fn} {xs ys : Array Operand} (R : Rel E st g s a w) (hg : aF C.gl st) (ho : o.op = .makeFunc fn xs ys) :
   bp C E st g s a w o (jF (s.bF C xs.toList) fun a => jF (s.bF C ys.toList) fun b => ret (pe (.func fn a b))) := by
 simp only [nn]
 refine a4.ret (aj.pure R (.func fn (xs.map a.eval) (ys.map a.eval)) w (by simp [execOp, ho, Instr.makeFunc]) (aG.refl w) ?_)
 simp only [VR]
 exact ⟨_, _, rfl, by simpa using lX R hg xs.toList, by simpa using lX R hg ys.toList⟩

theorem GI {x : Operand} {i : Nat} (R : Rel E st g s a w) (hg : aF C.gl st) (ho : o.op = .extract x i) : bp C E st g s a w o (lQ C s x i) := by
 unfold lQ
 have hx := aI R hg x
 split
 . rename_i vs he
   rw [he] at hx
   simp only [VR] at hx
   obtain ⟨us, h1, h2⟩ := hx
   refine a4.opt fun v hv => ?_
   rw [force_eq]
   rw [pC] at hv
   obtain ⟨u, h3, h4⟩ := lB h2 hv
   have h3' : us[i]? = some u := by simpa using h3
   exact a4.ret (aj.pure R u w (by simp [execOp, ho, h1, Instr.extract, h3']) (aG.refl w) h4)
 . exact a4.fail

theorem wD : ∀ {fs : List (Nat × TypeId)} {i : Nat} {x : Nat × TypeId}, bk fs i = some x → fs[i]? = some x
 | [], i, x, h => by simp [bk] at h
 | y :: ys, 0, x, h => by simpa [bk] using h
 | y :: ys, i + 1, x, h => by simpa [bk] using wD (fs := ys) (by simpa [bk] using h)
theorem rV {fields : Array Field} {fs : List (Nat × TypeId)} (h : fields.toList.map (fun f => (f.offset, f.type)) = fs) {i : Nat} {x : Nat × TypeId} (hx : bk fs i = some x) :
   ∃ f, fields[i]? = some f ∧ f.offset = x.1 ∧ f.type = x.2 := by
 have := wD hx
 rw [← h, List.getElem?_map] at this
 cases hf : fields.toList[i]? with
 | none => rw [hf] at this; cases this
 | some f => rw [hf] at this; cases this; exact ⟨f, by simpa using hf, rfl, rfl⟩

theorem GJ {t : TypeId} {x : Operand} {f : Nat} (R : Rel E st g s a w) (hg : aF C.gl st) (G : Good C) (ho : o.op = .field t x f) : bp C E st g s a w o (jt C s t x f) := by
 unfold jt
 have hx := aI R hg x
 split
 . rename_i fs cs hk he
   rw [he] at hx
   simp only [VR] at hx
   obtain ⟨us, h1, h2⟩ := hx
   obtain ⟨h3, _⟩ := (G.ti t).of (by rw [hk]; simp)
   rw [hk] at h3
   obtain ⟨fields, h3, h4, _⟩ := h3
   refine a4.opt fun ft hft => ?_
   split
   . exact a4.fail
   rename_i hk2
   refine a4.bind (cK _ _ _ _) fun v hv => ?_
   rw [force_eq]
   obtain ⟨fd, h5, h6, h7⟩ := rV h4 hft
   obtain ⟨u, h8, h9⟩ := yC (w := w) G (fun h => hk2 h) h2 hv
   refine a4.ret (aj.pure R u w ?_ (aG.refl w) h9)
   simp [execOp, ho, Instr.field, run_underlying h3, h5, h1, asAgg, h6, h7, h8]
 . exact a4.fail

theorem GK {t : TypeId} {x : Operand} {f : Nat} (R : Rel E st g s a w) (hg : aF C.gl st) (G : Good C) (ho : o.op = .fieldAddr t x f) : bp C E st g s a w o (ju C s t x f) := by
 unfold ju
 have hx := aI R hg x
 split
 . rename_i fs hk
   obtain ⟨h3, _⟩ := (G.ti t).of (by rw [hk]; simp)
   rw [hk] at h3
   obtain ⟨fields, h3, h4, _⟩ := h3
   refine a4.opt fun ft hft => ?_
   split
   . exact a4.fail
   rename_i hk2
   refine a4.when fun hsz => ?_
   obtain ⟨fd, h5, h6, h7⟩ := rV h4 hft
   have hsz' := Nat.le_of_ble_eq_true hsz
   have hs0 : ¬ (C.ti fd.type).size = 0 := by rw [h7]; omega
   have hrs := dW w (G.ti fd.type) (by rw [h7]; exact fun h => hk2 h)
   have hr : ∀ ad : Addr, a.eval x = .pointer (some ad) → (execOp a.eval o).run C.P w = .ok (.value (.pointer (some (ad.add ft.1)))) w := fun ad had => by
    simp [execOp, ho, Instr.fieldAt, run_underlying h3, h5, had, Instr.sureAddr, fieldPlace, hrs, hs0, h6]
   split
   . rename_i i off he
     rw [he] at hx
     simp only [VR] at hx
     obtain ⟨hi, b, hb, h1⟩ := hx
     rw [cy]
     refine a4.ret (aj.pure R _ w (hr _ h1) (aG.refl w) ?_)
     simp only [VR]
     exact ⟨hi, b, hb, by rw [Addr.add_lit]⟩
   . rename_i i j off he
     rw [he] at hx
     simp only [VR] at hx
     obtain ⟨hi, b, hb, h1⟩ := hx
     rw [cy]
     refine a4.ret (aj.pure R _ w (hr _ h1) (aG.refl w) ?_)
     simp only [VR]
     exact ⟨hi, b, hb, by rw [Addr.add_lit, Nat.add_assoc]⟩
   . rename_i cs off he
     rw [he] at hx
     simp only [VR] at hx
     obtain ⟨b, of, vs, h1, h2, h8⟩ := hx
     rw [cy]
     refine a4.ret (aj.pure R _ w (hr _ h1) (aG.refl w) ?_)
     simp only [VR]
     exact ⟨b, of, vs, by rw [Addr.add_lit, Nat.add_assoc], h2, h8⟩
   . exact a4.fail
 . exact a4.fail
end
end Go.VG
