/-
  A part of the proof.
-/
import Derived.Test.YtllncocibkgjkaaDoorVgD
set_option linter.unusedSimpArgs false
set_option linter.unusedVariables false
namespace Go.VG
open Go

def a7 {α : Type} (t : Tr α) : Prop := ∀ K : α → Prop, t K → ∃ a, K a ∧ ∀ K' : α → Prop, K' a → t K'

section
variable {α β : Type}
theorem a7.ret (a : α) : a7 (ret a) := fun _ h => ⟨a, h, fun _ h => h⟩
theorem a7.fail : a7 (fail : Tr α) := fun _ h => h.elim
theorem a7.av {A : Prop} {t : Tr α} (h : a7 t) : a7 (av A t) := fun K hk => let ⟨a, h1, h2⟩ := h K hk.2; ⟨a, h1, fun K' k => ⟨hk.1, h2 K' k⟩⟩
theorem a7.when {b : Bool} {t : Tr α} (h : a7 t) : a7 (bO b t) := fun K hk => by
 cases b with
 | false => exact hk.elim
 | true => exact h K hk
theorem a7.opt {o : Option α} {f : α → Tr β} (h : ∀ a, a7 (f a)) : a7 (dB o f) := fun K hk => by
 cases o with
 | none => exact hk.elim
 | some a => exact h a K hk
theorem a7.c9 {b : Bool} {t u : Tr α} (ht : a7 t) (hu : a7 u) : a7 (jB b t u) := fun K hk => by
 cases b with
 | false => exact hu K hk
 | true => exact ht K hk
theorem a7.dm {o : Option α} {h : α → Tr β} {u : Tr β} (hf : ∀ a, a7 (h a)) (hu : a7 u) : a7 (dm o h u) := fun K hk => by
 cases o with
 | none => obtain ⟨a, h1, h2⟩ := hu K (hk.2 rfl); exact ⟨a, h1, fun K' k => ⟨fun _ q => (by cases q), fun _ => h2 K' k⟩⟩
 | some x => obtain ⟨a, h1, h2⟩ := hf x K (hk.1 x rfl); exact ⟨a, h1, fun K' k => ⟨fun _ q => (by cases q; exact h2 K' k), fun q => (by cases q)⟩⟩
theorem a7.idx {l : List α} {n : Nat} {f : α → Tr β} (h : ∀ a, a7 (f a)) : a7 (lU l n f) := by rw [jG]; exact a7.opt h
theorem a7.bind {t : Tr α} {f : α → Tr β} (ht : a7 t) (hf : ∀ a, a7 (f a)) : a7 (fw t f) := fun K hk => by
 obtain ⟨a, h1, h2⟩ := ht _ hk
 obtain ⟨b, h3, h4⟩ := hf a K h1
 exact ⟨b, h3, fun K' k => h2 _ (h4 K' k)⟩
theorem a7.ex {f : α → Tr β} (h : ∀ a, a7 (f a)) : a7 (exT f) := fun K ⟨a, hk⟩ => let ⟨b, h1, h2⟩ := h a K hk; ⟨b, h1, fun K' k => ⟨a, h2 K' k⟩⟩
theorem a7.force {x : V} {f : V → Tr α} (h : ∀ x, a7 (f x)) : a7 (force x f) := by rw [force_eq]; exact h x
theorem a7.bK {x : Nat} {f : Nat → Tr α} (h : ∀ x, a7 (f x)) : a7 (bK x f) := by rw [dj]; exact h x
theorem a7.cI {x : List V} {f : List V → Tr α} (h : ∀ x, a7 (f x)) : a7 (lO x f) := by rw [oa]; exact h x
theorem a7.cut {a : List α} {r : Option Int × Option Int} {f : List α → Tr β} (h : ∀ x, a7 (f x)) : a7 (pz a r f) := by rw [pA]; exact h _
theorem a7.dh (r : Option (Prop × Ef)) : a7 (dh r) := by
 refine a7.opt fun p => a7.av fun K hk => ?_
 rw [iw] at hk
 exact ⟨p.2, hk, fun K' k => by rw [iw]; exact k⟩
end

theorem yL (C : Ctx) (op : BinOp) (t : TypeId) (x y : V) : a7 (nR C op t x y) := by
 unfold nR
 repeat' first
  | with_reducible exact a7.ret _
  | with_reducible exact a7.fail
  | with_reducible refine a7.av ?_
  | with_reducible refine a7.when ?_
  | (with_reducible refine a7.opt fun _ => ?_)
  | (with_reducible refine a7.idx fun _ => ?_)
  | (with_reducible refine a7.cI fun _ => ?_)
  | split
theorem yQ (op : UnOp) (x : V) : a7 (pK op x) := by
 unfold pK; split <;> first | with_reducible exact a7.ret _ | with_reducible exact a7.fail
theorem dJ (agg : Bool) (size : Nat) (cs : List V) (off : Nat) : a7 (gZ agg size cs off) := by
 unfold gZ; split <;> exact a7.opt fun _ => a7.ret _
theorem ln (s : AS) (x : V) : a7 (elems s x) := by
 unfold elems
 repeat' first
  | with_reducible exact a7.ret _
  | with_reducible exact a7.fail
  | split
theorem DH (C : Ctx) (s : AS) (e : TypeId) (x : V) (ys : List V) (rd : List Nat) : a7 (ly C s e x ys rd) := by
 unfold ly
 repeat' first
  | with_reducible exact a7.ret _
  | with_reducible exact a7.fail
  | with_reducible refine a7.av ?_
  | with_reducible refine a7.when ?_
  | (with_reducible refine a7.bK fun _ => ?_)
  | split
theorem lZ {C : Ctx} {s : AS} {t : TypeId} {m : V} {F : Nat → Bool → List Sc → List (V × Int) → List Nat → Nat → Tr Ef} (h : ∀ i ag sh es bs ck, a7 (F i ag sh es bs ck)) : a7 (eD C s t m F) := by
 unfold eD
 refine a7.opt fun p => ?_
 split
 . split
   . exact a7.when (h _ _ _ _ _ _)
   . exact a7.fail
 . exact a7.fail
theorem E3 (C : Ctx) (s : AS) (t : TypeId) : a7 (lG C s t) := by
 unfold lG
 repeat' first
  | with_reducible exact a7.ret _
  | with_reducible exact a7.fail
  | with_reducible refine a7.av ?_
  | with_reducible refine a7.when ?_
  | (with_reducible refine lZ fun _ _ _ _ _ _ => ?_)
  | (with_reducible refine a7.opt fun _ => ?_)
  | (with_reducible refine a7.dm (fun _ => ?_) ?_)
  | (with_reducible refine a7.idx fun _ => ?_)
  | (with_reducible refine a7.force fun _ => ?_)
  | (with_reducible refine a7.bK fun _ => ?_)
  | (with_reducible refine a7.ex fun _ => ?_)
  | split
theorem DY (C : Ctx) (s : AS) (t : TypeId) (m x : Operand) (ok : Bool) : a7 (ja C s t m x ok) := by
 unfold ja
 repeat' first
  | with_reducible exact a7.ret _
  | with_reducible exact a7.fail
  | with_reducible refine a7.av ?_
  | with_reducible refine a7.when ?_
  | (with_reducible refine lZ fun _ _ _ _ _ _ => ?_)
  | (with_reducible refine a7.opt fun _ => ?_)
  | (with_reducible refine a7.dm (fun _ => ?_) ?_)
  | (with_reducible refine a7.idx fun _ => ?_)
  | (with_reducible refine a7.force fun _ => ?_)
  | (with_reducible refine a7.bK fun _ => ?_)
  | (with_reducible refine a7.ex fun _ => ?_)
  | split
theorem E6 (C : Ctx) (s : AS) (t : TypeId) (m x y : Operand) : a7 (lI C s t m x y) := by
 unfold lI
 repeat' first
  | with_reducible exact a7.ret _
  | with_reducible exact a7.fail
  | with_reducible refine a7.av ?_
  | with_reducible refine a7.when ?_
  | (with_reducible refine lZ fun _ _ _ _ _ _ => ?_)
  | (with_reducible refine a7.opt fun _ => ?_)
  | (with_reducible refine a7.dm (fun _ => ?_) ?_)
  | (with_reducible refine a7.idx fun _ => ?_)
  | (with_reducible refine a7.force fun _ => ?_)
  | (with_reducible refine a7.bK fun _ => ?_)
  | (with_reducible refine a7.ex fun _ => ?_)
  | split
theorem E5 (C : Ctx) (s : AS) (t : TypeId) (m x : Operand) : a7 (jS C s t m x) := by
 unfold jS
 repeat' first
  | with_reducible exact a7.ret _
  | with_reducible exact a7.fail
  | with_reducible refine a7.av ?_
  | with_reducible refine a7.when ?_
  | (with_reducible refine lZ fun _ _ _ _ _ _ => ?_)
  | (with_reducible refine a7.opt fun _ => ?_)
  | (with_reducible refine a7.dm (fun _ => ?_) ?_)
  | (with_reducible refine a7.idx fun _ => ?_)
  | (with_reducible refine a7.force fun _ => ?_)
  | (with_reducible refine a7.bK fun _ => ?_)
  | (with_reducible refine a7.ex fun _ => ?_)
  | split
theorem DO (C : Ctx) (s : AS) (t : TypeId) (m b y : Operand) : a7 (lB C s t m b y) := by
 unfold lB
 repeat' first
  | with_reducible exact a7.ret _
  | with_reducible exact a7.fail
  | with_reducible refine a7.av ?_
  | with_reducible refine a7.when ?_
  | (with_reducible refine lZ fun _ _ _ _ _ _ => ?_)
  | (with_reducible refine a7.opt fun _ => ?_)
  | (with_reducible refine a7.dm (fun _ => ?_) ?_)
  | (with_reducible refine a7.idx fun _ => ?_)
  | (with_reducible refine a7.force fun _ => ?_)
  | (with_reducible refine a7.bK fun _ => ?_)
  | (with_reducible refine a7.ex fun _ => ?_)
  | split
theorem DN (C : Ctx) (s : AS) (t : TypeId) (m x : V) : a7 (lz C s t m x) := by
 unfold lz
 repeat' first
  | with_reducible exact a7.ret _
  | with_reducible exact a7.fail
  | with_reducible refine a7.av ?_
  | with_reducible refine a7.when ?_
  | (with_reducible refine lZ fun _ _ _ _ _ _ => ?_)
  | (with_reducible refine a7.opt fun _ => ?_)
  | (with_reducible refine a7.dm (fun _ => ?_) ?_)
  | (with_reducible refine a7.idx fun _ => ?_)
  | (with_reducible refine a7.force fun _ => ?_)
  | (with_reducible refine a7.bK fun _ => ?_)
  | (with_reducible refine a7.ex fun _ => ?_)
  | split
theorem DV (C : Ctx) (s : AS) (t : TypeId) (m : V) : a7 (lF C s t m) := by
 unfold lF
 repeat' first
  | with_reducible exact a7.ret _
  | with_reducible exact a7.fail
  | with_reducible refine a7.av ?_
  | with_reducible refine a7.when ?_
  | (with_reducible refine lZ fun _ _ _ _ _ _ => ?_)
  | (with_reducible refine a7.opt fun _ => ?_)
  | (with_reducible refine a7.dm (fun _ => ?_) ?_)
  | (with_reducible refine a7.idx fun _ => ?_)
  | (with_reducible refine a7.force fun _ => ?_)
  | (with_reducible refine a7.bK fun _ => ?_)
  | (with_reducible refine a7.ex fun _ => ?_)
  | split
theorem DP (C : Ctx) (s : AS) (x : Operand) : a7 (mI C s x) := by
 unfold mI
 repeat' first
  | with_reducible exact a7.ret _
  | with_reducible exact a7.fail
  | with_reducible refine a7.av ?_
  | with_reducible refine a7.when ?_
  | (with_reducible refine lZ fun _ _ _ _ _ _ => ?_)
  | (with_reducible refine a7.opt fun _ => ?_)
  | (with_reducible refine a7.dm (fun _ => ?_) ?_)
  | (with_reducible refine a7.idx fun _ => ?_)
  | (with_reducible refine a7.force fun _ => ?_)
  | (with_reducible refine a7.bK fun _ => ?_)
  | (with_reducible refine a7.ex fun _ => ?_)
  | split
theorem DL (C : Ctx) (s : AS) (b : Builtin) (ts : List TypeId) (args : List V) : a7 (jD C s b ts args) := by
 unfold jD
 repeat' first
  | with_reducible exact a7.ret _
  | with_reducible exact a7.fail
  | with_reducible exact DH _ _ _ _ _ _
  | with_reducible exact DN _ _ _ _ _
  | with_reducible refine a7.av ?_
  | with_reducible refine a7.when ?_
  | (with_reducible refine a7.bind (ln _ _) fun _ => ?_)
  | (with_reducible refine a7.bK fun _ => ?_)
  | split
theorem yN (C : Ctx) (s : AS) (a b : TypeId) (x : V) : a7 (iV C s a b x) := by
 unfold iV
 repeat' first
  | with_reducible exact a7.ret _
  | with_reducible exact a7.fail
  | with_reducible refine a7.av ?_
  | with_reducible refine a7.when ?_
  | (with_reducible refine a7.bind (ln _ _) fun _ => ?_)
  | (with_reducible refine a7.ex fun _ => ?_)
  | split
theorem eO (C : Ctx) (s : AS) (len : Nat) (lo hi : Option Operand) : a7 (ir C s len lo hi) := by
 unfold ir
 repeat' first
  | with_reducible exact a7.ret _
  | with_reducible exact a7.fail
  | with_reducible refine a7.av ?_
  | split

theorem Ee (C : Ctx) (s : AS) (c a b : Operand) : a7 (nX C s c a b) := by
 unfold nX
 repeat' first
  | with_reducible exact a7.ret _
  | with_reducible exact a7.fail
  | with_reducible exact a7.dh _
  | with_reducible refine a7.av ?_
  | with_reducible refine a7.when ?_
  | (with_reducible refine a7.opt fun _ => ?_)
  | (with_reducible refine a7.idx fun _ => ?_)
  | (with_reducible refine a7.cI fun _ => ?_)
  | with_reducible refine a7.c9 ?_ ?_
  | (with_reducible refine a7.force fun _ => ?_)
  | (with_reducible refine a7.bK fun _ => ?_)
  | (with_reducible refine a7.cut fun _ => ?_)
  | (with_reducible refine a7.ex fun _ => ?_)
  | (with_reducible refine a7.bind (dJ _ _ _ _) fun _ => ?_)
  | (with_reducible refine a7.bind (eO _ _ _ _ _) fun _ => ?_)
  | split
theorem DG (C : Ctx) (s : AS) (t : TypeId) : a7 (lq C s t) := by
 unfold lq
 repeat' first
  | with_reducible exact a7.ret _
  | with_reducible exact a7.fail
  | with_reducible exact a7.dh _
  | with_reducible refine a7.av ?_
  | with_reducible refine a7.when ?_
  | (with_reducible refine a7.opt fun _ => ?_)
  | (with_reducible refine a7.idx fun _ => ?_)
  | (with_reducible refine a7.cI fun _ => ?_)
  | with_reducible refine a7.c9 ?_ ?_
  | (with_reducible refine a7.force fun _ => ?_)
  | (with_reducible refine a7.bK fun _ => ?_)
  | (with_reducible refine a7.cut fun _ => ?_)
  | (with_reducible refine a7.ex fun _ => ?_)
  | (with_reducible refine a7.bind (dJ _ _ _ _) fun _ => ?_)
  | (with_reducible refine a7.bind (eO _ _ _ _ _) fun _ => ?_)
  | split
theorem DK (C : Ctx) (s : AS) (t : TypeId) (parts : Array (Nat × Operand)) : a7 (mG C s t parts) := by
 unfold mG
 repeat' first
  | with_reducible exact a7.ret _
  | with_reducible exact a7.fail
  | with_reducible exact a7.dh _
  | with_reducible refine a7.av ?_
  | with_reducible refine a7.when ?_
  | (with_reducible refine a7.opt fun _ => ?_)
  | (with_reducible refine a7.idx fun _ => ?_)
  | (with_reducible refine a7.cI fun _ => ?_)
  | with_reducible refine a7.c9 ?_ ?_
  | (with_reducible refine a7.force fun _ => ?_)
  | (with_reducible refine a7.bK fun _ => ?_)
  | (with_reducible refine a7.cut fun _ => ?_)
  | (with_reducible refine a7.ex fun _ => ?_)
  | (with_reducible refine a7.bind (dJ _ _ _ _) fun _ => ?_)
  | (with_reducible refine a7.bind (eO _ _ _ _ _) fun _ => ?_)
  | split
theorem pI (C : Ctx) (s : AS) (t : TypeId) (len : Nat) (parts : Array (Nat × Operand)) : a7 (iU C s t len parts) := by
 unfold iU
 repeat' first
  | with_reducible exact a7.ret _
  | with_reducible exact a7.fail
  | with_reducible exact a7.dh _
  | with_reducible refine a7.av ?_
  | with_reducible refine a7.when ?_
  | (with_reducible refine a7.opt fun _ => ?_)
  | (with_reducible refine a7.idx fun _ => ?_)
  | (with_reducible refine a7.cI fun _ => ?_)
  | with_reducible refine a7.c9 ?_ ?_
  | (with_reducible refine a7.force fun _ => ?_)
  | (with_reducible refine a7.bK fun _ => ?_)
  | (with_reducible refine a7.cut fun _ => ?_)
  | (with_reducible refine a7.ex fun _ => ?_)
  | (with_reducible refine a7.bind (dJ _ _ _ _) fun _ => ?_)
  | (with_reducible refine a7.bind (eO _ _ _ _ _) fun _ => ?_)
  | split
theorem DX (C : Ctx) (s : AS) (t : TypeId) (a : Operand) : a7 (kC C s t a) := by
 unfold kC
 repeat' first
  | with_reducible exact a7.ret _
  | with_reducible exact a7.fail
  | with_reducible exact a7.dh _
  | with_reducible refine a7.av ?_
  | with_reducible refine a7.when ?_
  | (with_reducible refine a7.opt fun _ => ?_)
  | (with_reducible refine a7.idx fun _ => ?_)
  | (with_reducible refine a7.cI fun _ => ?_)
  | with_reducible refine a7.c9 ?_ ?_
  | (with_reducible refine a7.force fun _ => ?_)
  | (with_reducible refine a7.bK fun _ => ?_)
  | (with_reducible refine a7.cut fun _ => ?_)
  | (with_reducible refine a7.ex fun _ => ?_)
  | (with_reducible refine a7.bind (dJ _ _ _ _) fun _ => ?_)
  | (with_reducible refine a7.bind (eO _ _ _ _ _) fun _ => ?_)
  | split
theorem Ei (C : Ctx) (s : AS) (t : TypeId) (a x : Operand) : a7 (lL C s t a x) := by
 unfold lL
 repeat' first
  | with_reducible exact a7.ret _
  | with_reducible exact a7.fail
  | with_reducible exact a7.dh _
  | with_reducible refine a7.av ?_
  | with_reducible refine a7.when ?_
  | (with_reducible refine a7.opt fun _ => ?_)
  | (with_reducible refine a7.idx fun _ => ?_)
  | (with_reducible refine a7.cI fun _ => ?_)
  | with_reducible refine a7.c9 ?_ ?_
  | (with_reducible refine a7.force fun _ => ?_)
  | (with_reducible refine a7.bK fun _ => ?_)
  | (with_reducible refine a7.cut fun _ => ?_)
  | (with_reducible refine a7.ex fun _ => ?_)
  | (with_reducible refine a7.bind (dJ _ _ _ _) fun _ => ?_)
  | (with_reducible refine a7.bind (eO _ _ _ _ _) fun _ => ?_)
  | split
theorem E9 (C : Ctx) (s : AS) (x : Operand) : a7 (lK C s x) := by
 unfold lK
 repeat' first
  | with_reducible exact a7.ret _
  | with_reducible exact a7.fail
  | with_reducible exact a7.dh _
  | with_reducible refine a7.av ?_
  | with_reducible refine a7.when ?_
  | (with_reducible refine a7.opt fun _ => ?_)
  | (with_reducible refine a7.idx fun _ => ?_)
  | (with_reducible refine a7.cI fun _ => ?_)
  | with_reducible refine a7.c9 ?_ ?_
  | (with_reducible refine a7.force fun _ => ?_)
  | (with_reducible refine a7.bK fun _ => ?_)
  | (with_reducible refine a7.cut fun _ => ?_)
  | (with_reducible refine a7.ex fun _ => ?_)
  | (with_reducible refine a7.bind (dJ _ _ _ _) fun _ => ?_)
  | (with_reducible refine a7.bind (eO _ _ _ _ _) fun _ => ?_)
  | split
theorem DZ (C : Ctx) (s : AS) (t : TypeId) (x : Operand) : a7 (nV C s t x) := by
 unfold nV
 repeat' first
  | with_reducible exact a7.ret _
  | with_reducible exact a7.fail
  | with_reducible exact a7.dh _
  | with_reducible refine a7.av ?_
  | with_reducible refine a7.when ?_
  | (with_reducible refine a7.opt fun _ => ?_)
  | (with_reducible refine a7.idx fun _ => ?_)
  | (with_reducible refine a7.cI fun _ => ?_)
  | with_reducible refine a7.c9 ?_ ?_
  | (with_reducible refine a7.force fun _ => ?_)
  | (with_reducible refine a7.bK fun _ => ?_)
  | (with_reducible refine a7.cut fun _ => ?_)
  | (with_reducible refine a7.ex fun _ => ?_)
  | (with_reducible refine a7.bind (dJ _ _ _ _) fun _ => ?_)
  | (with_reducible refine a7.bind (eO _ _ _ _ _) fun _ => ?_)
  | split
theorem E4 (C : Ctx) (s : AS) (t : TypeId) (l c : Operand) : a7 (lH C s t l c) := by
 unfold lH
 repeat' first
  | with_reducible exact a7.ret _
  | with_reducible exact a7.fail
  | with_reducible exact a7.dh _
  | with_reducible refine a7.av ?_
  | with_reducible refine a7.when ?_
  | (with_reducible refine a7.opt fun _ => ?_)
  | (with_reducible refine a7.idx fun _ => ?_)
  | (with_reducible refine a7.cI fun _ => ?_)
  | with_reducible refine a7.c9 ?_ ?_
  | (with_reducible refine a7.force fun _ => ?_)
  | (with_reducible refine a7.bK fun _ => ?_)
  | (with_reducible refine a7.cut fun _ => ?_)
  | (with_reducible refine a7.ex fun _ => ?_)
  | (with_reducible refine a7.bind (dJ _ _ _ _) fun _ => ?_)
  | (with_reducible refine a7.bind (eO _ _ _ _ _) fun _ => ?_)
  | split
theorem Eg (C : Ctx) (s : AS) (t : TypeId) (x : Operand) (lo hi mx : Option Operand) : a7 (mM C s t x lo hi mx) := by
 unfold mM
 repeat' first
  | with_reducible exact a7.ret _
  | with_reducible exact a7.fail
  | with_reducible exact a7.dh _
  | with_reducible refine a7.av ?_
  | with_reducible refine a7.when ?_
  | (with_reducible refine a7.opt fun _ => ?_)
  | (with_reducible refine a7.idx fun _ => ?_)
  | (with_reducible refine a7.cI fun _ => ?_)
  | with_reducible refine a7.c9 ?_ ?_
  | (with_reducible refine a7.force fun _ => ?_)
  | (with_reducible refine a7.bK fun _ => ?_)
  | (with_reducible refine a7.cut fun _ => ?_)
  | (with_reducible refine a7.ex fun _ => ?_)
  | (with_reducible refine a7.bind (dJ _ _ _ _) fun _ => ?_)
  | (with_reducible refine a7.bind (eO _ _ _ _ _) fun _ => ?_)
  | split
theorem DR (C : Ctx) (s : AS) (t : TypeId) (x : Operand) (f : Nat) : a7 (lD C s t x f) := by
 unfold lD
 repeat' first
  | with_reducible exact a7.ret _
  | with_reducible exact a7.fail
  | with_reducible exact a7.dh _
  | with_reducible refine a7.av ?_
  | with_reducible refine a7.when ?_
  | (with_reducible refine a7.opt fun _ => ?_)
  | (with_reducible refine a7.idx fun _ => ?_)
  | (with_reducible refine a7.cI fun _ => ?_)
  | with_reducible refine a7.c9 ?_ ?_
  | (with_reducible refine a7.force fun _ => ?_)
  | (with_reducible refine a7.bK fun _ => ?_)
  | (with_reducible refine a7.cut fun _ => ?_)
  | (with_reducible refine a7.ex fun _ => ?_)
  | (with_reducible refine a7.bind (dJ _ _ _ _) fun _ => ?_)
  | (with_reducible refine a7.bind (eO _ _ _ _ _) fun _ => ?_)
  | split
theorem DS (C : Ctx) (s : AS) (t : TypeId) (x : Operand) (f : Nat) : a7 (lC C s t x f) := by
 unfold lC
 repeat' first
  | with_reducible exact a7.ret _
  | with_reducible exact a7.fail
  | with_reducible exact a7.dh _
  | with_reducible refine a7.av ?_
  | with_reducible refine a7.when ?_
  | (with_reducible refine a7.opt fun _ => ?_)
  | (with_reducible refine a7.idx fun _ => ?_)
  | (with_reducible refine a7.cI fun _ => ?_)
  | with_reducible refine a7.c9 ?_ ?_
  | (with_reducible refine a7.force fun _ => ?_)
  | (with_reducible refine a7.bK fun _ => ?_)
  | (with_reducible refine a7.cut fun _ => ?_)
  | (with_reducible refine a7.ex fun _ => ?_)
  | (with_reducible refine a7.bind (dJ _ _ _ _) fun _ => ?_)
  | (with_reducible refine a7.bind (eO _ _ _ _ _) fun _ => ?_)
  | split
theorem DT (C : Ctx) (s : AS) (t : TypeId) (x ix : Operand) : a7 (mJ C s t x ix) := by
 unfold mJ
 repeat' first
  | with_reducible exact a7.ret _
  | with_reducible exact a7.fail
  | with_reducible exact a7.dh _
  | with_reducible refine a7.av ?_
  | with_reducible refine a7.when ?_
  | (with_reducible refine a7.opt fun _ => ?_)
  | (with_reducible refine a7.idx fun _ => ?_)
  | (with_reducible refine a7.cI fun _ => ?_)
  | with_reducible refine a7.c9 ?_ ?_
  | (with_reducible refine a7.force fun _ => ?_)
  | (with_reducible refine a7.bK fun _ => ?_)
  | (with_reducible refine a7.cut fun _ => ?_)
  | (with_reducible refine a7.ex fun _ => ?_)
  | (with_reducible refine a7.bind (dJ _ _ _ _) fun _ => ?_)
  | (with_reducible refine a7.bind (eO _ _ _ _ _) fun _ => ?_)
  | split
theorem DU (C : Ctx) (s : AS) (t : TypeId) (x ix : Operand) : a7 (nT C s t x ix) := by
 unfold nT
 repeat' first
  | with_reducible exact a7.ret _
  | with_reducible exact a7.fail
  | with_reducible exact a7.dh _
  | with_reducible refine a7.av ?_
  | with_reducible refine a7.when ?_
  | (with_reducible refine a7.opt fun _ => ?_)
  | (with_reducible refine a7.idx fun _ => ?_)
  | (with_reducible refine a7.cI fun _ => ?_)
  | with_reducible refine a7.c9 ?_ ?_
  | (with_reducible refine a7.force fun _ => ?_)
  | (with_reducible refine a7.bK fun _ => ?_)
  | (with_reducible refine a7.cut fun _ => ?_)
  | (with_reducible refine a7.ex fun _ => ?_)
  | (with_reducible refine a7.bind (dJ _ _ _ _) fun _ => ?_)
  | (with_reducible refine a7.bind (eO _ _ _ _ _) fun _ => ?_)
  | split
theorem DI (C : Ctx) (s : AS) (x : Operand) (t : TypeId) (ok : Bool) : a7 (nQ C s x t ok) := by
 unfold nQ
 repeat' first
  | with_reducible exact a7.ret _
  | with_reducible exact a7.fail
  | with_reducible exact a7.dh _
  | with_reducible refine a7.av ?_
  | with_reducible refine a7.when ?_
  | (with_reducible refine a7.opt fun _ => ?_)
  | (with_reducible refine a7.idx fun _ => ?_)
  | (with_reducible refine a7.cI fun _ => ?_)
  | with_reducible refine a7.c9 ?_ ?_
  | (with_reducible refine a7.force fun _ => ?_)
  | (with_reducible refine a7.bK fun _ => ?_)
  | (with_reducible refine a7.cut fun _ => ?_)
  | (with_reducible refine a7.ex fun _ => ?_)
  | (with_reducible refine a7.bind (dJ _ _ _ _) fun _ => ?_)
  | (with_reducible refine a7.bind (eO _ _ _ _ _) fun _ => ?_)
  | split
theorem DQ (C : Ctx) (s : AS) (x : Operand) (i : Nat) : a7 (nS C s x i) := by
 unfold nS
 repeat' first
  | with_reducible exact a7.ret _
  | with_reducible exact a7.fail
  | with_reducible exact a7.dh _
  | with_reducible refine a7.av ?_
  | with_reducible refine a7.when ?_
  | (with_reducible refine a7.opt fun _ => ?_)
  | (with_reducible refine a7.idx fun _ => ?_)
  | (with_reducible refine a7.cI fun _ => ?_)
  | with_reducible refine a7.c9 ?_ ?_
  | (with_reducible refine a7.force fun _ => ?_)
  | (with_reducible refine a7.bK fun _ => ?_)
  | (with_reducible refine a7.cut fun _ => ?_)
  | (with_reducible refine a7.ex fun _ => ?_)
  | (with_reducible refine a7.bind (dJ _ _ _ _) fun _ => ?_)
  | (with_reducible refine a7.bind (eO _ _ _ _ _) fun _ => ?_)
  | split
theorem DW (C : Ctx) (s : AS) (t : TypeId) (x : Operand) : a7 (lE C s t x) := by
 unfold lE
 repeat' first
  | with_reducible exact a7.ret _
  | with_reducible exact a7.fail
  | with_reducible exact DV _ _ _ _
  | with_reducible exact a7.dh _
  | with_reducible refine a7.av ?_
  | with_reducible refine a7.when ?_
  | (with_reducible refine a7.opt fun _ => ?_)
  | (with_reducible refine a7.idx fun _ => ?_)
  | (with_reducible refine a7.cI fun _ => ?_)
  | with_reducible refine a7.c9 ?_ ?_
  | (with_reducible refine a7.force fun _ => ?_)
  | (with_reducible refine a7.bK fun _ => ?_)
  | (with_reducible refine a7.cut fun _ => ?_)
  | (with_reducible refine a7.ex fun _ => ?_)
  | (with_reducible refine a7.bind (dJ _ _ _ _) fun _ => ?_)
  | (with_reducible refine a7.bind (eO _ _ _ _ _) fun _ => ?_)
  | split
theorem E8 (C : Ctx) (s : AS) (x : Operand) (b : Bool) : a7 (mL C s x b) := by
 unfold mL
 repeat' first
  | with_reducible exact a7.ret _
  | with_reducible exact a7.fail
  | with_reducible exact a7.dh _
  | with_reducible refine a7.av ?_
  | with_reducible refine a7.when ?_
  | (with_reducible refine a7.opt fun _ => ?_)
  | (with_reducible refine a7.idx fun _ => ?_)
  | (with_reducible refine a7.cI fun _ => ?_)
  | with_reducible refine a7.c9 ?_ ?_
  | (with_reducible refine a7.force fun _ => ?_)
  | (with_reducible refine a7.bK fun _ => ?_)
  | (with_reducible refine a7.cut fun _ => ?_)
  | (with_reducible refine a7.ex fun _ => ?_)
  | (with_reducible refine a7.bind (dJ _ _ _ _) fun _ => ?_)
  | (with_reducible refine a7.bind (eO _ _ _ _ _) fun _ => ?_)
  | split
theorem DM (C : Ctx) (s : AS) (c : Call) : a7 (mH C s c) := by
 unfold mH
 split
 . exact a7.cI fun _ => DL _ _ _ _ _
 . exact a7.opt fun _ => a7.dh _
 . split
   . exact a7.ex fun _ => a7.av (a7.dh _)
   . exact a7.fail
theorem DJ (C : Ctx) (s : AS) (dst : Option Nat) (t : TypeId) (len : Nat) (parts : Array (Nat × Operand)) : a7 (kA C s dst t len parts) := by
 unfold kA
 split
 . rename_i d
   cases C.lits d
   . exact pI _ _ _ _ _
   . simp only [cond_true, nU]
     refine a7.bind (pI _ _ _ _ _) fun e => ?_
     split
     . exact a7.bK fun _ => a7.ret _
     . exact a7.fail
 . exact pI _ _ _ _ _
theorem E7 (C : Ctx) (s : AS) (a b : TypeId) (x : V) : a7 (lJ C s a b x) := by
 unfold lJ
 split
 . cases Nat.beq a b
   . exact yN _ _ _ _ _
   . simp only [cond_true]
     split
     . split
       . split
         . exact a7.ret _
         . exact a7.fail
       . exact a7.fail
     . exact a7.fail
 . exact yN _ _ _ _ _
theorem nW (C : Ctx) (s : AS) (o : Oper) : a7 (cw C s o) := by
 unfold cw
 split
 . exact a7.force fun _ => a7.ret _
 . exact a7.force fun _ => a7.ret _
 . exact Ee _ _ _ _ _
 . exact DG _ _ _
 . exact a7.force fun _ => a7.bK fun _ => a7.when (a7.ret _)
 . exact DK _ _ _ _
 . exact DJ _ _ _ _ _ _
 . exact DX _ _ _ _
 . exact Ei _ _ _ _ _
 . exact E9 _ _ _
 . exact a7.bind (yL _ _ _ _ _) fun _ => a7.ret _
 . exact a7.bind (yQ _ _) fun _ => a7.ret _
 . exact E7 _ _ _ _ _
 . exact DZ _ _ _ _
 . exact a7.cI fun _ => a7.cI fun _ => a7.ret _
 . exact E4 _ _ _ _ _
 . exact Eg _ _ _ _ _ _ _
 . exact DR _ _ _ _ _
 . exact DS _ _ _ _ _
 . exact DT _ _ _ _ _
 . exact DU _ _ _ _ _
 . exact DI _ _ _ _ _
 . exact DQ _ _ _ _
 . exact DW _ _ _ _
 . exact E8 _ _ _ _
 . exact E3 _ _ _
 . exact DY _ _ _ _ _ _
 . exact E6 _ _ _ _ _ _
 . exact E5 _ _ _ _ _
 . exact DO _ _ _ _ _ _
 . exact DP _ _ _
 . exact DM _ _ _
 . exact a7.fail

structure Rel (E : Env) (st : St) (g : ae) (s : AS) (a : Act) (w : World) : Prop where
 nt : a.tmps.size = s.nt
 df : a.defers = E.ds
 tm : ∀ t, VR st g (lk s.tm t) s.sg.length (a.tmps.getD t undef)
 wr : ay E st g s.sg w

theorem Kz {k : IntKind} {n : Int} (h : rT k n = true) : k.min ≤ n ∧ n ≤ k.max := by
 unfold rT at h
 split at h
 . cases k <;> simp only [AI] at h <;> have h' := Nat.le_of_ble_eq_true h <;> simp [IntKind.min, IntKind.max, IntKind.signed, IntKind.bits] <;> omega
 . cases k <;> simp only [AK] at h <;> first
  | (have h' := Nat.le_of_ble_eq_true h; simp [IntKind.min, IntKind.max, IntKind.signed, IntKind.bits]; omega)
  | cases h

theorem AV {st : St} {g : ae} {n : Nat} (v : Value) : VR st g (sx v) n v := by
 unfold sx
 split
 . rename_i k m
   cases h : rT k m with
   | true => simpa [VR] using Kz h
   | false => simp [VR]
 . simp [VR]
 . rename_i s
   cases h : Nat.ble s.data.toList.length 1048576 with
   | true =>
     have := Nat.le_of_ble_eq_true h
     simp only [cond_true, VR]
     have h3 : s.data.toList.length ≤ maxLen := by unfold maxLen; omega
     simpa [VR] using h3
   | false => simp [VR]
 . simp only [VR]; exact ⟨none, 0, by simp, by simp, by simp [maxLen], by simp, .inl trivial⟩
 . simp [VR]
 . simp [VR]
 . simp [VR]
 . simp [VR]
 . simp [VR]
theorem AW {st : St} {g : ae} {n : Nat} : ∀ vs : List Value, aq st g (vk vs) n vs
 | [] => d7
 | v :: vs => c7 (AV v) (AW vs)
theorem I6 {st : St} {g : ae} {n : Nat} (v : Value) : VR st g (vj v) n v := by
 unfold vj
 split
 . rename_i cs
   simp only [VR]
   exact ⟨cs, rfl, AW _⟩
 . exact AV v

theorem bD {E : Env} {st : St} {g : ae} {s : AS} {a : Act} {w : World} {C : Ctx} (R : Rel E st g s a w) (hg : aP C.gl st) (x : Operand) : VR st g (s.ev C x) s.sg.length (a.eval x) := by
 cases x with
 | tmp t => exact R.tm t
 | const v => exact I6 v
 | global b =>
   simp only [AS.ev, Act.eval]
   split
   . rename_i cs h
     obtain ⟨vs, h1, h2⟩ := hg b cs h g
     simp only [VR]
     exact ⟨b, 0, vs, rfl, h1, fun j hj => by rw [Nat.zero_add]; exact h2 j hj⟩
   . simp [VR]
 | func f =>
   simp only [AS.ev, Act.eval, VR]
   exact ⟨#[], #[], rfl, d7, d7⟩
theorem nZ {E : Env} {st : St} {g : ae} {s : AS} {a : Act} {w : World} {C : Ctx} (R : Rel E st g s a w) (hg : aP C.gl st) : ∀ xs : List Operand, aq st g (s.bS C xs) s.sg.length (xs.map a.eval)
 | [] => d7
 | x :: xs => c7 (bD R hg x) (nZ R hg xs)

theorem mT : ∀ (up : List (Nat × O)) (sg : List O), (dr sg up).length = sg.length
 | [], sg => rfl
 | (i, o) :: r, sg => by simp only [dr]; rw [mT r, ib]; simp
theorem r8 {E : Env} {st st' : St} {g g' : ae} {n n' : Nat} {ks : List Nat} (A : iP E st g n st' g' n' ks) {x : V} {v : Value} (h : VR st g x n v) : VR st' g' (x.kill ks) n' v :=
 fv A.mono (fun i hi hn => ⟨Nat.lt_of_lt_of_le hn A.len, A.ba i hn (kF hi).1⟩) (p8 h)

theorem Rel.app {E : Env} {st st' : St} {g g' : ae} {s : AS} {a : Act} {w w' : World} {d : Option Nat} {e : Ef} {v : Value} (R : Rel E st g s a w) (hd : di s d = true)
   (A : iP E st g s.sg.length st' g' (s.app d e).sg.length e.ks) (W : ay E st' g' (s.app d e).sg w') (hv : VR st' g' e.v (s.app d e).sg.length v) : Rel E st' g' (s.app d e) (a.put d v) w' where
 nt := by
  cases d with
  | none => exact R.nt
  | some d => simp [Act.put, AS.app, R.nt]
 df := by cases d <;> exact R.df
 wr := W
 tm := fun t => by
   cases d with
   | none =>
     have h1 : lk (s.app none e).tm t = (lk s.tm t).kill e.ks := by simp only [AS.app]; exact kM _ _ _
     rw [h1]
     exact r8 A (R.tm t)
   | some d =>
     have hlt : d < s.nt := by simpa [di] using hd
     have h1 : lk (s.app (some d) e).tm t = cond (Nat.beq d t) e.v ((lk s.tm t).kill e.ks) := by simp only [AS.app, lk]; rw [kM]
     rw [h1]
     by_cases hdt : d = t
     . subst hdt
       rw [show Nat.beq d d = true from Nat.beq_refl d]
       simp only [cond_true, Act.put]
       rw [show (a.tmps.setIfInBounds d v).getD d undef = v by simp [R.nt, hlt]]
       exact hv
     . rw [show Nat.beq d t = false from by cases hb : Nat.beq d t with | false => rfl | true => exact absurd (Nat.eq_of_beq_eq_true hb) hdt]
       simp only [cond_false, Act.put]
       rw [show (a.tmps.setIfInBounds d v).getD t undef = a.tmps.getD t undef by simp [hdt]]
       exact r8 A (R.tm t)

structure Good (C : Ctx) : Prop where
 ti : ∀ t, aR C.P t (C.ti t)
 mt : ∀ t m f, C.mt t m f → ∀ (v : Value) (w : World), (method (C.P.types.size + Made.depth) t v m).run C.P w = .ok (f, v) w
 hm : C.P.follows .mixedOrders = true

def ao (C : Ctx) (E : Env) (st : St) (g : ae) (s : AS) (a : Act) (w : World) (o : Oper) (e : Ef) : Prop :=
 ∀ (next : Act → World → Prop) (Q : Exit → Act → World → Prop), (∀ st' g' w' v, iP E st g s.sg.length st' g' (s.app o.dst e).sg.length e.ks → ay E st' g' (s.app o.dst e).sg w' →
  VR st' g' e.v (s.app o.dst e).sg.length v → next (a.put o.dst v) w') → o.wp C.P a w next Q

section
variable {C : Ctx} {E : Env} {st : St} {g : ae} {s : AS} {a : Act} {w : World} {o : Oper}

theorem ao.val {e : Ef} (v : Value) (w' : World) (st' : St) (g' : ae) (hr : (execOp a.eval o).run C.P w = .ok (.value v) w')
   (A : iP E st g s.sg.length st' g' (s.app o.dst e).sg.length e.ks) (W : ay E st' g' (s.app o.dst e).sg w') (hv : VR st' g' e.v (s.app o.dst e).sg.length v) : ao C E st g s a w o e := by
 intro next Q h
 unfold Oper.wp
 rw [hr]
 exact h st' g' w' v A W hv

theorem ao.skip {e : Ef} (w' : World) (st' : St) (g' : ae) (hr : (execOp a.eval o).run C.P w = .ok .skip w')
   (A : iP E st g s.sg.length st' g' (s.app o.dst e).sg.length e.ks) (W : ay E st' g' (s.app o.dst e).sg w') (hv : VR st' g' e.v (s.app o.dst e).sg.length undef) : ao C E st g s a w o e := by
 intro next Q h
 unfold Oper.wp
 rw [hr]
 exact h st' g' w' undef A W hv

theorem fR (s : AS) (d : Option Nat) (x : V) : (s.app d (pe x)).sg = s.sg := by simp [AS.app, pe, iD, dr, gk]
theorem lh (s : AS) (d : Option Nat) (x : V) (rd : List Nat) : (s.app d ⟨x, [], [], [], rd⟩).sg = s.sg := by simp [AS.app, iD, dr, gk]

theorem ao.pure {x : V} {rd : List Nat} (R : Rel E st g s a w) (v : Value) (w' : World) (hr : (execOp a.eval o).run C.P w = .ok (.value v) w') (hw : b8 w w') (hv : VR st g x s.sg.length v) :
   ao C E st g s a w o ⟨x, [], [], [], rd⟩ := by
 refine ao.val v w' st g hr ⟨fun _ _ _ h => h, fun _ _ _ => rfl, ?_⟩ ?_ ?_
 . rw [lh]; exact Nat.le_refl _
 . rw [lh]; exact R.wr.same hw
 . rw [lh]; exact hv
end
end Go.VG
namespace Go.VG
open Go

section
variable {C : Ctx} {E : Env} {st : St} {g : ae} {s : AS} {a : Act} {w : World} {o : Oper} {e : Ef}

theorem nB (s : AS) (d : Option Nat) (x : V) (rd : List Nat) (ob : O) : (s.app d ⟨x, [], [], [ob], rd⟩).sg = s.sg ++ [ob] := by simp [AS.app, iD, dr, gk]

theorem ao.new {x : V} {rd : List Nat} {ob : O} (R : Rel E st g s a w) (v : Value) (w1 : World) (hw : b8 w w1) (gi : Gh) (oj : Obj)
   (hr : (execOp a.eval o).run C.P w = .ok (.value v) (w1.alloc oj)) (hb : ∀ b, gi.blk = some b → b = w1.heap.size)
   (ho : dg E st (cg g s.sg.length gi) (s.sg.length + 1) (w1.alloc oj) gi ob)
   (hv : VR st (cg g s.sg.length gi) x (s.sg.length + 1) v) : ao C E st g s a w o ⟨x, [], [], [ob], rd⟩ := by
 refine ao.val v _ st (cg g s.sg.length gi) hr ⟨fun _ _ _ h => h, fun i hi _ => cW (Nat.ne_of_lt hi), ?_⟩ ?_ ?_
 . rw [nB]; simp
 . rw [nB]; exact (R.wr.same hw).CK oj gi ob hb ho
 . rw [nB]; simpa using hv

theorem ao.AL {rd : List Nat} {cs : List V} (R : Rel E st g s a w) (vs : Array Value) (el : TypeId)
   (hr : (execOp a.eval o).run C.P w = .ok (.value (.pointer (some ⟨w.heap.size, 0, none⟩))) (w.alloc (.cells vs el))) (hc : aq st g cs s.sg.length vs.toList) :
   ao C E st g s a w o ⟨.ptr s.sg.length 0, [], [], [.cells cs], rd⟩ := by
 refine ao.new R _ w (b8.refl w) ⟨some w.heap.size, none, 0, 0, 0⟩ _ hr (by simp) ?_ ?_
 . refine ⟨w.heap.size, vs, el, (0, 0), rfl, R.wr.gnew _ R.wr.size, heap_alloc_new, ?_, ⟨by simp, by intro o _; simp⟩, R.wr.jL⟩
   exact jz (fun _ _ _ h => h) (fun i _ hi => ⟨by omega, cW (Nat.ne_of_lt hi)⟩) hc
 . simp only [VR]
   exact ⟨by omega, w.heap.size, by simp, rfl⟩

def a6 {α : Type} (p : α → Prop) (t : Tr α) : Prop := ∀ e, t (fun b => b = e) → p e
section
variable {α β : Type} {p : α → Prop}
theorem a6.ret {x : α} (h : p x) : a6 p (ret x) := by rintro _ ⟨⟩; exact h
theorem a6.fail : a6 p fail := fun _ h => h.elim
theorem a6.av {A : Prop} {t : Tr α} (h : A → a6 p t) : a6 p (av A t) := fun e he => h he.1 e he.2
theorem a6.when {b : Bool} {t : Tr α} (h : b = true → a6 p t) : a6 p (bO b t) := fun e he => by
 cases b with
 | false => exact he.elim
 | true => exact h rfl e he
theorem a6.opt {x : Option β} {f : β → Tr α} (h : ∀ y, x = some y → a6 p (f y)) : a6 p (dB x f) := fun e he => by
 cases x with
 | none => exact he.elim
 | some y => exact h y rfl e he
theorem a6.c9 {b : Bool} {t u : Tr α} (ht : b = true → a6 p t) (hu : b = false → a6 p u) : a6 p (jB b t u) := fun e he => by
 cases b with
 | false => exact hu rfl e he
 | true => exact ht rfl e he
theorem a6.dm {x : Option β} {f : β → Tr α} {u : Tr α} (h : ∀ y, x = some y → a6 p (f y)) (hu : x = none → a6 p u) : a6 p (dm x f u) := fun e he => by
 cases hx : x with
 | none => exact hu hx e (he.2 hx)
 | some y => exact h y hx e (he.1 y hx)
theorem a6.ex {f : β → Tr α} (h : ∀ y, a6 p (f y)) : a6 p (exT f) := fun e ⟨y, he⟩ => h y e he
theorem a6.bind {t : Tr β} {f : β → Tr α} (ht : a7 t) (h : ∀ y, (∀ K : β → Prop, K y → t K) → a6 p (f y)) : a6 p (fw t f) := fun e he => by
 obtain ⟨y, h1, h2⟩ := ht _ he
 exact h y h2 e h1
end
abbrev cz (C : Ctx) (E : Env) (st : St) (g : ae) (s : AS) (a : Act) (w : World) (o : Oper) (t : Tr Ef) : Prop := a6 (ao C E st g s a w o) t

theorem Bx {x : Operand} (R : Rel E st g s a w) (hg : aP C.gl st) (ho : o.op = .move x ∨ o.op = .assign x) : cz C E st g s a w o (force (s.ev C x) fun x => ret (pe x)) := by
 rw [force_eq]
 exact a6.ret (ao.pure R (a.eval x) w (by rcases ho with ho | ho <;> simp [execOp, ho]) (b8.refl w) (bD R hg x))

theorem JM {c x y : Operand} (R : Rel E st g s a w) (hg : aP C.gl st) (ho : o.op = .pick c x y) : cz C E st g s a w o (nX C s c x y) := by
 unfold nX
 have hc := bD R hg c
 split
 . rename_i t ht
   rw [ht] at hc
   simp only [VR] at hc
   simp only [force_eq]
   have hx := bD R hg x
   have hy := bD R hg y
   have hr : (execOp a.eval o).run C.P w = .ok (.value (if t then a.eval x else a.eval y)) w := by simp [execOp, ho, hc, asBool]
   split
   . rename_i bx bY h1 h2
     refine a6.ret (ao.pure R _ w hr (b8.refl w) ?_)
     rw [h1] at hx; rw [h2] at hy
     cases t
     . simpa [VR] using hy
     . simpa [VR] using hx
   . refine a6.c9 (fun h => ?_) (fun h => ?_)
     . subst h; exact a6.ret (ao.pure R _ w hr (b8.refl w) (by simpa using hx))
     . subst h; exact a6.ret (ao.pure R _ w hr (b8.refl w) (by simpa using hy))
 . exact a6.fail

theorem Ji {t : TypeId} (R : Rel E st g s a w) (G : Good C) (ho : o.op = .alloc t) : cz C E st g s a w o (lq C s t) := by
 unfold lq
 split
 . exact a6.fail
 . rename_i hk
   simp only [force_eq, dj]
   refine a6.when fun hu => a6.ret ?_
   obtain ⟨z, hz, hz'⟩ := vL w (G.ti t) (fun h => hk h)
   refine ao.AL R z.cells t ?_ (iQ (hz' st g _) (by simpa using hu))
   simp [execOp, ho, Instr.alloc, hz, newVar, newRow]

theorem s_box {t : TypeId} {x : Operand} (R : Rel E st g s a w) (hg : aP C.gl st) (ho : o.op = .box t x) :
   cz C E st g s a w o (force (s.ev C x) fun x => bK s.sg.length fun n => bO (!x.ez) (ret ⟨.ptr n 0, [], [], [.cells x.cells], []⟩)) := by
 simp only [force_eq, dj]
 refine a6.when fun hu => a6.ret ?_
 refine ao.AL R (a.eval x).cells t ?_ (iQ (bD R hg x) (by simpa using hu))
 simp [execOp, ho, Instr.box, newVar, newRow]

theorem B6 {agg : Bool} {size off : Nat} {cs : List V} {v : V} (h : ∀ K : V → Prop, K v → gZ agg size cs off K) :
   (agg = true ∧ (size = 0 ∨ off + size ≤ cs.length) ∧ v = .agg ((cs.drop off).take size)) ∨ (agg = false ∧ cs[off]? = some v) := by
 have h := h (fun x => x = v) rfl
 unfold gZ at h
 cases agg
 . cases hr : jd cs off with
   | none => simp only [dB, hr, ff] at h
   | some r =>
     simp only [dB, hr, ff] at h
     rw [rR] at hr
     cases h
     exact .inr ⟨rfl, hr⟩
 . cases hr : gG (iS cs off) size with
   | none => simp only [dB, hr, ff] at h
   | some r =>
     simp only [dB, hr, ff] at h
     obtain ⟨h1, h2⟩ := xd hr
     rw [rC] at h1 h2
     subst h1
     cases h
     simp only [List.length_drop] at h2
     exact .inl ⟨rfl, by omega, rfl⟩

theorem sJ {t : TypeId} {b o : Nat} {cs : List V} {vs : List Value} {v : V} {n : Nat} (G : Good C) (hk : (C.ti t).k ≠ .other) (hc : aq st g cs n vs)
   (hw : ∀ j, j < vs.length → w.cell? ⟨b, o + j, none⟩ = vs[j]?) {off : Nat} (h : ∀ K : V → Prop, K v → gZ (C.ti t).k.isAgg (C.ti t).size cs off K) :
   ∃ u, (loadVar t ⟨b, o + off, none⟩).run C.P w = .ok u w ∧ VR st g v n u := by
 rcases B6 h with ⟨h1, h2, rfl⟩ | ⟨h1, h2⟩
 . have hl := dP hc
   have hlen : (C.ti t).size = ((vs.drop off).take (C.ti t).size).length := by simp; omega
   refine ⟨.agg ((vs.drop off).take (C.ti t).size).toArray, ?_, ?_⟩
   . have := run_loadCells_list (P := C.P) w ⟨b, o + off, none⟩ ((vs.drop off).take (C.ti t).size) (fun j v hj => by
       rw [Addr.add_lit]
       rw [List.getElem?_take] at hj
       split at hj
       . rw [List.getElem?_drop] at hj
         have hlt : off + j < vs.length := by
          rcases Nat.lt_or_ge (off + j) vs.length with h' | h'
          . exact h'
          . simp [List.getElem?_eq_none h'] at hj
         have := hw (off + j) hlt
         rw [hj] at this
         rw [Nat.add_assoc]; exact this
       . cases hj)
     rw [← hlen] at this
     simp [loadVar, sG w (G.ti t) hk, h1, ga w (G.ti t) hk, this]
   . simp only [VR]
     exact ⟨_, rfl, by simpa using pf (pb hc)⟩
 . obtain ⟨u, h3, h4⟩ := jy hc h2
   have hlt : off < vs.length := by
    rcases Nat.lt_or_ge off vs.length with h' | h'
    . exact h'
    . simp [List.getElem?_eq_none h'] at h3
   refine ⟨u, ?_, h4⟩
   have := hw off hlt
   rw [h3] at this
   simp [loadVar, sG w (G.ti t) hk, h1, this]

theorem Bw {t : TypeId} {cs : List V} {vs : Array Value} {v : V} {n off : Nat} (G : Good C) (hk : (C.ti t).k ≠ .other) (hc : aq st g cs n vs.toList)
   (h : ∀ K : V → Prop, K v → gZ (C.ti t).k.isAgg (C.ti t).size cs off K) : ∃ u, (part t vs off).run C.P w = .ok u w ∧ VR st g v n u := by
 rcases B6 h with ⟨h1, h2, rfl⟩ | ⟨h1, h2⟩
 . refine ⟨.agg (vs.extract off (off + (C.ti t).size)), ?_, ?_⟩
   . simp [part, sG w (G.ti t) hk, h1, ga w (G.ti t) hk]
   . simp only [VR]
     refine ⟨_, rfl, ?_⟩
     rw [Array.toList_extract, List.extract_eq_take_drop]
     simpa using pf (pb hc)
 . obtain ⟨u, h3, h4⟩ := jy hc h2
   refine ⟨u, ?_, h4⟩
   have h3' : vs[off]? = some u := by simpa using h3
   simp [part, sG w (G.ti t) hk, h1, h3']

theorem tT {E : Env} {sg : List O} (W : ay E st g sg w) {i : Nat} {cs : List V} (hi : sg[i]? = some (.cells cs)) : ∃ b c el fr, (g i).blk = some b ∧ E.G b ∧ w.heap[b]? = some (.cells c el fr) ∧ aq st g cs sg.length c.toList ∧ lM c fr ∧ ∀ o, st b o = none :=
 W.ob i _ hi

theorem JA {t : TypeId} {x : Operand} (R : Rel E st g s a w) (hg : aP C.gl st) (G : Good C) (ho : o.op = .load t x) : cz C E st g s a w o (kC C s t x) := by
 unfold kC
 simp only [jG]
 split
 . exact a6.fail
 rename_i hk
 have hk : (C.ti t).k ≠ .other := fun h => hk h
 have hx := bD R hg x
 split
 . rename_i cs off he
   rw [he] at hx
   simp only [VR] at hx
   obtain ⟨b, of, vs, h1, h2, h3⟩ := hx
   refine a6.bind (dJ _ _ _ _) fun v hv => ?_
   rw [force_eq]
   have hcell : ∀ j, j < vs.length → w.cell? ⟨b, of + j, none⟩ = vs[j]? := fun j hj => by
    have h4 := h3 j hj
    rw [List.getElem?_eq_getElem hj] at h4 ⊢
    exact R.wr.stw _ _ _ h4
   obtain ⟨u, h5, h6⟩ := sJ (w := w) (b := b) (o := of) G hk h2 hcell hv
   refine a6.ret (ao.pure R u w ?_ (b8.refl w) (fv (fun _ _ _ h => h) (fun i _ hi => absurd hi (Nat.not_lt_zero _)) h6))
   simp [execOp, ho, Instr.loadAt, h1, Instr.sureAddr, h5]
 . rename_i i off he
   rw [he] at hx
   simp only [VR] at hx
   obtain ⟨hi, b, hb, h1⟩ := hx
   split
   . rename_i cs hs
     obtain ⟨hs1, _⟩ := ew hs (by simp)
     obtain ⟨b', c, el, fr, k1, k2, k3, k4, k5, k6⟩ := tT R.wr hs1
     rw [hb] at k1; cases k1
     refine a6.bind (dJ _ _ _ _) fun v hv => ?_
     rw [force_eq]
     have hcell : ∀ j, j < c.toList.length → w.cell? ⟨b, 0 + j, none⟩ = c.toList[j]? := fun j hj => by rw [fS k3]; simp
     obtain ⟨u, h5, h6⟩ := sJ (w := w) (b := b) (o := 0) G hk k4 hcell hv
     refine a6.ret (ao.pure R u w ?_ (b8.refl w) h6)
     rw [Nat.zero_add] at h5
     simp [execOp, ho, Instr.loadAt, h1, Instr.sureAddr, h5]
   . exact a6.fail
 . rename_i i idx off he
   rw [he] at hx
   simp only [VR] at hx
   obtain ⟨hi, b, hb, h1⟩ := hx
   split
   . rename_i sz pre l hs
     obtain ⟨hs1, _⟩ := ew hs (by simp)
     obtain ⟨q1, q2, q3, q4, q5, q6, q7⟩ := R.wr.ob i _ hs1
     refine a6.opt fun y hy => a6.when fun hu => a6.bind (dJ _ _ _ _) fun v hv => ?_
     rw [force_eq]
     rcases q7 with ⟨_, q7⟩ | ⟨b', c, el, fr, k1, k2, k3, k4, k5, k6, _⟩
     . rw [hb] at q7; cases q7
     . rw [hb] at k1; cases k1
       obtain ⟨u, r1, r2, r3, r4⟩ := fQ.1 k6 idx y hy
       have r5 := iQ r1 (by simpa using hu)
       have hcell : ∀ j, j < u.cells.toList.length → w.cell? ⟨b, idx * sz + j, none⟩ = u.cells.toList[j]? := fun j hj => by
        rw [fS k4]
        have := r4 j (by rw [← r2]; simpa using hj)
        rw [Nat.zero_add] at this
        simpa using this
       obtain ⟨u', h5, h6⟩ := sJ (w := w) (b := b) (o := idx * sz) G hk r5 hcell hv
       refine a6.ret (ao.pure R u' w ?_ (b8.refl w) (fv (fun _ _ _ h => h) (fun i _ hi => absurd hi (Nat.not_lt_zero _)) h6))
       rw [q2] at h1
       simp [execOp, ho, Instr.loadAt, h1, Instr.sureAddr, h5]
   . exact a6.fail
 . exact a6.fail

theorem JL {x : Operand} (R : Rel E st g s a w) (hg : aP C.gl st) (ho : o.op = .nilCheck x) : cz C E st g s a w o (lK C s x) := by
 unfold lK
 have hx := bD R hg x
 split
 all_goals first
  | exact a6.fail
  | skip
 all_goals
  rename_i he
  rw [he] at hx
  have hx' := hx
  simp only [VR] at hx
 . obtain ⟨_, b, _, h1⟩ := hx
   exact a6.ret (ao.pure R (a.eval x) w (by simp [execOp, ho, h1]) (b8.refl w) hx')
 . obtain ⟨_, b, _, h1⟩ := hx
   exact a6.ret (ao.pure R (a.eval x) w (by simp [execOp, ho, h1]) (b8.refl w) hx')
 . obtain ⟨b, _, _, h1, _⟩ := hx
   exact a6.ret (ao.pure R (a.eval x) w (by simp [execOp, ho, h1]) (b8.refl w) hx')
 . obtain ⟨b, _, h1, _⟩ := hx
   exact a6.ret (ao.pure R (a.eval x) w (by simp [execOp, ho, h1]) (b8.refl w) hx')
 . obtain ⟨b, h1, _⟩ := hx
   exact a6.ret (ao.pure R (a.eval x) w (by simp [execOp, ho, h1]) (b8.refl w) hx')

theorem JD {t : TypeId} {x : Operand} (R : Rel E st g s a w) (hg : aP C.gl st) (G : Good C) (ho : o.op = .makeInterface t x) : cz C E st g s a w o (nV C s t x) := by
 unfold nV
 split
 . exact a6.fail
 . exact a6.fail
 . rename_i h1 h2
   rw [force_eq]
   refine a6.when fun hu => a6.ret ?_
   refine ao.pure R (.iface t (a.eval x)) w ?_ (b8.refl w) (by simp only [VR]; exact ⟨_, rfl, bD R hg x⟩)
   obtain ⟨h3, _⟩ := (G.ti t).of (fun h => h1 h)
   cases hk' : (C.ti t).k <;> rw [hk'] at h3 <;> simp only [TK.ok] at h3
   case struct fs => obtain ⟨f, h3, _⟩ := h3; simp [execOp, ho, Instr.makeInterface, run_underlying h3]
   case iface => exact absurd hk' (fun h => h2 h)
   case func => obtain ⟨p, q, r, h3⟩ := h3; simp [execOp, ho, Instr.makeInterface, run_underlying h3]
   all_goals simp [execOp, ho, Instr.makeInterface, run_underlying h3]

theorem JC {fn : Fn} {xs ys : Array Operand} (R : Rel E st g s a w) (hg : aP C.gl st) (ho : o.op = .makeFunc fn xs ys) :
   cz C E st g s a w o (lO (s.bS C xs.toList) fun a => lO (s.bS C ys.toList) fun b => ret (pe (.func fn a b))) := by
 simp only [oa]
 refine a6.ret (ao.pure R (.func fn (xs.map a.eval) (ys.map a.eval)) w (by simp [execOp, ho, Instr.makeFunc]) (b8.refl w) ?_)
 simp only [VR]
 exact ⟨_, _, rfl, by simpa using nZ R hg xs.toList, by simpa using nZ R hg ys.toList⟩

theorem Jt {x : Operand} {i : Nat} (R : Rel E st g s a w) (hg : aP C.gl st) (ho : o.op = .extract x i) : cz C E st g s a w o (nS C s x i) := by
 unfold nS
 have hx := bD R hg x
 split
 . rename_i vs he
   rw [he] at hx
   simp only [VR] at hx
   obtain ⟨us, h1, h2⟩ := hx
   refine a6.opt fun v hv => ?_
   rw [force_eq]
   rw [rR] at hv
   obtain ⟨u, h3, h4⟩ := jy h2 hv
   have h3' : us[i]? = some u := by simpa using h3
   exact a6.ret (ao.pure R u w (by simp [execOp, ho, h1, Instr.extract, h3']) (b8.refl w) h4)
 . exact a6.fail

theorem zg : ∀ {fs : List (Nat × TypeId)} {i : Nat} {x : Nat × TypeId}, jV fs i = some x → fs[i]? = some x
 | [], i, x, h => by simp [jV] at h
 | y :: ys, 0, x, h => by simpa [jV] using h
 | y :: ys, i + 1, x, h => by simpa [jV] using zg (fs := ys) (by simpa [jV] using h)
theorem uk {fields : Array Field} {fs : List (Nat × TypeId)} (h : fields.toList.map (fun f => (f.offset, f.type)) = fs) {i : Nat} {x : Nat × TypeId} (hx : jV fs i = some x) :
   ∃ f, fields[i]? = some f ∧ f.offset = x.1 ∧ f.type = x.2 := by
 have := zg hx
 rw [← h, List.getElem?_map] at this
 cases hf : fields.toList[i]? with
 | none => rw [hf] at this; cases this
 | some f => rw [hf] at this; cases this; exact ⟨f, by simpa using hf, rfl, rfl⟩

theorem Ju {t : TypeId} {x : Operand} {f : Nat} (R : Rel E st g s a w) (hg : aP C.gl st) (G : Good C) (ho : o.op = .field t x f) : cz C E st g s a w o (lC C s t x f) := by
 unfold lC
 have hx := bD R hg x
 split
 . rename_i fs cs hk he
   rw [he] at hx
   simp only [VR] at hx
   obtain ⟨us, h1, h2⟩ := hx
   obtain ⟨h3, _⟩ := (G.ti t).of (by rw [hk]; simp)
   rw [hk] at h3
   obtain ⟨fields, h3, h4, _⟩ := h3
   refine a6.opt fun ft hft => ?_
   split
   . exact a6.fail
   rename_i hk2
   refine a6.bind (dJ _ _ _ _) fun v hv => ?_
   rw [force_eq]
   obtain ⟨fd, h5, h6, h7⟩ := uk h4 hft
   obtain ⟨u, h8, h9⟩ := Bw (w := w) G (fun h => hk2 h) h2 hv
   refine a6.ret (ao.pure R u w ?_ (b8.refl w) h9)
   simp [execOp, ho, Instr.field, run_underlying h3, h5, h1, asAgg, h6, h7, h8]
 . exact a6.fail

theorem Jv {t : TypeId} {x : Operand} {f : Nat} (R : Rel E st g s a w) (hg : aP C.gl st) (G : Good C) (ho : o.op = .fieldAddr t x f) : cz C E st g s a w o (lD C s t x f) := by
 unfold lD
 have hx := bD R hg x
 split
 . rename_i fs hk
   obtain ⟨h3, _⟩ := (G.ti t).of (by rw [hk]; simp)
   rw [hk] at h3
   obtain ⟨fields, h3, h4, _⟩ := h3
   refine a6.opt fun ft hft => ?_
   split
   . exact a6.fail
   rename_i hk2
   refine a6.when fun hsz => ?_
   obtain ⟨fd, h5, h6, h7⟩ := uk h4 hft
   have hsz' := Nat.le_of_ble_eq_true hsz
   have hs0 : ¬ (C.ti fd.type).size = 0 := by rw [h7]; omega
   have hrs := ga w (G.ti fd.type) (by rw [h7]; exact fun h => hk2 h)
   have hr : ∀ ad : Addr, a.eval x = .pointer (some ad) → (execOp a.eval o).run C.P w = .ok (.value (.pointer (some (ad.add ft.1)))) w := fun ad had => by
    simp [execOp, ho, Instr.fieldAt, run_underlying h3, h5, had, Instr.sureAddr, fieldPlace, hrs, hs0, h6]
   split
   . rename_i i off he
     rw [he] at hx
     simp only [VR] at hx
     obtain ⟨hi, b, hb, h1⟩ := hx
     rw [dj]
     refine a6.ret (ao.pure R _ w (hr _ h1) (b8.refl w) ?_)
     simp only [VR]
     exact ⟨hi, b, hb, by rw [Addr.add_lit]⟩
   . rename_i i j off he
     rw [he] at hx
     simp only [VR] at hx
     obtain ⟨hi, b, hb, h1⟩ := hx
     rw [dj]
     refine a6.ret (ao.pure R _ w (hr _ h1) (b8.refl w) ?_)
     simp only [VR]
     exact ⟨hi, b, hb, by rw [Addr.add_lit, Nat.add_assoc]⟩
   . rename_i cs off he
     rw [he] at hx
     simp only [VR] at hx
     obtain ⟨b, of, vs, h1, h2, h8⟩ := hx
     rw [dj]
     refine a6.ret (ao.pure R _ w (hr _ h1) (b8.refl w) ?_)
     simp only [VR]
     exact ⟨b, of, vs, by rw [Addr.add_lit, Nat.add_assoc], h2, h8⟩
   . exact a6.fail
 . exact a6.fail
end
end Go.VG
