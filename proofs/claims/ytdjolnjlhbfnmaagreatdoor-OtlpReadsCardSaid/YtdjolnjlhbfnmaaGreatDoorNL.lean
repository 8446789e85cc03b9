/-
  A part of the proof.
-/
import Derived.Test.YtdjolnjlhbfnmaaGreatDoorOA
import Derived.Test.YtdjolnjlhbfnmaaGreatDoorNH
set_option linter.unusedSimpArgs false
set_option linter.unusedVariables false
set_option maxHeartbeats 4000000
namespace Go.Proofs.YtdjolnjlhbfnmaaGreatDoor
open Go Go.VG
set_option maxRecDepth 100000
theorem N3 {c : Cu} (h : c.bK.c = 0) : c.fz.text.length + 1 + c.p ≤ c.bK.p := by
 have h0 := uf h
 have h1 : c.tag.2.c = 0 := by
  rcases Decidable.em (c.tag.2.c = 0) with q | q
  . exact q
  . unfold Cu.bK at h; rw [xm q] at h; exact absurd h q
 have h2 : c.bg.2.c = 0 := by
  unfold Cu.tag at h1
  split at h1
  . rename_i q; exact absurd h1 q
  . rename_i q; simpa using q
 have h3 : c.bg.2.p ≤ c.tag.2.p := by
  unfold Cu.tag
  repeat' split
  . exact Nat.le_refl _
  . exact Nat.le_refl _
  . exact Nat.le_of_eq (mD _ 14).symm
 have h4 := Fa h2
 unfold Cu.fz
 rw [if_neg (fun q => q h)]
 unfold oE
 repeat' split
 all_goals first
  | (show 0 + 1 + c.p ≤ _; omega)
  | skip
 have e : c.bK = c.tag.2.text.2 := by
  unfold Cu.bK gC
  rw [if_neg (by assumption), if_neg (by assumption), if_neg (by assumption), if_pos (by assumption)]
 rw [e]
 have := EP c.tag.2
 show c.tag.2.text.1.length + 1 + c.p ≤ _
 omega
def wt (l : List Pf) : Nat := (bX l).length + l.length
theorem Pt (l : List Pf) (f : Pf) : wt (l ++ [f]) = wt l + f.text.length + 1 := by
 unfold wt
 rw [iO, List.length_append, List.length_append, List.length_singleton]; omega
theorem zX (f : Pf) (l : List Pf) : wt (f :: l) = f.text.length + 1 + wt l := by
 unfold wt
 rw [tQ, List.length_append, List.length_cons]; omega
theorem Bd : ∀ (n : Nat) (c : Cu) (acc : List Pf), c.ok → wt (dJ n c acc).2 ≤ wt acc + (c.e - c.p)
 | 0, c, acc, _ => Nat.le_add_right _ _
 | n + 1, c, acc, hc => by
   rw [dJ]
   split
   . split
     . exact Nat.le_add_right _ _
     . rename_i q
       have h0 : c.bK.c = 0 := by simpa using q
       have hk := rW hc
       have ht := N3 h0
       have ih := Bd n c.bK (acc ++ [c.fz]) hk.1
       rw [Pt, hk.2.2] at ih
       have := hk.1.1
       rw [hk.2.2] at this
       omega
   . exact Nat.le_add_right _ _
theorem Ps (s : List UInt8) : wt (aF s) ≤ s.length := by
 unfold aF
 split
 . have := Bd (Cu.new s).e (.new s) [] ⟨Nat.zero_le _, Nat.le_refl _⟩
   have e : ((Cu.new s).all []).2 = (dJ (Cu.new s).e (.new s) []).2 := by
    show (dJ ((Cu.new s).e - 0) (.new s) []).2 = _
    rw [Nat.sub_zero]
   rw [e]
   exact Nat.le_trans this (by show 0 + (s.length - 0) ≤ _; omega)
 . exact Nat.zero_le _
theorem Fe (p : Pf → Bool) : ∀ l : List Pf, wt (ar p l) ≤ wt l
 | [] => Nat.le_refl _
 | f :: l => by
   have ih := Fe p l
   unfold ar at ih ⊢
   rw [List.filter_cons, zX]
   split
   . rw [zX]; omega
   . omega
def wx : List (List UInt8) → Nat
 | [] => 0
 | t :: l => t.length + 1 + wx l
theorem Pu (l : List Pf) : wx (l.map Pf.text) = wt l := by
 induction l with
 | nil => rfl
 | cons f l ih => rw [List.map_cons, wx, ih, zX]
theorem zY (p : Pf → Bool) (s : List UInt8) : wx ((ar p (aF s)).map Pf.text) ≤ s.length := by
 rw [Pu]; exact Nat.le_trans (Fe p _) (Ps s)
theorem MX (l k : List aK) : dq (l ++ k) = dq l + dq k := by
 induction l with
 | nil => simp [dq]
 | cons v r ih => rw [List.cons_append, dq, dq, ih]; omega
theorem MY (l k : List aG) : bd (l ++ k) = bd l + bd k := by
 induction l with
 | nil => simp [bd]
 | cons v r ih => rw [List.cons_append, bd, bd, ih]; omega
def Small (v : RV) : Prop := ∀ s, (v s).2.nodes ≤ s.length + 1
theorem DK {v : RV} (h : Small v) : ∀ (l : List (List UInt8)) (acc : List aK), dq (fA v l acc).2 ≤ dq acc + wx l
 | [], acc => Nat.le_refl _
 | x :: xs, acc => by
   rw [fA, wx]
   split
   . exact Nat.le_trans (Nat.le_of_eq (by simp [dq])) (Nat.zero_le _)
   . have ih := DK h xs (acc ++ [(v x).2])
     have := h x
     rw [MX, show dq [(v x).2] = (v x).2.nodes from by simp [dq]] at ih
     omega
theorem Nw {v : RV} (h : Small v) (x : List UInt8) : (cO v x).2.nodes ≤ x.length + 1 := by
 unfold cO
 split
 . simp [az, vz, aG.nodes, aK.nodes, dq, bd]
 . split
   . simp [az, vz, aG.nodes, aK.nodes, dq, bd]
   . rw [aG.nodes]
     have := h (bX (ar (aD 2 2) (aF x)))
     have := (fits x).j (aD 2 2)
     omega
theorem xF {v : RV} (h : Small v) : ∀ (l : List (List UInt8)) (acc : List aG), bd (bO v l acc).2 ≤ bd acc + wx l
 | [], acc => Nat.le_refl _
 | x :: xs, acc => by
   rw [bO, wx]
   split
   . exact Nat.le_trans (Nat.le_of_eq (by simp [bd])) (Nat.zero_le _)
   . have ih := xF h xs (acc ++ [(cO v x).2])
     have := Nw h x
     rw [MY, show bd [(cO v x).2] = (cO v x).2.nodes from by simp [bd]] at ih
     omega
theorem sQ : vz.nodes = 1 := by simp [vz, aK.nodes, dq, bd]
theorem OT {v : RV} (h : Small v) : Small fun s => iS (fq v s) := fun s => by
 show (iS (fq v s)).2.nodes ≤ _
 unfold iS
 split
 . rw [sQ]; omega
 . rw [aK.nodes, bd]
   unfold fq
   split
   . simp [dq]
   . have := DK h (dx s) []
     have := zY (aD 1 2) s
     unfold dx at *
     rw [dq] at *
     omega
theorem OU {v : RV} (h : Small v) : Small fun s => jj (fZ v s) := fun s => by
 show (jj (fZ v s)).2.nodes ≤ _
 unfold jj
 split
 . rw [sQ]; omega
 . rw [aK.nodes, dq]
   unfold fZ
   split
   . simp [bd]
   . have := xF h (dx s) []
     have := zY (aD 1 2) s
     unfold dx at *
     rw [bd] at *
     omega
theorem Ew {g6 g7 : RV} (h6 : Small g6) (h7 : Small g7) : Small (fp g6 g7) := fun s => by
 have hf : ar (bn T7) (aF s) ≠ [] → (aQ (ar (bn T7) (aF s))).text.length ≤ s.length := fun q => (fits s).t _ _ (xa q)
 have hone : ∀ f, (fP f).nodes = 1 := fun f => by
  unfold fP
  repeat' split
  all_goals simp [aK.nodes, dq, bd]
 unfold fp
 split
 . rw [sQ]; omega
 split
 . rw [sQ]; omega
 split
 . rename_i q _
   have := h6 (aQ (ar (bn T7) (aF s))).text
   have := hf q
   omega
 split
 . rename_i q _ _
   have := h7 (aQ (ar (bn T7) (aF s))).text
   have := hf q
   omega
 . show (fP _).nodes ≤ _
   rw [hone]; omega
theorem Ey : Small fun _ => (33, vz) := fun s => by show vz.nodes ≤ _; rw [sQ]; omega
theorem zB : ∀ k, Small (eb k)
 | 0 => Ew Ey Ey
 | k + 1 => Ew (OT (zB k)) (OU (zB k))
theorem OS (k : Nat) (l : List (List UInt8)) : bd (bO (eb k) l []).2 ≤ wx l := by
 have := xF (zB k) l []
 rw [show bd [] = 0 from by simp [bd]] at this
 omega
end Go.Proofs.YtdjolnjlhbfnmaaGreatDoor
namespace Go.Proofs.YtdjolnjlhbfnmaaGreatDoor
open Go Go.VG
set_option maxRecDepth 100000
def tx (no : Int) (s : List UInt8) : List UInt8 := (aQ (ar (aD no 2) (aF s))).text
def nm (no w : Int) (s : List UInt8) : Int := (aQ (ar (aD no w) (aF s))).num
def ai (no : Int) (s : List UInt8) : List (List UInt8) := (ar (aD no 2) (aF s)).map Pf.text
def jn (no : Int) (s : List UInt8) : List UInt8 := bX (ar (aD no 2) (aF s))
def eU (u : Int) : Int := IntKind.i32.wrap u
def aC {α : Type} (f : List UInt8 → Int × α) : List (List UInt8) → List α → Int × List α
 | [], acc => (0, acc)
 | x :: xs, acc => if (f x).1 ≠ 0 then ((f x).1, []) else aC f xs (acc ++ [(f x).2])
abbrev bI (no : Int) (s : List UInt8) : Int × List aG := bO (eb 32) (ai no s) []
def ua (t x st : List UInt8) (a : List aG) : Lk := ⟨(t.getD 0 0).toNat, (t.getD 1 0).toNat, (t.getD 2 0).toNat, (t.getD 3 0).toNat, (t.getD 4 0).toNat, (t.getD 5 0).toNat, (t.getD 6 0).toNat, (t.getD 7 0).toNat, (t.getD 8 0).toNat, (t.getD 9 0).toNat, (t.getD 10 0).toNat, (t.getD 11 0).toNat, (t.getD 12 0).toNat, (t.getD 13 0).toNat, (t.getD 14 0).toNat, (t.getD 15 0).toNat, (x.getD 0 0).toNat, (x.getD 1 0).toNat, (x.getD 2 0).toNat, (x.getD 3 0).toNat, (x.getD 4 0).toNat, (x.getD 5 0).toNat, (x.getD 6 0).toNat, (x.getD 7 0).toNat, st, a⟩
def ub (t x p st nm : List UInt8) (k a b : Int) (at_ : List aG) (ev : List Ev) (lk : List Lk) (c : Int) (no : List UInt8) : Sp := ⟨(t.getD 0 0).toNat, (t.getD 1 0).toNat, (t.getD 2 0).toNat, (t.getD 3 0).toNat, (t.getD 4 0).toNat, (t.getD 5 0).toNat, (t.getD 6 0).toNat, (t.getD 7 0).toNat, (t.getD 8 0).toNat, (t.getD 9 0).toNat, (t.getD 10 0).toNat, (t.getD 11 0).toNat, (t.getD 12 0).toNat, (t.getD 13 0).toNat, (t.getD 14 0).toNat, (t.getD 15 0).toNat, (x.getD 0 0).toNat, (x.getD 1 0).toNat, (x.getD 2 0).toNat, (x.getD 3 0).toNat, (x.getD 4 0).toNat, (x.getD 5 0).toNat, (x.getD 6 0).toNat, (x.getD 7 0).toNat, (p.getD 0 0).toNat, (p.getD 1 0).toNat, (p.getD 2 0).toNat, (p.getD 3 0).toNat, (p.getD 4 0).toNat, (p.getD 5 0).toNat, (p.getD 6 0).toNat, (p.getD 7 0).toNat, st, nm, k, a, b, at_, ev, lk, c, no⟩
def bL (s : List UInt8) : Int × Ev := if ao s ≠ 0 then (ao s, default) else ((bI 3 s).1, ⟨nm 1 1 s, tx 2 s, (bI 3 s).2⟩)
def cM (s : List UInt8) : Int × Lk :=
 if ao s ≠ 0 then (ao s, default) else if (tx 1 s).length ≠ 16 ∨ (tx 2 s).length ≠ 8 then (10, default)
 else ((bI 4 s).1, ua (tx 1 s) (tx 2 s) (tx 3 s) (bI 4 s).2)
def eX (s : List UInt8) : Prop := (tx 1 s).length ≠ 16 ∨ (tx 2 s).length ≠ 8 ∨ (tx 4 s ≠ [] ∧ (tx 4 s).length ≠ 8)
instance (s : List UInt8) : Decidable (eX s) := by unfold eX; infer_instance
def bF (s : List UInt8) : Int × Sp :=
 if ao s ≠ 0 then (ao s, default) else if eX s then (10, default)
 else if (bI 9 s).1 ≠ 0 then ((bI 9 s).1, default)
 else if (aC bL (ai 11 s) []).1 ≠ 0 then ((aC bL (ai 11 s) []).1, default)
 else if (aC cM (ai 13 s) []).1 ≠ 0 then ((aC cM (ai 13 s) []).1, default)
 else if ao (jn 15 s) ≠ 0 then (ao (jn 15 s), default)
 else (0, ub (tx 1 s) (tx 2 s) (tx 4 s) (tx 3 s) (tx 5 s) (eU (nm 6 0 s)) (nm 7 1 s) (nm 8 1 s) (bI 9 s).2 (aC bL (ai 11 s) []).2 (aC cM (ai 13 s) []).2 (eU (nm 3 0 (jn 15 s))) (tx 2 (jn 15 s)))
def ct (s : List UInt8) : Int × Sc :=
 if ao s ≠ 0 then (ao s, default) else if ao (jn 1 s) ≠ 0 then (ao (jn 1 s), default)
 else if (aC bF (ai 2 s) []).1 ≠ 0 then ((aC bF (ai 2 s) []).1, default)
 else (0, ⟨tx 1 (jn 1 s), tx 2 (jn 1 s), (aC bF (ai 2 s) []).2⟩)
def br (s : List UInt8) : Int × Rs :=
 if ao s ≠ 0 then (ao s, default) else if ao (jn 1 s) ≠ 0 then (ao (jn 1 s), default)
 else if (bI 1 (jn 1 s)).1 ≠ 0 then ((bI 1 (jn 1 s)).1, default)
 else if (aC ct (ai 2 s) []).1 ≠ 0 then ((aC ct (ai 2 s) []).1, default)
 else (0, ⟨(bI 1 (jn 1 s)).2, (aC ct (ai 2 s) []).2⟩)
def da (s : List UInt8) : Int × List Rs :=
 if ao s ≠ 0 then (ao s, []) else if (aC br (ai 1 s) []).1 ≠ 0 then ((aC br (ai 1 s) []).1, [])
 else (0, (aC br (ai 1 s) []).2.map j6)
theorem nc {α : Type} {f : List UInt8 → Int × α} {L : List (List UInt8)} {acc : List α} {i : Nat} (h : i < L.length) : aC f (L.drop i) acc = if (f (L.getD i default)).1 ≠ 0 then ((f (L.getD i default)).1, []) else aC f (L.drop (i + 1)) (acc ++ [(f (L.getD i default)).2]) := by
 rw [List.drop_eq_getElem_cons h, aC, List.getD_eq_getElem?_getD, List.getElem?_eq_getElem h]; rfl
theorem qp {α : Type} (f : List UInt8 → Int × α) : ∀ (L : List (List UInt8)) (acc : List α), (aC f L acc).2.length ≤ acc.length + L.length
 | [], acc => Nat.le_refl _
 | x :: xs, acc => by
   rw [aC]
   split
   . exact Nat.zero_le _
   . have := qp f xs (acc ++ [(f x).2])
     rw [List.length_append, List.length_singleton] at this
     rw [List.length_cons]
     omega
theorem qo {α : Type} {f : List UInt8 → Int × α} {Q : α → Prop} : ∀ (L : List (List UInt8)) (acc : List α), (∀ x ∈ L, Q (f x).2) → (∀ a ∈ acc, Q a) → ∀ a ∈ (aC f L acc).2, Q a
 | [], acc, _, h => h
 | x :: xs, acc, hf, h => by
   rw [aC]
   split
   . intro a ha; cases ha
   . refine qo xs _ (fun y hy => hf y (List.mem_cons_of_mem _ hy)) fun a ha => ?_
     rcases List.mem_append.1 ha with q | q
     . exact h a q
     . rw [List.mem_singleton] at q; subst q; exact hf x List.mem_cons_self
theorem fJ {no : Int} {s : List UInt8} : (ai no s).length ≤ s.length ∧ ∀ t ∈ ai no s, t.length ≤ s.length := by
 constructor
 . unfold ai
   rw [List.length_map]
   exact Nat.le_trans (List.length_filter_le ..) (fits s).l
 . intro t ht
   obtain ⟨f, hf, rfl⟩ := List.mem_map.1 ht
   exact (fits s).t _ f hf
theorem je {no : Int} {s : List UInt8} : (jn no s).length ≤ s.length := (fits s).j _
theorem tC (no : Int) (s : List UInt8) : bd (bI no s).2 ≤ s.length := Nat.le_trans (OS 32 _) (zY _ s)
end Go.Proofs.YtdjolnjlhbfnmaaGreatDoor
