/-
  A part of the proof.
-/
import Derived.Test.YtllncocibkgjkaaGreatJWm
import Derived.Test.YtllncocibkgjkaaGreatTRp
set_option linter.unusedSimpArgs false
set_option linter.unusedVariables false
set_option maxHeartbeats 4000000
namespace Go.Proofs.YtllncocibkgjkaaGreat
open Go Go.VG
set_option maxRecDepth 100000
theorem tw (out : List UInt8) (l : List Fr) (f : Fr) (wh : Bool) : WS.top ⟨out, l ++ [f], wh, 0⟩ = f := by
 simp [WS.top]
theorem vU (out : List UInt8) (l : List Fr) (f g : Fr) (wh : Bool) : WS.fD ⟨out, l ++ [f], wh, 0⟩ g = ⟨out, l ++ [g], wh, 0⟩ := by
 simp [WS.fD]
theorem J0 (out : List UInt8) (l : List Fr) (b : Bool) : WS.may ⟨out, l ++ [⟨123 + 2, b, true⟩], true, 0⟩ = (⟨out, l ++ [⟨123 + 2, b, false⟩], true, 0⟩, true) := by
 unfold WS.may
 rw [tw, vU]
 simp
theorem IZ (out : List UInt8) (l : List Fr) (b k : Bool) : WS.may ⟨out, l ++ [⟨91 + 2, b, k⟩], true, 0⟩ = (⟨if b = true then out ++ [44] else out, l ++ [⟨91 + 2, true, k⟩], true, 0⟩, true) := by
 unfold WS.may
 rw [tw]
 simp [vU]
theorem GO (out : List UInt8) (l : List Fr) (e : UInt8) (b : Bool) : WS.fin ⟨out, l ++ [⟨e, b, false⟩], true, 0⟩ = ⟨out ++ [e], l, true, 0⟩ := by
 unfold WS.fin
 rw [tw]
 simp
theorem Im (out s : List UInt8) (l : List Fr) (b : Bool) : WS.key ⟨out, l ++ [⟨123 + 2, b, false⟩], true, 0⟩ s = ⟨(if b = true then out ++ [44] else out) ++ (quote s ++ [58]), l ++ [⟨123 + 2, true, true⟩], true, 0⟩ := by
 unfold WS.key
 rw [tw]
 simp [vU]
def wA (l : List cD) (i : Nat) : WS := (l.take i).foldl WS.op .new
theorem Lr {α : Type} [Inhabited α] {l : List α} {i : Nat} (h : i < l.length) : l.take (i + 1) = l.take i ++ [l.getD i default] := by
 rw [List.take_add_one, List.getD_eq_getElem?_getD, List.getElem?_eq_getElem h]; rfl
theorem CW {l : List cD} {i : Nat} (h : i < l.length) : wA l (i + 1) = (wA l i).op (l.getD i default) := by
 unfold wA; rw [Lr h, List.foldl_append]; rfl
end Go.Proofs.YtllncocibkgjkaaGreat
namespace Go.Proofs.YtllncocibkgjkaaGreat
open Go Go.VG
set_option maxRecDepth 100000
def fM (f : Nat → List cD) (L : List Nd) (k0 : UInt8) : List Nat → List cD
 | [] => []
 | k :: ks => (if k0.toNat = 123 then [⟨107, (L.getD k default).key, 0⟩] else []) ++ (f k ++ fM f L k0 ks)
def cn (L : List Nd) : Nat → Nat → List cD
 | 0, _ => []
 | n + 1, a =>
   if (L.getD a default).k.toNat ≠ 123 ∧ (L.getD a default).k.toNat ≠ 91 then [⟨(L.getD a default).k.toNat, (L.getD a default).t, 0⟩]
   else ⟨(L.getD a default).k.toNat, [], 0⟩ :: (fM (cn L n) L (L.getD a default).k (aJ L a) ++ [⟨101, [], 0⟩])
def opsL (L : List Nd) : List cD := cn L L.length 0
def gE (k0 : UInt8) (x : It) : List cD := (if k0.toNat = 123 then [⟨107, bo x, 0⟩] else []) ++ opsL x.1
theorem As {d : Nat} {f : Nat → List cD} {k0 : UInt8} {B : List Nd} :
   ∀ (l : List It) (P : List Nd), (∀ x ∈ l, TT d x.1 x.2) → (∀ x ∈ l, ∀ Q R, P ++ (aw l ++ B) = Q ++ (x.1 ++ R) → P.length ≤ Q.length → f Q.length = opsL x.1) →
   fM f (P ++ (aw l ++ B)) k0 (n9 P.length l) = l.flatMap (gE k0)
 | [], _, _, _ => rfl
 | x :: l, P, ht, hf => by
   have h1 := (ht x List.mem_cons_self).pos.1
   have e : P ++ (aw (x :: l) ++ B) = P ++ (x.1 ++ (aw l ++ B)) := by show P ++ ((x.1 ++ aw l) ++ B) = _; rw [List.append_assoc]
   have e2 : P ++ (aw (x :: l) ++ B) = (P ++ x.1) ++ (aw l ++ B) := by rw [e, List.append_assoc]
   have hx := hf x List.mem_cons_self P (aw l ++ B) e (Nat.le_refl _)
   have ih := As (f := f) (k0 := k0) (B := B) l (P ++ x.1) (fun y hy => ht y (List.mem_cons_of_mem _ hy)) fun y hy Q R hq hl => hf y (List.mem_cons_of_mem _ hy) Q R (by rw [e2, hq]) (by rw [List.length_append] at hl; omega)
   rw [List.length_append, ← e2] at ih
   show (if k0.toNat = 123 then [(⟨107, ((P ++ (aw (x :: l) ++ B)).getD P.length default).key, 0⟩ : cD)] else []) ++ (f P.length ++ fM f (P ++ (aw (x :: l) ++ B)) k0 (n9 (P.length + x.1.length) l)) = _
   rw [ih, hx, e, kE h1, List.flatMap_cons]
   unfold gE bo
   simp only [List.append_assoc]
theorem vr {d : Nat} {l : List It} {k0 : UInt8} {key : List UInt8} (h : ∀ x ∈ l, TT d x.1 x.2) (hk : k0.toNat = 123 ∨ k0.toNat = 91)
   (ih : ∀ x ∈ l, ∀ (A B : List Nd) (n : Nat), (A ++ (x.1 ++ B)).length - A.length ≤ n → cn (A ++ (x.1 ++ B)) n A.length = opsL x.1) (A B : List Nd) (n : Nat)
   (hn : (A ++ ((⟨k0, key, [], ((aw l).length : Int) + 1⟩ :: aw l) ++ B)).length - A.length ≤ n) :
   cn (A ++ ((⟨k0, key, [], ((aw l).length : Int) + 1⟩ :: aw l) ++ B)) n A.length = ⟨k0.toNat, [], 0⟩ :: (l.flatMap (gE k0) ++ [⟨101, [], 0⟩]) := by
 obtain ⟨n, rfl⟩ : ∃ m, n = m + 1 := ⟨n - 1, by simp only [List.length_append, List.length_cons] at hn; omega⟩
 have e : A ++ ((⟨k0, key, [], ((aw l).length : Int) + 1⟩ :: aw l) ++ B) = (A ++ [⟨k0, key, [], ((aw l).length : Int) + 1⟩]) ++ (aw l ++ B) := by simp
 rw [cn, uV h rfl, kE (by simp)]
 show (if k0.toNat ≠ 123 ∧ k0.toNat ≠ 91 then _ else (⟨k0.toNat, [], 0⟩ : cD) :: (fM _ _ k0 _ ++ _)) = _
 rw [if_neg (by omega)]
 have := As (f := cn (A ++ ((⟨k0, key, [], ((aw l).length : Int) + 1⟩ :: aw l) ++ B)) n) (k0 := k0) (B := B) l (A ++ [⟨k0, key, [], ((aw l).length : Int) + 1⟩]) h fun y hy Q R hq hl => by
  rw [e, hq]
  refine ih y hy Q R n ?_
  rw [← hq, ← e]
  simp only [List.length_append, List.length_cons, List.length_nil] at hn hl ⊢
  omega
 rw [List.length_append, List.length_singleton, ← e] at this
 rw [this]
theorem TT.ops {d : Nat} {L : List Nd} {x : List UInt8} (h : TT d L x) : ∀ (A B : List Nd) (n : Nat), (A ++ (L ++ B)).length - A.length ≤ n → cn (A ++ (L ++ B)) n A.length = opsL L := by
 have fin : ∀ {L : List Nd} {o : List cD}, (∀ (A B : List Nd) (n : Nat), (A ++ (L ++ B)).length - A.length ≤ n → cn (A ++ (L ++ B)) n A.length = o) → ∀ (A B : List Nd) (n : Nat), (A ++ (L ++ B)).length - A.length ≤ n → cn (A ++ (L ++ B)) n A.length = opsL L := fun {L o} h A B n hn => by
  have h0 := h [] [] L.length (by simp)
  simp only [List.nil_append, List.append_nil, List.length_nil] at h0
  rw [h A B n hn, ← h0]; rfl
 induction h with
 | leaf d k key t h hl =>
   refine fin (o := [⟨k.toNat, t, 0⟩]) fun A B n hn => ?_
   obtain ⟨n, rfl⟩ : ∃ m, n = m + 1 := ⟨n - 1, by simp only [List.length_append, List.length_singleton] at hn; omega⟩
   rw [cn, kE (by simp)]
   have : k.toNat = 115 ∨ k.toNat = 110 ∨ k.toNat = 116 ∨ k.toNat = 102 ∨ k.toNat = 122 := of_decide_eq_true hl
   show (if k.toNat ≠ 123 ∧ k.toNat ≠ 91 then _ else _) = _
   rw [if_pos (by omega)]; rfl
 | lst d key l h hk ih => exact fin fun A B n hn => vr h (.inr rfl) ih A B n hn
 | obj d key l h hk ht ih => exact fin fun A B n hn => vr h (.inl rfl) ih A B n hn
theorem se {d : Nat} {l : List It} {k0 : UInt8} {key : List UInt8} (h : ∀ x ∈ l, TT d x.1 x.2) (hk : k0.toNat = 123 ∨ k0.toNat = 91) : opsL (⟨k0, key, [], ((aw l).length : Int) + 1⟩ :: aw l) = ⟨k0.toNat, [], 0⟩ :: (l.flatMap (gE k0) ++ [⟨101, [], 0⟩]) := by
 have := vr (key := key) h hk (fun x hx => (h x hx).ops) [] [] ((⟨k0, key, [], ((aw l).length : Int) + 1⟩ :: aw l : List Nd)).length (by simp)
 simp only [List.nil_append, List.append_nil, List.length_nil] at this
 exact this
theorem zi {l : List It} {x : It} {z : Nd} (h : x ∈ l) (hz : z ∈ x.1) : z ∈ aw l := by
 induction l with
 | nil => cases h
 | cons y l ih =>
   show z ∈ y.1 ++ aw l
   rcases List.mem_cons.1 h with rfl | h
   . exact List.mem_append.2 (.inl hz)
   . exact List.mem_append.2 (.inr (ih h))
structure Pos (w : WS) : Prop where
 m : w.may.2 = true
 wh : w.may.1.whole = true
 c : w.may.1.code = 0
 z : w.code = 0
theorem sl {w : WS} (h : Pos w) (x : List UInt8) : w.put x = ⟨w.may.1.out ++ x, w.may.1.l, true, 0⟩ := by
 unfold WS.put
 rw [if_pos h.m]
 have h1 := h.wh
 have h2 := h.c
 generalize w.may.1 = v at *
 obtain ⟨a, b, c, e⟩ := v
 dsimp only at h1 h2
 rw [h1, h2]
def qd (L : List Nd) : Prop := ∀ z ∈ L, z.k.toNat ≠ 110
def tI (d : Nat) (o : List cD) (x : List UInt8) : Prop := ∀ w : WS, Pos w → w.l.length + d ≤ 32 → o.foldl WS.op w = w.put x
theorem BX {d : Nat} : ∀ (l : List It), (∀ x ∈ l, tI d (opsL x.1) x.2) → ∀ (i : Nat) (out : List UInt8) (p : List Fr), p.length + 1 + d ≤ 32 →
   ∃ b, (l.flatMap (gE 91)).foldl WS.op ⟨out, p ++ [⟨91 + 2, decide (i ≠ 0), false⟩], true, 0⟩ = ⟨out ++ aU cH l i, p ++ [⟨91 + 2, b, false⟩], true, 0⟩
 | [], _, i, out, p, _ => ⟨decide (i ≠ 0), by show _ = (⟨out ++ [], _, _, _⟩ : WS); rw [List.append_nil]; rfl⟩
 | x :: l, h, i, out, p, hp => by
   obtain ⟨b, ih⟩ := BX l (fun y hy => h y (List.mem_cons_of_mem _ hy)) (i + 1) ((if decide (i ≠ 0) = true then out ++ [44] else out) ++ x.2) p hp
   refine ⟨b, ?_⟩
   have hm := IZ out p (decide (i ≠ 0)) false
   have hw : Pos ⟨out, p ++ [⟨91 + 2, decide (i ≠ 0), false⟩], true, 0⟩ := ⟨by rw [hm], by rw [hm], by rw [hm], rfl⟩
   have hr := h x List.mem_cons_self _ hw (by show (p ++ [_]).length + d ≤ 32; rw [List.length_append]; exact hp)
   rw [List.flatMap_cons, List.foldl_append]
   rw [show gE 91 x = opsL x.1 by unfold gE; rw [if_neg (by decide)]; rfl, hr, sl hw, hm]
   rw [show decide (i + 1 ≠ 0) = true from decide_eq_true (by omega)] at ih
   rw [ih]
   show (⟨(_ ++ x.2) ++ aU cH l (i + 1), _, _, _⟩ : WS) = ⟨out ++ ((if i = 0 then [] else [44]) ++ (x.2 ++ aU cH l (i + 1))), _, _, _⟩
   congr 1
   by_cases q : i = 0
   . rw [if_pos q, if_neg (by simp [q])]; simp
   . rw [if_neg q, if_pos (by simp [q])]; simp
theorem BY {d : Nat} : ∀ (l : List It), (∀ x ∈ l, tI d (opsL x.1) x.2) → ∀ (i : Nat) (out : List UInt8) (p : List Fr), p.length + 1 + d ≤ 32 →
   ∃ b, (l.flatMap (gE 123)).foldl WS.op ⟨out, p ++ [⟨123 + 2, decide (i ≠ 0), false⟩], true, 0⟩ = ⟨out ++ aU bC l i, p ++ [⟨123 + 2, b, false⟩], true, 0⟩
 | [], _, i, out, p, _ => ⟨decide (i ≠ 0), by show _ = (⟨out ++ [], _, _, _⟩ : WS); rw [List.append_nil]; rfl⟩
 | x :: l, h, i, out, p, hp => by
   obtain ⟨b, ih⟩ := BY l (fun y hy => h y (List.mem_cons_of_mem _ hy)) (i + 1) ((if decide (i ≠ 0) = true then out ++ [44] else out) ++ (quote (bo x) ++ [58]) ++ x.2) p hp
   refine ⟨b, ?_⟩
   have hm := J0 ((if decide (i ≠ 0) = true then out ++ [44] else out) ++ (quote (bo x) ++ [58])) p true
   have hw : Pos ⟨(if decide (i ≠ 0) = true then out ++ [44] else out) ++ (quote (bo x) ++ [58]), p ++ [⟨123 + 2, true, true⟩], true, 0⟩ := ⟨by rw [hm], by rw [hm], by rw [hm], rfl⟩
   have hr := h x List.mem_cons_self _ hw (by show (p ++ [_]).length + d ≤ 32; rw [List.length_append]; exact hp)
   rw [List.flatMap_cons, List.foldl_append]
   rw [show gE 123 x = ⟨107, bo x, 0⟩ :: opsL x.1 by unfold gE; rw [if_pos (by decide)]; rfl, List.foldl_cons]
   rw [show WS.op ⟨out, p ++ [⟨123 + 2, decide (i ≠ 0), false⟩], true, 0⟩ ⟨107, bo x, 0⟩ = WS.key ⟨out, p ++ [⟨123 + 2, decide (i ≠ 0), false⟩], true, 0⟩ (bo x) from rfl, Im, hr, sl hw, hm]
   rw [show decide (i + 1 ≠ 0) = true from decide_eq_true (by omega)] at ih
   rw [ih]
   show (⟨(_ ++ x.2) ++ aU bC l (i + 1), _, _, _⟩ : WS) = ⟨out ++ ((if i = 0 then [] else [44]) ++ ((quote (bo x) ++ ([58] ++ x.2)) ++ aU bC l (i + 1))), _, _, _⟩
   congr 1
   by_cases q : i = 0
   . rw [if_pos q, if_neg (by simp [q])]; simp
   . rw [if_neg q, if_pos (by simp [q])]; simp
theorem BW {d : Nat} {l : List It} {a : UInt8} {y : List UInt8} {b : Bool} {w : WS} (h : Pos w) (hd : w.l.length + (d + 1) ≤ 32)
   (hr : (l.flatMap (gE a)).foldl WS.op ⟨w.may.1.out ++ [a], w.may.1.l ++ [⟨a + 2, false, false⟩], true, 0⟩ = ⟨(w.may.1.out ++ [a]) ++ y, w.may.1.l ++ [⟨a + 2, b, false⟩], true, 0⟩)
   (hb : WS.op w ⟨a.toNat, [], 0⟩ = w.begin a (a + 2)) : (⟨a.toNat, [], 0⟩ :: (l.flatMap (gE a) ++ [⟨101, [], 0⟩]) : List cD).foldl WS.op w = w.put (a :: (y ++ [a + 2])) := by
 have e : w.begin a (a + 2) = ⟨w.may.1.out ++ [a], w.may.1.l ++ [⟨a + 2, false, false⟩], true, 0⟩ := by
  unfold WS.begin
  rw [if_neg (by rw [h.z]; decide), if_neg (by omega), if_pos h.m]
  show (⟨_, _, w.may.1.whole, w.may.1.code⟩ : WS) = _
  rw [h.wh, h.c]
 rw [List.foldl_cons, hb, e, List.foldl_append, hr, sl h]
 rw [List.foldl_cons, List.foldl_nil]
 rw [show ∀ v : WS, WS.op v ⟨101, [], 0⟩ = v.fin from fun v => rfl, GO]
 simp
theorem TT.runs {d : Nat} {L : List Nd} {x : List UInt8} (h : TT d L x) : qd L → tI d (opsL L) x := by
 induction h with
 | leaf d k key t h hl =>
   intro hn w hw hd
   have k0 : k.toNat = 115 ∨ k.toNat = 110 ∨ k.toNat = 116 ∨ k.toNat = 102 ∨ k.toNat = 122 := of_decide_eq_true hl
   have k1 := hn _ List.mem_cons_self
   dsimp only at k1
   have e : opsL [⟨k, key, t, 1⟩] = [⟨k.toNat, t, 0⟩] := by
    show (if k.toNat ≠ 123 ∧ k.toNat ≠ 91 then _ else _) = _
    rw [if_pos (by omega)]; rfl
   rw [e]
   show WS.op w ⟨k.toNat, t, 0⟩ = _
   rcases k0 with q | q | q | q | q
   . obtain rfl : k = 115 := UInt8.toNat_inj.1 q
     rfl
   . exact absurd q k1
   . obtain rfl : k = 116 := UInt8.toNat_inj.1 q
     rfl
   . obtain rfl : k = 102 := UInt8.toNat_inj.1 q
     rfl
   . obtain rfl : k = 122 := UInt8.toNat_inj.1 q
     rfl
 | lst d key l h hk ih =>
   intro hn w hw hd
   rw [se h (.inr rfl)]
   obtain ⟨b, hb⟩ := BX l (fun y hy => ih y hy fun z hz => hn z (List.mem_cons_of_mem _ (zi hy hz))) 0 (w.may.1.out ++ [91]) w.may.1.l (by rw [(fA w).2]; omega)
   exact BW hw hd hb rfl
 | obj d key l h hk ht ih =>
   intro hn w hw hd
   rw [se h (.inl rfl)]
   obtain ⟨b, hb⟩ := BY l (fun y hy => ih y hy fun z hz => hn z (List.mem_cons_of_mem _ (zi hy hz))) 0 (w.may.1.out ++ [123]) w.may.1.l (by rw [(fA w).2]; omega)
   exact BW hw hd hb rfl
theorem LD {L : List Nd} {x : List UInt8} (h : TT 32 L x) (hn : qd L) : (opsL L).foldl WS.op .new = ⟨x, [], true, 0⟩ := by
 have hw : Pos .new := ⟨rfl, rfl, rfl, rfl⟩
 rw [h.runs hn .new hw (Nat.le_refl _), sl hw]; rfl
theorem LC {L : List Nd} {x : List UInt8} (h : TT 32 L x) (hn : qd L) : (wA (opsL L) (opsL L).length).done = (x, 0) := by
 unfold wA
 rw [List.take_length, LD h hn]; rfl
end Go.Proofs.YtllncocibkgjkaaGreat
