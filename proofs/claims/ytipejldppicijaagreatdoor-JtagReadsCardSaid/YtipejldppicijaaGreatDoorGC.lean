/-
  A part of the proof.
-/
import Derived.Test.YtipejldppicijaaGreatDoorGA
import Derived.Test.YtipejldppicijaaGreatDoorCVf
set_option linter.unusedSimpArgs false
set_option linter.unusedVariables false
set_option maxHeartbeats 4000000
namespace Go.Proofs.YtipejldppicijaaGreatDoor
open Go Go.VG
set_option maxRecDepth 100000
theorem xL {s : List UInt8} {a : Nat} : ∀ j i, cr s a j i ≠ 0 → i < cr s a j i
 | 0, _, h => absurd rfl h
 | j + 1, i, h => by
   rw [cr] at h ⊢
   repeat' split at h
   . rw [if_pos (by assumption), if_pos (by assumption)]; omega
   . rw [if_pos (by assumption), if_neg (by assumption)]
     have := xL j (i + 1) h; omega
   . exact absurd rfl h
theorem xM {s x : List UInt8} {a m : Nat} (hx : ∀ k, k < m → x.getD k 0 = s.getD (a + k) 0) (hm : m ≤ x.length) : ∀ j i, cr s a j i ≠ 0 → cr s a j i ≤ m → cr x 0 j i = cr s a j i
 | 0, _, h, _ => absurd rfl h
 | j + 1, i, h, hl => by
   have hg := xL _ _ h
   have hl0 := hl
   rw [cr] at h hl ⊢
   rw [cr, if_pos (show 0 + i < x.length by omega), Nat.zero_add, hx i (by omega)]
   by_cases h1 : a + i < s.length
   . rw [if_pos h1] at h hl ⊢
     by_cases q : (s.getD (a + i) 0).toNat < 128
     . rw [if_pos q, if_pos q]
     . rw [if_neg q] at h hl ⊢
       rw [if_neg q]
       exact xM hx hm j (i + 1) h hl
   . rw [if_neg h1] at h; exact absurd rfl h
theorem zV {s x : List UInt8} {a m : Nat} (hx : ∀ k, k < m → x.getD k 0 = s.getD (a + k) 0) : ∀ n, n ≤ m → cY x 0 n = cY s a n
 | 0, _ => rfl
 | n + 1, h => by rw [cY, cY, zV hx n (by omega), Nat.zero_add, hx n (by omega)]
theorem Aq {s : List UInt8} {p q k : Nat} (hq : q ≤ s.length) (hk : k < q - p) : ((s.take q).drop p).getD k 0 = s.getD (p + k) 0 := by
 rw [List.getD_eq_getElem?_getD, List.getD_eq_getElem?_getD, List.getElem?_drop, List.getElem?_take, if_pos (by omega)]
theorem vG {c : Cu} (hc : c.c = 0) (hok : c.ok) (he : c.e = c.s.length) (h : c.aD.2.c = 0) : c.aD.2.p ≤ c.s.length ∧ c.p ≤ c.aD.2.p ∧
   ∀ q, c.aD.2.p ≤ q → q ≤ c.s.length → (Cu.new ((c.s.take q).drop c.p)).aD = (c.aD.1, ⟨(c.s.take q).drop c.p, c.aD.2.p - c.p, q - c.p, 0⟩) := by
 have hl := zO (s := c.s) (p := c.p) (by have := hok.1; omega)
 rw [rK hc hok he] at h ⊢
 by_cases h1 : c.p + 10 ≤ c.e ∧ (bV c.s c.p = 0 ∨ bV c.s c.p = 10) ∧ (c.s.getD (c.p + 9) 0).toNat > 1
 . rw [if_pos h1] at h; cases h
 rw [if_neg h1] at h ⊢
 by_cases h2 : bV c.s c.p = 0
 . rw [if_pos h2] at h; cases h
 rw [if_neg h2] at h ⊢
 refine ⟨hl.2, Nat.le_add_right _ _, fun q q1 q2 => ?_⟩
 have q1 : c.p + bV c.s c.p ≤ q := q1
 have hx : ∀ k, k < q - c.p → ((c.s.take q).drop c.p).getD k 0 = c.s.getD (c.p + k) 0 := fun k hk => Aq q2 hk
 have hxl : ((c.s.take q).drop c.p).length = q - c.p := by rw [List.length_drop, List.length_take]; omega
 generalize (c.s.take q).drop c.p = x at *
 have hv : bV x 0 = bV c.s c.p := xM hx (by omega) 10 0 h2 (by show bV c.s c.p ≤ _; omega)
 have hs := zV hx (bV c.s c.p) (by omega)
 rw [rK (c := Cu.new x) rfl ⟨Nat.zero_le _, Nat.le_refl _⟩ rfl]
 show (if 0 + 10 ≤ x.length ∧ (bV x 0 = 0 ∨ bV x 0 = 10) ∧ (x.getD (0 + 9) 0).toNat > 1 then _ else if bV x 0 = 0 then _ else (cY x 0 (bV x 0), (⟨x, 0 + bV x 0, x.length, 0⟩ : Cu))) = _
 rw [hv, if_neg (fun g => ?_), if_neg h2, hs, hxl, Nat.zero_add, Nat.add_sub_cancel_left]
 refine h1 ⟨by omega, g.2.1, ?_⟩
 rw [← hx 9 (by omega)]; exact g.2.2
def cw (id k : Int) (x : List UInt8) : Fd :=
 if k = 1 then ⟨id, k, 1, 0, [], []⟩ else if k = 3 then ⟨id, k, lq (x.getD 0 0).toNat, 0, [], []⟩ else if k = 4 ∨ k = 5 ∨ k = 6 then ⟨id, k, db (Cu.new x).aD.1, 0, [], []⟩
 else if k = 7 then ⟨id, k, 0, eR x, [], []⟩ else if k = 8 then ⟨id, k, 0, 0, x.drop (Cu.new x).aD.2.p, []⟩ else if k ≥ 9 then ⟨id, k, 0, 0, [], x⟩ else ⟨id, k, 0, 0, [], []⟩
def cO (k n : Int) : Int := if k = 4 then b7 n 16 else if k = 5 then b7 n 32 else if k = 6 then b7 n 64 else 0
def cH (d : Nat) (k : Int) (c : Cu) : List UInt8 := (c.s.take (aE d k c).p).drop c.p
structure VA (d : Nat) (id k : Int) (c : Cu) : Prop where
 bad : (aE d k c).c ≠ 0 → (bO d ⟨id, k, 0, 0, [], []⟩ c).2.c = (aE d k c).c
 big : (aE d k c).c = 0 → cO k (cw id k (cH d k c)).num ≠ 0 → (bO d ⟨id, k, 0, 0, [], []⟩ c).2.c = 4
 fine : (aE d k c).c = 0 → cO k (cw id k (cH d k c)).num = 0 → bO d ⟨id, k, 0, 0, [], []⟩ c = (cw id k (cH d k c), aE d k c)
 one : (aE d k c).c = 0 → k = 3 → cH d k c ≠ []
 eight : (aE d k c).c = 0 → k = 7 → (cH d k c).length ≤ 8
theorem nZ {c : Cu} {n : Int} (hok : c.ok) (hc : c.c = 0) (hn : 0 ≤ n) (h : (c.pass n).c = 0) : c.p + n.toNat ≤ c.e ∧ c.pass n = ⟨c.s, c.p + n.toNat, c.e, 0⟩ ∧ c.bK n = (c.s.take (c.p + n.toNat)).drop c.p := by
 have h1 := hok.1
 obtain ⟨w1, w2, w3⟩ := zZ (c := c) (n := n) h
 refine ⟨by omega, w2, ?_⟩
 rw [w3, List.drop_take, Nat.add_sub_cancel_left]
theorem DT (k n b : Int) (h : b7 n b ≠ 0) : b7 n b = 4 := by have := wm n b; omega
theorem pr {c : Cu} (h : c.c = 0) (k : Int) : (c.fail k).c = k := by unfold Cu.fail; rw [if_pos h]
theorem uy {d : Nat} {id k b : Int} {c : Cu} (hc : c.c = 0) (hok : c.ok) (he : c.e = c.s.length) (hs : aE d k c = c.av.2)
   (hv : bO d ⟨id, k, 0, 0, [], []⟩ c = (⟨id, k, (c.cU b).1, 0, [], []⟩, (c.cU b).2)) (hf : ∀ n, cO k n = b7 n b) (ho : ∀ x, cw id k x = ⟨id, k, db (Cu.new x).aD.1, 0, [], []⟩) (h3 : k ≠ 3) (h7 : k ≠ 7) : VA d id k c := by
 have key : c.av.2.c = 0 → (cw id k (cH d k c)).num = db c.av.1 := fun q => by
  have hd := nc q
  have h := vG hc hok he (by rw [kx]; exact q)
  rw [hd] at h
  rw [ho]
  show db (Cu.new (cH d k c)).aD.1 = _
  unfold cH
  rw [hs, h.2.2 _ (Nat.le_refl _) h.1]
 refine ⟨fun q => ?_, fun q g => ?_, fun q g => ?_, fun _ q => absurd q h3, fun _ q => absurd q h7⟩
 . rw [hs] at q ⊢
   rw [hv]; unfold Cu.cU; rw [if_pos q]
 . rw [hs] at q
   rw [hf, key q] at g
   rw [hv]; unfold Cu.cU
   rw [if_neg (fun z => z q), if_pos g]
   exact pr q 4
 . rw [hs] at q ⊢
   have kk := key q
   rw [hf, kk] at g
   have e : cw id k (cH d k c) = ⟨id, k, db c.av.1, 0, [], []⟩ := by
    rw [← kk]; rw [ho]
   rw [hv, e]; unfold Cu.cU
   rw [if_neg (fun z => z q), if_neg (fun z => z g)]
theorem va {d : Nat} {id k : Int} {c : Cu} (hc : c.c = 0) (hok : c.ok) (he : c.e = c.s.length) (hk : 1 ≤ k ∧ k ≤ 12) : VA d id k c := by
 have h1 := hok.1
 by_cases h9 : 9 ≤ k
 . have hv : bO d ⟨id, k, 0, 0, [], []⟩ c = (⟨id, k, 0, 0, [], j5 d k c⟩, aE d k c) := by
     unfold bO
     dsimp only
     rw [if_neg (by omega), if_neg (by omega), if_neg (by omega), if_neg (by omega), if_neg (by omega), if_neg (by omega), if_neg (by omega), if_neg (by omega)]
   have ho : ∀ x, cw id k x = ⟨id, k, 0, 0, [], x⟩ := fun x => by
    unfold cw
    rw [if_neg (by omega), if_neg (by omega), if_neg (by omega), if_neg (by omega), if_neg (by omega), if_pos (by omega)]
   refine ⟨fun _ => by rw [hv], fun _ g => ?_, fun q _ => ?_, fun _ q => by omega, fun _ q => by omega⟩
   . unfold cO at g
     rw [if_neg (by omega), if_neg (by omega), if_neg (by omega)] at g
     exact absurd rfl g
   . rw [hv, ho]; unfold j5 cH
     rw [if_neg (fun z => z q)]
 have hs : aE d k c = ik k c := Hl (by omega)
 rcases (by omega : k = 1 ∨ k = 2 ∨ k = 3 ∨ k = 4 ∨ k = 5 ∨ k = 6 ∨ k = 7 ∨ k = 8) with rfl | rfl | rfl | rfl | rfl | rfl | rfl | rfl
 . exact ⟨fun _ => by rw [hs]; rfl, fun _ g => absurd rfl g, fun _ _ => by rw [hs]; rfl, fun _ q => (by cases q), fun _ q => by cases q⟩
 . exact ⟨fun _ => by rw [hs]; rfl, fun _ g => absurd rfl g, fun _ _ => by rw [hs]; rfl, fun _ q => (by cases q), fun _ q => by cases q⟩
 . have hs : aE d 3 c = c.byte := hs
   have key : c.byte.c = 0 → cH d 3 c = [c.ao] := fun q => by
    obtain ⟨p1, p2, p3⟩ := nZ (n := 1) hok hc (by decide) q
    unfold cH
    rw [hs]
    show (c.s.take (c.pass 1).p).drop c.p = _
    rw [p2]
    show (c.s.take (c.p + 1)).drop c.p = _
    have p1 : c.p + 1 ≤ c.e := p1
    rw [cut1 0 (by omega)]
    unfold Cu.ao
    rw [if_pos ⟨hc, by omega⟩]; rfl
   refine ⟨fun _ => by rw [hs]; rfl, fun _ g => absurd rfl g, fun q _ => ?_, fun q _ => ?_, fun _ q => by cases q⟩
   . rw [hs] at q ⊢
     rw [key q]; rfl
   . rw [hs] at q
     rw [key q]; exact List.cons_ne_nil _ _
 . exact uy (b := 16) hc hok he hs rfl (fun _ => rfl) (fun _ => rfl) (by decide) (by decide)
 . exact uy (b := 32) hc hok he hs rfl (fun _ => rfl) (fun _ => rfl) (by decide) (by decide)
 . exact uy (b := 64) hc hok he hs rfl (fun _ => rfl) (fun _ => rfl) (by decide) (by decide)
 . have hs : aE d 7 c = c.pass 8 := hs
   have key : (c.pass 8).c = 0 → cH d 7 c = c.bK 8 := fun q => by
    obtain ⟨p1, p2, p3⟩ := nZ (n := 8) hok hc (by decide) q
    unfold cH
    rw [hs, p3, p2]
   refine ⟨fun _ => by rw [hs]; rfl, fun _ g => absurd rfl g, fun q _ => ?_, fun _ q => (by cases q), fun q _ => ?_⟩
   . rw [hs] at q ⊢
     rw [key q]; rfl
   . rw [hs] at q
     rw [key q]; exact ur c
 . have hs : aE d 8 c = c.text.2 := hs
   have key : c.text.2.c = 0 → cw id 8 (cH d 8 c) = ⟨id, 8, 0, 0, c.text.1, []⟩ := fun q => by
    have hv := lp hok
    have q2 := q
    unfold Cu.text at q2
    dsimp only at q2
    by_cases g : c.av.2.c = 0 ∧ (c.av.1 : Int) > c.av.2.left
    . rw [if_pos g, pr g.1] at q2; cases q2
    rw [if_neg g] at q2
    have v0 : c.av.2.c = 0 := Decidable.byContradiction fun z => by rw [l4 z] at q2; exact z q2
    obtain ⟨p1, p2, p3⟩ := nZ (n := c.av.1) hv.1 v0 (by omega) q2
    have hd := nc v0
    have h := vG hc hok he (by rw [kx]; exact v0)
    rw [hd] at h
    have e2 : c.text = ((c.s.take (c.av.2.p + c.av.1)).drop c.av.2.p, ⟨c.s, c.av.2.p + c.av.1, c.e, 0⟩) := by
     unfold Cu.text
     dsimp only
     rw [if_neg g, p2, p3, hv.2.1, hv.2.2]; rfl
    have p1 : c.av.2.p + c.av.1 ≤ c.av.2.e := p1
    rw [hv.2.2] at p1
    have hc2 : cH d 8 c = (c.s.take (c.av.2.p + c.av.1)).drop c.p := by unfold cH; rw [hs, e2]
    show (⟨id, 8, 0, 0, (cH d 8 c).drop (Cu.new (cH d 8 c)).aD.2.p, []⟩ : Fd) = _
    rw [hc2, h.2.2 _ (by omega) (by omega), e2]
    dsimp only
    rw [List.drop_drop, show c.p + (c.av.2.p - c.p) = c.av.2.p by omega]
   refine ⟨fun _ => by rw [hs]; rfl, fun _ g => absurd rfl g, fun q _ => ?_, fun _ q => (by cases q), fun _ q => by cases q⟩
   rw [hs] at q ⊢
   rw [key q]; rfl
end Go.Proofs.YtipejldppicijaaGreatDoor
