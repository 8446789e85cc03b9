/-
  Going past values: as functions; what was written is gone past (plain law).
-/
import Derived.Test.YtcgjkjabcdeagaaDoorCVa
set_option linter.unusedSimpArgs false
set_option linter.unusedVariables false
set_option maxHeartbeats 4000000
namespace Go.Proofs.YtcgjkjabcdeagaaDoor
open Go Go.VG
set_option maxRecDepth 100000
/-- how many things there are -/
def Cu.csize (c : Cu) : Int × Cu :=
  if c.vread.2.c = 0 then if c.vread.1 > 2147483647 then (0, c.vread.2.fail 4) else ((c.vread.1 : Int), c.vread.2) else (0, c.vread.2)
/-- a list's head -/
def Cu.lhd (c : Cu) : (Int × Int) × Cu :=
  if c.byte.c ≠ 0 then ((0, 0), c.byte)
  else if isK (Go.VG.byte ((c.byteV.toNat % 16 : Nat) : Int)) = true then
    if c.byteV.toNat / 16 = 15 then if c.byte.csize.2.c ≠ 0 then ((0, 0), c.byte.csize.2) else ((c.byte.csize.1, ((c.byteV.toNat % 16 : Nat) : Int)), c.byte.csize.2)
    else ((((c.byteV.toNat / 16 : Nat) : Int), ((c.byteV.toNat % 16 : Nat) : Int)), c.byte)
  else ((0, 0), c.byte.fail 7)
/-- a map's head -/
def Cu.mhd (c : Cu) : (Int × Int × Int) × Cu :=
  if c.csize.1 = 0 then ((0, 0, 0), c.csize.2)
  else if c.csize.2.byte.c ≠ 0 then ((0, 0, 0), c.csize.2.byte)
  else if isK (Go.VG.byte ((c.csize.2.byteV.toNat / 16 : Nat) : Int)) = true ∧ isK (Go.VG.byte ((c.csize.2.byteV.toNat % 16 : Nat) : Int)) = true then ((c.csize.1, ((c.csize.2.byteV.toNat / 16 : Nat) : Int), ((c.csize.2.byteV.toNat % 16 : Nat) : Int)), c.csize.2.byte)
  else ((0, 0, 0), c.csize.2.byte.fail 7)
abbrev SF : Type := Int → Cu → Cu
def skI (v : SF) (k : Int) (c : Cu) : Cu := if sameK (byte k) (byte 1) = true then (if c.byteV.toNat > 2 then c.byte.fail 3 else c.byte) else v k c
def skN (f : Cu → Cu) : Nat → Cu → Cu
  | 0, c => c
  | n + 1, c => if c.c ≠ 0 then c else skN f n (f c)
def skList (v : SF) (c : Cu) : Cu := skN (skI v c.lhd.1.2) c.lhd.1.1.toNat c.lhd.2
def skMap (v : SF) (c : Cu) : Cu := skN (fun x => skI v c.mhd.1.2.2 (skI v c.mhd.1.2.1 x)) c.mhd.1.1.toNat c.mhd.2
def skFs (v : SF) : Nat → Cu → Int → Cu
  | 0, c, _ => c
  | n + 1, c, last => if c.c ≠ 0 then c else if (c.fld last).1.2 = 0 then (c.fld last).2 else skFs v n (v (c.fld last).1.2 (c.fld last).2) (c.fld last).1.1
def skFields (v : SF) (c : Cu) : Cu := skFs v (c.e - c.p + 1) c 0
def skLeaf (k : Int) (c : Cu) : Cu :=
  if k = 1 ∨ k = 2 then c else if k = 3 then c.byte else if k = 4 ∨ k = 5 ∨ k = 6 then c.vread.2 else if k = 7 then c.pass 8 else if k = 8 then c.text.2 else c.fail 7
/-- a value, with room for so many within one another -/
def skV : Nat → SF
  | 0, k, c => if k = 9 ∨ k = 10 ∨ k = 11 ∨ k = 12 then c.fail 33 else skLeaf k c
  | d + 1, k, c => if k = 9 ∨ k = 10 then skList (skV d) c else if k = 11 then skMap (skV d) c else if k = 12 then skFields (skV d) c else skLeaf k c
theorem skV_leaf {d : Nat} {k : Int} {c : Cu} (h : ¬ (k = 9 ∨ k = 10 ∨ k = 11 ∨ k = 12)) : skV d k c = skLeaf k c := by
  cases d with
  | zero => rw [skV, if_neg h]
  | succ d => rw [skV, if_neg (by omega), if_neg (by omega), if_neg (by omega)]
theorem lhd_put {s : List UInt8} {n p : Nat} {k : Int} (hk : kR k) (hn : n ≤ 2147483647) (hr : Rd s (plist n (byte k)) p) : (cu s p).lhd = (((n : Int), k), cu s (p + (plist n (byte k)).length)) := by
  have hkn : ((byte k).toNat : Int) = k := byte_toNat (by unfold kR at hk; omega)
  unfold kR at hk
  unfold plist at hr ⊢
  rw [if_neg (by omega)] at hr ⊢
  have hb : ∀ z : Int, z = k → isK (byte z) = true := fun z hz => isK_t.2 (by rw [hz]; omega)
  by_cases c : (n : Int) < 15
  · rw [if_pos c] at hr ⊢
    obtain ⟨b1, b2⟩ := cu_byte hr
    have e : ((byte (16 * (n : Int) + ↑(byte k).toNat)).toNat : Int) = 16 * n + k := by rw [byte_toNat (by omega), hkn]
    unfold Cu.lhd
    rw [b1, b2, if_neg (show ¬ (cu s (p + 1)).c ≠ 0 from fun h => h rfl), if_pos (hb _ (by omega)), if_neg (by omega)]
    refine Prod.ext (Prod.ext ?_ ?_) rfl
    · show (((byte (16 * (n : Int) + ↑(byte k).toNat)).toNat / 16 : Nat) : Int) = n; omega
    · show (((byte (16 * (n : Int) + ↑(byte k).toNat)).toNat % 16 : Nat) : Int) = k; omega
  · rw [if_neg c] at hr ⊢
    obtain ⟨b1, b2⟩ := cu_byte hr
    have e : ((byte (240 + ↑(byte k).toNat)).toNat : Int) = 240 + k := by rw [byte_toNat (by omega), hkn]
    have hv := vread_put (v := (n : Int).toNat) (by omega) hr.cons.2.2
    have hs : (cu s (p + 1)).csize = ((n : Int), cu s (p + 1 + (vput (n : Int).toNat).length)) := by
      unfold Cu.csize
      rw [hv]
      dsimp only
      rw [if_pos (show (cu s _).c = 0 from rfl), if_neg (by omega)]
      rfl
    unfold Cu.lhd
    rw [b1, b2, if_neg (show ¬ (cu s (p + 1)).c ≠ 0 from fun h => h rfl), if_pos (hb _ (by omega)), if_pos (by omega), hs]
    dsimp only
    rw [if_neg (show ¬ (cu s _).c ≠ 0 from fun h => h rfl), List.length_cons, show p + 1 + (vput (n : Int).toNat).length = p + ((vput (n : Int).toNat).length + 1) by omega]
    refine Prod.ext (Prod.ext rfl ?_) rfl
    show (((byte (240 + ↑(byte k).toNat)).toNat % 16 : Nat) : Int) = k; omega
theorem skN_put {s : List UInt8} {f : Cu → Cu} : ∀ (l : List (List UInt8)) (p : Nat), (∀ x ∈ l, ∀ q, Rd s x q → f (cu s q) = cu s (q + x.length)) → Rd s l.flatten p → skN f l.length (cu s p) = cu s (p + l.flatten.length)
  | [], p, _, _ => rfl
  | x :: l, p, h, hr => by
    rw [List.flatten_cons] at hr ⊢
    obtain ⟨r1, r2⟩ := hr.app
    rw [List.length_cons, skN, if_neg (show ¬ (cu s p).c ≠ 0 from fun h => h rfl), h x List.mem_cons_self p r1, skN_put l _ (fun y hy => h y (List.mem_cons_of_mem _ hy)) r2, List.length_append, Nat.add_assoc]
theorem skFs_put {s : List UInt8} {v : SF} : ∀ (l : List Fw) (a : Int) (p n : Nat), (∀ f ∈ l, inR f.id ∧ kR f.k) → (∀ f ∈ l, ∀ q, Rd s f.x q → v f.k (cu s q) = cu s (q + f.x.length)) → l.length < n → Rd s (fdB a l ++ [0]) p → skFs v n (cu s p) a = cu s (p + (fdB a l ++ [0]).length)
  | l, a, p, 0, _, _, h, _ => absurd h (Nat.not_lt_zero _)
  | [], a, p, n + 1, _, _, _, hr => by
    rw [skFs, if_neg (show ¬ (cu s p).c ≠ 0 from fun h => h rfl), fld_stop hr, if_pos rfl]; rfl
  | f :: l, a, p, n + 1, h1, h2, hn, hr => by
    have e : fdB a (f :: l) ++ [0] = pfield a f.id (byte f.k) ++ (f.x ++ (fdB f.id l ++ [0])) := by
      show (pfield a f.id (byte f.k) ++ (f.x ++ fdB f.id l)) ++ [0] = _
      simp only [List.append_assoc]
    rw [e] at hr ⊢
    obtain ⟨r1, r2⟩ := hr.app
    obtain ⟨r2, r3⟩ := r2.app
    obtain ⟨i1, i2⟩ := h1 f List.mem_cons_self
    have i3 := i2
    unfold kR at i3
    rw [skFs, if_neg (show ¬ (cu s p).c ≠ 0 from fun h => h rfl), fld_put i2 i1 r1]
    dsimp only
    rw [if_neg (by omega), h2 f List.mem_cons_self _ r2, skFs_put l f.id _ n (fun y hy => h1 y (List.mem_cons_of_mem _ hy)) (fun y hy => h2 y (List.mem_cons_of_mem _ hy)) (by simp at hn; omega) r3]
    refine congrArg (cu s) ?_
    simp only [List.length_append]; omega
theorem fdB_len : ∀ (l : List Fw) (a : Int), (∀ f ∈ l, inR f.id ∧ kR f.k) → l.length ≤ (fdB a l).length
  | [], _, _ => Nat.zero_le _
  | f :: l, a, h => by
    obtain ⟨i1, i2⟩ := h f List.mem_cons_self
    have h1 := pfield_pos (last := a) i2 i1
    have h2 := fdB_len l f.id fun y hy => h y (List.mem_cons_of_mem _ hy)
    show l.length + 1 ≤ (pfield a f.id (byte f.k) ++ (f.x ++ fdB f.id l)).length
    rw [List.length_append, List.length_append]; omega
/-- a value that was written is gone past -/
theorem VT.skip {d : Nat} {k : Int} {x : List UInt8} (h : VT d k x) : ∀ (s : List UInt8) (p : Nat), Rd s x p → skV d k (cu s p) = cu s (p + x.length) := by
  induction h with
  | no d k h =>
    intro s p hr
    unfold tru at h
    rw [skV_leaf (by omega), skLeaf, if_pos h]; rfl
  | one d b =>
    intro s p hr
    rw [skV_leaf (by omega), skLeaf, if_neg (by omega), if_pos rfl]
    exact (cu_byte hr).1
  | num d k n h hf hn =>
    intro s p hr
    rw [skV_leaf (by omega), skLeaf, if_neg (by omega), if_neg (by omega), if_pos h, vread_put (by have := zigN_lt hn; omega) hr]
  | dbl d u h =>
    intro s p hr
    rw [skV_leaf (by omega), skLeaf, if_neg (by omega), if_neg (by omega), if_neg (by omega), if_pos rfl]
    exact (cu_take hr (by rw [low_length]; rfl)).2
  | txt d t h =>
    intro s p hr
    rw [skV_leaf (by omega), skLeaf, if_neg (by omega), if_neg (by omega), if_neg (by omega), if_neg (by omega), if_pos rfl, text_put (by omega) hr]
  | lst d k l hk hn h ht ih =>
    intro s p hr
    obtain ⟨r1, r2⟩ := hr.app
    rw [skV, if_pos (.inl rfl)]
    unfold skList
    rw [lhd_put hk hn r1]
    dsimp only
    rw [Int.toNat_natCast, skN_put l _ (fun y hy q hq => ?_) r2, List.length_append, Nat.add_assoc]
    unfold skI
    have hkn : ((byte k).toNat : Int) = k := byte_toNat (by unfold kR at hk; omega)
    have h1n : (byte 1).toNat = 1 := rfl
    by_cases c : tru k
    · rw [if_pos (sameK_t.2 (by unfold tru at c; omega))]
      rcases ht c y hy with rfl | rfl
      · obtain ⟨b1, b2⟩ := cu_byte hq
        rw [b1, b2, if_neg (by decide)]; rfl
      · obtain ⟨b1, b2⟩ := cu_byte hq
        rw [b1, b2, if_neg (by decide)]; rfl
    · rw [if_neg (fun q => by have := sameK_t.1 q; unfold tru at c; omega)]
      exact ih c y hy s q hq
  | str d l hr h ih =>
    intro s p hd
    rw [skV, if_neg (by omega), if_neg (by omega), if_pos rfl]
    unfold skFields
    refine skFs_put l 0 p _ hr (fun f hf q hq => ih f hf s q hq) ?_ hd
    have h1 := fdB_len l 0 hr
    have h2 := hd.take.2
    rw [List.length_append, List.length_singleton] at h2
    show l.length < s.length - p + 1
    omega
end Go.Proofs.YtcgjkjabcdeagaaDoor
