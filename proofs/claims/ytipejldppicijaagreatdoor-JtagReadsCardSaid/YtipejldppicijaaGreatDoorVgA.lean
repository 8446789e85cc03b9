/-
  A part of the proof.
-/
import Derived.WalkKit
import Derived.RangeFuncSeq
import Derived.RangeFuncLeaves
import Derived.TacticsIn
set_option linter.unusedSimpArgs false
set_option linter.unusedVariables false
namespace Go.VG
open Go

inductive V where
 | undef
 | int (k : IntKind) (n : Int)
 | bool (b : Bool)
 | str (s : List UInt8)
 | agg (cs : List V)
 | tuple (vs : List V)
 | list (clip : Bool) (sz : Nat) (l : List V)
 | nilptr
 | box (cs : List V) (off : Nat)
 | ptr (i off : Nat)
 | bptr (i idx off : Nat)
 | buf (i : Nat)
 | iface (t : TypeId) (v : V)
 | nilIface
 | func (fn : Fn) (first captured : List V)
 | nilFunc
 | map (i : Nat)
 | nilmap

instance : Inhabited V := ⟨.undef⟩

def V.cells : V → List V
 | .agg cs => cs
 | x => [x]

abbrev St := Nat → Nat → Option Value
structure Gh where
 blk : Option Nat
 base : Option Addr
 len : Nat
 cap : Nat
 sz : Nat
abbrev aa := Nat → Gh

mutual
def VR (st : St) (g : aa) : V → Nat → Value → Prop
 | .undef, _, _ => True
 | .int k m, _, v => v = .int k m ∧ k.min ≤ m ∧ m ≤ k.max
 | .bool b, _, v => v = .bool b
 | .str s, _, v => v = .string ⟨s.toArray⟩ ∧ s.length ≤ maxLen
 | .agg cs, n, v => ∃ vs, v = .agg vs ∧ al st g cs n vs.toList
 | .tuple cs, n, v => ∃ vs, v = .tuple vs ∧ al st g cs n vs.toList
 | .list clip sz l, _, v => ∃ base cap, v = .slice base l.length cap ∧ l.length ≤ cap ∧ l.length ≤ maxLen ∧ (clip = true → cap = l.length) ∧
  (l = [] ∨ ∃ b o, base = some ⟨b, o, none⟩ ∧ 0 < sz ∧ bA st g l sz (st b) o)
 | .nilptr, _, v => v = .pointer none
 | .box cs off, _, v => ∃ b o vs, v = .pointer (some ⟨b, o + off, none⟩) ∧ al st g cs 0 vs ∧ ∀ j, j < vs.length → st b (o + j) = vs[j]?
 | .ptr i off, n, v => i < n ∧ ∃ b, (g i).blk = some b ∧ v = .pointer (some ⟨b, off, none⟩)
 | .bptr i idx off, n, v => i < n ∧ ∃ b, (g i).blk = some b ∧ v = .pointer (some ⟨b, idx * (g i).sz + off, none⟩)
 | .buf i, n, v => i < n ∧ v = .slice (g i).base (g i).len (g i).cap
 | .iface t x, n, v => ∃ u, v = .iface t u ∧ VR st g x n u
 | .nilIface, _, v => v = .nilIface
 | .func fn fs cs, n, v => ∃ a b, v = .func fn a b ∧ al st g fs n a.toList ∧ al st g cs n b.toList
 | .nilFunc, _, v => v = .nilFunc
 | .map i, n, v => i < n ∧ ∃ b, (g i).blk = some b ∧ v = .map (some b)
 | .nilmap, _, v => v = .map none
def al (st : St) (g : aa) : List V → Nat → List Value → Prop
 | [], _, vs => vs = []
 | c :: cs, n, vs => ∃ u us, vs = u :: us ∧ VR st g c n u ∧ al st g cs n us
def bA (st : St) (g : aa) : List V → Nat → (Nat → Option Value) → Nat → Prop
 | [], _, _, _ => True
 | x :: xs, sz, look, o => (∃ u, VR st g x 0 u ∧ u.cells.size = sz ∧ (∀ v ∈ u.cells.toList, v.oneCell' = true) ∧ ∀ j, j < sz → look (o + j) = u.cells[j]?) ∧ bA st g xs sz look (o + sz)
end


theorem fN {st : St} {g : aa} {n : Nat} : ∀ {cs : List V} {vs : List Value}, al st g cs n vs ↔ cs.length = vs.length ∧ ∀ (i : Nat) (c : V) (v : Value), cs[i]? = some c → vs[i]? = some v → VR st g c n v
 | [], vs => by
   simp only [al]
   constructor
   . rintro rfl; simp
   . rintro ⟨h, _⟩; cases vs with
     | nil => rfl
     | cons a b => simp at h
 | c :: cs, vs => by
   simp only [al]
   constructor
   . rintro ⟨u, us, rfl, h1, h2⟩
     obtain ⟨hl, hh⟩ := fN.1 h2
     refine ⟨by simp [hl], ?_⟩
     intro i c' v h3 h4
     cases i with
     | zero => simp at h3 h4; subst h3; subst h4; exact h1
     | succ i => simp at h3 h4; exact hh i c' v h3 h4
   . rintro ⟨hl, hh⟩
     cases vs with
     | nil => simp at hl
     | cons u us =>
       refine ⟨u, us, rfl, hh 0 c u rfl rfl, fN.2 ⟨by simpa using hl, ?_⟩⟩
       intro i c' v h3 h4
       exact hh (i + 1) c' v (by simpa using h3) (by simpa using h4)

theorem dx {st : St} {g : aa} {n : Nat} {cs : List V} {vs : List Value} (h : al st g cs n vs) : cs.length = vs.length := (fN.1 h).1

theorem lB {st : St} {g : aa} {n : Nat} {cs : List V} {vs : List Value} (h : al st g cs n vs) {i : Nat} {c : V} (hc : cs[i]? = some c) :
   ∃ v, vs[i]? = some v ∧ VR st g c n v := by
 obtain ⟨hl, hh⟩ := fN.1 h
 have hi : i < cs.length := by
  rcases Nat.lt_or_ge i cs.length with h' | h'
  . exact h'
  . simp [List.getElem?_eq_none h'] at hc
 have hv : vs[i]? = some (vs[i]'(by omega)) := List.getElem?_eq_getElem (by omega)
 exact ⟨_, hv, hh i c _ hc hv⟩

theorem cp {st : St} {g : aa} {n : Nat} : al st g [] n [] := by simp [al]
theorem bm {st : St} {g : aa} {n : Nat} {c : V} {cs : List V} {v : Value} {vs : List Value} (h : VR st g c n v) (hs : al st g cs n vs) : al st g (c :: cs) n (v :: vs) := by
 simp only [al]; exact ⟨v, vs, rfl, h, hs⟩

theorem oQ {st : St} {g : aa} {n k : Nat} {cs : List V} {vs : List Value} (h : al st g cs n vs) : al st g (cs.take k) n (vs.take k) := by
 obtain ⟨hl, hh⟩ := fN.1 h
 refine fN.2 ⟨by simp [hl], fun i c v h1 h2 => ?_⟩
 rw [List.getElem?_take] at h1 h2
 split at h1
 . rename_i hlt; rw [if_pos hlt] at h2; exact hh i c v h1 h2
 . cases h1

theorem oP {st : St} {g : aa} {n k : Nat} {cs : List V} {vs : List Value} (h : al st g cs n vs) : al st g (cs.drop k) n (vs.drop k) := by
 obtain ⟨hl, hh⟩ := fN.1 h
 refine fN.2 ⟨by simp [hl], fun i c v h1 h2 => ?_⟩
 rw [List.getElem?_drop] at h1 h2
 exact hh _ c v h1 h2

theorem lA {st : St} {g : aa} {n : Nat} {cs ds : List V} {vs us : List Value} (h : al st g cs n vs) (k : al st g ds n us) : al st g (cs ++ ds) n (vs ++ us) := by
 obtain ⟨hl, hh⟩ := fN.1 h
 obtain ⟨kl, kk⟩ := fN.1 k
 refine fN.2 ⟨by simp [hl, kl], fun i c v h1 h2 => ?_⟩
 rcases Nat.lt_or_ge i cs.length with hlt | hge
 . rw [List.getElem?_append_left hlt] at h1
   rw [List.getElem?_append_left (by omega)] at h2
   exact hh i c v h1 h2
 . rw [List.getElem?_append_right hge] at h1
   rw [List.getElem?_append_right (by omega), ← hl] at h2
   exact kk _ c v h1 h2

theorem dJ {st : St} {g : aa} {sz : Nat} {look : Nat → Option Value} : ∀ {l : List V} {o : Nat}, bA st g l sz look o ↔
   ∀ (i : Nat) (x : V), l[i]? = some x → ∃ u, VR st g x 0 u ∧ u.cells.size = sz ∧ (∀ v ∈ u.cells.toList, v.oneCell' = true) ∧ ∀ j, j < sz → look (o + i * sz + j) = u.cells[j]?
 | [], o => by simp [bA]
 | x :: xs, o => by
   simp only [bA]
   constructor
   . rintro ⟨h1, h2⟩ i y hy
     cases i with
     | zero => simp at hy; subst hy; simpa using h1
     | succ i =>
       simp at hy
       obtain ⟨u, a, b, d, c⟩ := dJ.1 h2 i y hy
       refine ⟨u, a, b, d, fun j hj => ?_⟩
       rw [← c j hj]
       congr 1
       rw [Nat.add_mul]; omega
   . intro h
     refine ⟨by simpa using h 0 x rfl, dJ.2 fun i y hy => ?_⟩
     obtain ⟨u, a, b, d, c⟩ := h (i + 1) y (by simpa using hy)
     refine ⟨u, a, b, d, fun j hj => ?_⟩
     rw [← c j hj]
     congr 1
     rw [Nat.add_mul]; omega

mutual
def V.has (i : Nat) : V → Bool
 | .ptr j _ | .bptr j _ _ | .buf j | .map j => Nat.beq i j
 | .agg cs | .tuple cs => V.dN i cs
 | .iface _ x => V.has i x
 | .func _ fs cs => V.dN i fs || V.dN i cs
 | _ => false
def V.dN (i : Nat) : List V → Bool
 | [] => false
 | c :: cs => V.has i c || V.dN i cs
end
mutual
def V.dB (m : Nat) : V → Bool
 | .ptr j _ | .bptr j _ _ | .buf j | .map j => Nat.blt j m
 | .agg cs | .tuple cs => V.ig m cs
 | .iface _ x => V.dB m x
 | .func _ fs cs => V.ig m fs && V.ig m cs
 | _ => true
def V.ig (m : Nat) : List V → Bool
 | [] => true
 | c :: cs => V.dB m c && V.ig m cs
end
def aw (i : Nat) : List Nat → Bool
 | [] => false
 | k :: ks => Nat.beq i k || aw i ks
mutual
def V.kill (ks : List Nat) : V → V
 | .ptr j o => cond (aw j ks) .undef (.ptr j o)
 | .bptr j a b => cond (aw j ks) .undef (.bptr j a b)
 | .buf j => cond (aw j ks) .undef (.buf j)
 | .map j => cond (aw j ks) .undef (.map j)
 | .agg cs => .agg (V.cT ks cs)
 | .tuple cs => .tuple (V.cT ks cs)
 | .iface t x => .iface t (V.kill ks x)
 | .func f fs cs => .func f (V.cT ks fs) (V.cT ks cs)
 | .undef => .undef | .int k n => .int k n | .bool b => .bool b | .str s => .str s | .list c z l => .list c z l
 | .nilptr => .nilptr | .box cs o => .box cs o | .nilIface => .nilIface | .nilFunc => .nilFunc | .nilmap => .nilmap
def V.cT (ks : List Nat) : List V → List V
 | [] => []
 | c :: cs => V.kill ks c :: V.cT ks cs
end

mutual
theorem nu {m : Nat} : ∀ {x : V} {i : Nat}, x.dB m = true → x.has i = true → i < m
 | .ptr j _, i, h, k | .bptr j _ _, i, h, k | .buf j, i, h, k | .map j, i, h, k => by
   simp only [V.dB, V.has] at h k
   have := Nat.eq_of_beq_eq_true k; subst this
   exact Nat.le_of_ble_eq_true h
 | .agg cs, i, h, k | .tuple cs, i, h, k => ns (by simpa [V.dB] using h) (by simpa [V.has] using k)
 | .iface _ x, i, h, k => nu (by simpa [V.dB] using h) (by simpa [V.has] using k)
 | .func _ fs cs, i, h, k => by
   simp only [V.dB, V.has, Bool.and_eq_true, Bool.or_eq_true] at h k
   rcases k with k | k
   . exact ns h.1 k
   . exact ns h.2 k
 | .undef, _, _, k | .int .., _, _, k | .bool _, _, _, k | .str _, _, _, k | .list .., _, _, k | .nilptr, _, _, k | .box .., _, _, k | .nilIface, _, _, k | .nilFunc, _, _, k | .nilmap, _, _, k => by simp [V.has] at k
theorem ns {m : Nat} : ∀ {x : List V} {i : Nat}, V.ig m x = true → V.dN i x = true → i < m
 | [], _, _, k => by simp [V.dN] at k
 | c :: cs, i, h, k => by
   simp only [V.ig, V.dN, Bool.and_eq_true, Bool.or_eq_true] at h k
   rcases k with k | k
   . exact nu h.1 k
   . exact ns h.2 k
end

mutual
theorem dF {st st' : St} {g g' : aa} (hst : ∀ b o v, st b o = some v → st' b o = some v) :
   ∀ {x : V} {n n' : Nat} {v : Value}, (∀ i, x.has i = true → i < n → i < n' ∧ g' i = g i) → VR st g x n v → VR st' g' x n' v
 | .undef, _, _, _, _, _ => by simp [VR]
 | .int .., _, _, _, _, h | .bool _, _, _, _, _, h | .str _, _, _, _, _, h | .nilptr, _, _, _, _, h | .nilIface, _, _, _, _, h | .nilFunc, _, _, _, _, h | .nilmap, _, _, _, _, h => by simpa [VR] using h
 | .agg cs, n, n', v, hn, h | .tuple cs, n, n', v, hn, h => by
   simp only [VR] at h ⊢
   obtain ⟨vs, rfl, h⟩ := h
   exact ⟨vs, rfl, gC hst (fun i hi => hn i (by simpa [V.has] using hi)) h⟩
 | .list c sz l, n, n', v, hn, h => by
   simp only [VR] at h ⊢
   obtain ⟨base, cap, rfl, h1, h2, h3, h4⟩ := h
   refine ⟨base, cap, rfl, h1, h2, h3, ?_⟩
   rcases h4 with h4 | ⟨b, o, h5, h6, h7⟩
   . exact .inl h4
   . exact .inr ⟨b, o, h5, h6, g6 hst (fun k v hk => hst b k v hk) h7⟩
 | .box cs off, n, n', v, hn, h => by
   simp only [VR] at h ⊢
   obtain ⟨b, o, vs, rfl, h1, h2⟩ := h
   refine ⟨b, o, vs, rfl, gC hst (fun i _ hi => absurd hi (Nat.not_lt_zero _)) h1, fun j hj => ?_⟩
   have h3 := h2 j hj
   have h4 : vs[j]? = some (vs[j]'hj) := List.getElem?_eq_getElem hj
   rw [h4] at h3 ⊢
   exact hst _ _ _ h3
 | .ptr i off, n, n', v, hn, h => by
   simp only [VR] at h ⊢
   obtain ⟨hi, h⟩ := h
   obtain ⟨h1, h2⟩ := hn i (by simp [V.has]) hi
   exact ⟨h1, by rw [h2]; exact h⟩
 | .bptr i a off, n, n', v, hn, h => by
   simp only [VR] at h ⊢
   obtain ⟨hi, h⟩ := h
   obtain ⟨h1, h2⟩ := hn i (by simp [V.has]) hi
   exact ⟨h1, by rw [h2]; exact h⟩
 | .buf i, n, n', v, hn, h => by
   simp only [VR] at h ⊢
   obtain ⟨hi, h⟩ := h
   obtain ⟨h1, h2⟩ := hn i (by simp [V.has]) hi
   exact ⟨h1, by rw [h2]; exact h⟩
 | .map i, n, n', v, hn, h => by
   simp only [VR] at h ⊢
   obtain ⟨hi, h⟩ := h
   obtain ⟨h1, h2⟩ := hn i (by simp [V.has]) hi
   exact ⟨h1, by rw [h2]; exact h⟩
 | .iface t x, n, n', v, hn, h => by
   simp only [VR] at h ⊢
   obtain ⟨u, rfl, h⟩ := h
   exact ⟨u, rfl, dF hst (fun i hi => hn i (by simpa [V.has] using hi)) h⟩
 | .func f fs cs, n, n', v, hn, h => by
   simp only [VR] at h ⊢
   obtain ⟨a, b, rfl, h1, h2⟩ := h
   exact ⟨a, b, rfl, gC hst (fun i hi => hn i (by simp [V.has, hi])) h1, gC hst (fun i hi => hn i (by simp [V.has, hi])) h2⟩
theorem gC {st st' : St} {g g' : aa} (hst : ∀ b o v, st b o = some v → st' b o = some v) :
   ∀ {x : List V} {n n' : Nat} {v : List Value}, (∀ i, V.dN i x = true → i < n → i < n' ∧ g' i = g i) → al st g x n v → al st' g' x n' v
 | [], _, _, _, _, h => by simpa [al] using h
 | c :: cs, n, n', v, hn, h => by
   simp only [al] at h ⊢
   obtain ⟨u, us, rfl, h1, h2⟩ := h
   exact ⟨u, us, rfl, dF hst (fun i hi => hn i (by simp [V.dN, hi])) h1, gC hst (fun i hi => hn i (by simp [V.dN, hi])) h2⟩
theorem g6 {st st' : St} {g g' : aa} (hst : ∀ b o v, st b o = some v → st' b o = some v) :
   ∀ {x : List V} {sz o : Nat} {look look' : Nat → Option Value}, (∀ k v, look k = some v → look' k = some v) → bA st g x sz look o → bA st' g' x sz look' o
 | [], _, _, _, _, _, _ => by simp [bA]
 | c :: cs, sz, o, look, look', hl, h => by
   simp only [bA] at h ⊢
   obtain ⟨⟨u, h1, h2, hd, h3⟩, h4⟩ := h
   refine ⟨⟨u, dF hst (fun i _ hi => absurd hi (Nat.not_lt_zero _)) h1, h2, hd, fun j hj => ?_⟩, g6 hst hl h4⟩
   have h5 := h3 j hj
   have h6 : u.cells[j]? = some (u.cells[j]'(by omega)) := Array.getElem?_eq_getElem (by omega)
   rw [h6] at h5 ⊢
   exact hl _ _ h5
end

mutual
theorem mT {st : St} {g : aa} {ks : List Nat} : ∀ {x : V} {n : Nat} {v : Value}, VR st g x n v → VR st g (x.kill ks) n v
 | .undef, _, _, _ => by simp [VR, V.kill]
 | .int .., _, _, h | .bool _, _, _, h | .str _, _, _, h | .nilptr, _, _, h | .nilIface, _, _, h | .nilFunc, _, _, h | .nilmap, _, _, h | .list .., _, _, h | .box .., _, _, h => by simpa only [V.kill] using h
 | .ptr i _, _, _, h | .bptr i _ _, _, _, h | .buf i, _, _, h | .map i, _, _, h => by
   simp only [V.kill]
   cases aw i ks with
   | true => simp [VR]
   | false => exact h
 | .agg cs, n, v, h | .tuple cs, n, v, h => by
   simp only [VR, V.kill] at h ⊢
   obtain ⟨vs, rfl, h⟩ := h
   exact ⟨vs, rfl, mV h⟩
 | .iface t x, n, v, h => by
   simp only [VR, V.kill] at h ⊢
   obtain ⟨u, rfl, h⟩ := h
   exact ⟨u, rfl, mT h⟩
 | .func f fs cs, n, v, h => by
   simp only [VR, V.kill] at h ⊢
   obtain ⟨a, b, rfl, h1, h2⟩ := h
   exact ⟨a, b, rfl, mV h1, mV h2⟩
theorem mV {st : St} {g : aa} {ks : List Nat} : ∀ {x : List V} {n : Nat} {v : List Value}, al st g x n v → al st g (V.cT ks x) n v
 | [], _, _, h => by simpa [al, V.cT] using h
 | c :: cs, n, v, h => by
   simp only [al, V.cT] at h ⊢
   obtain ⟨u, us, rfl, h1, h2⟩ := h
   exact ⟨u, us, rfl, mT h1, mV h2⟩
end

mutual
theorem iW {ks : List Nat} : ∀ {x : V} {i : Nat}, (x.kill ks).has i = true → aw i ks = false ∧ x.has i = true
 | .undef, _, h | .int .., _, h | .bool _, _, h | .str _, _, h | .nilptr, _, h | .nilIface, _, h | .nilFunc, _, h | .nilmap, _, h | .list .., _, h | .box .., _, h => by simp [V.kill, V.has] at h
 | .ptr j _, i, h | .bptr j _ _, i, h | .buf j, i, h | .map j, i, h => by
   simp only [V.kill] at h
   cases hm : aw j ks with
   | true => rw [hm] at h; simp [V.has] at h
   | false =>
     rw [hm] at h
     simp only [cond_false, V.has] at h ⊢
     have := Nat.eq_of_beq_eq_true h; subst this
     exact ⟨hm, h⟩
 | .agg cs, i, h | .tuple cs, i, h => by
   simp only [V.kill, V.has] at h ⊢
   exact jJ h
 | .iface t x, i, h => by
   simp only [V.kill, V.has] at h ⊢
   exact iW h
 | .func f fs cs, i, h => by
   simp only [V.kill, V.has, Bool.or_eq_true] at h ⊢
   rcases h with h | h
   . exact ⟨(jJ h).1, .inl (jJ h).2⟩
   . exact ⟨(jJ h).1, .inr (jJ h).2⟩
theorem jJ {ks : List Nat} : ∀ {x : List V} {i : Nat}, V.dN i (V.cT ks x) = true → aw i ks = false ∧ V.dN i x = true
 | [], _, h => by simp [V.cT, V.dN] at h
 | c :: cs, i, h => by
   simp only [V.cT, V.dN, Bool.or_eq_true] at h ⊢
   rcases h with h | h
   . exact ⟨(iW h).1, .inl (iW h).2⟩
   . exact ⟨(jJ h).1, .inr (jJ h).2⟩
end

end Go.VG
namespace Go.VG
open Go

def cS : IntKind → IntKind → Bool
 | .i8, .i8 | .i16, .i16 | .i32, .i32 | .i64, .i64 | .u8, .u8 | .u16, .u16 | .u32, .u32 | .u64, .u64 => true
 | _, _ => false

inductive Sc where
 | kB | kI (k : IntKind) | kS
def fV : Sc → V → Bool
 | .kB, .bool _ => true
 | .kI k, .int k' _ => cS k k'
 | .kS, .str _ => true
 | _, _ => false
def bS : List Sc → List V → Bool
 | [], [] => true
 | k :: ks, x :: xs => fV k x && bS ks xs
 | _, _ => false
def fz (ag : Bool) (sh : List Sc) : V → Bool
 | .agg cs => cond ag (bS sh cs) false
 | x => cond ag false (bS sh [x])
def mc : V → V → Bool
 | .int _ a, .int _ b => a == b
 | .str a, .str b => a == b
 | .bool a, .bool b => a == b
 | _, _ => false
def nE : List V → List V → Bool
 | [], [] => true
 | x :: xs, y :: ys => mc x y && nE xs ys
 | _, _ => false
def gk : V → V → Bool
 | .agg a, .agg b => nE a b
 | x, y => mc x y
def cF : List (V × Int) → V → Option (Nat × Int)
 | [], _ => none
 | (y, q) :: es, x => cond (gk y x) (some (0, q)) (match cF es x with
   | some (j, q) => some (j + 1, q)
   | none => none)
def getM (es : List (V × Int)) (x : V) : Int := match cF es x with
 | some (_, q) => q
 | none => 0
def fZ : List (V × Int) → Nat → Int → List (V × Int)
 | [], _, _ => []
 | (y, _) :: es, 0, q => (y, q) :: es
 | e :: es, n + 1, q => e :: fZ es n q
def g4 : V → Value
 | .int k n => .int k n
 | .bool b => .bool b
 | .str s => .string ⟨s.toArray⟩
 | _ => .nilIface
def ok1 : V → Prop
 | .int k n => k.min ≤ n ∧ n ≤ k.max
 | .str s => s.length ≤ maxLen
 | _ => True
def cf : V → Value
 | .agg cs => .agg (cs.map g4).toArray
 | x => g4 x
def mm : V → Prop
 | .agg cs => ∀ c ∈ cs, ok1 c
 | x => ok1 x
def cZ (ag : Bool) (sh : List Sc) : List (V × Int) → List Nat → List MapEntry → Prop
 | [], [], [] => True
 | (x, q) :: es, s :: bs, e :: l => (fz ag sh x = true ∧ mm x ∧ e.key = cf x ∧ e.val = .int .i64 q ∧ (IntKind.i64.min ≤ q ∧ q ≤ IntKind.i64.max) ∧ e.born = s) ∧ cZ ag sh es bs l
 | _, _, _ => False
def ly (bs : List Nat) (ck : Nat) : Prop := bs.Nodup ∧ ∀ s ∈ bs, s < ck
def i6 (bs : List Nat) (seen : Array Nat) : List Nat := (List.range bs.length).filter fun j => !(seen.toList.contains (bs.getD j 0))

inductive O where
 | dead
 | cells (cs : List V)
 | buf (sz pre : Nat) (l : List V)
 | siter (s : List UInt8) (pos : Nat)
 | map (ag : Bool) (sh : List Sc) (es : List (V × Int)) (bs : List Nat) (ck : Nat)
 | miter (m : V) (bs : List Nat) (ck : Nat) (left : List Nat) (last : Nat)
instance : Inhabited O := ⟨.dead⟩

def O.has (i : Nat) : O → Bool
 | .cells cs => V.dN i cs
 | .miter m _ _ _ _ => m.has i
 | _ => false
def O.dB (m : Nat) : O → Bool
 | .cells cs => V.ig m cs
 | .miter x _ _ _ _ => x.dB m
 | _ => true
def O.kill (ks : List Nat) : O → O
 | .cells cs => .cells (V.cT ks cs)
 | .dead => .dead | .buf a b l => .buf a b l | .siter s p => .siter s p | .map a sh es bs ck => .map a sh es bs ck
 | .miter m bs ck l x => .miter (m.kill ks) bs ck l x

structure Env where
 G : Nat → Prop
 w0 : World
 st0 : St
 ds : List Deferred

def jD (c : Array Value) (fr : Nat × Nat) : Prop := fr.1 ≤ fr.2 ∧ ∀ o, o < c.size → ¬ (fr.1 ≤ o ∧ o < fr.2)

def cn (E : Env) (st : St) (g : aa) (n : Nat) (w : World) (gi : Gh) : O → Prop
  | .dead => ∀ b, gi.blk = some b → b < w.heap.size ∧ E.G b
  | .cells cs => ∃ b c el fr, gi.blk = some b ∧ E.G b ∧ w.heap[b]? = some (.cells c el fr) ∧ al st g cs n c.toList ∧ jD c fr ∧ ∀ o, st b o = none
  | .buf sz pre l => 0 < sz ∧ gi.sz = sz ∧ pre ≤ l.length ∧ l.length ≤ maxLen ∧ gi.len = l.length ∧ l.length ≤ gi.cap ∧
   ((gi.cap = 0 ∧ gi.blk = none) ∨ ∃ b c el fr, gi.blk = some b ∧ gi.base = some ⟨b, 0, none⟩ ∧ E.G b ∧ w.heap[b]? = some (.cells c el fr) ∧ c.size = gi.cap * sz ∧
     bA st g l sz (fun o => c[o]?) 0 ∧ jD c fr ∧ ∀ o v, st b o = some v → o < pre * sz)
  | .siter s pos => s.length ≤ maxLen ∧ ∃ b, gi.blk = some b ∧ E.G b ∧ w.heap[b]? = some (.stringIter ⟨s.toArray⟩ pos)
  | .map ag sh es bs ck => ∃ b arr, gi.blk = some b ∧ E.G b ∧ w.heap[b]? = some (.map arr ck) ∧ cZ ag sh es bs arr.toList ∧ ly bs ck ∧ (es.map fun e => cf e.1).Nodup
  | .miter m bs ck left last => ∃ b b' seen, gi.blk = some b ∧ E.G b ∧ w.heap[b]? = some (.mapIter (some b') ck seen ck) ∧ VR st g m n (.map (some b')) ∧ left = i6 bs seen ∧
   ((seen = #[] ∧ bs.length ≤ last) ∨ (seen.back? = some (bs.getD last 0) ∧ last < bs.length))

structure ay (E : Env) (st : St) (g : aa) (sg : List O) (w : World) : Prop where
 os : w.os = E.w0.os
 tape : w.tape = E.w0.tape
 output : w.output = E.w0.output
 size : E.w0.heap.size ≤ w.heap.size
 gnew : ∀ b, E.w0.heap.size ≤ b → E.G b
 sub : ∀ b o v, E.st0 b o = some v → st b o = some v
 stG : ∀ b o v, st b o = some v → E.st0 b o = some v ∨ E.G b
 stw : ∀ b o v, st b o = some v → w.cell? ⟨b, o, none⟩ = some v
 fr : ∀ b, ¬ E.G b → w.heap[b]? = E.w0.heap[b]?
 ob : ∀ i o, sg[i]? = some o → cn E st g sg.length w (g i) o
 inj : ∀ i j b, i < sg.length → j < sg.length → (g i).blk = some b → (g j).blk = some b → i = j

theorem n6 {w w' : World} {b o : Nat} (h : w'.heap[b]? = w.heap[b]?) : w'.cell? ⟨b, o, none⟩ = w.cell? ⟨b, o, none⟩ := by
 simp only [World.cell?, h]

theorem dy {w : World} {b o : Nat} {c : Array Value} {el : TypeId} {fr : Nat × Nat} (h : w.heap[b]? = some (.cells c el fr)) : w.cell? ⟨b, o, none⟩ = c[o]? := by
 simp [World.cell?, h]

theorem E3 {w : World} {b o : Nat} {c : Array Value} {el : TypeId} {fr : Nat × Nat} (h : w.heap[b]? = some (.cells c el fr)) (hf : jD c fr) (ho : o < c.size) : w.frozen? ⟨b, o, none⟩ = false := by
 have := hf.2 o ho
 obtain ⟨lo, hi⟩ := fr
 simp only [World.frozen?, h]
 simp only [Bool.and_eq_false_iff, decide_eq_false_iff_not]
 simp only at this
 omega

theorem iJ {w : World} {b : Nat} {o : Obj} (h : w.heap[b]? = some o) : b < w.heap.size := by
 rcases Nat.lt_or_ge b w.heap.size with h' | h'
 . exact h'
 . simp [Array.getElem?_eq_none h'] at h

theorem cn.bg {E : Env} {st : St} {g : aa} {n : Nat} {w : World} {gi : Gh} {o : O} (h : cn E st g n w gi o) {b : Nat} (hb : gi.blk = some b) : b < w.heap.size ∧ E.G b := by
 cases o with
 | dead => exact h b hb
 | cells cs =>
   obtain ⟨b', c, el, fr, h1, h2, h3, _⟩ := h
   rw [hb] at h1; cases h1
   exact ⟨iJ h3, h2⟩
 | buf sz pre l =>
   obtain ⟨_, _, _, _, _, _, h⟩ := h
   rcases h with ⟨_, h⟩ | ⟨b', c, el, fr, h1, _, h2, h3, _⟩
   . rw [hb] at h; cases h
   . rw [hb] at h1; cases h1
     exact ⟨iJ h3, h2⟩
 | siter s p =>
   obtain ⟨_, b', h1, h2, h3⟩ := h
   rw [hb] at h1; cases h1
   exact ⟨iJ h3, h2⟩
 | map ag sh es bs ck =>
   obtain ⟨b', arr, h1, h2, h3, _⟩ := h
   rw [hb] at h1; cases h1
   exact ⟨iJ h3, h2⟩
 | miter m bs ck l x =>
   obtain ⟨b', _, _, h1, h2, h3, _⟩ := h
   rw [hb] at h1; cases h1
   exact ⟨iJ h3, h2⟩

theorem ay.bg {E : Env} {st : St} {g : aa} {sg : List O} {w : World} (h : ay E st g sg w) {i b : Nat} (hi : i < sg.length) (hb : (g i).blk = some b) : b < w.heap.size ∧ E.G b :=
 (h.ob i _ (List.getElem?_eq_getElem hi)).bg hb

theorem cn.aO {E : Env} {st st' : St} {g g' : aa} {n n' : Nat} {w w' : World} {gi : Gh} {o : O} (h : cn E st g n w gi o)
   (hb : ∀ b, gi.blk = some b → w'.heap[b]? = w.heap[b]?)
   (hst : ∀ b o v, st b o = some v → st' b o = some v)
   (hnew : ∀ b, gi.blk = some b → ∀ o v, st' b o = some v → st b o = some v)
   (hn : ∀ i, o.has i = true → i < n → i < n' ∧ g' i = g i) : cn E st' g' n' w' gi o := by
 cases o with
 | dead =>
   intro b hb'
   obtain ⟨h1, h2⟩ := h b hb'
   refine ⟨?_, h2⟩
   have h3 := hb b hb'
   rw [Array.getElem?_eq_getElem h1] at h3
   exact iJ h3
 | cells cs =>
   obtain ⟨b, c, el, fr, h1, h2, h3, h4, h5, h6⟩ := h
   refine ⟨b, c, el, fr, h1, h2, by rw [hb b h1]; exact h3, gC hst (fun i hi => hn i (by simpa [O.has] using hi)) h4, h5, fun o => ?_⟩
   cases hs : st' b o with
   | none => rfl
   | some v => have := hnew b h1 o v hs; rw [h6 o] at this; cases this
 | buf sz pre l =>
   obtain ⟨h1, h2, h3, h4, h5, h6, h7⟩ := h
   refine ⟨h1, h2, h3, h4, h5, h6, ?_⟩
   rcases h7 with h7 | ⟨b, c, el, fr, k1, k2, k3, k4, k5, k6, k7, k8⟩
   . exact .inl h7
   . exact .inr ⟨b, c, el, fr, k1, k2, k3, by rw [hb b k1]; exact k4, k5, g6 hst (fun _ _ hk => hk) k6, k7, fun o v hv => k8 o v (hnew b k1 o v hv)⟩
 | siter s p =>
   obtain ⟨h1, b, h2, h3, h4⟩ := h
   exact ⟨h1, b, h2, h3, by rw [hb b h2]; exact h4⟩
 | map ag sh es bs ck =>
   obtain ⟨b, arr, h1, h2, h3, h4⟩ := h
   exact ⟨b, arr, h1, h2, by rw [hb b h1]; exact h3, h4⟩
 | miter m bs ck l x =>
   obtain ⟨b, b', seen, h1, h2, h3, h4, h5⟩ := h
   exact ⟨b, b', seen, h1, h2, by rw [hb b h1]; exact h3, dF hst (fun i hi => hn i (by simpa [O.has] using hi)) h4, h5⟩

theorem cn.kill {E : Env} {st : St} {g : aa} {n : Nat} {w : World} {gi : Gh} {o : O} {ks : List Nat} (h : cn E st g n w gi o) : cn E st g n w gi (o.kill ks) := by
 cases o with
 | cells cs =>
   obtain ⟨b, c, el, fr, h1, h2, h3, h4, h5, h6⟩ := h
   exact ⟨b, c, el, fr, h1, h2, h3, mV h4, h5, h6⟩
 | miter m bs ck l x =>
   obtain ⟨b, b', seen, h1, h2, h3, h4, h5⟩ := h
   exact ⟨b, b', seen, h1, h2, h3, mT h4, h5⟩
 | _ => exact h

theorem O.iW {ks : List Nat} {o : O} {i : Nat} (h : (o.kill ks).has i = true) : aw i ks = false ∧ o.has i = true := by
 cases o with
 | cells cs => exact jJ (by simpa [O.kill, O.has] using h)
 | miter m bs ck l x => exact VG.iW (by simpa [O.kill, O.has] using h)
 | _ => simp [O.kill, O.has] at h

structure bZ (E : Env) (st st' : St) (w w' : World) (B : Nat → Prop) : Prop where
 os : w'.os = w.os
 tape : w'.tape = w.tape
 output : w'.output = w.output
 size : w.heap.size ≤ w'.heap.size
 aO : ∀ b, b < w.heap.size → ¬ B b → w'.heap[b]? = w.heap[b]?
 own : ∀ b, B b → E.G b
 mono : ∀ b o v, st b o = some v → st' b o = some v
 newst : ∀ b o v, st' b o = some v → st b o = some v ∨ (E.G b ∧ w'.cell? ⟨b, o, none⟩ = some v)
 oldst : ∀ b o v, B b → st b o = some v → w'.cell? ⟨b, o, none⟩ = some v

theorem vh {w : World} {b o : Nat} {v : Value} (h : w.cell? ⟨b, o, none⟩ = some v) : b < w.heap.size := by
 rcases Nat.lt_or_ge b w.heap.size with h' | h'
 . exact h'
 . simp [World.cell?, Array.getElem?_eq_none h'] at h

theorem ay.step {E : Env} {st st' : St} {g g' : aa} {sg sg' : List O} {w w' : World} {B : Nat → Prop} (h : ay E st g sg w) (c : bZ E st st' w w' B)
   (ob : ∀ i o, sg'[i]? = some o → cn E st' g' sg'.length w' (g' i) o)
   (inj : ∀ i j b, i < sg'.length → j < sg'.length → (g' i).blk = some b → (g' j).blk = some b → i = j) : ay E st' g' sg' w' where
 os := c.os.trans h.os
 tape := c.tape.trans h.tape
 output := c.output.trans h.output
 size := Nat.le_trans h.size c.size
 gnew := h.gnew
 sub := fun b o v hv => c.mono _ _ _ (h.sub _ _ _ hv)
 stG := fun b o v hv => by
  rcases c.newst _ _ _ hv with h1 | h1
  . exact h.stG _ _ _ h1
  . exact .inr h1.1
 stw := fun b o v hv => by
  rcases c.newst _ _ _ hv with h1 | h1
  . by_cases hB : B b
    . exact c.oldst _ _ _ hB h1
    . have h2 := h.stw _ _ _ h1
      rw [n6 (c.aO b (vh h2) hB)]; exact h2
  . exact h1.2
 fr := fun b hb => by
  have hlt : b < E.w0.heap.size := by
   rcases Nat.lt_or_ge b E.w0.heap.size with h' | h'
   . exact h'
   . exact absurd (h.gnew b h') hb
  rw [c.aO b (Nat.lt_of_lt_of_le hlt h.size) (fun hB => hb (c.own b hB))]
  exact h.fr b hb
 ob := ob
 inj := inj

def bf (g : aa) (i : Nat) (x : Gh) : aa := fun j => if j = i then x else g j
@[simp] theorem cX (g : aa) (i : Nat) (x : Gh) : bf g i x i = x := by simp [bf]
theorem cj {g : aa} {i j : Nat} {x : Gh} (h : j ≠ i) : bf g i x j = g j := by simp [bf, h]

structure aG (w w' : World) : Prop where
 heap : w'.heap = w.heap
 os : w'.os = w.os
 tape : w'.tape = w.tape
 output : w'.output = w.output
theorem aG.refl (w : World) : aG w w := ⟨rfl, rfl, rfl, rfl⟩

theorem bZ.same {E : Env} {st : St} {w w' : World} (h : aG w w') : bZ E st st w w' (fun _ => False) where
 os := h.os
 tape := h.tape
 output := h.output
 size := by rw [h.heap]; exact Nat.le_refl _
 aO := fun b _ _ => by rw [h.heap]
 own := fun _ hb => hb.elim
 mono := fun _ _ _ hv => hv
 newst := fun _ _ _ hv => .inl hv
 oldst := fun _ _ _ hb => hb.elim

theorem cn.same {E : Env} {st : St} {g : aa} {n : Nat} {w w' : World} {gi : Gh} {o : O} (h : cn E st g n w gi o) (hw : aG w w') : cn E st g n w' gi o :=
 h.aO (fun b _ => by rw [hw.heap]) (fun _ _ _ hv => hv) (fun _ _ _ _ hv => hv) (fun _ _ hi => ⟨hi, rfl⟩)

theorem ay.same {E : Env} {st : St} {g : aa} {sg : List O} {w w' : World} (h : ay E st g sg w) (hw : aG w w') : ay E st g sg w' :=
 h.step (bZ.same hw) (fun i o ho => (h.ob i o ho).same hw) h.inj

theorem m7 {w : World} {o : Obj} {b : Nat} (h : b < w.heap.size) : (w.alloc o).heap[b]? = w.heap[b]? := by
 simp only [World.alloc, Array.getElem?_push]
 rw [if_neg (by omega)]
theorem heap_alloc_new {w : World} {o : Obj} : (w.alloc o).heap[w.heap.size]? = some o := by
 show (w.heap.push o)[w.heap.size]? = some o
 simp

theorem bZ.alloc {E : Env} {st : St} {w : World} (o : Obj) : bZ E st st w (w.alloc o) (fun _ => False) where
 os := rfl
 tape := rfl
 output := rfl
 size := by simp
 aO := fun b hb _ => m7 hb
 own := fun _ hb => hb.elim
 mono := fun _ _ _ hv => hv
 newst := fun _ _ _ hv => .inl hv
 oldst := fun _ _ _ hb => hb.elim

def fp (st : St) (b : Nat) (c : Array Value) (k : Nat) : St := fun b' o => if b' = b then (if o < k then c[o]? else none) else st b' o

theorem ay.gT {E : Env} {st : St} {g : aa} {sg : List O} {w : World} (h : ay E st g sg w) (o : Nat) : st w.heap.size o = none := by
 cases hs : st w.heap.size o with
 | none => rfl
 | some v => exact absurd (vh (h.stw _ _ _ hs)) (Nat.lt_irrefl _)

theorem jf {st : St} {b : Nat} {c : Array Value} {k : Nat} (h : ∀ o, st b o = none) : ∀ b' o v, st b' o = some v → fp st b c k b' o = some v := by
 intro b' o v hv
 by_cases hb : b' = b
 . subst hb; rw [h o] at hv; cases hv
 . simp [fp, hb, hv]

theorem bZ.fp {E : Env} {st : St} {g : aa} {sg : List O} {w : World} (h : ay E st g sg w) (c : Array Value) (el : TypeId) (fr : Nat × Nat) (k : Nat) :
   bZ E st (fp st w.heap.size c k) w (w.alloc (.cells c el fr)) (fun _ => False) where
 os := rfl
 tape := rfl
 output := rfl
 size := by simp
 aO := fun b hb _ => m7 hb
 own := fun _ hb => hb.elim
 mono := jf h.gT
 newst := fun b o v hv => by
  by_cases hb : b = w.heap.size
  . subst hb
    simp only [VG.fp, if_true] at hv
    split at hv
    . exact .inr ⟨h.gnew _ h.size, by rw [dy heap_alloc_new]; exact hv⟩
    . cases hv
  . simp [VG.fp, hb] at hv; exact .inl hv
 oldst := fun _ _ _ hb => hb.elim

theorem ay.rz {E : Env} {st : St} {g : aa} {sg : List O} {w : World} (h : ay E st g sg w) (c : Array Value) (el : TypeId) (fr : Nat × Nat) (k : Nat) :
   ay E (fp st w.heap.size c k) g sg (w.alloc (.cells c el fr)) :=
 h.step (bZ.fp h c el fr k) (fun i o ho => (h.ob i o ho).aO
  (fun b hb => m7 ((h.ob i o ho).bg hb).1) (jf h.gT)
  (fun b hb o' v hv => by
   have := ((h.ob i o ho).bg hb).1
   simpa [fp, Nat.ne_of_lt this] using hv)
  (fun _ _ hi => ⟨hi, rfl⟩)) h.inj

theorem ay.A9 {E : Env} {st : St} {g : aa} {sg : List O} {w : World} (h : ay E st g sg w) (ob : Obj) (gi : Gh) (o : O)
   (hb : ∀ b, gi.blk = some b → b = w.heap.size)
   (ho : cn E st (bf g sg.length gi) (sg.length + 1) (w.alloc ob) gi o) :
   ay E st (bf g sg.length gi) (sg ++ [o]) (w.alloc ob) := by
 refine h.step (bZ.alloc ob) ?_ ?_
 . intro i o' hi
   rw [List.length_append, List.length_singleton]
   rcases Nat.lt_trichotomy i sg.length with hlt | heq | hgt
   . rw [List.getElem?_append_left hlt] at hi
     rw [cj (Nat.ne_of_lt hlt)]
     exact (h.ob i o' hi).aO (fun b hb => m7 ((h.ob i o' hi).bg hb).1) (fun _ _ _ hv => hv) (fun _ _ _ _ hv => hv)
      (fun j _ hj => ⟨by omega, cj (Nat.ne_of_lt hj)⟩)
   . subst heq
     rw [List.getElem?_append_right (Nat.le_refl _)] at hi
     simp at hi; subst hi
     rw [cX]; exact ho
   . rw [List.getElem?_eq_none (by simp; omega)] at hi; cases hi
 . intro i j b hi hj h1 h2
   rw [List.length_append, List.length_singleton] at hi hj
   by_cases e1 : i = sg.length <;> by_cases e2 : j = sg.length
   . omega
   . subst e1
     rw [cX] at h1; rw [cj e2] at h2
     have := (h.bg (by omega) h2).1; have := hb b h1; omega
   . subst e2
     rw [cX] at h2; rw [cj e1] at h1
     have := (h.bg (by omega) h1).1; have := hb b h2; omega
   . rw [cj e1] at h1; rw [cj e2] at h2
     exact h.inj i j b (by omega) (by omega) h1 h2

theorem ay.eE {E : Env} {st st' : St} {g : aa} {sg : List O} {w w' : World} (h : ay E st g sg w) (i : Nat) (hi : i < sg.length) (ks : List Nat) (gi : Gh) (o : O)
   (c : bZ E st st' w w' (fun b => (g i).blk = some b))
   (hks : gi = g i ∨ aw i ks = true)
   (hblk : ∀ b, gi.blk = some b → (g i).blk = some b ∨ b = w.heap.size)
   (hnew : ∀ j b, j < sg.length → j ≠ i → (g j).blk = some b → ∀ o v, st' b o = some v → st b o = some v)
   (ho : cn E st' (bf g i gi) sg.length w' gi o) :
   ay E st' (bf g i gi) ((sg.map (O.kill ks)).set i o) w' := by
 have hlen : ((sg.map (O.kill ks)).set i o).length = sg.length := by simp
 refine h.step c ?_ ?_
 . intro j o' hj
   rw [hlen]
   by_cases e : j = i
   . subst e
     rw [List.getElem?_set_self (by simpa using hi)] at hj
     cases hj
     rw [cX]; exact ho
   . rw [List.getElem?_set_ne (Ne.symm e), List.getElem?_map] at hj
     cases hs : sg[j]? with
     | none => rw [hs] at hj; cases hj
     | some o₀ =>
       rw [hs] at hj; cases hj
       have hjl : j < sg.length := by
        rcases Nat.lt_or_ge j sg.length with h' | h'
        . exact h'
        . simp [List.getElem?_eq_none h'] at hs
       rw [cj e]
       have h0 := h.ob j o₀ hs
       refine (h0.kill (ks := ks)).aO (fun b hb => ?_) c.mono (fun b hb => hnew j b hjl e hb) (fun k hk hkn => ⟨hkn, ?_⟩)
       . exact c.aO b (h0.bg hb).1 (fun hB => e (h.inj j i b hjl hi hb hB))
       . by_cases ek : k = i
         . subst ek
           rw [cX]
           rcases hks with hks | hks
           . exact hks
           . have := (O.iW hk).1; rw [hks] at this; cases this
         . exact cj ek
 . intro j k b hj hk h1 h2
   rw [hlen] at hj hk
   by_cases e1 : j = i <;> by_cases e2 : k = i
   . omega
   . subst e1
     rw [cX] at h1; rw [cj e2] at h2
     rcases hblk b h1 with h3 | h3
     . exact h.inj j k b hj hk h3 h2
     . have := (h.bg hk h2).1; omega
   . subst e2
     rw [cX] at h2; rw [cj e1] at h1
     rcases hblk b h2 with h3 | h3
     . exact h.inj j k b hj hk h1 h3
     . have := (h.bg hj h1).1; omega
   . rw [cj e1] at h1; rw [cj e2] at h2
     exact h.inj j k b hj hk h1 h2

def dI : List O → List O → Nat → Prop
 | _, [], _ => True
 | [], _ :: _, _ => False
 | _ :: os, .dead :: ps, n => dI os ps n
 | o :: os, p :: ps, n => (o = p ∧ p.dB n = true) ∧ dI os ps n

theorem zp : ∀ {os ps : List O} {n i : Nat} {p : O}, dI os ps n → ps[i]? = some p → ∃ o, os[i]? = some o ∧ (p = .dead ∨ (o = p ∧ p.dB n = true))
 | _, [], _, _, _, _, h => by simp at h
 | [], _ :: _, _, _, _, h, _ => by simp [dI] at h
 | o :: os, q :: ps, n, i, p, h, hp => by
   cases i with
   | zero =>
     simp at hp; subst hp
     refine ⟨o, rfl, ?_⟩
     cases q <;> first | exact .inl rfl | (simp only [dI] at h; exact .inr h.1)
   | succ i =>
     have h' : dI os ps n := by cases q <;> simp only [dI] at h <;> first | exact h | exact h.2
     obtain ⟨o', h1, h2⟩ := zp h' (by simpa using hp)
     exact ⟨o', by simpa using h1, h2⟩

theorem zq : ∀ {os ps : List O} {n : Nat}, dI os ps n → ps.length ≤ os.length
 | _, [], _, _ => by simp
 | [], _ :: _, _, h => by simp [dI] at h
 | o :: os, q :: ps, n, h => by
   have h' : dI os ps n := by cases q <;> simp only [dI] at h <;> first | exact h | exact h.2
   have := zq h'
   simp; omega

theorem Hf {n : Nat} {p : O} (h : p.dB n = true) {i : Nat} (hi : p.has i = true) : i < n := by
 cases p with
 | cells cs => exact ns (by simpa [O.dB] using h) (by simpa [O.has] using hi)
 | miter m bs ck l x => exact nu (by simpa [O.dB] using h) (by simpa [O.has] using hi)
 | _ => simp [O.has] at hi

theorem ay.uh {E : Env} {st : St} {g : aa} {sg ps : List O} {w : World} (h : ay E st g sg w) (hs : dI sg ps ps.length) : ay E st g ps w := by
 have hl := zq hs
 refine h.step (bZ.same (aG.refl w)) (fun i p hp => ?_) (fun i j b hi hj => h.inj i j b (by omega) (by omega))
 obtain ⟨o, ho, hd⟩ := zp hs hp
 have h0 := h.ob i o ho
 rcases hd with rfl | ⟨rfl, hsc⟩
 . intro b hb; exact h0.bg hb
 . exact h0.aO (fun _ _ => rfl) (fun _ _ _ hv => hv) (fun _ _ _ _ hv => hv) (fun k hk _ => ⟨Hf hsc hk, rfl⟩)

end Go.VG
namespace Go.VG
open Go

structure AS where
 nt : Nat
 tm : List (Nat × V)
 sg : List O
 kl : List Nat

def lk : List (Nat × V) → Nat → V
 | [], _ => .undef
 | (k, x) :: r, t => cond (Nat.beq k t) x (lk r t)
def nK (ks : List Nat) : List (Nat × V) → List (Nat × V)
 | [] => []
 | (k, x) :: r => (k, x.kill ks) :: nK ks r
def pN (ks : List Nat) : List O → List O
 | [] => []
 | o :: os => o.kill ks :: pN ks os
def cW : List O → Nat → O → List O
 | [], _, _ => []
 | _ :: os, 0, o => o :: os
 | p :: os, i + 1, o => p :: cW os i o
def cA : List O → List (Nat × O) → List O
 | sg, [] => sg
 | sg, (i, o) :: r => cA (cW sg i o) r
def aq : List O → Nat → O
 | [], _ => .dead
 | o :: _, 0 => o
 | _ :: os, i + 1 => aq os i
def gb : List V → Nat → Option V
 | [], _ => none
 | x :: _, 0 => some x
 | _ :: xs, i + 1 => gb xs i
def eD : List V → Nat → Option (List V)
 | _, 0 => some []
 | [], _ + 1 => none
 | x :: xs, n + 1 => match eD xs n with
   | some r => some (x :: r)
   | none => none
def fQ : List V → Nat → List V
 | xs, 0 => xs
 | [], _ + 1 => []
 | _ :: xs, n + 1 => fQ xs n
def eY : List V → Nat → List V → Option (List V)
 | xs, _, [] => some xs
 | [], _, _ :: _ => none
 | _ :: xs, 0, y :: ys => match eY xs 0 ys with
   | some r => some (y :: r)
   | none => none
 | x :: xs, n + 1, ys => match eY xs n ys with
   | some r => some (x :: r)
   | none => none

structure Ef where
 v : V
 ks : List Nat
 up : List (Nat × O)
 nw : List O
 rd : List Nat

def eQ : List Nat → List (Nat × V) → List (Nat × V)
 | [], tm => tm
 | k :: ks, tm => nK (k :: ks) tm
def fD : List Nat → List O → List O
 | [], sg => sg
 | k :: ks, sg => pN (k :: ks) sg
def ec : List O → List O → List O
 | sg, [] => sg
 | sg, o :: os => sg ++ (o :: os)
def d7 : List Nat → List Nat → List Nat
 | [], l => l
 | k :: ks, l => cond (aw k l) (d7 ks l) (k :: d7 ks l)

def AS.app (s : AS) (d : Option Nat) (e : Ef) : AS :=
 ⟨s.nt, match d with
  | some d => (d, e.v) :: eQ e.ks s.tm
  | none => eQ e.ks s.tm, ec (cA (fD e.ks s.sg) e.up) e.nw, d7 e.ks s.kl⟩

def bd (b : Bool) (A B : Prop) : Prop := match b with
 | true => A
 | false => B
def dE {α : Type} (o : Option α) (K : α → Prop) : Prop := match o with
 | some a => K a
 | none => False
def fi (b : Bool) (A : Prop) : Prop := match b with
 | true => A
 | false => False

def Tr (α : Type) : Type := (α → Prop) → Prop
def ret {α : Type} (a : α) : Tr α := fun K => K a
def fail {α : Type} : Tr α := fun _ => False
def ar {α : Type} (A : Prop) (t : Tr α) : Tr α := fun K => A ∧ t K
def aS {α : Type} (b : Bool) (t : Tr α) : Tr α := fun K => fi b (t K)
def cG {α β : Type} (o : Option α) (f : α → Tr β) : Tr β := fun K => dE o fun a => f a K
def gE {α : Type} (b : Bool) (t u : Tr α) : Tr α := fun K => bd b (t K) (u K)
inductive eH {α : Type} (l : List α) (n : Nat) (K : α → Prop) : Prop where
 | mk (a : α) (h : l[n]? = some a) (k : K a)
def jM {α β : Type} (l : List α) (n : Nat) (f : α → Tr β) : Tr β := fun K => eH l n fun a => f a K
theorem gK {α β : Type} (l : List α) (n : Nat) (f : α → Tr β) : jM l n f = cG (l[n]?) f := by
 funext K
 apply propext
 constructor
 . rintro ⟨a, h, k⟩
   show dE (l[n]?) _
   rw [h]; exact k
 . intro h
   have h : dE (l[n]?) fun a => f a K := h
   cases hl : l[n]? with
   | none => rw [hl] at h; exact h.elim
   | some a => rw [hl] at h; exact ⟨a, hl, h⟩
def d8 {α β : Type} (t : Tr α) (f : α → Tr β) : Tr β := fun K => t fun a => f a K
def exT {α β : Type} (f : α → Tr β) : Tr β := fun K => ∃ a, f a K

def force {α : Type} (x : V) (K : V → Tr α) : Tr α := match x with
 | .undef => K .undef | .int k n => K (.int k n) | .bool b => K (.bool b) | .str a => K (.str a) | .agg cs => K (.agg cs) | .tuple vs => K (.tuple vs)
 | .list c z l => K (.list c z l) | .nilptr => K .nilptr | .box cs o => K (.box cs o) | .ptr i o => K (.ptr i o) | .bptr i a o => K (.bptr i a o)
 | .buf i => K (.buf i) | .iface t v => K (.iface t v) | .nilIface => K .nilIface | .func f a b => K (.func f a b) | .nilFunc => K .nilFunc
 | .map i => K (.map i) | .nilmap => K .nilmap
@[simp] theorem force_eq {α : Type} (x : V) (K : V → Tr α) : force x K = K x := by cases x <;> rfl
def aR {α : Type} (n : Nat) (K : Nat → Tr α) : Tr α := match n with
 | 0 => K 0 | 1 => K 1 | 2 => K 2 | 3 => K 3 | 4 => K 4 | 5 => K 5 | 6 => K 6 | 7 => K 7 | 8 => K 8 | 9 => K 9 | 10 => K 10 | 11 => K 11 | 12 => K 12
 | 13 => K 13 | 14 => K 14 | 15 => K 15 | 16 => K 16 | 17 => K 17 | 18 => K 18 | 19 => K 19 | 20 => K 20 | n => K n
@[simp] theorem cy {α : Type} (n : Nat) (K : Nat → Tr α) : aR n K = K n := by unfold aR; split <;> rfl
mutual
def eM {α : Type} (x : V) (K : V → α) : α := match x with
 | .undef => K .undef | .int k n => K (.int k n) | .bool b => K (.bool b) | .str a => K (.str a) | .agg cs => bM cs fun cs => K (.agg cs) | .tuple vs => bM vs fun vs => K (.tuple vs)
 | .list c z l => K (.list c z l) | .nilptr => K .nilptr | .box cs o => K (.box cs o) | .ptr i o => K (.ptr i o) | .bptr i a o => K (.bptr i a o)
 | .buf i => K (.buf i) | .iface t v => eM v fun v => K (.iface t v) | .nilIface => K .nilIface | .func f a b => bM a fun a => bM b fun b => K (.func f a b) | .nilFunc => K .nilFunc
 | .map i => K (.map i) | .nilmap => K .nilmap
def bM {α : Type} (l : List V) (K : List V → α) : α := match l with
 | [] => K []
 | x :: xs => eM x fun x => bM xs fun xs => K (x :: xs)
end
mutual
theorem jE {α : Type} : ∀ (x : V) (K : V → α), eM x K = K x
 | .undef, _ | .int .., _ | .bool _, _ | .str _, _ | .list .., _ | .nilptr, _ | .box .., _ | .ptr .., _ | .bptr .., _ | .buf _, _ | .nilIface, _ | .nilFunc, _ | .map _, _ | .nilmap, _ => by simp only [eM]
 | .agg cs, K | .tuple cs, K => by simp only [eM]; exact ga cs _
 | .iface t v, K => by simp only [eM]; exact jE v _
 | .func f a b, K => by simp only [eM]; rw [ga a]; exact ga b _
theorem ga {α : Type} : ∀ (l : List V) (K : List V → α), bM l K = K l
 | [], _ => by simp only [bM]
 | x :: xs, K => by simp only [bM]; rw [jE x]; exact ga xs _
end
def jF {α : Type} (l : List V) (f : List V → Tr α) : Tr α := fun K => bM l fun l => f l K
@[simp] theorem nn {α : Type} (l : List V) (f : List V → Tr α) : jF l f = f l := by funext K; exact ga l _
def pA {α : Type} (o : O) (K : O → α) : α := match o with
 | .dead => K .dead | .cells cs => bM cs fun cs => K (.cells cs) | .buf a b l => K (.buf a b l) | .siter s p => K (.siter s p) | .map a sh es bs ck => K (.map a sh es bs ck)
 | .miter m bs ck l x => eM m fun m => K (.miter m bs ck l x)
@[simp] theorem wv {α : Type} (o : O) (K : O → α) : pA o K = K o := by cases o <;> simp only [pA, ga, jE]
def fB {α : Type} (l : List O) (K : List O → α) : α := match l with
 | [] => K []
 | x :: xs => pA x fun x => fB xs fun xs => K (x :: xs)
@[simp] theorem m0 {α : Type} : ∀ (l : List O) (K : List O → α), fB l K = K l
 | [], _ => by simp only [fB]
 | x :: xs, K => by simp only [fB]; rw [wv x]; exact m0 xs _
def iT (l : List (Nat × V)) (K : List (Nat × V) → Prop) : Prop := match l with
 | [] => K []
 | (t, x) :: xs => eM x fun x => iT xs fun xs => K ((t, x) :: xs)
@[simp] theorem DY : ∀ (l : List (Nat × V)) (K : List (Nat × V) → Prop), iT l K = K l
 | [], _ => by simp only [iT]
 | (t, x) :: xs, K => by simp only [iT]; rw [jE x]; exact DY xs _
def eO {α : Type} (l : List α) (K : List α → Prop) : Prop := match l with
 | [] => K []
 | x :: xs => eO xs fun xs => K (x :: xs)
@[simp] theorem np {α : Type} : ∀ (l : List α) (K : List α → Prop), eO l K = K l
 | [], _ => by simp only [eO]
 | x :: xs, K => by simp only [eO]; exact np xs _
def nq (l : List (Nat × O)) (K : List (Nat × O) → Prop) : Prop := match l with
 | [] => K []
 | (t, x) :: xs => pA x fun x => nq xs fun xs => K ((t, x) :: xs)
@[simp] theorem wx : ∀ (l : List (Nat × O)) (K : List (Nat × O) → Prop), nq l K = K l
 | [], _ => by simp only [nq]
 | (t, x) :: xs, K => by simp only [nq]; rw [wv x]; exact wx xs _
def eN (e : Ef) (K : Ef → Prop) : Prop := match e with
 | ⟨v, ks, up, nw, rd⟩ => eM v fun v => eO ks fun ks => nq up fun up => fB nw fun nw => eO rd fun rd => K ⟨v, ks, up, nw, rd⟩
@[simp] theorem fA (e : Ef) (K : Ef → Prop) : eN e K = K e := by cases e; simp only [eN, jE, np, wx, m0]

def cN (s : AS) (d : Option Nat) (e : Ef) (K : AS → Prop) : Prop := match s, d, e with
 | ⟨nt, tm, sg, kl⟩, some d, ⟨v, [], [], [], _⟩ => K ⟨nt, (d, v) :: tm, sg, kl⟩
 | ⟨nt, tm, sg, kl⟩, none, ⟨_, [], [], [], _⟩ => K ⟨nt, tm, sg, kl⟩
 | ⟨nt, tm, sg, kl⟩, some d, ⟨v, [], up, nw, _⟩ => fB (ec (cA sg up) nw) fun sg => K ⟨nt, (d, v) :: tm, sg, kl⟩
 | ⟨nt, tm, sg, kl⟩, none, ⟨_, [], up, nw, _⟩ => fB (ec (cA sg up) nw) fun sg => K ⟨nt, tm, sg, kl⟩
 | ⟨nt, tm, sg, kl⟩, some d, ⟨v, ks, up, nw, _⟩ => iT (eQ ks tm) fun tm => fB (ec (cA (fD ks sg) up) nw) fun sg => eO (d7 ks kl) fun kl => K ⟨nt, (d, v) :: tm, sg, kl⟩
 | ⟨nt, tm, sg, kl⟩, none, ⟨_, ks, up, nw, _⟩ => iT (eQ ks tm) fun tm => fB (ec (cA (fD ks sg) up) nw) fun sg => eO (d7 ks kl) fun kl => K ⟨nt, tm, sg, kl⟩
@[simp] theorem de (s : AS) (d : Option Nat) (e : Ef) (K : AS → Prop) : cN s d e K = K (s.app d e) := by
 obtain ⟨nt, tm, sg, kl⟩ := s
 obtain ⟨v, ks, up, nw, rd⟩ := e
 cases d <;> cases ks <;> cases up <;> cases nw <;> simp [cN, AS.app, eQ, fD, d7, cA, ec]

inductive TK where
 | bool | int (k : IntKind) | string
 | slice (e : TypeId) | array (n : Nat) (e : TypeId) | ptr (e : TypeId)
 | struct (fs : List (Nat × TypeId)) | iface | func | map (k e : TypeId) | other
structure TI where
 k : TK
 size : Nat
 bytes : Nat
 zero : V
 feq : List Sc

inductive dw where
 | tm (t sz : Nat)
 | cell (i off sz : Nat)
 | swap (i j : Nat)
 | nw
 | bu (i : Nat)
 | fbx (i : Nat)
structure Ctx where
 P : Program
 ti : TypeId → TI
 gl : Nat → Option (List V)
 Γ : FuncId → List V → List O → Option (Prop × V × Option (List O))
 mt : TypeId → String → FuncId → Prop
 hint : Nat → List dw
 lits : Nat → Bool
 yd : Nat → List V → List O → List Nat → Option (Prop × V × List O × List Nat) := fun _ _ _ _ => none
 pn : FuncId → List V → List O → Option (Prop × Prop × V × Option (List O) × V × Option (List O)) := fun _ _ _ => none
 pdr : Nat → Bool := fun _ => false
def Ctx.eT (C : Ctx) : Ctx := { C with Γ := fun f a s => match C.pn f a s with
 | some (pre, c, u, r, _, _) => some (pre ∧ c, u, r)
 | none => none }
def Ctx.gq (C : Ctx) : Ctx := { C with Γ := fun f a s => match C.pn f a s with
 | some (pre, c, _, _, x, r) => some (pre ∧ ¬ c, x, r)
 | none => none }
def gP : V → Option Value
 | .iface t (.int k n) => some (.iface t (.int k n))
 | _ => none

def TK.isAgg : TK → Bool
 | .struct _ | .array _ _ => true
 | _ => false

def y3 (k : IntKind) (m : Nat) : Bool := match k with
 | .i8 => Nat.ble m 127 | .i16 => Nat.ble m 32767 | .i32 => Nat.ble m 2147483647 | .i64 => Nat.ble m 9223372036854775807
 | .u8 => Nat.ble m 255 | .u16 => Nat.ble m 65535 | .u32 => Nat.ble m 4294967295 | .u64 => Nat.ble m 18446744073709551615
def y5 (k : IntKind) (m : Nat) : Bool := match k with
 | .i8 => Nat.ble m 127 | .i16 => Nat.ble m 32767 | .i32 => Nat.ble m 2147483647 | .i64 => Nat.ble m 9223372036854775807
 | _ => false
def pE (k : IntKind) (n : Int) : Bool := match n with
 | .ofNat m => y3 k m
 | .negSucc m => y5 k m

def pW : Value → V
 | .int k n => cond (pE k n) (.int k n) .undef
 | .bool b => .bool b
 | .string s => cond (Nat.ble s.data.toList.length 1048576) (.str s.data.toList) .undef
 | .slice none 0 0 => .list true 0 []
 | .pointer none => .nilptr
 | .nilIface => .nilIface
 | .nilFunc => .nilFunc
 | .map none => .nilmap
 | _ => .undef
def sL : List Value → List V
 | [] => []
 | v :: vs => pW v :: sL vs
def sK : Value → V
 | .agg cs => .agg (sL cs.toList)
 | v => pW v

def AS.ev (C : Ctx) (s : AS) : Operand → V
 | .tmp t => lk s.tm t
 | .const v => sK v
 | .global g => match C.gl g with
   | some cs => .box cs 0
   | none => .undef
 | .func f => .func (.func f) [] []
def AS.bF (C : Ctx) (s : AS) : List Operand → List V
 | [] => []
 | x :: xs => s.ev C x :: AS.bF C s xs

def bv (b : UInt8) : V := .int .u8 b.toNat
def bl : List UInt8 → List V
 | [] => []
 | b :: s => bv b :: bl s

def jL (k : IntKind) (a b : Int) : Int := k.wrap (BitVec.ofInt k.bits a &&& BitVec.ofInt k.bits b).toNat
def i4 (k : IntKind) (a b : Int) : Int := k.wrap (BitVec.ofInt k.bits a ||| BitVec.ofInt k.bits b).toNat
def nx (k : IntKind) (a b : Int) : Int := k.wrap (BitVec.ofInt k.bits a ^^^ BitVec.ofInt k.bits b).toNat
def wI (k : IntKind) (a b : Int) : Int := k.wrap (BitVec.ofInt k.bits a &&& ~~~ BitVec.ofInt k.bits b).toNat
def i5 (k : IntKind) (a b : Int) : Int := k.wrap (a * 2 ^ (min b.toNat k.bits))
def cB (k : IntKind) (a b : Int) : Int := a.fdiv (2 ^ (min b.toNat k.bits))

def kA : V → V → Option Bool
 | .int k a, .int k' b => cond (cS k k') (some (a == b)) none
 | .str a, .str b => some (a == b)
 | .bool a, .bool b => some (a == b)
 | _, _ => none
def eqs : List V → List V → Option Bool
 | [], [] => some true
 | [x], [y] => kA x y
 | x :: xs, y :: ys => match kA x y, eqs xs ys with
   | some a, some b => some (a && b)
   | _, _ => none
 | _, _ => none

def rX : List Sc → List V → Bool
 | [], _ => false
 | k :: ks, xs => bS (k :: ks) xs
def iP (C : Ctx) (op : BinOp) (t : TypeId) (x y : V) : Tr V :=
 match x, y with
 | .int k a, .int k' b => match op with
   | .shl => ar (0 ≤ b) (ret (.int k (i5 k a b)))
   | .shr => ar (0 ≤ b) (ret (.int k (cB k a b)))
   | .add => aS (cS k k') (ret (.int k (k.wrap (a + b))))
   | .sub => aS (cS k k') (ret (.int k (k.wrap (a - b))))
   | .mul => aS (cS k k') (ret (.int k (k.wrap (a * b))))
   | .quo => aS (cS k k') (ar (b ≠ 0) (ret (.int k (k.wrap (a.tdiv b)))))
   | .rem => aS (cS k k') (ar (b ≠ 0) (ret (.int k (a.tmod b))))
   | .and => aS (cS k k') (ret (.int k (jL k a b)))
   | .or => aS (cS k k') (ret (.int k (i4 k a b)))
   | .xor => aS (cS k k') (ret (.int k (nx k a b)))
   | .andNot => aS (cS k k') (ret (.int k (wI k a b)))
   | .eql => aS (cS k k') (ret (.bool (a == b)))
   | .neq => aS (cS k k') (ret (.bool (a != b)))
   | .lss => aS (cS k k') (ret (.bool (decide (a < b))))
   | .leq => aS (cS k k') (ret (.bool (decide (a ≤ b))))
   | .gtr => aS (cS k k') (ret (.bool (decide (a > b))))
   | .geq => aS (cS k k') (ret (.bool (decide (a ≥ b))))
 | .str a, .str b => match op with
   | .add => ar (a.length + b.length ≤ 4294967296) (ret (.str (a ++ b)))
   | .eql => ret (.bool (a == b))
   | .neq => ret (.bool (!(a == b)))
   | .lss => ret (.bool (Op.bytesLess a b))
   | .leq => ret (.bool (Op.bytesLess a b || a == b))
   | .gtr => ret (.bool (!(Op.bytesLess a b || a == b)))
   | .geq => ret (.bool (!(Op.bytesLess a b)))
   | _ => fail
 | .bool a, .bool b => match op, (C.ti t).k with
   | .eql, .bool => ret (.bool (a == b))
   | .neq, .bool => ret (.bool (!(a == b)))
   | _, _ => fail
 | .agg a, .agg b => match (C.ti t).k with
   | .other | .map _ _ => fail
   | _ => aS (rX (C.ti t).feq a && (rX (C.ti t).feq b && Nat.beq a.length (C.ti t).size)) (cG (eqs a b) fun r => match op with
     | .eql => ret (.bool r)
     | .neq => ret (.bool (!r))
     | _ => fail)
 | .nilptr, .nilptr => match op, (C.ti t).k with
   | .eql, .ptr _ => ret (.bool true)
   | .neq, .ptr _ => ret (.bool false)
   | _, _ => fail
 | .ptr _ _, .nilptr | .nilptr, .ptr _ _ | .bptr _ _ _, .nilptr | .nilptr, .bptr _ _ _ | .box _ _, .nilptr | .nilptr, .box _ _ => match op, (C.ti t).k with
   | .eql, .ptr _ => ret (.bool false)
   | .neq, .ptr _ => ret (.bool true)
   | _, _ => fail
 | .iface _ _, .nilIface | .nilIface, .iface _ _ => match op, (C.ti t).k with
   | .eql, .iface => ret (.bool false)
   | .neq, .iface => ret (.bool true)
   | _, _ => fail
 | _, _ => fail

def nj (op : UnOp) (x : V) : Tr V :=
 match op, x with
 | .neg, .int k n => ret (.int k (k.wrap (0 - n)))
 | .xor, .int k n => ret (.int k (nx k (if k.signed then -1 else k.max) n))
 | .not, .bool b => ret (.bool (!b))
 | _, _ => fail

def eS (agg : Bool) (size : Nat) (cs : List V) (off : Nat) : Tr V :=
 match agg with
 | true => cG (eD (fQ cs off) size) fun r => ret (.agg r)
 | false => cG (gb cs off) ret

def elems (s : AS) (x : V) : Tr (Nat × List V × List Nat) :=
 match x with
 | .list _ sz l => ret (sz, l, [])
 | .str b => ret (1, bl b, [])
 | .buf i => match aq s.sg i with
   | .buf sz _ l => ret (sz, l, [i])
   | _ => fail
 | _ => fail

def iv (sz esz : Nat) (l : List V) : Bool :=
 match Nat.beq sz esz with
 | true => true
 | false => match l with
   | [] => true
   | _ => false
def V.one : V → Bool
 | .agg _ | .tuple _ | .undef => false
 | _ => true
def cV : List V → Bool
 | [] => true
 | c :: cs => c.one && cV cs

def V.d9 : V → Bool
 | .undef => true
 | _ => false
mutual
def V.pure : V → Bool
 | .undef | .ptr _ _ | .bptr _ _ _ | .buf _ | .map _ => false
 | .agg cs | .tuple cs => V.ew cs
 | .iface _ x => V.pure x
 | .func _ fs cs => V.ew fs && V.ew cs
 | _ => true
def V.ew : List V → Bool
 | [] => true
 | c :: cs => V.pure c && V.ew cs
end

def mu : List (Nat × V) → Nat → Nat → Option (List V)
 | [], _, _ => some []
 | (i, x) :: r, k, sz => match Nat.beq i k, Nat.beq x.cells.length sz, x.pure && cV x.cells with
   | true, true, true => match mu r (k + 1) sz with
     | some l => some (x :: l)
     | none => none
   | _, _, _ => none

def lZ (place : Nat → Option (Nat × Nat)) : List (Nat × V) → List V → Option (List V)
  | [], cs => some cs
  | (i, x) :: r, cs => match place i with
    | none => none
    | some (off, size) => match Nat.beq x.cells.length size && Nat.blt 0 size, x.d9 with
      | true, false => match eY cs off x.cells with
        | some cs' => lZ place r cs'
        | none => none
      | _, _ => none
def bk : List (Nat × TypeId) → Nat → Option (Nat × TypeId)
 | [], _ => none
 | x :: _, 0 => some x
 | _ :: xs, i + 1 => bk xs i
def placeOf (C : Ctx) (fs : List (Nat × TypeId)) (i : Nat) : Option (Nat × Nat) := match bk fs i with
 | some (off, t) => match (C.ti t).k with
   | .other => none
   | _ => some (off, (C.ti t).size)
 | none => none

def et (C : Ctx) (s : AS) : List (Nat × Operand) → List (Nat × V)
 | [] => []
 | (i, x) :: r => (i, s.ev C x) :: et C s r

def pe (v : V) : Ef := ⟨v, [], [], [], []⟩

def idxOf (i : Nat) : List Nat → Nat → Option Nat
 | [], _ => none
 | k :: ks, n => cond (Nat.beq k i) (some n) (idxOf i ks (n + 1))
mutual
def V.aQ (f : Nat → Option Nat) : V → V
 | .ptr i o => match f i with
   | some j => .ptr j o
   | none => .undef
 | .bptr i a o => match f i with
   | some j => .bptr j a o
   | none => .undef
 | .buf i => match f i with
   | some j => .buf j
   | none => .undef
 | .map i => match f i with
   | some j => .map j
   | none => .undef
 | .agg cs => .agg (V.eW f cs)
 | .tuple cs => .tuple (V.eW f cs)
 | .iface t x => .iface t (V.aQ f x)
 | .func g fs cs => .func g (V.eW f fs) (V.eW f cs)
 | .undef => .undef | .int k n => .int k n | .bool b => .bool b | .str s => .str s | .list c z l => .list c z l
 | .nilptr => .nilptr | .box cs o => .box cs o | .nilIface => .nilIface | .nilFunc => .nilFunc | .nilmap => .nilmap
def V.eW (f : Nat → Option Nat) : List V → List V
 | [] => []
 | c :: cs => V.aQ f c :: V.eW f cs
end
def O.aQ (f : Nat → Option Nat) : O → O
 | .cells cs => .cells (V.eW f cs)
 | .dead => .dead | .buf a b l => .buf a b l | .siter s p => .siter s p | .map a sh es bs ck => .map a sh es bs ck
 | .miter m bs ck l x => .miter (m.aQ f) bs ck l x
mutual
def V.names : V → List Nat → List Nat
 | .ptr i _, acc | .bptr i _ _, acc | .buf i, acc | .map i, acc => cond (aw i acc) acc (acc ++ [i])
 | .agg cs, acc | .tuple cs, acc => V.cJ cs acc
 | .iface _ x, acc => V.names x acc
 | .func _ fs cs, acc => V.cJ cs (V.cJ fs acc)
 | _, acc => acc
def V.cJ : List V → List Nat → List Nat
 | [], acc => acc
 | c :: cs, acc => V.cJ cs (V.names c acc)
end
def O.names : O → List Nat → List Nat
 | .cells cs, acc => V.cJ cs acc
 | .miter m _ _ _ _, acc => V.names m acc
 | _, acc => acc
def reach (sg : List O) : Nat → List Nat → List Nat → List Nat
 | 0, _, acc => acc
 | _ + 1, [], acc => acc
 | fuel + 1, i :: todo, acc =>
   let acc' := (aq sg i).names acc
   reach sg fuel (todo ++ acc'.drop acc.length) acc'
def locals (sg : List O) (f : Nat → Option Nat) : List Nat → List O
 | [] => []
 | i :: is => (aq sg i).aQ f :: locals sg f is
def bX : List Nat → Nat → Nat → Nat → Option Nat
 | i :: _, _, _, 0 => some i
 | _ :: th, n, k, j + 1 => bX th n k j
 | [], n, k, j => cond (Nat.blt j k) (some (n + j)) none
def fu (sg : List O) : List Nat → List Nat
 | [] => []
 | i :: is => match aq sg i with
   | .buf _ _ _ => i :: fu sg is
   | _ => fu sg is
def g5 (f : Nat → Option Nat) : List Nat → List O → List (Nat × O)
 | i :: is, o :: os => (i, o.aQ f) :: g5 f is os
 | _, _ => []
def fF (f : Nat → Option Nat) : List O → List O
 | [] => []
 | o :: os => o.aQ f :: fF f os

def cE : List O → Nat → List O
 | xs, 0 => xs
 | [], _ + 1 => []
 | _ :: xs, n + 1 => cE xs n

def eu : List Nat → Bool
 | [] => true
 | k :: ks => cond (aw k ks) false (eu ks)
def eI (sg : List O) : List Nat → Bool
 | [] => true
 | i :: is => match aq sg i with
   | .dead => false
   | _ => eI sg is
mutual
def V.within (th : List Nat) : V → Bool
 | .ptr j _ | .bptr j _ _ | .buf j | .map j => aw j th
 | .agg cs | .tuple cs => V.kh th cs
 | .iface _ x => V.within th x
 | .func _ fs cs => V.kh th fs && V.kh th cs
 | _ => true
def V.kh (th : List Nat) : List V → Bool
 | [] => true
 | c :: cs => V.within th c && V.kh th cs
end
def eJ (sg : List O) (th : List Nat) : List Nat → Bool
 | [] => true
 | i :: is => match aq sg i with
   | .cells cs => V.kh th cs && eJ sg th is
   | .miter m _ _ _ _ => V.within th m && eJ sg th is
   | _ => eJ sg th is

def kL {α : Type} (l : List Nat) (K : List Nat → α) : α := match l with
 | [] => K []
 | x :: xs => kL xs fun xs => K (x :: xs)
theorem jG {α : Type} : ∀ (l : List Nat) (K : List Nat → α), kL l K = K l
 | [], _ => by simp only [kL]
 | x :: xs, K => by simp only [kL]; exact jG xs _
def dO : List O → Bool
 | [] => false
 | .dead :: [] => true
 | _ :: os => dO os
def ni (C : Ctx) (sg : List O) (f : FuncId) (args : List V) (th : List Nat) : Option (Prop × Ef) :=
 cond (eu th && eI sg th) (bM (V.eW (fun i => idxOf i th 0) args) fun args' => fB (locals sg (fun i => idxOf i th 0) th) fun lo => match C.Γ f args' lo with
  | none => none
  | some (pre, v, none) => cond (eJ sg th th) (some (pre, ⟨v.aQ (bX th 0 0), [], [], [], th⟩)) none
  | some (pre, v, some sg') =>
    some (pre, ⟨v.aQ (bX th sg.length (cE sg' th.length).length), cond (dO sg') [] (fu sg th), g5 (bX th sg.length (cE sg' th.length).length) th sg', fF (bX th sg.length (cE sg' th.length).length) (cE sg' th.length), th⟩)) none
def dh (C : Ctx) (sg : List O) (f : FuncId) (args : List V) : Option (Prop × Ef) :=
 kL (V.cJ args []) fun a0 => kL (reach sg 256 a0 a0) fun th => ni C sg f args th

def target (C : Ctx) (s : AS) (c : Call) : Option (FuncId × List V) :=
 match c.callee with
 | .value f => match s.ev C f with
   | .func (.func g) first captured => some (g, first ++ s.bF C c.args.toList ++ captured)
   | _ => none
 | _ => none

def jo (C : Ctx) (s : AS) (e : TypeId) (x : V) (ys : List V) (rd : List Nat) : Tr Ef :=
 match x with
 | .list true sz0 l => aS (iv sz0 (C.ti e).size l) (ar (l.length + ys.length ≤ 4294967296) (ar (l = [] ∨ ys ≠ [])
  (aR s.sg.length fun i => aR (C.ti e).size fun sz => ret ⟨.buf i, [], [], [.buf sz 0 (l ++ ys)], rd⟩)))
 | .buf i => match aq s.sg i with
   | .buf sz0 pre l => aS (Nat.beq sz0 (C.ti e).size && !aw i rd) (ar (l.length + ys.length ≤ 4294967296) (ret ⟨.buf i, [i], [(i, .buf sz0 pre (l ++ ys))], [], i :: rd⟩))
   | _ => fail
 | _ => fail

def cz {α β : Type} (o : Option α) (f : α → Tr β) (g : Tr β) : Tr β := fun K => (∀ a, o = some a → f a K) ∧ (o = none → g K)
def tn : Sc → Sc → Bool
 | .kB, .kB => true
 | .kI k, .kI k' => cS k k'
 | .kS, .kS => true
 | _, _ => false
def mA : List Sc → List Sc → Bool
 | [], [] => true
 | a :: r, b :: q => tn a b && mA r q
 | _, _ => false
def oV (a b : Bool) : Bool := cond a b (!b)
def pU (C : Ctx) (t : TypeId) : Option (Bool × List Sc) := match (C.ti t).k with
 | .map k e => match (C.ti k).k, (C.ti e).k, (C.ti t).feq with
   | .other, _, _ => none
   | _, _, [] => none
   | kk, .int .i64, sh => match (C.ti e).zero with
     | .int .i64 (.ofNat 0) => some (kk.isAgg, sh)
     | _ => none
   | _, _, _ => none
 | _ => none
def da (C : Ctx) (s : AS) (t : TypeId) (m : V) (F : Nat → Bool → List Sc → List (V × Int) → List Nat → Nat → Tr Ef) : Tr Ef :=
 cG (pU C t) fun p => match m with
   | .map i => match aq s.sg i with
     | .map ag sh es bs ck => aS (oV ag p.1 && mA sh p.2) (F i ag sh es bs ck)
     | _ => fail
   | _ => fail
def jx (C : Ctx) (s : AS) (t : TypeId) : Tr Ef :=
 cG (pU C t) fun p => aR s.sg.length fun n => ret ⟨.map n, [], [], [.map p.1 p.2 [] [] 0], []⟩
def g8 (C : Ctx) (s : AS) (t : TypeId) (m x : Operand) (ok : Bool) : Tr Ef :=
 da C s t (s.ev C m) fun i ag sh es _ _ => force (s.ev C x) fun x => aS (fz ag sh x) (match ok with
  | true => cz (cF es x) (fun r => ret ⟨.tuple [.int .i64 r.2, .bool true], [], [], [], [i]⟩) (ret ⟨.tuple [.int .i64 0, .bool false], [], [], [], [i]⟩)
  | false => ret ⟨.int .i64 (getM es x), [], [], [], [i]⟩)
def jz (C : Ctx) (s : AS) (t : TypeId) (m x y : Operand) : Tr Ef :=
  da    C s t (s.ev C m) fun i ag sh es bs ck => force (s.ev C x) fun x => aS (fz ag sh x) (match s.ev C y with
   | .int .i64 q => cz (cF es x) (fun r => ret ⟨.undef, [], [(i, .map ag sh (fZ es r.1 q) bs ck)], [], [i]⟩)
    (ret ⟨.undef, [], [(i, .map ag sh (es ++ [(x, q)]) (bs ++ [ck]) (ck + 1))], [], [i]⟩)
   | _ => fail)
def hM (C : Ctx) (s : AS) (t : TypeId) (m x : Operand) : Tr Ef :=
 da C s t (s.ev C m) fun i ag sh es bs ck => force (s.ev C x) fun x => aS (fz ag sh x) (ar (ck ≤ 9223372036854775807)
  (cz (cF es x) (fun r => ret ⟨.tuple [.int .i64 r.2, .int .i64 (bs.getD r.1 0 : Nat)], [], [(i, .map ag sh es bs ck)], [], [i]⟩)
   (ret ⟨.tuple [.int .i64 0, .int .i64 ck], [], [(i, .map ag sh (es ++ [(x, 0)]) (bs ++ [ck]) (ck + 1))], [], [i]⟩)))
def jr (C : Ctx) (s : AS) (t : TypeId) (m b y : Operand) : Tr Ef :=
 da C s t (s.ev C m) fun i ag sh es bs ck => match s.ev C b, s.ev C y with
  | .int .i64 b, .int .i64 q => exT fun j => ar (0 ≤ b ∧ bs[j]? = some b.toNat) (ret ⟨.undef, [], [(i, .map ag sh (fZ es j q) bs ck)], [], [i]⟩)
  | _, _ => fail
def jq (C : Ctx) (s : AS) (t : TypeId) (m x : V) : Tr Ef :=
 da C s t m fun i ag sh es bs ck => force x fun x => aS (fz ag sh x)
  (cz (cF es x) (fun r => ret ⟨.tuple [], [], [(i, .map ag sh (es.eraseIdx r.1) (bs.eraseIdx r.1) ck)], [], [i]⟩) (ret ⟨.tuple [], [], [(i, .map ag sh es bs ck)], [], [i]⟩))
def jw (C : Ctx) (s : AS) (t : TypeId) (m : V) : Tr Ef :=
 da C s t m fun i _ _ _ bs ck => aR s.sg.length fun n => ret ⟨.ptr n 0, [], [], [.miter (.map i) bs ck (List.range bs.length) bs.length], [i]⟩
def kE (C : Ctx) (s : AS) (x : Operand) : Tr Ef :=
 match s.ev C x with
 | .ptr k 0 => match aq s.sg k with
   | .miter (.map i) bs ck _ last => match aq s.sg i with
     | .map _ _ es bs' ck' => ar (bs' = bs ∧ ck' = ck) (jM es last fun e => ret ⟨.tuple [.undef, .int .i64 e.2], [], [], [], [k, i]⟩)
     | _ => fail
   | _ => fail
 | _ => fail

def gH (C : Ctx) (s : AS) (b : Builtin) (ts : List TypeId) (args : List V) : Tr Ef :=
  match b, ts, args with
  | .len, [t], [x] => match (C.ti t).k with
    | .array n _ => aS (Nat.ble n 4294967296) (ret (pe (.int .i64 n)))
    | .string => match x with
      | .str a => ret (pe (.int .i64 a.length))
      | _ => fail
    | .slice _ => match x with
      | .list _ _ l => ret (pe (.int .i64 l.length))
      | .buf i => match aq s.sg i with
        | .buf _ _ l => ret ⟨.int .i64 l.length, [], [], [], [i]⟩
        | _ => fail
      | _ => fail
    | _ => fail
  | .append, [t, t2], [x, y] => match (C.ti t).k, (C.ti t2).k with
    | _, .int _ => fail
    | _, .other => fail
    | .slice e, _ => match (C.ti e).k with
      | .other => fail
      | _ => aS (Nat.ble (C.ti e).bytes 4096 && Nat.blt 0 (C.ti e).size && !(C.ti e).zero.d9 && Nat.beq (C.ti e).zero.cells.length (C.ti e).size) (d8 (elems s y) fun r => match r with
        | (sz, ys, rd) => aS (iv sz (C.ti e).size ys) (jo C s e x ys rd))
    | _, _ => fail
  | .copy, [t, _], [x, y] => match (C.ti t).k, x with
    | .slice e, .buf i => match (C.ti e).k with
      | .other => fail
      | _ => match aq s.sg i with
        | .buf sz0 0 l => d8 (elems s y) fun r => match r with
          | (sz, ys, rd) => aS (iv sz sz0 ys && Nat.beq sz0 (C.ti e).size && !aw i rd)
            (ret ⟨.int .i64 (min ys.length l.length : Nat), [], [(i, .buf sz0 0 (ys.take l.length ++ l.drop ys.length))], [], i :: rd⟩)
        | _ => fail
    | _, _ => fail
  | .delete, t :: _, [m, x] => jq C s t m x
  | .max, _, [.int k a, .int k' b] => aS (cS k k') (ret (pe (.int k (if b > a then b else a))))
  | .min, _, [.int k a, .int k' b] => aS (cS k k') (ret (pe (.int k (if b < a then b else a))))
  | _, _, _ => fail

def fT (C : Ctx) (s : AS) (src dst : TypeId) (x : V) : Tr Ef :=
 match (C.ti src).k, (C.ti dst).k, x with
 | .other, _, _ => fail
 | _, .int k, .int _ n => ret (pe (.int k (k.wrap n)))
 | .string, .string, .str a => ret (pe (.str a))
 | .string, .slice e, .str a => match (C.ti e).k with
   | .int .u8 => ret (pe (.list false 1 (bl a)))
   | _ => fail
 | .slice e, .string, x => match (C.ti e).k, x with
   | _, .str _ => fail
   | .int .u8, _ => d8 (elems s x) fun r => match r with
     | (sz, l, rd) => aS (iv sz 1 l) (exT fun a => ar (l = bl a) (ret ⟨.str a, [], [], [], rd⟩))
   | _, _ => fail
 | _, _, _ => fail

def jA (C : Ctx) (s : AS) (a b : TypeId) (x : V) : Tr Ef := match x with
  | .buf i => cond (Nat.beq a b) (match (C.ti a).k with
    | .slice e => match (C.ti e).k with
      | .int .u8 => match aq s.sg i with
        | .buf sz pre (y :: l) => ret ⟨.buf i, [], [(i, .buf sz pre (y :: l))], [], [i]⟩
        | _ => fail
      | _ => fail
    | _ => fail) (fT C s a b (.buf i))
  | x => fT C s a b x

def ct (r : Option (Prop × Ef)) : Tr Ef := cG r fun p => ar p.1 (fun K => eN p.2 K)

def fy (C : Ctx) (s : AS) (len : Nat) (lo hi : Option Operand) : Tr (Option Int × Option Int) :=
 match lo, hi with
 | none, none => ret (none, none)
 | some l, none => match s.ev C l with
   | .int _ l => ar (0 ≤ l ∧ l ≤ len) (ret (some l, none))
   | _ => fail
 | none, some h => match s.ev C h with
   | .int _ h => ar (0 ≤ h ∧ h ≤ len) (ret (none, some h))
   | _ => fail
 | some l, some h => match s.ev C l, s.ev C h with
   | .int _ l, .int _ h => ar (0 ≤ l ∧ l ≤ h ∧ h ≤ len) (ret (some l, some h))
   | _, _ => fail
def lH {α : Type} (a : List α) : Option Int × Option Int → List α
 | (none, none) => a
 | (some l, none) => a.drop l.toNat
 | (none, some h) => a.take h.toNat
 | (some l, some h) => (a.take h.toNat).drop l.toNat
def n8 {α β : Type} (a : List α) (r : Option Int × Option Int) (K : List α → Tr β) : Tr β := match r with
 | (none, none) => K a
 | (some l, none) => K (a.drop l.toNat)
 | (none, some h) => K (a.take h.toNat)
 | (some l, some h) => K ((a.take h.toNat).drop l.toNat)
@[simp] theorem n9 {α β : Type} (a : List α) (r : Option Int × Option Int) (K : List α → Tr β) : n8 a r K = K (lH a r) := by
 obtain ⟨l, h⟩ := r; cases l <;> cases h <;> rfl

def lV (C : Ctx) (s : AS) (c a b : Operand) : Tr Ef :=
 match s.ev C c with
 | .bool t => force (s.ev C a) fun a => force (s.ev C b) fun b => match a, b with
   | .bool x, .bool y => ret (pe (.bool (cond t x y)))
   | x, y => gE t (ret (pe x)) (ret (pe y))
 | _ => fail

def jn (C : Ctx) (s : AS) (t : TypeId) : Tr Ef :=
 match (C.ti t).k with
 | .other => fail
 | _ => force (C.ti t).zero fun z => aR s.sg.length fun n => aS (!z.d9) (ret ⟨.ptr n 0, [], [], [.cells z.cells], []⟩)

def kC (C : Ctx) (s : AS) (t : TypeId) (parts : Array (Nat × Operand)) : Tr Ef :=
 match (C.ti t).k with
 | .struct fs => aS (!(C.ti t).zero.d9) (cG (lZ (placeOf C fs) (et C s parts.toList) (C.ti t).zero.cells) fun cs => ret (pe (.agg cs)))
 | .array _ e => match (C.ti e).k with
   | .other => fail
   | _ => aS (!(C.ti t).zero.d9) (cG (lZ (fun i => some (i * (C.ti e).size, (C.ti e).size)) (et C s parts.toList) (C.ti t).zero.cells) fun cs => ret (pe (.agg cs)))
 | _ => fail

def fS (C : Ctx) (s : AS) (t : TypeId) (len : Nat) (parts : Array (Nat × Operand)) : Tr Ef :=
 match (C.ti t).k with
 | .slice e => match (C.ti e).k with
   | .other => fail
   | _ => aS (Nat.beq len parts.toList.length && Nat.blt 0 (C.ti e).size && Nat.ble (len * (C.ti e).size) 16777216)
     (cG (mu (et C s parts.toList) 0 (C.ti e).size) fun l => jF l fun l => aR (C.ti e).size fun sz => ret (pe (.list true sz l)))
 | _ => fail

def lS (C : Ctx) (s : AS) (t : TypeId) (len : Nat) (parts : Array (Nat × Operand)) : Tr Ef :=
 d8 (fS C s t len parts) fun e => match e.v with
 | .list _ sz l => aR s.sg.length fun n => ret ⟨.buf n, [], [], [.buf sz 0 l], []⟩
 | _ => fail
def iO (C : Ctx) (s : AS) (dst : Option Nat) (t : TypeId) (len : Nat) (parts : Array (Nat × Operand)) : Tr Ef := match dst with
 | some d => cond (C.lits d) (lS C s t len parts) (fS C s t len parts)
 | none => fS C s t len parts

def iQ (C : Ctx) (s : AS) (t : TypeId) (a : Operand) : Tr Ef :=
 match (C.ti t).k with
 | .other => fail
 | k => match s.ev C a with
   | .box cs off => d8 (eS k.isAgg (C.ti t).size cs off) fun v => force v fun v => ret (pe v)
   | .ptr i off => match aq s.sg i with
     | .cells cs => d8 (eS k.isAgg (C.ti t).size cs off) fun v => force v fun v => ret ⟨v, [], [], [], [i]⟩
     | _ => fail
   | .bptr i idx off => match aq s.sg i with
     | .buf _ _ l => jM l idx fun x => aS (!x.d9) (d8 (eS k.isAgg (C.ti t).size x.cells off) fun v => force v fun v => ret ⟨v, [], [], [], [i]⟩)
     | _ => fail
   | _ => fail

def jC (C : Ctx) (s : AS) (t : TypeId) (a x : Operand) : Tr Ef :=
  match (C.ti t).k with
  | .other => fail
  | _ => force (s.ev C x) fun x => aS (Nat.beq x.cells.length (C.ti t).size && !x.d9 && cV x.cells) (match s.ev C a with
    | .ptr i off => match aq s.sg i with
      | .cells cs => cG (eY cs off x.cells) fun cs' => ret ⟨.undef, [], [(i, .cells cs')], [], [i]⟩
      | _ => fail
    | .bptr i idx off => match aq s.sg i with
      | .buf sz pre l => jM l idx fun y => match y with
        | .agg cs => aS x.pure (cG (eY cs off x.cells) fun cs' => ar (pre ≤ idx) (ret ⟨.undef, [], [(i, .buf sz pre (l.set idx (.agg cs')))], [], [i]⟩))
        | _ => fail
      | _ => fail
    | _ => fail)

def jB (C : Ctx) (s : AS) (x : Operand) : Tr Ef :=
 match s.ev C x with
 | .ptr i a => ret (pe (.ptr i a))
 | .bptr i a b => ret (pe (.bptr i a b))
 | .box cs a => ret (pe (.box cs a))
 | .func (.func f) a b => ret (pe (.func (.func f) a b))
 | .iface t v => ret (pe (.iface t v))
 | _ => fail

def lT (C : Ctx) (s : AS) (t : TypeId) (x : Operand) : Tr Ef :=
 match (C.ti t).k with
 | .other | .iface => fail
 | _ => force (s.ev C x) fun x => aS (!x.d9) (ret (pe (.iface t x)))

def jy (C : Ctx) (s : AS) (t : TypeId) (l c : Operand) : Tr Ef :=
 match (C.ti t).k, s.ev C l, s.ev C c with
 | .slice e, .int _ n, .int _ m => match (C.ti e).k with
   | .other => fail
   | _ => aS (Nat.ble (C.ti e).bytes 4096 && Nat.blt 0 (C.ti e).size && (C.ti e).zero.pure && cV (C.ti e).zero.cells && Nat.beq (C.ti e).zero.cells.length (C.ti e).size) (ar (0 ≤ n ∧ n ≤ m ∧ m ≤ 4294967296)
     (aR s.sg.length fun i => aR (C.ti e).size fun sz => force (C.ti e).zero fun z => ret ⟨.buf i, [], [], [.buf sz 0 (List.replicate n.toNat z)], []⟩))
 | _, _, _ => fail

def kJ (C : Ctx) (s : AS) (t : TypeId) (x : Operand) (lo hi mx : Option Operand) : Tr Ef :=
  match (C.ti t).k, s.ev C x, mx with
  | .string, .str a, none => d8 (fy C s a.length lo hi) fun r => n8 a r fun a => ret (pe (.str a))
  | .slice e, .list _ sz a, none => match (C.ti e).k with
    | .other => fail
    | _ => aS (iv sz (C.ti e).size a) (d8 (fy C s a.length lo hi) fun r => n8 a r fun a => ret (pe (.list false sz a)))
  | .slice e, .buf i, none => match (C.ti e).k with
    | .other => fail
    | _ => match aq s.sg i, lo, hi with
      | .buf sz pre l, none, some h => match s.ev C h with
        | .int _ h => aS (Nat.beq sz (C.ti e).size) (ar ((pre : Int) ≤ h ∧ h ≤ l.length) (ret ⟨.buf i, [i], [(i, .buf sz pre (l.take h.toNat))], [], [i]⟩))
        | _ => fail
      | _, _, _ => fail
  | .slice e, .buf i, some m => match (C.ti e).k with
    | .other => fail
    | _ => match aq s.sg i, lo, hi with
      | .buf sz _ l, none, some h => match s.ev C h, s.ev C m with
        | .int _ h, .int _ m => aS (Nat.beq sz (C.ti e).size) (ar (h = l.length ∧ m = l.length) (ret ⟨.list true sz l, [i], [(i, .dead)], [], [i]⟩))
        | _, _ => fail
      | _, _, _ => fail
  | .array m e, .ptr i a, none => match (C.ti e).k with
    | .other => fail
    | k => match aq s.sg i with
      | .cells cs => aS (Nat.beq (C.ti e).size 1 && !k.isAgg && V.ew cs && cV cs && Nat.ble m 1048576) (cG (eD (fQ cs a) m) fun l =>
       d8 (fy C s m lo hi) fun r => n8 l r fun l => ret ⟨.list false 1 l, [i], [(i, .dead)], [], [i]⟩)
      | _ => fail
  | _, _, _ => fail

def ju (C : Ctx) (s : AS) (t : TypeId) (x : Operand) (f : Nat) : Tr Ef :=
 match (C.ti t).k with
 | .struct fs => cG (bk fs f) fun ft => match (C.ti ft.2).k with
   | .other => fail
   | _ => aS (Nat.blt 0 (C.ti ft.2).size) (match s.ev C x with
     | .ptr i a => aR (a + ft.1) fun a => ret (pe (.ptr i a))
     | .bptr i j a => aR (a + ft.1) fun a => ret (pe (.bptr i j a))
     | .box cs a => aR (a + ft.1) fun a => ret (pe (.box cs a))
     | _ => fail)
 | _ => fail

def jt (C : Ctx) (s : AS) (t : TypeId) (x : Operand) (f : Nat) : Tr Ef :=
 match (C.ti t).k, s.ev C x with
 | .struct fs, .agg cs => cG (bk fs f) fun ft => match (C.ti ft.2).k with
   | .other => fail
   | k => d8 (eS k.isAgg (C.ti ft.2).size cs ft.1) fun v => force v fun v => ret (pe v)
 | _, _ => fail

def kF (C : Ctx) (s : AS) (t : TypeId) (x ix : Operand) : Tr Ef :=
 match (C.ti t).k, s.ev C x, s.ev C ix with
 | .slice e, .list _ sz l, .int _ n => match (C.ti e).k with
   | .other => fail
   | _ => aS (Nat.beq sz (C.ti e).size) (ar (0 ≤ n) (jM l n.toNat fun y => aS (!y.d9) (ret (pe (.box y.cells 0)))))
 | .slice e, .buf i, .int _ n => match (C.ti e).k with
   | .other => fail
   | _ => match aq s.sg i with
     | .buf sz _ l => aS (Nat.beq sz (C.ti e).size) (ar (0 ≤ n ∧ n < l.length) (ret ⟨.bptr i n.toNat 0, [], [], [], [i]⟩))
     | _ => fail
 | .array m e, .ptr i a, .int _ n => match (C.ti e).k with
   | .other => fail
   | _ => ar (0 ≤ n ∧ n < m) (aR (C.ti e).size fun sz => ret (pe (.ptr i (a + n.toNat * sz))))
 | .array m e, .box cs a, .int _ n => match (C.ti e).k with
   | .other => fail
   | _ => ar (0 ≤ n ∧ n < m) (aR (C.ti e).size fun sz => ret (pe (.box cs (a + n.toNat * sz))))
 | _, _, _ => fail

def lR (C : Ctx) (s : AS) (t : TypeId) (x ix : Operand) : Tr Ef :=
 match (C.ti t).k, s.ev C x, s.ev C ix with
 | .string, .str a, .int _ n => ar (0 ≤ n) (jM a n.toNat fun b => ret (pe (.int .u8 b.toNat)))
 | .array m e, .agg cs, .int _ n => match (C.ti e).k with
   | .other => fail
   | k => ar (0 ≤ n ∧ n < m) (d8 (eS k.isAgg (C.ti e).size cs (n.toNat * (C.ti e).size)) fun v => force v fun v => ret (pe v))
 | _, _, _ => fail

def lP (C : Ctx) (s : AS) (x : Operand) (t : TypeId) (ok : Bool) : Tr Ef :=
 match (C.ti t).k, s.ev C x with
 | .other, _ | .iface, _ => fail
 | _, .iface u v => match Nat.beq u t, ok with
   | true, true => ret (pe (.tuple [v, .bool true]))
   | true, false => ret (pe v)
   | false, true => force (C.ti t).zero fun z => aS (!z.d9) (ret (pe (.tuple [z, .bool false])))
   | false, false => fail
 | _, .nilIface => match ok with
   | true => force (C.ti t).zero fun z => aS (!z.d9) (ret (pe (.tuple [z, .bool false])))
   | false => fail
 | _, _ => fail

def lQ (C : Ctx) (s : AS) (x : Operand) (i : Nat) : Tr Ef :=
 match s.ev C x with
 | .tuple vs => cG (gb vs i) fun v => force v fun v => ret (pe v)
 | _ => fail

def jv (C : Ctx) (s : AS) (t : TypeId) (x : Operand) : Tr Ef :=
 match (C.ti t).k, s.ev C x with
 | .string, .str a => aR s.sg.length fun n => ret ⟨.ptr n 0, [], [], [.siter a 0], []⟩
 | .map _ _, m => jw C s t m
 | _, _ => fail

def kG (C : Ctx) (s : AS) (x : Operand) (str : Bool) : Tr Ef :=
  match s.ev C x, str with
  | .ptr i 0, true => match aq s.sg i with
    | .siter a pos => gE (decide (pos < a.length)) (cG a[pos]? fun b => ar (b.toNat < 128) (ret ⟨.tuple [.bool true, .int .i64 pos, .int .i32 b.toNat], [], [(i, .siter a (pos + 1))], [], [i]⟩))
     (ret ⟨.tuple [.bool false], [], [], [], [i]⟩)
    | _ => fail
  | _, _ => fail

def kD (C : Ctx) (s : AS) (c : Call) : Tr Ef :=
 match c.callee with
 | .builtin b => jF (s.bF C c.args.toList) fun xs => gH C s b c.argTypes.toList xs
 | .value _ => cG (target C s c) fun p => ct (dh C s.sg p.1 p.2)
 | .invoke r m => match s.ev C r with
   | .iface t v => exT fun f => ar (C.mt t m f) (ct (dh C s.sg f (v :: s.bF C c.args.toList)))
   | _ => fail

def sf : V → Bool
 | .nilIface => true
 | _ => false
def nT (x y : Operand) (u v : V) : Bool := match x, y with
 | .const .nilIface, _ => sf v
 | _, .const .nilIface => sf u
 | _, _ => false
def kH (C : Ctx) (op : BinOp) (t : TypeId) : Tr Ef := match op, (C.ti t).k with
 | .eql, .iface => ret (pe (.bool true))
 | .neq, .iface => ret (pe (.bool false))
 | _, _ => fail
def bC (C : Ctx) (s : AS) (o : Oper) : Tr Ef :=
 match o.op with
 | .move x | .assign x => force (s.ev C x) fun x => ret (pe x)
 | .pick c a b => lV C s c a b
 | .alloc t => jn C s t
 | .box _ x => force (s.ev C x) fun x => aR s.sg.length fun n => aS (!x.d9) (ret ⟨.ptr n 0, [], [], [.cells x.cells], []⟩)
 | .build t parts => kC C s t parts
 | .buildSlice t len parts => iO C s o.dst t len parts
 | .load t a => iQ C s t a
 | .store t a x => jC C s t a x
 | .nilCheck x => jB C s x
 | .binOp op t x y _ => cond (nT x y (s.ev C x) (s.ev C y)) (kH C op t) (d8 (iP C op t (s.ev C x) (s.ev C y)) fun v => ret (pe v))
 | .unOp op _ x => d8 (nj op (s.ev C x)) fun v => ret (pe v)
 | .convert a b x => jA C s a b (s.ev C x)
 | .makeInterface t x => lT C s t x
 | .makeFunc fn a b => jF (s.bF C a.toList) fun a => jF (s.bF C b.toList) fun b => ret (pe (.func fn a b))
 | .makeSlice t l c => jy C s t l c
 | .slice t x lo hi mx => kJ C s t x lo hi mx
 | .fieldAddr t x f => ju C s t x f
 | .field t x f => jt C s t x f
 | .indexAddr t x ix => kF C s t x ix
 | .index t x ix => lR C s t x ix
 | .typeAssert x _ t ok => lP C s x t ok
 | .extract x i => lQ C s x i
 | .range t x => jv C s t x
 | .next x b => kG C s x b
 | .makeMap t none => jx C s t
 | .lookup t m x ok => g8 C s t m x ok
 | .mapUpdate t m x y => jz C s t m x y
 | .mapEntry t m x => hM C s t m x
 | .entryStore t m b y => jr C s t m b y
 | .entry x => kE C s x
 | .call c => kD C s c
 | _ => fail

end Go.VG
