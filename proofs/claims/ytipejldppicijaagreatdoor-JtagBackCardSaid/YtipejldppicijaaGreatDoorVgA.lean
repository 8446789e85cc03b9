/-
  A part of the proof.
-/
import Derived.WalkKit
import Derived.RangeFuncSeq
import Derived.RangeFuncLeaves
import Derived.TacticsIn
set_option linter.unusedSimpArgs false
set_option linter.unusedVariables false
namespace Go.VG
open Go

inductive V where
 | undef
 | int (k : IntKind) (n : Int)
 | bool (b : Bool)
 | str (s : List UInt8)
 | agg (cs : List V)
 | tuple (vs : List V)
 | list (clip : Bool) (sz : Nat) (l : List V)
 | nilptr
 | box (cs : List V) (off : Nat)
 | ptr (i off : Nat)
 | bptr (i idx off : Nat)
 | buf (i : Nat)
 | iface (t : TypeId) (v : V)
 | nilIface
 | func (fn : Fn) (first captured : List V)
 | nilFunc
 | map (i : Nat)
 | nilmap

instance : Inhabited V := ⟨.undef⟩

def V.cells : V → List V
 | .agg cs => cs
 | x => [x]

abbrev St := Nat → Nat → Option Value
structure Gh where
 blk : Option Nat
 base : Option Addr
 len : Nat
 cap : Nat
 sz : Nat
abbrev aj := Nat → Gh

mutual
def VR (st : St) (g : aj) : V → Nat → Value → Prop
 | .undef, _, _ => True
 | .int k m, _, v => v = .int k m ∧ k.min ≤ m ∧ m ≤ k.max
 | .bool b, _, v => v = .bool b
 | .str s, _, v => v = .string ⟨s.toArray⟩ ∧ s.length ≤ maxLen
 | .agg cs, n, v => ∃ vs, v = .agg vs ∧ av st g cs n vs.toList
 | .tuple cs, n, v => ∃ vs, v = .tuple vs ∧ av st g cs n vs.toList
 | .list clip sz l, _, v => ∃ base cap, v = .slice base l.length cap ∧ l.length ≤ cap ∧ l.length ≤ maxLen ∧ (clip = true → cap = l.length) ∧
  (l = [] ∨ ∃ b o, base = some ⟨b, o, none⟩ ∧ 0 < sz ∧ bz st g l sz (st b) o)
 | .nilptr, _, v => v = .pointer none
 | .box cs off, _, v => ∃ b o vs, v = .pointer (some ⟨b, o + off, none⟩) ∧ av st g cs 0 vs ∧ ∀ j, j < vs.length → st b (o + j) = vs[j]?
 | .ptr i off, n, v => i < n ∧ ∃ b, (g i).blk = some b ∧ v = .pointer (some ⟨b, off, none⟩)
 | .bptr i idx off, n, v => i < n ∧ ∃ b, (g i).blk = some b ∧ v = .pointer (some ⟨b, idx * (g i).sz + off, none⟩)
 | .buf i, n, v => i < n ∧ v = .slice (g i).base (g i).len (g i).cap
 | .iface t x, n, v => ∃ u, v = .iface t u ∧ VR st g x n u
 | .nilIface, _, v => v = .nilIface
 | .func fn fs cs, n, v => ∃ a b, v = .func fn a b ∧ av st g fs n a.toList ∧ av st g cs n b.toList
 | .nilFunc, _, v => v = .nilFunc
 | .map i, n, v => i < n ∧ ∃ b, (g i).blk = some b ∧ v = .map (some b)
 | .nilmap, _, v => v = .map none
def av (st : St) (g : aj) : List V → Nat → List Value → Prop
 | [], _, vs => vs = []
 | c :: cs, n, vs => ∃ u us, vs = u :: us ∧ VR st g c n u ∧ av st g cs n us
def bz (st : St) (g : aj) : List V → Nat → (Nat → Option Value) → Nat → Prop
 | [], _, _, _ => True
 | x :: xs, sz, look, o => (∃ u, VR st g x 0 u ∧ u.cells.size = sz ∧ (∀ v ∈ u.cells.toList, v.oneCell' = true) ∧ ∀ j, j < sz → look (o + j) = u.cells[j]?) ∧ bz st g xs sz look (o + sz)
end


theorem fE {st : St} {g : aj} {n : Nat} : ∀ {cs : List V} {vs : List Value}, av st g cs n vs ↔ cs.length = vs.length ∧ ∀ (i : Nat) (c : V) (v : Value), cs[i]? = some c → vs[i]? = some v → VR st g c n v
 | [], vs => by
   simp only [av]
   constructor
   . rintro rfl; simp
   . rintro ⟨h, _⟩; cases vs with
     | nil => rfl
     | cons a b => simp at h
 | c :: cs, vs => by
   simp only [av]
   constructor
   . rintro ⟨u, us, rfl, h1, h2⟩
     obtain ⟨hl, hh⟩ := fE.1 h2
     refine ⟨by simp [hl], ?_⟩
     intro i c' v h3 h4
     cases i with
     | zero => simp at h3 h4; subst h3; subst h4; exact h1
     | succ i => simp at h3 h4; exact hh i c' v h3 h4
   . rintro ⟨hl, hh⟩
     cases vs with
     | nil => simp at hl
     | cons u us =>
       refine ⟨u, us, rfl, hh 0 c u rfl rfl, fE.2 ⟨by simpa using hl, ?_⟩⟩
       intro i c' v h3 h4
       exact hh (i + 1) c' v (by simpa using h3) (by simpa using h4)

theorem dA {st : St} {g : aj} {n : Nat} {cs : List V} {vs : List Value} (h : av st g cs n vs) : cs.length = vs.length := (fE.1 h).1

theorem lX {st : St} {g : aj} {n : Nat} {cs : List V} {vs : List Value} (h : av st g cs n vs) {i : Nat} {c : V} (hc : cs[i]? = some c) :
   ∃ v, vs[i]? = some v ∧ VR st g c n v := by
 obtain ⟨hl, hh⟩ := fE.1 h
 have hi : i < cs.length := by
  rcases Nat.lt_or_ge i cs.length with h' | h'
  . exact h'
  . simp [List.getElem?_eq_none h'] at hc
 have hv : vs[i]? = some (vs[i]'(by omega)) := List.getElem?_eq_getElem (by omega)
 exact ⟨_, hv, hh i c _ hc hv⟩

theorem cC {st : St} {g : aj} {n : Nat} : av st g [] n [] := by simp [av]
theorem bm {st : St} {g : aj} {n : Nat} {c : V} {cs : List V} {v : Value} {vs : List Value} (h : VR st g c n v) (hs : av st g cs n vs) : av st g (c :: cs) n (v :: vs) := by
 simp only [av]; exact ⟨v, vs, rfl, h, hs⟩

theorem oV {st : St} {g : aj} {n k : Nat} {cs : List V} {vs : List Value} (h : av st g cs n vs) : av st g (cs.take k) n (vs.take k) := by
 obtain ⟨hl, hh⟩ := fE.1 h
 refine fE.2 ⟨by simp [hl], fun i c v h1 h2 => ?_⟩
 rw [List.getElem?_take] at h1 h2
 split at h1
 . rename_i hlt; rw [if_pos hlt] at h2; exact hh i c v h1 h2
 . cases h1

theorem oS {st : St} {g : aj} {n k : Nat} {cs : List V} {vs : List Value} (h : av st g cs n vs) : av st g (cs.drop k) n (vs.drop k) := by
 obtain ⟨hl, hh⟩ := fE.1 h
 refine fE.2 ⟨by simp [hl], fun i c v h1 h2 => ?_⟩
 rw [List.getElem?_drop] at h1 h2
 exact hh _ c v h1 h2

theorem lW {st : St} {g : aj} {n : Nat} {cs ds : List V} {vs us : List Value} (h : av st g cs n vs) (k : av st g ds n us) : av st g (cs ++ ds) n (vs ++ us) := by
 obtain ⟨hl, hh⟩ := fE.1 h
 obtain ⟨kl, kk⟩ := fE.1 k
 refine fE.2 ⟨by simp [hl, kl], fun i c v h1 h2 => ?_⟩
 rcases Nat.lt_or_ge i cs.length with hlt | hge
 . rw [List.getElem?_append_left hlt] at h1
   rw [List.getElem?_append_left (by omega)] at h2
   exact hh i c v h1 h2
 . rw [List.getElem?_append_right hge] at h1
   rw [List.getElem?_append_right (by omega), ← hl] at h2
   exact kk _ c v h1 h2

theorem ew {st : St} {g : aj} {sz : Nat} {look : Nat → Option Value} : ∀ {l : List V} {o : Nat}, bz st g l sz look o ↔
   ∀ (i : Nat) (x : V), l[i]? = some x → ∃ u, VR st g x 0 u ∧ u.cells.size = sz ∧ (∀ v ∈ u.cells.toList, v.oneCell' = true) ∧ ∀ j, j < sz → look (o + i * sz + j) = u.cells[j]?
 | [], o => by simp [bz]
 | x :: xs, o => by
   simp only [bz]
   constructor
   . rintro ⟨h1, h2⟩ i y hy
     cases i with
     | zero => simp at hy; subst hy; simpa using h1
     | succ i =>
       simp at hy
       obtain ⟨u, a, b, d, c⟩ := ew.1 h2 i y hy
       refine ⟨u, a, b, d, fun j hj => ?_⟩
       rw [← c j hj]
       congr 1
       rw [Nat.add_mul]; omega
   . intro h
     refine ⟨by simpa using h 0 x rfl, ew.2 fun i y hy => ?_⟩
     obtain ⟨u, a, b, d, c⟩ := h (i + 1) y (by simpa using hy)
     refine ⟨u, a, b, d, fun j hj => ?_⟩
     rw [← c j hj]
     congr 1
     rw [Nat.add_mul]; omega

mutual
def V.has (i : Nat) : V → Bool
 | .ptr j _ | .bptr j _ _ | .buf j | .map j => Nat.beq i j
 | .agg cs | .tuple cs => V.eB i cs
 | .iface _ x => V.has i x
 | .func _ fs cs => V.eB i fs || V.eB i cs
 | _ => false
def V.eB (i : Nat) : List V → Bool
 | [] => false
 | c :: cs => V.has i c || V.eB i cs
end
mutual
def V.dW (m : Nat) : V → Bool
 | .ptr j _ | .bptr j _ _ | .buf j | .map j => Nat.blt j m
 | .agg cs | .tuple cs => V.jo m cs
 | .iface _ x => V.dW m x
 | .func _ fs cs => V.jo m fs && V.jo m cs
 | _ => true
def V.jo (m : Nat) : List V → Bool
 | [] => true
 | c :: cs => V.dW m c && V.jo m cs
end
def aC (i : Nat) : List Nat → Bool
 | [] => false
 | k :: ks => Nat.beq i k || aC i ks
mutual
def V.kill (ks : List Nat) : V → V
 | .ptr j o => cond (aC j ks) .undef (.ptr j o)
 | .bptr j a b => cond (aC j ks) .undef (.bptr j a b)
 | .buf j => cond (aC j ks) .undef (.buf j)
 | .map j => cond (aC j ks) .undef (.map j)
 | .agg cs => .agg (V.dj ks cs)
 | .tuple cs => .tuple (V.dj ks cs)
 | .iface t x => .iface t (V.kill ks x)
 | .func f fs cs => .func f (V.dj ks fs) (V.dj ks cs)
 | .undef => .undef | .int k n => .int k n | .bool b => .bool b | .str s => .str s | .list c z l => .list c z l
 | .nilptr => .nilptr | .box cs o => .box cs o | .nilIface => .nilIface | .nilFunc => .nilFunc | .nilmap => .nilmap
def V.dj (ks : List Nat) : List V → List V
 | [] => []
 | c :: cs => V.kill ks c :: V.dj ks cs
end

mutual
theorem pE {m : Nat} : ∀ {x : V} {i : Nat}, x.dW m = true → x.has i = true → i < m
 | .ptr j _, i, h, k | .bptr j _ _, i, h, k | .buf j, i, h, k | .map j, i, h, k => by
   simp only [V.dW, V.has] at h k
   have := Nat.eq_of_beq_eq_true k; subst this
   exact Nat.le_of_ble_eq_true h
 | .agg cs, i, h, k | .tuple cs, i, h, k => pD (by simpa [V.dW] using h) (by simpa [V.has] using k)
 | .iface _ x, i, h, k => pE (by simpa [V.dW] using h) (by simpa [V.has] using k)
 | .func _ fs cs, i, h, k => by
   simp only [V.dW, V.has, Bool.and_eq_true, Bool.or_eq_true] at h k
   rcases k with k | k
   . exact pD h.1 k
   . exact pD h.2 k
 | .undef, _, _, k | .int .., _, _, k | .bool _, _, _, k | .str _, _, _, k | .list .., _, _, k | .nilptr, _, _, k | .box .., _, _, k | .nilIface, _, _, k | .nilFunc, _, _, k | .nilmap, _, _, k => by simp [V.has] at k
theorem pD {m : Nat} : ∀ {x : List V} {i : Nat}, V.jo m x = true → V.eB i x = true → i < m
 | [], _, _, k => by simp [V.eB] at k
 | c :: cs, i, h, k => by
   simp only [V.jo, V.eB, Bool.and_eq_true, Bool.or_eq_true] at h k
   rcases k with k | k
   . exact pE h.1 k
   . exact pD h.2 k
end

mutual
theorem ee {st st' : St} {g g' : aj} (hst : ∀ b o v, st b o = some v → st' b o = some v) :
   ∀ {x : V} {n n' : Nat} {v : Value}, (∀ i, x.has i = true → i < n → i < n' ∧ g' i = g i) → VR st g x n v → VR st' g' x n' v
 | .undef, _, _, _, _, _ => by simp [VR]
 | .int .., _, _, _, _, h | .bool _, _, _, _, _, h | .str _, _, _, _, _, h | .nilptr, _, _, _, _, h | .nilIface, _, _, _, _, h | .nilFunc, _, _, _, _, h | .nilmap, _, _, _, _, h => by simpa [VR] using h
 | .agg cs, n, n', v, hn, h | .tuple cs, n, n', v, hn, h => by
   simp only [VR] at h ⊢
   obtain ⟨vs, rfl, h⟩ := h
   exact ⟨vs, rfl, iA hst (fun i hi => hn i (by simpa [V.has] using hi)) h⟩
 | .list c sz l, n, n', v, hn, h => by
   simp only [VR] at h ⊢
   obtain ⟨base, cap, rfl, h1, h2, h3, h4⟩ := h
   refine ⟨base, cap, rfl, h1, h2, h3, ?_⟩
   rcases h4 with h4 | ⟨b, o, h5, h6, h7⟩
   . exact .inl h4
   . exact .inr ⟨b, o, h5, h6, gS hst (fun k v hk => hst b k v hk) h7⟩
 | .box cs off, n, n', v, hn, h => by
   simp only [VR] at h ⊢
   obtain ⟨b, o, vs, rfl, h1, h2⟩ := h
   refine ⟨b, o, vs, rfl, iA hst (fun i _ hi => absurd hi (Nat.not_lt_zero _)) h1, fun j hj => ?_⟩
   have h3 := h2 j hj
   have h4 : vs[j]? = some (vs[j]'hj) := List.getElem?_eq_getElem hj
   rw [h4] at h3 ⊢
   exact hst _ _ _ h3
 | .ptr i off, n, n', v, hn, h => by
   simp only [VR] at h ⊢
   obtain ⟨hi, h⟩ := h
   obtain ⟨h1, h2⟩ := hn i (by simp [V.has]) hi
   exact ⟨h1, by rw [h2]; exact h⟩
 | .bptr i a off, n, n', v, hn, h => by
   simp only [VR] at h ⊢
   obtain ⟨hi, h⟩ := h
   obtain ⟨h1, h2⟩ := hn i (by simp [V.has]) hi
   exact ⟨h1, by rw [h2]; exact h⟩
 | .buf i, n, n', v, hn, h => by
   simp only [VR] at h ⊢
   obtain ⟨hi, h⟩ := h
   obtain ⟨h1, h2⟩ := hn i (by simp [V.has]) hi
   exact ⟨h1, by rw [h2]; exact h⟩
 | .map i, n, n', v, hn, h => by
   simp only [VR] at h ⊢
   obtain ⟨hi, h⟩ := h
   obtain ⟨h1, h2⟩ := hn i (by simp [V.has]) hi
   exact ⟨h1, by rw [h2]; exact h⟩
 | .iface t x, n, n', v, hn, h => by
   simp only [VR] at h ⊢
   obtain ⟨u, rfl, h⟩ := h
   exact ⟨u, rfl, ee hst (fun i hi => hn i (by simpa [V.has] using hi)) h⟩
 | .func f fs cs, n, n', v, hn, h => by
   simp only [VR] at h ⊢
   obtain ⟨a, b, rfl, h1, h2⟩ := h
   exact ⟨a, b, rfl, iA hst (fun i hi => hn i (by simp [V.has, hi])) h1, iA hst (fun i hi => hn i (by simp [V.has, hi])) h2⟩
theorem iA {st st' : St} {g g' : aj} (hst : ∀ b o v, st b o = some v → st' b o = some v) :
   ∀ {x : List V} {n n' : Nat} {v : List Value}, (∀ i, V.eB i x = true → i < n → i < n' ∧ g' i = g i) → av st g x n v → av st' g' x n' v
 | [], _, _, _, _, h => by simpa [av] using h
 | c :: cs, n, n', v, hn, h => by
   simp only [av] at h ⊢
   obtain ⟨u, us, rfl, h1, h2⟩ := h
   exact ⟨u, us, rfl, ee hst (fun i hi => hn i (by simp [V.eB, hi])) h1, iA hst (fun i hi => hn i (by simp [V.eB, hi])) h2⟩
theorem gS {st st' : St} {g g' : aj} (hst : ∀ b o v, st b o = some v → st' b o = some v) :
   ∀ {x : List V} {sz o : Nat} {look look' : Nat → Option Value}, (∀ k v, look k = some v → look' k = some v) → bz st g x sz look o → bz st' g' x sz look' o
 | [], _, _, _, _, _, _ => by simp [bz]
 | c :: cs, sz, o, look, look', hl, h => by
   simp only [bz] at h ⊢
   obtain ⟨⟨u, h1, h2, hd, h3⟩, h4⟩ := h
   refine ⟨⟨u, ee hst (fun i _ hi => absurd hi (Nat.not_lt_zero _)) h1, h2, hd, fun j hj => ?_⟩, gS hst hl h4⟩
   have h5 := h3 j hj
   have h6 : u.cells[j]? = some (u.cells[j]'(by omega)) := Array.getElem?_eq_getElem (by omega)
   rw [h6] at h5 ⊢
   exact hl _ _ h5
end

mutual
theorem oO {st : St} {g : aj} {ks : List Nat} : ∀ {x : V} {n : Nat} {v : Value}, VR st g x n v → VR st g (x.kill ks) n v
 | .undef, _, _, _ => by simp [VR, V.kill]
 | .int .., _, _, h | .bool _, _, _, h | .str _, _, _, h | .nilptr, _, _, h | .nilIface, _, _, h | .nilFunc, _, _, h | .nilmap, _, _, h | .list .., _, _, h | .box .., _, _, h => by simpa only [V.kill] using h
 | .ptr i _, _, _, h | .bptr i _ _, _, _, h | .buf i, _, _, h | .map i, _, _, h => by
   simp only [V.kill]
   cases aC i ks with
   | true => simp [VR]
   | false => exact h
 | .agg cs, n, v, h | .tuple cs, n, v, h => by
   simp only [VR, V.kill] at h ⊢
   obtain ⟨vs, rfl, h⟩ := h
   exact ⟨vs, rfl, oT h⟩
 | .iface t x, n, v, h => by
   simp only [VR, V.kill] at h ⊢
   obtain ⟨u, rfl, h⟩ := h
   exact ⟨u, rfl, oO h⟩
 | .func f fs cs, n, v, h => by
   simp only [VR, V.kill] at h ⊢
   obtain ⟨a, b, rfl, h1, h2⟩ := h
   exact ⟨a, b, rfl, oT h1, oT h2⟩
theorem oT {st : St} {g : aj} {ks : List Nat} : ∀ {x : List V} {n : Nat} {v : List Value}, av st g x n v → av st g (V.dj ks x) n v
 | [], _, _, h => by simpa [av, V.dj] using h
 | c :: cs, n, v, h => by
   simp only [av, V.dj] at h ⊢
   obtain ⟨u, us, rfl, h1, h2⟩ := h
   exact ⟨u, us, rfl, oO h1, oT h2⟩
end

mutual
theorem jH {ks : List Nat} : ∀ {x : V} {i : Nat}, (x.kill ks).has i = true → aC i ks = false ∧ x.has i = true
 | .undef, _, h | .int .., _, h | .bool _, _, h | .str _, _, h | .nilptr, _, h | .nilIface, _, h | .nilFunc, _, h | .nilmap, _, h | .list .., _, h | .box .., _, h => by simp [V.kill, V.has] at h
 | .ptr j _, i, h | .bptr j _ _, i, h | .buf j, i, h | .map j, i, h => by
   simp only [V.kill] at h
   cases hm : aC j ks with
   | true => rw [hm] at h; simp [V.has] at h
   | false =>
     rw [hm] at h
     simp only [cond_false, V.has] at h ⊢
     have := Nat.eq_of_beq_eq_true h; subst this
     exact ⟨hm, h⟩
 | .agg cs, i, h | .tuple cs, i, h => by
   simp only [V.kill, V.has] at h ⊢
   exact kZ h
 | .iface t x, i, h => by
   simp only [V.kill, V.has] at h ⊢
   exact jH h
 | .func f fs cs, i, h => by
   simp only [V.kill, V.has, Bool.or_eq_true] at h ⊢
   rcases h with h | h
   . exact ⟨(kZ h).1, .inl (kZ h).2⟩
   . exact ⟨(kZ h).1, .inr (kZ h).2⟩
theorem kZ {ks : List Nat} : ∀ {x : List V} {i : Nat}, V.eB i (V.dj ks x) = true → aC i ks = false ∧ V.eB i x = true
 | [], _, h => by simp [V.dj, V.eB] at h
 | c :: cs, i, h => by
   simp only [V.dj, V.eB, Bool.or_eq_true] at h ⊢
   rcases h with h | h
   . exact ⟨(jH h).1, .inl (jH h).2⟩
   . exact ⟨(kZ h).1, .inr (kZ h).2⟩
end

end Go.VG
namespace Go.VG
open Go

def di : IntKind → IntKind → Bool
 | .i8, .i8 | .i16, .i16 | .i32, .i32 | .i64, .i64 | .u8, .u8 | .u16, .u16 | .u32, .u32 | .u64, .u64 => true
 | _, _ => false

inductive Sc where
 | kB | kI (k : IntKind) | kS
def gJ : Sc → V → Bool
 | .kB, .bool _ => true
 | .kI k, .int k' _ => di k k'
 | .kS, .str _ => true
 | _, _ => false
def c6 : List Sc → List V → Bool
 | [], [] => true
 | k :: ks, x :: xs => gJ k x && c6 ks xs
 | _, _ => false
def gb (ag : Bool) (sh : List Sc) : V → Bool
 | .agg cs => cond ag (c6 sh cs) false
 | x => cond ag false (c6 sh [x])
def nZ : V → V → Bool
 | .int _ a, .int _ b => a == b
 | .str a, .str b => a == b
 | .bool a, .bool b => a == b
 | _, _ => false
def pR : List V → List V → Bool
 | [], [] => true
 | x :: xs, y :: ys => nZ x y && pR xs ys
 | _, _ => false
def ic : V → V → Bool
 | .agg a, .agg b => pR a b
 | x, y => nZ x y
def cR : List (V × Int) → V → Option (Nat × Int)
 | [], _ => none
 | (y, q) :: es, x => cond (ic y x) (some (0, q)) (match cR es x with
   | some (j, q) => some (j + 1, q)
   | none => none)
def getM (es : List (V × Int)) (x : V) : Int := match cR es x with
 | some (_, q) => q
 | none => 0
def gN : List (V × Int) → Nat → Int → List (V × Int)
 | [], _, _ => []
 | (y, _) :: es, 0, q => (y, q) :: es
 | e :: es, n + 1, q => e :: gN es n q
def gQ : V → Value
 | .int k n => .int k n
 | .bool b => .bool b
 | .str s => .string ⟨s.toArray⟩
 | _ => .nilIface
def ok1 : V → Prop
 | .int k n => k.min ≤ n ∧ n ≤ k.max
 | .str s => s.length ≤ maxLen
 | _ => True
def ct : V → Value
 | .agg cs => .agg (cs.map gQ).toArray
 | x => gQ x
def o8 : V → Prop
 | .agg cs => ∀ c ∈ cs, ok1 c
 | x => ok1 x
def dn (ag : Bool) (sh : List Sc) : List (V × Int) → List Nat → List MapEntry → Prop
 | [], [], [] => True
 | (x, q) :: es, s :: bs, e :: l => (gb ag sh x = true ∧ o8 x ∧ e.key = ct x ∧ e.val = .int .i64 q ∧ (IntKind.i64.min ≤ q ∧ q ≤ IntKind.i64.max) ∧ e.born = s) ∧ dn ag sh es bs l
 | _, _, _ => False
def n9 (bs : List Nat) (ck : Nat) : Prop := bs.Nodup ∧ ∀ s ∈ bs, s < ck
def ji (bs : List Nat) (seen : Array Nat) : List Nat := (List.range bs.length).filter fun j => !(seen.toList.contains (bs.getD j 0))

inductive O where
 | dead
 | cells (cs : List V)
 | buf (sz pre : Nat) (l : List V)
 | siter (s : List UInt8) (pos : Nat)
 | map (ag : Bool) (sh : List Sc) (es : List (V × Int)) (bs : List Nat) (ck : Nat)
 | miter (m : V) (bs : List Nat) (ck : Nat) (left : List Nat) (last : Nat)
instance : Inhabited O := ⟨.dead⟩

def O.has (i : Nat) : O → Bool
 | .cells cs => V.eB i cs
 | .miter m _ _ _ _ => m.has i
 | _ => false
def O.dW (m : Nat) : O → Bool
 | .cells cs => V.jo m cs
 | .miter x _ _ _ _ => x.dW m
 | _ => true
def O.kill (ks : List Nat) : O → O
 | .cells cs => .cells (V.dj ks cs)
 | .dead => .dead | .buf a b l => .buf a b l | .siter s p => .siter s p | .map a sh es bs ck => .map a sh es bs ck
 | .miter m bs ck l x => .miter (m.kill ks) bs ck l x

structure Env where
 G : Nat → Prop
 w0 : World
 st0 : St
 ds : List Deferred

def kT (c : Array Value) (fr : Nat × Nat) : Prop := fr.1 ≤ fr.2 ∧ ∀ o, o < c.size → ¬ (fr.1 ≤ o ∧ o < fr.2)

def cB (E : Env) (st : St) (g : aj) (n : Nat) (w : World) (gi : Gh) : O → Prop
  | .dead => ∀ b, gi.blk = some b → b < w.heap.size ∧ E.G b
  | .cells cs => ∃ b c el fr, gi.blk = some b ∧ E.G b ∧ w.heap[b]? = some (.cells c el fr) ∧ av st g cs n c.toList ∧ kT c fr ∧ ∀ o, st b o = none
  | .buf sz pre l => 0 < sz ∧ gi.sz = sz ∧ pre ≤ l.length ∧ l.length ≤ maxLen ∧ gi.len = l.length ∧ l.length ≤ gi.cap ∧
   ((gi.cap = 0 ∧ gi.blk = none) ∨ ∃ b c el fr, gi.blk = some b ∧ gi.base = some ⟨b, 0, none⟩ ∧ E.G b ∧ w.heap[b]? = some (.cells c el fr) ∧ c.size = gi.cap * sz ∧
     bz st g l sz (fun o => c[o]?) 0 ∧ kT c fr ∧ ∀ o v, st b o = some v → o < pre * sz)
  | .siter s pos => s.length ≤ maxLen ∧ ∃ b, gi.blk = some b ∧ E.G b ∧ w.heap[b]? = some (.stringIter ⟨s.toArray⟩ pos)
  | .map ag sh es bs ck => ∃ b arr, gi.blk = some b ∧ E.G b ∧ w.heap[b]? = some (.map arr ck) ∧ dn ag sh es bs arr.toList ∧ n9 bs ck ∧ (es.map fun e => ct e.1).Nodup
  | .miter m bs ck left last => ∃ b b' seen, gi.blk = some b ∧ E.G b ∧ w.heap[b]? = some (.mapIter (some b') ck seen ck) ∧ VR st g m n (.map (some b')) ∧ left = ji bs seen ∧
   ((seen = #[] ∧ bs.length ≤ last) ∨ (seen.back? = some (bs.getD last 0) ∧ last < bs.length))

structure aD (E : Env) (st : St) (g : aj) (sg : List O) (w : World) : Prop where
 os : w.os = E.w0.os
 tape : w.tape = E.w0.tape
 output : w.output = E.w0.output
 size : E.w0.heap.size ≤ w.heap.size
 gnew : ∀ b, E.w0.heap.size ≤ b → E.G b
 sub : ∀ b o v, E.st0 b o = some v → st b o = some v
 stG : ∀ b o v, st b o = some v → E.st0 b o = some v ∨ E.G b
 stw : ∀ b o v, st b o = some v → w.cell? ⟨b, o, none⟩ = some v
 fr : ∀ b, ¬ E.G b → w.heap[b]? = E.w0.heap[b]?
 ob : ∀ i o, sg[i]? = some o → cB E st g sg.length w (g i) o
 inj : ∀ i j b, i < sg.length → j < sg.length → (g i).blk = some b → (g j).blk = some b → i = j

theorem p9 {w w' : World} {b o : Nat} (h : w'.heap[b]? = w.heap[b]?) : w'.cell? ⟨b, o, none⟩ = w.cell? ⟨b, o, none⟩ := by
 simp only [World.cell?, h]

theorem dR {w : World} {b o : Nat} {c : Array Value} {el : TypeId} {fr : Nat × Nat} (h : w.heap[b]? = some (.cells c el fr)) : w.cell? ⟨b, o, none⟩ = c[o]? := by
 simp [World.cell?, h]

theorem Iw {w : World} {b o : Nat} {c : Array Value} {el : TypeId} {fr : Nat × Nat} (h : w.heap[b]? = some (.cells c el fr)) (hf : kT c fr) (ho : o < c.size) : w.frozen? ⟨b, o, none⟩ = false := by
 have := hf.2 o ho
 obtain ⟨lo, hi⟩ := fr
 simp only [World.frozen?, h]
 simp only [Bool.and_eq_false_iff, decide_eq_false_iff_not]
 simp only at this
 omega

theorem jy {w : World} {b : Nat} {o : Obj} (h : w.heap[b]? = some o) : b < w.heap.size := by
 rcases Nat.lt_or_ge b w.heap.size with h' | h'
 . exact h'
 . simp [Array.getElem?_eq_none h'] at h

theorem cB.br {E : Env} {st : St} {g : aj} {n : Nat} {w : World} {gi : Gh} {o : O} (h : cB E st g n w gi o) {b : Nat} (hb : gi.blk = some b) : b < w.heap.size ∧ E.G b := by
 cases o with
 | dead => exact h b hb
 | cells cs =>
   obtain ⟨b', c, el, fr, h1, h2, h3, _⟩ := h
   rw [hb] at h1; cases h1
   exact ⟨jy h3, h2⟩
 | buf sz pre l =>
   obtain ⟨_, _, _, _, _, _, h⟩ := h
   rcases h with ⟨_, h⟩ | ⟨b', c, el, fr, h1, _, h2, h3, _⟩
   . rw [hb] at h; cases h
   . rw [hb] at h1; cases h1
     exact ⟨jy h3, h2⟩
 | siter s p =>
   obtain ⟨_, b', h1, h2, h3⟩ := h
   rw [hb] at h1; cases h1
   exact ⟨jy h3, h2⟩
 | map ag sh es bs ck =>
   obtain ⟨b', arr, h1, h2, h3, _⟩ := h
   rw [hb] at h1; cases h1
   exact ⟨jy h3, h2⟩
 | miter m bs ck l x =>
   obtain ⟨b', _, _, h1, h2, h3, _⟩ := h
   rw [hb] at h1; cases h1
   exact ⟨jy h3, h2⟩

theorem aD.br {E : Env} {st : St} {g : aj} {sg : List O} {w : World} (h : aD E st g sg w) {i b : Nat} (hi : i < sg.length) (hb : (g i).blk = some b) : b < w.heap.size ∧ E.G b :=
 (h.ob i _ (List.getElem?_eq_getElem hi)).br hb

theorem cB.aT {E : Env} {st st' : St} {g g' : aj} {n n' : Nat} {w w' : World} {gi : Gh} {o : O} (h : cB E st g n w gi o)
   (hb : ∀ b, gi.blk = some b → w'.heap[b]? = w.heap[b]?)
   (hst : ∀ b o v, st b o = some v → st' b o = some v)
   (hnew : ∀ b, gi.blk = some b → ∀ o v, st' b o = some v → st b o = some v)
   (hn : ∀ i, o.has i = true → i < n → i < n' ∧ g' i = g i) : cB E st' g' n' w' gi o := by
 cases o with
 | dead =>
   intro b hb'
   obtain ⟨h1, h2⟩ := h b hb'
   refine ⟨?_, h2⟩
   have h3 := hb b hb'
   rw [Array.getElem?_eq_getElem h1] at h3
   exact jy h3
 | cells cs =>
   obtain ⟨b, c, el, fr, h1, h2, h3, h4, h5, h6⟩ := h
   refine ⟨b, c, el, fr, h1, h2, by rw [hb b h1]; exact h3, iA hst (fun i hi => hn i (by simpa [O.has] using hi)) h4, h5, fun o => ?_⟩
   cases hs : st' b o with
   | none => rfl
   | some v => have := hnew b h1 o v hs; rw [h6 o] at this; cases this
 | buf sz pre l =>
   obtain ⟨h1, h2, h3, h4, h5, h6, h7⟩ := h
   refine ⟨h1, h2, h3, h4, h5, h6, ?_⟩
   rcases h7 with h7 | ⟨b, c, el, fr, k1, k2, k3, k4, k5, k6, k7, k8⟩
   . exact .inl h7
   . exact .inr ⟨b, c, el, fr, k1, k2, k3, by rw [hb b k1]; exact k4, k5, gS hst (fun _ _ hk => hk) k6, k7, fun o v hv => k8 o v (hnew b k1 o v hv)⟩
 | siter s p =>
   obtain ⟨h1, b, h2, h3, h4⟩ := h
   exact ⟨h1, b, h2, h3, by rw [hb b h2]; exact h4⟩
 | map ag sh es bs ck =>
   obtain ⟨b, arr, h1, h2, h3, h4⟩ := h
   exact ⟨b, arr, h1, h2, by rw [hb b h1]; exact h3, h4⟩
 | miter m bs ck l x =>
   obtain ⟨b, b', seen, h1, h2, h3, h4, h5⟩ := h
   exact ⟨b, b', seen, h1, h2, by rw [hb b h1]; exact h3, ee hst (fun i hi => hn i (by simpa [O.has] using hi)) h4, h5⟩

theorem cB.kill {E : Env} {st : St} {g : aj} {n : Nat} {w : World} {gi : Gh} {o : O} {ks : List Nat} (h : cB E st g n w gi o) : cB E st g n w gi (o.kill ks) := by
 cases o with
 | cells cs =>
   obtain ⟨b, c, el, fr, h1, h2, h3, h4, h5, h6⟩ := h
   exact ⟨b, c, el, fr, h1, h2, h3, oT h4, h5, h6⟩
 | miter m bs ck l x =>
   obtain ⟨b, b', seen, h1, h2, h3, h4, h5⟩ := h
   exact ⟨b, b', seen, h1, h2, h3, oO h4, h5⟩
 | _ => exact h

theorem O.jH {ks : List Nat} {o : O} {i : Nat} (h : (o.kill ks).has i = true) : aC i ks = false ∧ o.has i = true := by
 cases o with
 | cells cs => exact kZ (by simpa [O.kill, O.has] using h)
 | miter m bs ck l x => exact VG.jH (by simpa [O.kill, O.has] using h)
 | _ => simp [O.kill, O.has] at h

structure cf (E : Env) (st st' : St) (w w' : World) (B : Nat → Prop) : Prop where
 os : w'.os = w.os
 tape : w'.tape = w.tape
 output : w'.output = w.output
 size : w.heap.size ≤ w'.heap.size
 aT : ∀ b, b < w.heap.size → ¬ B b → w'.heap[b]? = w.heap[b]?
 own : ∀ b, B b → E.G b
 mono : ∀ b o v, st b o = some v → st' b o = some v
 newst : ∀ b o v, st' b o = some v → st b o = some v ∨ (E.G b ∧ w'.cell? ⟨b, o, none⟩ = some v)
 oldst : ∀ b o v, B b → st b o = some v → w'.cell? ⟨b, o, none⟩ = some v

theorem yC {w : World} {b o : Nat} {v : Value} (h : w.cell? ⟨b, o, none⟩ = some v) : b < w.heap.size := by
 rcases Nat.lt_or_ge b w.heap.size with h' | h'
 . exact h'
 . simp [World.cell?, Array.getElem?_eq_none h'] at h

theorem aD.step {E : Env} {st st' : St} {g g' : aj} {sg sg' : List O} {w w' : World} {B : Nat → Prop} (h : aD E st g sg w) (c : cf E st st' w w' B)
   (ob : ∀ i o, sg'[i]? = some o → cB E st' g' sg'.length w' (g' i) o)
   (inj : ∀ i j b, i < sg'.length → j < sg'.length → (g' i).blk = some b → (g' j).blk = some b → i = j) : aD E st' g' sg' w' where
 os := c.os.trans h.os
 tape := c.tape.trans h.tape
 output := c.output.trans h.output
 size := Nat.le_trans h.size c.size
 gnew := h.gnew
 sub := fun b o v hv => c.mono _ _ _ (h.sub _ _ _ hv)
 stG := fun b o v hv => by
  rcases c.newst _ _ _ hv with h1 | h1
  . exact h.stG _ _ _ h1
  . exact .inr h1.1
 stw := fun b o v hv => by
  rcases c.newst _ _ _ hv with h1 | h1
  . by_cases hB : B b
    . exact c.oldst _ _ _ hB h1
    . have h2 := h.stw _ _ _ h1
      rw [p9 (c.aT b (yC h2) hB)]; exact h2
  . exact h1.2
 fr := fun b hb => by
  have hlt : b < E.w0.heap.size := by
   rcases Nat.lt_or_ge b E.w0.heap.size with h' | h'
   . exact h'
   . exact absurd (h.gnew b h') hb
  rw [c.aT b (Nat.lt_of_lt_of_le hlt h.size) (fun hB => hb (c.own b hB))]
  exact h.fr b hb
 ob := ob
 inj := inj

def bh (g : aj) (i : Nat) (x : Gh) : aj := fun j => if j = i then x else g j
@[simp] theorem cI (g : aj) (i : Nat) (x : Gh) : bh g i x i = x := by simp [bh]
theorem bR {g : aj} {i j : Nat} {x : Gh} (h : j ≠ i) : bh g i x j = g j := by simp [bh, h]

structure aH (w w' : World) : Prop where
 heap : w'.heap = w.heap
 os : w'.os = w.os
 tape : w'.tape = w.tape
 output : w'.output = w.output
theorem aH.refl (w : World) : aH w w := ⟨rfl, rfl, rfl, rfl⟩

theorem cf.same {E : Env} {st : St} {w w' : World} (h : aH w w') : cf E st st w w' (fun _ => False) where
 os := h.os
 tape := h.tape
 output := h.output
 size := by rw [h.heap]; exact Nat.le_refl _
 aT := fun b _ _ => by rw [h.heap]
 own := fun _ hb => hb.elim
 mono := fun _ _ _ hv => hv
 newst := fun _ _ _ hv => .inl hv
 oldst := fun _ _ _ hb => hb.elim

theorem cB.same {E : Env} {st : St} {g : aj} {n : Nat} {w w' : World} {gi : Gh} {o : O} (h : cB E st g n w gi o) (hw : aH w w') : cB E st g n w' gi o :=
 h.aT (fun b _ => by rw [hw.heap]) (fun _ _ _ hv => hv) (fun _ _ _ _ hv => hv) (fun _ _ hi => ⟨hi, rfl⟩)

theorem aD.same {E : Env} {st : St} {g : aj} {sg : List O} {w w' : World} (h : aD E st g sg w) (hw : aH w w') : aD E st g sg w' :=
 h.step (cf.same hw) (fun i o ho => (h.ob i o ho).same hw) h.inj

theorem nQ {w : World} {o : Obj} {b : Nat} (h : b < w.heap.size) : (w.alloc o).heap[b]? = w.heap[b]? := by
 simp only [World.alloc, Array.getElem?_push]
 rw [if_neg (by omega)]
theorem heap_alloc_new {w : World} {o : Obj} : (w.alloc o).heap[w.heap.size]? = some o := by
 show (w.heap.push o)[w.heap.size]? = some o
 simp

theorem cf.alloc {E : Env} {st : St} {w : World} (o : Obj) : cf E st st w (w.alloc o) (fun _ => False) where
 os := rfl
 tape := rfl
 output := rfl
 size := by simp
 aT := fun b hb _ => nQ hb
 own := fun _ hb => hb.elim
 mono := fun _ _ _ hv => hv
 newst := fun _ _ _ hv => .inl hv
 oldst := fun _ _ _ hb => hb.elim

def g7 (st : St) (b : Nat) (c : Array Value) (k : Nat) : St := fun b' o => if b' = b then (if o < k then c[o]? else none) else st b' o

theorem aD.iX {E : Env} {st : St} {g : aj} {sg : List O} {w : World} (h : aD E st g sg w) (o : Nat) : st w.heap.size o = none := by
 cases hs : st w.heap.size o with
 | none => rfl
 | some v => exact absurd (yC (h.stw _ _ _ hs)) (Nat.lt_irrefl _)

theorem kj {st : St} {b : Nat} {c : Array Value} {k : Nat} (h : ∀ o, st b o = none) : ∀ b' o v, st b' o = some v → g7 st b c k b' o = some v := by
 intro b' o v hv
 by_cases hb : b' = b
 . subst hb; rw [h o] at hv; cases hv
 . simp [g7, hb, hv]

theorem cf.g7 {E : Env} {st : St} {g : aj} {sg : List O} {w : World} (h : aD E st g sg w) (c : Array Value) (el : TypeId) (fr : Nat × Nat) (k : Nat) :
   cf E st (g7 st w.heap.size c k) w (w.alloc (.cells c el fr)) (fun _ => False) where
 os := rfl
 tape := rfl
 output := rfl
 size := by simp
 aT := fun b hb _ => nQ hb
 own := fun _ hb => hb.elim
 mono := kj h.iX
 newst := fun b o v hv => by
  by_cases hb : b = w.heap.size
  . subst hb
    simp only [VG.g7, if_true] at hv
    split at hv
    . exact .inr ⟨h.gnew _ h.size, by rw [dR heap_alloc_new]; exact hv⟩
    . cases hv
  . simp [VG.g7, hb] at hv; exact .inl hv
 oldst := fun _ _ _ hb => hb.elim

theorem aD.uw {E : Env} {st : St} {g : aj} {sg : List O} {w : World} (h : aD E st g sg w) (c : Array Value) (el : TypeId) (fr : Nat × Nat) (k : Nat) :
   aD E (g7 st w.heap.size c k) g sg (w.alloc (.cells c el fr)) :=
 h.step (cf.g7 h c el fr k) (fun i o ho => (h.ob i o ho).aT
  (fun b hb => nQ ((h.ob i o ho).br hb).1) (kj h.iX)
  (fun b hb o' v hv => by
   have := ((h.ob i o ho).br hb).1
   simpa [g7, Nat.ne_of_lt this] using hv)
  (fun _ _ hi => ⟨hi, rfl⟩)) h.inj

theorem aD.DS {E : Env} {st : St} {g : aj} {sg : List O} {w : World} (h : aD E st g sg w) (ob : Obj) (gi : Gh) (o : O)
   (hb : ∀ b, gi.blk = some b → b = w.heap.size)
   (ho : cB E st (bh g sg.length gi) (sg.length + 1) (w.alloc ob) gi o) :
   aD E st (bh g sg.length gi) (sg ++ [o]) (w.alloc ob) := by
 refine h.step (cf.alloc ob) ?_ ?_
 . intro i o' hi
   rw [List.length_append, List.length_singleton]
   rcases Nat.lt_trichotomy i sg.length with hlt | heq | hgt
   . rw [List.getElem?_append_left hlt] at hi
     rw [bR (Nat.ne_of_lt hlt)]
     exact (h.ob i o' hi).aT (fun b hb => nQ ((h.ob i o' hi).br hb).1) (fun _ _ _ hv => hv) (fun _ _ _ _ hv => hv)
      (fun j _ hj => ⟨by omega, bR (Nat.ne_of_lt hj)⟩)
   . subst heq
     rw [List.getElem?_append_right (Nat.le_refl _)] at hi
     simp at hi; subst hi
     rw [cI]; exact ho
   . rw [List.getElem?_eq_none (by simp; omega)] at hi; cases hi
 . intro i j b hi hj h1 h2
   rw [List.length_append, List.length_singleton] at hi hj
   by_cases e1 : i = sg.length <;> by_cases e2 : j = sg.length
   . omega
   . subst e1
     rw [cI] at h1; rw [bR e2] at h2
     have := (h.br (by omega) h2).1; have := hb b h1; omega
   . subst e2
     rw [cI] at h2; rw [bR e1] at h1
     have := (h.br (by omega) h1).1; have := hb b h2; omega
   . rw [bR e1] at h1; rw [bR e2] at h2
     exact h.inj i j b (by omega) (by omega) h1 h2

theorem aD.fB {E : Env} {st st' : St} {g : aj} {sg : List O} {w w' : World} (h : aD E st g sg w) (i : Nat) (hi : i < sg.length) (ks : List Nat) (gi : Gh) (o : O)
   (c : cf E st st' w w' (fun b => (g i).blk = some b))
   (hks : gi = g i ∨ aC i ks = true)
   (hblk : ∀ b, gi.blk = some b → (g i).blk = some b ∨ b = w.heap.size)
   (hnew : ∀ j b, j < sg.length → j ≠ i → (g j).blk = some b → ∀ o v, st' b o = some v → st b o = some v)
   (ho : cB E st' (bh g i gi) sg.length w' gi o) :
   aD E st' (bh g i gi) ((sg.map (O.kill ks)).set i o) w' := by
 have hlen : ((sg.map (O.kill ks)).set i o).length = sg.length := by simp
 refine h.step c ?_ ?_
 . intro j o' hj
   rw [hlen]
   by_cases e : j = i
   . subst e
     rw [List.getElem?_set_self (by simpa using hi)] at hj
     cases hj
     rw [cI]; exact ho
   . rw [List.getElem?_set_ne (Ne.symm e), List.getElem?_map] at hj
     cases hs : sg[j]? with
     | none => rw [hs] at hj; cases hj
     | some o₀ =>
       rw [hs] at hj; cases hj
       have hjl : j < sg.length := by
        rcases Nat.lt_or_ge j sg.length with h' | h'
        . exact h'
        . simp [List.getElem?_eq_none h'] at hs
       rw [bR e]
       have h0 := h.ob j o₀ hs
       refine (h0.kill (ks := ks)).aT (fun b hb => ?_) c.mono (fun b hb => hnew j b hjl e hb) (fun k hk hkn => ⟨hkn, ?_⟩)
       . exact c.aT b (h0.br hb).1 (fun hB => e (h.inj j i b hjl hi hb hB))
       . by_cases ek : k = i
         . subst ek
           rw [cI]
           rcases hks with hks | hks
           . exact hks
           . have := (O.jH hk).1; rw [hks] at this; cases this
         . exact bR ek
 . intro j k b hj hk h1 h2
   rw [hlen] at hj hk
   by_cases e1 : j = i <;> by_cases e2 : k = i
   . omega
   . subst e1
     rw [cI] at h1; rw [bR e2] at h2
     rcases hblk b h1 with h3 | h3
     . exact h.inj j k b hj hk h3 h2
     . have := (h.br hk h2).1; omega
   . subst e2
     rw [cI] at h2; rw [bR e1] at h1
     rcases hblk b h2 with h3 | h3
     . exact h.inj j k b hj hk h1 h3
     . have := (h.br hj h1).1; omega
   . rw [bR e1] at h1; rw [bR e2] at h2
     exact h.inj j k b hj hk h1 h2

def et : List O → List O → Nat → Prop
 | _, [], _ => True
 | [], _ :: _, _ => False
 | _ :: os, .dead :: ps, n => et os ps n
 | o :: os, p :: ps, n => (o = p ∧ p.dW n = true) ∧ et os ps n

theorem D1 : ∀ {os ps : List O} {n i : Nat} {p : O}, et os ps n → ps[i]? = some p → ∃ o, os[i]? = some o ∧ (p = .dead ∨ (o = p ∧ p.dW n = true))
 | _, [], _, _, _, _, h => by simp at h
 | [], _ :: _, _, _, _, h, _ => by simp [et] at h
 | o :: os, q :: ps, n, i, p, h, hp => by
   cases i with
   | zero =>
     simp at hp; subst hp
     refine ⟨o, rfl, ?_⟩
     cases q <;> first | exact .inl rfl | (simp only [et] at h; exact .inr h.1)
   | succ i =>
     have h' : et os ps n := by cases q <;> simp only [et] at h <;> first | exact h | exact h.2
     obtain ⟨o', h1, h2⟩ := D1 h' (by simpa using hp)
     exact ⟨o', by simpa using h1, h2⟩

theorem D2 : ∀ {os ps : List O} {n : Nat}, et os ps n → ps.length ≤ os.length
 | _, [], _, _ => by simp
 | [], _ :: _, _, h => by simp [et] at h
 | o :: os, q :: ps, n, h => by
   have h' : et os ps n := by cases q <;> simp only [et] at h <;> first | exact h | exact h.2
   have := D2 h'
   simp; omega

theorem Mh {n : Nat} {p : O} (h : p.dW n = true) {i : Nat} (hi : p.has i = true) : i < n := by
 cases p with
 | cells cs => exact pD (by simpa [O.dW] using h) (by simpa [O.has] using hi)
 | miter m bs ck l x => exact pE (by simpa [O.dW] using h) (by simpa [O.has] using hi)
 | _ => simp [O.has] at hi

theorem aD.xM {E : Env} {st : St} {g : aj} {sg ps : List O} {w : World} (h : aD E st g sg w) (hs : et sg ps ps.length) : aD E st g ps w := by
 have hl := D2 hs
 refine h.step (cf.same (aH.refl w)) (fun i p hp => ?_) (fun i j b hi hj => h.inj i j b (by omega) (by omega))
 obtain ⟨o, ho, hd⟩ := D1 hs hp
 have h0 := h.ob i o ho
 rcases hd with rfl | ⟨rfl, hsc⟩
 . intro b hb; exact h0.br hb
 . exact h0.aT (fun _ _ => rfl) (fun _ _ _ hv => hv) (fun _ _ _ _ hv => hv) (fun k hk _ => ⟨Mh hsc hk, rfl⟩)

end Go.VG
namespace Go.VG
open Go

structure AS where
 nt : Nat
 tm : List (Nat × V)
 sg : List O
 kl : List Nat

def lk : List (Nat × V) → Nat → V
 | [], _ => .undef
 | (k, x) :: r, t => cond (Nat.beq k t) x (lk r t)
def pX (ks : List Nat) : List (Nat × V) → List (Nat × V)
 | [] => []
 | (k, x) :: r => (k, x.kill ks) :: pX ks r
def s7 (ks : List Nat) : List O → List O
 | [] => []
 | o :: os => o.kill ks :: s7 ks os
def dm : List O → Nat → O → List O
 | [], _, _ => []
 | _ :: os, 0, o => o :: os
 | p :: os, i + 1, o => p :: dm os i o
def cH : List O → List (Nat × O) → List O
 | sg, [] => sg
 | sg, (i, o) :: r => cH (dm sg i o) r
def ax : List O → Nat → O
 | [], _ => .dead
 | o :: _, 0 => o
 | _ :: os, i + 1 => ax os i
def hM : List V → Nat → Option V
 | [], _ => none
 | x :: _, 0 => some x
 | _ :: xs, i + 1 => hM xs i
def fA : List V → Nat → Option (List V)
 | _, 0 => some []
 | [], _ + 1 => none
 | x :: xs, n + 1 => match fA xs n with
   | some r => some (x :: r)
   | none => none
def gF : List V → Nat → List V
 | xs, 0 => xs
 | [], _ + 1 => []
 | _ :: xs, n + 1 => gF xs n
def fW : List V → Nat → List V → Option (List V)
 | xs, _, [] => some xs
 | [], _, _ :: _ => none
 | _ :: xs, 0, y :: ys => match fW xs 0 ys with
   | some r => some (y :: r)
   | none => none
 | x :: xs, n + 1, ys => match fW xs n ys with
   | some r => some (x :: r)
   | none => none

structure Ef where
 v : V
 ks : List Nat
 up : List (Nat × O)
 nw : List O
 rd : List Nat

def fN : List Nat → List (Nat × V) → List (Nat × V)
 | [], tm => tm
 | k :: ks, tm => pX (k :: ks) tm
def gp : List Nat → List O → List O
 | [], sg => sg
 | k :: ks, sg => s7 (k :: ks) sg
def eZ : List O → List O → List O
 | sg, [] => sg
 | sg, o :: os => sg ++ (o :: os)
def dr : List Nat → List Nat → List Nat
 | [], l => l
 | k :: ks, l => cond (aC k l) (dr ks l) (k :: dr ks l)

def AS.app (s : AS) (d : Option Nat) (e : Ef) : AS :=
 ⟨s.nt, match d with
  | some d => (d, e.v) :: fN e.ks s.tm
  | none => fN e.ks s.tm, eZ (cH (gp e.ks s.sg) e.up) e.nw, dr e.ks s.kl⟩

def bo (b : Bool) (A B : Prop) : Prop := match b with
 | true => A
 | false => B
def dZ {α : Type} (o : Option α) (K : α → Prop) : Prop := match o with
 | some a => K a
 | none => False
def fZ (b : Bool) (A : Prop) : Prop := match b with
 | true => A
 | false => False

def Tr (α : Type) : Type := (α → Prop) → Prop
def ret {α : Type} (a : α) : Tr α := fun K => K a
def fail {α : Type} : Tr α := fun _ => False
def aw {α : Type} (A : Prop) (t : Tr α) : Tr α := fun K => A ∧ t K
def b7 {α : Type} (b : Bool) (t : Tr α) : Tr α := fun K => fZ b (t K)
def cT {α β : Type} (o : Option α) (f : α → Tr β) : Tr β := fun K => dZ o fun a => f a K
def iD {α : Type} (b : Bool) (t u : Tr α) : Tr α := fun K => bo b (t K) (u K)
inductive dP {α : Type} (l : List α) (n : Nat) (K : α → Prop) : Prop where
 | mk (a : α) (h : l[n]? = some a) (k : K a)
def l5 {α β : Type} (l : List α) (n : Nat) (f : α → Tr β) : Tr β := fun K => dP l n fun a => f a K
theorem iM {α β : Type} (l : List α) (n : Nat) (f : α → Tr β) : l5 l n f = cT (l[n]?) f := by
 funext K
 apply propext
 constructor
 . rintro ⟨a, h, k⟩
   show dZ (l[n]?) _
   rw [h]; exact k
 . intro h
   have h : dZ (l[n]?) fun a => f a K := h
   cases hl : l[n]? with
   | none => rw [hl] at h; exact h.elim
   | some a => rw [hl] at h; exact ⟨a, hl, h⟩
def dt {α β : Type} (t : Tr α) (f : α → Tr β) : Tr β := fun K => t fun a => f a K
def exT {α β : Type} (f : α → Tr β) : Tr β := fun K => ∃ a, f a K

def force {α : Type} (x : V) (K : V → Tr α) : Tr α := match x with
 | .undef => K .undef | .int k n => K (.int k n) | .bool b => K (.bool b) | .str a => K (.str a) | .agg cs => K (.agg cs) | .tuple vs => K (.tuple vs)
 | .list c z l => K (.list c z l) | .nilptr => K .nilptr | .box cs o => K (.box cs o) | .ptr i o => K (.ptr i o) | .bptr i a o => K (.bptr i a o)
 | .buf i => K (.buf i) | .iface t v => K (.iface t v) | .nilIface => K .nilIface | .func f a b => K (.func f a b) | .nilFunc => K .nilFunc
 | .map i => K (.map i) | .nilmap => K .nilmap
@[simp] theorem force_eq {α : Type} (x : V) (K : V → Tr α) : force x K = K x := by cases x <;> rfl
def aZ {α : Type} (n : Nat) (K : Nat → Tr α) : Tr α := match n with
 | 0 => K 0 | 1 => K 1 | 2 => K 2 | 3 => K 3 | 4 => K 4 | 5 => K 5 | 6 => K 6 | 7 => K 7 | 8 => K 8 | 9 => K 9 | 10 => K 10 | 11 => K 11 | 12 => K 12
 | 13 => K 13 | 14 => K 14 | 15 => K 15 | 16 => K 16 | 17 => K 17 | 18 => K 18 | 19 => K 19 | 20 => K 20 | n => K n
@[simp] theorem cy {α : Type} (n : Nat) (K : Nat → Tr α) : aZ n K = K n := by unfold aZ; split <;> rfl
mutual
def fI {α : Type} (x : V) (K : V → α) : α := match x with
 | .undef => K .undef | .int k n => K (.int k n) | .bool b => K (.bool b) | .str a => K (.str a) | .agg cs => bQ cs fun cs => K (.agg cs) | .tuple vs => bQ vs fun vs => K (.tuple vs)
 | .list c z l => K (.list c z l) | .nilptr => K .nilptr | .box cs o => K (.box cs o) | .ptr i o => K (.ptr i o) | .bptr i a o => K (.bptr i a o)
 | .buf i => K (.buf i) | .iface t v => fI v fun v => K (.iface t v) | .nilIface => K .nilIface | .func f a b => bQ a fun a => bQ b fun b => K (.func f a b) | .nilFunc => K .nilFunc
 | .map i => K (.map i) | .nilmap => K .nilmap
def bQ {α : Type} (l : List V) (K : List V → α) : α := match l with
 | [] => K []
 | x :: xs => fI x fun x => bQ xs fun xs => K (x :: xs)
end
mutual
theorem kU {α : Type} : ∀ (x : V) (K : V → α), fI x K = K x
 | .undef, _ | .int .., _ | .bool _, _ | .str _, _ | .list .., _ | .nilptr, _ | .box .., _ | .ptr .., _ | .bptr .., _ | .buf _, _ | .nilIface, _ | .nilFunc, _ | .map _, _ | .nilmap, _ => by simp only [fI]
 | .agg cs, K | .tuple cs, K => by simp only [fI]; exact hJ cs _
 | .iface t v, K => by simp only [fI]; exact kU v _
 | .func f a b, K => by simp only [fI]; rw [hJ a]; exact hJ b _
theorem hJ {α : Type} : ∀ (l : List V) (K : List V → α), bQ l K = K l
 | [], _ => by simp only [bQ]
 | x :: xs, K => by simp only [bQ]; rw [kU x]; exact hJ xs _
end
def kV {α : Type} (l : List V) (f : List V → Tr α) : Tr α := fun K => bQ l fun l => f l K
@[simp] theorem px {α : Type} (l : List V) (f : List V → Tr α) : kV l f = f l := by funext K; exact hJ l _
def rT {α : Type} (o : O) (K : O → α) : α := match o with
 | .dead => K .dead | .cells cs => bQ cs fun cs => K (.cells cs) | .buf a b l => K (.buf a b l) | .siter s p => K (.siter s p) | .map a sh es bs ck => K (.map a sh es bs ck)
 | .miter m bs ck l x => fI m fun m => K (.miter m bs ck l x)
@[simp] theorem zH {α : Type} (o : O) (K : O → α) : rT o K = K o := by cases o <;> simp only [rT, hJ, kU]
def gj {α : Type} (l : List O) (K : List O → α) : α := match l with
 | [] => K []
 | x :: xs => rT x fun x => gj xs fun xs => K (x :: xs)
@[simp] theorem nG {α : Type} : ∀ (l : List O) (K : List O → α), gj l K = K l
 | [], _ => by simp only [gj]
 | x :: xs, K => by simp only [gj]; rw [zH x]; exact nG xs _
def jF (l : List (Nat × V)) (K : List (Nat × V) → Prop) : Prop := match l with
 | [] => K []
 | (t, x) :: xs => fI x fun x => jF xs fun xs => K ((t, x) :: xs)
@[simp] theorem Iu : ∀ (l : List (Nat × V)) (K : List (Nat × V) → Prop), jF l K = K l
 | [], _ => by simp only [jF]
 | (t, x) :: xs, K => by simp only [jF]; rw [kU x]; exact Iu xs _
def fK {α : Type} (l : List α) (K : List α → Prop) : Prop := match l with
 | [] => K []
 | x :: xs => fK xs fun xs => K (x :: xs)
@[simp] theorem pA {α : Type} : ∀ (l : List α) (K : List α → Prop), fK l K = K l
 | [], _ => by simp only [fK]
 | x :: xs, K => by simp only [fK]; exact pA xs _
def pB (l : List (Nat × O)) (K : List (Nat × O) → Prop) : Prop := match l with
 | [] => K []
 | (t, x) :: xs => rT x fun x => pB xs fun xs => K ((t, x) :: xs)
@[simp] theorem zI : ∀ (l : List (Nat × O)) (K : List (Nat × O) → Prop), pB l K = K l
 | [], _ => by simp only [pB]
 | (t, x) :: xs, K => by simp only [pB]; rw [zH x]; exact zI xs _
def fJ (e : Ef) (K : Ef → Prop) : Prop := match e with
 | ⟨v, ks, up, nw, rd⟩ => fI v fun v => fK ks fun ks => pB up fun up => gj nw fun nw => fK rd fun rd => K ⟨v, ks, up, nw, rd⟩
@[simp] theorem gd (e : Ef) (K : Ef → Prop) : fJ e K = K e := by cases e; simp only [fJ, kU, pA, zI, nG]

def da (s : AS) (d : Option Nat) (e : Ef) (K : AS → Prop) : Prop := match s, d, e with
 | ⟨nt, tm, sg, kl⟩, some d, ⟨v, [], [], [], _⟩ => K ⟨nt, (d, v) :: tm, sg, kl⟩
 | ⟨nt, tm, sg, kl⟩, none, ⟨_, [], [], [], _⟩ => K ⟨nt, tm, sg, kl⟩
 | ⟨nt, tm, sg, kl⟩, some d, ⟨v, [], up, nw, _⟩ => gj (eZ (cH sg up) nw) fun sg => K ⟨nt, (d, v) :: tm, sg, kl⟩
 | ⟨nt, tm, sg, kl⟩, none, ⟨_, [], up, nw, _⟩ => gj (eZ (cH sg up) nw) fun sg => K ⟨nt, tm, sg, kl⟩
 | ⟨nt, tm, sg, kl⟩, some d, ⟨v, ks, up, nw, _⟩ => jF (fN ks tm) fun tm => gj (eZ (cH (gp ks sg) up) nw) fun sg => fK (dr ks kl) fun kl => K ⟨nt, (d, v) :: tm, sg, kl⟩
 | ⟨nt, tm, sg, kl⟩, none, ⟨_, ks, up, nw, _⟩ => jF (fN ks tm) fun tm => gj (eZ (cH (gp ks sg) up) nw) fun sg => fK (dr ks kl) fun kl => K ⟨nt, tm, sg, kl⟩
@[simp] theorem dB (s : AS) (d : Option Nat) (e : Ef) (K : AS → Prop) : da s d e K = K (s.app d e) := by
 obtain ⟨nt, tm, sg, kl⟩ := s
 obtain ⟨v, ks, up, nw, rd⟩ := e
 cases d <;> cases ks <;> cases up <;> cases nw <;> simp [da, AS.app, fN, gp, dr, cH, eZ]

inductive TK where
 | bool | int (k : IntKind) | string
 | slice (e : TypeId) | array (n : Nat) (e : TypeId) | ptr (e : TypeId)
 | struct (fs : List (Nat × TypeId)) | iface | func | map (k e : TypeId) | other
structure TI where
 k : TK
 size : Nat
 bytes : Nat
 zero : V
 feq : List Sc

inductive dQ where
 | tm (t sz : Nat)
 | cell (i off sz : Nat)
 | swap (i j : Nat)
 | nw
 | bH (i : Nat)
 | fbx (i : Nat)
structure Ctx where
 P : Program
 ti : TypeId → TI
 gl : Nat → Option (List V)
 Γ : FuncId → List V → List O → Option (Prop × V × Option (List O))
 mt : TypeId → String → FuncId → Prop
 hint : Nat → List dQ
 lits : Nat → Bool
 yd : Nat → List V → List O → List Nat → Option (Prop × V × List O × List Nat) := fun _ _ _ _ => none
 pn : FuncId → List V → List O → Option (Prop × Prop × V × Option (List O) × V × Option (List O)) := fun _ _ _ => none
 pdr : Nat → Bool := fun _ => false
def Ctx.fR (C : Ctx) : Ctx := { C with Γ := fun f a s => match C.pn f a s with
 | some (pre, c, u, r, _, _) => some (pre ∧ c, u, r)
 | none => none }
def Ctx.ig (C : Ctx) : Ctx := { C with Γ := fun f a s => match C.pn f a s with
 | some (pre, c, _, _, x, r) => some (pre ∧ ¬ c, x, r)
 | none => none }
def iS : V → Option Value
 | .iface t (.int k n) => some (.iface t (.int k n))
 | _ => none

def TK.isAgg : TK → Bool
 | .struct _ | .array _ _ => true
 | _ => false

def Bv (k : IntKind) (m : Nat) : Bool := match k with
 | .i8 => Nat.ble m 127 | .i16 => Nat.ble m 32767 | .i32 => Nat.ble m 2147483647 | .i64 => Nat.ble m 9223372036854775807
 | .u8 => Nat.ble m 255 | .u16 => Nat.ble m 65535 | .u32 => Nat.ble m 4294967295 | .u64 => Nat.ble m 18446744073709551615
def Bx (k : IntKind) (m : Nat) : Bool := match k with
 | .i8 => Nat.ble m 127 | .i16 => Nat.ble m 32767 | .i32 => Nat.ble m 2147483647 | .i64 => Nat.ble m 9223372036854775807
 | _ => false
def rY (k : IntKind) (n : Int) : Bool := match n with
 | .ofNat m => Bv k m
 | .negSucc m => Bx k m

def sq : Value → V
 | .int k n => cond (rY k n) (.int k n) .undef
 | .bool b => .bool b
 | .string s => cond (Nat.ble s.data.toList.length 1048576) (.str s.data.toList) .undef
 | .slice none 0 0 => .list true 0 []
 | .pointer none => .nilptr
 | .nilIface => .nilIface
 | .nilFunc => .nilFunc
 | .map none => .nilmap
 | _ => .undef
def vO : List Value → List V
 | [] => []
 | v :: vs => sq v :: vO vs
def vN : Value → V
 | .agg cs => .agg (vO cs.toList)
 | v => sq v

def AS.ev (C : Ctx) (s : AS) : Operand → V
 | .tmp t => lk s.tm t
 | .const v => vN v
 | .global g => match C.gl g with
   | some cs => .box cs 0
   | none => .undef
 | .func f => .func (.func f) [] []
def AS.bL (C : Ctx) (s : AS) : List Operand → List V
 | [] => []
 | x :: xs => s.ev C x :: AS.bL C s xs

def bv (b : UInt8) : V := .int .u8 b.toNat
def bl : List UInt8 → List V
 | [] => []
 | b :: s => bv b :: bl s

def jI (k : IntKind) (a b : Int) : Int := k.wrap (BitVec.ofInt k.bits a &&& BitVec.ofInt k.bits b).toNat
def jf (k : IntKind) (a b : Int) : Int := k.wrap (BitVec.ofInt k.bits a ||| BitVec.ofInt k.bits b).toNat
def pF (k : IntKind) (a b : Int) : Int := k.wrap (BitVec.ofInt k.bits a ^^^ BitVec.ofInt k.bits b).toNat
def zT (k : IntKind) (a b : Int) : Int := k.wrap (BitVec.ofInt k.bits a &&& ~~~ BitVec.ofInt k.bits b).toNat
def jg (k : IntKind) (a b : Int) : Int := k.wrap (a * 2 ^ (min b.toNat k.bits))
def bn (k : IntKind) (a b : Int) : Int := a.fdiv (2 ^ (min b.toNat k.bits))

def mc : V → V → Option Bool
 | .int k a, .int k' b => cond (di k k') (some (a == b)) none
 | .str a, .str b => some (a == b)
 | .bool a, .bool b => some (a == b)
 | _, _ => none
def eqs : List V → List V → Option Bool
 | [], [] => some true
 | [x], [y] => mc x y
 | x :: xs, y :: ys => match mc x y, eqs xs ys with
   | some a, some b => some (a && b)
   | _, _ => none
 | _, _ => none

def uV : List Sc → List V → Bool
 | [], _ => false
 | k :: ks, xs => c6 (k :: ks) xs
def jC (C : Ctx) (op : BinOp) (t : TypeId) (x y : V) : Tr V :=
 match x, y with
 | .int k a, .int k' b => match op with
   | .shl => aw (0 ≤ b) (ret (.int k (jg k a b)))
   | .shr => aw (0 ≤ b) (ret (.int k (bn k a b)))
   | .add => b7 (di k k') (ret (.int k (k.wrap (a + b))))
   | .sub => b7 (di k k') (ret (.int k (k.wrap (a - b))))
   | .mul => b7 (di k k') (ret (.int k (k.wrap (a * b))))
   | .quo => b7 (di k k') (aw (b ≠ 0) (ret (.int k (k.wrap (a.tdiv b)))))
   | .rem => b7 (di k k') (aw (b ≠ 0) (ret (.int k (a.tmod b))))
   | .and => b7 (di k k') (ret (.int k (jI k a b)))
   | .or => b7 (di k k') (ret (.int k (jf k a b)))
   | .xor => b7 (di k k') (ret (.int k (pF k a b)))
   | .andNot => b7 (di k k') (ret (.int k (zT k a b)))
   | .eql => b7 (di k k') (ret (.bool (a == b)))
   | .neq => b7 (di k k') (ret (.bool (a != b)))
   | .lss => b7 (di k k') (ret (.bool (decide (a < b))))
   | .leq => b7 (di k k') (ret (.bool (decide (a ≤ b))))
   | .gtr => b7 (di k k') (ret (.bool (decide (a > b))))
   | .geq => b7 (di k k') (ret (.bool (decide (a ≥ b))))
 | .str a, .str b => match op with
   | .add => aw (a.length + b.length ≤ 4294967296) (ret (.str (a ++ b)))
   | .eql => ret (.bool (a == b))
   | .neq => ret (.bool (!(a == b)))
   | .lss => ret (.bool (Op.bytesLess a b))
   | .leq => ret (.bool (Op.bytesLess a b || a == b))
   | .gtr => ret (.bool (!(Op.bytesLess a b || a == b)))
   | .geq => ret (.bool (!(Op.bytesLess a b)))
   | _ => fail
 | .bool a, .bool b => match op, (C.ti t).k with
   | .eql, .bool => ret (.bool (a == b))
   | .neq, .bool => ret (.bool (!(a == b)))
   | _, _ => fail
 | .agg a, .agg b => match (C.ti t).k with
   | .other | .map _ _ => fail
   | _ => b7 (uV (C.ti t).feq a && (uV (C.ti t).feq b && Nat.beq a.length (C.ti t).size)) (cT (eqs a b) fun r => match op with
     | .eql => ret (.bool r)
     | .neq => ret (.bool (!r))
     | _ => fail)
 | .nilptr, .nilptr => match op, (C.ti t).k with
   | .eql, .ptr _ => ret (.bool true)
   | .neq, .ptr _ => ret (.bool false)
   | _, _ => fail
 | .ptr _ _, .nilptr | .nilptr, .ptr _ _ | .bptr _ _ _, .nilptr | .nilptr, .bptr _ _ _ | .box _ _, .nilptr | .nilptr, .box _ _ => match op, (C.ti t).k with
   | .eql, .ptr _ => ret (.bool false)
   | .neq, .ptr _ => ret (.bool true)
   | _, _ => fail
 | .iface _ _, .nilIface | .nilIface, .iface _ _ => match op, (C.ti t).k with
   | .eql, .iface => ret (.bool false)
   | .neq, .iface => ret (.bool true)
   | _, _ => fail
 | _, _ => fail

def pr (op : UnOp) (x : V) : Tr V :=
 match op, x with
 | .neg, .int k n => ret (.int k (k.wrap (0 - n)))
 | .xor, .int k n => ret (.int k (pF k (if k.signed then -1 else k.max) n))
 | .not, .bool b => ret (.bool (!b))
 | _, _ => fail

def fQ (agg : Bool) (size : Nat) (cs : List V) (off : Nat) : Tr V :=
 match agg with
 | true => cT (fA (gF cs off) size) fun r => ret (.agg r)
 | false => cT (hM cs off) ret

def elems (s : AS) (x : V) : Tr (Nat × List V × List Nat) :=
 match x with
 | .list _ sz l => ret (sz, l, [])
 | .str b => ret (1, bl b, [])
 | .buf i => match ax s.sg i with
   | .buf sz _ l => ret (sz, l, [i])
   | _ => fail
 | _ => fail

def gP (sz esz : Nat) (l : List V) : Bool :=
 match Nat.beq sz esz with
 | true => true
 | false => match l with
   | [] => true
   | _ => false
def V.one : V → Bool
 | .agg _ | .tuple _ | .undef => false
 | _ => true
def cS : List V → Bool
 | [] => true
 | c :: cs => c.one && cS cs

def V.dh : V → Bool
 | .undef => true
 | _ => false
mutual
def V.pure : V → Bool
 | .undef | .ptr _ _ | .bptr _ _ _ | .buf _ | .map _ => false
 | .agg cs | .tuple cs => V.eI cs
 | .iface _ x => V.pure x
 | .func _ fs cs => V.eI fs && V.eI cs
 | _ => true
def V.eI : List V → Bool
 | [] => true
 | c :: cs => V.pure c && V.eI cs
end

def oe : List (Nat × V) → Nat → Nat → Option (List V)
 | [], _, _ => some []
 | (i, x) :: r, k, sz => match Nat.beq i k, Nat.beq x.cells.length sz, x.pure && cS x.cells with
   | true, true, true => match oe r (k + 1) sz with
     | some l => some (x :: l)
     | none => none
   | _, _, _ => none

def nF (place : Nat → Option (Nat × Nat)) : List (Nat × V) → List V → Option (List V)
  | [], cs => some cs
  | (i, x) :: r, cs => match place i with
    | none => none
    | some (off, size) => match Nat.beq x.cells.length size && Nat.blt 0 size, x.dh with
      | true, false => match fW cs off x.cells with
        | some cs' => nF place r cs'
        | none => none
      | _, _ => none
def d5 : List (Nat × TypeId) → Nat → Option (Nat × TypeId)
 | [], _ => none
 | x :: _, 0 => some x
 | _ :: xs, i + 1 => d5 xs i
def placeOf (C : Ctx) (fs : List (Nat × TypeId)) (i : Nat) : Option (Nat × Nat) := match d5 fs i with
 | some (off, t) => match (C.ti t).k with
   | .other => none
   | _ => some (off, (C.ti t).size)
 | none => none

def fi (C : Ctx) (s : AS) : List (Nat × Operand) → List (Nat × V)
 | [] => []
 | (i, x) :: r => (i, s.ev C x) :: fi C s r

def pe (v : V) : Ef := ⟨v, [], [], [], []⟩

def idxOf (i : Nat) : List Nat → Nat → Option Nat
 | [], _ => none
 | k :: ks, n => cond (Nat.beq k i) (some n) (idxOf i ks (n + 1))
mutual
def V.b8 (f : Nat → Option Nat) : V → V
 | .ptr i o => match f i with
   | some j => .ptr j o
   | none => .undef
 | .bptr i a o => match f i with
   | some j => .bptr j a o
   | none => .undef
 | .buf i => match f i with
   | some j => .buf j
   | none => .undef
 | .map i => match f i with
   | some j => .map j
   | none => .undef
 | .agg cs => .agg (V.fV f cs)
 | .tuple cs => .tuple (V.fV f cs)
 | .iface t x => .iface t (V.b8 f x)
 | .func g fs cs => .func g (V.fV f fs) (V.fV f cs)
 | .undef => .undef | .int k n => .int k n | .bool b => .bool b | .str s => .str s | .list c z l => .list c z l
 | .nilptr => .nilptr | .box cs o => .box cs o | .nilIface => .nilIface | .nilFunc => .nilFunc | .nilmap => .nilmap
def V.fV (f : Nat → Option Nat) : List V → List V
 | [] => []
 | c :: cs => V.b8 f c :: V.fV f cs
end
def O.b8 (f : Nat → Option Nat) : O → O
 | .cells cs => .cells (V.fV f cs)
 | .dead => .dead | .buf a b l => .buf a b l | .siter s p => .siter s p | .map a sh es bs ck => .map a sh es bs ck
 | .miter m bs ck l x => .miter (m.b8 f) bs ck l x
mutual
def V.names : V → List Nat → List Nat
 | .ptr i _, acc | .bptr i _ _, acc | .buf i, acc | .map i, acc => cond (aC i acc) acc (acc ++ [i])
 | .agg cs, acc | .tuple cs, acc => V.d7 cs acc
 | .iface _ x, acc => V.names x acc
 | .func _ fs cs, acc => V.d7 cs (V.d7 fs acc)
 | _, acc => acc
def V.d7 : List V → List Nat → List Nat
 | [], acc => acc
 | c :: cs, acc => V.d7 cs (V.names c acc)
end
def O.names : O → List Nat → List Nat
 | .cells cs, acc => V.d7 cs acc
 | .miter m _ _ _ _, acc => V.names m acc
 | _, acc => acc
def reach (sg : List O) : Nat → List Nat → List Nat → List Nat
 | 0, _, acc => acc
 | _ + 1, [], acc => acc
 | fuel + 1, i :: todo, acc =>
   let acc' := (ax sg i).names acc
   reach sg fuel (todo ++ acc'.drop acc.length) acc'
def locals (sg : List O) (f : Nat → Option Nat) : List Nat → List O
 | [] => []
 | i :: is => (ax sg i).b8 f :: locals sg f is
def cm : List Nat → Nat → Nat → Nat → Option Nat
 | i :: _, _, _, 0 => some i
 | _ :: th, n, k, j + 1 => cm th n k j
 | [], n, k, j => cond (Nat.blt j k) (some (n + j)) none
def g8 (sg : List O) : List Nat → List Nat
 | [] => []
 | i :: is => match ax sg i with
   | .buf _ _ _ => i :: g8 sg is
   | _ => g8 sg is
def gR (f : Nat → Option Nat) : List Nat → List O → List (Nat × O)
 | i :: is, o :: os => (i, o.b8 f) :: gR f is os
 | _, _ => []
def gw (f : Nat → Option Nat) : List O → List O
 | [] => []
 | o :: os => o.b8 f :: gw f os

def cP : List O → Nat → List O
 | xs, 0 => xs
 | [], _ + 1 => []
 | _ :: xs, n + 1 => cP xs n

def fv : List Nat → Bool
 | [] => true
 | k :: ks => cond (aC k ks) false (fv ks)
def fF (sg : List O) : List Nat → Bool
 | [] => true
 | i :: is => match ax sg i with
   | .dead => false
   | _ => fF sg is
mutual
def V.within (th : List Nat) : V → Bool
 | .ptr j _ | .bptr j _ _ | .buf j | .map j => aC j th
 | .agg cs | .tuple cs => V.lR th cs
 | .iface _ x => V.within th x
 | .func _ fs cs => V.lR th fs && V.lR th cs
 | _ => true
def V.lR (th : List Nat) : List V → Bool
 | [] => true
 | c :: cs => V.within th c && V.lR th cs
end
def fG (sg : List O) (th : List Nat) : List Nat → Bool
 | [] => true
 | i :: is => match ax sg i with
   | .cells cs => V.lR th cs && fG sg th is
   | .miter m _ _ _ _ => V.within th m && fG sg th is
   | _ => fG sg th is

def mm {α : Type} (l : List Nat) (K : List Nat → α) : α := match l with
 | [] => K []
 | x :: xs => mm xs fun xs => K (x :: xs)
theorem kW {α : Type} : ∀ (l : List Nat) (K : List Nat → α), mm l K = K l
 | [], _ => by simp only [mm]
 | x :: xs, K => by simp only [mm]; exact kW xs _
def eE : List O → Bool
 | [] => false
 | .dead :: [] => true
 | _ :: os => eE os
def pq (C : Ctx) (sg : List O) (f : FuncId) (args : List V) (th : List Nat) : Option (Prop × Ef) :=
 cond (fv th && fF sg th) (bQ (V.fV (fun i => idxOf i th 0) args) fun args' => gj (locals sg (fun i => idxOf i th 0) th) fun lo => match C.Γ f args' lo with
  | none => none
  | some (pre, v, none) => cond (fG sg th th) (some (pre, ⟨v.b8 (cm th 0 0), [], [], [], th⟩)) none
  | some (pre, v, some sg') =>
    some (pre, ⟨v.b8 (cm th sg.length (cP sg' th.length).length), cond (eE sg') [] (g8 sg th), gR (cm th sg.length (cP sg' th.length).length) th sg', gw (cm th sg.length (cP sg' th.length).length) (cP sg' th.length), th⟩)) none
def dD (C : Ctx) (sg : List O) (f : FuncId) (args : List V) : Option (Prop × Ef) :=
 mm (V.d7 args []) fun a0 => mm (reach sg 256 a0 a0) fun th => pq C sg f args th

def target (C : Ctx) (s : AS) (c : Call) : Option (FuncId × List V) :=
 match c.callee with
 | .value f => match s.ev C f with
   | .func (.func g) first captured => some (g, first ++ s.bL C c.args.toList ++ captured)
   | _ => none
 | _ => none

def kA (C : Ctx) (s : AS) (e : TypeId) (x : V) (ys : List V) (rd : List Nat) : Tr Ef :=
 match x with
 | .list true sz0 l => b7 (gP sz0 (C.ti e).size l) (aw (l.length + ys.length ≤ 4294967296) (aw (l = [] ∨ ys ≠ [])
  (aZ s.sg.length fun i => aZ (C.ti e).size fun sz => ret ⟨.buf i, [], [], [.buf sz 0 (l ++ ys)], rd⟩)))
 | .buf i => match ax s.sg i with
   | .buf sz0 pre l => b7 (Nat.beq sz0 (C.ti e).size && !aC i rd) (aw (l.length + ys.length ≤ 4294967296) (ret ⟨.buf i, [i], [(i, .buf sz0 pre (l ++ ys))], [], i :: rd⟩))
   | _ => fail
 | _ => fail
def kC (C : Ctx) (s : AS) (e : TypeId) (sz : Nat) (x : V) (ys : List V) (rd : List Nat) : Tr Ef :=
 match sz, x, ys with
 | 0, .list true sz0 (a :: l), [] => b7 (gP sz0 (C.ti e).size (a :: l)) (aw (l.length ≤ 4294967295) (aZ (C.ti e).size fun sz => ret ⟨.list true sz0 (a :: l), [], [], [.buf sz 0 []], rd⟩))
 | _, x, ys => kA C s e x ys rd

def cG {α β : Type} (o : Option α) (f : α → Tr β) (g : Tr β) : Tr β := fun K => (∀ a, o = some a → f a K) ∧ (o = none → g K)
def wo : Sc → Sc → Bool
 | .kB, .kB => true
 | .kI k, .kI k' => di k k'
 | .kS, .kS => true
 | _, _ => false
def ow : List Sc → List Sc → Bool
 | [], [] => true
 | a :: r, b :: q => wo a b && ow r q
 | _, _ => false
def ry (a b : Bool) : Bool := cond a b (!b)
def sl (C : Ctx) (t : TypeId) : Option (Bool × List Sc) := match (C.ti t).k with
 | .map k e => match (C.ti k).k, (C.ti e).k, (C.ti t).feq with
   | .other, _, _ => none
   | _, _, [] => none
   | kk, .int .i64, sh => match (C.ti e).zero with
     | .int .i64 (.ofNat 0) => some (kk.isAgg, sh)
     | _ => none
   | _, _, _ => none
 | _ => none
def dw (C : Ctx) (s : AS) (t : TypeId) (m : V) (F : Nat → Bool → List Sc → List (V × Int) → List Nat → Nat → Tr Ef) : Tr Ef :=
 cT (sl C t) fun p => match m with
   | .map i => match ax s.sg i with
     | .map ag sh es bs ck => b7 (ry ag p.1 && ow sh p.2) (F i ag sh es bs ck)
     | _ => fail
   | _ => fail
def kK (C : Ctx) (s : AS) (t : TypeId) : Tr Ef :=
 cT (sl C t) fun p => aZ s.sg.length fun n => ret ⟨.map n, [], [], [.map p.1 p.2 [] [] 0], []⟩
def gY (C : Ctx) (s : AS) (t : TypeId) (m x : Operand) (ok : Bool) : Tr Ef :=
 dw C s t (s.ev C m) fun i ag sh es _ _ => force (s.ev C x) fun x => b7 (gb ag sh x) (match ok with
  | true => cG (cR es x) (fun r => ret ⟨.tuple [.int .i64 r.2, .bool true], [], [], [], [i]⟩) (ret ⟨.tuple [.int .i64 0, .bool false], [], [], [], [i]⟩)
  | false => ret ⟨.int .i64 (getM es x), [], [], [], [i]⟩)
def kM (C : Ctx) (s : AS) (t : TypeId) (m x y : Operand) : Tr Ef :=
  dw    C s t (s.ev C m) fun i ag sh es bs ck => force (s.ev C x) fun x => b7 (gb ag sh x) (match s.ev C y with
   | .int .i64 q => cG (cR es x) (fun r => ret ⟨.undef, [], [(i, .map ag sh (gN es r.1 q) bs ck)], [], [i]⟩)
    (ret ⟨.undef, [], [(i, .map ag sh (es ++ [(x, q)]) (bs ++ [ck]) (ck + 1))], [], [i]⟩)
   | _ => fail)
def ja (C : Ctx) (s : AS) (t : TypeId) (m x : Operand) : Tr Ef :=
 dw C s t (s.ev C m) fun i ag sh es bs ck => force (s.ev C x) fun x => b7 (gb ag sh x) (aw (ck ≤ 9223372036854775807)
  (cG (cR es x) (fun r => ret ⟨.tuple [.int .i64 r.2, .int .i64 (bs.getD r.1 0 : Nat)], [], [(i, .map ag sh es bs ck)], [], [i]⟩)
   (ret ⟨.tuple [.int .i64 0, .int .i64 ck], [], [(i, .map ag sh (es ++ [(x, 0)]) (bs ++ [ck]) (ck + 1))], [], [i]⟩)))
def kE (C : Ctx) (s : AS) (t : TypeId) (m b y : Operand) : Tr Ef :=
 dw C s t (s.ev C m) fun i ag sh es bs ck => match s.ev C b, s.ev C y with
  | .int .i64 b, .int .i64 q => exT fun j => aw (0 ≤ b ∧ bs[j]? = some b.toNat) (ret ⟨.undef, [], [(i, .map ag sh (gN es j q) bs ck)], [], [i]⟩)
  | _, _ => fail
def kD (C : Ctx) (s : AS) (t : TypeId) (m x : V) : Tr Ef :=
 dw C s t m fun i ag sh es bs ck => force x fun x => b7 (gb ag sh x)
  (cG (cR es x) (fun r => ret ⟨.tuple [], [], [(i, .map ag sh (es.eraseIdx r.1) (bs.eraseIdx r.1) ck)], [], [i]⟩) (ret ⟨.tuple [], [], [(i, .map ag sh es bs ck)], [], [i]⟩))
def kJ (C : Ctx) (s : AS) (t : TypeId) (m : V) : Tr Ef :=
 dw C s t m fun i _ _ _ bs ck => aZ s.sg.length fun n => ret ⟨.ptr n 0, [], [], [.miter (.map i) bs ck (List.range bs.length) bs.length], [i]⟩
def mg (C : Ctx) (s : AS) (x : Operand) : Tr Ef :=
 match s.ev C x with
 | .ptr k 0 => match ax s.sg k with
   | .miter (.map i) bs ck _ last => match ax s.sg i with
     | .map _ _ es bs' ck' => aw (bs' = bs ∧ ck' = ck) (l5 es last fun e => ret ⟨.tuple [.undef, .int .i64 e.2], [], [], [], [k, i]⟩)
     | _ => fail
   | _ => fail
 | _ => fail

def iI (C : Ctx) (s : AS) (b : Builtin) (ts : List TypeId) (args : List V) : Tr Ef :=
  match b, ts, args with
  | .len, [t], [x] => match (C.ti t).k with
    | .array n _ => b7 (Nat.ble n 4294967296) (ret (pe (.int .i64 n)))
    | .string => match x with
      | .str a => ret (pe (.int .i64 a.length))
      | _ => fail
    | .slice _ => match x with
      | .list _ _ l => ret (pe (.int .i64 l.length))
      | .buf i => match ax s.sg i with
        | .buf _ _ l => ret ⟨.int .i64 l.length, [], [], [], [i]⟩
        | _ => fail
      | _ => fail
    | _ => fail
  | .append, [t, t2], [x, y] => match (C.ti t).k, (C.ti t2).k with
    | _, .int _ => fail
    | _, .other => fail
    | .slice e, _ => match (C.ti e).k with
      | .other => fail
      | _ => b7 (Nat.ble (C.ti e).bytes 4096 && Nat.blt 0 (C.ti e).size && !(C.ti e).zero.dh && Nat.beq (C.ti e).zero.cells.length (C.ti e).size) (dt (elems s y) fun r => match r with
        | (sz, ys, rd) => b7 (gP sz (C.ti e).size ys) (kC C s e sz x ys rd))
    | _, _ => fail
  | .copy, [t, _], [x, y] => match (C.ti t).k, x with
    | .slice e, .buf i => match (C.ti e).k with
      | .other => fail
      | _ => match ax s.sg i with
        | .buf sz0 0 l => dt (elems s y) fun r => match r with
          | (sz, ys, rd) => b7 (gP sz sz0 ys && Nat.beq sz0 (C.ti e).size && !aC i rd)
            (ret ⟨.int .i64 (min ys.length l.length : Nat), [], [(i, .buf sz0 0 (ys.take l.length ++ l.drop ys.length))], [], i :: rd⟩)
        | _ => fail
    | _, _ => fail
  | .delete, t :: _, [m, x] => kD C s t m x
  | .max, _, [.int k a, .int k' b] => b7 (di k k') (ret (pe (.int k (if b > a then b else a))))
  | .min, _, [.int k a, .int k' b] => b7 (di k k') (ret (pe (.int k (if b < a then b else a))))
  | _, _, _ => fail

def gH (C : Ctx) (s : AS) (src dst : TypeId) (x : V) : Tr Ef :=
 match (C.ti src).k, (C.ti dst).k, x with
 | .other, _, _ => fail
 | _, .int k, .int _ n => ret (pe (.int k (k.wrap n)))
 | .string, .string, .str a => ret (pe (.str a))
 | .string, .slice e, .str a => match (C.ti e).k with
   | .int .u8 => ret (pe (.list false 1 (bl a)))
   | _ => fail
 | .slice e, .string, x => match (C.ti e).k, x with
   | _, .str _ => fail
   | .int .u8, _ => dt (elems s x) fun r => match r with
     | (sz, l, rd) => b7 (gP sz 1 l) (exT fun a => aw (l = bl a) (ret ⟨.str a, [], [], [], rd⟩))
   | _, _ => fail
 | _, _, _ => fail

def kN (C : Ctx) (s : AS) (a b : TypeId) (x : V) : Tr Ef := match x with
  | .buf i => cond (Nat.beq a b) (match (C.ti a).k with
    | .slice e => match (C.ti e).k with
      | .int .u8 => match ax s.sg i with
        | .buf sz pre (y :: l) => ret ⟨.buf i, [], [(i, .buf sz pre (y :: l))], [], [i]⟩
        | _ => fail
      | _ => fail
    | _ => fail) (gH C s a b (.buf i))
  | x => gH C s a b x

def cF (r : Option (Prop × Ef)) : Tr Ef := cT r fun p => aw p.1 (fun K => fJ p.2 K)

def ga (C : Ctx) (s : AS) (len : Nat) (lo hi : Option Operand) : Tr (Option Int × Option Int) :=
 match lo, hi with
 | none, none => ret (none, none)
 | some l, none => match s.ev C l with
   | .int _ l => aw (0 ≤ l ∧ l ≤ len) (ret (some l, none))
   | _ => fail
 | none, some h => match s.ev C h with
   | .int _ h => aw (0 ≤ h ∧ h ≤ len) (ret (none, some h))
   | _ => fail
 | some l, some h => match s.ev C l, s.ev C h with
   | .int _ l, .int _ h => aw (0 ≤ l ∧ l ≤ h ∧ h ≤ len) (ret (some l, some h))
   | _, _ => fail
def ni {α : Type} (a : List α) : Option Int × Option Int → List α
 | (none, none) => a
 | (some l, none) => a.drop l.toNat
 | (none, some h) => a.take h.toNat
 | (some l, some h) => (a.take h.toNat).drop l.toNat
def pc {α β : Type} (a : List α) (r : Option Int × Option Int) (K : List α → Tr β) : Tr β := match r with
 | (none, none) => K a
 | (some l, none) => K (a.drop l.toNat)
 | (none, some h) => K (a.take h.toNat)
 | (some l, some h) => K ((a.take h.toNat).drop l.toNat)
@[simp] theorem pd {α β : Type} (a : List α) (r : Option Int × Option Int) (K : List α → Tr β) : pc a r K = K (ni a r) := by
 obtain ⟨l, h⟩ := r; cases l <;> cases h <;> rfl

def nA (C : Ctx) (s : AS) (c a b : Operand) : Tr Ef :=
 match s.ev C c with
 | .bool t => force (s.ev C a) fun a => force (s.ev C b) fun b => match a, b with
   | .bool x, .bool y => ret (pe (.bool (cond t x y)))
   | x, y => iD t (ret (pe x)) (ret (pe y))
 | _ => fail

def kz (C : Ctx) (s : AS) (t : TypeId) : Tr Ef :=
 match (C.ti t).k with
 | .other => fail
 | _ => force (C.ti t).zero fun z => aZ s.sg.length fun n => b7 (!z.dh) (ret ⟨.ptr n 0, [], [], [.cells z.cells], []⟩)

def me (C : Ctx) (s : AS) (t : TypeId) (parts : Array (Nat × Operand)) : Tr Ef :=
 match (C.ti t).k with
 | .struct fs => b7 (!(C.ti t).zero.dh) (cT (nF (placeOf C fs) (fi C s parts.toList) (C.ti t).zero.cells) fun cs => ret (pe (.agg cs)))
 | .array _ e => match (C.ti e).k with
   | .other => fail
   | _ => b7 (!(C.ti t).zero.dh) (cT (nF (fun i => some (i * (C.ti e).size, (C.ti e).size)) (fi C s parts.toList) (C.ti t).zero.cells) fun cs => ret (pe (.agg cs)))
 | _ => fail

def gG (C : Ctx) (s : AS) (t : TypeId) (len : Nat) (parts : Array (Nat × Operand)) : Tr Ef :=
 match (C.ti t).k with
 | .slice e => match (C.ti e).k with
   | .other => fail
   | _ => b7 (Nat.beq len parts.toList.length && Nat.blt 0 (C.ti e).size && Nat.ble (len * (C.ti e).size) 16777216)
     (cT (oe (fi C s parts.toList) 0 (C.ti e).size) fun l => kV l fun l => aZ (C.ti e).size fun sz => ret (pe (.list true sz l)))
 | _ => fail

def nx (C : Ctx) (s : AS) (t : TypeId) (len : Nat) (parts : Array (Nat × Operand)) : Tr Ef :=
 dt (gG C s t len parts) fun e => match e.v with
 | .list _ sz l => aZ s.sg.length fun n => ret ⟨.buf n, [], [], [.buf sz 0 l], []⟩
 | _ => fail
def jB (C : Ctx) (s : AS) (dst : Option Nat) (t : TypeId) (len : Nat) (parts : Array (Nat × Operand)) : Tr Ef := match dst with
 | some d => cond (C.lits d) (nx C s t len parts) (gG C s t len parts)
 | none => gG C s t len parts

def jD (C : Ctx) (s : AS) (t : TypeId) (a : Operand) : Tr Ef :=
 match (C.ti t).k with
 | .other => fail
 | k => match s.ev C a with
   | .box cs off => dt (fQ k.isAgg (C.ti t).size cs off) fun v => force v fun v => ret (pe v)
   | .ptr i off => match ax s.sg i with
     | .cells cs => dt (fQ k.isAgg (C.ti t).size cs off) fun v => force v fun v => ret ⟨v, [], [], [], [i]⟩
     | _ => fail
   | .bptr i idx off => match ax s.sg i with
     | .buf _ _ l => l5 l idx fun x => b7 (!x.dh) (dt (fQ k.isAgg (C.ti t).size x.cells off) fun v => force v fun v => ret ⟨v, [], [], [], [i]⟩)
     | _ => fail
   | _ => fail

def kP (C : Ctx) (s : AS) (t : TypeId) (a x : Operand) : Tr Ef :=
  match (C.ti t).k with
  | .other => fail
  | _ => force (s.ev C x) fun x => b7 (Nat.beq x.cells.length (C.ti t).size && !x.dh && cS x.cells) (match s.ev C a with
    | .ptr i off => match ax s.sg i with
      | .cells cs => cT (fW cs off x.cells) fun cs' => ret ⟨.undef, [], [(i, .cells cs')], [], [i]⟩
      | _ => fail
    | .bptr i idx off => match ax s.sg i with
      | .buf sz pre l => l5 l idx fun y => match y with
        | .agg cs => b7 x.pure (cT (fW cs off x.cells) fun cs' => aw (pre ≤ idx) (ret ⟨.undef, [], [(i, .buf sz pre (l.set idx (.agg cs')))], [], [i]⟩))
        | _ => fail
      | _ => fail
    | _ => fail)

def kO (C : Ctx) (s : AS) (x : Operand) : Tr Ef :=
 match s.ev C x with
 | .ptr i a => ret (pe (.ptr i a))
 | .bptr i a b => ret (pe (.bptr i a b))
 | .box cs a => ret (pe (.box cs a))
 | .func (.func f) a b => ret (pe (.func (.func f) a b))
 | .iface t v => ret (pe (.iface t v))
 | _ => fail

def ny (C : Ctx) (s : AS) (t : TypeId) (x : Operand) : Tr Ef :=
 match (C.ti t).k with
 | .other | .iface => fail
 | _ => force (s.ev C x) fun x => b7 (!x.dh) (ret (pe (.iface t x)))

def kL (C : Ctx) (s : AS) (t : TypeId) (l c : Operand) : Tr Ef :=
 match (C.ti t).k, s.ev C l, s.ev C c with
 | .slice e, .int _ n, .int _ m => match (C.ti e).k with
   | .other => fail
   | _ => b7 (Nat.ble (C.ti e).bytes 4096 && Nat.blt 0 (C.ti e).size && (C.ti e).zero.pure && cS (C.ti e).zero.cells && Nat.beq (C.ti e).zero.cells.length (C.ti e).size) (aw (0 ≤ n ∧ n ≤ m ∧ m ≤ 4294967296)
     (aZ s.sg.length fun i => aZ (C.ti e).size fun sz => force (C.ti e).zero fun z => ret ⟨.buf i, [], [], [.buf sz 0 (List.replicate n.toNat z)], []⟩))
 | _, _, _ => fail

def ml (C : Ctx) (s : AS) (t : TypeId) (x : Operand) (lo hi mx : Option Operand) : Tr Ef :=
  match (C.ti t).k, s.ev C x, mx with
  | .string, .str a, none => dt (ga C s a.length lo hi) fun r => pc a r fun a => ret (pe (.str a))
  | .slice e, .list _ sz a, none => match (C.ti e).k with
    | .other => fail
    | _ => b7 (gP sz (C.ti e).size a) (dt (ga C s a.length lo hi) fun r => pc a r fun a => ret (pe (.list false sz a)))
  | .slice e, .buf i, none => match (C.ti e).k with
    | .other => fail
    | _ => match ax s.sg i, lo, hi with
      | .buf sz pre l, none, some h => match s.ev C h with
        | .int _ h => b7 (Nat.beq sz (C.ti e).size) (aw ((pre : Int) ≤ h ∧ h ≤ l.length) (ret ⟨.buf i, [i], [(i, .buf sz pre (l.take h.toNat))], [], [i]⟩))
        | _ => fail
      | _, _, _ => fail
  | .slice e, .buf i, some m => match (C.ti e).k with
    | .other => fail
    | _ => match ax s.sg i, lo, hi with
      | .buf sz _ l, none, some h => match s.ev C h, s.ev C m with
        | .int _ h, .int _ m => b7 (Nat.beq sz (C.ti e).size) (aw (h = l.length ∧ m = l.length) (ret ⟨.list true sz l, [i], [(i, .dead)], [], [i]⟩))
        | _, _ => fail
      | _, _, _ => fail
  | .slice e, .list c sz l, some m => match (C.ti e).k with
    | .other => fail
    | _ => match lo, hi with
      | none, some h => match s.ev C h, s.ev C m with
        | .int _ h, .int _ m => b7 (gP sz (C.ti e).size l) (aw (0 ≤ h ∧ h = m ∧ m ≤ l.length) (ret (pe (.list c sz (l.take h.toNat)))))
        | _, _ => fail
      | _, _ => fail
  | .array m e, .ptr i a, none => match (C.ti e).k with
    | .other => fail
    | k => match ax s.sg i with
      | .cells cs => b7 (Nat.beq (C.ti e).size 1 && !k.isAgg && V.eI cs && cS cs && Nat.ble m 1048576) (cT (fA (gF cs a) m) fun l =>
       dt (ga C s m lo hi) fun r => pc l r fun l => ret ⟨.list false 1 l, [i], [(i, .dead)], [], [i]⟩)
      | _ => fail
  | _, _, _ => fail

def kG (C : Ctx) (s : AS) (t : TypeId) (x : Operand) (f : Nat) : Tr Ef :=
 match (C.ti t).k with
 | .struct fs => cT (d5 fs f) fun ft => match (C.ti ft.2).k with
   | .other => fail
   | _ => b7 (Nat.blt 0 (C.ti ft.2).size) (match s.ev C x with
     | .ptr i a => aZ (a + ft.1) fun a => ret (pe (.ptr i a))
     | .bptr i j a => aZ (a + ft.1) fun a => ret (pe (.bptr i j a))
     | .box cs a => aZ (a + ft.1) fun a => ret (pe (.box cs a))
     | _ => fail)
 | _ => fail

def kF (C : Ctx) (s : AS) (t : TypeId) (x : Operand) (f : Nat) : Tr Ef :=
 match (C.ti t).k, s.ev C x with
 | .struct fs, .agg cs => cT (d5 fs f) fun ft => match (C.ti ft.2).k with
   | .other => fail
   | k => dt (fQ k.isAgg (C.ti ft.2).size cs ft.1) fun v => force v fun v => ret (pe v)
 | _, _ => fail

def mh (C : Ctx) (s : AS) (t : TypeId) (x ix : Operand) : Tr Ef :=
 match (C.ti t).k, s.ev C x, s.ev C ix with
 | .slice e, .list _ sz l, .int _ n => match (C.ti e).k with
   | .other => fail
   | _ => b7 (Nat.beq sz (C.ti e).size) (aw (0 ≤ n) (l5 l n.toNat fun y => b7 (!y.dh) (ret (pe (.box y.cells 0)))))
 | .slice e, .buf i, .int _ n => match (C.ti e).k with
   | .other => fail
   | _ => match ax s.sg i with
     | .buf sz _ l => b7 (Nat.beq sz (C.ti e).size) (aw (0 ≤ n ∧ n < l.length) (ret ⟨.bptr i n.toNat 0, [], [], [], [i]⟩))
     | _ => fail
 | .array m e, .ptr i a, .int _ n => match (C.ti e).k with
   | .other => fail
   | _ => aw (0 ≤ n ∧ n < m) (aZ (C.ti e).size fun sz => ret (pe (.ptr i (a + n.toNat * sz))))
 | .array m e, .box cs a, .int _ n => match (C.ti e).k with
   | .other => fail
   | _ => aw (0 ≤ n ∧ n < m) (aZ (C.ti e).size fun sz => ret (pe (.box cs (a + n.toNat * sz))))
 | _, _, _ => fail

def nv (C : Ctx) (s : AS) (t : TypeId) (x ix : Operand) : Tr Ef :=
 match (C.ti t).k, s.ev C x, s.ev C ix with
 | .string, .str a, .int _ n => aw (0 ≤ n) (l5 a n.toNat fun b => ret (pe (.int .u8 b.toNat)))
 | .array m e, .agg cs, .int _ n => match (C.ti e).k with
   | .other => fail
   | k => aw (0 ≤ n ∧ n < m) (dt (fQ k.isAgg (C.ti e).size cs (n.toNat * (C.ti e).size)) fun v => force v fun v => ret (pe v))
 | _, _, _ => fail

def ns (C : Ctx) (s : AS) (x : Operand) (t : TypeId) (ok : Bool) : Tr Ef :=
 match (C.ti t).k, s.ev C x with
 | .other, _ | .iface, _ => fail
 | _, .iface u v => match Nat.beq u t, ok with
   | true, true => ret (pe (.tuple [v, .bool true]))
   | true, false => ret (pe v)
   | false, true => force (C.ti t).zero fun z => b7 (!z.dh) (ret (pe (.tuple [z, .bool false])))
   | false, false => fail
 | _, .nilIface => match ok with
   | true => force (C.ti t).zero fun z => b7 (!z.dh) (ret (pe (.tuple [z, .bool false])))
   | false => fail
 | _, _ => fail

def nu (C : Ctx) (s : AS) (x : Operand) (i : Nat) : Tr Ef :=
 match s.ev C x with
 | .tuple vs => cT (hM vs i) fun v => force v fun v => ret (pe v)
 | _ => fail

def kH (C : Ctx) (s : AS) (t : TypeId) (x : Operand) : Tr Ef :=
 match (C.ti t).k, s.ev C x with
 | .string, .str a => aZ s.sg.length fun n => ret ⟨.ptr n 0, [], [], [.siter a 0], []⟩
 | .map _ _, m => kJ C s t m
 | _, _ => fail

def mi (C : Ctx) (s : AS) (x : Operand) (str : Bool) : Tr Ef :=
  match s.ev C x, str with
  | .ptr i 0, true => match ax s.sg i with
    | .siter a pos => iD (decide (pos < a.length)) (cT a[pos]? fun b => aw (b.toNat < 128) (ret ⟨.tuple [.bool true, .int .i64 pos, .int .i32 b.toNat], [], [(i, .siter a (pos + 1))], [], [i]⟩))
     (ret ⟨.tuple [.bool false], [], [], [], [i]⟩)
    | _ => fail
  | _, _ => fail

def mf (C : Ctx) (s : AS) (c : Call) : Tr Ef :=
 match c.callee with
 | .builtin b => kV (s.bL C c.args.toList) fun xs => iI C s b c.argTypes.toList xs
 | .value _ => cT (target C s c) fun p => cF (dD C s.sg p.1 p.2)
 | .invoke r m => match s.ev C r with
   | .iface t v => exT fun f => aw (C.mt t m f) (cF (dD C s.sg f (v :: s.bL C c.args.toList)))
   | _ => fail

def vi : V → Bool
 | .nilIface => true
 | _ => false
def qg (x y : Operand) (u v : V) : Bool := match x, y with
 | .const .nilIface, _ => vi v
 | _, .const .nilIface => vi u
 | _, _ => false
def mj (C : Ctx) (op : BinOp) (t : TypeId) : Tr Ef := match op, (C.ti t).k with
 | .eql, .iface => ret (pe (.bool true))
 | .neq, .iface => ret (pe (.bool false))
 | _, _ => fail
def bG (C : Ctx) (s : AS) (o : Oper) : Tr Ef :=
 match o.op with
 | .move x | .assign x => force (s.ev C x) fun x => ret (pe x)
 | .pick c a b => nA C s c a b
 | .alloc t => kz C s t
 | .box _ x => force (s.ev C x) fun x => aZ s.sg.length fun n => b7 (!x.dh) (ret ⟨.ptr n 0, [], [], [.cells x.cells], []⟩)
 | .build t parts => me C s t parts
 | .buildSlice t len parts => jB C s o.dst t len parts
 | .load t a => jD C s t a
 | .store t a x => kP C s t a x
 | .nilCheck x => kO C s x
 | .binOp op t x y _ => cond (qg x y (s.ev C x) (s.ev C y)) (mj C op t) (dt (jC C op t (s.ev C x) (s.ev C y)) fun v => ret (pe v))
 | .unOp op _ x => dt (pr op (s.ev C x)) fun v => ret (pe v)
 | .convert a b x => kN C s a b (s.ev C x)
 | .makeInterface t x => ny C s t x
 | .makeFunc fn a b => kV (s.bL C a.toList) fun a => kV (s.bL C b.toList) fun b => ret (pe (.func fn a b))
 | .makeSlice t l c => kL C s t l c
 | .slice t x lo hi mx => ml C s t x lo hi mx
 | .fieldAddr t x f => kG C s t x f
 | .field t x f => kF C s t x f
 | .indexAddr t x ix => mh C s t x ix
 | .index t x ix => nv C s t x ix
 | .typeAssert x _ t ok => ns C s x t ok
 | .extract x i => nu C s x i
 | .range t x => kH C s t x
 | .next x b => mi C s x b
 | .makeMap t none => kK C s t
 | .lookup t m x ok => gY C s t m x ok
 | .mapUpdate t m x y => kM C s t m x y
 | .mapEntry t m x => ja C s t m x
 | .entryStore t m b y => kE C s t m b y
 | .entry x => mg C s x
 | .call c => mf C s c
 | _ => fail

end Go.VG
