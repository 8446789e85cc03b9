/-
  A part of the proof.
-/
import Derived.WalkKit
import Derived.RangeFuncSeq
import Derived.RangeFuncLeaves
import Derived.TacticsIn
set_option linter.unusedSimpArgs false
set_option linter.unusedVariables false
namespace Go.VG
open Go

inductive V where
 | undef
 | int (k : IntKind) (n : Int)
 | bool (b : Bool)
 | str (s : List UInt8)
 | agg (cs : List V)
 | tuple (vs : List V)
 | list (clip : Bool) (sz : Nat) (l : List V)
 | nilptr
 | box (cs : List V) (off : Nat)
 | ptr (i off : Nat)
 | bptr (i idx off : Nat)
 | buf (i : Nat)
 | iface (t : TypeId) (v : V)
 | nilIface
 | func (fn : Fn) (first captured : List V)
 | nilFunc
 | map (i : Nat)
 | nilmap

instance : Inhabited V := ⟨.undef⟩

def V.cells : V → List V
 | .agg cs => cs
 | x => [x]

abbrev St := Nat → Nat → Option Value
structure Gh where
 blk : Option Nat
 base : Option Addr
 len : Nat
 cap : Nat
 sz : Nat
abbrev ah := Nat → Gh

mutual
def VR (st : St) (g : ah) : V → Nat → Value → Prop
 | .undef, _, _ => True
 | .int k m, _, v => v = .int k m ∧ k.min ≤ m ∧ m ≤ k.max
 | .bool b, _, v => v = .bool b
 | .str s, _, v => v = .string ⟨s.toArray⟩ ∧ s.length ≤ maxLen
 | .agg cs, n, v => ∃ vs, v = .agg vs ∧ au st g cs n vs.toList
 | .tuple cs, n, v => ∃ vs, v = .tuple vs ∧ au st g cs n vs.toList
 | .list clip sz l, _, v => ∃ base cap, v = .slice base l.length cap ∧ l.length ≤ cap ∧ l.length ≤ maxLen ∧ (clip = true → cap = l.length) ∧
  (l = [] ∨ ∃ b o, base = some ⟨b, o, none⟩ ∧ 0 < sz ∧ bN st g l sz (st b) o)
 | .nilptr, _, v => v = .pointer none
 | .box cs off, _, v => ∃ b o vs, v = .pointer (some ⟨b, o + off, none⟩) ∧ au st g cs 0 vs ∧ ∀ j, j < vs.length → st b (o + j) = vs[j]?
 | .ptr i off, n, v => i < n ∧ ∃ b, (g i).blk = some b ∧ v = .pointer (some ⟨b, off, none⟩)
 | .bptr i idx off, n, v => i < n ∧ ∃ b, (g i).blk = some b ∧ v = .pointer (some ⟨b, idx * (g i).sz + off, none⟩)
 | .buf i, n, v => i < n ∧ v = .slice (g i).base (g i).len (g i).cap
 | .iface t x, n, v => ∃ u, v = .iface t u ∧ VR st g x n u
 | .nilIface, _, v => v = .nilIface
 | .func fn fs cs, n, v => ∃ a b, v = .func fn a b ∧ au st g fs n a.toList ∧ au st g cs n b.toList
 | .nilFunc, _, v => v = .nilFunc
 | .map i, n, v => i < n ∧ ∃ b, (g i).blk = some b ∧ v = .map (some b)
 | .nilmap, _, v => v = .map none
def au (st : St) (g : ah) : List V → Nat → List Value → Prop
 | [], _, vs => vs = []
 | c :: cs, n, vs => ∃ u us, vs = u :: us ∧ VR st g c n u ∧ au st g cs n us
def bN (st : St) (g : ah) : List V → Nat → (Nat → Option Value) → Nat → Prop
 | [], _, _, _ => True
 | x :: xs, sz, look, o => (∃ u, VR st g x 0 u ∧ u.cells.size = sz ∧ (∀ v ∈ u.cells.toList, v.oneCell' = true) ∧ ∀ j, j < sz → look (o + j) = u.cells[j]?) ∧ bN st g xs sz look (o + sz)
end


theorem fZ {st : St} {g : ah} {n : Nat} : ∀ {cs : List V} {vs : List Value}, au st g cs n vs ↔ cs.length = vs.length ∧ ∀ (i : Nat) (c : V) (v : Value), cs[i]? = some c → vs[i]? = some v → VR st g c n v
 | [], vs => by
   simp only [au]
   constructor
   . rintro rfl; simp
   . rintro ⟨h, _⟩; cases vs with
     | nil => rfl
     | cons a b => simp at h
 | c :: cs, vs => by
   simp only [au]
   constructor
   . rintro ⟨u, us, rfl, h1, h2⟩
     obtain ⟨hl, hh⟩ := fZ.1 h2
     refine ⟨by simp [hl], ?_⟩
     intro i c' v h3 h4
     cases i with
     | zero => simp at h3 h4; subst h3; subst h4; exact h1
     | succ i => simp at h3 h4; exact hh i c' v h3 h4
   . rintro ⟨hl, hh⟩
     cases vs with
     | nil => simp at hl
     | cons u us =>
       refine ⟨u, us, rfl, hh 0 c u rfl rfl, fZ.2 ⟨by simpa using hl, ?_⟩⟩
       intro i c' v h3 h4
       exact hh (i + 1) c' v (by simpa using h3) (by simpa using h4)

theorem dw {st : St} {g : ah} {n : Nat} {cs : List V} {vs : List Value} (h : au st g cs n vs) : cs.length = vs.length := (fZ.1 h).1

theorem j5 {st : St} {g : ah} {n : Nat} {cs : List V} {vs : List Value} (h : au st g cs n vs) {i : Nat} {c : V} (hc : cs[i]? = some c) :
   ∃ v, vs[i]? = some v ∧ VR st g c n v := by
 obtain ⟨hl, hh⟩ := fZ.1 h
 have hi : i < cs.length := by
  rcases Nat.lt_or_ge i cs.length with h' | h'
  . exact h'
  . simp [List.getElem?_eq_none h'] at hc
 have hv : vs[i]? = some (vs[i]'(by omega)) := List.getElem?_eq_getElem (by omega)
 exact ⟨_, hv, hh i c _ hc hv⟩

theorem cL {st : St} {g : ah} {n : Nat} : au st g [] n [] := by simp [au]
theorem bK {st : St} {g : ah} {n : Nat} {c : V} {cs : List V} {v : Value} {vs : List Value} (h : VR st g c n v) (hs : au st g cs n vs) : au st g (c :: cs) n (v :: vs) := by
 simp only [au]; exact ⟨v, vs, rfl, h, hs⟩

theorem qD {st : St} {g : ah} {n k : Nat} {cs : List V} {vs : List Value} (h : au st g cs n vs) : au st g (cs.take k) n (vs.take k) := by
 obtain ⟨hl, hh⟩ := fZ.1 h
 refine fZ.2 ⟨by simp [hl], fun i c v h1 h2 => ?_⟩
 rw [List.getElem?_take] at h1 h2
 split at h1
 . rename_i hlt; rw [if_pos hlt] at h2; exact hh i c v h1 h2
 . cases h1

theorem qC {st : St} {g : ah} {n k : Nat} {cs : List V} {vs : List Value} (h : au st g cs n vs) : au st g (cs.drop k) n (vs.drop k) := by
 obtain ⟨hl, hh⟩ := fZ.1 h
 refine fZ.2 ⟨by simp [hl], fun i c v h1 h2 => ?_⟩
 rw [List.getElem?_drop] at h1 h2
 exact hh _ c v h1 h2

theorem mX {st : St} {g : ah} {n : Nat} {cs ds : List V} {vs us : List Value} (h : au st g cs n vs) (k : au st g ds n us) : au st g (cs ++ ds) n (vs ++ us) := by
 obtain ⟨hl, hh⟩ := fZ.1 h
 obtain ⟨kl, kk⟩ := fZ.1 k
 refine fZ.2 ⟨by simp [hl, kl], fun i c v h1 h2 => ?_⟩
 rcases Nat.lt_or_ge i cs.length with hlt | hge
 . rw [List.getElem?_append_left hlt] at h1
   rw [List.getElem?_append_left (by omega)] at h2
   exact hh i c v h1 h2
 . rw [List.getElem?_append_right hge] at h1
   rw [List.getElem?_append_right (by omega), ← hl] at h2
   exact kk _ c v h1 h2

theorem fE {st : St} {g : ah} {sz : Nat} {look : Nat → Option Value} : ∀ {l : List V} {o : Nat}, bN st g l sz look o ↔
   ∀ (i : Nat) (x : V), l[i]? = some x → ∃ u, VR st g x 0 u ∧ u.cells.size = sz ∧ (∀ v ∈ u.cells.toList, v.oneCell' = true) ∧ ∀ j, j < sz → look (o + i * sz + j) = u.cells[j]?
 | [], o => by simp [bN]
 | x :: xs, o => by
   simp only [bN]
   constructor
   . rintro ⟨h1, h2⟩ i y hy
     cases i with
     | zero => simp at hy; subst hy; simpa using h1
     | succ i =>
       simp at hy
       obtain ⟨u, a, b, d, c⟩ := fE.1 h2 i y hy
       refine ⟨u, a, b, d, fun j hj => ?_⟩
       rw [← c j hj]
       congr 1
       rw [Nat.add_mul]; omega
   . intro h
     refine ⟨by simpa using h 0 x rfl, fE.2 fun i y hy => ?_⟩
     obtain ⟨u, a, b, d, c⟩ := h (i + 1) y (by simpa using hy)
     refine ⟨u, a, b, d, fun j hj => ?_⟩
     rw [← c j hj]
     congr 1
     rw [Nat.add_mul]; omega

mutual
def V.has (i : Nat) : V → Bool
 | .ptr j _ | .bptr j _ _ | .buf j | .map j => Nat.beq i j
 | .agg cs | .tuple cs => V.eG i cs
 | .iface _ x => V.has i x
 | .func _ fs cs => V.eG i fs || V.eG i cs
 | _ => false
def V.eG (i : Nat) : List V → Bool
 | [] => false
 | c :: cs => V.has i c || V.eG i cs
end
mutual
def V.eY (m : Nat) : V → Bool
 | .ptr j _ | .bptr j _ _ | .buf j | .map j => Nat.blt j m
 | .agg cs | .tuple cs => V.mM m cs
 | .iface _ x => V.eY m x
 | .func _ fs cs => V.mM m fs && V.mM m cs
 | _ => true
def V.mM (m : Nat) : List V → Bool
 | [] => true
 | c :: cs => V.eY m c && V.mM m cs
end
def aF (i : Nat) : List Nat → Bool
 | [] => false
 | k :: ks => Nat.beq i k || aF i ks
mutual
def V.kill (ks : List Nat) : V → V
 | .ptr j o => cond (aF j ks) .undef (.ptr j o)
 | .bptr j a b => cond (aF j ks) .undef (.bptr j a b)
 | .buf j => cond (aF j ks) .undef (.buf j)
 | .map j => cond (aF j ks) .undef (.map j)
 | .agg cs => .agg (V.dG ks cs)
 | .tuple cs => .tuple (V.dG ks cs)
 | .iface t x => .iface t (V.kill ks x)
 | .func f fs cs => .func f (V.dG ks fs) (V.dG ks cs)
 | .undef => .undef | .int k n => .int k n | .bool b => .bool b | .str s => .str s | .list c z l => .list c z l
 | .nilptr => .nilptr | .box cs o => .box cs o | .nilIface => .nilIface | .nilFunc => .nilFunc | .nilmap => .nilmap
def V.dG (ks : List Nat) : List V → List V
 | [] => []
 | c :: cs => V.kill ks c :: V.dG ks cs
end

mutual
theorem nH {m : Nat} : ∀ {x : V} {i : Nat}, x.eY m = true → x.has i = true → i < m
 | .ptr j _, i, h, k | .bptr j _ _, i, h, k | .buf j, i, h, k | .map j, i, h, k => by
   simp only [V.eY, V.has] at h k
   have := Nat.eq_of_beq_eq_true k; subst this
   exact Nat.le_of_ble_eq_true h
 | .agg cs, i, h, k | .tuple cs, i, h, k => pf (by simpa [V.eY] using h) (by simpa [V.has] using k)
 | .iface _ x, i, h, k => nH (by simpa [V.eY] using h) (by simpa [V.has] using k)
 | .func _ fs cs, i, h, k => by
   simp only [V.eY, V.has, Bool.and_eq_true, Bool.or_eq_true] at h k
   rcases k with k | k
   . exact pf h.1 k
   . exact pf h.2 k
 | .undef, _, _, k | .int .., _, _, k | .bool _, _, _, k | .str _, _, _, k | .list .., _, _, k | .nilptr, _, _, k | .box .., _, _, k | .nilIface, _, _, k | .nilFunc, _, _, k | .nilmap, _, _, k => by simp [V.has] at k
theorem pf {m : Nat} : ∀ {x : List V} {i : Nat}, V.mM m x = true → V.eG i x = true → i < m
 | [], _, _, k => by simp [V.eG] at k
 | c :: cs, i, h, k => by
   simp only [V.mM, V.eG, Bool.and_eq_true, Bool.or_eq_true] at h k
   rcases k with k | k
   . exact nH h.1 k
   . exact pf h.2 k
end

mutual
theorem eP {st st' : St} {g g' : ah} (hst : ∀ b o v, st b o = some v → st' b o = some v) :
   ∀ {x : V} {n n' : Nat} {v : Value}, (∀ i, x.has i = true → i < n → i < n' ∧ g' i = g i) → VR st g x n v → VR st' g' x n' v
 | .undef, _, _, _, _, _ => by simp [VR]
 | .int .., _, _, _, _, h | .bool _, _, _, _, _, h | .str _, _, _, _, _, h | .nilptr, _, _, _, _, h | .nilIface, _, _, _, _, h | .nilFunc, _, _, _, _, h | .nilmap, _, _, _, _, h => by simpa [VR] using h
 | .agg cs, n, n', v, hn, h | .tuple cs, n, n', v, hn, h => by
   simp only [VR] at h ⊢
   obtain ⟨vs, rfl, h⟩ := h
   exact ⟨vs, rfl, j6 hst (fun i hi => hn i (by simpa [V.has] using hi)) h⟩
 | .list c sz l, n, n', v, hn, h => by
   simp only [VR] at h ⊢
   obtain ⟨base, cap, rfl, h1, h2, h3, h4⟩ := h
   refine ⟨base, cap, rfl, h1, h2, h3, ?_⟩
   rcases h4 with h4 | ⟨b, o, h5, h6, h7⟩
   . exact .inl h4
   . exact .inr ⟨b, o, h5, h6, iy hst (fun k v hk => hst b k v hk) h7⟩
 | .box cs off, n, n', v, hn, h => by
   simp only [VR] at h ⊢
   obtain ⟨b, o, vs, rfl, h1, h2⟩ := h
   refine ⟨b, o, vs, rfl, j6 hst (fun i _ hi => absurd hi (Nat.not_lt_zero _)) h1, fun j hj => ?_⟩
   have h3 := h2 j hj
   have h4 : vs[j]? = some (vs[j]'hj) := List.getElem?_eq_getElem hj
   rw [h4] at h3 ⊢
   exact hst _ _ _ h3
 | .ptr i off, n, n', v, hn, h => by
   simp only [VR] at h ⊢
   obtain ⟨hi, h⟩ := h
   obtain ⟨h1, h2⟩ := hn i (by simp [V.has]) hi
   exact ⟨h1, by rw [h2]; exact h⟩
 | .bptr i a off, n, n', v, hn, h => by
   simp only [VR] at h ⊢
   obtain ⟨hi, h⟩ := h
   obtain ⟨h1, h2⟩ := hn i (by simp [V.has]) hi
   exact ⟨h1, by rw [h2]; exact h⟩
 | .buf i, n, n', v, hn, h => by
   simp only [VR] at h ⊢
   obtain ⟨hi, h⟩ := h
   obtain ⟨h1, h2⟩ := hn i (by simp [V.has]) hi
   exact ⟨h1, by rw [h2]; exact h⟩
 | .map i, n, n', v, hn, h => by
   simp only [VR] at h ⊢
   obtain ⟨hi, h⟩ := h
   obtain ⟨h1, h2⟩ := hn i (by simp [V.has]) hi
   exact ⟨h1, by rw [h2]; exact h⟩
 | .iface t x, n, n', v, hn, h => by
   simp only [VR] at h ⊢
   obtain ⟨u, rfl, h⟩ := h
   exact ⟨u, rfl, eP hst (fun i hi => hn i (by simpa [V.has] using hi)) h⟩
 | .func f fs cs, n, n', v, hn, h => by
   simp only [VR] at h ⊢
   obtain ⟨a, b, rfl, h1, h2⟩ := h
   exact ⟨a, b, rfl, j6 hst (fun i hi => hn i (by simp [V.has, hi])) h1, j6 hst (fun i hi => hn i (by simp [V.has, hi])) h2⟩
theorem j6 {st st' : St} {g g' : ah} (hst : ∀ b o v, st b o = some v → st' b o = some v) :
   ∀ {x : List V} {n n' : Nat} {v : List Value}, (∀ i, V.eG i x = true → i < n → i < n' ∧ g' i = g i) → au st g x n v → au st' g' x n' v
 | [], _, _, _, _, h => by simpa [au] using h
 | c :: cs, n, n', v, hn, h => by
   simp only [au] at h ⊢
   obtain ⟨u, us, rfl, h1, h2⟩ := h
   exact ⟨u, us, rfl, eP hst (fun i hi => hn i (by simp [V.eG, hi])) h1, j6 hst (fun i hi => hn i (by simp [V.eG, hi])) h2⟩
theorem iy {st st' : St} {g g' : ah} (hst : ∀ b o v, st b o = some v → st' b o = some v) :
   ∀ {x : List V} {sz o : Nat} {look look' : Nat → Option Value}, (∀ k v, look k = some v → look' k = some v) → bN st g x sz look o → bN st' g' x sz look' o
 | [], _, _, _, _, _, _ => by simp [bN]
 | c :: cs, sz, o, look, look', hl, h => by
   simp only [bN] at h ⊢
   obtain ⟨⟨u, h1, h2, hd, h3⟩, h4⟩ := h
   refine ⟨⟨u, eP hst (fun i _ hi => absurd hi (Nat.not_lt_zero _)) h1, h2, hd, fun j hj => ?_⟩, iy hst hl h4⟩
   have h5 := h3 j hj
   have h6 : u.cells[j]? = some (u.cells[j]'(by omega)) := Array.getElem?_eq_getElem (by omega)
   rw [h6] at h5 ⊢
   exact hl _ _ h5
end

mutual
theorem oJ {st : St} {g : ah} {ks : List Nat} : ∀ {x : V} {n : Nat} {v : Value}, VR st g x n v → VR st g (x.kill ks) n v
 | .undef, _, _, _ => by simp [VR, V.kill]
 | .int .., _, _, h | .bool _, _, _, h | .str _, _, _, h | .nilptr, _, _, h | .nilIface, _, _, h | .nilFunc, _, _, h | .nilmap, _, _, h | .list .., _, _, h | .box .., _, _, h => by simpa only [V.kill] using h
 | .ptr i _, _, _, h | .bptr i _ _, _, _, h | .buf i, _, _, h | .map i, _, _, h => by
   simp only [V.kill]
   cases aF i ks with
   | true => simp [VR]
   | false => exact h
 | .agg cs, n, v, h | .tuple cs, n, v, h => by
   simp only [VR, V.kill] at h ⊢
   obtain ⟨vs, rfl, h⟩ := h
   exact ⟨vs, rfl, oL h⟩
 | .iface t x, n, v, h => by
   simp only [VR, V.kill] at h ⊢
   obtain ⟨u, rfl, h⟩ := h
   exact ⟨u, rfl, oJ h⟩
 | .func f fs cs, n, v, h => by
   simp only [VR, V.kill] at h ⊢
   obtain ⟨a, b, rfl, h1, h2⟩ := h
   exact ⟨a, b, rfl, oL h1, oL h2⟩
theorem oL {st : St} {g : ah} {ks : List Nat} : ∀ {x : List V} {n : Nat} {v : List Value}, au st g x n v → au st g (V.dG ks x) n v
 | [], _, _, h => by simpa [au, V.dG] using h
 | c :: cs, n, v, h => by
   simp only [au, V.dG] at h ⊢
   obtain ⟨u, us, rfl, h1, h2⟩ := h
   exact ⟨u, us, rfl, oJ h1, oL h2⟩
end

mutual
theorem kf {ks : List Nat} : ∀ {x : V} {i : Nat}, (x.kill ks).has i = true → aF i ks = false ∧ x.has i = true
 | .undef, _, h | .int .., _, h | .bool _, _, h | .str _, _, h | .nilptr, _, h | .nilIface, _, h | .nilFunc, _, h | .nilmap, _, h | .list .., _, h | .box .., _, h => by simp [V.kill, V.has] at h
 | .ptr j _, i, h | .bptr j _ _, i, h | .buf j, i, h | .map j, i, h => by
   simp only [V.kill] at h
   cases hm : aF j ks with
   | true => rw [hm] at h; simp [V.has] at h
   | false =>
     rw [hm] at h
     simp only [cond_false, V.has] at h ⊢
     have := Nat.eq_of_beq_eq_true h; subst this
     exact ⟨hm, h⟩
 | .agg cs, i, h | .tuple cs, i, h => by
   simp only [V.kill, V.has] at h ⊢
   exact ll h
 | .iface t x, i, h => by
   simp only [V.kill, V.has] at h ⊢
   exact kf h
 | .func f fs cs, i, h => by
   simp only [V.kill, V.has, Bool.or_eq_true] at h ⊢
   rcases h with h | h
   . exact ⟨(ll h).1, .inl (ll h).2⟩
   . exact ⟨(ll h).1, .inr (ll h).2⟩
theorem ll {ks : List Nat} : ∀ {x : List V} {i : Nat}, V.eG i (V.dG ks x) = true → aF i ks = false ∧ V.eG i x = true
 | [], _, h => by simp [V.dG, V.eG] at h
 | c :: cs, i, h => by
   simp only [V.dG, V.eG, Bool.or_eq_true] at h ⊢
   rcases h with h | h
   . exact ⟨(kf h).1, .inl (kf h).2⟩
   . exact ⟨(ll h).1, .inr (ll h).2⟩
end

end Go.VG
namespace Go.VG
open Go

def dE : IntKind → IntKind → Bool
 | .i8, .i8 | .i16, .i16 | .i32, .i32 | .i64, .i64 | .u8, .u8 | .u16, .u16 | .u32, .u32 | .u64, .u64 => true
 | _, _ => false

inductive Sc where
 | kB | kI (k : IntKind) | kS
def gP : Sc → V → Bool
 | .kB, .bool _ => true
 | .kI k, .int k' _ => dE k k'
 | .kS, .str _ => true
 | _, _ => false
def cf : List Sc → List V → Bool
 | [], [] => true
 | k :: ks, x :: xs => gP k x && cf ks xs
 | _, _ => false
def gQ (ag : Bool) (sh : List Sc) : V → Bool
 | .agg cs => cond ag (cf sh cs) false
 | x => cond ag false (cf sh [x])
def nM : V → V → Bool
 | .int _ a, .int _ b => a == b
 | .str a, .str b => a == b
 | .bool a, .bool b => a == b
 | _, _ => false
def pk : List V → List V → Bool
 | [], [] => true
 | x :: xs, y :: ys => nM x y && pk xs ys
 | _, _ => false
def ij : V → V → Bool
 | .agg a, .agg b => pk a b
 | x, y => nM x y
def bE : List (V × Int) → V → Option (Nat × Int)
 | [], _ => none
 | (y, q) :: es, x => cond (ij y x) (some (0, q)) (match bE es x with
   | some (j, q) => some (j + 1, q)
   | none => none)
def getM (es : List (V × Int)) (x : V) : Int := match bE es x with
 | some (_, q) => q
 | none => 0
def fC : List (V × Int) → Nat → Int → List (V × Int)
 | [], _, _ => []
 | (y, _) :: es, 0, q => (y, q) :: es
 | e :: es, n + 1, q => e :: fC es n q
def iv : V → Value
 | .int k n => .int k n
 | .bool b => .bool b
 | .str s => .string ⟨s.toArray⟩
 | _ => .nilIface
def ok1 : V → Prop
 | .int k n => k.min ≤ n ∧ n ≤ k.max
 | .str s => s.length ≤ maxLen
 | _ => True
def cG : V → Value
 | .agg cs => .agg (cs.map iv).toArray
 | x => iv x
def jh : V → Prop
 | .agg cs => ∀ c ∈ cs, ok1 c
 | x => ok1 x
def dJ (ag : Bool) (sh : List Sc) : List (V × Int) → List Nat → List MapEntry → Prop
 | [], [], [] => True
 | (x, q) :: es, s :: bs, e :: l => (gQ ag sh x = true ∧ jh x ∧ e.key = cG x ∧ e.val = .int .i64 q ∧ (IntKind.i64.min ≤ q ∧ q ≤ IntKind.i64.max) ∧ e.born = s) ∧ dJ ag sh es bs l
 | _, _, _ => False
def mV (bs : List Nat) (ck : Nat) : Prop := bs.Nodup ∧ ∀ s ∈ bs, s < ck
def jG (bs : List Nat) (seen : Array Nat) : List Nat := (List.range bs.length).filter fun j => !(seen.toList.contains (bs.getD j 0))

inductive O where
 | dead
 | cells (cs : List V)
 | buf (sz pre : Nat) (l : List V)
 | siter (s : List UInt8) (pos : Nat)
 | map (ag : Bool) (sh : List Sc) (es : List (V × Int)) (bs : List Nat) (ck : Nat)
 | miter (m : V) (bs : List Nat) (ck : Nat) (left : List Nat) (last : Nat)
instance : Inhabited O := ⟨.dead⟩

def O.has (i : Nat) : O → Bool
 | .cells cs => V.eG i cs
 | .miter m _ _ _ _ => m.has i
 | _ => false
def O.eY (m : Nat) : O → Bool
 | .cells cs => V.mM m cs
 | .miter x _ _ _ _ => x.eY m
 | _ => true
def O.kill (ks : List Nat) : O → O
 | .cells cs => .cells (V.dG ks cs)
 | .dead => .dead | .buf a b l => .buf a b l | .siter s p => .siter s p | .map a sh es bs ck => .map a sh es bs ck
 | .miter m bs ck l x => .miter (m.kill ks) bs ck l x

structure Env where
 G : Nat → Prop
 w0 : World
 st0 : St
 ds : List Deferred

def l8 (c : Array Value) (fr : Nat × Nat) : Prop := fr.1 ≤ fr.2 ∧ ∀ o, o < c.size → ¬ (fr.1 ≤ o ∧ o < fr.2)

def cQ (E : Env) (st : St) (g : ah) (n : Nat) (w : World) (gi : Gh) : O → Prop
  | .dead => ∀ b, gi.blk = some b → b < w.heap.size ∧ E.G b
  | .cells cs => ∃ b c el fr, gi.blk = some b ∧ E.G b ∧ w.heap[b]? = some (.cells c el fr) ∧ au st g cs n c.toList ∧ l8 c fr ∧ ∀ o, st b o = none
  | .buf sz pre l => 0 < sz ∧ gi.sz = sz ∧ pre ≤ l.length ∧ l.length ≤ maxLen ∧ gi.len = l.length ∧ l.length ≤ gi.cap ∧
   ((gi.cap = 0 ∧ gi.blk = none) ∨ ∃ b c el fr, gi.blk = some b ∧ gi.base = some ⟨b, 0, none⟩ ∧ E.G b ∧ w.heap[b]? = some (.cells c el fr) ∧ c.size = gi.cap * sz ∧
     bN st g l sz (fun o => c[o]?) 0 ∧ l8 c fr ∧ ∀ o v, st b o = some v → o < pre * sz)
  | .siter s pos => s.length ≤ maxLen ∧ ∃ b, gi.blk = some b ∧ E.G b ∧ w.heap[b]? = some (.stringIter ⟨s.toArray⟩ pos)
  | .map ag sh es bs ck => ∃ b arr, gi.blk = some b ∧ E.G b ∧ w.heap[b]? = some (.map arr ck) ∧ dJ ag sh es bs arr.toList ∧ mV bs ck ∧ (es.map fun e => cG e.1).Nodup
  | .miter m bs ck left last => ∃ b b' seen, gi.blk = some b ∧ E.G b ∧ w.heap[b]? = some (.mapIter (some b') ck seen ck) ∧ VR st g m n (.map (some b')) ∧ left = jG bs seen ∧
   ((seen = #[] ∧ bs.length ≤ last) ∨ (seen.back? = some (bs.getD last 0) ∧ last < bs.length))

structure aE (E : Env) (st : St) (g : ah) (sg : List O) (w : World) : Prop where
 os : w.os = E.w0.os
 tape : w.tape = E.w0.tape
 output : w.output = E.w0.output
 size : E.w0.heap.size ≤ w.heap.size
 gnew : ∀ b, E.w0.heap.size ≤ b → E.G b
 sub : ∀ b o v, E.st0 b o = some v → st b o = some v
 stG : ∀ b o v, st b o = some v → E.st0 b o = some v ∨ E.G b
 stw : ∀ b o v, st b o = some v → w.cell? ⟨b, o, none⟩ = some v
 fr : ∀ b, ¬ E.G b → w.heap[b]? = E.w0.heap[b]?
 ob : ∀ i o, sg[i]? = some o → cQ E st g sg.length w (g i) o
 inj : ∀ i j b, i < sg.length → j < sg.length → (g i).blk = some b → (g j).blk = some b → i = j

theorem oS {w w' : World} {b o : Nat} (h : w'.heap[b]? = w.heap[b]?) : w'.cell? ⟨b, o, none⟩ = w.cell? ⟨b, o, none⟩ := by
 simp only [World.cell?, h]

theorem fw {w : World} {b o : Nat} {c : Array Value} {el : TypeId} {fr : Nat × Nat} (h : w.heap[b]? = some (.cells c el fr)) : w.cell? ⟨b, o, none⟩ = c[o]? := by
 simp [World.cell?, h]

theorem FO {w : World} {b o : Nat} {c : Array Value} {el : TypeId} {fr : Nat × Nat} (h : w.heap[b]? = some (.cells c el fr)) (hf : l8 c fr) (ho : o < c.size) : w.frozen? ⟨b, o, none⟩ = false := by
 have := hf.2 o ho
 obtain ⟨lo, hi⟩ := fr
 simp only [World.frozen?, h]
 simp only [Bool.and_eq_false_iff, decide_eq_false_iff_not]
 simp only at this
 omega

theorem jZ {w : World} {b : Nat} {o : Obj} (h : w.heap[b]? = some o) : b < w.heap.size := by
 rcases Nat.lt_or_ge b w.heap.size with h' | h'
 . exact h'
 . simp [Array.getElem?_eq_none h'] at h

theorem cQ.bD {E : Env} {st : St} {g : ah} {n : Nat} {w : World} {gi : Gh} {o : O} (h : cQ E st g n w gi o) {b : Nat} (hb : gi.blk = some b) : b < w.heap.size ∧ E.G b := by
 cases o with
 | dead => exact h b hb
 | cells cs =>
   obtain ⟨b', c, el, fr, h1, h2, h3, _⟩ := h
   rw [hb] at h1; cases h1
   exact ⟨jZ h3, h2⟩
 | buf sz pre l =>
   obtain ⟨_, _, _, _, _, _, h⟩ := h
   rcases h with ⟨_, h⟩ | ⟨b', c, el, fr, h1, _, h2, h3, _⟩
   . rw [hb] at h; cases h
   . rw [hb] at h1; cases h1
     exact ⟨jZ h3, h2⟩
 | siter s p =>
   obtain ⟨_, b', h1, h2, h3⟩ := h
   rw [hb] at h1; cases h1
   exact ⟨jZ h3, h2⟩
 | map ag sh es bs ck =>
   obtain ⟨b', arr, h1, h2, h3, _⟩ := h
   rw [hb] at h1; cases h1
   exact ⟨jZ h3, h2⟩
 | miter m bs ck l x =>
   obtain ⟨b', _, _, h1, h2, h3, _⟩ := h
   rw [hb] at h1; cases h1
   exact ⟨jZ h3, h2⟩

theorem aE.bD {E : Env} {st : St} {g : ah} {sg : List O} {w : World} (h : aE E st g sg w) {i b : Nat} (hi : i < sg.length) (hb : (g i).blk = some b) : b < w.heap.size ∧ E.G b :=
 (h.ob i _ (List.getElem?_eq_getElem hi)).bD hb

theorem cQ.aO {E : Env} {st st' : St} {g g' : ah} {n n' : Nat} {w w' : World} {gi : Gh} {o : O} (h : cQ E st g n w gi o)
   (hb : ∀ b, gi.blk = some b → w'.heap[b]? = w.heap[b]?)
   (hst : ∀ b o v, st b o = some v → st' b o = some v)
   (hnew : ∀ b, gi.blk = some b → ∀ o v, st' b o = some v → st b o = some v)
   (hn : ∀ i, o.has i = true → i < n → i < n' ∧ g' i = g i) : cQ E st' g' n' w' gi o := by
 cases o with
 | dead =>
   intro b hb'
   obtain ⟨h1, h2⟩ := h b hb'
   refine ⟨?_, h2⟩
   have h3 := hb b hb'
   rw [Array.getElem?_eq_getElem h1] at h3
   exact jZ h3
 | cells cs =>
   obtain ⟨b, c, el, fr, h1, h2, h3, h4, h5, h6⟩ := h
   refine ⟨b, c, el, fr, h1, h2, by rw [hb b h1]; exact h3, j6 hst (fun i hi => hn i (by simpa [O.has] using hi)) h4, h5, fun o => ?_⟩
   cases hs : st' b o with
   | none => rfl
   | some v => have := hnew b h1 o v hs; rw [h6 o] at this; cases this
 | buf sz pre l =>
   obtain ⟨h1, h2, h3, h4, h5, h6, h7⟩ := h
   refine ⟨h1, h2, h3, h4, h5, h6, ?_⟩
   rcases h7 with h7 | ⟨b, c, el, fr, k1, k2, k3, k4, k5, k6, k7, k8⟩
   . exact .inl h7
   . exact .inr ⟨b, c, el, fr, k1, k2, k3, by rw [hb b k1]; exact k4, k5, iy hst (fun _ _ hk => hk) k6, k7, fun o v hv => k8 o v (hnew b k1 o v hv)⟩
 | siter s p =>
   obtain ⟨h1, b, h2, h3, h4⟩ := h
   exact ⟨h1, b, h2, h3, by rw [hb b h2]; exact h4⟩
 | map ag sh es bs ck =>
   obtain ⟨b, arr, h1, h2, h3, h4⟩ := h
   exact ⟨b, arr, h1, h2, by rw [hb b h1]; exact h3, h4⟩
 | miter m bs ck l x =>
   obtain ⟨b, b', seen, h1, h2, h3, h4, h5⟩ := h
   exact ⟨b, b', seen, h1, h2, by rw [hb b h1]; exact h3, eP hst (fun i hi => hn i (by simpa [O.has] using hi)) h4, h5⟩

theorem cQ.kill {E : Env} {st : St} {g : ah} {n : Nat} {w : World} {gi : Gh} {o : O} {ks : List Nat} (h : cQ E st g n w gi o) : cQ E st g n w gi (o.kill ks) := by
 cases o with
 | cells cs =>
   obtain ⟨b, c, el, fr, h1, h2, h3, h4, h5, h6⟩ := h
   exact ⟨b, c, el, fr, h1, h2, h3, oL h4, h5, h6⟩
 | miter m bs ck l x =>
   obtain ⟨b, b', seen, h1, h2, h3, h4, h5⟩ := h
   exact ⟨b, b', seen, h1, h2, h3, oJ h4, h5⟩
 | _ => exact h

theorem O.kf {ks : List Nat} {o : O} {i : Nat} (h : (o.kill ks).has i = true) : aF i ks = false ∧ o.has i = true := by
 cases o with
 | cells cs => exact ll (by simpa [O.kill, O.has] using h)
 | miter m bs ck l x => exact VG.kf (by simpa [O.kill, O.has] using h)
 | _ => simp [O.kill, O.has] at h

structure cB (E : Env) (st st' : St) (w w' : World) (B : Nat → Prop) : Prop where
 os : w'.os = w.os
 tape : w'.tape = w.tape
 output : w'.output = w.output
 size : w.heap.size ≤ w'.heap.size
 aO : ∀ b, b < w.heap.size → ¬ B b → w'.heap[b]? = w.heap[b]?
 own : ∀ b, B b → E.G b
 mono : ∀ b o v, st b o = some v → st' b o = some v
 newst : ∀ b o v, st' b o = some v → st b o = some v ∨ (E.G b ∧ w'.cell? ⟨b, o, none⟩ = some v)
 oldst : ∀ b o v, B b → st b o = some v → w'.cell? ⟨b, o, none⟩ = some v

theorem xL {w : World} {b o : Nat} {v : Value} (h : w.cell? ⟨b, o, none⟩ = some v) : b < w.heap.size := by
 rcases Nat.lt_or_ge b w.heap.size with h' | h'
 . exact h'
 . simp [World.cell?, Array.getElem?_eq_none h'] at h

theorem aE.step {E : Env} {st st' : St} {g g' : ah} {sg sg' : List O} {w w' : World} {B : Nat → Prop} (h : aE E st g sg w) (c : cB E st st' w w' B)
   (ob : ∀ i o, sg'[i]? = some o → cQ E st' g' sg'.length w' (g' i) o)
   (inj : ∀ i j b, i < sg'.length → j < sg'.length → (g' i).blk = some b → (g' j).blk = some b → i = j) : aE E st' g' sg' w' where
 os := c.os.trans h.os
 tape := c.tape.trans h.tape
 output := c.output.trans h.output
 size := Nat.le_trans h.size c.size
 gnew := h.gnew
 sub := fun b o v hv => c.mono _ _ _ (h.sub _ _ _ hv)
 stG := fun b o v hv => by
  rcases c.newst _ _ _ hv with h1 | h1
  . exact h.stG _ _ _ h1
  . exact .inr h1.1
 stw := fun b o v hv => by
  rcases c.newst _ _ _ hv with h1 | h1
  . by_cases hB : B b
    . exact c.oldst _ _ _ hB h1
    . have h2 := h.stw _ _ _ h1
      rw [oS (c.aO b (xL h2) hB)]; exact h2
  . exact h1.2
 fr := fun b hb => by
  have hlt : b < E.w0.heap.size := by
   rcases Nat.lt_or_ge b E.w0.heap.size with h' | h'
   . exact h'
   . exact absurd (h.gnew b h') hb
  rw [c.aO b (Nat.lt_of_lt_of_le hlt h.size) (fun hB => hb (c.own b hB))]
  exact h.fr b hb
 ob := ob
 inj := inj

def bF (g : ah) (i : Nat) (x : Gh) : ah := fun j => if j = i then x else g j
@[simp] theorem dt (g : ah) (i : Nat) (x : Gh) : bF g i x i = x := by simp [bF]
theorem cF {g : ah} {i j : Nat} {x : Gh} (h : j ≠ i) : bF g i x j = g j := by simp [bF, h]

structure aN (w w' : World) : Prop where
 heap : w'.heap = w.heap
 os : w'.os = w.os
 tape : w'.tape = w.tape
 output : w'.output = w.output
theorem aN.refl (w : World) : aN w w := ⟨rfl, rfl, rfl, rfl⟩

theorem cB.same {E : Env} {st : St} {w w' : World} (h : aN w w') : cB E st st w w' (fun _ => False) where
 os := h.os
 tape := h.tape
 output := h.output
 size := by rw [h.heap]; exact Nat.le_refl _
 aO := fun b _ _ => by rw [h.heap]
 own := fun _ hb => hb.elim
 mono := fun _ _ _ hv => hv
 newst := fun _ _ _ hv => .inl hv
 oldst := fun _ _ _ hb => hb.elim

theorem cQ.same {E : Env} {st : St} {g : ah} {n : Nat} {w w' : World} {gi : Gh} {o : O} (h : cQ E st g n w gi o) (hw : aN w w') : cQ E st g n w' gi o :=
 h.aO (fun b _ => by rw [hw.heap]) (fun _ _ _ hv => hv) (fun _ _ _ _ hv => hv) (fun _ _ hi => ⟨hi, rfl⟩)

theorem aE.same {E : Env} {st : St} {g : ah} {sg : List O} {w w' : World} (h : aE E st g sg w) (hw : aN w w') : aE E st g sg w' :=
 h.step (cB.same hw) (fun i o ho => (h.ob i o ho).same hw) h.inj

theorem nJ {w : World} {o : Obj} {b : Nat} (h : b < w.heap.size) : (w.alloc o).heap[b]? = w.heap[b]? := by
 simp only [World.alloc, Array.getElem?_push]
 rw [if_neg (by omega)]
theorem heap_alloc_new {w : World} {o : Obj} : (w.alloc o).heap[w.heap.size]? = some o := by
 show (w.heap.push o)[w.heap.size]? = some o
 simp

theorem cB.alloc {E : Env} {st : St} {w : World} (o : Obj) : cB E st st w (w.alloc o) (fun _ => False) where
 os := rfl
 tape := rfl
 output := rfl
 size := by simp
 aO := fun b hb _ => nJ hb
 own := fun _ hb => hb.elim
 mono := fun _ _ _ hv => hv
 newst := fun _ _ _ hv => .inl hv
 oldst := fun _ _ _ hb => hb.elim

def gL (st : St) (b : Nat) (c : Array Value) (k : Nat) : St := fun b' o => if b' = b then (if o < k then c[o]? else none) else st b' o

theorem aE.jm {E : Env} {st : St} {g : ah} {sg : List O} {w : World} (h : aE E st g sg w) (o : Nat) : st w.heap.size o = none := by
 cases hs : st w.heap.size o with
 | none => rfl
 | some v => exact absurd (xL (h.stw _ _ _ hs)) (Nat.lt_irrefl _)

theorem kK {st : St} {b : Nat} {c : Array Value} {k : Nat} (h : ∀ o, st b o = none) : ∀ b' o v, st b' o = some v → gL st b c k b' o = some v := by
 intro b' o v hv
 by_cases hb : b' = b
 . subst hb; rw [h o] at hv; cases hv
 . simp [gL, hb, hv]

theorem cB.gL {E : Env} {st : St} {g : ah} {sg : List O} {w : World} (h : aE E st g sg w) (c : Array Value) (el : TypeId) (fr : Nat × Nat) (k : Nat) :
   cB E st (gL st w.heap.size c k) w (w.alloc (.cells c el fr)) (fun _ => False) where
 os := rfl
 tape := rfl
 output := rfl
 size := by simp
 aO := fun b hb _ => nJ hb
 own := fun _ hb => hb.elim
 mono := kK h.jm
 newst := fun b o v hv => by
  by_cases hb : b = w.heap.size
  . subst hb
    simp only [VG.gL, if_true] at hv
    split at hv
    . exact .inr ⟨h.gnew _ h.size, by rw [fw heap_alloc_new]; exact hv⟩
    . cases hv
  . simp [VG.gL, hb] at hv; exact .inl hv
 oldst := fun _ _ _ hb => hb.elim

theorem aE.sY {E : Env} {st : St} {g : ah} {sg : List O} {w : World} (h : aE E st g sg w) (c : Array Value) (el : TypeId) (fr : Nat × Nat) (k : Nat) :
   aE E (gL st w.heap.size c k) g sg (w.alloc (.cells c el fr)) :=
 h.step (cB.gL h c el fr k) (fun i o ho => (h.ob i o ho).aO
  (fun b hb => nJ ((h.ob i o ho).bD hb).1) (kK h.jm)
  (fun b hb o' v hv => by
   have := ((h.ob i o ho).bD hb).1
   simpa [gL, Nat.ne_of_lt this] using hv)
  (fun _ _ hi => ⟨hi, rfl⟩)) h.inj

theorem aE.Cp {E : Env} {st : St} {g : ah} {sg : List O} {w : World} (h : aE E st g sg w) (ob : Obj) (gi : Gh) (o : O)
   (hb : ∀ b, gi.blk = some b → b = w.heap.size)
   (ho : cQ E st (bF g sg.length gi) (sg.length + 1) (w.alloc ob) gi o) :
   aE E st (bF g sg.length gi) (sg ++ [o]) (w.alloc ob) := by
 refine h.step (cB.alloc ob) ?_ ?_
 . intro i o' hi
   rw [List.length_append, List.length_singleton]
   rcases Nat.lt_trichotomy i sg.length with hlt | heq | hgt
   . rw [List.getElem?_append_left hlt] at hi
     rw [cF (Nat.ne_of_lt hlt)]
     exact (h.ob i o' hi).aO (fun b hb => nJ ((h.ob i o' hi).bD hb).1) (fun _ _ _ hv => hv) (fun _ _ _ _ hv => hv)
      (fun j _ hj => ⟨by omega, cF (Nat.ne_of_lt hj)⟩)
   . subst heq
     rw [List.getElem?_append_right (Nat.le_refl _)] at hi
     simp at hi; subst hi
     rw [dt]; exact ho
   . rw [List.getElem?_eq_none (by simp; omega)] at hi; cases hi
 . intro i j b hi hj h1 h2
   rw [List.length_append, List.length_singleton] at hi hj
   by_cases e1 : i = sg.length <;> by_cases e2 : j = sg.length
   . omega
   . subst e1
     rw [dt] at h1; rw [cF e2] at h2
     have := (h.bD (by omega) h2).1; have := hb b h1; omega
   . subst e2
     rw [dt] at h2; rw [cF e1] at h1
     have := (h.bD (by omega) h1).1; have := hb b h2; omega
   . rw [cF e1] at h1; rw [cF e2] at h2
     exact h.inj i j b (by omega) (by omega) h1 h2

theorem aE.fX {E : Env} {st st' : St} {g : ah} {sg : List O} {w w' : World} (h : aE E st g sg w) (i : Nat) (hi : i < sg.length) (ks : List Nat) (gi : Gh) (o : O)
   (c : cB E st st' w w' (fun b => (g i).blk = some b))
   (hks : gi = g i ∨ aF i ks = true)
   (hblk : ∀ b, gi.blk = some b → (g i).blk = some b ∨ b = w.heap.size)
   (hnew : ∀ j b, j < sg.length → j ≠ i → (g j).blk = some b → ∀ o v, st' b o = some v → st b o = some v)
   (ho : cQ E st' (bF g i gi) sg.length w' gi o) :
   aE E st' (bF g i gi) ((sg.map (O.kill ks)).set i o) w' := by
 have hlen : ((sg.map (O.kill ks)).set i o).length = sg.length := by simp
 refine h.step c ?_ ?_
 . intro j o' hj
   rw [hlen]
   by_cases e : j = i
   . subst e
     rw [List.getElem?_set_self (by simpa using hi)] at hj
     cases hj
     rw [dt]; exact ho
   . rw [List.getElem?_set_ne (Ne.symm e), List.getElem?_map] at hj
     cases hs : sg[j]? with
     | none => rw [hs] at hj; cases hj
     | some o₀ =>
       rw [hs] at hj; cases hj
       have hjl : j < sg.length := by
        rcases Nat.lt_or_ge j sg.length with h' | h'
        . exact h'
        . simp [List.getElem?_eq_none h'] at hs
       rw [cF e]
       have h0 := h.ob j o₀ hs
       refine (h0.kill (ks := ks)).aO (fun b hb => ?_) c.mono (fun b hb => hnew j b hjl e hb) (fun k hk hkn => ⟨hkn, ?_⟩)
       . exact c.aO b (h0.bD hb).1 (fun hB => e (h.inj j i b hjl hi hb hB))
       . by_cases ek : k = i
         . subst ek
           rw [dt]
           rcases hks with hks | hks
           . exact hks
           . have := (O.kf hk).1; rw [hks] at this; cases this
         . exact cF ek
 . intro j k b hj hk h1 h2
   rw [hlen] at hj hk
   by_cases e1 : j = i <;> by_cases e2 : k = i
   . omega
   . subst e1
     rw [dt] at h1; rw [cF e2] at h2
     rcases hblk b h1 with h3 | h3
     . exact h.inj j k b hj hk h3 h2
     . have := (h.bD hk h2).1; omega
   . subst e2
     rw [dt] at h2; rw [cF e1] at h1
     rcases hblk b h2 with h3 | h3
     . exact h.inj j k b hj hk h1 h3
     . have := (h.bD hj h1).1; omega
   . rw [cF e1] at h1; rw [cF e2] at h2
     exact h.inj j k b hj hk h1 h2

def eu : List O → List O → Nat → Prop
 | _, [], _ => True
 | [], _ :: _, _ => False
 | _ :: os, .dead :: ps, n => eu os ps n
 | o :: os, p :: ps, n => (o = p ∧ p.eY n = true) ∧ eu os ps n

theorem BG : ∀ {os ps : List O} {n i : Nat} {p : O}, eu os ps n → ps[i]? = some p → ∃ o, os[i]? = some o ∧ (p = .dead ∨ (o = p ∧ p.eY n = true))
 | _, [], _, _, _, _, h => by simp at h
 | [], _ :: _, _, _, _, h, _ => by simp [eu] at h
 | o :: os, q :: ps, n, i, p, h, hp => by
   cases i with
   | zero =>
     simp at hp; subst hp
     refine ⟨o, rfl, ?_⟩
     cases q <;> first | exact .inl rfl | (simp only [eu] at h; exact .inr h.1)
   | succ i =>
     have h' : eu os ps n := by cases q <;> simp only [eu] at h <;> first | exact h | exact h.2
     obtain ⟨o', h1, h2⟩ := BG h' (by simpa using hp)
     exact ⟨o', by simpa using h1, h2⟩

theorem BH : ∀ {os ps : List O} {n : Nat}, eu os ps n → ps.length ≤ os.length
 | _, [], _, _ => by simp
 | [], _ :: _, _, h => by simp [eu] at h
 | o :: os, q :: ps, n, h => by
   have h' : eu os ps n := by cases q <;> simp only [eu] at h <;> first | exact h | exact h.2
   have := BH h'
   simp; omega

theorem JH {n : Nat} {p : O} (h : p.eY n = true) {i : Nat} (hi : p.has i = true) : i < n := by
 cases p with
 | cells cs => exact pf (by simpa [O.eY] using h) (by simpa [O.has] using hi)
 | miter m bs ck l x => exact nH (by simpa [O.eY] using h) (by simpa [O.has] using hi)
 | _ => simp [O.has] at hi

theorem aE.mP {E : Env} {st : St} {g : ah} {sg ps : List O} {w : World} (h : aE E st g sg w) (hs : eu sg ps ps.length) : aE E st g ps w := by
 have hl := BH hs
 refine h.step (cB.same (aN.refl w)) (fun i p hp => ?_) (fun i j b hi hj => h.inj i j b (by omega) (by omega))
 obtain ⟨o, ho, hd⟩ := BG hs hp
 have h0 := h.ob i o ho
 rcases hd with rfl | ⟨rfl, hsc⟩
 . intro b hb; exact h0.bD hb
 . exact h0.aO (fun _ _ => rfl) (fun _ _ _ hv => hv) (fun _ _ _ _ hv => hv) (fun k hk _ => ⟨JH hsc hk, rfl⟩)

end Go.VG
namespace Go.VG
open Go

structure AS where
 nt : Nat
 tm : List (Nat × V)
 sg : List O
 kl : List Nat

def lk : List (Nat × V) → Nat → V
 | [], _ => .undef
 | (k, x) :: r, t => cond (Nat.beq k t) x (lk r t)
def pz (ks : List Nat) : List (Nat × V) → List (Nat × V)
 | [] => []
 | (k, x) :: r => (k, x.kill ks) :: pz ks r
def ru (ks : List Nat) : List O → List O
 | [] => []
 | o :: os => o.kill ks :: ru ks os
def ff : List O → Nat → O → List O
 | [], _, _ => []
 | _ :: os, 0, o => o :: os
 | p :: os, i + 1, o => p :: ff os i o
def cZ : List O → List (Nat × O) → List O
 | sg, [] => sg
 | sg, (i, o) :: r => cZ (ff sg i o) r
def ax : List O → Nat → O
 | [], _ => .dead
 | o :: _, 0 => o
 | _ :: os, i + 1 => ax os i
def iH : List V → Nat → Option V
 | [], _ => none
 | x :: _, 0 => some x
 | _ :: xs, i + 1 => iH xs i
def iV : List V → Nat → Option (List V)
 | _, 0 => some []
 | [], _ + 1 => none
 | x :: xs, n + 1 => match iV xs n with
   | some r => some (x :: r)
   | none => none
def iB : List V → Nat → List V
 | xs, 0 => xs
 | [], _ + 1 => []
 | _ :: xs, n + 1 => iB xs n
def jj : List V → Nat → List V → Option (List V)
 | xs, _, [] => some xs
 | [], _, _ :: _ => none
 | _ :: xs, 0, y :: ys => match jj xs 0 ys with
   | some r => some (y :: r)
   | none => none
 | x :: xs, n + 1, ys => match jj xs n ys with
   | some r => some (x :: r)
   | none => none

structure Ef where
 v : V
 ks : List Nat
 up : List (Nat × O)
 nw : List O
 rd : List Nat

def gm : List Nat → List (Nat × V) → List (Nat × V)
 | [], tm => tm
 | k :: ks, tm => pz (k :: ks) tm
def gT : List Nat → List O → List O
 | [], sg => sg
 | k :: ks, sg => ru (k :: ks) sg
def fM : List O → List O → List O
 | sg, [] => sg
 | sg, o :: os => sg ++ (o :: os)
def dx : List Nat → List Nat → List Nat
 | [], l => l
 | k :: ks, l => cond (aF k l) (dx ks l) (k :: dx ks l)

def AS.app (s : AS) (d : Option Nat) (e : Ef) : AS :=
 ⟨s.nt, match d with
  | some d => (d, e.v) :: gm e.ks s.tm
  | none => gm e.ks s.tm, fM (cZ (gT e.ks s.sg) e.up) e.nw, dx e.ks s.kl⟩

def bG (b : Bool) (A B : Prop) : Prop := match b with
 | true => A
 | false => B
def fk {α : Type} (o : Option α) (K : α → Prop) : Prop := match o with
 | some a => K a
 | none => False
def gI (b : Bool) (A : Prop) : Prop := match b with
 | true => A
 | false => False

def Tr (α : Type) : Type := (α → Prop) → Prop
def ret {α : Type} (a : α) : Tr α := fun K => K a
def fail {α : Type} : Tr α := fun _ => False
def az {α : Type} (A : Prop) (t : Tr α) : Tr α := fun K => A ∧ t K
def bg {α : Type} (b : Bool) (t : Tr α) : Tr α := fun K => gI b (t K)
def dg {α β : Type} (o : Option α) (f : α → Tr β) : Tr β := fun K => fk o fun a => f a K
def j8 {α : Type} (b : Bool) (t u : Tr α) : Tr α := fun K => bG b (t K) (u K)
inductive jV {α : Type} (l : List α) (n : Nat) (K : α → Prop) : Prop where
 | mk (a : α) (h : l[n]? = some a) (k : K a)
def lp {α β : Type} (l : List α) (n : Nat) (f : α → Tr β) : Tr β := fun K => jV l n fun a => f a K
theorem jg {α β : Type} (l : List α) (n : Nat) (f : α → Tr β) : lp l n f = dg (l[n]?) f := by
 funext K
 apply propext
 constructor
 . rintro ⟨a, h, k⟩
   show fk (l[n]?) _
   rw [h]; exact k
 . intro h
   have h : fk (l[n]?) fun a => f a K := h
   cases hl : l[n]? with
   | none => rw [hl] at h; exact h.elim
   | some a => rw [hl] at h; exact ⟨a, hl, h⟩
def eQ {α β : Type} (t : Tr α) (f : α → Tr β) : Tr β := fun K => t fun a => f a K
def exT {α β : Type} (f : α → Tr β) : Tr β := fun K => ∃ a, f a K

def force {α : Type} (x : V) (K : V → Tr α) : Tr α := match x with
 | .undef => K .undef | .int k n => K (.int k n) | .bool b => K (.bool b) | .str a => K (.str a) | .agg cs => K (.agg cs) | .tuple vs => K (.tuple vs)
 | .list c z l => K (.list c z l) | .nilptr => K .nilptr | .box cs o => K (.box cs o) | .ptr i o => K (.ptr i o) | .bptr i a o => K (.bptr i a o)
 | .buf i => K (.buf i) | .iface t v => K (.iface t v) | .nilIface => K .nilIface | .func f a b => K (.func f a b) | .nilFunc => K .nilFunc
 | .map i => K (.map i) | .nilmap => K .nilmap
@[simp] theorem force_eq {α : Type} (x : V) (K : V → Tr α) : force x K = K x := by cases x <;> rfl
def bf {α : Type} (n : Nat) (K : Nat → Tr α) : Tr α := match n with
 | 0 => K 0 | 1 => K 1 | 2 => K 2 | 3 => K 3 | 4 => K 4 | 5 => K 5 | 6 => K 6 | 7 => K 7 | 8 => K 8 | 9 => K 9 | 10 => K 10 | 11 => K 11 | 12 => K 12
 | 13 => K 13 | 14 => K 14 | 15 => K 15 | 16 => K 16 | 17 => K 17 | 18 => K 18 | 19 => K 19 | 20 => K 20 | n => K n
@[simp] theorem cU {α : Type} (n : Nat) (K : Nat → Tr α) : bf n K = K n := by unfold bf; split <;> rfl
mutual
def iG {α : Type} (x : V) (K : V → α) : α := match x with
 | .undef => K .undef | .int k n => K (.int k n) | .bool b => K (.bool b) | .str a => K (.str a) | .agg cs => cg cs fun cs => K (.agg cs) | .tuple vs => cg vs fun vs => K (.tuple vs)
 | .list c z l => K (.list c z l) | .nilptr => K .nilptr | .box cs o => K (.box cs o) | .ptr i o => K (.ptr i o) | .bptr i a o => K (.bptr i a o)
 | .buf i => K (.buf i) | .iface t v => iG v fun v => K (.iface t v) | .nilIface => K .nilIface | .func f a b => cg a fun a => cg b fun b => K (.func f a b) | .nilFunc => K .nilFunc
 | .map i => K (.map i) | .nilmap => K .nilmap
def cg {α : Type} (l : List V) (K : List V → α) : α := match l with
 | [] => K []
 | x :: xs => iG x fun x => cg xs fun xs => K (x :: xs)
end
mutual
theorem l9 {α : Type} : ∀ (x : V) (K : V → α), iG x K = K x
 | .undef, _ | .int .., _ | .bool _, _ | .str _, _ | .list .., _ | .nilptr, _ | .box .., _ | .ptr .., _ | .bptr .., _ | .buf _, _ | .nilIface, _ | .nilFunc, _ | .map _, _ | .nilmap, _ => by simp only [iG]
 | .agg cs, K | .tuple cs, K => by simp only [iG]; exact jd cs _
 | .iface t v, K => by simp only [iG]; exact l9 v _
 | .func f a b, K => by simp only [iG]; rw [jd a]; exact jd b _
theorem jd {α : Type} : ∀ (l : List V) (K : List V → α), cg l K = K l
 | [], _ => by simp only [cg]
 | x :: xs, K => by simp only [cg]; rw [l9 x]; exact jd xs _
end
def la {α : Type} (l : List V) (f : List V → Tr α) : Tr α := fun K => cg l fun l => f l K
@[simp] theorem nz {α : Type} (l : List V) (f : List V → Tr α) : la l f = f l := by funext K; exact jd l _
def r7 {α : Type} (o : O) (K : O → α) : α := match o with
 | .dead => K .dead | .cells cs => cg cs fun cs => K (.cells cs) | .buf a b l => K (.buf a b l) | .siter s p => K (.siter s p) | .map a sh es bs ck => K (.map a sh es bs ck)
 | .miter m bs ck l x => iG m fun m => K (.miter m bs ck l x)
@[simp] theorem yS {α : Type} (o : O) (K : O → α) : r7 o K = K o := by cases o <;> simp only [r7, jd, l9]
def gS {α : Type} (l : List O) (K : List O → α) : α := match l with
 | [] => K []
 | x :: xs => r7 x fun x => gS xs fun xs => K (x :: xs)
@[simp] theorem nA {α : Type} : ∀ (l : List O) (K : List O → α), gS l K = K l
 | [], _ => by simp only [gS]
 | x :: xs, K => by simp only [gS]; rw [yS x]; exact nA xs _
def ke (l : List (Nat × V)) (K : List (Nat × V) → Prop) : Prop := match l with
 | [] => K []
 | (t, x) :: xs => iG x fun x => ke xs fun xs => K ((t, x) :: xs)
@[simp] theorem FL : ∀ (l : List (Nat × V)) (K : List (Nat × V) → Prop), ke l K = K l
 | [], _ => by simp only [ke]
 | (t, x) :: xs, K => by simp only [ke]; rw [l9 x]; exact FL xs _
def gj {α : Type} (l : List α) (K : List α → Prop) : Prop := match l with
 | [] => K []
 | x :: xs => gj xs fun xs => K (x :: xs)
@[simp] theorem p9 {α : Type} : ∀ (l : List α) (K : List α → Prop), gj l K = K l
 | [], _ => by simp only [gj]
 | x :: xs, K => by simp only [gj]; exact p9 xs _
def pb (l : List (Nat × O)) (K : List (Nat × O) → Prop) : Prop := match l with
 | [] => K []
 | (t, x) :: xs => r7 x fun x => pb xs fun xs => K ((t, x) :: xs)
@[simp] theorem yT : ∀ (l : List (Nat × O)) (K : List (Nat × O) → Prop), pb l K = K l
 | [], _ => by simp only [pb]
 | (t, x) :: xs, K => by simp only [pb]; rw [yS x]; exact yT xs _
def gd (e : Ef) (K : Ef → Prop) : Prop := match e with
 | ⟨v, ks, up, nw, rd⟩ => iG v fun v => gj ks fun ks => pb up fun up => gS nw fun nw => gj rd fun rd => K ⟨v, ks, up, nw, rd⟩
@[simp] theorem gR (e : Ef) (K : Ef → Prop) : gd e K = K e := by cases e; simp only [gd, l9, p9, yT, nA]

def dy (s : AS) (d : Option Nat) (e : Ef) (K : AS → Prop) : Prop := match s, d, e with
 | ⟨nt, tm, sg, kl⟩, some d, ⟨v, [], [], [], _⟩ => K ⟨nt, (d, v) :: tm, sg, kl⟩
 | ⟨nt, tm, sg, kl⟩, none, ⟨_, [], [], [], _⟩ => K ⟨nt, tm, sg, kl⟩
 | ⟨nt, tm, sg, kl⟩, some d, ⟨v, [], up, nw, _⟩ => gS (fM (cZ sg up) nw) fun sg => K ⟨nt, (d, v) :: tm, sg, kl⟩
 | ⟨nt, tm, sg, kl⟩, none, ⟨_, [], up, nw, _⟩ => gS (fM (cZ sg up) nw) fun sg => K ⟨nt, tm, sg, kl⟩
 | ⟨nt, tm, sg, kl⟩, some d, ⟨v, ks, up, nw, _⟩ => ke (gm ks tm) fun tm => gS (fM (cZ (gT ks sg) up) nw) fun sg => gj (dx ks kl) fun kl => K ⟨nt, (d, v) :: tm, sg, kl⟩
 | ⟨nt, tm, sg, kl⟩, none, ⟨_, ks, up, nw, _⟩ => ke (gm ks tm) fun tm => gS (fM (cZ (gT ks sg) up) nw) fun sg => gj (dx ks kl) fun kl => K ⟨nt, tm, sg, kl⟩
@[simp] theorem e9 (s : AS) (d : Option Nat) (e : Ef) (K : AS → Prop) : dy s d e K = K (s.app d e) := by
 obtain ⟨nt, tm, sg, kl⟩ := s
 obtain ⟨v, ks, up, nw, rd⟩ := e
 cases d <;> cases ks <;> cases up <;> cases nw <;> simp [dy, AS.app, gm, gT, dx, cZ, fM]

inductive TK where
 | bool | int (k : IntKind) | string
 | slice (e : TypeId) | array (n : Nat) (e : TypeId) | ptr (e : TypeId)
 | struct (fs : List (Nat × TypeId)) | iface | func | map (k e : TypeId) | other
structure TI where
 k : TK
 size : Nat
 bytes : Nat
 zero : V
 feq : List Sc

inductive dY where
 | tm (t sz : Nat)
 | cell (i off sz : Nat)
 | swap (i j : Nat)
 | nw
 | dk (i : Nat)
structure Ctx where
 P : Program
 ti : TypeId → TI
 gl : Nat → Option (List V)
 Γ : FuncId → List V → List O → Option (Prop × V × Option (List O))
 mt : TypeId → String → FuncId → Prop
 hint : Nat → List dY
 lits : Nat → Bool
 yd : Nat → List V → List O → List Nat → Option (Prop × V × List O × List Nat) := fun _ _ _ _ => none
 pn : FuncId → List V → List O → Option (Prop × Prop × V × Option (List O) × V × Option (List O)) := fun _ _ _ => none
 pdr : Nat → Bool := fun _ => false
def Ctx.gu (C : Ctx) : Ctx := { C with Γ := fun f a s => match C.pn f a s with
 | some (pre, c, u, r, _, _) => some (pre ∧ c, u, r)
 | none => none }
def Ctx.iP (C : Ctx) : Ctx := { C with Γ := fun f a s => match C.pn f a s with
 | some (pre, c, _, _, x, r) => some (pre ∧ ¬ c, x, r)
 | none => none }
def iO : V → Option Value
 | .iface t (.int k n) => some (.iface t (.int k n))
 | _ => none

def TK.isAgg : TK → Bool
 | .struct _ | .array _ _ => true
 | _ => false

def Av (k : IntKind) (m : Nat) : Bool := match k with
 | .i8 => Nat.ble m 127 | .i16 => Nat.ble m 32767 | .i32 => Nat.ble m 2147483647 | .i64 => Nat.ble m 9223372036854775807
 | .u8 => Nat.ble m 255 | .u16 => Nat.ble m 65535 | .u32 => Nat.ble m 4294967295 | .u64 => Nat.ble m 18446744073709551615
def Az (k : IntKind) (m : Nat) : Bool := match k with
 | .i8 => Nat.ble m 127 | .i16 => Nat.ble m 32767 | .i32 => Nat.ble m 2147483647 | .i64 => Nat.ble m 9223372036854775807
 | _ => false
def rh (k : IntKind) (n : Int) : Bool := match n with
 | .ofNat m => Av k m
 | .negSucc m => Az k m

def rO : Value → V
 | .int k n => cond (rh k n) (.int k n) .undef
 | .bool b => .bool b
 | .string s => cond (Nat.ble s.data.toList.length 1048576) (.str s.data.toList) .undef
 | .slice none 0 0 => .list true 0 []
 | .pointer none => .nilptr
 | .nilIface => .nilIface
 | .nilFunc => .nilFunc
 | .map none => .nilmap
 | _ => .undef
def uR : List Value → List V
 | [] => []
 | v :: vs => rO v :: uR vs
def uQ : Value → V
 | .agg cs => .agg (uR cs.toList)
 | v => rO v

def AS.ev (C : Ctx) (s : AS) : Operand → V
 | .tmp t => lk s.tm t
 | .const v => uQ v
 | .global g => match C.gl g with
   | some cs => .box cs 0
   | none => .undef
 | .func f => .func (.func f) [] []
def AS.bo (C : Ctx) (s : AS) : List Operand → List V
 | [] => []
 | x :: xs => s.ev C x :: AS.bo C s xs

def bv (b : UInt8) : V := .int .u8 b.toNat
def bl : List UInt8 → List V
 | [] => []
 | b :: s => bv b :: bl s

def ln (k : IntKind) (a b : Int) : Int := k.wrap (BitVec.ofInt k.bits a &&& BitVec.ofInt k.bits b).toNat
def iK (k : IntKind) (a b : Int) : Int := k.wrap (BitVec.ofInt k.bits a ||| BitVec.ofInt k.bits b).toNat
def iXor (k : IntKind) (a b : Int) : Int := k.wrap (BitVec.ofInt k.bits a ^^^ BitVec.ofInt k.bits b).toNat
def G5 (k : IntKind) (a b : Int) : Int := k.wrap (BitVec.ofInt k.bits a &&& ~~~ BitVec.ofInt k.bits b).toNat
def je (k : IntKind) (a b : Int) : Int := k.wrap (a * 2 ^ (min b.toNat k.bits))
def jf (k : IntKind) (a b : Int) : Int := a.fdiv (2 ^ (min b.toNat k.bits))

def m6 : V → V → Option Bool
 | .int k a, .int k' b => cond (dE k k') (some (a == b)) none
 | .str a, .str b => some (a == b)
 | .bool a, .bool b => some (a == b)
 | _, _ => none
def eqs : List V → List V → Option Bool
 | [], [] => some true
 | [x], [y] => m6 x y
 | x :: xs, y :: ys => match m6 x y, eqs xs ys with
   | some a, some b => some (a && b)
   | _, _ => none
 | _, _ => none

def tQ : List Sc → List V → Bool
 | [], _ => false
 | k :: ks, xs => cf (k :: ks) xs
def nj (C : Ctx) (op : BinOp) (t : TypeId) (x y : V) : Tr V :=
 match x, y with
 | .int k a, .int k' b => match op with
   | .shl => az (0 ≤ b) (ret (.int k (je k a b)))
   | .shr => az (0 ≤ b) (ret (.int k (jf k a b)))
   | .add => bg (dE k k') (ret (.int k (k.wrap (a + b))))
   | .sub => bg (dE k k') (ret (.int k (k.wrap (a - b))))
   | .mul => bg (dE k k') (ret (.int k (k.wrap (a * b))))
   | .quo => bg (dE k k') (az (b ≠ 0) (ret (.int k (k.wrap (a.tdiv b)))))
   | .rem => bg (dE k k') (az (b ≠ 0) (ret (.int k (a.tmod b))))
   | .and => bg (dE k k') (ret (.int k (ln k a b)))
   | .or => bg (dE k k') (ret (.int k (iK k a b)))
   | .xor => bg (dE k k') (ret (.int k (iXor k a b)))
   | .andNot => bg (dE k k') (ret (.int k (G5 k a b)))
   | .eql => bg (dE k k') (ret (.bool (a == b)))
   | .neq => bg (dE k k') (ret (.bool (a != b)))
   | .lss => bg (dE k k') (ret (.bool (decide (a < b))))
   | .leq => bg (dE k k') (ret (.bool (decide (a ≤ b))))
   | .gtr => bg (dE k k') (ret (.bool (decide (a > b))))
   | .geq => bg (dE k k') (ret (.bool (decide (a ≥ b))))
 | .str a, .str b => match op with
   | .add => az (a.length + b.length ≤ 4294967296) (ret (.str (a ++ b)))
   | .eql => ret (.bool (a == b))
   | .neq => ret (.bool (!(a == b)))
   | .lss => ret (.bool (Op.bytesLess a b))
   | .leq => ret (.bool (Op.bytesLess a b || a == b))
   | .gtr => ret (.bool (!(Op.bytesLess a b || a == b)))
   | .geq => ret (.bool (!(Op.bytesLess a b)))
   | _ => fail
 | .bool a, .bool b => match op, (C.ti t).k with
   | .eql, .bool => ret (.bool (a == b))
   | .neq, .bool => ret (.bool (!(a == b)))
   | _, _ => fail
 | .agg a, .agg b => match (C.ti t).k with
   | .other | .map _ _ => fail
   | _ => bg (tQ (C.ti t).feq a && (tQ (C.ti t).feq b && Nat.beq a.length (C.ti t).size)) (dg (eqs a b) fun r => match op with
     | .eql => ret (.bool r)
     | .neq => ret (.bool (!r))
     | _ => fail)
 | .nilptr, .nilptr => match op, (C.ti t).k with
   | .eql, .ptr _ => ret (.bool true)
   | .neq, .ptr _ => ret (.bool false)
   | _, _ => fail
 | .ptr _ _, .nilptr | .nilptr, .ptr _ _ | .bptr _ _ _, .nilptr | .nilptr, .bptr _ _ _ | .box _ _, .nilptr | .nilptr, .box _ _ => match op, (C.ti t).k with
   | .eql, .ptr _ => ret (.bool false)
   | .neq, .ptr _ => ret (.bool true)
   | _, _ => fail
 | .iface _ _, .nilIface | .nilIface, .iface _ _ => match op, (C.ti t).k with
   | .eql, .iface => ret (.bool false)
   | .neq, .iface => ret (.bool true)
   | _, _ => fail
 | _, _ => fail

def p6 (op : UnOp) (x : V) : Tr V :=
 match op, x with
 | .neg, .int k n => ret (.int k (k.wrap (0 - n)))
 | .xor, .int k n => ret (.int k (iXor k (if k.signed then -1 else k.max) n))
 | .not, .bool b => ret (.bool (!b))
 | _, _ => fail

def gp (agg : Bool) (size : Nat) (cs : List V) (off : Nat) : Tr V :=
 match agg with
 | true => dg (iV (iB cs off) size) fun r => ret (.agg r)
 | false => dg (iH cs off) ret

def elems (s : AS) (x : V) : Tr (Nat × List V × List Nat) :=
 match x with
 | .list _ sz l => ret (sz, l, [])
 | .str b => ret (1, bl b, [])
 | .buf i => match ax s.sg i with
   | .buf sz _ l => ret (sz, l, [i])
   | _ => fail
 | _ => fail

def jR (sz esz : Nat) (l : List V) : Bool :=
 match Nat.beq sz esz with
 | true => true
 | false => match l with
   | [] => true
   | _ => false
def V.one : V → Bool
 | .agg _ | .tuple _ | .undef => false
 | _ => true
def dI : List V → Bool
 | [] => true
 | c :: cs => c.one && dI cs

def V.dQ : V → Bool
 | .undef => true
 | _ => false
mutual
def V.pure : V → Bool
 | .undef | .ptr _ _ | .bptr _ _ _ | .buf _ | .map _ => false
 | .agg cs | .tuple cs => V.hH cs
 | .iface _ x => V.pure x
 | .func _ fs cs => V.hH fs && V.hH cs
 | _ => true
def V.hH : List V → Bool
 | [] => true
 | c :: cs => V.pure c && V.hH cs
end

def o8 : List (Nat × V) → Nat → Nat → Option (List V)
 | [], _, _ => some []
 | (i, x) :: r, k, sz => match Nat.beq i k, Nat.beq x.cells.length sz, x.pure && dI x.cells with
   | true, true, true => match o8 r (k + 1) sz with
     | some l => some (x :: l)
     | none => none
   | _, _, _ => none

def ny (place : Nat → Option (Nat × Nat)) : List (Nat × V) → List V → Option (List V)
  | [], cs => some cs
  | (i, x) :: r, cs => match place i with
    | none => none
    | some (off, size) => match Nat.beq x.cells.length size && Nat.blt 0 size, x.dQ with
      | true, false => match jj cs off x.cells with
        | some cs' => ny place r cs'
        | none => none
      | _, _ => none
def jA : List (Nat × TypeId) → Nat → Option (Nat × TypeId)
 | [], _ => none
 | x :: _, 0 => some x
 | _ :: xs, i + 1 => jA xs i
def placeOf (C : Ctx) (fs : List (Nat × TypeId)) (i : Nat) : Option (Nat × Nat) := match jA fs i with
 | some (off, t) => match (C.ti t).k with
   | .other => none
   | _ => some (off, (C.ti t).size)
 | none => none

def fS (C : Ctx) (s : AS) : List (Nat × Operand) → List (Nat × V)
 | [] => []
 | (i, x) :: r => (i, s.ev C x) :: fS C s r

def pe (v : V) : Ef := ⟨v, [], [], [], []⟩

def idxOf (i : Nat) : List Nat → Nat → Option Nat
 | [], _ => none
 | k :: ks, n => cond (Nat.beq k i) (some n) (idxOf i ks (n + 1))
mutual
def V.bk (f : Nat → Option Nat) : V → V
 | .ptr i o => match f i with
   | some j => .ptr j o
   | none => .undef
 | .bptr i a o => match f i with
   | some j => .bptr j a o
   | none => .undef
 | .buf i => match f i with
   | some j => .buf j
   | none => .undef
 | .map i => match f i with
   | some j => .map j
   | none => .undef
 | .agg cs => .agg (V.gz f cs)
 | .tuple cs => .tuple (V.gz f cs)
 | .iface t x => .iface t (V.bk f x)
 | .func g fs cs => .func g (V.gz f fs) (V.gz f cs)
 | .undef => .undef | .int k n => .int k n | .bool b => .bool b | .str s => .str s | .list c z l => .list c z l
 | .nilptr => .nilptr | .box cs o => .box cs o | .nilIface => .nilIface | .nilFunc => .nilFunc | .nilmap => .nilmap
def V.gz (f : Nat → Option Nat) : List V → List V
 | [] => []
 | c :: cs => V.bk f c :: V.gz f cs
end
def O.bk (f : Nat → Option Nat) : O → O
 | .cells cs => .cells (V.gz f cs)
 | .dead => .dead | .buf a b l => .buf a b l | .siter s p => .siter s p | .map a sh es bs ck => .map a sh es bs ck
 | .miter m bs ck l x => .miter (m.bk f) bs ck l x
mutual
def V.names : V → List Nat → List Nat
 | .ptr i _, acc | .bptr i _ _, acc | .buf i, acc | .map i, acc => cond (aF i acc) acc (acc ++ [i])
 | .agg cs, acc | .tuple cs, acc => V.dm cs acc
 | .iface _ x, acc => V.names x acc
 | .func _ fs cs, acc => V.dm cs (V.dm fs acc)
 | _, acc => acc
def V.dm : List V → List Nat → List Nat
 | [], acc => acc
 | c :: cs, acc => V.dm cs (V.names c acc)
end
def O.names : O → List Nat → List Nat
 | .cells cs, acc => V.dm cs acc
 | .miter m _ _ _ _, acc => V.names m acc
 | _, acc => acc
def reach (sg : List O) : Nat → List Nat → List Nat → List Nat
 | 0, _, acc => acc
 | _ + 1, [], acc => acc
 | fuel + 1, i :: todo, acc =>
   let acc' := (ax sg i).names acc
   reach sg fuel (todo ++ acc'.drop acc.length) acc'
def locals (sg : List O) (f : Nat → Option Nat) : List Nat → List O
 | [] => []
 | i :: is => (ax sg i).bk f :: locals sg f is
def ct : List Nat → Nat → Nat → Nat → Option Nat
 | i :: _, _, _, 0 => some i
 | _ :: th, n, k, j + 1 => ct th n k j
 | [], n, k, j => cond (Nat.blt j k) (some (n + j)) none
def gM (sg : List O) : List Nat → List Nat
 | [] => []
 | i :: is => match ax sg i with
   | .buf _ _ _ => i :: gM sg is
   | _ => gM sg is
def iw (f : Nat → Option Nat) : List Nat → List O → List (Nat × O)
 | i :: is, o :: os => (i, o.bk f) :: iw f is os
 | _, _ => []
def gV (f : Nat → Option Nat) : List O → List O
 | [] => []
 | o :: os => o.bk f :: gV f os

def db : List O → Nat → List O
 | xs, 0 => xs
 | [], _ + 1 => []
 | _ :: xs, n + 1 => db xs n

def fV : List Nat → Bool
 | [] => true
 | k :: ks => cond (aF k ks) false (fV ks)
def g8 (sg : List O) : List Nat → Bool
 | [] => true
 | i :: is => match ax sg i with
   | .dead => false
   | _ => g8 sg is
mutual
def V.within (th : List Nat) : V → Bool
 | .ptr j _ | .bptr j _ _ | .buf j | .map j => aF j th
 | .agg cs | .tuple cs => V.lL th cs
 | .iface _ x => V.within th x
 | .func _ fs cs => V.lL th fs && V.lL th cs
 | _ => true
def V.lL (th : List Nat) : List V → Bool
 | [] => true
 | c :: cs => V.within th c && V.lL th cs
end
def g9 (sg : List O) (th : List Nat) : List Nat → Bool
 | [] => true
 | i :: is => match ax sg i with
   | .cells cs => V.lL th cs && g9 sg th is
   | .miter m _ _ _ _ => V.within th m && g9 sg th is
   | _ => g9 sg th is

def mf {α : Type} (l : List Nat) (K : List Nat → α) : α := match l with
 | [] => K []
 | x :: xs => mf xs fun xs => K (x :: xs)
theorem ld {α : Type} : ∀ (l : List Nat) (K : List Nat → α), mf l K = K l
 | [], _ => by simp only [mf]
 | x :: xs, K => by simp only [mf]; exact ld xs _
def dD : List O → Bool
 | [] => false
 | .dead :: [] => true
 | _ :: os => dD os
def p5 (C : Ctx) (sg : List O) (f : FuncId) (args : List V) (th : List Nat) : Option (Prop × Ef) :=
 cond (fV th && g8 sg th) (cg (V.gz (fun i => idxOf i th 0) args) fun args' => gS (locals sg (fun i => idxOf i th 0) th) fun lo => match C.Γ f args' lo with
  | none => none
  | some (pre, v, none) => cond (g9 sg th th) (some (pre, ⟨v.bk (ct th 0 0), [], [], [], th⟩)) none
  | some (pre, v, some sg') =>
    some (pre, ⟨v.bk (ct th sg.length (db sg' th.length).length), cond (dD sg') [] (gM sg th), iw (ct th sg.length (db sg' th.length).length) th sg', gV (ct th sg.length (db sg' th.length).length) (db sg' th.length), th⟩)) none
def ec (C : Ctx) (sg : List O) (f : FuncId) (args : List V) : Option (Prop × Ef) :=
 mf (V.dm args []) fun a0 => mf (reach sg 256 a0 a0) fun th => p5 C sg f args th

def target (C : Ctx) (s : AS) (c : Call) : Option (FuncId × List V) :=
 match c.callee with
 | .value f => match s.ev C f with
   | .func (.func g) first captured => some (g, first ++ s.bo C c.args.toList ++ captured)
   | _ => none
 | _ => none

def kQ (C : Ctx) (s : AS) (e : TypeId) (x : V) (ys : List V) (rd : List Nat) : Tr Ef :=
 match x with
 | .list true sz0 l => bg (jR sz0 (C.ti e).size l) (az (l.length + ys.length ≤ 4294967296) (az (l = [] ∨ ys ≠ [])
  (bf s.sg.length fun i => bf (C.ti e).size fun sz => ret ⟨.buf i, [], [], [.buf sz 0 (l ++ ys)], rd⟩)))
 | .buf i => match ax s.sg i with
   | .buf sz0 pre l => bg (Nat.beq sz0 (C.ti e).size && !aF i rd) (az (l.length + ys.length ≤ 4294967296) (ret ⟨.buf i, [i], [(i, .buf sz0 pre (l ++ ys))], [], i :: rd⟩))
   | _ => fail
 | _ => fail

def cX {α β : Type} (o : Option α) (f : α → Tr β) (g : Tr β) : Tr β := fun K => (∀ a, o = some a → f a K) ∧ (o = none → g K)
def vn : Sc → Sc → Bool
 | .kB, .kB => true
 | .kI k, .kI k' => dE k k'
 | .kS, .kS => true
 | _, _ => false
def og : List Sc → List Sc → Bool
 | [], [] => true
 | a :: r, b :: q => vn a b && og r q
 | _, _ => false
def qI (a b : Bool) : Bool := cond a b (!b)
def rK (C : Ctx) (t : TypeId) : Option (Bool × List Sc) := match (C.ti t).k with
 | .map k e => match (C.ti k).k, (C.ti e).k, (C.ti t).feq with
   | .other, _, _ => none
   | _, _, [] => none
   | kk, .int .i64, sh => match (C.ti e).zero with
     | .int .i64 (.ofNat 0) => some (kk.isAgg, sh)
     | _ => none
   | _, _, _ => none
 | _ => none
def dS (C : Ctx) (s : AS) (t : TypeId) (m : V) (F : Nat → Bool → List Sc → List (V × Int) → List Nat → Nat → Tr Ef) : Tr Ef :=
 dg (rK C t) fun p => match m with
   | .map i => match ax s.sg i with
     | .map ag sh es bs ck => bg (qI ag p.1 && og sh p.2) (F i ag sh es bs ck)
     | _ => fail
   | _ => fail
def kY (C : Ctx) (s : AS) (t : TypeId) : Tr Ef :=
 dg (rK C t) fun p => bf s.sg.length fun n => ret ⟨.map n, [], [], [.map p.1 p.2 [] [] 0], []⟩
def iF (C : Ctx) (s : AS) (t : TypeId) (m x : Operand) (ok : Bool) : Tr Ef :=
 dS C s t (s.ev C m) fun i ag sh es _ _ => force (s.ev C x) fun x => bg (gQ ag sh x) (match ok with
  | true => cX (bE es x) (fun r => ret ⟨.tuple [.int .i64 r.2, .bool true], [], [], [], [i]⟩) (ret ⟨.tuple [.int .i64 0, .bool false], [], [], [], [i]⟩)
  | false => ret ⟨.int .i64 (getM es x), [], [], [], [i]⟩)
def l0 (C : Ctx) (s : AS) (t : TypeId) (m x y : Operand) : Tr Ef :=
  dS    C s t (s.ev C m) fun i ag sh es bs ck => force (s.ev C x) fun x => bg (gQ ag sh x) (match s.ev C y with
   | .int .i64 q => cX (bE es x) (fun r => ret ⟨.undef, [], [(i, .map ag sh (fC es r.1 q) bs ck)], [], [i]⟩)
    (ret ⟨.undef, [], [(i, .map ag sh (es ++ [(x, q)]) (bs ++ [ck]) (ck + 1))], [], [i]⟩)
   | _ => fail)
def jw (C : Ctx) (s : AS) (t : TypeId) (m x : Operand) : Tr Ef :=
 dS C s t (s.ev C m) fun i ag sh es bs ck => force (s.ev C x) fun x => bg (gQ ag sh x) (az (ck ≤ 9223372036854775807)
  (cX (bE es x) (fun r => ret ⟨.tuple [.int .i64 r.2, .int .i64 (bs.getD r.1 0 : Nat)], [], [(i, .map ag sh es bs ck)], [], [i]⟩)
   (ret ⟨.tuple [.int .i64 0, .int .i64 ck], [], [(i, .map ag sh (es ++ [(x, 0)]) (bs ++ [ck]) (ck + 1))], [], [i]⟩)))
def kT (C : Ctx) (s : AS) (t : TypeId) (m b y : Operand) : Tr Ef :=
 dS C s t (s.ev C m) fun i ag sh es bs ck => match s.ev C b, s.ev C y with
  | .int .i64 b, .int .i64 q => exT fun j => az (0 ≤ b ∧ bs[j]? = some b.toNat) (ret ⟨.undef, [], [(i, .map ag sh (fC es j q) bs ck)], [], [i]⟩)
  | _, _ => fail
def kR (C : Ctx) (s : AS) (t : TypeId) (m x : V) : Tr Ef :=
 dS C s t m fun i ag sh es bs ck => force x fun x => bg (gQ ag sh x)
  (cX (bE es x) (fun r => ret ⟨.tuple [], [], [(i, .map ag sh (es.eraseIdx r.1) (bs.eraseIdx r.1) ck)], [], [i]⟩) (ret ⟨.tuple [], [], [(i, .map ag sh es bs ck)], [], [i]⟩))
def kX (C : Ctx) (s : AS) (t : TypeId) (m : V) : Tr Ef :=
 dS C s t m fun i _ _ _ bs ck => bf s.sg.length fun n => ret ⟨.ptr n 0, [], [], [.miter (.map i) bs ck (List.range bs.length) bs.length], [i]⟩
def ma (C : Ctx) (s : AS) (x : Operand) : Tr Ef :=
 match s.ev C x with
 | .ptr k 0 => match ax s.sg k with
   | .miter (.map i) bs ck _ last => match ax s.sg i with
     | .map _ _ es bs' ck' => az (bs' = bs ∧ ck' = ck) (lp es last fun e => ret ⟨.tuple [.undef, .int .i64 e.2], [], [], [], [k, i]⟩)
     | _ => fail
   | _ => fail
 | _ => fail

def jb (C : Ctx) (s : AS) (b : Builtin) (ts : List TypeId) (args : List V) : Tr Ef :=
  match b, ts, args with
  | .len, [t], [x] => match (C.ti t).k with
    | .array n _ => bg (Nat.ble n 4294967296) (ret (pe (.int .i64 n)))
    | .string => match x with
      | .str a => ret (pe (.int .i64 a.length))
      | _ => fail
    | .slice _ => match x with
      | .list _ _ l => ret (pe (.int .i64 l.length))
      | .buf i => match ax s.sg i with
        | .buf _ _ l => ret ⟨.int .i64 l.length, [], [], [], [i]⟩
        | _ => fail
      | _ => fail
    | _ => fail
  | .append, [t, t2], [x, y] => match (C.ti t).k, (C.ti t2).k with
    | _, .int _ => fail
    | _, .other => fail
    | .slice e, _ => match (C.ti e).k with
      | .other => fail
      | _ => bg (Nat.ble (C.ti e).bytes 4096 && Nat.blt 0 (C.ti e).size && !(C.ti e).zero.dQ && Nat.beq (C.ti e).zero.cells.length (C.ti e).size) (eQ (elems s y) fun r => match r with
        | (sz, ys, rd) => bg (jR sz (C.ti e).size ys) (kQ C s e x ys rd))
    | _, _ => fail
  | .copy, [t, _], [x, y] => match (C.ti t).k, x with
    | .slice e, .buf i => match (C.ti e).k with
      | .other => fail
      | _ => match ax s.sg i with
        | .buf sz0 0 l => eQ (elems s y) fun r => match r with
          | (sz, ys, rd) => bg (jR sz sz0 ys && Nat.beq sz0 (C.ti e).size && !aF i rd)
            (ret ⟨.int .i64 (min ys.length l.length : Nat), [], [(i, .buf sz0 0 (ys.take l.length ++ l.drop ys.length))], [], i :: rd⟩)
        | _ => fail
    | _, _ => fail
  | .delete, t :: _, [m, x] => kR C s t m x
  | .max, _, [.int k a, .int k' b] => bg (dE k k') (ret (pe (.int k (if b > a then b else a))))
  | .min, _, [.int k a, .int k' b] => bg (dE k k') (ret (pe (.int k (if b < a then b else a))))
  | _, _, _ => fail

def ic (C : Ctx) (s : AS) (src dst : TypeId) (x : V) : Tr Ef :=
 match (C.ti src).k, (C.ti dst).k, x with
 | .other, _, _ => fail
 | _, .int k, .int _ n => ret (pe (.int k (k.wrap n)))
 | .string, .string, .str a => ret (pe (.str a))
 | .string, .slice e, .str a => match (C.ti e).k with
   | .int .u8 => ret (pe (.list false 1 (bl a)))
   | _ => fail
 | .slice e, .string, x => match (C.ti e).k, x with
   | _, .str _ => fail
   | .int .u8, _ => eQ (elems s x) fun r => match r with
     | (sz, l, rd) => bg (jR sz 1 l) (exT fun a => az (l = bl a) (ret ⟨.str a, [], [], [], rd⟩))
   | _, _ => fail
 | _, _, _ => fail

def l5 (C : Ctx) (s : AS) (a b : TypeId) (x : V) : Tr Ef := match x with
  | .buf i => cond (Nat.beq a b) (match (C.ti a).k with
    | .slice e => match (C.ti e).k with
      | .int .u8 => match ax s.sg i with
        | .buf sz pre (y :: l) => ret ⟨.buf i, [], [(i, .buf sz pre (y :: l))], [], [i]⟩
        | _ => fail
      | _ => fail
    | _ => fail) (ic C s a b (.buf i))
  | x => ic C s a b x

def cS (r : Option (Prop × Ef)) : Tr Ef := dg r fun p => az p.1 (fun K => gd p.2 K)

def gO (C : Ctx) (s : AS) (len : Nat) (lo hi : Option Operand) : Tr (Option Int × Option Int) :=
 match lo, hi with
 | none, none => ret (none, none)
 | some l, none => match s.ev C l with
   | .int _ l => az (0 ≤ l ∧ l ≤ len) (ret (some l, none))
   | _ => fail
 | none, some h => match s.ev C h with
   | .int _ h => az (0 ≤ h ∧ h ≤ len) (ret (none, some h))
   | _ => fail
 | some l, some h => match s.ev C l, s.ev C h with
   | .int _ l, .int _ h => az (0 ≤ l ∧ l ≤ h ∧ h ≤ len) (ret (some l, some h))
   | _, _ => fail
def n8 {α : Type} (a : List α) : Option Int × Option Int → List α
 | (none, none) => a
 | (some l, none) => a.drop l.toNat
 | (none, some h) => a.take h.toNat
 | (some l, some h) => (a.take h.toNat).drop l.toNat
def oW {α β : Type} (a : List α) (r : Option Int × Option Int) (K : List α → Tr β) : Tr β := match r with
 | (none, none) => K a
 | (some l, none) => K (a.drop l.toNat)
 | (none, some h) => K (a.take h.toNat)
 | (some l, some h) => K ((a.take h.toNat).drop l.toNat)
@[simp] theorem oX {α β : Type} (a : List α) (r : Option Int × Option Int) (K : List α → Tr β) : oW a r K = K (n8 a r) := by
 obtain ⟨l, h⟩ := r; cases l <;> cases h <;> rfl

def nr (C : Ctx) (s : AS) (c a b : Operand) : Tr Ef :=
 match s.ev C c with
 | .bool t => force (s.ev C a) fun a => force (s.ev C b) fun b => match a, b with
   | .bool x, .bool y => ret (pe (.bool (cond t x y)))
   | x, y => j8 t (ret (pe x)) (ret (pe y))
 | _ => fail

def kP (C : Ctx) (s : AS) (t : TypeId) : Tr Ef :=
 match (C.ti t).k with
 | .other => fail
 | _ => force (C.ti t).zero fun z => bf s.sg.length fun n => bg (!z.dQ) (ret ⟨.ptr n 0, [], [], [.cells z.cells], []⟩)

def m8 (C : Ctx) (s : AS) (t : TypeId) (parts : Array (Nat × Operand)) : Tr Ef :=
 match (C.ti t).k with
 | .struct fs => bg (!(C.ti t).zero.dQ) (dg (ny (placeOf C fs) (fS C s parts.toList) (C.ti t).zero.cells) fun cs => ret (pe (.agg cs)))
 | .array _ e => match (C.ti e).k with
   | .other => fail
   | _ => bg (!(C.ti t).zero.dQ) (dg (ny (fun i => some (i * (C.ti e).size, (C.ti e).size)) (fS C s parts.toList) (C.ti t).zero.cells) fun cs => ret (pe (.agg cs)))
 | _ => fail

def ib (C : Ctx) (s : AS) (t : TypeId) (len : Nat) (parts : Array (Nat × Operand)) : Tr Ef :=
 match (C.ti t).k with
 | .slice e => match (C.ti e).k with
   | .other => fail
   | _ => bg (Nat.beq len parts.toList.length && Nat.blt 0 (C.ti e).size && Nat.ble (len * (C.ti e).size) 16777216)
     (dg (o8 (fS C s parts.toList) 0 (C.ti e).size) fun l => la l fun l => bf (C.ti e).size fun sz => ret (pe (.list true sz l)))
 | _ => fail

def nn (C : Ctx) (s : AS) (t : TypeId) (len : Nat) (parts : Array (Nat × Operand)) : Tr Ef :=
 eQ (ib C s t len parts) fun e => match e.v with
 | .list _ sz l => bf s.sg.length fun n => ret ⟨.buf n, [], [], [.buf sz 0 l], []⟩
 | _ => fail
def kb (C : Ctx) (s : AS) (dst : Option Nat) (t : TypeId) (len : Nat) (parts : Array (Nat × Operand)) : Tr Ef := match dst with
 | some d => cond (C.lits d) (nn C s t len parts) (ib C s t len parts)
 | none => ib C s t len parts

def kc (C : Ctx) (s : AS) (t : TypeId) (a : Operand) : Tr Ef :=
 match (C.ti t).k with
 | .other => fail
 | k => match s.ev C a with
   | .box cs off => eQ (gp k.isAgg (C.ti t).size cs off) fun v => force v fun v => ret (pe v)
   | .ptr i off => match ax s.sg i with
     | .cells cs => eQ (gp k.isAgg (C.ti t).size cs off) fun v => force v fun v => ret ⟨v, [], [], [], [i]⟩
     | _ => fail
   | .bptr i idx off => match ax s.sg i with
     | .buf _ _ l => lp l idx fun x => bg (!x.dQ) (eQ (gp k.isAgg (C.ti t).size x.cells off) fun v => force v fun v => ret ⟨v, [], [], [], [i]⟩)
     | _ => fail
   | _ => fail

def l7 (C : Ctx) (s : AS) (t : TypeId) (a x : Operand) : Tr Ef :=
  match (C.ti t).k with
  | .other => fail
  | _ => force (s.ev C x) fun x => bg (Nat.beq x.cells.length (C.ti t).size && !x.dQ && dI x.cells) (match s.ev C a with
    | .ptr i off => match ax s.sg i with
      | .cells cs => dg (jj cs off x.cells) fun cs' => ret ⟨.undef, [], [(i, .cells cs')], [], [i]⟩
      | _ => fail
    | .bptr i idx off => match ax s.sg i with
      | .buf sz pre l => lp l idx fun y => match y with
        | .agg cs => bg x.pure (dg (jj cs off x.cells) fun cs' => az (pre ≤ idx) (ret ⟨.undef, [], [(i, .buf sz pre (l.set idx (.agg cs')))], [], [i]⟩))
        | _ => fail
      | _ => fail
    | _ => fail)

def l6 (C : Ctx) (s : AS) (x : Operand) : Tr Ef :=
 match s.ev C x with
 | .ptr i a => ret (pe (.ptr i a))
 | .bptr i a b => ret (pe (.bptr i a b))
 | .box cs a => ret (pe (.box cs a))
 | .func (.func f) a b => ret (pe (.func (.func f) a b))
 | .iface t v => ret (pe (.iface t v))
 | _ => fail

def np (C : Ctx) (s : AS) (t : TypeId) (x : Operand) : Tr Ef :=
 match (C.ti t).k with
 | .other | .iface => fail
 | _ => force (s.ev C x) fun x => bg (!x.dQ) (ret (pe (.iface t x)))

def kZ (C : Ctx) (s : AS) (t : TypeId) (l c : Operand) : Tr Ef :=
 match (C.ti t).k, s.ev C l, s.ev C c with
 | .slice e, .int _ n, .int _ m => match (C.ti e).k with
   | .other => fail
   | _ => bg (Nat.ble (C.ti e).bytes 4096 && Nat.blt 0 (C.ti e).size && (C.ti e).zero.pure && dI (C.ti e).zero.cells && Nat.beq (C.ti e).zero.cells.length (C.ti e).size) (az (0 ≤ n ∧ n ≤ m ∧ m ≤ 4294967296)
     (bf s.sg.length fun i => bf (C.ti e).size fun sz => force (C.ti e).zero fun z => ret ⟨.buf i, [], [], [.buf sz 0 (List.replicate n.toNat z)], []⟩))
 | _, _, _ => fail

def me (C : Ctx) (s : AS) (t : TypeId) (x : Operand) (lo hi mx : Option Operand) : Tr Ef :=
  match (C.ti t).k, s.ev C x, mx with
  | .string, .str a, none => eQ (gO C s a.length lo hi) fun r => oW a r fun a => ret (pe (.str a))
  | .slice e, .list _ sz a, none => match (C.ti e).k with
    | .other => fail
    | _ => bg (jR sz (C.ti e).size a) (eQ (gO C s a.length lo hi) fun r => oW a r fun a => ret (pe (.list false sz a)))
  | .slice e, .buf i, none => match (C.ti e).k with
    | .other => fail
    | _ => match ax s.sg i, lo, hi with
      | .buf sz pre l, none, some h => match s.ev C h with
        | .int _ h => bg (Nat.beq sz (C.ti e).size) (az ((pre : Int) ≤ h ∧ h ≤ l.length) (ret ⟨.buf i, [i], [(i, .buf sz pre (l.take h.toNat))], [], [i]⟩))
        | _ => fail
      | _, _, _ => fail
  | .slice e, .buf i, some m => match (C.ti e).k with
    | .other => fail
    | _ => match ax s.sg i, lo, hi with
      | .buf sz _ l, none, some h => match s.ev C h, s.ev C m with
        | .int _ h, .int _ m => bg (Nat.beq sz (C.ti e).size) (az (h = l.length ∧ m = l.length) (ret ⟨.list true sz l, [i], [(i, .dead)], [], [i]⟩))
        | _, _ => fail
      | _, _, _ => fail
  | .array m e, .ptr i a, none => match (C.ti e).k with
    | .other => fail
    | k => match ax s.sg i with
      | .cells cs => bg (Nat.beq (C.ti e).size 1 && !k.isAgg && V.hH cs && dI cs && Nat.ble m 1048576) (dg (iV (iB cs a) m) fun l =>
       eQ (gO C s m lo hi) fun r => oW l r fun l => ret ⟨.list false 1 l, [i], [(i, .dead)], [], [i]⟩)
      | _ => fail
  | _, _, _ => fail

def kV (C : Ctx) (s : AS) (t : TypeId) (x : Operand) (f : Nat) : Tr Ef :=
 match (C.ti t).k with
 | .struct fs => dg (jA fs f) fun ft => match (C.ti ft.2).k with
   | .other => fail
   | _ => bg (Nat.blt 0 (C.ti ft.2).size) (match s.ev C x with
     | .ptr i a => bf (a + ft.1) fun a => ret (pe (.ptr i a))
     | .bptr i j a => bf (a + ft.1) fun a => ret (pe (.bptr i j a))
     | .box cs a => bf (a + ft.1) fun a => ret (pe (.box cs a))
     | _ => fail)
 | _ => fail

def kU (C : Ctx) (s : AS) (t : TypeId) (x : Operand) (f : Nat) : Tr Ef :=
 match (C.ti t).k, s.ev C x with
 | .struct fs, .agg cs => dg (jA fs f) fun ft => match (C.ti ft.2).k with
   | .other => fail
   | k => eQ (gp k.isAgg (C.ti ft.2).size cs ft.1) fun v => force v fun v => ret (pe v)
 | _, _ => fail

def mb (C : Ctx) (s : AS) (t : TypeId) (x ix : Operand) : Tr Ef :=
 match (C.ti t).k, s.ev C x, s.ev C ix with
 | .slice e, .list _ sz l, .int _ n => match (C.ti e).k with
   | .other => fail
   | _ => bg (Nat.beq sz (C.ti e).size) (az (0 ≤ n) (lp l n.toNat fun y => bg (!y.dQ) (ret (pe (.box y.cells 0)))))
 | .slice e, .buf i, .int _ n => match (C.ti e).k with
   | .other => fail
   | _ => match ax s.sg i with
     | .buf sz _ l => bg (Nat.beq sz (C.ti e).size) (az (0 ≤ n ∧ n < l.length) (ret ⟨.bptr i n.toNat 0, [], [], [], [i]⟩))
     | _ => fail
 | .array m e, .ptr i a, .int _ n => match (C.ti e).k with
   | .other => fail
   | _ => az (0 ≤ n ∧ n < m) (bf (C.ti e).size fun sz => ret (pe (.ptr i (a + n.toNat * sz))))
 | .array m e, .box cs a, .int _ n => match (C.ti e).k with
   | .other => fail
   | _ => az (0 ≤ n ∧ n < m) (bf (C.ti e).size fun sz => ret (pe (.box cs (a + n.toNat * sz))))
 | _, _, _ => fail

def nm (C : Ctx) (s : AS) (t : TypeId) (x ix : Operand) : Tr Ef :=
 match (C.ti t).k, s.ev C x, s.ev C ix with
 | .string, .str a, .int _ n => az (0 ≤ n) (lp a n.toNat fun b => ret (pe (.int .u8 b.toNat)))
 | .array m e, .agg cs, .int _ n => match (C.ti e).k with
   | .other => fail
   | k => az (0 ≤ n ∧ n < m) (eQ (gp k.isAgg (C.ti e).size cs (n.toNat * (C.ti e).size)) fun v => force v fun v => ret (pe v))
 | _, _, _ => fail

def ni (C : Ctx) (s : AS) (x : Operand) (t : TypeId) (ok : Bool) : Tr Ef :=
 match (C.ti t).k, s.ev C x with
 | .other, _ | .iface, _ => fail
 | _, .iface u v => match Nat.beq u t, ok with
   | true, true => ret (pe (.tuple [v, .bool true]))
   | true, false => ret (pe v)
   | false, true => force (C.ti t).zero fun z => bg (!z.dQ) (ret (pe (.tuple [z, .bool false])))
   | false, false => fail
 | _, .nilIface => match ok with
   | true => force (C.ti t).zero fun z => bg (!z.dQ) (ret (pe (.tuple [z, .bool false])))
   | false => fail
 | _, _ => fail

def nk (C : Ctx) (s : AS) (x : Operand) (i : Nat) : Tr Ef :=
 match s.ev C x with
 | .tuple vs => dg (iH vs i) fun v => force v fun v => ret (pe v)
 | _ => fail

def kW (C : Ctx) (s : AS) (t : TypeId) (x : Operand) : Tr Ef :=
 match (C.ti t).k, s.ev C x with
 | .string, .str a => bf s.sg.length fun n => ret ⟨.ptr n 0, [], [], [.siter a 0], []⟩
 | .map _ _, m => kX C s t m
 | _, _ => fail

def mc (C : Ctx) (s : AS) (x : Operand) (str : Bool) : Tr Ef :=
  match s.ev C x, str with
  | .ptr i 0, true => match ax s.sg i with
    | .siter a pos => j8 (decide (pos < a.length)) (dg a[pos]? fun b => az (b.toNat < 128) (ret ⟨.tuple [.bool true, .int .i64 pos, .int .i32 b.toNat], [], [(i, .siter a (pos + 1))], [], [i]⟩))
     (ret ⟨.tuple [.bool false], [], [], [], [i]⟩)
    | _ => fail
  | _, _ => fail

def m9 (C : Ctx) (s : AS) (c : Call) : Tr Ef :=
 match c.callee with
 | .builtin b => la (s.bo C c.args.toList) fun xs => jb C s b c.argTypes.toList xs
 | .value _ => dg (target C s c) fun p => cS (ec C s.sg p.1 p.2)
 | .invoke r m => match s.ev C r with
   | .iface t v => exT fun f => az (C.mt t m f) (cS (ec C s.sg f (v :: s.bo C c.args.toList)))
   | _ => fail

def bP (C : Ctx) (s : AS) (o : Oper) : Tr Ef :=
 match o.op with
 | .move x | .assign x => force (s.ev C x) fun x => ret (pe x)
 | .pick c a b => nr C s c a b
 | .alloc t => kP C s t
 | .box _ x => force (s.ev C x) fun x => bf s.sg.length fun n => bg (!x.dQ) (ret ⟨.ptr n 0, [], [], [.cells x.cells], []⟩)
 | .build t parts => m8 C s t parts
 | .buildSlice t len parts => kb C s o.dst t len parts
 | .load t a => kc C s t a
 | .store t a x => l7 C s t a x
 | .nilCheck x => l6 C s x
 | .binOp op t x y _ => eQ (nj C op t (s.ev C x) (s.ev C y)) fun v => ret (pe v)
 | .unOp op _ x => eQ (p6 op (s.ev C x)) fun v => ret (pe v)
 | .convert a b x => l5 C s a b (s.ev C x)
 | .makeInterface t x => np C s t x
 | .makeFunc fn a b => la (s.bo C a.toList) fun a => la (s.bo C b.toList) fun b => ret (pe (.func fn a b))
 | .makeSlice t l c => kZ C s t l c
 | .slice t x lo hi mx => me C s t x lo hi mx
 | .fieldAddr t x f => kV C s t x f
 | .field t x f => kU C s t x f
 | .indexAddr t x ix => mb C s t x ix
 | .index t x ix => nm C s t x ix
 | .typeAssert x _ t ok => ni C s x t ok
 | .extract x i => nk C s x i
 | .range t x => kW C s t x
 | .next x b => mc C s x b
 | .makeMap t none => kY C s t
 | .lookup t m x ok => iF C s t m x ok
 | .mapUpdate t m x y => l0 C s t m x y
 | .mapEntry t m x => jw C s t m x
 | .entryStore t m b y => kT C s t m b y
 | .entry x => ma C s x
 | .call c => m9 C s c
 | _ => fail

end Go.VG
