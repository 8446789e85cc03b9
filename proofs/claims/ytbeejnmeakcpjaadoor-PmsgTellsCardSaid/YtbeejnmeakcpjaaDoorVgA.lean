/-
  The values of a symbolic run, what they stand for in a world, and the relation between a symbolic state and a world.
-/
import Derived.WalkKit
import Derived.RangeFuncSeq
import Derived.RangeFuncLeaves
import Derived.TacticsIn
set_option linter.unusedSimpArgs false
set_option linter.unusedVariables false
namespace Go.VG
open Go

inductive V where
  | undef
  | int (k : IntKind) (n : Int)
  | bool (b : Bool)
  | str (s : List UInt8)
  | agg (cs : List V)
  | tuple (vs : List V)
  | list (clip : Bool) (sz : Nat) (l : List V)
  | nilptr
  | box (cs : List V) (off : Nat)
  | ptr (i off : Nat)
  | bptr (i idx off : Nat)
  | buf (i : Nat)
  | iface (t : TypeId) (v : V)
  | nilIface
  | func (fn : Fn) (first captured : List V)
  | nilFunc
  | map (i : Nat)
  | nilmap

instance : Inhabited V := ⟨.undef⟩

def V.cells : V → List V
  | .agg cs => cs
  | x => [x]

abbrev St := Nat → Nat → Option Value
structure Gh where
  blk : Option Nat
  base : Option Addr
  len : Nat
  cap : Nat
  sz : Nat
abbrev Ghost := Nat → Gh

mutual
def VR (st : St) (g : Ghost) : V → Nat → Value → Prop
  | .undef, _, _ => True
  | .int k m, _, v => v = .int k m ∧ k.min ≤ m ∧ m ≤ k.max
  | .bool b, _, v => v = .bool b
  | .str s, _, v => v = .string ⟨s.toArray⟩ ∧ s.length ≤ maxLen
  | .agg cs, n, v => ∃ vs, v = .agg vs ∧ VRs st g cs n vs.toList
  | .tuple cs, n, v => ∃ vs, v = .tuple vs ∧ VRs st g cs n vs.toList
  | .list clip sz l, _, v => ∃ base cap, v = .slice base l.length cap ∧ l.length ≤ cap ∧ l.length ≤ maxLen ∧ (clip = true → cap = l.length) ∧
      (l = [] ∨ ∃ b o, base = some ⟨b, o, none⟩ ∧ 0 < sz ∧ VRrow st g l sz (st b) o)
  | .nilptr, _, v => v = .pointer none
  | .box cs off, _, v => ∃ b o vs, v = .pointer (some ⟨b, o + off, none⟩) ∧ VRs st g cs 0 vs ∧ ∀ j, j < vs.length → st b (o + j) = vs[j]?
  | .ptr i off, n, v => i < n ∧ ∃ b, (g i).blk = some b ∧ v = .pointer (some ⟨b, off, none⟩)
  | .bptr i idx off, n, v => i < n ∧ ∃ b, (g i).blk = some b ∧ v = .pointer (some ⟨b, idx * (g i).sz + off, none⟩)
  | .buf i, n, v => i < n ∧ v = .slice (g i).base (g i).len (g i).cap
  | .iface t x, n, v => ∃ u, v = .iface t u ∧ VR st g x n u
  | .nilIface, _, v => v = .nilIface
  | .func fn fs cs, n, v => ∃ a b, v = .func fn a b ∧ VRs st g fs n a.toList ∧ VRs st g cs n b.toList
  | .nilFunc, _, v => v = .nilFunc
  | .map i, n, v => i < n ∧ ∃ b, (g i).blk = some b ∧ v = .map (some b)
  | .nilmap, _, v => v = .map none
def VRs (st : St) (g : Ghost) : List V → Nat → List Value → Prop
  | [], _, vs => vs = []
  | c :: cs, n, vs => ∃ u us, vs = u :: us ∧ VR st g c n u ∧ VRs st g cs n us
def VRrow (st : St) (g : Ghost) : List V → Nat → (Nat → Option Value) → Nat → Prop
  | [], _, _, _ => True
  | x :: xs, sz, look, o => (∃ u, VR st g x 0 u ∧ u.cells.size = sz ∧ (∀ v ∈ u.cells.toList, v.oneCell' = true) ∧ ∀ j, j < sz → look (o + j) = u.cells[j]?) ∧ VRrow st g xs sz look (o + sz)
end


theorem VRs_iff {st : St} {g : Ghost} {n : Nat} : ∀ {cs : List V} {vs : List Value}, VRs st g cs n vs ↔ cs.length = vs.length ∧ ∀ (i : Nat) (c : V) (v : Value), cs[i]? = some c → vs[i]? = some v → VR st g c n v
  | [], vs => by
    simp only [VRs]
    constructor
    · rintro rfl; simp
    · rintro ⟨h, _⟩; cases vs with
      | nil => rfl
      | cons a b => simp at h
  | c :: cs, vs => by
    simp only [VRs]
    constructor
    · rintro ⟨u, us, rfl, h1, h2⟩
      obtain ⟨hl, hh⟩ := VRs_iff.1 h2
      refine ⟨by simp [hl], ?_⟩
      intro i c' v h3 h4
      cases i with
      | zero => simp at h3 h4; subst h3; subst h4; exact h1
      | succ i => simp at h3 h4; exact hh i c' v h3 h4
    · rintro ⟨hl, hh⟩
      cases vs with
      | nil => simp at hl
      | cons u us =>
        refine ⟨u, us, rfl, hh 0 c u rfl rfl, VRs_iff.2 ⟨by simpa using hl, ?_⟩⟩
        intro i c' v h3 h4
        exact hh (i + 1) c' v (by simpa using h3) (by simpa using h4)

theorem VRs_length {st : St} {g : Ghost} {n : Nat} {cs : List V} {vs : List Value} (h : VRs st g cs n vs) : cs.length = vs.length := (VRs_iff.1 h).1

theorem VRs_get {st : St} {g : Ghost} {n : Nat} {cs : List V} {vs : List Value} (h : VRs st g cs n vs) {i : Nat} {c : V} (hc : cs[i]? = some c) :
    ∃ v, vs[i]? = some v ∧ VR st g c n v := by
  obtain ⟨hl, hh⟩ := VRs_iff.1 h
  have hi : i < cs.length := by
    rcases Nat.lt_or_ge i cs.length with h' | h'
    · exact h'
    · simp [List.getElem?_eq_none h'] at hc
  have hv : vs[i]? = some (vs[i]'(by omega)) := List.getElem?_eq_getElem (by omega)
  exact ⟨_, hv, hh i c _ hc hv⟩

theorem VRs_nil {st : St} {g : Ghost} {n : Nat} : VRs st g [] n [] := by simp [VRs]
theorem VRs_cons {st : St} {g : Ghost} {n : Nat} {c : V} {cs : List V} {v : Value} {vs : List Value} (h : VR st g c n v) (hs : VRs st g cs n vs) : VRs st g (c :: cs) n (v :: vs) := by
  simp only [VRs]; exact ⟨v, vs, rfl, h, hs⟩

theorem VRs_take {st : St} {g : Ghost} {n k : Nat} {cs : List V} {vs : List Value} (h : VRs st g cs n vs) : VRs st g (cs.take k) n (vs.take k) := by
  obtain ⟨hl, hh⟩ := VRs_iff.1 h
  refine VRs_iff.2 ⟨by simp [hl], fun i c v h1 h2 => ?_⟩
  rw [List.getElem?_take] at h1 h2
  split at h1
  · rename_i hlt; rw [if_pos hlt] at h2; exact hh i c v h1 h2
  · cases h1

theorem VRs_drop {st : St} {g : Ghost} {n k : Nat} {cs : List V} {vs : List Value} (h : VRs st g cs n vs) : VRs st g (cs.drop k) n (vs.drop k) := by
  obtain ⟨hl, hh⟩ := VRs_iff.1 h
  refine VRs_iff.2 ⟨by simp [hl], fun i c v h1 h2 => ?_⟩
  rw [List.getElem?_drop] at h1 h2
  exact hh _ c v h1 h2

theorem VRs_append {st : St} {g : Ghost} {n : Nat} {cs ds : List V} {vs us : List Value} (h : VRs st g cs n vs) (k : VRs st g ds n us) : VRs st g (cs ++ ds) n (vs ++ us) := by
  obtain ⟨hl, hh⟩ := VRs_iff.1 h
  obtain ⟨kl, kk⟩ := VRs_iff.1 k
  refine VRs_iff.2 ⟨by simp [hl, kl], fun i c v h1 h2 => ?_⟩
  rcases Nat.lt_or_ge i cs.length with hlt | hge
  · rw [List.getElem?_append_left hlt] at h1
    rw [List.getElem?_append_left (by omega)] at h2
    exact hh i c v h1 h2
  · rw [List.getElem?_append_right hge] at h1
    rw [List.getElem?_append_right (by omega), ← hl] at h2
    exact kk _ c v h1 h2

theorem VRrow_iff {st : St} {g : Ghost} {sz : Nat} {look : Nat → Option Value} : ∀ {l : List V} {o : Nat}, VRrow st g l sz look o ↔
    ∀ (i : Nat) (x : V), l[i]? = some x → ∃ u, VR st g x 0 u ∧ u.cells.size = sz ∧ (∀ v ∈ u.cells.toList, v.oneCell' = true) ∧ ∀ j, j < sz → look (o + i * sz + j) = u.cells[j]?
  | [], o => by simp [VRrow]
  | x :: xs, o => by
    simp only [VRrow]
    constructor
    · rintro ⟨h1, h2⟩ i y hy
      cases i with
      | zero => simp at hy; subst hy; simpa using h1
      | succ i =>
        simp at hy
        obtain ⟨u, a, b, d, c⟩ := VRrow_iff.1 h2 i y hy
        refine ⟨u, a, b, d, fun j hj => ?_⟩
        rw [← c j hj]
        congr 1
        rw [Nat.add_mul]; omega
    · intro h
      refine ⟨by simpa using h 0 x rfl, VRrow_iff.2 fun i y hy => ?_⟩
      obtain ⟨u, a, b, d, c⟩ := h (i + 1) y (by simpa using hy)
      refine ⟨u, a, b, d, fun j hj => ?_⟩
      rw [← c j hj]
      congr 1
      rw [Nat.add_mul]; omega

/-! ## names -/
mutual
def V.has (i : Nat) : V → Bool
  | .ptr j _ | .bptr j _ _ | .buf j | .map j => Nat.beq i j
  | .agg cs | .tuple cs => V.hasL i cs
  | .iface _ x => V.has i x
  | .func _ fs cs => V.hasL i fs || V.hasL i cs
  | _ => false
def V.hasL (i : Nat) : List V → Bool
  | [] => false
  | c :: cs => V.has i c || V.hasL i cs
end
mutual
/-- all names are below m -/
def V.isWs (m : Nat) : V → Bool
  | .ptr j _ | .bptr j _ _ | .buf j | .map j => Nat.blt j m
  | .agg cs | .tuple cs => V.scopedL m cs
  | .iface _ x => V.isWs m x
  | .func _ fs cs => V.scopedL m fs && V.scopedL m cs
  | _ => true
def V.scopedL (m : Nat) : List V → Bool
  | [] => true
  | c :: cs => V.isWs m c && V.scopedL m cs
end
def memN (i : Nat) : List Nat → Bool
  | [] => false
  | k :: ks => Nat.beq i k || memN i ks
mutual
def V.kill (ks : List Nat) : V → V
  | .ptr j o => cond (memN j ks) .undef (.ptr j o)
  | .bptr j a b => cond (memN j ks) .undef (.bptr j a b)
  | .buf j => cond (memN j ks) .undef (.buf j)
  | .map j => cond (memN j ks) .undef (.map j)
  | .agg cs => .agg (V.killL ks cs)
  | .tuple cs => .tuple (V.killL ks cs)
  | .iface t x => .iface t (V.kill ks x)
  | .func f fs cs => .func f (V.killL ks fs) (V.killL ks cs)
  | .undef => .undef | .int k n => .int k n | .bool b => .bool b | .str s => .str s | .list c z l => .list c z l
  | .nilptr => .nilptr | .box cs o => .box cs o | .nilIface => .nilIface | .nilFunc => .nilFunc | .nilmap => .nilmap
def V.killL (ks : List Nat) : List V → List V
  | [] => []
  | c :: cs => V.kill ks c :: V.killL ks cs
end

mutual
theorem has_lt {m : Nat} : ∀ {x : V} {i : Nat}, x.isWs m = true → x.has i = true → i < m
  | .ptr j _, i, h, k | .bptr j _ _, i, h, k | .buf j, i, h, k | .map j, i, h, k => by
    simp only [V.isWs, V.has] at h k
    have := Nat.eq_of_beq_eq_true k; subst this
    exact Nat.le_of_ble_eq_true h
  | .agg cs, i, h, k | .tuple cs, i, h, k => hasL_lt (by simpa [V.isWs] using h) (by simpa [V.has] using k)
  | .iface _ x, i, h, k => has_lt (by simpa [V.isWs] using h) (by simpa [V.has] using k)
  | .func _ fs cs, i, h, k => by
    simp only [V.isWs, V.has, Bool.and_eq_true, Bool.or_eq_true] at h k
    rcases k with k | k
    · exact hasL_lt h.1 k
    · exact hasL_lt h.2 k
  | .undef, _, _, k | .int .., _, _, k | .bool _, _, _, k | .str _, _, _, k | .list .., _, _, k | .nilptr, _, _, k | .box .., _, _, k | .nilIface, _, _, k | .nilFunc, _, _, k | .nilmap, _, _, k => by simp [V.has] at k
theorem hasL_lt {m : Nat} : ∀ {x : List V} {i : Nat}, V.scopedL m x = true → V.hasL i x = true → i < m
  | [], _, _, k => by simp [V.hasL] at k
  | c :: cs, i, h, k => by
    simp only [V.scopedL, V.hasL, Bool.and_eq_true, Bool.or_eq_true] at h k
    rcases k with k | k
    · exact has_lt h.1 k
    · exact hasL_lt h.2 k
end

mutual
theorem VR_map {st st' : St} {g g' : Ghost} (hst : ∀ b o v, st b o = some v → st' b o = some v) :
    ∀ {x : V} {n n' : Nat} {v : Value}, (∀ i, x.has i = true → i < n → i < n' ∧ g' i = g i) → VR st g x n v → VR st' g' x n' v
  | .undef, _, _, _, _, _ => by simp [VR]
  | .int .., _, _, _, _, h | .bool _, _, _, _, _, h | .str _, _, _, _, _, h | .nilptr, _, _, _, _, h | .nilIface, _, _, _, _, h | .nilFunc, _, _, _, _, h | .nilmap, _, _, _, _, h => by simpa [VR] using h
  | .agg cs, n, n', v, hn, h | .tuple cs, n, n', v, hn, h => by
    simp only [VR] at h ⊢
    obtain ⟨vs, rfl, h⟩ := h
    exact ⟨vs, rfl, VRs_map hst (fun i hi => hn i (by simpa [V.has] using hi)) h⟩
  | .list c sz l, n, n', v, hn, h => by
    simp only [VR] at h ⊢
    obtain ⟨base, cap, rfl, h1, h2, h3, h4⟩ := h
    refine ⟨base, cap, rfl, h1, h2, h3, ?_⟩
    rcases h4 with h4 | ⟨b, o, h5, h6, h7⟩
    · exact .inl h4
    · exact .inr ⟨b, o, h5, h6, VRrow_map hst (fun k v hk => hst b k v hk) h7⟩
  | .box cs off, n, n', v, hn, h => by
    simp only [VR] at h ⊢
    obtain ⟨b, o, vs, rfl, h1, h2⟩ := h
    refine ⟨b, o, vs, rfl, VRs_map hst (fun i _ hi => absurd hi (Nat.not_lt_zero _)) h1, fun j hj => ?_⟩
    have h3 := h2 j hj
    have h4 : vs[j]? = some (vs[j]'hj) := List.getElem?_eq_getElem hj
    rw [h4] at h3 ⊢
    exact hst _ _ _ h3
  | .ptr i off, n, n', v, hn, h => by
    simp only [VR] at h ⊢
    obtain ⟨hi, h⟩ := h
    obtain ⟨h1, h2⟩ := hn i (by simp [V.has]) hi
    exact ⟨h1, by rw [h2]; exact h⟩
  | .bptr i a off, n, n', v, hn, h => by
    simp only [VR] at h ⊢
    obtain ⟨hi, h⟩ := h
    obtain ⟨h1, h2⟩ := hn i (by simp [V.has]) hi
    exact ⟨h1, by rw [h2]; exact h⟩
  | .buf i, n, n', v, hn, h => by
    simp only [VR] at h ⊢
    obtain ⟨hi, h⟩ := h
    obtain ⟨h1, h2⟩ := hn i (by simp [V.has]) hi
    exact ⟨h1, by rw [h2]; exact h⟩
  | .map i, n, n', v, hn, h => by
    simp only [VR] at h ⊢
    obtain ⟨hi, h⟩ := h
    obtain ⟨h1, h2⟩ := hn i (by simp [V.has]) hi
    exact ⟨h1, by rw [h2]; exact h⟩
  | .iface t x, n, n', v, hn, h => by
    simp only [VR] at h ⊢
    obtain ⟨u, rfl, h⟩ := h
    exact ⟨u, rfl, VR_map hst (fun i hi => hn i (by simpa [V.has] using hi)) h⟩
  | .func f fs cs, n, n', v, hn, h => by
    simp only [VR] at h ⊢
    obtain ⟨a, b, rfl, h1, h2⟩ := h
    exact ⟨a, b, rfl, VRs_map hst (fun i hi => hn i (by simp [V.has, hi])) h1, VRs_map hst (fun i hi => hn i (by simp [V.has, hi])) h2⟩
theorem VRs_map {st st' : St} {g g' : Ghost} (hst : ∀ b o v, st b o = some v → st' b o = some v) :
    ∀ {x : List V} {n n' : Nat} {v : List Value}, (∀ i, V.hasL i x = true → i < n → i < n' ∧ g' i = g i) → VRs st g x n v → VRs st' g' x n' v
  | [], _, _, _, _, h => by simpa [VRs] using h
  | c :: cs, n, n', v, hn, h => by
    simp only [VRs] at h ⊢
    obtain ⟨u, us, rfl, h1, h2⟩ := h
    exact ⟨u, us, rfl, VR_map hst (fun i hi => hn i (by simp [V.hasL, hi])) h1, VRs_map hst (fun i hi => hn i (by simp [V.hasL, hi])) h2⟩
theorem VRrow_map {st st' : St} {g g' : Ghost} (hst : ∀ b o v, st b o = some v → st' b o = some v) :
    ∀ {x : List V} {sz o : Nat} {look look' : Nat → Option Value}, (∀ k v, look k = some v → look' k = some v) → VRrow st g x sz look o → VRrow st' g' x sz look' o
  | [], _, _, _, _, _, _ => by simp [VRrow]
  | c :: cs, sz, o, look, look', hl, h => by
    simp only [VRrow] at h ⊢
    obtain ⟨⟨u, h1, h2, hd, h3⟩, h4⟩ := h
    refine ⟨⟨u, VR_map hst (fun i _ hi => absurd hi (Nat.not_lt_zero _)) h1, h2, hd, fun j hj => ?_⟩, VRrow_map hst hl h4⟩
    have h5 := h3 j hj
    have h6 : u.cells[j]? = some (u.cells[j]'(by omega)) := Array.getElem?_eq_getElem (by omega)
    rw [h6] at h5 ⊢
    exact hl _ _ h5
end

mutual
theorem VR_kill {st : St} {g : Ghost} {ks : List Nat} : ∀ {x : V} {n : Nat} {v : Value}, VR st g x n v → VR st g (x.kill ks) n v
  | .undef, _, _, _ => by simp [VR, V.kill]
  | .int .., _, _, h | .bool _, _, _, h | .str _, _, _, h | .nilptr, _, _, h | .nilIface, _, _, h | .nilFunc, _, _, h | .nilmap, _, _, h | .list .., _, _, h | .box .., _, _, h => by simpa only [V.kill] using h
  | .ptr i _, _, _, h | .bptr i _ _, _, _, h | .buf i, _, _, h | .map i, _, _, h => by
    simp only [V.kill]
    cases memN i ks with
    | true => simp [VR]
    | false => exact h
  | .agg cs, n, v, h | .tuple cs, n, v, h => by
    simp only [VR, V.kill] at h ⊢
    obtain ⟨vs, rfl, h⟩ := h
    exact ⟨vs, rfl, VRs_kill h⟩
  | .iface t x, n, v, h => by
    simp only [VR, V.kill] at h ⊢
    obtain ⟨u, rfl, h⟩ := h
    exact ⟨u, rfl, VR_kill h⟩
  | .func f fs cs, n, v, h => by
    simp only [VR, V.kill] at h ⊢
    obtain ⟨a, b, rfl, h1, h2⟩ := h
    exact ⟨a, b, rfl, VRs_kill h1, VRs_kill h2⟩
theorem VRs_kill {st : St} {g : Ghost} {ks : List Nat} : ∀ {x : List V} {n : Nat} {v : List Value}, VRs st g x n v → VRs st g (V.killL ks x) n v
  | [], _, _, h => by simpa [VRs, V.killL] using h
  | c :: cs, n, v, h => by
    simp only [VRs, V.killL] at h ⊢
    obtain ⟨u, us, rfl, h1, h2⟩ := h
    exact ⟨u, us, rfl, VR_kill h1, VRs_kill h2⟩
end

mutual
theorem has_kill {ks : List Nat} : ∀ {x : V} {i : Nat}, (x.kill ks).has i = true → memN i ks = false ∧ x.has i = true
  | .undef, _, h | .int .., _, h | .bool _, _, h | .str _, _, h | .nilptr, _, h | .nilIface, _, h | .nilFunc, _, h | .nilmap, _, h | .list .., _, h | .box .., _, h => by simp [V.kill, V.has] at h
  | .ptr j _, i, h | .bptr j _ _, i, h | .buf j, i, h | .map j, i, h => by
    simp only [V.kill] at h
    cases hm : memN j ks with
    | true => rw [hm] at h; simp [V.has] at h
    | false =>
      rw [hm] at h
      simp only [cond_false, V.has] at h ⊢
      have := Nat.eq_of_beq_eq_true h; subst this
      exact ⟨hm, h⟩
  | .agg cs, i, h | .tuple cs, i, h => by
    simp only [V.kill, V.has] at h ⊢
    exact hasL_kill h
  | .iface t x, i, h => by
    simp only [V.kill, V.has] at h ⊢
    exact has_kill h
  | .func f fs cs, i, h => by
    simp only [V.kill, V.has, Bool.or_eq_true] at h ⊢
    rcases h with h | h
    · exact ⟨(hasL_kill h).1, .inl (hasL_kill h).2⟩
    · exact ⟨(hasL_kill h).1, .inr (hasL_kill h).2⟩
theorem hasL_kill {ks : List Nat} : ∀ {x : List V} {i : Nat}, V.hasL i (V.killL ks x) = true → memN i ks = false ∧ V.hasL i x = true
  | [], _, h => by simp [V.killL, V.hasL] at h
  | c :: cs, i, h => by
    simp only [V.killL, V.hasL, Bool.or_eq_true] at h ⊢
    rcases h with h | h
    · exact ⟨(has_kill h).1, .inl (has_kill h).2⟩
    · exact ⟨(hasL_kill h).1, .inr (hasL_kill h).2⟩
end

end Go.VG
