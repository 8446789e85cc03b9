/-
  A part of the proof.
-/
import Derived.Test.YtllncocibkgjkaaCU
import Derived.Test.YtllncocibkgjkaaUTFp
set_option linter.unusedSimpArgs false
set_option linter.unusedVariables false
set_option maxHeartbeats 4000000
namespace Go.Proofs.Ytllncocibkgjkaa
open Go Go.VG
set_option maxRecDepth 100000
def eS (b : UInt8) : Bool := decide ((48 ≤ b.toNat ∧ b.toNat ≤ 57) ∨ (97 ≤ b.toNat ∧ b.toNat ≤ 102))
def e9 (b : UInt8) : Nat := if 48 ≤ b.toNat ∧ b.toNat ≤ 57 then b.toNat - 48 else if 97 ≤ b.toNat ∧ b.toNat ≤ 102 then b.toNat - 87 else 0
def cP (b : UInt8) : UInt8 := if 65 ≤ b.toNat ∧ b.toNat ≤ 70 then byte (b.toNat + 32) else b
def Cu.dW (c : Cu) : Cu := if eS (cP c.aa) = true then c.byte else c.byte.fail 6
def Cu.j9 (c : Cu) : Nat := e9 (cP c.aa)
def da : Nat → Cu → Int → Cu × Int
 | 0, c, u => (c, u)
 | k + 1, c, u => if c.dW.c ≠ 0 then (c.dW, 0) else da k c.dW (16 * u + c.j9)
termination_by k => k
def Cu.four (c : Cu) : Cu × Int := da 4 c 0
def Cu.bT (c : Cu) (b : UInt8) : Cu := if c.aa.toNat = b.toNat then c.byte else c.byte.fail 6
def Cu.number (c : Cu) : Cu × Int :=
 if c.four.2 < 55296 ∨ 57344 ≤ c.four.2 then c.four
 else if 56320 ≤ c.four.2 then (c.four.1.fail 6, 0)
 else if ((c.four.1.bT 92).bT 117).four.2 < 56320 ∨ 57344 ≤ ((c.four.1.bT 92).bT 117).four.2 then (((c.four.1.bT 92).bT 117).four.1.fail 6, 0)
 else (((c.four.1.bT 92).bT 117).four.1, 65536 + (c.four.2 - 55296) * 1024 + (((c.four.1.bT 92).bT 117).four.2 - 56320))
def gF (b : UInt8) : Bool := decide (b.toNat = 34 ∨ b.toNat = 92 ∨ b.toNat = 47 ∨ b.toNat = 98 ∨ b.toNat = 102 ∨ b.toNat = 110 ∨ b.toNat = 114 ∨ b.toNat = 116)
def lV (b : UInt8) : Nat := if b.toNat = 34 ∨ b.toNat = 92 ∨ b.toNat = 47 then b.toNat else if b.toNat = 98 then 8 else if b.toNat = 102 then 12 else if b.toNat = 110 then 10 else if b.toNat = 114 then 13 else if b.toNat = 116 then 9 else 0
def Cu.d9 (c : Cu) : Cu := if c.aa.toNat = 117 then c.byte.number.1 else if gF c.aa = true then c.byte else c.byte.fail 6
def Cu.fi (c : Cu) : List UInt8 := if c.aa.toNat = 117 then (if c.byte.number.1.c = 0 then bI c.byte.number.2 else []) else if gF c.aa = true then [Go.VG.byte (lV c.aa)] else []
def bV (b : UInt8) : Nat := if b.toNat < 192 then 0 else if b.toNat < 224 then 1 else if b.toNat < 240 then 2 else 3
def cr : Nat → Cu → List UInt8 → Cu × List UInt8
 | 0, c, s => (c, s)
 | k + 1, c, s => if c.c = 0 ∧ c.p < c.e ∧ cont c.aa = true then cr k c.byte (s ++ [c.aa]) else (c, s)
termination_by k => k
def Cu.dK (c : Cu) (b : UInt8) : Cu := if 0 ≤ jm (cr (bV b) c [b]).2 then (cr (bV b) c [b]).1.fail 5 else (cr (bV b) c [b]).1
def Cu.fQ (c : Cu) (b : UInt8) : List UInt8 := if 0 ≤ jm (cr (bV b) c [b]).2 then [] else (cr (bV b) c [b]).2
theorem dx {c : Cu} (h : c.ok) : c.byte.ok := (jh h 1).1
theorem tq {c : Cu} (h : c.ok) : c.dW.ok := by
 unfold Cu.dW; split
 . exact dx h
 . exact (dV (dx h) 6).1
theorem xD : ∀ (k : Nat) (c : Cu) (u : Int), c.ok → (da k c u).1.ok
 | 0, _, _, h => by rw [da]; exact h
 | k + 1, c, u, h => by
   rw [da]; split
   . exact tq h
   . exact xD k _ _ (tq h)
theorem qV (b : UInt8) : e9 b < 16 := by        unfold e9; repeat' split
                                                all_goals omega
theorem xC : ∀ (k : Nat) (c : Cu) (u : Int) (m : Nat), 0 ≤ u → u < m → 0 < m → 0 ≤ (da k c u).2 ∧ (da k c u).2 < ((m * 16 ^ k : Nat) : Int)
 | 0, _, _, _, h1, h, _ => by rw [da]; simpa using ⟨h1, h⟩
 | k + 1, c, u, m, h1, h, h0 => by
   have hp : 0 < 16 ^ k := Nat.pow_pos (by decide)
   rw [da]; split
   . have : 0 < m * 16 ^ (k + 1) := Nat.mul_pos h0 (Nat.pow_pos (by decide))
     simp only; omega
   . have hv := qV (cP c.aa)
     have := xC k c.dW (16 * u + c.j9) (16 * m) (by omega) (by unfold Cu.j9; omega) (by omega)
     rw [Nat.pow_succ, ← Nat.mul_assoc, Nat.mul_right_comm, Nat.mul_comm m 16]; exact this
theorem qy {c : Cu} (h : c.ok) : c.four.1.ok := xD 4 c 0 h
theorem qx (c : Cu) : 0 ≤ c.four.2 ∧ c.four.2 < 65536 := by have := xC 4 c 0 1 (by decide) (by decide) (by decide); simpa [Cu.four] using this
theorem nn {c : Cu} (h : c.ok) (b : UInt8) : (c.bT b).ok := by
 unfold Cu.bT; split
 . exact dx h
 . exact (dV (dx h) 6).1
theorem zr {c : Cu} (h : c.ok) : c.number.1.ok := by
 have h1 := qy h
 have h2 := qy (nn (nn h1 92) 117)
 unfold Cu.number
 repeat' split
 . exact h1
 . exact (dV h1 6).1
 . exact (dV h2 6).1
 . exact h2
theorem Ga {c : Cu} (h : c.number.1.c = 0) : cT c.number.2 = true := by
 have h1 := qx c
 have h2 := qx ((c.four.1.bT 92).bT 117)
 rw [gL]
 have hf : ∀ x : Cu, (x.fail 6).c ≠ 0 := fun x => by
  unfold Cu.fail; split
  . simp
  . assumption
 unfold Cu.number at h ⊢
 repeat' split at h
 . rename_i q; rw [if_pos q]; omega
 . exact absurd h (hf _)
 . exact absurd h (hf _)
 . rename_i q1 q2 q3
   rw [if_neg q1, if_neg q2, if_neg q3]
   simp only; omega
theorem ly {c : Cu} (h : c.ok) : c.d9.ok := by
 unfold Cu.d9; repeat' split
 . exact zr (dx h)
 . exact dx h
 . exact (dV (dx h) 6).1
theorem zS : ∀ (k : Nat) (c : Cu) (s : List UInt8), c.ok → (cr k c s).1.ok
 | 0, _, _, h => by rw [cr]; exact h
 | k + 1, c, s, h => by
   rw [cr]; split
   . exact zS k _ _ (dx h)
   . exact h
theorem zR : ∀ (k : Nat) (c : Cu) (s : List UInt8), (cr k c s).2.length ≤ s.length + k
 | 0, _, _ => by simp [cr]
 | k + 1, c, s => by
   rw [cr]; split
   . have := zR k c.byte (s ++ [c.aa]); simp at this; omega
   . simp only; omega
theorem Ax (b : UInt8) : bV b ≤ 3 := by
 unfold bV; repeat' split
 all_goals omega
theorem lZ {c : Cu} (h : c.ok) (b : UInt8) : (c.dK b).ok := by
 have := zS (bV b) c [b] h
 unfold Cu.dK; split
 . exact (dV this 5).1
 . exact this
end Go.Proofs.Ytllncocibkgjkaa
namespace Go.Proofs.Ytllncocibkgjkaa
open Go Go.VG
set_option maxRecDepth 100000
theorem FY : ∀ i, i < 16 → e9 (ie.getD i 0) = i ∧ eS (ie.getD i 0) = true ∧ (ie.getD i 0).toNat < 128 := by decide
theorem G0 : ∀ n, n < 256 → eS (.ofNat n) = true → ie.getD (e9 (.ofNat n)) 0 = .ofNat n := by decide
theorem FZ {b : UInt8} (h : eS b = true) : ie.getD (e9 b) 0 = b := by
 have := G0 b.toNat b.toNat_lt
 rw [UInt8.ofNat_toNat] at this
 exact this h
theorem G1 {b : UInt8} (h : eS b = false) : e9 b = 0 := by
 unfold eS at h
 rw [decide_eq_false_iff_not] at h
 unfold e9
 rw [if_neg (by omega), if_neg (by omega)]
theorem DE (b : UInt8) (hp : True) : OK 127 ([bv b]) ([]) (.tuple [.int .i64 (e9 b), .bool (eS b)]) (none) := by
 refine az (C := cx []) (ax trivial) (fn := Try.f127) rfl rfl rfl rfl fun hw hs => ?_
 have hb : b.toNat < 256 := b.toNat_lt
 all_goals try conv => whnf
 all_goals try (refine af.mk ?_; try dsimp only)
 all_goals (try simp only [aO] at *)
 all_goals try refine stay ?_
 refine cg.mk Nat (fun i => i ≤ 16 ∧ ∀ j, j < i → ie.getD j 0 ≠ b) (fun i => ⟨16, [(0, .int .u8 b.toNat), (6, .ptr 0 0)], [.siter ie i], []⟩) (fun i => 16 - i) [] 0 ⟨by omega, by simp⟩ ?_ (fun i ⟨hi, hj⟩ _ _ => ?_)
 . refine Go.VG.Sub.mk rfl ?_ ?_ ?_ ?_ <;> (repeat' first | trivial)
 have hl : ie.length = 16 := rfl
 have hd : i < 16 → ie[i]? = some (ie.getD i 0) := fun h => by
  rw [List.getD_eq_getElem?_getD, List.getElem?_eq_getElem (by rw [hl]; exact h)]; rfl
 have hn := FY i
 repeat' ((conv => whnf); (apply ay <;> intro h))
 all_goals try conv => whnf
 all_goals try (refine af.mk ?_; try dsimp only)
 all_goals (try simp only [aO] at *)
 all_goals try refine stay ?_
 . rw [hd (by omega)]
   have hn := hn (by omega)
   generalize hx : ie.getD i 0 = x at *
   have hwb : IntKind.i32.wrap (b.toNat : Int) = b.toNat := by (simp (discharger := omega) only [wR]; omega)
   repeat' ((conv => whnf); first | apply al | (apply ay <;> intro h))
   all_goals try conv => whnf
   all_goals try (refine af.mk ?_; try dsimp only)
   all_goals (try rw [hwb] at *)
   all_goals (try simp only [aO] at *)
   all_goals first | refine stay ?_ | omega | skip
   . have : x = b := UInt8.toNat_inj.1 (by omega)
     subst this
     refine ah.mk [] ?_ <;> (repeat' first | trivial | apply ak | apply cw | apply eqC | apply eqH | apply jz)
     . rw [hn.1]
     . rw [hn.2.1]
   . refine ⟨[], i + 1, ⟨by omega, fun j hjj => ?_⟩, ?_, by omega⟩
     . by_cases e : j = i
       . subst e; rw [hx]; intro e; subst e; omega
       . exact hj j (by omega)
     . refine Go.VG.Sub.mk rfl ?_ ?_ ?_ ?_ <;> (repeat' first | trivial)
 . have hf : eS b = false := by
     cases h : eS b with
     | false => rfl
     | true =>
       exfalso
       refine hj (e9 b) ?_ (FZ h)
       have := qV b; omega
   refine ah.mk [] ?_ <;> (repeat' first | trivial | apply ak | apply cw | apply eqC | apply eqH | apply jz)
   . rw [G1 hf]; rfl
   . rw [hf]
def v9 : Sm := fun args σ => match args, σ with
 | [.int .u8 n_b], [] => some ((0 ≤ n_b ∧ n_b ≤ 255) ∧ (True), .tuple [.int .i64 (e9 (byte n_b)), .bool (eS (byte n_b))], none)
 | _, _ => none
theorem F5 : aI 127 v9 := by
 intro args sg pre x r he hp
 unfold v9 at he
 split at he <;> cases he
 . rw [eK (hp).1]; exact DE (hp := hp.2) ..
theorem D4 (c : Cu) (o : List V) (hp : c.ok) : OK 123 ([.ptr 0 0]) ([.cells [.ptr 1 0, .buf 2], .cells (eC c), .buf 1 0 o]) (.int .i32 c.j9) (some [.cells [.ptr 1 0, .buf 2], .cells (eC c.dW), .buf 1 0 o]) := by
 refine az (C := cx [(44, iw), (127, v9), (49, iU)]) (ax ⟨ja, F5, jF, trivial⟩) (fn := Try.f123) rfl rfl rfl rfl fun hw hs => ?_
 have hb : c.aa.toNat < 256 := c.aa.toNat_lt
 have e1 : 65 ≤ c.aa.toNat ∧ c.aa.toNat ≤ 70 → byte (IntKind.u8.wrap (c.aa.toNat + 32)) = cP c.aa := fun h => by
  unfold cP; rw [if_pos h, mh, show ((c.aa.toNat : Int) + 32) % 256 = c.aa.toNat + 32 by omega]
 have e2 : ¬ (65 ≤ c.aa.toNat ∧ c.aa.toNat ≤ 70) → byte c.aa.toNat = cP c.aa := fun h => by
  unfold cP; rw [if_neg h, cF]
 have hv := qV (cP c.aa)
 repeat' ((conv => whnf); first | apply al | apply bh | (apply ay <;> intro h))
 all_goals try conv => whnf
 all_goals try (refine af.mk ?_; try dsimp only)
 all_goals (try simp only [aO] at *)
 all_goals first | refine stay ?_ | trivial | (simp (discharger := omega) [-List.getD_eq_getElem?_getD, wR] <;> omega) | skip
 all_goals first
  | exact ⟨by omega, trivial⟩
  | (first | rw [e1 (by omega)] at * | rw [e2 (by omega)] at *)
 all_goals
  first
  | have hn : eS (cP c.aa) = true := decide_eq_true (by assumption)
  | have hn : eS (cP c.aa) = false := decide_eq_false (by assumption)
  unfold Cu.dW Cu.j9
  rw [hn]
  first | rw [if_pos rfl] | rw [if_neg Bool.false_ne_true]
  refine ah.mk [] ?_ <;> (repeat' first | trivial | apply ak | apply cw)
 all_goals (simp (discharger := omega) only [wR]; omega)
def uP : Sm := fun args σ => match args, σ with
 | [.ptr 0 0], [.cells [.ptr 1 0, .buf 2], .cells ([.str s_c, .int .i64 (.ofNat a_c), .int .i64 (.ofNat e_c), .int .i64 c_c]), .buf 1 0 o] => some (True ∧ ((Cu.mk s_c a_c e_c c_c).ok), .int .i32 (Cu.mk s_c a_c e_c c_c).j9, some [.cells [.ptr 1 0, .buf 2], .cells (eC (Cu.mk s_c a_c e_c c_c).dW), .buf 1 0 o])
 | _, _ => none
theorem ES : aI 123 uP := by
 intro args sg pre x r he hp
 unfold uP at he
 split at he <;> cases he
 . rw [bW (hp).1]; exact D4 (hp := hp.2) ..
theorem Gq (a b : Nat) (ha : a < 65536) (hb : b < 16) : ig .i32 (iP .i32 a 4) b = ((16 * a + b : Nat) : Int) := by
 have e : iP .i32 (a : Int) 4 = ((a * 2 ^ 4 : Nat) : Int) := by
  show IntKind.i32.wrap ((a : Int) * 2 ^ (min 4 32)) = _
  rw [mg, show ((2 : Int) ^ (min 4 32)) = 16 from rfl]; omega
 rw [e]
 show IntKind.i32.wrap ((BitVec.ofInt 32 ((a * 2 ^ 4 : Nat) : Int) ||| BitVec.ofInt 32 (b : Int)).toNat : Int) = _
 rw [BitVec.ofInt_natCast, BitVec.ofInt_natCast, BitVec.toNat_or, BitVec.toNat_ofNat, BitVec.toNat_ofNat, Nat.mod_eq_of_lt (by omega), Nat.mod_eq_of_lt (by omega), u0 a b 4 hb]
 rw [mg]; omega
theorem D3 (c : Cu) (o : List V) (hp : c.ok) : OK 108 ([.ptr 0 0]) ([.cells [.ptr 1 0, .buf 2], .cells (eC c), .buf 1 0 o]) (.int .i32 c.four.2) (some [.cells [.ptr 1 0, .buf 2], .cells (eC c.four.1), .buf 1 0 o]) := by
 refine az (C := cx [(123, uP), (21, iy)]) (ax ⟨ES, jb, trivial⟩) (fn := Try.f108) rfl rfl rfl rfl fun hw hs => ?_
 refine cg.mk (Nat × Cu × Nat) (fun | (k, d, u) => k ≤ 4 ∧ d.ok ∧ u < 16 ^ k ∧ da (4 - k) d (u : Int) = da 4 c 0)
  (fun | (k, d, u) => ⟨19, [(0, .ptr 0 0), (3, .int .i32 u), (4, .int .i64 k)], [.cells [.ptr 1 0, .buf 2], .cells (eC d), .buf 1 0 o], [2]⟩) (fun x => 4 - x.1) [] (0, c, 0) ⟨by omega, hp, by decide, rfl⟩ ?_ (fun ⟨k, d, u⟩ ⟨hk, hd, hu, he⟩ _ _ => ?_)
 . refine Go.VG.Sub.mk rfl ?_ ?_ ?_ ?_ <;> (repeat' first | trivial)
 have hv := qV (cP d.aa)
 have h16 : k < 4 → u < 4096 := fun h => by
  have : (16 : Nat) ^ k ≤ 16 ^ 3 := Nat.pow_le_pow_right (by decide) (by omega)
  omega
 repeat' ((conv => whnf); first | apply al | apply bh | (apply ay <;> intro h))
 all_goals try conv => whnf
 all_goals try (refine af.mk ?_; try dsimp only)
 all_goals (try simp only [aO] at *)
 all_goals first | refine stay ?_ | trivial | skip
 . rw [show 4 - k = (4 - k - 1) + 1 by omega, da, if_neg (by omega)] at he
   have hu' := h16 (by omega)
   refine ⟨[], (k + 1, d.dW, 16 * u + d.j9), ⟨by omega, tq hd, ?_, ?_⟩, ?_, by omega⟩
   . unfold Cu.j9
     show 16 * u + e9 (cP d.aa) < 16 ^ k * 16
     omega
   . rw [show 4 - (k + 1) = 4 - k - 1 by omega]; exact he
   . refine Go.VG.Sub.mk rfl ?_ ?_ ?_ ?_ <;> (repeat' first | trivial | apply ak | apply cw)
     . exact Gq _ _ (by omega) hv
     . (simp (discharger := omega) only [wR]; omega)
 . rw [show 4 - k = (4 - k - 1) + 1 by omega, da, if_pos (by omega)] at he
   unfold Cu.four
   rw [← he]
   refine ah.mk [] ?_ <;> (repeat' first | trivial)
 . rw [show 4 - k = 0 by omega, da] at he
   unfold Cu.four
   rw [← he]
   refine ah.mk [] ?_ <;> (repeat' first | trivial)
def uO : Sm := fun args σ => match args, σ with
 | [.ptr 0 0], [.cells [.ptr 1 0, .buf 2], .cells ([.str s_c, .int .i64 (.ofNat a_c), .int .i64 (.ofNat e_c), .int .i64 c_c]), .buf 1 0 o] => some (True ∧ ((Cu.mk s_c a_c e_c c_c).ok), .int .i32 (Cu.mk s_c a_c e_c c_c).four.2, some [.cells [.ptr 1 0, .buf 2], .cells (eC (Cu.mk s_c a_c e_c c_c).four.1), .buf 1 0 o])
 | _, _ => none
theorem ER : aI 108 uO := by
 intro args sg pre x r he hp
 unfold uO at he
 split at he <;> cases he
 . rw [bW (hp).1]; exact D3 (hp := hp.2) ..
theorem D5 (c : Cu) (o : List V) (b : UInt8) (hp : c.ok) : OK 109 ([.ptr 0 0, bv b]) ([.cells [.ptr 1 0, .buf 2], .cells (eC c), .buf 1 0 o]) (.tuple []) (some [.cells [.ptr 1 0, .buf 2], .cells (eC (c.bT b)), .buf 1 0 o]) := by
 refine az (C := cx [(44, iw), (49, iU)]) (ax ⟨ja, jF, trivial⟩) (fn := Try.f109) rfl rfl rfl rfl fun hw hs => ?_
 repeat' ((conv => whnf); first | apply al | apply bh | (apply ay <;> intro h))
 all_goals try conv => whnf
 all_goals try (refine af.mk ?_; try dsimp only)
 all_goals (try simp only [aO] at *)
 all_goals first | refine stay ?_ | trivial | skip
 all_goals
  unfold Cu.bT
  first | rw [if_pos (by omega)] | rw [if_neg (by omega)]
  refine ah.mk [] ?_ <;> (repeat' first | trivial)
def uQ : Sm := fun args σ => match args, σ with
 | [.ptr 0 0, .int .u8 n_b], [.cells [.ptr 1 0, .buf 2], .cells ([.str s_c, .int .i64 (.ofNat a_c), .int .i64 (.ofNat e_c), .int .i64 c_c]), .buf 1 0 o] => some ((0 ≤ n_b ∧ n_b ≤ 255) ∧ (True ∧ ((Cu.mk s_c a_c e_c c_c).ok)), .tuple [], some [.cells [.ptr 1 0, .buf 2], .cells (eC ((Cu.mk s_c a_c e_c c_c).bT (byte n_b))), .buf 1 0 o])
 | _, _ => none
theorem ET : aI 109 uQ := by
 intro args sg pre x r he hp
 unfold uQ at he
 split at he <;> cases he
 . rw [eK (hp).1]; rw [bW (hp.2).1]; exact D5 (hp := hp.2.2) ..
theorem D7 (b : UInt8) (hp : True) : OK 94 ([bv b]) ([]) (.tuple [.int .i32 (lV b), .bool (gF b)]) (none) := by
 refine az (C := cx []) (ax trivial) (fn := Try.f94) rfl rfl rfl rfl fun hw hs => ?_
 have hb : b.toNat < 256 := b.toNat_lt
 repeat' ((conv => whnf); (apply ay <;> intro h))
 all_goals try conv => whnf
 all_goals try (refine af.mk ?_; try dsimp only)
 all_goals try refine stay ?_
 all_goals
  unfold gF lV
  first | rw [decide_eq_true (by omega)] | rw [decide_eq_false (by omega)]
  repeat (first | rw [if_pos (by omega)] | rw [if_neg (by omega)])
  refine ah.mk [] ?_ <;> (repeat' first | trivial | apply ak | apply cw | apply eqH | apply jz)
 all_goals (simp (discharger := omega) only [wR]; omega)
def uS : Sm := fun args σ => match args, σ with
 | [.int .u8 n_b], [] => some ((0 ≤ n_b ∧ n_b ≤ 255) ∧ (True), .tuple [.int .i32 (lV (byte n_b)), .bool (gF (byte n_b))], none)
 | _, _ => none
theorem EV : aI 94 uS := by
 intro args sg pre x r he hp
 unfold uS at he
 split at he <;> cases he
 . rw [eK (hp).1]; exact D7 (hp := hp.2) ..
theorem Da (b : UInt8) (hp : True) : OK 95 ([bv b]) ([]) (.int .i64 (bV b)) (none) := by
 refine az (C := cx []) (ax trivial) (fn := Try.f95) rfl rfl rfl rfl fun hw hs => ?_
 repeat' ((conv => whnf); (apply ay <;> intro h))
 all_goals try conv => whnf
 all_goals try (refine af.mk ?_; try dsimp only)
 all_goals try refine stay ?_
 all_goals
  unfold bV
  repeat (first | rw [if_pos (by omega)] | rw [if_neg (by omega)])
  refine ah.mk [] ?_ <;> (repeat' first | trivial)
def uV : Sm := fun args σ => match args, σ with
 | [.int .u8 n_b], [] => some ((0 ≤ n_b ∧ n_b ≤ 255) ∧ (True), .int .i64 (bV (byte n_b)), none)
 | _, _ => none
theorem EY : aI 95 uV := by
 intro args sg pre x r he hp
 unfold uV at he
 split at he <;> cases he
 . rw [eK (hp).1]; exact Da (hp := hp.2) ..
theorem shl10 (a : Int) : iP .i32 a 10 = IntKind.i32.wrap (a * 1024) := rfl
theorem D6 (c : Cu) (o : List V) (hp : c.ok) : OK 92 ([.ptr 0 0]) ([.cells [.ptr 1 0, .buf 2], .cells (eC c), .buf 1 0 o]) (.int .i32 c.number.2) (some [.cells [.ptr 1 0, .buf 2], .cells (eC c.number.1), .buf 1 0 o]) := by
 refine az (C := cx [(108, uO), (109, uQ), (49, iU)]) (ax ⟨ER, ET, jF, trivial⟩) (fn := Try.f92) rfl rfl rfl rfl fun hw hs => ?_
 have h1 := qx c
 have h2 := qx ((c.four.1.bT 92).bT 117)
 have k1 := qy hp
 have k2 := nn k1 92
 have k3 := nn k2 117
 repeat' ((conv => whnf); first | apply al | (apply ay <;> intro h))
 all_goals try conv => whnf
 all_goals try (refine af.mk ?_; try dsimp only)
 all_goals (try simp only [aO] at *)
 all_goals first | refine stay ?_ | trivial | skip
 all_goals (try simp only [show byte 92 = (92 : UInt8) from rfl, show byte 117 = (117 : UInt8) from rfl, shl10] at *)
 all_goals
  unfold Cu.number
  repeat (first | rw [if_pos (by omega)] | rw [if_neg (by omega)])
  refine ah.mk [] ?_ <;> (repeat' first | trivial | apply ak | apply cw)
 simp only [mg]; omega
def uR : Sm := fun args σ => match args, σ with
 | [.ptr 0 0], [.cells [.ptr 1 0, .buf 2], .cells ([.str s_c, .int .i64 (.ofNat a_c), .int .i64 (.ofNat e_c), .int .i64 c_c]), .buf 1 0 o] => some (True ∧ ((Cu.mk s_c a_c e_c c_c).ok), .int .i32 (Cu.mk s_c a_c e_c c_c).number.2, some [.cells [.ptr 1 0, .buf 2], .cells (eC (Cu.mk s_c a_c e_c c_c).number.1), .buf 1 0 o])
 | _, _ => none
theorem EU : aI 92 uR := by
 intro args sg pre x r he hp
 unfold uR at he
 split at he <;> cases he
 . rw [bW (hp).1]; exact D6 (hp := hp.2) ..
end Go.Proofs.Ytllncocibkgjkaa
