/-
  A part of the proof.
-/
import Derived.Test.YtllncocibkgjkaaGreatCU
import Derived.Test.YtllncocibkgjkaaGreatUTFp
set_option linter.unusedSimpArgs false
set_option linter.unusedVariables false
set_option maxHeartbeats 4000000
namespace Go.Proofs.YtllncocibkgjkaaGreat
open Go Go.VG
set_option maxRecDepth 100000
def ew (b : UInt8) : Bool := decide ((48 ≤ b.toNat ∧ b.toNat ≤ 57) ∨ (97 ≤ b.toNat ∧ b.toNat ≤ 102))
def dq (b : UInt8) : Nat := if 48 ≤ b.toNat ∧ b.toNat ≤ 57 then b.toNat - 48 else if 97 ≤ b.toNat ∧ b.toNat ≤ 102 then b.toNat - 87 else 0
def cf (b : UInt8) : UInt8 := if 65 ≤ b.toNat ∧ b.toNat ≤ 70 then byte (b.toNat + 32) else b
def Cu.eY (c : Cu) : Cu := if ew (cf c.ah) = true then c.byte else c.byte.fail 6
def Cu.jU (c : Cu) : Nat := dq (cf c.ah)
def dH : Nat → Cu → Int → Cu × Int
 | 0, c, u => (c, u)
 | k + 1, c, u => if c.eY.c ≠ 0 then (c.eY, 0) else dH k c.eY (16 * u + c.jU)
termination_by k => k
def Cu.four (c : Cu) : Cu × Int := dH 4 c 0
def Cu.cv (c : Cu) (b : UInt8) : Cu := if c.ah.toNat = b.toNat then c.byte else c.byte.fail 6
def Cu.number (c : Cu) : Cu × Int :=
 if c.four.2 < 55296 ∨ 57344 ≤ c.four.2 then c.four
 else if 56320 ≤ c.four.2 then (c.four.1.fail 6, 0)
 else if ((c.four.1.cv 92).cv 117).four.2 < 56320 ∨ 57344 ≤ ((c.four.1.cv 92).cv 117).four.2 then (((c.four.1.cv 92).cv 117).four.1.fail 6, 0)
 else (((c.four.1.cv 92).cv 117).four.1, 65536 + (c.four.2 - 55296) * 1024 + (((c.four.1.cv 92).cv 117).four.2 - 56320))
def dW (b : UInt8) : Bool := decide (b.toNat = 34 ∨ b.toNat = 92 ∨ b.toNat = 47 ∨ b.toNat = 98 ∨ b.toNat = 102 ∨ b.toNat = 110 ∨ b.toNat = 114 ∨ b.toNat = 116)
def kb (b : UInt8) : Nat := if b.toNat = 34 ∨ b.toNat = 92 ∨ b.toNat = 47 then b.toNat else if b.toNat = 98 then 8 else if b.toNat = 102 then 12 else if b.toNat = 110 then 10 else if b.toNat = 114 then 13 else if b.toNat = 116 then 9 else 0
def Cu.dE (c : Cu) : Cu := if c.ah.toNat = 117 then c.byte.number.1 else if dW c.ah = true then c.byte else c.byte.fail 6
def Cu.fW (c : Cu) : List UInt8 := if c.ah.toNat = 117 then (if c.byte.number.1.c = 0 then aZ c.byte.number.2 else []) else if dW c.ah = true then [Go.VG.byte (kb c.ah)] else []
def cB (b : UInt8) : Nat := if b.toNat < 192 then 0 else if b.toNat < 224 then 1 else if b.toNat < 240 then 2 else 3
def cQ : Nat → Cu → List UInt8 → Cu × List UInt8
 | 0, c, s => (c, s)
 | k + 1, c, s => if c.c = 0 ∧ c.p < c.e ∧ cont c.ah = true then cQ k c.byte (s ++ [c.ah]) else (c, s)
termination_by k => k
def Cu.eI (c : Cu) (b : UInt8) : Cu := if 0 ≤ kj (cQ (cB b) c [b]).2 then (cQ (cB b) c [b]).1.fail 5 else (cQ (cB b) c [b]).1
def Cu.gK (c : Cu) (b : UInt8) : List UInt8 := if 0 ≤ kj (cQ (cB b) c [b]).2 then [] else (cQ (cB b) c [b]).2
theorem ec {c : Cu} (h : c.ok) : c.byte.ok := (ka h 1).1
theorem uL {c : Cu} (h : c.ok) : c.eY.ok := by
 unfold Cu.eY; split
 . exact ec h
 . exact (eV (ec h) 6).1
theorem zq : ∀ (k : Nat) (c : Cu) (u : Int), c.ok → (dH k c u).1.ok
 | 0, _, _, h => by rw [dH]; exact h
 | k + 1, c, u, h => by
   rw [dH]; split
   . exact uL h
   . exact zq k _ _ (uL h)
theorem ow (b : UInt8) : dq b < 16 := by        unfold dq; repeat' split
                                                all_goals omega
theorem zp : ∀ (k : Nat) (c : Cu) (u : Int) (m : Nat), 0 ≤ u → u < m → 0 < m → 0 ≤ (dH k c u).2 ∧ (dH k c u).2 < ((m * 16 ^ k : Nat) : Int)
 | 0, _, _, _, h1, h, _ => by rw [dH]; simpa using ⟨h1, h⟩
 | k + 1, c, u, m, h1, h, h0 => by
   have hp : 0 < 16 ^ k := Nat.pow_pos (by decide)
   rw [dH]; split
   . have : 0 < m * 16 ^ (k + 1) := Nat.mul_pos h0 (Nat.pow_pos (by decide))
     simp only; omega
   . have hv := ow (cf c.ah)
     have := zp k c.eY (16 * u + c.jU) (16 * m) (by omega) (by unfold Cu.jU; omega) (by omega)
     rw [Nat.pow_succ, ← Nat.mul_assoc, Nat.mul_right_comm, Nat.mul_comm m 16]; exact this
theorem rA {c : Cu} (h : c.ok) : c.four.1.ok := zq 4 c 0 h
theorem rz (c : Cu) : 0 ≤ c.four.2 ∧ c.four.2 < 65536 := by have := zp 4 c 0 1 (by decide) (by decide) (by decide); simpa [Cu.four] using this
theorem oh {c : Cu} (h : c.ok) (b : UInt8) : (c.cv b).ok := by
 unfold Cu.cv; split
 . exact ec h
 . exact (eV (ec h) 6).1
theorem Bl {c : Cu} (h : c.ok) : c.number.1.ok := by
 have h1 := rA h
 have h2 := rA (oh (oh h1 92) 117)
 unfold Cu.number
 repeat' split
 . exact h1
 . exact (eV h1 6).1
 . exact (eV h2 6).1
 . exact h2
theorem Je {c : Cu} (h : c.number.1.c = 0) : cF c.number.2 = true := by
 have h1 := rz c
 have h2 := rz ((c.four.1.cv 92).cv 117)
 rw [gQ]
 have hf : ∀ x : Cu, (x.fail 6).c ≠ 0 := fun x => by
  unfold Cu.fail; split
  . simp
  . assumption
 unfold Cu.number at h ⊢
 repeat' split at h
 . rename_i q; rw [if_pos q]; omega
 . exact absurd h (hf _)
 . exact absurd h (hf _)
 . rename_i q1 q2 q3
   rw [if_neg q1, if_neg q2, if_neg q3]
   simp only; omega
theorem my {c : Cu} (h : c.ok) : c.dE.ok := by
 unfold Cu.dE; repeat' split
 . exact Bl (ec h)
 . exact ec h
 . exact (eV (ec h) 6).1
theorem BN : ∀ (k : Nat) (c : Cu) (s : List UInt8), c.ok → (cQ k c s).1.ok
 | 0, _, _, h => by rw [cQ]; exact h
 | k + 1, c, s, h => by
   rw [cQ]; split
   . exact BN k _ _ (ec h)
   . exact h
theorem BM : ∀ (k : Nat) (c : Cu) (s : List UInt8), (cQ k c s).2.length ≤ s.length + k
 | 0, _, _ => by simp [cQ]
 | k + 1, c, s => by
   rw [cQ]; split
   . have := BM k c.byte (s ++ [c.ah]); simp at this; omega
   . simp only; omega
theorem Ct (b : UInt8) : cB b ≤ 3 := by
 unfold cB; repeat' split
 all_goals omega
theorem mZ {c : Cu} (h : c.ok) (b : UInt8) : (c.eI b).ok := by
 have := BN (cB b) c [b] h
 unfold Cu.eI; split
 . exact (eV this 5).1
 . exact this
end Go.Proofs.YtllncocibkgjkaaGreat
namespace Go.Proofs.YtllncocibkgjkaaGreat
open Go Go.VG
set_option maxRecDepth 100000
theorem J6 : ∀ i, i < 16 → dq (j5.getD i 0) = i ∧ ew (j5.getD i 0) = true ∧ (j5.getD i 0).toNat < 128 := by decide
theorem J8 : ∀ n, n < 256 → ew (.ofNat n) = true → j5.getD (dq (.ofNat n)) 0 = .ofNat n := by decide
theorem J7 {b : UInt8} (h : ew b = true) : j5.getD (dq b) 0 = b := by
 have := J8 b.toNat b.toNat_lt
 rw [UInt8.ofNat_toNat] at this
 exact this h
theorem J9 {b : UInt8} (h : ew b = false) : dq b = 0 := by
 unfold ew at h
 rw [decide_eq_false_iff_not] at h
 unfold dq
 rw [if_neg (by omega), if_neg (by omega)]
theorem FJ (b : UInt8) (hp : True) : OK 151 ([bv b]) ([]) (.tuple [.int .i64 (dq b), .bool (ew b)]) (none) := by
 refine aq (C := cx []) (ar trivial) (fn := Tryz.f151) rfl rfl rfl rfl fun hw hs => ?_
 have hb : b.toNat < 256 := b.toNat_lt
 all_goals try conv => whnf
 all_goals try (refine ab.mk ?_; try dsimp only)
 all_goals (try simp only [aP] at *)
 all_goals try refine stay ?_
 refine bn.mk Nat (fun i => i ≤ 16 ∧ ∀ j, j < i → j5.getD j 0 ≠ b) (fun i => ⟨16, [(0, .int .u8 b.toNat), (6, .ptr 0 0)], [.siter j5 i], []⟩) (fun i => 16 - i) [] 0 ⟨by omega, by simp⟩ ?_ (fun i ⟨hi, hj⟩ _ _ => ?_)
 . refine Go.VG.Sub.mk rfl ?_ ?_ ?_ ?_ <;> (repeat' first | trivial)
 have hl : j5.length = 16 := rfl
 have hd : i < 16 → j5[i]? = some (j5.getD i 0) := fun h => by
  rw [List.getD_eq_getElem?_getD, List.getElem?_eq_getElem (by rw [hl]; exact h)]; rfl
 have hn := J6 i
 repeat' ((conv => whnf); (apply al <;> intro h))
 all_goals try conv => whnf
 all_goals try (refine ab.mk ?_; try dsimp only)
 all_goals (try simp only [aP] at *)
 all_goals try refine stay ?_
 . rw [hd (by omega)]
   have hn := hn (by omega)
   generalize hx : j5.getD i 0 = x at *
   have hwb : IntKind.i32.wrap (b.toNat : Int) = b.toNat := by (simp (discharger := omega) only [wR]; omega)
   repeat' ((conv => whnf); first | apply ak | (apply al <;> intro h))
   all_goals try conv => whnf
   all_goals try (refine ab.mk ?_; try dsimp only)
   all_goals (try rw [hwb] at *)
   all_goals (try simp only [aP] at *)
   all_goals first | refine stay ?_ | omega | skip
   . have : x = b := UInt8.toNat_inj.1 (by omega)
     subst this
     refine a8.mk [] ?_ <;> (repeat' first | trivial | apply aj | apply aR | apply ky | apply jr | apply dm)
     . rw [hn.1]
     . rw [hn.2.1]
   . refine ⟨[], i + 1, ⟨by omega, fun j hjj => ?_⟩, ?_, by omega⟩
     . by_cases e : j = i
       . subst e; rw [hx]; intro e; subst e; omega
       . exact hj j (by omega)
     . refine Go.VG.Sub.mk rfl ?_ ?_ ?_ ?_ <;> (repeat' first | trivial)
 . have hf : ew b = false := by
     cases h : ew b with
     | false => rfl
     | true =>
       exfalso
       refine hj (dq b) ?_ (J7 h)
       have := ow b; omega
   refine a8.mk [] ?_ <;> (repeat' first | trivial | apply aj | apply aR | apply ky | apply jr | apply dm)
   . rw [J9 hf]; rfl
   . rw [hf]
def wS : Sm := fun args σ => match args, σ with
 | [.int .u8 n_b], [] => some ((0 ≤ n_b ∧ n_b ≤ 255) ∧ (True), .tuple [.int .i64 (dq (byte n_b)), .bool (ew (byte n_b))], none)
 | _, _ => none
theorem HQ : ay 151 wS := by
 intro args sg pre x r he hp
 unfold wS at he
 split at he <;> cases he
 . rw [dw (hp).1]; exact FJ (hp := hp.2) ..
theorem F8 (c : Cu) (o : List V) (hp : c.ok) : OK 148 ([.ptr 0 0]) ([.cells [.ptr 1 0, .buf 2], .cells (eC c), .buf 1 0 o]) (.int .i32 c.jU) (some [.cells [.ptr 1 0, .buf 2], .cells (eC c.eY), .buf 1 0 o]) := by
 refine aq (C := cx [(98, jd), (151, wS), (104, jE)]) (ar ⟨jV, HQ, kH, trivial⟩) (fn := Tryz.f148) rfl rfl rfl rfl fun hw hs => ?_
 have hb : c.ah.toNat < 256 := c.ah.toNat_lt
 have e1 : 65 ≤ c.ah.toNat ∧ c.ah.toNat ≤ 70 → byte (IntKind.u8.wrap (c.ah.toNat + 32)) = cf c.ah := fun h => by
  unfold cf; rw [if_pos h, ko, show ((c.ah.toNat : Int) + 32) % 256 = c.ah.toNat + 32 by omega]
 have e2 : ¬ (65 ≤ c.ah.toNat ∧ c.ah.toNat ≤ 70) → byte c.ah.toNat = cf c.ah := fun h => by
  unfold cf; rw [if_neg h, c5]
 have hv := ow (cf c.ah)
 repeat' ((conv => whnf); first | apply ak | apply aV | (apply al <;> intro h))
 all_goals try conv => whnf
 all_goals try (refine ab.mk ?_; try dsimp only)
 all_goals (try simp only [aP] at *)
 all_goals first | refine stay ?_ | trivial | (simp (discharger := omega) [-List.getD_eq_getElem?_getD, wR] <;> omega) | skip
 all_goals first
  | exact ⟨by omega, trivial⟩
  | (first | rw [e1 (by omega)] at * | rw [e2 (by omega)] at *)
 all_goals
  first
  | have hn : ew (cf c.ah) = true := decide_eq_true (by assumption)
  | have hn : ew (cf c.ah) = false := decide_eq_false (by assumption)
  unfold Cu.eY Cu.jU
  rw [hn]
  first | rw [if_pos rfl] | rw [if_neg Bool.false_ne_true]
  refine a8.mk [] ?_ <;> (repeat' first | trivial | apply aj | apply aR)
 all_goals (simp (discharger := omega) only [wR]; omega)
def wz : Sm := fun args σ => match args, σ with
 | [.ptr 0 0], [.cells [.ptr 1 0, .buf 2], .cells ([.str s_c, .int .i64 (.ofNat a_c), .int .i64 (.ofNat e_c), .int .i64 c_c]), .buf 1 0 o] => some (True ∧ ((Cu.mk s_c a_c e_c c_c).ok), .int .i32 (Cu.mk s_c a_c e_c c_c).jU, some [.cells [.ptr 1 0, .buf 2], .cells (eC (Cu.mk s_c a_c e_c c_c).eY), .buf 1 0 o])
 | _, _ => none
theorem Hz : ay 148 wz := by
 intro args sg pre x r he hp
 unfold wz at he
 split at he <;> cases he
 . rw [bZ (hp).1]; exact F8 (hp := hp.2) ..
theorem Jq (a b : Nat) (ha : a < 65536) (hb : b < 16) : j6 .i32 (jx .i32 a 4) b = ((16 * a + b : Nat) : Int) := by
 have e : jx .i32 (a : Int) 4 = ((a * 2 ^ 4 : Nat) : Int) := by
  show IntKind.i32.wrap ((a : Int) * 2 ^ (min 4 32)) = _
  rw [kn, show ((2 : Int) ^ (min 4 32)) = 16 from rfl]; omega
 rw [e]
 show IntKind.i32.wrap ((BitVec.ofInt 32 ((a * 2 ^ 4 : Nat) : Int) ||| BitVec.ofInt 32 (b : Int)).toNat : Int) = _
 rw [BitVec.ofInt_natCast, BitVec.ofInt_natCast, BitVec.toNat_or, BitVec.toNat_ofNat, BitVec.toNat_ofNat, Nat.mod_eq_of_lt (by omega), Nat.mod_eq_of_lt (by omega), vu a b 4 hb]
 rw [kn]; omega
theorem F7 (c : Cu) (o : List V) (hp : c.ok) : OK 142 ([.ptr 0 0]) ([.cells [.ptr 1 0, .buf 2], .cells (eC c), .buf 1 0 o]) (.int .i32 c.four.2) (some [.cells [.ptr 1 0, .buf 2], .cells (eC c.four.1), .buf 1 0 o]) := by
 refine aq (C := cx [(148, wz), (73, jD)]) (ar ⟨Hz, kG, trivial⟩) (fn := Tryz.f142) rfl rfl rfl rfl fun hw hs => ?_
 refine bn.mk (Nat × Cu × Nat) (fun | (k, d, u) => k ≤ 4 ∧ d.ok ∧ u < 16 ^ k ∧ dH (4 - k) d (u : Int) = dH 4 c 0)
  (fun | (k, d, u) => ⟨19, [(0, .ptr 0 0), (3, .int .i32 u), (4, .int .i64 k)], [.cells [.ptr 1 0, .buf 2], .cells (eC d), .buf 1 0 o], [2]⟩) (fun x => 4 - x.1) [] (0, c, 0) ⟨by omega, hp, by decide, rfl⟩ ?_ (fun ⟨k, d, u⟩ ⟨hk, hd, hu, he⟩ _ _ => ?_)
 . refine Go.VG.Sub.mk rfl ?_ ?_ ?_ ?_ <;> (repeat' first | trivial)
 have hv := ow (cf d.ah)
 have h16 : k < 4 → u < 4096 := fun h => by
  have : (16 : Nat) ^ k ≤ 16 ^ 3 := Nat.pow_le_pow_right (by decide) (by omega)
  omega
 repeat' ((conv => whnf); first | apply ak | apply aV | (apply al <;> intro h))
 all_goals try conv => whnf
 all_goals try (refine ab.mk ?_; try dsimp only)
 all_goals (try simp only [aP] at *)
 all_goals first | refine stay ?_ | trivial | skip
 . rw [show 4 - k = (4 - k - 1) + 1 by omega, dH, if_neg (by omega)] at he
   have hu' := h16 (by omega)
   refine ⟨[], (k + 1, d.eY, 16 * u + d.jU), ⟨by omega, uL hd, ?_, ?_⟩, ?_, by omega⟩
   . unfold Cu.jU
     show 16 * u + dq (cf d.ah) < 16 ^ k * 16
     omega
   . rw [show 4 - (k + 1) = 4 - k - 1 by omega]; exact he
   . refine Go.VG.Sub.mk rfl ?_ ?_ ?_ ?_ <;> (repeat' first | trivial | apply aj | apply aR)
     . exact Jq _ _ (by omega) hv
     . (simp (discharger := omega) only [wR]; omega)
 . rw [show 4 - k = (4 - k - 1) + 1 by omega, dH, if_pos (by omega)] at he
   unfold Cu.four
   rw [← he]
   refine a8.mk [] ?_ <;> (repeat' first | trivial)
 . rw [show 4 - k = 0 by omega, dH] at he
   unfold Cu.four
   rw [← he]
   refine a8.mk [] ?_ <;> (repeat' first | trivial)
def wy : Sm := fun args σ => match args, σ with
 | [.ptr 0 0], [.cells [.ptr 1 0, .buf 2], .cells ([.str s_c, .int .i64 (.ofNat a_c), .int .i64 (.ofNat e_c), .int .i64 c_c]), .buf 1 0 o] => some (True ∧ ((Cu.mk s_c a_c e_c c_c).ok), .int .i32 (Cu.mk s_c a_c e_c c_c).four.2, some [.cells [.ptr 1 0, .buf 2], .cells (eC (Cu.mk s_c a_c e_c c_c).four.1), .buf 1 0 o])
 | _, _ => none
theorem Hy : ay 142 wy := by
 intro args sg pre x r he hp
 unfold wy at he
 split at he <;> cases he
 . rw [bZ (hp).1]; exact F7 (hp := hp.2) ..
theorem F9 (c : Cu) (o : List V) (b : UInt8) (hp : c.ok) : OK 143 ([.ptr 0 0, bv b]) ([.cells [.ptr 1 0, .buf 2], .cells (eC c), .buf 1 0 o]) (.tuple []) (some [.cells [.ptr 1 0, .buf 2], .cells (eC (c.cv b)), .buf 1 0 o]) := by
 refine aq (C := cx [(98, jd), (104, jE)]) (ar ⟨jV, kH, trivial⟩) (fn := Tryz.f143) rfl rfl rfl rfl fun hw hs => ?_
 repeat' ((conv => whnf); first | apply ak | apply aV | (apply al <;> intro h))
 all_goals try conv => whnf
 all_goals try (refine ab.mk ?_; try dsimp only)
 all_goals (try simp only [aP] at *)
 all_goals first | refine stay ?_ | trivial | skip
 all_goals
  unfold Cu.cv
  first | rw [if_pos (by omega)] | rw [if_neg (by omega)]
  refine a8.mk [] ?_ <;> (repeat' first | trivial)
def wC : Sm := fun args σ => match args, σ with
 | [.ptr 0 0, .int .u8 n_b], [.cells [.ptr 1 0, .buf 2], .cells ([.str s_c, .int .i64 (.ofNat a_c), .int .i64 (.ofNat e_c), .int .i64 c_c]), .buf 1 0 o] => some ((0 ≤ n_b ∧ n_b ≤ 255) ∧ (True ∧ ((Cu.mk s_c a_c e_c c_c).ok)), .tuple [], some [.cells [.ptr 1 0, .buf 2], .cells (eC ((Cu.mk s_c a_c e_c c_c).cv (byte n_b))), .buf 1 0 o])
 | _, _ => none
theorem HA : ay 143 wC := by
 intro args sg pre x r he hp
 unfold wC at he
 split at he <;> cases he
 . rw [dw (hp).1]; rw [bZ (hp.2).1]; exact F9 (hp := hp.2.2) ..
theorem Fb (b : UInt8) (hp : True) : OK 133 ([bv b]) ([]) (.tuple [.int .i32 (kb b), .bool (dW b)]) (none) := by
 refine aq (C := cx []) (ar trivial) (fn := Tryz.f133) rfl rfl rfl rfl fun hw hs => ?_
 have hb : b.toNat < 256 := b.toNat_lt
 repeat' ((conv => whnf); (apply al <;> intro h))
 all_goals try conv => whnf
 all_goals try (refine ab.mk ?_; try dsimp only)
 all_goals try refine stay ?_
 all_goals
  unfold dW kb
  first | rw [decide_eq_true (by omega)] | rw [decide_eq_false (by omega)]
  repeat (first | rw [if_pos (by omega)] | rw [if_neg (by omega)])
  refine a8.mk [] ?_ <;> (repeat' first | trivial | apply aj | apply aR | apply jr | apply dm)
 all_goals (simp (discharger := omega) only [wR]; omega)
def wE : Sm := fun args σ => match args, σ with
 | [.int .u8 n_b], [] => some ((0 ≤ n_b ∧ n_b ≤ 255) ∧ (True), .tuple [.int .i32 (kb (byte n_b)), .bool (dW (byte n_b))], none)
 | _, _ => none
theorem HC : ay 133 wE := by
 intro args sg pre x r he hp
 unfold wE at he
 split at he <;> cases he
 . rw [dw (hp).1]; exact Fb (hp := hp.2) ..
theorem Ff (b : UInt8) (hp : True) : OK 134 ([bv b]) ([]) (.int .i64 (cB b)) (none) := by
 refine aq (C := cx []) (ar trivial) (fn := Tryz.f134) rfl rfl rfl rfl fun hw hs => ?_
 repeat' ((conv => whnf); (apply al <;> intro h))
 all_goals try conv => whnf
 all_goals try (refine ab.mk ?_; try dsimp only)
 all_goals try refine stay ?_
 all_goals
  unfold cB
  repeat (first | rw [if_pos (by omega)] | rw [if_neg (by omega)])
  refine a8.mk [] ?_ <;> (repeat' first | trivial)
def wH : Sm := fun args σ => match args, σ with
 | [.int .u8 n_b], [] => some ((0 ≤ n_b ∧ n_b ≤ 255) ∧ (True), .int .i64 (cB (byte n_b)), none)
 | _, _ => none
theorem HF : ay 134 wH := by
 intro args sg pre x r he hp
 unfold wH at he
 split at he <;> cases he
 . rw [dw (hp).1]; exact Ff (hp := hp.2) ..
theorem shl10 (a : Int) : jx .i32 a 10 = IntKind.i32.wrap (a * 1024) := rfl
theorem Fa (c : Cu) (o : List V) (hp : c.ok) : OK 131 ([.ptr 0 0]) ([.cells [.ptr 1 0, .buf 2], .cells (eC c), .buf 1 0 o]) (.int .i32 c.number.2) (some [.cells [.ptr 1 0, .buf 2], .cells (eC c.number.1), .buf 1 0 o]) := by
 refine aq (C := cx [(142, wy), (143, wC), (104, jE)]) (ar ⟨Hy, HA, kH, trivial⟩) (fn := Tryz.f131) rfl rfl rfl rfl fun hw hs => ?_
 have h1 := rz c
 have h2 := rz ((c.four.1.cv 92).cv 117)
 have k1 := rA hp
 have k2 := oh k1 92
 have k3 := oh k2 117
 repeat' ((conv => whnf); first | apply ak | (apply al <;> intro h))
 all_goals try conv => whnf
 all_goals try (refine ab.mk ?_; try dsimp only)
 all_goals (try simp only [aP] at *)
 all_goals first | refine stay ?_ | trivial | skip
 all_goals (try simp only [show byte 92 = (92 : UInt8) from rfl, show byte 117 = (117 : UInt8) from rfl, shl10] at *)
 all_goals
  unfold Cu.number
  repeat (first | rw [if_pos (by omega)] | rw [if_neg (by omega)])
  refine a8.mk [] ?_ <;> (repeat' first | trivial | apply aj | apply aR)
 simp only [kn]; omega
def wD : Sm := fun args σ => match args, σ with
 | [.ptr 0 0], [.cells [.ptr 1 0, .buf 2], .cells ([.str s_c, .int .i64 (.ofNat a_c), .int .i64 (.ofNat e_c), .int .i64 c_c]), .buf 1 0 o] => some (True ∧ ((Cu.mk s_c a_c e_c c_c).ok), .int .i32 (Cu.mk s_c a_c e_c c_c).number.2, some [.cells [.ptr 1 0, .buf 2], .cells (eC (Cu.mk s_c a_c e_c c_c).number.1), .buf 1 0 o])
 | _, _ => none
theorem HB : ay 131 wD := by
 intro args sg pre x r he hp
 unfold wD at he
 split at he <;> cases he
 . rw [bZ (hp).1]; exact Fa (hp := hp.2) ..
end Go.Proofs.YtllncocibkgjkaaGreat
