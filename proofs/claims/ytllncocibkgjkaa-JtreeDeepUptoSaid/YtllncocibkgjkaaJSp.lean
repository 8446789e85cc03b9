/-
  A part of the proof.
-/
import Derived.Test.YtllncocibkgjkaaCU
import Derived.Test.YtllncocibkgjkaaUTFp
set_option linter.unusedSimpArgs false
set_option linter.unusedVariables false
set_option maxHeartbeats 4000000
namespace Go.Proofs.Ytllncocibkgjkaa
open Go Go.VG
set_option maxRecDepth 100000
def et (b : UInt8) : Bool := decide ((48 ≤ b.toNat ∧ b.toNat ≤ 57) ∨ (97 ≤ b.toNat ∧ b.toNat ≤ 102))
def dn (b : UInt8) : Nat := if 48 ≤ b.toNat ∧ b.toNat ≤ 57 then b.toNat - 48 else if 97 ≤ b.toNat ∧ b.toNat ≤ 102 then b.toNat - 87 else 0
def cj (b : UInt8) : UInt8 := if 65 ≤ b.toNat ∧ b.toNat ≤ 70 then byte (b.toNat + 32) else b
def Cu.eW (c : Cu) : Cu := if et (cj c.ai) = true then c.byte else c.byte.fail 6
def Cu.jC (c : Cu) : Nat := dn (cj c.ai)
def dC : Nat → Cu → Int → Cu × Int
 | 0, c, u => (c, u)
 | k + 1, c, u => if c.eW.c ≠ 0 then (c.eW, 0) else dC k c.eW (16 * u + c.jC)
termination_by k => k
def Cu.four (c : Cu) : Cu × Int := dC 4 c 0
def Cu.cu (c : Cu) (b : UInt8) : Cu := if c.ai.toNat = b.toNat then c.byte else c.byte.fail 6
def Cu.number (c : Cu) : Cu × Int :=
 if c.four.2 < 55296 ∨ 57344 ≤ c.four.2 then c.four
 else if 56320 ≤ c.four.2 then (c.four.1.fail 6, 0)
 else if ((c.four.1.cu 92).cu 117).four.2 < 56320 ∨ 57344 ≤ ((c.four.1.cu 92).cu 117).four.2 then (((c.four.1.cu 92).cu 117).four.1.fail 6, 0)
 else (((c.four.1.cu 92).cu 117).four.1, 65536 + (c.four.2 - 55296) * 1024 + (((c.four.1.cu 92).cu 117).four.2 - 56320))
def dU (b : UInt8) : Bool := decide (b.toNat = 34 ∨ b.toNat = 92 ∨ b.toNat = 47 ∨ b.toNat = 98 ∨ b.toNat = 102 ∨ b.toNat = 110 ∨ b.toNat = 114 ∨ b.toNat = 116)
def jL (b : UInt8) : Nat := if b.toNat = 34 ∨ b.toNat = 92 ∨ b.toNat = 47 then b.toNat else if b.toNat = 98 then 8 else if b.toNat = 102 then 12 else if b.toNat = 110 then 10 else if b.toNat = 114 then 13 else if b.toNat = 116 then 9 else 0
def Cu.dB (c : Cu) : Cu := if c.ai.toNat = 117 then c.byte.number.1 else if dU c.ai = true then c.byte else c.byte.fail 6
def Cu.fR (c : Cu) : List UInt8 := if c.ai.toNat = 117 then (if c.byte.number.1.c = 0 then b6 c.byte.number.2 else []) else if dU c.ai = true then [Go.VG.byte (jL c.ai)] else []
def cA (b : UInt8) : Nat := if b.toNat < 192 then 0 else if b.toNat < 224 then 1 else if b.toNat < 240 then 2 else 3
def cM : Nat → Cu → List UInt8 → Cu × List UInt8
 | 0, c, s => (c, s)
 | k + 1, c, s => if c.c = 0 ∧ c.p < c.e ∧ cont c.ai = true then cM k c.byte (s ++ [c.ai]) else (c, s)
termination_by k => k
def Cu.eJ (c : Cu) (b : UInt8) : Cu := if 0 ≤ jS (cM (cA b) c [b]).2 then (cM (cA b) c [b]).1.fail 5 else (cM (cA b) c [b]).1
def Cu.gw (c : Cu) (b : UInt8) : List UInt8 := if 0 ≤ jS (cM (cA b) c [b]).2 then [] else (cM (cA b) c [b]).2
theorem eb {c : Cu} (h : c.ok) : c.byte.ok := (jK h 1).1
theorem ud {c : Cu} (h : c.ok) : c.eW.ok := by
 unfold Cu.eW; split
 . exact eb h
 . exact (eU (eb h) 6).1
theorem yV : ∀ (k : Nat) (c : Cu) (u : Int), c.ok → (dC k c u).1.ok
 | 0, _, _, h => by rw [dC]; exact h
 | k + 1, c, u, h => by
   rw [dC]; split
   . exact ud h
   . exact yV k _ _ (ud h)
theorem nV (b : UInt8) : dn b < 16 := by        unfold dn; repeat' split
                                                all_goals omega
theorem yU : ∀ (k : Nat) (c : Cu) (u : Int) (m : Nat), 0 ≤ u → u < m → 0 < m → 0 ≤ (dC k c u).2 ∧ (dC k c u).2 < ((m * 16 ^ k : Nat) : Int)
 | 0, _, _, _, h1, h, _ => by rw [dC]; simpa using ⟨h1, h⟩
 | k + 1, c, u, m, h1, h, h0 => by
   have hp : 0 < 16 ^ k := Nat.pow_pos (by decide)
   rw [dC]; split
   . have : 0 < m * 16 ^ (k + 1) := Nat.mul_pos h0 (Nat.pow_pos (by decide))
     simp only; omega
   . have hv := nV (cj c.ai)
     have := yU k c.eW (16 * u + c.jC) (16 * m) (by omega) (by unfold Cu.jC; omega) (by omega)
     rw [Nat.pow_succ, ← Nat.mul_assoc, Nat.mul_right_comm, Nat.mul_comm m 16]; exact this
theorem ra {c : Cu} (h : c.ok) : c.four.1.ok := yV 4 c 0 h
theorem r9 (c : Cu) : 0 ≤ c.four.2 ∧ c.four.2 < 65536 := by have := yU 4 c 0 1 (by decide) (by decide) (by decide); simpa [Cu.four] using this
theorem nT {c : Cu} (h : c.ok) (b : UInt8) : (c.cu b).ok := by
 unfold Cu.cu; split
 . exact eb h
 . exact (eU (eb h) 6).1
theorem AF {c : Cu} (h : c.ok) : c.number.1.ok := by
 have h1 := ra h
 have h2 := ra (nT (nT h1 92) 117)
 unfold Cu.number
 repeat' split
 . exact h1
 . exact (eU h1 6).1
 . exact (eU h2 6).1
 . exact h2
theorem HY {c : Cu} (h : c.number.1.c = 0) : cE c.number.2 = true := by
 have h1 := r9 c
 have h2 := r9 ((c.four.1.cu 92).cu 117)
 rw [gE]
 have hf : ∀ x : Cu, (x.fail 6).c ≠ 0 := fun x => by
  unfold Cu.fail; split
  . simp
  . assumption
 unfold Cu.number at h ⊢
 repeat' split at h
 . rename_i q; rw [if_pos q]; omega
 . exact absurd h (hf _)
 . exact absurd h (hf _)
 . rename_i q1 q2 q3
   rw [if_neg q1, if_neg q2, if_neg q3]
   simp only; omega
theorem m7 {c : Cu} (h : c.ok) : c.dB.ok := by
 unfold Cu.dB; repeat' split
 . exact AF (eb h)
 . exact eb h
 . exact (eU (eb h) 6).1
theorem B8 : ∀ (k : Nat) (c : Cu) (s : List UInt8), c.ok → (cM k c s).1.ok
 | 0, _, _, h => by rw [cM]; exact h
 | k + 1, c, s, h => by
   rw [cM]; split
   . exact B8 k _ _ (eb h)
   . exact h
theorem B6 : ∀ (k : Nat) (c : Cu) (s : List UInt8), (cM k c s).2.length ≤ s.length + k
 | 0, _, _ => by simp [cM]
 | k + 1, c, s => by
   rw [cM]; split
   . have := B6 k c.byte (s ++ [c.ai]); simp at this; omega
   . simp only; omega
theorem BN (b : UInt8) : cA b ≤ 3 := by
 unfold cA; repeat' split
 all_goals omega
theorem mI {c : Cu} (h : c.ok) (b : UInt8) : (c.eJ b).ok := by
 have := B8 (cA b) c [b] h
 unfold Cu.eJ; split
 . exact (eU this 5).1
 . exact this
end Go.Proofs.Ytllncocibkgjkaa
namespace Go.Proofs.Ytllncocibkgjkaa
open Go Go.VG
set_option maxRecDepth 100000
theorem HQ : ∀ i, i < 16 → dn (iJ.getD i 0) = i ∧ et (iJ.getD i 0) = true ∧ (iJ.getD i 0).toNat < 128 := by decide
theorem HS : ∀ n, n < 256 → et (.ofNat n) = true → iJ.getD (dn (.ofNat n)) 0 = .ofNat n := by decide
theorem HR {b : UInt8} (h : et b = true) : iJ.getD (dn b) 0 = b := by
 have := HS b.toNat b.toNat_lt
 rw [UInt8.ofNat_toNat] at this
 exact this h
theorem HT {b : UInt8} (h : et b = false) : dn b = 0 := by
 unfold et at h
 rw [decide_eq_false_iff_not] at h
 unfold dn
 rw [if_neg (by omega), if_neg (by omega)]
theorem EC (b : UInt8) (hp : True) : OK 127 ([bv b]) ([]) (.tuple [.int .i64 (dn b), .bool (et b)]) (none) := by
 refine aC (C := cx []) (ay trivial) (fn := Try.f127) rfl rfl rfl rfl fun hw hs => ?_
 have hb : b.toNat < 256 := b.toNat_lt
 all_goals try conv => whnf
 all_goals try (refine ae.mk ?_; try dsimp only)
 all_goals (try simp only [aR] at *)
 all_goals try refine stay ?_
 refine bn.mk Nat (fun i => i ≤ 16 ∧ ∀ j, j < i → iJ.getD j 0 ≠ b) (fun i => ⟨16, [(0, .int .u8 b.toNat), (6, .ptr 0 0)], [.siter iJ i], []⟩) (fun i => 16 - i) [] 0 ⟨by omega, by simp⟩ ?_ (fun i ⟨hi, hj⟩ _ _ => ?_)
 . refine Go.VG.Sub.mk rfl ?_ ?_ ?_ ?_ <;> (repeat' first | trivial)
 have hl : iJ.length = 16 := rfl
 have hd : i < 16 → iJ[i]? = some (iJ.getD i 0) := fun h => by
  rw [List.getD_eq_getElem?_getD, List.getElem?_eq_getElem (by rw [hl]; exact h)]; rfl
 have hn := HQ i
 repeat' ((conv => whnf); (apply ao <;> intro h))
 all_goals try conv => whnf
 all_goals try (refine ae.mk ?_; try dsimp only)
 all_goals (try simp only [aR] at *)
 all_goals try refine stay ?_
 . rw [hd (by omega)]
   have hn := hn (by omega)
   generalize hx : iJ.getD i 0 = x at *
   have hwb : IntKind.i32.wrap (b.toNat : Int) = b.toNat := by (simp (discharger := omega) only [wR]; omega)
   repeat' ((conv => whnf); first | apply al | (apply ao <;> intro h))
   all_goals try conv => whnf
   all_goals try (refine ae.mk ?_; try dsimp only)
   all_goals (try rw [hwb] at *)
   all_goals (try simp only [aR] at *)
   all_goals first | refine stay ?_ | omega | skip
   . have : x = b := UInt8.toNat_inj.1 (by omega)
     subst this
     refine a8.mk [] ?_ <;> (repeat' first | trivial | apply aj | apply aQ | apply iD | apply ja | apply eF)
     . rw [hn.1]
     . rw [hn.2.1]
   . refine ⟨[], i + 1, ⟨by omega, fun j hjj => ?_⟩, ?_, by omega⟩
     . by_cases e : j = i
       . subst e; rw [hx]; intro e; subst e; omega
       . exact hj j (by omega)
     . refine Go.VG.Sub.mk rfl ?_ ?_ ?_ ?_ <;> (repeat' first | trivial)
 . have hf : et b = false := by
     cases h : et b with
     | false => rfl
     | true =>
       exfalso
       refine hj (dn b) ?_ (HR h)
       have := nV b; omega
   refine a8.mk [] ?_ <;> (repeat' first | trivial | apply aj | apply aQ | apply iD | apply ja | apply eF)
   . rw [HT hf]; rfl
   . rw [hf]
def w8 : Sm := fun args σ => match args, σ with
 | [.int .u8 n_b], [] => some ((0 ≤ n_b ∧ n_b ≤ 255) ∧ (True), .tuple [.int .i64 (dn (byte n_b)), .bool (et (byte n_b))], none)
 | _, _ => none
theorem GG : aD 127 w8 := by
 intro args sg pre x r he hp
 unfold w8 at he
 split at he <;> cases he
 . rw [da (hp).1]; exact EC (hp := hp.2) ..
theorem Ed (c : Cu) (o : List V) (hp : c.ok) : OK 123 ([.ptr 0 0]) ([.cells [.ptr 1 0, .buf 2], .cells (eC c), .buf 1 0 o]) (.int .i32 c.jC) (some [.cells [.ptr 1 0, .buf 2], .cells (eC c.eW), .buf 1 0 o]) := by
 refine aC (C := cx [(44, iR), (127, w8), (49, jl)]) (ay ⟨jD, GG, kg, trivial⟩) (fn := Try.f123) rfl rfl rfl rfl fun hw hs => ?_
 have hb : c.ai.toNat < 256 := c.ai.toNat_lt
 have e1 : 65 ≤ c.ai.toNat ∧ c.ai.toNat ≤ 70 → byte (IntKind.u8.wrap (c.ai.toNat + 32)) = cj c.ai := fun h => by
  unfold cj; rw [if_pos h, jU, show ((c.ai.toNat : Int) + 32) % 256 = c.ai.toNat + 32 by omega]
 have e2 : ¬ (65 ≤ c.ai.toNat ∧ c.ai.toNat ≤ 70) → byte c.ai.toNat = cj c.ai := fun h => by
  unfold cj; rw [if_neg h, bH]
 have hv := nV (cj c.ai)
 repeat' ((conv => whnf); first | apply al | apply aZ | (apply ao <;> intro h))
 all_goals try conv => whnf
 all_goals try (refine ae.mk ?_; try dsimp only)
 all_goals (try simp only [aR] at *)
 all_goals first | refine stay ?_ | trivial | (simp (discharger := omega) [-List.getD_eq_getElem?_getD, wR] <;> omega) | skip
 all_goals first
  | exact ⟨by omega, trivial⟩
  | (first | rw [e1 (by omega)] at * | rw [e2 (by omega)] at *)
 all_goals
  first
  | have hn : et (cj c.ai) = true := decide_eq_true (by assumption)
  | have hn : et (cj c.ai) = false := decide_eq_false (by assumption)
  unfold Cu.eW Cu.jC
  rw [hn]
  first | rw [if_pos rfl] | rw [if_neg Bool.false_ne_true]
  refine a8.mk [] ?_ <;> (repeat' first | trivial | apply aj | apply aQ)
 all_goals (simp (discharger := omega) only [wR]; omega)
def vM : Sm := fun args σ => match args, σ with
 | [.ptr 0 0], [.cells [.ptr 1 0, .buf 2], .cells ([.str s_c, .int .i64 (.ofNat a_c), .int .i64 (.ofNat e_c), .int .i64 c_c]), .buf 1 0 o] => some (True ∧ ((Cu.mk s_c a_c e_c c_c).ok), .int .i32 (Cu.mk s_c a_c e_c c_c).jC, some [.cells [.ptr 1 0, .buf 2], .cells (eC (Cu.mk s_c a_c e_c c_c).eW), .buf 1 0 o])
 | _, _ => none
theorem Gr : aD 123 vM := by
 intro args sg pre x r he hp
 unfold vM at he
 split at he <;> cases he
 . rw [bZ (hp).1]; exact Ed (hp := hp.2) ..
theorem I6 (a b : Nat) (ha : a < 65536) (hb : b < 16) : iK .i32 (je .i32 a 4) b = ((16 * a + b : Nat) : Int) := by
 have e : je .i32 (a : Int) 4 = ((a * 2 ^ 4 : Nat) : Int) := by
  show IntKind.i32.wrap ((a : Int) * 2 ^ (min 4 32)) = _
  rw [jT, show ((2 : Int) ^ (min 4 32)) = 16 from rfl]; omega
 rw [e]
 show IntKind.i32.wrap ((BitVec.ofInt 32 ((a * 2 ^ 4 : Nat) : Int) ||| BitVec.ofInt 32 (b : Int)).toNat : Int) = _
 rw [BitVec.ofInt_natCast, BitVec.ofInt_natCast, BitVec.toNat_or, BitVec.toNat_ofNat, BitVec.toNat_ofNat, Nat.mod_eq_of_lt (by omega), Nat.mod_eq_of_lt (by omega), uT a b 4 hb]
 rw [jT]; omega
theorem Ec (c : Cu) (o : List V) (hp : c.ok) : OK 108 ([.ptr 0 0]) ([.cells [.ptr 1 0, .buf 2], .cells (eC c), .buf 1 0 o]) (.int .i32 c.four.2) (some [.cells [.ptr 1 0, .buf 2], .cells (eC c.four.1), .buf 1 0 o]) := by
 refine aC (C := cx [(123, vM), (21, iS)]) (ay ⟨Gr, jE, trivial⟩) (fn := Try.f108) rfl rfl rfl rfl fun hw hs => ?_
 refine bn.mk (Nat × Cu × Nat) (fun | (k, d, u) => k ≤ 4 ∧ d.ok ∧ u < 16 ^ k ∧ dC (4 - k) d (u : Int) = dC 4 c 0)
  (fun | (k, d, u) => ⟨19, [(0, .ptr 0 0), (3, .int .i32 u), (4, .int .i64 k)], [.cells [.ptr 1 0, .buf 2], .cells (eC d), .buf 1 0 o], [2]⟩) (fun x => 4 - x.1) [] (0, c, 0) ⟨by omega, hp, by decide, rfl⟩ ?_ (fun ⟨k, d, u⟩ ⟨hk, hd, hu, he⟩ _ _ => ?_)
 . refine Go.VG.Sub.mk rfl ?_ ?_ ?_ ?_ <;> (repeat' first | trivial)
 have hv := nV (cj d.ai)
 have h16 : k < 4 → u < 4096 := fun h => by
  have : (16 : Nat) ^ k ≤ 16 ^ 3 := Nat.pow_le_pow_right (by decide) (by omega)
  omega
 repeat' ((conv => whnf); first | apply al | apply aZ | (apply ao <;> intro h))
 all_goals try conv => whnf
 all_goals try (refine ae.mk ?_; try dsimp only)
 all_goals (try simp only [aR] at *)
 all_goals first | refine stay ?_ | trivial | skip
 . rw [show 4 - k = (4 - k - 1) + 1 by omega, dC, if_neg (by omega)] at he
   have hu' := h16 (by omega)
   refine ⟨[], (k + 1, d.eW, 16 * u + d.jC), ⟨by omega, ud hd, ?_, ?_⟩, ?_, by omega⟩
   . unfold Cu.jC
     show 16 * u + dn (cj d.ai) < 16 ^ k * 16
     omega
   . rw [show 4 - (k + 1) = 4 - k - 1 by omega]; exact he
   . refine Go.VG.Sub.mk rfl ?_ ?_ ?_ ?_ <;> (repeat' first | trivial | apply aj | apply aQ)
     . exact I6 _ _ (by omega) hv
     . (simp (discharger := omega) only [wR]; omega)
 . rw [show 4 - k = (4 - k - 1) + 1 by omega, dC, if_pos (by omega)] at he
   unfold Cu.four
   rw [← he]
   refine a8.mk [] ?_ <;> (repeat' first | trivial)
 . rw [show 4 - k = 0 by omega, dC] at he
   unfold Cu.four
   rw [← he]
   refine a8.mk [] ?_ <;> (repeat' first | trivial)
def vL : Sm := fun args σ => match args, σ with
 | [.ptr 0 0], [.cells [.ptr 1 0, .buf 2], .cells ([.str s_c, .int .i64 (.ofNat a_c), .int .i64 (.ofNat e_c), .int .i64 c_c]), .buf 1 0 o] => some (True ∧ ((Cu.mk s_c a_c e_c c_c).ok), .int .i32 (Cu.mk s_c a_c e_c c_c).four.2, some [.cells [.ptr 1 0, .buf 2], .cells (eC (Cu.mk s_c a_c e_c c_c).four.1), .buf 1 0 o])
 | _, _ => none
theorem Gq : aD 108 vL := by
 intro args sg pre x r he hp
 unfold vL at he
 split at he <;> cases he
 . rw [bZ (hp).1]; exact Ec (hp := hp.2) ..
theorem Ee (c : Cu) (o : List V) (b : UInt8) (hp : c.ok) : OK 109 ([.ptr 0 0, bv b]) ([.cells [.ptr 1 0, .buf 2], .cells (eC c), .buf 1 0 o]) (.tuple []) (some [.cells [.ptr 1 0, .buf 2], .cells (eC (c.cu b)), .buf 1 0 o]) := by
 refine aC (C := cx [(44, iR), (49, jl)]) (ay ⟨jD, kg, trivial⟩) (fn := Try.f109) rfl rfl rfl rfl fun hw hs => ?_
 repeat' ((conv => whnf); first | apply al | apply aZ | (apply ao <;> intro h))
 all_goals try conv => whnf
 all_goals try (refine ae.mk ?_; try dsimp only)
 all_goals (try simp only [aR] at *)
 all_goals first | refine stay ?_ | trivial | skip
 all_goals
  unfold Cu.cu
  first | rw [if_pos (by omega)] | rw [if_neg (by omega)]
  refine a8.mk [] ?_ <;> (repeat' first | trivial)
def vN : Sm := fun args σ => match args, σ with
 | [.ptr 0 0, .int .u8 n_b], [.cells [.ptr 1 0, .buf 2], .cells ([.str s_c, .int .i64 (.ofNat a_c), .int .i64 (.ofNat e_c), .int .i64 c_c]), .buf 1 0 o] => some ((0 ≤ n_b ∧ n_b ≤ 255) ∧ (True ∧ ((Cu.mk s_c a_c e_c c_c).ok)), .tuple [], some [.cells [.ptr 1 0, .buf 2], .cells (eC ((Cu.mk s_c a_c e_c c_c).cu (byte n_b))), .buf 1 0 o])
 | _, _ => none
theorem Gs : aD 109 vN := by
 intro args sg pre x r he hp
 unfold vN at he
 split at he <;> cases he
 . rw [da (hp).1]; rw [bZ (hp.2).1]; exact Ee (hp := hp.2.2) ..
theorem Eh (b : UInt8) (hp : True) : OK 94 ([bv b]) ([]) (.tuple [.int .i32 (jL b), .bool (dU b)]) (none) := by
 refine aC (C := cx []) (ay trivial) (fn := Try.f94) rfl rfl rfl rfl fun hw hs => ?_
 have hb : b.toNat < 256 := b.toNat_lt
 repeat' ((conv => whnf); (apply ao <;> intro h))
 all_goals try conv => whnf
 all_goals try (refine ae.mk ?_; try dsimp only)
 all_goals try refine stay ?_
 all_goals
  unfold dU jL
  first | rw [decide_eq_true (by omega)] | rw [decide_eq_false (by omega)]
  repeat (first | rw [if_pos (by omega)] | rw [if_neg (by omega)])
  refine a8.mk [] ?_ <;> (repeat' first | trivial | apply aj | apply aQ | apply ja | apply eF)
 all_goals (simp (discharger := omega) only [wR]; omega)
def vP : Sm := fun args σ => match args, σ with
 | [.int .u8 n_b], [] => some ((0 ≤ n_b ∧ n_b ≤ 255) ∧ (True), .tuple [.int .i32 (jL (byte n_b)), .bool (dU (byte n_b))], none)
 | _, _ => none
theorem Gu : aD 94 vP := by
 intro args sg pre x r he hp
 unfold vP at he
 split at he <;> cases he
 . rw [da (hp).1]; exact Eh (hp := hp.2) ..
theorem Ek (b : UInt8) (hp : True) : OK 95 ([bv b]) ([]) (.int .i64 (cA b)) (none) := by
 refine aC (C := cx []) (ay trivial) (fn := Try.f95) rfl rfl rfl rfl fun hw hs => ?_
 repeat' ((conv => whnf); (apply ao <;> intro h))
 all_goals try conv => whnf
 all_goals try (refine ae.mk ?_; try dsimp only)
 all_goals try refine stay ?_
 all_goals
  unfold cA
  repeat (first | rw [if_pos (by omega)] | rw [if_neg (by omega)])
  refine a8.mk [] ?_ <;> (repeat' first | trivial)
def vS : Sm := fun args σ => match args, σ with
 | [.int .u8 n_b], [] => some ((0 ≤ n_b ∧ n_b ≤ 255) ∧ (True), .int .i64 (cA (byte n_b)), none)
 | _, _ => none
theorem Gx : aD 95 vS := by
 intro args sg pre x r he hp
 unfold vS at he
 split at he <;> cases he
 . rw [da (hp).1]; exact Ek (hp := hp.2) ..
theorem shl10 (a : Int) : je .i32 a 10 = IntKind.i32.wrap (a * 1024) := rfl
theorem Eg (c : Cu) (o : List V) (hp : c.ok) : OK 92 ([.ptr 0 0]) ([.cells [.ptr 1 0, .buf 2], .cells (eC c), .buf 1 0 o]) (.int .i32 c.number.2) (some [.cells [.ptr 1 0, .buf 2], .cells (eC c.number.1), .buf 1 0 o]) := by
 refine aC (C := cx [(108, vL), (109, vN), (49, jl)]) (ay ⟨Gq, Gs, kg, trivial⟩) (fn := Try.f92) rfl rfl rfl rfl fun hw hs => ?_
 have h1 := r9 c
 have h2 := r9 ((c.four.1.cu 92).cu 117)
 have k1 := ra hp
 have k2 := nT k1 92
 have k3 := nT k2 117
 repeat' ((conv => whnf); first | apply al | (apply ao <;> intro h))
 all_goals try conv => whnf
 all_goals try (refine ae.mk ?_; try dsimp only)
 all_goals (try simp only [aR] at *)
 all_goals first | refine stay ?_ | trivial | skip
 all_goals (try simp only [show byte 92 = (92 : UInt8) from rfl, show byte 117 = (117 : UInt8) from rfl, shl10] at *)
 all_goals
  unfold Cu.number
  repeat (first | rw [if_pos (by omega)] | rw [if_neg (by omega)])
  refine a8.mk [] ?_ <;> (repeat' first | trivial | apply aj | apply aQ)
 simp only [jT]; omega
def vO : Sm := fun args σ => match args, σ with
 | [.ptr 0 0], [.cells [.ptr 1 0, .buf 2], .cells ([.str s_c, .int .i64 (.ofNat a_c), .int .i64 (.ofNat e_c), .int .i64 c_c]), .buf 1 0 o] => some (True ∧ ((Cu.mk s_c a_c e_c c_c).ok), .int .i32 (Cu.mk s_c a_c e_c c_c).number.2, some [.cells [.ptr 1 0, .buf 2], .cells (eC (Cu.mk s_c a_c e_c c_c).number.1), .buf 1 0 o])
 | _, _ => none
theorem Gt : aD 92 vO := by
 intro args sg pre x r he hp
 unfold vO at he
 split at he <;> cases he
 . rw [bZ (hp).1]; exact Eg (hp := hp.2) ..
end Go.Proofs.Ytllncocibkgjkaa
