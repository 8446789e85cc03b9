/-
  How the program reads a text of JSON: what each step makes of a cursor.
-/
import Derived.Test.YtllncocibkgjkaaCU
import Derived.Test.YtllncocibkgjkaaUTFp
set_option linter.unusedSimpArgs false
set_option linter.unusedVariables false
set_option maxHeartbeats 4000000
namespace Go.Proofs.Ytllncocibkgjkaa
open Go Go.VG
set_option maxRecDepth 100000
def nibIs (b : UInt8) : Bool := decide ((48 ≤ b.toNat ∧ b.toNat ≤ 57) ∨ (97 ≤ b.toNat ∧ b.toNat ≤ 102))
def nibV (b : UInt8) : Nat := if 48 ≤ b.toNat ∧ b.toNat ≤ 57 then b.toNat - 48 else if 97 ≤ b.toNat ∧ b.toNat ≤ 102 then b.toNat - 87 else 0
def lowB (b : UInt8) : UInt8 := if 65 ≤ b.toNat ∧ b.toNat ≤ 70 then byte (b.toNat + 32) else b
def Cu.hexC (c : Cu) : Cu := if nibIs (lowB c.byteV) = true then c.byte else c.byte.fail 6
def Cu.hexV (c : Cu) : Nat := nibV (lowB c.byteV)
def fourGo : Nat → Cu → Int → Cu × Int
  | 0, c, u => (c, u)
  | k + 1, c, u => if c.hexC.c ≠ 0 then (c.hexC, 0) else fourGo k c.hexC (16 * u + c.hexV)
termination_by k => k
def Cu.four (c : Cu) : Cu × Int := fourGo 4 c 0
def Cu.must (c : Cu) (b : UInt8) : Cu := if c.byteV.toNat = b.toNat then c.byte else c.byte.fail 6
def Cu.number (c : Cu) : Cu × Int :=
  if c.four.2 < 55296 ∨ 57344 ≤ c.four.2 then c.four
  else if 56320 ≤ c.four.2 then (c.four.1.fail 6, 0)
  else if ((c.four.1.must 92).must 117).four.2 < 56320 ∨ 57344 ≤ ((c.four.1.must 92).must 117).four.2 then (((c.four.1.must 92).must 117).four.1.fail 6, 0)
  else (((c.four.1.must 92).must 117).four.1, 65536 + (c.four.2 - 55296) * 1024 + (((c.four.1.must 92).must 117).four.2 - 56320))
def plainIs (b : UInt8) : Bool := decide (b.toNat = 34 ∨ b.toNat = 92 ∨ b.toNat = 47 ∨ b.toNat = 98 ∨ b.toNat = 102 ∨ b.toNat = 110 ∨ b.toNat = 114 ∨ b.toNat = 116)
def plainV (b : UInt8) : Nat := if b.toNat = 34 ∨ b.toNat = 92 ∨ b.toNat = 47 then b.toNat else if b.toNat = 98 then 8 else if b.toNat = 102 then 12 else if b.toNat = 110 then 10 else if b.toNat = 114 then 13 else if b.toNat = 116 then 9 else 0
def Cu.escC (c : Cu) : Cu := if c.byteV.toNat = 117 then c.byte.number.1 else if plainIs c.byteV = true then c.byte else c.byte.fail 6
def Cu.escO (c : Cu) : List UInt8 := if c.byteV.toNat = 117 then (if c.byte.number.1.c = 0 then uBytes c.byte.number.2 else []) else if plainIs c.byteV = true then [Go.VG.byte (plainV c.byteV)] else []
def tailN (b : UInt8) : Nat := if b.toNat < 192 then 0 else if b.toNat < 224 then 1 else if b.toNat < 240 then 2 else 3
def rawGo : Nat → Cu → List UInt8 → Cu × List UInt8
  | 0, c, s => (c, s)
  | k + 1, c, s => if c.c = 0 ∧ c.p < c.e ∧ cont c.byteV = true then rawGo k c.byte (s ++ [c.byteV]) else (c, s)
termination_by k => k
def Cu.rawC (c : Cu) (b : UInt8) : Cu := if 0 ≤ uCheck (rawGo (tailN b) c [b]).2 then (rawGo (tailN b) c [b]).1.fail 5 else (rawGo (tailN b) c [b]).1
def Cu.rawO (c : Cu) (b : UInt8) : List UInt8 := if 0 ≤ uCheck (rawGo (tailN b) c [b]).2 then [] else (rawGo (tailN b) c [b]).2
/-! cursors stay within their bounds -/
theorem byte_ok {c : Cu} (h : c.ok) : c.byte.ok := (pass_ok h 1).1
theorem hexC_ok {c : Cu} (h : c.ok) : c.hexC.ok := by
  unfold Cu.hexC; split
  · exact byte_ok h
  · exact (fail_ok (byte_ok h) 6).1
theorem fourGo_ok : ∀ (k : Nat) (c : Cu) (u : Int), c.ok → (fourGo k c u).1.ok
  | 0, _, _, h => by rw [fourGo]; exact h
  | k + 1, c, u, h => by
    rw [fourGo]; split
    · exact hexC_ok h
    · exact fourGo_ok k _ _ (hexC_ok h)
theorem nibV_lt (b : UInt8) : nibV b < 16 := by unfold nibV; repeat' split
                                                all_goals omega
theorem fourGo_lt : ∀ (k : Nat) (c : Cu) (u : Int) (m : Nat), 0 ≤ u → u < m → 0 < m → 0 ≤ (fourGo k c u).2 ∧ (fourGo k c u).2 < ((m * 16 ^ k : Nat) : Int)
  | 0, _, _, _, h1, h, _ => by rw [fourGo]; simpa using ⟨h1, h⟩
  | k + 1, c, u, m, h1, h, h0 => by
    have hp : 0 < 16 ^ k := Nat.pow_pos (by decide)
    rw [fourGo]; split
    · have : 0 < m * 16 ^ (k + 1) := Nat.mul_pos h0 (Nat.pow_pos (by decide))
      simp only; omega
    · have hv := nibV_lt (lowB c.byteV)
      have := fourGo_lt k c.hexC (16 * u + c.hexV) (16 * m) (by omega) (by unfold Cu.hexV; omega) (by omega)
      rw [Nat.pow_succ, ← Nat.mul_assoc, Nat.mul_right_comm, Nat.mul_comm m 16]; exact this
theorem four_ok {c : Cu} (h : c.ok) : c.four.1.ok := fourGo_ok 4 c 0 h
theorem four_lt (c : Cu) : 0 ≤ c.four.2 ∧ c.four.2 < 65536 := by have := fourGo_lt 4 c 0 1 (by decide) (by decide) (by decide); simpa [Cu.four] using this
theorem must_ok {c : Cu} (h : c.ok) (b : UInt8) : (c.must b).ok := by
  unfold Cu.must; split
  · exact byte_ok h
  · exact (fail_ok (byte_ok h) 6).1
theorem number_ok {c : Cu} (h : c.ok) : c.number.1.ok := by
  have h1 := four_ok h
  have h2 := four_ok (must_ok (must_ok h1 92) 117)
  unfold Cu.number
  repeat' split
  · exact h1
  · exact (fail_ok h1 6).1
  · exact (fail_ok h2 6).1
  · exact h2
theorem number_is {c : Cu} (h : c.number.1.c = 0) : uIs c.number.2 = true := by
  have h1 := four_lt c
  have h2 := four_lt ((c.four.1.must 92).must 117)
  rw [uIs_t]
  have hf : ∀ x : Cu, (x.fail 6).c ≠ 0 := fun x => by
    unfold Cu.fail; split
    · simp
    · assumption
  unfold Cu.number at h ⊢
  repeat' split at h
  · rename_i q; rw [if_pos q]; omega
  · exact absurd h (hf _)
  · exact absurd h (hf _)
  · rename_i q1 q2 q3
    rw [if_neg q1, if_neg q2, if_neg q3]
    simp only; omega
theorem escC_ok {c : Cu} (h : c.ok) : c.escC.ok := by
  unfold Cu.escC; repeat' split
  · exact number_ok (byte_ok h)
  · exact byte_ok h
  · exact (fail_ok (byte_ok h) 6).1
theorem rawGo_ok : ∀ (k : Nat) (c : Cu) (s : List UInt8), c.ok → (rawGo k c s).1.ok
  | 0, _, _, h => by rw [rawGo]; exact h
  | k + 1, c, s, h => by
    rw [rawGo]; split
    · exact rawGo_ok k _ _ (byte_ok h)
    · exact h
theorem rawGo_len : ∀ (k : Nat) (c : Cu) (s : List UInt8), (rawGo k c s).2.length ≤ s.length + k
  | 0, _, _ => by simp [rawGo]
  | k + 1, c, s => by
    rw [rawGo]; split
    · have := rawGo_len k c.byte (s ++ [c.byteV]); simp at this; omega
    · simp only; omega
theorem tailN_le (b : UInt8) : tailN b ≤ 3 := by
  unfold tailN; repeat' split
  all_goals omega
theorem rawC_ok {c : Cu} (h : c.ok) (b : UInt8) : (c.rawC b).ok := by
  have := rawGo_ok (tailN b) c [b] h
  unfold Cu.rawC; split
  · exact (fail_ok this 5).1
  · exact this
end Go.Proofs.Ytllncocibkgjkaa
