/-
  What is written as four fields is read as these: the plain law.
-/
import Derived.Test.YtcgjkjabcdeagaaDoorCRc
import Derived.Test.YtcgjkjabcdeagaaDoorCRe
import Derived.Test.YtcgjkjabcdeagaaDoorCWx
set_option linter.unusedSimpArgs false
set_option linter.unusedVariables false
set_option maxHeartbeats 4000000
namespace Go.Proofs.YtcgjkjabcdeagaaDoor
open Go Go.VG
set_option maxRecDepth 100000
def inR (i : Int) : Prop := -32768 ≤ i ∧ i ≤ 32767
theorem pfield_pos {last id k : Int} (hk : 1 ≤ k ∧ k ≤ 12) (hi : inR id) : 1 ≤ (pfield last id (byte k)).length := by
  have hkn : ((byte k).toNat : Int) = k := byte_toNat (by omega)
  obtain ⟨h1, h2⟩ := hi
  unfold pfield
  rw [if_neg (by omega)]
  split <;> simp
theorem may_one {out : List UInt8} {last id k : Int} (hk : 1 ≤ k ∧ k ≤ 12) (hi : inR id) :
    CS.may ⟨out, [⟨false, last, 0, 0⟩], 0⟩ id k = (⟨out ++ pfield last id (byte k), [⟨false, id, 0, 0⟩], 0⟩, true) := by
  have hp := pfield_pos (last := last) hk hi
  unfold CS.may
  rw [if_neg (by simp), if_neg (by simp), if_neg (by simp [CS.top])]
  show (if (pfield last id (byte k)).length = 0 then _ else _) = _
  rw [if_neg (by omega)]
  rfl
theorem put_one {out b : List UInt8} {last id k : Int} (hk : 1 ≤ k ∧ k ≤ 12) (hi : inR id) :
    CS.put ⟨out, [⟨false, last, 0, 0⟩], 0⟩ id k b = ⟨out ++ pfield last id (byte k) ++ b, [⟨false, id, 0, 0⟩], 0⟩ := by
  unfold CS.put; rw [may_one hk hi, if_pos rfl]
theorem whole_one {out : List UInt8} {last id n : Int} (hi : inR id) (hn : -9223372036854775808 ≤ n ∧ n ≤ 9223372036854775807) :
    CS.whole ⟨out, [⟨false, last, 0, 0⟩], 0⟩ id 6 n = ⟨out ++ pfield last id (byte 6) ++ vput (zigN n), [⟨false, id, 0, 0⟩], 0⟩ := by
  unfold CS.whole
  rw [if_neg (by simp), if_neg (by decide), show bitsK 6 = 64 from rfl, if_neg (by rw [fitC_64 hn]; decide), put_one (by decide) hi, if_neg (by decide)]
def fk (n : Int) : Int := if n > 0 then 1 else 2
theorem fk_ok (n : Int) : fk n = 1 ∨ fk n = 2 := by unfold fk; split <;> omega
theorem flag_one {out : List UInt8} {last id n : Int} (hi : inR id) :
    CS.flag ⟨out, [⟨false, last, 0, 0⟩], 0⟩ id (decide (n > 0)) = ⟨out ++ pfield last id (byte (fk n)), [⟨false, id, 0, 0⟩], 0⟩ := by
  unfold CS.flag CS.flagK fk
  by_cases h : n > 0
  · rw [if_pos (decide_eq_true h), may_one (by decide) hi, if_pos rfl, if_pos h, if_neg (by simp [CS.top])]
  · rw [if_neg (by simp; omega), may_one (by decide) hi, if_pos rfl, if_neg h, if_neg (by simp [CS.top])]
theorem fin_one {out : List UInt8} {id : Int} : CS.fin ⟨out, [⟨false, id, 0, 0⟩], 0⟩ = ⟨out ++ [0], [], 0⟩ := rfl
theorem done_one {out : List UInt8} : CS.done ⟨out, [], 0⟩ = (out, 0) := rfl
/-! its bytes -/
def oA (a0 n : Int) : List UInt8 := [] ++ pfield 0 a0 (byte 6) ++ vput (zigN n)
def oB (a0 a1 n : Int) (b : Nat) : List UInt8 := oA a0 n ++ pfield a0 a1 (byte 7) ++ low 8 b
def oC (a0 a1 a2 n : Int) (b : Nat) (t : List UInt8) : List UInt8 := oB a0 a1 n b ++ pfield a1 a2 (byte 8) ++ (vput t.length ++ t)
def oD (a0 a1 a2 a3 n : Int) (b : Nat) (t : List UInt8) : List UInt8 := oC a0 a1 a2 n b t ++ pfield a2 a3 (byte (fk n))
def fds (a0 a1 a2 a3 n : Int) (b : Nat) (t : List UInt8) : List Fd := [⟨a0, 6, n, 0, [], []⟩, ⟨a1, 7, 0, b, [], []⟩, ⟨a2, 8, 0, 0, t, []⟩, ⟨a3, fk n, if fk n = 1 then 1 else 0, 0, [], []⟩]
theorem sRun_it {a0 a1 a2 a3 n : Int} {b : Nat} {t : List UInt8} (h0 : inR a0) (h1 : inR a1) (h2 : inR a2) (h3 : inR a3) (hn : -9223372036854775808 ≤ n ∧ n ≤ 9223372036854775807)
    (hb : b < 18446744073709551616) (ht : t.length < 18446744073709551616) :
    sRun (oD a0 a1 a2 a3 n b t ++ [0]) = some (fds a0 a1 a2 a3 n b t, cu (oD a0 a1 a2 a3 n b t ++ [0]) (oD a0 a1 a2 a3 n b t ++ [0]).length) := by
  have hk := fk_ok n
  have p0 := pfield_pos (last := 0) (id := a0) (k := 6) (by decide) h0
  have p1 := pfield_pos (last := a0) (id := a1) (k := 7) (by decide) h1
  have p2 := pfield_pos (last := a1) (id := a2) (k := 8) (by decide) h2
  have p3 := pfield_pos (last := a2) (id := a3) (k := fk n) (by omega) h3
  have e : oD a0 a1 a2 a3 n b t ++ [0] = pfield 0 a0 (byte 6) ++ (vput (zigN n) ++ (pfield a0 a1 (byte 7) ++ (low 8 b ++ (pfield a1 a2 (byte 8) ++ ((vput t.length ++ t) ++ (pfield a2 a3 (byte (fk n)) ++ [0])))))) := by
    simp [oD, oC, oB, oA]
  have hr : Rd (oD a0 a1 a2 a3 n b t ++ [0]) (pfield 0 a0 (byte 6) ++ (vput (zigN n) ++ (pfield a0 a1 (byte 7) ++ (low 8 b ++ (pfield a1 a2 (byte 8) ++ ((vput t.length ++ t) ++ (pfield a2 a3 (byte (fk n)) ++ [0]))))))) 0 := ⟨[], [], by rw [e]; simp, rfl⟩
  have hl := congrArg List.length e
  generalize oD a0 a1 a2 a3 n b t ++ [0] = s at *
  obtain ⟨m, hm⟩ : ∃ m, s.length + 1 = m + 5 := ⟨s.length - 4, by simp only [List.length_append, List.length_singleton] at hl; omega⟩
  obtain ⟨r0, hr⟩ := hr.app
  obtain ⟨r1, hr⟩ := hr.app
  obtain ⟨r2, hr⟩ := hr.app
  obtain ⟨r3, hr⟩ := hr.app
  obtain ⟨r4, hr⟩ := hr.app
  obtain ⟨r5, hr⟩ := hr.app
  obtain ⟨r6, r7⟩ := hr.app
  obtain ⟨n1, n2⟩ := num_put hn r1
  have l3 := low_read hb r3
  have t5 := text_put ht r5
  have k1 : kOk 6 := by decide
  have k2 : kOk 7 := by decide
  have k3 : kOk 8 := by decide
  have k4 : kOk (fk n) := by unfold kOk; omega
  have v1 : valC ⟨a0, 6, 0, 0, [], []⟩ (cu s (0 + (pfield 0 a0 (byte 6)).length)) = cu s (0 + (pfield 0 a0 (byte 6)).length + (vput (zigN n)).length) := n2
  have w1 : valF ⟨a0, 6, 0, 0, [], []⟩ (cu s (0 + (pfield 0 a0 (byte 6)).length)) = ⟨a0, 6, n, 0, [], []⟩ := by
    show (⟨a0, 6, (cu s (0 + (pfield 0 a0 (byte 6)).length)).num64, 0, [], []⟩ : Fd) = _
    rw [n1]
  unfold sRun
  rw [hm]
  show sGo (m + 5) (cu s 0) 0 [] = _
  rw [sGo, fld_put (by decide) h0 r0, if_neg (show ¬ (6 : Int) = 0 by decide), if_pos k1, v1, w1]
  rw [sGo, fld_put (by decide) h1 r2, if_neg (show ¬ (7 : Int) = 0 by decide), if_pos k2]
  rw [show valC ⟨a1, 7, 0, 0, [], []⟩ (cu s (0 + (pfield 0 a0 (byte 6)).length + (vput (zigN n)).length + (pfield a0 a1 (byte 7)).length)) = (cu s (0 + (pfield 0 a0 (byte 6)).length + (vput (zigN n)).length + (pfield a0 a1 (byte 7)).length)).low64.2 from rfl,
    show valF ⟨a1, 7, 0, 0, [], []⟩ (cu s (0 + (pfield 0 a0 (byte 6)).length + (vput (zigN n)).length + (pfield a0 a1 (byte 7)).length)) = ⟨a1, 7, 0, (cu s (0 + (pfield 0 a0 (byte 6)).length + (vput (zigN n)).length + (pfield a0 a1 (byte 7)).length)).low64.1, [], []⟩ from rfl, l3]
  rw [sGo, fld_put (by decide) h2 r4, if_neg (show ¬ (8 : Int) = 0 by decide), if_pos k3]
  rw [show ∀ c, valC ⟨a2, 8, 0, 0, [], []⟩ c = c.text.2 from fun _ => rfl, show ∀ c, valF ⟨a2, 8, 0, 0, [], []⟩ c = ⟨a2, 8, 0, 0, c.text.1, []⟩ from fun _ => rfl, t5]
  rw [sGo, fld_put (by omega) h3 r6, if_neg (show ¬ fk n = 0 by omega), if_pos k4]
  rw [show ∀ c, valC ⟨a3, fk n, 0, 0, [], []⟩ c = c from fun c => by
      unfold valC; rcases hk with h | h <;> rw [h] <;> rfl,
    show ∀ c, valF ⟨a3, fk n, 0, 0, [], []⟩ c = ⟨a3, fk n, if fk n = 1 then 1 else 0, 0, [], []⟩ from fun c => by
      unfold valF; rcases hk with h | h <;> rw [h] <;> rfl]
  rw [sGo, fld_stop r7, if_pos rfl]
  have r7l := r7.take.2
  refine congrArg some (Prod.ext rfl ?_)
  show cu s _ = cu s _
  rw [show s.length = _ from hl]
  simp only [List.length_append, List.length_singleton]
  rw [show ∀ x y : Nat, x = y → cu s x = cu s y from fun _ _ h => by rw [h]]
  omega
end Go.Proofs.YtcgjkjabcdeagaaDoor
