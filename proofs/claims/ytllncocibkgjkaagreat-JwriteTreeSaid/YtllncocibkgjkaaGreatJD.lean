/-
  A part of the proof.
-/
import Derived.Test.YtllncocibkgjkaaGreatJSp
set_option linter.unusedSimpArgs false
set_option linter.unusedVariables false
set_option maxHeartbeats 4000000
namespace Go.Proofs.YtllncocibkgjkaaGreat
open Go Go.VG
set_option maxRecDepth 100000
theorem FI (b : UInt8) (hp : True) : OK 147 ([bv b]) ([]) (.tuple [.int .i64 (dq b), .bool (ew b)]) (none) := by
 refine aq (C := cx []) (ar trivial) (fn := Tryz.f147) rfl rfl rfl rfl fun hw hs => ?_
 have hb : b.toNat < 256 := b.toNat_lt
 repeat' ((conv => whnf); (apply al <;> intro h))
 all_goals try conv => whnf
 all_goals try (refine ab.mk ?_; try dsimp only)
 all_goals try refine stay ?_
 all_goals
  unfold dq ew
  first | rw [decide_eq_true (by omega)] | rw [decide_eq_false (by omega)]
  repeat (first | rw [if_pos (by omega)] | rw [if_neg (by omega)])
  refine a8.mk [] ?_ <;> (repeat' first | trivial | apply aj | apply aR | apply ky | apply jr | apply dm)
 all_goals (first | omega | (simp (discharger := omega) only [wR]; omega))
def wQ : Sm := fun args σ => match args, σ with
 | [.int .u8 n_b], [] => some ((0 ≤ n_b ∧ n_b ≤ 255) ∧ (True), .tuple [.int .i64 (dq (byte n_b)), .bool (ew (byte n_b))], none)
 | _, _ => none
theorem HP : ay 147 wQ := by
 intro args sg pre x r he hp
 unfold wQ at he
 split at he <;> cases he
 . rw [dw (hp).1]; exact FI (hp := hp.2) ..
def ba (t : List UInt8) : Nat → Nat → Int → Int × Int
 | 0, _, n => (n, 0)
 | r + 1, i, n => if t.length ≤ i then (0, 1) else if ew (cf (t.getD i 0)) = true then ba t r (i + 1) (16 * n + dq (cf (t.getD i 0))) else (0, 6)
termination_by r => r
def fE (b : UInt8) : List UInt8 := if dW b = true then [byte (kb b)] else []
theorem re (t : List UInt8) : ∀ (r i : Nat) (n : Int) (m : Nat), 0 ≤ n → n < m → 0 < m → 0 ≤ (ba t r i n).1 ∧ (ba t r i n).1 < ((m * 16 ^ r : Nat) : Int)
 | 0, _, n, m, h0, h, _ => by rw [ba]; simpa using ⟨h0, h⟩
 | r + 1, i, n, m, h0, h, hm => by
   have hp : 0 < m * 16 ^ (r + 1) := Nat.mul_pos hm (Nat.pow_pos (by decide))
   have hv := ow (cf (t.getD i 0))
   rw [ba]; repeat' split
   . simp only; omega
   . have := re t r (i + 1) (16 * n + dq (cf (t.getD i 0))) (16 * m) (by omega) (by omega) (by omega)
     rw [Nat.pow_succ, ← Nat.mul_assoc, Nat.mul_right_comm, Nat.mul_comm m 16]; exact this
   . simp only; omega
theorem FQ (t : List UInt8) (i : Nat) (hp : t.length ≤ 100000000 ∧ i ≤ 200000000) : OK 137 ([.str t, .int .i64 i]) ([]) (.tuple [.int .i64 (ba t 4 i 0).1, .int .i64 (ba t 4 i 0).2]) (none) := by
  refine aq (C := cx [(147, wQ)]) (ar ⟨HP, trivial⟩) (fn := Tryz.f137) rfl rfl rfl rfl fun hw hs => ?_
  obtain ⟨hl, hi⟩ := hp
  refine bn.mk (Nat × Int) (fun | (k, n) => k ≤ 4 ∧ 0 ≤ n ∧ n < ((16 ^ k : Nat) : Int) ∧ ba t (4 - k) (i + k) n = ba t 4 i 0)
   (fun | (k, n) => ⟨45, [(0, .str t), (1, .int .i64 i), (6, .int .i64 n), (7, .int .i64 ((i + k : Nat) : Int))], [], []⟩) (fun x => 4 - x.1) [] (0, 0) ⟨by omega, by omega, by decide, rfl⟩ ?_ (fun ⟨k, n⟩ ⟨hk, hn, hn2, he⟩ _ _ => ?_)
  . refine Go.VG.Sub.mk rfl ?_ ?_ ?_ ?_ <;> (repeat' first | trivial)
  have hw4 : IntKind.i64.wrap ((i : Int) + 4) = i + 4 := by (simp (discharger := omega) only [wR]; omega)
  have h16 : k < 4 → n < 4096 := fun h => by
   have : (16 : Nat) ^ k ≤ 16 ^ 3 := Nat.pow_le_pow_right (by decide) (by omega)
   omega
  have hb : (t.getD (i + k) 0).toNat < 256 := UInt8.toNat_lt _
  have hv := ow (cf (t.getD (i + k) 0))
  have e1 : 65 ≤ (t.getD (i + k) 0).toNat ∧ (t.getD (i + k) 0).toNat ≤ 70 → byte (IntKind.u8.wrap ((t.getD (i + k) 0).toNat + 32)) = cf (t.getD (i + k) 0) := fun h => by
   unfold cf; rw [if_pos h, ko, show (((t.getD (i + k) 0).toNat : Int) + 32) % 256 = (t.getD (i + k) 0).toNat + 32 by omega]
  have e2 : ¬ (65 ≤ (t.getD (i + k) 0).toNat ∧ (t.getD (i + k) 0).toNat ≤ 70) → byte (t.getD (i + k) 0).toNat = cf (t.getD (i + k) 0) := fun h => by
   unfold cf; rw [if_neg h, c5]
  repeat' ((conv => whnf); first | apply ak | apply aV | (apply al <;> intro h) | with_reducible refine et ?_ fun hc => ?_)
  all_goals try conv => whnf
  all_goals try (refine ab.mk ?_; try dsimp only)
  all_goals (try simp only [aP] at *)
  all_goals first | refine stay ?_ | omega | (simp (discharger := omega) [-List.getD_eq_getElem?_getD, wR] <;> omega) | skip
  all_goals (try rw [hw4] at *)
  all_goals (first | rw [e1 (by omega)] at * | rw [e2 (by omega)] at * | skip)
  all_goals first
   | (have hlt : k < 4 := by omega
      rw [show 4 - k = (4 - k - 1) + 1 by omega, ba] at he
      first
      | (rw [if_pos (by omega)] at he
         rw [← he]
         refine a8.mk [] ?_ <;> (repeat' first | trivial)
         done)
      | (have hn' : ew (cf (t.getD (i + k) 0)) = true := decide_eq_true (by assumption)
         rw [if_neg (by omega), if_pos hn'] at he
         have h3 := h16 hlt
         refine ⟨[], (k + 1, 16 * n + dq (cf (t.getD (i + k) 0))), ⟨by omega, by show 0 ≤ 16 * n + _; omega, ?_, ?_⟩, ?_, by show 4 - (k + 1) < 4 - k; omega⟩
         . show 16 * n + _ < ((16 ^ (k + 1) : Nat) : Int)
           rw [Nat.pow_succ]; omega
         . rw [show 4 - (k + 1) = 4 - k - 1 by omega, show i + (k + 1) = i + k + 1 by omega]; exact he
         . refine Go.VG.Sub.mk rfl ?_ ?_ ?_ ?_ <;> (repeat' first | trivial | apply aj | apply aR)
           all_goals (simp (discharger := omega) only [wR]; omega)
         done)
      | (have hn' : ew (cf (t.getD (i + k) 0)) = false := decide_eq_false (by assumption)
         rw [if_neg (by omega), if_neg (by rw [hn']; exact Bool.false_ne_true)] at he
         rw [← he]
         refine a8.mk [] ?_ <;> (repeat' first | trivial)
         done))
   | skip
  . rw [show 4 - k = 0 by omega, ba] at he
    rw [← he]
    refine a8.mk [] ?_ <;> (repeat' first | trivial)
def M0 : Sm := fun args σ => match args, σ with
 | [.str t, .int .i64 (.ofNat i)], [] => some (t.length ≤ 100000000 ∧ i ≤ 200000000, .tuple [.int .i64 (ba t 4 i 0).1, .int .i64 (ba t 4 i 0).2], none)
 | _, _ => none
def lJ : List UInt8 := [34, 92, 47, 98, 102, 110, 114, 116]
def toL : List UInt8 := [34, 92, 47, 8, 12, 10, 13, 9]
theorem L6 : ∀ i, i < 8 → fE (lJ.getD i 0) = [toL.getD i 0] := by decide
theorem La {b : UInt8} (h : ∀ j, j < 8 → lJ.getD j 0 ≠ b) : fE b = [] := by
 unfold fE
 rw [if_neg]
 intro hp
 unfold dW at hp
 rw [decide_eq_true_eq] at hp
 have key : ∀ n : Nat, n = b.toNat → ∀ j, j < 8 → lJ.getD j 0 = UInt8.ofNat n → False := fun n hn j hj e => h j hj (by rw [e, hn, UInt8.ofNat_toNat])
 rcases hp with q | q | q | q | q | q | q | q
 . exact key _ q.symm 0 (by decide) rfl
 . exact key _ q.symm 1 (by decide) rfl
 . exact key _ q.symm 2 (by decide) rfl
 . exact key _ q.symm 3 (by decide) rfl
 . exact key _ q.symm 4 (by decide) rfl
 . exact key _ q.symm 5 (by decide) rfl
 . exact key _ q.symm 6 (by decide) rfl
 . exact key _ q.symm 7 (by decide) rfl
theorem FX (b : UInt8) (hp : True) : OK 136 ([bv b]) ([]) (.str (fE b)) (none) := by
 refine aq (C := cx []) (ar trivial) (fn := Tryz.f136) rfl rfl rfl rfl fun hw hs => ?_
 have hb : b.toNat < 256 := b.toNat_lt
 all_goals try conv => whnf
 all_goals try (refine ab.mk ?_; try dsimp only)
 all_goals (try simp only [aP] at *)
 all_goals try refine stay ?_
 refine bn.mk Nat (fun i => i ≤ 8 ∧ ∀ j, j < i → lJ.getD j 0 ≠ b) (fun i => ⟨22, [(0, .int .u8 b.toNat), (3, .str lJ), (4, .str toL), (5, .int .i64 i)], [], []⟩) (fun i => 8 - i) [] 0 ⟨by omega, by simp⟩ ?_ (fun i ⟨hi, hj⟩ _ _ => ?_)
 . refine Go.VG.Sub.mk rfl ?_ ?_ ?_ ?_ <;> (repeat' first | trivial)
 have hl : lJ.length = 8 := rfl
 have hl2 : toL.length = 8 := rfl
 have ha := L6 i
 have hx : (lJ.getD i 0).toNat < 256 := UInt8.toNat_lt _
 repeat' ((conv => whnf); first | apply ak | (apply al <;> intro h) | with_reducible refine et ?_ fun hc => ?_)
 all_goals try conv => whnf
 all_goals try (refine ab.mk ?_; try dsimp only)
 all_goals (try simp only [aP] at *)
 all_goals first | refine stay ?_ | omega | (simp (discharger := omega) only [wR]; omega) | skip
 . have e : lJ.getD i 0 = b := UInt8.toNat_inj.1 (by omega)
   have ha := ha (by omega)
   rw [e] at ha
   refine a8.mk [] ?_ <;> (repeat' first | trivial | apply aj | apply hH)
   rw [ha, show (IntKind.i64.wrap ((i : Int) + 1)).toNat = i + 1 by (simp (discharger := omega) only [wR]; omega)]
   exact rb 0 (by rw [hl2]; omega)
 . refine ⟨[], i + 1, ⟨by omega, fun j hjj => ?_⟩, ?_, by omega⟩
   . by_cases e : j = i
     . subst e; intro e; have := congrArg UInt8.toNat e; omega
     . exact hj j (by omega)
   . refine Go.VG.Sub.mk rfl ?_ ?_ ?_ ?_ <;> (repeat' first | trivial | apply aj | apply aR)
     (simp (discharger := omega) only [wR]; omega)
 . refine a8.mk [] ?_ <;> (repeat' first | trivial | apply aj | apply hH)
   rw [La fun j h => hj j (by omega)]
def wZ : Sm := fun args σ => match args, σ with
 | [.int .u8 n_b], [] => some ((0 ≤ n_b ∧ n_b ≤ 255) ∧ (True), .str (fE (byte n_b)), none)
 | _, _ => none
theorem HY : ay 136 wZ := by
 intro args sg pre x r he hp
 unfold wZ at he
 split at he <;> cases he
 . rw [dw (hp).1]; exact FX (hp := hp.2) ..
theorem FP (t : List UInt8) (q : Int) (hp : t.length ≤ 100000000 ∧ 0 ≤ q ∧ q ≤ 200000000) : OK 137 ([.str t, .int .i64 q]) ([]) (.tuple [.int .i64 (ba t 4 q.toNat 0).1, .int .i64 (ba t 4 q.toNat 0).2]) (none) := by
 obtain ⟨i, rfl⟩ := Int.eq_ofNat_of_zero_le hp.2.1
 exact FQ t i ⟨hp.1, by omega⟩
def ta : Sm := fun args σ => match args, σ with
 | [.str t, .int .i64 q], [] => some (t.length ≤ 100000000 ∧ 0 ≤ q ∧ q ≤ 200000000, .tuple [.int .i64 (ba t 4 q.toNat 0).1, .int .i64 (ba t 4 q.toNat 0).2], none)
 | _, _ => none
theorem Aj : ay 137 ta := by
 intro args sg pre x r he hp
 unfold ta at he
 split at he <;> cases he
 . exact FP (hp := hp) ..
def cL (t : List UInt8) (i : Nat) (n : Int) : List UInt8 × Int × Int :=
 if t.length ≤ i then ([], 0, 1) else if (t.getD i 0).toNat ≠ 92 then ([], 0, 6)
 else if t.length ≤ i + 1 then ([], 0, 1) else if (t.getD (i + 1) 0).toNat ≠ 117 then ([], 0, 6)
 else if (ba t 4 (i + 2) 0).2 ≠ 0 then ([], 0, (ba t 4 (i + 2) 0).2)
 else if (ba t 4 (i + 2) 0).1 < 56320 ∨ 57343 < (ba t 4 (i + 2) 0).1 then ([], 0, 6)
 else (aZ (65536 + 1024 * (n - 55296) + (ba t 4 (i + 2) 0).1 - 56320), (i : Int) + 6, 0)
theorem bu (j : Nat) : ([92, 117] : List UInt8).getD j 0 = if j = 0 then 92 else if j = 1 then 117 else 0 := by
 match j with
 | 0 => rfl
 | 1 => rfl
 | j + 2 => simp
theorem FV (t : List UInt8) (i : Nat) (n : Int) (hp : (t.length ≤ 100000000 ∧ i ≤ 100000000) ∧ 55296 ≤ n ∧ n ≤ 56319) : OK 138 ([.str t, .int .i64 i, .int .i64 n]) ([]) (.tuple [.str (cL t i n).1, .int .i64 (cL t i n).2.1, .int .i64 (cL t i n).2.2]) (none) := by
  refine aq (C := cx [(137, ta), (139, qA)]) (ar ⟨Aj, uQ, trivial⟩) (fn := Tryz.f138) rfl rfl rfl rfl fun hw hs => ?_
  obtain ⟨⟨hl, hi⟩, hn⟩ := hp
  have hd := re t 4 (i + 2) 0 1 (by decide) (by decide) (by decide)
  refine bn.mk Nat (fun j => j ≤ 2 ∧ (0 < j → i < t.length ∧ (t.getD i 0).toNat = 92) ∧ (1 < j → i + 1 < t.length ∧ (t.getD (i + 1) 0).toNat = 117)) (fun j => ⟨57, [(0, .str t), (1, .int .i64 i), (2, .int .i64 n), (9, .int .i64 j)], [], []⟩) (fun j => 2 - j) [] 0 ⟨by omega, by omega, by omega⟩ ?_ (fun j ⟨hj, hj1, hj2⟩ _ _ => ?_)
  . refine Go.VG.Sub.mk rfl ?_ ?_ ?_ ?_ <;> (repeat' first | trivial)
  have hij : (IntKind.i64.wrap ((i : Int) + j)).toNat = i + j := by (simp (discharger := omega) only [wR]; omega)
  have hij2 : IntKind.i64.wrap ((i : Int) + j) = ((i + j : Nat) : Int) := by (simp (discharger := omega) only [wR]; omega)
  have hi2 : IntKind.i64.wrap ((i : Int) + 2) = ((i + 2 : Nat) : Int) := by (simp (discharger := omega) only [wR]; omega)
  have hi3 : (IntKind.i64.wrap ((i : Int) + 2)).toNat = i + 2 := by omega
  repeat' ((conv => whnf); first | apply ak | apply aV | (apply al <;> intro h) | with_reducible (first | refine et ?_ fun hc => ?_ | refine mG ?_ fun hc => ?_))
  all_goals try conv => whnf
  all_goals try (refine ab.mk ?_; try dsimp only)
  all_goals (try simp only [bu, hi3] at *)
  all_goals first | refine stay ?_ | omega | (simp (discharger := omega) only [wR]; omega) | (simp only [cK]; omega) | skip
  all_goals (try rw [hij] at *)
  all_goals (try rw [hij2] at *)
  all_goals first
   | (have hjl : j < 2 := by omega
      rcases (show j = 0 ∨ j = 1 by omega) with rfl | rfl
      all_goals (try simp only [if_true, show ¬ (1 : Nat) = 0 by decide, if_false, Nat.add_zero, show (92 : UInt8).toNat = 92 from rfl, show (117 : UInt8).toNat = 117 from rfl] at *)
      all_goals first
       | (show a8 _ _ _ _ _ _
          unfold cL
          repeat (first | rw [if_pos (by omega)] | rw [if_neg (by omega)])
          refine a8.mk [] ?_ <;> (repeat' first | trivial)
          done)
       | (refine ⟨[], 1, ⟨by omega, fun _ => ⟨by omega, by omega⟩, by omega⟩, ?_, by show 2 - 1 < 2 - 0; omega⟩
          refine Go.VG.Sub.mk rfl ?_ ?_ ?_ ?_ <;> (repeat' first | trivial)
          done)
       | (refine ⟨[], 2, ⟨by omega, fun _ => ⟨by omega, by omega⟩, fun _ => ⟨by omega, by omega⟩⟩, ?_, by show 2 - 2 < 2 - 1; omega⟩
          refine Go.VG.Sub.mk rfl ?_ ?_ ?_ ?_ <;> (repeat' first | trivial)
          done))
   | (have h1 := hj1 (by omega)
      have h2 := hj2 (by omega)
      unfold cL
      repeat (first | rw [if_pos (by omega)] | rw [if_neg (by omega)])
      refine a8.mk [] ?_ <;> (repeat' first | trivial | apply aj | apply hH | apply aR | apply jr | apply dm)
      done)
   | skip
  . have h1 := hj1 (by omega)
    have h2 := hj2 (by omega)
    unfold cL
    repeat (first | rw [if_pos (by omega)] | rw [if_neg (by omega)])
    refine a8.mk [] ?_ <;> (repeat' first | trivial | apply aj | apply hH | apply aR | apply jr | apply dm)
    . refine congrArg aZ ?_
      simp only [gU, kn]; omega
    . (simp (discharger := omega) only [wR]; omega)
def cA (t : List UInt8) (i : Nat) : List UInt8 × Int × Int :=
 if t.length ≤ i then ([], 0, 1)
 else if (t.getD i 0).toNat ≠ 117 then (if dW (t.getD i 0) = true then (fE (t.getD i 0), (i : Int) + 1, 0) else ([], 0, 6))
 else if (ba t 4 (i + 1) 0).2 ≠ 0 then ([], 0, (ba t 4 (i + 1) 0).2)
 else if 55296 ≤ (ba t 4 (i + 1) 0).1 ∧ (ba t 4 (i + 1) 0).1 ≤ 56319 then cL t (i + 5) (ba t 4 (i + 1) 0).1
 else if 56320 ≤ (ba t 4 (i + 1) 0).1 ∧ (ba t 4 (i + 1) 0).1 ≤ 57343 then ([], 0, 6)
 else (aZ (ba t 4 (i + 1) 0).1, (i : Int) + 5, 0)
theorem FU (t : List UInt8) (q : Int) (n : Int) (hp : (t.length ≤ 100000000 ∧ 0 ≤ q ∧ q ≤ 100000000) ∧ 55296 ≤ n ∧ n ≤ 56319) : OK 138 ([.str t, .int .i64 q, .int .i64 n]) ([]) (.tuple [.str (cL t q.toNat n).1, .int .i64 (cL t q.toNat n).2.1, .int .i64 (cL t q.toNat n).2.2]) (none) := by
 obtain ⟨i, rfl⟩ := Int.eq_ofNat_of_zero_le hp.1.2.1
 exact FV t i n ⟨⟨hp.1.1, by omega⟩, hp.2⟩
def wX : Sm := fun args σ => match args, σ with
 | [.str t, .int .i64 q, .int .i64 n], [] => some ((t.length ≤ 100000000 ∧ 0 ≤ q ∧ q ≤ 100000000) ∧ 55296 ≤ n ∧ n ≤ 56319, .tuple [.str (cL t q.toNat n).1, .int .i64 (cL t q.toNat n).2.1, .int .i64 (cL t q.toNat n).2.2], none)
 | _, _ => none
theorem HW : ay 138 wX := by
 intro args sg pre x r he hp
 unfold wX at he
 split at he <;> cases he
 . exact FU (hp := hp) ..
theorem L9 {b : UInt8} (h : fE b = []) : dW b = false := by
 unfold fE at h
 cases hp : dW b with
 | false => rfl
 | true => rw [hp, if_pos rfl] at h; cases h
theorem L8 {b : UInt8} (h : fE b ≠ []) : dW b = true := by
 unfold fE at h
 cases hp : dW b with
 | true => rfl
 | false => rw [hp, if_neg Bool.false_ne_true] at h; exact absurd rfl h
theorem FT (t : List UInt8) (i : Nat) (hp : t.length ≤ 90000000 ∧ i ≤ 90000000) : OK 129 ([.str t, .int .i64 i]) ([]) (.tuple [.str (cA t i).1, .int .i64 (cA t i).2.1, .int .i64 (cA t i).2.2]) (none) := by
 refine aq (C := cx [(136, wZ), (137, ta), (138, wX), (139, qA)]) (ar ⟨HY, Aj, HW, uQ, trivial⟩) (fn := Tryz.f129) rfl rfl rfl rfl fun hw hs => ?_
 obtain ⟨hl, hi⟩ := hp
 have hd := re t 4 (i + 1) 0 1 (by decide) (by decide) (by decide)
 have hi1 : (IntKind.i64.wrap ((i : Int) + 1)).toNat = i + 1 := by (simp (discharger := omega) only [wR]; omega)
 have hi5 : (IntKind.i64.wrap ((i : Int) + 5)).toNat = i + 5 := by (simp (discharger := omega) only [wR]; omega)
 have hbb : byte ((t.getD i 0).toNat : Int) = t.getD i 0 := c5 _
 repeat' ((conv => whnf); first | apply ak | apply aV | ((first | apply al | apply go9) <;> intro h) | with_reducible refine et ?_ fun hc => ?_)
 all_goals try conv => whnf
 all_goals try (refine ab.mk ?_; try dsimp only)
 all_goals (try simp only [hi1, hi5, hbb] at *)
 all_goals first | refine stay ?_ | omega | (simp (discharger := omega) only [wR]; omega) | (simp (discharger := omega) [-List.getD_eq_getElem?_getD, wR] <;> omega) | skip
 all_goals
  first
  | (have hpl : dW (t.getD i 0) = false := L9 (by assumption))
  | (have hpl : dW (t.getD i 0) = true := L8 (by assumption))
  | (have hpl : dW (t.getD i 0) = dW (t.getD i 0) := rfl)
  unfold cA
  repeat (first | rw [if_pos (by first | omega | exact hpl)] | rw [if_neg (by first | omega | (rw [hpl]; exact Bool.false_ne_true))])
  refine a8.mk [] ?_ <;> (repeat' first | trivial | apply aj | apply hH | apply aR | apply jr | apply dm)
 all_goals first
  | (refine congrArg aZ ?_
     simp only [kn]; omega)
  | (first | omega | (simp (discharger := omega) only [wR]; omega))
end Go.Proofs.YtllncocibkgjkaaGreat
