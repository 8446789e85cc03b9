/-
  A text of JSON as the document reads it.
-/
import Derived.Test.YtllncocibkgjkaaJSp
set_option linter.unusedSimpArgs false
set_option linter.unusedVariables false
set_option maxHeartbeats 4000000
namespace Go.Proofs.Ytllncocibkgjkaa
open Go Go.VG
set_option maxRecDepth 100000
theorem a9t (b : UInt8) (hp : True) : OK 126 ([bv b]) ([]) (.tuple [.int .i64 (asm b), .bool (ahz b)]) (none) := by
  refine aa0 (C := cx []) (abh trivial) (fn := Try.f126) rfl rfl rfl rfl fun hw hs => ?_
  have hb : b.toNat < 256 := b.toNat_lt
  repeat' ((conv => whnf); first | with_reducible (first | refine go1 (fun j q h => ?_) fun h => ?_ | refine go2 ⟨rfl, rfl⟩ (fun h => ?_) fun j h => ?_ | refine go2 ?_ (fun h => ?_) fun j h => ?_ | refine goQ ?_ (fun h => ?_) fun h => ?_) | refine go3 ?_ ?_ | refine go4 ?_ ?_ | refine go5 ?_ | ((first | refine go6 ?_ ?_ | refine go7 ?_ ?_ | refine go8 ?_ ?_ | refine go9 ?_ ?_ | refine goA ?_ ?_) <;> intro h) | with_reducible (first | refine aai.mk _ rfl ?_ | refine goB ?_ fun hc => ?_ | refine goC ?_ fun hc => ?_ | refine goD ?_ fun hc => ?_ | refine goE ?_ fun hc => ?_ | refine goF ?_ ?_ | refine goG ?_ ?_ | refine goH ?_ fun b hb => ?_) | refine goI ?_ | refine goJ ?_ ?_ | refine goK ?_ ?_ ?_ | refine goL ?_ ?_ ?_ ?_ | refine goM ?_ ?_ ?_ ?_ ?_ | refine goN ?_ ?_ | refine goO ?_ ?_ | with_reducible refine goP ?_)
  all_goals try conv => whnf
  all_goals try (refine aac.mk ?_; try dsimp only)
  all_goals (try simp only [aa3] at *)
  all_goals first
    | (refine stay ?_)
    | (first | trivial | omega | (simp (discharger := omega) only [wR]; omega) | (simp only [lnS]; omega) | (simp (discharger := omega) [-List.getD_eq_getElem?_getD, wR] <;> omega)) | skip
  all_goals
    unfold asm ahz
    first | rw [decide_eq_true (by omega)] | rw [decide_eq_false (by omega)]
    repeat (first | rw [if_pos (by omega)] | rw [if_neg (by omega)])
    refine aa9.mk [] ?_ <;> (repeat' first | trivial | rfl | exact eqS _ _ | apply And.intro | apply eqA | apply eqB | apply eqC | apply eqD | apply eqE | apply eqF | apply eqG | apply eqH | apply eqI)
  all_goals (first | omega | (simp (discharger := omega) only [wR]; omega) | (simp only [lnS]; omega) | (simp (discharger := omega) [-List.getD_eq_getElem?_getD, wR] <;> omega))
def a05 : Sm := fun args σ => match args, σ with
  | [.int .u8 n_b], [] => some ((0 ≤ n_b ∧ n_b ≤ 255) ∧ (True), .tuple [.int .i64 (asm (byte n_b)), .bool (ahz (byte n_b))], none)
  | _, _ => none
theorem k_nibD : SOK 126 a05 := by
  intro args sg pre x r he hp
  unfold a05 at he
  split at he <;> cases he
  · rw [af3 (hp).1]; exact a9t (hp := hp.2) ..
def afc (t : List UInt8) : Nat → Nat → Int → Int × Int
  | 0, _, n => (n, 0)
  | r + 1, i, n => if t.length ≤ i then (0, 1) else if ahz (amy (t.getD i 0)) = true then afc t r (i + 1) (16 * n + asm (amy (t.getD i 0))) else (0, 6)
termination_by r => r
def ae8 (b : UInt8) : List UInt8 := if ac1 b = true then [byte (axb b)] else []
theorem amj (t : List UInt8) : ∀ (r i : Nat) (n : Int) (m : Nat), 0 ≤ n → n < m → 0 < m → 0 ≤ (afc t r i n).1 ∧ (afc t r i n).1 < ((m * 16 ^ r : Nat) : Int)
  | 0, _, n, m, h0, h, _ => by rw [afc]; simpa using ⟨h0, h⟩
  | r + 1, i, n, m, h0, h, hm => by
    have hp : 0 < m * 16 ^ (r + 1) := Nat.mul_pos hm (Nat.pow_pos (by decide))
    have hv := an0 (amy (t.getD i 0))
    rw [afc]; repeat' split
    · simp only; omega
    · have := amj t r (i + 1) (16 * n + asm (amy (t.getD i 0))) (16 * m) (by omega) (by omega) (by omega)
      rw [Nat.pow_succ, ← Nat.mul_assoc, Nat.mul_right_comm, Nat.mul_comm m 16]; exact this
    · simp only; omega
theorem atn (t : List UInt8) (i : Nat) (hp : t.length ≤ 100000000 ∧ i ≤ 200000000) : OK 117 ([.str t, .int .i64 i]) ([]) (.tuple [.int .i64 (afc t 4 i 0).1, .int .i64 (afc t 4 i 0).2]) (none) := by
  refine aa0 (C := cx [(126, a05)]) (abh ⟨k_nibD, trivial⟩) (fn := Try.f117) rfl rfl rfl rfl fun hw hs => ?_
  obtain ⟨hl, hi⟩ := hp
  refine abt.mk (Nat × Int) (fun | (k, n) => k ≤ 4 ∧ 0 ≤ n ∧ n < ((16 ^ k : Nat) : Int) ∧ afc t (4 - k) (i + k) n = afc t 4 i 0)
    (fun | (k, n) => ⟨45, [(0, .str t), (1, .int .i64 i), (6, .int .i64 n), (7, .int .i64 ((i + k : Nat) : Int))], [], []⟩) (fun x => 4 - x.1) [] (0, 0) ⟨by omega, by omega, by decide, rfl⟩ ?_ (fun ⟨k, n⟩ ⟨hk, hn, hn2, he⟩ _ _ => ?_)
  · refine Go.VG.Sub.mk rfl ?_ ?_ ?_ ?_ <;> (repeat' first | trivial | rfl | exact eqS _ _ | apply And.intro | apply eqA | apply eqB | apply eqC | apply eqD | apply eqE | apply eqF | apply eqG | apply eqH | apply eqI)
  have hw4 : IntKind.i64.wrap ((i : Int) + 4) = i + 4 := by (first | omega | (simp (discharger := omega) only [wR]; omega) | (simp only [lnS]; omega) | (simp (discharger := omega) [-List.getD_eq_getElem?_getD, wR] <;> omega))
  have h16 : k < 4 → n < 4096 := fun h => by
    have : (16 : Nat) ^ k ≤ 16 ^ 3 := Nat.pow_le_pow_right (by decide) (by omega)
    omega
  have hb : (t.getD (i + k) 0).toNat < 256 := UInt8.toNat_lt _
  have hv := an0 (amy (t.getD (i + k) 0))
  have e1 : 65 ≤ (t.getD (i + k) 0).toNat ∧ (t.getD (i + k) 0).toNat ≤ 70 → byte (IntKind.u8.wrap ((t.getD (i + k) 0).toNat + 32)) = amy (t.getD (i + k) 0) := fun h => by
    unfold amy; rw [if_pos h, wu8, show (((t.getD (i + k) 0).toNat : Int) + 32) % 256 = (t.getD (i + k) 0).toNat + 32 by omega]
  have e2 : ¬ (65 ≤ (t.getD (i + k) 0).toNat ∧ (t.getD (i + k) 0).toNat ≤ 70) → byte (t.getD (i + k) 0).toNat = amy (t.getD (i + k) 0) := fun h => by
    unfold amy; rw [if_neg h, aaf]
  repeat' ((conv => whnf); first | with_reducible (first | refine go1 (fun j q h => ?_) fun h => ?_ | refine go2 ⟨rfl, rfl⟩ (fun h => ?_) fun j h => ?_ | refine go2 ?_ (fun h => ?_) fun j h => ?_ | refine goQ ?_ (fun h => ?_) fun h => ?_) | refine go3 ?_ ?_ | refine go4 ?_ ?_ | refine go5 ?_ | ((first | refine go6 ?_ ?_ | refine go7 ?_ ?_ | refine go8 ?_ ?_ | refine go9 ?_ ?_ | refine goA ?_ ?_) <;> intro h) | with_reducible (first | refine aai.mk _ rfl ?_ | refine goB ?_ fun hc => ?_ | refine goC ?_ fun hc => ?_ | refine goD ?_ fun hc => ?_ | refine goE ?_ fun hc => ?_ | refine goF ?_ ?_ | refine goG ?_ ?_ | refine goH ?_ fun b hb => ?_) | refine goI ?_ | refine goJ ?_ ?_ | refine goK ?_ ?_ ?_ | refine goL ?_ ?_ ?_ ?_ | refine goM ?_ ?_ ?_ ?_ ?_ | refine goN ?_ ?_ | refine goO ?_ ?_ | with_reducible refine goP ?_)
  all_goals try conv => whnf
  all_goals try (refine aac.mk ?_; try dsimp only)
  all_goals (try simp only [aa3] at *)
  all_goals first
    | (refine stay ?_)
    | (first | trivial | omega | (simp (discharger := omega) only [wR]; omega) | (simp only [lnS]; omega) | (simp (discharger := omega) [-List.getD_eq_getElem?_getD, wR] <;> omega)) | skip
  all_goals (try rw [hw4] at *)
  all_goals (first | rw [e1 (by omega)] at * | rw [e2 (by omega)] at * | skip)
  all_goals first
    | (have hlt : k < 4 := by omega
       rw [show 4 - k = (4 - k - 1) + 1 by omega, afc] at he
       first
       | (rw [if_pos (by omega)] at he
          rw [← he]
          refine aa9.mk [] ?_ <;> (repeat' first | trivial | rfl | exact eqS _ _ | apply And.intro | apply eqA | apply eqB | apply eqC | apply eqD | apply eqE | apply eqF | apply eqG | apply eqH | apply eqI)
          done)
       | (have hn' : ahz (amy (t.getD (i + k) 0)) = true := decide_eq_true (by assumption)
          rw [if_neg (by omega), if_pos hn'] at he
          have h3 := h16 hlt
          refine ⟨[], (k + 1, 16 * n + asm (amy (t.getD (i + k) 0))), ⟨by omega, by show 0 ≤ 16 * n + _; omega, ?_, ?_⟩, ?_, by show 4 - (k + 1) < 4 - k; omega⟩
          · show 16 * n + _ < ((16 ^ (k + 1) : Nat) : Int)
            rw [Nat.pow_succ]; omega
          · rw [show 4 - (k + 1) = 4 - k - 1 by omega, show i + (k + 1) = i + k + 1 by omega]; exact he
          · refine Go.VG.Sub.mk rfl ?_ ?_ ?_ ?_ <;> (repeat' first | trivial | rfl | exact eqS _ _ | apply And.intro | apply eqA | apply eqB | apply eqC | apply eqD | apply eqE | apply eqF | apply eqG | apply eqH | apply eqI)
            all_goals (first | omega | (simp (discharger := omega) only [wR]; omega) | (simp only [lnS]; omega) | (simp (discharger := omega) [-List.getD_eq_getElem?_getD, wR] <;> omega))
          done)
       | (have hn' : ahz (amy (t.getD (i + k) 0)) = false := decide_eq_false (by assumption)
          rw [if_neg (by omega), if_neg (by rw [hn']; exact Bool.false_ne_true)] at he
          rw [← he]
          refine aa9.mk [] ?_ <;> (repeat' first | trivial | rfl | exact eqS _ _ | apply And.intro | apply eqA | apply eqB | apply eqC | apply eqD | apply eqE | apply eqF | apply eqG | apply eqH | apply eqI)
          done))
    | skip
  · rw [show 4 - k = 0 by omega, afc] at he
    rw [← he]
    refine aa9.mk [] ?_ <;> (repeat' first | trivial | rfl | exact eqS _ _ | apply And.intro | apply eqA | apply eqB | apply eqC | apply eqD | apply eqE | apply eqF | apply eqG | apply eqH | apply eqI)
def bcs : Sm := fun args σ => match args, σ with
  | [.str t, .int .i64 (.ofNat i)], [] => some (t.length ≤ 100000000 ∧ i ≤ 200000000, .tuple [.int .i64 (afc t 4 i 0).1, .int .i64 (afc t 4 i 0).2], none)
  | _, _ => none
def awf : List UInt8 := [34, 92, 47, 98, 102, 110, 114, 116]
def toL : List UInt8 := [34, 92, 47, 8, 12, 10, 13, 9]
theorem a8n : ∀ i, i < 8 → ae8 (awf.getD i 0) = [toL.getD i 0] := by decide
theorem a8p {b : UInt8} (h : ∀ j, j < 8 → awf.getD j 0 ≠ b) : ae8 b = [] := by
  unfold ae8
  rw [if_neg]
  intro hp
  unfold ac1 at hp
  rw [decide_eq_true_eq] at hp
  have key : ∀ n : Nat, n = b.toNat → ∀ j, j < 8 → awf.getD j 0 = UInt8.ofNat n → False := fun n hn j hj e => h j hj (by rw [e, hn, UInt8.ofNat_toNat])
  rcases hp with q | q | q | q | q | q | q | q
  · exact key _ q.symm 0 (by decide) rfl
  · exact key _ q.symm 1 (by decide) rfl
  · exact key _ q.symm 2 (by decide) rfl
  · exact key _ q.symm 3 (by decide) rfl
  · exact key _ q.symm 4 (by decide) rfl
  · exact key _ q.symm 5 (by decide) rfl
  · exact key _ q.symm 6 (by decide) rfl
  · exact key _ q.symm 7 (by decide) rfl
theorem atp (b : UInt8) (hp : True) : OK 116 ([bv b]) ([]) (.str (ae8 b)) (none) := by
  refine aa0 (C := cx []) (abh trivial) (fn := Try.f116) rfl rfl rfl rfl fun hw hs => ?_
  have hb : b.toNat < 256 := b.toNat_lt
  repeat' ((conv => whnf); first | with_reducible (first | refine go1 (fun j q h => ?_) fun h => ?_ | refine go2 ⟨rfl, rfl⟩ (fun h => ?_) fun j h => ?_ | refine go2 ?_ (fun h => ?_) fun j h => ?_ | refine goQ ?_ (fun h => ?_) fun h => ?_) | refine go3 ?_ ?_ | refine go4 ?_ ?_ | refine go5 ?_ | ((first | refine go6 ?_ ?_ | refine go7 ?_ ?_ | refine go8 ?_ ?_ | refine go9 ?_ ?_ | refine goA ?_ ?_) <;> intro h) | with_reducible (first | refine aai.mk _ rfl ?_ | refine goB ?_ fun hc => ?_ | refine goC ?_ fun hc => ?_ | refine goD ?_ fun hc => ?_ | refine goE ?_ fun hc => ?_ | refine goF ?_ ?_ | refine goG ?_ ?_ | refine goH ?_ fun b hb => ?_) | refine goI ?_ | refine goJ ?_ ?_ | refine goK ?_ ?_ ?_ | refine goL ?_ ?_ ?_ ?_ | refine goM ?_ ?_ ?_ ?_ ?_ | refine goN ?_ ?_ | refine goO ?_ ?_ | with_reducible refine goP ?_)
  all_goals try conv => whnf
  all_goals try (refine aac.mk ?_; try dsimp only)
  all_goals (try simp only [aa3] at *)
  all_goals first
    | (refine stay ?_)
    | (first | trivial | omega | (simp (discharger := omega) only [wR]; omega) | (simp only [lnS]; omega) | (simp (discharger := omega) [-List.getD_eq_getElem?_getD, wR] <;> omega)) | skip
  refine abt.mk Nat (fun i => i ≤ 8 ∧ ∀ j, j < i → awf.getD j 0 ≠ b) (fun i => ⟨22, [(0, .int .u8 b.toNat), (3, .str awf), (4, .str toL), (5, .int .i64 i)], [], []⟩) (fun i => 8 - i) [] 0 ⟨by omega, by simp⟩ ?_ (fun i ⟨hi, hj⟩ _ _ => ?_)
  · refine Go.VG.Sub.mk rfl ?_ ?_ ?_ ?_ <;> (repeat' first | trivial | rfl | exact eqS _ _ | apply And.intro | apply eqA | apply eqB | apply eqC | apply eqD | apply eqE | apply eqF | apply eqG | apply eqH | apply eqI)
  have hl : awf.length = 8 := rfl
  have hl2 : toL.length = 8 := rfl
  have ha := a8n i
  have hx : (awf.getD i 0).toNat < 256 := UInt8.toNat_lt _
  repeat' ((conv => whnf); first | with_reducible (first | refine go1 (fun j q h => ?_) fun h => ?_ | refine go2 ⟨rfl, rfl⟩ (fun h => ?_) fun j h => ?_ | refine go2 ?_ (fun h => ?_) fun j h => ?_ | refine goQ ?_ (fun h => ?_) fun h => ?_) | refine go3 ?_ ?_ | refine go4 ?_ ?_ | refine go5 ?_ | ((first | refine go6 ?_ ?_ | refine go7 ?_ ?_ | refine go8 ?_ ?_ | refine go9 ?_ ?_ | refine goA ?_ ?_) <;> intro h) | with_reducible (first | refine aai.mk _ rfl ?_ | refine goB ?_ fun hc => ?_ | refine goC ?_ fun hc => ?_ | refine goD ?_ fun hc => ?_ | refine goE ?_ fun hc => ?_ | refine goF ?_ ?_ | refine goG ?_ ?_ | refine goH ?_ fun b hb => ?_) | refine goI ?_ | refine goJ ?_ ?_ | refine goK ?_ ?_ ?_ | refine goL ?_ ?_ ?_ ?_ | refine goM ?_ ?_ ?_ ?_ ?_ | refine goN ?_ ?_ | refine goO ?_ ?_ | with_reducible refine goP ?_)
  all_goals try conv => whnf
  all_goals try (refine aac.mk ?_; try dsimp only)
  all_goals (try simp only [aa3] at *)
  all_goals first
    | (refine stay ?_)
    | (first | trivial | omega | (simp (discharger := omega) only [wR]; omega) | (simp only [lnS]; omega) | (simp (discharger := omega) [-List.getD_eq_getElem?_getD, wR] <;> omega)) | skip
  · have e : awf.getD i 0 = b := UInt8.toNat_inj.1 (by omega)
    have ha := ha (by omega)
    rw [e] at ha
    refine aa9.mk [] ?_ <;> (repeat' first | trivial | rfl | exact eqS _ _ | apply And.intro | apply eqA | apply eqB | apply eqC | apply eqD | apply eqE | apply eqF | apply eqG | apply eqH | apply eqI)
    rw [ha, show (IntKind.i64.wrap ((i : Int) + 1)).toNat = i + 1 by (first | omega | (simp (discharger := omega) only [wR]; omega) | (simp only [lnS]; omega) | (simp (discharger := omega) [-List.getD_eq_getElem?_getD, wR] <;> omega))]
    exact cut1 0 (by rw [hl2]; omega)
  · refine ⟨[], i + 1, ⟨by omega, fun j hjj => ?_⟩, ?_, by omega⟩
    · by_cases e : j = i
      · subst e; intro e; have := congrArg UInt8.toNat e; omega
      · exact hj j (by omega)
    · refine Go.VG.Sub.mk rfl ?_ ?_ ?_ ?_ <;> (repeat' first | trivial | rfl | exact eqS _ _ | apply And.intro | apply eqA | apply eqB | apply eqC | apply eqD | apply eqE | apply eqF | apply eqG | apply eqH | apply eqI)
      (first | omega | (simp (discharger := omega) only [wR]; omega) | (simp only [lnS]; omega) | (simp (discharger := omega) [-List.getD_eq_getElem?_getD, wR] <;> omega))
  · refine aa9.mk [] ?_ <;> (repeat' first | trivial | rfl | exact eqS _ _ | apply And.intro | apply eqA | apply eqB | apply eqC | apply eqD | apply eqE | apply eqF | apply eqG | apply eqH | apply eqI)
    rw [a8p fun j h => hj j (by omega)]
def aj3 : Sm := fun args σ => match args, σ with
  | [.int .u8 n_b], [] => some ((0 ≤ n_b ∧ n_b ≤ 255) ∧ (True), .str (ae8 (byte n_b)), none)
  | _, _ => none
theorem azb : SOK 116 aj3 := by
  intro args sg pre x r he hp
  unfold aj3 at he
  split at he <;> cases he
  · rw [af3 (hp).1]; exact atp (hp := hp.2) ..
theorem ar5 (t : List UInt8) (q : Int) (hp : t.length ≤ 100000000 ∧ 0 ≤ q ∧ q ≤ 200000000) : OK 117 ([.str t, .int .i64 q]) ([]) (.tuple [.int .i64 (afc t 4 q.toNat 0).1, .int .i64 (afc t 4 q.toNat 0).2]) (none) := by
  obtain ⟨i, rfl⟩ := Int.eq_ofNat_of_zero_le hp.2.1
  exact atn t i ⟨hp.1, by omega⟩
def afj : Sm := fun args σ => match args, σ with
  | [.str t, .int .i64 q], [] => some (t.length ≤ 100000000 ∧ 0 ≤ q ∧ q ≤ 200000000, .tuple [.int .i64 (afc t 4 q.toNat 0).1, .int .i64 (afc t 4 q.toNat 0).2], none)
  | _, _ => none
theorem ao1 : SOK 117 afj := by
  intro args sg pre x r he hp
  unfold afj at he
  split at he <;> cases he
  · exact ar5 (hp := hp) ..
def ae5 (t : List UInt8) (i : Nat) (n : Int) : List UInt8 × Int × Int :=
  if t.length ≤ i then ([], 0, 1) else if (t.getD i 0).toNat ≠ 92 then ([], 0, 6)
  else if t.length ≤ i + 1 then ([], 0, 1) else if (t.getD (i + 1) 0).toNat ≠ 117 then ([], 0, 6)
  else if (afc t 4 (i + 2) 0).2 ≠ 0 then ([], 0, (afc t 4 (i + 2) 0).2)
  else if (afc t 4 (i + 2) 0).1 < 56320 ∨ 57343 < (afc t 4 (i + 2) 0).1 then ([], 0, 6)
  else (aaj (65536 + 1024 * (n - 55296) + (afc t 4 (i + 2) 0).1 - 56320), (i : Int) + 6, 0)
theorem bu (j : Nat) : ([92, 117] : List UInt8).getD j 0 = if j = 0 then 92 else if j = 1 then 117 else 0 := by
  match j with
  | 0 => rfl
  | 1 => rfl
  | j + 2 => simp
theorem ayr (t : List UInt8) (i : Nat) (n : Int) (hp : (t.length ≤ 100000000 ∧ i ≤ 100000000) ∧ 55296 ≤ n ∧ n ≤ 56319) : OK 118 ([.str t, .int .i64 i, .int .i64 n]) ([]) (.tuple [.str (ae5 t i n).1, .int .i64 (ae5 t i n).2.1, .int .i64 (ae5 t i n).2.2]) (none) := by
  refine aa0 (C := cx [(117, afj), (119, aj6)]) (abh ⟨ao1, au1, trivial⟩) (fn := Try.f118) rfl rfl rfl rfl fun hw hs => ?_
  obtain ⟨⟨hl, hi⟩, hn⟩ := hp
  have hd := amj t 4 (i + 2) 0 1 (by decide) (by decide) (by decide)
  refine abt.mk Nat (fun j => j ≤ 2 ∧ (0 < j → i < t.length ∧ (t.getD i 0).toNat = 92) ∧ (1 < j → i + 1 < t.length ∧ (t.getD (i + 1) 0).toNat = 117)) (fun j => ⟨57, [(0, .str t), (1, .int .i64 i), (2, .int .i64 n), (9, .int .i64 j)], [], []⟩) (fun j => 2 - j) [] 0 ⟨by omega, by omega, by omega⟩ ?_ (fun j ⟨hj, hj1, hj2⟩ _ _ => ?_)
  · refine Go.VG.Sub.mk rfl ?_ ?_ ?_ ?_ <;> (repeat' first | trivial | rfl | exact eqS _ _ | apply And.intro | apply eqA | apply eqB | apply eqC | apply eqD | apply eqE | apply eqF | apply eqG | apply eqH | apply eqI)
  have hij : (IntKind.i64.wrap ((i : Int) + j)).toNat = i + j := by (first | omega | (simp (discharger := omega) only [wR]; omega) | (simp only [lnS]; omega) | (simp (discharger := omega) [-List.getD_eq_getElem?_getD, wR] <;> omega))
  have hij2 : IntKind.i64.wrap ((i : Int) + j) = ((i + j : Nat) : Int) := by (first | omega | (simp (discharger := omega) only [wR]; omega) | (simp only [lnS]; omega) | (simp (discharger := omega) [-List.getD_eq_getElem?_getD, wR] <;> omega))
  have hi2 : IntKind.i64.wrap ((i : Int) + 2) = ((i + 2 : Nat) : Int) := by (first | omega | (simp (discharger := omega) only [wR]; omega) | (simp only [lnS]; omega) | (simp (discharger := omega) [-List.getD_eq_getElem?_getD, wR] <;> omega))
  have hi3 : (IntKind.i64.wrap ((i : Int) + 2)).toNat = i + 2 := by (first | omega | (simp (discharger := omega) only [wR]; omega) | (simp only [lnS]; omega) | (simp (discharger := omega) [-List.getD_eq_getElem?_getD, wR] <;> omega))
  repeat' ((conv => whnf); first | with_reducible (first | refine go1 (fun j q h => ?_) fun h => ?_ | refine go2 ⟨rfl, rfl⟩ (fun h => ?_) fun j h => ?_ | refine go2 ?_ (fun h => ?_) fun j h => ?_ | refine goQ ?_ (fun h => ?_) fun h => ?_) | refine go3 ?_ ?_ | refine go4 ?_ ?_ | refine go5 ?_ | ((first | refine go6 ?_ ?_ | refine go7 ?_ ?_ | refine go8 ?_ ?_ | refine go9 ?_ ?_ | refine goA ?_ ?_) <;> intro h) | with_reducible (first | refine aai.mk _ rfl ?_ | refine goB ?_ fun hc => ?_ | refine goC ?_ fun hc => ?_ | refine goD ?_ fun hc => ?_ | refine goE ?_ fun hc => ?_ | refine goF ?_ ?_ | refine goG ?_ ?_ | refine goH ?_ fun b hb => ?_) | refine goI ?_ | refine goJ ?_ ?_ | refine goK ?_ ?_ ?_ | refine goL ?_ ?_ ?_ ?_ | refine goM ?_ ?_ ?_ ?_ ?_ | refine goN ?_ ?_ | refine goO ?_ ?_ | with_reducible refine goP ?_)
  all_goals try conv => whnf
  all_goals try (refine aac.mk ?_; try dsimp only)
  all_goals (try simp only [bu, hi3] at *)
  all_goals (try simp only [aa3] at *)
  all_goals first
    | (refine stay ?_)
    | (first | trivial | omega | (simp (discharger := omega) only [wR]; omega) | (simp only [lnS]; omega) | (simp (discharger := omega) [-List.getD_eq_getElem?_getD, wR] <;> omega)) | skip
  all_goals (try rw [hij] at *)
  all_goals (try rw [hij2] at *)
  all_goals first
    | (have hjl : j < 2 := by omega
       rcases (show j = 0 ∨ j = 1 by omega) with rfl | rfl
       all_goals (try simp only [if_true, show ¬ (1 : Nat) = 0 by decide, if_false, Nat.add_zero, show (92 : UInt8).toNat = 92 from rfl, show (117 : UInt8).toNat = 117 from rfl] at *)
       all_goals first
         | (show aa9 _ _ _ _ _ _
            unfold ae5
            repeat (first | rw [if_pos (by omega)] | rw [if_neg (by omega)])
            refine aa9.mk [] ?_ <;> (repeat' first | trivial | rfl | exact eqS _ _ | apply And.intro | apply eqA | apply eqB | apply eqC | apply eqD | apply eqE | apply eqF | apply eqG | apply eqH | apply eqI)
            done)
         | (refine ⟨[], 1, ⟨by omega, fun _ => ⟨by omega, by omega⟩, by omega⟩, ?_, by show 2 - 1 < 2 - 0; omega⟩
            refine Go.VG.Sub.mk rfl ?_ ?_ ?_ ?_ <;> (repeat' first | trivial | rfl | exact eqS _ _ | apply And.intro | apply eqA | apply eqB | apply eqC | apply eqD | apply eqE | apply eqF | apply eqG | apply eqH | apply eqI)
            done)
         | (refine ⟨[], 2, ⟨by omega, fun _ => ⟨by omega, by omega⟩, fun _ => ⟨by omega, by omega⟩⟩, ?_, by show 2 - 2 < 2 - 1; omega⟩
            refine Go.VG.Sub.mk rfl ?_ ?_ ?_ ?_ <;> (repeat' first | trivial | rfl | exact eqS _ _ | apply And.intro | apply eqA | apply eqB | apply eqC | apply eqD | apply eqE | apply eqF | apply eqG | apply eqH | apply eqI)
            done))
    | (have h1 := hj1 (by omega)
       have h2 := hj2 (by omega)
       unfold ae5
       repeat (first | rw [if_pos (by omega)] | rw [if_neg (by omega)])
       refine aa9.mk [] ?_ <;> (repeat' first | trivial | rfl | exact eqS _ _ | apply And.intro | apply eqA | apply eqB | apply eqC | apply eqD | apply eqE | apply eqF | apply eqG | apply eqH | apply eqI)
       done)
    | skip
  · have h1 := hj1 (by omega)
    have h2 := hj2 (by omega)
    unfold ae5
    repeat (first | rw [if_pos (by omega)] | rw [if_neg (by omega)])
    refine aa9.mk [] ?_ <;> (repeat' first | trivial | rfl | exact eqS _ _ | apply And.intro | apply eqA | apply eqB | apply eqC | apply eqD | apply eqE | apply eqF | apply eqG | apply eqH | apply eqI)
    · refine congrArg aaj ?_
      simp only [a27, a97]; omega
    · (first | omega | (simp (discharger := omega) only [wR]; omega) | (simp only [lnS]; omega) | (simp (discharger := omega) [-List.getD_eq_getElem?_getD, wR] <;> omega))
def amo (t : List UInt8) (i : Nat) : List UInt8 × Int × Int :=
  if t.length ≤ i then ([], 0, 1)
  else if (t.getD i 0).toNat ≠ 117 then (if ac1 (t.getD i 0) = true then (ae8 (t.getD i 0), (i : Int) + 1, 0) else ([], 0, 6))
  else if (afc t 4 (i + 1) 0).2 ≠ 0 then ([], 0, (afc t 4 (i + 1) 0).2)
  else if 55296 ≤ (afc t 4 (i + 1) 0).1 ∧ (afc t 4 (i + 1) 0).1 ≤ 56319 then ae5 t (i + 5) (afc t 4 (i + 1) 0).1
  else if 56320 ≤ (afc t 4 (i + 1) 0).1 ∧ (afc t 4 (i + 1) 0).1 ≤ 57343 then ([], 0, 6)
  else (aaj (afc t 4 (i + 1) 0).1, (i : Int) + 5, 0)
theorem aw5 (t : List UInt8) (q : Int) (n : Int) (hp : (t.length ≤ 100000000 ∧ 0 ≤ q ∧ q ≤ 100000000) ∧ 55296 ≤ n ∧ n ≤ 56319) : OK 118 ([.str t, .int .i64 q, .int .i64 n]) ([]) (.tuple [.str (ae5 t q.toNat n).1, .int .i64 (ae5 t q.toNat n).2.1, .int .i64 (ae5 t q.toNat n).2.2]) (none) := by
  obtain ⟨i, rfl⟩ := Int.eq_ofNat_of_zero_le hp.1.2.1
  exact ayr t i n ⟨⟨hp.1.1, by omega⟩, hp.2⟩
def akq : Sm := fun args σ => match args, σ with
  | [.str t, .int .i64 q, .int .i64 n], [] => some ((t.length ≤ 100000000 ∧ 0 ≤ q ∧ q ≤ 100000000) ∧ 55296 ≤ n ∧ n ≤ 56319, .tuple [.str (ae5 t q.toNat n).1, .int .i64 (ae5 t q.toNat n).2.1, .int .i64 (ae5 t q.toNat n).2.2], none)
  | _, _ => none
theorem a3x : SOK 118 akq := by
  intro args sg pre x r he hp
  unfold akq at he
  split at he <;> cases he
  · exact aw5 (hp := hp) ..
theorem a4o {b : UInt8} (h : ae8 b = []) : ac1 b = false := by
  unfold ae8 at h
  cases hp : ac1 b with
  | false => rfl
  | true => rw [hp, if_pos rfl] at h; cases h
theorem a8o {b : UInt8} (h : ae8 b ≠ []) : ac1 b = true := by
  unfold ae8 at h
  cases hp : ac1 b with
  | true => rfl
  | false => rw [hp, if_neg Bool.false_ne_true] at h; exact absurd rfl h
theorem ato (t : List UInt8) (i : Nat) (hp : t.length ≤ 90000000 ∧ i ≤ 90000000) : OK 99 ([.str t, .int .i64 i]) ([]) (.tuple [.str (amo t i).1, .int .i64 (amo t i).2.1, .int .i64 (amo t i).2.2]) (none) := by
  refine aa0 (C := cx [(116, aj3), (117, afj), (118, akq), (119, aj6)]) (abh ⟨azb, ao1, a3x, au1, trivial⟩) (fn := Try.f99) rfl rfl rfl rfl fun hw hs => ?_
  obtain ⟨hl, hi⟩ := hp
  have hd := amj t 4 (i + 1) 0 1 (by decide) (by decide) (by decide)
  have hi1 : (IntKind.i64.wrap ((i : Int) + 1)).toNat = i + 1 := by (first | omega | (simp (discharger := omega) only [wR]; omega) | (simp only [lnS]; omega) | (simp (discharger := omega) [-List.getD_eq_getElem?_getD, wR] <;> omega))
  have hi5 : (IntKind.i64.wrap ((i : Int) + 5)).toNat = i + 5 := by (first | omega | (simp (discharger := omega) only [wR]; omega) | (simp only [lnS]; omega) | (simp (discharger := omega) [-List.getD_eq_getElem?_getD, wR] <;> omega))
  have hbb : byte ((t.getD i 0).toNat : Int) = t.getD i 0 := aaf _
  repeat' ((conv => whnf); first | with_reducible (first | refine go1 (fun j q h => ?_) fun h => ?_ | refine go2 ⟨rfl, rfl⟩ (fun h => ?_) fun j h => ?_ | refine go2 ?_ (fun h => ?_) fun j h => ?_ | refine goQ ?_ (fun h => ?_) fun h => ?_) | refine go3 ?_ ?_ | refine go4 ?_ ?_ | refine go5 ?_ | ((first | refine go6 ?_ ?_ | refine go7 ?_ ?_ | refine go8 ?_ ?_ | refine go9 ?_ ?_ | refine goA ?_ ?_) <;> intro h) | with_reducible (first | refine aai.mk _ rfl ?_ | refine goB ?_ fun hc => ?_ | refine goC ?_ fun hc => ?_ | refine goD ?_ fun hc => ?_ | refine goE ?_ fun hc => ?_ | refine goF ?_ ?_ | refine goG ?_ ?_ | refine goH ?_ fun b hb => ?_) | refine goI ?_ | refine goJ ?_ ?_ | refine goK ?_ ?_ ?_ | refine goL ?_ ?_ ?_ ?_ | refine goM ?_ ?_ ?_ ?_ ?_ | refine goN ?_ ?_ | refine goO ?_ ?_ | with_reducible refine goP ?_)
  all_goals try conv => whnf
  all_goals try (refine aac.mk ?_; try dsimp only)
  all_goals (try simp only [hi1, hi5, hbb] at *)
  all_goals (try simp only [aa3] at *)
  all_goals first
    | (refine stay ?_)
    | (first | trivial | omega | (simp (discharger := omega) only [wR]; omega) | (simp only [lnS]; omega) | (simp (discharger := omega) [-List.getD_eq_getElem?_getD, wR] <;> omega)) | skip
  all_goals
    first
    | (have hpl : ac1 (t.getD i 0) = false := a4o (by assumption))
    | (have hpl : ac1 (t.getD i 0) = true := a8o (by assumption))
    | (have hpl : ac1 (t.getD i 0) = ac1 (t.getD i 0) := rfl)
    unfold amo
    repeat (first | rw [if_pos (by first | omega | exact hpl)] | rw [if_neg (by first | omega | (rw [hpl]; exact Bool.false_ne_true))])
    refine aa9.mk [] ?_ <;> (repeat' first | trivial | rfl | exact eqS _ _ | apply And.intro | apply eqA | apply eqB | apply eqC | apply eqD | apply eqE | apply eqF | apply eqG | apply eqH | apply eqI)
  all_goals first
    | (refine congrArg aaj ?_
       simp only [a97]; omega)
    | (first | omega | (simp (discharger := omega) only [wR]; omega) | (simp only [lnS]; omega) | (simp (discharger := omega) [-List.getD_eq_getElem?_getD, wR] <;> omega))
end Go.Proofs.Ytllncocibkgjkaa
