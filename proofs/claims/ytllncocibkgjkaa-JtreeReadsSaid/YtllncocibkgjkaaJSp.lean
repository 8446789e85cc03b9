/-
  How the program reads a text of JSON: its functions do what the model tells.
-/
import Derived.Test.YtllncocibkgjkaaCU
import Derived.Test.YtllncocibkgjkaaUTFp
set_option linter.unusedSimpArgs false
set_option linter.unusedVariables false
set_option maxHeartbeats 4000000
namespace Go.Proofs.Ytllncocibkgjkaa
open Go Go.VG
set_option maxRecDepth 100000
def ahz (b : UInt8) : Bool := decide ((48 ≤ b.toNat ∧ b.toNat ≤ 57) ∨ (97 ≤ b.toNat ∧ b.toNat ≤ 102))
def asm (b : UInt8) : Nat := if 48 ≤ b.toNat ∧ b.toNat ≤ 57 then b.toNat - 48 else if 97 ≤ b.toNat ∧ b.toNat ≤ 102 then b.toNat - 87 else 0
def amy (b : UInt8) : UInt8 := if 65 ≤ b.toNat ∧ b.toNat ≤ 70 then byte (b.toNat + 32) else b
def Cu.asd (c : Cu) : Cu := if ahz (amy c.aa2) = true then c.byte else c.byte.fail 6
def Cu.a93 (c : Cu) : Nat := asm (amy c.aa2)
def acx : Nat → Cu → Int → Cu × Int
  | 0, c, u => (c, u)
  | k + 1, c, u => if c.asd.c ≠ 0 then (c.asd, 0) else acx k c.asd (16 * u + c.a93)
termination_by k => k
def Cu.four (c : Cu) : Cu × Int := acx 4 c 0
def Cu.ajt (c : Cu) (b : UInt8) : Cu := if c.aa2.toNat = b.toNat then c.byte else c.byte.fail 6
def Cu.number (c : Cu) : Cu × Int :=
  if c.four.2 < 55296 ∨ 57344 ≤ c.four.2 then c.four
  else if 56320 ≤ c.four.2 then (c.four.1.fail 6, 0)
  else if ((c.four.1.ajt 92).ajt 117).four.2 < 56320 ∨ 57344 ≤ ((c.four.1.ajt 92).ajt 117).four.2 then (((c.four.1.ajt 92).ajt 117).four.1.fail 6, 0)
  else (((c.four.1.ajt 92).ajt 117).four.1, 65536 + (c.four.2 - 55296) * 1024 + (((c.four.1.ajt 92).ajt 117).four.2 - 56320))
def ac1 (b : UInt8) : Bool := decide (b.toNat = 34 ∨ b.toNat = 92 ∨ b.toNat = 47 ∨ b.toNat = 98 ∨ b.toNat = 102 ∨ b.toNat = 110 ∨ b.toNat = 114 ∨ b.toNat = 116)
def axb (b : UInt8) : Nat := if b.toNat = 34 ∨ b.toNat = 92 ∨ b.toNat = 47 then b.toNat else if b.toNat = 98 then 8 else if b.toNat = 102 then 12 else if b.toNat = 110 then 10 else if b.toNat = 114 then 13 else if b.toNat = 116 then 9 else 0
def Cu.aol (c : Cu) : Cu := if c.aa2.toNat = 117 then c.byte.number.1 else if ac1 c.aa2 = true then c.byte else c.byte.fail 6
def Cu.axx (c : Cu) : List UInt8 := if c.aa2.toNat = 117 then (if c.byte.number.1.c = 0 then aaj c.byte.number.2 else []) else if ac1 c.aa2 = true then [Go.VG.byte (axb c.aa2)] else []
def adk (b : UInt8) : Nat := if b.toNat < 192 then 0 else if b.toNat < 224 then 1 else if b.toNat < 240 then 2 else 3
def ae7 : Nat → Cu → List UInt8 → Cu × List UInt8
  | 0, c, s => (c, s)
  | k + 1, c, s => if c.c = 0 ∧ c.p < c.e ∧ cont c.aa2 = true then ae7 k c.byte (s ++ [c.aa2]) else (c, s)
termination_by k => k
def Cu.arj (c : Cu) (b : UInt8) : Cu := if 0 ≤ ak7 (ae7 (adk b) c [b]).2 then (ae7 (adk b) c [b]).1.fail 5 else (ae7 (adk b) c [b]).1
def Cu.azo (c : Cu) (b : UInt8) : List UInt8 := if 0 ≤ ak7 (ae7 (adk b) c [b]).2 then [] else (ae7 (adk b) c [b]).2
theorem abv {c : Cu} (h : c.ok) : c.byte.ok := (agw h 1).1
theorem az8 {c : Cu} (h : c.ok) : c.asd.ok := by
  unfold Cu.asd; split
  · exact abv h
  · exact (ac9 (abv h) 6).1
theorem awd : ∀ (k : Nat) (c : Cu) (u : Int), c.ok → (acx k c u).1.ok
  | 0, _, _, h => by rw [acx]; exact h
  | k + 1, c, u, h => by
    rw [acx]; split
    · exact az8 h
    · exact awd k _ _ (az8 h)
theorem an0 (b : UInt8) : asm b < 16 := by      unfold asm; repeat' split
                                                all_goals omega
theorem awc : ∀ (k : Nat) (c : Cu) (u : Int) (m : Nat), 0 ≤ u → u < m → 0 < m → 0 ≤ (acx k c u).2 ∧ (acx k c u).2 < ((m * 16 ^ k : Nat) : Int)
  | 0, _, _, _, h1, h, _ => by rw [acx]; simpa using ⟨h1, h⟩
  | k + 1, c, u, m, h1, h, h0 => by
    have hp : 0 < 16 ^ k := Nat.pow_pos (by decide)
    rw [acx]; split
    · have : 0 < m * 16 ^ (k + 1) := Nat.mul_pos h0 (Nat.pow_pos (by decide))
      simp only; omega
    · have hv := an0 (amy c.aa2)
      have := awc k c.asd (16 * u + c.a93) (16 * m) (by omega) (by unfold Cu.a93; omega) (by omega)
      rw [Nat.pow_succ, ← Nat.mul_assoc, Nat.mul_right_comm, Nat.mul_comm m 16]; exact this
theorem atx {c : Cu} (h : c.ok) : c.four.1.ok := awd 4 c 0 h
theorem atw (c : Cu) : 0 ≤ c.four.2 ∧ c.four.2 < 65536 := by have := awc 4 c 0 1 (by decide) (by decide) (by decide); simpa [Cu.four] using this
theorem amz {c : Cu} (h : c.ok) (b : UInt8) : (c.ajt b).ok := by
  unfold Cu.ajt; split
  · exact abv h
  · exact (ac9 (abv h) 6).1
theorem ax4 {c : Cu} (h : c.ok) : c.number.1.ok := by
  have h1 := atx h
  have h2 := atx (amz (amz h1 92) 117)
  unfold Cu.number
  repeat' split
  · exact h1
  · exact (ac9 h1 6).1
  · exact (ac9 h2 6).1
  · exact h2
theorem a7v {c : Cu} (h : c.number.1.c = 0) : uIs c.number.2 = true := by
  have h1 := atw c
  have h2 := atw ((c.four.1.ajt 92).ajt 117)
  rw [am6]
  have hf : ∀ x : Cu, (x.fail 6).c ≠ 0 := fun x => by
    unfold Cu.fail; split
    · simp
    · assumption
  unfold Cu.number at h ⊢
  repeat' split at h
  · rename_i q; rw [if_pos q]; omega
  · exact absurd h (hf _)
  · exact absurd h (hf _)
  · rename_i q1 q2 q3
    rw [if_neg q1, if_neg q2, if_neg q3]
    simp only; omega
theorem akb {c : Cu} (h : c.ok) : c.aol.ok := by
  unfold Cu.aol; repeat' split
  · exact ax4 (abv h)
  · exact abv h
  · exact (ac9 (abv h) 6).1
theorem a1i : ∀ (k : Nat) (c : Cu) (s : List UInt8), c.ok → (ae7 k c s).1.ok
  | 0, _, _, h => by rw [ae7]; exact h
  | k + 1, c, s, h => by
    rw [ae7]; split
    · exact a1i k _ _ (abv h)
    · exact h
theorem axg : ∀ (k : Nat) (c : Cu) (s : List UInt8), (ae7 k c s).2.length ≤ s.length + k
  | 0, _, _ => by simp [ae7]
  | k + 1, c, s => by
    rw [ae7]; split
    · have := axg k c.byte (s ++ [c.aa2]); simp at this; omega
    · simp only; omega
theorem a1x (b : UInt8) : adk b ≤ 3 := by
  unfold adk; repeat' split
  all_goals omega
theorem akk {c : Cu} (h : c.ok) (b : UInt8) : (c.arj b).ok := by
  have := a1i (adk b) c [b] h
  unfold Cu.arj; split
  · exact (ac9 this 5).1
  · exact this
end Go.Proofs.Ytllncocibkgjkaa
set_option linter.unusedSimpArgs false
set_option linter.unusedVariables false
set_option maxHeartbeats 4000000
namespace Go.Proofs.Ytllncocibkgjkaa
open Go Go.VG
set_option maxRecDepth 100000
theorem nib_at : ∀ i, i < 16 → asm (acm.getD i 0) = i ∧ ahz (acm.getD i 0) = true ∧ (acm.getD i 0).toNat < 128 := by decide
theorem bb4 : ∀ n, n < 256 → ahz (.ofNat n) = true → acm.getD (asm (.ofNat n)) 0 = .ofNat n := by decide
theorem be4 {b : UInt8} (h : ahz b = true) : acm.getD (asm b) 0 = b := by
  have := bb4 b.toNat b.toNat_lt
  rw [UInt8.ofNat_toNat] at this
  exact this h
theorem nib_no {b : UInt8} (h : ahz b = false) : asm b = 0 := by
  unfold ahz at h
  rw [decide_eq_false_iff_not] at h
  unfold asm
  rw [if_neg (by omega), if_neg (by omega)]
theorem a9u (b : UInt8) (hp : True) : OK 127 ([bv b]) ([]) (.tuple [.int .i64 (asm b), .bool (ahz b)]) (none) := by
  refine aa0 (C := cx []) (abh trivial) (fn := Try.f127) rfl rfl rfl rfl fun hw hs => ?_
  have hb : b.toNat < 256 := b.toNat_lt
  repeat' ((conv => whnf); first | with_reducible (first | refine go1 (fun j q h => ?_) fun h => ?_ | refine go2 ⟨rfl, rfl⟩ (fun h => ?_) fun j h => ?_ | refine go2 ?_ (fun h => ?_) fun j h => ?_ | refine goQ ?_ (fun h => ?_) fun h => ?_) | refine go3 ?_ ?_ | refine go4 ?_ ?_ | refine go5 ?_ | ((first | refine go6 ?_ ?_ | refine go7 ?_ ?_ | refine go8 ?_ ?_ | refine go9 ?_ ?_ | refine goA ?_ ?_) <;> intro h) | with_reducible (first | refine aai.mk _ rfl ?_ | refine goB ?_ fun hc => ?_ | refine goC ?_ fun hc => ?_ | refine goD ?_ fun hc => ?_ | refine goE ?_ fun hc => ?_ | refine goF ?_ ?_ | refine goG ?_ ?_ | refine goH ?_ fun b hb => ?_) | refine goI ?_ | refine goJ ?_ ?_ | refine goK ?_ ?_ ?_ | refine goL ?_ ?_ ?_ ?_ | refine goM ?_ ?_ ?_ ?_ ?_ | refine goN ?_ ?_ | refine goO ?_ ?_ | with_reducible refine goP ?_)
  all_goals try conv => whnf
  all_goals try (refine aac.mk ?_; try dsimp only)
  all_goals (try simp only [aa3] at *)
  all_goals first
    | (refine stay ?_)
    | (first | trivial | omega | (simp (discharger := omega) only [wR]; omega) | (simp only [lnS]; omega) | (simp (discharger := omega) [-List.getD_eq_getElem?_getD, wR] <;> omega)) | skip
  refine abt.mk Nat (fun i => i ≤ 16 ∧ ∀ j, j < i → acm.getD j 0 ≠ b) (fun i => ⟨16, [(0, .int .u8 b.toNat), (6, .ptr 0 0)], [.siter acm i], []⟩) (fun i => 16 - i) [] 0 ⟨by omega, by simp⟩ ?_ (fun i ⟨hi, hj⟩ _ _ => ?_)
  · refine Go.VG.Sub.mk rfl ?_ ?_ ?_ ?_ <;> (repeat' first | trivial | rfl | exact eqS _ _ | apply And.intro | apply eqA | apply eqB | apply eqC | apply eqD | apply eqE | apply eqF | apply eqG | apply eqH | apply eqI)
  have hl : acm.length = 16 := rfl
  have hd : i < 16 → acm[i]? = some (acm.getD i 0) := fun h => by
    rw [List.getD_eq_getElem?_getD, List.getElem?_eq_getElem (by rw [hl]; exact h)]; rfl
  have hn := nib_at i
  repeat' ((conv => whnf); first | with_reducible (first | refine go1 (fun j q h => ?_) fun h => ?_ | refine go2 ⟨rfl, rfl⟩ (fun h => ?_) fun j h => ?_ | refine go2 ?_ (fun h => ?_) fun j h => ?_ | refine goQ ?_ (fun h => ?_) fun h => ?_) | refine go3 ?_ ?_ | refine go4 ?_ ?_ | refine go5 ?_ | ((first | refine go6 ?_ ?_ | refine go7 ?_ ?_ | refine go8 ?_ ?_ | refine go9 ?_ ?_ | refine goA ?_ ?_) <;> intro h) | with_reducible (first | refine aai.mk _ rfl ?_ | refine goB ?_ fun hc => ?_ | refine goC ?_ fun hc => ?_ | refine goD ?_ fun hc => ?_ | refine goE ?_ fun hc => ?_ | refine goF ?_ ?_ | refine goG ?_ ?_ | refine goH ?_ fun b hb => ?_) | refine goI ?_ | refine goJ ?_ ?_ | refine goK ?_ ?_ ?_ | refine goL ?_ ?_ ?_ ?_ | refine goM ?_ ?_ ?_ ?_ ?_ | refine goN ?_ ?_ | refine goO ?_ ?_ | with_reducible refine goP ?_)
  all_goals try conv => whnf
  all_goals try (refine aac.mk ?_; try dsimp only)
  all_goals (try simp only [aa3] at *)
  all_goals first
    | (refine stay ?_)
    | (first | trivial | omega | (simp (discharger := omega) only [wR]; omega) | (simp only [lnS]; omega) | (simp (discharger := omega) [-List.getD_eq_getElem?_getD, wR] <;> omega)) | skip
  · rw [hd (by omega)]
    have hn := hn (by omega)
    generalize hx : acm.getD i 0 = x at *
    have hwb : IntKind.i32.wrap (b.toNat : Int) = b.toNat := by (first | omega | (simp (discharger := omega) only [wR]; omega) | (simp only [lnS]; omega) | (simp (discharger := omega) [-List.getD_eq_getElem?_getD, wR] <;> omega))
    repeat' ((conv => whnf); first | with_reducible (first | refine go1 (fun j q h => ?_) fun h => ?_ | refine go2 ⟨rfl, rfl⟩ (fun h => ?_) fun j h => ?_ | refine go2 ?_ (fun h => ?_) fun j h => ?_ | refine goQ ?_ (fun h => ?_) fun h => ?_) | refine go3 ?_ ?_ | refine go4 ?_ ?_ | refine go5 ?_ | ((first | refine go6 ?_ ?_ | refine go7 ?_ ?_ | refine go8 ?_ ?_ | refine go9 ?_ ?_ | refine goA ?_ ?_) <;> intro h) | with_reducible (first | refine aai.mk _ rfl ?_ | refine goB ?_ fun hc => ?_ | refine goC ?_ fun hc => ?_ | refine goD ?_ fun hc => ?_ | refine goE ?_ fun hc => ?_ | refine goF ?_ ?_ | refine goG ?_ ?_ | refine goH ?_ fun b hb => ?_) | refine goI ?_ | refine goJ ?_ ?_ | refine goK ?_ ?_ ?_ | refine goL ?_ ?_ ?_ ?_ | refine goM ?_ ?_ ?_ ?_ ?_ | refine goN ?_ ?_ | refine goO ?_ ?_ | with_reducible refine goP ?_)
    all_goals try conv => whnf
    all_goals try (refine aac.mk ?_; try dsimp only)
    all_goals (try rw [hwb] at *)
    all_goals (try simp only [aa3] at *)
    all_goals first
      | (refine stay ?_)
      | (first | trivial | omega | (simp (discharger := omega) only [wR]; omega) | (simp only [lnS]; omega) | (simp (discharger := omega) [-List.getD_eq_getElem?_getD, wR] <;> omega)) | skip
    · have : x = b := UInt8.toNat_inj.1 (by omega)
      subst this
      refine aa9.mk [] ?_ <;> (repeat' first | trivial | rfl | exact eqS _ _ | apply And.intro | apply eqA | apply eqB | apply eqC | apply eqD | apply eqE | apply eqF | apply eqG | apply eqH | apply eqI)
      · rw [hn.1]
      · rw [hn.2.1]
    · refine ⟨[], i + 1, ⟨by omega, fun j hjj => ?_⟩, ?_, by omega⟩
      · by_cases e : j = i
        · subst e; rw [hx]; intro e; subst e; omega
        · exact hj j (by omega)
      · refine Go.VG.Sub.mk rfl ?_ ?_ ?_ ?_ <;> (repeat' first | trivial | rfl | exact eqS _ _ | apply And.intro | apply eqA | apply eqB | apply eqC | apply eqD | apply eqE | apply eqF | apply eqG | apply eqH | apply eqI)
  · have hf : ahz b = false := by
      cases h : ahz b with
      | false => rfl
      | true =>
        exfalso
        refine hj (asm b) ?_ (be4 h)
        have := an0 b; omega
    refine aa9.mk [] ?_ <;> (repeat' first | trivial | rfl | exact eqS _ _ | apply And.intro | apply eqA | apply eqB | apply eqC | apply eqD | apply eqE | apply eqF | apply eqG | apply eqH | apply eqI)
    · rw [nib_no hf]; rfl
    · rw [hf]
def a06 : Sm := fun args σ => match args, σ with
  | [.int .u8 n_b], [] => some ((0 ≤ n_b ∧ n_b ≤ 255) ∧ (True), .tuple [.int .i64 (asm (byte n_b)), .bool (ahz (byte n_b))], none)
  | _, _ => none
theorem k_nibP : SOK 127 a06 := by
  intro args sg pre x r he hp
  unfold a06 at he
  split at he <;> cases he
  · rw [af3 (hp).1]; exact a9u (hp := hp.2) ..
theorem a68 (c : Cu) (o : List V) (hp : c.ok) : OK 123 ([.ptr 0 0]) ([.cells [.ptr 1 0, .buf 2], .cells (eC c), .buf 1 0 o]) (.int .i32 c.a93) (some [.cells [.ptr 1 0, .buf 2], .cells (eC c.asd), .buf 1 0 o]) := by
  refine aa0 (C := cx [(44, adn), (127, a06), (49, ae9)]) (abh ⟨agu, k_nibP, ahx, trivial⟩) (fn := Try.f123) rfl rfl rfl rfl fun hw hs => ?_
  have hb : c.aa2.toNat < 256 := c.aa2.toNat_lt
  have e1 : 65 ≤ c.aa2.toNat ∧ c.aa2.toNat ≤ 70 → byte (IntKind.u8.wrap (c.aa2.toNat + 32)) = amy c.aa2 := fun h => by
    unfold amy; rw [if_pos h, wu8, show ((c.aa2.toNat : Int) + 32) % 256 = c.aa2.toNat + 32 by omega]
  have e2 : ¬ (65 ≤ c.aa2.toNat ∧ c.aa2.toNat ≤ 70) → byte c.aa2.toNat = amy c.aa2 := fun h => by
    unfold amy; rw [if_neg h, aaf]
  have hv := an0 (amy c.aa2)
  repeat' ((conv => whnf); first | with_reducible (first | refine go1 (fun j q h => ?_) fun h => ?_ | refine go2 ⟨rfl, rfl⟩ (fun h => ?_) fun j h => ?_ | refine go2 ?_ (fun h => ?_) fun j h => ?_ | refine goQ ?_ (fun h => ?_) fun h => ?_) | refine go3 ?_ ?_ | refine go4 ?_ ?_ | refine go5 ?_ | ((first | refine go6 ?_ ?_ | refine go7 ?_ ?_ | refine go8 ?_ ?_ | refine go9 ?_ ?_ | refine goA ?_ ?_) <;> intro h) | with_reducible (first | refine aai.mk _ rfl ?_ | refine goB ?_ fun hc => ?_ | refine goC ?_ fun hc => ?_ | refine goD ?_ fun hc => ?_ | refine goE ?_ fun hc => ?_ | refine goF ?_ ?_ | refine goG ?_ ?_ | refine goH ?_ fun b hb => ?_) | refine goI ?_ | refine goJ ?_ ?_ | refine goK ?_ ?_ ?_ | refine goL ?_ ?_ ?_ ?_ | refine goM ?_ ?_ ?_ ?_ ?_ | refine goN ?_ ?_ | refine goO ?_ ?_ | with_reducible refine goP ?_)
  all_goals try conv => whnf
  all_goals try (refine aac.mk ?_; try dsimp only)
  all_goals (try simp only [aa3] at *)
  all_goals first
    | (refine stay ?_)
    | (first | trivial | omega | (simp (discharger := omega) only [wR]; omega) | (simp only [lnS]; omega) | (simp (discharger := omega) [-List.getD_eq_getElem?_getD, wR] <;> omega)) | skip
  all_goals first
    | exact ⟨by omega, trivial⟩
    | (first | rw [e1 (by omega)] at * | rw [e2 (by omega)] at *)
  all_goals
    first
    | have hn : ahz (amy c.aa2) = true := decide_eq_true (by assumption)
    | have hn : ahz (amy c.aa2) = false := decide_eq_false (by assumption)
    unfold Cu.asd Cu.a93
    rw [hn]
    first | rw [if_pos rfl] | rw [if_neg Bool.false_ne_true]
    refine aa9.mk [] ?_ <;> (repeat' first | trivial | rfl | exact eqS _ _ | apply And.intro | apply eqA | apply eqB | apply eqC | apply eqD | apply eqE | apply eqF | apply eqG | apply eqH | apply eqI)
  all_goals (first | omega | (simp (discharger := omega) only [wR]; omega) | (simp only [lnS]; omega) | (simp (discharger := omega) [-List.getD_eq_getElem?_getD, wR] <;> omega))
def aur : Sm := fun args σ => match args, σ with
  | [.ptr 0 0], [.cells [.ptr 1 0, .buf 2], .cells ([.str s_c, .int .i64 (.ofNat a_c), .int .i64 (.ofNat e_c), .int .i64 c_c]), .buf 1 0 o] => some (True ∧ ((Cu.mk s_c a_c e_c c_c).ok), .int .i32 (Cu.mk s_c a_c e_c c_c).a93, some [.cells [.ptr 1 0, .buf 2], .cells (eC (Cu.mk s_c a_c e_c c_c).asd), .buf 1 0 o])
  | _, _ => none
theorem bdp : SOK 123 aur := by
  intro args sg pre x r he hp
  unfold aur at he
  split at he <;> cases he
  · rw [acr (hp).1]; exact a68 (hp := hp.2) ..
theorem bb7 (a b : Nat) (ha : a < 65536) (hb : b < 16) : iOr .i32 (a6q .i32 a 4) b = ((16 * a + b : Nat) : Int) := by
  have e : a6q .i32 (a : Int) 4 = ((a * 2 ^ 4 : Nat) : Int) := by
    show IntKind.i32.wrap ((a : Int) * 2 ^ (min 4 32)) = _
    rw [a97, show ((2 : Int) ^ (min 4 32)) = 16 from rfl]; omega
  rw [e]
  show IntKind.i32.wrap ((BitVec.ofInt 32 ((a * 2 ^ 4 : Nat) : Int) ||| BitVec.ofInt 32 (b : Int)).toNat : Int) = _
  rw [BitVec.ofInt_natCast, BitVec.ofInt_natCast, BitVec.toNat_or, BitVec.toNat_ofNat, BitVec.toNat_ofNat, Nat.mod_eq_of_lt (by omega), Nat.mod_eq_of_lt (by omega), a7y a b 4 hb]
  rw [a97]; omega
theorem a31 (c : Cu) (o : List V) (hp : c.ok) : OK 108 ([.ptr 0 0]) ([.cells [.ptr 1 0, .buf 2], .cells (eC c), .buf 1 0 o]) (.int .i32 c.four.2) (some [.cells [.ptr 1 0, .buf 2], .cells (eC c.four.1), .buf 1 0 o]) := by
  refine aa0 (C := cx [(123, aur), (21, af2)]) (abh ⟨bdp, ak2, trivial⟩) (fn := Try.f108) rfl rfl rfl rfl fun hw hs => ?_
  refine abt.mk (Nat × Cu × Nat) (fun | (k, d, u) => k ≤ 4 ∧ d.ok ∧ u < 16 ^ k ∧ acx (4 - k) d (u : Int) = acx 4 c 0)
    (fun | (k, d, u) => ⟨19, [(0, .ptr 0 0), (3, .int .i32 u), (4, .int .i64 k)], [.cells [.ptr 1 0, .buf 2], .cells (eC d), .buf 1 0 o], [2]⟩) (fun x => 4 - x.1) [] (0, c, 0) ⟨by omega, hp, by decide, rfl⟩ ?_ (fun ⟨k, d, u⟩ ⟨hk, hd, hu, he⟩ _ _ => ?_)
  · refine Go.VG.Sub.mk rfl ?_ ?_ ?_ ?_ <;> (repeat' first | trivial | rfl | exact eqS _ _ | apply And.intro | apply eqA | apply eqB | apply eqC | apply eqD | apply eqE | apply eqF | apply eqG | apply eqH | apply eqI)
  have hv := an0 (amy d.aa2)
  have h16 : k < 4 → u < 4096 := fun h => by
    have : (16 : Nat) ^ k ≤ 16 ^ 3 := Nat.pow_le_pow_right (by decide) (by omega)
    omega
  repeat' ((conv => whnf); first | with_reducible (first | refine go1 (fun j q h => ?_) fun h => ?_ | refine go2 ⟨rfl, rfl⟩ (fun h => ?_) fun j h => ?_ | refine go2 ?_ (fun h => ?_) fun j h => ?_ | refine goQ ?_ (fun h => ?_) fun h => ?_) | refine go3 ?_ ?_ | refine go4 ?_ ?_ | refine go5 ?_ | ((first | refine go6 ?_ ?_ | refine go7 ?_ ?_ | refine go8 ?_ ?_ | refine go9 ?_ ?_ | refine goA ?_ ?_) <;> intro h) | with_reducible (first | refine aai.mk _ rfl ?_ | refine goB ?_ fun hc => ?_ | refine goC ?_ fun hc => ?_ | refine goD ?_ fun hc => ?_ | refine goE ?_ fun hc => ?_ | refine goF ?_ ?_ | refine goG ?_ ?_ | refine goH ?_ fun b hb => ?_) | refine goI ?_ | refine goJ ?_ ?_ | refine goK ?_ ?_ ?_ | refine goL ?_ ?_ ?_ ?_ | refine goM ?_ ?_ ?_ ?_ ?_ | refine goN ?_ ?_ | refine goO ?_ ?_ | with_reducible refine goP ?_)
  all_goals try conv => whnf
  all_goals try (refine aac.mk ?_; try dsimp only)
  all_goals (try simp only [aa3] at *)
  all_goals first
    | (refine stay ?_)
    | (first | trivial | omega | (simp (discharger := omega) only [wR]; omega) | (simp only [lnS]; omega) | (simp (discharger := omega) [-List.getD_eq_getElem?_getD, wR] <;> omega)) | skip
  · rw [show 4 - k = (4 - k - 1) + 1 by omega, acx, if_neg (by omega)] at he
    have hu' := h16 (by omega)
    refine ⟨[], (k + 1, d.asd, 16 * u + d.a93), ⟨by omega, az8 hd, ?_, ?_⟩, ?_, by omega⟩
    · unfold Cu.a93
      show 16 * u + asm (amy d.aa2) < 16 ^ k * 16
      omega
    · rw [show 4 - (k + 1) = 4 - k - 1 by omega]; exact he
    · refine Go.VG.Sub.mk rfl ?_ ?_ ?_ ?_ <;> (repeat' first | trivial | rfl | exact eqS _ _ | apply And.intro | apply eqA | apply eqB | apply eqC | apply eqD | apply eqE | apply eqF | apply eqG | apply eqH | apply eqI)
      · exact bb7 _ _ (by omega) hv
      · (first | omega | (simp (discharger := omega) only [wR]; omega) | (simp only [lnS]; omega) | (simp (discharger := omega) [-List.getD_eq_getElem?_getD, wR] <;> omega))
  · rw [show 4 - k = (4 - k - 1) + 1 by omega, acx, if_pos (by omega)] at he
    unfold Cu.four
    rw [← he]
    refine aa9.mk [] ?_ <;> (repeat' first | trivial | rfl | exact eqS _ _ | apply And.intro | apply eqA | apply eqB | apply eqC | apply eqD | apply eqE | apply eqF | apply eqG | apply eqH | apply eqI)
  · rw [show 4 - k = 0 by omega, acx] at he
    unfold Cu.four
    rw [← he]
    refine aa9.mk [] ?_ <;> (repeat' first | trivial | rfl | exact eqS _ _ | apply And.intro | apply eqA | apply eqB | apply eqC | apply eqD | apply eqE | apply eqF | apply eqG | apply eqH | apply eqI)
def aqi : Sm := fun args σ => match args, σ with
  | [.ptr 0 0], [.cells [.ptr 1 0, .buf 2], .cells ([.str s_c, .int .i64 (.ofNat a_c), .int .i64 (.ofNat e_c), .int .i64 c_c]), .buf 1 0 o] => some (True ∧ ((Cu.mk s_c a_c e_c c_c).ok), .int .i32 (Cu.mk s_c a_c e_c c_c).four.2, some [.cells [.ptr 1 0, .buf 2], .cells (eC (Cu.mk s_c a_c e_c c_c).four.1), .buf 1 0 o])
  | _, _ => none
theorem bac : SOK 108 aqi := by
  intro args sg pre x r he hp
  unfold aqi at he
  split at he <;> cases he
  · rw [acr (hp).1]; exact a31 (hp := hp.2) ..
theorem a32 (c : Cu) (o : List V) (b : UInt8) (hp : c.ok) : OK 109 ([.ptr 0 0, bv b]) ([.cells [.ptr 1 0, .buf 2], .cells (eC c), .buf 1 0 o]) (.tuple []) (some [.cells [.ptr 1 0, .buf 2], .cells (eC (c.ajt b)), .buf 1 0 o]) := by
  refine aa0 (C := cx [(44, adn), (49, ae9)]) (abh ⟨agu, ahx, trivial⟩) (fn := Try.f109) rfl rfl rfl rfl fun hw hs => ?_
  repeat' ((conv => whnf); first | with_reducible (first | refine go1 (fun j q h => ?_) fun h => ?_ | refine go2 ⟨rfl, rfl⟩ (fun h => ?_) fun j h => ?_ | refine go2 ?_ (fun h => ?_) fun j h => ?_ | refine goQ ?_ (fun h => ?_) fun h => ?_) | refine go3 ?_ ?_ | refine go4 ?_ ?_ | refine go5 ?_ | ((first | refine go6 ?_ ?_ | refine go7 ?_ ?_ | refine go8 ?_ ?_ | refine go9 ?_ ?_ | refine goA ?_ ?_) <;> intro h) | with_reducible (first | refine aai.mk _ rfl ?_ | refine goB ?_ fun hc => ?_ | refine goC ?_ fun hc => ?_ | refine goD ?_ fun hc => ?_ | refine goE ?_ fun hc => ?_ | refine goF ?_ ?_ | refine goG ?_ ?_ | refine goH ?_ fun b hb => ?_) | refine goI ?_ | refine goJ ?_ ?_ | refine goK ?_ ?_ ?_ | refine goL ?_ ?_ ?_ ?_ | refine goM ?_ ?_ ?_ ?_ ?_ | refine goN ?_ ?_ | refine goO ?_ ?_ | with_reducible refine goP ?_)
  all_goals try conv => whnf
  all_goals try (refine aac.mk ?_; try dsimp only)
  all_goals (try simp only [aa3] at *)
  all_goals first
    | (refine stay ?_)
    | (first | trivial | omega | (simp (discharger := omega) only [wR]; omega) | (simp only [lnS]; omega) | (simp (discharger := omega) [-List.getD_eq_getElem?_getD, wR] <;> omega)) | skip
  all_goals
    unfold Cu.ajt
    first | rw [if_pos (by omega)] | rw [if_neg (by omega)]
    refine aa9.mk [] ?_ <;> (repeat' first | trivial | rfl | exact eqS _ _ | apply And.intro | apply eqA | apply eqB | apply eqC | apply eqD | apply eqE | apply eqF | apply eqG | apply eqH | apply eqI)
def aqj : Sm := fun args σ => match args, σ with
  | [.ptr 0 0, .int .u8 n_b], [.cells [.ptr 1 0, .buf 2], .cells ([.str s_c, .int .i64 (.ofNat a_c), .int .i64 (.ofNat e_c), .int .i64 c_c]), .buf 1 0 o] => some ((0 ≤ n_b ∧ n_b ≤ 255) ∧ (True ∧ ((Cu.mk s_c a_c e_c c_c).ok)), .tuple [], some [.cells [.ptr 1 0, .buf 2], .cells (eC ((Cu.mk s_c a_c e_c c_c).ajt (byte n_b))), .buf 1 0 o])
  | _, _ => none
theorem bae : SOK 109 aqj := by
  intro args sg pre x r he hp
  unfold aqj at he
  split at he <;> cases he
  · rw [af3 (hp).1]; rw [acr (hp.2).1]; exact a32 (hp := hp.2.2) ..
theorem aym (b : UInt8) (hp : True) : OK 94 ([bv b]) ([]) (.tuple [.int .i32 (axb b), .bool (ac1 b)]) (none) := by
  refine aa0 (C := cx []) (abh trivial) (fn := Try.f94) rfl rfl rfl rfl fun hw hs => ?_
  have hb : b.toNat < 256 := b.toNat_lt
  repeat' ((conv => whnf); first | with_reducible (first | refine go1 (fun j q h => ?_) fun h => ?_ | refine go2 ⟨rfl, rfl⟩ (fun h => ?_) fun j h => ?_ | refine go2 ?_ (fun h => ?_) fun j h => ?_ | refine goQ ?_ (fun h => ?_) fun h => ?_) | refine go3 ?_ ?_ | refine go4 ?_ ?_ | refine go5 ?_ | ((first | refine go6 ?_ ?_ | refine go7 ?_ ?_ | refine go8 ?_ ?_ | refine go9 ?_ ?_ | refine goA ?_ ?_) <;> intro h) | with_reducible (first | refine aai.mk _ rfl ?_ | refine goB ?_ fun hc => ?_ | refine goC ?_ fun hc => ?_ | refine goD ?_ fun hc => ?_ | refine goE ?_ fun hc => ?_ | refine goF ?_ ?_ | refine goG ?_ ?_ | refine goH ?_ fun b hb => ?_) | refine goI ?_ | refine goJ ?_ ?_ | refine goK ?_ ?_ ?_ | refine goL ?_ ?_ ?_ ?_ | refine goM ?_ ?_ ?_ ?_ ?_ | refine goN ?_ ?_ | refine goO ?_ ?_ | with_reducible refine goP ?_)
  all_goals try conv => whnf
  all_goals try (refine aac.mk ?_; try dsimp only)
  all_goals (try simp only [aa3] at *)
  all_goals first
    | (refine stay ?_)
    | (first | trivial | omega | (simp (discharger := omega) only [wR]; omega) | (simp only [lnS]; omega) | (simp (discharger := omega) [-List.getD_eq_getElem?_getD, wR] <;> omega)) | skip
  all_goals
    unfold ac1 axb
    first | rw [decide_eq_true (by omega)] | rw [decide_eq_false (by omega)]
    repeat (first | rw [if_pos (by omega)] | rw [if_neg (by omega)])
    refine aa9.mk [] ?_ <;> (repeat' first | trivial | rfl | exact eqS _ _ | apply And.intro | apply eqA | apply eqB | apply eqC | apply eqD | apply eqE | apply eqF | apply eqG | apply eqH | apply eqI)
  all_goals (first | omega | (simp (discharger := omega) only [wR]; omega) | (simp only [lnS]; omega) | (simp (discharger := omega) [-List.getD_eq_getElem?_getD, wR] <;> omega))
def an7 : Sm := fun args σ => match args, σ with
  | [.int .u8 n_b], [] => some ((0 ≤ n_b ∧ n_b ≤ 255) ∧ (True), .tuple [.int .i32 (axb (byte n_b)), .bool (ac1 (byte n_b))], none)
  | _, _ => none
theorem a6y : SOK 94 an7 := by
  intro args sg pre x r he hp
  unfold an7 at he
  split at he <;> cases he
  · rw [af3 (hp).1]; exact aym (hp := hp.2) ..
theorem a34 (b : UInt8) (hp : True) : OK 95 ([bv b]) ([]) (.int .i64 (adk b)) (none) := by
  refine aa0 (C := cx []) (abh trivial) (fn := Try.f95) rfl rfl rfl rfl fun hw hs => ?_
  repeat' ((conv => whnf); first | with_reducible (first | refine go1 (fun j q h => ?_) fun h => ?_ | refine go2 ⟨rfl, rfl⟩ (fun h => ?_) fun j h => ?_ | refine go2 ?_ (fun h => ?_) fun j h => ?_ | refine goQ ?_ (fun h => ?_) fun h => ?_) | refine go3 ?_ ?_ | refine go4 ?_ ?_ | refine go5 ?_ | ((first | refine go6 ?_ ?_ | refine go7 ?_ ?_ | refine go8 ?_ ?_ | refine go9 ?_ ?_ | refine goA ?_ ?_) <;> intro h) | with_reducible (first | refine aai.mk _ rfl ?_ | refine goB ?_ fun hc => ?_ | refine goC ?_ fun hc => ?_ | refine goD ?_ fun hc => ?_ | refine goE ?_ fun hc => ?_ | refine goF ?_ ?_ | refine goG ?_ ?_ | refine goH ?_ fun b hb => ?_) | refine goI ?_ | refine goJ ?_ ?_ | refine goK ?_ ?_ ?_ | refine goL ?_ ?_ ?_ ?_ | refine goM ?_ ?_ ?_ ?_ ?_ | refine goN ?_ ?_ | refine goO ?_ ?_ | with_reducible refine goP ?_)
  all_goals try conv => whnf
  all_goals try (refine aac.mk ?_; try dsimp only)
  all_goals (try simp only [aa3] at *)
  all_goals first
    | (refine stay ?_)
    | (first | trivial | omega | (simp (discharger := omega) only [wR]; omega) | (simp only [lnS]; omega) | (simp (discharger := omega) [-List.getD_eq_getElem?_getD, wR] <;> omega)) | skip
  all_goals
    unfold adk
    repeat (first | rw [if_pos (by omega)] | rw [if_neg (by omega)])
    refine aa9.mk [] ?_ <;> (repeat' first | trivial | rfl | exact eqS _ _ | apply And.intro | apply eqA | apply eqB | apply eqC | apply eqD | apply eqE | apply eqF | apply eqG | apply eqH | apply eqI)
def aql : Sm := fun args σ => match args, σ with
  | [.int .u8 n_b], [] => some ((0 ≤ n_b ∧ n_b ≤ 255) ∧ (True), .int .i64 (adk (byte n_b)), none)
  | _, _ => none
theorem bag : SOK 95 aql := by
  intro args sg pre x r he hp
  unfold aql at he
  split at he <;> cases he
  · rw [af3 (hp).1]; exact a34 (hp := hp.2) ..
theorem shl10 (a : Int) : a6q .i32 a 10 = IntKind.i32.wrap (a * 1024) := rfl
theorem aw2 (c : Cu) (o : List V) (hp : c.ok) : OK 92 ([.ptr 0 0]) ([.cells [.ptr 1 0, .buf 2], .cells (eC c), .buf 1 0 o]) (.int .i32 c.number.2) (some [.cells [.ptr 1 0, .buf 2], .cells (eC c.number.1), .buf 1 0 o]) := by
  refine aa0 (C := cx [(108, aqi), (109, aqj), (49, ae9)]) (abh ⟨bac, bae, ahx, trivial⟩) (fn := Try.f92) rfl rfl rfl rfl fun hw hs => ?_
  have h1 := atw c
  have h2 := atw ((c.four.1.ajt 92).ajt 117)
  have k1 := atx hp
  have k2 := amz k1 92
  have k3 := amz k2 117
  repeat' ((conv => whnf); first | with_reducible (first | refine go1 (fun j q h => ?_) fun h => ?_ | refine go2 ⟨rfl, rfl⟩ (fun h => ?_) fun j h => ?_ | refine go2 ?_ (fun h => ?_) fun j h => ?_ | refine goQ ?_ (fun h => ?_) fun h => ?_) | refine go3 ?_ ?_ | refine go4 ?_ ?_ | refine go5 ?_ | ((first | refine go6 ?_ ?_ | refine go7 ?_ ?_ | refine go8 ?_ ?_ | refine go9 ?_ ?_ | refine goA ?_ ?_) <;> intro h) | with_reducible (first | refine aai.mk _ rfl ?_ | refine goB ?_ fun hc => ?_ | refine goC ?_ fun hc => ?_ | refine goD ?_ fun hc => ?_ | refine goE ?_ fun hc => ?_ | refine goF ?_ ?_ | refine goG ?_ ?_ | refine goH ?_ fun b hb => ?_) | refine goI ?_ | refine goJ ?_ ?_ | refine goK ?_ ?_ ?_ | refine goL ?_ ?_ ?_ ?_ | refine goM ?_ ?_ ?_ ?_ ?_ | refine goN ?_ ?_ | refine goO ?_ ?_ | with_reducible refine goP ?_)
  all_goals try conv => whnf
  all_goals try (refine aac.mk ?_; try dsimp only)
  all_goals (try simp only [aa3] at *)
  all_goals first
    | (refine stay ?_)
    | (first | trivial | omega | (simp (discharger := omega) only [wR]; omega) | (simp only [lnS]; omega) | (simp (discharger := omega) [-List.getD_eq_getElem?_getD, wR] <;> omega)) | skip
  all_goals (try simp only [show byte 92 = (92 : UInt8) from rfl, show byte 117 = (117 : UInt8) from rfl, shl10] at *)
  all_goals
    unfold Cu.number
    repeat (first | rw [if_pos (by omega)] | rw [if_neg (by omega)])
    refine aa9.mk [] ?_ <;> (repeat' first | trivial | rfl | exact eqS _ _ | apply And.intro | apply eqA | apply eqB | apply eqC | apply eqD | apply eqE | apply eqF | apply eqG | apply eqH | apply eqI)
  simp only [a97]; omega
def ako : Sm := fun args σ => match args, σ with
  | [.ptr 0 0], [.cells [.ptr 1 0, .buf 2], .cells ([.str s_c, .int .i64 (.ofNat a_c), .int .i64 (.ofNat e_c), .int .i64 c_c]), .buf 1 0 o] => some (True ∧ ((Cu.mk s_c a_c e_c c_c).ok), .int .i32 (Cu.mk s_c a_c e_c c_c).number.2, some [.cells [.ptr 1 0, .buf 2], .cells (eC (Cu.mk s_c a_c e_c c_c).number.1), .buf 1 0 o])
  | _, _ => none
theorem a3v : SOK 92 ako := by
  intro args sg pre x r he hp
  unfold ako at he
  split at he <;> cases he
  · rw [acr (hp).1]; exact aw2 (hp := hp.2) ..
end Go.Proofs.Ytllncocibkgjkaa
