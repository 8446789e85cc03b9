/-
  The law's own examples.
-/
import Derived.Test.YtgbkjecepncjoaaJRg
import Derived.Test.YtgbkjecepncjoaaPQuote
set_option linter.unusedSimpArgs false
set_option linter.unusedVariables false
set_option maxHeartbeats 4000000
namespace Go.Proofs.Ytgbkjecepncjoaa
open Go Go.VG
set_option maxRecDepth 100000
theorem new_ok (s : List UInt8) : (Cu.new s).ok := ⟨Nat.zero_le _, Nat.le_refl _⟩
theorem readGo_ok : ∀ (n : Nat) (c : Cu) (o : List UInt8), c.ok → (readGo n c o).1.ok ∧ (readGo n c o).1.s = c.s
  | 0, c, o, h => by rw [readGo]; exact ⟨h, rfl⟩
  | n + 1, c, o, h => by
    have hb := byte_ok h
    have s1 := (le_byte c).1
    have go : ∀ (f : Cu) (w : List UInt8), f.ok → f.s = c.s → (readGo n f w).1.ok ∧ (readGo n f w).1.s = c.s := fun f w hf hs => by
      have := readGo_ok n f w hf; exact ⟨this.1, this.2.trans hs⟩
    rw [readGo]
    repeat' split
    · exact ⟨h, rfl⟩
    · exact go _ _ hb s1
    · exact ⟨hb, s1⟩
    · exact go _ _ (fail_ok hb 3).1 ((le_fail _ _).1.trans s1)
    · exact go _ _ (escC_ok hb) ((le_esc _).1.trans s1)
    · exact go _ _ (rawC_ok hb _) ((le_raw _ _).1.trans s1)
theorem read_ok {c : Cu} (h : c.ok) : c.read.1.ok ∧ c.read.1.s = c.s := by
  have hs := start_ok h
  have e : c.start.s = c.s := by unfold Cu.start; split; exact (le_fail _ _).1; rfl
  have := readGo_ok (c.start.byte.mu + 1) c.start.byte [] (byte_ok hs)
  exact ⟨this.1, this.2.trans ((le_byte _).1.trans e)⟩
def w1 : List UInt8 := [34, 92, 117, 50, 48, 97, 99, 92, 110, 92, 117, 100, 56, 51, 100, 92, 117, 68, 69, 48, 48, 34, 120]
def w2 : List UInt8 := [34, 92, 117, 100, 56, 51, 100, 34]
theorem w1_read : (Cu.new w1).read.2 = [226, 130, 172, 10, 240, 159, 152, 128] ∧ (Cu.new w1).read.1.left = 1 := by
  obtain ⟨h1, _, h3⟩ := read_eq (new_ok w1)
  have k : (Cu.new w1).readD.1.c = 0 ∧ (Cu.new w1).readD.2 = [226, 130, 172, 10, 240, 159, 152, 128] ∧ (Cu.new w1).readD.1.left = 1 := by decide +kernel
  exact ⟨h1.trans k.2.1, by rw [h3 k.1]; exact k.2.2⟩
theorem w2_read : (Cu.new w2).read.2 = [] ∧ (Cu.new w2).read.1.c = 6 := by
  obtain ⟨h1, h2, _⟩ := read_eq (new_ok w2)
  have k : (Cu.new w2).readD.1.c = 6 ∧ (Cu.new w2).readD.2 = [] := by decide +kernel
  exact ⟨h1.trans k.2, h2.trans k.1⟩
theorem w3 : quote [97, 34, 10] = [34, 97, 92, 34, 92, 117, 48, 48, 48, 97, 34] := by decide +kernel
/-- New, with what it makes as a name -/
def smNewR (R : List UInt8 → Cu) : Sm := fun args σ => match args, σ with
  | [.str s], [] => some (True, .ptr 0 0, some [.cells (eC (R s))])
  | _, _ => none
theorem k_newR {R : List UInt8 → Cu} (hR : ∀ s, R s = .new s) : SOK 18 (smNewR R) := by
  intro args sg pre x r he hp
  unfold smNewR at he
  split at he <;> cases he
  rw [hR]
  exact k_cNew _ _ _ _ _ rfl trivial
theorem f_jsWorks {R : List UInt8 → Cu} (hR : ∀ s, R s = .new s) : OK 17 [] [] (.bool true) none := by
  refine funOK_of_vc (C := cx [(18, smNewR R), (19, sm_jsRead), (21, sm_cLeft), (20, sm_cErr), (13, sm_jstringPut), (15, sm_jsSize)])
    (good ⟨k_newR hR, k_jsRead, k_cLeft, k_cErr, k_jstringPut, k_jsSize, trivial⟩) (fn := Try.f17) rfl rfl rfl rfl fun hw hs => ?_
  have a0 : (R w1).ok := by rw [hR]; exact new_ok _
  have b0 : (R w2).ok := by rw [hR]; exact new_ok _
  have a1 : (R w1).s.length ≤ 100000000 := by rw [hR]; decide
  have b1 : (R w2).s.length ≤ 100000000 := by rw [hR]; decide
  have a3 := (read_ok a0).1
  have a2 : (R w1).read.2 = [226, 130, 172, 10, 240, 159, 152, 128] ∧ (R w1).read.1.left = 1 := by rw [hR]; exact w1_read
  have b2 : (R w2).read.2 = [] ∧ (R w2).read.1.c = 6 := by rw [hR]; exact w2_read
  repeat' (
      conv => whnf
      first
      | refine req_i ?_ ?_
      | refine when_i ?_ ?_
      | refine brn_not ?_
      | refine brn_dec (fun h => ?_) (fun h => ?_)
      | refine brn_int (fun h => ?_) (fun h => ?_)
      | refine brn_intne (fun h => ?_) (fun h => ?_)
      | refine brn_str (fun h => ?_) (fun h => ?_)
      | refine brn_i (fun h => ?_) (fun h => ?_)
      | with_reducible refine IdxK.mk _ rfl ?_
      | with_reducible refine idx_blI ?_ (fun hc => ?_)
      | with_reducible refine idx_bl ?_ (fun hc => ?_)
      | with_reducible refine idx_strI ?_ (fun hc => ?_)
      | with_reducible refine idx_str ?_ (fun hc => ?_)
      | with_reducible refine idx_mapDI ?_ ?_
      | with_reducible refine idx_mapD ?_ ?_
      | with_reducible refine idx_at ?_ (fun b hb => ?_)
      | refine ex_bl ?_
      | refine ex_b1 ?_ ?_
      | refine ex_b2 ?_ ?_ ?_
      | refine ex_b3 ?_ ?_ ?_ ?_
      | refine ex_b4 ?_ ?_ ?_ ?_ ?_
      | refine optK_setL ?_ ?_
      | refine optK_takeL ?_ ?_
      | with_reducible refine forceDs_i ?_
      )
  all_goals try (conv => whnf)
  all_goals try (refine Side.mk ?_; try dsimp only)
  · exact ⟨trivial, a0, a1⟩
  · exact ⟨trivial, b0, b1⟩
  · exact ⟨trivial, a3⟩
  · exact ⟨trivial, trivial⟩
  · exact ⟨by decide, by decide⟩
  · refine ⟨112 :: quote [97, 34, 10], rfl, ?_⟩
    repeat' (
        conv => whnf
        first
        | refine req_i ?_ ?_
        | refine when_i ?_ ?_
        | refine brn_not ?_
        | refine brn_dec (fun h => ?_) (fun h => ?_)
        | refine brn_int (fun h => ?_) (fun h => ?_)
        | refine brn_intne (fun h => ?_) (fun h => ?_)
        | refine brn_str (fun h => ?_) (fun h => ?_)
        | refine brn_i (fun h => ?_) (fun h => ?_)
        | with_reducible refine IdxK.mk _ rfl ?_
        | with_reducible refine idx_blI ?_ (fun hc => ?_)
        | with_reducible refine idx_bl ?_ (fun hc => ?_)
        | with_reducible refine idx_strI ?_ (fun hc => ?_)
        | with_reducible refine idx_str ?_ (fun hc => ?_)
        | with_reducible refine idx_mapDI ?_ ?_
        | with_reducible refine idx_mapD ?_ ?_
        | with_reducible refine idx_at ?_ (fun b hb => ?_)
        | refine ex_bl ?_
        | refine ex_b1 ?_ ?_
        | refine ex_b2 ?_ ?_ ?_
        | refine ex_b3 ?_ ?_ ?_ ?_
        | refine ex_b4 ?_ ?_ ?_ ?_ ?_
        | refine optK_setL ?_ ?_
        | refine optK_takeL ?_ ?_
        | with_reducible refine forceDs_i ?_
        )
    all_goals try (conv => whnf)
    all_goals try (refine Side.mk ?_; try dsimp only)
    · decide
    · refine EndP.mk [] ?_ <;> (repeat' (first | trivial | rfl | exact scopedL_bl _ _ | refine And.intro ?_ ?_ | refine congrArg V.str ?_ | refine congrArg (V.int _) ?_ | refine congrArg V.bool ?_ | refine congrArg (O.buf _ _) ?_ | refine congrArg O.cells ?_ | refine congrArg (V.list _ _) ?_ | refine congrArg V.agg ?_ | refine congrArg V.tuple ?_ | refine cons_eq ?_ ?_))
  · exact absurd b2.2 (by assumption)
  · exact absurd b2.1 (by assumption)
  · exact absurd a2.2 (by assumption)
  · exact absurd a2.1 (by assumption)
theorem f_jsWorks_1  (hp : True) : OK 17 ([]) ([]) (.bool true) (none) := by
  exact f_jsWorks (R := .new) fun _ => rfl
def sm_jsWorks : Sm := fun args σ => match args, σ with
  | [], [] => some (True, .bool true, none)
  | _, _ => none
theorem k_jsWorks : SOK 17 sm_jsWorks := by
  intro args sg pre x r he hp
  unfold sm_jsWorks at he
  split at he <;> cases he
  · exact f_jsWorks_1 (hp := hp) ..
end Go.Proofs.Ytgbkjecepncjoaa
