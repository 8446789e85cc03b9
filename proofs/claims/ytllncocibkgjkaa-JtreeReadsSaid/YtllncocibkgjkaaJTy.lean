/-
  Tokens of JSON as the document reads them, and writes them.
-/
import Derived.Test.YtllncocibkgjkaaJTx
set_option linter.unusedSimpArgs false
set_option linter.unusedVariables false
set_option maxHeartbeats 4000000
namespace Go.Proofs.Ytllncocibkgjkaa
open Go Go.VG
set_option maxRecDepth 100000
theorem a3c (t : List UInt8) (i : Nat) (hp : t.length ≤ 100000000 ∧ i ≤ 900000010) : OK 122 ([.str t, .int .i64 i]) ([]) (.int .i64 (axy t i)) (none) := by
  refine aa0 (C := cx []) (abh trivial) (fn := Try.f122) rfl rfl rfl rfl fun hw hs => ?_
  obtain ⟨hl, hi⟩ := hp
  refine abt.mk Nat (fun j => i ≤ j ∧ j ≤ 900000010 ∧ axy t j = axy t i) (fun j => ⟨24, [(0, .str t), (1, .int .i64 j)], [], []⟩) (fun j => 900000011 - j) [] i ⟨Nat.le_refl _, hi, rfl⟩ ?_ (fun j ⟨h1, h2, h3⟩ _ _ => ?_)
  · refine Go.VG.Sub.mk rfl ?_ ?_ ?_ ?_ <;> (repeat' first | trivial | rfl | exact eqS _ _ | apply And.intro | apply eqA | apply eqB | apply eqC | apply eqD | apply eqE | apply eqF | apply eqG | apply eqH | apply eqI)
  have hx : (t.getD j 0).toNat < 256 := UInt8.toNat_lt _
  have dT := ap7 (b := t.getD j 0)
  have dF := avn (b := t.getD j 0)
  repeat' ((conv => whnf); first | with_reducible (first | refine go1 (fun j q h => ?_) fun h => ?_ | refine go2 ⟨rfl, rfl⟩ (fun h => ?_) fun j h => ?_ | refine go2 ?_ (fun h => ?_) fun j h => ?_ | refine goQ ?_ (fun h => ?_) fun h => ?_) | refine go3 ?_ ?_ | refine go4 ?_ ?_ | refine go5 ?_ | ((first | refine go6 ?_ ?_ | refine go7 ?_ ?_ | refine go8 ?_ ?_ | refine go9 ?_ ?_ | refine goA ?_ ?_) <;> intro h) | with_reducible (first | refine aai.mk _ rfl ?_ | refine goB ?_ fun hc => ?_ | refine goC ?_ fun hc => ?_ | refine goD ?_ fun hc => ?_ | refine goE ?_ fun hc => ?_ | refine goF ?_ ?_ | refine goG ?_ ?_ | refine goH ?_ fun b hb => ?_) | refine goI ?_ | refine goJ ?_ ?_ | refine goK ?_ ?_ ?_ | refine goL ?_ ?_ ?_ ?_ | refine goM ?_ ?_ ?_ ?_ ?_ | refine goN ?_ ?_ | refine goO ?_ ?_ | with_reducible refine goP ?_)
  all_goals try conv => whnf
  all_goals try (refine aac.mk ?_; try dsimp only)
  all_goals (try simp only [aa3] at *)
  all_goals first
    | (refine stay ?_)
    | (first | trivial | omega | (simp (discharger := omega) only [wR]; omega) | (simp only [lnS]; omega) | (simp (discharger := omega) [-List.getD_eq_getElem?_getD, wR] <;> omega)) | skip
  all_goals first
    | (have e := aud (t := t) (i := j) (by omega) (dT.2 (by omega))
       refine ⟨[], j + 1, ⟨by omega, by omega, by rw [← e]; exact h3⟩, ?_, by omega⟩
       refine Go.VG.Sub.mk rfl ?_ ?_ ?_ ?_ <;> (repeat' first | trivial | rfl | exact eqS _ _ | apply And.intro | apply eqA | apply eqB | apply eqC | apply eqD | apply eqE | apply eqF | apply eqG | apply eqH | apply eqI)
       (first | omega | (simp (discharger := omega) only [wR]; omega) | (simp only [lnS]; omega) | (simp (discharger := omega) [-List.getD_eq_getElem?_getD, wR] <;> omega)))
    | (have e := aj0 (t := t) (i := j) (.inr (dF.2 (by omega)))
       rw [← h3, e]
       refine aa9.mk [] ?_ <;> (repeat' first | trivial | rfl | exact eqS _ _ | apply And.intro | apply eqA | apply eqB | apply eqC | apply eqD | apply eqE | apply eqF | apply eqG | apply eqH | apply eqI)
       )
    | (have e := aj0 (t := t) (i := j) (.inl (by omega))
       rw [← h3, e]
       refine aa9.mk [] ?_ <;> (repeat' first | trivial | rfl | exact eqS _ _ | apply And.intro | apply eqA | apply eqB | apply eqC | apply eqD | apply eqE | apply eqF | apply eqG | apply eqH | apply eqI)
       )
    | skip
def aqp : Sm := fun args σ => match args, σ with
  | [.str t, .int .i64 (.ofNat i)], [] => some (t.length ≤ 100000000 ∧ i ≤ 900000010, .int .i64 (axy t i), none)
  | _, _ => none
theorem bak : SOK 122 aqp := by
  intro args sg pre x r he hp
  unfold aqp at he
  split at he <;> cases he
  · exact a3c (hp := hp) ..
theorem a3b (t : List UInt8) (i : Nat) (a : UInt8) (b : UInt8) (hp : t.length ≤ 100000000 ∧ i ≤ 900000010) : OK 101 ([.str t, .int .i64 i, bv a, bv b]) ([]) (.bool (arh t i a.toNat b.toNat)) (none) := by
  refine aa0 (C := cx []) (abh trivial) (fn := Try.f101) rfl rfl rfl rfl fun hw hs => ?_
  obtain ⟨hl, hi⟩ := hp
  have hx : (t.getD i 0).toNat < 256 := UInt8.toNat_lt _
  have ha : a.toNat < 256 := a.toNat_lt
  have hb : b.toNat < 256 := b.toNat_lt
  repeat' ((conv => whnf); first | with_reducible (first | refine go1 (fun j q h => ?_) fun h => ?_ | refine go2 ⟨rfl, rfl⟩ (fun h => ?_) fun j h => ?_ | refine go2 ?_ (fun h => ?_) fun j h => ?_ | refine goQ ?_ (fun h => ?_) fun h => ?_) | refine go3 ?_ ?_ | refine go4 ?_ ?_ | refine go5 ?_ | ((first | refine go6 ?_ ?_ | refine go7 ?_ ?_ | refine go8 ?_ ?_ | refine go9 ?_ ?_ | refine goA ?_ ?_) <;> intro h) | with_reducible (first | refine aai.mk _ rfl ?_ | refine goB ?_ fun hc => ?_ | refine goC ?_ fun hc => ?_ | refine goD ?_ fun hc => ?_ | refine goE ?_ fun hc => ?_ | refine goF ?_ ?_ | refine goG ?_ ?_ | refine goH ?_ fun b hb => ?_) | refine goI ?_ | refine goJ ?_ ?_ | refine goK ?_ ?_ ?_ | refine goL ?_ ?_ ?_ ?_ | refine goM ?_ ?_ ?_ ?_ ?_ | refine goN ?_ ?_ | refine goO ?_ ?_ | with_reducible refine goP ?_)
  all_goals try conv => whnf
  all_goals try (refine aac.mk ?_; try dsimp only)
  all_goals (try simp only [aa3] at *)
  all_goals first
    | (refine stay ?_)
    | (first | trivial | omega | (simp (discharger := omega) only [wR]; omega) | (simp only [lnS]; omega) | (simp (discharger := omega) [-List.getD_eq_getElem?_getD, wR] <;> omega)) | skip
  all_goals
    refine aa9.mk [] ?_ <;> (repeat' first | trivial | rfl | exact eqS _ _ | apply And.intro | apply eqA | apply eqB | apply eqC | apply eqD | apply eqE | apply eqF | apply eqG | apply eqH | apply eqI)
    first
    | (exact (ai8.2 (by omega)).symm)
    | (exact (a7x.2 (by omega)).symm)
    | (cases h : arh t i a.toNat b.toNat with
       | true => have := ai8.1 h; simp [-List.getD_eq_getElem?_getD]; omega
       | false => have := a7x.1 h; simp [-List.getD_eq_getElem?_getD]; omega)
def sm_r11one : Sm := fun args σ => match args, σ with
  | [.str t, .int .i64 (.ofNat i), .int .u8 n_a, .int .u8 n_b], [] => some ((0 ≤ n_b ∧ n_b ≤ 255) ∧ ((0 ≤ n_a ∧ n_a ≤ 255) ∧ (t.length ≤ 100000000 ∧ i ≤ 900000010)), .bool (arh t i (byte n_a).toNat (byte n_b).toNat), none)
  | _, _ => none
theorem ayu (t : List UInt8) (i : Nat) (hp : t.length ≤ 100000000 ∧ i ≤ 900000010) : OK 102 ([.str t, .int .i64 i]) ([]) (.tuple [.int .i64 (agv t i).1, .int .i64 (agv t i).2]) (none) := by
  refine aa0 (C := cx [(122, aqp)]) (abh ⟨bak, trivial⟩) (fn := Try.f102) rfl rfl rfl rfl fun hw hs => ?_
  obtain ⟨hl, hi⟩ := hp
  have hr := aq8 t i
  repeat' ((conv => whnf); first | with_reducible (first | refine go1 (fun j q h => ?_) fun h => ?_ | refine go2 ⟨rfl, rfl⟩ (fun h => ?_) fun j h => ?_ | refine go2 ?_ (fun h => ?_) fun j h => ?_ | refine goQ ?_ (fun h => ?_) fun h => ?_) | refine go3 ?_ ?_ | refine go4 ?_ ?_ | refine go5 ?_ | ((first | refine go6 ?_ ?_ | refine go7 ?_ ?_ | refine go8 ?_ ?_ | refine go9 ?_ ?_ | refine goA ?_ ?_) <;> intro h) | with_reducible (first | refine aai.mk _ rfl ?_ | refine goB ?_ fun hc => ?_ | refine goC ?_ fun hc => ?_ | refine goD ?_ fun hc => ?_ | refine goE ?_ fun hc => ?_ | refine goF ?_ ?_ | refine goG ?_ ?_ | refine goH ?_ fun b hb => ?_) | refine goI ?_ | refine goJ ?_ ?_ | refine goK ?_ ?_ ?_ | refine goL ?_ ?_ ?_ ?_ | refine goM ?_ ?_ ?_ ?_ ?_ | refine goN ?_ ?_ | refine goO ?_ ?_ | with_reducible refine goP ?_)
  all_goals try conv => whnf
  all_goals try (refine aac.mk ?_; try dsimp only)
  all_goals (try simp only [aa3] at *)
  all_goals first
    | (refine stay ?_)
    | (first | trivial | omega | (simp (discharger := omega) only [wR]; omega) | (simp only [lnS]; omega) | (simp (discharger := omega) [-List.getD_eq_getElem?_getD, wR] <;> omega)) | skip
  all_goals
    unfold agv
    repeat (first | rw [if_pos (by omega)] | rw [if_neg (by omega)])
    refine aa9.mk [] ?_ <;> (repeat' first | trivial | rfl | exact eqS _ _ | apply And.intro | apply eqA | apply eqB | apply eqC | apply eqD | apply eqE | apply eqF | apply eqG | apply eqH | apply eqI)
structure NP where
  w : List UInt8
  b : List UInt8
  p : List UInt8
  e : Nat
  c : Int
def asz (t : List UInt8) (i : Nat) : NP :=
  ⟨sub t (axz t i 45 45) (abe t i).1,
   if (abe t i).2 = 0 ∧ arh t (abe t i).1 46 46 = true then sub t ((abe t i).1 + 1) (ac6 t (abe t i)).1 else [],
   if (ac6 t (abe t i)).2 = 0 ∧ arh t (ac6 t (abe t i)).1 101 69 = true then sub t ((ac6 t (abe t i)).1 + 1) (aob t i).1 else [],
   (aob t i).1, (aob t i).2⟩
abbrev eNP (x : NP) : List V := [.str x.w, .str x.b, .str x.p, .int .i64 x.e, .int .i64 x.c]
def a8q (on : List UInt8 → Nat → UInt8 → UInt8 → Bool) : Sm := fun args σ => match args, σ with
  | [.str t, .int .i64 i, .int .u8 a, .int .u8 b], [] => some ((0 ≤ a ∧ a ≤ 255) ∧ (0 ≤ b ∧ b ≤ 255) ∧ t.length ≤ 100000000 ∧ 0 ≤ i ∧ i ≤ 900000010, .bool (on t i.toNat (byte a) (byte b)), none)
  | _, _ => none
theorem k_oneR {on : List UInt8 → Nat → UInt8 → UInt8 → Bool} (h : ∀ t i a b, on t i a b = arh t i a.toNat b.toNat) : SOK 101 (a8q on) := by
  intro args sg pre x r he hp
  unfold a8q at he
  split at he <;> cases he
  obtain ⟨h1, h2, h3, h4, h5⟩ := hp
  rename_i i _ _
  obtain ⟨n, rfl⟩ := Int.eq_ofNat_of_zero_le h4
  rw [h, af3 h1, af3 h2]
  exact a3b _ _ _ _ ⟨h3, by omega⟩
def a03 (nd : List UInt8 → Nat → Nat × Int) : Sm := fun args σ => match args, σ with
  | [.str t, .int .i64 i], [] => some (t.length ≤ 100000000 ∧ 0 ≤ i ∧ i ≤ 900000010, .tuple [.int .i64 (nd t i.toNat).1, .int .i64 (nd t i.toNat).2], none)
  | _, _ => none
theorem bds {nd : List UInt8 → Nat → Nat × Int} (h : ∀ t i, nd t i = agv t i) : SOK 102 (a03 nd) := by
  intro args sg pre x r he hp
  unfold a03 at he
  split at he <;> cases he
  obtain ⟨h3, h4, h5⟩ := hp
  rename_i i
  obtain ⟨n, rfl⟩ := Int.eq_ofNat_of_zero_le h4
  rw [h]
  exact ayu _ _ ⟨h3, by omega⟩
theorem wrapS (n : Nat) (h : n ≤ 1000000000) : IntKind.i64.wrap ((n : Int) + 1) = ((n + 1 : Nat) : Int) := by rw [a27]; omega
theorem bch {t : List UInt8} {j a b : Nat} (h : arh t j a b = true) : j + 1 ≤ t.length := (ai8.1 h).1
theorem bdz {t : List UInt8} {j a b : Nat} (h : arh t j a b = true) : ((j + 1 : Nat) : Int) ≤ (t.length : Int) := by have := bch h; omega
theorem le_i {t : List UInt8} {j : Nat} (h : j ≤ t.length) : (j : Int) ≤ (t.length : Int) := by omega
theorem bas {t : List UInt8} {j : Nat} (h : j ≤ t.length) : ((agv t j).1 : Int) ≤ (t.length : Int) := by have := (ajk t j h).2; omega
theorem sliceI {t : List UInt8} {a b : Int} (h1 : 0 ≤ a) (h2 : a ≤ b) (h3 : b ≤ (t.length : Int)) : 0 ≤ a ∧ a ≤ b ∧ b ≤ (t.length : Int) := ⟨h1, h2, h3⟩
theorem a9q {on : List UInt8 → Nat → UInt8 → UInt8 → Bool} {nd : List UInt8 → Nat → Nat × Int} (ho : ∀ t i a b, on t i a b = arh t i a.toNat b.toNat) (hn : ∀ t i, nd t i = agv t i) (t : List UInt8) (i : Nat)
    (hl : t.length ≤ 100000000) (hi : i ≤ t.length) : OK 81 [.str t, .int .i64 i] [] (.agg (eNP (asz t i))) none := by
  refine aa0 (C := cx [(101, a8q on), (102, a03 nd)]) (abh ⟨k_oneR ho, bds hn, trivial⟩) (fn := Try.f81) rfl rfl rfl rfl fun hw hs => ?_
  have G : ∀ j, j ≤ (nd t j).1 ∧ (nd t j).1 ≤ t.length + j := fun j => by
    have := aq8 t j
    rw [hn]; unfold agv; repeat' split
    all_goals (dsimp only; omega)
  have L1 : ∀ {j : Nat}, j ≤ t.length → ((nd t j).1 : Int) ≤ (t.length : Int) := fun h => by rw [hn]; exact bas h
  have f0 := G (i)
  have f1 := G (i + 1)
  have f2 := G ((nd t (i)).1 + 1)
  have f3 := G ((nd t (i + 1)).1 + 1)
  have f4 := G (i + 1 + 1)
  have f5 := G (i + 1 + 1 + 1)
  have f6 := G ((nd t ((nd t (i)).1 + 1)).1 + 1)
  have f7 := G ((nd t ((nd t (i + 1)).1 + 1)).1 + 1)
  have f8 := G ((nd t (i + 1 + 1)).1 + 1)
  have f9 := G ((nd t (i + 1 + 1 + 1)).1 + 1)
  have f10 := G ((nd t (i)).1 + 1 + 1)
  have f11 := G ((nd t (i + 1)).1 + 1 + 1)
  have f12 := G (i + 1 + 1 + 1 + 1)
  have f13 := G ((nd t ((nd t (i)).1 + 1)).1 + 1 + 1)
  have f14 := G ((nd t ((nd t (i + 1)).1 + 1)).1 + 1 + 1)
  have f15 := G ((nd t (i + 1 + 1)).1 + 1 + 1)
  have f16 := G ((nd t (i + 1 + 1 + 1)).1 + 1 + 1)
  repeat' ((conv => whnf); first | with_reducible (first | refine go1 (fun j q h => ?_) fun h => ?_ | refine go2 ⟨rfl, rfl⟩ (fun h => ?_) fun j h => ?_ | refine go2 ?_ (fun h => ?_) fun j h => ?_ | refine goQ ?_ (fun h => ?_) fun h => ?_) | refine go3 ?_ ?_ | refine go4 ?_ ?_ | refine go5 ?_ | ((first | refine go6 ?_ ?_ | refine go7 ?_ ?_ | refine go8 ?_ ?_ | refine go9 ?_ ?_ | refine goA ?_ ?_) <;> intro h) | with_reducible (first | refine aai.mk _ rfl ?_ | refine goB ?_ fun hc => ?_ | refine goC ?_ fun hc => ?_ | refine goD ?_ fun hc => ?_ | refine goE ?_ fun hc => ?_ | refine goF ?_ ?_ | refine goG ?_ ?_ | refine goH ?_ fun b hb => ?_) | refine goI ?_ | refine goJ ?_ ?_ | refine goK ?_ ?_ ?_ | refine goL ?_ ?_ ?_ ?_ | refine goM ?_ ?_ ?_ ?_ ?_ | refine goN ?_ ?_ | refine goO ?_ ?_ | with_reducible refine goP ?_)
  all_goals try conv => whnf
  all_goals try (refine aac.mk ?_; try dsimp only)
  all_goals (try simp only [show (byte 45).toNat = 45 from rfl, show (byte 48).toNat = 48 from rfl, show (byte 46).toNat = 46 from rfl, show (byte 101).toNat = 101 from rfl, show (byte 69).toNat = 69 from rfl, show (byte 43).toNat = 43 from rfl, cond_true, cond_false, Int.toNat_natCast] at *)
  all_goals (try simp (discharger := omega) only [wrapS, Int.toNat_natCast] at *)
  all_goals clear hw hs
  all_goals (try simp only [ho, show (byte 45).toNat = 45 from rfl, show (byte 48).toNat = 48 from rfl, show (byte 46).toNat = 46 from rfl, show (byte 101).toNat = 101 from rfl, show (byte 69).toNat = 69 from rfl, show (byte 43).toNat = 43 from rfl] at *)
  all_goals first
    | (show aa9 _ _ _ _ _ _; skip)
    | (refine sliceI ?_ ?_ ?_
       · omega
       · omega
       · repeat' (first | exact bdz (by assumption) | exact le_i hi | refine L1 ?_ | exact bch (by assumption) | exact hi)
         done)
    | (refine ⟨by omega, by omega, ?_⟩
       omega)
    | skip
  all_goals (simp only [hn] at *)
  all_goals clear f0 f1 f2 f3 f4 f5 f6 f7 f8 f9 f10 f11 f12 f13 f14 f15 f16 G L1 ho hn
  all_goals
    simp only [asz, aob, aq4, ac6, abe, axz, *, if_true, if_false, and_self, and_true, true_and, and_false, false_and, Bool.false_eq_true, reduceCtorEq, if_pos, if_neg, not_false_eq_true]
    refine aa9.mk [] ?_ <;> (repeat' first | trivial | rfl | exact eqS _ _ | apply And.intro | apply eqA | apply eqB | apply eqC | apply eqD | apply eqE | apply eqF | apply eqG | apply eqH | apply eqI)
theorem aw6 (t : List UInt8) (i : Nat) (hp : t.length ≤ 100000000 ∧ i ≤ t.length) : OK 81 ([.str t, .int .i64 i]) ([]) (.agg (eNP (asz t i))) (none) := by
  exact a9q (on := fun t i a b => arh t i a.toNat b.toNat) (nd := agv) (fun _ _ _ _ => rfl) (fun _ _ => rfl) t i hp.1 hp.2
def aul (sp : List UInt8 → Nat → NP) : Sm := fun args σ => match args, σ with
  | [.str t, .int .i64 (.ofNat i)], [] => some (t.length ≤ 100000000 ∧ i ≤ t.length, .agg (eNP (sp t i)), none)
  | _, _ => none
theorem bal {sp : List UInt8 → Nat → NP} (h : ∀ t i, sp t i = asz t i) : SOK 81 (aul sp) := by
  intro args sg pre x r he hp
  unfold aul at he
  split at he <;> cases he
  rw [h]
  exact aw6 _ _ hp
theorem a3a {sp : List UInt8 → Nat → NP} (hsp : ∀ t i, sp t i = asz t i) (c : Cu) (hk : c.ok) (hl : c.s.length ≤ 100000000) : OK 52 [.agg (eC c)] [] (.tuple [.agg (eC c.a44.1), .str c.a44.2]) none := by
  refine aa0 (C := cx [(81, aul sp), (54, afo)]) (abh ⟨bal hsp, alc, trivial⟩) (fn := Try.f52) rfl rfl rfl rfl fun hw hs => ?_
  have h1 := hk.1
  have h2 := hk.2
  have hlen := aci hk
  have htx : c.s.take c.e = c.txt := rfl
  have hge := a7u c.txt c.p (by omega)
  have e1 : (sp c.txt c.p).e = (aob c.txt c.p).1 := by rw [hsp]; rfl
  have e2 : (sp c.txt c.p).c = (aob c.txt c.p).2 := by rw [hsp]; rfl
  repeat' ((conv => whnf); first | with_reducible (first | refine go1 (fun j q h => ?_) fun h => ?_ | refine go2 ⟨rfl, rfl⟩ (fun h => ?_) fun j h => ?_ | refine go2 ?_ (fun h => ?_) fun j h => ?_ | refine goQ ?_ (fun h => ?_) fun h => ?_) | refine go3 ?_ ?_ | refine go4 ?_ ?_ | refine go5 ?_ | ((first | refine go6 ?_ ?_ | refine go7 ?_ ?_ | refine go8 ?_ ?_ | refine go9 ?_ ?_ | refine goA ?_ ?_) <;> intro h) | with_reducible (first | refine aai.mk _ rfl ?_ | refine goB ?_ fun hc => ?_ | refine goC ?_ fun hc => ?_ | refine goD ?_ fun hc => ?_ | refine goE ?_ fun hc => ?_ | refine goF ?_ ?_ | refine goG ?_ ?_ | refine goH ?_ fun b hb => ?_) | refine goI ?_ | refine goJ ?_ ?_ | refine goK ?_ ?_ ?_ | refine goL ?_ ?_ ?_ ?_ | refine goM ?_ ?_ ?_ ?_ ?_ | refine goN ?_ ?_ | refine goO ?_ ?_ | with_reducible refine goP ?_)
  all_goals try conv => whnf
  all_goals try (refine aac.mk ?_; try dsimp only)
  all_goals (try simp only [Int.toNat_natCast, htx, e1, e2] at *)
  all_goals (try simp only [aa3] at *)
  all_goals first
    | (refine stay ?_)
    | (first | trivial | omega | (simp (discharger := omega) only [wR]; omega) | (simp only [lnS]; omega) | (simp (discharger := omega) [-List.getD_eq_getElem?_getD, wR] <;> omega)) | skip
  all_goals
    unfold Cu.a44
    repeat (first | rw [if_pos (by omega)] | rw [if_neg (by omega)])
    refine aa9.mk [] ?_ <;> (repeat' first | trivial | rfl | exact eqS _ _ | apply And.intro | apply eqA | apply eqB | apply eqC | apply eqD | apply eqE | apply eqF | apply eqG | apply eqH | apply eqI)
theorem ayt (c : Cu) (hp : c.ok ∧ c.s.length ≤ 100000000) : OK 52 ([.agg (eC c)]) ([]) (.tuple [.agg (eC c.a44.1), .str c.a44.2]) (none) := by
  exact a3a (sp := asz) (fun _ _ => rfl) c hp.1 hp.2
def anb : Sm := fun args σ => match args, σ with
  | [.agg ([.str s_c, .int .i64 (.ofNat a_c), .int .i64 (.ofNat e_c), .int .i64 c_c])], [] => some (True ∧ ((Cu.mk s_c a_c e_c c_c).ok ∧ (Cu.mk s_c a_c e_c c_c).s.length ≤ 100000000), .tuple [.agg (eC (Cu.mk s_c a_c e_c c_c).a44.1), .str (Cu.mk s_c a_c e_c c_c).a44.2], none)
  | _, _ => none
theorem a72 : SOK 52 anb := by
  intro args sg pre x r he hp
  unfold anb at he
  split at he <;> cases he
  · rw [acr (hp).1]; exact ayt (hp := hp.2) ..
theorem ayw (b : UInt8) (hp : True) : OK 40 ([bv b]) ([]) (.bool (ach b)) (none) := by
  refine aa0 (C := cx []) (abh trivial) (fn := Try.f40) rfl rfl rfl rfl fun hw hs => ?_
  have hb : b.toNat < 256 := b.toNat_lt
  have sT : ach b = true ↔ (b.toNat = 123 ∨ b.toNat = 125 ∨ b.toNat = 91 ∨ b.toNat = 93 ∨ b.toNat = 58 ∨ b.toNat = 44) := decide_eq_true_iff
  repeat' ((conv => whnf); first | with_reducible (first | refine go1 (fun j q h => ?_) fun h => ?_ | refine go2 ⟨rfl, rfl⟩ (fun h => ?_) fun j h => ?_ | refine go2 ?_ (fun h => ?_) fun j h => ?_ | refine goQ ?_ (fun h => ?_) fun h => ?_) | refine go3 ?_ ?_ | refine go4 ?_ ?_ | refine go5 ?_ | ((first | refine go6 ?_ ?_ | refine go7 ?_ ?_ | refine go8 ?_ ?_ | refine go9 ?_ ?_ | refine goA ?_ ?_) <;> intro h) | with_reducible (first | refine aai.mk _ rfl ?_ | refine goB ?_ fun hc => ?_ | refine goC ?_ fun hc => ?_ | refine goD ?_ fun hc => ?_ | refine goE ?_ fun hc => ?_ | refine goF ?_ ?_ | refine goG ?_ ?_ | refine goH ?_ fun b hb => ?_) | refine goI ?_ | refine goJ ?_ ?_ | refine goK ?_ ?_ ?_ | refine goL ?_ ?_ ?_ ?_ | refine goM ?_ ?_ ?_ ?_ ?_ | refine goN ?_ ?_ | refine goO ?_ ?_ | with_reducible refine goP ?_)
  all_goals try conv => whnf
  all_goals try (refine aac.mk ?_; try dsimp only)
  all_goals (try simp only [aa3] at *)
  all_goals first
    | (refine stay ?_)
    | (first | trivial | omega | (simp (discharger := omega) only [wR]; omega) | (simp only [lnS]; omega) | (simp (discharger := omega) [-List.getD_eq_getElem?_getD, wR] <;> omega)) | skip
  all_goals
    refine aa9.mk [] ?_ <;> (repeat' first | trivial | rfl | exact eqS _ _ | apply And.intro | apply eqA | apply eqB | apply eqC | apply eqD | apply eqE | apply eqF | apply eqG | apply eqH | apply eqI)
    first
    | exact (sT.2 (by omega)).symm
    | (cases q : ach b with
       | true => have := sT.1 q; simp; omega
       | false =>
                have z : ¬ (b.toNat = 123 ∨ b.toNat = 125 ∨ b.toNat = 91 ∨ b.toNat = 93 ∨ b.toNat = 58 ∨ b.toNat = 44) := fun h => by rw [sT.2 h] at q; cases q
                simp; omega)
def ahk : Sm := fun args σ => match args, σ with
  | [.int .u8 n_b], [] => some ((0 ≤ n_b ∧ n_b ≤ 255) ∧ (True), .bool (ach (byte n_b)), none)
  | _, _ => none
theorem apo : SOK 40 ahk := by
  intro args sg pre x r he hp
  unfold ahk at he
  split at he <;> cases he
  · rw [af3 (hp).1]; exact ayw (hp := hp.2) ..
theorem ar7 (k : UInt8) (hp : True) : OK 41 ([bv k]) ([]) (.str (spell k)) (none) := by
  refine aa0 (C := cx []) (abh trivial) (fn := Try.f41) rfl rfl rfl rfl fun hw hs => ?_
  have hb : k.toNat < 256 := k.toNat_lt
  repeat' ((conv => whnf); first | with_reducible (first | refine go1 (fun j q h => ?_) fun h => ?_ | refine go2 ⟨rfl, rfl⟩ (fun h => ?_) fun j h => ?_ | refine go2 ?_ (fun h => ?_) fun j h => ?_ | refine goQ ?_ (fun h => ?_) fun h => ?_) | refine go3 ?_ ?_ | refine go4 ?_ ?_ | refine go5 ?_ | ((first | refine go6 ?_ ?_ | refine go7 ?_ ?_ | refine go8 ?_ ?_ | refine go9 ?_ ?_ | refine goA ?_ ?_) <;> intro h) | with_reducible (first | refine aai.mk _ rfl ?_ | refine goB ?_ fun hc => ?_ | refine goC ?_ fun hc => ?_ | refine goD ?_ fun hc => ?_ | refine goE ?_ fun hc => ?_ | refine goF ?_ ?_ | refine goG ?_ ?_ | refine goH ?_ fun b hb => ?_) | refine goI ?_ | refine goJ ?_ ?_ | refine goK ?_ ?_ ?_ | refine goL ?_ ?_ ?_ ?_ | refine goM ?_ ?_ ?_ ?_ ?_ | refine goN ?_ ?_ | refine goO ?_ ?_ | with_reducible refine goP ?_)
  all_goals try conv => whnf
  all_goals try (refine aac.mk ?_; try dsimp only)
  all_goals (try simp only [aa3] at *)
  all_goals first
    | (refine stay ?_)
    | (first | trivial | omega | (simp (discharger := omega) only [wR]; omega) | (simp only [lnS]; omega) | (simp (discharger := omega) [-List.getD_eq_getElem?_getD, wR] <;> omega)) | skip
  all_goals
    unfold spell
    repeat (first | rw [if_pos (by omega)] | rw [if_neg (by omega)])
    refine aa9.mk [] ?_ <;> (repeat' first | trivial | rfl | exact eqS _ _ | apply And.intro | apply eqA | apply eqB | apply eqC | apply eqD | apply eqE | apply eqF | apply eqG | apply eqH | apply eqI)
def ai2 : Sm := fun args σ => match args, σ with
  | [.int .u8 n_k], [] => some ((0 ≤ n_k ∧ n_k ≤ 255) ∧ (True), .str (spell (byte n_k)), none)
  | _, _ => none
theorem awm : SOK 41 ai2 := by
  intro args sg pre x r he hp
  unfold ai2 at he
  split at he <;> cases he
  · rw [af3 (hp).1]; exact ar7 (hp := hp.2) ..
theorem a6d (c : Cu) (k : UInt8) (t : List UInt8) (hp : True) : OK 51 ([.agg (eC c), bv k, .str t]) ([]) (.tuple [.agg (eC c), .agg (eT (if c.c = 0 then ⟨k, t⟩ else .no))]) (none) := by
  refine aa0 (C := cx []) (abh trivial) (fn := Try.f51) rfl rfl rfl rfl fun hw hs => ?_
  have hb : k.toNat < 256 := k.toNat_lt
  repeat' ((conv => whnf); first | with_reducible (first | refine go1 (fun j q h => ?_) fun h => ?_ | refine go2 ⟨rfl, rfl⟩ (fun h => ?_) fun j h => ?_ | refine go2 ?_ (fun h => ?_) fun j h => ?_ | refine goQ ?_ (fun h => ?_) fun h => ?_) | refine go3 ?_ ?_ | refine go4 ?_ ?_ | refine go5 ?_ | ((first | refine go6 ?_ ?_ | refine go7 ?_ ?_ | refine go8 ?_ ?_ | refine go9 ?_ ?_ | refine goA ?_ ?_) <;> intro h) | with_reducible (first | refine aai.mk _ rfl ?_ | refine goB ?_ fun hc => ?_ | refine goC ?_ fun hc => ?_ | refine goD ?_ fun hc => ?_ | refine goE ?_ fun hc => ?_ | refine goF ?_ ?_ | refine goG ?_ ?_ | refine goH ?_ fun b hb => ?_) | refine goI ?_ | refine goJ ?_ ?_ | refine goK ?_ ?_ ?_ | refine goL ?_ ?_ ?_ ?_ | refine goM ?_ ?_ ?_ ?_ ?_ | refine goN ?_ ?_ | refine goO ?_ ?_ | with_reducible refine goP ?_)
  all_goals try conv => whnf
  all_goals try (refine aac.mk ?_; try dsimp only)
  all_goals (try simp only [aa3] at *)
  all_goals first
    | (refine stay ?_)
    | (first | trivial | omega | (simp (discharger := omega) only [wR]; omega) | (simp only [lnS]; omega) | (simp (discharger := omega) [-List.getD_eq_getElem?_getD, wR] <;> omega)) | skip
  all_goals
    first | rw [if_pos (by assumption)] | rw [if_neg (by assumption)]
    refine aa9.mk [] ?_ <;> (repeat' first | trivial | rfl | exact eqS _ _ | apply And.intro | apply eqA | apply eqB | apply eqC | apply eqD | apply eqE | apply eqF | apply eqG | apply eqH | apply eqI)
def auu : Sm := fun args σ => match args, σ with
  | [.agg ([.str s_c, .int .i64 (.ofNat a_c), .int .i64 (.ofNat e_c), .int .i64 c_c]), .int .u8 n_k, .str t], [] => some ((0 ≤ n_k ∧ n_k ≤ 255) ∧ (True ∧ (True)), .tuple [.agg (eC (Cu.mk s_c a_c e_c c_c)), .agg (eT (if (Cu.mk s_c a_c e_c c_c).c = 0 then ⟨(byte n_k), t⟩ else .no))], none)
  | _, _ => none
theorem bdt : SOK 51 auu := by
  intro args sg pre x r he hp
  unfold auu at he
  split at he <;> cases he
  · rw [af3 (hp).1]; rw [acr (hp.2).1]; exact a6d (hp := hp.2.2) ..
theorem ayx (c : Cu) (k : UInt8) (hp : c.ok ∧ c.s.length ≤ 100000000) : OK 53 ([.agg (eC c), bv k]) ([]) (.tuple [.agg (eC (c.afk k).1), .agg (eT (c.afk k).2)]) (none) := by
  refine aa0 (C := cx [(41, ai2), (54, afo)]) (abh ⟨awm, alc, trivial⟩) (fn := Try.f53) rfl rfl rfl rfl fun hw hs => ?_
  obtain ⟨hk, hl⟩ := hp
  have h1 := hk.1
  have h2 := hk.2
  have hb : k.toNat < 256 := k.toNat_lt
  have hsl : (spell k).length ≤ 5 := by
    unfold spell; repeat' split
    all_goals simp
  have hkk : byte k.toNat = k := aaf _
  repeat' ((conv => whnf); first | with_reducible (first | refine go1 (fun j q h => ?_) fun h => ?_ | refine go2 ⟨rfl, rfl⟩ (fun h => ?_) fun j h => ?_ | refine go2 ?_ (fun h => ?_) fun j h => ?_ | refine goQ ?_ (fun h => ?_) fun h => ?_) | refine go3 ?_ ?_ | refine go4 ?_ ?_ | refine go5 ?_ | ((first | refine go6 ?_ ?_ | refine go7 ?_ ?_ | refine go8 ?_ ?_ | refine go9 ?_ ?_ | refine goA ?_ ?_) <;> intro h) | with_reducible (first | refine aai.mk _ rfl ?_ | refine goB ?_ fun hc => ?_ | refine goC ?_ fun hc => ?_ | refine goD ?_ fun hc => ?_ | refine goE ?_ fun hc => ?_ | refine goF ?_ ?_ | refine goG ?_ ?_ | refine goH ?_ fun b hb => ?_) | refine goI ?_ | refine goJ ?_ ?_ | refine goK ?_ ?_ ?_ | refine goL ?_ ?_ ?_ ?_ | refine goM ?_ ?_ ?_ ?_ ?_ | refine goN ?_ ?_ | refine goO ?_ ?_ | with_reducible refine goP ?_)
  all_goals try conv => whnf
  all_goals try (refine aac.mk ?_; try dsimp only)
  all_goals (try simp only [aa3] at *)
  all_goals first
    | (refine stay ?_)
    | (first | trivial | omega | (simp (discharger := omega) only [wR]; omega) | (simp only [lnS]; omega) | (simp (discharger := omega) [-List.getD_eq_getElem?_getD, wR] <;> omega)) | skip
  all_goals (try simp only [hkk] at *)
  refine abt.mk Nat (fun i => i ≤ (spell k).length ∧ af4 c (spell k) 0 = af4 c ((spell k).drop i) i) (fun i => ⟨49, [(1, bv k), (2, .ptr 0 0), (4, .ptr 1 0), (5, .ptr 2 0), (6, .str (spell k)), (7, .int .i64 i)], [.cells (eC c), .cells [.str [], .int .i64 0, .int .i64 0, .int .i64 0], .cells [.int .u8 0, .str []]], []⟩) (fun i => (spell k).length - i) [] 0 ⟨by omega, rfl⟩ ?_ (fun i ⟨hi, he⟩ _ _ => ?_)
  · refine Go.VG.Sub.mk rfl ?_ ?_ ?_ ?_ <;> (repeat' first | trivial | rfl | exact eqS _ _ | apply And.intro | apply eqA | apply eqB | apply eqC | apply eqD | apply eqE | apply eqF | apply eqG | apply eqH | apply eqI)
  have hx : ((spell k).getD i 0).toNat < 256 := UInt8.toNat_lt _
  have hy : (c.s.getD (c.p + i) 0).toNat < 256 := UInt8.toNat_lt _
  have hdr : i < (spell k).length → (spell k).drop i = (spell k).getD i 0 :: (spell k).drop (i + 1) := fun h => by
    rw [List.drop_eq_getElem_cons h, List.getD_eq_getElem?_getD, List.getElem?_eq_getElem h]; rfl
  have hw2 : IntKind.i64.wrap ((c.p : Int) + i) = ((c.p + i : Nat) : Int) := by (first | omega | (simp (discharger := omega) only [wR]; omega) | (simp only [lnS]; omega) | (simp (discharger := omega) [-List.getD_eq_getElem?_getD, wR] <;> omega))
  have hw3 : IntKind.i64.wrap ((c.p : Int) + (spell k).length) = ((c.p + (spell k).length : Nat) : Int) := by (first | omega | (simp (discharger := omega) only [wR]; omega) | (simp only [lnS]; omega) | (simp (discharger := omega) [-List.getD_eq_getElem?_getD, wR] <;> omega))
  repeat' ((conv => whnf); first | with_reducible (first | refine go1 (fun j q h => ?_) fun h => ?_ | refine go2 ⟨rfl, rfl⟩ (fun h => ?_) fun j h => ?_ | refine go2 ?_ (fun h => ?_) fun j h => ?_ | refine goQ ?_ (fun h => ?_) fun h => ?_) | refine go3 ?_ ?_ | refine go4 ?_ ?_ | refine go5 ?_ | ((first | refine go6 ?_ ?_ | refine go7 ?_ ?_ | refine go8 ?_ ?_ | refine go9 ?_ ?_ | refine goA ?_ ?_) <;> intro h) | with_reducible (first | refine aai.mk _ rfl ?_ | refine goB ?_ fun hc => ?_ | refine goC ?_ fun hc => ?_ | refine goD ?_ fun hc => ?_ | refine goE ?_ fun hc => ?_ | refine goF ?_ ?_ | refine goG ?_ ?_ | refine goH ?_ fun b hb => ?_) | refine goI ?_ | refine goJ ?_ ?_ | refine goK ?_ ?_ ?_ | refine goL ?_ ?_ ?_ ?_ | refine goM ?_ ?_ ?_ ?_ ?_ | refine goN ?_ ?_ | refine goO ?_ ?_ | with_reducible refine goP ?_)
  all_goals try conv => whnf
  all_goals try (refine aac.mk ?_; try dsimp only)
  all_goals (try simp only [hw2, hw3, Int.toNat_natCast] at *)
  all_goals (try simp only [aa3] at *)
  all_goals first
    | (refine stay ?_)
    | (first | trivial | omega | (simp (discharger := omega) only [wR]; omega) | (simp only [lnS]; omega) | (simp (discharger := omega) [-List.getD_eq_getElem?_getD, wR] <;> omega)) | skip
  · have z : af4 c (spell k) 0 = 1 := by rw [he, hdr (by omega)]; unfold af4; rw [if_pos (by omega)]
    unfold Cu.afk
    rw [z, if_pos (by decide)]
    refine aa9.mk [] ?_ <;> (repeat' first | trivial | rfl | exact eqS _ _ | apply And.intro | apply eqA | apply eqB | apply eqC | apply eqD | apply eqE | apply eqF | apply eqG | apply eqH | apply eqI)
  · have z : af4 c (spell k) 0 = af4 c ((spell k).drop (i + 1)) (i + 1) := by
      rw [he, hdr (by omega)]
      conv => lhs; unfold af4
      rw [if_neg (by omega), if_neg (fun e => e (UInt8.toNat_inj.1 (by omega)))]
    refine ⟨[], i + 1, ⟨by omega, z⟩, ?_, by omega⟩
    refine Go.VG.Sub.mk rfl ?_ ?_ ?_ ?_ <;> (repeat' first | trivial | rfl | exact eqS _ _ | apply And.intro | apply eqA | apply eqB | apply eqC | apply eqD | apply eqE | apply eqF | apply eqG | apply eqH | apply eqI)
    all_goals (first | omega | (simp (discharger := omega) only [wR]; omega) | (simp only [lnS]; omega) | (simp (discharger := omega) [-List.getD_eq_getElem?_getD, wR] <;> omega))
  · have z : af4 c (spell k) 0 = 3 := by
      rw [he, hdr (by omega)]; unfold af4
      rw [if_neg (by omega), if_pos (fun e => by have := congrArg UInt8.toNat e; omega)]
    unfold Cu.afk
    rw [z, if_pos (by decide)]
    refine aa9.mk [] ?_ <;> (repeat' first | trivial | rfl | exact eqS _ _ | apply And.intro | apply eqA | apply eqB | apply eqC | apply eqD | apply eqE | apply eqF | apply eqG | apply eqH | apply eqI)
  · have z : af4 c (spell k) 0 = 0 := by rw [he, List.drop_eq_nil_of_le (by omega)]; unfold af4; rfl
    unfold Cu.afk
    rw [z, if_neg (by decide)]
    refine aa9.mk [] ?_ <;> (repeat' first | trivial | rfl | exact eqS _ _ | apply And.intro | apply eqA | apply eqB | apply eqC | apply eqD | apply eqE | apply eqF | apply eqG | apply eqH | apply eqI)
def anf : Sm := fun args σ => match args, σ with
  | [.agg ([.str s_c, .int .i64 (.ofNat a_c), .int .i64 (.ofNat e_c), .int .i64 c_c]), .int .u8 n_k], [] => some ((0 ≤ n_k ∧ n_k ≤ 255) ∧ (True ∧ ((Cu.mk s_c a_c e_c c_c).ok ∧ (Cu.mk s_c a_c e_c c_c).s.length ≤ 100000000)), .tuple [.agg (eC ((Cu.mk s_c a_c e_c c_c).afk (byte n_k)).1), .agg (eT ((Cu.mk s_c a_c e_c c_c).afk (byte n_k)).2)], none)
  | _, _ => none
theorem a74 : SOK 53 anf := by
  intro args sg pre x r he hp
  unfold anf at he
  split at he <;> cases he
  · rw [af3 (hp).1]; rw [acr (hp.2).1]; exact ayx (hp := hp.2.2) ..
theorem ayv (c : Cu) (hp : c.ok ∧ c.s.length ≤ 10000000) : OK 19 ([.agg (eC c)]) ([]) (.tuple [.agg (eC c.aan.1), .agg (eT c.aan.2)]) (none) := by
  refine aa0 (C := cx [(40, ahk), (50, an9), (51, auu), (52, anb), (53, anf), (54, afo)]) (abh ⟨apo, a70, bdt, a72, a74, alc, trivial⟩) (fn := Try.f19) rfl rfl rfl rfl fun hw hs => ?_
  obtain ⟨hk, hl⟩ := hp
  have h1 := hk.1
  have h2 := hk.2
  have hlen := aci hk
  repeat' ((conv => whnf); first | with_reducible (first | refine go1 (fun j q h => ?_) fun h => ?_ | refine go2 ⟨rfl, rfl⟩ (fun h => ?_) fun j h => ?_ | refine go2 ?_ (fun h => ?_) fun j h => ?_ | refine goQ ?_ (fun h => ?_) fun h => ?_) | refine go3 ?_ ?_ | refine go4 ?_ ?_ | refine go5 ?_ | ((first | refine go6 ?_ ?_ | refine go7 ?_ ?_ | refine go8 ?_ ?_ | refine go9 ?_ ?_ | refine goA ?_ ?_) <;> intro h) | with_reducible (first | refine aai.mk _ rfl ?_ | refine goB ?_ fun hc => ?_ | refine goC ?_ fun hc => ?_ | refine goD ?_ fun hc => ?_ | refine goE ?_ fun hc => ?_ | refine goF ?_ ?_ | refine goG ?_ ?_ | refine goH ?_ fun b hb => ?_) | refine goI ?_ | refine goJ ?_ ?_ | refine goK ?_ ?_ ?_ | refine goL ?_ ?_ ?_ ?_ | refine goM ?_ ?_ ?_ ?_ ?_ | refine goN ?_ ?_ | refine goO ?_ ?_ | with_reducible refine goP ?_)
  all_goals try conv => whnf
  all_goals try (refine aac.mk ?_; try dsimp only)
  all_goals (try simp only [aa3] at *)
  all_goals first
    | (refine stay ?_)
    | (first | trivial | omega | (simp (discharger := omega) only [wR]; omega) | (simp only [lnS]; omega) | (simp (discharger := omega) [-List.getD_eq_getElem?_getD, wR] <;> omega)) | skip
  · have h0 : c.c = 0 := by assumption
    refine abt.mk Nat (fun p => c.p ≤ p ∧ p ≤ c.e ∧ an4 anr c.txt p = an4 anr c.txt c.p) (fun p => ⟨128, [(1, .ptr 0 0), (2, .ptr 1 0), (3, .ptr 2 0)], [.cells (eC { c with p := p }), .cells [.str [], .int .i64 0, .int .i64 0, .int .i64 0], .cells [.int .u8 0, .str []]], []⟩) (fun p => c.e - p) [] c.p ⟨Nat.le_refl _, h1, rfl⟩ ?_ (fun p ⟨p1, p2, p3⟩ _ _ => ?_)
    · refine Go.VG.Sub.mk rfl ?_ ?_ ?_ ?_ <;> (repeat' first | trivial | rfl | exact eqS _ _ | apply And.intro | apply eqA | apply eqB | apply eqC | apply eqD | apply eqE | apply eqF | apply eqG | apply eqH | apply eqI)
    have hx : (c.s.getD p 0).toNat < 256 := UInt8.toNat_lt _
    have hxx : byte (c.s.getD p 0).toNat = c.s.getD p 0 := aaf _
    have hg : p < c.e → c.txt.getD p 0 = c.s.getD p 0 := fun h => by unfold Cu.txt; exact aeu h
    have hit : p < c.e → anr (c.s.getD p 0) = true → an4 anr c.txt (p + 1) = an4 anr c.txt c.p := fun h b => by rw [← p3, aue (i := p) (by omega) (by rw [hg h]; exact b)]
    have stop : p = c.e ∨ anr (c.s.getD p 0) = false → c.aan = ({ c with p := p } : Cu).a1z := fun h => by
      unfold Cu.aan
      rw [if_neg (by omega), ← p3, alu (i := p) (by
        rcases Nat.lt_or_ge p c.e with q | q
        · right; rw [hg q]; rcases h with h | h; omega; exact h
        · left; omega)]
    have hd : Cu.ok { c with p := p } := ⟨p2, h2⟩
    have hget : ({ c with p := p } : Cu).get = c.s.getD p 0 := rfl
    have sT : ach (c.s.getD p 0) = true ↔ ((c.s.getD p 0).toNat = 123 ∨ (c.s.getD p 0).toNat = 125 ∨ (c.s.getD p 0).toNat = 91 ∨ (c.s.getD p 0).toNat = 93 ∨ (c.s.getD p 0).toNat = 58 ∨ (c.s.getD p 0).toNat = 44) := decide_eq_true_iff
    have dT := ap7 (b := c.s.getD p 0)
    repeat' ((conv => whnf); first | with_reducible (first | refine go1 (fun j q h => ?_) fun h => ?_ | refine go2 ⟨rfl, rfl⟩ (fun h => ?_) fun j h => ?_ | refine go2 ?_ (fun h => ?_) fun j h => ?_ | refine goQ ?_ (fun h => ?_) fun h => ?_) | refine go3 ?_ ?_ | refine go4 ?_ ?_ | refine go5 ?_ | ((first | refine go6 ?_ ?_ | refine go7 ?_ ?_ | refine go8 ?_ ?_ | refine go9 ?_ ?_ | refine goA ?_ ?_) <;> intro h) | with_reducible (first | refine aai.mk _ rfl ?_ | refine goB ?_ fun hc => ?_ | refine goC ?_ fun hc => ?_ | refine goD ?_ fun hc => ?_ | refine goE ?_ fun hc => ?_ | refine goF ?_ ?_ | refine goG ?_ ?_ | refine goH ?_ fun b hb => ?_) | refine goI ?_ | refine goJ ?_ ?_ | refine goK ?_ ?_ ?_ | refine goL ?_ ?_ ?_ ?_ | refine goM ?_ ?_ ?_ ?_ ?_ | refine goN ?_ ?_ | refine goO ?_ ?_ | with_reducible refine goP ?_)
    all_goals try conv => whnf
    all_goals try (refine aac.mk ?_; try dsimp only)
    all_goals (try simp only [aa3] at *)
    all_goals first
      | (refine stay ?_)
      | (first | trivial | omega | (simp (discharger := omega) only [wR]; omega) | (simp only [lnS]; omega) | (simp (discharger := omega) [-List.getD_eq_getElem?_getD, wR] <;> omega)) | skip
    all_goals (try simp only [hxx] at *)
    all_goals first
      | (exfalso; omega)
      | exact ⟨trivial, hd, by omega⟩
      | exact ⟨by omega, trivial, hd, by omega⟩
      | (refine ⟨[], p + 1, ⟨by omega, by omega, hit (by omega) (a5e.2 (by omega))⟩, ?_, by omega⟩
         refine Go.VG.Sub.mk rfl ?_ ?_ ?_ ?_ <;> (repeat' first | trivial | rfl | exact eqS _ _ | apply And.intro | apply eqA | apply eqB | apply eqC | apply eqD | apply eqE | apply eqF | apply eqG | apply eqH | apply eqI)
         all_goals (first | omega | (simp (discharger := omega) only [wR]; omega) | (simp only [lnS]; omega) | (simp (discharger := omega) [-List.getD_eq_getElem?_getD, wR] <;> omega))
         done)
      | skip
    all_goals
      first
      | rw [stop (.inl (by omega))]
      | rw [stop (.inr (bc8.2 (by omega)))]
      unfold Cu.a1z
      first
      | rw [if_pos (show ({ c with p := p } : Cu).p = ({ c with p := p } : Cu).e by show p = c.e; omega)]
      | rw [if_neg (show ¬ ({ c with p := p } : Cu).p = ({ c with p := p } : Cu).e by show ¬ p = c.e; omega)]
      try rw [hget]
      repeat (first | rw [if_pos (by rw [sT]; omega)] | rw [if_neg (by rw [sT]; omega)] | rw [if_pos (by rw [dT]; omega)] | rw [if_neg (by rw [dT]; omega)] | rw [if_pos (by omega)] | rw [if_neg (by omega)])
      refine aa9.mk [] ?_ <;> (repeat' first | trivial | rfl | exact eqS _ _ | apply And.intro | apply eqA | apply eqB | apply eqC | apply eqD | apply eqE | apply eqF | apply eqG | apply eqH | apply eqI)
      all_goals (first | omega | (simp (discharger := omega) only [wR]; omega) | (simp only [lnS]; omega) | (simp (discharger := omega) [-List.getD_eq_getElem?_getD, wR] <;> omega))
  · unfold Cu.aan
    rw [if_pos (by assumption)]
    refine aa9.mk [] ?_ <;> (repeat' first | trivial | rfl | exact eqS _ _ | apply And.intro | apply eqA | apply eqB | apply eqC | apply eqD | apply eqE | apply eqF | apply eqG | apply eqH | apply eqI)
def ane : Sm := fun args σ => match args, σ with
  | [.agg ([.str s_c, .int .i64 (.ofNat a_c), .int .i64 (.ofNat e_c), .int .i64 c_c])], [] => some (True ∧ ((Cu.mk s_c a_c e_c c_c).ok ∧ (Cu.mk s_c a_c e_c c_c).s.length ≤ 10000000), .tuple [.agg (eC (Cu.mk s_c a_c e_c c_c).aan.1), .agg (eT (Cu.mk s_c a_c e_c c_c).aan.2)], none)
  | _, _ => none
theorem a73 : SOK 19 ane := by
  intro args sg pre x r he hp
  unfold ane at he
  split at he <;> cases he
  · rw [acr (hp).1]; exact ayv (hp := hp.2) ..
end Go.Proofs.Ytllncocibkgjkaa
