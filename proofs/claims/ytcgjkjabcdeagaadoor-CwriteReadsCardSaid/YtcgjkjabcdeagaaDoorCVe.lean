/-
  Reading of a struct: fields of all kinds.
-/
import Derived.Test.YtcgjkjabcdeagaaDoorCVd
set_option linter.unusedSimpArgs false
set_option linter.unusedVariables false
set_option maxHeartbeats 4000000
namespace Go.Proofs.YtcgjkjabcdeagaaDoor
open Go Go.VG
set_option maxRecDepth 100000
def wide8 (u : Nat) : Int := if u ≥ 128 then (u : Int) - 256 else u
theorem wide8_ok : ∀ n : Nat, n < 256 → iShr .i64 (IntKind.i64.wrap (iShl .u64 (n : Int) 56)) 56 = wide8 n := by decide
def Cu.numB (c : Cu) (b : Int) : Int × Cu :=
  if c.vread.2.c ≠ 0 then (0, c.vread.2) else if fitC (zag c.vread.1) b ≠ 0 then (0, c.vread.2.fail 4) else (zag c.vread.1, c.vread.2)
def rawT (k : Nat) (q : Int) (c : Cu) : List UInt8 := if (skV k q c).c ≠ 0 then [] else (c.s.take (skV k q c).p).drop c.p
def valA (k : Nat) (f : Fd) (c : Cu) : Fd × Cu :=
  if f.k = 1 then ({ f with num := IntKind.i64.wrap (f.num + 1) }, c) else if f.k = 2 then (f, c)
  else if f.k = 3 then ({ f with num := wide8 c.byteV.toNat }, c.byte) else if f.k = 4 then ({ f with num := (c.numB 16).1 }, (c.numB 16).2)
  else if f.k = 5 then ({ f with num := (c.numB 32).1 }, (c.numB 32).2) else if f.k = 6 then ({ f with num := (c.numB 64).1 }, (c.numB 64).2)
  else if f.k = 7 then ({ f with bits := c.low64.1 }, c.low64.2) else if f.k = 8 then ({ f with text := c.text.1 }, c.text.2)
  else ({ f with raw := rawT k f.k c }, skV k f.k c)
theorem fitC_4 (n b : Int) : fitC n b = 0 ∨ fitC n b = 4 := by unfold fitC; split <;> simp
theorem fail_id {c : Cu} (h : ¬ c.c = 0) (k : Int) : c.fail k = c := by unfold Cu.fail; rw [if_neg h]
theorem Kp.numB {c : Cu} (h : c.ok) (b : Int) : Kp c (c.numB b).2 := by
  have hv := Kp.vread h
  unfold Cu.numB
  repeat' split
  · exact hv
  · exact hv.trans (Kp.fail hv.1 4)
  · exact hv
theorem Kp.valA {c : Cu} (h : c.ok) (k : Nat) (f : Fd) : Kp c (valA k f c).2 := by
  unfold Go.Proofs.YtcgjkjabcdeagaaDoor.valA
  repeat' split
  · exact Kp.rfl h
  · exact Kp.rfl h
  · exact Kp.pass h 1
  · exact Kp.numB h 16
  · exact Kp.numB h 32
  · exact Kp.numB h 64
  · exact Kp.pass h 8
  · exact Kp.text h
  · exact skV_kp k _ c h
theorem f_wWide8_1 (q : Int) (hp : 0 ≤ q ∧ q < 256) : OK 59 ([.int .u64 q, .int .i64 8]) ([]) (.int .i64 (wide8 q.toNat)) (none) := by
  refine funOK_of_vc (C := cx []) (good trivial) (fn := Tryd.f59) rfl rfl rfl rfl fun hw hs => ?_
  have h := wide8_ok q.toNat (by omega)
  rw [Int.toNat_of_nonneg hp.1] at h
  repeat' ((conv => whnf); first | with_reducible (first | refine go1 (fun j q h => ?_) fun h => ?_ | refine go2 ⟨rfl, rfl⟩ (fun h => ?_) fun j h => ?_ | refine go2 ?_ (fun h => ?_) fun j h => ?_ | refine goQ ?_ (fun h => ?_) fun h => ?_) | apply go3 | apply go4 | apply go5 | ((first | apply go6 | apply go7 | apply go8 | apply go9 | apply goA) <;> intro h) | with_reducible (first | refine IdxK.mk _ rfl ?_ | refine goB ?_ fun hc => ?_ | refine goC ?_ fun hc => ?_ | refine goD ?_ fun hc => ?_ | refine goE ?_ fun hc => ?_ | apply goF | apply goG | refine goH ?_ fun b hb => ?_) | apply goI | apply goJ | apply goK | apply goL | apply goM | apply goN | apply goO | with_reducible refine goP ?_)
  all_goals try conv => whnf
  all_goals try (refine Side.mk ?_; try dsimp only)
  all_goals (try simp only [Cu_eta] at *)
  all_goals first | refine stay ?_ | trivial | omega | (simp (discharger := omega) only [wR]; omega) | (simp only [lnS]; omega) | (simp (discharger := omega) [-List.getD_eq_getElem?_getD, wR] <;> omega) | skip
  refine EndP.mk [] ?_ <;> (repeat' first | trivial | rfl | exact eqS _ _ | apply andI | apply eqA | apply eqB | apply eqC | apply eqD | apply eqE | apply eqF | apply eqG | apply eqH | apply eqI)
  all_goals
    rw [show IntKind.i64.wrap (64 - 8) = 56 by decide]
    exact h
def sm_wWide8 : Sm := fun args σ => match args, σ with
  | [.int .u64 q, .int .i64 8], [] => some (0 ≤ q ∧ q < 256, .int .i64 (wide8 q.toNat), none)
  | _, _ => none
theorem k_wWide8 : SOK 59 sm_wWide8 := by
  intro args sg pre x r he hp
  unfold sm_wWide8 at he
  split at he <;> cases he
  · exact f_wWide8_1 (hp := hp) ..
theorem f_rNumB_1 (s : List UInt8) (c : Cu) (b : Int) (hp : c.ok ∧ (b = 16 ∨ b = 32 ∨ b = 64)) : OK 60 ([.ptr 0 0, .int .i64 b]) ([.cells [.str s, .ptr 1 0], .cells (eC c)]) (.int .i64 (c.numB b).1) (some [.cells [.str s, .ptr 1 0], .cells (eC (c.numB b).2)]) := by
  refine funOK_of_vc (C := cx [(58, sm_vRead), (57, sm_wZag), (38, sm_wFit), (56, sm_cFail), (32, sm_cErr)]) (good ⟨k_vRead, k_wZag, k_wFit, k_cFail, k_cErr, trivial⟩) (fn := Tryd.f60) rfl rfl rfl rfl fun hw hs => ?_
  obtain ⟨hp, hb⟩ := hp
  have h1 := @vread_lt c
  have h2 := zag_ok h1
  have h4 := fitC_4 (zag c.vread.1) b
  repeat' ((conv => whnf); first | with_reducible (first | refine go1 (fun j q h => ?_) fun h => ?_ | refine go2 ⟨rfl, rfl⟩ (fun h => ?_) fun j h => ?_ | refine go2 ?_ (fun h => ?_) fun j h => ?_ | refine goQ ?_ (fun h => ?_) fun h => ?_) | apply go3 | apply go4 | apply go5 | ((first | apply go6 | apply go7 | apply go8 | apply go9 | apply goA) <;> intro h) | with_reducible (first | refine IdxK.mk _ rfl ?_ | refine goB ?_ fun hc => ?_ | refine goC ?_ fun hc => ?_ | refine goD ?_ fun hc => ?_ | refine goE ?_ fun hc => ?_ | apply goF | apply goG | refine goH ?_ fun b hb => ?_) | apply goI | apply goJ | apply goK | apply goL | apply goM | apply goN | apply goO | with_reducible refine goP ?_)
  all_goals try conv => whnf
  all_goals try (refine Side.mk ?_; try dsimp only)
  all_goals (try simp only [Int.toNat_natCast] at *)
  all_goals (try simp only [Cu_eta] at *)
  all_goals first | refine stay ?_ | trivial | omega | (simp (discharger := omega) only [wR]; omega) | (simp only [lnS]; omega) | (simp (discharger := omega) [-List.getD_eq_getElem?_getD, wR] <;> omega) | skip
  · unfold Cu.numB
    rw [if_neg (by omega), if_neg (by omega)]
    refine EndP.mk [] ?_ <;> (repeat' first | trivial | rfl | exact eqS _ _ | apply andI | apply eqA | apply eqB | apply eqC | apply eqD | apply eqE | apply eqF | apply eqG | apply eqH | apply eqI)
  · unfold Cu.numB
    rw [if_pos (by omega)]
    refine EndP.mk [] ?_ <;> (repeat' first | trivial | rfl | exact eqS _ _ | apply andI | apply eqA | apply eqB | apply eqC | apply eqD | apply eqE | apply eqF | apply eqG | apply eqH | apply eqI)
  · exfalso; exact failC_code (c := c.vread.2) (k := fitC (zag c.vread.1) b) (by assumption) (by assumption)
  · have e4 : fitC (zag c.vread.1) b = 4 := by omega
    unfold Cu.numB
    rw [e4]
    by_cases q : c.vread.2.c = 0
    · rw [if_neg (by omega), if_pos (by decide)]
      refine EndP.mk [] ?_ <;> (repeat' first | trivial | rfl | exact eqS _ _ | apply andI | apply eqA | apply eqB | apply eqC | apply eqD | apply eqE | apply eqF | apply eqG | apply eqH | apply eqI)
    · rw [if_pos q, fail_id q]
      refine EndP.mk [] ?_ <;> (repeat' first | trivial | rfl | exact eqS _ _ | apply andI | apply eqA | apply eqB | apply eqC | apply eqD | apply eqE | apply eqF | apply eqG | apply eqH | apply eqI)
def sm_rNumB : Sm := fun args σ => match args, σ with
  | [.ptr 0 0, .int .i64 b], [.cells [.str s, .ptr 1 0], .cells ([.str s_c, .int .i64 (.ofNat a_c), .int .i64 (.ofNat e_c), .int .i64 c_c])] => some (True ∧ ((Cu.mk s_c a_c e_c c_c).ok ∧ (b = 16 ∨ b = 32 ∨ b = 64)), .int .i64 ((Cu.mk s_c a_c e_c c_c).numB b).1, some [.cells [.str s, .ptr 1 0], .cells (eC ((Cu.mk s_c a_c e_c c_c).numB b).2)])
  | _, _ => none
theorem k_rNumB : SOK 60 sm_rNumB := by
  intro args sg pre x r he hp
  unfold sm_rNumB at he
  split at he <;> cases he
  · rw [viewC (hp).1]; exact f_rNumB_1 (hp := hp.2) ..
theorem f_rRaw_1 (k : Nat) (hv : SOK 75 (sm_skip k)) (s : List UInt8) (c : Cu) (q d : Int) (hp : c.ok ∧ c.s.length ≤ 9223372036854775807 ∧ d + k = 32 ∧ c.s = s) : OK 63 ([.ptr 0 0, .int .u8 q, .int .i64 d]) ([.cells [.str s, .ptr 1 0], .cells (eC c)]) (.str (rawT k q c)) (some [.cells [.str s, .ptr 1 0], .cells (eC (skV k q c))]) := by
  refine funOK_of_vc (C := cx [(33, sm_cAt), (75, (sm_skip k)), (32, sm_cErr)]) (good ⟨k_cAt, hv, k_cErr, trivial⟩) (fn := Tryd.f63) rfl rfl rfl rfl fun hw hs => ?_
  obtain ⟨h1, h2, h3, rfl⟩ := hp
  have hk := skV_kp k q c h1
  have q1 := hk.1.1
  have q2 := hk.1.2
  have q3 := hk.2.2.2
  have q4 := hk.2.1
  repeat' ((conv => whnf); first | with_reducible (first | refine go1 (fun j q h => ?_) fun h => ?_ | refine go2 ⟨rfl, rfl⟩ (fun h => ?_) fun j h => ?_ | refine go2 ?_ (fun h => ?_) fun j h => ?_ | refine goQ ?_ (fun h => ?_) fun h => ?_) | apply go3 | apply go4 | apply go5 | ((first | apply go6 | apply go7 | apply go8 | apply go9 | apply goA) <;> intro h) | with_reducible (first | refine IdxK.mk _ rfl ?_ | refine goB ?_ fun hc => ?_ | refine goC ?_ fun hc => ?_ | refine goD ?_ fun hc => ?_ | refine goE ?_ fun hc => ?_ | apply goF | apply goG | refine goH ?_ fun b hb => ?_) | apply goI | apply goJ | apply goK | apply goL | apply goM | apply goN | apply goO | with_reducible refine goP ?_)
  all_goals try conv => whnf
  all_goals try (refine Side.mk ?_; try dsimp only)
  all_goals (try simp only [Cu_eta] at *)
  all_goals first | refine stay ?_ | trivial | omega | (simp (discharger := omega) only [wR]; omega) | (simp only [lnS]; omega) | (simp (discharger := omega) [-List.getD_eq_getElem?_getD, wR] <;> omega) | skip
  all_goals first
    | exact ⟨by omega, by omega, by rw [q4] at q2; omega⟩
    | exact ⟨trivial, h1, h2, h3⟩
    | exact ⟨h1, h2, h3⟩
    | skip
  · unfold rawT
    rw [if_neg (by omega)]
    refine EndP.mk [] ?_ <;> (repeat' first | trivial | rfl | exact eqS _ _ | apply andI | apply eqA | apply eqB | apply eqC | apply eqD | apply eqE | apply eqF | apply eqG | apply eqH | apply eqI)
  · unfold rawT
    rw [if_pos (by assumption)]
    refine EndP.mk [] ?_ <;> (repeat' first | trivial | rfl | exact eqS _ _ | apply andI | apply eqA | apply eqB | apply eqC | apply eqD | apply eqE | apply eqF | apply eqG | apply eqH | apply eqI)
def sm_rRaw (k : Nat) : Sm := fun args σ => match args, σ with
  | [.ptr 0 0, .int .u8 q, .int .i64 d], [.cells [.str s, .ptr 1 0], .cells ([.str s_c, .int .i64 (.ofNat a_c), .int .i64 (.ofNat e_c), .int .i64 c_c])] => some (True ∧ ((Cu.mk s_c a_c e_c c_c).ok ∧ (Cu.mk s_c a_c e_c c_c).s.length ≤ 9223372036854775807 ∧ d + k = 32 ∧ (Cu.mk s_c a_c e_c c_c).s = s), .str (rawT k q (Cu.mk s_c a_c e_c c_c)), some [.cells [.str s, .ptr 1 0], .cells (eC (skV k q (Cu.mk s_c a_c e_c c_c)))])
  | _, _ => none
theorem k_rRaw (k : Nat) (hv : SOK 75 (sm_skip k)) : SOK 63 (sm_rRaw k) := by
  intro args sg pre x r he hp
  unfold sm_rRaw at he
  split at he <;> cases he
  · rw [viewC (hp).1]; exact f_rRaw_1 (hv := hv) (hp := hp.2) ..
theorem f_rValA_1 (k : Nat) (hr : SOK 63 (sm_rRaw k)) (s : List UInt8) (f : Fd) (d : Int) (c : Cu) (hp : c.ok ∧ c.s.length ≤ 9223372036854775807 ∧ d + k = 32 ∧ c.s = s) : OK 31 ([.ptr 0 0, .ptr 1 0, .int .i64 d]) ([.cells [.str s, .ptr 2 0], .cells (eFc f), .cells (eC c)]) (.tuple []) (some [.cells [.str s, .ptr 2 0], .cells (eFc (valA k f c).1), .cells (eC (valA k f c).2)]) := by
  refine funOK_of_vc (C := cx [(54, sm_cByte), (59, sm_wWide8), (60, sm_rNumB), (61, sm_rLow), (62, sm_rText), (63, (sm_rRaw k))]) (good ⟨k_cByte, k_wWide8, k_rNumB, k_rLow, k_rText, hr, trivial⟩) (fn := Tryd.f31) rfl rfl rfl rfl fun hw hs => ?_
  obtain ⟨h1, h2, h3, rfl⟩ := hp
  have h256 := c.byteV.toNat_lt
  have hwb : IntKind.u64.wrap (c.byteV.toNat : Int) = (c.byteV.toNat : Int) := by rw [wu64]; omega
  repeat' ((conv => whnf); first | with_reducible (first | refine go1 (fun j q h => ?_) fun h => ?_ | refine go2 ⟨rfl, rfl⟩ (fun h => ?_) fun j h => ?_ | refine go2 ?_ (fun h => ?_) fun j h => ?_ | refine goQ ?_ (fun h => ?_) fun h => ?_) | apply go3 | apply go4 | apply go5 | ((first | apply go6 | apply go7 | apply go8 | apply go9 | apply goA) <;> intro h) | with_reducible (first | refine IdxK.mk _ rfl ?_ | refine goB ?_ fun hc => ?_ | refine goC ?_ fun hc => ?_ | refine goD ?_ fun hc => ?_ | refine goE ?_ fun hc => ?_ | apply goF | apply goG | refine goH ?_ fun b hb => ?_) | apply goI | apply goJ | apply goK | apply goL | apply goM | apply goN | apply goO | with_reducible refine goP ?_)
  all_goals try conv => whnf
  all_goals try (refine Side.mk ?_; try dsimp only)
  all_goals (try simp only [hwb] at *)
  all_goals (try simp only [Cu_eta] at *)
  all_goals first | refine stay ?_ | trivial | omega | (simp (discharger := omega) only [wR]; omega) | (simp only [lnS]; omega) | (simp (discharger := omega) [-List.getD_eq_getElem?_getD, wR] <;> omega) | skip
  all_goals first
    | exact ⟨trivial, h1, h2, h3, rfl⟩
    | exact ⟨trivial, h1, .inl rfl⟩
    | exact ⟨trivial, h1, .inr (.inl rfl)⟩
    | exact ⟨trivial, h1, .inr (.inr rfl)⟩
    | exact ⟨trivial, h1, h2⟩
    | exact ⟨trivial, h1⟩
    | exact ⟨by omega, by omega⟩
    | (exfalso; omega)
    | skip
  all_goals
    try simp only [Int.toNat_natCast]
    have he : valA k f c = valA k f c := rfl
    conv at he => rhs; unfold valA
    repeat (first | rw [if_pos (by first | assumption | omega)] at he | rw [if_neg (by first | assumption | omega)] at he)
    rw [he]
    refine EndP.mk [] ?_ <;> (repeat' first | trivial | rfl | exact eqS _ _ | apply andI | apply eqA | apply eqB | apply eqC | apply eqD | apply eqE | apply eqF | apply eqG | apply eqH | apply eqI)
def sm_rValA (k : Nat) : Sm := fun args σ => match args, σ with
  | [.ptr 0 0, .ptr 1 0, .int .i64 d], [.cells [.str s, .ptr 2 0], .cells ([.int .i64 i_f, .int .u8 k_f, .int .i64 n_f, .int .u64 b_f, .str t_f, .str r_f]), .cells ([.str s_c, .int .i64 (.ofNat a_c), .int .i64 (.ofNat e_c), .int .i64 c_c])] => some (True ∧ (True ∧ ((Cu.mk s_c a_c e_c c_c).ok ∧ (Cu.mk s_c a_c e_c c_c).s.length ≤ 9223372036854775807 ∧ d + k = 32 ∧ (Cu.mk s_c a_c e_c c_c).s = s)), .tuple [], some [.cells [.str s, .ptr 2 0], .cells (eFc (valA k (Fd.mk i_f k_f n_f b_f t_f r_f) (Cu.mk s_c a_c e_c c_c)).1), .cells (eC (valA k (Fd.mk i_f k_f n_f b_f t_f r_f) (Cu.mk s_c a_c e_c c_c)).2)])
  | _, _ => none
theorem k_rValA (k : Nat) (hr : SOK 63 (sm_rRaw k)) : SOK 31 (sm_rValA k) := by
  intro args sg pre x r he hp
  unfold sm_rValA at he
  split at he <;> cases he
  · rw [viewC (hp).1]; rw [viewFc (hp.2).1]; exact f_rValA_1 (hr := hr) (hp := hp.2.2) ..
end Go.Proofs.YtcgjkjabcdeagaaDoor
