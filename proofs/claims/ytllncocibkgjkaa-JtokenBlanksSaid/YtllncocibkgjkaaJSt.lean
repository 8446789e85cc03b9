/-
  How the program reads a text of JSON: the whole text.
-/
import Derived.Test.YtllncocibkgjkaaJSq
set_option linter.unusedSimpArgs false
set_option linter.unusedVariables false
set_option maxHeartbeats 4000000
namespace Go.Proofs.Ytllncocibkgjkaa
open Go Go.VG
set_option maxRecDepth 100000
/-- further on in the same text -/
def Cu.le (c d : Cu) : Prop := d.s = c.s ∧ d.e = c.e ∧ c.p ≤ d.p
theorem le_trans {c d f : Cu} (h : c.le d) (k : d.le f) : c.le f := ⟨k.1.trans h.1, k.2.1.trans h.2.1, Nat.le_trans h.2.2 k.2.2⟩
theorem le_refl (c : Cu) : c.le c := ⟨rfl, rfl, Nat.le_refl _⟩
theorem le_fail (c : Cu) (k : Int) : c.le (c.fail k) := by unfold Cu.fail; split <;> exact ⟨rfl, rfl, Nat.le_refl _⟩
theorem le_pass (c : Cu) (n : Int) : c.le (c.pass n) := by
  unfold Cu.pass; repeat' split
  all_goals (refine ⟨rfl, rfl, ?_⟩; (try dsimp only); omega)
theorem le_byte (c : Cu) : c.le c.byte := le_pass c 1
theorem le_hex (c : Cu) : c.le c.hexC := by
  unfold Cu.hexC; split
  · exact le_byte c
  · exact le_trans (le_byte c) (le_fail _ _)
theorem le_fourGo : ∀ (k : Nat) (c : Cu) (u : Int), c.le (fourGo k c u).1
  | 0, c, _ => by rw [fourGo]; exact le_refl c
  | k + 1, c, u => by
    rw [fourGo]; split
    · exact le_hex c
    · exact le_trans (le_hex c) (le_fourGo k _ _)
theorem le_four (c : Cu) : c.le c.four.1 := le_fourGo 4 c 0
theorem le_must (c : Cu) (b : UInt8) : c.le (c.must b) := by
  unfold Cu.must; split
  · exact le_byte c
  · exact le_trans (le_byte c) (le_fail _ _)
theorem le_number (c : Cu) : c.le c.number.1 := by
  have h1 := le_four c
  have h2 := le_trans (le_trans (le_trans h1 (le_must _ 92)) (le_must _ 117)) (le_four _)
  unfold Cu.number
  repeat' split
  · exact h1
  · exact le_trans h1 (le_fail _ _)
  · exact le_trans h2 (le_fail _ _)
  · exact h2
theorem le_esc (c : Cu) : c.le c.escC := by
  unfold Cu.escC; repeat' split
  · exact le_trans (le_byte c) (le_number _)
  · exact le_byte c
  · exact le_trans (le_byte c) (le_fail _ _)
theorem le_rawGo : ∀ (k : Nat) (c : Cu) (s : List UInt8), c.le (rawGo k c s).1
  | 0, c, _ => by rw [rawGo]; exact le_refl c
  | k + 1, c, s => by
    rw [rawGo]; split
    · exact le_trans (le_byte c) (le_rawGo k _ _)
    · exact le_refl c
theorem le_raw (c : Cu) (b : UInt8) : c.le (c.rawC b) := by
  unfold Cu.rawC; split
  · exact le_trans (le_rawGo _ _ _) (le_fail _ _)
  · exact le_rawGo _ _ _
theorem escO_len (c : Cu) : c.escO.length ≤ 4 := by
  unfold Cu.escO; repeat' split
  · exact (uBytes_len _).2
  all_goals simp
theorem rawO_len (c : Cu) (b : UInt8) : (c.rawO b).length ≤ 4 := by
  have := rawGo_len (tailN b) c [b]
  have := tailN_le b
  unfold Cu.rawO; split
  · simp
  · simp at this ⊢; simp_all; omega
def readGo : Nat → Cu → List UInt8 → Cu × List UInt8
  | 0, c, _ => (c, [])
  | n + 1, c, o =>
    if c.c ≠ 0 then (c, [])
    else if c.byte.c ≠ 0 then readGo n c.byte o
    else if c.byteV.toNat = 34 then (c.byte, o)
    else if c.byteV.toNat < 32 then readGo n (c.byte.fail 3) o
    else if c.byteV.toNat = 92 then readGo n c.byte.escC (o ++ c.byte.escO)
    else readGo n (c.byte.rawC c.byteV) (o ++ c.byte.rawO c.byteV)
termination_by n => n
def Cu.mu (c : Cu) : Nat := if c.c ≠ 0 then 0 else c.e - c.p + 1
def Cu.start (c : Cu) : Cu := if (c.c = 0 ∧ c.p < c.e) ∧ c.byteV.toNat ≠ 34 then c.fail 3 else c
def Cu.read (c : Cu) : Cu × List UInt8 := readGo (c.start.byte.mu + 1) c.start.byte []
theorem start_ok {c : Cu} (h : c.ok) : c.start.ok := by unfold Cu.start; split; exact (fail_ok h 3).1; exact h
theorem byte_next {c : Cu} (h : c.ok) (h0 : c.c = 0) (h1 : c.byte.c = 0) : c.byte.p = c.p + 1 := by
  unfold Cu.byte Cu.pass at h1 ⊢
  obtain ⟨a, b⟩ := h
  rw [if_neg (by omega), if_neg (by omega)] at h1 ⊢
  split at h1
  · cases h1
  · rename_i q; rw [if_neg q]; rfl
theorem mu_lt {c d : Cu} (h : c.ok) (h0 : c.c = 0) (h1 : c.byte.c = 0) (hd : c.byte.le d) (k : d.ok) : d.mu < c.mu := by
  have := byte_next h h0 h1
  have e1 := (le_byte c).2.1
  obtain ⟨d1, d2, d3⟩ := hd
  obtain ⟨k1, k2⟩ := k
  unfold Cu.mu
  rw [if_neg (show ¬ c.c ≠ 0 by omega)]
  split <;> omega
theorem mu_err {c d : Cu} (h0 : c.c = 0) (h1 : d.c ≠ 0) : d.mu < c.mu := by
  unfold Cu.mu; rw [if_pos h1, if_neg (by omega)]; omega
theorem f_jsRead_1 (c : Cu) (hp : c.ok ∧ c.s.length ≤ 100000000) : OK 45 ([.ptr 0 0]) ([.cells (eC c)]) (.str c.read.2) (some [.cells (eC c.read.1)]) := by
  refine funOK_of_vc (C := cx [(43, sm_cPeek), (49, sm_cFail), (44, sm_cByte), (21, sm_cErr), (77, sm_jsEscaped), (78, sm_jsRaw)]) (good ⟨k_cPeek, k_cFail, k_cByte, k_cErr, k_jsEscaped, k_jsRaw, trivial⟩) (fn := Try.f45) rfl rfl rfl rfl fun hw hs => ?_
  obtain ⟨hp, hl⟩ := hp
  have hb : c.byteV.toNat < 256 := c.byteV.toNat_lt
  have k1 := start_ok hp
  have k2 := byte_ok k1
  have k3 := byte_ok (fail_ok hp 3).1
  repeat' (
      conv => whnf
      first
      | refine req_i ?_ ?_
      | refine when_i ?_ ?_
      | refine brn_not ?_
      | refine brn_dec (fun h => ?_) (fun h => ?_)
      | refine brn_int (fun h => ?_) (fun h => ?_)
      | refine brn_intne (fun h => ?_) (fun h => ?_)
      | refine brn_str (fun h => ?_) (fun h => ?_)
      | refine brn_i (fun h => ?_) (fun h => ?_)
      | with_reducible refine IdxK.mk _ rfl ?_
      | with_reducible refine idx_blI ?_ (fun hc => ?_)
      | with_reducible refine idx_bl ?_ (fun hc => ?_)
      | with_reducible refine idx_strI ?_ (fun hc => ?_)
      | with_reducible refine idx_str ?_ (fun hc => ?_)
      | with_reducible refine idx_mapDI ?_ ?_
      | with_reducible refine idx_mapD ?_ ?_
      | with_reducible refine idx_at ?_ (fun b hb => ?_)
      | refine ex_bl ?_
      | refine ex_b1 ?_ ?_
      | refine ex_b2 ?_ ?_ ?_
      | refine ex_b3 ?_ ?_ ?_ ?_
      | refine ex_b4 ?_ ?_ ?_ ?_ ?_
      | refine optK_setL ?_ ?_
      | refine optK_takeL ?_ ?_
      | with_reducible refine forceDs_i ?_
      )
  all_goals try (conv => whnf)
  all_goals try (refine Side.mk ?_; try dsimp only)
  all_goals (try simp only [Cu_eta] at *)
  all_goals first
    | (show LoopP _ _ _ _; skip)
    | (show GotoP _ _ _ _ _; skip)
    | (show EndP _ _ _ _ _ _; skip)
    | (show ∃ _, _; skip)
    | (first
          | trivial
          | omega
          | (simp (discharger := omega) only [wu8, wu16, wu32, wu64, wi32, wi64, Int.tdiv_eq_ediv_of_nonneg, Int.tmod_eq_emod_of_nonneg]; omega)
          | (simp only [List.length_append, List.length_cons, List.length_nil, bl_length, List.length_take, List.length_drop]; omega)
          | (simp (discharger := omega) [-List.getD_eq_getElem?_getD, wu8, wu16, wu32, wu64, wi32, wi64, Int.tdiv_eq_ediv_of_nonneg, Int.tmod_eq_emod_of_nonneg]; done)
          | (simp (discharger := omega) [-List.getD_eq_getElem?_getD, wu8, wu16, wu32, wu64, wi32, wi64, Int.tdiv_eq_ediv_of_nonneg, Int.tmod_eq_emod_of_nonneg]; omega))
    | skip
  · have hst : c.start = c := by unfold Cu.start; rw [if_neg (by omega)]
    refine LoopP.mk (Nat × Cu × List UInt8) (fun | (n, d, o) => d.ok ∧ d.s = c.s ∧ d.mu < n ∧ o.length ≤ 4 * d.p ∧ readGo n d o = c.read) (fun | (n, d, o) => ⟨54, [(0, .ptr 0 0), (5, .ptr 1 0)], [.cells (eC d), .cells [.ptr 0 0, .buf 2], .buf 1 0 (bl o)], [2]⟩) (fun x => x.1) [.cell 1 1 1] (c.start.byte.mu + 1, c.start.byte, [])
      ⟨k2, by first | (rw [(le_byte _).1, hst]; done) | (rw [(le_byte _).1, hst]; exact (fail_ok hp 3).2.1), by omega, by simp, rfl⟩ ?_ (fun ⟨n, d, o⟩ ⟨hd, hds, hm, ho, he⟩ _ _ => ?_)
    · rw [hst]
      refine Go.VG.Sub.mk rfl ?_ ?_ ?_ ?_ <;> (repeat' (first | trivial | rfl | exact scopedL_bl _ _ | refine And.intro ?_ ?_ | refine congrArg V.str ?_ | refine congrArg (V.int _) ?_ | refine congrArg V.bool ?_ | refine congrArg (O.buf _ _) ?_ | refine congrArg O.cells ?_ | refine congrArg (V.list _ _) ?_ | refine congrArg V.agg ?_ | refine congrArg V.tuple ?_ | refine cons_eq ?_ ?_))
    have hdb := byte_ok hd
    have hd1 := hd.1
    have hd2 := hd.2
    have hb := d.byteV.toNat_lt
    obtain ⟨n, rfl⟩ : ∃ m, n = m + 1 := ⟨n - 1, by omega⟩
    rw [readGo] at he
    have hsl : d.s.length ≤ 100000000 := by rw [hds]; exact hl
    have hbl := bl_length o
    have n1 := fun h0 h1 => byte_next hd h0 h1
    have m0 := fun h0 h1 => mu_err (c := d) (d := d.byte) h0 h1
    have lf := le_fail d.byte 3
    have m1 := fun h0 h1 => mu_lt hd h0 h1 lf (fail_ok hdb 3).1
    have le := le_esc d.byte
    have m2 := fun h0 h1 => mu_lt hd h0 h1 le (escC_ok hdb)
    have lr := le_raw d.byte d.byteV
    have m3 := fun h0 h1 => mu_lt hd h0 h1 lr (rawC_ok hdb _)
    have q1 := escO_len d.byte
    have q2 := rawO_len d.byte d.byteV
    have hds2 : d.byte.s = c.s := (le_byte d).1.trans hds
    have hp2 := (le_byte d).2.2
    have hvb : byte d.byteV.toNat = d.byteV := byte_of _
    repeat' (
        conv => whnf
        first
        | refine req_i ?_ ?_
        | refine when_i ?_ ?_
        | refine brn_not ?_
        | refine brn_dec (fun h => ?_) (fun h => ?_)
        | refine brn_int (fun h => ?_) (fun h => ?_)
        | refine brn_intne (fun h => ?_) (fun h => ?_)
        | refine brn_str (fun h => ?_) (fun h => ?_)
        | refine brn_i (fun h => ?_) (fun h => ?_)
        | with_reducible refine IdxK.mk _ rfl ?_
        | with_reducible refine idx_blI ?_ (fun hc => ?_)
        | with_reducible refine idx_bl ?_ (fun hc => ?_)
        | with_reducible refine idx_strI ?_ (fun hc => ?_)
        | with_reducible refine idx_str ?_ (fun hc => ?_)
        | with_reducible refine idx_mapDI ?_ ?_
        | with_reducible refine idx_mapD ?_ ?_
        | with_reducible refine idx_at ?_ (fun b hb => ?_)
        | refine ex_bl ?_
        | refine ex_b1 ?_ ?_
        | refine ex_b2 ?_ ?_ ?_
        | refine ex_b3 ?_ ?_ ?_ ?_
        | refine ex_b4 ?_ ?_ ?_ ?_ ?_
        | refine optK_setL ?_ ?_
        | refine optK_takeL ?_ ?_
        | with_reducible refine forceDs_i ?_
        )
    all_goals try (conv => whnf)
    all_goals try (refine Side.mk ?_; try dsimp only)
    all_goals (try simp only [Cu_eta] at *)
    all_goals first
      | (show LoopP _ _ _ _; skip)
      | (show GotoP _ _ _ _ _; skip)
      | (show EndP _ _ _ _ _ _; skip)
      | (show ∃ _, _; skip)
      | (first
            | trivial
            | omega
            | (simp (discharger := omega) only [wu8, wu16, wu32, wu64, wi32, wi64, Int.tdiv_eq_ediv_of_nonneg, Int.tmod_eq_emod_of_nonneg]; omega)
            | (simp only [List.length_append, List.length_cons, List.length_nil, bl_length, List.length_take, List.length_drop]; omega)
            | (simp (discharger := omega) [-List.getD_eq_getElem?_getD, wu8, wu16, wu32, wu64, wi32, wi64, Int.tdiv_eq_ediv_of_nonneg, Int.tmod_eq_emod_of_nonneg]; done)
            | (simp (discharger := omega) [-List.getD_eq_getElem?_getD, wu8, wu16, wu32, wu64, wi32, wi64, Int.tdiv_eq_ediv_of_nonneg, Int.tmod_eq_emod_of_nonneg]; omega))
      | skip
    all_goals (try simp only [hvb] at *)
    all_goals (repeat (first | rw [if_pos (by omega)] at he | rw [if_neg (by omega)] at he))
    all_goals first
      | (show EndP _ _ _ _ _ _
         rw [← he]
         refine EndP.mk [] ?_ <;> (repeat' (first | trivial | rfl | exact scopedL_bl _ _ | refine And.intro ?_ ?_ | refine congrArg V.str ?_ | refine congrArg (V.int _) ?_ | refine congrArg V.bool ?_ | refine congrArg (O.buf _ _) ?_ | refine congrArg O.cells ?_ | refine congrArg (V.list _ _) ?_ | refine congrArg V.agg ?_ | refine congrArg V.tuple ?_ | refine cons_eq ?_ ?_))
         done)
      | (refine ⟨trivial, hdb, ?_⟩; omega)
      | (refine ⟨by omega, trivial, hdb, ?_⟩; omega)
      | skip
    · refine ⟨[], (n, d.byte.fail 3, o), ⟨(fail_ok hdb 3).1, lf.1.trans hds2, ?_, ?_, he⟩, ?_, by show n < n + 1; omega⟩
      · have := m1 (by omega) (by omega)
        show (d.byte.fail 3).mu < n; omega
      · have := lf.2.2
        show o.length ≤ 4 * (d.byte.fail 3).p; omega
      · refine Go.VG.Sub.mk rfl ?_ ?_ ?_ ?_ <;> (repeat' (first | trivial | rfl | exact scopedL_bl _ _ | refine And.intro ?_ ?_ | refine congrArg V.str ?_ | refine congrArg (V.int _) ?_ | refine congrArg V.bool ?_ | refine congrArg (O.buf _ _) ?_ | refine congrArg O.cells ?_ | refine congrArg (V.list _ _) ?_ | refine congrArg V.agg ?_ | refine congrArg V.tuple ?_ | refine cons_eq ?_ ?_))
    · refine ⟨[], (n, d.byte.escC, o ++ d.byte.escO), ⟨escC_ok hdb, le.1.trans hds2, ?_, ?_, he⟩, ?_, by show n < n + 1; omega⟩
      · have := m2 (by omega) (by omega)
        show d.byte.escC.mu < n; omega
      · have := le.2.2; have := n1 (by omega) (by omega)
        show (o ++ d.byte.escO).length ≤ 4 * d.byte.escC.p
        rw [List.length_append]; omega
      · refine Go.VG.Sub.mk rfl ?_ ?_ ?_ ?_ <;> (repeat' (first | trivial | rfl | exact scopedL_bl _ _ | refine And.intro ?_ ?_ | refine congrArg V.str ?_ | refine congrArg (V.int _) ?_ | refine congrArg V.bool ?_ | refine congrArg (O.buf _ _) ?_ | refine congrArg O.cells ?_ | refine congrArg (V.list _ _) ?_ | refine congrArg V.agg ?_ | refine congrArg V.tuple ?_ | refine cons_eq ?_ ?_))
        rw [bl_append]
    · refine ⟨[], (n, d.byte.rawC d.byteV, o ++ d.byte.rawO d.byteV), ⟨rawC_ok hdb _, lr.1.trans hds2, ?_, ?_, he⟩, ?_, by show n < n + 1; omega⟩
      · have := m3 (by omega) (by omega)
        show (d.byte.rawC d.byteV).mu < n; omega
      · have := lr.2.2; have := n1 (by omega) (by omega)
        show (o ++ d.byte.rawO d.byteV).length ≤ 4 * (d.byte.rawC d.byteV).p
        rw [List.length_append]; omega
      · refine Go.VG.Sub.mk rfl ?_ ?_ ?_ ?_ <;> (repeat' (first | trivial | rfl | exact scopedL_bl _ _ | refine And.intro ?_ ?_ | refine congrArg V.str ?_ | refine congrArg (V.int _) ?_ | refine congrArg V.bool ?_ | refine congrArg (O.buf _ _) ?_ | refine congrArg O.cells ?_ | refine congrArg (V.list _ _) ?_ | refine congrArg V.agg ?_ | refine congrArg V.tuple ?_ | refine cons_eq ?_ ?_))
        rw [bl_append]
    · refine ⟨[], (n, d.byte, o), ⟨hdb, hds2, ?_, by show o.length ≤ 4 * d.byte.p; omega, he⟩, ?_, by show n < n + 1; omega⟩
      · have := m0 (by omega) (by omega)
        show d.byte.mu < n; omega
      · refine Go.VG.Sub.mk rfl ?_ ?_ ?_ ?_ <;> (repeat' (first | trivial | rfl | exact scopedL_bl _ _ | refine And.intro ?_ ?_ | refine congrArg V.str ?_ | refine congrArg (V.int _) ?_ | refine congrArg V.bool ?_ | refine congrArg (O.buf _ _) ?_ | refine congrArg O.cells ?_ | refine congrArg (V.list _ _) ?_ | refine congrArg V.agg ?_ | refine congrArg V.tuple ?_ | refine cons_eq ?_ ?_))
  · exact ⟨trivial, (fail_ok hp 3).1⟩
  · have hst : c.start = c.fail 3 := by unfold Cu.start; rw [if_pos ⟨by assumption, by omega⟩]
    refine LoopP.mk (Nat × Cu × List UInt8) (fun | (n, d, o) => d.ok ∧ d.s = c.s ∧ d.mu < n ∧ o.length ≤ 4 * d.p ∧ readGo n d o = c.read) (fun | (n, d, o) => ⟨54, [(0, .ptr 0 0), (5, .ptr 1 0)], [.cells (eC d), .cells [.ptr 0 0, .buf 2], .buf 1 0 (bl o)], [2]⟩) (fun x => x.1) [.cell 1 1 1] (c.start.byte.mu + 1, c.start.byte, [])
      ⟨k2, by first | (rw [(le_byte _).1, hst]; done) | (rw [(le_byte _).1, hst]; exact (fail_ok hp 3).2.1), by omega, by simp, rfl⟩ ?_ (fun ⟨n, d, o⟩ ⟨hd, hds, hm, ho, he⟩ _ _ => ?_)
    · rw [hst]
      refine Go.VG.Sub.mk rfl ?_ ?_ ?_ ?_ <;> (repeat' (first | trivial | rfl | exact scopedL_bl _ _ | refine And.intro ?_ ?_ | refine congrArg V.str ?_ | refine congrArg (V.int _) ?_ | refine congrArg V.bool ?_ | refine congrArg (O.buf _ _) ?_ | refine congrArg O.cells ?_ | refine congrArg (V.list _ _) ?_ | refine congrArg V.agg ?_ | refine congrArg V.tuple ?_ | refine cons_eq ?_ ?_))
    have hdb := byte_ok hd
    have hd1 := hd.1
    have hd2 := hd.2
    have hb := d.byteV.toNat_lt
    obtain ⟨n, rfl⟩ : ∃ m, n = m + 1 := ⟨n - 1, by omega⟩
    rw [readGo] at he
    have hsl : d.s.length ≤ 100000000 := by rw [hds]; exact hl
    have hbl := bl_length o
    have n1 := fun h0 h1 => byte_next hd h0 h1
    have m0 := fun h0 h1 => mu_err (c := d) (d := d.byte) h0 h1
    have lf := le_fail d.byte 3
    have m1 := fun h0 h1 => mu_lt hd h0 h1 lf (fail_ok hdb 3).1
    have le := le_esc d.byte
    have m2 := fun h0 h1 => mu_lt hd h0 h1 le (escC_ok hdb)
    have lr := le_raw d.byte d.byteV
    have m3 := fun h0 h1 => mu_lt hd h0 h1 lr (rawC_ok hdb _)
    have q1 := escO_len d.byte
    have q2 := rawO_len d.byte d.byteV
    have hds2 : d.byte.s = c.s := (le_byte d).1.trans hds
    have hp2 := (le_byte d).2.2
    have hvb : byte d.byteV.toNat = d.byteV := byte_of _
    repeat' (
        conv => whnf
        first
        | refine req_i ?_ ?_
        | refine when_i ?_ ?_
        | refine brn_not ?_
        | refine brn_dec (fun h => ?_) (fun h => ?_)
        | refine brn_int (fun h => ?_) (fun h => ?_)
        | refine brn_intne (fun h => ?_) (fun h => ?_)
        | refine brn_str (fun h => ?_) (fun h => ?_)
        | refine brn_i (fun h => ?_) (fun h => ?_)
        | with_reducible refine IdxK.mk _ rfl ?_
        | with_reducible refine idx_blI ?_ (fun hc => ?_)
        | with_reducible refine idx_bl ?_ (fun hc => ?_)
        | with_reducible refine idx_strI ?_ (fun hc => ?_)
        | with_reducible refine idx_str ?_ (fun hc => ?_)
        | with_reducible refine idx_mapDI ?_ ?_
        | with_reducible refine idx_mapD ?_ ?_
        | with_reducible refine idx_at ?_ (fun b hb => ?_)
        | refine ex_bl ?_
        | refine ex_b1 ?_ ?_
        | refine ex_b2 ?_ ?_ ?_
        | refine ex_b3 ?_ ?_ ?_ ?_
        | refine ex_b4 ?_ ?_ ?_ ?_ ?_
        | refine optK_setL ?_ ?_
        | refine optK_takeL ?_ ?_
        | with_reducible refine forceDs_i ?_
        )
    all_goals try (conv => whnf)
    all_goals try (refine Side.mk ?_; try dsimp only)
    all_goals (try simp only [Cu_eta] at *)
    all_goals first
      | (show LoopP _ _ _ _; skip)
      | (show GotoP _ _ _ _ _; skip)
      | (show EndP _ _ _ _ _ _; skip)
      | (show ∃ _, _; skip)
      | (first
            | trivial
            | omega
            | (simp (discharger := omega) only [wu8, wu16, wu32, wu64, wi32, wi64, Int.tdiv_eq_ediv_of_nonneg, Int.tmod_eq_emod_of_nonneg]; omega)
            | (simp only [List.length_append, List.length_cons, List.length_nil, bl_length, List.length_take, List.length_drop]; omega)
            | (simp (discharger := omega) [-List.getD_eq_getElem?_getD, wu8, wu16, wu32, wu64, wi32, wi64, Int.tdiv_eq_ediv_of_nonneg, Int.tmod_eq_emod_of_nonneg]; done)
            | (simp (discharger := omega) [-List.getD_eq_getElem?_getD, wu8, wu16, wu32, wu64, wi32, wi64, Int.tdiv_eq_ediv_of_nonneg, Int.tmod_eq_emod_of_nonneg]; omega))
      | skip
    all_goals (try simp only [hvb] at *)
    all_goals (repeat (first | rw [if_pos (by omega)] at he | rw [if_neg (by omega)] at he))
    all_goals first
      | (show EndP _ _ _ _ _ _
         rw [← he]
         refine EndP.mk [] ?_ <;> (repeat' (first | trivial | rfl | exact scopedL_bl _ _ | refine And.intro ?_ ?_ | refine congrArg V.str ?_ | refine congrArg (V.int _) ?_ | refine congrArg V.bool ?_ | refine congrArg (O.buf _ _) ?_ | refine congrArg O.cells ?_ | refine congrArg (V.list _ _) ?_ | refine congrArg V.agg ?_ | refine congrArg V.tuple ?_ | refine cons_eq ?_ ?_))
         done)
      | (refine ⟨trivial, hdb, ?_⟩; omega)
      | (refine ⟨by omega, trivial, hdb, ?_⟩; omega)
      | skip
    · refine ⟨[], (n, d.byte.fail 3, o), ⟨(fail_ok hdb 3).1, lf.1.trans hds2, ?_, ?_, he⟩, ?_, by show n < n + 1; omega⟩
      · have := m1 (by omega) (by omega)
        show (d.byte.fail 3).mu < n; omega
      · have := lf.2.2
        show o.length ≤ 4 * (d.byte.fail 3).p; omega
      · refine Go.VG.Sub.mk rfl ?_ ?_ ?_ ?_ <;> (repeat' (first | trivial | rfl | exact scopedL_bl _ _ | refine And.intro ?_ ?_ | refine congrArg V.str ?_ | refine congrArg (V.int _) ?_ | refine congrArg V.bool ?_ | refine congrArg (O.buf _ _) ?_ | refine congrArg O.cells ?_ | refine congrArg (V.list _ _) ?_ | refine congrArg V.agg ?_ | refine congrArg V.tuple ?_ | refine cons_eq ?_ ?_))
    · refine ⟨[], (n, d.byte.escC, o ++ d.byte.escO), ⟨escC_ok hdb, le.1.trans hds2, ?_, ?_, he⟩, ?_, by show n < n + 1; omega⟩
      · have := m2 (by omega) (by omega)
        show d.byte.escC.mu < n; omega
      · have := le.2.2; have := n1 (by omega) (by omega)
        show (o ++ d.byte.escO).length ≤ 4 * d.byte.escC.p
        rw [List.length_append]; omega
      · refine Go.VG.Sub.mk rfl ?_ ?_ ?_ ?_ <;> (repeat' (first | trivial | rfl | exact scopedL_bl _ _ | refine And.intro ?_ ?_ | refine congrArg V.str ?_ | refine congrArg (V.int _) ?_ | refine congrArg V.bool ?_ | refine congrArg (O.buf _ _) ?_ | refine congrArg O.cells ?_ | refine congrArg (V.list _ _) ?_ | refine congrArg V.agg ?_ | refine congrArg V.tuple ?_ | refine cons_eq ?_ ?_))
        rw [bl_append]
    · refine ⟨[], (n, d.byte.rawC d.byteV, o ++ d.byte.rawO d.byteV), ⟨rawC_ok hdb _, lr.1.trans hds2, ?_, ?_, he⟩, ?_, by show n < n + 1; omega⟩
      · have := m3 (by omega) (by omega)
        show (d.byte.rawC d.byteV).mu < n; omega
      · have := lr.2.2; have := n1 (by omega) (by omega)
        show (o ++ d.byte.rawO d.byteV).length ≤ 4 * (d.byte.rawC d.byteV).p
        rw [List.length_append]; omega
      · refine Go.VG.Sub.mk rfl ?_ ?_ ?_ ?_ <;> (repeat' (first | trivial | rfl | exact scopedL_bl _ _ | refine And.intro ?_ ?_ | refine congrArg V.str ?_ | refine congrArg (V.int _) ?_ | refine congrArg V.bool ?_ | refine congrArg (O.buf _ _) ?_ | refine congrArg O.cells ?_ | refine congrArg (V.list _ _) ?_ | refine congrArg V.agg ?_ | refine congrArg V.tuple ?_ | refine cons_eq ?_ ?_))
        rw [bl_append]
    · refine ⟨[], (n, d.byte, o), ⟨hdb, hds2, ?_, by show o.length ≤ 4 * d.byte.p; omega, he⟩, ?_, by show n < n + 1; omega⟩
      · have := m0 (by omega) (by omega)
        show d.byte.mu < n; omega
      · refine Go.VG.Sub.mk rfl ?_ ?_ ?_ ?_ <;> (repeat' (first | trivial | rfl | exact scopedL_bl _ _ | refine And.intro ?_ ?_ | refine congrArg V.str ?_ | refine congrArg (V.int _) ?_ | refine congrArg V.bool ?_ | refine congrArg (O.buf _ _) ?_ | refine congrArg O.cells ?_ | refine congrArg (V.list _ _) ?_ | refine congrArg V.agg ?_ | refine congrArg V.tuple ?_ | refine cons_eq ?_ ?_))
  · have hst : c.start = c := by unfold Cu.start; rw [if_neg (fun h => by have := h.1; omega)]
    refine LoopP.mk (Nat × Cu × List UInt8) (fun | (n, d, o) => d.ok ∧ d.s = c.s ∧ d.mu < n ∧ o.length ≤ 4 * d.p ∧ readGo n d o = c.read) (fun | (n, d, o) => ⟨54, [(0, .ptr 0 0), (5, .ptr 1 0)], [.cells (eC d), .cells [.ptr 0 0, .buf 2], .buf 1 0 (bl o)], [2]⟩) (fun x => x.1) [.cell 1 1 1] (c.start.byte.mu + 1, c.start.byte, [])
      ⟨k2, by first | (rw [(le_byte _).1, hst]; done) | (rw [(le_byte _).1, hst]; exact (fail_ok hp 3).2.1), by omega, by simp, rfl⟩ ?_ (fun ⟨n, d, o⟩ ⟨hd, hds, hm, ho, he⟩ _ _ => ?_)
    · rw [hst]
      refine Go.VG.Sub.mk rfl ?_ ?_ ?_ ?_ <;> (repeat' (first | trivial | rfl | exact scopedL_bl _ _ | refine And.intro ?_ ?_ | refine congrArg V.str ?_ | refine congrArg (V.int _) ?_ | refine congrArg V.bool ?_ | refine congrArg (O.buf _ _) ?_ | refine congrArg O.cells ?_ | refine congrArg (V.list _ _) ?_ | refine congrArg V.agg ?_ | refine congrArg V.tuple ?_ | refine cons_eq ?_ ?_))
    have hdb := byte_ok hd
    have hd1 := hd.1
    have hd2 := hd.2
    have hb := d.byteV.toNat_lt
    obtain ⟨n, rfl⟩ : ∃ m, n = m + 1 := ⟨n - 1, by omega⟩
    rw [readGo] at he
    have hsl : d.s.length ≤ 100000000 := by rw [hds]; exact hl
    have hbl := bl_length o
    have n1 := fun h0 h1 => byte_next hd h0 h1
    have m0 := fun h0 h1 => mu_err (c := d) (d := d.byte) h0 h1
    have lf := le_fail d.byte 3
    have m1 := fun h0 h1 => mu_lt hd h0 h1 lf (fail_ok hdb 3).1
    have le := le_esc d.byte
    have m2 := fun h0 h1 => mu_lt hd h0 h1 le (escC_ok hdb)
    have lr := le_raw d.byte d.byteV
    have m3 := fun h0 h1 => mu_lt hd h0 h1 lr (rawC_ok hdb _)
    have q1 := escO_len d.byte
    have q2 := rawO_len d.byte d.byteV
    have hds2 : d.byte.s = c.s := (le_byte d).1.trans hds
    have hp2 := (le_byte d).2.2
    have hvb : byte d.byteV.toNat = d.byteV := byte_of _
    repeat' (
        conv => whnf
        first
        | refine req_i ?_ ?_
        | refine when_i ?_ ?_
        | refine brn_not ?_
        | refine brn_dec (fun h => ?_) (fun h => ?_)
        | refine brn_int (fun h => ?_) (fun h => ?_)
        | refine brn_intne (fun h => ?_) (fun h => ?_)
        | refine brn_str (fun h => ?_) (fun h => ?_)
        | refine brn_i (fun h => ?_) (fun h => ?_)
        | with_reducible refine IdxK.mk _ rfl ?_
        | with_reducible refine idx_blI ?_ (fun hc => ?_)
        | with_reducible refine idx_bl ?_ (fun hc => ?_)
        | with_reducible refine idx_strI ?_ (fun hc => ?_)
        | with_reducible refine idx_str ?_ (fun hc => ?_)
        | with_reducible refine idx_mapDI ?_ ?_
        | with_reducible refine idx_mapD ?_ ?_
        | with_reducible refine idx_at ?_ (fun b hb => ?_)
        | refine ex_bl ?_
        | refine ex_b1 ?_ ?_
        | refine ex_b2 ?_ ?_ ?_
        | refine ex_b3 ?_ ?_ ?_ ?_
        | refine ex_b4 ?_ ?_ ?_ ?_ ?_
        | refine optK_setL ?_ ?_
        | refine optK_takeL ?_ ?_
        | with_reducible refine forceDs_i ?_
        )
    all_goals try (conv => whnf)
    all_goals try (refine Side.mk ?_; try dsimp only)
    all_goals (try simp only [Cu_eta] at *)
    all_goals first
      | (show LoopP _ _ _ _; skip)
      | (show GotoP _ _ _ _ _; skip)
      | (show EndP _ _ _ _ _ _; skip)
      | (show ∃ _, _; skip)
      | (first
            | trivial
            | omega
            | (simp (discharger := omega) only [wu8, wu16, wu32, wu64, wi32, wi64, Int.tdiv_eq_ediv_of_nonneg, Int.tmod_eq_emod_of_nonneg]; omega)
            | (simp only [List.length_append, List.length_cons, List.length_nil, bl_length, List.length_take, List.length_drop]; omega)
            | (simp (discharger := omega) [-List.getD_eq_getElem?_getD, wu8, wu16, wu32, wu64, wi32, wi64, Int.tdiv_eq_ediv_of_nonneg, Int.tmod_eq_emod_of_nonneg]; done)
            | (simp (discharger := omega) [-List.getD_eq_getElem?_getD, wu8, wu16, wu32, wu64, wi32, wi64, Int.tdiv_eq_ediv_of_nonneg, Int.tmod_eq_emod_of_nonneg]; omega))
      | skip
    all_goals (try simp only [hvb] at *)
    all_goals (repeat (first | rw [if_pos (by omega)] at he | rw [if_neg (by omega)] at he))
    all_goals first
      | (show EndP _ _ _ _ _ _
         rw [← he]
         refine EndP.mk [] ?_ <;> (repeat' (first | trivial | rfl | exact scopedL_bl _ _ | refine And.intro ?_ ?_ | refine congrArg V.str ?_ | refine congrArg (V.int _) ?_ | refine congrArg V.bool ?_ | refine congrArg (O.buf _ _) ?_ | refine congrArg O.cells ?_ | refine congrArg (V.list _ _) ?_ | refine congrArg V.agg ?_ | refine congrArg V.tuple ?_ | refine cons_eq ?_ ?_))
         done)
      | (refine ⟨trivial, hdb, ?_⟩; omega)
      | (refine ⟨by omega, trivial, hdb, ?_⟩; omega)
      | skip
    · refine ⟨[], (n, d.byte.fail 3, o), ⟨(fail_ok hdb 3).1, lf.1.trans hds2, ?_, ?_, he⟩, ?_, by show n < n + 1; omega⟩
      · have := m1 (by omega) (by omega)
        show (d.byte.fail 3).mu < n; omega
      · have := lf.2.2
        show o.length ≤ 4 * (d.byte.fail 3).p; omega
      · refine Go.VG.Sub.mk rfl ?_ ?_ ?_ ?_ <;> (repeat' (first | trivial | rfl | exact scopedL_bl _ _ | refine And.intro ?_ ?_ | refine congrArg V.str ?_ | refine congrArg (V.int _) ?_ | refine congrArg V.bool ?_ | refine congrArg (O.buf _ _) ?_ | refine congrArg O.cells ?_ | refine congrArg (V.list _ _) ?_ | refine congrArg V.agg ?_ | refine congrArg V.tuple ?_ | refine cons_eq ?_ ?_))
    · refine ⟨[], (n, d.byte.escC, o ++ d.byte.escO), ⟨escC_ok hdb, le.1.trans hds2, ?_, ?_, he⟩, ?_, by show n < n + 1; omega⟩
      · have := m2 (by omega) (by omega)
        show d.byte.escC.mu < n; omega
      · have := le.2.2; have := n1 (by omega) (by omega)
        show (o ++ d.byte.escO).length ≤ 4 * d.byte.escC.p
        rw [List.length_append]; omega
      · refine Go.VG.Sub.mk rfl ?_ ?_ ?_ ?_ <;> (repeat' (first | trivial | rfl | exact scopedL_bl _ _ | refine And.intro ?_ ?_ | refine congrArg V.str ?_ | refine congrArg (V.int _) ?_ | refine congrArg V.bool ?_ | refine congrArg (O.buf _ _) ?_ | refine congrArg O.cells ?_ | refine congrArg (V.list _ _) ?_ | refine congrArg V.agg ?_ | refine congrArg V.tuple ?_ | refine cons_eq ?_ ?_))
        rw [bl_append]
    · refine ⟨[], (n, d.byte.rawC d.byteV, o ++ d.byte.rawO d.byteV), ⟨rawC_ok hdb _, lr.1.trans hds2, ?_, ?_, he⟩, ?_, by show n < n + 1; omega⟩
      · have := m3 (by omega) (by omega)
        show (d.byte.rawC d.byteV).mu < n; omega
      · have := lr.2.2; have := n1 (by omega) (by omega)
        show (o ++ d.byte.rawO d.byteV).length ≤ 4 * (d.byte.rawC d.byteV).p
        rw [List.length_append]; omega
      · refine Go.VG.Sub.mk rfl ?_ ?_ ?_ ?_ <;> (repeat' (first | trivial | rfl | exact scopedL_bl _ _ | refine And.intro ?_ ?_ | refine congrArg V.str ?_ | refine congrArg (V.int _) ?_ | refine congrArg V.bool ?_ | refine congrArg (O.buf _ _) ?_ | refine congrArg O.cells ?_ | refine congrArg (V.list _ _) ?_ | refine congrArg V.agg ?_ | refine congrArg V.tuple ?_ | refine cons_eq ?_ ?_))
        rw [bl_append]
    · refine ⟨[], (n, d.byte, o), ⟨hdb, hds2, ?_, by show o.length ≤ 4 * d.byte.p; omega, he⟩, ?_, by show n < n + 1; omega⟩
      · have := m0 (by omega) (by omega)
        show d.byte.mu < n; omega
      · refine Go.VG.Sub.mk rfl ?_ ?_ ?_ ?_ <;> (repeat' (first | trivial | rfl | exact scopedL_bl _ _ | refine And.intro ?_ ?_ | refine congrArg V.str ?_ | refine congrArg (V.int _) ?_ | refine congrArg V.bool ?_ | refine congrArg (O.buf _ _) ?_ | refine congrArg O.cells ?_ | refine congrArg (V.list _ _) ?_ | refine congrArg V.agg ?_ | refine congrArg V.tuple ?_ | refine cons_eq ?_ ?_))
def sm_jsRead : Sm := fun args σ => match args, σ with
  | [.ptr 0 0], [.cells ([.str s_c, .int .i64 (.ofNat a_c), .int .i64 (.ofNat e_c), .int .i64 c_c])] => some (True ∧ ((Cu.mk s_c a_c e_c c_c).ok ∧ (Cu.mk s_c a_c e_c c_c).s.length ≤ 100000000), .str (Cu.mk s_c a_c e_c c_c).read.2, some [.cells (eC (Cu.mk s_c a_c e_c c_c).read.1)])
  | _, _ => none
theorem k_jsRead : SOK 45 sm_jsRead := by
  intro args sg pre x r he hp
  unfold sm_jsRead at he
  split at he <;> cases he
  · rw [viewC (hp).1]; exact f_jsRead_1 (hp := hp.2) ..
end Go.Proofs.Ytllncocibkgjkaa
