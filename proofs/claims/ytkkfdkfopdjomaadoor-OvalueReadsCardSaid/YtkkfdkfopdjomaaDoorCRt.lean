/-
  Reading of bytes and of words.
-/
import Derived.Test.YtkkfdkfopdjomaaDoorCRa
set_option linter.unusedSimpArgs false
set_option linter.unusedVariables false
set_option maxHeartbeats 4000000
namespace Go.Proofs.YtkkfdkfopdjomaaDoor
open Go Go.VG
set_option maxRecDepth 100000
theorem cut_take {s : List UInt8} {p n : Int} (h : 0 ≤ p ∧ 0 ≤ n) : List.drop p.toNat (List.take (p + n).toNat s) = (s.drop p.toNat).take n.toNat := by
  rw [List.drop_take, show (p + n).toNat - p.toNat = n.toNat by omega]
theorem f_cTake1_1 (c : Cu) (p n : Int) (hp : 0 ≤ p ∧ 0 ≤ n ∧ p + n ≤ c.s.length) : OK 81 ([.int .i64 p, .ptr 0 0, .ptr 1 0, .ptr 2 0]) ([.cells [.ptr 3 0], .cells [.int .i64 n], .cells [.str []], .cells (eC c)]) (.tuple []) (some [.cells [.ptr 3 0], .cells [.int .i64 n], .cells [.str ((c.s.drop p.toNat).take n.toNat)], .cells (eC c)]) := by
  refine funOK_of_vc (C := cx []) (good trivial) (fn := Tryd.f81) rfl rfl rfl rfl fun hw hs => ?_
  have hb : c.s.length ≤ 9223372036854775807 := hs.2.2.2.1.1
  have hpn : IntKind.i64.wrap (p + n) = p + n := by (simp (discharger := omega) only [wR]; omega)
  repeat' ((conv => whnf); apply go3)
  all_goals try conv => whnf
  all_goals try (refine Side.mk ?_; try dsimp only)
  all_goals (try simp only [hpn] at *)
  all_goals first | refine stay ?_ | omega | skip
  refine EndP.mk [] ?_ <;> (repeat' first | trivial | apply andI | apply eqA | apply eqE | apply eqI)
  exact cut_take ⟨hp.1, hp.2.1⟩
def sm_cTake1 : Sm := fun args σ => match args, σ with
  | [.int .i64 p, .ptr 0 0, .ptr 1 0, .ptr 2 0], [.cells [.ptr 3 0], .cells [.int .i64 n], .cells [.str []], .cells ([.str s_c, .int .i64 (.ofNat a_c), .int .i64 (.ofNat e_c), .int .i64 c_c])] => some (True ∧ (0 ≤ p ∧ 0 ≤ n ∧ p + n ≤ (Cu.mk s_c a_c e_c c_c).s.length), .tuple [], some [.cells [.ptr 3 0], .cells [.int .i64 n], .cells [.str (((Cu.mk s_c a_c e_c c_c).s.drop p.toNat).take n.toNat)], .cells (eC (Cu.mk s_c a_c e_c c_c))])
  | _, _ => none
theorem k_cTake1 : SOK 81 sm_cTake1 := by
  intro args sg pre x r he hp
  unfold sm_cTake1 at he
  split at he <;> cases he
  · rw [viewC (hp).1]; exact f_cTake1_1 (hp := hp.2) ..
theorem f_cPassT_1 (c : Cu) (n m : Int) (hp : c.ok ∧ n = m) : OK 78 ([.func (.func 79) [.ptr 0 0] [], .int .i64 n, .func (.func 81) [] [.ptr 1 0, .ptr 2 0, .ptr 3 0]]) ([.cells (eC c), .cells [.ptr 0 0], .cells [.int .i64 m], .cells [.str []]]) (.tuple []) (some [.cells (eC (c.pass n)), .cells [.ptr 0 0], .cells [.int .i64 n], .cells [.str (c.takeV n)]]) := by
  refine funOK_of_vc (C := cx [(79, sm_cPass), (81, sm_cTake1)]) (good ⟨k_cPass, k_cTake1, trivial⟩) (fn := Tryd.f78) rfl rfl rfl rfl fun hw hs => ?_
  obtain ⟨hp, rfl⟩ := hp
  have h1 := hp.1
  have h2 := hp.2
  have hq := pass_ok hp n
  repeat' ((conv => whnf); first | apply go3 | (apply go6 <;> intro h))
  all_goals try conv => whnf
  all_goals try (refine Side.mk ?_; try dsimp only)
  all_goals (try simp only [Cu_eta] at *)
  all_goals first | refine stay ?_ | trivial | skip
  · have hm : c.may n = true := decide_eq_true (by assumption)
    rw [hm, if_pos rfl, hq.2.1]
    exact ⟨trivial, by omega, by omega, by omega⟩
  · have hm : c.may n = true := decide_eq_true (by assumption)
    refine EndP.mk [] ?_ <;> (repeat' first | trivial | apply andI | apply eqA | apply eqE | apply eqI)
    rw [hm, if_pos rfl, hq.2.1]
    unfold Cu.takeV
    rw [hm, if_pos rfl]
    rfl
  · have hm : c.may n = false := decide_eq_false (by assumption)
    refine EndP.mk [] ?_ <;> (repeat' first | trivial | apply andI | apply eqA | apply eqE | apply eqI)
    unfold Cu.takeV
    rw [hm, if_neg Bool.false_ne_true]
def sm_cPassT : Sm := fun args σ => match args, σ with
  | [.func (.func 79) [.ptr 0 0] [], .int .i64 n, .func (.func 81) [] [.ptr 1 0, .ptr 2 0, .ptr 3 0]], [.cells ([.str s_c, .int .i64 (.ofNat a_c), .int .i64 (.ofNat e_c), .int .i64 c_c]), .cells [.ptr 0 0], .cells [.int .i64 m], .cells [.str []]] => some (True ∧ ((Cu.mk s_c a_c e_c c_c).ok ∧ n = m), .tuple [], some [.cells (eC ((Cu.mk s_c a_c e_c c_c).pass n)), .cells [.ptr 0 0], .cells [.int .i64 n], .cells [.str ((Cu.mk s_c a_c e_c c_c).takeV n)]])
  | _, _ => none
theorem k_cPassT : SOK 78 sm_cPassT := by
  intro args sg pre x r he hp
  unfold sm_cPassT at he
  split at he <;> cases he
  · rw [viewC (hp).1]; exact f_cPassT_1 (hp := hp.2) ..
theorem f_cTake_1 (c : Cu) (n : Int) (hp : c.ok) : OK 77 ([.ptr 0 0, .int .i64 n]) ([.cells (eC c)]) (.str (c.takeV n)) (some [.cells (eC (c.pass n))]) := by
  refine funOK_of_vc (C := cx [(78, sm_cPassT)]) (good ⟨k_cPassT, trivial⟩) (fn := Tryd.f77) rfl rfl rfl rfl fun hw hs => ?_
  repeat' ((conv => whnf); apply go3)
  all_goals try conv => whnf
  all_goals try (refine Side.mk ?_; try dsimp only)
  all_goals (try simp only [Cu_eta] at *)
  all_goals first | refine stay ?_ | trivial | skip
  refine EndP.mk [] ?_ <;> (repeat' first | trivial)
def sm_cTake : Sm := fun args σ => match args, σ with
  | [.ptr 0 0, .int .i64 n], [.cells ([.str s_c, .int .i64 (.ofNat a_c), .int .i64 (.ofNat e_c), .int .i64 c_c])] => some (True ∧ ((Cu.mk s_c a_c e_c c_c).ok), .str ((Cu.mk s_c a_c e_c c_c).takeV n), some [.cells (eC ((Cu.mk s_c a_c e_c c_c).pass n))])
  | _, _ => none
theorem k_cTake : SOK 77 sm_cTake := by
  intro args sg pre x r he hp
  unfold sm_cTake at he
  split at he <;> cases he
  · rw [viewC (hp).1]; exact f_cTake_1 (hp := hp.2) ..
theorem vr_lt : ∀ (j i u : Nat) (c : Cu), i + j = 10 → u < 2 ^ (7 * i) → (vrGo j i u c).1 ≤ 18446744073709551615
  | 0, i, u, c, _, _ => by rw [vrGo]; exact Nat.zero_le _
  | j + 1, i, u, c, hi, hu => by
    have h256 := c.byteV.toNat_lt
    rw [vrGo]
    split
    · exact Nat.zero_le _
    · split
      · exact Nat.zero_le _
      · rename_i h2
        split
        · rename_i h3
          have := (or_shl (i := i) (by omega) hu h3 (fun h => by omega)).2
          show u + _ ≤ _
          omega
        · rename_i h3
          refine vr_lt j (i + 1) _ _ (by omega) ?_
          rw [show 7 * (i + 1) = 7 + 7 * i by omega, Nat.pow_add, show c.byteV.toNat - 128 = c.byteV.toNat % 128 by omega]
          exact vr_bound hu
theorem vread_lt {c : Cu} : c.vread.1 ≤ 18446744073709551615 := vr_lt 10 0 0 c rfl (by decide)
theorem takeV_len (c : Cu) : (c.takeV 8).length ≤ 8 := by
  unfold Cu.takeV
  split
  · rw [List.length_take]; exact Nat.min_le_left _ _
  · simp
theorem lowR_step {s : List UInt8} {m : Nat} (h : m < s.length) : lowR (s.drop m) = (s.getD m 0).toNat + 256 * lowR (s.drop (m + 1)) := by
  rw [List.drop_eq_getElem_cons h, lowR, List.getD_eq_getElem?_getD, List.getElem?_eq_getElem h]; rfl
theorem lowR_b {s : List UInt8} {m : Nat} (h : s.length ≤ 8) (hm : 1 ≤ m) : lowR (s.drop m) * 256 + 255 ≤ 18446744073709551615 := by
  have h1 := lowR_lt (s.drop m)
  have h2 : (s.drop m).length ≤ 7 := by rw [List.length_drop]; omega
  have h3 := Nat.pow_le_pow_right (n := 256) (by decide) h2
  have h4 : (256 : Nat) ^ 7 = 72057594037927936 := by decide
  omega
theorem f_rLow_1 (c : Cu) (hp : c.ok) : OK 67 ([.ptr 0 0]) ([.cells (eC c)]) (.int .u64 c.low64.1) (some [.cells (eC c.low64.2)]) := by
  refine funOK_of_vc (C := cx [(77, sm_cTake)]) (good ⟨k_cTake, trivial⟩) (fn := Tryd.f67) rfl rfl rfl rfl fun hw hs => ?_
  have hl := takeV_len c
  repeat' ((conv => whnf); apply go3)
  all_goals try conv => whnf
  all_goals try (refine Side.mk ?_; try dsimp only)
  · exact ⟨trivial, hp⟩
  refine LoopP.mk Nat (fun m => m ≤ (c.takeV 8).length) (fun m => ⟨23, [(3, .int .u64 (lowR ((c.takeV 8).drop m))), (4, .str (c.takeV 8)), (5, .int .i64 ((m : Int) - 1))], [.cells (eC (c.pass 8))], []⟩) (fun m => m) [] (c.takeV 8).length (Nat.le_refl _) ?_ (fun m hm _ _ => ?_)
  · refine Go.VG.Sub.mk rfl ?_ ?_ ?_ ?_ <;> (repeat' first | trivial | apply andI | apply eqB)
    · rw [List.drop_length]; rfl
    · show IntKind.i64.wrap (((c.takeV 8).length : Int) - 1) = ((c.takeV 8).length : Int) - 1
      (simp (discharger := omega) only [wR]; omega)
  have hl := takeV_len c
  have hst := fun h => lowR_step (s := c.takeV 8) (m := m - 1) h
  have hbb := fun h => lowR_b (m := m) hl h
  repeat' ((conv => whnf); first | apply go3 | (apply go6 <;> intro h) | with_reducible refine goE ?_ fun hc => ?_)
  all_goals try conv => whnf
  all_goals try (refine Side.mk ?_; try dsimp only)
  all_goals (try simp only [Cu_eta] at *)
  all_goals first | refine stay ?_ | trivial | omega | skip
  · obtain ⟨q, rfl⟩ : ∃ q, m = q + 1 := ⟨m - 1, by omega⟩
    have hst := hst (by omega)
    have hbb := hbb (by omega)
    have hq : ((q + 1 : Nat) : Int) - 1 = q := by omega
    have h256 := ((c.takeV 8).getD q 0).toNat_lt
    refine ⟨[], q, by omega, ?_, by omega⟩
    refine Go.VG.Sub.mk rfl ?_ ?_ ?_ ?_ <;> (repeat' first | trivial | apply andI | apply eqB)
    · rw [show (((q + 1 : Nat) : Int) - 1).toNat = q by omega, shl_or8 (by omega) hbb]
      rw [show q + 1 - 1 = q by omega] at hst
      rw [hst]
    · rw [hq]
      (simp (discharger := omega) only [wR]; omega)
  · obtain rfl : m = 0 := by omega
    refine EndP.mk [] ?_ <;> (repeat' first | trivial)
def sm_rLow : Sm := fun args σ => match args, σ with
  | [.ptr 0 0], [.cells ([.str s_c, .int .i64 (.ofNat a_c), .int .i64 (.ofNat e_c), .int .i64 c_c])] => some (True ∧ ((Cu.mk s_c a_c e_c c_c).ok), .int .u64 (Cu.mk s_c a_c e_c c_c).low64.1, some [.cells (eC (Cu.mk s_c a_c e_c c_c).low64.2)])
  | _, _ => none
theorem k_rLow : SOK 67 sm_rLow := by
  intro args sg pre x r he hp
  unfold sm_rLow at he
  split at he <;> cases he
  · rw [viewC (hp).1]; exact f_rLow_1 (hp := hp.2) ..
theorem take4_len (c : Cu) : (c.takeV 4).length ≤ 4 := by
  unfold Cu.takeV
  split
  · rw [List.length_take]; exact Nat.min_le_left _ _
  · simp
def Cu.low32 (c : Cu) : Nat × Cu := (lowR (c.takeV 4), c.pass 4)
theorem lowR_b4 {s : List UInt8} {m : Nat} (h : s.length ≤ 4) (hm : 1 ≤ m) : lowR (s.drop m) * 256 + 255 ≤ 4294967295 := by
  have h1 := lowR_lt (s.drop m)
  have h2 : (s.drop m).length ≤ 3 := by rw [List.length_drop]; omega
  have h3 := Nat.pow_le_pow_right (n := 256) (by decide) h2
  have h4 : (256 : Nat) ^ 3 = 16777216 := by decide
  omega
theorem shl_or8w {u b : Nat} (hb : b < 256) (hu : u * 256 + 255 ≤ 4294967295) : iOr .u32 (iShl .u32 (u : Int) 8) (IntKind.u32.wrap (b : Int)) = ((b + 256 * u : Nat) : Int) := by
  rw [show IntKind.u32.wrap (b : Int) = (b : Int) by rw [wu32]; omega]
  have e1 : iShl .u32 (u : Int) 8 = ((u * 2 ^ 8 : Nat) : Int) := by
    show IntKind.u32.wrap ((u : Int) * 2 ^ 8) = _
    rw [wu32]; omega
  rw [e1]
  show IntKind.u32.wrap ((BitVec.ofInt 32 ((u * 2 ^ 8 : Nat) : Int) ||| BitVec.ofInt 32 (b : Int)).toNat : Int) = _
  rw [BitVec.ofInt_natCast, BitVec.ofInt_natCast, BitVec.toNat_or, BitVec.toNat_ofNat, BitVec.toNat_ofNat, Nat.mod_eq_of_lt (by omega), Nat.mod_eq_of_lt (by omega), wu32]
  have e2 := Nat.shiftLeft_add_eq_or_of_lt (i := 8) (b := b) (by omega) u
  rw [Nat.shiftLeft_eq] at e2
  rw [← e2]; omega
theorem f_rLow32_1 (c : Cu) (hp : c.ok) : OK 68 ([.ptr 0 0]) ([.cells (eC c)]) (.int .u32 c.low32.1) (some [.cells (eC c.low32.2)]) := by
  refine funOK_of_vc (C := cx [(77, sm_cTake)]) (good ⟨k_cTake, trivial⟩) (fn := Tryd.f68) rfl rfl rfl rfl fun hw hs => ?_
  have hl := take4_len c
  repeat' ((conv => whnf); first | with_reducible (first | refine go1 (fun j q h => ?_) fun h => ?_ | refine go2 ⟨rfl, rfl⟩ (fun h => ?_) fun j h => ?_ | refine go2 ?_ (fun h => ?_) fun j h => ?_ | refine goQ ?_ (fun h => ?_) fun h => ?_) | apply go3 | apply go4 | apply go5 | ((first | apply go6 | apply go7 | apply go8 | apply go9 | apply goA) <;> intro h) | with_reducible (first | refine IdxK.mk _ rfl ?_ | refine goB ?_ fun hc => ?_ | refine goC ?_ fun hc => ?_ | refine goD ?_ fun hc => ?_ | refine goE ?_ fun hc => ?_ | apply goF | apply goG | refine goH ?_ fun b hb => ?_) | apply goI | apply goJ | apply goK | apply goL | apply goM | apply goN | apply goO | with_reducible refine goP ?_)
  all_goals try conv => whnf
  all_goals try (refine Side.mk ?_; try dsimp only)
  · exact ⟨trivial, hp⟩
  refine LoopP.mk Nat (fun m => m ≤ (c.takeV 4).length) (fun m => ⟨23, [(3, .int .u32 (lowR ((c.takeV 4).drop m))), (4, .str (c.takeV 4)), (5, .int .i64 ((m : Int) - 1))], [.cells (eC (c.pass 4))], []⟩) (fun m => m) [] (c.takeV 4).length (Nat.le_refl _) ?_ (fun m hm _ _ => ?_)
  · refine Go.VG.Sub.mk rfl ?_ ?_ ?_ ?_ <;> (repeat' first | trivial | rfl | exact eqS _ _ | apply andI | apply eqA | apply eqB | apply eqC | apply eqD | apply eqE | apply eqF | apply eqG | apply eqH | apply eqI)
    · rw [List.drop_length]; rfl
    · show IntKind.i64.wrap (((c.takeV 4).length : Int) - 1) = ((c.takeV 4).length : Int) - 1
      (first | omega | (simp (discharger := omega) only [wR]; omega) | (simp only [lnS]; omega) | (simp (discharger := omega) [-List.getD_eq_getElem?_getD, wR] <;> omega))
  have hl := take4_len c
  have hst := fun h => lowR_step (s := c.takeV 4) (m := m - 1) h
  have hbb := fun h => lowR_b4 (m := m) hl h
  repeat' ((conv => whnf); first | with_reducible (first | refine go1 (fun j q h => ?_) fun h => ?_ | refine go2 ⟨rfl, rfl⟩ (fun h => ?_) fun j h => ?_ | refine go2 ?_ (fun h => ?_) fun j h => ?_ | refine goQ ?_ (fun h => ?_) fun h => ?_) | apply go3 | apply go4 | apply go5 | ((first | apply go6 | apply go7 | apply go8 | apply go9 | apply goA) <;> intro h) | with_reducible (first | refine IdxK.mk _ rfl ?_ | refine goB ?_ fun hc => ?_ | refine goC ?_ fun hc => ?_ | refine goD ?_ fun hc => ?_ | refine goE ?_ fun hc => ?_ | apply goF | apply goG | refine goH ?_ fun b hb => ?_) | apply goI | apply goJ | apply goK | apply goL | apply goM | apply goN | apply goO | with_reducible refine goP ?_)
  all_goals try conv => whnf
  all_goals try (refine Side.mk ?_; try dsimp only)
  all_goals (try simp only [Cu_eta] at *)
  all_goals first | refine stay ?_ | trivial | omega | (simp (discharger := omega) only [wR]; omega) | (simp only [lnS]; omega) | (simp (discharger := omega) [-List.getD_eq_getElem?_getD, wR] <;> omega) | skip
  · obtain ⟨q, rfl⟩ : ∃ q, m = q + 1 := ⟨m - 1, by omega⟩
    have hst := hst (by omega)
    have hbb := hbb (by omega)
    have hq : ((q + 1 : Nat) : Int) - 1 = q := by omega
    have h256 := ((c.takeV 4).getD q 0).toNat_lt
    refine ⟨[], q, by omega, ?_, by omega⟩
    refine Go.VG.Sub.mk rfl ?_ ?_ ?_ ?_ <;> (repeat' first | trivial | rfl | exact eqS _ _ | apply andI | apply eqA | apply eqB | apply eqC | apply eqD | apply eqE | apply eqF | apply eqG | apply eqH | apply eqI)
    · rw [show (((q + 1 : Nat) : Int) - 1).toNat = q by omega, shl_or8w (by omega) hbb]
      rw [show q + 1 - 1 = q by omega] at hst
      rw [hst]
    · rw [hq]
      (first | omega | (simp (discharger := omega) only [wR]; omega) | (simp only [lnS]; omega) | (simp (discharger := omega) [-List.getD_eq_getElem?_getD, wR] <;> omega))
  · obtain rfl : m = 0 := by omega
    refine EndP.mk [] ?_ <;> (repeat' first | trivial | rfl | exact eqS _ _ | apply andI | apply eqA | apply eqB | apply eqC | apply eqD | apply eqE | apply eqF | apply eqG | apply eqH | apply eqI)
def sm_rLow32 : Sm := fun args σ => match args, σ with
  | [.ptr 0 0], [.cells ([.str s_c, .int .i64 (.ofNat a_c), .int .i64 (.ofNat e_c), .int .i64 c_c])] => some (True ∧ ((Cu.mk s_c a_c e_c c_c).ok), .int .u32 (Cu.mk s_c a_c e_c c_c).low32.1, some [.cells (eC (Cu.mk s_c a_c e_c c_c).low32.2)])
  | _, _ => none
theorem k_rLow32 : SOK 68 sm_rLow32 := by
  intro args sg pre x r he hp
  unfold sm_rLow32 at he
  split at he <;> cases he
  · rw [viewC (hp).1]; exact f_rLow32_1 (hp := hp.2) ..
theorem err_take {c : Cu} (h : ¬ c.c = 0) (n : Int) : c.takeV n = [] ∧ c.pass n = c := by
  constructor
  · unfold Cu.takeV Cu.may
    rw [if_neg (by rw [decide_eq_false (fun q => h q.1)]; decide)]
  · unfold Cu.pass; rw [if_pos h]
theorem pass_err {c : Cu} (h : ¬ c.c = 0) (n : Int) : c.pass n = c := by unfold Cu.pass; rw [if_pos h]
theorem vr_err {c : Cu} (h : ¬ c.c = 0) : c.vread = (0, c) := by
  unfold Cu.vread
  rw [vrGo, show c.byte = c from pass_err h 1, if_pos h]
end Go.Proofs.YtkkfdkfopdjomaaDoor
