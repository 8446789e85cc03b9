/-
  Numbers of so many bits, and heads: what the program lays, and what the document says.
-/
import Derived.Test.YtcgjkjabcdeagaaDoorCWa
set_option linter.unusedSimpArgs false
set_option linter.unusedVariables false
set_option maxHeartbeats 4000000
namespace Go.Proofs.YtcgjkjabcdeagaaDoor
open Go Go.VG
set_option maxRecDepth 100000
def low (k u : Nat) : List UInt8 := match k with
  | 0 => []
  | k + 1 => .ofNat (u % 256) :: low k (u / 256)
theorem low_length : ∀ (k u : Nat), (low k u).length = k
  | 0, _ => rfl
  | k + 1, u => by rw [low, List.length_cons, low_length]
theorem low_snoc : ∀ (k u : Nat), low (k + 1) u = low k u ++ [.ofNat (u / 256 ^ k % 256)]
  | 0, u => by simp [low]
  | k + 1, u => by
    rw [low, low_snoc k (u / 256), low, List.cons_append, Nat.div_div_eq_div_mul, ← Nat.pow_succ']
theorem f_wGrown_1 (l : List V) (m : Int) (hp : (0 ≤ m ∧ m ≤ 1000) ∧ l.length ≤ 2000000000) : OK 67 ([.buf 0, .int .i64 m]) ([.buf 1 0 l]) (.buf 1) (some [.buf 1 0 l, .buf 1 0 l]) := by
  refine funOK_of_vc (C := cx []) (good trivial) (fn := Tryd.f67) rfl rfl rfl rfl fun hw hs => ?_
  repeat' ((conv => whnf); first | with_reducible (first | refine go1 (fun j q h => ?_) fun h => ?_ | refine go2 ⟨rfl, rfl⟩ (fun h => ?_) fun j h => ?_ | refine go2 ?_ (fun h => ?_) fun j h => ?_ | refine goQ ?_ (fun h => ?_) fun h => ?_) | apply go3 | apply go4 | apply go5 | ((first | apply go6 | apply go7 | apply go8 | apply go9 | apply goA) <;> intro h) | with_reducible (first | refine IdxK.mk _ rfl ?_ | refine goB ?_ fun hc => ?_ | refine goC ?_ fun hc => ?_ | refine goD ?_ fun hc => ?_ | refine goE ?_ fun hc => ?_ | apply goF | apply goG | refine goH ?_ fun b hb => ?_) | apply goI | apply goJ | apply goK | apply goL | apply goM | apply goN | apply goO | with_reducible refine goP ?_)
  all_goals try conv => whnf
  all_goals try (refine Side.mk ?_; try dsimp only)
  all_goals first | refine stay ?_ | trivial | omega | (simp (discharger := omega) only [wR]; omega) | (simp only [lnS]; omega) | (simp (discharger := omega) [-List.getD_eq_getElem?_getD, wR] <;> omega) | skip
  refine EndP.mk [] ?_ <;> (repeat' first | trivial | rfl | exact eqS _ _ | apply andI | apply eqA | apply eqB | apply eqC | apply eqD | apply eqE | apply eqF | apply eqG | apply eqH | apply eqI)
  simp
def sm_wGrown : Sm := fun args σ => match args, σ with
  | [.buf 0, .int .i64 m], [.buf 1 0 l] => some ((0 ≤ m ∧ m ≤ 1000) ∧ l.length ≤ 2000000000, .buf 1, some [.buf 1 0 l, .buf 1 0 l])
  | _, _ => none
theorem k_wGrown : SOK 67 sm_wGrown := by
  intro args sg pre x r he hp
  unfold sm_wGrown at he
  split at he <;> cases he
  · exact f_wGrown_1 (hp := hp) ..
theorem shr_byteC (u b : Nat) (hb : b ≤ 64) : IntKind.u8.wrap (iShr .u64 u b) = ((UInt8.ofNat (u / 2 ^ b % 256)).toNat : Int) := by
  rw [iShr_nat, show min b IntKind.u64.bits = b from Nat.min_eq_left hb, wu8, UInt8.toNat_ofNat']
  omega
theorem low_put {l : List V} {u i : Nat} {x : Int} (h : x = ((UInt8.ofNat (u / 256 ^ i % 256)).toNat : Nat)) : l ++ bl (low i u) ++ [.int .u8 x] = l ++ bl (low (i + 1) u) := by rw [low_snoc, bl_append, ← List.append_assoc, h]; rfl
theorem f_wLow64_1 (l : List V) (u : Int) (hp : (0 ≤ u ∧ u ≤ 18446744073709551615) ∧ l.length ≤ 2000000000) : OK 41 ([.buf 0, .int .u64 u]) ([.buf 1 0 l]) (.buf 1) (some [.buf 1 0 l, .buf 1 0 (l ++ bl (low 8 u.toNat))]) := by
  refine funOK_of_vc (C := cx [(67, sm_wGrown)]) (good ⟨k_wGrown, trivial⟩) (fn := Tryd.f41) rfl rfl rfl rfl fun hw hs => ?_
  obtain ⟨hp, hq⟩ := hp
  obtain ⟨u, rfl⟩ := Int.eq_ofNat_of_zero_le hp.1
  rw [Int.toNat_natCast]
  repeat' ((conv => whnf); first | with_reducible (first | refine go1 (fun j q h => ?_) fun h => ?_ | refine go2 ⟨rfl, rfl⟩ (fun h => ?_) fun j h => ?_ | refine go2 ?_ (fun h => ?_) fun j h => ?_ | refine goQ ?_ (fun h => ?_) fun h => ?_) | apply go3 | apply go4 | apply go5 | ((first | apply go6 | apply go7 | apply go8 | apply go9 | apply goA) <;> intro h) | with_reducible (first | refine IdxK.mk _ rfl ?_ | refine goB ?_ fun hc => ?_ | refine goC ?_ fun hc => ?_ | refine goD ?_ fun hc => ?_ | refine goE ?_ fun hc => ?_ | apply goF | apply goG | refine goH ?_ fun b hb => ?_) | apply goI | apply goJ | apply goK | apply goL | apply goM | apply goN | apply goO | with_reducible refine goP ?_)
  all_goals try conv => whnf
  all_goals try (refine Side.mk ?_; try dsimp only)
  all_goals first | refine stay ?_ | trivial | omega | (simp (discharger := omega) only [wR]; omega) | (simp only [lnS]; omega) | (simp (discharger := omega) [-List.getD_eq_getElem?_getD, wR] <;> omega) | skip
  refine LoopP.mk Nat (fun i => i ≤ 8) (fun i => ⟨23, [(1, .int .u64 u), (4, .list true 0 []), (5, .buf 1), (6, .int .i64 (7 - i))], [.buf 1 0 l, .buf 1 0 (l ++ bl (low i u))], [0, 1]⟩) (fun i => 8 - i) [] 0 (by omega) ?_ (fun i hi _ _ => ?_)
  · refine Go.VG.Sub.mk rfl ?_ ?_ ?_ ?_ <;> (repeat' first | trivial | rfl | exact eqS _ _ | apply andI | apply eqA | apply eqB | apply eqC | apply eqD | apply eqE | apply eqF | apply eqG | apply eqH | apply eqI)
    simp [low, bl]
  have hx : i = 0 ∨ i = 1 ∨ i = 2 ∨ i = 3 ∨ i = 4 ∨ i = 5 ∨ i = 6 ∨ i = 7 ∨ i = 8 := by omega
  have e7 : IntKind.u8.wrap (iShr .u64 u 56) = _ := shr_byteC u 56 (by omega)
  have e6 : IntKind.u8.wrap (iShr .u64 u 48) = _ := shr_byteC u 48 (by omega)
  have e5 : IntKind.u8.wrap (iShr .u64 u 40) = _ := shr_byteC u 40 (by omega)
  have e4 : IntKind.u8.wrap (iShr .u64 u 32) = _ := shr_byteC u 32 (by omega)
  have e3 : IntKind.u8.wrap (iShr .u64 u 24) = _ := shr_byteC u 24 (by omega)
  have e2 : IntKind.u8.wrap (iShr .u64 u 16) = _ := shr_byteC u 16 (by omega)
  have e1 : IntKind.u8.wrap (iShr .u64 u 8) = _ := shr_byteC u 8 (by omega)
  have e0 : IntKind.u8.wrap (iShr .u64 u 0) = _ := shr_byteC u 0 (by omega)
  rcases hx with h | h | h | h | h | h | h | h | h <;> subst h
  · repeat' ((conv => whnf); first | with_reducible (first | refine go1 (fun j q h => ?_) fun h => ?_ | refine go2 ⟨rfl, rfl⟩ (fun h => ?_) fun j h => ?_ | refine go2 ?_ (fun h => ?_) fun j h => ?_ | refine goQ ?_ (fun h => ?_) fun h => ?_) | apply go3 | apply go4 | apply go5 | ((first | apply go6 | apply go7 | apply go8 | apply go9 | apply goA) <;> intro h) | with_reducible (first | refine IdxK.mk _ rfl ?_ | refine goB ?_ fun hc => ?_ | refine goC ?_ fun hc => ?_ | refine goD ?_ fun hc => ?_ | refine goE ?_ fun hc => ?_ | apply goF | apply goG | refine goH ?_ fun b hb => ?_) | apply goI | apply goJ | apply goK | apply goL | apply goM | apply goN | apply goO | with_reducible refine goP ?_)
    all_goals try conv => whnf
    all_goals try (refine Side.mk ?_; try dsimp only)
    all_goals first
      | (simp only [List.length_append, low_length, bl_length, List.length_singleton]; omega)
      | omega
      | skip
    refine ⟨[], 1, by omega, ?_, by omega⟩
    refine Go.VG.Sub.mk rfl ?_ ?_ ?_ ?_ <;> (repeat' first | trivial | rfl | exact eqS _ _ | apply andI | apply eqA | apply eqB | apply eqC | apply eqD | apply eqE | apply eqF | apply eqG | apply eqH | apply eqI)
    exact low_put e0
  · repeat' ((conv => whnf); first | with_reducible (first | refine go1 (fun j q h => ?_) fun h => ?_ | refine go2 ⟨rfl, rfl⟩ (fun h => ?_) fun j h => ?_ | refine go2 ?_ (fun h => ?_) fun j h => ?_ | refine goQ ?_ (fun h => ?_) fun h => ?_) | apply go3 | apply go4 | apply go5 | ((first | apply go6 | apply go7 | apply go8 | apply go9 | apply goA) <;> intro h) | with_reducible (first | refine IdxK.mk _ rfl ?_ | refine goB ?_ fun hc => ?_ | refine goC ?_ fun hc => ?_ | refine goD ?_ fun hc => ?_ | refine goE ?_ fun hc => ?_ | apply goF | apply goG | refine goH ?_ fun b hb => ?_) | apply goI | apply goJ | apply goK | apply goL | apply goM | apply goN | apply goO | with_reducible refine goP ?_)
    all_goals try conv => whnf
    all_goals try (refine Side.mk ?_; try dsimp only)
    all_goals first
      | (simp only [List.length_append, low_length, bl_length, List.length_singleton]; omega)
      | omega
      | skip
    refine ⟨[], 2, by omega, ?_, by omega⟩
    refine Go.VG.Sub.mk rfl ?_ ?_ ?_ ?_ <;> (repeat' first | trivial | rfl | exact eqS _ _ | apply andI | apply eqA | apply eqB | apply eqC | apply eqD | apply eqE | apply eqF | apply eqG | apply eqH | apply eqI)
    exact low_put e1
  · repeat' ((conv => whnf); first | with_reducible (first | refine go1 (fun j q h => ?_) fun h => ?_ | refine go2 ⟨rfl, rfl⟩ (fun h => ?_) fun j h => ?_ | refine go2 ?_ (fun h => ?_) fun j h => ?_ | refine goQ ?_ (fun h => ?_) fun h => ?_) | apply go3 | apply go4 | apply go5 | ((first | apply go6 | apply go7 | apply go8 | apply go9 | apply goA) <;> intro h) | with_reducible (first | refine IdxK.mk _ rfl ?_ | refine goB ?_ fun hc => ?_ | refine goC ?_ fun hc => ?_ | refine goD ?_ fun hc => ?_ | refine goE ?_ fun hc => ?_ | apply goF | apply goG | refine goH ?_ fun b hb => ?_) | apply goI | apply goJ | apply goK | apply goL | apply goM | apply goN | apply goO | with_reducible refine goP ?_)
    all_goals try conv => whnf
    all_goals try (refine Side.mk ?_; try dsimp only)
    all_goals first
      | (simp only [List.length_append, low_length, bl_length, List.length_singleton]; omega)
      | omega
      | skip
    refine ⟨[], 3, by omega, ?_, by omega⟩
    refine Go.VG.Sub.mk rfl ?_ ?_ ?_ ?_ <;> (repeat' first | trivial | rfl | exact eqS _ _ | apply andI | apply eqA | apply eqB | apply eqC | apply eqD | apply eqE | apply eqF | apply eqG | apply eqH | apply eqI)
    exact low_put e2
  · repeat' ((conv => whnf); first | with_reducible (first | refine go1 (fun j q h => ?_) fun h => ?_ | refine go2 ⟨rfl, rfl⟩ (fun h => ?_) fun j h => ?_ | refine go2 ?_ (fun h => ?_) fun j h => ?_ | refine goQ ?_ (fun h => ?_) fun h => ?_) | apply go3 | apply go4 | apply go5 | ((first | apply go6 | apply go7 | apply go8 | apply go9 | apply goA) <;> intro h) | with_reducible (first | refine IdxK.mk _ rfl ?_ | refine goB ?_ fun hc => ?_ | refine goC ?_ fun hc => ?_ | refine goD ?_ fun hc => ?_ | refine goE ?_ fun hc => ?_ | apply goF | apply goG | refine goH ?_ fun b hb => ?_) | apply goI | apply goJ | apply goK | apply goL | apply goM | apply goN | apply goO | with_reducible refine goP ?_)
    all_goals try conv => whnf
    all_goals try (refine Side.mk ?_; try dsimp only)
    all_goals first
      | (simp only [List.length_append, low_length, bl_length, List.length_singleton]; omega)
      | omega
      | skip
    refine ⟨[], 4, by omega, ?_, by omega⟩
    refine Go.VG.Sub.mk rfl ?_ ?_ ?_ ?_ <;> (repeat' first | trivial | rfl | exact eqS _ _ | apply andI | apply eqA | apply eqB | apply eqC | apply eqD | apply eqE | apply eqF | apply eqG | apply eqH | apply eqI)
    exact low_put e3
  · repeat' ((conv => whnf); first | with_reducible (first | refine go1 (fun j q h => ?_) fun h => ?_ | refine go2 ⟨rfl, rfl⟩ (fun h => ?_) fun j h => ?_ | refine go2 ?_ (fun h => ?_) fun j h => ?_ | refine goQ ?_ (fun h => ?_) fun h => ?_) | apply go3 | apply go4 | apply go5 | ((first | apply go6 | apply go7 | apply go8 | apply go9 | apply goA) <;> intro h) | with_reducible (first | refine IdxK.mk _ rfl ?_ | refine goB ?_ fun hc => ?_ | refine goC ?_ fun hc => ?_ | refine goD ?_ fun hc => ?_ | refine goE ?_ fun hc => ?_ | apply goF | apply goG | refine goH ?_ fun b hb => ?_) | apply goI | apply goJ | apply goK | apply goL | apply goM | apply goN | apply goO | with_reducible refine goP ?_)
    all_goals try conv => whnf
    all_goals try (refine Side.mk ?_; try dsimp only)
    all_goals first
      | (simp only [List.length_append, low_length, bl_length, List.length_singleton]; omega)
      | omega
      | skip
    refine ⟨[], 5, by omega, ?_, by omega⟩
    refine Go.VG.Sub.mk rfl ?_ ?_ ?_ ?_ <;> (repeat' first | trivial | rfl | exact eqS _ _ | apply andI | apply eqA | apply eqB | apply eqC | apply eqD | apply eqE | apply eqF | apply eqG | apply eqH | apply eqI)
    exact low_put e4
  · repeat' ((conv => whnf); first | with_reducible (first | refine go1 (fun j q h => ?_) fun h => ?_ | refine go2 ⟨rfl, rfl⟩ (fun h => ?_) fun j h => ?_ | refine go2 ?_ (fun h => ?_) fun j h => ?_ | refine goQ ?_ (fun h => ?_) fun h => ?_) | apply go3 | apply go4 | apply go5 | ((first | apply go6 | apply go7 | apply go8 | apply go9 | apply goA) <;> intro h) | with_reducible (first | refine IdxK.mk _ rfl ?_ | refine goB ?_ fun hc => ?_ | refine goC ?_ fun hc => ?_ | refine goD ?_ fun hc => ?_ | refine goE ?_ fun hc => ?_ | apply goF | apply goG | refine goH ?_ fun b hb => ?_) | apply goI | apply goJ | apply goK | apply goL | apply goM | apply goN | apply goO | with_reducible refine goP ?_)
    all_goals try conv => whnf
    all_goals try (refine Side.mk ?_; try dsimp only)
    all_goals first
      | (simp only [List.length_append, low_length, bl_length, List.length_singleton]; omega)
      | omega
      | skip
    refine ⟨[], 6, by omega, ?_, by omega⟩
    refine Go.VG.Sub.mk rfl ?_ ?_ ?_ ?_ <;> (repeat' first | trivial | rfl | exact eqS _ _ | apply andI | apply eqA | apply eqB | apply eqC | apply eqD | apply eqE | apply eqF | apply eqG | apply eqH | apply eqI)
    exact low_put e5
  · repeat' ((conv => whnf); first | with_reducible (first | refine go1 (fun j q h => ?_) fun h => ?_ | refine go2 ⟨rfl, rfl⟩ (fun h => ?_) fun j h => ?_ | refine go2 ?_ (fun h => ?_) fun j h => ?_ | refine goQ ?_ (fun h => ?_) fun h => ?_) | apply go3 | apply go4 | apply go5 | ((first | apply go6 | apply go7 | apply go8 | apply go9 | apply goA) <;> intro h) | with_reducible (first | refine IdxK.mk _ rfl ?_ | refine goB ?_ fun hc => ?_ | refine goC ?_ fun hc => ?_ | refine goD ?_ fun hc => ?_ | refine goE ?_ fun hc => ?_ | apply goF | apply goG | refine goH ?_ fun b hb => ?_) | apply goI | apply goJ | apply goK | apply goL | apply goM | apply goN | apply goO | with_reducible refine goP ?_)
    all_goals try conv => whnf
    all_goals try (refine Side.mk ?_; try dsimp only)
    all_goals first
      | (simp only [List.length_append, low_length, bl_length, List.length_singleton]; omega)
      | omega
      | skip
    refine ⟨[], 7, by omega, ?_, by omega⟩
    refine Go.VG.Sub.mk rfl ?_ ?_ ?_ ?_ <;> (repeat' first | trivial | rfl | exact eqS _ _ | apply andI | apply eqA | apply eqB | apply eqC | apply eqD | apply eqE | apply eqF | apply eqG | apply eqH | apply eqI)
    exact low_put e6
  · repeat' ((conv => whnf); first | with_reducible (first | refine go1 (fun j q h => ?_) fun h => ?_ | refine go2 ⟨rfl, rfl⟩ (fun h => ?_) fun j h => ?_ | refine go2 ?_ (fun h => ?_) fun j h => ?_ | refine goQ ?_ (fun h => ?_) fun h => ?_) | apply go3 | apply go4 | apply go5 | ((first | apply go6 | apply go7 | apply go8 | apply go9 | apply goA) <;> intro h) | with_reducible (first | refine IdxK.mk _ rfl ?_ | refine goB ?_ fun hc => ?_ | refine goC ?_ fun hc => ?_ | refine goD ?_ fun hc => ?_ | refine goE ?_ fun hc => ?_ | apply goF | apply goG | refine goH ?_ fun b hb => ?_) | apply goI | apply goJ | apply goK | apply goL | apply goM | apply goN | apply goO | with_reducible refine goP ?_)
    all_goals try conv => whnf
    all_goals try (refine Side.mk ?_; try dsimp only)
    all_goals first
      | (simp only [List.length_append, low_length, bl_length, List.length_singleton]; omega)
      | omega
      | skip
    refine ⟨[], 8, by omega, ?_, by omega⟩
    refine Go.VG.Sub.mk rfl ?_ ?_ ?_ ?_ <;> (repeat' first | trivial | rfl | exact eqS _ _ | apply andI | apply eqA | apply eqB | apply eqC | apply eqD | apply eqE | apply eqF | apply eqG | apply eqH | apply eqI)
    exact low_put e7
  · repeat' ((conv => whnf); first | with_reducible (first | refine go1 (fun j q h => ?_) fun h => ?_ | refine go2 ⟨rfl, rfl⟩ (fun h => ?_) fun j h => ?_ | refine go2 ?_ (fun h => ?_) fun j h => ?_ | refine goQ ?_ (fun h => ?_) fun h => ?_) | apply go3 | apply go4 | apply go5 | ((first | apply go6 | apply go7 | apply go8 | apply go9 | apply goA) <;> intro h) | with_reducible (first | refine IdxK.mk _ rfl ?_ | refine goB ?_ fun hc => ?_ | refine goC ?_ fun hc => ?_ | refine goD ?_ fun hc => ?_ | refine goE ?_ fun hc => ?_ | apply goF | apply goG | refine goH ?_ fun b hb => ?_) | apply goI | apply goJ | apply goK | apply goL | apply goM | apply goN | apply goO | with_reducible refine goP ?_)
    all_goals try conv => whnf
    all_goals try (refine Side.mk ?_; try dsimp only)
    refine EndP.mk [] ?_ <;> (repeat' first | trivial | rfl | exact eqS _ _ | apply andI | apply eqA | apply eqB | apply eqC | apply eqD | apply eqE | apply eqF | apply eqG | apply eqH | apply eqI)
def sm_wLow64 : Sm := fun args σ => match args, σ with
  | [.buf 0, .int .u64 u], [.buf 1 0 l] => some ((0 ≤ u ∧ u ≤ 18446744073709551615) ∧ l.length ≤ 2000000000, .buf 1, some [.buf 1 0 l, .buf 1 0 (l ++ bl (low 8 u.toNat))])
  | _, _ => none
theorem k_wLow64 : SOK 41 sm_wLow64 := by
  intro args sg pre x r he hp
  unfold sm_wLow64 at he
  split at he <;> cases he
  · exact f_wLow64_1 (hp := hp) ..
theorem f_r02Low_1 (u : Int) (hp : 0 ≤ u ∧ u ≤ 18446744073709551615) : OK 52 ([.int .u64 u, .int .i64 8]) ([]) (.str (low 8 u.toNat)) (none) := by
  refine funOK_of_vc (C := cx []) (good trivial) (fn := Tryd.f52) rfl rfl rfl rfl fun hw hs => ?_
  obtain ⟨u, rfl⟩ := Int.eq_ofNat_of_zero_le hp.1
  rw [Int.toNat_natCast]
  repeat' ((conv => whnf); first | with_reducible (first | refine go1 (fun j q h => ?_) fun h => ?_ | refine go2 ⟨rfl, rfl⟩ (fun h => ?_) fun j h => ?_ | refine go2 ?_ (fun h => ?_) fun j h => ?_ | refine goQ ?_ (fun h => ?_) fun h => ?_) | apply go3 | apply go4 | apply go5 | ((first | apply go6 | apply go7 | apply go8 | apply go9 | apply goA) <;> intro h) | with_reducible (first | refine IdxK.mk _ rfl ?_ | refine goB ?_ fun hc => ?_ | refine goC ?_ fun hc => ?_ | refine goD ?_ fun hc => ?_ | refine goE ?_ fun hc => ?_ | apply goF | apply goG | refine goH ?_ fun b hb => ?_) | apply goI | apply goJ | apply goK | apply goL | apply goM | apply goN | apply goO | with_reducible refine goP ?_)
  all_goals try conv => whnf
  all_goals try (refine Side.mk ?_; try dsimp only)
  refine LoopP.mk Nat (fun i => i ≤ 8) (fun i => ⟨22, [(0, .int .u64 (u / 256 ^ i : Nat)), (1, .int .i64 8), (5, .str (low i u)), (6, .int .i64 i)], [], []⟩) (fun x => 8 - x) [] 0 (by omega) ?_ (fun i hi _ _ => ?_)
  · refine Go.VG.Sub.mk rfl ?_ ?_ ?_ ?_ <;> (repeat' first | trivial | rfl | exact eqS _ _ | apply andI | apply eqA | apply eqB | apply eqC | apply eqD | apply eqE | apply eqF | apply eqG | apply eqH | apply eqI)
    all_goals simp
  have hl := low_length i u
  have hsn := low_snoc i u
  have hdd : u / 256 ^ (i + 1) = u / 256 ^ i / 256 := by rw [Nat.pow_succ, Nat.div_div_eq_div_mul]
  have hle : u / 256 ^ i ≤ u := Nat.div_le_self _ _
  generalize u / 256 ^ i = w at *
  repeat' ((conv => whnf); first | with_reducible (first | refine go1 (fun j q h => ?_) fun h => ?_ | refine go2 ⟨rfl, rfl⟩ (fun h => ?_) fun j h => ?_ | refine go2 ?_ (fun h => ?_) fun j h => ?_ | refine goQ ?_ (fun h => ?_) fun h => ?_) | apply go3 | apply go4 | apply go5 | ((first | apply go6 | apply go7 | apply go8 | apply go9 | apply goA) <;> intro h) | with_reducible (first | refine IdxK.mk _ rfl ?_ | refine goB ?_ fun hc => ?_ | refine goC ?_ fun hc => ?_ | refine goD ?_ fun hc => ?_ | refine goE ?_ fun hc => ?_ | apply goF | apply goG | refine goH ?_ fun b hb => ?_) | apply goI | apply goJ | apply goK | apply goL | apply goM | apply goN | apply goO | with_reducible refine goP ?_)
  all_goals try conv => whnf
  all_goals try (refine Side.mk ?_; try dsimp only)
  all_goals first | refine stay ?_ | trivial | omega | (simp (discharger := omega) only [wR]; omega) | (simp only [lnS]; omega) | (simp (discharger := omega) [-List.getD_eq_getElem?_getD, wR] <;> omega) | skip
  all_goals (try (show (_ : Nat) ≤ _; simp only [List.length_singleton]; omega))
  · refine ⟨[], i + 1, by omega, ?_, by omega⟩
    refine Go.VG.Sub.mk rfl ?_ ?_ ?_ ?_ <;> (repeat' first | trivial | rfl | exact eqS _ _ | apply andI | apply eqA | apply eqB | apply eqC | apply eqD | apply eqE | apply eqF | apply eqG | apply eqH | apply eqI)
    · rw [hdd]; (first | omega | (simp (discharger := omega) only [wR]; omega) | (simp only [lnS]; omega) | (simp (discharger := omega) [-List.getD_eq_getElem?_getD, wR] <;> omega))
    · rw [hsn, show IntKind.u8.wrap ((w : Int).tmod 256) = ((w % 256 : Nat) : Int) by (first | omega | (simp (discharger := omega) only [wR]; omega) | (simp only [lnS]; omega) | (simp (discharger := omega) [-List.getD_eq_getElem?_getD, wR] <;> omega))]; rfl
    all_goals (first | omega | (simp (discharger := omega) only [wR]; omega) | (simp only [lnS]; omega) | (simp (discharger := omega) [-List.getD_eq_getElem?_getD, wR] <;> omega))
  · obtain rfl : i = 8 := by omega
    refine EndP.mk [] ?_ <;> (repeat' first | trivial | rfl | exact eqS _ _ | apply andI | apply eqA | apply eqB | apply eqC | apply eqD | apply eqE | apply eqF | apply eqG | apply eqH | apply eqI)
theorem f_r02Low_2 (u : Int) (hp : 0 ≤ u ∧ u ≤ 18446744073709551615) : OK 52 ([.int .u64 u, .int .i64 4]) ([]) (.str (low 4 u.toNat)) (none) := by
  refine funOK_of_vc (C := cx []) (good trivial) (fn := Tryd.f52) rfl rfl rfl rfl fun hw hs => ?_
  obtain ⟨u, rfl⟩ := Int.eq_ofNat_of_zero_le hp.1
  rw [Int.toNat_natCast]
  repeat' ((conv => whnf); first | with_reducible (first | refine go1 (fun j q h => ?_) fun h => ?_ | refine go2 ⟨rfl, rfl⟩ (fun h => ?_) fun j h => ?_ | refine go2 ?_ (fun h => ?_) fun j h => ?_ | refine goQ ?_ (fun h => ?_) fun h => ?_) | apply go3 | apply go4 | apply go5 | ((first | apply go6 | apply go7 | apply go8 | apply go9 | apply goA) <;> intro h) | with_reducible (first | refine IdxK.mk _ rfl ?_ | refine goB ?_ fun hc => ?_ | refine goC ?_ fun hc => ?_ | refine goD ?_ fun hc => ?_ | refine goE ?_ fun hc => ?_ | apply goF | apply goG | refine goH ?_ fun b hb => ?_) | apply goI | apply goJ | apply goK | apply goL | apply goM | apply goN | apply goO | with_reducible refine goP ?_)
  all_goals try conv => whnf
  all_goals try (refine Side.mk ?_; try dsimp only)
  refine LoopP.mk Nat (fun i => i ≤ 4) (fun i => ⟨22, [(0, .int .u64 (u / 256 ^ i : Nat)), (1, .int .i64 4), (5, .str (low i u)), (6, .int .i64 i)], [], []⟩) (fun x => 4 - x) [] 0 (by omega) ?_ (fun i hi _ _ => ?_)
  · refine Go.VG.Sub.mk rfl ?_ ?_ ?_ ?_ <;> (repeat' first | trivial | rfl | exact eqS _ _ | apply andI | apply eqA | apply eqB | apply eqC | apply eqD | apply eqE | apply eqF | apply eqG | apply eqH | apply eqI)
    all_goals simp
  have hl := low_length i u
  have hsn := low_snoc i u
  have hdd : u / 256 ^ (i + 1) = u / 256 ^ i / 256 := by rw [Nat.pow_succ, Nat.div_div_eq_div_mul]
  have hle : u / 256 ^ i ≤ u := Nat.div_le_self _ _
  generalize u / 256 ^ i = w at *
  repeat' ((conv => whnf); first | with_reducible (first | refine go1 (fun j q h => ?_) fun h => ?_ | refine go2 ⟨rfl, rfl⟩ (fun h => ?_) fun j h => ?_ | refine go2 ?_ (fun h => ?_) fun j h => ?_ | refine goQ ?_ (fun h => ?_) fun h => ?_) | apply go3 | apply go4 | apply go5 | ((first | apply go6 | apply go7 | apply go8 | apply go9 | apply goA) <;> intro h) | with_reducible (first | refine IdxK.mk _ rfl ?_ | refine goB ?_ fun hc => ?_ | refine goC ?_ fun hc => ?_ | refine goD ?_ fun hc => ?_ | refine goE ?_ fun hc => ?_ | apply goF | apply goG | refine goH ?_ fun b hb => ?_) | apply goI | apply goJ | apply goK | apply goL | apply goM | apply goN | apply goO | with_reducible refine goP ?_)
  all_goals try conv => whnf
  all_goals try (refine Side.mk ?_; try dsimp only)
  all_goals first | refine stay ?_ | trivial | omega | (simp (discharger := omega) only [wR]; omega) | (simp only [lnS]; omega) | (simp (discharger := omega) [-List.getD_eq_getElem?_getD, wR] <;> omega) | skip
  all_goals (try (show (_ : Nat) ≤ _; simp only [List.length_singleton]; omega))
  · refine ⟨[], i + 1, by omega, ?_, by omega⟩
    refine Go.VG.Sub.mk rfl ?_ ?_ ?_ ?_ <;> (repeat' first | trivial | rfl | exact eqS _ _ | apply andI | apply eqA | apply eqB | apply eqC | apply eqD | apply eqE | apply eqF | apply eqG | apply eqH | apply eqI)
    · rw [hdd]; (first | omega | (simp (discharger := omega) only [wR]; omega) | (simp only [lnS]; omega) | (simp (discharger := omega) [-List.getD_eq_getElem?_getD, wR] <;> omega))
    · rw [hsn, show IntKind.u8.wrap ((w : Int).tmod 256) = ((w % 256 : Nat) : Int) by (first | omega | (simp (discharger := omega) only [wR]; omega) | (simp only [lnS]; omega) | (simp (discharger := omega) [-List.getD_eq_getElem?_getD, wR] <;> omega))]; rfl
    all_goals (first | omega | (simp (discharger := omega) only [wR]; omega) | (simp only [lnS]; omega) | (simp (discharger := omega) [-List.getD_eq_getElem?_getD, wR] <;> omega))
  · obtain rfl : i = 4 := by omega
    refine EndP.mk [] ?_ <;> (repeat' first | trivial | rfl | exact eqS _ _ | apply andI | apply eqA | apply eqB | apply eqC | apply eqD | apply eqE | apply eqF | apply eqG | apply eqH | apply eqI)
def sm_r02Low : Sm := fun args σ => match args, σ with
  | [.int .u64 u, .int .i64 8], [] => some (0 ≤ u ∧ u ≤ 18446744073709551615, .str (low 8 u.toNat), none)
  | [.int .u64 u, .int .i64 4], [] => some (0 ≤ u ∧ u ≤ 18446744073709551615, .str (low 4 u.toNat), none)
  | _, _ => none
theorem k_r02Low : SOK 52 sm_r02Low := by
  intro args sg pre x r he hp
  unfold sm_r02Low at he
  split at he <;> cases he
  · exact f_r02Low_1 (hp := hp) ..
  · exact f_r02Low_2 (hp := hp) ..
theorem f_r02power_1 (b : Int) (hp : 0 ≤ b ∧ b ≤ 63) : OK 68 ([.int .i64 b]) ([]) (.int .u64 (pow2 b)) (none) := by
  refine funOK_of_vc (C := cx []) (good trivial) (fn := Tryd.f68) rfl rfl rfl rfl fun hw hs => ?_
  obtain ⟨n, rfl⟩ := Int.eq_ofNat_of_zero_le hp.1
  refine LoopP.mk Nat (fun i => i ≤ n) (fun i => ⟨13, [(0, .int .i64 n), (3, .int .u64 (2 ^ i : Nat)), (4, .int .i64 i)], [], []⟩) (fun x => n - x) [] 0 (Nat.zero_le _) ?_ (fun i hi _ _ => ?_)
  · refine Go.VG.Sub.mk rfl ?_ ?_ ?_ ?_ <;> (repeat' first | trivial | rfl | exact eqS _ _ | apply andI | apply eqA | apply eqB | apply eqC | apply eqD | apply eqE | apply eqF | apply eqG | apply eqH | apply eqI)
  have hpw : i < n → 2 ^ (i + 1) ≤ 2 ^ 63 := fun h => Nat.pow_le_pow_right (by decide) (by omega)
  have hpe : 2 ^ (i + 1) = 2 ^ i * 2 := Nat.pow_succ 2 i
  repeat' ((conv => whnf); first | with_reducible (first | refine go1 (fun j q h => ?_) fun h => ?_ | refine go2 ⟨rfl, rfl⟩ (fun h => ?_) fun j h => ?_ | refine go2 ?_ (fun h => ?_) fun j h => ?_ | refine goQ ?_ (fun h => ?_) fun h => ?_) | apply go3 | apply go4 | apply go5 | ((first | apply go6 | apply go7 | apply go8 | apply go9 | apply goA) <;> intro h) | with_reducible (first | refine IdxK.mk _ rfl ?_ | refine goB ?_ fun hc => ?_ | refine goC ?_ fun hc => ?_ | refine goD ?_ fun hc => ?_ | refine goE ?_ fun hc => ?_ | apply goF | apply goG | refine goH ?_ fun b hb => ?_) | apply goI | apply goJ | apply goK | apply goL | apply goM | apply goN | apply goO | with_reducible refine goP ?_)
  all_goals try conv => whnf
  all_goals try (refine Side.mk ?_; try dsimp only)
  all_goals first | refine stay ?_ | trivial | omega | (simp (discharger := omega) only [wR]; omega) | (simp only [lnS]; omega) | (simp (discharger := omega) [-List.getD_eq_getElem?_getD, wR] <;> omega) | skip
  · refine ⟨[], i + 1, by omega, ?_, by omega⟩
    refine Go.VG.Sub.mk rfl ?_ ?_ ?_ ?_ <;> (repeat' first | trivial | rfl | exact eqS _ _ | apply andI | apply eqA | apply eqB | apply eqC | apply eqD | apply eqE | apply eqF | apply eqG | apply eqH | apply eqI)
    all_goals first
      | (first | omega | (simp (discharger := omega) only [wR]; omega) | (simp only [lnS]; omega) | (simp (discharger := omega) [-List.getD_eq_getElem?_getD, wR] <;> omega))
      | (rw [wu64, Int.emod_eq_of_lt (by omega) (by omega)]; omega)
  · refine EndP.mk [] ?_ <;> (repeat' first | trivial | rfl | exact eqS _ _ | apply andI | apply eqA | apply eqB | apply eqC | apply eqD | apply eqE | apply eqF | apply eqG | apply eqH | apply eqI)
    obtain rfl : i = n := by omega
    rfl
def sm_r02power : Sm := fun args σ => match args, σ with
  | [.int .i64 b], [] => some (0 ≤ b ∧ b ≤ 63, .int .u64 (pow2 b), none)
  | _, _ => none
theorem k_r02power : SOK 68 sm_r02power := by
  intro args sg pre x r he hp
  unfold sm_r02power at he
  split at he <;> cases he
  · exact f_r02power_1 (hp := hp) ..
/-! Wide, Fit -/
theorem pow_b {b : Int} (h : b = 1 ∨ b = 8 ∨ b = 16 ∨ b = 32 ∨ b = 64) : (b = 1 ∧ pow2 b = 2 ∧ pow2 (b - 1) = 1) ∨ (b = 8 ∧ pow2 b = 256 ∧ pow2 (b - 1) = 128) ∨ (b = 16 ∧ pow2 b = 65536 ∧ pow2 (b - 1) = 32768) ∨ (b = 32 ∧ pow2 b = 4294967296 ∧ pow2 (b - 1) = 2147483648) ∨ (b = 64 ∧ pow2 b = 18446744073709551616 ∧ pow2 (b - 1) = 9223372036854775808) := by
  rcases h with rfl | rfl | rfl | rfl | rfl
  · exact .inl ⟨rfl, rfl, rfl⟩
  · exact .inr (.inl ⟨rfl, rfl, rfl⟩)
  · exact .inr (.inr (.inl ⟨rfl, rfl, rfl⟩))
  · exact .inr (.inr (.inr (.inl ⟨rfl, rfl, rfl⟩)))
  · exact .inr (.inr (.inr (.inr ⟨rfl, rfl, rfl⟩)))
/-- the whole number of so many bits -/
def wideV (u b : Int) : Int := if u % pow2 b ≥ pow2 (b - 1) then u % pow2 b - pow2 b else u % pow2 b
theorem f_r02Wide_1 (u b : Int) (hp : (0 ≤ u ∧ u ≤ 18446744073709551615) ∧ (b = 1 ∨ b = 8 ∨ b = 16 ∨ b = 32 ∨ b = 64)) : OK 69 ([.int .u64 u, .int .i64 b]) ([]) (.int .i64 (wideV u b)) (none) := by
  refine funOK_of_vc (C := cx [(68, sm_r02power)]) (good ⟨k_r02power, trivial⟩) (fn := Tryd.f69) rfl rfl rfl rfl fun hw hs => ?_
  obtain ⟨hu, hb⟩ := hp
  have hb := pow_b hb
  unfold wideV
  have ht := Int.tmod_eq_emod_of_nonneg (b := pow2 b) hu.1
  have h3 : pow2 (IntKind.i64.wrap (b - 1)) = pow2 (b - 1) := by rw [show IntKind.i64.wrap (b - 1) = b - 1 by (first | omega | (simp (discharger := omega) only [wR]; omega) | (simp only [lnS]; omega) | (simp (discharger := omega) [-List.getD_eq_getElem?_getD, wR] <;> omega))]
  rcases hb with ⟨rfl, h1, h2⟩ | ⟨rfl, h1, h2⟩ | ⟨rfl, h1, h2⟩ | ⟨rfl, h1, h2⟩ | ⟨rfl, h1, h2⟩
  all_goals rw [h2] at h3
  all_goals rw [h1] at ht
  all_goals rw [h1, h2]
  all_goals
    repeat' ((conv => whnf); first | with_reducible (first | refine go1 (fun j q h => ?_) fun h => ?_ | refine go2 ⟨rfl, rfl⟩ (fun h => ?_) fun j h => ?_ | refine go2 ?_ (fun h => ?_) fun j h => ?_ | refine goQ ?_ (fun h => ?_) fun h => ?_) | apply go3 | apply go4 | apply go5 | ((first | apply go6 | apply go7 | apply go8 | apply go9 | apply goA) <;> intro h) | with_reducible (first | refine IdxK.mk _ rfl ?_ | refine goB ?_ fun hc => ?_ | refine goC ?_ fun hc => ?_ | refine goD ?_ fun hc => ?_ | refine goE ?_ fun hc => ?_ | apply goF | apply goG | refine goH ?_ fun b hb => ?_) | apply goI | apply goJ | apply goK | apply goL | apply goM | apply goN | apply goO | with_reducible refine goP ?_)
    all_goals try conv => whnf
    all_goals try (refine Side.mk ?_; try dsimp only)
    all_goals (try simp only [h1, h3, ht] at *)
    all_goals first | refine stay ?_ | trivial | omega | (simp (discharger := omega) only [wR]; omega) | (simp only [lnS]; omega) | (simp (discharger := omega) [-List.getD_eq_getElem?_getD, wR] <;> omega) | skip
    all_goals first
      | omega
      | (first
         | rw [if_pos (by omega)]
         | rw [if_neg (by omega)]
         refine EndP.mk [] ?_ <;> (repeat' first | trivial | rfl | exact eqS _ _ | apply andI | apply eqA | apply eqB | apply eqC | apply eqD | apply eqE | apply eqF | apply eqG | apply eqH | apply eqI)
         all_goals (first | omega | (simp (discharger := omega) only [wR]; omega) | (simp only [lnS]; omega) | (simp (discharger := omega) [-List.getD_eq_getElem?_getD, wR] <;> omega))
         done)
      | (split
         all_goals
           refine EndP.mk [] ?_ <;> (repeat' first | trivial | rfl | exact eqS _ _ | apply andI | apply eqA | apply eqB | apply eqC | apply eqD | apply eqE | apply eqF | apply eqG | apply eqH | apply eqI)
           (first | omega | (simp (discharger := omega) only [wR]; omega) | (simp only [lnS]; omega) | (simp (discharger := omega) [-List.getD_eq_getElem?_getD, wR] <;> omega))
         done)
      | skip
def sm_r02Wide : Sm := fun args σ => match args, σ with
  | [.int .u64 u, .int .i64 b], [] => some ((0 ≤ u ∧ u ≤ 18446744073709551615) ∧ (b = 1 ∨ b = 8 ∨ b = 16 ∨ b = 32 ∨ b = 64), .int .i64 (wideV u b), none)
  | _, _ => none
theorem k_r02Wide : SOK 69 sm_r02Wide := by
  intro args sg pre x r he hp
  unfold sm_r02Wide at he
  split at he <;> cases he
  · exact f_r02Wide_1 (hp := hp) ..
theorem fit_mask (n : Int) (j : Nat) (hj : j ≤ 64) (h1 : 1 ≤ j) : iAnd .u64 (IntKind.u64.wrap n) (((2 ^ j - 1 : Nat)) : Int) = n % ((2 ^ j : Nat) : Int) := by
  have hw : IntKind.u64.wrap n = ((n % 18446744073709551616).toNat : Int) := by rw [wu64]; omega
  have hp : 2 ^ j ≤ 2 ^ 64 := Nat.pow_le_pow_right (by decide) hj
  have hp0 : 0 < 2 ^ j := Nat.pow_pos (by decide)
  have hd : 2 ^ 64 = 2 ^ j * 2 ^ (64 - j) := by rw [← Nat.pow_add]; congr 1; omega
  rw [hw, and_maskC .u64 j (n % 18446744073709551616).toNat (by show _ < 2 ^ 64; omega) (by show _ < 2 ^ 64; omega)
    (by have := Nat.mod_lt (n % 18446744073709551616).toNat hp0
        show (((n % 18446744073709551616).toNat % 2 ^ j : Nat) : Int) ≤ 18446744073709551615
        omega)
    (fun m h => by
      have h : (m : Int) ≤ 18446744073709551615 := h
      rw [wu64]; omega)]
  have e : (18446744073709551616 : Int) = ((2 ^ j : Nat) : Int) * ((2 ^ (64 - j) : Nat) : Int) := by
    rw [← Int.natCast_mul, ← hd]; rfl
  rw [Int.natCast_emod, Int.toNat_of_nonneg (by omega), e]
  exact Int.emod_emod_of_dvd n (Int.dvd_mul_right ..)
theorem f_wFit_1 (n b : Int) (hp : b = 1 ∨ b = 8 ∨ b = 16 ∨ b = 32 ∨ b = 64) : OK 38 ([.int .i64 n, .int .i64 b]) ([]) (.tuple [.int .u64 (fitU n b), .int .i64 (fitC n b)]) (none) := by
  refine funOK_of_vc (C := cx []) (good trivial) (fn := Tryd.f38) rfl rfl rfl rfl fun hw hs => ?_
  have hn : -9223372036854775808 ≤ n ∧ n ≤ 9223372036854775807 := hw.1
  have hb := pow_b hp
  unfold fitU fitC
  have hi : fitIs n b = true ↔ (-pow2 (b - 1) ≤ n ∧ n < pow2 (b - 1)) := decide_eq_true_iff
  rcases hb with ⟨rfl, h1, h2⟩ | ⟨rfl, h1, h2⟩ | ⟨rfl, h1, h2⟩ | ⟨rfl, h1, h2⟩ | ⟨rfl, h1, h2⟩
  all_goals rw [h2] at hi
  · have m := fit_mask n 1 (by decide) (by decide)
    have mk : iShr .u64 18446744073709551615 (IntKind.i64.wrap (64 - 1)) = ((2 ^ 1 - 1 : Nat) : Int) := by decide
    have hs : iShr .i64 n (IntKind.i64.wrap (1 - 1)) = n / 1 := by show n.fdiv 1 = _; rw [Int.fdiv_eq_ediv_of_nonneg _ (by decide)]
    repeat' ((conv => whnf); first | with_reducible (first | refine go1 (fun j q h => ?_) fun h => ?_ | refine go2 ⟨rfl, rfl⟩ (fun h => ?_) fun j h => ?_ | refine go2 ?_ (fun h => ?_) fun j h => ?_ | refine goQ ?_ (fun h => ?_) fun h => ?_) | apply go3 | apply go4 | apply go5 | ((first | apply go6 | apply go7 | apply go8 | apply go9 | apply goA) <;> intro h) | with_reducible (first | refine IdxK.mk _ rfl ?_ | refine goB ?_ fun hc => ?_ | refine goC ?_ fun hc => ?_ | refine goD ?_ fun hc => ?_ | refine goE ?_ fun hc => ?_ | apply goF | apply goG | refine goH ?_ fun b hb => ?_) | apply goI | apply goJ | apply goK | apply goL | apply goM | apply goN | apply goO | with_reducible refine goP ?_)
    all_goals try conv => whnf
    all_goals try (refine Side.mk ?_; try dsimp only)
    all_goals (try simp only [hs] at *)
    all_goals first | refine stay ?_ | trivial | omega | (simp (discharger := omega) only [wR]; omega) | (simp only [lnS]; omega) | (simp (discharger := omega) [-List.getD_eq_getElem?_getD, wR] <;> omega) | skip
    all_goals first
      | (exfalso; omega)
      | rw [if_pos (hi.2 ⟨by omega, by omega⟩), if_pos (hi.2 ⟨by omega, by omega⟩), h1]
      | rw [if_neg (fun q => by have := hi.1 q; omega), if_neg (fun q => by have := hi.1 q; omega)]
    all_goals
      refine EndP.mk [] ?_ <;> (repeat' first | trivial | rfl | exact eqS _ _ | apply andI | apply eqA | apply eqB | apply eqC | apply eqD | apply eqE | apply eqF | apply eqG | apply eqH | apply eqI)
    all_goals (rw [mk, m]; rfl)
  · have m := fit_mask n 8 (by decide) (by decide)
    have mk : iShr .u64 18446744073709551615 (IntKind.i64.wrap (64 - 8)) = ((2 ^ 8 - 1 : Nat) : Int) := by decide
    have hs : iShr .i64 n (IntKind.i64.wrap (8 - 1)) = n / 128 := by show n.fdiv 128 = _; rw [Int.fdiv_eq_ediv_of_nonneg _ (by decide)]
    repeat' ((conv => whnf); first | with_reducible (first | refine go1 (fun j q h => ?_) fun h => ?_ | refine go2 ⟨rfl, rfl⟩ (fun h => ?_) fun j h => ?_ | refine go2 ?_ (fun h => ?_) fun j h => ?_ | refine goQ ?_ (fun h => ?_) fun h => ?_) | apply go3 | apply go4 | apply go5 | ((first | apply go6 | apply go7 | apply go8 | apply go9 | apply goA) <;> intro h) | with_reducible (first | refine IdxK.mk _ rfl ?_ | refine goB ?_ fun hc => ?_ | refine goC ?_ fun hc => ?_ | refine goD ?_ fun hc => ?_ | refine goE ?_ fun hc => ?_ | apply goF | apply goG | refine goH ?_ fun b hb => ?_) | apply goI | apply goJ | apply goK | apply goL | apply goM | apply goN | apply goO | with_reducible refine goP ?_)
    all_goals try conv => whnf
    all_goals try (refine Side.mk ?_; try dsimp only)
    all_goals (try simp only [hs] at *)
    all_goals first | refine stay ?_ | trivial | omega | (simp (discharger := omega) only [wR]; omega) | (simp only [lnS]; omega) | (simp (discharger := omega) [-List.getD_eq_getElem?_getD, wR] <;> omega) | skip
    all_goals first
      | (exfalso; omega)
      | rw [if_pos (hi.2 ⟨by omega, by omega⟩), if_pos (hi.2 ⟨by omega, by omega⟩), h1]
      | rw [if_neg (fun q => by have := hi.1 q; omega), if_neg (fun q => by have := hi.1 q; omega)]
    all_goals
      refine EndP.mk [] ?_ <;> (repeat' first | trivial | rfl | exact eqS _ _ | apply andI | apply eqA | apply eqB | apply eqC | apply eqD | apply eqE | apply eqF | apply eqG | apply eqH | apply eqI)
    all_goals (rw [mk, m]; rfl)
  · have m := fit_mask n 16 (by decide) (by decide)
    have mk : iShr .u64 18446744073709551615 (IntKind.i64.wrap (64 - 16)) = ((2 ^ 16 - 1 : Nat) : Int) := by decide
    have hs : iShr .i64 n (IntKind.i64.wrap (16 - 1)) = n / 32768 := by show n.fdiv 32768 = _; rw [Int.fdiv_eq_ediv_of_nonneg _ (by decide)]
    repeat' ((conv => whnf); first | with_reducible (first | refine go1 (fun j q h => ?_) fun h => ?_ | refine go2 ⟨rfl, rfl⟩ (fun h => ?_) fun j h => ?_ | refine go2 ?_ (fun h => ?_) fun j h => ?_ | refine goQ ?_ (fun h => ?_) fun h => ?_) | apply go3 | apply go4 | apply go5 | ((first | apply go6 | apply go7 | apply go8 | apply go9 | apply goA) <;> intro h) | with_reducible (first | refine IdxK.mk _ rfl ?_ | refine goB ?_ fun hc => ?_ | refine goC ?_ fun hc => ?_ | refine goD ?_ fun hc => ?_ | refine goE ?_ fun hc => ?_ | apply goF | apply goG | refine goH ?_ fun b hb => ?_) | apply goI | apply goJ | apply goK | apply goL | apply goM | apply goN | apply goO | with_reducible refine goP ?_)
    all_goals try conv => whnf
    all_goals try (refine Side.mk ?_; try dsimp only)
    all_goals (try simp only [hs] at *)
    all_goals first | refine stay ?_ | trivial | omega | (simp (discharger := omega) only [wR]; omega) | (simp only [lnS]; omega) | (simp (discharger := omega) [-List.getD_eq_getElem?_getD, wR] <;> omega) | skip
    all_goals first
      | (exfalso; omega)
      | rw [if_pos (hi.2 ⟨by omega, by omega⟩), if_pos (hi.2 ⟨by omega, by omega⟩), h1]
      | rw [if_neg (fun q => by have := hi.1 q; omega), if_neg (fun q => by have := hi.1 q; omega)]
    all_goals
      refine EndP.mk [] ?_ <;> (repeat' first | trivial | rfl | exact eqS _ _ | apply andI | apply eqA | apply eqB | apply eqC | apply eqD | apply eqE | apply eqF | apply eqG | apply eqH | apply eqI)
    all_goals (rw [mk, m]; rfl)
  · have m := fit_mask n 32 (by decide) (by decide)
    have mk : iShr .u64 18446744073709551615 (IntKind.i64.wrap (64 - 32)) = ((2 ^ 32 - 1 : Nat) : Int) := by decide
    have hs : iShr .i64 n (IntKind.i64.wrap (32 - 1)) = n / 2147483648 := by show n.fdiv 2147483648 = _; rw [Int.fdiv_eq_ediv_of_nonneg _ (by decide)]
    repeat' ((conv => whnf); first | with_reducible (first | refine go1 (fun j q h => ?_) fun h => ?_ | refine go2 ⟨rfl, rfl⟩ (fun h => ?_) fun j h => ?_ | refine go2 ?_ (fun h => ?_) fun j h => ?_ | refine goQ ?_ (fun h => ?_) fun h => ?_) | apply go3 | apply go4 | apply go5 | ((first | apply go6 | apply go7 | apply go8 | apply go9 | apply goA) <;> intro h) | with_reducible (first | refine IdxK.mk _ rfl ?_ | refine goB ?_ fun hc => ?_ | refine goC ?_ fun hc => ?_ | refine goD ?_ fun hc => ?_ | refine goE ?_ fun hc => ?_ | apply goF | apply goG | refine goH ?_ fun b hb => ?_) | apply goI | apply goJ | apply goK | apply goL | apply goM | apply goN | apply goO | with_reducible refine goP ?_)
    all_goals try conv => whnf
    all_goals try (refine Side.mk ?_; try dsimp only)
    all_goals (try simp only [hs] at *)
    all_goals first | refine stay ?_ | trivial | omega | (simp (discharger := omega) only [wR]; omega) | (simp only [lnS]; omega) | (simp (discharger := omega) [-List.getD_eq_getElem?_getD, wR] <;> omega) | skip
    all_goals first
      | (exfalso; omega)
      | rw [if_pos (hi.2 ⟨by omega, by omega⟩), if_pos (hi.2 ⟨by omega, by omega⟩), h1]
      | rw [if_neg (fun q => by have := hi.1 q; omega), if_neg (fun q => by have := hi.1 q; omega)]
    all_goals
      refine EndP.mk [] ?_ <;> (repeat' first | trivial | rfl | exact eqS _ _ | apply andI | apply eqA | apply eqB | apply eqC | apply eqD | apply eqE | apply eqF | apply eqG | apply eqH | apply eqI)
    all_goals (rw [mk, m]; rfl)
  · have m := fit_mask n 64 (by decide) (by decide)
    have mk : iShr .u64 18446744073709551615 (IntKind.i64.wrap (64 - 64)) = ((2 ^ 64 - 1 : Nat) : Int) := by decide
    have hs : iShr .i64 n (IntKind.i64.wrap (64 - 1)) = n / 9223372036854775808 := by show n.fdiv 9223372036854775808 = _; rw [Int.fdiv_eq_ediv_of_nonneg _ (by decide)]
    repeat' ((conv => whnf); first | with_reducible (first | refine go1 (fun j q h => ?_) fun h => ?_ | refine go2 ⟨rfl, rfl⟩ (fun h => ?_) fun j h => ?_ | refine go2 ?_ (fun h => ?_) fun j h => ?_ | refine goQ ?_ (fun h => ?_) fun h => ?_) | apply go3 | apply go4 | apply go5 | ((first | apply go6 | apply go7 | apply go8 | apply go9 | apply goA) <;> intro h) | with_reducible (first | refine IdxK.mk _ rfl ?_ | refine goB ?_ fun hc => ?_ | refine goC ?_ fun hc => ?_ | refine goD ?_ fun hc => ?_ | refine goE ?_ fun hc => ?_ | apply goF | apply goG | refine goH ?_ fun b hb => ?_) | apply goI | apply goJ | apply goK | apply goL | apply goM | apply goN | apply goO | with_reducible refine goP ?_)
    all_goals try conv => whnf
    all_goals try (refine Side.mk ?_; try dsimp only)
    all_goals (try simp only [hs] at *)
    all_goals first | refine stay ?_ | trivial | omega | (simp (discharger := omega) only [wR]; omega) | (simp only [lnS]; omega) | (simp (discharger := omega) [-List.getD_eq_getElem?_getD, wR] <;> omega) | skip
    all_goals first
      | (exfalso; omega)
      | rw [if_pos (hi.2 ⟨by omega, by omega⟩), if_pos (hi.2 ⟨by omega, by omega⟩), h1]
      | rw [if_neg (fun q => by have := hi.1 q; omega), if_neg (fun q => by have := hi.1 q; omega)]
    all_goals
      refine EndP.mk [] ?_ <;> (repeat' first | trivial | rfl | exact eqS _ _ | apply andI | apply eqA | apply eqB | apply eqC | apply eqD | apply eqE | apply eqF | apply eqG | apply eqH | apply eqI)
    all_goals (rw [mk, m]; rfl)
def sm_wFit : Sm := fun args σ => match args, σ with
  | [.int .i64 n, .int .i64 b], [] => some (b = 1 ∨ b = 8 ∨ b = 16 ∨ b = 32 ∨ b = 64, .tuple [.int .u64 (fitU n b), .int .i64 (fitC n b)], none)
  | _, _ => none
theorem k_wFit : SOK 38 sm_wFit := by
  intro args sg pre x r he hp
  unfold sm_wFit at he
  split at he <;> cases he
  · exact f_wFit_1 (hp := hp) ..
theorem f_r02Fit_1 (n b : Int) (hp : b = 1 ∨ b = 8 ∨ b = 16 ∨ b = 32 ∨ b = 64) : OK 46 ([.int .i64 n, .int .i64 b]) ([]) (.tuple [.int .u64 (fitU n b), .int .i64 (fitC n b)]) (none) := by
  refine funOK_of_vc (C := cx [(68, sm_r02power), (69, sm_r02Wide)]) (good ⟨k_r02power, k_r02Wide, trivial⟩) (fn := Tryd.f46) rfl rfl rfl rfl fun hw hs => ?_
  have hn : -9223372036854775808 ≤ n ∧ n ≤ 9223372036854775807 := hw.1
  have hb := pow_b hp
  have hi : fitIs n b = true ↔ (-pow2 (b - 1) ≤ n ∧ n < pow2 (b - 1)) := decide_eq_true_iff
  have hw64 : IntKind.u64.wrap n = n % 18446744073709551616 := wu64 n
  have ht := Int.tmod_eq_emod_of_nonneg (a := n % 18446744073709551616) (b := pow2 b) (by omega)
  have hW : ∀ u, wideV u b = if u % pow2 b ≥ pow2 (b - 1) then u % pow2 b - pow2 b else u % pow2 b := fun _ => rfl
  rcases hb with ⟨rfl, h1, h2⟩ | ⟨rfl, h1, h2⟩ | ⟨rfl, h1, h2⟩ | ⟨rfl, h1, h2⟩ | ⟨rfl, h1, h2⟩
  all_goals rw [h2] at hi
  all_goals rw [h1] at ht
  all_goals rw [h1, h2] at hW
  · have hk : wideV (n % 18446744073709551616 % 2) 1 = n ↔ fitIs n 1 = true := by
      rw [hi, hW]; split <;> omega
    unfold fitU fitC
    rw [h1]
    repeat' ((conv => whnf); first | with_reducible (first | refine go1 (fun j q h => ?_) fun h => ?_ | refine go2 ⟨rfl, rfl⟩ (fun h => ?_) fun j h => ?_ | refine go2 ?_ (fun h => ?_) fun j h => ?_ | refine goQ ?_ (fun h => ?_) fun h => ?_) | apply go3 | apply go4 | apply go5 | ((first | apply go6 | apply go7 | apply go8 | apply go9 | apply goA) <;> intro h) | with_reducible (first | refine IdxK.mk _ rfl ?_ | refine goB ?_ fun hc => ?_ | refine goC ?_ fun hc => ?_ | refine goD ?_ fun hc => ?_ | refine goE ?_ fun hc => ?_ | apply goF | apply goG | refine goH ?_ fun b hb => ?_) | apply goI | apply goJ | apply goK | apply goL | apply goM | apply goN | apply goO | with_reducible refine goP ?_)
    all_goals try conv => whnf
    all_goals try (refine Side.mk ?_; try dsimp only)
    all_goals (try simp only [hw64, h1, ht] at *)
    all_goals first | refine stay ?_ | trivial | omega | (simp (discharger := omega) only [wR]; omega) | (simp only [lnS]; omega) | (simp (discharger := omega) [-List.getD_eq_getElem?_getD, wR] <;> omega) | skip
    all_goals first
      | rw [if_pos (hk.1 (by assumption)), if_pos (hk.1 (by assumption))]
      | rw [if_neg (fun q => absurd (hk.2 q) (by assumption)), if_neg (fun q => absurd (hk.2 q) (by assumption))]
    all_goals
      refine EndP.mk [] ?_ <;> (repeat' first | trivial | rfl | exact eqS _ _ | apply andI | apply eqA | apply eqB | apply eqC | apply eqD | apply eqE | apply eqF | apply eqG | apply eqH | apply eqI)
    all_goals omega
  · have hk : wideV (n % 18446744073709551616 % 256) 8 = n ↔ fitIs n 8 = true := by
      rw [hi, hW]; split <;> omega
    unfold fitU fitC
    rw [h1]
    repeat' ((conv => whnf); first | with_reducible (first | refine go1 (fun j q h => ?_) fun h => ?_ | refine go2 ⟨rfl, rfl⟩ (fun h => ?_) fun j h => ?_ | refine go2 ?_ (fun h => ?_) fun j h => ?_ | refine goQ ?_ (fun h => ?_) fun h => ?_) | apply go3 | apply go4 | apply go5 | ((first | apply go6 | apply go7 | apply go8 | apply go9 | apply goA) <;> intro h) | with_reducible (first | refine IdxK.mk _ rfl ?_ | refine goB ?_ fun hc => ?_ | refine goC ?_ fun hc => ?_ | refine goD ?_ fun hc => ?_ | refine goE ?_ fun hc => ?_ | apply goF | apply goG | refine goH ?_ fun b hb => ?_) | apply goI | apply goJ | apply goK | apply goL | apply goM | apply goN | apply goO | with_reducible refine goP ?_)
    all_goals try conv => whnf
    all_goals try (refine Side.mk ?_; try dsimp only)
    all_goals (try simp only [hw64, h1, ht] at *)
    all_goals first | refine stay ?_ | trivial | omega | (simp (discharger := omega) only [wR]; omega) | (simp only [lnS]; omega) | (simp (discharger := omega) [-List.getD_eq_getElem?_getD, wR] <;> omega) | skip
    all_goals first
      | rw [if_pos (hk.1 (by assumption)), if_pos (hk.1 (by assumption))]
      | rw [if_neg (fun q => absurd (hk.2 q) (by assumption)), if_neg (fun q => absurd (hk.2 q) (by assumption))]
    all_goals
      refine EndP.mk [] ?_ <;> (repeat' first | trivial | rfl | exact eqS _ _ | apply andI | apply eqA | apply eqB | apply eqC | apply eqD | apply eqE | apply eqF | apply eqG | apply eqH | apply eqI)
    all_goals omega
  · have hk : wideV (n % 18446744073709551616 % 65536) 16 = n ↔ fitIs n 16 = true := by
      rw [hi, hW]; split <;> omega
    unfold fitU fitC
    rw [h1]
    repeat' ((conv => whnf); first | with_reducible (first | refine go1 (fun j q h => ?_) fun h => ?_ | refine go2 ⟨rfl, rfl⟩ (fun h => ?_) fun j h => ?_ | refine go2 ?_ (fun h => ?_) fun j h => ?_ | refine goQ ?_ (fun h => ?_) fun h => ?_) | apply go3 | apply go4 | apply go5 | ((first | apply go6 | apply go7 | apply go8 | apply go9 | apply goA) <;> intro h) | with_reducible (first | refine IdxK.mk _ rfl ?_ | refine goB ?_ fun hc => ?_ | refine goC ?_ fun hc => ?_ | refine goD ?_ fun hc => ?_ | refine goE ?_ fun hc => ?_ | apply goF | apply goG | refine goH ?_ fun b hb => ?_) | apply goI | apply goJ | apply goK | apply goL | apply goM | apply goN | apply goO | with_reducible refine goP ?_)
    all_goals try conv => whnf
    all_goals try (refine Side.mk ?_; try dsimp only)
    all_goals (try simp only [hw64, h1, ht] at *)
    all_goals first | refine stay ?_ | trivial | omega | (simp (discharger := omega) only [wR]; omega) | (simp only [lnS]; omega) | (simp (discharger := omega) [-List.getD_eq_getElem?_getD, wR] <;> omega) | skip
    all_goals first
      | rw [if_pos (hk.1 (by assumption)), if_pos (hk.1 (by assumption))]
      | rw [if_neg (fun q => absurd (hk.2 q) (by assumption)), if_neg (fun q => absurd (hk.2 q) (by assumption))]
    all_goals
      refine EndP.mk [] ?_ <;> (repeat' first | trivial | rfl | exact eqS _ _ | apply andI | apply eqA | apply eqB | apply eqC | apply eqD | apply eqE | apply eqF | apply eqG | apply eqH | apply eqI)
    all_goals omega
  · have hk : wideV (n % 18446744073709551616 % 4294967296) 32 = n ↔ fitIs n 32 = true := by
      rw [hi, hW]; split <;> omega
    unfold fitU fitC
    rw [h1]
    repeat' ((conv => whnf); first | with_reducible (first | refine go1 (fun j q h => ?_) fun h => ?_ | refine go2 ⟨rfl, rfl⟩ (fun h => ?_) fun j h => ?_ | refine go2 ?_ (fun h => ?_) fun j h => ?_ | refine goQ ?_ (fun h => ?_) fun h => ?_) | apply go3 | apply go4 | apply go5 | ((first | apply go6 | apply go7 | apply go8 | apply go9 | apply goA) <;> intro h) | with_reducible (first | refine IdxK.mk _ rfl ?_ | refine goB ?_ fun hc => ?_ | refine goC ?_ fun hc => ?_ | refine goD ?_ fun hc => ?_ | refine goE ?_ fun hc => ?_ | apply goF | apply goG | refine goH ?_ fun b hb => ?_) | apply goI | apply goJ | apply goK | apply goL | apply goM | apply goN | apply goO | with_reducible refine goP ?_)
    all_goals try conv => whnf
    all_goals try (refine Side.mk ?_; try dsimp only)
    all_goals (try simp only [hw64, h1, ht] at *)
    all_goals first | refine stay ?_ | trivial | omega | (simp (discharger := omega) only [wR]; omega) | (simp only [lnS]; omega) | (simp (discharger := omega) [-List.getD_eq_getElem?_getD, wR] <;> omega) | skip
    all_goals first
      | rw [if_pos (hk.1 (by assumption)), if_pos (hk.1 (by assumption))]
      | rw [if_neg (fun q => absurd (hk.2 q) (by assumption)), if_neg (fun q => absurd (hk.2 q) (by assumption))]
    all_goals
      refine EndP.mk [] ?_ <;> (repeat' first | trivial | rfl | exact eqS _ _ | apply andI | apply eqA | apply eqB | apply eqC | apply eqD | apply eqE | apply eqF | apply eqG | apply eqH | apply eqI)
    all_goals omega
  · have hk : wideV (n % 18446744073709551616) 64 = n ↔ fitIs n 64 = true := by
      rw [hi, hW]; split <;> omega
    unfold fitU fitC
    rw [h1]
    repeat' ((conv => whnf); first | with_reducible (first | refine go1 (fun j q h => ?_) fun h => ?_ | refine go2 ⟨rfl, rfl⟩ (fun h => ?_) fun j h => ?_ | refine go2 ?_ (fun h => ?_) fun j h => ?_ | refine goQ ?_ (fun h => ?_) fun h => ?_) | apply go3 | apply go4 | apply go5 | ((first | apply go6 | apply go7 | apply go8 | apply go9 | apply goA) <;> intro h) | with_reducible (first | refine IdxK.mk _ rfl ?_ | refine goB ?_ fun hc => ?_ | refine goC ?_ fun hc => ?_ | refine goD ?_ fun hc => ?_ | refine goE ?_ fun hc => ?_ | apply goF | apply goG | refine goH ?_ fun b hb => ?_) | apply goI | apply goJ | apply goK | apply goL | apply goM | apply goN | apply goO | with_reducible refine goP ?_)
    all_goals try conv => whnf
    all_goals try (refine Side.mk ?_; try dsimp only)
    all_goals (try simp only [hw64, h1, ht] at *)
    all_goals first | refine stay ?_ | trivial | omega | (simp (discharger := omega) only [wR]; omega) | (simp only [lnS]; omega) | (simp (discharger := omega) [-List.getD_eq_getElem?_getD, wR] <;> omega) | skip
    all_goals first
      | rw [if_pos (hk.1 (by assumption)), if_pos (hk.1 (by assumption))]
      | rw [if_neg (fun q => absurd (hk.2 q) (by assumption)), if_neg (fun q => absurd (hk.2 q) (by assumption))]
    all_goals
      refine EndP.mk [] ?_ <;> (repeat' first | trivial | rfl | exact eqS _ _ | apply andI | apply eqA | apply eqB | apply eqC | apply eqD | apply eqE | apply eqF | apply eqG | apply eqH | apply eqI)
    all_goals omega
def sm_r02Fit : Sm := fun args σ => match args, σ with
  | [.int .i64 n, .int .i64 b], [] => some (b = 1 ∨ b = 8 ∨ b = 16 ∨ b = 32 ∨ b = 64, .tuple [.int .u64 (fitU n b), .int .i64 (fitC n b)], none)
  | _, _ => none
theorem k_r02Fit : SOK 46 sm_r02Fit := by
  intro args sg pre x r he hp
  unfold sm_r02Fit at he
  split at he <;> cases he
  · exact f_r02Fit_1 (hp := hp) ..
end Go.Proofs.YtcgjkjabcdeagaaDoor
