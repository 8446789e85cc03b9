/-
  Heads of fields and of lists: what the program lays, and what the document says.
-/
import Derived.Test.YtcgjkjabcdeagaaDoorCWb
set_option linter.unusedSimpArgs false
set_option linter.unusedVariables false
set_option maxHeartbeats 4000000
namespace Go.Proofs.YtcgjkjabcdeagaaDoor
open Go Go.VG
set_option maxRecDepth 100000
def isK (k : UInt8) : Bool := decide (1 ≤ k.toNat ∧ k.toNat ≤ 12)
def pfield (last id : Int) (k : UInt8) : List UInt8 :=
  if ¬ (1 ≤ k.toNat ∧ k.toNat ≤ 12) ∨ id < -32768 ∨ id > 32767 then []
  else if last ≥ -32768 ∧ last < id ∧ id - last ≤ 15 then [byte (16 * (id - last) + k.toNat)]
  else k :: vput (zigN id)
def plist (n : Int) (k : UInt8) : List UInt8 :=
  if ¬ (1 ≤ k.toNat ∧ k.toNat ≤ 12) ∨ n < 0 ∨ n > 2147483647 then []
  else if n < 15 then [byte (16 * n + k.toNat)]
  else byte (240 + k.toNat) :: vput n.toNat
theorem isK_t {k : UInt8} : isK k = true ↔ (1 ≤ k.toNat ∧ k.toNat ≤ 12) := decide_eq_true_iff
theorem isK_f {k : UInt8} : isK k = false ↔ ¬ (1 ≤ k.toNat ∧ k.toNat ≤ 12) := decide_eq_false_iff_not
def sameK (a b : UInt8) : Bool := decide (a.toNat = b.toNat ∨ ((1 ≤ a.toNat ∧ a.toNat ≤ 2) ∧ 1 ≤ b.toNat ∧ b.toNat ≤ 2))
theorem f_cIs_1 (k : UInt8) (hp : True) : OK 55 ([bv k]) ([]) (.bool (isK k)) (none) := by
  refine funOK_of_vc (C := cx []) (good trivial) (fn := Tryd.f55) rfl rfl rfl rfl fun hw hs => ?_
  have hk : k.toNat < 256 := k.toNat_lt
  repeat' ((conv => whnf); first | with_reducible (first | refine go1 (fun j q h => ?_) fun h => ?_ | refine go2 ⟨rfl, rfl⟩ (fun h => ?_) fun j h => ?_ | refine go2 ?_ (fun h => ?_) fun j h => ?_ | refine goQ ?_ (fun h => ?_) fun h => ?_) | apply go3 | apply go4 | apply go5 | ((first | apply go6 | apply go7 | apply go8 | apply go9 | apply goA) <;> intro h) | with_reducible (first | refine IdxK.mk _ rfl ?_ | refine goB ?_ fun hc => ?_ | refine goC ?_ fun hc => ?_ | refine goD ?_ fun hc => ?_ | refine goE ?_ fun hc => ?_ | apply goF | apply goG | refine goH ?_ fun b hb => ?_) | apply goI | apply goJ | apply goK | apply goL | apply goM | apply goN | apply goO | with_reducible refine goP ?_)
  all_goals try conv => whnf
  all_goals try (refine Side.mk ?_; try dsimp only)
  all_goals first | refine stay ?_ | trivial | omega | (simp (discharger := omega) only [wR]; omega) | (simp only [lnS]; omega) | (simp (discharger := omega) [-List.getD_eq_getElem?_getD, wR] <;> omega) | skip
  all_goals first
    | exact ⟨by omega, by omega⟩
    | (show EndP _ _ _ _ _ _
       refine EndP.mk [] ?_ <;> (repeat' first | trivial | rfl | exact eqS _ _ | apply andI | apply eqA | apply eqB | apply eqC | apply eqD | apply eqE | apply eqF | apply eqG | apply eqH | apply eqI)
      )
  all_goals (try simp only [cond_true, cond_false])
  all_goals first
    | (rw [Bool.eq_iff_iff]; simp only [isK, sameK, decide_eq_true_iff, beq_iff_eq, reduceCtorEq, true_iff, false_iff, iff_true, iff_false]; omega)
def sm_cIs : Sm := fun args σ => match args, σ with
  | [.int .u8 n_k], [] => some ((0 ≤ n_k ∧ n_k ≤ 255) ∧ (True), .bool (isK (byte n_k)), none)
  | _, _ => none
theorem k_cIs : SOK 55 sm_cIs := by
  intro args sg pre x r he hp
  unfold sm_cIs at he
  split at he <;> cases he
  · rw [viewB (hp).1]; exact f_cIs_1 (hp := hp.2) ..
theorem f_r20Is_1 (k : UInt8) (hp : True) : OK 47 ([bv k]) ([]) (.bool (isK k)) (none) := by
  refine funOK_of_vc (C := cx []) (good trivial) (fn := Tryd.f47) rfl rfl rfl rfl fun hw hs => ?_
  have hk : k.toNat < 256 := k.toNat_lt
  repeat' ((conv => whnf); first | with_reducible (first | refine go1 (fun j q h => ?_) fun h => ?_ | refine go2 ⟨rfl, rfl⟩ (fun h => ?_) fun j h => ?_ | refine go2 ?_ (fun h => ?_) fun j h => ?_ | refine goQ ?_ (fun h => ?_) fun h => ?_) | apply go3 | apply go4 | apply go5 | ((first | apply go6 | apply go7 | apply go8 | apply go9 | apply goA) <;> intro h) | with_reducible (first | refine IdxK.mk _ rfl ?_ | refine goB ?_ fun hc => ?_ | refine goC ?_ fun hc => ?_ | refine goD ?_ fun hc => ?_ | refine goE ?_ fun hc => ?_ | apply goF | apply goG | refine goH ?_ fun b hb => ?_) | apply goI | apply goJ | apply goK | apply goL | apply goM | apply goN | apply goO | with_reducible refine goP ?_)
  all_goals try conv => whnf
  all_goals try (refine Side.mk ?_; try dsimp only)
  all_goals first | refine stay ?_ | trivial | omega | (simp (discharger := omega) only [wR]; omega) | (simp only [lnS]; omega) | (simp (discharger := omega) [-List.getD_eq_getElem?_getD, wR] <;> omega) | skip
  all_goals first
    | exact ⟨by omega, by omega⟩
    | (show EndP _ _ _ _ _ _
       refine EndP.mk [] ?_ <;> (repeat' first | trivial | rfl | exact eqS _ _ | apply andI | apply eqA | apply eqB | apply eqC | apply eqD | apply eqE | apply eqF | apply eqG | apply eqH | apply eqI)
      )
  all_goals (try simp only [cond_true, cond_false])
  all_goals first
    | (rw [Bool.eq_iff_iff]; simp only [isK, sameK, decide_eq_true_iff, beq_iff_eq, reduceCtorEq, true_iff, false_iff, iff_true, iff_false]; omega)
def sm_r20Is : Sm := fun args σ => match args, σ with
  | [.int .u8 n_k], [] => some ((0 ≤ n_k ∧ n_k ≤ 255) ∧ (True), .bool (isK (byte n_k)), none)
  | _, _ => none
theorem k_r20Is : SOK 47 sm_r20Is := by
  intro args sg pre x r he hp
  unfold sm_r20Is at he
  split at he <;> cases he
  · rw [viewB (hp).1]; exact f_r20Is_1 (hp := hp.2) ..
theorem f_r20number_1 (n : Int) (hp : True) : OK 48 ([.int .i64 n]) ([]) (.bool (decide (-32768 ≤ n ∧ n ≤ 32767))) (none) := by
  refine funOK_of_vc (C := cx []) (good trivial) (fn := Tryd.f48) rfl rfl rfl rfl fun hw hs => ?_
  repeat' ((conv => whnf); first | with_reducible (first | refine go1 (fun j q h => ?_) fun h => ?_ | refine go2 ⟨rfl, rfl⟩ (fun h => ?_) fun j h => ?_ | refine go2 ?_ (fun h => ?_) fun j h => ?_ | refine goQ ?_ (fun h => ?_) fun h => ?_) | apply go3 | apply go4 | apply go5 | ((first | apply go6 | apply go7 | apply go8 | apply go9 | apply goA) <;> intro h) | with_reducible (first | refine IdxK.mk _ rfl ?_ | refine goB ?_ fun hc => ?_ | refine goC ?_ fun hc => ?_ | refine goD ?_ fun hc => ?_ | refine goE ?_ fun hc => ?_ | apply goF | apply goG | refine goH ?_ fun b hb => ?_) | apply goI | apply goJ | apply goK | apply goL | apply goM | apply goN | apply goO | with_reducible refine goP ?_)
  all_goals try conv => whnf
  all_goals try (refine Side.mk ?_; try dsimp only)
  all_goals first | refine stay ?_ | trivial | omega | (simp (discharger := omega) only [wR]; omega) | (simp only [lnS]; omega) | (simp (discharger := omega) [-List.getD_eq_getElem?_getD, wR] <;> omega) | skip
  all_goals first
    | exact ⟨by omega, by omega⟩
    | (show EndP _ _ _ _ _ _
       refine EndP.mk [] ?_ <;> (repeat' first | trivial | rfl | exact eqS _ _ | apply andI | apply eqA | apply eqB | apply eqC | apply eqD | apply eqE | apply eqF | apply eqG | apply eqH | apply eqI)
      )
  all_goals (try simp only [cond_true, cond_false])
  all_goals first
    | (rw [Bool.eq_iff_iff]; simp only [isK, sameK, decide_eq_true_iff, beq_iff_eq, reduceCtorEq, true_iff, false_iff, iff_true, iff_false]; omega)
def sm_r20number : Sm := fun args σ => match args, σ with
  | [.int .i64 n], [] => some (True, .bool (decide (-32768 ≤ n ∧ n ≤ 32767)), none)
  | _, _ => none
theorem k_r20number : SOK 48 sm_r20number := by
  intro args sg pre x r he hp
  unfold sm_r20number at he
  split at he <;> cases he
  · exact f_r20number_1 (hp := hp) ..
theorem f_r20bytes_1 (k : Int) (hp : True) : OK 49 ([.int .u8 k]) ([]) (.str [byte k]) (none) := by
  refine funOK_of_vc (C := cx []) (good trivial) (fn := Tryd.f49) rfl rfl rfl rfl fun hw hs => ?_
  repeat' ((conv => whnf); first | with_reducible (first | refine go1 (fun j q h => ?_) fun h => ?_ | refine go2 ⟨rfl, rfl⟩ (fun h => ?_) fun j h => ?_ | refine go2 ?_ (fun h => ?_) fun j h => ?_ | refine goQ ?_ (fun h => ?_) fun h => ?_) | apply go3 | apply go4 | apply go5 | ((first | apply go6 | apply go7 | apply go8 | apply go9 | apply goA) <;> intro h) | with_reducible (first | refine IdxK.mk _ rfl ?_ | refine goB ?_ fun hc => ?_ | refine goC ?_ fun hc => ?_ | refine goD ?_ fun hc => ?_ | refine goE ?_ fun hc => ?_ | apply goF | apply goG | refine goH ?_ fun b hb => ?_) | apply goI | apply goJ | apply goK | apply goL | apply goM | apply goN | apply goO | with_reducible refine goP ?_)
  all_goals try conv => whnf
  all_goals try (refine Side.mk ?_; try dsimp only)
  all_goals first | refine stay ?_ | trivial | omega | (simp (discharger := omega) only [wR]; omega) | (simp only [lnS]; omega) | (simp (discharger := omega) [-List.getD_eq_getElem?_getD, wR] <;> omega) | skip
  all_goals first
    | (show EndP _ _ _ _ _ _
       refine EndP.mk [] ?_ <;> (repeat' first | trivial | rfl | exact eqS _ _ | apply andI | apply eqA | apply eqB | apply eqC | apply eqD | apply eqE | apply eqF | apply eqG | apply eqH | apply eqI)
      )
    | exact hw.1
def sm_r20bytes : Sm := fun args σ => match args, σ with
  | [.int .u8 k], [] => some (True, .str [byte k], none)
  | _, _ => none
theorem k_r20bytes : SOK 49 sm_r20bytes := by
  intro args sg pre x r he hp
  unfold sm_r20bytes at he
  split at he <;> cases he
  · exact f_r20bytes_1 (hp := hp) ..
theorem f_cSame_1 (a b : UInt8) (hp : True) : OK 64 ([bv a, bv b]) ([]) (.bool (sameK a b)) (none) := by
  refine funOK_of_vc (C := cx []) (good trivial) (fn := Tryd.f64) rfl rfl rfl rfl fun hw hs => ?_
  have hk : a.toNat < 256 := a.toNat_lt
  have hk2 : b.toNat < 256 := b.toNat_lt
  repeat' ((conv => whnf); first | with_reducible (first | refine go1 (fun j q h => ?_) fun h => ?_ | refine go2 ⟨rfl, rfl⟩ (fun h => ?_) fun j h => ?_ | refine go2 ?_ (fun h => ?_) fun j h => ?_ | refine goQ ?_ (fun h => ?_) fun h => ?_) | apply go3 | apply go4 | apply go5 | ((first | apply go6 | apply go7 | apply go8 | apply go9 | apply goA) <;> intro h) | with_reducible (first | refine IdxK.mk _ rfl ?_ | refine goB ?_ fun hc => ?_ | refine goC ?_ fun hc => ?_ | refine goD ?_ fun hc => ?_ | refine goE ?_ fun hc => ?_ | apply goF | apply goG | refine goH ?_ fun b hb => ?_) | apply goI | apply goJ | apply goK | apply goL | apply goM | apply goN | apply goO | with_reducible refine goP ?_)
  all_goals try conv => whnf
  all_goals try (refine Side.mk ?_; try dsimp only)
  all_goals first | refine stay ?_ | trivial | omega | (simp (discharger := omega) only [wR]; omega) | (simp only [lnS]; omega) | (simp (discharger := omega) [-List.getD_eq_getElem?_getD, wR] <;> omega) | skip
  all_goals first
    | exact ⟨by omega, by omega⟩
    | (show EndP _ _ _ _ _ _
       refine EndP.mk [] ?_ <;> (repeat' first | trivial | rfl | exact eqS _ _ | apply andI | apply eqA | apply eqB | apply eqC | apply eqD | apply eqE | apply eqF | apply eqG | apply eqH | apply eqI)
      )
  all_goals (try simp only [cond_true, cond_false])
  all_goals first
    | (rw [Bool.eq_iff_iff]; simp only [isK, sameK, decide_eq_true_iff, beq_iff_eq, reduceCtorEq, true_iff, false_iff, iff_true, iff_false]; omega)
def sm_cSame : Sm := fun args σ => match args, σ with
  | [.int .u8 n_a, .int .u8 n_b], [] => some ((0 ≤ n_b ∧ n_b ≤ 255) ∧ ((0 ≤ n_a ∧ n_a ≤ 255) ∧ (True)), .bool (sameK (byte n_a) (byte n_b)), none)
  | _, _ => none
theorem k_cSame : SOK 64 sm_cSame := by
  intro args sg pre x r he hp
  unfold sm_cSame at he
  split at he <;> cases he
  · rw [viewB (hp).1]; rw [viewB (hp.2).1]; exact f_cSame_1 (hp := hp.2.2) ..
theorem f_r23same_1 (a b : UInt8) (hp : True) : OK 24 ([bv a, bv b]) ([]) (.bool (sameK a b)) (none) := by
  refine funOK_of_vc (C := cx []) (good trivial) (fn := Tryd.f24) rfl rfl rfl rfl fun hw hs => ?_
  have hk : a.toNat < 256 := a.toNat_lt
  have hk2 : b.toNat < 256 := b.toNat_lt
  repeat' ((conv => whnf); first | with_reducible (first | refine go1 (fun j q h => ?_) fun h => ?_ | refine go2 ⟨rfl, rfl⟩ (fun h => ?_) fun j h => ?_ | refine go2 ?_ (fun h => ?_) fun j h => ?_ | refine goQ ?_ (fun h => ?_) fun h => ?_) | apply go3 | apply go4 | apply go5 | ((first | apply go6 | apply go7 | apply go8 | apply go9 | apply goA) <;> intro h) | with_reducible (first | refine IdxK.mk _ rfl ?_ | refine goB ?_ fun hc => ?_ | refine goC ?_ fun hc => ?_ | refine goD ?_ fun hc => ?_ | refine goE ?_ fun hc => ?_ | apply goF | apply goG | refine goH ?_ fun b hb => ?_) | apply goI | apply goJ | apply goK | apply goL | apply goM | apply goN | apply goO | with_reducible refine goP ?_)
  all_goals try conv => whnf
  all_goals try (refine Side.mk ?_; try dsimp only)
  all_goals first | refine stay ?_ | trivial | omega | (simp (discharger := omega) only [wR]; omega) | (simp only [lnS]; omega) | (simp (discharger := omega) [-List.getD_eq_getElem?_getD, wR] <;> omega) | skip
  all_goals first
    | exact ⟨by omega, by omega⟩
    | (show EndP _ _ _ _ _ _
       refine EndP.mk [] ?_ <;> (repeat' first | trivial | rfl | exact eqS _ _ | apply andI | apply eqA | apply eqB | apply eqC | apply eqD | apply eqE | apply eqF | apply eqG | apply eqH | apply eqI)
      )
  all_goals (try simp only [cond_true, cond_false])
  all_goals first
    | (rw [Bool.eq_iff_iff]; simp only [isK, sameK, decide_eq_true_iff, beq_iff_eq, reduceCtorEq, true_iff, false_iff, iff_true, iff_false]; omega)
def sm_r23same : Sm := fun args σ => match args, σ with
  | [.int .u8 n_a, .int .u8 n_b], [] => some ((0 ≤ n_b ∧ n_b ≤ 255) ∧ ((0 ≤ n_a ∧ n_a ≤ 255) ∧ (True)), .bool (sameK (byte n_a) (byte n_b)), none)
  | _, _ => none
theorem k_r23same : SOK 24 sm_r23same := by
  intro args sg pre x r he hp
  unfold sm_r23same at he
  split at he <;> cases he
  · rw [viewB (hp).1]; rw [viewB (hp.2).1]; exact f_r23same_1 (hp := hp.2.2) ..
theorem head_u8 : ∀ s : Nat, s < 16 → ∀ k : Nat, k < 13 → iOr .u8 (iShl .u8 (s : Int) 4) k = ((16 * s + k : Nat) : Int) := by decide
theorem head_240 : ∀ k : Nat, k < 13 → iOr .u8 240 k = ((240 + k : Nat) : Int) := by decide
theorem head_b {d e : Int} {k : Nat} (he : d = e) (h : 0 ≤ e ∧ e < 16) (hk : k ≤ 12) : iOr .u8 (iShl .u8 (IntKind.u8.wrap d) 4) (k : Int) = ((byte (16 * e + k)).toNat : Int) := by
  subst he
  obtain ⟨n, rfl⟩ := Int.eq_ofNat_of_zero_le h.1
  rw [show IntKind.u8.wrap (n : Int) = n by rw [wu8]; omega, head_u8 n (by omega) k (by omega), byte_toNat (by omega)]
  omega
theorem head_c {k : Nat} (hk : k ≤ 12) : iOr .u8 240 (k : Int) = ((byte (240 + k)).toNat : Int) := by
  rw [head_240 k (by omega), byte_toNat (by omega)]; omega
theorem f_cPutField_1 (l : List V) (last id : Int) (k : UInt8) (hp : l.length ≤ 1900000000) : OK 65 ([.buf 0, .int .i64 last, .int .i64 id, bv k]) ([.buf 1 0 l]) (.buf 1) (some [.buf 1 0 l, .buf 1 0 (l ++ bl (pfield last id k)), .dead]) := by
  refine funOK_of_vc (C := cx [(55, sm_cIs), (40, sm_wZig), (39, sm_vPut)]) (good ⟨k_cIs, k_wZig, k_vPut, trivial⟩) (fn := Tryd.f65) rfl rfl rfl rfl fun hw hs => ?_
  have hk : k.toNat < 256 := k.toNat_lt
  have hkk : byte k.toNat = k := byte_of _
  have hi : -9223372036854775808 ≤ id ∧ id ≤ 9223372036854775807 := hw.2.2.1
  have hla : -9223372036854775808 ≤ last ∧ last ≤ 9223372036854775807 := hw.2.1
  have hq : -32768 ≤ id → -32768 ≤ last → id ≤ 32767 → last < id → IntKind.i64.wrap (id - last) = id - last := fun _ _ _ _ => by (first | omega | (simp (discharger := omega) only [wR]; omega) | (simp only [lnS]; omega) | (simp (discharger := omega) [-List.getD_eq_getElem?_getD, wR] <;> omega))
  have hz := zigN_lt (n := id) hw.2.2.1
  repeat' ((conv => whnf); first | with_reducible (first | refine go1 (fun j q h => ?_) fun h => ?_ | refine go2 ⟨rfl, rfl⟩ (fun h => ?_) fun j h => ?_ | refine go2 ?_ (fun h => ?_) fun j h => ?_ | refine goQ ?_ (fun h => ?_) fun h => ?_) | apply go3 | apply go4 | apply go5 | ((first | apply go6 | apply go7 | apply go8 | apply go9 | apply goA) <;> intro h) | with_reducible (first | refine IdxK.mk _ rfl ?_ | refine goB ?_ fun hc => ?_ | refine goC ?_ fun hc => ?_ | refine goD ?_ fun hc => ?_ | refine goE ?_ fun hc => ?_ | apply goF | apply goG | refine goH ?_ fun b hb => ?_) | apply goI | apply goJ | apply goK | apply goL | apply goM | apply goN | apply goO | with_reducible refine goP ?_)
  all_goals try conv => whnf
  all_goals try (refine Side.mk ?_; try dsimp only)
  all_goals (try simp only [hkk] at *)
  all_goals first | refine stay ?_ | trivial | omega | (simp (discharger := omega) only [wR]; omega) | (simp only [lnS]; omega) | (simp (discharger := omega) [-List.getD_eq_getElem?_getD, wR] <;> omega) | skip
  all_goals first
    | exact ⟨by omega, by simp; omega⟩
    | skip
  all_goals
    try have hq := hq (by omega) (by omega) (by omega) (by omega)
    unfold pfield
    repeat (first | rw [if_pos (by omega)] | rw [if_neg (by omega)])
  all_goals first
    | (show EndP _ _ _ _ _ _
       refine EndP.mk [.tm 10 1] ?_ <;> (repeat' first | trivial | rfl | exact eqS _ _ | apply andI | apply eqA | apply eqB | apply eqC | apply eqD | apply eqE | apply eqF | apply eqG | apply eqH | apply eqI)
       all_goals first
         | (simp [bl]; done)
         | (rw [head_b (d := IntKind.i64.wrap (id - last)) (e := id - last) hq (by omega) (by omega)]; simp [bl, bv]; done)
       done)
    | (show EndP _ _ _ _ _ _
       refine EndP.mk [.swap 1 2] ?_ <;> (repeat' first | trivial | rfl | exact eqS _ _ | apply andI | apply eqA | apply eqB | apply eqC | apply eqD | apply eqE | apply eqF | apply eqG | apply eqH | apply eqI)
       all_goals (simp [bl, bv]; done)
       done)
    | skip
def sm_cPutField : Sm := fun args σ => match args, σ with
  | [.buf 0, .int .i64 last, .int .i64 id, .int .u8 n_k], [.buf 1 0 l] => some ((0 ≤ n_k ∧ n_k ≤ 255) ∧ (l.length ≤ 1900000000), .buf 1, some [.buf 1 0 l, .buf 1 0 (l ++ bl (pfield last id (byte n_k))), .dead])
  | _, _ => none
theorem k_cPutField : SOK 65 sm_cPutField := by
  intro args sg pre x r he hp
  unfold sm_cPutField at he
  split at he <;> cases he
  · rw [viewB (hp).1]; exact f_cPutField_1 (hp := hp.2) ..
theorem f_cPutList_1 (c : Bool) (n : Int) (k : UInt8) (hp : True) : OK 43 ([.list c 0 [], .int .i64 n, bv k]) ([]) (.buf 0) (some [.buf 1 0 (bl (plist n k))]) := by
  refine funOK_of_vc (C := cx [(55, sm_cIs), (39, sm_vPut)]) (good ⟨k_cIs, k_vPut, trivial⟩) (fn := Tryd.f43) rfl rfl rfl rfl fun hw hs => ?_
  have hk : k.toNat < 256 := k.toNat_lt
  have hkk : byte k.toNat = k := byte_of _
  repeat' ((conv => whnf); first | with_reducible (first | refine go1 (fun j q h => ?_) fun h => ?_ | refine go2 ⟨rfl, rfl⟩ (fun h => ?_) fun j h => ?_ | refine go2 ?_ (fun h => ?_) fun j h => ?_ | refine goQ ?_ (fun h => ?_) fun h => ?_) | apply go3 | apply go4 | apply go5 | ((first | apply go6 | apply go7 | apply go8 | apply go9 | apply goA) <;> intro h) | with_reducible (first | refine IdxK.mk _ rfl ?_ | refine goB ?_ fun hc => ?_ | refine goC ?_ fun hc => ?_ | refine goD ?_ fun hc => ?_ | refine goE ?_ fun hc => ?_ | apply goF | apply goG | refine goH ?_ fun b hb => ?_) | apply goI | apply goJ | apply goK | apply goL | apply goM | apply goN | apply goO | with_reducible refine goP ?_)
  all_goals try conv => whnf
  all_goals try (refine Side.mk ?_; try dsimp only)
  all_goals (try simp only [hkk] at *)
  all_goals first | refine stay ?_ | trivial | omega | (simp (discharger := omega) only [wR]; omega) | (simp only [lnS]; omega) | (simp (discharger := omega) [-List.getD_eq_getElem?_getD, wR] <;> omega) | skip
  all_goals first
    | (show EndP _ _ _ _ _ _
       unfold plist
       repeat (first | rw [if_pos (by omega)] | rw [if_neg (by omega)])
      )
    | (refine ⟨by (first | omega | (simp (discharger := omega) only [wR]; omega) | (simp only [lnS]; omega) | (simp (discharger := omega) [-List.getD_eq_getElem?_getD, wR] <;> omega)), ?_⟩; simp; done)
  · refine EndP.mk [] ?_ <;> (repeat' first | trivial | rfl | exact eqS _ _ | apply andI | apply eqA | apply eqB | apply eqC | apply eqD | apply eqE | apply eqF | apply eqG | apply eqH | apply eqI)
  · refine EndP.mk [] ?_ <;> (repeat' first | trivial | rfl | exact eqS _ _ | apply andI | apply eqA | apply eqB | apply eqC | apply eqD | apply eqE | apply eqF | apply eqG | apply eqH | apply eqI)
  · refine EndP.mk [] ?_ <;> (repeat' first | trivial | rfl | exact eqS _ _ | apply andI | apply eqA | apply eqB | apply eqC | apply eqD | apply eqE | apply eqF | apply eqG | apply eqH | apply eqI)
    rw [head_b (d := n) (e := n) rfl (by omega) (by omega)]
  · refine EndP.mk [.swap 0 1] ?_ <;> (repeat' first | trivial | rfl | exact eqS _ _ | apply andI | apply eqA | apply eqB | apply eqC | apply eqD | apply eqE | apply eqF | apply eqG | apply eqH | apply eqI)
    · rw [head_c (by omega)]
    · rw [show IntKind.u64.wrap n = n by (first | omega | (simp (discharger := omega) only [wR]; omega) | (simp only [lnS]; omega) | (simp (discharger := omega) [-List.getD_eq_getElem?_getD, wR] <;> omega))]; rfl
  · refine EndP.mk [] ?_ <;> (repeat' first | trivial | rfl | exact eqS _ _ | apply andI | apply eqA | apply eqB | apply eqC | apply eqD | apply eqE | apply eqF | apply eqG | apply eqH | apply eqI)
def sm_cPutList : Sm := fun args σ => match args, σ with
  | [.list c 0 [], .int .i64 n, .int .u8 n_k], [] => some ((0 ≤ n_k ∧ n_k ≤ 255) ∧ (True), .buf 0, some [.buf 1 0 (bl (plist n (byte n_k)))])
  | _, _ => none
theorem k_cPutList : SOK 43 sm_cPutList := by
  intro args sg pre x r he hp
  unfold sm_cPutList at he
  split at he <;> cases he
  · rw [viewB (hp).1]; exact f_cPutList_1 (hp := hp.2) ..
theorem f_r20PutList_1 (n : Int) (k : UInt8) (hp : True) : OK 44 ([.int .i64 n, bv k]) ([]) (.str (plist n k)) (none) := by
  refine funOK_of_vc (C := cx [(47, sm_r20Is), (49, sm_r20bytes), (50, sm_r03Put)]) (good ⟨k_r20Is, k_r20bytes, k_r03Put, trivial⟩) (fn := Tryd.f44) rfl rfl rfl rfl fun hw hs => ?_
  have hk : k.toNat < 256 := k.toNat_lt
  have hkk : byte k.toNat = k := byte_of _
  have hv := fun h => vput_len (u := (IntKind.u64.wrap n).toNat) h
  repeat' ((conv => whnf); first | with_reducible (first | refine go1 (fun j q h => ?_) fun h => ?_ | refine go2 ⟨rfl, rfl⟩ (fun h => ?_) fun j h => ?_ | refine go2 ?_ (fun h => ?_) fun j h => ?_ | refine goQ ?_ (fun h => ?_) fun h => ?_) | apply go3 | apply go4 | apply go5 | ((first | apply go6 | apply go7 | apply go8 | apply go9 | apply goA) <;> intro h) | with_reducible (first | refine IdxK.mk _ rfl ?_ | refine goB ?_ fun hc => ?_ | refine goC ?_ fun hc => ?_ | refine goD ?_ fun hc => ?_ | refine goE ?_ fun hc => ?_ | apply goF | apply goG | refine goH ?_ fun b hb => ?_) | apply goI | apply goJ | apply goK | apply goL | apply goM | apply goN | apply goO | with_reducible refine goP ?_)
  all_goals try conv => whnf
  all_goals try (refine Side.mk ?_; try dsimp only)
  all_goals (try simp only [hkk] at *)
  all_goals first | refine stay ?_ | trivial | omega | (simp (discharger := omega) only [wR]; omega) | (simp only [lnS]; omega) | (simp (discharger := omega) [-List.getD_eq_getElem?_getD, wR] <;> omega) | skip
  all_goals first
    | (show EndP _ _ _ _ _ _
       unfold plist
       repeat (first | rw [if_pos (by omega)] | rw [if_neg (by omega)])
      )
    | exact ⟨by (first | omega | (simp (discharger := omega) only [wR]; omega) | (simp only [lnS]; omega) | (simp (discharger := omega) [-List.getD_eq_getElem?_getD, wR] <;> omega)), by (first | omega | (simp (discharger := omega) only [wR]; omega) | (simp only [lnS]; omega) | (simp (discharger := omega) [-List.getD_eq_getElem?_getD, wR] <;> omega))⟩
    | (have hv := hv (by (first | omega | (simp (discharger := omega) only [wR]; omega) | (simp only [lnS]; omega) | (simp (discharger := omega) [-List.getD_eq_getElem?_getD, wR] <;> omega)))
       rw [List.length_singleton]; omega)
  · refine EndP.mk [] ?_ <;> (repeat' first | trivial | rfl | exact eqS _ _ | apply andI | apply eqA | apply eqB | apply eqC | apply eqD | apply eqE | apply eqF | apply eqG | apply eqH | apply eqI)
  · refine EndP.mk [] ?_ <;> (repeat' first | trivial | rfl | exact eqS _ _ | apply andI | apply eqA | apply eqB | apply eqC | apply eqD | apply eqE | apply eqF | apply eqG | apply eqH | apply eqI)
  · refine EndP.mk [] ?_ <;> (repeat' first | trivial | rfl | exact eqS _ _ | apply andI | apply eqA | apply eqB | apply eqC | apply eqD | apply eqE | apply eqF | apply eqG | apply eqH | apply eqI)
    rw [show IntKind.u8.wrap (IntKind.u8.wrap (IntKind.i64.wrap (16 * n)) + (k.toNat : Int)) = 16 * n + k.toNat by (first | omega | (simp (discharger := omega) only [wR]; omega) | (simp only [lnS]; omega) | (simp (discharger := omega) [-List.getD_eq_getElem?_getD, wR] <;> omega))]
  · refine EndP.mk [] ?_ <;> (repeat' first | trivial | rfl | exact eqS _ _ | apply andI | apply eqA | apply eqB | apply eqC | apply eqD | apply eqE | apply eqF | apply eqG | apply eqH | apply eqI)
    · rw [show IntKind.u8.wrap (240 + (k.toNat : Int)) = 240 + k.toNat by (first | omega | (simp (discharger := omega) only [wR]; omega) | (simp only [lnS]; omega) | (simp (discharger := omega) [-List.getD_eq_getElem?_getD, wR] <;> omega))]
    · rw [show IntKind.u64.wrap n = n by (first | omega | (simp (discharger := omega) only [wR]; omega) | (simp only [lnS]; omega) | (simp (discharger := omega) [-List.getD_eq_getElem?_getD, wR] <;> omega))]; rfl
  · refine EndP.mk [] ?_ <;> (repeat' first | trivial | rfl | exact eqS _ _ | apply andI | apply eqA | apply eqB | apply eqC | apply eqD | apply eqE | apply eqF | apply eqG | apply eqH | apply eqI)
def sm_r20PutList : Sm := fun args σ => match args, σ with
  | [.int .i64 n, .int .u8 n_k], [] => some ((0 ≤ n_k ∧ n_k ≤ 255) ∧ (True), .str (plist n (byte n_k)), none)
  | _, _ => none
theorem k_r20PutList : SOK 44 sm_r20PutList := by
  intro args sg pre x r he hp
  unfold sm_r20PutList at he
  split at he <;> cases he
  · rw [viewB (hp).1]; exact f_r20PutList_1 (hp := hp.2) ..
end Go.Proofs.YtcgjkjabcdeagaaDoor
