/-
  Reading of a struct's fields: numbers, doubles, bytes and truths.
-/
import Derived.Test.YtcgjkjabcdeagaaDoorCRt
import Derived.Test.YtcgjkjabcdeagaaDoorCWm
set_option linter.unusedSimpArgs false
set_option linter.unusedVariables false
set_option maxHeartbeats 4000000
namespace Go.Proofs.YtcgjkjabcdeagaaDoor
open Go Go.VG
set_option maxRecDepth 100000
def fldE (id k : Int) (d : Cu) : (Int × Int) × Cu :=
  if d.c ≠ 0 then ((0, 0), d) else if id < -32768 ∨ id > 32767 then ((0, 0), d.fail 4) else ((id, k), d)
def Cu.fld (c : Cu) (last : Int) : (Int × Int) × Cu :=
  if c.byte.c ≠ 0 then ((0, 0), c.byte)
  else if c.byteV.toNat = 0 then ((0, 0), c.byte)
  else if isK (Go.VG.byte ((c.byteV.toNat % 16 : Nat) : Int)) = true then
    if c.byteV.toNat / 16 > 0 then fldE (IntKind.i64.wrap (last + ((c.byteV.toNat / 16 : Nat) : Int))) ((c.byteV.toNat % 16 : Nat) : Int) c.byte
    else fldE (zag c.byte.vread.1) ((c.byteV.toNat % 16 : Nat) : Int) c.byte.vread.2
  else ((0, 0), c.byte.fail 7)
structure Fd where
  id : Int
  k : Int
  num : Int
  bits : Int
  text : List UInt8
  raw : List UInt8
abbrev eFc (f : Fd) : List V := [.int .i64 f.id, .int .u8 f.k, .int .i64 f.num, .int .u64 f.bits, .str f.text, .str f.raw]
abbrev eFd (f : Fd) : V := .agg (eFc f)
theorem viewFc {i k n b : Int} {t r : List UInt8} (_ : True) : [V.int .i64 i, .int .u8 k, .int .i64 n, .int .u64 b, .str t, .str r] = eFc ⟨i, k, n, b, t, r⟩ := rfl
def kOk (k : Int) : Prop := k = 1 ∨ k = 2 ∨ k = 6 ∨ k = 7 ∨ k = 8
instance (k : Int) : Decidable (kOk k) := by unfold kOk; infer_instance
def Cu.num64 (c : Cu) : Int := if c.vread.2.c = 0 then zag c.vread.1 else 0
def valF (f : Fd) (c : Cu) : Fd :=
  if f.k = 1 then { f with num := IntKind.i64.wrap (f.num + 1) } else if f.k = 6 then { f with num := c.num64 } else if f.k = 7 then { f with bits := c.low64.1 } else if f.k = 8 then { f with text := c.text.1 } else f
def valC (f : Fd) (c : Cu) : Cu := if f.k = 6 then c.vread.2 else if f.k = 7 then c.low64.2 else if f.k = 8 then c.text.2 else c
theorem fitC_64 {n : Int} (h : -9223372036854775808 ≤ n ∧ n ≤ 9223372036854775807) : fitC n 64 = 0 := by
  unfold fitC fitIs
  rw [show pow2 (64 - 1) = 9223372036854775808 from rfl, if_pos (decide_eq_true (by omega))]
theorem f_rOpen_1 (s : List UInt8) (hp : True) : OK 29 ([.str s]) ([]) (.ptr 1 0) (some [.cells (eC (.new s)), .cells [.str s, .ptr 0 0]]) := by
  refine funOK_of_vc (C := cx [(53, sm_cNew)]) (good ⟨k_cNew, trivial⟩) (fn := Tryd.f29) rfl rfl rfl rfl fun hw hs => ?_
  repeat' ((conv => whnf); first | with_reducible (first | refine go1 (fun j q h => ?_) fun h => ?_ | refine go2 ⟨rfl, rfl⟩ (fun h => ?_) fun j h => ?_ | refine go2 ?_ (fun h => ?_) fun j h => ?_ | refine goQ ?_ (fun h => ?_) fun h => ?_) | apply go3 | apply go4 | apply go5 | ((first | apply go6 | apply go7 | apply go8 | apply go9 | apply goA) <;> intro h) | with_reducible (first | refine IdxK.mk _ rfl ?_ | refine goB ?_ fun hc => ?_ | refine goC ?_ fun hc => ?_ | refine goD ?_ fun hc => ?_ | refine goE ?_ fun hc => ?_ | apply goF | apply goG | refine goH ?_ fun b hb => ?_) | apply goI | apply goJ | apply goK | apply goL | apply goM | apply goN | apply goO | with_reducible refine goP ?_)
  all_goals try conv => whnf
  all_goals try (refine Side.mk ?_; try dsimp only)
  all_goals (try simp only [Cu_eta] at *)
  all_goals first | refine stay ?_ | trivial | omega | (simp (discharger := omega) only [wR]; omega) | (simp only [lnS]; omega) | (simp (discharger := omega) [-List.getD_eq_getElem?_getD, wR] <;> omega) | skip
  refine EndP.mk [] ?_ <;> (repeat' first | trivial | rfl | exact eqS _ _ | apply andI | apply eqA | apply eqB | apply eqC | apply eqD | apply eqE | apply eqF | apply eqG | apply eqH | apply eqI)
def sm_rOpen : Sm := fun args σ => match args, σ with
  | [.str s], [] => some (True, .ptr 1 0, some [.cells (eC (.new s)), .cells [.str s, .ptr 0 0]])
  | _, _ => none
theorem k_rOpen : SOK 29 sm_rOpen := by
  intro args sg pre x r he hp
  unfold sm_rOpen at he
  split at he <;> cases he
  · exact f_rOpen_1 (hp := hp) ..
theorem f_rNum_1 (s : List UInt8) (c : Cu) (hp : c.ok) : OK 60 ([.ptr 0 0, .int .i64 64]) ([.cells [.str s, .ptr 1 0], .cells (eC c)]) (.int .i64 c.num64) (some [.cells [.str s, .ptr 1 0], .cells (eC c.vread.2)]) := by
  refine funOK_of_vc (C := cx [(58, sm_vRead), (57, sm_wZag), (38, sm_wFit), (56, sm_cFail), (32, sm_cErr)]) (good ⟨k_vRead, k_wZag, k_wFit, k_cFail, k_cErr, trivial⟩) (fn := Tryd.f60) rfl rfl rfl rfl fun hw hs => ?_
  have h1 := @vread_lt c
  have h2 := zag_ok h1
  have h3 := fitC_64 h2
  repeat' ((conv => whnf); first | with_reducible (first | refine go1 (fun j q h => ?_) fun h => ?_ | refine go2 ⟨rfl, rfl⟩ (fun h => ?_) fun j h => ?_ | refine go2 ?_ (fun h => ?_) fun j h => ?_ | refine goQ ?_ (fun h => ?_) fun h => ?_) | apply go3 | apply go4 | apply go5 | ((first | apply go6 | apply go7 | apply go8 | apply go9 | apply goA) <;> intro h) | with_reducible (first | refine IdxK.mk _ rfl ?_ | refine goB ?_ fun hc => ?_ | refine goC ?_ fun hc => ?_ | refine goD ?_ fun hc => ?_ | refine goE ?_ fun hc => ?_ | apply goF | apply goG | refine goH ?_ fun b hb => ?_) | apply goI | apply goJ | apply goK | apply goL | apply goM | apply goN | apply goO | with_reducible refine goP ?_)
  all_goals try conv => whnf
  all_goals try (refine Side.mk ?_; try dsimp only)
  all_goals (try simp only [Int.toNat_natCast, h3] at *)
  all_goals (try simp only [Cu_eta] at *)
  all_goals first | refine stay ?_ | trivial | omega | (simp (discharger := omega) only [wR]; omega) | (simp only [lnS]; omega) | (simp (discharger := omega) [-List.getD_eq_getElem?_getD, wR] <;> omega) | skip
  all_goals first
    | (exfalso
       exact absurd True.intro ‹¬ True›)
    | (show EndP _ _ _ _ _ _
       unfold Cu.num64
       first | rw [if_pos (by assumption)] | rw [if_neg (by assumption)]
       (refine EndP.mk [] ?_ <;> (repeat' first | trivial | rfl | exact eqS _ _ | apply andI | apply eqA | apply eqB | apply eqC | apply eqD | apply eqE | apply eqF | apply eqG | apply eqH | apply eqI))
       done)
def sm_rNum : Sm := fun args σ => match args, σ with
  | [.ptr 0 0, .int .i64 64], [.cells [.str s, .ptr 1 0], .cells ([.str s_c, .int .i64 (.ofNat a_c), .int .i64 (.ofNat e_c), .int .i64 c_c])] => some (True ∧ ((Cu.mk s_c a_c e_c c_c).ok), .int .i64 (Cu.mk s_c a_c e_c c_c).num64, some [.cells [.str s, .ptr 1 0], .cells (eC (Cu.mk s_c a_c e_c c_c).vread.2)])
  | _, _ => none
theorem k_rNum : SOK 60 sm_rNum := by
  intro args sg pre x r he hp
  unfold sm_rNum at he
  split at he <;> cases he
  · rw [viewC (hp).1]; exact f_rNum_1 (hp := hp.2) ..
theorem f_rText_1 (s : List UInt8) (c : Cu) (hp : c.ok ∧ c.s.length ≤ 9223372036854775807) : OK 62 ([.ptr 0 0]) ([.cells [.str s, .ptr 1 0], .cells (eC c)]) (.str c.text.1) (some [.cells [.str s, .ptr 1 0], .cells (eC c.text.2)]) := by
  refine funOK_of_vc (C := cx [(58, sm_vRead), (32, sm_cErr), (74, sm_cLeft), (56, sm_cFail), (73, sm_cTake)]) (good ⟨k_vRead, k_cErr, k_cLeft, k_cFail, k_cTake, trivial⟩) (fn := Tryd.f62) rfl rfl rfl rfl fun hw hs => ?_
  obtain ⟨hp, hb⟩ := hp
  have h1 := @vread_lt c
  have hv := vread_ok hp
  have hf := fail_ok hv.1 1
  have hl : c.vread.2.left = (c.vread.2.e : Int) - c.vread.2.p := rfl
  have hw1 := hv.1.1
  have hw2 := hv.1.2
  have hs1 : c.vread.2.s.length = c.s.length := by rw [hv.2.1]
  have hwl : IntKind.u64.wrap c.vread.2.left = c.vread.2.left := by rw [hl, wu64]; omega
  repeat' ((conv => whnf); first | with_reducible (first | refine go1 (fun j q h => ?_) fun h => ?_ | refine go2 ⟨rfl, rfl⟩ (fun h => ?_) fun j h => ?_ | refine go2 ?_ (fun h => ?_) fun j h => ?_ | refine goQ ?_ (fun h => ?_) fun h => ?_) | apply go3 | apply go4 | apply go5 | ((first | apply go6 | apply go7 | apply go8 | apply go9 | apply goA) <;> intro h) | with_reducible (first | refine IdxK.mk _ rfl ?_ | refine goB ?_ fun hc => ?_ | refine goC ?_ fun hc => ?_ | refine goD ?_ fun hc => ?_ | refine goE ?_ fun hc => ?_ | apply goF | apply goG | refine goH ?_ fun b hb => ?_) | apply goI | apply goJ | apply goK | apply goL | apply goM | apply goN | apply goO | with_reducible refine goP ?_)
  all_goals try conv => whnf
  all_goals try (refine Side.mk ?_; try dsimp only)
  all_goals (try simp only [Int.toNat_natCast, hwl] at *)
  all_goals (try simp only [Cu_eta] at *)
  all_goals first | refine stay ?_ | trivial | omega | (simp (discharger := omega) only [wR]; omega) | (simp only [lnS]; omega) | (simp (discharger := omega) [-List.getD_eq_getElem?_getD, wR] <;> omega) | skip
  all_goals first
    | exact ⟨trivial, hv.1⟩
    | exact ⟨trivial, hf.1⟩
    | (show EndP _ _ _ _ _ _
       have he : c.text = c.text := rfl
       conv at he => rhs; unfold Cu.text
       dsimp only at he
       first | rw [if_pos ⟨by assumption, by omega⟩] at he | rw [if_neg (by omega)] at he
       rw [he])
    | skip
  · have hfc : ¬ (c.vread.2.fail 1).c = 0 := by
      unfold Cu.fail; rw [if_pos (by assumption)]; exact (by decide : ¬ (1 : Int) = 0)
    have ht := err_take hfc (IntKind.i64.wrap c.vread.1)
    simp only [ht.1, ht.2]
    refine EndP.mk [] ?_ <;> (repeat' first | trivial | rfl | exact eqS _ _ | apply andI | apply eqA | apply eqB | apply eqC | apply eqD | apply eqE | apply eqF | apply eqG | apply eqH | apply eqI)
  · have hwn : IntKind.i64.wrap c.vread.1 = c.vread.1 := by rw [wi64]; omega
    simp only [hwn]
    refine EndP.mk [] ?_ <;> (repeat' first | trivial | rfl | exact eqS _ _ | apply andI | apply eqA | apply eqB | apply eqC | apply eqD | apply eqE | apply eqF | apply eqG | apply eqH | apply eqI)
  · have ht := err_take (c := c.vread.2) (by assumption)
    simp only [(ht _).1, (ht _).2]
    refine EndP.mk [] ?_ <;> (repeat' first | trivial | rfl | exact eqS _ _ | apply andI | apply eqA | apply eqB | apply eqC | apply eqD | apply eqE | apply eqF | apply eqG | apply eqH | apply eqI)
def sm_rText : Sm := fun args σ => match args, σ with
  | [.ptr 0 0], [.cells [.str s, .ptr 1 0], .cells ([.str s_c, .int .i64 (.ofNat a_c), .int .i64 (.ofNat e_c), .int .i64 c_c])] => some (True ∧ ((Cu.mk s_c a_c e_c c_c).ok ∧ (Cu.mk s_c a_c e_c c_c).s.length ≤ 9223372036854775807), .str (Cu.mk s_c a_c e_c c_c).text.1, some [.cells [.str s, .ptr 1 0], .cells (eC (Cu.mk s_c a_c e_c c_c).text.2)])
  | _, _ => none
theorem k_rText : SOK 62 sm_rText := by
  intro args sg pre x r he hp
  unfold sm_rText at he
  split at he <;> cases he
  · rw [viewC (hp).1]; exact f_rText_1 (hp := hp.2) ..
end Go.Proofs.YtcgjkjabcdeagaaDoor
