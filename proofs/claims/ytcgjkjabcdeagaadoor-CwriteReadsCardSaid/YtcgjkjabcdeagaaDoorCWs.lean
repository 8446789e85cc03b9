/-
  A writer of structs: what the document says.
-/
import Derived.Test.YtcgjkjabcdeagaaDoorCWw
set_option linter.unusedSimpArgs false
set_option linter.unusedVariables false
set_option maxHeartbeats 4000000
namespace Go.Proofs.YtcgjkjabcdeagaaDoor
open Go Go.VG
set_option maxRecDepth 100000
def kindOf (o : COp) : Int := if o.kind = 123 then 12 else if o.kind = 91 then 9 else if o.kind = 102 then (if o.n = 1 then 1 else 2) else if o.kind = 100 then 7 else if o.kind = 115 then 8 else o.what
def aloneC (m : Nat) (o : COp) : Int :=
  if (o.kind = 123 ∨ o.kind = 91) ∧ m ≥ 32 then 33
  else if o.kind = 91 ∧ plist o.n (byte o.what) = [] then 4
  else if o.kind = 110 then (if bitsK o.what = 0 then 7 else fitC o.n (bitsK o.what))
  else 0
def COp.content (o : COp) (li : Bool) : List UInt8 :=
  if o.kind = 91 then plist o.n (byte o.what)
  else if o.kind = 102 ∧ li = true then [byte (kindOf o)]
  else if o.kind = 110 ∧ o.what = 3 then [byte (fitU o.n 8)]
  else if o.kind = 110 then vput (zigN o.n)
  else if o.kind = 100 then low 8 o.bits.toNat
  else if o.kind = 115 then vput o.text.length ++ o.text
  else []
def CS.begun (s : CS) (o : COp) : CS :=
  if o.kind = 123 then { s with l := s.l ++ [⟨false, 0, 0, 0⟩] } else if o.kind = 91 then { s with l := s.l ++ [⟨true, 0, o.n, o.what⟩] } else s
def CS.does (s : CS) (o : COp) : CS :=
  if s.code ≠ 0 then s
  else if o.kind = 101 then s.fin
  else if aloneC s.l.length o ≠ 0 then { s with code := aloneC s.l.length o }
  else if s.l.length = 0 then (if o.kind ≠ 123 then { s with code := 12 } else s.begun o)
  else if (s.may o.id (kindOf o)).2 = true then CS.begun { (s.may o.id (kindOf o)).1 with out := (s.may o.id (kindOf o)).1.out ++ o.content s.top.li } o
  else (s.may o.id (kindOf o)).1
def dC (out : List UInt8) (l : List V) (c : Int) : CS := ⟨out, upl l, c⟩
@[simp] theorem dC_map (out : List UInt8) (L : List Pl) (c : Int) : dC out (L.map eP) c = ⟨out, L, c⟩ := by simp [dC]
def okL (l : List V) : Prop := l = (upl l).map eP ∧ l.length ≤ 1000
theorem okL_map {L : List Pl} (h : L.length ≤ 1000) : okL (L.map eP) := ⟨by simp, by simpa using h⟩
theorem okL_of {l : List V} (h : okL l) : ∃ L : List Pl, l = L.map eP ∧ L.length ≤ 1000 := ⟨upl l, h.1, by have := h.2; rw [h.1] at this; simpa using this⟩
theorem kindOf_ok {o : COp} (h : 0 ≤ o.what ∧ o.what ≤ 255) : 0 ≤ kindOf o ∧ kindOf o ≤ 255 := by
  unfold kindOf
  repeat' split
  all_goals omega
theorem f_r23bad_1 (out : List UInt8) (l : List V) (c k : Int) (hp : True) : OK 22 ([.agg [.str out, .buf 0, .int .i64 c], .int .i64 k]) ([.buf 4 0 l]) (.agg [.str out, .buf 0, .int .i64 k]) (none) := by
  refine funOK_of_vc (C := cx []) (good trivial) (fn := Tryd.f22) rfl rfl rfl rfl fun hw hs => ?_
  repeat' ((conv => whnf); first | with_reducible (first | refine go1 (fun j q h => ?_) fun h => ?_ | refine go2 ⟨rfl, rfl⟩ (fun h => ?_) fun j h => ?_ | refine go2 ?_ (fun h => ?_) fun j h => ?_ | refine goQ ?_ (fun h => ?_) fun h => ?_) | apply go3 | apply go4 | apply go5 | ((first | apply go6 | apply go7 | apply go8 | apply go9 | apply goA) <;> intro h) | with_reducible (first | refine IdxK.mk _ rfl ?_ | refine goB ?_ fun hc => ?_ | refine goC ?_ fun hc => ?_ | refine goD ?_ fun hc => ?_ | refine goE ?_ fun hc => ?_ | apply goF | apply goG | refine goH ?_ fun b hb => ?_) | apply goI | apply goJ | apply goK | apply goL | apply goM | apply goN | apply goO | with_reducible refine goP ?_)
  all_goals try conv => whnf
  all_goals try (refine Side.mk ?_; try dsimp only)
  all_goals first | refine stay ?_ | trivial | omega | (simp (discharger := omega) only [wR]; omega) | (simp only [lnS]; omega) | (simp (discharger := omega) [-List.getD_eq_getElem?_getD, wR] <;> omega) | skip
  refine EndP.mk [] ?_ <;> (repeat' first | trivial | rfl | exact eqS _ _ | apply andI | apply eqA | apply eqB | apply eqC | apply eqD | apply eqE | apply eqF | apply eqG | apply eqH | apply eqI)
def sm_r23bad : Sm := fun args σ => match args, σ with
  | [.agg [.str out, .buf 0, .int .i64 c], .int .i64 k], [.buf 4 0 l] => some (True, .agg [.str out, .buf 0, .int .i64 k], none)
  | _, _ => none
theorem k_r23bad : SOK 22 sm_r23bad := by
  intro args sg pre x r he hp
  unfold sm_r23bad at he
  split at he <;> cases he
  · exact f_r23bad_1 (hp := hp) ..
theorem f_r23kind_1 (o : COp) (hp : True) : OK 25 ([eCo o]) ([]) (.int .u8 (kindOf o)) (none) := by
  refine funOK_of_vc (C := cx []) (good trivial) (fn := Tryd.f25) rfl rfl rfl rfl fun hw hs => ?_
  repeat' ((conv => whnf); first | with_reducible (first | refine go1 (fun j q h => ?_) fun h => ?_ | refine go2 ⟨rfl, rfl⟩ (fun h => ?_) fun j h => ?_ | refine go2 ?_ (fun h => ?_) fun j h => ?_ | refine goQ ?_ (fun h => ?_) fun h => ?_) | apply go3 | apply go4 | apply go5 | ((first | apply go6 | apply go7 | apply go8 | apply go9 | apply goA) <;> intro h) | with_reducible (first | refine IdxK.mk _ rfl ?_ | refine goB ?_ fun hc => ?_ | refine goC ?_ fun hc => ?_ | refine goD ?_ fun hc => ?_ | refine goE ?_ fun hc => ?_ | apply goF | apply goG | refine goH ?_ fun b hb => ?_) | apply goI | apply goJ | apply goK | apply goL | apply goM | apply goN | apply goO | with_reducible refine goP ?_)
  all_goals try conv => whnf
  all_goals try (refine Side.mk ?_; try dsimp only)
  all_goals first | refine stay ?_ | trivial | omega | (simp (discharger := omega) only [wR]; omega) | (simp only [lnS]; omega) | (simp (discharger := omega) [-List.getD_eq_getElem?_getD, wR] <;> omega) | skip
  all_goals
    have he : kindOf o = kindOf o := rfl
    conv at he => rhs; unfold kindOf
    repeat (first | rw [if_pos (by omega)] at he | rw [if_neg (by omega)] at he)
    rw [he]
    refine EndP.mk [] ?_ <;> (repeat' first | trivial | rfl | exact eqS _ _ | apply andI | apply eqA | apply eqB | apply eqC | apply eqD | apply eqE | apply eqF | apply eqG | apply eqH | apply eqI)
def sm_r23kind : Sm := fun args σ => match args, σ with
  | [.agg [.int .u8 k_o, .int .i64 i_o, .int .i64 n_o, .int .u8 w_o, .int .u64 b_o, .str t_o]], [] => some (True ∧ (True), .int .u8 (kindOf (COp.mk k_o i_o n_o w_o b_o t_o)), none)
  | _, _ => none
theorem k_r23kind : SOK 25 sm_r23kind := by
  intro args sg pre x r he hp
  unfold sm_r23kind at he
  split at he <;> cases he
  · rw [viewCo (hp).1]; exact f_r23kind_1 (hp := hp.2) ..
theorem f_r23bits_1 (k : Int) (hp : True) : OK 45 ([.int .u8 k]) ([]) (.int .i64 (bitsK k)) (none) := by
  refine funOK_of_vc (C := cx []) (good trivial) (fn := Tryd.f45) rfl rfl rfl rfl fun hw hs => ?_
  repeat' ((conv => whnf); first | with_reducible (first | refine go1 (fun j q h => ?_) fun h => ?_ | refine go2 ⟨rfl, rfl⟩ (fun h => ?_) fun j h => ?_ | refine go2 ?_ (fun h => ?_) fun j h => ?_ | refine goQ ?_ (fun h => ?_) fun h => ?_) | apply go3 | apply go4 | apply go5 | ((first | apply go6 | apply go7 | apply go8 | apply go9 | apply goA) <;> intro h) | with_reducible (first | refine IdxK.mk _ rfl ?_ | refine goB ?_ fun hc => ?_ | refine goC ?_ fun hc => ?_ | refine goD ?_ fun hc => ?_ | refine goE ?_ fun hc => ?_ | apply goF | apply goG | refine goH ?_ fun b hb => ?_) | apply goI | apply goJ | apply goK | apply goL | apply goM | apply goN | apply goO | with_reducible refine goP ?_)
  all_goals try conv => whnf
  all_goals try (refine Side.mk ?_; try dsimp only)
  all_goals first | refine stay ?_ | trivial | omega | (simp (discharger := omega) only [wR]; omega) | (simp only [lnS]; omega) | (simp (discharger := omega) [-List.getD_eq_getElem?_getD, wR] <;> omega) | skip
  all_goals
    have he : bitsK k = bitsK k := rfl
    conv at he => rhs; unfold bitsK
    repeat (first | rw [if_pos (by omega)] at he | rw [if_neg (by omega)] at he)
    rw [he]
    refine EndP.mk [] ?_ <;> (repeat' first | trivial | rfl | exact eqS _ _ | apply andI | apply eqA | apply eqB | apply eqC | apply eqD | apply eqE | apply eqF | apply eqG | apply eqH | apply eqI)
def sm_r23bits : Sm := fun args σ => match args, σ with
  | [.int .u8 k], [] => some (True, .int .i64 (bitsK k), none)
  | _, _ => none
theorem k_r23bits : SOK 45 sm_r23bits := by
  intro args sg pre x r he hp
  unfold sm_r23bits at he
  split at he <;> cases he
  · exact f_r23bits_1 (hp := hp) ..
theorem bitsK_b {k : Int} (h : ¬ bitsK k = 0) : bitsK k = 1 ∨ bitsK k = 8 ∨ bitsK k = 16 ∨ bitsK k = 32 ∨ bitsK k = 64 := by
  revert h; unfold bitsK
  repeat' split
  all_goals omega
theorem f_r23alone_1 (out : List UInt8) (l : List V) (c : Int) (o : COp) (hp : l.length ≤ 1000) : OK 21 ([.agg [.str out, .buf 0, .int .i64 c], eCo o]) ([.buf 4 0 l]) (.int .i64 (aloneC l.length o)) (none) := by
  refine funOK_of_vc (C := cx [(44, sm_r20PutList), (45, sm_r23bits), (46, sm_r02Fit)]) (good ⟨k_r20PutList, k_r23bits, k_r02Fit, trivial⟩) (fn := Tryd.f21) rfl rfl rfl rfl fun hw hs => ?_
  have hk : 0 ≤ o.what ∧ o.what ≤ 255 := hw.2.1.2.2.2.1
  repeat' ((conv => whnf); first | with_reducible (first | refine go1 (fun j q h => ?_) fun h => ?_ | refine go2 ⟨rfl, rfl⟩ (fun h => ?_) fun j h => ?_ | refine go2 ?_ (fun h => ?_) fun j h => ?_ | refine goQ ?_ (fun h => ?_) fun h => ?_) | apply go3 | apply go4 | apply go5 | ((first | apply go6 | apply go7 | apply go8 | apply go9 | apply goA) <;> intro h) | with_reducible (first | refine IdxK.mk _ rfl ?_ | refine goB ?_ fun hc => ?_ | refine goC ?_ fun hc => ?_ | refine goD ?_ fun hc => ?_ | refine goE ?_ fun hc => ?_ | apply goF | apply goG | refine goH ?_ fun b hb => ?_) | apply goI | apply goJ | apply goK | apply goL | apply goM | apply goN | apply goO | with_reducible refine goP ?_)
  all_goals try conv => whnf
  all_goals try (refine Side.mk ?_; try dsimp only)
  all_goals first | refine stay ?_ | trivial | omega | (simp (discharger := omega) only [wR]; omega) | (simp only [lnS]; omega) | (simp (discharger := omega) [-List.getD_eq_getElem?_getD, wR] <;> omega) | skip
  all_goals first
    | exact hk
    | exact ⟨hk, trivial⟩
    | exact bitsK_b (by assumption)
    | (exfalso; omega)
    | (show EndP _ _ _ _ _ _
       have he : aloneC l.length o = aloneC l.length o := rfl
       conv at he => rhs; unfold aloneC
       repeat (first | rw [if_pos (by first | assumption | omega | exact ⟨by omega, by omega⟩ | exact ⟨by omega, by assumption⟩)] at he | rw [if_neg (by first | assumption | omega | exact fun q => absurd q.2 (by assumption))] at he)
       rw [he]
       refine EndP.mk [] ?_ <;> (repeat' first | trivial | rfl | exact eqS _ _ | apply andI | apply eqA | apply eqB | apply eqC | apply eqD | apply eqE | apply eqF | apply eqG | apply eqH | apply eqI)
       done)
    | skip
def sm_r23alone : Sm := fun args σ => match args, σ with
  | [.agg [.str out, .buf 0, .int .i64 c], .agg [.int .u8 k_o, .int .i64 i_o, .int .i64 n_o, .int .u8 w_o, .int .u64 b_o, .str t_o]], [.buf 4 0 l] => some (True ∧ (l.length ≤ 1000), .int .i64 (aloneC l.length (COp.mk k_o i_o n_o w_o b_o t_o)), none)
  | _, _ => none
theorem k_r23alone : SOK 21 sm_r23alone := by
  intro args sg pre x r he hp
  unfold sm_r23alone at he
  split at he <;> cases he
  · rw [viewCo (hp).1]; exact f_r23alone_1 (hp := hp.2) ..
theorem f_r23content_1 (o : COp) (li : Bool) (hp : o.text.length ≤ 90000000) : OK 28 ([eCo o, .bool li]) ([]) (.str (o.content li)) (none) := by
  refine funOK_of_vc (C := cx [(44, sm_r20PutList), (25, sm_r23kind), (46, sm_r02Fit), (51, sm_r02Zig), (50, sm_r03Put), (52, sm_r02Low)]) (good ⟨k_r20PutList, k_r23kind, k_r02Fit, k_r02Zig, k_r03Put, k_r02Low, trivial⟩) (fn := Tryd.f28) rfl rfl rfl rfl fun hw hs => ?_
  have hk : 0 ≤ o.what ∧ o.what ≤ 255 := hw.1.2.2.2.1
  have hn : -9223372036854775808 ≤ o.n ∧ o.n ≤ 9223372036854775807 := hw.1.2.2.1
  have hb : 0 ≤ o.bits ∧ o.bits ≤ 18446744073709551615 := hw.1.2.2.2.2.1
  have hz := zigN_lt hn
  have hu : IntKind.u64.wrap o.text.length = o.text.length := by (first | omega | (simp (discharger := omega) only [wR]; omega) | (simp only [lnS]; omega) | (simp (discharger := omega) [-List.getD_eq_getElem?_getD, wR] <;> omega))
  have hv := vput_len (u := o.text.length) (by omega)
  have hko := kindOf_ok hk
  have hf8 := fit_b8 o.n
  repeat' ((conv => whnf); first | with_reducible (first | refine go1 (fun j q h => ?_) fun h => ?_ | refine go2 ⟨rfl, rfl⟩ (fun h => ?_) fun j h => ?_ | refine go2 ?_ (fun h => ?_) fun j h => ?_ | refine goQ ?_ (fun h => ?_) fun h => ?_) | apply go3 | apply go4 | apply go5 | ((first | apply go6 | apply go7 | apply go8 | apply go9 | apply goA) <;> intro h) | with_reducible (first | refine IdxK.mk _ rfl ?_ | refine goB ?_ fun hc => ?_ | refine goC ?_ fun hc => ?_ | refine goD ?_ fun hc => ?_ | refine goE ?_ fun hc => ?_ | apply goF | apply goG | refine goH ?_ fun b hb => ?_) | apply goI | apply goJ | apply goK | apply goL | apply goM | apply goN | apply goO | with_reducible refine goP ?_)
  all_goals try conv => whnf
  all_goals try (refine Side.mk ?_; try dsimp only)
  all_goals (try simp only [hu, Int.toNat_natCast] at *)
  all_goals first | refine stay ?_ | trivial | omega | (simp (discharger := omega) only [wR]; omega) | (simp only [lnS]; omega) | (simp (discharger := omega) [-List.getD_eq_getElem?_getD, wR] <;> omega) | skip
  all_goals first
    | exact hk
    | exact hko
    | exact hb
    | exact ⟨hk, trivial⟩
    | exact ⟨by omega, by omega⟩
    | (show EndP _ _ _ _ _ _
       have he : o.content li = o.content li := rfl
       conv at he => rhs; unfold COp.content
       repeat (first | rw [if_pos (by first | assumption | omega | exact ⟨by omega, by omega⟩ | exact ⟨by omega, by assumption⟩)] at he | rw [if_neg (by first | assumption | omega | exact fun q => absurd q.2 (li_f (by assumption)))] at he)
       rw [he]
       refine EndP.mk [] ?_ <;> (repeat' first | trivial | rfl | exact eqS _ _ | apply andI | apply eqA | apply eqB | apply eqC | apply eqD | apply eqE | apply eqF | apply eqG | apply eqH | apply eqI)
       all_goals (rw [hf8, byte_of]; done))
    | skip
def sm_r23content : Sm := fun args σ => match args, σ with
  | [.agg [.int .u8 k_o, .int .i64 i_o, .int .i64 n_o, .int .u8 w_o, .int .u64 b_o, .str t_o], .bool li], [] => some (True ∧ ((COp.mk k_o i_o n_o w_o b_o t_o).text.length ≤ 90000000), .str ((COp.mk k_o i_o n_o w_o b_o t_o).content li), none)
  | _, _ => none
theorem k_r23content : SOK 28 sm_r23content := by
  intro args sg pre x r he hp
  unfold sm_r23content at he
  split at he <;> cases he
  · rw [viewCo (hp).1]; exact f_r23content_1 (hp := hp.2) ..
theorem f_r23begun_1 (out : List UInt8) (l : List V) (c : Int) (o : COp) (hp : okL l) : OK 23 ([.agg [.str out, .buf 0, .int .i64 c], eCo o]) ([.buf 4 0 l]) (.agg [.str out, .buf 0, .int .i64 c]) (some [.buf 4 0 (((dC out l c).begun o).l.map eP)]) := by
  refine funOK_of_vc (C := cx []) (good trivial) (fn := Tryd.f23) rfl rfl rfl rfl fun hw hs => ?_
  obtain ⟨L, rfl, hl⟩ := okL_of hp
  rw [dC_map]
  have e1 : (L.map eP).length = L.length := by simp
  repeat' ((conv => whnf); first | with_reducible (first | refine go1 (fun j q h => ?_) fun h => ?_ | refine go2 ⟨rfl, rfl⟩ (fun h => ?_) fun j h => ?_ | refine go2 ?_ (fun h => ?_) fun j h => ?_ | refine goQ ?_ (fun h => ?_) fun h => ?_) | apply go3 | apply go4 | apply go5 | ((first | apply go6 | apply go7 | apply go8 | apply go9 | apply goA) <;> intro h) | with_reducible (first | refine IdxK.mk _ rfl ?_ | refine goB ?_ fun hc => ?_ | refine goC ?_ fun hc => ?_ | refine goD ?_ fun hc => ?_ | refine goE ?_ fun hc => ?_ | apply goF | apply goG | refine goH ?_ fun b hb => ?_) | apply goI | apply goJ | apply goK | apply goL | apply goM | apply goN | apply goO | with_reducible refine goP ?_)
  all_goals try conv => whnf
  all_goals try (refine Side.mk ?_; try dsimp only)
  all_goals first | refine stay ?_ | trivial | omega | (simp (discharger := omega) only [wR]; omega) | (simp only [lnS]; omega) | (simp (discharger := omega) [-List.getD_eq_getElem?_getD, wR] <;> omega) | skip
  all_goals first
    | (exfalso; omega)
    | (show EndP _ _ _ _ _ _
       unfold CS.begun
       repeat (first | rw [if_pos (by omega)] | rw [if_neg (by omega)])
       first
       | (refine EndP.mk [] ?_ <;> (repeat' first | trivial | rfl | exact eqS _ _ | apply andI | apply eqA | apply eqB | apply eqC | apply eqD | apply eqE | apply eqF | apply eqG | apply eqH | apply eqI)
          all_goals (first | rfl | (simp; done))
          done)
       | (refine EndP.mk [.swap 0 4] ?_ <;> (repeat' first | trivial | rfl | exact eqS _ _ | apply andI | apply eqA | apply eqB | apply eqC | apply eqD | apply eqE | apply eqF | apply eqG | apply eqH | apply eqI)
          all_goals (first | rfl | (simp; done))))
    | skip
def sm_r23begun : Sm := fun args σ => match args, σ with
  | [.agg [.str out, .buf 0, .int .i64 c], .agg [.int .u8 k_o, .int .i64 i_o, .int .i64 n_o, .int .u8 w_o, .int .u64 b_o, .str t_o]], [.buf 4 0 l] => some (True ∧ (okL l), .agg [.str out, .buf 0, .int .i64 c], some [.buf 4 0 (((dC out l c).begun (COp.mk k_o i_o n_o w_o b_o t_o)).l.map eP)])
  | _, _ => none
theorem k_r23begun : SOK 23 sm_r23begun := by
  intro args sg pre x r he hp
  unfold sm_r23begun at he
  split at he <;> cases he
  · rw [viewCo (hp).1]; exact f_r23begun_1 (hp := hp.2) ..
theorem f_r23set_1 (l : List V) (p : Pl) (hp : 1 ≤ l.length ∧ l.length ≤ 1000) : OK 27 ([.buf 0, eP p]) ([.buf 4 0 l]) (.buf 0) (some [.buf 4 0 (l.take (l.length - 1) ++ [eP p])]) := by
  refine funOK_of_vc (C := cx []) (good trivial) (fn := Tryd.f27) rfl rfl rfl rfl fun hw hs => ?_
  repeat' ((conv => whnf); first | with_reducible (first | refine go1 (fun j q h => ?_) fun h => ?_ | refine go2 ⟨rfl, rfl⟩ (fun h => ?_) fun j h => ?_ | refine go2 ?_ (fun h => ?_) fun j h => ?_ | refine goQ ?_ (fun h => ?_) fun h => ?_) | apply go3 | apply go4 | apply go5 | ((first | apply go6 | apply go7 | apply go8 | apply go9 | apply goA) <;> intro h) | with_reducible (first | refine IdxK.mk _ rfl ?_ | refine goB ?_ fun hc => ?_ | refine goC ?_ fun hc => ?_ | refine goD ?_ fun hc => ?_ | refine goE ?_ fun hc => ?_ | apply goF | apply goG | refine goH ?_ fun b hb => ?_) | apply goI | apply goJ | apply goK | apply goL | apply goM | apply goN | apply goO | with_reducible refine goP ?_)
  all_goals try conv => whnf
  all_goals try (refine Side.mk ?_; try dsimp only)
  all_goals first | refine stay ?_ | trivial | omega | (simp (discharger := omega) only [wR]; omega) | (simp only [lnS]; omega) | (simp (discharger := omega) [-List.getD_eq_getElem?_getD, wR] <;> omega) | skip
  have ht : (IntKind.i64.wrap (↑l.length - 1)).toNat = l.length - 1 := by (first | omega | (simp (discharger := omega) only [wR]; omega) | (simp only [lnS]; omega) | (simp (discharger := omega) [-List.getD_eq_getElem?_getD, wR] <;> omega))
  refine EndP.mk [.swap 0 2] ?_ <;> (repeat' first | trivial | rfl | exact eqS _ _ | apply andI | apply eqA | apply eqB | apply eqC | apply eqD | apply eqE | apply eqF | apply eqG | apply eqH | apply eqI)
  all_goals (rw [ht]; rfl)
def sm_r23set : Sm := fun args σ => match args, σ with
  | [.buf 0, .agg [.bool b_p, .int .i64 m_p, .int .i64 n_p, .int .u8 k_p]], [.buf 4 0 l] => some (True ∧ (1 ≤ l.length ∧ l.length ≤ 1000), .buf 0, some [.buf 4 0 (l.take (l.length - 1) ++ [eP (Pl.mk b_p m_p n_p k_p)])])
  | _, _ => none
theorem k_r23set : SOK 27 sm_r23set := by
  intro args sg pre x r he hp
  unfold sm_r23set at he
  split at he <;> cases he
  · rw [viewP (hp).1]; exact f_r23set_1 (hp := hp.2) ..
end Go.Proofs.YtcgjkjabcdeagaaDoor
