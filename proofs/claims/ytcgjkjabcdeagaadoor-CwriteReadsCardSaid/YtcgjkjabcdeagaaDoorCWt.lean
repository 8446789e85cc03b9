/-
  A writer of structs: the document's steps.
-/
import Derived.Test.YtcgjkjabcdeagaaDoorCWs
set_option linter.unusedSimpArgs false
set_option linter.unusedVariables false
set_option maxHeartbeats 4000000
namespace Go.Proofs.YtcgjkjabcdeagaaDoor
open Go Go.VG
set_option maxRecDepth 100000
theorem COp_eta (o : COp) : COp.mk o.kind o.id o.n o.what o.bits o.text = o := rfl
theorem CS_eta (w : CS) : CS.mk w.out w.l w.code = w := rfl
theorem dC_w (w : CS) : dC w.out (w.l.map eP) w.code = w := dC_map _ _ _
theorem take_set {α : Type} {l : List α} {p : α} (h : ¬ l.length = 0) : l.take (l.length - 1) ++ [p] = l.set (l.length - 1) p := by
  rcases List.eq_nil_or_concat l with rfl | ⟨q, d, rfl⟩
  · simp at h
  · simp
theorem okL_set {L : List Pl} {p : Pl} (h : L.length ≤ 900) : okL ((L.map eP).take ((L.map eP).length - 1) ++ [eP p]) := by
  rw [List.length_map, ← List.map_take, show [eP p] = [p].map eP from rfl, ← List.map_append]
  exact okL_map (by simp; omega)
theorem dC_set {out : List UInt8} {L : List Pl} {p : Pl} {c : Int} (h : ¬ L.length = 0) : dC out ((L.map eP).take ((L.map eP).length - 1) ++ [eP p]) c = ⟨out, L.set (L.length - 1) p, c⟩ := by
  rw [List.length_map, ← List.map_take, show [eP p] = [p].map eP from rfl, ← List.map_append, dC_map, take_set h]
theorem dC_setL {out : List UInt8} {L : List Pl} {p : Pl} {c : Int} (h : ¬ L.length = 0) : dC out ((L.map eP).take (L.length - 1) ++ [eP p]) c = ⟨out, L.set (L.length - 1) p, c⟩ := by
  have := dC_set (out := out) (p := p) (c := c) h
  rwa [List.length_map] at this
theorem begun_out (s : CS) (o : COp) : (s.begun o).out = s.out ∧ (s.begun o).code = s.code := by
  unfold CS.begun
  repeat' split
  all_goals exact ⟨rfl, rfl⟩
theorem low_len (k u : Nat) : (low k u).length = k := low_length k u
theorem content_len {o : COp} {li : Bool} (ht : o.text.length ≤ 90000000) (hn : -9223372036854775808 ≤ o.n ∧ o.n ≤ 9223372036854775807) : (o.content li).length ≤ o.text.length + 12 := by
  have h1 := @plist_len o.n (byte o.what)
  have h2 := vput_len (zigN_lt hn)
  have h3 := vput_len (u := o.text.length) (by omega)
  unfold COp.content
  repeat' split
  all_goals first
    | omega
    | (simp; done)
    | (simp; omega)
    | (rw [low_length]; omega)
theorem f_r23end_1 (out : List UInt8) (l : List V) (c : Int) (hp : okL l ∧ c = 0 ∧ out.length ≤ 1800000000) : OK 20 ([.agg [.str out, .buf 0, .int .i64 c]]) ([.buf 4 0 l]) (.agg [.str (dC out l c).fin.out, .buf 0, .int .i64 (dC out l c).fin.code]) (some [.buf 4 0 ((dC out l c).fin.l.map eP)]) := by
  refine funOK_of_vc (C := cx [(22, sm_r23bad)]) (good ⟨k_r23bad, trivial⟩) (fn := Tryd.f20) rfl rfl rfl rfl fun hw hs => ?_
  obtain ⟨hp, hc, ho⟩ := hp
  obtain ⟨L, rfl, hl⟩ := okL_of hp
  obtain ⟨w, rfl, rfl, rfl⟩ : ∃ w : CS, out = w.out ∧ L = w.l ∧ c = w.code := ⟨⟨out, L, c⟩, rfl, rfl, rfl⟩
  rw [dC_w]
  have e1 : (w.l.map eP).length = w.l.length := by simp
  repeat' ((conv => whnf); first | with_reducible (first | refine go1 (fun j q h => ?_) fun h => ?_ | refine go2 ⟨rfl, rfl⟩ (fun h => ?_) fun j h => ?_ | refine go2 ?_ (fun h => ?_) fun j h => ?_ | refine goQ ?_ (fun h => ?_) fun h => ?_) | apply go3 | apply go4 | apply go5 | ((first | apply go6 | apply go7 | apply go8 | apply go9 | apply goA) <;> intro h) | with_reducible (first | refine IdxK.mk _ rfl ?_ | refine idx_topC ?_ ?_ | refine goB ?_ fun hc => ?_ | refine goC ?_ fun hc => ?_ | refine goD ?_ fun hc => ?_ | refine goE ?_ fun hc => ?_ | apply goF | apply goG | refine goH ?_ fun b hb => ?_) | apply goI | apply goJ | apply goK | apply goL | apply goM | apply goN | apply goO | with_reducible refine goP ?_)
  all_goals try conv => whnf
  all_goals try (refine Side.mk ?_; try dsimp only)
  all_goals (try simp only [COp_eta, CS_eta, dC_w] at *)
  all_goals first | refine stay ?_ | trivial | omega | (simp (discharger := omega) only [wR]; omega) | (simp only [lnS]; omega) | (simp (discharger := omega) [-List.getD_eq_getElem?_getD, wR] <;> omega) | skip
  all_goals first
    | (show EndP _ _ _ _ _ _
       simp only [List.length_map] at *
       have hne : w.l.length = 0 ∨ IntKind.i64.wrap (↑w.l.length - 1) = ↑w.l.length - 1 := by (first | omega | (simp (discharger := omega) only [wR]; omega) | (simp only [lnS]; omega) | (simp (discharger := omega) [-List.getD_eq_getElem?_getD, wR] <;> omega))
       have he : w.fin = w.fin := rfl
       conv at he => rhs; unfold CS.fin
       repeat (first | rw [if_pos (by first | assumption | omega)] at he | rw [if_neg (by first | assumption | omega | exact li_f (by assumption))] at he)
       rw [he]
       refine EndP.mk [] ?_ <;> (repeat' first | trivial | rfl | exact eqS _ _ | apply andI | apply eqA | apply eqB | apply eqC | apply eqD | apply eqE | apply eqF | apply eqG | apply eqH | apply eqI)
       all_goals first
         | rfl
         | assumption
         | (exact hc.symm)
         | (rw [show (IntKind.i64.wrap (↑w.l.length - 1)).toNat = w.l.length - 1 by omega, List.map_take]; done)
        )
    | skip
def sm_r23end : Sm := fun args σ => match args, σ with
  | [.agg [.str out, .buf 0, .int .i64 c]], [.buf 4 0 l] => some (okL l ∧ c = 0 ∧ out.length ≤ 1800000000, .agg [.str (dC out l c).fin.out, .buf 0, .int .i64 (dC out l c).fin.code], some [.buf 4 0 ((dC out l c).fin.l.map eP)])
  | _, _ => none
theorem k_r23end : SOK 20 sm_r23end := by
  intro args sg pre x r he hp
  unfold sm_r23end at he
  split at he <;> cases he
  · exact f_r23end_1 (hp := hp) ..
theorem f_r23Done_1 (out : List UInt8) (l : List V) (c : Int) (hp : okL l) : OK 11 ([.agg [.str out, .buf 0, .int .i64 c]]) ([.buf 4 0 l]) (.tuple [.str (dC out l c).done.1, .int .i64 (dC out l c).done.2]) (none) := by
  refine funOK_of_vc (C := cx []) (good trivial) (fn := Tryd.f11) rfl rfl rfl rfl fun hw hs => ?_
  obtain ⟨L, rfl, hl⟩ := okL_of hp
  obtain ⟨w, rfl, rfl, rfl⟩ : ∃ w : CS, out = w.out ∧ L = w.l ∧ c = w.code := ⟨⟨out, L, c⟩, rfl, rfl, rfl⟩
  rw [dC_w]
  have e1 : (w.l.map eP).length = w.l.length := by simp
  repeat' ((conv => whnf); first | with_reducible (first | refine go1 (fun j q h => ?_) fun h => ?_ | refine go2 ⟨rfl, rfl⟩ (fun h => ?_) fun j h => ?_ | refine go2 ?_ (fun h => ?_) fun j h => ?_ | refine goQ ?_ (fun h => ?_) fun h => ?_) | apply go3 | apply go4 | apply go5 | ((first | apply go6 | apply go7 | apply go8 | apply go9 | apply goA) <;> intro h) | with_reducible (first | refine IdxK.mk _ rfl ?_ | refine idx_topC ?_ ?_ | refine goB ?_ fun hc => ?_ | refine goC ?_ fun hc => ?_ | refine goD ?_ fun hc => ?_ | refine goE ?_ fun hc => ?_ | apply goF | apply goG | refine goH ?_ fun b hb => ?_) | apply goI | apply goJ | apply goK | apply goL | apply goM | apply goN | apply goO | with_reducible refine goP ?_)
  all_goals try conv => whnf
  all_goals try (refine Side.mk ?_; try dsimp only)
  all_goals (try simp only [COp_eta, CS_eta, dC_w] at *)
  all_goals first | refine stay ?_ | trivial | omega | (simp (discharger := omega) only [wR]; omega) | (simp only [lnS]; omega) | (simp (discharger := omega) [-List.getD_eq_getElem?_getD, wR] <;> omega) | skip
  all_goals
    simp only [List.length_map] at *
    have he : w.done = w.done := rfl
    conv at he => rhs; unfold CS.done
    repeat (first | rw [if_pos (by first | assumption | omega)] at he | rw [if_neg (by first | assumption | omega)] at he)
    rw [he]
    refine EndP.mk [] ?_ <;> (repeat' first | trivial | rfl | exact eqS _ _ | apply andI | apply eqA | apply eqB | apply eqC | apply eqD | apply eqE | apply eqF | apply eqG | apply eqH | apply eqI)
def sm_r23Done : Sm := fun args σ => match args, σ with
  | [.agg [.str out, .buf 0, .int .i64 c]], [.buf 4 0 l] => some (okL l, .tuple [.str (dC out l c).done.1, .int .i64 (dC out l c).done.2], none)
  | _, _ => none
theorem k_r23Done : SOK 11 sm_r23Done := by
  intro args sg pre x r he hp
  unfold sm_r23Done at he
  split at he <;> cases he
  · exact f_r23Done_1 (hp := hp) ..
theorem f_r23Do_1 (out : List UInt8) (l : List V) (c : Int) (o : COp) (hp : okL l ∧ l.length ≤ 900 ∧ out.length ≤ 1800000000 ∧ o.text.length ≤ 90000000) : OK 9 ([.agg [.str out, .buf 0, .int .i64 c], eCo o]) ([.buf 4 0 l]) (.agg [.str ((dC out l c).does o).out, .buf 0, .int .i64 ((dC out l c).does o).code]) (some [.buf 4 0 (((dC out l c).does o).l.map eP)]) := by
  refine funOK_of_vc (C := cx [(20, sm_r23end), (21, sm_r23alone), (22, sm_r23bad), (23, sm_r23begun), (25, sm_r23kind), (24, sm_r23same), (26, sm_r20PutField), (27, sm_r23set), (28, sm_r23content)]) (good ⟨k_r23end, k_r23alone, k_r23bad, k_r23begun, k_r23kind, k_r23same, k_r20PutField, k_r23set, k_r23content, trivial⟩) (fn := Tryd.f9) rfl rfl rfl rfl fun hw hs => ?_
  obtain ⟨hp, hl9, ho, ht⟩ := hp
  obtain ⟨L, rfl, hl⟩ := okL_of hp
  obtain ⟨w, rfl, rfl, rfl⟩ : ∃ w : CS, out = w.out ∧ L = w.l ∧ c = w.code := ⟨⟨out, L, c⟩, rfl, rfl, rfl⟩
  rw [dC_w]
  have e1 : (w.l.map eP).length = w.l.length := by simp
  have hw1 : 0 ≤ o.what ∧ o.what ≤ 255 := hw.2.1.2.2.2.1
  have hw2 : -9223372036854775808 ≤ o.n ∧ o.n ≤ 9223372036854775807 := hw.2.1.2.2.1
  have hko := kindOf_ok hw1
  have hkd := fun h => wf_pl (l := w.l) hs.1.2 h
  have hpf := @pfield_len w.top.last o.id (byte (kindOf o))
  have hcl := fun li => content_len (o := o) (li := li) ht hw2
  repeat' ((conv => whnf); first | with_reducible (first | refine go1 (fun j q h => ?_) fun h => ?_ | refine go2 ⟨rfl, rfl⟩ (fun h => ?_) fun j h => ?_ | refine go2 ?_ (fun h => ?_) fun j h => ?_ | refine goQ ?_ (fun h => ?_) fun h => ?_) | apply go3 | apply go4 | apply go5 | ((first | apply go6 | apply go7 | apply go8 | apply go9 | apply goA) <;> intro h) | with_reducible (first | refine IdxK.mk _ rfl ?_ | refine idx_topC ?_ ?_ | refine goB ?_ fun hc => ?_ | refine goC ?_ fun hc => ?_ | refine goD ?_ fun hc => ?_ | refine goE ?_ fun hc => ?_ | apply goF | apply goG | refine goH ?_ fun b hb => ?_) | apply goI | apply goJ | apply goK | apply goL | apply goM | apply goN | apply goO | with_reducible refine goP ?_)
  all_goals try conv => whnf
  all_goals try (refine Side.mk ?_; try dsimp only)
  all_goals (try simp only [COp_eta, CS_eta, dC_w] at *)
  all_goals first | refine stay ?_ | trivial | omega | (simp (discharger := omega) only [wR]; omega) | (simp only [lnS]; omega) | (simp (discharger := omega) [-List.getD_eq_getElem?_getD, wR] <;> omega) | skip
  all_goals first
    | (show EndP _ _ _ _ _ _
       skip)
    | (have hkd := hkd (by omega); exact ⟨⟨by omega, by omega⟩, hkd, trivial⟩)
    | (have := hcl w.top.li
       try simp only [List.length_append]
       omega)
    | exact ⟨trivial, okL_set (by omega)⟩
    | exact ⟨okL_set (by omega), trivial⟩
    | exact okL_set (by omega)
    | skip
  all_goals
    show EndP _ _ _ _ _ _
    simp only [List.length_map] at *
    have he : w.does o = w.does o := rfl
    conv at he => rhs; unfold CS.does
    repeat (first | rw [if_pos (by first | assumption | omega)] at he | rw [if_neg (by first | assumption | omega)] at he)
  all_goals try
    (have hm : w.may o.id (kindOf o) = w.may o.id (kindOf o) := rfl
     conv at hm => rhs; unfold CS.may
     repeat (first | rw [if_pos (by first | assumption | omega | exact sameK_t.2 (by assumption) | exact List.length_eq_zero_iff.2 (by assumption))] at hm | rw [if_neg (by first | assumption | omega | exact li_f (by assumption) | exact (fun q => absurd (sameK_t.1 q) (by assumption)) | exact (fun q => absurd (List.length_eq_zero_iff.1 q) (by assumption)))] at hm)
     rw [hm] at he)
  all_goals (try dsimp only at he)
  all_goals (try (first | rw [if_pos rfl] at he | rw [if_neg (by decide)] at he))
  all_goals rw [he]
  all_goals
    refine EndP.mk [] ?_ <;> (repeat' first | trivial | rfl | exact eqS _ _ | apply andI | apply eqA | apply eqB | apply eqC | apply eqD | apply eqE | apply eqF | apply eqG | apply eqH | apply eqI)
  all_goals first
    | (rw [(begun_out _ _).1]; done)
    | (rw [(begun_out _ _).2]; done)
    | (rw [(begun_out _ _).1]; rfl)
    | (rw [(begun_out _ _).2]; rfl)
    | (rw [dC_setL (by omega)]; rfl)
def sm_r23Do : Sm := fun args σ => match args, σ with
  | [.agg [.str out, .buf 0, .int .i64 c], .agg [.int .u8 k_o, .int .i64 i_o, .int .i64 n_o, .int .u8 w_o, .int .u64 b_o, .str t_o]], [.buf 4 0 l] => some (True ∧ (okL l ∧ l.length ≤ 900 ∧ out.length ≤ 1800000000 ∧ (COp.mk k_o i_o n_o w_o b_o t_o).text.length ≤ 90000000), .agg [.str ((dC out l c).does (COp.mk k_o i_o n_o w_o b_o t_o)).out, .buf 0, .int .i64 ((dC out l c).does (COp.mk k_o i_o n_o w_o b_o t_o)).code], some [.buf 4 0 (((dC out l c).does (COp.mk k_o i_o n_o w_o b_o t_o)).l.map eP)])
  | _, _ => none
theorem k_r23Do : SOK 9 sm_r23Do := by
  intro args sg pre x r he hp
  unfold sm_r23Do at he
  split at he <;> cases he
  · rw [viewCo (hp).1]; exact f_r23Do_1 (hp := hp.2) ..
end Go.Proofs.YtcgjkjabcdeagaaDoor
