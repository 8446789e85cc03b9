/-
  Values of Protobuf: the document's readers.
-/
import Derived.Test.YtkkfdkfopdjomaaDoorOC
set_option linter.unusedSimpArgs false
set_option linter.unusedVariables false
set_option maxHeartbeats 4000000
namespace Go.Proofs.YtkkfdkfopdjomaaDoor
open Go Go.VG
set_option maxRecDepth 100000
theorem f_orKind_1 (f : Pf) (hp : True) : OK 20 ([ePf f]) ([]) (.int .u8 (kdF f)) (none) := by
  refine funOK_of_vc (C := cx []) (good trivial) (fn := Tryd.f20) rfl rfl rfl rfl fun hw hs => ?_
  repeat' ((conv => whnf); first | with_reducible (first | refine go1 (fun j q h => ?_) fun h => ?_ | refine go2 ⟨rfl, rfl⟩ (fun h => ?_) fun j h => ?_ | refine go2 ?_ (fun h => ?_) fun j h => ?_ | refine goQ ?_ (fun h => ?_) fun h => ?_) | apply go3 | apply go4 | apply go5 | ((first | apply go6 | apply go7 | apply go8 | apply go9 | apply goA) <;> intro h) | with_reducible (first | refine IdxK.mk _ rfl ?_ | refine call_ite (fun h => ?_) fun h => ?_ | refine goB ?_ fun hc => ?_ | refine goC ?_ fun hc => ?_ | refine goD ?_ fun hc => ?_ | refine goE ?_ fun hc => ?_ | apply goF | apply goG | refine goH ?_ fun b hb => ?_) | apply goI | apply goJ | apply goK | apply goL | apply goM | apply goN | apply goO | with_reducible refine goP ?_)
  all_goals try conv => whnf
  all_goals try (refine Side.mk ?_; try dsimp only)
  all_goals (try simp only [Cu_eta] at *)
  all_goals first | refine stay ?_ | trivial | omega | (simp (discharger := omega) only [wR]; omega) | (simp only [lnS]; omega) | (simp (discharger := omega) [-List.getD_eq_getElem?_getD, wR] <;> omega) | skip
  all_goals first
    | (exfalso; omega)
    | (unfold kdF
       repeat (first | rw [if_pos (by omega)] | rw [if_neg (by omega)])
       refine EndP.mk [] ?_ <;> (repeat' first | trivial | rfl | exact eqS _ _ | apply andI | apply eqA | apply eqB | apply eqC | apply eqD | apply eqE | apply eqF | apply eqG | apply eqH | apply eqI)
       done)
def sm_orKind : Sm := fun args σ => match args, σ with
  | [.agg [.int .i64 n_f, .int .i64 w_f, .int .u64 u_f, .str t_f]], [] => some (True ∧ (True), .int .u8 (kdF (Pf.mk n_f w_f u_f t_f)), none)
  | _, _ => none
theorem k_orKind : SOK 20 sm_orKind := by
  intro args sg pre x r he hp
  unfold sm_orKind at he
  split at he <;> cases he
  · rw [viewPf (hp).1]; exact f_orKind_1 (hp := hp.2) ..
def sm_orR (f : RV) (k : Nat) : Sm := fun args σ => match args, σ with
  | [.str s, .int .i64 d], [] => some (s.length ≤ 9000 ∧ 0 ≤ d ∧ d ≤ 1000 ∧ k = (32 - d).toNat, .tuple [ev (f s).2, .int .i64 (f s).1], none)
  | _, _ => none
theorem f_orEs (v : RV) (k : Nat) (hv : SOK 6 (sm_orR v k)) (c : Bool) (L : List (List UInt8)) (d : Int) (hp : EOk L d k) : OK 8 [.list c 1 (L.map V.str), .int .i64 d] [] (esX (rdEs v L [])) none := by
  refine funOK_of_vc (C := cx [(19, sm_r17All), (23, sm_r18Text), (24, sm_r18Join), (6, sm_orR v k)]) (good ⟨k_r17All, k_r18Text, k_r18Join, hv, trivial⟩) (fn := Tryd.f8) rfl rfl rfl rfl fun hw _ => ?_
  have hd0 := hp.d0
  have hd1 := hp.d1
  have hk := hp.k
  have hl := hp.l
  have hbx := hp.s
  have e1 : (L.map V.str).length = L.length := by simp
  repeat' ((conv => whnf); first | with_reducible (first | refine go1 (fun j q h => ?_) fun h => ?_ | refine go2 ⟨rfl, rfl⟩ (fun h => ?_) fun j h => ?_ | refine go2 ?_ (fun h => ?_) fun j h => ?_ | refine goQ ?_ (fun h => ?_) fun h => ?_) | apply go3 | apply go4 | apply go5 | ((first | apply go6 | apply go7 | apply go8 | apply go9 | apply goA) <;> intro h) | with_reducible (first | refine IdxK.mk _ rfl ?_ | refine call_ite (fun h => ?_) fun h => ?_ | refine goB ?_ fun hc => ?_ | refine goC ?_ fun hc => ?_ | refine goD ?_ fun hc => ?_ | refine goE ?_ fun hc => ?_ | apply goF | apply goG | refine goH ?_ fun b hb => ?_) | apply goI | apply goJ | apply goK | apply goL | apply goM | apply goN | apply goO | with_reducible refine goP ?_)
  all_goals try conv => whnf
  all_goals try (refine Side.mk ?_; try dsimp only)
  refine LoopP.mk (Nat × List Att) (fun (i, acc) => i ≤ L.length ∧ acc.length = i ∧ rdEs v (L.drop i) acc = rdEs v L []) (fun (i, acc) => ⟨59, [(0, .list c 1 (L.map V.str)), (1, .int .i64 d), (7, .int .i64 i), (6, .buf 0)], [.buf 7 0 (acc.map ea)], [0]⟩) (fun x => L.length - x.1) [.tm 6 7] (0, []) ⟨Nat.zero_le _, rfl, by rw [List.drop_zero]⟩ ?_ (fun ⟨i, acc⟩ ⟨h1, h2, h3⟩ _ _ => ?_)
  · refine Go.VG.Sub.mk rfl ?_ ?_ ?_ ?_ <;> (repeat' first | trivial | rfl | exact eqS _ _ | apply andI | apply eqA | apply eqB | apply eqC | apply eqD | apply eqE | apply eqF | apply eqG | apply eqH | apply eqI)
    all_goals first
      | rfl
      | (simp; done)
  have hst := fun h => rdEs_step (v := v) (L := L) (acc := acc) (i := i) h
  rw [h3] at hst
  have hz : i = L.length → rdEs v L [] = (0, acc) := fun q => by rw [← h3, q, List.drop_length]; rfl
  have hbi := hbx i
  have hos := fun h => ov_short (hbi h)
  have hj := (fits (L.getD i default)).j (isF 2 2)
  have hA : rdA v (L.getD i default) = rdA v (L.getD i default) := rfl
  conv at hA => rhs; unfold rdA
  repeat' ((conv => whnf); first | with_reducible (first | refine go1 (fun j q h => ?_) fun h => ?_ | refine go2 ⟨rfl, rfl⟩ (fun h => ?_) fun j h => ?_ | refine go2 ?_ (fun h => ?_) fun j h => ?_ | refine goQ ?_ (fun h => ?_) fun h => ?_) | apply go3 | apply go4 | apply go5 | ((first | apply go6 | apply go7 | apply go8 | apply go9 | apply goA) <;> intro h) | with_reducible (first | refine IdxK.mk _ rfl ?_ | refine call_ite (fun h => ?_) fun h => ?_ | refine goB ?_ fun hc => ?_ | refine goC ?_ fun hc => ?_ | refine goD ?_ fun hc => ?_ | refine goE ?_ fun hc => ?_ | apply goF | apply goG | refine goH ?_ fun b hb => ?_) | apply goI | apply goJ | apply goK | apply goL | apply goM | apply goN | apply goO | with_reducible refine goP ?_)
  all_goals try conv => whnf
  all_goals try (refine Side.mk ?_; try dsimp only)
  all_goals (try simp only [List.length_map, dePf_map] at *)
  all_goals (try simp only [Cu_eta] at *)
  all_goals first | refine stay ?_ | trivial | omega | (simp (discharger := omega) only [wR]; omega) | (simp only [lnS]; omega) | (simp (discharger := omega) [-List.getD_eq_getElem?_getD, wR] <;> omega) | skip
  all_goals try first
    | exact Nat.le_trans (hbi (by omega)) (by decide)
    | exact ⟨⟨_, rfl⟩, by have := (fits (L.getD i default)).l; have := hbi (by omega); omega⟩
    | exact hos (by omega)
    | exact ⟨by have := hbi (by omega); omega, hd0, hd1, hk⟩
  · rw [if_neg (fun z => z (by assumption)), if_neg (fun z => z (by assumption))] at hA
    have h9 := hst (by omega)
    rw [hA, if_neg (fun z => z rfl)] at h9
    refine ⟨[], (i + 1, acc ++ [_]), ⟨by show i + 1 ≤ L.length; omega, by rw [List.length_append, List.length_singleton, h2], h9.symm⟩, ?_, by show L.length - (i + 1) < L.length - i; omega⟩
    refine Go.VG.Sub.mk rfl ?_ ?_ ?_ ?_ <;> (repeat' first | trivial | rfl | exact eqS _ _ | apply andI | apply eqA | apply eqB | apply eqC | apply eqD | apply eqE | apply eqF | apply eqG | apply eqH | apply eqI)
    all_goals first
      | (rw [wi64]; omega)
      | (rw [List.map_append]; rfl)
  · rw [if_neg (fun z => z (by assumption)), if_pos (by assumption)] at hA
    rw [hst (by omega), hA, if_pos (by assumption)]
    unfold esX
    rw [if_neg (by assumption)]
    refine EndP.mk [] ?_ <;> (repeat' first | trivial | rfl | exact eqS _ _ | apply andI | apply eqA | apply eqB | apply eqC | apply eqD | apply eqE | apply eqF | apply eqG | apply eqH | apply eqI)
  · rw [if_pos (by assumption)] at hA
    rw [hst (by omega), hA, if_pos (by assumption)]
    unfold esX
    rw [if_neg (by assumption)]
    refine EndP.mk [] ?_ <;> (repeat' first | trivial | rfl | exact eqS _ _ | apply andI | apply eqA | apply eqB | apply eqC | apply eqD | apply eqE | apply eqF | apply eqG | apply eqH | apply eqI)
  · rw [hz (by omega)]
    unfold esX
    rw [if_pos rfl, encM_map]
    refine EndP.mk [.frz 0] ?_ <;> (repeat' first | trivial | rfl | exact eqS _ _ | apply andI | apply eqA | apply eqB | apply eqC | apply eqD | apply eqE | apply eqF | apply eqG | apply eqH | apply eqI)
theorem f_orEsB (v : RV) (k : Nat) (hv : SOK 6 (sm_orR v k)) (q : Nat) (L : List (List UInt8)) (d : Int) (hp : EOk L d k) : OK 8 [.buf 0, .int .i64 d] [.buf 1 q (L.map V.str)] (esX (rdEs v L [])) none := by
  refine funOK_of_vc (C := cx [(19, sm_r17All), (23, sm_r18Text), (24, sm_r18Join), (6, sm_orR v k)]) (good ⟨k_r17All, k_r18Text, k_r18Join, hv, trivial⟩) (fn := Tryd.f8) rfl rfl rfl rfl fun hw _ => ?_
  have hd0 := hp.d0
  have hd1 := hp.d1
  have hk := hp.k
  have hl := hp.l
  have hbx := hp.s
  have e1 : (L.map V.str).length = L.length := by simp
  repeat' ((conv => whnf); first | with_reducible (first | refine go1 (fun j q h => ?_) fun h => ?_ | refine go2 ⟨rfl, rfl⟩ (fun h => ?_) fun j h => ?_ | refine go2 ?_ (fun h => ?_) fun j h => ?_ | refine goQ ?_ (fun h => ?_) fun h => ?_) | apply go3 | apply go4 | apply go5 | ((first | apply go6 | apply go7 | apply go8 | apply go9 | apply goA) <;> intro h) | with_reducible (first | refine IdxK.mk _ rfl ?_ | refine call_ite (fun h => ?_) fun h => ?_ | refine goB ?_ fun hc => ?_ | refine goC ?_ fun hc => ?_ | refine goD ?_ fun hc => ?_ | refine goE ?_ fun hc => ?_ | apply goF | apply goG | refine goH ?_ fun b hb => ?_) | apply goI | apply goJ | apply goK | apply goL | apply goM | apply goN | apply goO | with_reducible refine goP ?_)
  all_goals try conv => whnf
  all_goals try (refine Side.mk ?_; try dsimp only)
  refine LoopP.mk (Nat × List Att) (fun (i, acc) => i ≤ L.length ∧ acc.length = i ∧ rdEs v (L.drop i) acc = rdEs v L []) (fun (i, acc) => ⟨59, [(0, .buf 0), (1, .int .i64 d), (7, .int .i64 i), (6, .buf 1)], [.buf 1 q (L.map V.str), .buf 7 0 (acc.map ea)], [1]⟩) (fun x => L.length - x.1) [.tm 6 7] (0, []) ⟨Nat.zero_le _, rfl, by rw [List.drop_zero]⟩ ?_ (fun ⟨i, acc⟩ ⟨h1, h2, h3⟩ _ _ => ?_)
  · refine Go.VG.Sub.mk rfl ?_ ?_ ?_ ?_ <;> (repeat' first | trivial | rfl | exact eqS _ _ | apply andI | apply eqA | apply eqB | apply eqC | apply eqD | apply eqE | apply eqF | apply eqG | apply eqH | apply eqI)
    all_goals first
      | rfl
      | (simp; done)
  have hst := fun h => rdEs_step (v := v) (L := L) (acc := acc) (i := i) h
  rw [h3] at hst
  have hz : i = L.length → rdEs v L [] = (0, acc) := fun q => by rw [← h3, q, List.drop_length]; rfl
  have hbi := hbx i
  have hos := fun h => ov_short (hbi h)
  have hj := (fits (L.getD i default)).j (isF 2 2)
  have hA : rdA v (L.getD i default) = rdA v (L.getD i default) := rfl
  conv at hA => rhs; unfold rdA
  repeat' ((conv => whnf); first | with_reducible (first | refine go1 (fun j q h => ?_) fun h => ?_ | refine go2 ⟨rfl, rfl⟩ (fun h => ?_) fun j h => ?_ | refine go2 ?_ (fun h => ?_) fun j h => ?_ | refine goQ ?_ (fun h => ?_) fun h => ?_) | apply go3 | apply go4 | apply go5 | ((first | apply go6 | apply go7 | apply go8 | apply go9 | apply goA) <;> intro h) | with_reducible (first | refine IdxK.mk _ rfl ?_ | refine call_ite (fun h => ?_) fun h => ?_ | refine goB ?_ fun hc => ?_ | refine goC ?_ fun hc => ?_ | refine goD ?_ fun hc => ?_ | refine goE ?_ fun hc => ?_ | apply goF | apply goG | refine goH ?_ fun b hb => ?_) | apply goI | apply goJ | apply goK | apply goL | apply goM | apply goN | apply goO | with_reducible refine goP ?_)
  all_goals try conv => whnf
  all_goals try (refine Side.mk ?_; try dsimp only)
  all_goals (try simp only [List.length_map, dePf_map] at *)
  all_goals (try simp only [Cu_eta] at *)
  all_goals first | refine stay ?_ | trivial | omega | (simp (discharger := omega) only [wR]; omega) | (simp only [lnS]; omega) | (simp (discharger := omega) [-List.getD_eq_getElem?_getD, wR] <;> omega) | skip
  all_goals try first
    | exact Nat.le_trans (hbi (by omega)) (by decide)
    | exact ⟨⟨_, rfl⟩, by have := (fits (L.getD i default)).l; have := hbi (by omega); omega⟩
    | exact hos (by omega)
    | exact ⟨by have := hbi (by omega); omega, hd0, hd1, hk⟩
  · rw [if_neg (fun z => z (by assumption)), if_neg (fun z => z (by assumption))] at hA
    have h9 := hst (by omega)
    rw [hA, if_neg (fun z => z rfl)] at h9
    refine ⟨[], (i + 1, acc ++ [_]), ⟨by show i + 1 ≤ L.length; omega, by rw [List.length_append, List.length_singleton, h2], h9.symm⟩, ?_, by show L.length - (i + 1) < L.length - i; omega⟩
    refine Go.VG.Sub.mk rfl ?_ ?_ ?_ ?_ <;> (repeat' first | trivial | rfl | exact eqS _ _ | apply andI | apply eqA | apply eqB | apply eqC | apply eqD | apply eqE | apply eqF | apply eqG | apply eqH | apply eqI)
    all_goals first
      | (rw [wi64]; omega)
      | (rw [List.map_append]; rfl)
  · rw [if_neg (fun z => z (by assumption)), if_pos (by assumption)] at hA
    rw [hst (by omega), hA, if_pos (by assumption)]
    unfold esX
    rw [if_neg (by assumption)]
    refine EndP.mk [] ?_ <;> (repeat' first | trivial | rfl | exact eqS _ _ | apply andI | apply eqA | apply eqB | apply eqC | apply eqD | apply eqE | apply eqF | apply eqG | apply eqH | apply eqI)
  · rw [if_pos (by assumption)] at hA
    rw [hst (by omega), hA, if_pos (by assumption)]
    unfold esX
    rw [if_neg (by assumption)]
    refine EndP.mk [] ?_ <;> (repeat' first | trivial | rfl | exact eqS _ _ | apply andI | apply eqA | apply eqB | apply eqC | apply eqD | apply eqE | apply eqF | apply eqG | apply eqH | apply eqI)
  · rw [hz (by omega)]
    unfold esX
    rw [if_pos rfl, encM_map]
    refine EndP.mk [.frz 1] ?_ <;> (repeat' first | trivial | rfl | exact eqS _ _ | apply andI | apply eqA | apply eqB | apply eqC | apply eqD | apply eqE | apply eqF | apply eqG | apply eqH | apply eqI)
def sm_orEs (v : RV) (k : Nat) : Sm := fun args σ => match args, σ with
  | [.list _ 1 l, .int .i64 d], [] => some (l = (l.map deS).map V.str ∧ EOk (l.map deS) d k, .tuple [.list false 7 (encM (rdEs v (l.map deS) []).2), .int .i64 (rdEs v (l.map deS) []).1], none)
  | [.buf 0, .int .i64 d], [.buf 1 _ l] => some (l = (l.map deS).map V.str ∧ EOk (l.map deS) d k, .tuple [.list false 7 (encM (rdEs v (l.map deS) []).2), .int .i64 (rdEs v (l.map deS) []).1], none)
  | _, _ => none
-- #name orEs truchmanref35.ReadEntries
theorem k_orEs (v : RV) (k : Nat) (hv : SOK 6 (sm_orR v k)) : SOK 8 (sm_orEs v k) := by
  intro args sg pre x r he hp
  unfold sm_orEs at he
  split at he <;> cases he
  · rename_i c l d
    obtain ⟨h1, h2⟩ := hp
    have := (f_orEs v k hv c (l.map deS) d h2).res (esX_wk rdEs_z)
    rw [← h1] at this
    exact this
  · rename_i d q l
    obtain ⟨h1, h2⟩ := hp
    have := (f_orEsB v k hv q (l.map deS) d h2).res (esX_wk rdEs_z)
    rw [← h1] at this
    exact this
/-! a list or a map -/
theorem f_orHeldM (v : RV) (K : Nat) (hv : SOK 6 (sm_orR v K)) (g6 g7 : RV) (s : List UInt8) (d : Int) (hs : s.length ≤ 9000) (hp : RdOk v K g6 g7 d) : OK 21 [.int .u8 7, .str s, .int .i64 d] [] (rX (g7 s)) none := by
  refine funOK_of_vc (C := cx [(19, sm_r17All), (39, sm_r18Each), (8, sm_orEs v K)]) (good ⟨k_r17All, k_r18Each, k_orEs v K hv, trivial⟩) (fn := Tryd.f21) rfl rfl rfl rfl fun hw _ => ?_
  have hos := ov_short hs
  have hd0 := hp.d0
  have hd1 := hp.d1
  have hhi := hp.hi
  have hlo := hp.lo
  have hb := eachT_b s
  have hw1 : d < 32 → IntKind.i64.wrap (d + 1) = d + 1 := fun q => by rw [wi64]; omega
  repeat' ((conv => whnf); first | with_reducible (first | refine go1 (fun j q h => ?_) fun h => ?_ | refine go2 ⟨rfl, rfl⟩ (fun h => ?_) fun j h => ?_ | refine go2 ?_ (fun h => ?_) fun j h => ?_ | refine goQ ?_ (fun h => ?_) fun h => ?_) | apply go3 | apply go4 | apply go5 | ((first | apply go6 | apply go7 | apply go8 | apply go9 | apply goA) <;> intro h) | with_reducible (first | refine IdxK.mk _ rfl ?_ | refine call_ite (fun h => ?_) fun h => ?_ | refine goB ?_ fun hc => ?_ | refine goC ?_ fun hc => ?_ | refine goD ?_ fun hc => ?_ | refine goE ?_ fun hc => ?_ | apply goF | apply goG | refine goH ?_ fun b hb => ?_) | apply goI | apply goJ | apply goK | apply goL | apply goM | apply goN | apply goO | with_reducible refine goP ?_)
  all_goals try conv => whnf
  all_goals try (refine Side.mk ?_; try dsimp only)
  all_goals (try simp only [dePf_map, eachT_V, deS_map] at *)
  · rw [(hhi (by omega) s).2]
    refine EndP.mk [] ?_ <;> (repeat' first | trivial | rfl | exact eqS _ _ | apply andI | apply eqA | apply eqB | apply eqC | apply eqD | apply eqE | apply eqF | apply eqG | apply eqH | apply eqI)
  · omega
  · exact ⟨⟨_, rfl⟩, by have := hos.2; omega⟩
  · exact ⟨trivial, fun i hi => Nat.le_trans (hb.2 i hi) hs, by rw [hw1 (by omega)]; omega, by rw [hw1 (by omega)]; omega, by rw [hw1 (by omega)]; have := (hlo (by omega)).2; omega, by omega⟩
  · have hr : rdM v s = rdEs v (eachT s) [] := if_neg fun q => q (by assumption)
    refine LoopP.mk Unit (fun _ => True) (fun _ => ⟨77, [(0, .int .u8 7), (6, .ptr 0 0), (9, .int .i64 (rdEs v (eachT s) []).1), (10, .ptr 2 0), (11, .buf 3), (12, .int .i64 0)], [.cells [.int .u8 0, .str [], .int .i64 0, .int .u64 0, .list true 0 [], .list true 0 []], .dead, .cells [.int .u8 7, .str [], .int .i64 0, .int .u64 0, .list true 0 [], .list false 7 (encM (rdEs v (eachT s) []).2)], .buf 1 0 ((eachT s).map V.str)], [1, 3, 4]⟩) (fun _ => 0) [] () trivial ?_ (fun _ _ _ _ => ?_)
    · refine Go.VG.Sub.mk rfl ?_ ?_ ?_ ?_ <;> (repeat' first | trivial | rfl | exact eqS _ _ | apply andI | apply eqA | apply eqB | apply eqC | apply eqD | apply eqE | apply eqF | apply eqG | apply eqH | apply eqI)
    rw [((hlo (by omega)).1 s).2, hr]
    repeat' ((conv => whnf); first | with_reducible (first | refine go1 (fun j q h => ?_) fun h => ?_ | refine go2 ⟨rfl, rfl⟩ (fun h => ?_) fun j h => ?_ | refine go2 ?_ (fun h => ?_) fun j h => ?_ | refine goQ ?_ (fun h => ?_) fun h => ?_) | apply go3 | apply go4 | apply go5 | ((first | apply go6 | apply go7 | apply go8 | apply go9 | apply goA) <;> intro h) | with_reducible (first | refine IdxK.mk _ rfl ?_ | refine call_ite (fun h => ?_) fun h => ?_ | refine goB ?_ fun hc => ?_ | refine goC ?_ fun hc => ?_ | refine goD ?_ fun hc => ?_ | refine goE ?_ fun hc => ?_ | apply goF | apply goG | refine goH ?_ fun b hb => ?_) | apply goI | apply goJ | apply goK | apply goL | apply goM | apply goN | apply goO | with_reducible refine goP ?_)
    all_goals try conv => whnf
    all_goals try (refine Side.mk ?_; try dsimp only)
    all_goals first
      | (rw [show mpV (rdEs v (eachT s) []) = (0, .mk 7 [] 0 0 [] (rdEs v (eachT s) []).2) from if_neg fun z => z (by assumption)]
         refine EndP.mk [] ?_ <;> (repeat' first | trivial | rfl | exact eqS _ _ | apply andI | apply eqA | apply eqB | apply eqC | apply eqD | apply eqE | apply eqF | apply eqG | apply eqH | apply eqI)
         done)
      | (rw [show mpV (rdEs v (eachT s) []) = ((rdEs v (eachT s) []).1, vz) from if_pos (by assumption)]
         refine EndP.mk [] ?_ <;> (repeat' first | trivial | rfl | exact eqS _ _ | apply andI | apply eqA | apply eqB | apply eqC | apply eqD | apply eqE | apply eqF | apply eqG | apply eqH | apply eqI)
         done)
  · rw [((hlo (by omega)).1 s).2, show rdM v s = (aFine s, []) from if_pos (by assumption), show mpV (aFine s, []) = (aFine s, vz) from if_pos (by assumption)]
    refine EndP.mk [] ?_ <;> (repeat' first | trivial | rfl | exact eqS _ _ | apply andI | apply eqA | apply eqB | apply eqC | apply eqD | apply eqE | apply eqF | apply eqG | apply eqH | apply eqI)
theorem f_orHeldL (v : RV) (K : Nat) (hv : SOK 6 (sm_orR v K)) (g6 g7 : RV) (s : List UInt8) (d : Int) (hs : s.length ≤ 9000) (hp : RdOk v K g6 g7 d) : OK 21 [.int .u8 6, .str s, .int .i64 d] [] (rX (g6 s)) none := by
  refine funOK_of_vc (C := cx [(19, sm_r17All), (39, sm_r18Each), (6, sm_orR v K)]) (good ⟨k_r17All, k_r18Each, hv, trivial⟩) (fn := Tryd.f21) rfl rfl rfl rfl fun hw _ => ?_
  have hos := ov_short hs
  have hd0 := hp.d0
  have hd1 := hp.d1
  have hhi := hp.hi
  have hlo := hp.lo
  have hb := eachT_b s
  have hw1 : d < 32 → IntKind.i64.wrap (d + 1) = d + 1 := fun q => by rw [wi64]; omega
  repeat' ((conv => whnf); first | with_reducible (first | refine go1 (fun j q h => ?_) fun h => ?_ | refine go2 ⟨rfl, rfl⟩ (fun h => ?_) fun j h => ?_ | refine go2 ?_ (fun h => ?_) fun j h => ?_ | refine goQ ?_ (fun h => ?_) fun h => ?_) | apply go3 | apply go4 | apply go5 | ((first | apply go6 | apply go7 | apply go8 | apply go9 | apply goA) <;> intro h) | with_reducible (first | refine IdxK.mk _ rfl ?_ | refine call_ite (fun h => ?_) fun h => ?_ | refine goB ?_ fun hc => ?_ | refine goC ?_ fun hc => ?_ | refine goD ?_ fun hc => ?_ | refine goE ?_ fun hc => ?_ | apply goF | apply goG | refine goH ?_ fun b hb => ?_) | apply goI | apply goJ | apply goK | apply goL | apply goM | apply goN | apply goO | with_reducible refine goP ?_)
  all_goals try conv => whnf
  all_goals try (refine Side.mk ?_; try dsimp only)
  all_goals (try simp only [dePf_map, eachT_V, deS_map] at *)
  · rw [(hhi (by omega) s).1]
    refine EndP.mk [] ?_ <;> (repeat' first | trivial | rfl | exact eqS _ _ | apply andI | apply eqA | apply eqB | apply eqC | apply eqD | apply eqE | apply eqF | apply eqG | apply eqH | apply eqI)
  · omega
  · exact ⟨⟨_, rfl⟩, by have := hos.2; omega⟩
  · have hr : rdL v s = rdLs v (eachT s) [] := if_neg fun q => q (by assumption)
    rw [((hlo (by omega)).1 s).1, hr]
    generalize eachT s = L at *
    have e1 : (L.map V.str).length = L.length := by simp
    refine LoopP.mk (Nat × List Val × Int) (fun (i, acc, c) => i ≤ L.length ∧ acc.length = i ∧ (c = 0 → rdLs v (L.drop i) acc = rdLs v L []) ∧ (c ≠ 0 → rdLs v L [] = (c, []))) (fun (i, acc, c) => ⟨77, [(0, .int .u8 6), (2, .int .i64 d), (6, .ptr 0 0), (9, .int .i64 c), (10, .ptr 2 0), (11, .buf 3), (12, .int .i64 i)], [.cells [.int .u8 0, .str [], .int .i64 0, .int .u64 0, .list true 0 [], .list true 0 []], .dead, .cells [.int .u8 6, .str [], .int .i64 0, .int .u64 0, .buf 4, .list true 0 []], .buf 1 0 (L.map V.str), .buf 6 0 (acc.map ev)], [1, 3, 4, 5]⟩) (fun x => L.length - x.1) [.cell 2 4 6, .swap 4 5] (0, [], 0) ⟨Nat.zero_le _, rfl, fun _ => by rw [List.drop_zero], fun q => absurd rfl q⟩ ?_ (fun ⟨i, acc, c⟩ ⟨h1, h2, h3, h4⟩ _ _ => ?_)
    · refine Go.VG.Sub.mk rfl ?_ ?_ ?_ ?_ <;> (repeat' first | trivial | rfl | exact eqS _ _ | apply andI | apply eqA | apply eqB | apply eqC | apply eqD | apply eqE | apply eqF | apply eqG | apply eqH | apply eqI)
    have hst := fun h => rdLs_step (v := v) (L := L) (acc := acc) (i := i) h
    have hz : c = 0 → i = L.length → rdLs v L [] = (0, acc) := fun q q2 => by rw [← h3 q, q2, List.drop_length]; rfl
    have hbi := hb.2 i
    repeat' ((conv => whnf); first | with_reducible (first | refine go1 (fun j q h => ?_) fun h => ?_ | refine go2 ⟨rfl, rfl⟩ (fun h => ?_) fun j h => ?_ | refine go2 ?_ (fun h => ?_) fun j h => ?_ | refine goQ ?_ (fun h => ?_) fun h => ?_) | apply go3 | apply go4 | apply go5 | ((first | apply go6 | apply go7 | apply go8 | apply go9 | apply goA) <;> intro h) | with_reducible (first | refine IdxK.mk _ rfl ?_ | refine call_ite (fun h => ?_) fun h => ?_ | refine goB ?_ fun hc => ?_ | refine goC ?_ fun hc => ?_ | refine goD ?_ fun hc => ?_ | refine goE ?_ fun hc => ?_ | apply goF | apply goG | refine goH ?_ fun b hb => ?_) | apply goI | apply goJ | apply goK | apply goL | apply goM | apply goN | apply goO | with_reducible refine goP ?_)
    all_goals try conv => whnf
    all_goals try (refine Side.mk ?_; try dsimp only)
    all_goals (try simp only [List.length_map, hw1 (by omega)] at *)
    all_goals (try simp only [Cu_eta] at *)
    all_goals first | refine stay ?_ | trivial | omega | (simp (discharger := omega) only [wR]; omega) | (simp only [lnS]; omega) | (simp (discharger := omega) [-List.getD_eq_getElem?_getD, wR] <;> omega) | skip
    · have hst := hst (by omega)
      rw [h3 (by assumption)] at hst
      refine ⟨[], (i + 1, acc ++ [(v (L.getD i default)).2], (v (L.getD i default)).1), ⟨by show i + 1 ≤ L.length; omega, by show (acc ++ [(v (L.getD i default)).2]).length = i + 1; rw [List.length_append, List.length_singleton, h2], fun q => ?_, fun q => ?_⟩, ?_, by show L.length - (i + 1) < L.length - i; omega⟩
      · rw [hst, if_neg (fun z => z q)]
      · rw [hst, if_pos q]
      · refine Go.VG.Sub.mk rfl ?_ ?_ ?_ ?_ <;> (repeat' first | trivial | rfl | exact eqS _ _ | apply andI | apply eqA | apply eqB | apply eqC | apply eqD | apply eqE | apply eqF | apply eqG | apply eqH | apply eqI)
        all_goals first
          | (rw [wi64]; omega)
          | (rw [List.map_append]; rfl)
    · exfalso; omega
    · rw [h4 (by assumption), show lsV (c, []) = (c, vz) from if_pos (by assumption)]
      refine EndP.mk [] ?_ <;> (repeat' first | trivial | rfl | exact eqS _ _ | apply andI | apply eqA | apply eqB | apply eqC | apply eqD | apply eqE | apply eqF | apply eqG | apply eqH | apply eqI)
    · rw [hz (by assumption) (by omega), show lsV (0, acc) = (0, .mk 6 [] 0 0 acc []) from if_neg fun z => z rfl]
      refine EndP.mk [.frz 4] ?_ <;> (repeat' first | trivial | rfl | exact eqS _ _ | apply andI | apply eqA | apply eqB | apply eqC | apply eqD | apply eqE | apply eqF | apply eqG | apply eqH | apply eqI)
      exact (encL_map acc).symm
    · rw [h4 (by assumption), show lsV (c, []) = (c, vz) from if_pos (by assumption)]
      refine EndP.mk [] ?_ <;> (repeat' first | trivial | rfl | exact eqS _ _ | apply andI | apply eqA | apply eqB | apply eqC | apply eqD | apply eqE | apply eqF | apply eqG | apply eqH | apply eqI)
  · rw [((hlo (by omega)).1 s).1, show rdL v s = (aFine s, []) from if_pos (by assumption), show lsV (aFine s, []) = (aFine s, vz) from if_pos (by assumption)]
    refine EndP.mk [] ?_ <;> (repeat' first | trivial | rfl | exact eqS _ _ | apply andI | apply eqA | apply eqB | apply eqC | apply eqD | apply eqE | apply eqF | apply eqG | apply eqH | apply eqI)
def hlF (g6 g7 : RV) (q : Int) (s : List UInt8) : Int × Val := if q = 6 then g6 s else g7 s
def sm_orH (v : RV) (K : Nat) (g6 g7 : RV) (d0 : Int) : Sm := fun args σ => match args, σ with
  | [.int .u8 q, .str s, .int .i64 d], [] => some ((q = 6 ∨ q = 7) ∧ s.length ≤ 9000 ∧ d = d0, .tuple [ev (hlF g6 g7 q s).2, .int .i64 (hlF g6 g7 q s).1], none)
  | _, _ => none
-- #name orH truchmanref35.held
theorem k_orH (v : RV) (K : Nat) (hv : SOK 6 (sm_orR v K)) (g6 g7 : RV) (d0 : Int) (hp : RdOk v K g6 g7 d0) (h6 : ∀ t, shV (g6 t).2) (h7 : ∀ t, shV (g7 t).2) : SOK 21 (sm_orH v K g6 g7 d0) := by
  intro args sg pre x r he hp'
  unfold sm_orH at he
  split at he <;> cases he
  rename_i q s d
  obtain ⟨h1, h2, rfl⟩ := hp'
  rcases h1 with rfl | rfl
  · exact (f_orHeldL v K hv g6 g7 s _ h2 hp).res (rX_wk (h6 s))
  · exact (f_orHeldM v K hv g6 g7 s _ h2 hp).res (rX_wk (h7 s))
/-! a value -/
theorem sel_drop {p : Pf → Bool} {l : List Pf} {j : Nat} (h : j < l.length) : selF p (l.drop j) = (if p (l.getD j default) = true then [l.getD j default] else []) ++ selF p (l.drop (j + 1)) := by
  rw [List.drop_eq_getElem_cons h, List.getD_eq_getElem?_getD, List.getElem?_eq_getElem h]
  unfold selF
  rw [List.filter_cons]
  simp only [Option.getD_some]
  split <;> rfl
theorem sel_last {p : Pf → Bool} {l : List Pf} {j : Nat} (h : j < l.length) (hp : p (l.getD j default) = true) (hn : selF p (l.drop (j + 1)) = []) : selF p l ≠ [] ∧ lastF (selF p l) = l.getD j default := by
  have e : selF p l = selF p (l.take j) ++ selF p (l.drop j) := by
    unfold selF; rw [← List.filter_append, List.take_append_drop]
  rw [sel_drop h, if_pos hp, hn, List.append_nil] at e
  rw [e]
  exact ⟨by simp, lastF_app _ _⟩
end Go.Proofs.YtkkfdkfopdjomaaDoor
