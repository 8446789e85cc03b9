/-
  Values of Protobuf: the program's readers.
-/
import Derived.Test.YtkkfdkfopdjomaaDoorOA
set_option linter.unusedSimpArgs false
set_option linter.unusedVariables false
set_option maxHeartbeats 4000000
namespace Go.Proofs.YtkkfdkfopdjomaaDoor
open Go Go.VG
set_option maxRecDepth 100000
/-- a value, as it is read -/
def evX (v : Val) : V := .agg [.int .u8 v.kind, .str v.text, .int .i64 v.num, .int .u64 v.bits, if v.kind = 6 then .list false 6 (encL v.list) else .list true 0 [], if v.kind = 7 then .list false 7 (encM v.map) else .list true 0 []]
/-- what reads a value within so many others -/
def sm_ovR (f : RV) (k : Nat) : Sm := fun args σ => match args, σ with
  | [.str s, .int .i64 d], [] => some (s.length ≤ 9000 ∧ 0 ≤ d ∧ d ≤ 1000 ∧ k = (32 - d).toNat, .tuple [ev (f s).2, .int .i64 (f s).1], none)
  | _, _ => none
def lsX (r : Int × List Val) : V := if r.1 = 0 then .tuple [.list false 6 (encL r.2), .int .i64 0] else .tuple [.list true 0 [], .int .i64 r.1]
theorem lsX_wk {r : Int × List Val} (h : r.1 ≠ 0 → r.2 = []) : Wk (lsX r) (.tuple [.list false 6 (encL r.2), .int .i64 r.1]) := by
  unfold lsX
  by_cases q : r.1 = 0
  · rw [if_pos q, q]; exact Wk.refl _
  · rw [if_neg q, h q]; exact Wk.tuple (WkL.cons (Wk.nil (.inl rfl)) (WkL.refl _))
structure SOK5 (s : List UInt8) (d : Int) (k : Nat) : Prop where
  s : s.length ≤ 9000
  d0 : 0 ≤ d
  d1 : d ≤ 1000
  k : k = (32 - d).toNat
theorem rdL_n {v : RV} {s : List UInt8} (h : aFine s ≠ 0) : rdL v s = (aFine s, []) := if_pos h
theorem rdL_y {v : RV} {s : List UInt8} (h : aFine s = 0) : rdL v s = rdLs v (eachT s) [] := if_neg fun q => q h
theorem eachT_V (s : List UInt8) : textsF (selF (isF 1 2) (aFds s)) = (eachT s).map V.str := by unfold eachT; rw [List.map_map]; rfl
theorem eachT_b (s : List UInt8) : (eachT s).length ≤ s.length ∧ ∀ i, i < (eachT s).length → ((eachT s).getD i default).length ≤ s.length := by
  constructor
  · unfold eachT
    rw [List.length_map]
    exact Nat.le_trans (List.length_filter_le ..) (fits s).l
  · intro i h
    have hm : (eachT s).getD i default ∈ eachT s := by
      rw [List.getD_eq_getElem?_getD, List.getElem?_eq_getElem h]; exact List.getElem_mem h
    obtain ⟨f, hf, e⟩ := List.mem_map.1 hm
    rw [← e]
    exact (fits s).t _ f hf
theorem ov_short {s : List UInt8} (h : s.length ≤ 9000) : (∃ a : List Pf, (aFds s).map ePf = a.map ePf ∧ shortF a) ∧ ((aFds s).map ePf).length ≤ 10000 :=
  ⟨⟨aFds s, rfl, fun f hf => Nat.le_trans ((fits s).s f hf) (by omega)⟩, by rw [List.length_map]; have := (fits s).l; omega⟩
theorem f_ovListN (v : RV) (s : List UInt8) (d : Int) (k : Nat) (hp : SOK5 s d k) (h0 : aFine s ≠ 0) : OK 17 [.str s, .int .i64 d] [] (lsX (rdL v s)) none := by
  refine funOK_of_vc (C := cx [(15, sm_pmReadN)]) (good ⟨k_pmReadN, trivial⟩) (fn := Tryd.f17) rfl rfl rfl rfl fun hw _ => ?_
  rw [rdL_n h0, show lsX (aFine s, []) = .tuple [.list true 0 [], .int .i64 (aFine s)] from if_neg h0]
  repeat' ((conv => whnf); first | with_reducible (first | refine go1 (fun j q h => ?_) fun h => ?_ | refine go2 ⟨rfl, rfl⟩ (fun h => ?_) fun j h => ?_ | refine go2 ?_ (fun h => ?_) fun j h => ?_ | refine goQ ?_ (fun h => ?_) fun h => ?_) | apply go3 | apply go4 | apply go5 | ((first | apply go6 | apply go7 | apply go8 | apply go9 | apply goA) <;> intro h) | with_reducible (first | refine IdxK.mk _ rfl ?_ | refine call_ite (fun h => ?_) fun h => ?_ | refine goB ?_ fun hc => ?_ | refine goC ?_ fun hc => ?_ | refine goD ?_ fun hc => ?_ | refine goE ?_ fun hc => ?_ | apply goF | apply goG | refine goH ?_ fun b hb => ?_) | apply goI | apply goJ | apply goK | apply goL | apply goM | apply goN | apply goO | with_reducible refine goP ?_)
  all_goals try conv => whnf
  all_goals try (refine Side.mk ?_; try dsimp only)
  · exact ⟨by have := hp.s; omega, h0⟩
  · exact absurd (by assumption) h0
  · exact absurd (by assumption) h0
  · refine EndP.mk [] ?_ <;> (repeat' first | trivial | rfl | exact eqS _ _ | apply andI | apply eqA | apply eqB | apply eqC | apply eqD | apply eqE | apply eqF | apply eqG | apply eqH | apply eqI)
theorem f_ovListY (v : RV) (k : Nat) (hv : SOK 5 (sm_ovR v k)) (s : List UInt8) (d : Int) (hp : SOK5 s d k) (h0 : aFine s = 0) : OK 17 [.str s, .int .i64 d] [] (lsX (rdL v s)) none := by
  refine funOK_of_vc (C := cx [(15, sm_pmReadY), (36, sm_pmTexts), (5, sm_ovR v k)]) (good ⟨k_pmReadY, k_pmTexts, hv, trivial⟩) (fn := Tryd.f17) rfl rfl rfl rfl fun hw _ => ?_
  rw [rdL_y h0]
  have hos := ov_short hp.s
  have hd0 := hp.d0
  have hd1 := hp.d1
  have hk := hp.k
  have hs := hp.s
  repeat' ((conv => whnf); first | with_reducible (first | refine go1 (fun j q h => ?_) fun h => ?_ | refine go2 ⟨rfl, rfl⟩ (fun h => ?_) fun j h => ?_ | refine go2 ?_ (fun h => ?_) fun j h => ?_ | refine goQ ?_ (fun h => ?_) fun h => ?_) | apply go3 | apply go4 | apply go5 | ((first | apply go6 | apply go7 | apply go8 | apply go9 | apply goA) <;> intro h) | with_reducible (first | refine IdxK.mk _ rfl ?_ | refine call_ite (fun h => ?_) fun h => ?_ | refine goB ?_ fun hc => ?_ | refine goC ?_ fun hc => ?_ | refine goD ?_ fun hc => ?_ | refine goE ?_ fun hc => ?_ | apply goF | apply goG | refine goH ?_ fun b hb => ?_) | apply goI | apply goJ | apply goK | apply goL | apply goM | apply goN | apply goO | with_reducible refine goP ?_)
  all_goals try conv => whnf
  all_goals try (refine Side.mk ?_; try dsimp only)
  all_goals (try simp only [dePf_map, eachT_V] at *)
  · exact ⟨by omega, h0⟩
  · exact hos
  have hb := eachT_b s
  generalize eachT s = L at *
  refine LoopP.mk (Nat × List Val) (fun (i, acc) => i ≤ L.length ∧ acc.length = i ∧ rdLs v (L.drop i) acc = rdLs v L []) (fun (i, acc) => ⟨43, [(1, .int .i64 d), (22, .buf 0), (23, .int .i64 L.length), (24, .int .i64 i), (8, .buf 1)], [.buf 1 0 (L.map V.str), .buf 6 0 (acc.map ev)], [0, 1, 2, 4]⟩) (fun x => L.length - x.1) [.tm 8 6, .swap 0 2, .swap 1 4] (0, []) ⟨Nat.zero_le _, rfl, by rw [List.drop_zero]⟩ ?_ (fun ⟨i, acc⟩ ⟨h1, h2, h3⟩ _ _ => ?_)
  · refine Go.VG.Sub.mk rfl ?_ ?_ ?_ ?_ <;> (repeat' first | trivial | rfl | exact eqS _ _ | apply andI | apply eqA | apply eqB | apply eqC | apply eqD | apply eqE | apply eqF | apply eqG | apply eqH | apply eqI)
    all_goals first
      | rfl
      | (simp; done)
  have hst := fun h => rdLs_step (v := v) (L := L) (acc := acc) (i := i) h
  rw [h3] at hst
  have hz : i = L.length → rdLs v L [] = (0, acc) := fun q => by rw [← h3, q, List.drop_length]; rfl
  have hbi := hb.2 i
  repeat' ((conv => whnf); first | with_reducible (first | refine go1 (fun j q h => ?_) fun h => ?_ | refine go2 ⟨rfl, rfl⟩ (fun h => ?_) fun j h => ?_ | refine go2 ?_ (fun h => ?_) fun j h => ?_ | refine goQ ?_ (fun h => ?_) fun h => ?_) | apply go3 | apply go4 | apply go5 | ((first | apply go6 | apply go7 | apply go8 | apply go9 | apply goA) <;> intro h) | with_reducible (first | refine IdxK.mk _ rfl ?_ | refine call_ite (fun h => ?_) fun h => ?_ | refine goB ?_ fun hc => ?_ | refine goC ?_ fun hc => ?_ | refine goD ?_ fun hc => ?_ | refine goE ?_ fun hc => ?_ | apply goF | apply goG | refine goH ?_ fun b hb => ?_) | apply goI | apply goJ | apply goK | apply goL | apply goM | apply goN | apply goO | with_reducible refine goP ?_)
  all_goals try conv => whnf
  all_goals try (refine Side.mk ?_; try dsimp only)
  all_goals (try simp only [List.length_map] at *)
  all_goals (try simp only [Cu_eta] at *)
  all_goals first | refine stay ?_ | trivial | omega | (simp (discharger := omega) only [wR]; omega) | (simp only [lnS]; omega) | (simp (discharger := omega) [-List.getD_eq_getElem?_getD, wR] <;> omega) | skip
  all_goals try
    (show EndP _ _ _ _ _ _
     first
     | (rw [hst (by omega), if_pos (by assumption)]
        unfold lsX
        rw [if_neg (by assumption)]
        refine EndP.mk [] ?_ <;> (repeat' first | trivial | rfl | exact eqS _ _ | apply andI | apply eqA | apply eqB | apply eqC | apply eqD | apply eqE | apply eqF | apply eqG | apply eqH | apply eqI)
        done)
     | (rw [hz (by omega)]
        unfold lsX
        rw [if_pos rfl, encL_map]
        refine EndP.mk [.frz 1] ?_ <;> (repeat' first | trivial | rfl | exact eqS _ _ | apply andI | apply eqA | apply eqB | apply eqC | apply eqD | apply eqE | apply eqF | apply eqG | apply eqH | apply eqI)
        done))
  have h9 := hst (by omega)
  rw [if_neg (show ¬ (v (L.getD i default)).1 ≠ 0 from fun z => z (by assumption))] at h9
  refine ⟨[], (i + 1, acc ++ [(v (L.getD i default)).2]), ⟨by show i + 1 ≤ L.length; omega, by show (acc ++ [(v (L.getD i default)).2]).length = i + 1; rw [List.length_append, List.length_singleton, h2], h9.symm⟩, ?_, by show L.length - (i + 1) < L.length - i; omega⟩
  refine Go.VG.Sub.mk rfl ?_ ?_ ?_ ?_ <;> (repeat' first | trivial | rfl | exact eqS _ _ | apply andI | apply eqA | apply eqB | apply eqC | apply eqD | apply eqE | apply eqF | apply eqG | apply eqH | apply eqI)
  all_goals first
    | (rw [wi64]; omega)
    | (simp; done)
def sm_ovL (v : RV) (k : Nat) : Sm := fun args σ => match args, σ with
  | [.str s, .int .i64 d], [] => some (SOK5 s d k, .tuple [.list false 6 (encL (rdL v s).2), .int .i64 (rdL v s).1], none)
  | _, _ => none
theorem rdL_z {v : RV} {s : List UInt8} (h : (rdL v s).1 ≠ 0) : (rdL v s).2 = [] := by
  unfold rdL at h ⊢
  split
  · rfl
  · rename_i q
    rw [if_neg q] at h
    exact rdLs_z h
-- #name ovL ovalue.list
theorem k_ovL (v : RV) (k : Nat) (hv : SOK 5 (sm_ovR v k)) : SOK 17 (sm_ovL v k) := by
  intro args sg pre x r he hp
  unfold sm_ovL at he
  split at he <;> cases he
  rename_i s d
  refine FunOK.res ?_ (lsX_wk rdL_z)
  by_cases h : aFine s = 0
  · exact f_ovListY v k hv s d hp h
  · exact f_ovListN v s d k hp h
/-! entries -/
def eaX (a : Att) : V := .agg [.str a.key, .int .u8 a.value.kind, .str a.value.text, .int .i64 a.value.num, .int .u64 a.value.bits, .list false 6 (encL a.value.list), .list false 7 (encM a.value.map)]
def atX (r : Int × Att) : V := if r.1 = 0 then .tuple [ea r.2, .int .i64 0] else .tuple [.agg [.str [], .int .u8 0, .str [], .int .i64 0, .int .u64 0, .list true 0 [], .list true 0 []], .int .i64 r.1]
theorem atX_wk {r : Int × Att} (h : r.1 ≠ 0 → r.2 = az) : Wk (atX r) (.tuple [ea r.2, .int .i64 r.1]) := by
  unfold atX
  by_cases q : r.1 = 0
  · rw [if_pos q, q]; exact Wk.refl _
  · rw [if_neg q, h q]
    refine Wk.tuple (WkL.cons (Wk.agg ?_) (WkL.refl _))
    exact WkL.cons (Wk.refl _) (WkL.cons (Wk.refl _) (WkL.cons (Wk.refl _) (WkL.cons (Wk.refl _) (WkL.cons (Wk.refl _) (WkL.cons (Wk.nil (.inl rfl)) (WkL.cons (Wk.nil (.inl rfl)) WkL.nil))))))
theorem rdA_z {v : RV} {s : List UInt8} (h : (rdA v s).1 ≠ 0) : (rdA v s).2 = az := by
  unfold rdA at h ⊢
  repeat' split
  · rfl
  · rfl
  · rename_i q1 q2
    rw [if_neg q1, if_neg q2] at h
    exact absurd rfl h
theorem f_ovEntryN (v : RV) (s : List UInt8) (d : Int) (k : Nat) (hp : SOK5 s d k) (h0 : aFine s ≠ 0) : OK 22 [.str s, .int .i64 d] [] (atX (rdA v s)) none := by
  refine funOK_of_vc (C := cx [(15, sm_pmReadN)]) (good ⟨k_pmReadN, trivial⟩) (fn := Tryd.f22) rfl rfl rfl rfl fun hw _ => ?_
  rw [show rdA v s = (aFine s, az) from if_pos h0, show atX (aFine s, az) = _ from if_neg h0]
  repeat' ((conv => whnf); first | with_reducible (first | refine go1 (fun j q h => ?_) fun h => ?_ | refine go2 ⟨rfl, rfl⟩ (fun h => ?_) fun j h => ?_ | refine go2 ?_ (fun h => ?_) fun j h => ?_ | refine goQ ?_ (fun h => ?_) fun h => ?_) | apply go3 | apply go4 | apply go5 | ((first | apply go6 | apply go7 | apply go8 | apply go9 | apply goA) <;> intro h) | with_reducible (first | refine IdxK.mk _ rfl ?_ | refine call_ite (fun h => ?_) fun h => ?_ | refine goB ?_ fun hc => ?_ | refine goC ?_ fun hc => ?_ | refine goD ?_ fun hc => ?_ | refine goE ?_ fun hc => ?_ | apply goF | apply goG | refine goH ?_ fun b hb => ?_) | apply goI | apply goJ | apply goK | apply goL | apply goM | apply goN | apply goO | with_reducible refine goP ?_)
  all_goals try conv => whnf
  all_goals try (refine Side.mk ?_; try dsimp only)
  · exact ⟨by have := hp.s; omega, h0⟩
  · exact absurd (by assumption) h0
  · exact absurd (by assumption) h0
  · refine EndP.mk [] ?_ <;> (repeat' first | trivial | rfl | exact eqS _ _ | apply andI | apply eqA | apply eqB | apply eqC | apply eqD | apply eqE | apply eqF | apply eqG | apply eqH | apply eqI)
theorem f_ovEntryY (v : RV) (k : Nat) (hv : SOK 5 (sm_ovR v k)) (s : List UInt8) (d : Int) (hp : SOK5 s d k) (h0 : aFine s = 0) : OK 22 [.str s, .int .i64 d] [] (atX (rdA v s)) none := by
  refine funOK_of_vc (C := cx [(15, sm_pmReadY), (40, sm_pmText), (41, sm_pmJoin), (5, sm_ovR v k)]) (good ⟨k_pmReadY, k_pmText, k_pmJoin, hv, trivial⟩) (fn := Tryd.f22) rfl rfl rfl rfl fun hw _ => ?_
  have hos := ov_short hp.s
  have hd0 := hp.d0
  have hd1 := hp.d1
  have hk := hp.k
  have hs := hp.s
  have hj := (fits s).j (isF 2 2)
  have hr : rdA v s = if (v (joinT (selF (isF 2 2) (aFds s)))).1 ≠ 0 then ((v (joinT (selF (isF 2 2) (aFds s)))).1, az) else (0, .mk (lastF (selF (isF 1 2) (aFds s))).text (v (joinT (selF (isF 2 2) (aFds s)))).2) := if_neg fun q => q h0
  repeat' ((conv => whnf); first | with_reducible (first | refine go1 (fun j q h => ?_) fun h => ?_ | refine go2 ⟨rfl, rfl⟩ (fun h => ?_) fun j h => ?_ | refine go2 ?_ (fun h => ?_) fun j h => ?_ | refine goQ ?_ (fun h => ?_) fun h => ?_) | apply go3 | apply go4 | apply go5 | ((first | apply go6 | apply go7 | apply go8 | apply go9 | apply goA) <;> intro h) | with_reducible (first | refine IdxK.mk _ rfl ?_ | refine call_ite (fun h => ?_) fun h => ?_ | refine goB ?_ fun hc => ?_ | refine goC ?_ fun hc => ?_ | refine goD ?_ fun hc => ?_ | refine goE ?_ fun hc => ?_ | apply goF | apply goG | refine goH ?_ fun b hb => ?_) | apply goI | apply goJ | apply goK | apply goL | apply goM | apply goN | apply goO | with_reducible refine goP ?_)
  all_goals try conv => whnf
  all_goals try (refine Side.mk ?_; try dsimp only)
  all_goals (try simp only [dePf_map] at *)
  · exact ⟨by omega, h0⟩
  · exact hos
  · exact hos
  · exact ⟨by omega, hd0, hd1, hk⟩
  · rw [hr, if_neg (fun z => z (by assumption))]
    unfold atX
    rw [if_pos rfl]
    refine EndP.mk [] ?_ <;> (repeat' first | trivial | rfl | exact eqS _ _ | apply andI | apply eqA | apply eqB | apply eqC | apply eqD | apply eqE | apply eqF | apply eqG | apply eqH | apply eqI)
  · rw [hr, if_pos (by assumption)]
    unfold atX
    rw [if_neg (by assumption)]
    refine EndP.mk [] ?_ <;> (repeat' first | trivial | rfl | exact eqS _ _ | apply andI | apply eqA | apply eqB | apply eqC | apply eqD | apply eqE | apply eqF | apply eqG | apply eqH | apply eqI)
def sm_ovA (v : RV) (k : Nat) : Sm := fun args σ => match args, σ with
  | [.str s, .int .i64 d], [] => some (SOK5 s d k, .tuple [ea (rdA v s).2, .int .i64 (rdA v s).1], none)
  | _, _ => none
-- #name ovA ovalue.entry
theorem k_ovA (v : RV) (k : Nat) (hv : SOK 5 (sm_ovR v k)) : SOK 22 (sm_ovA v k) := by
  intro args sg pre x r he hp
  unfold sm_ovA at he
  split at he <;> cases he
  rename_i s d
  refine FunOK.res ?_ (atX_wk rdA_z)
  by_cases h : aFine s = 0
  · exact f_ovEntryY v k hv s d hp h
  · exact f_ovEntryN v s d k hp h
/-! entries, one behind the other -/
def esX (r : Int × List Att) : V := if r.1 = 0 then .tuple [.list false 7 (encM r.2), .int .i64 0] else .tuple [.list true 0 [], .int .i64 r.1]
theorem esX_wk {r : Int × List Att} (h : r.1 ≠ 0 → r.2 = []) : Wk (esX r) (.tuple [.list false 7 (encM r.2), .int .i64 r.1]) := by
  unfold esX
  by_cases q : r.1 = 0
  · rw [if_pos q, q]; exact Wk.refl _
  · rw [if_neg q, h q]; exact Wk.tuple (WkL.cons (Wk.nil (.inl rfl)) (WkL.refl _))
structure EOk (L : List (List UInt8)) (d : Int) (k : Nat) : Prop where
  s : ∀ i, i < L.length → (L.getD i default).length ≤ 9000
  d0 : 0 ≤ d
  d1 : d ≤ 1000
  k : k = (32 - d).toNat
  l : L.length ≤ 9000
theorem f_ovEs (v : RV) (k : Nat) (hv : SOK 5 (sm_ovR v k)) (c : Bool) (L : List (List UInt8)) (d : Int) (hp : EOk L d k) : OK 7 [.list c 1 (L.map V.str), .int .i64 d] [] (esX (rdEs v L [])) none := by
  refine funOK_of_vc (C := cx [(22, sm_ovA v k)]) (good ⟨k_ovA v k hv, trivial⟩) (fn := Tryd.f7) rfl rfl rfl rfl fun hw _ => ?_
  have hd0 := hp.d0
  have hd1 := hp.d1
  have hk := hp.k
  have hl := hp.l
  have hbx := hp.s
  repeat' ((conv => whnf); first | with_reducible (first | refine go1 (fun j q h => ?_) fun h => ?_ | refine go2 ⟨rfl, rfl⟩ (fun h => ?_) fun j h => ?_ | refine go2 ?_ (fun h => ?_) fun j h => ?_ | refine goQ ?_ (fun h => ?_) fun h => ?_) | apply go3 | apply go4 | apply go5 | ((first | apply go6 | apply go7 | apply go8 | apply go9 | apply goA) <;> intro h) | with_reducible (first | refine IdxK.mk _ rfl ?_ | refine call_ite (fun h => ?_) fun h => ?_ | refine goB ?_ fun hc => ?_ | refine goC ?_ fun hc => ?_ | refine goD ?_ fun hc => ?_ | refine goE ?_ fun hc => ?_ | apply goF | apply goG | refine goH ?_ fun b hb => ?_) | apply goI | apply goJ | apply goK | apply goL | apply goM | apply goN | apply goO | with_reducible refine goP ?_)
  all_goals try conv => whnf
  all_goals try (refine Side.mk ?_; try dsimp only)
  refine LoopP.mk (Nat × List Att) (fun (i, acc) => i ≤ L.length ∧ acc.length = i ∧ rdEs v (L.drop i) acc = rdEs v L []) (fun (i, acc) => ⟨32, [(1, .int .i64 d), (11, .list c 1 (L.map V.str)), (12, .int .i64 L.length), (13, .int .i64 i), (6, .buf 0)], [.buf 7 0 (acc.map ea)], [0]⟩) (fun x => L.length - x.1) [.tm 6 7] (0, []) ⟨Nat.zero_le _, rfl, by rw [List.drop_zero]⟩ ?_ (fun ⟨i, acc⟩ ⟨h1, h2, h3⟩ _ _ => ?_)
  · refine Go.VG.Sub.mk rfl ?_ ?_ ?_ ?_ <;> (repeat' first | trivial | rfl | exact eqS _ _ | apply andI | apply eqA | apply eqB | apply eqC | apply eqD | apply eqE | apply eqF | apply eqG | apply eqH | apply eqI)
    all_goals first
      | rfl
      | (simp; done)
  have hst := fun h => rdEs_step (v := v) (L := L) (acc := acc) (i := i) h
  rw [h3] at hst
  have hz : i = L.length → rdEs v L [] = (0, acc) := fun q => by rw [← h3, q, List.drop_length]; rfl
  have hbi := hbx i
  repeat' ((conv => whnf); first | with_reducible (first | refine go1 (fun j q h => ?_) fun h => ?_ | refine go2 ⟨rfl, rfl⟩ (fun h => ?_) fun j h => ?_ | refine go2 ?_ (fun h => ?_) fun j h => ?_ | refine goQ ?_ (fun h => ?_) fun h => ?_) | apply go3 | apply go4 | apply go5 | ((first | apply go6 | apply go7 | apply go8 | apply go9 | apply goA) <;> intro h) | with_reducible (first | refine IdxK.mk _ rfl ?_ | refine call_ite (fun h => ?_) fun h => ?_ | refine goB ?_ fun hc => ?_ | refine goC ?_ fun hc => ?_ | refine goD ?_ fun hc => ?_ | refine goE ?_ fun hc => ?_ | apply goF | apply goG | refine goH ?_ fun b hb => ?_) | apply goI | apply goJ | apply goK | apply goL | apply goM | apply goN | apply goO | with_reducible refine goP ?_)
  all_goals try conv => whnf
  all_goals try (refine Side.mk ?_; try dsimp only)
  all_goals (try simp only [List.length_map] at *)
  all_goals (try simp only [Cu_eta] at *)
  all_goals first | refine stay ?_ | trivial | omega | (simp (discharger := omega) only [wR]; omega) | (simp only [lnS]; omega) | (simp (discharger := omega) [-List.getD_eq_getElem?_getD, wR] <;> omega) | skip
  all_goals try (exact ⟨hbi (by omega), hd0, hd1, hk⟩)
  all_goals try
    (show EndP _ _ _ _ _ _
     first
     | (rw [hst (by omega), if_pos (by assumption)]
        unfold esX
        rw [if_neg (by assumption)]
        refine EndP.mk [] ?_ <;> (repeat' first | trivial | rfl | exact eqS _ _ | apply andI | apply eqA | apply eqB | apply eqC | apply eqD | apply eqE | apply eqF | apply eqG | apply eqH | apply eqI)
        done)
     | (rw [hz (by omega)]
        unfold esX
        rw [if_pos rfl, encM_map]
        refine EndP.mk [.frz 0] ?_ <;> (repeat' first | trivial | rfl | exact eqS _ _ | apply andI | apply eqA | apply eqB | apply eqC | apply eqD | apply eqE | apply eqF | apply eqG | apply eqH | apply eqI)
        done)
     | (rw [hz (by omega)]
        unfold esX
        rw [if_pos rfl, encM_map]
        refine EndP.mk [.frz 1] ?_ <;> (repeat' first | trivial | rfl | exact eqS _ _ | apply andI | apply eqA | apply eqB | apply eqC | apply eqD | apply eqE | apply eqF | apply eqG | apply eqH | apply eqI)
        done))
  have h9 := hst (by omega)
  rw [if_neg (show ¬ (rdA v (L.getD i default)).1 ≠ 0 from fun z => z (by assumption))] at h9
  refine ⟨[], (i + 1, acc ++ [(rdA v (L.getD i default)).2]), ⟨by show i + 1 ≤ L.length; omega, by show (acc ++ [(rdA v (L.getD i default)).2]).length = i + 1; rw [List.length_append, List.length_singleton, h2], h9.symm⟩, ?_, by show L.length - (i + 1) < L.length - i; omega⟩
  refine Go.VG.Sub.mk rfl ?_ ?_ ?_ ?_ <;> (repeat' first | trivial | rfl | exact eqS _ _ | apply andI | apply eqA | apply eqB | apply eqC | apply eqD | apply eqE | apply eqF | apply eqG | apply eqH | apply eqI)
  all_goals first
    | (rw [wi64]; omega)
    | (simp; done)
theorem f_ovEsB (v : RV) (k : Nat) (hv : SOK 5 (sm_ovR v k)) (q : Nat) (L : List (List UInt8)) (d : Int) (hp : EOk L d k) : OK 7 [.buf 0, .int .i64 d] [.buf 1 q (L.map V.str)] (esX (rdEs v L [])) none := by
  refine funOK_of_vc (C := cx [(22, sm_ovA v k)]) (good ⟨k_ovA v k hv, trivial⟩) (fn := Tryd.f7) rfl rfl rfl rfl fun hw _ => ?_
  have hd0 := hp.d0
  have hd1 := hp.d1
  have hk := hp.k
  have hl := hp.l
  have hbx := hp.s
  repeat' ((conv => whnf); first | with_reducible (first | refine go1 (fun j q h => ?_) fun h => ?_ | refine go2 ⟨rfl, rfl⟩ (fun h => ?_) fun j h => ?_ | refine go2 ?_ (fun h => ?_) fun j h => ?_ | refine goQ ?_ (fun h => ?_) fun h => ?_) | apply go3 | apply go4 | apply go5 | ((first | apply go6 | apply go7 | apply go8 | apply go9 | apply goA) <;> intro h) | with_reducible (first | refine IdxK.mk _ rfl ?_ | refine call_ite (fun h => ?_) fun h => ?_ | refine goB ?_ fun hc => ?_ | refine goC ?_ fun hc => ?_ | refine goD ?_ fun hc => ?_ | refine goE ?_ fun hc => ?_ | apply goF | apply goG | refine goH ?_ fun b hb => ?_) | apply goI | apply goJ | apply goK | apply goL | apply goM | apply goN | apply goO | with_reducible refine goP ?_)
  all_goals try conv => whnf
  all_goals try (refine Side.mk ?_; try dsimp only)
  refine LoopP.mk (Nat × List Att) (fun (i, acc) => i ≤ L.length ∧ acc.length = i ∧ rdEs v (L.drop i) acc = rdEs v L []) (fun (i, acc) => ⟨32, [(1, .int .i64 d), (11, .buf 0), (12, .int .i64 L.length), (13, .int .i64 i), (6, .buf 1)], [.buf 1 q (L.map V.str), .buf 7 0 (acc.map ea)], [1]⟩) (fun x => L.length - x.1) [.tm 6 7] (0, []) ⟨Nat.zero_le _, rfl, by rw [List.drop_zero]⟩ ?_ (fun ⟨i, acc⟩ ⟨h1, h2, h3⟩ _ _ => ?_)
  · refine Go.VG.Sub.mk rfl ?_ ?_ ?_ ?_ <;> (repeat' first | trivial | rfl | exact eqS _ _ | apply andI | apply eqA | apply eqB | apply eqC | apply eqD | apply eqE | apply eqF | apply eqG | apply eqH | apply eqI)
    all_goals first
      | rfl
      | (simp; done)
  have hst := fun h => rdEs_step (v := v) (L := L) (acc := acc) (i := i) h
  rw [h3] at hst
  have hz : i = L.length → rdEs v L [] = (0, acc) := fun q => by rw [← h3, q, List.drop_length]; rfl
  have hbi := hbx i
  repeat' ((conv => whnf); first | with_reducible (first | refine go1 (fun j q h => ?_) fun h => ?_ | refine go2 ⟨rfl, rfl⟩ (fun h => ?_) fun j h => ?_ | refine go2 ?_ (fun h => ?_) fun j h => ?_ | refine goQ ?_ (fun h => ?_) fun h => ?_) | apply go3 | apply go4 | apply go5 | ((first | apply go6 | apply go7 | apply go8 | apply go9 | apply goA) <;> intro h) | with_reducible (first | refine IdxK.mk _ rfl ?_ | refine call_ite (fun h => ?_) fun h => ?_ | refine goB ?_ fun hc => ?_ | refine goC ?_ fun hc => ?_ | refine goD ?_ fun hc => ?_ | refine goE ?_ fun hc => ?_ | apply goF | apply goG | refine goH ?_ fun b hb => ?_) | apply goI | apply goJ | apply goK | apply goL | apply goM | apply goN | apply goO | with_reducible refine goP ?_)
  all_goals try conv => whnf
  all_goals try (refine Side.mk ?_; try dsimp only)
  all_goals (try simp only [List.length_map] at *)
  all_goals (try simp only [Cu_eta] at *)
  all_goals first | refine stay ?_ | trivial | omega | (simp (discharger := omega) only [wR]; omega) | (simp only [lnS]; omega) | (simp (discharger := omega) [-List.getD_eq_getElem?_getD, wR] <;> omega) | skip
  all_goals try (exact ⟨hbi (by omega), hd0, hd1, hk⟩)
  all_goals try
    (show EndP _ _ _ _ _ _
     first
     | (rw [hst (by omega), if_pos (by assumption)]
        unfold esX
        rw [if_neg (by assumption)]
        refine EndP.mk [] ?_ <;> (repeat' first | trivial | rfl | exact eqS _ _ | apply andI | apply eqA | apply eqB | apply eqC | apply eqD | apply eqE | apply eqF | apply eqG | apply eqH | apply eqI)
        done)
     | (rw [hz (by omega)]
        unfold esX
        rw [if_pos rfl, encM_map]
        refine EndP.mk [.frz 0] ?_ <;> (repeat' first | trivial | rfl | exact eqS _ _ | apply andI | apply eqA | apply eqB | apply eqC | apply eqD | apply eqE | apply eqF | apply eqG | apply eqH | apply eqI)
        done)
     | (rw [hz (by omega)]
        unfold esX
        rw [if_pos rfl, encM_map]
        refine EndP.mk [.frz 1] ?_ <;> (repeat' first | trivial | rfl | exact eqS _ _ | apply andI | apply eqA | apply eqB | apply eqC | apply eqD | apply eqE | apply eqF | apply eqG | apply eqH | apply eqI)
        done))
  have h9 := hst (by omega)
  rw [if_neg (show ¬ (rdA v (L.getD i default)).1 ≠ 0 from fun z => z (by assumption))] at h9
  refine ⟨[], (i + 1, acc ++ [(rdA v (L.getD i default)).2]), ⟨by show i + 1 ≤ L.length; omega, by show (acc ++ [(rdA v (L.getD i default)).2]).length = i + 1; rw [List.length_append, List.length_singleton, h2], h9.symm⟩, ?_, by show L.length - (i + 1) < L.length - i; omega⟩
  refine Go.VG.Sub.mk rfl ?_ ?_ ?_ ?_ <;> (repeat' first | trivial | rfl | exact eqS _ _ | apply andI | apply eqA | apply eqB | apply eqC | apply eqD | apply eqE | apply eqF | apply eqG | apply eqH | apply eqI)
  all_goals first
    | (rw [wi64]; omega)
    | (simp; done)
end Go.Proofs.YtkkfdkfopdjomaaDoor
