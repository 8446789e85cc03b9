/-
  Values of Protobuf: the program's reader of a value.
-/
import Derived.Test.YtkkfdkfopdjomaaDoorOB
set_option linter.unusedSimpArgs false
set_option linter.unusedVariables false
set_option maxHeartbeats 4000000
namespace Go.Proofs.YtkkfdkfopdjomaaDoor
open Go Go.VG
set_option maxRecDepth 100000
def deS : V → List UInt8
  | .str s => s
  | _ => []
theorem deS_map (L : List (List UInt8)) : (L.map V.str).map deS = L := by
  rw [List.map_map]
  exact (List.map_congr_left (g := id) fun _ _ => rfl).trans (List.map_id _)
def sm_ovEs (v : RV) (k : Nat) : Sm := fun args σ => match args, σ with
  | [.list _ 1 l, .int .i64 d], [] => some (l = (l.map deS).map V.str ∧ EOk (l.map deS) d k, .tuple [.list false 7 (encM (rdEs v (l.map deS) []).2), .int .i64 (rdEs v (l.map deS) []).1], none)
  | [.buf 0, .int .i64 d], [.buf 1 _ l] => some (l = (l.map deS).map V.str ∧ EOk (l.map deS) d k, .tuple [.list false 7 (encM (rdEs v (l.map deS) []).2), .int .i64 (rdEs v (l.map deS) []).1], none)
  | _, _ => none
-- #name ovEs ovalue.ReadEntries
theorem k_ovEs (v : RV) (k : Nat) (hv : SOK 5 (sm_ovR v k)) : SOK 7 (sm_ovEs v k) := by
  intro args sg pre x r he hp
  unfold sm_ovEs at he
  split at he <;> cases he
  · rename_i c l d
    obtain ⟨h1, h2⟩ := hp
    have := (f_ovEs v k hv c (l.map deS) d h2).res (esX_wk rdEs_z)
    rw [← h1] at this
    exact this
  · rename_i d q l
    obtain ⟨h1, h2⟩ := hp
    have := (f_ovEsB v k hv q (l.map deS) d h2).res (esX_wk rdEs_z)
    rw [← h1] at this
    exact this
theorem f_ovEntsN (v : RV) (s : List UInt8) (d : Int) (k : Nat) (hp : SOK5 s d k) (h0 : aFine s ≠ 0) : OK 18 [.str s, .int .i64 d] [] (.tuple [.list true 0 [], .int .i64 (aFine s)]) none := by
  refine funOK_of_vc (C := cx [(15, sm_pmReadN)]) (good ⟨k_pmReadN, trivial⟩) (fn := Tryd.f18) rfl rfl rfl rfl fun hw _ => ?_
  repeat' ((conv => whnf); first | with_reducible (first | refine go1 (fun j q h => ?_) fun h => ?_ | refine go2 ⟨rfl, rfl⟩ (fun h => ?_) fun j h => ?_ | refine go2 ?_ (fun h => ?_) fun j h => ?_ | refine goQ ?_ (fun h => ?_) fun h => ?_) | apply go3 | apply go4 | apply go5 | ((first | apply go6 | apply go7 | apply go8 | apply go9 | apply goA) <;> intro h) | with_reducible (first | refine IdxK.mk _ rfl ?_ | refine call_ite (fun h => ?_) fun h => ?_ | refine goB ?_ fun hc => ?_ | refine goC ?_ fun hc => ?_ | refine goD ?_ fun hc => ?_ | refine goE ?_ fun hc => ?_ | apply goF | apply goG | refine goH ?_ fun b hb => ?_) | apply goI | apply goJ | apply goK | apply goL | apply goM | apply goN | apply goO | with_reducible refine goP ?_)
  all_goals try conv => whnf
  all_goals try (refine Side.mk ?_; try dsimp only)
  · exact ⟨by have := hp.s; omega, h0⟩
  · exact absurd (by assumption) h0
  · exact absurd (by assumption) h0
  · refine EndP.mk [] ?_ <;> (repeat' first | trivial | rfl | exact eqS _ _ | apply andI | apply eqA | apply eqB | apply eqC | apply eqD | apply eqE | apply eqF | apply eqG | apply eqH | apply eqI)
theorem f_ovEntsY (v : RV) (k : Nat) (hv : SOK 5 (sm_ovR v k)) (s : List UInt8) (d : Int) (hp : SOK5 s d k) (h0 : aFine s = 0) : OK 18 [.str s, .int .i64 d] [] (.tuple [.list false 7 (encM (rdM v s).2), .int .i64 (rdM v s).1]) none := by
  refine funOK_of_vc (C := cx [(15, sm_pmReadY), (36, sm_pmTexts), (7, sm_ovEs v k)]) (good ⟨k_pmReadY, k_pmTexts, k_ovEs v k hv, trivial⟩) (fn := Tryd.f18) rfl rfl rfl rfl fun hw _ => ?_
  have hos := ov_short hp.s
  have hs := hp.s
  have hb := eachT_b s
  have hr : rdM v s = rdEs v (eachT s) [] := if_neg fun q => q h0
  repeat' ((conv => whnf); first | with_reducible (first | refine go1 (fun j q h => ?_) fun h => ?_ | refine go2 ⟨rfl, rfl⟩ (fun h => ?_) fun j h => ?_ | refine go2 ?_ (fun h => ?_) fun j h => ?_ | refine goQ ?_ (fun h => ?_) fun h => ?_) | apply go3 | apply go4 | apply go5 | ((first | apply go6 | apply go7 | apply go8 | apply go9 | apply goA) <;> intro h) | with_reducible (first | refine IdxK.mk _ rfl ?_ | refine call_ite (fun h => ?_) fun h => ?_ | refine goB ?_ fun hc => ?_ | refine goC ?_ fun hc => ?_ | refine goD ?_ fun hc => ?_ | refine goE ?_ fun hc => ?_ | apply goF | apply goG | refine goH ?_ fun b hb => ?_) | apply goI | apply goJ | apply goK | apply goL | apply goM | apply goN | apply goO | with_reducible refine goP ?_)
  all_goals try conv => whnf
  all_goals try (refine Side.mk ?_; try dsimp only)
  all_goals (try simp only [dePf_map, eachT_V, deS_map] at *)
  · exact ⟨by omega, h0⟩
  · exact hos
  · exact ⟨trivial, fun i hi => Nat.le_trans (hb.2 i hi) hs, hp.d0, hp.d1, hp.k, by omega⟩
  · rw [hr]
    refine EndP.mk [] ?_ <;> (repeat' first | trivial | rfl | exact eqS _ _ | apply andI | apply eqA | apply eqB | apply eqC | apply eqD | apply eqE | apply eqF | apply eqG | apply eqH | apply eqI)
def sm_ovM (v : RV) (k : Nat) : Sm := fun args σ => match args, σ with
  | [.str s, .int .i64 d], [] => some (SOK5 s d k, .tuple [.list false 7 (encM (rdM v s).2), .int .i64 (rdM v s).1], none)
  | _, _ => none
-- #name ovM ovalue.entries
theorem k_ovM (v : RV) (k : Nat) (hv : SOK 5 (sm_ovR v k)) : SOK 18 (sm_ovM v k) := by
  intro args sg pre x r he hp
  unfold sm_ovM at he
  split at he <;> cases he
  rename_i s d
  by_cases h : aFine s = 0
  · exact f_ovEntsY v k hv s d hp h
  · rw [show rdM v s = (aFine s, []) from if_pos h]
    exact (f_ovEntsN v s d k hp h).res (Wk.tuple (WkL.cons (Wk.nil (.inl rfl)) (WkL.refl _)))
/-! a value -/
def rX (r : Int × Val) : V := .tuple [evX r.2, .int .i64 r.1]
theorem kd_no {f : Pf} (h : kdF f ≠ 0) : (kdF f = 1 ∧ f.no = 1) ∨ (kdF f = 2 ∧ f.no = 2) ∨ (kdF f = 3 ∧ f.no = 3) ∨ (kdF f = 4 ∧ f.no = 4) ∨ (kdF f = 5 ∧ f.no = 7) ∨ (kdF f = 6 ∧ f.no = 5) ∨ (kdF f = 7 ∧ f.no = 6) := by
  have e : kdF f = kdF f := rfl
  conv at e => rhs; unfold kdF
  by_cases c0 : f.wi = 2 ∧ f.no = 1
  · rw [if_pos c0] at e
    omega
  rw [if_neg c0] at e
  by_cases c1 : f.wi = 0 ∧ f.no = 2
  · rw [if_pos c1] at e
    omega
  rw [if_neg c1] at e
  by_cases c2 : f.wi = 0 ∧ f.no = 3
  · rw [if_pos c2] at e
    omega
  rw [if_neg c2] at e
  by_cases c3 : f.wi = 1 ∧ f.no = 4
  · rw [if_pos c3] at e
    omega
  rw [if_neg c3] at e
  by_cases c4 : f.wi = 2 ∧ f.no = 5
  · rw [if_pos c4] at e
    omega
  rw [if_neg c4] at e
  by_cases c5 : f.wi = 2 ∧ f.no = 6
  · rw [if_pos c5] at e
    omega
  rw [if_neg c5] at e
  by_cases c6 : f.wi = 2 ∧ f.no = 7
  · rw [if_pos c6] at e
    omega
  rw [if_neg c6] at e
  exact absurd e h
theorem oneV_1 {f : Pf} (h : kdF f = 1) : oneV f = .mk 1 f.text 0 0 [] [] := by unfold oneV; rw [if_neg (by omega), if_neg (by omega), if_neg (by omega), if_neg (by omega)]
theorem oneV_2 {f : Pf} (h : kdF f = 2) : oneV f = .mk 2 [] (IntKind.i64.wrap (if 1 < f.num then 1 else f.num)) 0 [] [] := by unfold oneV; rw [if_pos h]
theorem oneV_3 {f : Pf} (h : kdF f = 3) : oneV f = .mk 3 [] (IntKind.i64.wrap f.num) 0 [] [] := by unfold oneV; rw [if_neg (by omega), if_pos h]
theorem oneV_4 {f : Pf} (h : kdF f = 4) : oneV f = .mk 4 [] 0 f.num [] [] := by unfold oneV; rw [if_neg (by omega), if_neg (by omega), if_pos h]
theorem oneV_5 {f : Pf} (h : kdF f = 5) : oneV f = .mk 5 f.text 0 0 [] [] := by unfold oneV; rw [if_neg (by omega), if_neg (by omega), if_neg (by omega), if_pos h]
theorem f_ovReadN (g6 g7 : RV) (s : List UInt8) (d : Int) (hs : s.length ≤ 9000) (h0 : aFine s ≠ 0) : OK 5 [.str s, .int .i64 d] [] (rX (rdB g6 g7 s)) none := by
  refine funOK_of_vc (C := cx [(15, sm_pmReadN)]) (good ⟨k_pmReadN, trivial⟩) (fn := Tryd.f5) rfl rfl rfl rfl fun hw _ => ?_
  rw [show rdB g6 g7 s = (aFine s, vz) from if_pos h0]
  repeat' ((conv => whnf); first | with_reducible (first | refine go1 (fun j q h => ?_) fun h => ?_ | refine go2 ⟨rfl, rfl⟩ (fun h => ?_) fun j h => ?_ | refine go2 ?_ (fun h => ?_) fun j h => ?_ | refine goQ ?_ (fun h => ?_) fun h => ?_) | apply go3 | apply go4 | apply go5 | ((first | apply go6 | apply go7 | apply go8 | apply go9 | apply goA) <;> intro h) | with_reducible (first | refine IdxK.mk _ rfl ?_ | refine call_ite (fun h => ?_) fun h => ?_ | refine goB ?_ fun hc => ?_ | refine goC ?_ fun hc => ?_ | refine goD ?_ fun hc => ?_ | refine goE ?_ fun hc => ?_ | apply goF | apply goG | refine goH ?_ fun b hb => ?_) | apply goI | apply goJ | apply goK | apply goL | apply goM | apply goN | apply goO | with_reducible refine goP ?_)
  all_goals try conv => whnf
  all_goals try (refine Side.mk ?_; try dsimp only)
  · exact ⟨by omega, h0⟩
  · exact absurd (by assumption) h0
  · refine EndP.mk [] ?_ <;> (repeat' first | trivial | rfl | exact eqS _ _ | apply andI | apply eqA | apply eqB | apply eqC | apply eqD | apply eqE | apply eqF | apply eqG | apply eqH | apply eqI)
structure RdOk (v : RV) (K : Nat) (g6 g7 : RV) (d : Int) : Prop where
  d0 : 0 ≤ d
  d1 : d ≤ 1000
  hi : d ≥ 32 → ∀ t, g6 t = (33, vz) ∧ g7 t = (33, vz)
  lo : d < 32 → (∀ t, g6 t = lsV (rdL v t) ∧ g7 t = mpV (rdM v t)) ∧ K + 1 = (32 - d).toNat
theorem f_ovReadY (v : RV) (K : Nat) (hv : SOK 5 (sm_ovR v K)) (g6 g7 : RV) (s : List UInt8) (d : Int) (hs : s.length ≤ 9000) (hp : RdOk v K g6 g7 d) (h0 : aFine s = 0) : OK 5 [.str s, .int .i64 d] [] (rX (rdB g6 g7 s)) none := by
  refine funOK_of_vc (C := cx [(15, sm_pmReadY), (16, sm_pmLast), (17, sm_ovL v K), (18, sm_ovM v K)]) (good ⟨k_pmReadY, k_pmLast, k_ovL v K hv, k_ovM v K hv, trivial⟩) (fn := Tryd.f5) rfl rfl rfl rfl fun hw _ => ?_
  have hos := ov_short hs
  have hd0 := hp.d0
  have hd1 := hp.d1
  have hhi := hp.hi
  have hlo := hp.lo
  repeat' ((conv => whnf); first | with_reducible (first | refine go1 (fun j q h => ?_) fun h => ?_ | refine go2 ⟨rfl, rfl⟩ (fun h => ?_) fun j h => ?_ | refine go2 ?_ (fun h => ?_) fun j h => ?_ | refine goQ ?_ (fun h => ?_) fun h => ?_) | apply go3 | apply go4 | apply go5 | ((first | apply go6 | apply go7 | apply go8 | apply go9 | apply goA) <;> intro h) | with_reducible (first | refine IdxK.mk _ rfl ?_ | refine call_ite (fun h => ?_) fun h => ?_ | refine goB ?_ fun hc => ?_ | refine goC ?_ fun hc => ?_ | refine goD ?_ fun hc => ?_ | refine goE ?_ fun hc => ?_ | apply goF | apply goG | refine goH ?_ fun b hb => ?_) | apply goI | apply goJ | apply goK | apply goL | apply goM | apply goN | apply goO | with_reducible refine goP ?_)
  all_goals try conv => whnf
  all_goals try (refine Side.mk ?_; try dsimp only)
  · exact ⟨by omega, h0⟩
  refine LoopP.mk Nat (fun j => j ≤ 7) (fun j => ⟨115, [(1, .int .i64 d), (4, .ptr 0 0), (6, .ptr 1 0), (7, .int .i64 0), (8, .buf 3), (9, .int .u8 (j + 1 : Nat))], [.cells [.int .u8 0, .str [], .int .i64 0, .int .u64 0, .list true 0 [], .list true 0 []], .cells [.buf 2], .buf 4 0 ((aFds s).map ePf), .buf 2 0 ((T7.take j).map eTg)], [0, 1, 2, 3]⟩) (fun j => 7 - j) [.tm 8 2] 0 (Nat.zero_le _) ?_ (fun j hj _ _ => ?_)
  · refine Go.VG.Sub.mk rfl ?_ ?_ ?_ ?_ <;> (repeat' first | trivial | rfl | exact eqS _ _ | apply andI | apply eqA | apply eqB | apply eqC | apply eqD | apply eqE | apply eqF | apply eqG | apply eqH | apply eqI)
  obtain ⟨m, hm⟩ : ∃ m, m = j + 1 := ⟨_, rfl⟩
  by_cases h7 : j ≠ 7
  · have hj8 : j = 0 ∨ j = 1 ∨ j = 2 ∨ j = 3 ∨ j = 4 ∨ j = 5 ∨ j = 6 := by omega
    rcases hj8 with rfl | rfl | rfl | rfl | rfl | rfl | rfl
    all_goals
      repeat' ((conv => whnf); first | with_reducible (first | refine go1 (fun j q h => ?_) fun h => ?_ | refine go2 ⟨rfl, rfl⟩ (fun h => ?_) fun j h => ?_ | refine go2 ?_ (fun h => ?_) fun j h => ?_ | refine goQ ?_ (fun h => ?_) fun h => ?_) | apply go3 | apply go4 | apply go5 | ((first | apply go6 | apply go7 | apply go8 | apply go9 | apply goA) <;> intro h) | with_reducible (first | refine IdxK.mk _ rfl ?_ | refine call_ite (fun h => ?_) fun h => ?_ | refine goB ?_ fun hc => ?_ | refine goC ?_ fun hc => ?_ | refine goD ?_ fun hc => ?_ | refine goE ?_ fun hc => ?_ | apply goF | apply goG | refine goH ?_ fun b hb => ?_) | apply goI | apply goJ | apply goK | apply goL | apply goM | apply goN | apply goO | with_reducible refine goP ?_)
      all_goals try conv => whnf
      all_goals try (refine Side.mk ?_; try dsimp only)
      all_goals first
        | (constructor <;> decide)
        | decide
        | skip
      refine ⟨[], m, by omega, ?_, by omega⟩
      subst hm
      refine Go.VG.Sub.mk rfl ?_ ?_ ?_ ?_ <;> (repeat' first | trivial | rfl | exact eqS _ _ | apply andI | apply eqA | apply eqB | apply eqC | apply eqD | apply eqE | apply eqF | apply eqG | apply eqH | apply eqI)
  have h7 : j = 7 := by omega
  subst h7
  clear hm
  have e7 : ((T7.take 7).map eTg).map deTg = T7 := rfl
  have hrB : rdB g6 g7 s = if selF (inT T7) (aFds s) = [] then (0, vz)
    else if kdF (lastF (selF (inT T7) (aFds s))) = 6 then g6 (lastF (selF (inT T7) (aFds s))).text
    else if kdF (lastF (selF (inT T7) (aFds s))) = 7 then g7 (lastF (selF (inT T7) (aFds s))).text
    else (0, oneV (lastF (selF (inT T7) (aFds s)))) := if_neg fun q => q h0
  have hfm : selF (inT T7) (aFds s) ≠ [] → kdF (lastF (selF (inT T7) (aFds s))) ≠ 0 ∧ (lastF (selF (inT T7) (aFds s))).text.length ≤ s.length := fun q => by
    have := last_mem q
    exact ⟨(inT7 _).1 (List.mem_filter.1 this).2, (fits s).t _ _ this⟩
  rw [hrB]
  repeat' ((conv => whnf); first | with_reducible (first | refine go1 (fun j q h => ?_) fun h => ?_ | refine go2 ⟨rfl, rfl⟩ (fun h => ?_) fun j h => ?_ | refine go2 ?_ (fun h => ?_) fun j h => ?_ | refine goQ ?_ (fun h => ?_) fun h => ?_) | apply go3 | apply go4 | apply go5 | ((first | apply go6 | apply go7 | apply go8 | apply go9 | apply goA) <;> intro h) | with_reducible (first | refine IdxK.mk _ rfl ?_ | refine call_ite (fun h => ?_) fun h => ?_ | refine goB ?_ fun hc => ?_ | refine goC ?_ fun hc => ?_ | refine goD ?_ fun hc => ?_ | refine goE ?_ fun hc => ?_ | apply goF | apply goG | refine goH ?_ fun b hb => ?_) | apply goI | apply goJ | apply goK | apply goL | apply goM | apply goN | apply goO | with_reducible refine goP ?_)
  all_goals try conv => whnf
  all_goals try (refine Side.mk ?_; try dsimp only)
  all_goals (try simp only [dePf_map, e7] at *)
  · exact ⟨hos.1, hos.2, ⟨T7, rfl⟩, by decide⟩
  · rename_i h
    have hE : selF (inT T7) (aFds s) = [] := by simpa [anyF] using h
    rw [if_pos hE]
    refine EndP.mk [] ?_ <;> (repeat' first | trivial | rfl | exact eqS _ _ | apply andI | apply eqA | apply eqB | apply eqC | apply eqD | apply eqE | apply eqF | apply eqG | apply eqH | apply eqI)
  rename_i h
  have hE : selF (inT T7) (aFds s) ≠ [] := by simpa [anyF] using h
  obtain ⟨hk0, htx⟩ := hfm hE
  rw [if_neg hE]
  generalize lastF (selF (inT T7) (aFds s)) = f at *
  have hkn := kd_no hk0
  refine LoopP.mk Nat (fun q => 1 ≤ q ∧ (q : Int) ≤ kdF f) (fun q => ⟨115, [(1, .int .i64 d), (4, .ptr 0 0), (7, .int .i64 0), (10, .ptr 4 0), (12, .ptr 5 0)], [.cells [.int .u8 0, .str [], .int .i64 0, .int .u64 0, .list true 0 [], .list true 0 []], .dead, .dead, .dead, .cells [.int .i64 f.no, .int .i64 f.wi, .int .u64 f.num, .str f.text], .cells [.int .u8 q, .str [], .int .i64 0, .int .u64 0, .list true 0 [], .list true 0 []]], [0, 1, 2, 3]⟩) (fun q => 8 - q) [] 1 ⟨Nat.le_refl 1, by omega⟩ ?_ (fun q hq _ _ => ?_)
  · refine Go.VG.Sub.mk rfl ?_ ?_ ?_ ?_ <;> (repeat' first | trivial | rfl | exact eqS _ _ | apply andI | apply eqA | apply eqB | apply eqC | apply eqD | apply eqE | apply eqF | apply eqG | apply eqH | apply eqI)
  obtain ⟨m, hm⟩ : ∃ m, m = q + 1 := ⟨_, rfl⟩
  have hq8 : q = 1 ∨ q = 2 ∨ q = 3 ∨ q = 4 ∨ q = 5 ∨ q = 6 ∨ q = 7 := by omega
  have hw1 : IntKind.i64.wrap (d + 1) = d + 1 := by rw [wi64]; omega
  have hS : d < 32 → SOK5 f.text (d + 1) K := fun q => ⟨by omega, by omega, by omega, by have := (hlo q).2; omega⟩
  rcases hq8 with rfl | rfl | rfl | rfl | rfl | rfl | rfl
  all_goals
    repeat' ((conv => whnf); first | with_reducible (first | refine go1 (fun j q h => ?_) fun h => ?_ | refine go2 ⟨rfl, rfl⟩ (fun h => ?_) fun j h => ?_ | refine go2 ?_ (fun h => ?_) fun j h => ?_ | refine goQ ?_ (fun h => ?_) fun h => ?_) | apply go3 | apply go4 | apply go5 | ((first | apply go6 | apply go7 | apply go8 | apply go9 | apply goA) <;> intro h) | with_reducible (first | refine IdxK.mk _ rfl ?_ | refine call_ite (fun h => ?_) fun h => ?_ | refine goB ?_ fun hc => ?_ | refine goC ?_ fun hc => ?_ | refine goD ?_ fun hc => ?_ | refine goE ?_ fun hc => ?_ | apply goF | apply goG | refine goH ?_ fun b hb => ?_) | apply goI | apply goJ | apply goK | apply goL | apply goM | apply goN | apply goO | with_reducible refine goP ?_)
    all_goals try conv => whnf
    all_goals try (refine Side.mk ?_; try dsimp only)
    all_goals (try simp only [hw1] at *)
    all_goals (try simp only [Cu_eta] at *)
    all_goals first | refine stay ?_ | trivial | omega | (simp (discharger := omega) only [wR]; omega) | (simp only [lnS]; omega) | (simp (discharger := omega) [-List.getD_eq_getElem?_getD, wR] <;> omega) | skip
    all_goals first
      | (constructor <;> decide)
      | decide
      | exact hS (by omega)
      | (exfalso; omega)
      | skip
  all_goals try
    (refine ⟨[], m, ⟨by omega, by omega⟩, ?_, by omega⟩
     subst hm
     refine Go.VG.Sub.mk rfl ?_ ?_ ?_ ?_ <;> (repeat' first | trivial | rfl | exact eqS _ _ | apply andI | apply eqA | apply eqB | apply eqC | apply eqD | apply eqE | apply eqF | apply eqG | apply eqH | apply eqI)
     done)
  · rw [if_neg (by omega), if_neg (by omega), oneV_1 (by omega)]
    refine EndP.mk [] ?_ <;> (repeat' first | trivial | rfl | exact eqS _ _ | apply andI | apply eqA | apply eqB | apply eqC | apply eqD | apply eqE | apply eqF | apply eqG | apply eqH | apply eqI)
  · rw [if_neg (by omega), if_neg (by omega), oneV_2 (by omega)]
    refine EndP.mk [] ?_ <;> (repeat' first | trivial | rfl | exact eqS _ _ | apply andI | apply eqA | apply eqB | apply eqC | apply eqD | apply eqE | apply eqF | apply eqG | apply eqH | apply eqI)
  · rw [if_neg (by omega), if_neg (by omega), oneV_3 (by omega)]
    refine EndP.mk [] ?_ <;> (repeat' first | trivial | rfl | exact eqS _ _ | apply andI | apply eqA | apply eqB | apply eqC | apply eqD | apply eqE | apply eqF | apply eqG | apply eqH | apply eqI)
  · rw [if_neg (by omega), if_neg (by omega), oneV_4 (by omega)]
    refine EndP.mk [] ?_ <;> (repeat' first | trivial | rfl | exact eqS _ _ | apply andI | apply eqA | apply eqB | apply eqC | apply eqD | apply eqE | apply eqF | apply eqG | apply eqH | apply eqI)
  · rw [if_neg (by omega), if_neg (by omega), oneV_5 (by omega)]
    refine EndP.mk [] ?_ <;> (repeat' first | trivial | rfl | exact eqS _ _ | apply andI | apply eqA | apply eqB | apply eqC | apply eqD | apply eqE | apply eqF | apply eqG | apply eqH | apply eqI)
  · rw [if_pos (by omega), (hhi (by omega) _).1]
    refine EndP.mk [] ?_ <;> (repeat' first | trivial | rfl | exact eqS _ _ | apply andI | apply eqA | apply eqB | apply eqC | apply eqD | apply eqE | apply eqF | apply eqG | apply eqH | apply eqI)
  · rw [if_pos (by omega), ((hlo (by omega)).1 _).1, show lsV (rdL v f.text) = (0, .mk 6 [] 0 0 (rdL v f.text).2 []) from if_neg fun z => z (by assumption)]
    refine EndP.mk [] ?_ <;> (repeat' first | trivial | rfl | exact eqS _ _ | apply andI | apply eqA | apply eqB | apply eqC | apply eqD | apply eqE | apply eqF | apply eqG | apply eqH | apply eqI)
  · rw [if_pos (by omega), ((hlo (by omega)).1 _).1, show lsV (rdL v f.text) = ((rdL v f.text).1, vz) from if_pos (by assumption)]
    refine EndP.mk [] ?_ <;> (repeat' first | trivial | rfl | exact eqS _ _ | apply andI | apply eqA | apply eqB | apply eqC | apply eqD | apply eqE | apply eqF | apply eqG | apply eqH | apply eqI)
  · rw [if_neg (by omega), if_pos (by omega), (hhi (by omega) _).2]
    refine EndP.mk [] ?_ <;> (repeat' first | trivial | rfl | exact eqS _ _ | apply andI | apply eqA | apply eqB | apply eqC | apply eqD | apply eqE | apply eqF | apply eqG | apply eqH | apply eqI)
  · rw [if_neg (by omega), if_pos (by omega), ((hlo (by omega)).1 _).2, show mpV (rdM v f.text) = (0, .mk 7 [] 0 0 [] (rdM v f.text).2) from if_neg fun z => z (by assumption)]
    refine EndP.mk [] ?_ <;> (repeat' first | trivial | rfl | exact eqS _ _ | apply andI | apply eqA | apply eqB | apply eqC | apply eqD | apply eqE | apply eqF | apply eqG | apply eqH | apply eqI)
  · rw [if_neg (by omega), if_pos (by omega), ((hlo (by omega)).1 _).2, show mpV (rdM v f.text) = ((rdM v f.text).1, vz) from if_pos (by assumption)]
    refine EndP.mk [] ?_ <;> (repeat' first | trivial | rfl | exact eqS _ _ | apply andI | apply eqA | apply eqB | apply eqC | apply eqD | apply eqE | apply eqF | apply eqG | apply eqH | apply eqI)
/-- it is told in full -/
theorem evX_wk {v : Val} (h6 : v.kind ≠ 6 → v.list = []) (h7 : v.kind ≠ 7 → v.map = []) : Wk (evX v) (ev v) := by
  unfold evX
  refine Wk.agg (WkL.cons (Wk.refl _) (WkL.cons (Wk.refl _) (WkL.cons (Wk.refl _) (WkL.cons (Wk.refl _) (WkL.cons ?_ (WkL.cons ?_ WkL.nil))))))
  · split
    · exact Wk.refl _
    · rename_i q
      rw [h6 q, show encL [] = [] by simp [encL]]
      exact Wk.nil (.inl rfl)
  · split
    · exact Wk.refl _
    · rename_i q
      rw [h7 q, show encM [] = [] by simp [encM]]
      exact Wk.nil (.inl rfl)
def shV (v : Val) : Prop := (v.kind ≠ 6 → v.list = []) ∧ (v.kind ≠ 7 → v.map = [])
theorem shV_z : shV vz := ⟨fun _ => rfl, fun _ => rfl⟩
theorem shV_one (f : Pf) : shV (oneV f) := by
  unfold oneV
  repeat' split
  all_goals exact ⟨fun _ => rfl, fun _ => rfl⟩
theorem shV_ls (r : Int × List Val) : shV (lsV r).2 := by
  unfold lsV
  split
  · exact shV_z
  · exact ⟨fun h => absurd rfl h, fun _ => rfl⟩
theorem shV_mp (r : Int × List Att) : shV (mpV r).2 := by
  unfold mpV
  split
  · exact shV_z
  · exact ⟨fun _ => rfl, fun h => absurd rfl h⟩
theorem shV_B {g6 g7 : RV} (h6 : ∀ t, shV (g6 t).2) (h7 : ∀ t, shV (g7 t).2) (s : List UInt8) : shV (rdB g6 g7 s).2 := by
  unfold rdB
  split
  · exact shV_z
  split
  · exact shV_z
  split
  · exact h6 _
  split
  · exact h7 _
  · exact shV_one _
theorem rX_wk {r : Int × Val} (h : shV r.2) : Wk (rX r) (.tuple [ev r.2, .int .i64 r.1]) := Wk.tuple (WkL.cons (evX_wk h.1 h.2) (WkL.refl _))
theorem rdV_sh : ∀ k s, shV (rdV k s).2
  | 0, s => shV_B (fun _ => shV_z) (fun _ => shV_z) s
  | k + 1, s => shV_B (fun _ => shV_ls _) (fun _ => shV_mp _) s
theorem k_vac (v : RV) : SOK 5 (sm_ovR v 1000) := by
  intro args sg pre x r he hp
  unfold sm_ovR at he
  split at he <;> cases he
  obtain ⟨_, h1, h2, h3⟩ := hp
  omega
theorem k_ovR : ∀ k, SOK 5 (sm_ovR (rdV k) k)
  | 0 => by
    intro args sg pre x r he hp
    unfold sm_ovR at he
    split at he <;> cases he
    rename_i s d
    obtain ⟨h1, h2, h3, h4⟩ := hp
    refine FunOK.res ?_ (rX_wk (rdV_sh 0 s))
    by_cases h : aFine s = 0
    · exact f_ovReadY (fun _ => (0, vz)) 1000 (k_vac _) _ _ s d h1 ⟨h2, h3, fun _ _ => ⟨rfl, rfl⟩, fun q => by omega⟩ h
    · exact f_ovReadN _ _ s d h1 h
  | k + 1 => by
    intro args sg pre x r he hp
    unfold sm_ovR at he
    split at he <;> cases he
    rename_i s d
    obtain ⟨h1, h2, h3, h4⟩ := hp
    refine FunOK.res ?_ (rX_wk (rdV_sh (k + 1) s))
    by_cases h : aFine s = 0
    · exact f_ovReadY (rdV k) k (k_ovR k) _ _ s d h1 ⟨h2, h3, fun q => by omega, fun _ => ⟨fun _ => ⟨rfl, rfl⟩, h4⟩⟩ h
    · exact f_ovReadN _ _ s d h1 h
end Go.Proofs.YtkkfdkfopdjomaaDoor
