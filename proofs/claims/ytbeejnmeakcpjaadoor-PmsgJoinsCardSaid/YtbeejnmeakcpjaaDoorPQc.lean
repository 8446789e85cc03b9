/-
  Messages of Protobuf: what the document says of fields together.
-/
import Derived.Test.YtbeejnmeakcpjaaDoorPQa
set_option linter.unusedSimpArgs false
set_option linter.unusedVariables false
set_option maxHeartbeats 4000000
namespace Go.Proofs.YtbeejnmeakcpjaaDoor
open Go Go.VG
set_option maxRecDepth 100000
theorem lastF_getD (l : List Pf) : l.getD (l.length - 1) default = lastF l := by
  unfold lastF
  rw [List.getLastD_eq_getLast?, List.getLast?_eq_getElem?, List.getD_eq_getElem?_getD]
theorem anyF_len (l : List Pf) : anyF l = decide (l.length ≠ 0) := by
  cases l <;> simp [anyF]
theorem anyF_len0 {l : List Pf} (h : (l.length : Int) = 0) : anyF l = false ∧ lastF l = default ∧ joinT l = [] := by
  obtain rfl : l = [] := List.eq_nil_of_length_eq_zero (by omega)
  exact ⟨rfl, rfl, rfl⟩
theorem isF_yes {n w : Int} {f : Pf} (h : f.no = n) (k : f.wi = w) : isF n w f = true := by simp [isF, h, k]
theorem isF_no1 {n w : Int} {f : Pf} (h : ¬ f.no = n) : ¬ isF n w f = true := by simp [isF, h]
theorem isF_no2 {n w : Int} {f : Pf} (h : ¬ f.wi = w) : ¬ isF n w f = true := by simp [isF, h]
theorem anyF_len1 {l : List Pf} (h : ¬ (l.length : Int) = 0) : anyF l = true := by
  rw [anyF_len]; exact decide_eq_true (by omega)
theorem f_r18Of_1 (l : List V) (n w : Int) (hp : (∃ a : List Pf, l = a.map ePf) ∧ l.length ≤ 1000000) : OK 46 ([.buf 0, .int .i64 n, .int .i64 w]) ([.buf 4 0 l]) (.buf 1) (some [.buf 4 0 l, .buf 4 0 ((selF (isF n w) (l.map dePf)).map ePf), .dead]) := by
  refine funOK_of_vc (C := cx []) (good trivial) (fn := Tryd.f46) rfl rfl rfl rfl fun hw hs => ?_
  obtain ⟨⟨a, rfl⟩, hl⟩ := hp
  simp only [dePf_map]
  have hml : (a.map ePf).length = a.length := List.length_map ..
  repeat' (
    conv => whnf
    first
    | with_reducible (first | refine go1 (fun j q h => ?_) fun h => ?_ | refine go2 ⟨rfl, rfl⟩ (fun h => ?_) fun j h => ?_ | refine go2 ?_ (fun h => ?_) fun j h => ?_)
    | refine go3 ?_ ?_ | refine go4 ?_ ?_ | refine go5 ?_
    | refine go6 (fun h => ?_) fun h => ?_ | refine go7 (fun h => ?_) fun h => ?_ | refine go8 (fun h => ?_) fun h => ?_ | refine go9 (fun h => ?_) fun h => ?_ | refine goA (fun h => ?_) fun h => ?_
    | with_reducible (first | refine IdxK.mk _ rfl ?_ | refine goB ?_ fun hc => ?_ | refine goC ?_ fun hc => ?_ | refine goD ?_ fun hc => ?_ | refine goE ?_ fun hc => ?_ | refine goF ?_ ?_ | refine goG ?_ ?_ | refine goH ?_ fun b hb => ?_)
    | refine goI ?_ | refine goJ ?_ ?_ | refine goK ?_ ?_ ?_ | refine goL ?_ ?_ ?_ ?_ | refine goM ?_ ?_ ?_ ?_ ?_ | refine goN ?_ ?_ | refine goO ?_ ?_
    | with_reducible refine goP ?_)
  all_goals try conv => whnf
  all_goals try (refine Side.mk ?_; try dsimp only)
  refine LoopP.mk Nat (fun i => i ≤ a.length) (fun i => ⟨39, [(0, .buf 0), (1, .int .i64 n), (2, .int .i64 w), (7, .buf 1), (8, .int .i64 i)], [.buf 4 0 (a.map ePf), .buf 4 0 ((selF (isF n w) (a.take i)).map ePf)], [1]⟩) (fun i => a.length - i) [.tm 7 4] 0 (Nat.zero_le _) ?_ (fun i hi _ _ => ?_)
  · refine Go.VG.Sub.mk rfl ?_ ?_ ?_ ?_ <;> (repeat' first | trivial | rfl | exact eqS _ _ | refine And.intro ?_ ?_ | refine eqA ?_ | refine eqB ?_ | refine eqC ?_ | refine eqD ?_ | refine eqE ?_ | refine eqF ?_ | refine eqG ?_ | refine eqH ?_ | refine eqI ?_ ?_)
  have hst := fun h => sel_step (isF n w) (a := a) (i := i) h
  have hsl : ((selF (isF n w) (a.take i)).map ePf).length ≤ a.length := by
    rw [List.length_map]; exact Nat.le_trans (List.length_filter_le ..) (by rw [List.length_take]; exact Nat.min_le_right _ _)
  repeat' (
    conv => whnf
    first
    | with_reducible (first | refine go1 (fun j q h => ?_) fun h => ?_ | refine go2 ⟨rfl, rfl⟩ (fun h => ?_) fun j h => ?_ | refine go2 ?_ (fun h => ?_) fun j h => ?_)
    | refine go3 ?_ ?_ | refine go4 ?_ ?_ | refine go5 ?_
    | refine go6 (fun h => ?_) fun h => ?_ | refine go7 (fun h => ?_) fun h => ?_ | refine go8 (fun h => ?_) fun h => ?_ | refine go9 (fun h => ?_) fun h => ?_ | refine goA (fun h => ?_) fun h => ?_
    | with_reducible (first | refine IdxK.mk _ rfl ?_ | refine goB ?_ fun hc => ?_ | refine goC ?_ fun hc => ?_ | refine goD ?_ fun hc => ?_ | refine goE ?_ fun hc => ?_ | refine goF ?_ ?_ | refine goG ?_ ?_ | refine goH ?_ fun b hb => ?_)
    | refine goI ?_ | refine goJ ?_ ?_ | refine goK ?_ ?_ ?_ | refine goL ?_ ?_ ?_ ?_ | refine goM ?_ ?_ ?_ ?_ ?_ | refine goN ?_ ?_ | refine goO ?_ ?_
    | with_reducible refine goP ?_)
  all_goals try conv => whnf
  all_goals try (refine Side.mk ?_; try dsimp only)
  all_goals (try simp only [Cu_eta] at *)
  all_goals first
    | (show LoopP _ _ _ _; skip)
    | (show GotoP _ _ _ _ _; skip)
    | (show EndP _ _ _ _ _ _; skip)
    | (show ∃ _, _; skip)
    | (first
          | trivial
          | omega
          | (simp (discharger := omega) only [wu8, wu16, wu32, wu64, wi32, wi64, Int.tdiv_eq_ediv_of_nonneg, Int.tmod_eq_emod_of_nonneg]; omega)
          | (simp only [List.length_append, List.length_cons, List.length_nil, bl_length, List.length_take, List.length_drop]; omega)
          | (simp (discharger := omega) [-List.getD_eq_getElem?_getD, wu8, wu16, wu32, wu64, wi32, wi64, Int.tdiv_eq_ediv_of_nonneg, Int.tmod_eq_emod_of_nonneg]; done)
          | (simp (discharger := omega) [-List.getD_eq_getElem?_getD, wu8, wu16, wu32, wu64, wi32, wi64, Int.tdiv_eq_ediv_of_nonneg, Int.tmod_eq_emod_of_nonneg]; omega))
    | skip
  all_goals first
    | (show EndP _ _ _ _ _ _
       obtain rfl : i = a.length := by omega
       simp only [List.take_length]
       refine EndP.mk [.nw] ?_ <;> (repeat' first | trivial | rfl | exact eqS _ _ | refine And.intro ?_ ?_ | refine eqA ?_ | refine eqB ?_ | refine eqC ?_ | refine eqD ?_ | refine eqE ?_ | refine eqF ?_ | refine eqG ?_ | refine eqH ?_ | refine eqI ?_ ?_)
       done)
    | (have hst := hst (by omega)
       first
       | rw [if_pos (isF_yes (by assumption) (by assumption))] at hst
       | rw [if_neg (isF_no1 (by assumption))] at hst
       | rw [if_neg (isF_no2 (by assumption))] at hst
       refine ⟨[], i + 1, by omega, ?_, by omega⟩
       refine Go.VG.Sub.mk rfl ?_ ?_ ?_ ?_ <;> (repeat' first | trivial | rfl | exact eqS _ _ | refine And.intro ?_ ?_ | refine eqA ?_ | refine eqB ?_ | refine eqC ?_ | refine eqD ?_ | refine eqE ?_ | refine eqF ?_ | refine eqG ?_ | refine eqH ?_ | refine eqI ?_ ?_)
       all_goals (first
         | ((first | omega | (simp (discharger := omega) only [wu8, wu16, wu32, wu64, wi32, wi64, Int.tdiv_eq_ediv_of_nonneg, Int.tmod_eq_emod_of_nonneg]; omega) | (simp only [List.length_append, List.length_cons, List.length_nil, bl_length, List.length_take, List.length_drop]; omega) | (simp (discharger := omega) [-List.getD_eq_getElem?_getD, wu8, wu16, wu32, wu64, wi32, wi64, Int.tdiv_eq_ediv_of_nonneg, Int.tmod_eq_emod_of_nonneg]; done) | (simp (discharger := omega) [-List.getD_eq_getElem?_getD, wu8, wu16, wu32, wu64, wi32, wi64, Int.tdiv_eq_ediv_of_nonneg, Int.tmod_eq_emod_of_nonneg]; omega)); done)
         | (rw [hst]; done)
         | (rw [hst, List.map_append]; rfl))
       done)
def sm_r18Of : Sm := fun args σ => match args, σ with
  | [.buf 0, .int .i64 n, .int .i64 w], [.buf 4 0 l] => some ((∃ a : List Pf, l = a.map ePf) ∧ l.length ≤ 1000000, .buf 1, some [.buf 4 0 l, .buf 4 0 ((selF (isF n w) (l.map dePf)).map ePf), .dead])
  | _, _ => none
theorem k_r18Of : SOK 46 sm_r18Of := by
  intro args sg pre x r he hp
  unfold sm_r18Of at he
  split at he <;> cases he
  · exact f_r18Of_1 (hp := hp) ..
theorem f_r18Num_1 (l : List V) (n w : Int) (hp : (∃ a : List Pf, l = a.map ePf) ∧ l.length ≤ 1000000) : OK 14 ([.buf 0, .int .i64 n, .int .i64 w]) ([.buf 4 0 l]) (.tuple [.int .u64 (if w = 2 then 0 else (lastF (selF (isF n w) (l.map dePf))).num), .bool (decide (w ≠ 2) && anyF (selF (isF n w) (l.map dePf)))]) (none) := by
  refine funOK_of_vc (C := cx [(46, sm_r18Of)]) (good ⟨k_r18Of, trivial⟩) (fn := Tryd.f14) rfl rfl rfl rfl fun hw hs => ?_
  obtain ⟨⟨a, rfl⟩, hl⟩ := hp
  simp only [dePf_map]
  have hml : (a.map ePf).length = a.length := List.length_map ..
  have hs1 : (selF (isF n w) a).length ≤ a.length := List.length_filter_le ..
  have e0 := @anyF_len0 (selF (isF n w) a)
  have e1 := @anyF_len1 (selF (isF n w) a)
  have e2 := lastF_getD (selF (isF n w) a)
  have hwl : ¬ ((selF (isF n w) a).length : Int) = 0 → IntKind.i64.wrap ((selF (isF n w) a).length - 1) = ((selF (isF n w) a).length - 1 : Nat) := fun h => by rw [wi_i (by omega)]; omega
  repeat' (
    conv => whnf
    first
    | with_reducible (first | refine go1 (fun j q h => ?_) fun h => ?_ | refine go2 ⟨rfl, rfl⟩ (fun h => ?_) fun j h => ?_ | refine go2 ?_ (fun h => ?_) fun j h => ?_)
    | refine go3 ?_ ?_ | refine go4 ?_ ?_ | refine go5 ?_
    | refine go6 (fun h => ?_) fun h => ?_ | refine go7 (fun h => ?_) fun h => ?_ | refine go8 (fun h => ?_) fun h => ?_ | refine go9 (fun h => ?_) fun h => ?_ | refine goA (fun h => ?_) fun h => ?_
    | with_reducible (first | refine IdxK.mk _ rfl ?_ | refine goB ?_ fun hc => ?_ | refine goC ?_ fun hc => ?_ | refine goD ?_ fun hc => ?_ | refine goE ?_ fun hc => ?_ | refine goF ?_ ?_ | refine goG ?_ ?_ | refine goH ?_ fun b hb => ?_)
    | refine goI ?_ | refine goJ ?_ ?_ | refine goK ?_ ?_ ?_ | refine goL ?_ ?_ ?_ ?_ | refine goM ?_ ?_ ?_ ?_ ?_ | refine goN ?_ ?_ | refine goO ?_ ?_
    | with_reducible refine goP ?_)
  all_goals try conv => whnf
  all_goals try (refine Side.mk ?_; try dsimp only)
  all_goals (try simp only [List.length_map, dePf_map] at *)
  all_goals first
    | exact ⟨⟨_, rfl⟩, by omega⟩
    | (have h0 := e0 (by assumption)
       (try rw [if_neg (by assumption)])
       rw [h0.1, h0.2.1]
       (try rw [Bool.and_false])
       refine EndP.mk [] ?_ <;> (repeat' first | trivial | rfl | exact eqS _ _ | refine And.intro ?_ ?_ | refine eqA ?_ | refine eqB ?_ | refine eqC ?_ | refine eqD ?_ | refine eqE ?_ | refine eqF ?_ | refine eqG ?_ | refine eqH ?_ | refine eqI ?_ ?_)
       done)
    | (have h1 := hwl (by assumption)
       rw [h1]
       omega)
    | (rw [if_pos (by assumption), decide_eq_false (fun q => q (by assumption))]
       refine EndP.mk [] ?_ <;> (repeat' first | trivial | rfl | exact eqS _ _ | refine And.intro ?_ ?_ | refine eqA ?_ | refine eqB ?_ | refine eqC ?_ | refine eqD ?_ | refine eqE ?_ | refine eqF ?_ | refine eqG ?_ | refine eqH ?_ | refine eqI ?_ ?_)
       done)
    | ((try rw [if_neg (by assumption)])
       (try rw [decide_eq_true (by assumption), Bool.true_and])
       rw [e1 (by assumption), ← e2]
       have h1 := hwl (by assumption)
       refine EndP.mk [] ?_ <;> (repeat' first | trivial | rfl | exact eqS _ _ | refine And.intro ?_ ?_ | refine eqA ?_ | refine eqB ?_ | refine eqC ?_ | refine eqD ?_ | refine eqE ?_ | refine eqF ?_ | refine eqG ?_ | refine eqH ?_ | refine eqI ?_ ?_)
       all_goals (rw [h1, Int.toNat_natCast])
       done)
def sm_r18Num : Sm := fun args σ => match args, σ with
  | [.buf 0, .int .i64 n, .int .i64 w], [.buf 4 0 l] => some ((∃ a : List Pf, l = a.map ePf) ∧ l.length ≤ 1000000, .tuple [.int .u64 (if w = 2 then 0 else (lastF (selF (isF n w) (l.map dePf))).num), .bool (decide (w ≠ 2) && anyF (selF (isF n w) (l.map dePf)))], none)
  | _, _ => none
theorem k_r18Num : SOK 14 sm_r18Num := by
  intro args sg pre x r he hp
  unfold sm_r18Num at he
  split at he <;> cases he
  · exact f_r18Num_1 (hp := hp) ..
theorem f_r18Text_1 (l : List V) (n : Int) (hp : (∃ a : List Pf, l = a.map ePf) ∧ l.length ≤ 1000000) : OK 16 ([.buf 0, .int .i64 n]) ([.buf 4 0 l]) (.tuple [.str (lastF (selF (isF n 2) (l.map dePf))).text, .bool (anyF (selF (isF n 2) (l.map dePf)))]) (none) := by
  refine funOK_of_vc (C := cx [(46, sm_r18Of)]) (good ⟨k_r18Of, trivial⟩) (fn := Tryd.f16) rfl rfl rfl rfl fun hw hs => ?_
  obtain ⟨⟨a, rfl⟩, hl⟩ := hp
  simp only [dePf_map]
  have hml : (a.map ePf).length = a.length := List.length_map ..
  have hs1 : (selF (isF n 2) a).length ≤ a.length := List.length_filter_le ..
  have e0 := @anyF_len0 (selF (isF n 2) a)
  have e1 := @anyF_len1 (selF (isF n 2) a)
  have e2 := lastF_getD (selF (isF n 2) a)
  have hwl : ¬ ((selF (isF n 2) a).length : Int) = 0 → IntKind.i64.wrap ((selF (isF n 2) a).length - 1) = ((selF (isF n 2) a).length - 1 : Nat) := fun h => by rw [wi_i (by omega)]; omega
  repeat' (
    conv => whnf
    first
    | with_reducible (first | refine go1 (fun j q h => ?_) fun h => ?_ | refine go2 ⟨rfl, rfl⟩ (fun h => ?_) fun j h => ?_ | refine go2 ?_ (fun h => ?_) fun j h => ?_)
    | refine go3 ?_ ?_ | refine go4 ?_ ?_ | refine go5 ?_
    | refine go6 (fun h => ?_) fun h => ?_ | refine go7 (fun h => ?_) fun h => ?_ | refine go8 (fun h => ?_) fun h => ?_ | refine go9 (fun h => ?_) fun h => ?_ | refine goA (fun h => ?_) fun h => ?_
    | with_reducible (first | refine IdxK.mk _ rfl ?_ | refine goB ?_ fun hc => ?_ | refine goC ?_ fun hc => ?_ | refine goD ?_ fun hc => ?_ | refine goE ?_ fun hc => ?_ | refine goF ?_ ?_ | refine goG ?_ ?_ | refine goH ?_ fun b hb => ?_)
    | refine goI ?_ | refine goJ ?_ ?_ | refine goK ?_ ?_ ?_ | refine goL ?_ ?_ ?_ ?_ | refine goM ?_ ?_ ?_ ?_ ?_ | refine goN ?_ ?_ | refine goO ?_ ?_
    | with_reducible refine goP ?_)
  all_goals try conv => whnf
  all_goals try (refine Side.mk ?_; try dsimp only)
  all_goals (try simp only [List.length_map, dePf_map] at *)
  all_goals first
    | exact ⟨⟨_, rfl⟩, by omega⟩
    | (have h0 := e0 (by assumption)
       (try rw [if_neg (by assumption)])
       rw [h0.1, h0.2.1]
       (try rw [Bool.and_false])
       refine EndP.mk [] ?_ <;> (repeat' first | trivial | rfl | exact eqS _ _ | refine And.intro ?_ ?_ | refine eqA ?_ | refine eqB ?_ | refine eqC ?_ | refine eqD ?_ | refine eqE ?_ | refine eqF ?_ | refine eqG ?_ | refine eqH ?_ | refine eqI ?_ ?_)
       done)
    | (rw [hwl (by assumption)]; omega)
    | (rw [if_pos (by assumption), decide_eq_false (fun q => q (by assumption))]
       refine EndP.mk [] ?_ <;> (repeat' first | trivial | rfl | exact eqS _ _ | refine And.intro ?_ ?_ | refine eqA ?_ | refine eqB ?_ | refine eqC ?_ | refine eqD ?_ | refine eqE ?_ | refine eqF ?_ | refine eqG ?_ | refine eqH ?_ | refine eqI ?_ ?_)
       done)
    | ((try rw [if_neg (by assumption)])
       (try rw [decide_eq_true (by assumption), Bool.true_and])
       rw [e1 (by assumption), ← e2]
       have h1 := hwl (by assumption)
       refine EndP.mk [] ?_ <;> (repeat' first | trivial | rfl | exact eqS _ _ | refine And.intro ?_ ?_ | refine eqA ?_ | refine eqB ?_ | refine eqC ?_ | refine eqD ?_ | refine eqE ?_ | refine eqF ?_ | refine eqG ?_ | refine eqH ?_ | refine eqI ?_ ?_)
       all_goals (rw [h1, Int.toNat_natCast])
       done)
def sm_r18Text : Sm := fun args σ => match args, σ with
  | [.buf 0, .int .i64 n], [.buf 4 0 l] => some ((∃ a : List Pf, l = a.map ePf) ∧ l.length ≤ 1000000, .tuple [.str (lastF (selF (isF n 2) (l.map dePf))).text, .bool (anyF (selF (isF n 2) (l.map dePf)))], none)
  | _, _ => none
theorem k_r18Text : SOK 16 sm_r18Text := by
  intro args sg pre x r he hp
  unfold sm_r18Text at he
  split at he <;> cases he
  · exact f_r18Text_1 (hp := hp) ..
theorem f_r18Each_1 (l : List V) (n : Int) (hp : (∃ a : List Pf, l = a.map ePf) ∧ l.length ≤ 1000000) : OK 21 ([.buf 0, .int .i64 n]) ([.buf 4 0 l]) (.buf 1) (some [.buf 4 0 l, .buf 1 0 (textsF (selF (isF n 2) (l.map dePf))), .dead]) := by
  refine funOK_of_vc (C := cx [(46, sm_r18Of)]) (good ⟨k_r18Of, trivial⟩) (fn := Tryd.f21) rfl rfl rfl rfl fun hw hs => ?_
  obtain ⟨⟨a, rfl⟩, hl⟩ := hp
  simp only [dePf_map]
  have hml : (a.map ePf).length = a.length := List.length_map ..
  have hs1 : (selF (isF n 2) a).length ≤ a.length := List.length_filter_le ..
  have hti : ∀ i, (textsF ((selF (isF n 2) a).take i)).length ≤ a.length := fun i => by
    unfold textsF; rw [List.length_map, List.length_take]; exact Nat.le_trans (Nat.min_le_right _ _) hs1
  have hts : ∀ i, i < (selF (isF n 2) a).length → textsF ((selF (isF n 2) a).take (i + 1)) = textsF ((selF (isF n 2) a).take i) ++ [.str ((selF (isF n 2) a).getD i default).text] := fun i h => by
    rw [List.take_add_one, List.getD_eq_getElem?_getD, List.getElem?_eq_getElem h]
    unfold textsF
    rw [List.map_append]; rfl
  repeat' (
    conv => whnf
    first
    | with_reducible (first | refine go1 (fun j q h => ?_) fun h => ?_ | refine go2 ⟨rfl, rfl⟩ (fun h => ?_) fun j h => ?_ | refine go2 ?_ (fun h => ?_) fun j h => ?_)
    | refine go3 ?_ ?_ | refine go4 ?_ ?_ | refine go5 ?_
    | refine go6 (fun h => ?_) fun h => ?_ | refine go7 (fun h => ?_) fun h => ?_ | refine go8 (fun h => ?_) fun h => ?_ | refine go9 (fun h => ?_) fun h => ?_ | refine goA (fun h => ?_) fun h => ?_
    | with_reducible (first | refine IdxK.mk _ rfl ?_ | refine goB ?_ fun hc => ?_ | refine goC ?_ fun hc => ?_ | refine goD ?_ fun hc => ?_ | refine goE ?_ fun hc => ?_ | refine goF ?_ ?_ | refine goG ?_ ?_ | refine goH ?_ fun b hb => ?_)
    | refine goI ?_ | refine goJ ?_ ?_ | refine goK ?_ ?_ ?_ | refine goL ?_ ?_ ?_ ?_ | refine goM ?_ ?_ ?_ ?_ ?_ | refine goN ?_ ?_ | refine goO ?_ ?_
    | with_reducible refine goP ?_)
  all_goals try conv => whnf
  all_goals try (refine Side.mk ?_; try dsimp only)
  · exact ⟨⟨_, rfl⟩, by omega⟩
  simp only [dePf_map]
  generalize selF (isF n 2) a = b at *
  have hmb : (b.map ePf).length = b.length := List.length_map ..
  refine LoopP.mk Nat (fun i => i ≤ b.length) (fun i => ⟨26, [(5, .buf 1), (6, .buf 2), (7, .int .i64 i)], [.buf 4 0 (a.map ePf), .buf 4 0 (b.map ePf), .buf 1 0 (textsF (b.take i))], [1, 2, 3]⟩) (fun i => b.length - i) [.tm 6 1, .swap 2 3] 0 (Nat.zero_le _) ?_ (fun i hi _ _ => ?_)
  · refine Go.VG.Sub.mk rfl ?_ ?_ ?_ ?_ <;> (repeat' first | trivial | rfl | exact eqS _ _ | refine And.intro ?_ ?_ | refine eqA ?_ | refine eqB ?_ | refine eqC ?_ | refine eqD ?_ | refine eqE ?_ | refine eqF ?_ | refine eqG ?_ | refine eqH ?_ | refine eqI ?_ ?_)
  have hti := hti i
  have hts := hts i
  repeat' (
    conv => whnf
    first
    | with_reducible (first | refine go1 (fun j q h => ?_) fun h => ?_ | refine go2 ⟨rfl, rfl⟩ (fun h => ?_) fun j h => ?_ | refine go2 ?_ (fun h => ?_) fun j h => ?_)
    | refine go3 ?_ ?_ | refine go4 ?_ ?_ | refine go5 ?_
    | refine go6 (fun h => ?_) fun h => ?_ | refine go7 (fun h => ?_) fun h => ?_ | refine go8 (fun h => ?_) fun h => ?_ | refine go9 (fun h => ?_) fun h => ?_ | refine goA (fun h => ?_) fun h => ?_
    | with_reducible (first | refine IdxK.mk _ rfl ?_ | refine goB ?_ fun hc => ?_ | refine goC ?_ fun hc => ?_ | refine goD ?_ fun hc => ?_ | refine goE ?_ fun hc => ?_ | refine goF ?_ ?_ | refine goG ?_ ?_ | refine goH ?_ fun b hb => ?_)
    | refine goI ?_ | refine goJ ?_ ?_ | refine goK ?_ ?_ ?_ | refine goL ?_ ?_ ?_ ?_ | refine goM ?_ ?_ ?_ ?_ ?_ | refine goN ?_ ?_ | refine goO ?_ ?_
    | with_reducible refine goP ?_)
  all_goals try conv => whnf
  all_goals try (refine Side.mk ?_; try dsimp only)
  all_goals (try simp only [Cu_eta] at *)
  all_goals first
    | (show LoopP _ _ _ _; skip)
    | (show GotoP _ _ _ _ _; skip)
    | (show EndP _ _ _ _ _ _; skip)
    | (show ∃ _, _; skip)
    | (first
          | trivial
          | omega
          | (simp (discharger := omega) only [wu8, wu16, wu32, wu64, wi32, wi64, Int.tdiv_eq_ediv_of_nonneg, Int.tmod_eq_emod_of_nonneg]; omega)
          | (simp only [List.length_append, List.length_cons, List.length_nil, bl_length, List.length_take, List.length_drop]; omega)
          | (simp (discharger := omega) [-List.getD_eq_getElem?_getD, wu8, wu16, wu32, wu64, wi32, wi64, Int.tdiv_eq_ediv_of_nonneg, Int.tmod_eq_emod_of_nonneg]; done)
          | (simp (discharger := omega) [-List.getD_eq_getElem?_getD, wu8, wu16, wu32, wu64, wi32, wi64, Int.tdiv_eq_ediv_of_nonneg, Int.tmod_eq_emod_of_nonneg]; omega))
    | skip
  all_goals (try simp only [List.length_map] at *)
  · refine ⟨[], i + 1, by omega, ?_, by omega⟩
    refine Go.VG.Sub.mk rfl ?_ ?_ ?_ ?_ <;> (repeat' first | trivial | rfl | exact eqS _ _ | refine And.intro ?_ ?_ | refine eqA ?_ | refine eqB ?_ | refine eqC ?_ | refine eqD ?_ | refine eqE ?_ | refine eqF ?_ | refine eqG ?_ | refine eqH ?_ | refine eqI ?_ ?_)
    · (first | omega | (simp (discharger := omega) only [wu8, wu16, wu32, wu64, wi32, wi64, Int.tdiv_eq_ediv_of_nonneg, Int.tmod_eq_emod_of_nonneg]; omega) | (simp only [List.length_append, List.length_cons, List.length_nil, bl_length, List.length_take, List.length_drop]; omega) | (simp (discharger := omega) [-List.getD_eq_getElem?_getD, wu8, wu16, wu32, wu64, wi32, wi64, Int.tdiv_eq_ediv_of_nonneg, Int.tmod_eq_emod_of_nonneg]; done) | (simp (discharger := omega) [-List.getD_eq_getElem?_getD, wu8, wu16, wu32, wu64, wi32, wi64, Int.tdiv_eq_ediv_of_nonneg, Int.tmod_eq_emod_of_nonneg]; omega))
    · rw [hts (by omega)]
  · obtain rfl : i = b.length := by omega
    rw [List.take_length]
    refine EndP.mk [.swap 1 2] ?_ <;> (repeat' first | trivial | rfl | exact eqS _ _ | refine And.intro ?_ ?_ | refine eqA ?_ | refine eqB ?_ | refine eqC ?_ | refine eqD ?_ | refine eqE ?_ | refine eqF ?_ | refine eqG ?_ | refine eqH ?_ | refine eqI ?_ ?_)
def sm_r18Each : Sm := fun args σ => match args, σ with
  | [.buf 0, .int .i64 n], [.buf 4 0 l] => some ((∃ a : List Pf, l = a.map ePf) ∧ l.length ≤ 1000000, .buf 1, some [.buf 4 0 l, .buf 1 0 (textsF (selF (isF n 2) (l.map dePf))), .dead])
  | _, _ => none
theorem k_r18Each : SOK 21 sm_r18Each := by
  intro args sg pre x r he hp
  unfold sm_r18Each at he
  split at he <;> cases he
  · exact f_r18Each_1 (hp := hp) ..
theorem f_r18Join_1 (l : List V) (n : Int) (hp : (∃ a : List Pf, l = a.map ePf ∧ shortF a) ∧ l.length ≤ 10000) : OK 18 ([.buf 0, .int .i64 n]) ([.buf 4 0 l]) (.tuple [.str (joinT (selF (isF n 2) (l.map dePf))), .bool (anyF (selF (isF n 2) (l.map dePf)))]) (none) := by
  refine funOK_of_vc (C := cx [(21, sm_r18Each)]) (good ⟨k_r18Each, trivial⟩) (fn := Tryd.f18) rfl rfl rfl rfl fun hw hs => ?_
  obtain ⟨⟨a, rfl, ha⟩, hl⟩ := hp
  simp only [dePf_map]
  have hml : (a.map ePf).length = a.length := List.length_map ..
  have hs1 : (selF (isF n 2) a).length ≤ a.length := List.length_filter_le ..
  have hsh : shortF (selF (isF n 2) a) := fun f hf => ha f (List.mem_filter.1 hf).1
  have hjl : ∀ (b : List Pf) i, shortF b → b.length ≤ a.length → (joinT (b.take i)).length ≤ 1000000000 := fun b i hb hl2 => by
    have h1 := join_le (l := b.take i) fun f hf => hb f (List.mem_of_mem_take hf)
    rw [List.length_take] at h1
    omega
  have hjs : ∀ (b : List Pf) i, i < b.length → joinT (b.take (i + 1)) = joinT (b.take i) ++ (b.getD i default).text := fun b i h => by
    rw [List.take_add_one, List.getD_eq_getElem?_getD, List.getElem?_eq_getElem h]
    exact joinT_app ..
  have han := anyF_len (selF (isF n 2) a)
  repeat' (
    conv => whnf
    first
    | with_reducible (first | refine go1 (fun j q h => ?_) fun h => ?_ | refine go2 ⟨rfl, rfl⟩ (fun h => ?_) fun j h => ?_ | refine go2 ?_ (fun h => ?_) fun j h => ?_)
    | refine go3 ?_ ?_ | refine go4 ?_ ?_ | refine go5 ?_
    | refine go6 (fun h => ?_) fun h => ?_ | refine go7 (fun h => ?_) fun h => ?_ | refine go8 (fun h => ?_) fun h => ?_ | refine go9 (fun h => ?_) fun h => ?_ | refine goA (fun h => ?_) fun h => ?_
    | with_reducible (first | refine IdxK.mk _ rfl ?_ | refine goB ?_ fun hc => ?_ | refine goC ?_ fun hc => ?_ | refine goD ?_ fun hc => ?_ | refine goE ?_ fun hc => ?_ | refine goF ?_ ?_ | refine goG ?_ ?_ | refine goH ?_ fun b hb => ?_)
    | refine goI ?_ | refine goJ ?_ ?_ | refine goK ?_ ?_ ?_ | refine goL ?_ ?_ ?_ ?_ | refine goM ?_ ?_ ?_ ?_ ?_ | refine goN ?_ ?_ | refine goO ?_ ?_
    | with_reducible refine goP ?_)
  all_goals try conv => whnf
  all_goals try (refine Side.mk ?_; try dsimp only)
  · exact ⟨⟨_, rfl⟩, by omega⟩
  simp only [dePf_map]
  generalize selF (isF n 2) a = b at *
  have hmb : (textsF b).length = b.length := List.length_map ..
  refine LoopP.mk Nat (fun i => i ≤ b.length) (fun i => ⟨28, [(6, .buf 1), (7, .str (joinT (b.take i))), (8, .int .i64 i)], [.buf 4 0 (a.map ePf), .buf 1 0 (textsF b)], []⟩) (fun i => b.length - i) [] 0 (Nat.zero_le _) ?_ (fun i hi _ _ => ?_)
  · refine Go.VG.Sub.mk rfl ?_ ?_ ?_ ?_ <;> (repeat' first | trivial | rfl | exact eqS _ _ | refine And.intro ?_ ?_ | refine eqA ?_ | refine eqB ?_ | refine eqC ?_ | refine eqD ?_ | refine eqE ?_ | refine eqF ?_ | refine eqG ?_ | refine eqH ?_ | refine eqI ?_ ?_)
  have hj1 := hjl b i hsh (by omega)
  have hjs := hjs b i
  have hs2 : i < b.length → (b.getD i default).text.length ≤ 100000 := fun h => short_get hsh h
  repeat' (
    conv => whnf
    first
    | with_reducible (first | refine go1 (fun j q h => ?_) fun h => ?_ | refine go2 ⟨rfl, rfl⟩ (fun h => ?_) fun j h => ?_ | refine go2 ?_ (fun h => ?_) fun j h => ?_)
    | refine go3 ?_ ?_ | refine go4 ?_ ?_ | refine go5 ?_
    | refine go6 (fun h => ?_) fun h => ?_ | refine go7 (fun h => ?_) fun h => ?_ | refine go8 (fun h => ?_) fun h => ?_ | refine go9 (fun h => ?_) fun h => ?_ | refine goA (fun h => ?_) fun h => ?_
    | with_reducible (first | refine IdxK.mk _ rfl ?_ | refine goB ?_ fun hc => ?_ | refine goC ?_ fun hc => ?_ | refine goD ?_ fun hc => ?_ | refine goE ?_ fun hc => ?_ | refine goF ?_ ?_ | refine goG ?_ ?_ | refine goH ?_ fun b hb => ?_)
    | refine goI ?_ | refine goJ ?_ ?_ | refine goK ?_ ?_ ?_ | refine goL ?_ ?_ ?_ ?_ | refine goM ?_ ?_ ?_ ?_ ?_ | refine goN ?_ ?_ | refine goO ?_ ?_
    | with_reducible refine goP ?_)
  all_goals try conv => whnf
  all_goals try (refine Side.mk ?_; try dsimp only)
  all_goals (try simp only [Cu_eta] at *)
  all_goals first
    | (show LoopP _ _ _ _; skip)
    | (show GotoP _ _ _ _ _; skip)
    | (show EndP _ _ _ _ _ _; skip)
    | (show ∃ _, _; skip)
    | (first
          | trivial
          | omega
          | (simp (discharger := omega) only [wu8, wu16, wu32, wu64, wi32, wi64, Int.tdiv_eq_ediv_of_nonneg, Int.tmod_eq_emod_of_nonneg]; omega)
          | (simp only [List.length_append, List.length_cons, List.length_nil, bl_length, List.length_take, List.length_drop]; omega)
          | (simp (discharger := omega) [-List.getD_eq_getElem?_getD, wu8, wu16, wu32, wu64, wi32, wi64, Int.tdiv_eq_ediv_of_nonneg, Int.tmod_eq_emod_of_nonneg]; done)
          | (simp (discharger := omega) [-List.getD_eq_getElem?_getD, wu8, wu16, wu32, wu64, wi32, wi64, Int.tdiv_eq_ediv_of_nonneg, Int.tmod_eq_emod_of_nonneg]; omega))
    | skip
  all_goals (try simp only [List.length_map] at *)
  all_goals first
    | (have := hs2 (by omega)
       omega)
    | (refine ⟨[], i + 1, by omega, ?_, by omega⟩
       refine Go.VG.Sub.mk rfl ?_ ?_ ?_ ?_ <;> (repeat' first | trivial | rfl | exact eqS _ _ | refine And.intro ?_ ?_ | refine eqA ?_ | refine eqB ?_ | refine eqC ?_ | refine eqD ?_ | refine eqE ?_ | refine eqF ?_ | refine eqG ?_ | refine eqH ?_ | refine eqI ?_ ?_)
       all_goals first
         | (rw [hjs (by omega)]; done)
         | ((first | omega | (simp (discharger := omega) only [wu8, wu16, wu32, wu64, wi32, wi64, Int.tdiv_eq_ediv_of_nonneg, Int.tmod_eq_emod_of_nonneg]; omega) | (simp only [List.length_append, List.length_cons, List.length_nil, bl_length, List.length_take, List.length_drop]; omega) | (simp (discharger := omega) [-List.getD_eq_getElem?_getD, wu8, wu16, wu32, wu64, wi32, wi64, Int.tdiv_eq_ediv_of_nonneg, Int.tmod_eq_emod_of_nonneg]; done) | (simp (discharger := omega) [-List.getD_eq_getElem?_getD, wu8, wu16, wu32, wu64, wi32, wi64, Int.tdiv_eq_ediv_of_nonneg, Int.tmod_eq_emod_of_nonneg]; omega)); done)
       done)
    | (show EndP _ _ _ _ _ _
       obtain rfl : i = b.length := by omega
       rw [han, List.take_length]
       refine EndP.mk [] ?_ <;> (repeat' first | trivial | rfl | exact eqS _ _ | refine And.intro ?_ ?_ | refine eqA ?_ | refine eqB ?_ | refine eqC ?_ | refine eqD ?_ | refine eqE ?_ | refine eqF ?_ | refine eqG ?_ | refine eqH ?_ | refine eqI ?_ ?_)
       exact decide_eq_decide.2 (by omega)
       done)
def sm_r18Join : Sm := fun args σ => match args, σ with
  | [.buf 0, .int .i64 n], [.buf 4 0 l] => some ((∃ a : List Pf, l = a.map ePf ∧ shortF a) ∧ l.length ≤ 10000, .tuple [.str (joinT (selF (isF n 2) (l.map dePf))), .bool (anyF (selF (isF n 2) (l.map dePf)))], none)
  | _, _ => none
theorem k_r18Join : SOK 18 sm_r18Join := by
  intro args sg pre x r he hp
  unfold sm_r18Join at he
  split at he <;> cases he
  · exact f_r18Join_1 (hp := hp) ..
theorem f_sameTx_1 (l m : List V) (hp : (∃ a : List Pf, l = textsF a) ∧ m = l ∧ l.length ≤ 1000000000) : OK 19 ([.buf 0, .buf 1]) ([.buf 1 0 l, .buf 1 0 m]) (.bool true) (none) := by
  refine funOK_of_vc (C := cx []) (good trivial) (fn := Tryd.f19) rfl rfl rfl rfl fun hw hs => ?_
  obtain ⟨⟨a, rfl⟩, rfl, hl⟩ := hp
  have hml : (textsF a).length = a.length := List.length_map ..
  repeat' (
    conv => whnf
    first
    | with_reducible (first | refine go1 (fun j q h => ?_) fun h => ?_ | refine go2 ⟨rfl, rfl⟩ (fun h => ?_) fun j h => ?_ | refine go2 ?_ (fun h => ?_) fun j h => ?_)
    | refine go3 ?_ ?_ | refine go4 ?_ ?_ | refine go5 ?_
    | refine go6 (fun h => ?_) fun h => ?_ | refine go7 (fun h => ?_) fun h => ?_ | refine go8 (fun h => ?_) fun h => ?_ | refine go9 (fun h => ?_) fun h => ?_ | refine goA (fun h => ?_) fun h => ?_
    | with_reducible (first | refine IdxK.mk _ rfl ?_ | refine goB ?_ fun hc => ?_ | refine goC ?_ fun hc => ?_ | refine goD ?_ fun hc => ?_ | refine goE ?_ fun hc => ?_ | refine goF ?_ ?_ | refine goG ?_ ?_ | refine goH ?_ fun b hb => ?_)
    | refine goI ?_ | refine goJ ?_ ?_ | refine goK ?_ ?_ ?_ | refine goL ?_ ?_ ?_ ?_ | refine goM ?_ ?_ ?_ ?_ ?_ | refine goN ?_ ?_ | refine goO ?_ ?_
    | with_reducible refine goP ?_)
  all_goals try conv => whnf
  all_goals try (refine Side.mk ?_; try dsimp only)
  all_goals (try simp only [Cu_eta] at *)
  all_goals first
    | (show LoopP _ _ _ _; skip)
    | (show GotoP _ _ _ _ _; skip)
    | (show EndP _ _ _ _ _ _; skip)
    | (show ∃ _, _; skip)
    | (first
          | trivial
          | omega
          | (simp (discharger := omega) only [wu8, wu16, wu32, wu64, wi32, wi64, Int.tdiv_eq_ediv_of_nonneg, Int.tmod_eq_emod_of_nonneg]; omega)
          | (simp only [List.length_append, List.length_cons, List.length_nil, bl_length, List.length_take, List.length_drop]; omega)
          | (simp (discharger := omega) [-List.getD_eq_getElem?_getD, wu8, wu16, wu32, wu64, wi32, wi64, Int.tdiv_eq_ediv_of_nonneg, Int.tmod_eq_emod_of_nonneg]; done)
          | (simp (discharger := omega) [-List.getD_eq_getElem?_getD, wu8, wu16, wu32, wu64, wi32, wi64, Int.tdiv_eq_ediv_of_nonneg, Int.tmod_eq_emod_of_nonneg]; omega))
    | skip
  · refine LoopP.mk Nat (fun i => i ≤ a.length) (fun i => ⟨26, [(0, .buf 0), (1, .buf 1), (5, .int .i64 i)], [.buf 1 0 (textsF a), .buf 1 0 (textsF a)], []⟩) (fun i => a.length - i) [] 0 (Nat.zero_le _) ?_ (fun i hi _ _ => ?_)
    · refine Go.VG.Sub.mk rfl ?_ ?_ ?_ ?_ <;> (repeat' first | trivial | rfl | exact eqS _ _ | refine And.intro ?_ ?_ | refine eqA ?_ | refine eqB ?_ | refine eqC ?_ | refine eqD ?_ | refine eqE ?_ | refine eqF ?_ | refine eqG ?_ | refine eqH ?_ | refine eqI ?_ ?_)
    repeat' (
      conv => whnf
      first
      | with_reducible (first | refine go1 (fun j q h => ?_) fun h => ?_ | refine go2 ⟨rfl, rfl⟩ (fun h => ?_) fun j h => ?_ | refine go2 ?_ (fun h => ?_) fun j h => ?_)
      | refine go3 ?_ ?_ | refine go4 ?_ ?_ | refine go5 ?_
      | refine go6 (fun h => ?_) fun h => ?_ | refine go7 (fun h => ?_) fun h => ?_ | refine go8 (fun h => ?_) fun h => ?_ | refine go9 (fun h => ?_) fun h => ?_ | refine goA (fun h => ?_) fun h => ?_
      | with_reducible (first | refine IdxK.mk _ rfl ?_ | refine goB ?_ fun hc => ?_ | refine goC ?_ fun hc => ?_ | refine goD ?_ fun hc => ?_ | refine goE ?_ fun hc => ?_ | refine goF ?_ ?_ | refine goG ?_ ?_ | refine goH ?_ fun b hb => ?_)
      | refine goI ?_ | refine goJ ?_ ?_ | refine goK ?_ ?_ ?_ | refine goL ?_ ?_ ?_ ?_ | refine goM ?_ ?_ ?_ ?_ ?_ | refine goN ?_ ?_ | refine goO ?_ ?_
      | with_reducible refine goP ?_)
    all_goals try conv => whnf
    all_goals try (refine Side.mk ?_; try dsimp only)
    all_goals (try simp only [Cu_eta] at *)
    all_goals first
      | (show LoopP _ _ _ _; skip)
      | (show GotoP _ _ _ _ _; skip)
      | (show EndP _ _ _ _ _ _; skip)
      | (show ∃ _, _; skip)
      | (first
            | trivial
            | omega
            | (simp (discharger := omega) only [wu8, wu16, wu32, wu64, wi32, wi64, Int.tdiv_eq_ediv_of_nonneg, Int.tmod_eq_emod_of_nonneg]; omega)
            | (simp only [List.length_append, List.length_cons, List.length_nil, bl_length, List.length_take, List.length_drop]; omega)
            | (simp (discharger := omega) [-List.getD_eq_getElem?_getD, wu8, wu16, wu32, wu64, wi32, wi64, Int.tdiv_eq_ediv_of_nonneg, Int.tmod_eq_emod_of_nonneg]; done)
            | (simp (discharger := omega) [-List.getD_eq_getElem?_getD, wu8, wu16, wu32, wu64, wi32, wi64, Int.tdiv_eq_ediv_of_nonneg, Int.tmod_eq_emod_of_nonneg]; omega))
      | skip
    all_goals (try simp only [List.length_map] at *)
    all_goals first
      | (refine ⟨[], i + 1, by omega, ?_, by omega⟩
         refine Go.VG.Sub.mk rfl ?_ ?_ ?_ ?_ <;> (repeat' first | trivial | rfl | exact eqS _ _ | refine And.intro ?_ ?_ | refine eqA ?_ | refine eqB ?_ | refine eqC ?_ | refine eqD ?_ | refine eqE ?_ | refine eqF ?_ | refine eqG ?_ | refine eqH ?_ | refine eqI ?_ ?_)
         (first | omega | (simp (discharger := omega) only [wu8, wu16, wu32, wu64, wi32, wi64, Int.tdiv_eq_ediv_of_nonneg, Int.tmod_eq_emod_of_nonneg]; omega) | (simp only [List.length_append, List.length_cons, List.length_nil, bl_length, List.length_take, List.length_drop]; omega) | (simp (discharger := omega) [-List.getD_eq_getElem?_getD, wu8, wu16, wu32, wu64, wi32, wi64, Int.tdiv_eq_ediv_of_nonneg, Int.tmod_eq_emod_of_nonneg]; done) | (simp (discharger := omega) [-List.getD_eq_getElem?_getD, wu8, wu16, wu32, wu64, wi32, wi64, Int.tdiv_eq_ediv_of_nonneg, Int.tmod_eq_emod_of_nonneg]; omega))
         done)
      | (exfalso; simp_all; done)
      | (show EndP _ _ _ _ _ _
         refine EndP.mk [] ?_ <;> (repeat' first | trivial | rfl | exact eqS _ _ | refine And.intro ?_ ?_ | refine eqA ?_ | refine eqB ?_ | refine eqC ?_ | refine eqD ?_ | refine eqE ?_ | refine eqF ?_ | refine eqG ?_ | refine eqH ?_ | refine eqI ?_ ?_)
         done)
  all_goals first
    | (exfalso; simp_all; done)
    | (show EndP _ _ _ _ _ _
       refine EndP.mk [] ?_ <;> (repeat' first | trivial | rfl | exact eqS _ _ | refine And.intro ?_ ?_ | refine eqA ?_ | refine eqB ?_ | refine eqC ?_ | refine eqD ?_ | refine eqE ?_ | refine eqF ?_ | refine eqG ?_ | refine eqH ?_ | refine eqI ?_ ?_)
       done)
theorem f_sameTx_2 (l : List V) (hp : l = []) : OK 19 ([.list true 0 [], .buf 0]) ([.buf 1 0 l]) (.bool true) (none) := by
  refine funOK_of_vc (C := cx []) (good trivial) (fn := Tryd.f19) rfl rfl rfl rfl fun hw hs => ?_
  subst hp
  repeat' (
    conv => whnf
    first
    | with_reducible (first | refine go1 (fun j q h => ?_) fun h => ?_ | refine go2 ⟨rfl, rfl⟩ (fun h => ?_) fun j h => ?_ | refine go2 ?_ (fun h => ?_) fun j h => ?_)
    | refine go3 ?_ ?_ | refine go4 ?_ ?_ | refine go5 ?_
    | refine go6 (fun h => ?_) fun h => ?_ | refine go7 (fun h => ?_) fun h => ?_ | refine go8 (fun h => ?_) fun h => ?_ | refine go9 (fun h => ?_) fun h => ?_ | refine goA (fun h => ?_) fun h => ?_
    | with_reducible (first | refine IdxK.mk _ rfl ?_ | refine goB ?_ fun hc => ?_ | refine goC ?_ fun hc => ?_ | refine goD ?_ fun hc => ?_ | refine goE ?_ fun hc => ?_ | refine goF ?_ ?_ | refine goG ?_ ?_ | refine goH ?_ fun b hb => ?_)
    | refine goI ?_ | refine goJ ?_ ?_ | refine goK ?_ ?_ ?_ | refine goL ?_ ?_ ?_ ?_ | refine goM ?_ ?_ ?_ ?_ ?_ | refine goN ?_ ?_ | refine goO ?_ ?_
    | with_reducible refine goP ?_)
  all_goals try conv => whnf
  all_goals try (refine Side.mk ?_; try dsimp only)
  refine LoopP.mk Unit (fun _ => True) (fun _ => ⟨26, [(0, .list true 0 []), (1, .buf 0), (5, .int .i64 0)], [.buf 1 0 []], []⟩) (fun i => 0) [] () trivial ?_ (fun i hi _ _ => ?_)
  · refine Go.VG.Sub.mk rfl ?_ ?_ ?_ ?_ <;> (repeat' first | trivial | rfl | exact eqS _ _ | refine And.intro ?_ ?_ | refine eqA ?_ | refine eqB ?_ | refine eqC ?_ | refine eqD ?_ | refine eqE ?_ | refine eqF ?_ | refine eqG ?_ | refine eqH ?_ | refine eqI ?_ ?_)
  repeat' (
    conv => whnf
    first
    | with_reducible (first | refine go1 (fun j q h => ?_) fun h => ?_ | refine go2 ⟨rfl, rfl⟩ (fun h => ?_) fun j h => ?_ | refine go2 ?_ (fun h => ?_) fun j h => ?_)
    | refine go3 ?_ ?_ | refine go4 ?_ ?_ | refine go5 ?_
    | refine go6 (fun h => ?_) fun h => ?_ | refine go7 (fun h => ?_) fun h => ?_ | refine go8 (fun h => ?_) fun h => ?_ | refine go9 (fun h => ?_) fun h => ?_ | refine goA (fun h => ?_) fun h => ?_
    | with_reducible (first | refine IdxK.mk _ rfl ?_ | refine goB ?_ fun hc => ?_ | refine goC ?_ fun hc => ?_ | refine goD ?_ fun hc => ?_ | refine goE ?_ fun hc => ?_ | refine goF ?_ ?_ | refine goG ?_ ?_ | refine goH ?_ fun b hb => ?_)
    | refine goI ?_ | refine goJ ?_ ?_ | refine goK ?_ ?_ ?_ | refine goL ?_ ?_ ?_ ?_ | refine goM ?_ ?_ ?_ ?_ ?_ | refine goN ?_ ?_ | refine goO ?_ ?_
    | with_reducible refine goP ?_)
  all_goals try conv => whnf
  all_goals try (refine Side.mk ?_; try dsimp only)
  refine EndP.mk [] ?_ <;> (repeat' first | trivial | rfl | exact eqS _ _ | refine And.intro ?_ ?_ | refine eqA ?_ | refine eqB ?_ | refine eqC ?_ | refine eqD ?_ | refine eqE ?_ | refine eqF ?_ | refine eqG ?_ | refine eqH ?_ | refine eqI ?_ ?_)
def sm_sameTx : Sm := fun args σ => match args, σ with
  | [.buf 0, .buf 1], [.buf 1 0 l, .buf 1 0 m] => some ((∃ a : List Pf, l = textsF a) ∧ m = l ∧ l.length ≤ 1000000000, .bool true, none)
  | [.list true 0 [], .buf 0], [.buf 1 0 l] => some (l = [], .bool true, none)
  | _, _ => none
theorem k_sameTx : SOK 19 sm_sameTx := by
  intro args sg pre x r he hp
  unfold sm_sameTx at he
  split at he <;> cases he
  · exact f_sameTx_1 (hp := hp) ..
  · exact f_sameTx_2 (hp := hp) ..
abbrev Ct : Type := List (Tg × Int)
abbrev mE (es : Ct) : List (V × Int) := es.map fun e => (eTg e.1, e.2)
def fndT : Ct → Tg → Option (Nat × Int)
  | [], _ => none
  | e :: es, x => if e.1 = x then some (0, e.2) else match fndT es x with
    | some (j, q) => some (j + 1, q)
    | none => none
theorem key_tg (a b : Tg) : keyEq (eTg a) (eTg b) = decide (a = b) := by
  obtain ⟨a1, a2⟩ := a
  obtain ⟨b1, b2⟩ := b
  simp only [keyEq, keqs, keq1, Bool.and_true, Prod.mk.injEq]
  by_cases h1 : a1 = b1 <;> by_cases h2 : a2 = b2 <;> simp [h1, h2]
theorem fnd_mE : ∀ (es : Ct) (k : Tg), fndM (mE es) (eTg k) = fndT es k
  | [], _ => rfl
  | e :: es, k => by
    show cond (keyEq (eTg e.1) (eTg k)) _ _ = _
    rw [key_tg, fndT]
    by_cases h : e.1 = k
    · rw [decide_eq_true h, if_pos h]; rfl
    · rw [decide_eq_false h, if_neg h]
      show (match fndM (mE es) (eTg k) with | some (j, q) => some (j + 1, q) | none => none) = _
      rw [fnd_mE es k]
theorem fnd_some : ∀ {es : Ct} {k : Tg} {j : Nat} {q : Int}, fndT es k = some (j, q) → es[j]? = some (k, q)
  | [], _, _, _, h => by cases h
  | e :: es, k, j, q, h => by
    rw [fndT] at h
    split at h
    · rename_i h1; cases h; subst h1; rfl
    · split at h
      · rename_i j' q' h2
        cases h
        show es[j']? = _
        exact fnd_some h2
      · cases h
theorem fnd_none : ∀ {es : Ct} {k : Tg}, fndT es k = none → ∀ e ∈ es, e.1 ≠ k
  | [], _, _ => fun _ h => by cases h
  | e :: es, k, h => by
    rw [fndT] at h
    split at h
    · cases h
    · rename_i h1
      split at h
      · cases h
      · rename_i h2
        intro e' he
        rcases List.mem_cons.1 he with rfl | he
        · exact h1
        · exact fnd_none h2 e' he
theorem set_mE : ∀ {es : Ct} {j : Nat} {k : Tg} {q q' : Int}, es[j]? = some (k, q) → setM (mE es) j q' = mE (es.set j (k, q'))
  | [], _, _, _, _, h => by cases h
  | e :: es, 0, k, q, q', h => by
    cases h; rfl
  | e :: es, j + 1, k, q, q', h => by
    show (eTg e.1, e.2) :: setM (mE es) j q' = _
    rw [set_mE (es := es) (j := j) h]; rfl
def bumpT (es : Ct) (k : Tg) : Ct := match fndT es k with
  | some (j, q) => es.set j (k, q + 1)
  | none => es ++ [(k, 1)]
def cntT (l : List Pf) : Ct := l.foldl (fun es f => bumpT es (f.no, f.wi)) []
theorem cnt_step {a : List Pf} {i : Nat} (h : i < a.length) : cntT (a.take (i + 1)) = bumpT (cntT (a.take i)) ((a.getD i default).no, (a.getD i default).wi) := by
  unfold cntT
  rw [List.take_add_one, List.foldl_append, List.getD_eq_getElem?_getD, List.getElem?_eq_getElem h]; rfl
def sumT (P : Tg → Bool) : Ct → Int
  | [] => 0
  | e :: es => (if P e.1 = true then e.2 else 0) + sumT P es
theorem sum_app (P : Tg → Bool) : ∀ (a b : Ct), sumT P (a ++ b) = sumT P a + sumT P b
  | [], b => by simp [sumT]
  | e :: a, b => by simp only [List.cons_append, sumT, sum_app P a b]; omega
theorem sum_set (P : Tg → Bool) : ∀ {es : Ct} {j : Nat} {k : Tg} {q : Int}, es[j]? = some (k, q) → sumT P (es.set j (k, q + 1)) = sumT P es + if P k = true then 1 else 0
  | [], _, _, _, h => by cases h
  | e :: es, 0, k, q, h => by
    cases h
    simp only [List.set, sumT]
    split <;> omega
  | e :: es, j + 1, k, q, h => by
    simp only [List.set, sumT, sum_set P (es := es) (j := j) h]; omega
theorem sum_bump (P : Tg → Bool) (es : Ct) (k : Tg) : sumT P (bumpT es k) = sumT P es + if P k = true then 1 else 0 := by
  unfold bumpT
  split
  · rename_i j q h
    exact sum_set P (fnd_some h)
  · rw [sum_app]
    simp only [sumT]
    split <;> omega
structure GoodT (es : Ct) (n : Nat) : Prop where
  nd : (es.map Prod.fst).Nodup
  pos : ∀ e ∈ es, 0 ≤ e.2
  len : es.length ≤ n
theorem set_keys : ∀ {es : Ct} {j : Nat} {k : Tg} {q q' : Int}, es[j]? = some (k, q) → (es.set j (k, q')).map Prod.fst = es.map Prod.fst
  | [], _, _, _, _, h => by cases h
  | e :: es, 0, k, q, q', h => by cases h; rfl
  | e :: es, j + 1, k, q, q', h => by
    simp only [List.set, List.map_cons, set_keys (es := es) (j := j) h]
theorem good_bump {es : Ct} {n : Nat} (h : GoodT es n) (k : Tg) : GoodT (bumpT es k) (n + 1) := by
  unfold bumpT
  split
  · rename_i j q hf
    have hs := fnd_some hf
    refine ⟨by rw [set_keys hs]; exact h.nd, fun e he => ?_, by rw [List.length_set]; have := h.len; omega⟩
    rcases List.mem_or_eq_of_mem_set he with he | rfl
    · exact h.pos e he
    · have := h.pos _ (List.mem_of_getElem? hs)
      show 0 ≤ q + 1
      have : 0 ≤ q := this
      omega
  · rename_i hf
    refine ⟨?_, fun e he => ?_, by rw [List.length_append, List.length_singleton]; have := h.len; omega⟩
    · rw [List.map_append, List.nodup_append]
      refine ⟨h.nd, by simp, fun x hx y hy => ?_⟩
      obtain ⟨e, he, rfl⟩ := List.mem_map.1 hx
      simp at hy
      subst hy
      exact fnd_none hf e he
    · rcases List.mem_append.1 he with he | he
      · exact h.pos e he
      · rw [List.mem_singleton] at he; subst he; exact (by decide : (0 : Int) ≤ 1)
theorem good_cnt (a : List Pf) : ∀ i, i ≤ a.length → GoodT (cntT (a.take i)) i ∧ ∀ P, sumT P (cntT (a.take i)) = ((a.take i).filter fun f => P (f.no, f.wi)).length
  | 0, _ => ⟨⟨by simp [cntT], fun e h => by simp [cntT] at h, by simp [cntT]⟩, fun P => by simp [cntT, sumT]⟩
  | i + 1, h => by
    obtain ⟨h1, h2⟩ := good_cnt a i (by omega)
    rw [cnt_step (by omega)]
    refine ⟨good_bump h1 _, fun P => ?_⟩
    rw [sum_bump, h2, List.take_add_one, List.filter_append, List.length_append, List.getD_eq_getElem?_getD, List.getElem?_eq_getElem (by omega)]
    simp only [Option.getD_some, Option.toList_some, List.filter_cons, List.filter_nil]
    split <;> simp
def delF (es : Ct) (T : List Tg) : Ct := es.filter fun e => !decide (e.1 ∈ T)
theorem del_nil (es : Ct) : delF es [] = es := by simp [delF]
theorem del_app (es : Ct) (T : List Tg) (k : Tg) : delF es (T ++ [k]) = (delF es T).filter fun e => !decide (e.1 = k) := by
  unfold delF
  rw [List.filter_filter]
  congr 1
  funext e
  simp only [List.mem_append, List.mem_singleton]
  by_cases h1 : e.1 ∈ T <;> by_cases h2 : e.1 = k <;> simp [h1, h2]
theorem nd_del {es : Ct} (h : (es.map Prod.fst).Nodup) (T : List Tg) : ((delF es T).map Prod.fst).Nodup :=
  List.Nodup.sublist (List.Sublist.map _ List.filter_sublist) h
theorem del_some : ∀ {es : Ct} {k : Tg} {j : Nat} {q : Int}, (es.map Prod.fst).Nodup → fndT es k = some (j, q) → (es.filter fun e => !decide (e.1 = k)) = es.eraseIdx j
  | [], _, _, _, _, h => by cases h
  | e :: es, k, j, q, hn, h => by
    rw [fndT] at h
    rw [List.map_cons, List.nodup_cons] at hn
    split at h
    · rename_i h1
      cases h
      subst h1
      rw [List.filter_cons, if_neg (by simp), List.eraseIdx_cons_zero]
      refine List.filter_eq_self.2 fun e' he => ?_
      simp only [Bool.not_eq_true', decide_eq_false_iff_not]
      intro q
      exact hn.1 (List.mem_map.2 ⟨e', he, q⟩)
    · rename_i h1
      split at h
      · rename_i j' q' h2
        cases h
        rw [List.filter_cons, if_pos (by simp [h1]), del_some hn.2 h2, List.eraseIdx_cons_succ]
      · cases h
theorem del_none {es : Ct} {k : Tg} (h : fndT es k = none) : (es.filter fun e => !decide (e.1 = k)) = es := by
  refine List.filter_eq_self.2 fun e he => ?_
  simp only [Bool.not_eq_true', decide_eq_false_iff_not]
  exact fnd_none h e he
theorem sum_del (T : List Tg) : ∀ es : Ct, sumT (fun _ => true) (delF es T) = sumT (fun k => !decide (k ∈ T)) es
  | [] => rfl
  | e :: es => by
    have ih := sum_del T es
    unfold delF at ih ⊢
    rw [List.filter_cons]
    by_cases h : e.1 ∈ T
    · rw [if_neg (by simp [h]), ih]; simp [sumT, h]
    · rw [if_pos (by simp [h])]; simp only [sumT, ih]; simp [h]
/-- what is left to be added up -/
def sumI (es : Ct) : List Nat → Int
  | [] => 0
  | j :: l => (es.getD j default).2 + sumI es l
theorem sumI_erase (es : Ct) : ∀ {l : List Nat} {j : Nat}, j ∈ l → sumI es l = (es.getD j default).2 + sumI es (l.erase j)
  | [], _, h => by cases h
  | k :: l, j, h => by
    by_cases e : k = j
    · subst e; simp [sumI]
    · have hm : j ∈ l := by
        rcases List.mem_cons.1 h with q | q
        · exact absurd q.symm e
        · exact q
      have h3 : (k :: l).erase j = k :: l.erase j := by rw [List.erase_cons]; simp [e]
      rw [h3]
      simp only [sumI, sumI_erase es hm]; omega
theorem sumI_pos {es : Ct} (h : ∀ e ∈ es, 0 ≤ e.2) : ∀ l, 0 ≤ sumI es l
  | [] => Int.le_refl 0
  | j :: l => by
    have := sumI_pos h l
    have h2 : 0 ≤ (es.getD j default).2 := by
      rw [List.getD_eq_getElem?_getD]
      cases hg : es[j]? with
      | none => exact Int.le_refl 0
      | some e => exact h e (List.mem_of_getElem? hg)
    simp only [sumI]; omega
theorem sumI_cons (e : Tg × Int) (es : Ct) : ∀ l : List Nat, sumI (e :: es) (l.map (· + 1)) = sumI es l
  | [] => rfl
  | j :: l => by simp only [List.map_cons, sumI, sumI_cons e es l, List.getD_cons_succ]
theorem sumI_all : ∀ es : Ct, sumI es (List.range es.length) = sumT (fun _ => true) es
  | [] => rfl
  | e :: es => by
    rw [List.length_cons, List.range_succ_eq_map]
    have : (List.range es.length).map Nat.succ = (List.range es.length).map (· + 1) := rfl
    simp only [sumI, this, sumI_cons, sumI_all es, sumT, if_true, List.getD_cons_zero]
def restF (T : List Tg) (l : List Pf) : Int := ((selF (fun f => !inT T f) l).length : Nat)
theorem rest_sum (T : List Tg) (a : List Pf) : sumI (delF (cntT a) T) (List.range (delF (cntT a) T).length) = restF T a := by
  have := (good_cnt a a.length (Nat.le_refl _)).2
  rw [List.take_length] at this
  rw [sumI_all, sum_del, this]
  rfl
theorem sum_ge : ∀ {es : Ct} {e : Tg × Int}, (∀ e ∈ es, 0 ≤ e.2) → e ∈ es → e.2 ≤ sumT (fun _ => true) es
  | [], _, _, h => by cases h
  | d :: es, e, hp, h => by
    have h0 : ∀ l : Ct, (∀ e ∈ l, 0 ≤ e.2) → 0 ≤ sumT (fun _ => true) l := fun l => by
      induction l with
      | nil => intro _; exact Int.le_refl 0
      | cons x l ih =>
        intro h
        have h1 := ih fun e he => h e (List.mem_cons_of_mem _ he)
        have h2 := h x (List.mem_cons_self ..)
        simp only [sumT, if_true]; omega
    have h1 := hp d (List.mem_cons_self ..)
    have h2 := h0 es fun e he => hp e (List.mem_cons_of_mem _ he)
    simp only [sumT, if_true]
    rcases List.mem_cons.1 h with rfl | h
    · omega
    · have := sum_ge (fun e he => hp e (List.mem_cons_of_mem _ he)) h
      omega
theorem sumT_le {a : List Pf} {i : Nat} (h : i ≤ a.length) : sumT (fun _ => true) (cntT (a.take i)) ≤ i := by
  rw [(good_cnt a i h).2]
  have := List.length_filter_le (fun _ => true) (a.take i)
  rw [List.length_take] at this
  omega
theorem bump_found {a : List Pf} {i : Nat} (hi : i < a.length) (hl : a.length ≤ 1000000) {j : Nat} {q : Int}
    (h : fndM (mE (cntT (a.take i))) (eTg ((a.getD i default).no, (a.getD i default).wi)) = some (j, q)) :
    setM (mE (cntT (a.take i))) j (IntKind.i64.wrap (getM (mE (cntT (a.take i))) (eTg ((a.getD i default).no, (a.getD i default).wi)) + 1)) = mE (cntT (a.take (i + 1))) ∧ (cntT (a.take (i + 1))).length = (cntT (a.take i)).length ∧ j < (cntT (a.take i)).length := by
  have hg : getM (mE (cntT (a.take i))) (eTg ((a.getD i default).no, (a.getD i default).wi)) = q := by unfold getM; rw [h]
  rw [hg]
  rw [fnd_mE] at h
  have hs := fnd_some h
  have hq := sum_ge (good_cnt a i (by omega)).1.pos (List.mem_of_getElem? hs)
  have hp := (good_cnt a i (by omega)).1.pos _ (List.mem_of_getElem? hs)
  have hu := sumT_le (a := a) (i := i) (by omega)
  have hw : IntKind.i64.wrap (q + 1) = q + 1 := wi_i (by show _ ≤ q + 1 ∧ q + 1 ≤ _; have : q ≤ sumT _ _ := hq; have : 0 ≤ q := hp; omega)
  rw [hw, set_mE hs, cnt_step hi]
  unfold bumpT
  rw [h]
  refine ⟨rfl, List.length_set, ?_⟩
  exact (List.getElem?_eq_some_iff.1 hs).1
theorem bump_new {a : List Pf} {i : Nat} (hi : i < a.length)
    (h : fndM (mE (cntT (a.take i))) (eTg ((a.getD i default).no, (a.getD i default).wi)) = none) :
    setM (mE (cntT (a.take i)) ++ [(eTg ((a.getD i default).no, (a.getD i default).wi), 0)]) (cntT (a.take i)).length (IntKind.i64.wrap (getM (mE (cntT (a.take i))) (eTg ((a.getD i default).no, (a.getD i default).wi)) + 1)) = mE (cntT (a.take (i + 1))) ∧ (cntT (a.take (i + 1))).length = (cntT (a.take i)).length + 1 := by
  have hg : getM (mE (cntT (a.take i))) (eTg ((a.getD i default).no, (a.getD i default).wi)) = 0 := by unfold getM; rw [h]
  rw [hg]
  rw [fnd_mE] at h
  have hs : (cntT (a.take i) ++ [(((a.getD i default).no, (a.getD i default).wi), (0 : Int))])[(cntT (a.take i)).length]? = some (((a.getD i default).no, (a.getD i default).wi), 0) := by
    rw [List.getElem?_append_right (Nat.le_refl _)]; simp
  have e : mE (cntT (a.take i)) ++ [(eTg ((a.getD i default).no, (a.getD i default).wi), (0 : Int))] = mE (cntT (a.take i) ++ [(((a.getD i default).no, (a.getD i default).wi), (0 : Int))]) := by
    show _ = List.map _ (_ ++ _)
    rw [List.map_append]; rfl
  rw [e, set_mE hs, cnt_step hi]
  unfold bumpT
  rw [h]
  refine ⟨?_, by rw [List.length_append]; rfl⟩
  congr 1
  rw [List.set_append_right _ _ (Nat.le_refl _), Nat.sub_self]; rfl
theorem er_mE : ∀ (es : Ct) (j : Nat), (mE es).eraseIdx j = mE (es.eraseIdx j)
  | [], _ => rfl
  | e :: es, 0 => rfl
  | e :: es, j + 1 => by
    show (eTg e.1, e.2) :: (mE es).eraseIdx j = _
    rw [er_mE es j]; rfl
theorem del_found {a : List Pf} {T : List Tg} {i : Nat} (hi : i < T.length) {j : Nat} {q : Int}
    (h : fndM (mE (delF (cntT a) (T.take i))) (eTg (T.getD i default)) = some (j, q)) :
    (mE (delF (cntT a) (T.take i))).eraseIdx j = mE (delF (cntT a) (T.take (i + 1))) ∧ (delF (cntT a) (T.take (i + 1))).length = (delF (cntT a) (T.take i)).length - 1 ∧ j < (delF (cntT a) (T.take i)).length := by
  have hn := (good_cnt a a.length (Nat.le_refl _)).1.nd
  rw [List.take_length] at hn
  rw [fnd_mE] at h
  have e : T.take (i + 1) = T.take i ++ [T.getD i default] := by
    rw [List.take_add_one, List.getD_eq_getElem?_getD, List.getElem?_eq_getElem hi]; rfl
  have hj : j < (delF (cntT a) (T.take i)).length := (List.getElem?_eq_some_iff.1 (fnd_some h)).1
  rw [er_mE, e, del_app, del_some (nd_del hn _) h]
  exact ⟨rfl, List.length_eraseIdx_of_lt hj, hj⟩
theorem del_none' {a : List Pf} {T : List Tg} {i : Nat} (hi : i < T.length)
    (h : fndM (mE (delF (cntT a) (T.take i))) (eTg (T.getD i default)) = none) : delF (cntT a) (T.take (i + 1)) = delF (cntT a) (T.take i) := by
  rw [fnd_mE] at h
  have e : T.take (i + 1) = T.take i ++ [T.getD i default] := by
    rw [List.take_add_one, List.getD_eq_getElem?_getD, List.getElem?_eq_getElem hi]; rfl
  rw [e, del_app, del_none h]
theorem last_at {p : Pf → Bool} {a : List Pf} {i : Nat} (hi : i < a.length) (h : selF p (a.drop (i + 1)) = []) (hp : p (a.getD i default) = true) : lastF (selF p a) = a.getD i default ∧ anyF (selF p a) = true := by
  have e : selF p a = selF p (a.take i) ++ [a.getD i default] := by
    conv => lhs; rw [← List.take_append_drop i a, List.drop_eq_getElem_cons hi]
    unfold selF at h ⊢
    rw [List.getD_eq_getElem?_getD, List.getElem?_eq_getElem hi] at hp ⊢
    rw [List.filter_append, List.filter_cons, h]
    simp only [Option.getD_some] at hp ⊢
    rw [if_pos hp]
  rw [e]
  exact ⟨lastF_app .., anyF_app ..⟩
theorem not_mem_take {T : List Tg} {x : Tg} {i : Nat} (hi : i < T.length) (h : x ∉ T.take i) (k : T.getD i default ≠ x) : x ∉ T.take (i + 1) := by
  rw [List.take_add_one, List.getElem?_eq_getElem hi, List.mem_append]
  rintro (q | q)
  · exact h q
  · rw [List.getD_eq_getElem?_getD, List.getElem?_eq_getElem hi] at k
    simp at q
    exact k q.symm
theorem mem_at {T : List Tg} {x : Tg} {i : Nat} (hi : i < T.length) (k : T.getD i default = x) : x ∈ T := by
  rw [List.getD_eq_getElem?_getD, List.getElem?_eq_getElem hi] at k
  subst k
  exact List.getElem_mem hi
theorem f_r18known_1 (l : List V) (f : Pf) (hp : (∃ T : List Tg, l = T.map eTg) ∧ l.length ≤ 1000000000) : OK 71 ([ePf f, .buf 0]) ([.buf 2 0 l]) (.bool (inT (l.map deTg) f)) (none) := by
  refine funOK_of_vc (C := cx []) (good trivial) (fn := Tryd.f71) rfl rfl rfl rfl fun hw hs => ?_
  obtain ⟨⟨T, rfl⟩, hl⟩ := hp
  simp only [deTg_map]
  have hml : (T.map eTg).length = T.length := List.length_map ..
  repeat' (
    conv => whnf
    first
    | with_reducible (first | refine go1 (fun j q h => ?_) fun h => ?_ | refine go2 ⟨rfl, rfl⟩ (fun h => ?_) fun j h => ?_ | refine go2 ?_ (fun h => ?_) fun j h => ?_)
    | refine go3 ?_ ?_ | refine go4 ?_ ?_ | refine go5 ?_
    | refine go6 (fun h => ?_) fun h => ?_ | refine go7 (fun h => ?_) fun h => ?_ | refine go8 (fun h => ?_) fun h => ?_ | refine go9 (fun h => ?_) fun h => ?_ | refine goA (fun h => ?_) fun h => ?_
    | with_reducible (first | refine IdxK.mk _ rfl ?_ | refine goB ?_ fun hc => ?_ | refine goC ?_ fun hc => ?_ | refine goD ?_ fun hc => ?_ | refine goE ?_ fun hc => ?_ | refine goF ?_ ?_ | refine goG ?_ ?_ | refine goH ?_ fun b hb => ?_)
    | refine goI ?_ | refine goJ ?_ ?_ | refine goK ?_ ?_ ?_ | refine goL ?_ ?_ ?_ ?_ | refine goM ?_ ?_ ?_ ?_ ?_ | refine goN ?_ ?_ | refine goO ?_ ?_
    | with_reducible refine goP ?_)
  all_goals try conv => whnf
  all_goals try (refine Side.mk ?_; try dsimp only)
  refine LoopP.mk Nat (fun i => i ≤ T.length ∧ (f.no, f.wi) ∉ T.take i) (fun i => ⟨30, [(1, .buf 0), (2, .ptr 1 0), (5, .int .i64 i)], [.buf 2 0 (T.map eTg), .cells (ePc f)], []⟩) (fun i => T.length - i) [] 0 ⟨Nat.zero_le _, by simp⟩ ?_ (fun i ⟨hi, hj⟩ _ _ => ?_)
  · refine Go.VG.Sub.mk rfl ?_ ?_ ?_ ?_ <;> (repeat' first | trivial | rfl | exact eqS _ _ | refine And.intro ?_ ?_ | refine eqA ?_ | refine eqB ?_ | refine eqC ?_ | refine eqD ?_ | refine eqE ?_ | refine eqF ?_ | refine eqG ?_ | refine eqH ?_ | refine eqI ?_ ?_)
  repeat' (
    conv => whnf
    first
    | with_reducible (first | refine go1 (fun j q h => ?_) fun h => ?_ | refine go2 ⟨rfl, rfl⟩ (fun h => ?_) fun j h => ?_ | refine go2 ?_ (fun h => ?_) fun j h => ?_)
    | refine go3 ?_ ?_ | refine go4 ?_ ?_ | refine go5 ?_
    | refine go6 (fun h => ?_) fun h => ?_ | refine go7 (fun h => ?_) fun h => ?_ | refine go8 (fun h => ?_) fun h => ?_ | refine go9 (fun h => ?_) fun h => ?_ | refine goA (fun h => ?_) fun h => ?_
    | with_reducible (first | refine IdxK.mk _ rfl ?_ | refine goB ?_ fun hc => ?_ | refine goC ?_ fun hc => ?_ | refine goD ?_ fun hc => ?_ | refine goE ?_ fun hc => ?_ | refine goF ?_ ?_ | refine goG ?_ ?_ | refine goH ?_ fun b hb => ?_)
    | refine goI ?_ | refine goJ ?_ ?_ | refine goK ?_ ?_ ?_ | refine goL ?_ ?_ ?_ ?_ | refine goM ?_ ?_ ?_ ?_ ?_ | refine goN ?_ ?_ | refine goO ?_ ?_
    | with_reducible refine goP ?_)
  all_goals try conv => whnf
  all_goals try (refine Side.mk ?_; try dsimp only)
  all_goals (try simp only [Cu_eta] at *)
  all_goals first
    | (show LoopP _ _ _ _; skip)
    | (show GotoP _ _ _ _ _; skip)
    | (show EndP _ _ _ _ _ _; skip)
    | (show ∃ _, _; skip)
    | (first
          | trivial
          | omega
          | (simp (discharger := omega) only [wu8, wu16, wu32, wu64, wi32, wi64, Int.tdiv_eq_ediv_of_nonneg, Int.tmod_eq_emod_of_nonneg]; omega)
          | (simp only [List.length_append, List.length_cons, List.length_nil, bl_length, List.length_take, List.length_drop]; omega)
          | (simp (discharger := omega) [-List.getD_eq_getElem?_getD, wu8, wu16, wu32, wu64, wi32, wi64, Int.tdiv_eq_ediv_of_nonneg, Int.tmod_eq_emod_of_nonneg]; done)
          | (simp (discharger := omega) [-List.getD_eq_getElem?_getD, wu8, wu16, wu32, wu64, wi32, wi64, Int.tdiv_eq_ediv_of_nonneg, Int.tmod_eq_emod_of_nonneg]; omega))
    | skip
  all_goals (try simp only [List.length_map] at *)
  all_goals first
    | (show EndP _ _ _ _ _ _
       have hd : inT T f = true := decide_eq_true (mem_at (i := i) (by omega) (Prod.ext (by assumption) (by assumption)))
       rw [hd]
       refine EndP.mk [] ?_ <;> (repeat' first | trivial | rfl | exact eqS _ _ | refine And.intro ?_ ?_ | refine eqA ?_ | refine eqB ?_ | refine eqC ?_ | refine eqD ?_ | refine eqE ?_ | refine eqF ?_ | refine eqG ?_ | refine eqH ?_ | refine eqI ?_ ?_)
       done)
    | (show EndP _ _ _ _ _ _
       obtain rfl : i = T.length := by omega
       rw [List.take_length] at hj
       have hd : inT T f = false := decide_eq_false hj
       rw [hd]
       refine EndP.mk [] ?_ <;> (repeat' first | trivial | rfl | exact eqS _ _ | refine And.intro ?_ ?_ | refine eqA ?_ | refine eqB ?_ | refine eqC ?_ | refine eqD ?_ | refine eqE ?_ | refine eqF ?_ | refine eqG ?_ | refine eqH ?_ | refine eqI ?_ ?_)
       done)
    | (refine ⟨[], i + 1, ⟨by omega, ?_⟩, ?_, by omega⟩
       · refine not_mem_take (by omega) hj fun q => ?_
         first
         | exact absurd (congrArg Prod.fst q) (by assumption)
         | exact absurd (congrArg Prod.snd q) (by assumption)
       · refine Go.VG.Sub.mk rfl ?_ ?_ ?_ ?_ <;> (repeat' first | trivial | rfl | exact eqS _ _ | refine And.intro ?_ ?_ | refine eqA ?_ | refine eqB ?_ | refine eqC ?_ | refine eqD ?_ | refine eqE ?_ | refine eqF ?_ | refine eqG ?_ | refine eqH ?_ | refine eqI ?_ ?_)
         (first | omega | (simp (discharger := omega) only [wu8, wu16, wu32, wu64, wi32, wi64, Int.tdiv_eq_ediv_of_nonneg, Int.tmod_eq_emod_of_nonneg]; omega) | (simp only [List.length_append, List.length_cons, List.length_nil, bl_length, List.length_take, List.length_drop]; omega) | (simp (discharger := omega) [-List.getD_eq_getElem?_getD, wu8, wu16, wu32, wu64, wi32, wi64, Int.tdiv_eq_ediv_of_nonneg, Int.tmod_eq_emod_of_nonneg]; done) | (simp (discharger := omega) [-List.getD_eq_getElem?_getD, wu8, wu16, wu32, wu64, wi32, wi64, Int.tdiv_eq_ediv_of_nonneg, Int.tmod_eq_emod_of_nonneg]; omega))
       done)
theorem f_r18known_2 (l : List V) (f : Pf) (hp : (∃ T : List Tg, l = T.map eTg) ∧ l.length ≤ 1000000000) : OK 71 ([ePf f, .list false 2 l]) ([]) (.bool (inT (l.map deTg) f)) (none) := by
  refine funOK_of_vc (C := cx []) (good trivial) (fn := Tryd.f71) rfl rfl rfl rfl fun hw hs => ?_
  obtain ⟨⟨T, rfl⟩, hl⟩ := hp
  simp only [deTg_map]
  have hml : (T.map eTg).length = T.length := List.length_map ..
  repeat' (
    conv => whnf
    first
    | with_reducible (first | refine go1 (fun j q h => ?_) fun h => ?_ | refine go2 ⟨rfl, rfl⟩ (fun h => ?_) fun j h => ?_ | refine go2 ?_ (fun h => ?_) fun j h => ?_)
    | refine go3 ?_ ?_ | refine go4 ?_ ?_ | refine go5 ?_
    | refine go6 (fun h => ?_) fun h => ?_ | refine go7 (fun h => ?_) fun h => ?_ | refine go8 (fun h => ?_) fun h => ?_ | refine go9 (fun h => ?_) fun h => ?_ | refine goA (fun h => ?_) fun h => ?_
    | with_reducible (first | refine IdxK.mk _ rfl ?_ | refine goB ?_ fun hc => ?_ | refine goC ?_ fun hc => ?_ | refine goD ?_ fun hc => ?_ | refine goE ?_ fun hc => ?_ | refine goF ?_ ?_ | refine goG ?_ ?_ | refine goH ?_ fun b hb => ?_)
    | refine goI ?_ | refine goJ ?_ ?_ | refine goK ?_ ?_ ?_ | refine goL ?_ ?_ ?_ ?_ | refine goM ?_ ?_ ?_ ?_ ?_ | refine goN ?_ ?_ | refine goO ?_ ?_
    | with_reducible refine goP ?_)
  all_goals try conv => whnf
  all_goals try (refine Side.mk ?_; try dsimp only)
  refine LoopP.mk Nat (fun i => i ≤ T.length ∧ (f.no, f.wi) ∉ T.take i) (fun i => ⟨30, [(1, .list false 2 (T.map eTg)), (2, .ptr 0 0), (5, .int .i64 i)], [.cells (ePc f)], []⟩) (fun i => T.length - i) [] 0 ⟨Nat.zero_le _, by simp⟩ ?_ (fun i ⟨hi, hj⟩ _ _ => ?_)
  · refine Go.VG.Sub.mk rfl ?_ ?_ ?_ ?_ <;> (repeat' first | trivial | rfl | exact eqS _ _ | refine And.intro ?_ ?_ | refine eqA ?_ | refine eqB ?_ | refine eqC ?_ | refine eqD ?_ | refine eqE ?_ | refine eqF ?_ | refine eqG ?_ | refine eqH ?_ | refine eqI ?_ ?_)
  repeat' (
    conv => whnf
    first
    | with_reducible (first | refine go1 (fun j q h => ?_) fun h => ?_ | refine go2 ⟨rfl, rfl⟩ (fun h => ?_) fun j h => ?_ | refine go2 ?_ (fun h => ?_) fun j h => ?_)
    | refine go3 ?_ ?_ | refine go4 ?_ ?_ | refine go5 ?_
    | refine go6 (fun h => ?_) fun h => ?_ | refine go7 (fun h => ?_) fun h => ?_ | refine go8 (fun h => ?_) fun h => ?_ | refine go9 (fun h => ?_) fun h => ?_ | refine goA (fun h => ?_) fun h => ?_
    | with_reducible (first | refine IdxK.mk _ rfl ?_ | refine goB ?_ fun hc => ?_ | refine goC ?_ fun hc => ?_ | refine goD ?_ fun hc => ?_ | refine goE ?_ fun hc => ?_ | refine goF ?_ ?_ | refine goG ?_ ?_ | refine goH ?_ fun b hb => ?_)
    | refine goI ?_ | refine goJ ?_ ?_ | refine goK ?_ ?_ ?_ | refine goL ?_ ?_ ?_ ?_ | refine goM ?_ ?_ ?_ ?_ ?_ | refine goN ?_ ?_ | refine goO ?_ ?_
    | with_reducible refine goP ?_)
  all_goals try conv => whnf
  all_goals try (refine Side.mk ?_; try dsimp only)
  all_goals (try simp only [Cu_eta] at *)
  all_goals first
    | (show LoopP _ _ _ _; skip)
    | (show GotoP _ _ _ _ _; skip)
    | (show EndP _ _ _ _ _ _; skip)
    | (show ∃ _, _; skip)
    | (first
          | trivial
          | omega
          | (simp (discharger := omega) only [wu8, wu16, wu32, wu64, wi32, wi64, Int.tdiv_eq_ediv_of_nonneg, Int.tmod_eq_emod_of_nonneg]; omega)
          | (simp only [List.length_append, List.length_cons, List.length_nil, bl_length, List.length_take, List.length_drop]; omega)
          | (simp (discharger := omega) [-List.getD_eq_getElem?_getD, wu8, wu16, wu32, wu64, wi32, wi64, Int.tdiv_eq_ediv_of_nonneg, Int.tmod_eq_emod_of_nonneg]; done)
          | (simp (discharger := omega) [-List.getD_eq_getElem?_getD, wu8, wu16, wu32, wu64, wi32, wi64, Int.tdiv_eq_ediv_of_nonneg, Int.tmod_eq_emod_of_nonneg]; omega))
    | skip
  all_goals (try simp only [List.length_map] at *)
  all_goals first
    | (show EndP _ _ _ _ _ _
       have hd : inT T f = true := decide_eq_true (mem_at (i := i) (by omega) (Prod.ext (by assumption) (by assumption)))
       rw [hd]
       refine EndP.mk [] ?_ <;> (repeat' first | trivial | rfl | exact eqS _ _ | refine And.intro ?_ ?_ | refine eqA ?_ | refine eqB ?_ | refine eqC ?_ | refine eqD ?_ | refine eqE ?_ | refine eqF ?_ | refine eqG ?_ | refine eqH ?_ | refine eqI ?_ ?_)
       done)
    | (show EndP _ _ _ _ _ _
       obtain rfl : i = T.length := by omega
       rw [List.take_length] at hj
       have hd : inT T f = false := decide_eq_false hj
       rw [hd]
       refine EndP.mk [] ?_ <;> (repeat' first | trivial | rfl | exact eqS _ _ | refine And.intro ?_ ?_ | refine eqA ?_ | refine eqB ?_ | refine eqC ?_ | refine eqD ?_ | refine eqE ?_ | refine eqF ?_ | refine eqG ?_ | refine eqH ?_ | refine eqI ?_ ?_)
       done)
    | (refine ⟨[], i + 1, ⟨by omega, ?_⟩, ?_, by omega⟩
       · refine not_mem_take (by omega) hj fun q => ?_
         first
         | exact absurd (congrArg Prod.fst q) (by assumption)
         | exact absurd (congrArg Prod.snd q) (by assumption)
       · refine Go.VG.Sub.mk rfl ?_ ?_ ?_ ?_ <;> (repeat' first | trivial | rfl | exact eqS _ _ | refine And.intro ?_ ?_ | refine eqA ?_ | refine eqB ?_ | refine eqC ?_ | refine eqD ?_ | refine eqE ?_ | refine eqF ?_ | refine eqG ?_ | refine eqH ?_ | refine eqI ?_ ?_)
         (first | omega | (simp (discharger := omega) only [wu8, wu16, wu32, wu64, wi32, wi64, Int.tdiv_eq_ediv_of_nonneg, Int.tmod_eq_emod_of_nonneg]; omega) | (simp only [List.length_append, List.length_cons, List.length_nil, bl_length, List.length_take, List.length_drop]; omega) | (simp (discharger := omega) [-List.getD_eq_getElem?_getD, wu8, wu16, wu32, wu64, wi32, wi64, Int.tdiv_eq_ediv_of_nonneg, Int.tmod_eq_emod_of_nonneg]; done) | (simp (discharger := omega) [-List.getD_eq_getElem?_getD, wu8, wu16, wu32, wu64, wi32, wi64, Int.tdiv_eq_ediv_of_nonneg, Int.tmod_eq_emod_of_nonneg]; omega))
       done)
def sm_r18known : Sm := fun args σ => match args, σ with
  | [.agg [.int .i64 n_f, .int .i64 w_f, .int .u64 u_f, .str t_f], .buf 0], [.buf 2 0 l] => some (True ∧ ((∃ T : List Tg, l = T.map eTg) ∧ l.length ≤ 1000000000), .bool (inT (l.map deTg) (Pf.mk n_f w_f u_f t_f)), none)
  | [.agg [.int .i64 n_f, .int .i64 w_f, .int .u64 u_f, .str t_f], .list false 2 l], [] => some (True ∧ ((∃ T : List Tg, l = T.map eTg) ∧ l.length ≤ 1000000000), .bool (inT (l.map deTg) (Pf.mk n_f w_f u_f t_f)), none)
  | _, _ => none
theorem k_r18known : SOK 71 sm_r18known := by
  intro args sg pre x r he hp
  unfold sm_r18known at he
  split at he <;> cases he
  · rw [viewPf (hp).1]; exact f_r18known_1 (hp := hp.2) ..
  · rw [viewPf (hp).1]; exact f_r18known_2 (hp := hp.2) ..
theorem f_r18Rest_1 (l tl : List V) (hp : (∃ a : List Pf, l = a.map ePf) ∧ l.length ≤ 1000000 ∧ (∃ T : List Tg, tl = T.map eTg) ∧ tl.length ≤ 1000000) : OK 38 ([.buf 0, .buf 1]) ([.buf 4 0 l, .buf 2 0 tl]) (.int .i64 (restF (tl.map deTg) (l.map dePf))) (none) := by
  refine funOK_of_vc (C := cx [(71, sm_r18known)]) (good ⟨k_r18known, trivial⟩) (fn := Tryd.f38) rfl rfl rfl rfl fun hw hs => ?_
  obtain ⟨⟨a, rfl⟩, hl, ⟨T, rfl⟩, hT⟩ := hp
  simp only [deTg_map, dePf_map]
  have hml : (a.map ePf).length = a.length := List.length_map ..
  repeat' (
    conv => whnf
    first
    | with_reducible (first | refine go1 (fun j q h => ?_) fun h => ?_ | refine go2 ⟨rfl, rfl⟩ (fun h => ?_) fun j h => ?_ | refine go2 ?_ (fun h => ?_) fun j h => ?_)
    | refine go3 ?_ ?_ | refine go4 ?_ ?_ | refine go5 ?_
    | refine go6 (fun h => ?_) fun h => ?_ | refine go7 (fun h => ?_) fun h => ?_ | refine go8 (fun h => ?_) fun h => ?_ | refine go9 (fun h => ?_) fun h => ?_ | refine goA (fun h => ?_) fun h => ?_
    | with_reducible (first | refine IdxK.mk _ rfl ?_ | refine goB ?_ fun hc => ?_ | refine goC ?_ fun hc => ?_ | refine goD ?_ fun hc => ?_ | refine goE ?_ fun hc => ?_ | refine goF ?_ ?_ | refine goG ?_ ?_ | refine goH ?_ fun b hb => ?_)
    | refine goI ?_ | refine goJ ?_ ?_ | refine goK ?_ ?_ ?_ | refine goL ?_ ?_ ?_ ?_ | refine goM ?_ ?_ ?_ ?_ ?_ | refine goN ?_ ?_ | refine goO ?_ ?_
    | with_reducible refine goP ?_)
  all_goals try conv => whnf
  all_goals try (refine Side.mk ?_; try dsimp only)
  refine LoopP.mk Nat (fun i => i ≤ a.length) (fun i => ⟨23, [(0, .buf 0), (1, .buf 1), (5, .int .i64 (restF T (a.take i))), (6, .int .i64 i)], [.buf 4 0 (a.map ePf), .buf 2 0 (T.map eTg)], []⟩) (fun i => a.length - i) [] 0 (Nat.zero_le _) ?_ (fun i hi _ _ => ?_)
  · refine Go.VG.Sub.mk rfl ?_ ?_ ?_ ?_ <;> (repeat' first | trivial | rfl | exact eqS _ _ | refine And.intro ?_ ?_ | refine eqA ?_ | refine eqB ?_ | refine eqC ?_ | refine eqD ?_ | refine eqE ?_ | refine eqF ?_ | refine eqG ?_ | refine eqH ?_ | refine eqI ?_ ?_)
  have hst := fun h => sel_step (fun f => !inT T f) (a := a) (i := i) h
  have hsl : 0 ≤ restF T (a.take i) ∧ restF T (a.take i) ≤ i := by
    unfold restF selF
    have := List.length_filter_le (fun f => !inT T f) (a.take i)
    rw [List.length_take] at this
    omega
  repeat' (
    conv => whnf
    first
    | with_reducible (first | refine go1 (fun j q h => ?_) fun h => ?_ | refine go2 ⟨rfl, rfl⟩ (fun h => ?_) fun j h => ?_ | refine go2 ?_ (fun h => ?_) fun j h => ?_)
    | refine go3 ?_ ?_ | refine go4 ?_ ?_ | refine go5 ?_
    | refine go6 (fun h => ?_) fun h => ?_ | refine go7 (fun h => ?_) fun h => ?_ | refine go8 (fun h => ?_) fun h => ?_ | refine go9 (fun h => ?_) fun h => ?_ | refine goA (fun h => ?_) fun h => ?_
    | with_reducible (first | refine IdxK.mk _ rfl ?_ | refine goB ?_ fun hc => ?_ | refine goC ?_ fun hc => ?_ | refine goD ?_ fun hc => ?_ | refine goE ?_ fun hc => ?_ | refine goF ?_ ?_ | refine goG ?_ ?_ | refine goH ?_ fun b hb => ?_)
    | refine goI ?_ | refine goJ ?_ ?_ | refine goK ?_ ?_ ?_ | refine goL ?_ ?_ ?_ ?_ | refine goM ?_ ?_ ?_ ?_ ?_ | refine goN ?_ ?_ | refine goO ?_ ?_
    | with_reducible refine goP ?_)
  all_goals try conv => whnf
  all_goals try (refine Side.mk ?_; try dsimp only)
  all_goals (try simp only [Cu_eta] at *)
  all_goals first
    | (show LoopP _ _ _ _; skip)
    | (show GotoP _ _ _ _ _; skip)
    | (show EndP _ _ _ _ _ _; skip)
    | (show ∃ _, _; skip)
    | (first
          | trivial
          | omega
          | (simp (discharger := omega) only [wu8, wu16, wu32, wu64, wi32, wi64, Int.tdiv_eq_ediv_of_nonneg, Int.tmod_eq_emod_of_nonneg]; omega)
          | (simp only [List.length_append, List.length_cons, List.length_nil, bl_length, List.length_take, List.length_drop]; omega)
          | (simp (discharger := omega) [-List.getD_eq_getElem?_getD, wu8, wu16, wu32, wu64, wi32, wi64, Int.tdiv_eq_ediv_of_nonneg, Int.tmod_eq_emod_of_nonneg]; done)
          | (simp (discharger := omega) [-List.getD_eq_getElem?_getD, wu8, wu16, wu32, wu64, wi32, wi64, Int.tdiv_eq_ediv_of_nonneg, Int.tmod_eq_emod_of_nonneg]; omega))
    | skip
  all_goals (try simp only [List.length_map, deTg_map] at *)
  all_goals first
    | exact ⟨trivial, ⟨_, rfl⟩, by omega⟩
    | (show EndP _ _ _ _ _ _
       obtain rfl : i = a.length := by omega
       rw [List.take_length]
       refine EndP.mk [] ?_ <;> (repeat' first | trivial | rfl | exact eqS _ _ | refine And.intro ?_ ?_ | refine eqA ?_ | refine eqB ?_ | refine eqC ?_ | refine eqD ?_ | refine eqE ?_ | refine eqF ?_ | refine eqG ?_ | refine eqH ?_ | refine eqI ?_ ?_)
       done)
    | (have hst := hst (by omega)
       have hm := ‹((a.getD i default).no, (a.getD i default).wi) ∈ T›
       rw [if_neg (by show ¬ (!decide _) = true; rw [decide_eq_true hm]; decide)] at hst
       refine ⟨[], i + 1, by omega, ?_, by omega⟩
       refine Go.VG.Sub.mk rfl ?_ ?_ ?_ ?_ <;> (repeat' first | trivial | rfl | exact eqS _ _ | refine And.intro ?_ ?_ | refine eqA ?_ | refine eqB ?_ | refine eqC ?_ | refine eqD ?_ | refine eqE ?_ | refine eqF ?_ | refine eqG ?_ | refine eqH ?_ | refine eqI ?_ ?_)
       all_goals first
         | (unfold restF; rw [hst]; done)
         | ((first | omega | (simp (discharger := omega) only [wu8, wu16, wu32, wu64, wi32, wi64, Int.tdiv_eq_ediv_of_nonneg, Int.tmod_eq_emod_of_nonneg]; omega) | (simp only [List.length_append, List.length_cons, List.length_nil, bl_length, List.length_take, List.length_drop]; omega) | (simp (discharger := omega) [-List.getD_eq_getElem?_getD, wu8, wu16, wu32, wu64, wi32, wi64, Int.tdiv_eq_ediv_of_nonneg, Int.tmod_eq_emod_of_nonneg]; done) | (simp (discharger := omega) [-List.getD_eq_getElem?_getD, wu8, wu16, wu32, wu64, wi32, wi64, Int.tdiv_eq_ediv_of_nonneg, Int.tmod_eq_emod_of_nonneg]; omega)); done)
       done)
    | (have hst := hst (by omega)
       have hm := ‹¬ ((a.getD i default).no, (a.getD i default).wi) ∈ T›
       rw [if_pos (by show (!decide _) = true; rw [decide_eq_false hm]; rfl)] at hst
       refine ⟨[], i + 1, by omega, ?_, by omega⟩
       refine Go.VG.Sub.mk rfl ?_ ?_ ?_ ?_ <;> (repeat' first | trivial | rfl | exact eqS _ _ | refine And.intro ?_ ?_ | refine eqA ?_ | refine eqB ?_ | refine eqC ?_ | refine eqD ?_ | refine eqE ?_ | refine eqF ?_ | refine eqG ?_ | refine eqH ?_ | refine eqI ?_ ?_)
       all_goals first
         | (have e : restF T (a.take (i + 1)) = restF T (a.take i) + 1 := by unfold restF; rw [hst, List.length_append, List.length_singleton]; rfl
            rw [e, wi_i (by omega)]; done)
         | ((first | omega | (simp (discharger := omega) only [wu8, wu16, wu32, wu64, wi32, wi64, Int.tdiv_eq_ediv_of_nonneg, Int.tmod_eq_emod_of_nonneg]; omega) | (simp only [List.length_append, List.length_cons, List.length_nil, bl_length, List.length_take, List.length_drop]; omega) | (simp (discharger := omega) [-List.getD_eq_getElem?_getD, wu8, wu16, wu32, wu64, wi32, wi64, Int.tdiv_eq_ediv_of_nonneg, Int.tmod_eq_emod_of_nonneg]; done) | (simp (discharger := omega) [-List.getD_eq_getElem?_getD, wu8, wu16, wu32, wu64, wi32, wi64, Int.tdiv_eq_ediv_of_nonneg, Int.tmod_eq_emod_of_nonneg]; omega)); done)
       done)
theorem f_r18Rest_2 (l tl : List V) (hp : (∃ a : List Pf, l = a.map ePf) ∧ l.length ≤ 1000000 ∧ (∃ T : List Tg, tl = T.map eTg) ∧ tl.length ≤ 1000000) : OK 38 ([.buf 0, .list false 2 tl]) ([.buf 4 0 l]) (.int .i64 (restF (tl.map deTg) (l.map dePf))) (none) := by
  refine funOK_of_vc (C := cx [(71, sm_r18known)]) (good ⟨k_r18known, trivial⟩) (fn := Tryd.f38) rfl rfl rfl rfl fun hw hs => ?_
  obtain ⟨⟨a, rfl⟩, hl, ⟨T, rfl⟩, hT⟩ := hp
  simp only [deTg_map, dePf_map]
  have hml : (a.map ePf).length = a.length := List.length_map ..
  repeat' (
    conv => whnf
    first
    | with_reducible (first | refine go1 (fun j q h => ?_) fun h => ?_ | refine go2 ⟨rfl, rfl⟩ (fun h => ?_) fun j h => ?_ | refine go2 ?_ (fun h => ?_) fun j h => ?_)
    | refine go3 ?_ ?_ | refine go4 ?_ ?_ | refine go5 ?_
    | refine go6 (fun h => ?_) fun h => ?_ | refine go7 (fun h => ?_) fun h => ?_ | refine go8 (fun h => ?_) fun h => ?_ | refine go9 (fun h => ?_) fun h => ?_ | refine goA (fun h => ?_) fun h => ?_
    | with_reducible (first | refine IdxK.mk _ rfl ?_ | refine goB ?_ fun hc => ?_ | refine goC ?_ fun hc => ?_ | refine goD ?_ fun hc => ?_ | refine goE ?_ fun hc => ?_ | refine goF ?_ ?_ | refine goG ?_ ?_ | refine goH ?_ fun b hb => ?_)
    | refine goI ?_ | refine goJ ?_ ?_ | refine goK ?_ ?_ ?_ | refine goL ?_ ?_ ?_ ?_ | refine goM ?_ ?_ ?_ ?_ ?_ | refine goN ?_ ?_ | refine goO ?_ ?_
    | with_reducible refine goP ?_)
  all_goals try conv => whnf
  all_goals try (refine Side.mk ?_; try dsimp only)
  refine LoopP.mk Nat (fun i => i ≤ a.length) (fun i => ⟨23, [(0, .buf 0), (1, .list false 2 (T.map eTg)), (5, .int .i64 (restF T (a.take i))), (6, .int .i64 i)], [.buf 4 0 (a.map ePf)], []⟩) (fun i => a.length - i) [] 0 (Nat.zero_le _) ?_ (fun i hi _ _ => ?_)
  · refine Go.VG.Sub.mk rfl ?_ ?_ ?_ ?_ <;> (repeat' first | trivial | rfl | exact eqS _ _ | refine And.intro ?_ ?_ | refine eqA ?_ | refine eqB ?_ | refine eqC ?_ | refine eqD ?_ | refine eqE ?_ | refine eqF ?_ | refine eqG ?_ | refine eqH ?_ | refine eqI ?_ ?_)
  have hst := fun h => sel_step (fun f => !inT T f) (a := a) (i := i) h
  have hsl : 0 ≤ restF T (a.take i) ∧ restF T (a.take i) ≤ i := by
    unfold restF selF
    have := List.length_filter_le (fun f => !inT T f) (a.take i)
    rw [List.length_take] at this
    omega
  repeat' (
    conv => whnf
    first
    | with_reducible (first | refine go1 (fun j q h => ?_) fun h => ?_ | refine go2 ⟨rfl, rfl⟩ (fun h => ?_) fun j h => ?_ | refine go2 ?_ (fun h => ?_) fun j h => ?_)
    | refine go3 ?_ ?_ | refine go4 ?_ ?_ | refine go5 ?_
    | refine go6 (fun h => ?_) fun h => ?_ | refine go7 (fun h => ?_) fun h => ?_ | refine go8 (fun h => ?_) fun h => ?_ | refine go9 (fun h => ?_) fun h => ?_ | refine goA (fun h => ?_) fun h => ?_
    | with_reducible (first | refine IdxK.mk _ rfl ?_ | refine goB ?_ fun hc => ?_ | refine goC ?_ fun hc => ?_ | refine goD ?_ fun hc => ?_ | refine goE ?_ fun hc => ?_ | refine goF ?_ ?_ | refine goG ?_ ?_ | refine goH ?_ fun b hb => ?_)
    | refine goI ?_ | refine goJ ?_ ?_ | refine goK ?_ ?_ ?_ | refine goL ?_ ?_ ?_ ?_ | refine goM ?_ ?_ ?_ ?_ ?_ | refine goN ?_ ?_ | refine goO ?_ ?_
    | with_reducible refine goP ?_)
  all_goals try conv => whnf
  all_goals try (refine Side.mk ?_; try dsimp only)
  all_goals (try simp only [Cu_eta] at *)
  all_goals first
    | (show LoopP _ _ _ _; skip)
    | (show GotoP _ _ _ _ _; skip)
    | (show EndP _ _ _ _ _ _; skip)
    | (show ∃ _, _; skip)
    | (first
          | trivial
          | omega
          | (simp (discharger := omega) only [wu8, wu16, wu32, wu64, wi32, wi64, Int.tdiv_eq_ediv_of_nonneg, Int.tmod_eq_emod_of_nonneg]; omega)
          | (simp only [List.length_append, List.length_cons, List.length_nil, bl_length, List.length_take, List.length_drop]; omega)
          | (simp (discharger := omega) [-List.getD_eq_getElem?_getD, wu8, wu16, wu32, wu64, wi32, wi64, Int.tdiv_eq_ediv_of_nonneg, Int.tmod_eq_emod_of_nonneg]; done)
          | (simp (discharger := omega) [-List.getD_eq_getElem?_getD, wu8, wu16, wu32, wu64, wi32, wi64, Int.tdiv_eq_ediv_of_nonneg, Int.tmod_eq_emod_of_nonneg]; omega))
    | skip
  all_goals (try simp only [List.length_map, deTg_map] at *)
  all_goals first
    | exact ⟨trivial, ⟨_, rfl⟩, by omega⟩
    | (show EndP _ _ _ _ _ _
       obtain rfl : i = a.length := by omega
       rw [List.take_length]
       refine EndP.mk [] ?_ <;> (repeat' first | trivial | rfl | exact eqS _ _ | refine And.intro ?_ ?_ | refine eqA ?_ | refine eqB ?_ | refine eqC ?_ | refine eqD ?_ | refine eqE ?_ | refine eqF ?_ | refine eqG ?_ | refine eqH ?_ | refine eqI ?_ ?_)
       done)
    | (have hst := hst (by omega)
       have hm := ‹((a.getD i default).no, (a.getD i default).wi) ∈ T›
       rw [if_neg (by show ¬ (!decide _) = true; rw [decide_eq_true hm]; decide)] at hst
       refine ⟨[], i + 1, by omega, ?_, by omega⟩
       refine Go.VG.Sub.mk rfl ?_ ?_ ?_ ?_ <;> (repeat' first | trivial | rfl | exact eqS _ _ | refine And.intro ?_ ?_ | refine eqA ?_ | refine eqB ?_ | refine eqC ?_ | refine eqD ?_ | refine eqE ?_ | refine eqF ?_ | refine eqG ?_ | refine eqH ?_ | refine eqI ?_ ?_)
       all_goals first
         | (unfold restF; rw [hst]; done)
         | ((first | omega | (simp (discharger := omega) only [wu8, wu16, wu32, wu64, wi32, wi64, Int.tdiv_eq_ediv_of_nonneg, Int.tmod_eq_emod_of_nonneg]; omega) | (simp only [List.length_append, List.length_cons, List.length_nil, bl_length, List.length_take, List.length_drop]; omega) | (simp (discharger := omega) [-List.getD_eq_getElem?_getD, wu8, wu16, wu32, wu64, wi32, wi64, Int.tdiv_eq_ediv_of_nonneg, Int.tmod_eq_emod_of_nonneg]; done) | (simp (discharger := omega) [-List.getD_eq_getElem?_getD, wu8, wu16, wu32, wu64, wi32, wi64, Int.tdiv_eq_ediv_of_nonneg, Int.tmod_eq_emod_of_nonneg]; omega)); done)
       done)
    | (have hst := hst (by omega)
       have hm := ‹¬ ((a.getD i default).no, (a.getD i default).wi) ∈ T›
       rw [if_pos (by show (!decide _) = true; rw [decide_eq_false hm]; rfl)] at hst
       refine ⟨[], i + 1, by omega, ?_, by omega⟩
       refine Go.VG.Sub.mk rfl ?_ ?_ ?_ ?_ <;> (repeat' first | trivial | rfl | exact eqS _ _ | refine And.intro ?_ ?_ | refine eqA ?_ | refine eqB ?_ | refine eqC ?_ | refine eqD ?_ | refine eqE ?_ | refine eqF ?_ | refine eqG ?_ | refine eqH ?_ | refine eqI ?_ ?_)
       all_goals first
         | (have e : restF T (a.take (i + 1)) = restF T (a.take i) + 1 := by unfold restF; rw [hst, List.length_append, List.length_singleton]; rfl
            rw [e, wi_i (by omega)]; done)
         | ((first | omega | (simp (discharger := omega) only [wu8, wu16, wu32, wu64, wi32, wi64, Int.tdiv_eq_ediv_of_nonneg, Int.tmod_eq_emod_of_nonneg]; omega) | (simp only [List.length_append, List.length_cons, List.length_nil, bl_length, List.length_take, List.length_drop]; omega) | (simp (discharger := omega) [-List.getD_eq_getElem?_getD, wu8, wu16, wu32, wu64, wi32, wi64, Int.tdiv_eq_ediv_of_nonneg, Int.tmod_eq_emod_of_nonneg]; done) | (simp (discharger := omega) [-List.getD_eq_getElem?_getD, wu8, wu16, wu32, wu64, wi32, wi64, Int.tdiv_eq_ediv_of_nonneg, Int.tmod_eq_emod_of_nonneg]; omega)); done)
       done)
def sm_r18Rest : Sm := fun args σ => match args, σ with
  | [.buf 0, .buf 1], [.buf 4 0 l, .buf 2 0 tl] => some ((∃ a : List Pf, l = a.map ePf) ∧ l.length ≤ 1000000 ∧ (∃ T : List Tg, tl = T.map eTg) ∧ tl.length ≤ 1000000, .int .i64 (restF (tl.map deTg) (l.map dePf)), none)
  | [.buf 0, .list false 2 tl], [.buf 4 0 l] => some ((∃ a : List Pf, l = a.map ePf) ∧ l.length ≤ 1000000 ∧ (∃ T : List Tg, tl = T.map eTg) ∧ tl.length ≤ 1000000, .int .i64 (restF (tl.map deTg) (l.map dePf)), none)
  | _, _ => none
theorem k_r18Rest : SOK 38 sm_r18Rest := by
  intro args sg pre x r he hp
  unfold sm_r18Rest at he
  split at he <;> cases he
  · exact f_r18Rest_1 (hp := hp) ..
  · exact f_r18Rest_2 (hp := hp) ..
theorem f_r18Last_1 (l tl : List V) (hp : (∃ a : List Pf, l = a.map ePf) ∧ l.length ≤ 1000000 ∧ (∃ T : List Tg, tl = T.map eTg) ∧ tl.length ≤ 1000000) : OK 36 ([.buf 0, .buf 1]) ([.buf 4 0 l, .buf 2 0 tl]) (.tuple [ePf (lastF (selF (inT (tl.map deTg)) (l.map dePf))), .bool (anyF (selF (inT (tl.map deTg)) (l.map dePf)))]) (none) := by
  refine funOK_of_vc (C := cx [(71, sm_r18known)]) (good ⟨k_r18known, trivial⟩) (fn := Tryd.f36) rfl rfl rfl rfl fun hw hs => ?_
  obtain ⟨⟨a, rfl⟩, hl, ⟨T, rfl⟩, hT⟩ := hp
  simp only [deTg_map, dePf_map]
  have hml : (a.map ePf).length = a.length := List.length_map ..
  repeat' (
    conv => whnf
    first
    | with_reducible (first | refine go1 (fun j q h => ?_) fun h => ?_ | refine go2 ⟨rfl, rfl⟩ (fun h => ?_) fun j h => ?_ | refine go2 ?_ (fun h => ?_) fun j h => ?_)
    | refine go3 ?_ ?_ | refine go4 ?_ ?_ | refine go5 ?_
    | refine go6 (fun h => ?_) fun h => ?_ | refine go7 (fun h => ?_) fun h => ?_ | refine go8 (fun h => ?_) fun h => ?_ | refine go9 (fun h => ?_) fun h => ?_ | refine goA (fun h => ?_) fun h => ?_
    | with_reducible (first | refine IdxK.mk _ rfl ?_ | refine goB ?_ fun hc => ?_ | refine goC ?_ fun hc => ?_ | refine goD ?_ fun hc => ?_ | refine goE ?_ fun hc => ?_ | refine goF ?_ ?_ | refine goG ?_ ?_ | refine goH ?_ fun b hb => ?_)
    | refine goI ?_ | refine goJ ?_ ?_ | refine goK ?_ ?_ ?_ | refine goL ?_ ?_ ?_ ?_ | refine goM ?_ ?_ ?_ ?_ ?_ | refine goN ?_ ?_ | refine goO ?_ ?_
    | with_reducible refine goP ?_)
  all_goals try conv => whnf
  all_goals try (refine Side.mk ?_; try dsimp only)
  have hsx : ∀ i, i < a.length → selF (inT T) (a.drop i) = (if inT T (a.getD i default) = true then [a.getD i default] else []) ++ selF (inT T) (a.drop (i + 1)) := fun i h => by
    rw [List.drop_eq_getElem_cons h, List.getD_eq_getElem?_getD, List.getElem?_eq_getElem h]
    unfold selF
    simp only [Option.getD_some, List.filter_cons]
    split <;> simp
  refine LoopP.mk Nat (fun i => i ≤ a.length ∧ selF (inT T) (a.drop i) = []) (fun i => ⟨25, [(0, .buf 0), (1, .buf 1), (4, .ptr 2 0), (6, .int .i64 ((i : Int) - 1))], [.buf 4 0 (a.map ePf), .buf 2 0 (T.map eTg), .cells (ePc default)], []⟩) (fun i => i) [] a.length ⟨Nat.le_refl _, by simp [selF]⟩ ?_ (fun i ⟨hi, hj⟩ _ _ => ?_)
  · refine Go.VG.Sub.mk rfl ?_ ?_ ?_ ?_ <;> (repeat' first | trivial | rfl | exact eqS _ _ | refine And.intro ?_ ?_ | refine eqA ?_ | refine eqB ?_ | refine eqC ?_ | refine eqD ?_ | refine eqE ?_ | refine eqF ?_ | refine eqG ?_ | refine eqH ?_ | refine eqI ?_ ?_)
    (first | omega | (simp (discharger := omega) only [wu8, wu16, wu32, wu64, wi32, wi64, Int.tdiv_eq_ediv_of_nonneg, Int.tmod_eq_emod_of_nonneg]; omega) | (simp only [List.length_append, List.length_cons, List.length_nil, bl_length, List.length_take, List.length_drop]; omega) | (simp (discharger := omega) [-List.getD_eq_getElem?_getD, wu8, wu16, wu32, wu64, wi32, wi64, Int.tdiv_eq_ediv_of_nonneg, Int.tmod_eq_emod_of_nonneg]; done) | (simp (discharger := omega) [-List.getD_eq_getElem?_getD, wu8, wu16, wu32, wu64, wi32, wi64, Int.tdiv_eq_ediv_of_nonneg, Int.tmod_eq_emod_of_nonneg]; omega))
  repeat' (
    conv => whnf
    first
    | with_reducible (first | refine go1 (fun j q h => ?_) fun h => ?_ | refine go2 ⟨rfl, rfl⟩ (fun h => ?_) fun j h => ?_ | refine go2 ?_ (fun h => ?_) fun j h => ?_)
    | refine go3 ?_ ?_ | refine go4 ?_ ?_ | refine go5 ?_
    | refine go6 (fun h => ?_) fun h => ?_ | refine go7 (fun h => ?_) fun h => ?_ | refine go8 (fun h => ?_) fun h => ?_ | refine go9 (fun h => ?_) fun h => ?_ | refine goA (fun h => ?_) fun h => ?_
    | with_reducible (first | refine IdxK.mk _ rfl ?_ | refine goB ?_ fun hc => ?_ | refine goC ?_ fun hc => ?_ | refine goD ?_ fun hc => ?_ | refine goE ?_ fun hc => ?_ | refine goF ?_ ?_ | refine goG ?_ ?_ | refine goH ?_ fun b hb => ?_)
    | refine goI ?_ | refine goJ ?_ ?_ | refine goK ?_ ?_ ?_ | refine goL ?_ ?_ ?_ ?_ | refine goM ?_ ?_ ?_ ?_ ?_ | refine goN ?_ ?_ | refine goO ?_ ?_
    | with_reducible refine goP ?_)
  all_goals try conv => whnf
  all_goals try (refine Side.mk ?_; try dsimp only)
  all_goals (try simp only [Cu_eta] at *)
  all_goals first
    | (show LoopP _ _ _ _; skip)
    | (show GotoP _ _ _ _ _; skip)
    | (show EndP _ _ _ _ _ _; skip)
    | (show ∃ _, _; skip)
    | (first
          | trivial
          | omega
          | (simp (discharger := omega) only [wu8, wu16, wu32, wu64, wi32, wi64, Int.tdiv_eq_ediv_of_nonneg, Int.tmod_eq_emod_of_nonneg]; omega)
          | (simp only [List.length_append, List.length_cons, List.length_nil, bl_length, List.length_take, List.length_drop]; omega)
          | (simp (discharger := omega) [-List.getD_eq_getElem?_getD, wu8, wu16, wu32, wu64, wi32, wi64, Int.tdiv_eq_ediv_of_nonneg, Int.tmod_eq_emod_of_nonneg]; done)
          | (simp (discharger := omega) [-List.getD_eq_getElem?_getD, wu8, wu16, wu32, wu64, wi32, wi64, Int.tdiv_eq_ediv_of_nonneg, Int.tmod_eq_emod_of_nonneg]; omega))
    | skip
  all_goals (try simp only [List.length_map, deTg_map] at *)
  all_goals first
    | exact ⟨trivial, ⟨_, rfl⟩, by omega⟩
    | (have h0 : 0 < i := by omega
       obtain ⟨m, rfl⟩ : ∃ m, i = m + 1 := ⟨i - 1, by omega⟩
       have hm1 : (((m + 1 : Nat) : Int) - 1).toNat = m := by omega
       have hm2 : IntKind.i64.wrap (((m + 1 : Nat) : Int) - 1 - 1) = (m : Int) - 1 := by rw [wi_i (by omega)]; omega
       simp only [hm1, hm2] at *
       first
       | (show EndP _ _ _ _ _ _
          have hl := last_at (p := inT T) (by omega) hj (decide_eq_true (by assumption))
          rw [hl.1, hl.2]
          refine EndP.mk [] ?_ <;> (repeat' first | trivial | rfl | exact eqS _ _ | refine And.intro ?_ ?_ | refine eqA ?_ | refine eqB ?_ | refine eqC ?_ | refine eqD ?_ | refine eqE ?_ | refine eqF ?_ | refine eqG ?_ | refine eqH ?_ | refine eqI ?_ ?_)
          done)
       | (have h := hsx m (by omega)
          rw [hj, if_neg (by show ¬ decide _ = true; rw [decide_eq_false (by assumption)]; decide)] at h
          refine ⟨[], m, ⟨by omega, h⟩, ?_, by omega⟩
          refine Go.VG.Sub.mk rfl ?_ ?_ ?_ ?_ <;> (repeat' first | trivial | rfl | exact eqS _ _ | refine And.intro ?_ ?_ | refine eqA ?_ | refine eqB ?_ | refine eqC ?_ | refine eqD ?_ | refine eqE ?_ | refine eqF ?_ | refine eqG ?_ | refine eqH ?_ | refine eqI ?_ ?_)
          done)
      )
    | (obtain rfl : i = 0 := by omega
       rw [List.drop_zero] at hj
       rw [hj]
       refine EndP.mk [] ?_ <;> (repeat' first | trivial | rfl | exact eqS _ _ | refine And.intro ?_ ?_ | refine eqA ?_ | refine eqB ?_ | refine eqC ?_ | refine eqD ?_ | refine eqE ?_ | refine eqF ?_ | refine eqG ?_ | refine eqH ?_ | refine eqI ?_ ?_)
       done)
theorem f_r18Last_2 (l tl : List V) (hp : (∃ a : List Pf, l = a.map ePf) ∧ l.length ≤ 1000000 ∧ (∃ T : List Tg, tl = T.map eTg) ∧ tl.length ≤ 1000000) : OK 36 ([.buf 0, .list false 2 tl]) ([.buf 4 0 l]) (.tuple [ePf (lastF (selF (inT (tl.map deTg)) (l.map dePf))), .bool (anyF (selF (inT (tl.map deTg)) (l.map dePf)))]) (none) := by
  refine funOK_of_vc (C := cx [(71, sm_r18known)]) (good ⟨k_r18known, trivial⟩) (fn := Tryd.f36) rfl rfl rfl rfl fun hw hs => ?_
  obtain ⟨⟨a, rfl⟩, hl, ⟨T, rfl⟩, hT⟩ := hp
  simp only [deTg_map, dePf_map]
  have hml : (a.map ePf).length = a.length := List.length_map ..
  repeat' (
    conv => whnf
    first
    | with_reducible (first | refine go1 (fun j q h => ?_) fun h => ?_ | refine go2 ⟨rfl, rfl⟩ (fun h => ?_) fun j h => ?_ | refine go2 ?_ (fun h => ?_) fun j h => ?_)
    | refine go3 ?_ ?_ | refine go4 ?_ ?_ | refine go5 ?_
    | refine go6 (fun h => ?_) fun h => ?_ | refine go7 (fun h => ?_) fun h => ?_ | refine go8 (fun h => ?_) fun h => ?_ | refine go9 (fun h => ?_) fun h => ?_ | refine goA (fun h => ?_) fun h => ?_
    | with_reducible (first | refine IdxK.mk _ rfl ?_ | refine goB ?_ fun hc => ?_ | refine goC ?_ fun hc => ?_ | refine goD ?_ fun hc => ?_ | refine goE ?_ fun hc => ?_ | refine goF ?_ ?_ | refine goG ?_ ?_ | refine goH ?_ fun b hb => ?_)
    | refine goI ?_ | refine goJ ?_ ?_ | refine goK ?_ ?_ ?_ | refine goL ?_ ?_ ?_ ?_ | refine goM ?_ ?_ ?_ ?_ ?_ | refine goN ?_ ?_ | refine goO ?_ ?_
    | with_reducible refine goP ?_)
  all_goals try conv => whnf
  all_goals try (refine Side.mk ?_; try dsimp only)
  have hsx : ∀ i, i < a.length → selF (inT T) (a.drop i) = (if inT T (a.getD i default) = true then [a.getD i default] else []) ++ selF (inT T) (a.drop (i + 1)) := fun i h => by
    rw [List.drop_eq_getElem_cons h, List.getD_eq_getElem?_getD, List.getElem?_eq_getElem h]
    unfold selF
    simp only [Option.getD_some, List.filter_cons]
    split <;> simp
  refine LoopP.mk Nat (fun i => i ≤ a.length ∧ selF (inT T) (a.drop i) = []) (fun i => ⟨25, [(0, .buf 0), (1, .list false 2 (T.map eTg)), (4, .ptr 1 0), (6, .int .i64 ((i : Int) - 1))], [.buf 4 0 (a.map ePf), .cells (ePc default)], []⟩) (fun i => i) [] a.length ⟨Nat.le_refl _, by simp [selF]⟩ ?_ (fun i ⟨hi, hj⟩ _ _ => ?_)
  · refine Go.VG.Sub.mk rfl ?_ ?_ ?_ ?_ <;> (repeat' first | trivial | rfl | exact eqS _ _ | refine And.intro ?_ ?_ | refine eqA ?_ | refine eqB ?_ | refine eqC ?_ | refine eqD ?_ | refine eqE ?_ | refine eqF ?_ | refine eqG ?_ | refine eqH ?_ | refine eqI ?_ ?_)
    (first | omega | (simp (discharger := omega) only [wu8, wu16, wu32, wu64, wi32, wi64, Int.tdiv_eq_ediv_of_nonneg, Int.tmod_eq_emod_of_nonneg]; omega) | (simp only [List.length_append, List.length_cons, List.length_nil, bl_length, List.length_take, List.length_drop]; omega) | (simp (discharger := omega) [-List.getD_eq_getElem?_getD, wu8, wu16, wu32, wu64, wi32, wi64, Int.tdiv_eq_ediv_of_nonneg, Int.tmod_eq_emod_of_nonneg]; done) | (simp (discharger := omega) [-List.getD_eq_getElem?_getD, wu8, wu16, wu32, wu64, wi32, wi64, Int.tdiv_eq_ediv_of_nonneg, Int.tmod_eq_emod_of_nonneg]; omega))
  repeat' (
    conv => whnf
    first
    | with_reducible (first | refine go1 (fun j q h => ?_) fun h => ?_ | refine go2 ⟨rfl, rfl⟩ (fun h => ?_) fun j h => ?_ | refine go2 ?_ (fun h => ?_) fun j h => ?_)
    | refine go3 ?_ ?_ | refine go4 ?_ ?_ | refine go5 ?_
    | refine go6 (fun h => ?_) fun h => ?_ | refine go7 (fun h => ?_) fun h => ?_ | refine go8 (fun h => ?_) fun h => ?_ | refine go9 (fun h => ?_) fun h => ?_ | refine goA (fun h => ?_) fun h => ?_
    | with_reducible (first | refine IdxK.mk _ rfl ?_ | refine goB ?_ fun hc => ?_ | refine goC ?_ fun hc => ?_ | refine goD ?_ fun hc => ?_ | refine goE ?_ fun hc => ?_ | refine goF ?_ ?_ | refine goG ?_ ?_ | refine goH ?_ fun b hb => ?_)
    | refine goI ?_ | refine goJ ?_ ?_ | refine goK ?_ ?_ ?_ | refine goL ?_ ?_ ?_ ?_ | refine goM ?_ ?_ ?_ ?_ ?_ | refine goN ?_ ?_ | refine goO ?_ ?_
    | with_reducible refine goP ?_)
  all_goals try conv => whnf
  all_goals try (refine Side.mk ?_; try dsimp only)
  all_goals (try simp only [Cu_eta] at *)
  all_goals first
    | (show LoopP _ _ _ _; skip)
    | (show GotoP _ _ _ _ _; skip)
    | (show EndP _ _ _ _ _ _; skip)
    | (show ∃ _, _; skip)
    | (first
          | trivial
          | omega
          | (simp (discharger := omega) only [wu8, wu16, wu32, wu64, wi32, wi64, Int.tdiv_eq_ediv_of_nonneg, Int.tmod_eq_emod_of_nonneg]; omega)
          | (simp only [List.length_append, List.length_cons, List.length_nil, bl_length, List.length_take, List.length_drop]; omega)
          | (simp (discharger := omega) [-List.getD_eq_getElem?_getD, wu8, wu16, wu32, wu64, wi32, wi64, Int.tdiv_eq_ediv_of_nonneg, Int.tmod_eq_emod_of_nonneg]; done)
          | (simp (discharger := omega) [-List.getD_eq_getElem?_getD, wu8, wu16, wu32, wu64, wi32, wi64, Int.tdiv_eq_ediv_of_nonneg, Int.tmod_eq_emod_of_nonneg]; omega))
    | skip
  all_goals (try simp only [List.length_map, deTg_map] at *)
  all_goals first
    | exact ⟨trivial, ⟨_, rfl⟩, by omega⟩
    | (have h0 : 0 < i := by omega
       obtain ⟨m, rfl⟩ : ∃ m, i = m + 1 := ⟨i - 1, by omega⟩
       have hm1 : (((m + 1 : Nat) : Int) - 1).toNat = m := by omega
       have hm2 : IntKind.i64.wrap (((m + 1 : Nat) : Int) - 1 - 1) = (m : Int) - 1 := by rw [wi_i (by omega)]; omega
       simp only [hm1, hm2] at *
       first
       | (show EndP _ _ _ _ _ _
          have hl := last_at (p := inT T) (by omega) hj (decide_eq_true (by assumption))
          rw [hl.1, hl.2]
          refine EndP.mk [] ?_ <;> (repeat' first | trivial | rfl | exact eqS _ _ | refine And.intro ?_ ?_ | refine eqA ?_ | refine eqB ?_ | refine eqC ?_ | refine eqD ?_ | refine eqE ?_ | refine eqF ?_ | refine eqG ?_ | refine eqH ?_ | refine eqI ?_ ?_)
          done)
       | (have h := hsx m (by omega)
          rw [hj, if_neg (by show ¬ decide _ = true; rw [decide_eq_false (by assumption)]; decide)] at h
          refine ⟨[], m, ⟨by omega, h⟩, ?_, by omega⟩
          refine Go.VG.Sub.mk rfl ?_ ?_ ?_ ?_ <;> (repeat' first | trivial | rfl | exact eqS _ _ | refine And.intro ?_ ?_ | refine eqA ?_ | refine eqB ?_ | refine eqC ?_ | refine eqD ?_ | refine eqE ?_ | refine eqF ?_ | refine eqG ?_ | refine eqH ?_ | refine eqI ?_ ?_)
          done)
      )
    | (obtain rfl : i = 0 := by omega
       rw [List.drop_zero] at hj
       rw [hj]
       refine EndP.mk [] ?_ <;> (repeat' first | trivial | rfl | exact eqS _ _ | refine And.intro ?_ ?_ | refine eqA ?_ | refine eqB ?_ | refine eqC ?_ | refine eqD ?_ | refine eqE ?_ | refine eqF ?_ | refine eqG ?_ | refine eqH ?_ | refine eqI ?_ ?_)
       done)
def sm_r18Last : Sm := fun args σ => match args, σ with
  | [.buf 0, .buf 1], [.buf 4 0 l, .buf 2 0 tl] => some ((∃ a : List Pf, l = a.map ePf) ∧ l.length ≤ 1000000 ∧ (∃ T : List Tg, tl = T.map eTg) ∧ tl.length ≤ 1000000, .tuple [ePf (lastF (selF (inT (tl.map deTg)) (l.map dePf))), .bool (anyF (selF (inT (tl.map deTg)) (l.map dePf)))], none)
  | [.buf 0, .list false 2 tl], [.buf 4 0 l] => some ((∃ a : List Pf, l = a.map ePf) ∧ l.length ≤ 1000000 ∧ (∃ T : List Tg, tl = T.map eTg) ∧ tl.length ≤ 1000000, .tuple [ePf (lastF (selF (inT (tl.map deTg)) (l.map dePf))), .bool (anyF (selF (inT (tl.map deTg)) (l.map dePf)))], none)
  | _, _ => none
theorem k_r18Last : SOK 36 sm_r18Last := by
  intro args sg pre x r he hp
  unfold sm_r18Last at he
  split at he <;> cases he
  · exact f_r18Last_1 (hp := hp) ..
  · exact f_r18Last_2 (hp := hp) ..
theorem f_pmRest_1 (l tl : List V) (hp : (∃ a : List Pf, l = a.map ePf) ∧ l.length ≤ 1000000 ∧ (∃ T : List Tg, tl = T.map eTg) ∧ tl.length ≤ 1000000) : OK 37 ([.ptr 0 0, .buf 1]) ([.cells [.buf 2], .buf 2 0 tl, .buf 4 0 l]) (.int .i64 (restF (tl.map deTg) (l.map dePf))) (none) := by
  refine funOK_of_vc (C := cx []) (good trivial) (fn := Tryd.f37) rfl rfl rfl rfl fun hw hs => ?_
  obtain ⟨⟨a, rfl⟩, hl, ⟨T, rfl⟩, hT⟩ := hp
  simp only [deTg_map, dePf_map]
  have hml : (a.map ePf).length = a.length := List.length_map ..
  repeat' (
    conv => whnf
    first
    | with_reducible (first | refine go1 (fun j q h => ?_) fun h => ?_ | refine go2 ⟨rfl, rfl⟩ (fun h => ?_) fun j h => ?_ | refine go2 ?_ (fun h => ?_) fun j h => ?_)
    | refine go3 ?_ ?_ | refine go4 ?_ ?_ | refine go5 ?_
    | refine go6 (fun h => ?_) fun h => ?_ | refine go7 (fun h => ?_) fun h => ?_ | refine go8 (fun h => ?_) fun h => ?_ | refine go9 (fun h => ?_) fun h => ?_ | refine goA (fun h => ?_) fun h => ?_
    | with_reducible (first | refine IdxK.mk _ rfl ?_ | refine goB ?_ fun hc => ?_ | refine goC ?_ fun hc => ?_ | refine goD ?_ fun hc => ?_ | refine goE ?_ fun hc => ?_ | refine goF ?_ ?_ | refine goG ?_ ?_ | refine goH ?_ fun b hb => ?_)
    | refine goI ?_ | refine goJ ?_ ?_ | refine goK ?_ ?_ ?_ | refine goL ?_ ?_ ?_ ?_ | refine goM ?_ ?_ ?_ ?_ ?_ | refine goN ?_ ?_ | refine goO ?_ ?_
    | with_reducible refine goP ?_)
  all_goals try conv => whnf
  all_goals try (refine Side.mk ?_; try dsimp only)
  refine LoopP.mk (Nat × List Nat × Nat) (fun x => x.1 ≤ a.length ∧ x.2.1.length = (cntT (a.take x.1)).length ∧ x.2.2 ≤ x.1) (fun x => ⟨55, [(0, .ptr 0 0), (1, .buf 1), (5, .map 3), (19, .buf 2), (20, .int .i64 a.length), (21, .int .i64 x.1)], [.cells [.buf 2], .buf 2 0 (T.map eTg), .buf 4 0 (a.map ePf), .map true [.kI .i64, .kI .i64] (mE (cntT (a.take x.1))) x.2.1 x.2.2], []⟩) (fun x => a.length - x.1) [] (0, [], 0) ⟨Nat.zero_le _, rfl, Nat.le_refl _⟩ ?_ (fun ⟨i, bs, ck⟩ ⟨hi, hb, hc⟩ _ _ => ?_)
  · refine Go.VG.Sub.mk rfl ?_ ?_ ?_ ?_ <;> (repeat' first | trivial | rfl | exact eqS _ _ | refine And.intro ?_ ?_ | refine eqA ?_ | refine eqB ?_ | refine eqC ?_ | refine eqD ?_ | refine eqE ?_ | refine eqF ?_ | refine eqG ?_ | refine eqH ?_ | refine eqI ?_ ?_)
    rw [hml]
  have hgc := good_cnt a i (by exact hi)
  repeat' (
    conv => whnf
    first
    | with_reducible (first | refine go1 (fun j q h => ?_) fun h => ?_ | refine go2 ⟨rfl, rfl⟩ (fun h => ?_) fun j h => ?_ | refine go2 ?_ (fun h => ?_) fun j h => ?_)
    | refine go3 ?_ ?_ | refine go4 ?_ ?_ | refine go5 ?_
    | refine go6 (fun h => ?_) fun h => ?_ | refine go7 (fun h => ?_) fun h => ?_ | refine go8 (fun h => ?_) fun h => ?_ | refine go9 (fun h => ?_) fun h => ?_ | refine goA (fun h => ?_) fun h => ?_
    | with_reducible (first | refine IdxK.mk _ rfl ?_ | refine goB ?_ fun hc => ?_ | refine goC ?_ fun hc => ?_ | refine goD ?_ fun hc => ?_ | refine goE ?_ fun hc => ?_ | refine goF ?_ ?_ | refine goG ?_ ?_ | refine goH ?_ fun b hb => ?_)
    | refine goI ?_ | refine goJ ?_ ?_ | refine goK ?_ ?_ ?_ | refine goL ?_ ?_ ?_ ?_ | refine goM ?_ ?_ ?_ ?_ ?_ | refine goN ?_ ?_ | refine goO ?_ ?_
    | with_reducible refine goP ?_)
  all_goals try conv => whnf
  all_goals try (refine Side.mk ?_; try dsimp only)
  all_goals (try simp only [Cu_eta] at *)
  all_goals first
    | (show LoopP _ _ _ _; skip)
    | (show GotoP _ _ _ _ _; skip)
    | (show EndP _ _ _ _ _ _; skip)
    | (show ∃ _, _; skip)
    | (first
          | trivial
          | omega
          | (simp (discharger := omega) only [wu8, wu16, wu32, wu64, wi32, wi64, Int.tdiv_eq_ediv_of_nonneg, Int.tmod_eq_emod_of_nonneg]; omega)
          | (simp only [List.length_append, List.length_cons, List.length_nil, bl_length, List.length_take, List.length_drop]; omega)
          | (simp (discharger := omega) [-List.getD_eq_getElem?_getD, wu8, wu16, wu32, wu64, wi32, wi64, Int.tdiv_eq_ediv_of_nonneg, Int.tmod_eq_emod_of_nonneg]; done)
          | (simp (discharger := omega) [-List.getD_eq_getElem?_getD, wu8, wu16, wu32, wu64, wi32, wi64, Int.tdiv_eq_ediv_of_nonneg, Int.tmod_eq_emod_of_nonneg]; omega))
    | skip
  all_goals (try simp only [List.length_map] at *)
  · have hf := ‹fndM (mE (cntT (a.take i))) _ = some (j, q)›
    have hbf := bump_found (i := i) (by omega) hl hf
    refine ⟨j, ?_⟩
    repeat' (
      conv => whnf
      first
      | with_reducible (first | refine go1 (fun j q h => ?_) fun h => ?_ | refine go2 ⟨rfl, rfl⟩ (fun h => ?_) fun j h => ?_ | refine go2 ?_ (fun h => ?_) fun j h => ?_)
      | refine go3 ?_ ?_ | refine go4 ?_ ?_ | refine go5 ?_
      | refine go6 (fun h => ?_) fun h => ?_ | refine go7 (fun h => ?_) fun h => ?_ | refine go8 (fun h => ?_) fun h => ?_ | refine go9 (fun h => ?_) fun h => ?_ | refine goA (fun h => ?_) fun h => ?_
      | with_reducible (first | refine IdxK.mk _ rfl ?_ | refine goB ?_ fun hc => ?_ | refine goC ?_ fun hc => ?_ | refine goD ?_ fun hc => ?_ | refine goE ?_ fun hc => ?_ | refine goF ?_ ?_ | refine goG ?_ ?_ | refine goH ?_ fun b hb => ?_)
      | refine goI ?_ | refine goJ ?_ ?_ | refine goK ?_ ?_ ?_ | refine goL ?_ ?_ ?_ ?_ | refine goM ?_ ?_ ?_ ?_ ?_ | refine goN ?_ ?_ | refine goO ?_ ?_
      | with_reducible refine goP ?_)
    all_goals try conv => whnf
    all_goals try (refine Side.mk ?_; try dsimp only)
    · exact ⟨by omega, by rw [Int.toNat_natCast, List.getD_eq_getElem?_getD, List.getElem?_eq_getElem (by omega)]; rfl⟩
    · refine ⟨[], (i + 1, bs, ck), ⟨by show i + 1 ≤ _; omega, by rw [hbf.2.1]; exact hb, by show ck ≤ i + 1; omega⟩, ?_, by show a.length - (i + 1) < a.length - i; omega⟩
      refine Go.VG.Sub.mk rfl ?_ ?_ ?_ ?_ <;> (repeat' first | trivial | rfl | exact eqS _ _ | refine And.intro ?_ ?_ | refine eqA ?_ | refine eqB ?_ | refine eqC ?_ | refine eqD ?_ | refine eqE ?_ | refine eqF ?_ | refine eqG ?_ | refine eqH ?_ | refine eqI ?_ ?_)
      all_goals first
        | (rw [hbf.1]; done)
        | ((first | omega | (simp (discharger := omega) only [wu8, wu16, wu32, wu64, wi32, wi64, Int.tdiv_eq_ediv_of_nonneg, Int.tmod_eq_emod_of_nonneg]; omega) | (simp only [List.length_append, List.length_cons, List.length_nil, bl_length, List.length_take, List.length_drop]; omega) | (simp (discharger := omega) [-List.getD_eq_getElem?_getD, wu8, wu16, wu32, wu64, wi32, wi64, Int.tdiv_eq_ediv_of_nonneg, Int.tmod_eq_emod_of_nonneg]; done) | (simp (discharger := omega) [-List.getD_eq_getElem?_getD, wu8, wu16, wu32, wu64, wi32, wi64, Int.tdiv_eq_ediv_of_nonneg, Int.tmod_eq_emod_of_nonneg]; omega)); done)
  · have hf := ‹fndM (mE (cntT (a.take i))) _ = none›
    have hbf := bump_new (i := i) (by omega) hf
    refine ⟨(cntT (a.take i)).length, ?_⟩
    repeat' (
      conv => whnf
      first
      | with_reducible (first | refine go1 (fun j q h => ?_) fun h => ?_ | refine go2 ⟨rfl, rfl⟩ (fun h => ?_) fun j h => ?_ | refine go2 ?_ (fun h => ?_) fun j h => ?_)
      | refine go3 ?_ ?_ | refine go4 ?_ ?_ | refine go5 ?_
      | refine go6 (fun h => ?_) fun h => ?_ | refine go7 (fun h => ?_) fun h => ?_ | refine go8 (fun h => ?_) fun h => ?_ | refine go9 (fun h => ?_) fun h => ?_ | refine goA (fun h => ?_) fun h => ?_
      | with_reducible (first | refine IdxK.mk _ rfl ?_ | refine goB ?_ fun hc => ?_ | refine goC ?_ fun hc => ?_ | refine goD ?_ fun hc => ?_ | refine goE ?_ fun hc => ?_ | refine goF ?_ ?_ | refine goG ?_ ?_ | refine goH ?_ fun b hb => ?_)
      | refine goI ?_ | refine goJ ?_ ?_ | refine goK ?_ ?_ ?_ | refine goL ?_ ?_ ?_ ?_ | refine goM ?_ ?_ ?_ ?_ ?_ | refine goN ?_ ?_ | refine goO ?_ ?_
      | with_reducible refine goP ?_)
    all_goals try conv => whnf
    all_goals try (refine Side.mk ?_; try dsimp only)
    · exact ⟨by omega, by rw [Int.toNat_natCast, ← hb, List.getElem?_append_right (Nat.le_refl _), Nat.sub_self]; rfl⟩
    · refine ⟨[], (i + 1, bs ++ [ck], ck + 1), ⟨by show i + 1 ≤ _; omega, by rw [hbf.2, List.length_append]; show bs.length + 1 = _; omega, by show ck + 1 ≤ i + 1; omega⟩, ?_, by show a.length - (i + 1) < a.length - i; omega⟩
      refine Go.VG.Sub.mk rfl ?_ ?_ ?_ ?_ <;> (repeat' first | trivial | rfl | exact eqS _ _ | refine And.intro ?_ ?_ | refine eqA ?_ | refine eqB ?_ | refine eqC ?_ | refine eqD ?_ | refine eqE ?_ | refine eqF ?_ | refine eqG ?_ | refine eqH ?_ | refine eqI ?_ ?_)
      all_goals first
        | (rw [hbf.1]; done)
        | ((first | omega | (simp (discharger := omega) only [wu8, wu16, wu32, wu64, wi32, wi64, Int.tdiv_eq_ediv_of_nonneg, Int.tmod_eq_emod_of_nonneg]; omega) | (simp only [List.length_append, List.length_cons, List.length_nil, bl_length, List.length_take, List.length_drop]; omega) | (simp (discharger := omega) [-List.getD_eq_getElem?_getD, wu8, wu16, wu32, wu64, wi32, wi64, Int.tdiv_eq_ediv_of_nonneg, Int.tmod_eq_emod_of_nonneg]; done) | (simp (discharger := omega) [-List.getD_eq_getElem?_getD, wu8, wu16, wu32, wu64, wi32, wi64, Int.tdiv_eq_ediv_of_nonneg, Int.tmod_eq_emod_of_nonneg]; omega)); done)
  obtain rfl : i = a.length := by omega
  simp only [List.take_length] at *
  have hml2 : (T.map eTg).length = T.length := List.length_map ..
  refine LoopP.mk (Nat × List Nat) (fun x => x.1 ≤ T.length ∧ x.2.length = (delF (cntT a) (T.take x.1)).length) (fun x => ⟨55, [(1, .buf 1), (5, .map 3), (36, .buf 1), (37, .int .i64 T.length), (38, .int .i64 x.1)], [.cells [.buf 2], .buf 2 0 (T.map eTg), .buf 4 0 (a.map ePf), .map true [.kI .i64, .kI .i64] (mE (delF (cntT a) (T.take x.1))) x.2 ck], []⟩) (fun x => T.length - x.1) [] (0, bs) ⟨Nat.zero_le _, by rw [List.take_zero, del_nil]; exact hb⟩ ?_ (fun ⟨i, bs⟩ ⟨hi, hb⟩ _ _ => ?_)
  · refine Go.VG.Sub.mk rfl ?_ ?_ ?_ ?_ <;> (repeat' first | trivial | rfl | exact eqS _ _ | refine And.intro ?_ ?_ | refine eqA ?_ | refine eqB ?_ | refine eqC ?_ | refine eqD ?_ | refine eqE ?_ | refine eqF ?_ | refine eqG ?_ | refine eqH ?_ | refine eqI ?_ ?_)
    all_goals first
      | (rw [hml2]; done)
      | (rw [List.take_zero, del_nil]; done)
  repeat' (
    conv => whnf
    first
    | with_reducible (first | refine go1 (fun j q h => ?_) fun h => ?_ | refine go2 ⟨rfl, rfl⟩ (fun h => ?_) fun j h => ?_ | refine go2 ?_ (fun h => ?_) fun j h => ?_)
    | refine go3 ?_ ?_ | refine go4 ?_ ?_ | refine go5 ?_
    | refine go6 (fun h => ?_) fun h => ?_ | refine go7 (fun h => ?_) fun h => ?_ | refine go8 (fun h => ?_) fun h => ?_ | refine go9 (fun h => ?_) fun h => ?_ | refine goA (fun h => ?_) fun h => ?_
    | with_reducible (first | refine IdxK.mk _ rfl ?_ | refine goB ?_ fun hc => ?_ | refine goC ?_ fun hc => ?_ | refine goD ?_ fun hc => ?_ | refine goE ?_ fun hc => ?_ | refine goF ?_ ?_ | refine goG ?_ ?_ | refine goH ?_ fun b hb => ?_)
    | refine goI ?_ | refine goJ ?_ ?_ | refine goK ?_ ?_ ?_ | refine goL ?_ ?_ ?_ ?_ | refine goM ?_ ?_ ?_ ?_ ?_ | refine goN ?_ ?_ | refine goO ?_ ?_
    | with_reducible refine goP ?_)
  all_goals try conv => whnf
  all_goals try (refine Side.mk ?_; try dsimp only)
  all_goals (try simp only [Cu_eta] at *)
  all_goals first
    | (show LoopP _ _ _ _; skip)
    | (show GotoP _ _ _ _ _; skip)
    | (show EndP _ _ _ _ _ _; skip)
    | (show ∃ _, _; skip)
    | (first
          | trivial
          | omega
          | (simp (discharger := omega) only [wu8, wu16, wu32, wu64, wi32, wi64, Int.tdiv_eq_ediv_of_nonneg, Int.tmod_eq_emod_of_nonneg]; omega)
          | (simp only [List.length_append, List.length_cons, List.length_nil, bl_length, List.length_take, List.length_drop]; omega)
          | (simp (discharger := omega) [-List.getD_eq_getElem?_getD, wu8, wu16, wu32, wu64, wi32, wi64, Int.tdiv_eq_ediv_of_nonneg, Int.tmod_eq_emod_of_nonneg]; done)
          | (simp (discharger := omega) [-List.getD_eq_getElem?_getD, wu8, wu16, wu32, wu64, wi32, wi64, Int.tdiv_eq_ediv_of_nonneg, Int.tmod_eq_emod_of_nonneg]; omega))
    | skip
  all_goals (try simp only [List.length_map] at *)
  · have hf := ‹fndM (mE (delF (cntT a) (T.take i))) _ = some (j, q)›
    have hdf := del_found (a := a) (T := T) (i := i) (by omega) hf
    refine ⟨[], (i + 1, bs.eraseIdx j), ⟨by show i + 1 ≤ _; omega, by rw [hdf.2.1, List.length_eraseIdx_of_lt (by omega)]; show bs.length - 1 = _; omega⟩, ?_, by show T.length - (i + 1) < T.length - i; omega⟩
    refine Go.VG.Sub.mk rfl ?_ ?_ ?_ ?_ <;> (repeat' first | trivial | rfl | exact eqS _ _ | refine And.intro ?_ ?_ | refine eqA ?_ | refine eqB ?_ | refine eqC ?_ | refine eqD ?_ | refine eqE ?_ | refine eqF ?_ | refine eqG ?_ | refine eqH ?_ | refine eqI ?_ ?_)
    all_goals first
      | (rw [hdf.1]; done)
      | ((first | omega | (simp (discharger := omega) only [wu8, wu16, wu32, wu64, wi32, wi64, Int.tdiv_eq_ediv_of_nonneg, Int.tmod_eq_emod_of_nonneg]; omega) | (simp only [List.length_append, List.length_cons, List.length_nil, bl_length, List.length_take, List.length_drop]; omega) | (simp (discharger := omega) [-List.getD_eq_getElem?_getD, wu8, wu16, wu32, wu64, wi32, wi64, Int.tdiv_eq_ediv_of_nonneg, Int.tmod_eq_emod_of_nonneg]; done) | (simp (discharger := omega) [-List.getD_eq_getElem?_getD, wu8, wu16, wu32, wu64, wi32, wi64, Int.tdiv_eq_ediv_of_nonneg, Int.tmod_eq_emod_of_nonneg]; omega)); done)
  · have hf := ‹fndM (mE (delF (cntT a) (T.take i))) _ = none›
    have hdf := del_none' (a := a) (T := T) (i := i) (by omega) hf
    refine ⟨[], (i + 1, bs), ⟨by show i + 1 ≤ _; omega, by rw [hdf]; exact hb⟩, ?_, by show T.length - (i + 1) < T.length - i; omega⟩
    refine Go.VG.Sub.mk rfl ?_ ?_ ?_ ?_ <;> (repeat' first | trivial | rfl | exact eqS _ _ | refine And.intro ?_ ?_ | refine eqA ?_ | refine eqB ?_ | refine eqC ?_ | refine eqD ?_ | refine eqE ?_ | refine eqF ?_ | refine eqG ?_ | refine eqH ?_ | refine eqI ?_ ?_)
    all_goals first
      | (rw [hdf]; done)
      | ((first | omega | (simp (discharger := omega) only [wu8, wu16, wu32, wu64, wi32, wi64, Int.tdiv_eq_ediv_of_nonneg, Int.tmod_eq_emod_of_nonneg]; omega) | (simp only [List.length_append, List.length_cons, List.length_nil, bl_length, List.length_take, List.length_drop]; omega) | (simp (discharger := omega) [-List.getD_eq_getElem?_getD, wu8, wu16, wu32, wu64, wi32, wi64, Int.tdiv_eq_ediv_of_nonneg, Int.tmod_eq_emod_of_nonneg]; done) | (simp (discharger := omega) [-List.getD_eq_getElem?_getD, wu8, wu16, wu32, wu64, wi32, wi64, Int.tdiv_eq_ediv_of_nonneg, Int.tmod_eq_emod_of_nonneg]; omega)); done)
  obtain rfl : i = T.length := by omega
  simp only [List.take_length] at *
  have hsum := rest_sum T a
  have hpos : ∀ e ∈ delF (cntT a) T, 0 ≤ e.2 := fun e he => by
    have := (good_cnt a a.length (Nat.le_refl _)).1.pos
    rw [List.take_length] at this
    exact this e (List.mem_filter.1 he).1
  have hup : restF T a ≤ a.length := by
    unfold restF selF
    have := List.length_filter_le (fun f => !inT T f) a
    omega
  rw [← hb] at hsum
  generalize hes : delF (cntT a) T = es at *
  refine LoopP.mk (Int × List Nat × Nat) (fun x => x.1 + sumI es x.2.1 = restF T a ∧ 0 ≤ x.1 ∧ ∀ j ∈ x.2.1, j < es.length) (fun x => ⟨55, [(10, .int .i64 x.1), (46, .ptr 4 0)], [.cells [.buf 2], .buf 2 0 (T.map eTg), .buf 4 0 (a.map ePf), .map true [.kI .i64, .kI .i64] (mE es) bs ck, .miter (.map 3) bs ck x.2.1 x.2.2], []⟩) (fun x => x.2.1.length) [] (0, List.range bs.length, bs.length) ⟨by rw [hsum]; exact Int.zero_add _, Int.le_refl _, fun j hj => by rw [List.mem_range] at hj; omega⟩ ?_ (fun ⟨n, left, last⟩ ⟨h1, h2, h3⟩ _ _ => ?_)
  · refine Go.VG.Sub.mk rfl ?_ ?_ ?_ ?_ <;> (repeat' first | trivial | rfl | exact eqS _ _ | refine And.intro ?_ ?_ | refine eqA ?_ | refine eqB ?_ | refine eqC ?_ | refine eqD ?_ | refine eqE ?_ | refine eqF ?_ | refine eqG ?_ | refine eqH ?_ | refine eqI ?_ ?_)
  repeat' (
    conv => whnf
    first
    | with_reducible (first | refine go1 (fun j q h => ?_) fun h => ?_ | refine go2 ⟨rfl, rfl⟩ (fun h => ?_) fun j h => ?_ | refine go2 ?_ (fun h => ?_) fun j h => ?_)
    | refine go3 ?_ ?_ | refine go4 ?_ ?_ | refine go5 ?_
    | refine go6 (fun h => ?_) fun h => ?_ | refine go7 (fun h => ?_) fun h => ?_ | refine go8 (fun h => ?_) fun h => ?_ | refine go9 (fun h => ?_) fun h => ?_ | refine goA (fun h => ?_) fun h => ?_
    | with_reducible (first | refine IdxK.mk _ rfl ?_ | refine goB ?_ fun hc => ?_ | refine goC ?_ fun hc => ?_ | refine goD ?_ fun hc => ?_ | refine goE ?_ fun hc => ?_ | refine goF ?_ ?_ | refine goG ?_ ?_ | refine goH ?_ fun b hb => ?_)
    | refine goI ?_ | refine goJ ?_ ?_ | refine goK ?_ ?_ ?_ | refine goL ?_ ?_ ?_ ?_ | refine goM ?_ ?_ ?_ ?_ ?_ | refine goN ?_ ?_ | refine goO ?_ ?_
    | with_reducible refine goP ?_)
  all_goals try conv => whnf
  all_goals try (refine Side.mk ?_; try dsimp only)
  all_goals (try simp only [Cu_eta] at *)
  all_goals first
    | (show LoopP _ _ _ _; skip)
    | (show GotoP _ _ _ _ _; skip)
    | (show EndP _ _ _ _ _ _; skip)
    | (show ∃ _, _; skip)
    | (first
          | trivial
          | omega
          | (simp (discharger := omega) only [wu8, wu16, wu32, wu64, wi32, wi64, Int.tdiv_eq_ediv_of_nonneg, Int.tmod_eq_emod_of_nonneg]; omega)
          | (simp only [List.length_append, List.length_cons, List.length_nil, bl_length, List.length_take, List.length_drop]; omega)
          | (simp (discharger := omega) [-List.getD_eq_getElem?_getD, wu8, wu16, wu32, wu64, wi32, wi64, Int.tdiv_eq_ediv_of_nonneg, Int.tmod_eq_emod_of_nonneg]; done)
          | (simp (discharger := omega) [-List.getD_eq_getElem?_getD, wu8, wu16, wu32, wu64, wi32, wi64, Int.tdiv_eq_ediv_of_nonneg, Int.tmod_eq_emod_of_nonneg]; omega))
    | skip
  · subst_vars
    have h1 : n + 0 = restF T a := h1
    rw [← h1, Int.add_zero]
    refine EndP.mk [] ?_ <;> (repeat' first | trivial | rfl | exact eqS _ _ | refine And.intro ?_ ?_ | refine eqA ?_ | refine eqB ?_ | refine eqC ?_ | refine eqD ?_ | refine eqE ?_ | refine eqF ?_ | refine eqG ?_ | refine eqH ?_ | refine eqI ?_ ?_)
  · have hj := h3 j (by assumption)
    exact hj
  · have hj := h3 j (by assumption)
    have he := sumI_erase es (j := j) (l := left) (by assumption)
    have hp1 := sumI_pos hpos (left.erase j)
    have hp2 : 0 ≤ (es.getD j default).2 := by
      rw [List.getD_eq_getElem?_getD, List.getElem?_eq_getElem hj]
      exact hpos _ (List.getElem_mem hj)
    refine ⟨[], (n + (es.getD j default).2, left.erase j, j), ⟨by show n + (es.getD j default).2 + sumI es (left.erase j) = _; omega, by show 0 ≤ n + (es.getD j default).2; omega, fun k hk => h3 k (List.mem_of_mem_erase hk)⟩, ?_, ?_⟩
    · refine Go.VG.Sub.mk rfl ?_ ?_ ?_ ?_ <;> (repeat' first | trivial | rfl | exact eqS _ _ | refine And.intro ?_ ?_ | refine eqA ?_ | refine eqB ?_ | refine eqC ?_ | refine eqD ?_ | refine eqE ?_ | refine eqF ?_ | refine eqG ?_ | refine eqH ?_ | refine eqI ?_ ?_)
      rw [wi_i (by omega)]
    · show (left.erase j).length < left.length
      rw [List.length_erase_of_mem (by assumption)]
      have := List.length_pos_of_mem ‹j ∈ left›
      omega
theorem f_pmRest_2  (hp : True) : OK 37 ([.nilptr, .list true 0 []]) ([]) (.int .i64 0) (none) := by
  refine funOK_of_vc (C := cx []) (good trivial) (fn := Tryd.f37) rfl rfl rfl rfl fun hw hs => ?_
  repeat' (
    conv => whnf
    first
    | with_reducible (first | refine go1 (fun j q h => ?_) fun h => ?_ | refine go2 ⟨rfl, rfl⟩ (fun h => ?_) fun j h => ?_ | refine go2 ?_ (fun h => ?_) fun j h => ?_)
    | refine go3 ?_ ?_ | refine go4 ?_ ?_ | refine go5 ?_
    | refine go6 (fun h => ?_) fun h => ?_ | refine go7 (fun h => ?_) fun h => ?_ | refine go8 (fun h => ?_) fun h => ?_ | refine go9 (fun h => ?_) fun h => ?_ | refine goA (fun h => ?_) fun h => ?_
    | with_reducible (first | refine IdxK.mk _ rfl ?_ | refine goB ?_ fun hc => ?_ | refine goC ?_ fun hc => ?_ | refine goD ?_ fun hc => ?_ | refine goE ?_ fun hc => ?_ | refine goF ?_ ?_ | refine goG ?_ ?_ | refine goH ?_ fun b hb => ?_)
    | refine goI ?_ | refine goJ ?_ ?_ | refine goK ?_ ?_ ?_ | refine goL ?_ ?_ ?_ ?_ | refine goM ?_ ?_ ?_ ?_ ?_ | refine goN ?_ ?_ | refine goO ?_ ?_
    | with_reducible refine goP ?_)
  all_goals try conv => whnf
  all_goals try (refine Side.mk ?_; try dsimp only)
  all_goals (try simp only [Cu_eta] at *)
  all_goals first
    | (show LoopP _ _ _ _; skip)
    | (show GotoP _ _ _ _ _; skip)
    | (show EndP _ _ _ _ _ _; skip)
    | (show ∃ _, _; skip)
    | (first
          | trivial
          | omega
          | (simp (discharger := omega) only [wu8, wu16, wu32, wu64, wi32, wi64, Int.tdiv_eq_ediv_of_nonneg, Int.tmod_eq_emod_of_nonneg]; omega)
          | (simp only [List.length_append, List.length_cons, List.length_nil, bl_length, List.length_take, List.length_drop]; omega)
          | (simp (discharger := omega) [-List.getD_eq_getElem?_getD, wu8, wu16, wu32, wu64, wi32, wi64, Int.tdiv_eq_ediv_of_nonneg, Int.tmod_eq_emod_of_nonneg]; done)
          | (simp (discharger := omega) [-List.getD_eq_getElem?_getD, wu8, wu16, wu32, wu64, wi32, wi64, Int.tdiv_eq_ediv_of_nonneg, Int.tmod_eq_emod_of_nonneg]; omega))
    | skip
  refine EndP.mk [] ?_ <;> (repeat' first | trivial | rfl | exact eqS _ _ | refine And.intro ?_ ?_ | refine eqA ?_ | refine eqB ?_ | refine eqC ?_ | refine eqD ?_ | refine eqE ?_ | refine eqF ?_ | refine eqG ?_ | refine eqH ?_ | refine eqI ?_ ?_)
def sm_pmRest : Sm := fun args σ => match args, σ with
  | [.ptr 0 0, .buf 1], [.cells [.buf 2], .buf 2 0 tl, .buf 4 0 l] => some ((∃ a : List Pf, l = a.map ePf) ∧ l.length ≤ 1000000 ∧ (∃ T : List Tg, tl = T.map eTg) ∧ tl.length ≤ 1000000, .int .i64 (restF (tl.map deTg) (l.map dePf)), none)
  | [.nilptr, .list true 0 []], [] => some (True, .int .i64 0, none)
  | _, _ => none
theorem k_pmRest : SOK 37 sm_pmRest := by
  intro args sg pre x r he hp
  unfold sm_pmRest at he
  split at he <;> cases he
  · exact f_pmRest_1 (hp := hp) ..
  · exact f_pmRest_2 (hp := hp) ..
end Go.Proofs.YtbeejnmeakcpjaaDoor
