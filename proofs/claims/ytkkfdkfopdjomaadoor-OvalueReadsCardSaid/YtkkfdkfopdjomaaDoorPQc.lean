/-
  Messages of Protobuf: what the document says of fields together.
-/
import Derived.Test.YtkkfdkfopdjomaaDoorPQa
set_option linter.unusedSimpArgs false
set_option linter.unusedVariables false
set_option maxHeartbeats 4000000
namespace Go.Proofs.YtkkfdkfopdjomaaDoor
open Go Go.VG
set_option maxRecDepth 100000
theorem lastF_getD (l : List Pf) : l.getD (l.length - 1) default = lastF l := by
  unfold lastF
  rw [List.getLastD_eq_getLast?, List.getLast?_eq_getElem?, List.getD_eq_getElem?_getD]
theorem anyF_len (l : List Pf) : anyF l = decide (l.length ≠ 0) := by
  cases l <;> simp [anyF]
theorem anyF_len0 {l : List Pf} (h : (l.length : Int) = 0) : anyF l = false ∧ lastF l = default ∧ joinT l = [] := by
  obtain rfl : l = [] := List.eq_nil_of_length_eq_zero (by omega)
  exact ⟨rfl, rfl, rfl⟩
theorem isF_yes {n w : Int} {f : Pf} (h : f.no = n) (k : f.wi = w) : isF n w f = true := by simp [isF, h, k]
theorem isF_no1 {n w : Int} {f : Pf} (h : ¬ f.no = n) : ¬ isF n w f = true := by simp [isF, h]
theorem isF_no2 {n w : Int} {f : Pf} (h : ¬ f.wi = w) : ¬ isF n w f = true := by simp [isF, h]
theorem anyF_len1 {l : List Pf} (h : ¬ (l.length : Int) = 0) : anyF l = true := by
  rw [anyF_len]; exact decide_eq_true (by omega)
theorem f_r18Of_1 (l : List V) (n w : Int) (hp : (∃ a : List Pf, l = a.map ePf) ∧ l.length ≤ 1000000) : OK 42 ([.buf 0, .int .i64 n, .int .i64 w]) ([.buf 4 0 l]) (.buf 1) (some [.buf 4 0 l, .buf 4 0 ((selF (isF n w) (l.map dePf)).map ePf), .dead]) := by
  refine funOK_of_vc (C := cx []) (good trivial) (fn := Tryd.f42) rfl rfl rfl rfl fun hw hs => ?_
  obtain ⟨⟨a, rfl⟩, hl⟩ := hp
  simp only [dePf_map]
  have hml : (a.map ePf).length = a.length := List.length_map ..
  repeat' ((conv => whnf); first | with_reducible (first | refine go1 (fun j q h => ?_) fun h => ?_ | refine go2 ⟨rfl, rfl⟩ (fun h => ?_) fun j h => ?_ | refine go2 ?_ (fun h => ?_) fun j h => ?_ | refine goQ ?_ (fun h => ?_) fun h => ?_) | apply go3 | apply go4 | apply go5 | ((first | apply go6 | apply go7 | apply go8 | apply go9 | apply goA) <;> intro h) | with_reducible (first | refine IdxK.mk _ rfl ?_ | refine goB ?_ fun hc => ?_ | refine goC ?_ fun hc => ?_ | refine goD ?_ fun hc => ?_ | refine goE ?_ fun hc => ?_ | apply goF | apply goG | refine goH ?_ fun b hb => ?_) | apply goI | apply goJ | apply goK | apply goL | apply goM | apply goN | apply goO | with_reducible refine goP ?_)
  all_goals try conv => whnf
  all_goals try (refine Side.mk ?_; try dsimp only)
  refine LoopP.mk Nat (fun i => i ≤ a.length) (fun i => ⟨39, [(0, .buf 0), (1, .int .i64 n), (2, .int .i64 w), (7, .buf 1), (8, .int .i64 i)], [.buf 4 0 (a.map ePf), .buf 4 0 ((selF (isF n w) (a.take i)).map ePf)], [1]⟩) (fun i => a.length - i) [.tm 7 4] 0 (Nat.zero_le _) ?_ (fun i hi _ _ => ?_)
  · refine Go.VG.Sub.mk rfl ?_ ?_ ?_ ?_ <;> (repeat' first | trivial | rfl | exact eqS _ _ | apply andI | apply eqA | apply eqB | apply eqC | apply eqD | apply eqE | apply eqF | apply eqG | apply eqH | apply eqI)
  have hst := fun h => sel_step (isF n w) (a := a) (i := i) h
  have hsl : ((selF (isF n w) (a.take i)).map ePf).length ≤ a.length := by
    rw [List.length_map]; exact Nat.le_trans (List.length_filter_le ..) (by rw [List.length_take]; exact Nat.min_le_right _ _)
  repeat' ((conv => whnf); first | with_reducible (first | refine go1 (fun j q h => ?_) fun h => ?_ | refine go2 ⟨rfl, rfl⟩ (fun h => ?_) fun j h => ?_ | refine go2 ?_ (fun h => ?_) fun j h => ?_ | refine goQ ?_ (fun h => ?_) fun h => ?_) | apply go3 | apply go4 | apply go5 | ((first | apply go6 | apply go7 | apply go8 | apply go9 | apply goA) <;> intro h) | with_reducible (first | refine IdxK.mk _ rfl ?_ | refine goB ?_ fun hc => ?_ | refine goC ?_ fun hc => ?_ | refine goD ?_ fun hc => ?_ | refine goE ?_ fun hc => ?_ | apply goF | apply goG | refine goH ?_ fun b hb => ?_) | apply goI | apply goJ | apply goK | apply goL | apply goM | apply goN | apply goO | with_reducible refine goP ?_)
  all_goals try conv => whnf
  all_goals try (refine Side.mk ?_; try dsimp only)
  all_goals (try simp only [Cu_eta] at *)
  all_goals first | refine stay ?_ | trivial | omega | (simp (discharger := omega) only [wR]; omega) | (simp only [lnS]; omega) | (simp (discharger := omega) [-List.getD_eq_getElem?_getD, wR] <;> omega) | skip
  all_goals first
    | (show EndP _ _ _ _ _ _
       obtain rfl : i = a.length := by omega
       simp only [List.take_length]
       refine EndP.mk [.nw] ?_ <;> (repeat' first | trivial | rfl | exact eqS _ _ | apply andI | apply eqA | apply eqB | apply eqC | apply eqD | apply eqE | apply eqF | apply eqG | apply eqH | apply eqI)
       done)
    | (have hst := hst (by omega)
       first
       | rw [if_pos (isF_yes (by assumption) (by assumption))] at hst
       | rw [if_neg (isF_no1 (by assumption))] at hst
       | rw [if_neg (isF_no2 (by assumption))] at hst
       refine ⟨[], i + 1, by omega, ?_, by omega⟩
       refine Go.VG.Sub.mk rfl ?_ ?_ ?_ ?_ <;> (repeat' first | trivial | rfl | exact eqS _ _ | apply andI | apply eqA | apply eqB | apply eqC | apply eqD | apply eqE | apply eqF | apply eqG | apply eqH | apply eqI)
       all_goals (first
         | ((first | omega | (simp (discharger := omega) only [wR]; omega) | (simp only [lnS]; omega) | (simp (discharger := omega) [-List.getD_eq_getElem?_getD, wR] <;> omega)); done)
         | (rw [hst]; done)
         | (rw [hst, List.map_append]; rfl))
       done)
def sm_r18Of : Sm := fun args σ => match args, σ with
  | [.buf 0, .int .i64 n, .int .i64 w], [.buf 4 0 l] => some ((∃ a : List Pf, l = a.map ePf) ∧ l.length ≤ 1000000, .buf 1, some [.buf 4 0 l, .buf 4 0 ((selF (isF n w) (l.map dePf)).map ePf), .dead])
  | _, _ => none
theorem k_r18Of : SOK 42 sm_r18Of := by
  intro args sg pre x r he hp
  unfold sm_r18Of at he
  split at he <;> cases he
  · exact f_r18Of_1 (hp := hp) ..
theorem f_r18Text_1 (l : List V) (n : Int) (hp : (∃ a : List Pf, l = a.map ePf) ∧ l.length ≤ 1000000) : OK 23 ([.buf 0, .int .i64 n]) ([.buf 4 0 l]) (.tuple [.str (lastF (selF (isF n 2) (l.map dePf))).text, .bool (anyF (selF (isF n 2) (l.map dePf)))]) (none) := by
  refine funOK_of_vc (C := cx [(42, sm_r18Of)]) (good ⟨k_r18Of, trivial⟩) (fn := Tryd.f23) rfl rfl rfl rfl fun hw hs => ?_
  obtain ⟨⟨a, rfl⟩, hl⟩ := hp
  simp only [dePf_map]
  have hml : (a.map ePf).length = a.length := List.length_map ..
  have hs1 : (selF (isF n 2) a).length ≤ a.length := List.length_filter_le ..
  have e0 := @anyF_len0 (selF (isF n 2) a)
  have e1 := @anyF_len1 (selF (isF n 2) a)
  have e2 := lastF_getD (selF (isF n 2) a)
  have hwl : ¬ ((selF (isF n 2) a).length : Int) = 0 → IntKind.i64.wrap ((selF (isF n 2) a).length - 1) = ((selF (isF n 2) a).length - 1 : Nat) := fun h => by rw [wi_i (by omega)]; omega
  repeat' ((conv => whnf); first | with_reducible (first | refine go1 (fun j q h => ?_) fun h => ?_ | refine go2 ⟨rfl, rfl⟩ (fun h => ?_) fun j h => ?_ | refine go2 ?_ (fun h => ?_) fun j h => ?_ | refine goQ ?_ (fun h => ?_) fun h => ?_) | apply go3 | apply go4 | apply go5 | ((first | apply go6 | apply go7 | apply go8 | apply go9 | apply goA) <;> intro h) | with_reducible (first | refine IdxK.mk _ rfl ?_ | refine goB ?_ fun hc => ?_ | refine goC ?_ fun hc => ?_ | refine goD ?_ fun hc => ?_ | refine goE ?_ fun hc => ?_ | apply goF | apply goG | refine goH ?_ fun b hb => ?_) | apply goI | apply goJ | apply goK | apply goL | apply goM | apply goN | apply goO | with_reducible refine goP ?_)
  all_goals try conv => whnf
  all_goals try (refine Side.mk ?_; try dsimp only)
  all_goals (try simp only [List.length_map, dePf_map] at *)
  all_goals first
    | exact ⟨⟨_, rfl⟩, by omega⟩
    | (have h0 := e0 (by assumption)
       (try rw [if_neg (by assumption)])
       rw [h0.1, h0.2.1]
       (try rw [Bool.and_false])
       refine EndP.mk [] ?_ <;> (repeat' first | trivial | rfl | exact eqS _ _ | apply andI | apply eqA | apply eqB | apply eqC | apply eqD | apply eqE | apply eqF | apply eqG | apply eqH | apply eqI)
       done)
    | (rw [hwl (by assumption)]; omega)
    | (rw [if_pos (by assumption), decide_eq_false (fun q => q (by assumption))]
       refine EndP.mk [] ?_ <;> (repeat' first | trivial | rfl | exact eqS _ _ | apply andI | apply eqA | apply eqB | apply eqC | apply eqD | apply eqE | apply eqF | apply eqG | apply eqH | apply eqI)
       done)
    | ((try rw [if_neg (by assumption)])
       (try rw [decide_eq_true (by assumption), Bool.true_and])
       rw [e1 (by assumption), ← e2]
       have h1 := hwl (by assumption)
       refine EndP.mk [] ?_ <;> (repeat' first | trivial | rfl | exact eqS _ _ | apply andI | apply eqA | apply eqB | apply eqC | apply eqD | apply eqE | apply eqF | apply eqG | apply eqH | apply eqI)
       all_goals (rw [h1, Int.toNat_natCast])
       done)
def sm_r18Text : Sm := fun args σ => match args, σ with
  | [.buf 0, .int .i64 n], [.buf 4 0 l] => some ((∃ a : List Pf, l = a.map ePf) ∧ l.length ≤ 1000000, .tuple [.str (lastF (selF (isF n 2) (l.map dePf))).text, .bool (anyF (selF (isF n 2) (l.map dePf)))], none)
  | _, _ => none
theorem k_r18Text : SOK 23 sm_r18Text := by
  intro args sg pre x r he hp
  unfold sm_r18Text at he
  split at he <;> cases he
  · exact f_r18Text_1 (hp := hp) ..
theorem f_r18Each_1 (l : List V) (n : Int) (hp : (∃ a : List Pf, l = a.map ePf) ∧ l.length ≤ 1000000) : OK 39 ([.buf 0, .int .i64 n]) ([.buf 4 0 l]) (.buf 1) (some [.buf 4 0 l, .buf 1 0 (textsF (selF (isF n 2) (l.map dePf))), .dead]) := by
  refine funOK_of_vc (C := cx [(42, sm_r18Of)]) (good ⟨k_r18Of, trivial⟩) (fn := Tryd.f39) rfl rfl rfl rfl fun hw hs => ?_
  obtain ⟨⟨a, rfl⟩, hl⟩ := hp
  simp only [dePf_map]
  have hml : (a.map ePf).length = a.length := List.length_map ..
  have hs1 : (selF (isF n 2) a).length ≤ a.length := List.length_filter_le ..
  have hti : ∀ i, (textsF ((selF (isF n 2) a).take i)).length ≤ a.length := fun i => by
    unfold textsF; rw [List.length_map, List.length_take]; exact Nat.le_trans (Nat.min_le_right _ _) hs1
  have hts : ∀ i, i < (selF (isF n 2) a).length → textsF ((selF (isF n 2) a).take (i + 1)) = textsF ((selF (isF n 2) a).take i) ++ [.str ((selF (isF n 2) a).getD i default).text] := fun i h => by
    rw [List.take_add_one, List.getD_eq_getElem?_getD, List.getElem?_eq_getElem h]
    unfold textsF
    rw [List.map_append]; rfl
  repeat' ((conv => whnf); first | with_reducible (first | refine go1 (fun j q h => ?_) fun h => ?_ | refine go2 ⟨rfl, rfl⟩ (fun h => ?_) fun j h => ?_ | refine go2 ?_ (fun h => ?_) fun j h => ?_ | refine goQ ?_ (fun h => ?_) fun h => ?_) | apply go3 | apply go4 | apply go5 | ((first | apply go6 | apply go7 | apply go8 | apply go9 | apply goA) <;> intro h) | with_reducible (first | refine IdxK.mk _ rfl ?_ | refine goB ?_ fun hc => ?_ | refine goC ?_ fun hc => ?_ | refine goD ?_ fun hc => ?_ | refine goE ?_ fun hc => ?_ | apply goF | apply goG | refine goH ?_ fun b hb => ?_) | apply goI | apply goJ | apply goK | apply goL | apply goM | apply goN | apply goO | with_reducible refine goP ?_)
  all_goals try conv => whnf
  all_goals try (refine Side.mk ?_; try dsimp only)
  · exact ⟨⟨_, rfl⟩, by omega⟩
  simp only [dePf_map]
  generalize selF (isF n 2) a = b at *
  have hmb : (b.map ePf).length = b.length := List.length_map ..
  refine LoopP.mk Nat (fun i => i ≤ b.length) (fun i => ⟨26, [(5, .buf 1), (6, .buf 2), (7, .int .i64 i)], [.buf 4 0 (a.map ePf), .buf 4 0 (b.map ePf), .buf 1 0 (textsF (b.take i))], [1, 2, 3]⟩) (fun i => b.length - i) [.tm 6 1, .swap 2 3] 0 (Nat.zero_le _) ?_ (fun i hi _ _ => ?_)
  · refine Go.VG.Sub.mk rfl ?_ ?_ ?_ ?_ <;> (repeat' first | trivial | rfl | exact eqS _ _ | apply andI | apply eqA | apply eqB | apply eqC | apply eqD | apply eqE | apply eqF | apply eqG | apply eqH | apply eqI)
  have hti := hti i
  have hts := hts i
  repeat' ((conv => whnf); first | with_reducible (first | refine go1 (fun j q h => ?_) fun h => ?_ | refine go2 ⟨rfl, rfl⟩ (fun h => ?_) fun j h => ?_ | refine go2 ?_ (fun h => ?_) fun j h => ?_ | refine goQ ?_ (fun h => ?_) fun h => ?_) | apply go3 | apply go4 | apply go5 | ((first | apply go6 | apply go7 | apply go8 | apply go9 | apply goA) <;> intro h) | with_reducible (first | refine IdxK.mk _ rfl ?_ | refine goB ?_ fun hc => ?_ | refine goC ?_ fun hc => ?_ | refine goD ?_ fun hc => ?_ | refine goE ?_ fun hc => ?_ | apply goF | apply goG | refine goH ?_ fun b hb => ?_) | apply goI | apply goJ | apply goK | apply goL | apply goM | apply goN | apply goO | with_reducible refine goP ?_)
  all_goals try conv => whnf
  all_goals try (refine Side.mk ?_; try dsimp only)
  all_goals (try simp only [Cu_eta] at *)
  all_goals first | refine stay ?_ | trivial | omega | (simp (discharger := omega) only [wR]; omega) | (simp only [lnS]; omega) | (simp (discharger := omega) [-List.getD_eq_getElem?_getD, wR] <;> omega) | skip
  all_goals (try simp only [List.length_map] at *)
  · refine ⟨[], i + 1, by omega, ?_, by omega⟩
    refine Go.VG.Sub.mk rfl ?_ ?_ ?_ ?_ <;> (repeat' first | trivial | rfl | exact eqS _ _ | apply andI | apply eqA | apply eqB | apply eqC | apply eqD | apply eqE | apply eqF | apply eqG | apply eqH | apply eqI)
    · (first | omega | (simp (discharger := omega) only [wR]; omega) | (simp only [lnS]; omega) | (simp (discharger := omega) [-List.getD_eq_getElem?_getD, wR] <;> omega))
    · rw [hts (by omega)]
  · obtain rfl : i = b.length := by omega
    rw [List.take_length]
    refine EndP.mk [.swap 1 2] ?_ <;> (repeat' first | trivial | rfl | exact eqS _ _ | apply andI | apply eqA | apply eqB | apply eqC | apply eqD | apply eqE | apply eqF | apply eqG | apply eqH | apply eqI)
def sm_r18Each : Sm := fun args σ => match args, σ with
  | [.buf 0, .int .i64 n], [.buf 4 0 l] => some ((∃ a : List Pf, l = a.map ePf) ∧ l.length ≤ 1000000, .buf 1, some [.buf 4 0 l, .buf 1 0 (textsF (selF (isF n 2) (l.map dePf))), .dead])
  | _, _ => none
theorem k_r18Each : SOK 39 sm_r18Each := by
  intro args sg pre x r he hp
  unfold sm_r18Each at he
  split at he <;> cases he
  · exact f_r18Each_1 (hp := hp) ..
theorem f_r18Join_1 (l : List V) (n : Int) (hp : (∃ a : List Pf, l = a.map ePf ∧ shortF a) ∧ l.length ≤ 10000) : OK 24 ([.buf 0, .int .i64 n]) ([.buf 4 0 l]) (.tuple [.str (joinT (selF (isF n 2) (l.map dePf))), .bool (anyF (selF (isF n 2) (l.map dePf)))]) (none) := by
  refine funOK_of_vc (C := cx [(39, sm_r18Each)]) (good ⟨k_r18Each, trivial⟩) (fn := Tryd.f24) rfl rfl rfl rfl fun hw hs => ?_
  obtain ⟨⟨a, rfl, ha⟩, hl⟩ := hp
  simp only [dePf_map]
  have hml : (a.map ePf).length = a.length := List.length_map ..
  have hs1 : (selF (isF n 2) a).length ≤ a.length := List.length_filter_le ..
  have hsh : shortF (selF (isF n 2) a) := fun f hf => ha f (List.mem_filter.1 hf).1
  have hjl : ∀ (b : List Pf) i, shortF b → b.length ≤ a.length → (joinT (b.take i)).length ≤ 1000000000 := fun b i hb hl2 => by
    have h1 := join_le (l := b.take i) fun f hf => hb f (List.mem_of_mem_take hf)
    rw [List.length_take] at h1
    omega
  have hjs : ∀ (b : List Pf) i, i < b.length → joinT (b.take (i + 1)) = joinT (b.take i) ++ (b.getD i default).text := fun b i h => by
    rw [List.take_add_one, List.getD_eq_getElem?_getD, List.getElem?_eq_getElem h]
    exact joinT_app ..
  have han := anyF_len (selF (isF n 2) a)
  repeat' ((conv => whnf); first | with_reducible (first | refine go1 (fun j q h => ?_) fun h => ?_ | refine go2 ⟨rfl, rfl⟩ (fun h => ?_) fun j h => ?_ | refine go2 ?_ (fun h => ?_) fun j h => ?_ | refine goQ ?_ (fun h => ?_) fun h => ?_) | apply go3 | apply go4 | apply go5 | ((first | apply go6 | apply go7 | apply go8 | apply go9 | apply goA) <;> intro h) | with_reducible (first | refine IdxK.mk _ rfl ?_ | refine goB ?_ fun hc => ?_ | refine goC ?_ fun hc => ?_ | refine goD ?_ fun hc => ?_ | refine goE ?_ fun hc => ?_ | apply goF | apply goG | refine goH ?_ fun b hb => ?_) | apply goI | apply goJ | apply goK | apply goL | apply goM | apply goN | apply goO | with_reducible refine goP ?_)
  all_goals try conv => whnf
  all_goals try (refine Side.mk ?_; try dsimp only)
  · exact ⟨⟨_, rfl⟩, by omega⟩
  simp only [dePf_map]
  generalize selF (isF n 2) a = b at *
  have hmb : (textsF b).length = b.length := List.length_map ..
  refine LoopP.mk Nat (fun i => i ≤ b.length) (fun i => ⟨28, [(6, .buf 1), (7, .str (joinT (b.take i))), (8, .int .i64 i)], [.buf 4 0 (a.map ePf), .buf 1 0 (textsF b)], []⟩) (fun i => b.length - i) [] 0 (Nat.zero_le _) ?_ (fun i hi _ _ => ?_)
  · refine Go.VG.Sub.mk rfl ?_ ?_ ?_ ?_ <;> (repeat' first | trivial | rfl | exact eqS _ _ | apply andI | apply eqA | apply eqB | apply eqC | apply eqD | apply eqE | apply eqF | apply eqG | apply eqH | apply eqI)
  have hj1 := hjl b i hsh (by omega)
  have hjs := hjs b i
  have hs2 : i < b.length → (b.getD i default).text.length ≤ 100000 := fun h => short_get hsh h
  repeat' ((conv => whnf); first | with_reducible (first | refine go1 (fun j q h => ?_) fun h => ?_ | refine go2 ⟨rfl, rfl⟩ (fun h => ?_) fun j h => ?_ | refine go2 ?_ (fun h => ?_) fun j h => ?_ | refine goQ ?_ (fun h => ?_) fun h => ?_) | apply go3 | apply go4 | apply go5 | ((first | apply go6 | apply go7 | apply go8 | apply go9 | apply goA) <;> intro h) | with_reducible (first | refine IdxK.mk _ rfl ?_ | refine goB ?_ fun hc => ?_ | refine goC ?_ fun hc => ?_ | refine goD ?_ fun hc => ?_ | refine goE ?_ fun hc => ?_ | apply goF | apply goG | refine goH ?_ fun b hb => ?_) | apply goI | apply goJ | apply goK | apply goL | apply goM | apply goN | apply goO | with_reducible refine goP ?_)
  all_goals try conv => whnf
  all_goals try (refine Side.mk ?_; try dsimp only)
  all_goals (try simp only [Cu_eta] at *)
  all_goals first | refine stay ?_ | trivial | omega | (simp (discharger := omega) only [wR]; omega) | (simp only [lnS]; omega) | (simp (discharger := omega) [-List.getD_eq_getElem?_getD, wR] <;> omega) | skip
  all_goals (try simp only [List.length_map] at *)
  all_goals first
    | (have := hs2 (by omega)
       omega)
    | (refine ⟨[], i + 1, by omega, ?_, by omega⟩
       refine Go.VG.Sub.mk rfl ?_ ?_ ?_ ?_ <;> (repeat' first | trivial | rfl | exact eqS _ _ | apply andI | apply eqA | apply eqB | apply eqC | apply eqD | apply eqE | apply eqF | apply eqG | apply eqH | apply eqI)
       all_goals first
         | (rw [hjs (by omega)]; done)
         | ((first | omega | (simp (discharger := omega) only [wR]; omega) | (simp only [lnS]; omega) | (simp (discharger := omega) [-List.getD_eq_getElem?_getD, wR] <;> omega)); done)
       done)
    | (show EndP _ _ _ _ _ _
       obtain rfl : i = b.length := by omega
       rw [han, List.take_length]
       refine EndP.mk [] ?_ <;> (repeat' first | trivial | rfl | exact eqS _ _ | apply andI | apply eqA | apply eqB | apply eqC | apply eqD | apply eqE | apply eqF | apply eqG | apply eqH | apply eqI)
       exact decide_eq_decide.2 (by omega)
       done)
def sm_r18Join : Sm := fun args σ => match args, σ with
  | [.buf 0, .int .i64 n], [.buf 4 0 l] => some ((∃ a : List Pf, l = a.map ePf ∧ shortF a) ∧ l.length ≤ 10000, .tuple [.str (joinT (selF (isF n 2) (l.map dePf))), .bool (anyF (selF (isF n 2) (l.map dePf)))], none)
  | _, _ => none
theorem k_r18Join : SOK 24 sm_r18Join := by
  intro args sg pre x r he hp
  unfold sm_r18Join at he
  split at he <;> cases he
  · exact f_r18Join_1 (hp := hp) ..
abbrev Ct : Type := List (Tg × Int)
abbrev mE (es : Ct) : List (V × Int) := es.map fun e => (eTg e.1, e.2)
def fndT : Ct → Tg → Option (Nat × Int)
  | [], _ => none
  | e :: es, x => if e.1 = x then some (0, e.2) else match fndT es x with
    | some (j, q) => some (j + 1, q)
    | none => none
theorem key_tg (a b : Tg) : keyEq (eTg a) (eTg b) = decide (a = b) := by
  obtain ⟨a1, a2⟩ := a
  obtain ⟨b1, b2⟩ := b
  simp only [keyEq, keqs, keq1, Bool.and_true, Prod.mk.injEq]
  by_cases h1 : a1 = b1 <;> by_cases h2 : a2 = b2 <;> simp [h1, h2]
theorem fnd_mE : ∀ (es : Ct) (k : Tg), fndM (mE es) (eTg k) = fndT es k
  | [], _ => rfl
  | e :: es, k => by
    show cond (keyEq (eTg e.1) (eTg k)) _ _ = _
    rw [key_tg, fndT]
    by_cases h : e.1 = k
    · rw [decide_eq_true h, if_pos h]; rfl
    · rw [decide_eq_false h, if_neg h]
      show (match fndM (mE es) (eTg k) with | some (j, q) => some (j + 1, q) | none => none) = _
      rw [fnd_mE es k]
theorem fnd_some : ∀ {es : Ct} {k : Tg} {j : Nat} {q : Int}, fndT es k = some (j, q) → es[j]? = some (k, q)
  | [], _, _, _, h => by cases h
  | e :: es, k, j, q, h => by
    rw [fndT] at h
    split at h
    · rename_i h1; cases h; subst h1; rfl
    · split at h
      · rename_i j' q' h2
        cases h
        show es[j']? = _
        exact fnd_some h2
      · cases h
theorem fnd_none : ∀ {es : Ct} {k : Tg}, fndT es k = none → ∀ e ∈ es, e.1 ≠ k
  | [], _, _ => fun _ h => by cases h
  | e :: es, k, h => by
    rw [fndT] at h
    split at h
    · cases h
    · rename_i h1
      split at h
      · cases h
      · rename_i h2
        intro e' he
        rcases List.mem_cons.1 he with rfl | he
        · exact h1
        · exact fnd_none h2 e' he
theorem set_mE : ∀ {es : Ct} {j : Nat} {k : Tg} {q q' : Int}, es[j]? = some (k, q) → setM (mE es) j q' = mE (es.set j (k, q'))
  | [], _, _, _, _, h => by cases h
  | e :: es, 0, k, q, q', h => by
    cases h; rfl
  | e :: es, j + 1, k, q, q', h => by
    show (eTg e.1, e.2) :: setM (mE es) j q' = _
    rw [set_mE (es := es) (j := j) h]; rfl
def bumpT (es : Ct) (k : Tg) : Ct := match fndT es k with
  | some (j, q) => es.set j (k, q + 1)
  | none => es ++ [(k, 1)]
def cntT (l : List Pf) : Ct := l.foldl (fun es f => bumpT es (f.no, f.wi)) []
theorem cnt_step {a : List Pf} {i : Nat} (h : i < a.length) : cntT (a.take (i + 1)) = bumpT (cntT (a.take i)) ((a.getD i default).no, (a.getD i default).wi) := by
  unfold cntT
  rw [List.take_add_one, List.foldl_append, List.getD_eq_getElem?_getD, List.getElem?_eq_getElem h]; rfl
def sumT (P : Tg → Bool) : Ct → Int
  | [] => 0
  | e :: es => (if P e.1 = true then e.2 else 0) + sumT P es
theorem sum_app (P : Tg → Bool) : ∀ (a b : Ct), sumT P (a ++ b) = sumT P a + sumT P b
  | [], b => by simp [sumT]
  | e :: a, b => by simp only [List.cons_append, sumT, sum_app P a b]; omega
theorem sum_set (P : Tg → Bool) : ∀ {es : Ct} {j : Nat} {k : Tg} {q : Int}, es[j]? = some (k, q) → sumT P (es.set j (k, q + 1)) = sumT P es + if P k = true then 1 else 0
  | [], _, _, _, h => by cases h
  | e :: es, 0, k, q, h => by
    cases h
    simp only [List.set, sumT]
    split <;> omega
  | e :: es, j + 1, k, q, h => by
    simp only [List.set, sumT, sum_set P (es := es) (j := j) h]; omega
theorem sum_bump (P : Tg → Bool) (es : Ct) (k : Tg) : sumT P (bumpT es k) = sumT P es + if P k = true then 1 else 0 := by
  unfold bumpT
  split
  · rename_i j q h
    exact sum_set P (fnd_some h)
  · rw [sum_app]
    simp only [sumT]
    split <;> omega
structure GoodT (es : Ct) (n : Nat) : Prop where
  nd : (es.map Prod.fst).Nodup
  pos : ∀ e ∈ es, 0 ≤ e.2
  len : es.length ≤ n
theorem set_keys : ∀ {es : Ct} {j : Nat} {k : Tg} {q q' : Int}, es[j]? = some (k, q) → (es.set j (k, q')).map Prod.fst = es.map Prod.fst
  | [], _, _, _, _, h => by cases h
  | e :: es, 0, k, q, q', h => by cases h; rfl
  | e :: es, j + 1, k, q, q', h => by
    simp only [List.set, List.map_cons, set_keys (es := es) (j := j) h]
theorem good_bump {es : Ct} {n : Nat} (h : GoodT es n) (k : Tg) : GoodT (bumpT es k) (n + 1) := by
  unfold bumpT
  split
  · rename_i j q hf
    have hs := fnd_some hf
    refine ⟨by rw [set_keys hs]; exact h.nd, fun e he => ?_, by rw [List.length_set]; have := h.len; omega⟩
    rcases List.mem_or_eq_of_mem_set he with he | rfl
    · exact h.pos e he
    · have := h.pos _ (List.mem_of_getElem? hs)
      show 0 ≤ q + 1
      have : 0 ≤ q := this
      omega
  · rename_i hf
    refine ⟨?_, fun e he => ?_, by rw [List.length_append, List.length_singleton]; have := h.len; omega⟩
    · rw [List.map_append, List.nodup_append]
      refine ⟨h.nd, by simp, fun x hx y hy => ?_⟩
      obtain ⟨e, he, rfl⟩ := List.mem_map.1 hx
      simp at hy
      subst hy
      exact fnd_none hf e he
    · rcases List.mem_append.1 he with he | he
      · exact h.pos e he
      · rw [List.mem_singleton] at he; subst he; exact (by decide : (0 : Int) ≤ 1)
theorem good_cnt (a : List Pf) : ∀ i, i ≤ a.length → GoodT (cntT (a.take i)) i ∧ ∀ P, sumT P (cntT (a.take i)) = ((a.take i).filter fun f => P (f.no, f.wi)).length
  | 0, _ => ⟨⟨by simp [cntT], fun e h => by simp [cntT] at h, by simp [cntT]⟩, fun P => by simp [cntT, sumT]⟩
  | i + 1, h => by
    obtain ⟨h1, h2⟩ := good_cnt a i (by omega)
    rw [cnt_step (by omega)]
    refine ⟨good_bump h1 _, fun P => ?_⟩
    rw [sum_bump, h2, List.take_add_one, List.filter_append, List.length_append, List.getD_eq_getElem?_getD, List.getElem?_eq_getElem (by omega)]
    simp only [Option.getD_some, Option.toList_some, List.filter_cons, List.filter_nil]
    split <;> simp
def delF (es : Ct) (T : List Tg) : Ct := es.filter fun e => !decide (e.1 ∈ T)
theorem del_nil (es : Ct) : delF es [] = es := by simp [delF]
theorem del_app (es : Ct) (T : List Tg) (k : Tg) : delF es (T ++ [k]) = (delF es T).filter fun e => !decide (e.1 = k) := by
  unfold delF
  rw [List.filter_filter]
  congr 1
  funext e
  simp only [List.mem_append, List.mem_singleton]
  by_cases h1 : e.1 ∈ T <;> by_cases h2 : e.1 = k <;> simp [h1, h2]
theorem nd_del {es : Ct} (h : (es.map Prod.fst).Nodup) (T : List Tg) : ((delF es T).map Prod.fst).Nodup :=
  List.Nodup.sublist (List.Sublist.map _ List.filter_sublist) h
theorem del_some : ∀ {es : Ct} {k : Tg} {j : Nat} {q : Int}, (es.map Prod.fst).Nodup → fndT es k = some (j, q) → (es.filter fun e => !decide (e.1 = k)) = es.eraseIdx j
  | [], _, _, _, _, h => by cases h
  | e :: es, k, j, q, hn, h => by
    rw [fndT] at h
    rw [List.map_cons, List.nodup_cons] at hn
    split at h
    · rename_i h1
      cases h
      subst h1
      rw [List.filter_cons, if_neg (by simp), List.eraseIdx_cons_zero]
      refine List.filter_eq_self.2 fun e' he => ?_
      simp only [Bool.not_eq_true', decide_eq_false_iff_not]
      intro q
      exact hn.1 (List.mem_map.2 ⟨e', he, q⟩)
    · rename_i h1
      split at h
      · rename_i j' q' h2
        cases h
        rw [List.filter_cons, if_pos (by simp [h1]), del_some hn.2 h2, List.eraseIdx_cons_succ]
      · cases h
theorem del_none {es : Ct} {k : Tg} (h : fndT es k = none) : (es.filter fun e => !decide (e.1 = k)) = es := by
  refine List.filter_eq_self.2 fun e he => ?_
  simp only [Bool.not_eq_true', decide_eq_false_iff_not]
  exact fnd_none h e he
theorem sum_del (T : List Tg) : ∀ es : Ct, sumT (fun _ => true) (delF es T) = sumT (fun k => !decide (k ∈ T)) es
  | [] => rfl
  | e :: es => by
    have ih := sum_del T es
    unfold delF at ih ⊢
    rw [List.filter_cons]
    by_cases h : e.1 ∈ T
    · rw [if_neg (by simp [h]), ih]; simp [sumT, h]
    · rw [if_pos (by simp [h])]; simp only [sumT, ih]; simp [h]
/-- what is left to be added up -/
def sumI (es : Ct) : List Nat → Int
  | [] => 0
  | j :: l => (es.getD j default).2 + sumI es l
theorem sumI_erase (es : Ct) : ∀ {l : List Nat} {j : Nat}, j ∈ l → sumI es l = (es.getD j default).2 + sumI es (l.erase j)
  | [], _, h => by cases h
  | k :: l, j, h => by
    by_cases e : k = j
    · subst e; simp [sumI]
    · have hm : j ∈ l := by
        rcases List.mem_cons.1 h with q | q
        · exact absurd q.symm e
        · exact q
      have h3 : (k :: l).erase j = k :: l.erase j := by rw [List.erase_cons]; simp [e]
      rw [h3]
      simp only [sumI, sumI_erase es hm]; omega
theorem sumI_pos {es : Ct} (h : ∀ e ∈ es, 0 ≤ e.2) : ∀ l, 0 ≤ sumI es l
  | [] => Int.le_refl 0
  | j :: l => by
    have := sumI_pos h l
    have h2 : 0 ≤ (es.getD j default).2 := by
      rw [List.getD_eq_getElem?_getD]
      cases hg : es[j]? with
      | none => exact Int.le_refl 0
      | some e => exact h e (List.mem_of_getElem? hg)
    simp only [sumI]; omega
theorem sumI_cons (e : Tg × Int) (es : Ct) : ∀ l : List Nat, sumI (e :: es) (l.map (· + 1)) = sumI es l
  | [] => rfl
  | j :: l => by simp only [List.map_cons, sumI, sumI_cons e es l, List.getD_cons_succ]
theorem sumI_all : ∀ es : Ct, sumI es (List.range es.length) = sumT (fun _ => true) es
  | [] => rfl
  | e :: es => by
    rw [List.length_cons, List.range_succ_eq_map]
    have : (List.range es.length).map Nat.succ = (List.range es.length).map (· + 1) := rfl
    simp only [sumI, this, sumI_cons, sumI_all es, sumT, if_true, List.getD_cons_zero]
def restF (T : List Tg) (l : List Pf) : Int := ((selF (fun f => !inT T f) l).length : Nat)
theorem rest_sum (T : List Tg) (a : List Pf) : sumI (delF (cntT a) T) (List.range (delF (cntT a) T).length) = restF T a := by
  have := (good_cnt a a.length (Nat.le_refl _)).2
  rw [List.take_length] at this
  rw [sumI_all, sum_del, this]
  rfl
theorem sum_ge : ∀ {es : Ct} {e : Tg × Int}, (∀ e ∈ es, 0 ≤ e.2) → e ∈ es → e.2 ≤ sumT (fun _ => true) es
  | [], _, _, h => by cases h
  | d :: es, e, hp, h => by
    have h0 : ∀ l : Ct, (∀ e ∈ l, 0 ≤ e.2) → 0 ≤ sumT (fun _ => true) l := fun l => by
      induction l with
      | nil => intro _; exact Int.le_refl 0
      | cons x l ih =>
        intro h
        have h1 := ih fun e he => h e (List.mem_cons_of_mem _ he)
        have h2 := h x (List.mem_cons_self ..)
        simp only [sumT, if_true]; omega
    have h1 := hp d (List.mem_cons_self ..)
    have h2 := h0 es fun e he => hp e (List.mem_cons_of_mem _ he)
    simp only [sumT, if_true]
    rcases List.mem_cons.1 h with rfl | h
    · omega
    · have := sum_ge (fun e he => hp e (List.mem_cons_of_mem _ he)) h
      omega
theorem sumT_le {a : List Pf} {i : Nat} (h : i ≤ a.length) : sumT (fun _ => true) (cntT (a.take i)) ≤ i := by
  rw [(good_cnt a i h).2]
  have := List.length_filter_le (fun _ => true) (a.take i)
  rw [List.length_take] at this
  omega
theorem bump_found {a : List Pf} {i : Nat} (hi : i < a.length) (hl : a.length ≤ 1000000) {j : Nat} {q : Int}
    (h : fndM (mE (cntT (a.take i))) (eTg ((a.getD i default).no, (a.getD i default).wi)) = some (j, q)) :
    setM (mE (cntT (a.take i))) j (IntKind.i64.wrap (getM (mE (cntT (a.take i))) (eTg ((a.getD i default).no, (a.getD i default).wi)) + 1)) = mE (cntT (a.take (i + 1))) ∧ (cntT (a.take (i + 1))).length = (cntT (a.take i)).length ∧ j < (cntT (a.take i)).length := by
  have hg : getM (mE (cntT (a.take i))) (eTg ((a.getD i default).no, (a.getD i default).wi)) = q := by unfold getM; rw [h]
  rw [hg]
  rw [fnd_mE] at h
  have hs := fnd_some h
  have hq := sum_ge (good_cnt a i (by omega)).1.pos (List.mem_of_getElem? hs)
  have hp := (good_cnt a i (by omega)).1.pos _ (List.mem_of_getElem? hs)
  have hu := sumT_le (a := a) (i := i) (by omega)
  have hw : IntKind.i64.wrap (q + 1) = q + 1 := wi_i (by show _ ≤ q + 1 ∧ q + 1 ≤ _; have : q ≤ sumT _ _ := hq; have : 0 ≤ q := hp; omega)
  rw [hw, set_mE hs, cnt_step hi]
  unfold bumpT
  rw [h]
  refine ⟨rfl, List.length_set, ?_⟩
  exact (List.getElem?_eq_some_iff.1 hs).1
theorem bump_new {a : List Pf} {i : Nat} (hi : i < a.length)
    (h : fndM (mE (cntT (a.take i))) (eTg ((a.getD i default).no, (a.getD i default).wi)) = none) :
    setM (mE (cntT (a.take i)) ++ [(eTg ((a.getD i default).no, (a.getD i default).wi), 0)]) (cntT (a.take i)).length (IntKind.i64.wrap (getM (mE (cntT (a.take i))) (eTg ((a.getD i default).no, (a.getD i default).wi)) + 1)) = mE (cntT (a.take (i + 1))) ∧ (cntT (a.take (i + 1))).length = (cntT (a.take i)).length + 1 := by
  have hg : getM (mE (cntT (a.take i))) (eTg ((a.getD i default).no, (a.getD i default).wi)) = 0 := by unfold getM; rw [h]
  rw [hg]
  rw [fnd_mE] at h
  have hs : (cntT (a.take i) ++ [(((a.getD i default).no, (a.getD i default).wi), (0 : Int))])[(cntT (a.take i)).length]? = some (((a.getD i default).no, (a.getD i default).wi), 0) := by
    rw [List.getElem?_append_right (Nat.le_refl _)]; simp
  have e : mE (cntT (a.take i)) ++ [(eTg ((a.getD i default).no, (a.getD i default).wi), (0 : Int))] = mE (cntT (a.take i) ++ [(((a.getD i default).no, (a.getD i default).wi), (0 : Int))]) := by
    show _ = List.map _ (_ ++ _)
    rw [List.map_append]; rfl
  rw [e, set_mE hs, cnt_step hi]
  unfold bumpT
  rw [h]
  refine ⟨?_, by rw [List.length_append]; rfl⟩
  congr 1
  rw [List.set_append_right _ _ (Nat.le_refl _), Nat.sub_self]; rfl
theorem er_mE : ∀ (es : Ct) (j : Nat), (mE es).eraseIdx j = mE (es.eraseIdx j)
  | [], _ => rfl
  | e :: es, 0 => rfl
  | e :: es, j + 1 => by
    show (eTg e.1, e.2) :: (mE es).eraseIdx j = _
    rw [er_mE es j]; rfl
theorem del_found {a : List Pf} {T : List Tg} {i : Nat} (hi : i < T.length) {j : Nat} {q : Int}
    (h : fndM (mE (delF (cntT a) (T.take i))) (eTg (T.getD i default)) = some (j, q)) :
    (mE (delF (cntT a) (T.take i))).eraseIdx j = mE (delF (cntT a) (T.take (i + 1))) ∧ (delF (cntT a) (T.take (i + 1))).length = (delF (cntT a) (T.take i)).length - 1 ∧ j < (delF (cntT a) (T.take i)).length := by
  have hn := (good_cnt a a.length (Nat.le_refl _)).1.nd
  rw [List.take_length] at hn
  rw [fnd_mE] at h
  have e : T.take (i + 1) = T.take i ++ [T.getD i default] := by
    rw [List.take_add_one, List.getD_eq_getElem?_getD, List.getElem?_eq_getElem hi]; rfl
  have hj : j < (delF (cntT a) (T.take i)).length := (List.getElem?_eq_some_iff.1 (fnd_some h)).1
  rw [er_mE, e, del_app, del_some (nd_del hn _) h]
  exact ⟨rfl, List.length_eraseIdx_of_lt hj, hj⟩
theorem del_none' {a : List Pf} {T : List Tg} {i : Nat} (hi : i < T.length)
    (h : fndM (mE (delF (cntT a) (T.take i))) (eTg (T.getD i default)) = none) : delF (cntT a) (T.take (i + 1)) = delF (cntT a) (T.take i) := by
  rw [fnd_mE] at h
  have e : T.take (i + 1) = T.take i ++ [T.getD i default] := by
    rw [List.take_add_one, List.getD_eq_getElem?_getD, List.getElem?_eq_getElem hi]; rfl
  rw [e, del_app, del_none h]
theorem last_at {p : Pf → Bool} {a : List Pf} {i : Nat} (hi : i < a.length) (h : selF p (a.drop (i + 1)) = []) (hp : p (a.getD i default) = true) : lastF (selF p a) = a.getD i default ∧ anyF (selF p a) = true := by
  have e : selF p a = selF p (a.take i) ++ [a.getD i default] := by
    conv => lhs; rw [← List.take_append_drop i a, List.drop_eq_getElem_cons hi]
    unfold selF at h ⊢
    rw [List.getD_eq_getElem?_getD, List.getElem?_eq_getElem hi] at hp ⊢
    rw [List.filter_append, List.filter_cons, h]
    simp only [Option.getD_some] at hp ⊢
    rw [if_pos hp]
  rw [e]
  exact ⟨lastF_app .., anyF_app ..⟩
theorem not_mem_take {T : List Tg} {x : Tg} {i : Nat} (hi : i < T.length) (h : x ∉ T.take i) (k : T.getD i default ≠ x) : x ∉ T.take (i + 1) := by
  rw [List.take_add_one, List.getElem?_eq_getElem hi, List.mem_append]
  rintro (q | q)
  · exact h q
  · rw [List.getD_eq_getElem?_getD, List.getElem?_eq_getElem hi] at k
    simp at q
    exact k q.symm
theorem mem_at {T : List Tg} {x : Tg} {i : Nat} (hi : i < T.length) (k : T.getD i default = x) : x ∈ T := by
  rw [List.getD_eq_getElem?_getD, List.getElem?_eq_getElem hi] at k
  subst k
  exact List.getElem_mem hi
end Go.Proofs.YtkkfdkfopdjomaaDoor
