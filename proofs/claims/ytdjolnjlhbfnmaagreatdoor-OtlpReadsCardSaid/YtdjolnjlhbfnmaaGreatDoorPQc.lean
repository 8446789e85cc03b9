/-
  A part of the proof.
-/
import Derived.Test.YtdjolnjlhbfnmaaGreatDoorPQa
set_option linter.unusedSimpArgs false
set_option linter.unusedVariables false
set_option maxHeartbeats 4000000
namespace Go.Proofs.YtdjolnjlhbfnmaaGreatDoor
open Go Go.VG
set_option maxRecDepth 100000
theorem CI (l : List Pf) : l.getD (l.length - 1) default = aQ l := by
 unfold aQ
 rw [List.getLastD_eq_getLast?, List.getLast?_eq_getElem?, List.getD_eq_getElem?_getD]
theorem Ai (l : List Pf) : cy l = decide (l.length ≠ 0) := by
 cases l <;> simp [cy]
theorem Aj {l : List Pf} (h : (l.length : Int) = 0) : cy l = false ∧ aQ l = default ∧ bX l = [] := by
 obtain rfl : l = [] := List.eq_nil_of_length_eq_zero (by omega)
 exact ⟨rfl, rfl, rfl⟩
theorem L0 {n w : Int} {f : Pf} (h : f.no = n) (k : f.wi = w) : aD n w f = true := by simp [aD, h, k]
theorem KY {n w : Int} {f : Pf} (h : ¬ f.no = n) : ¬ aD n w f = true := by simp [aD, h]
theorem KZ {n w : Int} {f : Pf} (h : ¬ f.wi = w) : ¬ aD n w f = true := by simp [aD, h]
theorem Ak {l : List Pf} (h : ¬ (l.length : Int) = 0) : cy l = true := by
 rw [Ai]; exact decide_eq_true (by omega)
theorem JW (l : List V) (n w : Int) (hp : (∃ a : List Pf, l = a.map av) ∧ l.length ≤ 1000000) : OK 36 ([.buf 0, .int .i64 n, .int .i64 w]) ([.buf 4 0 l]) (.buf 1) (some [.buf 4 0 l, .buf 4 0 ((ar (aD n w) (l.map aS)).map av), .dead]) := by
 refine al (C := cx []) (aq trivial) (fn := Tryz.f36) rfl rfl rfl rfl fun hw hs => ?_
 obtain ⟨⟨a, rfl⟩, hl⟩ := hp
 simp only [bW]
 have hml : (a.map av).length = a.length := List.length_map ..
 all_goals try conv => whnf
 all_goals try (refine ae.mk ?_; try dsimp only)
 refine aT.mk Nat (fun i => i ≤ a.length) (fun i => ⟨39, [(0, .buf 0), (1, .int .i64 n), (2, .int .i64 w), (7, .buf 1), (8, .int .i64 i)], [.buf 4 0 (a.map av), .buf 4 0 ((ar (aD n w) (a.take i)).map av)], [1]⟩) (fun i => a.length - i) [.tm 7 4] 0 (Nat.zero_le _) ?_ (fun i hi _ _ => ?_)
 . refine Go.VG.Sub.mk rfl ?_ ?_ ?_ ?_ <;> (repeat' first | trivial)
 have hst := fun h => qu (aD n w) (a := a) (i := i) h
 have hsl : ((ar (aD n w) (a.take i)).map av).length ≤ a.length := by
  rw [List.length_map]; exact Nat.le_trans (List.length_filter_le ..) (by rw [List.length_take]; exact Nat.min_le_right _ _)
 repeat' ((conv => whnf); first | apply aj | (apply aw <;> intro h) | with_reducible apply c9)
 all_goals try conv => whnf
 all_goals try (refine ae.mk ?_; try dsimp only)
 all_goals (try simp only [dc] at *)
 all_goals first | refine stay ?_ | omega | (simp only [cL]; omega) | skip
 all_goals first
  | (show af _ _ _ _ _ _
     obtain rfl : i = a.length := by omega
     simp only [List.take_length]
     refine af.mk [.nw] ?_ <;> (repeat' first | trivial)
     done)
  | (have hst := hst (by omega)
     first
     | rw [if_pos (L0 (by assumption) (by assumption))] at hst
     | rw [if_neg (KY (by assumption))] at hst
     | rw [if_neg (KZ (by assumption))] at hst
     refine ⟨[], i + 1, by omega, ?_, by omega⟩
     refine Go.VG.Sub.mk rfl ?_ ?_ ?_ ?_ <;> (repeat' first | trivial | apply ax | apply aH | apply bo)
     all_goals (first
      | ((simp (discharger := omega) only [wR]; omega); done)
      | (rw [hst]; done)
      | (rw [hst, List.map_append]; rfl))
     done)
def sJ : Sm := fun args σ => match args, σ with
 | [.buf 0, .int .i64 n, .int .i64 w], [.buf 4 0 l] => some ((∃ a : List Pf, l = a.map av) ∧ l.length ≤ 1000000, .buf 1, some [.buf 4 0 l, .buf 4 0 ((ar (aD n w) (l.map aS)).map av), .dead])
 | _, _ => none
theorem wS : au 36 sJ := by
 intro args sg pre x r he hp
 unfold sJ at he
 split at he <;> cases he
 . exact JW (hp := hp) ..
theorem JV (l : List V) (n w : Int) (hp : (∃ a : List Pf, l = a.map av) ∧ l.length ≤ 1000000) : OK 141 ([.buf 0, .int .i64 n, .int .i64 w]) ([.buf 4 0 l]) (.tuple [.int .u64 (if w = 2 then 0 else (aQ (ar (aD n w) (l.map aS))).num), .bool (decide (w ≠ 2) && cy (ar (aD n w) (l.map aS)))]) (none) := by
 refine al (C := cx [(36, sJ)]) (aq ⟨wS, trivial⟩) (fn := Tryz.f141) rfl rfl rfl rfl fun hw hs => ?_
 obtain ⟨⟨a, rfl⟩, hl⟩ := hp
 simp only [bW]
 have hml : (a.map av).length = a.length := List.length_map ..
 have hs1 : (ar (aD n w) a).length ≤ a.length := List.length_filter_le ..
 have e0 := @Aj (ar (aD n w) a)
 have e1 := @Ak (ar (aD n w) a)
 have e2 := CI (ar (aD n w) a)
 have hwl : ¬ ((ar (aD n w) a).length : Int) = 0 → IntKind.i64.wrap ((ar (aD n w) a).length - 1) = ((ar (aD n w) a).length - 1 : Nat) := fun h => by rw [qH (by omega)]; omega
 repeat' ((conv => whnf); first | apply aj | (apply aw <;> intro h) | with_reducible apply kG)
 all_goals try conv => whnf
 all_goals try (refine ae.mk ?_; try dsimp only)
 all_goals (try simp only [List.length_map, bW] at *)
 all_goals first
  | exact ⟨⟨_, rfl⟩, by omega⟩
  | (have h0 := e0 (by assumption)
     (try rw [if_neg (by assumption)])
     rw [h0.1, h0.2.1]
     (try rw [Bool.and_false])
     refine af.mk [] ?_ <;> (repeat' first | trivial)
     done)
  | (have h1 := hwl (by assumption)
     rw [h1]
     omega)
  | (rw [if_pos (by assumption), decide_eq_false (fun q => q (by assumption))]
     refine af.mk [] ?_ <;> (repeat' first | trivial)
     done)
  | ((try rw [if_neg (by assumption)])
     (try rw [decide_eq_true (by assumption), Bool.true_and])
     rw [e1 (by assumption), ← e2]
     have h1 := hwl (by assumption)
     refine af.mk [] ?_ <;> (repeat' first | trivial | apply ax | apply aH | apply cJ | apply bE)
     all_goals (rw [h1, Int.toNat_natCast])
     done)
def vd : Sm := fun args σ => match args, σ with
 | [.buf 0, .int .i64 n, .int .i64 w], [.buf 4 0 l] => some ((∃ a : List Pf, l = a.map av) ∧ l.length ≤ 1000000, .tuple [.int .u64 (if w = 2 then 0 else (aQ (ar (aD n w) (l.map aS))).num), .bool (decide (w ≠ 2) && cy (ar (aD n w) (l.map aS)))], none)
 | _, _ => none
theorem Cx : au 141 vd := by
 intro args sg pre x r he hp
 unfold vd at he
 split at he <;> cases he
 . exact JV (hp := hp) ..
theorem JX (l : List V) (n : Int) (hp : (∃ a : List Pf, l = a.map av) ∧ l.length ≤ 1000000) : OK 64 ([.buf 0, .int .i64 n]) ([.buf 4 0 l]) (.tuple [.str (aQ (ar (aD n 2) (l.map aS))).text, .bool (cy (ar (aD n 2) (l.map aS)))]) (none) := by
 refine al (C := cx [(36, sJ)]) (aq ⟨wS, trivial⟩) (fn := Tryz.f64) rfl rfl rfl rfl fun hw hs => ?_
 obtain ⟨⟨a, rfl⟩, hl⟩ := hp
 simp only [bW]
 have hml : (a.map av).length = a.length := List.length_map ..
 have hs1 : (ar (aD n 2) a).length ≤ a.length := List.length_filter_le ..
 have e0 := @Aj (ar (aD n 2) a)
 have e1 := @Ak (ar (aD n 2) a)
 have e2 := CI (ar (aD n 2) a)
 have hwl : ¬ ((ar (aD n 2) a).length : Int) = 0 → IntKind.i64.wrap ((ar (aD n 2) a).length - 1) = ((ar (aD n 2) a).length - 1 : Nat) := fun h => by rw [qH (by omega)]; omega
 repeat' ((conv => whnf); first | apply aj | (apply aw <;> intro h) | with_reducible apply kG)
 all_goals try conv => whnf
 all_goals try (refine ae.mk ?_; try dsimp only)
 all_goals (try simp only [List.length_map, bW] at *)
 all_goals first
  | exact ⟨⟨_, rfl⟩, by omega⟩
  | (have h0 := e0 (by assumption)
     (try rw [if_neg (by assumption)])
     rw [h0.1, h0.2.1]
     (try rw [Bool.and_false])
     refine af.mk [] ?_ <;> (repeat' first | trivial)
     done)
  | (rw [hwl (by assumption)]; omega)
  | (rw [if_pos (by assumption), decide_eq_false (fun q => q (by assumption))]
     refine af.mk [] ?_
     done)
  | ((try rw [if_neg (by assumption)])
     (try rw [decide_eq_true (by assumption), Bool.true_and])
     rw [e1 (by assumption), ← e2]
     have h1 := hwl (by assumption)
     refine af.mk [] ?_ <;> (repeat' first | trivial | apply ax | apply dn | apply cJ | apply bE)
     all_goals (rw [h1, Int.toNat_natCast])
     done)
def nr : Sm := fun args σ => match args, σ with
 | [.buf 0, .int .i64 n], [.buf 4 0 l] => some ((∃ a : List Pf, l = a.map av) ∧ l.length ≤ 1000000, .tuple [.str (aQ (ar (aD n 2) (l.map aS))).text, .bool (cy (ar (aD n 2) (l.map aS)))], none)
 | _, _ => none
theorem pX : au 64 nr := by
 intro args sg pre x r he hp
 unfold nr at he
 split at he <;> cases he
 . exact JX (hp := hp) ..
theorem JT (l : List V) (n : Int) (hp : (∃ a : List Pf, l = a.map av) ∧ l.length ≤ 1000000) : OK 15 ([.buf 0, .int .i64 n]) ([.buf 4 0 l]) (.buf 1) (some [.buf 4 0 l, .buf 1 0 (cu (ar (aD n 2) (l.map aS))), .dead]) := by
 refine al (C := cx [(36, sJ)]) (aq ⟨wS, trivial⟩) (fn := Tryz.f15) rfl rfl rfl rfl fun hw hs => ?_
 obtain ⟨⟨a, rfl⟩, hl⟩ := hp
 simp only [bW]
 have hml : (a.map av).length = a.length := List.length_map ..
 have hs1 : (ar (aD n 2) a).length ≤ a.length := List.length_filter_le ..
 have hti : ∀ i, (cu ((ar (aD n 2) a).take i)).length ≤ a.length := fun i => by
  unfold cu; rw [List.length_map, List.length_take]; exact Nat.le_trans (Nat.min_le_right _ _) hs1
 have hts : ∀ i, i < (ar (aD n 2) a).length → cu ((ar (aD n 2) a).take (i + 1)) = cu ((ar (aD n 2) a).take i) ++ [.str ((ar (aD n 2) a).getD i default).text] := fun i h => by
  rw [List.take_add_one, List.getD_eq_getElem?_getD, List.getElem?_eq_getElem h]
  unfold cu
  rw [List.map_append]; rfl
 repeat' ((conv => whnf); apply aj)
 all_goals try conv => whnf
 all_goals try (refine ae.mk ?_; try dsimp only)
 . exact ⟨⟨_, rfl⟩, by omega⟩
 simp only [bW]
 generalize ar (aD n 2) a = b at *
 have hmb : (b.map av).length = b.length := List.length_map ..
 refine aT.mk Nat (fun i => i ≤ b.length) (fun i => ⟨26, [(5, .buf 1), (6, .buf 2), (7, .int .i64 i)], [.buf 4 0 (a.map av), .buf 4 0 (b.map av), .buf 1 0 (cu (b.take i))], [1, 2, 3]⟩) (fun i => b.length - i) [.tm 6 1, .swap 2 3] 0 (Nat.zero_le _) ?_ (fun i hi _ _ => ?_)
 . refine Go.VG.Sub.mk rfl ?_ ?_ ?_ ?_ <;> (repeat' first | trivial)
 have hti := hti i
 have hts := hts i
 repeat' ((conv => whnf); first | apply aj | (apply aw <;> intro h) | with_reducible apply c9)
 all_goals try conv => whnf
 all_goals try (refine ae.mk ?_; try dsimp only)
 all_goals (try simp only [dc] at *)
 all_goals first | refine stay ?_ | omega | (simp only [cL]; omega) | skip
 all_goals (try simp only [List.length_map] at *)
 . refine ⟨[], i + 1, by omega, ?_, by omega⟩
   refine Go.VG.Sub.mk rfl ?_ ?_ ?_ ?_ <;> (repeat' first | trivial | apply ax | apply aH | apply bo)
   . (simp (discharger := omega) only [wR]; omega)
   . rw [hts (by omega)]
 . obtain rfl : i = b.length := by omega
   rw [List.take_length]
   refine af.mk [.swap 1 2] ?_ <;> (repeat' first | trivial)
def jv : Sm := fun args σ => match args, σ with
 | [.buf 0, .int .i64 n], [.buf 4 0 l] => some ((∃ a : List Pf, l = a.map av) ∧ l.length ≤ 1000000, .buf 1, some [.buf 4 0 l, .buf 1 0 (cu (ar (aD n 2) (l.map aS))), .dead])
 | _, _ => none
theorem kL : au 15 jv := by
 intro args sg pre x r he hp
 unfold jv at he
 split at he <;> cases he
 . exact JT (hp := hp) ..
theorem JU (l : List V) (n : Int) (hp : (∃ a : List Pf, l = a.map av ∧ bZ a) ∧ l.length ≤ 10000) : OK 63 ([.buf 0, .int .i64 n]) ([.buf 4 0 l]) (.tuple [.str (bX (ar (aD n 2) (l.map aS))), .bool (cy (ar (aD n 2) (l.map aS)))]) (none) := by
 refine al (C := cx [(15, jv)]) (aq ⟨kL, trivial⟩) (fn := Tryz.f63) rfl rfl rfl rfl fun hw hs => ?_
 obtain ⟨⟨a, rfl, ha⟩, hl⟩ := hp
 simp only [bW]
 have hml : (a.map av).length = a.length := List.length_map ..
 have hs1 : (ar (aD n 2) a).length ≤ a.length := List.length_filter_le ..
 have hsh : bZ (ar (aD n 2) a) := fun f hf => ha f (List.mem_filter.1 hf).1
 have hjl : ∀ (b : List Pf) i, bZ b → b.length ≤ a.length → (bX (b.take i)).length ≤ 1000000000 := fun b i hb hl2 => by
  have h1 := join_le (l := b.take i) fun f hf => hb f (List.mem_of_mem_take hf)
  rw [List.length_take] at h1
  omega
 have hjs : ∀ (b : List Pf) i, i < b.length → bX (b.take (i + 1)) = bX (b.take i) ++ (b.getD i default).text := fun b i h => by
  rw [List.take_add_one, List.getD_eq_getElem?_getD, List.getElem?_eq_getElem h]
  exact iO ..
 have han := Ai (ar (aD n 2) a)
 repeat' ((conv => whnf); apply aj)
 all_goals try conv => whnf
 all_goals try (refine ae.mk ?_; try dsimp only)
 . exact ⟨⟨_, rfl⟩, by omega⟩
 simp only [bW]
 generalize ar (aD n 2) a = b at *
 have hmb : (cu b).length = b.length := List.length_map ..
 refine aT.mk Nat (fun i => i ≤ b.length) (fun i => ⟨28, [(6, .buf 1), (7, .str (bX (b.take i))), (8, .int .i64 i)], [.buf 4 0 (a.map av), .buf 1 0 (cu b)], []⟩) (fun i => b.length - i) [] 0 (Nat.zero_le _) ?_ (fun i hi _ _ => ?_)
 . refine Go.VG.Sub.mk rfl ?_ ?_ ?_ ?_ <;> (repeat' first | trivial)
 have hj1 := hjl b i hsh (by omega)
 have hjs := hjs b i
 have hs2 : i < b.length → (b.getD i default).text.length ≤ 100000 := fun h => qw hsh h
 repeat' ((conv => whnf); first | apply aj | (apply aw <;> intro h) | with_reducible apply c9)
 all_goals try conv => whnf
 all_goals try (refine ae.mk ?_; try dsimp only)
 all_goals (try simp only [dc] at *)
 all_goals first | refine stay ?_ | omega | skip
 all_goals (try simp only [List.length_map] at *)
 all_goals first
  | (have := hs2 (by omega)
     omega)
  | (refine ⟨[], i + 1, by omega, ?_, by omega⟩
     refine Go.VG.Sub.mk rfl ?_ ?_ ?_ ?_ <;> (repeat' first | trivial | apply ax | apply dn | apply aH)
     all_goals first
      | (rw [hjs (by omega)]; done)
      | ((simp (discharger := omega) only [wR]; omega); done)
     done)
  | (show af _ _ _ _ _ _
     obtain rfl : i = b.length := by omega
     rw [han, List.take_length]
     refine af.mk [] ?_ <;> (repeat' first | trivial | apply ax | apply cR | apply cJ | apply bE)
     exact decide_eq_decide.2 (by omega)
     done)
def nq : Sm := fun args σ => match args, σ with
 | [.buf 0, .int .i64 n], [.buf 4 0 l] => some ((∃ a : List Pf, l = a.map av ∧ bZ a) ∧ l.length ≤ 10000, .tuple [.str (bX (ar (aD n 2) (l.map aS))), .bool (cy (ar (aD n 2) (l.map aS)))], none)
 | _, _ => none
theorem pW : au 63 nq := by
 intro args sg pre x r he hp
 unfold nq at he
 split at he <;> cases he
 . exact JU (hp := hp) ..
abbrev Ct : Type := List (Tg × Int)
def rh : Ct → Tg → Option (Nat × Int)
 | [], _ => none
 | e :: es, x => if e.1 = x then some (0, e.2) else match rh es x with
   | some (j, q) => some (j + 1, q)
   | none => none
theorem rk : ∀ {es : Ct} {k : Tg} {j : Nat} {q : Int}, rh es k = some (j, q) → es[j]? = some (k, q)
 | [], _, _, _, h => by cases h
 | e :: es, k, j, q, h => by
   rw [rh] at h
   split at h
   . rename_i h1; cases h; subst h1; rfl
   . split at h
     . rename_i j' q' h2
       cases h
       show es[j']? = _
       exact rk h2
     . cases h
theorem tI : ∀ {es : Ct} {k : Tg}, rh es k = none → ∀ e ∈ es, e.1 ≠ k
 | [], _, _ => fun _ h => by cases h
 | e :: es, k, h => by
   rw [rh] at h
   split at h
   . cases h
   . rename_i h1
     split at h
     . cases h
     . rename_i h2
       intro e' he
       rcases List.mem_cons.1 he with rfl | he
       . exact h1
       . exact tI h2 e' he
end Go.Proofs.YtdjolnjlhbfnmaaGreatDoor
