/-
  Values of Protobuf: what is read, as a function.
-/
import Derived.Test.YtkkfdkfopdjomaaDoorPQc
import Derived.Test.YtkkfdkfopdjomaaDoorPSame
set_option linter.unusedSimpArgs false
set_option linter.unusedVariables false
set_option maxHeartbeats 4000000
namespace Go.Proofs.YtkkfdkfopdjomaaDoor
open Go Go.VG
set_option maxRecDepth 100000
theorem take_pass (c : Cu) (n : Int) : (c.takeV n).length + c.p ≤ (c.pass n).p := by
  unfold Cu.takeV
  by_cases h : c.may n = true
  · rw [if_pos h]
    have h2 : c.c = 0 ∧ 0 ≤ n ∧ n ≤ (c.e : Int) - c.p := of_decide_eq_true h
    unfold Cu.pass
    rw [if_neg (fun q => q h2.1), if_neg (by omega), if_neg (by omega)]
    show ((c.s.drop c.p).take n.toNat).length + c.p ≤ c.p + n.toNat
    have := List.length_take_le n.toNat (c.s.drop c.p)
    omega
  · rw [if_neg h, List.length_nil, Nat.zero_add]
    exact pass_adv c n
theorem text_pass (c : Cu) : c.text.1.length + c.p ≤ c.text.2.p := by
  have hv := vr_adv 10 0 0 c
  have hv : c.p ≤ c.vread.2.p := hv
  unfold Cu.text
  dsimp only
  split
  · rw [fail_p]; simpa using hv
  · have := take_pass c.vread.2 c.vread.1
    show (c.vread.2.takeV c.vread.1).length + c.p ≤ (c.vread.2.pass c.vread.1).p
    omega
theorem tag_adv (c : Cu) : c.p ≤ c.tag.2.p := by
  have hv : c.p ≤ c.vread.2.p := vr_adv 10 0 0 c
  unfold Cu.tag
  repeat' split
  · exact hv
  · exact hv
  · rw [fail_p]; exact hv
theorem nxt_text (c : Cu) : c.nxt.text.length + c.p ≤ c.nxtC.p := by
  have h1 := tag_adv c
  have h2 := nxC_adv ⟨c.tag.1.1, c.tag.1.2, 0, []⟩ c.tag.2
  have h2 : c.tag.2.p ≤ c.nxtC.p := h2
  unfold Cu.nxt
  split
  · show 0 + c.p ≤ _; omega
  · unfold nxV
    repeat' split
    all_goals first
      | (show 0 + c.p ≤ _; omega)
      | skip
    rename_i h3 h4 h5 h6
    have e : c.nxtC = c.tag.2.text.2 := by
      unfold Cu.nxtC nxC
      rw [if_neg (by assumption), if_neg (by assumption), if_neg (by assumption), if_pos (by assumption)]
    rw [e]
    have := text_pass c.tag.2
    show c.tag.2.text.1.length + c.p ≤ _
    omega
theorem each_join : ∀ (n : Nat) (c : Cu) (acc : List Pf), c.ok → (joinT (eachGo n c acc).2).length ≤ (joinT acc).length + (c.e - c.p)
  | 0, c, acc, _ => Nat.le_add_right _ _
  | n + 1, c, acc, hc => by
    rw [eachGo]
    split
    · split
      · exact Nat.le_add_right _ _
      · have hk := nxt_ok hc
        have ht := nxt_text c
        have ih := each_join n c.nxtC (acc ++ [c.nxt]) hk.1
        rw [joinT_app, List.length_append, hk.2.2] at ih
        have := hk.1.1
        rw [hk.2.2] at this
        omega
    · exact Nat.le_add_right _ _
theorem join_all (s : List UInt8) : (joinT (aFds s)).length ≤ s.length := by
  unfold aFds
  split
  · have := each_join (Cu.new s).e (.new s) [] ⟨Nat.zero_le _, Nat.le_refl _⟩
    have e : ((Cu.new s).all []).2 = (eachGo (Cu.new s).e (.new s) []).2 := by
      show (eachGo ((Cu.new s).e - 0) (.new s) []).2 = _
      rw [Nat.sub_zero]
    rw [e]
    exact Nat.le_trans this (by show 0 + (s.length - 0) ≤ _; omega)
  · exact Nat.zero_le _
theorem joinT_cons (f : Pf) (l : List Pf) : joinT (f :: l) = f.text ++ joinT l := by simp [joinT]
theorem join_mem : ∀ {l : List Pf} {f : Pf}, f ∈ l → f.text.length ≤ (joinT l).length
  | g :: l, f, h => by
    rw [joinT_cons, List.length_append]
    rcases List.mem_cons.1 h with rfl | h
    · omega
    · have := join_mem h; omega
theorem join_sel (p : Pf → Bool) : ∀ l : List Pf, (joinT (selF p l)).length ≤ (joinT l).length
  | [] => Nat.le_refl _
  | f :: l => by
    have ih := join_sel p l
    unfold selF at ih ⊢
    rw [List.filter_cons, joinT_cons, List.length_append]
    split
    · rw [joinT_cons, List.length_append]; omega
    · omega
theorem last_mem {l : List Pf} (h : l ≠ []) : lastF l ∈ l := by
  have e := List.dropLast_concat_getLast h
  have h2 : lastF l = l.getLast h := by
    conv => lhs; rw [← e]
    exact lastF_app _ _
  rw [h2]
  exact List.getLast_mem h
/-- all that is read of a text is no longer than that -/
structure Fits (s : List UInt8) : Prop where
  j : ∀ p, (joinT (selF p (aFds s))).length ≤ s.length
  t : ∀ p, ∀ f ∈ selF p (aFds s), f.text.length ≤ s.length
  l : (aFds s).length ≤ s.length
  s : ∀ f ∈ aFds s, f.text.length ≤ s.length
theorem fits (s : List UInt8) : Fits s where
  j := fun p => Nat.le_trans (join_sel p _) (join_all s)
  t := fun p f hf => Nat.le_trans (join_mem (List.mem_filter.1 hf).1) (join_all s)
  l := aFds_len s
  s := fun f hf => Nat.le_trans (join_mem hf) (join_all s)
/-! the value of a field, and what is read -/
def T7 : List Tg := [(1, 2), (2, 0), (3, 0), (4, 1), (7, 2), (5, 2), (6, 2)]
def kdF (f : Pf) : Int := if f.wi = 2 ∧ f.no = 1 then 1 else if f.wi = 0 ∧ f.no = 2 then 2 else if f.wi = 0 ∧ f.no = 3 then 3 else if f.wi = 1 ∧ f.no = 4 then 4 else if f.wi = 2 ∧ f.no = 5 then 6 else if f.wi = 2 ∧ f.no = 6 then 7 else if f.wi = 2 ∧ f.no = 7 then 5 else 0
theorem inT7 (f : Pf) : inT T7 f = true ↔ kdF f ≠ 0 := by
  obtain ⟨no, wi, num, text⟩ := f
  unfold kdF inT T7
  simp only [List.mem_cons, Prod.mk.injEq, List.not_mem_nil, or_false, decide_eq_true_eq]
  constructor
  · intro h
    repeat' split
    all_goals omega
  · intro h
    repeat' split at h
    all_goals omega
def vz : Val := .mk 0 [] 0 0 [] []
def oneV (f : Pf) : Val :=
  if kdF f = 2 then .mk 2 [] (IntKind.i64.wrap (if 1 < f.num then 1 else f.num)) 0 [] [] else if kdF f = 3 then .mk 3 [] (IntKind.i64.wrap f.num) 0 [] []
  else if kdF f = 4 then .mk 4 [] 0 f.num [] [] else if kdF f = 5 then .mk 5 f.text 0 0 [] [] else .mk 1 f.text 0 0 [] []
abbrev RV := List UInt8 → Int × Val
def rdB (g6 g7 : RV) (s : List UInt8) : Int × Val :=
  if aFine s ≠ 0 then (aFine s, vz) else if selF (inT T7) (aFds s) = [] then (0, vz)
  else if kdF (lastF (selF (inT T7) (aFds s))) = 6 then g6 (lastF (selF (inT T7) (aFds s))).text
  else if kdF (lastF (selF (inT T7) (aFds s))) = 7 then g7 (lastF (selF (inT T7) (aFds s))).text
  else (0, oneV (lastF (selF (inT T7) (aFds s))))
def rdLs (v : RV) : List (List UInt8) → List Val → Int × List Val
  | [], acc => (0, acc)
  | x :: xs, acc => if (v x).1 ≠ 0 then ((v x).1, []) else rdLs v xs (acc ++ [(v x).2])
def az : Att := .mk [] vz
def rdA (v : RV) (s : List UInt8) : Int × Att :=
  if aFine s ≠ 0 then (aFine s, az) else if (v (joinT (selF (isF 2 2) (aFds s)))).1 ≠ 0 then ((v (joinT (selF (isF 2 2) (aFds s)))).1, az)
  else (0, .mk (lastF (selF (isF 1 2) (aFds s))).text (v (joinT (selF (isF 2 2) (aFds s)))).2)
def rdEs (v : RV) : List (List UInt8) → List Att → Int × List Att
  | [], acc => (0, acc)
  | x :: xs, acc => if (rdA v x).1 ≠ 0 then ((rdA v x).1, []) else rdEs v xs (acc ++ [(rdA v x).2])
def eachT (s : List UInt8) : List (List UInt8) := (selF (isF 1 2) (aFds s)).map Pf.text
def rdL (v : RV) (s : List UInt8) : Int × List Val := if aFine s ≠ 0 then (aFine s, []) else rdLs v (eachT s) []
def rdM (v : RV) (s : List UInt8) : Int × List Att := if aFine s ≠ 0 then (aFine s, []) else rdEs v (eachT s) []
def lsV (r : Int × List Val) : Int × Val := if r.1 ≠ 0 then (r.1, vz) else (0, .mk 6 [] 0 0 r.2 [])
def mpV (r : Int × List Att) : Int × Val := if r.1 ≠ 0 then (r.1, vz) else (0, .mk 7 [] 0 0 [] r.2)
def rdV : Nat → RV
  | 0 => rdB (fun _ => (33, vz)) (fun _ => (33, vz))
  | k + 1 => rdB (fun s => lsV (rdL (rdV k) s)) (fun s => mpV (rdM (rdV k) s))
theorem rdLs_step {v : RV} {L : List (List UInt8)} {acc : List Val} {i : Nat} (h : i < L.length) : rdLs v (L.drop i) acc = if (v (L.getD i default)).1 ≠ 0 then ((v (L.getD i default)).1, []) else rdLs v (L.drop (i + 1)) (acc ++ [(v (L.getD i default)).2]) := by
  rw [List.drop_eq_getElem_cons h, rdLs, List.getD_eq_getElem?_getD, List.getElem?_eq_getElem h]; rfl
theorem rdEs_step {v : RV} {L : List (List UInt8)} {acc : List Att} {i : Nat} (h : i < L.length) : rdEs v (L.drop i) acc = if (rdA v (L.getD i default)).1 ≠ 0 then ((rdA v (L.getD i default)).1, []) else rdEs v (L.drop (i + 1)) (acc ++ [(rdA v (L.getD i default)).2]) := by
  rw [List.drop_eq_getElem_cons h, rdEs, List.getD_eq_getElem?_getD, List.getElem?_eq_getElem h]; rfl
theorem rdLs_z {v : RV} : ∀ {L : List (List UInt8)} {acc : List Val}, (rdLs v L acc).1 ≠ 0 → (rdLs v L acc).2 = []
  | [], acc, h => absurd rfl h
  | x :: L, acc, h => by
    rw [rdLs] at h ⊢
    by_cases q : (v x).1 ≠ 0
    · rw [if_pos q]
    · rw [if_neg q] at h ⊢; exact rdLs_z h
theorem rdEs_z {v : RV} : ∀ {L : List (List UInt8)} {acc : List Att}, (rdEs v L acc).1 ≠ 0 → (rdEs v L acc).2 = []
  | [], acc, h => absurd rfl h
  | x :: L, acc, h => by
    rw [rdEs] at h ⊢
    by_cases q : (rdA v x).1 ≠ 0
    · rw [if_pos q]
    · rw [if_neg q] at h ⊢; exact rdEs_z h
end Go.Proofs.YtkkfdkfopdjomaaDoor
