/-
  Which limit of a policy a batch is beyond (plain law).
-/
import Derived.Test.YtafgmmfbhpbogaaGreatDoorBat
import Derived.Test.YtafgmmfbhpbogaaGreatDoorTxt
set_option linter.unusedSimpArgs false
set_option linter.unusedVariables false
set_option maxHeartbeats 4000000
namespace Go.Proofs.YtafgmmfbhpbogaaGreatDoor
open Go Go.VG
set_option maxRecDepth 100000
def spansC : List Sc → List Sp
  | [] => []
  | c :: l => c.spans ++ spansC l
def spansB : List Rs → List Sp
  | [] => []
  | r :: l => spansC r.scopes ++ spansB l
def lsS (s : Sp) : List (List Att) := s.attrs :: (s.evs.map (·.attrs) ++ s.lks.map (·.attrs))
def lsB (b : List Rs) : List (List Att) := b.map (·.attrs) ++ (spansB b).flatMap lsS
structure Po where
  (inp txt res spn att : Int)
def tooMany (p : Po) (L : List (List Att)) : Bool := L.any fun l => decide ((l.length : Int) > p.att)
def tooLong (p : Po) (l : List Att) : Bool := l.any fun a => decide (((text a.value).length : Int) > p.txt)
def overC (p : Po) (b : List Rs) : Int :=
  if (b.length : Int) > p.res ∨ ((spansB b).length : Int) > p.spn then 34
  else if tooMany p (lsB b) = true then 34
  else if (lsB b).any (tooLong p) = true then 35 else 0
/-- the document's way: the longest list, and the longest text -/
def longT (l : List Att) (t : Int) : Int := l.foldl (fun t a => if (text a.value).length > t then ((text a.value).length : Int) else t) t
def longN (l : List Att) (n : Int) : Int := if (l.length : Int) > n then l.length else n
def longL (L : List (List Att)) (x : Int × Int) : Int × Int := L.foldl (fun x l => (longN l x.1, longT l x.2)) x
theorem longL_app (L M : List (List Att)) (x : Int × Int) : longL (L ++ M) x = longL M (longL L x) := List.foldl_append
theorem longT_iff : ∀ (l : List Att) (t k : Int), longT l t > k ↔ t > k ∨ ∃ a ∈ l, ((text a.value).length : Int) > k
  | [], t, k => by simp [longT]
  | a :: l, t, k => by
    have h := longT_iff l (if (text a.value).length > t then ((text a.value).length : Int) else t) k
    show longT l _ > k ↔ _
    rw [h]
    constructor
    · rintro (q | ⟨x, hx, q⟩)
      · split at q
        · exact .inr ⟨a, List.mem_cons_self, q⟩
        · exact .inl q
      · exact .inr ⟨x, List.mem_cons_of_mem _ hx, q⟩
    · rintro (q | ⟨x, hx, q⟩)
      · left; split <;> omega
      · rcases List.mem_cons.1 hx with rfl | hx
        · left; split <;> omega
        · exact .inr ⟨x, hx, q⟩
theorem longL_iff : ∀ (L : List (List Att)) (n t k : Int), ((longL L (n, t)).1 > k ↔ n > k ∨ ∃ l ∈ L, (l.length : Int) > k) ∧ ((longL L (n, t)).2 > k ↔ t > k ∨ ∃ l ∈ L, ∃ a ∈ l, ((text a.value).length : Int) > k)
  | [], n, t, k => by simp [longL]
  | l :: L, n, t, k => by
    obtain ⟨h1, h2⟩ := longL_iff L (longN l n) (longT l t) k
    have e : longL (l :: L) (n, t) = longL L (longN l n, longT l t) := rfl
    rw [e, h1, h2, longT_iff]
    constructor
    · constructor
      · rintro (q | ⟨x, hx, q⟩)
        · unfold longN at q; split at q
          · exact .inr ⟨l, List.mem_cons_self, q⟩
          · exact .inl q
        · exact .inr ⟨x, List.mem_cons_of_mem _ hx, q⟩
      · rintro (q | ⟨x, hx, q⟩)
        · left; unfold longN; split <;> omega
        · rcases List.mem_cons.1 hx with rfl | hx
          · left; unfold longN; split <;> omega
          · exact .inr ⟨x, hx, q⟩
    · constructor
      · rintro ((q | ⟨a, ha, q⟩) | ⟨x, hx, q⟩)
        · exact .inl q
        · exact .inr ⟨l, List.mem_cons_self, a, ha, q⟩
        · exact .inr ⟨x, List.mem_cons_of_mem _ hx, q⟩
      · rintro (q | ⟨x, hx, a, ha, q⟩)
        · exact .inl (.inl q)
        · rcases List.mem_cons.1 hx with rfl | hx
          · exact .inl (.inr ⟨a, ha, q⟩)
          · exact .inr ⟨x, hx, a, ha, q⟩
def dOver (p : Po) (b : List Rs) : Int :=
  if (b.length : Int) > p.res ∨ ((spansB b).length : Int) > p.spn ∨ (b.length > 0 ∧ (longL (lsB b) (0, -1)).1 > p.att) then 34
  else if (longL (lsB b) (0, -1)).2 ≥ 0 ∧ (longL (lsB b) (0, -1)).2 > p.txt then 35 else 0
theorem dOver_eq (p : Po) (b : List Rs) : dOver p b = overC p b := by
  have hm : (b.length > 0 ∧ (longL (lsB b) (0, -1)).1 > p.att) ↔ tooMany p (lsB b) = true := by
    rw [(longL_iff (lsB b) 0 (-1) p.att).1]
    unfold tooMany
    simp only [List.any_eq_true, decide_eq_true_iff]
    constructor
    · rintro ⟨h, q | q⟩
      · cases b with
        | nil => simp at h
        | cons r b => exact ⟨r.attrs, List.mem_append_left _ List.mem_cons_self, by omega⟩
      · exact q
    · rintro ⟨l, hl, q⟩
      refine ⟨?_, .inr ⟨l, hl, q⟩⟩
      cases b with
      | nil => simp [lsB, spansB] at hl
      | cons r b => simp
  have ht : ((longL (lsB b) (0, -1)).2 ≥ 0 ∧ (longL (lsB b) (0, -1)).2 > p.txt) ↔ (lsB b).any (tooLong p) = true := by
    have h1 := (longL_iff (lsB b) 0 (-1) p.txt).2
    have h2 := (longL_iff (lsB b) 0 (-1) (-1)).2
    have h3 := (longL_iff (lsB b) 0 (-1) ((longL (lsB b) (0, -1)).2 - 1)).2
    unfold tooLong
    simp only [List.any_eq_true, decide_eq_true_iff]
    constructor
    · rintro ⟨q1, q2⟩
      rcases h3.1 (by omega) with q | ⟨l, hl, a, ha, q⟩
      · omega
      · exact ⟨l, hl, a, ha, by omega⟩
    · rintro ⟨l, hl, a, ha, q⟩
      have e1 := h1.2 (.inr ⟨l, hl, a, ha, q⟩)
      have e2 := h2.2 (.inr ⟨l, hl, a, ha, by omega⟩)
      omega
  unfold dOver overC
  by_cases c1 : (b.length : Int) > p.res ∨ ((spansB b).length : Int) > p.spn
  · rw [if_pos c1, if_pos (c1.elim .inl fun h => .inr (.inl h))]
  rw [if_neg c1]
  by_cases c2 : tooMany p (lsB b) = true
  · rw [if_pos c2, if_pos (.inr (.inr (hm.2 c2)))]
  rw [if_neg c2, if_neg (fun q => q.elim (fun h => c1 (.inl h)) fun q => q.elim (fun h => c1 (.inr h)) fun h => c2 (hm.1 h))]
  by_cases c3 : (lsB b).any (tooLong p) = true
  · rw [if_pos c3, if_pos (ht.2 c3)]
  · rw [if_neg c3, if_neg (fun q => c3 (ht.1 q))]
/-! what is left says how much there is -/
theorem leftE_ok : ∀ (l : List Ev) (n : Int), 0 ≤ leftE l n → (l.length : Int) + leftE l n ≤ n ∧ ∀ e ∈ l, (e.name.length : Int) ≤ n ∧ (sizeM e.attrs : Int) ≤ n
  | [], n, h => by simp [leftE]
  | e :: r, n, h => by
    rw [leftE] at h ⊢
    split at h
    · omega
    rename_i h0
    rw [if_neg h0]
    split at h
    · omega
    rename_i h1
    rw [if_neg h1]
    have hr := leftE_ok r _ h
    have hp : 0 ≤ leftM e.attrs (n - 1 - e.name.length) := by omega
    have hs := left_sizeM e.attrs _ hp
    refine ⟨by rw [List.length_cons]; omega, fun x hx => ?_⟩
    rcases List.mem_cons.1 hx with rfl | hx
    · omega
    · have := hr.2 x hx; omega
theorem leftK_ok : ∀ (l : List Lk) (n : Int), 0 ≤ leftK l n → (l.length : Int) + leftK l n ≤ n ∧ ∀ e ∈ l, (e.state.length : Int) ≤ n ∧ (sizeM e.attrs : Int) ≤ n
  | [], n, h => by simp [leftK]
  | e :: r, n, h => by
    rw [leftK] at h ⊢
    split at h
    · omega
    rename_i h0
    rw [if_neg h0]
    split at h
    · omega
    rename_i h1
    rw [if_neg h1]
    have hr := leftK_ok r _ h
    have hp : 0 ≤ leftM e.attrs (n - 1 - e.state.length) := by omega
    have hs := left_sizeM e.attrs _ hp
    refine ⟨by rw [List.length_cons]; omega, fun x hx => ?_⟩
    rcases List.mem_cons.1 hx with rfl | hx
    · omega
    · have := hr.2 x hx; omega
structure SpP (M : Int) (s : Sp) : Prop where
  e : (s.evs.length : Int) ≤ M
  k : (s.lks.length : Int) ≤ M
  t : (s.state.length : Int) ≤ M ∧ (s.name.length : Int) ≤ M ∧ (s.note.length : Int) ≤ M
  eo : ∀ e ∈ s.evs, (e.name.length : Int) ≤ M
  ko : ∀ e ∈ s.lks, (e.state.length : Int) ≤ M
  l : ∀ l ∈ lsS s, (sizeM l : Int) ≤ M
theorem leftS_ok {M : Int} (s : Sp) (n : Int) (hn : n ≤ M) (h : 0 ≤ leftS s n) : ((lsS s).length : Int) + leftS s n ≤ n ∧ SpP M s := by
  unfold leftS at h ⊢
  by_cases h0 : n < 0 ∨ (s.state.length : Int) > n ∨ (s.name.length : Int) > n ∨ (s.note.length : Int) > n
  · rw [if_pos h0] at h; omega
  rw [if_neg h0] at h ⊢
  obtain ⟨a1, a2⟩ := leftK_ok _ _ h
  have hb : 0 ≤ leftE s.evs (leftM s.attrs (n - 1 - s.state.length - s.name.length - s.note.length)) := by omega
  obtain ⟨b1, b2⟩ := leftE_ok _ _ hb
  have hc : 0 ≤ leftM s.attrs (n - 1 - s.state.length - s.name.length - s.note.length) := by omega
  have c1 := left_sizeM s.attrs _ hc
  refine ⟨?_, ⟨by omega, by omega, ⟨by omega, by omega, by omega⟩, fun e he => by have := b2 e he; omega, fun e he => by have := a2 e he; omega, fun l hl => ?_⟩⟩
  · show ((s.attrs :: (s.evs.map (·.attrs) ++ s.lks.map (·.attrs))).length : Int) + _ ≤ n
    rw [List.length_cons, List.length_append, List.length_map, List.length_map]
    omega
  · rcases List.mem_cons.1 hl with rfl | hl
    · omega
    rcases List.mem_append.1 hl with hl | hl
    · obtain ⟨e, he, rfl⟩ := List.mem_map.1 hl
      have := b2 e he; omega
    · obtain ⟨e, he, rfl⟩ := List.mem_map.1 hl
      have := a2 e he; omega
theorem leftSs_ok {M : Int} : ∀ (l : List Sp) (n : Int), n ≤ M → 0 ≤ leftSs l n → ((l.flatMap lsS).length : Int) + leftSs l n ≤ n ∧ ∀ s ∈ l, SpP M s
  | [], n, _, h => by simp [leftSs]
  | s :: r, n, hn, h => by
    rw [leftSs] at h ⊢
    by_cases h0 : n < 0
    · rw [if_pos h0] at h; omega
    rw [if_neg h0] at h ⊢
    by_cases h1 : 0 ≤ leftS s n
    · obtain ⟨a1, a2⟩ := leftS_ok s n hn h1
      obtain ⟨b1, b2⟩ := leftSs_ok (M := M) r _ (by omega) h
      refine ⟨by rw [List.flatMap_cons, List.length_append]; omega, fun x hx => ?_⟩
      rcases List.mem_cons.1 hx with rfl | hx
      · exact a2
      · exact b2 x hx
    · have : leftSs r (leftS s n) = leftS s n := by
        cases r with
        | nil => rfl
        | cons _ _ => rw [leftSs, if_pos (by omega)]
      omega
structure ScP (M : Int) (c : Sc) : Prop where
  t : (c.name.length : Int) ≤ M ∧ (c.version.length : Int) ≤ M
  s : (c.spans.length : Int) ≤ M
theorem flat_len (l : List Sp) : l.length ≤ (l.flatMap lsS).length := by
  induction l with
  | nil => exact Nat.le_refl _
  | cons s l ih =>
    rw [List.flatMap_cons, List.length_append, List.length_cons]
    have : 1 ≤ (lsS s).length := by unfold lsS; rw [List.length_cons]; omega
    omega
theorem leftSc_ok {M : Int} : ∀ (l : List Sc) (n : Int), n ≤ M → 0 ≤ leftSc l n → (l.length : Int) + ((spansC l).flatMap lsS).length + leftSc l n ≤ n ∧ (∀ s ∈ spansC l, SpP M s) ∧ ∀ c ∈ l, ScP M c
  | [], n, _, h => by simp [leftSc, spansC]
  | c :: r, n, hn, h => by
    rw [leftSc] at h ⊢
    by_cases h0 : n < 0
    · rw [if_pos h0] at h; omega
    rw [if_neg h0] at h ⊢
    by_cases h2 : (c.name.length : Int) > n ∨ (c.version.length : Int) > n
    · rw [if_pos h2] at h; omega
    rw [if_neg h2] at h ⊢
    by_cases h1 : 0 ≤ leftSs c.spans (n - 1 - c.name.length - c.version.length)
    · obtain ⟨a1, a2⟩ := leftSs_ok (M := M) c.spans _ (by omega) h1
      obtain ⟨b1, b2, b3⟩ := leftSc_ok (M := M) r _ (by omega) h
      have hf := flat_len c.spans
      refine ⟨by rw [spansC, List.flatMap_append, List.length_append, List.length_cons]; omega, fun x hx => ?_, fun x hx => ?_⟩
      · rcases List.mem_append.1 hx with hx | hx
        · exact a2 x hx
        · exact b2 x hx
      · rcases List.mem_cons.1 hx with rfl | hx
        · exact ⟨⟨by omega, by omega⟩, by omega⟩
        · exact b3 x hx
    · have : leftSc r (leftSs c.spans (n - 1 - c.name.length - c.version.length)) = leftSs c.spans (n - 1 - c.name.length - c.version.length) := by
        cases r with
        | nil => rfl
        | cons _ _ => rw [leftSc, if_pos (by omega)]
      omega
structure RsP (M : Int) (r : Rs) : Prop where
  a : (sizeM r.attrs : Int) ≤ M
  s : (r.scopes.length : Int) ≤ M
  c : ∀ c ∈ r.scopes, ScP M c
theorem leftB_ok {M : Int} : ∀ (b : List Rs) (n : Int), n ≤ M → 0 ≤ leftB b n → (b.length : Int) + ((spansB b).flatMap lsS).length + leftB b n ≤ n ∧ (∀ s ∈ spansB b, SpP M s) ∧ ∀ r ∈ b, RsP M r
  | [], n, _, h => by simp [leftB, spansB]
  | r :: l, n, hn, h => by
    rw [leftB] at h ⊢
    by_cases h0 : n < 0
    · rw [if_pos h0] at h; omega
    rw [if_neg h0] at h ⊢
    by_cases h1 : 0 ≤ leftSc r.scopes (leftM r.attrs (n - 1))
    · have ha : 0 ≤ leftM r.attrs (n - 1) := by
        rcases Int.lt_or_le (leftM r.attrs (n - 1)) 0 with q | q
        · have : leftSc r.scopes (leftM r.attrs (n - 1)) = leftM r.attrs (n - 1) := by
            cases r.scopes with
            | nil => rfl
            | cons _ _ => rw [leftSc, if_pos q]
          omega
        · exact q
      have hs := left_sizeM r.attrs _ ha
      obtain ⟨a1, a2, a3⟩ := leftSc_ok (M := M) r.scopes _ (by omega) h1
      obtain ⟨b1, b2, b3⟩ := leftB_ok (M := M) l _ (by omega) h
      refine ⟨by rw [spansB, List.flatMap_append, List.length_append, List.length_cons]; omega, fun x hx => ?_, fun x hx => ?_⟩
      · rcases List.mem_append.1 hx with hx | hx
        · exact a2 x hx
        · exact b2 x hx
      · rcases List.mem_cons.1 hx with rfl | hx
        · exact ⟨by omega, by omega, a3⟩
        · exact b3 x hx
    · have : leftB l (leftSc r.scopes (leftM r.attrs (n - 1))) = leftSc r.scopes (leftM r.attrs (n - 1)) := by
        cases l with
        | nil => rfl
        | cons _ _ => rw [leftB, if_pos (by omega)]
      omega
end Go.Proofs.YtafgmmfbhpbogaaGreatDoor
