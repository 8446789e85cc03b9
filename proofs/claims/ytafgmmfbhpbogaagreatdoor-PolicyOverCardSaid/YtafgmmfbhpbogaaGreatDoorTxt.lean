/-
  A value's JSON and text.
-/
import Derived.Test.YtafgmmfbhpbogaaGreatDoorLeft
import Derived.Test.YtafgmmfbhpbogaaGreatDoorTxt0
set_option linter.unusedSimpArgs false
set_option linter.unusedVariables false
set_option maxHeartbeats 4000000
namespace Go.Proofs.YtafgmmfbhpbogaaGreatDoor
open Go Go.VG
set_option maxRecDepth 100000
/-! a value's JSON and text -/
def truth (n : Int) : List UInt8 := if n = 0 then [102, 97, 108, 115, 101] else [116, 114, 117, 101]
def dbl (b : Int) : List UInt8 := [48, 120] ++ hexText (be 8 b.toNat)
mutual
def json : Val → List UInt8
  | .mk k t n b l m => if k = 0 then [110, 117, 108, 108] else if k = 1 then quote t else if k = 2 then truth n else if k = 3 then decI n else if k = 4 then quote (dbl b) else if k = 5 then quote (hexText t)
    else if k = 6 then 91 :: (jsonL l ++ [93]) else if k = 7 then 123 :: (jsonM m ++ [125]) else []
def jsonL : List Val → List UInt8
  | [] => []
  | v :: r => json v ++ jsonL' r
def jsonL' : List Val → List UInt8
  | [] => []
  | v :: r => 44 :: (json v ++ jsonL' r)
def jsonA : Att → List UInt8
  | .mk k v => quote k ++ 58 :: json v
def jsonM : List Att → List UInt8
  | [] => []
  | a :: r => jsonA a ++ jsonM' r
def jsonM' : List Att → List UInt8
  | [] => []
  | a :: r => 44 :: (jsonA a ++ jsonM' r)
end
theorem json_eq (v : Val) : json v = if v.kind = 0 then [110, 117, 108, 108] else if v.kind = 1 then quote v.text else if v.kind = 2 then truth v.num else if v.kind = 3 then decI v.num else if v.kind = 4 then quote (dbl v.bits)
    else if v.kind = 5 then quote (hexText v.text) else if v.kind = 6 then 91 :: (jsonL v.list ++ [93]) else if v.kind = 7 then 123 :: (jsonM v.map ++ [125]) else [] := by
  cases v; simp only [json, Val.kind, Val.text, Val.num, Val.bits, Val.list, Val.map]; rfl
theorem jsonA_eq (a : Att) : jsonA a = quote a.key ++ 58 :: json a.value := by cases a; simp only [jsonA, Att.key, Att.value]
theorem jsonL'_append : ∀ (l m : List Val), jsonL' (l ++ m) = jsonL' l ++ jsonL' m
  | [], _ => by simp [jsonL']
  | v :: r, m => by simp [jsonL', jsonL'_append r m]
theorem jsonM'_append : ∀ (l m : List Att), jsonM' (l ++ m) = jsonM' l ++ jsonM' m
  | [], _ => by simp [jsonM']
  | v :: r, m => by simp [jsonM', jsonM'_append r m]
theorem take_nextV {α : Type} [Inhabited α] {s : List α} {i : Nat} (h : i < s.length) : s.take (i + 1) = s.take i ++ [s.getD i default] := by
  rw [List.take_add_one, List.getD_eq_getElem?_getD, List.getElem?_eq_getElem h]; rfl
theorem jsonL_next {l : List Val} {i : Nat} (h : i < l.length) : jsonL (l.take (i + 1)) = jsonL (l.take i) ++ ((if i = 0 then [] else [44]) ++ json (l.getD i default)) := by
  cases l with
  | nil => simp at h
  | cons v r =>
    cases i with
    | zero => simp [jsonL, jsonL']
    | succ i =>
      rw [show (v :: r).take (i + 1 + 1) = v :: r.take (i + 1) from rfl, show (v :: r).take (i + 1) = v :: r.take i from rfl, jsonL, jsonL, take_nextV (by simpa using h), jsonL'_append]
      simp [jsonL']
theorem jsonM_next {l : List Att} {i : Nat} (h : i < l.length) : jsonM (l.take (i + 1)) = jsonM (l.take i) ++ ((if i = 0 then [] else [44]) ++ jsonA (l.getD i default)) := by
  cases l with
  | nil => simp at h
  | cons v r =>
    cases i with
    | zero => simp [jsonM, jsonM']
    | succ i =>
      rw [show (v :: r).take (i + 1 + 1) = v :: r.take (i + 1) from rfl, show (v :: r).take (i + 1) = v :: r.take i from rfl, jsonM, jsonM, take_nextV (by simpa using h), jsonM'_append]
      simp [jsonM']
def simple (v : Val) : List UInt8 := if v.kind = 1 then v.text else if v.kind = 2 then truth v.num else if v.kind = 3 then decI v.num else if v.kind = 4 then dbl v.bits else if v.kind = 5 then hexText v.text else []
def text (v : Val) : List UInt8 := if v.kind = 6 ∨ v.kind = 7 then json v else simple v
/-! how large a value is -/
mutual
def Val.size : Val → Nat
  | .mk _ t _ _ l m => 1 + t.length + sizeL l + sizeM m
def sizeL : List Val → Nat
  | [] => 0
  | v :: r => v.size + sizeL r
def Att.size : Att → Nat
  | .mk k v => k.length + v.size
def sizeM : List Att → Nat
  | [] => 0
  | a :: r => a.size + sizeM r
end
theorem size_eq (v : Val) : v.size = 1 + v.text.length + sizeL v.list + sizeM v.map := by cases v; simp [Val.size, Val.text, Val.list, Val.map]
theorem sizeA_eq (a : Att) : a.size = a.key.length + a.value.size := by cases a; simp [Att.size, Att.key, Att.value]
theorem sizeL_get {l : List Val} {i : Nat} (h : i < l.length) : (l.getD i default).size ≤ sizeL l := by
  induction l generalizing i with
  | nil => simp at h
  | cons v r ih =>
    cases i with
    | zero => simp [sizeL]
    | succ i => have := ih (i := i) (by simpa using h); simp only [sizeL, List.getD_cons_succ]; omega
theorem sizeM_get {l : List Att} {i : Nat} (h : i < l.length) : (l.getD i default).key.length + (l.getD i default).value.size ≤ sizeM l := by
  induction l generalizing i with
  | nil => simp at h
  | cons v r ih =>
    cases i with
    | zero => simp [sizeM, sizeA_eq]
    | succ i => have := ih (i := i) (by simpa using h); simp only [sizeM, List.getD_cons_succ]; omega
mutual
theorem left_size : ∀ (v : Val) (n : Int), 0 ≤ left v n → (v.size : Int) + left v n ≤ n
  | .mk k t m b l a, n, h => by
    simp only [left] at h ⊢
    split at h
    · omega
    · rename_i hh
      rw [if_neg hh]
      have h1 : 0 ≤ leftL l (n - 1 - t.length) := by
        by_cases hc : leftL l (n - 1 - t.length) < 0
        · rw [leftM_neg _ _ hc] at h; omega
        · omega
      have h2 := left_sizeL l _ h1
      have h3 := left_sizeM a _ h
      simp only [Val.size]; omega
theorem left_sizeL : ∀ (l : List Val) (n : Int), 0 ≤ leftL l n → (sizeL l : Int) + leftL l n ≤ n
  | [], n, h => by simp [leftL, sizeL]
  | v :: r, n, h => by
    simp only [leftL] at h ⊢
    split at h
    · omega
    · rename_i hh
      rw [if_neg hh]
      have h1 : 0 ≤ left v n := by
        by_cases hc : left v n < 0
        · rw [leftL_neg _ _ hc] at h; omega
        · omega
      have h2 := left_size v n h1
      have h3 := left_sizeL r _ h
      simp only [sizeL]; omega
theorem left_sizeA : ∀ (a : Att) (n : Int), 0 ≤ leftA a n → (a.size : Int) + leftA a n ≤ n
  | .mk k v, n, h => by
    simp only [leftA] at h ⊢
    split at h
    · omega
    · rename_i hh
      rw [if_neg hh]
      have := left_size v _ h
      simp only [Att.size]; omega
theorem left_sizeM : ∀ (l : List Att) (n : Int), 0 ≤ leftM l n → (sizeM l : Int) + leftM l n ≤ n
  | [], n, h => by simp [leftM, sizeM]
  | v :: r, n, h => by
    simp only [leftM] at h ⊢
    split at h
    · omega
    · rename_i hh
      rw [if_neg hh]
      have h1 : 0 ≤ leftA v n := by
        by_cases hc : leftA v n < 0
        · rw [leftM_neg _ _ hc] at h; omega
        · omega
      have h2 := left_sizeA v n h1
      have h3 := left_sizeM r _ h
      simp only [sizeM]; omega
end
/-! how long its JSON is; whole numbers have at most 21 digits -/
mutual
def Val.ok : Val → Prop
  | .mk k _ n b l m => (0 ≤ k ∧ k ≤ 255) ∧ (-9223372036854775808 ≤ n ∧ n ≤ 9223372036854775807) ∧ (0 ≤ b ∧ b ≤ 18446744073709551615) ∧ okL l ∧ okM m
def okL : List Val → Prop
  | [] => True
  | v :: r => v.ok ∧ okL r
def Att.ok : Att → Prop
  | .mk _ v => v.ok
def okM : List Att → Prop
  | [] => True
  | a :: r => a.ok ∧ okM r
end
mutual
theorem ok_of_wf : ∀ v : Val, (encV v).wf → v.ok
  | .mk k t n b l m, h => by
    simp only [encV, V.wf, V.wfL] at h
    obtain ⟨h1, h2, h3, h4, ⟨_, h5⟩, ⟨_, h6⟩, _⟩ := h
    simp only [Val.ok]
    exact ⟨h1, h3, h4, okL_of_wf l h5, okM_of_wf m h6⟩
theorem okL_of_wf : ∀ l : List Val, V.wfL (encL l) → okL l
  | [], _ => by simp [okL]
  | v :: r, h => by
    simp only [encL, V.wfL] at h
    simp only [okL]
    exact ⟨ok_of_wf v h.1, okL_of_wf r h.2⟩
theorem okA_of_wf : ∀ a : Att, (encA a).wf → a.ok
  | .mk s (.mk k t n b l m), h => by
    simp only [encA, encV, V.cells, V.wf, V.wfL] at h
    obtain ⟨_, h1, h2, h3, h4, ⟨_, h5⟩, ⟨_, h6⟩, _⟩ := h
    simp only [Att.ok, Val.ok]
    exact ⟨h1, h3, h4, okL_of_wf l h5, okM_of_wf m h6⟩
theorem okM_of_wf : ∀ l : List Att, V.wfL (encM l) → okM l
  | [], _ => by simp [okM]
  | v :: r, h => by
    simp only [encM, V.wfL] at h
    simp only [okM]
    exact ⟨okA_of_wf v h.1, okM_of_wf r h.2⟩
end
theorem dbl_len (b : Int) : (dbl b).length = 18 := by simp [dbl]
theorem truth_len (n : Int) : (truth n).length ≤ 5 := by unfold truth; split <;> simp
mutual
theorem json_len : ∀ v : Val, v.ok → (json v).length + 8 ≤ 120 * v.size
  | .mk k t n b l m, h => by
    simp only [Val.ok] at h
    obtain ⟨_, h2, h3, h4, h5⟩ := h
    have e1 := quote_len t
    have e2 := truth_len n
    have e3 := decI_len h2.1 h2.2
    have e4 := quote_len (dbl b)
    have e5 := dbl_len b
    have e6 := quote_len (hexText t)
    have e7 := hexText_length t
    have e8 := jsonL_len l h4
    have e9 := jsonM_len m h5
    simp only [json, Val.size]
    repeat' split
    all_goals (first | omega | (simp only [List.length_cons, List.length_append, List.length_nil]; omega))
theorem jsonL_len : ∀ l : List Val, okL l → (jsonL l).length ≤ 120 * sizeL l
  | [], _ => by simp [jsonL]
  | v :: r, h => by
    simp only [okL] at h
    have e1 := json_len v h.1
    have e2 := jsonL'_len r h.2
    simp only [jsonL, sizeL, List.length_append]; omega
theorem jsonL'_len : ∀ l : List Val, okL l → (jsonL' l).length ≤ 120 * sizeL l
  | [], _ => by simp [jsonL']
  | v :: r, h => by
    simp only [okL] at h
    have e1 := json_len v h.1
    have e2 := jsonL'_len r h.2
    have e3 := size_eq v
    simp only [jsonL', sizeL, List.length_append, List.length_cons]; omega
theorem jsonA_len : ∀ a : Att, a.ok → (jsonA a).length + 4 ≤ 120 * a.size
  | .mk k v, h => by
    simp only [Att.ok] at h
    have e1 := quote_len k
    have e2 := json_len v h
    have e3 := size_eq v
    simp only [jsonA, Att.size, List.length_append, List.length_cons]; omega
theorem jsonM_len : ∀ l : List Att, okM l → (jsonM l).length ≤ 120 * sizeM l
  | [], _ => by simp [jsonM]
  | v :: r, h => by
    simp only [okM] at h
    have e1 := jsonA_len v h.1
    have e2 := jsonM'_len r h.2
    simp only [jsonM, sizeM, List.length_append]; omega
theorem jsonM'_len : ∀ l : List Att, okM l → (jsonM' l).length ≤ 120 * sizeM l
  | [], _ => by simp [jsonM']
  | v :: r, h => by
    simp only [okM] at h
    have e1 := jsonA_len v h.1
    have e2 := jsonM'_len r h.2
    simp only [jsonM', sizeM, List.length_append, List.length_cons]; omega
end
end Go.Proofs.YtafgmmfbhpbogaaGreatDoor
