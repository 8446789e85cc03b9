/-
  A part of the proof.
-/
import Derived.Test.YtipejldppicijaaGreatDoorPText
import Derived.Test.YtipejldppicijaaGreatDoorPUtf
set_option linter.unusedSimpArgs false
set_option linter.unusedVariables false
set_option maxHeartbeats 4000000
namespace Go.Proofs.YtipejldppicijaaGreatDoor
open Go Go.VG
set_option maxRecDepth 100000
theorem EF {l : List aw} {n : Nat} {K : V → Prop} (h1 : a8 (n < l.length)) (h2 : K (ea (l.getD n default))) : dj (bW l) n K := by
 rw [qj]
 exact sQ h1 fun a ha => by rw [List.getD_eq_getElem?_getD, ha] at h2; exact h2
def emp (v : af) : Bool :=
 decide ((v.kind = 1 ∨ v.kind = 5 ∨ v.text = []) ∧ (v.kind = 2 ∨ v.kind = 3 ∨ v.num = 0) ∧ (v.kind = 4 ∨ v.bits = 0) ∧ (v.kind = 6 ∨ v.list.length = 0) ∧ (v.kind = 7 ∨ v.map.length = 0))
set_option maxHeartbeats 4000000 in
theorem f_emp (v : af) (h0 : 0 ≤ v.kind) (h7 : v.kind ≤ 7) : OK 97 [ev v] [] (.bool (emp v)) none := by
 obtain ⟨k, t, n, b, l, m⟩ := v
 simp only [af.kind] at h0 h7
 rcases (show k = 0 ∨ k = 1 ∨ k = 2 ∨ k = 3 ∨ k = 4 ∨ k = 5 ∨ k = 6 ∨ k = 7 by omega) with rfl | rfl | rfl | rfl | rfl | rfl | rfl | rfl
 all_goals refine ai (C := cx []) (aj trivial) (fn := Tryz.f97) rfl rfl rfl rfl fun hw _ => ?_
 all_goals
  repeat' ((conv => whnf); ((first | apply ao | apply iW) <;> intro h))
  all_goals try conv => whnf
  all_goals try (refine a8.mk ?_; try dsimp only)
  all_goals try refine stay ?_
  all_goals
   refine a7.mk [] ?_ <;> (repeat' first | trivial | apply ah | apply ct)
   unfold emp
   simp_all [af.kind, af.text, af.num, af.bits, af.list, af.map]
   try (cases m with
    | nil => rfl
    | cons _ _ => simp; omega)
theorem Bc {v : af} (h : emp v = true) : v.kind = 6 ∨ v.list.length = 0 := by
 unfold emp at h
 exact (of_decide_eq_true h).2.2.2.1
theorem Bd {v : af} (h : emp v = true) : v.kind = 7 ∨ v.map.length = 0 := by
 unfold emp at h
 exact (of_decide_eq_true h).2.2.2.2
attribute [irreducible] emp
def uA : Sm := fun args σ => match args, σ with
 | [x], [] => some (eQ x ∧ 0 ≤ (b8 x).kind ∧ (b8 x).kind ≤ 7, .bool (emp (b8 x)), none)
 | _, _ => none
theorem k_emp : aa 97 uA := by
 intro args sg pre x r he hp
 unfold uA at he
 split at he <;> cases he
 exact (f_emp _ hp.2.1 hp.2.2).args (aC.cons hp.1 aC.nil)
def jV (k : List UInt8) : Int := if k = [] then 9 else if ns k ≠ -1 then 5 else if 64 < k.length then 35 else 0
theorem Dg (k : List UInt8) (h : k.length ≤ 10000000) : OK 45 [.str k] [] (.int .i64 (jV k)) none := by
 refine ai (C := cx [(96, rB)]) (aj ⟨xZ, trivial⟩) (fn := Tryz.f45) rfl rfl rfl rfl fun hw _ => ?_
 repeat' ((conv => whnf); first | apply a9 | apply aQ | ((first | apply ao | apply iW) <;> intro h))
 all_goals try conv => whnf
 all_goals try (refine a8.mk ?_; try dsimp only)
 all_goals first | refine stay ?_ | trivial | skip
 all_goals
  unfold jV
  repeat (first | rw [if_pos (by first | assumption | omega)] | rw [if_neg (by first | assumption | omega)])
  refine a7.mk [] ?_ <;> (repeat' first | trivial)
def uJ : Sm := fun args σ => match args, σ with
 | [.str k], [] => some (k.length ≤ 10000000, .int .i64 (jV k), none)
 | _, _ => none
theorem Fb : aa 45 uJ := by
 intro args sg pre x r he hp
 unfold uJ at he
 split at he <;> cases he
 exact Dg _ hp
def j0 (a b : List UInt8) : Bool := Op.bytesLess a b || a == b
mutual
def fP : af → Int → Int
 | .mk k t n b l m, d =>
   if 7 < k then 7 else if emp (.mk k t n b l m) = false then 3 else if 6 ≤ k ∧ 16 ≤ d then 33 else if k = 1 ∧ ns t ≠ -1 then 5
   else if k = 2 ∧ (n < 0 ∨ 1 < n) then 4 else if gN l (d + 1) ≠ 0 then gN l (d + 1) else fQ m none (d + 1)
def gN : List af → Int → Int
 | [], _ => 0
 | v :: r, d => if fP v d ≠ 0 then fP v d else gN r d
def gb : aw → Option (List UInt8) → Int → Int
 | .mk k v, p, d => if jV k ≠ 0 then jV k else if (p.any fun q => j0 k q) = true then 12 else fP v d
def fQ : List aw → Option (List UInt8) → Int → Int
 | [], _, _ => 0
 | a :: r, p, d => if gb a p d ≠ 0 then gb a p d else fQ r (some a.key) d
end
theorem AV (v : af) (d : Int) : fP v d = if 7 < v.kind then 7 else if emp v = false then 3 else if 6 ≤ v.kind ∧ 16 ≤ d then 33 else if v.kind = 1 ∧ ns v.text ≠ -1 then 5
   else if v.kind = 2 ∧ (v.num < 0 ∨ 1 < v.num) then 4 else if gN v.list (d + 1) ≠ 0 then gN v.list (d + 1) else fQ v.map none (d + 1) := by
 cases v; simp only [fP, af.kind, af.text, af.num, af.list, af.map]; rfl
theorem w9 {l : List af} {i : Nat} (h : i < l.length) (d : Int) : gN (l.drop i) d = if fP (l.getD i default) d ≠ 0 then fP (l.getD i default) d else gN (l.drop (i + 1)) d := by
 rw [List.drop_eq_getElem_cons h, gN, List.getD_eq_getElem?_getD, List.getElem?_eq_getElem h]; rfl
theorem m5 {l : List aw} {i : Nat} (h : i < l.length) (p : Option (List UInt8)) (d : Int) : fQ (l.drop i) p d =
   if gb (l.getD i default) p d ≠ 0 then gb (l.getD i default) p d else fQ (l.drop (i + 1)) (some (l.getD i default).key) d := by
 rw [List.drop_eq_getElem_cons h, fQ, List.getD_eq_getElem?_getD, List.getElem?_eq_getElem h]; rfl
theorem m0 (a : aw) (p : Option (List UInt8)) (d : Int) : gb a p d = if jV a.key ≠ 0 then jV a.key else if (p.any fun q => j0 a.key q) = true then 12 else fP a.value d := by cases a; simp only [gb, aw.key, aw.value]; rfl
def lG (k : Nat) : Sm := fun args σ => match args, σ with
 | [x, .int .i64 d], [] => some (eQ x ∧ (b8 x).nodes < k ∧ (b8 x).size ≤ 300000 ∧ 0 ≤ d ∧ d ≤ 16, .int .i64 (fP (b8 x) d), none)
 | _, _ => none
def pf (k : Nat) : Sm := fun args σ => match args, σ with
 | [x, .int .i64 d], [] => some (jS x ∧ eV (fv x) < k ∧ cF (fv x) ≤ 300000 ∧ 0 ≤ d ∧ (d ≤ 16 ∨ fv x = []), .int .i64 (fQ (fv x) none d), none)
 | _, _ => none
theorem zE {k : Nat} (h : ∀ v d, v.nodes < k → v.size ≤ 300000 → 0 ≤ d → d ≤ 16 → OK 46 [ev v, .int .i64 d] [] (.int .i64 (fP v d)) none) : aa 46 (lG k) := by
 intro args sg pre x r he hp
 unfold lG at he
 split at he <;> cases he
 exact (h _ _ hp.2.1 hp.2.2.1 hp.2.2.2.1 hp.2.2.2.2).args (aC.cons hp.1 (aC.refl _))
theorem zD {k : Nat} (h : ∀ m d, eV m < k → cF m ≤ 300000 → 0 ≤ d → (d ≤ 16 ∨ m = []) → OK 18 [.list false 7 (bW m), .int .i64 d] [] (.int .i64 (fQ m none d)) none) : aa 18 (pf k) := by
 intro args sg pre x r he hp
 unfold pf at he
 split at he <;> cases he
 exact (h _ _ hp.2.1 hp.2.2.1 hp.2.2.2.1 hp.2.2.2.2).args (aC.cons hp.1 (aC.refl _))
set_option maxHeartbeats 4000000 in
theorem AW {k : Nat} (h1 : aa 46 (lG k)) (h2 : aa 18 (pf k)) (v : af) (d : Int) (hk : v.nodes < k + 1) (hs : v.size ≤ 300000) (hd0 : 0 ≤ d) (hd1 : d ≤ 16) : OK 46 [ev v, .int .i64 d] [] (.int .i64 (fP v d)) none := by
 refine ai (C := cx [(97, uA), (96, rB), (46, lG k), (18, pf k)]) (aj ⟨k_emp, xZ, h1, h2, trivial⟩) (fn := Tryz.f46) rfl rfl rfl rfl fun hw _ => ?_
 have hb := nz hw.1
 have hz := size_eq v
 have hc := AV v d
 repeat' ((conv => whnf); first | apply a9 | apply aQ | ((first | apply ao | apply bE) <;> intro h))
 all_goals try conv => whnf
 all_goals try (refine a8.mk ?_; try dsimp only)
 all_goals first | refine stay ?_ | omega | skip
 all_goals (try simp only [aD] at *)
 all_goals first
  | (exfalso; omega)
  | exact ⟨bk _, by omega, by omega⟩
  | (show a7 _ _ _ _ _ _
     rw [hc]
     repeat (first | rw [if_pos (by first | assumption | omega)] | rw [if_neg (by first | assumption | omega | simp [*])])
     refine a7.mk [] ?_ <;> (repeat' first | trivial)
    )
  | skip
 all_goals (have he : emp v = true := by simpa using ‹_›)
 all_goals have hel := Bc he
 all_goals have hem := Bd he
 all_goals (
  rw [if_neg (by omega), if_neg (by simp [*]), if_neg (by omega), if_neg (by omega), if_neg (by omega)] at hc
  refine br.mk Nat (fun i => i ≤ v.list.length ∧ gN (v.list.drop i) (d + 1) = gN v.list (d + 1)) (fun i => ⟨65, [(5, .int .i64 i), (2, .ptr 0 0), (1, .int .i64 d)], [.cells (cv v)], []⟩) (fun i => v.list.length - i) [] 0 ⟨Nat.zero_le _, rfl⟩ ?_ (fun i hii _ _ => ?_)
  . refine Go.VG.Sub.mk rfl ?_ ?_ ?_ ?_ <;> (repeat' first | trivial)
  obtain ⟨hi, hq⟩ := hii
  have e1 := mf v.list
  repeat' ((conv => whnf); first | apply a9 | apply aQ | (apply ao <;> intro h) | with_reducible refine qz ?_ ?_)
  all_goals try conv => whnf
  all_goals try (refine a8.mk ?_; try dsimp only)
  all_goals first | refine stay ?_ | omega | skip
  all_goals (have hwd : IntKind.i64.wrap (d + 1) = d + 1 := by rw [bS]; omega)
  all_goals (try simp only [aD, m8] at *)
  all_goals rw [mf] at *
  all_goals (try simp only [hwd] at *)
  all_goals first
   | (exfalso; omega)
   | (have hlt : i < v.list.length := by omega
      have q1 := qS hlt
      have q2 := I8 hlt
      have q3 := j7 v
      exact ⟨bk _, by omega, by omega, by omega, by omega⟩)
   | (have q3 := j7 v
      refine ⟨sS _, by omega, by omega, by omega, ?_⟩
      rcases hem with h | h
      . exact .inl (by omega)
      . exact .inr (List.length_eq_zero_iff.1 h))
   | (have hlt : i < v.list.length := by omega
      rw [w9 hlt, if_neg (by simpa using ‹_›)] at hq
      refine ⟨[], i + 1, ⟨by omega, hq⟩, ?_, by omega⟩
      refine Go.VG.Sub.mk rfl ?_ ?_ ?_ ?_ <;> (repeat' first | trivial | apply ah | apply ax)
      all_goals (simp (discharger := omega) only [wR]; omega)
     )
   | (have hlt : i < v.list.length := by omega
      rw [w9 hlt, if_pos (by assumption)] at hq
      rw [hc, ← hq, if_pos (by assumption)]
      refine a7.mk [] ?_ <;> (repeat' first | trivial)
     )
   | (have hlt : v.list.length ≤ i := by omega
      rw [List.drop_of_length_le (by omega), gN] at hq
      rw [hc, ← hq, if_neg (by simp)]
      refine a7.mk [] ?_ <;> (repeat' first | trivial)
     )
   )
theorem AU {k : Nat} (h1 : aa 46 (lG (k + 1))) (m : List aw) (d : Int) (hk : eV m < k + 1) (hs : cF m ≤ 300000) (hd0 : 0 ≤ d) (hd1 : d ≤ 16 ∨ m = []) : OK 18 [.list false 7 (bW m), .int .i64 d] [] (.int .i64 (fQ m none d)) none := by
 refine ai (C := cx [(45, uJ), (46, lG (k + 1))]) (aj ⟨Fb, h1, trivial⟩) (fn := Tryz.f18) rfl rfl rfl rfl fun hw _ => ?_
 have hb : m.length ≤ 9223372036854775807 := by have := hw.1.1; rw [jq] at this; exact this
 refine br.mk Nat (fun i => i ≤ m.length ∧ fQ (m.drop i) (if i = 0 then none else some (m.getD (i - 1) default).key) d = fQ m none d) (fun i => ⟨49, [(5, .int .i64 i), (0, .list false 7 (bW m)), (1, .int .i64 d)], [], []⟩) (fun i => m.length - i) [] 0 ⟨Nat.zero_le _, rfl⟩ ?_ (fun i hii _ _ => ?_)
 . refine Go.VG.Sub.mk rfl ?_ ?_ ?_ ?_ <;> (repeat' first | trivial)
 obtain ⟨hi, hq⟩ := hii
 have e1 := jq m
 repeat' ((conv => whnf); first | apply a9 | apply aQ | ((first | apply ao | apply bE) <;> intro h) | with_reducible (first | refine qA ?_ ?_ | refine EF ?_ ?_))
 all_goals try conv => whnf
 all_goals try (refine a8.mk ?_; try dsimp only)
 all_goals first | refine stay ?_ | omega | (simp (discharger := omega) only [wR]; omega) | skip
 all_goals (try simp only [aD] at *)
 all_goals rw [jq] at *
 all_goals first
  | (show a7 _ _ _ _ _ _; skip)
  | (have hwi : IntKind.i64.wrap ((i : Int) - 1) = ((i - 1 : Nat) : Int) := by rw [bS]; omega
     rw [hwi, Int.toNat_natCast]; omega)
  | (have hlt : i < m.length := by omega
     have q2 := zy hlt
     omega)
  | (have hlt : i < m.length := by omega
     have q1 := qT hlt
     have q2 := zy hlt
     refine ⟨bk _, by omega, by omega, by omega, ?_⟩
     rcases hd1 with h | h
     . exact h
     . subst h; simp at hlt)
  | skip
 . have hlt : i < m.length := by omega
   have hwi : (IntKind.i64.wrap ((i : Int) - 1)).toNat = i - 1 := by rw [bS]; omega
   have hl := h
   rw [hwi] at hl
   have hA : gb (m.getD i default) (if i = 0 then none else some (m.getD (i - 1) default).key) d = 12 := by
    rw [m0, if_neg (by simpa using ‹_›), if_neg (by omega : ¬ i = 0), if_pos (show (some (m.getD (i - 1) default).key).any (fun q => j0 (m.getD i default).key q) = true from hl)]
   rw [m5 hlt, hA, if_pos (by decide)] at hq
   rw [← hq]
   refine a7.mk [] ?_ <;> (repeat' first | trivial)
 . have hlt : i < m.length := by omega
   have hwi : (IntKind.i64.wrap ((i : Int) - 1)).toNat = i - 1 := by rw [bS]; omega
   rename_i hk0 _ hl
   have hz := h
   rw [hwi] at hl
   have hl : j0 (m.getD i default).key (m.getD (i - 1) default).key = false := hl
   have hA : gb (m.getD i default) (if i = 0 then none else some (m.getD (i - 1) default).key) d = 0 := by
    rw [m0, if_neg (by simpa using hk0), if_neg (by omega : ¬ i = 0), if_neg (show ¬ (some (m.getD (i - 1) default).key).any (fun q => j0 (m.getD i default).key q) = true from fun e => by have e : j0 (m.getD i default).key (m.getD (i - 1) default).key = true := e; rw [hl] at e; cases e), hz]
   rw [m5 hlt, hA, if_neg (by decide)] at hq
   refine ⟨[], i + 1, ⟨by omega, hq⟩, ?_, by omega⟩
   refine Go.VG.Sub.mk rfl ?_ ?_ ?_ ?_ <;> (repeat' first | trivial | apply ah | apply ax)
   all_goals (simp (discharger := omega) only [wR]; omega)
 . have hlt : i < m.length := by omega
   have hwi : (IntKind.i64.wrap ((i : Int) - 1)).toNat = i - 1 := by rw [bS]; omega
   rename_i hk0 _ hl
   have hz := h
   rw [hwi] at hl
   have hl : j0 (m.getD i default).key (m.getD (i - 1) default).key = false := hl
   have hA : gb (m.getD i default) (if i = 0 then none else some (m.getD (i - 1) default).key) d = fP (m.getD i default).value d := by
    rw [m0, if_neg (by simpa using hk0), if_neg (by omega : ¬ i = 0), if_neg (show ¬ (some (m.getD (i - 1) default).key).any (fun q => j0 (m.getD i default).key q) = true from fun e => by have e : j0 (m.getD i default).key (m.getD (i - 1) default).key = true := e; rw [hl] at e; cases e)]
   rw [m5 hlt, hA, if_pos hz] at hq
   rw [← hq]
   refine a7.mk [] ?_ <;> (repeat' first | trivial)
 . have hlt : i < m.length := by omega
   rename_i hk0 _
   have hz := h
   obtain rfl : i = 0 := by omega
   have hA : gb (m.getD 0 default) none d = 0 := by
    rw [m0, if_neg (by simpa using hk0), if_neg (by simp), hz]
   rw [m5 hlt, if_pos rfl, hA, if_neg (by decide)] at hq
   refine ⟨[], 0 + 1, ⟨by omega, hq⟩, ?_, by omega⟩
   refine Go.VG.Sub.mk rfl ?_ ?_ ?_ ?_ <;> (repeat' first | trivial)
   all_goals omega
 . have hlt : i < m.length := by omega
   rename_i hk0 _
   have hz := h
   obtain rfl : i = 0 := by omega
   have hA : gb (m.getD 0 default) none d = fP (m.getD 0 default).value d := by
    rw [m0, if_neg (by simpa using hk0), if_neg (by simp)]
   rw [m5 hlt, if_pos rfl, hA, if_pos hz] at hq
   rw [← hq]
   refine a7.mk [] ?_ <;> (repeat' first | trivial)
 . have hlt : i < m.length := by omega
   have hk0 := h
   have hA : gb (m.getD i default) (if i = 0 then none else some (m.getD (i - 1) default).key) d = jV (m.getD i default).key := by
    rw [m0, if_pos hk0]
   rw [m5 hlt, hA, if_pos hk0] at hq
   rw [← hq]
   refine a7.mk [] ?_ <;> (repeat' first | trivial)
 . rw [List.drop_of_length_le (by omega), fQ] at hq
   rw [← hq]
   refine a7.mk [] ?_ <;> (repeat' first | trivial)
theorem wa : ∀ k : Nat, aa 46 (lG k) ∧ aa 18 (pf k)
 | 0 => ⟨zE fun _ _ h => by omega, zD fun _ _ h => by omega⟩
 | k + 1 => by
   have ih := wa k
   have h1 := zE (k := k + 1) fun v n hk hs h0 h1 => AW ih.1 ih.2 v n hk hs h0 h1
   exact ⟨h1, zD fun m n hk hs h0 hn => AU h1 m n hk hs h0 hn⟩
def u9 : Sm := fun args σ => match args, σ with
 | [x, .int .i64 d], [] => some (jS x ∧ cF (fv x) ≤ 300000 ∧ 0 ≤ d ∧ d ≤ 16, .int .i64 (fQ (fv x) none d), none)
 | _, _ => none
theorem EJ : aa 18 u9 := by
 intro args sg pre x r he hp
 unfold u9 at he
 split at he <;> cases he
 rename_i y q
 exact (wa (eV (fv y) + 1)).2 [y, .int .i64 q] [] _ _ _ rfl ⟨hp.1, Nat.lt_succ_self _, hp.2.1, hp.2.2.1, .inl hp.2.2.2⟩
end Go.Proofs.YtipejldppicijaaGreatDoor
