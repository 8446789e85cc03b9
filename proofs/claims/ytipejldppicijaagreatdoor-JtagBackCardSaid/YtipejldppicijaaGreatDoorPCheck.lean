/-
  A part of the proof.
-/
import Derived.Test.YtipejldppicijaaGreatDoorPText
import Derived.Test.YtipejldppicijaaGreatDoorPUtf
set_option linter.unusedSimpArgs false
set_option linter.unusedVariables false
set_option maxHeartbeats 4000000
namespace Go.Proofs.YtipejldppicijaaGreatDoor
open Go Go.VG
set_option maxRecDepth 100000
theorem II {l : List ak} {n : Nat} {K : V → Prop} (h1 : a8 (n < l.length)) (h2 : K (ea (l.getD n default))) : dP (bB l) n K := by
 rw [iH]
 exact vh h1 fun a ha => by rw [List.getD_eq_getElem?_getD, ha] at h2; exact h2
def emp (v : ae) : Bool :=
 decide ((v.kind = 1 ∨ v.kind = 5 ∨ v.text = []) ∧ (v.kind = 2 ∨ v.kind = 3 ∨ v.num = 0) ∧ (v.kind = 4 ∨ v.bits = 0) ∧ (v.kind = 6 ∨ v.list.length = 0) ∧ (v.kind = 7 ∨ v.map.length = 0))
set_option maxHeartbeats 4000000 in
theorem f_emp (v : ae) (h0 : 0 ≤ v.kind) (h7 : v.kind ≤ 7) : OK 97 [ev v] [] (.bool (emp v)) none := by
 obtain ⟨k, t, n, b, l, m⟩ := v
 simp only [ae.kind] at h0 h7
 rcases (show k = 0 ∨ k = 1 ∨ k = 2 ∨ k = 3 ∨ k = 4 ∨ k = 5 ∨ k = 6 ∨ k = 7 by omega) with rfl | rfl | rfl | rfl | rfl | rfl | rfl | rfl
 all_goals refine af (C := cx []) (ah trivial) (fn := Tryz.f97) rfl rfl rfl rfl fun hw _ => ?_
 all_goals
  repeat' ((conv => whnf); ((first | apply al | apply gk) <;> intro h))
  all_goals try conv => whnf
  all_goals try (refine a8.mk ?_; try dsimp only)
  all_goals try refine stay ?_
  all_goals
   refine a7.mk [] ?_ <;> (repeat' first | trivial | apply ab | apply bX)
   unfold emp
   simp_all [ae.kind, ae.text, ae.num, ae.bits, ae.list, ae.map]
   try (cases m with
    | nil => rfl
    | cons _ _ => simp; omega)
theorem EH {v : ae} (h : emp v = true) : v.kind = 6 ∨ v.list.length = 0 := by
 unfold emp at h
 exact (of_decide_eq_true h).2.2.2.1
theorem EI {v : ae} (h : emp v = true) : v.kind = 7 ∨ v.map.length = 0 := by
 unfold emp at h
 exact (of_decide_eq_true h).2.2.2.2
attribute [irreducible] emp
def wQ : Sm := fun args σ => match args, σ with
 | [x], [] => some (dV x ∧ 0 ≤ (aY x).kind ∧ (aY x).kind ≤ 7, .bool (emp (aY x)), none)
 | _, _ => none
theorem k_emp : aa 97 wQ := by
 intro args sg pre x r he hp
 unfold wQ at he
 split at he <;> cases he
 exact (f_emp _ hp.2.1 hp.2.2).args (aq.cons hp.1 aq.nil)
def l7 (k : List UInt8) : Int := if k = [] then 9 else if mZ k ≠ -1 then 5 else if 64 < k.length then 35 else 0
theorem GY (k : List UInt8) (h : k.length ≤ 10000000) : OK 45 [.str k] [] (.int .i64 (l7 k)) none := by
 refine af (C := cx [(96, tJ)]) (ah ⟨AV, trivial⟩) (fn := Tryz.f45) rfl rfl rfl rfl fun hw _ => ?_
 repeat' ((conv => whnf); first | apply a9 | apply aJ | ((first | apply al | apply gk) <;> intro h))
 all_goals try conv => whnf
 all_goals try (refine a8.mk ?_; try dsimp only)
 all_goals first | refine stay ?_ | trivial | skip
 all_goals
  unfold l7
  repeat (first | rw [if_pos (by first | assumption | omega)] | rw [if_neg (by first | assumption | omega)])
  refine a7.mk [] ?_ <;> (repeat' first | trivial)
def x8 : Sm := fun args σ => match args, σ with
 | [.str k], [] => some (k.length ≤ 10000000, .int .i64 (l7 k), none)
 | _, _ => none
theorem Jd : aa 45 x8 := by
 intro args sg pre x r he hp
 unfold x8 at he
 split at he <;> cases he
 exact GY _ hp
def jM (a b : List UInt8) : Bool := Op.bytesLess a b || a == b
mutual
def ff : ae → Int → Int
 | .mk k t n b l m, d =>
   if 7 < k then 7 else if emp (.mk k t n b l m) = false then 3 else if 6 ≤ k ∧ 16 ≤ d then 33 else if k = 1 ∧ mZ t ≠ -1 then 5
   else if k = 2 ∧ (n < 0 ∨ 1 < n) then 4 else if gV l (d + 1) ≠ 0 then gV l (d + 1) else eQ m none (d + 1)
def gV : List ae → Int → Int
 | [], _ => 0
 | v :: r, d => if ff v d ≠ 0 then ff v d else gV r d
def gU : ak → Option (List UInt8) → Int → Int
 | .mk k v, p, d => if l7 k ≠ 0 then l7 k else if (p.any fun q => jM k q) = true then 12 else ff v d
def eQ : List ak → Option (List UInt8) → Int → Int
 | [], _, _ => 0
 | a :: r, p, d => if gU a p d ≠ 0 then gU a p d else eQ r (some a.key) d
end
theorem yL (v : ae) (d : Int) : ff v d = if 7 < v.kind then 7 else if emp v = false then 3 else if 6 ≤ v.kind ∧ 16 ≤ d then 33 else if v.kind = 1 ∧ mZ v.text ≠ -1 then 5
   else if v.kind = 2 ∧ (v.num < 0 ∨ 1 < v.num) then 4 else if gV v.list (d + 1) ≠ 0 then gV v.list (d + 1) else eQ v.map none (d + 1) := by
 cases v; simp only [ff, ae.kind, ae.text, ae.num, ae.list, ae.map]; rfl
theorem yI {l : List ae} {i : Nat} (h : i < l.length) (d : Int) : gV (l.drop i) d = if ff (l.getD i default) d ≠ 0 then ff (l.getD i default) d else gV (l.drop (i + 1)) d := by
 rw [List.drop_eq_getElem_cons h, gV, List.getD_eq_getElem?_getD, List.getElem?_eq_getElem h]; rfl
theorem nh {l : List ak} {i : Nat} (h : i < l.length) (p : Option (List UInt8)) (d : Int) : eQ (l.drop i) p d =
   if gU (l.getD i default) p d ≠ 0 then gU (l.getD i default) p d else eQ (l.drop (i + 1)) (some (l.getD i default).key) d := by
 rw [List.drop_eq_getElem_cons h, eQ, List.getD_eq_getElem?_getD, List.getElem?_eq_getElem h]; rfl
theorem m6 (a : ak) (p : Option (List UInt8)) (d : Int) : gU a p d = if l7 a.key ≠ 0 then l7 a.key else if (p.any fun q => jM a.key q) = true then 12 else ff a.value d := by cases a; simp only [gU, ak.key, ak.value]; rfl
def mK (k : Nat) : Sm := fun args σ => match args, σ with
 | [x, .int .i64 d], [] => some (dV x ∧ (aY x).nodes < k ∧ (aY x).size ≤ 300000 ∧ 0 ≤ d ∧ d ≤ 16, .int .i64 (ff (aY x) d), none)
 | _, _ => none
def qF (k : Nat) : Sm := fun args σ => match args, σ with
 | [x, .int .i64 d], [] => some (dK x ∧ dY (bF x) < k ∧ bE (bF x) ≤ 300000 ∧ 0 ≤ d ∧ (d ≤ 16 ∨ bF x = []), .int .i64 (eQ (bF x) none d), none)
 | _, _ => none
theorem CK {k : Nat} (h : ∀ v d, v.nodes < k → v.size ≤ 300000 → 0 ≤ d → d ≤ 16 → OK 46 [ev v, .int .i64 d] [] (.int .i64 (ff v d)) none) : aa 46 (mK k) := by
 intro args sg pre x r he hp
 unfold mK at he
 split at he <;> cases he
 exact (h _ _ hp.2.1 hp.2.2.1 hp.2.2.2.1 hp.2.2.2.2).args (aq.cons hp.1 (aq.refl _))
theorem CJ {k : Nat} (h : ∀ m d, dY m < k → bE m ≤ 300000 → 0 ≤ d → (d ≤ 16 ∨ m = []) → OK 18 [.list false 7 (bB m), .int .i64 d] [] (.int .i64 (eQ m none d)) none) : aa 18 (qF k) := by
 intro args sg pre x r he hp
 unfold qF at he
 split at he <;> cases he
 exact (h _ _ hp.2.1 hp.2.2.1 hp.2.2.2.1 hp.2.2.2.2).args (aq.cons hp.1 (aq.refl _))
set_option maxHeartbeats 4000000 in
theorem Em {k : Nat} (h1 : aa 46 (mK k)) (h2 : aa 18 (qF k)) (v : ae) (d : Int) (hk : v.nodes < k + 1) (hs : v.size ≤ 300000) (hd0 : 0 ≤ d) (hd1 : d ≤ 16) : OK 46 [ev v, .int .i64 d] [] (.int .i64 (ff v d)) none := by
 refine af (C := cx [(97, wQ), (96, tJ), (46, mK k), (18, qF k)]) (ah ⟨k_emp, AV, h1, h2, trivial⟩) (fn := Tryz.f46) rfl rfl rfl rfl fun hw _ => ?_
 have hb := lP hw.1
 have hz := size_eq v
 have hc := yL v d
 repeat' ((conv => whnf); first | apply a9 | apply aJ | ((first | apply al | apply bu) <;> intro h))
 all_goals try conv => whnf
 all_goals try (refine a8.mk ?_; try dsimp only)
 all_goals first | refine stay ?_ | omega | skip
 all_goals (try simp only [az] at *)
 all_goals first
  | (exfalso; omega)
  | exact ⟨ba _, by omega, by omega⟩
  | (show a7 _ _ _ _ _ _
     rw [hc]
     repeat (first | rw [if_pos (by first | assumption | omega)] | rw [if_neg (by first | assumption | omega | simp [*])])
     refine a7.mk [] ?_ <;> (repeat' first | trivial)
    )
  | skip
 all_goals (have he : emp v = true := by simpa using ‹_›)
 all_goals have hel := EH he
 all_goals have hem := EI he
 all_goals (
  rw [if_neg (by omega), if_neg (by simp [*]), if_neg (by omega), if_neg (by omega), if_neg (by omega)] at hc
  refine bd.mk Nat (fun i => i ≤ v.list.length ∧ gV (v.list.drop i) (d + 1) = gV v.list (d + 1)) (fun i => ⟨65, [(5, .int .i64 i), (2, .ptr 0 0), (1, .int .i64 d)], [.cells (cv v)], []⟩) (fun i => v.list.length - i) [] 0 ⟨Nat.zero_le _, rfl⟩ ?_ (fun i hii _ _ => ?_)
  . refine Go.VG.Sub.mk rfl ?_ ?_ ?_ ?_ <;> (repeat' first | trivial)
  obtain ⟨hi, hq⟩ := hii
  have e1 := kx v.list
  repeat' ((conv => whnf); first | apply a9 | apply aJ | (apply al <;> intro h) | with_reducible refine pG ?_ ?_)
  all_goals try conv => whnf
  all_goals try (refine a8.mk ?_; try dsimp only)
  all_goals first | refine stay ?_ | omega | skip
  all_goals (have hwd : IntKind.i64.wrap (d + 1) = d + 1 := by rw [bU]; omega)
  all_goals (try simp only [az, gW] at *)
  all_goals rw [kx] at *
  all_goals (try simp only [hwd] at *)
  all_goals first
   | (exfalso; omega)
   | (have hlt : i < v.list.length := by omega
      have q1 := qh hlt
      have q2 := Mo hlt
      have q3 := iP v
      exact ⟨ba _, by omega, by omega, by omega, by omega⟩)
   | (have q3 := iP v
      refine ⟨i7 _, by omega, by omega, by omega, ?_⟩
      rcases hem with h | h
      . exact .inl (by omega)
      . exact .inr (List.length_eq_zero_iff.1 h))
   | (have hlt : i < v.list.length := by omega
      rw [yI hlt, if_neg (by simpa using ‹_›)] at hq
      refine ⟨[], i + 1, ⟨by omega, hq⟩, ?_, by omega⟩
      refine Go.VG.Sub.mk rfl ?_ ?_ ?_ ?_ <;> (repeat' first | trivial | apply ab | apply au)
      all_goals (simp (discharger := omega) only [wR]; omega)
     )
   | (have hlt : i < v.list.length := by omega
      rw [yI hlt, if_pos (by assumption)] at hq
      rw [hc, ← hq, if_pos (by assumption)]
      refine a7.mk [] ?_ <;> (repeat' first | trivial)
     )
   | (have hlt : v.list.length ≤ i := by omega
      rw [List.drop_of_length_le (by omega), gV] at hq
      rw [hc, ← hq, if_neg (by simp)]
      refine a7.mk [] ?_ <;> (repeat' first | trivial)
     )
   )
theorem El {k : Nat} (h1 : aa 46 (mK (k + 1))) (m : List ak) (d : Int) (hk : dY m < k + 1) (hs : bE m ≤ 300000) (hd0 : 0 ≤ d) (hd1 : d ≤ 16 ∨ m = []) : OK 18 [.list false 7 (bB m), .int .i64 d] [] (.int .i64 (eQ m none d)) none := by
 refine af (C := cx [(45, x8), (46, mK (k + 1))]) (ah ⟨Jd, h1, trivial⟩) (fn := Tryz.f18) rfl rfl rfl rfl fun hw _ => ?_
 have hb : m.length ≤ 9223372036854775807 := by have := hw.1.1; rw [iG] at this; exact this
 refine bd.mk Nat (fun i => i ≤ m.length ∧ eQ (m.drop i) (if i = 0 then none else some (m.getD (i - 1) default).key) d = eQ m none d) (fun i => ⟨49, [(5, .int .i64 i), (0, .list false 7 (bB m)), (1, .int .i64 d)], [], []⟩) (fun i => m.length - i) [] 0 ⟨Nat.zero_le _, rfl⟩ ?_ (fun i hii _ _ => ?_)
 . refine Go.VG.Sub.mk rfl ?_ ?_ ?_ ?_ <;> (repeat' first | trivial)
 obtain ⟨hi, hq⟩ := hii
 have e1 := iG m
 repeat' ((conv => whnf); first | apply a9 | apply aJ | ((first | apply al | apply bu) <;> intro h) | with_reducible (first | refine nR ?_ ?_ | refine II ?_ ?_))
 all_goals try conv => whnf
 all_goals try (refine a8.mk ?_; try dsimp only)
 all_goals first | refine stay ?_ | omega | (simp (discharger := omega) only [wR]; omega) | skip
 all_goals (try simp only [az] at *)
 all_goals rw [iG] at *
 all_goals first
  | (show a7 _ _ _ _ _ _; skip)
  | (have hwi : IntKind.i64.wrap ((i : Int) - 1) = ((i - 1 : Nat) : Int) := by rw [bU]; omega
     rw [hwi, Int.toNat_natCast]; omega)
  | (have hlt : i < m.length := by omega
     have q2 := CB hlt
     omega)
  | (have hlt : i < m.length := by omega
     have q1 := qi hlt
     have q2 := CB hlt
     refine ⟨ba _, by omega, by omega, by omega, ?_⟩
     rcases hd1 with h | h
     . exact h
     . subst h; simp at hlt)
  | skip
 . have hlt : i < m.length := by omega
   have hwi : (IntKind.i64.wrap ((i : Int) - 1)).toNat = i - 1 := by rw [bU]; omega
   have hl := h
   rw [hwi] at hl
   have hA : gU (m.getD i default) (if i = 0 then none else some (m.getD (i - 1) default).key) d = 12 := by
    rw [m6, if_neg (by simpa using ‹_›), if_neg (by omega : ¬ i = 0), if_pos (show (some (m.getD (i - 1) default).key).any (fun q => jM (m.getD i default).key q) = true from hl)]
   rw [nh hlt, hA, if_pos (by decide)] at hq
   rw [← hq]
   refine a7.mk [] ?_ <;> (repeat' first | trivial)
 . have hlt : i < m.length := by omega
   have hwi : (IntKind.i64.wrap ((i : Int) - 1)).toNat = i - 1 := by rw [bU]; omega
   rename_i hk0 _ hl
   have hz := h
   rw [hwi] at hl
   have hl : jM (m.getD i default).key (m.getD (i - 1) default).key = false := hl
   have hA : gU (m.getD i default) (if i = 0 then none else some (m.getD (i - 1) default).key) d = 0 := by
    rw [m6, if_neg (by simpa using hk0), if_neg (by omega : ¬ i = 0), if_neg (show ¬ (some (m.getD (i - 1) default).key).any (fun q => jM (m.getD i default).key q) = true from fun e => by have e : jM (m.getD i default).key (m.getD (i - 1) default).key = true := e; rw [hl] at e; cases e), hz]
   rw [nh hlt, hA, if_neg (by decide)] at hq
   refine ⟨[], i + 1, ⟨by omega, hq⟩, ?_, by omega⟩
   refine Go.VG.Sub.mk rfl ?_ ?_ ?_ ?_ <;> (repeat' first | trivial | apply ab | apply au)
   all_goals (simp (discharger := omega) only [wR]; omega)
 . have hlt : i < m.length := by omega
   have hwi : (IntKind.i64.wrap ((i : Int) - 1)).toNat = i - 1 := by rw [bU]; omega
   rename_i hk0 _ hl
   have hz := h
   rw [hwi] at hl
   have hl : jM (m.getD i default).key (m.getD (i - 1) default).key = false := hl
   have hA : gU (m.getD i default) (if i = 0 then none else some (m.getD (i - 1) default).key) d = ff (m.getD i default).value d := by
    rw [m6, if_neg (by simpa using hk0), if_neg (by omega : ¬ i = 0), if_neg (show ¬ (some (m.getD (i - 1) default).key).any (fun q => jM (m.getD i default).key q) = true from fun e => by have e : jM (m.getD i default).key (m.getD (i - 1) default).key = true := e; rw [hl] at e; cases e)]
   rw [nh hlt, hA, if_pos hz] at hq
   rw [← hq]
   refine a7.mk [] ?_ <;> (repeat' first | trivial)
 . have hlt : i < m.length := by omega
   rename_i hk0 _
   have hz := h
   obtain rfl : i = 0 := by omega
   have hA : gU (m.getD 0 default) none d = 0 := by
    rw [m6, if_neg (by simpa using hk0), if_neg (by simp), hz]
   rw [nh hlt, if_pos rfl, hA, if_neg (by decide)] at hq
   refine ⟨[], 0 + 1, ⟨by omega, hq⟩, ?_, by omega⟩
   refine Go.VG.Sub.mk rfl ?_ ?_ ?_ ?_ <;> (repeat' first | trivial)
   all_goals omega
 . have hlt : i < m.length := by omega
   rename_i hk0 _
   have hz := h
   obtain rfl : i = 0 := by omega
   have hA : gU (m.getD 0 default) none d = ff (m.getD 0 default).value d := by
    rw [m6, if_neg (by simpa using hk0), if_neg (by simp)]
   rw [nh hlt, if_pos rfl, hA, if_pos hz] at hq
   rw [← hq]
   refine a7.mk [] ?_ <;> (repeat' first | trivial)
 . have hlt : i < m.length := by omega
   have hk0 := h
   have hA : gU (m.getD i default) (if i = 0 then none else some (m.getD (i - 1) default).key) d = l7 (m.getD i default).key := by
    rw [m6, if_pos hk0]
   rw [nh hlt, hA, if_pos hk0] at hq
   rw [← hq]
   refine a7.mk [] ?_ <;> (repeat' first | trivial)
 . rw [List.drop_of_length_le (by omega), eQ] at hq
   rw [← hq]
   refine a7.mk [] ?_ <;> (repeat' first | trivial)
theorem yK : ∀ k : Nat, aa 46 (mK k) ∧ aa 18 (qF k)
 | 0 => ⟨CK fun _ _ h => by omega, CJ fun _ _ h => by omega⟩
 | k + 1 => by
   have ih := yK k
   have h1 := CK (k := k + 1) fun v n hk hs h0 h1 => Em ih.1 ih.2 v n hk hs h0 h1
   exact ⟨h1, CJ fun m n hk hs h0 hn => El h1 m n hk hs h0 hn⟩
def sM : Sm := fun args σ => match args, σ with
 | [x, .int .i64 d], [] => some (dK x ∧ bE (bF x) ≤ 300000 ∧ 0 ≤ d ∧ d ≤ 16, .int .i64 (eQ (bF x) none d), none)
 | _, _ => none
theorem Ad : aa 18 sM := by
 intro args sg pre x r he hp
 unfold sM at he
 split at he <;> cases he
 rename_i y q
 exact (yK (dY (bF y) + 1)).2 [y, .int .i64 q] [] _ _ _ rfl ⟨hp.1, Nat.lt_succ_self _, hp.2.1, hp.2.2.1, .inl hp.2.2.2⟩
end Go.Proofs.YtipejldppicijaaGreatDoor
