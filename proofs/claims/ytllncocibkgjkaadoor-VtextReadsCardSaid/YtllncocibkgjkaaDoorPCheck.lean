/-
  A part of the proof.
-/
import Derived.Test.YtllncocibkgjkaaDoorPText
import Derived.Test.YtllncocibkgjkaaDoorPUtf
set_option linter.unusedSimpArgs false
set_option linter.unusedVariables false
set_option maxHeartbeats 4000000
namespace Go.Proofs.YtllncocibkgjkaaDoor
open Go Go.VG
set_option maxRecDepth 100000
theorem pT {l : List aD} {n : Nat} {K : V → Prop} (h1 : a8 (n < l.length)) (h2 : K (ea (l.getD n default))) : aQ (d8 l) n K := by
 rw [rF]
 exact uE h1 fun a ha => by rw [List.getD_eq_getElem?_getD, ha] at h2; exact h2
def emp (v : ah) : Bool :=
 decide ((v.kind = 1 ∨ v.kind = 5 ∨ v.text = []) ∧ (v.kind = 2 ∨ v.kind = 3 ∨ v.num = 0) ∧ (v.kind = 4 ∨ v.bits = 0) ∧ (v.kind = 6 ∨ v.list.length = 0) ∧ (v.kind = 7 ∨ v.map.length = 0))
set_option maxHeartbeats 4000000 in
theorem f_emp (v : ah) (h0 : 0 ≤ v.kind) (h7 : v.kind ≤ 7) : OK 12 [ev v] [] (.bool (emp v)) none := by
 obtain ⟨k, t, n, b, l, m⟩ := v
 simp only [ah.kind] at h0 h7
 rcases (show k = 0 ∨ k = 1 ∨ k = 2 ∨ k = 3 ∨ k = 4 ∨ k = 5 ∨ k = 6 ∨ k = 7 by omega) with rfl | rfl | rfl | rfl | rfl | rfl | rfl | rfl
 all_goals refine aI (C := cx []) (aG trivial) (fn := Tryd.f12) rfl rfl rfl rfl fun hw _ => ?_
 all_goals
  repeat' ((conv => whnf); first | with_reducible (first | refine bg (fun j q h => ?_) fun h => ?_ | refine go2 ⟨rfl, rfl⟩ (fun h => ?_) fun j h => ?_ | refine go2 ?_ (fun h => ?_) fun j h => ?_ | refine aL ?_ (fun h => ?_) fun h => ?_) | apply ai | apply aT | apply aw | ((first | apply aj | apply bB | apply bC | apply bm | apply bc) <;> intro h) | with_reducible (first | refine aQ.mk _ rfl ?_ | refine bL ?_ ?_ | refine bM ?_ ?_ | refine pT ?_ ?_ | refine bn ?_ fun hc => ?_ | refine bo ?_ fun hc => ?_ | refine aY ?_ fun hc => ?_ | refine b9 ?_ fun hc => ?_ | apply bd | apply bf | refine b6 ?_ fun b hb => ?_) | apply b7 | apply bh | apply bp | apply bq | apply br | apply goN | apply bz | with_reducible refine bA ?_)
  all_goals try conv => whnf
  all_goals try (refine a8.mk ?_; try dsimp only)
  all_goals first | refine stay ?_ | trivial | omega | (simp (discharger := omega) only [wR]; omega) | (simp only [ax]; omega) | (simp (discharger := omega) [-List.getD_eq_getElem?_getD, wR] <;> omega) | skip
  all_goals
   refine ab.mk [] ?_ <;> (repeat' first | trivial | rfl | exact aV _ _ | apply aa | apply aU | apply ar | apply aK | apply ak | apply aS | apply aW | apply aX | apply aO | apply aJ)
   unfold emp
   simp_all [ah.kind, ah.text, ah.num, ah.bits, ah.list, ah.map]
   try (cases m with
    | nil => rfl
    | cons _ _ => simp; omega)
theorem Dx {v : ah} (h : emp v = true) : v.kind = 6 ∨ v.list.length = 0 := by
 unfold emp at h
 exact (of_decide_eq_true h).2.2.2.1
theorem Dy {v : ah} (h : emp v = true) : v.kind = 7 ∨ v.map.length = 0 := by
 unfold emp at h
 exact (of_decide_eq_true h).2.2.2.2
theorem Dw {v : ah} (h : emp v = true) : (v.kind = 1 ∨ v.kind = 5 ∨ v.text = []) ∧ (v.kind = 2 ∨ v.kind = 3 ∨ v.num = 0) ∧ (v.kind = 4 ∨ v.bits = 0) ∧ (v.kind = 6 ∨ v.list.length = 0) ∧ (v.kind = 7 ∨ v.map.length = 0) := by
 unfold emp at h
 exact of_decide_eq_true h
attribute [irreducible] emp
def wc : Sm := fun args σ => match args, σ with
 | [x], [] => some (fM x ∧ 0 ≤ (bW x).kind ∧ (bW x).kind ≤ 7, .bool (emp (bW x)), none)
 | _, _ => none
theorem k_emp : aE 12 wc := by
 intro args sg pre x r he hp
 unfold wc at he
 split at he <;> cases he
 exact (f_emp _ hp.2.1 hp.2.2).args (aM.cons hp.1 aM.nil)
def jg (k : List UInt8) : Int := if k = [] then 9 else if fi k ≠ -1 then 5 else if 64 < k.length then 35 else 0
theorem Fa (k : List UInt8) (h : k.length ≤ 10000000) : OK 25 [.str k] [] (.int .i64 (jg k)) none := by
 refine aI (C := cx [(13, sZ)]) (aG ⟨zO, trivial⟩) (fn := Tryd.f25) rfl rfl rfl rfl fun hw _ => ?_
 repeat' ((conv => whnf); first | with_reducible (first | refine bg (fun j q h => ?_) fun h => ?_ | refine go2 ⟨rfl, rfl⟩ (fun h => ?_) fun j h => ?_ | refine go2 ?_ (fun h => ?_) fun j h => ?_ | refine aL ?_ (fun h => ?_) fun h => ?_) | apply ai | apply aT | apply aw | ((first | apply aj | apply bB | apply bC | apply bm | apply bc) <;> intro h) | with_reducible (first | refine aQ.mk _ rfl ?_ | refine bL ?_ ?_ | refine bM ?_ ?_ | refine pT ?_ ?_ | refine bn ?_ fun hc => ?_ | refine bo ?_ fun hc => ?_ | refine aY ?_ fun hc => ?_ | refine b9 ?_ fun hc => ?_ | apply bd | apply bf | refine b6 ?_ fun b hb => ?_) | apply b7 | apply bh | apply bp | apply bq | apply br | apply goN | apply bz | with_reducible refine bA ?_)
 all_goals try conv => whnf
 all_goals try (refine a8.mk ?_; try dsimp only)
 all_goals first | refine stay ?_ | trivial | omega | (simp (discharger := omega) only [wR]; omega) | (simp only [ax]; omega) | (simp (discharger := omega) [-List.getD_eq_getElem?_getD, wR] <;> omega) | skip
 all_goals
  unfold jg
  repeat (first | rw [if_pos (by first | assumption | omega)] | rw [if_neg (by first | assumption | omega)])
  refine ab.mk [] ?_ <;> (repeat' first | trivial | rfl | exact aV _ _ | apply aa | apply aU | apply ar | apply aK | apply ak | apply aS | apply aW | apply aX | apply aO | apply aJ)
def wH : Sm := fun args σ => match args, σ with
 | [.str k], [] => some (k.length ≤ 10000000, .int .i64 (jg k), none)
 | _, _ => none
theorem GN : aE 25 wH := by
 intro args sg pre x r he hp
 unfold wH at he
 split at he <;> cases he
 exact Fa _ hp
def iY (a b : List UInt8) : Bool := Op.bytesLess a b || a == b
mutual
def eU : ah → Int → Int
 | .mk k t n b l m, d =>
   if 7 < k then 7 else if emp (.mk k t n b l m) = false then 3 else if 6 ≤ k ∧ 16 ≤ d then 33 else if k = 1 ∧ fi t ≠ -1 then 5
   else if k = 2 ∧ (n < 0 ∨ 1 < n) then 4 else if gP l (d + 1) ≠ 0 then gP l (d + 1) else gQ m none (d + 1)
def gP : List ah → Int → Int
 | [], _ => 0
 | v :: r, d => if eU v d ≠ 0 then eU v d else gP r d
def iR : aD → Option (List UInt8) → Int → Int
 | .mk k v, p, d => if jg k ≠ 0 then jg k else if (p.any fun q => iY k q) = true then 12 else eU v d
def gQ : List aD → Option (List UInt8) → Int → Int
 | [], _, _ => 0
 | a :: r, p, d => if iR a p d ≠ 0 then iR a p d else gQ r (some a.key) d
end
theorem D7 (v : ah) (d : Int) : eU v d = if 7 < v.kind then 7 else if emp v = false then 3 else if 6 ≤ v.kind ∧ 16 ≤ d then 33 else if v.kind = 1 ∧ fi v.text ≠ -1 then 5
   else if v.kind = 2 ∧ (v.num < 0 ∨ 1 < v.num) then 4 else if gP v.list (d + 1) ≠ 0 then gP v.list (d + 1) else gQ v.map none (d + 1) := by
 cases v; simp only [eU, ah.kind, ah.text, ah.num, ah.list, ah.map]; rfl
theorem yf {l : List ah} {i : Nat} (h : i < l.length) (d : Int) : gP (l.drop i) d = if eU (l.getD i default) d ≠ 0 then eU (l.getD i default) d else gP (l.drop (i + 1)) d := by
 rw [List.drop_eq_getElem_cons h, gP, List.getD_eq_getElem?_getD, List.getElem?_eq_getElem h]; rfl
theorem nG {l : List aD} {i : Nat} (h : i < l.length) (p : Option (List UInt8)) (d : Int) : gQ (l.drop i) p d =
   if iR (l.getD i default) p d ≠ 0 then iR (l.getD i default) p d else gQ (l.drop (i + 1)) (some (l.getD i default).key) d := by
 rw [List.drop_eq_getElem_cons h, gQ, List.getD_eq_getElem?_getD, List.getElem?_eq_getElem h]; rfl
theorem nF (a : aD) (p : Option (List UInt8)) (d : Int) : iR a p d = if jg a.key ≠ 0 then jg a.key else if (p.any fun q => iY a.key q) = true then 12 else eU a.value d := by cases a; simp only [iR, aD.key, aD.value]; rfl
def nk (k : Nat) : Sm := fun args σ => match args, σ with
 | [x, .int .i64 d], [] => some (fM x ∧ (bW x).nodes < k ∧ (bW x).size ≤ 300000 ∧ 0 ≤ d ∧ d ≤ 16, .int .i64 (eU (bW x) d), none)
 | _, _ => none
def qE (k : Nat) : Sm := fun args σ => match args, σ with
 | [x, .int .i64 d], [] => some (isM x ∧ cM (ll x) < k ∧ dq (ll x) ≤ 300000 ∧ 0 ≤ d ∧ (d ≤ 16 ∨ ll x = []), .int .i64 (gQ (ll x) none d), none)
 | _, _ => none
theorem BO {k : Nat} (h : ∀ v d, v.nodes < k → v.size ≤ 300000 → 0 ≤ d → d ≤ 16 → OK 5 [ev v, .int .i64 d] [] (.int .i64 (eU v d)) none) : aE 5 (nk k) := by
 intro args sg pre x r he hp
 unfold nk at he
 split at he <;> cases he
 exact (h _ _ hp.2.1 hp.2.2.1 hp.2.2.2.1 hp.2.2.2.2).args (aM.cons hp.1 (aM.refl _))
theorem BN {k : Nat} (h : ∀ m d, cM m < k → dq m ≤ 300000 → 0 ≤ d → (d ≤ 16 ∨ m = []) → OK 14 [.list false 7 (d8 m), .int .i64 d] [] (.int .i64 (gQ m none d)) none) : aE 14 (qE k) := by
 intro args sg pre x r he hp
 unfold qE at he
 split at he <;> cases he
 exact (h _ _ hp.2.1 hp.2.2.1 hp.2.2.2.1 hp.2.2.2.2).args (aM.cons hp.1 (aM.refl _))
set_option maxHeartbeats 4000000 in
theorem D8 {k : Nat} (h1 : aE 5 (nk k)) (h2 : aE 14 (qE k)) (v : ah) (d : Int) (hk : v.nodes < k + 1) (hs : v.size ≤ 300000) (hd0 : 0 ≤ d) (hd1 : d ≤ 16) : OK 5 [ev v, .int .i64 d] [] (.int .i64 (eU v d)) none := by
 refine aI (C := cx [(12, wc), (13, sZ), (5, nk k), (14, qE k)]) (aG ⟨k_emp, zO, h1, h2, trivial⟩) (fn := Tryd.f5) rfl rfl rfl rfl fun hw _ => ?_
 have hb := tp hw.1
 have hz := size_eq v
 have hc := D7 v d
 repeat' ((conv => whnf); first | with_reducible (first | refine bg (fun j q h => ?_) fun h => ?_ | refine go2 ⟨rfl, rfl⟩ (fun h => ?_) fun j h => ?_ | refine go2 ?_ (fun h => ?_) fun j h => ?_ | refine aL ?_ (fun h => ?_) fun h => ?_) | apply ai | apply aT | apply aw | ((first | apply aj | apply bB | apply bC | apply bm | apply bc) <;> intro h) | with_reducible (first | refine aQ.mk _ rfl ?_ | refine bL ?_ ?_ | refine bM ?_ ?_ | refine pT ?_ ?_ | refine bn ?_ fun hc => ?_ | refine bo ?_ fun hc => ?_ | refine aY ?_ fun hc => ?_ | refine b9 ?_ fun hc => ?_ | apply bd | apply bf | refine b6 ?_ fun b hb => ?_) | apply b7 | apply bh | apply bp | apply bq | apply br | apply goN | apply bz | with_reducible refine bA ?_)
 all_goals try conv => whnf
 all_goals try (refine a8.mk ?_; try dsimp only)
 all_goals first | refine stay ?_ | trivial | omega | (simp (discharger := omega) only [wR]; omega) | (simp only [ax]; omega) | (simp (discharger := omega) [-List.getD_eq_getElem?_getD, wR] <;> omega) | skip
 all_goals (try simp only [aN] at *)
 all_goals first
  | (exfalso; omega)
  | exact ⟨az _, by omega, by omega⟩
  | (show ab _ _ _ _ _ _
     rw [hc]
     repeat (first | rw [if_pos (by first | assumption | omega)] | rw [if_neg (by first | assumption | omega | simp [*])])
     refine ab.mk [] ?_ <;> (repeat' first | trivial | rfl | exact aV _ _ | apply aa | apply aU | apply ar | apply aK | apply ak | apply aS | apply aW | apply aX | apply aO | apply aJ)
    )
  | skip
 all_goals (have he : emp v = true := by simpa using ‹_›)
 all_goals have hel := Dx he
 all_goals have hem := Dy he
 all_goals (
  rw [if_neg (by omega), if_neg (by simp [*]), if_neg (by omega), if_neg (by omega), if_neg (by omega)] at hc
  refine cB.mk Nat (fun i => i ≤ v.list.length ∧ gP (v.list.drop i) (d + 1) = gP v.list (d + 1)) (fun i => ⟨65, [(5, .int .i64 i), (2, .ptr 0 0), (1, .int .i64 d)], [.cells (cv v)], []⟩) (fun i => v.list.length - i) [] 0 ⟨Nat.zero_le _, rfl⟩ ?_ (fun i hii _ _ => ?_)
  . refine Go.VG.Sub.mk rfl ?_ ?_ ?_ ?_ <;> (repeat' first | trivial | rfl | exact aV _ _ | apply aa | apply aU | apply ar | apply aK | apply ak | apply aS | apply aW | apply aX | apply aO | apply aJ)
  obtain ⟨hi, hq⟩ := hii
  have e1 := nN v.list
  repeat' ((conv => whnf); first | with_reducible (first | refine bg (fun j q h => ?_) fun h => ?_ | refine go2 ⟨rfl, rfl⟩ (fun h => ?_) fun j h => ?_ | refine go2 ?_ (fun h => ?_) fun j h => ?_ | refine aL ?_ (fun h => ?_) fun h => ?_) | apply ai | apply aT | apply aw | ((first | apply aj | apply bB | apply bC | apply bm | apply bc) <;> intro h) | with_reducible (first | refine aQ.mk _ rfl ?_ | refine bL ?_ ?_ | refine bM ?_ ?_ | refine pT ?_ ?_ | refine bn ?_ fun hc => ?_ | refine bo ?_ fun hc => ?_ | refine aY ?_ fun hc => ?_ | refine b9 ?_ fun hc => ?_ | apply bd | apply bf | refine b6 ?_ fun b hb => ?_) | apply b7 | apply bh | apply bp | apply bq | apply br | apply goN | apply bz | with_reducible refine bA ?_)
  all_goals try conv => whnf
  all_goals try (refine a8.mk ?_; try dsimp only)
  all_goals first | refine stay ?_ | trivial | omega | (simp (discharger := omega) only [wR]; omega) | (simp only [ax]; omega) | (simp (discharger := omega) [-List.getD_eq_getElem?_getD, wR] <;> omega) | skip
  all_goals (have hwd : IntKind.i64.wrap (d + 1) = d + 1 := by rw [iO]; omega)
  all_goals (try simp only [aN, bU] at *)
  all_goals rw [nN] at *
  all_goals (try simp only [hwd] at *)
  all_goals first
   | (exfalso; omega)
   | (have hlt : i < v.list.length := by omega
      have q1 := vb hlt
      have q2 := K0 hlt
      have q3 := kP v
      exact ⟨az _, by omega, by omega, by omega, by omega⟩)
   | (have q3 := kP v
      refine ⟨aH _, by omega, by omega, by omega, ?_⟩
      rcases hem with h | h
      . exact .inl (by omega)
      . exact .inr (List.length_eq_zero_iff.1 h))
   | (have hlt : i < v.list.length := by omega
      rw [yf hlt, if_neg (by simpa using ‹_›)] at hq
      refine ⟨[], i + 1, ⟨by omega, hq⟩, ?_, by omega⟩
      refine Go.VG.Sub.mk rfl ?_ ?_ ?_ ?_ <;> (repeat' first | trivial | rfl | exact aV _ _ | apply aa | apply aU | apply ar | apply aK | apply ak | apply aS | apply aW | apply aX | apply aO | apply aJ)
      all_goals (first | omega | (simp (discharger := omega) only [wR]; omega) | (simp only [ax]; omega) | (simp (discharger := omega) [-List.getD_eq_getElem?_getD, wR] <;> omega))
     )
   | (have hlt : i < v.list.length := by omega
      rw [yf hlt, if_pos (by assumption)] at hq
      rw [hc, ← hq, if_pos (by assumption)]
      refine ab.mk [] ?_ <;> (repeat' first | trivial | rfl | exact aV _ _ | apply aa | apply aU | apply ar | apply aK | apply ak | apply aS | apply aW | apply aX | apply aO | apply aJ)
     )
   | (have hlt : v.list.length ≤ i := by omega
      rw [List.drop_of_length_le (by omega), gP] at hq
      rw [hc, ← hq, if_neg (by simp)]
      refine ab.mk [] ?_ <;> (repeat' first | trivial | rfl | exact aV _ _ | apply aa | apply aU | apply ar | apply aK | apply ak | apply aS | apply aW | apply aX | apply aO | apply aJ)
     )
   )
theorem D6 {k : Nat} (h1 : aE 5 (nk (k + 1))) (m : List aD) (d : Int) (hk : cM m < k + 1) (hs : dq m ≤ 300000) (hd0 : 0 ≤ d) (hd1 : d ≤ 16 ∨ m = []) : OK 14 [.list false 7 (d8 m), .int .i64 d] [] (.int .i64 (gQ m none d)) none := by
 refine aI (C := cx [(25, wH), (5, nk (k + 1))]) (aG ⟨GN, h1, trivial⟩) (fn := Tryd.f14) rfl rfl rfl rfl fun hw _ => ?_
 have hb : m.length ≤ 9223372036854775807 := by have := hw.1.1; rw [lp] at this; exact this
 refine cB.mk Nat (fun i => i ≤ m.length ∧ gQ (m.drop i) (if i = 0 then none else some (m.getD (i - 1) default).key) d = gQ m none d) (fun i => ⟨49, [(5, .int .i64 i), (0, .list false 7 (d8 m)), (1, .int .i64 d)], [], []⟩) (fun i => m.length - i) [] 0 ⟨Nat.zero_le _, rfl⟩ ?_ (fun i hii _ _ => ?_)
 . refine Go.VG.Sub.mk rfl ?_ ?_ ?_ ?_ <;> (repeat' first | trivial | rfl | exact aV _ _ | apply aa | apply aU | apply ar | apply aK | apply ak | apply aS | apply aW | apply aX | apply aO | apply aJ)
 obtain ⟨hi, hq⟩ := hii
 have e1 := lp m
 repeat' ((conv => whnf); first | with_reducible (first | refine bg (fun j q h => ?_) fun h => ?_ | refine go2 ⟨rfl, rfl⟩ (fun h => ?_) fun j h => ?_ | refine go2 ?_ (fun h => ?_) fun j h => ?_ | refine aL ?_ (fun h => ?_) fun h => ?_) | apply ai | apply aT | apply aw | ((first | apply aj | apply bB | apply bC | apply bm | apply bc) <;> intro h) | with_reducible (first | refine aQ.mk _ rfl ?_ | refine bL ?_ ?_ | refine bM ?_ ?_ | refine pT ?_ ?_ | refine bn ?_ fun hc => ?_ | refine bo ?_ fun hc => ?_ | refine aY ?_ fun hc => ?_ | refine b9 ?_ fun hc => ?_ | apply bd | apply bf | refine b6 ?_ fun b hb => ?_) | apply b7 | apply bh | apply bp | apply bq | apply br | apply goN | apply bz | with_reducible refine bA ?_)
 all_goals try conv => whnf
 all_goals try (refine a8.mk ?_; try dsimp only)
 all_goals first | refine stay ?_ | trivial | omega | (simp (discharger := omega) only [wR]; omega) | (simp only [ax]; omega) | (simp (discharger := omega) [-List.getD_eq_getElem?_getD, wR] <;> omega) | skip
 all_goals (try simp only [aN] at *)
 all_goals rw [lp] at *
 all_goals first
  | (show ab _ _ _ _ _ _; skip)
  | (have hwi : IntKind.i64.wrap ((i : Int) - 1) = ((i - 1 : Nat) : Int) := by rw [iO]; omega
     rw [hwi, Int.toNat_natCast]; omega)
  | (have hlt : i < m.length := by omega
     have q2 := BM hlt
     omega)
  | (have hlt : i < m.length := by omega
     have q1 := ve hlt
     have q2 := BM hlt
     refine ⟨az _, by omega, by omega, by omega, ?_⟩
     rcases hd1 with h | h
     . exact h
     . subst h; simp at hlt)
  | skip
 . have hlt : i < m.length := by omega
   have hwi : (IntKind.i64.wrap ((i : Int) - 1)).toNat = i - 1 := by rw [iO]; omega
   have hl := h
   rw [hwi] at hl
   have hA : iR (m.getD i default) (if i = 0 then none else some (m.getD (i - 1) default).key) d = 12 := by
    rw [nF, if_neg (by simpa using ‹_›), if_neg (by omega : ¬ i = 0), if_pos (show (some (m.getD (i - 1) default).key).any (fun q => iY (m.getD i default).key q) = true from hl)]
   rw [nG hlt, hA, if_pos (by decide)] at hq
   rw [← hq]
   refine ab.mk [] ?_ <;> (repeat' first | trivial | rfl | exact aV _ _ | apply aa | apply aU | apply ar | apply aK | apply ak | apply aS | apply aW | apply aX | apply aO | apply aJ)
 . have hlt : i < m.length := by omega
   have hwi : (IntKind.i64.wrap ((i : Int) - 1)).toNat = i - 1 := by rw [iO]; omega
   rename_i hk0 _ hl
   have hz := h
   rw [hwi] at hl
   have hl : iY (m.getD i default).key (m.getD (i - 1) default).key = false := hl
   have hA : iR (m.getD i default) (if i = 0 then none else some (m.getD (i - 1) default).key) d = 0 := by
    rw [nF, if_neg (by simpa using hk0), if_neg (by omega : ¬ i = 0), if_neg (show ¬ (some (m.getD (i - 1) default).key).any (fun q => iY (m.getD i default).key q) = true from fun e => by have e : iY (m.getD i default).key (m.getD (i - 1) default).key = true := e; rw [hl] at e; cases e), hz]
   rw [nG hlt, hA, if_neg (by decide)] at hq
   refine ⟨[], i + 1, ⟨by omega, hq⟩, ?_, by omega⟩
   refine Go.VG.Sub.mk rfl ?_ ?_ ?_ ?_ <;> (repeat' first | trivial | rfl | exact aV _ _ | apply aa | apply aU | apply ar | apply aK | apply ak | apply aS | apply aW | apply aX | apply aO | apply aJ)
   all_goals (first | omega | (simp (discharger := omega) only [wR]; omega) | (simp only [ax]; omega) | (simp (discharger := omega) [-List.getD_eq_getElem?_getD, wR] <;> omega))
 . have hlt : i < m.length := by omega
   have hwi : (IntKind.i64.wrap ((i : Int) - 1)).toNat = i - 1 := by rw [iO]; omega
   rename_i hk0 _ hl
   have hz := h
   rw [hwi] at hl
   have hl : iY (m.getD i default).key (m.getD (i - 1) default).key = false := hl
   have hA : iR (m.getD i default) (if i = 0 then none else some (m.getD (i - 1) default).key) d = eU (m.getD i default).value d := by
    rw [nF, if_neg (by simpa using hk0), if_neg (by omega : ¬ i = 0), if_neg (show ¬ (some (m.getD (i - 1) default).key).any (fun q => iY (m.getD i default).key q) = true from fun e => by have e : iY (m.getD i default).key (m.getD (i - 1) default).key = true := e; rw [hl] at e; cases e)]
   rw [nG hlt, hA, if_pos hz] at hq
   rw [← hq]
   refine ab.mk [] ?_ <;> (repeat' first | trivial | rfl | exact aV _ _ | apply aa | apply aU | apply ar | apply aK | apply ak | apply aS | apply aW | apply aX | apply aO | apply aJ)
 . have hlt : i < m.length := by omega
   rename_i hk0 _
   have hz := h
   obtain rfl : i = 0 := by omega
   have hA : iR (m.getD 0 default) none d = 0 := by
    rw [nF, if_neg (by simpa using hk0), if_neg (by simp), hz]
   rw [nG hlt, if_pos rfl, hA, if_neg (by decide)] at hq
   refine ⟨[], 0 + 1, ⟨by omega, hq⟩, ?_, by omega⟩
   refine Go.VG.Sub.mk rfl ?_ ?_ ?_ ?_ <;> (repeat' first | trivial | rfl | exact aV _ _ | apply aa | apply aU | apply ar | apply aK | apply ak | apply aS | apply aW | apply aX | apply aO | apply aJ)
   all_goals (first | omega | (simp (discharger := omega) only [wR]; omega) | (simp only [ax]; omega) | (simp (discharger := omega) [-List.getD_eq_getElem?_getD, wR] <;> omega))
 . have hlt : i < m.length := by omega
   rename_i hk0 _
   have hz := h
   obtain rfl : i = 0 := by omega
   have hA : iR (m.getD 0 default) none d = eU (m.getD 0 default).value d := by
    rw [nF, if_neg (by simpa using hk0), if_neg (by simp)]
   rw [nG hlt, if_pos rfl, hA, if_pos hz] at hq
   rw [← hq]
   refine ab.mk [] ?_ <;> (repeat' first | trivial | rfl | exact aV _ _ | apply aa | apply aU | apply ar | apply aK | apply ak | apply aS | apply aW | apply aX | apply aO | apply aJ)
 . have hlt : i < m.length := by omega
   have hk0 := h
   have hA : iR (m.getD i default) (if i = 0 then none else some (m.getD (i - 1) default).key) d = jg (m.getD i default).key := by
    rw [nF, if_pos hk0]
   rw [nG hlt, hA, if_pos hk0] at hq
   rw [← hq]
   refine ab.mk [] ?_ <;> (repeat' first | trivial | rfl | exact aV _ _ | apply aa | apply aU | apply ar | apply aK | apply ak | apply aS | apply aW | apply aX | apply aO | apply aJ)
 . rw [List.drop_of_length_le (by omega), gQ] at hq
   rw [← hq]
   refine ab.mk [] ?_ <;> (repeat' first | trivial | rfl | exact aV _ _ | apply aa | apply aU | apply ar | apply aK | apply ak | apply aS | apply aW | apply aX | apply aO | apply aJ)
theorem yg : ∀ k : Nat, aE 5 (nk k) ∧ aE 14 (qE k)
 | 0 => ⟨BO fun _ _ h => by omega, BN fun _ _ h => by omega⟩
 | k + 1 => by
   have ih := yg k
   have h1 := BO (k := k + 1) fun v n hk hs h0 h1 => D8 ih.1 ih.2 v n hk hs h0 h1
   exact ⟨h1, BN fun m n hk hs h0 hn => D6 h1 m n hk hs h0 hn⟩
def vS : Sm := fun args σ => match args, σ with
 | [x, .int .i64 d], [] => some (fM x ∧ (bW x).size ≤ 300000 ∧ 0 ≤ d ∧ d ≤ 16, .int .i64 (eU (bW x) d), none)
 | _, _ => none
theorem k_Chk : aE 5 vS := by
 intro args sg pre x r he hp
 unfold vS at he
 split at he <;> cases he
 rename_i y q
 exact (yg ((bW y).nodes + 1)).1 [y, .int .i64 q] [] _ _ _ rfl ⟨hp.1, Nat.lt_succ_self _, hp.2.1, hp.2.2.1, hp.2.2.2⟩
end Go.Proofs.YtllncocibkgjkaaDoor
