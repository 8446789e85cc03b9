/-
  A part of the proof.
-/
import Derived.Test.YtllncocibkgjkaaDoorPQuote
import Derived.Test.YtllncocibkgjkaaDoorPWord
import Derived.Test.YtllncocibkgjkaaDoorTxt
set_option linter.unusedSimpArgs false
set_option linter.unusedVariables false
set_option maxHeartbeats 4000000
namespace Go.Proofs.YtllncocibkgjkaaDoor
open Go Go.VG
set_option maxRecDepth 100000
theorem Fs (n : Int) : OK 35 [.int .i64 n] [] (.str (jt n)) none := by
 refine aI (C := cx []) (aG trivial) (fn := Tryd.f35) rfl rfl rfl rfl fun _ _ => ?_
 repeat' ((conv => whnf); first | with_reducible (first | refine bg (fun j q h => ?_) fun h => ?_ | refine go2 ⟨rfl, rfl⟩ (fun h => ?_) fun j h => ?_ | refine go2 ?_ (fun h => ?_) fun j h => ?_ | refine aL ?_ (fun h => ?_) fun h => ?_) | apply ai | apply aT | apply aw | ((first | apply aj | apply bB | apply bC | apply bm | apply bc) <;> intro h) | with_reducible (first | refine aQ.mk _ rfl ?_ | refine bL ?_ ?_ | refine bM ?_ ?_ | refine bn ?_ fun hc => ?_ | refine bo ?_ fun hc => ?_ | refine aY ?_ fun hc => ?_ | refine b9 ?_ fun hc => ?_ | apply bd | apply bf | refine b6 ?_ fun b hb => ?_) | apply b7 | apply bh | apply bp | apply bq | apply br | apply goN | apply bz | with_reducible refine bA ?_)
 all_goals try conv => whnf
 all_goals try (refine a8.mk ?_; try dsimp only)
 all_goals first | refine stay ?_ | ((refine And.intro (az _) ?_; simp only [aN]; repeat' (refine And.intro ?_ ?_)); all_goals (first | assumption | omega); done) | ((refine And.intro (aH _) ?_; simp only [bU]; repeat' (refine And.intro ?_ ?_)); all_goals (first | assumption | omega); done) | (exact az _) | (exact aH _) | (exact cq _) | trivial | omega | (simp (discharger := omega) only [wR]; omega) | (simp only [ax]; omega) | (simp (discharger := omega) [-List.getD_eq_getElem?_getD, wR] <;> omega) | skip
 . refine ab.mk [] ?_ <;> (repeat' first | trivial | rfl | exact aV _ _ | apply aa | apply aU | apply ar | apply aK | apply ak | apply aS | apply aW | apply aX | apply aO | apply aJ)
   unfold jt; rw [if_pos (by assumption)]
 . refine ab.mk [] ?_ <;> (repeat' first | trivial | rfl | exact aV _ _ | apply aa | apply aU | apply ar | apply aK | apply ak | apply aS | apply aW | apply aX | apply aO | apply aJ)
   unfold jt; rw [if_neg (by assumption)]
def wO : Sm := fun args σ => match args, σ with
 | [.int .i64 q], [] => some (True, .str (jt q), none)
 | _, _ => none
theorem GU : aE 35 wO := by
 intro args sg pre x r he hp
 unfold wO at he
 split at he <;> cases he
 exact Fs _
def l0 (v : ah) : V := if v.kind = 0 then .iface 63 (.str [110, 117, 108, 108]) else if v.kind = 1 then .iface 62 (.str v.text) else if v.kind = 2 then .iface 63 (.str (jt v.num))
 else if v.kind = 3 then .iface 63 (.str (fK v.num)) else if v.kind = 4 then .iface 62 (.str (j8 v.bits)) else if v.kind = 5 then .iface 62 (.str (ey v.text))
 else if v.kind = 6 then .iface 72 (.list false 6 (eM v.list)) else if v.kind = 7 then .iface 73 (.list false 7 (d8 v.map)) else .iface 63 (.str [])
theorem Fe (v : ah) (hs : v.text.length ≤ 1000000) : OK 26 [ev v] [] (l0 v) none := by
 refine aI (C := cx [(35, wO), (36, wa), (37, wb), (38, qJ)]) (aG ⟨GU, Gr, Gs, uG, trivial⟩) (fn := Tryd.f26) rfl rfl rfl rfl fun hw _ => ?_
 have hb := tp hw.1
 repeat' ((conv => whnf); first | with_reducible (first | refine bg (fun j q h => ?_) fun h => ?_ | refine go2 ⟨rfl, rfl⟩ (fun h => ?_) fun j h => ?_ | refine go2 ?_ (fun h => ?_) fun j h => ?_ | refine aL ?_ (fun h => ?_) fun h => ?_) | apply ai | apply aT | apply aw | ((first | apply aj | apply bB | apply bC | apply bm | apply bc) <;> intro h) | with_reducible (first | refine aQ.mk _ rfl ?_ | refine bL ?_ ?_ | refine bM ?_ ?_ | refine bn ?_ fun hc => ?_ | refine bo ?_ fun hc => ?_ | refine aY ?_ fun hc => ?_ | refine b9 ?_ fun hc => ?_ | apply bd | apply bf | refine b6 ?_ fun b hb => ?_) | apply b7 | apply bh | apply bp | apply bq | apply br | apply goN | apply bz | with_reducible refine bA ?_)
 all_goals try conv => whnf
 all_goals try (refine a8.mk ?_; try dsimp only)
 all_goals first | refine stay ?_ | ((refine And.intro (az _) ?_; simp only [aN]; repeat' (refine And.intro ?_ ?_)); all_goals (first | assumption | omega); done) | ((refine And.intro (aH _) ?_; simp only [bU]; repeat' (refine And.intro ?_ ?_)); all_goals (first | assumption | omega); done) | (exact az _) | (exact aH _) | (exact cq _) | trivial | omega | (simp (discharger := omega) only [wR]; omega) | (simp only [ax]; omega) | (simp (discharger := omega) [-List.getD_eq_getElem?_getD, wR] <;> omega) | skip
 all_goals
  unfold l0
  repeat' (first | rw [if_pos (by assumption)] | rw [if_neg (by assumption)])
  refine ab.mk [] ?_ <;> (repeat' first | trivial | rfl | exact aV _ _ | apply aa | apply aU | apply ar | apply aK | apply ak | apply aS | apply aW | apply aX | apply aO | apply aJ)
def sY : Sm := fun args σ => match args, σ with
 | [x], [] => some (fM x ∧ (bW x).text.length ≤ 1000000, l0 (bW x), none)
 | _, _ => none
theorem zN : aE 26 sY := by
 intro args sg pre x r he hp
 unfold sY at he
 split at he <;> cases he
 exact (Fe _ hp.2).args (aM.cons hp.1 aM.nil)
def qG (k : Nat) : Sm := fun args σ => match args, σ with
 | [.buf 0, x], [.buf 1 0 l] => some (fM x ∧ (bW x).ok ∧ (bW x).nodes < k ∧ (bW x).size ≤ 300000 ∧ l.length + 120 * (bW x).size ≤ 2000000000, .buf 0, some [.buf 1 0 (l ++ bl (json (bW x)))])
 | _, _ => none
theorem BQ {k : Nat} (h : ∀ v l, v.ok → v.nodes < k → v.size ≤ 300000 → l.length + 120 * v.size ≤ 2000000000 → OK 22 [.buf 0, ev v] [.buf 1 0 l] (.buf 0) (some [.buf 1 0 (l ++ bl (json v))])) : aE 22 (qG k) := by
 intro args sg pre x r he hp
 unfold qG at he
 split at he <;> cases he
 exact (h _ _ hp.2.1 hp.2.2.1 hp.2.2.2.1 hp.2.2.2.2).args (aM.cons (Wk.refl _) (aM.cons hp.1 aM.nil))
theorem I8 {l : List ah} (h : ec l) {i : Nat} (hi : i < l.length) : (l.getD i default).ok := by
 induction l generalizing i with
 | nil => simp at hi
 | cons v r ih =>
   simp only [ec] at h
   cases i with
   | zero => exact h.1
   | succ i => exact ih h.2 (by simpa using hi)
theorem Ia {l : List aD} (h : eh l) {i : Nat} (hi : i < l.length) : (l.getD i default).value.ok := by
 induction l generalizing i with
 | nil => simp at hi
 | cons v r ih =>
   simp only [eh] at h
   cases i with
   | zero => have := h.1; cases v; exact this
   | succ i => exact ih h.2 (by simpa using hi)
theorem ok_eq {v : ah} (h : v.ok) : (0 ≤ v.kind ∧ v.kind ≤ 255) ∧ (-9223372036854775808 ≤ v.num ∧ v.num ≤ 9223372036854775807) ∧ (0 ≤ v.bits ∧ v.bits ≤ 18446744073709551615) ∧ ec v.list ∧ eh v.map := by cases v; exact h
theorem K3 {l : List ah} {i : Nat} (h : i < l.length) : dK (l.take i) + (l.getD i default).size ≤ dK l := by
 induction l generalizing i with
 | nil => simp at h
 | cons v r ih =>
   cases i with
   | zero => simp [dK]
   | succ i => have := ih (i := i) (by simpa using h); simp only [dK, List.getD_cons_succ, List.take_succ_cons]; omega
theorem K4 {l : List aD} {i : Nat} (h : i < l.length) : dq (l.take i) + ((l.getD i default).key.length + (l.getD i default).value.size) ≤ dq l := by
 induction l generalizing i with
 | nil => simp at h
 | cons v r ih =>
   cases i with
   | zero => simp [dq, BL]
   | succ i => have := ih (i := i) (by simpa using h); simp only [dq, List.getD_cons_succ, List.take_succ_cons]; omega
theorem I9 {l : List ah} (h : ec l) (i : Nat) : ec (l.take i) := by
 induction l generalizing i with
 | nil => simpa using h
 | cons v r ih =>
   simp only [ec] at h
   cases i with
   | zero => simp [ec]
   | succ i => simp only [List.take_succ_cons, ec]; exact ⟨h.1, ih h.2 i⟩
theorem Ib {l : List aD} (h : eh l) (i : Nat) : eh (l.take i) := by
 induction l generalizing i with
 | nil => simpa using h
 | cons v r ih =>
   simp only [eh] at h
   cases i with
   | zero => simp [eh]
   | succ i => simp only [List.take_succ_cons, eh]; exact ⟨h.1, ih h.2 i⟩
set_option maxHeartbeats 4000000 in
theorem f_lay {k : Nat} (ih : aE 22 (qG k)) (v : ah) (l : List V) (hok : v.ok) (hk : v.nodes < k + 1) (hs : v.size ≤ 300000) (hl : l.length + 120 * v.size ≤ 2000000000) :
   OK 22 [.buf 0, ev v] [.buf 1 0 l] (.buf 0) (some [.buf 1 0 (l ++ bl (json v))]) := by
 refine aI (C := cx [(26, sY), (31, oP), (22, qG k)]) (aG ⟨zN, rW, ih, trivial⟩) (fn := Tryd.f22) rfl rfl rfl rfl fun hw _ => ?_
 have hb := tp hw.2.1
 have hz := size_eq v
 have hj := Gf v
 have hlen := pU v hok
 have ht : l0 v = l0 v := rfl
 rw (occs := .pos [2]) [l0] at ht
 have e1 := nN v.list
 have e2 := lp v.map
 by_cases h0 : v.kind = 0
 . rw [if_pos h0] at ht hj
   rw [hj]
   repeat' ((conv => whnf); first | with_reducible (first | refine bg (fun j q h => ?_) fun h => ?_ | refine go2 ⟨rfl, rfl⟩ (fun h => ?_) fun j h => ?_ | refine go2 ?_ (fun h => ?_) fun j h => ?_ | refine aL ?_ (fun h => ?_) fun h => ?_) | apply ai | apply aT | apply aw | ((first | apply aj | apply bB | apply bC | apply bm | apply bc) <;> intro h) | with_reducible (first | refine aQ.mk _ rfl ?_ | refine bL ?_ ?_ | refine bM ?_ ?_ | refine bn ?_ fun hc => ?_ | refine bo ?_ fun hc => ?_ | refine aY ?_ fun hc => ?_ | refine b9 ?_ fun hc => ?_ | apply bd | apply bf | refine b6 ?_ fun b hb => ?_) | apply b7 | apply bh | apply bp | apply bq | apply br | apply goN | apply bz | with_reducible refine bA ?_)
   all_goals try conv => whnf
   all_goals try (refine a8.mk ?_; try dsimp only)
   all_goals first | refine stay ?_ | ((refine And.intro (az _) ?_; simp only [aN]; repeat' (refine And.intro ?_ ?_)); all_goals (first | assumption | omega); done) | ((refine And.intro (aH _) ?_; simp only [bU]; repeat' (refine And.intro ?_ ?_)); all_goals (first | assumption | omega); done) | (exact az _) | (exact aH _) | (exact cq _) | trivial | omega | (simp (discharger := omega) only [wR]; omega) | (simp only [ax]; omega) | (simp (discharger := omega) [-List.getD_eq_getElem?_getD, wR] <;> omega) | skip
   simp only [aN, ht]
   repeat' ((conv => whnf); first | with_reducible (first | refine bg (fun j q h => ?_) fun h => ?_ | refine go2 ⟨rfl, rfl⟩ (fun h => ?_) fun j h => ?_ | refine go2 ?_ (fun h => ?_) fun j h => ?_ | refine aL ?_ (fun h => ?_) fun h => ?_) | apply ai | apply aT | apply aw | ((first | apply aj | apply bB | apply bC | apply bm | apply bc) <;> intro h) | with_reducible (first | refine aQ.mk _ rfl ?_ | refine bL ?_ ?_ | refine bM ?_ ?_ | refine bn ?_ fun hc => ?_ | refine bo ?_ fun hc => ?_ | refine aY ?_ fun hc => ?_ | refine b9 ?_ fun hc => ?_ | apply bd | apply bf | refine b6 ?_ fun b hb => ?_) | apply b7 | apply bh | apply bp | apply bq | apply br | apply goN | apply bz | with_reducible refine bA ?_)
   all_goals try conv => whnf
   all_goals try (refine a8.mk ?_; try dsimp only)
   all_goals first | refine stay ?_ | ((refine And.intro (az _) ?_; simp only [aN]; repeat' (refine And.intro ?_ ?_)); all_goals (first | assumption | omega); done) | ((refine And.intro (aH _) ?_; simp only [bU]; repeat' (refine And.intro ?_ ?_)); all_goals (first | assumption | omega); done) | (exact az _) | (exact aH _) | (exact cq _) | trivial | omega | (simp (discharger := omega) only [wR]; omega) | (simp only [ax]; omega) | (simp (discharger := omega) [-List.getD_eq_getElem?_getD, wR] <;> omega) | skip
   refine ab.mk [] ?_ <;> (repeat' first | trivial | rfl | exact aV _ _ | apply aa | apply aU | apply ar | apply aK | apply ak | apply aS | apply aW | apply aX | apply aO | apply aJ)
 rw [if_neg h0] at ht hj
 by_cases h1 : v.kind = 1
 . rw [if_pos h1] at ht hj
   rw [hj] at hlen
   rw [hj]
   have h21 := kG v.text
   repeat' ((conv => whnf); first | with_reducible (first | refine bg (fun j q h => ?_) fun h => ?_ | refine go2 ⟨rfl, rfl⟩ (fun h => ?_) fun j h => ?_ | refine go2 ?_ (fun h => ?_) fun j h => ?_ | refine aL ?_ (fun h => ?_) fun h => ?_) | apply ai | apply aT | apply aw | ((first | apply aj | apply bB | apply bC | apply bm | apply bc) <;> intro h) | with_reducible (first | refine aQ.mk _ rfl ?_ | refine bL ?_ ?_ | refine bM ?_ ?_ | refine bn ?_ fun hc => ?_ | refine bo ?_ fun hc => ?_ | refine aY ?_ fun hc => ?_ | refine b9 ?_ fun hc => ?_ | apply bd | apply bf | refine b6 ?_ fun b hb => ?_) | apply b7 | apply bh | apply bp | apply bq | apply br | apply goN | apply bz | with_reducible refine bA ?_)
   all_goals try conv => whnf
   all_goals try (refine a8.mk ?_; try dsimp only)
   all_goals first | refine stay ?_ | ((refine And.intro (az _) ?_; simp only [aN]; repeat' (refine And.intro ?_ ?_)); all_goals (first | assumption | omega); done) | ((refine And.intro (aH _) ?_; simp only [bU]; repeat' (refine And.intro ?_ ?_)); all_goals (first | assumption | omega); done) | (exact az _) | (exact aH _) | (exact cq _) | trivial | omega | (simp (discharger := omega) only [wR]; omega) | (simp only [ax]; omega) | (simp (discharger := omega) [-List.getD_eq_getElem?_getD, wR] <;> omega) | skip
   simp only [aN, ht]
   repeat' ((conv => whnf); first | with_reducible (first | refine bg (fun j q h => ?_) fun h => ?_ | refine go2 ⟨rfl, rfl⟩ (fun h => ?_) fun j h => ?_ | refine go2 ?_ (fun h => ?_) fun j h => ?_ | refine aL ?_ (fun h => ?_) fun h => ?_) | apply ai | apply aT | apply aw | ((first | apply aj | apply bB | apply bC | apply bm | apply bc) <;> intro h) | with_reducible (first | refine aQ.mk _ rfl ?_ | refine bL ?_ ?_ | refine bM ?_ ?_ | refine bn ?_ fun hc => ?_ | refine bo ?_ fun hc => ?_ | refine aY ?_ fun hc => ?_ | refine b9 ?_ fun hc => ?_ | apply bd | apply bf | refine b6 ?_ fun b hb => ?_) | apply b7 | apply bh | apply bp | apply bq | apply br | apply goN | apply bz | with_reducible refine bA ?_)
   all_goals try conv => whnf
   all_goals try (refine a8.mk ?_; try dsimp only)
   all_goals first | refine stay ?_ | ((refine And.intro (az _) ?_; simp only [aN]; repeat' (refine And.intro ?_ ?_)); all_goals (first | assumption | omega); done) | ((refine And.intro (aH _) ?_; simp only [bU]; repeat' (refine And.intro ?_ ?_)); all_goals (first | assumption | omega); done) | (exact az _) | (exact aH _) | (exact cq _) | trivial | omega | (simp (discharger := omega) only [wR]; omega) | (simp only [ax]; omega) | (simp (discharger := omega) [-List.getD_eq_getElem?_getD, wR] <;> omega) | skip
   refine ab.mk [] ?_ <;> (repeat' first | trivial | rfl | exact aV _ _ | apply aa | apply aU | apply ar | apply aK | apply ak | apply aS | apply aW | apply aX | apply aO | apply aJ)
 rw [if_neg h1] at ht hj
 by_cases h2 : v.kind = 2
 . rw [if_pos h2] at ht hj
   rw [hj] at hlen
   rw [hj]
   have h21 := kG v.text
   repeat' ((conv => whnf); first | with_reducible (first | refine bg (fun j q h => ?_) fun h => ?_ | refine go2 ⟨rfl, rfl⟩ (fun h => ?_) fun j h => ?_ | refine go2 ?_ (fun h => ?_) fun j h => ?_ | refine aL ?_ (fun h => ?_) fun h => ?_) | apply ai | apply aT | apply aw | ((first | apply aj | apply bB | apply bC | apply bm | apply bc) <;> intro h) | with_reducible (first | refine aQ.mk _ rfl ?_ | refine bL ?_ ?_ | refine bM ?_ ?_ | refine bn ?_ fun hc => ?_ | refine bo ?_ fun hc => ?_ | refine aY ?_ fun hc => ?_ | refine b9 ?_ fun hc => ?_ | apply bd | apply bf | refine b6 ?_ fun b hb => ?_) | apply b7 | apply bh | apply bp | apply bq | apply br | apply goN | apply bz | with_reducible refine bA ?_)
   all_goals try conv => whnf
   all_goals try (refine a8.mk ?_; try dsimp only)
   all_goals first | refine stay ?_ | ((refine And.intro (az _) ?_; simp only [aN]; repeat' (refine And.intro ?_ ?_)); all_goals (first | assumption | omega); done) | ((refine And.intro (aH _) ?_; simp only [bU]; repeat' (refine And.intro ?_ ?_)); all_goals (first | assumption | omega); done) | (exact az _) | (exact aH _) | (exact cq _) | trivial | omega | (simp (discharger := omega) only [wR]; omega) | (simp only [ax]; omega) | (simp (discharger := omega) [-List.getD_eq_getElem?_getD, wR] <;> omega) | skip
   simp only [aN, ht]
   repeat' ((conv => whnf); first | with_reducible (first | refine bg (fun j q h => ?_) fun h => ?_ | refine go2 ⟨rfl, rfl⟩ (fun h => ?_) fun j h => ?_ | refine go2 ?_ (fun h => ?_) fun j h => ?_ | refine aL ?_ (fun h => ?_) fun h => ?_) | apply ai | apply aT | apply aw | ((first | apply aj | apply bB | apply bC | apply bm | apply bc) <;> intro h) | with_reducible (first | refine aQ.mk _ rfl ?_ | refine bL ?_ ?_ | refine bM ?_ ?_ | refine bn ?_ fun hc => ?_ | refine bo ?_ fun hc => ?_ | refine aY ?_ fun hc => ?_ | refine b9 ?_ fun hc => ?_ | apply bd | apply bf | refine b6 ?_ fun b hb => ?_) | apply b7 | apply bh | apply bp | apply bq | apply br | apply goN | apply bz | with_reducible refine bA ?_)
   all_goals try conv => whnf
   all_goals try (refine a8.mk ?_; try dsimp only)
   all_goals first | refine stay ?_ | ((refine And.intro (az _) ?_; simp only [aN]; repeat' (refine And.intro ?_ ?_)); all_goals (first | assumption | omega); done) | ((refine And.intro (aH _) ?_; simp only [bU]; repeat' (refine And.intro ?_ ?_)); all_goals (first | assumption | omega); done) | (exact az _) | (exact aH _) | (exact cq _) | trivial | omega | (simp (discharger := omega) only [wR]; omega) | (simp only [ax]; omega) | (simp (discharger := omega) [-List.getD_eq_getElem?_getD, wR] <;> omega) | skip
   refine ab.mk [] ?_ <;> (repeat' first | trivial | rfl | exact aV _ _ | apply aa | apply aU | apply ar | apply aK | apply ak | apply aS | apply aW | apply aX | apply aO | apply aJ)
 rw [if_neg h2] at ht hj
 by_cases h3 : v.kind = 3
 . rw [if_pos h3] at ht hj
   rw [hj] at hlen
   rw [hj]
   have h21 := kG v.text
   repeat' ((conv => whnf); first | with_reducible (first | refine bg (fun j q h => ?_) fun h => ?_ | refine go2 ⟨rfl, rfl⟩ (fun h => ?_) fun j h => ?_ | refine go2 ?_ (fun h => ?_) fun j h => ?_ | refine aL ?_ (fun h => ?_) fun h => ?_) | apply ai | apply aT | apply aw | ((first | apply aj | apply bB | apply bC | apply bm | apply bc) <;> intro h) | with_reducible (first | refine aQ.mk _ rfl ?_ | refine bL ?_ ?_ | refine bM ?_ ?_ | refine bn ?_ fun hc => ?_ | refine bo ?_ fun hc => ?_ | refine aY ?_ fun hc => ?_ | refine b9 ?_ fun hc => ?_ | apply bd | apply bf | refine b6 ?_ fun b hb => ?_) | apply b7 | apply bh | apply bp | apply bq | apply br | apply goN | apply bz | with_reducible refine bA ?_)
   all_goals try conv => whnf
   all_goals try (refine a8.mk ?_; try dsimp only)
   all_goals first | refine stay ?_ | ((refine And.intro (az _) ?_; simp only [aN]; repeat' (refine And.intro ?_ ?_)); all_goals (first | assumption | omega); done) | ((refine And.intro (aH _) ?_; simp only [bU]; repeat' (refine And.intro ?_ ?_)); all_goals (first | assumption | omega); done) | (exact az _) | (exact aH _) | (exact cq _) | trivial | omega | (simp (discharger := omega) only [wR]; omega) | (simp only [ax]; omega) | (simp (discharger := omega) [-List.getD_eq_getElem?_getD, wR] <;> omega) | skip
   simp only [aN, ht]
   repeat' ((conv => whnf); first | with_reducible (first | refine bg (fun j q h => ?_) fun h => ?_ | refine go2 ⟨rfl, rfl⟩ (fun h => ?_) fun j h => ?_ | refine go2 ?_ (fun h => ?_) fun j h => ?_ | refine aL ?_ (fun h => ?_) fun h => ?_) | apply ai | apply aT | apply aw | ((first | apply aj | apply bB | apply bC | apply bm | apply bc) <;> intro h) | with_reducible (first | refine aQ.mk _ rfl ?_ | refine bL ?_ ?_ | refine bM ?_ ?_ | refine bn ?_ fun hc => ?_ | refine bo ?_ fun hc => ?_ | refine aY ?_ fun hc => ?_ | refine b9 ?_ fun hc => ?_ | apply bd | apply bf | refine b6 ?_ fun b hb => ?_) | apply b7 | apply bh | apply bp | apply bq | apply br | apply goN | apply bz | with_reducible refine bA ?_)
   all_goals try conv => whnf
   all_goals try (refine a8.mk ?_; try dsimp only)
   all_goals first | refine stay ?_ | ((refine And.intro (az _) ?_; simp only [aN]; repeat' (refine And.intro ?_ ?_)); all_goals (first | assumption | omega); done) | ((refine And.intro (aH _) ?_; simp only [bU]; repeat' (refine And.intro ?_ ?_)); all_goals (first | assumption | omega); done) | (exact az _) | (exact aH _) | (exact cq _) | trivial | omega | (simp (discharger := omega) only [wR]; omega) | (simp only [ax]; omega) | (simp (discharger := omega) [-List.getD_eq_getElem?_getD, wR] <;> omega) | skip
   refine ab.mk [] ?_ <;> (repeat' first | trivial | rfl | exact aV _ _ | apply aa | apply aU | apply ar | apply aK | apply ak | apply aS | apply aW | apply aX | apply aO | apply aJ)
 rw [if_neg h3] at ht hj
 by_cases h4 : v.kind = 4
 . rw [if_pos h4] at ht hj
   rw [hj] at hlen
   rw [hj]
   have h21 := yp v.bits
   repeat' ((conv => whnf); first | with_reducible (first | refine bg (fun j q h => ?_) fun h => ?_ | refine go2 ⟨rfl, rfl⟩ (fun h => ?_) fun j h => ?_ | refine go2 ?_ (fun h => ?_) fun j h => ?_ | refine aL ?_ (fun h => ?_) fun h => ?_) | apply ai | apply aT | apply aw | ((first | apply aj | apply bB | apply bC | apply bm | apply bc) <;> intro h) | with_reducible (first | refine aQ.mk _ rfl ?_ | refine bL ?_ ?_ | refine bM ?_ ?_ | refine bn ?_ fun hc => ?_ | refine bo ?_ fun hc => ?_ | refine aY ?_ fun hc => ?_ | refine b9 ?_ fun hc => ?_ | apply bd | apply bf | refine b6 ?_ fun b hb => ?_) | apply b7 | apply bh | apply bp | apply bq | apply br | apply goN | apply bz | with_reducible refine bA ?_)
   all_goals try conv => whnf
   all_goals try (refine a8.mk ?_; try dsimp only)
   all_goals first | refine stay ?_ | ((refine And.intro (az _) ?_; simp only [aN]; repeat' (refine And.intro ?_ ?_)); all_goals (first | assumption | omega); done) | ((refine And.intro (aH _) ?_; simp only [bU]; repeat' (refine And.intro ?_ ?_)); all_goals (first | assumption | omega); done) | (exact az _) | (exact aH _) | (exact cq _) | trivial | omega | (simp (discharger := omega) only [wR]; omega) | (simp only [ax]; omega) | (simp (discharger := omega) [-List.getD_eq_getElem?_getD, wR] <;> omega) | skip
   simp only [aN, ht]
   repeat' ((conv => whnf); first | with_reducible (first | refine bg (fun j q h => ?_) fun h => ?_ | refine go2 ⟨rfl, rfl⟩ (fun h => ?_) fun j h => ?_ | refine go2 ?_ (fun h => ?_) fun j h => ?_ | refine aL ?_ (fun h => ?_) fun h => ?_) | apply ai | apply aT | apply aw | ((first | apply aj | apply bB | apply bC | apply bm | apply bc) <;> intro h) | with_reducible (first | refine aQ.mk _ rfl ?_ | refine bL ?_ ?_ | refine bM ?_ ?_ | refine bn ?_ fun hc => ?_ | refine bo ?_ fun hc => ?_ | refine aY ?_ fun hc => ?_ | refine b9 ?_ fun hc => ?_ | apply bd | apply bf | refine b6 ?_ fun b hb => ?_) | apply b7 | apply bh | apply bp | apply bq | apply br | apply goN | apply bz | with_reducible refine bA ?_)
   all_goals try conv => whnf
   all_goals try (refine a8.mk ?_; try dsimp only)
   all_goals first | refine stay ?_ | ((refine And.intro (az _) ?_; simp only [aN]; repeat' (refine And.intro ?_ ?_)); all_goals (first | assumption | omega); done) | ((refine And.intro (aH _) ?_; simp only [bU]; repeat' (refine And.intro ?_ ?_)); all_goals (first | assumption | omega); done) | (exact az _) | (exact aH _) | (exact cq _) | trivial | omega | (simp (discharger := omega) only [wR]; omega) | (simp only [ax]; omega) | (simp (discharger := omega) [-List.getD_eq_getElem?_getD, wR] <;> omega) | skip
   refine ab.mk [] ?_ <;> (repeat' first | trivial | rfl | exact aV _ _ | apply aa | apply aU | apply ar | apply aK | apply ak | apply aS | apply aW | apply aX | apply aO | apply aJ)
 rw [if_neg h4] at ht hj
 by_cases h5 : v.kind = 5
 . rw [if_pos h5] at ht hj
   rw [hj] at hlen
   rw [hj]
   have h21 := kG v.text
   repeat' ((conv => whnf); first | with_reducible (first | refine bg (fun j q h => ?_) fun h => ?_ | refine go2 ⟨rfl, rfl⟩ (fun h => ?_) fun j h => ?_ | refine go2 ?_ (fun h => ?_) fun j h => ?_ | refine aL ?_ (fun h => ?_) fun h => ?_) | apply ai | apply aT | apply aw | ((first | apply aj | apply bB | apply bC | apply bm | apply bc) <;> intro h) | with_reducible (first | refine aQ.mk _ rfl ?_ | refine bL ?_ ?_ | refine bM ?_ ?_ | refine bn ?_ fun hc => ?_ | refine bo ?_ fun hc => ?_ | refine aY ?_ fun hc => ?_ | refine b9 ?_ fun hc => ?_ | apply bd | apply bf | refine b6 ?_ fun b hb => ?_) | apply b7 | apply bh | apply bp | apply bq | apply br | apply goN | apply bz | with_reducible refine bA ?_)
   all_goals try conv => whnf
   all_goals try (refine a8.mk ?_; try dsimp only)
   all_goals first | refine stay ?_ | ((refine And.intro (az _) ?_; simp only [aN]; repeat' (refine And.intro ?_ ?_)); all_goals (first | assumption | omega); done) | ((refine And.intro (aH _) ?_; simp only [bU]; repeat' (refine And.intro ?_ ?_)); all_goals (first | assumption | omega); done) | (exact az _) | (exact aH _) | (exact cq _) | trivial | omega | (simp (discharger := omega) only [wR]; omega) | (simp only [ax]; omega) | (simp (discharger := omega) [-List.getD_eq_getElem?_getD, wR] <;> omega) | skip
   simp only [aN, ht]
   repeat' ((conv => whnf); first | with_reducible (first | refine bg (fun j q h => ?_) fun h => ?_ | refine go2 ⟨rfl, rfl⟩ (fun h => ?_) fun j h => ?_ | refine go2 ?_ (fun h => ?_) fun j h => ?_ | refine aL ?_ (fun h => ?_) fun h => ?_) | apply ai | apply aT | apply aw | ((first | apply aj | apply bB | apply bC | apply bm | apply bc) <;> intro h) | with_reducible (first | refine aQ.mk _ rfl ?_ | refine bL ?_ ?_ | refine bM ?_ ?_ | refine bn ?_ fun hc => ?_ | refine bo ?_ fun hc => ?_ | refine aY ?_ fun hc => ?_ | refine b9 ?_ fun hc => ?_ | apply bd | apply bf | refine b6 ?_ fun b hb => ?_) | apply b7 | apply bh | apply bp | apply bq | apply br | apply goN | apply bz | with_reducible refine bA ?_)
   all_goals try conv => whnf
   all_goals try (refine a8.mk ?_; try dsimp only)
   all_goals first | refine stay ?_ | ((refine And.intro (az _) ?_; simp only [aN]; repeat' (refine And.intro ?_ ?_)); all_goals (first | assumption | omega); done) | ((refine And.intro (aH _) ?_; simp only [bU]; repeat' (refine And.intro ?_ ?_)); all_goals (first | assumption | omega); done) | (exact az _) | (exact aH _) | (exact cq _) | trivial | omega | (simp (discharger := omega) only [wR]; omega) | (simp only [ax]; omega) | (simp (discharger := omega) [-List.getD_eq_getElem?_getD, wR] <;> omega) | skip
   refine ab.mk [] ?_ <;> (repeat' first | trivial | rfl | exact aV _ _ | apply aa | apply aU | apply ar | apply aK | apply ak | apply aS | apply aW | apply aX | apply aO | apply aJ)
 rw [if_neg h5] at ht hj
 by_cases h6 : v.kind = 6
 . rw [if_pos h6] at ht hj
   rw [hj] at hlen
   simp only [List.length_cons, List.length_append, List.length_nil] at hlen
   rw [hj]
   repeat' ((conv => whnf); first | with_reducible (first | refine bg (fun j q h => ?_) fun h => ?_ | refine go2 ⟨rfl, rfl⟩ (fun h => ?_) fun j h => ?_ | refine go2 ?_ (fun h => ?_) fun j h => ?_ | refine aL ?_ (fun h => ?_) fun h => ?_) | apply ai | apply aT | apply aw | ((first | apply aj | apply bB | apply bC | apply bm | apply bc) <;> intro h) | with_reducible (first | refine aQ.mk _ rfl ?_ | refine bL ?_ ?_ | refine bM ?_ ?_ | refine bn ?_ fun hc => ?_ | refine bo ?_ fun hc => ?_ | refine aY ?_ fun hc => ?_ | refine b9 ?_ fun hc => ?_ | apply bd | apply bf | refine b6 ?_ fun b hb => ?_) | apply b7 | apply bh | apply bp | apply bq | apply br | apply goN | apply bz | with_reducible refine bA ?_)
   all_goals try conv => whnf
   all_goals try (refine a8.mk ?_; try dsimp only)
   all_goals first | refine stay ?_ | ((refine And.intro (az _) ?_; simp only [aN]; repeat' (refine And.intro ?_ ?_)); all_goals (first | assumption | omega); done) | ((refine And.intro (aH _) ?_; simp only [bU]; repeat' (refine And.intro ?_ ?_)); all_goals (first | assumption | omega); done) | (exact az _) | (exact aH _) | (exact cq _) | trivial | omega | (simp (discharger := omega) only [wR]; omega) | (simp only [ax]; omega) | (simp (discharger := omega) [-List.getD_eq_getElem?_getD, wR] <;> omega) | skip
   simp only [aN, ht]
   repeat' ((conv => whnf); first | with_reducible (first | refine bg (fun j q h => ?_) fun h => ?_ | refine go2 ⟨rfl, rfl⟩ (fun h => ?_) fun j h => ?_ | refine go2 ?_ (fun h => ?_) fun j h => ?_ | refine aL ?_ (fun h => ?_) fun h => ?_) | apply ai | apply aT | apply aw | ((first | apply aj | apply bB | apply bC | apply bm | apply bc) <;> intro h) | with_reducible (first | refine aQ.mk _ rfl ?_ | refine bL ?_ ?_ | refine bM ?_ ?_ | refine bn ?_ fun hc => ?_ | refine bo ?_ fun hc => ?_ | refine aY ?_ fun hc => ?_ | refine b9 ?_ fun hc => ?_ | apply bd | apply bf | refine b6 ?_ fun b hb => ?_) | apply b7 | apply bh | apply bp | apply bq | apply br | apply goN | apply bz | with_reducible refine bA ?_)
   all_goals try conv => whnf
   all_goals try (refine a8.mk ?_; try dsimp only)
   all_goals first | refine stay ?_ | ((refine And.intro (az _) ?_; simp only [aN]; repeat' (refine And.intro ?_ ?_)); all_goals (first | assumption | omega); done) | ((refine And.intro (aH _) ?_; simp only [bU]; repeat' (refine And.intro ?_ ?_)); all_goals (first | assumption | omega); done) | (exact az _) | (exact aH _) | (exact cq _) | trivial | omega | (simp (discharger := omega) only [wR]; omega) | (simp only [ax]; omega) | (simp (discharger := omega) [-List.getD_eq_getElem?_getD, wR] <;> omega) | skip
   have hok' := (ok_eq hok).2.2.2.1
   refine cB.mk Nat (fun i => i ≤ v.list.length) (fun i => ⟨84, [(0, .buf 0), (33, .list false 6 (eM v.list)), (34, .int .i64 (eM v.list).length), (35, .int .i64 i)], [.buf 1 0 (l ++ bl (91 :: gW (v.list.take i))), .cells (cv v)], [0]⟩) (fun i => v.list.length - i) [] 0 (Nat.zero_le _) ?_ (fun i hi _ _ => ?_)
   . refine Go.VG.Sub.mk rfl ?_ ?_ ?_ ?_ <;> (repeat' first | trivial | rfl | exact aV _ _ | apply aa | apply aU | apply ar | apply aK | apply ak | apply aS | apply aW | apply aX | apply aO | apply aJ)
   have hx : i < v.list.length → (gW (v.list.take i)).length + 120 * (v.list.getD i default).size ≤ 120 * dK v.list ∧ (v.list.getD i default).ok ∧ (v.list.getD i default).nodes < k ∧ (v.list.getD i default).size ≤ 300000 := fun h => by
    have q1 := K3 h
    have q2 := zC _ (I9 hok' i)
    have q3 := kP v
    have q4 := vb h
    exact ⟨by omega, I8 hok' h, by omega, by omega⟩
   repeat' ((conv => whnf); first | with_reducible (first | refine bg (fun j q h => ?_) fun h => ?_ | refine go2 ⟨rfl, rfl⟩ (fun h => ?_) fun j h => ?_ | refine go2 ?_ (fun h => ?_) fun j h => ?_ | refine aL ?_ (fun h => ?_) fun h => ?_) | apply ai | apply aT | apply aw | ((first | apply aj | apply bB | apply bC | apply bm | apply bc) <;> intro h) | with_reducible (first | refine aQ.mk _ rfl ?_ | refine bL ?_ ?_ | refine bM ?_ ?_ | refine bn ?_ fun hc => ?_ | refine bo ?_ fun hc => ?_ | refine aY ?_ fun hc => ?_ | refine b9 ?_ fun hc => ?_ | apply bd | apply bf | refine b6 ?_ fun b hb => ?_) | apply b7 | apply bh | apply bp | apply bq | apply br | apply goN | apply bz | with_reducible refine bA ?_)
   all_goals try conv => whnf
   all_goals try (refine a8.mk ?_; try dsimp only)
   all_goals first | refine stay ?_ | ((refine And.intro (az _) ?_; simp only [aN]; repeat' (refine And.intro ?_ ?_)); all_goals (first | assumption | omega); done) | ((refine And.intro (aH _) ?_; simp only [bU]; repeat' (refine And.intro ?_ ?_)); all_goals (first | assumption | omega); done) | (exact az _) | (exact aH _) | (exact cq _) | trivial | omega | (simp (discharger := omega) only [wR]; omega) | (simp only [ax]; omega) | (simp (discharger := omega) [-List.getD_eq_getElem?_getD, wR] <;> omega) | skip
   all_goals first
    | (have hlt : i < v.list.length := by omega
       obtain ⟨x1, x2, x3, x4⟩ := hx hlt
       refine ⟨az _, ?_⟩
       rw [aN]
       refine ⟨x2, x3, x4, ?_⟩
       simp only [List.length_append, cU, List.length_cons, List.length_nil]; omega)
    | (have hlt : i < v.list.length := by omega
       obtain ⟨x1, x2, x3, x4⟩ := hx hlt
       simp only [List.length_append, cU, List.length_cons, List.length_nil]; omega)
    | (refine ⟨[], i + 1, by omega, ?_, by omega⟩
       refine Go.VG.Sub.mk rfl ?_ ?_ ?_ ?_ <;> (repeat' first | trivial | rfl | exact aV _ _ | apply aa | apply aU | apply ar | apply aK | apply ak | apply aS | apply aW | apply aX | apply aO | apply aJ)
       . (first | omega | (simp (discharger := omega) only [wR]; omega) | (simp only [ax]; omega) | (simp (discharger := omega) [-List.getD_eq_getElem?_getD, wR] <;> omega))
       . rw [aN, Gc (by omega)]
         first
         | (rw [if_pos (by omega)]; simp [bl, dw, bv]; done)
         | (rw [if_neg (by omega)]; simp [bl, dw, bv]; done)
      )
    | skip
   . rw [List.take_of_length_le (by omega)]
     simp only [List.length_append, cU, List.length_cons, List.length_nil]; omega
   . refine ab.mk [] ?_ <;> (repeat' first | trivial | rfl | exact aV _ _ | apply aa | apply aU | apply ar | apply aK | apply ak | apply aS | apply aW | apply aX | apply aO | apply aJ)
     rw [List.take_of_length_le (by omega)]
     simp [bl, dw, bv]
 rw [if_neg h6] at ht hj
 by_cases h7 : v.kind = 7
 . rw [if_pos h7] at ht hj
   rw [hj] at hlen
   simp only [List.length_cons, List.length_append, List.length_nil] at hlen
   rw [hj]
   repeat' ((conv => whnf); first | with_reducible (first | refine bg (fun j q h => ?_) fun h => ?_ | refine go2 ⟨rfl, rfl⟩ (fun h => ?_) fun j h => ?_ | refine go2 ?_ (fun h => ?_) fun j h => ?_ | refine aL ?_ (fun h => ?_) fun h => ?_) | apply ai | apply aT | apply aw | ((first | apply aj | apply bB | apply bC | apply bm | apply bc) <;> intro h) | with_reducible (first | refine aQ.mk _ rfl ?_ | refine bL ?_ ?_ | refine bM ?_ ?_ | refine bn ?_ fun hc => ?_ | refine bo ?_ fun hc => ?_ | refine aY ?_ fun hc => ?_ | refine b9 ?_ fun hc => ?_ | apply bd | apply bf | refine b6 ?_ fun b hb => ?_) | apply b7 | apply bh | apply bp | apply bq | apply br | apply goN | apply bz | with_reducible refine bA ?_)
   all_goals try conv => whnf
   all_goals try (refine a8.mk ?_; try dsimp only)
   all_goals first | refine stay ?_ | ((refine And.intro (az _) ?_; simp only [aN]; repeat' (refine And.intro ?_ ?_)); all_goals (first | assumption | omega); done) | ((refine And.intro (aH _) ?_; simp only [bU]; repeat' (refine And.intro ?_ ?_)); all_goals (first | assumption | omega); done) | (exact az _) | (exact aH _) | (exact cq _) | trivial | omega | (simp (discharger := omega) only [wR]; omega) | (simp only [ax]; omega) | (simp (discharger := omega) [-List.getD_eq_getElem?_getD, wR] <;> omega) | skip
   simp only [aN, ht]
   repeat' ((conv => whnf); first | with_reducible (first | refine bg (fun j q h => ?_) fun h => ?_ | refine go2 ⟨rfl, rfl⟩ (fun h => ?_) fun j h => ?_ | refine go2 ?_ (fun h => ?_) fun j h => ?_ | refine aL ?_ (fun h => ?_) fun h => ?_) | apply ai | apply aT | apply aw | ((first | apply aj | apply bB | apply bC | apply bm | apply bc) <;> intro h) | with_reducible (first | refine aQ.mk _ rfl ?_ | refine bL ?_ ?_ | refine bM ?_ ?_ | refine bn ?_ fun hc => ?_ | refine bo ?_ fun hc => ?_ | refine aY ?_ fun hc => ?_ | refine b9 ?_ fun hc => ?_ | apply bd | apply bf | refine b6 ?_ fun b hb => ?_) | apply b7 | apply bh | apply bp | apply bq | apply br | apply goN | apply bz | with_reducible refine bA ?_)
   all_goals try conv => whnf
   all_goals try (refine a8.mk ?_; try dsimp only)
   all_goals first | refine stay ?_ | ((refine And.intro (az _) ?_; simp only [aN]; repeat' (refine And.intro ?_ ?_)); all_goals (first | assumption | omega); done) | ((refine And.intro (aH _) ?_; simp only [bU]; repeat' (refine And.intro ?_ ?_)); all_goals (first | assumption | omega); done) | (exact az _) | (exact aH _) | (exact cq _) | trivial | omega | (simp (discharger := omega) only [wR]; omega) | (simp only [ax]; omega) | (simp (discharger := omega) [-List.getD_eq_getElem?_getD, wR] <;> omega) | skip
   have hok' := (ok_eq hok).2.2.2.2
   refine cB.mk Nat (fun i => i ≤ v.map.length) (fun i => ⟨84, [(0, .buf 0), (58, .list false 7 (d8 v.map)), (59, .int .i64 (d8 v.map).length), (60, .int .i64 i)], [.buf 1 0 (l ++ bl (123 :: iB (v.map.take i))), .cells (cv v)], [0]⟩) (fun i => v.map.length - i) [] 0 (Nat.zero_le _) ?_ (fun i hi _ _ => ?_)
   . refine Go.VG.Sub.mk rfl ?_ ?_ ?_ ?_ <;> (repeat' first | trivial | rfl | exact aV _ _ | apply aa | apply aU | apply ar | apply aK | apply ak | apply aS | apply aW | apply aX | apply aO | apply aJ)
   have hx : i < v.map.length → ((iB (v.map.take i)).length + 120 * ((v.map.getD i default).key.length + (v.map.getD i default).value.size) ≤ 120 * dq v.map ∧ (quote (v.map.getD i default).key).length ≤ 6 * (v.map.getD i default).key.length + 2) ∧ (v.map.getD i default).value.ok ∧
      (v.map.getD i default).value.nodes < k ∧ (v.map.getD i default).value.size ≤ 300000 ∧ (v.map.getD i default).key.length ≤ 300000 := fun h => by
    have q1 := K4 h
    have q2 := zF _ (Ib hok' i)
    have q3 := kP v
    have q4 := ve h
    have q5 := nd (v.map.getD i default).key
    exact ⟨⟨by omega, by omega⟩, Ia hok' h, by omega, by omega, by omega⟩
   repeat' ((conv => whnf); first | with_reducible (first | refine bg (fun j q h => ?_) fun h => ?_ | refine go2 ⟨rfl, rfl⟩ (fun h => ?_) fun j h => ?_ | refine go2 ?_ (fun h => ?_) fun j h => ?_ | refine aL ?_ (fun h => ?_) fun h => ?_) | apply ai | apply aT | apply aw | ((first | apply aj | apply bB | apply bC | apply bm | apply bc) <;> intro h) | with_reducible (first | refine aQ.mk _ rfl ?_ | refine bL ?_ ?_ | refine bM ?_ ?_ | refine bn ?_ fun hc => ?_ | refine bo ?_ fun hc => ?_ | refine aY ?_ fun hc => ?_ | refine b9 ?_ fun hc => ?_ | apply bd | apply bf | refine b6 ?_ fun b hb => ?_) | apply b7 | apply bh | apply bp | apply bq | apply br | apply goN | apply bz | with_reducible refine bA ?_)
   all_goals try conv => whnf
   all_goals try (refine a8.mk ?_; try dsimp only)
   all_goals first | refine stay ?_ | ((refine And.intro (az _) ?_; simp only [aN]; repeat' (refine And.intro ?_ ?_)); all_goals (first | assumption | omega); done) | ((refine And.intro (aH _) ?_; simp only [bU]; repeat' (refine And.intro ?_ ?_)); all_goals (first | assumption | omega); done) | (exact az _) | (exact aH _) | (exact cq _) | trivial | omega | (simp (discharger := omega) only [wR]; omega) | (simp only [ax]; omega) | (simp (discharger := omega) [-List.getD_eq_getElem?_getD, wR] <;> omega) | skip
   all_goals first
    | (have hlt : i < v.map.length := by omega
       obtain ⟨⟨x1, x5⟩, x2, x3, x4, x6⟩ := hx hlt
       refine ⟨az _, ?_⟩
       rw [aN]
       refine ⟨x2, x3, x4, ?_⟩
       simp only [List.length_append, cU, List.length_cons, List.length_nil]; omega)
    | (have hlt : i < v.map.length := by omega
       obtain ⟨⟨x1, x5⟩, x2, x3, x4, x6⟩ := hx hlt
       simp only [List.length_append, cU, List.length_cons, List.length_nil]; omega)
    | (refine ⟨[], i + 1, by omega, ?_, by omega⟩
       refine Go.VG.Sub.mk rfl ?_ ?_ ?_ ?_ <;> (repeat' first | trivial | rfl | exact aV _ _ | apply aa | apply aU | apply ar | apply aK | apply ak | apply aS | apply aW | apply aX | apply aO | apply aJ)
       . (first | omega | (simp (discharger := omega) only [wR]; omega) | (simp only [ax]; omega) | (simp (discharger := omega) [-List.getD_eq_getElem?_getD, wR] <;> omega))
       . rw [aN, Ge (by omega), Gb]
         first
         | (rw [if_pos (by omega)]; simp [bl, dw, bv]; done)
         | (rw [if_neg (by omega)]; simp [bl, dw, bv]; done)
      )
    | skip
   . rw [List.take_of_length_le (by omega)]
     simp only [List.length_append, cU, List.length_cons, List.length_nil]; omega
   . refine ab.mk [] ?_ <;> (repeat' first | trivial | rfl | exact aV _ _ | apply aa | apply aU | apply ar | apply aK | apply ak | apply aS | apply aW | apply aX | apply aO | apply aJ)
     rw [List.take_of_length_le (by omega)]
     simp [bl, dw, bv]
 rw [if_neg h7] at ht hj
 rw [hj]
 repeat' ((conv => whnf); first | with_reducible (first | refine bg (fun j q h => ?_) fun h => ?_ | refine go2 ⟨rfl, rfl⟩ (fun h => ?_) fun j h => ?_ | refine go2 ?_ (fun h => ?_) fun j h => ?_ | refine aL ?_ (fun h => ?_) fun h => ?_) | apply ai | apply aT | apply aw | ((first | apply aj | apply bB | apply bC | apply bm | apply bc) <;> intro h) | with_reducible (first | refine aQ.mk _ rfl ?_ | refine bL ?_ ?_ | refine bM ?_ ?_ | refine bn ?_ fun hc => ?_ | refine bo ?_ fun hc => ?_ | refine aY ?_ fun hc => ?_ | refine b9 ?_ fun hc => ?_ | apply bd | apply bf | refine b6 ?_ fun b hb => ?_) | apply b7 | apply bh | apply bp | apply bq | apply br | apply goN | apply bz | with_reducible refine bA ?_)
 all_goals try conv => whnf
 all_goals try (refine a8.mk ?_; try dsimp only)
 all_goals first | refine stay ?_ | ((refine And.intro (az _) ?_; simp only [aN]; repeat' (refine And.intro ?_ ?_)); all_goals (first | assumption | omega); done) | ((refine And.intro (aH _) ?_; simp only [bU]; repeat' (refine And.intro ?_ ?_)); all_goals (first | assumption | omega); done) | (exact az _) | (exact aH _) | (exact cq _) | trivial | omega | (simp (discharger := omega) only [wR]; omega) | (simp only [ax]; omega) | (simp (discharger := omega) [-List.getD_eq_getElem?_getD, wR] <;> omega) | skip
 simp only [aN, ht]
 repeat' ((conv => whnf); first | with_reducible (first | refine bg (fun j q h => ?_) fun h => ?_ | refine go2 ⟨rfl, rfl⟩ (fun h => ?_) fun j h => ?_ | refine go2 ?_ (fun h => ?_) fun j h => ?_ | refine aL ?_ (fun h => ?_) fun h => ?_) | apply ai | apply aT | apply aw | ((first | apply aj | apply bB | apply bC | apply bm | apply bc) <;> intro h) | with_reducible (first | refine aQ.mk _ rfl ?_ | refine bL ?_ ?_ | refine bM ?_ ?_ | refine bn ?_ fun hc => ?_ | refine bo ?_ fun hc => ?_ | refine aY ?_ fun hc => ?_ | refine b9 ?_ fun hc => ?_ | apply bd | apply bf | refine b6 ?_ fun b hb => ?_) | apply b7 | apply bh | apply bp | apply bq | apply br | apply goN | apply bz | with_reducible refine bA ?_)
 all_goals try conv => whnf
 all_goals try (refine a8.mk ?_; try dsimp only)
 all_goals first | refine stay ?_ | ((refine And.intro (az _) ?_; simp only [aN]; repeat' (refine And.intro ?_ ?_)); all_goals (first | assumption | omega); done) | ((refine And.intro (aH _) ?_; simp only [bU]; repeat' (refine And.intro ?_ ?_)); all_goals (first | assumption | omega); done) | (exact az _) | (exact aH _) | (exact cq _) | trivial | omega | (simp (discharger := omega) only [wR]; omega) | (simp only [ax]; omega) | (simp (discharger := omega) [-List.getD_eq_getElem?_getD, wR] <;> omega) | skip
 refine ab.mk [] ?_ <;> (repeat' first | trivial | rfl | exact aV _ _ | apply aa | apply aU | apply ar | apply aK | apply ak | apply aS | apply aW | apply aX | apply aO | apply aJ)
theorem A5 : ∀ k : Nat, aE 22 (qG k)
 | 0 => BQ fun _ _ _ h => by omega
 | k + 1 => BQ fun v l h1 h2 h3 h4 => f_lay (A5 k) v l h1 h2 h3 h4
def wI : Sm := fun args σ => match args, σ with
 | [.list true _ [], x], [] => some (fM x ∧ (bW x).ok ∧ (bW x).size ≤ 300000, .buf 0, some [.buf 1 0 (bl (json (bW x)))])
 | _, _ => none
theorem k_lay : aE 22 wI := by
 intro args sg pre x r he hp
 unfold wI at he
 split at he <;> cases he
 rename_i z y
 refine dv.nil 0 _ 0 rfl ?_
 exact (A5 ((bW y).nodes + 1)) [.buf 0, y] [.buf 1 0 []] _ _ _ rfl ⟨hp.1, hp.2.1, Nat.lt_succ_self _, hp.2.2, by have := hp.2.2; simp; omega⟩
end Go.Proofs.YtllncocibkgjkaaDoor
