/-
  A part of the proof.
-/
import Derived.Test.YtllncocibkgjkaaGreatJD
import Derived.Test.YtllncocibkgjkaaGreatJSt
set_option linter.unusedSimpArgs false
set_option linter.unusedVariables false
set_option maxHeartbeats 4000000
namespace Go.Proofs.YtllncocibkgjkaaGreat
open Go Go.VG
set_option maxRecDepth 100000
theorem FR (t : List UInt8) (q : Int) (hp : t.length ≤ 90000000 ∧ 0 ≤ q ∧ q ≤ 90000000) : OK 129 ([.str t, .int .i64 q]) ([]) (.tuple [.str (cA t q.toNat).1, .int .i64 (cA t q.toNat).2.1, .int .i64 (cA t q.toNat).2.2]) (none) := by
 obtain ⟨i, rfl⟩ := Int.eq_ofNat_of_zero_le hp.2.1
 exact FT t i ⟨hp.1, by omega⟩
def wW : Sm := fun args σ => match args, σ with
 | [.str t, .int .i64 q], [] => some (t.length ≤ 90000000 ∧ 0 ≤ q ∧ q ≤ 90000000, .tuple [.str (cA t q.toNat).1, .int .i64 (cA t q.toNat).2.1, .int .i64 (cA t q.toNat).2.2], none)
 | _, _ => none
theorem HV : ay 129 wW := by
 intro args sg pre x r he hp
 unfold wW at he
 split at he <;> cases he
 . exact FR (hp := hp) ..
def bh (t : List UInt8) (i : Nat) : List UInt8 × Int × Int :=
 if (t.getD i 0).toNat = 92 then cA t (i + 1)
 else if (t.getD i 0).toNat < 32 then ([], 0, 3)
 else if (b8 t i).2 = 0 then ([], 0, 5)
 else ((t.take (i + (b8 t i).2)).drop i, ((i + (b8 t i).2 : Nat) : Int), 0)
theorem FW (t : List UInt8) (i : Nat) (hp : t.length ≤ 10000000 ∧ i < t.length) : OK 119 ([.str t, .int .i64 i]) ([]) (.tuple [.str (bh t i).1, .int .i64 (bh t i).2.1, .int .i64 (bh t i).2.2]) (none) := by
 refine aq (C := cx [(129, wW), (130, xp)]) (ar ⟨HV, Ik, trivial⟩) (fn := Tryz.f119) rfl rfl rfl rfl fun hw hs => ?_
 obtain ⟨hl, hi⟩ := hp
 have hr := qE t i
 have hi1 : (IntKind.i64.wrap ((i : Int) + 1)).toNat = i + 1 := by (simp (discharger := omega) only [wR]; omega)
 have hi2 : IntKind.i64.wrap ((i : Int) + (b8 t i).2) = ((i + (b8 t i).2 : Nat) : Int) := by (simp (discharger := omega) only [wR]; omega)
 repeat' ((conv => whnf); first | apply ak | (apply al <;> intro h) | with_reducible refine et ?_ fun hc => ?_)
 all_goals try conv => whnf
 all_goals try (refine ab.mk ?_; try dsimp only)
 all_goals (try simp only [hi1, hi2] at *)
 all_goals first | refine stay ?_ | trivial | omega | (simp (discharger := omega) only [wR]; omega) | skip
 all_goals
  unfold bh
  repeat (first | rw [if_pos (by omega)] | rw [if_neg (by omega)])
  refine a8.mk [] ?_ <;> (repeat' first | trivial)
def wY : Sm := fun args σ => match args, σ with
 | [.str t, .int .i64 (.ofNat i)], [] => some (t.length ≤ 10000000 ∧ i < t.length, .tuple [.str (bh t i).1, .int .i64 (bh t i).2.1, .int .i64 (bh t i).2.2], none)
 | _, _ => none
theorem HX : ay 119 wY := by
 intro args sg pre x r he hp
 unfold wY at he
 split at he <;> cases he
 . exact FW (hp := hp) ..
def bU (t : List UInt8) : Nat → Nat → List UInt8 → Int × Nat × List UInt8
 | 0, _, _ => (1, 0, [])
 | n + 1, i, o =>
   if t.length ≤ i then (1, 0, [])
   else if (t.getD i 0).toNat = 34 then (0, i + 1, o)
   else if (bh t i).2.2 ≠ 0 then ((bh t i).2.2, 0, [])
   else bU t n (bh t i).2.1.toNat (o ++ (bh t i).1)
termination_by n => n
theorem L7 (b : UInt8) : (fE b).length ≤ 1 := by unfold fE; split <;> simp
theorem JB (t : List UInt8) (i : Nat) (n : Int) : (cL t i n).2.2 = 0 → (i : Int) < (cL t i n).2.1 ∧ (cL t i n).2.1 ≤ i + 6 ∧ (cL t i n).1.length ≤ 4 := by
 have hb := fun n => (oU n).2
 unfold cL
 repeat' split
 all_goals intro h
 all_goals first
  | (exfalso; simp at h; done)
  | (exfalso; exact absurd h (by assumption))
  | exact ⟨by show (i : Int) < (i : Int) + 6; omega, by show (i : Int) + 6 ≤ i + 6; omega, hb _⟩
theorem yY (t : List UInt8) (i : Nat) : (cA t i).2.2 = 0 → (i : Int) < (cA t i).2.1 ∧ (cA t i).2.1 ≤ i + 11 ∧ (cA t i).1.length ≤ 4 := by
 have hb := fun n => (oU n).2
 have hs := L7 (t.getD i 0)
 unfold cA
 repeat' split
 all_goals intro h
 all_goals first
  | (exfalso; simp at h; done)
  | (exfalso; exact absurd h (by assumption))
  | (have := JB t (i + 5) _ h; omega)
  | exact ⟨by show (i : Int) < (i : Int) + 5; omega, by show (i : Int) + 5 ≤ i + 11; omega, hb _⟩
  | exact ⟨by show (i : Int) < (i : Int) + 1; omega, by show (i : Int) + 1 ≤ i + 11; omega, by show (fE (t.getD i 0)).length ≤ 4; omega⟩
theorem By (t : List UInt8) (i : Nat) : (bh t i).2.2 = 0 → (i : Int) < (bh t i).2.1 ∧ (bh t i).2.1 ≤ i + 12 ∧ (bh t i).1.length ≤ 12 := by
 have hr := qE t i
 unfold bh
 repeat' split
 all_goals intro h
 . have := yY t (i + 1) h; omega
 . exfalso; simp at h
 . exfalso; simp at h
 . refine ⟨by show (i : Int) < ((i + (b8 t i).2 : Nat) : Int); omega, by show ((i + (b8 t i).2 : Nat) : Int) ≤ i + 12; omega, ?_⟩
   show ((t.take (i + (b8 t i).2)).drop i).length ≤ 12
   rw [List.length_drop, List.length_take]; omega
def Cu.dt (c : Cu) : Cu × List UInt8 :=
 if c.c ≠ 0 then (c, [])
 else if c.p = c.e then (c.fail 1, [])
 else if c.get.toNat ≠ 34 then (c.fail 3, [])
 else if (bU (c.s.take c.e) (c.e - c.p) (c.p + 1) []).1 = 0 then ({ c with p := (bU (c.s.take c.e) (c.e - c.p) (c.p + 1) []).2.1 }, (bU (c.s.take c.e) (c.e - c.p) (c.p + 1) []).2.2)
 else (c.fail (bU (c.s.take c.e) (c.e - c.p) (c.p + 1) []).1, [])
theorem FL (s : List UInt8) (hp : True) : OK 62 ([.str s]) ([]) (.agg (eC (.new s))) (none) := by
 refine aq (C := cx []) (ar trivial) (fn := Tryz.f62) rfl rfl rfl rfl fun hw hs => ?_
 all_goals try conv => whnf
 all_goals try (refine ab.mk ?_; try dsimp only)
 all_goals try refine stay ?_
 refine a8.mk [] ?_ <;> (repeat' first | trivial)
def wT : Sm := fun args σ => match args, σ with
 | [.str s], [] => some (True, .agg (eC (.new s)), none)
 | _, _ => none
theorem HS : ay 62 wT := by
 intro args sg pre x r he hp
 unfold wT at he
 split at he <;> cases he
 . exact FL (hp := hp) ..
theorem FK (c : Cu) (k : Int) (hp : True) : OK 91 ([.agg (eC c), .int .i64 k]) ([]) (.agg (eC (c.fail k))) (none) := by
 refine aq (C := cx []) (ar trivial) (fn := Tryz.f91) rfl rfl rfl rfl fun hw hs => ?_
 repeat' ((conv => whnf); (apply al <;> intro h))
 all_goals try conv => whnf
 all_goals try (refine ab.mk ?_; try dsimp only)
 all_goals try refine stay ?_
 all_goals
  unfold Cu.fail
  first | rw [if_pos (by assumption)] | rw [if_neg (by assumption)]
  refine a8.mk [] ?_ <;> (repeat' first | trivial)
def oL : Sm := fun args σ => match args, σ with
 | [.agg ([.str s_c, .int .i64 (.ofNat a_c), .int .i64 (.ofNat e_c), .int .i64 c_c]), .int .i64 k], [] => some (True ∧ (True), .agg (eC ((Cu.mk s_c a_c e_c c_c).fail k)), none)
 | _, _ => none
theorem rI : ay 91 oL := by
 intro args sg pre x r he hp
 unfold oL at he
 split at he <;> cases he
 . rw [bZ (hp).1]; exact FK (hp := hp.2) ..
theorem FN (c : Cu) (hp : c.ok ∧ c.s.length ≤ 10000000) : OK 87 ([.agg (eC c)]) ([]) (.tuple [.agg (eC c.dt.1), .str c.dt.2]) (none) := by
 refine aq (C := cx [(119, wY), (91, oL)]) (ar ⟨HX, rI, trivial⟩) (fn := Tryz.f87) rfl rfl rfl rfl fun hw hs => ?_
 obtain ⟨hp, hl⟩ := hp
 have h1 := hp.1
 have h2 := hp.2
 have hget : c.p < c.e → (c.s.take c.e).getD c.p 0 = c.get := fun h => jS h
 have hte : (c.s.take c.e).length = c.e := by rw [List.length_take]; omega
 repeat' ((conv => whnf); first | apply ak | apply aV | (apply al <;> intro h) | with_reducible refine et ?_ fun hc => ?_)
 all_goals try conv => whnf
 all_goals try (refine ab.mk ?_; try dsimp only)
 all_goals (try simp only [show ((c.e : Int)).toNat = c.e from rfl] at *)
 all_goals (try simp only [aP] at *)
 all_goals first | refine stay ?_ | trivial | omega | skip
 all_goals (try rw [hget (by omega)] at *)
 all_goals first
  | (show a8 _ _ _ _ _ _
     unfold Cu.dt
     repeat (first | rw [if_pos (by omega)] | rw [if_neg (by omega)])
     refine a8.mk [] ?_ <;> (repeat' first | trivial)
     done)
  | skip
 have hrd : c.dt = if (bU (c.s.take c.e) (c.e - c.p) (c.p + 1) []).1 = 0 then ({ c with p := (bU (c.s.take c.e) (c.e - c.p) (c.p + 1) []).2.1 }, (bU (c.s.take c.e) (c.e - c.p) (c.p + 1) []).2.2)
    else (c.fail (bU (c.s.take c.e) (c.e - c.p) (c.p + 1) []).1, []) := by
  unfold Cu.dt
  rw [if_neg (by omega), if_neg (by omega), if_neg (by omega)]
 rw [hrd]
 generalize hR : bU (c.s.take c.e) (c.e - c.p) (c.p + 1) [] = R
 generalize ht : c.s.take c.e = t at *
 refine bn.mk (Nat × Nat × List UInt8) (fun | (n, i, o) => t.length - i + 1 ≤ n ∧ i ≤ t.length + 12 ∧ o.length ≤ 12 * i ∧ bU t n i o = R)
  (fun | (n, i, o) => ⟨67, [(1, .ptr 0 0), (2, .ptr 1 0), (4, .str t), (5, .str o), (6, .int .i64 i)], [.cells (eC c), .cells [.str [], .int .i64 0, .int .i64 0, .int .i64 0]], []⟩) (fun x => x.1) [] (c.e - c.p, c.p + 1, []) ⟨by omega, by omega, by simp, hR⟩ ?_ (fun ⟨n, i, o⟩ ⟨hn, hi, ho, he⟩ _ _ => ?_)
 . refine Go.VG.Sub.mk rfl ?_ ?_ ?_ ?_ <;> (repeat' first | trivial | apply aj | apply aR)
   (simp (discharger := omega) only [wR]; omega)
 have hpn := By t i
 obtain ⟨n, rfl⟩ : ∃ m, n = m + 1 := ⟨n - 1, by omega⟩
 rw [bU] at he
 repeat' ((conv => whnf); first | apply ak | apply aV | (apply al <;> intro h) | with_reducible refine et ?_ fun hc => ?_)
 all_goals try conv => whnf
 all_goals try (refine ab.mk ?_; try dsimp only)
 all_goals (try simp only [aP] at *)
 all_goals first | refine stay ?_ | trivial | omega | skip
 all_goals (repeat (first | rw [if_pos (by omega)] at he | rw [if_neg (by omega)] at he))
 . rw [← he]
   rw [if_pos rfl]
   refine a8.mk [] ?_ <;> (repeat' first | trivial | apply aj | apply aR | apply eqG | apply jr | apply dm)
   (simp (discharger := omega) only [wR]; omega)
 . have hq := hpn (by omega)
   refine ⟨[], (n, (bh t i).2.1.toNat, o ++ (bh t i).1), ⟨?_, ?_, ?_, he⟩, ?_, by show n < n + 1; omega⟩
   . show t.length - (bh t i).2.1.toNat + 1 ≤ n; omega
   . show (bh t i).2.1.toNat ≤ t.length + 12; omega
   . show (o ++ (bh t i).1).length ≤ 12 * (bh t i).2.1.toNat
     rw [List.length_append]; omega
   . refine Go.VG.Sub.mk rfl ?_ ?_ ?_ ?_ <;> (repeat' first | trivial | apply aj | apply aR)
     show (bh t i).2.1 = (((bh t i).2.1.toNat : Nat) : Int)
     omega
 . rw [← he, if_neg (by assumption)]
   refine a8.mk [] ?_ <;> (repeat' first | trivial)
 . rw [← he, if_neg (by decide)]
   refine a8.mk [] ?_ <;> (repeat' first | trivial)
def wV : Sm := fun args σ => match args, σ with
 | [.agg ([.str s_c, .int .i64 (.ofNat a_c), .int .i64 (.ofNat e_c), .int .i64 c_c])], [] => some (True ∧ ((Cu.mk s_c a_c e_c c_c).ok ∧ (Cu.mk s_c a_c e_c c_c).s.length ≤ 10000000), .tuple [.agg (eC (Cu.mk s_c a_c e_c c_c).dt.1), .str (Cu.mk s_c a_c e_c c_c).dt.2], none)
 | _, _ => none
theorem HU : ay 87 wV := by
 intro args sg pre x r he hp
 unfold wV at he
 split at he <;> cases he
 . rw [bZ (hp).1]; exact FN (hp := hp.2) ..
end Go.Proofs.YtllncocibkgjkaaGreat
namespace Go.Proofs.YtllncocibkgjkaaGreat
open Go Go.VG
set_option maxRecDepth 100000
def Cu.a9 (c : Cu) : List UInt8 := c.s.take c.e
theorem fi {c : Cu} (h0 : c.c = 0) (h : c.p < c.e) : c.byte = { c with p := c.p + 1 } ∧ c.ah = c.a9.getD c.p 0 := by
 refine ⟨?_, ?_⟩
 . unfold Cu.byte Cu.pass
   rw [if_neg (by omega), if_neg (by omega), if_neg (by omega)]; rfl
 . unfold Cu.ah Cu.a9
   rw [if_pos ⟨h0, h⟩, jS h]; rfl
theorem ml {c : Cu} (h0 : c.c = 0) (h : c.p = c.e) : c.byte = { c with c := 1 } ∧ c.ah = 0 := by
 refine ⟨?_, ?_⟩
 . unfold Cu.byte Cu.pass
   rw [if_neg (by omega), if_neg (by omega), if_pos (by omega)]
 . unfold Cu.ah; rw [if_neg (by omega)]
theorem np {c : Cu} (h0 : c.c ≠ 0) : c.byte = c ∧ c.ah = 0 := by
 refine ⟨?_, ?_⟩
 . unfold Cu.byte Cu.pass; rw [if_pos h0]
 . unfold Cu.ah; rw [if_neg (by omega)]
theorem fK {c : Cu} (k : Int) (h : c.c = 0) : c.fail k = { c with c := k } := by unfold Cu.fail; rw [if_pos h]
theorem kC {c : Cu} (k : Int) (h : c.c ≠ 0) : c.fail k = c := by unfold Cu.fail; rw [if_neg h]
theorem eA {c : Cu} (h : c.ok) : c.a9.length = c.e := by have := h.2; unfold Cu.a9; rw [List.length_take]; omega
theorem Ha {c : Cu} (h0 : c.c = 0) (h : c.p = c.e) : c.eY.c = 1 := by
 obtain ⟨b1, b2⟩ := ml h0 h
 unfold Cu.eY
 rw [b2, if_neg (by decide), b1, kC _ (by show (1 : Int) ≠ 0; decide)]
structure On (c d : Cu) (n : Nat) : Prop where
 s : d.s = c.s
 e : d.e = c.e
 c0 : d.c = 0
 p : d.p = c.p + n
theorem On.trans {c d f : Cu} {n m : Nat} (h : On c d n) (k : On d f m) : On c f (n + m) := ⟨k.s.trans h.s, k.e.trans h.e, k.c0, by rw [k.p, h.p]; omega⟩
theorem On.a9 {c d : Cu} {n : Nat} (h : On c d n) : d.a9 = c.a9 := by unfold Cu.a9; rw [h.s, h.e]
theorem On.byte {c : Cu} (h0 : c.c = 0) (h : c.p < c.e) : On c c.byte 1 := by rw [(fi h0 h).1]; exact ⟨rfl, rfl, h0, rfl⟩
theorem uE : ∀ (k : Nat) (c : Cu) (u : Int), c.ok → c.c = 0 →
   ((ba c.a9 k c.p u).2 = 0 → On c (dH k c u).1 k ∧ (dH k c u).2 = (ba c.a9 k c.p u).1) ∧
   ((ba c.a9 k c.p u).2 ≠ 0 → (dH k c u).1.c = (ba c.a9 k c.p u).2 ∧ (dH k c u).2 = 0)
 | 0, c, u, h, h0 => by
   rw [ba, dH]
   exact ⟨fun _ => ⟨⟨rfl, rfl, h0, rfl⟩, rfl⟩, fun k => absurd rfl k⟩
 | k + 1, c, u, h, h0 => by
   have hl := eA h
   rw [ba, dH]
   by_cases hp : c.p = c.e
   . have he := Ha h0 hp
     rw [if_pos (by omega), if_pos (by omega)]
     exact ⟨fun k => absurd k (by simp), fun _ => ⟨he, rfl⟩⟩
   . have hlt : c.p < c.e := by have := h.1; omega
     obtain ⟨b1, b2⟩ := fi h0 hlt
     rw [if_neg (by omega)]
     by_cases hn : ew (cf (c.a9.getD c.p 0)) = true
     . have hx : c.eY = c.byte := by unfold Cu.eY; rw [b2, if_pos hn]
       have hv : c.jU = dq (cf (c.a9.getD c.p 0)) := by unfold Cu.jU; rw [b2]
       have hon := On.byte h0 hlt
       rw [if_pos hn, hx, if_neg (by rw [hon.c0]; simp), hv]
       have ih := uE k c.byte (16 * u + dq (cf (c.a9.getD c.p 0))) (ec h) hon.c0
       rw [hon.a9, hon.p] at ih
       refine ⟨fun q => ?_, ih.2⟩
       obtain ⟨i1, i2⟩ := ih.1 q
       have := hon.trans i1
       rw [Nat.add_comm 1 k] at this
       exact ⟨this, i2⟩
     . have hx : c.eY.c = 6 := by
         unfold Cu.eY
         rw [b2, if_neg hn, fK _ (On.byte h0 hlt).c0]
       rw [if_neg hn, if_pos (by omega)]
       exact ⟨fun k => absurd k (by simp), fun _ => ⟨hx, rfl⟩⟩
theorem B9 {c : Cu} (b : UInt8) (h : c.c ≠ 0) : c.cv b = c := by
 obtain ⟨b1, b2⟩ := np h
 unfold Cu.cv; rw [b1]
 split
 . rfl
 . exact kC _ h
theorem Hb {c : Cu} (h : c.c ≠ 0) : c.eY = c := by
 obtain ⟨b1, b2⟩ := np h
 unfold Cu.eY; rw [b1, kC _ h]; split <;> rfl
theorem GR {c : Cu} (h : c.c ≠ 0) : c.four = (c, 0) := by
 unfold Cu.four
 rw [dH, Hb h, if_pos h]
theorem B8 {c : Cu} (b : UInt8) (h0 : c.c = 0) (h : c.p = c.e) (hb : b.toNat ≠ 0) : (c.cv b).c = 1 := by
 obtain ⟨b1, b2⟩ := ml h0 h
 unfold Cu.cv
 rw [b2, if_neg (by show ¬ 0 = b.toNat; omega), b1, kC _ (by show (1 : Int) ≠ 0; decide)]
theorem Ba {c : Cu} (b : UInt8) (h0 : c.c = 0) (h : c.p < c.e) (hb : (c.a9.getD c.p 0).toNat ≠ b.toNat) : (c.cv b).c = 6 := by
 obtain ⟨b1, b2⟩ := fi h0 h
 unfold Cu.cv
 rw [b2, if_neg hb, fK _ (On.byte h0 h).c0]
theorem Bb {c : Cu} (b : UInt8) (h0 : c.c = 0) (h : c.p < c.e) (hb : (c.a9.getD c.p 0).toNat = b.toNat) : On c (c.cv b) 1 := by
 obtain ⟨b1, b2⟩ := fi h0 h
 unfold Cu.cv
 rw [b2, if_pos hb]
 exact On.byte h0 h
def Cu.two (c : Cu) : Cu := (c.cv 92).cv 117
theorem LI {c : Cu} (hk : c.ok) (h0 : c.c = 0) (n : Int) (hn : 55296 ≤ n ∧ n ≤ 56319) :
   ((cL c.a9 c.p n).2.2 = 0 → On c c.two.four.1 6 ∧ 56320 ≤ c.two.four.2 ∧ c.two.four.2 ≤ 57343 ∧ cL c.a9 c.p n = (aZ (65536 + 1024 * (n - 55296) + c.two.four.2 - 56320), (c.p : Int) + 6, 0)) ∧
   ((cL c.a9 c.p n).2.2 ≠ 0 → (c.two.four.2 < 56320 ∨ 57344 ≤ c.two.four.2) ∧ (c.two.four.1.fail 6).c = (cL c.a9 c.p n).2.2) := by
 have hl := eA hk
 have h1 := hk.1
 have bad : ∀ x : Int, x ≠ 0 → c.two.c = x → (c.two.four.2 < 56320 ∨ 57344 ≤ c.two.four.2) ∧ (c.two.four.1.fail 6).c = x := fun x hx hc => by
  have hne : c.two.c ≠ 0 := by rw [hc]; exact hx
  rw [GR hne]
  exact ⟨.inl (by show (0 : Int) < 56320; decide), by show (c.two.fail 6).c = x; rw [kC _ hne, hc]⟩
 unfold cL
 by_cases a : c.p = c.e
 . rw [if_pos (by omega)]
   refine ⟨fun k => absurd k (by simp), fun _ => bad 1 (by decide) ?_⟩
   have := B8 92 h0 a (by decide)
   unfold Cu.two; rw [B9 _ (by omega)]; exact this
 have a' : c.p < c.e := by omega
 rw [if_neg (by omega)]
 by_cases b : (c.a9.getD c.p 0).toNat ≠ 92
 . rw [if_pos b]
   refine ⟨fun k => absurd k (by simp), fun _ => bad 6 (by decide) ?_⟩
   have := Ba 92 h0 a' b
   unfold Cu.two; rw [B9 _ (by omega)]; exact this
 have on1 := Bb 92 h0 a' (by show _ = 92; omega)
 rw [if_neg b]
 have hk1 := oh hk 92
 by_cases d : c.a9.length ≤ c.p + 1
 . rw [if_pos d]
   refine ⟨fun k => absurd k (by simp), fun _ => bad 1 (by decide) ?_⟩
   exact B8 117 on1.c0 (by rw [on1.p, on1.e]; omega) (by decide)
 rw [if_neg d]
 have a2 : (c.cv 92).p < (c.cv 92).e := by rw [on1.p, on1.e]; omega
 by_cases f : (c.a9.getD (c.p + 1) 0).toNat ≠ 117
 . rw [if_pos f]
   refine ⟨fun k => absurd k (by simp), fun _ => bad 6 (by decide) ?_⟩
   exact Ba 117 on1.c0 a2 (by rw [on1.a9, on1.p]; exact f)
 rw [if_neg f]
 have on2 : On c c.two 2 := on1.trans (Bb 117 on1.c0 a2 (by rw [on1.a9, on1.p]; show _ = 117; omega))
 have hk2 := oh hk1 117
 have fe := uE 4 c.two 0 hk2 on2.c0
 rw [on2.a9, on2.p] at fe
 have fe : ((ba c.a9 4 (c.p + 2) 0).2 = 0 → On c.two c.two.four.1 4 ∧ c.two.four.2 = (ba c.a9 4 (c.p + 2) 0).1) ∧ ((ba c.a9 4 (c.p + 2) 0).2 ≠ 0 → c.two.four.1.c = (ba c.a9 4 (c.p + 2) 0).2 ∧ c.two.four.2 = 0) := fe
 by_cases g : (ba c.a9 4 (c.p + 2) 0).2 ≠ 0
 . rw [if_pos g]
   obtain ⟨q1, q2⟩ := fe.2 g
   exact ⟨fun k => absurd k g, fun _ => ⟨.inl (by rw [q2]; decide), by rw [kC _ (by rw [q1]; exact g), q1]⟩⟩
 rw [if_neg g]
 obtain ⟨q1, q2⟩ := fe.1 (by omega)
 rw [← q2]
 by_cases m : c.two.four.2 < 56320 ∨ 57343 < c.two.four.2
 . rw [if_pos m]
   exact ⟨fun k => absurd k (by simp), fun _ => ⟨by omega, by rw [fK _ q1.c0]⟩⟩
 . rw [if_neg m]
   exact ⟨fun _ => ⟨on2.trans q1, by omega, by omega, rfl⟩, fun k => absurd rfl k⟩
theorem Jf (c : Cu) : c.number = if c.four.2 < 55296 ∨ 57344 ≤ c.four.2 then c.four
 else if 56320 ≤ c.four.2 then (c.four.1.fail 6, 0)
 else if c.four.1.two.four.2 < 56320 ∨ 57344 ≤ c.four.1.two.four.2 then (c.four.1.two.four.1.fail 6, 0)
 else (c.four.1.two.four.1, 65536 + (c.four.2 - 55296) * 1024 + (c.four.1.two.four.2 - 56320)) := rfl
theorem DW {c : Cu} (hk : c.ok) (h0 : c.c = 0) :
   ((cA c.a9 c.p).2.2 = 0 → ∃ n, On c c.dE n ∧ (cA c.a9 c.p).2.1 = ((c.p + n : Nat) : Int) ∧ c.fW = (cA c.a9 c.p).1) ∧
   ((cA c.a9 c.p).2.2 ≠ 0 → c.dE.c = (cA c.a9 c.p).2.2) := by
 have hl := eA hk
 have h1 := hk.1
 unfold cA
 by_cases a : c.p = c.e
 . obtain ⟨b1, b2⟩ := ml h0 a
   rw [if_pos (by omega)]
   refine ⟨fun k => absurd k (by simp), fun _ => ?_⟩
   unfold Cu.dE
   rw [b2, if_neg (by decide), if_neg (by decide), b1, kC _ (by show (1 : Int) ≠ 0; decide)]
 have a' : c.p < c.e := by omega
 obtain ⟨b1, b2⟩ := fi h0 a'
 have on1 := On.byte h0 a'
 rw [if_neg (by omega)]
 by_cases b : (c.a9.getD c.p 0).toNat ≠ 117
 . rw [if_pos b]
   by_cases p : dW (c.a9.getD c.p 0) = true
   . rw [if_pos p]
     refine ⟨fun _ => ⟨1, ?_, rfl, ?_⟩, fun k => absurd rfl k⟩
     . unfold Cu.dE; rw [b2, if_neg b, if_pos p]; exact on1
     . unfold Cu.fW fE; rw [b2, if_neg b, if_pos p]
   . rw [if_neg p]
     refine ⟨fun k => absurd k (by simp), fun _ => ?_⟩
     unfold Cu.dE; rw [b2, if_neg b, if_neg p, fK _ on1.c0]
 rw [if_neg b]
 have hb : (c.a9.getD c.p 0).toNat = 117 := by omega
 have hk1 := ec hk
 have hC : c.dE = c.byte.number.1 := by unfold Cu.dE; rw [b2, if_pos hb]
 have hO : c.fW = if c.byte.number.1.c = 0 then aZ c.byte.number.2 else [] := by unfold Cu.fW; rw [b2, if_pos hb]
 have fe : ((ba c.byte.a9 4 c.byte.p 0).2 = 0 → On c.byte c.byte.four.1 4 ∧ c.byte.four.2 = (ba c.byte.a9 4 c.byte.p 0).1) ∧ ((ba c.byte.a9 4 c.byte.p 0).2 ≠ 0 → c.byte.four.1.c = (ba c.byte.a9 4 c.byte.p 0).2 ∧ c.byte.four.2 = 0) := uE 4 c.byte 0 hk1 on1.c0
 rw [on1.a9, on1.p] at fe
 rw [hC, hO, Jf]
 by_cases g : (ba c.a9 4 (c.p + 1) 0).2 ≠ 0
 . rw [if_pos g]
   obtain ⟨q1, q2⟩ := fe.2 g
   refine ⟨fun k => absurd k g, fun _ => ?_⟩
   rw [if_pos (.inl (by rw [q2]; decide)), q1]
 rw [if_neg g]
 obtain ⟨q1, q2⟩ := fe.1 (by omega)
 have on5 := on1.trans q1
 rw [← q2]
 by_cases m1 : 55296 ≤ c.byte.four.2 ∧ c.byte.four.2 ≤ 56319
 . rw [if_pos m1, if_neg (by omega), if_neg (by omega)]
   have te := LI (rA hk1) q1.c0 c.byte.four.2 m1
   rw [on5.a9, on5.p] at te
   have te : ((cL c.a9 (c.p + 5) c.byte.four.2).2.2 = 0 → On c.byte.four.1 c.byte.four.1.two.four.1 6 ∧ 56320 ≤ c.byte.four.1.two.four.2 ∧ c.byte.four.1.two.four.2 ≤ 57343 ∧ cL c.a9 (c.p + 5) c.byte.four.2 = (aZ (65536 + 1024 * (c.byte.four.2 - 55296) + c.byte.four.1.two.four.2 - 56320), ((c.p + 5 : Nat) : Int) + 6, 0)) ∧
    ((cL c.a9 (c.p + 5) c.byte.four.2).2.2 ≠ 0 → (c.byte.four.1.two.four.2 < 56320 ∨ 57344 ≤ c.byte.four.1.two.four.2) ∧ (c.byte.four.1.two.four.1.fail 6).c = (cL c.a9 (c.p + 5) c.byte.four.2).2.2) := te
   refine ⟨fun k => ?_, fun k => ?_⟩
   . obtain ⟨t1, t2, t3, t4⟩ := te.1 k
     rw [if_neg (by omega)]
     refine ⟨11, on5.trans t1, ?_, ?_⟩
     . rw [t4]; show ((c.p + 5 : Nat) : Int) + 6 = _; omega
     . rw [t4, if_pos t1.c0]
       show aZ _ = aZ _
       congr 1; omega
   . obtain ⟨t1, t2⟩ := te.2 k
     rw [if_pos t1]; exact t2
 . rw [if_neg m1]
   by_cases m2 : 56320 ≤ c.byte.four.2 ∧ c.byte.four.2 ≤ 57343
   . rw [if_pos m2, if_neg (by omega), if_pos m2.1]
     refine ⟨fun k => absurd k (by simp), fun _ => ?_⟩
     show (c.byte.four.1.fail 6).c = 6
     rw [fK _ q1.c0]
   . rw [if_neg m2, if_pos (by omega)]
     exact ⟨fun _ => ⟨5, on5, by show (c.p : Int) + 5 = _; omega, by rw [if_pos q1.c0]⟩, fun k => absurd rfl k⟩
theorem BP : ∀ (k : Nat) (c : Cu) (s : List UInt8), c.ok → c.c = 0 → ∃ j, j ≤ k ∧ On c (cQ k c s).1 j ∧ (cQ k c s).2 = s ++ (c.a9.drop c.p).take j ∧ (∀ i, i < j → cont (c.a9.getD (c.p + i) 0) = true) ∧
   c.p + j ≤ c.e ∧ (j = k ∨ c.p + j = c.e ∨ cont (c.a9.getD (c.p + j) 0) = false)
 | 0, c, s, h, h0 => by
   rw [cQ]
   exact ⟨0, Nat.le_refl _, ⟨rfl, rfl, h0, rfl⟩, by simp, by omega, by have := h.1; omega, .inl rfl⟩
 | k + 1, c, s, h, h0 => by
   rw [cQ]
   by_cases hp : c.p < c.e
   . obtain ⟨b1, b2⟩ := fi h0 hp
     have hl := eA h
     by_cases hc : cont (c.a9.getD c.p 0) = true
     . rw [if_pos ⟨h0, hp, by rw [b2]; exact hc⟩]
       have on1 := On.byte h0 hp
       obtain ⟨j, q1, q2, q3, q4, q5, q6⟩ := BP k c.byte (s ++ [c.ah]) (ec h) on1.c0
       rw [on1.a9, on1.p] at q3 q4 q6
       rw [on1.p, on1.e] at q5
       rw [on1.e] at q6
       refine ⟨j + 1, by omega, ?_, ?_, fun i hi => ?_, by omega, ?_⟩
       . have := on1.trans q2; rw [Nat.add_comm 1 j] at this; exact this
       . rw [q3, b2, List.append_assoc]
         congr 1
         rw [List.drop_eq_getElem_cons (show c.p < c.a9.length by omega), List.take_succ_cons, List.getD_eq_getElem?_getD, List.getElem?_eq_getElem (show c.p < c.a9.length by omega)]; rfl
       . cases i with
         | zero => exact hc
         | succ i => rw [show c.p + (i + 1) = c.p + 1 + i by omega]; exact q4 i (by omega)
       . rw [show c.p + (j + 1) = c.p + 1 + j by omega]
         rcases q6 with q6 | q6 | q6
         . exact .inl (by omega)
         . exact .inr (.inl q6)
         . exact .inr (.inr q6)
     . rw [if_neg (by rw [b2]; exact fun h => hc h.2.2)]
       refine ⟨0, by omega, ⟨rfl, rfl, h0, rfl⟩, by simp, by omega, by omega, .inr (.inr ?_)⟩
       cases hq : cont (c.a9.getD (c.p + 0) 0) with
       | false => rfl
       | true => exact absurd hq hc
   . rw [if_neg (by omega)]
     have := h.1
     exact ⟨0, by omega, ⟨rfl, rfl, h0, rfl⟩, by simp, by omega, by omega, .inr (.inl (by omega))⟩
theorem zG (x : List UInt8) (m : Nat) : ∀ r i a, i + r ≤ m → m ≤ x.length → eJ (x.take m) r i a = eJ x r i a
 | 0, _, _, _, _ => rfl
 | r + 1, i, a, h, hm => by
   simp only [eJ]
   rw [jS (by omega), zG x m r (i + 1) _ (by omega) hm]
theorem zD (x : List UInt8) : ∀ r i a, eJ x r i a ≠ none → ∀ j, i ≤ j → j < i + r → cont (x.getD j 0) = true
 | 0, _, _, _, _, _, _ => by omega
 | r + 1, i, a, h, j, h1, h2 => by
   simp only [eJ] at h
   by_cases hc : cont (x.getD i 0) = true
   . rw [if_pos hc] at h
     by_cases e : j = i
     . subst e; exact hc
     . exact zD x r (i + 1) _ h j (by omega) (by omega)
   . rw [if_neg hc] at h; exact absurd rfl h
theorem LK (n : Nat) (o : Option Nat) : (kV n o).2 = 0 ∨ ((kV n o).2 = n ∧ o ≠ none) := by
 cases o with
 | none => exact .inl rfl
 | some r =>
   rw [tz]
   repeat' split
   . exact .inl rfl
   . exact .inr ⟨rfl, by simp⟩
   . exact .inl rfl
theorem sy (x : List UInt8) (hx : 0 < x.length) : (cM x 0).2 = 0 ∨ ((cM x 0).2 = aO (x.getD 0 0).toNat ∧ 1 ≤ aO (x.getD 0 0).toNat ∧ aO (x.getD 0 0).toNat ≤ x.length ∧ ∀ j, 1 ≤ j → j < aO (x.getD 0 0).toNat → cont (x.getD j 0) = true) := by
 unfold cM
 rw [if_neg (by omega)]
 split
 . exact .inl rfl
 split
 . exact .inl rfl
 split
 . rename_i h1 h2 h3
   exact .inr ⟨h3.symm, by omega, by omega, by omega⟩
 . rename_i h1 h2 h3
   rcases LK (aO (x.getD 0 0).toNat) (eJ x (aO (x.getD 0 0).toNat - 1) (0 + 1) ((x.getD 0 0).toNat % 2 ^ (7 - aO (x.getD 0 0).toNat))) with h | ⟨h, k⟩
   . exact .inl h
   . exact .inr ⟨h, by omega, by omega, fun j a b => zD x _ _ _ k j a (by omega)⟩
theorem sC (x : List UInt8) (m : Nat) (hm : aO (x.getD 0 0).toNat ≤ m) (h1 : 1 ≤ m) (hx : m ≤ x.length) : cM (x.take m) 0 = cM x 0 := by
 have e : (x.take m).getD 0 0 = x.getD 0 0 := jS (by omega)
 have l : (x.take m).length = m := by rw [List.length_take]; omega
 unfold cM
 rw [e, l, if_neg (show ¬ m ≤ 0 by omega), if_neg (show ¬ x.length ≤ 0 by omega)]
 by_cases a : aO (x.getD 0 0).toNat = 0
 . rw [if_pos a, if_pos a]
 . rw [if_neg a, if_neg a, if_neg (show ¬ m < 0 + aO (x.getD 0 0).toNat by omega), if_neg (show ¬ x.length < 0 + aO (x.getD 0 0).toNat by omega), zG x m _ _ _ (by omega) hx]
theorem Dv {s : List UInt8} (hs : 0 < s.length) (h : (b8 s 0).2 = 0) : kj s = 0 := by
 have hw : iL s 0 0 = (0, 0) := by rw [iL, if_neg (by omega), dif_pos h]
 unfold kj
 rw [hw, if_neg (show ¬ 0 = s.length by omega)]; rfl
theorem check_1 {s : List UInt8} (hs : 0 < s.length) (h : (b8 s 0).2 = s.length) : kj s = -1 := by
 have hw : iL s 0 0 = (0 + (b8 s 0).2, 0 + 1) := by
  rw [iL, if_neg (by omega), dif_neg (by omega), iL, if_pos (by omega)]
 unfold kj
 rw [hw, if_pos (show 0 + (b8 s 0).2 = s.length by omega)]
theorem Lq {b : UInt8} : aO b.toNat = 0 ∨ cB b + 1 = aO b.toNat := by
 unfold aO cB; repeat' split
 all_goals omega
theorem K5 {d : Cu} (hk : d.ok) (h0 : d.c = 0) (hp : d.p < d.e) :
   ((b8 d.a9 d.p).2 = 0 → (d.byte.eI (d.a9.getD d.p 0)).c = 5) ∧
   ((b8 d.a9 d.p).2 ≠ 0 → On d (d.byte.eI (d.a9.getD d.p 0)) (b8 d.a9 d.p).2 ∧ d.byte.gK (d.a9.getD d.p 0) = (d.a9.take (d.p + (b8 d.a9 d.p).2)).drop d.p) := by
 have hl := eA hk
 have on1 := On.byte h0 hp
 have hxl : (d.a9.drop d.p).length = d.e - d.p := by rw [List.length_drop, hl]
 have hx0 : (d.a9.drop d.p).getD 0 0 = d.a9.getD d.p 0 := by simp [List.getD_eq_getElem?_getD, List.getElem?_drop]
 have hxc : d.a9.drop d.p = d.a9.getD d.p 0 :: d.a9.drop (d.p + 1) := by
  rw [List.drop_eq_getElem_cons (show d.p < d.a9.length by omega), List.getD_eq_getElem?_getD, List.getElem?_eq_getElem (show d.p < d.a9.length by omega)]; rfl
 have hu : b8 d.a9 d.p = cM (d.a9.drop d.p) 0 := by rw [sD, if_neg (by omega), kd]
 obtain ⟨j, q1, q2, q3, q4, q5, q6⟩ := BP (cB (d.a9.getD d.p 0)) d.byte [d.a9.getD d.p 0] (ec hk) on1.c0
 rw [on1.a9, on1.p] at q3 q4 q6
 rw [on1.p, on1.e] at q5
 rw [on1.e] at q6
 have hS : (cQ (cB (d.a9.getD d.p 0)) d.byte [d.a9.getD d.p 0]).2 = (d.a9.drop d.p).take (j + 1) := by
  rw [q3, hxc, List.take_succ_cons]; rfl
 have hSl : ((d.a9.drop d.p).take (j + 1)).length = j + 1 := by rw [List.length_take, hxl]; omega
 have hS0 : ((d.a9.drop d.p).take (j + 1)).getD 0 0 = d.a9.getD d.p 0 := by rw [jS (by omega), hx0]
 rw [hu]
 unfold Cu.eI Cu.gK
 rw [hS]
 refine ⟨fun hn => ?_, fun hn => ?_⟩
 . have hz : (b8 ((d.a9.drop d.p).take (j + 1)) 0).2 = 0 := by
     rw [← kd]
     rcases sy ((d.a9.drop d.p).take (j + 1)) (by omega) with h | ⟨h1, h2, h3, h4⟩
     . exact h
     . rw [hS0] at h1 h2 h3
       rw [sC _ (j + 1) (by rw [hx0]; omega) (by omega) (by omega)]; exact hn
   rw [Dv (by omega) hz, if_pos (by decide), fK _ q2.c0]
 . rcases sy (d.a9.drop d.p) (by omega) with h | ⟨h1, h2, h3, h4⟩
   . exact absurd h hn
   . rw [hx0] at h1 h2 h3 h4
     have ht := Lq (b := d.a9.getD d.p 0)
     have hj : j + 1 = aO (d.a9.getD d.p 0).toNat := by
      rcases q6 with q6 | q6 | q6
      . omega
      . omega
      . by_cases e : j + 1 = aO (d.a9.getD d.p 0).toNat
        . exact e
        . exfalso
          have := h4 (j + 1) (by omega) (by omega)
          rw [show (d.a9.drop d.p).getD (j + 1) 0 = d.a9.getD (d.p + 1 + j) 0 by
           rw [List.getD_eq_getElem?_getD, List.getD_eq_getElem?_getD, List.getElem?_drop, show d.p + (j + 1) = d.p + 1 + j by omega], q6] at this
          cases this
     have hz : (b8 ((d.a9.drop d.p).take (j + 1)) 0).2 = ((d.a9.drop d.p).take (j + 1)).length := by
      rw [← kd, sC _ (j + 1) (by rw [hx0]; omega) (by omega) (by omega), h1, hSl, hj]
     rw [check_1 (by omega) hz, if_neg (by decide), if_neg (by decide), h1, ← hj]
     refine ⟨?_, ?_⟩
     . have := on1.trans q2
       rw [Nat.add_comm 1 j] at this; exact this
     . rw [List.drop_take, show d.p + (j + 1) - d.p = j + 1 by omega]
theorem n5 {n : Nat} {c : Cu} {o : List UInt8} (hn : 0 < n) (h : c.c ≠ 0) : fB n c o = (c, []) := by
 cases n with
 | zero => omega
 | succ n => rw [fB, if_pos h]
def tJ (d : Cu) (P : Cu × List UInt8) (R : Int × Nat × List UInt8) : Prop :=
 (R.1 = 0 → P.1.c = 0 ∧ P.1.p = R.2.1 ∧ P.2 = R.2.2 ∧ P.1.s = d.s ∧ P.1.e = d.e) ∧ (R.1 ≠ 0 → P.1.c = R.1 ∧ P.2 = [])
theorem go_eq : ∀ (n m : Nat) (d : Cu) (o : List UInt8), d.ok → d.c = 0 → d.mu < n → d.a9.length - d.p + 1 ≤ m → tJ d (fB n d o) (bU d.a9 m d.p o)
 | 0, _, _, _, _, _, h, _ => by omega
 | n + 1, 0, _, _, _, _, _, h => by omega
 | n + 1, m + 1, d, o, hk, h0, hn, hm => by
   have hl := eA hk
   have h1 := hk.1
   have hmu : d.mu = d.e - d.p + 1 := by unfold Cu.mu; rw [if_neg (by omega)]
   rw [fB, bU, if_neg (by omega)]
   by_cases a : d.p = d.e
   . obtain ⟨b1, b2⟩ := ml h0 a
     have hc : d.byte.c = 1 := by rw [b1]
     rw [if_pos (by omega), if_pos (by omega), n5 (by omega) (by omega)]
     exact ⟨fun k => absurd k (by decide), fun _ => ⟨hc, rfl⟩⟩
   have a' : d.p < d.e := by omega
   obtain ⟨b1, b2⟩ := fi h0 a'
   have on1 := On.byte h0 a'
   have hkb := ec hk
   rw [if_neg (show ¬ d.byte.c ≠ 0 by rw [on1.c0]; decide), if_neg (show ¬ d.a9.length ≤ d.p by omega), b2]
   by_cases q34 : (d.a9.getD d.p 0).toNat = 34
   . rw [if_pos q34, if_pos q34]
     exact ⟨fun _ => ⟨on1.c0, on1.p, rfl, on1.s, on1.e⟩, fun k => absurd rfl k⟩
   rw [if_neg q34, if_neg q34]
   by_cases q32 : (d.a9.getD d.p 0).toNat < 32
   . have hp : bh d.a9 d.p = ([], 0, 3) := by unfold bh; rw [if_neg (by omega), if_pos q32]
     have hc : (d.byte.fail 3).c = 3 := by rw [fK _ on1.c0]
     rw [if_pos q32, hp, if_pos (by decide), n5 (by omega) (by omega)]
     exact ⟨fun k => absurd k (by decide), fun _ => ⟨hc, rfl⟩⟩
   rw [if_neg q32]
   have step : ∀ (f : Cu) (k : Nat) (w : List UInt8), On d f k → 0 < k → f.ok → tJ d (fB n f (o ++ w)) (bU d.a9 m (d.p + k) (o ++ w)) := fun f k w hf hk0 hfk => by
    have hfm : f.mu = f.e - f.p + 1 := by unfold Cu.mu; rw [if_neg (by have := hf.c0; omega)]
    have ih := go_eq n m f (o ++ w) hfk hf.c0 (by rw [hfm, hf.e, hf.p]; omega) (by rw [hf.a9, hf.p]; omega)
    rw [hf.a9, hf.p] at ih
    exact ⟨fun q => by obtain ⟨i1, i2, i3, i4, i5⟩ := ih.1 q; exact ⟨i1, i2, i3, i4.trans hf.s, i5.trans hf.e⟩, ih.2⟩
   by_cases q92 : (d.a9.getD d.p 0).toNat = 92
   . have hp : bh d.a9 d.p = cA d.a9 (d.p + 1) := by unfold bh; rw [if_pos q92]
     have ee := DW hkb on1.c0
     rw [on1.a9, on1.p] at ee
     rw [if_pos q92, hp]
     by_cases e0 : (cA d.a9 (d.p + 1)).2.2 ≠ 0
     . have hc := ee.2 e0
       rw [if_pos e0, n5 (by omega) (by rw [hc]; exact e0)]
       exact ⟨fun k => absurd k e0, fun _ => ⟨hc, rfl⟩⟩
     . rw [if_neg e0]
       obtain ⟨k, r1, r2, r3⟩ := ee.1 (by omega)
       rw [r2, r3, Int.toNat_natCast]
       have := step _ (1 + k) (cA d.a9 (d.p + 1)).1 (on1.trans r1) (by omega) (my hkb)
       rw [← Nat.add_assoc] at this
       exact this
   . have ee := K5 hk h0 a'
     rw [if_neg q92]
     by_cases e0 : (b8 d.a9 d.p).2 = 0
     . have hp : bh d.a9 d.p = ([], 0, 5) := by unfold bh; rw [if_neg q92, if_neg q32, if_pos e0]
       have hc := ee.1 e0
       rw [hp, if_pos (by decide), n5 (by omega) (by omega)]
       exact ⟨fun k => absurd k (by decide), fun _ => ⟨hc, rfl⟩⟩
     . have hp : bh d.a9 d.p = ((d.a9.take (d.p + (b8 d.a9 d.p).2)).drop d.p, ((d.p + (b8 d.a9 d.p).2 : Nat) : Int), 0) := by unfold bh; rw [if_neg q92, if_neg q32, if_neg e0]
       obtain ⟨r1, r2⟩ := ee.2 e0
       rw [hp, if_neg (fun k => k rfl), r2]
       exact step _ _ _ r1 (by omega) (mZ hkb _)
theorem K9 {c : Cu} (hk : c.ok) : c.read.2 = c.dt.2 ∧ c.read.1.c = c.dt.1.c ∧ (c.dt.1.c = 0 → c.read.1 = c.dt.1) := by
 have h1 := hk.1
 have hl := eA hk
 unfold Cu.read Cu.dt
 by_cases a : c.c ≠ 0
 . have hs : c.start = c := by unfold Cu.start; rw [if_neg (by omega)]
   obtain ⟨b1, _⟩ := np a
   rw [hs, b1, n5 (by omega) a, if_pos a]
   exact ⟨rfl, rfl, fun k => absurd k a⟩
 have h0 : c.c = 0 := by omega
 rw [if_neg a]
 by_cases b : c.p = c.e
 . have hs : c.start = c := by unfold Cu.start; rw [if_neg (by omega)]
   obtain ⟨b1, _⟩ := ml h0 b
   have hc : c.byte.c = 1 := by rw [b1]
   rw [hs, n5 (by omega) (by omega), if_pos b, fK _ h0]
   exact ⟨rfl, hc, fun k => absurd k (by show (1 : Int) ≠ 0; decide)⟩
 have b' : c.p < c.e := by omega
 obtain ⟨d1, d2⟩ := fi h0 b'
 have hg : c.get = c.a9.getD c.p 0 := by unfold Cu.a9; rw [jS b']; rfl
 rw [if_neg b]
 by_cases e : c.get.toNat ≠ 34
 . have hs : c.start = c.fail 3 := by unfold Cu.start; rw [if_pos ⟨⟨h0, b'⟩, by rw [d2, ← hg]; exact e⟩]
   have hf : (c.fail 3).c = 3 := by rw [fK _ h0]
   obtain ⟨b1, _⟩ := np (c := c.fail 3) (by omega)
   rw [hs, b1, n5 (by omega) (by omega), if_pos e]
   exact ⟨rfl, rfl, fun k => absurd (hf.symm.trans k) (by decide)⟩
 rw [if_neg e]
 have hs : c.start = c := by unfold Cu.start; rw [if_neg (by rw [d2, ← hg]; exact fun k => k.2 (by omega))]
 have on1 := On.byte h0 b'
 rw [hs]
 have ge := go_eq (c.byte.mu + 1) (c.e - c.p) c.byte [] (ec hk) on1.c0 (by omega) (by rw [on1.a9, on1.p]; omega)
 rw [on1.a9, on1.p] at ge
 have ge : tJ c.byte (fB (c.byte.mu + 1) c.byte []) (bU (c.s.take c.e) (c.e - c.p) (c.p + 1) []) := ge
 by_cases r : (bU (c.s.take c.e) (c.e - c.p) (c.p + 1) []).1 = 0
 . rw [if_pos r]
   obtain ⟨g1, g2, g3, g4, g5⟩ := ge.1 r
   refine ⟨g3, g1.trans h0.symm, fun _ => ?_⟩
   generalize (fB (c.byte.mu + 1) c.byte []).1 = f at *
   obtain ⟨fs, fp, fe, fc⟩ := f
   simp only at g1 g2 g4 g5
   rw [g1, g2, g4, g5, on1.s, on1.e]
   obtain ⟨cs, cp, ce, cc⟩ := c
   simp only at h0
   rw [h0]
 . rw [if_neg r, fK _ h0]
   obtain ⟨g1, g2⟩ := ge.2 r
   exact ⟨g2, g1, fun k => absurd k r⟩
end Go.Proofs.YtllncocibkgjkaaGreat
