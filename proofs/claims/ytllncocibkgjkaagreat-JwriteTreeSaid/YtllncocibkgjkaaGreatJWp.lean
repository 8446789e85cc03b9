/-
  A part of the proof.
-/
import Derived.Test.YtllncocibkgjkaaGreatJWm
set_option linter.unusedSimpArgs false
set_option linter.unusedVariables false
set_option maxHeartbeats 4000000
namespace Go.Proofs.YtllncocibkgjkaaGreat
open Go Go.VG
set_option maxRecDepth 100000
theorem He {l : List V} {n : Nat} {x : V} {K : V → Prop} (h1 : ab (n < l.length)) (h2 : K x) : jj (l.set n x) n K := ⟨x, by simp [h1.h], h2⟩
theorem uN {w : WS} {n : Nat} {K : V → Prop} {k : Bool} (hk : w.top.k = k) (h1 : ab (n + 1 = w.l.length)) (h2 : K (.agg [.int .u8 w.top.e.toNat, .bool w.top.b, .bool k])) : jj (w.l.map ef) n K := by
 obtain rfl : n = w.l.length - 1 := by have := h1.h; omega
 subst hk
 exact goG ⟨by have := h1.h; omega⟩ h2
theorem Fu (w : WS) (c : Int) (hp : True) : OK 59 ([.ptr 0 0, .int .i64 c]) (eW w) (.tuple []) (some (eW (w.fail c))) := by
 refine aq (C := cx []) (ar trivial) (fn := Tryz.f59) rfl rfl rfl rfl fun hw hs => ?_
 repeat' ((conv => whnf); (apply al <;> intro h))
 all_goals try conv => whnf
 all_goals try (refine ab.mk ?_; try dsimp only)
 all_goals try refine stay ?_
 all_goals
  unfold WS.fail
  first | rw [if_pos (by assumption)] | rw [if_neg (by assumption)]
  refine a8.mk [] ?_ <;> (repeat' first | trivial)
def n7 : Sm := fun args σ => match args, σ with
 | [.ptr 0 0, .int .i64 c], [.cells [.buf 1, .buf 2, .bool h_w, .int .i64 c_w, .func (.func 38) [] []], .buf 1 0 o_w, .buf 3 0 l_w] => some (okW o_w l_w ∧ (True), .tuple [], some (eW ((bq o_w l_w h_w c_w).fail c)))
 | _, _ => none
theorem pK : ay 59 n7 := by
 intro args sg pre x r he hp
 unfold n7 at he
 split at he <;> cases he
 . rw [iO (hp).1]; exact Fu (hp := hp.2) ..
theorem Fy  (hp : True) : OK 60 ([.nilptr]) ([]) (.bool false) (none) := by
 refine aq (C := cx [(59, n7)]) (ar ⟨pK, trivial⟩) (fn := Tryz.f60) rfl rfl rfl rfl fun hw hs => ?_
 all_goals try conv => whnf
 all_goals try (refine ab.mk ?_; try dsimp only)
 all_goals try refine stay ?_
 refine a8.mk [] ?_ <;> (repeat' first | trivial)
theorem Fz (w : WS) (hp : w.out.length ≤ 2000000000 ∧ w.l.length ≤ 1000) : OK 60 ([.ptr 0 0]) (eW w) (.bool w.may.2) (some (eW w.may.1)) := by
 refine aq (C := cx [(59, n7)]) (ar ⟨pK, trivial⟩) (fn := Tryz.f60) rfl rfl rfl rfl fun hw hs => ?_
 have e1 : (w.l.map ef).length = w.l.length := by simp
 cases hk : w.top.k
 all_goals have idx_topk := fun {n : Nat} {K : V → Prop} => uN (n := n) (K := K) hk
 . repeat' ((conv => whnf); first | apply ak | apply aV | ((first | apply al | apply j0) <;> intro h) | with_reducible refine idx_topk ?_ ?_)
   all_goals try conv => whnf
   all_goals try (refine ab.mk ?_; try dsimp only)
   all_goals first | refine stay ?_ | omega | (simp (discharger := omega) only [wR]; omega) | (simp only [cK]; omega) | skip
   all_goals first
    | exact ⟨ie hp.1 hp.2, trivial⟩
    | skip
   all_goals
    have he : w.may = w.may := rfl
    conv at he => rhs; unfold WS.may
    repeat (first | rw [if_pos (by first | assumption | omega)] at he | rw [if_neg (by first | assumption | omega | simp_all)] at he)
    rw [he]
    first | rw [bR] | skip
    refine a8.mk [] ?_ <;> (repeat' first | trivial | apply aj | apply aM)
    all_goals (try rw [show (IntKind.i64.wrap (↑(List.map ef w.l).length - 1)).toNat = w.l.length - 1 by (simp (discharger := omega) only [wR]; omega)])
    all_goals simp [WS.fD, List.map_set, hk, cz, bl, bv]
 . repeat' ((conv => whnf); first | apply ak | apply aV | ((first | apply al | apply j0) <;> intro h) | with_reducible refine idx_topk ?_ ?_)
   all_goals try conv => whnf
   all_goals try (refine ab.mk ?_; try dsimp only)
   all_goals first | refine stay ?_ | omega | (simp (discharger := omega) only [wR]; omega) | (simp only [cK]; omega) | skip
   all_goals first
    | exact ⟨ie hp.1 hp.2, trivial⟩
    | skip
   all_goals
    have he : w.may = w.may := rfl
    conv at he => rhs; unfold WS.may
    repeat (first | rw [if_pos (by first | assumption | omega)] at he | rw [if_neg (by first | assumption | omega | simp_all)] at he)
    rw [he]
    first | rw [bR] | skip
    refine a8.mk [] ?_ <;> (repeat' first | trivial | apply aj | apply aM)
    all_goals (try rw [show (IntKind.i64.wrap (↑(List.map ef w.l).length - 1)).toNat = w.l.length - 1 by (simp (discharger := omega) only [wR]; omega)])
    all_goals simp [WS.fD, List.map_set, hk, cz, bl, bv]
def lZ : Sm := fun args σ => match args, σ with
 | [.nilptr], [] => some (True, .bool false, none)
 | [.ptr 0 0], [.cells [.buf 1, .buf 2, .bool h_w, .int .i64 c_w, .func (.func 38) [] []], .buf 1 0 o_w, .buf 3 0 l_w] => some (okW o_w l_w ∧ ((bq o_w l_w h_w c_w).out.length ≤ 2000000000 ∧ (bq o_w l_w h_w c_w).l.length ≤ 1000), .bool (bq o_w l_w h_w c_w).may.2, some (eW (bq o_w l_w h_w c_w).may.1))
 | _, _ => none
theorem nZ : ay 60 lZ := by
 intro args sg pre x r he hp
 unfold lZ at he
 split at he <;> cases he
 . exact Fy (hp := hp) ..
 . rw [iO (hp).1]; exact Fz (hp := hp.2) ..
theorem qa {w : WS} (h : w.out.length ≤ 1900000000 ∧ w.l.length ≤ 900) : okW (bl w.out) (w.l.map ef) ∧ (bq (bl w.out) (w.l.map ef) w.whole w.code).out.length ≤ 2000000000 ∧ (bq (bl w.out) (w.l.map ef) w.whole w.code).l.length ≤ 1000 := by
 rw [bR]; exact ⟨ie (by omega) (by omega), by omega, by omega⟩
theorem FB (w : WS) (hp : w.out.length ≤ 1900000000 ∧ w.l.length ≤ 900) : OK 32 ([.ptr 0 0]) (eW w) (.tuple []) (some (eW (w.put [110, 117, 108, 108]))) := by
 refine aq (C := cx [(60, lZ)]) (ar ⟨nZ, trivial⟩) (fn := Tryz.f32) rfl rfl rfl rfl fun hw hs => ?_
 repeat' ((conv => whnf); first | apply ak | (apply j0 <;> intro h))
 all_goals try conv => whnf
 all_goals try (refine ab.mk ?_; try dsimp only)
 all_goals try refine stay ?_
 all_goals first
  | exact qa hp
  | (rw [bR]; have := fA w; (simp only [cK]; omega))
  | (rw [bR]; have := fA w; refine ⟨hn, ?_⟩; omega)
  | skip
 all_goals (try rw [bR] at *)
 all_goals
  have hm := fA w
  unfold WS.put
  first | rw [if_pos (by assumption)] | rw [if_neg (by simp_all)]
  refine a8.mk [] ?_ <;> (repeat' first | trivial | apply aj | apply aM)
  all_goals (try rw [bR])
  all_goals first
   | (simp [cz, bl, bv]; done)
   | (simp_all [cz, bl, bv, jQ]; done)
def sV : Sm := fun args σ => match args, σ with
 | [.ptr 0 0], [.cells [.buf 1, .buf 2, .bool h_w, .int .i64 c_w, .func (.func 38) [] []], .buf 1 0 o_w, .buf 3 0 l_w] => some (okW o_w l_w ∧ ((bq o_w l_w h_w c_w).out.length ≤ 1900000000 ∧ (bq o_w l_w h_w c_w).l.length ≤ 900), .tuple [], some (eW ((bq o_w l_w h_w c_w).put [110, 117, 108, 108])))
 | _, _ => none
theorem Ad : ay 32 sV := by
 intro args sg pre x r he hp
 unfold sV at he
 split at he <;> cases he
 . rw [iO (hp).1]; exact FB (hp := hp.2) ..
theorem Fv (w : WS) (b : Bool) (hp : w.out.length ≤ 1900000000 ∧ w.l.length ≤ 900) : OK 34 ([.ptr 0 0, .bool b]) (eW w) (.tuple []) (some (eW (w.put (jQ b)))) := by
 refine aq (C := cx [(60, lZ)]) (ar ⟨nZ, trivial⟩) (fn := Tryz.f34) rfl rfl rfl rfl fun hw hs => ?_
 repeat' ((conv => whnf); first | apply ak | apply aV | (apply j0 <;> intro h))
 all_goals try conv => whnf
 all_goals try (refine ab.mk ?_; try dsimp only)
 all_goals try refine stay ?_
 all_goals first
  | exact qa hp
  | (rw [bR]; have := fA w; (simp only [cK]; omega))
  | (rw [bR]; have := fA w; refine ⟨hn, ?_⟩; omega)
  | skip
 all_goals (try rw [bR] at *)
 all_goals
  have hm := fA w
  unfold WS.put
  first | rw [if_pos (by assumption)] | rw [if_neg (by simp_all)]
  refine a8.mk [] ?_ <;> (repeat' first | trivial | apply aj | apply aM)
  all_goals (try rw [bR])
  all_goals first
   | (simp [cz, bl, bv]; done)
   | (simp_all [cz, bl, bv, jQ]; done)
def sQ : Sm := fun args σ => match args, σ with
 | [.ptr 0 0, .bool b], [.cells [.buf 1, .buf 2, .bool h_w, .int .i64 c_w, .func (.func 38) [] []], .buf 1 0 o_w, .buf 3 0 l_w] => some (okW o_w l_w ∧ ((bq o_w l_w h_w c_w).out.length ≤ 1900000000 ∧ (bq o_w l_w h_w c_w).l.length ≤ 900), .tuple [], some (eW ((bq o_w l_w h_w c_w).put (jQ b))))
 | _, _ => none
theorem A9 : ay 34 sQ := by
 intro args sg pre x r he hp
 unfold sQ at he
 split at he <;> cases he
 . rw [iO (hp).1]; exact Fv (hp := hp.2) ..
theorem FD (s : List UInt8) (hp : True) : OK 35 ([.nilptr, .str s]) ([]) (.tuple []) (none) := by
 refine aq (C := cx [(60, lZ), (38, qx)]) (ar ⟨nZ, uP, trivial⟩) (fn := Tryz.f35) rfl rfl rfl rfl fun hw hs => ?_
 repeat' ((conv => whnf); apply ak)
 all_goals try conv => whnf
 all_goals try (refine ab.mk ?_; try dsimp only)
 all_goals try refine stay ?_
 refine a8.mk [] ?_ <;> (repeat' first | trivial)
theorem FE (w : WS) (s : List UInt8) (hp : (w.out.length ≤ 1900000000 ∧ w.l.length ≤ 900) ∧ s.length ≤ 100000000) : OK 35 ([.ptr 0 0, .str s]) (eW w) (.tuple []) (some (eW (w.put (quote s)))) := by
 refine aq (C := cx [(60, lZ), (38, qx)]) (ar ⟨nZ, uP, trivial⟩) (fn := Tryz.f35) rfl rfl rfl rfl fun hw hs => ?_
 obtain ⟨hp, hq⟩ := hp
 repeat' ((conv => whnf); first | apply ak | (apply j0 <;> intro h))
 all_goals try conv => whnf
 all_goals try (refine ab.mk ?_; try dsimp only)
 all_goals try refine stay ?_
 all_goals first
  | exact qa hp
  | (rw [bR]; have := fA w; (simp only [cK]; omega))
  | (rw [bR]; have := fA w; refine ⟨hn, ?_⟩; omega)
  | skip
 all_goals (try rw [bR] at *)
 all_goals
  have hm := fA w
  unfold WS.put
  first | rw [if_pos (by assumption)] | rw [if_neg (by simp_all)]
  refine a8.mk [] ?_ <;> (repeat' first | trivial | apply aj | apply aM)
  all_goals (try rw [bR])
  all_goals first
   | (simp [cz, bl, bv]; done)
   | (simp_all [cz, bl, bv, jQ]; done)
def sX : Sm := fun args σ => match args, σ with
 | [.nilptr, .str s], [] => some (True, .tuple [], none)
 | [.ptr 0 0, .str s], [.cells [.buf 1, .buf 2, .bool h_w, .int .i64 c_w, .func (.func 38) [] []], .buf 1 0 o_w, .buf 3 0 l_w] => some (okW o_w l_w ∧ (((bq o_w l_w h_w c_w).out.length ≤ 1900000000 ∧ (bq o_w l_w h_w c_w).l.length ≤ 900) ∧ s.length ≤ 100000000), .tuple [], some (eW ((bq o_w l_w h_w c_w).put (quote s))))
 | _, _ => none
theorem Af : ay 35 sX := by
 intro args sg pre x r he hp
 unfold sX at he
 split at he <;> cases he
 . exact FD (hp := hp) ..
 . rw [iO (hp).1]; exact FE (hp := hp.2) ..
theorem FF (w : WS) (n : Int) (hp : (w.out.length ≤ 1900000000 ∧ w.l.length ≤ 900)) : OK 31 ([.ptr 0 0, .int .i64 n]) (eW w) (.tuple []) (some (eW (w.put (gy n)))) := by
 refine aq (C := cx [(60, lZ), (61, wi)]) (ar ⟨nZ, Hp, trivial⟩) (fn := Tryz.f31) rfl rfl rfl rfl fun hw hs => ?_
 have hn : -9223372036854775808 ≤ n ∧ n ≤ 9223372036854775807 := hw.2.1
 repeat' ((conv => whnf); first | apply ak | (apply j0 <;> intro h))
 all_goals try conv => whnf
 all_goals try (refine ab.mk ?_; try dsimp only)
 all_goals try refine stay ?_
 all_goals first
  | exact qa hp
  | (rw [bR]; have := fA w; (simp only [cK]; omega))
  | (rw [bR]; have := fA w; refine ⟨hn, ?_⟩; omega)
  | skip
 all_goals (try rw [bR] at *)
 all_goals
  have hm := fA w
  unfold WS.put
  first | rw [if_pos (by assumption)] | rw [if_neg (by simp_all)]
  refine a8.mk [] ?_ <;> (repeat' first | trivial | apply aj | apply aM)
  all_goals (try rw [bR])
  all_goals first
   | (simp [cz, bl, bv]; done)
   | (simp_all [cz, bl, bv, jQ]; done)
def sY : Sm := fun args σ => match args, σ with
 | [.ptr 0 0, .int .i64 n], [.cells [.buf 1, .buf 2, .bool h_w, .int .i64 c_w, .func (.func 38) [] []], .buf 1 0 o_w, .buf 3 0 l_w] => some (okW o_w l_w ∧ (((bq o_w l_w h_w c_w).out.length ≤ 1900000000 ∧ (bq o_w l_w h_w c_w).l.length ≤ 900)), .tuple [], some (eW ((bq o_w l_w h_w c_w).put (gy n))))
 | _, _ => none
theorem Ah : ay 31 sY := by
 intro args sg pre x r he hp
 unfold sY at he
 split at he <;> cases he
 . rw [iO (hp).1]; exact FF (hp := hp.2) ..
theorem Fo (w : WS) (a e : UInt8) (hp : (w.out.length ≤ 1900000000 ∧ w.l.length ≤ 900)) : OK 58 ([.ptr 0 0, bv a, bv e]) (eW w) (.tuple []) (some (eW (w.begin a e))) := by
 refine aq (C := cx [(60, lZ), (59, n7)]) (ar ⟨nZ, pK, trivial⟩) (fn := Tryz.f58) rfl rfl rfl rfl fun hw hs => ?_
 repeat' ((conv => whnf); first | apply ak | apply aV | ((first | apply al | apply j0) <;> intro h))
 all_goals try conv => whnf
 all_goals try (refine ab.mk ?_; try dsimp only)
 all_goals try refine stay ?_
 all_goals first
  | exact qa hp
  | exact ⟨ie (by omega) (by omega), trivial⟩
  | (rw [bR]; have := fA w; (first | (simp only [cK]; omega) | (simp (discharger := omega) [-List.getD_eq_getElem?_getD, wR] <;> omega)))
  | skip
 all_goals (try rw [bR] at *)
 all_goals
  have hm := fA w
  try simp only [List.length_map] at *
  unfold WS.begin
  repeat (first | rw [if_pos (by first | assumption | omega)] | rw [if_neg (by first | omega | simp_all)])
  refine a8.mk [] ?_ <;> (repeat' first | trivial | apply aj | apply aM)
  all_goals (try rw [bR])
  all_goals simp [cz, bl, bv]
def sM : Sm := fun args σ => match args, σ with
 | [.ptr 0 0, .int .u8 n_a, .int .u8 n_e], [.cells [.buf 1, .buf 2, .bool h_w, .int .i64 c_w, .func (.func 38) [] []], .buf 1 0 o_w, .buf 3 0 l_w] => some ((0 ≤ n_e ∧ n_e ≤ 255) ∧ ((0 ≤ n_a ∧ n_a ≤ 255) ∧ (okW o_w l_w ∧ (((bq o_w l_w h_w c_w).out.length ≤ 1900000000 ∧ (bq o_w l_w h_w c_w).l.length ≤ 900)))), .tuple [], some (eW ((bq o_w l_w h_w c_w).begin (byte n_a) (byte n_e))))
 | _, _ => none
theorem A6 : ay 58 sM := by
 intro args sg pre x r he hp
 unfold sM at he
 split at he <;> cases he
 . rw [dw (hp).1]; rw [dw (hp.2).1]; rw [iO (hp.2.2).1]; exact Fo (hp := hp.2.2.2) ..
theorem FC (w : WS) (hp : (w.out.length ≤ 1900000000 ∧ w.l.length ≤ 900)) : OK 28 ([.ptr 0 0]) (eW w) (.tuple []) (some (eW (w.begin 123 125))) := by
 refine aq (C := cx [(58, sM)]) (ar ⟨A6, trivial⟩) (fn := Tryz.f28) rfl rfl rfl rfl fun hw hs => ?_
 repeat' ((conv => whnf); apply ak)
 all_goals try conv => whnf
 all_goals try (refine ab.mk ?_; try dsimp only)
 all_goals try refine stay ?_
 all_goals first
  | (refine ⟨by omega, by omega, ie (by omega) (by omega), ?_⟩; rw [bR]; exact hp)
  | skip
 all_goals (try rw [bR])
 refine a8.mk [] ?_ <;> (repeat' first | trivial)
def sW : Sm := fun args σ => match args, σ with
 | [.ptr 0 0], [.cells [.buf 1, .buf 2, .bool h_w, .int .i64 c_w, .func (.func 38) [] []], .buf 1 0 o_w, .buf 3 0 l_w] => some (okW o_w l_w ∧ (((bq o_w l_w h_w c_w).out.length ≤ 1900000000 ∧ (bq o_w l_w h_w c_w).l.length ≤ 900)), .tuple [], some (eW ((bq o_w l_w h_w c_w).begin 123 125)))
 | _, _ => none
theorem Ae : ay 28 sW := by
 intro args sg pre x r he hp
 unfold sW at he
 split at he <;> cases he
 . rw [iO (hp).1]; exact FC (hp := hp.2) ..
theorem Fx (w : WS) (hp : (w.out.length ≤ 1900000000 ∧ w.l.length ≤ 900)) : OK 30 ([.ptr 0 0]) (eW w) (.tuple []) (some (eW (w.begin 91 93))) := by
 refine aq (C := cx [(58, sM)]) (ar ⟨A6, trivial⟩) (fn := Tryz.f30) rfl rfl rfl rfl fun hw hs => ?_
 repeat' ((conv => whnf); apply ak)
 all_goals try conv => whnf
 all_goals try (refine ab.mk ?_; try dsimp only)
 all_goals try refine stay ?_
 all_goals first
  | (refine ⟨by omega, by omega, ie (by omega) (by omega), ?_⟩; rw [bR]; exact hp)
  | skip
 all_goals (try rw [bR])
 refine a8.mk [] ?_ <;> (repeat' first | trivial)
def sS : Sm := fun args σ => match args, σ with
 | [.ptr 0 0], [.cells [.buf 1, .buf 2, .bool h_w, .int .i64 c_w, .func (.func 38) [] []], .buf 1 0 o_w, .buf 3 0 l_w] => some (okW o_w l_w ∧ (((bq o_w l_w h_w c_w).out.length ≤ 1900000000 ∧ (bq o_w l_w h_w c_w).l.length ≤ 900)), .tuple [], some (eW ((bq o_w l_w h_w c_w).begin 91 93)))
 | _, _ => none
theorem Ab : ay 30 sS := by
 intro args sg pre x r he hp
 unfold sS at he
 split at he <;> cases he
 . rw [iO (hp).1]; exact Fx (hp := hp.2) ..
theorem Ft (w : WS) (hp : (w.out.length ≤ 1900000000 ∧ w.l.length ≤ 900)) : OK 33 ([.ptr 0 0]) (eW w) (.tuple []) (some (eW w.fin)) := by
 refine aq (C := cx [(59, n7)]) (ar ⟨pK, trivial⟩) (fn := Tryz.f33) rfl rfl rfl rfl fun hw hs => ?_
 have e1 : (w.l.map ef).length = w.l.length := by simp
 cases hk : w.top.k
 all_goals have idx_topk := fun {n : Nat} {K : V → Prop} => uN (n := n) (K := K) hk
 . repeat' ((conv => whnf); first | apply ak | apply aV | (apply al <;> intro h) | with_reducible refine idx_topk ?_ ?_)
   all_goals try conv => whnf
   all_goals try (refine ab.mk ?_; try dsimp only)
   all_goals first | refine stay ?_ | (simp (discharger := omega) only [wR]; omega) | (simp only [cK]; omega) | skip
   all_goals first
    | exact ⟨ie (by omega) (by omega), trivial⟩
    | skip
   all_goals (try rw [bR] at *)
   all_goals
    try simp only [List.length_map] at *
    first | unfold WS.fin | unfold WS.key
    repeat (first | rw [if_pos (by first | assumption | omega | (simp [hk]; done) | (simp only [hk, reduceCtorEq, or_false, or_true, not_true_eq_false]; omega))] | rw [if_neg (by first | omega | (simp [hk]; done) | (simp only [hk, reduceCtorEq, or_false, or_true, not_true_eq_false]; omega))])
    refine a8.mk [] ?_ <;> (repeat' first | trivial | apply aj | apply aM)
    all_goals (try rw [bR])
    all_goals (try rw [show (IntKind.i64.wrap (w.l.length - 1)).toNat = w.l.length - 1 by (simp (discharger := omega) only [wR]; omega)])
    all_goals first
     | (simp [WS.fD, List.map_set, List.map_take, hk, cz, bl, bv]; done)
     | (simp_all [WS.fD, List.map_set, List.map_take, cz, bl, bv]; done)
 . repeat' ((conv => whnf); first | apply ak | apply aV | (apply al <;> intro h) | with_reducible refine idx_topk ?_ ?_)
   all_goals try conv => whnf
   all_goals try (refine ab.mk ?_; try dsimp only)
   all_goals first | refine stay ?_ | (simp (discharger := omega) only [wR]; omega) | skip
   all_goals first
    | exact ⟨ie (by omega) (by omega), trivial⟩
    | skip
   all_goals (try rw [bR] at *)
   all_goals
    try simp only [List.length_map] at *
    first | unfold WS.fin | unfold WS.key
    repeat (first | rw [if_pos (by first | assumption | omega | (simp [hk]; done) | (simp only [hk, reduceCtorEq, or_false, or_true, not_true_eq_false]; omega))] | rw [if_neg (by first | omega | (simp [hk]; done) | (simp only [hk, reduceCtorEq, or_false, or_true, not_true_eq_false]; omega))])
    refine a8.mk [] ?_ <;> (repeat' first | trivial)
    all_goals (try rw [bR])
    all_goals (try rw [show (IntKind.i64.wrap (w.l.length - 1)).toNat = w.l.length - 1 by omega])
    all_goals first
     | (simp [WS.fD, List.map_set, List.map_take, hk, cz, bl, bv]; done)
     | (simp_all [WS.fD, List.map_set, List.map_take, cz, bl, bv]; done)
def sP : Sm := fun args σ => match args, σ with
 | [.ptr 0 0], [.cells [.buf 1, .buf 2, .bool h_w, .int .i64 c_w, .func (.func 38) [] []], .buf 1 0 o_w, .buf 3 0 l_w] => some (okW o_w l_w ∧ (((bq o_w l_w h_w c_w).out.length ≤ 1900000000 ∧ (bq o_w l_w h_w c_w).l.length ≤ 900)), .tuple [], some (eW (bq o_w l_w h_w c_w).fin))
 | _, _ => none
theorem A8 : ay 33 sP := by
 intro args sg pre x r he hp
 unfold sP at he
 split at he <;> cases he
 . rw [iO (hp).1]; exact Ft (hp := hp.2) ..
theorem Fw (w : WS) (s : List UInt8) (hp : (w.out.length ≤ 1900000000 ∧ w.l.length ≤ 900) ∧ s.length ≤ 100000000) : OK 29 ([.ptr 0 0, .str s]) (eW w) (.tuple []) (some (eW (w.key s))) := by
 refine aq (C := cx [(59, n7), (38, qx)]) (ar ⟨pK, uP, trivial⟩) (fn := Tryz.f29) rfl rfl rfl rfl fun hw hs => ?_
 obtain ⟨hp, hq⟩ := hp
 have hq2 := sn s
 have e1 : (w.l.map ef).length = w.l.length := by simp
 cases hk : w.top.k
 all_goals have idx_topk := fun {n : Nat} {K : V → Prop} => uN (n := n) (K := K) hk
 . repeat' ((conv => whnf); first | apply ak | apply aV | ((first | apply al | apply j0) <;> intro h) | with_reducible (first | refine idx_topk ?_ ?_ | refine He ?_ ?_))
   all_goals try conv => whnf
   all_goals try (refine ab.mk ?_; try dsimp only)
   all_goals first | refine stay ?_ | omega | (simp (discharger := omega) only [wR]; omega) | (simp only [cK]; omega) | skip
   all_goals first
    | exact ⟨ie (by omega) (by omega), trivial⟩
    | skip
   all_goals (try rw [bR] at *)
   all_goals
    try simp only [List.length_map] at *
    first | unfold WS.fin | unfold WS.key
    repeat (first | rw [if_pos (by first | assumption | omega | (simp [hk]; done) | (simp only [hk, reduceCtorEq, or_false, or_true, not_true_eq_false]; omega))] | rw [if_neg (by first | omega | (simp [hk]; done) | (simp only [hk, reduceCtorEq, or_false, or_true, not_true_eq_false]; omega))])
    refine a8.mk [] ?_ <;> (repeat' first | trivial | apply aj | apply aM)
    all_goals (try rw [bR])
    all_goals (try rw [show (IntKind.i64.wrap (w.l.length - 1)).toNat = w.l.length - 1 by (simp (discharger := omega) only [wR]; omega)])
    all_goals first
     | (simp [WS.fD, List.map_set, List.map_take, hk, cz, bl, bv]; done)
     | (simp_all [WS.fD, List.map_set, List.map_take, cz, bl, bv]; done)
 . repeat' ((conv => whnf); first | apply ak | apply aV | (apply al <;> intro h) | with_reducible refine idx_topk ?_ ?_)
   all_goals try conv => whnf
   all_goals try (refine ab.mk ?_; try dsimp only)
   all_goals first | refine stay ?_ | (simp (discharger := omega) only [wR]; omega) | skip
   all_goals first
    | exact ⟨ie (by omega) (by omega), trivial⟩
    | skip
   all_goals (try rw [bR] at *)
   all_goals
    try simp only [List.length_map] at *
    first | unfold WS.fin | unfold WS.key
    repeat (first | rw [if_pos (by first | assumption | omega | (simp [hk]; done) | (simp only [hk, reduceCtorEq, or_false, or_true, not_true_eq_false]; omega))] | rw [if_neg (by first | omega | (simp [hk]; done) | (simp only [hk, reduceCtorEq, or_false, or_true, not_true_eq_false]; omega))])
    refine a8.mk [] ?_ <;> (repeat' first | trivial)
    all_goals (try rw [bR])
    all_goals (try rw [show (IntKind.i64.wrap (w.l.length - 1)).toNat = w.l.length - 1 by omega])
    all_goals first
     | (simp [WS.fD, List.map_set, List.map_take, hk, cz, bl, bv]; done)
     | (simp_all [WS.fD, List.map_set, List.map_take, cz, bl, bv]; done)
def sR : Sm := fun args σ => match args, σ with
 | [.ptr 0 0, .str s], [.cells [.buf 1, .buf 2, .bool h_w, .int .i64 c_w, .func (.func 38) [] []], .buf 1 0 o_w, .buf 3 0 l_w] => some (okW o_w l_w ∧ (((bq o_w l_w h_w c_w).out.length ≤ 1900000000 ∧ (bq o_w l_w h_w c_w).l.length ≤ 900) ∧ s.length ≤ 100000000), .tuple [], some (eW ((bq o_w l_w h_w c_w).key s)))
 | _, _ => none
theorem Aa : ay 29 sR := by
 intro args sg pre x r he hp
 unfold sR at he
 split at he <;> cases he
 . rw [iO (hp).1]; exact Fw (hp := hp.2) ..
theorem Fq  (hp : True) : OK 12 ([.nilptr]) ([]) (.tuple [.str [], .int .i64 9]) (none) := by
 refine aq (C := cx []) (ar trivial) (fn := Tryz.f12) rfl rfl rfl rfl fun hw hs => ?_
 all_goals try conv => whnf
 all_goals try (refine ab.mk ?_; try dsimp only)
 all_goals try refine stay ?_
 refine a8.mk [] ?_ <;> (repeat' first | trivial)
theorem Fs (w : WS) (hp : True) : OK 12 ([.ptr 0 0]) (eW w) (.tuple [.str w.done.1, .int .i64 w.done.2]) (none) := by
 refine aq (C := cx []) (ar trivial) (fn := Tryz.f12) rfl rfl rfl rfl fun hw hs => ?_
 have e1 : (w.l.map ef).length = w.l.length := by simp
 repeat' ((conv => whnf); first | apply aV | ((first | apply al | apply j0) <;> intro h) | apply mH)
 all_goals try conv => whnf
 all_goals try (refine ab.mk ?_; try dsimp only)
 all_goals try refine stay ?_
 all_goals
  have he : w.done = w.done := rfl
  conv at he => rhs; unfold WS.done
  repeat (first | rw [if_pos (by first | assumption | omega | (simp [*]; done) | (simp; omega))] at he | rw [if_neg (by first | omega | (intro hh; rcases hh with hh | hh; (· omega); (· simp_all)))] at he)
  rw [he]
  refine a8.mk [] ?_ <;> (repeat' first | trivial)
def sO : Sm := fun args σ => match args, σ with
 | [.nilptr], [] => some (True, .tuple [.str [], .int .i64 9], none)
 | [.ptr 0 0], [.cells [.buf 1, .buf 2, .bool h_w, .int .i64 c_w, .func (.func 38) [] []], .buf 1 0 o_w, .buf 3 0 l_w] => some (okW o_w l_w ∧ (True), .tuple [.str (bq o_w l_w h_w c_w).done.1, .int .i64 (bq o_w l_w h_w c_w).done.2], none)
 | _, _ => none
theorem A7 : ay 12 sO := by
 intro args sg pre x r he hp
 unfold sO at he
 split at he <;> cases he
 . exact Fq (hp := hp) ..
 . rw [iO (hp).1]; exact Fs (hp := hp.2) ..
theorem FA  (hp : True) : OK 9 ([]) ([]) (.ptr 0 0) (some (eW .new)) := by
 refine aq (C := cx []) (ar trivial) (fn := Tryz.f9) rfl rfl rfl rfl fun hw hs => ?_
 all_goals try conv => whnf
 all_goals try (refine ab.mk ?_; try dsimp only)
 all_goals try refine stay ?_
 refine a8.mk [.cell 0 0 1, .cell 0 1 3] ?_ <;> (repeat' first | trivial)
def sU : Sm := fun args σ => match args, σ with
 | [], [] => some (True, .ptr 0 0, some (eW .new))
 | _, _ => none
theorem Ac : ay 9 sU := by
 intro args sg pre x r he hp
 unfold sU at he
 split at he <;> cases he
 . exact FA (hp := hp) ..
end Go.Proofs.YtllncocibkgjkaaGreat
