/-
  A part of the proof.
-/
import Derived.Test.YtllncocibkgjkaaJWm
set_option linter.unusedSimpArgs false
set_option linter.unusedVariables false
set_option maxHeartbeats 4000000
namespace Go.Proofs.Ytllncocibkgjkaa
open Go Go.VG
set_option maxRecDepth 100000
theorem EB {l : List V} {n : Nat} {x : V} {K : V → Prop} (h1 : af (n < l.length)) (h2 : K x) : iD (l.set n x) n K := ⟨x, by simp [h1.h], h2⟩
theorem tv {w : WS} {n : Nat} {K : V → Prop} {k : Bool} (hk : w.top.k = k) (h1 : af (n + 1 = w.l.length)) (h2 : K (.agg [.int .u8 w.top.e.toNat, .bool w.top.b, .bool k])) : iD (w.l.map ef) n K := by
 obtain rfl : n = w.l.length - 1 := by have := h1.h; omega
 subst hk
 exact goG ⟨by have := h1.h; omega⟩ h2
theorem Dq (w : WS) (c : Int) (hp : True) : OK 88 ([.ptr 0 0, .int .i64 c]) (eW w) (.tuple []) (some (eW (w.fail c))) := by
 refine az (C := cx []) (ax trivial) (fn := Try.f88) rfl rfl rfl rfl fun hw hs => ?_
 repeat' ((conv => whnf); (apply ay <;> intro h))
 all_goals try conv => whnf
 all_goals try (refine af.mk ?_; try dsimp only)
 all_goals try refine stay ?_
 all_goals
  unfold WS.fail
  first | rw [if_pos (by assumption)] | rw [if_neg (by assumption)]
  refine ah.mk [] ?_ <;> (repeat' first | trivial)
def mb : Sm := fun args σ => match args, σ with
 | [.ptr 0 0, .int .i64 c], [.cells [.buf 1, .buf 2, .bool h_w, .int .i64 c_w, .func (.func 36) [] []], .buf 1 0 o_w, .buf 3 0 l_w] => some (okW o_w l_w ∧ (True), .tuple [], some (eW ((aZ o_w l_w h_w c_w).fail c)))
 | _, _ => none
theorem oM : aI 88 mb := by
 intro args sg pre x r he hp
 unfold mb at he
 split at he <;> cases he
 . rw [gZ (hp).1]; exact Dq (hp := hp.2) ..
theorem Dv  (hp : True) : OK 89 ([.nilptr]) ([]) (.bool false) (none) := by
 refine az (C := cx [(88, mb)]) (ax ⟨oM, trivial⟩) (fn := Try.f89) rfl rfl rfl rfl fun hw hs => ?_
 all_goals try conv => whnf
 all_goals try (refine af.mk ?_; try dsimp only)
 all_goals try refine stay ?_
 refine ah.mk [] ?_ <;> (repeat' first | trivial)
theorem Dw (w : WS) (hp : w.out.length ≤ 2000000000 ∧ w.l.length ≤ 1000) : OK 89 ([.ptr 0 0]) (eW w) (.bool w.may.2) (some (eW w.may.1)) := by
 refine az (C := cx [(88, mb)]) (ax ⟨oM, trivial⟩) (fn := Try.f89) rfl rfl rfl rfl fun hw hs => ?_
 have e1 : (w.l.map ef).length = w.l.length := by simp
 cases hk : w.top.k
 all_goals have idx_topk := fun {n : Nat} {K : V → Prop} => tv (n := n) (K := K) hk
 . repeat' ((conv => whnf); first | apply al | apply bh | ((first | apply ay | apply iO) <;> intro h) | with_reducible refine idx_topk ?_ ?_)
   all_goals try conv => whnf
   all_goals try (refine af.mk ?_; try dsimp only)
   all_goals first | refine stay ?_ | omega | (simp (discharger := omega) only [wR]; omega) | (simp only [cD]; omega) | skip
   all_goals first
    | exact ⟨gC hp.1 hp.2, trivial⟩
    | skip
   all_goals
    have he : w.may = w.may := rfl
    conv at he => rhs; unfold WS.may
    repeat (first | rw [if_pos (by first | assumption | omega)] at he | rw [if_neg (by first | assumption | omega | simp_all)] at he)
    rw [he]
    first | rw [bA] | skip
    refine ah.mk [] ?_ <;> (repeat' first | trivial | apply ak | apply aJ)
    all_goals (try rw [show (IntKind.i64.wrap (↑(List.map ef w.l).length - 1)).toNat = w.l.length - 1 by (simp (discharger := omega) only [wR]; omega)])
    all_goals simp [WS.eI, List.map_set, hk, bz, bl, bv]
 . repeat' ((conv => whnf); first | apply al | apply bh | ((first | apply ay | apply iO) <;> intro h) | with_reducible refine idx_topk ?_ ?_)
   all_goals try conv => whnf
   all_goals try (refine af.mk ?_; try dsimp only)
   all_goals first | refine stay ?_ | omega | (simp (discharger := omega) only [wR]; omega) | (simp only [cD]; omega) | skip
   all_goals first
    | exact ⟨gC hp.1 hp.2, trivial⟩
    | skip
   all_goals
    have he : w.may = w.may := rfl
    conv at he => rhs; unfold WS.may
    repeat (first | rw [if_pos (by first | assumption | omega)] at he | rw [if_neg (by first | assumption | omega | simp_all)] at he)
    rw [he]
    first | rw [bA] | skip
    refine ah.mk [] ?_ <;> (repeat' first | trivial | apply ak | apply aJ)
    all_goals (try rw [show (IntKind.i64.wrap (↑(List.map ef w.l).length - 1)).toNat = w.l.length - 1 by (simp (discharger := omega) only [wR]; omega)])
    all_goals simp [WS.eI, List.map_set, hk, bz, bl, bv]
def kY : Sm := fun args σ => match args, σ with
 | [.nilptr], [] => some (True, .bool false, none)
 | [.ptr 0 0], [.cells [.buf 1, .buf 2, .bool h_w, .int .i64 c_w, .func (.func 36) [] []], .buf 1 0 o_w, .buf 3 0 l_w] => some (okW o_w l_w ∧ ((aZ o_w l_w h_w c_w).out.length ≤ 2000000000 ∧ (aZ o_w l_w h_w c_w).l.length ≤ 1000), .bool (aZ o_w l_w h_w c_w).may.2, some (eW (aZ o_w l_w h_w c_w).may.1))
 | _, _ => none
theorem nf : aI 89 kY := by
 intro args sg pre x r he hp
 unfold kY at he
 split at he <;> cases he
 . exact Dv (hp := hp) ..
 . rw [gZ (hp).1]; exact Dw (hp := hp.2) ..
theorem p5 {w : WS} (h : w.out.length ≤ 1900000000 ∧ w.l.length ≤ 900) : okW (bl w.out) (w.l.map ef) ∧ (aZ (bl w.out) (w.l.map ef) w.whole w.code).out.length ≤ 2000000000 ∧ (aZ (bl w.out) (w.l.map ef) w.whole w.code).l.length ≤ 1000 := by
 rw [bA]; exact ⟨gC (by omega) (by omega), by omega, by omega⟩
theorem Dy (w : WS) (hp : w.out.length ≤ 1900000000 ∧ w.l.length ≤ 900) : OK 67 ([.ptr 0 0]) (eW w) (.tuple []) (some (eW (w.put [110, 117, 108, 108]))) := by
 refine az (C := cx [(89, kY)]) (ax ⟨nf, trivial⟩) (fn := Try.f67) rfl rfl rfl rfl fun hw hs => ?_
 repeat' ((conv => whnf); first | apply al | (apply iO <;> intro h))
 all_goals try conv => whnf
 all_goals try (refine af.mk ?_; try dsimp only)
 all_goals try refine stay ?_
 all_goals first
  | exact p5 hp
  | (rw [bA]; have := eR w; (simp only [cD]; omega))
  | (rw [bA]; have := eR w; refine ⟨hn, ?_⟩; omega)
  | skip
 all_goals (try rw [bA] at *)
 all_goals
  have hm := eR w
  unfold WS.put
  first | rw [if_pos (by assumption)] | rw [if_neg (by simp_all)]
  refine ah.mk [] ?_ <;> (repeat' first | trivial | apply ak | apply aJ)
  all_goals (try rw [bA])
  all_goals first
   | (simp [bz, bl, bv]; done)
   | (simp_all [bz, bl, bv, iM]; done)
def rJ : Sm := fun args σ => match args, σ with
 | [.ptr 0 0], [.cells [.buf 1, .buf 2, .bool h_w, .int .i64 c_w, .func (.func 36) [] []], .buf 1 0 o_w, .buf 3 0 l_w] => some (okW o_w l_w ∧ ((aZ o_w l_w h_w c_w).out.length ≤ 1900000000 ∧ (aZ o_w l_w h_w c_w).l.length ≤ 900), .tuple [], some (eW ((aZ o_w l_w h_w c_w).put [110, 117, 108, 108])))
 | _, _ => none
theorem yo : aI 67 rJ := by
 intro args sg pre x r he hp
 unfold rJ at he
 split at he <;> cases he
 . rw [gZ (hp).1]; exact Dy (hp := hp.2) ..
theorem Dr (w : WS) (b : Bool) (hp : w.out.length ≤ 1900000000 ∧ w.l.length ≤ 900) : OK 69 ([.ptr 0 0, .bool b]) (eW w) (.tuple []) (some (eW (w.put (iM b)))) := by
 refine az (C := cx [(89, kY)]) (ax ⟨nf, trivial⟩) (fn := Try.f69) rfl rfl rfl rfl fun hw hs => ?_
 repeat' ((conv => whnf); first | apply al | apply bh | (apply iO <;> intro h))
 all_goals try conv => whnf
 all_goals try (refine af.mk ?_; try dsimp only)
 all_goals try refine stay ?_
 all_goals first
  | exact p5 hp
  | (rw [bA]; have := eR w; (simp only [cD]; omega))
  | (rw [bA]; have := eR w; refine ⟨hn, ?_⟩; omega)
  | skip
 all_goals (try rw [bA] at *)
 all_goals
  have hm := eR w
  unfold WS.put
  first | rw [if_pos (by assumption)] | rw [if_neg (by simp_all)]
  refine ah.mk [] ?_ <;> (repeat' first | trivial | apply ak | apply aJ)
  all_goals (try rw [bA])
  all_goals first
   | (simp [bz, bl, bv]; done)
   | (simp_all [bz, bl, bv, iM]; done)
def rF : Sm := fun args σ => match args, σ with
 | [.ptr 0 0, .bool b], [.cells [.buf 1, .buf 2, .bool h_w, .int .i64 c_w, .func (.func 36) [] []], .buf 1 0 o_w, .buf 3 0 l_w] => some (okW o_w l_w ∧ ((aZ o_w l_w h_w c_w).out.length ≤ 1900000000 ∧ (aZ o_w l_w h_w c_w).l.length ≤ 900), .tuple [], some (eW ((aZ o_w l_w h_w c_w).put (iM b))))
 | _, _ => none
theorem yk : aI 69 rF := by
 intro args sg pre x r he hp
 unfold rF at he
 split at he <;> cases he
 . rw [gZ (hp).1]; exact Dr (hp := hp.2) ..
theorem DA (s : List UInt8) (hp : True) : OK 70 ([.nilptr, .str s]) ([]) (.tuple []) (none) := by
 refine az (C := cx [(89, kY), (36, kX)]) (ax ⟨nf, nc, trivial⟩) (fn := Try.f70) rfl rfl rfl rfl fun hw hs => ?_
 repeat' ((conv => whnf); apply al)
 all_goals try conv => whnf
 all_goals try (refine af.mk ?_; try dsimp only)
 all_goals try refine stay ?_
 refine ah.mk [] ?_ <;> (repeat' first | trivial)
theorem DB (w : WS) (s : List UInt8) (hp : (w.out.length ≤ 1900000000 ∧ w.l.length ≤ 900) ∧ s.length ≤ 100000000) : OK 70 ([.ptr 0 0, .str s]) (eW w) (.tuple []) (some (eW (w.put (quote s)))) := by
 refine az (C := cx [(89, kY), (36, kX)]) (ax ⟨nf, nc, trivial⟩) (fn := Try.f70) rfl rfl rfl rfl fun hw hs => ?_
 obtain ⟨hp, hq⟩ := hp
 repeat' ((conv => whnf); first | apply al | (apply iO <;> intro h))
 all_goals try conv => whnf
 all_goals try (refine af.mk ?_; try dsimp only)
 all_goals try refine stay ?_
 all_goals first
  | exact p5 hp
  | (rw [bA]; have := eR w; (simp only [cD]; omega))
  | (rw [bA]; have := eR w; refine ⟨hn, ?_⟩; omega)
  | skip
 all_goals (try rw [bA] at *)
 all_goals
  have hm := eR w
  unfold WS.put
  first | rw [if_pos (by assumption)] | rw [if_neg (by simp_all)]
  refine ah.mk [] ?_ <;> (repeat' first | trivial | apply ak | apply aJ)
  all_goals (try rw [bA])
  all_goals first
   | (simp [bz, bl, bv]; done)
   | (simp_all [bz, bl, bv, iM]; done)
def rL : Sm := fun args σ => match args, σ with
 | [.nilptr, .str s], [] => some (True, .tuple [], none)
 | [.ptr 0 0, .str s], [.cells [.buf 1, .buf 2, .bool h_w, .int .i64 c_w, .func (.func 36) [] []], .buf 1 0 o_w, .buf 3 0 l_w] => some (okW o_w l_w ∧ (((aZ o_w l_w h_w c_w).out.length ≤ 1900000000 ∧ (aZ o_w l_w h_w c_w).l.length ≤ 900) ∧ s.length ≤ 100000000), .tuple [], some (eW ((aZ o_w l_w h_w c_w).put (quote s))))
 | _, _ => none
theorem yq : aI 70 rL := by
 intro args sg pre x r he hp
 unfold rL at he
 split at he <;> cases he
 . exact DA (hp := hp) ..
 . rw [gZ (hp).1]; exact DB (hp := hp.2) ..
theorem DC (w : WS) (n : Int) (hp : (w.out.length ≤ 1900000000 ∧ w.l.length ≤ 900)) : OK 66 ([.ptr 0 0, .int .i64 n]) (eW w) (.tuple []) (some (eW (w.put (eD n)))) := by
 refine az (C := cx [(89, kY), (90, uF)]) (ax ⟨nf, EH, trivial⟩) (fn := Try.f66) rfl rfl rfl rfl fun hw hs => ?_
 have hn : -9223372036854775808 ≤ n ∧ n ≤ 9223372036854775807 := hw.2.1
 repeat' ((conv => whnf); first | apply al | (apply iO <;> intro h))
 all_goals try conv => whnf
 all_goals try (refine af.mk ?_; try dsimp only)
 all_goals try refine stay ?_
 all_goals first
  | exact p5 hp
  | (rw [bA]; have := eR w; (simp only [cD]; omega))
  | (rw [bA]; have := eR w; refine ⟨hn, ?_⟩; omega)
  | skip
 all_goals (try rw [bA] at *)
 all_goals
  have hm := eR w
  unfold WS.put
  first | rw [if_pos (by assumption)] | rw [if_neg (by simp_all)]
  refine ah.mk [] ?_ <;> (repeat' first | trivial | apply ak | apply aJ)
  all_goals (try rw [bA])
  all_goals first
   | (simp [bz, bl, bv]; done)
   | (simp_all [bz, bl, bv, iM]; done)
def rM : Sm := fun args σ => match args, σ with
 | [.ptr 0 0, .int .i64 n], [.cells [.buf 1, .buf 2, .bool h_w, .int .i64 c_w, .func (.func 36) [] []], .buf 1 0 o_w, .buf 3 0 l_w] => some (okW o_w l_w ∧ (((aZ o_w l_w h_w c_w).out.length ≤ 1900000000 ∧ (aZ o_w l_w h_w c_w).l.length ≤ 900)), .tuple [], some (eW ((aZ o_w l_w h_w c_w).put (eD n))))
 | _, _ => none
theorem yu : aI 66 rM := by
 intro args sg pre x r he hp
 unfold rM at he
 split at he <;> cases he
 . rw [gZ (hp).1]; exact DC (hp := hp.2) ..
theorem Dk (w : WS) (a e : UInt8) (hp : (w.out.length ≤ 1900000000 ∧ w.l.length ≤ 900)) : OK 87 ([.ptr 0 0, bv a, bv e]) (eW w) (.tuple []) (some (eW (w.begin a e))) := by
 refine az (C := cx [(89, kY), (88, mb)]) (ax ⟨nf, oM, trivial⟩) (fn := Try.f87) rfl rfl rfl rfl fun hw hs => ?_
 repeat' ((conv => whnf); first | apply al | apply bh | ((first | apply ay | apply iO) <;> intro h))
 all_goals try conv => whnf
 all_goals try (refine af.mk ?_; try dsimp only)
 all_goals try refine stay ?_
 all_goals first
  | exact p5 hp
  | exact ⟨gC (by omega) (by omega), trivial⟩
  | (rw [bA]; have := eR w; (first | (simp only [cD]; omega) | (simp (discharger := omega) [-List.getD_eq_getElem?_getD, wR] <;> omega)))
  | skip
 all_goals (try rw [bA] at *)
 all_goals
  have hm := eR w
  try simp only [List.length_map] at *
  unfold WS.begin
  repeat (first | rw [if_pos (by first | assumption | omega)] | rw [if_neg (by first | omega | simp_all)])
  refine ah.mk [] ?_ <;> (repeat' first | trivial | apply ak | apply aJ)
  all_goals (try rw [bA])
  all_goals simp [bz, bl, bv]
def rC : Sm := fun args σ => match args, σ with
 | [.ptr 0 0, .int .u8 n_a, .int .u8 n_e], [.cells [.buf 1, .buf 2, .bool h_w, .int .i64 c_w, .func (.func 36) [] []], .buf 1 0 o_w, .buf 3 0 l_w] => some ((0 ≤ n_e ∧ n_e ≤ 255) ∧ ((0 ≤ n_a ∧ n_a ≤ 255) ∧ (okW o_w l_w ∧ (((aZ o_w l_w h_w c_w).out.length ≤ 1900000000 ∧ (aZ o_w l_w h_w c_w).l.length ≤ 900)))), .tuple [], some (eW ((aZ o_w l_w h_w c_w).begin (byte n_a) (byte n_e))))
 | _, _ => none
theorem yh : aI 87 rC := by
 intro args sg pre x r he hp
 unfold rC at he
 split at he <;> cases he
 . rw [eK (hp).1]; rw [eK (hp.2).1]; rw [gZ (hp.2.2).1]; exact Dk (hp := hp.2.2.2) ..
theorem Dz (w : WS) (hp : (w.out.length ≤ 1900000000 ∧ w.l.length ≤ 900)) : OK 63 ([.ptr 0 0]) (eW w) (.tuple []) (some (eW (w.begin 123 125))) := by
 refine az (C := cx [(87, rC)]) (ax ⟨yh, trivial⟩) (fn := Try.f63) rfl rfl rfl rfl fun hw hs => ?_
 repeat' ((conv => whnf); apply al)
 all_goals try conv => whnf
 all_goals try (refine af.mk ?_; try dsimp only)
 all_goals try refine stay ?_
 all_goals first
  | (refine ⟨by omega, by omega, gC (by omega) (by omega), ?_⟩; rw [bA]; exact hp)
  | skip
 all_goals (try rw [bA])
 refine ah.mk [] ?_ <;> (repeat' first | trivial)
def rK : Sm := fun args σ => match args, σ with
 | [.ptr 0 0], [.cells [.buf 1, .buf 2, .bool h_w, .int .i64 c_w, .func (.func 36) [] []], .buf 1 0 o_w, .buf 3 0 l_w] => some (okW o_w l_w ∧ (((aZ o_w l_w h_w c_w).out.length ≤ 1900000000 ∧ (aZ o_w l_w h_w c_w).l.length ≤ 900)), .tuple [], some (eW ((aZ o_w l_w h_w c_w).begin 123 125)))
 | _, _ => none
theorem yp : aI 63 rK := by
 intro args sg pre x r he hp
 unfold rK at he
 split at he <;> cases he
 . rw [gZ (hp).1]; exact Dz (hp := hp.2) ..
theorem Du (w : WS) (hp : (w.out.length ≤ 1900000000 ∧ w.l.length ≤ 900)) : OK 65 ([.ptr 0 0]) (eW w) (.tuple []) (some (eW (w.begin 91 93))) := by
 refine az (C := cx [(87, rC)]) (ax ⟨yh, trivial⟩) (fn := Try.f65) rfl rfl rfl rfl fun hw hs => ?_
 repeat' ((conv => whnf); apply al)
 all_goals try conv => whnf
 all_goals try (refine af.mk ?_; try dsimp only)
 all_goals try refine stay ?_
 all_goals first
  | (refine ⟨by omega, by omega, gC (by omega) (by omega), ?_⟩; rw [bA]; exact hp)
  | skip
 all_goals (try rw [bA])
 refine ah.mk [] ?_ <;> (repeat' first | trivial)
def rH : Sm := fun args σ => match args, σ with
 | [.ptr 0 0], [.cells [.buf 1, .buf 2, .bool h_w, .int .i64 c_w, .func (.func 36) [] []], .buf 1 0 o_w, .buf 3 0 l_w] => some (okW o_w l_w ∧ (((aZ o_w l_w h_w c_w).out.length ≤ 1900000000 ∧ (aZ o_w l_w h_w c_w).l.length ≤ 900)), .tuple [], some (eW ((aZ o_w l_w h_w c_w).begin 91 93)))
 | _, _ => none
theorem ym : aI 65 rH := by
 intro args sg pre x r he hp
 unfold rH at he
 split at he <;> cases he
 . rw [gZ (hp).1]; exact Du (hp := hp.2) ..
theorem Dp (w : WS) (hp : (w.out.length ≤ 1900000000 ∧ w.l.length ≤ 900)) : OK 68 ([.ptr 0 0]) (eW w) (.tuple []) (some (eW w.fin)) := by
 refine az (C := cx [(88, mb)]) (ax ⟨oM, trivial⟩) (fn := Try.f68) rfl rfl rfl rfl fun hw hs => ?_
 have e1 : (w.l.map ef).length = w.l.length := by simp
 cases hk : w.top.k
 all_goals have idx_topk := fun {n : Nat} {K : V → Prop} => tv (n := n) (K := K) hk
 . repeat' ((conv => whnf); first | apply al | apply bh | (apply ay <;> intro h) | with_reducible refine idx_topk ?_ ?_)
   all_goals try conv => whnf
   all_goals try (refine af.mk ?_; try dsimp only)
   all_goals first | refine stay ?_ | (simp (discharger := omega) only [wR]; omega) | (simp only [cD]; omega) | skip
   all_goals first
    | exact ⟨gC (by omega) (by omega), trivial⟩
    | skip
   all_goals (try rw [bA] at *)
   all_goals
    try simp only [List.length_map] at *
    first | unfold WS.fin | unfold WS.key
    repeat (first | rw [if_pos (by first | assumption | omega | (simp [hk]; done) | (simp only [hk, reduceCtorEq, or_false, or_true, not_true_eq_false]; omega))] | rw [if_neg (by first | omega | (simp [hk]; done) | (simp only [hk, reduceCtorEq, or_false, or_true, not_true_eq_false]; omega))])
    refine ah.mk [] ?_ <;> (repeat' first | trivial | apply ak | apply aJ)
    all_goals (try rw [bA])
    all_goals (try rw [show (IntKind.i64.wrap (w.l.length - 1)).toNat = w.l.length - 1 by (simp (discharger := omega) only [wR]; omega)])
    all_goals first
     | (simp [WS.eI, List.map_set, List.map_take, hk, bz, bl, bv]; done)
     | (simp_all [WS.eI, List.map_set, List.map_take, bz, bl, bv]; done)
 . repeat' ((conv => whnf); first | apply al | apply bh | (apply ay <;> intro h) | with_reducible refine idx_topk ?_ ?_)
   all_goals try conv => whnf
   all_goals try (refine af.mk ?_; try dsimp only)
   all_goals first | refine stay ?_ | (simp (discharger := omega) only [wR]; omega) | skip
   all_goals first
    | exact ⟨gC (by omega) (by omega), trivial⟩
    | skip
   all_goals (try rw [bA] at *)
   all_goals
    try simp only [List.length_map] at *
    first | unfold WS.fin | unfold WS.key
    repeat (first | rw [if_pos (by first | assumption | omega | (simp [hk]; done) | (simp only [hk, reduceCtorEq, or_false, or_true, not_true_eq_false]; omega))] | rw [if_neg (by first | omega | (simp [hk]; done) | (simp only [hk, reduceCtorEq, or_false, or_true, not_true_eq_false]; omega))])
    refine ah.mk [] ?_ <;> (repeat' first | trivial)
    all_goals (try rw [bA])
    all_goals (try rw [show (IntKind.i64.wrap (w.l.length - 1)).toNat = w.l.length - 1 by omega])
    all_goals first
     | (simp [WS.eI, List.map_set, List.map_take, hk, bz, bl, bv]; done)
     | (simp_all [WS.eI, List.map_set, List.map_take, bz, bl, bv]; done)
def rE : Sm := fun args σ => match args, σ with
 | [.ptr 0 0], [.cells [.buf 1, .buf 2, .bool h_w, .int .i64 c_w, .func (.func 36) [] []], .buf 1 0 o_w, .buf 3 0 l_w] => some (okW o_w l_w ∧ (((aZ o_w l_w h_w c_w).out.length ≤ 1900000000 ∧ (aZ o_w l_w h_w c_w).l.length ≤ 900)), .tuple [], some (eW (aZ o_w l_w h_w c_w).fin))
 | _, _ => none
theorem yj : aI 68 rE := by
 intro args sg pre x r he hp
 unfold rE at he
 split at he <;> cases he
 . rw [gZ (hp).1]; exact Dp (hp := hp.2) ..
theorem Dt (w : WS) (s : List UInt8) (hp : (w.out.length ≤ 1900000000 ∧ w.l.length ≤ 900) ∧ s.length ≤ 100000000) : OK 64 ([.ptr 0 0, .str s]) (eW w) (.tuple []) (some (eW (w.key s))) := by
 refine az (C := cx [(88, mb), (36, kX)]) (ax ⟨oM, nc, trivial⟩) (fn := Try.f64) rfl rfl rfl rfl fun hw hs => ?_
 obtain ⟨hp, hq⟩ := hp
 have hq2 := r9 s
 have e1 : (w.l.map ef).length = w.l.length := by simp
 cases hk : w.top.k
 all_goals have idx_topk := fun {n : Nat} {K : V → Prop} => tv (n := n) (K := K) hk
 . repeat' ((conv => whnf); first | apply al | apply bh | ((first | apply ay | apply iO) <;> intro h) | with_reducible (first | refine idx_topk ?_ ?_ | refine EB ?_ ?_))
   all_goals try conv => whnf
   all_goals try (refine af.mk ?_; try dsimp only)
   all_goals first | refine stay ?_ | omega | (simp (discharger := omega) only [wR]; omega) | (simp only [cD]; omega) | skip
   all_goals first
    | exact ⟨gC (by omega) (by omega), trivial⟩
    | skip
   all_goals (try rw [bA] at *)
   all_goals
    try simp only [List.length_map] at *
    first | unfold WS.fin | unfold WS.key
    repeat (first | rw [if_pos (by first | assumption | omega | (simp [hk]; done) | (simp only [hk, reduceCtorEq, or_false, or_true, not_true_eq_false]; omega))] | rw [if_neg (by first | omega | (simp [hk]; done) | (simp only [hk, reduceCtorEq, or_false, or_true, not_true_eq_false]; omega))])
    refine ah.mk [] ?_ <;> (repeat' first | trivial | apply ak | apply aJ)
    all_goals (try rw [bA])
    all_goals (try rw [show (IntKind.i64.wrap (w.l.length - 1)).toNat = w.l.length - 1 by (simp (discharger := omega) only [wR]; omega)])
    all_goals first
     | (simp [WS.eI, List.map_set, List.map_take, hk, bz, bl, bv]; done)
     | (simp_all [WS.eI, List.map_set, List.map_take, bz, bl, bv]; done)
 . repeat' ((conv => whnf); first | apply al | apply bh | (apply ay <;> intro h) | with_reducible refine idx_topk ?_ ?_)
   all_goals try conv => whnf
   all_goals try (refine af.mk ?_; try dsimp only)
   all_goals first | refine stay ?_ | (simp (discharger := omega) only [wR]; omega) | skip
   all_goals first
    | exact ⟨gC (by omega) (by omega), trivial⟩
    | skip
   all_goals (try rw [bA] at *)
   all_goals
    try simp only [List.length_map] at *
    first | unfold WS.fin | unfold WS.key
    repeat (first | rw [if_pos (by first | assumption | omega | (simp [hk]; done) | (simp only [hk, reduceCtorEq, or_false, or_true, not_true_eq_false]; omega))] | rw [if_neg (by first | omega | (simp [hk]; done) | (simp only [hk, reduceCtorEq, or_false, or_true, not_true_eq_false]; omega))])
    refine ah.mk [] ?_ <;> (repeat' first | trivial)
    all_goals (try rw [bA])
    all_goals (try rw [show (IntKind.i64.wrap (w.l.length - 1)).toNat = w.l.length - 1 by omega])
    all_goals first
     | (simp [WS.eI, List.map_set, List.map_take, hk, bz, bl, bv]; done)
     | (simp_all [WS.eI, List.map_set, List.map_take, bz, bl, bv]; done)
def rG : Sm := fun args σ => match args, σ with
 | [.ptr 0 0, .str s], [.cells [.buf 1, .buf 2, .bool h_w, .int .i64 c_w, .func (.func 36) [] []], .buf 1 0 o_w, .buf 3 0 l_w] => some (okW o_w l_w ∧ (((aZ o_w l_w h_w c_w).out.length ≤ 1900000000 ∧ (aZ o_w l_w h_w c_w).l.length ≤ 900) ∧ s.length ≤ 100000000), .tuple [], some (eW ((aZ o_w l_w h_w c_w).key s)))
 | _, _ => none
theorem yl : aI 64 rG := by
 intro args sg pre x r he hp
 unfold rG at he
 split at he <;> cases he
 . rw [gZ (hp).1]; exact Dt (hp := hp.2) ..
theorem Dm  (hp : True) : OK 35 ([.nilptr]) ([]) (.tuple [.str [], .int .i64 9]) (none) := by
 refine az (C := cx []) (ax trivial) (fn := Try.f35) rfl rfl rfl rfl fun hw hs => ?_
 all_goals try conv => whnf
 all_goals try (refine af.mk ?_; try dsimp only)
 all_goals try refine stay ?_
 refine ah.mk [] ?_ <;> (repeat' first | trivial)
theorem Dn (w : WS) (hp : True) : OK 35 ([.ptr 0 0]) (eW w) (.tuple [.str w.done.1, .int .i64 w.done.2]) (none) := by
 refine az (C := cx []) (ax trivial) (fn := Try.f35) rfl rfl rfl rfl fun hw hs => ?_
 have e1 : (w.l.map ef).length = w.l.length := by simp
 repeat' ((conv => whnf); first | apply bh | ((first | apply ay | apply iO) <;> intro h) | apply kG)
 all_goals try conv => whnf
 all_goals try (refine af.mk ?_; try dsimp only)
 all_goals try refine stay ?_
 all_goals
  have he : w.done = w.done := rfl
  conv at he => rhs; unfold WS.done
  repeat (first | rw [if_pos (by first | assumption | omega | (simp [*]; done) | (simp; omega))] at he | rw [if_neg (by first | omega | (intro hh; rcases hh with hh | hh; (· omega); (· simp_all)))] at he)
  rw [he]
  refine ah.mk [] ?_ <;> (repeat' first | trivial)
def rD : Sm := fun args σ => match args, σ with
 | [.nilptr], [] => some (True, .tuple [.str [], .int .i64 9], none)
 | [.ptr 0 0], [.cells [.buf 1, .buf 2, .bool h_w, .int .i64 c_w, .func (.func 36) [] []], .buf 1 0 o_w, .buf 3 0 l_w] => some (okW o_w l_w ∧ (True), .tuple [.str (aZ o_w l_w h_w c_w).done.1, .int .i64 (aZ o_w l_w h_w c_w).done.2], none)
 | _, _ => none
theorem yi : aI 35 rD := by
 intro args sg pre x r he hp
 unfold rD at he
 split at he <;> cases he
 . exact Dm (hp := hp) ..
 . rw [gZ (hp).1]; exact Dn (hp := hp.2) ..
theorem Dx  (hp : True) : OK 33 ([]) ([]) (.ptr 0 0) (some (eW .new)) := by
 refine az (C := cx []) (ax trivial) (fn := Try.f33) rfl rfl rfl rfl fun hw hs => ?_
 all_goals try conv => whnf
 all_goals try (refine af.mk ?_; try dsimp only)
 all_goals try refine stay ?_
 refine ah.mk [.cell 0 0 1, .cell 0 1 3] ?_ <;> (repeat' first | trivial)
def rI : Sm := fun args σ => match args, σ with
 | [], [] => some (True, .ptr 0 0, some (eW .new))
 | _, _ => none
theorem yn : aI 33 rI := by
 intro args sg pre x r he hp
 unfold rI at he
 split at he <;> cases he
 . exact Dx (hp := hp) ..
end Go.Proofs.Ytllncocibkgjkaa
