/-
  A part of the proof.
-/
import Derived.Test.YtipejldppicijaaGreatDoorCWs
set_option linter.unusedSimpArgs false
set_option linter.unusedVariables false
set_option maxHeartbeats 4000000
namespace Go.Proofs.YtipejldppicijaaGreatDoor
open Go Go.VG
set_option maxRecDepth 100000
theorem oL (o : aU) : aU.mk o.kind o.id o.n o.what o.bits o.text = o := rfl
theorem oM (w : CS) : CS.mk w.out w.l w.code = w := rfl
theorem kr (w : CS) : dC w.out (w.l.map eP) w.code = w := uH _ _ _
theorem take_set {α : Type} {l : List α} {p : α} (h : ¬ l.length = 0) : l.take (l.length - 1) ++ [p] = l.set (l.length - 1) p := by
 rcases List.eq_nil_or_concat l with rfl | ⟨q, d, rfl⟩
 . simp at h
 . simp
theorem vT {L : List Pl} {p : Pl} (h : L.length ≤ 900) : iR ((L.map eP).take ((L.map eP).length - 1) ++ [eP p]) := by
 rw [List.length_map, ← List.map_take, show [eP p] = [p].map eP from rfl, ← List.map_append]
 exact vS (by simp; omega)
theorem Et {out : List UInt8} {L : List Pl} {p : Pl} {c : Int} (h : ¬ L.length = 0) : dC out ((L.map eP).take ((L.map eP).length - 1) ++ [eP p]) c = ⟨out, L.set (L.length - 1) p, c⟩ := by
 rw [List.length_map, ← List.map_take, show [eP p] = [p].map eP from rfl, ← List.map_append, uH, take_set h]
theorem Eu {out : List UInt8} {L : List Pl} {p : Pl} {c : Int} (h : ¬ L.length = 0) : dC out ((L.map eP).take (L.length - 1) ++ [eP p]) c = ⟨out, L.set (L.length - 1) p, c⟩ := by
 have := Et (out := out) (p := p) (c := c) h
 rwa [List.length_map] at this
theorem rv (s : CS) (o : aU) : (s.begun o).out = s.out ∧ (s.begun o).code = s.code := by
 unfold CS.begun
 repeat' split
 all_goals exact ⟨rfl, rfl⟩
theorem Eo {o : aU} {li : Bool} (ht : o.text.length ≤ 90000000) (hn : -9223372036854775808 ≤ o.n ∧ o.n ≤ 9223372036854775807) : (o.content li).length ≤ o.text.length + 12 := by
 have h1 := @sw o.n (byte o.what)
 have h2 := dM (iz hn)
 have h3 := dM (u := o.text.length) (by omega)
 unfold aU.content
 repeat' split
 all_goals first
  | omega
  | (simp; done)
  | (simp; omega)
  | (rw [fq]; omega)
theorem Hm (out : List UInt8) (l : List V) (c : Int) (hp : iR l ∧ c = 0 ∧ out.length ≤ 1800000000) : OK 104 ([.agg [.str out, .buf 0, .int .i64 c]]) ([.buf 4 0 l]) (.agg [.str (dC out l c).fin.out, .buf 0, .int .i64 (dC out l c).fin.code]) (some [.buf 4 0 ((dC out l c).fin.l.map eP)]) := by
 refine af (C := cx [(106, tB)]) (ah ⟨AK, trivial⟩) (fn := Tryz.f104) rfl rfl rfl rfl fun hw hs => ?_
 obtain ⟨hp, hc, ho⟩ := hp
 obtain ⟨L, rfl, hl⟩ := su hp
 obtain ⟨w, rfl, rfl, rfl⟩ : ∃ w : CS, out = w.out ∧ L = w.l ∧ c = w.code := ⟨⟨out, L, c⟩, rfl, rfl, rfl⟩
 rw [kr]
 have e1 : (w.l.map eP).length = w.l.length := by simp
 repeat' ((conv => whnf); first | apply a9 | apply aJ | ((first | apply al | apply bu) <;> intro h) | with_reducible refine pH ?_ ?_)
 all_goals try conv => whnf
 all_goals try (refine a8.mk ?_; try dsimp only)
 all_goals (try simp only [oL, oM, kr] at *)
 all_goals first | refine stay ?_ | (simp (discharger := omega) only [wR]; omega) | (simp only [aW]; omega) | skip
 all_goals first
  | (show a7 _ _ _ _ _ _
     simp only [List.length_map] at *
     have hne : w.l.length = 0 ∨ IntKind.i64.wrap (↑w.l.length - 1) = ↑w.l.length - 1 := by (first | omega | (simp (discharger := omega) only [wR]; omega))
     have he : w.fin = w.fin := rfl
     conv at he => rhs; unfold CS.fin
     repeat (first | rw [if_pos (by first | assumption | omega)] at he | rw [if_neg (by first | assumption | omega | exact fO (by assumption))] at he)
     rw [he]
     refine a7.mk [] ?_ <;> (repeat' first | trivial | apply ab | apply aE)
     all_goals first
       | rfl
       | assumption
       | (exact hc.symm)
       | (rw [show (IntKind.i64.wrap (↑w.l.length - 1)).toNat = w.l.length - 1 by omega, List.map_take]; done)
      )
  | skip
def xm : Sm := fun args σ => match args, σ with
 | [.agg [.str out, .buf 0, .int .i64 c]], [.buf 4 0 l] => some (iR l ∧ c = 0 ∧ out.length ≤ 1800000000, .agg [.str (dC out l c).fin.out, .buf 0, .int .i64 (dC out l c).fin.code], some [.buf 4 0 ((dC out l c).fin.l.map eP)])
 | _, _ => none
theorem Jq : aa 104 xm := by
 intro args sg pre x r he hp
 unfold xm at he
 split at he <;> cases he
 . exact Hm (hp := hp) ..
theorem Hg (out : List UInt8) (l : List V) (c : Int) (hp : iR l) : OK 51 ([.agg [.str out, .buf 0, .int .i64 c]]) ([.buf 4 0 l]) (.tuple [.str (dC out l c).done.1, .int .i64 (dC out l c).done.2]) (none) := by
 refine af (C := cx []) (ah trivial) (fn := Tryz.f51) rfl rfl rfl rfl fun hw hs => ?_
 obtain ⟨L, rfl, hl⟩ := su hp
 obtain ⟨w, rfl, rfl, rfl⟩ : ∃ w : CS, out = w.out ∧ L = w.l ∧ c = w.code := ⟨⟨out, L, c⟩, rfl, rfl, rfl⟩
 rw [kr]
 have e1 : (w.l.map eP).length = w.l.length := by simp
 repeat' ((conv => whnf); first | apply aJ | (apply al <;> intro h))
 all_goals try conv => whnf
 all_goals try (refine a8.mk ?_; try dsimp only)
 all_goals (try simp only [oL, oM, kr] at *)
 all_goals try refine stay ?_
 all_goals
  simp only [List.length_map] at *
  have he : w.done = w.done := rfl
  conv at he => rhs; unfold CS.done
  repeat (first | rw [if_pos (by first | assumption | omega)] at he | rw [if_neg (by first | assumption | omega)] at he)
  rw [he]
  refine a7.mk [] ?_ <;> (repeat' first | trivial)
def xh : Sm := fun args σ => match args, σ with
 | [.agg [.str out, .buf 0, .int .i64 c]], [.buf 4 0 l] => some (iR l, .tuple [.str (dC out l c).done.1, .int .i64 (dC out l c).done.2], none)
 | _, _ => none
theorem Jl : aa 51 xh := by
 intro args sg pre x r he hp
 unfold xh at he
 split at he <;> cases he
 . exact Hg (hp := hp) ..
theorem Hf (out : List UInt8) (l : List V) (c : Int) (o : aU) (hp : iR l ∧ l.length ≤ 900 ∧ out.length ≤ 1800000000 ∧ o.text.length ≤ 90000000) : OK 50 ([.agg [.str out, .buf 0, .int .i64 c], c8 o]) ([.buf 4 0 l]) (.agg [.str ((dC out l c).gX o).out, .buf 0, .int .i64 ((dC out l c).gX o).code]) (some [.buf 4 0 (((dC out l c).gX o).l.map eP)]) := by
 refine af (C := cx [(104, xm), (105, xi), (106, tB), (107, xj), (109, tC), (108, xn), (110, xe), (111, xo), (112, xl)]) (ah ⟨Jq, Jm, AK, Jn, AL, Jr, Ji, Js, Jp, trivial⟩) (fn := Tryz.f50) rfl rfl rfl rfl fun hw hs => ?_
 obtain ⟨hp, hl9, ho, ht⟩ := hp
 obtain ⟨L, rfl, hl⟩ := su hp
 obtain ⟨w, rfl, rfl, rfl⟩ : ∃ w : CS, out = w.out ∧ L = w.l ∧ c = w.code := ⟨⟨out, L, c⟩, rfl, rfl, rfl⟩
 rw [kr]
 have e1 : (w.l.map eP).length = w.l.length := by simp
 have hw1 : 0 ≤ o.what ∧ o.what ≤ 255 := hw.2.1.2.2.2.1
 have hw2 : -9223372036854775808 ≤ o.n ∧ o.n ≤ 9223372036854775807 := hw.2.1.2.2.1
 have hko := B3 hw1
 have hkd := fun h => DD (l := w.l) hs.1.2 h
 have hpf := @BW w.top.last o.id (byte (kindOf o))
 have hcl := fun li => Eo (o := o) (li := li) ht hw2
 repeat' ((conv => whnf); first | apply a9 | apply aJ | ((first | apply al | apply gk | apply bu) <;> intro h) | with_reducible refine pH ?_ ?_)
 all_goals try conv => whnf
 all_goals try (refine a8.mk ?_; try dsimp only)
 all_goals (try simp only [oL, oM, kr] at *)
 all_goals first | refine stay ?_ | trivial | omega | (simp (discharger := omega) only [wR]; omega) | (simp (discharger := omega) [-List.getD_eq_getElem?_getD, wR] <;> omega) | skip
 all_goals first
  | (show a7 _ _ _ _ _ _
     skip)
  | (have hkd := hkd (by omega); exact ⟨⟨by omega, by omega⟩, hkd, trivial⟩)
  | (have := hcl w.top.li
     try simp only [List.length_append]
     omega)
  | exact ⟨trivial, vT (by omega)⟩
  | exact ⟨vT (by omega), trivial⟩
  | exact vT (by omega)
  | skip
 all_goals
  show a7 _ _ _ _ _ _
  simp only [List.length_map] at *
  have he : w.gX o = w.gX o := rfl
  conv at he => rhs; unfold CS.gX
  repeat (first | rw [if_pos (by first | assumption | omega)] at he | rw [if_neg (by first | assumption | omega)] at he)
 all_goals try
  (have hm : w.may o.id (kindOf o) = w.may o.id (kindOf o) := rfl
   conv at hm => rhs; unfold CS.may
   repeat (first | rw [if_pos (by first | assumption | omega | exact jV.2 (by assumption) | exact List.length_eq_zero_iff.2 (by assumption))] at hm | rw [if_neg (by first | assumption | omega | exact fO (by assumption) | exact (fun q => absurd (jV.1 q) (by assumption)) | exact (fun q => absurd (List.length_eq_zero_iff.1 q) (by assumption)))] at hm)
   rw [hm] at he)
 all_goals (try dsimp only at he)
 all_goals (try (first | rw [if_pos rfl] at he | rw [if_neg (by decide)] at he))
 all_goals rw [he]
 all_goals
  refine a7.mk [] ?_ <;> (repeat' first | trivial | apply ab | apply aV | apply au | apply aE | apply cK | apply aM)
 all_goals first
  | (rw [(rv _ _).1]; done)
  | (rw [(rv _ _).2]; done)
  | (rw [(rv _ _).1]; rfl)
  | (rw [(rv _ _).2]; rfl)
  | (rw [Eu (by omega)]; rfl)
def xg : Sm := fun args σ => match args, σ with
 | [.agg [.str out, .buf 0, .int .i64 c], .agg [.int .u8 k_o, .int .i64 i_o, .int .i64 n_o, .int .u8 w_o, .int .u64 b_o, .str t_o]], [.buf 4 0 l] => some (True ∧ (iR l ∧ l.length ≤ 900 ∧ out.length ≤ 1800000000 ∧ (aU.mk k_o i_o n_o w_o b_o t_o).text.length ≤ 90000000), .agg [.str ((dC out l c).gX (aU.mk k_o i_o n_o w_o b_o t_o)).out, .buf 0, .int .i64 ((dC out l c).gX (aU.mk k_o i_o n_o w_o b_o t_o)).code], some [.buf 4 0 (((dC out l c).gX (aU.mk k_o i_o n_o w_o b_o t_o)).l.map eP)])
 | _, _ => none
theorem Jk : aa 50 xg := by
 intro args sg pre x r he hp
 unfold xg at he
 split at he <;> cases he
 . rw [r8 (hp).1]; exact Hf (hp := hp.2) ..
end Go.Proofs.YtipejldppicijaaGreatDoor
namespace Go.Proofs.YtipejldppicijaaGreatDoor
open Go Go.VG
set_option maxRecDepth 100000
def iQ (k : Int) : Prop := k = 123 ∨ k = 91 ∨ k = 101 ∨ k = 102 ∨ k = 110 ∨ k = 100 ∨ k = 115
theorem De {w : CS} {p : Pl} (h : ¬ w.l.length = 0) : (w.gO p).top = p := by
 have hi : w.l.length - 1 < w.l.length := by omega
 simp [CS.gO, CS.top, hi]
theorem KH {w : CS} {id k : Int} (h : (w.may id k).2 = true) : (w.may id k).1.top.li = w.top.li := by
 have h0 := (fu h).2.1
 rw [(fP w id k).2] at h0
 revert h
 unfold CS.may
 repeat' split
 all_goals try (intro h; cases h; done)
 . intro _; rw [De h0]
 . intro _
   show (CS.gO w _).top.li = _
   rw [De h0]
theorem qd {w : CS} {id k : Int} (hc : w.code = 0) (h : w.l.length = 0) : w.may id k = ({ w with code := 12 }, false) := by
 unfold CS.may; rw [if_neg (by omega), if_pos h]
theorem EA (s : CS) (o : aU) (hk : iQ o.kind) : s.gX o = s.op o := by
  by_cases hc : s.code = 0
  case neg =>
   have hm := fun id k => Bt (w := s) (id := id) (k := k) hc
   unfold CS.gX CS.op CS.struct CS.list CS.fin CS.flag CS.hC CS.whole CS.put
   simp [hc, hm]
  case pos =>
  have hcn : ¬ s.code ≠ 0 := by omega
  unfold CS.gX
  rw [if_neg hcn]
  rcases hk with h | h | h | h | h | h | h
  . -- a struct
    have hop : s.op o = s.struct o.id := by
     unfold CS.op
     rw [if_pos h]
    rw [if_neg (show ¬ o.kind = 101 by omega), hop]
    have ha : eh s.l.length o = if s.l.length ≥ 32 then 33 else 0 := by
     unfold eh
     by_cases h32 : s.l.length ≥ 32
     . rw [if_pos ⟨.inl h, h32⟩, if_pos h32]
     . rw [if_neg (fun q => h32 q.2), if_neg h32, if_neg (by omega), if_neg (by omega)]
    have hko : kindOf o = 12 := by unfold kindOf; rw [if_pos h]
    unfold CS.struct
    rw [ha, hko, if_neg hcn]
    by_cases h32 : s.l.length ≥ 32
    . rw [if_pos h32, if_pos h32, if_pos (by decide)]
    . rw [if_neg h32, if_neg h32, if_neg (by decide)]
      by_cases h0 : s.l.length = 0
      . rw [if_pos h0, if_pos h0, if_neg (by omega)]
        unfold CS.begun CS.begin; rw [if_pos h]
      . rw [if_neg h0, if_neg h0]
        by_cases hm : (s.may o.id 12).2 = true
        . rw [if_pos hm, if_pos hm]
          have he : o.content s.top.li = [] := by
           unfold aU.content
           repeat rw [if_neg (by omega)]
          unfold CS.begun CS.begin
          rw [if_pos h, he, List.append_nil]
        . rw [if_neg hm, if_neg hm]
  . -- a list
    have hop : s.op o = s.list o.id o.n o.what := by
     unfold CS.op
     rw [if_neg (by omega), if_pos h]
    rw [if_neg (show ¬ o.kind = 101 by omega), hop]
    have ha : eh s.l.length o = if s.l.length ≥ 32 then 33 else if (c9 o.n (byte o.what)).length = 0 then 4 else 0 := by
     unfold eh
     by_cases h32 : s.l.length ≥ 32
     . rw [if_pos ⟨.inr h, h32⟩, if_pos h32]
     . rw [if_neg (fun q => h32 q.2), if_neg h32]
       by_cases hp : (c9 o.n (byte o.what)).length = 0
       . rw [if_pos ⟨h, List.length_eq_zero_iff.1 hp⟩, if_pos hp]
       . rw [if_neg (fun q => hp (List.length_eq_zero_iff.2 q.2)), if_neg (by omega), if_neg hp]
    have hko : kindOf o = 9 := by unfold kindOf; rw [if_neg (by omega), if_pos h]
    unfold CS.list
    rw [ha, hko, if_neg hcn]
    by_cases h32 : s.l.length ≥ 32
    . rw [if_pos h32, if_pos h32, if_pos (by decide)]
    . rw [if_neg h32, if_neg h32]
      by_cases hp : (c9 o.n (byte o.what)).length = 0
      . rw [if_pos hp, if_pos hp, if_pos (by decide)]
      . rw [if_neg hp, if_neg hp, if_neg (by decide)]
        by_cases h0 : s.l.length = 0
        . rw [if_pos h0, if_pos (by omega), qd hc h0, if_neg (by simp)]
        . rw [if_neg h0]
          by_cases hm : (s.may o.id 9).2 = true
          . rw [if_pos hm, if_pos hm]
            have he : o.content s.top.li = c9 o.n (byte o.what) := by
             unfold aU.content
             rw [if_pos h]
            unfold CS.begun
            rw [if_neg (by omega), if_pos h, he]
          . rw [if_neg hm, if_neg hm]
  . have hop : s.op o = s.fin := by
      unfold CS.op
      rw [if_neg (by omega), if_neg (by omega), if_pos h]
    rw [if_pos h, hop]
  . -- a ir
    have hop : s.op o = s.flag o.id (o.n == 1) := by
     unfold CS.op
     rw [if_neg (by omega), if_neg (by omega), if_neg (by omega), if_pos h]
    rw [if_neg (show ¬ o.kind = 101 by omega), hop]
    have ha : eh s.l.length o = 0 := by
     unfold eh
     rw [if_neg (by omega), if_neg (by omega), if_neg (by omega)]
    have hf : s.flag o.id (o.n == 1) = s.hC o.id (kindOf o) := by
     unfold CS.flag kindOf
     rw [if_neg (show ¬ o.kind = 123 by omega), if_neg (show ¬ o.kind = 91 by omega), if_pos h]
     by_cases hn : o.n = 1
     . rw [if_pos hn, if_pos (by simp [hn])]
     . rw [if_neg hn, if_neg (by simp [hn])]
    rw [ha, hf, if_neg (by decide)]
    unfold CS.hC
    by_cases h0 : s.l.length = 0
    . rw [if_pos h0, if_pos (by omega), qd hc h0, if_neg (by simp)]
    . rw [if_neg h0]
      by_cases hm : (s.may o.id (kindOf o)).2 = true
      . rw [if_pos hm, if_pos hm, KH hm]
        unfold CS.begun aU.content
        rw [if_neg (by omega), if_neg (by omega), if_neg (by omega)]
        by_cases hl : s.top.li = true
        . rw [if_pos ⟨h, hl⟩, if_pos hl]
        . rw [if_neg (fun q => hl q.2), if_neg hl]
          repeat rw [if_neg (by omega)]
          rw [List.append_nil]
      . rw [if_neg hm, if_neg hm]
  . -- a whole number
    have hop : s.op o = s.whole o.id o.what o.n := by
     unfold CS.op
     rw [if_neg (by omega), if_neg (by omega), if_neg (by omega), if_neg (by omega), if_pos h]
    rw [if_neg (show ¬ o.kind = 101 by omega), hop]
    have ha : eh s.l.length o = if c7 o.what = 0 then 7 else bc o.n (c7 o.what) := by
     unfold eh
     rw [if_neg (by omega), if_neg (by omega), if_pos h]
    have hko : kindOf o = o.what := by
     unfold kindOf
     repeat rw [if_neg (by omega)]
    unfold CS.whole CS.put
    rw [ha, hko, if_neg hcn]
    by_cases hb : c7 o.what = 0
    . rw [if_pos hb, if_pos hb, if_pos (by decide)]
    . rw [if_neg hb, if_neg hb]
      by_cases hf : bc o.n (c7 o.what) ≠ 0
      . rw [if_pos hf, if_pos hf]
      . rw [if_neg hf, if_neg hf]
        by_cases h0 : s.l.length = 0
        . rw [if_pos h0, if_pos (by omega), qd hc h0, if_neg (by simp)]
        . rw [if_neg h0]
          by_cases hm : (s.may o.id o.what).2 = true
          . rw [if_pos hm, if_pos hm]
            unfold CS.begun aU.content
            rw [if_neg (by omega), if_neg (by omega), if_neg (by omega), if_neg (by omega)]
            by_cases hw : o.what = 3
            . rw [if_pos ⟨h, hw⟩, if_pos hw]
            . rw [if_neg (fun q => hw q.2), if_pos h, if_neg hw]
          . rw [if_neg hm, if_neg hm]
  . -- a double
    have hop : s.op o = s.put o.id 7 (low 8 o.bits.toNat) := by
     unfold CS.op
     rw [if_neg (by omega), if_neg (by omega), if_neg (by omega), if_neg (by omega), if_neg (by omega), if_pos h]
    rw [if_neg (show ¬ o.kind = 101 by omega), hop]
    have ha : eh s.l.length o = 0 := by
     unfold eh
     rw [if_neg (by omega), if_neg (by omega), if_neg (by omega)]
    have hko : kindOf o = 7 := by
     unfold kindOf
     rw [if_neg (by omega), if_neg (by omega), if_neg (by omega), if_pos h]
    unfold CS.put
    rw [ha, hko, if_neg (by decide)]
    by_cases h0 : s.l.length = 0
    . rw [if_pos h0, if_pos (by omega), qd hc h0, if_neg (by simp)]
    . rw [if_neg h0]
      by_cases hm : (s.may o.id 7).2 = true
      . rw [if_pos hm, if_pos hm]
        unfold CS.begun aU.content
        rw [if_neg (by omega), if_neg (by omega), if_neg (by omega), if_neg (by omega), if_neg (by omega), if_neg (by omega), if_pos h]
      . rw [if_neg hm, if_neg hm]
  . -- a text
    have hop : s.op o = s.put o.id 8 (aF o.text.length ++ o.text) := by
     unfold CS.op
     rw [if_neg (by omega), if_neg (by omega), if_neg (by omega), if_neg (by omega), if_neg (by omega), if_neg (by omega)]
    rw [if_neg (show ¬ o.kind = 101 by omega), hop]
    have ha : eh s.l.length o = 0 := by
     unfold eh
     rw [if_neg (by omega), if_neg (by omega), if_neg (by omega)]
    have hko : kindOf o = 8 := by
     unfold kindOf
     rw [if_neg (by omega), if_neg (by omega), if_neg (by omega), if_neg (by omega), if_pos h]
    unfold CS.put
    rw [ha, hko, if_neg (by decide)]
    by_cases h0 : s.l.length = 0
    . rw [if_pos h0, if_pos (by omega), qd hc h0, if_neg (by simp)]
    . rw [if_neg h0]
      by_cases hm : (s.may o.id 8).2 = true
      . rw [if_pos hm, if_pos hm]
        unfold CS.begun aU.content
        rw [if_neg (by omega), if_neg (by omega), if_neg (by omega), if_neg (by omega), if_neg (by omega), if_neg (by omega), if_neg (by omega), if_pos h]
      . rw [if_neg hm, if_neg hm]
theorem sC (w : CS) (id k : Int) (b : List UInt8) : (w.put id k b).out.length ≤ w.out.length + 11 + b.length ∧ (w.put id k b).l.length = w.l.length := by
 have := fP w id k
 unfold CS.put
 split
 . simp only [List.length_append]; omega
 . omega
theorem BP (w : CS) (o : aU) (ht : o.text.length ≤ 90000000) (hn : -9223372036854775808 ≤ o.n ∧ o.n ≤ 9223372036854775807) :
   (w.op o).out.length ≤ w.out.length + o.text.length + 40 ∧ (w.op o).l.length ≤ w.l.length + 1 := by
 have h1 := @sw o.n (byte o.what)
 have h2 := dM (iz hn)
 have h3 := dM (u := o.text.length) (by omega)
 have p7 := sC w o.id 7 (low 8 o.bits.toNat)
 have p8 := sC w o.id 8 (aF o.text.length ++ o.text)
 have p3 := sC w o.id o.what [byte (ez o.n 8)]
 have p4 := sC w o.id o.what (aF (cA o.n))
 have m12 := fP w o.id 12
 have m9 := fP w o.id 9
 have m1 := fP w o.id 1
 have m2 := fP w o.id 2
 rw [fq] at p7
 simp only [List.length_append, List.length_singleton] at p8 p3
 unfold CS.op CS.struct CS.list CS.fin CS.flag CS.hC CS.whole CS.begin
 repeat' split
 all_goals (constructor <;> (try simp only [List.length_append, List.length_cons, List.length_nil, List.length_take]) <;> omega)
theorem okC_d {w : CS} (h : w.out.length ≤ 1800000000 ∧ w.l.length ≤ 800) : dk (bl w.out) (w.l.map eP) ∧ (b9 (bl w.out) (w.l.map eP) w.code).out.length ≤ 1800000000 ∧ (b9 (bl w.out) (w.l.map eP) w.code).l.length ≤ 800 := by
 rw [bD]; exact ⟨aR (by omega) (by omega), h⟩
end Go.Proofs.YtipejldppicijaaGreatDoor
