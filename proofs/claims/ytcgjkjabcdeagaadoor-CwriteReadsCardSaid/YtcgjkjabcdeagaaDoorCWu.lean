/-
  A writer of structs is told a script: the law's own functions.
-/
import Derived.Test.YtcgjkjabcdeagaaDoorCWt
set_option linter.unusedSimpArgs false
set_option linter.unusedVariables false
set_option maxHeartbeats 4000000
namespace Go.Proofs.YtcgjkjabcdeagaaDoor
open Go Go.VG
set_option maxRecDepth 100000
/-! the document's writer is the program's -/
def okKind (k : Int) : Prop := k = 123 ∨ k = 91 ∨ k = 101 ∨ k = 102 ∨ k = 110 ∨ k = 100 ∨ k = 115
theorem top_set {w : CS} {p : Pl} (h : ¬ w.l.length = 0) : (w.setTop p).top = p := by
  have hi : w.l.length - 1 < w.l.length := by omega
  simp [CS.setTop, CS.top, hi]
theorem may_li {w : CS} {id k : Int} (h : (w.may id k).2 = true) : (w.may id k).1.top.li = w.top.li := by
  have h0 := (may_pos h).2.1
  rw [(may_len w id k).2] at h0
  revert h
  unfold CS.may
  repeat' split
  all_goals try (intro h; cases h; done)
  · intro _; rw [top_set h0]
  · intro _
    show (CS.setTop w _).top.li = _
    rw [top_set h0]
theorem may_nil {w : CS} {id k : Int} (hc : w.code = 0) (h : w.l.length = 0) : w.may id k = ({ w with code := 12 }, false) := by
  unfold CS.may; rw [if_neg (by omega), if_pos h]
theorem does_op (s : CS) (o : COp) (hk : okKind o.kind) : s.does o = s.op o := by
  by_cases hc : s.code = 0
  case neg =>
    have hm := fun id k => may_err (w := s) (id := id) (k := k) hc
    unfold CS.does CS.op CS.struct CS.list CS.fin CS.flag CS.flagK CS.whole CS.put
    simp [hc, hm]
  case pos =>
  have hcn : ¬ s.code ≠ 0 := by omega
  unfold CS.does
  rw [if_neg hcn]
  rcases hk with h | h | h | h | h | h | h
  · -- a struct
    have hop : s.op o = s.struct o.id := by
      unfold CS.op
      rw [if_pos h]
    rw [if_neg (show ¬ o.kind = 101 by omega), hop]
    have ha : aloneC s.l.length o = if s.l.length ≥ 32 then 33 else 0 := by
      unfold aloneC
      by_cases h32 : s.l.length ≥ 32
      · rw [if_pos ⟨.inl h, h32⟩, if_pos h32]
      · rw [if_neg (fun q => h32 q.2), if_neg h32, if_neg (by omega), if_neg (by omega)]
    have hko : kindOf o = 12 := by unfold kindOf; rw [if_pos h]
    unfold CS.struct
    rw [ha, hko, if_neg hcn]
    by_cases h32 : s.l.length ≥ 32
    · rw [if_pos h32, if_pos h32, if_pos (by decide)]
    · rw [if_neg h32, if_neg h32, if_neg (by decide)]
      by_cases h0 : s.l.length = 0
      · rw [if_pos h0, if_pos h0, if_neg (by omega)]
        unfold CS.begun CS.begin; rw [if_pos h]
      · rw [if_neg h0, if_neg h0]
        by_cases hm : (s.may o.id 12).2 = true
        · rw [if_pos hm, if_pos hm]
          have he : o.content s.top.li = [] := by
            unfold COp.content
            repeat rw [if_neg (by omega)]
          unfold CS.begun CS.begin
          rw [if_pos h, he, List.append_nil]
        · rw [if_neg hm, if_neg hm]
  · -- a list
    have hop : s.op o = s.list o.id o.n o.what := by
      unfold CS.op
      rw [if_neg (by omega), if_pos h]
    rw [if_neg (show ¬ o.kind = 101 by omega), hop]
    have ha : aloneC s.l.length o = if s.l.length ≥ 32 then 33 else if (plist o.n (byte o.what)).length = 0 then 4 else 0 := by
      unfold aloneC
      by_cases h32 : s.l.length ≥ 32
      · rw [if_pos ⟨.inr h, h32⟩, if_pos h32]
      · rw [if_neg (fun q => h32 q.2), if_neg h32]
        by_cases hp : (plist o.n (byte o.what)).length = 0
        · rw [if_pos ⟨h, List.length_eq_zero_iff.1 hp⟩, if_pos hp]
        · rw [if_neg (fun q => hp (List.length_eq_zero_iff.2 q.2)), if_neg (by omega), if_neg hp]
    have hko : kindOf o = 9 := by unfold kindOf; rw [if_neg (by omega), if_pos h]
    unfold CS.list
    rw [ha, hko, if_neg hcn]
    by_cases h32 : s.l.length ≥ 32
    · rw [if_pos h32, if_pos h32, if_pos (by decide)]
    · rw [if_neg h32, if_neg h32]
      by_cases hp : (plist o.n (byte o.what)).length = 0
      · rw [if_pos hp, if_pos hp, if_pos (by decide)]
      · rw [if_neg hp, if_neg hp, if_neg (by decide)]
        by_cases h0 : s.l.length = 0
        · rw [if_pos h0, if_pos (by omega), may_nil hc h0, if_neg (by simp)]
        · rw [if_neg h0]
          by_cases hm : (s.may o.id 9).2 = true
          · rw [if_pos hm, if_pos hm]
            have he : o.content s.top.li = plist o.n (byte o.what) := by
              unfold COp.content
              rw [if_pos h]
            unfold CS.begun
            rw [if_neg (by omega), if_pos h, he]
          · rw [if_neg hm, if_neg hm]
  · have hop : s.op o = s.fin := by
      unfold CS.op
      rw [if_neg (by omega), if_neg (by omega), if_pos h]
    rw [if_pos h, hop]
  · -- a truth
    have hop : s.op o = s.flag o.id (o.n == 1) := by
      unfold CS.op
      rw [if_neg (by omega), if_neg (by omega), if_neg (by omega), if_pos h]
    rw [if_neg (show ¬ o.kind = 101 by omega), hop]
    have ha : aloneC s.l.length o = 0 := by
      unfold aloneC
      rw [if_neg (by omega), if_neg (by omega), if_neg (by omega)]
    have hf : s.flag o.id (o.n == 1) = s.flagK o.id (kindOf o) := by
      unfold CS.flag kindOf
      rw [if_neg (show ¬ o.kind = 123 by omega), if_neg (show ¬ o.kind = 91 by omega), if_pos h]
      by_cases hn : o.n = 1
      · rw [if_pos hn, if_pos (by simp [hn])]
      · rw [if_neg hn, if_neg (by simp [hn])]
    rw [ha, hf, if_neg (by decide)]
    unfold CS.flagK
    by_cases h0 : s.l.length = 0
    · rw [if_pos h0, if_pos (by omega), may_nil hc h0, if_neg (by simp)]
    · rw [if_neg h0]
      by_cases hm : (s.may o.id (kindOf o)).2 = true
      · rw [if_pos hm, if_pos hm, may_li hm]
        unfold CS.begun COp.content
        rw [if_neg (by omega), if_neg (by omega), if_neg (by omega)]
        by_cases hl : s.top.li = true
        · rw [if_pos ⟨h, hl⟩, if_pos hl]
        · rw [if_neg (fun q => hl q.2), if_neg hl]
          repeat rw [if_neg (by omega)]
          rw [List.append_nil]
      · rw [if_neg hm, if_neg hm]
  · -- a whole number
    have hop : s.op o = s.whole o.id o.what o.n := by
      unfold CS.op
      rw [if_neg (by omega), if_neg (by omega), if_neg (by omega), if_neg (by omega), if_pos h]
    rw [if_neg (show ¬ o.kind = 101 by omega), hop]
    have ha : aloneC s.l.length o = if bitsK o.what = 0 then 7 else fitC o.n (bitsK o.what) := by
      unfold aloneC
      rw [if_neg (by omega), if_neg (by omega), if_pos h]
    have hko : kindOf o = o.what := by
      unfold kindOf
      repeat rw [if_neg (by omega)]
    unfold CS.whole CS.put
    rw [ha, hko, if_neg hcn]
    by_cases hb : bitsK o.what = 0
    · rw [if_pos hb, if_pos hb, if_pos (by decide)]
    · rw [if_neg hb, if_neg hb]
      by_cases hf : fitC o.n (bitsK o.what) ≠ 0
      · rw [if_pos hf, if_pos hf]
      · rw [if_neg hf, if_neg hf]
        by_cases h0 : s.l.length = 0
        · rw [if_pos h0, if_pos (by omega), may_nil hc h0, if_neg (by simp)]
        · rw [if_neg h0]
          by_cases hm : (s.may o.id o.what).2 = true
          · rw [if_pos hm, if_pos hm]
            unfold CS.begun COp.content
            rw [if_neg (by omega), if_neg (by omega), if_neg (by omega), if_neg (by omega)]
            by_cases hw : o.what = 3
            · rw [if_pos ⟨h, hw⟩, if_pos hw]
            · rw [if_neg (fun q => hw q.2), if_pos h, if_neg hw]
          · rw [if_neg hm, if_neg hm]
  · -- a double
    have hop : s.op o = s.put o.id 7 (low 8 o.bits.toNat) := by
      unfold CS.op
      rw [if_neg (by omega), if_neg (by omega), if_neg (by omega), if_neg (by omega), if_neg (by omega), if_pos h]
    rw [if_neg (show ¬ o.kind = 101 by omega), hop]
    have ha : aloneC s.l.length o = 0 := by
      unfold aloneC
      rw [if_neg (by omega), if_neg (by omega), if_neg (by omega)]
    have hko : kindOf o = 7 := by
      unfold kindOf
      rw [if_neg (by omega), if_neg (by omega), if_neg (by omega), if_pos h]
    unfold CS.put
    rw [ha, hko, if_neg (by decide)]
    by_cases h0 : s.l.length = 0
    · rw [if_pos h0, if_pos (by omega), may_nil hc h0, if_neg (by simp)]
    · rw [if_neg h0]
      by_cases hm : (s.may o.id 7).2 = true
      · rw [if_pos hm, if_pos hm]
        unfold CS.begun COp.content
        rw [if_neg (by omega), if_neg (by omega), if_neg (by omega), if_neg (by omega), if_neg (by omega), if_neg (by omega), if_pos h]
      · rw [if_neg hm, if_neg hm]
  · -- a text
    have hop : s.op o = s.put o.id 8 (vput o.text.length ++ o.text) := by
      unfold CS.op
      rw [if_neg (by omega), if_neg (by omega), if_neg (by omega), if_neg (by omega), if_neg (by omega), if_neg (by omega)]
    rw [if_neg (show ¬ o.kind = 101 by omega), hop]
    have ha : aloneC s.l.length o = 0 := by
      unfold aloneC
      rw [if_neg (by omega), if_neg (by omega), if_neg (by omega)]
    have hko : kindOf o = 8 := by
      unfold kindOf
      rw [if_neg (by omega), if_neg (by omega), if_neg (by omega), if_neg (by omega), if_pos h]
    unfold CS.put
    rw [ha, hko, if_neg (by decide)]
    by_cases h0 : s.l.length = 0
    · rw [if_pos h0, if_pos (by omega), may_nil hc h0, if_neg (by simp)]
    · rw [if_neg h0]
      by_cases hm : (s.may o.id 8).2 = true
      · rw [if_pos hm, if_pos hm]
        unfold CS.begun COp.content
        rw [if_neg (by omega), if_neg (by omega), if_neg (by omega), if_neg (by omega), if_neg (by omega), if_neg (by omega), if_neg (by omega), if_pos h]
      · rw [if_neg hm, if_neg hm]
/-! how long it gets -/
theorem put_len (w : CS) (id k : Int) (b : List UInt8) : (w.put id k b).out.length ≤ w.out.length + 11 + b.length ∧ (w.put id k b).l.length = w.l.length := by
  have := may_len w id k
  unfold CS.put
  split
  · simp only [List.length_append]; omega
  · omega
theorem op_len (w : CS) (o : COp) (ht : o.text.length ≤ 90000000) (hn : -9223372036854775808 ≤ o.n ∧ o.n ≤ 9223372036854775807) :
    (w.op o).out.length ≤ w.out.length + o.text.length + 40 ∧ (w.op o).l.length ≤ w.l.length + 1 := by
  have h1 := @plist_len o.n (byte o.what)
  have h2 := vput_len (zigN_lt hn)
  have h3 := vput_len (u := o.text.length) (by omega)
  have p7 := put_len w o.id 7 (low 8 o.bits.toNat)
  have p8 := put_len w o.id 8 (vput o.text.length ++ o.text)
  have p3 := put_len w o.id o.what [byte (fitU o.n 8)]
  have p4 := put_len w o.id o.what (vput (zigN o.n))
  have m12 := may_len w o.id 12
  have m9 := may_len w o.id 9
  have m1 := may_len w o.id 1
  have m2 := may_len w o.id 2
  rw [low_length] at p7
  simp only [List.length_append, List.length_singleton] at p8 p3
  unfold CS.op CS.struct CS.list CS.fin CS.flag CS.flagK CS.whole CS.begin
  repeat' split
  all_goals (constructor <;> (try simp only [List.length_append, List.length_cons, List.length_nil, List.length_take]) <;> omega)
/-! the law's own way to tell it -/
theorem okC_d {w : CS} (h : w.out.length ≤ 1800000000 ∧ w.l.length ≤ 800) : okC (bl w.out) (w.l.map eP) ∧ (deC (bl w.out) (w.l.map eP) w.code).out.length ≤ 1800000000 ∧ (deC (bl w.out) (w.l.map eP) w.code).l.length ≤ 800 := by
  rw [deC_e]; exact ⟨okC_e (by omega) (by omega), h⟩
theorem f_cwDo_1 (w : CS) (o : COp) (hp : (w.out.length ≤ 1800000000 ∧ w.l.length ≤ 800) ∧ o.text.length ≤ 90000000) : OK 8 ([.ptr 0 0, eCo o]) (eCw w) (.tuple []) (some (eCw (w.op o))) := by
  refine funOK_of_vc (C := cx [(13, sm_cwStruct), (19, sm_cwList), (18, sm_cwEnd), (17, sm_cwFlag), (14, sm_cwWhole), (15, sm_cwDouble), (16, sm_cwText)]) (good ⟨k_cwStruct, k_cwList, k_cwEnd, k_cwFlag, k_cwWhole, k_cwDouble, k_cwText, trivial⟩) (fn := Tryd.f8) rfl rfl rfl rfl fun hw hs => ?_
  obtain ⟨hp, hq⟩ := hp
  repeat' ((conv => whnf); first | with_reducible (first | refine go1 (fun j q h => ?_) fun h => ?_ | refine go2 ⟨rfl, rfl⟩ (fun h => ?_) fun j h => ?_ | refine go2 ?_ (fun h => ?_) fun j h => ?_ | refine goQ ?_ (fun h => ?_) fun h => ?_) | apply go3 | apply go4 | apply go5 | ((first | apply go6 | apply go7 | apply go8 | apply go9 | apply goA) <;> intro h) | with_reducible (first | refine IdxK.mk _ rfl ?_ | refine goB ?_ fun hc => ?_ | refine goC ?_ fun hc => ?_ | refine goD ?_ fun hc => ?_ | refine goE ?_ fun hc => ?_ | apply goF | apply goG | refine goH ?_ fun b hb => ?_) | apply goI | apply goJ | apply goK | apply goL | apply goM | apply goN | apply goO | with_reducible refine goP ?_)
  all_goals try conv => whnf
  all_goals try (refine Side.mk ?_; try dsimp only)
  all_goals (try simp only [COp_eta, CS_eta, dC_w] at *)
  all_goals first | refine stay ?_ | trivial | omega | (simp (discharger := omega) only [wR]; omega) | (simp only [lnS]; omega) | (simp (discharger := omega) [-List.getD_eq_getElem?_getD, wR] <;> omega) | skip
  all_goals (try rw [deC_e])
  all_goals first
    | (show EndP _ _ _ _ _ _
       unfold CS.op
       repeat (first | rw [if_pos (by omega)] | rw [if_neg (by omega)])
       refine EndP.mk [] ?_ <;> (repeat' first | trivial | rfl | exact eqS _ _ | apply andI | apply eqA | apply eqB | apply eqC | apply eqD | apply eqE | apply eqF | apply eqG | apply eqH | apply eqI)
       done)
    | exact ⟨okC_e (by omega) (by omega), by omega, by omega⟩
    | exact ⟨okC_e (by omega) (by omega), ⟨by omega, by omega⟩, by omega⟩
def sm_cwDo : Sm := fun args σ => match args, σ with
  | [.ptr 0 0, .agg [.int .u8 k_o, .int .i64 i_o, .int .i64 n_o, .int .u8 w_o, .int .u64 b_o, .str t_o]], [.cells [.buf 1, .buf 2, .int .i64 c_w], .buf 1 0 o_w, .buf 4 0 l_w] => some (True ∧ (okC o_w l_w ∧ (((deC o_w l_w c_w).out.length ≤ 1800000000 ∧ (deC o_w l_w c_w).l.length ≤ 800) ∧ (COp.mk k_o i_o n_o w_o b_o t_o).text.length ≤ 90000000)), .tuple [], some (eCw ((deC o_w l_w c_w).op (COp.mk k_o i_o n_o w_o b_o t_o))))
  | _, _ => none
theorem k_cwDo : SOK 8 sm_cwDo := by
  intro args sg pre x r he hp
  unfold sm_cwDo at he
  split at he <;> cases he
  · rw [viewCo (hp).1]; rw [viewCw (hp.2).1]; exact f_cwDo_1 (hp := hp.2.2) ..
end Go.Proofs.YtcgjkjabcdeagaaDoor
