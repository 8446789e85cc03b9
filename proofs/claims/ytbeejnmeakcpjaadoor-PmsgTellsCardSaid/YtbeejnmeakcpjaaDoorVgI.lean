/-
  Each symbolic operation tells what the operation does: texts, indexes, cuts, conversions, assertions, stores.
-/
import Derived.Test.YtbeejnmeakcpjaaDoorVgH
set_option linter.unusedSimpArgs false
set_option linter.unusedVariables false
namespace Go.VG
open Go

section
variable {C : Ctx} {E : Env} {st : St} {g : Ghost} {s : AS} {a : Act} {w : World} {o : Oper} {e : Ef}

theorem s_un {op : UnOp} {t : TypeId} {x : Operand} (R : Rel E st g s a w) (hg : GlobOK C.gl st) (ho : o.op = .unOp op t x) :
    Snd C E st g s a w o (bindT (evUn op (s.ev C x)) fun v => ret (pe v)) := by
  have hx := ev_ok R hg x
  refine All.bind (evUn_fn _ _) fun v hv => All.ret ?_
  have hv := hv (fun u => u = v) rfl
  unfold evUn at hv
  cases hX : s.ev C x <;> cases op <;> simp only [hX] at hv <;> first
    | exact hv.elim
    | skip
  all_goals
    rw [hX] at hx
    simp only [VR] at hx
    cases hv
  case int.neg k n => exact OpOK.pure R _ w (by simp [execOp, ho, hx.1, Op.unary, Op.intArith]) (SameW.refl w) (VR_int (wrap_in _ _))
  case int.xor k n => exact OpOK.pure R _ w (by simp only [execOp, ho, hx.1, Op.unary, Op.intBits]; rfl) (SameW.refl w) (VR_int (wrap_in _ _))
  case bool.not b => exact OpOK.pure R _ w (by simp [execOp, ho, hx, Op.unary]) (SameW.refl w) VR_bool

/-! an index -/
theorem ba_get (s : List UInt8) (i : Nat) : (⟨s.toArray⟩ : ByteArray)[i]? = s[i]? := by
  by_cases h : i < s.length
  · have h' : i < (⟨s.toArray⟩ : ByteArray).size := by show i < s.toArray.size; simpa using h
    rw [ByteArray.getElem?_lt' _ _ h', List.getElem?_eq_getElem h]
    rfl
  · have h' : ¬ i < (⟨s.toArray⟩ : ByteArray).size := by show ¬ i < s.toArray.size; simpa using h
    rw [ByteArray.getElem?_ge' _ _ h', List.getElem?_eq_none (by omega)]

theorem byte_in (b : UInt8) : IntKind.u8.min ≤ (b.toNat : Int) ∧ (b.toNat : Int) ≤ IntKind.u8.max := by
  have := b.toNat_lt
  simp [IntKind.min, IntKind.max, IntKind.signed, IntKind.bits]; omega

theorem s_index {t : TypeId} {x ix : Operand} (R : Rel E st g s a w) (hg : GlobOK C.gl st) (G : Good C) (ho : o.op = .index t x ix) : Snd C E st g s a w o (evIndex C s t x ix) := by
  unfold evIndex
  simp only [idxT_eq]
  have hx := ev_ok R hg x
  have hi := ev_ok R hg ix
  split
  · rename_i p k n hk he hn
    rw [he] at hx; rw [hn] at hi
    simp only [VR] at hx hi
    have h3 := ((G.ti t).of (by rw [hk]; simp)).1
    rw [hk] at h3
    refine All.req fun h0 => All.opt fun b hb => All.ret (OpOK.pure R (.int .u8 b.toNat) w ?_ (SameW.refl w) (VR_int (byte_in b)))
    have hb' : (⟨p.toArray⟩ : ByteArray)[n.toNat]? = some b := by rw [ba_get]; exact hb
    simp [execOp, ho, hx.1, hi.1, Instr.index, asIntOf, run_underlying h3, h0, hb']
  · rename_i m e cs k n hk he hn
    rw [he] at hx; rw [hn] at hi
    simp only [VR] at hx hi
    obtain ⟨vs, hx, hc⟩ := hx
    have h3 := ((G.ti t).of (by rw [hk]; simp)).1
    rw [hk] at h3
    split
    · exact All.fail
    rename_i hk2
    refine All.req fun h0 => All.bind (part1_fn _ _ _ _) fun v hv => ?_
    rw [force_eq]
    obtain ⟨u, h8, h9⟩ := run_part (w := w) G (fun h => hk2 h) hc hv
    refine All.ret (OpOK.pure R u w ?_ (SameW.refl w) h9)
    simp [execOp, ho, hx, hi.1, Instr.index, asIntOf, run_underlying h3, h0, run_size w (G.ti e) (fun h => hk2 h), h8]
  · exact All.fail

theorem VR_row {l : List V} {sz b o : Nat} (h : VRrow st g l sz (st b) o) {i : Nat} {y : V} (hy : l[i]? = some y) (hu : y.isU = false) :
    VR st g (.box y.cells 0) 0 (.pointer (some ⟨b, o + i * sz, none⟩)) := by
  obtain ⟨u, r1, r2, r3, r4⟩ := VRrow_iff.1 h i y hy
  have r5 := VR_cells r1 hu
  simp only [VR]
  refine ⟨b, o + i * sz, u.cells.toList, rfl, r5, fun j hj => ?_⟩
  have := r4 j (by rw [← r2]; simpa using hj)
  simpa using this

theorem s_indexAddr {t : TypeId} {x ix : Operand} (R : Rel E st g s a w) (hg : GlobOK C.gl st) (G : Good C) (ho : o.op = .indexAddr t x ix) : Snd C E st g s a w o (evIndexAddr C s t x ix) := by
  unfold evIndexAddr
  simp only [idxT_eq]
  have hx := ev_ok R hg x
  have hi := ev_ok R hg ix
  split
  · rename_i e clip sz l k n hk he hn
    rw [he] at hx; rw [hn] at hi
    simp only [VR] at hx hi
    obtain ⟨base, cap, hx, h1, h2, h3, h4⟩ := hx
    have h5 := ((G.ti t).of (by rw [hk]; simp)).1
    rw [hk] at h5
    split
    · exact All.fail
    rename_i hk2
    refine All.when fun hsz => All.req fun h0 => All.opt fun y hy => All.when fun hu => All.ret ?_
    have hsz := Nat.eq_of_beq_eq_true hsz
    have hlt : n.toNat < l.length := by
      rcases Nat.lt_or_ge n.toNat l.length with h' | h'
      · exact h'
      · simp [List.getElem?_eq_none h'] at hy
    rcases h4 with h4 | ⟨b, of, h6, h7, h8⟩
    · subst h4; simp at hlt
    · refine OpOK.pure R (.pointer (some ⟨b, of + n.toNat * sz, none⟩)) w ?_ (SameW.refl w) (VR_map (fun _ _ _ h => h) (fun i _ hi => absurd hi (Nat.not_lt_zero _)) (VR_row h8 hy (by simpa using hu)))
      have hlt' : n < (l.length : Int) := by omega
      simp [execOp, ho, hx, hi.1, Instr.indexAt, asIntOf, run_underlying h5, h0, hlt', h6, run_size w (G.ti e) (fun h => hk2 h), ← hsz, Addr.add_lit]
  · rename_i e i k n hk he hn
    rw [he] at hx; rw [hn] at hi
    simp only [VR] at hx hi
    obtain ⟨hil, hx⟩ := hx
    have h5 := ((G.ti t).of (by rw [hk]; simp)).1
    rw [hk] at h5
    split
    · exact All.fail
    rename_i hk2
    split
    · rename_i sz pre l hs
      obtain ⟨hs1, _⟩ := getSg_eq hs (by simp)
      obtain ⟨q1, q2, q3, q4, q5, q6, q7⟩ := R.wr.ob i _ hs1
      refine All.when fun hsz => All.req fun h0 => All.ret ?_
      have hsz := Nat.eq_of_beq_eq_true hsz
      rcases q7 with ⟨q7, _⟩ | ⟨b', c, el, fr, k1, k2, k3, k4, k5, k6, _⟩
      · exact absurd h0.2 (by omega)
      · refine OpOK.pure R (.pointer (some ⟨b', n.toNat * sz, none⟩)) w ?_ (SameW.refl w) (by simp only [VR]; exact ⟨hil, b', k1, by rw [q2, Nat.add_zero]⟩)
        have hlt' : n < ((g i).len : Int) := by omega
        simp [execOp, ho, hx, hi.1, Instr.indexAt, asIntOf, run_underlying h5, h0.1, hlt', k2, run_size w (G.ti e) (fun h => hk2 h), ← hsz, Addr.add_lit]
    · exact All.fail
  · rename_i m e i off k n hk he hn
    rw [he] at hx; rw [hn] at hi
    simp only [VR] at hx hi
    obtain ⟨hil, b, hb, hx⟩ := hx
    have h5 := ((G.ti t).of (by rw [hk]; simp)).1
    rw [hk] at h5
    split
    · exact All.fail
    rename_i hk2
    refine All.req fun h0 => ?_
    rw [forceN_eq]
    refine All.ret (OpOK.pure R (.pointer (some ⟨b, off + n.toNat * (C.ti e).size, none⟩)) w ?_ (SameW.refl w) (by simp only [VR]; exact ⟨hil, b, hb, rfl⟩))
    simp [execOp, ho, hx, hi.1, Instr.indexAt, asIntOf, run_underlying h5, h0, Instr.sureAddr, run_size w (G.ti e) (fun h => hk2 h), Addr.add_lit]
  · rename_i m e cs off k n hk he hn
    rw [he] at hx; rw [hn] at hi
    simp only [VR] at hx hi
    obtain ⟨b, of, vs, hx, h1, h2⟩ := hx
    have h5 := ((G.ti t).of (by rw [hk]; simp)).1
    rw [hk] at h5
    split
    · exact All.fail
    rename_i hk2
    refine All.req fun h0 => ?_
    rw [forceN_eq]
    refine All.ret (OpOK.pure R (.pointer (some ⟨b, of + off + n.toNat * (C.ti e).size, none⟩)) w ?_ (SameW.refl w) (by simp only [VR]; exact ⟨b, of, vs, by rw [Nat.add_assoc], h1, h2⟩))
    simp [execOp, ho, hx, hi.1, Instr.indexAt, asIntOf, run_underlying h5, h0, Instr.sureAddr, run_size w (G.ti e) (fun h => hk2 h), Addr.add_lit]
  · exact All.fail

theorem s_assert {x : Operand} {t0 t : TypeId} {ok : Bool} (R : Rel E st g s a w) (hg : GlobOK C.gl st) (G : Good C) (ho : o.op = .typeAssert x t0 t ok) : Snd C E st g s a w o (evAssert C s x t ok) := by
  unfold evAssert
  have hx := ev_ok R hg x
  have hz : (C.ti t).k ≠ .other → ∃ z, (zeroValue t).run C.P w = .ok z w ∧ ∀ (st : St) (g : Ghost) (n : Nat), VR st g (C.ti t).zero n z := fun h => run_zero w (G.ti t) h
  split
  · exact All.fail
  · exact All.fail
  · rename_i u v he h1 h2
    rw [he] at hx
    simp only [VR] at hx
    obtain ⟨v', hx, hv⟩ := hx
    have hk : (C.ti t).k ≠ .other := fun h => h1 h
    obtain ⟨d, hd, hni⟩ : ∃ d, C.P.underlying t = some d ∧ ∀ ms, d ≠ .interface ms := by
      have h3 := ((G.ti t).of hk).1
      cases hk' : (C.ti t).k <;> rw [hk'] at h3 <;> simp only [TK.ok] at h3
      case struct fs => obtain ⟨f, h3, _⟩ := h3; exact ⟨_, h3, by simp⟩
      case iface => exact absurd hk' (fun h => h2 h)
      case func => obtain ⟨p, q, r, h3⟩ := h3; exact ⟨_, h3, by simp⟩
      all_goals exact ⟨_, h3, by simp⟩
    obtain ⟨z, hz1, hz2⟩ := hz hk
    have hr : ∀ (b : Bool), Nat.beq u t = b → (Instr.typeAssert (.iface u v') t0 t ok).run C.P w = (if b then .ok (if ok then .tuple #[v', .bool true] else v') w else if ok then .ok (.tuple #[z, .bool false]) w else (Instr.typeAssert (.iface u v') t0 t ok).run C.P w) := fun b hb => by
      cases b with
      | true =>
        have := Nat.eq_of_beq_eq_true hb
        subst this
        unfold Instr.typeAssert
        cases d <;> first
          | (rename_i ms; exact absurd rfl (hni ms))
          | simp [run_underlying hd]
      | false =>
        cases ok with
        | false => rfl
        | true =>
          have hne : u ≠ t := fun h => by subst h; rw [Nat.beq_refl] at hb; cases hb
          unfold Instr.typeAssert
          cases d <;> first
            | (rename_i ms; exact absurd rfl (hni ms))
            | simp [run_underlying hd, hne, hz1]
    split
    · rename_i hb
      have h4 := hr true hb
      exact All.ret (OpOK.pure R _ w (by simp [execOp, ho, hx, h4]; rfl) (SameW.refl w) (by simp only [VR]; exact ⟨_, rfl, VRs_cons hv (VRs_cons VR_bool VRs_nil)⟩))
    · rename_i hb
      have h4 := hr true hb
      exact All.ret (OpOK.pure R _ w (by simp [execOp, ho, hx, h4]) (SameW.refl w) hv)
    · rename_i hb
      have h4 := hr false hb
      rw [force_eq]
      exact All.when fun hu => All.ret (OpOK.pure R _ w (by simp [execOp, ho, hx, h4]; rfl) (SameW.refl w) (by simp only [VR]; exact ⟨_, rfl, VRs_cons (hz2 _ _ _) (VRs_cons VR_bool VRs_nil)⟩))
    · exact All.fail
  · rename_i he h1 h2
    rw [he] at hx
    simp only [VR] at hx
    have hk : (C.ti t).k ≠ .other := fun h => h1 h
    obtain ⟨d, hd, hni⟩ : ∃ d, C.P.underlying t = some d ∧ ∀ ms, d ≠ .interface ms := by
      have h3 := ((G.ti t).of hk).1
      cases hk' : (C.ti t).k <;> rw [hk'] at h3 <;> simp only [TK.ok] at h3
      case struct fs => obtain ⟨f, h3, _⟩ := h3; exact ⟨_, h3, by simp⟩
      case iface => exact absurd hk' (fun h => h2 h)
      case func => obtain ⟨p, q, r, h3⟩ := h3; exact ⟨_, h3, by simp⟩
      all_goals exact ⟨_, h3, by simp⟩
    obtain ⟨z, hz1, hz2⟩ := hz hk
    split
    · rw [force_eq]
      have hr : (Instr.typeAssert .nilIface t0 t true).run C.P w = .ok (.tuple #[z, .bool false]) w := by
        unfold Instr.typeAssert
        cases d <;> first
          | (rename_i ms; exact absurd rfl (hni ms))
          | simp [run_underlying hd, hz1]
      exact All.when fun hu => All.ret (OpOK.pure R _ w (by simp [execOp, ho, hx, hr]; rfl) (SameW.refl w) (by simp only [VR]; exact ⟨_, rfl, VRs_cons (hz2 _ _ _) (VRs_cons VR_bool VRs_nil)⟩))
    · exact All.fail
  · exact All.fail
end
end Go.VG
