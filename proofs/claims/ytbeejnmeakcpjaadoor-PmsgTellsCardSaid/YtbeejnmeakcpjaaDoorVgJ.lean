/-
  Each symbolic operation tells what the operation does: cuts, conversions, stores, walks over texts.
-/
import Derived.Test.YtbeejnmeakcpjaaDoorVgI
import Derived.Laws.IdiomStrings
set_option linter.unusedSimpArgs false
set_option linter.unusedVariables false
namespace Go.VG
open Go

section
variable {C : Ctx} {E : Env} {st : St} {g : Ghost} {s : AS} {a : Act} {w : World} {o : Oper} {e : Ef}

/-! cuts -/
theorem range_in {len : Nat} {lo hi : Option Operand} (R : Rel E st g s a w) (hg : GlobOK C.gl st) :
    All (fun r => ∃ l h : Nat, l ≤ h ∧ h ≤ len ∧ (∀ (isSlice : Bool) (cap : Nat), len ≤ cap → (Instr.sliceBounds isSlice len cap (lo.map a.eval) (hi.map a.eval) none).run C.P w = .ok (l, h, cap) w) ∧
      (∀ {α : Type} (xs : List α), xs.length = len → cutL xs r = (xs.take h).drop l)) (evRange C s len lo hi) := by
  have hv := ev_ok (C := C) R hg
  unfold evRange
  split
  · exact All.ret ⟨0, len, by omega, by omega, fun b cap hc => by simp [Instr.sliceBounds], fun xs hx => by simp [cutL, ← hx]⟩
  · rename_i l
    split
    · rename_i k n he
      have h1 := hv l
      rw [he] at h1
      simp only [VR] at h1
      refine All.req fun h0 => All.ret ⟨n.toNat, len, by omega, by omega, fun b cap hc => ?_, fun xs hx => by simp [cutL, ← hx]⟩
      simp [Instr.sliceBounds, h1.1, run_sliceBound _ k n len _ h0.1 h0.2]
    · exact All.fail
  · rename_i h
    split
    · rename_i k n he
      have h1 := hv h
      rw [he] at h1
      simp only [VR] at h1
      refine All.req fun h0 => All.ret ⟨0, n.toNat, by omega, by omega, fun b cap hc => ?_, fun xs hx => by simp [cutL]⟩
      simp [Instr.sliceBounds, h1.1, run_sliceBound _ k n cap _ h0.1 (by omega)]
    · exact All.fail
  · rename_i l h
    split
    · rename_i k n k' n' he he'
      have h1 := hv l
      have h2 := hv h
      rw [he] at h1; rw [he'] at h2
      simp only [VR] at h1 h2
      refine All.req fun h0 => All.ret ⟨n.toNat, n'.toNat, by omega, by omega, fun b cap hc => ?_, fun xs hx => by simp [cutL]⟩
      simp [Instr.sliceBounds, h1.1, h2.1, run_sliceBound _ k' n' cap _ (by omega) (by omega), run_sliceBound _ k n n'.toNat _ h0.1 (by omega)]
    · exact All.fail

theorem ba_extract (s : List UInt8) (l h : Nat) : (⟨s.toArray⟩ : ByteArray).extract l h = ⟨((s.take h).drop l).toArray⟩ := by
  apply ByteArray.ext
  simp [List.extract_eq_take_drop, List.drop_take]

theorem VRrow_drop {l : List V} {sz b o : Nat} (h : VRrow st g l sz (st b) o) (k : Nat) : VRrow st g (l.drop k) sz (st b) (o + k * sz) := by
  rw [VRrow_iff] at h ⊢
  intro i x hx
  rw [List.getElem?_drop] at hx
  obtain ⟨u, h1, h2, h3, h4⟩ := h (k + i) x hx
  refine ⟨u, h1, h2, h3, fun j hj => ?_⟩
  have := h4 j hj
  rw [Nat.add_mul] at this
  rw [← this]; congr 1; omega
theorem VRrow_take {l : List V} {sz : Nat} {look : Nat → Option Value} {o : Nat} (h : VRrow st g l sz look o) (k : Nat) : VRrow st g (l.take k) sz look o := by
  rw [VRrow_iff] at h ⊢
  intro i x hx
  rw [List.getElem?_take] at hx
  split at hx
  · exact h i x hx
  · cases hx

theorem szOk_cases {sz esz : Nat} {l : List V} (h : szOk sz esz l = true) : sz = esz ∨ l = [] := by
  unfold szOk at h
  split at h
  · rename_i hb; exact .inl (Nat.eq_of_beq_eq_true hb)
  · split at h
    · exact .inr rfl
    · cases h

theorem app_buf (s : AS) (d : Option Nat) (x : V) (ks : List Nat) (i : Nat) (ob : O) (rd : List Nat) : (s.app d ⟨x, ks, [(i, ob)], [], rd⟩).sg = (s.sg.map (O.kill ks)).set i ob := by
  simp [AS.app, killIfSg_eq, updSg, addSg, setSg_eq]

/-- an object's cells are steady from now on -/
def frz (st : St) (b : Nat) (c : Array Value) : St := fun b' o => if b' = b then c[o]? else st b' o
theorem OpOK.freeze {x : V} {rd : List Nat} {i : Nat} {b : Nat} {c : Array Value} {el : TypeId} {fr : Nat × Nat} (R : Rel E st g s a w) (hi : i < s.sg.length) (hb : (g i).blk = some b) (hG : E.G b)
    (hw : w.heap[b]? = some (.cells c el fr)) (v : Value) (hr : (execOp a.eval o).run C.P w = .ok (.value v) w) (hv : VR (frz st b c) g x s.sg.length v) :
    OpOK C E st g s a w o ⟨x, [i], [(i, .dead)], [], rd⟩ := by
  have hlen : (s.app o.dst ⟨x, [i], [(i, .dead)], [], rd⟩).sg.length = s.sg.length := by rw [app_buf]; simp
  have hmono : ∀ b' o' v', st b' o' = some v' → frz st b c b' o' = some v' := fun b' o' v' h => by
    simp only [frz]
    split
    · rename_i e; subst e; rw [← cell?_of hw]; exact R.wr.stw _ _ _ h
    · exact h
  have hg : upd g i (g i) = g := by funext j; simp only [upd]; split <;> simp_all
  have A : After E st g s.sg.length (frz st b c) g (s.app o.dst ⟨x, [i], [(i, .dead)], [], rd⟩).sg.length [i] := by
    rw [hlen]; exact ⟨hmono, fun _ _ _ => rfl, Nat.le_refl _⟩
  have W := R.wr.turn (st' := frz st b c) (w' := w) i hi [i] (g i) .dead
    ⟨rfl, rfl, rfl, Nat.le_refl _, fun _ _ _ => rfl, fun b' hb' => (R.wr.blk_lt hi hb').2, hmono, fun b' o' v' h => by
      simp only [frz] at h
      split at h
      · rename_i e; subst e; exact .inr ⟨hG, by rw [cell?_of hw]; exact h⟩
      · exact .inl h, fun b' o' v' hb' h => R.wr.stw _ _ _ h⟩
    (.inl rfl) (fun b' hb' => .inl hb') (fun j b' hj hne hb' o' v' h => by
      simp only [frz] at h
      split at h
      · rename_i e; subst e; exact absurd (R.wr.inj j i b' hj hi hb' hb) hne
      · exact h) (fun b' hb' => R.wr.blk_lt hi hb')
  rw [hg] at W
  refine OpOK.val v w _ g hr A ?_ (by rw [hlen]; exact hv)
  rw [app_buf]; exact W

/-- one object is turned -/
theorem OpOK.turn {x : V} {ks rd : List Nat} {i : Nat} {ob : O} (R : Rel E st g s a w) (hi : i < s.sg.length) (v : Value) (w' : World) (gi : Gh)
    (hr : (execOp a.eval o).run C.P w = .ok (.value v) w' ∨ ((execOp a.eval o).run C.P w = .ok .skip w' ∧ v = undef))
    (c : Chg E st st w w' (fun b => (g i).blk = some b)) (hks : gi = g i ∨ memN i ks = true) (hblk : ∀ b, gi.blk = some b → (g i).blk = some b ∨ b = w.heap.size)
    (ho : ObjR E st (upd g i gi) s.sg.length w' gi ob) (hv : VR st (upd g i gi) x s.sg.length v) : OpOK C E st g s a w o ⟨x, ks, [(i, ob)], [], rd⟩ := by
  have hlen : (s.app o.dst ⟨x, ks, [(i, ob)], [], rd⟩).sg.length = s.sg.length := by rw [app_buf]; simp
  have A : After E st g s.sg.length st (upd g i gi) (s.app o.dst ⟨x, ks, [(i, ob)], [], rd⟩).sg.length ks := by
    rw [hlen]
    refine ⟨fun _ _ _ h => h, fun j hj hm => ?_, Nat.le_refl _⟩
    by_cases e : j = i
    · subst e
      rw [upd_same]
      rcases hks with h | h
      · exact h
      · rw [hm] at h; cases h
    · exact upd_other e
  have W : WRel E st (upd g i gi) (s.app o.dst ⟨x, ks, [(i, ob)], [], rd⟩).sg w' := by
    rw [app_buf]
    exact R.wr.turn i hi ks gi ob c hks hblk (fun _ _ _ _ _ _ _ h => h) ho
  rcases hr with hr | ⟨hr, rfl⟩
  · exact OpOK.val v w' st _ hr A W (by rw [hlen]; exact hv)
  · exact OpOK.skip w' st _ hr A W (by rw [hlen]; exact hv)

theorem oneL_get {cs : List V} {i : Nat} {x : V} (h : oneL cs = true) (hx : cs[i]? = some x) : x.one = true := by
  induction cs generalizing i with
  | nil => simp at hx
  | cons c cs ih =>
    simp only [oneL, Bool.and_eq_true] at h
    cases i with
    | zero => simp at hx; subst hx; exact h.1
    | succ i => exact ih h.2 (by simpa using hx)
theorem pureL_get {cs : List V} {i : Nat} {x : V} (h : V.pureL cs = true) (hx : cs[i]? = some x) : x.pure = true := by
  induction cs generalizing i with
  | nil => simp at hx
  | cons c cs ih =>
    simp only [V.pureL, Bool.and_eq_true] at h
    cases i with
    | zero => simp at hx; subst hx; exact h.1
    | succ i => exact ih h.2 (by simpa using hx)
mutual
theorem pure_has {x : V} (h : x.pure = true) (i : Nat) : x.has i = false := by
  cases x <;> simp only [V.pure] at h <;> first
    | (simp [V.has]; done)
    | cases h
    | (simp only [V.has]; exact pureL_has h i)
    | (simp only [V.has]; exact pure_has h i)
    | (simp only [V.has, Bool.and_eq_true] at h ⊢; rw [pureL_has h.1 i, pureL_has h.2 i]; rfl)
theorem pureL_has {xs : List V} (h : V.pureL xs = true) (i : Nat) : V.hasL i xs = false := by
  cases xs with
  | nil => simp [V.hasL]
  | cons x xs =>
    simp only [V.pureL, Bool.and_eq_true] at h
    simp only [V.hasL]
    rw [pure_has h.1 i, pureL_has h.2 i]; rfl
end
theorem one_of {x : V} {n : Nat} {v : Value} (h : VR st g x n v) (ho : x.one = true) : v.oneCell' = true := by
  cases x <;> first
    | (simp [V.one] at ho; done)
    | (simp only [VR] at h
       first
         | (subst h; rfl)
         | (obtain ⟨rfl, _⟩ := h; rfl)
         | (obtain ⟨_, _, rfl, _⟩ := h; rfl)
         | (obtain ⟨_, _, _, rfl, _⟩ := h; rfl)
         | (obtain ⟨_, _, _, rfl⟩ := h; rfl)
         | (obtain ⟨_, rfl⟩ := h; rfl)
         | (obtain ⟨_, rfl, _⟩ := h; rfl))

theorem s_slice {t : TypeId} {x : Operand} {lo hi mx : Option Operand} (R : Rel E st g s a w) (hg : GlobOK C.gl st) (G : Good C) (ho : o.op = .slice t x lo hi mx) : Snd C E st g s a w o (evSlice C s t x lo hi mx) := by
  unfold evSlice
  have hx := ev_ok R hg x
  split
  · rename_i p hk he
    rw [he] at hx
    simp only [VR] at hx
    have h3 := ((G.ti t).of (by rw [hk]; simp)).1
    rw [hk] at h3
    refine All.bind (evRange_fn _ _ _ _ _) fun r hr => ?_
    obtain ⟨l, h, h4, h5, h6, h7⟩ := range_in R hg r (hr _ rfl)
    rw [cutK_eq, h7 p rfl]
    refine All.ret (OpOK.pure R (.string ⟨((p.take h).drop l).toArray⟩) w ?_ (SameW.refl w) (by simp only [VR]; exact ⟨trivial, by simp; omega⟩))
    have hsz : (⟨p.toArray⟩ : ByteArray).size = p.length := by show p.toArray.size = _; simp
    simp [execOp, ho, Instr.sliceAt, Instr.slice, run_underlying h3, hx.1, hsz, h6 false p.length (Nat.le_refl _), ba_extract p l h]
  · rename_i e clip sz l hk he
    rw [he] at hx
    simp only [VR] at hx
    obtain ⟨base, cap, hx, h1, h2, h8, h9⟩ := hx
    have h3 := ((G.ti t).of (by rw [hk]; simp)).1
    rw [hk] at h3
    split
    · exact All.fail
    rename_i hk2
    refine All.when fun hsz => All.bind (evRange_fn _ _ _ _ _) fun r hr => ?_
    obtain ⟨lo', hi', h4, h5, h6, h7⟩ := range_in R hg r (hr _ rfl)
    rw [cutK_eq, h7 l rfl]
    have hrun : (execOp a.eval o).run C.P w = .ok (.value (.slice (if cap = lo' then base else base.map (·.add (lo' * (C.ti e).size))) (hi' - lo') (cap - lo'))) w := by
      simp [execOp, ho, Instr.sliceAt, Instr.slice, run_underlying h3, hx, h6 true cap h1, run_size w (G.ti e) (fun h => hk2 h)]
    have hlen : ((l.take hi').drop lo').length = hi' - lo' := by simp; omega
    refine All.ret (OpOK.pure R _ w hrun (SameW.refl w) ?_)
    simp only [VR]
    refine ⟨_, _, by rw [hlen], by rw [hlen]; omega, by rw [hlen]; omega, by simp, ?_⟩
    rcases szOk_cases hsz with hsz | hsz
    · rcases h9 with h9 | ⟨b, of, h9, h10, h11⟩
      · subst h9; left; simp
      · by_cases hc : cap = lo'
        · left
          apply List.eq_nil_of_length_eq_zero
          rw [hlen]; omega
        · right
          refine ⟨b, of + lo' * (C.ti e).size, ?_, by rw [hsz] at h10; rw [hsz]; exact h10, ?_⟩
          · rw [if_neg hc, h9]; simp [Addr.add_lit]
          · rw [← hsz]
            exact VRrow_drop (VRrow_take h11 _) _
    · subst hsz; left; simp
  · rename_i e i hk he
    rw [he] at hx
    simp only [VR] at hx
    obtain ⟨hil, hx⟩ := hx
    have h3 := ((G.ti t).of (by rw [hk]; simp)).1
    rw [hk] at h3
    split
    · exact All.fail
    rename_i hk2
    split
    · rename_i sz pre l hOp hs
      split
      · rename_i k n hn
        have hh := ev_ok (C := C) R hg hOp
        rw [hn] at hh
        simp only [VR] at hh
        obtain ⟨hs1, _⟩ := getSg_eq hs (by simp)
        obtain ⟨q1, q2, q3, q4, q5, q6, q7⟩ := R.wr.ob i _ hs1
        refine All.when fun hsz => All.req fun h0 => All.ret ?_
        have hb : (Instr.sliceBounds true (g i).len (g i).cap none (some (a.eval hOp)) none).run C.P w = .ok (0, n.toNat, (g i).cap) w := by
          simp [Instr.sliceBounds, hh.1, run_sliceBound _ k n (g i).cap _ (by omega) (by omega)]
        refine OpOK.turn R hil (.slice (g i).base n.toNat (g i).cap) w { g i with len := n.toNat } (.inl ?_) ⟨rfl, rfl, rfl, Nat.le_refl _, fun _ _ _ => rfl, fun b hb => ?_, fun _ _ _ h => h, fun _ _ _ h => .inl h, fun b o v _ h => R.wr.stw _ _ _ h⟩
          (.inr (by simp [memN])) (fun b hb => .inl hb) ?_ ?_
        · simp [execOp, ho, Instr.sliceAt, Instr.slice, run_underlying h3, hx, hb, run_size w (G.ti e) (fun h => hk2 h)]
          intro _
          cases (g i).base <;> simp [Addr.add_zero']
        · exact (R.wr.blk_lt hil hb).2
        · refine ⟨q1, q2, by simp; omega, by simp; omega, by simp; omega, by simp; omega, ?_⟩
          rcases q7 with q7 | ⟨b', c, el, fr, k1, k2, k3, k4, k5, k6, k7, k8⟩
          · exact .inl q7
          · exact .inr ⟨b', c, el, fr, k1, k2, k3, k4, k5, VRrow_map (fun _ _ _ h => h) (fun _ _ h => h) (VRrow_take k6 _), k7, k8⟩
        · simp only [VR]; exact ⟨hil, by simp⟩
      · exact All.fail
    · exact All.fail
  · rename_i e i mo hk he
    rw [he] at hx
    simp only [VR] at hx
    obtain ⟨hil, hx⟩ := hx
    have h3 := ((G.ti t).of (by rw [hk]; simp)).1
    rw [hk] at h3
    split
    · exact All.fail
    rename_i hk2
    split
    · rename_i sz pre l hOp hs
      split
      · rename_i k n k' n' hn hn'
        have hh := ev_ok (C := C) R hg hOp
        rw [hn] at hh
        have hm := ev_ok (C := C) R hg mo
        rw [hn'] at hm
        simp only [VR] at hh hm
        obtain ⟨hs1, _⟩ := getSg_eq hs (by simp)
        obtain ⟨q1, q2, q3, q4, q5, q6, q7⟩ := R.wr.ob i _ hs1
        refine All.when fun hsz => All.req fun h0 => All.ret ?_
        have hb : (Instr.sliceBounds true (g i).len (g i).cap none (some (a.eval hOp)) (some (a.eval mo))).run C.P w = .ok (0, l.length, l.length) w := by
          simp [Instr.sliceBounds, hh.1, hm.1, run_sliceBound _ k' n' (g i).cap _ (by omega) (by omega)]
          rw [run_sliceBound _ k n n'.toNat _ (by omega) (by omega)]
          simp; omega
        have hr : (execOp a.eval o).run C.P w = .ok (.value (.slice (g i).base l.length l.length)) w := by
          simp [execOp, ho, Instr.sliceAt, Instr.slice, run_underlying h3, hx, hb, run_size w (G.ti e) (fun h => hk2 h)]
          intro _
          cases (g i).base <;> simp [Addr.add_zero']
        rcases q7 with q7 | ⟨b, c, el, fr, k1, k2, k3, k4, k5, k6, k7, k8⟩
        · have hl : l = [] := List.eq_nil_of_length_eq_zero (by omega)
          refine OpOK.turn R hil _ w (g i) (.inl hr) ⟨rfl, rfl, rfl, Nat.le_refl _, fun _ _ _ => rfl, fun b hb => ?_, fun _ _ _ h => h, fun _ _ _ h => .inl h, fun b o v _ h => R.wr.stw _ _ _ h⟩
            (.inl rfl) (fun b hb => .inl hb) ?_ ?_
          · rw [q7.2] at hb; cases hb
          · intro b hb; rw [q7.2] at hb; cases hb
          · simp only [VR]; exact ⟨_, _, rfl, Nat.le_refl _, q4, fun _ => rfl, .inl hl⟩
        · refine OpOK.freeze R hil k1 k3 k4 _ hr ?_
          simp only [VR]
          refine ⟨_, _, rfl, Nat.le_refl _, q4, fun _ => rfl, .inr ⟨b, 0, k2, q1, ?_⟩⟩
          refine VRrow_map (fun b' o' v' h => ?_) (fun o' v' h => ?_) k6
          · simp only [frz]
            split
            · rename_i e; subst e; rw [← cell?_of k4]; exact R.wr.stw _ _ _ h
            · exact h
          · simp only [frz, if_true]; exact h
      · exact All.fail
    · exact All.fail
  · rename_i m e i a' hk he
    rw [he] at hx
    simp only [VR] at hx
    obtain ⟨hil, b, hb, hx⟩ := hx
    have h3 := ((G.ti t).of (by rw [hk]; simp)).1
    rw [hk] at h3
    split
    · exact All.fail
    rename_i k hk2
    split
    · rename_i cs hs
      obtain ⟨hs1, _⟩ := getSg_eq hs (by simp)
      obtain ⟨b', c, el, fr, k1, k2, k3, k4, k5, k6⟩ := R.wr.ob i _ hs1
      rw [hb] at k1; cases k1
      refine All.when fun hsz => All.opt fun l hl => All.bind (evRange_fn _ _ _ _ _) fun r hr => ?_
      simp only [Bool.and_eq_true, Bool.not_eq_true'] at hsz
      obtain ⟨⟨⟨⟨z1, z2⟩, z3⟩, z4⟩, z5⟩ := hsz
      have z5 := Nat.le_of_ble_eq_true z5
      have z6 : 1048576 ≤ maxLen := by decide
      have z1 := Nat.eq_of_beq_eq_true z1
      obtain ⟨hl1, hl2⟩ := takeL_eq hl
      rw [dropL_eq] at hl1 hl2
      have hll : l.length = m := by rw [hl1]; simp at hl2 ⊢; omega
      obtain ⟨lo', hi', h4, h5, h6, h7⟩ := range_in R hg r (hr _ rfl)
      rw [cutK_eq, h7 l hll]
      refine All.ret (OpOK.freeze R hil hb k2 k3 (.slice (some ⟨b, a' + lo' * (if m = lo' then 0 else 1), none⟩) (hi' - lo') (m - lo')) ?_ ?_)
      · simp [execOp, ho, Instr.sliceAt, run_underlying h3, hx, Instr.sureAddr, h6 false m (Nat.le_refl _), run_size w (G.ti e) (fun h => hk2 h), z1]
        by_cases hml : m = lo'
        · simp [hml]
        · simp [hml, Addr.add_lit]
      · have hlen : ((l.take hi').drop lo').length = hi' - lo' := by simp; omega
        simp only [VR]
        refine ⟨_, _, by rw [hlen], by rw [hlen]; omega, by rw [hlen]; omega, by simp, ?_⟩
        by_cases hml : m = lo'
        · left; apply List.eq_nil_of_length_eq_zero; rw [hlen]; omega
        · right
          refine ⟨b, a' + lo', by simp [hml], by omega, ?_⟩
          rw [VRrow_iff]
          intro q y hy
          have hyq : cs[a' + lo' + q]? = some y := by
            rw [List.getElem?_drop, List.getElem?_take] at hy
            split at hy
            · rw [hl1, List.getElem?_take] at hy
              split at hy
              · rw [List.getElem?_drop] at hy; rw [← hy]; congr 1; omega
              · cases hy
            · cases hy
          obtain ⟨u, q1, q2⟩ := VRs_get k4 hyq
          have hyp : y.pure = true := pureL_get z3 hyq
          have hy1 : y.one = true := oneL_get z4 hyq
          have hu1 := one_of q2 hy1
          refine ⟨u, VR_map (fun b' o' v' h => by
            simp only [frz]
            split
            · rename_i e; subst e; rw [k6] at h; cases h
            · exact h) (fun j hj _ => by rw [pure_has hyp j] at hj; cases hj) q2, ?_, ?_, ?_⟩
          · cases u <;> first | rfl | (simp [Value.oneCell'] at hu1)
          · intro v hv
            cases u <;> simp [Value.oneCell'] at hu1 <;> simp [Value.cells] at hv <;> subst hv <;> rfl
          · intro j hj
            obtain rfl : j = 0 := by omega
            simp only [frz, if_true]
            have : c[a' + lo' + q]? = some u := by simpa using q1
            rw [Nat.mul_one, Nat.add_zero, this]
            cases u <;> first | rfl | (simp [Value.oneCell'] at hu1)
    · exact All.fail
  · exact All.fail

/-! conversions -/
theorem bl_length (s : List UInt8) : (bl s).length = s.length := by induction s with
  | nil => rfl
  | cons b s ih => simp [bl, ih]
theorem bl_get (s : List UInt8) (i : Nat) : (bl s)[i]? = (s[i]?).map bv := by induction s generalizing i with
  | nil => simp [bl]
  | cons b s ih => cases i <;> simp [bl, ih]
theorem bl_eq_map (s : List UInt8) : bl s = s.map bv := by induction s with
  | nil => rfl
  | cons b s ih => simp [bl, ih]

/-- the cells of bytes -/
theorem VRrow_bl {s : List UInt8} {look : Nat → Option Value} {o : Nat} (h : VRrow st g (bl s) 1 look o) (j : Nat) (hj : j < s.length) : look (o + j) = some (.int .u8 (s[j].toNat : Int)) := by
  have h1 : (bl s)[j]? = some (bv s[j]) := by rw [bl_get, List.getElem?_eq_getElem hj]; rfl
  obtain ⟨u, h2, h3, h4, h5⟩ := VRrow_iff.1 h j _ h1
  simp only [bv, VR] at h2
  obtain ⟨rfl, _⟩ := h2
  have := h5 0 (by omega)
  simp only [Nat.mul_one, Nat.add_zero] at this
  rw [this]; rfl

theorem VRrow_of_bytes {s : List UInt8} {look : Nat → Option Value} {o : Nat} (h : ∀ j (hj : j < s.length), look (o + j) = some (.int .u8 (s[j].toNat : Int))) : VRrow st g (bl s) 1 look o := by
  rw [VRrow_iff]
  intro i x hx
  rw [bl_get] at hx
  cases hs : s[i]? with
  | none => rw [hs] at hx; cases hx
  | some b =>
    rw [hs] at hx; cases hx
    have hi : i < s.length := by
      rcases Nat.lt_or_ge i s.length with h' | h'
      · exact h'
      · simp [List.getElem?_eq_none h'] at hs
    have hb : s[i] = b := by rw [List.getElem?_eq_getElem hi] at hs; simpa using hs
    refine ⟨.int .u8 (b.toNat : Int), VR_int (byte_in b), rfl, by simp [Value.cells, Value.oneCell'], fun j hj => ?_⟩
    have : j = 0 := by omega
    subst this
    simp only [Nat.mul_one, Nat.add_zero]
    rw [h i hi, hb]
    rfl

/-- what a slice or a text holds, read in any world that parts in nothing -/
structure Elems (E : Env) (st : St) (g : Ghost) (w : World) (v : Value) (sz : Nat) (l : List V) : Prop where
  len : (∃ base cap, v = .slice base l.length cap ∧ (l = [] ∨ ∃ b o, base = some ⟨b, o, none⟩ ∧ 0 < sz ∧ VRrow st g l sz (fun k => w.cell? ⟨b, k, none⟩) o)) ∨ (sz = 1 ∧ ∃ s, l = bl s ∧ v = .string ⟨s.toArray⟩)
  max : l.length ≤ maxLen

theorem elems_in {x : Operand} (R : Rel E st g s a w) (hg : GlobOK C.gl st) : All (fun r => Elems E st g w (a.eval x) r.1 r.2.1 ∧ ∀ i, memN i r.2.2 = false → ∀ j, s.ev C x = .buf j → j ≠ i) (elems s (s.ev C x)) := by
  have hx := ev_ok (C := C) R hg x
  unfold elems
  split
  · rename_i clip sz l he
    rw [he] at hx
    simp only [VR] at hx
    obtain ⟨base, cap, hx, h1, h2, h8, h9⟩ := hx
    refine All.ret ⟨⟨.inl ⟨base, cap, hx, ?_⟩, h2⟩, fun i _ j hj => by rw [he] at hj; cases hj⟩
    rcases h9 with h9 | ⟨b, o, h9, h10, h11⟩
    · exact .inl h9
    · exact .inr ⟨b, o, h9, h10, VRrow_map (fun _ _ _ h => h) (fun k v hk => R.wr.stw _ _ _ hk) h11⟩
  · rename_i p he
    rw [he] at hx
    simp only [VR] at hx
    refine All.ret ⟨⟨.inr ⟨rfl, p, rfl, hx.1⟩, ?_⟩, fun i _ j hj => by rw [he] at hj; cases hj⟩
    show (bl p).length ≤ maxLen
    rw [bl_length]; exact hx.2
  · rename_i i he
    rw [he] at hx
    simp only [VR] at hx
    obtain ⟨hil, hx⟩ := hx
    split
    · rename_i sz pre l hs
      obtain ⟨hs1, _⟩ := getSg_eq hs (by simp)
      obtain ⟨q1, q2, q3, q4, q5, q6, q7⟩ := R.wr.ob i _ hs1
      refine All.ret ⟨⟨.inl ⟨(g i).base, (g i).cap, by rw [hx, q5], ?_⟩, q4⟩, fun k hk j hj => ?_⟩
      · rcases q7 with ⟨q7, _⟩ | ⟨b', c, el, fr, k1, k2, k3, k4, k5, k6, k7, k8⟩
        · left; apply List.eq_nil_of_length_eq_zero; show l.length = 0; omega
        · exact .inr ⟨b', 0, k2, q1, VRrow_map (fun _ _ _ h => h) (fun k v hk => by rw [cell?_of k4]; exact hk) k6⟩
      · rw [he] at hj; cases hj
        intro e; subst e
        simp [memN, Nat.beq_refl] at hk
    · exact All.fail
  · exact All.fail

theorem s_convert {src dst : TypeId} {x : Operand} (R : Rel E st g s a w) (hg : GlobOK C.gl st) (G : Good C) (ho : o.op = .convert src dst x) : Snd C E st g s a w o (evConv C s src dst (s.ev C x)) := by
  have hx := ev_ok (C := C) R hg x
  have hel := elems_in (C := C) (x := x) R hg
  unfold evConv
  split
  · exact All.fail
  · rename_i k d n hs he hd
    rw [he] at hx
    simp only [VR] at hx
    obtain ⟨d0, hd0⟩ : ∃ d, C.P.underlying src = some d := by
      have h3 := ((G.ti src).of (fun h => hd h)).1
      cases hk' : (C.ti src).k <;> rw [hk'] at h3 <;> simp only [TK.ok] at h3
      case struct fs => obtain ⟨f, h3, _⟩ := h3; exact ⟨_, h3⟩
      case iface => obtain ⟨p, h3⟩ := h3; exact ⟨_, h3⟩
      case func => obtain ⟨p, q, r, h3⟩ := h3; exact ⟨_, h3⟩
      all_goals exact ⟨_, h3⟩
    have h3 := ((G.ti dst).of (by rw [hs]; simp)).1
    rw [hs] at h3
    refine All.ret (OpOK.pure R (.int k (k.wrap n)) w ?_ (SameW.refl w) (VR_int (wrap_in _ _)))
    simp [execOp, ho, hx.1, convert, run_underlying hd0, run_underlying h3, Conv.intToInt]
  · rename_i p hs hd he
    rw [he] at hx
    have hx' := hx
    simp only [VR] at hx
    have h3 := ((G.ti src).of (by rw [hs]; simp)).1
    rw [hs] at h3
    have h4 := ((G.ti dst).of (by rw [hd]; simp)).1
    rw [hd] at h4
    refine All.ret (OpOK.pure R (a.eval x) w ?_ (SameW.refl w) hx')
    simp [execOp, ho, hx.1, convert, run_underlying h3, run_underlying h4]
  · rename_i e p hs hd he
    rw [he] at hx
    simp only [VR] at hx
    have h3 := ((G.ti src).of (by rw [hs]; simp)).1
    rw [hs] at h3
    have h4 := ((G.ti dst).of (by rw [hd]; simp)).1
    rw [hd] at h4
    split
    · rename_i hk
      have h5 := ((G.ti e).of (by rw [hk]; simp)).1
      rw [hk] at h5
      have hsz : (⟨p.toArray⟩ : ByteArray).size = p.length := by show p.toArray.size = _; simp
      have hr := Go.run_bytes_of_string w src dst e ⟨p.toArray⟩ h3 h4 h5
      rw [hsz] at hr
      refine All.ret ?_
      have hW := (R.wr.same (w' := w.drew) ⟨rfl, rfl, rfl, rfl⟩).allocSt (bytesRow ⟨p.toArray⟩ (grownCap w p.length 0 e)) e
        ((bytesRow ⟨p.toArray⟩ (grownCap w p.length 0 e)).size, (bytesRow ⟨p.toArray⟩ (grownCap w p.length 0 e)).size + 1) p.length
      refine OpOK.val _ _ _ g (by simp only [execOp, ho, hx.1]; rw [Sem.run_bind, hr]; rfl) ⟨addSt_mono R.wr.st_new, fun _ _ _ => rfl, by rw [app_pe]; exact Nat.le_refl _⟩ (by rw [app_pe]; exact hW) ?_
      simp only [VR, pe]
      refine ⟨_, _, by rw [bl_length], by rw [bl_length]; exact grownCap_ge w p.length 0 e, by rw [bl_length]; exact hx.2, by simp, .inr ⟨w.heap.size, 0, rfl, by omega, VRrow_of_bytes fun j hj => ?_⟩⟩
      simp only [addSt, if_true, Nat.zero_add]
      rw [if_pos hj]
      simp only [bytesRow]
      rw [Array.getElem?_append_left (by simpa using hj)]
      simp [hj]
    · exact All.fail
  · rename_i e hs hd
    split
    · exact All.fail
    · rename_i hk hns
      have h5 := ((G.ti e).of (by rw [hk]; simp)).1
      rw [hk] at h5
      have h3 := ((G.ti src).of (by rw [hs]; simp)).1
      rw [hs] at h3
      have h4 := ((G.ti dst).of (by rw [hd]; simp)).1
      rw [hd] at h4
      refine All.bind (elems_fn _ _) fun r hr => ?_
      obtain ⟨sz, l, rd⟩ := r
      obtain ⟨⟨hlen, hmax⟩, _⟩ := hel _ (hr _ rfl)
      refine All.when fun hsz => All.ex fun p => All.req fun hl => All.ret ?_
      simp only at hlen hmax
      have hlp : l.length = p.length := by rw [hl, bl_length]
      rcases hlen with ⟨base, cap, hv, hrow⟩ | ⟨_, q, hq, hv⟩
      · refine OpOK.pure R (.string ⟨p.toArray⟩) w ?_ (SameW.refl w) (by simp only [VR]; exact ⟨trivial, by omega⟩)
        have hrun : (convert src dst (.slice base p.length cap)).run C.P w = .ok (.string ⟨p.toArray⟩) w := by
          rcases hrow with hrow | ⟨b, of, hrow, h0, hrow2⟩
          · have hp : p = [] := List.eq_nil_of_length_eq_zero (by rw [← hlp, hrow]; rfl)
            subst hp
            cases base with
            | none =>
              rw [run_convert_bytes_string w src dst e none _ cap h3 h5 h4]
              rfl
            | some ad => exact run_convert_bytes_back w src dst e ad cap [] h3 h5 h4 (fun j hj => absurd hj (Nat.not_lt_zero _))
          · subst hrow
            refine run_convert_bytes_back w src dst e _ cap p h3 h5 h4 (fun j hj => ?_)
            rcases szOk_cases hsz with hsz | hsz
            · subst hsz; subst hl
              rw [Addr.add_lit]
              exact VRrow_bl hrow2 j hj
            · rw [hsz] at hlp; simp at hlp; omega
        simp only [execOp, ho]
        rw [hv, hlp, Sem.run_bind, hrun]; rfl
      · exfalso
        have := hr (fun _ => True) trivial
        unfold elems at this
        cases he : s.ev C x <;> rw [he] at hx this <;> first
          | exact hns _ he
          | exact this.elim
          | skip
        · simp only [VR] at hx
          obtain ⟨_, _, hx, _⟩ := hx
          rw [hv] at hx; cases hx
        · simp only [VR] at hx
          rw [hv] at hx; cases hx.2
    · exact All.fail
  · exact All.fail
end
end Go.VG
