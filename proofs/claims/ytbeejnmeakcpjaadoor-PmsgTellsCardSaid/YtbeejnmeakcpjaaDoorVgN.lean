/-
  Each symbolic operation tells what the operation does: copies, lengths, walks over texts; all operations but calls of functions.
-/
import Derived.Test.YtbeejnmeakcpjaaDoorVgMA
set_option linter.unusedSimpArgs false
set_option linter.unusedVariables false
namespace Go.VG
open Go

section
variable {C : Ctx} {E : Env} {st : St} {g : Ghost} {s : AS} {a : Act} {w : World} {o : Oper} {e : Ef}

theorem len_in {n m : Nat} (h : n ≤ maxLen) : VR st g (.int .i64 (n : Int)) m (goInt n) := by
  refine VR_int ⟨?_, ?_⟩
  · simp [IntKind.min, IntKind.signed, IntKind.bits]
  · rw [IntKind.max_i64]; unfold maxLen at h; omega

theorem s_copy {t t2 e : TypeId} {x y : Operand} {i : Nat} {l : List V} {sz : Nat} {ys : List V} {rd : List Nat} {args : Array Operand} (R : Rel E st g s a w) (hg : GlobOK C.gl st) (G : Good C) (hargs : args.toList = [x, y])
    (ho : o.op = .call { callee := .builtin .copy, args := args, argTypes := #[t, t2] }) (hk : (C.ti t).k = .slice e) (hk2 : (C.ti e).k ≠ .other) (hx0 : s.ev C x = .buf i) (hs : getSg s.sg i = .buf (C.ti e).size 0 l)
    (hy : Elems E st g w (a.eval y) sz ys) (hsz : szOk sz (C.ti e).size ys = true) :
    OpOK C E st g s a w o ⟨.int .i64 (min ys.length l.length : Nat), [], [(i, .buf (C.ti e).size 0 (ys.take l.length ++ l.drop ys.length))], [], i :: rd⟩ := by
  have hx := ev_ok (C := C) R hg x
  rw [hx0] at hx
  simp only [VR] at hx
  obtain ⟨hil, hx⟩ := hx
  obtain ⟨hs1, _⟩ := getSg_eq hs (by simp)
  obtain ⟨q1, q2, q3, q4, q5, q6, q7⟩ := R.wr.ob i _ hs1
  have ht : C.P.underlying t = some (.slice e) := by
    have h3 := ((G.ti t).of (by rw [hk]; simp)).1
    rw [hk] at h3; exact h3
  obtain ⟨cs, c1, c2, c3, c4⟩ := hy.cells hsz q1
  have hargs' : args = #[x, y] := by cases args; simp_all
  subst hargs'
  have hn : min ys.length l.length ≤ ys.length := Nat.min_le_left _ _
  have hn2 : min ys.length l.length ≤ l.length := Nat.min_le_right _ _
  have hnm : min ys.length l.length ≤ maxLen := Nat.le_trans hn2 q4
  have hl1 : (ys.take l.length ++ l.drop ys.length).length = l.length := by simp; omega
  have hc := (c4 C.P w rfl).1
  have hc2 := (c4 C.P w rfl).2 _ hn
  have hmin : Nat.min ys.length l.length = min ys.length l.length := rfl
  generalize hN : min ys.length l.length = N at *
  have hV : VR st (upd g i (g i)) (.int .i64 (N : Nat)) s.sg.length (goInt N) := len_in hnm
  rcases q7 with ⟨q7, q8⟩ | ⟨b', c, el, fr, k1, k2, k3, k4, k5, k6, k7, k8⟩
  · have hl0 : l = [] := List.eq_nil_of_length_eq_zero (by omega)
    subst hl0
    have hN0 : N = 0 := by simp only [List.length_nil] at hn2; omega
    subst hN0
    have hr : (Builtin.copy_ #[t, t2] o.type #[a.eval x, a.eval y]).run C.P w = .ok (goInt 0) w := by
      unfold Builtin.copy_
      simp only [List.getElem?_toArray, List.getElem?_cons_zero, List.getElem?_cons_succ, run_underlying ht, Sem.run_bind, Sem.run_pure, Result.andThen_ok, hx, hc, q5, run_size w (G.ti e) hk2, hmin, hc2]
      cases (g i).base <;> simp only [Nat.zero_mul, List.take_zero] <;> rfl
    refine OpOK.turn R hil _ w (g i) (.inl (by simp only [execOp, ho, resolve, invoke, builtin]; simp [hr])) ⟨rfl, rfl, rfl, Nat.le_refl _, fun _ _ _ => rfl, fun b hb => (R.wr.blk_lt hil hb).2, fun _ _ _ h => h, fun _ _ _ h => .inl h, fun b o v _ h => R.wr.stw _ _ _ h⟩
      (.inl rfl) (fun b hb => .inl hb) ?_ hV
    exact ⟨q1, q2, by simp, by simp, by simpa using q5, by simp, .inl ⟨q7, q8⟩⟩
  · have hin : N * (C.ti e).size ≤ l.length * (C.ti e).size := Nat.mul_le_mul_right _ hn2
    have hin2 : l.length * (C.ti e).size ≤ c.size := by rw [k5]; exact Nat.mul_le_mul_right _ q6
    have hin3 : N * (C.ti e).size ≤ cs.length := by rw [c1]; exact Nat.mul_le_mul_right _ hn
    have htl : (cs.take (N * (C.ti e).size)).length = N * (C.ti e).size := by simp; omega
    have hlen : cs.take (N * (C.ti e).size) = [] ∨ 0 + (cs.take (N * (C.ti e).size)).length ≤ c.toList.length := by right; rw [htl]; simp; omega
    have hst := run_storeCells_blk (P := C.P) (b := b') (o := 0) (cs.take (N * (C.ti e).size)) 0 c w k4 k7 (by simpa using hlen) (fun v hv => c2 v (List.mem_of_mem_take hv))
    rw [Nat.add_zero] at hst
    have hcell := over_get (xs := c.toList) (ys := cs.take (N * (C.ti e).size)) (o := 0) hlen
    have hr : (Builtin.copy_ #[t, t2] o.type #[a.eval x, a.eval y]).run C.P w = .ok (goInt N) (putB w b' (.cells (over c.toList 0 (cs.take (N * (C.ti e).size))).toArray el fr)) := by
      unfold Builtin.copy_
      simp only [List.getElem?_toArray, List.getElem?_cons_zero, List.getElem?_cons_succ, run_underlying ht, Sem.run_bind, Sem.run_pure, Result.andThen_ok, hx, hc, q5, run_size w (G.ti e) hk2, hmin, hc2, k2, hst]
    have hug : upd g i (g i) = g := by funext j; by_cases e : j = i <;> simp [upd, e]
    refine OpOK.turn R hil _ _ (g i) (.inl (by simp only [execOp, ho, resolve, invoke, builtin]; simp [hr]; rfl)) (Chg.putB k3 _ (fun b'' => by rw [k1]; simp [eq_comm]) (fun k v hv => ?_))
      (.inl rfl) (fun b hb => .inl hb) ?_ hV
    · have h9 := k8 k v hv
      omega
    · rw [hug]
      refine ⟨q1, q2, by simp, by rw [hl1]; exact q4, by rw [hl1]; exact q5, by rw [hl1]; exact q6, .inr ⟨b', _, el, fr, k1, k2, k3, putB_same k4, ?_, ?_, ?_, k8⟩⟩
      · simp only [List.size_toArray, over_length hlen, Array.length_toList]; exact k5
      · have hrow1 := c3 (fun k => cs[k]?) 0 (fun k u hu => by rw [Nat.zero_add]; exact hu)
        rw [VRrow_iff] at hrow1 k6 ⊢
        intro j z hz
        have hmul : j < N → j * (C.ti e).size + (C.ti e).size ≤ N * (C.ti e).size := fun h => by
          have := Nat.mul_le_mul_right (C.ti e).size (show j + 1 ≤ N by omega)
          rw [Nat.add_mul, Nat.one_mul] at this; exact this
        rcases Nat.lt_or_ge j N with hj | hj
        · rw [List.getElem?_append_left (by simp; omega), List.getElem?_take, if_pos (by omega)] at hz
          obtain ⟨u, u1, u2, u3, u4⟩ := hrow1 j z hz
          refine ⟨u, u1, u2, u3, fun k hk => ?_⟩
          have := hmul hj
          rw [List.getElem?_toArray, hcell, if_pos (by rw [htl]; omega), List.getElem?_take, if_pos (by omega), ← u4 k hk]
          congr 1
        · have hz' : l[j]? = some z := by
            rw [List.getElem?_append_right (by simp; omega), List.getElem?_drop] at hz
            rcases Nat.lt_or_ge l.length ys.length with hll | hll
            · rw [List.getElem?_eq_none (by omega)] at hz; cases hz
            · rw [← hz, List.length_take]; congr 1; omega
          obtain ⟨u, u1, u2, u3, u4⟩ := k6 j z hz'
          refine ⟨u, u1, u2, u3, fun k hk => ?_⟩
          have : N * (C.ti e).size ≤ j * (C.ti e).size := Nat.mul_le_mul_right _ hj
          have h5 := u4 k hk
          rw [List.getElem?_toArray, hcell, if_neg (by rw [htl]; omega), ← h5]
          simp
      · refine ⟨k7.1, fun k hk => ?_⟩
        refine k7.2 k ?_
        simp only [List.size_toArray, over_length hlen, Array.length_toList] at hk
        exact hk

theorem evs_two {x y : V} {l : List Operand} (h : s.evs C l = [x, y]) : ∃ p q, l = [p, q] ∧ x = s.ev C p ∧ y = s.ev C q := by
  match l, h with
  | [p, q], h => simp only [AS.evs, List.cons.injEq, and_true] at h; exact ⟨p, q, rfl, h.1.symm, h.2.symm⟩
  | [], h => simp [AS.evs] at h
  | [_], h => simp [AS.evs] at h
  | _ :: _ :: _ :: _, h => simp [AS.evs] at h
theorem evs_one {x : V} {l : List Operand} (h : s.evs C l = [x]) : ∃ p, l = [p] ∧ x = s.ev C p := by
  match l, h with
  | [p], h => simp only [AS.evs, List.cons.injEq, and_true] at h; exact ⟨p, rfl, h.symm⟩
  | [], h => simp [AS.evs] at h
  | _ :: _ :: _, h => simp [AS.evs] at h

theorem s_builtin {b : Builtin} {args : Array Operand} {ts : Array TypeId} (R : Rel E st g s a w) (hg : GlobOK C.gl st) (G : Good C) (ho : o.op = .call { callee := .builtin b, args := args, argTypes := ts }) :
    Snd C E st g s a w o (evBuiltin C s b ts.toList (s.evs C args.toList)) := by
  generalize hts : ts.toList = tl
  generalize hxs : s.evs C args.toList = xs
  have hts' : ts = tl.toArray := by rw [← hts]
  subst hts'
  have hbi : ∀ v : Value, (builtin b tl.toArray o.type (args.map fun | .const _ => true | _ => false) (args.toList.map a.eval).toArray).run C.P w = .ok (.value v) w → (execOp a.eval o).run C.P w = .ok (.value v) w := fun v h => by
    have he : args.map a.eval = (args.toList.map a.eval).toArray := by cases args; simp
    simp only [execOp, ho, resolve, invoke, Sem.run_bind, Sem.run_pure, Result.andThen_ok, he]
    exact h
  unfold evBuiltin
  split
  · -- len
    rename_i t x
    obtain ⟨p, hp, rfl⟩ := evs_one hxs
    have hx := ev_ok (C := C) R hg p
    rw [hp] at hbi
    split
    · rename_i n e hk
      have h3 := ((G.ti t).of (by rw [hk]; simp)).1
      rw [hk] at h3
      refine All.when fun hn => All.ret (OpOK.pure R (goInt n) w (hbi _ ?_) (SameW.refl w) (len_in (Nat.le_trans (Nat.le_of_ble_eq_true hn) lim_maxLen)))
      simp [builtin, Builtin.len_, run_underlying h3]
    · rename_i hk
      have h3 := ((G.ti t).of (by rw [hk]; simp)).1
      rw [hk] at h3
      split
      · rename_i p' he
        rw [he] at hx
        simp only [VR] at hx
        refine All.ret (OpOK.pure R (goInt p'.length) w (hbi _ ?_) (SameW.refl w) (len_in hx.2))
        have hpsz : (⟨p'.toArray⟩ : ByteArray).size = p'.length := by show p'.toArray.size = _; simp
        simp [builtin, Builtin.len_, run_underlying h3, hx.1, hpsz]
      · exact All.fail
    · rename_i e hk
      have h3 := ((G.ti t).of (by rw [hk]; simp)).1
      rw [hk] at h3
      split
      · rename_i c z l he
        rw [he] at hx
        simp only [VR] at hx
        obtain ⟨base, cap, hx, h1, h2, _⟩ := hx
        refine All.ret (OpOK.pure R (goInt l.length) w (hbi _ ?_) (SameW.refl w) (len_in h2))
        simp [builtin, Builtin.len_, run_underlying h3, hx]
      · rename_i i he
        rw [he] at hx
        simp only [VR] at hx
        split
        · rename_i sz pre l hs
          obtain ⟨hs1, _⟩ := getSg_eq hs (by simp)
          obtain ⟨q1, q2, q3, q4, q5, q6, q7⟩ := R.wr.ob i _ hs1
          refine All.ret (OpOK.pure R (goInt l.length) w (hbi _ ?_) (SameW.refl w) (len_in q4))
          simp [builtin, Builtin.len_, run_underlying h3, hx, q5]
        · exact All.fail
      · exact All.fail
    · exact All.fail
  · -- append
    rename_i t t2 x y
    obtain ⟨p, q, hp, rfl, rfl⟩ := evs_two hxs
    split
    · exact All.fail
    · exact All.fail
    · rename_i e hk hk2 hk3
      split
      · exact All.fail
      · rename_i hk4
        refine All.when fun hw => ?_
        simp only [Bool.and_eq_true, Bool.not_eq_true'] at hw
        obtain ⟨⟨⟨hw1, hw2⟩, hw3⟩, hw4⟩ := hw
        refine All.bind (elems_fn _ _) fun r hr => ?_
        have hr := elems_in (C := C) (x := q) R hg r (hr _ rfl)
        obtain ⟨sz, ys, rd⟩ := r
        refine All.when fun hsz => ?_
        have h3 := ((G.ti t).of (by rw [hk]; simp)).1
        rw [hk] at h3
        exact s_append R hg G hp ho h3 (notInt G (fun k h => hk2 k h) (fun h => hk3 h)) (fun h => hk4 h) (Nat.le_of_ble_eq_true hw1) (Nat.le_of_ble_eq_true hw2) hr.1 hsz hw3 (Nat.eq_of_beq_eq_true hw4)
    · exact All.fail
  · -- copy
    rename_i t t2 x y
    obtain ⟨p, q, hp, rfl, rfl⟩ := evs_two hxs
    split
    · rename_i e i hk he
      split
      · exact All.fail
      · rename_i hk4
        split
        · rename_i sz0 l hs
          refine All.bind (elems_fn _ _) fun r hr => ?_
          have hr := elems_in (C := C) (x := q) R hg r (hr _ rfl)
          obtain ⟨sz, ys, rd⟩ := r
          refine All.when fun hw => All.ret ?_
          simp only [Bool.and_eq_true] at hw
          have h1 := Nat.eq_of_beq_eq_true hw.1.2
          subst h1
          exact s_copy R hg G hp ho hk (fun h => hk4 h) he hs hr.1 hw.1.1
        · exact All.fail
    · exact All.fail
  · -- delete
    rename_i t tl' m x
    obtain ⟨p, q, hp, rfl, rfl⟩ := evs_two hxs
    rw [hp] at hbi
    refine delete_all (ats := (t :: tl').toArray) (ty := o.type) R G (ev_ok (C := C) R hg p) (ev_ok (C := C) R hg q) (by simp) fun w' hw' => ?_
    have := ho
    simp only [execOp, ho, resolve, invoke, Sem.run_bind, Sem.run_pure, Result.andThen_ok]
    have he : args.map a.eval = #[a.eval p, a.eval q] := by
      have : args = #[p, q] := by apply Array.ext'; simpa using hp
      rw [this]; simp
    rw [he]
    simp only [builtin, Sem.run_bind, hw', Result.andThen_ok]
    rfl
  · rename_i k x k' y
    obtain ⟨p, q, hp, hx, hy⟩ := evs_two hxs
    have h1 := ev_ok (C := C) R hg p
    have h2 := ev_ok (C := C) R hg q
    rw [← hx] at h1; rw [← hy] at h2
    simp only [VR] at h1 h2
    refine All.when fun hk => All.ret ?_
    have hk := keq_iff.1 hk
    subst hk
    rw [hp] at hbi
    refine OpOK.pure R (.int k (if y > x then y else x)) w (hbi _ ?_) (SameW.refl w) (VR_int (by split <;> simp [h1, h2]))
    simp [builtin, Builtin.max_, Builtin.max2, h1.1, h2.1]
  · rename_i k x k' y
    obtain ⟨p, q, hp, hx, hy⟩ := evs_two hxs
    have h1 := ev_ok (C := C) R hg p
    have h2 := ev_ok (C := C) R hg q
    rw [← hx] at h1; rw [← hy] at h2
    simp only [VR] at h1 h2
    refine All.when fun hk => All.ret ?_
    have hk := keq_iff.1 hk
    subst hk
    rw [hp] at hbi
    refine OpOK.pure R (.int k (if y < x then y else x)) w (hbi _ ?_) (SameW.refl w) (VR_int (by split <;> simp [h1, h2]))
    simp [builtin, Builtin.min_, Builtin.min2, h1.1, h2.1]
  · exact All.fail

theorem s_iter {t : TypeId} {x : Operand} (R : Rel E st g s a w) (hg : GlobOK C.gl st) (G : Good C) (ho : o.op = .range t x) : Snd C E st g s a w o (evIter C s t x) := by
  unfold evIter
  have hx := ev_ok (C := C) R hg x
  split
  · rename_i p hk he
    rw [he] at hx
    simp only [VR] at hx
    have h3 := ((G.ti t).of (by rw [hk]; simp)).1
    rw [hk] at h3
    rw [forceN_eq]
    refine All.ret ?_
    refine OpOK.new R (.pointer (some ⟨w.heap.size, 0, none⟩)) w (SameW.refl w) ⟨some w.heap.size, none, 0, 0, 0⟩ (.stringIter ⟨p.toArray⟩ 0) ?_ (by simp) ?_ ?_
    · simp only [execOp, ho, hx.1]
      rw [Sem.run_bind, run_range_string w t _ h3]
      rfl
    · exact ⟨hx.2, w.heap.size, rfl, R.wr.gnew _ R.wr.size, heap_alloc_new⟩
    · simp only [VR, upd_same]
      exact ⟨by omega, w.heap.size, rfl, rfl⟩
  · exact s_iterM R hg G ho
  · exact All.fail

theorem s_next {x : Operand} {b : Bool} (R : Rel E st g s a w) (hg : GlobOK C.gl st) (ho : o.op = .next x b) : Snd C E st g s a w o (evNext C s x b) := by
  unfold evNext
  have hx := ev_ok (C := C) R hg x
  split
  · rename_i i he
    rw [he] at hx
    simp only [VR] at hx
    obtain ⟨hil, b, hb, hx⟩ := hx
    split
    · rename_i p pos hs
      obtain ⟨hs1, _⟩ := getSg_eq hs (by simp)
      obtain ⟨q1, b', q2, q3, q4⟩ := R.wr.ob i _ hs1
      rw [hb] at q2; cases q2
      have hpsz : (⟨p.toArray⟩ : ByteArray).size = p.length := by show p.toArray.size = _; simp
      refine All.brn (fun hlt => ?_) (fun hge => ?_)
      · have hlt : pos < p.length := by simpa using hlt
        refine All.opt fun c hc => All.req fun ha => All.ret ?_
        have hcv : p[pos] = c := by rw [List.getElem?_eq_getElem hlt] at hc; simpa using hc
        have hlt' : pos < (⟨p.toArray⟩ : ByteArray).size := by rw [hpsz]; exact hlt
        have hget : (⟨p.toArray⟩ : ByteArray)[pos]'hlt' = c := by rw [← hcv]; rfl
        have hdec := decode_ascii ⟨p.toArray⟩ pos hlt' (by rw [hget]; exact ha)
        rw [hget] at hdec
        have hug : upd g i (g i) = g := by funext j; by_cases e : j = i <;> simp [upd, e]
        refine OpOK.turn R hil (.tuple #[.bool true, goInt pos, .int .i32 c.toNat]) (putB w b (.stringIter ⟨p.toArray⟩ (pos + 1))) (g i) (.inl ?_)
          (Chg.putB q3 _ (fun b'' => by rw [hb]; simp [eq_comm]) (fun k v hv => ?_)) (.inl rfl) (fun b hb => .inl hb) ?_ ?_
        · simp only [execOp, ho, hx, Instr.next, getObj, setObj, Sem.run_bind, Sem.run, q4, Result.andThen, hlt', if_true, hdec]
          rfl
        · have := R.wr.stw _ _ _ hv
          simp only [World.cell?, q4] at this
          cases this
        · exact ⟨q1, b, hb, q3, putB_same q4⟩
        · simp only [VR]
          refine ⟨_, rfl, VRs_cons (by simp [VR]) (VRs_cons (len_in (n := pos) (by omega)) (VRs_cons ?_ VRs_nil))⟩
          have := byte_in c
          refine VR_int ⟨?_, ?_⟩ <;> simp [IntKind.min, IntKind.max, IntKind.signed, IntKind.bits] <;> omega
      · have hge : ¬ pos < (⟨p.toArray⟩ : ByteArray).size := by rw [hpsz]; simpa using hge
        refine All.ret (OpOK.pure R (.tuple #[.bool false]) w ?_ (SameW.refl w) ?_)
        · simp only [execOp, ho, hx, Instr.next, getObj, setObj, Sem.run_bind, Sem.run, q4, Result.andThen, hge, if_false]
          rfl
        · simp only [VR]
          exact ⟨_, rfl, VRs_cons (by simp [VR]) VRs_nil⟩
    · exact All.fail
  · exact All.fail
end
end Go.VG
