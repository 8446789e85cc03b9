/-
  Each symbolic operation tells what the operation does: new slices, lengths, appends, copies.
-/
import Derived.Test.YtbeejnmeakcpjaaDoorVgL
set_option linter.unusedSimpArgs false
set_option linter.unusedVariables false
namespace Go.VG
open Go

theorem lim_maxLen : 4294967296 ≤ maxLen := by unfold maxLen; omega
theorem grownCap_maxLen (w : World) (need old : Nat) (e : TypeId) (h : need ≤ maxLen) : grownCap w need old e ≤ maxLen := grownCap_le_maxLen w need old e h

section
variable {C : Ctx} {E : Env} {st : St} {g : Ghost} {s : AS} {a : Act} {w : World} {o : Oper} {e : Ef}

/-- a new object that is a slice's -/
theorem OpOK.newBuf {sz : Nat} {l : List V} {rd : List Nat} (R : Rel E st g s a w) (w1 : World) (hw : SameW w w1) (c : Array Value) (el : TypeId) (cap : Nat) (h0 : 0 < sz) (hl : l.length ≤ cap) (hm : l.length ≤ maxLen)
    (hr : (execOp a.eval o).run C.P w = .ok (.value (.slice (some ⟨w1.heap.size, 0, none⟩) l.length cap)) (w1.alloc (.cells c el))) (hc : c.size = cap * sz) (hrow : VRrow st g l sz (fun k => c[k]?) 0) :
    OpOK C E st g s a w o ⟨.buf s.sg.length, [], [], [.buf sz 0 l], rd⟩ := by
  have hW := R.wr.same hw
  refine OpOK.new R _ w1 hw ⟨some w1.heap.size, some ⟨w1.heap.size, 0, none⟩, l.length, cap, sz⟩ _ hr (by simp) ?_ ?_
  · refine ⟨h0, rfl, by simp, hm, rfl, hl, .inr ⟨w1.heap.size, c, el, (0, 0), rfl, rfl, hW.gnew _ hW.size, heap_alloc_new, hc, ?_, ⟨by simp, by intro o _; simp⟩, fun k v hv => ?_⟩⟩
    · exact VRrow_map (fun _ _ _ h => h) (fun _ _ h => h) hrow
    · rw [hW.st_new k] at hv; cases hv
  · simp only [VR, upd_same]
    exact ⟨by omega, trivial⟩

theorem s_makeSlice {t : TypeId} {x y : Operand} (R : Rel E st g s a w) (hg : GlobOK C.gl st) (G : Good C) (ho : o.op = .makeSlice t x y) : Snd C E st g s a w o (evMakeSlice C s t x y) := by
  unfold evMakeSlice
  have hx := ev_ok (C := C) R hg x
  have hy := ev_ok (C := C) R hg y
  split
  · rename_i e k n k' m hk he he'
    rw [he] at hx; rw [he'] at hy
    simp only [VR] at hx hy
    obtain ⟨h3, _⟩ := (G.ti t).of (by rw [hk]; simp)
    rw [hk] at h3
    split
    · exact All.fail
    rename_i hk2
    obtain ⟨_, ⟨infoe, e4, e5, e6, z, e7, e8⟩, _⟩ := (G.ti e).of (fun h => hk2 h)
    refine All.when fun hw => All.req fun h0 => ?_
    rw [forceN_eq, forceN_eq, force_eq]
    refine All.ret ?_
    simp only [Bool.and_eq_true] at hw
    obtain ⟨⟨⟨⟨hw1, hw2⟩, hw3⟩, hw4⟩, hw5⟩ := hw
    have hw1 := Nat.le_of_ble_eq_true hw1
    have hw2 := Nat.le_of_ble_eq_true hw2
    have hw5 := Nat.eq_of_beq_eq_true hw5
    have hzc := VR_cells (e8 st g 0) (pure_isU hw3)
    have hzl : z.cells.size = (C.ti e).size := by rw [← hw5, VRs_length hzc]; simp
    have hbytes : (infoe.bytes : Int) * m ≤ 281474976710656 := by
      have h1 : (infoe.bytes : Int) ≤ 4096 := by rw [e6]; exact Int.ofNat_le.2 hw1
      have h2 : (infoe.bytes : Int) * m ≤ 4096 * 4294967296 := by
        have h3 : (infoe.bytes : Int) * m ≤ 4096 * m := Int.mul_le_mul_of_nonneg_right h1 (by omega)
        omega
      omega
    have hr := run_make (P := C.P) w t e infoe z h3 e4 e7 k k' n m h0.1 h0.2.1 hbytes (by omega)
    have hln : (List.replicate n.toNat (C.ti e).zero).length = n.toNat := List.length_replicate
    refine OpOK.newBuf R w (SameW.refl w) (madeCells z.cells (m.toNat * infoe.size)) e m.toNat hw2 (by rw [hln]; omega) (by rw [hln]; exact Nat.le_trans (by omega) lim_maxLen) ?_ (by rw [size_madeCells, e5]) ?_
    · simp only [execOp, ho, hx.1, hy.1]
      rw [Sem.run_bind, hr, hln]; rfl
    · rw [VRrow_iff]
      intro i z' hz'
      rw [List.getElem?_replicate] at hz'
      split at hz'
      · rename_i hi
        cases hz'
        refine ⟨z, e8 st g 0, hzl, oneL_of hzc hw4, fun j hj => ?_⟩
        simp only [madeCells, Nat.zero_add]
        have hb : i * (C.ti e).size + j < m.toNat * infoe.size := by
          rw [e5]
          have : (i + 1) * (C.ti e).size ≤ m.toNat * (C.ti e).size := Nat.mul_le_mul_right _ (by omega)
          rw [Nat.add_mul, Nat.one_mul] at this
          omega
        have hz2 : 0 < z.cells.size := by rw [hzl]; exact hw2
        have hmod : (i * (C.ti e).size + j) % z.cells.size = j := by
          rw [hzl, Nat.add_comm, Nat.add_mul_mod_self_right, Nat.mod_eq_of_lt hj]
        rw [Array.getElem?_map, Array.getElem?_range, if_pos hb]
        simp only [Option.map_some, hmod]
        have hjz : j < z.cells.size := by rw [hzl]; exact hj
        rw [getElem!_pos z.cells j hjz, Array.getElem?_eq_getElem hjz]
      · cases hz'
  · exact All.fail

theorem s_bs {t : TypeId} {len : Nat} {parts : Array (Nat × Operand)} (R : Rel E st g s a w) (hg : GlobOK C.gl st) (G : Good C) (ho : o.op = .buildSlice t len parts) : Snd C E st g s a w o (evBS C s o.dst t len parts) := by
  have hb := s_buildSlice R hg G ho
  unfold evBS
  split
  · rename_i d hd
    cases C.lits d with
    | false => exact hb
    | true =>
      simp only [cond_true]
      unfold evLit
      refine All.bind (evBuildSlice_fn _ _ _ _ _) fun e he => ?_
      obtain ⟨x, el, cells, rfl, h3, hrun, _, l, rfl, hl, h0, hc, hm, hrow⟩ := buildSlice_run R hg G ho e (he _ rfl)
      simp only [pe]
      rw [forceN_eq]
      refine All.ret ?_
      refine OpOK.newBuf R w (SameW.refl w) cells el len h0 (by omega) (by omega) ?_ hc hrow
      rw [hl]; exact hrun
  · exact hb
theorem freeze_put {w : World} {b o : Nat} {c : Array Value} {el : TypeId} {fr : Nat × Nat} (h : w.heap[b]? = some (.cells c el fr)) : w.freeze ⟨b, o, none⟩ 1 = putB w b (.cells c el (if fr.1 == fr.2 then (o, o + 1) else (min fr.1 o, max fr.2 (o + 1)))) := by
  unfold World.freeze
  rw [if_neg (by decide)]
  unfold putB
  congr 1
  apply Array.ext
  · simp
  · intro k h1 h2
    simp only [Array.getElem_modify, Array.getElem_setIfInBounds]
    have hk : k < w.heap.size := by simpa using h1
    by_cases e : b = k
    · subst e
      rw [if_pos rfl, Array.getElem_setIfInBounds_self]
      have : w.heap[b] = .cells c el fr := by
        rw [Array.getElem?_eq_getElem hk] at h
        exact Option.some.inj h
      rw [this]
    · rw [if_neg e, Array.getElem_setIfInBounds_ne hk e]
theorem s_mark {src dst : TypeId} {x : Operand} (R : Rel E st g s a w) (hg : GlobOK C.gl st) (G : Good C) (ho : o.op = .convert src dst x) : Snd C E st g s a w o (evMark C s src dst (s.ev C x)) := by
  have hb := s_convert R hg G ho
  have hx := ev_ok (C := C) R hg x
  unfold evMark
  split
  · rename_i i he
    rw [he] at hb hx
    cases hsd : Nat.beq src dst with
    | false => exact hb
    | true =>
      have hsd := Nat.eq_of_beq_eq_true hsd
      subst hsd
      simp only [cond_true]
      split
      · rename_i e hk
        split
        · rename_i hk2
          split
          · rename_i sz pre y l hs1
            obtain ⟨hs1, _⟩ := getSg_eq hs1 (by simp)
            obtain ⟨q1, q2, q3, q4, q5, q6, q7⟩ := R.wr.ob i _ hs1
            simp only [VR] at hx
            rcases q7 with ⟨q7, _⟩ | ⟨b, c, el, fr, k1, k2, k3, k4, k5, k6, k7, k8⟩
            · simp at q6; omega
            refine All.ret ?_
            have h5 := ((G.ti e).of (by rw [hk2]; simp)).1
            rw [hk2] at h5
            have h3 := ((G.ti src).of (by rw [hk]; simp)).1
            rw [hk] at h3
            have hfr : ffree c (if fr.1 == fr.2 then (c.size, c.size + 1) else (min fr.1 c.size, max fr.2 (c.size + 1))) := by
              obtain ⟨f1, f2⟩ := k7
              split
              · exact ⟨by simp, fun o ho => by simp; omega⟩
              · rename_i hne
                have hne : fr.1 ≠ fr.2 := by simpa using hne
                refine ⟨by simp only; omega, fun o ho => ?_⟩
                have hge : c.size ≤ fr.1 := by
                  rcases Nat.lt_or_ge fr.1 c.size with h' | h'
                  · exact absurd ⟨Nat.le_refl _, by omega⟩ (f2 fr.1 h')
                  · exact h'
                simp only
                omega
            have hsh : w.shape? b = some (el, c.size) := by unfold World.shape?; rw [k4]
            have hv : a.eval x = .slice (some ⟨b, 0, none⟩) (g i).len (g i).cap := by rw [hx.2, k2]
            obtain ⟨fr2, hfr2, hcv⟩ : ∃ fr2, ffree c fr2 ∧ (convert src src (.slice (some ⟨b, 0, none⟩) (g i).len (g i).cap)).run C.P w = .ok (.slice (some ⟨b, 0, none⟩) (g i).len (g i).cap) (putB w b (.cells c el fr2)) := by
              refine ⟨_, hfr, ?_⟩
              simp [convert, run_underlying h3, run_underlying h5, markStringish, hsh]
              simpa using freeze_put (o := c.size) k4
            refine OpOK.turn R hx.1 (.slice (some ⟨b, 0, none⟩) (g i).len (g i).cap) (putB w b (.cells c el fr2)) (g i) (.inl ?_) (Chg.putB k3 _ (fun b' => by rw [k1]; simp [eq_comm]) (fun k v hv => ?_)) (.inl rfl) (fun b hb => .inl hb) ?_ ?_
            · simp only [execOp, ho, hv]
              rw [Sem.run_bind, hcv]
              rfl
            · have h10 := R.wr.stw _ _ _ hv
              rw [cell?_of k4] at h10
              rw [cell?_of (putB_same k4), ← h10]
            · have hug : ∀ j, upd g i (g i) j = g j := fun j => by by_cases e : j = i <;> simp [upd, e]
              rw [show upd g i (g i) = g from funext hug]
              exact ⟨q1, q2, q3, q4, q5, q6, .inr ⟨b, c, el, fr2, k1, k2, k3, putB_same k4, k5, k6, hfr2, k8⟩⟩
            · have hug : ∀ j, upd g i (g i) j = g j := fun j => by by_cases e : j = i <;> simp [upd, e]
              rw [show upd g i (g i) = g from funext hug]
              simp only [VR]
              exact ⟨hx.1, by rw [← hv]; exact hx.2⟩
          · exact All.fail
        · exact All.fail
      · exact All.fail
  · exact hb

/-! what an append or a copy takes out of its second operand -/
theorem VRrow_cells {l : List V} {sz o : Nat} {look : Nat → Option Value} (h : VRrow st g l sz look o) : ∃ cs : List Value, cs.length = l.length * sz ∧ (∀ v ∈ cs, v.oneCell' = true) ∧ (∀ k v, cs[k]? = some v → look (o + k) = some v) ∧
    ∀ (look' : Nat → Option Value) (o' : Nat), (∀ k v, cs[k]? = some v → look' (o' + k) = some v) → VRrow st g l sz look' o' := by
  induction l generalizing o with
  | nil => exact ⟨[], by simp, by simp, by simp, fun _ _ _ => by simp [VRrow]⟩
  | cons x l ih =>
    simp only [VRrow] at h
    obtain ⟨⟨u, h1, h2, h3, h4⟩, h5⟩ := h
    obtain ⟨cs, k1, k2, k3, k4⟩ := ih h5
    have hul : u.cells.toList.length = sz := by simpa using h2
    refine ⟨u.cells.toList ++ cs, by simp only [List.length_append, hul, k1, List.length_cons, Nat.add_mul]; omega, fun v hv => ?_, fun k v hv => ?_, fun look' o' hl => ?_⟩
    · rcases List.mem_append.1 hv with h | h
      · exact h3 v h
      · exact k2 v h
    · rcases Nat.lt_or_ge k sz with hk | hk
      · rw [List.getElem?_append_left (by omega)] at hv
        rw [h4 k hk]
        simpa using hv
      · rw [List.getElem?_append_right (by omega), hul] at hv
        have := k3 _ v hv
        rw [← this]; congr 1; omega
    · simp only [VRrow]
      refine ⟨⟨u, h1, h2, h3, fun j hj => ?_⟩, k4 look' (o' + sz) fun k v hv => ?_⟩
      · have hj' : j < u.cells.toList.length := by omega
        have := hl j (u.cells.toList[j]) (by rw [List.getElem?_append_left hj', List.getElem?_eq_getElem hj'])
        rw [this]
        rw [Array.getElem?_eq_getElem (by omega)]
        simp
      · have := hl (sz + k) v (by rw [List.getElem?_append_right (by omega), hul, Nat.add_sub_cancel_left]; exact hv)
        rw [← this]; congr 1; omega

/-- the elements of an operand as cells that can be read anywhere -/
theorem Elems.cells {v : Value} {sz : Nat} {l : List V} (h : Elems E st g w v sz l) {esz : Nat} (hsz : szOk sz esz l = true) (h0 : 0 < esz) :
    ∃ cs : List Value, cs.length = l.length * esz ∧ (∀ u ∈ cs, u.oneCell' = true) ∧ (∀ (look : Nat → Option Value) (o : Nat), (∀ k u, cs[k]? = some u → look (o + k) = some u) → VRrow st g l esz look o) ∧
      ∀ (P : Program) (w' : World), w'.heap = w.heap → (Builtin.lenOf v).run P w' = .ok l.length w' ∧ ∀ n, n ≤ l.length → (Builtin.firstCells esz n v).run P w' = .ok (cs.take (n * esz)).toArray w' := by
  obtain ⟨hlen, hmax⟩ := h
  rcases hlen with ⟨base, cap, rfl, hrow⟩ | ⟨rfl, p, rfl, rfl⟩
  · rcases hrow with rfl | ⟨b, of, rfl, hs0, hrow⟩
    · refine ⟨[], by simp, by simp, fun _ _ _ => by simp [VRrow], fun P w' _ => ⟨by simp [Builtin.lenOf], fun n hn => ?_⟩⟩
      simp only [List.length_nil] at hn
      have hn : n = 0 := by omega
      subst hn
      cases base <;> simp [Builtin.firstCells, loadCells, loadCellsFrom]
    · rcases szOk_cases hsz with rfl | rfl
      · obtain ⟨cs, k1, k2, k3, k4⟩ := VRrow_cells hrow
        refine ⟨cs, k1, k2, k4, fun P w' hw => ⟨by simp [Builtin.lenOf], fun n hn => ?_⟩⟩
        have hle : n * sz ≤ cs.length := by rw [k1]; exact Nat.mul_le_mul_right _ hn
        have := run_firstCells_some (P := P) w' sz n ⟨b, of, none⟩ l.length cap (cs.take (n * sz)) (by simp; omega) (fun j u hj => by
          rw [List.getElem?_take] at hj
          split at hj
          · have := k3 j u hj
            rw [Addr.add_lit]
            simp only [World.cell?, hw] at this ⊢
            exact this
          · cases hj)
        exact this
      · refine ⟨[], by simp, by simp, fun _ _ _ => by simp [VRrow], fun P w' _ => ⟨by simp [Builtin.lenOf], fun n hn => ?_⟩⟩
        simp only [List.length_nil] at hn
        have hn : n = 0 := by omega
        subst hn
        simp [Builtin.firstCells, loadCells, loadCellsFrom]
  · have hpsz : (⟨p.toArray⟩ : ByteArray).size = p.length := by show p.toArray.size = _; simp
    have hesz : 1 = esz ∨ bl p = [] := szOk_cases hsz
    have hcs : (bl p).length = p.length := bl_length p
    rcases hesz with rfl | hp
    · refine ⟨p.map fun b => .int .u8 (b.toNat : Int), by simp [hcs], by simp [Value.oneCell'], fun look o hl => ?_, fun P w' _ => ⟨by simp [Builtin.lenOf, hpsz, hcs], fun n hn => ?_⟩⟩
      · exact VRrow_of_bytes fun j hj => hl j _ (by simp [hj])
      · simp only [Builtin.firstCells, Sem.run_pure]
        congr 1
        rw [ba_extract]
        apply Array.ext'
        simp [List.map_take]
    · have hp0 : p = [] := List.eq_nil_of_length_eq_zero (by rw [← hcs, hp]; rfl)
      subst hp0
      refine ⟨[], by simp [bl], by simp, fun _ _ _ => by simp [bl, VRrow], fun P w' _ => ⟨by simp [Builtin.lenOf, bl]; rfl, fun n hn => ?_⟩⟩
      simp only [bl, List.length_nil] at hn
      have hn : n = 0 := by omega
      subst hn
      simp [Builtin.firstCells]

/-! append -/
theorem nextcap_fits {need old bytes : Nat} (h : old < need) (h1 : need ≤ 4294967296) (h2 : bytes ≤ 4096) : Builtin.nextslicecap need old * bytes ≤ 281474976710656 := by
  refine growslice_fits h ?_
  have : need * bytes ≤ 4294967296 * 4096 := Nat.mul_le_mul h1 h2
  omega

/-- what append does, whatever slice comes first: it lies in the room that is there, or in a new block -/
theorem run_append {P : Program} {w : World} {t t2 ty e : TypeId} {info : TypeInfo} {z : Value} (ht : P.underlying t = some (.slice e)) (hd : ∃ d, P.underlying t2 = some d ∧ ∀ k, d ≠ .int k) (hi : P.info? e = some info) (hz : info.zero = some z)
    {base : Option Addr} {n cap m : Nat} {x : Value} {olds news : List Value} (hl : ∀ w' : World, w'.heap = w.heap → (Builtin.lenOf x).run P w' = .ok m w' ∧ (Builtin.firstCells info.size m x).run P w' = .ok news.toArray w')
    (hold : ∀ w' : World, w'.heap = w.heap → (Builtin.firstCells info.size n (.slice base n cap)).run P w' = .ok olds.toArray w') (hlim : n + m ≤ 4294967296) (hb : info.bytes ≤ 4096) :
    (n + m ≤ cap → (base = none → (Builtin.append_ #[t, t2] ty #[.slice base n cap, x]).run P w = .ok (.slice base (n + m) cap) w) ∧
      ∀ ad, base = some ad → (Builtin.append_ #[t, t2] ty #[.slice base n cap, x]).run P w = ((storeCells (ad.add (n * info.size)) news).run P w).andThen fun _ w' => .ok (.slice base (n + m) cap) w') ∧
    (cap < n + m → (Builtin.append_ #[t, t2] ty #[.slice base n cap, x]).run P w = .ok (.slice (some ⟨w.heap.size, 0, none⟩) (n + m) (grownCap w (n + m) cap e))
      (w.drew.alloc (.cells (olds ++ news ++ (Builtin.zeroCells z.cells (grownCap w (n + m) cap e - (n + m))).toList).toArray e))) := by
  obtain ⟨d, hd1, hd2⟩ := hd
  have h1 := (hl w rfl).1
  have h2 := (hl w rfl).2
  have h2' := (hl w.drew rfl).2
  have h3 := hold w.drew rfl
  have ht' := run_underlying ht w
  have hd' := run_underlying hd1 w
  constructor
  · intro hroom
    constructor
    · intro hbase
      subst hbase
      unfold Builtin.append_
      simp only [List.getElem?_toArray, List.getElem?_cons_zero, List.getElem?_cons_succ, Sem.run_bind, Sem.run_pure, ht', hd', Result.andThen_ok, sizeOf, typeInfo, run_program, hi, h1, Bool.false_eq_true, if_false]
      rw [if_pos hroom]
      simp only [Bool.not_false, if_true, Sem.run_bind, h2, Result.andThen_ok]
      rfl
    · intro ad hbase
      subst hbase
      unfold Builtin.append_
      simp only [List.getElem?_toArray, List.getElem?_cons_zero, List.getElem?_cons_succ, Sem.run_bind, Sem.run_pure, ht', hd', Result.andThen_ok, sizeOf, typeInfo, run_program, hi, h1, Bool.false_eq_true, if_false]
      rw [if_pos hroom]
      simp only [Bool.not_false, if_true, Sem.run_bind, h2, Result.andThen_ok]
      rfl
  · intro hgr
    have n1 : ¬ (n + m ≤ cap) := by omega
    have n2 : ¬ (((n + m : Nat) : Int) > IntKind.i64.max ∧ (False ∨ info.bytes = 0)) := by
      rw [IntKind.max_i64]; omega
    have n3 : ¬ (Builtin.nextslicecap (n + m) cap * info.bytes > 2 ^ 48) := by
      have := nextcap_fits (bytes := info.bytes) hgr hlim hb
      omega
    unfold Builtin.append_
    simp only [List.getElem?_toArray, List.getElem?_cons_zero, List.getElem?_cons_succ, Sem.run_bind, Sem.run_pure, ht', hd', Result.andThen_ok, sizeOf, typeInfo, run_program, hi, h1, Bool.false_eq_true, if_false]
    rw [if_neg n1]
    simp only [Sem.run_bind, run_program, hi, Sem.run_pure, Result.andThen_ok]
    rw [if_neg n2]
    simp only [Sem.run_bind, run_program, hi, Sem.run_pure, Result.andThen_ok]
    rw [if_neg n3]
    have hch : (choose (Question.appendCap (n + m) cap e)).run P w = .ok (grownCap w (n + m) cap e) w.drew := by
      simp [Question.forced, grownCap]
    simp only [Sem.run_bind, run_program, hi, Sem.run_pure, Result.andThen_ok, hch, run_askRoom, h3, Bool.not_false, if_true, h2', zeroValue, typeInfo, hz, newRow, run_newObj_alloc, World.size_drew]
    congr 3
    apply Array.ext'
    simp

theorem VRrow_append {l r : List V} {sz : Nat} {look : Nat → Option Value} {o : Nat} (h : VRrow st g l sz look o) (k : VRrow st g r sz look (o + l.length * sz)) : VRrow st g (l ++ r) sz look o := by
  induction l generalizing o with
  | nil => simpa using k
  | cons x l ih =>
    simp only [VRrow, List.cons_append] at h ⊢
    refine ⟨h.1, ih h.2 ?_⟩
    rw [List.length_cons, Nat.add_mul, Nat.one_mul] at k
    rwa [show o + sz + l.length * sz = o + (l.length * sz + sz) by omega]

theorem notInt {t2 : TypeId} (G : Good C) (h1 : ∀ k, (C.ti t2).k ≠ .int k) (h2 : (C.ti t2).k ≠ .other) : ∃ d, C.P.underlying t2 = some d ∧ ∀ k, d ≠ .int k := by
  have h3 := ((G.ti t2).of h2).1
  cases hk' : (C.ti t2).k <;> rw [hk'] at h3 <;> simp only [TK.ok] at h3
  case int k => exact absurd hk' (h1 k)
  case struct fs => obtain ⟨f, h3, _⟩ := h3; exact ⟨_, h3, by simp⟩
  case iface => obtain ⟨p, h3⟩ := h3; exact ⟨_, h3, by simp⟩
  case func => obtain ⟨p, q, r, h3⟩ := h3; exact ⟨_, h3, by simp⟩
  all_goals exact ⟨_, h3, by simp⟩

theorem s_append {t t2 e : TypeId} {x y : Operand} {sz : Nat} {ys : List V} {rd : List Nat} {args : Array Operand} (R : Rel E st g s a w) (hg : GlobOK C.gl st) (G : Good C) (hargs : args.toList = [x, y])
    (ho : o.op = .call { callee := .builtin .append, args := args, argTypes := #[t, t2] }) (ht : C.P.underlying t = some (.slice e)) (hd : ∃ d, C.P.underlying t2 = some d ∧ ∀ k, d ≠ .int k)
    (hk2 : (C.ti e).k ≠ .other) (hb : (C.ti e).bytes ≤ 4096) (h0 : 0 < (C.ti e).size) (hy : Elems E st g w (a.eval y) sz ys) (hsz : szOk sz (C.ti e).size ys = true)
    (hz1 : (C.ti e).zero.isU = false) (hz2 : (C.ti e).zero.cells.length = (C.ti e).size) : Snd C E st g s a w o (evAppend C s e (s.ev C x) ys rd) := by
  have hx := ev_ok (C := C) R hg x
  obtain ⟨_, ⟨info, e4, e5, e6, z, e7, e8⟩, _⟩ := (G.ti e).of hk2
  obtain ⟨cs, c1, c2, c3, c4⟩ := hy.cells hsz h0
  have hargs' : args = #[x, y] := by cases args; simp_all
  subst hargs'
  have hzl : z.cells.size = (C.ti e).size := by rw [← hz2, VRs_length (VR_cells (e8 st g 0) hz1)]; simp
  have hex : ∀ v w', (Builtin.append_ #[t, t2] o.type #[a.eval x, a.eval y]).run C.P w = .ok v w' → (execOp a.eval o).run C.P w = .ok (.value v) w' := fun v w' h => by
    simp only [execOp, ho, resolve, invoke, builtin]
    simp [h]
  have hnews : ∀ w' : World, w'.heap = w.heap → (Builtin.lenOf (a.eval y)).run C.P w' = .ok ys.length w' ∧ (Builtin.firstCells info.size ys.length (a.eval y)).run C.P w' = .ok cs.toArray w' := fun w' hw => by
    obtain ⟨q1, q2⟩ := c4 C.P w' hw
    refine ⟨q1, ?_⟩
    have := q2 ys.length (Nat.le_refl _)
    rw [e5, this, List.take_of_length_le (by omega)]
  unfold evAppend
  split
  · rename_i sz0 l he
    rw [he] at hx
    simp only [VR] at hx
    obtain ⟨base, cap, hx, h1, h2, h3, h4⟩ := hx
    have hcap := h3 trivial
    refine All.when fun hsz0 => All.req fun hlim => All.req fun hor => ?_
    rw [forceN_eq, forceN_eq]
    refine All.ret ?_
    -- the cells that are there already
    have hold : ∃ olds : List Value, olds.length = l.length * (C.ti e).size ∧ (∀ look o, (∀ k u, olds[k]? = some u → look (o + k) = some u) → VRrow st g l (C.ti e).size look o) ∧
        ∀ w' : World, w'.heap = w.heap → (Builtin.firstCells info.size l.length (.slice base l.length cap)).run C.P w' = .ok olds.toArray w' := by
      rcases h4 with rfl | ⟨b, of, rfl, h5, h6⟩
      · refine ⟨[], by simp, fun _ _ _ => by simp [VRrow], fun w' _ => ?_⟩
        cases base <;> simp [Builtin.firstCells, loadCells, loadCellsFrom]
      · rcases szOk_cases hsz0 with rfl | rfl
        · obtain ⟨olds, k1, k2, k3, k4⟩ := VRrow_cells h6
          refine ⟨olds, k1, k4, fun w' hw => ?_⟩
          rw [e5]
          refine run_firstCells_some w' _ l.length _ l.length cap olds k1 (fun j u hj => ?_)
          rw [Addr.add_lit]
          have := R.wr.stw _ _ _ (k3 j u hj)
          simp only [World.cell?, hw] at this ⊢
          exact this
        · refine ⟨[], by simp, fun _ _ _ => by simp [VRrow], fun w' _ => ?_⟩
          simp [Builtin.firstCells, loadCells, loadCellsFrom]
    obtain ⟨olds, k1, k2, k3⟩ := hold
    obtain ⟨hroom, hgrow⟩ := run_append (w := w) (ty := o.type) ht hd e4 e7 hnews k3 hlim (by omega)
    rw [← hx] at hroom hgrow
    by_cases hys : ys = []
    · -- nothing was there and nothing comes
      have hl0 : l = [] := by
        rcases hor with h | h
        · exact h
        · exact absurd hys h
      subst hys; subst hl0
      simp only [List.length_nil] at hcap
      subst hcap
      have hlen0 : cs = [] := List.eq_nil_of_length_eq_zero (by simpa using c1)
      have hr : (Builtin.append_ #[t, t2] o.type #[a.eval x, a.eval y]).run C.P w = .ok (.slice base 0 0) w := by
        obtain ⟨r1, r2⟩ := hroom (by simp)
        cases base with
        | none => exact r1 rfl
        | some ad =>
          rw [r2 ad rfl, hlen0]
          rfl
      refine OpOK.val _ w st (upd g s.sg.length ⟨none, base, 0, 0, (C.ti e).size⟩) (hex _ _ hr) ⟨fun _ _ _ h => h, fun i hi _ => upd_other (Nat.ne_of_lt hi), by rw [app_new]; simp⟩ ?_ ?_
      · rw [app_new]
        refine R.wr.step (Chg.same (SameW.refl w)) (fun i o' hi => ?_) (fun i j b hi hj h1 h2 => ?_)
        · rw [List.length_append, List.length_singleton]
          rcases Nat.lt_trichotomy i s.sg.length with hlt | heq | hgt
          · rw [List.getElem?_append_left hlt] at hi
            rw [upd_other (Nat.ne_of_lt hlt)]
            exact (R.wr.ob i o' hi).keep (fun _ _ => rfl) (fun _ _ _ h => h) (fun _ _ _ _ h => h) (fun j _ hj => ⟨by omega, upd_other (Nat.ne_of_lt hj)⟩)
          · subst heq
            rw [List.getElem?_append_right (Nat.le_refl _)] at hi
            simp at hi; subst hi
            rw [upd_same]
            exact ⟨h0, rfl, by simp, by simp, rfl, by simp, .inl ⟨rfl, rfl⟩⟩
          · rw [List.getElem?_eq_none (by simp; omega)] at hi; cases hi
        · rw [List.length_append, List.length_singleton] at hi hj
          by_cases e1 : i = s.sg.length
          · subst e1; rw [upd_same] at h1; cases h1
          · by_cases e2 : j = s.sg.length
            · subst e2; rw [upd_same] at h2; cases h2
            · rw [upd_other e1] at h1; rw [upd_other e2] at h2
              exact R.wr.inj i j b (by omega) (by omega) h1 h2
      · rw [app_new]
        simp only [VR, upd_same]
        exact ⟨by simp, trivial⟩
    · have hpos : 0 < ys.length := by cases ys with
        | nil => exact absurd rfl hys
        | cons _ _ => simp
      have hr := hgrow (by omega)
      have hge := grownCap_ge w (l.length + ys.length) cap e
      have hl1 : (l ++ ys).length = l.length + ys.length := by simp
      refine OpOK.newBuf R w.drew ⟨rfl, rfl, rfl, rfl⟩ _ e (grownCap w (l.length + ys.length) cap e) h0 (by omega) (by rw [hl1]; exact Nat.le_trans hlim lim_maxLen) (by rw [hl1]; exact hex _ _ hr) ?_ ?_
      · simp only [List.size_toArray, List.length_append, Array.length_toList, size_zeroCells, hzl, k1, c1, ← Nat.add_mul]
        congr 1; omega
      · refine VRrow_append (k2 _ _ fun k u hk => ?_) (c3 _ _ fun k u hk => ?_)
        · have hlt : k < olds.length := by
            rcases Nat.lt_or_ge k olds.length with h' | h'
            · exact h'
            · simp [List.getElem?_eq_none h'] at hk
          rw [List.getElem?_toArray, Nat.zero_add, List.append_assoc, List.getElem?_append_left hlt]; exact hk
        · have hlt : k < cs.length := by
            rcases Nat.lt_or_ge k cs.length with h' | h'
            · exact h'
            · simp [List.getElem?_eq_none h'] at hk
          rw [List.getElem?_toArray, Nat.zero_add, ← k1, List.append_assoc, List.getElem?_append_right (by omega), Nat.add_sub_cancel_left, List.getElem?_append_left hlt]; exact hk
  · rename_i i he
    rw [he] at hx
    simp only [VR] at hx
    obtain ⟨hil, hx⟩ := hx
    split
    · rename_i sz0 pre l hs
      obtain ⟨hs1, _⟩ := getSg_eq hs (by simp)
      obtain ⟨q1, q2, q3, q4, q5, q6, q7⟩ := R.wr.ob i _ hs1
      refine All.when fun hsz0 => All.req fun hlim => All.ret ?_
      simp only [Bool.and_eq_true] at hsz0
      have hsz0 := Nat.eq_of_beq_eq_true hsz0.1
      subst hsz0
      have hl1 : (l ++ ys).length = l.length + ys.length := by simp
      -- the cells that are there already
      have hold : ∃ olds : List Value, olds.length = l.length * (C.ti e).size ∧ (∀ look o, (∀ k u, olds[k]? = some u → look (o + k) = some u) → VRrow st g l (C.ti e).size look o) ∧
          ∀ w' : World, w'.heap = w.heap → (Builtin.firstCells info.size l.length (.slice (g i).base l.length (g i).cap)).run C.P w' = .ok olds.toArray w' := by
        rcases q7 with ⟨q7, _⟩ | ⟨b', c, el, fr, k1, k2, k3, k4, k5, k6, k7, k8⟩
        · have hl0 : l = [] := List.eq_nil_of_length_eq_zero (by omega)
          subst hl0
          refine ⟨[], by simp, fun _ _ _ => by simp [VRrow], fun w' _ => ?_⟩
          cases (g i).base <;> simp [Builtin.firstCells, loadCells, loadCellsFrom]
        · obtain ⟨olds, m1, m2, m3, m4⟩ := VRrow_cells k6
          refine ⟨olds, m1, m4, fun w' hw => ?_⟩
          rw [e5, k2]
          refine run_firstCells_some w' _ l.length _ l.length (g i).cap olds m1 (fun j u hj => ?_)
          rw [Addr.add_lit]
          have := m3 j u hj
          have h9 : w'.heap[b']? = some (.cells c el fr) := by rw [hw]; exact k4
          rw [cell?_of h9]
          exact this
      obtain ⟨olds, m1, m2, m3⟩ := hold
      obtain ⟨hroom, hgrow⟩ := run_append (w := w) (ty := o.type) ht hd e4 e7 hnews m3 hlim (by omega)
      rw [q5] at hx
      rw [← hx] at hroom hgrow
      rcases Nat.lt_or_ge (g i).cap (l.length + ys.length) with hgr | hro
      · -- a new block
        have hr := hgrow hgr
        have hge := grownCap_ge w (l.length + ys.length) (g i).cap e
        refine OpOK.turn R hil _ _ ⟨some w.heap.size, some ⟨w.heap.size, 0, none⟩, l.length + ys.length, grownCap w (l.length + ys.length) (g i).cap e, (C.ti e).size⟩ (.inl (hex _ _ hr))
          ⟨rfl, rfl, rfl, by simp, fun b hb _ => heap_alloc_lt (w := w.drew) hb, fun b hb => (R.wr.blk_lt hil hb).2, fun _ _ _ h => h, fun _ _ _ h => .inl h, fun b k v hb hv => ?_⟩
          (.inr (by simp [memN, Nat.beq_refl])) (fun b hb => .inr (by simpa using hb.symm)) ?_ ?_
        · rw [cell?_congr (heap_alloc_lt (w := w.drew) (R.wr.blk_lt hil hb).1)]
          exact R.wr.stw _ _ _ hv
        · refine ⟨q1, rfl, by rw [hl1]; omega, by rw [hl1]; exact Nat.le_trans hlim lim_maxLen, by rw [hl1], by rw [hl1]; exact hge, .inr ⟨w.heap.size, _, e, (0, 0), rfl, rfl, R.wr.gnew _ R.wr.size, heap_alloc_new (w := w.drew), ?_, ?_, ⟨by simp, by intro o _; simp⟩, fun k v hv => ?_⟩⟩
          · simp only [List.size_toArray, List.length_append, Array.length_toList, size_zeroCells, hzl, m1, c1, ← Nat.add_mul]
            congr 1; omega
          · refine VRrow_map (st := st) (g := g) (fun _ _ _ h => h) (fun _ _ h => h) (VRrow_append (m2 _ _ fun k u hk => ?_) (c3 _ _ fun k u hk => ?_))
            · have hlt : k < olds.length := by
                rcases Nat.lt_or_ge k olds.length with h' | h'
                · exact h'
                · simp [List.getElem?_eq_none h'] at hk
              rw [List.getElem?_toArray, Nat.zero_add, List.append_assoc, List.getElem?_append_left hlt]; exact hk
            · have hlt : k < cs.length := by
                rcases Nat.lt_or_ge k cs.length with h' | h'
                · exact h'
                · simp [List.getElem?_eq_none h'] at hk
              rw [List.getElem?_toArray, Nat.zero_add, ← m1, List.append_assoc, List.getElem?_append_right (by omega), Nat.add_sub_cancel_left, List.getElem?_append_left hlt]; exact hk
          · rw [R.wr.st_new k] at hv; cases hv
        · simp only [VR, upd_same]; exact ⟨hil, trivial⟩
      · obtain ⟨r1, r2⟩ := hroom hro
        rcases q7 with ⟨q7, q8⟩ | ⟨b', c, el, fr, k1, k2, k3, k4, k5, k6, k7, k8⟩
        · -- nothing is there and nothing comes
          have hl0 : l = [] := List.eq_nil_of_length_eq_zero (by omega)
          have hys : ys = [] := List.eq_nil_of_length_eq_zero (by omega)
          subst hl0; subst hys
          have hcs : cs = [] := List.eq_nil_of_length_eq_zero (by simpa using c1)
          have hr : (Builtin.append_ #[t, t2] o.type #[a.eval x, a.eval y]).run C.P w = .ok (.slice (g i).base 0 (g i).cap) w := by
            cases hbs : (g i).base with
            | none => have := r1 hbs; rw [hbs] at this; exact this
            | some ad =>
              have := r2 ad hbs
              rw [this, hcs, hbs]; rfl
          refine OpOK.turn R hil _ w { g i with len := 0 } (.inl (hex _ _ hr)) ⟨rfl, rfl, rfl, Nat.le_refl _, fun _ _ _ => rfl, fun b hb => (R.wr.blk_lt hil hb).2, fun _ _ _ h => h, fun _ _ _ h => .inl h, fun b o v _ h => R.wr.stw _ _ _ h⟩
            (.inr (by simp [memN, Nat.beq_refl])) (fun b hb => .inl hb) ?_ ?_
          · exact ⟨q1, q2, by simpa using q3, by simp, by simp, by simp, .inl ⟨q7, q8⟩⟩
          · simp only [VR, upd_same]; exact ⟨hil, trivial⟩
        · -- into the room that is there
          have hr := r2 _ k2
          have hin : (l.length + ys.length) * (C.ti e).size ≤ c.size := by rw [k5]; exact Nat.mul_le_mul_right _ hro
          rw [Nat.add_mul] at hin
          have hlen : cs = [] ∨ l.length * (C.ti e).size + cs.length ≤ c.toList.length := by right; rw [c1]; simpa using hin
          have hst := run_storeCells_blk (P := C.P) (b := b') (o := 0 + l.length * (C.ti e).size) cs 0 c w k4 k7 (by simpa using hlen) c2
          rw [Nat.add_zero, Nat.zero_add] at hst
          have had : (⟨b', 0, none⟩ : Addr).add (l.length * info.size) = ⟨b', l.length * (C.ti e).size, none⟩ := by rw [Addr.add_lit, e5, Nat.zero_add]
          rw [had, hst] at hr
          have hcell := over_get (xs := c.toList) (ys := cs) (o := l.length * (C.ti e).size) hlen
          refine OpOK.turn R hil _ _ { g i with len := l.length + ys.length } (.inl (hex _ _ hr)) (Chg.putB k3 _ (fun b'' => by rw [k1]; simp [eq_comm]) (fun k v hv => ?_))
            (.inr (by simp [memN, Nat.beq_refl])) (fun b hb => .inl hb) ?_ ?_
          · have h9 := k8 k v hv
            have h10 := R.wr.stw _ _ _ hv
            rw [cell?_of k4] at h10
            have : pre * (C.ti e).size ≤ l.length * (C.ti e).size := Nat.mul_le_mul_right _ q3
            rw [cell?_of (putB_same k4), List.getElem?_toArray, hcell, if_neg (by omega), ← h10]
            simp
          · refine ⟨q1, q2, by rw [hl1]; omega, by rw [hl1]; exact Nat.le_trans hlim lim_maxLen, by rw [hl1], by rw [hl1]; exact hro, .inr ⟨b', _, el, fr, k1, k2, k3, putB_same k4, ?_, ?_, ?_, k8⟩⟩
            · simp only [List.size_toArray, over_length hlen, Array.length_toList]; exact k5
            · obtain ⟨olds', n1, n2, n3, n4⟩ := VRrow_cells k6
              refine VRrow_map (st := st) (g := g) (fun _ _ _ h => h) (fun _ _ h => h) (VRrow_append (n4 _ _ fun k u hk => ?_) (c3 _ _ fun k u hk => ?_))
              · have hlt : k < olds'.length := by
                  rcases Nat.lt_or_ge k olds'.length with h' | h'
                  · exact h'
                  · simp [List.getElem?_eq_none h'] at hk
                have := n3 k u hk
                rw [List.getElem?_toArray, hcell, if_neg (by omega)]
                simpa using this
              · have hlt : k < cs.length := by
                  rcases Nat.lt_or_ge k cs.length with h' | h'
                  · exact h'
                  · simp [List.getElem?_eq_none h'] at hk
                rw [List.getElem?_toArray, Nat.zero_add, hcell, if_pos (by omega), Nat.add_sub_cancel_left]; exact hk
            · refine ⟨k7.1, fun k hk => ?_⟩
              refine k7.2 k ?_
              simp only [List.size_toArray, over_length hlen, Array.length_toList] at hk
              exact hk
          · simp only [VR, upd_same]; exact ⟨hil, trivial⟩
    · exact All.fail
  · exact All.fail
end
end Go.VG
