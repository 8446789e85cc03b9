/-
  A field is read of the bytes that were laid of it.
-/
import Derived.Test.YtgiocgghmlmgfaaDoorPRk
import Derived.Test.YtgiocgghmlmgfaaDoorCRp
set_option linter.unusedSimpArgs false
set_option linter.unusedVariables false
set_option maxHeartbeats 4000000
namespace Go.Proofs.YtgiocgghmlmgfaaDoor
open Go Go.VG
set_option maxRecDepth 100000
theorem low_read4 {s : List UInt8} {p u : Nat} (hr : Rd s (low 4 u) p) : (cu s p).low32 = (u % 4294967296, cu s (p + (low 4 u).length)) := by
  obtain ⟨h1, h2⟩ := cu_take (n := 4) hr (by rw [low_length]; rfl)
  have h4 : (256 : Nat) ^ 4 = 4294967296 := by decide
  unfold Cu.low32
  rw [h1, h2, ← low_mod 4 u, h4, lowR_low 4 _ (by rw [h4]; omega), low_length]
/-- what a field's wire type keeps -/
def keepF (f : Pf) : Pf := ⟨f.no, f.wi, if f.wi = 2 then 0 else if f.wi = 5 then f.num % 4294967296 else f.num, if f.wi = 2 then f.text else []⟩
theorem tagN_U {n w : Int} (h : mayT n w = true) : tagN (tagU n w) = n ∧ tagW (tagU n w) = w := by
  have hb := mayT_b h
  have h1 := tagU_lt h
  unfold tagN tagW tagU at *
  rw [if_neg (by omega), if_neg (by omega)]
  omega
theorem tag_put {s : List UInt8} {p : Nat} {n w : Int} (h : mayT n w = true) (hr : Rd s (tagB n w) p) : (cu s p).tag = ((n, w), cu s (p + (tagB n w).length)) := by
  have h1 := tagU_lt h
  have e : tagB n w = vput (tagU n w) := by unfold tagB; rw [if_pos h]
  rw [e] at hr ⊢
  have hv := vread_put (by omega) hr
  unfold Cu.tag
  rw [hv]
  dsimp only
  rw [(tagN_U h).1, (tagN_U h).2, if_neg (fun q => q rfl), if_pos h]
theorem con_put {s : List UInt8} {p : Nat} {f : Pf} (hm : mayT f.no f.wi = true) (hn : 0 ≤ f.num ∧ f.num ≤ 18446744073709551615) (ht : f.text.length ≤ 18446744073709551615) (hr : Rd s (conB f) p) :
    nxC ⟨f.no, f.wi, 0, []⟩ (cu s p) = cu s (p + (conB f).length) ∧ nxV ⟨f.no, f.wi, 0, []⟩ (cu s p) = keepF f := by
  have hb := mayT_b hm
  obtain ⟨no, wi, num, text⟩ := f
  obtain ⟨u, rfl⟩ := Int.eq_ofNat_of_zero_le hn.1
  dsimp only at *
  rcases hb.2 with rfl | rfl | rfl | rfl
  · have hr : Rd s (vput u) p := hr
    have := vread_put (by omega) hr
    unfold nxC nxV
    dsimp only
    rw [if_pos rfl, if_pos rfl, this]
    exact ⟨rfl, rfl⟩
  · have hr : Rd s (low 8 u) p := hr
    have := low_read (by omega) hr
    unfold nxC nxV
    dsimp only
    rw [if_neg (by decide), if_pos rfl, if_neg (by decide), if_pos rfl, this]
    exact ⟨rfl, rfl⟩
  · have hr : Rd s (vput text.length ++ text) p := hr
    have := text_put (by omega) hr
    unfold nxC nxV
    dsimp only
    rw [if_neg (by decide), if_neg (by decide), if_neg (by decide), if_pos rfl, if_neg (by decide), if_neg (by decide), if_neg (by decide), if_pos rfl, this]
    exact ⟨rfl, rfl⟩
  · have hr : Rd s (low 4 u) p := hr
    have := low_read4 hr
    unfold nxC nxV
    dsimp only
    rw [if_neg (by decide), if_neg (by decide), if_pos rfl, if_neg (by decide), if_neg (by decide), if_pos rfl, this]
    refine ⟨rfl, ?_⟩
    unfold keepF
    dsimp only
    rw [if_neg (by decide), if_pos rfl, if_neg (by decide)]
    rfl
theorem fld_rd {s : List UInt8} {p : Nat} {f : Pf} (hm : mayT f.no f.wi = true) (hn : 0 ≤ f.num ∧ f.num ≤ 18446744073709551615) (ht : f.text.length ≤ 18446744073709551615) (hr : Rd s (fldB f) p) :
    (cu s p).nxtC = cu s (p + (fldB f).length) ∧ (cu s p).nxt = keepF f := by
  have e : fldB f = tagB f.no f.wi ++ conB f := by unfold fldB; rw [if_pos hm]
  rw [e] at hr ⊢
  obtain ⟨r1, r2⟩ := hr.app
  have h1 := tag_put hm r1
  have h2 := con_put hm hn ht r2
  have h3 : (cu s p).nxtC = cu s (p + (tagB f.no f.wi ++ conB f).length) := by
    unfold Cu.nxtC
    rw [h1]
    dsimp only
    rw [h2.1, List.length_append, Nat.add_assoc]
  refine ⟨h3, ?_⟩
  unfold Cu.nxt
  rw [h3, if_neg (fun q => q rfl), h1]
  exact h2.2
/-- the fields' bytes, one behind the other -/
def fldsB (l : List Pf) : List UInt8 := (l.map fldB).flatten
def okF (f : Pf) : Prop := mayT f.no f.wi = true ∧ (0 ≤ f.num ∧ f.num ≤ 18446744073709551615) ∧ f.text.length ≤ 18446744073709551615
theorem fld_ne {f : Pf} (h : mayT f.no f.wi = true) : 0 < (fldB f).length := by
  have := fun q => (tagB_nil (n := f.no) (w := f.wi)).mp q h
  unfold fldB
  rw [if_pos h, List.length_append]
  have : 0 < (tagB f.no f.wi).length := List.length_pos_iff.mpr this
  omega
theorem each_flds {s : List UInt8} : ∀ (l : List Pf) (n p : Nat) (acc : List Pf), (∀ f ∈ l, okF f) → Rd s (fldsB l) p → p + (fldsB l).length = s.length → l.length ≤ n →
    eachGo n (cu s p) acc = (cu s s.length, acc ++ l.map keepF)
  | [], n, p, acc, _, hr, he, _ => by
    have e : p = s.length := he
    subst e
    rw [List.map_nil, List.append_nil]
    cases n with
    | zero => rfl
    | succ n =>
      rw [eachGo, if_neg]
      intro q
      have h : (cu s s.length).left = (s.length : Int) - s.length := rfl
      have := q.2
      omega
  | f :: l, n, p, acc, hf, hr, he, hn => by
    obtain ⟨m, rfl⟩ : ∃ m, n = m + 1 := ⟨n - 1, by rw [List.length_cons] at hn; omega⟩
    have e : fldsB (f :: l) = fldB f ++ fldsB l := rfl
    rw [e] at hr he
    obtain ⟨r1, r2⟩ := hr.app
    obtain ⟨k1, k2, k3⟩ := hf f (List.mem_cons_self ..)
    have h1 := fld_rd k1 k2 k3 r1
    have hne := fld_ne k1
    rw [List.length_append] at he
    rw [eachGo, if_pos, h1.1, h1.2, if_neg (fun q => q rfl), each_flds l m (p + (fldB f).length) (acc ++ [keepF f]) (fun g hg => hf g (List.mem_cons_of_mem _ hg)) r2 (by omega) (by rw [List.length_cons] at hn; omega)]
    · rw [List.map_cons, List.append_assoc]; rfl
    · refine ⟨rfl, ?_⟩
      have h : (cu s p).left = (s.length : Int) - p := rfl
      omega
theorem flds_len : ∀ (l : List Pf), (∀ f ∈ l, okF f) → l.length ≤ (fldsB l).length
  | [], _ => Nat.zero_le _
  | f :: l, h => by
    have := flds_len l (fun g hg => h g (List.mem_cons_of_mem _ hg))
    have := fld_ne (h f (List.mem_cons_self ..)).1
    have e : fldsB (f :: l) = fldB f ++ fldsB l := rfl
    rw [e, List.length_append, List.length_cons]
    omega
theorem all_flds (l : List Pf) (h : ∀ f ∈ l, okF f) : aFine (fldsB l) = 0 ∧ aFds (fldsB l) = l.map keepF := by
  have hl := flds_len l h
  have key : (Cu.new (fldsB l)).all [] = (cu (fldsB l) (fldsB l).length, l.map keepF) := each_flds (s := fldsB l) l ((fldsB l).length) 0 [] h ⟨[], [], by simp, rfl⟩ (by omega) hl
  have h1 : aFine (fldsB l) = 0 := by unfold aFine; rw [key]; rfl
  refine ⟨h1, ?_⟩
  unfold aFds
  rw [h1, if_pos rfl, key]
def Cu.mid (c : Cu) (a t : List UInt8) : Cu := ⟨a ++ (c.s ++ t), a.length + c.p, a.length + c.e + t.length, c.c⟩
def Mid (c : Cu) (t : List UInt8) : Prop := c.c ≠ 1 ∨ t = []
theorem fail_mid (c : Cu) (a t : List UInt8) (k : Int) : (c.mid a t).fail k = (c.fail k).mid a t := by
  unfold Cu.fail
  by_cases h : c.c = 0
  · rw [if_pos h, if_pos (show (c.mid a t).c = 0 from h)]; rfl
  · rw [if_neg h, if_neg (show ¬ (c.mid a t).c = 0 from h)]
theorem pass_mid {c : Cu} {a t : List UInt8} {n : Int} (h : Mid (c.pass n) t) : (c.mid a t).pass n = (c.pass n).mid a t := by
  unfold Cu.pass at h ⊢
  by_cases h0 : c.c = 0
  · rw [if_neg (show ¬ c.c ≠ 0 from fun q => q h0)] at h ⊢
    rw [if_neg (show ¬ (c.mid a t).c ≠ 0 from fun q => q h0)]
    by_cases h1 : n < 0
    · rw [if_pos h1, if_pos h1]; rfl
    · rw [if_neg h1] at h ⊢
      rw [if_neg h1]
      by_cases h2 : n > (c.e : Int) - c.p
      · rw [if_pos h2] at h ⊢
        rcases h with h | h
        · exact absurd rfl h
        · subst h
          rw [if_pos (by show n > ((a.length + c.e + 0 : Nat) : Int) - ((a.length + c.p : Nat) : Int); omega)]
          rfl
      · rw [if_neg h2] at h ⊢
        rw [if_neg (by show ¬ n > ((a.length + c.e + t.length : Nat) : Int) - ((a.length + c.p : Nat) : Int); omega)]
        show Cu.mk _ (a.length + c.p + n.toNat) _ _ = Cu.mk _ (a.length + (c.p + n.toNat)) _ _
        rw [Nat.add_assoc]
        rfl
  · rw [if_pos h0, if_pos (show (c.mid a t).c ≠ 0 from h0)]
theorem drop_mid {s a t : List UInt8} {p n : Nat} (h : p + n ≤ s.length) : ((a ++ (s ++ t)).drop (a.length + p)).take n = (s.drop p).take n := by
  rw [List.drop_append, List.drop_eq_nil_of_le (by omega), List.nil_append, show a.length + p - a.length = p by omega,
    List.drop_append_of_le_length (by omega), List.take_append_of_le_length (by rw [List.length_drop]; omega)]
theorem take_mid {c : Cu} {a t : List UInt8} {n : Int} (hc : c.ok) (h : Mid (c.pass n) t) : (c.mid a t).takeV n = c.takeV n := by
  obtain ⟨h1, h2⟩ := hc
  unfold Cu.takeV
  by_cases k : c.may n = true
  · have k2 : c.c = 0 ∧ 0 ≤ n ∧ n ≤ (c.e : Int) - c.p := of_decide_eq_true k
    have k3 : (c.mid a t).may n = true := decide_eq_true ⟨k2.1, k2.2.1, by show n ≤ ((a.length + c.e + t.length : Nat) : Int) - ((a.length + c.p : Nat) : Int); omega⟩
    rw [if_pos k, if_pos k3]
    exact drop_mid (by omega)
  · have k2 : ¬ (c.c = 0 ∧ 0 ≤ n ∧ n ≤ (c.e : Int) - c.p) := fun q => k (decide_eq_true q)
    have k3 : ¬ (c.mid a t).may n = true := fun q => by
      have q : c.c = 0 ∧ 0 ≤ n ∧ n ≤ ((a.length + c.e + t.length : Nat) : Int) - ((a.length + c.p : Nat) : Int) := of_decide_eq_true q
      unfold Cu.pass at h
      rw [if_neg (show ¬ c.c ≠ 0 from fun x => x q.1), if_neg (by omega), if_pos (by omega)] at h
      rcases h with h | h
      · exact absurd rfl h
      · subst h; simp at q; omega
    rw [if_neg k, if_neg k3]
theorem byteV_mid {c : Cu} {a t : List UInt8} (hc : c.ok) (h : Mid c.byte t) : (c.mid a t).byteV = c.byteV := by
  have h1 := hc.1
  have h2 := hc.2
  unfold Cu.byteV
  by_cases k : c.c = 0 ∧ c.p < c.e
  · have k3 : (c.mid a t).c = 0 ∧ (c.mid a t).p < (c.mid a t).e := ⟨k.1, by show a.length + c.p < a.length + c.e + t.length; omega⟩
    rw [if_pos k, if_pos k3]
    show (a ++ (c.s ++ t)).getD (a.length + c.p) 0 = c.s.getD c.p 0
    simp only [List.getD_eq_getElem?_getD]
    rw [List.getElem?_append_right (by omega), show a.length + c.p - a.length = c.p by omega, List.getElem?_append_left (by omega)]
  · have k3 : ¬ ((c.mid a t).c = 0 ∧ (c.mid a t).p < (c.mid a t).e) := fun q => by
      have q1 : c.c = 0 := q.1
      have q2 : a.length + c.p < a.length + c.e + t.length := q.2
      unfold Cu.byte Cu.pass at h
      rw [if_neg (show ¬ c.c ≠ 0 from fun x => x q.1), if_neg (by decide), if_pos (by omega)] at h
      rcases h with h | h
      · exact absurd rfl h
      · subst h; simp at q2; omega
    rw [if_neg k, if_neg k3]
theorem vr_mid {a t : List UInt8} : ∀ (j i u : Nat) (c : Cu), c.ok → Mid (vrGo j i u c).2 t → vrGo j i u (c.mid a t) = ((vrGo j i u c).1, (vrGo j i u c).2.mid a t)
  | 0, i, u, c, hc, h => by
    rw [vrGo, vrGo, fail_mid]
  | j + 1, i, u, c, hc, h => by
    have hb : Mid c.byte t := by
      rcases h with h | h
      · refine .inl fun q => h ?_
        rw [vrGo, if_pos (by rw [q]; decide)]
        exact q
      · exact .inr h
    have e1 : (c.mid a t).byte = c.byte.mid a t := pass_mid hb
    have e2 := byteV_mid (a := a) hc hb
    have hk := (pass_ok hc 1).1
    rw [vrGo] at h
    rw [vrGo, vrGo, e1, e2]
    have e3 : (c.byte.mid a t).c = c.byte.c := rfl
    rw [e3]
    by_cases k1 : c.byte.c ≠ 0
    · rw [if_pos k1, if_pos k1]
    · rw [if_neg k1] at h ⊢
      rw [if_neg k1]
      by_cases k2 : i = 9 ∧ c.byteV.toNat > 1
      · rw [if_pos k2, if_pos k2, fail_mid]
      · rw [if_neg k2] at h ⊢
        rw [if_neg k2]
        by_cases k3 : c.byteV.toNat < 128
        · rw [if_pos k3, if_pos k3]
        · rw [if_neg k3] at h ⊢
          rw [if_neg k3]
          exact vr_mid j _ _ c.byte hk h
theorem vread_mid {c : Cu} {a t : List UInt8} (hc : c.ok) (h : Mid c.vread.2 t) : (c.mid a t).vread = (c.vread.1, c.vread.2.mid a t) := vr_mid 10 0 0 c hc h
theorem tag_mid {c : Cu} {a t : List UInt8} (hc : c.ok) (h : Mid c.tag.2 t) : (c.mid a t).tag = (c.tag.1, c.tag.2.mid a t) := by
  have hv : Mid c.vread.2 t := by
    rcases h with h | h
    · refine .inl fun q => h ?_
      unfold Cu.tag
      rw [if_pos (by rw [q]; decide)]
      exact q
    · exact .inr h
  have e := vread_mid (a := a) hc hv
  unfold Cu.tag
  rw [e]
  dsimp only
  rw [fail_mid]
  have e3 : (c.vread.2.mid a t).c = c.vread.2.c := rfl
  rw [e3]
  split
  · rfl
  · split
    · rfl
    · rfl
theorem text_mid {c : Cu} {a t : List UInt8} (hc : c.ok) (h : Mid c.text.2 t) : (c.mid a t).text = (c.text.1, c.text.2.mid a t) := by
  have hv : Mid c.vread.2 t := by
    rcases h with h | h
    · refine .inl fun q => h ?_
      have h1 : ¬ c.vread.2.c = 0 := by rw [q]; decide
      unfold Cu.text
      dsimp only
      rw [if_neg (fun x => h1 x.1), pass_err h1]
      exact q
    · exact .inr h
  have e := vread_mid (a := a) hc hv
  have hk := (vread_ok hc).1
  have hl : (c.vread.2.mid a t).left = c.vread.2.left + t.length := by
    show ((a.length + c.vread.2.e + t.length : Nat) : Int) - ((a.length + c.vread.2.p : Nat) : Int) = (c.vread.2.e : Int) - c.vread.2.p + t.length
    omega
  unfold Cu.text at h ⊢
  rw [e]
  dsimp only at h ⊢
  by_cases k : c.vread.2.c = 0 ∧ (c.vread.1 : Int) > c.vread.2.left
  · rw [if_pos k] at h ⊢
    rcases h with h | h
    · refine absurd ?_ h
      unfold Cu.fail
      rw [if_pos k.1]
    · subst h
      rw [if_pos ⟨k.1, by rw [hl]; simpa using k.2⟩, fail_mid]
  · rw [if_neg k] at h ⊢
    rw [if_neg (fun q => k ⟨q.1, by have := q.2; rw [hl] at this; omega⟩), pass_mid h, take_mid hk h]
theorem nx_mid {f : Pf} {c : Cu} {a t : List UInt8} (hc : c.ok) (h : Mid (nxC f c) t) : nxC f (c.mid a t) = (nxC f c).mid a t ∧ nxV f (c.mid a t) = nxV f c := by
  unfold nxC at h ⊢
  unfold nxV
  by_cases h0 : f.wi = 0
  · rw [if_pos h0] at h
    rw [if_pos h0, if_pos h0, if_pos h0, if_pos h0, vread_mid hc h]
    exact ⟨rfl, rfl⟩
  rw [if_neg h0] at h
  rw [if_neg h0, if_neg h0, if_neg h0, if_neg h0]
  by_cases h1 : f.wi = 1
  · rw [if_pos h1] at h
    rw [if_pos h1, if_pos h1, if_pos h1, if_pos h1]
    have h : Mid (c.pass 8) t := h
    unfold Cu.low64
    rw [pass_mid h, take_mid hc h]
    exact ⟨rfl, rfl⟩
  rw [if_neg h1] at h
  rw [if_neg h1, if_neg h1, if_neg h1, if_neg h1]
  by_cases h5 : f.wi = 5
  · rw [if_pos h5] at h
    rw [if_pos h5, if_pos h5, if_pos h5, if_pos h5]
    have h : Mid (c.pass 4) t := h
    unfold Cu.low32
    rw [pass_mid h, take_mid hc h]
    exact ⟨rfl, rfl⟩
  rw [if_neg h5] at h
  rw [if_neg h5, if_neg h5, if_neg h5, if_neg h5]
  by_cases h2 : f.wi = 2
  · rw [if_pos h2] at h
    rw [if_pos h2, if_pos h2, if_pos h2, if_pos h2, text_mid hc h]
    exact ⟨rfl, rfl⟩
  rw [if_neg h2] at h
  rw [if_neg h2, if_neg h2, if_neg h2, if_neg h2]
  exact ⟨rfl, rfl⟩
theorem nxt_mid {c : Cu} {a t : List UInt8} (hc : c.ok) (h : Mid c.nxtC t) : (c.mid a t).nxtC = c.nxtC.mid a t ∧ (c.mid a t).nxt = c.nxt := by
  have hv : Mid c.tag.2 t := by
    rcases h with h | h
    · refine .inl fun q => h ?_
      have h1 : ¬ c.tag.2.c = 0 := by rw [q]; decide
      unfold Cu.nxtC
      rw [nxC_err h1]
      exact q
    · exact .inr h
  have e := tag_mid (a := a) hc hv
  have hk := (tag_ok hc).1
  have hx := nx_mid (a := a) (f := ⟨c.tag.1.1, c.tag.1.2, 0, []⟩) hk h
  have e1 : (c.mid a t).nxtC = c.nxtC.mid a t := by
    unfold Cu.nxtC
    rw [e]
    exact hx.1
  refine ⟨e1, ?_⟩
  unfold Cu.nxt
  rw [e1, e]
  have e3 : (c.nxtC.mid a t).c = c.nxtC.c := rfl
  rw [e3]
  dsimp only
  rw [hx.2]
/-- the fuel does not matter -/
theorem each_fuel : ∀ (n m : Nat) (c : Cu) (acc : List Pf), c.ok → c.e - c.p ≤ n → c.e - c.p ≤ m → eachGo n c acc = eachGo m c acc
  | 0, 0, _, _, _, _, _ => rfl
  | 0, m + 1, c, acc, hc, hn, _ => by
    have := hc.1
    have hl : c.left = (c.e : Int) - c.p := rfl
    rw [eachGo, eachGo, if_neg (fun q => by have := q.2; omega)]
  | n + 1, 0, c, acc, hc, _, hm => by
    have := hc.1
    have hl : c.left = (c.e : Int) - c.p := rfl
    rw [eachGo, eachGo, if_neg (fun q => by have := q.2; omega)]
  | n + 1, m + 1, c, acc, hc, hn, hm => by
    have hk := nxt_ok hc
    rw [eachGo, eachGo]
    split
    · split
      · rfl
      · rename_i q
        have h0 : c.nxtC.c = 0 := by simpa using q
        have := nxt_adv h0
        exact each_fuel n m c.nxtC _ hk.1 (by rw [hk.2.2]; omega) (by rw [hk.2.2]; omega)
    · rfl
theorem each_acc : ∀ (n : Nat) (c : Cu) (acc : List Pf), eachGo n c acc = ((eachGo n c []).1, acc ++ (eachGo n c []).2)
  | 0, c, acc => by simp [eachGo]
  | n + 1, c, acc => by
    rw [eachGo, eachGo]
    split
    · split
      · simp
      · rw [each_acc n c.nxtC (acc ++ [c.nxt]), each_acc n c.nxtC ([] ++ [c.nxt])]
        simp
    · simp
/-- an error stays, bytes are left or none -/
theorem each_end : ∀ (n : Nat) (c : Cu) (acc : List Pf), c.ok → c.e - c.p ≤ n → (eachGo n c acc).1.ok ∧ (eachGo n c acc).1.s = c.s ∧ (eachGo n c acc).1.e = c.e ∧ ((eachGo n c acc).1.c = 0 → (eachGo n c acc).1.p = c.e)
  | 0, c, acc, hc, hn => by
    have := hc.1
    rw [eachGo]
    exact ⟨hc, rfl, rfl, fun _ => by show c.p = c.e; omega⟩
  | n + 1, c, acc, hc, hn => by
    have hk := nxt_ok hc
    have h1 := hc.1
    have hl : c.left = (c.e : Int) - c.p := rfl
    rw [eachGo]
    split
    · split
      · rename_i q
        exact ⟨hk.1, hk.2.1, hk.2.2, fun k => absurd k q⟩
      · rename_i q
        have h0 : c.nxtC.c = 0 := by simpa using q
        have := nxt_adv h0
        have ih := each_end n c.nxtC (acc ++ [c.nxt]) hk.1 (by rw [hk.2.2]; omega)
        exact ⟨ih.1, ih.2.1.trans hk.2.1, ih.2.2.1.trans hk.2.2, fun k => (ih.2.2.2 k).trans hk.2.2⟩
    · rename_i q
      exact ⟨hc, rfl, rfl, fun k => by show c.p = c.e; have k : c.c = 0 := k; omega⟩
/-- between other bytes -/
theorem each_mid {a t : List UInt8} : ∀ (n m : Nat) (c : Cu) (acc : List Pf), c.ok → c.c = 0 → c.e - c.p ≤ n → c.e - c.p + t.length ≤ m → Mid (eachGo n c acc).1 t →
    eachGo m (c.mid a t) acc = if (eachGo n c acc).1.c = 0 then eachGo m ((eachGo n c acc).1.mid a t) (eachGo n c acc).2 else ((eachGo n c acc).1.mid a t, (eachGo n c acc).2)
  | 0, m, c, acc, hc, h0, hn, hm, h => by
    rw [eachGo, if_pos h0]
  | n + 1, m, c, acc, hc, h0, hn, hm, h => by
    have hk := nxt_ok hc
    have h1 := hc.1
    have hl : c.left = (c.e : Int) - c.p := rfl
    have hlm : (c.mid a t).left = c.left + t.length := by
      show ((a.length + c.e + t.length : Nat) : Int) - ((a.length + c.p : Nat) : Int) = (c.e : Int) - c.p + t.length
      omega
    by_cases k : c.c = 0 ∧ c.left > 0
    · obtain ⟨q, rfl⟩ : ∃ q, m = q + 1 := ⟨m - 1, by omega⟩
      rw [eachGo, if_pos k] at h
      have hM : Mid c.nxtC t := by
        rcases h with h | h
        · refine .inl fun x => h ?_
          rw [if_pos (by rw [x]; decide)]
          exact x
        · exact .inr h
      have e := nxt_mid (a := a) hc hM
      have e2 : (c.nxtC.mid a t).c = c.nxtC.c := rfl
      have e3 : eachGo (n + 1) c acc = if c.nxtC.c ≠ 0 then (c.nxtC, acc) else eachGo n c.nxtC (acc ++ [c.nxt]) := by rw [eachGo, if_pos k]
      have e4 : eachGo (q + 1) (c.mid a t) acc = if c.nxtC.c ≠ 0 then (c.nxtC.mid a t, acc) else eachGo q (c.nxtC.mid a t) (acc ++ [c.nxt]) := by
        rw [eachGo, if_pos ⟨k.1, by rw [hlm]; omega⟩, e.1, e.2, e2]
      rw [e3, e4]
      by_cases k2 : c.nxtC.c ≠ 0
      · rw [if_pos k2, if_pos k2, if_neg k2]
      · rw [if_neg k2] at h ⊢
        rw [if_neg k2]
        have h00 : c.nxtC.c = 0 := by simpa using k2
        have hadv := nxt_adv h00
        have hp := hk.1.1
        have ih := each_mid (a := a) n q c.nxtC (acc ++ [c.nxt]) hk.1 h00 (by rw [hk.2.2]; omega) (by rw [hk.2.2]; rw [hk.2.2] at hp; omega) h
        rw [ih]
        have hE := each_end n c.nxtC (acc ++ [c.nxt]) hk.1 (by rw [hk.2.2]; omega)
        by_cases k3 : (eachGo n c.nxtC (acc ++ [c.nxt])).1.c = 0
        · rw [if_pos k3, if_pos k3]
          have h5 := hE.2.2.2 k3
          refine each_fuel q (q + 1) _ _ ⟨?_, ?_⟩ ?_ ?_
          · show a.length + _ ≤ a.length + _ + t.length
            have := hE.1.1; omega
          · show a.length + _ + t.length ≤ (a ++ (_ ++ t)).length
            have := hE.1.2
            rw [List.length_append, List.length_append]; omega
          · show a.length + _ + t.length - (a.length + _) ≤ q
            rw [h5, hE.2.2.1]; rw [hk.2.2] at hp ⊢; omega
          · show a.length + _ + t.length - (a.length + _) ≤ q + 1
            rw [h5, hE.2.2.1]; rw [hk.2.2] at hp ⊢; omega
        · rw [if_neg k3, if_neg k3]
    · rw [eachGo, if_neg k, if_pos h0]
/-- two texts side by side -/
theorem all_app (s t : List UInt8) : (aFine s ≠ 0 → aFine s = 1 ∨ aFine (s ++ t) = aFine s) ∧
    (aFine s = 0 → aFine (s ++ t) = aFine t ∧ (aFine t = 0 → aFds (s ++ t) = aFds s ++ aFds t)) := by
  have hn : ∀ s : List UInt8, (Cu.new s).ok := fun s => ⟨Nat.zero_le _, Nat.le_refl _⟩
  have hd : ∀ s : List UInt8, aFine s = (eachGo s.length (.new s) []).1.c := fun s => rfl
  have hf : ∀ s : List UInt8, aFine s = 0 → aFds s = (eachGo s.length (.new s) []).2 := fun s h => by unfold aFds; rw [if_pos h]; rfl
  have e0 : Cu.new (s ++ t) = (Cu.new s).mid [] t := by
    show Cu.mk _ _ _ _ = Cu.mk _ _ _ _
    simp [Cu.new]
  have hE := each_end s.length (.new s) [] (hn s) (Nat.le_refl _)
  have key := fun h => each_mid (a := []) (t := t) s.length (s ++ t).length (.new s) [] (hn s) rfl (Nat.le_refl _) (by show s.length + t.length ≤ _; rw [List.length_append]; omega) h
  constructor
  · intro h
    by_cases h1 : aFine s = 1
    · exact .inl h1
    · right
      have key := key (.inl (by rw [← hd]; exact h1))
      rw [hd (s ++ t), e0, key, if_neg (by rw [← hd]; exact h)]
      rfl
  · intro h
    have h0 : (eachGo s.length (.new s) []).1.c = 0 := h
    have key := key (.inl (by rw [h0]; decide))
    rw [if_pos h0] at key
    obtain ⟨hk, hs, he, hp⟩ := hE
    have hp := hp h0
    have e1 : (eachGo s.length (.new s) []).1.mid [] t = (Cu.new t).mid s [] := by
      show Cu.mk ([] ++ (_ ++ t)) (0 + _) (0 + _ + t.length) _ = Cu.mk (s ++ (t ++ [])) (s.length + 0) (s.length + t.length + 0) 0
      rw [hs, he, hp, h0]
      simp [Cu.new]
    have e2 := each_mid (a := s) (t := []) t.length (s ++ t).length (.new t) (eachGo s.length (.new s) []).2 (hn t) rfl (Nat.le_refl _) (by show t.length + 0 ≤ _; rw [List.length_append]; omega) (.inr rfl)
    rw [e1, e2, each_acc t.length (.new t)] at key
    have e3 : ∀ (P : Prop) [Decidable P] (x : Cu × List Pf) (m : Nat), x.1.ok → x.1.s = t → x.1.e = t.length → x.1.c = 0 → x.1.p = t.length → eachGo m (x.1.mid s []) x.2 = (x.1.mid s [], x.2) := by
      intro P _ x m _ h1 h2 h3 h4
      cases m with
      | zero => rfl
      | succ m =>
        rw [eachGo, if_neg]
        intro q
        have q2 : ((s.length + x.1.e + 0 : Nat) : Int) - ((s.length + x.1.p : Nat) : Int) > 0 := q.2
        omega
    have hT := each_end t.length (.new t) [] (hn t) (Nat.le_refl _)
    have key2 : eachGo (s ++ t).length (.new (s ++ t)) [] = ((eachGo t.length (.new t) []).1.mid s [], (eachGo s.length (.new s) []).2 ++ (eachGo t.length (.new t) []).2) := by
      rw [e0, key]
      dsimp only
      split
      · rename_i q
        exact e3 True ((eachGo t.length (.new t) []).1, (eachGo s.length (.new s) []).2 ++ (eachGo t.length (.new t) []).2) _ hT.1 hT.2.1 hT.2.2.1 q (hT.2.2.2 q)
      · rfl
    have h9 : aFine (s ++ t) = aFine t := by rw [hd, key2]; rfl
    refine ⟨h9, fun k => ?_⟩
    rw [hf _ (h9.trans k), hf _ h, hf _ k, key2]
end Go.Proofs.YtgiocgghmlmgfaaDoor
