/-
  A field is read of the bytes that were laid of it.
-/
import Derived.Test.YtbeejnmeakcpjaaDoorPRk
import Derived.Test.YtbeejnmeakcpjaaDoorCRp
set_option linter.unusedSimpArgs false
set_option linter.unusedVariables false
set_option maxHeartbeats 4000000
namespace Go.Proofs.YtbeejnmeakcpjaaDoor
open Go Go.VG
set_option maxRecDepth 100000
theorem low_read4 {s : List UInt8} {p u : Nat} (hr : Rd s (low 4 u) p) : (cu s p).low32 = (u % 4294967296, cu s (p + (low 4 u).length)) := by
  obtain ⟨h1, h2⟩ := cu_take (n := 4) hr (by rw [low_length]; rfl)
  have h4 : (256 : Nat) ^ 4 = 4294967296 := by decide
  unfold Cu.low32
  rw [h1, h2, ← low_mod 4 u, h4, lowR_low 4 _ (by rw [h4]; omega), low_length]
/-- what a field's wire type keeps -/
def keepF (f : Pf) : Pf := ⟨f.no, f.wi, if f.wi = 2 then 0 else if f.wi = 5 then f.num % 4294967296 else f.num, if f.wi = 2 then f.text else []⟩
theorem tagN_U {n w : Int} (h : mayT n w = true) : tagN (tagU n w) = n ∧ tagW (tagU n w) = w := by
  have hb := mayT_b h
  have h1 := tagU_lt h
  unfold tagN tagW tagU at *
  rw [if_neg (by omega), if_neg (by omega)]
  omega
theorem tag_put {s : List UInt8} {p : Nat} {n w : Int} (h : mayT n w = true) (hr : Rd s (tagB n w) p) : (cu s p).tag = ((n, w), cu s (p + (tagB n w).length)) := by
  have h1 := tagU_lt h
  have e : tagB n w = vput (tagU n w) := by unfold tagB; rw [if_pos h]
  rw [e] at hr ⊢
  have hv := vread_put (by omega) hr
  unfold Cu.tag
  rw [hv]
  dsimp only
  rw [(tagN_U h).1, (tagN_U h).2, if_neg (fun q => q rfl), if_pos h]
theorem con_put {s : List UInt8} {p : Nat} {f : Pf} (hm : mayT f.no f.wi = true) (hn : 0 ≤ f.num ∧ f.num ≤ 18446744073709551615) (ht : f.text.length ≤ 18446744073709551615) (hr : Rd s (conB f) p) :
    nxC ⟨f.no, f.wi, 0, []⟩ (cu s p) = cu s (p + (conB f).length) ∧ nxV ⟨f.no, f.wi, 0, []⟩ (cu s p) = keepF f := by
  have hb := mayT_b hm
  obtain ⟨no, wi, num, text⟩ := f
  obtain ⟨u, rfl⟩ := Int.eq_ofNat_of_zero_le hn.1
  dsimp only at *
  rcases hb.2 with rfl | rfl | rfl | rfl
  · have hr : Rd s (vput u) p := hr
    have := vread_put (by omega) hr
    unfold nxC nxV
    dsimp only
    rw [if_pos rfl, if_pos rfl, this]
    exact ⟨rfl, rfl⟩
  · have hr : Rd s (low 8 u) p := hr
    have := low_read (by omega) hr
    unfold nxC nxV
    dsimp only
    rw [if_neg (by decide), if_pos rfl, if_neg (by decide), if_pos rfl, this]
    exact ⟨rfl, rfl⟩
  · have hr : Rd s (vput text.length ++ text) p := hr
    have := text_put (by omega) hr
    unfold nxC nxV
    dsimp only
    rw [if_neg (by decide), if_neg (by decide), if_neg (by decide), if_pos rfl, if_neg (by decide), if_neg (by decide), if_neg (by decide), if_pos rfl, this]
    exact ⟨rfl, rfl⟩
  · have hr : Rd s (low 4 u) p := hr
    have := low_read4 hr
    unfold nxC nxV
    dsimp only
    rw [if_neg (by decide), if_neg (by decide), if_pos rfl, if_neg (by decide), if_neg (by decide), if_pos rfl, this]
    refine ⟨rfl, ?_⟩
    unfold keepF
    dsimp only
    rw [if_neg (by decide), if_pos rfl, if_neg (by decide)]
    rfl
theorem fld_rd {s : List UInt8} {p : Nat} {f : Pf} (hm : mayT f.no f.wi = true) (hn : 0 ≤ f.num ∧ f.num ≤ 18446744073709551615) (ht : f.text.length ≤ 18446744073709551615) (hr : Rd s (fldB f) p) :
    (cu s p).nxtC = cu s (p + (fldB f).length) ∧ (cu s p).nxt = keepF f := by
  have e : fldB f = tagB f.no f.wi ++ conB f := by unfold fldB; rw [if_pos hm]
  rw [e] at hr ⊢
  obtain ⟨r1, r2⟩ := hr.app
  have h1 := tag_put hm r1
  have h2 := con_put hm hn ht r2
  have h3 : (cu s p).nxtC = cu s (p + (tagB f.no f.wi ++ conB f).length) := by
    unfold Cu.nxtC
    rw [h1]
    dsimp only
    rw [h2.1, List.length_append, Nat.add_assoc]
  refine ⟨h3, ?_⟩
  unfold Cu.nxt
  rw [h3, if_neg (fun q => q rfl), h1]
  exact h2.2
/-- the fields' bytes, one behind the other -/
def fldsB (l : List Pf) : List UInt8 := (l.map fldB).flatten
def okF (f : Pf) : Prop := mayT f.no f.wi = true ∧ (0 ≤ f.num ∧ f.num ≤ 18446744073709551615) ∧ f.text.length ≤ 18446744073709551615
theorem fld_ne {f : Pf} (h : mayT f.no f.wi = true) : 0 < (fldB f).length := by
  have := fun q => (tagB_nil (n := f.no) (w := f.wi)).mp q h
  unfold fldB
  rw [if_pos h, List.length_append]
  have : 0 < (tagB f.no f.wi).length := List.length_pos_iff.mpr this
  omega
theorem each_flds {s : List UInt8} : ∀ (l : List Pf) (n p : Nat) (acc : List Pf), (∀ f ∈ l, okF f) → Rd s (fldsB l) p → p + (fldsB l).length = s.length → l.length ≤ n →
    eachGo n (cu s p) acc = (cu s s.length, acc ++ l.map keepF)
  | [], n, p, acc, _, hr, he, _ => by
    have e : p = s.length := he
    subst e
    rw [List.map_nil, List.append_nil]
    cases n with
    | zero => rfl
    | succ n =>
      rw [eachGo, if_neg]
      intro q
      have h : (cu s s.length).left = (s.length : Int) - s.length := rfl
      have := q.2
      omega
  | f :: l, n, p, acc, hf, hr, he, hn => by
    obtain ⟨m, rfl⟩ : ∃ m, n = m + 1 := ⟨n - 1, by rw [List.length_cons] at hn; omega⟩
    have e : fldsB (f :: l) = fldB f ++ fldsB l := rfl
    rw [e] at hr he
    obtain ⟨r1, r2⟩ := hr.app
    obtain ⟨k1, k2, k3⟩ := hf f (List.mem_cons_self ..)
    have h1 := fld_rd k1 k2 k3 r1
    have hne := fld_ne k1
    rw [List.length_append] at he
    rw [eachGo, if_pos, h1.1, h1.2, if_neg (fun q => q rfl), each_flds l m (p + (fldB f).length) (acc ++ [keepF f]) (fun g hg => hf g (List.mem_cons_of_mem _ hg)) r2 (by omega) (by rw [List.length_cons] at hn; omega)]
    · rw [List.map_cons, List.append_assoc]; rfl
    · refine ⟨rfl, ?_⟩
      have h : (cu s p).left = (s.length : Int) - p := rfl
      omega
theorem flds_len : ∀ (l : List Pf), (∀ f ∈ l, okF f) → l.length ≤ (fldsB l).length
  | [], _ => Nat.zero_le _
  | f :: l, h => by
    have := flds_len l (fun g hg => h g (List.mem_cons_of_mem _ hg))
    have := fld_ne (h f (List.mem_cons_self ..)).1
    have e : fldsB (f :: l) = fldB f ++ fldsB l := rfl
    rw [e, List.length_append, List.length_cons]
    omega
theorem all_flds (l : List Pf) (h : ∀ f ∈ l, okF f) : aFine (fldsB l) = 0 ∧ aFds (fldsB l) = l.map keepF := by
  have hl := flds_len l h
  have key : (Cu.new (fldsB l)).all [] = (cu (fldsB l) (fldsB l).length, l.map keepF) := each_flds (s := fldsB l) l ((fldsB l).length) 0 [] h ⟨[], [], by simp, rfl⟩ (by omega) hl
  have h1 : aFine (fldsB l) = 0 := by unfold aFine; rw [key]; rfl
  refine ⟨h1, ?_⟩
  unfold aFds
  rw [h1, if_pos rfl, key]
end Go.Proofs.YtbeejnmeakcpjaaDoor
