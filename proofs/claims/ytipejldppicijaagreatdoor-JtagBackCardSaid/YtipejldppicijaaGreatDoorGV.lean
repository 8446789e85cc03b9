/-
  A part of the proof.
-/
import Derived.Test.YtipejldppicijaaGreatDoorGT
import Derived.Test.YtipejldppicijaaGreatDoorGJ
import Derived.Test.YtipejldppicijaaGreatDoorGL
set_option linter.unusedSimpArgs false
set_option linter.unusedVariables false
set_option maxHeartbeats 4000000
namespace Go.Proofs.YtipejldppicijaaGreatDoor
open Go Go.VG
set_option maxRecDepth 100000
theorem f_wl (l : List ak) (hz : cX l) : OK 48 [.ptr 0 0, .int .i64 5, .list false 7 (bB l)] (aN w0) (.tuple []) (some (aN (w0.ops (dx 5 l)))) := by
 refine af (C := cx [(102, sX), (26, wY), (49, im)]) (ah ⟨Aq, Jb, jh, trivial⟩) (fn := Tryz.f48) rfl rfl rfl rfl fun hw _ => ?_
 have hl := jW l
 have hz2 := hz.z
 rw [iH]
 have e1 : (l.map ea).length = l.length := by simp
 have hw1 := fun h => wi_0 (l := l) h hz
 have hb := wi_b hz
 repeat' ((conv => whnf); first | apply a9 | (apply al <;> intro h))
 all_goals try conv => whnf
 all_goals try (refine a8.mk ?_; try dsimp only)
 all_goals (try simp only [bD, e1] at *)
 . unfold dx
   rw [if_pos (by omega)]
   refine a7.mk [] ?_ <;> (repeat' first | trivial)
 . exact ⟨aR (by decide) (by decide), by decide, by decide⟩
 rw [hw1 (by omega)]
 refine bd.mk Nat (fun i => i ≤ l.length) (fun i => ⟨28, [(0, .ptr 0 0), (16, .list false 7 (l.map ea)), (17, .int .i64 l.length), (18, .int .i64 i)], aN (wi l i), [1, 2]⟩) (fun i => l.length - i) [] 0 (Nat.zero_le _) ?_ (fun i hi _ _ => ?_)
 . refine Go.VG.Sub.mk rfl ?_ ?_ ?_ ?_ <;> (repeat' first | trivial)
 have hbi := hb i
 have hA : i < l.length → (l.getD i default).value.ok ∧ (l.getD i default).value.size ≤ 300000 ∧ (l.getD i default).key.length ≤ 30000000 := fun h => by
  have h1 := sm h
  have h2 := qA h1
  exact ⟨hz.ok _ h1, by omega⟩
 have hS := fun h => wi_s (l := l) (i := i) h hz
 repeat' ((conv => whnf); first | apply a9 | (apply al <;> intro h) | with_reducible apply jd)
 all_goals try conv => whnf
 all_goals try (refine a8.mk ?_; try dsimp only)
 all_goals (try simp only [bD, uJ, Int.toNat_natCast] at *)
 . omega
 . omega
 . exact ⟨aR (by omega) (by omega), ⟨Wk.refl _, hA (by omega)⟩, by omega, by omega⟩
 . rw [hS (by omega)]
   refine ⟨[], i + 1, by omega, ?_, by omega⟩
   rw [show IntKind.i64.wrap ((i : Int) + 1) = ((i + 1 : Nat) : Int) by rw [bU]; omega]
   refine Go.VG.Sub.mk rfl ?_ ?_ ?_ ?_ <;> (repeat' first | trivial)
 . exact ⟨aR (by omega) (by omega), by omega, by omega⟩
 . have hi2 : i = l.length := by omega
   subst hi2
   rw [wi_e (by omega) hz]
   refine a7.mk [] ?_ <;> (repeat' first | trivial)
theorem GK (w : CS) (id : Int) (y : V) (hp : (dK y ∧ cX (bF y)) ∧ w = w0 ∧ id = 5) : OK 48 ([.ptr 0 0, .int .i64 id, y]) (aN w) (.tuple []) (some (aN (w.ops (dx id (bF y))))) := by
 obtain ⟨⟨hy, hz⟩, rfl, rfl⟩ := hp
 exact (f_wl _ hz).args (aq.cons (Wk.refl _) (aq.cons (Wk.refl _) (aq.cons hy aq.nil)))
def wX : Sm := fun args σ => match args, σ with
 | [.ptr 0 0, .int .i64 id, y], [.cells [.buf 1, .buf 2, .int .i64 c_w], .buf 1 0 o_w, .buf 4 0 l_w] => some (dk o_w l_w ∧ ((dK y ∧ cX (bF y)) ∧ (b9 o_w l_w c_w) = w0 ∧ id = 5), .tuple [], some (aN ((b9 o_w l_w c_w).ops (dx id (bF y)))))
 | _, _ => none
theorem Ja : aa 48 wX := by
 intro args sg pre x r he hp
 unfold wX at he
 split at he <;> cases he
 . rw [eL (hp).1]; exact GK (hp := hp.2) ..
theorem Ie (l : List ak) (hz : cX l) : OK 19 [.list false 7 (bB l)] [] (.tuple [.str (eH l), .int .i64 0]) none := by
 refine af (C := cx [(25, qQ), (47, jq), (48, wX), (49, im), (27, qP)]) (ah ⟨vo, l6, Ja, jh, vn, trivial⟩) (fn := Tryz.f19) rfl rfl rfl rfl fun hw _ => ?_
 obtain ⟨hb, hb2, hb3⟩ := w0_b hz
 have hs : CS.new.struct 0 = w0 := rfl
 repeat' ((conv => whnf); apply a9)
 all_goals try conv => whnf
 all_goals try (refine a8.mk ?_; try dsimp only)
 all_goals (try simp only [bD, gW, hs, hb] at *)
 . exact ⟨aR (by decide) (by decide), by decide, by decide⟩
 . exact ⟨aR (by decide) (by decide), ⟨i7 l, hz⟩, trivial, trivial⟩
 . exact ⟨aR (by omega) (by omega), by omega, by omega⟩
 . exact ⟨aR (l := []) (by have := BS hz; omega) (by decide), trivial⟩
 refine a7.mk [] ?_ <;> (repeat' first | trivial | apply ab | apply aV | apply bZ | apply aM)
 rw [uI]; rfl
def te : Sm := fun args σ => match args, σ with
 | [y], [] => some (dK y ∧ cX (bF y), .tuple [.str (eH (bF y)), .int .i64 0], none)
 | _, _ => none
theorem Ax : aa 19 te := by
 intro args sg pre x r he hp
 unfold te at he
 split at he <;> cases he
 exact (Ie _ hp.2).args (aq.cons hp.1 aq.nil)
theorem DE : ∀ L : List aU, L.length ≤ cV L
 | [] => Nat.zero_le _
 | o :: L => by rw [cV, List.length_cons]; have := DE L; omega
def cO (L : List aU) (i : Nat) : CS := CS.new.ops (L.take i)
theorem cO_b {L : List aU} (hL : ∀ o ∈ L, kh o) (hw : cV L ≤ 100000000) (i : Nat) : (cO L i).out.length ≤ 100000000 ∧ (cO L i).l.length ≤ 40 := by
 have h := BQ (L.take i) CS.new (fun o ho => hL o (List.mem_of_mem_take ho)) (by decide)
 have h2 := DF L i
 exact ⟨by have : (cO L i).out.length ≤ _ := h.1; simp only [CS.new, List.length_nil] at this; omega, h.2⟩
theorem Hw (L : List aU) (hL : ∀ o ∈ L, kh o) (hw1 : cV L ≤ 100000000) : OK 20 [.buf 0] [.buf 6 0 (L.map c8)] (.tuple [.str (CS.new.ops L).done.1, .int .i64 (CS.new.ops L).done.2]) (some [.buf 6 0 (L.map c8)]) := by
 refine af (C := cx [(50, xg), (51, xh)]) (ah ⟨Jk, Jl, trivial⟩) (fn := Tryz.f20) rfl rfl rfl rfl fun hw hs => ?_
 have hb := cO_b hL hw1
 have hLl := DE L
 have e1 : (L.map c8).length = L.length := by simp
 all_goals try conv => whnf
 all_goals try (refine a8.mk ?_; try dsimp only)
 refine bd.mk Nat (fun i => i ≤ L.length) (fun i => ⟨22, [(0, .buf 0), (4, .ptr 1 0), (5, .int .i64 i)], [.buf 6 0 (L.map c8), .cells [.str (cO L i).out, .buf 2, .int .i64 (cO L i).code], .buf 4 0 ((cO L i).l.map eP)], [2]⟩) (fun i => L.length - i) [.cell 1 1 4] 0 (Nat.zero_le _) ?_ (fun i hi _ _ => ?_)
 . refine Go.VG.Sub.mk rfl ?_ ?_ ?_ ?_ <;> (repeat' first | trivial)
 have hbi := hb i
 have hn := fun h => (KX (l := L) (i := i) h CS.new)
 have hk1 := fun h => EA (cO L i) (L.getD i default) (hL _ h).k
 have hm : i < L.length → L.getD i default ∈ L := fun h => by
  rw [List.getD_eq_getElem?_getD, List.getElem?_eq_getElem h]; exact List.getElem_mem h
 repeat' ((conv => whnf); first | apply a9 | (apply al <;> intro h) | with_reducible apply jd)
 all_goals try conv => whnf
 all_goals try (refine a8.mk ?_; try dsimp only)
 all_goals (try simp only [oL, oM, kr] at *)
 all_goals first | refine stay ?_ | omega | skip
 all_goals (try simp only [List.length_map, Int.toNat_natCast] at *)
 . exact ⟨trivial, vS (by omega), by omega, by omega, (hL _ (hm (by omega))).t⟩
 . have hk1 := hk1 (hm (by omega))
   have hn : (cO L i).op (L.getD i default) = cO L (i + 1) := (hn (by omega)).symm
   rw [hk1, hn]
   refine ⟨[], i + 1, by omega, ?_, by omega⟩
   rw [show IntKind.i64.wrap ((i : Int) + 1) = ((i + 1 : Nat) : Int) by rw [bU]; omega]
   refine Go.VG.Sub.mk rfl ?_ ?_ ?_ ?_ <;> (repeat' first | trivial)
 . exact vS (by omega)
 . have hi2 : i = L.length := by omega
   subst hi2
   have e : cO L L.length = CS.new.ops L := by unfold cO; rw [List.take_length]
   rw [e]
   refine a7.mk [] ?_ <;> (repeat' first | trivial)
end Go.Proofs.YtipejldppicijaaGreatDoor
namespace Go.Proofs.YtipejldppicijaaGreatDoor
open Go Go.VG
set_option maxRecDepth 100000
def j7 : V → aU
 | .agg [.int _ k, .int _ i, .int _ n, .int _ w, .int _ b, .str t] => ⟨k, i, n, w, b, t⟩
 | _ => ⟨0, 0, 0, 0, 0, []⟩
theorem uK (L : List aU) : (L.map c8).map j7 = L := by
 induction L with
 | nil => rfl
 | cons o L ih => rw [List.map_cons, List.map_cons, ih]; rfl
def tF : Sm := fun args σ => match args, σ with
 | [.buf 0], [.buf 6 0 l] => some (l = (l.map j7).map c8 ∧ (∀ o ∈ l.map j7, kh o) ∧ cV (l.map j7) ≤ 100000000, .tuple [.str (CS.new.ops (l.map j7)).done.1, .int .i64 (CS.new.ops (l.map j7)).done.2], some [.buf 6 0 l])
 | _, _ => none
theorem AO : aa 20 tF := by
 intro args sg pre x r he hp
 unfold tF at he
 split at he <;> cases he
 rename_i l
 obtain ⟨h1, h2, h3⟩ := hp
 have := Hw (l.map j7) h2 h3
 rw [← h1] at this
 exact this
theorem BG : ∀ {l : List ak}, dG l → ∀ a ∈ l, a.value.ok
 | b :: l, h, a, ha => by
   simp only [dG] at h
   rcases List.mem_cons.1 ha with rfl | ha
   . obtain ⟨k, v⟩ := a; exact h.1
   . exact BG h.2 a ha
theorem ML (l : List ak) : (dx 5 l).length ≤ 5 * l.length + 2 := by
 have := uW l
 unfold dx
 split
 . exact Nat.zero_le _
 . simp only [List.length_cons, List.length_append, this, List.length_nil]; omega
theorem E4 (k : List UInt8) (v : ae) (t : List UInt8) (l : List ak) : List.take (Int.toNat 1) (List.map c8 (cL 0 k v t)) ++ List.map c8 (dx 5 l) ++ [V.agg [V.int IntKind.u8 101, V.int IntKind.i64 0, V.int IntKind.i64 0, V.int IntKind.u8 0, V.int IntKind.u64 0, V.str []]] = (fe l).map c8 := by
 unfold fe
 rw [List.map_cons, List.map_append]; rfl
structure ue (l : List ak) : Prop where
 z : cX l
 d : CS.new.ops (fe l) = ⟨eH l, [], 0⟩
 o : ∀ o ∈ fe l, kh o
 w : cV (fe l) ≤ 7000000
 n : (eH l).length ≤ 7000000
 r : (bK 0 (eH l)).1 = 0 ∧ (∀ f ∈ (bK 0 (eH l)).2.2, f.raw.length ≤ (eH l).length) ∧ gM (bK 0 (eH l)).2.2 5 1 = (l.map lL, 0)
 i : l.length ≤ 4000
theorem yo {l : List ak} (h : cX l) : ue l := by
 have h1 := jW l
 have h2 := h.z
 exact ⟨h, yu h.a (by omega), E3 h, N6 h, BS h, E5 h.a (by omega), by omega⟩
theorem BY {a : ak} (h : a.value.kind = 0 ∨ a.value.kind ≥ 6) : jQ a = .mk a.key (.mk 1 (text a.value) 0 0 [] []) := if_pos h
theorem plA_2 {a : ak} (h : ¬ (a.value.kind = 0 ∨ a.value.kind ≥ 6)) : jQ a = a := if_neg h
theorem Dl : (cD (eR tz)).value.ok ∧ (cD (eR tz)).value.size ≤ 300000 := by
 rw [rG]
 simp [Tg.nd, ak.value, ae.ok, eG, dG, ae.size, eb, bE]
theorem GX (l : List ak) (hok : dG l) (h0 : 0 < l.length) : OK 4 [.list false 7 (bB l)] [] (.bool true) none := by
 refine af (C := cxh [(17, sK), (18, sM), (6, tj), (19, te), (21, oA), (22, xp), (23, lH), (20, tF), (10, qO), (12, tf), (24, sO), (16, sQ)] [(17, [.bH 1])])
  (ah ⟨Bf, Ad, AB, Ax, s3, Jt, nY, AO, vm, Az, Ah, Aj, trivial⟩) (fn := Tryz.f4) rfl rfl rfl rfl fun hw _ => ?_
 have hs := vD l 2000
 have hZ : ¬ d6 l 2000 < 0 → ue l := fun h => yo ⟨BG hok, by have := hs (by omega); omega⟩
 clear hs
 have hTl := ML l
 repeat' ((conv => whnf); first | apply a9 | apply aJ | ((first | apply al | apply gk) <;> intro h))
 all_goals try conv => whnf
 all_goals try (refine a8.mk ?_; try dsimp only)
 all_goals (try simp only [gW, E4, uK, db] at *)
 . exact ⟨i7 l, by decide⟩
 . refine a7.mk [] ?_ <;> (repeat' first | trivial)
 . exact ⟨i7 l, by have := (hZ (by omega)).z.z; omega, by decide, by decide⟩
 . exact ⟨i7 l, (hZ (by omega)).z⟩
 . exact ⟨by have := y4 tz; rw [← rG] at this; exact this, Dl⟩
 . exact ⟨by decide, trivial, by show (1 : Int) ≤ ((5 : Nat) : Int); decide⟩
 . exact ⟨⟨i7 l, (hZ (by omega)).z⟩, h0⟩
 . have := (hZ (by omega)).i
   simp only [List.length_take, List.length_map]
   omega
 . refine .inr ?_
   unfold dx
   rw [if_neg (by omega)]
   simp
 . have := (hZ (by omega)).i
   simp only [List.length_append, List.length_take, List.length_map, List.length_singleton]
   omega
 . have := hZ (by omega)
   exact ⟨trivial, this.o, by have := this.w; omega⟩
 . exact ⟨by decide, by have := (hZ (by omega)).n; omega⟩
 . have := hZ (by omega)
   exact ⟨trivial, ⟨by decide, fun f hf => by have h1 := this.r.2.1 f hf; have h2 := this.n; omega⟩, by decide⟩
 . have hF := hZ (by omega)
   rw [hF.r.2.2, hF.r.1]
   have hfi := hF.i
   refine bd.mk Nat (fun i => i ≤ l.length) (fun i => ⟨107, [(0, .list false 7 (bB l)), (9, .int .i64 0), (10, .list false 7 ((l.map lL).map eR)), (11, .int .i64 0), (12, .buf 1), (13, .int .i64 i)], [.dead, .buf 7 0 (((l.take i).map jQ).map ea)], [0, 1]⟩) (fun i => l.length - i) [.tm 12 7] 0 (Nat.zero_le _) ?_ (fun i hi _ _ => ?_)
   . refine Go.VG.Sub.mk rfl ?_ ?_ ?_ ?_ <;> (repeat' first | trivial)
   have el : (bB l).length = l.length := by rw [iH, List.length_map]
   have hA : i < l.length → (l.getD i default).value.ok ∧ (l.getD i default).value.size ≤ 300000 := fun h => by
    have h1 := sm h
    have h2 := qA h1
    have h3 := hF.z.z
    exact ⟨hF.z.ok _ h1, by omega⟩
   repeat' ((conv => whnf); first | apply a9 | ((first | apply al | apply bu) <;> intro h) | with_reducible refine nR ?_ ?_)
   all_goals try conv => whnf
   all_goals try (refine a8.mk ?_; try dsimp only)
   all_goals (try simp only [el, az, Int.toNat_natCast, List.length_map] at *)
   . omega
   . omega
   . exact ⟨ba _, hA (by omega)⟩
   . simp only [List.length_take, List.length_singleton]; omega
   . refine ⟨[], i + 1, by omega, ?_, by omega⟩
     rw [show IntKind.i64.wrap ((i : Int) + 1) = ((i + 1 : Nat) : Int) by rw [bU]; omega]
     have hP : jQ (l.getD i default) = _ := (BY (by omega))
     refine Go.VG.Sub.mk rfl ?_ ?_ ?_ ?_ <;> (repeat' first | trivial | apply ab | apply aE)
     rw [qZ (by omega), List.map_append, List.map_append, List.map_cons, List.map_nil, List.map_cons, List.map_nil, hP]
     all_goals rfl
   . exact ⟨ba _, hA (by omega)⟩
   . simp only [List.length_take, List.length_singleton]; omega
   . refine ⟨[], i + 1, by omega, ?_, by omega⟩
     rw [show IntKind.i64.wrap ((i : Int) + 1) = ((i + 1 : Nat) : Int) by rw [bU]; omega]
     have hP : jQ (l.getD i default) = _ := (BY (by omega))
     refine Go.VG.Sub.mk rfl ?_ ?_ ?_ ?_ <;> (repeat' first | trivial | apply ab | apply aE)
     rw [qZ (by omega), List.map_append, List.map_append, List.map_cons, List.map_nil, List.map_cons, List.map_nil, hP]
     all_goals rfl
   . simp only [List.length_take, List.length_singleton]; omega
   . refine ⟨[], i + 1, by omega, ?_, by omega⟩
     rw [show IntKind.i64.wrap ((i : Int) + 1) = ((i + 1 : Nat) : Int) by rw [bU]; omega]
     have hP : jQ (l.getD i default) = _ := (plA_2 (by omega))
     refine Go.VG.Sub.mk rfl ?_ ?_ ?_ ?_ <;> (repeat' first | trivial | apply ab | apply aE)
     rw [qZ (by omega), List.map_append, List.map_append, List.map_cons, List.map_nil, List.map_cons, List.map_nil, hP]
     all_goals rfl
   . exact ⟨IK _ _, by rw [← iH]; exact i7 _⟩
   . refine a7.mk [] ?_ <;> (repeat' first | trivial)
   . have hi2 : i = l.length := by omega
     subst hi2
     exfalso
     have e : cU (bF (.list false 7 ((l.map lL).map eR))) (bF (.list false 7 (((l.take l.length).map jQ).map ea))) = true := by
      rw [List.take_length, ← iH, gW]
      exact E6 hF.z (by assumption)
     simp only [e, cond_true] at *
     first
      | contradiction
      | (simp_all; done)
 . have hF := hZ (by omega)
   rw [hF.d, rH] at *
   contradiction
 . have hF := hZ (by omega)
   rw [hF.d, rH] at *
   contradiction
 . refine a7.mk [] ?_ <;> (repeat' first | trivial)
theorem Md : (bif true then cU (bF (.list false 7 [])) (bF (.list true 0 [])) else false) = true := by simp [bF, fh, cU]
theorem GW : OK 4 [.list false 7 []] [] (.bool true) none := by
 refine af (C := cxh [(17, sK), (18, sM), (6, tj), (19, te), (21, oA), (22, xq), (23, lH), (20, tF), (10, qO), (12, tf), (24, sO), (16, sQ)] [])
  (ah ⟨Bf, Ad, AB, Ax, s3, Ju, nY, AO, vm, Az, Ah, Aj, trivial⟩) (fn := Tryz.f4) rfl rfl rfl rfl fun hw _ => ?_
 have hm : dK (.list false 7 []) := i7 []
 have hd0 : bF (.list false 7 []) = [] := by simp [bF, fh]
 have hd1 : bF (.list true 0 []) = [] := by simp [bF, fh]
 have hmn : dK (.list true 0 []) := by
  unfold dK
  rw [hd1]
  exact Wk.nil (.inl rfl)
 have hF : ue [] := yo ⟨fun a ha => (nomatch ha), by decide⟩
 repeat' ((conv => whnf); apply a9)
 all_goals try conv => whnf
 all_goals try (refine a8.mk ?_; try dsimp only)
 all_goals (try simp only [hd0, uK, db] at *)
 . exact ⟨hm, by decide⟩
 . exact ⟨hm, by decide, by decide, by decide⟩
 . exact ⟨hm, hF.z⟩
 . exact ⟨by have := y4 tz; rw [← rG] at this; exact this, Dl⟩
 . exact ⟨by decide, trivial, by show (1 : Int) ≤ ((5 : Nat) : Int); decide⟩
 . exact ⟨hm, trivial⟩
 . exact Nat.zero_le _
 . show 1 + 1 ≤ 4294967296
   decide
 . exact .inr (by simp)
 . change List.map c8 (fe []) = List.map c8 (List.map j7 (List.map c8 (fe []))) ∧ (∀ o ∈ List.map j7 (List.map c8 (fe [])), kh o) ∧ cV (List.map j7 (List.map c8 (fe []))) ≤ 100000000
   rw [uK]
   exact ⟨rfl, hF.o, by have := hF.w; omega⟩
 . exact ⟨by decide, by have := hF.n; omega⟩
 . exact ⟨trivial, ⟨by decide, fun f hf => by have h1 := hF.r.2.1 f hf; have h2 := hF.n; omega⟩, by decide⟩
 . rw [hF.r.2.2, hF.r.1]
   refine bd.mk Nat (fun i => i = 0) (fun _ => ⟨107, [(0, .list false 7 []), (9, .int .i64 0), (10, .list false 7 []), (11, .int .i64 0), (12, .list true 0 []), (13, .int .i64 0)], [.dead, .dead], [0, 1]⟩) (fun _ => 0) [] 0 rfl ?_ (fun i hi _ _ => ?_)
   . refine Go.VG.Sub.mk rfl ?_ ?_ ?_ ?_ <;> (repeat' first | trivial)
   repeat' ((conv => whnf); first | apply a9 | (apply bu <;> intro h))
   all_goals try conv => whnf
   all_goals try (refine a8.mk ?_; try dsimp only)
   all_goals (try simp only [hd0] at *)
   . exact ⟨hm, hmn⟩
   . refine a7.mk [] ?_ <;> (repeat' first | trivial)
   . rename_i h
     exact absurd (Md.symm.trans h) (by decide)
end Go.Proofs.YtipejldppicijaaGreatDoor
