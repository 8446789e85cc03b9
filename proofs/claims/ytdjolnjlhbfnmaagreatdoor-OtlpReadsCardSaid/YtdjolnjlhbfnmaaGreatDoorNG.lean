/-
  A part of the proof.
-/
import Derived.Test.YtdjolnjlhbfnmaaGreatDoorNC
import Derived.Test.YtdjolnjlhbfnmaaGreatDoorBt
set_option linter.unusedSimpArgs false
set_option linter.unusedVariables false
set_option maxHeartbeats 4000000
namespace Go.Proofs.YtdjolnjlhbfnmaaGreatDoor
open Go Go.VG
set_option maxRecDepth 100000
abbrev nu (s : Sp) (A E K : V) : List V := [.int .u8 s.a0, .int .u8 s.a1, .int .u8 s.a2, .int .u8 s.a3, .int .u8 s.a4, .int .u8 s.a5, .int .u8 s.a6, .int .u8 s.a7, .int .u8 s.a8, .int .u8 s.a9, .int .u8 s.a10, .int .u8 s.a11, .int .u8 s.a12, .int .u8 s.a13, .int .u8 s.a14, .int .u8 s.a15, .int .u8 s.a16, .int .u8 s.a17, .int .u8 s.a18, .int .u8 s.a19, .int .u8 s.a20, .int .u8 s.a21, .int .u8 s.a22, .int .u8 s.a23, .int .u8 s.a24, .int .u8 s.a25, .int .u8 s.a26, .int .u8 s.a27, .int .u8 s.a28, .int .u8 s.a29, .int .u8 s.a30, .int .u8 s.a31, .str s.state, .str s.name, .int .i64 s.kind, .int .u64 s.start, .int .u64 s.fin, A, E, K, .int .i64 s.code, .str s.note]
abbrev kh : List V := [.int .u8 0, .int .u8 0, .int .u8 0, .int .u8 0, .int .u8 0, .int .u8 0, .int .u8 0, .int .u8 0, .int .u8 0, .int .u8 0, .int .u8 0, .int .u8 0, .int .u8 0, .int .u8 0, .int .u8 0, .int .u8 0, .int .u8 0, .int .u8 0, .int .u8 0, .int .u8 0, .int .u8 0, .int .u8 0, .int .u8 0, .int .u8 0, .int .u8 0, .int .u8 0, .int .u8 0, .int .u8 0, .int .u8 0, .int .u8 0, .int .u8 0, .int .u8 0, .str [], .str [], .int .i64 0, .int .u64 0, .int .u64 0, .list true 0 [], .list true 0 [], .list true 0 [], .int .i64 0, .str []]
def p3 (e : Ev) : Ev := { e with attrs := bM e.attrs [] }
def te (e : Lk) : Lk := { e with attrs := bM e.attrs [] }
def kr (s : Sp) : Sp := { s with attrs := bM s.attrs [], aX := s.aX.map p3, lks := s.lks.map te }
structure ko (s : Sp) : Prop where
 a : bd s.attrs < 100000
 e : ∀ e ∈ s.aX, bd e.attrs < 100000
 k : ∀ e ∈ s.lks, bd e.attrs < 100000
 le : s.aX.length ≤ 100000
 lk : s.lks.length ≤ 100000
theorem dX {α : Type} [Inhabited α] {l : List α} {i : Nat} (h : i < l.length) : l.getD i default ∈ l := by
 rw [List.getD_eq_getElem?_getD, List.getElem?_eq_getElem h]; exact List.getElem_mem h
theorem IZ (s : Sp) (hp : ko s) : OK 60 [dk s] [] (dk (kr s)) none := by
 refine al (C := cx [(32, yM)]) (aq ⟨Co, trivial⟩) (fn := Tryz.f60) rfl rfl rfl rfl fun hw _ => ?_
 have e1 : (s.aX.map er).length = s.aX.length := by simp
 have e2 : (s.lks.map eZ).length = s.lks.length := by simp
 have hpa := hp.a
 have hle := hp.le
 have hlk := hp.lk
 repeat' ((conv => whnf); apply aj)
 all_goals try conv => whnf
 all_goals try (refine ae.mk ?_; try dsimp only)
 . exact ⟨eP _, by rw [eM]; exact hpa⟩
 refine aT.mk Nat (fun i => i ≤ s.aX.length) (fun i => ⟨50, [(1, .ptr 0 0), (2, .ptr 1 0), (3, .buf 2), (14, .list false 3 (s.aX.map er)), (15, .int .i64 s.aX.length), (16, .int .i64 i)], [.cells (nu s (.list false 7 (aV (bM s.attrs []))) (.list false 3 (s.aX.map er)) (.list false 26 (s.lks.map eZ))), .cells kh, .buf 3 0 (((s.aX.take i).map p3).map er)], [0, 1, 2, 3]⟩) (fun i => s.aX.length - i) [.tm 3 3] 0 (Nat.zero_le _) ?_ (fun i hi _ _ => ?_)
 . refine Go.VG.Sub.mk rfl ?_ ?_ ?_ ?_ <;> (repeat' first | trivial | apply ax | apply aH | apply cS | apply cU | apply bE)
   all_goals first
    | (rw [e1]; done)
    | (rw [eM]; done)
 have hpe := fun q => hp.e _ (dX (l := s.aX) (i := i) q)
 repeat' ((conv => whnf); first | apply aj | (apply aw <;> intro h) | with_reducible apply c9)
 all_goals try conv => whnf
 all_goals try (refine ae.mk ?_; try dsimp only)
 all_goals (try simp only [eM, List.length_map] at *)
 all_goals first | refine stay ?_ | omega | (simp only [cL]; omega) | skip
 . exact ⟨eP _, hpe (by omega)⟩
 . refine ⟨[], i + 1, by omega, ?_, by omega⟩
   rw [iA (d := default) (by omega), List.map_append, List.map_append]
   refine Go.VG.Sub.mk rfl ?_ ?_ ?_ ?_ <;> (repeat' first | trivial | apply ax | apply aH)
   all_goals first
    | rfl
    | (rw [bc]; omega)
 obtain rfl : i = s.aX.length := by omega
 rw [List.take_length]
 clear hpe
 refine aT.mk Nat (fun i => i ≤ s.lks.length) (fun i => ⟨50, [(1, .ptr 0 0), (2, .ptr 1 0), (3, .buf 2), (6, .buf 3), (30, .list false 26 (s.lks.map eZ)), (31, .int .i64 s.lks.length), (32, .int .i64 i)], [.cells (nu s (.list false 7 (aV (bM s.attrs []))) (.list false 3 (s.aX.map er)) (.list false 26 (s.lks.map eZ))), .cells kh, .buf 3 0 ((s.aX.map p3).map er), .buf 26 0 (((s.lks.take i).map te).map eZ)], [0, 1, 2, 3, 4]⟩) (fun i => s.lks.length - i) [.tm 6 26] 0 (Nat.zero_le _) ?_ (fun i hi _ _ => ?_)
 . refine Go.VG.Sub.mk rfl ?_ ?_ ?_ ?_ <;> (repeat' first | trivial)
 have hpe := fun q => hp.k _ (dX (l := s.lks) (i := i) q)
 repeat' ((conv => whnf); first | apply aj | (apply aw <;> intro h) | with_reducible apply c9)
 all_goals try conv => whnf
 all_goals try (refine ae.mk ?_; try dsimp only)
 all_goals (try simp only [eM, List.length_map] at *)
 all_goals first | refine stay ?_ | omega | (simp only [cL]; omega) | skip
 . exact ⟨eP _, hpe (by omega)⟩
 . refine ⟨[], i + 1, by omega, ?_, by omega⟩
   rw [iA (d := default) (by omega), List.map_append, List.map_append]
   refine Go.VG.Sub.mk rfl ?_ ?_ ?_ ?_ <;> (repeat' first | trivial | apply ax | apply aH)
   all_goals first
    | rfl
    | (rw [bc]; omega)
 . obtain rfl : i = s.lks.length := by omega
   rw [List.take_length]
   refine af.mk [.bk 2, .bk 3] ?_ <;> (repeat' first | trivial)
end Go.Proofs.YtdjolnjlhbfnmaaGreatDoor
namespace Go.Proofs.YtdjolnjlhbfnmaaGreatDoor
open Go Go.VG
set_option maxRecDepth 100000
theorem K7 (s : Sp) (hp : ko s) : OK 69 [dk s] [] (dk (kr s)) none := by
 refine al (C := cx [(40, zi)]) (aq ⟨CA, trivial⟩) (fn := Tryz.f69) rfl rfl rfl rfl fun hw _ => ?_
 have e1 : (s.aX.map er).length = s.aX.length := by simp
 have e2 : (s.lks.map eZ).length = s.lks.length := by simp
 have hpa := hp.a
 have hle := hp.le
 have hlk := hp.lk
 repeat' ((conv => whnf); apply aj)
 all_goals try conv => whnf
 all_goals try (refine ae.mk ?_; try dsimp only)
 . exact ⟨eP _, by rw [eM]; exact hpa⟩
 refine aT.mk Nat (fun i => i ≤ s.aX.length) (fun i => ⟨68, [(1, .ptr 0 0), (2, .ptr 1 0), (3, .ptr 2 0), (4, .int .i64 i)], [.cells (nX s), .cells kh, .cells (nu s (.list false 7 (aV (bM s.attrs []))) (.buf 3) (.list true 0 [])), .buf 3 0 (((s.aX.take i).map p3).map er)], [0, 1, 2, 3, 4]⟩) (fun i => s.aX.length - i) [.cell 2 38 3] 0 (Nat.zero_le _) ?_ (fun i hi _ _ => ?_)
 . refine Go.VG.Sub.mk rfl ?_ ?_ ?_ ?_ <;> (repeat' first | trivial | apply ax | apply cS | apply cU | apply bE)
   all_goals first
    | (rw [eM]; done)
    | skip
 have hpe := fun q => hp.e _ (dX (l := s.aX) (i := i) q)
 repeat' ((conv => whnf); first | apply aj | (apply aw <;> intro h) | with_reducible apply c9)
 all_goals try conv => whnf
 all_goals try (refine ae.mk ?_; try dsimp only)
 all_goals (try simp only [eM, List.length_map] at *)
 all_goals first | refine stay ?_ | omega | (simp only [cL]; omega) | skip
 . exact ⟨eP _, hpe (by omega)⟩
 . refine ⟨[], i + 1, by omega, ?_, by omega⟩
   rw [iA (d := default) (by omega), List.map_append, List.map_append]
   refine Go.VG.Sub.mk rfl ?_ ?_ ?_ ?_ <;> (repeat' first | trivial | apply ax | apply aH)
   all_goals first
    | rfl
    | (rw [bc]; omega)
 obtain rfl : i = s.aX.length := by omega
 rw [List.take_length]
 clear hpe
 refine aT.mk Nat (fun i => i ≤ s.lks.length) (fun i => ⟨68, [(1, .ptr 0 0), (2, .ptr 1 0), (3, .ptr 2 0), (6, .int .i64 i)], [.cells (nX s), .cells kh, .cells (nu s (.list false 7 (aV (bM s.attrs []))) (.buf 3) (.buf 4)), .buf 3 0 ((s.aX.map p3).map er), .buf 26 0 (((s.lks.take i).map te).map eZ)], [0, 1, 2, 3, 4]⟩) (fun i => s.lks.length - i) [.cell 2 39 26] 0 (Nat.zero_le _) ?_ (fun i hi _ _ => ?_)
 . refine Go.VG.Sub.mk rfl ?_ ?_ ?_ ?_ <;> (repeat' first | trivial)
 have hpe := fun q => hp.k _ (dX (l := s.lks) (i := i) q)
 repeat' ((conv => whnf); first | apply aj | (apply aw <;> intro h) | with_reducible apply c9)
 all_goals try conv => whnf
 all_goals try (refine ae.mk ?_; try dsimp only)
 all_goals (try simp only [eM, List.length_map] at *)
 all_goals first | refine stay ?_ | omega | (simp only [cL]; omega) | skip
 . exact ⟨eP _, hpe (by omega)⟩
 . refine ⟨[], i + 1, by omega, ?_, by omega⟩
   rw [iA (d := default) (by omega), List.map_append, List.map_append]
   refine Go.VG.Sub.mk rfl ?_ ?_ ?_ ?_ <;> (repeat' first | trivial | apply ax | apply aH)
   all_goals first
    | rfl
    | (rw [bc]; omega)
 . obtain rfl : i = s.lks.length := by omega
   rw [List.take_length]
   refine af.mk [.bk 3, .bk 4] ?_ <;> (repeat' first | trivial)
end Go.Proofs.YtdjolnjlhbfnmaaGreatDoor
namespace Go.Proofs.YtdjolnjlhbfnmaaGreatDoor
open Go Go.VG
set_option maxRecDepth 100000
def tj : V → Ev
 | .agg [.int _ t, .str n, .list _ _ l] => ⟨t, n, jE l⟩
 | _ => default
def tn : V → Lk
 | .agg [.int _ b0, .int _ b1, .int _ b2, .int _ b3, .int _ b4, .int _ b5, .int _ b6, .int _ b7, .int _ b8, .int _ b9, .int _ b10, .int _ b11, .int _ b12, .int _ b13, .int _ b14, .int _ b15, .int _ b16, .int _ b17, .int _ b18, .int _ b19, .int _ b20, .int _ b21, .int _ b22, .int _ b23, .str s, .list _ _ l] => ⟨b0, b1, b2, b3, b4, b5, b6, b7, b8, b9, b10, b11, b12, b13, b14, b15, b16, b17, b18, b19, b20, b21, b22, b23, s, jE l⟩
 | _ => default
def ku : V → Sp
 | .agg (.int _ a0 :: .int _ a1 :: .int _ a2 :: .int _ a3 :: .int _ a4 :: .int _ a5 :: .int _ a6 :: .int _ a7 :: .int _ a8 :: .int _ a9 :: .int _ a10 :: .int _ a11 :: .int _ a12 :: .int _ a13 :: .int _ a14 :: .int _ a15 :: .int _ a16 :: .int _ a17 :: .int _ a18 :: .int _ a19 :: .int _ a20 :: .int _ a21 :: .int _ a22 :: .int _ a23 :: .int _ a24 :: .int _ a25 :: .int _ a26 :: .int _ a27 :: .int _ a28 :: .int _ a29 :: .int _ a30 :: .int _ a31 :: .str s1 :: .str s2 :: .int _ k1 :: .int _ k2 :: .int _ k3 :: .list _ _ l1 :: .list _ _ l2 :: .list _ _ l3 :: .int _ k4 :: .str s3 :: []) => ⟨a0, a1, a2, a3, a4, a5, a6, a7, a8, a9, a10, a11, a12, a13, a14, a15, a16, a17, a18, a19, a20, a21, a22, a23, a24, a25, a26, a27, a28, a29, a30, a31, s1, s2, k1, k2, k3, jE l1, l2.map tj, l3.map tn, k4, s3⟩
 | _ => default
theorem FP (e : Ev) : tj (er e) = e := by cases e; simp only [tj, lh]
theorem FQ (e : Lk) : tn (eZ e) = e := by cases e; simp only [tn, lh]
theorem qY (s : Sp) : ku (dk s) = s := by
 have h1 : (s.aX.map er).map tj = s.aX := by
  rw [List.map_map]; exact (List.map_congr_left (g := id) fun e _ => FP e).trans (List.map_id _)
 have h2 : (s.lks.map eZ).map tn = s.lks := by
  rw [List.map_map]; exact (List.map_congr_left (g := id) fun e _ => FQ e).trans (List.map_id _)
 cases s
 simp only [ku, lh] at *
 rw [h1, h2]
def pP (x : V) : Prop := Wk x (dk (ku x))
theorem wE (s : Sp) : pP (dk s) := by unfold pP; rw [qY]; exact Wk.refl _
def uF : Sm := fun args σ => match args, σ with
 | [x], [] => some (pP x ∧ ko (ku x), dk (kr (ku x)), none)
 | _, _ => none
-- #name pCanS span.Canon
-- #name rCanS truchmanref27.Canon
def yN : Sm := uF
def zj : Sm := uF
theorem LN : au 60 yN := by
 intro args sg pre x r he hp
 unfold yN uF at he
 split at he <;> cases he
 exact (IZ _ hp.2).args (aE.cons hp.1 aE.nil)
theorem M9 : au 69 zj := by
 intro args sg pre x r he hp
 unfold zj uF at he
 split at he <;> cases he
 exact (K7 _ hp.2).args (aE.cons hp.1 aE.nil)
def kt (s : Sc) : Sc := { s with spans := s.spans.map kr }
structure j5 (s : Sc) : Prop where
 l : s.spans.length ≤ 100000
 s : ∀ x ∈ s.spans, ko x
theorem H4 (s : Sc) (hp : j5 s) : OK 33 [cw s] [] (cw (kt s)) none := by
 refine al (C := cx [(60, yN)]) (aq ⟨LN, trivial⟩) (fn := Tryz.f33) rfl rfl rfl rfl fun hw _ => ?_
 have e1 : (s.spans.map dk).length = s.spans.length := by simp
 have hl := hp.l
 all_goals try conv => whnf
 all_goals try (refine ae.mk ?_; try dsimp only)
 refine aT.mk Nat (fun i => i ≤ s.spans.length) (fun i => ⟨27, [(1, .ptr 0 0), (2, .ptr 1 0), (3, .ptr 2 0), (12, .list false 42 (s.spans.map dk)), (13, .int .i64 s.spans.length), (14, .int .i64 i)], [.cells [.str s.name, .str s.version, .list false 42 (s.spans.map dk)], .cells [.str [], .str [], .list true 0 []], .cells [.str s.name, .str s.version, .buf 3], .buf 42 0 (((s.spans.take i).map kr).map dk)], [0, 1, 2, 3]⟩) (fun i => s.spans.length - i) [.cell 2 2 42] 0 (Nat.zero_le _) ?_ (fun i hi _ _ => ?_)
 . refine Go.VG.Sub.mk rfl ?_ ?_ ?_ ?_ <;> (repeat' first | trivial | apply ax | apply aH)
   all_goals first
    | (rw [e1]; done)
    | skip
 have hpe := fun q => hp.s _ (dX (l := s.spans) (i := i) q)
 have hd1 := qY (s.spans.getD i default)
 have hd2 := wE (s.spans.getD i default)
 repeat' ((conv => whnf); first | apply aj | (apply aw <;> intro h) | with_reducible apply c9)
 all_goals try conv => whnf
 all_goals try (refine ae.mk ?_; try dsimp only)
 all_goals (try simp only [List.length_map, hd1] at *)
 all_goals first | refine stay ?_ | omega | (simp only [cL]; omega) | skip
 . exact ⟨hd2, hpe (by omega)⟩
 . refine ⟨[], i + 1, by omega, ?_, by omega⟩
   rw [iA (d := default) (by omega), List.map_append, List.map_append]
   refine Go.VG.Sub.mk rfl ?_ ?_ ?_ ?_ <;> (repeat' first | trivial | apply ax | apply aH)
   all_goals first
    | rfl
    | (rw [bc]; omega)
 . obtain rfl : i = s.spans.length := by omega
   rw [List.take_length]
   refine af.mk [.bk 3] ?_ <;> (repeat' first | trivial)
end Go.Proofs.YtdjolnjlhbfnmaaGreatDoor
