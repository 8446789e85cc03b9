/-
  A part of the proof.
-/
import Derived.Test.YtdjolnjlhbfnmaaGreatDoorNG
set_option linter.unusedSimpArgs false
set_option linter.unusedVariables false
set_option maxHeartbeats 4000000
namespace Go.Proofs.YtdjolnjlhbfnmaaGreatDoor
open Go Go.VG
set_option maxRecDepth 100000
def me : V → Sc
 | .agg [.str n, .str v, .list _ _ l] => ⟨n, v, l.map ku⟩
 | _ => default
theorem FT (l : List Sp) : (l.map dk).map ku = l := by
 rw [List.map_map]; exact (List.map_congr_left (g := id) fun e _ => qY e).trans (List.map_id _)
theorem vY (s : Sc) : me (cw s) = s := by
 have := FT s.spans
 cases s
 simp only [me] at *
 rw [this]
def wD (x : V) : Prop := Wk x (cw (me x))
theorem L1 (s : Sc) : wD (cw s) := by unfold wD; rw [vY]; exact Wk.refl _
def xY : Sm := fun args σ => match args, σ with
 | [x], [] => some (wD x ∧ j5 (me x), cw (kt (me x)), none)
 | _, _ => none
-- #name bScope batch.scope
theorem L5 : au 33 xY := by
 intro args sg pre x r he hp
 unfold xY at he
 split at he <;> cases he
 exact (H4 _ hp.2).args (aE.cons hp.1 aE.nil)
def j6 (r : Rs) : Rs := ⟨bM r.attrs [], r.scopes.map kt⟩
structure nF (r : Rs) : Prop where
 a : bd r.attrs < 100000
 l : r.scopes.length ≤ 100000
 s : ∀ x ∈ r.scopes, j5 x
theorem H3 (b : List Rs) (hb : b.length ≤ 100000) (hp : ∀ r ∈ b, nF r) : OK 13 [dV b] [] (dV (b.map j6)) none := by
 refine al (C := nR [(33, xY), (32, yM)] [(11, [.bk 6])]) (aq ⟨L5, Co, trivial⟩) (fn := Tryz.f13) rfl rfl rfl rfl fun hw _ => ?_
 have e1 : (b.map dd).length = b.length := by simp
 all_goals try conv => whnf
 all_goals try (refine ae.mk ?_; try dsimp only)
 refine aT.mk Nat (fun i => i ≤ b.length) (fun i => ⟨43, [(1, .ptr 0 0), (2, .ptr 1 0), (3, .ptr 2 0), (10, .list false 2 (b.map dd)), (11, .int .i64 b.length), (12, .int .i64 i)], [.cells [.list false 2 (b.map dd)], .cells [.list true 0 []], .cells [.buf 3], .buf 2 0 (((b.take i).map j6).map dd)], [0, 1, 2, 3, 4, 5, 6]⟩) (fun i => b.length - i) [.cell 2 0 2] 0 (Nat.zero_le _) ?_ (fun i hi _ _ => ?_)
 . refine Go.VG.Sub.mk rfl ?_ ?_ ?_ ?_ <;> (repeat' first | trivial | apply ax | apply aH)
   all_goals first
    | (rw [e1]; done)
 have hpr := fun q => hp _ (dX (l := b) (i := i) q)
 have hsn := fun q => iA (l := b) (i := i) (d := default) q
 repeat' ((conv => whnf); first | apply aj | (apply aw <;> intro h) | with_reducible apply c9)
 all_goals try conv => whnf
 all_goals try (refine ae.mk ?_; try dsimp only)
 all_goals (try simp only [List.length_map] at *)
 all_goals first | refine stay ?_ | omega | skip
 . have := (hpr (by omega)).a
   exact ⟨eP _, by rw [eM]; exact this⟩
 . have hpr := hpr (by omega)
   have hsn := hsn (by omega)
   have hlt : i < b.length := by omega
   generalize b.getD i default = r at *
   have hl := hpr.l
   have e2 : (r.scopes.map cw).length = r.scopes.length := by simp
   refine aT.mk Nat (fun j => j ≤ r.scopes.length) (fun j => ⟨43, [(1, .ptr 0 0), (2, .ptr 1 0), (3, .ptr 2 0), (10, .list false 2 (b.map dd)), (11, .int .i64 b.length), (12, .int .i64 i), (5, .ptr 4 0), (6, .ptr 5 0), (21, .list false 3 (r.scopes.map cw)), (22, .int .i64 r.scopes.length), (23, .int .i64 j)], [.cells [.list false 2 (b.map dd)], .cells [.list true 0 []], .cells [.buf 3], .buf 2 0 (((b.take i).map j6).map dd), .cells [.list false 7 (aV r.attrs), .list false 3 (r.scopes.map cw)], .cells [.list false 7 (aV (bM r.attrs [])), .buf 6], .buf 3 0 (((r.scopes.take j).map kt).map cw)], [0, 1, 2, 3, 4, 5, 6]⟩) (fun j => r.scopes.length - j) [.cell 5 1 3] 0 (Nat.zero_le _) ?_ (fun j hj _ _ => ?_)
   . refine Go.VG.Sub.mk rfl ?_ ?_ ?_ ?_ <;> (repeat' first | trivial | apply ax | apply cS | apply cU | apply bE)
     all_goals first
      | (rw [eM]; done)
      | (rw [e2]; done)
   have hps := fun q => hpr.s _ (dX (l := r.scopes) (i := j) q)
   have hd1 := vY (r.scopes.getD j default)
   have hd2 := L1 (r.scopes.getD j default)
   repeat' ((conv => whnf); first | apply aj | (apply aw <;> intro h) | with_reducible apply c9)
   all_goals try conv => whnf
   all_goals try (refine ae.mk ?_; try dsimp only)
   all_goals (try simp only [List.length_map, hd1] at *)
   all_goals first | refine stay ?_ | omega | (simp only [cL]; omega) | skip
   . exact ⟨hd2, hps (by omega)⟩
   . refine ⟨[], j + 1, by omega, ?_, by omega⟩
     rw [iA (d := default) (by omega), List.map_append, List.map_append]
     refine Go.VG.Sub.mk rfl ?_ ?_ ?_ ?_ <;> (repeat' first | trivial | apply ax | apply aH)
     all_goals first
      | rfl
      | (rw [bc]; omega)
   . obtain rfl : j = r.scopes.length := by omega
     refine ⟨[], i + 1, by omega, ?_, by omega⟩
     rw [hsn, List.map_append, List.map_append, List.take_length]
     refine Go.VG.Sub.mk rfl ?_ ?_ ?_ ?_ <;> (repeat' first | trivial | apply ax | apply aH)
     all_goals first
      | rfl
      | (rw [bc]; omega)
 . obtain rfl : i = b.length := by omega
   rw [List.take_length]
   refine af.mk [.bk 3] ?_ <;> (repeat' first | trivial)
theorem Km (l : List Sc) (hl : l.length ≤ 100000) (hp : ∀ s ∈ l, j5 s) : OK 41 [.list false 3 (l.map cw)] [] (.list false 3 ((l.map kt).map cw)) none := by
 refine al (C := nR [(69, zj)] [(10, [.bk 1])]) (aq ⟨M9, trivial⟩) (fn := Tryz.f41) rfl rfl rfl rfl fun hw _ => ?_
 have e1 : (l.map cw).length = l.length := by simp
 all_goals try conv => whnf
 all_goals try (refine ae.mk ?_; try dsimp only)
 refine aT.mk Nat (fun i => i ≤ l.length) (fun i => ⟨51, [(0, .list false 3 (l.map cw)), (3, .buf 0), (4, .int .i64 i)], [.buf 3 0 (((l.take i).map kt).map cw)], [0, 1, 2, 3]⟩) (fun i => l.length - i) [.tm 3 3] 0 (Nat.zero_le _) ?_ (fun i hi _ _ => ?_)
 . refine Go.VG.Sub.mk rfl ?_ ?_ ?_ ?_ <;> (repeat' first | trivial)
 have hpr := fun q => hp _ (dX (l := l) (i := i) q)
 have hsn := fun q => iA (l := l) (i := i) (d := default) q
 repeat' ((conv => whnf); (apply aw <;> intro h))
 all_goals try conv => whnf
 all_goals try (refine ae.mk ?_; try dsimp only)
 all_goals (try simp only [List.length_map] at *)
 all_goals try refine stay ?_
 . have hpr := hpr (by omega)
   have hsn := hsn (by omega)
   have hlt : i < l.length := by omega
   have hl := hpr.l
   have e2 : ((l.getD i default).spans.map dk).length = (l.getD i default).spans.length := by simp
   refine aT.mk Nat (fun j => j ≤ (l.getD i default).spans.length) (fun j => ⟨51, [(0, .list false 3 (l.map cw)), (3, .buf 0), (4, .int .i64 i), (5, .buf 1), (6, .int .i64 j)], [.buf 3 0 (((l.take i).map kt).map cw), .buf 42 0 ((((l.getD i default).spans.take j).map kr).map dk)], [0, 1, 2, 3]⟩) (fun j => (l.getD i default).spans.length - j) [.tm 5 42] 0 (Nat.zero_le _) ?_ (fun j hj _ _ => ?_)
   . refine Go.VG.Sub.mk rfl ?_ ?_ ?_ ?_ <;> (repeat' first | trivial)
   have hps := fun q => hpr.s _ (dX (l := (l.getD i default).spans) (i := j) q)
   have hd1 := qY ((l.getD i default).spans.getD j default)
   have hd2 := wE ((l.getD i default).spans.getD j default)
   repeat' ((conv => whnf); first | apply aj | (apply aw <;> intro h) | with_reducible apply c9)
   all_goals try conv => whnf
   all_goals try (refine ae.mk ?_; try dsimp only)
   all_goals (try simp only [List.length_map, hd1] at *)
   all_goals first | refine stay ?_ | trivial | omega | (simp only [cL]; omega) | skip
   . exact ⟨hd2, hps (by omega)⟩
   . refine ⟨[], j + 1, by omega, ?_, by omega⟩
     rw [iA (l := (l.getD i default).spans) (d := default) (by omega), List.map_append, List.map_append]
     refine Go.VG.Sub.mk rfl ?_ ?_ ?_ ?_ <;> (repeat' first | trivial | apply ax | apply aH)
     all_goals first
      | rfl
      | (rw [bc]; omega)
   . obtain rfl : j = (l.getD i default).spans.length := by omega
     refine ⟨[], i + 1, by omega, ?_, by omega⟩
     rw [hsn, List.map_append, List.map_append, List.take_length]
     refine Go.VG.Sub.mk rfl ?_ ?_ ?_ ?_ <;> (repeat' first | trivial | apply ax | apply aH)
     all_goals first
      | rfl
      | (rw [bc]; omega)
 . obtain rfl : i = l.length := by omega
   rw [List.take_length]
   refine af.mk [.bk 0] ?_ <;> (repeat' first | trivial)
def jF : V → List Sc
 | .list _ _ l => l.map me
 | _ => []
theorem tq (l : List Sc) : (l.map cw).map me = l := by
 rw [List.map_map]; exact (List.map_congr_left (g := id) fun e _ => vY e).trans (List.map_id _)
def pO (x : V) : Prop := Wk x (.list false 3 ((jF x).map cw))
theorem C0 (l : List Sc) : pO (.list false 3 (l.map cw)) := by unfold pO; rw [show jF (.list false 3 (l.map cw)) = l from tq l]; exact Wk.refl _
def zr : Sm := fun args σ => match args, σ with
 | [x], [] => some (pO x ∧ (jF x).length ≤ 100000 ∧ (∀ s ∈ jF x, j5 s), .list false 3 (((jF x).map kt).map cw), none)
 | _, _ => none
-- #name rScopes truchmanref28.scopes
theorem Mc : au 41 zr := by
 intro args sg pre x r he hp
 unfold zr at he
 split at he <;> cases he
 exact (Km _ hp.2.1 hp.2.2).args (aE.cons hp.1 aE.nil)
theorem K5 (b : List Rs) (hb : b.length ≤ 100000) (hp : ∀ r ∈ b, nF r) : OK 17 [dV b] [] (dV (b.map j6)) none := by
 refine al (C := cx [(41, zr), (40, zi)]) (aq ⟨Mc, CA, trivial⟩) (fn := Tryz.f17) rfl rfl rfl rfl fun hw _ => ?_
 have e1 : (b.map dd).length = b.length := by simp
 all_goals try conv => whnf
 all_goals try (refine ae.mk ?_; try dsimp only)
 refine aT.mk Nat (fun i => i ≤ b.length) (fun i => ⟨33, [(1, .ptr 0 0), (2, .ptr 1 0), (3, .ptr 2 0), (4, .int .i64 i)], [.cells [.list false 2 (b.map dd)], .cells [.list true 0 []], .cells [.buf 3], .buf 2 0 (((b.take i).map j6).map dd)], [0, 1, 2, 3, 4, 5, 6]⟩) (fun i => b.length - i) [.cell 2 0 2] 0 (Nat.zero_le _) ?_ (fun i hi _ _ => ?_)
 . refine Go.VG.Sub.mk rfl ?_ ?_ ?_ ?_ <;> (repeat' first | trivial)
 have hpr := fun q => hp _ (dX (l := b) (i := i) q)
 have hd1 : jF (.list false 3 ((b.getD i default).scopes.map cw)) = (b.getD i default).scopes := tq _
 have hd2 := C0 (b.getD i default).scopes
 repeat' ((conv => whnf); first | apply aj | (apply aw <;> intro h) | with_reducible apply c9)
 all_goals try conv => whnf
 all_goals try (refine ae.mk ?_; try dsimp only)
 all_goals (try simp only [List.length_map, hd1, eM] at *)
 all_goals first | refine stay ?_ | omega | (simp only [cL]; omega) | skip
 . exact ⟨eP _, (hpr (by omega)).a⟩
 . have hq := hpr (by omega)
   exact ⟨hd2, hq.l, hq.s⟩
 . refine ⟨[], i + 1, by omega, ?_, by omega⟩
   rw [iA (d := default) (by omega), List.map_append, List.map_append]
   refine Go.VG.Sub.mk rfl ?_ ?_ ?_ ?_ <;> (repeat' first | trivial | apply ax | apply aH)
   all_goals first
    | rfl
    | (rw [bc]; omega)
 . obtain rfl : i = b.length := by omega
   rw [List.take_length]
   refine af.mk [.bk 3] ?_ <;> (repeat' first | trivial)
def tp : V → Rs
 | .agg [.list _ _ l, .list _ _ k] => ⟨jE l, k.map me⟩
 | _ => default
theorem FR (r : Rs) : tp (dd r) = r := by
 have := tq r.scopes
 cases r
 simp only [tp, lh] at *
 rw [this]
def fH : V → List Rs
 | .agg [.list _ _ l] => l.map tp
 | _ => []
theorem nT (b : List Rs) : fH (dV b) = b := by
 show (b.map dd).map tp = b
 rw [List.map_map]; exact (List.map_congr_left (g := id) fun e _ => FR e).trans (List.map_id _)
def jd (x : V) : Prop := Wk x (dV (fH x))
theorem rz (b : List Rs) : jd (dV b) := by unfold jd; rw [nT]; exact Wk.refl _
structure l9 (b : List Rs) : Prop where
 l : b.length ≤ 100000
 r : ∀ r ∈ b, nF r
def uD : Sm := fun args σ => match args, σ with
 | [x], [] => some (jd x ∧ l9 (fH x), dV ((fH x).map j6), none)
 | _, _ => none
-- #name pCanB batch.Canon
-- #name rCanB truchmanref28.Canon
def yL : Sm := uD
def zh : Sm := uD
theorem LM : au 13 yL := by
 intro args sg pre x r he hp
 unfold yL uD at he
 split at he <;> cases he
 exact (H3 _ hp.2.l hp.2.r).args (aE.cons hp.1 aE.nil)
theorem M8 : au 17 zh := by
 intro args sg pre x r he hp
 unfold zh uD at he
 split at he <;> cases he
 exact (K5 _ hp.2.l hp.2.r).args (aE.cons hp.1 aE.nil)
end Go.Proofs.YtdjolnjlhbfnmaaGreatDoor
