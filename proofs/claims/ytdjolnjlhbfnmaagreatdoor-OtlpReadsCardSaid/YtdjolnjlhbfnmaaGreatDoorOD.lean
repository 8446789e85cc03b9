/-
  A part of the proof.
-/
import Derived.Test.YtdjolnjlhbfnmaaGreatDoorOC
set_option linter.unusedSimpArgs false
set_option linter.unusedVariables false
set_option maxHeartbeats 4000000
namespace Go.Proofs.YtdjolnjlhbfnmaaGreatDoor
open Go Go.VG
set_option maxRecDepth 100000
theorem I1 (f : Pf) (hp : True) : OK 99 ([av f]) ([]) (.int .u8 (bu f)) (none) := by
 refine al (C := cx []) (aq trivial) (fn := Tryz.f99) rfl rfl rfl rfl fun hw hs => ?_
 repeat' ((conv => whnf); (apply aw <;> intro h))
 all_goals try conv => whnf
 all_goals try (refine ae.mk ?_; try dsimp only)
 all_goals try refine stay ?_
 all_goals first
  | (exfalso; omega)
  | (unfold bu
     repeat (first | rw [if_pos (by omega)] | rw [if_neg (by omega)])
     refine af.mk [] ?_ <;> (repeat' first | trivial)
     done)
def uS : Sm := fun args σ => match args, σ with
 | [.agg [.int .i64 n_f, .int .i64 w_f, .int .u64 u_f, .str t_f]], [] => some (True ∧ (True), .int .u8 (bu (Pf.mk n_f w_f u_f t_f)), none)
 | _, _ => none
theorem Ch : au 99 uS := by
 intro args sg pre x r he hp
 unfold uS at he
 split at he <;> cases he
 . rw [iY (hp).1]; exact I1 (hp := hp.2) ..
def gd (f : RV) (k : Nat) : Sm := fun args σ => match args, σ with
 | [.str s, .int .i64 d], [] => some (s.length ≤ 9000 ∧ 0 ≤ d ∧ d ≤ 1000 ∧ k = (32 - d).toNat, .tuple [ev (f s).2, .int .i64 (f s).1], none)
 | _, _ => none
theorem HX (v : RV) (k : Nat) (hv : au 65 (gd v k)) (c : Bool) (L : List (List UInt8)) (d : Int) (hp : km L d k) : OK 38 [.list c 1 (L.map V.str), .int .i64 d] [] (fL (bO v L [])) none := by
 refine al (C := cx [(14, eK), (64, nr), (63, nq), (65, gd v k)]) (aq ⟨fg, pX, pW, hv, trivial⟩) (fn := Tryz.f38) rfl rfl rfl rfl fun hw _ => ?_
 have hd0 := hp.d0
 have hd1 := hp.d1
 have hk := hp.k
 have hl := hp.l
 have hbx := hp.s
 have e1 : (L.map V.str).length = L.length := by simp
 all_goals try conv => whnf
 all_goals try (refine ae.mk ?_; try dsimp only)
 refine aT.mk (Nat × List aG) (fun (i, acc) => i ≤ L.length ∧ acc.length = i ∧ bO v (L.drop i) acc = bO v L []) (fun (i, acc) => ⟨59, [(0, .list c 1 (L.map V.str)), (1, .int .i64 d), (7, .int .i64 i), (6, .buf 0)], [.buf 7 0 (acc.map ea)], [0]⟩) (fun x => L.length - x.1) [.tm 6 7] (0, []) ⟨Nat.zero_le _, rfl, by rw [List.drop_zero]⟩ ?_ (fun ⟨i, acc⟩ ⟨h1, h2, h3⟩ _ _ => ?_)
 . refine Go.VG.Sub.mk rfl ?_ ?_ ?_ ?_ <;> (repeat' first | trivial)
   all_goals first
    | rfl
    | (simp; done)
 have hst := fun h => uv (v := v) (L := L) (acc := acc) (i := i) h
 rw [h3] at hst
 have hz : i = L.length → bO v L [] = (0, acc) := fun q => by rw [← h3, q, List.drop_length]; rfl
 have hbi := hbx i
 have hos := fun h => cD (hbi h)
 have hj := (fits (L.getD i default)).j (aD 2 2)
 have hA : cO v (L.getD i default) = cO v (L.getD i default) := rfl
 conv at hA => rhs; unfold cO
 repeat' ((conv => whnf); first | apply aj | apply aO | (apply aw <;> intro h) | with_reducible apply c9)
 all_goals try conv => whnf
 all_goals try (refine ae.mk ?_; try dsimp only)
 all_goals (try simp only [List.length_map, bW] at *)
 all_goals first | refine stay ?_ | omega | (simp only [cL]; omega) | skip
 all_goals try first
  | exact Nat.le_trans (hbi (by omega)) (by decide)
  | exact ⟨⟨_, rfl⟩, by have := (fits (L.getD i default)).l; have := hbi (by omega); omega⟩
  | exact hos (by omega)
  | exact ⟨by have := hbi (by omega); omega, hd0, hd1, hk⟩
 . rw [if_neg (fun z => z (by assumption)), if_neg (fun z => z (by assumption))] at hA
   have h9 := hst (by omega)
   rw [hA, if_neg (fun z => z rfl)] at h9
   refine ⟨[], (i + 1, acc ++ [_]), ⟨by show i + 1 ≤ L.length; omega, by rw [List.length_append, List.length_singleton, h2], h9.symm⟩, ?_, by show L.length - (i + 1) < L.length - i; omega⟩
   refine Go.VG.Sub.mk rfl ?_ ?_ ?_ ?_ <;> (repeat' first | trivial | apply ax | apply aH | apply bo)
   all_goals first
    | (rw [bc]; omega)
    | (rw [List.map_append]; rfl)
 . rw [if_neg (fun z => z (by assumption)), if_pos (by assumption)] at hA
   rw [hst (by omega), hA, if_pos (by assumption)]
   unfold fL
   rw [if_neg (by assumption)]
   refine af.mk [] ?_ <;> (repeat' first | trivial)
 . rw [if_pos (by assumption)] at hA
   rw [hst (by omega), hA, if_pos (by assumption)]
   unfold fL
   rw [if_neg (by assumption)]
   refine af.mk [] ?_ <;> (repeat' first | trivial)
 . rw [hz (by omega)]
   unfold fL
   rw [if_pos rfl, gP]
   refine af.mk [.bk 0] ?_ <;> (repeat' first | trivial)
theorem HY (v : RV) (k : Nat) (hv : au 65 (gd v k)) (q : Nat) (L : List (List UInt8)) (d : Int) (hp : km L d k) : OK 38 [.buf 0, .int .i64 d] [.buf 1 q (L.map V.str)] (fL (bO v L [])) none := by
 refine al (C := cx [(14, eK), (64, nr), (63, nq), (65, gd v k)]) (aq ⟨fg, pX, pW, hv, trivial⟩) (fn := Tryz.f38) rfl rfl rfl rfl fun hw _ => ?_
 have hd0 := hp.d0
 have hd1 := hp.d1
 have hk := hp.k
 have hl := hp.l
 have hbx := hp.s
 have e1 : (L.map V.str).length = L.length := by simp
 all_goals try conv => whnf
 all_goals try (refine ae.mk ?_; try dsimp only)
 refine aT.mk (Nat × List aG) (fun (i, acc) => i ≤ L.length ∧ acc.length = i ∧ bO v (L.drop i) acc = bO v L []) (fun (i, acc) => ⟨59, [(0, .buf 0), (1, .int .i64 d), (7, .int .i64 i), (6, .buf 1)], [.buf 1 q (L.map V.str), .buf 7 0 (acc.map ea)], [1]⟩) (fun x => L.length - x.1) [.tm 6 7] (0, []) ⟨Nat.zero_le _, rfl, by rw [List.drop_zero]⟩ ?_ (fun ⟨i, acc⟩ ⟨h1, h2, h3⟩ _ _ => ?_)
 . refine Go.VG.Sub.mk rfl ?_ ?_ ?_ ?_ <;> (repeat' first | trivial)
   all_goals first
    | rfl
    | (simp; done)
 have hst := fun h => uv (v := v) (L := L) (acc := acc) (i := i) h
 rw [h3] at hst
 have hz : i = L.length → bO v L [] = (0, acc) := fun q => by rw [← h3, q, List.drop_length]; rfl
 have hbi := hbx i
 have hos := fun h => cD (hbi h)
 have hj := (fits (L.getD i default)).j (aD 2 2)
 have hA : cO v (L.getD i default) = cO v (L.getD i default) := rfl
 conv at hA => rhs; unfold cO
 repeat' ((conv => whnf); first | apply aj | apply aO | (apply aw <;> intro h) | with_reducible apply c9)
 all_goals try conv => whnf
 all_goals try (refine ae.mk ?_; try dsimp only)
 all_goals (try simp only [List.length_map, bW] at *)
 all_goals first | refine stay ?_ | omega | (simp only [cL]; omega) | skip
 all_goals try first
  | exact Nat.le_trans (hbi (by omega)) (by decide)
  | exact ⟨⟨_, rfl⟩, by have := (fits (L.getD i default)).l; have := hbi (by omega); omega⟩
  | exact hos (by omega)
  | exact ⟨by have := hbi (by omega); omega, hd0, hd1, hk⟩
 . rw [if_neg (fun z => z (by assumption)), if_neg (fun z => z (by assumption))] at hA
   have h9 := hst (by omega)
   rw [hA, if_neg (fun z => z rfl)] at h9
   refine ⟨[], (i + 1, acc ++ [_]), ⟨by show i + 1 ≤ L.length; omega, by rw [List.length_append, List.length_singleton, h2], h9.symm⟩, ?_, by show L.length - (i + 1) < L.length - i; omega⟩
   refine Go.VG.Sub.mk rfl ?_ ?_ ?_ ?_ <;> (repeat' first | trivial | apply ax | apply aH | apply bo)
   all_goals first
    | (rw [bc]; omega)
    | (rw [List.map_append]; rfl)
 . rw [if_neg (fun z => z (by assumption)), if_pos (by assumption)] at hA
   rw [hst (by omega), hA, if_pos (by assumption)]
   unfold fL
   rw [if_neg (by assumption)]
   refine af.mk [] ?_ <;> (repeat' first | trivial)
 . rw [if_pos (by assumption)] at hA
   rw [hst (by omega), hA, if_pos (by assumption)]
   unfold fL
   rw [if_neg (by assumption)]
   refine af.mk [] ?_ <;> (repeat' first | trivial)
 . rw [hz (by omega)]
   unfold fL
   rw [if_pos rfl, gP]
   refine af.mk [.bk 1] ?_ <;> (repeat' first | trivial)
def oJ (v : RV) (k : Nat) : Sm := fun args σ => match args, σ with
 | [.list _ 1 l, .int .i64 d], [] => some (l = (l.map cz).map V.str ∧ km (l.map cz) d k, .tuple [.list false 7 (aV (bO v (l.map cz) []).2), .int .i64 (bO v (l.map cz) []).1], none)
 | [.buf 0, .int .i64 d], [.buf 1 _ l] => some (l = (l.map cz).map V.str ∧ km (l.map cz) d k, .tuple [.list false 7 (aV (bO v (l.map cz) []).2), .int .i64 (bO v (l.map cz) []).1], none)
 | _, _ => none
-- #name orEs truchmanref35.ReadEntries
theorem rA (v : RV) (k : Nat) (hv : au 65 (gd v k)) : au 38 (oJ v k) := by
 intro args sg pre x r he hp
 unfold oJ at he
 split at he <;> cases he
 . rename_i c l d
   obtain ⟨h1, h2⟩ := hp
   have := (HX v k hv c (l.map cz) d h2).res (tF sd)
   rw [← h1] at this
   exact this
 . rename_i d q l
   obtain ⟨h1, h2⟩ := hp
   have := (HY v k hv q (l.map cz) d h2).res (tF sd)
   rw [← h1] at this
   exact this
theorem I0 (v : RV) (K : Nat) (hv : au 65 (gd v K)) (g6 g7 : RV) (s : List UInt8) (d : Int) (hs : s.length ≤ 9000) (hp : nE v K g6 g7 d) : OK 100 [.int .u8 7, .str s, .int .i64 d] [] (rX (g7 s)) none := by
 refine al (C := cx [(14, eK), (15, jv), (38, oJ v K)]) (aq ⟨fg, kL, rA v K hv, trivial⟩) (fn := Tryz.f100) rfl rfl rfl rfl fun hw _ => ?_
 have hos := cD hs
 have hd0 := hp.d0
 have hd1 := hp.d1
 have hhi := hp.hi
 have hlo := hp.lo
 have hb := tA s
 have hw1 : d < 32 → IntKind.i64.wrap (d + 1) = d + 1 := fun q => by rw [bc]; omega
 repeat' ((conv => whnf); first | apply aj | apply aO | (apply aw <;> intro h))
 all_goals try conv => whnf
 all_goals try (refine ae.mk ?_; try dsimp only)
 all_goals (try simp only [bW, tz, fT] at *)
 . rw [(hhi (by omega) s).2]
   refine af.mk [] ?_ <;> (repeat' first | trivial)
 . omega
 . exact ⟨⟨_, rfl⟩, by have := hos.2; omega⟩
 . exact ⟨trivial, fun i hi => Nat.le_trans (hb.2 i hi) hs, by rw [hw1 (by omega)]; omega, by rw [hw1 (by omega)]; omega, by rw [hw1 (by omega)]; have := (hlo (by omega)).2; omega, by omega⟩
 . have hr : fZ v s = bO v (dx s) [] := if_neg fun q => q (by assumption)
   refine aT.mk Unit (fun _ => True) (fun _ => ⟨77, [(0, .int .u8 7), (6, .ptr 0 0), (9, .int .i64 (bO v (dx s) []).1), (10, .ptr 2 0), (11, .buf 3), (12, .int .i64 0)], [.cells [.int .u8 0, .str [], .int .i64 0, .int .u64 0, .list true 0 [], .list true 0 []], .dead, .cells [.int .u8 7, .str [], .int .i64 0, .int .u64 0, .list true 0 [], .list false 7 (aV (bO v (dx s) []).2)], .buf 1 0 ((dx s).map V.str)], [1, 3, 4]⟩) (fun _ => 0) [] () trivial ?_ (fun _ _ _ _ => ?_)
   . refine Go.VG.Sub.mk rfl ?_ ?_ ?_ ?_ <;> (repeat' first | trivial)
   rw [((hlo (by omega)).1 s).2, hr]
   repeat' ((conv => whnf); first | apply aO | (apply aw <;> intro h))
   all_goals try conv => whnf
   all_goals try (refine ae.mk ?_; try dsimp only)
   all_goals first
    | (rw [show jj (bO v (dx s) []) = (0, .mk 7 [] 0 0 [] (bO v (dx s) []).2) from if_neg fun z => z (by assumption)]
       refine af.mk [] ?_ <;> (repeat' first | trivial)
       done)
    | (rw [show jj (bO v (dx s) []) = ((bO v (dx s) []).1, vz) from if_pos (by assumption)]
       refine af.mk [] ?_ <;> (repeat' first | trivial)
       done)
 . rw [((hlo (by omega)).1 s).2, show fZ v s = (ao s, []) from if_pos (by assumption), show jj (ao s, []) = (ao s, vz) from if_pos (by assumption)]
   refine af.mk [] ?_ <;> (repeat' first | trivial)
theorem HZ (v : RV) (K : Nat) (hv : au 65 (gd v K)) (g6 g7 : RV) (s : List UInt8) (d : Int) (hs : s.length ≤ 9000) (hp : nE v K g6 g7 d) : OK 100 [.int .u8 6, .str s, .int .i64 d] [] (rX (g6 s)) none := by
 refine al (C := cx [(14, eK), (15, jv), (65, gd v K)]) (aq ⟨fg, kL, hv, trivial⟩) (fn := Tryz.f100) rfl rfl rfl rfl fun hw _ => ?_
 have hos := cD hs
 have hd0 := hp.d0
 have hd1 := hp.d1
 have hhi := hp.hi
 have hlo := hp.lo
 have hb := tA s
 have hw1 : d < 32 → IntKind.i64.wrap (d + 1) = d + 1 := fun q => by rw [bc]; omega
 repeat' ((conv => whnf); first | apply aj | apply aO | (apply aw <;> intro h))
 all_goals try conv => whnf
 all_goals try (refine ae.mk ?_; try dsimp only)
 all_goals (try simp only [bW, tz, fT] at *)
 . rw [(hhi (by omega) s).1]
   refine af.mk [] ?_ <;> (repeat' first | trivial)
 . omega
 . exact ⟨⟨_, rfl⟩, by have := hos.2; omega⟩
 . have hr : fq v s = fA v (dx s) [] := if_neg fun q => q (by assumption)
   rw [((hlo (by omega)).1 s).1, hr]
   generalize dx s = L at *
   have e1 : (L.map V.str).length = L.length := by simp
   refine aT.mk (Nat × List aK × Int) (fun (i, acc, c) => i ≤ L.length ∧ acc.length = i ∧ (c = 0 → fA v (L.drop i) acc = fA v L []) ∧ (c ≠ 0 → fA v L [] = (c, []))) (fun (i, acc, c) => ⟨77, [(0, .int .u8 6), (2, .int .i64 d), (6, .ptr 0 0), (9, .int .i64 c), (10, .ptr 2 0), (11, .buf 3), (12, .int .i64 i)], [.cells [.int .u8 0, .str [], .int .i64 0, .int .u64 0, .list true 0 [], .list true 0 []], .dead, .cells [.int .u8 6, .str [], .int .i64 0, .int .u64 0, .buf 4, .list true 0 []], .buf 1 0 (L.map V.str), .buf 6 0 (acc.map ev)], [1, 3, 4, 5]⟩) (fun x => L.length - x.1) [.cell 2 4 6, .swap 4 5] (0, [], 0) ⟨Nat.zero_le _, rfl, fun _ => by rw [List.drop_zero], fun q => absurd rfl q⟩ ?_ (fun ⟨i, acc, c⟩ ⟨h1, h2, h3, h4⟩ _ _ => ?_)
   . refine Go.VG.Sub.mk rfl ?_ ?_ ?_ ?_ <;> (repeat' first | trivial | apply ax | apply aH)
   have hst := fun h => DL (v := v) (L := L) (acc := acc) (i := i) h
   have hz : c = 0 → i = L.length → fA v L [] = (0, acc) := fun q q2 => by rw [← h3 q, q2, List.drop_length]; rfl
   have hbi := hb.2 i
   repeat' ((conv => whnf); first | apply aj | apply aO | (apply aw <;> intro h) | with_reducible apply c9)
   all_goals try conv => whnf
   all_goals try (refine ae.mk ?_; try dsimp only)
   all_goals (try simp only [List.length_map, hw1 (by omega)] at *)
   all_goals first | refine stay ?_ | omega | (simp only [cL]; omega) | skip
   . have hst := hst (by omega)
     rw [h3 (by assumption)] at hst
     refine ⟨[], (i + 1, acc ++ [(v (L.getD i default)).2], (v (L.getD i default)).1), ⟨by show i + 1 ≤ L.length; omega, by show (acc ++ [(v (L.getD i default)).2]).length = i + 1; rw [List.length_append, List.length_singleton, h2], fun q => ?_, fun q => ?_⟩, ?_, by show L.length - (i + 1) < L.length - i; omega⟩
     . rw [hst, if_neg (fun z => z q)]
     . rw [hst, if_pos q]
     . refine Go.VG.Sub.mk rfl ?_ ?_ ?_ ?_ <;> (repeat' first | trivial | apply ax | apply aH | apply bo)
       all_goals first
        | (rw [bc]; omega)
        | (rw [List.map_append]; rfl)
   . exfalso; omega
   . rw [h4 (by assumption), show iS (c, []) = (c, vz) from if_pos (by assumption)]
     refine af.mk [] ?_ <;> (repeat' first | trivial)
   . rw [hz (by assumption) (by omega), show iS (0, acc) = (0, .mk 6 [] 0 0 acc []) from if_neg fun z => z rfl]
     refine af.mk [.bk 4] ?_ <;> (repeat' first | trivial | apply ax | apply cU | apply cZ | apply cJ | apply bE)
     exact (pg acc).symm
   . rw [h4 (by assumption), show iS (c, []) = (c, vz) from if_pos (by assumption)]
     refine af.mk [] ?_ <;> (repeat' first | trivial)
 . rw [((hlo (by omega)).1 s).1, show fq v s = (ao s, []) from if_pos (by assumption), show iS (ao s, []) = (ao s, vz) from if_pos (by assumption)]
   refine af.mk [] ?_ <;> (repeat' first | trivial)
def pK (g6 g7 : RV) (q : Int) (s : List UInt8) : Int × aK := if q = 6 then g6 s else g7 s
def uR (v : RV) (K : Nat) (g6 g7 : RV) (d0 : Int) : Sm := fun args σ => match args, σ with
 | [.int .u8 q, .str s, .int .i64 d], [] => some ((q = 6 ∨ q = 7) ∧ s.length ≤ 9000 ∧ d = d0, .tuple [ev (pK g6 g7 q s).2, .int .i64 (pK g6 g7 q s).1], none)
 | _, _ => none
-- #name orH truchmanref35.held
theorem Cg (v : RV) (K : Nat) (hv : au 65 (gd v K)) (g6 g7 : RV) (d0 : Int) (hp : nE v K g6 g7 d0) (h6 : ∀ t, ga (g6 t).2) (h7 : ∀ t, ga (g7 t).2) : au 100 (uR v K g6 g7 d0) := by
 intro args sg pre x r he hp'
 unfold uR at he
 split at he <;> cases he
 rename_i q s d
 obtain ⟨h1, h2, rfl⟩ := hp'
 rcases h1 with rfl | rfl
 . exact (HZ v K hv g6 g7 s _ h2 hp).res (sc (h6 s))
 . exact (I0 v K hv g6 g7 s _ h2 hp).res (sc (h7 s))
theorem xS {p : Pf → Bool} {l : List Pf} {j : Nat} (h : j < l.length) : ar p (l.drop j) = (if p (l.getD j default) = true then [l.getD j default] else []) ++ ar p (l.drop (j + 1)) := by
 rw [List.drop_eq_getElem_cons h, List.getD_eq_getElem?_getD, List.getElem?_eq_getElem h]
 unfold ar
 rw [List.filter_cons]
 simp only [Option.getD_some]
 split <;> rfl
theorem E6 {p : Pf → Bool} {l : List Pf} {j : Nat} (h : j < l.length) (hp : p (l.getD j default) = true) (hn : ar p (l.drop (j + 1)) = []) : ar p l ≠ [] ∧ aQ (ar p l) = l.getD j default := by
 have e : ar p l = ar p (l.take j) ++ ar p (l.drop j) := by
  unfold ar; rw [← List.filter_append, List.take_append_drop]
 rw [xS h, if_pos hp, hn, List.append_nil] at e
 rw [e]
 exact ⟨by simp, jf _ _⟩
end Go.Proofs.YtdjolnjlhbfnmaaGreatDoor
