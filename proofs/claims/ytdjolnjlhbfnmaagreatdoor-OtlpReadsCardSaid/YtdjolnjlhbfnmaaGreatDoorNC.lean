/-
  A part of the proof.
-/
import Derived.Shelf.Sort.Plain
import Derived.Test.YtdjolnjlhbfnmaaGreatDoorProg
import Derived.Test.YtdjolnjlhbfnmaaGreatDoorNB
namespace Go.Proofs
open Go.Shelf
def Tryz.CJ : Go.Shelf.Ren := ⟨fun | 190 => 58 | 125 => 93 | 258 => 92 | 128 => 133 | 129 => 134 | 302 => 124 | 303 => 125 | 304 => 126 | 305 => 127 | 306 => 128 | 307 => 129 | 308 => 130 | 309 => 131 | 310 => 132 | 333 => 152 | 329 => 153 | 330 => 154 | 334 => 155 | 335 => 156 | 336 => 157 | 344 => 164 | n => n, fun | 31 => 60 | 9 => 9 | 3 => 3 | 46 => 177 | 0 => 0 | 51 => 202 | 53 => 35 | 4 => 4 | 183 => 216 | 182 => 215 | 131 => 221 | 5 => 5 | 218 => 236 | 222 => 240 | 228 => 248 | 229 => 249 | n => n, fun | n => n⟩
theorem Tryz.Mq : Go.Proofs.Lays.n190 Tryz.prog Tryz.CJ := {
 mixed := by kernel_rfl
 f125 := Tryz.func93.trans (congrArg some (by kernel_rfl))
 f128 := Tryz.func133.trans (congrArg some (by kernel_rfl))
 f129 := Tryz.func134.trans (congrArg some (by kernel_rfl))
 f190 := Tryz.func58.trans (congrArg some (by kernel_rfl))
 f258 := Tryz.func92.trans (congrArg some (by kernel_rfl))
 f302 := Tryz.func124.trans (congrArg some (by kernel_rfl))
 f303 := Tryz.func125.trans (congrArg some (by kernel_rfl))
 f304 := Tryz.func126.trans (congrArg some (by kernel_rfl))
 f305 := Tryz.func127.trans (congrArg some (by kernel_rfl))
 f306 := Tryz.func128.trans (congrArg some (by kernel_rfl))
 f307 := Tryz.func129.trans (congrArg some (by kernel_rfl))
 f308 := Tryz.func130.trans (congrArg some (by kernel_rfl))
 f309 := Tryz.func131.trans (congrArg some (by kernel_rfl))
 f310 := Tryz.func132.trans (congrArg some (by kernel_rfl))
 f329 := Tryz.func153.trans (congrArg some (by kernel_rfl))
 f330 := Tryz.func154.trans (congrArg some (by kernel_rfl))
 f333 := Tryz.func152.trans (congrArg some (by kernel_rfl))
 f334 := Tryz.func155.trans (congrArg some (by kernel_rfl))
 f335 := Tryz.func156.trans (congrArg some (by kernel_rfl))
 f336 := Tryz.func157.trans (congrArg some (by kernel_rfl))
 f344 := Tryz.func164.trans (congrArg some (by kernel_rfl))
 t0 := Tryz.underlying0
 a0 := Tryz.isAgg0
 z0 := Tryz.sizeOf0
 v0 := Tryz.zeroValue0
 t3 := Tryz.underlying3
 a3 := Tryz.isAgg3
 z3 := Tryz.sizeOf3
 v3 := Tryz.zeroValue3
 t4 := Tryz.underlying4
 a4 := Tryz.isAgg4
 z4 := Tryz.sizeOf4
 v4 := Tryz.zeroValue4
 t5 := Tryz.underlying5
 a5 := Tryz.isAgg5
 z5 := Tryz.sizeOf5
 v5 := Tryz.zeroValue5
 t9 := Tryz.underlying9
 a9 := Tryz.isAgg9
 z9 := Tryz.sizeOf9
 v9 := Tryz.zeroValue9
 t31 := Tryz.underlying60
 a31 := Tryz.isAgg60
 z31 := Tryz.sizeOf60
 v31 := Tryz.zeroValue60
 t46 := Tryz.underlying177
 a46 := Tryz.isAgg177
 z46 := Tryz.sizeOf177
 v46 := Tryz.zeroValue177
 t51 := Tryz.underlying202
 a51 := Tryz.isAgg202
 z51 := Tryz.sizeOf202
 v51 := Tryz.zeroValue202
 t53 := Tryz.underlying35
 a53 := Tryz.isAgg35
 z53 := Tryz.sizeOf35
 v53 := Tryz.zeroValue35
 t131 := Tryz.underlying221
 a131 := Tryz.isAgg221
 z131 := Tryz.sizeOf221
 v131 := Tryz.zeroValue221
 t182 := Tryz.underlying215
 a182 := Tryz.isAgg215
 z182 := Tryz.sizeOf215
 v182 := Tryz.zeroValue215
 t183 := Tryz.underlying216
 a183 := Tryz.isAgg216
 z183 := Tryz.sizeOf216
 v183 := Tryz.zeroValue216
 t218 := Tryz.underlying236
 a218 := Tryz.isAgg236
 z218 := Tryz.sizeOf236
 v218 := Tryz.zeroValue236
 t222 := Tryz.underlying240
 a222 := Tryz.isAgg240
 z222 := Tryz.sizeOf240
 v222 := Tryz.zeroValue240
 t228 := Tryz.underlying248
 a228 := Tryz.isAgg248
 z228 := Tryz.sizeOf248
 v228 := Tryz.zeroValue248
 t229 := Tryz.underlying249
 a229 := Tryz.isAgg249
 z229 := Tryz.sizeOf249
 v229 := Tryz.zeroValue249 }
end Go.Proofs
set_option linter.unusedSimpArgs false
set_option linter.unusedVariables false
set_option maxHeartbeats 4000000
namespace Go.Proofs.YtdjolnjlhbfnmaaGreatDoor
open Go Go.VG
set_option maxRecDepth 100000
theorem KS {l : List aG} {n : Nat} {K : V → Prop} (h1 : ae (n < l.length)) (h2 : K (ea (l.getD n default))) : ez (aV l) n K := by
 rw [gP]; exact kG h1 h2
def txS : V → Ky
 | .str s => s
 | _ => []
theorem EZ (L : List Ky) : (L.map V.str).map txS = L := by
 rw [List.map_map]
 exact (List.map_congr_left (g := id) fun _ _ => rfl).trans (List.map_id _)
def zz : Sm := fun args σ => match args, σ with
 | [.buf 0], [.buf 1 0 l] => some (l = (l.map txS).map V.str ∧ l.length ≤ 1000000, .tuple [], some [.buf 1 0 ((sorted (l.map txS)).map V.str), .dead])
 | _, _ => none
-- #name sort slices.Sort[[]string,string]
theorem Mi : au 58 zz := by
 intro args sg pre x r he hp
 unfold zz at he
 split at he <;> cases he
 rename_i l
 obtain ⟨h1, h2⟩ := hp
 have h := OV (P := Tryz.prog) (gl := jc) (f := 58) Tryz.CJ Tryz.Mq rfl ⟨_, rfl, rfl, rfl⟩ (l.map txS) (by rw [List.length_map]; omega)
 rw [← h1] at h
 exact h
def kM (p : List (Ky × Int)) (j : Nat) : Ky := (p.getD j default).1
theorem Ml (p : List (Ky × Int)) : (List.range p.length).map (kM p) = p.map Prod.fst := by
 apply List.ext_getElem
 . simp
 . intro i h1 h2
   simp only [List.getElem_map, List.getElem_range, kM]
   rw [List.getD_eq_getElem?_getD, List.getElem?_eq_getElem (by simpa using h1)]
   rfl
theorem Mm {p : List (Ky × Int)} {ks : List Ky} {left : List Nat} {j : Nat} (h : (ks ++ left.map (kM p)).Perm (p.map Prod.fst)) (hj : j ∈ left) : ((ks ++ [kM p j]) ++ (left.erase j).map (kM p)).Perm (p.map Prod.fst) := by
 refine List.Perm.trans ?_ h
 rw [List.append_assoc]
 refine List.Perm.append_left ks ?_
 exact ((List.perm_cons_erase hj).map (kM p)).symm
theorem Du (l : List aG) : ∀ n, (cE l n).length ≤ n
 | 0 => Nat.le_refl 0
 | n + 1 => by
   have ih := Du l n
   have h := congrArg List.length (zQ (cE l n) (l.getD n default).key n)
   rw [cE]
   rw [List.length_map] at h
   rw [h]
   split
   . rw [List.length_map]; omega
   . rw [List.length_append, List.length_map, List.length_singleton]; omega
theorem IY {k : Nat} (hk : k ≤ 100000) (h1 : au 59 (jt (k + 1))) (l : List aG) (hl : bd l < k + 1) : OK 32 [.list false 7 (aV l)] [] (.list false 7 (aV (bM l []))) none := by
 refine al (C := cx [(59, jt (k + 1)), (58, zz)]) (aq ⟨h1, Mi, trivial⟩) (fn := Tryz.f32) rfl rfl rfl rfl fun hw _ => ?_
 have e1 := jH l
 have hn := D4 l
 all_goals try conv => whnf
 all_goals try (refine ae.mk ?_; try dsimp only)
 refine aT.mk (Nat × List Nat × Nat) (fun x => x.1 ≤ l.length ∧ x.2.1.length = (cE l x.1).length ∧ x.2.2 ≤ x.1) (fun x => ⟨57, [(0, .list false 7 (aV l)), (3, .map 0), (12, .list false 7 (aV l)), (13, .int .i64 l.length), (14, .int .i64 x.1)], [.map false [.kS] (mS (cE l x.1)) x.2.1 x.2.2], [0, 1]⟩) (fun x => l.length - x.1) [] (0, [], 0) ⟨Nat.zero_le _, rfl, Nat.le_refl _⟩ ?_ (fun ⟨i, bs, ck⟩ ⟨hi, hb, hc⟩ _ _ => ?_)
 . refine Go.VG.Sub.mk rfl ?_ ?_ ?_ ?_ <;> (repeat' first | trivial | apply ax | apply aH)
   rw [e1]
 have hst : cE l (i + 1) = ba (l.getD i default).key i (cE l i) := rfl
 repeat' ((conv => whnf); first | with_reducible refine go1 (fun j q h => ?_) fun h => ?_ | apply aj | (apply aw <;> intro h) | with_reducible refine rv ?_ ?_)
 all_goals try conv => whnf
 all_goals try (refine ae.mk ?_; try dsimp only)
 all_goals (try simp only [fU, eM, jH] at *)
 all_goals first | refine stay ?_ | omega | skip
 . have hu := Pj (i := (i : Int)) ‹cB (mS (cE l i)) (V.str (l.getD i default).key) = some (j, q)›
   refine ⟨[], (i + 1, bs, ck), ⟨by show i + 1 ≤ _; omega, ?_, by show ck ≤ i + 1; omega⟩, ?_, by show l.length - (i + 1) < l.length - i; omega⟩
   . show bs.length = (cE l (i + 1)).length
     have := congrArg List.length hu
     rw [List.length_map, xU, List.length_map] at this
     rw [hst, this, hb]
   . refine Go.VG.Sub.mk rfl ?_ ?_ ?_ ?_ <;> (repeat' first | trivial | apply ax | apply aH)
     all_goals first
      | (rw [hst, hu]; done)
      | (rw [bc]; omega)
 . have hu := Pk (i := (i : Int)) ‹cB (mS (cE l i)) (V.str (l.getD i default).key) = none›
   refine ⟨[], (i + 1, bs ++ [ck], ck + 1), ⟨by show i + 1 ≤ _; omega, ?_, by show ck + 1 ≤ i + 1; omega⟩, ?_, by show l.length - (i + 1) < l.length - i; omega⟩
   . show (bs ++ [ck]).length = (cE l (i + 1)).length
     have := congrArg List.length hu
     rw [List.length_map, List.length_append, List.length_map, List.length_singleton] at this
     rw [hst, this, List.length_append, hb, List.length_singleton]
   . refine Go.VG.Sub.mk rfl ?_ ?_ ?_ ?_ <;> (repeat' first | trivial | apply ax | apply aH)
     all_goals first
      | (rw [hst, hu]; done)
      | (rw [bc]; omega)
 obtain rfl : i = l.length := by omega
 have hok := xy l l.length (Nat.le_refl _)
 have hpl := Du l l.length
 have hcan := fun {ks : List Ky} (h : ks.Perm ((cE l l.length).map Prod.fst)) => FI l h
 have hpos := hok.pos
 have hkr := Ml (cE l l.length)
 have hks := fun {ks : List Ky} {left : List Nat} {j : Nat} => Mm (p := cE l l.length) (ks := ks) (left := left) (j := j)
 have hlk : ∀ k, gE (cE l l.length) k = getM (mS (cE l l.length)) (.str k) := fun _ => rfl
 have hout : ∀ k, uj l k = .mk k (dH (l.getD (gE (cE l l.length) k).toNat default).value) := fun _ => rfl
 clear hst hok
 generalize hp : cE l l.length = p at *
 refine aT.mk (List Ky × List Nat × Nat) (fun x => (x.1 ++ x.2.1.map (kM p)).Perm (p.map Prod.fst) ∧ (∀ j ∈ x.2.1, j < p.length) ∧ x.1.length + x.2.1.length ≤ 100000) (fun x => ⟨57, [(0, .list false 7 (aV l)), (3, .map 0), (6, .buf 2), (25, .ptr 1 0)], [.map false [.kS] (mS p) bs ck, .miter (.map 0) bs ck x.2.1 x.2.2, .buf 1 0 (x.1.map V.str)], [0, 1, 2]⟩) (fun x => x.2.1.length) [.tm 6 1] ([], List.range bs.length, bs.length) ⟨by rw [hb, hkr]; exact List.Perm.refl _, fun j hj => by rw [hb] at hj; exact List.mem_range.1 hj, by show 0 + (List.range bs.length).length ≤ 100000; rw [List.length_range]; omega⟩ ?_ (fun ⟨ks, left, last⟩ ⟨h3, h4, h5⟩ _ _ => ?_)
 . refine Go.VG.Sub.mk rfl ?_ ?_ ?_ ?_ <;> (repeat' first | trivial)
 have h3 : (ks ++ left.map (kM p)).Perm (p.map Prod.fst) := h3
 have h4 : ∀ j ∈ left, j < p.length := h4
 have h5 : ks.length + left.length ≤ 100000 := h5
 repeat' ((conv => whnf); first | with_reducible refine go2 ⟨rfl, rfl⟩ (fun h => ?_) fun j h => ?_ | apply aj | with_reducible apply kG)
 all_goals try conv => whnf
 all_goals try (refine ae.mk ?_; try dsimp only)
 all_goals first | refine stay ?_ | trivial | (simp (discharger := omega) [-List.getD_eq_getElem?_getD, wR] <;> omega) | skip
 . exact ⟨by rw [EZ], by rw [List.length_map]; omega⟩
 . have hl0 : left = [] := ‹(ks, left, last).2.1 = []›
   subst hl0
   rw [List.map_nil, List.append_nil] at h3
   have hc := hcan h3
   have hmem : ∀ x ∈ sorted ks, 0 ≤ gE p x ∧ gE p x < l.length := fun x hx => ⟨(hpos x).1, (hpos x).2 (h3.mem_iff.1 ((sorted_perm ks).mem_iff.1 hx))⟩
   have hsl : (sorted ks).length ≤ 100000 := by rw [zC]; omega
   simp only [EZ]
   generalize sorted ks = S at *
   refine aT.mk Nat (fun i => i ≤ S.length) (fun i => ⟨57, [(0, .list false 7 (aV l)), (3, .map 0), (8, .buf 4), (36, .buf 2), (37, .int .i64 S.length), (38, .int .i64 i)], [.map false [.kS] (mS p) bs ck, .dead, .buf 1 0 (S.map V.str), .dead, .buf 7 0 (((S.take i).map (uj l)).map ea)], [0, 1, 2, 3, 4]⟩) (fun i => S.length - i) [.tm 8 7] 0 (Nat.zero_le _) ?_ (fun i hi _ _ => ?_)
   . refine Go.VG.Sub.mk rfl ?_ ?_ ?_ ?_ <;> (repeat' first | trivial | apply ax | apply aH)
     rw [List.length_map]
   have hmi : i < S.length → 0 ≤ gE p (S.getD i default) ∧ gE p (S.getD i default) < l.length := fun q => hmem _ (by
    rw [List.getD_eq_getElem?_getD, List.getElem?_eq_getElem q]; exact List.getElem_mem q)
   rw [hlk] at hmi
   have hno : i < S.length → (l.getD (getM (mS p) (V.str (S.getD i default))).toNat default).value.nodes ≤ bd l := fun q => xk (by have := hmi q; omega)
   have ho := hout (S.getD i default)
   rw [hlk] at ho
   repeat' ((conv => whnf); first | apply aj | (apply aw <;> intro h) | with_reducible (first | refine KS ?_ ?_ | apply c9))
   all_goals try conv => whnf
   all_goals try (refine ae.mk ?_; try dsimp only)
   all_goals (try simp only [fU] at *)
   all_goals first | refine stay ?_ | omega | (simp (discharger := omega) [-List.getD_eq_getElem?_getD, wR] <;> omega) | skip
   . exact ⟨lC _, by have := hno (by omega); omega⟩
   . refine ⟨[], i + 1, by omega, ?_, by omega⟩
     rw [iA (d := default) (by omega), List.map_append, List.map_append, List.map_singleton, List.map_singleton, ho]
     refine Go.VG.Sub.mk rfl ?_ ?_ ?_ ?_ <;> (repeat' first | trivial | apply ax | apply aH)
     all_goals first
      | rfl
      | (rw [bc]; omega)
   . have hi2 : i = S.length := by omega
     subst hi2
     rw [List.take_length] at *
     refine af.mk [.bk 4] ?_ <;> (repeat' first | trivial | apply ax | apply cU)
     rw [hc, gP]
 . exact h4 j (by assumption)
 . have hj : j ∈ left := ‹j ∈ (ks, left, last).2.1›
   refine ⟨[], (ks ++ [kM p j], left.erase j, j), ⟨hks h3 hj, fun q hq => h4 q (List.mem_of_mem_erase hq), ?_⟩, ?_, ?_⟩
   . show (ks ++ [kM p j]).length + (left.erase j).length ≤ 100000
     have := List.length_pos_of_mem hj
     rw [List.length_append, List.length_singleton, List.length_erase_of_mem hj]
     have : 0 < left.length := this
     omega
   . refine Go.VG.Sub.mk rfl ?_ ?_ ?_ ?_ <;> (repeat' first | trivial | apply ax | apply bo)
     all_goals first
      | rfl
      | (rw [List.map_append]; rfl)
   . show (left.erase j).length < left.length
     have : 0 < left.length := List.length_pos_of_mem hj
     rw [List.length_erase_of_mem hj]
     omega
theorem J0 {k : Nat} (hk : k ≤ 100000) (h1 : au 59 (jt k)) (h2 : au 32 (kV k)) (v : aK) (hv : v.nodes < k + 1) : OK 59 [ev v] [] (ev (dH v)) none := by
 refine al (C := cx [(59, jt k), (32, kV k)]) (aq ⟨h1, h2, trivial⟩) (fn := Tryz.f59) rfl rfl rfl rfl fun hw _ => ?_
 have e1 := nY v.list
 have hn := rV v
 have hl := D3 v.list
 rw [AN]
 all_goals try conv => whnf
 all_goals try (refine ae.mk ?_; try dsimp only)
 refine aT.mk Nat (fun i => i ≤ v.list.length) (fun i => ⟨26, [(1, .ptr 0 0), (2, .ptr 1 0), (3, .buf 2), (7, .list false 6 (dK v.list)), (8, .int .i64 v.list.length), (9, .int .i64 i)], [.cells (cv v), .cells [.int .u8 0, .str [], .int .i64 0, .int .u64 0, .list true 0 [], .list true 0 []], .buf 6 0 (((v.list.take i).map dH).map ev)], [0, 1, 2, 3]⟩) (fun i => v.list.length - i) [.tm 3 6] 0 (Nat.zero_le _) ?_ (fun i hi _ _ => ?_)
 . refine Go.VG.Sub.mk rfl ?_ ?_ ?_ ?_ <;> (repeat' first | trivial | apply ax | apply aH)
   rw [e1]
 repeat' ((conv => whnf); first | apply aj | (apply aw <;> intro h) | with_reducible refine wv ?_ ?_)
 all_goals try conv => whnf
 all_goals try (refine ae.mk ?_; try dsimp only)
 all_goals (try simp only [fU, eM, nY] at *)
 all_goals first | refine stay ?_ | omega | (simp (discharger := omega) [-List.getD_eq_getElem?_getD, wR] <;> omega) | skip
 . have q4 := xj (l := v.list) (i := i) (by omega)
   exact ⟨lC _, by omega⟩
 . refine ⟨[], i + 1, by omega, ?_, by omega⟩
   rw [iA (d := default) (by omega), List.map_append, List.map_append]
   refine Go.VG.Sub.mk rfl ?_ ?_ ?_ ?_ <;> (repeat' first | trivial | apply ax | apply aH)
   all_goals first
    | rfl
    | (rw [bc]; omega)
 . exact ⟨eP _, by omega⟩
 . have hi2 : i = v.list.length := by omega
   subst hi2
   rw [List.take_length]
   refine af.mk [.bk 2] ?_ <;> (repeat' first | trivial | apply ax | apply cU | apply cZ | apply bE)
   exact (pg _).symm
theorem Dn : ∀ k : Nat, k ≤ 100000 → au 59 (jt k) ∧ au 32 (kV k)
 | 0, _ => ⟨uG fun _ h => by omega, uE fun _ h => by omega⟩
 | k + 1, hk => by
   have ih := Dn k (by omega)
   have h1 := uG (k := k + 1) fun v hv => J0 (k := k) (by omega) ih.1 ih.2 v hv
   exact ⟨h1, uE fun l hl => IY (k := k) (by omega) h1 l hl⟩
-- #name pCanV value.Canon
-- #name pCanM value.CanonEntries
def yM : Sm := kV 100000
theorem Co : au 32 yM := (Dn 100000 (Nat.le_refl _)).2
end Go.Proofs.YtdjolnjlhbfnmaaGreatDoor
