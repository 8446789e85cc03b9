/-
  A part of the proof.
-/
import Derived.Test.YtdjolnjlhbfnmaaGreatDoorPRj
set_option linter.unusedSimpArgs false
set_option linter.unusedVariables false
set_option maxHeartbeats 4000000
namespace Go.Proofs.YtdjolnjlhbfnmaaGreatDoor
open Go Go.VG
set_option maxRecDepth 100000
theorem Bc : ∀ (n : Nat) (c : Cu) (acc : List Pf), c.ok → acc.length ≤ c.p → (dJ n c acc).2.length ≤ c.e
 | 0, c, acc, h, h2 => by rw [dJ]; exact Nat.le_trans h2 h.1
 | n + 1, c, acc, h, h2 => by
   rw [dJ]
   have hk := rW h
   split
   . split
     . exact Nat.le_trans h2 h.1
     . rename_i q
       have h0 : c.bK.c = 0 := by simpa using q
       have := uf h0
       have := Bc n c.bK (acc ++ [c.fz]) hk.1 (by rw [List.length_append, List.length_singleton]; omega)
       rw [hk.2.2] at this
       exact this
   . exact Nat.le_trans h2 h.1
theorem Fl (s : List UInt8) : (aF s).length ≤ s.length := by
 unfold aF
 split
 . exact Bc _ (Cu.new s) [] ⟨Nat.zero_le _, Nat.le_refl _⟩ (Nat.zero_le _)
 . simp
end Go.Proofs.YtdjolnjlhbfnmaaGreatDoor
namespace Go.Proofs.YtdjolnjlhbfnmaaGreatDoor
open Go Go.VG
set_option maxRecDepth 100000
abbrev Tg : Type := Int × Int
abbrev fI (p : Tg) : V := .agg [.int .i64 p.1, .int .i64 p.2]
def fG : V → Tg
 | .agg [.int _ a, .int _ b] => (a, b)
 | _ => (0, 0)
def aS : V → Pf
 | .agg [.int _ n, .int _ w, .int _ u, .str t] => ⟨n, w, u, t⟩
 | _ => default
theorem nS (l : List Tg) : (l.map fI).map fG = l := by
 rw [List.map_map]
 have : fG ∘ fI = id := funext fun ⟨a, b⟩ => rfl
 rw [this, List.map_id]
theorem bW (l : List Pf) : (l.map av).map aS = l := by
 rw [List.map_map]
 have : aS ∘ av = id := funext fun ⟨a, b, c, d⟩ => rfl
 rw [this, List.map_id]
def mQ (tl : List Tg) (p : Tg) : Int := if p ∈ tl then (tl.idxOf p : Int) else -1
theorem L2 {tl : List Tg} {p : Tg} {i : Nat} (h : ∀ j, j < i → tl.getD j (0, 0) ≠ p) (hi : i < tl.length) (hp : tl.getD i (0, 0) = p) : mQ tl p = i := by
 have hg : tl[i]? = some p := by rw [List.getElem?_eq_getElem hi]; rw [List.getD_eq_getElem?_getD, List.getElem?_eq_getElem hi] at hp; exact congrArg some hp
 have hm : p ∈ tl := List.mem_of_getElem? hg
 have hlt := List.idxOf_lt_length_of_mem hm
 have hge := List.getElem_idxOf hlt
 unfold mQ
 rw [if_pos hm]
 have h1 : ¬ tl.idxOf p < i := fun q => by
  refine h _ q ?_
  rw [List.getD_eq_getElem?_getD, List.getElem?_eq_getElem hlt]
  exact hge
 have h2 : ¬ i < tl.idxOf p := fun q => by
  have := List.not_of_lt_findIdx (p := (· == p)) (xs := tl) (i := i) q
  obtain ⟨_, e⟩ := List.getElem?_eq_some_iff.1 hg
  exact absurd e (by simpa using this)
 omega
theorem L3 {tl : List Tg} {p : Tg} (h : ∀ j, j < tl.length → tl.getD j (0, 0) ≠ p) : mQ tl p = -1 := by
 unfold mQ
 rw [if_neg]
 intro hm
 obtain ⟨j, hj⟩ := List.getElem?_of_mem hm
 obtain ⟨hl, he⟩ := List.getElem?_eq_some_iff.1 hj
 refine h j hl ?_
 rw [List.getD_eq_getElem?_getD, hj]; rfl
theorem ixT_0 {tl : List Tg} {p : Tg} : 0 ≤ mQ tl p ↔ p ∈ tl := by
 unfold mQ
 split
 . rename_i h; exact ⟨fun _ => h, fun _ => by omega⟩
 . rename_i h; exact ⟨fun q => by omega, fun q => absurd q h⟩
theorem ER {x : Tg} {a b : Int} : (a == x.1 && b == x.2) = true ↔ x = (a, b) := by
 obtain ⟨p, q⟩ := x
 simp only [Bool.and_eq_true, beq_iff_eq, Prod.mk.injEq]
 exact ⟨fun h => ⟨h.1.symm, h.2.symm⟩, fun h => ⟨h.1.symm, h.2.symm⟩⟩
theorem tg_ne {x : Tg} {a b : Int} (h : (a == x.1 && b == x.2) = false) (q : x = (a, b)) : False := by
 rw [ER.2 q] at h; cases h
theorem Kv (l : List V) (a b : Int) (hp : (∃ tl : List Tg, l = tl.map fI) ∧ l.length ≤ 1000000000) : OK 163 ([.buf 0, .agg [.int .i64 a, .int .i64 b]]) ([.buf 2 0 l]) (.int .i64 (mQ (l.map fG) (a, b))) (none) := by
 refine al (C := cx []) (aq trivial) (fn := Tryz.f163) rfl rfl rfl rfl fun hw hs => ?_
 obtain ⟨⟨tl, rfl⟩, hl⟩ := hp
 rw [nS]
 have hml : (tl.map fI).length = tl.length := List.length_map ..
 all_goals try conv => whnf
 all_goals try (refine ae.mk ?_; try dsimp only)
 refine aT.mk Nat (fun i => i ≤ tl.length ∧ ∀ j, j < i → tl.getD j (0, 0) ≠ (a, b)) (fun i => ⟨19, [(0, .buf 0), (3, .ptr 1 0), (6, .buf 0), (7, .int .i64 tl.length), (8, .int .i64 i)], [.buf 2 0 (tl.map fI), .cells [.int .i64 a, .int .i64 b]], []⟩) (fun i => tl.length - i) [] 0 ⟨Nat.zero_le _, fun _ h => by omega⟩ ?_ (fun i ⟨hi, hj⟩ _ _ => ?_)
 . refine Go.VG.Sub.mk rfl ?_ ?_ ?_ ?_ <;> (repeat' first | trivial | apply ax | apply aH)
   rw [hml]
 repeat' ((conv => whnf); first | apply aj | ((first | apply aw | apply eG) <;> intro h) | with_reducible apply c9)
 all_goals try conv => whnf
 all_goals try (refine ae.mk ?_; try dsimp only)
 all_goals (try simp only [dc] at *)
 all_goals first | refine stay ?_ | omega | skip
 . have he := ER.1 (‹(a == _ && b == _) = true›)
   rw [L2 hj (by omega) he]
   refine af.mk [] ?_ <;> (repeat' first | trivial)
 . have he := fun q => tg_ne (‹(a == _ && b == _) = false›) (q : tl.getD i (0, 0) = (a, b))
   refine ⟨[], i + 1, ⟨by omega, fun j hj2 => ?_⟩, ?_, by omega⟩
   . by_cases q : j = i
     . subst q; exact he
     . exact hj j (by omega)
   . refine Go.VG.Sub.mk rfl ?_ ?_ ?_ ?_ <;> (repeat' first | trivial | apply ax | apply aH)
     (simp (discharger := omega) only [wR]; omega)
 . rw [L3 (fun j hj2 => hj j (by omega))]
   refine af.mk [] ?_ <;> (repeat' first | trivial)
def zy : Sm := fun args σ => match args, σ with
 | [.buf 0, .agg [.int .i64 a, .int .i64 b]], [.buf 2 0 l] => some ((∃ tl : List Tg, l = tl.map fI) ∧ l.length ≤ 1000000000, .int .i64 (mQ (l.map fG) (a, b)), none)
 | _, _ => none
theorem Mh : au 163 zy := by
 intro args sg pre x r he hp
 unfold zy at he
 split at he <;> cases he
 . exact Kv (hp := hp) ..
theorem Ku (l : List V) (a b : Int) (hp : (∃ tl : List Tg, l = tl.map fI) ∧ l.length ≤ 1000000000) : OK 149 ([.buf 0, .agg [.int .i64 a, .int .i64 b]]) ([.buf 2 0 l]) (.bool (decide ((a, b) ∈ l.map fG))) (none) := by
 refine al (C := cx [(163, zy)]) (aq ⟨Mh, trivial⟩) (fn := Tryz.f149) rfl rfl rfl rfl fun hw hs => ?_
 have hx := @ixT_0 (l.map fG) (a, b)
 repeat' ((conv => whnf); apply aj)
 all_goals try conv => whnf
 all_goals try (refine ae.mk ?_; try dsimp only)
 all_goals first | refine stay ?_ | trivial | skip
 refine af.mk [] ?_ <;> (repeat' first | trivial | apply ax | apply cR)
 rw [decide_eq_decide]
 exact hx
def zx : Sm := fun args σ => match args, σ with
 | [.buf 0, .agg [.int .i64 a, .int .i64 b]], [.buf 2 0 l] => some ((∃ tl : List Tg, l = tl.map fI) ∧ l.length ≤ 1000000000, .bool (decide ((a, b) ∈ l.map fG)), none)
 | _, _ => none
theorem Mg : au 149 zx := by
 intro args sg pre x r he hp
 unfold zx at he
 split at he <;> cases he
 . exact Ku (hp := hp) ..
theorem Jc (n w : Int) (f : Pf) (hp : True) : OK 26 ([.agg [.int .i64 n, .int .i64 w], av f]) ([]) (.bool (f.no == n && f.wi == w)) (none) := by
 refine al (C := cx []) (aq trivial) (fn := Tryz.f26) rfl rfl rfl rfl fun hw hs => ?_
 repeat' ((conv => whnf); (apply aw <;> intro h))
 all_goals try conv => whnf
 all_goals try (refine ae.mk ?_; try dsimp only)
 all_goals try refine stay ?_
 all_goals
  refine af.mk [] ?_ <;> (repeat' first | trivial | apply ax | apply cR)
  simp_all
def k9 : Sm := fun args σ => match args, σ with
 | [.agg [.int .i64 n, .int .i64 w], .agg [.int .i64 n_f, .int .i64 w_f, .int .u64 u_f, .str t_f]], [] => some (True ∧ (True), .bool ((Pf.mk n_f w_f u_f t_f).no == n && (Pf.mk n_f w_f u_f t_f).wi == w), none)
 | _, _ => none
theorem lE : au 26 k9 := by
 intro args sg pre x r he hp
 unfold k9 at he
 split at he <;> cases he
 . rw [iY (hp).1]; exact Jc (hp := hp.2) ..
theorem Jq (l : List V) (f : Pf) (hp : (∃ tl : List Tg, l = tl.map fI) ∧ l.length ≤ 1000000000) : OK 148 ([av f, .ptr 0 0]) ([.cells [.buf 1], .buf 2 0 l]) (.bool (decide ((f.no, f.wi) ∈ l.map fG))) (none) := by
 refine al (C := cx [(149, zx)]) (aq ⟨Mg, trivial⟩) (fn := Tryz.f148) rfl rfl rfl rfl fun hw hs => ?_
 repeat' ((conv => whnf); apply aj)
 all_goals try conv => whnf
 all_goals try (refine ae.mk ?_; try dsimp only)
 all_goals first | refine stay ?_ | trivial | skip
 refine af.mk [] ?_ <;> (repeat' first | trivial)
def kd : Sm := fun args σ => match args, σ with
 | [.agg [.int .i64 n_f, .int .i64 w_f, .int .u64 u_f, .str t_f], .ptr 0 0], [.cells [.buf 1], .buf 2 0 l] => some (True ∧ ((∃ tl : List Tg, l = tl.map fI) ∧ l.length ≤ 1000000000), .bool (decide (((Pf.mk n_f w_f u_f t_f).no, (Pf.mk n_f w_f u_f t_f).wi) ∈ l.map fG)), none)
 | _, _ => none
theorem lI : au 148 kd := by
 intro args sg pre x r he hp
 unfold kd at he
 split at he <;> cases he
 . rw [iY (hp).1]; exact Jq (hp := hp.2) ..
theorem Jr (f : Pf) (q1 q2 q3 : Int) (q4 : List UInt8) (b : Bool) (hp : True) : OK 150 ([av f, .ptr 0 0, .ptr 1 0]) ([.cells [.int .i64 q1, .int .i64 q2, .int .u64 q3, .str q4], .cells [.bool b]]) (.tuple []) (some [.cells (pb f), .cells [.bool true]]) := by
 refine al (C := cx []) (aq trivial) (fn := Tryz.f150) rfl rfl rfl rfl fun hw hs => ?_
 all_goals try conv => whnf
 all_goals try (refine ae.mk ?_; try dsimp only)
 all_goals try refine stay ?_
 refine af.mk [] ?_ <;> (repeat' first | trivial)
def ke : Sm := fun args σ => match args, σ with
 | [.agg [.int .i64 n_f, .int .i64 w_f, .int .u64 u_f, .str t_f], .ptr 0 0, .ptr 1 0], [.cells [.int .i64 q1, .int .i64 q2, .int .u64 q3, .str q4], .cells [.bool b]] => some (True ∧ (True), .tuple [], some [.cells (pb (Pf.mk n_f w_f u_f t_f)), .cells [.bool true]])
 | _, _ => none
theorem lJ : au 150 ke := by
 intro args sg pre x r he hp
 unfold ke at he
 split at he <;> cases he
 . rw [iY (hp).1]; exact Jr (hp := hp.2) ..
theorem Jt (f : Pf) (u : Int) (b : Bool) (hp : True) : OK 151 ([av f, .ptr 0 0, .ptr 1 0]) ([.cells [.int .u64 u], .cells [.bool b]]) (.tuple []) (some [.cells [.int .u64 f.num], .cells [.bool true]]) := by
 refine al (C := cx []) (aq trivial) (fn := Tryz.f151) rfl rfl rfl rfl fun hw hs => ?_
 all_goals try conv => whnf
 all_goals try (refine ae.mk ?_; try dsimp only)
 all_goals try refine stay ?_
 refine af.mk [] ?_ <;> (repeat' first | trivial)
def kf : Sm := fun args σ => match args, σ with
 | [.agg [.int .i64 n_f, .int .i64 w_f, .int .u64 u_f, .str t_f], .ptr 0 0, .ptr 1 0], [.cells [.int .u64 u], .cells [.bool b]] => some (True ∧ (True), .tuple [], some [.cells [.int .u64 (Pf.mk n_f w_f u_f t_f).num], .cells [.bool true]])
 | _, _ => none
theorem lK : au 151 kf := by
 intro args sg pre x r he hp
 unfold kf at he
 split at he <;> cases he
 . rw [iY (hp).1]; exact Jt (hp := hp.2) ..
theorem Jy (f : Pf) (s : List UInt8) (b : Bool) (hp : True) : OK 78 ([av f, .ptr 0 0, .ptr 1 0]) ([.cells [.str s], .cells [.bool b]]) (.tuple []) (some [.cells [.str f.text], .cells [.bool true]]) := by
 refine al (C := cx []) (aq trivial) (fn := Tryz.f78) rfl rfl rfl rfl fun hw hs => ?_
 all_goals try conv => whnf
 all_goals try (refine ae.mk ?_; try dsimp only)
 all_goals try refine stay ?_
 refine af.mk [] ?_ <;> (repeat' first | trivial)
def kg : Sm := fun args σ => match args, σ with
 | [.agg [.int .i64 n_f, .int .i64 w_f, .int .u64 u_f, .str t_f], .ptr 0 0, .ptr 1 0], [.cells [.str s], .cells [.bool b]] => some (True ∧ (True), .tuple [], some [.cells [.str (Pf.mk n_f w_f u_f t_f).text], .cells [.bool true]])
 | _, _ => none
theorem lN : au 78 kg := by
 intro args sg pre x r he hp
 unfold kg at he
 split at he <;> cases he
 . rw [iY (hp).1]; exact Jy (hp := hp.2) ..
theorem Jn (f : Pf) (l : List V) (b : Bool) (hp : l.length + f.text.length ≤ 4294967296) : OK 53 ([av f, .ptr 0 0, .ptr 1 0]) ([.cells [.buf 2], .cells [.bool b], .buf 1 0 l]) (.tuple []) (some [.cells [.buf 2], .cells [.bool true], .buf 1 0 (l ++ bl f.text)]) := by
 refine al (C := cx []) (aq trivial) (fn := Tryz.f53) rfl rfl rfl rfl fun hw hs => ?_
 repeat' ((conv => whnf); apply aj)
 all_goals try conv => whnf
 all_goals try (refine ae.mk ?_; try dsimp only)
 all_goals first | refine stay ?_ | (simp only [cL]; omega) | skip
 refine af.mk [] ?_ <;> (repeat' first | trivial)
def kc : Sm := fun args σ => match args, σ with
 | [.agg [.int .i64 n_f, .int .i64 w_f, .int .u64 u_f, .str t_f], .ptr 0 0, .ptr 1 0], [.cells [.buf 2], .cells [.bool b], .buf 1 0 l] => some (True ∧ (l.length + (Pf.mk n_f w_f u_f t_f).text.length ≤ 4294967296), .tuple [], some [.cells [.buf 2], .cells [.bool true], .buf 1 0 (l ++ bl (Pf.mk n_f w_f u_f t_f).text)])
 | _, _ => none
theorem lH : au 53 kc := by
 intro args sg pre x r he hp
 unfold kc at he
 split at he <;> cases he
 . rw [iY (hp).1]; exact Jn (hp := hp.2) ..
theorem Jd (f : Pf) (l : List V) (hp : l.length + 1 ≤ 4294967296) : OK 27 ([av f, .ptr 0 0]) ([.cells [.buf 1], .buf 1 0 l]) (.tuple []) (some [.cells [.buf 1], .buf 1 0 (l ++ [.str f.text])]) := by
 refine al (C := cx []) (aq trivial) (fn := Tryz.f27) rfl rfl rfl rfl fun hw hs => ?_
 repeat' ((conv => whnf); apply aj)
 all_goals try conv => whnf
 all_goals try (refine ae.mk ?_; try dsimp only)
 all_goals first | refine stay ?_ | trivial | skip
 refine af.mk [] ?_ <;> (repeat' first | trivial)
def kb : Sm := fun args σ => match args, σ with
 | [.agg [.int .i64 n_f, .int .i64 w_f, .int .u64 u_f, .str t_f], .ptr 0 0], [.cells [.buf 1], .buf 1 0 l] => some (True ∧ (l.length + 1 ≤ 4294967296), .tuple [], some [.cells [.buf 1], .buf 1 0 (l ++ [.str (Pf.mk n_f w_f u_f t_f).text])])
 | _, _ => none
theorem lG : au 27 kb := by
 intro args sg pre x r he hp
 unfold kb at he
 split at he <;> cases he
 . rw [iY (hp).1]; exact Jd (hp := hp.2) ..
def ar (p : Pf → Bool) (l : List Pf) : List Pf := l.filter p
abbrev aD (n w : Int) (f : Pf) : Bool := f.no == n && f.wi == w
abbrev bn (tl : List Tg) (f : Pf) : Bool := decide ((f.no, f.wi) ∈ tl)
def aQ (l : List Pf) : Pf := l.getLastD default
def cy (l : List Pf) : Bool := !l.isEmpty
def bX (l : List Pf) : List UInt8 := (l.map Pf.text).flatten
abbrev cu (l : List Pf) : List V := l.map fun f => .str f.text
theorem qu (p : Pf → Bool) {a : List Pf} {i : Nat} (h : i < a.length) : ar p (a.take (i + 1)) = if p (a.getD i default) = true then ar p (a.take i) ++ [a.getD i default] else ar p (a.take i) := by
 unfold ar
 rw [List.take_add_one, List.filter_append, List.getD_eq_getElem?_getD, List.getElem?_eq_getElem h]
 simp only [Option.toList_some, Option.getD_some, List.filter_cons, List.filter_nil]
 split <;> simp
theorem jf (l : List Pf) (x : Pf) : aQ (l ++ [x]) = x := by unfold aQ; rw [List.getLastD_concat]
theorem kp (l : List Pf) (x : Pf) : cy (l ++ [x]) = true := by simp [cy]
theorem iO (l : List Pf) (x : Pf) : bX (l ++ [x]) = bX l ++ x.text := by simp [bX]
theorem l4 (l : List Pf) (x : Pf) : cu (l ++ [x]) = cu l ++ [.str x.text] := by simp [cu]
def bZ (a : List Pf) : Prop := ∀ f ∈ a, f.text.length ≤ 100000
theorem join_le : ∀ {l : List Pf}, bZ l → (bX l).length ≤ l.length * 100000
 | [], _ => by simp [bX]
 | f :: l, h => by
   have h1 := h f (List.mem_cons_self ..)
   have h2 := join_le (l := l) fun g hg => h g (List.mem_cons_of_mem _ hg)
   have e : bX (f :: l) = f.text ++ bX l := by simp [bX]
   rw [e, List.length_append, List.length_cons]
   omega
theorem sn {p : Pf → Bool} {a : List Pf} (h : bZ a) (i : Nat) : bZ (ar p (a.take i)) ∧ (ar p (a.take i)).length ≤ i := by
 constructor
 . intro f hf
   exact h f (List.mem_of_mem_take (List.mem_filter.1 hf).1)
 . exact Nat.le_trans (List.length_filter_le ..) (by rw [List.length_take]; exact Nat.min_le_left _ _)
theorem qw {a : List Pf} (h : bZ a) {i : Nat} (hi : i < a.length) : (a.getD i default).text.length ≤ 100000 := by
 refine h _ ?_
 rw [List.getD_eq_getElem?_getD, List.getElem?_eq_getElem hi]
 exact List.getElem_mem hi
theorem Je (n w u : Int) (b : Bool) (l : List V) (hp : (∃ a : List Pf, l = a.map av ∧ bZ a) ∧ l.length ≤ 10000 ∧ u = 0 ∧ b = false) : OK 25 ([.ptr 0 0, .func (.func 26) [.agg [.int .i64 n, .int .i64 w]] [], .func (.func 151) [] [.ptr 1 0, .ptr 2 0]]) ([.cells [.buf 3], .cells [.int .u64 u], .cells [.bool b], .buf 4 0 l]) (.tuple []) (some [.cells [.buf 3], .cells [.int .u64 (aQ (ar (aD n w) (l.map aS))).num], .cells [.bool (cy (ar (aD n w) (l.map aS)))], .buf 4 0 l, .dead]) := by
 refine al (C := cx [(26, k9), (151, kf), (78, kg), (53, kc), (27, kb), (148, kd), (150, ke)]) (aq ⟨lE, lK, lN, lH, lG, lI, lJ, trivial⟩) (fn := Tryz.f25) rfl rfl rfl rfl fun hw hs => ?_
 obtain ⟨⟨a, rfl, ha⟩, hl, rfl, rfl⟩ := hp
 simp only [bW]
 have hml : (a.map av).length = a.length := List.length_map ..
 all_goals try conv => whnf
 all_goals try (refine ae.mk ?_; try dsimp only)
 refine aT.mk Nat (fun i => i ≤ a.length) (fun i => ⟨26, [(0, .ptr 0 0), (1, .func (.func 26) [.agg [.int .i64 n, .int .i64 w]] []), (2, .func (.func 151) [] [.ptr 1 0, .ptr 2 0]), (13, .buf 3), (14, .int .i64 a.length), (15, .int .i64 i)], [.cells [.buf 3], .cells [.int .u64 (aQ (ar (aD n w) (a.take i))).num], .cells [.bool (cy (ar (aD n w) (a.take i)))], .buf 4 0 (a.map av)], []⟩) (fun i => a.length - i) [] 0 (Nat.zero_le _) ?_ (fun i hi _ _ => ?_)
 . refine Go.VG.Sub.mk rfl ?_ ?_ ?_ ?_ <;> (repeat' first | trivial | apply ax | apply aH)
   all_goals (first | rfl | simp [ar, aQ, cy, bX, cu, bl]; done | rw [hml])
 have hst := fun h => qu (aD n w) (a := a) (i := i) h
 have hsh := sn (p := aD n w) ha i
 have hjo := join_le hsh.1
 have hge := fun h => qw ha (i := i) h
 repeat' ((conv => whnf); first | apply aj | ((first | apply aw | apply eG) <;> intro h) | with_reducible apply c9)
 all_goals try conv => whnf
 all_goals try (refine ae.mk ?_; try dsimp only)
 all_goals (try simp only [dc] at *)
 all_goals first | refine stay ?_ | trivial | omega | skip
 all_goals (try simp only [eY, cu, List.length_map, nS] at *)
 all_goals first
  | (exact ⟨trivial, by have := hge (by omega); omega⟩)
  | (exact ⟨trivial, by omega⟩)
  | exact ⟨⟨_, rfl⟩, by omega⟩
  | (show af _ _ _ _ _ _
     obtain rfl : i = a.length := by omega
     simp only [List.take_length]
     refine af.mk [.nw] ?_ <;> (repeat' first | trivial)
     done)
  | (have hst := hst (by omega)
     first
     | rw [if_pos (by assumption)] at hst
     | rw [if_pos (decide_eq_true (by assumption))] at hst
     | rw [if_neg (fun q => absurd (of_decide_eq_true q) (by assumption))] at hst
     | rw [if_neg (Bool.eq_false_iff.mp (by assumption))] at hst
     refine ⟨[], i + 1, by omega, ?_, by omega⟩
     refine Go.VG.Sub.mk rfl ?_ ?_ ?_ ?_ <;> (repeat' first | trivial | apply ax | apply aH | apply cR | apply cS | apply bE)
     all_goals (first
      | ((simp (discharger := omega) only [wR]; omega); done)
      | (rw [hst]; done)
      | (simp only [hst, jf, kp, iO, l4, dF, cu, List.map_append, List.map_cons, List.map_nil]; done)
      | (simp only [hst, jf, kp, iO, l4, dF, cu, List.map_append, List.map_cons, List.map_nil]; rfl))
     done)
theorem Jf (n w : Int) (s : List UInt8) (b : Bool) (l : List V) (hp : (∃ a : List Pf, l = a.map av ∧ bZ a) ∧ l.length ≤ 10000 ∧ s = [] ∧ b = false) : OK 25 ([.ptr 0 0, .func (.func 26) [.agg [.int .i64 n, .int .i64 w]] [], .func (.func 78) [] [.ptr 1 0, .ptr 2 0]]) ([.cells [.buf 3], .cells [.str s], .cells [.bool b], .buf 4 0 l]) (.tuple []) (some [.cells [.buf 3], .cells [.str (aQ (ar (aD n w) (l.map aS))).text], .cells [.bool (cy (ar (aD n w) (l.map aS)))], .buf 4 0 l, .dead]) := by
 refine al (C := cx [(26, k9), (151, kf), (78, kg), (53, kc), (27, kb), (148, kd), (150, ke)]) (aq ⟨lE, lK, lN, lH, lG, lI, lJ, trivial⟩) (fn := Tryz.f25) rfl rfl rfl rfl fun hw hs => ?_
 obtain ⟨⟨a, rfl, ha⟩, hl, rfl, rfl⟩ := hp
 simp only [bW]
 have hml : (a.map av).length = a.length := List.length_map ..
 all_goals try conv => whnf
 all_goals try (refine ae.mk ?_; try dsimp only)
 refine aT.mk Nat (fun i => i ≤ a.length) (fun i => ⟨26, [(0, .ptr 0 0), (1, .func (.func 26) [.agg [.int .i64 n, .int .i64 w]] []), (2, .func (.func 78) [] [.ptr 1 0, .ptr 2 0]), (13, .buf 3), (14, .int .i64 a.length), (15, .int .i64 i)], [.cells [.buf 3], .cells [.str (aQ (ar (aD n w) (a.take i))).text], .cells [.bool (cy (ar (aD n w) (a.take i)))], .buf 4 0 (a.map av)], []⟩) (fun i => a.length - i) [] 0 (Nat.zero_le _) ?_ (fun i hi _ _ => ?_)
 . refine Go.VG.Sub.mk rfl ?_ ?_ ?_ ?_ <;> (repeat' first | trivial | apply ax | apply aH)
   all_goals (first | rfl | simp [ar, aQ, cy, bX, cu, bl]; done | rw [hml])
 have hst := fun h => qu (aD n w) (a := a) (i := i) h
 have hsh := sn (p := aD n w) ha i
 have hjo := join_le hsh.1
 have hge := fun h => qw ha (i := i) h
 repeat' ((conv => whnf); first | apply aj | ((first | apply aw | apply eG) <;> intro h) | with_reducible apply c9)
 all_goals try conv => whnf
 all_goals try (refine ae.mk ?_; try dsimp only)
 all_goals (try simp only [dc] at *)
 all_goals first | refine stay ?_ | trivial | omega | skip
 all_goals (try simp only [eY, cu, List.length_map, nS] at *)
 all_goals first
  | (exact ⟨trivial, by have := hge (by omega); omega⟩)
  | (exact ⟨trivial, by omega⟩)
  | exact ⟨⟨_, rfl⟩, by omega⟩
  | (show af _ _ _ _ _ _
     obtain rfl : i = a.length := by omega
     simp only [List.take_length]
     refine af.mk [.nw] ?_ <;> (repeat' first | trivial)
     done)
  | (have hst := hst (by omega)
     first
     | rw [if_pos (by assumption)] at hst
     | rw [if_pos (decide_eq_true (by assumption))] at hst
     | rw [if_neg (fun q => absurd (of_decide_eq_true q) (by assumption))] at hst
     | rw [if_neg (Bool.eq_false_iff.mp (by assumption))] at hst
     refine ⟨[], i + 1, by omega, ?_, by omega⟩
     refine Go.VG.Sub.mk rfl ?_ ?_ ?_ ?_ <;> (repeat' first | trivial | apply ax | apply dn | apply aH | apply cR | apply cS | apply bE)
     all_goals (first
      | ((simp (discharger := omega) only [wR]; omega); done)
      | (rw [hst]; done)
      | (simp only [hst, jf, kp, iO, l4, dF, cu, List.map_append, List.map_cons, List.map_nil]; done)
      | (simp only [hst, jf, kp, iO, l4, dF, cu, List.map_append, List.map_cons, List.map_nil]; rfl))
     done)
theorem Jg (n w : Int) (z : Nat) (b : Bool) (l : List V) (hp : (∃ a : List Pf, l = a.map av ∧ bZ a) ∧ l.length ≤ 10000 ∧ b = false) : OK 25 ([.ptr 0 0, .func (.func 26) [.agg [.int .i64 n, .int .i64 w]] [], .func (.func 53) [] [.ptr 1 0, .ptr 2 0]]) ([.cells [.buf 3], .cells [.list true z []], .cells [.bool b], .buf 4 0 l]) (.tuple []) (some [.cells [.buf 3], .cells [.buf 4], .cells [.bool (cy (ar (aD n w) (l.map aS)))], .buf 4 0 l, .buf 1 0 (bl (bX (ar (aD n w) (l.map aS)))), .dead]) := by
 refine al (C := cx [(26, k9), (151, kf), (78, kg), (53, kc), (27, kb), (148, kd), (150, ke)]) (aq ⟨lE, lK, lN, lH, lG, lI, lJ, trivial⟩) (fn := Tryz.f25) rfl rfl rfl rfl fun hw hs => ?_
 obtain ⟨⟨a, rfl, ha⟩, hl, rfl⟩ := hp
 simp only [bW]
 have hml : (a.map av).length = a.length := List.length_map ..
 all_goals try conv => whnf
 all_goals try (refine ae.mk ?_; try dsimp only)
 refine aT.mk Nat (fun i => i ≤ a.length) (fun i => ⟨26, [(0, .ptr 0 0), (1, .func (.func 26) [.agg [.int .i64 n, .int .i64 w]] []), (2, .func (.func 53) [] [.ptr 1 0, .ptr 2 0]), (13, .buf 3), (14, .int .i64 a.length), (15, .int .i64 i)], [.cells [.buf 3], .cells [.buf 4], .cells [.bool (cy (ar (aD n w) (a.take i)))], .buf 4 0 (a.map av), .buf 1 0 (bl (bX (ar (aD n w) (a.take i))))], [4]⟩) (fun i => a.length - i) [.cell 1 0 1] 0 (Nat.zero_le _) ?_ (fun i hi _ _ => ?_)
 . refine Go.VG.Sub.mk rfl ?_ ?_ ?_ ?_ <;> (repeat' first | trivial | apply ax | apply aH)
   all_goals (first | rfl | simp [ar, aQ, cy, bX, cu, bl]; done | rw [hml])
 have hst := fun h => qu (aD n w) (a := a) (i := i) h
 have hsh := sn (p := aD n w) ha i
 have hjo := join_le hsh.1
 have hge := fun h => qw ha (i := i) h
 repeat' ((conv => whnf); first | apply aj | ((first | apply aw | apply eG) <;> intro h) | with_reducible apply c9)
 all_goals try conv => whnf
 all_goals try (refine ae.mk ?_; try dsimp only)
 all_goals (try simp only [dc] at *)
 all_goals first | refine stay ?_ | trivial | omega | skip
 all_goals (try simp only [eY, cu, List.length_map, nS] at *)
 all_goals first
  | (exact ⟨trivial, by have := hge (by omega); omega⟩)
  | (exact ⟨trivial, by omega⟩)
  | exact ⟨⟨_, rfl⟩, by omega⟩
  | (show af _ _ _ _ _ _
     obtain rfl : i = a.length := by omega
     simp only [List.take_length]
     refine af.mk [.nw] ?_ <;> (repeat' first | trivial)
     done)
  | (have hst := hst (by omega)
     first
     | rw [if_pos (by assumption)] at hst
     | rw [if_pos (decide_eq_true (by assumption))] at hst
     | rw [if_neg (fun q => absurd (of_decide_eq_true q) (by assumption))] at hst
     | rw [if_neg (Bool.eq_false_iff.mp (by assumption))] at hst
     refine ⟨[], i + 1, by omega, ?_, by omega⟩
     refine Go.VG.Sub.mk rfl ?_ ?_ ?_ ?_ <;> (repeat' first | trivial | apply ax | apply aH | apply cR | apply bo | apply cS | apply bE)
     all_goals (first
      | ((simp (discharger := omega) only [wR]; omega); done)
      | (rw [hst]; done)
      | (simp only [hst, jf, kp, iO, l4, dF, cu, List.map_append, List.map_cons, List.map_nil]; done)
      | (simp only [hst, jf, kp, iO, l4, dF, cu, List.map_append, List.map_cons, List.map_nil]; rfl))
     done)
theorem Jh (n w : Int) (z : Nat) (l : List V) (hp : (∃ a : List Pf, l = a.map av ∧ bZ a) ∧ l.length ≤ 10000) : OK 25 ([.ptr 0 0, .func (.func 26) [.agg [.int .i64 n, .int .i64 w]] [], .func (.func 27) [] [.ptr 1 0]]) ([.cells [.buf 2], .cells [.list true z []], .buf 4 0 l]) (.tuple []) (some [.cells [.buf 2], .cells [.buf 3], .buf 4 0 l, .buf 1 0 (cu (ar (aD n w) (l.map aS))), .dead]) := by
 refine al (C := cx [(26, k9), (151, kf), (78, kg), (53, kc), (27, kb), (148, kd), (150, ke)]) (aq ⟨lE, lK, lN, lH, lG, lI, lJ, trivial⟩) (fn := Tryz.f25) rfl rfl rfl rfl fun hw hs => ?_
 obtain ⟨⟨a, rfl, ha⟩, hl⟩ := hp
 simp only [bW]
 have hml : (a.map av).length = a.length := List.length_map ..
 all_goals try conv => whnf
 all_goals try (refine ae.mk ?_; try dsimp only)
 refine aT.mk Nat (fun i => i ≤ a.length) (fun i => ⟨26, [(0, .ptr 0 0), (1, .func (.func 26) [.agg [.int .i64 n, .int .i64 w]] []), (2, .func (.func 27) [] [.ptr 1 0]), (13, .buf 2), (14, .int .i64 a.length), (15, .int .i64 i)], [.cells [.buf 2], .cells [.buf 3], .buf 4 0 (a.map av), .buf 1 0 (cu (ar (aD n w) (a.take i)))], [3]⟩) (fun i => a.length - i) [.cell 1 0 1] 0 (Nat.zero_le _) ?_ (fun i hi _ _ => ?_)
 . refine Go.VG.Sub.mk rfl ?_ ?_ ?_ ?_ <;> (repeat' first | trivial | apply ax | apply aH)
   all_goals (first | rfl | simp [ar, aQ, cy, bX, cu, bl]; done | rw [hml])
 have hst := fun h => qu (aD n w) (a := a) (i := i) h
 have hsh := sn (p := aD n w) ha i
 have hjo := join_le hsh.1
 have hge := fun h => qw ha (i := i) h
 repeat' ((conv => whnf); first | apply aj | ((first | apply aw | apply eG) <;> intro h) | with_reducible apply c9)
 all_goals try conv => whnf
 all_goals try (refine ae.mk ?_; try dsimp only)
 all_goals (try simp only [dc] at *)
 all_goals first | refine stay ?_ | trivial | omega | (simp (discharger := omega) [-List.getD_eq_getElem?_getD, wR] <;> omega) | skip
 all_goals (try simp only [eY, cu, List.length_map, nS] at *)
 all_goals first
  | (exact ⟨trivial, by have := hge (by omega); omega⟩)
  | (exact ⟨trivial, by omega⟩)
  | exact ⟨⟨_, rfl⟩, by omega⟩
  | (show af _ _ _ _ _ _
     obtain rfl : i = a.length := by omega
     simp only [List.take_length]
     refine af.mk [.nw] ?_ <;> (repeat' first | trivial)
     done)
  | (have hst := hst (by omega)
     first
     | rw [if_pos (by assumption)] at hst
     | rw [if_pos (decide_eq_true (by assumption))] at hst
     | rw [if_neg (fun q => absurd (of_decide_eq_true q) (by assumption))] at hst
     | rw [if_neg (Bool.eq_false_iff.mp (by assumption))] at hst
     refine ⟨[], i + 1, by omega, ?_, by omega⟩
     refine Go.VG.Sub.mk rfl ?_ ?_ ?_ ?_ <;> (repeat' first | trivial | apply ax | apply aH | apply bo)
     all_goals (first
      | ((simp (discharger := omega) only [wR]; omega); done)
      | (rw [hst]; done)
      | (simp only [hst, jf, kp, iO, l4, dF, cu, List.map_append, List.map_cons, List.map_nil]; done)
      | (simp only [hst, jf, kp, iO, l4, dF, cu, List.map_append, List.map_cons, List.map_nil]; rfl))
     done)
theorem Ji (n w u : Int) (s : List UInt8) (b : Bool) (tl : List V) (l : List V) (hp : (∃ a : List Pf, l = a.map av ∧ bZ a) ∧ l.length ≤ 10000 ∧ n = 0 ∧ w = 0 ∧ u = 0 ∧ s = [] ∧ b = false ∧ (∃ T : List Tg, tl = T.map fI) ∧ tl.length ≤ 10000) : OK 25 ([.ptr 0 0, .func (.func 148) [] [.ptr 1 0], .func (.func 150) [] [.ptr 2 0, .ptr 3 0]]) ([.cells [.buf 4], .cells [.buf 5], .cells [.int .i64 n, .int .i64 w, .int .u64 u, .str s], .cells [.bool b], .buf 4 0 l, .buf 2 0 tl]) (.tuple []) (some [.cells [.buf 4], .cells [.buf 5], .cells (pb (aQ (ar (bn (tl.map fG)) (l.map aS)))), .cells [.bool (cy (ar (bn (tl.map fG)) (l.map aS)))], .buf 4 0 l, .buf 2 0 tl, .dead]) := by
 refine al (C := cx [(26, k9), (151, kf), (78, kg), (53, kc), (27, kb), (148, kd), (150, ke)]) (aq ⟨lE, lK, lN, lH, lG, lI, lJ, trivial⟩) (fn := Tryz.f25) rfl rfl rfl rfl fun hw hs => ?_
 obtain ⟨⟨a, rfl, ha⟩, hl, rfl, rfl, rfl, rfl, rfl, ⟨T, rfl⟩, hT⟩ := hp
 simp only [nS]
 have hmt : (T.map fI).length = T.length := List.length_map ..
 simp only [bW]
 have hml : (a.map av).length = a.length := List.length_map ..
 all_goals try conv => whnf
 all_goals try (refine ae.mk ?_; try dsimp only)
 refine aT.mk Nat (fun i => i ≤ a.length) (fun i => ⟨26, [(0, .ptr 0 0), (1, .func (.func 148) [] [.ptr 1 0]), (2, .func (.func 150) [] [.ptr 2 0, .ptr 3 0]), (13, .buf 4), (14, .int .i64 a.length), (15, .int .i64 i)], [.cells [.buf 4], .cells [.buf 5], .cells (pb (aQ (ar (bn T) (a.take i)))), .cells [.bool (cy (ar (bn T) (a.take i)))], .buf 4 0 (a.map av), .buf 2 0 (T.map fI)], []⟩) (fun i => a.length - i) [] 0 (Nat.zero_le _) ?_ (fun i hi _ _ => ?_)
 . refine Go.VG.Sub.mk rfl ?_ ?_ ?_ ?_ <;> (repeat' first | trivial | apply ax | apply aH)
   all_goals (first | rfl | simp [ar, aQ, cy, bX, cu, bl]; done | rw [hml])
 have hst := fun h => qu (bn T) (a := a) (i := i) h
 have hsh := sn (p := bn T) ha i
 have hjo := join_le hsh.1
 have hge := fun h => qw ha (i := i) h
 repeat' ((conv => whnf); first | apply aj | (apply aw <;> intro h) | with_reducible apply c9)
 all_goals try conv => whnf
 all_goals try (refine ae.mk ?_; try dsimp only)
 all_goals (try simp only [dc] at *)
 all_goals first | refine stay ?_ | trivial | omega | skip
 all_goals (try simp only [eY, cu, List.length_map, nS] at *)
 all_goals first
  | (exact ⟨trivial, by have := hge (by omega); omega⟩)
  | (exact ⟨trivial, by omega⟩)
  | exact ⟨⟨_, rfl⟩, by omega⟩
  | exact ⟨trivial, ⟨_, rfl⟩, by omega⟩
  | (show af _ _ _ _ _ _
     obtain rfl : i = a.length := by omega
     simp only [List.take_length]
     refine af.mk [.nw] ?_ <;> (repeat' first | trivial)
     done)
  | (have hst := hst (by omega)
     first
     | rw [if_pos (by assumption)] at hst
     | rw [if_pos (decide_eq_true (by assumption))] at hst
     | rw [if_neg (fun q => absurd (of_decide_eq_true q) (by assumption))] at hst
     | rw [if_neg (Bool.eq_false_iff.mp (by assumption))] at hst
     refine ⟨[], i + 1, by omega, ?_, by omega⟩
     refine Go.VG.Sub.mk rfl ?_ ?_ ?_ ?_ <;> (repeat' first | trivial | apply ax | apply dn | apply aH | apply cR | apply cS | apply bE)
     all_goals (first
      | ((simp (discharger := omega) only [wR]; omega); done)
      | (rw [hst]; done)
      | (simp only [hst, jf, kp, iO, l4, dF, cu, List.map_append, List.map_cons, List.map_nil]; done)
      | (simp only [hst, jf, kp, iO, l4, dF, cu, List.map_append, List.map_cons, List.map_nil]; rfl))
     done)
theorem Jj (x : V) (g : Fn) (z : Nat) (hp : True) : OK 25 ([.nilptr, x, .func g [] [.ptr 0 0]]) ([.cells [.list true z []]]) (.tuple []) (none) := by
 refine al (C := cx [(26, k9), (151, kf), (78, kg), (53, kc), (27, kb), (148, kd), (150, ke)]) (aq ⟨lE, lK, lN, lH, lG, lI, lJ, trivial⟩) (fn := Tryz.f25) rfl rfl rfl rfl fun hw hs => ?_
 all_goals try conv => whnf
 all_goals try (refine ae.mk ?_; try dsimp only)
 all_goals try refine stay ?_
 refine af.mk [] ?_ <;> (repeat' first | trivial)
theorem Jk (x : V) (u : Int) (z : Bool) (g : Fn) (hp : True) : OK 25 ([.nilptr, x, .func g [] [.ptr 0 0, .ptr 1 0]]) ([.cells [.int .u64 u], .cells [.bool z]]) (.tuple []) (none) := by
 refine al (C := cx [(26, k9), (151, kf), (78, kg), (53, kc), (27, kb), (148, kd), (150, ke)]) (aq ⟨lE, lK, lN, lH, lG, lI, lJ, trivial⟩) (fn := Tryz.f25) rfl rfl rfl rfl fun hw hs => ?_
 all_goals try conv => whnf
 all_goals try (refine ae.mk ?_; try dsimp only)
 all_goals try refine stay ?_
 refine af.mk [] ?_ <;> (repeat' first | trivial)
theorem Jl (x : V) (u : List UInt8) (z : Bool) (g : Fn) (hp : True) : OK 25 ([.nilptr, x, .func g [] [.ptr 0 0, .ptr 1 0]]) ([.cells [.str u], .cells [.bool z]]) (.tuple []) (none) := by
 refine al (C := cx [(26, k9), (151, kf), (78, kg), (53, kc), (27, kb), (148, kd), (150, ke)]) (aq ⟨lE, lK, lN, lH, lG, lI, lJ, trivial⟩) (fn := Tryz.f25) rfl rfl rfl rfl fun hw hs => ?_
 all_goals try conv => whnf
 all_goals try (refine ae.mk ?_; try dsimp only)
 all_goals try refine stay ?_
 refine af.mk [] ?_ <;> (repeat' first | trivial)
theorem Jm (x : V) (u : Nat) (z : Bool) (g : Fn) (hp : True) : OK 25 ([.nilptr, x, .func g [] [.ptr 0 0, .ptr 1 0]]) ([.cells [.list true u []], .cells [.bool z]]) (.tuple []) (none) := by
 refine al (C := cx [(26, k9), (151, kf), (78, kg), (53, kc), (27, kb), (148, kd), (150, ke)]) (aq ⟨lE, lK, lN, lH, lG, lI, lJ, trivial⟩) (fn := Tryz.f25) rfl rfl rfl rfl fun hw hs => ?_
 all_goals try conv => whnf
 all_goals try (refine ae.mk ?_; try dsimp only)
 all_goals try refine stay ?_
 refine af.mk [] ?_ <;> (repeat' first | trivial)
def ka : Sm := fun args σ => match args, σ with
 | [.ptr 0 0, .func (.func 26) [.agg [.int .i64 n, .int .i64 w]] [], .func (.func 151) [] [.ptr 1 0, .ptr 2 0]], [.cells [.buf 3], .cells [.int .u64 u], .cells [.bool b], .buf 4 0 l] => some ((∃ a : List Pf, l = a.map av ∧ bZ a) ∧ l.length ≤ 10000 ∧ u = 0 ∧ b = false, .tuple [], some [.cells [.buf 3], .cells [.int .u64 (aQ (ar (aD n w) (l.map aS))).num], .cells [.bool (cy (ar (aD n w) (l.map aS)))], .buf 4 0 l, .dead])
 | [.ptr 0 0, .func (.func 26) [.agg [.int .i64 n, .int .i64 w]] [], .func (.func 78) [] [.ptr 1 0, .ptr 2 0]], [.cells [.buf 3], .cells [.str s], .cells [.bool b], .buf 4 0 l] => some ((∃ a : List Pf, l = a.map av ∧ bZ a) ∧ l.length ≤ 10000 ∧ s = [] ∧ b = false, .tuple [], some [.cells [.buf 3], .cells [.str (aQ (ar (aD n w) (l.map aS))).text], .cells [.bool (cy (ar (aD n w) (l.map aS)))], .buf 4 0 l, .dead])
 | [.ptr 0 0, .func (.func 26) [.agg [.int .i64 n, .int .i64 w]] [], .func (.func 53) [] [.ptr 1 0, .ptr 2 0]], [.cells [.buf 3], .cells [.list true z []], .cells [.bool b], .buf 4 0 l] => some ((∃ a : List Pf, l = a.map av ∧ bZ a) ∧ l.length ≤ 10000 ∧ b = false, .tuple [], some [.cells [.buf 3], .cells [.buf 4], .cells [.bool (cy (ar (aD n w) (l.map aS)))], .buf 4 0 l, .buf 1 0 (bl (bX (ar (aD n w) (l.map aS)))), .dead])
 | [.ptr 0 0, .func (.func 26) [.agg [.int .i64 n, .int .i64 w]] [], .func (.func 27) [] [.ptr 1 0]], [.cells [.buf 2], .cells [.list true z []], .buf 4 0 l] => some ((∃ a : List Pf, l = a.map av ∧ bZ a) ∧ l.length ≤ 10000, .tuple [], some [.cells [.buf 2], .cells [.buf 3], .buf 4 0 l, .buf 1 0 (cu (ar (aD n w) (l.map aS))), .dead])
 | [.ptr 0 0, .func (.func 148) [] [.ptr 1 0], .func (.func 150) [] [.ptr 2 0, .ptr 3 0]], [.cells [.buf 4], .cells [.buf 5], .cells [.int .i64 n, .int .i64 w, .int .u64 u, .str s], .cells [.bool b], .buf 4 0 l, .buf 2 0 tl] => some ((∃ a : List Pf, l = a.map av ∧ bZ a) ∧ l.length ≤ 10000 ∧ n = 0 ∧ w = 0 ∧ u = 0 ∧ s = [] ∧ b = false ∧ (∃ T : List Tg, tl = T.map fI) ∧ tl.length ≤ 10000, .tuple [], some [.cells [.buf 4], .cells [.buf 5], .cells (pb (aQ (ar (bn (tl.map fG)) (l.map aS)))), .cells [.bool (cy (ar (bn (tl.map fG)) (l.map aS)))], .buf 4 0 l, .buf 2 0 tl, .dead])
 | [.nilptr, x, .func g [] [.ptr 0 0]], [.cells [.list true z []]] => some (True, .tuple [], none)
 | [.nilptr, x, .func g [] [.ptr 0 0, .ptr 1 0]], [.cells [.int .u64 u], .cells [.bool z]] => some (True, .tuple [], none)
 | [.nilptr, x, .func g [] [.ptr 0 0, .ptr 1 0]], [.cells [.str u], .cells [.bool z]] => some (True, .tuple [], none)
 | [.nilptr, x, .func g [] [.ptr 0 0, .ptr 1 0]], [.cells [.list true u []], .cells [.bool z]] => some (True, .tuple [], none)
 | _, _ => none
theorem lF : au 25 ka := by
 intro args sg pre x r he hp
 unfold ka at he
 split at he <;> cases he
 . exact Je (hp := hp) ..
 . exact Jf (hp := hp) ..
 . exact Jg (hp := hp) ..
 . exact Jh (hp := hp) ..
 . exact Ji (hp := hp) ..
 . exact Jj (hp := hp) ..
 . exact Jk (hp := hp) ..
 . exact Jl (hp := hp) ..
 . exact Jm (hp := hp) ..

theorem Jx (s : List UInt8) (hp : s.length ≤ 1000000000 ∧ ao s = 0) : OK 9 ([.str s]) ([]) (.tuple [.ptr 0 0, .int .i64 0]) (some [.cells [.buf 1], .buf 4 0 ((aF s).map av)]) := by
 refine al (C := cx [(24, uX)]) (aq ⟨Cn, trivial⟩) (fn := Tryz.f9) rfl rfl rfl rfl fun hw hs => ?_
 repeat' ((conv => whnf); first | apply aj | apply aO | (apply aw <;> intro h))
 all_goals try conv => whnf
 all_goals try (refine ae.mk ?_; try dsimp only)
 . exact hp.1
 . refine af.mk [.swap 0 1] ?_ <;> (repeat' first | trivial)
 . exact absurd hp.2 (by assumption)
def kX : Sm := fun args σ => match args, σ with
 | [.str s], [] => some (s.length ≤ 1000000000 ∧ ao s = 0, .tuple [.ptr 0 0, .int .i64 0], some [.cells [.buf 1], .buf 4 0 ((aF s).map av)])
 | _, _ => none
theorem lM : au 9 kX := by
 intro args sg pre x r he hp
 unfold kX at he
 split at he <;> cases he
 . exact Jx (hp := hp) ..
theorem Jw (s : List UInt8) (hp : s.length ≤ 1000000000 ∧ ao s ≠ 0) : OK 9 ([.str s]) ([]) (.tuple [.nilptr, .int .i64 (ao s)]) (none) := by
 refine al (C := cx [(24, uX)]) (aq ⟨Cn, trivial⟩) (fn := Tryz.f9) rfl rfl rfl rfl fun hw hs => ?_
 repeat' ((conv => whnf); first | apply aj | apply aO | (apply aw <;> intro h))
 all_goals try conv => whnf
 all_goals try (refine ae.mk ?_; try dsimp only)
 . exact hp.1
 . exact absurd (by assumption) hp.2
 . refine af.mk [] ?_ <;> (repeat' first | trivial)
def kW : Sm := fun args σ => match args, σ with
 | [.str s], [] => some (s.length ≤ 1000000000 ∧ ao s ≠ 0, .tuple [.nilptr, .int .i64 (ao s)], none)
 | _, _ => none
theorem lL : au 9 kW := by
 intro args sg pre x r he hp
 unfold kW at he
 split at he <;> cases he
 . exact Jw (hp := hp) ..
theorem Ju (l : List V) (n w : Int) (hp : (∃ a : List Pf, l = a.map av ∧ bZ a) ∧ l.length ≤ 10000) : OK 122 ([.ptr 0 0, .int .i64 n, .int .i64 w]) ([.cells [.buf 1], .buf 4 0 l]) (.tuple [.int .u64 (if w = 2 then 0 else (aQ (ar (aD n w) (l.map aS))).num), .bool (decide (w ≠ 2) && cy (ar (aD n w) (l.map aS)))]) (none) := by
 refine al (C := cx [(25, ka)]) (aq ⟨lF, trivial⟩) (fn := Tryz.f122) rfl rfl rfl rfl fun hw hs => ?_
 repeat' ((conv => whnf); first | apply aj | (apply aw <;> intro h))
 all_goals try conv => whnf
 all_goals try (refine ae.mk ?_; try dsimp only)
 . rw [if_pos (by assumption), decide_eq_false (fun q => q (by assumption))]
   refine af.mk [] ?_ <;> (repeat' first | trivial)
 . exact ⟨hp.1, hp.2, rfl, rfl⟩
 . rw [if_neg (by assumption), decide_eq_true (by assumption), Bool.true_and]
   refine af.mk [] ?_ <;> (repeat' first | trivial)
theorem Jv (n w : Int) (hp : True) : OK 122 ([.nilptr, .int .i64 n, .int .i64 w]) ([]) (.tuple [.int .u64 0, .bool false]) (none) := by
 refine al (C := cx [(25, ka)]) (aq ⟨lF, trivial⟩) (fn := Tryz.f122) rfl rfl rfl rfl fun hw hs => ?_
 repeat' ((conv => whnf); first | apply aj | (apply aw <;> intro h))
 all_goals try conv => whnf
 all_goals try (refine ae.mk ?_; try dsimp only)
 all_goals try refine stay ?_
 all_goals
  refine af.mk [] ?_ <;> (repeat' first | trivial)
def qx : Sm := fun args σ => match args, σ with
 | [.ptr 0 0, .int .i64 n, .int .i64 w], [.cells [.buf 1], .buf 4 0 l] => some ((∃ a : List Pf, l = a.map av ∧ bZ a) ∧ l.length ≤ 10000, .tuple [.int .u64 (if w = 2 then 0 else (aQ (ar (aD n w) (l.map aS))).num), .bool (decide (w ≠ 2) && cy (ar (aD n w) (l.map aS)))], none)
 | [.nilptr, .int .i64 n, .int .i64 w], [] => some (True, .tuple [.int .u64 0, .bool false], none)
 | _, _ => none
theorem tR : au 122 qx := by
 intro args sg pre x r he hp
 unfold qx at he
 split at he <;> cases he
 . exact Ju (hp := hp) ..
 . exact Jv (hp := hp) ..
theorem Jz (l : List V) (n : Int) (hp : (∃ a : List Pf, l = a.map av ∧ bZ a) ∧ l.length ≤ 10000) : OK 55 ([.ptr 0 0, .int .i64 n]) ([.cells [.buf 1], .buf 4 0 l]) (.tuple [.str (aQ (ar (aD n 2) (l.map aS))).text, .bool (cy (ar (aD n 2) (l.map aS)))]) (none) := by
 refine al (C := cx [(25, ka)]) (aq ⟨lF, trivial⟩) (fn := Tryz.f55) rfl rfl rfl rfl fun hw hs => ?_
 repeat' ((conv => whnf); apply aj)
 all_goals try conv => whnf
 all_goals try (refine ae.mk ?_; try dsimp only)
 . exact ⟨hp.1, hp.2, rfl, rfl⟩
 refine af.mk [] ?_ <;> (repeat' first | trivial)
theorem JA (n : Int) (hp : True) : OK 55 ([.nilptr, .int .i64 n]) ([]) (.tuple [.str [], .bool false]) (none) := by
 refine al (C := cx [(25, ka)]) (aq ⟨lF, trivial⟩) (fn := Tryz.f55) rfl rfl rfl rfl fun hw hs => ?_
 repeat' ((conv => whnf); apply aj)
 all_goals try conv => whnf
 all_goals try (refine ae.mk ?_; try dsimp only)
 all_goals (try simp only [dc] at *)
 all_goals try refine stay ?_
 refine af.mk [] ?_ <;> (repeat' first | trivial)
def i9 : Sm := fun args σ => match args, σ with
 | [.ptr 0 0, .int .i64 n], [.cells [.buf 1], .buf 4 0 l] => some ((∃ a : List Pf, l = a.map av ∧ bZ a) ∧ l.length ≤ 10000, .tuple [.str (aQ (ar (aD n 2) (l.map aS))).text, .bool (cy (ar (aD n 2) (l.map aS)))], none)
 | [.nilptr, .int .i64 n], [] => some (True, .tuple [.str [], .bool false], none)
 | _, _ => none
theorem iQ : au 55 i9 := by
 intro args sg pre x r he hp
 unfold i9 at he
 split at he <;> cases he
 . exact Jz (hp := hp) ..
 . exact JA (hp := hp) ..
theorem Jo (l : List V) (n : Int) (hp : (∃ a : List Pf, l = a.map av ∧ bZ a) ∧ l.length ≤ 10000) : OK 28 ([.ptr 0 0, .int .i64 n]) ([.cells [.buf 1], .buf 4 0 l]) (.tuple [.str (bX (ar (aD n 2) (l.map aS))), .bool (cy (ar (aD n 2) (l.map aS)))]) (none) := by
 refine al (C := cx [(25, ka)]) (aq ⟨lF, trivial⟩) (fn := Tryz.f28) rfl rfl rfl rfl fun hw hs => ?_
 repeat' ((conv => whnf); first | apply aj | apply goI)
 all_goals try conv => whnf
 all_goals try (refine ae.mk ?_; try dsimp only)
 . exact ⟨hp.1, hp.2, rfl⟩
 refine af.mk [] ?_ <;> (repeat' first | trivial)
theorem Jp (n : Int) (hp : True) : OK 28 ([.nilptr, .int .i64 n]) ([]) (.tuple [.str [], .bool false]) (none) := by
 refine al (C := cx [(25, ka)]) (aq ⟨lF, trivial⟩) (fn := Tryz.f28) rfl rfl rfl rfl fun hw hs => ?_
 repeat' ((conv => whnf); apply aj)
 all_goals try conv => whnf
 all_goals try (refine ae.mk ?_; try dsimp only)
 refine ⟨[], rfl, ?_⟩
 all_goals try conv => whnf
 all_goals try (refine ae.mk ?_; try dsimp only)
 refine af.mk [] ?_ <;> (repeat' first | trivial)
def np : Sm := fun args σ => match args, σ with
 | [.ptr 0 0, .int .i64 n], [.cells [.buf 1], .buf 4 0 l] => some ((∃ a : List Pf, l = a.map av ∧ bZ a) ∧ l.length ≤ 10000, .tuple [.str (bX (ar (aD n 2) (l.map aS))), .bool (cy (ar (aD n 2) (l.map aS)))], none)
 | [.nilptr, .int .i64 n], [] => some (True, .tuple [.str [], .bool false], none)
 | _, _ => none
theorem pV : au 28 np := by
 intro args sg pre x r he hp
 unfold np at he
 split at he <;> cases he
 . exact Jo (hp := hp) ..
 . exact Jp (hp := hp) ..
theorem JB (l : List V) (n : Int) (hp : (∃ a : List Pf, l = a.map av ∧ bZ a) ∧ l.length ≤ 10000) : OK 11 ([.ptr 0 0, .int .i64 n]) ([.cells [.buf 1], .buf 4 0 l]) (.buf 2) (some [.cells [.buf 1], .buf 4 0 l, .buf 1 0 (cu (ar (aD n 2) (l.map aS))), .dead]) := by
 refine al (C := cx [(25, ka)]) (aq ⟨lF, trivial⟩) (fn := Tryz.f11) rfl rfl rfl rfl fun hw hs => ?_
 repeat' ((conv => whnf); apply aj)
 all_goals try conv => whnf
 all_goals try (refine ae.mk ?_; try dsimp only)
 . exact hp
 refine af.mk [.swap 2 3] ?_ <;> (repeat' first | trivial)
theorem JC (n : Int) (hp : True) : OK 11 ([.nilptr, .int .i64 n]) ([]) (.list true 0 []) (none) := by
 refine al (C := cx [(25, ka)]) (aq ⟨lF, trivial⟩) (fn := Tryz.f11) rfl rfl rfl rfl fun hw hs => ?_
 repeat' ((conv => whnf); apply aj)
 all_goals try conv => whnf
 all_goals try (refine ae.mk ?_; try dsimp only)
 refine af.mk [] ?_ <;> (repeat' first | trivial)
def kY : Sm := fun args σ => match args, σ with
 | [.ptr 0 0, .int .i64 n], [.cells [.buf 1], .buf 4 0 l] => some ((∃ a : List Pf, l = a.map av ∧ bZ a) ∧ l.length ≤ 10000, .buf 2, some [.cells [.buf 1], .buf 4 0 l, .buf 1 0 (cu (ar (aD n 2) (l.map aS))), .dead])
 | [.nilptr, .int .i64 n], [] => some (True, .list true 0 [], none)
 | _, _ => none
theorem mR : au 11 kY := by
 intro args sg pre x r he hp
 unfold kY at he
 split at he <;> cases he
 . exact JB (hp := hp) ..
 . exact JC (hp := hp) ..
theorem Js (l tl : List V) (hp : (∃ a : List Pf, l = a.map av ∧ bZ a) ∧ l.length ≤ 10000 ∧ (∃ T : List Tg, tl = T.map fI) ∧ tl.length ≤ 10000) : OK 119 ([.ptr 0 0, .buf 1]) ([.cells [.buf 2], .buf 2 0 tl, .buf 4 0 l]) (.tuple [av (aQ (ar (bn (tl.map fG)) (l.map aS))), .bool (cy (ar (bn (tl.map fG)) (l.map aS)))]) (none) := by
 refine al (C := cx [(25, ka)]) (aq ⟨lF, trivial⟩) (fn := Tryz.f119) rfl rfl rfl rfl fun hw hs => ?_
 repeat' ((conv => whnf); apply aj)
 all_goals try conv => whnf
 all_goals try (refine ae.mk ?_; try dsimp only)
 . exact ⟨hp.1, hp.2.1, rfl, rfl, rfl, rfl, rfl, hp.2.2.1, hp.2.2.2⟩
 refine af.mk [] ?_ <;> (repeat' first | trivial)
def yW : Sm := fun args σ => match args, σ with
 | [.ptr 0 0, .buf 1], [.cells [.buf 2], .buf 2 0 tl, .buf 4 0 l] => some ((∃ a : List Pf, l = a.map av ∧ bZ a) ∧ l.length ≤ 10000 ∧ (∃ T : List Tg, tl = T.map fI) ∧ tl.length ≤ 10000, .tuple [av (aQ (ar (bn (tl.map fG)) (l.map aS))), .bool (cy (ar (bn (tl.map fG)) (l.map aS)))], none)
 | _, _ => none
theorem LV : au 119 yW := by
 intro args sg pre x r he hp
 unfold yW at he
 split at he <;> cases he
 . exact Js (hp := hp) ..
end Go.Proofs.YtdjolnjlhbfnmaaGreatDoor
