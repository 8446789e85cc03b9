/-
  A part of the proof.
-/
import Derived.Test.YtipejldppicijaaGreatDoorGK
import Derived.Test.YtipejldppicijaaGreatDoorGJ
set_option linter.unusedSimpArgs false
set_option linter.unusedVariables false
set_option maxHeartbeats 4000000
namespace Go.Proofs.YtipejldppicijaaGreatDoor
open Go Go.VG
set_option maxRecDepth 100000
def tA : List iG := dQ 0 [97] (.mk 2 [] 1 0 [] []) []
abbrev eA (k : List UInt8) : V := .agg [.str k, .int .u8 2, .str [], .int .i64 1, .int .u64 0, .list true 0 [], .list true 0 []]
theorem Wb.ops {l : List iG} : ∀ {w : CS} {n m : Nat}, Wb w n m → (∀ o ∈ l, o.text.length ≤ 1000 ∧ -9223372036854775808 ≤ o.n ∧ o.n ≤ 9223372036854775807) → Wb (w.ops l) (n + l.length * 1040) (m + l.length) := by
 induction l with
 | nil => intro w n m h _; exact ⟨by have := h.1; show w.out.length ≤ n + 0 * 1040; omega, h.2⟩
 | cons o l ih =>
   intro w n m h k
   have k0 := k o List.mem_cons_self
   have h1 := h.op o (by omega) k0.2
   have h2 : Wb (w.op o) (n + 1040) (m + 1) := ⟨by have := h1.1; omega, h1.2⟩
   have h3 := ih h2 fun x hx => k x (List.mem_cons_of_mem _ hx)
   refine ⟨?_, ?_⟩
   . have := h3.1; show ((w.op o).ops l).out.length ≤ _; rw [List.length_cons]; omega
   . have := h3.2; show ((w.op o).ops l).l.length ≤ _; rw [List.length_cons]; omega
theorem Wb.c {w : CS} {n m : Nat} (h : Wb w n m) (hn : n ≤ 1000000) (hm : m ≤ 100) : d7 (bl w.out) (w.l.map eP) ∧ True ∧ Wb w 1000000 100 :=
 ⟨aP (by have := h.1; omega) (by have := h.2; omega), trivial, by have := h.1; omega, by have := h.2; omega⟩
theorem Wb.f {w : CS} {n m : Nat} (h : Wb w n m) (hn : n ≤ 1000000) (hm : m ≤ 100) : d7 (bl w.out) (w.l.map eP) ∧ w.out.length ≤ 1800000000 ∧ w.l.length ≤ 800 :=
 ⟨aP (by have := h.1; omega) (by have := h.2; omega), by have := h.1; omega, by have := h.2; omega⟩
theorem Wb.le {w : CS} {n m n' m' : Nat} (h : Wb w n m) (hn : n ≤ n') (hm : m ≤ m') : Wb w n' m' := ⟨by have := h.1; omega, by have := h.2; omega⟩
theorem pE : ∀ o ∈ tA, o.text.length ≤ 1000 ∧ -9223372036854775808 ≤ o.n ∧ o.n ≤ 9223372036854775807 := by decide
theorem wU (w : CS) (k : List UInt8) (hp : k = [97] ∧ Wb w 1000000 100) : OK 26 ([.ptr 0 0, .int .i64 0, .agg [.str k, .int .u8 2, .str [], .int .i64 1, .int .u64 0, .list true 0 [], .list true 0 []]]) (aM w) (.tuple []) (some (aM (w.ops tA))) := by
 obtain ⟨rfl, hb⟩ := hp
 exact D5 w 0 1 [97] hb (by decide)
def vb : Sm := fun args σ => match args, σ with
 | [.ptr 0 0, .int .i64 0, .agg [.str k, .int .u8 2, .str [], .int .i64 1, .int .u64 0, .list true 0 [], .list true 0 []]], [.cells [.buf 1, .buf 2, .int .i64 c_w], .buf 1 0 o_w, .buf 4 0 l_w] => some (d7 o_w l_w ∧ (k = [97] ∧ Wb (aU o_w l_w c_w) 1000000 100), .tuple [], some (aM ((aU o_w l_w c_w).ops tA)))
 | _, _ => none
theorem FK : aa 26 vb := by
 intro args sg pre x r he hp
 unfold vb at he
 split at he <;> cases he
 . rw [ee (hp).1]; exact wU (hp := hp.2) ..
theorem E4 (w : CS) (k k2 : List UInt8) (hp : (k = [97] ∧ k2 = [97]) ∧ Wb w 100000 10) : OK 48 ([.ptr 0 0, .int .i64 5, .list true 7 [.agg [.str k, .int .u8 2, .str [], .int .i64 1, .int .u64 0, .list true 0 [], .list true 0 []], .agg [.str k2, .int .u8 2, .str [], .int .i64 1, .int .u64 0, .list true 0 [], .list true 0 []]]]) (aM w) (.tuple []) (some (aM (((w.list 5 2 12).ops tA).ops tA).fin)) := by
 refine ai (C := cx [(26, vb), (102, ux), (49, iz)]) (aj ⟨FK, F0, jU, trivial⟩) (fn := Tryz.f48) rfl rfl rfl rfl fun hw hs => ?_
 obtain ⟨⟨rfl, rfl⟩, hb⟩ := hp
 have b1 : Wb (w.list 5 2 12) 100040 11 := hb.op ⟨91, 5, 2, 12, 0, []⟩ (Nat.zero_le _) (by decide : (-9223372036854775808 : Int) ≤ 2 ∧ (2 : Int) ≤ 9223372036854775807)
 have b2 := b1.ops pE
 have b3 := b2.ops pE
 have hl : tA.length = 5 := rfl
 rw [hl] at b2 b3
 have hw0 := hb.1
 have hw1 := hb.2
 repeat' ((conv => whnf); apply a9)
 all_goals try conv => whnf
 all_goals try (refine a8.mk ?_; try dsimp only)
 all_goals (try simp only [bu] at *)
 . exact ⟨aP (by omega) (by omega), by omega, by omega⟩
 refine br.mk Nat (fun i => i ≤ 2) (fun i => ⟨28, [(0, .ptr 0 0), (16, .list true 7 [eA [97], eA [97]]), (17, .int .i64 2), (18, .int .i64 i)], aM (if i = 0 then w.list 5 2 12 else if i = 1 then (w.list 5 2 12).ops tA else ((w.list 5 2 12).ops tA).ops tA), [1, 2]⟩) (fun i => 2 - i) [] 0 (by decide) ?_ (fun i hi _ _ => ?_)
 . refine Go.VG.Sub.mk rfl ?_ ?_ ?_ ?_ <;> (repeat' first | trivial)
 have h012 : i = 0 ∨ i = 1 ∨ i = 2 := by omega
 rcases h012 with rfl | rfl | rfl
 . rw [if_pos rfl]
   repeat' ((conv => whnf); first | apply a9 | with_reducible refine dj.mk _ rfl ?_)
   all_goals try conv => whnf
   all_goals try (refine a8.mk ?_; try dsimp only)
   all_goals (try simp only [bu] at *)
   . decide
   . exact b1.c (by decide) (by decide)
   . refine ⟨[], 1, by decide, ?_, by decide⟩
     refine Go.VG.Sub.mk rfl ?_ ?_ ?_ ?_ <;> (repeat' first | trivial)
 . rw [if_neg (by decide), if_pos rfl]
   repeat' ((conv => whnf); first | apply a9 | with_reducible refine dj.mk _ rfl ?_)
   all_goals try conv => whnf
   all_goals try (refine a8.mk ?_; try dsimp only)
   all_goals (try simp only [bu] at *)
   . decide
   . exact b2.c (by decide) (by decide)
   . refine ⟨[], 2, by decide, ?_, by decide⟩
     refine Go.VG.Sub.mk rfl ?_ ?_ ?_ ?_ <;> (repeat' first | trivial)
 . rw [if_neg (by decide), if_neg (by decide)]
   repeat' ((conv => whnf); apply a9)
   all_goals try conv => whnf
   all_goals try (refine a8.mk ?_; try dsimp only)
   all_goals (try simp only [bu] at *)
   . have q1 := b3.1
     have q2 := b3.2
     exact ⟨aP (by omega) (by omega), by omega, by omega⟩
   . refine a7.mk [] ?_ <;> (repeat' first | trivial)
def v9 : Sm := fun args σ => match args, σ with
 | [.ptr 0 0, .int .i64 5, .list true 7 [.agg [.str k, .int .u8 2, .str [], .int .i64 1, .int .u64 0, .list true 0 [], .list true 0 []], .agg [.str k2, .int .u8 2, .str [], .int .i64 1, .int .u64 0, .list true 0 [], .list true 0 []]]], [.cells [.buf 1, .buf 2, .int .i64 c_w], .buf 1 0 o_w, .buf 4 0 l_w] => some (d7 o_w l_w ∧ ((k = [97] ∧ k2 = [97]) ∧ Wb (aU o_w l_w c_w) 100000 10), .tuple [], some (aM ((((aU o_w l_w c_w).list 5 2 12).ops tA).ops tA).fin))
 | _, _ => none
theorem FH : aa 48 v9 := by
 intro args sg pre x r he hp
 unfold v9 at he
 split at he <;> cases he
 . rw [ee (hp).1]; exact E4 (hp := hp.2) ..
def oX : List UInt8 := [24, 1, 97, 21, 4, 49, 0]
def eB : List UInt8 := [89, 44, 24, 1, 97, 21, 4, 49, 0, 24, 1, 97, 21, 4, 49, 0, 0]
theorem ev1 : (CS.new.ops tA).done = (oX, 0) := by kernel_rfl
theorem ev2 : ((((((CS.new.struct 0).list 5 2 12).ops tA).ops tA).fin).fin).done = (eB, 0) := by kernel_rfl
theorem ev3 : dy 0 oX = (⟨[97], 2, [], 1, 0⟩, 0) := by kernel_rfl
theorem ev4 : (dy 0 [24, 1, 97, 0]).2 = 9 := by kernel_rfl
theorem ev5 : (c7 0 eB).1 = 0 := by kernel_rfl
theorem ev6 : (kg (c7 0 eB).2.2 5 1).2 = 0 ∧ (kg (c7 0 eB).2.2 5 1).1.length = 2 := ⟨by kernel_rfl, by kernel_rfl⟩
theorem ev7 : strs (c7 0 eB).2.2 6 1 = ([], 0) := by kernel_rfl
theorem E9 (T : CS → CS) (hT : T = fun w => w.ops tA) (w : CS) (k : List UInt8) (hp : k = [97] ∧ Wb w 1000000 100) : OK 26 ([.ptr 0 0, .int .i64 0, .agg [.str k, .int .u8 2, .str [], .int .i64 1, .int .u64 0, .list true 0 [], .list true 0 []]]) (aM w) (.tuple []) (some (aM (T w))) := by
 subst hT
 exact wU w k hp
def rL (T : CS → CS) : Sm := fun args σ => match args, σ with
 | [.ptr 0 0, .int .i64 0, .agg [.str k, .int .u8 2, .str [], .int .i64 1, .int .u64 0, .list true 0 [], .list true 0 []]], [.cells [.buf 1, .buf 2, .int .i64 c_w], .buf 1 0 o_w, .buf 4 0 l_w] => some (d7 o_w l_w ∧ (k = [97] ∧ Wb (aU o_w l_w c_w) 1000000 100), .tuple [], some (aM (T (aU o_w l_w c_w))))
 | _, _ => none
theorem FP (T : CS → CS) (hT : T = fun w => w.ops tA) : aa 26 (rL T) := by
 intro args sg pre x r he hp
 unfold rL at he
 split at he <;> cases he
 . rw [ee (hp).1]; exact E9 (hT := hT) (hp := hp.2) ..
theorem Ec (u : List UInt8 × Int) (hu : u = (eB, 0)) (k k2 : List UInt8) (hp : k = [97] ∧ k2 = [97]) : OK 19 ([.list true 7 [.agg [.str k, .int .u8 2, .str [], .int .i64 1, .int .u64 0, .list true 0 [], .list true 0 []], .agg [.str k2, .int .u8 2, .str [], .int .i64 1, .int .u64 0, .list true 0 [], .list true 0 []]]]) ([]) (.tuple [.str u.1, .int .i64 u.2]) (none) := by
 refine ai (C := cx [(25, pw), (47, jd), (48, v9), (49, iz), (27, pt)]) (aj ⟨sZ, ln, FH, jU, sY, trivial⟩) (fn := Tryz.f19) rfl rfl rfl rfl fun hw hs => ?_
 have b0 : Wb .new 0 0 := ⟨Nat.le_refl _, Nat.le_refl _⟩
 have b1 : Wb (CS.new.struct 0) 40 1 := b0.op ⟨123, 0, 0, 0, 0, []⟩ (Nat.zero_le _) (by decide : (-9223372036854775808 : Int) ≤ 0 ∧ (0 : Int) ≤ 9223372036854775807)
 have b2 : Wb ((CS.new.struct 0).list 5 2 12) 80 2 := b1.op ⟨91, 5, 2, 12, 0, []⟩ (Nat.zero_le _) (by decide : (-9223372036854775808 : Int) ≤ 2 ∧ (2 : Int) ≤ 9223372036854775807)
 have b3 := (b2.ops pE).ops pE
 have hl : tA.length = 5 := rfl
 rw [hl] at b3
 have b4 : Wb (((((CS.new.struct 0).list 5 2 12).ops tA).ops tA).fin) 10520 13 := b3.op ⟨101, 0, 0, 0, 0, []⟩ (Nat.zero_le _) (by decide : (-9223372036854775808 : Int) ≤ 0 ∧ (0 : Int) ≤ 9223372036854775807)
 have b5 : Wb ((((((CS.new.struct 0).list 5 2 12).ops tA).ops tA).fin).fin) 10560 14 := b4.op ⟨101, 0, 0, 0, 0, []⟩ (Nat.zero_le _) (by decide : (-9223372036854775808 : Int) ≤ 0 ∧ (0 : Int) ≤ 9223372036854775807)
 rw [hu, ← ev2]
 repeat' ((conv => whnf); apply a9)
 all_goals try conv => whnf
 all_goals try (refine a8.mk ?_; try dsimp only)
 all_goals (try simp only [bu])
 . exact b0.f (by decide) (by decide)
 . exact ⟨(b1.c (by decide) (by decide)).1, hp, b1.le (by decide) (by decide)⟩
 . exact b4.f (by decide) (by decide)
 . exact ⟨(b5.c (by decide) (by decide)).1, trivial⟩
 refine a7.mk [] ?_ <;> (repeat' first | trivial)
def rM (u : List UInt8 × Int) : Sm := fun args σ => match args, σ with
 | [.list true 7 [.agg [.str k, .int .u8 2, .str [], .int .i64 1, .int .u64 0, .list true 0 [], .list true 0 []], .agg [.str k2, .int .u8 2, .str [], .int .i64 1, .int .u64 0, .list true 0 [], .list true 0 []]]], [] => some (k = [97] ∧ k2 = [97], .tuple [.str u.1, .int .i64 u.2], none)
 | _, _ => none
theorem FQ (u : List UInt8 × Int) (hu : u = (eB, 0)) : aa 19 (rM u) := by
 intro args sg pre x r he hp
 unfold rM at he
 split at he <;> cases he
 . exact Ec (hu := hu) (hp := hp) ..
theorem E6 (RT : Int → List UInt8 → Tg × Int) (hT : RT = dy) (s : List UInt8) (d : Int) (hp : 0 ≤ d ∧ s.length ≤ 1000000000) : OK 7 ([.str s, .int .i64 d]) ([]) (.tuple [mc (RT d s).1, .int .i64 (RT d s).2]) (none) := by
 subst hT
 exact wP s d hp
def rI (RT : Int → List UInt8 → Tg × Int) : Sm := fun args σ => match args, σ with
 | [.str s, .int .i64 d], [] => some (0 ≤ d ∧ s.length ≤ 1000000000, .tuple [mc (RT d s).1, .int .i64 (RT d s).2], none)
 | _, _ => none
theorem FM (RT : Int → List UInt8 → Tg × Int) (hT : RT = dy) : aa 7 (rI RT) := by
 intro args sg pre x r he hp
 unfold rI at he
 split at he <;> cases he
 . exact E6 (hT := hT) (hp := hp) ..
theorem E8 (RS : Int → List UInt8 → SR) (hT : RS = c7) (s : List UInt8) (d : Int) (hp : 0 ≤ d ∧ s.length ≤ 1000000000) : OK 10 ([.str s, .int .i64 d]) ([]) (.tuple [dt (RS d s).2.2, .int .i64 ((RS d s).2.1 : Nat), .int .i64 (RS d s).1]) (none) := by
 subst hT
 exact wO s d hp
def rK (RS : Int → List UInt8 → SR) : Sm := fun args σ => match args, σ with
 | [.str s, .int .i64 d], [] => some (0 ≤ d ∧ s.length ≤ 1000000000, .tuple [dt (RS d s).2.2, .int .i64 ((RS d s).2.1 : Nat), .int .i64 (RS d s).1], none)
 | _, _ => none
theorem FO (RS : Int → List UInt8 → SR) (hT : RS = c7) : aa 10 (rK RS) := by
 intro args sg pre x r he hp
 unfold rK at he
 split at he <;> cases he
 . exact E8 (hT := hT) (hp := hp) ..
theorem E5 (RL : List Fd → Int → Int → List Tg × Int) (hT : RL = kg) (l : List Fd) (id d : Int) (hp : (0 ≤ d ∧ ∀ f ∈ l, f.raw.length ≤ 1000000000) ∧ d ≤ 1000000) : OK 12 ([dt l, .int .i64 id, .int .i64 d]) ([]) (.tuple [eTl (RL l id d).1, .int .i64 (RL l id d).2]) (none) := by
 subst hT
 exact CZ l id d hp
def rH (RL : List Fd → Int → Int → List Tg × Int) : Sm := fun args σ => match args, σ with
 | [.list false 6 l_l, .int .i64 id, .int .i64 d], [] => some (l_l = (l_l.map cL).map cM ∧ ((0 ≤ d ∧ ∀ f ∈ (l_l.map cL), f.raw.length ≤ 1000000000) ∧ d ≤ 1000000), .tuple [eTl (RL (l_l.map cL) id d).1, .int .i64 (RL (l_l.map cL) id d).2], none)
 | _, _ => none
theorem FL (RL : List Fd → Int → Int → List Tg × Int) (hT : RL = kg) : aa 12 (rH RL) := by
 intro args sg pre x r he hp
 unfold rH at he
 split at he <;> cases he
 . rw [pJ (hp).1]; exact E5 (hT := hT) (hp := hp.2) ..
theorem E7 (RX : List Fd → Int → Int → List (List UInt8) × Int) (hT : RX = strs) (l : List Fd) (id d : Int) (hp : 0 ≤ d ∧ ∀ f ∈ l, f.raw.length ≤ 1000000000) : OK 14 ([dt l, .int .i64 id, .int .i64 d]) ([]) (.tuple [kV (RX l id d).1, .int .i64 (RX l id d).2]) (none) := by
 subst hT
 exact wQ l id d hp
def rJ (RX : List Fd → Int → Int → List (List UInt8) × Int) : Sm := fun args σ => match args, σ with
 | [.list false 6 l_l, .int .i64 id, .int .i64 d], [] => some (l_l = (l_l.map cL).map cM ∧ (0 ≤ d ∧ ∀ f ∈ (l_l.map cL), f.raw.length ≤ 1000000000), .tuple [kV (RX (l_l.map cL) id d).1, .int .i64 (RX (l_l.map cL) id d).2], none)
 | _, _ => none
theorem FN (RX : List Fd → Int → Int → List (List UInt8) × Int) (hT : RX = strs) : aa 14 (rJ RX) := by
 intro args sg pre x r he hp
 unfold rJ at he
 split at he <;> cases he
 . rw [pJ (hp).1]; exact E7 (hT := hT) (hp := hp.2) ..
theorem Dd (T : CS → CS) (u : List UInt8 × Int) (RT : Int → List UInt8 → Tg × Int) (RS : Int → List UInt8 → SR) (RL : List Fd → Int → Int → List Tg × Int) (RX : List Fd → Int → Int → List (List UInt8) × Int) (h1 : aa 26 (rL T)) (h2 : aa 7 (rI RT)) (h3 : aa 19 (rM u)) (h4 : aa 10 (rK RS)) (h5 : aa 12 (rH RL)) (h6 : aa 14 (rJ RX)) (b1 : Wb (T .new) 10000 50) (e1 : (T .new).done = (oX, 0)) (e2 : u = (eB, 0)) (e3 : RT 0 oX = (⟨[97], 2, [], 1, 0⟩, 0)) (e4 : (RT 0 [24, 1, 97, 0]).2 = 9) (e5 : (RS 0 eB).1 = 0) (e8 : ∀ f ∈ (RS 0 eB).2.2, f.raw.length ≤ 1000000000) (e6 : (RL (RS 0 eB).2.2 5 1).2 = 0 ∧ (RL (RS 0 eB).2.2 5 1).1.length = 2) (e7 : RX (RS 0 eB).2.2 6 1 = ([], 0))  (hp : True) : OK 6 ([]) ([]) (.bool true) (none) := by
 refine ai (C := cx [(25, pw), (26, (rL T)), (27, pt), (7, (rI RT)), (19, (rM u)), (10, (rK RS)), (12, (rH RL)), (14, (rJ RX))]) (aj ⟨sZ, h1, sY, h2, h3, h4, h5, h6, trivial⟩) (fn := Tryz.f6) rfl rfl rfl rfl fun hw hs => ?_
 have b0 : Wb .new 0 0 := ⟨Nat.le_refl _, Nat.le_refl _⟩
 have c0 := b0.c (by decide) (by decide)
 have c1 := b1.c (by decide) (by decide)
 have hs1 : oX.length = 7 := rfl
 have hs2 : eB.length = 17 := rfl
 repeat' ((conv => whnf); first | apply a9 | ((first | apply ao | apply iW) <;> intro h))
 all_goals try conv => whnf
 all_goals try (refine a8.mk ?_; try dsimp only)
 all_goals (try simp only [bu] at *)
 all_goals (try simp only [dd, e1, e2, e3, e5, e6, e7, List.length_map, List.length_nil] at *)
 all_goals first
  | exact ⟨c0.1, trivial, c0.2.2⟩
  | exact ⟨c0.1, rfl, c0.2.2⟩
  | exact ⟨c1.1, trivial⟩
  | exact ⟨by decide, by decide⟩
  | exact ⟨by omega, by omega⟩
  | exact ⟨rfl, rfl⟩
  | exact ⟨trivial, trivial⟩
  | exact ⟨trivial, ⟨by decide, e8⟩, by decide⟩
  | exact ⟨di _, ⟨by decide, e8⟩, by decide⟩
  | exact ⟨trivial, by decide, e8⟩
  | exact ⟨di _, by decide, e8⟩
  | (exfalso; exact absurd e4 (by assumption))
  | (exfalso; exact absurd rfl (by assumption))
  | (show a7 _ _ _ _ _ _
     refine a7.mk [] ?_ <;> (repeat' first | trivial)
     done)
  | skip
def IW (T : CS → CS) (u : List UInt8 × Int) (RT : Int → List UInt8 → Tg × Int) (RS : Int → List UInt8 → SR) (RL : List Fd → Int → Int → List Tg × Int) (RX : List Fd → Int → Int → List (List UInt8) × Int) : Sm := fun args σ => match args, σ with
 | [], [] => some (True, .bool true, none)
 | _, _ => none
theorem De  (hp : True) : OK 6 ([]) ([]) (.bool true) (none) := by
 exact Dd (fun w => w.ops tA) (eB, 0) dy c7 kg strs (FP _ rfl) (FM _ rfl) (FQ _ rfl) (FO _ rfl) (FL _ rfl) (FN _ rfl)
  ((Wb.ops (w := .new) (n := 0) (m := 0) ⟨Nat.le_refl _, Nat.le_refl _⟩ pE).le (by decide) (by decide)) ev1 rfl ev3 ev4 ev5 (fun f hf => Nat.le_trans (Hn 0 eB f hf) (by decide)) ev6 ev7 trivial
def uI : Sm := fun args σ => match args, σ with
 | [], [] => some (True, .bool true, none)
 | _, _ => none
theorem Fa : aa 6 uI := by
 intro args sg pre x r he hp
 unfold uI at he
 split at he <;> cases he
 . exact De (hp := hp) ..
end Go.Proofs.YtipejldppicijaaGreatDoor
