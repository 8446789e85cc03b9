/-
  A part of the proof.
-/
import Derived.Test.YtipejldppicijaaGreatDoorGK
import Derived.Test.YtipejldppicijaaGreatDoorGJ
set_option linter.unusedSimpArgs false
set_option linter.unusedVariables false
set_option maxHeartbeats 4000000
namespace Go.Proofs.YtipejldppicijaaGreatDoor
open Go Go.VG
set_option maxRecDepth 100000
def tA : List iD := qZ 0 [97] (.mk 2 [] 1 0 [] []) []
abbrev eA (k : List UInt8) : V := .agg [.str k, .int .u8 2, .str [], .int .i64 1, .int .u64 0, .list true 0 [], .list true 0 []]
theorem Wb.ops {l : List iD} : ∀ {w : CS} {n m : Nat}, Wb w n m → (∀ o ∈ l, o.text.length ≤ 1000 ∧ -9223372036854775808 ≤ o.n ∧ o.n ≤ 9223372036854775807) → Wb (w.ops l) (n + l.length * 1040) (m + l.length) := by
 induction l with
 | nil => intro w n m h _; exact ⟨by have := h.1; show w.out.length ≤ n + 0 * 1040; omega, h.2⟩
 | cons o l ih =>
   intro w n m h k
   have k0 := k o List.mem_cons_self
   have h1 := h.op o (by omega) k0.2
   have h2 : Wb (w.op o) (n + 1040) (m + 1) := ⟨by have := h1.1; omega, h1.2⟩
   have h3 := ih h2 fun x hx => k x (List.mem_cons_of_mem _ hx)
   refine ⟨?_, ?_⟩
   . have := h3.1; show ((w.op o).ops l).out.length ≤ _; rw [List.length_cons]; omega
   . have := h3.2; show ((w.op o).ops l).l.length ≤ _; rw [List.length_cons]; omega
theorem Wb.c {w : CS} {n m : Nat} (h : Wb w n m) (hn : n ≤ 1000000) (hm : m ≤ 100) : du (bl w.out) (w.l.map eP) ∧ True ∧ Wb w 1000000 100 :=
 ⟨bU (by have := h.1; omega) (by have := h.2; omega), trivial, by have := h.1; omega, by have := h.2; omega⟩
theorem Wb.f {w : CS} {n m : Nat} (h : Wb w n m) (hn : n ≤ 1000000) (hm : m ≤ 100) : du (bl w.out) (w.l.map eP) ∧ w.out.length ≤ 1800000000 ∧ w.l.length ≤ 800 :=
 ⟨bU (by have := h.1; omega) (by have := h.2; omega), by have := h.1; omega, by have := h.2; omega⟩
theorem Wb.le {w : CS} {n m n' m' : Nat} (h : Wb w n m) (hn : n ≤ n') (hm : m ≤ m') : Wb w n' m' := ⟨by have := h.1; omega, by have := h.2; omega⟩
theorem oE : ∀ o ∈ tA, o.text.length ≤ 1000 ∧ -9223372036854775808 ≤ o.n ∧ o.n ≤ 9223372036854775807 := by decide
theorem wh (w : CS) (k : List UInt8) (hp : k = [97] ∧ Wb w 1000000 100) : OK 26 ([.ptr 0 0, .int .i64 0, .agg [.str k, .int .u8 2, .str [], .int .i64 1, .int .u64 0, .list true 0 [], .list true 0 []]]) (b6 w) (.tuple []) (some (b6 (w.ops tA))) := by
 obtain ⟨rfl, hb⟩ := hp
 exact Cs w 0 1 [97] hb (by decide)
def uf : Sm := fun args σ => match args, σ with
 | [.ptr 0 0, .int .i64 0, .agg [.str k, .int .u8 2, .str [], .int .i64 1, .int .u64 0, .list true 0 [], .list true 0 []]], [.cells [.buf 1, .buf 2, .int .i64 c_w], .buf 1 0 o_w, .buf 4 0 l_w] => some (du o_w l_w ∧ (k = [97] ∧ Wb (aX o_w l_w c_w) 1000000 100), .tuple [], some (b6 ((aX o_w l_w c_w).ops tA)))
 | _, _ => none
theorem Fe : a9 26 uf := by
 intro args sg pre x r he hp
 unfold uf at he
 split at he <;> cases he
 . rw [fh (hp).1]; exact wh (hp := hp.2) ..
theorem DJ (w : CS) (k k2 : List UInt8) (hp : (k = [97] ∧ k2 = [97]) ∧ Wb w 100000 10) : OK 48 ([.ptr 0 0, .int .i64 5, .list true 7 [.agg [.str k, .int .u8 2, .str [], .int .i64 1, .int .u64 0, .list true 0 [], .list true 0 []], .agg [.str k2, .int .u8 2, .str [], .int .i64 1, .int .u64 0, .list true 0 [], .list true 0 []]]]) (b6 w) (.tuple []) (some (b6 (((w.list 5 2 12).ops tA).ops tA).fin)) := by
 refine ah (C := cx [(26, uf), (102, tK), (49, oq)]) (ai ⟨Fe, Ey, sk, trivial⟩) (fn := Tryz.f48) rfl rfl rfl rfl fun hw hs => ?_
 obtain ⟨⟨rfl, rfl⟩, hb⟩ := hp
 have b1 : Wb (w.list 5 2 12) 100040 11 := hb.op ⟨91, 5, 2, 12, 0, []⟩ (Nat.zero_le _) (by decide : (-9223372036854775808 : Int) ≤ 2 ∧ (2 : Int) ≤ 9223372036854775807)
 have b2 := b1.ops oE
 have b3 := b2.ops oE
 have hl : tA.length = 5 := rfl
 rw [hl] at b2 b3
 have hw0 := hb.1
 have hw1 := hb.2
 repeat' ((conv => whnf); apply ab)
 all_goals try conv => whnf
 all_goals try (refine a7.mk ?_; try dsimp only)
 all_goals (try simp only [ep] at *)
 . exact ⟨bU (by omega) (by omega), by omega, by omega⟩
 refine c5.mk Nat (fun i => i ≤ 2) (fun i => ⟨28, [(0, .ptr 0 0), (16, .list true 7 [eA [97], eA [97]]), (17, .int .i64 2), (18, .int .i64 i)], b6 (if i = 0 then w.list 5 2 12 else if i = 1 then (w.list 5 2 12).ops tA else ((w.list 5 2 12).ops tA).ops tA), [1, 2]⟩) (fun i => 2 - i) [] 0 (by decide) ?_ (fun i hi _ _ => ?_)
 . refine Go.VG.Sub.mk rfl ?_ ?_ ?_ ?_ <;> (repeat' first | trivial)
 have h012 : i = 0 ∨ i = 1 ∨ i = 2 := by omega
 rcases h012 with rfl | rfl | rfl
 . rw [if_pos rfl]
   repeat' ((conv => whnf); first | apply ab | with_reducible refine eH.mk _ rfl ?_)
   all_goals try conv => whnf
   all_goals try (refine a7.mk ?_; try dsimp only)
   all_goals (try simp only [ep] at *)
   . decide
   . exact b1.c (by decide) (by decide)
   . refine ⟨[], 1, by decide, ?_, by decide⟩
     refine Go.VG.Sub.mk rfl ?_ ?_ ?_ ?_ <;> (repeat' first | trivial)
 . rw [if_neg (by decide), if_pos rfl]
   repeat' ((conv => whnf); first | apply ab | with_reducible refine eH.mk _ rfl ?_)
   all_goals try conv => whnf
   all_goals try (refine a7.mk ?_; try dsimp only)
   all_goals (try simp only [ep] at *)
   . decide
   . exact b2.c (by decide) (by decide)
   . refine ⟨[], 2, by decide, ?_, by decide⟩
     refine Go.VG.Sub.mk rfl ?_ ?_ ?_ ?_ <;> (repeat' first | trivial)
 . rw [if_neg (by decide), if_neg (by decide)]
   repeat' ((conv => whnf); apply ab)
   all_goals try conv => whnf
   all_goals try (refine a7.mk ?_; try dsimp only)
   all_goals (try simp only [ep] at *)
   . have q1 := b3.1
     have q2 := b3.2
     exact ⟨bU (by omega) (by omega), by omega, by omega⟩
   . refine a6.mk [] ?_ <;> (repeat' first | trivial)
def ue : Sm := fun args σ => match args, σ with
 | [.ptr 0 0, .int .i64 5, .list true 7 [.agg [.str k, .int .u8 2, .str [], .int .i64 1, .int .u64 0, .list true 0 [], .list true 0 []], .agg [.str k2, .int .u8 2, .str [], .int .i64 1, .int .u64 0, .list true 0 [], .list true 0 []]]], [.cells [.buf 1, .buf 2, .int .i64 c_w], .buf 1 0 o_w, .buf 4 0 l_w] => some (du o_w l_w ∧ ((k = [97] ∧ k2 = [97]) ∧ Wb (aX o_w l_w c_w) 100000 10), .tuple [], some (b6 ((((aX o_w l_w c_w).list 5 2 12).ops tA).ops tA).fin))
 | _, _ => none
theorem Fc : a9 48 ue := by
 intro args sg pre x r he hp
 unfold ue at he
 split at he <;> cases he
 . rw [fh (hp).1]; exact DJ (hp := hp.2) ..
def o9 : List UInt8 := [24, 1, 97, 21, 4, 49, 0]
def ez : List UInt8 := [89, 44, 24, 1, 97, 21, 4, 49, 0, 24, 1, 97, 21, 4, 49, 0, 0]
theorem ev1 : (CS.new.ops tA).done = (o9, 0) := by kernel_rfl
theorem ev2 : ((((((CS.new.struct 0).list 5 2 12).ops tA).ops tA).fin).fin).done = (ez, 0) := by kernel_rfl
theorem ev3 : cC 0 o9 = (⟨[97], 2, [], 1, 0⟩, 0) := by kernel_rfl
theorem ev4 : (cC 0 [24, 1, 97, 0]).2 = 9 := by kernel_rfl
theorem ev5 : (aW 0 ez).1 = 0 := by kernel_rfl
theorem ev6 : (dV (aW 0 ez).2.2 5 1).2 = 0 ∧ (dV (aW 0 ez).2.2 5 1).1.length = 2 := ⟨by kernel_rfl, by kernel_rfl⟩
theorem ev7 : strs (aW 0 ez).2.2 6 1 = ([], 0) := by kernel_rfl
theorem DO (T : CS → CS) (hT : T = fun w => w.ops tA) (w : CS) (k : List UInt8) (hp : k = [97] ∧ Wb w 1000000 100) : OK 26 ([.ptr 0 0, .int .i64 0, .agg [.str k, .int .u8 2, .str [], .int .i64 1, .int .u64 0, .list true 0 [], .list true 0 []]]) (b6 w) (.tuple []) (some (b6 (T w))) := by
 subst hT
 exact wh w k hp
def qS (T : CS → CS) : Sm := fun args σ => match args, σ with
 | [.ptr 0 0, .int .i64 0, .agg [.str k, .int .u8 2, .str [], .int .i64 1, .int .u64 0, .list true 0 [], .list true 0 []]], [.cells [.buf 1, .buf 2, .int .i64 c_w], .buf 1 0 o_w, .buf 4 0 l_w] => some (du o_w l_w ∧ (k = [97] ∧ Wb (aX o_w l_w c_w) 1000000 100), .tuple [], some (b6 (T (aX o_w l_w c_w))))
 | _, _ => none
theorem Fj (T : CS → CS) (hT : T = fun w => w.ops tA) : a9 26 (qS T) := by
 intro args sg pre x r he hp
 unfold qS at he
 split at he <;> cases he
 . rw [fh (hp).1]; exact DO (hT := hT) (hp := hp.2) ..
theorem DP (u : List UInt8 × Int) (hu : u = (ez, 0)) (k k2 : List UInt8) (hp : k = [97] ∧ k2 = [97]) : OK 19 ([.list true 7 [.agg [.str k, .int .u8 2, .str [], .int .i64 1, .int .u64 0, .list true 0 [], .list true 0 []], .agg [.str k2, .int .u8 2, .str [], .int .i64 1, .int .u64 0, .list true 0 [], .list true 0 []]]]) ([]) (.tuple [.str u.1, .int .i64 u.2]) (none) := by
 refine ah (C := cx [(25, qn), (47, qo), (48, ue), (49, oq), (27, qm)]) (ai ⟨x9, xa, Fc, sk, x8, trivial⟩) (fn := Tryz.f19) rfl rfl rfl rfl fun hw hs => ?_
 have b0 : Wb .new 0 0 := ⟨Nat.le_refl _, Nat.le_refl _⟩
 have b1 : Wb (CS.new.struct 0) 40 1 := b0.op ⟨123, 0, 0, 0, 0, []⟩ (Nat.zero_le _) (by decide : (-9223372036854775808 : Int) ≤ 0 ∧ (0 : Int) ≤ 9223372036854775807)
 have b2 : Wb ((CS.new.struct 0).list 5 2 12) 80 2 := b1.op ⟨91, 5, 2, 12, 0, []⟩ (Nat.zero_le _) (by decide : (-9223372036854775808 : Int) ≤ 2 ∧ (2 : Int) ≤ 9223372036854775807)
 have b3 := (b2.ops oE).ops oE
 have hl : tA.length = 5 := rfl
 rw [hl] at b3
 have b4 : Wb (((((CS.new.struct 0).list 5 2 12).ops tA).ops tA).fin) 10520 13 := b3.op ⟨101, 0, 0, 0, 0, []⟩ (Nat.zero_le _) (by decide : (-9223372036854775808 : Int) ≤ 0 ∧ (0 : Int) ≤ 9223372036854775807)
 have b5 : Wb ((((((CS.new.struct 0).list 5 2 12).ops tA).ops tA).fin).fin) 10560 14 := b4.op ⟨101, 0, 0, 0, 0, []⟩ (Nat.zero_le _) (by decide : (-9223372036854775808 : Int) ≤ 0 ∧ (0 : Int) ≤ 9223372036854775807)
 rw [hu, ← ev2]
 repeat' ((conv => whnf); apply ab)
 all_goals try conv => whnf
 all_goals try (refine a7.mk ?_; try dsimp only)
 all_goals (try simp only [ep])
 . exact b0.f (by decide) (by decide)
 . exact ⟨(b1.c (by decide) (by decide)).1, hp, b1.le (by decide) (by decide)⟩
 . exact b4.f (by decide) (by decide)
 . exact ⟨(b5.c (by decide) (by decide)).1, trivial⟩
 refine a6.mk [] ?_ <;> (repeat' first | trivial)
def qT (u : List UInt8 × Int) : Sm := fun args σ => match args, σ with
 | [.list true 7 [.agg [.str k, .int .u8 2, .str [], .int .i64 1, .int .u64 0, .list true 0 [], .list true 0 []], .agg [.str k2, .int .u8 2, .str [], .int .i64 1, .int .u64 0, .list true 0 [], .list true 0 []]]], [] => some (k = [97] ∧ k2 = [97], .tuple [.str u.1, .int .i64 u.2], none)
 | _, _ => none
theorem Fk (u : List UInt8 × Int) (hu : u = (ez, 0)) : a9 19 (qT u) := by
 intro args sg pre x r he hp
 unfold qT at he
 split at he <;> cases he
 . exact DP (hu := hu) (hp := hp) ..
theorem DL (RT : Int → List UInt8 → Tg × Int) (hT : RT = cC) (s : List UInt8) (d : Int) (hp : 0 ≤ d ∧ s.length ≤ 1000000000) : OK 7 ([.str s, .int .i64 d]) ([]) (.tuple [eL (RT d s).1, .int .i64 (RT d s).2]) (none) := by
 subst hT
 exact wc s d hp
def qP (RT : Int → List UInt8 → Tg × Int) : Sm := fun args σ => match args, σ with
 | [.str s, .int .i64 d], [] => some (0 ≤ d ∧ s.length ≤ 1000000000, .tuple [eL (RT d s).1, .int .i64 (RT d s).2], none)
 | _, _ => none
theorem Fg (RT : Int → List UInt8 → Tg × Int) (hT : RT = cC) : a9 7 (qP RT) := by
 intro args sg pre x r he hp
 unfold qP at he
 split at he <;> cases he
 . exact DL (hT := hT) (hp := hp) ..
theorem DN (RS : Int → List UInt8 → SR) (hT : RS = aW) (s : List UInt8) (d : Int) (hp : 0 ≤ d ∧ s.length ≤ 1000000000) : OK 10 ([.str s, .int .i64 d]) ([]) (.tuple [c6 (RS d s).2.2, .int .i64 ((RS d s).2.1 : Nat), .int .i64 (RS d s).1]) (none) := by
 subst hT
 exact wa s d hp
def qR (RS : Int → List UInt8 → SR) : Sm := fun args σ => match args, σ with
 | [.str s, .int .i64 d], [] => some (0 ≤ d ∧ s.length ≤ 1000000000, .tuple [c6 (RS d s).2.2, .int .i64 ((RS d s).2.1 : Nat), .int .i64 (RS d s).1], none)
 | _, _ => none
theorem Fi (RS : Int → List UInt8 → SR) (hT : RS = aW) : a9 10 (qR RS) := by
 intro args sg pre x r he hp
 unfold qR at he
 split at he <;> cases he
 . exact DN (hT := hT) (hp := hp) ..
theorem DK (RL : List Fd → Int → Int → List Tg × Int) (hT : RL = dV) (l : List Fd) (id d : Int) (hp : (0 ≤ d ∧ ∀ f ∈ l, f.raw.length ≤ 1000000000) ∧ d ≤ 1000000) : OK 12 ([c6 l, .int .i64 id, .int .i64 d]) ([]) (.tuple [iL (RL l id d).1, .int .i64 (RL l id d).2]) (none) := by
 subst hT
 exact wb l id d hp
def qO (RL : List Fd → Int → Int → List Tg × Int) : Sm := fun args σ => match args, σ with
 | [.list false 6 l_l, .int .i64 id, .int .i64 d], [] => some (l_l = (l_l.map bh).map bE ∧ ((0 ≤ d ∧ ∀ f ∈ (l_l.map bh), f.raw.length ≤ 1000000000) ∧ d ≤ 1000000), .tuple [iL (RL (l_l.map bh) id d).1, .int .i64 (RL (l_l.map bh) id d).2], none)
 | _, _ => none
theorem Ff (RL : List Fd → Int → Int → List Tg × Int) (hT : RL = dV) : a9 12 (qO RL) := by
 intro args sg pre x r he hp
 unfold qO at he
 split at he <;> cases he
 . rw [jd (hp).1]; exact DK (hT := hT) (hp := hp.2) ..
theorem DM (RX : List Fd → Int → Int → List (List UInt8) × Int) (hT : RX = strs) (l : List Fd) (id d : Int) (hp : 0 ≤ d ∧ ∀ f ∈ l, f.raw.length ≤ 1000000000) : OK 14 ([c6 l, .int .i64 id, .int .i64 d]) ([]) (.tuple [hC (RX l id d).1, .int .i64 (RX l id d).2]) (none) := by
 subst hT
 exact we l id d hp
def qQ (RX : List Fd → Int → Int → List (List UInt8) × Int) : Sm := fun args σ => match args, σ with
 | [.list false 6 l_l, .int .i64 id, .int .i64 d], [] => some (l_l = (l_l.map bh).map bE ∧ (0 ≤ d ∧ ∀ f ∈ (l_l.map bh), f.raw.length ≤ 1000000000), .tuple [hC (RX (l_l.map bh) id d).1, .int .i64 (RX (l_l.map bh) id d).2], none)
 | _, _ => none
theorem Fh (RX : List Fd → Int → Int → List (List UInt8) × Int) (hT : RX = strs) : a9 14 (qQ RX) := by
 intro args sg pre x r he hp
 unfold qQ at he
 split at he <;> cases he
 . rw [jd (hp).1]; exact DM (hT := hT) (hp := hp.2) ..
theorem Cv (T : CS → CS) (u : List UInt8 × Int) (RT : Int → List UInt8 → Tg × Int) (RS : Int → List UInt8 → SR) (RL : List Fd → Int → Int → List Tg × Int) (RX : List Fd → Int → Int → List (List UInt8) × Int) (h1 : a9 26 (qS T)) (h2 : a9 7 (qP RT)) (h3 : a9 19 (qT u)) (h4 : a9 10 (qR RS)) (h5 : a9 12 (qO RL)) (h6 : a9 14 (qQ RX)) (b1 : Wb (T .new) 10000 50) (e1 : (T .new).done = (o9, 0)) (e2 : u = (ez, 0)) (e3 : RT 0 o9 = (⟨[97], 2, [], 1, 0⟩, 0)) (e4 : (RT 0 [24, 1, 97, 0]).2 = 9) (e5 : (RS 0 ez).1 = 0) (e8 : ∀ f ∈ (RS 0 ez).2.2, f.raw.length ≤ 1000000000) (e6 : (RL (RS 0 ez).2.2 5 1).2 = 0 ∧ (RL (RS 0 ez).2.2 5 1).1.length = 2) (e7 : RX (RS 0 ez).2.2 6 1 = ([], 0))  (hp : True) : OK 6 ([]) ([]) (.bool true) (none) := by
 refine ah (C := cx [(25, qn), (26, (qS T)), (27, qm), (7, (qP RT)), (19, (qT u)), (10, (qR RS)), (12, (qO RL)), (14, (qQ RX))]) (ai ⟨x9, h1, x8, h2, h3, h4, h5, h6, trivial⟩) (fn := Tryz.f6) rfl rfl rfl rfl fun hw hs => ?_
 have b0 : Wb .new 0 0 := ⟨Nat.le_refl _, Nat.le_refl _⟩
 have c0 := b0.c (by decide) (by decide)
 have c1 := b1.c (by decide) (by decide)
 have hs1 : o9.length = 7 := rfl
 have hs2 : ez.length = 17 := rfl
 repeat' ((conv => whnf); first | apply ab | ((first | apply ae | apply kM) <;> intro h))
 all_goals try conv => whnf
 all_goals try (refine a7.mk ?_; try dsimp only)
 all_goals (try simp only [ep] at *)
 all_goals (try simp only [bn, e1, e2, e3, e5, e6, e7, List.length_map, List.length_nil] at *)
 all_goals first
  | exact ⟨c0.1, trivial, c0.2.2⟩
  | exact ⟨c0.1, rfl, c0.2.2⟩
  | exact ⟨c1.1, trivial⟩
  | exact ⟨by decide, by decide⟩
  | exact ⟨by omega, by omega⟩
  | exact ⟨rfl, rfl⟩
  | exact ⟨trivial, trivial⟩
  | exact ⟨trivial, ⟨by decide, e8⟩, by decide⟩
  | exact ⟨bz _, ⟨by decide, e8⟩, by decide⟩
  | exact ⟨trivial, by decide, e8⟩
  | exact ⟨bz _, by decide, e8⟩
  | (exfalso; exact absurd e4 (by assumption))
  | (exfalso; exact absurd rfl (by assumption))
  | (show a6 _ _ _ _ _ _
     refine a6.mk [] ?_ <;> (repeat' first | trivial)
     done)
  | skip
def HR (T : CS → CS) (u : List UInt8 × Int) (RT : Int → List UInt8 → Tg × Int) (RS : Int → List UInt8 → SR) (RL : List Fd → Int → Int → List Tg × Int) (RX : List Fd → Int → Int → List (List UInt8) × Int) : Sm := fun args σ => match args, σ with
 | [], [] => some (True, .bool true, none)
 | _, _ => none
theorem Cw  (hp : True) : OK 6 ([]) ([]) (.bool true) (none) := by
 exact Cv (fun w => w.ops tA) (ez, 0) cC aW dV strs (Fj _ rfl) (Fg _ rfl) (Fk _ rfl) (Fi _ rfl) (Ff _ rfl) (Fh _ rfl)
  ((Wb.ops (w := .new) (n := 0) (m := 0) ⟨Nat.le_refl _, Nat.le_refl _⟩ oE).le (by decide) (by decide)) ev1 rfl ev3 ev4 ev5 (fun f hf => Nat.le_trans (yJ 0 ez f hf) (by decide)) ev6 ev7 trivial
def tS : Sm := fun args σ => match args, σ with
 | [], [] => some (True, .bool true, none)
 | _, _ => none
theorem EG : a9 6 tS := by
 intro args sg pre x r he hp
 unfold tS at he
 split at he <;> cases he
 . exact Cw (hp := hp) ..
end Go.Proofs.YtipejldppicijaaGreatDoor
