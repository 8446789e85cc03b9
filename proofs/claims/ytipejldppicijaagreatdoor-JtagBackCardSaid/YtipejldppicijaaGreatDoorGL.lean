/-
  A part of the proof.
-/
import Derived.Test.YtipejldppicijaaGreatDoorGK
import Derived.Test.YtipejldppicijaaGreatDoorGJ
set_option linter.unusedSimpArgs false
set_option linter.unusedVariables false
set_option maxHeartbeats 4000000
namespace Go.Proofs.YtipejldppicijaaGreatDoor
open Go Go.VG
set_option maxRecDepth 100000
def tA : List aU := cL 0 [97] (.mk 2 [] 1 0 [] []) []
abbrev eA (k : List UInt8) : V := .agg [.str k, .int .u8 2, .str [], .int .i64 1, .int .u64 0, .list true 0 [], .list true 0 []]
theorem Wb.ops {l : List aU} : ∀ {w : CS} {n m : Nat}, Wb w n m → (∀ o ∈ l, o.text.length ≤ 1000 ∧ -9223372036854775808 ≤ o.n ∧ o.n ≤ 9223372036854775807) → Wb (w.ops l) (n + l.length * 1040) (m + l.length) := by
 induction l with
 | nil => intro w n m h _; exact ⟨by have := h.1; show w.out.length ≤ n + 0 * 1040; omega, h.2⟩
 | cons o l ih =>
   intro w n m h k
   have k0 := k o List.mem_cons_self
   have h1 := h.op o (by omega) k0.2
   have h2 : Wb (w.op o) (n + 1040) (m + 1) := ⟨by have := h1.1; omega, h1.2⟩
   have h3 := ih h2 fun x hx => k x (List.mem_cons_of_mem _ hx)
   refine ⟨?_, ?_⟩
   . have := h3.1; show ((w.op o).ops l).out.length ≤ _; rw [List.length_cons]; omega
   . have := h3.2; show ((w.op o).ops l).l.length ≤ _; rw [List.length_cons]; omega
theorem Wb.c {w : CS} {n m : Nat} (h : Wb w n m) (hn : n ≤ 1000000) (hm : m ≤ 100) : dk (bl w.out) (w.l.map eP) ∧ True ∧ Wb w 1000000 100 :=
 ⟨aR (by have := h.1; omega) (by have := h.2; omega), trivial, by have := h.1; omega, by have := h.2; omega⟩
theorem Wb.f {w : CS} {n m : Nat} (h : Wb w n m) (hn : n ≤ 1000000) (hm : m ≤ 100) : dk (bl w.out) (w.l.map eP) ∧ w.out.length ≤ 1800000000 ∧ w.l.length ≤ 800 :=
 ⟨aR (by have := h.1; omega) (by have := h.2; omega), by have := h.1; omega, by have := h.2; omega⟩
theorem Wb.le {w : CS} {n m n' m' : Nat} (h : Wb w n m) (hn : n ≤ n') (hm : m ≤ m') : Wb w n' m' := ⟨by have := h.1; omega, by have := h.2; omega⟩
theorem qW : ∀ o ∈ tA, o.text.length ≤ 1000 ∧ -9223372036854775808 ≤ o.n ∧ o.n ≤ 9223372036854775807 := by decide
theorem zt (w : CS) (k : List UInt8) (hp : k = [97] ∧ Wb w 1000000 100) : OK 26 ([.ptr 0 0, .int .i64 0, .agg [.str k, .int .u8 2, .str [], .int .i64 1, .int .u64 0, .list true 0 [], .list true 0 []]]) (aN w) (.tuple []) (some (aN (w.ops tA))) := by
 obtain ⟨rfl, hb⟩ := hp
 exact GL w 0 1 [97] hb (by decide)
def xL : Sm := fun args σ => match args, σ with
 | [.ptr 0 0, .int .i64 0, .agg [.str k, .int .u8 2, .str [], .int .i64 1, .int .u64 0, .list true 0 [], .list true 0 []]], [.cells [.buf 1, .buf 2, .int .i64 c_w], .buf 1 0 o_w, .buf 4 0 l_w] => some (dk o_w l_w ∧ (k = [97] ∧ Wb (b9 o_w l_w c_w) 1000000 100), .tuple [], some (aN ((b9 o_w l_w c_w).ops tA)))
 | _, _ => none
theorem JV : aa 26 xL := by
 intro args sg pre x r he hp
 unfold xL at he
 split at he <;> cases he
 . rw [eL (hp).1]; exact zt (hp := hp.2) ..
theorem Ig (w : CS) (k k2 : List UInt8) (hp : (k = [97] ∧ k2 = [97]) ∧ Wb w 100000 10) : OK 48 ([.ptr 0 0, .int .i64 5, .list true 7 [.agg [.str k, .int .u8 2, .str [], .int .i64 1, .int .u64 0, .list true 0 [], .list true 0 []], .agg [.str k2, .int .u8 2, .str [], .int .i64 1, .int .u64 0, .list true 0 [], .list true 0 []]]]) (aN w) (.tuple []) (some (aN (((w.list 5 2 12).ops tA).ops tA).fin)) := by
 refine af (C := cx [(26, xL), (102, sX), (49, im)]) (ah ⟨JV, Aq, jh, trivial⟩) (fn := Tryz.f48) rfl rfl rfl rfl fun hw hs => ?_
 obtain ⟨⟨rfl, rfl⟩, hb⟩ := hp
 have b1 : Wb (w.list 5 2 12) 100040 11 := hb.op ⟨91, 5, 2, 12, 0, []⟩ (Nat.zero_le _) (by decide : (-9223372036854775808 : Int) ≤ 2 ∧ (2 : Int) ≤ 9223372036854775807)
 have b2 := b1.ops qW
 have b3 := b2.ops qW
 have hl : tA.length = 5 := rfl
 rw [hl] at b2 b3
 have hw0 := hb.1
 have hw1 := hb.2
 repeat' ((conv => whnf); apply a9)
 all_goals try conv => whnf
 all_goals try (refine a8.mk ?_; try dsimp only)
 all_goals (try simp only [bD] at *)
 . exact ⟨aR (by omega) (by omega), by omega, by omega⟩
 refine bd.mk Nat (fun i => i ≤ 2) (fun i => ⟨28, [(0, .ptr 0 0), (16, .list true 7 [eA [97], eA [97]]), (17, .int .i64 2), (18, .int .i64 i)], aN (if i = 0 then w.list 5 2 12 else if i = 1 then (w.list 5 2 12).ops tA else ((w.list 5 2 12).ops tA).ops tA), [1, 2]⟩) (fun i => 2 - i) [] 0 (by decide) ?_ (fun i hi _ _ => ?_)
 . refine Go.VG.Sub.mk rfl ?_ ?_ ?_ ?_ <;> (repeat' first | trivial)
 have h012 : i = 0 ∨ i = 1 ∨ i = 2 := by omega
 rcases h012 with rfl | rfl | rfl
 . rw [if_pos rfl]
   repeat' ((conv => whnf); first | apply a9 | with_reducible refine dP.mk _ rfl ?_)
   all_goals try conv => whnf
   all_goals try (refine a8.mk ?_; try dsimp only)
   all_goals (try simp only [bD] at *)
   . decide
   . exact b1.c (by decide) (by decide)
   . refine ⟨[], 1, by decide, ?_, by decide⟩
     refine Go.VG.Sub.mk rfl ?_ ?_ ?_ ?_ <;> (repeat' first | trivial)
 . rw [if_neg (by decide), if_pos rfl]
   repeat' ((conv => whnf); first | apply a9 | with_reducible refine dP.mk _ rfl ?_)
   all_goals try conv => whnf
   all_goals try (refine a8.mk ?_; try dsimp only)
   all_goals (try simp only [bD] at *)
   . decide
   . exact b2.c (by decide) (by decide)
   . refine ⟨[], 2, by decide, ?_, by decide⟩
     refine Go.VG.Sub.mk rfl ?_ ?_ ?_ ?_ <;> (repeat' first | trivial)
 . rw [if_neg (by decide), if_neg (by decide)]
   repeat' ((conv => whnf); apply a9)
   all_goals try conv => whnf
   all_goals try (refine a8.mk ?_; try dsimp only)
   all_goals (try simp only [bD] at *)
   . have q1 := b3.1
     have q2 := b3.2
     exact ⟨aR (by omega) (by omega), by omega, by omega⟩
   . refine a7.mk [] ?_ <;> (repeat' first | trivial)
def xK : Sm := fun args σ => match args, σ with
 | [.ptr 0 0, .int .i64 5, .list true 7 [.agg [.str k, .int .u8 2, .str [], .int .i64 1, .int .u64 0, .list true 0 [], .list true 0 []], .agg [.str k2, .int .u8 2, .str [], .int .i64 1, .int .u64 0, .list true 0 [], .list true 0 []]]], [.cells [.buf 1, .buf 2, .int .i64 c_w], .buf 1 0 o_w, .buf 4 0 l_w] => some (dk o_w l_w ∧ ((k = [97] ∧ k2 = [97]) ∧ Wb (b9 o_w l_w c_w) 100000 10), .tuple [], some (aN ((((b9 o_w l_w c_w).list 5 2 12).ops tA).ops tA).fin))
 | _, _ => none
theorem JU : aa 48 xK := by
 intro args sg pre x r he hp
 unfold xK at he
 split at he <;> cases he
 . rw [eL (hp).1]; exact Ig (hp := hp.2) ..
def qw : List UInt8 := [24, 1, 97, 21, 4, 49, 0]
def fw : List UInt8 := [89, 44, 24, 1, 97, 21, 4, 49, 0, 24, 1, 97, 21, 4, 49, 0, 0]
theorem ev1 : (CS.new.ops tA).done = (qw, 0) := by kernel_rfl
theorem ev2 : ((((((CS.new.struct 0).list 5 2 12).ops tA).ops tA).fin).fin).done = (fw, 0) := by kernel_rfl
theorem ev3 : dH 0 qw = (⟨[97], 2, [], 1, 0⟩, 0) := by kernel_rfl
theorem ev4 : (dH 0 [24, 1, 97, 0]).2 = 9 := by kernel_rfl
theorem ev5 : (bK 0 fw).1 = 0 := by kernel_rfl
theorem ev6 : (gM (bK 0 fw).2.2 5 1).2 = 0 ∧ (gM (bK 0 fw).2.2 5 1).1.length = 2 := ⟨by kernel_rfl, by kernel_rfl⟩
theorem ev7 : strs (bK 0 fw).2.2 6 1 = ([], 0) := by kernel_rfl
theorem Il (T : CS → CS) (hT : T = fun w => w.ops tA) (w : CS) (k : List UInt8) (hp : k = [97] ∧ Wb w 1000000 100) : OK 26 ([.ptr 0 0, .int .i64 0, .agg [.str k, .int .u8 2, .str [], .int .i64 1, .int .u64 0, .list true 0 [], .list true 0 []]]) (aN w) (.tuple []) (some (aN (T w))) := by
 subst hT
 exact zt w k hp
def tT (T : CS → CS) : Sm := fun args σ => match args, σ with
 | [.ptr 0 0, .int .i64 0, .agg [.str k, .int .u8 2, .str [], .int .i64 1, .int .u64 0, .list true 0 [], .list true 0 []]], [.cells [.buf 1, .buf 2, .int .i64 c_w], .buf 1 0 o_w, .buf 4 0 l_w] => some (dk o_w l_w ∧ (k = [97] ∧ Wb (b9 o_w l_w c_w) 1000000 100), .tuple [], some (aN (T (b9 o_w l_w c_w))))
 | _, _ => none
theorem K0 (T : CS → CS) (hT : T = fun w => w.ops tA) : aa 26 (tT T) := by
 intro args sg pre x r he hp
 unfold tT at he
 split at he <;> cases he
 . rw [eL (hp).1]; exact Il (hT := hT) (hp := hp.2) ..
theorem Im (u : List UInt8 × Int) (hu : u = (fw, 0)) (k k2 : List UInt8) (hp : k = [97] ∧ k2 = [97]) : OK 19 ([.list true 7 [.agg [.str k, .int .u8 2, .str [], .int .i64 1, .int .u64 0, .list true 0 [], .list true 0 []], .agg [.str k2, .int .u8 2, .str [], .int .i64 1, .int .u64 0, .list true 0 [], .list true 0 []]]]) ([]) (.tuple [.str u.1, .int .i64 u.2]) (none) := by
 refine af (C := cx [(25, qQ), (47, jq), (48, xK), (49, im), (27, qP)]) (ah ⟨vo, l6, JU, jh, vn, trivial⟩) (fn := Tryz.f19) rfl rfl rfl rfl fun hw hs => ?_
 have b0 : Wb .new 0 0 := ⟨Nat.le_refl _, Nat.le_refl _⟩
 have b1 : Wb (CS.new.struct 0) 40 1 := b0.op ⟨123, 0, 0, 0, 0, []⟩ (Nat.zero_le _) (by decide : (-9223372036854775808 : Int) ≤ 0 ∧ (0 : Int) ≤ 9223372036854775807)
 have b2 : Wb ((CS.new.struct 0).list 5 2 12) 80 2 := b1.op ⟨91, 5, 2, 12, 0, []⟩ (Nat.zero_le _) (by decide : (-9223372036854775808 : Int) ≤ 2 ∧ (2 : Int) ≤ 9223372036854775807)
 have b3 := (b2.ops qW).ops qW
 have hl : tA.length = 5 := rfl
 rw [hl] at b3
 have b4 : Wb (((((CS.new.struct 0).list 5 2 12).ops tA).ops tA).fin) 10520 13 := b3.op ⟨101, 0, 0, 0, 0, []⟩ (Nat.zero_le _) (by decide : (-9223372036854775808 : Int) ≤ 0 ∧ (0 : Int) ≤ 9223372036854775807)
 have b5 : Wb ((((((CS.new.struct 0).list 5 2 12).ops tA).ops tA).fin).fin) 10560 14 := b4.op ⟨101, 0, 0, 0, 0, []⟩ (Nat.zero_le _) (by decide : (-9223372036854775808 : Int) ≤ 0 ∧ (0 : Int) ≤ 9223372036854775807)
 rw [hu, ← ev2]
 repeat' ((conv => whnf); apply a9)
 all_goals try conv => whnf
 all_goals try (refine a8.mk ?_; try dsimp only)
 all_goals (try simp only [bD])
 . exact b0.f (by decide) (by decide)
 . exact ⟨(b1.c (by decide) (by decide)).1, hp, b1.le (by decide) (by decide)⟩
 . exact b4.f (by decide) (by decide)
 . exact ⟨(b5.c (by decide) (by decide)).1, trivial⟩
 refine a7.mk [] ?_ <;> (repeat' first | trivial)
def tU (u : List UInt8 × Int) : Sm := fun args σ => match args, σ with
 | [.list true 7 [.agg [.str k, .int .u8 2, .str [], .int .i64 1, .int .u64 0, .list true 0 [], .list true 0 []], .agg [.str k2, .int .u8 2, .str [], .int .i64 1, .int .u64 0, .list true 0 [], .list true 0 []]]], [] => some (k = [97] ∧ k2 = [97], .tuple [.str u.1, .int .i64 u.2], none)
 | _, _ => none
theorem K3 (u : List UInt8 × Int) (hu : u = (fw, 0)) : aa 19 (tU u) := by
 intro args sg pre x r he hp
 unfold tU at he
 split at he <;> cases he
 . exact Im (hu := hu) (hp := hp) ..
theorem Ii (RT : Int → List UInt8 → Tg × Int) (hT : RT = dH) (s : List UInt8) (d : Int) (hp : 0 ≤ d ∧ s.length ≤ 1000000000) : OK 7 ([.str s, .int .i64 d]) ([]) (.tuple [eR (RT d s).1, .int .i64 (RT d s).2]) (none) := by
 subst hT
 exact zo s d hp
def tQ (RT : Int → List UInt8 → Tg × Int) : Sm := fun args σ => match args, σ with
 | [.str s, .int .i64 d], [] => some (0 ≤ d ∧ s.length ≤ 1000000000, .tuple [eR (RT d s).1, .int .i64 (RT d s).2], none)
 | _, _ => none
theorem JX (RT : Int → List UInt8 → Tg × Int) (hT : RT = dH) : aa 7 (tQ RT) := by
 intro args sg pre x r he hp
 unfold tQ at he
 split at he <;> cases he
 . exact Ii (hT := hT) (hp := hp) ..
theorem Ik (RS : Int → List UInt8 → SR) (hT : RS = bK) (s : List UInt8) (d : Int) (hp : 0 ≤ d ∧ s.length ≤ 1000000000) : OK 10 ([.str s, .int .i64 d]) ([]) (.tuple [dT (RS d s).2.2, .int .i64 ((RS d s).2.1 : Nat), .int .i64 (RS d s).1]) (none) := by
 subst hT
 exact zm s d hp
def tS (RS : Int → List UInt8 → SR) : Sm := fun args σ => match args, σ with
 | [.str s, .int .i64 d], [] => some (0 ≤ d ∧ s.length ≤ 1000000000, .tuple [dT (RS d s).2.2, .int .i64 ((RS d s).2.1 : Nat), .int .i64 (RS d s).1], none)
 | _, _ => none
theorem JZ (RS : Int → List UInt8 → SR) (hT : RS = bK) : aa 10 (tS RS) := by
 intro args sg pre x r he hp
 unfold tS at he
 split at he <;> cases he
 . exact Ik (hT := hT) (hp := hp) ..
theorem Ih (RL : List Fd → Int → Int → List Tg × Int) (hT : RL = gM) (l : List Fd) (id d : Int) (hp : (0 ≤ d ∧ ∀ f ∈ l, f.raw.length ≤ 1000000000) ∧ d ≤ 1000000) : OK 12 ([dT l, .int .i64 id, .int .i64 d]) ([]) (.tuple [nn (RL l id d).1, .int .i64 (RL l id d).2]) (none) := by
 subst hT
 exact zn l id d hp
def tP (RL : List Fd → Int → Int → List Tg × Int) : Sm := fun args σ => match args, σ with
 | [.list false 6 l_l, .int .i64 id, .int .i64 d], [] => some (l_l = (l_l.map cn).map cQ ∧ ((0 ≤ d ∧ ∀ f ∈ (l_l.map cn), f.raw.length ≤ 1000000000) ∧ d ≤ 1000000), .tuple [nn (RL (l_l.map cn) id d).1, .int .i64 (RL (l_l.map cn) id d).2], none)
 | _, _ => none
theorem JW (RL : List Fd → Int → Int → List Tg × Int) (hT : RL = gM) : aa 12 (tP RL) := by
 intro args sg pre x r he hp
 unfold tP at he
 split at he <;> cases he
 . rw [oK (hp).1]; exact Ih (hT := hT) (hp := hp.2) ..
theorem Ij (RX : List Fd → Int → Int → List (List UInt8) × Int) (hT : RX = strs) (l : List Fd) (id d : Int) (hp : 0 ≤ d ∧ ∀ f ∈ l, f.raw.length ≤ 1000000000) : OK 14 ([dT l, .int .i64 id, .int .i64 d]) ([]) (.tuple [ma (RX l id d).1, .int .i64 (RX l id d).2]) (none) := by
 subst hT
 exact zp l id d hp
def tR (RX : List Fd → Int → Int → List (List UInt8) × Int) : Sm := fun args σ => match args, σ with
 | [.list false 6 l_l, .int .i64 id, .int .i64 d], [] => some (l_l = (l_l.map cn).map cQ ∧ (0 ≤ d ∧ ∀ f ∈ (l_l.map cn), f.raw.length ≤ 1000000000), .tuple [ma (RX (l_l.map cn) id d).1, .int .i64 (RX (l_l.map cn) id d).2], none)
 | _, _ => none
theorem JY (RX : List Fd → Int → Int → List (List UInt8) × Int) (hT : RX = strs) : aa 14 (tR RX) := by
 intro args sg pre x r he hp
 unfold tR at he
 split at he <;> cases he
 . rw [oK (hp).1]; exact Ij (hT := hT) (hp := hp.2) ..
theorem GU (T : CS → CS) (u : List UInt8 × Int) (RT : Int → List UInt8 → Tg × Int) (RS : Int → List UInt8 → SR) (RL : List Fd → Int → Int → List Tg × Int) (RX : List Fd → Int → Int → List (List UInt8) × Int) (h1 : aa 26 (tT T)) (h2 : aa 7 (tQ RT)) (h3 : aa 19 (tU u)) (h4 : aa 10 (tS RS)) (h5 : aa 12 (tP RL)) (h6 : aa 14 (tR RX)) (b1 : Wb (T .new) 10000 50) (e1 : (T .new).done = (qw, 0)) (e2 : u = (fw, 0)) (e3 : RT 0 qw = (⟨[97], 2, [], 1, 0⟩, 0)) (e4 : (RT 0 [24, 1, 97, 0]).2 = 9) (e5 : (RS 0 fw).1 = 0) (e8 : ∀ f ∈ (RS 0 fw).2.2, f.raw.length ≤ 1000000000) (e6 : (RL (RS 0 fw).2.2 5 1).2 = 0 ∧ (RL (RS 0 fw).2.2 5 1).1.length = 2) (e7 : RX (RS 0 fw).2.2 6 1 = ([], 0))  (hp : True) : OK 6 ([]) ([]) (.bool true) (none) := by
 refine af (C := cx [(25, qQ), (26, (tT T)), (27, qP), (7, (tQ RT)), (19, (tU u)), (10, (tS RS)), (12, (tP RL)), (14, (tR RX))]) (ah ⟨vo, h1, vn, h2, h3, h4, h5, h6, trivial⟩) (fn := Tryz.f6) rfl rfl rfl rfl fun hw hs => ?_
 have b0 : Wb .new 0 0 := ⟨Nat.le_refl _, Nat.le_refl _⟩
 have c0 := b0.c (by decide) (by decide)
 have c1 := b1.c (by decide) (by decide)
 have hs1 : qw.length = 7 := rfl
 have hs2 : fw.length = 17 := rfl
 repeat' ((conv => whnf); first | apply a9 | ((first | apply al | apply gk) <;> intro h))
 all_goals try conv => whnf
 all_goals try (refine a8.mk ?_; try dsimp only)
 all_goals (try simp only [bD] at *)
 all_goals (try simp only [db, e1, e2, e3, e5, e6, e7, List.length_map, List.length_nil] at *)
 all_goals first
  | exact ⟨c0.1, trivial, c0.2.2⟩
  | exact ⟨c0.1, rfl, c0.2.2⟩
  | exact ⟨c1.1, trivial⟩
  | exact ⟨by decide, by decide⟩
  | exact ⟨by omega, by omega⟩
  | exact ⟨rfl, rfl⟩
  | exact ⟨trivial, trivial⟩
  | exact ⟨trivial, ⟨by decide, e8⟩, by decide⟩
  | exact ⟨dF _, ⟨by decide, e8⟩, by decide⟩
  | exact ⟨trivial, by decide, e8⟩
  | exact ⟨dF _, by decide, e8⟩
  | (exfalso; exact absurd e4 (by assumption))
  | (exfalso; exact absurd rfl (by assumption))
  | (show a7 _ _ _ _ _ _
     refine a7.mk [] ?_ <;> (repeat' first | trivial)
     done)
  | skip
def Ng (T : CS → CS) (u : List UInt8 × Int) (RT : Int → List UInt8 → Tg × Int) (RS : Int → List UInt8 → SR) (RL : List Fd → Int → Int → List Tg × Int) (RX : List Fd → Int → Int → List (List UInt8) × Int) : Sm := fun args σ => match args, σ with
 | [], [] => some (True, .bool true, none)
 | _, _ => none
theorem GV  (hp : True) : OK 6 ([]) ([]) (.bool true) (none) := by
 exact GU (fun w => w.ops tA) (fw, 0) dH bK gM strs (K0 _ rfl) (JX _ rfl) (K3 _ rfl) (JZ _ rfl) (JW _ rfl) (JY _ rfl)
  ((Wb.ops (w := .new) (n := 0) (m := 0) ⟨Nat.le_refl _, Nat.le_refl _⟩ qW).le (by decide) (by decide)) ev1 rfl ev3 ev4 ev5 (fun f hf => Nat.le_trans (Lt 0 fw f hf) (by decide)) ev6 ev7 trivial
def tj : Sm := fun args σ => match args, σ with
 | [], [] => some (True, .bool true, none)
 | _, _ => none
theorem AB : aa 6 tj := by
 intro args sg pre x r he hp
 unfold tj at he
 split at he <;> cases he
 . exact GV (hp := hp) ..
end Go.Proofs.YtipejldppicijaaGreatDoor
