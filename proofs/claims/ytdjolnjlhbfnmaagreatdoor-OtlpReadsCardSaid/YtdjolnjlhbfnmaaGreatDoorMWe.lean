/-
  A part of the proof.
-/
import Derived.Test.YtdjolnjlhbfnmaaGreatDoorPRj
set_option linter.unusedSimpArgs false
set_option linter.unusedVariables false
set_option maxHeartbeats 4000000
namespace Go.Proofs.YtdjolnjlhbfnmaaGreatDoor
open Go Go.VG
set_option maxRecDepth 100000
def bJ (fs : List Pf) : List V := fs.map fun f => .iface 243 (av f)
theorem HD (f : Pf) (hp : f.text.length ≤ 1000000000) : OK 188 ([av f]) ([]) (.int .i64 ((dy f).length : Nat)) (none) := by
 refine al (C := cx [(190, yR)]) (aq ⟨LQ, trivial⟩) (fn := Tryz.f188) rfl rfl rfl rfl fun hw hs => ?_
 repeat' ((conv => whnf); apply aj)
 all_goals try conv => whnf
 all_goals try (refine ae.mk ?_; try dsimp only)
 . exact ⟨trivial, hp⟩
 . refine af.mk [] ?_ <;> (repeat' first | trivial)
def yj : Sm := fun args σ => match args, σ with
 | [.agg [.int .i64 n_f, .int .i64 w_f, .int .u64 u_f, .str t_f]], [] => some (True ∧ ((Pf.mk n_f w_f u_f t_f).text.length ≤ 1000000000), .int .i64 ((dy (Pf.mk n_f w_f u_f t_f)).length : Nat), none)
 | _, _ => none
theorem Lo : au 188 yj := by
 intro args sg pre x r he hp
 unfold yj at he
 split at he <;> cases he
 . rw [iY (hp).1]; exact HD (hp := hp.2) ..
theorem HE (c : Bool) (no : Int) (l : List V) (m n : Int) (hp : 0 ≤ n ∧ n ≤ 1000000000) : OK 181 ([.agg [.int .i64 no, .int .i64 2, .box [.list c 1 l, .int .i64 m] 0, .int .i64 n]]) ([]) (.int .i64 (((cN no 2).length + (cm n.toNat).length + n.toNat : Nat))) (none) := by
 refine al (C := cx [(184, uY), (185, oN)]) (aq ⟨Cp, rF, trivial⟩) (fn := Tryz.f181) rfl rfl rfl rfl fun hw hs => ?_
 have ht := qD no 2
 have h2 := xX (u := n.toNat) (by omega)
 have h4 := iZ (u := n.toNat) (by omega)
 have hw2 : IntKind.u64.wrap n = n := by rw [db]; omega
 repeat' ((conv => whnf); apply aj)
 all_goals try conv => whnf
 all_goals try (refine ae.mk ?_; try dsimp only)
 all_goals (try simp only [hw2, h2] at *)
 . omega
 . refine af.mk [] ?_ <;> (repeat' first | trivial | apply ax | apply aH)
   have e1 : IntKind.i64.wrap (((cN no 2).length : Int) + (cm n.toNat).length) = (cN no 2).length + (cm n.toNat).length := by rw [bc]; omega
   rw [e1, bc]; omega
def yk : Sm := fun args σ => match args, σ with
 | [.agg [.int .i64 no, .int .i64 2, .box [.list c 1 l, .int .i64 m] 0, .int .i64 n]], [] => some (0 ≤ n ∧ n ≤ 1000000000, .int .i64 (((cN no 2).length + (cm n.toNat).length + n.toNat : Nat)), none)
 | _, _ => none
theorem Lp : au 181 yk := by
 intro args sg pre x r he hp
 unfold yk at he
 split at he <;> cases he
 . exact HE (hp := hp) ..
def eQ (t : Nat) (n : String) (f : Nat) : Prop := (t, n, f) ∈ [(243, "truchman/pwrite.size", 188), (243, "truchman/pwrite.lay", 187), (116, "truchman/pwrite.size", 181), (116, "truchman/pwrite.lay", 180)]
theorem mt_fs (v : Value) (w : World) : (method (Tryz.prog.types.size + Made.depth) 243 v "truchman/pwrite.size").run Tryz.prog w = .ok (188, v) w := by kernel_rfl
theorem mt_fl (v : Value) (w : World) : (method (Tryz.prog.types.size + Made.depth) 243 v "truchman/pwrite.lay").run Tryz.prog w = .ok (187, v) w := by kernel_rfl
theorem mt_is (v : Value) (w : World) : (method (Tryz.prog.types.size + Made.depth) 116 v "truchman/pwrite.size").run Tryz.prog w = .ok (181, v) w := by kernel_rfl
theorem mt_il (v : Value) (w : World) : (method (Tryz.prog.types.size + Made.depth) 116 v "truchman/pwrite.lay").run Tryz.prog w = .ok (180, v) w := by kernel_rfl
noncomputable def cxz (l : List (Nat × Sm)) (h : List (Nat × List dR)) : Ctx := ⟨Tryz.prog, tt, jc, fun f => mX l f, eQ, fun r => lkH h r, fun _ => false, fun _ _ _ _ => none, fun _ _ _ => none, fun _ => false, fun _ => none⟩
theorem tN {l : List (Nat × Sm)} {h : List (Nat × List dR)} (hk : oS l) : cH (cxz l h) where
 ti := sM
 mt := fun t m f hm v w => by
  have hm : (t, m, f) ∈ _ := hm
  simp only [List.mem_cons, Prod.mk.injEq, List.not_mem_nil, or_false] at hm
  rcases hm with ⟨rfl, rfl, rfl⟩ | ⟨rfl, rfl, rfl⟩ | ⟨rfl, rfl, rfl⟩ | ⟨rfl, rfl, rfl⟩
  . exact mt_fs v w
  . exact mt_fl v w
  . exact mt_is v w
  . exact mt_il v w
 hm := u9
 gam := fun f args sg pre x r h' hp => rR hk args sg pre x r h' hp
 del := fun _ _ _ _ _ _ _ _ _ h' => by cases (ud h')
end Go.Proofs.YtdjolnjlhbfnmaaGreatDoor
namespace Go.Proofs.YtdjolnjlhbfnmaaGreatDoor
open Go Go.VG
set_option maxRecDepth 100000
abbrev cI (n : Int) (L : List V) : List O := [.cells [.buf 1, .int .i64 n], .buf 1 0 L]
theorem H0 (n : Int) (L : List V) (f : Pf) (hn : 0 ≤ n ∧ n ≤ 1000000000) (hL : L.length ≤ 1000000) (hf : f.text.length ≤ 1000000) (hu : 0 ≤ f.num ∧ f.num ≤ 18446744073709551615) :
   OK 45 [.ptr 0 0, .iface 243 (av f)] (cI n L) (.tuple []) (some (cI (n + (dy f).length) (L ++ [.iface 243 (av f)]))) := by
 refine al (C := cxz [(188, yj)] []) (tN ⟨Lo, trivial⟩) (fn := Tryz.f45) rfl rfl rfl rfl fun hw _ => ?_
 have hlen := KJ (f := f) hu (by omega)
 have hwn : IntKind.i64.wrap (n + ((dy f).length : Int)) = n + (dy f).length := by rw [bc]; omega
 repeat' ((conv => whnf); apply aj)
 all_goals try conv => whnf
 all_goals try (refine ae.mk ?_; try dsimp only)
 . simp only [List.length_singleton]; omega
 . refine ⟨188, by show eQ _ _ _; unfold eQ; simp, ?_⟩
   repeat' ((conv => whnf); apply aj)
   all_goals try conv => whnf
   all_goals try (refine ae.mk ?_; try dsimp only)
   . exact ⟨trivial, by omega⟩
   . rw [hwn]
     refine af.mk [] ?_ <;> (repeat' first | trivial)
theorem H2 (n : Int) (L : List V) (no : Int) (c : Bool) (l : List V) (m : Int) (hn : 0 ≤ n ∧ n ≤ 1000000000) (hL : L.length ≤ 1000000) (hm : 0 ≤ m ∧ m ≤ 100000000) :
   OK 45 [.ptr 0 0, .iface 116 (.agg [.int .i64 no, .int .i64 2, .box [.list c 1 l, .int .i64 m] 0, .int .i64 m])] (cI n L) (.tuple []) (some (cI (n + ((cN no 2).length + (cm m.toNat).length + m.toNat : Nat)) (L ++ [.iface 116 (.agg [.int .i64 no, .int .i64 2, .box [.list c 1 l, .int .i64 m] 0, .int .i64 m])]))) := by
 refine al (C := cxz [(181, yk)] []) (tN ⟨Lp, trivial⟩) (fn := Tryz.f45) rfl rfl rfl rfl fun hw _ => ?_
 have ht := qD no 2
 have h4 := iZ (u := m.toNat) (by omega)
 have hwn : IntKind.i64.wrap (n + (((cN no 2).length + (cm m.toNat).length + m.toNat : Nat) : Int)) = n + ((cN no 2).length + (cm m.toNat).length + m.toNat : Nat) := by rw [bc]; omega
 repeat' ((conv => whnf); apply aj)
 all_goals try conv => whnf
 all_goals try (refine ae.mk ?_; try dsimp only)
 . simp only [List.length_singleton]; omega
 . refine ⟨181, by show eQ _ _ _; unfold eQ; simp, ?_⟩
   repeat' ((conv => whnf); apply aj)
   all_goals try conv => whnf
   all_goals try (refine ae.mk ?_; try dsimp only)
   . omega
   . rw [hwn]
     refine af.mk [] ?_ <;> (repeat' first | trivial)
def fK (f : Pf) : List Pf := if bD f.no f.wi = true then [f] else []
theorem fK_y {f : Pf} (h : bD f.no f.wi = true) : fK f = [f] := if_pos h
theorem fK_n {f : Pf} (h : ¬ bD f.no f.wi = true) : fK f = [] := if_neg h
theorem KK (f : Pf) : dp [f] = dy f := by simp [dp]
structure j4 (n : Int) (L : List V) (f : Pf) : Prop where
 n : 0 ≤ n ∧ n ≤ 1000000000
 l : L.length ≤ 1000000
 t : f.text.length ≤ 1000000
def yb : Sm := fun args σ => match args, σ with
 | [.ptr 0 0, .iface 243 (.agg [.int .i64 no, .int .i64 wi, .int .u64 u, .str t])], [.cells [.buf 1, .int .i64 n], .buf 1 0 L] => some (j4 n L ⟨no, wi, u, t⟩ ∧ 0 ≤ u ∧ u ≤ 18446744073709551615, .tuple [], some (cI (n + (dy ⟨no, wi, u, t⟩).length) (L ++ [.iface 243 (av ⟨no, wi, u, t⟩)])))
 | _, _ => none
theorem Lg : au 45 yb := by
 intro args sg pre x r he hp
 unfold yb at he
 split at he <;> cases he
 exact H0 _ _ _ hp.1.n hp.1.l hp.1.t hp.2
theorem Kw (n : Int) (L : List V) (f : Pf) (hA : j4 n L f) : OK 143 [.ptr 0 0, av f] (cI n L) (.tuple []) (some (cI (n + (dp (fK f)).length) (L ++ bJ (fK f)))) := by
 refine al (C := cx [(44, ju), (45, yb)]) (aq ⟨kK, Lg, trivial⟩) (fn := Tryz.f143) rfl rfl rfl rfl fun hw _ => ?_
 have hu : 0 ≤ f.num ∧ f.num ≤ 18446744073709551615 := hw.2.1.2.2.1
 repeat' ((conv => whnf); first | apply aj | (apply aw <;> intro h))
 all_goals try conv => whnf
 all_goals try (refine ae.mk ?_; try dsimp only)
 . exact ⟨hA, hu⟩
 . have hm : bD f.no f.wi = true := decide_eq_true (by assumption)
   rw [fK_y hm, KK]
   refine af.mk [] ?_ <;> (repeat' first | trivial)
 . have hm : ¬ bD f.no f.wi = true := fun q => by have := of_decide_eq_true q; contradiction
   rw [fK_n hm, show n + ((dp []).length : Int) = n from Int.add_zero n, show L ++ bJ [] = L from List.append_nil L]
   refine af.mk [] ?_ <;> (repeat' first | trivial)
def uO : Sm := fun args σ => match args, σ with
 | [.ptr 0 0, .agg [.int .i64 no, .int .i64 wi, .int .u64 u, .str t]], [.cells [.buf 1, .int .i64 n], .buf 1 0 L] => some (j4 n L ⟨no, wi, u, t⟩, .tuple [], some (cI (n + (dp (fK ⟨no, wi, u, t⟩)).length) (L ++ bJ (fK ⟨no, wi, u, t⟩))))
 | _, _ => none
-- #name mSure (*pwrite.Message).sure
theorem Cc : au 143 uO := by
 intro args sg pre x r he hp
 unfold uO at he
 split at he <;> cases he
 exact Kw _ _ _ hp
def oc (no wi u : Int) : List Pf := if wi = 2 then [] else fK ⟨no, wi, u, []⟩
theorem Hu (n : Int) (L : List V) (no wi u : Int) (hp : j4 n L ⟨no, wi, u, []⟩) : OK 108 ([.ptr 0 0, .int .i64 no, .int .i64 wi, .int .u64 u]) ([.cells [.buf 1, .int .i64 n], .buf 1 0 L]) (.tuple []) (some (cI (n + (dp (oc no wi u)).length) (L ++ bJ (oc no wi u)))) := by
 refine al (C := cx [(143, uO)]) (aq ⟨Cc, trivial⟩) (fn := Tryz.f108) rfl rfl rfl rfl fun hw hs => ?_
 repeat' ((conv => whnf); first | apply aj | apply aO | (apply aw <;> intro h))
 all_goals try conv => whnf
 all_goals try (refine ae.mk ?_; try dsimp only)
 . unfold oc
   rw [if_pos (by assumption), show n + ((dp []).length : Int) = n from Int.add_zero n, show L ++ bJ [] = L from List.append_nil L]
   refine af.mk [] ?_ <;> (repeat' first | trivial)
 . exact hp
 . unfold oc
   rw [if_neg (by assumption)]
   refine af.mk [] ?_ <;> (repeat' first | trivial)
def yg : Sm := fun args σ => match args, σ with
 | [.ptr 0 0, .int .i64 no, .int .i64 wi, .int .u64 u], [.cells [.buf 1, .int .i64 n], .buf 1 0 L] => some (j4 n L ⟨no, wi, u, []⟩, .tuple [], some (cI (n + (dp (oc no wi u)).length) (L ++ bJ (oc no wi u))))
 | _, _ => none
theorem Ll : au 108 yg := by
 intro args sg pre x r he hp
 unfold yg at he
 split at he <;> cases he
 . exact Hu (hp := hp) ..
theorem Hz (n : Int) (L : List V) (no : Int) (t : List UInt8) (hp : j4 n L ⟨no, 2, 0, t⟩) : OK 107 ([.ptr 0 0, .int .i64 no, .str t]) ([.cells [.buf 1, .int .i64 n], .buf 1 0 L]) (.tuple []) (some (cI (n + (dp (fK ⟨no, 2, 0, t⟩)).length) (L ++ bJ (fK ⟨no, 2, 0, t⟩)))) := by
 refine al (C := cx [(143, uO)]) (aq ⟨Cc, trivial⟩) (fn := Tryz.f107) rfl rfl rfl rfl fun hw hs => ?_
 repeat' ((conv => whnf); apply aj)
 all_goals try conv => whnf
 all_goals try (refine ae.mk ?_; try dsimp only)
 . exact hp
 . refine af.mk [] ?_ <;> (repeat' first | trivial)
def uP : Sm := fun args σ => match args, σ with
 | [.ptr 0 0, .int .i64 no, .str t], [.cells [.buf 1, .int .i64 n], .buf 1 0 L] => some (j4 n L ⟨no, 2, 0, t⟩, .tuple [], some (cI (n + (dp (fK ⟨no, 2, 0, t⟩)).length) (L ++ bJ (fK ⟨no, 2, 0, t⟩))))
 | _, _ => none
theorem Cd : au 107 uP := by
 intro args sg pre x r he hp
 unfold uP at he
 split at he <;> cases he
 . exact Hz (hp := hp) ..
end Go.Proofs.YtdjolnjlhbfnmaaGreatDoor
