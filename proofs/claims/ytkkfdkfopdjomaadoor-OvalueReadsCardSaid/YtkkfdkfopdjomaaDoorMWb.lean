/-
  A message that is written: the walks of its parts.
-/
import Derived.Test.YtkkfdkfopdjomaaDoorPRj
set_option linter.unusedSimpArgs false
set_option linter.unusedVariables false
set_option maxHeartbeats 4000000
namespace Go.Proofs.YtkkfdkfopdjomaaDoor
open Go Go.VG
set_option maxRecDepth 100000
def eFs (fs : List Pf) : List V := fs.map fun f => .iface 112 (ePf f)
theorem f_mfSize_1 (f : Pf) (hp : f.text.length ≤ 1000000000) : OK 106 ([ePf f]) ([]) (.int .i64 ((fldB f).length : Nat)) (none) := by
  refine funOK_of_vc (C := cx [(108, sm_pFSize)]) (good ⟨k_pFSize, trivial⟩) (fn := Tryd.f106) rfl rfl rfl rfl fun hw hs => ?_
  repeat' ((conv => whnf); first | with_reducible (first | refine go1 (fun j q h => ?_) fun h => ?_ | refine go2 ⟨rfl, rfl⟩ (fun h => ?_) fun j h => ?_ | refine go2 ?_ (fun h => ?_) fun j h => ?_ | refine goQ ?_ (fun h => ?_) fun h => ?_) | apply go3 | apply go4 | apply go5 | ((first | apply go6 | apply go7 | apply go8 | apply go9 | apply goA) <;> intro h) | with_reducible (first | refine IdxK.mk _ rfl ?_ | refine call_ite (fun h => ?_) fun h => ?_ | refine goB ?_ fun hc => ?_ | refine goC ?_ fun hc => ?_ | refine goD ?_ fun hc => ?_ | refine goE ?_ fun hc => ?_ | apply goF | apply goG | refine goH ?_ fun b hb => ?_) | apply goI | apply goJ | apply goK | apply goL | apply goM | apply goN | apply goO | with_reducible refine goP ?_)
  all_goals try conv => whnf
  all_goals try (refine Side.mk ?_; try dsimp only)
  · exact ⟨trivial, hp⟩
  · refine EndP.mk [] ?_ <;> (repeat' first | trivial | rfl | exact eqS _ _ | apply andI | apply eqA | apply eqB | apply eqC | apply eqD | apply eqE | apply eqF | apply eqG | apply eqH | apply eqI)
def sm_mfSize : Sm := fun args σ => match args, σ with
  | [.agg [.int .i64 n_f, .int .i64 w_f, .int .u64 u_f, .str t_f]], [] => some (True ∧ ((Pf.mk n_f w_f u_f t_f).text.length ≤ 1000000000), .int .i64 ((fldB (Pf.mk n_f w_f u_f t_f)).length : Nat), none)
  | _, _ => none
theorem k_mfSize : SOK 106 sm_mfSize := by
  intro args sg pre x r he hp
  unfold sm_mfSize at he
  split at he <;> cases he
  · rw [viewPf (hp).1]; exact f_mfSize_1 (hp := hp.2) ..
theorem f_miSize_1 (c : Bool) (no : Int) (l : List V) (m n : Int) (hp : 0 ≤ n ∧ n ≤ 1000000000) : OK 98 ([.agg [.int .i64 no, .int .i64 2, .box [.list c 1 l, .int .i64 m] 0, .int .i64 n]]) ([]) (.int .i64 (((tagB no 2).length + (vput n.toNat).length + n.toNat : Nat))) (none) := by
  refine funOK_of_vc (C := cx [(101, sm_pTagSize), (102, sm_vSize)]) (good ⟨k_pTagSize, k_vSize, trivial⟩) (fn := Tryd.f98) rfl rfl rfl rfl fun hw hs => ?_
  have ht := tagB_len no 2
  have h2 := size_len (u := n.toNat) (by omega)
  have h4 := vput_len (u := n.toNat) (by omega)
  have hw2 : IntKind.u64.wrap n = n := by rw [wu64]; omega
  repeat' ((conv => whnf); first | with_reducible (first | refine go1 (fun j q h => ?_) fun h => ?_ | refine go2 ⟨rfl, rfl⟩ (fun h => ?_) fun j h => ?_ | refine go2 ?_ (fun h => ?_) fun j h => ?_ | refine goQ ?_ (fun h => ?_) fun h => ?_) | apply go3 | apply go4 | apply go5 | ((first | apply go6 | apply go7 | apply go8 | apply go9 | apply goA) <;> intro h) | with_reducible (first | refine IdxK.mk _ rfl ?_ | refine call_ite (fun h => ?_) fun h => ?_ | refine goB ?_ fun hc => ?_ | refine goC ?_ fun hc => ?_ | refine goD ?_ fun hc => ?_ | refine goE ?_ fun hc => ?_ | apply goF | apply goG | refine goH ?_ fun b hb => ?_) | apply goI | apply goJ | apply goK | apply goL | apply goM | apply goN | apply goO | with_reducible refine goP ?_)
  all_goals try conv => whnf
  all_goals try (refine Side.mk ?_; try dsimp only)
  all_goals (try simp only [hw2, h2] at *)
  · omega
  · refine EndP.mk [] ?_ <;> (repeat' first | trivial | rfl | exact eqS _ _ | apply andI | apply eqA | apply eqB | apply eqC | apply eqD | apply eqE | apply eqF | apply eqG | apply eqH | apply eqI)
    have e1 : IntKind.i64.wrap (((tagB no 2).length : Int) + (vput n.toNat).length) = (tagB no 2).length + (vput n.toNat).length := by rw [wi64]; omega
    rw [e1, wi64]; omega
def sm_miSize : Sm := fun args σ => match args, σ with
  | [.agg [.int .i64 no, .int .i64 2, .box [.list c 1 l, .int .i64 m] 0, .int .i64 n]], [] => some (0 ≤ n ∧ n ≤ 1000000000, .int .i64 (((tagB no 2).length + (vput n.toNat).length + n.toNat : Nat)), none)
  | _, _ => none
theorem k_miSize : SOK 98 sm_miSize := by
  intro args sg pre x r he hp
  unfold sm_miSize at he
  split at he <;> cases he
  · exact f_miSize_1 (hp := hp) ..
def mtP (t : Nat) (n : String) (f : Nat) : Prop := (t, n, f) ∈ [(112, "truchman/pwrite.size", 106), (112, "truchman/pwrite.lay", 105), (97, "truchman/pwrite.size", 98), (97, "truchman/pwrite.lay", 97)]
theorem mt_fs (v : Value) (w : World) : (method (Tryd.prog.types.size + Made.depth) 112 v "truchman/pwrite.size").run Tryd.prog w = .ok (106, v) w := by kernel_rfl
theorem mt_fl (v : Value) (w : World) : (method (Tryd.prog.types.size + Made.depth) 112 v "truchman/pwrite.lay").run Tryd.prog w = .ok (105, v) w := by kernel_rfl
theorem mt_is (v : Value) (w : World) : (method (Tryd.prog.types.size + Made.depth) 97 v "truchman/pwrite.size").run Tryd.prog w = .ok (98, v) w := by kernel_rfl
theorem mt_il (v : Value) (w : World) : (method (Tryd.prog.types.size + Made.depth) 97 v "truchman/pwrite.lay").run Tryd.prog w = .ok (97, v) w := by kernel_rfl
noncomputable def cxz (l : List (Nat × Sm)) (h : List (Nat × List Pro)) : Ctx := ⟨Tryd.prog, tt, gl0, fun f => lkS l f, mtP, fun r => lkH h r, fun _ => false, fun _ _ _ _ => none, fun _ _ _ => none, fun _ => false, fun _ => none⟩
theorem goodz {l : List (Nat × Sm)} {h : List (Nat × List Pro)} (hk : OKs l) : GoodG (cxz l h) where
  ti := tt_ok
  mt := fun t m f hm v w => by
    have hm : (t, m, f) ∈ _ := hm
    simp only [List.mem_cons, Prod.mk.injEq, List.not_mem_nil, or_false] at hm
    rcases hm with ⟨rfl, rfl, rfl⟩ | ⟨rfl, rfl, rfl⟩ | ⟨rfl, rfl, rfl⟩ | ⟨rfl, rfl, rfl⟩
    · exact mt_fs v w
    · exact mt_fl v w
    · exact mt_is v w
    · exact mt_il v w
  hm := mayMixed
  gam := fun f args sg pre x r h' hp => lkS_ok hk args sg pre x r h' hp
  del := fun _ _ _ _ _ _ _ _ _ h' => by cases (no_pan h')
end Go.Proofs.YtkkfdkfopdjomaaDoor
