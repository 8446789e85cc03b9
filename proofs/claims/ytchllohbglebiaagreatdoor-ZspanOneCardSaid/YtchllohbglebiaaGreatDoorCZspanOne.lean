/-
  What is read of any object of JSON is all kept, and comes back of its own object, with its service: the law ZspanOne answers true for every text. No condition.
-/
import Derived.Test.YtchllohbglebiaaGreatDoorCards
import Derived.Test.YtchllohbglebiaaGreatDoorTie
import Derived.Test.YtchllohbglebiaaGreatDoorZOi
import Derived.Test.YtchllohbglebiaaGreatDoorVgZ
import Derived.ProofKit
import Derived.OpenShut
import Derived.Deep.DeepHandedRow
set_option linter.unusedSimpArgs false
set_option linter.unusedVariables false
set_option maxHeartbeats 4000000
namespace Go.Proofs.YtchllohbglebiaaGreatDoor.zspanOne
open Go Go.VG Go.ChangeShapes Go.WideShapes Go.ChangeAt Go.RowKit
set_option maxRecDepth 100000
theorem SZ{H:Type} {ds:List (DataW H)} {xs:List V} (h:nM tt Tryz.f3.params.toList ds xs):eU Tryz.prog ib 3 xs [] (.bool true) none:=by
 rw[Tryz.params3] at h;obtain⟨d0,x0,ds0,xs0,rfl,rfl,hd0,h0⟩:=O9 h;obtain⟨rfl,rfl⟩:=Oa h0;obtain⟨s,rfl,rfl⟩:=Tu rfl hd0;exact SP s
theorem own:ownKnob Tryz.prog.godebug=none:=by kernel_rfl
theorem laidOut:laidOutB Tryz.prog=true:=by kernel_rfl
theorem glOf:BW Tryz.prog tt tw Rows.zspanOneRow.laid ib:=by
 intro b cs h;unfold ib at h;split at h
 . cases h;exact⟨_,_,29,3,List.Mem.head _,rfl,by kernel_rfl,by kernel_rfl,rfl,rfl⟩
 . cases h
theorem OY(H:Type) (enc:TypeId×Value->H) (W:World) (base:Nat) (args:Array Value) (ds gs:List (DataW H)) (before:List MemPlace)
   (hval:∀(j:Nat) t v,Tryz.f3.params[j]?=some t->args[j]?=some v->Value.okWide Tryz.prog W .any base t v)
   (hW:DataW.Whole enc Tryz.prog Tryz.f3.params.toList Rows.zspanOneSpec.vars false W args.toList ds gs before) (hL:laidMetH Tryz.prog Rows.zspanOneRow.laid W):
   Calls Tryz.prog 3 args W fun e W'=>∃v,e=.returned v/\Rows.zspanOneSpec.post enc Tryz.prog Tryz.f3 false true false false W args v W':=
 Vd (bt:=4) P1 laidOut (fun t ht=>by
  rw[Tryz.params3] at ht;simp at ht;subst ht;exact⟨rfl,by kernel_rfl,by decide⟩) rfl rfl Tryz.underlying4 glOf hval hW hL (fun h=>by
  match ds,h with
  |[d0],_=>rfl) fun xs h=>SZ h
noncomputable def Dn(os:Os):World:=
 {World.holding Tryz.prog os ⟨#[],#[],[]⟩ with heap:=((World.holding Tryz.prog os ⟨#[],#[],[]⟩).heap.modify 1 fun
  |.cells _ t frozen=>.cells #[.int .u8 (56),.int .u8 (48),.int .u8 (40),.int .u8 (32),.int .u8 (24),.int .u8 (16),.int .u8 (8),.int .u8 (0)] t frozen
  |o=>o)}
def ym:Array Value:=#[.string ⟨#[]⟩]
theorem Vc(os:Os):laidMet Tryz.prog Rows.zspanOneRow.laid ((Dn os).forCall (fun _ _=>0) ⟨#[],ym,[]⟩).memory:=
 laidMet_of_run' 8 (by kernel_rfl) (by kernel_rfl)
theorem reads(os:Os) {H:Type} (enc:TypeId×Value->H):∃places,DataW.whole enc Tryz.prog ((Dn os).forCall (fun _ _=>0) ⟨#[],ym,[]⟩).memory Tryz.f3.params.toList Rows.zspanOneSpec.vars false ym.toList 8=some ([.lit (.string [])],[],places):=
 ⟨[],by kernel_rfl⟩
theorem lifted(os:Os) (started:os.Started) (H:Type) (enc:TypeId×Value->H) (F:Stop.Interp):
   ReturnsInHanded {} Tryz.checked os 3 .any ((OpenSpec.ofChange Rows.zspanOneSpec).preRow enc Tryz.prog Tryz.f3 Rows.zspanOneRow.domain false Rows.zspanOneRow.laid) (((OpenSpec.ofChange Rows.zspanOneSpec).at F).post enc Tryz.prog Tryz.f3 false true false false):=by
 obtain⟨places,hx⟩:=reads os enc;refine returnsInHanded_of_row (C:=Tryz.checked) (s:=OpenSpec.ofChange Rows.zspanOneSpec) own started (by kernel_rfl) Tryz.func3
  (witness_row_at (enc:=enc) (C:=Tryz.checked) false (Dn os) ym rfl (by kernel_rfl) (by kernel_rfl) (by kernel_rfl)
   (OpenSpec.preRow_of_cond 8 hx (by kernel_rfl) (fun k hk=>by cases hk) (by kernel_rfl) (Vc os))) ?_
 intro W base args ds gs before hval hW _ _ _ hL _ _;exact OY H enc W base args ds gs before hval hW hL
theorem said:Rows.ZspanOneSaid:=
 OpenClaim.holds_of_cond 3 Tryz.f3 rfl rfl rfl rfl rfl rfl rfl ⟨rfl,rfl,rfl,rfl,rfl⟩ rfl rfl rfl rfl rfl (by kernel_rfl) Tryz.func3 (by kernel_rfl)
  (of_decide_eq_true (by kernel_rfl)) (by unfold Func.isWrapper;first|(rw[if_pos (by decide+kernel)];kernel_rfl)|(rw[if_neg (by decide+kernel)];exact⟨rfl,rfl⟩))
  (fun os started H enc _ F=>by rw[OpenClaim.pre_eq_preRow];exact lifted os started H enc F)
theorem plain(f:FuncId) (fn:Func) (hf:Tryz.pinned.checked.prog.funcNamed Rows.zspanOneRow.func=some f) (hfn:Tryz.pinned.checked.prog.funcs[f]?=some fn):
   true=Tryz.pinned.checked.prog.looks []/\∀(j:Nat) t,fn.params[j]?=some t->Tryz.pinned.checked.prog.wantsStandIn t=false:=by
 obtain rfl:f=3:=Option.some.inj ((show Tryz.prog.funcNamed Rows.zspanOneRow.func=some 3 by kernel_rfl).symm.trans hf)|>.symm;obtain rfl:fn=Tryz.f3:=(Option.some.inj (Tryz.func3.symm.trans hfn)).symm;refine⟨by kernel_rfl,fun j t ht=>?_⟩;rw[Tryz.params3] at ht;have ht:=Array.mem_of_getElem? ht;simp at ht;subst ht
 . exact(show Tryz.prog.wantsStandIn 9=false by kernel_rfl)
theorem card:Rows.ZspanOneCardSaid:=
 Claim7.holds_tied_plain_at .later [] _ _ _ _ said (fun _ h=>by cases h) (by kernel_rfl) (fun _ h=>by cases h) zspanOne_row_tie rfl ⟨rfl,rfl⟩ (by kernel_rfl) rfl plain (by kernel_rfl)
end Go.Proofs.YtchllohbglebiaaGreatDoor.zspanOne
