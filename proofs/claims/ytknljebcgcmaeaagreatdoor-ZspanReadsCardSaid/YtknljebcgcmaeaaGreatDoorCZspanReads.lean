/-
  Of any JSON's tree: the span and the service that the object at any place is read as, or what is wrong with it first, are told as was said: the law ZspanReads answers true for every text and place. No condition.
-/
import Derived.Test.YtknljebcgcmaeaaGreatDoorCards
import Derived.Test.YtknljebcgcmaeaaGreatDoorTie
import Derived.Test.YtknljebcgcmaeaaGreatDoorZX
import Derived.Test.YtknljebcgcmaeaaGreatDoorVgZC
import Derived.ProofKit
import Derived.OpenShut
import Derived.Deep.DeepHandedRow
set_option linter.unusedSimpArgs false
set_option linter.unusedVariables false
set_option maxHeartbeats 4000000
namespace Go.Proofs.YtknljebcgcmaeaaGreatDoor.zspanReads
open Go Go.VG Go.ChangeShapes Go.WideShapes Go.ChangeAt Go.RowKit
set_option maxRecDepth 100000
theorem Sv{H:Type} {ti:TypeId->TI} {t:TypeId} {d:DataW H} {x:V} {k:IntKind} (hk:(ti t).k=.int k) (h:IsD ti t d x):∃n,x=.int k n:=by
 obtain⟨f,hd⟩:=h;simp only[Option.bind_eq_some_iff] at hd;obtain⟨cs,h1,h2⟩:=hd;obtain⟨n,rfl⟩:=Ox hk h1;rw[hk] at h2;exact⟨n,(Option.some.inj h2).symm⟩
theorem S2{H:Type} {ds:List (DataW H)} {xs:List V} (h:n8 tt Tryz.f3.params.toList ds xs):eH Tryz.prog gE 3 xs [] (.bool true) none:=by
 rw[Tryz.params3] at h;obtain⟨d0,x0,ds0,xs0,rfl,rfl,hd0,h0⟩:=GX h;obtain⟨d1,x1,ds1,xs1,rfl,rfl,hd1,h1⟩:=GX h0;obtain⟨rfl,rfl⟩:=NW h1;obtain⟨s,rfl,rfl⟩:=Sw rfl hd0;obtain⟨n,rfl⟩:=Sv (k:=.i64) rfl hd1;exact RQ s n
theorem own:ownKnob Tryz.prog.godebug=none:=by kernel_rfl
theorem laidOut:laidOutB Tryz.prog=true:=by kernel_rfl
def s29:TypeId->Bool:=fun t=>match t with
 |3=>true
 |5=>true
 |9=>true
 |29=>true
 |_=>false
theorem O29:s8 Tryz.prog tt s29 where
 tys:=rP
 kids:=fun t h=>by
  unfold s29 at h;split at h<;>first|(cases h;done)|rfl
 pos:=fun t h=>by
  unfold s29 at h;split at h<;>first
   |(cases h;done)
   |exact .inl ⟨_,rfl,by decide⟩
   |(refine .inr (.inr (And.intro ?_ ?_))<;>(intro e hh;cases hh))
 fields:=fun t fs h k=>by
  unfold s29 at h;split at h<;>first
   |(cases h;done)
   |(cases k;rfl)
   |(cases k;done)
 array:=fun t m e h k=>by
  unfold s29 at h;split at h<;>first
   |(cases h;done)
   |(cases k;rfl)
   |(cases k;done)
theorem glOf:AX Tryz.prog tt s29 Rows.zspanReadsRow.laid gE:=by
 intro b cs h;unfold gE at h;split at h
 . cases h;exact⟨_,_,29,3,List.Mem.head _,rfl,by kernel_rfl,by kernel_rfl,rfl,rfl⟩
 . cases h
theorem OG(H:Type) (enc:TypeId×Value->H) (W:World) (base:Nat) (args:Array Value) (ds gs:List (DataW H)) (before:List MemPlace)
   (hval:∀(j:Nat) t v,Tryz.f3.params[j]?=some t->args[j]?=some v->Value.okWide Tryz.prog W .any base t v)
   (hW:DataW.Whole enc Tryz.prog Tryz.f3.params.toList Rows.zspanReadsSpec.vars false W args.toList ds gs before) (hL:laidMetH Tryz.prog Rows.zspanReadsRow.laid W):
   Calls Tryz.prog 3 args W fun e W'=>∃v,e=.returned v/\Rows.zspanReadsSpec.post enc Tryz.prog Tryz.f3 false true false false W args v W':=
 UX (bt:=4) O29 laidOut (fun t ht=>by
  rw[Tryz.params3] at ht;simp at ht;rcases ht with rfl|rfl
  all_goals exact⟨rfl,by kernel_rfl,by decide⟩) rfl rfl Tryz.underlying4 glOf hval hW hL (fun h=>by
  match ds,h with
  |[d0,d1],_=>rfl) fun xs h=>S2 h
noncomputable def CG(os:Os):World:=
 {World.holding Tryz.prog os ⟨#[],#[],[]⟩ with heap:=((World.holding Tryz.prog os ⟨#[],#[],[]⟩).heap.modify 1 fun
  |.cells _ t frozen=>.cells #[.int .u8 (56),.int .u8 (48),.int .u8 (40),.int .u8 (32),.int .u8 (24),.int .u8 (16),.int .u8 (8),.int .u8 (0)] t frozen
  |o=>o)}
def xE:Array Value:=#[.string ⟨#[]⟩,.int .i64 0]
theorem UW(os:Os):laidMet Tryz.prog Rows.zspanReadsRow.laid ((CG os).forCall (fun _ _=>0) ⟨#[],xE,[]⟩).memory:=
 laidMet_of_run' 8 (by kernel_rfl) (by kernel_rfl)
theorem reads(os:Os) {H:Type} (enc:TypeId×Value->H):∃places,DataW.whole enc Tryz.prog ((CG os).forCall (fun _ _=>0) ⟨#[],xE,[]⟩).memory Tryz.f3.params.toList Rows.zspanReadsSpec.vars false xE.toList 8=some ([.lit (.string []),.lit (.int .i64 0)],[],places):=
 ⟨[],by kernel_rfl⟩
theorem lifted(os:Os) (started:os.Started) (H:Type) (enc:TypeId×Value->H) (F:Stop.Interp):
   ReturnsInHanded {} Tryz.checked os 3 .any ((OpenSpec.ofChange Rows.zspanReadsSpec).preRow enc Tryz.prog Tryz.f3 Rows.zspanReadsRow.domain false Rows.zspanReadsRow.laid) (((OpenSpec.ofChange Rows.zspanReadsSpec).at F).post enc Tryz.prog Tryz.f3 false true false false):=by
 obtain⟨places,hx⟩:=reads os enc;refine returnsInHanded_of_row (C:=Tryz.checked) (s:=OpenSpec.ofChange Rows.zspanReadsSpec) own started (by kernel_rfl) Tryz.func3
  (witness_row_at (enc:=enc) (C:=Tryz.checked) false (CG os) xE rfl (by kernel_rfl) (by kernel_rfl) (by kernel_rfl)
   (OpenSpec.preRow_of_cond 8 hx (by kernel_rfl) (fun k hk=>by cases hk) (by kernel_rfl) (UW os))) ?_
 intro W base args ds gs before hval hW _ _ _ hL _ _;exact OG H enc W base args ds gs before hval hW hL
theorem said:Rows.ZspanReadsSaid:=
 OpenClaim.holds_of_cond 3 Tryz.f3 rfl rfl rfl rfl rfl rfl rfl ⟨rfl,rfl,rfl,rfl,rfl⟩ rfl rfl rfl rfl rfl (by kernel_rfl) Tryz.func3 (by kernel_rfl)
  (of_decide_eq_true (by kernel_rfl)) (by unfold Func.isWrapper;first|(rw[if_pos (by decide+kernel)];kernel_rfl)|(rw[if_neg (by decide+kernel)];exact⟨rfl,rfl⟩))
  (fun os started H enc _ F=>by rw[OpenClaim.pre_eq_preRow];exact lifted os started H enc F)
theorem plain(f:FuncId) (fn:Func) (hf:Tryz.pinned.checked.prog.funcNamed Rows.zspanReadsRow.func=some f) (hfn:Tryz.pinned.checked.prog.funcs[f]?=some fn):
   true=Tryz.pinned.checked.prog.looks []/\∀(j:Nat) t,fn.params[j]?=some t->Tryz.pinned.checked.prog.wantsStandIn t=false:=by
 obtain rfl:f=3:=Option.some.inj ((show Tryz.prog.funcNamed Rows.zspanReadsRow.func=some 3 by kernel_rfl).symm.trans hf)|>.symm;obtain rfl:fn=Tryz.f3:=(Option.some.inj (Tryz.func3.symm.trans hfn)).symm;refine⟨by kernel_rfl,fun j t ht=>?_⟩;rw[Tryz.params3] at ht;have ht:=Array.mem_of_getElem? ht;simp at ht;rcases ht with rfl|rfl
 . exact(show Tryz.prog.wantsStandIn 9=false by kernel_rfl)
 . exact(show Tryz.prog.wantsStandIn 3=false by kernel_rfl)
theorem card:Rows.ZspanReadsCardSaid:=
 Claim7.holds_tied_plain_at .later [] _ _ _ _ said (fun _ h=>by cases h) (by kernel_rfl) (fun _ h=>by cases h) zspanReads_row_tie rfl ⟨rfl,rfl⟩ (by kernel_rfl) rfl plain (by kernel_rfl)
end Go.Proofs.YtknljebcgcmaeaaGreatDoor.zspanReads
