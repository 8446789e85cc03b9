/-
  A part of the proof.
-/
import Derived.Test.YtchllohbglebiaaGreatDoorUTFe
set_option linter.unusedSimpArgs false
set_option linter.unusedVariables false
set_option maxHeartbeats 4000000
set_option maxRecDepth 100000
namespace Go.Proofs.YtchllohbglebiaaGreatDoor
open Go Go.VG
structure Cu where
 s:gA
 p:Nat
 e:Nat
 c:Int
abbrev eC(c:Cu):List V:=[.str c.s,.int .i64 c.p,.int .i64 c.e,.int .i64 c.c]
theorem dJ{s:gA} {a e:Nat} {c:Int} (_:True):[V.str s,.int .i64 (.ofNat a),.int .i64 (.ofNat e),.int .i64 c]=eC ⟨s,a,e,c⟩:=rfl
@[simp] theorem aV(c:Cu):Cu.mk c.s c.p c.e c.c=c:=rfl
def Cu.ok(c:Cu):Prop:=c.p<=c.e/\c.e<=c.s.length
def Cu.fail(c:Cu) (k:Int):Cu:=if c.c=0 then{c with c:=k} else c
def Cu.get(c:Cu):UInt8:=c.s.getD c.p 0
def Cu.pass(c:Cu) (n:Int):Cu:=if c.c≠0 then c else if n<0 then{c with c:=13} else if n>c.e-c.p then{c with c:=1} else{c with p:=c.p+n.toNat}
def Cu.may(c:Cu) (n:Int):Bool:=decide (c.c=0/\0<=n/\n<=c.e-c.p)
def Cu.byte(c:Cu):Cu:=c.pass 1
def Cu.aw(c:Cu):UInt8:=if c.c=0/\c.p<c.e then c.get else 0
def Cu.new(s:gA):Cu:=⟨s,0,s.length,0⟩
def Cu.left(c:Cu):Int:=c.e-c.p
def Cu.fin(c:Cu):Int:=if c.c≠0 then c.c else if c.e>c.p then 2 else 0
theorem oz{c:Cu} (h:c.ok) (n:Int):(c.pass n).ok/\(c.pass n).s=c.s/\(c.pass n).e=c.e:=by
 obtain⟨h1,h2⟩:=h;unfold Cu.pass;repeat' split
 all_goals (refine⟨⟨?_,?_⟩,rfl,rfl⟩<;>(try dsimp only)<;>omega)
theorem iZ{c:Cu} (h:c.ok) (k:Int):(c.fail k).ok/\(c.fail k).s=c.s/\(c.fail k).e=c.e/\(c.fail k).p=c.p:=by
 unfold Cu.fail;split<;>exact⟨h,rfl,rfl,rfl⟩
theorem PO(s:gA) (hp:True):OK 11 ([.str s]) ([]) (.ptr 0 0) (some [.cells (eC (.new s))]):=by
 refine aq (C:=cx []) (ar trivial) (fn:=Tryz.f11) fun hw hs=>?_;all_goals try conv=>whnf
 all_goals try(refine ae.mk ?_;try dsimp only)
 all_goals try refine stay ?_
 refine ab.mk [] ?_<;>(repeat' first|trivial)
def AH:Sm:=fun args σ=>match args,σ with
 |[.str s],[]=>some (True,.ptr 0 0,some [.cells (eC (.new s))])
 |_,_=>none
theorem JK:ax 11 AH:=by
 intro args sg pre x r he hp;unfold AH at he;split at he<;>cases he
 . exact PO (hp:=hp) ..
theorem PL(c:Cu) (hp:True):OK 41 ([.ptr 0 0]) ([.cells (eC c)]) (.int .i64 c.c) (none):=by
 refine aq (C:=cx []) (ar trivial) (fn:=Tryz.f41) fun hw hs=>?_;all_goals try conv=>whnf
 all_goals try(refine ae.mk ?_;try dsimp only)
 all_goals try refine stay ?_
 refine ab.mk [] ?_<;>(repeat' first|trivial)
def mV:Sm:=fun args σ=>match args,σ with
 |[.ptr 0 0],[.cells ([.str s_c,.int .i64 (.ofNat a_c),.int .i64 (.ofNat e_c),.int .i64 c_c])]=>some (True/\(True),.int .i64 (Cu.mk s_c a_c e_c c_c).c,none)
 |_,_=>none
theorem oh:ax 41 mV:=by
 intro args sg pre x r he hp;unfold mV at he;split at he<;>cases he
 . rw[dJ (hp).1];exact PL (hp:=hp.2) ..
theorem PN(c:Cu) (hp:c.ok):OK 186 ([.ptr 0 0]) ([.cells (eC c)]) (.int .i64 c.left) (none):=by
 refine aq (C:=cx []) (ar trivial) (fn:=Tryz.f186) fun hw hs=>?_;obtain⟨h1,h2⟩:=hp;have hb:c.s.length<=9223372036854775807:=hs.1.1;all_goals try conv=>whnf
 all_goals try(refine ae.mk ?_;try dsimp only)
 all_goals try refine stay ?_
 refine ab.mk [] ?_<;>(repeat' first|trivial|apply ah|apply aN)
 unfold Cu.left;(simp(discharger:=omega) only[wR];omega)
def AG:Sm:=fun args σ=>match args,σ with
 |[.ptr 0 0],[.cells ([.str s_c,.int .i64 (.ofNat a_c),.int .i64 (.ofNat e_c),.int .i64 c_c])]=>some (True/\((Cu.mk s_c a_c e_c c_c).ok),.int .i64 (Cu.mk s_c a_c e_c c_c).left,none)
 |_,_=>none
theorem JJ:ax 186 AG:=by
 intro args sg pre x r he hp;unfold AG at he;split at he<;>cases he
 . rw[dJ (hp).1];exact PN (hp:=hp.2) ..
theorem PK(c:Cu) (hp:c.ok):OK 155 ([.ptr 0 0]) ([.cells (eC c)]) (.int .i64 c.fin) (none):=by
 refine aq (C:=cx [(41,mV),(186,AG)]) (ar ⟨oh,JJ,trivial⟩) (fn:=Tryz.f155) fun hw hs=>?_;repeat'((conv=>whnf);first|with_reducible (first|refine go1 (fun j q h=>?_) fun h=>?_|refine go2 ⟨rfl,rfl⟩ (fun h=>?_) fun j h=>?_|refine go2 ?_ (fun h=>?_) fun j h=>?_|refine cM ?_ (fun h=>?_) fun h=>?_)|apply af|apply fE|apply aK|((first|apply av|apply go7|apply go8|apply gI|apply fF)<;>intro h)|with_reducible (first|refine iB.mk _ rfl ?_|refine goB ?_ fun hc=>?_|refine goC ?_ fun hc=>?_|refine fG ?_ fun hc=>?_|refine lG ?_ fun hc=>?_|apply lZ|apply kH|refine qn ?_ fun b hb=>?_)|apply oc|apply goJ|apply goK|apply goL|apply goM|apply goN|apply goO|with_reducible refine goP ?_)
 all_goals try conv=>whnf
 all_goals try(refine ae.mk ?_;try dsimp only)
 all_goals (try simp only[aV] at*)
 all_goals first|refine stay ?_|trivial|omega|(simp(discharger:=omega) only[wR];omega)|(simp only[fi];omega)|(simp(discharger:=omega) [-List.getD_eq_getElem?_getD,wR]<;>omega)|skip
 all_goals first
  |exact⟨trivial,hp⟩
  |skip
 all_goals (try simp only[aV] at*)
 all_goals
  have he:c.left=(c.e:Int)-c.p:=rfl;unfold Cu.fin
  repeat (first|rw[if_pos (by first|assumption|omega)]|rw[if_neg (by first|assumption|omega)])
  refine ab.mk [] ?_<;>(repeat' first|trivial|rfl|exact eqS _ _|apply ah|apply eF|apply aN|apply mE|apply bc|apply jI|apply nj|apply jW|apply nX|apply cT)
def EP:Sm:=fun args σ=>match args,σ with
 |[.ptr 0 0],[.cells ([.str s_c,.int .i64 (.ofNat a_c),.int .i64 (.ofNat e_c),.int .i64 c_c])]=>some (True/\((Cu.mk s_c a_c e_c c_c).ok),.int .i64 (Cu.mk s_c a_c e_c c_c).fin,none)
 |_,_=>none
theorem TF:ax 155 EP:=by
 intro args sg pre x r he hp;unfold EP at he;split at he<;>cases he
 . rw[dJ (hp).1];exact PK (hp:=hp.2) ..
theorem PS(c:Cu) (hp:c.ok):OK 83 ([.ptr 0 0]) ([.cells (eC c)]) (.tuple [bv c.aw,.bool (decide (c.c=0/\c.p<c.e))]) (none):=by
 refine aq (C:=cx []) (ar trivial) (fn:=Tryz.f83) fun hw hs=>?_;obtain⟨h1,h2⟩:=hp;repeat'((conv=>whnf);first|apply af|apply aK|(apply av<;>intro h)|with_reducible refine fG ?_ fun hc=>?_)
 all_goals try conv=>whnf
 all_goals try(refine ae.mk ?_;try dsimp only)
 all_goals first|refine stay ?_|omega|skip
 all_goals
  unfold Cu.aw;first|rw[if_pos (by omega)]|rw[if_neg (by omega)]
  refine ab.mk [] ?_<;>(repeat' first|trivial|apply ah|apply mE|apply nX|apply cT)
  all_goals simp;omega
def qT:Sm:=fun args σ=>match args,σ with
 |[.ptr 0 0],[.cells ([.str s_c,.int .i64 (.ofNat a_c),.int .i64 (.ofNat e_c),.int .i64 c_c])]=>some (True/\((Cu.mk s_c a_c e_c c_c).ok),.tuple [bv (Cu.mk s_c a_c e_c c_c).aw,.bool (decide ((Cu.mk s_c a_c e_c c_c).c=0/\(Cu.mk s_c a_c e_c c_c).p<(Cu.mk s_c a_c e_c c_c).e))],none)
 |_,_=>none
theorem uf:ax 83 qT:=by
 intro args sg pre x r he hp;unfold qT at he;split at he<;>cases he
 . rw[dJ (hp).1];exact PS (hp:=hp.2) ..
theorem PM(c:Cu) (k:Int) (hp:True):OK 91 ([.ptr 0 0,.int .i64 k]) ([.cells (eC c)]) (.tuple []) (some [.cells (eC (c.fail k))]):=by
 refine aq (C:=cx []) (ar trivial) (fn:=Tryz.f91) fun hw hs=>?_;repeat'((conv=>whnf);(apply av<;>intro h))
 all_goals try conv=>whnf
 all_goals try(refine ae.mk ?_;try dsimp only)
 all_goals try refine stay ?_
 all_goals
  unfold Cu.fail;first|rw[if_pos (by assumption)]|rw[if_neg (by assumption)]
  refine ab.mk [] ?_<;>(repeat' first|trivial)
def nE:Sm:=fun args σ=>match args,σ with
 |[.ptr 0 0,.int .i64 k],[.cells ([.str s_c,.int .i64 (.ofNat a_c),.int .i64 (.ofNat e_c),.int .i64 c_c])]=>some (True/\(True),.tuple [],some [.cells (eC ((Cu.mk s_c a_c e_c c_c).fail k))])
 |_,_=>none
theorem p9:ax 91 nE:=by
 intro args sg pre x r he hp;unfold nE at he;split at he<;>cases he
 . rw[dJ (hp).1];exact PM (hp:=hp.2) ..
theorem PR(c:Cu) (n:Int) (hp:c.ok):OK 125 ([.ptr 0 0,.int .i64 n]) ([.cells (eC c)]) (.tuple [.int .i64 (if c.may n=true then(c.p:Int) else 0),.bool (c.may n)]) (some [.cells (eC (c.pass n))]):=by
 refine aq (C:=cx []) (ar trivial) (fn:=Tryz.f125) fun hw hs=>?_;obtain⟨h1,h2⟩:=hp;have hb:c.s.length<=9223372036854775807:=hs.1.1;repeat'((conv=>whnf);first|apply aK|(apply av<;>intro h))
 all_goals try conv=>whnf
 all_goals try(refine ae.mk ?_;try dsimp only)
 all_goals try refine stay ?_
 all_goals (try rw[show IntKind.i64.wrap (↑c.e-↑c.p) =(c.e:Int)-c.p by(simp(discharger:=omega) only[wR];omega)] at*)
 all_goals
  have hm:c.may n=decide (c.c=0/\0<=n/\n<=c.e-c.p):=rfl;first
  |rw[decide_eq_true (by omega)] at hm
  |rw[decide_eq_false (by omega)] at hm
  rw[hm];unfold Cu.pass
  repeat (first|rw[if_pos (by first|rfl|assumption|omega)]|rw[if_neg (by first|exact Bool.false_ne_true|assumption|omega)])
  refine ab.mk [] ?_<;>(repeat' first|trivial|apply ah|apply aN|apply jI|apply cT)
 show IntKind.i64.wrap (c.p+n) =((c.p+n.toNat:Nat):Int)
 (simp(discharger:=omega) only[wR];omega)
def ER:Sm:=fun args σ=>match args,σ with
 |[.ptr 0 0,.int .i64 n],[.cells ([.str s_c,.int .i64 (.ofNat a_c),.int .i64 (.ofNat e_c),.int .i64 c_c])]=>some (True/\((Cu.mk s_c a_c e_c c_c).ok),.tuple [.int .i64 (if(Cu.mk s_c a_c e_c c_c).may n=true then((Cu.mk s_c a_c e_c c_c).p:Int) else 0),.bool ((Cu.mk s_c a_c e_c c_c).may n)],some [.cells (eC ((Cu.mk s_c a_c e_c c_c).pass n))])
 |_,_=>none
theorem TG:ax 125 ER:=by
 intro args sg pre x r he hp;unfold ER at he;split at he<;>cases he
 . rw[dJ (hp).1];exact PR (hp:=hp.2) ..
theorem PI(c:Cu) (n:Int) (x:V) (hp:0<=n/\n<c.s.length):OK 126 ([.int .i64 n,.ptr 0 0,.ptr 1 0]) ([.cells [.ptr 2 0],.cells [x],.cells (eC c)]) (.tuple []) (some [.cells [.ptr 2 0],.cells [bv (c.s.getD n.toNat 0)],.cells (eC c)]):=by
 refine aq (C:=cx []) (ar trivial) (fn:=Tryz.f126) fun hw hs=>?_;repeat'((conv=>whnf);first|apply af|with_reducible refine lG ?_ fun hc=>?_)
 all_goals try conv=>whnf
 all_goals try(refine ae.mk ?_;try dsimp only)
 all_goals first|refine stay ?_|omega|skip
 refine ab.mk [] ?_<;>(repeat' first|trivial)
def EO:Sm:=fun args σ=>match args,σ with
 |[.int .i64 n,.ptr 0 0,.ptr 1 0],[.cells [.ptr 2 0],.cells [x],.cells ([.str s_c,.int .i64 (.ofNat a_c),.int .i64 (.ofNat e_c),.int .i64 c_c])]=>some (True/\(0<=n/\n<(Cu.mk s_c a_c e_c c_c).s.length),.tuple [],some [.cells [.ptr 2 0],.cells [bv ((Cu.mk s_c a_c e_c c_c).s.getD n.toNat 0)],.cells (eC (Cu.mk s_c a_c e_c c_c))])
 |_,_=>none
theorem TE:ax 126 EO:=by
 intro args sg pre x r he hp;unfold EO at he;split at he<;>cases he
 . rw[dJ (hp).1];exact PI (hp:=hp.2) ..
theorem PQ(c:Cu) (n:Int) (x:Int) (hp:c.ok/\n=1/\x=0):OK 124 ([.func (.func 125) [.ptr 0 0] [],.int .i64 n,.func (.func 126) [] [.ptr 1 0,.ptr 2 0]]) ([.cells (eC c),.cells [.ptr 0 0],.cells [.int .u8 x]]) (.tuple []) (some [.cells (eC c.byte),.cells [.ptr 0 0],.cells [bv c.aw]]):=by
 refine aq (C:=cx [(125,ER),(126,EO)]) (ar ⟨TG,TE,trivial⟩) (fn:=Tryz.f124) fun hw hs=>?_;obtain⟨hp,rfl,rfl⟩:=hp;have h1:=hp.1;have h2:=hp.2;have hq:=oz hp 1;repeat'((conv=>whnf);first|apply af|(apply av<;>intro h))
 all_goals try conv=>whnf
 all_goals try(refine ae.mk ?_;try dsimp only)
 all_goals (try simp only[aV] at*)
 all_goals first|refine stay ?_|trivial|skip
 . have hm:c.may 1=true:=decide_eq_true (by assumption);rw[hm,if_pos rfl,hq.2.1];exact⟨trivial,by omega,by omega⟩
 . have hm:c.may 1=true:=decide_eq_true (by assumption);refine ab.mk [] ?_<;>(repeat' first|trivial|apply ah|apply aN|apply jI|apply cT)
   rw[hm,if_pos rfl,hq.2.1];unfold Cu.aw;rw[if_pos (by omega)];rfl
 . refine ab.mk [] ?_<;>(repeat' first|trivial|apply ah|apply aN|apply jI|apply cT)
   unfold Cu.aw;rw[if_neg (by omega)];rfl
def ES:Sm:=fun args σ=>match args,σ with
 |[.func (.func 125) [.ptr 0 0] [],.int .i64 n,.func (.func 126) [] [.ptr 1 0,.ptr 2 0]],[.cells ([.str s_c,.int .i64 (.ofNat a_c),.int .i64 (.ofNat e_c),.int .i64 c_c]),.cells [.ptr 0 0],.cells [.int .u8 x]]=>some (True/\((Cu.mk s_c a_c e_c c_c).ok/\n=1/\x=0),.tuple [],some [.cells (eC (Cu.mk s_c a_c e_c c_c).byte),.cells [.ptr 0 0],.cells [bv (Cu.mk s_c a_c e_c c_c).aw]])
 |_,_=>none
theorem TH:ax 124 ES:=by
 intro args sg pre x r he hp;unfold ES at he;split at he<;>cases he
 . rw[dJ (hp).1];exact PQ (hp:=hp.2) ..
theorem PJ(c:Cu) (hp:c.ok):OK 85 ([.ptr 0 0]) ([.cells (eC c)]) (bv c.aw) (some [.cells (eC c.byte)]):=by
 refine aq (C:=cx [(124,ES)]) (ar ⟨TH,trivial⟩) (fn:=Tryz.f85) fun hw hs=>?_;repeat'((conv=>whnf);apply af)
 all_goals try conv=>whnf
 all_goals try(refine ae.mk ?_;try dsimp only)
 all_goals (try simp only[aV] at*)
 all_goals first|refine stay ?_|trivial|skip
 refine ab.mk [] ?_<;>(repeat' first|trivial)
def mU:Sm:=fun args σ=>match args,σ with
 |[.ptr 0 0],[.cells ([.str s_c,.int .i64 (.ofNat a_c),.int .i64 (.ofNat e_c),.int .i64 c_c])]=>some (True/\((Cu.mk s_c a_c e_c c_c).ok),bv (Cu.mk s_c a_c e_c c_c).aw,some [.cells (eC (Cu.mk s_c a_c e_c c_c).byte)])
 |_,_=>none
theorem og:ax 85 mU:=by
 intro args sg pre x r he hp;unfold mU at he;split at he<;>cases he
 . rw[dJ (hp).1];exact PJ (hp:=hp.2) ..
theorem Se(s:gA) (i:Nat) (hp:s.length<=100000000):OK 183 ([.str s,.int .i64 i]) ([]) (.tuple [.int .i32 (bW s i).1,.int .i64 (bW s i).2]) (none):=by
 rw[<-oB];exact Sd s i hp
def FV:Sm:=fun args σ=>match args,σ with
 |[.str s,.int .i64 (.ofNat i)],[]=>some (s.length<=100000000,.tuple [.int .i32 (bW s i).1,.int .i64 (bW s i).2],none)
 |_,_=>none
theorem UH:ax 183 FV:=by
 intro args sg pre x r he hp;unfold FV at he;split at he<;>cases he
 . exact Se (hp:=hp) ..
theorem S3(s:gA) (hp:s.length<=60000000):OK 152 ([.str s]) ([]) (.int .i64 (oJ s)) (none):=by
 refine aq (C:=cx [(183,FV)]) (ar ⟨UH,trivial⟩) (fn:=Tryz.f152) fun hw hs=>?_;refine aZ.mk (Nat×Nat) (fun|(i,c) =>i<=s.length/\c<=i/\mf s i c=mf s 0 0)
  (fun|(i,_) =>⟨22,[(3,.int .i64 i),(0,.str s)],[],[]⟩) (fun x=>s.length-x.1) [] (0,0) ⟨by omega,by omega,rfl⟩ ?_ (fun⟨i,c⟩ ⟨hi,hc,he⟩ _ _=>?_)
 . apply ay<;>(repeat' first|trivial)
 have hr:=BF s i;repeat'((conv=>whnf);first|apply af|(apply av<;>intro h))
 all_goals try conv=>whnf
 all_goals try(refine ae.mk ?_;try dsimp only)
 all_goals first|refine stay ?_|omega|skip
 . rw[mf,if_neg (by omega),dif_pos (by omega)] at he;unfold oJ;rw[<-he,if_neg (by simp only;omega)];refine ab.mk [] ?_<;>(repeat' first|trivial)
 . rw[mf,if_neg (by omega),dif_neg (by omega)] at he;refine⟨[],(i+(bW s i).2,c+1),⟨by omega,by omega,he⟩,?_,by omega⟩;apply ay<;>(repeat' first|trivial|apply ah|apply aN)
   all_goals (simp(discharger:=omega) only[wR];omega)
 . rw[mf,if_pos (by omega)] at he;unfold oJ;rw[<-he,if_pos (by simp only;omega)];refine ab.mk [] ?_<;>(repeat' first|trivial)
def FQ:Sm:=fun args σ=>match args,σ with
 |[.str s],[]=>some (s.length<=60000000,.int .i64 (oJ s),none)
 |_,_=>none
theorem UD:ax 152 FQ:=by
 intro args sg pre x r he hp;unfold FQ at he;split at he<;>cases he
 . exact S3 (hp:=hp) ..
def l6(r:Int):Int:=if r<128 then 1 else if r<2048 then 2 else if r<65536 then 3 else 4
def uO(r n:Int):Sm:=fun args σ=>some (args=[.int .i32 r]/\σ=[]/\l6 r=n,.int .i64 n,none)
theorem zk(r n:Int):ax 182 (uO r n):=by
 intro args sg pre x rr he hp;unfold uO at he;cases he;obtain⟨rfl,rfl,rfl⟩:=hp;refine aq (C:=cx []) (ar trivial) (fn:=Tryz.f182) fun hw hs=>?_;repeat'((conv=>whnf);(apply av<;>intro h))
 all_goals try conv=>whnf
 all_goals try(refine ae.mk ?_;try dsimp only)
 all_goals try refine stay ?_
 all_goals
  unfold l6
  repeat (first|rw[if_pos (by omega)]|rw[if_neg (by omega)])
  refine ab.mk [] ?_<;>(repeat' first|trivial)
theorem A6(a b j:Nat) (ha:a*2^j+b<256) (hb:b<2^j):lH .u8 ((a*2^j:Nat):Int) (b:Int) =((a*2^j+b:Nat):Int):=by
 show IntKind.u8.wrap ((BitVec.ofInt 8 ((a*2^j:Nat):Int)|||BitVec.ofInt 8 (b:Int)).toNat:Int) =_;rw[BitVec.ofInt_natCast,BitVec.ofInt_natCast,BitVec.toNat_or,BitVec.toNat_ofNat,BitVec.toNat_ofNat,Nat.mod_eq_of_lt (by omega),Nat.mod_eq_of_lt (by omega),DW a b j hb];rw[sS];omega
theorem Wm(b:Nat) (h:b<64):lH .u8 128 b=((128+b:Nat):Int):=A6 2 b 6 (by omega) (by omega)
theorem Wn(b:Nat) (h:b<32):lH .u8 192 b=((192+b:Nat):Int):=A6 6 b 5 (by omega) (by omega)
theorem Wo(b:Nat) (h:b<16):lH .u8 224 b=((224+b:Nat):Int):=A6 14 b 4 (by omega) (by omega)
theorem Wp(b:Nat) (h:b<8):lH .u8 240 b=((240+b:Nat):Int):=A6 30 b 3 (by omega) (by omega)
theorem copy_eq(l:List V):List.take (List.replicate (l.length:Int).toNat (V.int .u8 0)).length l++List.drop l.length (List.replicate (l.length:Int).toNat (V.int .u8 0)) =l:=by simp
theorem a63(x:Nat):lH .u8 128 (qu .u8 (IntKind.u8.wrap x) 63) =((128+x%64:Nat):Int):=by
 rw[sS,show((x:Int)%256) =((x%256:Nat):Int) by omega,H6 _ (by omega),show x%256%64=x%64 by omega];exact Wm _ (by omega)
theorem s6(r:Nat):m9 .i32 r 6=((r/64:Nat):Int):=zd .i32 r 6
theorem s12(r:Nat):m9 .i32 r 12=((r/4096:Nat):Int):=zd .i32 r 12
theorem s18(r:Nat):m9 .i32 r 18=((r/262144:Nat):Int):=zd .i32 r 18
theorem zF(r:Nat) (h:r<2048):lH .u8 (m6 .u8 240 (IntKind.i64.wrap (4-2))) (IntKind.u8.wrap (m9 .i32 r (IntKind.i64.wrap (6*IntKind.i64.wrap (2-1))))) =((192+r/64:Nat):Int):=by
 rw[show m6 .u8 240 (IntKind.i64.wrap (4-2)) =192 by decide,show IntKind.i64.wrap (6*IntKind.i64.wrap (2-1)) =6 by decide,s6,BI _ (by show((r/64:Nat):Int)<=255;omega)];exact Wn _ (by omega)
theorem zG(r:Nat) (h:r<65536):lH .u8 (m6 .u8 240 (IntKind.i64.wrap (4-3))) (IntKind.u8.wrap (m9 .i32 r (IntKind.i64.wrap (6*IntKind.i64.wrap (3-1))))) =((224+r/4096:Nat):Int):=by
 rw[show m6 .u8 240 (IntKind.i64.wrap (4-3)) =224 by decide,show IntKind.i64.wrap (6*IntKind.i64.wrap (3-1)) =12 by decide,s12,BI _ (by show((r/4096:Nat):Int)<=255;omega)];exact Wo _ (by omega)
theorem zH(r:Nat) (h:r<1114112):lH .u8 (m6 .u8 240 (IntKind.i64.wrap (4-4))) (IntKind.u8.wrap (m9 .i32 r (IntKind.i64.wrap (6*IntKind.i64.wrap (4-1))))) =((240+r/262144:Nat):Int):=by
 rw[show m6 .u8 240 (IntKind.i64.wrap (4-4)) =240 by decide,show IntKind.i64.wrap (6*IntKind.i64.wrap (4-1)) =18 by decide,s18,BI _ (by show((r/262144:Nat):Int)<=255;omega)];exact Wp _ (by omega)
theorem yo(x:Int) (h:0<=x/\x<=255) (s:gA):bl (byte x::s) =V.int .u8 x::bl s:=by simp only[bl,bv,eO h]
theorem S7(l:List V) (r:Nat) (hu:fJ r=true) (hn:l6 r=1) (hl:l.length<=3000000000):OK 149 [.buf 0,.int .i32 r] [.buf 1 0 l] (.buf 0) (some [.buf 1 0 (l++bl (cN r))]):=by
 refine aq (C:=cx [(181,sJ),(182,uO r 1)]) (ar ⟨wP,zk r 1,trivial⟩) (fn:=Tryz.f149) fun hw hs=>?_;repeat'((conv=>whnf);first|apply af|apply aK|(apply av<;>intro h))
 all_goals try conv=>whnf
 all_goals try(refine ae.mk ?_;try dsimp only)
 all_goals first|refine stay ?_|trivial|(simp(discharger:=omega) only[wR];omega)|(simp(discharger:=omega) [-List.getD_eq_getElem?_getD,wR]<;>omega)|skip
 . have hb:=(l5 _).1 hu;have hr:(1=1/\r<128)\/(1=2/\128<=r/\r<2048)\/(1=3/\2048<=r/\r<65536)\/(1=4/\65536<=r/\r<1114112):=by
    unfold l6 at hn;repeat' split at hn
    all_goals omega
   refine ab.mk [.swap 0 1] ?_<;>(repeat' first|trivial|apply ah|apply bc)
   rw[copy_eq];try rw[zF r (by omega)]
   try rw[zG r (by omega)]
   try rw[zH r (by omega)]
   try simp only[s6,s12,a63]
   unfold cN
   repeat (first|rw[if_pos (by omega)]|rw[if_neg (by omega)])
   repeat rw[yo _ (by omega)]
   try simp only[eg,List.cons_append,List.nil_append]
   repeat'(first|rfl|refine congrArg (l++·) ?_|refine yE ?_ ?_|refine congrArg (V.int .u8) ?_)
   all_goals (simp(discharger:=omega) only[wR];omega)
 . exact absurd ((l5 _).1 hu) (by assumption)
theorem S8(l:List V) (r:Nat) (hu:fJ r=true) (hn:l6 r=2) (hl:l.length<=3000000000):OK 149 [.buf 0,.int .i32 r] [.buf 1 0 l] (.buf 0) (some [.buf 1 0 (l++bl (cN r))]):=by
 refine aq (C:=cx [(181,sJ),(182,uO r 2)]) (ar ⟨wP,zk r 2,trivial⟩) (fn:=Tryz.f149) fun hw hs=>?_;repeat'((conv=>whnf);first|apply af|apply aK|(apply av<;>intro h))
 all_goals try conv=>whnf
 all_goals try(refine ae.mk ?_;try dsimp only)
 all_goals first|refine stay ?_|trivial|(simp(discharger:=omega) only[wR];omega)|(simp(discharger:=omega) [-List.getD_eq_getElem?_getD,wR]<;>omega)|skip
 . have hb:=(l5 _).1 hu;have hr:(2=1/\r<128)\/(2=2/\128<=r/\r<2048)\/(2=3/\2048<=r/\r<65536)\/(2=4/\65536<=r/\r<1114112):=by
    unfold l6 at hn;repeat' split at hn
    all_goals omega
   refine ab.mk [.swap 0 1] ?_<;>(repeat' first|trivial|apply ah|apply bc)
   rw[copy_eq];try rw[zF r (by omega)]
   try rw[zG r (by omega)]
   try rw[zH r (by omega)]
   try simp only[s6,s12,a63]
   unfold cN
   repeat (first|rw[if_pos (by omega)]|rw[if_neg (by omega)])
   repeat rw[yo _ (by omega)]
   try simp only[eg,List.cons_append,List.nil_append]
   repeat'(first|rfl|refine congrArg (l++·) ?_|refine yE ?_ ?_|refine congrArg (V.int .u8) ?_)
   all_goals omega
 . exact absurd ((l5 _).1 hu) (by assumption)
theorem S9(l:List V) (r:Nat) (hu:fJ r=true) (hn:l6 r=3) (hl:l.length<=3000000000):OK 149 [.buf 0,.int .i32 r] [.buf 1 0 l] (.buf 0) (some [.buf 1 0 (l++bl (cN r))]):=by
 refine aq (C:=cx [(181,sJ),(182,uO r 3)]) (ar ⟨wP,zk r 3,trivial⟩) (fn:=Tryz.f149) fun hw hs=>?_;repeat'((conv=>whnf);first|apply af|apply aK|(apply av<;>intro h))
 all_goals try conv=>whnf
 all_goals try(refine ae.mk ?_;try dsimp only)
 all_goals first|refine stay ?_|trivial|(simp(discharger:=omega) only[wR];omega)|(simp(discharger:=omega) [-List.getD_eq_getElem?_getD,wR]<;>omega)|skip
 . have hb:=(l5 _).1 hu;have hr:(3=1/\r<128)\/(3=2/\128<=r/\r<2048)\/(3=3/\2048<=r/\r<65536)\/(3=4/\65536<=r/\r<1114112):=by
    unfold l6 at hn;repeat' split at hn
    all_goals omega
   refine ab.mk [.swap 0 1] ?_<;>(repeat' first|trivial|apply ah|apply bc)
   rw[copy_eq];try rw[zF r (by omega)]
   try rw[zG r (by omega)]
   try rw[zH r (by omega)]
   try simp only[s6,s12,a63]
   unfold cN
   repeat (first|rw[if_pos (by omega)]|rw[if_neg (by omega)])
   repeat rw[yo _ (by omega)]
   try simp only[eg,List.cons_append,List.nil_append]
   repeat'(first|rfl|refine congrArg (l++·) ?_|refine yE ?_ ?_|refine congrArg (V.int .u8) ?_)
   all_goals omega
 . exact absurd ((l5 _).1 hu) (by assumption)
theorem Sa(l:List V) (r:Nat) (hu:fJ r=true) (hn:l6 r=4) (hl:l.length<=3000000000):OK 149 [.buf 0,.int .i32 r] [.buf 1 0 l] (.buf 0) (some [.buf 1 0 (l++bl (cN r))]):=by
 refine aq (C:=cx [(181,sJ),(182,uO r 4)]) (ar ⟨wP,zk r 4,trivial⟩) (fn:=Tryz.f149) fun hw hs=>?_;repeat'((conv=>whnf);first|apply af|apply aK|(apply av<;>intro h))
 all_goals try conv=>whnf
 all_goals try(refine ae.mk ?_;try dsimp only)
 all_goals first|refine stay ?_|trivial|(simp(discharger:=omega) only[wR];omega)|(simp(discharger:=omega) [-List.getD_eq_getElem?_getD,wR]<;>omega)|skip
 . have hb:=(l5 _).1 hu;have hr:(4=1/\r<128)\/(4=2/\128<=r/\r<2048)\/(4=3/\2048<=r/\r<65536)\/(4=4/\65536<=r/\r<1114112):=by
    unfold l6 at hn;repeat' split at hn
    all_goals omega
   refine ab.mk [.swap 0 1] ?_<;>(repeat' first|trivial|apply ah|apply bc)
   rw[copy_eq];try rw[zF r (by omega)]
   try rw[zG r (by omega)]
   try rw[zH r (by omega)]
   try simp only[s6,s12,a63]
   unfold cN
   repeat (first|rw[if_pos (by omega)]|rw[if_neg (by omega)])
   repeat rw[yo _ (by omega)]
   try simp only[eg,List.cons_append,List.nil_append]
   repeat'(first|rfl|refine congrArg (l++·) ?_|refine yE ?_ ?_|refine congrArg (V.int .u8) ?_)
   all_goals omega
 . exact absurd ((l5 _).1 hu) (by assumption)
theorem Sb(l:List V) (r:Int) (hp:fJ r=true/\l.length<=3000000000):OK 149 ([.buf 0,.int .i32 r]) ([.buf 1 0 l]) (.buf 0) (some [.buf 1 0 (l++bl (cN r))]):=by
 obtain⟨hu,hl⟩:=hp;obtain⟨n,rfl⟩:=Int.eq_ofNat_of_zero_le ((l5 _).1 hu).1;have:l6 n=1\/l6 n=2\/l6 n=3\/l6 n=4:=by
  unfold l6;repeat' split
  all_goals simp
 rcases this with h|h|h|h
 . exact S7 l n hu h hl
 . exact S8 l n hu h hl
 . exact S9 l n hu h hl
 . exact Sa l n hu h hl
def FU:Sm:=fun args σ=>match args,σ with
 |[.buf 0,.int .i32 r],[.buf 1 0 l]=>some (fJ r=true/\l.length<=3000000000,.buf 0,some [.buf 1 0 (l++bl (cN r))])
 |_,_=>none
theorem UG:ax 149 FU:=by
 intro args sg pre x r he hp;unfold FU at he;split at he<;>cases he
 . exact Sb (hp:=hp) ..
def eQ(b:UInt8):Bool:=decide ((48<=b.toNat/\b.toNat<=57)\/(97<=b.toNat/\b.toNat<=102))
def di(b:UInt8):Nat:=if 48<=b.toNat/\b.toNat<=57 then b.toNat-48 else if 97<=b.toNat/\b.toNat<=102 then b.toNat-87 else 0
def fj(b:UInt8):UInt8:=if 65<=b.toNat/\b.toNat<=70 then byte (b.toNat+32) else b
def Cu.j4(c:Cu):Cu:=if eQ (fj c.aw) =true then c.byte else c.byte.fail 6
def Cu.od(c:Cu):Nat:=di (fj c.aw)
def fW:Nat->Cu->Int->Cu×Int
 |0,c,u=>(c,u)
 |k+1,c,u=>if c.j4.c≠0 then(c.j4,0) else fW k c.j4 (16*u+c.od)
termination_by k => k
def Cu.four(c:Cu):Cu×Int:=fW 4 c 0
def Cu.dF(c:Cu) (b:UInt8):Cu:=if c.aw.toNat=b.toNat then c.byte else c.byte.fail 6
def Cu.number(c:Cu):Cu×Int:=
 if c.four.2<55296\/57344<=c.four.2 then c.four
 else if 56320<=c.four.2 then(c.four.1.fail 6,0)
 else if((c.four.1.dF 92).dF 117).four.2<56320\/57344<=((c.four.1.dF 92).dF 117).four.2 then(((c.four.1.dF 92).dF 117).four.1.fail 6,0)
 else(((c.four.1.dF 92).dF 117).four.1,65536+(c.four.2-55296)*1024+(((c.four.1.dF 92).dF 117).four.2-56320))
def lL(b:UInt8):Bool:=decide (b.toNat=34\/b.toNat=92\/b.toNat=47\/b.toNat=98\/b.toNat=102\/b.toNat=110\/b.toNat=114\/b.toNat=116)
def oA(b:UInt8):Nat:=if b.toNat=34\/b.toNat=92\/b.toNat=47 then b.toNat else if b.toNat=98 then 8 else if b.toNat=102 then 12 else if b.toNat=110 then 10 else if b.toNat=114 then 13 else if b.toNat=116 then 9 else 0
def Cu.fV(c:Cu):Cu:=if c.aw.toNat=117 then c.byte.number.1 else if lL c.aw=true then c.byte else c.byte.fail 6
def Cu.jX(c:Cu):gA:=if c.aw.toNat=117 then(if c.byte.number.1.c=0 then cN c.byte.number.2 else[]) else if lL c.aw=true then[Go.VG.byte (oA c.aw)] else[]
def dQ(b:UInt8):Nat:=if b.toNat<192 then 0 else if b.toNat<224 then 1 else if b.toNat<240 then 2 else 3
def eI:Nat->Cu->gA->Cu×gA
 |0,c,s=>(c,s)
 |k+1,c,s=>if c.c=0/\c.p<c.e/\cont c.aw=true then eI k c.byte (s++[c.aw]) else(c,s)
termination_by k => k
def Cu.iK(c:Cu) (b:UInt8):Cu:=if 0<=oJ (eI (dQ b) c [b]).2 then(eI (dQ b) c [b]).1.fail 5 else(eI (dQ b) c [b]).1
def Cu.kR(c:Cu) (b:UInt8):gA:=if 0<=oJ (eI (dQ b) c [b]).2 then[] else(eI (dQ b) c [b]).2
theorem gY{c:Cu} (h:c.ok):c.byte.ok:=(oz h 1).1
theorem D1{c:Cu} (h:c.ok):c.j4.ok:=by
 unfold Cu.j4;split
 . exact gY h
 . exact(iZ (gY h) 6).1
theorem IM:∀(k:Nat) (c:Cu) (u:Int),c.ok->(fW k c u).1.ok
 |0,_,_,h=>by rw[fW];exact h
 |k+1,c,u,h=>by
   rw[fW];split
   . exact D1 h
   . exact IM k _ _ (D1 h)
theorem mO (b : UInt8) : di b < 16 := by        unfold di; repeat' split
                                                all_goals omega
theorem IL:∀(k:Nat) (c:Cu) (u:Int) (m:Nat),0<=u->u<m->0<m->0<=(fW k c u).2/\(fW k c u).2<((m*16^k:Nat):Int)
 |0,_,_,_,h1,h,_=>by rw[fW];simpa using⟨h1,h⟩
 |k+1,c,u,m,h1,h,h0=>by
   have hp:0<16^k:=Nat.pow_pos (by decide);rw[fW];split
   . have:0<m*16^(k+1):=Nat.mul_pos h0 (Nat.pow_pos (by decide));simp only;omega
   . have hv:=mO (fj c.aw);have:=IL k c.j4 (16*u+c.od) (16*m) (by omega) (by unfold Cu.od;omega) (by omega);rw[Nat.pow_succ,<-Nat.mul_assoc,Nat.mul_right_comm,Nat.mul_comm m 16];exact this
theorem yW{c:Cu} (h:c.ok):c.four.1.ok:=IM 4 c 0 h
theorem yV(c:Cu):0<=c.four.2/\c.four.2<65536:=by have:=IL 4 c 0 1 (by decide) (by decide) (by decide);simpa[Cu.four] using this
theorem uv{c:Cu} (h:c.ok) (b:UInt8):(c.dF b).ok:=by
 unfold Cu.dF;split
 . exact gY h
 . exact(iZ (gY h) 6).1
theorem Lv{c:Cu} (h:c.ok):c.number.1.ok:=by
 have h1:=yW h;have h2:=yW (uv (uv h1 92) 117);unfold Cu.number;repeat' split
 . exact h1
 . exact(iZ h1 6).1
 . exact(iZ h2 6).1
 . exact h2
theorem W7{c:Cu} (h:c.number.1.c=0):fJ c.number.2=true:=by
 have h1:=yV c;have h2:=yV ((c.four.1.dF 92).dF 117);rw[l5];have hf:∀x:Cu,(x.fail 6).c≠0:=fun x=>by
  unfold Cu.fail;split
  . simp
  . assumption
 unfold Cu.number at h⊢;repeat' split at h
 . rename_i q;rw[if_pos q];omega
 . exact absurd h (hf _)
 . exact absurd h (hf _)
 . rename_i q1 q2 q3;rw[if_neg q1,if_neg q2,if_neg q3];simp only;omega
theorem rE{c:Cu} (h:c.ok):c.fV.ok:=by
 unfold Cu.fV;repeat' split
 . exact Lv (gY h)
 . exact gY h
 . exact(iZ (gY h) 6).1
theorem M6:∀(k:Nat) (c:Cu) (s:gA),c.ok->(eI k c s).1.ok
 |0,_,_,h=>by rw[eI];exact h
 |k+1,c,s,h=>by
   rw[eI];split
   . exact M6 k _ _ (gY h)
   . exact h
theorem M5:∀(k:Nat) (c:Cu) (s:gA),(eI k c s).2.length<=s.length+k
 |0,_,_=>by simp[eI]
 |k+1,c,s=>by
   rw[eI];split
   . have:=M5 k c.byte (s++[c.aw]);simp at this;omega
   . simp only;omega
theorem MZ(b:UInt8):dQ b<=3:=by
 unfold dQ;repeat' split
 all_goals omega
theorem sy{c:Cu} (h:c.ok) (b:UInt8):(c.iK b).ok:=by
 have:=M6 (dQ b) c [b] h;unfold Cu.iK;split
 . exact(iZ this 5).1
 . exact this
end Go.Proofs.YtchllohbglebiaaGreatDoor
