/-
  A part of the proof.
-/
import Derived.Test.YtchllohbglebiaaGreatDoorZSr
import Derived.Test.YtchllohbglebiaaGreatDoorZSp
import Derived.Test.YtchllohbglebiaaGreatDoorZWb
import Derived.Test.YtchllohbglebiaaGreatDoorZOb
set_option linter.unusedSimpArgs false
set_option linter.unusedVariables false
set_option maxHeartbeats 4000000
set_option maxRecDepth 100000
namespace Go.Proofs.YtchllohbglebiaaGreatDoor
open Go Go.VG
theorem Rw(s e:Int) (hp:True):OK 119 ([.int .u64 s,.int .u64 e]) ([]) (.bool (decide (¬(e>9223372036854775807\/s>e)))) (none):=by
 refine aq (C:=cx []) (ar trivial) (fn:=Tryz.f119) fun hw hs=>?_;repeat'((conv=>whnf);(apply av<;>intro h))
 all_goals try conv=>whnf
 all_goals try(refine ae.mk ?_;try dsimp only)
 . by_cases q:e<=9223372036854775807
   . rw[decide_eq_true (by omega)];rw[decide_eq_true q];refine ab.mk [] ?_<;>(repeat' first|trivial)
   . rw[decide_eq_false (by omega)];rw[decide_eq_false q];refine ab.mk [] ?_<;>(repeat' first|trivial)
 . rw[decide_eq_false (by omega)];refine ab.mk [] ?_<;>(repeat' first|trivial)
def Bd:Sm:=fun args σ=>match args,σ with
 |[.int .u64 s,.int .u64 e],[]=>some (True,.bool (decide (¬(e>9223372036854775807\/s>e))),none)
 |_,_=>none
theorem Ke:ax 119 Bd:=by
 intro args sg pre x r he hp;unfold Bd at he;split at he<;>cases he
 . exact Rw (hp:=hp) ..
theorem Rz(s:Int) (hp:True):OK 77 ([.int .u64 s]) ([]) (.int .i64 (ga s)) (none):=by
 refine aq (C:=cx []) (ar trivial) (fn:=Tryz.f77) fun hw hs=>?_;have hb:0<=s/\s<=18446744073709551615:=hw.1;have hd:s.tdiv 1000=s/1000:=Int.tdiv_eq_ediv_of_nonneg hb.1;repeat'((conv=>whnf);apply af)
 all_goals try conv=>whnf
 all_goals try(refine ae.mk ?_;try dsimp only)
 . decide
 . rw[hd];refine ab.mk [] ?_<;>(repeat' first|trivial|apply ah|apply aN)
   unfold ga;rw[bX,kj];omega
def xN:Sm:=fun args σ=>match args,σ with
 |[.int .u64 s],[]=>some (True,.int .i64 (ga s),none)
 |_,_=>none
theorem Dd:ax 77 xN:=by
 intro args sg pre x r he hp;unfold xN at he;split at he<;>cases he
 . exact Rz (hp:=hp) ..
theorem Rv(s e:Int) (hp:True):OK 72 ([.int .u64 s,.int .u64 e]) ([]) (.int .i64 (eV s e)) (none):=by
 refine aq (C:=cx [(119,Bd),(77,xN)]) (ar ⟨Ke,Dd,trivial⟩) (fn:=Tryz.f72) fun hw hs=>?_;unfold eV;repeat'((conv=>whnf);first|apply af|apply aK|(apply av<;>intro h))
 all_goals try conv=>whnf
 all_goals try(refine ae.mk ?_;try dsimp only)
 all_goals by_cases h:e>9223372036854775807\/s>e
 all_goals first
  | (rw [if_pos h]
     refine ab.mk [] ?_<;>(repeat' first|trivial)
     done)
  | (rw [if_neg h]
     refine ab.mk [] ?_<;>(repeat' first|trivial)
     done)
  |(exfalso;simp_all;done)
def FA:Sm:=fun args σ=>match args,σ with
 |[.int .u64 s,.int .u64 e],[]=>some (True,.int .i64 (eV s e),none)
 |_,_=>none
theorem Un:ax 72 FA:=by
 intro args sg pre x r he hp;unfold FA at he;split at he<;>cases he
 . exact Rv (hp:=hp) ..
theorem Rx(s e:Int) (hp:True):OK 73 ([.int .u64 s,.int .u64 e]) ([]) (.int .i64 (fh s e)) (none):=by
 refine aq (C:=cx [(119,Bd),(77,xN)]) (ar ⟨Ke,Dd,trivial⟩) (fn:=Tryz.f73) fun hw hs=>?_;unfold fh;have hb:(0<=s/\s<=18446744073709551615)/\(0<=e/\e<=18446744073709551615):=⟨hw.1,hw.2.1⟩
 repeat'((conv=>whnf);first|apply af|apply aK|(apply av<;>intro h))
 all_goals try conv=>whnf
 all_goals try(refine ae.mk ?_;try dsimp only)
 all_goals by_cases h:e>9223372036854775807\/s>e
 all_goals first
  | (rw [if_pos h]
     refine ab.mk [] ?_<;>(repeat' first|trivial)
     done)
  | (rw [if_neg h]
     have h1:IntKind.u64.wrap (e-s)=e-s:=by rw[kj];omega
     rw[h1];refine ab.mk [] ?_<;>(repeat' first|trivial)
     done)
  |(exfalso;simp_all;done)
def FB:Sm:=fun args σ=>match args,σ with
 |[.int .u64 s,.int .u64 e],[]=>some (True,.int .i64 (fh s e),none)
 |_,_=>none
theorem Uo:ax 73 FB:=by
 intro args sg pre x r he hp;unfold FB at he;split at he<;>cases he
 . exact Rx (hp:=hp) ..
theorem RF(s e:Int) (hp:True):OK 32 ([.int .u64 s,.int .u64 e]) ([]) (.tuple [.int .u64 (dn (eV s e) (fh s e)).2.1,.int .u64 (dn (eV s e) (fh s e)).2.2]) (none):=by
 refine aq (C:=cx [(72,FA),(73,FB),(71,FC)]) (ar ⟨Un,Uo,Up,trivial⟩) (fn:=Tryz.f32) fun hw hs=>?_;repeat'((conv=>whnf);apply af)
 all_goals try conv=>whnf
 all_goals try(refine ae.mk ?_;try dsimp only)
 refine ab.mk [] ?_<;>(repeat' first|trivial)
def FD:Sm:=fun args σ=>match args,σ with
 |[.int .u64 s,.int .u64 e],[]=>some (True,.tuple [.int .u64 (dn (eV s e) (fh s e)).2.1,.int .u64 (dn (eV s e) (fh s e)).2.2],none)
 |_,_=>none
theorem Uq:ax 32 FD:=by
 intro args sg pre x r he hp;unfold FD at he;split at he<;>cases he
 . exact RF (hp:=hp) ..
theorem RJ(t:Int) (hp:True):OK 35 ([.int .u64 t]) ([]) (.int .u64 (bE (ga t)).2) (none):=by
 refine aq (C:=cx [(77,xN),(76,Be)]) (ar ⟨Dd,Kf,trivial⟩) (fn:=Tryz.f35) fun hw hs=>?_;repeat'((conv=>whnf);apply af)
 all_goals try conv=>whnf
 all_goals try(refine ae.mk ?_;try dsimp only)
 refine ab.mk [] ?_<;>(repeat' first|trivial)
def FG:Sm:=fun args σ=>match args,σ with
 |[.int .u64 t],[]=>some (True,.int .u64 (bE (ga t)).2,none)
 |_,_=>none
theorem Uu:ax 35 FG:=by
 intro args sg pre x r he hp;unfold FG at he;split at he<;>cases he
 . exact RJ (hp:=hp) ..
theorem RM(c:Int) (t:gA) (hp:True):OK 31 ([.agg [.int .i64 c,.str t]]) ([]) (.agg [.int .i64 c,.str (if c=2 then t else[])]) (none):=by
 refine aq (C:=cx []) (ar trivial) (fn:=Tryz.f31) fun hw hs=>?_;repeat'((conv=>whnf);(apply av<;>intro h))
 all_goals try conv=>whnf
 all_goals try(refine ae.mk ?_;try dsimp only)
 . rw[if_pos (by assumption)];refine ab.mk [] ?_<;>(repeat' first|trivial)
 . rw[if_neg (by assumption)];refine ab.mk [] ?_<;>(repeat' first|trivial)
def FH:Sm:=fun args σ=>match args,σ with
 |[.agg [.int .i64 c,.str t]],[]=>some (True,.agg [.int .i64 c,.str (if c=2 then t else[])],none)
 |_,_=>none
theorem Uv:ax 31 FH:=by
 intro args sg pre x r he hp;unfold FH at he;split at he<;>cases he
 . exact RM (hp:=hp) ..
theorem RH(l:List ak) (c:Bool) (hl:l.length<=1000000) (ht:ey l):OK 33 [.list false 7 (aG l),.list c 1 [.int .u8 0,.int .u8 2,.int .u8 3,.int .u8 4,.int .u8 5,.int .u8 6,.int .u8 7]] [] (.list false 7 (aG l)) none:=by
 refine aq (C:=cx []) (ar trivial) (fn:=Tryz.f33) fun hw _=>?_;have e1:=cX l;all_goals try conv=>whnf
 all_goals try(refine ae.mk ?_;try dsimp only)
 refine aZ.mk Nat (fun i=>i<=l.length) (fun i=>⟨48,[(0,.list false 7 (aG l)),(1,.list c 1 [.int .u8 0,.int .u8 2,.int .u8 3,.int .u8 4,.int .u8 5,.int .u8 6,.int .u8 7]),(5,.buf 0),(6,.int .i64 i)],[.buf 7 0 ((l.take i).map ea)],[0]⟩) (fun i=>l.length-i) [.tm 5 7] 0 (bu _) ?_ (fun i hi _ _=>?_)
 . apply ay<;>(repeat' first|trivial)
 have hk:=fun h=>ht _ (wF (l:=l) (i:=i) h);have hsn:=fun h=>oG (l:=l) (i:=i) (d:=default) h;have hlm:((l.take i).map ea).length=i:=by rw[aA,d8];omega
 repeat'((conv=>whnf);first|apply af|(apply av<;>intro h)|with_reducible refine nr ?_ ?_)
 all_goals try conv=>whnf
 all_goals try(refine ae.mk ?_;try dsimp only)
 . exact Int.natCast_nonneg _
 . omega
 . have hki:=hk (by omega);refine aZ.mk Nat (fun j=>j<=7) (fun j=>⟨48,[(0,.list false 7 (aG l)),(1,.list c 1 [.int .u8 0,.int .u8 2,.int .u8 3,.int .u8 4,.int .u8 5,.int .u8 6,.int .u8 7]),(5,.buf 0),(6,.int .i64 i),(7,.ptr 1 0),(8,.int .i64 j)],[.buf 7 0 ((l.take i).map ea),.cells [.str (l.getD i default).key,.int .u8 (l.getD i default).value.kind,.str (l.getD i default).value.text,.int .i64 (l.getD i default).value.num,.int .u64 (l.getD i default).value.bits,.list false 6 (ky (l.getD i default).value.list),.list false 7 (aG (l.getD i default).value.map)]],[0]⟩) (fun j=>7-j) [] 0 (bu _) ?_ (fun j hj _ _=>?_)
   . apply ay<;>(repeat' first|trivial)
   obtain⟨m,hm⟩:∃m,m=j+1:=⟨_,rfl⟩
   have h5:j=0\/j=1\/j=2\/j=3\/j=4\/j=5\/j=6\/j=7:=by omega
   rcases h5 with rfl|rfl|rfl|rfl|rfl|rfl|rfl|rfl
   all_goals
    repeat'((conv=>whnf);first|apply af|(apply av<;>intro h)|with_reducible (first|refine iB.mk _ rfl ?_|refine nr ?_ ?_))
    all_goals try conv=>whnf
    all_goals try(refine ae.mk ?_;try dsimp only)
    all_goals try(exfalso;omega)
    all_goals try exact Int.natCast_nonneg _
    all_goals try omega
    all_goals try
     (refine⟨[],m,by omega,?_,by omega⟩
      subst hm;apply ay<;>(repeat' first|trivial)
      done)
   . simp only[hlm,List.length_cons,List.length_nil];omega
   . refine⟨[],i+1,by omega,?_,by omega⟩;rw[hsn (by omega)];apply ay<;>(repeat' first|trivial|apply ah|apply aN|apply bc)
     all_goals first
      |(rw[bX];omega)
      |(rw[fo];rfl)
 . obtain rfl:i=l.length:=by omega
   rw[List.take_length];refine ab.mk [.c9 0] ?_<;>(repeat' first|trivial|apply ah|apply nj)
   exact(lV _).symm
-- #name r26Plain truchmanref26.Plain
def FE:Sm:=fun args σ=>match args,σ with
 |[.list false 7 x,.list c 1 [.int .u8 0,.int .u8 2,.int .u8 3,.int .u8 4,.int .u8 5,.int .u8 6,.int .u8 7]],[]=>some ((x=aG (bI x)/\x.length<=1000000)/\ey (bI x),.list false 7 x,none)
 |_,_=>none
theorem Us:ax 33 FE:=by
 intro args sg pre x r he hp;unfold FE at he;split at he<;>cases he;obtain⟨⟨h1,h2⟩,h3⟩:=hp;have h5:=congrArg List.length h1;rw[cX] at h5;have:=RH _ ‹Bool› (by omega) h3;rw[<-h1] at this;exact this
theorem RL(a:List ak) (evs:List Ev) (ha:a.length<=900000) (ht:ey a) (hd:dy a [cA,dz]=a) (he:∀e∈evs,(bE (ga e.time)).2=e.time) (hel:evs.length<=100000) (x0 x1 x2 x3 x4 x5 x6 x7 x8 x9 x10 x11 x12 x13 x14 x15 x16 x17 x18 x19 x20 x21 x22 x23 x24 x25 x26 x27 x28 x29 x30 x31 kd s0 e0 cd:Int) (st nm nt:gA) (c2 c3:Bool) (z3:Nat) (l3:List V) (hk:kd≠1) (ho:dn (eV s0 e0) (fh s0 e0) =(0,s0,e0)) (hn:(if cd=2 then nt else[]) =nt):
   OK 9 [.agg (.int .u8 x0::.int .u8 x1::.int .u8 x2::.int .u8 x3::.int .u8 x4::.int .u8 x5::.int .u8 x6::.int .u8 x7::.int .u8 x8::.int .u8 x9::.int .u8 x10::.int .u8 x11::.int .u8 x12::.int .u8 x13::.int .u8 x14::.int .u8 x15::.int .u8 x16::.int .u8 x17::.int .u8 x18::.int .u8 x19::.int .u8 x20::.int .u8 x21::.int .u8 x22::.int .u8 x23::.int .u8 x24::.int .u8 x25::.int .u8 x26::.int .u8 x27::.int .u8 x28::.int .u8 x29::.int .u8 x30::.int .u8 x31::.str st::.str nm::.int .i64 kd::.int .u64 s0::.int .u64 e0::.list false 7 (aG a)::.list c2 3 (evs.map et)::.list c3 z3 l3::.int .i64 cd::.str nt::[])] []
    (.agg (.int .u8 x0::.int .u8 x1::.int .u8 x2::.int .u8 x3::.int .u8 x4::.int .u8 x5::.int .u8 x6::.int .u8 x7::.int .u8 x8::.int .u8 x9::.int .u8 x10::.int .u8 x11::.int .u8 x12::.int .u8 x13::.int .u8 x14::.int .u8 x15::.int .u8 x16::.int .u8 x17::.int .u8 x18::.int .u8 x19::.int .u8 x20::.int .u8 x21::.int .u8 x22::.int .u8 x23::.int .u8 x24::.int .u8 x25::.int .u8 x26::.int .u8 x27::.int .u8 x28::.int .u8 x29::.int .u8 x30::.int .u8 x31::.str []::.str nm::.int .i64 kd::.int .u64 s0::.int .u64 e0::.list false 7 (aG a)::.list false 3 (evs.map et)::.list true 0 []::.int .i64 cd::.str nt::[])) none:=by
 refine aq (C:=cx [(31,FH),(32,FD),(34,MF),(33,FE),(35,FG)]) (ar ⟨Uv,Uq,Ur,Us,Uu,trivial⟩) (fn:=Tryz.f9) fun hw _=>?_;clear hw;have hml:(evs.map et).length=evs.length:=aA _;have hdr:dy (bI (aG a)) ([V.str cA,V.str dz].map jm) =a:=by rw[dZ];exact hd
 repeat'((conv=>whnf);first|apply af|(apply av<;>intro h))
 all_goals try conv=>whnf
 all_goals try(refine ae.mk ?_;try dsimp only)
 . exact absurd ‹kd=1› hk
 . exact absurd ‹kd=1› hk
 . exact absurd ‹kd=1› hk
 . exact⟨⟨by rw[dZ],by rw[cX];omega⟩,rfl,by decide⟩
 . rw[hdr];exact⟨⟨by rw[dZ],by rw[cX];omega⟩,by rw[dZ];exact ht⟩
 simp only[ho,hn];refine aZ.mk Nat (fun i=>i<=evs.length) (fun i=>⟨67,[(1,.ptr 0 0),(2,.ptr 1 0),(3,.ptr 2 0),(4,.int .i64 i)],[.cells (.int .u8 x0::.int .u8 x1::.int .u8 x2::.int .u8 x3::.int .u8 x4::.int .u8 x5::.int .u8 x6::.int .u8 x7::.int .u8 x8::.int .u8 x9::.int .u8 x10::.int .u8 x11::.int .u8 x12::.int .u8 x13::.int .u8 x14::.int .u8 x15::.int .u8 x16::.int .u8 x17::.int .u8 x18::.int .u8 x19::.int .u8 x20::.int .u8 x21::.int .u8 x22::.int .u8 x23::.int .u8 x24::.int .u8 x25::.int .u8 x26::.int .u8 x27::.int .u8 x28::.int .u8 x29::.int .u8 x30::.int .u8 x31::.str st::.str nm::.int .i64 kd::.int .u64 s0::.int .u64 e0::.list false 7 (aG a)::.list c2 3 (evs.map et)::.list c3 z3 l3::.int .i64 cd::.str nt::[]),.cells (.int .u8 0::.int .u8 0::.int .u8 0::.int .u8 0::.int .u8 0::.int .u8 0::.int .u8 0::.int .u8 0::.int .u8 0::.int .u8 0::.int .u8 0::.int .u8 0::.int .u8 0::.int .u8 0::.int .u8 0::.int .u8 0::.int .u8 0::.int .u8 0::.int .u8 0::.int .u8 0::.int .u8 0::.int .u8 0::.int .u8 0::.int .u8 0::.int .u8 0::.int .u8 0::.int .u8 0::.int .u8 0::.int .u8 0::.int .u8 0::.int .u8 0::.int .u8 0::.str []::.str []::.int .i64 0::.int .u64 0::.int .u64 0::.list true 0 []::.list true 0 []::.list true 0 []::.int .i64 0::.str []::[]),.cells (.int .u8 x0::.int .u8 x1::.int .u8 x2::.int .u8 x3::.int .u8 x4::.int .u8 x5::.int .u8 x6::.int .u8 x7::.int .u8 x8::.int .u8 x9::.int .u8 x10::.int .u8 x11::.int .u8 x12::.int .u8 x13::.int .u8 x14::.int .u8 x15::.int .u8 x16::.int .u8 x17::.int .u8 x18::.int .u8 x19::.int .u8 x20::.int .u8 x21::.int .u8 x22::.int .u8 x23::.int .u8 x24::.int .u8 x25::.int .u8 x26::.int .u8 x27::.int .u8 x28::.int .u8 x29::.int .u8 x30::.int .u8 x31::.str []::.str nm::.int .i64 kd::.int .u64 s0::.int .u64 e0::.list false 7 (aG a)::.buf 3::.list true 0 []::.int .i64 cd::.str nt::[]),.buf 3 0 ((evs.take i).map et)],[3]⟩) (fun i=>evs.length-i) [.cell 2 38 3] 0 (bu _) ?_ (fun i hi _ _=>?_)
 . apply ay<;>(repeat' first|trivial|apply ah|apply jI|apply nj|apply cT)
   exact congrArg aG hdr
 have hnx:i<evs.length->evs.take (i+1) =evs.take i++[evs.getD i default]:=fun h=>oG h;have hmem:i<evs.length->(bE (ga (evs.getD i default).time)).2=(evs.getD i default).time:=fun h=>he _ (wF h);have hlm:((evs.take i).map et).length=i:=by rw[aA,d8];omega
 repeat'((conv=>whnf);first|apply af|(apply av<;>intro h)|with_reducible apply lZ)
 all_goals try conv=>whnf
 all_goals try(refine ae.mk ?_;try dsimp only)
 all_goals (try simp only[hml] at*)
 . exact Int.natCast_nonneg _
 . omega
 . exact Int.natCast_nonneg _
 . omega
 . simp only[hlm,List.length_cons,List.length_nil];omega
 . rw[hmem (by omega)];refine⟨[],i+1,by omega,?_,by omega⟩;rw[hnx (by omega)];apply ay<;>(repeat' first|trivial|apply ah|apply aN|apply bc)
   all_goals first
    |(rw[bX];omega)
    |(rw[fo];rfl)
 . obtain rfl:i=evs.length:=by omega
   rw[List.take_length];refine ab.mk [.c9 3] ?_<;>(repeat' first|trivial)
end Go.Proofs.YtchllohbglebiaaGreatDoor
