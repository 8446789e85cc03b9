/-
  A part of the proof.
-/
import Derived.Test.YtchllohbglebiaaGreatDoorZOb
set_option linter.unusedSimpArgs false
set_option linter.unusedVariables false
set_option maxHeartbeats 4000000
set_option maxRecDepth 100000
namespace Go.Proofs.YtchllohbglebiaaGreatDoor
open Go Go.VG
def FY:Sm:=fun args σ=>match args,σ with
 |[.agg (.int .u8 x0::.int .u8 x1::.int .u8 x2::.int .u8 x3::.int .u8 x4::.int .u8 x5::.int .u8 x6::.int .u8 x7::.int .u8 x8::.int .u8 x9::.int .u8 x10::.int .u8 x11::.int .u8 x12::.int .u8 x13::.int .u8 x14::.int .u8 x15::.int .u8 x16::.int .u8 x17::.int .u8 x18::.int .u8 x19::.int .u8 x20::.int .u8 x21::.int .u8 x22::.int .u8 x23::.int .u8 x24::.int .u8 x25::.int .u8 x26::.int .u8 x27::.int .u8 x28::.int .u8 x29::.int .u8 x30::.int .u8 x31::.str st::.str nm::.int .i64 kd::.int .u64 s0::.int .u64 e0::.list false 7 x::.list c2 z2 l2::.list c3 z3 l3::.int .i64 cd::.str nt::[])],[]=>some ((nO x/\x.length<=900000)/\ey (bI x),.list false 7 (aG (bQ (bI x) cd nt)),none)
 |_,_=>none
-- #name zTagsO zspan.Tags
theorem UL:ax 10 FY:=by
 intro args sg pre x r he hp;unfold FY at he;split at he<;>cases he;obtain⟨⟨⟨h1,h2,h3⟩,h4⟩,h5⟩:=hp;have h6:=congrArg List.length h1;rw[cX] at h6;rename_i x0 x1 x2 x3 x4 x5 x6 x7 x8 x9 x10 x11 x12 x13 x14 x15 x16 x17 x18 x19 x20 x21 x22 x23 x24 x25 x26 x27 x28 x29 x30 x31 st nm kd s0 e0 y c2 z2 l2 c3 z3 l3 cd nt;have:=Iq (bI y) (by omega) h3 h5 x0 x1 x2 x3 x4 x5 x6 x7 x8 x9 x10 x11 x12 x13 x14 x15 x16 x17 x18 x19 x20 x21 x22 x23 x24 x25 x26 x27 x28 x29 x30 x31 kd s0 e0 cd st nm nt c2 c3 z2 z3 l2 l3;rw[<-h1] at this;exact this
theorem Hf{s e:Int} (h:0<=s):-9223372036854775808<=eV s e/\eV s e<=9223372036854775807:=by
 unfold eV;split<;>omega
theorem Kz{s e:Int} (h:0<=s):-9223372036854775808<=fh s e/\fh s e<=9223372036854775807:=by
 unfold fh;split<;>omega
theorem SM(w:WS) (n:Nat) (a:List ak) (evs:List Ev) (svc:Ky) (x0 x1 x2 x3 x4 x5 x6 x7 x8 x9 x10 x11 x12 x13 x14 x15 x16 x17 x18 x19 x20 x21 x22 x23 x24 x25 x26 x27 x28 x29 x30 x31 kd s0 e0 cd:Int) (st nm nt:gA) (c2 c3:Bool) (z3:Nat) (l3:List V) (hp:Wb w n) (ha:a.length<=900000) (hr:cF a) (ht:ey a) (he:∀e∈evs,nb e) (hev:(evs.map et).map pY=evs) (hnm:nm.length<=1000000) (hsv:svc.length<=1000000) (hpe:(bf a bU).length<=1000000)
   (hn:n+6*nm.length+6*svc.length+6*(bf a bU).length+ju evs+kZ (bQ a cd nt) (bQ a cd nt)+10000<=500000000):
   OK 28 [.ptr 0 0,.agg (.int .u8 x0::.int .u8 x1::.int .u8 x2::.int .u8 x3::.int .u8 x4::.int .u8 x5::.int .u8 x6::.int .u8 x7::.int .u8 x8::.int .u8 x9::.int .u8 x10::.int .u8 x11::.int .u8 x12::.int .u8 x13::.int .u8 x14::.int .u8 x15::.int .u8 x16::.int .u8 x17::.int .u8 x18::.int .u8 x19::.int .u8 x20::.int .u8 x21::.int .u8 x22::.int .u8 x23::.int .u8 x24::.int .u8 x25::.int .u8 x26::.int .u8 x27::.int .u8 x28::.int .u8 x29::.int .u8 x30::.int .u8 x31::.str st::.str nm::.int .i64 kd::.int .u64 s0::.int .u64 e0::.list false 7 (aG a)::.list c2 3 (evs.map et)::.list c3 z3 l3::.int .i64 cd::.str nt::[]),.str svc] (eW w) (.tuple []) (some (eW (nJ w [byte x0,byte x1,byte x2,byte x3,byte x4,byte x5,byte x6,byte x7,byte x8,byte x9,byte x10,byte x11,byte x12,byte x13,byte x14,byte x15] [byte x16,byte x17,byte x18,byte x19,byte x20,byte x21,byte x22,byte x23] [byte x24,byte x25,byte x26,byte x27,byte x28,byte x29,byte x30,byte x31] (x24==0&&(x25==0&&(x26==0&&(x27==0&&(x28==0&&(x29==0&&(x30==0&&x31==0))))))) nm kd s0 e0 (bf a bU) evs (bQ a cd nt) svc))):=by
 refine yX (C:=cx [(68,qU),(59,uV),(69,uT),(61,AO),(62,AL),(64,B3),(65,B8),(47,Bl),(63,xO),(60,uY),(66,Bi),(67,Bh),(36,uP),(10,FY)]) (ar ⟨ug,zr,zp,JR,JO,K5,K8,Km,Df,zu,Kj,Ki,zl,UL,trivial⟩) (fn:=Tryz.f28) rfl rfl rfl rfl fun hw _=>?_;have hml:(evs.map et).length=evs.length:=aA _;have hR:=mn hr (by omega:a.length<=1000000);obtain⟨q1,q2,q3⟩:=Bw (cd:=cd) (nt:=nt) hr ht;have hRt:=mn q1 (by omega:(bQ a cd nt).length<=1000000);have hse:0<=s0:=by
  have h:=hw.2.1;simp only[V.wf,V.eK] at h;exact h.2.2.2.2.2.2.2.2.2.2.2.2.2.2.2.2.2.2.2.2.2.2.2.2.2.2.2.2.2.2.2.2.2.2.2.1.1
 have hbg:=Hf (e:=e0) hse;have hls:=Kz (e:=e0) hse;clear hw;refine ld.cut 6 WS (fun v=>v=mY (pI w [byte x0,byte x1,byte x2,byte x3,byte x4,byte x5,byte x6,byte x7,byte x8,byte x9,byte x10,byte x11,byte x12,byte x13,byte x14,byte x15] [byte x16,byte x17,byte x18,byte x19,byte x20,byte x21,byte x22,byte x23]) (x24==0&&(x25==0&&(x26==0&&(x27==0&&(x28==0&&(x29==0&&(x30==0&&x31==0))))))) [byte x24,byte x25,byte x26,byte x27,byte x28,byte x29,byte x30,byte x31]/\Wb v (n+1000)) (fun v:WS=>(⟨100,[(0,.ptr 0 0),(2,.str svc),(4,.ptr 3 0),(6,.ptr 4 0)],eW v++[.cells (.int .u8 x0::.int .u8 x1::.int .u8 x2::.int .u8 x3::.int .u8 x4::.int .u8 x5::.int .u8 x6::.int .u8 x7::.int .u8 x8::.int .u8 x9::.int .u8 x10::.int .u8 x11::.int .u8 x12::.int .u8 x13::.int .u8 x14::.int .u8 x15::.int .u8 x16::.int .u8 x17::.int .u8 x18::.int .u8 x19::.int .u8 x20::.int .u8 x21::.int .u8 x22::.int .u8 x23::.int .u8 x24::.int .u8 x25::.int .u8 x26::.int .u8 x27::.int .u8 x28::.int .u8 x29::.int .u8 x30::.int .u8 x31::.str st::.str nm::.int .i64 kd::.int .u64 s0::.int .u64 e0::.list false 7 (aG a)::.list c2 3 (evs.map et)::.list c3 z3 l3::.int .i64 cd::.str nt::[]),.cells [.int .u64 s0,.int .u64 e0]],[1,2]⟩:AS)) rfl ?_ (fun v ⟨hv,hb⟩=>?_)
 . skip
   repeat'((conv=>whnf);first|apply af|apply aK|(apply fF<;>intro h))
   all_goals try conv=>whnf
   all_goals try(refine ae.mk ?_;try dsimp only)
   all_goals (try simp only[cz] at*)
   skip
   . exact qN hp (by omega)
   . exact preB hp.obj (by omega) (by decide) (by simp only[List.length_cons,List.length_nil,fH];omega)
   . exact preB (hp.obj.mem _ _) (by simp only[List.length_cons,List.length_nil,fH];omega) (by decide) (by simp only[List.length_cons,List.length_nil,fH];omega)
   . refine⟨[],pI w [byte x0,byte x1,byte x2,byte x3,byte x4,byte x5,byte x6,byte x7,byte x8,byte x9,byte x10,byte x11,byte x12,byte x13,byte x14,byte x15] [byte x16,byte x17,byte x18,byte x19,byte x20,byte x21,byte x22,byte x23],⟨?_,((hp.obj.mem _ _).mem _ _).mono (by simp only[List.length_cons,List.length_nil,fH];omega)⟩,?_⟩
     . unfold mY;rw[if_pos (by assumption)]
     . apply ay<;>(repeat' first|trivial)
   . exact preB ((hp.obj.mem _ _).mem _ _) (by simp only[List.length_cons,List.length_nil,fH];omega) (by decide) (by simp only[List.length_cons,List.length_nil,fH];omega)
   . refine⟨[],mem (pI w [byte x0,byte x1,byte x2,byte x3,byte x4,byte x5,byte x6,byte x7,byte x8,byte x9,byte x10,byte x11,byte x12,byte x13,byte x14,byte x15] [byte x16,byte x17,byte x18,byte x19,byte x20,byte x21,byte x22,byte x23]) fX (bP [byte x24,byte x25,byte x26,byte x27,byte x28,byte x29,byte x30,byte x31]),⟨?_,(((hp.obj.mem _ _).mem _ _).mem _ _).mono (by simp only[List.length_cons,List.length_nil,fH];omega)⟩,?_⟩
     . unfold mY;rw[if_neg (fun q=>by rename_i h;rw[q] at h;exact absurd h (by decide))]
     . apply ay<;>(repeat' first|trivial)
 refine ld.cut 1 WS (fun x=>x=l8 v iq nm/\Wb x (n+6*nm.length+1200)) (fun v:WS=>(⟨100,[(0,.ptr 0 0),(2,.str svc),(4,.ptr 3 0),(6,.ptr 4 0)],eW v++[.cells (.int .u8 x0::.int .u8 x1::.int .u8 x2::.int .u8 x3::.int .u8 x4::.int .u8 x5::.int .u8 x6::.int .u8 x7::.int .u8 x8::.int .u8 x9::.int .u8 x10::.int .u8 x11::.int .u8 x12::.int .u8 x13::.int .u8 x14::.int .u8 x15::.int .u8 x16::.int .u8 x17::.int .u8 x18::.int .u8 x19::.int .u8 x20::.int .u8 x21::.int .u8 x22::.int .u8 x23::.int .u8 x24::.int .u8 x25::.int .u8 x26::.int .u8 x27::.int .u8 x28::.int .u8 x29::.int .u8 x30::.int .u8 x31::.str st::.str nm::.int .i64 kd::.int .u64 s0::.int .u64 e0::.list false 7 (aG a)::.list c2 3 (evs.map et)::.list c3 z3 l3::.int .i64 cd::.str nt::[]),.cells [.int .u64 s0,.int .u64 e0]],[1,2]⟩:AS)) rfl ?_ (fun v1 ⟨hv1,hb1⟩=>?_)
 . repeat'((conv=>whnf);first|apply af|apply aK|(apply gI<;>intro h))
   all_goals try conv=>whnf
   all_goals try(refine ae.mk ?_;try dsimp only)
   all_goals (try simp only[cz] at*)
   skip
   . refine⟨[],v,⟨?_,hb.mono (by omega)⟩,?_⟩
     . unfold l8;rw[if_pos (by assumption)]
     . apply ay<;>(repeat' first|trivial)
   . exact preB hb (by omega) (by decide) (by omega)
   . refine⟨[],mem v iq nm,⟨?_,(hb.mem _ _).mono (by simp only[List.length_cons,List.length_nil,fH];omega)⟩,?_⟩
     . unfold l8;rw[if_neg (by assumption)]
     . apply ay<;>(repeat' first|trivial)
 refine ld.cut 1 WS (fun x=>x=l8 v1 cJ (iH kd)/\Wb x (n+6*nm.length+1400)) (fun v:WS=>(⟨100,[(0,.ptr 0 0),(2,.str svc),(4,.ptr 3 0),(6,.ptr 4 0)],eW v++[.cells (.int .u8 x0::.int .u8 x1::.int .u8 x2::.int .u8 x3::.int .u8 x4::.int .u8 x5::.int .u8 x6::.int .u8 x7::.int .u8 x8::.int .u8 x9::.int .u8 x10::.int .u8 x11::.int .u8 x12::.int .u8 x13::.int .u8 x14::.int .u8 x15::.int .u8 x16::.int .u8 x17::.int .u8 x18::.int .u8 x19::.int .u8 x20::.int .u8 x21::.int .u8 x22::.int .u8 x23::.int .u8 x24::.int .u8 x25::.int .u8 x26::.int .u8 x27::.int .u8 x28::.int .u8 x29::.int .u8 x30::.int .u8 x31::.str st::.str nm::.int .i64 kd::.int .u64 s0::.int .u64 e0::.list false 7 (aG a)::.list c2 3 (evs.map et)::.list c3 z3 l3::.int .i64 cd::.str nt::[]),.cells [.int .u64 s0,.int .u64 e0]],[1,2]⟩:AS)) rfl ?_ (fun v2 ⟨hv2,hb2⟩=>?_)
 . have hkw:(iH kd).length<=8:=by
     unfold iH;repeat' split
     all_goals decide
   repeat'((conv=>whnf);first|apply af|apply aK|(apply gI<;>intro h))
   all_goals try conv=>whnf
   all_goals try(refine ae.mk ?_;try dsimp only)
   all_goals (try simp only[cz] at*)
   skip
   . refine⟨[],v1,⟨?_,hb1.mono (by omega)⟩,?_⟩
     . unfold l8;rw[if_pos (by assumption)]
     . apply ay<;>(repeat' first|trivial)
   . exact preB hb1 (by omega) (by decide) (by omega)
   . refine⟨[],mem v1 cJ (iH kd),⟨?_,(hb1.mem _ _).mono (by simp only[List.length_cons,List.length_nil,fH];omega)⟩,?_⟩
     . unfold l8;rw[if_neg (by assumption)]
     . apply ay<;>(repeat' first|trivial)
 refine ld.cut 5 WS (fun x=>x=nf (hJ (hJ (fO (fO v2 bz (eV s0 e0)) eP (fh s0 e0)) c5 svc) ff (bf a bU)) evs/\Wb x (n+6*nm.length+6*svc.length+6*(bf a bU).length+ju evs+3000)) (fun v:WS=>(⟨100,[(0,.ptr 0 0),(2,.str svc),(4,.ptr 3 0),(6,.ptr 4 0)],eW v++[.cells (.int .u8 x0::.int .u8 x1::.int .u8 x2::.int .u8 x3::.int .u8 x4::.int .u8 x5::.int .u8 x6::.int .u8 x7::.int .u8 x8::.int .u8 x9::.int .u8 x10::.int .u8 x11::.int .u8 x12::.int .u8 x13::.int .u8 x14::.int .u8 x15::.int .u8 x16::.int .u8 x17::.int .u8 x18::.int .u8 x19::.int .u8 x20::.int .u8 x21::.int .u8 x22::.int .u8 x23::.int .u8 x24::.int .u8 x25::.int .u8 x26::.int .u8 x27::.int .u8 x28::.int .u8 x29::.int .u8 x30::.int .u8 x31::.str st::.str nm::.int .i64 kd::.int .u64 s0::.int .u64 e0::.list false 7 (aG a)::.list c2 3 (evs.map et)::.list c3 z3 l3::.int .i64 cd::.str nt::[]),.cells [.int .u64 s0,.int .u64 e0]],[1,2]⟩:AS)) rfl ?_ (fun v3 ⟨hv3,hb3⟩=>?_)
 . have hn1:=hb2.fO bz (eV s0 e0) hbg;have hn2:=hn1.fO eP (fh s0 e0) hls;have he1:=hn2.hJ c5 svc;have he2:=he1.hJ ff (bf a bU);simp only[List.length_cons,List.length_nil] at hn1 hn2 he1 he2;repeat'((conv=>whnf);apply af)
   all_goals try conv=>whnf
   all_goals try(refine ae.mk ?_;try dsimp only)
   all_goals (try simp only[cz,dZ] at*)
   skip
   . exact A9 hb2 (by omega) (by decide)
   . exact A9 hn1 (by omega) (by decide)
   . exact Aa hn2 (by omega) (by decide) (by omega)
   . exact⟨hR,ht⟩
   . exact Aa he1 (by omega) (by decide) (by omega)
   . exact⟨he2.ok (by omega),(P0 evs).symm,⟨_,he2,by rw[hev];omega⟩,by rw[hev];exact he⟩
   . refine⟨[],_,⟨rfl,(he2.ann he).mono (by omega)⟩,?_⟩;simp only[hev];apply ay<;>(repeat' first|trivial)
 have htg:=dZ (bQ a cd nt);have hln:=cX (bQ a cd nt);refine .vc ?_;repeat'((conv=>whnf);first|apply af|(apply av<;>intro h))
 all_goals try conv=>whnf
 all_goals try(refine ae.mk ?_;try dsimp only)
 all_goals (try simp only[cz,dZ] at*)
 . exact⟨⟨hR,by rw[cX];exact ha⟩,ht⟩
 . exact preK hb3 (by omega) (by decide)
 . exact qN (hb3.key bk) (by simp only[List.length_cons,List.length_nil];omega)
 . have hne:bQ a cd nt≠[]:=fun q=>by
     have q2:(bQ a cd nt).length=0:=by rw[q];rfl
     omega
   have hby:=(hb3.key bk).obj;simp only[List.length_cons,List.length_nil] at hby;generalize hy:(v3.key [116,97,103,115]).begin 123 125=y at*;generalize htc:bQ a cd nt=tg at*;refine aZ.mk Nat (fun i=>i<=tg.length) (fun i=>⟨100,[(0,.ptr 0 0),(8,.list false 7 (aG tg)),(81,.list false 7 (aG tg)),(82,.int .i64 tg.length),(83,.int .i64 i)],eW ((tg.take i).foldl (ve tg) y),[1,2]⟩) (fun i=>tg.length-i) [] 0 (bu _) ?_ (fun i hi _ _=>?_)
   . apply ay<;>(repeat' first|trivial|apply ah|apply aN)
     exact congrArg Nat.cast hln
   have htk:=N7 tg tg i;have hnx:i<tg.length->tg.take (i+1) =tg.take i++[tg.getD i default]:=fun h=>oG h;have hmm:i<tg.length->6*(tg.getD i default).key.length+6*(bf tg (tg.getD i default).key).length<=kZ tg tg:=fun h=>N6 tg tg _ (wF h);have hbi:=Wb.vg (tags:=tg) (l:=tg.take i) hby;generalize hu:(tg.take i).foldl (ve tg) y=u at*;repeat'((conv=>whnf);first|apply af|(apply av<;>intro h)|with_reducible refine nr ?_ ?_)
   all_goals try conv=>whnf
   all_goals try(refine ae.mk ?_;try dsimp only)
   all_goals (try simp only[cz,dZ] at*)
   . exact Int.natCast_nonneg _
   . omega
   . exact⟨hRt,q2⟩
   . have h1:=hmm (by omega);exact preB hbi (by omega) (by omega) (by omega)
   . refine⟨[],i+1,by omega,?_,by omega⟩;rw[hnx (by omega),List.foldl_append,hu];apply ay<;>(repeat' first|trivial|apply ah|apply aN)
     all_goals (rw[bX];omega)
   . exact qN hbi (by omega)
   . exact qN hbi.fin (by omega)
   . obtain rfl:i=tg.length:=by omega
     rw[List.take_length] at hu;unfold nJ;have e:sO v3 tg=u.fin:=by
      unfold sO;rw[if_neg hne,<-hu,<-hy]
     rw[<-hv,<-hv1,<-hv2,<-hv3,e];refine ab.mk [] ?_<;>(repeat' first|trivial)
 . exact qN hb3 (by omega)
 . have h0:bQ a cd nt=[]:=co (by omega);unfold nJ;rw[<-hv,<-hv1,<-hv2,<-hv3,show sO v3 (bQ a cd nt) =v3 from if_pos h0];refine ab.mk [] ?_<;>(repeat' first|trivial)
end Go.Proofs.YtchllohbglebiaaGreatDoor
