/-
  A part of the proof.
-/
import Derived.Test.YtchllohbglebiaaGreatDoorZWb
import Derived.Test.YtchllohbglebiaaGreatDoorZOb
import Derived.Test.YtchllohbglebiaaGreatDoorZXa
import Derived.Test.YtchllohbglebiaaGreatDoorKD
import Derived.Test.YtchllohbglebiaaGreatDoorZOj
import Derived.Test.YtchllohbglebiaaGreatDoorZWd
import Derived.Test.YtchllohbglebiaaGreatDoorZOf
import Derived.Test.YtchllohbglebiaaGreatDoorNI7
set_option linter.unusedSimpArgs false
set_option linter.unusedVariables false
set_option maxHeartbeats 4000000
set_option maxRecDepth 100000
namespace Go.Proofs.YtchllohbglebiaaGreatDoor
open Go Go.VG
abbrev rb:V:=.agg (.int .u8 0::.int .u8 0::.int .u8 0::.int .u8 0::.int .u8 0::.int .u8 0::.int .u8 0::.int .u8 0::.int .u8 0::.int .u8 0::.int .u8 0::.int .u8 0::.int .u8 0::.int .u8 0::.int .u8 0::.int .u8 255::.int .u8 0::.int .u8 0::.int .u8 0::.int .u8 0::.int .u8 0::.int .u8 0::.int .u8 0::.int .u8 1::.int .u8 0::.int .u8 0::.int .u8 0::.int .u8 0::.int .u8 0::.int .u8 0::.int .u8 0::.int .u8 0::.str []::.str []::.int .i64 0::.int .u64 0::.int .u64 0::.list false 7 (aG [])::.list false 3 ([].map et)::.list true 0 []::.int .i64 2::.str [120]::[])
abbrev sU:List ak:=[tA cA [120]]
theorem ZD:bQ [] 2 [120]=sU:=rfl
def Bj:Sm:=fun args σ=>match args,σ with
 |[x],[]=>some (x=rb,.list false 7 (aG sU),none)
 |_,_=>none
-- #name zTagsX zspan.Tags
theorem Kk:ax 10 Bj:=by
 intro args sg pre x r he hp;unfold Bj at he;split at he<;>cases he;subst hp;rw[<-ZD];exact Iq [] (bu _) List.Pairwise.nil (fun _ h=>by cases h) ..
abbrev r9:Ky:=[115,104,111,112]
def wX1(w:WS):WS:=mem (mem (w.begin 123 125) ct (bP [byte 0,byte 0,byte 0,byte 0,byte 0,byte 0,byte 0,byte 0,byte 0,byte 0,byte 0,byte 0,byte 0,byte 0,byte 0,byte 255])) dh (bP [byte 0,byte 0,byte 0,byte 0,byte 0,byte 0,byte 0,byte 1])
def wX2(w:WS):WS:=hJ (hJ (fO (fO (wX1 w) bz (eV 0 0)) eP (fh 0 0)) c5 r9) ff (bf [] bU)
def wX3(w:WS):WS:=((nf (wX2 w) []).key bk).begin 123 125
def wX(w:WS):WS:=(mem (wX3 w) cA (bf sU cA)).fin.fin
abbrev xSt(v:WS):AS:=⟨100,[(0,.ptr 0 0),(2,.str r9),(4,.ptr 3 0),(6,.ptr 4 0)],eW v++[.cells (.int .u8 0::.int .u8 0::.int .u8 0::.int .u8 0::.int .u8 0::.int .u8 0::.int .u8 0::.int .u8 0::.int .u8 0::.int .u8 0::.int .u8 0::.int .u8 0::.int .u8 0::.int .u8 0::.int .u8 0::.int .u8 255::.int .u8 0::.int .u8 0::.int .u8 0::.int .u8 0::.int .u8 0::.int .u8 0::.int .u8 0::.int .u8 1::.int .u8 0::.int .u8 0::.int .u8 0::.int .u8 0::.int .u8 0::.int .u8 0::.int .u8 0::.int .u8 0::.str []::.str []::.int .i64 0::.int .u64 0::.int .u64 0::.list false 7 (aG [])::.list false 3 ([].map et)::.list true 0 []::.int .i64 2::.str [120]::[]),.cells [.int .u64 0,.int .u64 0]],[1,2]⟩
def gx(y:WS):Nat->WS
 |0=>y
 |_+1=>mem y cA (bf sU cA)
theorem SN(w:WS) (hp:Wb w 1000):OK 28 [.ptr 0 0,rb,.str r9] (eW w) (.tuple []) (some (eW (wX w))):=by
 refine yX (C:=cx [(68,qU),(59,uV),(69,uT),(61,AO),(62,AL),(64,B3),(65,B8),(47,Bl),(63,xO),(60,uY),(66,Bi),(67,Bh),(36,uP),(10,Bj)]) (ar ⟨ug,zr,zp,JR,JO,K5,K8,Km,Df,zu,Kj,Ki,zl,Kk,trivial⟩) (fn:=Tryz.f28) rfl rfl rfl rfl fun hw _=>?_;refine ld.cut 8 WS (fun v=>v=wX1 w/\Wb v 2000) xSt rfl ?_ (fun v ⟨hv,hb⟩=>?_)
 . repeat'((conv=>whnf);apply af)
   all_goals try conv=>whnf
   all_goals try(refine ae.mk ?_;try dsimp only)
   all_goals (try simp only[cz,dZ,List.toList_toArray] at*)
   . exact qN hp (by omega)
   . exact preB hp.obj (by omega) (by decide) (by simp only[List.length_cons,List.length_nil,fH];omega)
   . exact preB (hp.obj.mem _ _) (by simp only[List.length_cons,List.length_nil,fH];omega) (by decide) (by simp only[List.length_cons,List.length_nil,fH];omega)
   . refine⟨[],wX1 w,⟨rfl,((hp.obj.mem _ _).mem _ _).mono (by simp only[List.length_cons,List.length_nil,fH];omega)⟩,?_⟩;apply ay<;>(repeat' first|trivial)
 refine ld.cut 5 WS (fun x=>x=nf (hJ (hJ (fO (fO v bz (eV 0 0)) eP (fh 0 0)) c5 r9) ff (bf [] bU)) []/\Wb x 6000) xSt rfl ?_ (fun x ⟨hx,hb2⟩=>?_)
 . have hn:=(hb.fO bz (eV 0 0) (by decide)).fO eP (fh 0 0) (by decide);have he:=hn.hJ c5 r9;have he2:=he.hJ ff (bf [] bU);have ht:(bf [] bU).length=0:=rfl;simp only[List.length_cons,List.length_nil,ht] at hn he he2;repeat'((conv=>whnf);apply af)
   all_goals try conv=>whnf
   all_goals try(refine ae.mk ?_;try dsimp only)
   all_goals (try simp only[cz,dZ,List.toList_toArray] at*)
   . exact A9 hb (by omega) (by decide)
   . exact A9 (hb.fO _ _ (by decide)) (by simp only[List.length_cons,List.length_nil,fH];omega) (by decide)
   . exact Aa hn (by omega) (by decide) (by decide)
   . exact⟨mn List.Pairwise.nil (by decide),fun _ h=>by cases h⟩
   . exact Aa he (by omega) (by decide) (by decide)
   . exact⟨he2.ok (by omega),rfl,⟨_,he2,by show _+0+_<=_;omega⟩,fun _ h=>by cases h⟩
   . refine⟨[],_,⟨rfl,(he2.ann (fun _ h=>by cases h)).mono (by show _+0+_<=_;omega)⟩,?_⟩;apply ay<;>(repeat' first|trivial)
 refine .vc ?_;repeat'((conv=>whnf);apply af)
 all_goals try conv=>whnf
 all_goals try(refine ae.mk ?_;try dsimp only)
 all_goals (try simp only[cz,dZ,List.toList_toArray] at*)
 . exact⟨hb2.ok (by omega),hb2.pre (by omega),by decide⟩
 . exact⟨(hb2.key bk).ok (by decide),(hb2.key bk).pre (by decide)⟩
 generalize hy:(x.key [116,97,103,115]).begin 123 125=y;have hb3:Wb y 7000:=by rw[<-hy];exact(hb2.key bk).obj.mono (by decide)
 refine aZ.mk Nat (fun i=>i<=1) (fun i=>⟨100,[(0,.ptr 0 0),(8,.list false 7 (aG sU)),(81,.list false 7 (aG sU)),(82,.int .i64 1),(83,.int .i64 i)],eW (gx y i),[1,2]⟩) (fun i=>1-i) [] 0 (bu _) ?_ (fun i hi _ _=>?_)
 . apply ay<;>(repeat' first|trivial)
 obtain rfl|rfl:i=0\/i=1:=by omega
 . repeat'((conv=>whnf);first|apply af|with_reducible refine iB.mk _ rfl ?_)
   all_goals try conv=>whnf
   all_goals try(refine ae.mk ?_;try dsimp only)
   all_goals (try simp only[cz,dZ,List.toList_toArray] at*)
   . decide
   . exact⟨mn (List.pairwise_singleton _ _) (by decide),fun _ h=>by rw[List.mem_singleton.1 h];rfl⟩
   . exact preB (X:=y) hb3 (by omega) (by decide) (by decide)
   . refine⟨[],1,by omega,?_,by omega⟩;apply ay<;>(repeat' first|trivial)
 . have hb4:Wb (gx y 1) 8000:=(hb3.mem cA (bf sU cA)).mono (by decide);repeat'((conv=>whnf);apply af)
   all_goals try conv=>whnf
   all_goals try(refine ae.mk ?_;try dsimp only)
   all_goals (try simp only[cz,dZ,List.toList_toArray] at*)
   . exact qN hb4 (by omega)
   . exact qN hb4.fin (by omega)
   . have e:(gx y 1).fin.fin=wX w:=by
       subst hy hx hv;rfl
     rw[e];refine ab.mk [] ?_<;>(repeat' first|trivial)
def FZ:Sm:=fun args σ=>match args,σ with
 |[.ptr 0 0,x,.str s],[.cells [.buf 1,.buf 2,.bool h,.int .i64 cc,.func (.func 58) [] []],.buf 1 0 o,.buf 3 0 l]=>some (x=rb/\s=r9/\okW o l/\Wb (bZ o l h cc) 1000,.tuple [],some (eW (wX (bZ o l h cc))))
 |_,_=>none
-- #name zWriteX zspan.Write
theorem UM:ax 28 FZ:=by
 intro args sg pre x r he hp;unfold FZ at he;split at he<;>cases he;obtain⟨h1,h2,h3,h4⟩:=hp;subst h1 h2;rename_i h cc o l;have:=SN (bZ o l h cc) h4;rw[kh h3];exact this
def yA:gA:=[123,34,116,114,97,99,101,73,100,34,58,34,48,48,48,48,48,48,48,48,48,48,48,48,48,48,102,102,34,44,34,105,100,34,58,34,48,48,48,48,48,48,48,48,48,48,48,48,48,48,48,49,34,44,34,116,97,103,115,34,58,123,34,101,114,114,111,114,34,58,34,120,34,125,125]
def yB:gA:=[123,34,116,114,97,99,101,73,100,34,58,34,49,34,125]
instance:DecidableEq Nd:=fun a b=>
 if h:a.k=b.k/\a.key=b.key/\a.t=b.t/\a.sz=b.sz then isTrue (by cases a;cases b;simp_all) else isFalse (by rintro rfl;exact h ⟨rfl,rfl,rfl,rfl⟩)
def mA:List Nd:=[⟨123,[],[],5⟩,⟨115,[116,114,97,99,101,73,100],[48,48,48,48,48,48,48,48,48,48,48,48,48,48,102,102],1⟩,⟨115,[105,100],[48,48,48,48,48,48,48,48,48,48,48,48,48,48,48,49],1⟩,⟨123,[116,97,103,115],[],2⟩,⟨115,[101,114,114,111,114],[120],1⟩]
def mB:List Nd:=[⟨123,[],[],2⟩,⟨115,[116,114,97,99,101,73,100],[49],1⟩]
theorem NR:tE yA=0/\yI yA=mA:=by decide+kernel
theorem NS:tE yB=0/\yI yB=mB:=by decide+kernel
theorem mA_ok:cR (mA.map aW):=⟨⟨pj,by rw[eh];exact⟨by decide+kernel,by decide⟩⟩,by rw[eh];decide+kernel⟩
theorem mB_ok:cR (mB.map aW):=⟨⟨pj,by rw[eh];exact⟨by decide+kernel,by decide⟩⟩,by rw[eh];decide+kernel⟩
theorem mA_e:zE mA 0=0:=by decide+kernel
theorem mB_e:zE mB 0=3:=by decide+kernel
theorem mA_1:bJ mA 0=[0,0,0,0,0,0,0,0,0,0,0,0,0,0,0,255]/\cU mA 0=[0,0,0,0,0,0,0,1]/\bM mA 0=[]/\gu mA 0=[]/\gp mA 0=0/\(dm mA 0).2=(0,0):=by decide+kernel
theorem mA_2:(dk mA 0).length=0/\(fR mA 0).length=0/\dr (bm mA 0) =2/\dA (bm mA 0) =[120]/\cV mA 0 c5=[]:=by decide+kernel
theorem mA_v:iQ mA 0=rb:=by
 obtain⟨h1,h2,h3,h4,h5,h6⟩:=mA_1;obtain⟨k1,k2,k3,k4,_⟩:=mA_2;unfold iQ BN;rw[h1,h2,h3,h4,h5,h6,k3,k4,co k1,co k2];rfl
abbrev xSpO:O:=match rb with
 |.agg l=>.cells l
 |_=>.dead
def FW:Sm:=fun args σ=>match args,σ with
 |[.list false 4 [a,b,c,d,e],.int .i64 k],[]=>some ([a,b,c,d,e]=mA.map aW/\k=0,.tuple [rb,.str [],.int .i64 0],none)
 |[.list false 4 [a,b],.int .i64 k],[]=>some ([a,b]=mB.map aW/\k=0,.tuple [.agg zZ,.str [],.int .i64 3],none)
 |_,_=>none
-- #name zR2 zspan.Read
theorem k_zR2:ax 6 FW:=by
 intro args sg pre x r he hp;unfold FW at he;split at he<;>cases he
 . rw[hp.1,hp.2];exact wy _ mA 0 _ mA_ok (by decide) (by rw[if_pos mA_e,mA_v,mA_2.2.2.2.2])
 . rw[hp.1,hp.2];exact wy _ mB 0 _ mB_ok (by decide) (by rw[if_neg (by rw[mB_e];decide),mB_e])
def wN:WS:=wX .new
def tX:gA:=[123,34,116,114,97,99,101,73,100,34,58,34,48,48,48,48,48,48,48,48,48,48,48,48,48,48,48,48,48,48,48,48,48,48,48,48,48,48,48,48,48,48,102,102,34,44,34,105,100,34,58,34,48,48,48,48,48,48,48,48,48,48,48,48,48,48,48,49,34,44,34,116,105,109,101,115,116,97,109,112,34,58,48,44,34,100,117,114,97,116,105,111,110,34,58,48,44,34,108,111,99,97,108,69,110,100,112,111,105,110,116,34,58,123,34,115,101,114,118,105,99,101,78,97,109,101,34,58,34,115,104,111,112,34,125,44,34,116,97,103,115,34,58,123,34,101,114,114,111,114,34,58,34,120,34,125,125]
theorem Zr:wN.done=(tX,0):=by decide+kernel
theorem SO:OK 7 [rb,.str r9] [] (.tuple [.str tX,.int .i64 0]) none:=by
 refine aq (C:=cx [(27,B1),(28,FZ),(29,B0)]) (ar ⟨K4,UM,K3,trivial⟩) (fn:=Tryz.f7) fun hw _=>?_;repeat'((conv=>whnf);apply af)
 all_goals try conv=>whnf
 all_goals try(refine ae.mk ?_;try dsimp only)
 all_goals (try simp only[cz] at*)
 . exact⟨trivial,trivial,kM (by decide) (by decide),⟨by decide,by decide⟩⟩
 . exact⟨kM (by decide+kernel) (by decide+kernel),trivial⟩
 . rw[show(wX WS.new).done=(tX,0) from Zr];refine ab.mk [] ?_<;>(repeat' first|trivial)
def G0:Sm:=fun args σ=>match args,σ with
 |[x,.str s],[]=>some (x=rb/\s=r9,.tuple [.str tX,.int .i64 0],none)
 |_,_=>none
-- #name zWritten truchmanlaw41.written
theorem UN:ax 7 G0:=by
 intro args sg pre x r he hp;unfold G0 at he;split at he<;>cases he;rw[hp.1,hp.2];exact SO
theorem SJ{R:gA->Int×List Nd} (hR:∀s,R s=(dR s,dS s)):OK 4 [] [] (.bool true) none:=by
 refine yX (C:=rz [(5,uX R),(6,FW),(7,G0),(10,Bj)] [(2,[.c9 0]),(4,[.c9 2])]) (ar ⟨De hR,k_zR2,UN,Kk,trivial⟩) (fn:=Tryz.f4) rfl rfl rfl rfl fun hw hs=>?_;have a1:R yA=(0,mA):=by rw[hR,<-(By (s:=yA) (by decide)).1,<-(By (s:=yA) (by decide)).2,NR.1,NR.2]
 have a2:R yB=(0,mB):=by rw[hR,<-(By (s:=yB) (by decide)).1,<-(By (s:=yB) (by decide)).2,NS.1,NS.2]
 refine ld.cut 2 Unit (fun _=>True) (fun _=>⟨86,[(1,.buf 0),(2,.int .i64 0)],[eNb mA],[0]⟩) rfl ?_ (fun _ _=>?_)
 . repeat'((conv=>whnf);apply af)
   all_goals try conv=>whnf
   all_goals try(refine ae.mk ?_;try dsimp only)
   . decide
   . refine⟨[],(),trivial,?_⟩
     erw [a1]
     apply ay<;>(repeat' first|trivial)
 refine ld.cut 2 Unit (fun _=>True) (fun _=>⟨86,[(3,.ptr 1 0),(4,.str []),(5,.int .i64 0),(6,.buf 2),(7,.int .i64 0)],[.dead,xSpO,eNb mB],[0,1,2]⟩) rfl ?_ (fun _ _=>?_)
 . repeat'((conv=>whnf);apply af)
   all_goals try conv=>whnf
   all_goals try(refine ae.mk ?_;try dsimp only)
   . exact⟨rfl,rfl⟩
   . decide
   . refine⟨[],(),trivial,?_⟩
     erw [a2]
     apply ay<;>(repeat' first|trivial)
 refine .vc ?_;repeat'((conv=>whnf);apply af)
 all_goals try conv=>whnf
 all_goals try(refine ae.mk ?_;try dsimp only)
 . exact⟨rfl,rfl⟩
 . exact⟨rfl,rfl⟩
 . decide
 . refine ab.mk [] ?_<;>(repeat' first|trivial)
theorem SK(hp:True):OK 4 ([]) ([]) (.bool true) (none):=by
 exact SJ (R:=fun s=>(dR s,dS s)) fun _=>rfl
def xP:Sm:=fun args σ=>match args,σ with
 |[],[]=>some (True,.bool true,none)
 |_,_=>none
theorem Dh:ax 4 xP:=by
 intro args sg pre x r he hp;unfold xP at he;split at he<;>cases he
 . exact SK (hp:=hp) ..
theorem by16{t:gA} (h:t.length=16):[byte ((t.getD 0 0).toNat:Int),byte ((t.getD 1 0).toNat:Int),byte ((t.getD 2 0).toNat:Int),byte ((t.getD 3 0).toNat:Int),byte ((t.getD 4 0).toNat:Int),byte ((t.getD 5 0).toNat:Int),byte ((t.getD 6 0).toNat:Int),byte ((t.getD 7 0).toNat:Int),byte ((t.getD 8 0).toNat:Int),byte ((t.getD 9 0).toNat:Int),byte ((t.getD 10 0).toNat:Int),byte ((t.getD 11 0).toNat:Int),byte ((t.getD 12 0).toNat:Int),byte ((t.getD 13 0).toNat:Int),byte ((t.getD 14 0).toNat:Int),byte ((t.getD 15 0).toNat:Int)]=t:=by
 obtain⟨b0,b1,b2,b3,b4,b5,b6,b7,b8,b9,b10,b11,b12,b13,b14,b15,rfl⟩:=NU h;simp only[eX,List.getD_cons_zero,List.getD_cons_succ]
theorem by8{t:gA} (h:t.length=8):[byte ((t.getD 0 0).toNat:Int),byte ((t.getD 1 0).toNat:Int),byte ((t.getD 2 0).toNat:Int),byte ((t.getD 3 0).toNat:Int),byte ((t.getD 4 0).toNat:Int),byte ((t.getD 5 0).toNat:Int),byte ((t.getD 6 0).toNat:Int),byte ((t.getD 7 0).toNat:Int)]=t:=by
 obtain⟨b0,b1,b2,b3,b4,b5,b6,b7,rfl⟩:=BK h;simp only[eX,List.getD_cons_zero,List.getD_cons_succ]
theorem wr2_p{w:WS} {p:gA} (h:p=[]\/(p.length=8/\jT p=false)):mY w (((p.getD 0 0).toNat:Int) ==0&&(((p.getD 1 0).toNat:Int) ==0&&(((p.getD 2 0).toNat:Int) ==0&&(((p.getD 3 0).toNat:Int) ==0&&(((p.getD 4 0).toNat:Int) ==0&&(((p.getD 5 0).toNat:Int) ==0&&(((p.getD 6 0).toNat:Int) ==0&&((p.getD 7 0).toNat:Int) ==0))))))) [byte ((p.getD 0 0).toNat:Int),byte ((p.getD 1 0).toNat:Int),byte ((p.getD 2 0).toNat:Int),byte ((p.getD 3 0).toNat:Int),byte ((p.getD 4 0).toNat:Int),byte ((p.getD 5 0).toNat:Int),byte ((p.getD 6 0).toNat:Int),byte ((p.getD 7 0).toNat:Int)]=mY w (decide (p=[])) p:=by
 rcases h with rfl|⟨h,h2⟩
 . rfl
 . rw[by8 h];obtain⟨b0,b1,b2,b3,b4,b5,b6,b7,rfl⟩:=BK h;have e:(((b0.toNat:Nat):Int) ==0&&(((b1.toNat:Nat):Int) ==0&&(((b2.toNat:Nat):Int) ==0&&(((b3.toNat:Nat):Int) ==0&&(((b4.toNat:Nat):Int) ==0&&(((b5.toNat:Nat):Int) ==0&&(((b6.toNat:Nat):Int) ==0&&((b7.toNat:Nat):Int) ==0))))))) =false:=h2;simp only[List.getD_cons_zero,List.getD_cons_succ];rw[e];rfl
theorem I8:∀{evs:List Ev},(∀e∈evs,rh e)->ju evs<=evs.length*19600
 |[],_=>bu _
 |e::r,h=>by
   have h1:=(h e List.mem_cons_self).n.2;have h2:=I8 fun x hx=>h x (d5 _ hx);rw[ju,List.length_cons];omega
theorem N5{tags:List ak}:∀{l:List ak},(∀a∈l,a.key.length<=3200/\(bf tags a.key).length<=3200)->kZ tags l<=l.length*38500
 |[],_=>bu _
 |e::r,h=>by
   have h1:=h e List.mem_cons_self;have h2:=N5 fun x hx=>h x (d5 _ hx);rw[kZ,List.length_cons];omega
theorem ZA{w:WS} {n:Nat} {t i p:gA} {z:Bool} {nm:Ky} {kd s0 e0:Int} {peer:Ky} {evs:List Ev} {tags:List ak} {svc:Ky} (h:Wb w n) (ht:t.length=16) (hi:i.length=8) (hp:p.length<=8) (hs:0<=s0) (he:∀e∈evs,nb e):
   Wb (nJ w t i p z nm kd s0 e0 peer evs tags svc) (n+6*nm.length+6*svc.length+6*peer.length+ju evs+kZ tags tags+8000):=by
 have hk:(iH kd).length<=8:=by
  unfold iH;repeat' split
  all_goals decide
 have a1:Wb (pI w t i) (n+600):=((h.obj.mem ct (bP t)).mem dh (bP i)).mono (by simp only[List.length_cons,List.length_nil,fH];omega);have a2:Wb (mY (pI w t i) z p) (n+900):=by
  unfold mY;split
  . exact a1.mono (by omega)
  . exact(a1.mem fX (bP p)).mono (by simp only[List.length_cons,List.length_nil,fH];omega)
 have a3:Wb (l8 (mY (pI w t i) z p) iq nm) (n+6*nm.length+1100):=by
  unfold l8;split
  . exact a2.mono (by omega)
  . exact(a2.mem iq nm).mono (by simp only[List.length_cons,List.length_nil];omega)
 have a4:Wb (l8 (l8 (mY (pI w t i) z p) iq nm) cJ (iH kd)) (n+6*nm.length+1300):=by
  rw[l8];split
  . exact a3.mono (by omega)
  . exact(a3.mem cJ (iH kd)).mono (by simp only[List.length_cons,List.length_nil];omega)
 have a5:=(((((a4.fO bz (eV s0 e0) (Hf hs)).fO eP (fh s0 e0) (Kz hs)).hJ c5 svc).hJ ff peer).ann he)
 unfold nJ sO;split
 . exact a5.fin.mono (by simp only[List.length_cons,List.length_nil];omega)
 . exact((((a5.key bk).obj.vg (tags:=tags) (l:=tags)).fin).fin).mono (by simp only[List.length_cons,List.length_nil];omega)
section
variable {L:List Nd}
theorem wr_sp(h:gS L) (h0:zE L 0=0) (w:WS):nJ w [byte (((bJ L 0).getD 0 0).toNat:Int),byte (((bJ L 0).getD 1 0).toNat:Int),byte (((bJ L 0).getD 2 0).toNat:Int),byte (((bJ L 0).getD 3 0).toNat:Int),byte (((bJ L 0).getD 4 0).toNat:Int),byte (((bJ L 0).getD 5 0).toNat:Int),byte (((bJ L 0).getD 6 0).toNat:Int),byte (((bJ L 0).getD 7 0).toNat:Int),byte (((bJ L 0).getD 8 0).toNat:Int),byte (((bJ L 0).getD 9 0).toNat:Int),byte (((bJ L 0).getD 10 0).toNat:Int),byte (((bJ L 0).getD 11 0).toNat:Int),byte (((bJ L 0).getD 12 0).toNat:Int),byte (((bJ L 0).getD 13 0).toNat:Int),byte (((bJ L 0).getD 14 0).toNat:Int),byte (((bJ L 0).getD 15 0).toNat:Int)]
   [byte (((cU L 0).getD 0 0).toNat:Int),byte (((cU L 0).getD 1 0).toNat:Int),byte (((cU L 0).getD 2 0).toNat:Int),byte (((cU L 0).getD 3 0).toNat:Int),byte (((cU L 0).getD 4 0).toNat:Int),byte (((cU L 0).getD 5 0).toNat:Int),byte (((cU L 0).getD 6 0).toNat:Int),byte (((cU L 0).getD 7 0).toNat:Int)]
   [byte (((bM L 0).getD 0 0).toNat:Int),byte (((bM L 0).getD 1 0).toNat:Int),byte (((bM L 0).getD 2 0).toNat:Int),byte (((bM L 0).getD 3 0).toNat:Int),byte (((bM L 0).getD 4 0).toNat:Int),byte (((bM L 0).getD 5 0).toNat:Int),byte (((bM L 0).getD 6 0).toNat:Int),byte (((bM L 0).getD 7 0).toNat:Int)]
   ((((bM L 0).getD 0 0).toNat:Int) ==0&&((((bM L 0).getD 1 0).toNat:Int) ==0&&((((bM L 0).getD 2 0).toNat:Int) ==0&&((((bM L 0).getD 3 0).toNat:Int) ==0&&((((bM L 0).getD 4 0).toNat:Int) ==0&&((((bM L 0).getD 5 0).toNat:Int) ==0&&((((bM L 0).getD 6 0).toNat:Int) ==0&&(((bM L 0).getD 7 0).toNat:Int) ==0)))))))
   (gu L 0) (gp L 0) (dm L 0).2.1 (dm L 0).2.2 (bf (dk L 0) bU) (fR L 0) (bQ (dk L 0) (dr (bm L 0)) (dA (bm L 0))) (cV L 0 c5)
   =nJ w (bJ L 0) (cU L 0) (bM L 0) (decide (bM L 0=[])) (gu L 0) (gp L 0) (dm L 0).2.1 (dm L 0).2.2 (bf (dk L 0) bU) (fR L 0) (bQ (dk L 0) (dr (bm L 0)) (dA (bm L 0))) (cV L 0 c5):=by
 have k:=qW h h0;have k1:(bJ L 0).length=16:=k.t.1;have k2:(cU L 0).length=8:=k.i.1;have k3:bM L 0=[]\/((bM L 0).length=8/\jT (bM L 0) =false):=k.p;unfold nJ;rw[by16 k1,by8 k2,wr2_p k3]
theorem yp(h:gS L) (h0:zE L 0=0):eV (dm L 0).2.1 (dm L 0).2.2=fw L 0 bz/\fh (dm L 0).2.1 (dm L 0).2.2=fw L 0 eP/\0<=(dm L 0).2.1:=by
 have k:(dn (fw L 0 bz) (fw L 0 eP)).1=0:=(qW h h0).bd;obtain⟨⟨b1,b2⟩,⟨d1,d2⟩,e,e2⟩:=DT k;have e3:dm L 0=(0,fw L 0 bz*1000,fw L 0 bz*1000+fw L 0 eP*1000):=e2;rw[e3];unfold eV fh;dsimp only;rw[if_neg (by omega),if_neg (by omega)];omega
def pC(L:List Nd):Ky:=(iO [] (lP L 0).cQ).2
theorem NM(h:gS L) (h0:zE L 0=0):nJ .new (bJ L 0) (cU L 0) (bM L 0) (decide (bM L 0=[])) (gu L 0) (gp L 0) (dm L 0).2.1 (dm L 0).2.2 (bf (dk L 0) bU) (fR L 0) (bQ (dk L 0) (dr (bm L 0)) (dA (bm L 0))) (cV L 0 c5) =⟨pC L,[],true,0⟩:=by
 rw[ZB,(yp h h0).1,(yp h h0).2.1];rfl
theorem aR{e:Ev} (h:rh e):nb e:=by
 obtain⟨u,hu,h1,h2⟩:=h.t;exact⟨⟨by omega,by omega⟩,Nat.le_trans h.n.2 (by decide)⟩
theorem GP(L:List Nd) (q:Int):(fR L q).length<=L.length:=by
 unfold fR;rw[aA];exact BS L q
theorem BO(L:List Nd) (q:Int):(dk L q).length<=L.length+1:=by
 have h1:=NY L q;have h2:=tF (bm L q) [cA,dz];unfold dk;split
 . exact Nat.le_trans (zf _ _) (by omega)
 . omega
theorem MJ(h:gS L) (h0:zE L 0=0) (hl:L.length<=801):(gu L 0).length<=3200/\(cV L 0 c5).length<=3200/\(bf (dk L 0) bU).length<=3200/\ju (fR L 0)<=15699600/\kZ (bQ (dk L 0) (dr (bm L 0)) (dA (bm L 0))) (bQ (dk L 0) (dr (bm L 0)) (dA (bm L 0)))<=30915500:=by
 have k:=qW h h0;obtain⟨c1,c2⟩:=k.ao.c;have c1:cF (bQ (dk L 0) (dr (bm L 0)) (dA (bm L 0))):=c1;have c2:iy (bQ (dk L 0) (dr (bm L 0)) (dA (bm L 0))):=c2;have hv:=GP L 0;have ha:=BO L 0;have hc:=(Bw (cd:=dr (bm L 0)) (nt:=dA (bm L 0)) (vr L 0) (BJ L 0)).2.2;have e1:=I8 (evs:=fR L 0) k.ev;have e2:=N5 (tags:=bQ (dk L 0) (dr (bm L 0)) (dA (bm L 0))) (l:=bQ (dk L 0) (dr (bm L 0)) (dA (bm L 0))) fun a ha=>⟨(qZ c1 c2 ha).2.1.2,(qZ c1 c2 ha).2.2.2⟩
 exact⟨k.nm.2,k.svc.2,k.ao.zV.2,by omega,by omega⟩
theorem MK(h:gS L) (h0:zE L 0=0) (hl:L.length<=801):dR (pC L) =0/\dS (pC L) =(lP L 0).tree/\(pC L).length<=50000000:=by
 have k:=qW h h0;obtain⟨s1,s2,s3,s4,s5⟩:=MJ h h0 hl;have hb:=ZA (w:=.new) (n:=0) (t:=bJ L 0) (i:=cU L 0) (p:=bM L 0) (z:=decide (bM L 0=[])) (nm:=gu L 0) (kd:=gp L 0) (e0:=(dm L 0).2.2) (peer:=bf (dk L 0) bU) (evs:=fR L 0) (tags:=bQ (dk L 0) (dr (bm L 0)) (dA (bm L 0))) (svc:=cV L 0 c5) ⟨bu _,bu _⟩ k.t.1 k.i.1 (by rcases k.p with q|q;(rw[show bM L 0=[] from q];exact bu _);exact Nat.le_of_eq q.1) (yp h h0).2.2 fun e he=>aR (k.ev e he);rw[NM h h0] at hb;have hb:=hb.o;have hb:(pC L).length<=_:=hb;have ht:TT 32 (lP L 0).tree (pC L):=TT.obj 31 [] _ k.tt (nu _) fun y hy=>?_
 . obtain⟨a,b⟩:=Z5 ht rfl (by omega);exact⟨a,b,by omega⟩
 . have:=List.mem_map_of_mem (f:=aS) hy;rcases p8 this with (q|q)|⟨_,q⟩|⟨_,q⟩|⟨_,q⟩|(q|q)|⟨_,q⟩|⟨_,q⟩|⟨_,q⟩|⟨_,q⟩<;>(rw[q];exact r7 (by decide))
end
def EG(x:V) (s:Ky) (u:WS):Sm:=fun args σ=>match args,σ with
 |[.ptr 0 0,y,.str t],[.cells [.buf 1,.buf 2,.bool h,.int .i64 cc,.func (.func 58) [] []],.buf 1 0 o,.buf 3 0 l]=>some (y=x/\t=s/\okW o l/\bZ o l h cc=.new,.tuple [],some (eW u))
 |_,_=>none
theorem k_zWr{x:V} {s:Ky} {u:WS} (hf:OK 28 [.ptr 0 0,x,.str s] (eW .new) (.tuple []) (some (eW u))):ax 28 (EG x s u):=by
 intro args sg pre r z he hp;unfold EG at he;split at he<;>cases he;obtain⟨h1,h2,h3,h4⟩:=hp;subst h1 h2;rw[kh h3,h4];exact hf
section
variable {L:List Nd}
theorem f_zWr(h:gS L) (h0:zE L 0=0) (hl:L.length<=801):OK 28 [.ptr 0 0,iQ L 0,.str (cV L 0 c5)] (eW .new) (.tuple []) (some (eW ⟨pC L,[],true,0⟩)):=by
 obtain⟨s1,s2,s3,s4,s5⟩:=MJ h h0 hl;have k:=qW h h0;have ha:=BO L 0;have hev:((fR L 0).map et).map pY=fR L 0:=by
  rw[List.map_map];refine(List.map_congr_left (g:=id) fun e he=>?_).trans (List.map_id _);have:=(k.ev e he).a;obtain⟨e1,e2,e3⟩:=e;dsimp only at this;subst this;rfl
 have:=SM .new 0 (dk L 0) (fR L 0) (cV L 0 c5) ((bJ L 0).getD 0 0).toNat ((bJ L 0).getD 1 0).toNat ((bJ L 0).getD 2 0).toNat ((bJ L 0).getD 3 0).toNat ((bJ L 0).getD 4 0).toNat ((bJ L 0).getD 5 0).toNat ((bJ L 0).getD 6 0).toNat ((bJ L 0).getD 7 0).toNat ((bJ L 0).getD 8 0).toNat ((bJ L 0).getD 9 0).toNat ((bJ L 0).getD 10 0).toNat ((bJ L 0).getD 11 0).toNat ((bJ L 0).getD 12 0).toNat ((bJ L 0).getD 13 0).toNat ((bJ L 0).getD 14 0).toNat ((bJ L 0).getD 15 0).toNat
  ((cU L 0).getD 0 0).toNat ((cU L 0).getD 1 0).toNat ((cU L 0).getD 2 0).toNat ((cU L 0).getD 3 0).toNat ((cU L 0).getD 4 0).toNat ((cU L 0).getD 5 0).toNat ((cU L 0).getD 6 0).toNat ((cU L 0).getD 7 0).toNat
  ((bM L 0).getD 0 0).toNat ((bM L 0).getD 1 0).toNat ((bM L 0).getD 2 0).toNat ((bM L 0).getD 3 0).toNat ((bM L 0).getD 4 0).toNat ((bM L 0).getD 5 0).toNat ((bM L 0).getD 6 0).toNat ((bM L 0).getD 7 0).toNat
  (gp L 0) (dm L 0).2.1 (dm L 0).2.2 (dr (bm L 0)) [] (gu L 0) (dA (bm L 0)) false true 0 [] ⟨bu _,bu _⟩ (by omega) (vr L 0) (BJ L 0) (fun e he=>aR (k.ev e he)) hev (by omega) (by omega) (by omega) (by omega)
 rw[wr_sp h h0,NM h h0] at this;exact this
theorem SL(h:gS L) (h0:zE L 0=0) (hl:L.length<=801):OK 7 [iQ L 0,.str (cV L 0 c5)] [] (.tuple [.str (pC L),.int .i64 0]) none:=by
 have ht:=(MK h h0 hl).2.2;have hf:=f_zWr h h0 hl;clear h h0 hl;generalize pC L=t at*;refine aq (C:=cx [(27,B1),(28,EG (iQ L 0) (cV L 0 c5) ⟨t,[],true,0⟩),(29,B0)]) (ar ⟨K4,k_zWr hf,K3,trivial⟩) (fn:=Tryz.f7) fun hw _=>?_;clear hw;repeat'((conv=>whnf);apply af)
 all_goals try conv=>whnf
 all_goals try(refine ae.mk ?_;try dsimp only)
 . exact⟨rfl,rfl,kM (s:=WS.new.out) (l:=WS.new.l) (by decide) (by decide),cz .new⟩
 . exact⟨kM (l:=[]) (by omega) (by decide),trivial⟩
 . rw[show(bZ (bl t) (List.map ef []) true 0).done=(t,0) by rw[show bZ (bl t) (List.map ef []) true 0=⟨t,[],true,0⟩ from cz ⟨t,[],true,0⟩];rfl];refine ab.mk [] ?_<;>(repeat' first|trivial)
def AE(x:V) (s t:Ky):Sm:=fun args σ=>match args,σ with
 |[y,.str k],[]=>some (y=x/\k=s,.tuple [.str t,.int .i64 0],none)
 |_,_=>none
theorem k_zWt{x:V} {s t:Ky} (hf:OK 7 [x,.str s] [] (.tuple [.str t,.int .i64 0]) none):ax 7 (AE x s t):=by
 intro args sg pre r z he hp;unfold AE at he;split at he<;>cases he;rw[hp.1,hp.2];exact hf
abbrev kpV(L:List Nd):V:=.agg (zC (bJ L 0) (cU L 0) (bM L 0) [.str [],.str (gu L 0),.int .i64 (gp L 0),.int .u64 (dm L 0).2.1,.int .u64 (dm L 0).2.2,.list false 7 (aG (dk L 0)),.list false 3 ((fR L 0).map et),.list true 0 [],.int .i64 (dr (bm L 0)),.str (dA (bm L 0))])
def AB(L:List Nd):Sm:=fun args σ=>match args,σ with
 |[y],[]=>some (y=iQ L 0,kpV L,none)
 |_,_=>none
theorem f_kp(h:gS L) (h0:zE L 0=0) (hl:L.length<=801):OK 9 [iQ L 0] [] (kpV L) none:=by
 have k:=qW h h0;have ha:=BO L 0;have hv:=GP L 0;obtain⟨b1,b2,b3⟩:=yp h h0;have hb:(dn (fw L 0 bz) (fw L 0 eP)).1=0:=k.bd;have ho:dn (eV (dm L 0).2.1 (dm L 0).2.2) (fh (dm L 0).2.1 (dm L 0).2.2) =(0,(dm L 0).2.1,(dm L 0).2.2):=by
  rw[b1,b2];exact Prod.ext hb (Prod.ext rfl rfl)
 refine RL (dk L 0) (fR L 0) (by omega) (BJ L 0) ?_ (fun e he=>?_) (by omega) _ _ _ _ _ _ _ _ _ _ _ _ _ _ _ _ _ _ _ _ _ _ _ _ _ _ _ _ _ _ _ _ _ _ _ _ _ _ _ _ _ _ _ ?_ ho ?_
 . refine xC (nT (vr L 0)) (vr L 0) fun x=>?_;rw[tG,List.mem_cons,List.mem_singleton,not_or];exact⟨fun q=>q.1,fun q=>⟨q,k.ao.k x q⟩⟩
 . obtain⟨u,hu,h1,h2⟩:=(k.ev e he).t;have hm:ga e.time=u:=by unfold ga;omega
   rw[hm,show bE u=(0,u*1000) from if_neg (by omega),hu]
 . rcases k.kd with q|q|q|q|q<;>(rw[show gp L 0=_ from q];decide)
 . rcases k.ao.st with ⟨q1,q2⟩|⟨q1,q2⟩|⟨q1,q2⟩
   . rw[show dr (bm L 0) =0 from q1,show dA (bm L 0) =[] from q2];rfl
   . rw[show dr (bm L 0) =1 from q1,show dA (bm L 0) =[] from q2];rfl
   . rw[show dr (bm L 0) =2 from q1,if_pos rfl]
theorem k_kp(h:gS L) (h0:zE L 0=0) (hl:L.length<=801):ax 9 (AB L):=by
 intro args sg pre r z he hp;unfold AB at he;split at he<;>cases he;subst hp;exact f_kp h h0 hl
def AD(L M:List Nd) (x s:V):Sm:=fun args σ=>match args,σ with
 |[.list false 4 l,.int .i64 k],[]=>some ((l=L.map aW\/l=M.map aW)/\k=0,.tuple [x,s,.int .i64 0],none)
 |_,_=>none
theorem UI{L M:List Nd} {x s:V} (hf:OK 6 [.list false 4 (L.map aW),.int .i64 0] [] (.tuple [x,s,.int .i64 0]) none) (hg:OK 6 [.list false 4 (M.map aW),.int .i64 0] [] (.tuple [x,s,.int .i64 0]) none):ax 6 (AD L M x s):=by
 intro args sg pre r z he hp;unfold AD at he;split at he<;>cases he;rw[hp.2];rcases hp.1 with q|q
 . rw[q];exact hf
 . rw[q];exact hg
theorem YE(h:gS L) (h0:zE L 0=0) (hl:L.length<=801):cR ((lP L 0).tree.map aW)/\(lP L 0).tree.length<=10000:=by
 have k:=qW h h0;have hv:=GP L 0;have ha:=BO L 0;have hc:=(Bw (cd:=dr (bm L 0)) (nt:=dA (bm L 0)) (vr L 0) (BJ L 0)).2.2;exact YG k (by show(fR L 0).length<=801;omega) (by show(bQ (dk L 0) (dr (bm L 0)) (dA (bm L 0))).length<=803;omega)
end
theorem Sz{R:gA->Int×List Nd} (hR:ax 5 (uX R)) {s t:gA} {L T:List Nd} (h:s.length<=800) (ht:t.length<=50000000) (e1:(R s).2=L) (e2:R t=(0,T)) (k1:ax 6 (AD L T (iQ L 0) (.str (cV L 0 c5)))) (k2:ax 7 (AE (iQ L 0) (cV L 0 c5) t)) (k3:ax 9 (AB L)) (hle:(pZ (iQ L 0)).evs.length<=801):OK 3 [.str s] [] (.bool true) none:=by
 refine aq (C:=rz [(4,xP),(5,uX R),(6,AD L T (iQ L 0) (.str (cV L 0 c5))),(7,AE (iQ L 0) (cV L 0 c5) t),(9,AB L),(8,FJ)] [(4,[.c9 0]),(9,[.c9 2])]) (ar ⟨Dh,hR,k1,k2,k3,Uw,trivial⟩) (fn:=Tryz.f3) fun hw hs=>?_;clear hw;repeat'((conv=>whnf);first|apply af|((first|apply av|apply gI)<;>intro h))
 all_goals try conv=>whnf
 all_goals try(refine ae.mk ?_;try dsimp only)
 . exact absurd (show(s.length:Int)>800 by assumption) (by omega)
 . omega
 . exact⟨.inl (by rw[e1]),rfl⟩
 . exact⟨rfl,rfl⟩
 . omega
 . exact⟨.inr (by rw[e2]),rfl⟩
 . exact⟨⟨zg L 0,zg L 0⟩,rfl,Nat.le_trans hle (by decide),bu _⟩
 . exact⟨⟨zg L 0,zg L 0⟩,rfl,Nat.le_trans hle (by decide),bu _⟩
 . refine ab.mk [] ?_<;>(repeat' first|trivial)
 . exact absurd rfl (show¬cV L 0 c5=cV L 0 c5 by assumption)
 . exact absurd (show(R t).1=0 by rw[e2]) (by assumption)
theorem Sw{R:gA->Int×List Nd} (hR:∀s,R s=(dR s,dS s)) (s:gA) (h:s.length<=800) (hT:gS (R s).2) (h0:zE (R s).2 0=0):OK 3 [.str s] [] (.bool true) none:=by
 obtain⟨hz,hl⟩:cR ((R s).2.map aW)/\(R s).2.length<=801:=by rw[hR];exact Ng h
 generalize hRs:(R s).2=L at*;obtain⟨t1,t2,t3⟩:=MK hT h0 hl;obtain⟨g1,g2,g3⟩:=YD hT h0;obtain⟨z1,z2⟩:=YE hT h0 hl;have hL1:=wy false L 0 _ hz (by omega) (if_pos h0).symm;have hL2:=wy false (lP L 0).tree 0 _ z1 z2 (if_pos g1).symm;rw[show iQ (lP L 0).tree 0=iQ L 0 from g2,show cV (lP L 0).tree 0 c5=cV L 0 c5 from g3] at hL2;exact Sz (De hR) h t3 hRs (by rw[hR,t1,t2]) (UI hL1 hL2) (k_zWt (SL hT h0 hl)) (k_kp hT h0 hl) (Nat.le_trans (YF L 0) hl)
theorem Sy{R:gA->Int×List Nd} (hR:∀s,R s=(dR s,dS s)) (s:gA) (h:s.length<=800) (h0:¬zE (R s).2 0=0):OK 3 [.str s] [] (.bool true) none:=by
 obtain⟨hz,hl⟩:cR ((R s).2.map aW)/\(R s).2.length<=801:=by rw[hR];exact Ng h
 refine aq (C:=rz [(4,xP),(5,uX R),(6,EF (R s).2 0 (.tuple [.agg zZ,.str [],.int .i64 (zE (R s).2 0)]))] [(4,[.c9 0])]) (ar ⟨Dh,De hR,UJ hz (by omega) (if_neg h0).symm,trivial⟩) (fn:=Tryz.f3) fun hw hs=>?_;repeat'((conv=>whnf);first|apply af|apply aK|(apply av<;>intro h))
 all_goals try conv=>whnf
 all_goals try(refine ae.mk ?_;try dsimp only)
 . exact absurd (show(s.length:Int)>800 by assumption) (by omega)
 . omega
 . exact⟨rfl,rfl⟩
 . exact absurd (show zE (R s).2 0=0 by assumption) h0
 . exact absurd (show zE (R s).2 0=0 by assumption) h0
 . refine ab.mk [] ?_<;>(repeat' first|trivial)
theorem SA(s:gA) (h:¬s.length<=800):OK 3 [.str s] [] (.bool true) none:=by
 refine aq (C:=cx [(4,xP)]) (ar ⟨Dh,trivial⟩) (fn:=Tryz.f3) fun hw hs=>?_;repeat'((conv=>whnf);first|apply af|(apply av<;>intro h))
 all_goals try conv=>whnf
 all_goals try(refine ae.mk ?_;try dsimp only)
 . refine ab.mk [] ?_<;>(repeat' first|trivial)
 all_goals exact absurd (show¬(s.length:Int)>800 by assumption) (by omega)
theorem Z4{s:gA} (h:s.length<=800):gS (dS s):=by
 by_cases h0:dR s=0
 . obtain⟨x,h1,h2,h3⟩:=Nf (s:=s) (by omega) h0;exact h1.txts (by omega) h2 (by rw[h3];exact oI)
 . have e:dS s=[]:=by unfold dS;rw[if_neg h0]
   rw[e];exact fun _ hz=>by cases hz
theorem SP(s:gA):OK 3 [.str s] [] (.bool true) none:=by
 by_cases h:s.length<=800
 . by_cases h0:zE (dS s) 0=0
   . exact Sw (R:=fun s=>(dR s,dS s)) (fun _=>rfl) s h (Z4 h) h0
   . exact Sy (R:=fun s=>(dR s,dS s)) (fun _=>rfl) s h h0
 . exact SA s h
end Go.Proofs.YtchllohbglebiaaGreatDoor
