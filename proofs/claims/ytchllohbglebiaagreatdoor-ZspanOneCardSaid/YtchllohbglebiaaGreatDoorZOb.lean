/-
  A part of the proof.
-/
import Derived.Test.YtchllohbglebiaaGreatDoorZWb
import Derived.Test.YtchllohbglebiaaGreatDoorZSp
import Derived.Test.YtchllohbglebiaaGreatDoorZSr
import Derived.Test.YtchllohbglebiaaGreatDoorTRy
import Derived.Test.YtchllohbglebiaaGreatDoorJTb
import Derived.Test.YtchllohbglebiaaGreatDoorJWp
set_option linter.unusedSimpArgs false
set_option linter.unusedVariables false
set_option maxHeartbeats 4000000
set_option maxRecDepth 100000
namespace Go.Proofs.YtchllohbglebiaaGreatDoor
open Go Go.VG
def fM(k:Int):Int:=if k=0 then 0 else if k=2 then 1 else if k=3 then 2 else if k=4 then 3 else if k=5 then 4 else if k=6 then 5 else if k=7 then 6 else-1
theorem Tw(k:Int):(fM k=-1/\k≠0/\k≠2/\k≠3/\k≠4/\k≠5/\k≠6/\k≠7)\/(fM k=0/\k=0)\/(fM k=1/\k=2)\/(fM k=2/\k=3)\/(fM k=3/\k=4)\/(fM k=4/\k=5)\/(fM k=5/\k=6)\/(fM k=6/\k=7):=by
 unfold fM;repeat' split
 all_goals omega
theorem RQ(c:Bool) (k:Int) (hp:True):OK 123 ([.list c 1 [.int .u8 0,.int .u8 2,.int .u8 3,.int .u8 4,.int .u8 5,.int .u8 6,.int .u8 7],.int .u8 k]) ([]) (.int .i64 (fM k)) (none):=by
 refine aq (C:=cx []) (ar trivial) (fn:=Tryz.f123) fun hw hs=>?_;have hix:=Tw k;all_goals try conv=>whnf
 all_goals try(refine ae.mk ?_;try dsimp only)
 refine aZ.mk Nat (fun i=>i<=7/\(fM k=-1\/(i:Int)<=fM k)) (fun i=>⟨19,[(0,.list c 1 [.int .u8 0,.int .u8 2,.int .u8 3,.int .u8 4,.int .u8 5,.int .u8 6,.int .u8 7]),(1,.int .u8 k),(6,.list c 1 [.int .u8 0,.int .u8 2,.int .u8 3,.int .u8 4,.int .u8 5,.int .u8 6,.int .u8 7]),(7,.int .i64 7),(8,.int .i64 i)],[],[]⟩) (fun i=>7-i) [] 0 ⟨bu _,by omega⟩ ?_ (fun i ⟨hi,hj⟩ _ _=>?_)
 . apply ay<;>(repeat' first|trivial)
 obtain⟨m,hm⟩:∃m,m=i+1:=⟨_,rfl⟩
 have h5:i=0\/i=1\/i=2\/i=3\/i=4\/i=5\/i=6\/i=7:=by omega
 rcases h5 with rfl|rfl|rfl|rfl|rfl|rfl|rfl|rfl
 all_goals
  repeat'((conv=>whnf);first|apply af|(apply av<;>intro h)|with_reducible refine iB.mk _ rfl ?_)
  all_goals try conv=>whnf
  all_goals try(refine ae.mk ?_;try dsimp only)
  all_goals try exact Int.natCast_nonneg _
  all_goals try
   (refine⟨[],m,⟨by omega,by omega⟩,?_,by omega⟩
    subst hm;apply ay<;>(repeat' first|trivial)
    done)
 all_goals
  first
   |rw[show fM k=0 by omega]
   |rw[show fM k=1 by omega]
   |rw[show fM k=2 by omega]
   |rw[show fM k=3 by omega]
   |rw[show fM k=4 by omega]
   |rw[show fM k=5 by omega]
   |rw[show fM k=6 by omega]
   |rw[show fM k=-1 by omega]
  refine ab.mk [] ?_<;>(repeat' first|trivial)
def FN:Sm:=fun args σ=>match args,σ with
 |[.list c 1 [.int .u8 0,.int .u8 2,.int .u8 3,.int .u8 4,.int .u8 5,.int .u8 6,.int .u8 7],.int .u8 k],[]=>some (True,.int .i64 (fM k),none)
 |_,_=>none
theorem UA:ax 123 FN:=by
 intro args sg pre x r he hp;unfold FN at he;split at he<;>cases he
 . exact RQ (hp:=hp) ..
theorem RO(c:Bool) (k:Int) (hp:True):OK 79 ([.list c 1 [.int .u8 0,.int .u8 2,.int .u8 3,.int .u8 4,.int .u8 5,.int .u8 6,.int .u8 7],.int .u8 k]) ([]) (.bool (decide (fM k>=0))) (none):=by
 refine aq (C:=cx [(123,FN)]) (ar ⟨UA,trivial⟩) (fn:=Tryz.f79) fun hw hs=>?_;repeat'((conv=>whnf);apply af)
 all_goals try conv=>whnf
 all_goals try(refine ae.mk ?_;try dsimp only)
 refine ab.mk [] ?_<;>(repeat' first|trivial)
def FK:Sm:=fun args σ=>match args,σ with
 |[.list c 1 [.int .u8 0,.int .u8 2,.int .u8 3,.int .u8 4,.int .u8 5,.int .u8 6,.int .u8 7],.int .u8 k],[]=>some (True,.bool (decide (fM k>=0)),none)
 |_,_=>none
theorem Ux:ax 79 FK:=by
 intro args sg pre x r he hp;unfold FK at he;split at he<;>cases he
 . exact RO (hp:=hp) ..
theorem PF(l:List ak) (hl:l.length<=1000000) (ht:ey l):OK 37 [.list false 7 (aG l),.list true 1 [.int .u8 0,.int .u8 2,.int .u8 3,.int .u8 4,.int .u8 5,.int .u8 6,.int .u8 7]] [] (.list false 7 (aG l)) none:=by
 refine aq (C:=cx [(79,FK)]) (ar ⟨Ux,trivial⟩) (fn:=Tryz.f37) fun hw _=>?_;have e1:=cX l;refine aZ.mk Nat (fun i=>i<=l.length) (fun i=>⟨29,[(1,.list true 1 [.int .u8 0,.int .u8 2,.int .u8 3,.int .u8 4,.int .u8 5,.int .u8 6,.int .u8 7]),(5,.buf 0),(8,.list false 7 (aG l)),(9,.int .i64 l.length),(10,.int .i64 i)],[.buf 7 0 ((l.take i).map ea)],[0]⟩) (fun i=>l.length-i) [.tm 5 7] 0 (bu _) ?_ (fun i hi _ _=>?_)
 . apply ay<;>(repeat' first|trivial|apply ah|apply aN)
   exact congrArg Nat.cast e1
 have hk:=fun h=>ht _ (wF (l:=l) (i:=i) h);have hsn:=fun h=>oG (l:=l) (i:=i) (d:=default) h;have hlm:((l.take i).map ea).length=i:=by rw[aA,d8];omega
 repeat'((conv=>whnf);first|apply af|(apply av<;>intro h)|with_reducible refine nr ?_ ?_)
 all_goals try conv=>whnf
 all_goals try(refine ae.mk ?_;try dsimp only)
 all_goals first|refine stay ?_|omega|(simp only[fi];omega)|skip
 . have h1:fM (l.getD i default).value.kind>=0:=by assumption
   rw[hk (by omega)] at h1;exact absurd h1 (by decide)
 . have h1:fM (l.getD i default).value.kind>=0:=by assumption
   rw[hk (by omega)] at h1;exact absurd h1 (by decide)
 . refine⟨[],i+1,by omega,?_,by omega⟩;rw[hsn (by omega)];apply ay<;>(repeat' first|trivial|apply ah|apply aN|apply bc)
   all_goals first
    |(rw[bX];omega)
    |(rw[fo];rfl)
 . obtain rfl:i=l.length:=by omega
   rw[List.take_length];refine ab.mk [.c9 0] ?_<;>(repeat' first|trivial|apply ah|apply nj)
   exact(lV _).symm
def ew(a:List ak):List ak:=if bf a bU≠[] then dy a [bU] else a
def bQ(a:List ak) (cd:Int) (nt:Ky):List ak:=if cd=1 then cf (ew a) (tA dz mg) else if cd=2 then cf (ew a) (tA cA nt) else ew a
theorem N3{a:List ak} (hr:cF a) (ht:ey a):cF (ew a)/\ey (ew a)/\(ew a).length<=a.length:=by
 unfold ew;split
 . exact⟨nT hr,yK ht,tF _ _⟩
 . exact⟨hr,ht,cb _⟩
theorem Bw{a:List ak} {cd:Int} {nt:Ky} (hr:cF a) (ht:ey a):cF (bQ a cd nt)/\ey (bQ a cd nt)/\(bQ a cd nt).length<=a.length+1:=by
 obtain⟨h1,h2,h3⟩:=N3 hr ht;have hl:=fun x=>zf (ew a) x;unfold bQ;split
 . exact⟨p6 h1,qy h2 rfl,Nat.le_trans (hl _) (by omega)⟩
 . split
   . exact⟨p6 h1,qy h2 rfl,Nat.le_trans (hl _) (by omega)⟩
   . exact⟨h1,h2,by omega⟩
def EM:Sm:=fun args σ=>match args,σ with
 |[.list false 7 x,.list true 1 [.int .u8 0,.int .u8 2,.int .u8 3,.int .u8 4,.int .u8 5,.int .u8 6,.int .u8 7]],[]=>some ((x=aG (bI x)/\x.length<=1000000)/\ey (bI x),.list false 7 x,none)
 |_,_=>none
-- #name atPlain attrs.Plain
theorem TD:ax 37 EM:=by
 intro args sg pre x r he hp;unfold EM at he;split at he<;>cases he;obtain⟨⟨h1,h2⟩,h3⟩:=hp;have h5:=congrArg List.length h1;rw[cX] at h5;have:=PF _ (by omega) h3;rw[<-h1] at this;exact this
theorem zh(t:Ky):qz (.agg [.int .u8 1,.str t,.int .i64 0,.int .u64 0,.list true 0 [],.list true 0 []]):=by
 unfold qz;exact Wk.agg (ba.cons (Wk.refl _) (ba.cons (Wk.refl _) (ba.cons (Wk.refl _) (ba.cons (Wk.refl _) (ba.cons (Wk.nil (.inl rfl)) (ba.cons (Wk.nil (.inl rfl)) ba.nil))))))
theorem Iq(a:List ak) (ha:a.length<=900000) (hr:cF a) (ht:ey a) (x0 x1 x2 x3 x4 x5 x6 x7 x8 x9 x10 x11 x12 x13 x14 x15 x16 x17 x18 x19 x20 x21 x22 x23 x24 x25 x26 x27 x28 x29 x30 x31 kd s0 e0 cd:Int) (st nm nt:gA) (c2 c3:Bool) (z2 z3:Nat) (l2 l3:List V):OK 10 [.agg (.int .u8 x0::.int .u8 x1::.int .u8 x2::.int .u8 x3::.int .u8 x4::.int .u8 x5::.int .u8 x6::.int .u8 x7::.int .u8 x8::.int .u8 x9::.int .u8 x10::.int .u8 x11::.int .u8 x12::.int .u8 x13::.int .u8 x14::.int .u8 x15::.int .u8 x16::.int .u8 x17::.int .u8 x18::.int .u8 x19::.int .u8 x20::.int .u8 x21::.int .u8 x22::.int .u8 x23::.int .u8 x24::.int .u8 x25::.int .u8 x26::.int .u8 x27::.int .u8 x28::.int .u8 x29::.int .u8 x30::.int .u8 x31::.str st::.str nm::.int .i64 kd::.int .u64 s0::.int .u64 e0::.list false 7 (aG a)::.list c2 z2 l2::.list c3 z3 l3::.int .i64 cd::.str nt::[])] [] (.list false 7 (aG (bQ a cd nt))) none:=by
 refine aq (C:=cx [(36,uP),(24,EK),(26,uZ),(25,AF),(37,EM)]) (ar ⟨zl,JH,zv,JI,TD,trivial⟩) (fn:=Tryz.f10) fun hw _=>?_;have hR:=mn hr (by omega:a.length<=1000000);have hd:=dZ a;obtain⟨b1,b2,b3⟩:=N3 hr ht;have hil:=fun(X:List ak) (x:ak) (h:X.length<=900000) =>Nat.le_trans (zf X x) (by omega:X.length+1<=1000000);have hdr:=nT (ks:=[bU]) hr;have hdt:=yK (ks:=[bU]) ht;have hdl:=tF a [bU];repeat'((conv=>whnf);first|apply af|apply aK|((first|apply av|apply gI)<;>intro h))
 all_goals try conv=>whnf
 all_goals try(refine ae.mk ?_;try dsimp only)
 all_goals (try simp only[dZ] at*)
 . exact⟨hR,ht⟩
 . exact⟨hR,zh _⟩
 . exact⟨⟨by first|rfl|trivial,by rw[cX];exact hil a _ ha⟩,qy ht rfl⟩
 . have e:bQ a cd nt=cf a (tA dz mg):=by
     unfold bQ ew;rw[if_pos (by assumption),if_neg (fun q=>q (by assumption))]
   rw[e];refine ab.mk [] ?_<;>(repeat' first|trivial)
 . exact⟨hR,zh _⟩
 . exact⟨⟨by first|rfl|trivial,by rw[cX];exact hil a _ ha⟩,qy ht rfl⟩
 . have e:bQ a cd nt=cf a (tA cA nt):=by
     unfold bQ ew;rw[if_neg (by assumption),if_pos (by assumption),if_neg (fun q=>q (by assumption))]
   rw[e];refine ab.mk [] ?_<;>(repeat' first|trivial)
 . exact⟨⟨by first|rfl|trivial,by rw[cX];exact(by omega)⟩,ht⟩
 . have e:bQ a cd nt=a:=by
     unfold bQ ew;rw[if_neg (by assumption),if_neg (by assumption),if_neg (fun q=>q (by assumption))]
   rw[e];refine ab.mk [] ?_<;>(repeat' first|trivial)
 . exact⟨⟨by first|rfl|trivial,by rw[cX];omega⟩,rfl,by decide⟩
 . exact⟨mn hdr (Nat.le_trans hdl (by omega)),zh _⟩
 . exact⟨⟨by first|rfl|trivial,by rw[cX];exact hil _ _ (Nat.le_trans hdl ha)⟩,qy hdt rfl⟩
 . have e:bQ a cd nt=cf (dy a [bU]) (tA dz mg):=by
     unfold bQ ew;rw[if_pos (by assumption),if_pos (by assumption)]
   rw[e];refine ab.mk [] ?_<;>(repeat' first|trivial)
 . exact⟨mn hdr (Nat.le_trans hdl (by omega)),zh _⟩
 . exact⟨⟨by first|rfl|trivial,by rw[cX];exact hil _ _ (Nat.le_trans hdl ha)⟩,qy hdt rfl⟩
 . have e:bQ a cd nt=cf (dy a [bU]) (tA cA nt):=by
     unfold bQ ew;rw[if_neg (by assumption),if_pos (by assumption),if_pos (by assumption)]
   rw[e];refine ab.mk [] ?_<;>(repeat' first|trivial)
 . exact⟨⟨by first|rfl|trivial,by rw[cX];exact Nat.le_trans hdl (by omega)⟩,hdt⟩
 . have e:bQ a cd nt=dy a [bU]:=by
     unfold bQ ew;rw[if_neg (by assumption),if_neg (by assumption),if_pos (by assumption)]
   rw[e];refine ab.mk [] ?_<;>(repeat' first|trivial)
abbrev ve(tags:List ak) (w:WS) (a:ak):WS:=mem w a.key (bf tags a.key)
def sO(w:WS) (tags:List ak):WS:=if tags=[] then w else(tags.foldl (ve tags) ((w.key bk).begin 123 125)).fin
def kZ(tags:List ak):List ak->Nat
 |[]=>0
 |a::r=>6*a.key.length+6*(bf tags a.key).length+100+kZ tags r
theorem Wb.vg{tags:List ak}:∀{l:List ak} {w:WS} {n:Nat},Wb w n->Wb (l.foldl (ve tags) w) (n+kZ tags l)
 |[],_,_,h=>h
 |a::r,w,n,h=>(Wb.vg (h.mem a.key (bf tags a.key))).mono (by rw[kZ];omega)
theorem N7(tags:List ak):∀(l:List ak) (i:Nat),kZ tags (l.take i)<=kZ tags l
 |[],_=>by simp
 |e::r,0=>bu _
 |e::r,i+1=>by
   have:=N7 tags r i;rw[List.take_succ_cons,kZ,kZ];omega
theorem N6(tags:List ak):∀(l:List ak) (a:ak),a∈l->6*a.key.length+6*(bf tags a.key).length<=kZ tags l
 |[],_,h=>by cases h
 |e::r,a,h=>by
   rw[kZ];rcases List.mem_cons.1 h with rfl|h
   . omega
   . have:=N6 tags r a h;omega
def pI(w:WS) (t i:gA):WS:=mem (mem (w.begin 123 125) ct (bP t)) dh (bP i)
def mY(w:WS) (z:Bool) (p:gA):WS:=if z=true then w else mem w fX (bP p)
def l8(w:WS) (k s:Ky):WS:=if s=[] then w else mem w k s
def nJ(w:WS) (t i p:gA) (z:Bool) (nm:Ky) (kd s0 e0:Int) (peer:Ky) (evs:List Ev) (tags:List ak) (svc:Ky):WS:=
 (sO (nf (hJ (hJ (fO (fO (l8 (l8 (mY (pI w t i) z p) iq nm) cJ (iH kd)) bz (eV s0 e0)) eP (fh s0 e0)) c5 svc) ff peer) evs) tags).fin
abbrev iS(k s:Ky):It:=([⟨115,k,s,1⟩],quote s)
abbrev iN(k:Ky) (n:Int):It:=([⟨110,k,fB n,1⟩],fB n)
def iO(k:Ky) (l:List It):It:=(⟨123,k,[],(aJ l).length+1⟩::aJ l,123::(bo cu l 0++[125]))
def iL(k:Ky) (l:List It):It:=(⟨91,k,[],(aJ l).length+1⟩::aJ l,91::(bo eA l 0++[93]))
theorem vQ(g:It->gA) (x:It):∀(l:List It) (i:Nat),bo g (l++[x]) i=bo g l i++((if i=0/\l=[] then[] else[44])++g x)
 |[],i=>by simp[bo]
 |y::l,i=>by
   show(if i=0 then([]:gA) else[44])++(g y++bo g (l++[x]) (i+1)) =((if i=0 then([]:gA) else[44])++(g y++bo g l (i+1)))++_;rw[vQ g x l (i+1)];simp
def dH(o:Ky) (p:List Fr) (l:List It):WS:=⟨o++bo cu l 0,p++[⟨123+2,decide (l≠[]),false⟩],true,0⟩
def mN(o:Ky) (p:List Fr) (l:List It):WS:=⟨o++bo eA l 0,p++[⟨91+2,decide (l≠[]),false⟩],true,0⟩
def pb(o:Ky) (l:List It) (k:Ky):Ky:=o++(bo cu l 0++((if l=[] then[] else[44])++(quote k++[58])))
def qB(o:Ky) (p:List Fr) (l:List It) (k:Ky):WS:=⟨pb o l k,p++[⟨123+2,true,true⟩],true,0⟩
section
variable {o:Ky} {p:List Fr} {l m:List It} {k s:Ky}
theorem xn:(dH o p l).key k=qB o p l k:=by
 unfold dH qB pb;rw[UO];by_cases h:l=[]<;>simp[h]
theorem Kw(x:It) (hk:aS x=k):(qB o p l k).put x.2=dH o p (l++[x]):=by
 unfold WS.put qB;rw[Dx];unfold dH pb;rw[vQ];subst hk;by_cases h:l=[]<;>simp[h,cu,aS]
theorem sn:mem (dH o p l) k s=dH o p (l++[iS k s]):=by
 unfold mem;rw[xn];exact Kw (iS k s) rfl
theorem DP{n:Int}:fO (dH o p l) k n=dH o p (l++[iN k n]):=by
 unfold fO;rw[xn];exact Kw (iN k n) rfl
theorem Kv(hp:p.length<31):(qB o p l k).begin 123 125=dH (pb o l k++[123]) (p++[⟨123+2,true,false⟩]) []:=by
 unfold WS.begin qB;rw[Dx,if_neg (by simp),if_neg (by simp;omega),if_pos rfl];unfold dH;simp[bo]
theorem Vb(hp:p.length<31):(qB o p l k).begin 91 93=mN (pb o l k++[91]) (p++[⟨123+2,true,false⟩]) []:=by
 unfold WS.begin qB;rw[Dx,if_neg (by simp),if_neg (by simp;omega),if_pos rfl];unfold mN;simp[bo]
theorem Lx:(dH (pb o l k++[123]) (p++[⟨123+2,true,false⟩]) m).fin=dH o p (l++[iO k m]):=by
 unfold dH;rw[yR,vQ];by_cases h:l=[]<;>simp[h,cu,iO,kJ,pb]
theorem VA:(mN (pb o l k++[91]) (p++[⟨123+2,true,false⟩]) m).fin=dH o p (l++[iL k m]):=by
 unfold mN;rw[yR];unfold dH;rw[vQ];by_cases h:l=[]<;>simp[h,cu,iL,kJ,pb]
def lsO(o:Ky) (l:List It):Ky:=o++(bo eA l 0++(if l=[] then[] else[44]))
theorem VB(hp:p.length<31):(mN o p l).begin 123 125=dH (lsO o l++[123]) (p++[⟨91+2,true,false⟩]) []:=by
 unfold WS.begin mN;rw[VJ,if_neg (by simp),if_neg (by simp;omega),if_pos rfl];unfold dH lsO;by_cases h:l=[]<;>simp[h,bo]
theorem VC:(dH (lsO o l++[123]) (p++[⟨91+2,true,false⟩]) m).fin=mN o p (l++[iO [] m]):=by
 unfold dH;rw[yR];unfold mN lsO;rw[vQ];by_cases h:l=[]<;>simp[h,eA,iO]
end
def iE(k s:Ky):List It:=if s=[] then[] else[iO k [iS jw s]]
def qv(e:Ev):It:=iO [] [iN bz (ga e.time),iS fY e.name]
def iA(evs:List Ev):List It:=if evs=[] then[] else[iL bh (evs.map qv)]
def uc(tags:List ak) (a:ak):It:=iS a.key (bf tags a.key)
def iT(tags:List ak):List It:=if tags=[] then[] else[iO bk (tags.map (uc tags))]
def iX(k s:Ky):List It:=if s=[] then[] else[iS k s]
def iP(z:Bool) (p:gA):List It:=if z=true then[] else[iS fX (bP p)]
theorem Lw{o:Ky} {p:List Fr} {l:List It} {k s:Ky} (hp:p.length<31):hJ (dH o p l) k s=dH o p (l++iE k s):=by
 unfold hJ iE;split
 . rw[List.append_nil]
 . rw[xn,Kv hp,sn,Lx];rfl
theorem ls_ev{o:Ky} {p:List Fr} {l:List It} {e:Ev} (hp:p.length<31):oW (mN o p l) e=mN o p (l++[qv e]):=by
 unfold oW;rw[VB hp,DP,sn,VC];rfl
theorem KZ{o:Ky} {p:List Fr} (hp:p.length<31):∀(evs:List Ev) (l:List It),evs.foldl oW (mN o p l) =mN o p (l++evs.map qv)
 |[],l=>by rw[List.map_nil,List.append_nil];rfl
 |e::r,l=>by
   rw[List.foldl_cons,ls_ev hp,KZ hp r,eg];rfl
theorem W9{o:Ky} {p:List Fr} {l:List It} {evs:List Ev} (hp:p.length<30):nf (dH o p l) evs=dH o p (l++iA evs):=by
 unfold nf iA;split
 . rw[List.append_nil]
 . rw[xn,Vb (by omega),KZ (by rw[an];simp;omega),VA];rfl
theorem Lz{o:Ky} {p:List Fr} {tags:List ak}:∀(r:List ak) (l:List It),r.foldl (ve tags) (dH o p l) =dH o p (l++r.map (uc tags))
 |[],l=>by rw[List.map_nil,List.append_nil];rfl
 |e::r,l=>by
   rw[List.foldl_cons,ve,sn,Lz r,eg];rfl
theorem Wa{o:Ky} {p:List Fr} {l:List It} {tags:List ak} (hp:p.length<31):sO (dH o p l) tags=dH o p (l++iT tags):=by
 unfold sO iT;split
 . rw[List.append_nil]
 . rw[xn,Kv hp,Lz,Lx];rfl
theorem LA{o:Ky} {p:List Fr} {l:List It} {k s:Ky}:l8 (dH o p l) k s=dH o p (l++iX k s):=by
 unfold l8 iX;split
 . rw[List.append_nil]
 . rw[sn]
theorem Wc{o:Ky} {p:List Fr} {l:List It} {z:Bool} {q:Ky}:mY (dH o p l) z q=dH o p (l++iP z q):=by
 unfold mY iP;split
 . rw[List.append_nil]
 . rw[sn]
def v7(t i p:gA) (z:Bool) (nm:Ky) (kd b0 l0:Int) (peer:Ky) (evs:List Ev) (tags:List ak) (svc:Ky):List It:=
 [iS ct (bP t),iS dh (bP i)]++iP z p++iX iq nm++iX cJ (iH kd)++[iN bz b0,iN eP l0]++iE c5 svc++iE ff peer++iA evs++iT tags
theorem ZB{t i p:gA} {z:Bool} {nm:Ky} {kd s0 e0:Int} {peer:Ky} {evs:List Ev} {tags:List ak} {svc:Ky}:
   nJ .new t i p z nm kd s0 e0 peer evs tags svc=⟨(iO [] (v7 t i p z nm kd (eV s0 e0) (fh s0 e0) peer evs tags svc)).2,[],true,0⟩:=by
 have h0:WS.new.begin 123 125=dH [123] [] []:=rfl;unfold nJ pI;rw[h0,sn,sn,Wc,LA,LA,DP,DP,Lw (by decide),Lw (by decide),W9 (by decide),Wa (by decide)];unfold dH;rw[yR];simp[iO,v7]
theorem Ck(n:Nat):∀c∈dec n,bq c=true:=by
 induction n using Nat.strongRecOn with
 |ind n ih=>
   intro c hc;have hd:∀m,m<10->bq (digit m) =true:=fun m hm=>by
    have:m=0\/m=1\/m=2\/m=3\/m=4\/m=5\/m=6\/m=7\/m=8\/m=9:=by omega
    rcases this with h|h|h|h|h|h|h|h|h|h<;>(subst h;decide)
   by_cases h:n<10
   . rw[dec_lt h,List.mem_singleton] at hc;rw[hc];exact hd n h
   . rw[tz h] at hc;rcases List.mem_append.1 hc with hc|hc
     . exact ih _ (by omega) c hc
     . rw[List.mem_singleton] at hc;rw[hc];exact hd _ (by omega)
theorem HL(n:Nat) (h:0<n):((dec n).getD 0 0).toNat≠48:=by
 induction n using Nat.strongRecOn with
 |ind n ih=>
   by_cases h1:n<10
   . rw[dec_lt h1];have:n=1\/n=2\/n=3\/n=4\/n=5\/n=6\/n=7\/n=8\/n=9:=by omega
     rcases this with q|q|q|q|q|q|q|q|q<;>(subst q;decide)
   . rw[tz h1];have hp:=vU (n/10);rw[ac,dl (by omega),<-ac];exact ih _ (by omega) (by omega)
theorem Mi:∀(l:gA) (p:gA),(∀c∈l,bq c=true)->iv (p++l) p.length=p.length+l.length
 |[],p,_=>by rw[List.append_nil];exact sD (.inl (cb _))
 |c::l,p,h=>by
   have e:p++c::l=(p++[c])++l:=by simp
   rw[uI (by simp) (by rw[ac,dt (cb _)];simpa using h c List.mem_cons_self),e];have:=Mi l (p++[c]) fun x hx=>h x (d5 _ hx);rw[an,gc] at this;rw[this,List.length_cons];omega
theorem DK(p:gA) (n:Nat) (hp:p=[]\/p=[45]):cE (p++dec n) 0=((p++dec n).length,0):=by
 have hd:=Ck n;have hpos:=vU n;have hs:bL (p++dec n) 0 45 45=p.length:=by
  unfold bL;rcases hp with rfl|rfl
  . rw[if_neg];rfl;rw[j6];intro q;have h0:bq ((dec n).getD 0 0) =true:=hd _ (by
     rw[ac,am (by omega)];exact List.getElem_mem _)
    have:=oP.1 h0;have q2:=q.2;rw[List.nil_append] at q2;omega
  . rw[if_pos];rfl;rw[j6];exact⟨by simp,.inl rfl⟩
 have hr:=Mi (dec n) p hd;have hat:(p++dec n).getD p.length 0=(dec n).getD 0 0:=by
  rw[ac,dt (cb _),Nat.sub_self,<-ac]
 have hend:∀a b,dj (p++dec n) (p++dec n).length a b=false:=fun a b=>by
  rw[A4];omega
 have hw:aP (p++dec n) 0=((p++dec n).length,0):=by
  unfold aP;rw[hs];by_cases h0:n=0
  . subst h0;have e:dec 0=[48]:=by rw[dec_lt (by decide)];rfl
    rw[if_pos (by rw[j6,hat,e];exact⟨by rw[an];simp,.inl rfl⟩),e,an];rfl
  . rw[if_neg (by rw[j6,hat];intro q;exact HL n (by omega) (by rcases q.2 with z|z<;>exact z))];unfold dG;rw[hr,if_pos (by omega),an]
 unfold cE;rw[hw];have hb:bT (p++dec n) ((p++dec n).length,0) =((p++dec n).length,0):=by
  unfold bT;rw[if_neg (fun q=>by have:=q.2;rw[hend] at this;cases this)]
 rw[hb];unfold ke;rw[if_neg (fun q=>by have:=q.2;rw[hend] at this;cases this)]
theorem W0(n:Int):isNum (fB n):=by
 unfold fB;split
 . refine⟨by simp,?_,.inl rfl⟩;exact DK [45] n.natAbs (.inr rfl)
 . have hpos:=vU n.toNat;refine⟨by omega,?_,.inr (Ck n.toNat _ ?_)⟩
   . have:=DK [] n.toNat (.inl rfl);rw[List.nil_append] at this;exact this
   . rw[ac,am (by omega)];exact List.getElem_mem _
theorem Zn(n:Nat):fQ (dec n) =n:=by
 induction n using Nat.strongRecOn with
 |ind n ih=>
   have hd:∀m,m<10->(digit m).toNat-48=m:=fun m hm=>by
    have:m=0\/m=1\/m=2\/m=3\/m=4\/m=5\/m=6\/m=7\/m=8\/m=9:=by omega
    rcases this with h|h|h|h|h|h|h|h|h|h<;>(subst h;rfl)
   by_cases h:n<10
   . rw[dec_lt h,Zm,hd n h];show n*1+0=n;omega
   . rw[tz h,Ny,ih _ (by omega),hd _ (by omega)];omega
theorem Ln{s:gA} {b:UInt8} (h:aY s) (hb:b∈s):48<=b.toNat/\b.toNat<=57:=of_decide_eq_true (h b hb)
theorem Zw{n:Nat} (hn:n<=9223372036854775807):ki (dec n) =((n:Int),0):=by
 have hd:aY (dec n):=Ck n;have hp:=vU n;have hne:dec n≠[]:=fun q=>by rw[q] at hp;exact absurd hp (by decide)
 have hok:cE (dec n) 0=((dec n).length,0):=DK [] n (.inl rfl);have h1:(cE (dec n) 0).1=(dec n).length:=by rw[hok]
 have h2:(cE (dec n) 0).2=0:=by rw[hok]
 obtain⟨e,hF⟩:=DN h1 h2;have hm:dj (dec n) 0 45 45=false:=by
  rw[A4];rintro⟨q1,q2⟩;have:=mz hd q1;omega
 have eq:=hF.eq;have hb:(bV (dec n) 0).b=[]:=by
  by_cases q:(bV (dec n) 0).b=[]
  . exact q
  . rw[if_neg q] at eq;exact absurd (Ln hd (b:=46) (by rw[eq];simp)).1 (by decide)
 have hpp:(bV (dec n) 0).p=[]:=by
  by_cases q:(bV (dec n) 0).p=[]
  . exact q
  . rw[if_neg q] at eq;have:=Ln hd (b:=e) (by rw[eq];simp);have:=hF.he;omega
 have hw:(bV (dec n) 0).w=dec n:=by
  rw[hb,hpp,hm] at eq;simpa using eq.symm
 unfold ki;rw[if_pos ⟨h1,h2⟩,hb,hpp,hm,hw,List.append_nil];by_cases h0:n=0
 . subst h0;rw[if_pos (by rw[dec_lt (by decide)];rfl)];rfl
 have hf:=HL n (by omega);rw[Gc (.inr hf),if_neg hne];have hl:(dec n).length<=19:=yG 18 n (by omega);unfold oL;rw[show fq []-(([]:gA).length:Int) =0 from rfl,if_neg (by omega),if_neg (by omega)];have ht:(dec n).take (((dec n).length:Int)+min 0 0).toNat=dec n:=eo (by omega);rw[ht];have he:qS false (dec n++List.replicate (0:Int).toNat 48) =dec n:=by unfold qS;simp
 rw[he];unfold jL;rw[if_pos (.inr (by have:=mz hd (i:=0) (by omega);omega)),if_pos (CJ hne (fun q=>absurd q hf) hd)];unfold gn;rw[Zn,if_pos hn]
theorem Zx{n:Int} (h0:0<=n) (hn:n<=9223372036854775807):ki (fB n) =(n,0):=by
 unfold fB;rw[if_neg (by omega),Zw (by omega)];exact Prod.ext (Int.toNat_of_nonneg h0) rfl
def pk(key:Ky):Nat->List It->Int
 |_,[]=>-1
 |p,x::r=>if aS x=key then p else pk key (p+x.1.length) r
theorem IA{d:Nat} {B:List Nd} {key:Ky}:∀(l:List It) (P:List Nd),(∀x∈l,TT d x.1 x.2)->lA (P++(aJ l++B)) key (oF P.length l) =pk key P.length l
 |[],_,_=>rfl
 |x::l,P,ht=>by
   have h1:=(ht x List.mem_cons_self).pos.1;have e:P++(aJ (x::l)++B) =P++(x.1++(aJ l++B)):=by show P++((x.1++aJ l)++B) =_;rw[eg]
   have ih:=IA (B:=B) (key:=key) l (P++x.1) fun y hy=>ht y (d5 _ hy);rw[oF,lA,pk];rw[e,yY h1];rw[an,eg] at ih;rw[ih];rfl
theorem LR{key:Ky}:∀(l:List It) (p:Nat),key∉l.map aS->pk key p l=-1
 |[],_,_=>rfl
 |x::l,p,h=>by
   rw[List.map_cons,List.mem_cons] at h;rw[pk,if_neg (fun q=>h (.inl q.symm)),LR l _ fun q=>h (.inr q)]
theorem pos_at{x:It}:∀(l:List It) (p:Nat),(l.map aS).Nodup->x∈l->∃l1 l2,l=l1++x::l2/\pk (aS x) p l=(p+(aJ l1).length:Nat)
 |y::l,p,hn,hx=>by
   rw[List.map_cons,List.nodup_cons] at hn;rcases List.mem_cons.1 hx with rfl|hx
   . exact⟨[],l,rfl,by rw[pk,if_pos rfl];rfl⟩
   . obtain⟨l1,l2,e,h⟩:=pos_at l (p+y.1.length) hn.2 hx;refine⟨y::l1,l2,by rw[e];rfl,?_⟩;rw[pk,if_neg (fun q=>hn.1 (by rw[q];exact List.mem_map_of_mem hx)),h];show _=((p+(y.1++aJ l1).length:Nat):Int);rw[an];omega
def eB(L:List Nd) (a:Nat) (x:It):Prop:=∃A B,L=A++(x.1++B)/\A.length=a
section
variable {L:List Nd} {a d:Nat} {x:It} {l:List It} {k key s:Ky}
theorem eB.nd(h:eB L a x) (h1:1<=x.1.length):L.getD a default=kJ x.1/\a<L.length:=by
 obtain⟨A,B,rfl,rfl⟩:=h;exact⟨yY h1,by simp only[an];omega⟩
theorem eB.sub{l1 l2:List It} {N:Nd} {t:Ky} (h:eB L a (N::aJ l,t)) (hl:l=l1++x::l2):eB L (a+1+(aJ l1).length) x:=by
 obtain⟨A,B,rfl,rfl⟩:=h;refine⟨A++N::aJ l1,aJ l2++B,?_,?_⟩
 . subst hl;rw[tZ];show A++((N::(aJ l1++(x.1++aJ l2)))++B) =_;simp
 . simp only[an,List.length_cons];omega
theorem eB.kids{N:Nd} {t:Ky} (h:eB L a (N::aJ l,t)) (ht:∀x∈l,TT d x.1 x.2) (hs:N.sz=(aJ l).length+1):bA L a=oF (a+1) l:=by
 obtain⟨A,B,rfl,rfl⟩:=h;unfold bA;rw[if_pos ⟨Int.natCast_nonneg _,by simp only[an,List.length_cons];omega⟩];exact UU ht hs
theorem eB.find(h:eB L a (iO k l)) (ht:∀x∈l,TT d x.1 x.2):fK L a key=pk key (a+1) l:=by
 have hk:=h.kids ht rfl;have hn:=h.nd (by show 1<=(_::aJ l).length;simp);obtain⟨A,B,rfl,rfl⟩:=h;unfold fK;rw[if_pos ⟨Int.natCast_nonneg _,by omega,by rw[Int.toNat_natCast,hn.1];rfl⟩,hk];have e:A++((iO k l).1++B) =(A++[(⟨123,k,[],(aJ l).length+1⟩:Nd)])++(aJ l++B):=by unfold iO;simp
 have:=IA (B:=B) (key:=key) l (A++[(⟨123,k,[],(aJ l).length+1⟩:Nd)]) ht;rw[an,gc] at this;rw[e,this]
theorem eB.none(h:eB L a (iO k l)) (ht:∀x∈l,TT d x.1 x.2) (hk:key∉l.map aS) (p q:Int):aT L a key p q=(-1,0):=by
 unfold aT;rw[h.find ht,LR _ _ hk,if_pos (.inl (by decide))]
theorem eB.pick(h:eB L a (iO k l)) (ht:∀x∈l,TT d x.1 x.2) (hn:(l.map aS).Nodup) (hx:x∈l) (hk:aS x=key) (h0:(kJ x.1).k.toNat≠122) (q:Int):∃j:Nat,eB L j x/\L.getD j default=kJ x.1/\aT L a key ((kJ x.1).k.toNat:Nat) q=((j:Int),0):=by
 obtain⟨l1,l2,e,hp⟩:=pos_at l (a+1) hn hx;have hs:=h.sub e;have hg:=(hs.nd (ht x hx).pos.1).1;refine⟨_,hs,hg,?_⟩;unfold aT;subst hk;rw[h.find ht,hp,Int.toNat_natCast,hg,if_neg (by omega),if_pos (.inl rfl)]
end
section
variable {L:List Nd} {a d:Nat} {l m:List It} {k key s:Ky} {n:Int}
theorem vw(h:eB L a (iO k l)) (ht:∀x∈l,TT d x.1 x.2) (hn:(l.map aS).Nodup) (hx:iS key s∈l):c8 L a key=0/\c7 L a key=true/\bO L a key=s:=by
 obtain⟨j,h1,h2,h3⟩:=h.pick ht hn hx rfl (by show(115:UInt8).toNat≠122;decide) 115;have h3:aT L a key 115 115=((j:Int),0):=h3;unfold c8 c7 bO gH p0;rw[h3,if_neg (by show¬(j:Int)<0;omega),if_neg (by show¬(j:Int)<0;omega),Int.toNat_natCast,h2];exact⟨rfl,decide_eq_true (by omega),rfl⟩
theorem O8(h:eB L a (iO k l)) (ht:∀x∈l,TT d x.1 x.2) (hk:key∉l.map aS):c8 L a key=0/\c7 L a key=false/\bO L a key=[]:=by
 unfold c8 c7 bO;rw[h.none ht hk];exact⟨rfl,rfl,rfl⟩
theorem GS(h:eB L a (iO k l)) (ht:∀x∈l,TT d x.1 x.2) (hn:(l.map aS).Nodup) (hx:iN key n∈l) (h0:0<=n) (h1:n<=9223372036854775807):eS L a key=0/\oM L a key=true/\fw L a key=n:=by
 obtain⟨j,g1,g2,g3⟩:=h.pick ht hn hx rfl (by show(110:UInt8).toNat≠122;decide) 110;have g3:aT L a key 110 110=((j:Int),0):=g3;have gw:nW L (j:Int) =(n,0):=by
  unfold nW;rw[Int.toNat_natCast,g2];exact Zx h0 h1
 unfold eS oM fw ql rV rW;rw[g3];dsimp only;rw[if_neg (by omega),if_neg (by omega),if_neg (by omega),gw];exact⟨rfl,rfl,rfl⟩
theorem O5(h:eB L a (iO k l)) (ht:∀x∈l,TT d x.1 x.2) (hn:(l.map aS).Nodup) (hx:iO key m∈l):∃j:Nat,eB L j (iO key m)/\km L a key=0/\jn L a key=true/\cB L a key=j:=by
 obtain⟨j,g1,g2,g3⟩:=h.pick ht hn hx rfl (by show(123:UInt8).toNat≠122;decide) 123;have g3:aT L a key 123 123=((j:Int),0):=g3;refine⟨j,g1,?_⟩;unfold km jn cB gH rT;rw[g3,if_neg (by show¬(j:Int)<0;omega),if_neg (by show¬(j:Int)<0;omega)];exact⟨rfl,decide_eq_true (by omega),rfl⟩
theorem O4(h:eB L a (iO k l)) (ht:∀x∈l,TT d x.1 x.2) (hk:key∉l.map aS):km L a key=0/\jn L a key=false:=by
 unfold km jn;rw[h.none ht hk];exact⟨rfl,rfl⟩
theorem ZT{e:Nat} (h:eB L a (iO k l)) (ht:∀x∈l,TT d x.1 x.2) (hn:(l.map aS).Nodup) (hx:iL key m∈l) (hm:∀x∈m,TT e x.1 x.2):∃j:Nat,eB L j (iL key m)/\n7 L a key=0/\cj L a key=oF (j+1) m:=by
 obtain⟨j,g1,g2,g3⟩:=h.pick ht hn hx rfl (by show(91:UInt8).toNat≠122;decide) 91;have g3:aT L a key 91 91=((j:Int),0):=g3;have hk:=g1.kids hm rfl;refine⟨j,g1,?_⟩;unfold n7 cj gH oZ;rw[g3,if_neg (by show¬(j:Int)<0;omega),if_neg (by show¬(j:Int)<0;omega)];exact⟨rfl,hk⟩
theorem ZS(h:eB L a (iO k l)) (ht:∀x∈l,TT d x.1 x.2) (hk:key∉l.map aS):n7 L a key=0/\cj L a key=[]:=by
 unfold n7 cj;rw[h.none ht hk];exact⟨rfl,rfl⟩
end
end Go.Proofs.YtchllohbglebiaaGreatDoor
