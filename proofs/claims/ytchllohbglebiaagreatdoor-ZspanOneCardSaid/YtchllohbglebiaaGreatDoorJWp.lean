/-
  A part of the proof.
-/
import Derived.Test.YtchllohbglebiaaGreatDoorUTFe
import Derived.Test.YtchllohbglebiaaGreatDoorJTx
set_option linter.unusedSimpArgs false
set_option linter.unusedVariables false
set_option maxHeartbeats 4000000
set_option maxRecDepth 100000
namespace Go.Proofs.YtchllohbglebiaaGreatDoor
open Go Go.VG
def ME(k:Nat):Sm:=fun args σ=>match args,σ with
 |[.int .u64 q],[]=>some ((0<=q/\q<=18446744073709551615)/\q<k,.str (dec q.toNat),none)
 |_,_=>none
theorem f_TextU{k:Nat} (ih:ax 197 (ME k)) (n:Nat) (hn:n<k+1) (hb:n<18446744073709551616):OK 197 [.int .u64 n] [] (.str (dec n)) none:=by
 refine aq (C:=cx [(197,ME k)]) (ar ⟨ih,trivial⟩) (fn:=Tryz.f197) fun _ _=>?_;have hc:((n:Int).tmod 10) =((n%10:Nat):Int):=by(first|omega|(simp(discharger:=omega) only[wR];omega)|(simp only[fi];omega)|(simp(discharger:=omega) [-List.getD_eq_getElem?_getD,wR]<;>omega))
 have hd:IntKind.u64.wrap ((n:Int).tdiv 10) =((n/10:Nat):Int):=by(first|omega|(simp(discharger:=omega) only[wR];omega)|(simp only[fi];omega)|(simp(discharger:=omega) [-List.getD_eq_getElem?_getD,wR]<;>omega))
 have hcut:((List.take (IntKind.u64.wrap ((n:Int).tmod 10+1)).toNat [48,49,50,51,52,53,54,55,56,57]).drop ((n:Int).tmod 10).toNat:gA) =[digit (n%10)]:=P5 (n%10) hc (by rw[hc];(first|omega|(simp(discharger:=omega) only[wR];omega)|(simp only[fi];omega)|(simp(discharger:=omega) [-List.getD_eq_getElem?_getD,wR]<;>omega))) (by omega);repeat'((conv=>whnf);first|with_reducible (first|refine go1 (fun j q h=>?_) fun h=>?_|refine go2 ⟨rfl,rfl⟩ (fun h=>?_) fun j h=>?_|refine go2 ?_ (fun h=>?_) fun j h=>?_|refine cM ?_ (fun h=>?_) fun h=>?_)|apply af|apply fE|apply aK|((first|apply av|apply go7|apply go8|apply gI|apply fF)<;>intro h)|with_reducible (first|refine iB.mk _ rfl ?_|refine goB ?_ fun hc=>?_|refine goC ?_ fun hc=>?_|refine fG ?_ fun hc=>?_|refine lG ?_ fun hc=>?_|apply lZ|apply kH|refine qn ?_ fun b hb=>?_)|apply oc|apply goJ|apply goK|apply goL|apply goM|apply goN|apply goO|with_reducible refine goP ?_)
 all_goals try conv=>whnf
 all_goals try(refine ae.mk ?_;try dsimp only)
 all_goals first|refine stay ?_|trivial|omega|(simp(discharger:=omega) only[wR];omega)|(simp only[fi];omega)|(simp(discharger:=omega) [-List.getD_eq_getElem?_getD,wR]<;>omega)|skip
 . refine ab.mk [] ?_<;>(repeat' first|trivial|rfl|exact eqS _ _|apply ah|apply eF|apply aN|apply mE|apply bc|apply jI|apply nj|apply jW|apply nX|apply cT)
   exact hcut.trans (by rw[dec_lt (by omega),Nat.mod_eq_of_lt (by omega)])
 . rw[show(List.drop _ (List.take _ _):gA) =_ from hcut,hd,Int.toNat_natCast];have:=yH (n:=n/10) (by omega);simp;omega
 . refine ab.mk [] ?_<;>(repeat' first|trivial|rfl|exact eqS _ _|apply ah|apply eF|apply aN|apply mE|apply bc|apply jI|apply nj|apply jW|apply nX|apply cT)
   rw[show(List.drop _ (List.take _ _):gA) =_ from hcut,hd,Int.toNat_natCast,tz (n:=n) (by omega)]
def ZZ(k:Nat):Sm:=fun args σ=>match args,σ with
 |[.int .i64 q],[]=>some ((-9223372036854775808<=q/\q<=9223372036854775807)/\q.natAbs<k,.str (fB q),none)
 |_,_=>none
theorem PX(c:Nat) (hp:True):OK 171 ([.list true c []]) ([]) (.buf 0) (some [.buf 1 0 []]):=by
 refine eU.args (ys:=[.list true 0 []]) ?_ (ba.cons (Wk.nil (.inl rfl)) (ba.refl _));refine aq (C:=cx []) (ar trivial) (fn:=Tryz.f171) fun _ _=>?_;repeat'((conv=>whnf);apply af)
 all_goals try conv=>whnf
 all_goals try(refine ae.mk ?_;try dsimp only)
 all_goals first|refine stay ?_|trivial|skip
 refine ab.mk [] ?_<;>(repeat' first|trivial)
theorem PY(l:List V) (hp:l.length<=4000000000):OK 171 ([.buf 0]) ([.buf 1 0 l]) (.buf 0) (some [.buf 1 0 l]):=by
 refine aq (C:=cx []) (ar trivial) (fn:=Tryz.f171) fun hw hs=>?_;repeat'((conv=>whnf);apply af)
 all_goals try conv=>whnf
 all_goals try(refine ae.mk ?_;try dsimp only)
 all_goals first|refine stay ?_|(simp(discharger:=omega) only[wR];omega)|skip
 refine ab.mk [.swap 0 1] ?_<;>(repeat' first|trivial|apply ah|apply bc)
 simp
def AI:Sm:=fun args σ=>match args,σ with
 |[.list true c []],[]=>some (True,.buf 0,some [.buf 1 0 []])
 |[.buf 0],[.buf 1 0 l]=>some (l.length<=4000000000,.buf 0,some [.buf 1 0 l])
 |_,_=>none
theorem JL:ax 171 AI:=by
 intro args sg pre x r he hp;unfold AI at he;split at he<;>cases he
 . exact PX (hp:=hp) ..
 . exact PY (hp:=hp) ..
theorem Yv(a:Nat) (d:UInt8) (ds:gA):(List.replicate (a+1) 0++ds).set a d=List.replicate a 0++d::ds:=by
 rw[List.replicate_succ',eg,List.set_append_right _ _ (by simp)];simp
theorem PZ(l:List V) (hl:l.length<=4000000000) (n:Nat) (hn:n<18446744073709551616):OK 172 [.buf 0,.int .u64 n] [.buf 1 0 l] (.buf 0) (some [.buf 1 0 (l++bl (dec n))]):=by
 refine aq (C:=cx []) (ar trivial) (fn:=Tryz.f172) fun _ _=>?_;have h20:=yH hn;refine aZ.mk (Nat×Nat×gA) (fun|(i,u,ds) =>i+ds.length=20/\dec n=dec u++ds/\u<=n)
  (fun|(i,u,ds) =>⟨23,[(0,.buf 0),(1,.int .u64 u),(5,.ptr 1 0),(6,.int .i64 i)],[.buf 1 0 l,.cells (bl (List.replicate i 0++ds))],[]⟩)
  (fun x=>x.2.1) [] (20,n,[]) (by simp) ?_ (fun⟨i,u,ds⟩ ⟨hi,hd,hu⟩ _ _=>?_)
 . apply ay<;>(repeat' first|trivial)
 have hlen:(dec n).length=(dec u).length+ds.length:=by rw[hd];simp
 have hp:=vU u;have hset:(bl (List.replicate i 0++ds)).set (0+(IntKind.i64.wrap ((i:Int)-1)).toNat*1) (V.int .u8 (IntKind.u8.wrap (48+IntKind.u8.wrap ((u:Int).tmod 10)))) =bl (List.replicate (i-1) 0++digit (u%10)::ds):=by
  rw[show(0+(IntKind.i64.wrap ((i:Int)-1)).toNat*1) =i-1 by(simp(discharger:=omega) only[wR];omega),show IntKind.u8.wrap (48+IntKind.u8.wrap ((u:Int).tmod 10)) =((digit (u%10)).toNat:Int) by
   simp only[digit,UInt8.toNat_ofNat'];(simp(discharger:=omega) only[wR];omega)]
  rw[Ov,<-Yv (i-1),show i-1+1=i by omega]
 have hq:IntKind.u64.wrap ((u:Int).tdiv 10) =((u/10:Nat):Int):=by(simp(discharger:=omega) only[wR];omega)
 repeat'((conv=>whnf);first|apply af|apply fE|(apply av<;>intro h)|apply goN|apply goO|with_reducible refine goP ?_)
 all_goals try conv=>whnf
 all_goals try(refine ae.mk ?_;try dsimp only)
 all_goals (try rw[hset])
 all_goals (try rw[hq])
 all_goals first|refine stay ?_|trivial|(simp(discharger:=omega) only[wR];omega)|(simp only[fi];omega)|skip
 . rw[je,an,List.length_replicate];(simp(discharger:=omega) only[wR];omega)
 . rw[X8,Wh];rfl
 . rw[je];simp;omega
 . refine ab.mk [] ?_<;>(repeat' first|trivial|apply ah|apply bc)
   refine congrArg _ ?_;rw[List.drop_zero,eo (by rw[je];simp;omega),Ou,show(IntKind.i64.wrap ((i:Int)-1)).toNat=i-1 by(simp(discharger:=omega) only[wR];omega),List.drop_left' (by simp),hd,dec_lt (n:=u) (by omega),Nat.mod_eq_of_lt (by omega)];rfl
 . refine⟨[],(i-1,u/10,digit (u%10)::ds),⟨by simp;omega,by rw[hd,tz (n:=u) (by omega)];simp,by omega⟩,?_,by show u/10<u;omega⟩;apply ay<;>(repeat' first|trivial|exact eqS _ _|apply ah|apply aN)
   (simp(discharger:=omega) only[wR];omega)
def AJ:Sm:=fun args σ=>match args,σ with
 |[.buf 0,.int .u64 q],[.buf 1 0 l]=>some ((0<=q/\q<=18446744073709551615)/\l.length<=4000000000,.buf 0,some [.buf 1 0 (l++bl (dec q.toNat))])
 |_,_=>none
theorem JM:ax 172 AJ:=by
 intro args sg pre x r he hp;unfold AJ at he;split at he<;>cases he;obtain⟨⟨h0,h1⟩,h2⟩:=hp;obtain⟨m,rfl⟩:=Int.eq_ofNat_of_zero_le h0;exact PZ _ h2 m (by omega)
theorem Q0(c:Nat) (q:Int) (hp:-9223372036854775808<=q/\q<=9223372036854775807):OK 141 ([.list true c [],.int .i64 q]) ([]) (.buf 0) (some [.buf 1 0 (bl (fB q))]):=by
 refine eU.args (ys:=[.list true 0 [],.int .i64 q]) ?_ (ba.cons (Wk.nil (.inl rfl)) (ba.refl _));refine aq (C:=cx [(171,AI),(172,AJ)]) (ar ⟨JL,JM,trivial⟩) (fn:=Tryz.f141) fun _ _=>?_;repeat'((conv=>whnf);first|apply af|(apply av<;>intro h))
 all_goals try conv=>whnf
 all_goals try(refine ae.mk ?_;try dsimp only)
 all_goals first|refine stay ?_|trivial|(simp(discharger:=omega) [-List.getD_eq_getElem?_getD,wR]<;>omega)|skip
 . refine ab.mk [] ?_<;>(repeat' first|trivial|apply ah|apply bc)
   unfold fB;rw[if_pos (by assumption),show(IntKind.u64.wrap (0-IntKind.u64.wrap q)).toNat=q.natAbs by(simp(discharger:=omega) only[wR];omega)];rfl
 . refine ab.mk [] ?_<;>(repeat' first|trivial|apply ah|apply bc)
   unfold fB;rw[if_neg (by assumption),show(IntKind.u64.wrap q).toNat=q.toNat by(simp(discharger:=omega) only[wR];omega)];rfl
theorem Q1(q:Int) (l:List V) (hp:(-9223372036854775808<=q/\q<=9223372036854775807)/\l.length<=3000000000):OK 141 ([.buf 0,.int .i64 q]) ([.buf 1 0 l]) (.buf 0) (some [.buf 1 0 (l++bl (fB q))]):=by
 refine aq (C:=cx [(171,AI),(172,AJ)]) (ar ⟨JL,JM,trivial⟩) (fn:=Tryz.f141) fun hw hs=>?_;repeat'((conv=>whnf);first|apply af|(apply av<;>intro h))
 all_goals try conv=>whnf
 all_goals try(refine ae.mk ?_;try dsimp only)
 all_goals first|refine stay ?_|omega|(simp(discharger:=omega) only[wR];omega)|(simp only[fi];omega)|(simp(discharger:=omega) [-List.getD_eq_getElem?_getD,wR]<;>omega)|skip
 . refine ab.mk [] ?_<;>(repeat' first|trivial|apply ah|apply bc)
   unfold fB;rw[if_pos (by omega),show(IntKind.u64.wrap (0-IntKind.u64.wrap q)).toNat=q.natAbs by(simp(discharger:=omega) only[wR];omega)];rw[eg];rfl
 . refine ab.mk [] ?_<;>(repeat' first|trivial|apply ah|apply bc)
   unfold fB;rw[if_neg (by omega),show(IntKind.u64.wrap q).toNat=q.toNat by(simp(discharger:=omega) only[wR];omega)]
def EX:Sm:=fun args σ=>match args,σ with
 |[.list true c [],.int .i64 q],[]=>some (-9223372036854775808<=q/\q<=9223372036854775807,.buf 0,some [.buf 1 0 (bl (fB q))])
 |[.buf 0,.int .i64 q],[.buf 1 0 l]=>some ((-9223372036854775808<=q/\q<=9223372036854775807)/\l.length<=3000000000,.buf 0,some [.buf 1 0 (l++bl (fB q))])
 |_,_=>none
theorem TO:ax 141 EX:=by
 intro args sg pre x r he hp;unfold EX at he;split at he<;>cases he
 . exact Q0 (hp:=hp) ..
 . exact Q1 (hp:=hp) ..
structure Fr where
 e:UInt8
 b:Bool
 k:Bool
instance:Inhabited Fr:=⟨⟨0,false,false⟩⟩
structure WS where
 out:gA
 l:List Fr
 whole:Bool
 code:Int
structure JOp where
 kind:Int
 text:gA
 n:Int
instance:Inhabited JOp:=⟨⟨0,[],0⟩⟩
abbrev ef(f:Fr):V:=.agg [.int .u8 f.e.toNat,.bool f.b,.bool f.k]
abbrev eW(w:WS):List O:=[.cells [.buf 1,.buf 2,.bool w.whole,.int .i64 w.code,.func (.func 58) [] []],.buf 1 0 (bl w.out),.buf 3 0 (w.l.map ef)]
def ub:List V->gA
 |[]=>[]
 |.int _ n::r=>byte n::ub r
 |_::r=>0::ub r
@[simp] theorem ub_bl(s:gA):ub (bl s) =s:=by
 induction s with
 |nil=>rfl
 |cons b s ih=>simp only[bl,bv,ub,ih,eX]
def vj:List V->List Fr
 |[]=>[]
 |.agg [.int _ n,.bool b,.bool k]::r=>⟨byte n,b,k⟩::vj r
 |_::r=>default::vj r
@[simp] theorem ufr_map(l:List Fr):vj (l.map ef) =l:=by
 induction l with
 |nil=>rfl
 |cons b s ih=>simp only[List.map_cons,vj,ih,eX]
def bZ(o l:List V) (wh:Bool) (c:Int):WS:=⟨ub o,vj l,wh,c⟩
@[simp] theorem cz(w:WS):bZ (bl w.out) (w.l.map ef) w.whole w.code=w:=by simp[bZ]
def okW(o l:List V):Prop:=o=bl (ub o)/\l=(vj l).map ef/\o.length<=2000000000/\l.length<=1000
theorem kM{s:gA} {l:List Fr} (h:s.length<=2000000000) (k:l.length<=1000):okW (bl s) (l.map ef):=by
 refine⟨by simp,by simp,by simpa[je] using h,by simpa using k⟩
theorem kh{o l:List V} {h:Bool} {c:Int} (k:okW o l):[O.cells [.buf 1,.buf 2,.bool h,.int .i64 c,.func (.func 58) [] []],.buf 1 0 o,.buf 3 0 l]=eW (bZ o l h c):=by
 unfold eW bZ;rw[<-k.1,<-k.2.1]
def WS.fail(w:WS) (c:Int):WS:=if w.code=0 then{w with code:=c} else w
def WS.top(w:WS):Fr:=w.l.getD (w.l.length-1) default
def WS.jE(w:WS) (f:Fr):WS:={w with l:=w.l.set (w.l.length-1) f}
def WS.may(w:WS):WS×Bool:=
 if w.code≠0 then(w,false)
 else if w.l.length=0 then(if w.whole=true then(w.fail 12,false) else({w with whole:=true},true))
 else if w.top.e.toNat=125 then(if w.top.k=true then(w.jE {w.top with k:=false},true) else(w.fail 12,false))
 else({w.jE {w.top with b:=true} with out:=if w.top.b=true then w.out++[44] else w.out},true)
def WS.put(w:WS) (s:gA):WS:=if w.may.2=true then{w.may.1 with out:=w.may.1.out++s} else w.may.1
def WS.begin(w:WS) (a e:UInt8):WS:=
 if w.code≠0 then w
 else if w.l.length>=32 then w.fail 33
 else if w.may.2=true then{w.may.1 with out:=w.may.1.out++[a],l:=w.may.1.l++[⟨e,false,false⟩]} else w.may.1
def WS.fin(w:WS):WS:=
 if w.code≠0 then w
 else if w.l.length=0\/w.top.k=true then w.fail 12
 else{w with out:=w.out++[w.top.e],l:=w.l.take (w.l.length-1)}
def WS.key(w:WS) (s:gA):WS:=
 if w.code≠0 then w
 else if w.l.length=0\/w.top.e.toNat≠125\/w.top.k=true then w.fail 12
 else{w.jE {w.top with b:=true,k:=true} with out:=(if w.top.b=true then w.out++[44] else w.out)++(quote s++[58])}
def wz(b:Bool):gA:=if b=true then[116,114,117,101] else[102,97,108,115,101]
def WS.op(w:WS) (o:JOp):WS:=
 if o.kind=123 then w.begin 123 125
 else if o.kind=91 then w.begin 91 93
 else if o.kind=101 then w.fin
 else if o.kind=107 then w.key o.text
 else if o.kind=115 then w.put (quote o.text)
 else if o.kind=110 then w.put (fB o.n)
 else if o.kind=116\/o.kind=102 then w.put (wz (o.kind==116))
 else w.put [110,117,108,108]
def WS.done(w:WS):gA×Int:=
 if w.code≠0 then([],w.code) else if w.l.length>0\/w.whole=false then([],1) else(w.out,0)
def WS.new:WS:=⟨[],[],false,0⟩
theorem ow(w:WS):w.may.1.out.length<=w.out.length+1/\w.may.1.l.length=w.l.length:=by
 unfold WS.may WS.fail WS.jE;repeat' split
 all_goals (constructor<;>simp)
theorem Wj(w:WS) (o:JOp) (h:-9223372036854775808<=o.n/\o.n<=9223372036854775807):(w.op o).out.length<=w.out.length+6*o.text.length+30/\(w.op o).l.length<=w.l.length+1:=by
 have h1:=ow w;have h2:=M3 o.text;have h3:=P3 h.1 h.2;have h4:(wz (o.kind==116)).length<=5:=by unfold wz;split<;>simp
 unfold WS.op WS.begin WS.fin WS.key WS.put WS.fail WS.jE;repeat' split
 all_goals (constructor<;>(try simp only[an,List.length_cons,List.length_nil,List.length_set,d8])<;>omega)
theorem Bx(out:gA) (l:List Fr) (f:Fr) (wh:Bool):WS.top ⟨out,l++[f],wh,0⟩=f:=by
 simp[WS.top]
theorem ED(out:gA) (l:List Fr) (f g:Fr) (wh:Bool):WS.jE ⟨out,l++[f],wh,0⟩ g=⟨out,l++[g],wh,0⟩:=by
 simp[WS.jE]
theorem Dx(out:gA) (l:List Fr) (b:Bool):WS.may ⟨out,l++[⟨123+2,b,true⟩],true,0⟩=(⟨out,l++[⟨123+2,b,false⟩],true,0⟩,true):=by
 unfold WS.may;rw[Bx,ED];simp
theorem VJ(out:gA) (l:List Fr) (b k:Bool):WS.may ⟨out,l++[⟨91+2,b,k⟩],true,0⟩=(⟨if b=true then out++[44] else out,l++[⟨91+2,true,k⟩],true,0⟩,true):=by
 unfold WS.may;rw[Bx];simp[ED]
theorem yR(out:gA) (l:List Fr) (e:UInt8) (b:Bool):WS.fin ⟨out,l++[⟨e,b,false⟩],true,0⟩=⟨out++[e],l,true,0⟩:=by
 unfold WS.fin;rw[Bx];simp
theorem UO(out s:gA) (l:List Fr) (b:Bool):WS.key ⟨out,l++[⟨123+2,b,false⟩],true,0⟩ s=⟨(if b=true then out++[44] else out)++(quote s++[58]),l++[⟨123+2,true,true⟩],true,0⟩:=by
 unfold WS.key;rw[Bx];simp[ED]
theorem Wi(w:WS) (o:JOp) (h:w.l.length<=32):(w.op o).l.length<=32:=by
 have h1:=ow w;unfold WS.op WS.begin WS.fin WS.key WS.put WS.fail WS.jE;repeat' split
 all_goals ((try simp only[an,List.length_cons,List.length_nil,List.length_set,d8])<;>omega)
theorem Tp{l:List V} {n:Nat} {x:V} {K:V->Prop} (h1:ae (n<l.length)) (h2:K x):iB (l.set n x) n K:=⟨x,by simp[h1.h],h2⟩
theorem D6{w:WS} {n:Nat} {K:V->Prop} {k:Bool} (hk:w.top.k=k) (h1:ae (n+1=w.l.length)) (h2:K (.agg [.int .u8 w.top.e.toNat,.bool w.top.b,.bool k])):iB (w.l.map ef) n K:=by
 obtain rfl:n=w.l.length-1:=by have:=h1.h;omega
 subst hk;exact kH ⟨by have:=h1.h;omega⟩ h2
theorem QW(w:WS) (c:Int) (hp:True):OK 118 ([.ptr 0 0,.int .i64 c]) (eW w) (.tuple []) (some (eW (w.fail c))):=by
 refine aq (C:=cx []) (ar trivial) (fn:=Tryz.f118) fun hw hs=>?_;repeat'((conv=>whnf);(apply av<;>intro h))
 all_goals try conv=>whnf
 all_goals try(refine ae.mk ?_;try dsimp only)
 all_goals try refine stay ?_
 all_goals
  unfold WS.fail;first|rw[if_pos (by assumption)]|rw[if_neg (by assumption)]
  refine ab.mk [] ?_<;>(repeat' first|trivial)
def sI:Sm:=fun args σ=>match args,σ with
 |[.ptr 0 0,.int .i64 c],[.cells [.buf 1,.buf 2,.bool h_w,.int .i64 c_w,.func (.func 58) [] []],.buf 1 0 o_w,.buf 3 0 l_w]=>some (okW o_w l_w/\(True),.tuple [],some (eW ((bZ o_w l_w h_w c_w).fail c)))
 |_,_=>none
theorem wO:ax 118 sI:=by
 intro args sg pre x r he hp;unfold sI at he;split at he<;>cases he
 . rw[kh (hp).1];exact QW (hp:=hp.2) ..
theorem QZ(hp:True):OK 139 ([.nilptr]) ([]) (.bool false) (none):=by
 refine aq (C:=cx [(118,sI)]) (ar ⟨wO,trivial⟩) (fn:=Tryz.f139) fun hw hs=>?_;all_goals try conv=>whnf
 all_goals try(refine ae.mk ?_;try dsimp only)
 all_goals try refine stay ?_
 refine ab.mk [] ?_<;>(repeat' first|trivial)
theorem R4(w:WS) (hp:w.out.length<=2000000000/\w.l.length<=1000):OK 139 ([.ptr 0 0]) (eW w) (.bool w.may.2) (some (eW w.may.1)):=by
 refine aq (C:=cx [(118,sI)]) (ar ⟨wO,trivial⟩) (fn:=Tryz.f139) fun hw hs=>?_;have e1:(w.l.map ef).length=w.l.length:=by simp
 cases hk:w.top.k;all_goals have idx_topk:=fun{n:Nat} {K:V->Prop}=>D6 (n:=n) (K:=K) hk
 . repeat'((conv=>whnf);first|apply af|apply aK|((first|apply av|apply fF)<;>intro h)|with_reducible refine idx_topk ?_ ?_)
   all_goals try conv=>whnf
   all_goals try(refine ae.mk ?_;try dsimp only)
   all_goals first|refine stay ?_|omega|(simp(discharger:=omega) only[wR];omega)|(simp only[fi];omega)|skip
   all_goals first
    |exact⟨kM hp.1 hp.2,trivial⟩
    |skip
   all_goals
    have he:w.may=w.may:=rfl;conv at he=>rhs;unfold WS.may
    repeat (first|rw[if_pos (by first|assumption|omega)] at he|rw[if_neg (by first|assumption|omega|simp_all)] at he)
    rw[he];first|rw[cz]|skip
    refine ab.mk [] ?_<;>(repeat' first|trivial|apply ah|apply bc)
    all_goals (try rw[show(IntKind.i64.wrap (↑(List.map ef w.l).length-1)).toNat=w.l.length-1 by(simp(discharger:=omega) only[wR];omega)])
    all_goals simp[WS.jE,List.map_set,hk,eE,bl,bv]
 . repeat'((conv=>whnf);first|apply af|apply aK|((first|apply av|apply fF)<;>intro h)|with_reducible refine idx_topk ?_ ?_)
   all_goals try conv=>whnf
   all_goals try(refine ae.mk ?_;try dsimp only)
   all_goals first|refine stay ?_|omega|(simp(discharger:=omega) only[wR];omega)|(simp only[fi];omega)|skip
   all_goals first
    |exact⟨kM hp.1 hp.2,trivial⟩
    |skip
   all_goals
    have he:w.may=w.may:=rfl;conv at he=>rhs;unfold WS.may
    repeat (first|rw[if_pos (by first|assumption|omega)] at he|rw[if_neg (by first|assumption|omega|simp_all)] at he)
    rw[he];first|rw[cz]|skip
    refine ab.mk [] ?_<;>(repeat' first|trivial|apply ah|apply bc)
    all_goals (try rw[show(IntKind.i64.wrap (↑(List.map ef w.l).length-1)).toNat=w.l.length-1 by(simp(discharger:=omega) only[wR];omega)])
    all_goals simp[WS.jE,List.map_set,hk,eE,bl,bv]
def uU:Sm:=fun args σ=>match args,σ with
 |[.nilptr],[]=>some (True,.bool false,none)
 |[.ptr 0 0],[.cells [.buf 1,.buf 2,.bool h_w,.int .i64 c_w,.func (.func 58) [] []],.buf 1 0 o_w,.buf 3 0 l_w]=>some (okW o_w l_w/\((bZ o_w l_w h_w c_w).out.length<=2000000000/\(bZ o_w l_w h_w c_w).l.length<=1000),.bool (bZ o_w l_w h_w c_w).may.2,some (eW (bZ o_w l_w h_w c_w).may.1))
 |_,_=>none
theorem zq:ax 139 uU:=by
 intro args sg pre x r he hp;unfold uU at he;split at he<;>cases he
 . exact QZ (hp:=hp) ..
 . rw[kh (hp).1];exact R4 (hp:=hp.2) ..
theorem Dy{w:WS} (h:w.out.length<=1900000000/\w.l.length<=900):okW (bl w.out) (w.l.map ef)/\(bZ (bl w.out) (w.l.map ef) w.whole w.code).out.length<=2000000000/\(bZ (bl w.out) (w.l.map ef) w.whole w.code).l.length<=1000:=by
 rw[cz];exact⟨kM (by omega) (by omega),by omega,by omega⟩
theorem R9(s:gA) (hp:True):OK 110 ([.nilptr,.str s]) ([]) (.tuple []) (none):=by
 refine aq (C:=cx [(139,uU),(58,xL)]) (ar ⟨zq,Db,trivial⟩) (fn:=Tryz.f110) fun hw hs=>?_;repeat'((conv=>whnf);apply af)
 all_goals try conv=>whnf
 all_goals try(refine ae.mk ?_;try dsimp only)
 all_goals try refine stay ?_
 refine ab.mk [] ?_<;>(repeat' first|trivial)
theorem Re(w:WS) (s:gA) (hp:(w.out.length<=1900000000/\w.l.length<=900)/\s.length<=100000000):OK 110 ([.ptr 0 0,.str s]) (eW w) (.tuple []) (some (eW (w.put (quote s)))):=by
 refine aq (C:=cx [(139,uU),(58,xL)]) (ar ⟨zq,Db,trivial⟩) (fn:=Tryz.f110) fun hw hs=>?_;obtain⟨hp,hq⟩:=hp;repeat'((conv=>whnf);first|apply af|(apply fF<;>intro h))
 all_goals try conv=>whnf
 all_goals try(refine ae.mk ?_;try dsimp only)
 all_goals try refine stay ?_
 all_goals first
  |exact Dy hp
  |(rw[cz];have:=ow w;(simp only[fi];omega))
  |(rw[cz];have:=ow w;refine⟨hn,?_⟩;omega)
  |skip
 all_goals (try rw[cz] at*)
 all_goals
  have hm:=ow w;unfold WS.put;first|rw[if_pos (by assumption)]|rw[if_neg (by simp_all)]
  refine ab.mk [] ?_<;>(repeat' first|trivial|apply ah|apply bc)
  all_goals (try rw[cz])
  all_goals first
   |(simp[eE,bl,bv];done)
   |(simp_all[eE,bl,bv,wz];done)
def Fv:Sm:=fun args σ=>match args,σ with
 |[.nilptr,.str s],[]=>some (True,.tuple [],none)
 |[.ptr 0 0,.str s],[.cells [.buf 1,.buf 2,.bool h_w,.int .i64 c_w,.func (.func 58) [] []],.buf 1 0 o_w,.buf 3 0 l_w]=>some (okW o_w l_w/\(((bZ o_w l_w h_w c_w).out.length<=1900000000/\(bZ o_w l_w h_w c_w).l.length<=900)/\s.length<=100000000),.tuple [],some (eW ((bZ o_w l_w h_w c_w).put (quote s))))
 |_,_=>none
theorem Uj:ax 110 Fv:=by
 intro args sg pre x r he hp;unfold Fv at he;split at he<;>cases he
 . exact R9 (hp:=hp) ..
 . rw[kh (hp).1];exact Re (hp:=hp.2) ..
theorem Rf(w:WS) (n:Int) (hp:(w.out.length<=1900000000/\w.l.length<=900)):OK 112 ([.ptr 0 0,.int .i64 n]) (eW w) (.tuple []) (some (eW (w.put (fB n)))):=by
 refine aq (C:=cx [(139,uU),(141,EX)]) (ar ⟨zq,TO,trivial⟩) (fn:=Tryz.f112) fun hw hs=>?_;have hn:-9223372036854775808<=n/\n<=9223372036854775807:=hw.2.1;repeat'((conv=>whnf);first|apply af|(apply fF<;>intro h))
 all_goals try conv=>whnf
 all_goals try(refine ae.mk ?_;try dsimp only)
 all_goals try refine stay ?_
 all_goals first
  |exact Dy hp
  |(rw[cz];have:=ow w;(simp only[fi];omega))
  |(rw[cz];have:=ow w;refine⟨hn,?_⟩;omega)
  |skip
 all_goals (try rw[cz] at*)
 all_goals
  have hm:=ow w;unfold WS.put;first|rw[if_pos (by assumption)]|rw[if_neg (by simp_all)]
  refine ab.mk [] ?_<;>(repeat' first|trivial|apply ah|apply bc)
  all_goals (try rw[cz])
  all_goals first
   |(simp[eE,bl,bv];done)
   |(simp_all[eE,bl,bv,wz];done)
def Fw:Sm:=fun args σ=>match args,σ with
 |[.ptr 0 0,.int .i64 n],[.cells [.buf 1,.buf 2,.bool h_w,.int .i64 c_w,.func (.func 58) [] []],.buf 1 0 o_w,.buf 3 0 l_w]=>some (okW o_w l_w/\(((bZ o_w l_w h_w c_w).out.length<=1900000000/\(bZ o_w l_w h_w c_w).l.length<=900)),.tuple [],some (eW ((bZ o_w l_w h_w c_w).put (fB n))))
 |_,_=>none
theorem Uk:ax 112 Fw:=by
 intro args sg pre x r he hp;unfold Fw at he;split at he<;>cases he
 . rw[kh (hp).1];exact Rf (hp:=hp.2) ..
theorem QS(w:WS) (a e:UInt8) (hp:(w.out.length<=1900000000/\w.l.length<=900)):OK 109 ([.ptr 0 0,bv a,bv e]) (eW w) (.tuple []) (some (eW (w.begin a e))):=by
 refine aq (C:=cx [(139,uU),(118,sI)]) (ar ⟨zq,wO,trivial⟩) (fn:=Tryz.f109) fun hw hs=>?_;repeat'((conv=>whnf);first|apply af|apply aK|((first|apply av|apply fF)<;>intro h))
 all_goals try conv=>whnf
 all_goals try(refine ae.mk ?_;try dsimp only)
 all_goals try refine stay ?_
 all_goals first
  |exact Dy hp
  |exact⟨kM (by omega) (by omega),trivial⟩
  |(rw[cz];have:=ow w;(first|(simp only[fi];omega)|(simp(discharger:=omega) [-List.getD_eq_getElem?_getD,wR]<;>omega)))
  |skip
 all_goals (try rw[cz] at*)
 all_goals
  have hm:=ow w;try simp only[aA] at*
  unfold WS.begin
  repeat (first|rw[if_pos (by first|assumption|omega)]|rw[if_neg (by first|omega|simp_all)])
  refine ab.mk [] ?_<;>(repeat' first|trivial|apply ah|apply bc)
  all_goals (try rw[cz])
  all_goals simp[eE,bl,bv]
def AZ:Sm:=fun args σ=>match args,σ with
 |[.ptr 0 0,.int .u8 n_a,.int .u8 n_e],[.cells [.buf 1,.buf 2,.bool h_w,.int .i64 c_w,.func (.func 58) [] []],.buf 1 0 o_w,.buf 3 0 l_w]=>some ((0<=n_e/\n_e<=255)/\((0<=n_a/\n_a<=255)/\(okW o_w l_w/\(((bZ o_w l_w h_w c_w).out.length<=1900000000/\(bZ o_w l_w h_w c_w).l.length<=900)))),.tuple [],some (eW ((bZ o_w l_w h_w c_w).begin (byte n_a) (byte n_e))))
 |_,_=>none
theorem K0:ax 109 AZ:=by
 intro args sg pre x r he hp;unfold AZ at he;split at he<;>cases he
 . rw[l7 (hp).1];rw[l7 (hp.2).1];rw[kh (hp.2.2).1];exact QS (hp:=hp.2.2.2) ..
theorem R8(w:WS) (hp:(w.out.length<=1900000000/\w.l.length<=900)):OK 59 ([.ptr 0 0]) (eW w) (.tuple []) (some (eW (w.begin 123 125))):=by
 refine aq (C:=cx [(109,AZ)]) (ar ⟨K0,trivial⟩) (fn:=Tryz.f59) fun hw hs=>?_;repeat'((conv=>whnf);apply af)
 all_goals try conv=>whnf
 all_goals try(refine ae.mk ?_;try dsimp only)
 all_goals try refine stay ?_
 all_goals first
  |(refine⟨by omega,by omega,kM (by omega) (by omega),?_⟩;rw[cz];exact hp)
  |skip
 all_goals (try rw[cz])
 refine ab.mk [] ?_<;>(repeat' first|trivial)
def uV:Sm:=fun args σ=>match args,σ with
 |[.ptr 0 0],[.cells [.buf 1,.buf 2,.bool h_w,.int .i64 c_w,.func (.func 58) [] []],.buf 1 0 o_w,.buf 3 0 l_w]=>some (okW o_w l_w/\(((bZ o_w l_w h_w c_w).out.length<=1900000000/\(bZ o_w l_w h_w c_w).l.length<=900)),.tuple [],some (eW ((bZ o_w l_w h_w c_w).begin 123 125)))
 |_,_=>none
theorem zr:ax 59 uV:=by
 intro args sg pre x r he hp;unfold uV at he;split at he<;>cases he
 . rw[kh (hp).1];exact R8 (hp:=hp.2) ..
theorem QY(w:WS) (hp:(w.out.length<=1900000000/\w.l.length<=900)):OK 116 ([.ptr 0 0]) (eW w) (.tuple []) (some (eW (w.begin 91 93))):=by
 refine aq (C:=cx [(109,AZ)]) (ar ⟨K0,trivial⟩) (fn:=Tryz.f116) fun hw hs=>?_;repeat'((conv=>whnf);apply af)
 all_goals try conv=>whnf
 all_goals try(refine ae.mk ?_;try dsimp only)
 all_goals try refine stay ?_
 all_goals first
  |(refine⟨by omega,by omega,kM (by omega) (by omega),?_⟩;rw[cz];exact hp)
  |skip
 all_goals (try rw[cz])
 refine ab.mk [] ?_<;>(repeat' first|trivial)
def Fu:Sm:=fun args σ=>match args,σ with
 |[.ptr 0 0],[.cells [.buf 1,.buf 2,.bool h_w,.int .i64 c_w,.func (.func 58) [] []],.buf 1 0 o_w,.buf 3 0 l_w]=>some (okW o_w l_w/\(((bZ o_w l_w h_w c_w).out.length<=1900000000/\(bZ o_w l_w h_w c_w).l.length<=900)),.tuple [],some (eW ((bZ o_w l_w h_w c_w).begin 91 93)))
 |_,_=>none
theorem Ui:ax 116 Fu:=by
 intro args sg pre x r he hp;unfold Fu at he;split at he<;>cases he
 . rw[kh (hp).1];exact QY (hp:=hp.2) ..
theorem QV(w:WS) (hp:(w.out.length<=1900000000/\w.l.length<=900)):OK 69 ([.ptr 0 0]) (eW w) (.tuple []) (some (eW w.fin)):=by
 refine aq (C:=cx [(118,sI)]) (ar ⟨wO,trivial⟩) (fn:=Tryz.f69) fun hw hs=>?_;have e1:(w.l.map ef).length=w.l.length:=by simp
 cases hk:w.top.k;all_goals have idx_topk:=fun{n:Nat} {K:V->Prop}=>D6 (n:=n) (K:=K) hk
 . repeat'((conv=>whnf);first|apply af|apply aK|(apply av<;>intro h)|with_reducible refine idx_topk ?_ ?_)
   all_goals try conv=>whnf
   all_goals try(refine ae.mk ?_;try dsimp only)
   all_goals first|refine stay ?_|(simp(discharger:=omega) only[wR];omega)|(simp only[fi];omega)|skip
   all_goals first
    |exact⟨kM (by omega) (by omega),trivial⟩
    |skip
   all_goals (try rw[cz] at*)
   all_goals
    try simp only[aA] at*
    first|unfold WS.fin|unfold WS.key
    repeat (first|rw[if_pos (by first|assumption|omega|(simp[hk];done)|(simp only[hk,reduceCtorEq,or_false,or_true,not_true_eq_false];omega))]|rw[if_neg (by first|omega|(simp[hk];done)|(simp only[hk,reduceCtorEq,or_false,or_true,not_true_eq_false];omega))])
    refine ab.mk [] ?_<;>(repeat' first|trivial|apply ah|apply bc)
    all_goals (try rw[cz])
    all_goals (try rw[show(IntKind.i64.wrap (w.l.length-1)).toNat=w.l.length-1 by(simp(discharger:=omega) only[wR];omega)])
    all_goals first
     |(simp[WS.jE,List.map_set,List.map_take,hk,eE,bl,bv];done)
     |(simp_all[WS.jE,List.map_set,List.map_take,eE,bl,bv];done)
 . repeat'((conv=>whnf);first|apply af|apply aK|(apply av<;>intro h)|with_reducible refine idx_topk ?_ ?_)
   all_goals try conv=>whnf
   all_goals try(refine ae.mk ?_;try dsimp only)
   all_goals first|refine stay ?_|(simp(discharger:=omega) only[wR];omega)|skip
   all_goals first
    |exact⟨kM (by omega) (by omega),trivial⟩
    |skip
   all_goals (try rw[cz] at*)
   all_goals
    try simp only[aA] at*
    first|unfold WS.fin|unfold WS.key
    repeat (first|rw[if_pos (by first|assumption|omega|(simp[hk];done)|(simp only[hk,reduceCtorEq,or_false,or_true,not_true_eq_false];omega))]|rw[if_neg (by first|omega|(simp[hk];done)|(simp only[hk,reduceCtorEq,or_false,or_true,not_true_eq_false];omega))])
    refine ab.mk [] ?_<;>(repeat' first|trivial)
    all_goals (try rw[cz])
    all_goals (try rw[show(IntKind.i64.wrap (w.l.length-1)).toNat=w.l.length-1 by omega])
    all_goals first
     |(simp[WS.jE,List.map_set,List.map_take,hk,eE,bl,bv];done)
     |(simp_all[WS.jE,List.map_set,List.map_take,eE,bl,bv];done)
def uT:Sm:=fun args σ=>match args,σ with
 |[.ptr 0 0],[.cells [.buf 1,.buf 2,.bool h_w,.int .i64 c_w,.func (.func 58) [] []],.buf 1 0 o_w,.buf 3 0 l_w]=>some (okW o_w l_w/\(((bZ o_w l_w h_w c_w).out.length<=1900000000/\(bZ o_w l_w h_w c_w).l.length<=900)),.tuple [],some (eW (bZ o_w l_w h_w c_w).fin))
 |_,_=>none
theorem zp:ax 69 uT:=by
 intro args sg pre x r he hp;unfold uT at he;split at he<;>cases he
 . rw[kh (hp).1];exact QV (hp:=hp.2) ..
theorem QX(w:WS) (s:gA) (hp:(w.out.length<=1900000000/\w.l.length<=900)/\s.length<=100000000):OK 68 ([.ptr 0 0,.str s]) (eW w) (.tuple []) (some (eW (w.key s))):=by
 refine aq (C:=cx [(118,sI),(58,xL)]) (ar ⟨wO,Db,trivial⟩) (fn:=Tryz.f68) fun hw hs=>?_;obtain⟨hp,hq⟩:=hp;have hq2:=M3 s;have e1:(w.l.map ef).length=w.l.length:=by simp
 cases hk:w.top.k;all_goals have idx_topk:=fun{n:Nat} {K:V->Prop}=>D6 (n:=n) (K:=K) hk
 . repeat'((conv=>whnf);first|apply af|apply aK|((first|apply av|apply fF)<;>intro h)|with_reducible (first|refine idx_topk ?_ ?_|refine Tp ?_ ?_))
   all_goals try conv=>whnf
   all_goals try(refine ae.mk ?_;try dsimp only)
   all_goals first|refine stay ?_|omega|(simp(discharger:=omega) only[wR];omega)|(simp only[fi];omega)|skip
   all_goals first
    |exact⟨kM (by omega) (by omega),trivial⟩
    |skip
   all_goals (try rw[cz] at*)
   all_goals
    try simp only[aA] at*
    first|unfold WS.fin|unfold WS.key
    repeat (first|rw[if_pos (by first|assumption|omega|(simp[hk];done)|(simp only[hk,reduceCtorEq,or_false,or_true,not_true_eq_false];omega))]|rw[if_neg (by first|omega|(simp[hk];done)|(simp only[hk,reduceCtorEq,or_false,or_true,not_true_eq_false];omega))])
    refine ab.mk [] ?_<;>(repeat' first|trivial|apply ah|apply bc)
    all_goals (try rw[cz])
    all_goals (try rw[show(IntKind.i64.wrap (w.l.length-1)).toNat=w.l.length-1 by(simp(discharger:=omega) only[wR];omega)])
    all_goals first
     |(simp[WS.jE,List.map_set,List.map_take,hk,eE,bl,bv];done)
     |(simp_all[WS.jE,List.map_set,List.map_take,eE,bl,bv];done)
 . repeat'((conv=>whnf);first|apply af|apply aK|(apply av<;>intro h)|with_reducible refine idx_topk ?_ ?_)
   all_goals try conv=>whnf
   all_goals try(refine ae.mk ?_;try dsimp only)
   all_goals first|refine stay ?_|(simp(discharger:=omega) only[wR];omega)|skip
   all_goals first
    |exact⟨kM (by omega) (by omega),trivial⟩
    |skip
   all_goals (try rw[cz] at*)
   all_goals
    try simp only[aA] at*
    first|unfold WS.fin|unfold WS.key
    repeat (first|rw[if_pos (by first|assumption|omega|(simp[hk];done)|(simp only[hk,reduceCtorEq,or_false,or_true,not_true_eq_false];omega))]|rw[if_neg (by first|omega|(simp[hk];done)|(simp only[hk,reduceCtorEq,or_false,or_true,not_true_eq_false];omega))])
    refine ab.mk [] ?_<;>(repeat' first|trivial)
    all_goals (try rw[cz])
    all_goals (try rw[show(IntKind.i64.wrap (w.l.length-1)).toNat=w.l.length-1 by omega])
    all_goals first
     |(simp[WS.jE,List.map_set,List.map_take,hk,eE,bl,bv];done)
     |(simp_all[WS.jE,List.map_set,List.map_take,eE,bl,bv];done)
def qU:Sm:=fun args σ=>match args,σ with
 |[.ptr 0 0,.str s],[.cells [.buf 1,.buf 2,.bool h_w,.int .i64 c_w,.func (.func 58) [] []],.buf 1 0 o_w,.buf 3 0 l_w]=>some (okW o_w l_w/\(((bZ o_w l_w h_w c_w).out.length<=1900000000/\(bZ o_w l_w h_w c_w).l.length<=900)/\s.length<=100000000),.tuple [],some (eW ((bZ o_w l_w h_w c_w).key s)))
 |_,_=>none
theorem ug:ax 68 qU:=by
 intro args sg pre x r he hp;unfold qU at he;split at he<;>cases he
 . rw[kh (hp).1];exact QX (hp:=hp.2) ..
theorem QT(hp:True):OK 29 ([.nilptr]) ([]) (.tuple [.str [],.int .i64 9]) (none):=by
 refine aq (C:=cx []) (ar trivial) (fn:=Tryz.f29) fun hw hs=>?_;all_goals try conv=>whnf
 all_goals try(refine ae.mk ?_;try dsimp only)
 all_goals try refine stay ?_
 refine ab.mk [] ?_<;>(repeat' first|trivial)
theorem QU(w:WS) (hp:True):OK 29 ([.ptr 0 0]) (eW w) (.tuple [.str w.done.1,.int .i64 w.done.2]) (none):=by
 refine aq (C:=cx []) (ar trivial) (fn:=Tryz.f29) fun hw hs=>?_;have e1:(w.l.map ef).length=w.l.length:=by simp
 repeat'((conv=>whnf);first|apply aK|((first|apply av|apply fF)<;>intro h)|apply oc)
 all_goals try conv=>whnf
 all_goals try(refine ae.mk ?_;try dsimp only)
 all_goals try refine stay ?_
 all_goals
  have he:w.done=w.done:=rfl;conv at he=>rhs;unfold WS.done
  repeat (first|rw[if_pos (by first|assumption|omega|(simp[*];done)|(simp;omega))] at he|rw[if_neg (by first|omega|(intro hh;rcases hh with hh|hh;(·omega);(·simp_all)))] at he)
  rw[he];refine ab.mk [] ?_<;>(repeat' first|trivial)
def B0:Sm:=fun args σ=>match args,σ with
 |[.nilptr],[]=>some (True,.tuple [.str [],.int .i64 9],none)
 |[.ptr 0 0],[.cells [.buf 1,.buf 2,.bool h_w,.int .i64 c_w,.func (.func 58) [] []],.buf 1 0 o_w,.buf 3 0 l_w]=>some (okW o_w l_w/\(True),.tuple [.str (bZ o_w l_w h_w c_w).done.1,.int .i64 (bZ o_w l_w h_w c_w).done.2],none)
 |_,_=>none
theorem K3:ax 29 B0:=by
 intro args sg pre x r he hp;unfold B0 at he;split at he<;>cases he
 . exact QT (hp:=hp) ..
 . rw[kh (hp).1];exact QU (hp:=hp.2) ..
theorem R6(hp:True):OK 27 ([]) ([]) (.ptr 0 0) (some (eW .new)):=by
 refine aq (C:=cx []) (ar trivial) (fn:=Tryz.f27) fun hw hs=>?_;all_goals try conv=>whnf
 all_goals try(refine ae.mk ?_;try dsimp only)
 all_goals try refine stay ?_
 refine ab.mk [.cell 0 0 1,.cell 0 1 3] ?_<;>(repeat' first|trivial)
def B1:Sm:=fun args σ=>match args,σ with
 |[],[]=>some (True,.ptr 0 0,some (eW .new))
 |_,_=>none
theorem K4:ax 27 B1:=by
 intro args sg pre x r he hp;unfold B1 at he;split at he<;>cases he
 . exact R6 (hp:=hp) ..
end Go.Proofs.YtchllohbglebiaaGreatDoor
