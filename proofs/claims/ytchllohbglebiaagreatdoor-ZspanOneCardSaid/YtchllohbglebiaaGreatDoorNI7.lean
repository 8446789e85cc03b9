/-
  A part of the proof.
-/
import Derived.Test.YtchllohbglebiaaGreatDoorTRg
set_option linter.unusedSimpArgs false
set_option linter.unusedVariables false
set_option maxHeartbeats 4000000
set_option maxRecDepth 100000
namespace Go.Proofs.YtchllohbglebiaaGreatDoor
open Go Go.VG
mutual
def same:aM->aM->Bool
 |.mk k t n b l m,w=>decide (k=w.kind)&&decide (t=w.text)&&decide (n=w.num)&&decide (b=w.bits)&&kf l w.list&&eJ m w.map
def kf:List aM->List aM->Bool
 |[],[]=>true
 |v::r,w::s=>same v w&&kf r s
 |_,_=>false
def uK:ak->ak->Bool
 |.mk k v,b=>decide (k=b.key)&&same v b.value
def eJ:List ak->List ak->Bool
 |[],[]=>true
 |v::r,w::s=>uK v w&&eJ r s
 |_,_=>false
end
mutual
theorem Mo:∀v w:aM,same v w=true↔v=w
 |.mk k t n b l m,.mk k' t' n' b' l' m'=>by
   simp only[same];simp only[aM.kind,aM.text,aM.num,aM.bits,aM.list,aM.map];simp only[zza,decide_eq_true_eq,Ey l l',nB m m',aM.mk.injEq];constructor
   . rintro⟨⟨⟨⟨⟨a,b⟩,c⟩,d⟩,e⟩,f⟩;exact⟨of_decide_eq_true a,of_decide_eq_true b,of_decide_eq_true c,of_decide_eq_true d,e,f⟩
   . rintro⟨a,b,c,d,e,f⟩;exact⟨⟨⟨⟨⟨decide_eq_true a,decide_eq_true b⟩,decide_eq_true c⟩,decide_eq_true d⟩,e⟩,f⟩
theorem Ey:∀v w:List aM,kf v w=true↔v=w
 |[],[]=>by simp[kf]
 |v::r,w::s=>by simp only[kf,zza,Mo v w,Ey r s,List.cons.injEq]
 |[],_::_=>by simp[kf]
 |_::_,[]=>by simp[kf]
theorem Yk:∀v w:ak,uK v w=true↔v=w
 |.mk k v,.mk k' v'=>by
   simp only[uK];simp only[ak.key,ak.value];simp only[zza,Mo v v',ak.mk.injEq];exact⟨fun⟨a,b⟩=>⟨of_decide_eq_true a,b⟩,fun⟨a,b⟩=>⟨decide_eq_true a,b⟩⟩
theorem nB:∀v w:List ak,eJ v w=true↔v=w
 |[],[]=>by simp[eJ]
 |v::r,w::s=>by simp only[eJ,zza,Yk v w,nB r s,List.cons.injEq]
 |[],_::_=>by simp[eJ]
 |_::_,[]=>by simp[eJ]
end
theorem Mm{l m:List aM} {i:Nat} (hi:i<l.length) (hm:l.length=m.length):kf (l.drop i) (m.drop i) =(same (l.getD i default) (m.getD i default)&&kf (l.drop (i+1)) (m.drop (i+1))):=by
 rw[List.drop_eq_getElem_cons hi,List.drop_eq_getElem_cons (by omega:i<m.length),kf,ac,ac,am hi,am (by omega:i<m.length)];rfl
theorem Ez{l m:List ak} {i:Nat} (hi:i<l.length) (hm:l.length=m.length):eJ (l.drop i) (m.drop i) =(uK (l.getD i default) (m.getD i default)&&eJ (l.drop (i+1)) (m.drop (i+1))):=by
 rw[List.drop_eq_getElem_cons hi,List.drop_eq_getElem_cons (by omega:i<m.length),eJ,ac,ac,am hi,am (by omega:i<m.length)];rfl
theorem Ew(a b:ak):uK a b=(decide (a.key=b.key)&&same a.value b.value):=by cases a;simp only[uK];rfl
theorem Yl{l m:List aM} (h:l.length≠m.length):kf l m=false:=by
 cases hs:kf l m with
 |false=>rfl
 |true=>rw[Ey] at hs;subst hs;exact absurd rfl h
theorem Ym{l m:List ak} (h:l.length≠m.length):eJ l m=false:=by
 cases hs:eJ l m with
 |false=>rfl
 |true=>rw[nB] at hs;subst hs;exact absurd rfl h
theorem Yn(v w:aM):same v w=(decide (v.kind=w.kind)&&decide (v.text=w.text)&&decide (v.num=w.num)&&decide (v.bits=w.bits)&&kf v.list w.list&&eJ v.map w.map):=by
 cases v;simp only[same];rfl
def sG(k:Nat):Sm:=fun args σ=>match args,σ with
 |[x,y],[]=>some (qz x/\qz y/\(my x).nodes<k,.bool (same (my x) (my y)),none)
 |_,_=>none
def xI(k:Nat):Sm:=fun args σ=>match args,σ with
 |[x,y],[]=>some (oe x/\oe y/\ji (lq x)<k,.bool (eJ (lq x) (lq y)),none)
 |_,_=>none
theorem MD{k:Nat} (h:∀v w,v.nodes<k->OK 70 [ev v,ev w] [] (.bool (same v w)) none):ax 70 (sG k):=by
 intro args sg pre x r he hp;unfold sG at he;split at he<;>cases he;exact(h _ _ hp.2.2).args (ba.cons hp.1 (ba.cons hp.2.1 ba.nil))
theorem MC{k:Nat} (h:∀v w,ji v<k->OK 30 [.list false 7 (aG v),.list false 7 (aG w)] [] (.bool (eJ v w)) none):ax 30 (xI k):=by
 intro args sg pre x r he hp;unfold xI at he;split at he<;>cases he;exact(h _ _ hp.2.2).args (ba.cons hp.1 (ba.cons hp.2.1 ba.nil))
theorem PA{k:Nat} (h1:ax 70 (sG k)) (h2:ax 30 (xI k)) (v w:aM) (hk:v.nodes<k+1):OK 70 [ev v,ev w] [] (.bool (same v w)) none:=by
 refine aq (C:=cx [(70,sG k),(30,xI k)]) (ar ⟨h1,h2,trivial⟩) (fn:=Tryz.f70) fun hw _=>?_;have hb:=ND hw.1;have hb2:=ND hw.2.1;have e1:=wb v.list;have e2:=wb w.list;have hs:=Yn v w;repeat'((conv=>whnf);first|apply aK|((first|apply av|apply gI)<;>intro h))
 all_goals try conv=>whnf
 all_goals try(refine ae.mk ?_;try dsimp only)
 all_goals try refine stay ?_
 . have hl:v.list.length=w.list.length:=by omega
   have hs':same v w=(kf v.list w.list&&eJ v.map w.map):=by rw[hs];simp_all
   refine aZ.mk Nat (fun i=>i<=v.list.length/\same v w=(kf (v.list.drop i) (w.list.drop i)&&eJ v.map w.map)) (fun i=>⟨65,[(2,.ptr 0 0),(3,.ptr 1 0),(5,.int .i64 i)],[.cells (cv v),.cells (cv w)],[]⟩) (fun i=>v.list.length-i) [] 0 ⟨bu _,hs'⟩ ?_ (fun i ⟨hi,he⟩ _ _=>?_)
   . apply ay<;>(repeat' first|trivial)
   clear hs hs';repeat'((conv=>whnf);first|apply af|apply aK|((first|apply av|apply fF)<;>intro h)|with_reducible refine Js ?_ ?_)
   all_goals try conv=>whnf
   all_goals try(refine ae.mk ?_;try dsimp only)
   all_goals first|refine stay ?_|omega|skip
   . refine⟨ue _,ue _,?_⟩;have q3:=zU v;have q4:=Lp (l:=v.list) (i:=i) (by omega);rw[lv];omega
   . rw[lv,lv] at h;rw[Mm (by omega) hl,h,Bool.true_and] at he;refine⟨[],i+1,⟨by omega,he⟩,?_,by omega⟩;apply ay<;>(repeat' first|trivial|apply ah|apply aN)
     (simp(discharger:=omega) only[wR];omega)
   . rw[lv,lv] at h;rw[Mm (by omega) hl,h] at he;refine ab.mk [] ?_<;>(repeat' first|trivial|apply ah|apply mE)
     rw[he];rfl
   . refine⟨p7 _,p7 _,?_⟩;have q3:=zU v;rw[tx];omega
   . refine ab.mk [] ?_<;>(repeat' first|trivial|apply ah|apply mE)
     rw[tx,tx,he,List.drop_of_length_le (by omega),List.drop_of_length_le (by omega)];simp[kf]
 . rw[hs,Yl (by omega)];refine ab.mk [] ?_<;>(repeat' first|trivial|apply ah|apply mE)
   simp
 all_goals
  rw[hs];refine ab.mk [] ?_<;>(repeat' first|trivial|apply ah|apply mE)
  simp_all
  done
theorem PB{k:Nat} (h1:ax 70 (sG (k+1))) (v w:List ak) (hk:ji v<k+1):OK 30 [.list false 7 (aG v),.list false 7 (aG w)] [] (.bool (eJ v w)) none:=by
 refine aq (C:=cx [(70,sG (k+1))]) (ar ⟨h1,trivial⟩) (fn:=Tryz.f30) fun hw _=>?_;have e1:=cX v;have e2:=cX w;have hb:v.length<=9223372036854775807:=by have:=hw.1.1;rw[cX] at this;exact this
 repeat'((conv=>whnf);first|apply aK|(apply av<;>intro h))
 all_goals try conv=>whnf
 all_goals try(refine ae.mk ?_;try dsimp only)
 all_goals try refine stay ?_
 . have hl:v.length=w.length:=by omega
   refine aZ.mk Nat (fun i=>i<=v.length/\eJ v w=eJ (v.drop i) (w.drop i)) (fun i=>⟨42,[(0,.list false 7 (aG v)),(1,.list false 7 (aG w)),(5,.int .i64 i)],[],[]⟩) (fun i=>v.length-i) [] 0 ⟨bu _,rfl⟩ ?_ (fun i ⟨hi,he⟩ _ _=>?_)
   . apply ay<;>(repeat' first|trivial)
   have q4:i<v.length->(v.getD i default).value.nodes<=ji v:=fun h=>Lq h;repeat'((conv=>whnf);first|apply af|apply aK|((first|apply av|apply gI|apply fF)<;>intro h)|with_reducible refine nr ?_ ?_)
   all_goals try conv=>whnf
   all_goals try(refine ae.mk ?_;try dsimp only)
   all_goals first|refine stay ?_|omega|skip
   . refine⟨ue _,ue _,?_⟩;have:=q4 (by omega);rw[lv];omega
   . rw[lv,lv] at h;rw[Ez (by omega) hl,Ew,h,decide_eq_true (by assumption),Bool.true_and,Bool.true_and] at he;refine⟨[],i+1,⟨by omega,he⟩,?_,by omega⟩;apply ay<;>(repeat' first|trivial|apply ah|apply aN)
     (simp(discharger:=omega) only[wR];omega)
   . rw[lv,lv] at h;rw[Ez (by omega) hl,Ew,h,Bool.and_false,Bool.false_and] at he;rw[he];refine ab.mk [] ?_<;>(repeat' first|trivial)
   . rw[Ez (by omega) hl,Ew,decide_eq_false (by assumption),Bool.false_and,Bool.false_and] at he;rw[he];refine ab.mk [] ?_<;>(repeat' first|trivial)
   . rw[List.drop_of_length_le (by omega),List.drop_of_length_le (by omega)] at he;rw[he];simp only[eJ];refine ab.mk [] ?_<;>(repeat' first|trivial)
 . rw[Ym (by omega)];refine ab.mk [] ?_<;>(repeat' first|trivial)
theorem Mn:∀k:Nat,ax 70 (sG k)/\ax 30 (xI k)
 |0=>⟨MD fun _ _ h=>by omega,MC fun _ _ h=>by omega⟩
 |k+1=>by
   have ih:=Mn k;have h1:=MD (k:=k+1) fun v w hk=>PA ih.1 ih.2 v w hk;exact⟨h1,MC fun v w hk=>PB h1 v w hk⟩
def EI:Sm:=fun args σ=>match args,σ with
 |[x,y],[]=>some (oe x/\oe y,.bool (eJ (lq x) (lq y)),none)
 |_,_=>none
theorem TA:ax 30 EI:=by
 intro args sg pre x r he hp;unfold EI at he;split at he<;>cases he;rename_i y z;exact(Mn (ji (lq y)+1)).2 [y,z] [] _ _ _ rfl ⟨hp.1,hp.2,Nat.lt_succ_self _⟩
structure Ev where
 time:Int
 name:gA
 attrs:List ak
deriving Inhabited
structure Lk where
 (b0 b1 b2 b3 b4 b5 b6 b7 b8 b9 b10 b11 b12 b13 b14 b15 b16 b17 b18 b19 b20 b21 b22 b23:Int)
 state:gA
 attrs:List ak
deriving Inhabited
structure Sp where
 (a0 a1 a2 a3 a4 a5 a6 a7 a8 a9 a10 a11 a12 a13 a14 a15 a16 a17 a18 a19 a20 a21 a22 a23 a24 a25 a26 a27 a28 a29 a30 a31:Int)
 (state name:gA)
 (kind start fin:Int)
 attrs:List ak
 evs:List Ev
 lks:List Lk
 code:Int
 note:gA
deriving Inhabited
structure Sc where
 (name version:gA)
 spans:List Sp
deriving Inhabited
abbrev eEvc(e:Ev):List V:=[.int .u64 e.time,.str e.name,.list false 7 (aG e.attrs)]
abbrev eEv(e:Ev):V:=.agg (eEvc e)
abbrev eLkc(e:Lk):List V:=[.int .u8 e.b0,.int .u8 e.b1,.int .u8 e.b2,.int .u8 e.b3,.int .u8 e.b4,.int .u8 e.b5,.int .u8 e.b6,.int .u8 e.b7,.int .u8 e.b8,.int .u8 e.b9,.int .u8 e.b10,.int .u8 e.b11,.int .u8 e.b12,.int .u8 e.b13,.int .u8 e.b14,.int .u8 e.b15,.int .u8 e.b16,.int .u8 e.b17,.int .u8 e.b18,.int .u8 e.b19,.int .u8 e.b20,.int .u8 e.b21,.int .u8 e.b22,.int .u8 e.b23,.str e.state,.list false 7 (aG e.attrs)]
abbrev eLk(e:Lk):V:=.agg (eLkc e)
abbrev vY(s:Sp):List V:=[.int .u8 s.a0,.int .u8 s.a1,.int .u8 s.a2,.int .u8 s.a3,.int .u8 s.a4,.int .u8 s.a5,.int .u8 s.a6,.int .u8 s.a7,.int .u8 s.a8,.int .u8 s.a9,.int .u8 s.a10,.int .u8 s.a11,.int .u8 s.a12,.int .u8 s.a13,.int .u8 s.a14,.int .u8 s.a15,.int .u8 s.a16,.int .u8 s.a17,.int .u8 s.a18,.int .u8 s.a19,.int .u8 s.a20,.int .u8 s.a21,.int .u8 s.a22,.int .u8 s.a23,.int .u8 s.a24,.int .u8 s.a25,.int .u8 s.a26,.int .u8 s.a27,.int .u8 s.a28,.int .u8 s.a29,.int .u8 s.a30,.int .u8 s.a31,.str s.state,.str s.name,.int .i64 s.kind,.int .u64 s.start,.int .u64 s.fin,.list false 7 (aG s.attrs),.list false 3 (s.evs.map eEv),.list false 26 (s.lks.map eLk),.int .i64 s.code,.str s.note]
abbrev eSp(s:Sp):V:=.agg (vY s)
theorem wF{α:Type} [Inhabited α] {l:List α} {i:Nat} (h:i<l.length):l.getD i default∈l:=by
 rw[ac,am h];exact List.getElem_mem h
def HJ:V->Ev
 |.agg [.int _ t,.str n,.list _ _ l]=>⟨t,n,bI l⟩
 |_=>default
def decLk:V->Lk
 |.agg [.int _ b0,.int _ b1,.int _ b2,.int _ b3,.int _ b4,.int _ b5,.int _ b6,.int _ b7,.int _ b8,.int _ b9,.int _ b10,.int _ b11,.int _ b12,.int _ b13,.int _ b14,.int _ b15,.int _ b16,.int _ b17,.int _ b18,.int _ b19,.int _ b20,.int _ b21,.int _ b22,.int _ b23,.str s,.list _ _ l]=>⟨b0,b1,b2,b3,b4,b5,b6,b7,b8,b9,b10,b11,b12,b13,b14,b15,b16,b17,b18,b19,b20,b21,b22,b23,s,bI l⟩
 |_=>default
def pZ:V->Sp
 |.agg (.int _ a0::.int _ a1::.int _ a2::.int _ a3::.int _ a4::.int _ a5::.int _ a6::.int _ a7::.int _ a8::.int _ a9::.int _ a10::.int _ a11::.int _ a12::.int _ a13::.int _ a14::.int _ a15::.int _ a16::.int _ a17::.int _ a18::.int _ a19::.int _ a20::.int _ a21::.int _ a22::.int _ a23::.int _ a24::.int _ a25::.int _ a26::.int _ a27::.int _ a28::.int _ a29::.int _ a30::.int _ a31::.str s1::.str s2::.int _ k1::.int _ k2::.int _ k3::.list _ _ l1::.list _ _ l2::.list _ _ l3::.int _ k4::.str s3::[]) =>⟨a0,a1,a2,a3,a4,a5,a6,a7,a8,a9,a10,a11,a12,a13,a14,a15,a16,a17,a18,a19,a20,a21,a22,a23,a24,a25,a26,a27,a28,a29,a30,a31,s1,s2,k1,k2,k3,bI l1,l2.map HJ,l3.map decLk,k4,s3⟩
 |_=>default
def wL(x:V):Prop:=Wk x (eSp (pZ x))
theorem RN(s:Sp) (hle:s.evs.length<=100000) (hlk:s.lks.length<=100000):OK 8 [eSp s,eSp s] [] (.bool true) none:=by
 refine aq (C:=pX [(30,EI)] [(8,[.res,.res]),(14,[.res,.res])] [(6,2),(7,3),(9,2),(10,3)]) (rX ⟨TA,trivial⟩) (fn:=Tryz.f8) fun hw _=>?_;have e1:(s.evs.map eEv).length=s.evs.length:=by simp
 have e2:(s.lks.map eLk).length=s.lks.length:=by simp
 repeat'((conv=>whnf);first|apply af|apply aK|((first|apply av|apply gI|apply fF)<;>intro h))
 all_goals try conv=>whnf
 all_goals try(refine ae.mk ?_;try dsimp only)
 . exact⟨p7 _,p7 _⟩
 . refine aZ.mk Nat (fun i=>i<=s.evs.length) (fun i=>⟨177,[(2,.ptr 0 0),(3,.ptr 1 0),(5,.int .i64 i)],[.cells (vY s),.cells (vY s)],[0,1,2,3]⟩) (fun i=>s.evs.length-i) [] 0 (bu _) ?_ (fun i hi _ _=>?_)
   . apply ay<;>(repeat' first|trivial)
   repeat'((conv=>whnf);first|apply af|apply aK|((first|apply av|apply gI|apply fF)<;>intro h)|with_reducible apply lZ)
   all_goals try conv=>whnf
   all_goals try(refine ae.mk ?_;try dsimp only)
   all_goals (try simp only[aA] at*)
   all_goals first|refine stay ?_|omega|skip
   . exact⟨p7 _,p7 _⟩
   . refine⟨[],i+1,by omega,?_,by omega⟩;apply ay<;>(repeat' first|trivial|apply ah|apply aN)
     rw[bX];omega
   . first
    |contradiction
    |exact absurd trivial (show¬True by assumption)
    |exact Bool.noConfusion (((nB _ _).2 rfl).symm.trans (show eJ _ _=false by assumption))
    |(exfalso;simp_all;done)
   . first
    |contradiction
    |exact absurd trivial (show¬True by assumption)
    |exact Bool.noConfusion (((nB _ _).2 rfl).symm.trans (show eJ _ _=false by assumption))
    |(exfalso;simp_all;done)
   . first
    |contradiction
    |exact absurd trivial (show¬True by assumption)
    |exact Bool.noConfusion (((nB _ _).2 rfl).symm.trans (show eJ _ _=false by assumption))
    |(exfalso;simp_all;done)
   refine aZ.mk Nat (fun i=>i<=s.lks.length) (fun i=>⟨177,[(2,.ptr 0 0),(3,.ptr 1 0),(8,.int .i64 i)],[.cells (vY s),.cells (vY s)],[0,1,2,3]⟩) (fun i=>s.lks.length-i) [] 0 (bu _) ?_ (fun i hi _ _=>?_)
   . apply ay<;>(repeat' first|trivial)
   repeat'((conv=>whnf);first|apply af|apply aK|((first|apply av|apply gI|apply fF)<;>intro h)|with_reducible apply lZ)
   all_goals try conv=>whnf
   all_goals try(refine ae.mk ?_;try dsimp only)
   all_goals (try simp only[aA] at*)
   all_goals first|refine stay ?_|omega|skip
   . exact⟨p7 _,p7 _⟩
   . refine⟨[],i+1,by omega,?_,by omega⟩;apply ay<;>(repeat' first|trivial|apply ah|apply aN)
     rw[bX];omega
   . first
    |contradiction
    |exact absurd trivial (show¬True by assumption)
    |exact Bool.noConfusion (((nB _ _).2 rfl).symm.trans (show eJ _ _=false by assumption))
    |(exfalso;simp_all;done)
   . first
    |contradiction
    |exact absurd trivial (show¬True by assumption)
    |exact Bool.noConfusion (((nB _ _).2 rfl).symm.trans (show eJ _ _=false by assumption))
    |(exfalso;simp_all;done)
   . first
    |contradiction
    |exact absurd trivial (show¬True by assumption)
    |exact Bool.noConfusion (((nB _ _).2 rfl).symm.trans (show eJ _ _=false by assumption))
    |(exfalso;simp_all;done)
   . first
    |contradiction
    |exact absurd trivial (show¬True by assumption)
    |exact Bool.noConfusion (((nB _ _).2 rfl).symm.trans (show eJ _ _=false by assumption))
    |(exfalso;simp_all;done)
   . refine ab.mk [] ?_<;>(repeat' first|trivial)
 all_goals (exfalso;rename_i h;first|exact absurd rfl h|(rw[(nB _ _).2 rfl] at h;cases h;done)|(simp at h;done))
def FJ:Sm:=fun args σ=>match args,σ with
 |[x,y],[]=>some ((wL x/\wL y)/\pZ x=pZ y/\(pZ x).evs.length<=100000/\(pZ x).lks.length<=100000,.bool true,none)
 |_,_=>none
-- #name same27L truchmanref27.yb
theorem Uw:ax 8 FJ:=by
 intro args sg pre x r he hp;unfold FJ at he;split at he<;>cases he;obtain⟨⟨h1,h2⟩,h3,h4,h5⟩:=hp;unfold wL at h1 h2;rw[<-h3] at h2;exact(RN _ h4 h5).args (ba.cons h1 (ba.cons h2 ba.nil))
end Go.Proofs.YtchllohbglebiaaGreatDoor
