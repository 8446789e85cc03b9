/-
  A part of the proof.
-/
import Derived.Test.YtknljebcgcmaeaaGreatDoorKD
import Derived.Test.YtknljebcgcmaeaaGreatDoorJTw
import Derived.Test.YtknljebcgcmaeaaGreatDoorJSm
import Derived.Test.YtknljebcgcmaeaaGreatDoorKA
import Derived.Test.YtknljebcgcmaeaaGreatDoorTRo
import Derived.Test.YtknljebcgcmaeaaGreatDoorZSs
import Derived.Test.YtknljebcgcmaeaaGreatDoorZSj
set_option linter.unusedSimpArgs false
set_option linter.unusedVariables false
set_option maxHeartbeats 4000000
set_option maxRecDepth 100000
namespace Go.Proofs.YtknljebcgcmaeaaGreatDoor
open Go Go.VG
def cG(l:g8):Nat:=l.foldl (fun n b=>min 1099511627776 (10*n+(b.toNat-48))) 0
theorem Bk(s:g8) (b:UInt8):cG (s++[b]) =min 1099511627776 (10*cG s+(b.toNat-48)):=by unfold cG;rw[List.foldl_append];rfl
theorem sw(s:g8):cG s<=1099511627776:=by
 rcases List.eq_nil_or_concat s with rfl|⟨t,b,rfl⟩
 . decide
 . rw[List.concat_eq_append,Bk];exact Nat.min_le_left _ _
theorem Bj{s:g8} {i:Nat} (hi:i<s.length):cG (s.take (i+1)) =min 1099511627776 (10*cG (s.take i)+((s.getD i 0).toNat-48)):=by rw[oO hi,Bk]
def hP(p:g8):Int:=if(p.getD 0 0).toNat=45 then-(cG (p.filter ba):Int) else cG (p.filter ba)
def AY(p:g8):Prop:=∃g ds,p=g++ds/\(g=[]\/g=[43]\/g=[45])/\ds≠[]/\bf ds
theorem BQ{l:g8} (h:bf l):l.filter ba=l:=List.filter_eq_self.2 h
theorem Wy{p:g8} (h:AY p):0<p.length/\
   ((((p.getD 0 0).toNat=45\/(p.getD 0 0).toNat=43)/\bf (p.drop 1)/\p.filter ba=p.drop 1)\/((p.getD 0 0).toNat≠45/\(p.getD 0 0).toNat≠43/\bf p/\p.filter ba=p)):=by
 obtain⟨g,ds,rfl,hg,h0,hd⟩:=h;have hl:0<ds.length:=by cases ds;exact absurd rfl h0;simp
 rcases hg with rfl|rfl|rfl
 . have:=lS hd hl;exact⟨hl,.inr ⟨by show(ds.getD 0 0).toNat≠45;omega,by show(ds.getD 0 0).toNat≠43;omega,hd,BQ hd⟩⟩
 . refine⟨by simp,.inl ⟨.inr rfl,hd,?_⟩⟩;show(43::ds).filter ba=ds;rw[List.filter_cons_of_neg (by decide),BQ hd]
 . refine⟨by simp,.inl ⟨.inl rfl,hd,?_⟩⟩;show(45::ds).filter ba=ds;rw[List.filter_cons_of_neg (by decide),BQ hd]
def Es:Sm:=fun args σ=>match args,σ with
 |[.str p],[]=>some (AY p/\p.length<=100000000,.int .i64 (hP p),none)
 |_,_=>none
theorem T2:aq 233 Es:=by
 intro args sg pre x r he hp;unfold Es at he;split at he<;>cases he
 . rename_i p;refine ai (C:=cx []) (ak trivial) (fn:=Tryz.f233) fun hw hs=>?_;obtain⟨hp,hl⟩:=hp;obtain⟨h0,hcs⟩:=Wy hp;have hdl:(p.drop 1).length=p.length-1:=fo;repeat'((conv=>whnf);first|apply af|(apply aj<;>intro h)|with_reducible refine fH ?_ fun hc=>?_)
   all_goals try conv=>whnf
   all_goals try(refine ae.mk ?_;try dsimp only)
   all_goals (try simp only[aT,dX,dY] at*)
   all_goals first|refine stay ?_|trivial|omega|skip
   . obtain⟨_,k1,k2⟩:=hcs.resolve_right fun k=>k.1 (by omega);have hd:bf (p.drop 1):=k1;have ef:p.filter ba=p.drop 1:=k2;refine aM.mk Nat (fun i=>i<=(p.drop 1).length) (fun i=>⟨38,[(0,.str (p.drop 1)),(3,.bool (((p.getD 0 0).toNat:Int)==45)),(4,.int .i64 (cG ((p.drop 1).take i))),(20,.int .i64 (p.drop 1).length),(21,.int .i64 i)],[],[]⟩) (fun i=>(p.drop 1).length-i) [] 0 (ci _) ?_ (fun i hle _ _=>?_)
     . apply ao<;>(repeat' first|trivial)
     have hb:=fun h=>lS hd (i:=i) h;have hn:=fun h=>Bj (s:=p.drop 1) (i:=i) h;have hcl:=sw ((p.drop 1).take i);repeat'((conv=>whnf);first|apply af|(apply aj<;>intro h)|with_reducible refine cg ?_ fun hc=>?_)
     all_goals try conv=>whnf
     all_goals try(refine ae.mk ?_;try dsimp only)
     all_goals (try simp only[aT,dX,dY] at*)
     all_goals first|refine stay ?_|omega|skip
     . refine⟨[],i+1,by omega,?_,by omega⟩;have hb:=hb (by omega);have hn:=hn (by omega);apply ao<;>(repeat' first|trivial|apply ah|apply aC)
       all_goals first
        | (rw [w8 hb,wI (n:=(((p.drop 1).getD i 0).toNat - 48:Nat)) (by omega) (by omega),wI (n:=10 * (cG ((p.drop 1).take i):Int)) (by omega) (by omega),wI (n:=10 * (cG ((p.drop 1).take i):Int) + (((p.drop 1).getD i 0).toNat - 48:Nat)) (by omega) (by omega),hn]
           split<;>omega)
        |(simp(discharger:=omega) only[wR];omega)
     . rw[show hP p=-(cG (p.filter ba):Int) by unfold hP;rw[if_pos (by omega)],ef];rw[gg (by omega)] at hcl⊢;refine ab.mk [] ?_<;>(repeat' first|trivial|apply ah|apply aC)
       all_goals (show IntKind.i64.wrap (0-_)=_;rw[Int.zero_sub,bz];omega)
     . rw[show hP p=(cG (p.filter ba):Int) by unfold hP;rw[if_neg (by omega)],ef,gg (by omega)];refine ab.mk [] ?_<;>(repeat' first|trivial)
   . obtain⟨_,k1,k2⟩:=hcs.resolve_right fun k=>k.2.1 (by omega);have hd:bf (p.drop 1):=k1;have ef:p.filter ba=p.drop 1:=k2;refine aM.mk Nat (fun i=>i<=(p.drop 1).length) (fun i=>⟨38,[(0,.str (p.drop 1)),(3,.bool (((p.getD 0 0).toNat:Int)==45)),(4,.int .i64 (cG ((p.drop 1).take i))),(20,.int .i64 (p.drop 1).length),(21,.int .i64 i)],[],[]⟩) (fun i=>(p.drop 1).length-i) [] 0 (ci _) ?_ (fun i hle _ _=>?_)
     . apply ao<;>(repeat' first|trivial)
     have hb:=fun h=>lS hd (i:=i) h;have hn:=fun h=>Bj (s:=p.drop 1) (i:=i) h;have hcl:=sw ((p.drop 1).take i);repeat'((conv=>whnf);first|apply af|(apply aj<;>intro h)|with_reducible refine cg ?_ fun hc=>?_)
     all_goals try conv=>whnf
     all_goals try(refine ae.mk ?_;try dsimp only)
     all_goals (try simp only[aT,dX,dY] at*)
     all_goals first|refine stay ?_|omega|skip
     . refine⟨[],i+1,by omega,?_,by omega⟩;have hb:=hb (by omega);have hn:=hn (by omega);apply ao<;>(repeat' first|trivial|apply ah|apply aC)
       all_goals first
        | (rw [w8 hb,wI (n:=(((p.drop 1).getD i 0).toNat - 48:Nat)) (by omega) (by omega),wI (n:=10 * (cG ((p.drop 1).take i):Int)) (by omega) (by omega),wI (n:=10 * (cG ((p.drop 1).take i):Int) + (((p.drop 1).getD i 0).toNat - 48:Nat)) (by omega) (by omega),hn]
           split<;>omega)
        |(simp(discharger:=omega) only[wR];omega)
     . rw[show hP p=-(cG (p.filter ba):Int) by unfold hP;rw[if_pos (by omega)],ef];rw[gg (by omega)] at hcl⊢;refine ab.mk [] ?_<;>(repeat' first|trivial)
       all_goals (show IntKind.i64.wrap (0-_)=_;rw[Int.zero_sub,bz];omega)
     . rw[show hP p=(cG (p.filter ba):Int) by unfold hP;rw[if_neg (by omega)],ef,gg (by omega)];refine ab.mk [] ?_<;>(repeat' first|trivial)
   . obtain⟨_,_,k1,k2⟩:=hcs.resolve_left fun k=>by omega
     have hd:bf (p):=k1;have ef:p.filter ba=p:=k2;refine aM.mk Nat (fun i=>i<=(p).length) (fun i=>⟨38,[(0,.str (p)),(3,.bool (((p.getD 0 0).toNat:Int)==45)),(4,.int .i64 (cG ((p).take i))),(20,.int .i64 (p).length),(21,.int .i64 i)],[],[]⟩) (fun i=>(p).length-i) [] 0 (ci _) ?_ (fun i hle _ _=>?_)
     . apply ao<;>(repeat' first|trivial)
     have hb:=fun h=>lS hd (i:=i) h;have hn:=fun h=>Bj (s:=p) (i:=i) h;have hcl:=sw ((p).take i);repeat'((conv=>whnf);first|apply af|(apply aj<;>intro h)|with_reducible refine cg ?_ fun hc=>?_)
     all_goals try conv=>whnf
     all_goals try(refine ae.mk ?_;try dsimp only)
     all_goals (try simp only[aT,dX,dY] at*)
     all_goals first|refine stay ?_|omega|skip
     . refine⟨[],i+1,by omega,?_,by omega⟩;have hb:=hb (by omega);have hn:=hn (by omega);apply ao<;>(repeat' first|trivial|apply ah|apply aC)
       all_goals first
        | (rw [w8 hb,wI (n:=(((p).getD i 0).toNat - 48:Nat)) (by omega) (by omega),wI (n:=10 * (cG ((p).take i):Int)) (by omega) (by omega),wI (n:=10 * (cG ((p).take i):Int) + (((p).getD i 0).toNat - 48:Nat)) (by omega) (by omega),hn]
           split<;>omega)
        |(simp(discharger:=omega) only[wR];omega)
     . rw[show hP p=-(cG (p.filter ba):Int) by unfold hP;rw[if_pos (by omega)],ef];rw[gg (by omega)] at hcl⊢;refine ab.mk [] ?_<;>(repeat' first|trivial)
       all_goals (show IntKind.i64.wrap (0-_)=_;rw[Int.zero_sub,bz];omega)
     . rw[show hP p=(cG (p.filter ba):Int) by unfold hP;rw[if_neg (by omega)],ef,gg (by omega)];refine ab.mk [] ?_<;>(repeat' first|trivial)
def gK(s:g8):g8:=s.dropWhile (·==48)
theorem N3{s:g8} (h:s≠[]) (h2:(s.getD 0 0).toNat=48):gK s=gK (s.drop 1):=by
 cases s with
 |nil=>exact absurd rfl h
 |cons b s=>unfold gK;rw[List.dropWhile_cons,if_pos (by rw[show b=48 from UInt8.toNat_inj.1 h2];rfl)];rfl
theorem Gb{s:g8} (h:s=[]\/(s.getD 0 0).toNat≠48):gK s=s:=by
 cases s with
 |nil=>rfl
 |cons b s=>
   rcases h with h|h
   . cases h
   . unfold gK;rw[List.dropWhile_cons,if_neg (by rw[beq_iff_eq];intro e;rw[e] at h;exact h rfl)]
def Ew:Sm:=fun args σ=>match args,σ with
 |[.str s],[]=>some (s.length<=100000000,.str (gK s),none)
 |_,_=>none
theorem T5:aq 192 Ew:=by
 intro args sg pre x r he hp;unfold Ew at he;split at he<;>cases he
 . rename_i s;refine ai (C:=cx []) (ak trivial) (fn:=Tryz.f192) fun hw hs=>?_;refine aM.mk g8 (fun x=>gK s=gK x/\x.length<=s.length) (fun x=>⟨13,[(0,.str x)],[],[]⟩) (fun x=>x.length) [] s ⟨rfl,co _⟩ ?_ (fun x ⟨hx,hl⟩ _ _=>?_)
   . apply ao<;>(repeat' first|trivial)
   have hne:x≠[]->0<x.length:=fun h=>by cases x;exact absurd rfl h;simp
   have hdl:(x.drop 1).length=x.length-1:=fo;repeat'((conv=>whnf);first|apply af|apply aI|((first|apply aj|apply dr)<;>intro h)|with_reducible refine fH ?_ fun hc=>?_)
   all_goals try conv=>whnf
   all_goals try(refine ae.mk ?_;try dsimp only)
   all_goals (try simp only[aT,dX,dY] at*)
   all_goals first|refine stay ?_|trivial|skip
   . rw[hx,Gb (.inl ‹_›)];refine ab.mk [] ?_<;>(repeat' first|trivial)
   . exact hne ‹_›
   . have:=hne ‹_›;exact⟨by omega,by omega⟩
   . have:=hne ‹_›;refine⟨[],x.drop 1,⟨by rw[hx,N3 ‹_› (by omega)],by omega⟩,?_,by omega⟩;apply ao<;>(repeat' first|trivial)
   . rw[hx,Gb (.inr (by omega))];refine ab.mk [] ?_<;>(repeat' first|trivial)
def sP(e:UInt8) (p:g8):g8:=if p=[] then[] else e::p
def bo(b:g8):g8:=if b=[] then[] else 46::b
structure n9(u w b p:g8) (e:UInt8):Prop where
 eq:u=(w++bo b)++sP e p
 wd:bf w
 bd:bf b
 he:e.toNat=101\/e.toNat=69
 pd:p=[]\/AY p
theorem IU{a b:g8}:(a++b).getD a.length 0=b.getD 0 0:=by
 rw[ac,ac,d7 (co _),Nat.sub_self]
theorem Bx{w b:g8} (hw:bf w) (hb:bf b) {i:Nat} (hi:i<(w++bo b).length):((w++bo b).getD i 0).toNat=46/\i=w.length/\b≠[]\/(48<=((w++bo b).getD i 0).toNat/\((w++bo b).getD i 0).toNat<=57/\(i=w.length->False)):=by
 unfold bo at hi⊢;rcases Nat.lt_trichotomy i w.length with q|q|q
 . rw[vF q];have:=lS hw q;exact .inr ⟨this.1,this.2,by omega⟩
 . subst q;rw[IU];by_cases e:b=[]
   . rw[if_pos e] at hi;simp at hi
   . rw[if_neg e];exact .inl ⟨rfl,rfl,e⟩
 . by_cases e:b=[]
   . rw[if_pos e] at hi;simp at hi;omega
   . rw[if_neg e] at hi⊢;rw[an,List.length_cons] at hi;have:=lS hb (i:=i-w.length-1) (by omega);rw[ac,d7 (by omega),show i-w.length=i-w.length-1+1 by omega,List.getElem?_cons_succ,<-ac];exact .inr ⟨this.1,this.2,by omega⟩
theorem n9.ph{u w b p:g8} {e:UInt8} (h:n9 u w b p e) {i:Nat} (hi:i<(w++bo b).length):(u.getD i 0).toNat≠101/\(u.getD i 0).toNat≠69:=by
 rw[h.eq,vF hi];rcases Bx h.wd h.bd hi with k|k<;>omega
theorem n9.len{u w b p:g8} {e:UInt8} (h:n9 u w b p e):u.length=(w++bo b).length+(sP e p).length:=by rw[h.eq,an]
theorem n9.nc{u w b p:g8} {e:UInt8} (h:n9 u w b p e) {i:Nat} (hi:i<u.length) (hk:¬i<(w++bo b).length) (hle:i<=(w++bo b).length):i=(w++bo b).length/\p≠[]/\((u.getD i 0).toNat=101\/(u.getD i 0).toNat=69)/\u.drop (i+1) =p/\u.take i=w++bo b:=by
 have hl:=h.len;have e0:i=(w++bo b).length:=by omega
 have hp:p≠[]:=fun k=>by rw[k,show sP e []=[] from rfl,List.length_nil] at hl;omega
 have hu:=h.eq;unfold sP at hu;rw[if_neg hp] at hu;refine⟨e0,hp,?_,?_,?_⟩
 . rw[e0,hu,IU];exact h.he
 . rw[e0,hu,show(w++bo b)++e::p=((w++bo b)++[e])++p by simp,show(w++bo b).length+1=((w++bo b)++[e]).length by rw[show((w++bo b)++[e]).length=(w++bo b).length+[e].length from an];rfl];exact List.drop_left
 . rw[e0,hu];exact List.take_left
theorem n9.I2{u w b p:g8} {e:UInt8} (h:n9 u w b p e) {i:Nat} (hi:¬i<u.length) (hle:i<=(w++bo b).length):p=[]/\u=w++bo b:=by
 have hl:=h.len;have hu:=h.eq;unfold sP at hl hu;by_cases k:p=[]
 . rw[if_pos k,List.append_nil] at hu;exact⟨k,hu⟩
 . rw[if_neg k,List.length_cons] at hl;omega
theorem sJ{w b:g8} (hw:bf w) (hb:bf b) {i:Nat} (hi:i<(w++bo b).length) (h:((w++bo b).getD i 0).toNat=46):(w++bo b).take i=w/\(w++bo b).drop (i+1) =b:=by
 rcases Bx hw hb hi with k|k
 . obtain⟨_,rfl,k⟩:=k;unfold bo;rw[if_neg k];refine⟨List.take_left,?_⟩;rw[show w++46::b=(w++[46])++b by simp,show w.length+1=(w++[46]).length by rw[an];rfl];exact List.drop_left
 . omega
theorem sH{w b:g8} (hw:bf w) (hb:bf b) {i:Nat} (hi:¬i<(w++bo b).length) (hle:i<=w.length):b=[]/\w++bo b=w:=by
 unfold bo at hi⊢;by_cases k:b=[]
 . rw[if_pos k,List.append_nil];exact⟨k,rfl⟩
 . rw[if_neg k] at hi;simp at hi;omega
theorem sI{w b:g8} (hw:bf w) (hb:bf b) {i:Nat} (hi:i<(w++bo b).length) (hle:i<=w.length) (h:((w++bo b).getD i 0).toNat≠46):i+1<=w.length:=by
 rcases Bx hw hb hi with k|k
 . exact absurd k.1 h
 . rcases Nat.lt_or_eq_of_le hle with q|q
   . exact q
   . exact absurd q k.2.2
def oF(s:g8):Prop:=(cM s 0).1=s.length/\(cM s 0).2=0
def db(p:g8):Int:=if p=[] then 0 else hP p
theorem zi{p:g8} (h:p≠[]):hP p=db p:=by unfold db;rw[if_neg h]
def Eu:Sm:=fun args σ=>match args,σ with
 |[.str s],[]=>some (oF s/\s.length<=100000000,.agg [.bool (cC s 0 45 45),.str (bm s 0).w,.str (bm s 0).b,.int .i64 (db (bm s 0).p)],none)
 |_,_=>none
theorem T4:aq 191 Eu:=by
 intro args sg pre x r he hp;unfold Eu at he;split at he<;>cases he
 . rename_i s;refine ai (C:=cx [(233,Es)]) (ak ⟨T2,trivial⟩) (fn:=Tryz.f191) fun hw hs=>?_;obtain⟨hp,hl⟩:=hp;obtain⟨e,hp⟩:=D3 hp.1 hp.2;generalize cC s 0 45 45=m at*;generalize (bm s 0).w=w at*;generalize (bm s 0).b=b at*;generalize (bm s 0).p=p at*;have hs1:(if m=true then[(45:UInt8)] else[]).length=if m=true then 1 else 0:=by cases m<;>rfl
   have hs2:s.drop (if m=true then 1 else 0) =(w++bo b)++sP e p:=by
    have h:=hp.eq;rw[h,<-hs1,gc];exact List.drop_left
   have hu:n9 (s.drop (if m=true then 1 else 0)) w b p e:=⟨hs2,hp.wd,hp.bd,hp.he,hp.pd⟩
   have hw0:0<w.length:=by have:=hp.w0;cases w;exact absurd rfl this;simp
   have hm:(s.getD 0 0).toNat=45↔m=true:=by
    rw[hp.eq];cases m with
    |true=>simp
    |false=>
      rw[if_neg (by decide),List.nil_append,vF (by omega)];have:=lS hp.wd hw0;exact⟨fun q=>by omega,fun q=>by cases q⟩
   have h0:0<s.length:=by
    have e:=congrArg List.length hs2;rw[fo,an,an] at e;generalize (if m=true then 1 else 0) =k at e;omega
   cases m with
   |true=>
     rw[if_pos rfl] at hu;have hm:=hm.2 rfl;have hdl:(s.drop 1).length=s.length-1:=fo;repeat'((conv=>whnf);first|apply af|(apply aj<;>intro h)|with_reducible refine fH ?_ fun hc=>?_)
     all_goals try conv=>whnf
     all_goals try(refine ae.mk ?_;try dsimp only)
     all_goals (try simp only[aT,dX,dY] at*)
     all_goals first|refine stay ?_|trivial|omega|skip
     . have hdl:(s.drop 1).length<=100000000:=by omega
       generalize s.drop 1=u at*;have hul:u.length<=100000000:=hdl;refine aM.mk Nat (fun i=>i<=(w++bo b).length/\i<=u.length) (fun i=>⟨59,[(0,.str u),(2,.ptr 0 0),(3,.ptr 1 0),(13,.int .i64 u.length),(14,.int .i64 i)],[.cells [.bool false,.str [],.str [],.int .i64 0],.cells [.bool true,.str [],.str [],.int .i64 0]],[]⟩) (fun i=>u.length-i) [] 0 ⟨ci _,ci _⟩ ?_ (fun i ⟨hi,hi2⟩ _ _=>?_)
       . apply ao<;>(repeat' first|trivial)
       have hw1:i<u.length->IntKind.i64.wrap ((i:Int)+1) =((i+1:Nat):Int):=fun h=>by rw[bz];omega
       repeat'((conv=>whnf);first|apply af|(apply aj<;>intro h)|with_reducible refine cg ?_ fun hc=>?_)
       all_goals try conv=>whnf
       all_goals try(refine ae.mk ?_;try dsimp only)
       all_goals (try rw[hw1 (by omega)])
       all_goals (try simp only[aT,dX,dY] at*)
       all_goals first|refine stay ?_|omega|skip
       . obtain⟨_,y2,_,y4,y5⟩:=hu.nc (i:=i) (by omega) (fun k=>by have:=hu.ph k;omega) hi;exact⟨by rw[Int.toNat_natCast,y4];exact hu.pd.resolve_left y2,by rw[fo];omega⟩
       . obtain⟨_,y2,_,y4,y5⟩:=hu.nc (i:=i) (by omega) (fun k=>by have:=hu.ph k;omega) hi;have KT:u.take ((i:Nat):Int).toNat=w++bo b:=y5;have KP:hP (u.drop (((i+1:Nat):Int)).toNat) =db p:=by rw[Int.toNat_natCast,y4];exact zi y2
         refine aM.mk Nat (fun i=>i<=w.length/\i<=(w++bo b).length) (fun i=>⟨59,[(0,.str (w++bo b)),(2,.ptr 0 0),(3,.ptr 1 0),(40,.int .i64 (w++bo b).length),(41,.int .i64 i)],[.cells [.bool false,.str [],.str [],.int .i64 0],.cells [.bool true,.str (w++bo b),.str [],.int .i64 (db p)]],[]⟩) (fun i=>(w++bo b).length-i) [] 0 ⟨ci _,ci _⟩ ?_ (fun i ⟨hi,hi2⟩ _ _=>?_)
         . apply ao<;>(repeat' first|trivial|apply ah|apply cV|apply aC|apply iR|apply bV)
           all_goals first
            |exact KT
            |exact KP
            |exact congrArg _ (congrArg _ KT)
         have hw1:i<(w++bo b).length->IntKind.i64.wrap ((i:Int)+1) =((i+1:Nat):Int):=fun h=>by
          have:=congrArg List.length KT;rw[bz];omega
         repeat'((conv=>whnf);first|apply af|(apply aj<;>intro h)|with_reducible refine cg ?_ fun hc=>?_)
         all_goals try conv=>whnf
         all_goals try(refine ae.mk ?_;try dsimp only)
         all_goals (try rw[hw1 (by omega)])
         all_goals (try simp only[aT,dX,dY] at*)
         all_goals first|refine stay ?_|omega|skip
         . obtain⟨q1,q2⟩:=sJ hu.wd hu.bd (i:=i) (by omega) (by omega);refine ab.mk [] ?_<;>(repeat' first|trivial|apply ah|apply cV|apply fQ|apply bV)
           all_goals first
            |exact q1
            |exact q2
         . refine⟨[],i+1,⟨sI hu.wd hu.bd (i:=i) (by omega) hi (by omega),by omega⟩,?_,by omega⟩;apply ao<;>(repeat' first|trivial)
         . obtain⟨q1,q2⟩:=sH hu.wd hu.bd (i:=i) (by omega) hi;refine ab.mk [] ?_<;>(repeat' first|trivial|apply ah|apply cV|apply fQ|apply bV)
           all_goals first
            |exact q2
            |exact q1.symm
       . obtain⟨_,y2,_,y4,y5⟩:=hu.nc (i:=i) (by omega) (fun k=>by have:=hu.ph k;omega) hi;exact⟨by rw[Int.toNat_natCast,y4];exact hu.pd.resolve_left y2,by rw[fo];omega⟩
       . obtain⟨_,y2,_,y4,y5⟩:=hu.nc (i:=i) (by omega) (fun k=>by have:=hu.ph k;omega) hi;have KT:u.take ((i:Nat):Int).toNat=w++bo b:=y5;have KP:hP (u.drop (((i+1:Nat):Int)).toNat) =db p:=by rw[Int.toNat_natCast,y4];exact zi y2
         refine aM.mk Nat (fun i=>i<=w.length/\i<=(w++bo b).length) (fun i=>⟨59,[(0,.str (w++bo b)),(2,.ptr 0 0),(3,.ptr 1 0),(40,.int .i64 (w++bo b).length),(41,.int .i64 i)],[.cells [.bool false,.str [],.str [],.int .i64 0],.cells [.bool true,.str (w++bo b),.str [],.int .i64 (db p)]],[]⟩) (fun i=>(w++bo b).length-i) [] 0 ⟨ci _,ci _⟩ ?_ (fun i ⟨hi,hi2⟩ _ _=>?_)
         . apply ao<;>(repeat' first|trivial|apply ah|apply cV|apply aC|apply iR|apply bV)
           all_goals first
            |exact KT
            |exact KP
            |exact congrArg _ (congrArg _ KT)
         have hw1:i<(w++bo b).length->IntKind.i64.wrap ((i:Int)+1) =((i+1:Nat):Int):=fun h=>by
          have:=congrArg List.length KT;rw[bz];omega
         repeat'((conv=>whnf);first|apply af|(apply aj<;>intro h)|with_reducible refine cg ?_ fun hc=>?_)
         all_goals try conv=>whnf
         all_goals try(refine ae.mk ?_;try dsimp only)
         all_goals (try rw[hw1 (by omega)])
         all_goals (try simp only[aT,dX,dY] at*)
         all_goals first|refine stay ?_|omega|skip
         . obtain⟨q1,q2⟩:=sJ hu.wd hu.bd (i:=i) (by omega) (by omega);refine ab.mk [] ?_<;>(repeat' first|trivial|apply ah|apply cV|apply fQ|apply bV)
           all_goals first
            |exact q1
            |exact q2
         . refine⟨[],i+1,⟨sI hu.wd hu.bd (i:=i) (by omega) hi (by omega),by omega⟩,?_,by omega⟩;apply ao<;>(repeat' first|trivial)
         . obtain⟨q1,q2⟩:=sH hu.wd hu.bd (i:=i) (by omega) hi;refine ab.mk [] ?_<;>(repeat' first|trivial|apply ah|apply cV|apply fQ|apply bV)
           all_goals first
            |exact q2
            |exact q1.symm
       . refine⟨[],i+1,⟨?_,by omega⟩,?_,by omega⟩
         . rcases Nat.lt_or_eq_of_le hi with q|q
           . exact q
           . have:=hu.nc (i:=i) (by omega) (by omega) hi;omega
         apply ao<;>(repeat' first|trivial)
       . obtain⟨y2,y5⟩:=hu.I2 (i:=i) (by omega) hi;have KT:u=w++bo b:=y5;have KP:(0:Int) =db p:=by rw[y2];rfl
         refine aM.mk Nat (fun i=>i<=w.length/\i<=(w++bo b).length) (fun i=>⟨59,[(0,.str (w++bo b)),(2,.ptr 0 0),(3,.ptr 1 0),(40,.int .i64 (w++bo b).length),(41,.int .i64 i)],[.cells [.bool false,.str [],.str [],.int .i64 0],.cells [.bool true,.str (w++bo b),.str [],.int .i64 (db p)]],[]⟩) (fun i=>(w++bo b).length-i) [] 0 ⟨ci _,ci _⟩ ?_ (fun i ⟨hi,hi2⟩ _ _=>?_)
         . apply ao<;>(repeat' first|trivial|apply ah|apply cV|apply aC|apply iR|apply bV)
           all_goals first
            |exact KT
            |exact KP
            |exact congrArg _ (congrArg _ KT)
         have hw1:i<(w++bo b).length->IntKind.i64.wrap ((i:Int)+1) =((i+1:Nat):Int):=fun h=>by
          have:=congrArg List.length KT;rw[bz];omega
         repeat'((conv=>whnf);first|apply af|(apply aj<;>intro h)|with_reducible refine cg ?_ fun hc=>?_)
         all_goals try conv=>whnf
         all_goals try(refine ae.mk ?_;try dsimp only)
         all_goals (try rw[hw1 (by omega)])
         all_goals (try simp only[aT,dX,dY] at*)
         all_goals first|refine stay ?_|omega|skip
         . obtain⟨q1,q2⟩:=sJ hu.wd hu.bd (i:=i) (by omega) (by omega);refine ab.mk [] ?_<;>(repeat' first|trivial|apply ah|apply cV|apply fQ|apply bV)
           all_goals first
            |exact q1
            |exact q2
         . refine⟨[],i+1,⟨sI hu.wd hu.bd (i:=i) (by omega) hi (by omega),by omega⟩,?_,by omega⟩;apply ao<;>(repeat' first|trivial)
         . obtain⟨q1,q2⟩:=sH hu.wd hu.bd (i:=i) (by omega) hi;refine ab.mk [] ?_<;>(repeat' first|trivial|apply ah|apply cV|apply fQ|apply bV)
           all_goals first
            |exact q2
            |exact q1.symm
     . omega
   |false=>
     rw[if_neg (by decide)] at hu;have hm:¬(s.getD 0 0).toNat=45:=fun h=>by cases hm.1 h
     repeat'((conv=>whnf);first|apply af|(apply aj<;>intro h)|with_reducible refine fH ?_ fun hc=>?_)
     all_goals try conv=>whnf
     all_goals try(refine ae.mk ?_;try dsimp only)
     all_goals (try simp only[aT,dX,dY] at*)
     all_goals first|refine stay ?_|trivial|omega|skip
     . omega
     . have hu:n9 s w b p e:=hu;generalize s=u at*;have hul:u.length<=100000000:=hl;refine aM.mk Nat (fun i=>i<=(w++bo b).length/\i<=u.length) (fun i=>⟨59,[(0,.str u),(2,.ptr 0 0),(3,.ptr 1 0),(13,.int .i64 u.length),(14,.int .i64 i)],[.cells [.bool false,.str [],.str [],.int .i64 0],.cells [.bool false,.str [],.str [],.int .i64 0]],[]⟩) (fun i=>u.length-i) [] 0 ⟨ci _,ci _⟩ ?_ (fun i ⟨hi,hi2⟩ _ _=>?_)
       . apply ao<;>(repeat' first|trivial)
       have hw1:i<u.length->IntKind.i64.wrap ((i:Int)+1) =((i+1:Nat):Int):=fun h=>by rw[bz];omega
       repeat'((conv=>whnf);first|apply af|(apply aj<;>intro h)|with_reducible refine cg ?_ fun hc=>?_)
       all_goals try conv=>whnf
       all_goals try(refine ae.mk ?_;try dsimp only)
       all_goals (try rw[hw1 (by omega)])
       all_goals (try simp only[aT,dX,dY] at*)
       all_goals first|refine stay ?_|omega|skip
       . obtain⟨_,y2,_,y4,y5⟩:=hu.nc (i:=i) (by omega) (fun k=>by have:=hu.ph k;omega) hi;exact⟨by rw[Int.toNat_natCast,y4];exact hu.pd.resolve_left y2,by rw[fo];omega⟩
       . obtain⟨_,y2,_,y4,y5⟩:=hu.nc (i:=i) (by omega) (fun k=>by have:=hu.ph k;omega) hi;have KT:u.take ((i:Nat):Int).toNat=w++bo b:=y5;have KP:hP (u.drop (((i+1:Nat):Int)).toNat) =db p:=by rw[Int.toNat_natCast,y4];exact zi y2
         refine aM.mk Nat (fun i=>i<=w.length/\i<=(w++bo b).length) (fun i=>⟨59,[(0,.str (w++bo b)),(2,.ptr 0 0),(3,.ptr 1 0),(40,.int .i64 (w++bo b).length),(41,.int .i64 i)],[.cells [.bool false,.str [],.str [],.int .i64 0],.cells [.bool false,.str (w++bo b),.str [],.int .i64 (db p)]],[]⟩) (fun i=>(w++bo b).length-i) [] 0 ⟨ci _,ci _⟩ ?_ (fun i ⟨hi,hi2⟩ _ _=>?_)
         . apply ao<;>(repeat' first|trivial|apply ah|apply cV|apply aC|apply iR|apply bV)
           all_goals first
            |exact KT
            |exact KP
            |exact congrArg _ (congrArg _ KT)
         have hw1:i<(w++bo b).length->IntKind.i64.wrap ((i:Int)+1) =((i+1:Nat):Int):=fun h=>by
          have:=congrArg List.length KT;rw[bz];omega
         repeat'((conv=>whnf);first|apply af|(apply aj<;>intro h)|with_reducible refine cg ?_ fun hc=>?_)
         all_goals try conv=>whnf
         all_goals try(refine ae.mk ?_;try dsimp only)
         all_goals (try rw[hw1 (by omega)])
         all_goals (try simp only[aT,dX,dY] at*)
         all_goals first|refine stay ?_|omega|skip
         . obtain⟨q1,q2⟩:=sJ hu.wd hu.bd (i:=i) (by omega) (by omega);refine ab.mk [] ?_<;>(repeat' first|trivial|apply ah|apply cV|apply fQ|apply bV)
           all_goals first
            |exact q1
            |exact q2
         . refine⟨[],i+1,⟨sI hu.wd hu.bd (i:=i) (by omega) hi (by omega),by omega⟩,?_,by omega⟩;apply ao<;>(repeat' first|trivial)
         . obtain⟨q1,q2⟩:=sH hu.wd hu.bd (i:=i) (by omega) hi;refine ab.mk [] ?_<;>(repeat' first|trivial|apply ah|apply cV|apply fQ|apply bV)
           all_goals first
            |exact q2
            |exact q1.symm
       . obtain⟨_,y2,_,y4,y5⟩:=hu.nc (i:=i) (by omega) (fun k=>by have:=hu.ph k;omega) hi;exact⟨by rw[Int.toNat_natCast,y4];exact hu.pd.resolve_left y2,by rw[fo];omega⟩
       . obtain⟨_,y2,_,y4,y5⟩:=hu.nc (i:=i) (by omega) (fun k=>by have:=hu.ph k;omega) hi;have KT:u.take ((i:Nat):Int).toNat=w++bo b:=y5;have KP:hP (u.drop (((i+1:Nat):Int)).toNat) =db p:=by rw[Int.toNat_natCast,y4];exact zi y2
         refine aM.mk Nat (fun i=>i<=w.length/\i<=(w++bo b).length) (fun i=>⟨59,[(0,.str (w++bo b)),(2,.ptr 0 0),(3,.ptr 1 0),(40,.int .i64 (w++bo b).length),(41,.int .i64 i)],[.cells [.bool false,.str [],.str [],.int .i64 0],.cells [.bool false,.str (w++bo b),.str [],.int .i64 (db p)]],[]⟩) (fun i=>(w++bo b).length-i) [] 0 ⟨ci _,ci _⟩ ?_ (fun i ⟨hi,hi2⟩ _ _=>?_)
         . apply ao<;>(repeat' first|trivial|apply ah|apply cV|apply aC|apply iR|apply bV)
           all_goals first
            |exact KT
            |exact KP
            |exact congrArg _ (congrArg _ KT)
         have hw1:i<(w++bo b).length->IntKind.i64.wrap ((i:Int)+1) =((i+1:Nat):Int):=fun h=>by
          have:=congrArg List.length KT;rw[bz];omega
         repeat'((conv=>whnf);first|apply af|(apply aj<;>intro h)|with_reducible refine cg ?_ fun hc=>?_)
         all_goals try conv=>whnf
         all_goals try(refine ae.mk ?_;try dsimp only)
         all_goals (try rw[hw1 (by omega)])
         all_goals (try simp only[aT,dX,dY] at*)
         all_goals first|refine stay ?_|omega|skip
         . obtain⟨q1,q2⟩:=sJ hu.wd hu.bd (i:=i) (by omega) (by omega);refine ab.mk [] ?_<;>(repeat' first|trivial|apply ah|apply cV|apply fQ|apply bV)
           all_goals first
            |exact q1
            |exact q2
         . refine⟨[],i+1,⟨sI hu.wd hu.bd (i:=i) (by omega) hi (by omega),by omega⟩,?_,by omega⟩;apply ao<;>(repeat' first|trivial)
         . obtain⟨q1,q2⟩:=sH hu.wd hu.bd (i:=i) (by omega) hi;refine ab.mk [] ?_<;>(repeat' first|trivial|apply ah|apply cV|apply fQ|apply bV)
           all_goals first
            |exact q2
            |exact q1.symm
       . refine⟨[],i+1,⟨?_,by omega⟩,?_,by omega⟩
         . rcases Nat.lt_or_eq_of_le hi with q|q
           . exact q
           . have:=hu.nc (i:=i) (by omega) (by omega) hi;omega
         apply ao<;>(repeat' first|trivial)
       . obtain⟨y2,y5⟩:=hu.I2 (i:=i) (by omega) hi;have KT:u=w++bo b:=y5;have KP:(0:Int) =db p:=by rw[y2];rfl
         refine aM.mk Nat (fun i=>i<=w.length/\i<=(w++bo b).length) (fun i=>⟨59,[(0,.str (w++bo b)),(2,.ptr 0 0),(3,.ptr 1 0),(40,.int .i64 (w++bo b).length),(41,.int .i64 i)],[.cells [.bool false,.str [],.str [],.int .i64 0],.cells [.bool false,.str (w++bo b),.str [],.int .i64 (db p)]],[]⟩) (fun i=>(w++bo b).length-i) [] 0 ⟨ci _,ci _⟩ ?_ (fun i ⟨hi,hi2⟩ _ _=>?_)
         . apply ao<;>(repeat' first|trivial|apply ah|apply cV|apply aC|apply iR|apply bV)
           all_goals first
            |exact KT
            |exact KP
            |exact congrArg _ (congrArg _ KT)
         have hw1:i<(w++bo b).length->IntKind.i64.wrap ((i:Int)+1) =((i+1:Nat):Int):=fun h=>by
          have:=congrArg List.length KT;rw[bz];omega
         repeat'((conv=>whnf);first|apply af|(apply aj<;>intro h)|with_reducible refine cg ?_ fun hc=>?_)
         all_goals try conv=>whnf
         all_goals try(refine ae.mk ?_;try dsimp only)
         all_goals (try rw[hw1 (by omega)])
         all_goals (try simp only[aT,dX,dY] at*)
         all_goals first|refine stay ?_|omega|skip
         . obtain⟨q1,q2⟩:=sJ hu.wd hu.bd (i:=i) (by omega) (by omega);refine ab.mk [] ?_<;>(repeat' first|trivial|apply ah|apply cV|apply fQ|apply bV)
           all_goals first
            |exact q1
            |exact q2
         . refine⟨[],i+1,⟨sI hu.wd hu.bd (i:=i) (by omega) hi (by omega),by omega⟩,?_,by omega⟩;apply ao<;>(repeat' first|trivial)
         . obtain⟨q1,q2⟩:=sH hu.wd hu.bd (i:=i) (by omega) hi;refine ab.mk [] ?_<;>(repeat' first|trivial|apply ah|apply cV|apply fQ|apply bV)
           all_goals first
            |exact q2
            |exact q1.symm
theorem Na(q:UInt8->Bool):∀(l:g8) (j:Nat),j<(l.takeWhile q).length->j<l.length/\q (l.getD j 0) =true
 |[],j,h=>by simp at h
 |b::l,j,h=>by
   rw[List.takeWhile_cons] at h;split at h
   . rename_i hb;cases j with
     |zero=>exact⟨by simp,hb⟩
     |succ j=>
       have:=Na q l j (by simpa using h);exact⟨by simp;omega,this.2⟩
   . simp at h
theorem N9(q:UInt8->Bool):∀(l:g8),(l.takeWhile q).length<l.length->q (l.getD (l.takeWhile q).length 0) =false
 |[],h=>by simp at h
 |b::l,h=>by
   rw[List.takeWhile_cons] at h⊢;split at h
   . rename_i hb;rw[if_pos hb];exact N9 q l (by simpa using h)
   . rename_i hb;rw[if_neg hb];simpa using hb
def iN(d:g8):Nat:=(d.reverse.takeWhile (·==48)).length
theorem M9{d:g8} {j:Nat} (h:j<d.length):d.reverse.getD j 0=d.getD (d.length-1-j) 0:=by
 rw[ac,ac,List.getElem?_reverse h]
theorem Gw{d:g8} {j:Nat} (h:j<iN d):j<d.length/\(d.getD (d.length-1-j) 0).toNat=48:=by
 obtain⟨h1,h2⟩:=Na _ _ _ h;rw[List.length_reverse] at h1;rw[M9 h1,beq_iff_eq] at h2;exact⟨h1,by rw[h2];rfl⟩
theorem NN{d:g8} (h:iN d<d.length):(d.getD (d.length-1-iN d) 0).toNat≠48:=by
 have:=N9 (·==48) d.reverse (by rw[List.length_reverse];exact h);rw[show(d.reverse.takeWhile (·==48)).length=iN d from rfl,M9 h,beq_eq_false_iff_ne] at this;exact fun e=>this (UInt8.toNat_inj.1 e)
theorem NO(d:g8):iN d<=d.length:=by
 have:=(List.takeWhile_sublist (p:=fun b:UInt8=>b==48) (l:=d.reverse)).length_le;rw[List.length_reverse] at this;exact this
theorem YC{s:g8} (h:gK s≠[]):((gK s).getD 0 0).toNat≠48:=by
 induction s with
 |nil=>exact absurd rfl h
 |cons b s ih=>
   unfold gK at h⊢;rw[List.dropWhile_cons] at h⊢;split
   . rename_i q;rw[if_pos q] at h;exact ih h
   . rename_i q;rw[beq_iff_eq] at q;exact fun e=>q (UInt8.toNat_inj.1 e)
theorem YB{s:g8} (h:bf s):bf (gK s):=fun b hb=>h b ((List.dropWhile_sublist _).subset hb)
theorem YD(s:g8):(gK s).length<=s.length:=(List.dropWhile_sublist _).length_le
def oL(m:Bool) (l:g8):g8:=if m=true then 45::l else l
def jx(d:g8) (q:Int) (m:Bool):Int×Int:=
 if q < -(iN d:Int) then (0,7) else if (d.length:Int) + q >20 then (0,4)
 else dx (oL m (d.take ((d.length:Int)+min q 0).toNat++List.replicate q.toNat 48))
instance (s:g8):Decidable (oF s):=by unfold oF;infer_instance
def fj(s:g8):Int×Int:=
 if oF s then(if gK ((bm s 0).w++(bm s 0).b) =[] then(0,0) else jx (gK ((bm s 0).w++(bm s 0).b)) (db (bm s 0).p-(bm s 0).b.length) (cC s 0 45 45)) else(0,3)
theorem OZ(s:g8):(Cu.new s).iY.1.fin=0↔oF s:=by
 have hk:(Cu.new s).ok:=⟨ci _,co _⟩
 have h:=LI hk rfl;have e:(Cu.new s).ar=s:=List.take_length;rw[e] at h;have g:=wj s 0 (ci _);unfold oF;by_cases z:(cM s 0).2=0
 . obtain⟨h1,h2,h3,h4,h5,h6,h7⟩:=h.ok z;have h2:(Cu.new s).iY.1.e=s.length:=h2;have h4:(Cu.new s).iY.1.p=(cM s 0).1:=h4;unfold Cu.fin;rw[if_neg (by omega),h2,h4];split<;>constructor<;>intro k<;>first|(exact absurd k (by decide))|omega
 . have hb:=h.bad z;unfold Cu.fin;rw[if_pos (by rw[hb];exact z)];exact⟨fun k=>absurd (hb.symm.trans k) z,fun k=>absurd k.2 z⟩
theorem Ww{c:Cu} (h:c.ok):c.iY.1.ok:=by
 unfold Cu.iY CO.whole CO.behind CO.pT;repeat' split
 all_goals
  refine Gd.ak (c:=c) ?_;repeat'(first|exact Gd.self h|refine Gd.fB ?_|refine Gd.bf ?_)
theorem Wv(s:g8):(Cu.new s).ok:=⟨ci _,co _⟩
theorem LS(p:g8):-1099511627776<=db p/\db p<=1099511627776:=by
 have:=sw (p.filter ba);unfold db hP;repeat' split
 all_goals omega
theorem wk{s:g8} (h:oF s):(bm s 0).w.length+(bm s 0).b.length<=s.length:=by
 obtain⟨e,hp⟩:=D3 h.1 h.2;have h1:=congrArg List.length hp.eq;rw[an,an,an] at h1;generalize (bm s 0).b=b at*;by_cases q:b=[]
 . rw[q] at h1⊢;simp at h1⊢;omega
 . rw[if_neg q,List.length_cons] at h1;omega
theorem NQ{d:g8} (h0:d≠[]) (h:(d.getD 0 0).toNat≠48):iN d<d.length:=by
 rcases eg (iN d) d.length with q|q
 . exact q
 . have hl:0<d.length:=by cases d;exact absurd rfl h0;simp
   have:=(Gw (d:=d) (j:=d.length-1) (by omega)).2;rw[show d.length-1-(d.length-1) =0 by omega] at this;exact absurd this h
structure lP(d:g8) (q:Int) (j:Nat):Prop where
 z:j<=iN d
 q:j=0\/q+j<=0
theorem lP.last{d:g8} {q:Int} {j:Nat} (hz:iN d<d.length) (h:lP d q j):(d.take (d.length-j)).getD (d.length-j-1) 0=d.getD (d.length-1-j) 0:=by
 have:=h.z;rw[ac,List.getElem?_take_of_lt (by omega),<-ac,show d.length-j-1=d.length-1-j by omega]
theorem lP.next{d:g8} {q:Int} {j:Nat} (hz:iN d<d.length) (h:lP d q j) (hq:q+j<0) (hl:((d.take (d.length-j)).getD (d.length-j-1) 0).toNat=48):lP d q (j+1):=by
 refine⟨?_,.inr (by omega)⟩;rcases Nat.lt_or_eq_of_le h.z with k|k
 . exact k
 . rw[h.last hz,k] at hl;exact absurd hl (NN hz)
theorem lP.kind{d:g8} {q:Int} {m:Bool} {j:Nat} (hz:iN d<d.length) (h:lP d q j) (hq:q+j<0) (hl:((d.take (d.length-j)).getD (d.length-j-1) 0).toNat≠48):jx d q m=(0,7):=by
 have k:j=iN d:=by
  rcases Nat.lt_or_eq_of_le h.z with k|k
  . rw[h.last hz] at hl;exact absurd (Gw k).2 hl
  . exact k
 unfold jx;rw[if_pos (by omega)]
theorem lP.big{d:g8} {q:Int} {m:Bool} {j:Nat} (h:lP d q j) (hq:¬q+j<0) (hl:(d.length:Int)+q>20):jx d q m=(0,4):=by
 have:=h.z;have:=h.q;unfold jx;rw[if_neg (by omega),if_pos hl]
theorem lP.read{d:g8} {q:Int} {m:Bool} {j:Nat} (h:lP d q j) (hq:¬q+j<0) (hl:¬(d.length:Int)+q>20):jx d q m=dx (oL m (d.take (d.length-j)++List.replicate (q+j).toNat 48)):=by
 have h1:=h.z;have h2:=h.q;unfold jx;rw[if_neg (by omega),if_neg hl];rcases eg 0 j with k|k
 . rw[show q+j=0 by omega,show((d.length:Int)+min q 0).toNat=d.length-j by omega,show q.toNat=0 by omega];rfl
 . have:j=0:=by omega
   subst this;rw[show((d.length:Int)+min q 0).toNat=d.length-0 by omega,show q+((0:Nat):Int) =q by omega]
def Ey:Sm:=fun args σ=>match args,σ with
 |[.str s],[]=>some (s.length<=10000000,.tuple [.int .i64 (fj s).1,.int .i64 (fj s).2],none)
 |_,_=>none
theorem T6:aq 162 Ey:=by
 intro args sg pre x r he hp;unfold Ey at he;split at he<;>cases he
 . rename_i s;refine ai (C:=qu [(36,zG),(178,zS),(190,E3),(191,Eu),(192,Ew),(193,E7)] [(3,[.cell 1 1 1])]) (ak ⟨JK,JW,SH,T4,T5,SL,trivial⟩) (fn:=Tryz.f162) fun hw hs=>?_;have hok:=Wv s;have hen:=OZ s;repeat'((conv=>whnf);first|apply af|apply aI|((first|apply aj|apply dr)<;>intro h))
   all_goals try conv=>whnf
   all_goals try(refine ae.mk ?_;try dsimp only)
   all_goals (try simp only[aT,dX,dY] at*)
   all_goals try refine stay ?_
   . exact⟨trivial,hok,by decide,by show s.length<=_;omega⟩
   . exact⟨trivial,Ww hok⟩
   . exact⟨hen.1 ‹_›,by omega⟩
   . have:=wk (hen.1 ‹_›);omega
   . have:=wk (hen.1 ‹_›);rw[an];omega
   . rw[show fj s=(0,0) by unfold fj;rw[if_pos (hen.1 ‹_›),if_pos ‹_›]];refine ab.mk [] ?_<;>(repeat' first|trivial)
   . have hn:=hen.1 ‹_›;have hwi:fj s=jx (gK ((bm s 0).w++(bm s 0).b)) (db (bm s 0).p-(bm s 0).b.length) (cC s 0 45 45):=by unfold fj;rw[if_pos hn,if_neg ‹_›]
     rw[hwi];have hl:=wk hn;have hp0:=LS (bm s 0).p;have ht:=YD ((bm s 0).w++(bm s 0).b);rw[an] at ht;have hz:=NQ ‹_› (YC ‹_›);have hq0:IntKind.i64.wrap (db (bm s 0).p-(bm s 0).b.length) =db (bm s 0).p-(bm s 0).b.length:=by rw[bz];omega
     rw[hq0];have hq1:-1199511627776<=db (bm s 0).p-(bm s 0).b.length/\db (bm s 0).p-(bm s 0).b.length<=1099511627776:=by omega
     generalize gK ((bm s 0).w++(bm s 0).b) =d at*;generalize db (bm s 0).p-(bm s 0).b.length=q at*;generalize cC s 0 45 45=m at*;generalize (bm s 0).w=w at*;generalize (bm s 0).b=b at*;refine aM.mk Nat (lP d q) (fun j=>⟨82,[(6,.ptr 3 0),(7,.str (d.take (d.length-j)))],[.dead,.dead,.dead,.cells [.bool m,.str w,.str b,.int .i64 (q+j)]],[2]⟩) (fun j=>d.length-j) [] 0 ⟨ci _,.inl rfl⟩ ?_ (fun j hI _ _=>?_)
     . apply ao<;>(repeat' first|trivial|apply ah|apply cV|apply aC|apply iR|apply bV)
       . exact List.take_length.symm
       . exact(Int.add_zero q).symm
     have hz1:=hI.z;have hq2:=hI.q;have hdl:(d.take (d.length-j)).length=d.length-j:=by rw[eo];omega
     have hw1:IntKind.i64.wrap (((d.take (d.length-j)).length:Int)-1) =((d.length-j-1:Nat):Int):=by rw[bz,hdl];omega
     have hw2:IntKind.i64.wrap (q+j+1) =q+j+1:=by rw[bz];omega
     have hw3:¬q+j<0->(IntKind.i64.wrap (((d.take (d.length-j)).length:Int)+if 1099511627776<q+j then 1099511627776 else q+j)>20↔(d.length:Int)+q>20):=fun h=>by
      rw[bz,hdl];split<;>constructor<;>intro k<;>omega
     repeat'((conv=>whnf);first|apply af|(apply aj<;>intro h)|with_reducible refine fH ?_ fun hc=>?_)
     all_goals try conv=>whnf
     all_goals try(refine ae.mk ?_;try dsimp only)
     all_goals (try simp only[hw1,hw2,Int.toNat_natCast] at*)
     all_goals first|refine stay ?_|omega|skip
     all_goals (try(exfalso;omega))
     . refine⟨[],j+1,hI.next hz ‹_› (by omega),?_,by omega⟩;apply ao<;>(repeat' first|trivial|apply ah|apply cV|apply aC|apply iR|apply bV)
       all_goals first
        |(rw[List.take_take,show min (d.length-j-1) (d.length-j) =d.length-(j+1) by omega])
        |omega
     . rw[hI.kind hz ‹_› (by omega)];refine ab.mk [] ?_<;>(repeat' first|trivial)
     . rw[hI.big (by omega) ((hw3 (by omega)).1 ‹_›)];refine ab.mk [] ?_<;>(repeat' first|trivial)
     . have hb:=fun k=>‹¬IntKind.i64.wrap _>20› ((hw3 (by omega)).2 k)
       rw[hI.read (by omega) hb];generalize d.take (d.length-j) =D at*;refine aM.mk Nat (fun k=>k<=(q+j).toNat) (fun k=>⟨82,[(6,.ptr 3 0),(7,.str (D++List.replicate k 48))],[.dead,.dead,.dead,.cells [.bool m,.str w,.str b,.int .i64 (q+j-k)]],[2]⟩) (fun k=>(q+j).toNat-k) [] 0 (ci _) ?_ (fun k hk _ _=>?_)
       . apply ao<;>(repeat' first|trivial|apply ah|apply cV|apply aC|apply iR|apply bV)
         . exact(List.append_nil D).symm
         . exact(Int.sub_zero _).symm
       have hrl:(D++List.replicate k (48:UInt8)).length=D.length+k:=by rw[an,List.length_replicate]
       repeat'((conv=>whnf);first|apply af|((first|apply aj|apply e9)<;>intro h))
       all_goals try conv=>whnf
       all_goals try(refine ae.mk ?_;try dsimp only)
       all_goals (try simp only[aT,dX,dY] at*)
       all_goals first|refine stay ?_|omega|(simp(discharger:=omega) [-List.getD_eq_getElem?_getD,wR]<;>omega)|skip
       . refine⟨[],k+1,by omega,?_,by omega⟩;apply ao<;>(repeat' first|trivial|apply ah|apply cV|apply aC|apply iR|apply bV)
         all_goals first
          |(rw[gc,<-List.replicate_succ'])
          |(simp(discharger:=omega) only[wR];omega)
       . have em:=‹m=true›
         rw[<-show k=(q+j).toNat by omega,show∀l,oL m l=45::l from fun l=>by unfold oL;rw[if_pos em]];refine ab.mk [] ?_<;>(repeat' first|trivial)
       . have em:=‹m=false›
         rw[<-show k=(q+j).toNat by omega,show∀l,oL m l=l from fun l=>by unfold oL;rw[if_neg (by rw[em];decide)]];refine ab.mk [] ?_<;>(repeat' first|trivial)
   . rw[show fj s=(0,3) by unfold fj;rw[if_neg (fun k=>absurd (hen.2 k) ‹_›)]];refine ab.mk [] ?_<;>(repeat' first|trivial)
theorem Hz{p:g8} {i:Nat} (hi:i<p.length) (h:48<=(p.getD i 0).toNat/\(p.getD i 0).toNat<=57):cG ((p.take (i+1)).filter ba) =min 1099511627776 (10*cG ((p.take i).filter ba)+((p.getD i 0).toNat-48)):=by
 rw[oO hi,List.filter_append,List.filter_cons_of_pos (by unfold ba;rw[decide_eq_true_eq];exact h)];exact Bk _ _
theorem xK{p:g8} {i:Nat} (hi:i<p.length) (h:¬(48<=(p.getD i 0).toNat/\(p.getD i 0).toNat<=57)):cG ((p.take (i+1)).filter ba) =cG ((p.take i).filter ba):=by
 rw[oO hi,List.filter_append,List.filter_cons_of_neg (by unfold ba;rw[decide_eq_true_eq];exact h)];simp
def Fh:Sm:=fun args σ=>match args,σ with
 |[.str p],[]=>some (p.length<=100000000,.int .i64 (db p),none)
 |_,_=>none
theorem TS:aq 168 Fh:=by
 intro args sg pre x r he hp;unfold Fh at he;split at he<;>cases he
 . rename_i p;refine ai (C:=cx []) (ak trivial) (fn:=Tryz.f168) fun hw hs=>?_;have hne:p≠[]->0<p.length:=fun h=>by cases p;exact absurd rfl h;simp
   repeat'((conv=>whnf);first|apply af|((first|apply aj|apply dr)<;>intro h)|with_reducible refine fH ?_ fun hc=>?_)
   all_goals try conv=>whnf
   all_goals try(refine ae.mk ?_;try dsimp only)
   all_goals (try simp only[aT,dX,dY] at*)
   all_goals first|refine stay ?_|trivial|skip
   . have e:=‹p=_›
     subst e;refine ab.mk [] ?_<;>(repeat' first|trivial)
   . exact hne ‹_›
   . refine aM.mk Nat (fun i=>i<=p.length) (fun i=>⟨39,[(0,.str p),(3,.int .i64 (-1)),(4,.int .i64 (cG ((p.take i).filter ba))),(5,.int .i64 i)],[],[]⟩) (fun i=>p.length-i) [] 0 (ci _) ?_ (fun i hle _ _=>?_)
     . apply ao<;>(repeat' first|trivial)
     have hcl:=sw ((p.take i).filter ba);have hb:(p.getD i 0).toNat<256:=UInt8.toNat_lt _;have e1:IntKind.i64.wrap (10*(cG ((p.take i).filter ba):Int)) =10*(cG ((p.take i).filter ba):Int):=wI (by omega) (by omega);have e2:IntKind.i64.wrap ((p.getD i 0).toNat:Int) =((p.getD i 0).toNat:Int):=wI (by omega) (by omega);have e3:IntKind.i64.wrap (10*(cG ((p.take i).filter ba):Int)+((p.getD i 0).toNat:Int)) =10*(cG ((p.take i).filter ba):Int)+((p.getD i 0).toNat:Int):=wI (by omega) (by omega);have e4:IntKind.i64.wrap (10*(cG ((p.take i).filter ba):Int)+((p.getD i 0).toNat:Int)-48) =10*(cG ((p.take i).filter ba):Int)+((p.getD i 0).toNat:Int)-48:=by rw[bz];omega
     repeat'((conv=>whnf);first|apply af|(apply aj<;>intro h)|with_reducible refine cg ?_ fun hc=>?_)
     all_goals try conv=>whnf
     all_goals try(refine ae.mk ?_;try dsimp only)
     all_goals (try simp only[e1,e2,e3,e4] at*)
     all_goals first|refine stay ?_|omega|skip
     . refine⟨[],i+1,by omega,?_,by omega⟩;apply ao<;>(repeat' first|trivial|apply ah|apply aC)
       all_goals first
        |(rw[Hz (by omega) (by omega)];split<;>omega)
        |(simp(discharger:=omega) only[wR];omega)
     . refine⟨[],i+1,by omega,?_,by omega⟩;apply ao<;>(repeat' first|trivial|apply ah|apply aC)
       all_goals first
        |(rw[xK (by omega) (by omega)])
        |(simp(discharger:=omega) only[wR];omega)
     . refine⟨[],i+1,by omega,?_,by omega⟩;apply ao<;>(repeat' first|trivial|apply ah|apply aC)
       all_goals first
        |(rw[xK (by omega) (by omega)])
        |(simp(discharger:=omega) only[wR];omega)
     . rw[show db p=(-1)*(cG (p.filter ba):Int) by unfold db hP;rw[if_neg ‹p≠[]›];(first|rw[if_pos (by omega)]|rw[if_neg (by omega)]);omega];rw[gg (by omega)] at hcl⊢;refine ab.mk [] ?_<;>(repeat' first|trivial|apply ah|apply aC)
       all_goals (rw[bz];omega)
   . refine aM.mk Nat (fun i=>i<=p.length) (fun i=>⟨39,[(0,.str p),(3,.int .i64 1),(4,.int .i64 (cG ((p.take i).filter ba))),(5,.int .i64 i)],[],[]⟩) (fun i=>p.length-i) [] 0 (ci _) ?_ (fun i hle _ _=>?_)
     . apply ao<;>(repeat' first|trivial)
     have hcl:=sw ((p.take i).filter ba);have hb:(p.getD i 0).toNat<256:=UInt8.toNat_lt _;have e1:IntKind.i64.wrap (10*(cG ((p.take i).filter ba):Int)) =10*(cG ((p.take i).filter ba):Int):=wI (by omega) (by omega);have e2:IntKind.i64.wrap ((p.getD i 0).toNat:Int) =((p.getD i 0).toNat:Int):=wI (by omega) (by omega);have e3:IntKind.i64.wrap (10*(cG ((p.take i).filter ba):Int)+((p.getD i 0).toNat:Int)) =10*(cG ((p.take i).filter ba):Int)+((p.getD i 0).toNat:Int):=wI (by omega) (by omega);have e4:IntKind.i64.wrap (10*(cG ((p.take i).filter ba):Int)+((p.getD i 0).toNat:Int)-48) =10*(cG ((p.take i).filter ba):Int)+((p.getD i 0).toNat:Int)-48:=by rw[bz];omega
     repeat'((conv=>whnf);first|apply af|(apply aj<;>intro h)|with_reducible refine cg ?_ fun hc=>?_)
     all_goals try conv=>whnf
     all_goals try(refine ae.mk ?_;try dsimp only)
     all_goals (try simp only[e1,e2,e3,e4] at*)
     all_goals first|refine stay ?_|omega|skip
     . refine⟨[],i+1,by omega,?_,by omega⟩;apply ao<;>(repeat' first|trivial|apply ah|apply aC)
       all_goals first
        |(rw[Hz (by omega) (by omega)];split<;>omega)
        |(simp(discharger:=omega) only[wR];omega)
     . refine⟨[],i+1,by omega,?_,by omega⟩;apply ao<;>(repeat' first|trivial|apply ah|apply aC)
       all_goals first
        |(rw[xK (by omega) (by omega)])
        |(simp(discharger:=omega) only[wR];omega)
     . refine⟨[],i+1,by omega,?_,by omega⟩;apply ao<;>(repeat' first|trivial|apply ah|apply aC)
       all_goals first
        |(rw[xK (by omega) (by omega)])
        |(simp(discharger:=omega) only[wR];omega)
     . rw[show db p=1*(cG (p.filter ba):Int) by unfold db hP;rw[if_neg ‹p≠[]›];(first|rw[if_pos (by omega)]|rw[if_neg (by omega)]);omega];rw[gg (by omega)] at hcl⊢;refine ab.mk [] ?_<;>(repeat' first|trivial|apply ah|apply aC)
       all_goals (rw[bz];omega)
def Fj:Sm:=fun args σ=>match args,σ with
 |[.str d],[]=>some (d.length<=100000000,.int .i64 (iN d),none)
 |_,_=>none
theorem TV:aq 169 Fj:=by
 intro args sg pre x r he hp;unfold Fj at he;split at he<;>cases he
 . rename_i d;refine ai (C:=cx []) (ak trivial) (fn:=Tryz.f169) fun hw hs=>?_;all_goals try conv=>whnf
   all_goals try(refine ae.mk ?_;try dsimp only)
   refine aM.mk Nat (fun i=>i<=iN d) (fun i=>⟨21,[(0,.str d),(3,.int .i64 i)],[],[]⟩) (fun i=>d.length-i) [] 0 (ci _) ?_ (fun i hi _ _=>?_)
   . apply ao<;>(repeat' first|trivial)
   have hz:=NO d;have hw1:IntKind.i64.wrap ((d.length:Int)-1) =(d.length:Int)-1:=by rw[bz];omega
   have hw2:IntKind.i64.wrap ((d.length:Int)-1-i) =(d.length:Int)-1-i:=by rw[bz];omega
   have hx:((d.length:Int)-1-i).toNat=d.length-1-i:=by omega
   repeat'((conv=>whnf);first|apply af|(apply aj<;>intro h)|with_reducible refine fH ?_ fun hc=>?_)
   all_goals try conv=>whnf
   all_goals try(refine ae.mk ?_;try dsimp only)
   all_goals (try simp only[hw1,hw2,hx] at*)
   all_goals first|refine stay ?_|omega|skip
   . refine⟨[],i+1,?_,?_,by omega⟩
     . rcases Nat.lt_or_eq_of_le hi with k|k
       . exact k
       . have:=NN (d:=d) (by omega);rw[<-k] at this;omega
     apply ao<;>(repeat' first|trivial|apply ah|apply aC)
     all_goals (simp(discharger:=omega) only[wR];omega)
   . rw[show iN d=i by
       rcases Nat.lt_or_eq_of_le hi with k|k
       . have:=(Gw k).2;omega
       . exact k.symm]
     refine ab.mk [] ?_<;>(repeat' first|trivial)
   . rw[show iN d=i by omega];refine ab.mk [] ?_<;>(repeat' first|trivial)
theorem RU{d:g8} {k:Nat} (h0:d≠[]) (hd:bf d) (h1:(d.getD 0 0).toNat≠48):dM (d++List.replicate k 48) =true:=by
 have hl:0<d.length:=by cases d;exact absurd rfl h0;simp
 refine BY (by simp[h0]) (fun q=>?_) fun b hb=>?_
 . rw[vF hl] at q;exact absurd q h1
 . rcases List.mem_append.1 hb with hb|hb
   . exact hd b hb
   . rw[(List.mem_replicate.1 hb).2];decide
theorem X0{E:g8} {m:Bool} (hf:dM E=true) (hl:20<E.length):dx (oL m E) =(0,4):=by
 have hv:=BW (n:=19) hf (by omega);have hd:=qR hf;have h0:=lS hd (i:=0) (by omega);have p:(10:Nat)^(19+1) =100000000000000000000:=by decide
 rw[p] at hv;cases m with
 |true=>
   unfold dx oL eE;rw[if_pos rfl,if_neg (by simp),if_pos ⟨hf,fun e=>by rw[show List.drop 1 (45::E) =E from rfl] at e;rw[e] at hl;simp at hl⟩,if_neg (by show¬c6 E<=_;omega)];rfl
 |false=>
   show dx E=(0,4);unfold dx eE;rw[if_pos (.inr (by omega)),if_pos hf,if_neg (by omega)]
theorem Nt {d:g8} {q:Int} {m:Bool} (h0:d ≠ []) (hd:bf d) (h1:(d.getD 0 0).toNat ≠ 48) (hq:¬ q < -(iN d:Int)):jx d q m=dx (oL m (d.take ((d.length:Int) + min q 0).toNat ++ List.replicate q.toNat 48)):=by
 have hz:=NQ h0 h1;unfold jx;rw[if_neg hq];split
 . rename_i hl;have hp:0<((d.length:Int)+min q 0).toNat:=by omega
   refine(X0 (RU ?_ ?_ ?_) ?_).symm
   . intro e;have:=congrArg List.length e;rw[eo,List.length_nil] at this;omega
   . exact fun b hb=>hd b (List.mem_of_mem_take hb)
   . rw[ac,List.getElem?_take_of_lt hp,<-ac];exact h1
   . rw[an,eo,List.length_replicate];omega
 . rfl
theorem p_len(s:g8):(bm s 0).p.length<=s.length:=by
 unfold bm;dsimp only;split
 . unfold sub;rw[fo,eo];omega
 . exact ci _
theorem Nk{s:g8} (h:oF s):bf ((bm s 0).w++(bm s 0).b)/\0<s.length:=by
 obtain⟨e,hp⟩:=D3 h.1 h.2;refine⟨fun b hb=>(List.mem_append.1 hb).elim (hp.wd b) (hp.bd b),?_⟩;have h1:=congrArg List.length hp.eq;have h2:0<(bm s 0).w.length:=by have:=hp.w0;revert this;cases(bm s 0).w<;>simp
 rw[an,an] at h1;omega
def Fg:Sm:=fun args σ=>match args,σ with
 |[.str s],[]=>some (s.length<=10000000,.tuple [.int .i64 (fj s).1,.int .i64 (fj s).2],none)
 |_,_=>none
theorem TR:aq 126 Fg:=by
 intro args sg pre x r he hp;unfold Fg at he;split at he<;>cases he
 . rename_i s;refine ai (C:=cx [(156,Ff),(168,Fh),(169,Fj),(170,F0)]) (ak ⟨TQ,TS,TV,TA,trivial⟩) (fn:=Tryz.f126) fun hw hs=>?_;repeat'((conv=>whnf);first|apply af|apply aI|(apply aj<;>intro h))
   all_goals try conv=>whnf
   all_goals try(refine ae.mk ?_;try dsimp only)
   all_goals (try simp only[aT,dX,dY] at*)
   all_goals first|refine stay ?_|omega|skip
   . have:=wk (s:=s) ⟨by have:=‹((bm s 0).e:Int) =s.length›;exact Int.ofNat.inj this,‹_›⟩;omega
   . have hn:oF s:=⟨by have:=‹((bm s 0).e:Int) =s.length›;exact Int.ofNat.inj this,‹_›⟩
     have hl:=wk hn;generalize hv:(bm s 0).w++(bm s 0).b=v;have hvl:v.length<=10000000:=by rw[<-hv,an];omega
     refine aM.mk g8 (fun x=>gK v=gK x/\x.length<=v.length) (fun x=>⟨77,[(0,.str s),(4,.ptr 0 0),(5,.str x)],[.cells (eNP (bm s 0))],[]⟩) (fun x=>x.length) [] v ⟨rfl,co _⟩ ?_ (fun x ⟨hx,hl⟩ _ _=>?_)
     . apply ao<;>(repeat' first|trivial)
     have hne:x≠[]->0<x.length:=fun h=>by cases x;exact absurd rfl h;simp
     have hdl:(x.drop 1).length=x.length-1:=fo;have hzl:=NO x;have hp0:=LS (bm s 0).p;have hq1:-1199511627776<=db (bm s 0).p-(bm s 0).b.length/\db (bm s 0).p-(bm s 0).b.length<=1099511627776:=by omega
     have hq0:IntKind.i64.wrap (db (bm s 0).p-(bm s 0).b.length) =db (bm s 0).p-(bm s 0).b.length:=by rw[bz];omega
     have hq2:IntKind.i64.wrap ((x.length:Int)+(db (bm s 0).p-(bm s 0).b.length)) =(x.length:Int)+(db (bm s 0).p-(bm s 0).b.length):=by rw[bz];omega
     have hq3:IntKind.i64.wrap (0-(iN x:Int)) =-(iN x:Int):=by rw[bz];omega
     have hR:gK v≠[]->fj s=jx (gK v) (db (bm s 0).p-(bm s 0).b.length) (cC s 0 45 45):=fun h=>by unfold fj;rw[if_pos hn,hv,if_neg h]
     repeat'((conv=>whnf);first|apply af|apply aI|((first|apply aj|apply dr)<;>intro h)|with_reducible refine fH ?_ fun hc=>?_)
     all_goals try conv=>whnf
     all_goals try(refine ae.mk ?_;try dsimp only)
     all_goals (try simp only[hq0,hq2,hq3] at*)
     all_goals generalize db (bm s 0).p-(bm s 0).b.length=q at*
     all_goals (try simp only[aT,dX,dY] at*)
     all_goals first|refine stay ?_|trivial|omega|skip
     all_goals (try(exfalso;exact ‹x≠[]› ‹x=[]›))
     . have e:gK v=[]:=by rw[hx,‹x=[]›];rfl
       rw[show fj s=(0,0) by unfold fj;rw[if_pos hn,hv,if_pos e]];refine ab.mk [] ?_<;>(repeat' first|trivial)
     . exact hne ‹_›
     . have:=hne ‹_›;exact⟨by omega,by omega⟩
     . have:=hne ‹_›;refine⟨[],x.drop 1,⟨by rw[hx,N3 ‹_› (by omega)],by omega⟩,?_,by omega⟩;apply ao<;>(repeat' first|trivial)
     . have:=p_len s;omega
     all_goals
      have e:gK v=x:=by rw[hx,Gb (.inr (by omega))]
      rw[e] at hR;have hR:=hR ‹x≠[]›;have hd:bf x:=by rw[<-e];exact YB (by rw[<-hv];exact(Nk hn).1)
      have hs0:=(Nk hn).2
     . rw[hR,show jx x q (cC s 0 45 45) =(0,7) by unfold jx;rw[if_pos (by omega)]];refine ab.mk [] ?_<;>(repeat' first|trivial)
     . rw[hR,show jx x q (cC s 0 45 45) =(0,4) by unfold jx;rw[if_neg (by omega),if_pos (by omega)]];refine ab.mk [] ?_<;>(repeat' first|trivial)
     . rw[Nt ‹x≠[]› hd (by omega) (by omega),show((x.length:Int)+min q 0) =x.length+q by omega] at hR;have hyl:(x.take ((x.length:Int)+q).toNat).length<=10000000:=by first|omega|(rw[eo];omega)
       generalize hD:x.take ((x.length:Int)+q).toNat=y at*;refine aM.mk Nat (fun i=>i<=q.toNat) (fun i=>⟨77,[(0,.str s),(5,.str (y++List.replicate i 48)),(6,.int .i64 q),(7,.int .i64 i)],[.dead],[]⟩) (fun i=>q.toNat-i) [] 0 (ci _) ?_ (fun i hi _ _=>?_)
       . apply ao<;>(repeat' first|trivial|apply ah|apply cV)
         all_goals exact(List.append_nil y).symm
       have hrl:(y++List.replicate i (48:UInt8)).length=y.length+i:=by rw[an,List.length_replicate]
       repeat'((conv=>whnf);first|apply af|(apply aj<;>intro h)|with_reducible refine fH ?_ fun hc=>?_)
       all_goals try conv=>whnf
       all_goals try(refine ae.mk ?_;try dsimp only)
       all_goals (try simp only[aT,dX,dY] at*)
       all_goals first|refine stay ?_|trivial|omega|(simp(discharger:=omega) [-List.getD_eq_getElem?_getD,wR]<;>omega)|skip
       . refine⟨[],i+1,by omega,?_,by omega⟩;apply ao<;>(repeat' first|trivial|apply ah|apply cV|apply aC)
         all_goals first
          |(rw[gc,<-List.replicate_succ'])
          |omega
       . rw[hR,<-show i=q.toNat by omega,il.2 ⟨hs0,.inl (by omega)⟩];refine ab.mk [] ?_<;>(repeat' first|trivial)
       . rw[hR,<-show i=q.toNat by omega,tR.2 (fun k=>by rcases k.2 with k|k<;>omega)];refine ab.mk [] ?_<;>(repeat' first|trivial)
     . rw[Nt ‹x≠[]› hd (by omega) (by omega),show((x.length:Int)+min q 0) =x.length by omega,Int.toNat_natCast,List.take_length] at hR;have hyl:(x).length<=10000000:=by first|omega|(rw[eo];omega)
       generalize hD:x=y at*;refine aM.mk Nat (fun i=>i<=q.toNat) (fun i=>⟨77,[(0,.str s),(5,.str (y++List.replicate i 48)),(6,.int .i64 q),(7,.int .i64 i)],[.dead],[]⟩) (fun i=>q.toNat-i) [] 0 (ci _) ?_ (fun i hi _ _=>?_)
       . apply ao<;>(repeat' first|trivial|apply ah|apply cV)
         all_goals exact(List.append_nil y).symm
       have hrl:(y++List.replicate i (48:UInt8)).length=y.length+i:=by rw[an,List.length_replicate]
       repeat'((conv=>whnf);first|apply af|(apply aj<;>intro h)|with_reducible refine fH ?_ fun hc=>?_)
       all_goals try conv=>whnf
       all_goals try(refine ae.mk ?_;try dsimp only)
       all_goals (try simp only[aT,dX,dY] at*)
       all_goals first|refine stay ?_|trivial|omega|(simp(discharger:=omega) [-List.getD_eq_getElem?_getD,wR]<;>omega)|skip
       . refine⟨[],i+1,by omega,?_,by omega⟩;apply ao<;>(repeat' first|trivial|apply ah|apply cV|apply aC)
         all_goals first
          |(rw[gc,<-List.replicate_succ'])
          |(simp(discharger:=omega) only[wR];omega)
       . rw[hR,<-show i=q.toNat by omega,il.2 ⟨hs0,.inl (by omega)⟩];refine ab.mk [] ?_<;>(repeat' first|trivial)
       . rw[hR,<-show i=q.toNat by omega,tR.2 (fun k=>by rcases k.2 with k|k<;>omega)];refine ab.mk [] ?_<;>(repeat' first|trivial)
   . rw[show fj s=(0,3) by unfold fj;rw[if_neg (fun k=>by have e:(bm s 0).e=s.length:=k.1;omega)]];refine ab.mk [] ?_<;>(repeat' first|trivial)
   . rw[show fj s=(0,3) by unfold fj;rw[if_neg (fun k=>by have e:(bm s 0).c=0:=k.2;omega)]];refine ab.mk [] ?_<;>(repeat' first|trivial)
mutual
def same:bc->bc->Bool
 |.mk k t n b l m,w=>decide (k=w.kind)&&decide (t=w.text)&&decide (n=w.num)&&decide (b=w.bits)&&jN l w.list&&eA m w.map
def jN:List bc->List bc->Bool
 |[],[]=>true
 |v::r,w::s=>same v w&&jN r s
 |_,_=>false
def ud:az->az->Bool
 |.mk k v,b=>decide (k=b.key)&&same v b.value
def eA:List az->List az->Bool
 |[],[]=>true
 |v::r,w::s=>ud v w&&eA r s
 |_,_=>false
end
mutual
theorem Mh:∀v w:bc,same v w=true↔v=w
 |.mk k t n b l m,.mk k' t' n' b' l' m'=>by
   simp only[same];simp only[bc.kind,bc.text,bc.num,bc.bits,bc.list,bc.map];simp only[aA,decide_eq_true_eq,DG l l',mV m m',bc.mk.injEq];constructor
   . rintro⟨⟨⟨⟨⟨a,b⟩,c⟩,d⟩,e⟩,f⟩;exact⟨of_decide_eq_true a,of_decide_eq_true b,of_decide_eq_true c,of_decide_eq_true d,e,f⟩
   . rintro⟨a,b,c,d,e,f⟩;exact⟨⟨⟨⟨⟨decide_eq_true a,decide_eq_true b⟩,decide_eq_true c⟩,decide_eq_true d⟩,e⟩,f⟩
theorem DG:∀v w:List bc,jN v w=true↔v=w
 |[],[]=>by simp[jN]
 |v::r,w::s=>by simp only[jN,aA,Mh v w,DG r s,List.cons.injEq]
 |[],_::_=>by simp[jN]
 |_::_,[]=>by simp[jN]
theorem XR:∀v w:az,ud v w=true↔v=w
 |.mk k v,.mk k' v'=>by
   simp only[ud];simp only[az.key,az.value];simp only[aA,Mh v v',az.mk.injEq];exact⟨fun⟨a,b⟩=>⟨of_decide_eq_true a,b⟩,fun⟨a,b⟩=>⟨decide_eq_true a,b⟩⟩
theorem mV:∀v w:List az,eA v w=true↔v=w
 |[],[]=>by simp[eA]
 |v::r,w::s=>by simp only[eA,aA,XR v w,mV r s,List.cons.injEq]
 |[],_::_=>by simp[eA]
 |_::_,[]=>by simp[eA]
end
theorem Mf{l m:List bc} {i:Nat} (hi:i<l.length) (hm:l.length=m.length):jN (l.drop i) (m.drop i) =(same (l.getD i default) (m.getD i default)&&jN (l.drop (i+1)) (m.drop (i+1))):=by
 rw[List.drop_eq_getElem_cons hi,List.drop_eq_getElem_cons (by omega:i<m.length),jN,ac,ac,am hi,am (by omega:i<m.length)];rfl
theorem DH{l m:List az} {i:Nat} (hi:i<l.length) (hm:l.length=m.length):eA (l.drop i) (m.drop i) =(ud (l.getD i default) (m.getD i default)&&eA (l.drop (i+1)) (m.drop (i+1))):=by
 rw[List.drop_eq_getElem_cons hi,List.drop_eq_getElem_cons (by omega:i<m.length),eA,ac,ac,am hi,am (by omega:i<m.length)];rfl
theorem DF(a b:az):ud a b=(decide (a.key=b.key)&&same a.value b.value):=by cases a;simp only[ud];rfl
theorem XS{l m:List bc} (h:l.length≠m.length):jN l m=false:=by
 cases hs:jN l m with
 |false=>rfl
 |true=>rw[DG] at hs;subst hs;exact absurd rfl h
theorem XT{l m:List az} (h:l.length≠m.length):eA l m=false:=by
 cases hs:eA l m with
 |false=>rfl
 |true=>rw[mV] at hs;subst hs;exact absurd rfl h
theorem XU(v w:bc):same v w=(decide (v.kind=w.kind)&&decide (v.text=w.text)&&decide (v.num=w.num)&&decide (v.bits=w.bits)&&jN v.list w.list&&eA v.map w.map):=by
 cases v;simp only[same];rfl
def rG(k:Nat):Sm:=fun args σ=>match args,σ with
 |[x,y],[]=>some (pM x/\pM y/\(lR x).nodes<k,.bool (same (lR x) (lR y)),none)
 |_,_=>none
def wK(k:Nat):Sm:=fun args σ=>match args,σ with
 |[x,y],[]=>some (mN x/\mN y/\iX (kN x)<k,.bool (eA (kN x) (kN y)),none)
 |_,_=>none
theorem Mx{k:Nat} (h:∀v w,v.nodes<k->OK 82 [ev v,ev w] [] (.bool (same v w)) none):aq 82 (rG k):=by
 intro args sg pre x r he hp;unfold rG at he;split at he<;>cases he;exact(h _ _ hp.2.2).args (aP.cons hp.1 (aP.cons hp.2.1 aP.nil))
theorem Mw{k:Nat} (h:∀v w,iX v<k->OK 35 [.list false 7 (aS v),.list false 7 (aS w)] [] (.bool (eA v w)) none):aq 35 (wK k):=by
 intro args sg pre x r he hp;unfold wK at he;split at he<;>cases he;exact(h _ _ hp.2.2).args (aP.cons hp.1 (aP.cons hp.2.1 aP.nil))
theorem Pk{k:Nat} (h1:aq 82 (rG k)) (h2:aq 35 (wK k)) (v w:bc) (hk:v.nodes<k+1):OK 82 [ev v,ev w] [] (.bool (same v w)) none:=by
 refine ai (C:=cx [(82,rG k),(35,wK k)]) (ak ⟨h1,h2,trivial⟩) (fn:=Tryz.f82) fun hw _=>?_;have hb:=Ns hw.1;have hb2:=Ns hw.2.1;have e1:=vj v.list;have e2:=vj w.list;have hs:=XU v w;repeat'((conv=>whnf);first|apply aI|((first|apply aj|apply dr)<;>intro h))
 all_goals try conv=>whnf
 all_goals try(refine ae.mk ?_;try dsimp only)
 all_goals try refine stay ?_
 . have hl:v.list.length=w.list.length:=by omega
   have hs':same v w=(jN v.list w.list&&eA v.map w.map):=by rw[hs];simp_all
   refine aM.mk Nat (fun i=>i<=v.list.length/\same v w=(jN (v.list.drop i) (w.list.drop i)&&eA v.map w.map)) (fun i=>⟨65,[(2,.ptr 0 0),(3,.ptr 1 0),(5,.int .i64 i)],[.cells (cv v),.cells (cv w)],[]⟩) (fun i=>v.list.length-i) [] 0 ⟨ci _,hs'⟩ ?_ (fun i ⟨hi,he⟩ _ _=>?_)
   . apply ao<;>(repeat' first|trivial)
   clear hs hs';repeat'((conv=>whnf);first|apply af|apply aI|((first|apply aj|apply e9)<;>intro h)|with_reducible refine Jo ?_ ?_)
   all_goals try conv=>whnf
   all_goals try(refine ae.mk ?_;try dsimp only)
   all_goals first|refine stay ?_|omega|skip
   . refine⟨tB _,tB _,?_⟩;have q3:=yZ v;have q4:=Ln (l:=v.list) (i:=i) (by omega);rw[kO];omega
   . rw[kO,kO] at h;rw[Mf (by omega) hl,h,Bool.true_and] at he;refine⟨[],i+1,⟨by omega,he⟩,?_,by omega⟩;apply ao<;>(repeat' first|trivial|apply ah|apply aC)
     (simp(discharger:=omega) only[wR];omega)
   . rw[kO,kO] at h;rw[Mf (by omega) hl,h] at he;refine ab.mk [] ?_<;>(repeat' first|trivial|apply ah|apply jG)
     rw[he];rfl
   . refine⟨mO _,mO _,?_⟩;have q3:=yZ v;rw[sF];omega
   . refine ab.mk [] ?_<;>(repeat' first|trivial|apply ah|apply jG)
     rw[sF,sF,he,List.drop_of_length_le (by omega),List.drop_of_length_le (by omega)];simp[jN]
 . rw[hs,XS (by omega)];refine ab.mk [] ?_<;>(repeat' first|trivial|apply ah|apply jG)
   simp
 all_goals
  rw[hs];refine ab.mk [] ?_<;>(repeat' first|trivial|apply ah|apply jG)
  simp_all
  done
theorem Pl{k:Nat} (h1:aq 82 (rG (k+1))) (v w:List az) (hk:iX v<k+1):OK 35 [.list false 7 (aS v),.list false 7 (aS w)] [] (.bool (eA v w)) none:=by
 refine ai (C:=cx [(82,rG (k+1))]) (ak ⟨h1,trivial⟩) (fn:=Tryz.f35) fun hw _=>?_;have e1:=cY v;have e2:=cY w;have hb:v.length<=9223372036854775807:=by have:=hw.1.1;rw[cY] at this;exact this
 repeat'((conv=>whnf);first|apply aI|(apply aj<;>intro h))
 all_goals try conv=>whnf
 all_goals try(refine ae.mk ?_;try dsimp only)
 all_goals try refine stay ?_
 . have hl:v.length=w.length:=by omega
   refine aM.mk Nat (fun i=>i<=v.length/\eA v w=eA (v.drop i) (w.drop i)) (fun i=>⟨42,[(0,.list false 7 (aS v)),(1,.list false 7 (aS w)),(5,.int .i64 i)],[],[]⟩) (fun i=>v.length-i) [] 0 ⟨ci _,rfl⟩ ?_ (fun i ⟨hi,he⟩ _ _=>?_)
   . apply ao<;>(repeat' first|trivial)
   have q4:i<v.length->(v.getD i default).value.nodes<=iX v:=fun h=>Lo h;repeat'((conv=>whnf);first|apply af|apply aI|((first|apply aj|apply dr|apply e9)<;>intro h)|with_reducible refine mM ?_ ?_)
   all_goals try conv=>whnf
   all_goals try(refine ae.mk ?_;try dsimp only)
   all_goals first|refine stay ?_|omega|skip
   . refine⟨tB _,tB _,?_⟩;have:=q4 (by omega);rw[kO];omega
   . rw[kO,kO] at h;rw[DH (by omega) hl,DF,h,decide_eq_true (by assumption),Bool.true_and,Bool.true_and] at he;refine⟨[],i+1,⟨by omega,he⟩,?_,by omega⟩;apply ao<;>(repeat' first|trivial|apply ah|apply aC)
     (simp(discharger:=omega) only[wR];omega)
   . rw[kO,kO] at h;rw[DH (by omega) hl,DF,h,Bool.and_false,Bool.false_and] at he;rw[he];refine ab.mk [] ?_<;>(repeat' first|trivial)
   . rw[DH (by omega) hl,DF,decide_eq_false (by assumption),Bool.false_and,Bool.false_and] at he;rw[he];refine ab.mk [] ?_<;>(repeat' first|trivial)
   . rw[List.drop_of_length_le (by omega),List.drop_of_length_le (by omega)] at he;rw[he];simp only[eA];refine ab.mk [] ?_<;>(repeat' first|trivial)
 . rw[XT (by omega)];refine ab.mk [] ?_<;>(repeat' first|trivial)
theorem Mg:∀k:Nat,aq 82 (rG k)/\aq 35 (wK k)
 |0=>⟨Mx fun _ _ h=>by omega,Mw fun _ _ h=>by omega⟩
 |k+1=>by
   have ih:=Mg k;have h1:=Mx (k:=k+1) fun v w hk=>Pk ih.1 ih.2 v w hk;exact⟨h1,Mw fun v w hk=>Pl h1 v w hk⟩
def DT:Sm:=fun args σ=>match args,σ with
 |[x,y],[]=>some (mN x/\mN y,.bool (eA (kN x) (kN y)),none)
 |_,_=>none
theorem SC:aq 35 DT:=by
 intro args sg pre x r he hp;unfold DT at he;split at he<;>cases he;rename_i y z;exact(Mg (iX (kN y)+1)).2 [y,z] [] _ _ _ rfl ⟨hp.1,hp.2,Nat.lt_succ_self _⟩
structure Ev where
 time:Int
 name:g8
 attrs:List az
deriving Inhabited
structure Lk where
 (b0 b1 b2 b3 b4 b5 b6 b7 b8 b9 b10 b11 b12 b13 b14 b15 b16 b17 b18 b19 b20 b21 b22 b23:Int)
 state:g8
 attrs:List az
deriving Inhabited
structure Sp where
 (a0 a1 a2 a3 a4 a5 a6 a7 a8 a9 a10 a11 a12 a13 a14 a15 a16 a17 a18 a19 a20 a21 a22 a23 a24 a25 a26 a27 a28 a29 a30 a31:Int)
 (state name:g8)
 (kind start fin:Int)
 attrs:List az
 aG:List Ev
 lks:List Lk
 code:Int
 note:g8
deriving Inhabited
structure Sc where
 (name version:g8)
 spans:List Sp
deriving Inhabited
abbrev eEvc(e:Ev):List V:=[.int .u64 e.time,.str e.name,.list false 7 (aS e.attrs)]
abbrev eEv(e:Ev):V:=.agg (eEvc e)
abbrev eLkc(e:Lk):List V:=[.int .u8 e.b0,.int .u8 e.b1,.int .u8 e.b2,.int .u8 e.b3,.int .u8 e.b4,.int .u8 e.b5,.int .u8 e.b6,.int .u8 e.b7,.int .u8 e.b8,.int .u8 e.b9,.int .u8 e.b10,.int .u8 e.b11,.int .u8 e.b12,.int .u8 e.b13,.int .u8 e.b14,.int .u8 e.b15,.int .u8 e.b16,.int .u8 e.b17,.int .u8 e.b18,.int .u8 e.b19,.int .u8 e.b20,.int .u8 e.b21,.int .u8 e.b22,.int .u8 e.b23,.str e.state,.list false 7 (aS e.attrs)]
abbrev eLk(e:Lk):V:=.agg (eLkc e)
abbrev vf(s:Sp):List V:=[.int .u8 s.a0,.int .u8 s.a1,.int .u8 s.a2,.int .u8 s.a3,.int .u8 s.a4,.int .u8 s.a5,.int .u8 s.a6,.int .u8 s.a7,.int .u8 s.a8,.int .u8 s.a9,.int .u8 s.a10,.int .u8 s.a11,.int .u8 s.a12,.int .u8 s.a13,.int .u8 s.a14,.int .u8 s.a15,.int .u8 s.a16,.int .u8 s.a17,.int .u8 s.a18,.int .u8 s.a19,.int .u8 s.a20,.int .u8 s.a21,.int .u8 s.a22,.int .u8 s.a23,.int .u8 s.a24,.int .u8 s.a25,.int .u8 s.a26,.int .u8 s.a27,.int .u8 s.a28,.int .u8 s.a29,.int .u8 s.a30,.int .u8 s.a31,.str s.state,.str s.name,.int .i64 s.kind,.int .u64 s.start,.int .u64 s.fin,.list false 7 (aS s.attrs),.list false 3 (s.aG.map eEv),.list false 26 (s.lks.map eLk),.int .i64 s.code,.str s.note]
abbrev eSp(s:Sp):V:=.agg (vf s)
theorem IV{α:Type} [Inhabited α] {l:List α} {i:Nat} (h:i<l.length):l.getD i default∈l:=by
 rw[ac,am h];exact List.getElem_mem h
def HL:V->Ev
 |.agg [.int _ t,.str n,.list _ _ l]=>⟨t,n,bJ l⟩
 |_=>default
def decLk:V->Lk
 |.agg [.int _ b0,.int _ b1,.int _ b2,.int _ b3,.int _ b4,.int _ b5,.int _ b6,.int _ b7,.int _ b8,.int _ b9,.int _ b10,.int _ b11,.int _ b12,.int _ b13,.int _ b14,.int _ b15,.int _ b16,.int _ b17,.int _ b18,.int _ b19,.int _ b20,.int _ b21,.int _ b22,.int _ b23,.str s,.list _ _ l]=>⟨b0,b1,b2,b3,b4,b5,b6,b7,b8,b9,b10,b11,b12,b13,b14,b15,b16,b17,b18,b19,b20,b21,b22,b23,s,bJ l⟩
 |_=>default
def qw:V->Sp
 |.agg (.int _ a0::.int _ a1::.int _ a2::.int _ a3::.int _ a4::.int _ a5::.int _ a6::.int _ a7::.int _ a8::.int _ a9::.int _ a10::.int _ a11::.int _ a12::.int _ a13::.int _ a14::.int _ a15::.int _ a16::.int _ a17::.int _ a18::.int _ a19::.int _ a20::.int _ a21::.int _ a22::.int _ a23::.int _ a24::.int _ a25::.int _ a26::.int _ a27::.int _ a28::.int _ a29::.int _ a30::.int _ a31::.str s1::.str s2::.int _ k1::.int _ k2::.int _ k3::.list _ _ l1::.list _ _ l2::.list _ _ l3::.int _ k4::.str s3::[]) =>⟨a0,a1,a2,a3,a4,a5,a6,a7,a8,a9,a10,a11,a12,a13,a14,a15,a16,a17,a18,a19,a20,a21,a22,a23,a24,a25,a26,a27,a28,a29,a30,a31,s1,s2,k1,k2,k3,bJ l1,l2.map HL,l3.map decLk,k4,s3⟩
 |_=>default
def r9(x:V):Prop:=Wk x (eSp (qw x))
theorem QY(s:Sp) (hle:s.aG.length<=100000) (hlk:s.lks.length<=100000):OK 9 [eSp s,eSp s] [] (.bool true) none:=by
 refine ai (C:=pg [(35,DT)] [(8,[.res,.res]),(14,[.res,.res])] [(6,2),(7,3),(9,2),(10,3)]) (qW ⟨SC,trivial⟩) (fn:=Tryz.f9) fun hw _=>?_;have e1:(s.aG.map eEv).length=s.aG.length:=by simp
 have e2:(s.lks.map eLk).length=s.lks.length:=by simp
 repeat'((conv=>whnf);first|apply af|apply aI|((first|apply aj|apply dr|apply e9)<;>intro h))
 all_goals try conv=>whnf
 all_goals try(refine ae.mk ?_;try dsimp only)
 . exact⟨mO _,mO _⟩
 . refine aM.mk Nat (fun i=>i<=s.aG.length) (fun i=>⟨177,[(2,.ptr 0 0),(3,.ptr 1 0),(5,.int .i64 i)],[.cells (vf s),.cells (vf s)],[0,1,2,3]⟩) (fun i=>s.aG.length-i) [] 0 (ci _) ?_ (fun i hi _ _=>?_)
   . apply ao<;>(repeat' first|trivial)
   repeat'((conv=>whnf);first|apply af|apply aI|((first|apply aj|apply dr|apply e9)<;>intro h)|with_reducible apply j9)
   all_goals try conv=>whnf
   all_goals try(refine ae.mk ?_;try dsimp only)
   all_goals (try simp only[aB] at*)
   all_goals first|refine stay ?_|omega|skip
   . exact⟨mO _,mO _⟩
   . refine⟨[],i+1,by omega,?_,by omega⟩;apply ao<;>(repeat' first|trivial|apply ah|apply aC)
     rw[bz];omega
   . first
    |contradiction
    |exact absurd trivial (show¬True by assumption)
    |exact Bool.noConfusion (((mV _ _).2 rfl).symm.trans (show eA _ _=false by assumption))
    |(exfalso;simp_all;done)
   . first
    |contradiction
    |exact absurd trivial (show¬True by assumption)
    |exact Bool.noConfusion (((mV _ _).2 rfl).symm.trans (show eA _ _=false by assumption))
    |(exfalso;simp_all;done)
   . first
    |contradiction
    |exact absurd trivial (show¬True by assumption)
    |exact Bool.noConfusion (((mV _ _).2 rfl).symm.trans (show eA _ _=false by assumption))
    |(exfalso;simp_all;done)
   refine aM.mk Nat (fun i=>i<=s.lks.length) (fun i=>⟨177,[(2,.ptr 0 0),(3,.ptr 1 0),(8,.int .i64 i)],[.cells (vf s),.cells (vf s)],[0,1,2,3]⟩) (fun i=>s.lks.length-i) [] 0 (ci _) ?_ (fun i hi _ _=>?_)
   . apply ao<;>(repeat' first|trivial)
   repeat'((conv=>whnf);first|apply af|apply aI|((first|apply aj|apply dr|apply e9)<;>intro h)|with_reducible apply j9)
   all_goals try conv=>whnf
   all_goals try(refine ae.mk ?_;try dsimp only)
   all_goals (try simp only[aB] at*)
   all_goals first|refine stay ?_|omega|skip
   . exact⟨mO _,mO _⟩
   . refine⟨[],i+1,by omega,?_,by omega⟩;apply ao<;>(repeat' first|trivial|apply ah|apply aC)
     rw[bz];omega
   . first
    |contradiction
    |exact absurd trivial (show¬True by assumption)
    |exact Bool.noConfusion (((mV _ _).2 rfl).symm.trans (show eA _ _=false by assumption))
    |(exfalso;simp_all;done)
   . first
    |contradiction
    |exact absurd trivial (show¬True by assumption)
    |exact Bool.noConfusion (((mV _ _).2 rfl).symm.trans (show eA _ _=false by assumption))
    |(exfalso;simp_all;done)
   . first
    |contradiction
    |exact absurd trivial (show¬True by assumption)
    |exact Bool.noConfusion (((mV _ _).2 rfl).symm.trans (show eA _ _=false by assumption))
    |(exfalso;simp_all;done)
   . first
    |contradiction
    |exact absurd trivial (show¬True by assumption)
    |exact Bool.noConfusion (((mV _ _).2 rfl).symm.trans (show eA _ _=false by assumption))
    |(exfalso;simp_all;done)
   . refine ab.mk [] ?_<;>(repeat' first|trivial)
 all_goals (exfalso;rename_i h;first|exact absurd rfl h|(rw[(mV _ _).2 rfl] at h;cases h;done)|(simp at h;done))
def Ak:Sm:=fun args σ=>match args,σ with
 |[x,y],[]=>some ((r9 x/\r9 y)/\qw x=qw y/\(qw x).aG.length<=100000/\(qw x).lks.length<=100000,.bool true,none)
 |_,_=>none
-- #name same27L truchmanref27.xt
theorem Km:aq 9 Ak:=by
 intro args sg pre x r he hp;unfold Ak at he;split at he<;>cases he;obtain⟨⟨h1,h2⟩,h3,h4,h5⟩:=hp;unfold r9 at h1 h2;rw[<-h3] at h2;exact(QY _ h4 h5).args (aP.cons h1 (aP.cons h2 aP.nil))
def qT(L:List Nd) (k:Int):g8:=if k<0 then[] else(L.getD k.toNat default).t
def iS(k e:Int):Int:=if k<0 then e else 0
def vC(k:Int):Int:=if k<0 then 0 else k
def qS(L:List Nd) (k:Int):List Nat:=if k<0 then[] else bA L k
def FOK(l:List V) (k:Int):Prop:=fE l/\gp (al l)/\k<(al l).length
def Em:Sm:=fun args σ=>match args,σ with
 |[.int .i64 k,.ptr 0 0],[.cells [.list c 4 l]]=>some (FOK l k/\0<=k,.tuple [.str ((al l).getD k.toNat default).t,.int .i64 0],none)
 |_,_=>none
theorem SY:aq 159 Em:=by
 intro args sg pre x r he hp;unfold Em at he;split at he<;>cases he
 . rename_i k c l;refine ai (C:=cx []) (ak trivial) (fn:=Tryz.f159) fun hw hs=>?_;obtain⟨hp,h0⟩:=hp;obtain⟨hN,hl,hk⟩:=hp;obtain⟨L,rfl,eL⟩:=jQ hN;rw[eL] at hl hk⊢;have hml:(L.map aN).length=L.length:=aB _;repeat'((conv=>whnf);first|apply af|with_reducible apply ig)
   all_goals try conv=>whnf
   all_goals try(refine ae.mk ?_;try dsimp only)
   all_goals (try simp only[bX,dd] at*)
   all_goals first|refine stay ?_|trivial|omega|skip
   refine ab.mk [] ?_<;>(repeat' first|trivial)
def zO:Sm:=fun args σ=>match args,σ with
 |[.int .i64 k],[]=>some (True,.tuple [.int .i64 k,.int .i64 0],none)
 |_,_=>none
theorem JS:aq 114 zO:=by
 intro args sg pre x r he hp;unfold zO at he;split at he<;>cases he
 . rename_i k;refine ai (C:=cx []) (ak trivial) (fn:=Tryz.f114) fun hw hs=>?_;all_goals try conv=>whnf
   all_goals try(refine ae.mk ?_;try dsimp only)
   all_goals try refine stay ?_
   refine ab.mk [] ?_<;>(repeat' first|trivial)
def El:Sm:=fun args σ=>match args,σ with
 |[.int .i64 k,.ptr 0 0],[.cells [.list c 4 l]]=>some (fE l/\gp (al l),.tuple [.buf 1,.int .i64 0],some [.cells [.list c 4 l],.buf 1 0 ((bA (al l) k).map nI)])
 |_,_=>none
theorem SX:aq 116 El:=by
 intro args sg pre x r he hp;unfold El at he;split at he<;>cases he
 . rename_i k c l;refine ai (C:=cx [(63,uu)]) (ak ⟨yx,trivial⟩) (fn:=Tryz.f116) fun hw hs=>?_;obtain⟨hN,hl⟩:=hp;repeat'((conv=>whnf);apply af)
   all_goals try conv=>whnf
   all_goals try(refine ae.mk ?_;try dsimp only)
   all_goals (try simp only[bX,dd] at*)
   all_goals first|refine stay ?_|trivial|skip
   refine ab.mk [] ?_<;>(repeat' first|trivial)
def Ek:Sm:=fun args σ=>match args,σ with
 |[.int .i64 k,.int .i64 e,.func (.func 159) [] [.ptr 0 0]],[.cells [.list c 4 l]]=>some (FOK l k,.agg [.str (qT (al l) k),.bool (decide (k>=0)),.int .i64 (iS k e)],none)
 |_,_=>none
theorem SW:aq 158 Ek:=by
 intro args sg pre x r he hp;unfold Ek at he;split at he<;>cases he
 . rename_i k e c l;refine ai (C:=cx [(159,Em)]) (ak ⟨SY,trivial⟩) (fn:=Tryz.f158) fun hw hs=>?_;unfold qT iS;repeat'((conv=>whnf);first|apply af|(apply aj<;>intro h))
   all_goals try conv=>whnf
   all_goals try(refine ae.mk ?_;try dsimp only)
   all_goals try refine stay ?_
   . rw[if_pos (by omega),if_pos (by omega),decide_eq_false (by omega)];refine ab.mk [] ?_<;>(repeat' first|trivial)
   . exact⟨hp,by omega⟩
   . rw[if_neg (by omega),if_neg (by omega),decide_eq_true (by omega)];refine ab.mk [] ?_<;>(repeat' first|trivial)
def Ej:Sm:=fun args σ=>match args,σ with
 |[.int .i64 k,.int .i64 e,.func (.func 116) [] [.ptr 0 0]],[.cells [.list c 4 l]]=>some (FOK l k,.agg [.buf 1,.bool (decide (k>=0)),.int .i64 (iS k e)],some [.cells [.list c 4 l],.buf 1 0 ((qS (al l) k).map nI)])
 |_,_=>none
theorem SV:aq 115 Ej:=by
 intro args sg pre x r he hp;unfold Ej at he;split at he<;>cases he
 . rename_i k e c l;refine ai (C:=cx [(116,El)]) (ak ⟨SX,trivial⟩) (fn:=Tryz.f115) fun hw hs=>?_;unfold qS iS;repeat'((conv=>whnf);first|apply af|(apply aj<;>intro h))
   all_goals try conv=>whnf
   all_goals try(refine ae.mk ?_;try dsimp only)
   all_goals (try simp only[bX,dd] at*)
   all_goals try refine stay ?_
   . rw[if_pos (by omega),if_pos (by omega),decide_eq_false (by omega)];refine ab.mk [.cell 1 0 1,.swap 1 2] ?_<;>(repeat' first|trivial)
   . exact⟨hp.1,hp.2.1⟩
   . rw[if_neg (by omega),if_neg (by omega),decide_eq_true (by omega)];refine ab.mk [.swap 1 2] ?_<;>(repeat' first|trivial)
theorem Dc(L:List Nd) (q:Int) (key:g8) (a b:Int):(bp L q key a b).1<L.length:=by
 rcases tW L q key a b with h|h<;>omega
def zP:Sm:=fun args σ=>match args,σ with
 |[.list c 4 l,.int .i64 q,.str key],[]=>some (fE l/\gp (al l),.agg [.str (qT (al l) (bp (al l) q key 115 115).1),.bool (decide ((bp (al l) q key 115 115).1>=0)),.int .i64 (iS (bp (al l) q key 115 115).1 (bp (al l) q key 115 115).2)],none)
 |_,_=>none
theorem JT:aq 108 zP:=by
 intro args sg pre x r he hp;unfold zP at he;split at he<;>cases he
 . rename_i c l q key;refine ai (C:=cx [(112,uj),(158,Ek)]) (ak ⟨yn,SW,trivial⟩) (fn:=Tryz.f108) fun hw hs=>?_;obtain⟨hN,hp⟩:=hp;repeat'((conv=>whnf);apply af)
   all_goals try conv=>whnf
   all_goals try(refine ae.mk ?_;try dsimp only)
   all_goals first|refine stay ?_|trivial|skip
   . exact⟨hN,hp,Dc _ _ _ _ _⟩
   . refine ab.mk [] ?_<;>(repeat' first|trivial)
def zN:Sm:=fun args σ=>match args,σ with
 |[.list c 4 l,.int .i64 q,.str key],[]=>some (fE l/\gp (al l),.agg [.buf 0,.bool (decide ((bp (al l) q key 91 91).1>=0)),.int .i64 (iS (bp (al l) q key 91 91).1 (bp (al l) q key 91 91).2)],some [.buf 1 0 ((qS (al l) (bp (al l) q key 91 91).1).map nI)])
 |_,_=>none
theorem JR:aq 61 zN:=by
 intro args sg pre x r he hp;unfold zN at he;split at he<;>cases he
 . rename_i c l q key;refine ai (C:=cx [(112,uj),(115,Ej)]) (ak ⟨yn,SV,trivial⟩) (fn:=Tryz.f61) fun hw hs=>?_;obtain⟨hN,hp⟩:=hp;repeat'((conv=>whnf);apply af)
   all_goals try conv=>whnf
   all_goals try(refine ae.mk ?_;try dsimp only)
   all_goals (try simp only[bX,dd] at*)
   all_goals first|refine stay ?_|trivial|skip
   . exact⟨hN,hp,Dc _ _ _ _ _⟩
   . refine ab.mk [.swap 0 2] ?_<;>(repeat' first|trivial)
def Mz:Sm:=fun args σ=>match args,σ with
 |[.list c 4 l,.int .i64 q,.str key],[]=>some (fE l/\gp (al l),.tuple [.str (qT (al l) (bp (al l) q key 115 115).1),.bool (decide ((bp (al l) q key 115 115).1>=0)),.int .i64 (iS (bp (al l) q key 115 115).1 (bp (al l) q key 115 115).2)],none)
 |_,_=>none
theorem U4:aq 68 Mz:=by
 intro args sg pre x r he hp;unfold Mz at he;split at he<;>cases he
 . rename_i c l q key;refine ai (C:=cx [(75,rK)]) (ak ⟨vN,trivial⟩) (fn:=Tryz.f68) fun hw hs=>?_;obtain⟨hN,hp⟩:=hp;obtain⟨L,rfl,eL⟩:=jQ hN;rw[eL] at hp⊢;have hml:(L.map aN).length=L.length:=aB _;have hon:=tW L q key 115 115;unfold qT iS;repeat'((conv=>whnf);first|apply af|(apply aj<;>intro h)|with_reducible apply ig)
   all_goals try conv=>whnf
   all_goals try(refine ae.mk ?_;try dsimp only)
   all_goals (try simp only[bX] at*)
   all_goals generalize bp L q key 115 115=f at*
   all_goals first|refine stay ?_|trivial|omega|skip
   . rw[if_pos (by omega),if_pos (by omega),decide_eq_false (by omega)];refine ab.mk [] ?_<;>(repeat' first|trivial)
   . rw[if_neg (by omega),if_neg (by omega),decide_eq_true (by omega)];refine ab.mk [] ?_<;>(repeat' first|trivial)
theorem YZ{s:g8} (h:(fj s).2≠0):(fj s).1=0:=by
 have w:∀m l,(eE m l).2≠0->(eE m l).1=0:=fun m l h=>by
  unfold eE at h⊢;split
  . rename_i q;rw[if_pos q] at h;exact absurd rfl h
  . rfl
 have r:∀l,(dx l).2≠0->(dx l).1=0:=fun l h=>by
  unfold dx at h⊢;split
  . rename_i q;rw[if_pos q] at h;split
    . rename_i q2;rw[if_pos q2] at h;exact w _ _ h
    . rfl
  . rename_i q;rw[if_neg q] at h;split
    . rename_i q2;rw[if_pos q2] at h;show-(eE _ _).1=0;rw[w _ _ h];rfl
    . rfl
 unfold fj jx at h⊢;repeat' split
 all_goals first
  |rfl
  |(refine r _ ?_;simp_all)
def nW(L:List Nd) (k:Int):Int×Int:=fj (L.getD k.toNat default).t
def tv(L:List Nd) (k:Int):Int:=if k<0 then 0 else if(nW L k).2≠0 then 0 else(nW L k).1
def tu(L:List Nd) (k:Int):Bool:=if k<0 then false else decide ((nW L k).2=0)
def qV(L:List Nd) (k e:Int):Int:=if k<0 then e else(nW L k).2
def zR:Sm:=fun args σ=>match args,σ with
 |[.int .i64 k,.ptr 0 0],[.cells [.list c 4 l]]=>some (FOK l k/\0<=k,.tuple [.int .i64 (nW (al l) k).1,.int .i64 (nW (al l) k).2],none)
 |_,_=>none
theorem JV:aq 161 zR:=by
 intro args sg pre x r he hp;unfold zR at he;split at he<;>cases he
 . rename_i k c l;refine ai (C:=cx [(162,Ey)]) (ak ⟨T6,trivial⟩) (fn:=Tryz.f161) fun hw hs=>?_;obtain⟨hp,h0⟩:=hp;obtain⟨hN,hl,hk⟩:=hp;obtain⟨L,rfl,eL⟩:=jQ hN;rw[eL] at hl hk⊢;have hml:(L.map aN).length=L.length:=aB _;have hn:=oD hl (a:=k.toNat) (by omega);unfold nW;repeat'((conv=>whnf);first|apply af|with_reducible apply ig)
   all_goals try conv=>whnf
   all_goals try(refine ae.mk ?_;try dsimp only)
   all_goals (try simp only[bX,dd] at*)
   all_goals first|refine stay ?_|trivial|omega|skip
   refine ab.mk [] ?_<;>(repeat' first|trivial)
def zM:Sm:=fun args σ=>match args,σ with
 |[.int .i64 k,.int .i64 e,.func (.func 161) [] [.ptr 0 0]],[.cells [.list c 4 l]]=>some (FOK l k,.agg [.int .i64 (tv (al l) k),.bool (tu (al l) k),.int .i64 (qV (al l) k e)],none)
 |[.int .i64 k,.int .i64 e,.func (.func 114) [] []],[]=>some (True,.agg [.int .i64 (vC k),.bool (decide (k>=0)),.int .i64 (iS k e)],none)
 |_,_=>none
theorem JQ:aq 113 zM:=by
 intro args sg pre x r he hp;unfold zM at he;split at he<;>cases he
 . rename_i k e c l;refine ai (C:=cx [(161,zR),(114,zO)]) (ak ⟨JV,JS,trivial⟩) (fn:=Tryz.f113) fun hw hs=>?_;unfold tv tu qV;repeat'((conv=>whnf);first|apply af|apply aI|(apply aj<;>intro h))
   all_goals try conv=>whnf
   all_goals try(refine ae.mk ?_;try dsimp only)
   all_goals try refine stay ?_
   . rw[if_pos (by omega),if_pos (by omega),if_pos (by omega)];refine ab.mk [] ?_<;>(repeat' first|trivial)
   . exact⟨hp,by omega⟩
   . rw[if_neg (by omega),if_neg (show¬(nW _ _).2≠0 by omega),if_neg (by omega),decide_eq_true (by omega),if_neg (by omega),‹(nW _ _).2=0›];refine ab.mk [] ?_<;>(repeat' first|trivial)
   . rw[if_neg (by omega),if_pos (show(nW _ _).2≠0 by omega),if_neg (by omega),decide_eq_false (by omega),if_neg (by omega)];refine ab.mk [] ?_<;>(repeat' first|trivial)
 . rename_i k e;refine ai (C:=cx [(161,zR),(114,zO)]) (ak ⟨JV,JS,trivial⟩) (fn:=Tryz.f113) fun hw hs=>?_;unfold vC iS;repeat'((conv=>whnf);first|apply af|(apply aj<;>intro h))
   all_goals try conv=>whnf
   all_goals try(refine ae.mk ?_;try dsimp only)
   all_goals try refine stay ?_
   . rw[if_pos (by omega),if_pos (by omega),decide_eq_false (by omega)];refine ab.mk [] ?_<;>(repeat' first|trivial)
   . rw[if_neg (by omega),if_neg (by omega),decide_eq_true (by omega)];refine ab.mk [] ?_<;>(repeat' first|trivial)
def zQ:Sm:=fun args σ=>match args,σ with
 |[.list c 4 l,.int .i64 q,.str key],[]=>some (fE l/\gp (al l),.agg [.int .i64 (tv (al l) (bp (al l) q key 110 110).1),.bool (tu (al l) (bp (al l) q key 110 110).1),.int .i64 (qV (al l) (bp (al l) q key 110 110).1 (bp (al l) q key 110 110).2)],none)
 |_,_=>none
theorem JU:aq 111 zQ:=by
 intro args sg pre x r he hp;unfold zQ at he;split at he<;>cases he
 . rename_i c l q key;refine ai (C:=cx [(112,uj),(113,zM)]) (ak ⟨yn,JQ,trivial⟩) (fn:=Tryz.f111) fun hw hs=>?_;obtain⟨hN,hp⟩:=hp;repeat'((conv=>whnf);apply af)
   all_goals try conv=>whnf
   all_goals try(refine ae.mk ?_;try dsimp only)
   all_goals first|refine stay ?_|trivial|skip
   . exact⟨hN,hp,Dc _ _ _ _ _⟩
   . refine ab.mk [] ?_<;>(repeat' first|trivial)
def ui:Sm:=fun args σ=>match args,σ with
 |[.list c 4 l,.int .i64 q,.str key],[]=>some (fE l/\gp (al l),.agg [.int .i64 (vC (bp (al l) q key 123 123).1),.bool (decide ((bp (al l) q key 123 123).1>=0)),.int .i64 (iS (bp (al l) q key 123 123).1 (bp (al l) q key 123 123).2)],none)
 |_,_=>none
theorem ym:aq 60 ui:=by
 intro args sg pre x r he hp;unfold ui at he;split at he<;>cases he
 . rename_i c l q key;refine ai (C:=cx [(112,uj),(113,zM)]) (ak ⟨yn,JQ,trivial⟩) (fn:=Tryz.f60) fun hw hs=>?_;obtain⟨hN,hp⟩:=hp;repeat'((conv=>whnf);apply af)
   all_goals try conv=>whnf
   all_goals try(refine ae.mk ?_;try dsimp only)
   all_goals first|refine stay ?_|trivial|skip
   refine ab.mk [] ?_<;>(repeat' first|trivial)
def MA:Sm:=fun args σ=>match args,σ with
 |[.list c 4 l,.int .i64 q,.str key],[]=>some (fE l/\gp (al l),.tuple [.int .i64 (tv (al l) (bp (al l) q key 110 110).1),.bool (tu (al l) (bp (al l) q key 110 110).1),.int .i64 (qV (al l) (bp (al l) q key 110 110).1 (bp (al l) q key 110 110).2)],none)
 |_,_=>none
theorem U5:aq 73 MA:=by
 intro args sg pre x r he hp;unfold MA at he;split at he<;>cases he
 . rename_i c l q key;refine ai (C:=cx [(75,rK),(126,Fg)]) (ak ⟨vN,TR,trivial⟩) (fn:=Tryz.f73) fun hw hs=>?_;obtain⟨hN,hp⟩:=hp;obtain⟨L,rfl,eL⟩:=jQ hN;rw[eL] at hp⊢;have hml:(L.map aN).length=L.length:=aB _;have hon:=tW L q key 110 110;have hn:0<=(bp L q key 110 110).1->((L.getD (bp L q key 110 110).1.toNat default).t).length<=10000000:=fun h=>(oD hp (by omega)).2.2.2;unfold tv tu qV nW;repeat'((conv=>whnf);first|apply af|(apply aj<;>intro h)|with_reducible apply ig)
   all_goals try conv=>whnf
   all_goals try(refine ae.mk ?_;try dsimp only)
   all_goals (try simp only[bX] at*)
   all_goals generalize bp L q key 110 110=f at*
   all_goals first|refine stay ?_|trivial|omega|skip
   . rw[if_pos (by omega),if_pos (by omega),if_pos (by omega)];refine ab.mk [] ?_<;>(repeat' first|trivial)
   . have hv:(if(fj (L.getD f.1.toNat default).t).2≠0 then 0 else(fj (L.getD f.1.toNat default).t).1) =(fj (L.getD f.1.toNat default).t).1:=by
       split
       . exact(YZ ‹_›).symm
       . rfl
     rw[if_neg (by omega),hv,if_neg (by omega),if_neg (by omega)];refine ab.mk [] ?_<;>(repeat' first|trivial)
abbrev bq:Ky:=[116,114,97,99,101,73,100]
abbrev bP:Ky:=[105,100]
abbrev da:Ky:=[112,97,114,101,110,116,73,100]
abbrev lF:Ky:=[110,97,109,101]
abbrev cR:Ky:=[107,105,110,100]
abbrev c8:Ky:=[116,105,109,101,115,116,97,109,112]
abbrev fT:Ky:=[100,117,114,97,116,105,111,110]
abbrev fU:Ky:=[108,111,99,97,108,69,110,100,112,111,105,110,116]
abbrev ja:Ky:=[114,101,109,111,116,101,69,110,100,112,111,105,110,116]
abbrev ma:Ky:=[115,101,114,118,105,99,101,78,97,109,101]
abbrev bk:Ky:=[97,110,110,111,116,97,116,105,111,110,115]
abbrev iJ:Ky:=[118,97,108,117,101]
abbrev bH:Ky:=[116,97,103,115]
abbrev eY:Ky:=[101,114,114,111,114]
abbrev jo:Ky:=[111,116,101,108,46,115,116,97,116,117,115,95,99,111,100,101]
abbrev kf:Ky:=[112,101,101,114,46,115,101,114,118,105,99,101]
abbrev rW:Ky:=[83,69,82,86,69,82]
abbrev rS:Ky:=[67,76,73,69,78,84]
abbrev rV:Ky:=[80,82,79,68,85,67,69,82]
abbrev rT:Ky:=[67,79,78,83,85,77,69,82]
abbrev AI:Ky:=[69,82,82,79,82]
abbrev rU:Ky:=[79,75]
def aJ:List Int->Int
 |[]=>0
 |a::r=>if a≠0 then a else aJ r
theorem dV{a:Int} {r:List Int}:aJ (a::r) =if a≠0 then a else aJ r:=rfl
theorem lZ:aJ []=0:=rfl
def nn(b:Bool):Int:=if b=true then 0 else 9
section
variable (L:List Nd) (q:Int) (key:Ky)
def aW:Int:=iS (bp L q key 115 115).1 (bp L q key 115 115).2
def bh:Bool:=decide ((bp L q key 115 115).1>=0)
def aU:Ky:=qT L (bp L q key 115 115).1
def cj:Int:=qV L (bp L q key 110 110).1 (bp L q key 110 110).2
def oa:Bool:=tu L (bp L q key 110 110).1
def iP:Int:=tv L (bp L q key 110 110).1
def jz:Int:=iS (bp L q key 123 123).1 (bp L q key 123 123).2
def jl:Bool:=decide ((bp L q key 123 123).1>=0)
def cB:Int:=vC (bp L q key 123 123).1
def n7:Int:=iS (bp L q key 91 91).1 (bp L q key 91 91).2
def bF:List Nat:=qS L (bp L q key 91 91).1
def eG:Int:=aJ [aW L q key,if bh L q key=true then(cW (aU L q key)).1 else 0]
def j4:g8:=if bh L q key=true then(cW (aU L q key)).2 else[]
def jy:Int:=aJ [aW L q bq,nn (bh L q bq),(cO (aU L q bq)).1]
def jk:Int:=aJ [jy L q,eG L q bP]
def iw:Int:=aJ [jk L q,nn (bh L q bP),eG L q da]
def cT:Int:=aJ [iw L q,aW L q lF]
def lj:g8:=if jy L q=0 then(cO (aU L q bq)).2 else[]
def lg:g8:=if jk L q=0 then j4 L q bP else[]
def iO:g8:=if iw L q=0 then j4 L q da else[]
def lh:Ky:=if cT L q=0 then aU L q lF else[]
def gk(s:Ky):Int:=if s=rW then 2 else if s=rS then 3 else if s=rV then 4 else if s=rT then 5 else 0
def cD:Int:=aJ [aW L q cR,if bh L q cR=true/\gk (aU L q cR) =0 then 7 else 0]
def jj:Int:=if bh L q cR=true then gk (aU L q cR) else 0
def mw:Int×(Int×Int):=jd (iP L q c8) (iP L q fT)
def dJ:Int:=aJ [cj L q c8,cj L q fT,(mw L q).1]
def cU:Int:=aJ [jz L q key,if jl L q key=true then aW L (cB L q key) ma else 0]
def gm:Ky:=if jl L q key=true then aU L (cB L q key) ma else[]
def cP(k:Nat):Int:=aJ [if(L.getD k default).k.toNat≠123 then 7 else 0,cj L k c8,nn (oa L k c8),aW L k iJ,nn (bh L k iJ),(cH (iP L k c8)).1]
def oV(k:Nat):Ev:=⟨(cH (iP L k c8)).2,aU L k iJ,[]⟩
def fC:List Nat->Int
 |[]=>0
 |k::r=>aJ [cP L k,fC r]
def fq:Int:=aJ [n7 L q bk,fC L (bF L q bk)]
def o9:List Ev:=(bF L q bk).map (oV L)
def ie(k:Nat):Int:=if(L.getD k default).k.toNat≠115 then 7 else 0
abbrev tA(key t:Ky):az:=.mk key (.mk 1 t 0 0 [] [])
def eV(k:Nat):az:=tA (L.getD k default).key (L.getD k default).t
def j0:List Nat->Int
 |[]=>0
 |k::r=>aJ [ie L k,j0 r]
def eF:List Nat:=if jl L q bH=true then bA L (cB L q bH) else[]
def gj:Int:=aJ [jz L q bH,j0 L (eF L q)]
def fF:List az:=dz ((eF L q).map (eV L)) []
end
def mZ(l:List az):Int:=if fI l eY=true then 2 else if gb l jo=AI then 2 else if gb l jo=rU then 1 else 0
def n5(l:List az):Ky:=if fI l eY=true then gb l eY else[]
section
variable (L:List Nd) (q:Int)
def qg:List az:=if gm L q ja≠[] then cZ (eQ (fF L q) [eY,jo]) (tA kf (gm L q ja)) else eQ (fF L q) [eY,jo]
def zE:Int:=aJ [if 0<=q/\q<L.length/\(L.getD q.toNat default).k.toNat=123 then 0 else 7,cT L q,cD L q,dJ L q,cU L q fU,cU L q ja,fq L q,gj L q]
end
abbrev zC(t i p:g8) (r:List V):List V:=.int .u8 (t.getD 0 0).toNat::.int .u8 (t.getD 1 0).toNat::.int .u8 (t.getD 2 0).toNat::.int .u8 (t.getD 3 0).toNat::.int .u8 (t.getD 4 0).toNat::.int .u8 (t.getD 5 0).toNat::.int .u8 (t.getD 6 0).toNat::.int .u8 (t.getD 7 0).toNat::.int .u8 (t.getD 8 0).toNat::.int .u8 (t.getD 9 0).toNat::.int .u8 (t.getD 10 0).toNat::.int .u8 (t.getD 11 0).toNat::.int .u8 (t.getD 12 0).toNat::.int .u8 (t.getD 13 0).toNat::.int .u8 (t.getD 14 0).toNat::.int .u8 (t.getD 15 0).toNat::
 .int .u8 (i.getD 0 0).toNat::.int .u8 (i.getD 1 0).toNat::.int .u8 (i.getD 2 0).toNat::.int .u8 (i.getD 3 0).toNat::.int .u8 (i.getD 4 0).toNat::.int .u8 (i.getD 5 0).toNat::.int .u8 (i.getD 6 0).toNat::.int .u8 (i.getD 7 0).toNat::
 .int .u8 (p.getD 0 0).toNat::.int .u8 (p.getD 1 0).toNat::.int .u8 (p.getD 2 0).toNat::.int .u8 (p.getD 3 0).toNat::.int .u8 (p.getD 4 0).toNat::.int .u8 (p.getD 5 0).toNat::.int .u8 (p.getD 6 0).toNat::.int .u8 (p.getD 7 0).toNat::r
abbrev zZ:List V:=zC [] [] [] [.str [],.str [],.int .i64 0,.int .u64 0,.int .u64 0,.list true 0 [],.list true 0 [],.list true 0 [],.int .i64 0,.str []]
theorem dG{a:Int} {l:List Int} (h:Cd a) (h2:Cd (aJ l)):Cd (aJ (a::l)):=by
 rw[dV];split
 . exact h
 . exact h2
theorem yY(b:Bool):Cd (nn b):=by unfold nn;split<;>exact bG rfl
theorem zd(L:List Nd) (q:Int) (key:Ky) (a b:Int):Cd (bp L q key a b).2:=by
 unfold bp;repeat' split
 all_goals exact bG rfl
theorem BZ{k e:Int} (h:Cd e):Cd (iS k e):=by
 unfold iS;split
 . exact h
 . exact bG rfl
theorem Z3(m:Nat) (s:g8):Cd (eE m s).2:=by unfold eE;split<;>exact bG rfl
theorem WZ(s:g8):Cd (dx s).2:=by
 unfold dx;repeat' split
 all_goals first
  |exact bG rfl
  |exact Z3 _ _
theorem Z0(s:g8):Cd (fj s).2:=by
 unfold fj jx;repeat' split
 all_goals first
  |exact bG rfl
  |exact WZ _
theorem Jm(s:g8):Cd (iI s).1:=by unfold iI;split<;>exact bG rfl
theorem Sl(s:g8):Cd (cW s).1:=by
 unfold cW;split
 . exact Jm _
 . exact bG rfl
theorem Yy(s:g8):Cd (cO s).1:=by
 unfold cO;repeat' split
 all_goals first
  |exact Jm _
  |exact bG rfl
theorem Vp(u:Int):Cd (cH u).1:=by unfold cH;split<;>exact bG rfl
theorem VK(a b:Int):Cd (jd a b).1:=by unfold jd;split<;>exact bG rfl
section
variable (L:List Nd) (q:Int)
theorem uK(key:Ky):Cd (aW L q key):=BZ (zd L q key 115 115)
theorem GV(key:Ky):Cd (cj L q key):=by
 unfold cj qV nW;split
 . exact zd L q key 110 110
 . exact Z0 _
theorem NU(key:Ky):Cd (jz L q key):=BZ (zd L q key 123 123)
theorem Zh(key:Ky):Cd (n7 L q key):=BZ (zd L q key 91 91)
theorem NT(key:Ky):Cd (eG L q key):=by
 refine dG (uK L q key) (dG ?_ (bG rfl));split
 . exact Sl _
 . exact bG rfl
theorem Zi:Cd (cT L q):=dG (dG (dG (dG (uK L q _) (dG (yY _) (dG (Yy _) (bG rfl)))) (dG (NT L q _) (bG rfl))) (dG (yY _) (dG (NT L q _) (bG rfl)))) (dG (uK L q _) (bG rfl))
theorem Ze:Cd (cD L q):=by
 refine dG (uK L q _) (dG ?_ (bG rfl));split<;>exact bG rfl
theorem Zd:Cd (dJ L q):=dG (GV L q _) (dG (GV L q _) (dG (VK _ _) (bG rfl)))
theorem NV(key:Ky):Cd (cU L q key):=by
 refine dG (NU L q _) (dG ?_ (bG rfl));split
 . exact uK L _ _
 . exact bG rfl
theorem Zb(k:Nat):Cd (cP L k):=by
 refine dG ?_ (dG (GV L k _) (dG (yY _) (dG (uK L k _) (dG (yY _) (dG (Vp _) (bG rfl))))));split<;>exact bG rfl
theorem Io:∀ks:List Nat,Cd (fC L ks)
 |[]=>bG rfl
 |k::r=>dG (Zb L k) (dG (Io r) (bG rfl))
theorem Zm:Cd (fq L q):=dG (Zh L q _) (dG (Io L _) (bG rfl))
theorem MY:∀ks:List Nat,Cd (j0 L ks)
 |[]=>bG rfl
 |k::r=>by
   refine dG ?_ (dG (MY r) (bG rfl));unfold ie;split<;>exact bG rfl
theorem Zc:Cd (gj L q):=dG (NU L q _) (dG (MY L _) (bG rfl))
theorem Hx:∀(l acc:List az),eN acc->eN (dz l acc)
 |[],acc,h=>by rw[dz];exact h
 |a::r,acc,h=>by rw[dz];exact Hx r _ (Jw h)
theorem vJ{R:List az} {a:az} (h:iu R) (ha:a.value.kind=1):iu (cZ R a):=by
 induction R with
 |nil=>
   intro x hx;rw[cZ] at hx;rcases List.mem_singleton.1 hx with rfl
   exact ha
 |cons b r ih=>
   have ih:=ih fun x hx=>h x (d8 _ hx);intro x hx;rw[cZ] at hx;split at hx
   . rcases List.mem_cons.1 hx with rfl|hx
     . exact h _ List.mem_cons_self
     . exact ih x hx
   . split at hx
     . rcases List.mem_cons.1 hx with rfl|hx
       . exact ha
       . exact h x (d8 _ hx)
     . rcases List.mem_cons.1 hx with rfl|hx
       . exact ha
       . exact h x hx
theorem Hy:∀(l acc:List az),iu l->iu acc->iu (dz l acc)
 |[],acc,_,h=>by rw[dz];exact h
 |a::r,acc,hl,h=>by
   rw[dz];refine Hy r _ (fun x hx=>hl x (d8 _ hx)) (vJ h ?_);have:=hl a List.mem_cons_self;obtain⟨k,v⟩:=a;obtain⟨k1,t,n,b,l,m⟩:=v;exact this
theorem S9(ks:List Nat):iu (ks.map (eV L)):=by
 intro a ha;obtain⟨k,_,rfl⟩:=List.mem_map.1 ha;rfl
theorem Gz:eN (fF L q):=Hx _ _ List.Pairwise.nil
theorem NS:iu (fF L q):=Hy _ _ (S9 L _) fun _ h=>by cases h
theorem NR:(fF L q).length<=L.length:=by
 have h:=Hv ((eF L q).map (eV L)) [];rw[aB] at h;have h2:(eF L q).length<=L.length:=by
  unfold eF;split
  . exact rb _ _
  . exact ci _
 have h3:([]:List az).length=0:=rfl;unfold fF;omega
theorem Bz{l:List az} {ks:List Ky} (h:eN l):eN (eQ l ks):=List.Pairwise.filter _ h
theorem HY{l:List az} {ks:List Ky} (h:iu l):iu (eQ l ks):=fun a ha=>h a (List.mem_filter.1 ha).1
end
theorem Rz(n:Int) (hp:True) (hc:¬(n≠0)):OK 55 ([.int .i64 n]) ([]) (.tuple []) (none):=by
 refine ai (C:=cx []) (ak trivial) (fn:=Tryz.f55) fun hw hs=>?_;repeat'((conv=>whnf);first|apply fD|apply aI)
 all_goals try conv=>whnf
 all_goals try(refine ae.mk ?_;try dsimp only)
 . exact beq_iff_eq.2 (Decidable.not_not.1 hc)
 . refine ab.mk [] ?_<;>(repeat' first|trivial)
theorem Wf(n:Int) (hp:True) (hc:n≠0):j6 55 ([.int .i64 n]) ([]) (.iface 57 (.int .i64 n)) (none):=by
 refine je (C:=cx []) (ak trivial) (fn:=Tryz.f55) rfl rfl rfl rfl fun hw hs=>?_;repeat'((conv=>whnf);first|apply af|apply fD)
 all_goals try conv=>whnf
 all_goals try(refine ae.mk ?_;try dsimp only)
 . exact bne_iff_ne.2 hc
 . (refine bI.mk [] ?_<;>(repeat' first|trivial|rfl|apply ah);done)
def iL:dL:=fun args σ=>match args,σ with
 |[.int .i64 n],[]=>some (True,n≠0,.iface 57 (.int .i64 n),none,.tuple [],none)
 |_,_=>none
theorem jb:dR 55 (iL):=by
 intro args sg pre c u r x r2 he hp;unfold iL at he;split at he<;>cases he
 . exact⟨fun hc=>⟨_,rfl,Wf (hp:=hp) (hc:=hc) ..⟩,fun hc=>Rz (hp:=hp) (hc:=hc) ..⟩
theorem RJ(b:Bool) (hp:True) (hc:¬(b=false)):OK 53 ([.bool b]) ([]) (.tuple []) (none):=by
 refine ai (C:=cx []) (ak trivial) (fn:=Tryz.f53) fun hw hs=>?_;repeat'((conv=>whnf);first|apply fD|apply aI)
 all_goals try conv=>whnf
 all_goals try(refine ae.mk ?_;try dsimp only)
 . exact by simpa using hc
 . refine ab.mk [] ?_<;>(repeat' first|trivial)
theorem Wl(b:Bool) (hp:True) (hc:b=false):j6 53 ([.bool b]) ([]) (.iface 57 (.int .i64 9)) (none):=by
 refine je (C:=cx []) (ak trivial) (fn:=Tryz.f53) rfl rfl rfl rfl fun hw hs=>?_;repeat'((conv=>whnf);first|apply af|apply fD)
 all_goals try conv=>whnf
 all_goals try(refine ae.mk ?_;try dsimp only)
 . rw[hc];rfl
 . (refine bI.mk [] ?_<;>(repeat' first|trivial|rfl|apply ah);done)
def tZ:dL:=fun args σ=>match args,σ with
 |[.bool b],[]=>some (True,b=false,.iface 57 (.int .i64 9),none,.tuple [],none)
 |_,_=>none
theorem yF:dR 53 (tZ):=by
 intro args sg pre c u r x r2 he hp;unfold tZ at he;split at he<;>cases he
 . exact⟨fun hc=>⟨_,rfl,Wl (hp:=hp) (hc:=hc) ..⟩,fun hc=>RJ (hp:=hp) (hc:=hc) ..⟩
def cE(l:List V):Prop:=(fE l/\gp (al l))/\∀x∈al l,x.t.length<=1000000
theorem RI(c:Bool) (l:List V) (q:Int) (key:g8) (hp:cE l) (hc:¬(aW (al l) q key≠0)):OK 52 ([.agg [.list c 4 l,.int .i64 q],.str key]) ([]) (.tuple [.str (aU (al l) q key),.bool (bh (al l) q key)]) (none):=by
 refine ai (C:=gy [(108,zP)] [(55,iL)]) (gW ⟨JT,trivial⟩ ⟨jb,trivial⟩) (fn:=Tryz.f52) fun hw hs=>?_;repeat'((conv=>whnf);first|with_reducible refine cK ?_ (fun h=>?_) fun h=>?_|apply af)
 all_goals try conv=>whnf
 all_goals try(refine ae.mk ?_;try dsimp only)
 . exact hp.1
 . exact hc (by assumption)
 . refine ab.mk [] ?_<;>(repeat' first|trivial)
theorem Wj(c:Bool) (l:List V) (q:Int) (key:g8) (hp:cE l) (hc:aW (al l) q key≠0):j6 52 ([.agg [.list c 4 l,.int .i64 q],.str key]) ([]) (.iface 57 (.int .i64 (aW (al l) q key))) (none):=by
 refine je (C:=gy [(108,zP)] [(55,iL)]) (gW ⟨JT,trivial⟩ ⟨jb,trivial⟩) (fn:=Tryz.f52) rfl rfl rfl rfl fun hw hs=>?_;repeat'((conv=>whnf);first|with_reducible refine cK ?_ (fun h=>?_) fun h=>?_|apply af)
 all_goals try conv=>whnf
 all_goals try(refine ae.mk ?_;try dsimp only)
 . exact hp.1
 . rfl
 . (refine bI.mk [] ?_<;>(repeat' first|trivial|rfl|apply ah);done)
 . exact absurd hc (by assumption)
def mg:dL:=fun args σ=>match args,σ with
 |[.agg [.list c 4 l,.int .i64 q],.str key],[]=>some (cE l,aW (al l) q key≠0,.iface 57 (.int .i64 (aW (al l) q key)),none,.tuple [.str (aU (al l) q key),.bool (bh (al l) q key)],none)
 |_,_=>none
theorem nC:dR 52 (mg):=by
 intro args sg pre c u r x r2 he hp;unfold mg at he;split at he<;>cases he
 . exact⟨fun hc=>⟨_,rfl,Wj (hp:=hp) (hc:=hc) ..⟩,fun hc=>RI (hp:=hp) (hc:=hc) ..⟩
theorem RM(c:Bool) (l:List V) (q:Int) (key:g8) (hp:cE l) (hc:¬(cj (al l) q key≠0)):OK 58 ([.agg [.list c 4 l,.int .i64 q],.str key]) ([]) (.tuple [.int .i64 (iP (al l) q key),.bool (oa (al l) q key)]) (none):=by
 refine ai (C:=gy [(111,zQ)] [(55,iL)]) (gW ⟨JU,trivial⟩ ⟨jb,trivial⟩) (fn:=Tryz.f58) fun hw hs=>?_;repeat'((conv=>whnf);first|with_reducible refine cK ?_ (fun h=>?_) fun h=>?_|apply af)
 all_goals try conv=>whnf
 all_goals try(refine ae.mk ?_;try dsimp only)
 . exact hp.1
 . exact hc (by assumption)
 . refine ab.mk [] ?_<;>(repeat' first|trivial)
theorem Wn(c:Bool) (l:List V) (q:Int) (key:g8) (hp:cE l) (hc:cj (al l) q key≠0):j6 58 ([.agg [.list c 4 l,.int .i64 q],.str key]) ([]) (.iface 57 (.int .i64 (cj (al l) q key))) (none):=by
 refine je (C:=gy [(111,zQ)] [(55,iL)]) (gW ⟨JU,trivial⟩ ⟨jb,trivial⟩) (fn:=Tryz.f58) rfl rfl rfl rfl fun hw hs=>?_;repeat'((conv=>whnf);first|with_reducible refine cK ?_ (fun h=>?_) fun h=>?_|apply af)
 all_goals try conv=>whnf
 all_goals try(refine ae.mk ?_;try dsimp only)
 . exact hp.1
 . rfl
 . (refine bI.mk [] ?_<;>(repeat' first|trivial|rfl|apply ah);done)
 . exact absurd hc (by assumption)
def u0:dL:=fun args σ=>match args,σ with
 |[.agg [.list c 4 l,.int .i64 q],.str key],[]=>some (cE l,cj (al l) q key≠0,.iface 57 (.int .i64 (cj (al l) q key)),none,.tuple [.int .i64 (iP (al l) q key),.bool (oa (al l) q key)],none)
 |_,_=>none
theorem yG:dR 58 (u0):=by
 intro args sg pre c u r x r2 he hp;unfold u0 at he;split at he<;>cases he
 . exact⟨fun hc=>⟨_,rfl,Wn (hp:=hp) (hc:=hc) ..⟩,fun hc=>RM (hp:=hp) (hc:=hc) ..⟩
theorem qi{l:List V} (h:cE l) (q:Int) (key:Ky):(aU (al l) q key).length<=1000000:=by
 unfold aU qT;rcases tW (al l) q key 115 115 with e|e
 . rw[if_pos (by omega)];exact ci _
 . rw[if_neg (by omega)];refine h.2 _ ?_;rw[ac,am (by omega)];exact List.getElem_mem _
theorem uJ{L:List Nd} {q:Int} {key:Ky} (h:(bp L q key 115 115).1>=0):bh L q key=true:=decide_eq_true h
theorem AV{L:List Nd} {q:Int} {key:Ky} (h:¬(bp L q key 115 115).1>=0):bh L q key=false:=decide_eq_false h
theorem zi_1{L:List Nd} {q:Int} {key:Ky} (h:aW L q key≠0):eG L q key=aW L q key:=if_pos h
theorem GA{L:List Nd} {q:Int} {key:Ky} (h:¬aW L q key≠0) (hb:bh L q key=true):eG L q key=(cW (aU L q key)).1:=by
 unfold eG;rw[dV,if_neg h,dV,lZ,if_pos hb];split<;>omega
theorem GB{L:List Nd} {q:Int} {key:Ky} (h:¬aW L q key≠0) (hb:bh L q key=false):eG L q key=0:=by
 unfold eG;rw[dV,if_neg h,dV,lZ,hb];rfl
theorem AR{L:List Nd} {q:Int} {key:Ky} (h:(bp L q key 123 123).1>=0):jl L q key=true:=decide_eq_true h
theorem GP{L:List Nd} {q:Int} {key:Ky} (h:¬(bp L q key 123 123).1>=0):jl L q key=false:=decide_eq_false h
theorem Rv(c:Bool) (l:List V) (q:Int) (key:g8) (hp:cE l) (hc:¬(eG (al l) q key≠0)):OK 56 ([.agg [.list c 4 l,.int .i64 q],.str key]) ([]) (.tuple [.agg (lJ (j4 (al l) q key)),.bool (bh (al l) q key)]) (none):=by
 refine ai (C:=gy [(110,zK)] [(55,iL),(52,mg)]) (gW ⟨JO,trivial⟩ ⟨jb,nC,trivial⟩) (fn:=Tryz.f56) fun hw hs=>?_;have hl:=qi hp q key;repeat'((conv=>whnf);first|with_reducible refine cK ?_ (fun h=>?_) fun h=>?_|apply af|apply aI|(apply aj<;>intro h))
 all_goals try conv=>whnf
 all_goals try(refine ae.mk ?_;try dsimp only)
 all_goals try first
  |exact hp
  |exact hl
 . exact hc (by rw[zi_1 (by assumption)];assumption)
 . exact hc (by rw[GA (by assumption) (uJ (by assumption))];assumption)
 . rw[show j4 (al l) q key=(cW (aU (al l) q key)).2 from if_pos (uJ (by assumption)),uJ (by assumption)];refine ab.mk [] ?_<;>(repeat' first|trivial)
 . rw[show j4 (al l) q key=[] from if_neg (by rw[AV (by assumption)];exact Bool.false_ne_true),AV (by assumption)];refine ab.mk [] ?_<;>(repeat' first|trivial)
theorem Wd(c:Bool) (l:List V) (q:Int) (key:g8) (hp:cE l) (hc:eG (al l) q key≠0):j6 56 ([.agg [.list c 4 l,.int .i64 q],.str key]) ([]) (.iface 57 (.int .i64 (eG (al l) q key))) (none):=by
 refine je (C:=gy [(110,zK)] [(55,iL),(52,mg)]) (gW ⟨JO,trivial⟩ ⟨jb,nC,trivial⟩) (fn:=Tryz.f56) rfl rfl rfl rfl fun hw hs=>?_;have hl:=qi hp q key;repeat'((conv=>whnf);first|with_reducible refine cK ?_ (fun h=>?_) fun h=>?_|apply af|apply fD|apply aI)
 all_goals try conv=>whnf
 all_goals try(refine ae.mk ?_;try dsimp only)
 all_goals try first
  |exact hp
  |exact hl
 . rw[zi_1 (by assumption)]
 . (refine bI.mk [] ?_<;>(repeat' first|trivial|rfl|apply ah);done)
 . cases hB:bh (al l) q key with
   |true=>rfl
   |false=>exact absurd (GB (by assumption) hB) hc
 . have hB:bh (al l) q key=true:=by
     cases hB:bh (al l) q key with
     |true=>rfl
     |false=>exact absurd (GB (by assumption) hB) hc
   rw[GA (by assumption) hB]
 . (refine bI.mk [] ?_<;>(repeat' first|trivial|rfl|apply ah);done)
 . have hB:bh (al l) q key=true:=by
     cases hB:bh (al l) q key with
     |true=>rfl
     |false=>exact absurd (GB (by assumption) hB) hc
   rw[GA (by assumption) hB] at hc;exact hc (Decidable.not_not.1 (by assumption))
def zg:dL:=fun args σ=>match args,σ with
 |[.agg [.list c 4 l,.int .i64 q],.str key],[]=>some (cE l,eG (al l) q key≠0,.iface 57 (.int .i64 (eG (al l) q key)),none,.tuple [.agg (lJ (j4 (al l) q key)),.bool (bh (al l) q key)],none)
 |_,_=>none
theorem KA:dR 56 (zg):=by
 intro args sg pre c u r x r2 he hp;unfold zg at he;split at he<;>cases he
 . exact⟨fun hc=>⟨_,rfl,Wd (hp:=hp) (hc:=hc) ..⟩,fun hc=>Rv (hp:=hp) (hc:=hc) ..⟩
theorem Iy(hp:True):OK 57 ([.int .i64 2]) ([]) (.str rW) (none):=by
 refine ai (C:=cx []) (ak trivial) (fn:=Tryz.f57) fun hw hs=>?_;all_goals try conv=>whnf
 all_goals try(refine ae.mk ?_;try dsimp only)
 refine ab.mk [] ?_<;>(repeat' first|trivial)
theorem Iz(hp:True):OK 57 ([.int .i64 3]) ([]) (.str rS) (none):=by
 refine ai (C:=cx []) (ak trivial) (fn:=Tryz.f57) fun hw hs=>?_;all_goals try conv=>whnf
 all_goals try(refine ae.mk ?_;try dsimp only)
 refine ab.mk [] ?_<;>(repeat' first|trivial)
theorem IA(hp:True):OK 57 ([.int .i64 4]) ([]) (.str rV) (none):=by
 refine ai (C:=cx []) (ak trivial) (fn:=Tryz.f57) fun hw hs=>?_;all_goals try conv=>whnf
 all_goals try(refine ae.mk ?_;try dsimp only)
 refine ab.mk [] ?_<;>(repeat' first|trivial)
theorem IB(hp:True):OK 57 ([.int .i64 5]) ([]) (.str rT) (none):=by
 refine ai (C:=cx []) (ak trivial) (fn:=Tryz.f57) fun hw hs=>?_;all_goals try conv=>whnf
 all_goals try(refine ae.mk ?_;try dsimp only)
 refine ab.mk [] ?_<;>(repeat' first|trivial)
def Ap:Sm:=fun args σ=>match args,σ with
 |[.int .i64 2],[]=>some (True,.str rW,none)
 |[.int .i64 3],[]=>some (True,.str rS,none)
 |[.int .i64 4],[]=>some (True,.str rV,none)
 |[.int .i64 5],[]=>some (True,.str rT,none)
 |_,_=>none
theorem Ks:aq 57 Ap:=by
 intro args sg pre x r he hp;unfold Ap at he;split at he<;>cases he
 . exact Iy (hp:=hp) ..
 . exact Iz (hp:=hp) ..
 . exact IA (hp:=hp) ..
 . exact IB (hp:=hp) ..
theorem GC(s:Ky):(gk s=2↔s=rW)/\(gk s=3↔s=rS)/\(gk s=4↔s=rV)/\(gk s=5↔s=rT)/\(gk s=0\/gk s=2\/gk s=3\/gk s=4\/gk s=5):=by
 by_cases h2:s=rW
 . subst h2;decide
 by_cases h3:s=rS
 . subst h3;decide
 by_cases h4:s=rV
 . subst h4;decide
 by_cases h5:s=rT
 . subst h5;decide
 have e:gk s=0:=by unfold gk;rw[if_neg h2,if_neg h3,if_neg h4,if_neg h5]
 rw[e];exact⟨⟨fun q=>by omega,fun q=>absurd q h2⟩,⟨fun q=>by omega,fun q=>absurd q h3⟩,⟨fun q=>by omega,fun q=>absurd q h4⟩,⟨fun q=>by omega,fun q=>absurd q h5⟩,.inl rfl⟩
theorem GD{L:List Nd} {q:Int} (h:aW L q cR≠0):cD L q=aW L q cR:=if_pos h
theorem GF{L:List Nd} {q:Int} (h:¬aW L q cR≠0):cD L q=if bh L q cR=true/\gk (aU L q cR) =0 then 7 else 0:=by
 unfold cD;rw[dV,if_neg h,dV,lZ];split<;>rename_i h<;>first|rfl|omega
theorem zk_b{L:List Nd} {q:Int} (h:bh L q cR=false):jj L q=0:=by
 unfold jj;rw[h];rfl
theorem zk_c{L:List Nd} {q:Int} (h:¬aW L q cR≠0) (hb:bh L q cR=true):(cD L q=if gk (aU L q cR) =0 then 7 else 0)/\jj L q=gk (aU L q cR):=by
 rw[GF h];unfold jj;rw[hb];exact⟨by simp only[true_and],rfl⟩
theorem zk_d{L:List Nd} {q:Int} (h:¬aW L q cR≠0) (hc:cD L q≠0):bh L q cR=true:=by
 cases hB:bh L q cR with
 |true=>rfl
 |false=>rw[GF h,hB] at hc;exact absurd rfl hc
theorem Rw(c:Bool) (l:List V) (q:Int) (hp:cE l) (hc:¬(cD (al l) q≠0)):OK 17 ([.agg [.list c 4 l,.int .i64 q]]) ([]) (.int .i64 (jj (al l) q)) (none):=by
 refine ai (C:=gy [(57,Ap)] [(55,iL),(52,mg)]) (gW ⟨Ks,trivial⟩ ⟨jb,nC,trivial⟩) (fn:=Tryz.f17) fun hw hs=>?_;repeat'((conv=>whnf);first|with_reducible refine cK ?_ (fun h=>?_) fun h=>?_|apply aI|(apply aj<;>intro h))
 all_goals try conv=>whnf
 all_goals try(refine ae.mk ?_;try dsimp only)
 . exact hp
 . exact hc (by rw[GD (by assumption)];assumption)
 . have hb:=uJ (L:=al l) (q:=q) (key:=cR) (by assumption);obtain⟨hE,hV⟩:=zk_c (L:=al l) (q:=q) (by assumption) hb;rw[hE] at hc;have hW:=GC (aU (al l) q cR);refine aM.mk Nat (fun i=>2<=i/\i<=6/\(gk (aU (al l) q cR) =0\/(i:Int)<=gk (aU (al l) q cR))) (fun i=>⟨23,[(3,.str (aU (al l) q cR)),(5,.int .i64 i)],[],[]⟩) (fun i=>6-i) [] 2 ⟨co _,by decide,by omega⟩ ?_ (fun i ⟨h2,h6,hi⟩ _ _=>?_)
   . apply ao<;>(repeat' first|trivial)
   obtain⟨m,hm⟩:∃m,m=i+1:=⟨_,rfl⟩
   have h5:i=2\/i=3\/i=4\/i=5\/i=6:=by omega
   generalize aU (al l) q cR=t at*;have hW0:gk t≠6:=fun q=>by omega
   rcases h5 with rfl|rfl|rfl|rfl|rfl
   all_goals
    repeat'((conv=>whnf);first|with_reducible refine cK ?_ (fun h=>?_) fun h=>?_|apply af|(apply dr<;>intro h))
    all_goals try conv=>whnf
    all_goals try(refine ae.mk ?_;try dsimp only)
    all_goals try
     (refine⟨[],m,⟨by omega,by omega,?_⟩,?_,by omega⟩
      . have hn:¬t=_:=fun q=>absurd q.symm (by assumption);simp only[<-hW.1,<-hW.2.1,<-hW.2.2.1,<-hW.2.2.2.1] at hn;omega
      . subst hm;apply ao<;>(repeat' first|trivial)
        done)
   all_goals skip
   . rw[hV,hW.1.2 (by symm;assumption)];refine ab.mk [] ?_<;>(repeat' first|trivial)
   . rw[hV,hW.2.1.2 (by symm;assumption)];refine ab.mk [] ?_<;>(repeat' first|trivial)
   . rw[hV,hW.2.2.1.2 (by symm;assumption)];refine ab.mk [] ?_<;>(repeat' first|trivial)
   . rw[hV,hW.2.2.2.1.2 (by symm;assumption)];refine ab.mk [] ?_<;>(repeat' first|trivial)
   . exact hc (by rw[if_pos (by omega)];decide)
   . exact absurd (by decide) ‹¬(7:Int)≠0›
 . rw[zk_b (AV (by assumption))];refine ab.mk [] ?_<;>(repeat' first|trivial)
theorem We(c:Bool) (l:List V) (q:Int) (hp:cE l) (hc:cD (al l) q≠0):j6 17 ([.agg [.list c 4 l,.int .i64 q]]) ([]) (.iface 57 (.int .i64 (cD (al l) q))) (none):=by
 refine je (C:=gy [(57,Ap)] [(55,iL),(52,mg)]) (gW ⟨Ks,trivial⟩ ⟨jb,nC,trivial⟩) (fn:=Tryz.f17) rfl rfl rfl rfl fun hw hs=>?_;repeat'((conv=>whnf);first|with_reducible refine cK ?_ (fun h=>?_) fun h=>?_|apply af|apply fD|apply aI)
 all_goals try conv=>whnf
 all_goals try(refine ae.mk ?_;try dsimp only)
 . exact hp
 . rw[GD (by assumption)]
 . (refine bI.mk [] ?_<;>(repeat' first|trivial|rfl|apply ah);done)
 . exact zk_d (by assumption) hc
 . have hb:=zk_d (by assumption) hc;obtain⟨hE,hV⟩:=zk_c (L:=al l) (q:=q) (by assumption) hb;rw[hE] at hc;have hW:=GC (aU (al l) q cR);refine aM.mk Nat (fun i=>2<=i/\i<=6/\(gk (aU (al l) q cR) =0\/(i:Int)<=gk (aU (al l) q cR))) (fun i=>⟨23,[(3,.str (aU (al l) q cR)),(5,.int .i64 i)],[],[]⟩) (fun i=>6-i) [] 2 ⟨co _,by decide,by omega⟩ ?_ (fun i ⟨h2,h6,hi⟩ _ _=>?_)
   . apply ao<;>(repeat' first|trivial)
   obtain⟨m,hm⟩:∃m,m=i+1:=⟨_,rfl⟩
   have h5:i=2\/i=3\/i=4\/i=5\/i=6:=by omega
   generalize aU (al l) q cR=t at*;have hW0:gk t≠6:=fun q=>by omega
   rcases h5 with rfl|rfl|rfl|rfl|rfl
   all_goals
    repeat'((conv=>whnf);first|with_reducible refine cK ?_ (fun h=>?_) fun h=>?_|apply af|(apply dr<;>intro h))
    all_goals try conv=>whnf
    all_goals try(refine ae.mk ?_;try dsimp only)
    all_goals try
     (refine⟨[],m,⟨by omega,by omega,?_⟩,?_,by omega⟩
      . have hn:¬t=_:=fun q=>absurd q.symm (by assumption);simp only[<-hW.1,<-hW.2.1,<-hW.2.2.1,<-hW.2.2.2.1] at hn;omega
      . subst hm;apply ao<;>(repeat' first|trivial)
        done)
   all_goals skip
   . exact hc (if_neg (by rw[hW.1.2 (by symm;assumption)];decide))
   . exact hc (if_neg (by rw[hW.2.1.2 (by symm;assumption)];decide))
   . exact hc (if_neg (by rw[hW.2.2.1.2 (by symm;assumption)];decide))
   . exact hc (if_neg (by rw[hW.2.2.2.1.2 (by symm;assumption)];decide))
   . rw[hE,if_pos (by omega)]
   . (refine bI.mk [] ?_<;>(repeat' first|trivial|rfl|apply ah);done)
   . exact absurd (by decide) ‹¬(7:Int)≠0›
def Dj:dL:=fun args σ=>match args,σ with
 |[.agg [.list c 4 l,.int .i64 q]],[]=>some (cE l,cD (al l) q≠0,.iface 57 (.int .i64 (cD (al l) q)),none,.int .i64 (jj (al l) q),none)
 |_,_=>none
theorem UQ:dR 17 (Dj):=by
 intro args sg pre c u r x r2 he hp;unfold Dj at he;split at he<;>cases he
 . exact⟨fun hc=>⟨_,rfl,We (hp:=hp) (hc:=hc) ..⟩,fun hc=>Rw (hp:=hp) (hc:=hc) ..⟩
abbrev sO(a:az):V:=.agg [.str a.key,.int .u8 1,.str a.value.text,.int .i64 0,.int .u64 0,.list true 0 [],.list true 0 []]
def uv:Sm:=fun args σ=>match args,σ with
 |[.str t],[]=>some (True,.agg [.int .u8 1,.str t,.int .i64 0,.int .u64 0,.list true 0 [],.list true 0 []],none)
 |_,_=>none
theorem yy:aq 25 uv:=by
 intro args sg pre x r he hp;unfold uv at he;split at he<;>cases he
 . rename_i t;refine ai (C:=cx []) (ak trivial) (fn:=Tryz.f25) fun hw hs=>?_;all_goals try conv=>whnf
   all_goals try(refine ae.mk ?_;try dsimp only)
   refine ab.mk [] ?_<;>(repeat' first|trivial)
section
variable {L:List Nd} {q:Int} {k:Nat}
theorem G8{ks:List Nat} {i:Nat} (h:i<ks.length):j0 L (ks.drop i) =if ie L (ks.getD i default)≠0 then ie L (ks.getD i default) else j0 L (ks.drop (i+1)):=by
 rw[List.drop_eq_getElem_cons h,j0,dV,dV,lZ,ac,am h];show(if ie L ks[i]≠0 then _ else _) =(if ie L ks[i]≠0 then _ else _);split
 . rfl
 . split<;>omega
theorem G7{ks:List Nat} {i:Nat} (h:i<ks.length):(ks.take (i+1)).map (eV L) =(ks.take i).map (eV L)++[eV L (ks.getD i default)]:=by
 rw[rO (d:=default) h,gq];rfl
theorem tg_lt{L:List Nd} {ks:List Nat} {i:Nat} (hc:j0 L ks≠0) (he:j0 L ks=j0 L (ks.drop i)):i<ks.length:=by
 rcases eg i ks.length with h|h
 . exact h
 . rw[List.drop_eq_nil_of_le h] at he;exact absurd he hc
theorem Gx(h:jz L q bH≠0):gj L q=jz L q bH:=if_pos h
theorem xn(h:¬jz L q bH≠0):gj L q=j0 L (eF L q):=by
 unfold gj;rw[dV,if_neg h,dV,lZ];split<;>omega
theorem AO(hb:jl L q bH=true):eF L q=bA L (cB L q bH):=if_pos hb
theorem Gy(hb:jl L q bH=false):eF L q=[]:=if_neg (by rw[hb];exact Bool.false_ne_true)
theorem J2(ks:List Nat):iX (ks.map (eV L)) =ks.length:=by
 induction ks with
 |nil=>rfl
 |cons k r ih=>
   rw[List.map_cons,iX,ih,List.length_cons];show 1+0+0+_=_;omega
theorem J1(ks:List Nat):mN (.list false 7 ((ks.map (eV L)).map sO))/\kN (.list false 7 ((ks.map (eV L)).map sO)) =ks.map (eV L):=by
 have hd:bJ ((ks.map (eV L)).map sO) =ks.map (eV L):=by
  induction ks with
  |nil=>rfl
  |cons k r ih=>
    rw[List.map_cons,List.map_cons,bJ,ih];rfl
 refine⟨?_,hd⟩;unfold mN;rw[show kN (.list false 7 ((ks.map (eV L)).map sO)) =ks.map (eV L) from hd];refine Wk.list (.inr rfl) (by rw[cY,aB,aB,aB]) fun i x y hx hy=>?_;rw[jF,List.map_map,List.getElem?_map] at hy;rw[List.map_map,List.getElem?_map] at hx;cases hk:ks[i]? with
 |none=>rw[hk] at hx;cases hx
 |some k=>
   rw[hk] at hx hy;cases hx;cases hy;exact Wk.agg (aP.cons (Wk.refl _) (aP.cons (Wk.refl _) (aP.cons (Wk.refl _) (aP.cons (Wk.refl _) (aP.cons (Wk.refl _) (aP.cons (Wk.nil (.inl rfl)) (aP.cons (Wk.nil (.inl rfl)) aP.nil)))))))
end
theorem RH(c:Bool) (l:List V) (q:Int) (hp:cE l/\(al l).length<=10000) (hc:¬(gj (al l) q≠0)):OK 21 ([.agg [.list c 4 l,.int .i64 q]]) ([]) (.list false 7 (aS (fF (al l) q))) (none):=by
 refine ai (C:=cxr [(60,ui),(63,uu),(25,uv),(64,EW)] [(55,iL)] [(13,[.bL 3])]) (yb ⟨ym,yx,yy,K9,trivial⟩ ⟨jb,trivial⟩) (fn:=Tryz.f21) fun hw hs=>?_;obtain⟨hp,hL⟩:=hp;obtain⟨L,rfl,eL⟩:=jQ hp.1.1;have hml:(L.map aN).length=L.length:=aB _;rw[eL] at hL;have hok:fE (L.map aN)/\gp L:=⟨mc,by have:=hp.1.2;rw[eL] at this;exact this⟩
 repeat'((conv=>whnf);first|with_reducible refine cK ?_ (fun h=>?_) fun h=>?_|apply af|apply aI|(apply aj<;>intro h))
 all_goals try conv=>whnf
 all_goals try(refine ae.mk ?_;try dsimp only)
 all_goals (try simp only[bX,List.toList_toArray] at*)
 . exact hok
 . exact hc (by rw[Gx (by assumption)];assumption)
 . exact hok
 . have hb:=AR (L:=L) (q:=q) (key:=bH) (by assumption);have hz:=xn (L:=L) (q:=q) (by assumption);rw[hz,AO hb] at hc;have hv:fF L q=dz ((bA L (cB L q bH)).map (eV L)) []:=by unfold fF;rw[AO hb]
   rw[hv];have hkm:∀i,i<(bA L (cB L q bH)).length->(bA L (cB L q bH)).getD i default<L.length:=fun i h=>by
    rw[ac,am h];exact re (List.getElem_mem h)
   have hkb:=rb L (cB L q bH);have hkl:((bA L (cB L q bH)).map nI).length=(bA L (cB L q bH)).length:=aB _;refine aM.mk Nat (fun i=>i<=(bA L (cB L q bH)).length/\j0 L (bA L (cB L q bH)) =j0 L ((bA L (cB L q bH)).drop i)) (fun i=>⟨56,[(1,.ptr 0 0),(4,.buf 3),(22,.buf 2),(23,.int .i64 (bA L (cB L q bH)).length),(24,.int .i64 i)],[.cells [.list c 4 (L.map aN),.int .i64 q],.dead,.buf 1 0 ((bA L (cB L q bH)).map nI),.buf 7 0 ((((bA L (cB L q bH)).take i).map (eV L)).map sO)],[3]⟩) (fun i=>(bA L (cB L q bH)).length-i) [.tm 4 7] 0 ⟨ci _,rfl⟩ ?_ (fun i ⟨hi,he⟩ _ _=>?_)
   . apply ao<;>(repeat' first|trivial|apply ah|apply aC)
     exact congrArg Nat.cast hkl
   have hst:=G8 (L:=L) (ks:=bA L (cB L q bH)) (i:=i);have hsn:=G7 (L:=L) (ks:=bA L (cB L q bH)) (i:=i);have hkk:=hkm i;have hgm:=J1 (L:=L) (bA L (cB L q bH));have hgn:=J2 (L:=L) (bA L (cB L q bH))
   skip
   generalize bA L (cB L q bH) =ks at*;repeat'((conv=>whnf);first|with_reducible refine cK ?_ (fun h=>?_) fun h=>?_|apply af|apply aI|(apply aj<;>intro h)|with_reducible apply j9)
   all_goals try conv=>whnf
   all_goals try(refine ae.mk ?_;try dsimp only)
   all_goals (try simp only[bX,List.toList_toArray,hkl,Int.toNat_natCast] at*)
   all_goals generalize ks.getD i default=k at*
   all_goals first|refine stay ?_|trivial|omega|(simp(discharger:=omega) [-List.getD_eq_getElem?_getD,wR]<;>omega)|skip
   all_goals try exact absurd (by decide) ‹¬(7:Int)≠0›
   . have h115:ie L k=0:=if_neg (by omega);refine⟨[],i+1,⟨by omega,by rw[he,hst (by omega),if_neg (by rw[h115];exact fun z=>z rfl)]⟩,?_,by omega⟩;rw[hsn (by omega)];apply ao<;>(repeat' first|trivial|apply ah|apply aC|apply bg)
     all_goals first
      |(rw[bz];omega)
      |(rw[gq];rfl)
   . have h115:ie L k=7:=if_pos (by omega);exact hc (by rw[he,hst (by omega),h115,if_pos (by decide)];decide)
   . obtain rfl:i=ks.length:=by omega
     rw[List.take_length];exact⟨hgm.1,by rw[hgm.2,hgn];omega⟩
   . obtain rfl:i=ks.length:=by omega
     rw[List.take_length];rw[hgm.2];refine ab.mk [] ?_<;>(repeat' first|trivial)
 . have hv:fF L q=[]:=by unfold fF;rw[Gy (GP (by assumption))];rfl
   rw[hv];refine ab.mk [.tm 2 7,.bL 2] ?_<;>(repeat' first|trivial)
theorem Wi(c:Bool) (l:List V) (q:Int) (hp:cE l/\(al l).length<=10000) (hc:gj (al l) q≠0):j6 21 ([.agg [.list c 4 l,.int .i64 q]]) ([]) (.iface 57 (.int .i64 (gj (al l) q))) (none):=by
 refine je (C:=cxr [(60,ui),(63,uu),(25,uv),(64,EW)] [(55,iL)] [(13,[.bL 3])]) (yb ⟨ym,yx,yy,K9,trivial⟩ ⟨jb,trivial⟩) (fn:=Tryz.f21) rfl rfl rfl rfl fun hw hs=>?_;obtain⟨hp,hL⟩:=hp;obtain⟨L,rfl,eL⟩:=jQ hp.1.1;have hml:(L.map aN).length=L.length:=aB _;rw[eL] at hL;have hok:fE (L.map aN)/\gp L:=⟨mc,by have:=hp.1.2;rw[eL] at this;exact this⟩
 repeat'((conv=>whnf);first|with_reducible refine cK ?_ (fun h=>?_) fun h=>?_|apply af|apply fD|apply aI)
 all_goals try conv=>whnf
 all_goals try(refine ae.mk ?_;try dsimp only)
 all_goals (try simp only[bX,List.toList_toArray] at*)
 . exact hok
 . rw[Gx (by assumption)];rfl
 . (refine bI.mk [] ?_<;>(repeat' first|trivial|rfl|apply ah);done)
 . refine decide_eq_true (show _>=_ from ?_);have hb:jl L q bH=true:=by
    cases hB:jl L q bH with
    |true=>rfl
    |false=>rw[xn (by assumption),Gy hB] at hc;exact absurd rfl hc
   exact of_decide_eq_true hb
 . exact hok
 . have hb:jl L q bH=true:=by
     cases hB:jl L q bH with
     |true=>rfl
     |false=>rw[xn (by assumption),Gy hB] at hc;exact absurd rfl hc
   have hz:=xn (L:=L) (q:=q) (by assumption);rw[hz,AO hb] at hc;have hpe:∀{k:Nat} {v w:Int},j0 L (bA L (cB L q bH)) =v->(v=if ie L k≠0 then ie L k else w)->ie L k≠0->gj L q=ie L k:=fun a b z=>by rw[hz,AO hb,a,b,if_pos z]
   have hkm:∀i,i<(bA L (cB L q bH)).length->(bA L (cB L q bH)).getD i default<L.length:=fun i h=>by
    rw[ac,am h];exact re (List.getElem_mem h)
   have hkb:=rb L (cB L q bH);have hkl:((bA L (cB L q bH)).map nI).length=(bA L (cB L q bH)).length:=aB _;refine aM.mk Nat (fun i=>i<=(bA L (cB L q bH)).length/\j0 L (bA L (cB L q bH)) =j0 L ((bA L (cB L q bH)).drop i)) (fun i=>⟨56,[(1,.ptr 0 0),(4,.buf 3),(22,.buf 2),(23,.int .i64 (bA L (cB L q bH)).length),(24,.int .i64 i)],[.cells [.list c 4 (L.map aN),.int .i64 q],.dead,.buf 1 0 ((bA L (cB L q bH)).map nI),.buf 7 0 ((((bA L (cB L q bH)).take i).map (eV L)).map sO)],[3]⟩) (fun i=>(bA L (cB L q bH)).length-i) [.tm 4 7] 0 ⟨ci _,rfl⟩ ?_ (fun i ⟨hi,he⟩ _ _=>?_)
   . apply ao<;>(repeat' first|trivial|apply ah|apply aC)
     exact congrArg Nat.cast hkl
   have hst:=G8 (L:=L) (ks:=bA L (cB L q bH)) (i:=i);have hsn:=G7 (L:=L) (ks:=bA L (cB L q bH)) (i:=i);have hkk:=hkm i;have hgm:=J1 (L:=L) (bA L (cB L q bH));have hgn:=J2 (L:=L) (bA L (cB L q bH))
   (have hlt:=tg_lt hc he)
   generalize bA L (cB L q bH) =ks at*;repeat'((conv=>whnf);first|with_reducible refine cK ?_ (fun h=>?_) fun h=>?_|apply af|apply aI|(apply aj<;>intro h)|with_reducible apply j9)
   all_goals try conv=>whnf
   all_goals try(refine ae.mk ?_;try dsimp only)
   all_goals (try simp only[bX,List.toList_toArray,hkl,Int.toNat_natCast] at*)
   all_goals generalize ks.getD i default=k at*
   all_goals first|refine stay ?_|trivial|omega|(simp(discharger:=omega) [-List.getD_eq_getElem?_getD,wR]<;>omega)|skip
   all_goals try exact absurd (by decide) ‹¬(7:Int)≠0›
   . have h115:ie L k=0:=if_neg (by omega);refine⟨[],i+1,⟨by omega,by rw[he,hst hlt,if_neg (by rw[h115];exact fun z=>z rfl)]⟩,?_,by omega⟩;rw[hsn hlt];apply ao<;>(repeat' first|trivial|apply ah|apply aC|apply bg)
     all_goals first
      |(rw[bz];omega)
      |(rw[gq];rfl)
   . have h115:ie L k=7:=if_pos (by omega);rw[hpe he (hst hlt) (by rw[h115];decide),h115]
   . (refine bI.mk [] ?_<;>(repeat' first|trivial|rfl|apply ah);done)
   . exact absurd hlt (by omega)
def Dm:dL:=fun args σ=>match args,σ with
 |[.agg [.list c 4 l,.int .i64 q]],[]=>some (cE l/\(al l).length<=10000,gj (al l) q≠0,.iface 57 (.int .i64 (gj (al l) q)),none,.list false 7 (aS (fF (al l) q)),none)
 |_,_=>none
theorem UT:dR 21 (Dm):=by
 intro args sg pre c u r x r2 he hp;unfold Dm at he;split at he<;>cases he
 . exact⟨fun hc=>⟨_,rfl,Wi (hp:=hp) (hc:=hc) ..⟩,fun hc=>RH (hp:=hp) (hc:=hc) ..⟩
end Go.Proofs.YtknljebcgcmaeaaGreatDoor
