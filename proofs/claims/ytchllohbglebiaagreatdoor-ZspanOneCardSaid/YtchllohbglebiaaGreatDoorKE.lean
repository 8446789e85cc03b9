/-
  A part of the proof.
-/
import Derived.Test.YtchllohbglebiaaGreatDoorKD
import Derived.Test.YtchllohbglebiaaGreatDoorJNw
set_option linter.unusedSimpArgs false
set_option linter.unusedVariables false
set_option maxHeartbeats 4000000
set_option maxRecDepth 100000
namespace Go.Proofs.YtchllohbglebiaaGreatDoor
open Go Go.VG
def gD(l:gA):Nat:=l.foldl (fun n b=>min 1099511627776 (10*n+(b.toNat-48))) 0
theorem Hw(s:gA) (b:UInt8):gD (s++[b]) =min 1099511627776 (10*gD s+(b.toNat-48)):=by unfold gD;rw[List.foldl_append];rfl
theorem yw(s:gA):gD s<=1099511627776:=by
 rcases List.eq_nil_or_concat s with rfl|⟨t,b,rfl⟩
 . decide
 . rw[List.concat_eq_append,Hw];exact Nat.min_le_left _ _
theorem Cb{s:gA} {i:Nat} (hi:i<s.length):gD (s.take (i+1)) =min 1099511627776 (10*gD (s.take i)+((s.getD i 0).toNat-48)):=by rw[sM hi,Hw]
def iJ(p:gA):Int:=if(p.getD 0 0).toNat=45 then-(gD (p.filter bq):Int) else gD (p.filter bq)
def ya(p:gA):Prop:=∃g ds,p=g++ds/\(g=[]\/g=[43]\/g=[45])/\ds≠[]/\aY ds
theorem CG{l:gA} (h:aY l):l.filter bq=l:=List.filter_eq_self.2 h
theorem X6{p:gA} (h:ya p):0<p.length/\
   ((((p.getD 0 0).toNat=45\/(p.getD 0 0).toNat=43)/\aY (p.drop 1)/\p.filter bq=p.drop 1)\/((p.getD 0 0).toNat≠45/\(p.getD 0 0).toNat≠43/\aY p/\p.filter bq=p)):=by
 obtain⟨g,ds,rfl,hg,h0,hd⟩:=h;have hl:0<ds.length:=by cases ds;exact absurd rfl h0;simp
 rcases hg with rfl|rfl|rfl
 . have:=mz hd hl;exact⟨hl,.inr ⟨by show(ds.getD 0 0).toNat≠45;omega,by show(ds.getD 0 0).toNat≠43;omega,hd,CG hd⟩⟩
 . refine⟨by simp,.inl ⟨.inr rfl,hd,?_⟩⟩;show(43::ds).filter bq=ds;rw[List.filter_cons_of_neg (by decide),CG hd]
 . refine⟨by simp,.inl ⟨.inl rfl,hd,?_⟩⟩;show(45::ds).filter bq=ds;rw[List.filter_cons_of_neg (by decide),CG hd]
theorem Qw(p:gA) (hp:ya p/\p.length<=100000000):OK 187 ([.str p]) ([]) (.int .i64 (iJ p)) (none):=by
 refine aq (C:=cx []) (ar trivial) (fn:=Tryz.f187) fun hw hs=>?_;obtain⟨hp,hl⟩:=hp;obtain⟨h0,hcs⟩:=X6 hp;have hdl:(p.drop 1).length=p.length-1:=d9;repeat'((conv=>whnf);first|apply af|(apply av<;>intro h)|with_reducible refine lG ?_ fun hc=>?_)
 all_goals try conv=>whnf
 all_goals try(refine ae.mk ?_;try dsimp only)
 all_goals (try simp only[aV,gM,gN] at*)
 all_goals first|refine stay ?_|trivial|omega|skip
 . obtain⟨_,k1,k2⟩:=hcs.resolve_right fun k=>k.1 (by omega);have hd:aY (p.drop 1):=k1;have ef:p.filter bq=p.drop 1:=k2;refine aZ.mk Nat (fun i=>i<=(p.drop 1).length) (fun i=>⟨38,[(0,.str (p.drop 1)),(3,.bool (((p.getD 0 0).toNat:Int)==45)),(4,.int .i64 (gD ((p.drop 1).take i))),(20,.int .i64 (p.drop 1).length),(21,.int .i64 i)],[],[]⟩) (fun i=>(p.drop 1).length-i) [] 0 (bu _) ?_ (fun i hle _ _=>?_)
   . apply ay<;>(repeat' first|trivial)
   have hb:=fun h=>mz hd (i:=i) h;have hn:=fun h=>Cb (s:=p.drop 1) (i:=i) h;have hcl:=yw ((p.drop 1).take i);repeat'((conv=>whnf);first|apply af|(apply av<;>intro h)|with_reducible refine fG ?_ fun hc=>?_)
   all_goals try conv=>whnf
   all_goals try(refine ae.mk ?_;try dsimp only)
   all_goals (try simp only[aV,gM,gN] at*)
   all_goals first|refine stay ?_|omega|skip
   . refine⟨[],i+1,by omega,?_,by omega⟩;have hb:=hb (by omega);have hn:=hn (by omega);apply ay<;>(repeat' first|trivial|apply ah|apply aN)
     all_goals first
      | (rw [w8 hb,wI (n:=(((p.drop 1).getD i 0).toNat - 48:Nat)) (by omega) (by omega),wI (n:=10 * (gD ((p.drop 1).take i):Int)) (by omega) (by omega),wI (n:=10 * (gD ((p.drop 1).take i):Int) + (((p.drop 1).getD i 0).toNat - 48:Nat)) (by omega) (by omega),hn]
         split<;>omega)
      |(simp(discharger:=omega) only[wR];omega)
   . rw[show iJ p=-(gD (p.filter bq):Int) by unfold iJ;rw[if_pos (by omega)],ef];rw[eo (by omega)] at hcl⊢;refine ab.mk [] ?_<;>(repeat' first|trivial|apply ah|apply aN)
     all_goals (show IntKind.i64.wrap (0-_)=_;rw[Int.zero_sub,bX];omega)
   . rw[show iJ p=(gD (p.filter bq):Int) by unfold iJ;rw[if_neg (by omega)],ef,eo (by omega)];refine ab.mk [] ?_<;>(repeat' first|trivial)
 . obtain⟨_,k1,k2⟩:=hcs.resolve_right fun k=>k.2.1 (by omega);have hd:aY (p.drop 1):=k1;have ef:p.filter bq=p.drop 1:=k2;refine aZ.mk Nat (fun i=>i<=(p.drop 1).length) (fun i=>⟨38,[(0,.str (p.drop 1)),(3,.bool (((p.getD 0 0).toNat:Int)==45)),(4,.int .i64 (gD ((p.drop 1).take i))),(20,.int .i64 (p.drop 1).length),(21,.int .i64 i)],[],[]⟩) (fun i=>(p.drop 1).length-i) [] 0 (bu _) ?_ (fun i hle _ _=>?_)
   . apply ay<;>(repeat' first|trivial)
   have hb:=fun h=>mz hd (i:=i) h;have hn:=fun h=>Cb (s:=p.drop 1) (i:=i) h;have hcl:=yw ((p.drop 1).take i);repeat'((conv=>whnf);first|apply af|(apply av<;>intro h)|with_reducible refine fG ?_ fun hc=>?_)
   all_goals try conv=>whnf
   all_goals try(refine ae.mk ?_;try dsimp only)
   all_goals (try simp only[aV,gM,gN] at*)
   all_goals first|refine stay ?_|omega|skip
   . refine⟨[],i+1,by omega,?_,by omega⟩;have hb:=hb (by omega);have hn:=hn (by omega);apply ay<;>(repeat' first|trivial|apply ah|apply aN)
     all_goals first
      | (rw [w8 hb,wI (n:=(((p.drop 1).getD i 0).toNat - 48:Nat)) (by omega) (by omega),wI (n:=10 * (gD ((p.drop 1).take i):Int)) (by omega) (by omega),wI (n:=10 * (gD ((p.drop 1).take i):Int) + (((p.drop 1).getD i 0).toNat - 48:Nat)) (by omega) (by omega),hn]
         split<;>omega)
      |(simp(discharger:=omega) only[wR];omega)
   . rw[show iJ p=-(gD (p.filter bq):Int) by unfold iJ;rw[if_pos (by omega)],ef];rw[eo (by omega)] at hcl⊢;refine ab.mk [] ?_<;>(repeat' first|trivial)
     all_goals (show IntKind.i64.wrap (0-_)=_;rw[Int.zero_sub,bX];omega)
   . rw[show iJ p=(gD (p.filter bq):Int) by unfold iJ;rw[if_neg (by omega)],ef,eo (by omega)];refine ab.mk [] ?_<;>(repeat' first|trivial)
 . obtain⟨_,_,k1,k2⟩:=hcs.resolve_left fun k=>by omega
   have hd:aY (p):=k1;have ef:p.filter bq=p:=k2;refine aZ.mk Nat (fun i=>i<=(p).length) (fun i=>⟨38,[(0,.str (p)),(3,.bool (((p.getD 0 0).toNat:Int)==45)),(4,.int .i64 (gD ((p).take i))),(20,.int .i64 (p).length),(21,.int .i64 i)],[],[]⟩) (fun i=>(p).length-i) [] 0 (bu _) ?_ (fun i hle _ _=>?_)
   . apply ay<;>(repeat' first|trivial)
   have hb:=fun h=>mz hd (i:=i) h;have hn:=fun h=>Cb (s:=p) (i:=i) h;have hcl:=yw ((p).take i);repeat'((conv=>whnf);first|apply af|(apply av<;>intro h)|with_reducible refine fG ?_ fun hc=>?_)
   all_goals try conv=>whnf
   all_goals try(refine ae.mk ?_;try dsimp only)
   all_goals (try simp only[aV,gM,gN] at*)
   all_goals first|refine stay ?_|omega|skip
   . refine⟨[],i+1,by omega,?_,by omega⟩;have hb:=hb (by omega);have hn:=hn (by omega);apply ay<;>(repeat' first|trivial|apply ah|apply aN)
     all_goals first
      | (rw [w8 hb,wI (n:=(((p).getD i 0).toNat - 48:Nat)) (by omega) (by omega),wI (n:=10 * (gD ((p).take i):Int)) (by omega) (by omega),wI (n:=10 * (gD ((p).take i):Int) + (((p).getD i 0).toNat - 48:Nat)) (by omega) (by omega),hn]
         split<;>omega)
      |(simp(discharger:=omega) only[wR];omega)
   . rw[show iJ p=-(gD (p.filter bq):Int) by unfold iJ;rw[if_pos (by omega)],ef];rw[eo (by omega)] at hcl⊢;refine ab.mk [] ?_<;>(repeat' first|trivial)
     all_goals (show IntKind.i64.wrap (0-_)=_;rw[Int.zero_sub,bX];omega)
   . rw[show iJ p=(gD (p.filter bq):Int) by unfold iJ;rw[if_neg (by omega)],ef,eo (by omega)];refine ab.mk [] ?_<;>(repeat' first|trivial)
def F7:Sm:=fun args σ=>match args,σ with
 |[.str p],[]=>some (ya p/\p.length<=100000000,.int .i64 (iJ p),none)
 |_,_=>none
theorem TZ:ax 187 F7:=by
 intro args sg pre x r he hp;unfold F7 at he;split at he<;>cases he
 . exact Qw (hp:=hp) ..
def jP(s:gA):gA:=s.dropWhile (·==48)
theorem Z6{s:gA} (h:s≠[]) (h2:(s.getD 0 0).toNat=48):jP s=jP (s.drop 1):=by
 cases s with
 |nil=>exact absurd rfl h
 |cons b s=>unfold jP;rw[List.dropWhile_cons,if_pos (by rw[show b=48 from UInt8.toNat_inj.1 h2];rfl)];rfl
theorem Gc{s:gA} (h:s=[]\/(s.getD 0 0).toNat≠48):jP s=s:=by
 cases s with
 |nil=>rfl
 |cons b s=>
   rcases h with h|h
   . cases h
   . unfold jP;rw[List.dropWhile_cons,if_neg (by rw[beq_iff_eq];intro e;rw[e] at h;exact h rfl)]
theorem QA(s:gA) (hp:s.length<=100000000):OK 157 ([.str s]) ([]) (.str (jP s)) (none):=by
 refine aq (C:=cx []) (ar trivial) (fn:=Tryz.f157) fun hw hs=>?_;refine aZ.mk gA (fun x=>jP s=jP x/\x.length<=s.length) (fun x=>⟨13,[(0,.str x)],[],[]⟩) (fun x=>x.length) [] s ⟨rfl,cb _⟩ ?_ (fun x ⟨hx,hl⟩ _ _=>?_)
 . apply ay<;>(repeat' first|trivial)
 have hne:x≠[]->0<x.length:=fun h=>by cases x;exact absurd rfl h;simp
 have hdl:(x.drop 1).length=x.length-1:=d9;repeat'((conv=>whnf);first|apply af|apply aK|((first|apply av|apply gI)<;>intro h)|with_reducible refine lG ?_ fun hc=>?_)
 all_goals try conv=>whnf
 all_goals try(refine ae.mk ?_;try dsimp only)
 all_goals (try simp only[aV,gM,gN] at*)
 all_goals first|refine stay ?_|trivial|skip
 . rw[hx,Gc (.inl ‹_›)];refine ab.mk [] ?_<;>(repeat' first|trivial)
 . exact hne ‹_›
 . have:=hne ‹_›;exact⟨by omega,by omega⟩
 . have:=hne ‹_›;refine⟨[],x.drop 1,⟨by rw[hx,Z6 ‹_› (by omega)],by omega⟩,?_,by omega⟩;apply ay<;>(repeat' first|trivial)
 . rw[hx,Gc (.inr (by omega))];refine ab.mk [] ?_<;>(repeat' first|trivial)
def Fa:Sm:=fun args σ=>match args,σ with
 |[.str s],[]=>some (s.length<=100000000,.str (jP s),none)
 |_,_=>none
theorem U2:ax 157 Fa:=by
 intro args sg pre x r he hp;unfold Fa at he;split at he<;>cases he
 . exact QA (hp:=hp) ..
def tJ(e:UInt8) (p:gA):gA:=if p=[] then[] else e::p
def aU(b:gA):gA:=if b=[] then[] else 46::b
structure nP(u w b p:gA) (e:UInt8):Prop where
 eq:u=(w++aU b)++tJ e p
 wd:aY w
 bd:aY b
 he:e.toNat=101\/e.toNat=69
 pd:p=[]\/ya p
theorem p5{a b:gA} {i:Nat} (h:i<a.length):(a++b).getD i 0=a.getD i 0:=by
 rw[ac,ac,dl h]
theorem IU{a b:gA}:(a++b).getD a.length 0=b.getD 0 0:=by
 rw[ac,ac,dt (cb _),Nat.sub_self]
theorem Cq{w b:gA} (hw:aY w) (hb:aY b) {i:Nat} (hi:i<(w++aU b).length):((w++aU b).getD i 0).toNat=46/\i=w.length/\b≠[]\/(48<=((w++aU b).getD i 0).toNat/\((w++aU b).getD i 0).toNat<=57/\(i=w.length->False)):=by
 unfold aU at hi⊢;rcases Nat.lt_trichotomy i w.length with q|q|q
 . rw[p5 q];have:=mz hw q;exact .inr ⟨this.1,this.2,by omega⟩
 . subst q;rw[IU];by_cases e:b=[]
   . rw[if_pos e] at hi;simp at hi
   . rw[if_neg e];exact .inl ⟨rfl,rfl,e⟩
 . by_cases e:b=[]
   . rw[if_pos e] at hi;simp at hi;omega
   . rw[if_neg e] at hi⊢;rw[an,List.length_cons] at hi;have:=mz hb (i:=i-w.length-1) (by omega);rw[ac,dt (by omega),show i-w.length=i-w.length-1+1 by omega,List.getElem?_cons_succ,<-ac];exact .inr ⟨this.1,this.2,by omega⟩
theorem nP.q9{u w b p:gA} {e:UInt8} (h:nP u w b p e) {i:Nat} (hi:i<(w++aU b).length):(u.getD i 0).toNat≠101/\(u.getD i 0).toNat≠69:=by
 rw[h.eq,p5 hi];rcases Cq h.wd h.bd hi with k|k<;>omega
theorem nP.len{u w b p:gA} {e:UInt8} (h:nP u w b p e):u.length=(w++aU b).length+(tJ e p).length:=by rw[h.eq,an]
theorem nP.nU{u w b p:gA} {e:UInt8} (h:nP u w b p e) {i:Nat} (hi:i<u.length) (hk:¬i<(w++aU b).length) (hle:i<=(w++aU b).length):i=(w++aU b).length/\p≠[]/\((u.getD i 0).toNat=101\/(u.getD i 0).toNat=69)/\u.drop (i+1) =p/\u.take i=w++aU b:=by
 have hl:=h.len;have e0:i=(w++aU b).length:=by omega
 have hp:p≠[]:=fun k=>by rw[k,show tJ e []=[] from rfl,List.length_nil] at hl;omega
 have hu:=h.eq;unfold tJ at hu;rw[if_neg hp] at hu;refine⟨e0,hp,?_,?_,?_⟩
 . rw[e0,hu,IU];exact h.he
 . rw[e0,hu,show(w++aU b)++e::p=((w++aU b)++[e])++p by simp,show(w++aU b).length+1=((w++aU b)++[e]).length by rw[show((w++aU b)++[e]).length=(w++aU b).length+[e].length from an];rfl];exact List.drop_left
 . rw[e0,hu];exact List.take_left
theorem nP.HU{u w b p:gA} {e:UInt8} (h:nP u w b p e) {i:Nat} (hi:¬i<u.length) (hle:i<=(w++aU b).length):p=[]/\u=w++aU b:=by
 have hl:=h.len;have hu:=h.eq;unfold tJ at hl hu;by_cases k:p=[]
 . rw[if_pos k,List.append_nil] at hu;exact⟨k,hu⟩
 . rw[if_neg k,List.length_cons] at hl;omega
theorem tD{w b:gA} (hw:aY w) (hb:aY b) {i:Nat} (hi:i<(w++aU b).length) (h:((w++aU b).getD i 0).toNat=46):(w++aU b).take i=w/\(w++aU b).drop (i+1) =b:=by
 rcases Cq hw hb hi with k|k
 . obtain⟨_,rfl,k⟩:=k;unfold aU;rw[if_neg k];refine⟨List.take_left,?_⟩;rw[show w++46::b=(w++[46])++b by simp,show w.length+1=(w++[46]).length by rw[an];rfl];exact List.drop_left
 . omega
theorem tB{w b:gA} (hw:aY w) (hb:aY b) {i:Nat} (hi:¬i<(w++aU b).length) (hle:i<=w.length):b=[]/\w++aU b=w:=by
 unfold aU at hi⊢;by_cases k:b=[]
 . rw[if_pos k,List.append_nil];exact⟨k,rfl⟩
 . rw[if_neg k] at hi;simp at hi;omega
theorem tC{w b:gA} (hw:aY w) (hb:aY b) {i:Nat} (hi:i<(w++aU b).length) (hle:i<=w.length) (h:((w++aU b).getD i 0).toNat≠46):i+1<=w.length:=by
 rcases Cq hw hb hi with k|k
 . exact absurd k.1 h
 . rcases Nat.lt_or_eq_of_le hle with q|q
   . exact q
   . exact absurd q k.2.2
def qK(s:gA):Prop:=(cE s 0).1=s.length/\(cE s 0).2=0
def fq(p:gA):Int:=if p=[] then 0 else iJ p
theorem Af{p:gA} (h:p≠[]):iJ p=fq p:=by unfold fq;rw[if_neg h]
theorem Qy(s:gA) (hp:qK s/\s.length<=100000000):OK 156 ([.str s]) ([]) (.agg [.bool (dj s 0 45 45),.str (bV s 0).w,.str (bV s 0).b,.int .i64 (fq (bV s 0).p)]) (none):=by
  refine aq (C:=cx [(187,F7)]) (ar ⟨TZ,trivial⟩) (fn:=Tryz.f156) fun hw hs=>?_;obtain⟨hp,hl⟩:=hp;obtain⟨e,hp⟩:=DN hp.1 hp.2;generalize dj s 0 45 45=m at*;generalize (bV s 0).w=w at*;generalize (bV s 0).b=b at*;generalize (bV s 0).p=p at*;have hs1:(if m=true then[(45:UInt8)] else[]).length=if m=true then 1 else 0:=by cases m<;>rfl
  have hs2:s.drop (if m=true then 1 else 0) =(w++aU b)++tJ e p:=by
   have h:=hp.eq;rw[h,<-hs1,eg];exact List.drop_left
  have hu:nP (s.drop (if m=true then 1 else 0)) w b p e:=⟨hs2,hp.wd,hp.bd,hp.he,hp.pd⟩
  have hw0:0<w.length:=by have:=hp.w0;cases w;exact absurd rfl this;simp
  have hm:(s.getD 0 0).toNat=45↔m=true:=by
   rw[hp.eq];cases m with
   |true=>simp
   |false=>
     rw[if_neg (by decide),List.nil_append,p5 (by omega)];have:=mz hp.wd hw0;exact⟨fun q=>by omega,fun q=>by cases q⟩
  have h0:0<s.length:=by
   have e:=congrArg List.length hs2;rw[d9,an,an] at e;generalize (if m=true then 1 else 0) =k at e;omega
  cases m with
  |true=>
    rw[if_pos rfl] at hu;have hm:=hm.2 rfl;have hdl:(s.drop 1).length=s.length-1:=d9;repeat'((conv=>whnf);first|apply af|(apply av<;>intro h)|with_reducible refine lG ?_ fun hc=>?_)
    all_goals try conv=>whnf
    all_goals try(refine ae.mk ?_;try dsimp only)
    all_goals (try simp only[aV,gM,gN] at*)
    all_goals first|refine stay ?_|trivial|omega|skip
    . have hdl:(s.drop 1).length<=100000000:=by omega
      generalize s.drop 1=u at*;have hul:u.length<=100000000:=hdl;refine aZ.mk Nat (fun i=>i<=(w++aU b).length/\i<=u.length) (fun i=>⟨59,[(0,.str u),(2,.ptr 0 0),(3,.ptr 1 0),(13,.int .i64 u.length),(14,.int .i64 i)],[.cells [.bool false,.str [],.str [],.int .i64 0],.cells [.bool true,.str [],.str [],.int .i64 0]],[]⟩) (fun i=>u.length-i) [] 0 ⟨bu _,bu _⟩ ?_ (fun i ⟨hi,hi2⟩ _ _=>?_)
      . apply ay<;>(repeat' first|trivial)
      have hw1:i<u.length->IntKind.i64.wrap ((i:Int)+1) =((i+1:Nat):Int):=fun h=>by rw[bX];omega
      repeat'((conv=>whnf);first|apply af|(apply av<;>intro h)|with_reducible refine fG ?_ fun hc=>?_)
      all_goals try conv=>whnf
      all_goals try(refine ae.mk ?_;try dsimp only)
      all_goals (try rw[hw1 (by omega)])
      all_goals (try simp only[aV,gM,gN] at*)
      all_goals first|refine stay ?_|omega|skip
      . obtain⟨_,y2,_,y4,y5⟩:=hu.nU (i:=i) (by omega) (fun k=>by have:=hu.q9 k;omega) hi;exact⟨by rw[Int.toNat_natCast,y4];exact hu.pd.resolve_left y2,by rw[d9];omega⟩
      . obtain⟨_,y2,_,y4,y5⟩:=hu.nU (i:=i) (by omega) (fun k=>by have:=hu.q9 k;omega) hi;have KT:u.take ((i:Nat):Int).toNat=w++aU b:=y5;have KP:iJ (u.drop (((i+1:Nat):Int)).toNat) =fq p:=by rw[Int.toNat_natCast,y4];exact Af y2
        refine aZ.mk Nat (fun i=>i<=w.length/\i<=(w++aU b).length) (fun i=>⟨59,[(0,.str (w++aU b)),(2,.ptr 0 0),(3,.ptr 1 0),(40,.int .i64 (w++aU b).length),(41,.int .i64 i)],[.cells [.bool false,.str [],.str [],.int .i64 0],.cells [.bool true,.str (w++aU b),.str [],.int .i64 (fq p)]],[]⟩) (fun i=>(w++aU b).length-i) [] 0 ⟨bu _,bu _⟩ ?_ (fun i ⟨hi,hi2⟩ _ _=>?_)
        . apply ay<;>(repeat' first|trivial|apply ah|apply eF|apply aN|apply jI|apply cT)
          all_goals first
           |exact KT
           |exact KP
           |exact congrArg _ (congrArg _ KT)
        have hw1:i<(w++aU b).length->IntKind.i64.wrap ((i:Int)+1) =((i+1:Nat):Int):=fun h=>by
         have:=congrArg List.length KT;rw[bX];omega
        repeat'((conv=>whnf);first|apply af|(apply av<;>intro h)|with_reducible refine fG ?_ fun hc=>?_)
        all_goals try conv=>whnf
        all_goals try(refine ae.mk ?_;try dsimp only)
        all_goals (try rw[hw1 (by omega)])
        all_goals (try simp only[aV,gM,gN] at*)
        all_goals first|refine stay ?_|omega|skip
        . obtain⟨q1,q2⟩:=tD hu.wd hu.bd (i:=i) (by omega) (by omega);refine ab.mk [] ?_<;>(repeat' first|trivial|apply ah|apply eF|apply jW|apply cT)
          all_goals first
           |exact q1
           |exact q2
        . refine⟨[],i+1,⟨tC hu.wd hu.bd (i:=i) (by omega) hi (by omega),by omega⟩,?_,by omega⟩;apply ay<;>(repeat' first|trivial)
        . obtain⟨q1,q2⟩:=tB hu.wd hu.bd (i:=i) (by omega) hi;refine ab.mk [] ?_<;>(repeat' first|trivial|apply ah|apply eF|apply jW|apply cT)
          all_goals first
           |exact q2
           |exact q1.symm
      . obtain⟨_,y2,_,y4,y5⟩:=hu.nU (i:=i) (by omega) (fun k=>by have:=hu.q9 k;omega) hi;exact⟨by rw[Int.toNat_natCast,y4];exact hu.pd.resolve_left y2,by rw[d9];omega⟩
      . obtain⟨_,y2,_,y4,y5⟩:=hu.nU (i:=i) (by omega) (fun k=>by have:=hu.q9 k;omega) hi;have KT:u.take ((i:Nat):Int).toNat=w++aU b:=y5;have KP:iJ (u.drop (((i+1:Nat):Int)).toNat) =fq p:=by rw[Int.toNat_natCast,y4];exact Af y2
        refine aZ.mk Nat (fun i=>i<=w.length/\i<=(w++aU b).length) (fun i=>⟨59,[(0,.str (w++aU b)),(2,.ptr 0 0),(3,.ptr 1 0),(40,.int .i64 (w++aU b).length),(41,.int .i64 i)],[.cells [.bool false,.str [],.str [],.int .i64 0],.cells [.bool true,.str (w++aU b),.str [],.int .i64 (fq p)]],[]⟩) (fun i=>(w++aU b).length-i) [] 0 ⟨bu _,bu _⟩ ?_ (fun i ⟨hi,hi2⟩ _ _=>?_)
        . apply ay<;>(repeat' first|trivial|apply ah|apply eF|apply aN|apply jI|apply cT)
          all_goals first
           |exact KT
           |exact KP
           |exact congrArg _ (congrArg _ KT)
        have hw1:i<(w++aU b).length->IntKind.i64.wrap ((i:Int)+1) =((i+1:Nat):Int):=fun h=>by
         have:=congrArg List.length KT;rw[bX];omega
        repeat'((conv=>whnf);first|apply af|(apply av<;>intro h)|with_reducible refine fG ?_ fun hc=>?_)
        all_goals try conv=>whnf
        all_goals try(refine ae.mk ?_;try dsimp only)
        all_goals (try rw[hw1 (by omega)])
        all_goals (try simp only[aV,gM,gN] at*)
        all_goals first|refine stay ?_|omega|skip
        . obtain⟨q1,q2⟩:=tD hu.wd hu.bd (i:=i) (by omega) (by omega);refine ab.mk [] ?_<;>(repeat' first|trivial|apply ah|apply eF|apply jW|apply cT)
          all_goals first
           |exact q1
           |exact q2
        . refine⟨[],i+1,⟨tC hu.wd hu.bd (i:=i) (by omega) hi (by omega),by omega⟩,?_,by omega⟩;apply ay<;>(repeat' first|trivial)
        . obtain⟨q1,q2⟩:=tB hu.wd hu.bd (i:=i) (by omega) hi;refine ab.mk [] ?_<;>(repeat' first|trivial|apply ah|apply eF|apply jW|apply cT)
          all_goals first
           |exact q2
           |exact q1.symm
      . refine⟨[],i+1,⟨?_,by omega⟩,?_,by omega⟩
        . rcases Nat.lt_or_eq_of_le hi with q|q
          . exact q
          . have:=hu.nU (i:=i) (by omega) (by omega) hi;omega
        apply ay<;>(repeat' first|trivial)
      . obtain⟨y2,y5⟩:=hu.HU (i:=i) (by omega) hi;have KT:u=w++aU b:=y5;have KP:(0:Int) =fq p:=by rw[y2];rfl
        refine aZ.mk Nat (fun i=>i<=w.length/\i<=(w++aU b).length) (fun i=>⟨59,[(0,.str (w++aU b)),(2,.ptr 0 0),(3,.ptr 1 0),(40,.int .i64 (w++aU b).length),(41,.int .i64 i)],[.cells [.bool false,.str [],.str [],.int .i64 0],.cells [.bool true,.str (w++aU b),.str [],.int .i64 (fq p)]],[]⟩) (fun i=>(w++aU b).length-i) [] 0 ⟨bu _,bu _⟩ ?_ (fun i ⟨hi,hi2⟩ _ _=>?_)
        . apply ay<;>(repeat' first|trivial|apply ah|apply eF|apply aN|apply jI|apply cT)
          all_goals first
           |exact KT
           |exact KP
           |exact congrArg _ (congrArg _ KT)
        have hw1:i<(w++aU b).length->IntKind.i64.wrap ((i:Int)+1) =((i+1:Nat):Int):=fun h=>by
         have:=congrArg List.length KT;rw[bX];omega
        repeat'((conv=>whnf);first|apply af|(apply av<;>intro h)|with_reducible refine fG ?_ fun hc=>?_)
        all_goals try conv=>whnf
        all_goals try(refine ae.mk ?_;try dsimp only)
        all_goals (try rw[hw1 (by omega)])
        all_goals (try simp only[aV,gM,gN] at*)
        all_goals first|refine stay ?_|omega|skip
        . obtain⟨q1,q2⟩:=tD hu.wd hu.bd (i:=i) (by omega) (by omega);refine ab.mk [] ?_<;>(repeat' first|trivial|apply ah|apply eF|apply jW|apply cT)
          all_goals first
           |exact q1
           |exact q2
        . refine⟨[],i+1,⟨tC hu.wd hu.bd (i:=i) (by omega) hi (by omega),by omega⟩,?_,by omega⟩;apply ay<;>(repeat' first|trivial)
        . obtain⟨q1,q2⟩:=tB hu.wd hu.bd (i:=i) (by omega) hi;refine ab.mk [] ?_<;>(repeat' first|trivial|apply ah|apply eF|apply jW|apply cT)
          all_goals first
           |exact q2
           |exact q1.symm
    . omega
  |false=>
    rw[if_neg (by decide)] at hu;have hm:¬(s.getD 0 0).toNat=45:=fun h=>by cases hm.1 h
    repeat'((conv=>whnf);first|apply af|(apply av<;>intro h)|with_reducible refine lG ?_ fun hc=>?_)
    all_goals try conv=>whnf
    all_goals try(refine ae.mk ?_;try dsimp only)
    all_goals (try simp only[aV,gM,gN] at*)
    all_goals first|refine stay ?_|trivial|omega|skip
    . omega
    . have hu:nP s w b p e:=hu;generalize s=u at*;have hul:u.length<=100000000:=hl;refine aZ.mk Nat (fun i=>i<=(w++aU b).length/\i<=u.length) (fun i=>⟨59,[(0,.str u),(2,.ptr 0 0),(3,.ptr 1 0),(13,.int .i64 u.length),(14,.int .i64 i)],[.cells [.bool false,.str [],.str [],.int .i64 0],.cells [.bool false,.str [],.str [],.int .i64 0]],[]⟩) (fun i=>u.length-i) [] 0 ⟨bu _,bu _⟩ ?_ (fun i ⟨hi,hi2⟩ _ _=>?_)
      . apply ay<;>(repeat' first|trivial)
      have hw1:i<u.length->IntKind.i64.wrap ((i:Int)+1) =((i+1:Nat):Int):=fun h=>by rw[bX];omega
      repeat'((conv=>whnf);first|apply af|(apply av<;>intro h)|with_reducible refine fG ?_ fun hc=>?_)
      all_goals try conv=>whnf
      all_goals try(refine ae.mk ?_;try dsimp only)
      all_goals (try rw[hw1 (by omega)])
      all_goals (try simp only[aV,gM,gN] at*)
      all_goals first|refine stay ?_|omega|skip
      . obtain⟨_,y2,_,y4,y5⟩:=hu.nU (i:=i) (by omega) (fun k=>by have:=hu.q9 k;omega) hi;exact⟨by rw[Int.toNat_natCast,y4];exact hu.pd.resolve_left y2,by rw[d9];omega⟩
      . obtain⟨_,y2,_,y4,y5⟩:=hu.nU (i:=i) (by omega) (fun k=>by have:=hu.q9 k;omega) hi;have KT:u.take ((i:Nat):Int).toNat=w++aU b:=y5;have KP:iJ (u.drop (((i+1:Nat):Int)).toNat) =fq p:=by rw[Int.toNat_natCast,y4];exact Af y2
        refine aZ.mk Nat (fun i=>i<=w.length/\i<=(w++aU b).length) (fun i=>⟨59,[(0,.str (w++aU b)),(2,.ptr 0 0),(3,.ptr 1 0),(40,.int .i64 (w++aU b).length),(41,.int .i64 i)],[.cells [.bool false,.str [],.str [],.int .i64 0],.cells [.bool false,.str (w++aU b),.str [],.int .i64 (fq p)]],[]⟩) (fun i=>(w++aU b).length-i) [] 0 ⟨bu _,bu _⟩ ?_ (fun i ⟨hi,hi2⟩ _ _=>?_)
        . apply ay<;>(repeat' first|trivial|apply ah|apply eF|apply aN|apply jI|apply cT)
          all_goals first
           |exact KT
           |exact KP
           |exact congrArg _ (congrArg _ KT)
        have hw1:i<(w++aU b).length->IntKind.i64.wrap ((i:Int)+1) =((i+1:Nat):Int):=fun h=>by
         have:=congrArg List.length KT;rw[bX];omega
        repeat'((conv=>whnf);first|apply af|(apply av<;>intro h)|with_reducible refine fG ?_ fun hc=>?_)
        all_goals try conv=>whnf
        all_goals try(refine ae.mk ?_;try dsimp only)
        all_goals (try rw[hw1 (by omega)])
        all_goals (try simp only[aV,gM,gN] at*)
        all_goals first|refine stay ?_|omega|skip
        . obtain⟨q1,q2⟩:=tD hu.wd hu.bd (i:=i) (by omega) (by omega);refine ab.mk [] ?_<;>(repeat' first|trivial|apply ah|apply eF|apply jW|apply cT)
          all_goals first
           |exact q1
           |exact q2
        . refine⟨[],i+1,⟨tC hu.wd hu.bd (i:=i) (by omega) hi (by omega),by omega⟩,?_,by omega⟩;apply ay<;>(repeat' first|trivial)
        . obtain⟨q1,q2⟩:=tB hu.wd hu.bd (i:=i) (by omega) hi;refine ab.mk [] ?_<;>(repeat' first|trivial|apply ah|apply eF|apply jW|apply cT)
          all_goals first
           |exact q2
           |exact q1.symm
      . obtain⟨_,y2,_,y4,y5⟩:=hu.nU (i:=i) (by omega) (fun k=>by have:=hu.q9 k;omega) hi;exact⟨by rw[Int.toNat_natCast,y4];exact hu.pd.resolve_left y2,by rw[d9];omega⟩
      . obtain⟨_,y2,_,y4,y5⟩:=hu.nU (i:=i) (by omega) (fun k=>by have:=hu.q9 k;omega) hi;have KT:u.take ((i:Nat):Int).toNat=w++aU b:=y5;have KP:iJ (u.drop (((i+1:Nat):Int)).toNat) =fq p:=by rw[Int.toNat_natCast,y4];exact Af y2
        refine aZ.mk Nat (fun i=>i<=w.length/\i<=(w++aU b).length) (fun i=>⟨59,[(0,.str (w++aU b)),(2,.ptr 0 0),(3,.ptr 1 0),(40,.int .i64 (w++aU b).length),(41,.int .i64 i)],[.cells [.bool false,.str [],.str [],.int .i64 0],.cells [.bool false,.str (w++aU b),.str [],.int .i64 (fq p)]],[]⟩) (fun i=>(w++aU b).length-i) [] 0 ⟨bu _,bu _⟩ ?_ (fun i ⟨hi,hi2⟩ _ _=>?_)
        . apply ay<;>(repeat' first|trivial|apply ah|apply eF|apply aN|apply jI|apply cT)
          all_goals first
           |exact KT
           |exact KP
           |exact congrArg _ (congrArg _ KT)
        have hw1:i<(w++aU b).length->IntKind.i64.wrap ((i:Int)+1) =((i+1:Nat):Int):=fun h=>by
         have:=congrArg List.length KT;rw[bX];omega
        repeat'((conv=>whnf);first|apply af|(apply av<;>intro h)|with_reducible refine fG ?_ fun hc=>?_)
        all_goals try conv=>whnf
        all_goals try(refine ae.mk ?_;try dsimp only)
        all_goals (try rw[hw1 (by omega)])
        all_goals (try simp only[aV,gM,gN] at*)
        all_goals first|refine stay ?_|omega|skip
        . obtain⟨q1,q2⟩:=tD hu.wd hu.bd (i:=i) (by omega) (by omega);refine ab.mk [] ?_<;>(repeat' first|trivial|apply ah|apply eF|apply jW|apply cT)
          all_goals first
           |exact q1
           |exact q2
        . refine⟨[],i+1,⟨tC hu.wd hu.bd (i:=i) (by omega) hi (by omega),by omega⟩,?_,by omega⟩;apply ay<;>(repeat' first|trivial)
        . obtain⟨q1,q2⟩:=tB hu.wd hu.bd (i:=i) (by omega) hi;refine ab.mk [] ?_<;>(repeat' first|trivial|apply ah|apply eF|apply jW|apply cT)
          all_goals first
           |exact q2
           |exact q1.symm
      . refine⟨[],i+1,⟨?_,by omega⟩,?_,by omega⟩
        . rcases Nat.lt_or_eq_of_le hi with q|q
          . exact q
          . have:=hu.nU (i:=i) (by omega) (by omega) hi;omega
        apply ay<;>(repeat' first|trivial)
      . obtain⟨y2,y5⟩:=hu.HU (i:=i) (by omega) hi;have KT:u=w++aU b:=y5;have KP:(0:Int) =fq p:=by rw[y2];rfl
        refine aZ.mk Nat (fun i=>i<=w.length/\i<=(w++aU b).length) (fun i=>⟨59,[(0,.str (w++aU b)),(2,.ptr 0 0),(3,.ptr 1 0),(40,.int .i64 (w++aU b).length),(41,.int .i64 i)],[.cells [.bool false,.str [],.str [],.int .i64 0],.cells [.bool false,.str (w++aU b),.str [],.int .i64 (fq p)]],[]⟩) (fun i=>(w++aU b).length-i) [] 0 ⟨bu _,bu _⟩ ?_ (fun i ⟨hi,hi2⟩ _ _=>?_)
        . apply ay<;>(repeat' first|trivial|apply ah|apply eF|apply aN|apply jI|apply cT)
          all_goals first
           |exact KT
           |exact KP
           |exact congrArg _ (congrArg _ KT)
        have hw1:i<(w++aU b).length->IntKind.i64.wrap ((i:Int)+1) =((i+1:Nat):Int):=fun h=>by
         have:=congrArg List.length KT;rw[bX];omega
        repeat'((conv=>whnf);first|apply af|(apply av<;>intro h)|with_reducible refine fG ?_ fun hc=>?_)
        all_goals try conv=>whnf
        all_goals try(refine ae.mk ?_;try dsimp only)
        all_goals (try rw[hw1 (by omega)])
        all_goals (try simp only[aV,gM,gN] at*)
        all_goals first|refine stay ?_|omega|skip
        . obtain⟨q1,q2⟩:=tD hu.wd hu.bd (i:=i) (by omega) (by omega);refine ab.mk [] ?_<;>(repeat' first|trivial|apply ah|apply eF|apply jW|apply cT)
          all_goals first
           |exact q1
           |exact q2
        . refine⟨[],i+1,⟨tC hu.wd hu.bd (i:=i) (by omega) hi (by omega),by omega⟩,?_,by omega⟩;apply ay<;>(repeat' first|trivial)
        . obtain⟨q1,q2⟩:=tB hu.wd hu.bd (i:=i) (by omega) hi;refine ab.mk [] ?_<;>(repeat' first|trivial|apply ah|apply eF|apply jW|apply cT)
          all_goals first
           |exact q2
           |exact q1.symm
def F9:Sm:=fun args σ=>match args,σ with
 |[.str s],[]=>some (qK s/\s.length<=100000000,.agg [.bool (dj s 0 45 45),.str (bV s 0).w,.str (bV s 0).b,.int .i64 (fq (bV s 0).p)],none)
 |_,_=>none
theorem U1:ax 156 F9:=by
 intro args sg pre x r he hp;unfold F9 at he;split at he<;>cases he
 . exact Qy (hp:=hp) ..
end Go.Proofs.YtchllohbglebiaaGreatDoor
