/-
  A part of the proof.
-/
import Derived.Shelf.Sort.Plain
import Derived.Shelf.Small.Strs
import Derived.Test.YtchllohbglebiaaGreatDoorProg
import Derived.Test.YtchllohbglebiaaGreatDoorNB
import Derived.Test.YtchllohbglebiaaGreatDoorVgZ
set_option linter.unusedSimpArgs false
set_option linter.unusedVariables false
set_option maxHeartbeats 4000000
set_option maxRecDepth 100000
namespace Go.Proofs
open Go.Shelf
def Tryz.KB:Go.Shelf.Ren:=⟨fun|190=>101|125=>137|258=>136|128=>168|129=>169|302=>159|303=>160|304=>161|305=>162|306=>163|307=>164|308=>165|309=>166|310=>167|333=>191|329=>192|330=>193|334=>194|335=>195|336=>196|344=>202|n=>n,fun|31=>91|9=>9|3=>3|46=>204|0=>0|51=>233|53=>31|4=>4|183=>226|182=>225|131=>110|5=>5|218=>243|222=>246|228=>250|229=>251|n=>n,fun|n=>n⟩
theorem Tryz.Vf:Go.Proofs.Lays.n190 Tryz.prog Tryz.KB:={
 mixed:=by kernel_rfl
 f125:=Tryz.func137.trans (congrArg some (by kernel_rfl))
 f128:=Tryz.func168.trans (congrArg some (by kernel_rfl))
 f129:=Tryz.func169.trans (congrArg some (by kernel_rfl))
 f190:=Tryz.func101.trans (congrArg some (by kernel_rfl))
 f258:=Tryz.func136.trans (congrArg some (by kernel_rfl))
 f302:=Tryz.func159.trans (congrArg some (by kernel_rfl))
 f303:=Tryz.func160.trans (congrArg some (by kernel_rfl))
 f304:=Tryz.func161.trans (congrArg some (by kernel_rfl))
 f305:=Tryz.func162.trans (congrArg some (by kernel_rfl))
 f306:=Tryz.func163.trans (congrArg some (by kernel_rfl))
 f307:=Tryz.func164.trans (congrArg some (by kernel_rfl))
 f308:=Tryz.func165.trans (congrArg some (by kernel_rfl))
 f309:=Tryz.func166.trans (congrArg some (by kernel_rfl))
 f310:=Tryz.func167.trans (congrArg some (by kernel_rfl))
 f329:=Tryz.func192.trans (congrArg some (by kernel_rfl))
 f330:=Tryz.func193.trans (congrArg some (by kernel_rfl))
 f333:=Tryz.func191.trans (congrArg some (by kernel_rfl))
 f334:=Tryz.func194.trans (congrArg some (by kernel_rfl))
 f335:=Tryz.func195.trans (congrArg some (by kernel_rfl))
 f336:=Tryz.func196.trans (congrArg some (by kernel_rfl))
 f344:=Tryz.func202.trans (congrArg some (by kernel_rfl))
 t0:=Tryz.underlying0
 a0:=Tryz.isAgg0
 z0:=Tryz.sizeOf0
 v0:=Tryz.zeroValue0
 t3:=Tryz.underlying3
 a3:=Tryz.isAgg3
 z3:=Tryz.sizeOf3
 v3:=Tryz.zeroValue3
 t4:=Tryz.underlying4
 a4:=Tryz.isAgg4
 z4:=Tryz.sizeOf4
 v4:=Tryz.zeroValue4
 t5:=Tryz.underlying5
 a5:=Tryz.isAgg5
 z5:=Tryz.sizeOf5
 v5:=Tryz.zeroValue5
 t9:=Tryz.underlying9
 a9:=Tryz.isAgg9
 z9:=Tryz.sizeOf9
 v9:=Tryz.zeroValue9
 t31:=Tryz.underlying91
 a31:=Tryz.isAgg91
 z31:=Tryz.sizeOf91
 v31:=Tryz.zeroValue91
 t46:=Tryz.underlying204
 a46:=Tryz.isAgg204
 z46:=Tryz.sizeOf204
 v46:=Tryz.zeroValue204
 t51:=Tryz.underlying233
 a51:=Tryz.isAgg233
 z51:=Tryz.sizeOf233
 v51:=Tryz.zeroValue233
 t53:=Tryz.underlying31
 a53:=Tryz.isAgg31
 z53:=Tryz.sizeOf31
 v53:=Tryz.zeroValue31
 t131:=Tryz.underlying110
 a131:=Tryz.isAgg110
 z131:=Tryz.sizeOf110
 v131:=Tryz.zeroValue110
 t182:=Tryz.underlying225
 a182:=Tryz.isAgg225
 z182:=Tryz.sizeOf225
 v182:=Tryz.zeroValue225
 t183:=Tryz.underlying226
 a183:=Tryz.isAgg226
 z183:=Tryz.sizeOf226
 v183:=Tryz.zeroValue226
 t218:=Tryz.underlying243
 a218:=Tryz.isAgg243
 z218:=Tryz.sizeOf243
 v218:=Tryz.zeroValue243
 t222:=Tryz.underlying246
 a222:=Tryz.isAgg246
 z222:=Tryz.sizeOf246
 v222:=Tryz.zeroValue246
 t228:=Tryz.underlying250
 a228:=Tryz.isAgg250
 z228:=Tryz.sizeOf250
 v228:=Tryz.zeroValue250
 t229:=Tryz.underlying251
 a229:=Tryz.isAgg251
 z229:=Tryz.sizeOf251
 v229:=Tryz.zeroValue251}
def Tryz.KA:Go.Shelf.Ren:=⟨fun|106=>106|213=>138|265=>170|n=>n,fun|9=>9|3=>3|n=>n,fun|n=>n⟩
theorem Tryz.Ve:Go.Proofs.Lays.n106 Tryz.prog Tryz.KA:={
 mixed:=by kernel_rfl
 f106:=Tryz.func106.trans (congrArg some (by kernel_rfl))
 f213:=Tryz.func138.trans (congrArg some (by kernel_rfl))
 f265:=Tryz.func170.trans (congrArg some (by kernel_rfl))
 t3:=Tryz.underlying3
 a3:=Tryz.isAgg3
 z3:=Tryz.sizeOf3
 v3:=Tryz.zeroValue3
 t9:=Tryz.underlying9
 a9:=Tryz.isAgg9
 z9:=Tryz.sizeOf9
 v9:=Tryz.zeroValue9}
end Go.Proofs
namespace Go.Proofs.YtchllohbglebiaaGreatDoor
open Go Go.VG
theorem Jt{l:List ak} {n:Nat} {K:V->Prop} (h1:ae (n<l.length)) (h2:K (ea (l.getD n default))):iB (aG l) n K:=by
 rw[lV];exact kH h1 h2
def jm:V->Ky
 |.str s=>s
 |_=>[]
theorem xS(L:List Ky):(L.map V.str).map jm=L:=by
 rw[List.map_map];exact(List.map_congr_left (g:=id) fun _ _=>rfl).trans (List.map_id _)
def FO:Sm:=fun args σ=>match args,σ with
 |[.buf 0],[.buf 1 0 l]=>some (l=(l.map jm).map V.str/\l.length<=1000000,.tuple [],some [.buf 1 0 ((sorted (l.map jm)).map V.str),.dead])
 |_,_=>none
-- #name sort slices.Sort[[]string,string]
theorem UB:ax 101 FO:=by
 intro args sg pre x r he hp;unfold FO at he;split at he<;>cases he;rename_i l;obtain⟨h1,h2⟩:=hp;have h:=YB (P:=Tryz.prog) (gl:=ib) (f:=101) Tryz.KB Tryz.Vf rfl ⟨_,rfl,rfl,rfl⟩ (l.map jm) (by rw[aA];omega);rw[<-h1] at h;exact h
def om(p:List (Ky×Int)) (j:Nat):Ky:=(p.getD j default).1
theorem UR(p:List (Ky×Int)):(List.range p.length).map (om p) =p.map Prod.fst:=by
 apply List.ext_getElem
 . simp
 . intro i h1 h2;simp only[List.getElem_map,List.getElem_range,om];rw[ac,am (by simpa using h1)];rfl
theorem US{p:List (Ky×Int)} {ks:List Ky} {left:List Nat} {j:Nat} (h:(ks++left.map (om p)).Perm (p.map Prod.fst)) (hj:j∈left):((ks++[om p j])++(left.erase j).map (om p)).Perm (p.map Prod.fst):=by
 refine List.Perm.trans ?_ h;rw[eg];refine List.Perm.append_left ks ?_;exact((List.perm_cons_erase hj).map (om p)).symm
theorem LP(l:List ak):∀n,(db l n).length<=n
 |0=>cb 0
 |n+1=>by
   have ih:=LP l n;have h:=congrArg List.length (Gj (db l n) (l.getD n default).key n);rw[db];rw[aA] at h;rw[h];split
   . rw[aA];omega
   . rw[an,aA,gc];omega
theorem Rr{k:Nat} (hk:k<=100000) (h1:ax 102 (sF (k+1))) (l:List ak) (hl:ji l<k+1):OK 54 [.list false 7 (aG l)] [] (.list false 7 (aG (cS l []))) none:=by
 refine aq (C:=cx [(102,sF (k+1)),(101,FO)]) (ar ⟨h1,UB,trivial⟩) (fn:=Tryz.f54) fun hw _=>?_;have e1:=cX l;have hn:=VW l;all_goals try conv=>whnf
 all_goals try(refine ae.mk ?_;try dsimp only)
 refine aZ.mk (Nat×List Nat×Nat) (fun x=>x.1<=l.length/\x.2.1.length=(db l x.1).length/\x.2.2<=x.1) (fun x=>⟨57,[(0,.list false 7 (aG l)),(3,.map 0),(12,.list false 7 (aG l)),(13,.int .i64 l.length),(14,.int .i64 x.1)],[.map false [.kS] (mS (db l x.1)) x.2.1 x.2.2],[0,1]⟩) (fun x=>l.length-x.1) [] (0,[],0) ⟨bu _,rfl,cb _⟩ ?_ (fun⟨i,bs,ck⟩ ⟨hi,hb,hc⟩ _ _=>?_)
 . apply ay<;>(repeat' first|trivial|apply ah|apply aN)
   rw[e1]
 have hst:db l (i+1) =aX (l.getD i default).key i (db l i):=rfl;repeat'((conv=>whnf);first|with_reducible refine go1 (fun j q h=>?_) fun h=>?_|apply af|(apply av<;>intro h)|with_reducible refine nr ?_ ?_)
 all_goals try conv=>whnf
 all_goals try(refine ae.mk ?_;try dsimp only)
 all_goals (try simp only[lv,tx,cX] at*)
 all_goals first|refine stay ?_|omega|skip
 . have hu:=Zj (i:=(i:Int)) ‹bF (mS (db l i)) (V.str (l.getD i default).key) =some (j,q)›;refine⟨[],(i+1,bs,ck),⟨by show i+1<=_;omega,?_,by show ck<=i+1;omega⟩,?_,by show l.length-(i+1)<l.length-i;omega⟩
   . show bs.length=(db l (i+1)).length;have:=congrArg List.length hu;rw[aA,EC,aA] at this;rw[hst,this,hb]
   . apply ay<;>(repeat' first|trivial|apply ah|apply aN)
     all_goals first
      |(rw[hst,hu];done)
      |(rw[bX];omega)
 . have hu:=Zk (i:=(i:Int)) ‹bF (mS (db l i)) (V.str (l.getD i default).key) =none›;refine⟨[],(i+1,bs++[ck],ck+1),⟨by show i+1<=_;omega,?_,by show ck+1<=i+1;omega⟩,?_,by show l.length-(i+1)<l.length-i;omega⟩
   . show(bs++[ck]).length=(db l (i+1)).length;have:=congrArg List.length hu;rw[aA,an,aA,gc] at this;rw[hst,this,an,hb,gc]
   . apply ay<;>(repeat' first|trivial|apply ah|apply aN)
     all_goals first
      |(rw[hst,hu];done)
      |(rw[bX];omega)
 obtain rfl:i=l.length:=by omega
 have hok:=E5 l l.length (cb _);have hpl:=LP l l.length;have hcan:=fun{ks:List Ky} (h:ks.Perm ((db l l.length).map Prod.fst)) =>OM l h;have hpos:=hok.pos;have hkr:=UR (db l l.length);have hks:=fun{ks:List Ky} {left:List Nat} {j:Nat}=>US (p:=db l l.length) (ks:=ks) (left:=left) (j:=j);have hlk:∀k,kc (db l l.length) k=getM (mS (db l l.length)) (.str k):=fun _=>rfl;have hout:∀k,A7 l k=.mk k (kt (l.getD (kc (db l l.length) k).toNat default).value):=fun _=>rfl;clear hst hok;generalize hp:db l l.length=p at*;refine aZ.mk (List Ky×List Nat×Nat) (fun x=>(x.1++x.2.1.map (om p)).Perm (p.map Prod.fst)/\(∀j∈x.2.1,j<p.length)/\x.1.length+x.2.1.length<=100000) (fun x=>⟨57,[(0,.list false 7 (aG l)),(3,.map 0),(6,.buf 2),(25,.ptr 1 0)],[.map false [.kS] (mS p) bs ck,.miter (.map 0) bs ck x.2.1 x.2.2,.buf 1 0 (x.1.map V.str)],[0,1,2]⟩) (fun x=>x.2.1.length) [.tm 6 1] ([],List.range bs.length,bs.length) ⟨by rw[hb,hkr];exact List.Perm.refl _,fun j hj=>by rw[hb] at hj;exact List.mem_range.1 hj,by show 0+(List.range bs.length).length<=100000;rw[List.length_range];omega⟩ ?_ (fun⟨ks,left,last⟩ ⟨h3,h4,h5⟩ _ _=>?_)
 . apply ay<;>(repeat' first|trivial)
 have h3:(ks++left.map (om p)).Perm (p.map Prod.fst):=h3;have h4:∀j∈left,j<p.length:=h4;have h5:ks.length+left.length<=100000:=h5;repeat'((conv=>whnf);first|with_reducible refine go2 ⟨rfl,rfl⟩ (fun h=>?_) fun j h=>?_|apply af|with_reducible apply kH)
 all_goals try conv=>whnf
 all_goals try(refine ae.mk ?_;try dsimp only)
 all_goals first|refine stay ?_|trivial|(simp(discharger:=omega) [-List.getD_eq_getElem?_getD,wR]<;>omega)|skip
 . exact⟨by rw[xS],by rw[aA];omega⟩
 . have hl0:left=[]:=‹(ks,left,last).2.1=[]›
   subst hl0;rw[List.map_nil,List.append_nil] at h3;have hc:=hcan h3;have hmem:∀x∈sorted ks,0<=kc p x/\kc p x<l.length:=fun x hx=>⟨(hpos x).1,(hpos x).2 (h3.mem_iff.1 ((sorted_perm ks).mem_iff.1 hx))⟩
   have hsl:(sorted ks).length<=100000:=by rw[G2];omega
   simp only[xS];generalize sorted ks=S at*;refine aZ.mk Nat (fun i=>i<=S.length) (fun i=>⟨57,[(0,.list false 7 (aG l)),(3,.map 0),(8,.buf 4),(36,.buf 2),(37,.int .i64 S.length),(38,.int .i64 i)],[.map false [.kS] (mS p) bs ck,.dead,.buf 1 0 (S.map V.str),.dead,.buf 7 0 (((S.take i).map (A7 l)).map ea)],[0,1,2,3,4]⟩) (fun i=>S.length-i) [.tm 8 7] 0 (bu _) ?_ (fun i hi _ _=>?_)
   . apply ay<;>(repeat' first|trivial|apply ah|apply aN)
     rw[aA]
   have hmi:i<S.length->0<=kc p (S.getD i default)/\kc p (S.getD i default)<l.length:=fun q=>hmem _ (by
    rw[ac,am q];exact List.getElem_mem q)
   rw[hlk] at hmi;have hno:i<S.length->(l.getD (getM (mS p) (V.str (S.getD i default))).toNat default).value.nodes<=ji l:=fun q=>Lq (by have:=hmi q;omega);have ho:=hout (S.getD i default);rw[hlk] at ho;repeat'((conv=>whnf);first|apply af|(apply av<;>intro h)|with_reducible (first|refine Jt ?_ ?_|apply lZ))
   all_goals try conv=>whnf
   all_goals try(refine ae.mk ?_;try dsimp only)
   all_goals (try simp only[lv] at*)
   all_goals first|refine stay ?_|omega|(simp(discharger:=omega) [-List.getD_eq_getElem?_getD,wR]<;>omega)|skip
   . exact⟨ue _,by have:=hno (by omega);omega⟩
   . refine⟨[],i+1,by omega,?_,by omega⟩;rw[oG (d:=default) (by omega),fo,fo,List.map_singleton,List.map_singleton,ho];apply ay<;>(repeat' first|trivial|apply ah|apply aN)
     all_goals first
      |rfl
      |(rw[bX];omega)
   . have hi2:i=S.length:=by omega
     subst hi2;rw[List.take_length] at*;refine ab.mk [.c9 4] ?_<;>(repeat' first|trivial|apply ah|apply nj)
     rw[hc,lV]
 . exact h4 j (by assumption)
 . have hj:j∈left:=‹j∈(ks,left,last).2.1›
   refine⟨[],(ks++[om p j],left.erase j,j),⟨hks h3 hj,fun q hq=>h4 q (List.mem_of_mem_erase hq),?_⟩,?_,?_⟩
   . show(ks++[om p j]).length+(left.erase j).length<=100000;have:=List.length_pos_of_mem hj;rw[an,gc,List.length_erase_of_mem hj];have:0<left.length:=this;omega
   . apply ay<;>(repeat' first|trivial|apply ah|apply bc)
     all_goals first
      |rfl
      |(rw[fo];rfl)
   . show(left.erase j).length<left.length;have:0<left.length:=List.length_pos_of_mem hj;rw[List.length_erase_of_mem hj];omega
theorem Rt{k:Nat} (hk:k<=100000) (h1:ax 102 (sF k)) (h2:ax 54 (uN k)) (v:aM) (hv:v.nodes<k+1):OK 102 [ev v] [] (ev (kt v)) none:=by
 refine aq (C:=cx [(102,sF k),(54,uN k)]) (ar ⟨h1,h2,trivial⟩) (fn:=Tryz.f102) fun hw _=>?_;have e1:=wb v.list;have hn:=zU v;have hl:=VV v.list;rw[OL];all_goals try conv=>whnf
 all_goals try(refine ae.mk ?_;try dsimp only)
 refine aZ.mk Nat (fun i=>i<=v.list.length) (fun i=>⟨26,[(1,.ptr 0 0),(2,.ptr 1 0),(3,.buf 2),(7,.list false 6 (ky v.list)),(8,.int .i64 v.list.length),(9,.int .i64 i)],[.cells (cv v),.cells [.int .u8 0,.str [],.int .i64 0,.int .u64 0,.list true 0 [],.list true 0 []],.buf 6 0 (((v.list.take i).map kt).map ev)],[0,1,2,3]⟩) (fun i=>v.list.length-i) [.tm 3 6] 0 (bu _) ?_ (fun i hi _ _=>?_)
 . apply ay<;>(repeat' first|trivial|apply ah|apply aN)
   rw[e1]
 repeat'((conv=>whnf);first|apply af|(apply av<;>intro h)|with_reducible refine Js ?_ ?_)
 all_goals try conv=>whnf
 all_goals try(refine ae.mk ?_;try dsimp only)
 all_goals (try simp only[lv,tx,wb] at*)
 all_goals first|refine stay ?_|omega|(simp(discharger:=omega) [-List.getD_eq_getElem?_getD,wR]<;>omega)|skip
 . have q4:=Lp (l:=v.list) (i:=i) (by omega);exact⟨ue _,by omega⟩
 . refine⟨[],i+1,by omega,?_,by omega⟩;rw[oG (d:=default) (by omega),fo,fo];apply ay<;>(repeat' first|trivial|apply ah|apply aN)
   all_goals first
    |rfl
    |(rw[bX];omega)
 . exact⟨p7 _,by omega⟩
 . have hi2:i=v.list.length:=by omega
   subst hi2;rw[List.take_length];refine ab.mk [.c9 2] ?_<;>(repeat' first|trivial|apply ah|apply nj|apply jW|apply cT)
   exact(Cx _).symm
theorem LJ:∀k:Nat,k<=100000->ax 102 (sF k)/\ax 54 (uN k)
 |0,_=>⟨MA fun _ h=>by omega,Mz fun _ h=>by omega⟩
 |k+1,hk=>by
   have ih:=LJ k (by omega);have h1:=MA (k:=k+1) fun v hv=>Rt (k:=k) (by omega) ih.1 ih.2 v hv;exact⟨h1,Mz fun l hl=>Rr (k:=k) (by omega) h1 l hl⟩
-- #name pCanV value.Canon
-- #name pCanM value.CanonEntries
def Fy:Sm:=uN 100000
theorem Kd:ax 54 Fy:=(LJ 100000 (cb _)).2
end Go.Proofs.YtchllohbglebiaaGreatDoor
namespace Go.VG
open Go Go.Shelf Go.Proofs
theorem HH:∀a b:gA,-1<=Lib.compareBytes a b/\Lib.compareBytes a b<=1
 |[],[]=>by simp[Lib.compareBytes]
 |[],_::_=>by simp[Lib.compareBytes]
 |_::_,[]=>by simp[Lib.compareBytes]
 |a::r,b::q=>by
   have ih:=HH r q;rw[Lib.compareBytes];split
   . omega
   split
   . omega
   . exact ih
theorem OX{P:Program} {gl:Nat->Option (List V)} {f:FuncId} (ρ:Ren) (Ly:Lays.n106 P ρ) (hf:ρ.f 106=f) (hc:n9 P f) (a b:gA):
   eU P gl f [.str a,.str b] [] (.int .i64 (Lib.compareBytes a b)) none:=by
 refine⟨hc,fun E st g w vs R hg hv=>?_⟩;simp only[aC] at hv;obtain⟨u,us,rfl,hu,u2,us2,rfl,hu2,rfl⟩:=hv;simp only[VR] at hu hu2;obtain⟨rfl,_⟩:=hu;obtain⟨rfl,_⟩:=hu2;have hC:=Any.strings_Compare Ly ⟨a.toArray⟩ ⟨b.toArray⟩ w;rw[hf] at hC;refine hC.mono ?_;rintro e w' ⟨rfl,rfl⟩;refine⟨_,st,g,rfl,R,?_,fun _ _ _ h=>h,cb _,fun _ _ _ _=>rfl⟩;have h:=HH a b;simp only[VR];refine⟨by simp,?_,?_⟩
 . simp[IntKind.min,IntKind.signed,IntKind.bits];omega
 . simp[IntKind.max,IntKind.signed,IntKind.bits];omega
end Go.VG
namespace Go.Proofs.YtchllohbglebiaaGreatDoor
open Go Go.VG
theorem Ch:∀a b:Ky,(Lib.compareBytes a b<0↔a<b)/\(Lib.compareBytes a b=0↔a=b)
 |[],[]=>by simp[Lib.compareBytes]
 |[],_::_=>by simp[Lib.compareBytes]
 |_::_,[]=>by simp[Lib.compareBytes]
 |a::r,b::q=>by
   obtain⟨h1,h2⟩:=Ch r q;rw[Lib.compareBytes,List.cons_lt_cons_iff,List.cons.injEq];by_cases h:a<b
   . rw[if_pos h];refine⟨⟨fun _=>.inl h,fun _=>by decide⟩,⟨fun e=>absurd e (by decide),fun e=>absurd (e.1▸h) (UInt8.lt_irrefl b)⟩⟩
   . rw[if_neg h];by_cases h3:b<a
     . rw[if_pos h3];refine⟨⟨fun e=>absurd e (by decide),fun e=>?_⟩,⟨fun e=>absurd e (by decide),fun e=>absurd (e.1▸h3) (UInt8.lt_irrefl b)⟩⟩;rcases e with e|e
       . exact absurd e h
       . exact absurd (e.1▸h3) (UInt8.lt_irrefl b)
     . rw[if_neg h3,h1,h2];have e:a=b:=UInt8.le_antisymm (UInt8.not_lt.1 h3) (UInt8.not_lt.1 h);exact⟨⟨fun k=>.inr ⟨e,k⟩,fun k=>(k.resolve_left h).2⟩,⟨fun k=>⟨e,k⟩,fun k=>k.2⟩⟩
def FP:Sm:=fun args σ=>match args,σ with
 |[.str a,.str b],[]=>some (True,.int .i64 (Lib.compareBytes a b),none)
 |_,_=>none
-- #name strCmp strings.Compare
theorem UC:ax 106 FP:=by
 intro args sg pre x r he hp;unfold FP at he;split at he<;>cases he;exact OX Tryz.KA Tryz.Ve rfl ⟨_,rfl,rfl,rfl⟩ _ _
theorem PC(a key t:gA) (k n b:Int) (c1 c2:Bool) (z1 z2:Nat) (l m:List V) (hp:True):OK 105 ([.agg [.str a,.int .u8 k,.str t,.int .i64 n,.int .u64 b,.list c1 z1 l,.list c2 z2 m],.str key]) ([]) (.int .i64 (Lib.compareBytes a key)) (none):=by
 refine aq (C:=cx [(106,FP)]) (ar ⟨UC,trivial⟩) (fn:=Tryz.f105) fun hw hs=>?_;repeat'((conv=>whnf);apply af)
 all_goals try conv=>whnf
 all_goals try(refine ae.mk ?_;try dsimp only)
 all_goals try refine stay ?_
 refine ab.mk [] ?_<;>(repeat' first|trivial)
def EJ:Sm:=fun args σ=>match args,σ with
 |[.agg [.str a,.int .u8 k,.str t,.int .i64 n,.int .u64 b,.list c1 z1 l,.list c2 z2 m],.str key],[]=>some (True,.int .i64 (Lib.compareBytes a key),none)
 |_,_=>none
theorem TB:ax 105 EJ:=by
 intro args sg pre x r he hp;unfold EJ at he;split at he<;>cases he
 . exact PC (hp:=hp) ..
theorem Xw{l:List ak} {k:Ky} {j:Nat} (h:cF l) (h1:less l k<=j) (h2:j<l.length):¬(l.getD j default).key<k:=by
 have h0:=KO (l:=l) (k:=k) (by omega);rcases d7 (less l k) j with q|q
 . have:=List.pairwise_iff_getElem.1 h (less l k) j (by omega) h2 q;rw[ac,am (by omega)] at h0;rw[ac,am h2];exact fun e=>h0 (zD this e)
 . rw[show j=less l k by omega];exact h0
def fL(l:List ak) (k:Ky):Bool:=decide (less l k<l.length/\(l.getD (less l k) default).key=k)
def kG(l:List ak) (k:Ky):aM:=if fL l k=true then(l.getD (less l k) default).value else default
theorem Oy{i j:Nat} (h:i+j<=2000000):IntKind.i64.wrap (m9 .u64 (IntKind.u64.wrap (IntKind.i64.wrap ((i:Int)+j))) 1) =(((i+j)/2:Nat):Int):=by
 have e:IntKind.u64.wrap (IntKind.i64.wrap ((i:Int)+j)) =((i+j:Nat):Int):=by rw[bX,kj];omega
 have e2:m9 .u64 ((i+j:Nat):Int) 1=(((i+j)/2:Nat):Int):=by
  show((i+j:Nat):Int).fdiv 2=_;rw[Int.fdiv_eq_ediv_of_nonneg _ (by decide)];rfl
 rw[e,e2,bX];omega
theorem f_bsf(l:List ak) (key:Ky) (hl:l.length<=1000000) (hr:cF l):OK 104 [.list false 7 (aG l),.str key,.func (.func 105) [] []] [] (.tuple [.int .i64 (less l key),.bool (fL l key)]) none:=by
 refine aq (C:=cx [(105,EJ)]) (ar ⟨TB,trivial⟩) (fn:=Tryz.f104) fun hw _=>?_;have e1:=cX l;have hle:=KQ l key;all_goals try conv=>whnf
 all_goals try(refine ae.mk ?_;try dsimp only)
 refine aZ.mk (Nat×Nat) (fun x=>x.1<=less l key/\less l key<=x.2/\x.2<=l.length) (fun x=>⟨49,[(0,.list false 7 (aG l)),(1,.str key),(2,.func (.func 105) [] []),(8,.int .i64 l.length),(9,.int .i64 x.1),(10,.int .i64 x.2)],[],[]⟩) (fun x=>x.2-x.1) [] (0,l.length) ⟨bu _,hle,cb _⟩ ?_ (fun⟨i,j⟩ ⟨h1,h2,h3⟩ _ _=>?_)
 . apply ay<;>(repeat' first|trivial|apply ah|apply aN)
   all_goals exact congrArg Nat.cast e1
 dsimp only at h1 h2 h3;have hm:=Oy (i:=i) (j:=j) (by omega);have hlt:=KR (l:=l) (k:=key) (j:=(i+j)/2);have hge:=Xw (l:=l) (k:=key) (j:=(i+j)/2) hr;have hc:=Ch (l.getD ((i+j)/2) default).key key;have hc2:=Ch (l.getD i default).key key;repeat'((conv=>whnf);first|apply af|(apply av<;>intro h)|with_reducible (first|refine nr ?_ ?_|refine Jt ?_ ?_))
 all_goals try conv=>whnf
 all_goals try(refine ae.mk ?_;try dsimp only)
 all_goals (try simp only[hm,Int.toNat_natCast] at*)
 all_goals first|refine stay ?_|trivial|omega|skip
 . have h9:(l.getD ((i+j)/2) default).key<key:=hc.1.1 (by assumption);have h8:¬less l key<=(i+j)/2:=fun q=>hge q (by omega) h9;refine⟨[],((i+j)/2+1,j),⟨by show _+1<=_;omega,h2,h3⟩,?_,by show j-((i+j)/2+1)<j-i;omega⟩;apply ay<;>(repeat' first|trivial|apply ah|apply aN)
   rw[bX];omega
 . have h9:¬(l.getD ((i+j)/2) default).key<key:=fun q=>absurd (hc.1.2 q) (by assumption);have h8:¬(i+j)/2<less l key:=fun q=>h9 (hlt q);refine⟨[],(i,(i+j)/2),⟨h1,by show _<=(i+j)/2;omega,by show(i+j)/2<=_;omega⟩,?_,by show(i+j)/2-i<j-i;omega⟩;apply ay<;>(repeat' first|trivial)
 . have hi:i=less l key:=by omega
   rw[show fL l key=(Lib.compareBytes (l.getD i default).key key==0) from by
    unfold fL;rw[<-hi,Bool.eq_iff_iff,decide_eq_true_iff,beq_iff_eq,hc2.2];exact⟨fun q=>q.2,fun q=>⟨by omega,q⟩⟩,<-hi]
   refine ab.mk [] ?_<;>(repeat' first|trivial)
 . have hi:i=less l key:=by omega
   rw[show fL l key=false from decide_eq_false (fun q=>by omega),<-hi];refine ab.mk [] ?_<;>(repeat' first|trivial)
def EN:Sm:=fun args σ=>match args,σ with
 |[.list false 7 x,.str key,.func (.func 105) [] []],[]=>some (x=aG (bI x)/\x.length<=1000000/\cF (bI x),.tuple [.int .i64 (less (bI x) key),.bool (fL (bI x) key)],none)
 |_,_=>none
-- #name bsf slices.BinarySearchFunc[[]api.Attr,api.Attr,string]
theorem k_bsf:ax 104 EN:=by
 intro args sg pre x r he hp;unfold EN at he;split at he<;>cases he;obtain⟨h1,h2,h3⟩:=hp;have h4:=congrArg List.length h1;rw[cX] at h4;have:=f_bsf _ ‹Ky› (by omega) h3;rw[<-h1] at this;exact this
abbrev nO(x:List V):Prop:=x=aG (bI x)/\x.length<=1000000/\cF (bI x)
theorem mn{l:List ak} (h:cF l) (h2:l.length<=1000000):nO (aG l):=by
 refine⟨by rw[dZ],by rw[cX];exact h2,by rw[dZ];exact h⟩
theorem PE(x:List V) (key:gA) (hp:nO x):OK 57 ([.list false 7 x,.str key]) ([]) (.tuple [.int .i64 (less (bI x) key),.bool (fL (bI x) key)]) (none):=by
 refine aq (C:=cx [(104,EN)]) (ar ⟨k_bsf,trivial⟩) (fn:=Tryz.f57) fun hw hs=>?_;repeat'((conv=>whnf);apply af)
 all_goals try conv=>whnf
 all_goals try(refine ae.mk ?_;try dsimp only)
 . exact hp
 . refine ab.mk [] ?_<;>(repeat' first|trivial)
def xJ:Sm:=fun args σ=>match args,σ with
 |[.list false 7 x,.str key],[]=>some (nO x,.tuple [.int .i64 (less (bI x) key),.bool (fL (bI x) key)],none)
 |_,_=>none
theorem D9:ax 57 xJ:=by
 intro args sg pre x r he hp;unfold xJ at he;split at he<;>cases he
 . exact PE (hp:=hp) ..
theorem Io(l:List ak) (key:Ky) (hl:l.length<=1000000) (hr:cF l):OK 55 [.list false 7 (aG l),.str key] [] (.tuple [ev (kG l key),.bool (fL l key)]) none:=by
 by_cases hh:fL l key=true
 . rw[show kG l key=(l.getD (less l key) default).value from if_pos hh];refine aq (C:=cx [(57,xJ)]) (ar ⟨D9,trivial⟩) (fn:=Tryz.f55) fun hw _=>?_;have hd0:=dZ l;have hR:=mn hr hl;have hk:=of_decide_eq_true hh;repeat'((conv=>whnf);first|apply af|(apply av<;>intro h)|with_reducible refine nr ?_ ?_)
   all_goals try conv=>whnf
   all_goals try(refine ae.mk ?_;try dsimp only)
   all_goals (try simp only[hd0] at*)
   . exact hR
   . omega
   . exact hk.1
   . rw[show fL l key=true from decide_eq_true hk];refine ab.mk [] ?_<;>(repeat' first|trivial)
   . exact absurd hk (by assumption)
 . refine eU.res (x:=.tuple [.agg [.int .u8 0,.str [],.int .i64 0,.int .u64 0,.list true 0 [],.list true 0 []],.bool false]) ?_ ?_
   . refine aq (C:=cx [(57,xJ)]) (ar ⟨D9,trivial⟩) (fn:=Tryz.f55) fun hw _=>?_;have hd0:=dZ l;have hR:=mn hr hl;repeat'((conv=>whnf);first|apply af|(apply av<;>intro h)|with_reducible refine nr ?_ ?_)
     all_goals try conv=>whnf
     all_goals try(refine ae.mk ?_;try dsimp only)
     all_goals (try simp only[hd0] at*)
     . exact hR
     . omega
     . exact ‹_/\_›.1
     . exact absurd ‹_/\_› (fun q=>hh (decide_eq_true q))
     . refine ab.mk [] ?_<;>(repeat' first|trivial)
   . rw[show kG l key=default from if_neg hh,show fL l key=false by simpa using hh];exact Wk.tuple (ba.cons (Wk.agg (ba.cons (Wk.refl _) (ba.cons (Wk.refl _) (ba.cons (Wk.refl _) (ba.cons (Wk.refl _) (ba.cons (Wk.nil (.inl rfl)) (ba.cons (Wk.nil (.inl rfl)) ba.nil))))))) (ba.cons (Wk.refl _) ba.nil))
def EL:Sm:=fun args σ=>match args,σ with
 |[.list false 7 x,.str key],[]=>some (nO x,.tuple [ev (kG (bI x) key),.bool (fL (bI x) key)],none)
 |_,_=>none
-- #name atGet attrs.Get
theorem TC:ax 55 EL:=by
 intro args sg pre x r he hp;unfold EL at he;split at he<;>cases he;obtain⟨h1,h2,h3⟩:=hp;have h4:=congrArg List.length h1;rw[cX] at h4;have:=Io _ ‹Ky› (by omega) h3;rw[<-h1] at this;exact this
def bf(l:List ak) (key:Ky):Ky:=(kG l key).text
def ey(l:List ak):Prop:=∀a∈l,a.value.kind=1
theorem Ze{l:List ak} (h:ey l) (key:Ky):((kG l key).kind=1\/kG l key=default):=by
 unfold kG;split
 . rename_i q;have:=(of_decide_eq_true q).1;refine .inl (h _ ?_);rw[ac,am this];exact List.getElem_mem this
 . exact .inr rfl
theorem Sh(t:gA) (n b:Int) (c1 c2:Bool) (z1 z2:Nat) (l m:List V) (hp:True):OK 121 ([.agg [.int .u8 1,.str t,.int .i64 n,.int .u64 b,.list c1 z1 l,.list c2 z2 m]]) ([]) (.iface 190 (.str t)) (none):=by
 refine aq (C:=cx []) (ar trivial) (fn:=Tryz.f121) fun hw hs=>?_;all_goals try conv=>whnf
 all_goals try(refine ae.mk ?_;try dsimp only)
 refine ab.mk [] ?_<;>(repeat' first|trivial)
theorem Si(t:gA) (n b:Int) (c1 c2:Bool) (z1 z2:Nat) (l m:List V) (hp:True):OK 121 ([.agg [.int .u8 0,.str t,.int .i64 n,.int .u64 b,.list c1 z1 l,.list c2 z2 m]]) ([]) (.iface 191 (.str [110,117,108,108])) (none):=by
 refine aq (C:=cx []) (ar trivial) (fn:=Tryz.f121) fun hw hs=>?_;all_goals try conv=>whnf
 all_goals try(refine ae.mk ?_;try dsimp only)
 refine ab.mk [] ?_<;>(repeat' first|trivial)
def Bg:Sm:=fun args σ=>match args,σ with
 |[.agg [.int .u8 1,.str t,.int .i64 n,.int .u64 b,.list c1 z1 l,.list c2 z2 m]],[]=>some (True,.iface 190 (.str t),none)
 |[.agg [.int .u8 0,.str t,.int .i64 n,.int .u64 b,.list c1 z1 l,.list c2 z2 m]],[]=>some (True,.iface 191 (.str [110,117,108,108]),none)
 |_,_=>none
theorem Kh:ax 121 Bg:=by
 intro args sg pre x r he hp;unfold Bg at he;split at he<;>cases he
 . exact Sh (hp:=hp) ..
 . exact Si (hp:=hp) ..
theorem Sf(t:gA) (n b:Int) (c1 c2:Bool) (z1 z2:Nat) (l m:List V) (hp:True):OK 78 ([.agg [.int .u8 1,.str t,.int .i64 n,.int .u64 b,.list c1 z1 l,.list c2 z2 m]]) ([]) (.str t) (none):=by
 refine aq (C:=cx [(121,Bg)]) (ar ⟨Kh,trivial⟩) (fn:=Tryz.f78) fun hw hs=>?_;repeat'((conv=>whnf);apply af)
 all_goals try conv=>whnf
 all_goals try(refine ae.mk ?_;try dsimp only)
 refine ab.mk [] ?_<;>(repeat' first|trivial)
theorem Sg(t:gA) (n b:Int) (c1 c2:Bool) (z1 z2:Nat) (l m:List V) (hp:True):OK 78 ([.agg [.int .u8 0,.str t,.int .i64 n,.int .u64 b,.list c1 z1 l,.list c2 z2 m]]) ([]) (.str []) (none):=by
 refine aq (C:=cx [(121,Bg)]) (ar ⟨Kh,trivial⟩) (fn:=Tryz.f78) fun hw hs=>?_;repeat'((conv=>whnf);apply af)
 all_goals try conv=>whnf
 all_goals try(refine ae.mk ?_;try dsimp only)
 refine ab.mk [] ?_<;>(repeat' first|trivial)
def Bf:Sm:=fun args σ=>match args,σ with
 |[.agg [.int .u8 1,.str t,.int .i64 n,.int .u64 b,.list c1 z1 l,.list c2 z2 m]],[]=>some (True,.str t,none)
 |[.agg [.int .u8 0,.str t,.int .i64 n,.int .u64 b,.list c1 z1 l,.list c2 z2 m]],[]=>some (True,.str [],none)
 |_,_=>none
theorem Kg:ax 78 Bf:=by
 intro args sg pre x r he hp;unfold Bf at he;split at he<;>cases he
 . exact Sf (hp:=hp) ..
 . exact Sg (hp:=hp) ..
def AA(l:List ak) (key:Ky) (v:aM):Sm:=fun args σ=>match args,σ with
 |[.list false 7 x,.str k],[]=>some (x=aG l/\k=key,.tuple [ev v,.bool (fL l key)],none)
 |_,_=>none
theorem PH(l:List ak) (key:Ky) (hl:l.length<=1000000) (hr:cF l) (ht:ey l):OK 36 [.list false 7 (aG l),.str key] [] (.str (bf l key)) none:=by
 have hg:ax 55 (AA l key (kG l key)):=by
  intro args sg pre x r he hp;unfold AA at he;split at he<;>cases he;rw[hp.1,hp.2];exact Io l key hl hr
 have hv:=Ze ht key;unfold bf;generalize kG l key=v at*;obtain⟨k,t,n,b,L,M⟩:=v;rcases hv with h|h
 . have h:k=1:=h;subst h;refine aq (C:=cx [(55,AA l key (.mk 1 t n b L M)),(78,Bf)]) (ar ⟨hg,Kg,trivial⟩) (fn:=Tryz.f36) fun hw _=>?_;repeat'((conv=>whnf);apply af)
   all_goals try conv=>whnf
   all_goals try(refine ae.mk ?_;try dsimp only)
   . exact⟨rfl,rfl⟩
   . refine ab.mk [] ?_<;>(repeat' first|trivial)
 . cases h;refine aq (C:=cx [(55,AA l key default),(78,Bf)]) (ar ⟨hg,Kg,trivial⟩) (fn:=Tryz.f36) fun hw _=>?_;repeat'((conv=>whnf);apply af)
   all_goals try conv=>whnf
   all_goals try(refine ae.mk ?_;try dsimp only)
   . exact⟨rfl,rfl⟩
   . refine ab.mk [] ?_<;>(repeat' first|trivial)
def uP:Sm:=fun args σ=>match args,σ with
 |[.list false 7 x,.str key],[]=>some (nO x/\ey (bI x),.str (bf (bI x) key),none)
 |_,_=>none
-- #name atText attrs.Text
theorem zl:ax 36 uP:=by
 intro args sg pre x r he hp;unfold uP at he;split at he<;>cases he;obtain⟨⟨h1,h2,h3⟩,ht⟩:=hp;have h4:=congrArg List.length h1;rw[cX] at h4;have:=PH _ ‹Ky› (by omega) h3 ht;rw[<-h1] at this;exact this
end Go.Proofs.YtchllohbglebiaaGreatDoor
