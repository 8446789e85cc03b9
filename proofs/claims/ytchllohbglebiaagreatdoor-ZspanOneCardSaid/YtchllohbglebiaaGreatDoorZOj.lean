/-
  A part of the proof.
-/
import Derived.Test.YtchllohbglebiaaGreatDoorZOe
import Derived.Test.YtchllohbglebiaaGreatDoorZXa
set_option linter.unusedSimpArgs false
set_option linter.unusedVariables false
set_option maxHeartbeats 4000000
set_option maxRecDepth 100000
namespace Go.Proofs.YtchllohbglebiaaGreatDoor
open Go Go.VG
theorem lF:∀{l:List Int},cr l=0->∀x∈l,x=0
 |[],_,_,h=>by cases h
 |a::r,h,x,hx=>by
   rw[dO] at h;split at h
   . rename_i q;exact absurd h q
   . rename_i q;rcases List.mem_cons.1 hx with rfl|hx
     . exact Decidable.not_not.1 q
     . exact lF h x hx
theorem ID{l:List It} {x:It} {z:Nd} (h:x∈l) (hz:z∈x.1):z∈aJ l:=by
 induction l with
 |nil=>cases h
 |cons y l ih=>
   show z∈y.1++aJ l;rcases List.mem_cons.1 h with rfl|h
   . exact List.mem_append.2 (.inl hz)
   . exact List.mem_append.2 (.inr (ih h))
def gS(L:List Nd):Prop:=∀z∈L,Tx z.key/\(z.k.toNat=115->Tx z.t)
theorem TT.txts{d m:Nat} {L:List Nd} {x:gA} (h:TT d L x) (hm:m<=3200):rl m L->Tx (kJ L).key->gS L:=by
 induction h with
 |leaf d k key t h hl=>
   intro hb hk z hz;rw[List.mem_singleton] at hz;subst hz;refine⟨hk,fun q=>⟨?_,Nat.le_trans (hb _ List.mem_cons_self).2 hm⟩⟩;have q:k.toNat=115:=q;rcases h with ⟨_,h⟩|⟨h,_⟩|⟨h,_⟩|⟨h,_⟩
   . exact h
   . rw[show k=110 from h] at q;cases q
   . have e:k=115:=UInt8.toNat_inj.1 q;subst e;cases h
   . rcases h with h|h|h<;>(rw[show k=_ from h] at q;cases q)
 |pg d key l h hk ih=>
   intro hb h0 z hz;rcases List.mem_cons.1 hz with rfl|hz
   . exact⟨h0,fun q=>by cases q⟩
   . obtain⟨y,hy,hzy⟩:=wC hz;exact ih y hy (fun w hw=>hb w (d5 _ (ID hy hw))) (by
      have:=hk y hy;show Tx (aS y);rw[this];exact oI) z hzy
 |obj d key l h hk ht ih=>
   intro hb h0 z hz;rcases List.mem_cons.1 hz with rfl|hz
   . exact⟨h0,fun q=>by cases q⟩
   . obtain⟨y,hy,hzy⟩:=wC hz;have hbz:=fun w (hw:w∈y.1) =>hb w (d5 _ (ID hy hw));exact ih y hy hbz ⟨ht y hy,Nat.le_trans (hbz _ (Te (h y hy).pos.1)).1 hm⟩ z hzy
section
variable {L:List Nd} {q:Int}
theorem Kn(h:gS L) {k:Nat} (hk:k<L.length):Tx (L.getD k default).key/\((L.getD k default).k.toNat=115->Tx (L.getD k default).t):=by
 rw[ac,am hk];exact h _ (List.getElem_mem hk)
theorem GO(h:gS L) (q:Int) (key:Ky):Tx (bO L q key):=by
 unfold bO p0;split
 . exact oI
 . rename_i h0;rcases E3 L q key 115 115 with g|⟨_,g2,_,g4⟩
   . exact absurd (by rw[g];decide) h0
   . exact(Kn h (k:=(aT L q key 115 115).1.toNat) (by omega)).2 (by omega)
theorem O7(h:gS L) (q:Int) (key:Ky):Tx (cV L q key):=by
 unfold cV;split
 . exact GO h _ _
 . exact oI
theorem D4{b:gA} (h:(ik b).1=0):jT b=false/\(ik b).2=b:=by
 unfold ik at h⊢;split at h
 . cases h
 . rename_i q;rw[if_neg q];exact⟨by simpa using q,rfl⟩
theorem Z2{s:gA} (h:(fu s).1=0):(fu s).2.length=16/\jT (fu s).2=false:=by
 unfold fu at h⊢;split at h
 . rename_i q;rw[if_pos q];obtain⟨a,b⟩:=D4 h;have:=qt q.1;rw[b];exact⟨by omega,a⟩
 . rename_i q;rw[if_neg q];split at h
   . rename_i q2;rw[if_pos q2];obtain⟨a,b⟩:=D4 h;have:=qt q2.1;rw[b];exact⟨by unfold qL;simp;omega,a⟩
   . cases h
theorem Jq{s:gA} (h:(jK s).1=0):(jK s).2.length=8/\jT (jK s).2=false:=by
 unfold jK at h⊢;split at h
 . rename_i q;rw[if_pos q];obtain⟨a,b⟩:=D4 h;have:=qt q.1;rw[b];exact⟨by omega,a⟩
 . cases h
theorem nn_ok{b:Bool} (h:nn b=0):b=true:=by
 unfold nn at h;split at h
 . assumption
 . cases h
theorem zn_ok(h:dW L q=0):((bJ L q).length=16/\jT (bJ L q) =false)/\((cU L q).length=8/\jT (cU L q) =false)/\(bM L q=[]\/((bM L q).length=8/\jT (bM L q) =false)):=by
 have a:=lF (l:=[mm L q,c8 L q iq]) h;have h3:=a _ List.mem_cons_self;have b:=lF (l:=[ml L q,nn (c7 L q dh),dV L q fX]) h3;have h2:=b _ List.mem_cons_self;have hid:=nn_ok (b (nn (c7 L q dh)) (by simp));have hpa:=b (dV L q fX) (by simp);have c:=lF (l:=[mj L q,dV L q dh]) h2;have h1:=c _ List.mem_cons_self;have hi:=c (dV L q dh) (by simp);have d:=lF (l:=[c8 L q ct,nn (c7 L q ct),(fu (bO L q ct)).1]) h1;have ht:=d (fu (bO L q ct)).1 (by simp);have zi:∀key,dV L q key=0->iR L q key=[]\/((iR L q key).length=8/\jT (iR L q key) =false):=fun key e=>by
  have e2:=lF (l:=[c8 L q key,if c7 L q key=true then(jK (bO L q key)).1 else 0]) e _ (d5 _ List.mem_cons_self);unfold iR;split at e2
  . rename_i g;rw[if_pos g];exact .inr (Jq e2)
  . rename_i g;rw[if_neg g];exact .inl rfl
 refine⟨?_,?_,?_⟩
 . unfold bJ;rw[if_pos h1];exact Z2 ht
 . unfold cU;rw[if_pos h2];have e2:=lF (l:=[c8 L q dh,if c7 L q dh=true then(jK (bO L q dh)).1 else 0]) hi _ (d5 _ List.mem_cons_self);rw[if_pos hid] at e2;unfold iR;rw[if_pos hid];exact Jq e2
 . unfold bM;rw[if_pos h3];exact zi fX hpa
theorem zk_ok:gp L q=0\/gp L q=2\/gp L q=3\/gp L q=4\/gp L q=5:=by
 unfold gp gQ;repeat' split
 all_goals simp
theorem T4(h:gS L):∀ks:List Nat,(∀k∈ks,k<L.length)->jl L ks=0->iy (ks.map (jg L)):=by
 intro ks hk h0 a ha;obtain⟨k,hm,rfl⟩:=List.mem_map.1 ha;rw[G9] at h0;have e:=lF h0 (jv L k) (List.mem_map_of_mem hm);have g:=Kn h (hk k hm);refine⟨_,_,rfl,g.1,g.2 ?_⟩;unfold jv at e;split at e
 . cases e
 . rename_i q;exact Decidable.not_not.1 q
theorem Hu:∀(l acc:List ak),iy l->iy acc->cF acc->iy (cS l acc)
 |[],acc,_,h,_=>by rw[cS];exact h
 |a::r,acc,hl,h,hr=>by
   obtain⟨k,s,rfl,h1,h2⟩:=hl a List.mem_cons_self;rw[cS,Ht];exact Hu r _ (fun x hx=>hl x (d5 _ hx)) (h.cf hr h1 h2) (p6 hr)
theorem ZN(h:gS L) (h0:jc L q=0):iy (bm L q):=by
 have e:=lF (l:=[km L q bk,jl L (nL L q)]) h0 _ (d5 _ List.mem_cons_self);refine Hu _ _ (T4 h _ (fun k hk=>?_) e) (fun _ q=>by cases q) List.Pairwise.nil;unfold nL at hk;split at hk
 . exact ui hk
 . cases hk
theorem Zd{l:List ak} (hr:cF l) (h:iy l) (k:Ky):Tx (bf l k):=by
 by_cases q:bf l k=[]
 . rw[q];exact oI
 . obtain⟨x,hx,rfl⟩:=D0 q;exact(qZ hr h hx).2.2
theorem ZF(h:gS L) (h0:jc L q=0):l9 (dk L q) (dr (bm L q)) (dA (bm L q)):=by
 have hr:=xZ L q;have ht:=ZN h h0;have hd:=nT (ks:=[cA,dz]) hr;refine⟨vr L q,?_,?_,?_⟩
 . unfold dk;split
   . exact ht.drop.cf hd (BC (by decide) (by decide)) (O7 h _ _)
   . exact ht.drop
 . have hk:∀x∈dy (bm L q) [cA,dz],x.key≠cA/\x.key≠dz:=fun x hx=>by
     have:=(tG.1 hx).2;rw[List.mem_cons,List.mem_singleton,not_or] at this;exact this
   intro x hx;unfold dk at hx;split at hx
   . rcases wK hd hx with rfl|g
     . exact⟨by show bU≠cA;decide,by show bU≠dz;decide⟩
     . exact hk x g
   . exact hk x hx
 . by_cases g:ua (bm L q) cA
   . exact .inr (.inr ⟨(Bq g).1,by rw[(Bq g).2];exact Zd hr ht _⟩)
   . by_cases g2:bf (bm L q) dz=xV
     . exact .inr (.inr ⟨(Br g g2).1,by rw[(Br g g2).2];exact oI⟩)
     . by_cases g3:bf (bm L q) dz=mg
       . exact .inr (.inl (G5 g g3))
       . exact .inl (G6 g g2 g3)
theorem zv_ok(h:gS L) (h0:jd L q=0):∀e∈fR L q,rh e:=by
 have e0:=lF (l:=[n7 L q bh,gF L (cj L q bh)]) h0 _ (d5 _ List.mem_cons_self);intro e he;obtain⟨k,hm,rfl⟩:=List.mem_map.1 he;rw[CA] at e0;have e1:=lF e0 (dv L k) (List.mem_map_of_mem hm);have e2:=lF (l:=[if(L.getD k default).k.toNat≠123 then 7 else 0,eS L k bz,nn (oM L k bz),c8 L k fY,nn (c7 L k fY),(bE (fw L k bz)).1]) e1 (bE (fw L k bz)).1 (by simp);obtain⟨a,b,c⟩:=DD e2;exact⟨rfl,GO h _ _,⟨_,by show(bE _).2=_;rw[c],a,b⟩⟩
def lP(L:List Nd) (q:Int):cC:=⟨bJ L q,cU L q,bM L q,gu L q,gp L q,fw L q bz,fw L q eP,cV L q c5,dk L q,dr (bm L q),dA (bm L q),fR L q⟩
theorem qW(h:gS L) (h0:zE L q=0):(lP L q).Ok:=by
 have a:=lF (l:=[if 0<=q/\q<L.length/\(L.getD q.toNat default).k.toNat=123 then 0 else 7,dW L q,gP L q,gO L q,er L q c5,er L q ff,jd L q,jc L q]) h0;obtain⟨n1,n2,n3⟩:=zn_ok (a (dW L q) (by simp));have hh:=lF (l:=[eS L q bz,eS L q eP,(dm L q).1]) (a (gO L q) (by simp)) (dm L q).1 (by simp);refine⟨n1,n2,n3,?_,zk_ok,hh,O7 h _ _,ZF h (a (jc L q) (by simp)),zv_ok h (a (jd L q) (by simp))⟩;show Tx (gu L q);unfold gu;split
 . exact GO h _ _
 . exact oI
theorem YD(h:gS L) (h0:zE L q=0):zE (lP L q).tree (0:Nat) =0/\iQ (lP L q).tree (0:Nat) =iQ L q/\cV (lP L q).tree (0:Nat) c5=cV L q c5:=by
 have k:=qW h h0;obtain⟨b1,b2⟩:=k.back;obtain⟨_,c1,c2,c3,c4⟩:=k.names;refine⟨b1,?_,k.local.2⟩;unfold iQ BN;rw[b2,c1,c2,c3,c4,k.kind.2,k.when.2,k.events.2,k.vg.2];have s1:dr (lP L q).tags=dr (bm L q):=k.ao.status.1;have s2:dA (lP L q).tags=dA (bm L q):=k.ao.status.2;rw[s1,s2];rfl
end
structure Fl(l:List It) (n:Nat):Prop where
 b:rl 3200 (aJ l)
 n:(aJ l).length<=n
theorem Fl.nil:Fl [] 0:=⟨fun _ h=>absurd h List.not_mem_nil,cb _⟩
theorem Fl.app{l m:List It} {a b:Nat} (h:Fl l a) (k:Fl m b):Fl (l++m) (a+b):=by
 refine⟨fun z hz=>?_,?_⟩
 . rw[tZ,List.mem_append] at hz;rcases hz with q|q
   . exact h.b z q
   . exact k.b z q
 . rw[tZ,an];exact Nat.add_le_add h.n k.n
theorem Fl.mono{l:List It} {a b:Nat} (h:Fl l a) (k:a<=b):Fl l b:=⟨h.b,Nat.le_trans h.n k⟩
theorem Fl.one{x:It} (h:rl 3200 x.1):Fl [x] x.1.length:=by
 have e:aJ [x]=x.1:=List.append_nil _;exact⟨by rw[e];exact h,by rw[e];exact cb _⟩
theorem Fl.s{k s:Ky} (h:k.length<=3200) (h2:s.length<=3200):Fl [iS k s] 1:=Fl.one fun z hz=>by
 rw[List.mem_singleton] at hz;subst hz;exact⟨h,h2⟩
theorem Fl.i{k:Ky} {n:Int} (h:k.length<=3200) (h2:(fB n).length<=3200):Fl [iN k n] 1:=Fl.one fun z hz=>by
 rw[List.mem_singleton] at hz;subst hz;exact⟨h,h2⟩
theorem Fl.o{k:Ky} {l:List It} {n:Nat} (h:k.length<=3200) (hl:Fl l n):Fl [iO k l] (n+1):=by
 refine(Fl.one (x:=iO k l) fun z hz=>?_).mono (by show(aJ l).length+1<=_;have:=hl.n;omega);rcases List.mem_cons.1 hz with rfl|hz
 . exact⟨h,bu _⟩
 . exact hl.b z hz
theorem Fl.l{k:Ky} {l:List It} {n:Nat} (h:k.length<=3200) (hl:Fl l n):Fl [iL k l] (n+1):=by
 refine(Fl.one (x:=iL k l) fun z hz=>?_).mono (by show(aJ l).length+1<=_;have:=hl.n;omega);rcases List.mem_cons.1 hz with rfl|hz
 . exact⟨h,bu _⟩
 . exact hl.b z hz
theorem Fl.map{α:Type} {g:α->It} {c:Nat}:∀(l:List α),(∀a∈l,Fl [g a] c)->Fl (l.map g) (c*l.length)
 |[],_=>Fl.nil
 |a::r,h=>by
   have:=(h a List.mem_cons_self).app (Fl.map r fun x hx=>h x (d5 _ hx));rw[List.length_cons,Nat.mul_add,Nat.mul_one,Nat.add_comm];exact this
theorem Cj{n:Int} (h:0<=n) (h2:n<=9223372036854775807):(fB n).length<=3200:=by
 unfold fB;rw[if_neg (by omega)];exact Nat.le_trans (yG 18 n.toNat (by omega)) (by decide)
theorem Fl.x{k s:Ky} (h:k.length<=3200) (h2:s.length<=3200):Fl (iX k s) 1:=by
 unfold iX;split
 . exact Fl.nil.mono (by decide)
 . exact Fl.s h h2
theorem Fl.e{k s:Ky} (h:k.length<=3200) (h2:s.length<=3200):Fl (iE k s) 2:=by
 unfold iE;split
 . exact Fl.nil.mono (by decide)
 . exact Fl.o h (Fl.s (by decide) h2)
theorem cC.Ok.fl{x:cC} (h:x.Ok):Fl x.cQ (3*x.evs.length+1*x.tags.length+20):=by
 obtain⟨⟨b1,b2⟩,⟨d1,d2⟩,_⟩:=DT h.bd;obtain⟨c1,c2⟩:=h.ao.c;have k1:Fl [iS ct (bP x.t),iS dh (bP x.i)] 2:=(Fl.s (by decide) (by rw[fH,h.t.1];decide)).app (Fl.s (by decide) (by rw[fH,h.i.1];decide));have k2:Fl (iP (decide (x.p=[])) x.p) 1:=by
  unfold iP;split
  . exact Fl.nil.mono (by decide)
  . refine Fl.s (by decide) ?_;rw[fH];rcases h.p with q|q
    . rw[q];decide
    . rw[q.1];decide
 have k3:Fl (iX iq x.nm) 1:=Fl.x (by decide) h.nm.2;have k4:Fl (iX cJ (iH x.kd)) 1:=Fl.x (by decide) (by
  unfold iH;repeat' split
  all_goals decide)
 have k5:Fl [iN bz x.b,iN eP x.d] 2:=(Fl.i (by decide) (Cj b1 (by omega))).app (Fl.i (by decide) (Cj d1 (by omega)));have k6:Fl (iE c5 x.svc) 2:=Fl.e (by decide) h.svc.2;have k7:Fl (iE ff (bf x.att bU)) 2:=Fl.e (by decide) h.ao.zV.2;have k8:Fl (iA x.evs) (3*x.evs.length+1):=by
  unfold iA;split
  . exact Fl.nil.mono (by omega)
  . refine Fl.l (by decide) (Fl.map _ fun e he=>?_);obtain⟨u,hu,u0,u1⟩:=(h.ev e he).t;have hm:ga e.time=u:=by unfold ga;omega
    exact Fl.o (n:=2) (bu _) ((Fl.i (by decide) (by rw[hm];exact Cj u0 (by omega))).app (Fl.s (by decide) (h.ev e he).n.2))
 have k9:Fl (iT x.tags) (1*x.tags.length+1):=by
  unfold iT;split
  . exact Fl.nil.mono (by omega)
  . refine Fl.o (by decide) (Fl.map _ fun a ha=>?_);have:=qZ c1 c2 ha;exact Fl.s this.2.1.2 this.2.2.2
 exact(((((((((k1.app k2).app k3).app k4).app k5).app k6).app k7).app k8).app k9)).mono (by omega)
theorem YG{x:cC} (h:x.Ok) (h1:x.evs.length<=801) (h2:x.tags.length<=803):cR (x.tree.map aW)/\x.tree.length<=10000:=by
 have hf:=h.fl;have hl:x.tree.length=(aJ x.cQ).length+1:=by unfold cC.tree iO;simp
 have hn:=hf.n;have ht:TT (31+1) x.tree (iO [] x.cQ).2:=TT.obj 31 [] _ h.tt (nu _) fun y hy=>?_
 . have h5:=ht.sz;have hb:∀z∈x.tree,z.key.length<=3200/\z.t.length<=3200:=fun z hz=>by
    rcases List.mem_cons.1 hz with rfl|hz
    . exact⟨bu _,bu _⟩
    . exact hf.b z hz
   unfold cR;rw[eh];exact⟨⟨⟨pj,fun z hz=>⟨(h5 z hz).1,(h5 z hz).2,by have:=(hb z hz).1;omega,by have:=(hb z hz).2;omega⟩,by omega⟩,fun z hz=>by have:=(hb z hz).2;omega⟩,by omega⟩
 . have:=List.mem_map_of_mem (f:=aS) hy;rcases p8 this with (q|q)|⟨_,q⟩|⟨_,q⟩|⟨_,q⟩|(q|q)|⟨_,q⟩|⟨_,q⟩|⟨_,q⟩|⟨_,q⟩<;>(rw[q];exact r7 (by decide))
end Go.Proofs.YtchllohbglebiaaGreatDoor
