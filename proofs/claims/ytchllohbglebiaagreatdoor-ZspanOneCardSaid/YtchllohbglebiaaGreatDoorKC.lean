/-
  A part of the proof.
-/
import Derived.Test.YtchllohbglebiaaGreatDoorJNd
set_option linter.unusedSimpArgs false
set_option linter.unusedVariables false
set_option maxHeartbeats 4000000
set_option maxRecDepth 100000
namespace Go.Proofs.YtchllohbglebiaaGreatDoor
open Go Go.VG
theorem gM:Int.toNat 0=0:=rfl
theorem gN:Int.toNat 1=1:=rfl
def fQ(s:gA):Nat:=s.foldl (fun n b=>10*n+(b.toNat-48)) 0
theorem Ny(s:gA) (b:UInt8):fQ (s++[b]) =10*fQ s+(b.toNat-48):=by unfold fQ;rw[List.foldl_append];rfl
theorem Nz(s:gA):∀n,s.foldl (fun n b=>10*n+(b.toNat-48)) n=n*10^s.length+fQ s:=by
 unfold fQ
 induction s with
 |nil=>intro n;simp
 |cons b s ih=>
   intro n;rw[List.foldl_cons,List.foldl_cons,ih,ih (10*0+_),List.length_cons,Nat.pow_succ];rw[Nat.add_mul,Nat.mul_zero,Nat.zero_add,Nat.mul_comm 10 n,Nat.mul_assoc,Nat.mul_comm 10,Nat.add_assoc]
theorem Zm(b:UInt8) (s:gA):fQ (b::s) =(b.toNat-48)*10^s.length+fQ s:=by
 show(b::s).foldl _ 0=_;rw[List.foldl_cons,Nz];simp
theorem Zl(s t:gA):fQ (s++t) =fQ s*10^t.length+fQ t:=by
 show(s++t).foldl _ 0=_;rw[List.foldl_append,Nz];rfl
def aY(s:gA):Prop:=∀b∈s,bq b=true
theorem mz{s:gA} (h:aY s) {i:Nat} (hi:i<s.length):48<=(s.getD i 0).toNat/\(s.getD i 0).toNat<=57:=by
 rw[ac,am hi];exact of_decide_eq_true (h _ (List.getElem_mem hi))
theorem Zo(s:gA) (i:Nat):fQ (s.take i)<=fQ s:=by
 have e:=Zl (s.take i) (s.drop i);rw[List.take_append_drop] at e;rw[e];exact Nat.le_trans (Nat.le_mul_of_pos_right _ (Nat.pow_pos (by decide))) (Nat.le_add_right _ _)
theorem BH{s:gA} {i:Nat} (hi:i<s.length):fQ (s.take (i+1)) =10*fQ (s.take i)+((s.getD i 0).toNat-48):=by
 rw[sM hi,Ny]
def jZ(s:gA):Bool:=s.all bq&&(decide (s=[48])||(decide (s≠[])&&decide ((s.getD 0 0).toNat≠48)))
theorem IE{s:gA} (h:jZ s=true):aY s:=by
 unfold jZ at h;rw[zza,List.all_eq_true] at h;exact h.1
theorem IF{s:gA} (h:s=[]\/((s.getD 0 0).toNat=48/\s.length>1)):jZ s=false:=by
 unfold jZ;rcases h with rfl|⟨h1,h2⟩
 . decide
 . rw[decide_eq_false (fun e=>by rw[e] at h2;simp at h2),decide_eq_false (p:=_≠48) (by omega)];simp
theorem yS{s:gA} {i:Nat} (hi:i<s.length) (h:(s.getD i 0).toNat<48\/(s.getD i 0).toNat>57):jZ s=false:=by
 cases e:jZ s with
 |false=>rfl
 |true=>have:=mz (IE e) hi;omega
theorem CJ{s:gA} (h0:s≠[]) (h:(s.getD 0 0).toNat=48->¬s.length>1) (hd:aY s):jZ s=true:=by
 unfold jZ;rw[zza,List.all_eq_true,Bool.or_eq_true,zza,decide_eq_true_eq,decide_eq_true_eq,decide_eq_true_eq];refine⟨hd,?_⟩;by_cases e:(s.getD 0 0).toNat=48
 . left;have:=h e;cases s with
   |nil=>exact absurd rfl h0
   |cons b s=>
     have:s=[]:=by cases s with
      |nil=>rfl
      |cons=>simp at this
     subst this;rw[show b=48 from UInt8.toNat_inj.1 e]
 . exact .inr ⟨h0,e⟩
structure Dg(s:gA) (i:Nat):Prop where
 le:i<=s.length
 d:aY (s.take i)
theorem Dg.next{s:gA} {i:Nat} (h:Dg s i) (hi:i<s.length) (h1:¬(s.getD i 0).toNat<48) (h2:¬(s.getD i 0).toNat>57):Dg s (i+1):=
 ⟨by omega,by
  rw[sM hi];intro b hb;rcases List.mem_append.1 hb with hb|hb
  . exact h.d b hb
  . rw[List.mem_singleton.1 hb];unfold bq;rw[decide_eq_true_eq];omega⟩
theorem Dg.all{s:gA} {i:Nat} (h:Dg s i) (hi:¬i<s.length):aY s:=by
 have:=h.d;rwa [eo (by omega)] at this
theorem Dg.zero(s:gA):Dg s 0:=⟨bu _,fun _ h=>by cases h⟩
theorem w8{b:Nat} (h:48<=b/\b<=57):IntKind.u8.wrap ((b:Int)-48) =((b-48:Nat):Int):=by rw[sS];omega
theorem wI{n:Int} (h:0<=n) (k:n<=9223372036854775807):IntKind.i64.wrap n=n:=by rw[bX];omega
theorem wU{n:Int} (h:0<=n) (k:n<=18446744073709551615):IntKind.u64.wrap n=n:=by rw[kj];omega
theorem PT(s:gA) (hp:s.length<=100000000):OK 188 ([.str s]) ([]) (.bool (jZ s)) (none):=by
 refine aq (C:=cx []) (ar trivial) (fn:=Tryz.f188) fun hw hs=>?_;have hne:s≠[]->0<s.length:=fun h=>by cases s;exact absurd rfl h;simp
 repeat'((conv=>whnf);first|apply af|((first|apply av|apply gI)<;>intro h)|with_reducible refine lG ?_ fun hc=>?_)
 all_goals try conv=>whnf
 all_goals try(refine ae.mk ?_;try dsimp only)
 all_goals (try simp only[gM,gN] at*)
 all_goals first|refine stay ?_|trivial|skip
 . rw[IF (.inl ‹_›)];refine ab.mk [] ?_<;>(repeat' first|trivial)
 . exact hne ‹_›
 . rw[IF (.inr ⟨by omega,by omega⟩)];refine ab.mk [] ?_<;>(repeat' first|trivial)
 . refine aZ.mk Nat (Dg s) (fun i=>⟨32,[(0,.str s),(17,.int .i64 s.length),(18,.int .i64 i)],[],[]⟩) (fun i=>s.length-i) [] 0 (.zero s) ?_ (fun i hI _ _=>?_)
   . apply ay<;>(repeat' first|trivial)
   have hle:=hI.le;have hb:(s.getD i 0).toNat<256:=UInt8.toNat_lt _;repeat'((conv=>whnf);first|apply af|(apply av<;>intro h)|with_reducible refine fG ?_ fun hc=>?_)
   all_goals try conv=>whnf
   all_goals try(refine ae.mk ?_;try dsimp only)
   all_goals (try simp only[gM,gN] at*)
   all_goals first|refine stay ?_|omega|skip
   . rw[yS (i:=i) (by omega) (by omega)];refine ab.mk [] ?_<;>(repeat' first|trivial)
   . rw[yS (i:=i) (by omega) (by omega)];refine ab.mk [] ?_<;>(repeat' first|trivial)
   . refine⟨[],i+1,hI.next (by omega) (by omega) (by omega),?_,by omega⟩;apply ay<;>(repeat' first|trivial|apply ah|apply aN)
     all_goals (simp(discharger:=omega) only[wR];omega)
   . rw[CJ ‹s≠_› (by omega) (hI.all (by omega))];refine ab.mk [] ?_<;>(repeat' first|trivial)
 . refine aZ.mk Nat (Dg s) (fun i=>⟨32,[(0,.str s),(17,.int .i64 s.length),(18,.int .i64 i)],[],[]⟩) (fun i=>s.length-i) [] 0 (.zero s) ?_ (fun i hI _ _=>?_)
   . apply ay<;>(repeat' first|trivial)
   have hle:=hI.le;have hb:(s.getD i 0).toNat<256:=UInt8.toNat_lt _;repeat'((conv=>whnf);first|apply af|(apply av<;>intro h)|with_reducible refine fG ?_ fun hc=>?_)
   all_goals try conv=>whnf
   all_goals try(refine ae.mk ?_;try dsimp only)
   all_goals (try simp only[gM,gN] at*)
   all_goals first|refine stay ?_|omega|skip
   . rw[yS (i:=i) (by omega) (by omega)];refine ab.mk [] ?_<;>(repeat' first|trivial)
   . rw[yS (i:=i) (by omega) (by omega)];refine ab.mk [] ?_<;>(repeat' first|trivial)
   . refine⟨[],i+1,hI.next (by omega) (by omega) (by omega),?_,by omega⟩;apply ay<;>(repeat' first|trivial|apply ah|apply aN)
     all_goals (simp(discharger:=omega) only[wR];omega)
   . rw[CJ ‹s≠_› (by omega) (hI.all (by omega))];refine ab.mk [] ?_<;>(repeat' first|trivial)
def ET:Sm:=fun args σ=>match args,σ with
 |[.str s],[]=>some (s.length<=100000000,.bool (jZ s),none)
 |_,_=>none
theorem TJ:ax 188 ET:=by
 intro args sg pre x r he hp;unfold ET at he;split at he<;>cases he
 . exact PT (hp:=hp) ..
def gn(m:Nat) (s:gA):Int×Int:=if fQ s<=m then(fQ s,0) else(0,4)
structure Wt(m:Nat) (s:gA) (i:Nat):Prop where
 le:i<=s.length
 v:fQ (s.take i)<=m
theorem NN{m:Nat} {s:gA} {i:Nat} (hi:i<s.length) (h:¬10*fQ (s.take i)+((s.getD i 0).toNat-48)<=m):gn m s=(0,4):=by
 have:=Zo s (i+1);rw[BH hi] at this;unfold gn;rw[if_neg (by omega)]
theorem NO{m:Nat} {s:gA} {i:Nat} (hI:Wt m s i) (hi:¬i<s.length):gn m s=((fQ (s.take i):Int),0):=by
 have h:=hI.v;rw[eo (by omega)] at h⊢;unfold gn;rw[if_pos h]
theorem Wt.next{m:Nat} {s:gA} {i:Nat} (hi:i<s.length) (h:10*fQ (s.take i)+((s.getD i 0).toNat-48)<=m):Wt m s (i+1):=⟨by omega,by rw[BH hi];exact h⟩
theorem PV(s:gA) (m:Int) (hp:aY s/\9<=m/\m<=9223372036854775807/\s.length<=100000000):OK 189 ([.str s,.int .i64 m]) ([]) (.tuple [.int .i64 (gn m.toNat s).1,.int .i64 (gn m.toNat s).2]) (none):=by
 refine aq (C:=cx []) (ar trivial) (fn:=Tryz.f189) fun hw hs=>?_;obtain⟨hd,h9,hm,hl⟩:=hp;obtain⟨m,rfl⟩:=Int.eq_ofNat_of_zero_le (show 0<=m by omega);rw[Int.toNat_natCast];all_goals try conv=>whnf
 all_goals try(refine ae.mk ?_;try dsimp only)
 refine aZ.mk Nat (Wt m s) (fun i=>⟨31,[(0,.str s),(1,.int .i64 m),(6,.int .i64 (fQ (s.take i))),(10,.int .i64 s.length),(11,.int .i64 i)],[],[]⟩) (fun i=>s.length-i) [] 0 ⟨bu _,bu _⟩ ?_ (fun i hI _ _=>?_)
 . apply ay<;>(repeat' first|trivial)
 have hle:=hI.le;have hv:=hI.v;have hb:=fun h=>mz hd (i:=i) h;repeat'((conv=>whnf);first|apply af|(apply av<;>intro h)|with_reducible refine fG ?_ fun hc=>?_)
 all_goals try conv=>whnf
 all_goals try(refine ae.mk ?_;try dsimp only)
 all_goals (try have hb:=hb (by omega))
 all_goals (try have e1:=w8 hb)
 all_goals (try have e2:IntKind.i64.wrap (((s.getD i 0).toNat-48:Nat):Int) =(((s.getD i 0).toNat-48:Nat):Int):=wI (by omega) (by omega))
 all_goals (try have e3:IntKind.i64.wrap ((m:Int)-(((s.getD i 0).toNat-48:Nat):Int)) =(m:Int)-(((s.getD i 0).toNat-48:Nat):Int):=wI (by omega) (by omega))
 all_goals (try have e4:((m:Int)-(((s.getD i 0).toNat-48:Nat):Int)).tdiv 10=((m:Int)-(((s.getD i 0).toNat-48:Nat):Int))/10:=Int.tdiv_eq_ediv_of_nonneg (by omega))
 all_goals (try have e5:IntKind.i64.wrap (((m:Int)-(((s.getD i 0).toNat-48:Nat):Int))/10) =((m:Int)-(((s.getD i 0).toNat-48:Nat):Int))/10:=wI (by omega) (by omega))
 all_goals (try simp only[e1,e2,e3,e4,e5] at*)
 all_goals (try simp only[gM,gN] at*)
 all_goals first|refine stay ?_|trivial|omega|skip
 . rw[NN (i:=i) (by omega) (by omega)];refine ab.mk [] ?_<;>(repeat' first|trivial)
 . refine⟨[],i+1,.next (by omega) (by omega),?_,by omega⟩;apply ay<;>(repeat' first|trivial|apply ah|apply aN)
   all_goals first
    |(rw[BH (by omega),wI (n:=(fQ (s.take i):Int)*10) (by omega) (by omega),wI (by omega) (by omega)];omega)
    |(simp(discharger:=omega) only[wR];omega)
 . rw[NO hI (by omega)];refine ab.mk [] ?_<;>(repeat' first|trivial)
def EV:Sm:=fun args σ=>match args,σ with
 |[.str s,.int .i64 m],[]=>some (aY s/\9<=m/\m<=9223372036854775807/\s.length<=100000000,.tuple [.int .i64 (gn m.toNat s).1,.int .i64 (gn m.toNat s).2],none)
 |_,_=>none
theorem TM:ax 189 EV:=by
 intro args sg pre x r he hp;unfold EV at he;split at he<;>cases he
 . exact PV (hp:=hp) ..
theorem PW(s:gA) (m:Int) (hp:aY s/\9<=m/\m<=9223372036854775808/\s.length<=100000000):OK 190 ([.str s,.int .u64 m]) ([]) (.tuple [.int .u64 (gn m.toNat s).1,.int .i64 (gn m.toNat s).2]) (none):=by
 refine aq (C:=cx []) (ar trivial) (fn:=Tryz.f190) fun hw hs=>?_;obtain⟨hd,h9,hm,hl⟩:=hp;obtain⟨m,rfl⟩:=Int.eq_ofNat_of_zero_le (show 0<=m by omega);rw[Int.toNat_natCast];all_goals try conv=>whnf
 all_goals try(refine ae.mk ?_;try dsimp only)
 refine aZ.mk Nat (Wt m s) (fun i=>⟨31,[(0,.str s),(1,.int .u64 m),(6,.int .u64 (fQ (s.take i))),(10,.int .i64 s.length),(11,.int .i64 i)],[],[]⟩) (fun i=>s.length-i) [] 0 ⟨bu _,bu _⟩ ?_ (fun i hI _ _=>?_)
 . apply ay<;>(repeat' first|trivial)
 have hle:=hI.le;have hv:=hI.v;have hb:=fun h=>mz hd (i:=i) h;repeat'((conv=>whnf);first|apply af|(apply av<;>intro h)|with_reducible refine fG ?_ fun hc=>?_)
 all_goals try conv=>whnf
 all_goals try(refine ae.mk ?_;try dsimp only)
 all_goals (try have hb:=hb (by omega))
 all_goals (try have e1:=w8 hb)
 all_goals (try have e2:IntKind.u64.wrap (((s.getD i 0).toNat-48:Nat):Int) =(((s.getD i 0).toNat-48:Nat):Int):=wU (by omega) (by omega))
 all_goals (try have e3:IntKind.u64.wrap ((m:Int)-(((s.getD i 0).toNat-48:Nat):Int)) =(m:Int)-(((s.getD i 0).toNat-48:Nat):Int):=wU (by omega) (by omega))
 all_goals (try have e4:((m:Int)-(((s.getD i 0).toNat-48:Nat):Int)).tdiv 10=((m:Int)-(((s.getD i 0).toNat-48:Nat):Int))/10:=Int.tdiv_eq_ediv_of_nonneg (by omega))
 all_goals (try have e5:IntKind.u64.wrap (((m:Int)-(((s.getD i 0).toNat-48:Nat):Int))/10) =((m:Int)-(((s.getD i 0).toNat-48:Nat):Int))/10:=wU (by omega) (by omega))
 all_goals (try simp only[e1,e2,e3,e4,e5] at*)
 all_goals (try simp only[gM,gN] at*)
 all_goals first|refine stay ?_|trivial|omega|skip
 . rw[NN (i:=i) (by omega) (by omega)];refine ab.mk [] ?_<;>(repeat' first|trivial)
 . refine⟨[],i+1,.next (by omega) (by omega),?_,by omega⟩;apply ay<;>(repeat' first|trivial|apply ah|apply aN)
   all_goals first
    |(rw[BH (by omega),wU (n:=(fQ (s.take i):Int)*10) (by omega) (by omega),wU (by omega) (by omega)];omega)
    |(simp(discharger:=omega) only[wR];omega)
 . rw[NO hI (by omega)];refine ab.mk [] ?_<;>(repeat' first|trivial)
def EW:Sm:=fun args σ=>match args,σ with
 |[.str s,.int .u64 m],[]=>some (aY s/\9<=m/\m<=9223372036854775808/\s.length<=100000000,.tuple [.int .u64 (gn m.toNat s).1,.int .i64 (gn m.toNat s).2],none)
 |_,_=>none
theorem TN:ax 190 EW:=by
 intro args sg pre x r he hp;unfold EW at he;split at he<;>cases he
 . exact PW (hp:=hp) ..
def jL(s:gA):Int×Int:=
 if s=[]\/(s.getD 0 0).toNat≠45 then(if jZ s=true then gn 9223372036854775807 s else(0,3))
 else if jZ (s.drop 1) =true/\s.drop 1≠[48] then(-(gn 9223372036854775808 (s.drop 1)).1,(gn 9223372036854775808 (s.drop 1)).2) else(0,3)
theorem NQ(m:Nat) (s:gA):0<=(gn m s).1/\(gn m s).1<=m:=by unfold gn;split<;>constructor<;>(try dsimp only)<;>omega
theorem neg_w{u:Int} (h:0<=u) (k:u<=(9223372036854775808:Nat)):IntKind.i64.wrap (IntKind.u64.wrap (-u)) =-u:=by
 have e:IntKind.u64.wrap (-u) =if u=0 then 0 else 18446744073709551616-u:=by rw[kj];split<;>omega
 rw[e,bX];split<;>omega
theorem PU(s:gA) (hp:s.length<=100000000):OK 158 ([.str s]) ([]) (.tuple [.int .i64 (jL s).1,.int .i64 (jL s).2]) (none):=by
 refine aq (C:=cx [(188,ET),(189,EV),(190,EW)]) (ar ⟨TJ,TM,TN,trivial⟩) (fn:=Tryz.f158) fun hw hs=>?_;have hne:s≠[]->0<s.length:=fun h=>by cases s;exact absurd rfl h;simp
 have hdl:(s.drop 1).length=s.length-1:=d9;have hR1:s=[]\/(s.getD 0 0).toNat≠45->jZ s=true->jL s=gn 9223372036854775807 s:=fun h k=>by unfold jL;rw[if_pos h,if_pos k]
 have hR2:s=[]\/(s.getD 0 0).toNat≠45->jZ s=false->jL s=(0,3):=fun h k=>by unfold jL;rw[if_pos h,if_neg (by rw[k];decide)]
 have hR3:s≠[]->(s.getD 0 0).toNat=45->jZ (s.drop 1)=true->s.drop 1≠[48]->jL s=(-(gn 9223372036854775808 (s.drop 1)).1,(gn 9223372036854775808 (s.drop 1)).2):=fun h h2 k k2=>by
  unfold jL;rw[if_neg (fun q=>q.elim h fun q=>q h2),if_pos ⟨k,k2⟩]
 have hR4:s≠[]->(s.getD 0 0).toNat=45->(jZ (s.drop 1)=false\/s.drop 1=[48])->jL s=(0,3):=fun h h2 k=>by
  unfold jL;rw[if_neg (fun q=>q.elim h fun q=>q h2),if_neg (fun q=>by rcases k with k|k;rw[k] at q;cases q.1;exact q.2 k)]
 have hng:=neg_w (NQ 9223372036854775808 (s.drop 1)).1 (NQ 9223372036854775808 (s.drop 1)).2;repeat'((conv=>whnf);first|apply af|apply aK|((first|apply av|apply gI|apply fF)<;>intro h)|with_reducible refine lG ?_ fun hc=>?_)
 all_goals try conv=>whnf
 all_goals try(refine ae.mk ?_;try dsimp only)
 all_goals (try simp only[gM,gN] at*)
 all_goals first|refine stay ?_|trivial|omega|skip
 all_goals first
  |exact hne ‹_›
  |(have:=hne ‹s≠_›;exact⟨by omega,by omega⟩)
  |exact⟨IE ‹_›,by omega,by omega,by omega⟩
  | (first | rw [hR1 (.inl ‹_›) ‹_›] | rw [hR1 (.inr (by omega)) ‹_›] | rw [hR2 (.inl ‹_›) ‹_›] | rw [hR2 (.inr (by omega)) ‹_›] | rw [hR3 ‹s ≠ _› (by omega) ‹_› ‹_›] | rw [hR4 ‹s ≠ _› (by omega) (.inl ‹_›)] | rw [hR4 ‹s ≠ _› (by omega) (.inr ‹_›)]
     refine ab.mk [] ?_<;>(repeat' first|trivial|apply ah|apply aN|apply nX|apply cT)
     all_goals (show IntKind.i64.wrap (IntKind.u64.wrap (0-_))=_;rw[Int.zero_sub];exact hng))
def EU:Sm:=fun args σ=>match args,σ with
 |[.str s],[]=>some (s.length<=100000000,.tuple [.int .i64 (jL s).1,.int .i64 (jL s).2],none)
 |_,_=>none
theorem TL:ax 158 EU:=by
 intro args sg pre x r he hp;unfold EU at he;split at he<;>cases he
 . exact PU (hp:=hp) ..
end Go.Proofs.YtchllohbglebiaaGreatDoor
