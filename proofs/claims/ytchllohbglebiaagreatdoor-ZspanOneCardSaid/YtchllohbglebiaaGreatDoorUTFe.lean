/-
  A part of the proof.
-/
import Derived.Test.YtchllohbglebiaaGreatDoorTRg
set_option linter.unusedSimpArgs false
set_option linter.unusedVariables false
set_option maxHeartbeats 4000000
set_option maxRecDepth 100000
namespace Go.Proofs.YtchllohbglebiaaGreatDoor
open Go Go.VG
def hexDigits:gA:=[48,49,50,51,52,53,54,55,56,57,97,98,99,100,101,102]
def iG(n:Nat):UInt8:=hexDigits.getD n 0
def bP:gA->gA
 |[]=>[]
 |b::s=>iG (b.toNat/16)::iG (b.toNat%16)::bP s
@[simp] theorem fH(s:gA):(bP s).length=2*s.length:=by
 induction s with
 |nil=>rfl
 |cons b s ih=>simp[bP,ih];omega
theorem Jh(s t:gA):bP (s++t) =bP s++bP t:=by
 induction s with
 |nil=>rfl
 |cons b s ih=>simp[bP,ih]
theorem Ji{n k:Int} (m:Nat) (hn:n=m) (hk:k=m+1) (h1:m<16):(List.take k.toNat [48,49,50,51,52,53,54,55,56,57,97,98,99,100,101,102]).drop n.toNat=[iG m]:=by
 subst hn;subst hk;rw[show((m:Int)+1).toNat=m+1 by omega];exact vR 0 (by show m<16;omega)
def digit(n:Nat):UInt8:=.ofNat (48+n)
def dec(n:Nat):gA:=if n<10 then[digit n] else dec (n/10)++[digit (n%10)]
theorem dec_lt{n:Nat} (h:n<10):dec n=[digit n]:=by rw[dec,if_pos h]
theorem tz{n:Nat} (h:¬n<10):dec n=dec (n/10)++[digit (n%10)]:=by rw[dec,if_neg h]
theorem vU(n:Nat):1<=(dec n).length:=by
 rw[dec];split<;>simp
theorem yG:∀(k n:Nat),n<10^(k+1)->(dec n).length<=k+1
 |0,n,h=>by rw[dec_lt (by simpa using h)];simp
 |k+1,n,h=>by
   by_cases hn:n<10
   . rw[dec_lt hn];simp
   . rw[tz hn];have:=yG k (n/10) (by rw[Nat.pow_succ] at h;exact Nat.div_lt_of_lt_mul (by rw[Nat.mul_comm];exact h));simp;omega
theorem yH{n:Nat} (h:n<18446744073709551616):(dec n).length<=20:=yG 19 n (by omega)
def fB(n:Int):gA:=if n<0 then 45::dec n.natAbs else dec n.toNat
theorem P3{n:Int} (h:-9223372036854775808<=n) (h2:n<=9223372036854775807):(fB n).length<=21:=by
 unfold fB;split
 . have:=yH (n:=n.natAbs) (by omega);simp;omega
 . have:=yH (n:=n.toNat) (by omega);omega
theorem P5{n k:Int} (m:Nat) (hn:n=m) (hk:k=m+1) (h1:m<10):(List.take k.toNat [48,49,50,51,52,53,54,55,56,57]).drop n.toNat=[digit m]:=by
 subst hn;subst hk;rw[show((m:Int)+1).toNat=m+1 by omega,show((m:Int)).toNat=m by omega];rw[vR 0 (by show m<10;omega)];have:m=0\/m=1\/m=2\/m=3\/m=4\/m=5\/m=6\/m=7\/m=8\/m=9:=by omega
 rcases this with h|h|h|h|h|h|h|h|h|h<;>subst h<;>rfl
def be:Nat->Nat->gA
 |0,_=>[]
 |n+1,u=>be n (u/256)++[.ofNat (u%256)]
def me(c:UInt8):gA:=if c.toNat=34\/c.toNat=92 then[92,c] else if c.toNat<32 then[92,117,48,48]++bP [c] else[c]
def eR(s:gA):gA:=s.flatMap me
def quote(s:gA):gA:=34::(eR s++[34])
theorem Xm(c:UInt8):(me c).length<=6:=by unfold me;split<;>(try split)<;>simp
theorem Ej(s:gA):(eR s).length<=6*s.length:=by
 induction s with
 |nil=>simp[eR]
 |cons c s ih=>have:=Xm c;simp only[eR,List.flatMap_cons,an,List.length_cons] at ih⊢;omega
theorem M3(s:gA):(quote s).length<=6*s.length+2:=by have:=Ej s;simp[quote];omega
theorem M0{s:gA} {i:Nat} (h:i<s.length):eR (s.take (i+1)) =eR (s.take i)++me (s.getD i 0):=by rw[sM h];simp[eR]
theorem l7{n:Int} (h:0<=n/\n<=255):V.int .u8 n=bv (byte n):=by rw[bv,eO h]
def r8(s:gA):Nat->Nat->Int->Int
 |0,_,n=>n
 |r+1,i,n=>if s.length<=i then-1 else r8 s r (i+1) (64*n+((s.getD i 0).toNat:Int)-128)
def jb(s:gA):Int:=
 if(s.getD 0 0).toNat<128 then((s.getD 0 0).toNat:Int)
 else if 240<=(s.getD 0 0).toNat then r8 s 3 1 (((s.getD 0 0).toNat:Int)-240)
 else if 224<=(s.getD 0 0).toNat then r8 s 2 1 (((s.getD 0 0).toNat:Int)-224)
 else r8 s 1 1 (((s.getD 0 0).toNat:Int)-192)
def fJ(r:Int):Bool:=decide (0<=r/\r<=1114111/\(r<55296\/57343<r))
def cN(n:Int):gA:=
 if n<128 then[byte n]
 else if n<2048 then[byte (192+n/64),byte (128+n%64)]
 else if n<65536 then[byte (224+n/4096),byte (128+n/64%64),byte (128+n%64)]
 else[byte (240+n/262144),byte (128+n/4096%64),byte (128+n/64%64),byte (128+n%64)]
theorem xU(n:Int):1<=(cN n).length/\(cN n).length<=4:=by
 unfold cN;repeat' split
 all_goals simp
def bW(s:gA) (i:Nat):Int×Nat:=
 if s.length<=i then(0,0)
 else if jb (s.drop i)<0\/1114111<jb (s.drop i)\/fJ (jb (s.drop i)) =false then(0,0)
 else if(s.drop i).take (cN (jb (s.drop i))).length=cN (jb (s.drop i)) then(jb (s.drop i),(cN (jb (s.drop i))).length)
 else(0,0)
theorem BF(s:gA) (i:Nat):(bW s i).2<=4/\((bW s i).2=0\/i+(bW s i).2<=s.length):=by
 unfold bW;have hl:=xU (jb (s.drop i));split
 . simp
 . split
   . simp
   . split
     . rename_i h;have:=congrArg List.length h;rw[d8,d9] at this;simp only;omega
     . simp
def mf(s:gA) (i c:Nat):Nat×Nat:=
 if s.length<=i then(i,c)
 else if h:(bW s i).2=0 then(i,c)
 else mf s (i+(bW s i).2) (c+1)
termination_by s.length - i
decreasing_by omega
def oJ(s:gA):Int:=if(mf s 0 0).1=s.length then-1 else(mf s 0 0).1
theorem Ru(s:gA) (hs:s.length<=1000000):OK 176 [.str s] [] (.str (bP s)) none:=by
 refine aq (C:=cx []) (ar trivial) (fn:=Tryz.f176) fun _ _=>?_;refine aZ.mk Nat (fun i=>i<=s.length) (fun i=>⟨35,[(0,.str s),(3,.str (bP (s.take i))),(4,.int .i64 i)],[],[]⟩) (fun i=>s.length-i) [] 0 (bu _) ?_ (fun i hi _ _=>?_)
 . apply ay<;>(repeat' first|trivial)
 repeat'((conv=>whnf);first|apply af|(apply av<;>intro h)|with_reducible refine fG ?_ fun hc=>?_)
 all_goals try conv=>whnf
 all_goals try(refine ae.mk ?_;try dsimp only)
 all_goals first|refine stay ?_|trivial|omega|(simp(discharger:=omega) [-List.getD_eq_getElem?_getD,wR]<;>omega)|skip
 . refine⟨[],i+1,by omega,?_,by omega⟩;apply ay<;>(repeat' first|trivial|apply ah|apply eF|apply aN)
   . rw[sM (by omega),Jh];simp only[bP];rw[Ji ((s.getD i 0).toNat/16) (n:=IntKind.u8.wrap _),Ji ((s.getD i 0).toNat%16)]
     . simp
     all_goals (first|omega|(simp(discharger:=omega) only[wR];omega))
   . rw[bX];omega
 . refine ab.mk [] ?_<;>(repeat' first|trivial|apply ah|apply eF)
   rw[eo (by omega)]
def Fz:Sm:=fun args σ=>match args,σ with
 |[.str s],[]=>some (s.length<=1000000,.str (bP s),none)
 |_,_=>none
theorem Um:ax 176 Fz:=by
 intro args sg pre x r he hp;unfold Fz at he;split at he<;>cases he;exact Ru _ hp

theorem Q3(s:gA) (hs:s.length<=1000000):OK 140 [.list true 0 [],.str s] [] (.buf 0) (some [.buf 1 0 (bl (bP s))]):=by
 refine aq (C:=cx []) (ar trivial) (fn:=Tryz.f140) fun _ _=>?_;repeat'((conv=>whnf);apply af)
 all_goals try conv=>whnf
 all_goals try(refine ae.mk ?_;try dsimp only)
 all_goals first|refine stay ?_|(simp(discharger:=omega) [-List.getD_eq_getElem?_getD,wR]<;>omega)|skip
 refine aZ.mk Nat (fun i=>i<=s.length) (fun i=>⟨39,[(1,.str s),(5,.buf 0),(20,.int .i64 s.length),(21,.int .i64 i)],[.buf 1 0 (bl (bP (s.take i)))],[0]⟩) (fun i=>s.length-i) [] 0 (bu _) ?_ (fun i hi _ _=>?_)
 . apply ay<;>(repeat' first|trivial)
 have hA:m9 .u8 (((s.getD i 0).toNat:Nat):Int) 4=(((s.getD i 0).toNat/16:Nat):Int):=zd .u8 _ 4;have hB:qu .u8 (((s.getD i 0).toNat:Nat):Int) 15=(((s.getD i 0).toNat%16:Nat):Int):=Tm _ (UInt8.toNat_lt _);repeat'((conv=>whnf);first|apply af|(apply av<;>intro h)|with_reducible (first|refine fG ?_ fun hc=>?_|refine lG ?_ fun hc=>?_))
 all_goals try conv=>whnf
 all_goals try(refine ae.mk ?_;try dsimp only)
 all_goals first|refine stay ?_|trivial|omega|(simp only[fi];omega)|skip
 . simp only[je,fH,d8,List.length_cons,List.length_nil];omega
 . refine⟨[],i+1,by omega,?_,by omega⟩;apply ay<;>(repeat' first|trivial|apply ah|apply aN|apply bc)
   . (simp(discharger:=omega) only[wR];omega)
   . rw[sM (by omega),Jh,eE];refine congrArg _ ?_;simp only[bP,bl,bv,iG,hA,hB,Int.toNat_natCast];rfl
 . refine ab.mk [] ?_<;>(repeat' first|trivial|apply ah|apply bc)
   rw[eo (by omega)]
def EY:Sm:=fun args σ=>match args,σ with
 |[.list true _ [],.str s],[]=>some (s.length<=1000000,.buf 0,some [.buf 1 0 (bl (bP s))])
 |_,_=>none
theorem TP:ax 140 EY:=by
 intro args sg pre x r he hp;unfold EY at he;split at he<;>cases he;exact(Q3 _ hp).args (ba.cons (Wk.nil (.inl rfl)) (ba.refl _))

theorem Q4(s:gA) (hs:s.length<=1000000):OK 111 [.str s] [] (.str (bP s)) none:=by
 refine aq (C:=cx [(140,EY)]) (ar ⟨TP,trivial⟩) (fn:=Tryz.f111) fun _ _=>?_;repeat'((conv=>whnf);first|apply af|apply oc)
 all_goals try conv=>whnf
 all_goals try(refine ae.mk ?_;try dsimp only)
 all_goals first|refine stay ?_|trivial|skip
 refine ab.mk [] ?_<;>(repeat' first|trivial)
def xK:Sm:=fun args σ=>match args,σ with
 |[.str s],[]=>some (s.length<=1000000,.str (bP s),none)
 |_,_=>none
theorem Da:ax 111 xK:=by
 intro args sg pre x r he hp;unfold xK at he;split at he<;>cases he;exact Q4 _ hp
def bg(b:Nat):Nat:=if b<128 then 1 else if b<194 then 0 else if b<224 then 2 else if b<240 then 3 else if b<245 then 4 else 0
def nH(n:Int):Int:=if n=2 then 128 else if n=3 then 2048 else if n=4 then 65536 else 0
def cont(b:UInt8):Bool:=decide (128<=b.toNat/\b.toNat<192)
def iM(s:gA):Nat->Nat->Nat->Option Nat
 |0,_,a=>some a
 |r+1,i,a=>if cont (s.getD i 0) =true then iM s r (i+1) (64*a+(s.getD i 0).toNat%64) else none
def pF(n:Nat):Option Nat->Int×Nat
 |none=>(0,0)
 |some r=>if(r:Int)<nH n then(0,0) else if fJ r=true then((r:Int),n) else(0,0)
theorem BE(n r:Nat):pF n (some r) =if(r:Int)<nH n then(0,0) else if fJ r=true then((r:Int),n) else(0,0):=rfl
def ez(s:gA) (i:Nat):Int×Nat:=
 if s.length<=i then(0,0)
 else if bg (s.getD i 0).toNat=0 then(0,0)
 else if s.length<i+bg (s.getD i 0).toNat then(0,0)
 else if bg (s.getD i 0).toNat=1 then(((s.getD i 0).toNat:Int),1)
 else pF (bg (s.getD i 0).toNat) (iM s (bg (s.getD i 0).toNat-1) (i+1) ((s.getD i 0).toNat%2^(7-bg (s.getD i 0).toNat)))
theorem yk(k:IntKind) (j n:Nat) (hk:n<2^k.bits) (hj:2^j-1<2^k.bits) (hs:n%2^j<=k.max) (h0:k.min<=(n%2^j:Nat)) (hw:∀m:Nat,(m:Int)<=k.max->k.wrap m=m):qu k n ((2^j-1:Nat):Int) =((n%2^j:Nat):Int):=by
 show k.wrap ((BitVec.ofInt k.bits (n:Int)&&&BitVec.ofInt k.bits ((2^j-1:Nat):Int)).toNat:Int) =_;rw[BitVec.ofInt_natCast,BitVec.ofInt_natCast,BitVec.toNat_and,BitVec.toNat_ofNat,BitVec.toNat_ofNat,Nat.mod_eq_of_lt hk,Nat.mod_eq_of_lt hj,Nat.and_two_pow_sub_one_eq_mod];exact hw _ hs
theorem Gl(m:Nat) (h:(m:Int)<=IntKind.i32.max):IntKind.i32.wrap m=m:=by
 have:IntKind.i32.max=2147483647:=rfl;rw[sR];omega
theorem BI(m:Nat) (h:(m:Int)<=IntKind.u8.max):IntKind.u8.wrap m=m:=by
 have:IntKind.u8.max=255:=rfl;rw[sS];omega
theorem H6(n:Nat) (h:n<256):qu .u8 n 63=((n%64:Nat):Int):=yk .u8 6 n h (by decide) (by show((n%64:Nat):Int)<=255;omega) (by show(0:Int)<=_;omega) BI
theorem C3:∀n:Nat,n<256->qu .u8 n 192=((n/64*64:Nat):Int):=by decide
theorem Oj(n b:Nat) (hn:n=2\/n=3\/n=4) (h:b<256):qu .i32 b (m9 .i32 127 n) =((b%2^(7-n):Nat):Int):=by
 have hm:IntKind.i32.max=2147483647:=rfl;have hi:IntKind.i32.min=-2147483648:=rfl;have e:IntKind.i32.bits=32:=rfl;rcases hn with rfl|rfl|rfl
 . exact yk .i32 5 b (by rw[e];omega) (by rw[e];decide) (by rw[hm];omega) (by rw[hi];omega) Gl
 . exact yk .i32 4 b (by rw[e];omega) (by rw[e];decide) (by rw[hm];omega) (by rw[hi];omega) Gl
 . exact yk .i32 3 b (by rw[e];omega) (by rw[e];decide) (by rw[hm];omega) (by rw[hi];omega) Gl
theorem Yw(a:Nat) (h:a<2000000):m6 .i32 a 6=((64*a:Nat):Int):=by
 show IntKind.i32.wrap ((a:Int)*2^(min 6 32)) =_;rw[sR];have:((2:Int)^(min 6 32)) =64:=rfl;rw[this];omega
theorem DW(a b j:Nat) (h:b<2^j):a*2^j|||b=a*2^j+b:=by
 have:=Nat.shiftLeft_add_eq_or_of_lt h a;rw[Nat.shiftLeft_eq] at this;exact this.symm
theorem Wr(a b:Nat) (ha:a<2000000) (hb:b<64):lH .i32 ((64*a:Nat):Int) b=((64*a+b:Nat):Int):=by
 show IntKind.i32.wrap ((BitVec.ofInt 32 ((64*a:Nat):Int)|||BitVec.ofInt 32 (b:Int)).toNat:Int) =_;rw[BitVec.ofInt_natCast,BitVec.ofInt_natCast,BitVec.toNat_or,BitVec.toNat_ofNat,BitVec.toNat_ofNat,Nat.mod_eq_of_lt (by omega),Nat.mod_eq_of_lt (by omega),Nat.mul_comm 64 a,DW a b 6 hb];rw[sR];omega
theorem S6(b:UInt8) (hp:True):OK 200 ([bv b]) ([]) (.int .i64 (bg b.toNat)) (none):=by
 refine aq (C:=cx []) (ar trivial) (fn:=Tryz.f200) fun hw hs=>?_;repeat'((conv=>whnf);(apply av<;>intro h))
 all_goals try conv=>whnf
 all_goals try(refine ae.mk ?_;try dsimp only)
 all_goals try refine stay ?_
 all_goals
  unfold bg
  repeat (first|rw[if_pos (by omega)]|rw[if_neg (by omega)])
  refine ab.mk [] ?_<;>(repeat' first|trivial)
def FT:Sm:=fun args σ=>match args,σ with
 |[.int .u8 n_b],[]=>some ((0<=n_b/\n_b<=255)/\(True),.int .i64 (bg (byte n_b).toNat),none)
 |_,_=>none
theorem UF:ax 200 FT:=by
 intro args sg pre x r he hp;unfold FT at he;split at he<;>cases he
 . rw[l7 (hp).1];exact S6 (hp:=hp.2) ..
theorem S5(n:Int) (hp:True):OK 201 ([.int .i64 n]) ([]) (.int .i32 (nH n)) (none):=by
 refine aq (C:=cx []) (ar trivial) (fn:=Tryz.f201) fun hw hs=>?_;repeat'((conv=>whnf);(apply av<;>intro h))
 all_goals try conv=>whnf
 all_goals try(refine ae.mk ?_;try dsimp only)
 all_goals try refine stay ?_
 all_goals
  unfold nH
  repeat (first|rw[if_pos (by omega)]|rw[if_neg (by omega)])
  refine ab.mk [] ?_<;>(repeat' first|trivial)
def FR:Sm:=fun args σ=>match args,σ with
 |[.int .i64 n],[]=>some (True,.int .i32 (nH n),none)
 |_,_=>none
theorem UE:ax 201 FR:=by
 intro args sg pre x r he hp;unfold FR at he;split at he<;>cases he
 . exact S5 (hp:=hp) ..
theorem S4(r:Int) (hp:True):OK 181 ([.int .i32 r]) ([]) (.bool (fJ r)) (none):=by
 refine aq (C:=cx []) (ar trivial) (fn:=Tryz.f181) fun hw hs=>?_;repeat'((conv=>whnf);(apply av<;>intro h))
 all_goals try conv=>whnf
 all_goals try(refine ae.mk ?_;try dsimp only)
 all_goals try refine stay ?_
 all_goals
  refine ab.mk [] ?_<;>(repeat' first|trivial|apply ah|apply mE)
  unfold fJ
 all_goals first
  |exact(decide_eq_true (by omega)).symm
  |exact(decide_eq_false (by omega)).symm
  |exact decide_eq_decide.2 (by constructor<;>intro _<;>omega)
def sJ:Sm:=fun args σ=>match args,σ with
 |[.int .i32 r],[]=>some (True,.bool (fJ r),none)
 |_,_=>none
theorem wP:ax 181 sJ:=by
 intro args sg pre x r he hp;unfold sJ at he;split at he<;>cases he
 . exact S4 (hp:=hp) ..
theorem Zh{b:Nat} (h:b<256):bg b=0\/bg b=1\/bg b=2\/bg b=3\/bg b=4:=by
 unfold bg;repeat' split
 all_goals omega
theorem Sd(s:gA) (i:Nat) (hs:s.length<=100000000):OK 183 [.str s,.int .i64 i] [] (.tuple [.int .i32 (ez s i).1,.int .i64 (ez s i).2]) none:=by
 refine aq (C:=cx [(200,FT),(201,FR),(181,sJ)]) (ar ⟨UF,UE,wP,trivial⟩) (fn:=Tryz.f183) fun hw _=>?_;have hc0:(s.getD i 0).toNat<256:=UInt8.toNat_lt _;have hL:=Zh hc0;have hby:byte ((s.getD i 0).toNat:Int)=s.getD i 0:=eX _;have hq:=fun x=>Oj (bg (s.getD i 0).toNat) (s.getD i 0).toNat x hc0;have hi:(i:Int)<=9223372036854775807:=hw.2.1.2;have hwr:IntKind.i64.wrap ((s.length:Int)-i)=s.length-i:=by(simp(discharger:=omega) only[wR];omega)
 have hwb:IntKind.i32.wrap ((s.getD i 0).toNat:Int)=(s.getD i 0).toNat:=by(simp(discharger:=omega) only[wR];omega)
 repeat'((conv=>whnf);first|apply af|(apply av<;>intro h)|with_reducible refine fG ?_ fun hc=>?_)
 all_goals try conv=>whnf
 all_goals try(refine ae.mk ?_;try dsimp only)
 all_goals (try simp only[show((i:Int)).toNat=i from rfl,hby,hwr,hwb] at*)
 all_goals first|refine stay ?_|omega|(simp(discharger:=omega) [-List.getD_eq_getElem?_getD,wR]<;>omega)|skip
 all_goals first
  | (show ab _ _ _ _ _ _
     unfold ez
     repeat (first|rw[if_pos (by omega)]|rw[if_neg (by omega)])
     refine ab.mk [] ?_<;>(repeat' first|trivial)
     done)
  |skip
 have hn:bg (s.getD i 0).toNat=2\/bg (s.getD i 0).toNat=3\/bg (s.getD i 0).toNat=4:=by omega
 have he0:ez s i=pF (bg (s.getD i 0).toNat) (iM s (bg (s.getD i 0).toNat-1) (i+1) ((s.getD i 0).toNat%2^(7-bg (s.getD i 0).toNat))):=by
  unfold ez
  repeat (first|rw[if_pos (by omega)]|rw[if_neg (by omega)])
 rw[he0];rw[hq hn];have hr0:(s.getD i 0).toNat%2^(7-bg (s.getD i 0).toNat)<32:=by
  rcases hn with h|h|h<;>rw[h]<;>omega
 generalize hr:(s.getD i 0).toNat%2^(7-bg (s.getD i 0).toNat)=r0 at*;generalize hu:bg (s.getD i 0).toNat=n at*;refine aZ.mk (Nat×Nat) (fun|(j,a)=>1<=j/\j<=n/\((j=1/\a<32)\/(j=2/\a<2048)\/(j=3/\a<131072)\/(j=4/\a<8388608))/\iM s (n-j) (i+j) a=iM s (n-1) (i+1) r0)
  (fun|(j,a)=>⟨74,[(0,.str s),(1,.int .i64 i),(4,.int .i32 a),(6,.int .i64 n),(7,.int .i64 j)],[],[]⟩) (fun x=>n-x.1) [] (1,r0) ⟨by omega,by omega,by omega,rfl⟩ ?_ (fun⟨j,a⟩ ⟨hj,hjn,hb,he⟩ _ _=>?_)
 . apply ay<;>(repeat' first|trivial)
 have hij:(IntKind.i64.wrap ((i:Int)+j)).toNat=i+j:=by(simp(discharger:=omega) only[wR];omega)
 have hc1:(s.getD (i+j) 0).toNat<256:=UInt8.toNat_lt _;have h192:=C3 _ hc1;have h63:=H6 _ hc1;repeat'((conv=>whnf);first|apply af|apply aK|(apply av<;>intro h)|with_reducible refine lG ?_ fun hc=>?_)
 all_goals try conv=>whnf
 all_goals try(refine ae.mk ?_;try dsimp only)
 all_goals (try simp only[hij,h192,h63] at*)
 all_goals first|refine stay ?_|trivial|omega|(simp(discharger:=omega) only[wR];omega)|skip
 . have hc:cont (s.getD (i+j) 0)=true:=decide_eq_true (by omega);rw[show n-j=(n-j-1)+1 by omega,iM,if_pos hc] at he;refine⟨[],(j+1,64*a+(s.getD (i+j) 0).toNat%64),⟨by omega,by omega,by omega,?_⟩,?_,by omega⟩
   . rw[show n-(j+1)=n-j-1 by omega,show i+(j+1)=i+j+1 by omega];exact he
   . apply ay<;>(repeat' first|trivial|apply ah|apply aN)
     . rw[Yw a (by omega),show IntKind.i32.wrap (((s.getD (i+j) 0).toNat%64:Nat):Int)=(((s.getD (i+j) 0).toNat%64:Nat):Int) by(simp(discharger:=omega) only[wR];omega)];exact Wr _ _ (by omega) (by omega)
     . (simp(discharger:=omega) only[wR];omega)
 . have hc:¬cont (s.getD (i+j) 0)=true:=by
     unfold cont;rw[decide_eq_true_eq];omega
   rw[show n-j=(n-j-1)+1 by omega,iM,if_neg hc] at he;rw[<-he];refine ab.mk [] ?_<;>(repeat' first|trivial)
 all_goals
  rw[show n-j=0 by omega,iM] at he;rw[<-he,BE];first
  |rw[if_pos (by assumption)]
  |rw[if_neg (by assumption),if_pos (show fJ a=true from decide_eq_true (by assumption))]
  |rw[if_neg (by assumption),if_neg (by unfold fJ;rw[decide_eq_true_eq];assumption)]
  refine ab.mk [] ?_<;>(repeat' first|trivial)
theorem Hl{n:Int} {b:UInt8} (h:0<=n/\n<=255):byte n=b↔n=b.toNat:=by
 constructor
 . intro e;rw[<-e,eO h]
 . intro e;rw[e,eX]
theorem As(s:gA) (i:Nat):bW s i=if s.length<=i then(0,0) else bW (s.drop i) 0:=by
 by_cases h:s.length<=i
 . rw[if_pos h];unfold bW;rw[if_pos h]
 . rw[if_neg h];unfold bW;rw[if_neg h,if_neg (show¬(s.drop i).length<=0 by rw[d9];omega),List.drop_zero]
theorem Nr(s:gA) (i:Nat):∀r j a,iM s r (i+j) a=iM (s.drop i) r j a
 |0,_,_=>rfl
 |r+1,j,a=>by
   simp only[iM];rw[show(s.drop i).getD j 0=s.getD (i+j) 0 by simp[ac,List.getElem?_drop],<-Nr s i r (j+1),show i+j+1=i+(j+1) by omega]
theorem XG(s:gA) (i:Nat):ez s i=if s.length<=i then(0,0) else ez (s.drop i) 0:=by
 have e:(s.drop i).getD 0 0=s.getD i 0:=by simp[ac,List.getElem?_drop]
 by_cases h:s.length<=i
 . rw[if_pos h];unfold ez;rw[if_pos h]
 . rw[if_neg h];unfold ez;rw[if_neg h,if_neg (show¬(s.drop i).length<=0 by rw[d9];omega),e,<-Nr s i _ (0+1)];have hl:(s.drop i).length<bg (s.getD i 0).toNat↔s.length<i+bg (s.getD i 0).toNat:=by rw[d9];omega
   simp only[Nat.zero_add,hl]
theorem getD_take{t:gA} {n k:Nat} (h:k<n):(t.take n).getD k 0=t.getD k 0:=by
 simp[ac,List.getElem?_take,h]
theorem take1(t:gA) (x:UInt8):t.take 1=[x]↔1<=t.length/\t.getD 0 0=x:=by
 match t with
 |[]=>simp
 |a::_=>simp
theorem take2(t:gA) (x y:UInt8):t.take 2=[x,y]↔2<=t.length/\t.getD 0 0=x/\t.getD 1 0=y:=by
 match t with
 |[]=>simp
 |[a]=>simp
 |a::b::_=>simp
theorem take3(t:gA) (x y z:UInt8):t.take 3=[x,y,z]↔3<=t.length/\t.getD 0 0=x/\t.getD 1 0=y/\t.getD 2 0=z:=by
 match t with
 |[]=>simp
 |[a]=>simp
 |[a,b]=>simp
 |a::b::c::_=>simp
theorem take4(t:gA) (x y z u:UInt8):t.take 4=[x,y,z,u]↔4<=t.length/\t.getD 0 0=x/\t.getD 1 0=y/\t.getD 2 0=z/\t.getD 3 0=u:=by
 match t with
 |[]=>simp
 |[a]=>simp
 |[a,b]=>simp
 |[a,b,c]=>simp
 |a::b::c::d::_=>simp
theorem nY{n:Int} {b:UInt8} (h:0<=n/\n<=255):b=byte n↔(b.toNat:Int) =n:=by
 rw[eq_comm,Hl h,eq_comm]
theorem ln(t:gA) (g:Int) (h0:0<=g) (h1:g<=1114111):t.take (cN g).length=cN g↔
   (g<128/\1<=t.length/\((t.getD 0 0).toNat:Int) =g)\/
   (128<=g/\g<2048/\2<=t.length/\((t.getD 0 0).toNat:Int) =192+g/64/\((t.getD 1 0).toNat:Int) =128+g%64)\/
   (2048<=g/\g<65536/\3<=t.length/\((t.getD 0 0).toNat:Int) =224+g/4096/\((t.getD 1 0).toNat:Int) =128+g/64%64/\((t.getD 2 0).toNat:Int) =128+g%64)\/
   (65536<=g/\4<=t.length/\((t.getD 0 0).toNat:Int) =240+g/262144/\((t.getD 1 0).toNat:Int) =128+g/4096%64/\((t.getD 2 0).toNat:Int) =128+g/64%64/\((t.getD 3 0).toNat:Int) =128+g%64):=by
 unfold cN;by_cases a:g<128
 . rw[if_pos a];show t.take 1=_↔_;rw[take1,nY (by omega)];omega
 by_cases b:g<2048
 . rw[if_neg a,if_pos b];show t.take 2=_↔_;rw[take2,nY (by omega),nY (by omega)];omega
 by_cases c:g<65536
 . rw[if_neg a,if_neg b,if_pos c];show t.take 3=_↔_;rw[take3,nY (by omega),nY (by omega),nY (by omega)];omega
 . rw[if_neg a,if_neg b,if_neg c];show t.take 4=_↔_;rw[take4,nY (by omega),nY (by omega),nY (by omega),nY (by omega)];omega
theorem Oz(g:Int):(cN g).length=if g<128 then 1 else if g<2048 then 2 else if g<65536 then 3 else 4:=by
 unfold cN;repeat' split
 all_goals rfl
theorem kW(t:gA) (hL:0<t.length) (g:Int) (hg:jb t=g) (r:Int×Nat)
   (h1:(g<0\/1114111<g\/fJ g=false)->r=(0,0))
   (h2:0<=g->g<=1114111->fJ g=true->t.take (cN g).length=cN g->r=(g,(cN g).length))
   (h3:0<=g->g<=1114111->fJ g=true->¬t.take (cN g).length=cN g->r=(0,0)):r=bW t 0:=by
 unfold bW;rw[List.drop_zero,hg,if_neg (by omega)];by_cases a:g<0\/1114111<g\/fJ g=false
 . rw[if_pos a];exact h1 a
 . rw[if_neg a];have b:0<=g/\g<=1114111/\fJ g=true:=by
    refine⟨by omega,by omega,?_⟩;cases h:fJ g with
    |true=>rfl
    |false=>exact absurd (.inr (.inr h)) a
   by_cases c:t.take (cN g).length=cN g
   . rw[if_pos c];exact h2 b.1 b.2.1 b.2.2 c
   . rw[if_neg c];exact h3 b.1 b.2.1 b.2.2 c
theorem l5(g:Int):fJ g=true↔(0<=g/\g<=1114111/\(g<55296\/57343<g)):=by unfold fJ;rw[decide_eq_true_eq]
theorem BD(g:Int):fJ g=false↔¬(0<=g/\g<=1114111/\(g<55296\/57343<g)):=by unfold fJ;rw[decide_eq_false_iff_not]
theorem kx(b:UInt8):cont b=true↔128<=b.toNat/\b.toNat<192:=by unfold cont;rw[decide_eq_true_eq]
theorem vi(n:Nat):pF n none=(0,0):=rfl
theorem yv(g:Int) (n:Nat) (h:(n=1/\g<128)\/(n=2/\128<=g/\g<2048)\/(n=3/\2048<=g/\g<65536)\/(n=4/\65536<=g)):(cN g).length=n:=by
 rw[Oz];repeat' split
 all_goals omega
theorem xF(t:gA) (h:bg (t.getD 0 0).toNat=0\/t.length<bg (t.getD 0 0).toNat):ez t 0=(0,0):=by
 unfold ez;repeat' split
 all_goals first|rfl|(exfalso;omega)
theorem XF(t:gA) (hL:0<t.length) (h:bg (t.getD 0 0).toNat=1):ez t 0=(((t.getD 0 0).toNat:Int),1):=by
 unfold ez;rw[if_neg (by omega),if_neg (by omega),if_neg (by omega),if_pos h]
theorem Et(t:gA) (n:Nat) (hL:n<=t.length) (h:bg (t.getD 0 0).toNat=n) (hn:2<=n):ez t 0=pF n (iM t (n-1) 1 ((t.getD 0 0).toNat%2^(7-n))):=by
 unfold ez;rw[h,if_neg (by omega),if_neg (by omega),if_neg (by omega),if_neg (by omega)]
theorem xq(n r:Nat) (h:(r:Int)<nH n\/¬(0<=(r:Int)/\(r:Int)<=1114111/\((r:Int)<55296\/57343<(r:Int)))):pF n (some r) =(0,0):=by
 rw[BE];by_cases a:(r:Int)<nH n
 . rw[if_pos a]
 . rw[if_neg a,if_neg (by rw[l5];omega)]
theorem DX(n r:Nat) (g:Int) (hg:(r:Int) =g) (h:¬(r:Int)<nH n) (k:0<=(r:Int)/\(r:Int)<=1114111/\((r:Int)<55296\/57343<(r:Int))):pF n (some r) =(g,n):=by
 rw[BE,if_neg h,if_pos ((l5 _).2 k),hg]
theorem XH(t:gA) (hL:0<t.length):ez t 0=bW t 0:=by
  have h0:(t.getD 0 0).toNat<256:=UInt8.toNat_lt _;have h1:(t.getD 1 0).toNat<256:=UInt8.toNat_lt _;have h2:(t.getD 2 0).toNat<256:=UInt8.toNat_lt _;have h3:(t.getD 3 0).toNat<256:=UInt8.toNat_lt _;have l2:nH (2:Nat) =128:=rfl;have l3:nH (3:Nat) =2048:=rfl;have l4:nH (4:Nat) =65536:=rfl;by_cases a1:(t.getD 0 0).toNat<128
  . have hu:bg (t.getD 0 0).toNat=1:=by unfold bg;rw[if_pos a1]
    rw[XF t hL hu];refine kW t hL _ (by unfold jb;rw[if_pos a1]) _ (fun h=>?_) (fun _ _ _ h=>?_) (fun q1 q2 q3 h=>?_)
    . rw[BD] at h;omega
    . rw[yv _ 1 (by omega)]
    . rw[ln t _ (by omega) (by omega)] at h;omega
  by_cases a2:(t.getD 0 0).toNat<224
  . have hg:jb t=if t.length<=1 then-1 else 64*(((t.getD 0 0).toNat:Int)-192)+(t.getD 1 0).toNat-128:=by
      unfold jb;rw[if_neg a1,if_neg (by omega),if_neg (by omega)];simp only[r8]
    by_cases b1:t.length<=1
    . rw[if_pos b1] at hg;have hz:ez t 0=(0,0):=xF t (by
       by_cases q:bg (t.getD 0 0).toNat=0
       . exact .inl q
       . refine .inr ?_;have:bg (t.getD 0 0).toNat=0\/bg (t.getD 0 0).toNat=2:=by
          unfold bg;repeat' split
          all_goals omega
         omega)
      rw[hz];exact kW t hL _ hg _ (fun _=>rfl) (fun h=>by omega) (fun h=>by omega)
    . rw[if_neg b1] at hg;by_cases a3:(t.getD 0 0).toNat<194
      . have hz:ez t 0=(0,0):=xF t (.inl (by unfold bg;rw[if_neg a1,if_pos a3]));rw[hz];refine kW t hL _ hg _ (fun _=>rfl) (fun q1 q2 q3 h=>?_) (fun _ _ _ _=>rfl);rw[ln t _ q1 q2] at h;omega
      . have hu:bg (t.getD 0 0).toNat=2:=by unfold bg;rw[if_neg a1,if_neg a3,if_pos a2]
        rw[Et t 2 (by omega) hu (by omega)];simp only[iM,show(1:Nat)+1=2 from rfl,show(2:Nat)+1=3 from rfl];by_cases c1:cont (t.getD 1 0) =true
        . rw[if_pos c1];rw[kx] at c1;refine kW t hL _ hg _ (fun h=>xq _ _ (by rw[BD] at h;omega)) (fun q1 q2 q3 h=>?_) (fun q1 q2 q3 h=>?_)
          . rw[yv _ 2 (by omega)];exact DX _ _ _ (by omega) (by rw[l2];omega) (by omega)
          . exfalso;rw[ln t _ q1 q2] at h;omega
        . rw[if_neg c1,vi];rw[kx] at c1;refine kW t hL _ hg _ (fun _=>rfl) (fun q1 q2 q3 h=>?_) (fun _ _ _ _=>rfl);rw[ln t _ q1 q2] at h;omega
  by_cases a4:(t.getD 0 0).toNat<240
  . have hg:jb t=if t.length<=1 then-1 else if t.length<=2 then-1 else 64*(64*(((t.getD 0 0).toNat:Int)-224)+(t.getD 1 0).toNat-128)+(t.getD 2 0).toNat-128:=by
      unfold jb;rw[if_neg a1,if_neg (by omega),if_pos (by omega)];simp only[r8]
    have hu:bg (t.getD 0 0).toNat=3:=by unfold bg;rw[if_neg a1,if_neg (by omega),if_neg a2,if_pos a4]
    by_cases b1:t.length<=2
    . have hg:jb t=-1:=by
        rw[hg];repeat' split
        all_goals rfl
      rw[xF t (.inr (by omega))];exact kW t hL _ hg _ (fun _=>rfl) (fun h=>by omega) (fun h=>by omega)
    . rw[if_neg (by omega),if_neg b1] at hg;rw[Et t 3 (by omega) hu (by omega)];simp only[iM,show(1:Nat)+1=2 from rfl,show(2:Nat)+1=3 from rfl];by_cases c1:cont (t.getD 1 0) =true
      . rw[if_pos c1];rw[kx] at c1;by_cases c2:cont (t.getD 2 0) =true
        . rw[if_pos c2];rw[kx] at c2;refine kW t hL _ hg _ (fun h=>xq _ _ (by rw[BD] at h;omega)) (fun q1 q2 q3 h=>?_) (fun q1 q2 q3 h=>xq _ _ ?_)
          . rw[l5] at q3;rw[ln t _ q1 q2] at h;rw[yv _ 3 (by omega)];exact DX _ _ _ (by omega) (by rw[l3];omega) (by omega)
          . rw[ln t _ q1 q2] at h;rw[l3];omega
        . rw[if_neg c2,vi];rw[kx] at c2;refine kW t hL _ hg _ (fun _=>rfl) (fun q1 q2 q3 h=>?_) (fun _ _ _ _=>rfl);rw[ln t _ q1 q2] at h;omega
      . rw[if_neg c1,vi];rw[kx] at c1;refine kW t hL _ hg _ (fun _=>rfl) (fun q1 q2 q3 h=>?_) (fun _ _ _ _=>rfl);rw[ln t _ q1 q2] at h;omega
  have hg:jb t=if t.length<=1 then-1 else if t.length<=2 then-1 else if t.length<=3 then-1 else 64*(64*(64*(((t.getD 0 0).toNat:Int)-240)+(t.getD 1 0).toNat-128)+(t.getD 2 0).toNat-128)+(t.getD 3 0).toNat-128:=by
   unfold jb;rw[if_neg a1,if_pos (by omega)];simp only[r8]
  by_cases b1:t.length<=3
  . have hg:jb t=-1:=by
      rw[hg];repeat' split
      all_goals rfl
    have hz:ez t 0=(0,0):=xF t (by
     have:bg (t.getD 0 0).toNat=0\/bg (t.getD 0 0).toNat=4:=by
      unfold bg;repeat' split
      all_goals omega
     omega)
    rw[hz];exact kW t hL _ hg _ (fun _=>rfl) (fun h=>by omega) (fun h=>by omega)
  rw[if_neg (by omega),if_neg (by omega),if_neg b1] at hg;by_cases a5:(t.getD 0 0).toNat<245
  . have hu:bg (t.getD 0 0).toNat=4:=by unfold bg;rw[if_neg a1,if_neg (by omega),if_neg a2,if_neg a4,if_pos a5]
    rw[Et t 4 (by omega) hu (by omega)];simp only[iM,show(1:Nat)+1=2 from rfl,show(2:Nat)+1=3 from rfl];by_cases c1:cont (t.getD 1 0) =true
    . rw[if_pos c1];rw[kx] at c1;by_cases c2:cont (t.getD 2 0) =true
      . rw[if_pos c2];rw[kx] at c2;by_cases c3:cont (t.getD 3 0) =true
        . rw[if_pos c3];rw[kx] at c3;refine kW t hL _ hg _ (fun h=>xq _ _ (by rw[BD] at h;omega)) (fun q1 q2 q3 h=>?_) (fun q1 q2 q3 h=>xq _ _ ?_)
          . rw[l5] at q3;rw[ln t _ q1 q2] at h;rw[yv _ 4 (by omega)];exact DX _ _ _ (by omega) (by rw[l4];omega) (by omega)
          . rw[ln t _ q1 q2] at h;rw[l4];omega
        . rw[if_neg c3,vi];rw[kx] at c3;refine kW t hL _ hg _ (fun _=>rfl) (fun q1 q2 q3 h=>?_) (fun _ _ _ _=>rfl);rw[ln t _ q1 q2] at h;omega
      . rw[if_neg c2,vi];rw[kx] at c2;refine kW t hL _ hg _ (fun _=>rfl) (fun q1 q2 q3 h=>?_) (fun _ _ _ _=>rfl);rw[ln t _ q1 q2] at h;omega
    . rw[if_neg c1,vi];rw[kx] at c1;refine kW t hL _ hg _ (fun _=>rfl) (fun q1 q2 q3 h=>?_) (fun _ _ _ _=>rfl);rw[ln t _ q1 q2] at h;omega
  . have hz:ez t 0=(0,0):=xF t (.inl (by unfold bg;rw[if_neg a1,if_neg (by omega),if_neg a2,if_neg a4,if_neg a5]));rw[hz];refine kW t hL _ hg _ (fun _=>rfl) (fun q1 q2 q3 h=>?_) (fun _ _ _ _=>rfl);rw[ln t _ q1 q2] at h;omega
theorem oB(s:gA) (i:Nat):ez s i=bW s i:=by
 rw[As,XG];by_cases h:s.length<=i
 . rw[if_pos h,if_pos h]
 . rw[if_neg h,if_neg h];exact XH _ (by rw[d9];omega)
end Go.Proofs.YtchllohbglebiaaGreatDoor
