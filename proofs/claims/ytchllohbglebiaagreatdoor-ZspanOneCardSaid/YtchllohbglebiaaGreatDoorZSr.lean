/-
  A part of the proof.
-/
import Derived.Test.YtchllohbglebiaaGreatDoorZSb
import Derived.Test.YtchllohbglebiaaGreatDoorTRg
import Derived.Test.YtchllohbglebiaaGreatDoorJSm
import Derived.Test.YtchllohbglebiaaGreatDoorKH
import Derived.Test.YtchllohbglebiaaGreatDoorZSj
import Derived.Test.YtchllohbglebiaaGreatDoorNI7
import Derived.Test.YtchllohbglebiaaGreatDoorKD
set_option linter.unusedSimpArgs false
set_option linter.unusedVariables false
set_option maxHeartbeats 4000000
set_option maxRecDepth 100000
namespace Go.Proofs.YtchllohbglebiaaGreatDoor
open Go Go.VG
theorem BK{s:gA} (h:s.length=8):∃b0 b1 b2 b3 b4 b5 b6 b7,s=[b0,b1,b2,b3,b4,b5,b6,b7]:=by
 match s,h with
 |[b0,b1,b2,b3,b4,b5,b6,b7],_=>exact⟨b0,b1,b2,b3,b4,b5,b6,b7,rfl⟩
def jT:gA->Bool
 |[]=>true
 |[a]=>((a.toNat:Nat):Int) ==0
 |a::b::r=>(((a.toNat:Nat):Int) ==0)&&jT (b::r)
def ik(b:gA):Int×gA:=if jT b=true then(10,b) else(0,b)
abbrev spB(b:gA):List V:=[.int .u8 (b.getD 0 0).toNat,.int .u8 (b.getD 1 0).toNat,.int .u8 (b.getD 2 0).toNat,.int .u8 (b.getD 3 0).toNat,.int .u8 (b.getD 4 0).toNat,.int .u8 (b.getD 5 0).toNat,.int .u8 (b.getD 6 0).toNat,.int .u8 (b.getD 7 0).toNat]
theorem Q8(s:gA) (hs:s.length<=1000000) (h0:dD s=true) (h8:s.length=16):OK 94 [.str s] [] (.tuple [.agg (spB (ik (cZ s)).2),.int .i64 (ik (cZ s)).1]) none:=by
 refine aq (C:=pX [(93,sH)] [] [(20,0)]) (rX ⟨wM,trivial⟩) (fn:=Tryz.f94) fun hw _=>?_;have hl:=qt h0;have hR:ij s=(0,cZ s):=if_pos h0;obtain⟨b0,b1,b2,b3,b4,b5,b6,b7,hZ⟩:=BK (s:=cZ s) (by omega);rw[hZ] at hR⊢;repeat'((conv=>whnf);first|apply af|apply fE|apply aK|(apply av<;>intro h))
 all_goals try conv=>whnf
 all_goals try(refine ae.mk ?_;try dsimp only)
 . omega
 all_goals (try rw[hR])
 . rfl
 . repeat'((conv=>whnf);(apply fF<;>intro h))
   all_goals try conv=>whnf
   all_goals try(refine ae.mk ?_;try dsimp only)
   . rw[show ik [b0,b1,b2,b3,b4,b5,b6,b7]=(10,[b0,b1,b2,b3,b4,b5,b6,b7]) from if_pos (by assumption)];refine ab.mk [] ?_<;>(repeat' first|trivial)
   . rw[show ik [b0,b1,b2,b3,b4,b5,b6,b7]=(0,[b0,b1,b2,b3,b4,b5,b6,b7]) from if_neg (fun q=>Bool.noConfusion (q.symm.trans (show _=false by assumption)))];refine ab.mk [] ?_<;>(repeat' first|trivial)
 . exfalso;omega
 . rename_i h;rw[hR] at h;exact absurd rfl h
theorem Q7(s:gA) (hs:s.length<=1000000) (h:dD s=false\/s.length≠16):OK 94 [.str s] [] (.tuple [.agg (spB []),.int .i64 3]) none:=by
 refine aq (C:=pX [(93,sH)] [] [(20,0)]) (rX ⟨wM,trivial⟩) (fn:=Tryz.f94) fun hw _=>?_;have hR:(ij s).1=0->dD s=true:=fun q=>by
  unfold ij at q;split at q
  . assumption
  . cases q
 have hC:(ij s).1=0->(s.length:Int) =16->False:=fun a b=>by
  rcases h with q|q
  . rw[hR a] at q;cases q
  . exact q (by omega)
 repeat'((conv=>whnf);first|apply af|apply fE|apply aK|(apply av<;>intro h))
 all_goals try conv=>whnf
 all_goals try(refine ae.mk ?_;try dsimp only)
 all_goals first
  |omega
  |exact(hC (by assumption) (by assumption)).elim
  |skip
 all_goals
  refine ab.mk [] ?_<;>(repeat' first|trivial)
def jK(s:gA):Int×gA:=if dD s=true/\s.length=16 then ik (cZ s) else(3,[])
def AM:Sm:=fun args σ=>match args,σ with
 |[.str s],[]=>some (s.length<=1000000,.tuple [.agg (spB (jK s).2),.int .i64 (jK s).1],none)
 |_,_=>none
-- #name idSpan ident.ReadSpan
theorem JP:ax 94 AM:=by
 intro args sg pre x r he hp;unfold AM at he;split at he<;>cases he;rename_i s;unfold jK;by_cases h:dD s=true/\s.length=16
 . rw[if_pos h];exact Q8 s hp h.1 h.2
 . rw[if_neg h];refine Q7 s hp ?_;by_cases q:dD s=true
   . exact .inr fun z=>h ⟨q,z⟩
   . exact .inl (by simpa using q)
theorem NU{s:gA} (h:s.length=16):∃b0 b1 b2 b3 b4 b5 b6 b7 b8 b9 b10 b11 b12 b13 b14 b15,s=[b0,b1,b2,b3,b4,b5,b6,b7,b8,b9,b10,b11,b12,b13,b14,b15]:=by
 match s,h with
 |[b0,b1,b2,b3,b4,b5,b6,b7,b8,b9,b10,b11,b12,b13,b14,b15],_=>exact⟨b0,b1,b2,b3,b4,b5,b6,b7,b8,b9,b10,b11,b12,b13,b14,b15,rfl⟩
abbrev trB(b:gA):List V:=[.int .u8 (b.getD 0 0).toNat,.int .u8 (b.getD 1 0).toNat,.int .u8 (b.getD 2 0).toNat,.int .u8 (b.getD 3 0).toNat,.int .u8 (b.getD 4 0).toNat,.int .u8 (b.getD 5 0).toNat,.int .u8 (b.getD 6 0).toNat,.int .u8 (b.getD 7 0).toNat,.int .u8 (b.getD 8 0).toNat,.int .u8 (b.getD 9 0).toNat,.int .u8 (b.getD 10 0).toNat,.int .u8 (b.getD 11 0).toNat,.int .u8 (b.getD 12 0).toNat,.int .u8 (b.getD 13 0).toNat,.int .u8 (b.getD 14 0).toNat,.int .u8 (b.getD 15 0).toNat]
def qL(b:gA):gA:=[0,0,0,0,0,0,0,0]++b
theorem Qa(s:gA) (hs:s.length<=1000000) (h0:dD s=true) (h8:s.length=32):OK 44 [.str s] [] (.tuple [.agg (trB (ik (cZ s)).2),.int .i64 (ik (cZ s)).1]) none:=by
 refine aq (C:=pX [(93,sH)] [] [(27,0)]) (rX ⟨wM,trivial⟩) (fn:=Tryz.f44) fun hw _=>?_;have hl:=qt h0;have hR:ij s=(0,cZ s):=if_pos h0;obtain⟨b0,b1,b2,b3,b4,b5,b6,b7,b8,b9,b10,b11,b12,b13,b14,b15,hZ⟩:=NU (s:=cZ s) (by omega);rw[hZ] at hR⊢;have hWi:IntKind.i64.wrap (16-((ij s).2.length:Int))=0:=by rw[hR];rfl
 repeat'((conv=>whnf);first|apply af|apply aK|(apply av<;>intro h))
 all_goals try conv=>whnf
 all_goals try(refine ae.mk ?_;try dsimp only)
 all_goals first
  |omega
  |(exfalso;omega)
  |(rw[hWi];decide)
  | (exfalso
     have h:¬(ij s).1=0:=by assumption
     rw[hR] at h;exact h rfl)
  |skip
 rw[hWi];repeat'((conv=>whnf);apply fE)
 all_goals try conv=>whnf
 all_goals try(refine ae.mk ?_;try dsimp only)
 all_goals (try rw[hR])
 . rfl
 . repeat'((conv=>whnf);(apply fF<;>intro h))
   all_goals try conv=>whnf
   all_goals try(refine ae.mk ?_;try dsimp only)
   . rw[show ik [b0,b1,b2,b3,b4,b5,b6,b7,b8,b9,b10,b11,b12,b13,b14,b15]=(10,[b0,b1,b2,b3,b4,b5,b6,b7,b8,b9,b10,b11,b12,b13,b14,b15]) from if_pos (by assumption)];refine ab.mk [] ?_<;>(repeat' first|trivial)
   . rw[show ik [b0,b1,b2,b3,b4,b5,b6,b7,b8,b9,b10,b11,b12,b13,b14,b15]=(0,[b0,b1,b2,b3,b4,b5,b6,b7,b8,b9,b10,b11,b12,b13,b14,b15]) from if_neg (fun q=>Bool.noConfusion (q.symm.trans (show _=false by assumption)))];refine ab.mk [] ?_<;>(repeat' first|trivial)
theorem Q9(s:gA) (hs:s.length<=1000000) (h0:dD s=true) (h8:s.length=16):OK 44 [.str s] [] (.tuple [.agg (trB (ik (qL (cZ s))).2),.int .i64 (ik (qL (cZ s))).1]) none:=by
 refine aq (C:=pX [(93,sH)] [] [(27,0)]) (rX ⟨wM,trivial⟩) (fn:=Tryz.f44) fun hw _=>?_;have hl:=qt h0;have hR:ij s=(0,cZ s):=if_pos h0;obtain⟨b0,b1,b2,b3,b4,b5,b6,b7,hZ⟩:=BK (s:=cZ s) (by omega);rw[hZ] at hR⊢;have hWi:IntKind.i64.wrap (16-((ij s).2.length:Int))=8:=by rw[hR];rfl
 repeat'((conv=>whnf);first|apply af|apply aK|(apply av<;>intro h))
 all_goals try conv=>whnf
 all_goals try(refine ae.mk ?_;try dsimp only)
 all_goals first
  |omega
  |(exfalso;omega)
  |(rw[hWi];decide)
  | (exfalso
     have h:¬(ij s).1=0:=by assumption
     rw[hR] at h;exact h rfl)
  |skip
 rw[hWi];repeat'((conv=>whnf);apply fE)
 all_goals try conv=>whnf
 all_goals try(refine ae.mk ?_;try dsimp only)
 all_goals (try rw[hR])
 . rfl
 . repeat'((conv=>whnf);(apply fF<;>intro h))
   all_goals try conv=>whnf
   all_goals try(refine ae.mk ?_;try dsimp only)
   . rw[show ik (qL [b0,b1,b2,b3,b4,b5,b6,b7])=(10,(qL [b0,b1,b2,b3,b4,b5,b6,b7])) from if_pos (by assumption)];refine ab.mk [] ?_<;>(repeat' first|trivial)
   . rw[show ik (qL [b0,b1,b2,b3,b4,b5,b6,b7])=(0,(qL [b0,b1,b2,b3,b4,b5,b6,b7])) from if_neg (fun q=>Bool.noConfusion (q.symm.trans (show _=false by assumption)))];refine ab.mk [] ?_<;>(repeat' first|trivial)
theorem Qb(s:gA) (hs:s.length<=1000000) (h:dD s=false\/(s.length≠16/\s.length≠32)):OK 44 [.str s] [] (.tuple [.agg (trB []),.int .i64 3]) none:=by
 refine aq (C:=pX [(93,sH)] [] [(27,0)]) (rX ⟨wM,trivial⟩) (fn:=Tryz.f44) fun hw _=>?_;have hR:(ij s).1=0->dD s=true:=fun q=>by
  unfold ij at q;split at q
  . assumption
  . cases q
 have hC:(ij s).1=0->(s.length:Int) =16->False:=fun a b=>by
  rcases h with q|q
  . rw[hR a] at q;cases q
  . exact q.1 (by omega)
 have hD:(ij s).1=0->(s.length:Int) =32->False:=fun a b=>by
  rcases h with q|q
  . rw[hR a] at q;cases q
  . exact q.2 (by omega)
 repeat'((conv=>whnf);first|apply af|apply aK|(apply av<;>intro h))
 all_goals try conv=>whnf
 all_goals try(refine ae.mk ?_;try dsimp only)
 all_goals first
  |omega
  |exact(hC (by assumption) (by assumption)).elim
  |exact(hD (by assumption) (by assumption)).elim
  |skip
 all_goals
  refine ab.mk [] ?_<;>(repeat' first|trivial)
def fu(s:gA):Int×gA:=if dD s=true/\s.length=32 then ik (cZ s) else if dD s=true/\s.length=16 then ik (qL (cZ s)) else(3,[])
def AN:Sm:=fun args σ=>match args,σ with
 |[.str s],[]=>some (s.length<=1000000,.tuple [.agg (trB (fu s).2),.int .i64 (fu s).1],none)
 |_,_=>none
-- #name idTr ident.ReadTrace
theorem JQ:ax 44 AN:=by
 intro args sg pre x r he hp;unfold AN at he;split at he<;>cases he;rename_i s;unfold fu;by_cases h:dD s=true/\s.length=32
 . rw[if_pos h];exact Qa s hp h.1 h.2
 . rw[if_neg h];by_cases h2:dD s=true/\s.length=16
   . rw[if_pos h2];exact Q9 s hp h2.1 h2.2
   . rw[if_neg h2];refine Qb s hp ?_;by_cases q:dD s=true
     . exact .inr ⟨fun z=>h2 ⟨q,z⟩,fun z=>h ⟨q,z⟩⟩
     . exact .inl (by simpa using q)
def bE(u:Int):Int×Int:=if u<0\/u>9223372036854775 then(11,0) else(0,u*1000)
def dn(a b:Int):Int×(Int×Int):=if(bE a).1≠0\/(bE b).1≠0\/(bE b).2>9223372036854775807-(bE a).2 then(11,0,0) else(0,(bE a).2,(bE a).2+(bE b).2)
theorem zP(u:Int):0<=(bE u).2/\(bE u).2<=9223372036854775000:=by
 unfold bE;split
 . exact⟨Int.le_refl _,by decide⟩
 . show 0<=u*1000/\u*1000<=_;omega
theorem Ro(u:Int) (hp:True):OK 52 ([.int .i64 u]) ([]) (.tuple [.int .u64 (bE u).2,.int .i64 (bE u).1]) (none):=by
 refine aq (C:=cx []) (ar trivial) (fn:=Tryz.f52) fun hw hs=>?_;repeat'((conv=>whnf);(apply av<;>intro h))
 all_goals try conv=>whnf
 all_goals try(refine ae.mk ?_;try dsimp only)
 all_goals try refine stay ?_
 all_goals first
  | (rw [show bE u=(11,0) from if_pos (by omega)]
     refine ab.mk [] ?_<;>(repeat' first|trivial)
     done)
  | (rw [show bE u=(0,u * 1000) from if_neg (by omega)]
     refine ab.mk [] ?_<;>(repeat' first|trivial|apply ah|apply aN|apply nX|apply cT)
     all_goals (simp only[kj];omega))
def xM:Sm:=fun args σ=>match args,σ with
 |[.int .i64 u],[]=>some (True,.tuple [.int .u64 (bE u).2,.int .i64 (bE u).1],none)
 |_,_=>none
theorem Dc:ax 52 xM:=by
 intro args sg pre x r he hp;unfold xM at he;split at he<;>cases he
 . exact Ro (hp:=hp) ..
theorem RC(u:Int) (hp:True):OK 76 ([.int .i64 u]) ([]) (.tuple [.int .u64 (bE u).2,.int .i64 (bE u).1]) (none):=by
 refine aq (C:=cx []) (ar trivial) (fn:=Tryz.f76) fun hw hs=>?_;repeat'((conv=>whnf);(apply av<;>intro h))
 all_goals try conv=>whnf
 all_goals try(refine ae.mk ?_;try dsimp only)
 all_goals try refine stay ?_
 all_goals first
  | (rw [show bE u=(11,0) from if_pos (by omega)]
     refine ab.mk [] ?_<;>(repeat' first|trivial)
     done)
  | (rw [show bE u=(0,u * 1000) from if_neg (by omega)]
     refine ab.mk [] ?_<;>(repeat' first|trivial|apply ah|apply aN|apply nX|apply cT)
     all_goals (simp only[kj];omega))
def Be:Sm:=fun args σ=>match args,σ with
 |[.int .i64 u],[]=>some (True,.tuple [.int .u64 (bE u).2,.int .i64 (bE u).1],none)
 |_,_=>none
theorem Kf:ax 76 Be:=by
 intro args sg pre x r he hp;unfold Be at he;split at he<;>cases he
 . exact RC (hp:=hp) ..
theorem Rp(a b:Int) (hp:True):OK 49 ([.int .i64 a,.int .i64 b]) ([]) (.tuple [.agg [.int .u64 (dn a b).2.1,.int .u64 (dn a b).2.2],.int .i64 (dn a b).1]) (none):=by
 refine aq (C:=cx [(52,xM)]) (ar ⟨Dc,trivial⟩) (fn:=Tryz.f49) fun hw hs=>?_;have ha:=zP a;have hb:=zP b;have w1:IntKind.u64.wrap (9223372036854775807-(bE a).2)=9223372036854775807-(bE a).2:=by rw[kj];omega
 have w2:IntKind.u64.wrap ((bE a).2+(bE b).2)=(bE a).2+(bE b).2:=by rw[kj];omega
 repeat'((conv=>whnf);first|apply af|apply aK|(apply av<;>intro h))
 all_goals try conv=>whnf
 all_goals try(refine ae.mk ?_;try dsimp only)
 all_goals (try simp only[w1,w2] at*)
 all_goals first
  | (rw [show dn a b=(11,0,0) from if_pos (by omega)]
     refine ab.mk [] ?_<;>(repeat' first|trivial)
     done)
  | (rw [show dn a b=(0,(bE a).2,(bE a).2 + (bE b).2) from if_neg (by omega)]
     refine ab.mk [] ?_<;>(repeat' first|trivial)
     done)
def Bb:Sm:=fun args σ=>match args,σ with
 |[.int .i64 a,.int .i64 b],[]=>some (True,.tuple [.agg [.int .u64 (dn a b).2.1,.int .u64 (dn a b).2.2],.int .i64 (dn a b).1],none)
 |_,_=>none
theorem Kb:ax 49 Bb:=by
 intro args sg pre x r he hp;unfold Bb at he;split at he<;>cases he
 . exact Rp (hp:=hp) ..
theorem RE(a b:Int) (hp:True):OK 71 ([.int .i64 a,.int .i64 b]) ([]) (.tuple [.int .u64 (dn a b).2.1,.int .u64 (dn a b).2.2,.int .i64 (dn a b).1]) (none):=by
 refine aq (C:=cx [(76,Be)]) (ar ⟨Kf,trivial⟩) (fn:=Tryz.f71) fun hw hs=>?_;have ha:=zP a;have hb:=zP b;have w1:IntKind.u64.wrap (9223372036854775807-(bE b).2)=9223372036854775807-(bE b).2:=by rw[kj];omega
 have w2:IntKind.u64.wrap ((bE a).2+(bE b).2)=(bE a).2+(bE b).2:=by rw[kj];omega
 repeat'((conv=>whnf);first|apply af|apply aK|(apply av<;>intro h))
 all_goals try conv=>whnf
 all_goals try(refine ae.mk ?_;try dsimp only)
 all_goals (try simp only[w1,w2] at*)
 all_goals first
  | (rw [show dn a b=(11,0,0) from if_pos (by omega)]
     refine ab.mk [] ?_<;>(repeat' first|trivial)
     done)
  | (rw [show dn a b=(0,(bE a).2,(bE a).2 + (bE b).2) from if_neg (by omega)]
     refine ab.mk [] ?_<;>(repeat' first|trivial)
     done)
def FC:Sm:=fun args σ=>match args,σ with
 |[.int .i64 a,.int .i64 b],[]=>some (True,.tuple [.int .u64 (dn a b).2.1,.int .u64 (dn a b).2.2,.int .i64 (dn a b).1],none)
 |_,_=>none
theorem Up:ax 71 FC:=by
 intro args sg pre x r he hp;unfold FC at he;split at he<;>cases he
 . exact RE (hp:=hp) ..
-- #name r07span truchmanref07.span
-- #name r07trace truchmanref07.trace
abbrev ct:Ky:=[116,114,97,99,101,73,100]
abbrev dh:Ky:=[105,100]
abbrev fX:Ky:=[112,97,114,101,110,116,73,100]
abbrev iq:Ky:=[110,97,109,101]
abbrev cJ:Ky:=[107,105,110,100]
abbrev bz:Ky:=[116,105,109,101,115,116,97,109,112]
abbrev eP:Ky:=[100,117,114,97,116,105,111,110]
abbrev c5:Ky:=[108,111,99,97,108,69,110,100,112,111,105,110,116]
abbrev ff:Ky:=[114,101,109,111,116,101,69,110,100,112,111,105,110,116]
abbrev jw:Ky:=[115,101,114,118,105,99,101,78,97,109,101]
abbrev bh:Ky:=[97,110,110,111,116,97,116,105,111,110,115]
abbrev fY:Ky:=[118,97,108,117,101]
abbrev bk:Ky:=[116,97,103,115]
abbrev cA:Ky:=[101,114,114,111,114]
abbrev dz:Ky:=[111,116,101,108,46,115,116,97,116,117,115,95,99,111,100,101]
abbrev bU:Ky:=[112,101,101,114,46,115,101,114,118,105,99,101]
abbrev vn:Ky:=[83,69,82,86,69,82]
abbrev vk:Ky:=[67,76,73,69,78,84]
abbrev vm:Ky:=[80,82,79,68,85,67,69,82]
abbrev vl:Ky:=[67,79,78,83,85,77,69,82]
abbrev xV:Ky:=[69,82,82,79,82]
abbrev mg:Ky:=[79,75]
def cr:List Int->Int
 |[]=>0
 |a::r=>if a≠0 then a else cr r
theorem dO{a:Int} {r:List Int}:cr (a::r) =if a≠0 then a else cr r:=rfl
theorem mI:cr []=0:=rfl
def nn(b:Bool):Int:=if b=true then 0 else 9
section
variable (L:List Nd) (q:Int) (key:Ky)
def c8:Int:=gH (aT L q key 115 115).1 (aT L q key 115 115).2
def c7:Bool:=decide ((aT L q key 115 115).1>=0)
def bO:Ky:=p0 L (aT L q key 115 115).1
def eS:Int:=ql L (aT L q key 110 110).1 (aT L q key 110 110).2
def oM:Bool:=rV L (aT L q key 110 110).1
def fw:Int:=rW L (aT L q key 110 110).1
def km:Int:=gH (aT L q key 123 123).1 (aT L q key 123 123).2
def jn:Bool:=decide ((aT L q key 123 123).1>=0)
def cB:Int:=rT (aT L q key 123 123).1
def n7:Int:=gH (aT L q key 91 91).1 (aT L q key 91 91).2
def cj:List Nat:=oZ L (aT L q key 91 91).1
def dV:Int:=cr [c8 L q key,if c7 L q key=true then(jK (bO L q key)).1 else 0]
def iR:gA:=if c7 L q key=true then(jK (bO L q key)).2 else[]
def mj:Int:=cr [c8 L q ct,nn (c7 L q ct),(fu (bO L q ct)).1]
def ml:Int:=cr [mj L q,dV L q dh]
def mm:Int:=cr [ml L q,nn (c7 L q dh),dV L q fX]
def dW:Int:=cr [mm L q,c8 L q iq]
def bJ:gA:=if mj L q=0 then(fu (bO L q ct)).2 else[]
def cU:gA:=if ml L q=0 then iR L q dh else[]
def bM:gA:=if mm L q=0 then iR L q fX else[]
def gu:Ky:=if dW L q=0 then bO L q iq else[]
def gQ(s:Ky):Int:=if s=vn then 2 else if s=vk then 3 else if s=vm then 4 else if s=vl then 5 else 0
def gP:Int:=cr [c8 L q cJ,if c7 L q cJ=true/\gQ (bO L q cJ) =0 then 7 else 0]
def gp:Int:=if c7 L q cJ=true then gQ (bO L q cJ) else 0
def dm:Int×(Int×Int):=dn (fw L q bz) (fw L q eP)
def gO:Int:=cr [eS L q bz,eS L q eP,(dm L q).1]
def er:Int:=cr [km L q key,if jn L q key=true then c8 L (cB L q key) jw else 0]
def cV:Ky:=if jn L q key=true then bO L (cB L q key) jw else[]
def dv(k:Nat):Int:=cr [if(L.getD k default).k.toNat≠123 then 7 else 0,eS L k bz,nn (oM L k bz),c8 L k fY,nn (c7 L k fY),(bE (fw L k bz)).1]
def pK(k:Nat):Ev:=⟨(bE (fw L k bz)).2,bO L k fY,[]⟩
def gF:List Nat->Int
 |[]=>0
 |k::r=>cr [dv L k,gF r]
def jd:Int:=cr [n7 L q bh,gF L (cj L q bh)]
def fR:List Ev:=(cj L q bh).map (pK L)
def jv(k:Nat):Int:=if(L.getD k default).k.toNat≠115 then 7 else 0
abbrev tA(key t:Ky):ak:=.mk key (.mk 1 t 0 0 [] [])
def jg(k:Nat):ak:=tA (L.getD k default).key (L.getD k default).t
def jl:List Nat->Int
 |[]=>0
 |k::r=>cr [jv L k,jl r]
def nL:List Nat:=if jn L q bk=true then bA L (cB L q bk) else[]
def jc:Int:=cr [km L q bk,jl L (nL L q)]
def bm:List ak:=cS ((nL L q).map (jg L)) []
end
def dr(l:List ak):Int:=if fL l cA=true then 2 else if bf l dz=xV then 2 else if bf l dz=mg then 1 else 0
def dA(l:List ak):Ky:=if fL l cA=true then bf l cA else[]
section
variable (L:List Nd) (q:Int)
def dk:List ak:=if cV L q ff≠[] then cf (dy (bm L q) [cA,dz]) (tA bU (cV L q ff)) else dy (bm L q) [cA,dz]
def zE:Int:=cr [if 0<=q/\q<L.length/\(L.getD q.toNat default).k.toNat=123 then 0 else 7,dW L q,gP L q,gO L q,er L q c5,er L q ff,jd L q,jc L q]
end
abbrev zC(t i p:gA) (r:List V):List V:=.int .u8 (t.getD 0 0).toNat::.int .u8 (t.getD 1 0).toNat::.int .u8 (t.getD 2 0).toNat::.int .u8 (t.getD 3 0).toNat::.int .u8 (t.getD 4 0).toNat::.int .u8 (t.getD 5 0).toNat::.int .u8 (t.getD 6 0).toNat::.int .u8 (t.getD 7 0).toNat::.int .u8 (t.getD 8 0).toNat::.int .u8 (t.getD 9 0).toNat::.int .u8 (t.getD 10 0).toNat::.int .u8 (t.getD 11 0).toNat::.int .u8 (t.getD 12 0).toNat::.int .u8 (t.getD 13 0).toNat::.int .u8 (t.getD 14 0).toNat::.int .u8 (t.getD 15 0).toNat::
 .int .u8 (i.getD 0 0).toNat::.int .u8 (i.getD 1 0).toNat::.int .u8 (i.getD 2 0).toNat::.int .u8 (i.getD 3 0).toNat::.int .u8 (i.getD 4 0).toNat::.int .u8 (i.getD 5 0).toNat::.int .u8 (i.getD 6 0).toNat::.int .u8 (i.getD 7 0).toNat::
 .int .u8 (p.getD 0 0).toNat::.int .u8 (p.getD 1 0).toNat::.int .u8 (p.getD 2 0).toNat::.int .u8 (p.getD 3 0).toNat::.int .u8 (p.getD 4 0).toNat::.int .u8 (p.getD 5 0).toNat::.int .u8 (p.getD 6 0).toNat::.int .u8 (p.getD 7 0).toNat::r
abbrev zZ:List V:=zC [] [] [] [.str [],.str [],.int .i64 0,.int .u64 0,.int .u64 0,.list true 0 [],.list true 0 [],.list true 0 [],.int .i64 0,.str []]
theorem dC{a:Int} {l:List Int} (h:Cd a) (h2:Cd (cr l)):Cd (cr (a::l)):=by
 rw[dO];split
 . exact h
 . exact h2
theorem zT(b:Bool):Cd (nn b):=by unfold nn;split<;>exact br rfl
theorem A8(L:List Nd) (q:Int) (key:Ky) (a b:Int):Cd (aT L q key a b).2:=by
 unfold aT;repeat' split
 all_goals exact br rfl
theorem CK{k e:Int} (h:Cd e):Cd (gH k e):=by
 unfold gH;split
 . exact h
 . exact br rfl
theorem ZC(m:Nat) (s:gA):Cd (gn m s).2:=by unfold gn;split<;>exact br rfl
theorem Xs(s:gA):Cd (jL s).2:=by
 unfold jL;repeat' split
 all_goals first
  |exact br rfl
  |exact ZC _ _
theorem Zv(s:gA):Cd (ki s).2:=by
 unfold ki oL;repeat' split
 all_goals first
  |exact br rfl
  |exact Xs _
theorem Jo(s:gA):Cd (ik s).1:=by unfold ik;split<;>exact br rfl
theorem Tn(s:gA):Cd (jK s).1:=by
 unfold jK;split
 . exact Jo _
 . exact br rfl
theorem Z1(s:gA):Cd (fu s).1:=by
 unfold fu;repeat' split
 all_goals first
  |exact Jo _
  |exact br rfl
theorem VK(u:Int):Cd (bE u).1:=by unfold bE;split<;>exact br rfl
theorem Wd(a b:Int):Cd (dn a b).1:=by unfold dn;split<;>exact br rfl
section
variable (L:List Nd) (q:Int)
theorem vu(key:Ky):Cd (c8 L q key):=CK (A8 L q key 115 115)
theorem GR(key:Ky):Cd (eS L q key):=by
 unfold eS ql nW;split
 . exact A8 L q key 110 110
 . exact Zv _
theorem O3(key:Ky):Cd (km L q key):=CK (A8 L q key 123 123)
theorem ZR(key:Ky):Cd (n7 L q key):=CK (A8 L q key 91 91)
theorem NZ(key:Ky):Cd (dV L q key):=by
 refine dC (vu L q key) (dC ?_ (br rfl));split
 . exact Tn _
 . exact br rfl
theorem ZU:Cd (dW L q):=dC (dC (dC (dC (vu L q _) (dC (zT _) (dC (Z1 _) (br rfl)))) (dC (NZ L q _) (br rfl))) (dC (zT _) (dC (NZ L q _) (br rfl)))) (dC (vu L q _) (br rfl))
theorem ZQ:Cd (gP L q):=by
 refine dC (vu L q _) (dC ?_ (br rfl));split<;>exact br rfl
theorem ZO:Cd (gO L q):=dC (GR L q _) (dC (GR L q _) (dC (Wd _ _) (br rfl)))
theorem O6(key:Ky):Cd (er L q key):=by
 refine dC (O3 L q _) (dC ?_ (br rfl));split
 . exact vu L _ _
 . exact br rfl
theorem ZJ(k:Nat):Cd (dv L k):=by
 refine dC ?_ (dC (GR L k _) (dC (zT _) (dC (vu L k _) (dC (zT _) (dC (VK _) (br rfl))))));split<;>exact br rfl
theorem Ig:∀ks:List Nat,Cd (gF L ks)
 |[]=>br rfl
 |k::r=>dC (ZJ L k) (dC (Ig r) (br rfl))
theorem ZV:Cd (jd L q):=dC (ZR L q _) (dC (Ig L _) (br rfl))
theorem N4:∀ks:List Nat,Cd (jl L ks)
 |[]=>br rfl
 |k::r=>by
   refine dC ?_ (dC (N4 r) (br rfl));unfold jv;split<;>exact br rfl
theorem ZM:Cd (jc L q):=dC (O3 L q _) (dC (N4 L _) (br rfl))
theorem Hs:∀(l acc:List ak),cF acc->cF (cS l acc)
 |[],acc,h=>by rw[cS];exact h
 |a::r,acc,h=>by rw[cS];exact Hs r _ (p6 h)
theorem qy{R:List ak} {a:ak} (h:ey R) (ha:a.value.kind=1):ey (cf R a):=by
 induction R with
 |nil=>
   intro x hx;rw[cf] at hx;rcases List.mem_singleton.1 hx with rfl
   exact ha
 |cons b r ih=>
   have ih:=ih fun x hx=>h x (d5 _ hx);intro x hx;rw[cf] at hx;split at hx
   . rcases List.mem_cons.1 hx with rfl|hx
     . exact h _ List.mem_cons_self
     . exact ih x hx
   . split at hx
     . rcases List.mem_cons.1 hx with rfl|hx
       . exact ha
       . exact h x (d5 _ hx)
     . rcases List.mem_cons.1 hx with rfl|hx
       . exact ha
       . exact h x hx
theorem Hv:∀(l acc:List ak),ey l->ey acc->ey (cS l acc)
 |[],acc,_,h=>by rw[cS];exact h
 |a::r,acc,hl,h=>by
   rw[cS];refine Hv r _ (fun x hx=>hl x (d5 _ hx)) (qy h ?_);have:=hl a List.mem_cons_self;obtain⟨k,v⟩:=a;obtain⟨k1,t,n,b,l,m⟩:=v;exact this
theorem T5(ks:List Nat):ey (ks.map (jg L)):=by
 intro a ha;obtain⟨k,_,rfl⟩:=List.mem_map.1 ha;rfl
theorem xZ:cF (bm L q):=Hs _ _ List.Pairwise.nil
theorem Gy:ey (bm L q):=Hv _ _ (T5 L _) fun _ h=>by cases h
theorem NY:(bm L q).length<=L.length:=by
 have h:=OI ((nL L q).map (jg L)) [];rw[aA] at h;have h2:(nL L q).length<=L.length:=by
  unfold nL;split
  . exact wS _ _
  . exact bu _
 have h3:([]:List ak).length=0:=rfl;unfold bm;omega
theorem nT{l:List ak} {ks:List Ky} (h:cF l):cF (dy l ks):=List.Pairwise.filter _ h
theorem yK{l:List ak} {ks:List Ky} (h:ey l):ey (dy l ks):=fun a ha=>h a (List.mem_filter.1 ha).1
theorem vr:cF (dk L q):=by
 unfold dk;split
 . exact p6 (nT (xZ L q))
 . exact nT (xZ L q)
theorem BJ:ey (dk L q):=by
 unfold dk;split
 . exact qy (yK (Gy L q)) rfl
 . exact yK (Gy L q)
end
end Go.Proofs.YtchllohbglebiaaGreatDoor
