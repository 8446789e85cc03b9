/-
  A part of the proof.
-/
import Derived.Test.YtchllohbglebiaaGreatDoorVgX
import Derived.Test.YtchllohbglebiaaGreatDoorVgMA
import Derived.Test.YtchllohbglebiaaGreatDoorProg
import Derived.KernelRfl
import Derived.Test.YtchllohbglebiaaGreatDoorVgZ
import Derived.Test.YtchllohbglebiaaGreatDoorVgZC
import Derived.TacticsInMore
set_option maxHeartbeats 4000000
set_option maxRecDepth 100000
set_option linter.unusedSimpArgs false
set_option linter.unusedVariables false
namespace Go.Proofs.YtchllohbglebiaaGreatDoor
open Go Go.VG
def BL:V->Value->Bool
 |.int k n,.int k' m=>decide (k=k'/\n=0/\m=0)
 |.bool b,.bool c=>b==c
 |.str [],.string ⟨⟨[]⟩⟩|.list true 0 [],.slice none 0 0|.nilptr,.pointer none|.nilmap,.map none|.nilIface,.nilIface|.nilFunc,.nilFunc=>true
 |_,_=>false
def BM:List V->List Value->Bool
 |[],[]=>true
 |x::xs,v::vs=>BL x v&&BM xs vs
 |_,_=>false
def Gq:V->Value->Bool
 |.agg xs,.agg vs=>BM xs vs.toList
 |x,v=>BL x v
theorem NV{x:V} {v:Value} (h:BL x v=true) (st:St) (g:au) (n:Nat):VR st g x n v:=by
 unfold BL at h;split at h
 . obtain⟨rfl,rfl,rfl⟩:=of_decide_eq_true h;exact zInt st g n
 . cases eq_of_beq h;exact zBool st g n
 . exact zStr st g n
 . exact zList st g n
 . exact zPtr st g n
 . exact zMap st g n
 . exact ZG st g n
 . exact zFunc st g n
 . cases h
theorem NW(st:St) (g:au) (n:Nat):∀{xs:List V} {vs:List Value},BM xs vs=true->aC st g xs n vs
 |[],[],_=>dM
 |x::xs,v::vs,h=>by
   rw[BM,zza] at h;exact cy (NV h.1 st g n) (NW st g n h.2)
 |[],_::_,h=>by cases h
 |_::_,[],h=>by cases h
theorem ZH{x:V} {v:Value} (h:Gq x v=true) (st:St) (g:au) (n:Nat):VR st g x n v:=by
 unfold Gq at h;split at h
 . simp only[VR];exact⟨_,rfl,NW st g n h⟩
 . exact NV h st g n
def tyK(P:Program) (t:TypeId) (k:TK):Bool:=match k,P.underlying t with
 |.bool,some .bool|.string,some .string|.iface,some (.interface _)|.func,some (.func _ _ _) =>true
 |.int k,some (.int k') =>decide (k=k')
 |.slice e,some (.slice e')|.ptr e,some (.pointer e') =>decide (e=e')
 |.array n e,some (.array n' e')|.map n e,some (.map n' e') =>decide (n=n'/\e=e')
 |.struct fs,some (.struct fields) =>decide (fields.toList.map (fun f=>(f.offset,f.type)) =fs)&&(fields.toList.mapM (fun f=>(P.info? f.type).map fun i=>(f.offset,i.size))).isSome
 |_,_=>false
theorem Zg{P:Program} {t:TypeId} {k:TK} (h:tyK P t k=true):k.ok P t:=by
 unfold tyK at h;split at h;all_goals first
  |(cases h;done)
  |(rename_i hu;exact hu)
  |(rename_i hu;exact⟨_,hu⟩)
  |(rename_i hu;exact⟨_,_,_,hu⟩)
  |(rename_i hu;cases of_decide_eq_true h;exact hu)
  |(rename_i hu;obtain⟨rfl,rfl⟩:=of_decide_eq_true h;exact hu)
  |(rename_i hu;rw[zza] at h;exact⟨_,hu,of_decide_eq_true h.1,h.2⟩)
def tyC(P:Program) (t:TypeId) (i:TI):Bool:=tyK P t i.k&&match P.info? t with
 |some info=>decide (info.size=i.size/\info.bytes=i.bytes)&&match info.zero with
   |some z=>Gq i.zero z
   |none=>false
 |none=>false
theorem Zf{P:Program} {t:TypeId} {i:TI} (h:tyC P t i=true) (hf:i.feq≠[]->i.k.CD P t i.feq):lS P t i:=by
 unfold tyC at h;rw[zza] at h;obtain⟨h1,h⟩:=h;split at h
 . rename_i info hi;rw[zza] at h;obtain⟨h2,h⟩:=h;obtain⟨h2,h3⟩:=of_decide_eq_true h2;split at h
   . rename_i z hz;unfold lS;split
     . trivial
     . exact⟨Zg h1,⟨info,hi,h2,h3,z,hz,fun st g n=>ZH h st g n⟩,hf⟩
   . cases h
 . cases h
def tt:TypeId->TI:=fun t=>match t with
 |1=>⟨.func,1,8,.nilFunc,[]⟩
 |2=>⟨.int .i64,1,8,.int .i64 0,[]⟩
 |3=>⟨.int .i64,1,8,.int .i64 0,[]⟩
 |4=>⟨.bool,1,1,.bool false,[]⟩
 |5=>⟨.int .u8,1,1,.int .u8 0,[]⟩
 |6=>⟨.int .u8,1,1,.int .u8 0,[]⟩
 |7=>⟨.struct [(0,2),(1,3),(2,4),(3,6)],4,24,.agg [.int .i64 0,.int .i64 0,.bool false,.int .u8 0],[]⟩
 |8=>⟨.struct [(0,2),(1,3),(2,4),(3,6)],4,24,.agg [.int .i64 0,.int .i64 0,.bool false,.int .u8 0],[]⟩
 |9=>⟨.string,1,16,.str [],[]⟩
 |10=>⟨.string,1,16,.str [],[]⟩
 |11=>⟨.string,1,16,.str [],[]⟩
 |12=>⟨.int .u64,1,8,.int .u64 0,[]⟩
 |13=>⟨.struct [(0,9),(1,12)],2,24,.agg [.str [],.int .u64 0],[]⟩
 |14=>⟨.struct [(0,9),(1,12)],2,24,.agg [.str [],.int .u64 0],[]⟩
 |15=>⟨.ptr 255,1,8,.nilptr,[]⟩
 |16=>⟨.ptr 258,1,8,.nilptr,[]⟩
 |17=>⟨.ptr 266,1,8,.nilptr,[]⟩
 |18=>⟨.struct [(0,17)],1,8,.agg [.nilptr],[]⟩
 |19=>⟨.struct [(0,17)],1,8,.agg [.nilptr],[]⟩
 |20=>⟨.iface,1,16,.nilIface,[]⟩
 |21=>⟨.int .i32,1,4,.int .i32 0,[]⟩
 |23=>⟨.slice 61,1,24,.list true 0 [],[]⟩
 |24=>⟨.int .i64,1,8,.int .i64 0,[]⟩
 |26=>⟨.func,1,8,.nilFunc,[]⟩
 |27=>⟨.array 16 5,16,16,.agg [.int .u8 0,.int .u8 0,.int .u8 0,.int .u8 0,.int .u8 0,.int .u8 0,.int .u8 0,.int .u8 0,.int .u8 0,.int .u8 0,.int .u8 0,.int .u8 0,.int .u8 0,.int .u8 0,.int .u8 0,.int .u8 0],[.kI .u8,.kI .u8,.kI .u8,.kI .u8,.kI .u8,.kI .u8,.kI .u8,.kI .u8,.kI .u8,.kI .u8,.kI .u8,.kI .u8,.kI .u8,.kI .u8,.kI .u8,.kI .u8]⟩
 |28=>⟨.array 16 5,16,16,.agg [.int .u8 0,.int .u8 0,.int .u8 0,.int .u8 0,.int .u8 0,.int .u8 0,.int .u8 0,.int .u8 0,.int .u8 0,.int .u8 0,.int .u8 0,.int .u8 0,.int .u8 0,.int .u8 0,.int .u8 0,.int .u8 0],[.kI .u8,.kI .u8,.kI .u8,.kI .u8,.kI .u8,.kI .u8,.kI .u8,.kI .u8,.kI .u8,.kI .u8,.kI .u8,.kI .u8,.kI .u8,.kI .u8,.kI .u8,.kI .u8]⟩
 |29=>⟨.array 8 5,8,8,.agg [.int .u8 0,.int .u8 0,.int .u8 0,.int .u8 0,.int .u8 0,.int .u8 0,.int .u8 0,.int .u8 0],[.kI .u8,.kI .u8,.kI .u8,.kI .u8,.kI .u8,.kI .u8,.kI .u8,.kI .u8]⟩
 |30=>⟨.array 8 5,8,8,.agg [.int .u8 0,.int .u8 0,.int .u8 0,.int .u8 0,.int .u8 0,.int .u8 0,.int .u8 0,.int .u8 0],[.kI .u8,.kI .u8,.kI .u8,.kI .u8,.kI .u8,.kI .u8,.kI .u8,.kI .u8]⟩
 |31=>⟨.int .u64,1,8,.int .u64 0,[]⟩
 |32=>⟨.slice 127,1,24,.list true 0 [],[]⟩
 |33=>⟨.slice 83,1,24,.list true 0 [],[]⟩
 |34=>⟨.slice 85,1,24,.list true 0 [],[]⟩
 |35=>⟨.struct [(0,3),(1,9)],2,24,.agg [.int .i64 0,.str []],[.kI .i64,.kS]⟩
 |36=>⟨.struct [(0,3),(1,9)],2,24,.agg [.int .i64 0,.str []],[.kI .i64,.kS]⟩
 |37=>⟨.struct [(0,28),(16,30),(24,30),(32,9),(33,9),(34,3),(35,31),(36,31),(37,32),(38,33),(39,34),(40,36)],42,184,.agg [.int .u8 0,.int .u8 0,.int .u8 0,.int .u8 0,.int .u8 0,.int .u8 0,.int .u8 0,.int .u8 0,.int .u8 0,.int .u8 0,.int .u8 0,.int .u8 0,.int .u8 0,.int .u8 0,.int .u8 0,.int .u8 0,.int .u8 0,.int .u8 0,.int .u8 0,.int .u8 0,.int .u8 0,.int .u8 0,.int .u8 0,.int .u8 0,.int .u8 0,.int .u8 0,.int .u8 0,.int .u8 0,.int .u8 0,.int .u8 0,.int .u8 0,.int .u8 0,.str [],.str [],.int .i64 0,.int .u64 0,.int .u64 0,.list true 0 [],.list true 0 [],.list true 0 [],.int .i64 0,.str []],[]⟩
 |38=>⟨.struct [(0,28),(16,30),(24,30),(32,9),(33,9),(34,3),(35,31),(36,31),(37,32),(38,33),(39,34),(40,36)],42,184,.agg [.int .u8 0,.int .u8 0,.int .u8 0,.int .u8 0,.int .u8 0,.int .u8 0,.int .u8 0,.int .u8 0,.int .u8 0,.int .u8 0,.int .u8 0,.int .u8 0,.int .u8 0,.int .u8 0,.int .u8 0,.int .u8 0,.int .u8 0,.int .u8 0,.int .u8 0,.int .u8 0,.int .u8 0,.int .u8 0,.int .u8 0,.int .u8 0,.int .u8 0,.int .u8 0,.int .u8 0,.int .u8 0,.int .u8 0,.int .u8 0,.int .u8 0,.int .u8 0,.str [],.str [],.int .i64 0,.int .u64 0,.int .u64 0,.list true 0 [],.list true 0 [],.list true 0 [],.int .i64 0,.str []],[]⟩
 |40=>⟨.func,1,8,.nilFunc,[]⟩
 |42=>⟨.func,1,8,.nilFunc,[]⟩
 |47=>⟨.ptr 51,1,8,.nilptr,[]⟩
 |48=>⟨.ptr 97,1,8,.nilptr,[]⟩
 |50=>⟨.struct [(0,48),(1,23)],2,32,.agg [.nilptr,.list true 0 []],[]⟩
 |51=>⟨.struct [(0,48),(1,23)],2,32,.agg [.nilptr,.list true 0 []],[]⟩
 |52=>⟨.int .i64,1,8,.int .i64 0,[]⟩
 |55=>⟨.struct [(0,5),(1,9)],2,24,.agg [.int .u8 0,.str []],[.kI .u8,.kS]⟩
 |56=>⟨.struct [(0,5),(1,9)],2,24,.agg [.int .u8 0,.str []],[.kI .u8,.kS]⟩
 |58=>⟨.int .i64,1,8,.int .i64 0,[]⟩
 |60=>⟨.struct [(0,5),(1,9),(2,9),(3,3)],4,48,.agg [.int .u8 0,.str [],.str [],.int .i64 0],[.kI .u8,.kS,.kS,.kI .i64]⟩
 |61=>⟨.struct [(0,5),(1,9),(2,9),(3,3)],4,48,.agg [.int .u8 0,.str [],.str [],.int .i64 0],[.kI .u8,.kS,.kS,.kI .i64]⟩
 |62=>⟨.struct [(0,23),(1,3)],2,32,.agg [.list true 0 [],.int .i64 0],[]⟩
 |63=>⟨.struct [(0,23),(1,3)],2,32,.agg [.list true 0 [],.int .i64 0],[]⟩
 |64=>⟨.func,1,8,.nilFunc,[]⟩
 |65=>⟨.ptr 38,1,8,.nilptr,[]⟩
 |72=>⟨.func,1,8,.nilFunc,[]⟩
 |73=>⟨.slice 75,1,24,.list true 0 [],[]⟩
 |74=>⟨.struct [(0,5),(1,9),(2,3),(3,31),(4,73),(5,32)],6,88,.agg [.int .u8 0,.str [],.int .i64 0,.int .u64 0,.list true 0 [],.list true 0 []],[]⟩
 |75=>⟨.struct [(0,5),(1,9),(2,3),(3,31),(4,73),(5,32)],6,88,.agg [.int .u8 0,.str [],.int .i64 0,.int .u64 0,.list true 0 [],.list true 0 []],[]⟩
 |77=>⟨.ptr 136,1,8,.nilptr,[]⟩
 |82=>⟨.struct [(0,31),(1,9),(2,32)],3,48,.agg [.int .u64 0,.str [],.list true 0 []],[]⟩
 |83=>⟨.struct [(0,31),(1,9),(2,32)],3,48,.agg [.int .u64 0,.str [],.list true 0 []],[]⟩
 |84=>⟨.struct [(0,28),(16,30),(24,9),(25,32)],26,64,.agg [.int .u8 0,.int .u8 0,.int .u8 0,.int .u8 0,.int .u8 0,.int .u8 0,.int .u8 0,.int .u8 0,.int .u8 0,.int .u8 0,.int .u8 0,.int .u8 0,.int .u8 0,.int .u8 0,.int .u8 0,.int .u8 0,.int .u8 0,.int .u8 0,.int .u8 0,.int .u8 0,.int .u8 0,.int .u8 0,.int .u8 0,.int .u8 0,.str [],.list true 0 []],[]⟩
 |85=>⟨.struct [(0,28),(16,30),(24,9),(25,32)],26,64,.agg [.int .u8 0,.int .u8 0,.int .u8 0,.int .u8 0,.int .u8 0,.int .u8 0,.int .u8 0,.int .u8 0,.int .u8 0,.int .u8 0,.int .u8 0,.int .u8 0,.int .u8 0,.int .u8 0,.int .u8 0,.int .u8 0,.int .u8 0,.int .u8 0,.int .u8 0,.int .u8 0,.int .u8 0,.int .u8 0,.int .u8 0,.int .u8 0,.str [],.list true 0 []],[]⟩
 |88=>⟨.func,1,8,.nilFunc,[]⟩
 |91=>⟨.slice 9,1,24,.list true 0 [],[]⟩
 |92=>⟨.slice 5,1,24,.list true 0 [],[]⟩
 |96=>⟨.struct [(0,9),(1,3),(2,3),(3,24)],4,40,.agg [.str [],.int .i64 0,.int .i64 0,.int .i64 0],[.kS,.kI .i64,.kI .i64,.kI .i64]⟩
 |97=>⟨.struct [(0,9),(1,3),(2,3),(3,24)],4,40,.agg [.str [],.int .i64 0,.int .i64 0,.int .i64 0],[.kS,.kI .i64,.kI .i64,.kI .i64]⟩
 |112=>⟨.struct [(0,31),(1,31)],2,16,.agg [.int .u64 0,.int .u64 0],[.kI .u64,.kI .u64]⟩
 |113=>⟨.struct [(0,31),(1,31)],2,16,.agg [.int .u64 0,.int .u64 0],[.kI .u64,.kI .u64]⟩
 |116=>⟨.struct [(0,3),(1,4),(2,24)],3,24,.agg [.int .i64 0,.bool false,.int .i64 0],[.kI .i64,.kB,.kI .i64]⟩
 |117=>⟨.struct [(0,3),(1,4),(2,24)],3,24,.agg [.int .i64 0,.bool false,.int .i64 0],[.kI .i64,.kB,.kI .i64]⟩
 |119=>⟨.slice 3,1,24,.list true 0 [],[]⟩
 |120=>⟨.struct [(0,119),(1,4),(2,24)],3,40,.agg [.list true 0 [],.bool false,.int .i64 0],[]⟩
 |121=>⟨.struct [(0,119),(1,4),(2,24)],3,40,.agg [.list true 0 [],.bool false,.int .i64 0],[]⟩
 |126=>⟨.struct [(0,9),(1,75)],7,104,.agg [.str [],.int .u8 0,.str [],.int .i64 0,.int .u64 0,.list true 0 [],.list true 0 []],[]⟩
 |127=>⟨.struct [(0,9),(1,75)],7,104,.agg [.str [],.int .u8 0,.str [],.int .i64 0,.int .u64 0,.list true 0 [],.list true 0 []],[]⟩
 |133=>⟨.func,1,8,.nilFunc,[]⟩
 |134=>⟨.slice 186,1,24,.list true 0 [],[]⟩
 |135=>⟨.struct [(0,92),(1,134),(2,4),(3,24),(4,133)],5,72,.agg [.list true 0 [],.list true 0 [],.bool false,.int .i64 0,.nilFunc],[]⟩
 |136=>⟨.struct [(0,92),(1,134),(2,4),(3,24),(4,133)],5,72,.agg [.list true 0 [],.list true 0 [],.bool false,.int .i64 0,.nilFunc],[]⟩
 |152=>⟨.map 9 3,1,8,.nilmap,[.kS]⟩
 |163=>⟨.struct [(0,9),(1,4),(2,24)],3,32,.agg [.str [],.bool false,.int .i64 0],[.kS,.kB,.kI .i64]⟩
 |164=>⟨.struct [(0,9),(1,4),(2,24)],3,32,.agg [.str [],.bool false,.int .i64 0],[.kS,.kB,.kI .i64]⟩
 |184=>⟨.func,1,8,.nilFunc,[]⟩
 |185=>⟨.struct [(0,5),(1,4),(2,4)],3,3,.agg [.int .u8 0,.bool false,.bool false],[.kI .u8,.kB,.kB]⟩
 |186=>⟨.struct [(0,5),(1,4),(2,4)],3,3,.agg [.int .u8 0,.bool false,.bool false],[.kI .u8,.kB,.kB]⟩
 |187=>⟨.ptr 186,1,8,.nilptr,[]⟩
 |190=>⟨.string,1,16,.str [],[]⟩
 |191=>⟨.string,1,16,.str [],[]⟩
 |195=>⟨.ptr 197,1,8,.nilptr,[]⟩
 |196=>⟨.struct [(0,48),(1,92)],2,32,.agg [.nilptr,.list true 0 []],[]⟩
 |197=>⟨.struct [(0,48),(1,92)],2,32,.agg [.nilptr,.list true 0 []],[]⟩
 |198=>⟨.ptr 200,1,8,.nilptr,[]⟩
 |199=>⟨.struct [(0,48),(1,92)],2,32,.agg [.nilptr,.list true 0 []],[]⟩
 |200=>⟨.struct [(0,48),(1,92)],2,32,.agg [.nilptr,.list true 0 []],[]⟩
 |204=>⟨.int .u64,1,8,.int .u64 0,[]⟩
 |212=>⟨.slice 75,1,24,.list true 0 [],[]⟩
 |213=>⟨.slice 127,1,24,.list true 0 [],[]⟩
 |221=>⟨.struct [(0,4),(1,9),(2,9),(3,3)],4,48,.agg [.bool false,.str [],.str [],.int .i64 0],[.kB,.kS,.kS,.kI .i64]⟩
 |222=>⟨.struct [(0,4),(1,9),(2,9),(3,3)],4,48,.agg [.bool false,.str [],.str [],.int .i64 0],[.kB,.kS,.kS,.kI .i64]⟩
 |225=>⟨.int .i64,1,8,.int .i64 0,[]⟩
 |233=>⟨.int .u32,1,4,.int .u32 0,[]⟩
 |243=>⟨.int .u64,1,8,.int .u64 0,[]⟩
 |246=>⟨.ptr 3,1,8,.nilptr,[]⟩
 |248=>⟨.array 20 5,20,20,.agg [.int .u8 0,.int .u8 0,.int .u8 0,.int .u8 0,.int .u8 0,.int .u8 0,.int .u8 0,.int .u8 0,.int .u8 0,.int .u8 0,.int .u8 0,.int .u8 0,.int .u8 0,.int .u8 0,.int .u8 0,.int .u8 0,.int .u8 0,.int .u8 0,.int .u8 0,.int .u8 0],[.kI .u8,.kI .u8,.kI .u8,.kI .u8,.kI .u8,.kI .u8,.kI .u8,.kI .u8,.kI .u8,.kI .u8,.kI .u8,.kI .u8,.kI .u8,.kI .u8,.kI .u8,.kI .u8,.kI .u8,.kI .u8,.kI .u8,.kI .u8]⟩
 |250=>⟨.ptr 243,1,8,.nilptr,[]⟩
 |254=>⟨.struct [(0,17),(1,17),(2,17),(3,9)],4,40,.agg [.nilptr,.nilptr,.nilptr,.str []],[]⟩
 |255=>⟨.struct [(0,17),(1,17),(2,17),(3,9)],4,40,.agg [.nilptr,.nilptr,.nilptr,.str []],[]⟩
 |259=>⟨.int .u8,1,1,.int .u8 0,[]⟩
 |260=>⟨.int .u8,1,1,.int .u8 0,[]⟩
 |261=>⟨.func,1,8,.nilFunc,[]⟩
 |262=>⟨.ptr 5,1,8,.nilptr,[]⟩
 |263=>⟨.int .i32,1,4,.int .i32 0,[]⟩
 |264=>⟨.int .i32,1,4,.int .i32 0,[]⟩
 |265=>⟨.struct [(0,12),(1,12),(2,233),(3,259),(4,5),(5,5),(6,260),(7,261),(8,262),(9,263),(10,264)],11,48,.agg [.int .u64 0,.int .u64 0,.int .u32 0,.int .u8 0,.int .u8 0,.int .u8 0,.int .u8 0,.nilFunc,.nilptr,.int .i32 0,.int .i32 0],[]⟩
 |266=>⟨.struct [(0,12),(1,12),(2,233),(3,259),(4,5),(5,5),(6,260),(7,261),(8,262),(9,263),(10,264)],11,48,.agg [.int .u64 0,.int .u64 0,.int .u32 0,.int .u8 0,.int .u8 0,.int .u8 0,.int .u8 0,.nilFunc,.nilptr,.int .i32 0,.int .i32 0],[]⟩
 |_=>⟨.other,0,0,.undef,[]⟩
theorem vh:∀t,lS Tryz.prog t (tt t):=fun t=>by
 unfold tt;split;all_goals first
  |trivial
  | (refine Zf (by kernel_rfl) ?_
     first
      |exact fun h=>absurd rfl h
      |exact fun h=>SQ h (by kernel_rfl) (by kernel_rfl) (by kernel_rfl) (by kernel_rfl)
      |exact fun _=>UP (by kernel_rfl)
      |exact fun _=>UQ (by kernel_rfl) 8 (by decide) (by kernel_rfl) (by kernel_rfl) (by kernel_rfl) (by kernel_rfl))
def tw:TypeId->Bool:=fun t=>match t with
 |5=>true
 |9=>true
 |29=>true
 |_=>false
theorem P1:sV Tryz.prog tt tw where
 tys:=vh
 kids:=fun t h=>by
  unfold tw at h;split at h<;>first|(cases h;done)|rfl
 pos:=fun t h=>by
  unfold tw at h;split at h<;>first
   |(cases h;done)
   |exact .inl ⟨_,rfl,by decide⟩
   |(refine .inr (.inr (And.intro ?_ ?_))<;>(intro e hh;cases hh))
 fields:=fun t fs h k=>by
  unfold tw at h;split at h<;>first
   |(cases h;done)
   |(cases k;rfl)
   |(cases k;done)
 array:=fun t m e h k=>by
  unfold tw at h;split at h<;>first
   |(cases h;done)
   |(cases k;rfl)
   |(cases k;done)
theorem xi:Tryz.prog.follows .mixedOrders=true:=by kernel_rfl
def ib:Nat->Option (List V):=fun b=>match b with
 |1=>some [.int .u8 (56),.int .u8 (48),.int .u8 (40),.int .u8 (32),.int .u8 (24),.int .u8 (16),.int .u8 (8),.int .u8 (0)]
 |_=>none
def qF:List (Nat×Sm)->Nat->Sm
 |[],_=>sm0
 |(k,s)::r,f=>cond (Nat.beq k f) s (qF r f)
def um:List (Nat×List gz)->Nat->List gz
 |[],_=>[]
 |(k,s)::r,f=>cond (Nat.beq k f) s (um r f)
noncomputable def rz(l:List (Nat×Sm)) (h:List (Nat×List gz)):Ctx:=⟨Tryz.prog,tt,ib,fun f=>qF l f,fun _ _ _=>False,fun r=>um h r,fun _=>false,fun _ _ _ _=>none,fun _ _ _=>none,fun _=>false,fun _=>none⟩
noncomputable abbrev cx(l:List (Nat×Sm)):Ctx:=rz l []
def rm:List (Nat×Sm)->Prop
 |[]=>True
 |(k,s)::r=>ye Tryz.prog ib k s/\rm r
theorem uq:∀{l:List (Nat×Sm)} {f:Nat},rm l->ye Tryz.prog ib f (qF l f)
 |[],_,_=>YA
 |(k,s)::r,f,h=>by
   simp only[qF];cases hb:Nat.beq k f with
   |true=>
     have:=aB hb;subst this;exact h.1
   |false=>exact uq h.2
theorem Lo{α:Type} {a:α} (h:(none:Option α) =some a):(none:Option α) =some a:=h
theorem ar{l:List (Nat×Sm)} {hs:List (Nat×List gz)} (h:rm l):cq (rz l hs) where
 ti:=vh
 mt:=fun _ _ _ h=>h.elim
 hm:=xi
 gam:=fun f args sg pre x r h' hp=>uq h args sg pre x r h' hp
 del:=fun _ _ _ _ _ _ _ _ _ h'=>by cases(Lo h')
def uo:List (Nat×dL)->Nat->dL
 |[],_=>psm0
 |(k,s)::r,f=>cond (Nat.beq k f) s (uo r f)
def OKp:List (Nat×dL)->Prop
 |[]=>True
 |(k,s)::r=>y9 Tryz.prog ib k s/\OKp r
theorem zL:∀{l:List (Nat×dL)} {f:Nat},OKp l->y9 Tryz.prog ib f (uo l f)
 |[],_,_=>X7
 |(k,s)::r,f,h=>by
   simp only[uo];cases hb:Nat.beq k f with
   |true=>
     have:=aB hb;subst this;exact h.1
   |false=>exact zL h.2
noncomputable def gE(l:List (Nat×Sm)) (p:List (Nat×dL)):Ctx:=⟨Tryz.prog,tt,ib,fun f=>qF l f,fun _ _ _=>False,fun r=>um [] r,fun _=>false,fun _ _ _ _=>none,fun f=>uo p f,fun _=>false,fun _=>none⟩
theorem ig{l:List (Nat×Sm)} {p:List (Nat×dL)} (h:rm l) (hp:OKp p):cq (gE l p) where
 ti:=vh
 mt:=fun _ _ _ h=>h.elim
 hm:=xi
 gam:=fun f args sg pre x r h' hp=>uq h args sg pre x r h' hp
 del:=fun f args sg pre c u r x r2 h' hq=>zL hp args sg pre c u r x r2 h' hq
noncomputable def cxq(l:List (Nat×Sm)) (p:List (Nat×dL)) (n:List Nat):Ctx:=⟨Tryz.prog,tt,ib,fun f=>qF l f,fun _ _ _=>False,fun r=>um [] r,fun _=>false,fun _ _ _ _=>none,fun f=>uo p f,fun d=>aH d n,fun _=>none⟩
theorem Jd{l:List (Nat×Sm)} {p:List (Nat×dL)} {n:List Nat} (h:rm l) (hp:OKp p):cq (cxq l p n) where
 ti:=vh
 mt:=fun _ _ _ h=>h.elim
 hm:=xi
 gam:=fun f args sg pre x r h' hp=>uq h args sg pre x r h' hp
 del:=fun f args sg pre c u r x r2 h' hq=>zL hp args sg pre c u r x r2 h' hq
def lkR:List (Nat×Nat)->Nat->Option Nat
 |[],_=>none
 |(k,s)::r,d=>cond (Nat.beq k d) (some s) (lkR r d)
noncomputable def pX(l:List (Nat×Sm)) (h:List (Nat×List gz)) (rs:List (Nat×Nat)):Ctx:=⟨Tryz.prog,tt,ib,fun f=>qF l f,fun _ _ _=>False,fun r=>um h r,fun _=>false,fun _ _ _ _=>none,fun _ _ _=>none,fun _=>false,fun d=>lkR rs d⟩
theorem rX{l:List (Nat×Sm)} {hs:List (Nat×List gz)} {rs:List (Nat×Nat)} (h:rm l):cq (pX l hs rs) where
 ti:=vh
 mt:=fun _ _ _ h=>h.elim
 hm:=xi
 gam:=fun f args sg pre x r h' hp=>uq h args sg pre x r h' hp
 del:=fun _ _ _ _ _ _ _ _ _ h'=>by cases(Lo h')
abbrev jq(f:FuncId) (args:List V) (σ:List O) (u:Value) (r:Option (List O)):Prop:=sX Tryz.prog ib f args σ u r
abbrev dX(f:FuncId) (s:dL):Prop:=y9 Tryz.prog ib f s
abbrev OK(f:FuncId) (args:List V) (σ:List O) (x:V) (r:Option (List O)):Prop:=eU Tryz.prog ib f args σ x r
abbrev ax(f:FuncId) (s:Sm):Prop:=ye Tryz.prog ib f s
mutual
inductive aM where
 |mk (kind:Int) (text:gA) (num bits:Int) (list:List aM) (map:List ak)
inductive ak where
 |mk (key:gA) (value:aM)
end
instance:Inhabited aM:=⟨.mk 0 [] 0 0 [] []⟩
instance:Inhabited ak:=⟨.mk [] default⟩
def aM.kind:aM->Int|.mk k _ _ _ _ _=>k
def aM.text:aM->gA|.mk _ t _ _ _ _=>t
def aM.num:aM->Int|.mk _ _ n _ _ _=>n
def aM.bits:aM->Int|.mk _ _ _ b _ _=>b
def aM.list:aM->List aM|.mk _ _ _ _ l _=>l
def aM.map:aM->List ak|.mk _ _ _ _ _ m=>m
def ak.key:ak->gA|.mk k _=>k
def ak.value:ak->aM|.mk _ v=>v
mutual
def rC:aM->V
 |.mk k t n b l m=>.agg [.int .u8 k,.str t,.int .i64 n,.int .u64 b,.list false 6 (ky l),.list false 7 (aG m)]
def ky:List aM->List V
 |[]=>[]
 |v::r=>rC v::ky r
def wa:ak->V
 |.mk k v=>.agg (.str k::(rC v).cells)
def aG:List ak->List V
 |[]=>[]
 |a::r=>wa a::aG r
end
abbrev cv(v:aM):List V:=[.int .u8 v.kind,.str v.text,.int .i64 v.num,.int .u64 v.bits,.list false 6 (ky v.list),.list false 7 (aG v.map)]
abbrev ev(v:aM):V:=.agg [.int .u8 v.kind,.str v.text,.int .i64 v.num,.int .u64 v.bits,.list false 6 (ky v.list),.list false 7 (aG v.map)]
abbrev ea(a:ak):V:=.agg [.str a.key,.int .u8 a.value.kind,.str a.value.text,.int .i64 a.value.num,.int .u64 a.value.bits,.list false 6 (ky a.value.list),.list false 7 (aG a.value.map)]
theorem Cy(v:aM):rC v=ev v:=by cases v;simp[rC,aM.kind,aM.text,aM.num,aM.bits,aM.list,aM.map]
theorem Pe(a:ak):wa a=ea a:=by cases a;simp[wa,Cy,V.cells,ak.key,ak.value]
theorem Cx(l:List aM):ky l=l.map ev:=by induction l<;>simp_all[ky,Cy]
theorem lV(l:List ak):aG l=l.map ea:=by induction l<;>simp_all[aG,Pe]
@[simp] theorem wb(l:List aM):(ky l).length=l.length:=by simp[Cx]
@[simp] theorem cX(l:List ak):(aG l).length=l.length:=by simp[lV]
theorem Js{l:List aM} {n:Nat} {K:V->Prop} (h1:ae (n<l.length)) (h2:K (ev (l.getD n default))):iB (ky l) (n:Int).toNat K:=by
 rw[Cx];exact kH h1 h2
theorem nr{l:List ak} {n:Nat} {K:V->Prop} (h1:ae (n<l.length)) (h2:K (ea (l.getD n default))):iB (aG l) (n:Int).toNat K:=by
 rw[lV];exact kH h1 h2
mutual
def my:V->aM
 |.agg [.int _ k,.str t,.int _ n,.int _ b,.list _ _ l,.list _ _ m]=>.mk k t n b (rA l) (bI m)
 |_=>.mk 0 [] 0 0 [] []
def rA:List V->List aM
 |[]=>[]
 |x::r=>my x::rA r
def vS:V->ak
 |.agg [.str s,.int _ k,.str t,.int _ n,.int _ b,.list _ _ l,.list _ _ m]=>.mk s (.mk k t n b (rA l) (bI m))
 |_=>.mk [] (.mk 0 [] 0 0 [] [])
def bI:List V->List ak
 |[]=>[]
 |x::r=>vS x::bI r
end
mutual
theorem HK:∀v:aM,my (rC v) =v
 |.mk k t n b l m=>by simp[rC,my,yF l,dZ m]
theorem yF:∀l:List aM,rA (ky l) =l
 |[]=>by simp[ky,rA]
 |v::r=>by simp[ky,rA,HK v,yF r]
theorem P2:∀a:ak,vS (wa a) =a
 |.mk s (.mk k t n b l m) =>by simp[wa,rC,V.cells,vS,yF l,dZ m]
theorem dZ:∀l:List ak,bI (aG l) =l
 |[]=>by simp[aG,bI]
 |a::r=>by simp[aG,bI,P2 a,dZ r]
end
attribute [simp] yF dZ
theorem lv(v:aM):my (ev v) =v:=by rw[<-Cy,HK]
def decLv:V->List aM
 |.list _ _ l=>rA l
 |_=>[]
def lq:V->List ak
 |.list _ _ l=>bI l
 |_=>[]
theorem tx(c:Bool) (z:Nat) (l:List ak):lq (.list c z (aG l)) =l:=dZ l
def qz(x:V):Prop:=Wk x (ev (my x))
def oe(x:V):Prop:=Wk x (.list false 7 (aG (lq x)))
theorem ue(v:aM):qz (ev v):=by unfold qz;rw[lv];exact Wk.refl _
theorem p7(l:List ak):oe (.list false 7 (aG l)):=by unfold oe;rw[tx];exact Wk.refl _
theorem ND{v:aM} (h:(ev v).wf):(0<=v.kind/\v.kind<=255)/\v.text.length<=9223372036854775807/\(-9223372036854775808<=v.num/\v.num<=9223372036854775807)/\(0<=v.bits/\v.bits<=18446744073709551615)/\
   (v.list.length<=9223372036854775807/\V.eK (ky v.list))/\(v.map.length<=9223372036854775807/\V.eK (aG v.map)):=by
 simp only[V.wf,V.eK] at h;obtain⟨h1,h2,h3,h4,h5,h6,_⟩:=h;rw[wb] at h5;rw[cX] at h6;exact⟨h1,h2,h3,h4,h5,h6⟩
mutual
def aM.nodes:aM->Nat
 |.mk _ _ _ _ l m=>1+qJ l+ji m
def qJ:List aM->Nat
 |[]=>0
 |v::r=>v.nodes+qJ r
def ak.nodes:ak->Nat
 |.mk _ v=>v.nodes
def ji:List ak->Nat
 |[]=>0
 |a::r=>a.nodes+ji r
end
theorem zU(v:aM):v.nodes=1+qJ v.list+ji v.map:=by cases v;simp[aM.nodes,aM.list,aM.map]
theorem Lr(a:ak):a.nodes=a.value.nodes:=by cases a;simp[ak.nodes,ak.value]
theorem Ls(v:aM):0<v.nodes:=by rw[zU];omega
theorem Lp{l:List aM} {i:Nat} (h:i<l.length):(l.getD i default).nodes<=qJ l:=by
 induction l generalizing i with
 |nil=>simp at h
 |cons v r ih=>
   cases i with
   |zero=>simp[qJ]
   |succ i=>have:=ih (i:=i) (by simpa using h);simp only[qJ,List.getD_cons_succ];omega
theorem Lq{l:List ak} {i:Nat} (h:i<l.length):(l.getD i default).value.nodes<=ji l:=by
 induction l generalizing i with
 |nil=>simp at h
 |cons v r ih=>
   cases i with
   |zero=>simp[ji,Lr]
   |succ i=>have:=ih (i:=i) (by simpa using h);simp only[ji,List.getD_cons_succ];omega
theorem as0' (w:World):(Instr.typeAssert .nilIface 20 52 true).run Tryz.prog w=.ok (.tuple #[.int .i64 0,.bool false]) w:=by rfl
theorem as1' (n:Int) (w:World):(Instr.typeAssert (.iface 52 (.int .i64 n)) 20 52 true).run Tryz.prog w=.ok (.tuple #[.int .i64 n,.bool true]) w:=by rfl
theorem as0{ev:Operand->Value} {o:Oper} {x:Operand} (ho:o.op=.typeAssert x 20 52 true) (hx:ev x=.nilIface) (w:World):(execOp ev o).run Tryz.prog w=.ok (.value (.tuple #[.int .i64 0,.bool false])) w:=by
 simp only[execOp,ho,hx,Sem.run_bind,as0',Result.andThen_ok,Sem.run_pure]
theorem as1{ev:Operand->Value} {o:Oper} {x:Operand} {n:Int} (ho:o.op=.typeAssert x 20 52 true) (hx:ev x=.iface 52 (.int .i64 n)) (w:World):(execOp ev o).run Tryz.prog w=.ok (.value (.tuple #[.int .i64 n,.bool true])) w:=by
 simp only[execOp,ho,hx,Sem.run_bind,as1',Result.andThen_ok,Sem.run_pure]
theorem kY{ev:Operand->Value} {o:Oper} {x:Operand} {v:Value} {P:Program} (ho:o.op=.move x\/o.op=.assign x) (hx:ev x=v) (w:World):(execOp ev o).run P w=.ok (.value v) w:=by
 rcases ho with ho|ho<;>simp only[execOp,ho,hx,Sem.run_pure]
theorem oD{ev:Operand->Value} {o:Oper} {x:Operand} {i:Nat} {vs:Array Value} {v:Value} {P:Program} (ho:o.op=.extract x i) (hx:ev x=.tuple vs) (hv:vs[i]?=some v) (w:World):(execOp ev o).run P w=.ok (.value v) w:=by
 simp[execOp,ho,hx,Instr.extract,hv]
section
variable {P:Program} {ops:Array Oper} {Q:Exit->Act->List Frame->World->Prop} {i:Nat} {rest:List Nat} {a:Act} {cs:List Frame} {w:World} {o:Oper}
theorem eu{v:Value} (ho:ops[i]?=some o) (hg:o.guard=none) (hx:(execOp a.eval o).run P w=.ok (.value v) w) (h:wpOpsSIn Fence.wide 0 P ops Q rest (a.put o.dst v) cs w):wpOpsSIn Fence.wide 0 P ops Q (i::rest) a cs w:=by
 unfold wpOpsSIn;rw[ho];refine⟨fun _ _=>trivial,?_⟩;rw[if_pos (by simp[Region.wanted,hg]),hx];exact h
theorem G1{v:Value} {cs':List Frame} (ho:ops[i]?=some o) (hg:o.guard=none) (hx:(execOp a.eval o).run P w=.ok .recover w) (hc:recoverD cs=some (v,cs')) (h:wpOpsSIn Fence.wide 0 P ops Q rest (a.put o.dst v) cs' w):wpOpsSIn Fence.wide 0 P ops Q (i::rest) a cs w:=by
 unfold wpOpsSIn;rw[ho];refine⟨fun _ _=>trivial,?_⟩;rw[if_pos (by simp[Region.wanted,hg]),hx];show(match recoverD cs with|some (v,cs') =>_|none=>_);rw[hc];exact h
theorem MG(ho:ops[i]?=some o) (hg:o.guard=none) (hx:(execOp a.eval o).run P w=.ok .recover w) (hc:recoverD cs=none) (h:wpOpsSIn Fence.wide 0 P ops Q rest (a.put o.dst .nilIface) cs w):wpOpsSIn Fence.wide 0 P ops Q (i::rest) a cs w:=by
 unfold wpOpsSIn;rw[ho];refine⟨fun _ _=>trivial,?_⟩;rw[if_pos (by simp[Region.wanted,hg]),hx];show(match recoverD cs with|some (v,cs') =>_|none=>_);rw[hc];exact h
end
theorem KS(v1 v2:Value):[v1,v2].toArray++Array.replicate (11-[v1,v2].toArray.size) undef=#[v1,v2,undef,undef,undef,undef,undef,undef,undef,undef,undef]:=by rfl
theorem NB{v1 v2 y4 y5 y6 y7 y8:Value} {n:Int} {b:Bool} (hn:-9223372036854775808<=n/\n<=9223372036854775807):∀(st:St) (g:au) (n':Nat),aC st g [.ptr 0 0,.ptr 1 0] n' [v1,v2]->∀t,VR st g (lk [(3,.bool b),(2,.int .i64 n),(1,.ptr 1 0),(0,.ptr 0 0)] t) n' ((#[v1,v2,.int .i64 n,.bool b,y4,y5,y6,y7,y8,undef,undef]:Array Value).getD t undef):=by
 intro st g n' hv t;obtain⟨x1,q1,q2⟩:=jQ hv (i:=0) rfl;obtain⟨x2,q3,q4⟩:=jQ hv (i:=1) rfl;cases q1;cases q3
 match t with
 |0=>exact q2
 |1=>exact q4
 |2=>exact⟨rfl,hn⟩
 |3=>rfl
 |t+4=>trivial
theorem OW(σ:List O) (hσ:gm σ σ σ.length):rf Tryz.prog ib 12 [.ptr 0 0,.ptr 1 0] σ none σ:=by
 refine vN (C:=cx []) (ar trivial) (cfn:=Tryz.f12) (tm:=[(3,.bool false),(2,.int .i64 0),(1,.ptr 1 0),(0,.ptr 0 0)]) rfl rfl rfl rfl (fun vs w c₀ cs Q hl hu h=>?_) ?_
 . obtain⟨v1,v2,rfl⟩:∃v1 v2,vs=[v1,v2]:=by
     match vs,hl with
     |[v1,v2],_=>exact⟨v1,v2,rfl⟩
   rw[show Tryz.f12.ntmps=11 from rfl] at h⊢;rw[KS];apply wpSIn_region;show wpOpsSIn Fence.wide 0 Tryz.prog _ _ _ _ _ _;refine MG rfl rfl rfl (by simp[recoverD,hu,kL]) ?_;refine eu (v:=.tuple #[.int .i64 0,.bool false]) rfl rfl (as0 rfl rfl w) ?_;refine eu (v:=.tuple #[.int .i64 0,.bool false]) rfl rfl (kY (x:=.tmp 6) (v:=.tuple #[.int .i64 0,.bool false]) (.inl rfl) rfl w) ?_;refine eu (v:=.int .i64 0) rfl rfl (oD (x:=.tmp 4) (i:=0) (vs:=#[.int .i64 0,.bool false]) (v:=.int .i64 0) rfl rfl rfl w) ?_;refine eu (v:=.bool false) rfl rfl (oD (x:=.tmp 4) (i:=1) (vs:=#[.int .i64 0,.bool false]) (v:=.bool false) rfl rfl rfl w) ?_;refine eu (v:=.int .i64 0) rfl rfl (kY (x:=.tmp 7) (v:=.int .i64 0) (.inr rfl) rfl w) ?_;refine eu (v:=.bool false) rfl rfl (kY (x:=.tmp 8) (v:=.bool false) (.inr rfl) rfl w) ?_;have hc0:c₀={c₀ with mode:=.returning}:=by cases c₀;simp_all[kL]
   rw[hc0];refine h _ .returning rfl rfl rfl ?_;exact NB (by decide)
 . repeat'((conv=>whnf);apply af)
   all_goals try conv=>whnf
   all_goals try(refine ae.mk ?_;try dsimp only)
   . rfl
   . exact hσ
   . exact Nat.ble_eq_true_of_le (cb _)
theorem Cg(n:Int) (hm:-9223372036854775808<=n/\n<=9223372036854775807):rf Tryz.prog ib 12 [.ptr 0 0,.ptr 1 0] [.cells [.list true 0 []],.cells [.int .i64 0],.dead,.dead,.dead,.buf 1 0 []]
   (some (.iface 52 (.int .i64 n))) [.cells [.list true 0 []],.cells [.int .i64 n],.dead,.dead,.dead,.buf 1 0 []]:=by
 refine vN (C:=cx []) (ar trivial) (cfn:=Tryz.f12) (tm:=[(3,.bool true),(2,.int .i64 n),(1,.ptr 1 0),(0,.ptr 0 0)]) rfl rfl rfl rfl (fun vs w c₀ cs Q hl hu h=>?_) ?_
 . obtain⟨v1,v2,rfl⟩:∃v1 v2,vs=[v1,v2]:=by
     match vs,hl with
     |[v1,v2],_=>exact⟨v1,v2,rfl⟩
   rw[show Tryz.f12.ntmps=11 from rfl] at h⊢;rw[KS];apply wpSIn_region;show wpOpsSIn Fence.wide 0 Tryz.prog _ _ _ _ _ _;refine G1 (v:=.iface 52 (.int .i64 n)) (cs':={c₀ with mode:=.panicking [{v:=.iface 52 (.int .i64 n),recovered:=true}]}::cs) rfl rfl rfl (by simp[recoverD,hu,kL]) ?_;refine eu (v:=.tuple #[.int .i64 n,.bool true]) rfl rfl (as1 rfl rfl w) ?_;refine eu (v:=.tuple #[.int .i64 n,.bool true]) rfl rfl (kY (x:=.tmp 6) (v:=.tuple #[.int .i64 n,.bool true]) (.inl rfl) rfl w) ?_;refine eu (v:=.int .i64 n) rfl rfl (oD (x:=.tmp 4) (i:=0) (vs:=#[.int .i64 n,.bool true]) (v:=.int .i64 n) rfl rfl rfl w) ?_;refine eu (v:=.bool true) rfl rfl (oD (x:=.tmp 4) (i:=1) (vs:=#[.int .i64 n,.bool true]) (v:=.bool true) rfl rfl rfl w) ?_;refine eu (v:=.int .i64 n) rfl rfl (kY (x:=.tmp 7) (v:=.int .i64 n) (.inr rfl) rfl w) ?_;refine eu (v:=.bool true) rfl rfl (kY (x:=.tmp 8) (v:=.bool true) (.inr rfl) rfl w) ?_;refine h _ (.panicking [{v:=.iface 52 (.int .i64 n),recovered:=true}]) rfl rfl rfl ?_;exact NB hm
 . repeat'((conv=>whnf);apply af)
   all_goals try conv=>whnf
   all_goals try(refine ae.mk ?_;try dsimp only)
   . rfl
   . (repeat' first|trivial|rfl|refine And.intro ?_ ?_)
   . rfl
end Go.Proofs.YtchllohbglebiaaGreatDoor
