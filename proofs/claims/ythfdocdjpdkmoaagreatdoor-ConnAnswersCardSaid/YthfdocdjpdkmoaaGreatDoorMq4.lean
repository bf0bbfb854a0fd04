/- packed -/
import Derived.Test.YthfdocdjpdkmoaaGreatDoorMq3
import Derived.Test.YthfdocdjpdkmoaaGreatDoorMq2
import Derived.Defers
import Derived.Recover
import Derived.Tactics
import Derived.Test.YthfdocdjpdkmoaaGreatDoorProg
import Derived.Shelf.Small.Strs
import Derived.Shelf.Strings.Search1
import Derived.Shelf.Strings.Count
import Derived.Shelf.Unicode.ValidAny
import Derived.Lib.TrimAscii
set_option linter.defProp false
set_option linter.unusedSectionVars false
set_option linter.unusedSimpArgs false
set_option linter.unusedVariables false
namespace Go.Proofs.YthfdocdjpdkmoaaGreatDoor
set_option maxHeartbeats 16000000
set_option maxRecDepth 10000
section
def cn1:Ze:=(.region [⟨(some 4),(.mov (.t 0)),none,[]⟩,⟨(some 5),(.nilchk (.t 4)),none,[]⟩,⟨(some 6),(.faddr 0 (.t 5)),none,[]⟩,⟨(some 2),(.mov (.t 6)),none,[]⟩] none [2,0])
def cn2:Ze:=(.region [⟨(some 7),(.mov (.t 0)),none,[]⟩,⟨(some 8),(.call 77 0 true [(.t 7)]),none,[]⟩,⟨(some 9),(.bin .eql (.t 8) (.c (.str [77,81,84,84]))),none,[]⟩,⟨(some 10),(.call 66 0 true [(.t 9),(.c (.int .i64 132))]),none,[]⟩] none [2,0])
def cn3:Ze:=(.region [⟨(some 11),(.mov (.t 0)),none,[]⟩,⟨(some 12),(.call 68 0 true [(.t 11),(.c (.int .i64 1))]),none,[]⟩,⟨(some 13),(.bin .eql (.t 12) (.c (.int .i64 5))),none,[]⟩,⟨(some 14),(.call 66 0 true [(.t 13),(.c (.int .i64 132))]),none,[]⟩] none [2,0])
def cn4:Ze:=(.region [⟨(some 15),(.mov (.t 0)),none,[]⟩,⟨(some 16),(.call 68 0 true [(.t 15),(.c (.int .i64 1))]),none,[]⟩,⟨(some 3),(.mov (.t 16)),none,[]⟩] none [3,2,0])
def cn5:Ze:=(.region [⟨(some 17),(.mov (.t 2)),none,[]⟩,⟨(some 18),(.mov (.t 2)),none,[]⟩,⟨(some 19),(.mov (.t 3)),none,[]⟩,⟨(some 20),(.bin .and (.t 19) (.c (.int .i64 2))),none,[]⟩,⟨(some 21),(.bin .neq (.t 20) (.c (.int .i64 0))),none,[]⟩,⟨(some 22),(.mov (.t 3)),none,[]⟩,⟨(some 23),(.bin .and (.t 22) (.c (.int .i64 4))),none,[]⟩,⟨(some 24),(.bin .neq (.t 23) (.c (.int .i64 0))),none,[]⟩,⟨(some 25),(.nilchk (.t 17)),none,[]⟩,⟨(some 26),(.faddr 12 (.t 25)),none,[]⟩,⟨none,(.st 1 (.t 26) (.t 21)),none,[]⟩,⟨(some 27),(.nilchk (.t 18)),none,[]⟩,⟨(some 28),(.faddr 15 (.t 27)),none,[]⟩,⟨none,(.st 1 (.t 28) (.t 24)),none,[]⟩] none [3,2,0])
def cn6:Ze:=(.region [⟨(some 29),(.mov (.t 2)),none,[]⟩,⟨(some 30),(.mov (.t 2)),none,[]⟩,⟨(some 31),(.mov (.t 3)),none,[]⟩,⟨(some 32),(.bin .and (.t 31) (.c (.int .i64 64))),none,[]⟩,⟨(some 33),(.bin .neq (.t 32) (.c (.int .i64 0))),none,[]⟩,⟨(some 34),(.mov (.t 3)),none,[]⟩,⟨(some 35),(.bin .and (.t 34) (.c (.int .i64 128))),none,[]⟩,⟨(some 36),(.bin .neq (.t 35) (.c (.int .i64 0))),none,[]⟩,⟨(some 37),(.nilchk (.t 29)),none,[]⟩,⟨(some 38),(.faddr 23 (.t 37)),none,[]⟩,⟨none,(.st 1 (.t 38) (.t 33)),none,[]⟩,⟨(some 39),(.nilchk (.t 30)),none,[]⟩,⟨(some 40),(.faddr 21 (.t 39)),none,[]⟩,⟨none,(.st 1 (.t 40) (.t 36)),none,[]⟩] none [3,2,0])
def cn7:Ze:=(.region [⟨(some 41),(.mov (.t 2)),none,[]⟩,⟨(some 42),(.mov (.t 2)),none,[]⟩,⟨(some 43),(.mov (.t 3)),none,[]⟩,⟨(some 44),(.bin .quo (.t 43) (.c (.int .i64 8))),none,[]⟩,⟨(some 45),(.bin .and (.t 44) (.c (.int .i64 3))),none,[]⟩,⟨(some 46),(.mov (.t 3)),none,[]⟩,⟨(some 47),(.bin .and (.t 46) (.c (.int .i64 32))),none,[]⟩,⟨(some 48),(.bin .neq (.t 47) (.c (.int .i64 0))),none,[]⟩,⟨(some 49),(.nilchk (.t 41)),none,[]⟩,⟨(some 50),(.faddr 16 (.t 49)),none,[]⟩,⟨(some 51),(.faddr 2 (.t 50)),none,[]⟩,⟨none,(.st 1 (.t 51) (.t 45)),none,[]⟩,⟨(some 52),(.nilchk (.t 42)),none,[]⟩,⟨(some 53),(.faddr 16 (.t 52)),none,[]⟩,⟨(some 54),(.faddr 3 (.t 53)),none,[]⟩,⟨none,(.st 1 (.t 54) (.t 48)),none,[]⟩] none [3,2,0])
def cn8:Ze:=(.region [⟨(some 55),(.mov (.t 3)),none,[]⟩,⟨(some 56),(.bin .and (.t 55) (.c (.int .i64 1))),none,[]⟩,⟨(some 57),(.bin .eql (.t 56) (.c (.int .i64 0))),none,[]⟩,⟨(some 58),(.mov (.t 57)),none,[]⟩,⟨(some 59),(.mov (.t 2)),(some (58,true)),[]⟩,⟨(some 60),(.nilchk (.t 59)),(some (58,true)),[]⟩,⟨(some 61),(.faddr 16 (.t 60)),(some (58,true)),[]⟩,⟨(some 62),(.faddr 2 (.t 61)),(some (58,true)),[]⟩,⟨(some 63),(.ld none (.t 62)),(some (58,true)),[]⟩,⟨(some 64),(.bin .lss (.t 63) (.c (.int .i64 3))),(some (58,true)),[]⟩,⟨(some 65),(.pick (.t 58) (.t 64) (.c (.bool false))),none,[]⟩,⟨(some 66),(.mov (.t 65)),none,[]⟩,⟨(some 67),(.mov (.t 2)),(some (66,true)),[]⟩,⟨(some 68),(.nilchk (.t 67)),(some (66,true)),[]⟩,⟨(some 69),(.faddr 15 (.t 68)),(some (66,true)),[]⟩,⟨(some 70),(.ld none (.t 69)),(some (66,true)),[]⟩,⟨(some 71),(.mov (.t 70)),(some (66,true)),[]⟩,⟨(some 72),(.mov (.t 2)),(some (71,false)),[]⟩,⟨(some 73),(.nilchk (.t 72)),(some (71,false)),[]⟩,⟨(some 74),(.faddr 16 (.t 73)),(some (71,false)),[]⟩,⟨(some 75),(.faddr 2 (.t 74)),(some (71,false)),[]⟩,⟨(some 76),(.ld none (.t 75)),(some (71,false)),[]⟩,⟨(some 77),(.bin .eql (.t 76) (.c (.int .i64 0))),(some (71,false)),[]⟩,⟨(some 78),(.mov (.t 77)),(some (71,false)),[]⟩,⟨(some 79),(.mov (.t 2)),(some (78,true)),[]⟩,⟨(some 80),(.nilchk (.t 79)),(some (78,true)),[]⟩,⟨(some 81),(.faddr 16 (.t 80)),(some (78,true)),[]⟩,⟨(some 82),(.faddr 3 (.t 81)),(some (78,true)),[]⟩,⟨(some 83),(.ld none (.t 82)),(some (78,true)),[]⟩,⟨(some 84),(.un .not (.t 83)),(some (78,true)),[]⟩,⟨(some 85),(.pick (.t 78) (.t 84) (.c (.bool false))),(some (71,false)),[]⟩,⟨(some 86),(.pick (.t 71) (.c (.bool true)) (.t 85)),(some (66,true)),[]⟩,⟨(some 87),(.pick (.t 66) (.t 86) (.c (.bool false))),none,[]⟩,⟨(some 88),(.call 66 0 true [(.t 87),(.c (.int .i64 129))]),none,[]⟩] none [2,0])
def cn9:Ze:=(.region [⟨(some 89),(.mov (.t 2)),none,[]⟩,⟨(some 90),(.mov (.t 0)),none,[]⟩,⟨(some 91),(.call 68 0 true [(.t 90),(.c (.int .i64 2))]),none,[]⟩,⟨(some 92),(.nilchk (.t 89)),none,[]⟩,⟨(some 93),(.faddr 13 (.t 92)),none,[]⟩,⟨none,(.st 1 (.t 93) (.t 91)),none,[]⟩] none [2,0])
def Zhl:Ze:=(.region [⟨(some 94),(.mov (.t 2)),none,[]⟩,⟨(some 95),(.mov (.t 0)),none,[]⟩,⟨(some 96),(.call 70 0 true [(.t 95),(.c (.int .i64 1))]),none,[]⟩,⟨(some 97),(.nilchk (.t 94)),none,[]⟩,⟨(some 98),(.faddr 9 (.t 97)),none,[]⟩,⟨none,(.st 1 (.t 98) (.t 96)),none,[]⟩] none [2,0])
def Zh2:Ze:=(.region [⟨(some 99),(.mov (.t 2)),none,[]⟩,⟨(some 100),(.mov (.t 0)),none,[]⟩,⟨(some 101),(.call 77 0 true [(.t 100)]),none,[]⟩,⟨(some 102),(.nilchk (.t 99)),none,[]⟩,⟨(some 103),(.faddr 14 (.t 102)),none,[]⟩,⟨none,(.st 1 (.t 103) (.t 101)),none,[]⟩] none [2,0])
def Zej:Ze:=(.seq (.region [⟨(some 104),(.mov (.t 2)),none,[]⟩,⟨(some 105),(.nilchk (.t 104)),none,[]⟩,⟨(some 106),(.faddr 15 (.t 105)),none,[]⟩,⟨(some 107),(.ld none (.t 106)),none,[]⟩] none [107,2,0]) (.cond (.t 107) (.seq (.region [⟨(some 108),(.mov (.t 2)),none,[]⟩,⟨(some 109),(.mov (.t 0)),none,[]⟩,⟨(some 110),(.call 70 0 true [(.t 109),(.c (.int .i64 16))]),none,[]⟩,⟨(some 111),(.nilchk (.t 108)),none,[]⟩,⟨(some 112),(.faddr 16 (.t 111)),none,[]⟩,⟨(some 113),(.faddr 4 (.t 112)),none,[]⟩,⟨none,(.st 1 (.t 113) (.t 110)),none,[]⟩] none [2,0]) (.seq (.region [⟨(some 114),(.mov (.t 2)),none,[]⟩,⟨(some 115),(.mov (.t 0)),none,[]⟩,⟨(some 116),(.call 77 0 true [(.t 115)]),none,[]⟩,⟨(some 117),(.nilchk (.t 114)),none,[]⟩,⟨(some 118),(.faddr 16 (.t 117)),none,[]⟩,⟨(some 119),(.faddr 0 (.t 118)),none,[]⟩,⟨none,(.st 1 (.t 119) (.t 116)),none,[]⟩] none [2,0]) (.region [⟨(some 120),(.mov (.t 2)),none,[]⟩,⟨(some 121),(.mov (.t 0)),none,[]⟩,⟨(some 122),(.call 92 0 true [(.t 121)]),none,[]⟩,⟨(some 123),(.nilchk (.t 120)),none,[]⟩,⟨(some 124),(.faddr 16 (.t 123)),none,[]⟩,⟨(some 125),(.faddr 1 (.t 124)),none,[]⟩,⟨none,(.st 1 (.t 125) (.t 122)),none,[]⟩] none [2,0]))) .skip))
def Zep:Ze:=(.seq (.region [⟨(some 126),(.mov (.t 2)),none,[]⟩,⟨(some 127),(.nilchk (.t 126)),none,[]⟩,⟨(some 128),(.faddr 21 (.t 127)),none,[]⟩,⟨(some 129),(.ld none (.t 128)),none,[]⟩] none [129,2,0]) (.cond (.t 129) (.region [⟨(some 130),(.mov (.t 2)),none,[]⟩,⟨(some 131),(.mov (.t 0)),none,[]⟩,⟨(some 132),(.call 77 0 true [(.t 131)]),none,[]⟩,⟨(some 133),(.nilchk (.t 130)),none,[]⟩,⟨(some 134),(.faddr 22 (.t 133)),none,[]⟩,⟨none,(.st 1 (.t 134) (.t 132)),none,[]⟩] none [2,0]) .skip))
def Zgp:Ze:=(.region [⟨(some 135),(.mov (.t 2)),none,[]⟩,⟨(some 136),(.nilchk (.t 135)),none,[]⟩,⟨(some 137),(.faddr 23 (.t 136)),none,[]⟩,⟨(some 138),(.ld none (.t 137)),none,[]⟩] none [138,2,0])
def ZdW:Ze:=(.cond (.t 138) (.region [⟨(some 139),(.mov (.t 2)),none,[]⟩,⟨(some 140),(.mov (.t 0)),none,[]⟩,⟨(some 141),(.call 92 0 true [(.t 140)]),none,[]⟩,⟨(some 142),(.nilchk (.t 139)),none,[]⟩,⟨(some 143),(.faddr 24 (.t 142)),none,[]⟩,⟨none,(.st 1 (.t 143) (.t 141)),none,[]⟩] none []) .skip)
theorem ZOf:Znx=(.seq cn1 (.seq cn2 (.seq cn3 (.seq cn4 (.seq cn5 (.seq cn6 (.seq cn7 (.seq cn8 (.seq cn9 (.seq Zhl (.seq Zh2 (.seq Zej (.seq Zep (.seq Zgp ZdW)))))))))))))):=rfl
def t20:Tms:=[(2,.ref 0 0),(0,.ref 0 0)]
def ZcU (m:Int):Tms:=[(3,.int .i64 m),(2,.ref 0 0),(0,.ref 0 0)]
def Zv (a b:Int):Int:=IntKind.i64.wrap (BitVec.ofInt IntKind.i64.bits a &&& BitVec.ofInt IntKind.i64.bits b).toNat
def Zea (m:Int):Int:=IntKind.i64.wrap (m.tdiv 8)
section
variable (P:List AVal) (hP:P.length=26) (hN:Zd P=true) (l:Zb) (hl:l.length<=140737488355328)
include hP hN hl
theorem ZMh:evC FC PR BY 1 cn1 [(0,.ref 0 0)] (Zh P l)=some (.normal,t20,Zh P l):=by
 unfold Zh t20
 simp -implicitDefEqProofs only [EQA,Nat.reduceLT,Nat.reduceEqDiff,reduceCtorEq,↓reduceIte,cn1]
theorem ZIR {r:Zb} (h:Zaq l=.ok ([77,81,84,84],r)):evC FC PR BY 1 cn2 t20 (Zh P l)=some (.normal,t20,Zh P r):=by
 have hT:=fun σ sq hs=>ZdY P hP hN l hl σ 0 sq hs h
 have m1:=Zbd
 have e1:(([77,81,84,84]:List UInt8) == [77,81,84,84])=true:=by decide
 unfold Zh t20
 simp -implicitDefEqProofs only [EQA,Nat.reduceLT,Nat.reduceEqDiff,Zci,reduceCtorEq,↓reduceIte,cn2,hT,m1]
theorem ZN1 {a r:Zb} (h:Zaq l=.ok (a,r)) (hn:(a == [77,81,84,84])=false):evC FC PR BY 1 cn2 t20 (Zh P l)=some (.panic (Zx 132),[],Zh P r):=by
 have hT:=fun σ sq hs=>ZdY P hP hN l hl σ 0 sq hs h
 have m1:=Zbz
 unfold Zh t20
 simp -implicitDefEqProofs only [EQA,Nat.reduceLT,Zci,reduceCtorEq,↓reduceIte,cn2,hT,m1,hn]
theorem ZID {c:Int} (h:Zaq l=.error c):evC FC PR BY 1 cn2 t20 (Zh P l)=some (.panic (Zx c),[],Zh P l):=by
 have hT:=fun σ sq hs=>Zg4 P hP hN l hl σ 0 sq hs h
 unfold Zh t20
 simp -implicitDefEqProofs only [EQA,Nat.reduceLT,reduceCtorEq,↓reduceIte,cn2,hT]
theorem Zxv {r:Zb} (h:ZaC 1 l=.ok (5,r)):evC FC PR BY 1 cn3 t20 (Zh P l)=some (.normal,t20,Zh P r):=by
 have hT:=fun σ sq hs=>ZcR P hP hN l hl σ 0 sq hs (m:=1) rfl h
 have m1:=Zbd
 have e1:((5:Int) == 5)=true:=by decide
 unfold Zh t20
 simp -implicitDefEqProofs only [EQA,Nat.reduceLT,Nat.reduceEqDiff,reduceCtorEq,↓reduceIte,cn3,hT,m1]
theorem ZM7 {a:Int} {r:Zb} (h:ZaC 1 l=.ok (a,r)) (hn:(a == 5)=false):evC FC PR BY 1 cn3 t20 (Zh P l)=some (.panic (Zx 132),[],Zh P r):=by
 have hT:=fun σ sq hs=>ZcR P hP hN l hl σ 0 sq hs (m:=1) rfl h
 have m1:=Zbz
 unfold Zh t20
 simp -implicitDefEqProofs only [EQA,Nat.reduceLT,reduceCtorEq,↓reduceIte,cn3,hT,m1,hn]
theorem ZGR {c:Int} (h:ZaC 1 l=.error c):evC FC PR BY 1 cn3 t20 (Zh P l)=some (.panic (Zx c),[],Zh P l):=by
 have hT:=fun σ sq hs=>ZfB P hP hN l hl σ 0 sq hs (m:=1) rfl (by decide) h
 unfold Zh t20
 simp -implicitDefEqProofs only [EQA,Nat.reduceLT,reduceCtorEq,↓reduceIte,cn3,hT]
theorem ZH2 {m:Int} {r:Zb} (h:ZaC 1 l=.ok (m,r)):evC FC PR BY 1 cn4 t20 (Zh P l)=some (.normal,ZcU m,Zh P r):=by
 have hT:=fun σ sq hs=>ZcR P hP hN l hl σ 0 sq hs (m:=1) rfl h
 unfold Zh t20 ZcU
 simp -implicitDefEqProofs only [EQA,Nat.reduceLT,Nat.reduceEqDiff,reduceCtorEq,↓reduceIte,cn4,hT]
theorem Zz6 {c:Int} (h:ZaC 1 l=.error c):evC FC PR BY 1 cn4 t20 (Zh P l)=some (.panic (Zx c),[],Zh P l):=by
 have hT:=fun σ sq hs=>ZfB P hP hN l hl σ 0 sq hs (m:=1) rfl (by decide) h
 unfold Zh t20
 simp -implicitDefEqProofs only [EQA,Nat.reduceLT,reduceCtorEq,↓reduceIte,cn4,hT]
theorem ZMj (m:Int):evC FC PR BY 1 cn5 (ZcU m) (Zh P l)=some (.normal,ZcU m,Zh ((P.set 12 (.bool (Zv m 2 != 0))).set 15 (.bool (Zv m 4 != 0))) l):=by
 have a1:=Z6 P hP
 have a3:=fun L=>Zax P hP 12 13 (by omega) rfl L (.bool (Zv m 2 != 0))
 have hP1:(P.set 12 (.bool (Zv m 2 != 0))).length=26:=by simp [hP]
 have b1:=Z6 _ hP1
 have b3:=fun L=>Zax _ hP1 15 16 (by omega) rfl L (.bool (Zv m 4 != 0))
 unfold Zh ZcU
 unfold Zv at *
 simp -implicitDefEqProofs only [EQA,ZE,Nat.reduceAdd,Nat.reduceLT,Nat.reduceLeDiff,Nat.reduceEqDiff,reduceCtorEq,↓reduceIte,cn5,a1,a3,b1,b3]
theorem ZxZ (m:Int):evC FC PR BY 1 cn6 (ZcU m) (Zh P l)=some (.normal,ZcU m,Zh ((P.set 23 (.bool (Zv m 64 != 0))).set 21 (.bool (Zv m 128 != 0))) l):=by
 have a1:=Z6 P hP
 have a3:=fun L=>Zax P hP 23 24 (by omega) rfl L (.bool (Zv m 64 != 0))
 have hP1:(P.set 23 (.bool (Zv m 64 != 0))).length=26:=by simp [hP]
 have b1:=Z6 _ hP1
 have b3:=fun L=>Zax _ hP1 21 22 (by omega) rfl L (.bool (Zv m 128 != 0))
 unfold Zh ZcU
 unfold Zv at *
 simp -implicitDefEqProofs only [EQA,ZE,Nat.reduceAdd,Nat.reduceLT,Nat.reduceLeDiff,Nat.reduceEqDiff,reduceCtorEq,↓reduceIte,cn6,a1,a3,b1,b3]
theorem ZGm (m:Int):evC FC PR BY 1 cn7 (ZcU m) (Zh P l)=some (.normal,ZcU m,Zh ((P.set 18 (.int .i64 (Zv (Zea m) 3))).set 19 (.bool (Zv m 32 != 0))) l):=by
 have a1:=Z6 P hP
 have a3:=fun L=>Zax P hP 18 19 (by omega) rfl L (.int .i64 (Zv (Zea m) 3))
 have hP1:(P.set 18 (.int .i64 (Zv (Zea m) 3))).length=26:=by simp [hP]
 have b1:=Z6 _ hP1
 have b3:=fun L=>Zax _ hP1 19 20 (by omega) rfl L (.bool (Zv m 32 != 0))
 have z:¬(8:Int)=0:=by decide
 unfold Zh ZcU
 unfold Zv Zea at *
 simp -implicitDefEqProofs only [EQA,ZE,Nat.reduceAdd,Nat.reduceLT,Nat.reduceLeDiff,Nat.reduceEqDiff,reduceCtorEq,↓reduceIte,cn7,a1,a3,b1,b3,z]
theorem ZIg {n:Int} {r:Zb} (h:ZaC 2 l=.ok (n,r)):evC FC PR BY 1 cn9 t20 (Zh P l)=some (.normal,t20,Zh (P.set 13 (.int .i64 n)) r):=by
 have hT:=fun σ sq hs=>ZcR P hP hN l hl σ 0 sq hs (m:=2) rfl h
 have a1:=Z6 P hP
 have a3:=Zax P hP 13 14 (by omega) rfl
 unfold Zh t20
 simp -implicitDefEqProofs only [EQA,ZE,Nat.reduceAdd,Nat.reduceLT,Nat.reduceLeDiff,Nat.reduceEqDiff,reduceCtorEq,↓reduceIte,cn9,hT,a1,a3]
theorem ZNv {c:Int} (h:ZaC 2 l=.error c):evC FC PR BY 1 cn9 t20 (Zh P l)=some (.panic (Zx c),[],Zh P l):=by
 have hT:=fun σ sq hs=>ZfB P hP hN l hl σ 0 sq hs (m:=2) rfl (by decide) h
 unfold Zh t20
 simp -implicitDefEqProofs only [EQA,Nat.reduceLT,reduceCtorEq,↓reduceIte,cn9,hT]
theorem ZI4 (hu:(ZV 1 l).2.1<=l.length) {a:List Zm} {r:Zb} (h:Zbt 1 l=.ok (a,r)):evC FC PR BY 1 Zhl t20 (Zh P l)=some (.normal,t20,Zh (P.set 9 (.lst false (a.map Zj))) r):=by
 have hT:=fun σ sq hs=>Zeg P hP hN l hl σ 0 sq hs hu h
 have a1:=Z6 P hP
 have a3:=Zax P hP 9 10 (by omega) rfl
 unfold Zh t20
 simp -implicitDefEqProofs only [EQA,ZE,Nat.reduceAdd,Nat.reduceLT,Nat.reduceLeDiff,Nat.reduceEqDiff,reduceCtorEq,↓reduceIte,Zhl,hT,a1,a3]
theorem Zzj {c:Int} (h:Zbt 1 l=.error c):evC FC PR BY 1 Zhl t20 (Zh P l)=some (.panic (Zx c),[],Zh P l):=by
 have hT:=fun σ sq hs=>ZfM P hP hN l hl σ 0 sq hs h
 unfold Zh t20
 simp -implicitDefEqProofs only [EQA,Nat.reduceLT,reduceCtorEq,↓reduceIte,Zhl,hT]
theorem ZMQ {a r:Zb} (h:Zaq l=.ok (a,r)):evC FC PR BY 1 Zh2 t20 (Zh P l)=some (.normal,t20,Zh (P.set 14 (.str a)) r):=by
 have hT:=fun σ sq hs=>ZdY P hP hN l hl σ 0 sq hs h
 have a1:=Z6 P hP
 have a3:=Zax P hP 14 15 (by omega) rfl
 unfold Zh t20
 simp -implicitDefEqProofs only [EQA,ZE,Nat.reduceAdd,Nat.reduceLT,Nat.reduceLeDiff,Nat.reduceEqDiff,reduceCtorEq,↓reduceIte,Zh2,hT,a1,a3]
theorem ZLJ {c:Int} (h:Zaq l=.error c):evC FC PR BY 1 Zh2 t20 (Zh P l)=some (.panic (Zx c),[],Zh P l):=by
 have hT:=fun σ sq hs=>Zg4 P hP hN l hl σ 0 sq hs h
 unfold Zh t20
 simp -implicitDefEqProofs only [EQA,Nat.reduceLT,reduceCtorEq,↓reduceIte,Zh2,hT]
end
def ZhE (m q:Int) (hw rt:Bool):Bool:=(Zv m 1 == 0) && decide (q < 3) && (hw || ((q == 0) && !rt))
section
variable (P:List AVal) (hP:P.length=26) (hN:Zd P=true) (l:Zb) (hl:l.length<=140737488355328)
variable (m q:Int) (hw rt:Bool) (h15:P[15]?=some (.bool hw)) (h18:P[18]?=some (.int .i64 q)) (h19:P[19]?=some (.bool rt))
include hP hN hl h15 h18 h19
theorem ZwR (h:ZhE m q hw rt=true):evC FC PR BY 1 cn8 (ZcU m) (Zh P l)=some (.normal,t20,Zh P l):=by
 have a4:=fun L=>(Z8 P hP 15 (by omega) L).trans h15
 have a5:=fun L=>(Z8 P hP 18 (by omega) L).trans h18
 have a6:=fun L=>(Z8 P hP 19 (by omega) L).trans h19
 have m1:=Zbd
 unfold ZhE Zv at h
 simp only [Bool.and_eq_true,decide_eq_true_eq,Bool.or_eq_true] at h
 obtain ⟨⟨e1,e2⟩,e3⟩:=h
 unfold Zh ZcU t20
 cases hw
 ·simp only [Bool.false_eq_true,false_or] at e3
  obtain ⟨e3,e4⟩:=e3
  cases rt
  ·simp -implicitDefEqProofs only [EQA,Nat.reduceAdd,Nat.reduceLT,Nat.reduceEqDiff,unA,ZF,unG,reduceCtorEq,↓reduceIte,cn8,a4,a5,a6,m1,e1,e2,e3]
  ·cases e4
 ·simp -implicitDefEqProofs only [EQA,Nat.reduceAdd,Nat.reduceLT,Nat.reduceEqDiff,ZF,Zaw,unG,reduceCtorEq,↓reduceIte,cn8,a4,a5,m1,e1,e2]
theorem ZPq (h:ZhE m q hw rt=false):evC FC PR BY 1 cn8 (ZcU m) (Zh P l)=some (.panic (Zx 129),[],Zh P l):=by
 have a4:=fun L=>(Z8 P hP 15 (by omega) L).trans h15
 have a5:=fun L=>(Z8 P hP 18 (by omega) L).trans h18
 have a6:=fun L=>(Z8 P hP 19 (by omega) L).trans h19
 have m1:=Zbz
 unfold ZhE Zv at h
 unfold Zh ZcU
 by_cases e1:(IntKind.i64.wrap (BitVec.ofInt IntKind.i64.bits m &&& BitVec.ofInt IntKind.i64.bits 1).toNat == 0)=true
 ·rw [e1] at h
  by_cases e2:q < 3
  ·cases hw
   ·by_cases e3:(q == 0)=true
    ·cases rt
     ·simp [e2,e3] at h
     ·simp -implicitDefEqProofs only [EQA,Nat.reduceAdd,Nat.reduceLT,Nat.reduceEqDiff,unA,ZF,unG,reduceCtorEq,↓reduceIte,cn8,a4,a5,a6,m1,e1,e2,e3]
    ·have e3:=Bool.not_eq_true _ |>.mp e3
     simp -implicitDefEqProofs only [EQA,Nat.reduceAdd,Nat.reduceLT,Nat.reduceEqDiff,ZF,Zaw,unG,reduceCtorEq,↓reduceIte,cn8,a4,a5,m1,e1,e2,e3]
   ·simp [e2] at h
  ·simp -implicitDefEqProofs only [EQA,Nat.reduceAdd,Nat.reduceLT,Nat.reduceEqDiff,ZF,Zaw,unG,reduceCtorEq,↓reduceIte,cn8,a5,m1,e1,e2]
 ·have e1:=Bool.not_eq_true _ |>.mp e1
  simp -implicitDefEqProofs only [EQA,Nat.reduceLT,Nat.reduceEqDiff,ZF,Zaw,reduceCtorEq,↓reduceIte,cn8,m1,e1]
end
def Zdn (n:Nat):Tms:=[(n,.bool false),(2,.ref 0 0),(0,.ref 0 0)]
def Zhy (P:List AVal) (ps:List Zm) (tp d:Zb):List AVal:=((P.set 20 (.lst false (ps.map Zj))).set 16 (.str tp)).set 17 (.lst false (d.map Zc))
def Zdw (l:Zb):Except Int (List Zm×Zb×Zb×Zb):=match Zbt 16 l with
 | .error c=>.error c
 | .ok (ps,r1)=>match Zaq r1 with
  | .error c=>.error c
  | .ok (tp,r2)=>match ZcJ r2 with
   | .error c=>.error c
   | .ok (d,r3)=>.ok (ps,tp,d,r3)
section
variable (P:List AVal) (hP:P.length=26) (hN:Zd P=true) (l:Zb) (hl:l.length<=140737488355328)
include hP hN hl
theorem ZKj (h15:P[15]?=some (.bool false)):evC FC PR BY 1 Zej t20 (Zh P l)=some (.normal,Zdn 107,Zh P l):=by
 have a4:=fun L=>(Z8 P hP 15 (by omega) L).trans h15
 unfold Zh t20 Zdn
 simp -implicitDefEqProofs only [EQA,Nat.reduceLT,Nat.reduceEqDiff,reduceCtorEq,↓reduceIte,Zej,a4]
theorem ZNe (h15:P[15]?=some (.bool true)) (hu:(ZV 16 l).2.1<=l.length) {ps:List Zm} {tp d r:Zb} (h:Zdw l=.ok (ps,tp,d,r)):evC FC PR BY 1 Zej t20 (Zh P l)=some (.normal,t20,Zh (Zhy P ps tp d) r):=by
 have a1:=Z6 P hP
 have a4:=fun L=>(Z8 P hP 15 (by omega) L).trans h15
 unfold Zdw at h
 split at h
 ·cases h
 rename_i ps' r1 hp
 split at h
 ·cases h
 rename_i tp' r2 ht
 split at h
 ·cases h
 rename_i d' r3 hd
 have l1:=ZgS hp
 have l2:=Zdz ht
 injection h with h;injection h with e1 h;injection h with e2 h;injection h with e3 e4;subst e1 e2 e3 e4
 have hG:=fun σ sq hs=>Zeg P hP hN l hl σ 0 sq hs hu hp
 have a3:=fun L=>Zax P hP 20 21 (by omega) rfl L (.lst false (ps'.map Zj))
 unfold Zhy
 have hP1:(P.set 20 (.lst false (ps'.map Zj))).length=26:=by simp [hP]
 have hN1:Zd (P.set 20 (.lst false (ps'.map Zj)))=true:=ZQ (Zb2 _ _) 20 hN
 generalize P.set 20 (.lst false (ps'.map Zj))=Q at *
 have hT:=fun σ sq hs=>ZdY Q hP1 hN1 r1 (by omega) σ 0 sq hs ht
 have b1:=Z6 _ hP1
 have b3:=fun L=>Zax _ hP1 16 17 (by omega) rfl L (.str tp')
 have hP2:(Q.set 16 (.str tp')).length=26:=by simp [hP1]
 have hN2:Zd (Q.set 16 (.str tp'))=true:=ZQ rfl 16 hN1
 generalize Q.set 16 (.str tp')=R at *
 have hD:=fun σ sq hs=>Zt1 R hP2 hN2 r2 (by omega) σ 0 sq hs hd
 have c1:=Z6 _ hP2
 have c3:=Zax _ hP2 17 18 (by omega) rfl
 unfold Zh t20
 simp -implicitDefEqProofs only [EQA,ZE,Nat.reduceAdd,Nat.reduceLT,Nat.reduceLeDiff,Nat.reduceEqDiff,reduceCtorEq,↓reduceIte,Zej,a1,a3,a4,b1,b3,c1,c3,hG,hT,hD]
theorem ZBr (h15:P[15]?=some (.bool true)) (hu:(ZV 16 l).2.1<=l.length) {c:Int} (h:Zdw l=.error c):∃ cs,Zd cs=true/\evC FC PR BY 1 Zej t20 (Zh P l)=some (.panic (Zx c),[],[.var cs]):=by
 have a1:=Z6 P hP
 have a4:=fun L=>(Z8 P hP 15 (by omega) L).trans h15
 unfold Zdw at h
 split at h
 ·rename_i c' hp
  injection h with h;subst h
  have hG:=fun σ sq hs=>ZfM P hP hN l hl σ 0 sq hs hp
  refine ⟨P++[.lst false (l.map Zc)],Zw P hP hN _ _,?_⟩
  unfold Zh t20
  simp -implicitDefEqProofs only [EQA,Nat.reduceLT,Nat.reduceEqDiff,reduceCtorEq,↓reduceIte,Zej,a4,hG]
 rename_i ps' r1 hp
 have l1:=ZgS hp
 have hG:=fun σ sq hs=>Zeg P hP hN l hl σ 0 sq hs hu hp
 have a3:=fun L=>Zax P hP 20 21 (by omega) rfl L (.lst false (ps'.map Zj))
 have hP1:(P.set 20 (.lst false (ps'.map Zj))).length=26:=by simp [hP]
 have hN1:Zd (P.set 20 (.lst false (ps'.map Zj)))=true:=ZQ (Zb2 _ _) 20 hN
 generalize P.set 20 (.lst false (ps'.map Zj))=Q at *
 have b1:=Z6 _ hP1
 split at h
 ·rename_i c' ht
  injection h with h;subst h
  have hT:=fun σ sq hs=>Zg4 Q hP1 hN1 r1 (by omega) σ 0 sq hs ht
  refine ⟨Q++[.lst false (r1.map Zc)],Zw Q hP1 hN1 _ _,?_⟩
  unfold Zh t20
  simp -implicitDefEqProofs only [EQA,ZE,Nat.reduceAdd,Nat.reduceLT,Nat.reduceLeDiff,Nat.reduceEqDiff,reduceCtorEq,↓reduceIte,Zej,a1,a3,a4,hG,hT]
 rename_i tp' r2 ht
 have l2:=Zdz ht
 have hT:=fun σ sq hs=>ZdY Q hP1 hN1 r1 (by omega) σ 0 sq hs ht
 have b3:=fun L=>Zax _ hP1 16 17 (by omega) rfl L (.str tp')
 have hP2:(Q.set 16 (.str tp')).length=26:=by simp [hP1]
 have hN2:Zd (Q.set 16 (.str tp'))=true:=ZQ rfl 16 hN1
 generalize Q.set 16 (.str tp')=R at *
 split at h
 ·rename_i c' hd
  injection h with h;subst h
  have hD:=fun σ sq hs=>Zua R hP2 hN2 r2 (by omega) σ 0 sq hs hd
  refine ⟨R++[.lst false (r2.map Zc)],Zw R hP2 hN2 _ _,?_⟩
  unfold Zh t20
  simp -implicitDefEqProofs only [EQA,ZE,Nat.reduceAdd,Nat.reduceLT,Nat.reduceLeDiff,Nat.reduceEqDiff,reduceCtorEq,↓reduceIte,Zej,a1,a3,a4,b1,b3,hG,hT,hD]
 ·cases h
theorem ZBs {tm:Tms} (ht:tm=t20\/tm=Zdn 107) (h21:P[21]?=some (.bool false)):evC FC PR BY 1 Zep tm (Zh P l)=some (.normal,Zdn 129,Zh P l):=by
 have a4:=fun L=>(Z8 P hP 21 (by omega) L).trans h21
 rcases ht with rfl | rfl <;> unfold Zh Zdn <;> try unfold t20
 all_goals simp -implicitDefEqProofs only [EQA,Nat.reduceLT,Nat.reduceEqDiff,reduceCtorEq,↓reduceIte,Zep,a4]
theorem ZPm {tm:Tms} (htm:tm=t20\/tm=Zdn 107) (h21:P[21]?=some (.bool true)) {a r:Zb} (h:Zaq l=.ok (a,r)):evC FC PR BY 1 Zep tm (Zh P l)=some (.normal,t20,Zh (P.set 22 (.str a)) r):=by
 have a1:=Z6 P hP
 have a4:=fun L=>(Z8 P hP 21 (by omega) L).trans h21
 have hT:=fun σ sq hs=>ZdY P hP hN l hl σ 0 sq hs h
 have a3:=Zax P hP 22 23 (by omega) rfl
 rcases htm with rfl | rfl <;> unfold Zh t20 <;> try unfold Zdn
 all_goals simp -implicitDefEqProofs only [EQA,ZE,Nat.reduceAdd,Nat.reduceLT,Nat.reduceLeDiff,Nat.reduceEqDiff,reduceCtorEq,↓reduceIte,Zep,a1,a3,a4,hT]
theorem ZIO {tm:Tms} (htm:tm=t20\/tm=Zdn 107) (h21:P[21]?=some (.bool true)) {c:Int} (h:Zaq l=.error c):evC FC PR BY 1 Zep tm (Zh P l)=some (.panic (Zx c),[],Zh P l):=by
 have a4:=fun L=>(Z8 P hP 21 (by omega) L).trans h21
 have hT:=fun σ sq hs=>Zg4 P hP hN l hl σ 0 sq hs h
 rcases htm with rfl | rfl <;> unfold Zh <;> first | unfold Zdn | unfold t20
 all_goals simp -implicitDefEqProofs only [EQA,Nat.reduceLT,Nat.reduceEqDiff,reduceCtorEq,↓reduceIte,Zep,a4,hT]
theorem ZyI {tm:Tms} {b:Bool} (htm:tm=t20\/tm=Zdn 129) (h23:P[23]?=some (.bool b)):evC FC PR BY 1 Zgp tm (Zh P l)=some (.normal,[(138,.bool b),(2,.ref 0 0),(0,.ref 0 0)],Zh P l):=by
 have a4:=fun L=>(Z8 P hP 23 (by omega) L).trans h23
 rcases htm with rfl | rfl <;> unfold Zh <;> first | unfold Zdn | unfold t20
 all_goals simp -implicitDefEqProofs only [EQA,Nat.reduceLT,Nat.reduceEqDiff,reduceCtorEq,↓reduceIte,Zgp,a4]
theorem ZL8:KRun ZdW [(138,.bool false),(2,.ref 0 0),(0,.ref 0 0)] P l (.ok (P,l)):=by
 refine ⟨[(138,.bool false),(2,.ref 0 0),(0,.ref 0 0)],?_,hP,hN,Nat.le_refl _⟩
 unfold Zh
 simp -implicitDefEqProofs only [ZsU,eq_self,Opd.ev,tget,Bool.false_eq_true,↓reduceIte,ZdW]
theorem ZPZ {a r:Zb} (h:ZcJ l=.ok (a,r)):KRun ZdW [(138,.bool true),(2,.ref 0 0),(0,.ref 0 0)] P l (.ok (P.set 24 (.lst false (a.map Zc)),r)):=by
 have a1:=Z6 P hP
 have hT:=fun σ sq hs=>Zt1 P hP hN l hl σ 0 sq hs h
 have a3:=Zax P hP 24 25 (by omega) rfl
 refine ⟨[],?_,by simp [hP],ZQ (Zb2 _ _) 24 hN,Zug h⟩
 unfold Zh
 simp -implicitDefEqProofs only [EQA,ZE,Nat.reduceAdd,Nat.reduceLT,Nat.reduceLeDiff,Nat.reduceEqDiff,reduceCtorEq,↓reduceIte,ZdW,a1,a3,hT]
theorem ZIx {c:Int} (h:ZcJ l=.error c):KRun ZdW [(138,.bool true),(2,.ref 0 0),(0,.ref 0 0)] P l (.error c):=by
 have hT:=fun σ sq hs=>Zua P hP hN l hl σ 0 sq hs h
 refine ⟨[],[],P++[.lst false (l.map Zc)],Zw P hP hN _ _,?_⟩
 unfold Zh
 simp -implicitDefEqProofs only [EQA,Nat.reduceLT,Nat.reduceEqDiff,reduceCtorEq,↓reduceIte,ZdW,hT]
end
def ZbA (P:List AVal) (m:Int):List AVal:=((((((P.set 12 (.bool (Zv m 2 != 0))).set 15 (.bool (Zv m 4 != 0))).set 23 (.bool (Zv m 64 != 0))).set 21 (.bool (Zv m 128 != 0))).set 18 (.int .i64 (Zv (Zea m) 3))).set 19 (.bool (Zv m 32 != 0)))
def ZiX (P:List AVal) (k:Int) (ps:List Zm) (cl:Zb):List AVal:=((P.set 13 (.int .i64 k)).set 9 (.lst false (ps.map Zj))).set 14 (.str cl)
def ZhR (b:Bool) (s:KSt):Except Int KSt:=if b=true then (match ZcJ s.2 with
 | .error c=>.error c
 | .ok (d,r)=>.ok (s.1.set 24 (.lst false (d.map Zc)),r)) else .ok s
def Zib (b:Bool) (s:KSt):Except Int KSt:=if b=true then (match Zaq s.2 with
 | .error c=>.error c
 | .ok (d,r)=>.ok (s.1.set 22 (.str d),r)) else .ok s
def Zi3 (b:Bool) (s:KSt):Except Int KSt:=if b=true then (match Zdw s.2 with
 | .error c=>.error c
 | .ok (ps,tp,d,r)=>.ok (Zhy s.1 ps tp d,r)) else .ok s
def ZiM (m:Int) (s:KSt):Except Int KSt:=match Zi3 (Zv m 4 != 0) s with
 | .error c=>.error c
 | .ok s=>match Zib (Zv m 128 != 0) s with
  | .error c=>.error c
  | .ok s=>ZhR (Zv m 64 != 0) s
def Zjx (P:List AVal) (m:Int) (l:Zb):Except Int KSt:=match ZaC 2 l with
 | .error c=>.error c
 | .ok (k,r4)=>match Zbt 1 r4 with
  | .error c=>.error c
  | .ok (ps,r5)=>match Zaq r5 with
   | .error c=>.error c
   | .ok (cl,r6)=>ZiM m (ZiX (ZbA P m) k ps cl,r6)
def ZjA (P:List AVal) (l:Zb):Except Int KSt:=match Zaq l with
 | .error c=>.error c
 | .ok (s,r1)=>if (s == [77,81,84,84])=true then (match ZaC 1 r1 with
  | .error c=>.error c
  | .ok (v,r2)=>if (v == 5)=true then (match ZaC 1 r2 with
   | .error c=>.error c
   | .ok (m,r3)=>if ZhE m (Zv (Zea m) 3) (Zv m 4 != 0) (Zv m 32 != 0)=true then Zjx P m r3 else .error 129)
   else .error 132)
  else .error 132
theorem ZuY (P:List AVal) (hP:P.length=26) (hN:Zd P=true) (l:Zb) (hl:l.length<=140737488355328) {tm:Tms} {b:Bool} (htm:tm=t20\/tm=Zdn 129) (h23:P[23]?=some (.bool b)):KRun (.seq Zgp ZdW) tm P l (ZhR b (P,l)):=by
 refine KRun.seqT (ZyI P hP hN l hl htm h23) (Nat.le_refl _) ?_
 unfold ZhR
 cases b
 ·exact ZL8 P hP hN l hl
 ·rw [if_pos rfl]
  cases h:ZcJ l with
  | error c=>exact ZIx P hP hN l hl h
  | ok a=>exact ZPZ P hP hN l hl h
theorem Zwx (P:List AVal) (hP:P.length=26) (hN:Zd P=true) (l:Zb) (hl:l.length<=140737488355328) {tm:Tms} {b bp:Bool} (htm:tm=t20\/tm=Zdn 107) (h21:P[21]?=some (.bool b)) (h23:P[23]?=some (.bool bp)):KRun (.seq Zep (.seq Zgp ZdW)) tm P l (match Zib b (P,l) with
  | .error c=>.error c
  | .ok s=>ZhR bp s):=by
 unfold Zib
 cases b
 ·rw [if_neg (by simp)]
  refine KRun.seqT (ZBs P hP hN l hl htm h21) (Nat.le_refl _) ?_
  exact ZuY P hP hN l hl (Or.inr rfl) h23
 ·rw [if_pos rfl]
  cases h:Zaq l with
  | error c=>exact KRun.seqF (Zw P hP hN _ _) (ZIO P hP hN l hl htm h21 h)
  | ok a =>
   have hr:=Zdz h
   refine KRun.seqT (ZPm P hP hN l hl htm h21 h) hr ?_
   exact ZuY _ (by simp [hP]) (ZQ rfl 22 hN) a.2 (by omega) (Or.inl rfl) (by rw [List.getElem?_set_ne (by omega)];exact h23)
theorem ZIU {l:Zb} {ps:List Zm} {tp d r:Zb} (h:Zdw l=.ok (ps,tp,d,r)):r.length<=l.length:=by
 unfold Zdw at h
 split at h
 ·cases h
 rename_i h1
 split at h
 ·cases h
 rename_i h2
 split at h
 ·cases h
 rename_i h3
 injection h with h;injection h with e1 h;injection h with e2 h;injection h with e3 e4;subst e4
 have:=ZgS h1;have:=Zdz h2;have:=Zug h3
 omega
theorem ZBt (P:List AVal) (hP:P.length=26) (hN:Zd P=true) (l:Zb) (hl:l.length<=140737488355328) {m:Int} (hu:(ZV 16 l).2.1<=l.length) (h15:P[15]?=some (.bool (Zv m 4 != 0))) (h21:P[21]?=some (.bool (Zv m 128 != 0))) (h23:P[23]?=some (.bool (Zv m 64 != 0))):KRun (.seq Zej (.seq Zep (.seq Zgp ZdW))) t20 P l (ZiM m (P,l)):=by
 unfold ZiM Zi3
 cases hb:(Zv m 4 != 0)
 ·rw [hb] at h15
  rw [if_neg (by simp)]
  refine KRun.seqT (ZKj P hP hN l hl h15) (Nat.le_refl _) ?_
  exact Zwx P hP hN l hl (Or.inr rfl) h21 h23
 ·rw [hb] at h15
  rw [if_pos rfl]
  cases h:Zdw l with
  | error c =>
   obtain ⟨cs,h1,h2⟩:=ZBr P hP hN l hl h15 hu h
   exact KRun.seqF h1 h2
  | ok a =>
   obtain ⟨ps,tp,d,r⟩:=a
   have hr:=ZIU h
   refine KRun.seqT (ZNe P hP hN l hl h15 hu h) hr ?_
   refine Zwx _ (by simp [hP]) (ZQ (Zb2 _ _) 17 (ZQ rfl 16 (ZQ (Zb2 _ _) 20 hN))) r (by omega) (Or.inl rfl) ?_ ?_
   ·rw [List.getElem?_set_ne (by omega),List.getElem?_set_ne (by omega),List.getElem?_set_ne (by omega)];exact h21
   ·rw [List.getElem?_set_ne (by omega),List.getElem?_set_ne (by omega),List.getElem?_set_ne (by omega)];exact h23
theorem ZOY (P:List AVal) (hP:P.length=26) (hN:Zd P=true) (l:Zb) (hl:l.length<=140737488355328) {m:Int} (hu1:∀ r:Zb,r.length<=140737488355328->(ZV 1 r).2.1<=r.length) (hu:∀ r:Zb,r.length<=140737488355328->(ZV 16 r).2.1<=r.length):KRun (.seq cn9 (.seq Zhl (.seq Zh2 (.seq Zej (.seq Zep (.seq Zgp ZdW)))))) t20 (ZbA P m) l (Zjx P m l):=by
 have hM:(ZbA P m).length=26:=by simp [ZbA,hP]
 have hMN:Zd (ZbA P m)=true:=ZQ rfl _ (ZQ rfl _ (ZQ rfl _ (ZQ rfl _ (ZQ rfl _ (ZQ rfl _ hN)))))
 have g15:(ZbA P m)[15]?=some (.bool (Zv m 4 != 0)):=by simp [ZbA,hP]
 have g21:(ZbA P m)[21]?=some (.bool (Zv m 128 != 0)):=by simp [ZbA,hP]
 have g23:(ZbA P m)[23]?=some (.bool (Zv m 64 != 0)):=by simp [ZbA,hP]
 unfold Zjx ZiX
 generalize ZbA P m=M at *
 cases h1:ZaC 2 l with
 | error c=>exact KRun.seqF (Zw M hM hMN _ _) (ZNv M hM hMN l hl h1)
 | ok a =>
 obtain ⟨k,r4⟩:=a
 have l1:=ZgY h1
 refine KRun.seqT (ZIg M hM hMN l hl h1) l1 ?_
 have hM1:(M.set 13 (.int .i64 k)).length=26:=by simp [hM]
 have hN1:Zd (M.set 13 (.int .i64 k))=true:=ZQ rfl 13 hMN
 simp only
 cases h2:Zbt 1 r4 with
 | error c=>exact KRun.seqF (Zw _ hM1 hN1 _ _) (Zzj _ hM1 hN1 r4 (by omega) h2)
 | ok a =>
 obtain ⟨ps,r5⟩:=a
 have l2:=ZgS h2
 refine KRun.seqT (ZI4 _ hM1 hN1 r4 (by omega) (hu1 r4 (by omega)) h2) l2 ?_
 have hM2:((M.set 13 (.int .i64 k)).set 9 (.lst false (ps.map Zj))).length=26:=by simp [hM]
 have hN2:Zd ((M.set 13 (.int .i64 k)).set 9 (.lst false (ps.map Zj)))=true:=ZQ (Zb2 _ _) 9 hN1
 simp only
 cases h3:Zaq r5 with
 | error c=>exact KRun.seqF (Zw _ hM2 hN2 _ _) (ZLJ _ hM2 hN2 r5 (by omega) h3)
 | ok a =>
 obtain ⟨cl,r6⟩:=a
 have l3:=Zdz h3
 refine KRun.seqT (ZMQ _ hM2 hN2 r5 (by omega) h3) l3 ?_
 refine ZBt _ (by simp [hM]) (ZQ rfl 14 hN2) r6 (by omega) (hu r6 (by omega)) ?_ ?_ ?_
 ·rw [List.getElem?_set_ne (by omega),List.getElem?_set_ne (by omega),List.getElem?_set_ne (by omega)];exact g15
 ·rw [List.getElem?_set_ne (by omega),List.getElem?_set_ne (by omega),List.getElem?_set_ne (by omega)];exact g21
 ·rw [List.getElem?_set_ne (by omega),List.getElem?_set_ne (by omega),List.getElem?_set_ne (by omega)];exact g23
theorem ZLo (P:List AVal) (hP:P.length=26) (hN:Zd P=true) (l:Zb) (hl:l.length<=140737488355328) (hu1:∀ r:Zb,r.length<=140737488355328->(ZV 1 r).2.1<=r.length) (hu:∀ r:Zb,r.length<=140737488355328->(ZV 16 r).2.1<=r.length):KRun Znx [(0,.ref 0 0)] P l (ZjA P l):=by
 rw [ZOf]
 refine KRun.seqT (ZMh P hP hN l hl) (Nat.le_refl _) ?_
 unfold ZjA
 cases h1:Zaq l with
 | error c=>exact KRun.seqF (Zw _ hP hN _ _) (ZID P hP hN l hl h1)
 | ok a =>
 obtain ⟨s,r1⟩:=a
 have l1:=Zdz h1
 simp only
 split
 case isFalse hs=>exact KRun.seqF (Zw _ hP hN _ _) (ZN1 P hP hN l hl h1 (Bool.not_eq_true _ |>.mp hs))
 rename_i hs
 have hs:=eq_of_beq hs
 subst hs
 refine KRun.seqT (ZIR P hP hN l hl h1) l1 ?_
 cases h2:ZaC 1 r1 with
 | error c=>exact KRun.seqF (Zw _ hP hN _ _) (ZGR P hP hN r1 (by omega) h2)
 | ok a =>
 obtain ⟨v,r2⟩:=a
 have l2:=ZgY h2
 simp only
 split
 case isFalse hs=>exact KRun.seqF (Zw _ hP hN _ _) (ZM7 P hP hN r1 (by omega) h2 (Bool.not_eq_true _ |>.mp hs))
 rename_i hs
 have hs:=eq_of_beq hs
 subst hs
 refine KRun.seqT (Zxv P hP hN r1 (by omega) h2) l2 ?_
 cases h3:ZaC 1 r2 with
 | error c=>exact KRun.seqF (Zw _ hP hN _ _) (Zz6 P hP hN r2 (by omega) h3)
 | ok a =>
 obtain ⟨m,r3⟩:=a
 have l3:=ZgY h3
 simp only
 refine KRun.seqT (ZH2 P hP hN r2 (by omega) h3) l3 ?_
 have l4:r3.length<=140737488355328:=by omega
 refine KRun.seqT (ZMj P hP hN r3 l4 m) (Nat.le_refl _) ?_
 refine KRun.seqT (ZxZ _ (by simp [hP]) (ZQ rfl _ (ZQ rfl _ hN)) r3 l4 m) (Nat.le_refl _) ?_
 refine KRun.seqT (ZGm _ (by simp [hP]) (ZQ rfl _ (ZQ rfl _ (ZQ rfl _ (ZQ rfl _ hN)))) r3 l4 m) (Nat.le_refl _) ?_
 have hM:(ZbA P m).length=26:=by simp [ZbA,hP]
 have hMN:Zd (ZbA P m)=true:=ZQ rfl _ (ZQ rfl _ (ZQ rfl _ (ZQ rfl _ (ZQ rfl _ (ZQ rfl _ hN)))))
 have g15:(ZbA P m)[15]?=some (.bool (Zv m 4 != 0)):=by simp [ZbA,hP]
 have g18:(ZbA P m)[18]?=some (.int .i64 (Zv (Zea m) 3)):=by simp [ZbA,hP]
 have g19:(ZbA P m)[19]?=some (.bool (Zv m 32 != 0)):=by simp [ZbA,hP]
 split
 case isFalse hs=>exact KRun.seqF (Zw _ hM hMN _ _) (ZPq _ hM hMN r3 l4 m _ _ _ g15 g18 g19 (Bool.not_eq_true _ |>.mp hs))
 rename_i hs
 refine KRun.seqT (ZwR _ hM hMN r3 l4 m _ _ _ g15 g18 g19 hs) (Nat.le_refl _) ?_
 exact ZOY P hP hN r3 l4 hu1 hu
end
section
theorem z0b:((((0:Nat):Int)) == 0)=true:=by decide
theorem Zex {l:Zb} {b:Bool} (h:decide (l.length=0)=b):(((l.length:Nat):Int) == 0)=b:=by
 subst h
 by_cases h:l.length=0
 ·simp [h]
 ·have : ¬((l.length:Nat):Int)=0:=by omega
  simp [h]
section
variable (P:List AVal) (hP:P.length=26) (hN:Zd P=true)
include hP hN
theorem ZFP (qos:Int) (h0:P[0]?=some (.int .i64 3)) (h2:P[2]?=some (.int .i64 qos)) (h4:P[4]?=some (.int .i64 0)) (hu:∀ r:Zb,r.length<=140737488355328->(ZV 3 r).2.1<=r.length) (l:Zb) (hl:l.length<=140737488355328) {tp:Zb} {n:Int} {ps:List Zm} {pay:Zb} (h:ZeT qos l=.ok (tp,n,ps,pay)) :
  E 48 [.ref 0 0] [.var (P++[.lst false (l.map Zc)])]=some (.tup [],[.var ((((P.set 5 (.str tp)).set 4 (.int .i64 n)).set 9 (.lst false (ps.map Zj))).set 6 (.lst false (pay.map Zc))++[.lst true []])]):=by
 have hq:=ZCz P hP hN qos h2 h4 hu l hl h
 have hN':Zd ((((P.set 5 (.str tp)).set 4 (.int .i64 n)).set 9 (.lst false (ps.map Zj))).set 6 (.lst false (pay.map Zc)))=true:=ZQ (Zb2 _ _) _ (ZQ (Zb2 _ _) _ (ZQ rfl _ (ZQ rfl _ hN)))
 have hP':((((P.set 5 (.str tp)).set 4 (.int .i64 n)).set 9 (.lst false (ps.map Zj))).set 6 (.lst false (pay.map Zc))).length=26:=by simp [hP]
 generalize (((P.set 5 (.str tp)).set 4 (.int .i64 n)).set 9 (.lst false (ps.map Zj))).set 6 (.lst false (pay.map Zc))=Q at *
 have hG:=fun σ sq (hs:(σ:Za)[0]?=some (.var (P++[.lst false (l.map Zc)])))=>Zda (O:=E) (bf:=BY) (f:=71) (rest:=[]) (by kernel_rfl) rfl (Zw P hP hN _ _) (ZaD hN' (by rfl)) rfl rfl hq hs sq
 have a4:=fun L=>(Z8 P hP 0 (by omega) L).trans h0
 have b2:=Zas Q hP'
 have m1:=Zbd
 have z:=z0b
 rw [Zg (by rfl) Zbg]
 simp -implicitDefEqProofs only [EQA,ZE,Zq,Nat.reduceAdd,Nat.reduceLT,Nat.reduceLeDiff,Nat.reduceEqDiff,Nat.reduceBEq,↓reduceIte,Zd,Zbh,Za9,Zes,oI,oN,a4,b2,hG,m1,Int.reduceBEq,z]
 exact ZW rfl (ZaD hN' (by rfl))
theorem ZJy (qos:Int) (h0:P[0]?=some (.int .i64 3)) (h2:P[2]?=some (.int .i64 qos)) (l:Zb) (hl:l.length<=140737488355328) {c:Int} (h:ZeT qos l=.error c) :
  ∃ cs,Zd cs=true/\E 48 [.ref 0 0] [.var (P++[.lst false (l.map Zc)])]=some (.pan (Zx c),[.var cs]):=by
 obtain ⟨cs,hn,he⟩:=ZNj P hP hN qos h2 l hl h
 have hG:=fun σ sq (hs:(σ:Za)[0]?=some (.var (P++[.lst false (l.map Zc)])))=>ZcB (O:=E) (bf:=BY) (f:=71) (view:=true) (rest:=[]) (by kernel_rfl) rfl (Zw P hP hN _ _) hn rfl he hs sq
 have a4:=fun L=>(Z8 P hP 0 (by omega) L).trans h0
 refine ⟨cs,hn,?_⟩
 rw [Zg (by rfl) Zbg]
 simp -implicitDefEqProofs only [EQA,ZE,Nat.reduceAdd,Nat.reduceLT,Nat.reduceLeDiff,Nat.reduceEqDiff,Nat.reduceBEq,↓reduceIte,Zbh,Za9,oI,oN,a4,hG,Int.reduceBEq]
 exact ZW rfl hn
theorem ZxS (h0:P[0]?=some (.int .i64 1)) (l:Zb) (hl:l.length<=140737488355328) {Q:List AVal} {r:Zb} (hq:E 67 [.ref 0 0] (Zh P l)=some (.tup [],Zh Q r)) (hQ:Q.length=26) (hQN:Zd Q=true) (hr:r.length=0) :
  E 48 [.ref 0 0] (Zh P l)=some (.tup [],Zh Q r):=by
 unfold Zh at *
 have hG:=fun σ sq (hs:(σ:Za)[0]?=some (.var (P++[.lst false (l.map Zc)])))=>Zda (O:=E) (bf:=BY) (f:=67) (rest:=[]) (by kernel_rfl) rfl (Zw P hP hN _ _) (ZaD hQN (by rfl)) rfl rfl hq hs sq
 have a4:=fun L=>(Z8 P hP 0 (by omega) L).trans h0
 have b2:=Zas Q hQ
 have m1:=Zbd
 have z:=Zex (l:=r) (decide_eq_true hr)
 rw [Zg (by rfl) Zbg]
 simp -implicitDefEqProofs only [EQA,ZE,Zq,Nat.reduceAdd,Nat.reduceLT,Nat.reduceLeDiff,Nat.reduceEqDiff,Nat.reduceBEq,↓reduceIte,Zd,Zbh,Za9,Zes,oI,oN,a4,b2,hG,m1,z]
 exact ZW rfl (ZaD hQN (by rfl))
theorem ZH4 (h0:P[0]?=some (.int .i64 1)) (l:Zb) (hl:l.length<=140737488355328) {Q:List AVal} {r:Zb} (hq:E 67 [.ref 0 0] (Zh P l)=some (.tup [],Zh Q r)) (hQ:Q.length=26) (hQN:Zd Q=true) (hr:¬r.length=0) :
  E 48 [.ref 0 0] (Zh P l)=some (.pan (Zx 129),Zh Q r):=by
 unfold Zh at *
 have hG:=fun σ sq (hs:(σ:Za)[0]?=some (.var (P++[.lst false (l.map Zc)])))=>Zda (O:=E) (bf:=BY) (f:=67) (rest:=[]) (by kernel_rfl) rfl (Zw P hP hN _ _) (ZaD hQN (by rfl)) rfl rfl hq hs sq
 have a4:=fun L=>(Z8 P hP 0 (by omega) L).trans h0
 have b2:=Zas Q hQ
 have m1:=Zbz
 have z:=Zex (l:=r) (decide_eq_false hr)
 rw [Zg (by rfl) Zbg]
 simp -implicitDefEqProofs only [EQA,ZE,Nat.reduceAdd,Nat.reduceLT,Nat.reduceLeDiff,Nat.reduceEqDiff,Nat.reduceBEq,↓reduceIte,Zbh,Za9,oI,oN,a4,b2,hG,m1,z]
 exact ZW rfl (ZaD hQN (by rfl))
theorem ZDO (h0:P[0]?=some (.int .i64 1)) (l:Zb) (hl:l.length<=140737488355328) {cs:List AVal} {c:Int} (hn:Zd cs=true) (he:E 67 [.ref 0 0] (Zh P l)=some (.pan (Zx c),[.var cs])) :
  E 48 [.ref 0 0] (Zh P l)=some (.pan (Zx c),[.var cs]):=by
 unfold Zh at *
 have hG:=fun σ sq (hs:(σ:Za)[0]?=some (.var (P++[.lst false (l.map Zc)])))=>ZcB (O:=E) (bf:=BY) (f:=67) (view:=true) (rest:=[]) (by kernel_rfl) rfl (Zw P hP hN _ _) hn rfl he hs sq
 have a4:=fun L=>(Z8 P hP 0 (by omega) L).trans h0
 rw [Zg (by rfl) Zbg]
 simp -implicitDefEqProofs only [EQA,ZE,Nat.reduceAdd,Nat.reduceLT,Nat.reduceLeDiff,Nat.reduceEqDiff,Nat.reduceBEq,↓reduceIte,Zbh,Za9,oI,oN,a4,hG]
 exact ZW rfl hn
end
end
section
def Zd3 (P:List AVal) (c:Int) (ps:Option (List Zm)):List AVal:=(P.set 7 (.int .i64 c)).set 9 (Zff ps)
theorem ZjO {P:List AVal} (hP:P.length=26) (hN:Zd P=true) (c:Int) (ps:Option (List Zm)):(Zd3 P c ps).length=26/\Zd (Zd3 P c ps)=true :=
 ⟨by simp [Zd3,hP],ZQ (by cases ps <;> rfl) 9 (ZQ rfl 7 hN)⟩
section
variable (P:List AVal) (hP:P.length=26) (hN:Zd P=true)
include hP hN
theorem ZH6 (k:Int) (hk:k=14\/k=15) (h0:P[0]?=some (.int .i64 k)) (h7:P[7]?=some (.int .i64 0)) (h9:P[9]?=some (.lst true [])) (hu:∀ r:Zb,r.length<=140737488355328->(ZV k r).2.1<=r.length) (l:Zb) (hl:l.length<=140737488355328) {c:Int} {ps:Option (List Zm)} {r:Zb} (h:Zcs k l=.ok ((c,ps),r)) :
  E 48 [.ref 0 0] (Zh P l)=some (if r.length=0 then .tup [] else .pan (Zx 129),Zh (Zd3 P c ps) r):=by
 have hG:=fun σ sq hs=>ZuI P hP hN l hl σ 0 sq hs k h0 h7 h9 hu h
 obtain ⟨hQ,hQN⟩:=ZjO hP hN c ps
 have a4:=fun L=>(Z8 P hP 0 (by omega) L).trans h0
 unfold Zh
 rw [show (P.set 7 (.int .i64 c)).set 9 (Zff ps)=Zd3 P c ps from rfl] at hG
 generalize Zd3 P c ps=Q at *
 have b2:=Zas Q hQ
 by_cases hr:r.length=0
 ·have m1:=Zbd
  have z:=Zex (l:=r) (decide_eq_true hr)
  rw [if_pos hr]
  rcases hk with rfl | rfl
  all_goals
   rw [Zg (by rfl) Zbg]
   simp -implicitDefEqProofs only [EQA,ZE,Zq,Nat.reduceAdd,Nat.reduceLT,Nat.reduceLeDiff,Nat.reduceEqDiff,Nat.reduceBEq,↓reduceIte,Zd,Zbh,Za9,Zes,oI,oN,a4,b2,hG,m1,Int.reduceBEq,z]
   exact ZW rfl (ZaD hQN (by rfl))
 ·have m1:=Zbz
  have z:=Zex (l:=r) (decide_eq_false hr)
  rw [if_neg hr]
  rcases hk with rfl | rfl
  all_goals
   rw [Zg (by rfl) Zbg]
   simp -implicitDefEqProofs only [EQA,ZE,Nat.reduceAdd,Nat.reduceLT,Nat.reduceLeDiff,Nat.reduceEqDiff,Nat.reduceBEq,↓reduceIte,Zbh,Za9,oI,oN,a4,b2,hG,m1,Int.reduceBEq,z]
   exact ZW rfl (ZaD hQN (by rfl))
theorem ZKm (k:Int) (hk:k=14\/k=15) (h0:P[0]?=some (.int .i64 k)) (hu:∀ r:Zb,r.length<=140737488355328->(ZV k r).2.1<=r.length) (l:Zb) (hl:l.length<=140737488355328) {e:Int} (h:Zcs k l=.error e) :
  ∃ cs,Zd cs=true/\E 48 [.ref 0 0] (Zh P l)=some (.pan (Zx e),[.var cs]):=by
 obtain ⟨cs,hn,he⟩:=Zst P hP hN k h0 hu l hl h
 have hG:=fun σ sq (hs:(σ:Za)[0]?=some (.var (P++[.lst false (l.map Zc)])))=>ZcB (O:=E) (bf:=BY) (f:=73) (view:=true) (rest:=[]) (by kernel_rfl) rfl (Zw P hP hN _ _) hn rfl he hs sq
 have a4:=fun L=>(Z8 P hP 0 (by omega) L).trans h0
 refine ⟨cs,hn,?_⟩
 unfold Zh
 rcases hk with rfl | rfl
 all_goals
  rw [Zg (by rfl) Zbg]
  simp -implicitDefEqProofs only [EQA,ZE,Nat.reduceAdd,Nat.reduceLT,Nat.reduceLeDiff,Nat.reduceEqDiff,Nat.reduceBEq,↓reduceIte,Zbh,Za9,oI,oN,a4,hG,Int.reduceBEq]
  exact ZW rfl hn
theorem ZxP (k:Int) (hk:k=4\/k=5\/k=6\/k=7) (h0:P[0]?=some (.int .i64 k)) (h7:P[7]?=some (.int .i64 0)) (h9:P[9]?=some (.lst true [])) (hu:∀ r:Zb,r.length<=140737488355328->(ZV k r).2.1<=r.length) (l:Zb) (hl:l.length<=140737488355328) {n:Int} {r1:Zb} (hi:idK l=.ok (n,r1)) {c:Int} {ps:Option (List Zm)} {r:Zb} (h:Zcs k r1=.ok ((c,ps),r)) :
  E 48 [.ref 0 0] (Zh P l)=some (if r.length=0 then .tup [] else .pan (Zx 129),Zh (Zd3 (P.set 4 (.int .i64 n)) c ps) r):=by
 have hr1:=Zfa hi
 have hI:=fun σ sq hs=>ZfQ P hP hN l hl σ 0 sq hs hi
 have hP4:(P.set 4 (.int .i64 n)).length=26:=by simp [hP]
 have hN4:Zd (P.set 4 (.int .i64 n))=true:=ZQ rfl 4 hN
 have g0:(P.set 4 (.int .i64 n))[0]?=some (.int .i64 k):=by rw [List.getElem?_set_ne (by omega)];exact h0
 have g7:(P.set 4 (.int .i64 n))[7]?=some (.int .i64 0):=by rw [List.getElem?_set_ne (by omega)];exact h7
 have g9:(P.set 4 (.int .i64 n))[9]?=some (.lst true []):=by rw [List.getElem?_set_ne (by omega)];exact h9
 generalize P.set 4 (.int .i64 n)=S at *
 have hG:=fun σ sq hs=>ZuI S hP4 hN4 r1 (by omega) σ 0 sq hs k g0 g7 g9 hu h
 obtain ⟨hQ,hQN⟩:=ZjO hP4 hN4 c ps
 have a4:=fun L=>(Z8 P hP 0 (by omega) L).trans h0
 unfold Zh
 rw [show (S.set 7 (.int .i64 c)).set 9 (Zff ps)=Zd3 S c ps from rfl] at hG
 generalize Zd3 S c ps=Q at *
 have b2:=Zas Q hQ
 by_cases hr:r.length=0
 ·have m1:=Zbd
  have z:=Zex (l:=r) (decide_eq_true hr)
  rw [if_pos hr]
  rcases hk with rfl | rfl | rfl | rfl
  all_goals
   rw [Zg (by rfl) Zbg]
   simp -implicitDefEqProofs only [EQA,ZE,Zq,Nat.reduceAdd,Nat.reduceLT,Nat.reduceLeDiff,Nat.reduceEqDiff,Nat.reduceBEq,↓reduceIte,Zd,Zbh,Za9,Zes,oI,oN,a4,b2,hI,hG,m1,Int.reduceBEq,z]
   exact ZW rfl (ZaD hQN (by rfl))
 ·have m1:=Zbz
  have z:=Zex (l:=r) (decide_eq_false hr)
  rw [if_neg hr]
  rcases hk with rfl | rfl | rfl | rfl
  all_goals
   rw [Zg (by rfl) Zbg]
   simp -implicitDefEqProofs only [EQA,ZE,Nat.reduceAdd,Nat.reduceLT,Nat.reduceLeDiff,Nat.reduceEqDiff,Nat.reduceBEq,↓reduceIte,Zbh,Za9,oI,oN,a4,b2,hI,hG,m1,Int.reduceBEq,z]
   exact ZW rfl (ZaD hQN (by rfl))
theorem ZIX (k:Int) (hk:k=4\/k=5\/k=6\/k=7) (h0:P[0]?=some (.int .i64 k)) (l:Zb) (hl:l.length<=140737488355328) {e:Int} (h:idK l=.error e) :
  ∃ cs,Zd cs=true/\E 48 [.ref 0 0] (Zh P l)=some (.pan (Zx e),[.var cs]):=by
 obtain ⟨cs,hn,he⟩:=Zkt P hP hN l hl h
 have hG:=fun σ sq (hs:(σ:Za)[0]?=some (.var (P++[.lst false (l.map Zc)])))=>ZcB (O:=E) (bf:=BY) (f:=72) (view:=true) (rest:=[]) (by kernel_rfl) rfl (Zw P hP hN _ _) hn rfl he hs sq
 have a4:=fun L=>(Z8 P hP 0 (by omega) L).trans h0
 refine ⟨cs,hn,?_⟩
 unfold Zh
 rcases hk with rfl | rfl | rfl | rfl
 all_goals
  rw [Zg (by rfl) Zbg]
  simp -implicitDefEqProofs only [EQA,ZE,Nat.reduceAdd,Nat.reduceLT,Nat.reduceLeDiff,Nat.reduceEqDiff,Nat.reduceBEq,↓reduceIte,Zbh,Za9,oI,oN,a4,hG,Int.reduceBEq]
  exact ZW rfl hn
theorem ZEc (k:Int) (hk:k=4\/k=5\/k=6\/k=7) (h0:P[0]?=some (.int .i64 k)) (hu:∀ r:Zb,r.length<=140737488355328->(ZV k r).2.1<=r.length) (l:Zb) (hl:l.length<=140737488355328) {n:Int} {r1:Zb} (hi:idK l=.ok (n,r1)) {e:Int} (h:Zcs k r1=.error e) :
  ∃ cs,Zd cs=true/\E 48 [.ref 0 0] (Zh P l)=some (.pan (Zx e),[.var cs]):=by
 have hr1:=Zfa hi
 have hI:=fun σ sq hs=>ZfQ P hP hN l hl σ 0 sq hs hi
 have hP4:(P.set 4 (.int .i64 n)).length=26:=by simp [hP]
 have hN4:Zd (P.set 4 (.int .i64 n))=true:=ZQ rfl 4 hN
 have g0:(P.set 4 (.int .i64 n))[0]?=some (.int .i64 k):=by rw [List.getElem?_set_ne (by omega)];exact h0
 generalize P.set 4 (.int .i64 n)=S at *
 obtain ⟨cs,hn,he⟩:=Zst S hP4 hN4 k g0 hu r1 (by omega) h
 have hG:=fun σ sq (hs:(σ:Za)[0]?=some (.var (S++[.lst false (r1.map Zc)])))=>ZcB (O:=E) (bf:=BY) (f:=73) (view:=true) (rest:=[]) (by kernel_rfl) rfl (Zw S hP4 hN4 _ _) hn rfl he hs sq
 have a4:=fun L=>(Z8 P hP 0 (by omega) L).trans h0
 refine ⟨cs,hn,?_⟩
 unfold Zh
 rcases hk with rfl | rfl | rfl | rfl
 all_goals
  rw [Zg (by rfl) Zbg]
  simp -implicitDefEqProofs only [EQA,ZE,Nat.reduceAdd,Nat.reduceLT,Nat.reduceLeDiff,Nat.reduceEqDiff,Nat.reduceBEq,↓reduceIte,Zbh,Za9,oI,oN,a4,hI,hG,Int.reduceBEq]
  exact ZW rfl hn
theorem ZHV (k:Int) (hk:k=12\/k=13) (h0:P[0]?=some (.int .i64 k)) (l:Zb):E 48 [.ref 0 0] (Zh P l)=some (if l.length=0 then .tup [] else .pan (Zx 129),Zh P l):=by
 have a4:=fun L=>(Z8 P hP 0 (by omega) L).trans h0
 have b2:=Zas P hP
 unfold Zh
 by_cases hr:l.length=0
 ·have m1:=Zbd
  have z:=Zex (l:=l) (decide_eq_true hr)
  rw [if_pos hr]
  rcases hk with rfl | rfl
  all_goals
   rw [Zg (by rfl) Zbg]
   simp -implicitDefEqProofs only [EQA,ZE,Zq,Nat.reduceAdd,Nat.reduceLT,Nat.reduceLeDiff,Nat.reduceEqDiff,Nat.reduceBEq,↓reduceIte,Zd,Zbh,Za9,Zes,oI,oN,a4,b2,m1,Int.reduceBEq,z]
   exact ZW rfl (Zw P hP hN _ _)
 ·have m1:=Zbz
  have z:=Zex (l:=l) (decide_eq_false hr)
  rw [if_neg hr]
  rcases hk with rfl | rfl
  all_goals
   rw [Zg (by rfl) Zbg]
   simp -implicitDefEqProofs only [EQA,ZE,Nat.reduceAdd,Nat.reduceLT,Nat.reduceLeDiff,Nat.reduceEqDiff,Nat.reduceBEq,↓reduceIte,Zbh,Za9,oI,oN,a4,b2,m1,Int.reduceBEq,z]
   exact ZW rfl (Zw P hP hN _ _)
end
end
section
def Zc3 (k:Int):Int:=if k=6\/k=8\/k=10 then 2 else 0
theorem ZJO (k:Int):E 26 [.int .i64 k] []=some (.int .u8 (Zc3 k),[]):=by
 unfold Zc3
 by_cases h6:k=6
 ·subst h6;rw [Zg (by rfl) Zl1];simp -implicitDefEqProofs only [EQA,Nat.reduceLT,Nat.reduceEqDiff,reduceCtorEq,↓reduceIte,Zlc,Zhu,Zla,oI]
 by_cases h8:k=8
 ·subst h8;rw [Zg (by rfl) Zl1];simp -implicitDefEqProofs only [EQA,Nat.reduceLT,Nat.reduceEqDiff,reduceCtorEq,↓reduceIte,Zlc,Zhu,Zla,oI,Int.reduceBEq]
 by_cases h10:k=10
 ·subst h10;rw [Zg (by rfl) Zl1];simp -implicitDefEqProofs only [EQA,Nat.reduceLT,Nat.reduceEqDiff,reduceCtorEq,↓reduceIte,Zlc,Zhu,Zla,oI,Int.reduceBEq]
 have b6:(k == 6)=false:=by simpa using h6
 have b8:(k == 8)=false:=by simpa using h8
 have b10:(k == 10)=false:=by simpa using h10
 rw [if_neg (by omega),Zg (by rfl) Zl1]
 simp -implicitDefEqProofs only [EQA,Nat.reduceLT,Nat.reduceEqDiff,reduceCtorEq,↓reduceIte,Zlc,Zhu,Zla,oI,b6,b8,b10]
theorem ZlP (k:Int) (σ:Za) (sq own:Nat):Zk E BY σ sq 26 own true [.int .i64 k]=some (.int .u8 (Zc3 k),σ,{}) :=
 Zcp (ZJO k) (by kernel_rfl) (by simp -implicitDefEqProofs only [ZcS,Zbq,eq_self,eq_self]) (by simp -implicitDefEqProofs only [ZE,Zbq,eq_self,eq_self]) rfl (fun _=>rfl) _ _ _ _
def tyI (b:Int):Int:=IntKind.i64.wrap (b.fdiv (2 ^ min (Int.toNat 4) IntKind.u8.bits))
def Zbf (a b:Int):Int:=IntKind.u8.wrap (BitVec.ofInt IntKind.u8.bits a &&& BitVec.ofInt IntKind.u8.bits b).toNat
def qoI (b:Int):Int:=IntKind.i64.wrap (Zbf (b.fdiv (2 ^ min (Int.toNat 1) IntKind.u8.bits)) 3)
def ZcO (P:List AVal) (b:Int):List AVal:=(((P.set 0 (.int .i64 3)).set 1 (.bool (Zbf b 8 != 0))).set 2 (.int .i64 (qoI b))).set 3 (.bool (Zbf b 1 != 0))
section
variable (P:List AVal) (hP:P.length=26) (hN:Zd P=true)
include hP hN
theorem ZkM (L v:AVal):[v]++List.drop 1 (P++[L])=P.set 0 v++[L]:=Zax P hP 0 1 (by omega) rfl L v
theorem ZHL (b:Int) (l:Zb) (h:tyI b=0):E 47 [.ref 0 0,.int .u8 b] (Zh P l)=some (.pan (Zx 129),Zh (P.set 0 (.int .i64 0)) l):=by
 have a1:=Z6 P hP
 have a3:=ZkM P hP hN
 have a4:=Zh4 P hP 0 (by omega)
 have m1:=Zbz
 have z:((0:Int) != 0)=false:=by decide
 unfold tyI at h
 unfold Zh
 rw [Zg (by rfl) ZgZ]
 simp -implicitDefEqProofs only [EQA,ZE,Nat.reduceLT,Nat.reduceLeDiff,Nat.reduceEqDiff,ZaG,reduceCtorEq,↓reduceIte,ZgO,Zfv,oI,oN,a1,a3,a4,m1,h,z,Int.reduceLT]
 exact ZW rfl (ZaD (ZQ rfl _ hN) (by rfl))
theorem ZG6 (b t:Int) (l:Zb) (h:tyI b=t) (h0:¬t=0) (h3:¬t=3) (hf:¬Zbf b 15=Zc3 t):E 47 [.ref 0 0,.int .u8 b] (Zh P l)=some (.pan (Zx 129),Zh (P.set 0 (.int .i64 t)) l):=by
 have a1:=Z6 P hP
 have a3:=ZkM P hP hN
 have a4:=Zh4 P hP 0 (by omega)
 have m0:=Zbd
 have m1:=Zbz
 have e0:(t != 0)=true:=by simpa using h0
 have e3:(t != 3)=true:=by simpa using h3
 have ef:(Zbf b 15 == Zc3 t)=false:=by simpa using hf
 have hC:=ZlP t
 unfold tyI at h
 unfold Zbf at ef
 unfold Zh
 rw [Zg (by rfl) ZgZ]
 simp -implicitDefEqProofs only [EQA,ZE,Nat.reduceLT,Nat.reduceLeDiff,Nat.reduceEqDiff,ZaG,reduceCtorEq,↓reduceIte,ZgO,Zfv,oI,oN,a1,a3,a4,m0,m1,h,e0,e3,ef,hC,Int.reduceLT]
 exact ZW rfl (ZaD (ZQ rfl _ hN) (by rfl))
theorem ZBC (b t:Int) (l:Zb) (h:tyI b=t) (h0:¬t=0) (h3:¬t=3) (hf:Zbf b 15=Zc3 t):E 47 [.ref 0 0,.int .u8 b] (Zh P l)=some (.tup [],Zh (P.set 0 (.int .i64 t)) l):=by
 have a1:=Z6 P hP
 have a3:=ZkM P hP hN
 have a4:=Zh4 P hP 0 (by omega)
 have m0:=Zbd
 have e0:(t != 0)=true:=by simpa using h0
 have e3:(t != 3)=true:=by simpa using h3
 have ef:(Zbf b 15 == Zc3 t)=true:=by simpa using hf
 have hC:=ZlP t
 unfold tyI at h
 unfold Zbf at ef
 unfold Zh
 rw [Zg (by rfl) ZgZ]
 simp -implicitDefEqProofs only [EQA,ZE,Zq,Nat.reduceLT,Nat.reduceLeDiff,Nat.reduceEqDiff,ZaG,reduceCtorEq,↓reduceIte,Zd,ZgO,Zfv,Zq8,oI,oN,a1,a3,a4,m0,h,e0,e3,ef,hC,Int.reduceLT]
 exact ZW rfl (ZaD (ZQ rfl _ hN) (by rfl))
theorem ZKc (b:Int) (l:Zb) (h:tyI b=3):E 47 [.ref 0 0,.int .u8 b] (Zh P l)=some (if qoI b < 3 then (if qoI b > 0\/(Zbf b 8 != 0)=false then .tup [] else .pan (Zx 130)) else .pan (Zx 129),Zh (ZcO P b) l):=by
 have hQ:(ZcO P b).length=26:=by simp [ZcO,hP]
 have hQN:Zd (ZcO P b)=true:=ZQ rfl _ (ZQ rfl _ (ZQ rfl _ (ZQ rfl _ hN)))
 have g1:(ZcO P b)[1]?=some (.bool (Zbf b 8 != 0)):=by simp [ZcO,hP]
 have g2:(ZcO P b)[2]?=some (.int .i64 (qoI b)):=by simp [ZcO,hP]
 have a1:=Z6 P hP
 have a3:=fun L=>ZkM P hP hN L (.int .i64 3)
 have a4:=Zh4 P hP 0 (by omega)
 have hP0:(P.set 0 (.int .i64 3)).length=26:=by simp [hP]
 have b1:=Z6 _ hP0
 have b3:=fun L=>Zax _ hP0 1 2 (by omega) rfl L (.bool (Zbf b 8 != 0))
 have hP1:((P.set 0 (.int .i64 3)).set 1 (.bool (Zbf b 8 != 0))).length=26:=by simp [hP]
 have c1:=Z6 _ hP1
 have c3:=fun L=>Zax _ hP1 2 3 (by omega) rfl L (.int .i64 (qoI b))
 have hP2:(((P.set 0 (.int .i64 3)).set 1 (.bool (Zbf b 8 != 0))).set 2 (.int .i64 (qoI b))).length=26:=by simp [hP]
 have d1:=Z6 _ hP2
 have d3:=fun L=>Zax _ hP2 3 4 (by omega) rfl L (.bool (Zbf b 1 != 0))
 rw [show (((P.set 0 (.int .i64 3)).set 1 (.bool (Zbf b 8 != 0))).set 2 (.int .i64 (qoI b))).set 3 (.bool (Zbf b 1 != 0))=ZcO P b from rfl] at d3
 generalize ZcO P b=Q at *
 have k1:=fun L=>(Z8 Q hQ 1 (by omega) L).trans g1
 have k2:=fun L=>(Z8 Q hQ 2 (by omega) L).trans g2
 have m0:=Zbd
 have m1:=Zbz
 have e0:((3:Int) != 0)=true:=by decide
 have e3:((3:Int) != 3)=false:=by decide
 unfold tyI at h
 unfold Zh
 by_cases hq:qoI b < 3
 ·rw [if_pos hq]
  by_cases hq0:qoI b > 0
  ·rw [if_pos (Or.inl hq0)]
   unfold qoI Zbf at *
   rw [Zg (by rfl) ZgZ]
   simp -implicitDefEqProofs only [EQA,ZE,Zq,Nat.reduceAdd,Nat.reduceLT,Nat.reduceLeDiff,Nat.reduceEqDiff,ZaG,ZF,Zaw,reduceCtorEq,↓reduceIte,Zd,ZgO,Zfv,Zq8,oI,oN,a1,a3,a4,b1,b3,c1,c3,d1,d3,k2,m0,h,e0,e3,hq,hq0,Int.reduceLT]
   exact ZW rfl (ZaD hQN (by rfl))
  ·cases hd:(Zbf b 8 != 0)
   ·rw [if_pos (Or.inr rfl)]
    rw [hd] at b3 c1 c3 d1 d3 k1
    unfold qoI Zbf at *
    rw [Zg (by rfl) ZgZ]
    simp -implicitDefEqProofs only [EQA,ZE,Zq,Nat.reduceAdd,Nat.reduceLT,Nat.reduceLeDiff,Nat.reduceEqDiff,ZaG,unA,ZF,unG,reduceCtorEq,↓reduceIte,Zd,ZgO,Zfv,Zq8,oI,oN,a1,a3,a4,b1,b3,c1,c3,d1,d3,k1,k2,m0,h,e0,e3,hq,hq0,hd,Int.reduceLT]
    exact ZW rfl (ZaD hQN (by rfl))
   ·rw [if_neg (by simp [hq0])]
    rw [hd] at b3 c1 c3 d1 d3 k1
    unfold qoI Zbf at *
    rw [Zg (by rfl) ZgZ]
    simp -implicitDefEqProofs only [EQA,ZE,Nat.reduceAdd,Nat.reduceLT,Nat.reduceLeDiff,Nat.reduceEqDiff,ZaG,unA,ZF,unG,reduceCtorEq,↓reduceIte,ZgO,Zfv,oI,oN,a1,a3,a4,b1,b3,c1,c3,d1,d3,k1,k2,m0,m1,h,e0,e3,hq,hq0,hd,Int.reduceLT]
    exact ZW rfl (ZaD hQN (by rfl))
 ·rw [if_neg hq]
  unfold qoI Zbf at *
  rw [Zg (by rfl) ZgZ]
  simp -implicitDefEqProofs only [EQA,ZE,Nat.reduceAdd,Nat.reduceLT,Nat.reduceLeDiff,Nat.reduceEqDiff,ZaG,reduceCtorEq,↓reduceIte,ZgO,Zfv,oI,oN,a1,a3,a4,b1,b3,c1,c3,d1,d3,k2,m0,m1,h,e0,e3,hq,Int.reduceLT]
  exact ZW rfl (ZaD hQN (by rfl))
end
end
section
section
variable {σ:Za} {cs xs:List AVal} {g w:Nat}
theorem ZnW {t r:Nat} (hs:σ[t]?=some (.var cs)) (hr:σ[r]?=some (.row g w xs)) (htr:t≠r) (hrf:Zr cs=[r]):Zy σ 1000 [t] []=[t,r]:=by
 have h1:σ.getD t .free=.var cs:=by simp [List.getD_eq_getElem?_getD,hs]
 have h2:σ.getD r .free=.row g w xs:=by simp [List.getD_eq_getElem?_getD,hr]
 have e1:([]:List Nat).contains t=false:=rfl
 have e2:([t]:List Nat).contains r=false:=by simp;exact fun e=>htr e.symm
 rw [show (1000:Nat)=997+1+1+1 from rfl,Zy,e1]
 simp only [Bool.false_eq_true,if_false,h1,ZP,hrf,List.append_nil,List.nil_append]
 rw [Zy,e2]
 simp only [Bool.false_eq_true,if_false,h2,ZP,List.nil_append]
 rfl
theorem Zv7 {r:AVal} {σ:Za} (hr:ZK r=true) (hrf:Zr cs=[1]) (hg:g<=1) (hren:∀ ρ:Rho,ρ 1 g=some (1,g)->Zf ρ cs=cs):gcA 2 [r] (.var cs::.row g w xs::σ)=([r],[.var cs,.row g w xs]):=by
 have e1:=(Za8 (Zn (.var cs::.row g w xs::σ) 2 [0,1]) r hr)
 have h1:ZA 2 [r] (.var cs::.row g w xs::σ)=[0,1]:=by
  have : Zr [r]=[]:=by simp only [Zr,e1.2,List.append_nil]
  have hR:List.range 2=[0,1]:=rfl
  simp only [ZA,this,List.nil_append,hR,List.flatMap_cons,List.flatMap_nil,List.append_nil,List.getD_cons_zero,List.getD_cons_succ,ZP,hrf]
  rfl
 have hng:(if g=0 then 0 else 1)=g:=by split <;> omega
 have hρ:Zn (.var cs::.row g w xs::σ) 2 [0,1] 1 g=some (1,g):=by
  simp only [Zn,Z0,Zp,ZT,List.getElem?_cons_succ,List.getElem?_cons_zero]
  simp [hng]
 simp only [gcA,h1,Zf,e1.1,Zu,List.getD_cons_zero,List.getD_cons_succ,ZT,Zp,ZH,hren _ hρ]
 simp [hng]
theorem Znh {r:AVal} {σ:Za} (hr:ZK r=true) (hrf:Zr cs=[1]) (hg:g<=1) (hren:∀ ρ:Rho,ρ 1 g=some (1,g)->Zf ρ cs=cs):Zam 2 (.var cs::.row g w xs::σ) r=some (r,[.var cs,.row g w xs]):=by
 simp only [Zam,Zv7 hr hrf hg hren]
end
theorem ZcA:∀ (a b:List AVal),Zr (a++b)=Zr a++Zr b
 | [],b=>by simp [Zr]
 | x::a,b=>by simp [Zr,ZcA a b,List.append_assoc]
theorem ZbP (ρ:Rho):∀ (a b:List AVal),Zf ρ (a++b)=Zf ρ a++Zf ρ b
 | [],b=>by simp [Zf]
 | x::a,b=>by simp [Zf,ZbP ρ a b]
theorem Ziq {v:AVal}:∀ {P:List AVal} {k:Nat},Zd P=true->k < P.length->Zr (P.set k v)=ZZ v
 | [],_,_,h=>by simp at h
 | x::P,0,h,_=>by
  simp only [Zd,Bool.and_eq_true] at h
  simp only [List.set_cons_zero,Zr,(ZaV (fun _ _=>none) P h.2).2,List.append_nil]
 | x::P,k+1,h,hk=>by
  simp only [Zd,Bool.and_eq_true] at h
  simp only [List.set_cons_succ,Zr,(Za8 (fun _ _=>none) x h.1).2,List.nil_append]
  exact Ziq h.2 (by simpa using hk)
theorem Zje (ρ:Rho) {v:AVal}:∀ {P:List AVal} {k:Nat},Zd P=true->Zf ρ (P.set k v)=P.set k (Zl ρ v)
 | [],_,_=>by simp [Zf]
 | x::P,0,h=>by
  simp only [Zd,Bool.and_eq_true] at h
  simp only [List.set_cons_zero,Zf,(ZaV ρ P h.2).1]
 | x::P,k+1,h=>by
  simp only [Zd,Bool.and_eq_true] at h
  simp only [List.set_cons_succ,Zf,(Za8 ρ x h.1).1,Zje ρ h.2]
theorem ZEh {σ:Za} {t r g w w2 g2:Nat} {cs xs cs2 xs2:List AVal} (hs:σ[t]?=some (.var cs)) (hr:σ[r]?=some (.row g w xs)) (hg2:g2<=1):Za3 σ [t,r] [.var cs2,.row g2 w2 xs2] 0=true:=by
 have h1:σ.getD t .free=.var cs:=by simp [List.getD_eq_getElem?_getD,hs]
 have h2:σ.getD r .free=.row g w xs:=by simp [List.getD_eq_getElem?_getD,hr]
 simp [Za3,okB,Zcc,Zp,hs,hr,hg2]
theorem Zg0 {O:ZO} {bf:Nat->Bool} {σ:Za} {t r f own g w g2 w2 sq:Nat} {view:Bool} {rest:List AVal} {cs cs1 cs2 cs3 xs xs2:List AVal} {q q':AVal} (hs:σ[t]?=some (.var cs)) (hr:σ[r]?=some (.row g w xs)) (htr:t≠r) (hrf:Zr cs=[r]) (hb:bf f=false) (hp:rest.all Z7=true)
  (hren:∀ ρ:Rho,ρ r g=some (1,0)->Zf ρ cs=cs1) (hg2:g2<=1) (hff:Za0 σ sq own=true) (hn:ZK q'=true)
  (h:O f (.ref 0 0::rest.map ZG) [.var cs1,.row 0 w xs]=some (q,[.var cs2,.row g2 w2 xs2])) (hv:Zad view 2 (some (q,[.var cs2,.row g2 w2 xs2]))=some (q',[.var cs2,.row g2 w2 xs2]))
  (hback:∀ ρ:Rho,(∀ j,ρ 1 j=some (r,g+j))->Zf ρ cs2=cs3) :
  Zk O bf σ sq f own view (.ref t 0::rest)=some (q',(σ.set t (.var cs3)).set r (.row (g+g2) w2 xs2),{ any:=true,upd:=[(t,cs3)] }):=by
 have htl:t < σ.length:=by
  rcases Nat.lt_or_ge t σ.length with h | h
  ·exact h
  ·rw [List.getElem?_eq_none h] at hs;cases hs
 have h1:σ.getD t .free=.var cs:=by simp [List.getD_eq_getElem?_getD,hs]
 have h2:σ.getD r .free=.row g w xs:=by simp [List.getD_eq_getElem?_getD,hr]
 have hf0:Zo σ []=σ:=rfl
 have hsh:showAs σ (.ref t 0::rest)=some (.ref t 0::rest.map ZG,[]):=by
  rw [showAs,show showA σ (.ref t 0)=some (.ref t 0,[]) from rfl,ZdT hp]
  rfl
 have href:Zr (.ref t 0::rest.map ZG)=[t]:=by
  rw [Zr,Zdu hp];rfl
 have hup:Zbb ((σ.set t (.var cs3)).set r (.row (g+g2) w2 xs2)) [t,r]=[(t,cs3)]:=by
  have e1:((σ.set t (.var cs3)).set r (.row (g+g2) w2 xs2))[t]?=some (.var cs3):=by
   rw [List.getElem?_set_ne (fun e=>htr e.symm),List.getElem?_set_self htl]
  have e2:((σ.set t (.var cs3)).set r (.row (g+g2) w2 xs2))[r]?=some (.row (g+g2) w2 xs2):=by
   rw [List.getElem?_set_self (by
    rcases Nat.lt_or_ge r σ.length with h | h
    ·simpa using h
    ·rw [List.getElem?_eq_none h] at hr;cases hr)]
  simp only [Zbb,e1,e2]
 unfold Zk ZbN
 rw [hb]
 simp only [Bool.false_eq_true,if_false,hsh,hf0,href,ZnW hs hr htr hrf]
 unfold ZbE
 have hall:([t,r].all fun t=>okB (σ.getD t .free))=true:=by simp only [List.all_cons,List.all_nil,h1,h2,okB,Bool.and_true]
 rw [if_pos hall]
 have hρt:Zn σ 0 [t,r] t 0=some (0,0):=by simp [Zn,Z0,hs,Zp,ZT]
 have hρr:Zn σ 0 [t,r] r g=some (1,0):=by simp [Zn,Z0,hr,Zp,ZT,htr]
 have hargs:Zf (Zn σ 0 [t,r]) (.ref t 0::rest.map ZG)=.ref 0 0::rest.map ZG:=by
  rw [Zf,Zdf hp]
  simp only [Zl,hρt]
 have hheap:Zu σ 0 [t,r] (Zn σ 0 [t,r]) [t,r] 0=[.var cs1,.row 0 w xs]:=by
  simp only [Zu,h1,h2,ZT,Zp,ZH,hren _ hρr]
  simp
 rw [hargs,hheap,h]
 rw [show [t,r].length=2 from rfl,hv]
 have hk:=ZEh (cs2:=cs2) (w2:=w2) (xs2:=xs2) hs hr hg2
 have hb3:Zf (ZaA σ [t,r] sq) cs2=cs3:=hback _ (fun j=>by simp only [ZaA,List.getElem?_cons_succ,List.getElem?_cons_zero,h2,Zp])
 simp only [ZaI,List.isEmpty_cons,Bool.false_eq_true,if_false,List.length_cons,List.length_nil,Nat.zero_add,Nat.reduceAdd,Nat.le_add_right,Nat.le_refl,decide_true,hk,hff,Bool.and_self,if_true,Za4,ZaM,List.getD_cons_zero,List.getD_cons_succ,Zch,List.getElem?_cons_zero,List.getElem?_cons_succ,h2,Zp,ZH,(Za8 _ _ hn).1,hb3,hup]
end
section
section
variable (P:List AVal) (hP:P.length=26) (hF:Zr P=[1]) (hS:∀ ρ:Rho,ρ 1 0=some (1,0)->Zf ρ P=P) (w:Nat) (xs:List AVal)
include hP hF hS
theorem ZgN {r:AVal} (hr:ZK r=true) (f:Bool) (ys:List AVal):Zam 2 [.var (P++[.lst f ys]),.row 0 w xs] r=some (r,[.var (P++[.lst f ys]),.row 0 w xs]) :=
 Znh hr (by rw [ZcA,hF];rfl) (by omega) (fun ρ h=>by rw [ZbP,hS ρ h];rfl)
theorem ZGY (l:Zb) (n:Nat) (hn:n<=l.length) (hl:l.length<=140737488355328):E 68 [.ref 0 0,.int .i64 (n:Nat)] [.var (P++[.lst false (l.map Zc)]),.row 0 w xs]=some (.int .i64 (Zgx (l.take n)),[.var (P++[.lst false ((l.drop n).map Zc)]),.row 0 w xs]):=by
 have h1:(l.length:Int)>=((n:Nat):Int):=by omega
 have s1:=fun σ kk=>ZiE σ 1 l Zc kk (n:Int) (by omega) (by omega)
 have s2:=fun σ kk=>Zfi σ l kk (n:Int) (by omega) (by omega)
 have e2:((n:Int)).toNat=n:=rfl
 rw [e2] at s1 s2
 have ht:(l.take n).length<=9223372036854775807:=by simp;omega
 have hG:=fun σ sq own f=>Zlw σ sq own (l.take n) ht f
 have a1:=Z6 P hP
 have a2:=Zas P hP
 have a3:=ZeJ P hP
 have a4:=Zgd P hP
 have m1:=Zbd
 rw [Zg (by rfl) Zma]
 simp -implicitDefEqProofs only [EQA,ZE,Nat.reduceAdd,Nat.reduceLT,Nat.reduceLeDiff,Nat.reduceEqDiff,reduceCtorEq,↓reduceIte,Zlj,ZhQ,Zuf,oI,oN,h1,s1,s2,hG,a1,a2,a3,a4,m1,Zgx]
 exact ZgN P hP hF hS w xs rfl _ _
theorem ZyN (l:Zb) (n:Nat) (hn:l.length < n) (hn':n<=9223372036854775807):E 68 [.ref 0 0,.int .i64 (n:Nat)] [.var (P++[.lst false (l.map Zc)]),.row 0 w xs]=some (.pan (Zx 129),[.var (P++[.lst false (l.map Zc)]),.row 0 w xs]):=by
 have h1:¬(l.length:Int)>=((n:Nat):Int):=by omega
 have a2:=Zas P hP
 have m1:=Zbz
 rw [Zg (by rfl) Zma]
 simp -implicitDefEqProofs only [EQA,Nat.reduceAdd,Nat.reduceLT,Nat.reduceEqDiff,reduceCtorEq,↓reduceIte,Zlj,ZhQ,oI,oN,h1,a2,m1]
 exact ZgN P hP hF hS w xs rfl _ _
theorem ZEm (l:Zb) (hl:l.length<=140737488355328) (h:(Zac l).2.2=0):E 77 [.ref 0 0] [.var (P++[.lst false (l.map Zc)]),.row 0 w xs]=some (.str (Zac l).1,[.var (P++[.lst false ((l.drop (Zac l).2.1).map Zc)]),.row 0 w xs]):=by
 have hG:=fun σ sq own f=>ZhH σ sq own f l hl
 have hu:=(Zhz l).1
 unfold gtT at hG
 have s2:=fun σ kk=>Zfi σ l kk ((Zac l).2.1:Int) (by omega) (by omega)
 have e2:(((Zac l).2.1:Nat):Int).toNat=(Zac l).2.1:=rfl
 rw [e2] at s2
 rw [h] at hG
 have a1:=Z6 P hP
 have a2:=Zas P hP
 have a3:=ZeJ P hP
 have a4:=Zgd P hP
 have m1:=Zbd
 rw [Zg (by rfl) Zk6]
 simp -implicitDefEqProofs only [EQA,ZE,Nat.reduceAdd,Nat.reduceLT,Nat.reduceLeDiff,Nat.reduceEqDiff,reduceCtorEq,↓reduceIte,ZjN,ZhZ,ZtD,oI,oN,s2,hG,a1,a2,a3,a4,m1]
 exact ZgN P hP hF hS w xs rfl _ _
theorem Zzv (l:Zb) (hl:l.length<=140737488355328) (h:(Zac l).2.2≠0):E 77 [.ref 0 0] [.var (P++[.lst false (l.map Zc)]),.row 0 w xs]=some (.pan (Zx 129),[.var (P++[.lst false (l.map Zc)]),.row 0 w xs]):=by
 have hG:=fun σ sq own f=>ZhH σ sq own f l hl
 unfold gtT at hG
 have h0:((Zac l).2.2 == 0)=false:=by simpa using h
 have h1:=h
 have a2:=Zas P hP
 have m1:=Zbz
 rw [Zg (by rfl) Zk6]
 simp -implicitDefEqProofs only [EQA,Nat.reduceAdd,Nat.reduceLT,Nat.reduceEqDiff,reduceCtorEq,↓reduceIte,ZjN,ZhZ,oI,oN,hG,a2,h0,m1]
 exact ZgN P hP hF hS w xs rfl _ _
end
theorem Zlb {q:AVal} {cs xs:List AVal} {g w:Nat} (view:Bool) (hn:ZK q=true) (hv:viewR [.var cs,.row g w xs] q=some (q,[])) (hrf:Zr cs=[1]) (hg:g<=1) (hren:∀ ρ:Rho,ρ 1 g=some (1,g)->Zf ρ cs=cs):Zad view 2 (some (q,[.var cs,.row g w xs]))=some (q,[.var cs,.row g w xs]):=by
 unfold Zad
 split
 ·have hnp:∀ x,q≠.pan x:=by rintro x rfl;simp [viewR,ZL,ZI] at hv
  rw [show Zbn 2 (some (q,[.var cs,.row g w xs]))=(match viewR [.var cs,.row g w xs] q with
   | some (r',ts)=>match gcA 2 [r'] (Zo [.var cs,.row g w xs] ts) with
    | ([r''],σ')=>some (r'',σ')
    | _=>none
   | none=>none) from by cases q <;> first | rfl | exact absurd rfl (hnp _)]
  rw [hv]
  simp only [show Zo [ZM.var cs,.row g w xs] []=[.var cs,.row g w xs] from rfl,Zv7 hn hrf hg hren]
 ·rfl
theorem Zm2 {x:AVal} {σ:Za} (view:Bool):Zad view 2 (some (.pan x,σ))=some (.pan x,σ):=by
 unfold Zad
 split <;> rfl
def Zi (Q:List AVal) (k r g n:Nat):List AVal:=Q.set k (.sl r g 0 n)
section
variable (Q:List AVal) (hQ:Q.length=26) (hN:Zd Q=true) (k:Nat) (hk:k < 26) (n:Nat)
include hQ hN hk
theorem ZbW (r g:Nat):(Zi Q k r g n).length=26:=by simp [Zi,hQ]
theorem Zce (r g:Nat):Zr (Zi Q k r g n)=[r]:=by
 unfold Zi
 rw [Ziq hN (by omega)]
 rfl
theorem ZbH {r g r' g':Nat} (ρ:Rho) (h:ρ r g=some (r',g')):Zf ρ (Zi Q k r g n)=Zi Q k r' g' n:=by
 unfold Zi
 rw [Zje ρ hN]
 simp only [Zl,h]
variable (w:Nat) (xs:List AVal) (l:Zb) (hl:l.length<=140737488355328) (σ:Za) (t r g sq:Nat) (htr:t≠r) (hs:σ[t]?=some (.var (Zi Q k r g n++[.lst false (l.map Zc)]))) (hr:σ[r]?=some (.row g w xs))
include hl htr hs hr
theorem ZkC {c:Nat} {m a:Int} {l2:Zb} (hm:((c:Nat):Int)=m) (h:ZaC c l=.ok (a,l2)):Zk E BY σ sq 68 0 true [.ref t 0,.int .i64 m]=some (.int .i64 a,(σ.set t (.var (Zi Q k r g n++[.lst false (l2.map Zc)]))).set r (.row g w xs),{ any:=true,upd:=[(t,Zi Q k r g n++[.lst false (l2.map Zc)])] }):=by
 subst hm
 unfold ZaC at h
 split at h
 ·cases h
 ·injection h with h;injection h with h1 h2;subst h1 h2
  have e:=ZGY (Zi Q k 1 0 n) (ZbW Q hQ hN k hk n 1 0) (Zce Q hQ hN k hk n 1 0) (fun ρ h=>ZbH Q hQ hN k hk n ρ h) w xs l c (by omega) hl
  exact Zg0 (g2:=0) (own:=0) (rest:=[.int .i64 (c:Nat)]) hs hr htr (by rw [ZcA,Zce Q hQ hN k hk n];rfl) (by kernel_rfl) rfl (fun ρ h=>by rw [ZbP,ZbH Q hQ hN k hk n ρ h];rfl) (by omega) rfl rfl e
   (Zlb true rfl rfl (by rw [ZcA,Zce Q hQ hN k hk n];rfl) (by omega) (fun ρ h=>by rw [ZbP,ZbH Q hQ hN k hk n ρ h];rfl)) (fun ρ h=>by rw [ZbP,ZbH Q hQ hN k hk n ρ (h 0)];rfl)
theorem Zvy {c:Nat} {m e:Int} (hm:((c:Nat):Int)=m) (hc:c<=9223372036854775807) (h:ZaC c l=.error e):Zk E BY σ sq 68 0 true [.ref t 0,.int .i64 m]=some (.pan (Zx e),(σ.set t (.var (Zi Q k r g n++[.lst false (l.map Zc)]))).set r (.row g w xs),{ any:=true,upd:=[(t,Zi Q k r g n++[.lst false (l.map Zc)])] }):=by
 subst hm
 unfold ZaC at h
 split at h
 ·injection h with h;subst h
  have e:=ZyN (Zi Q k 1 0 n) (ZbW Q hQ hN k hk n 1 0) (Zce Q hQ hN k hk n 1 0) (fun ρ h=>ZbH Q hQ hN k hk n ρ h) w xs l c (by omega) hc
  exact Zg0 (g2:=0) (own:=0) (rest:=[.int .i64 (c:Nat)]) hs hr htr (by rw [ZcA,Zce Q hQ hN k hk n];rfl) (by kernel_rfl) rfl (fun ρ h=>by rw [ZbP,ZbH Q hQ hN k hk n ρ h];rfl) (by omega) rfl rfl e
   (Zm2 true) (fun ρ h=>by rw [ZbP,ZbH Q hQ hN k hk n ρ (h 0)];rfl)
 ·cases h
theorem Zoa {a l2:Zb} (h:Zaq l=.ok (a,l2)):Zk E BY σ sq 77 0 true [.ref t 0]=some (.str a,(σ.set t (.var (Zi Q k r g n++[.lst false (l2.map Zc)]))).set r (.row g w xs),{ any:=true,upd:=[(t,Zi Q k r g n++[.lst false (l2.map Zc)])] }):=by
 unfold Zaq at h
 split at h
 ·rename_i h0
  injection h with h;injection h with h1 h2;subst h1 h2
  have e:=ZEm (Zi Q k 1 0 n) (ZbW Q hQ hN k hk n 1 0) (Zce Q hQ hN k hk n 1 0) (fun ρ h=>ZbH Q hQ hN k hk n ρ h) w xs l hl h0
  exact Zg0 (g2:=0) (own:=0) (rest:=[]) hs hr htr (by rw [ZcA,Zce Q hQ hN k hk n];rfl) (by kernel_rfl) rfl (fun ρ h=>by rw [ZbP,ZbH Q hQ hN k hk n ρ h];rfl) (by omega) rfl rfl e
   (Zlb true rfl rfl (by rw [ZcA,Zce Q hQ hN k hk n];rfl) (by omega) (fun ρ h=>by rw [ZbP,ZbH Q hQ hN k hk n ρ h];rfl)) (fun ρ h=>by rw [ZbP,ZbH Q hQ hN k hk n ρ (h 0)];rfl)
 ·cases h
theorem ZtQ {c:Int} (h:Zaq l=.error c):Zk E BY σ sq 77 0 true [.ref t 0]=some (.pan (Zx c),(σ.set t (.var (Zi Q k r g n++[.lst false (l.map Zc)]))).set r (.row g w xs),{ any:=true,upd:=[(t,Zi Q k r g n++[.lst false (l.map Zc)])] }):=by
 unfold Zaq at h
 split at h
 ·cases h
 ·rename_i h0
  injection h with h;subst h
  have e:=Zzv (Zi Q k 1 0 n) (ZbW Q hQ hN k hk n 1 0) (Zce Q hQ hN k hk n 1 0) (fun ρ h=>ZbH Q hQ hN k hk n ρ h) w xs l hl h0
  exact Zg0 (g2:=0) (own:=0) (rest:=[]) hs hr htr (by rw [ZcA,Zce Q hQ hN k hk n];rfl) (by kernel_rfl) rfl (fun ρ h=>by rw [ZbP,ZbH Q hQ hN k hk n ρ h];rfl) (by omega) rfl rfl e
   (Zm2 true) (fun ρ h=>by rw [ZbP,ZbH Q hQ hN k hk n ρ (h 0)];rfl)
end
section
variable (Q:List AVal) (hQ:Q.length=26) (hN:Zd Q=true) (k:Nat) (hk:k < 26) (n:Nat) (w:Nat) (xs:List AVal) (l:Zb) (hl:l.length<=140737488355328) (kd:Int) (h0:(Zi Q k 1 0 n)[0]?=some (.int .i64 kd))
include hQ hN hk hl h0
theorem ZGA {c:Int} {r:Zb} (h:ZaB kd l=.ok (c,r)):E 69 [.ref 0 0] [.var (Zi Q k 1 0 n++[.lst false (l.map Zc)]),.row 0 w xs]=some (.int .i64 c,[.var (Zi Q k 1 0 n++[.lst false (r.map Zc)]),.row 0 w xs]):=by
 unfold ZaB at h
 split at h
 case h_2=>cases h
 rename_i n' r' h2
 split at h
 case isFalse=>cases h
 rename_i hn
 injection h with h;injection h with h3 h4;subst h3 h4
 have hG:=fun σ sq hs hr=>ZkC Q hQ hN k hk n w xs l hl σ 0 1 0 sq (by omega) hs hr (m:=1) rfl h2
 have hL:=ZbW Q hQ hN k hk n 1 0
 have hR:=Zce Q hQ hN k hk n 1 0
 have hS:∀ ρ:Rho,ρ 1 0=some (1,0)->Zf ρ (Zi Q k 1 0 n)=Zi Q k 1 0 n:=fun ρ h=>ZbH Q hQ hN k hk n ρ h
 generalize Zi Q k 1 0 n=P at *
 have a4:=fun L=>(Z8 P hL 0 (by omega) L).trans h0
 have m1:=Zbd
 have hC:=fun σ sq own=>Zif kd n' σ sq own
 rw [hn] at hC
 rw [Zg (by rfl) ZfJ]
 simp -implicitDefEqProofs only [EQA,Nat.reduceAdd,Nat.reduceLT,Nat.reduceEqDiff,reduceCtorEq,↓reduceIte,Zgb,Zeu,Zr1,oI,hG,hC,a4,m1]
 exact ZgN P hL hR hS w xs rfl _ _
theorem ZIz {c:Int} (h:ZaB kd l=.error c):∃ r:Zb,E 69 [.ref 0 0] [.var (Zi Q k 1 0 n++[.lst false (l.map Zc)]),.row 0 w xs]=some (.pan (Zx c),[.var (Zi Q k 1 0 n++[.lst false (r.map Zc)]),.row 0 w xs]):=by
 unfold ZaB at h
 have hL:=ZbW Q hQ hN k hk n 1 0
 have hR:=Zce Q hQ hN k hk n 1 0
 have hS:∀ ρ:Rho,ρ 1 0=some (1,0)->Zf ρ (Zi Q k 1 0 n)=Zi Q k 1 0 n:=fun ρ h=>ZbH Q hQ hN k hk n ρ h
 split at h
 ·rename_i n' r' h2
  split at h
  case isTrue=>cases h
  rename_i hn
  injection h with h;subst h
  have hG:=fun σ sq hs hr=>ZkC Q hQ hN k hk n w xs l hl σ 0 1 0 sq (by omega) hs hr (m:=1) rfl h2
  refine ⟨r',?_⟩
  generalize Zi Q k 1 0 n=P at *
  have a4:=fun L=>(Z8 P hL 0 (by omega) L).trans h0
  have m1:=Zbz
  have hC:=fun σ sq own=>Zif kd n' σ sq own
  rw [Bool.not_eq_true _ |>.mp hn] at hC
  rw [Zg (by rfl) ZfJ]
  simp -implicitDefEqProofs only [EQA,Nat.reduceAdd,Nat.reduceLT,Nat.reduceEqDiff,reduceCtorEq,↓reduceIte,Zgb,Zeu,oI,hG,hC,a4,m1]
  exact ZgN P hL hR hS w xs rfl _ _
 ·rename_i c' h2
  injection h with h;subst h
  have hG:=fun σ sq hs hr=>Zvy Q hQ hN k hk n w xs l hl σ 0 1 0 sq (by omega) hs hr (m:=1) rfl (by decide) h2
  refine ⟨l,?_⟩
  generalize Zi Q k 1 0 n=P at *
  rw [Zg (by rfl) ZfJ]
  simp -implicitDefEqProofs only [EQA,Nat.reduceAdd,Nat.reduceLT,reduceCtorEq,↓reduceIte,Zgb,Zeu,oI,hG]
  exact ZgN P hL hR hS w xs rfl _ _
variable (σ:Za) (t r g sq:Nat) (htr:t≠r) (hs:σ[t]?=some (.var (Zi Q k r g n++[.lst false (l.map Zc)]))) (hr:σ[r]?=some (.row g w xs))
include htr hs hr
theorem ZCD {c:Int} {l2:Zb} (h:ZaB kd l=.ok (c,l2)):Zk E BY σ sq 69 0 true [.ref t 0]=some (.int .i64 c,(σ.set t (.var (Zi Q k r g n++[.lst false (l2.map Zc)]))).set r (.row g w xs),{ any:=true,upd:=[(t,Zi Q k r g n++[.lst false (l2.map Zc)])] }):=by
 have e:=ZGA Q hQ hN k hk n w xs l hl kd h0 h
 exact Zg0 (g2:=0) (own:=0) (rest:=[]) hs hr htr (by rw [ZcA,Zce Q hQ hN k hk n];rfl) (by kernel_rfl) rfl (fun ρ h=>by rw [ZbP,ZbH Q hQ hN k hk n ρ h];rfl) (by omega) rfl rfl e
  (Zlb true rfl rfl (by rw [ZcA,Zce Q hQ hN k hk n];rfl) (by omega) (fun ρ h=>by rw [ZbP,ZbH Q hQ hN k hk n ρ h];rfl)) (fun ρ h=>by rw [ZbP,ZbH Q hQ hN k hk n ρ (h 0)];rfl)
theorem ZMY {c:Int} (h:ZaB kd l=.error c):∃ l2:Zb,Zk E BY σ sq 69 0 true [.ref t 0]=some (.pan (Zx c),(σ.set t (.var (Zi Q k r g n++[.lst false (l2.map Zc)]))).set r (.row g w xs),{ any:=true,upd:=[(t,Zi Q k r g n++[.lst false (l2.map Zc)])] }):=by
 obtain ⟨l2,e⟩:=ZIz Q hQ hN k hk n w xs l hl kd h0 h
 exact ⟨l2,Zg0 (g2:=0) (own:=0) (rest:=[]) hs hr htr (by rw [ZcA,Zce Q hQ hN k hk n];rfl) (by kernel_rfl) rfl (fun ρ h=>by rw [ZbP,ZbH Q hQ hN k hk n ρ h];rfl) (by omega) rfl rfl e
  (Zm2 true) (fun ρ h=>by rw [ZbP,ZbH Q hQ hN k hk n ρ (h 0)];rfl)⟩
end
end
section
structure Zbx where
 filter:Zb
 qos:Int
 noLocal:Bool
 asPublished:Bool
 handling:Int
 id:Int
 deriving DecidableEq
def ZY (s:Zbx):AVal:=.agg [.str s.filter,.int .i64 s.qos,.bool s.noLocal,.bool s.asPublished,.int .i64 s.handling,.int .i64 s.id]
structure ZrB where
 topic:Zb
 data:Zb
 qos:Int
 retain:Bool
 props:List Zm
 deriving DecidableEq
structure Zs where
 type:Int
 dup:Bool
 qos:Int
 retain:Bool
 id:Int
 topic:Zb
 payload:Zb
 code:Int
 codes:List Int
 props:List Zm
 subs:List Zbx
 filters:List Zb
 clean:Bool
 keep:Int
 client:Zb
 hasWill:Bool
 will:ZrB
 hasUser:Bool
 user:Zb
 hasPassword:Bool
 password:Zb
 present:Bool
 deriving DecidableEq
def Zaj (p:Zs):AVal:=.agg [.int .i64 p.type,.bool p.dup,.int .i64 p.qos,.bool p.retain,.int .i64 p.id,.str p.topic,.lst false (p.payload.map Zc),.int .i64 p.code,.lst false (p.codes.map (AVal.int .i64)),.lst false (p.props.map Zj),.lst false (p.subs.map ZY),.lst false (p.filters.map AVal.str),.bool p.clean,.int .i64 p.keep,.str p.client,.bool p.hasWill,.str p.will.topic,.lst false (p.will.data.map Zc),.int .i64 p.will.qos,.bool p.will.retain,.lst false (p.will.props.map Zj),.bool p.hasUser,.str p.user,.bool p.hasPassword,.lst false (p.password.map Zc),.bool p.present]
end
section
def Zgk (m:Int):Int:=IntKind.i64.wrap (m.tdiv 16)
def Zbp (l:Zb):RK Zbx:=match Zaq l with
 | .error c=>.error c
 | .ok (f,r1)=>match ZaC 1 r1 with
  | .error c=>.error c
  | .ok (o,r2)=>if o < 64 then (if Zv o 3 < 3/\Zgk o < 3 then .ok (⟨f,Zv o 3,Zv o 4 != 0,Zv o 8 != 0,Zgk o,0⟩,r2) else .error 130) else .error 129
theorem ZcZ {cs cs' xs:List AVal} {w j:Nat} {r:AVal} {σ:Za} (hr:ZK r=true) (hj:j≠0) (h0:σ[0]?=some (.var cs)) (h1:σ[j]?=some (.row 0 w xs)) (hrf:Zr cs=[j]) (hren:∀ ρ:Rho,ρ j 0=some (1,0)->Zf ρ cs=cs'):Zam 1 σ r=some (r,[.var cs',.row 0 w xs]):=by
 have d0:σ.getD 0 .free=.var cs:=by simp [List.getD_eq_getElem?_getD,h0]
 have d1:σ.getD j .free=.row 0 w xs:=by simp [List.getD_eq_getElem?_getD,h1]
 have e1:=(Za8 (Zn σ 1 [0,j]) r hr)
 have ej:([0]:List Nat).contains j=false:=by simp;omega
 have hi:ZA 1 [r] σ=[0,j]:=by
  have : Zr [r]=[]:=by simp only [Zr,e1.2,List.append_nil]
  have hR:List.range 1=[0]:=rfl
  simp only [ZA,this,List.nil_append,hR,List.flatMap_cons,List.flatMap_nil,List.append_nil,d0,ZP,hrf]
  rw [show (1000:Nat)=998+1+1 from rfl,Zy,ej]
  simp only [Bool.false_eq_true,if_false,d1,ZP,List.nil_append]
  rfl
 have hρ:Zn σ 1 [0,j] j 0=some (1,0):=by
  have : ¬(0:Nat)=j:=fun e=>hj e.symm
  simp [Zn,Z0,Zp,ZT,h1,this]
 simp only [Zam,gcA,hi,Zf,e1.1,Zu,d0,d1,ZT,Zp,ZH,hren _ hρ]
 simp
section
variable (P:List AVal) (hP:P.length=26) (hN:Zd P=true) (h10:P[10]?=some (.lst true [])) (l:Zb) (hl:l.length<=140737488355328)
include hP hN h10 hl
theorem ZNr {s:Zbx} {r:Zb} (h:Zbp l=.ok (s,r)):E 75 [.ref 0 0] (Zh P l)=some (.tup [],[.var (Zi P 10 1 0 1++[.lst false (r.map Zc)]),.row 0 6 [ZY s]]):=by
 unfold Zbp at h
 split at h
 ·cases h
 rename_i f r1 ht
 have l1:=Zdz ht
 split at h
 ·cases h
 rename_i o r2 hn
 split at h
 case isFalse=>cases h
 rename_i h64
 split at h
 case isFalse=>cases h
 rename_i hq
 obtain ⟨hq1,hq2⟩:=hq
 injection h with h;injection h with e1 e2;subst e1 e2
 have hT:=fun σ sq hs=>ZdY P hP hN l hl σ 0 sq hs ht
 have hG:=fun σ sq hs=>ZcR P hP hN r1 (by omega) σ 0 sq hs (m:=1) rfl hn
 have m0:=Zbd
 have a1:=Z6 P hP
 have a3:=fun L v=>Zax P hP 10 11 (by omega) rfl L v
 have a4:=fun L=>(Z8 P hP 10 (by omega) L).trans h10
 have z:¬(16:Int)=0:=by decide
 unfold Zi ZY Zh
 unfold Zv Zgk at *
 rw [Zg (by rfl) ZdK]
 simp -implicitDefEqProofs only [EQA,Za6,Zq,Nat.reduceAdd,Nat.reduceLT,Nat.reduceLeDiff,Nat.reduceEqDiff,Nat.reduceBEq,ZF,unG,reduceCtorEq,ZU,↓reduceIte,Zd,ZdA,Zdb,ZsG,oI,oN,hT,hG,m0,a1,a3,a4,z,h64,hq1,hq2,Zae,AVal.cells,ZaF,viewAs,ZL,ZI,Zar,Zo,Nat.one_mul,Nat.le_refl,Zag,Zai,Zak,Zav,Zay,Zao,List.lookup_nil,kOk]
 refine ZcZ (j:=2) rfl (by omega) rfl rfl ?_ (fun ρ h=>?_)
 ·rw [ZcA,Ziq hN (by omega)];rfl
 ·rw [ZbP,Zje ρ hN]
  simp only [Zl,h]
  rfl
end
theorem ZFy (ss:List Zbx):kOk 6 (ss.map ZY)=true:=by cases ss <;> rfl
section
variable (P:List AVal) (hP:P.length=26) (hN:Zd P=true) (ss:List Zbx) (hss:ss.length*48+48<=140737488355328) (l:Zb) (hl:l.length<=140737488355328)
include hP hN hss hl
theorem ZIu {s:Zbx} {r:Zb} (h:Zbp l=.ok (s,r)):E 75 [.ref 0 0] [.var (Zi P 10 1 0 ss.length++[.lst false (l.map Zc)]),.row 0 6 (ss.map ZY)]=some (.tup [],[.var (Zi P 10 1 1 (ss.length+1)++[.lst false (r.map Zc)]),.row 1 6 ((ss++[s]).map ZY)]):=by
 unfold Zbp at h
 split at h
 ·cases h
 rename_i f r1 ht
 have l1:=Zdz ht
 split at h
 ·cases h
 rename_i o r2 hn
 split at h
 case isFalse=>cases h
 rename_i h64
 split at h
 case isFalse=>cases h
 rename_i hq
 obtain ⟨hq1,hq2⟩:=hq
 injection h with h;injection h with e1 e2;subst e1 e2
 have hT:=fun σ sq hs hr=>Zoa P hP hN 10 (by omega) ss.length 6 (ss.map ZY) l hl σ 0 1 0 sq (by omega) hs hr ht
 have hG:=fun σ sq hs hr=>ZkC P hP hN 10 (by omega) ss.length 6 (ss.map ZY) r1 (by omega) σ 0 1 0 sq (by omega) hs hr (m:=1) rfl hn
 have m0:=Zbd
 have hL:=ZbW P hP hN 10 (by omega) ss.length 1 0
 have a1:=Z6 _ hL
 have a3:=fun L v=>Zax _ hL 10 11 (by omega) rfl L v
 have h10:(Zi P 10 1 0 ss.length)[10]?=some (.sl 1 0 0 ss.length):=by unfold Zi;rw [List.getElem?_set_self (by omega)]
 have a4:=fun L=>(Z8 _ hL 10 (by omega) L).trans h10
 have hset:(Zi P 10 1 0 ss.length).set 10 (.sl 1 1 0 (ss.length+1))=Zi P 10 1 1 (ss.length+1):=by unfold Zi;rw [List.set_set]
 have z:¬(16:Int)=0:=by decide
 have kk:=ZFy ss
 have k1:∀ a b c d e f:AVal,kOk 6 [.agg [a,b,c,d,e,f]]=true:=fun _ _ _ _ _ _=>rfl
 have len:(ss.map ZY).length=ss.length:=by simp
 have tk:(ss.map ZY).take ss.length=ss.map ZY:=by rw [<-len,List.take_length]
 have lim:(ss.length+1)*48<=140737488355328:=by omega
 have lim2:48*(ss.length+1)<=140737488355328:=by omega
 unfold Zv Zgk at *
 rw [Zg (by rfl) ZdK]
 simp -implicitDefEqProofs only [EQA,Za6,Nat.reduceAdd,Nat.reduceLT,Nat.reduceLeDiff,Nat.reduceEqDiff,Nat.reduceBEq,ZF,unG,reduceCtorEq,ZU,↓reduceIte,ZdA,Zdb,ZsG,oI,oN,hT,hG,m0,a1,a3,a4,z,h64,hq1,hq2,Zae,AVal.cells,ZaF,viewAs,ZL,ZI,Zar,Zo,Nat.le_refl,Zag,Zai,Zak,Zav,Zay,Zao,List.lookup_nil,k1,len,lim,hset]
 rw [Znh (g:=1) rfl (by rw [ZcA,Zce P hP hN 10 (by omega)];rfl) (by omega) (fun ρ h=>by rw [ZbP,ZbH P hP hN 10 (by omega) _ ρ h];rfl)]
 simp only [List.map_append,List.map_cons,List.map_nil]
 rfl
end
section
variable (P:List AVal) (hP:P.length=26) (hN:Zd P=true) (l:Zb) (hl:l.length<=140737488355328)
include hP hN hl
theorem ZNa {e:Int} (h:Zbp l=.error e):∃ cs,Zd cs=true/\E 75 [.ref 0 0] (Zh P l)=some (.pan (Zx e),[.var cs]):=by
 unfold Zbp at h
 have z:¬(16:Int)=0:=by decide
 unfold Zh
 split at h
 ·rename_i c ht
  injection h with h;subst h
  have hT:=fun σ sq hs=>Zg4 P hP hN l hl σ 0 sq hs ht
  refine ⟨_,Zw P hP hN false (l.map Zc),?_⟩
  rw [Zg (by rfl) ZdK]
  simp -implicitDefEqProofs only [EQA,Nat.reduceLT,↓reduceIte,ZdA,Zdb,oI,oN,hT]
  exact ZW rfl (Zw P hP hN _ _)
 rename_i f r1 ht
 have l1:=Zdz ht
 have hT:=fun σ sq hs=>ZdY P hP hN l hl σ 0 sq hs ht
 split at h
 ·rename_i c hn
  injection h with h;subst h
  have hG:=fun σ sq hs=>ZfB P hP hN r1 (by omega) σ 0 sq hs (m:=1) rfl (by decide) hn
  refine ⟨_,Zw P hP hN false (r1.map Zc),?_⟩
  rw [Zg (by rfl) ZdK]
  simp -implicitDefEqProofs only [EQA,Za6,Nat.reduceAdd,Nat.reduceLT,Nat.reduceLeDiff,Nat.reduceEqDiff,Nat.reduceBEq,reduceCtorEq,↓reduceIte,ZdA,Zdb,oI,oN,hT,hG,Zae,AVal.cells]
  exact ZW rfl (Zw P hP hN _ _)
 rename_i o r2 hn
 have hG:=fun σ sq hs=>ZcR P hP hN r1 (by omega) σ 0 sq hs (m:=1) rfl hn
 have m0:=Zbd
 have m1:=Zbz
 refine ⟨_,Zw P hP hN false (r2.map Zc),?_⟩
 split at h
 case isFalse =>
  rename_i h64
  injection h with h;subst h
  rw [Zg (by rfl) ZdK]
  simp -implicitDefEqProofs only [EQA,Za6,Nat.reduceAdd,Nat.reduceLT,Nat.reduceLeDiff,Nat.reduceEqDiff,Nat.reduceBEq,reduceCtorEq,↓reduceIte,ZdA,Zdb,oI,oN,hT,hG,m1,h64,Zae,AVal.cells]
  exact ZW rfl (Zw P hP hN _ _)
 rename_i h64
 split at h
 ·cases h
 rename_i hq
 injection h with h;subst h
 by_cases hq1:Zv o 3 < 3
 ·have hq2:¬Zgk o < 3:=fun h=>hq ⟨hq1,h⟩
  unfold Zv Zgk at *
  rw [Zg (by rfl) ZdK]
  simp -implicitDefEqProofs only [EQA,Za6,Nat.reduceAdd,Nat.reduceLT,Nat.reduceLeDiff,Nat.reduceEqDiff,Nat.reduceBEq,ZF,unG,reduceCtorEq,↓reduceIte,ZdA,Zdb,oI,oN,hT,hG,m0,m1,z,h64,hq1,hq2,Zae,AVal.cells]
  exact ZW rfl (Zw P hP hN _ _)
 ·unfold Zv at *
  rw [Zg (by rfl) ZdK]
  simp -implicitDefEqProofs only [EQA,Za6,Nat.reduceAdd,Nat.reduceLT,Nat.reduceLeDiff,Nat.reduceEqDiff,Nat.reduceBEq,ZF,Zaw,reduceCtorEq,↓reduceIte,ZdA,Zdb,oI,oN,hT,hG,m0,m1,z,h64,hq1,Zae,AVal.cells]
  exact ZW rfl (Zw P hP hN _ _)
variable (ss:List Zbx)
theorem Zzn {e:Int} (h:Zbp l=.error e):∃ r:Zb,E 75 [.ref 0 0] [.var (Zi P 10 1 0 ss.length++[.lst false (l.map Zc)]),.row 0 6 (ss.map ZY)]=some (.pan (Zx e),[.var (Zi P 10 1 0 ss.length++[.lst false (r.map Zc)]),.row 0 6 (ss.map ZY)]):=by
 unfold Zbp at h
 have z:¬(16:Int)=0:=by decide
 have fin:∀ (r:Zb) (σ:Za) (x:AVal),ZK x=true->Zam 2 (.var (Zi P 10 1 0 ss.length++[.lst false (r.map Zc)])::.row 0 6 (ss.map ZY)::σ) x=some (x,[.var (Zi P 10 1 0 ss.length++[.lst false (r.map Zc)]),.row 0 6 (ss.map ZY)]):=fun r σ x hx =>
  Znh (g:=0) hx (by rw [ZcA,Zce P hP hN 10 (by omega)];rfl) (by omega) (fun ρ h=>by rw [ZbP,ZbH P hP hN 10 (by omega) _ ρ h];rfl)
 split at h
 ·rename_i c ht
  injection h with h;subst h
  have hT:=fun σ sq hs hr=>ZtQ P hP hN 10 (by omega) ss.length 6 (ss.map ZY) l hl σ 0 1 0 sq (by omega) hs hr ht
  refine ⟨l,?_⟩
  rw [Zg (by rfl) ZdK]
  simp -implicitDefEqProofs only [EQA,Nat.reduceAdd,Nat.reduceLT,↓reduceIte,ZdA,Zdb,oI,oN,hT]
  exact fin _ _ _ rfl
 rename_i f r1 ht
 have l1:=Zdz ht
 have hT:=fun σ sq hs hr=>Zoa P hP hN 10 (by omega) ss.length 6 (ss.map ZY) l hl σ 0 1 0 sq (by omega) hs hr ht
 split at h
 ·rename_i c hn
  injection h with h;subst h
  have hG:=fun σ sq hs hr=>Zvy P hP hN 10 (by omega) ss.length 6 (ss.map ZY) r1 (by omega) σ 0 1 0 sq (by omega) hs hr (m:=1) rfl (by decide) hn
  refine ⟨r1,?_⟩
  rw [Zg (by rfl) ZdK]
  simp -implicitDefEqProofs only [EQA,Za6,Nat.reduceAdd,Nat.reduceLT,Nat.reduceLeDiff,Nat.reduceEqDiff,Nat.reduceBEq,reduceCtorEq,↓reduceIte,ZdA,Zdb,oI,oN,hT,hG,Zae,AVal.cells]
  exact fin _ _ _ rfl
 rename_i o r2 hn
 have hG:=fun σ sq hs hr=>ZkC P hP hN 10 (by omega) ss.length 6 (ss.map ZY) r1 (by omega) σ 0 1 0 sq (by omega) hs hr (m:=1) rfl hn
 have m0:=Zbd
 have m1:=Zbz
 refine ⟨r2,?_⟩
 split at h
 case isFalse =>
  rename_i h64
  injection h with h;subst h
  rw [Zg (by rfl) ZdK]
  simp -implicitDefEqProofs only [EQA,Za6,Nat.reduceAdd,Nat.reduceLT,Nat.reduceLeDiff,Nat.reduceEqDiff,Nat.reduceBEq,reduceCtorEq,↓reduceIte,ZdA,Zdb,oI,oN,hT,hG,m1,h64,Zae,AVal.cells]
  exact fin _ _ _ rfl
 rename_i h64
 split at h
 ·cases h
 rename_i hq
 injection h with h;subst h
 by_cases hq1:Zv o 3 < 3
 ·have hq2:¬Zgk o < 3:=fun h=>hq ⟨hq1,h⟩
  unfold Zv Zgk at *
  rw [Zg (by rfl) ZdK]
  simp -implicitDefEqProofs only [EQA,Za6,Nat.reduceAdd,Nat.reduceLT,Nat.reduceLeDiff,Nat.reduceEqDiff,Nat.reduceBEq,ZF,unG,reduceCtorEq,↓reduceIte,ZdA,Zdb,oI,oN,hT,hG,m0,m1,z,h64,hq1,hq2,Zae,AVal.cells]
  exact fin _ _ _ rfl
 ·unfold Zv at *
  rw [Zg (by rfl) ZdK]
  simp -implicitDefEqProofs only [EQA,Za6,Nat.reduceAdd,Nat.reduceLT,Nat.reduceLeDiff,Nat.reduceEqDiff,Nat.reduceBEq,ZF,Zaw,reduceCtorEq,↓reduceIte,ZdA,Zdb,oI,oN,hT,hG,m0,m1,z,h64,hq1,Zae,AVal.cells]
  exact fin _ _ _ rfl
end
end
section
section
variable (P:List AVal) (hP:P.length=26) (hN:Zd P=true)
include hP hN
theorem ZC2 (k:Int) (hk:P[0]?=some (.int .i64 k)) (l:Zb) (hl:l.length<=140737488355328) {c:Int} (h:ZaB k l=.error c):∃ r:Zb,E 69 [.ref 0 0] [.var (P++[.lst false (l.map Zc)])]=some (.pan (Zx c),[.var (P++[.lst false (r.map Zc)])]):=by
 unfold ZaB at h
 split at h
 ·rename_i n' r' h2
  split at h
  case isTrue=>cases h
  rename_i hn
  injection h with h;subst h
  have hG:=fun σ sq hs=>ZcR P hP hN l hl σ 0 sq hs (m:=1) rfl h2
  have a4:=fun L=>(Z8 P hP 0 (by omega) L).trans hk
  have m1:=Zbz
  have hC:=fun σ sq own=>Zif k n' σ sq own
  rw [Bool.not_eq_true _ |>.mp hn] at hC
  refine ⟨r',?_⟩
  rw [Zg (by rfl) ZfJ]
  simp -implicitDefEqProofs only [EQA,Nat.reduceLT,Nat.reduceEqDiff,reduceCtorEq,↓reduceIte,Zgb,Zeu,oI,hG,hC,a4,m1]
  exact ZW rfl (ZaD hN (by rfl))
 ·rename_i c' h2
  injection h with h;subst h
  have hG:=fun σ sq hs=>ZfB P hP hN l hl σ 0 sq hs (m:=1) rfl (by decide) h2
  refine ⟨l,?_⟩
  rw [Zg (by rfl) ZfJ]
  simp -implicitDefEqProofs only [EQA,Nat.reduceLT,reduceCtorEq,↓reduceIte,Zgb,Zeu,oI,hG]
  exact ZW rfl (ZaD hN (by rfl))
end
section
variable (P:List AVal) (hP:P.length=26) (hN:Zd P=true) (l:Zb) (hl:l.length<=140737488355328)
include hP hN hl
theorem ZCj (h11:P[11]?=some (.lst true [])) {s r:Zb} (h:Zaq l=.ok (s,r)):evC FC PR BY 3 Zdl [(1,.ref 2 0),(0,.ref 0 0)] [.var [.ref 1 0],.var (P++[.lst false (l.map Zc)]),.var [.ref 1 0]]=some (.normal,[],[.var [.ref 1 0],.var (Zi P 11 3 0 1++[.lst false (r.map Zc)]),.var [.ref 1 0],.row 0 1 [.str s]]):=by
 have hT:=fun σ sq hs=>ZdY P hP hN l hl σ 1 sq hs h
 have a1:=Z6 P hP
 have a3:=fun L v=>Zax P hP 11 12 (by omega) rfl L v
 have a4:=fun L=>(Z8 P hP 11 (by omega) L).trans h11
 unfold Zi
 simp -implicitDefEqProofs only [EQA,Nat.reduceAdd,Nat.reduceLT,Nat.reduceLeDiff,Nat.reduceEqDiff,Nat.reduceBEq,reduceCtorEq,ZU,↓reduceIte,Zdl,oI,oN,hT,a1,a3,a4,AVal.cells,ZaF,viewAs,ZL,ZI,Zo,Nat.one_mul,Zag,Zai,Zak,Zav,Zay,Zao,Zdh,List.lookup_cons,List.lookup_nil,kOk]
theorem ZE3 {c:Int} (h:Zaq l=.error c) (h11:P[11]?=some (.lst true [])):evC FC PR BY 3 Zdl [(1,.ref 2 0),(0,.ref 0 0)] [.var [.ref 1 0],.var (P++[.lst false (l.map Zc)]),.var [.ref 1 0]]=some (.panic (Zx c),[],[.var [.ref 1 0],.var (P++[.lst false (l.map Zc)]),.var [.ref 1 0],.free]):=by
 have hT:=fun σ sq hs=>Zg4 P hP hN l hl σ 1 sq hs h
 have a4:=fun L=>(Z8 P hP 11 (by omega) L).trans h11
 simp -implicitDefEqProofs only [EQA,Nat.reduceAdd,Nat.reduceSub,Nat.reduceLT,Nat.reduceLeDiff,Nat.reduceEqDiff,Nat.reduceBEq,reduceCtorEq,↓reduceIte,Zdl,oI,oN,hT,a4,ZhS,Zdq,List.any_cons,List.any_nil,Zag,Zai,Zak,Zav,Zay,Zao,Zdh,List.lookup_cons,List.lookup_nil]
theorem ZC0 (h8:P[8]?=some (.lst true [])) (k:Int) (hk:P[0]?=some (.int .i64 k)) {c:Int} {r:Zb} (h:ZaB k l=.ok (c,r)):evC FC PR BY 3 Zdk [(1,.ref 2 0),(0,.ref 0 0)] [.var [.ref 1 0],.var (P++[.lst false (l.map Zc)]),.var [.ref 1 0]]=some (.normal,[],[.var [.ref 1 0],.var (Zi P 8 3 0 1++[.lst false (r.map Zc)]),.var [.ref 1 0],.row 0 1 [.int .i64 c]]):=by
 have hT:=fun σ sq hs=>Zi2 P hP hN l hl σ 1 sq hs k hk h
 have a1:=Z6 P hP
 have a3:=fun L v=>Zax P hP 8 9 (by omega) rfl L v
 have a4:=fun L=>(Z8 P hP 8 (by omega) L).trans h8
 unfold Zi
 simp -implicitDefEqProofs only [EQA,Nat.reduceAdd,Nat.reduceLT,Nat.reduceLeDiff,Nat.reduceEqDiff,Nat.reduceBEq,reduceCtorEq,ZU,↓reduceIte,Zdk,oI,oN,hT,a1,a3,a4,AVal.cells,ZaF,viewAs,ZL,ZI,Zo,Nat.one_mul,Zag,Zai,Zak,Zav,Zay,Zao,Zdh,List.lookup_cons,List.lookup_nil,kOk]
theorem ZDz (h8:P[8]?=some (.lst true [])) (k:Int) (hk:P[0]?=some (.int .i64 k)) {e:Int} (h:ZaB k l=.error e):∃ r:Zb,evC FC PR BY 3 Zdk [(1,.ref 2 0),(0,.ref 0 0)] [.var [.ref 1 0],.var (P++[.lst false (l.map Zc)]),.var [.ref 1 0]]=some (.panic (Zx e),[],[.var [.ref 1 0],.var (P++[.lst false (r.map Zc)]),.var [.ref 1 0],.free]):=by
 obtain ⟨r,he⟩:=ZC2 P hP hN k hk l hl h
 have hT:=fun (σ:Za) sq (hs:σ[1]?=some (.var (P++[.lst false (l.map Zc)])))=>ZcB (O:=E) (bf:=BY) (f:=69) (view:=true) (rest:=[]) (by kernel_rfl) rfl (Zw P hP hN _ _) (Zw P hP hN _ _) rfl he hs sq
 have a4:=fun L=>(Z8 P hP 8 (by omega) L).trans h8
 refine ⟨r,?_⟩
 simp -implicitDefEqProofs only [EQA,Nat.reduceAdd,Nat.reduceSub,Nat.reduceLT,Nat.reduceLeDiff,Nat.reduceEqDiff,Nat.reduceBEq,reduceCtorEq,↓reduceIte,Zdk,oI,oN,hT,a4,ZhS,Zdq,List.any_cons,List.any_nil,Zag,Zai,Zak,Zav,Zay,Zao,Zdh,List.lookup_cons,List.lookup_nil]
end
end
section
section
variable (P:List AVal) (hP:P.length=26) (hN:Zd P=true) (l:Zb) (hl:l.length<=140737488355328)
include hP hN hl
theorem ZJJ (xs:List AVal) (hx:xs.length*16+16<=140737488355328) (kk:kOk 1 xs=true) {s r:Zb} (h:Zaq l=.ok (s,r)):evC FC PR BY 4 Zdl [(1,.ref 3 0),(0,.ref 0 0)] [.var [.ref 1 0],.var (Zi P 11 2 0 xs.length++[.lst false (l.map Zc)]),.row 0 1 xs,.var [.ref 1 0]]=some (.normal,[],[.var [.ref 1 0],.var (Zi P 11 2 1 (xs.length+1)++[.lst false (r.map Zc)]),.row 1 1 (xs++[.str s]),.var [.ref 1 0],.free]):=by
 have hT:=fun σ sq hs hr=>Zoa P hP hN 11 (by omega) xs.length 1 xs l hl σ 1 2 0 sq (by omega) hs hr h
 have hL:=ZbW P hP hN 11 (by omega) xs.length 2 0
 have a1:=Z6 _ hL
 have a3:=fun L v=>Zax _ hL 11 12 (by omega) rfl L v
 have hc:(Zi P 11 2 0 xs.length)[11]?=some (.sl 2 0 0 xs.length):=by unfold Zi;rw [List.getElem?_set_self (by omega)]
 have a4:=fun L=>(Z8 _ hL 11 (by omega) L).trans hc
 have hset:(Zi P 11 2 0 xs.length).set 11 (.sl 2 1 0 (xs.length+1))=Zi P 11 2 1 (xs.length+1):=by unfold Zi;rw [List.set_set]
 have k1:kOk 1 [.str s]=true:=rfl
 have tk:xs.take xs.length=xs:=List.take_length
 have lim:(xs.length+1)*16<=140737488355328:=by omega
 have lim2:16*(xs.length+1)<=140737488355328:=by omega
 simp -implicitDefEqProofs only [EQA,Nat.reduceAdd,Nat.reduceLT,Nat.reduceLeDiff,Nat.reduceEqDiff,Nat.reduceBEq,reduceCtorEq,ZU,↓reduceIte,Zdl,oI,oN,hT,a1,a3,a4,AVal.cells,ZaF,viewAs,ZL,ZI,Zo,Zag,Zai,Zak,Zav,Zay,Zao,Zdh,List.lookup_cons,List.lookup_nil,k1,lim,hset]
theorem Zxl (xs:List AVal) (hx:xs.length*8+8<=140737488355328) (kk:kOk 1 xs=true) (k:Int) (hk:P[0]?=some (.int .i64 k)) {c:Int} {r:Zb} (h:ZaB k l=.ok (c,r)):evC FC PR BY 4 Zdk [(1,.ref 3 0),(0,.ref 0 0)] [.var [.ref 1 0],.var (Zi P 8 2 0 xs.length++[.lst false (l.map Zc)]),.row 0 1 xs,.var [.ref 1 0]]=some (.normal,[],[.var [.ref 1 0],.var (Zi P 8 2 1 (xs.length+1)++[.lst false (r.map Zc)]),.row 1 1 (xs++[.int .i64 c]),.var [.ref 1 0],.free]):=by
 have hk0:(Zi P 8 1 0 xs.length)[0]?=some (.int .i64 k):=by unfold Zi;rw [List.getElem?_set_ne (by omega)];exact hk
 have hT:=fun σ sq hs hr=>ZCD P hP hN 8 (by omega) xs.length 1 xs l hl k hk0 σ 1 2 0 sq (by omega) hs hr h
 have hL:=ZbW P hP hN 8 (by omega) xs.length 2 0
 have a1:=Z6 _ hL
 have a3:=fun L v=>Zax _ hL 8 9 (by omega) rfl L v
 have hc:(Zi P 8 2 0 xs.length)[8]?=some (.sl 2 0 0 xs.length):=by unfold Zi;rw [List.getElem?_set_self (by omega)]
 have a4:=fun L=>(Z8 _ hL 8 (by omega) L).trans hc
 have hset:(Zi P 8 2 0 xs.length).set 8 (.sl 2 1 0 (xs.length+1))=Zi P 8 2 1 (xs.length+1):=by unfold Zi;rw [List.set_set]
 have k1:kOk 1 [.int .i64 c]=true:=rfl
 have tk:xs.take xs.length=xs:=List.take_length
 have lim:(xs.length+1)*8<=140737488355328:=by omega
 have lim2:8*(xs.length+1)<=140737488355328:=by omega
 simp -implicitDefEqProofs only [EQA,Nat.reduceAdd,Nat.reduceLT,Nat.reduceLeDiff,Nat.reduceEqDiff,Nat.reduceBEq,reduceCtorEq,ZU,↓reduceIte,Zdk,oI,oN,hT,a1,a3,a4,AVal.cells,ZaF,viewAs,ZL,ZI,Zo,Zag,Zai,Zak,Zav,Zay,Zao,Zdh,List.lookup_cons,List.lookup_nil,k1,lim,hset]
end
end
section
def Ztk (P:List AVal) (f c:Int) (ps:List Zm):List AVal:=((P.set 25 (.bool (f == 1))).set 7 (.int .i64 c)).set 9 (.lst false (ps.map Zj))
section
variable (P:List AVal) (hP:P.length=26) (hN:Zd P=true) (h0:P[0]?=some (.int .i64 2)) (l:Zb) (hl:l.length<=140737488355328)
include hP hN h0 hl
theorem ZDa {e:Int} (h:ZaC 1 l=.error e):∃ cs,Zd cs=true/\E 48 [.ref 0 0] (Zh P l)=some (.pan (Zx e),[.var cs]):=by
 have a4:=fun L=>(Z8 P hP 0 (by omega) L).trans h0
 have hT:=fun σ sq hs=>ZfB P hP hN l hl σ 0 sq hs (m:=1) rfl (by decide) h
 refine ⟨P++[.lst false (l.map Zc)],Zw P hP hN _ _,?_⟩
 unfold Zh
 rw [Zg (by rfl) Zbg]
 simp -implicitDefEqProofs only [EQA,ZE,Nat.reduceAdd,Nat.reduceLT,Nat.reduceLeDiff,Nat.reduceEqDiff,Nat.reduceBEq,↓reduceIte,Zbh,Za9,oI,oN,a4,hT,Int.reduceBEq]
 exact ZW rfl (Zw P hP hN _ _)
theorem ZMf {f:Int} {r:Zb} (h:ZaC 1 l=.ok (f,r)) (hf:¬f < 2):∃ cs,Zd cs=true/\E 48 [.ref 0 0] (Zh P l)=some (.pan (Zx 129),[.var cs]):=by
 have a4:=fun L=>(Z8 P hP 0 (by omega) L).trans h0
 have hT:=fun σ sq hs=>ZcR P hP hN l hl σ 0 sq hs (m:=1) rfl h
 have m1:=Zbz
 refine ⟨P++[.lst false (r.map Zc)],Zw P hP hN _ _,?_⟩
 unfold Zh
 rw [Zg (by rfl) Zbg]
 simp -implicitDefEqProofs only [EQA,ZE,Nat.reduceAdd,Nat.reduceLT,Nat.reduceLeDiff,Nat.reduceEqDiff,Nat.reduceBEq,↓reduceIte,Zbh,Za9,oI,oN,a4,hT,m1,hf,Int.reduceBEq]
 exact ZW rfl (Zw P hP hN _ _)
theorem ZNo {f:Int} {r:Zb} (h:ZaC 1 l=.ok (f,r)) (hf:f < 2) {e:Int} (hc:ZaB 2 r=.error e):∃ cs,Zd cs=true/\E 48 [.ref 0 0] (Zh P l)=some (.pan (Zx e),[.var cs]):=by
 have hr:=ZgY h
 have a1:=Z6 P hP
 have a4:=fun L=>(Z8 P hP 0 (by omega) L).trans h0
 have hT:=fun σ sq hs=>ZcR P hP hN l hl σ 0 sq hs (m:=1) rfl h
 have m0:=Zbd
 have a3:=fun L=>Zax P hP 25 26 (by omega) rfl L (.bool (f == 1))
 have hP1:(P.set 25 (.bool (f == 1))).length=26:=by simp [hP]
 have hN1:Zd (P.set 25 (.bool (f == 1)))=true:=ZQ rfl _ hN
 have g0:(P.set 25 (.bool (f == 1)))[0]?=some (.int .i64 2):=by rw [List.getElem?_set_ne (by omega)];exact h0
 generalize P.set 25 (.bool (f == 1))=Q at *
 obtain ⟨cs,hn,he⟩:=ZvY Q hP1 hN1 2 g0 r (by omega) hc
 have hC:=fun (σ:Za) sq (hs:σ[0]?=some (.var (Q++[.lst false (r.map Zc)])))=>ZcB (O:=E) (bf:=BY) (f:=69) (view:=true) (rest:=[]) (by kernel_rfl) rfl (Zw Q hP1 hN1 _ _) hn rfl he hs sq
 refine ⟨cs,hn,?_⟩
 unfold Zh
 rw [Zg (by rfl) Zbg]
 simp -implicitDefEqProofs only [EQA,ZE,Nat.reduceAdd,Nat.reduceSub,Nat.reduceLT,Nat.reduceLeDiff,Nat.reduceEqDiff,Nat.reduceBEq,↓reduceIte,Zbh,Za9,oI,oN,a1,a3,a4,hT,hC,m0,hf,Int.reduceBEq,ZhS,Zdq,List.any_cons,List.any_nil,Zag,Zai,Zak,Zav,Zay,Zao,Zdh,List.lookup_cons,List.lookup_nil]
 exact ZW rfl hn
theorem ZBa {f:Int} {r:Zb} (h:ZaC 1 l=.ok (f,r)) (hf:f < 2) {c:Int} {r2:Zb} (hc:ZaB 2 r=.ok (c,r2)) {e:Int} (hp:Zbt 2 r2=.error e):∃ cs,Zd cs=true/\E 48 [.ref 0 0] (Zh P l)=some (.pan (Zx e),[.var cs]):=by
 have hr2:=Zml hc
 have hr:=ZgY h
 have a1:=Z6 P hP
 have a4:=fun L=>(Z8 P hP 0 (by omega) L).trans h0
 have hT:=fun σ sq hs=>ZcR P hP hN l hl σ 0 sq hs (m:=1) rfl h
 have m0:=Zbd
 have a3:=fun L=>Zax P hP 25 26 (by omega) rfl L (.bool (f == 1))
 have hP1:(P.set 25 (.bool (f == 1))).length=26:=by simp [hP]
 have hN1:Zd (P.set 25 (.bool (f == 1)))=true:=ZQ rfl _ hN
 have g0:(P.set 25 (.bool (f == 1)))[0]?=some (.int .i64 2):=by rw [List.getElem?_set_ne (by omega)];exact h0
 generalize P.set 25 (.bool (f == 1))=Q at *
 have hC:=fun σ sq hs=>Zi2 Q hP1 hN1 r (by omega) σ 0 sq hs 2 g0 hc
 have b1:=Z6 _ hP1
 have b3:=fun L=>Zax _ hP1 7 8 (by omega) rfl L (.int .i64 c)
 have hP2:(Q.set 7 (.int .i64 c)).length=26:=by simp [hP1]
 have hN2:Zd (Q.set 7 (.int .i64 c))=true:=ZQ rfl _ hN1
 generalize Q.set 7 (.int .i64 c)=S at *
 have hG:=fun σ sq hs=>ZfM S hP2 hN2 r2 (by omega) σ 0 sq hs hp
 have c1:=Z6 _ hP2
 refine ⟨S++[.lst false (r2.map Zc)],Zw _ hP2 hN2 _ _,?_⟩
 unfold Zh
 rw [Zg (by rfl) Zbg]
 simp -implicitDefEqProofs only [EQA,ZE,Nat.reduceAdd,Nat.reduceSub,Nat.reduceLT,Nat.reduceLeDiff,Nat.reduceEqDiff,Nat.reduceBEq,↓reduceIte,Zbh,Za9,oI,oN,a1,a3,a4,b1,b3,hT,hC,hG,m0,hf,Int.reduceBEq,ZhS,Zdq,List.any_cons,List.any_nil,Zag,Zai,Zak,Zav,Zay,Zao,Zdh,List.lookup_cons,List.lookup_nil]
 exact ZW rfl (Zw _ hP2 hN2 _ _)
theorem Zyg {f:Int} {r:Zb} (h:ZaC 1 l=.ok (f,r)) (hf:f < 2) {c:Int} {r2:Zb} (hc:ZaB 2 r=.ok (c,r2)) {ps:List Zm} {r3:Zb} (hp:Zbt 2 r2=.ok (ps,r3)) (hu:(ZV 2 r2).2.1<=r2.length):E 48 [.ref 0 0] (Zh P l)=some (if r3.length=0 then .tup [] else .pan (Zx 129),Zh (Ztk P f c ps) r3):=by
 have hr2:=Zml hc
 have hr:=ZgY h
 have a1:=Z6 P hP
 have a4:=fun L=>(Z8 P hP 0 (by omega) L).trans h0
 have hT:=fun σ sq hs=>ZcR P hP hN l hl σ 0 sq hs (m:=1) rfl h
 have m0:=Zbd
 have a3:=fun L=>Zax P hP 25 26 (by omega) rfl L (.bool (f == 1))
 have hP1:(P.set 25 (.bool (f == 1))).length=26:=by simp [hP]
 have hN1:Zd (P.set 25 (.bool (f == 1)))=true:=ZQ rfl _ hN
 have g0:(P.set 25 (.bool (f == 1)))[0]?=some (.int .i64 2):=by rw [List.getElem?_set_ne (by omega)];exact h0
 unfold Ztk
 generalize P.set 25 (.bool (f == 1))=Q at *
 have hC:=fun σ sq hs=>Zi2 Q hP1 hN1 r (by omega) σ 0 sq hs 2 g0 hc
 have b1:=Z6 _ hP1
 have b3:=fun L=>Zax _ hP1 7 8 (by omega) rfl L (.int .i64 c)
 have hP2:(Q.set 7 (.int .i64 c)).length=26:=by simp [hP1]
 have hN2:Zd (Q.set 7 (.int .i64 c))=true:=ZQ rfl _ hN1
 generalize Q.set 7 (.int .i64 c)=S at *
 have hG:=fun σ sq hs=>Zeg S hP2 hN2 r2 (by omega) σ 0 sq hs hu hp
 have c1:=Z6 _ hP2
 have c3:=fun L=>Zax _ hP2 9 10 (by omega) rfl L (.lst false (ps.map Zj))
 have hP3:(S.set 9 (.lst false (ps.map Zj))).length=26:=by simp [hP2]
 have hN3:Zd (S.set 9 (.lst false (ps.map Zj)))=true:=ZQ (Zb2 _ _) _ hN2
 generalize S.set 9 (.lst false (ps.map Zj))=U at *
 have d2:=Zas _ hP3
 unfold Zh
 by_cases hr3:r3.length=0
 ·have z:=Zex (l:=r3) (decide_eq_true hr3)
  rw [if_pos hr3]
  rw [Zg (by rfl) Zbg]
  simp -implicitDefEqProofs only [EQA,ZE,Zq,Nat.reduceAdd,Nat.reduceLT,Nat.reduceLeDiff,Nat.reduceEqDiff,Nat.reduceBEq,↓reduceIte,Zd,Zbh,Za9,Zes,oI,oN,a1,a3,a4,b1,b3,c1,c3,d2,z,hT,hC,hG,m0,hf,Int.reduceBEq,Zag,Zai,Zak,Zav,Zay,Zao,List.lookup_cons,List.lookup_nil]
  exact ZW rfl (Zw _ hP3 hN3 _ _)
 ·have z:=Zex (l:=r3) (decide_eq_false hr3)
  have m1:=Zbz
  rw [if_neg hr3]
  rw [Zg (by rfl) Zbg]
  simp -implicitDefEqProofs only [EQA,ZE,Nat.reduceAdd,Nat.reduceLT,Nat.reduceLeDiff,Nat.reduceEqDiff,Nat.reduceBEq,↓reduceIte,Zbh,Za9,oI,oN,a1,a3,a4,b1,b3,c1,c3,d2,z,hT,hC,hG,m0,m1,hf,Int.reduceBEq,Zag,Zai,Zak,Zav,Zay,Zao,List.lookup_cons,List.lookup_nil]
  exact ZW rfl (Zw _ hP3 hN3 _ _)
end
end
section
theorem ZOC {O:ZO} {bf:Nat->Bool} {σ:Za} {t f own:Nat} {rest:List AVal} {cs cs':List AVal} {r r':AVal} (hb:bf f=false) (hp:rest.all Z7=true) (hc:Zd cs=true) (hc':Zd cs'=true) (hn:ZK r'=true) (hv:viewR [.var cs'] r=some (r',[]))
  (h:O f (.ref 0 0::rest.map ZG) [.var cs]=some (r,[.var cs'])) (hs:σ[t]?=some (.var cs)) (sq:Nat) (hff:Za0 σ sq own=true):Zk O bf σ sq f own true (.ref t 0::rest)=some (r',σ.set t (.var cs'),{ any:=true,upd:=[(t,cs')] }):=by
 have htl:t < σ.length:=by
  rcases Nat.lt_or_ge t σ.length with h | h
  ·exact h
  ·rw [List.getElem?_eq_none h] at hs;cases hs
 have hup:Zbb (σ.set t (.var cs')) [t]=[(t,cs')]:=by
  simp only [Zbb,List.getElem?_set,if_pos htl,if_true]
 have hd:σ.getD t .free=.var cs:=by simp [List.getD_eq_getElem?_getD,hs]
 have hf0:Zo σ []=σ:=rfl
 have hsh:showAs σ (.ref t 0::rest)=some (.ref t 0::rest.map ZG,[]):=by
  rw [showAs,show showA σ (.ref t 0)=some (.ref t 0,[]) from rfl,ZdT hp]
  rfl
 have href:Zr (.ref t 0::rest.map ZG)=[t]:=by
  rw [Zr,Zdu hp];rfl
 unfold Zk ZbN
 rw [hb]
 simp only [Bool.false_eq_true,if_false,hsh,hf0,href,Ze1 hs hc]
 unfold ZbE
 have hall:([t].all fun t=>okB (σ.getD t .free))=true:=by simp [List.all_cons,List.all_nil,hs,okB]
 rw [if_pos hall]
 have hρ:Zn σ 0 [t] t 0=some (0,0):=by simp [Zn,Z0,hs,Zp,ZT]
 have hheap:Zu σ 0 [t] (Zn σ 0 [t]) [t] 0=[.var cs]:=by
  simp only [Zu,hd,ZH,(ZaV _ cs hc).1]
 have hargs:Zf (Zn σ 0 [t]) (.ref t 0::rest.map ZG)=.ref 0 0::rest.map ZG:=by
  rw [Zf,Zdf hp]
  simp only [Zl,hρ]
 rw [hargs,hheap,h]
 have hask:Zad true [t].length (some (r,[.var cs']))=some (r',[.var cs']):=by
  unfold Zad
  rw [if_pos rfl]
  have hnp:∀ x,r≠.pan x:=by rintro x rfl;simp [viewR,ZL,ZI] at hv
  rw [show Zbn [t].length (some (r,[.var cs']))=(match viewR [.var cs'] r with
   | some (r',ts)=>match gcA [t].length [r'] (Zo [.var cs'] ts) with
    | ([r''],σ')=>some (r'',σ')
    | _=>none
   | none=>none) from by cases r <;> first | rfl | exact absurd rfl (hnp _)]
  rw [hv]
  simp only [List.length_cons,List.length_nil,Nat.zero_add,show Zo [ZM.var cs'] []=[.var cs'] from rfl,Zj4 hn hc']
 rw [hask]
 have hk:Za3 σ [t] [.var cs'] 0=true:=by
  simp [Za3,okB,hs,Zcc,Zp]
 simp only [ZaI,List.isEmpty_cons,Bool.false_eq_true,if_false,List.length_cons,List.length_nil,Nat.zero_add,Nat.le_add_right,Nat.le_refl,decide_true,hk,hff,Bool.and_self,if_true,Za4,ZaM,List.getD_cons_zero,ZH,(Za8 _ r' hn).1,(ZaV _ cs' hc').1,hup]
theorem ZMB {O:ZO} {bf:Nat->Bool} {σ:Za} {t f own:Nat} {rest:List AVal} {cs cs':List AVal} {x:AVal} {view:Bool} (hb:bf f=false) (hp:rest.all Z7=true) (hc:Zd cs=true) (hc':Zd cs'=true) (hn:ZK x=true)
  (h:O f (.ref 0 0::rest.map ZG) [.var cs]=some (.pan x,[.var cs'])) (hs:σ[t]?=some (.var cs)) (sq:Nat) (hff:Za0 σ sq own=true):Zk O bf σ sq f own view (.ref t 0::rest)=some (.pan x,σ.set t (.var cs'),{ any:=true,upd:=[(t,cs')] }):=by
 have htl:t < σ.length:=by
  rcases Nat.lt_or_ge t σ.length with h | h
  ·exact h
  ·rw [List.getElem?_eq_none h] at hs;cases hs
 have hup:Zbb (σ.set t (.var cs')) [t]=[(t,cs')]:=by
  simp only [Zbb,List.getElem?_set,if_pos htl,if_true]
 have hd:σ.getD t .free=.var cs:=by simp [List.getD_eq_getElem?_getD,hs]
 have hf0:Zo σ []=σ:=rfl
 have hsh:showAs σ (.ref t 0::rest)=some (.ref t 0::rest.map ZG,[]):=by
  rw [showAs,show showA σ (.ref t 0)=some (.ref t 0,[]) from rfl,ZdT hp]
  rfl
 have href:Zr (.ref t 0::rest.map ZG)=[t]:=by
  rw [Zr,Zdu hp];rfl
 unfold Zk ZbN
 rw [hb]
 simp only [Bool.false_eq_true,if_false,hsh,hf0,href,Ze1 hs hc]
 unfold ZbE
 have hall:([t].all fun t=>okB (σ.getD t .free))=true:=by simp [List.all_cons,List.all_nil,hs,okB]
 rw [if_pos hall]
 have hρ:Zn σ 0 [t] t 0=some (0,0):=by simp [Zn,Z0,hs,Zp,ZT]
 have hheap:Zu σ 0 [t] (Zn σ 0 [t]) [t] 0=[.var cs]:=by
  simp only [Zu,hd,ZH,(ZaV _ cs hc).1]
 have hargs:Zf (Zn σ 0 [t]) (.ref t 0::rest.map ZG)=.ref 0 0::rest.map ZG:=by
  rw [Zf,Zdf hp]
  simp only [Zl,hρ]
 rw [hargs,hheap,h]
 have hask:Zad view [t].length (some (.pan x,[.var cs']))=some (.pan x,[.var cs']):=by
  unfold Zad
  split <;> rfl
 rw [hask]
 have hk:Za3 σ [t] [.var cs'] 0=true:=by
  simp [Za3,okB,hs,Zcc,Zp]
 have hnp:ZK (.pan x)=true:=by simpa only [ZK] using hn
 simp only [ZaI,List.isEmpty_cons,Bool.false_eq_true,if_false,List.length_cons,List.length_nil,Nat.zero_add,Nat.le_add_right,Nat.le_refl,decide_true,hk,hff,Bool.and_self,if_true,Za4,ZaM,List.getD_cons_zero,ZH,(Za8 _ _ hnp).1,(ZaV _ cs' hc').1,hup]
theorem Zdd {O:ZO} {bf:Nat->Bool} {σ:Za} {sq f own:Nat} {view:Bool} {args vs vs':List AVal} {ids:List Nat} {h0 h:Za} {r0 r:AVal} (hb:bf f=false) (hsh:showAs σ args=some (vs,[])) (hre:Zy σ 1000 (Zr vs) []=ids) (hne:ids.isEmpty=false)
  (hall:(ids.all fun t=>okB (σ.getD t .free))=true) (hvs:Zf (Zn σ 0 ids) vs=vs') (hh:Zu σ 0 ids (Zn σ 0 ids) ids 0=h0) {hh0:Za} (hO:O f vs' h0=some (r0,hh0)) (hv:Zad view ids.length (some (r0,hh0))=some (r,h))
  (hl1:h.length<=ids.length+own) (hl2:ids.length<=h.length) (hk:Za3 σ ids h 0=true) (hff:Za0 σ sq own=true) {r':AVal} (hr:Zl (ZaA σ ids sq) r=r') {σ':Za} (hlay:Za4 σ ids sq h 0 σ=σ') {u:List (Nat×List AVal)} (hu:Zbb σ' ids=u) :
  Zk O bf σ sq f own view args=some (r',σ',{ any:=true,upd:=u }):=by
 subst hr hlay hu
 unfold Zk ZbN
 rw [hb]
 simp only [Bool.false_eq_true,if_false,hsh,show Zo σ []=σ from rfl,hre]
 unfold ZbE
 rw [if_pos hall,hvs,hh,hO,hv]
 simp only [ZaI,hne,Bool.false_and,Bool.false_eq_true,if_false,hl1,hl2,decide_true,hk,hff,Bool.and_self,if_true]
end
section
section
variable (P:List AVal) (hP:P.length=26) (hN:Zd P=true) (l:Zb) (hl:l.length<=140737488355328)
include hP hN hl
theorem ZEE (xs:List AVal) {c:Int} (h:Zaq l=.error c):evC FC PR BY 4 Zdl [(1,.ref 3 0),(0,.ref 0 0)] [.var [.ref 1 0],.var (Zi P 11 2 0 xs.length++[.lst false (l.map Zc)]),.row 0 1 xs,.var [.ref 1 0]]=some (.panic (Zx c),[],[.var [.ref 1 0],.var (Zi P 11 2 0 xs.length++[.lst false (l.map Zc)]),.row 0 1 xs,.var [.ref 1 0],.free]):=by
 have hT:=fun σ sq hs hr=>ZtQ P hP hN 11 (by omega) xs.length 1 xs l hl σ 1 2 0 sq (by omega) hs hr h
 have hL:=ZbW P hP hN 11 (by omega) xs.length 2 0
 have hc:(Zi P 11 2 0 xs.length)[11]?=some (.sl 2 0 0 xs.length):=by unfold Zi;rw [List.getElem?_set_self (by omega)]
 have a4:=fun L=>(Z8 _ hL 11 (by omega) L).trans hc
 simp -implicitDefEqProofs only [EQA,Nat.reduceAdd,Nat.reduceSub,Nat.reduceLT,Nat.reduceLeDiff,Nat.reduceEqDiff,Nat.reduceBEq,reduceCtorEq,↓reduceIte,Zdl,oI,oN,hT,a4,ZhS,Zdq,List.any_cons,List.any_nil,Zag,Zai,Zak,Zav,Zay,Zao,Zdh,List.lookup_cons,List.lookup_nil]
theorem ZDU (xs:List AVal) (k:Int) (hk:P[0]?=some (.int .i64 k)) {e:Int} (h:ZaB k l=.error e):∃ r:Zb,evC FC PR BY 4 Zdk [(1,.ref 3 0),(0,.ref 0 0)] [.var [.ref 1 0],.var (Zi P 8 2 0 xs.length++[.lst false (l.map Zc)]),.row 0 1 xs,.var [.ref 1 0]]=some (.panic (Zx e),[],[.var [.ref 1 0],.var (Zi P 8 2 0 xs.length++[.lst false (r.map Zc)]),.row 0 1 xs,.var [.ref 1 0],.free]):=by
 have hk0:(Zi P 8 1 0 xs.length)[0]?=some (.int .i64 k):=by unfold Zi;rw [List.getElem?_set_ne (by omega)];exact hk
 have hT0:=fun (σ:Za) sq (hs:σ[1]?=some (.var (Zi P 8 2 0 xs.length++[.lst false (l.map Zc)]))) (hr:σ[2]?=some (.row 0 1 xs))=>ZMY P hP hN 8 (by omega) xs.length 1 xs l hl k hk0 σ 1 2 0 sq (by omega) hs hr h
 have hL:=ZbW P hP hN 8 (by omega) xs.length 2 0
 have hc:(Zi P 8 2 0 xs.length)[8]?=some (.sl 2 0 0 xs.length):=by unfold Zi;rw [List.getElem?_set_self (by omega)]
 have a4:=fun L=>(Z8 _ hL 8 (by omega) L).trans hc
 obtain ⟨r,hT⟩:=hT0 [.var [.ref 1 0],.var (Zi P 8 2 0 xs.length++[.lst false (l.map Zc)]),.row 0 1 xs,.var [.ref 1 0],.free] 4 rfl rfl
 refine ⟨r,?_⟩
 simp -implicitDefEqProofs only [EQA,Nat.reduceAdd,Nat.reduceSub,Nat.reduceLT,Nat.reduceLeDiff,Nat.reduceEqDiff,Nat.reduceBEq,reduceCtorEq,↓reduceIte,Zdk,oI,oN,hT,a4,ZhS,Zdq,List.any_cons,List.any_nil,Zag,Zai,Zak,Zav,Zay,Zao,Zdh,List.lookup_cons,List.lookup_nil]
end
section
variable {cs:List AVal} {r:AVal} {σ:Za}
theorem Zwd (hr:ZK r=true) (hc:Zd cs=true):Zam 3 (.var [.ref 1 0]::.var cs::.var [.ref 1 0]::σ) r=some (r,[.var [.ref 1 0],.var cs,.var [.ref 1 0]]):=by
 have e1:=fun ρ=>Za8 ρ r hr
 have e2:=fun ρ=>ZaV ρ cs hc
 have hi:ZA 3 [r] (.var [.ref 1 0]::.var cs::.var [.ref 1 0]::σ)=[0,1,2]:=by
  have : Zr [r]=[]:=by simp only [Zr,(e1 (fun _ _=>none)).2,List.append_nil]
  have hR:List.range 3=[0,1,2]:=rfl
  simp only [ZA,this,List.nil_append,hR,List.flatMap_cons,List.flatMap_nil,List.append_nil,List.getD_cons_zero,List.getD_cons_succ,ZP,(e2 (fun _ _=>none)).2]
  rfl
 have hρ:Zn (.var [.ref 1 0]::.var cs::.var [.ref 1 0]::σ) 3 [0,1,2] 1 0=some (1,0):=rfl
 simp only [Zam,gcA,hi,Zf,(e1 _).1,Zu,List.getD_cons_zero,List.getD_cons_succ,ZH,Zl,hρ,(e2 _).1]
theorem Zv9 {w:Nat} {xs:List AVal} (hr:ZK r=true) (hc:Zr cs=[3]) (hren:∀ ρ:Rho,ρ 3 0=some (3,0)->Zf ρ cs=cs):Zam 3 (.var [.ref 1 0]::.var cs::.var [.ref 1 0]::.row 0 w xs::σ) r=some (r,[.var [.ref 1 0],.var cs,.var [.ref 1 0],.row 0 w xs]):=by
 have e1:=fun ρ=>Za8 ρ r hr
 have hi:ZA 3 [r] (.var [.ref 1 0]::.var cs::.var [.ref 1 0]::.row 0 w xs::σ)=[0,1,2,3]:=by
  have : Zr [r]=[]:=by simp only [Zr,(e1 (fun _ _=>none)).2,List.append_nil]
  have hR:List.range 3=[0,1,2]:=rfl
  simp only [ZA,this,List.nil_append,hR,List.flatMap_cons,List.flatMap_nil,List.append_nil,List.getD_cons_zero,List.getD_cons_succ,ZP,hc]
  rfl
 have hρ:Zn (.var [.ref 1 0]::.var cs::.var [.ref 1 0]::.row 0 w xs::σ) 3 [0,1,2,3] 1 0=some (1,0):=rfl
 have hρ3:Zn (.var [.ref 1 0]::.var cs::.var [.ref 1 0]::.row 0 w xs::σ) 3 [0,1,2,3] 3 0=some (3,0):=rfl
 simp only [Zam,gcA,hi,Zf,(e1 _).1,Zu,List.getD_cons_zero,List.getD_cons_succ,ZT,Zp,ZH,Zl,hρ,hren _ hρ3]
 rfl
theorem Zj0 {w g:Nat} {xs:List AVal} (hr:ZK r=true) (hg:g<=1) (hc:Zr cs=[2]) (hren:∀ ρ:Rho,ρ 2 g=some (2,g)->Zf ρ cs=cs):Zam 4 (.var [.ref 1 0]::.var cs::.row g w xs::.var [.ref 1 0]::σ) r=some (r,[.var [.ref 1 0],.var cs,.row g w xs,.var [.ref 1 0]]):=by
 have e1:=fun ρ=>Za8 ρ r hr
 have hi:ZA 4 [r] (.var [.ref 1 0]::.var cs::.row g w xs::.var [.ref 1 0]::σ)=[0,1,2,3]:=by
  have : Zr [r]=[]:=by simp only [Zr,(e1 (fun _ _=>none)).2,List.append_nil]
  have hR:List.range 4=[0,1,2,3]:=rfl
  simp only [ZA,this,List.nil_append,hR,List.flatMap_cons,List.flatMap_nil,List.append_nil,List.getD_cons_zero,List.getD_cons_succ,ZP,hc]
  rfl
 have hng:(if g=0 then 0 else 1)=g:=by split <;> omega
 have hρ:Zn (.var [.ref 1 0]::.var cs::.row g w xs::.var [.ref 1 0]::σ) 4 [0,1,2,3] 1 0=some (1,0):=rfl
 have hρ3:Zn (.var [.ref 1 0]::.var cs::.row g w xs::.var [.ref 1 0]::σ) 4 [0,1,2,3] 2 g=some (2,g):=by
  simp only [Zn,Z0,Zp,ZT,List.getElem?_cons_succ,List.getElem?_cons_zero]
  simp [hng]
 simp only [Zam,gcA,hi,Zf,(e1 _).1,Zu,List.getD_cons_zero,List.getD_cons_succ,ZT,Zp,ZH,Zl,hρ,hren _ hρ3]
 simp [hng]
end
section
variable (P:List AVal) (hP:P.length=26) (hN:Zd P=true) (l:Zb) (hl:l.length<=140737488355328)
include hP hN hl
theorem Zhq (k:Nat) (hk:k < 26) (r g n:Nat) (L:Zb):Zr (Zi P k r g n++[.lst false (L.map Zc)])=[r]:=by
 rw [ZcA,Zi,Ziq hN (by omega)];rfl
theorem Zhv (k r g n r' g':Nat) (L:Zb) (ρ:Rho) (h:ρ r g=some (r',g')):Zf ρ (Zi P k r g n++[.lst false (L.map Zc)])=Zi P k r' g' n++[.lst false (L.map Zc)]:=by
 rw [ZbP,Zi,Zje ρ hN,Zi]
 simp only [Zl,h,Zf]
theorem ZJI (h11:P[11]?=some (.lst true [])) {s r:Zb} (h:Zaq l=.ok (s,r)):E 76 [.ref 0 0,.ref 2 0] [.var [.ref 1 0],.var (P++[.lst false (l.map Zc)]),.var [.ref 1 0]]=some (.tup [],[.var [.ref 1 0],.var (Zi P 11 3 0 1++[.lst false (r.map Zc)]),.var [.ref 1 0],.row 0 1 [.str s]]):=by
 rw [Zg (by rfl) Zmr]
 have:=ZCj P hP hN l hl h11 h
 have h2:=Zv9 (σ:=[]) (w:=1) (xs:=[.str s]) (r:=.tup []) rfl (Zhq P hP hN l hl 11 (by omega) 3 0 1 r) (fun ρ hρ=>Zhv P hP hN l hl 11 3 0 1 3 0 r ρ hρ)
 show Zat 3 _ (evC FC PR BY 3 Zdl [(1,.ref 2 0),(0,.ref 0 0)] _)=_
 rw [this]
 exact h2
theorem ZCE {c:Int} (h:Zaq l=.error c) (h11:P[11]?=some (.lst true [])):E 76 [.ref 0 0,.ref 2 0] [.var [.ref 1 0],.var (P++[.lst false (l.map Zc)]),.var [.ref 1 0]]=some (.pan (Zx c),[.var [.ref 1 0],.var (P++[.lst false (l.map Zc)]),.var [.ref 1 0]]):=by
 rw [Zg (by rfl) Zmr]
 have:=ZE3 P hP hN l hl h h11
 have h2:=Zwd (σ:=[.free]) (r:=.pan (Zx c)) rfl (Zw P hP hN false (l.map Zc))
 show Zat 3 _ (evC FC PR BY 3 Zdl [(1,.ref 2 0),(0,.ref 0 0)] _)=_
 rw [this]
 exact h2
theorem ZE2 (h8:P[8]?=some (.lst true [])) (k:Int) (hk:P[0]?=some (.int .i64 k)) {c:Int} {r:Zb} (h:ZaB k l=.ok (c,r)):E 78 [.ref 0 0,.ref 2 0] [.var [.ref 1 0],.var (P++[.lst false (l.map Zc)]),.var [.ref 1 0]]=some (.tup [],[.var [.ref 1 0],.var (Zi P 8 3 0 1++[.lst false (r.map Zc)]),.var [.ref 1 0],.row 0 1 [.int .i64 c]]):=by
 rw [Zg (by rfl) Zk9]
 have:=ZC0 P hP hN l hl h8 k hk h
 have h2:=Zv9 (σ:=[]) (w:=1) (xs:=[.int .i64 c]) (r:=.tup []) rfl (Zhq P hP hN l hl 8 (by omega) 3 0 1 r) (fun ρ hρ=>Zhv P hP hN l hl 8 3 0 1 3 0 r ρ hρ)
 show Zat 3 _ (evC FC PR BY 3 Zdk [(1,.ref 2 0),(0,.ref 0 0)] _)=_
 rw [this]
 exact h2
theorem Zza (h8:P[8]?=some (.lst true [])) (k:Int) (hk:P[0]?=some (.int .i64 k)) {e:Int} (h:ZaB k l=.error e):∃ r:Zb,E 78 [.ref 0 0,.ref 2 0] [.var [.ref 1 0],.var (P++[.lst false (l.map Zc)]),.var [.ref 1 0]]=some (.pan (Zx e),[.var [.ref 1 0],.var (P++[.lst false (r.map Zc)]),.var [.ref 1 0]]):=by
 obtain ⟨r,this⟩:=ZDz P hP hN l hl h8 k hk h
 have h2:=Zwd (σ:=[.free]) (r:=.pan (Zx e)) rfl (Zw P hP hN false (r.map Zc))
 refine ⟨r,?_⟩
 rw [Zg (by rfl) Zk9]
 show Zat 3 _ (evC FC PR BY 3 Zdk [(1,.ref 2 0),(0,.ref 0 0)] _)=_
 rw [this]
 exact h2
variable (xs:List AVal)
theorem ZyH (hx:xs.length*16+16<=140737488355328) (kk:kOk 1 xs=true) {s r:Zb} (h:Zaq l=.ok (s,r)):E 76 [.ref 0 0,.ref 3 0] [.var [.ref 1 0],.var (Zi P 11 2 0 xs.length++[.lst false (l.map Zc)]),.row 0 1 xs,.var [.ref 1 0]]=some (.tup [],[.var [.ref 1 0],.var (Zi P 11 2 1 (xs.length+1)++[.lst false (r.map Zc)]),.row 1 1 (xs++[.str s]),.var [.ref 1 0]]):=by
 rw [Zg (by rfl) Zmr]
 have:=ZJJ P hP hN l hl xs hx kk h
 have h2:=Zj0 (σ:=[.free]) (w:=1) (g:=1) (xs:=xs++[.str s]) (r:=.tup []) rfl (by omega) (Zhq P hP hN l hl 11 (by omega) 2 1 (xs.length+1) r) (fun ρ hρ=>Zhv P hP hN l hl 11 2 1 (xs.length+1) 2 1 r ρ hρ)
 show Zat 4 _ (evC FC PR BY 4 Zdl [(1,.ref 3 0),(0,.ref 0 0)] _)=_
 rw [this]
 exact h2
theorem ZHl {c:Int} (h:Zaq l=.error c):E 76 [.ref 0 0,.ref 3 0] [.var [.ref 1 0],.var (Zi P 11 2 0 xs.length++[.lst false (l.map Zc)]),.row 0 1 xs,.var [.ref 1 0]]=some (.pan (Zx c),[.var [.ref 1 0],.var (Zi P 11 2 0 xs.length++[.lst false (l.map Zc)]),.row 0 1 xs,.var [.ref 1 0]]):=by
 rw [Zg (by rfl) Zmr]
 have:=ZEE P hP hN l hl xs h
 have h2:=Zj0 (σ:=[.free]) (w:=1) (g:=0) (xs:=xs) (r:=.pan (Zx c)) rfl (by omega) (Zhq P hP hN l hl 11 (by omega) 2 0 xs.length l) (fun ρ hρ=>Zhv P hP hN l hl 11 2 0 xs.length 2 0 l ρ hρ)
 show Zat 4 _ (evC FC PR BY 4 Zdl [(1,.ref 3 0),(0,.ref 0 0)] _)=_
 rw [this]
 exact h2
theorem ZDy (hx:xs.length*8+8<=140737488355328) (kk:kOk 1 xs=true) (k:Int) (hk:P[0]?=some (.int .i64 k)) {c:Int} {r:Zb} (h:ZaB k l=.ok (c,r)):E 78 [.ref 0 0,.ref 3 0] [.var [.ref 1 0],.var (Zi P 8 2 0 xs.length++[.lst false (l.map Zc)]),.row 0 1 xs,.var [.ref 1 0]]=some (.tup [],[.var [.ref 1 0],.var (Zi P 8 2 1 (xs.length+1)++[.lst false (r.map Zc)]),.row 1 1 (xs++[.int .i64 c]),.var [.ref 1 0]]):=by
 rw [Zg (by rfl) Zk9]
 have:=Zxl P hP hN l hl xs hx kk k hk h
 have h2:=Zj0 (σ:=[.free]) (w:=1) (g:=1) (xs:=xs++[.int .i64 c]) (r:=.tup []) rfl (by omega) (Zhq P hP hN l hl 8 (by omega) 2 1 (xs.length+1) r) (fun ρ hρ=>Zhv P hP hN l hl 8 2 1 (xs.length+1) 2 1 r ρ hρ)
 show Zat 4 _ (evC FC PR BY 4 Zdk [(1,.ref 3 0),(0,.ref 0 0)] _)=_
 rw [this]
 exact h2
theorem ZCl (k:Int) (hk:P[0]?=some (.int .i64 k)) {e:Int} (h:ZaB k l=.error e):∃ r:Zb,E 78 [.ref 0 0,.ref 3 0] [.var [.ref 1 0],.var (Zi P 8 2 0 xs.length++[.lst false (l.map Zc)]),.row 0 1 xs,.var [.ref 1 0]]=some (.pan (Zx e),[.var [.ref 1 0],.var (Zi P 8 2 0 xs.length++[.lst false (r.map Zc)]),.row 0 1 xs,.var [.ref 1 0]]):=by
 obtain ⟨r,this⟩:=ZDU P hP hN l hl xs k hk h
 have h2:=Zj0 (σ:=[.free]) (w:=1) (g:=0) (xs:=xs) (r:=.pan (Zx e)) rfl (by omega) (Zhq P hP hN l hl 8 (by omega) 2 0 xs.length r) (fun ρ hρ=>Zhv P hP hN l hl 8 2 0 xs.length 2 0 r ρ hρ)
 refine ⟨r,?_⟩
 rw [Zg (by rfl) Zk9]
 show Zat 4 _ (evC FC PR BY 4 Zdk [(1,.ref 3 0),(0,.ref 0 0)] _)=_
 rw [this]
 exact h2
end
end
section
def ZaL {α:Type} (one:Zb->RK α):Nat->Zb->Except Int (List α)
 | 0,l=>if l.length=0 then .ok [] else .error 0
 | n+1,l=>if l.length=0 then .ok [] else match one l with
  | .error e=>.error e
  | .ok (a,r)=>match ZaL one n r with
   | .error e=>.error e
   | .ok t=>.ok (a::t)
section
variable {O:ZO} {bf:Nat->Bool} {f:Nat} {cs cs1 cs2 cs3 xs xs2:List AVal} {w w2 g2:Nat} {q:AVal} {σ:Za} {sq:Nat}
theorem Zr5 (h0:σ[0]?=some (.var cs)) (h1:σ[1]?=some (.var [.ref 0 0])) (h2:σ[2]?=some (.var [.ref 0 0])) (hc:Zr cs=[]):Zy σ 1000 [1,2] []=[1,0,2]:=by
 have d0:σ.getD 0 .free=.var cs:=by simp [List.getD_eq_getElem?_getD,h0]
 have d1:σ.getD 1 .free=.var [.ref 0 0]:=by simp [List.getD_eq_getElem?_getD,h1]
 have d2:σ.getD 2 .free=.var [.ref 0 0]:=by simp [List.getD_eq_getElem?_getD,h2]
 rw [show (1000:Nat)=995+1+1+1+1+1 from rfl]
 simp only [Zy,d0,d1,d2,ZP,Zr,ZZ,hc,List.contains_cons,List.contains_nil,List.append_nil,List.nil_append,List.cons_append,Bool.or_false,Bool.false_eq_true,if_false]
 simp
theorem ZKy (h0:σ[0]?=some (.var cs)) (h1:σ[1]?=some (.var [.ref 0 0])) (h2:σ[2]?=some (.var [.ref 0 0])) (h3:σ[3]?=some (.row 0 w xs)) (hc:Zr cs=[3]):Zy σ 1000 [1,2] []=[1,0,3,2]:=by
 have d0:σ.getD 0 .free=.var cs:=by simp [List.getD_eq_getElem?_getD,h0]
 have d1:σ.getD 1 .free=.var [.ref 0 0]:=by simp [List.getD_eq_getElem?_getD,h1]
 have d2:σ.getD 2 .free=.var [.ref 0 0]:=by simp [List.getD_eq_getElem?_getD,h2]
 have d3:σ.getD 3 .free=.row 0 w xs:=by simp [List.getD_eq_getElem?_getD,h3]
 rw [show (1000:Nat)=994+1+1+1+1+1+1 from rfl]
 simp only [Zy,d0,d1,d2,d3,ZP,Zr,ZZ,hc,List.contains_cons,List.contains_nil,List.append_nil,List.nil_append,List.cons_append,Bool.or_false,Bool.false_eq_true,if_false]
 simp
theorem ZDt (hb:bf f=false) (hc:Zd cs=true) (hq:ZK q=true) (hback:∀ ρ:Rho,ρ 3 0=some (3,0)->Zf ρ cs2=cs3) (hO:O f [.ref 0 0,.ref 2 0] [.var [.ref 1 0],.var cs,.var [.ref 1 0]]=some (q,[.var [.ref 1 0],.var cs2,.var [.ref 1 0],.row 0 w xs])) :
  Zk O bf [.var cs,.var [.ref 0 0],.var [.ref 0 0],.free,.free,.free,.free] 3 f 4 false [.ref 1 0,.ref 2 0]=some (q,[.var cs3,.var [.ref 0 0],.var [.ref 0 0],.row 0 w xs,.free,.free,.free],{ any:=true,upd:=[(1,[.ref 0 0]),(0,cs3),(2,[.ref 0 0])] }):=by
 have ec:=fun ρ=>ZaV ρ cs hc
 refine Zdd (ids:=[1,0,2]) (vs:=[.ref 1 0,.ref 2 0]) hb rfl (Zr5 rfl rfl rfl (ec (fun _ _=>none)).2) rfl rfl rfl ?_ hO rfl (by simp) (by simp) rfl rfl (Za8 _ q hq).1 ?_ rfl
 ·show [ZM.var (Zf _ [.ref 0 0]),.var (Zf _ cs),.var (Zf _ [.ref 0 0])]=_
  rw [(ec _).1];rfl
 ·have hb3:=hback (ZaA [.var cs,.var [.ref 0 0],.var [.ref 0 0],.free,.free,.free,.free] [1,0,2] 3) rfl
  show [ZM.var (Zf _ cs2),.var (Zf _ [.ref 1 0]),.var (Zf _ [.ref 1 0]),.row 0 w xs,.free,.free,.free]=_
  rw [hb3];rfl
theorem ZBD (hb:bf f=false) (hc:Zd cs=true) (hq:ZK q=true) (hc2:Zd cs2=true) (hO:O f [.ref 0 0,.ref 2 0] [.var [.ref 1 0],.var cs,.var [.ref 1 0]]=some (q,[.var [.ref 1 0],.var cs2,.var [.ref 1 0]])) :
  Zk O bf [.var cs,.var [.ref 0 0],.var [.ref 0 0],.free,.free,.free,.free] 3 f 4 false [.ref 1 0,.ref 2 0]=some (q,[.var cs2,.var [.ref 0 0],.var [.ref 0 0],.free,.free,.free,.free],{ any:=true,upd:=[(1,[.ref 0 0]),(0,cs2),(2,[.ref 0 0])] }):=by
 have ec:=fun ρ=>ZaV ρ cs hc
 refine Zdd (ids:=[1,0,2]) (vs:=[.ref 1 0,.ref 2 0]) hb rfl (Zr5 rfl rfl rfl (ec (fun _ _=>none)).2) rfl rfl rfl ?_ hO rfl (by simp) (by simp) rfl rfl (Za8 _ q hq).1 ?_ rfl
 ·show [ZM.var (Zf _ [.ref 0 0]),.var (Zf _ cs),.var (Zf _ [.ref 0 0])]=_
  rw [(ec _).1];rfl
 ·show [ZM.var (Zf _ cs2),.var (Zf _ [.ref 1 0]),.var (Zf _ [.ref 1 0]),.free,.free,.free,.free]=_
  rw [(ZaV _ cs2 hc2).1];rfl
theorem Zvm (hb:bf f=false) (hc:Zr cs=[3]) (hren:∀ ρ:Rho,ρ 3 0=some (2,0)->Zf ρ cs=cs1) (hq:ZK q=true) (hg2:g2<=1) (hback:∀ ρ:Rho,ρ 2 g2=some (3,g2)->Zf ρ cs2=cs3) (hO:O f [.ref 0 0,.ref 3 0] [.var [.ref 1 0],.var cs1,.row 0 w xs,.var [.ref 1 0]]=some (q,[.var [.ref 1 0],.var cs2,.row g2 w2 xs2,.var [.ref 1 0]])) :
  Zk O bf [.var cs,.var [.ref 0 0],.var [.ref 0 0],.row 0 w xs,.free,.free,.free,.free] 4 f 4 false [.ref 1 0,.ref 2 0]=some (q,[.var cs3,.var [.ref 0 0],.var [.ref 0 0],.row g2 w2 xs2,.free,.free,.free,.free],{ any:=true,upd:=[(1,[.ref 0 0]),(0,cs3),(2,[.ref 0 0])] }):=by
 refine Zdd (ids:=[1,0,3,2]) (vs:=[.ref 1 0,.ref 2 0]) hb rfl (ZKy rfl rfl rfl rfl hc) rfl rfl rfl ?_ hO rfl (by simp) (by simp) ?_ rfl (Za8 _ q hq).1 ?_ rfl
 ·have h1:=hren (Zn [.var cs,.var [.ref 0 0],.var [.ref 0 0],.row 0 w xs,.free,.free,.free,.free] 0 [1,0,3,2]) rfl
  show [ZM.var (Zf _ [.ref 0 0]),.var (Zf _ cs),.row 0 w xs,.var (Zf _ [.ref 0 0])]=_
  rw [h1];rfl
 ·simp [Za3,okB,Zcc,Zp,hg2]
 ·have hb3:=hback (ZaA [.var cs,.var [.ref 0 0],.var [.ref 0 0],.row 0 w xs,.free,.free,.free,.free] [1,0,3,2] 4) (by simp [ZaA,Zp])
  show [ZM.var (Zf _ cs2),.var (Zf _ [.ref 1 0]),.var (Zf _ [.ref 1 0]),.row (0+g2) w2 xs2,.free,.free,.free,.free]=_
  rw [hb3,Nat.zero_add];rfl
theorem ZtW {f g:Nat} (hc:Zr cs=[3]) (hg:g<=1) (hren:∀ ρ:Rho,ρ 3 g=some (3,0)->Zf ρ cs=cs1) (τ:Za) :
  gcT 3 [(1,.fn f [.ref 1 0,.ref 2 0]),(0,.ref 0 0)] (.var cs::.var [.ref 0 0]::.var [.ref 0 0]::.row g w xs::τ)=([(1,.fn f [.ref 1 0,.ref 2 0]),(0,.ref 0 0)],[.var cs1,.var [.ref 0 0],.var [.ref 0 0],.row 0 w xs]):=by
 have hi:ZA 3 [.fn f [.ref 1 0,.ref 2 0],.ref 0 0] (.var cs::.var [.ref 0 0]::.var [.ref 0 0]::.row g w xs::τ)=[0,1,2,3]:=by
  have hR:List.range 3=[0,1,2]:=rfl
  simp only [ZA,hR,List.flatMap_cons,List.flatMap_nil,List.append_nil,List.getD_cons_zero,List.getD_cons_succ,ZP,Zr,ZZ,hc]
  rfl
 have hρ:Zn (.var cs::.var [.ref 0 0]::.var [.ref 0 0]::.row g w xs::τ) 3 [0,1,2,3] 3 g=some (3,0):=by
  simp [Zn,Z0,Zp,ZT]
 have hρ0:Zn (.var cs::.var [.ref 0 0]::.var [.ref 0 0]::.row g w xs::τ) 3 [0,1,2,3] 0 0=some (0,0):=rfl
 have hρ1:Zn (.var cs::.var [.ref 0 0]::.var [.ref 0 0]::.row g w xs::τ) 3 [0,1,2,3] 1 0=some (1,0):=rfl
 have hρ2:Zn (.var cs::.var [.ref 0 0]::.var [.ref 0 0]::.row g w xs::τ) 3 [0,1,2,3] 2 0=some (2,0):=rfl
 simp only [gcT,gcA,List.map_cons,List.map_nil,hi,Zu,List.getD_cons_zero,List.getD_cons_succ,ZT,Zp,ZH,Zf,Zl,hρ0,hρ1,hρ2,hren _ hρ]
 simp
theorem ZkA {r:AVal} (hr:ZK r=true) (hc:Zr cs=[3]) (hren:∀ ρ:Rho,ρ 3 0=some (3,0)->Zf ρ cs=cs) (τ:Za):Zam 3 (.var cs::.var [.ref 0 0]::.var [.ref 0 0]::.row 0 w xs::τ) r=some (r,[.var cs,.var [.ref 0 0],.var [.ref 0 0],.row 0 w xs]):=by
 have e1:=fun ρ=>Za8 ρ r hr
 have hi:ZA 3 [r] (.var cs::.var [.ref 0 0]::.var [.ref 0 0]::.row 0 w xs::τ)=[0,1,2,3]:=by
  have hR:List.range 3=[0,1,2]:=rfl
  simp only [ZA,(e1 (fun _ _=>none)).2,List.nil_append,hR,List.flatMap_cons,List.flatMap_nil,List.append_nil,List.getD_cons_zero,List.getD_cons_succ,ZP,Zr,ZZ,hc]
  rfl
 have hρ3:Zn (.var cs::.var [.ref 0 0]::.var [.ref 0 0]::.row 0 w xs::τ) 3 [0,1,2,3] 3 0=some (3,0):=rfl
 have hρ0:Zn (.var cs::.var [.ref 0 0]::.var [.ref 0 0]::.row 0 w xs::τ) 3 [0,1,2,3] 0 0=some (0,0):=rfl
 simp only [Zam,gcA,hi,Zf,(e1 _).1,Zu,List.getD_cons_zero,List.getD_cons_succ,ZT,Zp,ZH,Zl,hρ0,hren _ hρ3]
 rfl
theorem Zlp {r:AVal} (hr:ZK r=true) (hc:Zd cs=true) (τ:Za):Zam 3 (.var cs::.var [.ref 0 0]::.var [.ref 0 0]::τ) r=some (r,[.var cs,.var [.ref 0 0],.var [.ref 0 0]]):=by
 have e1:=fun ρ=>Za8 ρ r hr
 have e2:=fun ρ=>ZaV ρ cs hc
 have hi:ZA 3 [r] (.var cs::.var [.ref 0 0]::.var [.ref 0 0]::τ)=[0,1,2]:=by
  have hR:List.range 3=[0,1,2]:=rfl
  simp only [ZA,(e1 (fun _ _=>none)).2,List.nil_append,hR,List.flatMap_cons,List.flatMap_nil,List.append_nil,List.getD_cons_zero,List.getD_cons_succ,ZP,Zr,ZZ,(e2 (fun _ _=>none)).2]
  rfl
 have hρ0:Zn (.var cs::.var [.ref 0 0]::.var [.ref 0 0]::τ) 3 [0,1,2] 0 0=some (0,0):=rfl
 simp only [Zam,gcA,hi,Zf,(e1 _).1,Zu,List.getD_cons_zero,List.getD_cons_succ,ZH,Zl,hρ0,(e2 _).1]
end
section
variable {α:Type} {one:Zb->RK α} {g:α->AVal} {f k:Nat} (P:List AVal) (hP:P.length=26) (hN:Zd P=true) (hk:k < 26) (hf:f < 1000000) (hby:BY f=false)
  (hlen:∀ {l s r},one l=.ok (s,r)->r.length < l.length)
  (hT1:∀ (xs:List α) (l:Zb) (s:α) (r:Zb),l.length<=1099511627776->xs.length<=1099511627776->one l=.ok (s,r)->E f [.ref 0 0,.ref 3 0] [.var [.ref 1 0],.var (Zi P k 2 0 xs.length++[.lst false (l.map Zc)]),.row 0 1 (xs.map g),.var [.ref 1 0]]=some (.tup [],[.var [.ref 1 0],.var (Zi P k 2 1 (xs.length+1)++[.lst false (r.map Zc)]),.row 1 1 ((xs++[s]).map g),.var [.ref 1 0]]))
  (hF1:∀ (xs:List α) (l:Zb) (e:Int),l.length<=1099511627776->one l=.error e->∃ r:Zb,E f [.ref 0 0,.ref 3 0] [.var [.ref 1 0],.var (Zi P k 2 0 xs.length++[.lst false (l.map Zc)]),.row 0 1 (xs.map g),.var [.ref 1 0]]=some (.pan (Zx e),[.var [.ref 1 0],.var (Zi P k 2 0 xs.length++[.lst false (r.map Zc)]),.row 0 1 (xs.map g),.var [.ref 1 0]]))
include hP hN hk
def H3 (P:List AVal) (k n:Nat) (l:Zb) (ys:List AVal):Za:=[.var (Zi P k 3 0 n++[.lst false (l.map Zc)]),.var [.ref 0 0],.var [.ref 0 0],.row 0 1 ys]
theorem Zby (r g n:Nat) (L:Zb):Zr (Zi P k r g n++[.lst false (L.map Zc)])=[r]:=by
 rw [ZcA,Zi,Ziq hN (by omega)];rfl
theorem ZaQ (r g n r' g':Nat) (L:Zb) (ρ:Rho) (h:ρ r g=some (r',g')):Zf ρ (Zi P k r g n++[.lst false (L.map Zc)])=Zi P k r' g' n++[.lst false (L.map Zc)]:=by
 rw [ZbP,Zi,Zje ρ hN,Zi]
 simp only [Zl,h,Zf]
include hf hby hlen hT1 hF1
theorem ZuS:∀ (n:Nat) (l:Zb) (xs:List α),l.length<=n->n+xs.length<=1099511627776 ->
  (∀ ts,ZaL one n l=.ok ts->ZaZ 3 [(1,.fn f [.ref 1 0,.ref 2 0]),(0,.ref 0 0)] (H3 P k xs.length l (xs.map g))=some (.tup [],H3 P k (xs++ts).length [] ((xs++ts).map g))) /\
  (∀ e,ZaL one n l=.error e->∃ (xs':List α) (r:Zb),ZaZ 3 [(1,.fn f [.ref 1 0,.ref 2 0]),(0,.ref 0 0)] (H3 P k xs.length l (xs.map g))=some (.pan (Zx e),H3 P k xs'.length r (xs'.map g))):=by
 intro n
 induction n with
 | zero =>
  intro l xs hl hx
  have l0:l=[]:=List.eq_nil_of_length_eq_zero (by omega)
  subst l0
  refine ⟨fun ts h=>?_,fun e h=>by simp [ZaL] at h⟩
  have : ts=[]:=by simpa [ZaL] using h.symm
  subst this
  rw [List.append_nil]
  have hL:=ZbW P hP hN k hk xs.length 3 0
  have b2:=Zas _ hL
  have hO:=ZkA (w:=1) (xs:=xs.map g) (r:=.tup []) rfl (Zby P hP hN hk 3 0 xs.length []) (fun ρ h=>ZaQ P hP hN hk 3 0 xs.length 3 0 [] ρ h)
  unfold H3 ZaZ
  rw [Zaa]
  generalize Zi P k 3 0 xs.length=Q at *
  generalize xs.map g=ys at *
  simp -implicitDefEqProofs only [EQA,Nat.reduceAdd,Nat.reduceLT,Nat.reduceEqDiff,Nat.reduceBEq,reduceCtorEq,decide_eq_true_eq,ite_self,↓reduceIte,ZkI,ZdS,Zc6,oI,b2]
  exact hO _
 | succ n ih =>
  intro l xs hl hx
  have hL:=ZbW P hP hN k hk xs.length 3 0
  have b2:=Zas _ hL
  by_cases l0:l.length=0
  ·have l0:l=[]:=List.eq_nil_of_length_eq_zero l0
   subst l0
   refine ⟨fun ts h=>?_,fun e h=>by simp [ZaL] at h⟩
   have : ts=[]:=by simpa [ZaL] using h.symm
   subst this
   rw [List.append_nil]
   have hO:=ZkA (w:=1) (xs:=xs.map g) (r:=.tup []) rfl (Zby P hP hN hk 3 0 xs.length []) (fun ρ h=>ZaQ P hP hN hk 3 0 xs.length 3 0 [] ρ h)
   unfold H3 ZaZ
   rw [Zaa]
   generalize Zi P k 3 0 xs.length=Q at *
   generalize xs.map g=ys at *
   simp -implicitDefEqProofs only [EQA,Nat.reduceAdd,Nat.reduceLT,Nat.reduceEqDiff,Nat.reduceBEq,reduceCtorEq,decide_eq_true_eq,ite_self,↓reduceIte,ZkI,ZdS,Zc6,oI,b2]
   exact hO _
  ·have z1:((l.length:Nat):Int) > 0:=by omega
   have z2:(0:Int) < ((l.length:Nat):Int):=by omega
   cases ho:one l with
   | error e =>
    refine ⟨fun ts h=>by simp [ZaL,l0,ho] at h,fun e' h=>?_⟩
    have : e'=e:=by simpa [ZaL,l0,ho] using h.symm
    subst this
    obtain ⟨r,hE⟩:=hF1 xs l e' (by omega) ho
    have hC:=Zvm (O:=E) (bf:=BY) (cs:=Zi P k 3 0 xs.length++[.lst false (l.map Zc)]) (cs3:=Zi P k 3 0 xs.length++[.lst false (r.map Zc)]) hby (Zby P hP hN hk 3 0 xs.length l) (fun ρ h=>ZaQ P hP hN hk 3 0 xs.length 2 0 l ρ h) (q:=.pan (Zx e')) rfl (by omega) (fun ρ h=>ZaQ P hP hN hk 2 0 xs.length 3 0 r ρ h) hE
    have hO:=ZkA (w:=1) (xs:=xs.map g) (r:=.pan (Zx e')) rfl (Zby P hP hN hk 3 0 xs.length r) (fun ρ h=>ZaQ P hP hN hk 3 0 xs.length 3 0 r ρ h)
    refine ⟨xs,r,?_⟩
    unfold H3 ZaZ
    rw [Zaa]
    clear hE hT1 hF1 ih
    generalize Zi P k 3 0 xs.length=Q at *
    generalize xs.map g=ys at *
    generalize Zx e'=ce at *
    simp -implicitDefEqProofs only [EQA,Nat.reduceAdd,Nat.reduceLT,Nat.reduceEqDiff,Nat.reduceBEq,reduceCtorEq,↓reduceIte,ZdS,Zc6,oI,b2,hC,hf,z1]
    exact hO _
   | ok s =>
    obtain ⟨s,r⟩:=s
    have hr:=hlen ho
    have hE:=hT1 xs l s r (by omega) (by omega) ho
    have hC:=Zvm (O:=E) (bf:=BY) (cs:=Zi P k 3 0 xs.length++[.lst false (l.map Zc)]) (cs3:=Zi P k 3 1 (xs.length+1)++[.lst false (r.map Zc)]) hby (Zby P hP hN hk 3 0 xs.length l) (fun ρ h=>ZaQ P hP hN hk 3 0 xs.length 2 0 l ρ h) (q:=.tup []) rfl (by omega) (fun ρ h=>ZaQ P hP hN hk 2 1 (xs.length+1) 3 1 r ρ h) hE
    have hG:=ZtW (f:=f) (w:=1) (xs:=(xs++[s]).map g) (g:=1) (Zby P hP hN hk 3 1 (xs.length+1) r) (by omega) (fun ρ h=>ZaQ P hP hN hk 3 1 (xs.length+1) 3 0 r ρ h)
    have step:ZaZ 3 [(1,.fn f [.ref 1 0,.ref 2 0]),(0,.ref 0 0)] (H3 P k xs.length l (xs.map g))=ZaZ 3 [(1,.fn f [.ref 1 0,.ref 2 0]),(0,.ref 0 0)] (H3 P k (xs++[s]).length r ((xs++[s]).map g)):=by
     rw [show (xs++[s]).length=xs.length+1 from by simp]
     unfold H3
     conv=>lhs;unfold ZaZ
     conv=>rhs;unfold ZaZ
     conv=>lhs;rw [Zaa]
     clear hE hT1 hF1 ih
     generalize Zi P k 3 0 xs.length=Q at *
     generalize Zi P k 3 1 (xs.length+1)=Q2 at *
     generalize Zi P k 3 0 (xs.length+1)=Q3 at *
     generalize xs.map g=ys at *
     generalize (xs++[s]).map g=zs at *
     simp -implicitDefEqProofs only [EQA,Z4,Nat.reduceAdd,Nat.reduceLT,Nat.reduceEqDiff,Nat.reduceBEq,reduceCtorEq,↓reduceIte,ZdS,Zc6,oI,b2,hC,hG,hf,z1]
    obtain ⟨i1,i2⟩:=ih r (xs++[s]) (by omega) (by simp;omega)
    refine ⟨fun ts h=>?_,fun e h=>?_⟩
    ·rw [step]
     simp only [ZaL,l0,ho,if_false] at h
     cases hl2:ZaL one n r with
     | error e=>rw [hl2] at h;cases h
     | ok us =>
      rw [hl2] at h
      injection h with h;subst h
      have:=i1 us hl2
      rw [List.append_assoc,List.singleton_append] at this
      exact this
    ·rw [step]
     simp only [ZaL,l0,ho,if_false] at h
     cases hl2:ZaL one n r with
     | error e2 =>
      rw [hl2] at h
      injection h with h;subst h
      exact i2 e2 hl2
     | ok us=>rw [hl2] at h;cases h
end
end
section
open Go.RowKit
def Zfx (m i j:Nat) (rs:List ZcH) (σ:Za):Option (AVal×Za):=match resA [(3,.ref j 0),(2,.ref i 0)] σ rs with
 | some r=>Zam m σ r
 | none=>none
noncomputable def ZfT (fs:Nat->Option ZD) (prim:Zcq) (bf:Nat->Bool) (tc:Nat) (c2 c3:Ze) (rs:List ZcH) (m:Nat) (tm1:Tms) (σ1:Za) (i j:Nat):Option (AVal×Za) :=
 match evC fs prim bf σ1.length c2 tm1 σ1 with
 | some (.ret,_,σ2)=>Zfx m i j rs σ2
 | some (.panic (.iface t x),_,σ2)=>if t=tc then match evC fs prim bf σ1.length c3 [(10,x),(1,.ref j 0),(0,.ref i 0)] σ2 with
  | some (.normal,_,σ3)=>Zfx m i j rs σ3
  | _=>none
  else none
 | _=>none
noncomputable def ZhJ (fs:Nat->Option ZD) (prim:Zcq) (bf:Nat->Bool) (tc:Nat) (c1 c2 c3:Ze) (rs:List ZcH) (args:List AVal) (σ:Za):Option (AVal×Za) :=
 match evC fs prim bf σ.length c1 (enterA 0 args []) σ with
 | some (.normal,tm1,σ1)=>match tget tm1 2,tget tm1 3 with
  | .ref i 0,.ref j 0=>if σ.length<=σ1.length/\i < σ1.length/\j < σ1.length then ZfT fs prim bf tc c2 c3 rs σ.length (tput tm1 (some 5) .top) σ1 i j else none
  | _,_=>none
 | _=>none
structure ZjH (P:Program) (f h:FuncId) (ti tc:TypeId) (an1 an2 an3:Ann) (c1 c2 c3:Ze) (rs:List ZcH):Prop where
 ex:∃ (F H:Func) (b1 b2 b3 b4:Code) (i0 j0 j1 j2 j3 bid:Nat) (t1 t2 t3 t4 t5 t6 t7 t8:TypeId) (p1 p2 p3 p4 p5 p6 p7 p8:String) (a1 a2 a3 a4 a5 a6 a7 a8:Array Edge) (at1 at2:Array TypeId) (ims:Array (String×TypeId)) (k:IntKind),
  P.funcs[f]?=some F/\(F.name == "runtime.NumGoroutine")=false/\F.ntmps=20/\ZeI P F.results.toList=some rs /\
  F.body=some (.seq b1 (.seq (.region i0 #[⟨some 5,.makeFunc (.func h) #[] #[.tmp 2,.tmp 3],t1,p1,a1,none⟩,⟨none,.defer ⟨.value (.tmp 5),#[],at1⟩,t2,p2,a2,none⟩] false) b2)) /\
  Zcz (ZaU P an1 b1)=c1/\Zcz (ZaU P an2 b2)=c2/\an1.nt=20/\an2.nt=20/\an2.keep=[2,3] /\
  P.funcs[h]?=some H/\(H.name == "runtime.NumGoroutine")=false/\H.ntmps=13/\H.results=#[] /\
  H.body=some (.seq (.region j0 #[⟨some 5,.call ⟨.builtin .recover,#[],at2⟩,t3,p3,a3,none⟩] false) (.block bid (.seq (.region j1 #[⟨some 7,.binOp .eql ti (.tmp 5) (.const .nilIface) ti,t4,p4,a4,none⟩] false)
   (.cond (.tmp 7) (.region j2 #[⟨some 2,.assign (.tmp 5),t5,p5,a5,none⟩] false)
    (.seq (.region j3 #[⟨some 8,.typeAssert (.tmp 5) ti tc true,t6,p6,a6,none⟩,⟨some 9,.extract (.tmp 8) 1,t7,p7,a7,none⟩,⟨some 10,.extract (.tmp 8) 0,t8,p8,a8,none⟩] false)
     (.cond (.tmp 9) b3 b4)))))) /\
  Zcz (ZaU P an3 b3)=c3/\an3.nt=13/\P.underlying ti=some (.interface ims)/\P.underlying tc=some (.int k)
section
variable {P:Program} {O:ZO} {bf:Nat->Bool} {base:Nat->Prop} {w0 w:World} {I0 I:Imm} {β:Bmap} {σ:Za}
theorem ZhC {m:Nat} {I':Imm} {β':Bmap} {i:Nat} {v:Value} (hk:KeptE m β β') (hi:i < m) (h:VR I β (.ref i 0) v):VR I' β' (.ref i 0) v:=by
 simp only [VR] at h ⊢
 obtain ⟨b,k,c,h1,h2⟩:=h
 exact ⟨b,k,c,hk i hi _ h1,h2⟩
theorem Zwh {F:Func} {rs:List ZcH} (hrs:ZeI P F.results.toList=some rs) {m i j:Nat} {tmps:Array Value} {I':Imm} {β':Bmap} {σ' σ2:Za} {w':World} {r:AVal} (hI:I.le I') (hk:KeptE m β β') (R:Rel base w0 I0 I' β' σ2 w') (h2:VR I' β' (.ref i 0) (tmps.getD 2 undef)) (h3:VR I' β' (.ref j 0) (tmps.getD 3 undef)) (h:Zfx m i j rs σ2=some (r,σ')) :
  ∃ v,(results F tmps).run P w'=.ok v w'/\∃ u,Ends r (.returned v) u/\ZbS m base w0 I0 I β r σ' u w':=by
 unfold Zfx at h
 split at h
 ·rename_i x hx
  have T:TR I' β' [(3,.ref j 0),(2,.ref i 0)] tmps:=by
   intro n
   simp only [tget]
   split
   ·rename_i e;subst e;exact h3
   ·split
    ·rename_i e;subst e;exact h2
    ·simp only [VR]
  obtain ⟨v,q1,q2⟩:=ZsB T R hrs hx
  have hnp:∀ y,x≠.pan y:=by rintro y rfl;simp only [VR] at q2
  obtain ⟨p1,p2⟩:=Zj6 (⟨I',β',hI,hk,R,by rw [ZfC hnp];exact q2⟩:ZbS m base w0 I0 I β x σ2 v w') h
  refine ⟨v,q1,v,p2 _ ?_,p1⟩
  cases x <;> first | rfl | exact absurd rfl (hnp _)
 ·cases h
theorem pgs {a:Act} {d:Nat} {u:Value} (h:d < a.tmps.size):(a.put (some d) u).tmps.getD d undef=u:=by
 simp [Act.put,Array.getD,h]
theorem Zg8 {m:Sem Value} {u:Value} (h:m.run P w=.ok u w):(do let q <-m;pure (Next.value q):Sem Next).run P w=.ok (.value u) w:=by
 rw [Sem.run_bind,h];rfl
theorem pgn {a:Act} {d j:Nat} {u:Value} (h:d≠j):(a.put (some d) u).tmps.getD j undef=a.tmps.getD j undef:=by
 simp only [Act.put,Array.getD_eq_getD_getElem?]
 rw [Array.getElem?_setIfInBounds_ne h]
theorem ZyX (hm:P.follows .mixedOrders=true) (hO:ZaE P O) {f h:FuncId} {ti tc:TypeId} {an1 an2 an3:Ann} {c1 c2 c3:Ze} {rs:List ZcH} (D:ZjH P f h ti tc an1 an2 an3 c1 c2 c3 rs) (hb:KLt base w0) (R:Rel base w0 I0 I β σ w)
  {i j m n:Nat} {x:AVal} {v2 v3 v:Value} (h2:VR I β (.ref i 0) v2) (h3:VR I β (.ref j 0) v3) (hv:VR I β x v) {tm':Tms} {σ':Za} (hx:Z5 O bf m n c3 [(10,x),(1,.ref j 0),(0,.ref i 0)] σ=some (.normal,tm',σ')) :
  CallsD P h #[v2,v3] (.panicking [{ v:=.iface tc v,recovered:=false }]) w fun e u' w'=>e=.returned (.tuple #[])/\u'=.panicking [{ v:=.iface tc v,recovered:=true }]/\∃ I' β',I.le I'/\KeptE m β β'/\Rel base w0 I0 I' β' σ' w':=by
 obtain ⟨F,H,b1,b2,b3,b4,i0,j0,j1,j2,j3,bid,t1,t2,t3,t4,t5,t6,t7,t8,p1,p2,p3,p4,p5,p6,p7,p8,a1,a2,a3,a4,a5,a6,a7,a8,at1,at2,ims,k,hF,hname,hnt,hrs,hbody,hc1,hc2,hn1,hn2,hk2,hH,hHname,hHn,hHr,hHb,hc3,hn3,hti,htc⟩:=D.ex
 refine callsD_of_wpS hH hHb fun c₀ cs hu=>?_
 apply wpS_seq
 apply wpS_region
 simp [wpOpsS,go_sem,recoverD,hu,hHn,Exit.thenS]
 refine wpS_of_wp ?_
 generalize hT:(#[v2,v3]++(Array.replicate 11 undef).setIfInBounds 3 (Value.iface tc v))=T
 have hs:T.size=13:=by rw [<-hT];simp
 have hT0:T.getD 0 undef=v2:=by rw [<-hT];simp [Array.getD]
 have hT1:T.getD 1 undef=v3:=by rw [<-hT];simp [Array.getD]
 have hT5:T.getD 5 undef=.iface tc v:=by rw [<-hT];simp [Array.getD]
 clear hT
 refine wp_block (wp_seq (wp_region_list (ZeF rfl ?_)))
 unfold Oper.wp
 have e1:∀ o:Oper,o.op=.binOp .eql ti (.tmp 5) (.const .nilIface) ti->(execOp ({ tmps:=T,defers:=[] }:Act).eval o).run P w=.ok (.value (.bool false)) w:=by
  intro o ho
  unfold execOp;rw [ho]
  simp only [Act.eval,hT5]
  exact Zg8 (ZsP (P:=P) (w:=w) (t1:=tc) (u:=v) hti false (op:=.eql) (.tmp 5) .nilIface rfl)
 rw [e1 _ rfl,Oper.upon_value]
 refine wpList_nil ?_
 simp only [Exit.then]
 refine wp_cond_false (by simp only [Act.eval];exact pgs (by simp [hs])) ?_
 refine wp_seq (wp_region_list (ZeF rfl ?_))
 unfold Oper.wp
 generalize hA1:({ tmps:=T,defers:=[] }:Act).put (some 7) (.bool false)=A1
 have hs1:A1.tmps.size=13:=by rw [<-hA1,Zer];exact hs
 have g1:∀ j,j≠7->A1.tmps.getD j undef=T.getD j undef:=by intro j hj;rw [<-hA1];exact pgn (by omega)
 have hd1:A1.defers=[]:=by rw [<-hA1];rfl
 have e2:∀ o:Oper,o.op=.typeAssert (.tmp 5) ti tc true->(execOp A1.eval o).run P w=.ok (.value (.tuple #[v,.bool true])) w:=by
  intro o ho
  unfold execOp;rw [ho]
  simp only [Act.eval,g1 5 (by omega),hT5]
  refine Zg8 ?_
  simp [Instr.typeAssert,underlying,htc]
 rw [e2 _ rfl,Oper.upon_value]
 generalize hA2:A1.put (some 8) (.tuple #[v,.bool true])=A2
 have hs2:A2.tmps.size=13:=by rw [<-hA2,Zer];exact hs1
 have g2:∀ j,j≠8->A2.tmps.getD j undef=A1.tmps.getD j undef:=by intro j hj;rw [<-hA2];exact pgn (by omega)
 have g28:A2.tmps.getD 8 undef=.tuple #[v,.bool true]:=by rw [<-hA2];exact pgs (by omega)
 have hd2:A2.defers=[]:=by rw [<-hA2];exact hd1
 refine ZeF rfl ?_
 unfold Oper.wp
 have e3:∀ o:Oper,o.op=.extract (.tmp 8) 1->(execOp A2.eval o).run P w=.ok (.value (.bool true)) w:=by
  intro o ho
  unfold execOp;rw [ho]
  simp only [Act.eval,g28]
  refine Zg8 ?_
  simp [Instr.extract]
 rw [e3 _ rfl,Oper.upon_value]
 generalize hA3:A2.put (some 9) (.bool true)=A3
 have hs3:A3.tmps.size=13:=by rw [<-hA3,Zer];exact hs2
 have g3:∀ j,j≠9->A3.tmps.getD j undef=A2.tmps.getD j undef:=by intro j hj;rw [<-hA3];exact pgn (by omega)
 have g39:A3.tmps.getD 9 undef=.bool true:=by rw [<-hA3];exact pgs (by omega)
 have hd3:A3.defers=[]:=by rw [<-hA3];exact hd2
 refine ZeF rfl ?_
 unfold Oper.wp
 have e4:∀ o:Oper,o.op=.extract (.tmp 8) 0->(execOp A3.eval o).run P w=.ok (.value v) w:=by
  intro o ho
  unfold execOp;rw [ho]
  simp only [Act.eval,g3 8 (by omega),g28]
  refine Zg8 ?_
  simp [Instr.extract]
 rw [e4 _ rfl,Oper.upon_value]
 generalize hA4:A3.put (some 10) v=A4
 have hs4:A4.tmps.size=13:=by rw [<-hA4,Zer];exact hs3
 have g4:∀ j,j≠10->A4.tmps.getD j undef=A3.tmps.getD j undef:=by intro j hj;rw [<-hA4];exact pgn (by omega)
 have g410:A4.tmps.getD 10 undef=v:=by rw [<-hA4];exact pgs (by omega)
 have hd4:A4.defers=[]:=by rw [<-hA4];exact hd3
 refine wpList_nil ?_
 simp only [Exit.then]
 refine wp_cond_true (by simp only [Act.eval];rw [g4 9 (by omega),g39]) ?_
 have hst:StF ZbK m an3.nt base w0 I0 I β [(10,x),(1,.ref j 0),(0,.ref i 0)] σ A4 w:=by
  refine ⟨I,β,Imm.le.refl I,KeptE.refl _ β,fun n=>?_,⟨Zfk.2 hd4,by rw [hs4,hn3];omega⟩,R⟩
  simp only [tget]
  split
  ·rename_i e;subst e;rw [g410];exact hv
  ·split
   ·rename_i e;subst e;rw [g4 1 (by omega),g3 1 (by omega),g2 1 (by omega),g1 1 (by omega),hT1];exact h3
   ·split
    ·rename_i e;subst e;rw [g4 0 (by omega),g3 0 (by omega),g2 0 (by omega),g1 0 (by omega),hT0];exact h2
    ·simp only [VR]
 rw [<-hc3,Zec] at hx
 refine ZiW (dr:=ZbK) (an:=an3) hO (fun n hn=>by simp [ZbK] at hn) hm hb m n rfl hst hx ?_
 intro a' w' ⟨I',β',k1,k2,k3,k4,k5⟩
 simp only [Exit.inBlock,bodyPostS]
 refine ⟨Zfk.1 k4.1,_,rfl,.tuple #[],?_,rfl,rfl,I',k1,β',k2,k5⟩
 simp [results,hHr]
theorem Zzh {f h:FuncId} {ti tc:TypeId} {an1 an2 an3:Ann} {c1 c2 c3:Ze} {rs:List ZcH} (D:ZjH P f h ti tc an1 an2 an3 c1 c2 c3 rs) {v2 v3:Value} {w:World} :
  CallsD P h #[v2,v3] .returning w fun e u' w'=>e=.returned (.tuple #[])/\u'=.returning/\w'=w:=by
 obtain ⟨F,H,b1,b2,b3,b4,i0,j0,j1,j2,j3,bid,t1,t2,t3,t4,t5,t6,t7,t8,p1,p2,p3,p4,p5,p6,p7,p8,a1,a2,a3,a4,a5,a6,a7,a8,at1,at2,ims,k,hF,hname,hnt,hrs,hbody,hc1,hc2,hn1,hn2,hk2,hH,hHname,hHn,hHr,hHb,hc3,hn3,hti,htc⟩:=D.ex
 refine callsD_of_wpS hH hHb fun c₀ cs hu=>?_
 apply wpS_seq
 apply wpS_region
 simp [wpOpsS,go_sem,recoverD,hu,hHn,Exit.thenS]
 refine wpS_of_wp ?_
 generalize hT:(#[v2,v3]++(Array.replicate 11 undef).setIfInBounds 3 Value.nilIface)=T
 have hs:T.size=13:=by rw [<-hT];simp
 have hT5:T.getD 5 undef=.nilIface:=by rw [<-hT];simp [Array.getD]
 clear hT
 refine wp_block (wp_seq (wp_region_list (ZeF rfl ?_)))
 unfold Oper.wp
 have e1:∀ o:Oper,o.op=.binOp .eql ti (.tmp 5) (.const .nilIface) ti->(execOp ({ tmps:=T,defers:=[] }:Act).eval o).run P w=.ok (.value (.bool true)) w:=by
  intro o ho
  unfold execOp;rw [ho]
  simp only [Act.eval,hT5]
  exact Zg8 (Ztf (P:=P) (w:=w) hti false (op:=.eql) (.tmp 5) .nilIface rfl)
 rw [e1 _ rfl,Oper.upon_value]
 refine wpList_nil ?_
 simp only [Exit.then]
 refine wp_cond_true (by simp only [Act.eval];exact pgs (by simp [hs])) ?_
 refine wp_region_list (ZeF rfl ?_)
 unfold Oper.wp
 generalize hA1:({ tmps:=T,defers:=[] }:Act).put (some 7) (.bool true)=A1
 have g1:∀ j,j≠7->A1.tmps.getD j undef=T.getD j undef:=by intro j hj;rw [<-hA1];exact pgn (by omega)
 have hd1:A1.defers=[]:=by rw [<-hA1];rfl
 have e2:∀ o:Oper,o.op=.assign (.tmp 5)->(execOp A1.eval o).run P w=.ok (.value .nilIface) w:=by
  intro o ho
  unfold execOp;rw [ho]
  simp [Act.eval,g1 5 (by omega),hT5]
 rw [e2 _ rfl,Oper.upon_value]
 refine wpList_nil ?_
 simp only [Exit.inBlock,bodyPostS]
 refine ⟨hd1,.returning,?_,.tuple #[],?_,rfl,rfl,trivial⟩
 ·cases c₀;simp_all
 ·simp [results,hHr]
end
section
variable {P:Program} {fs:Nat->Option ZD} {prim:Zcq} {bf:Nat->Bool}
theorem Zye (hm:P.follows .mixedOrders=true) (hO:∀ n,ZaE P (Zau fs prim bf n)) {f h:FuncId} {ti tc:TypeId} {an1 an2 an3:Ann} {c1 c2 c3:Ze} {rs:List ZcH} (D:ZjH P f h ti tc an1 an2 an3 c1 c2 c3 rs)
  {args:List AVal} {σ σ':Za} {r:AVal} (hg:ZhJ fs prim bf tc c1 c2 c3 rs args σ=some (r,σ')) :
  (∃ fn,P.funcs[f]?=some fn/\fn.body.isSome=true/\(fn.name == "runtime.NumGoroutine")=false) /\
  ∀ base w0 I0 I β w (vs:Array Value),KLt base w0->Rel base w0 I0 I β σ w->VRs I β args vs.toList ->
   Calls P f vs w (fun e w'=>∃ u,Ends r e u/\ZbS σ.length base w0 I0 I β r σ' u w'):=by
 obtain ⟨F,H,b1,b2,b3,b4,i0,j0,j1,j2,j3,bid,t1,t2,t3,t4,t5,t6,t7,t8,p1,p2,p3,p4,p5,p6,p7,p8,a1,a2,a3,a4,a5,a6,a7,a8,at1,at2,ims,k,hF,hname,hnt,hrs,hbody,hc1,hc2,hn1,hn2,hk2,hH,hHname,hHn,hHr,hHb,hc3,hn3,hti,htc⟩:=D.ex
 refine ⟨⟨F,hF,by rw [hbody];rfl,hname⟩,?_⟩
 intro base w0 I0 I β w vs hb R hargs
 unfold ZhJ at hg
 split at hg
 case h_2=>cases hg
 rename_i tm1 σ1 hx1
 split at hg
 case h_2=>cases hg
 rename_i i j hi hj
 split at hg
 case isFalse=>cases hg
 rename_i hlen
 obtain ⟨hl0,hli,hlj⟩:=hlen
 obtain ⟨n1,hx1⟩:=Zbl.1 hx1
 rw [<-hc1,Zec] at hx1
 refine calls_of_wp_defers hF hbody ?_
 have T:=ZoO hargs (F.ntmps - vs.size)
 have hst:StF ZbK σ.length an1.nt base w0 I0 I β (enterA 0 args []) σ { tmps:=vs++Array.replicate (F.ntmps - vs.size) undef,defers:=[] } w:=⟨I,β,Imm.le.refl I,KeptE.refl _ β,T,⟨Zfk.2 rfl,by rw [hn1];simp;omega⟩,R⟩
 refine wp_seq ?_
 refine ZiW (dr:=ZbK) (an:=an1) (hO n1) (fun n hn=>by simp [ZbK] at hn) hm hb σ.length n1 rfl hst hx1 ?_
 rintro A0 w1 ⟨I1,β1,g1,g2,T1,⟨gd,gs⟩,R1⟩
 have gd:=Zfk.1 gd
 rw [hn1] at gs
 simp only [Exit.then]
 refine wp_seq (wp_region_list (ZeF rfl ?_))
 unfold Oper.wp
 have e1:∀ o:Oper,o.op=.makeFunc (.func h) #[] #[.tmp 2,.tmp 3]->(execOp A0.eval o).run P w1=.ok (.value (.func (.func h) #[] #[A0.tmps.getD 2 undef,A0.tmps.getD 3 undef])) w1:=by
  intro o ho
  unfold execOp;rw [ho]
  refine Zg8 ?_
  simp [Instr.makeFunc,Act.eval]
 rw [e1 _ rfl,Oper.upon_value]
 generalize hv2:A0.tmps.getD 2 undef=v2
 generalize hv3:A0.tmps.getD 3 undef=v3
 have hr2:VR I1 β1 (.ref i 0) v2:=by rw [<-hv2,<-hi];exact T1 2
 have hr3:VR I1 β1 (.ref j 0) v3:=by rw [<-hv3,<-hj];exact T1 3
 generalize hA1:A0.put (some 5) (.func (.func h) #[] #[v2,v3])=A1
 have hs1:A1.tmps.size=A0.tmps.size:=by rw [<-hA1,Zer]
 have q1:∀ j,j≠5->A1.tmps.getD j undef=A0.tmps.getD j undef:=by intro j hj;rw [<-hA1];exact pgn (by omega)
 have q5:A1.tmps.getD 5 undef=.func (.func h) #[] #[v2,v3]:=by rw [<-hA1];exact pgs (by omega)
 have hd1:A1.defers=[]:=by rw [<-hA1];exact gd
 refine ZeF rfl ?_
 unfold Oper.wp
 have e2:∀ o:Oper,o.op=.defer ⟨.value (.tmp 5),#[],at1⟩->(execOp A1.eval o).run P w1=.ok (.defer ⟨.fn (.func h) #[v2,v3],#[]⟩) w1:=by
  intro o ho
  unfold execOp;rw [ho]
  simp [resolve,Act.eval,q5,Deferred.ofValue]
 rw [e2 _ rfl,Oper.upon_defer]
 refine wpList_nil ?_
 simp only [Exit.then]
 generalize hd:(⟨.fn (.func h) #[v2,v3],#[]⟩:Deferred)=d
 have hA2:({ A1 with defers:=d::A1.defers }:Act).put none undef={ A1 with defers:=[d] }:=by rw [hd1];rfl
 rw [hA2]
 let dr:Door:=⟨[d],[2,3],fun n=>if n=2 then v2 else v3⟩
 have hdr:dr.ok { A1 with defers:=[d] }:=by
  refine ⟨rfl,fun j hj=>?_⟩
  simp only [dr,List.mem_cons,List.not_mem_nil,or_false] at hj
  rcases hj with rfl | rfl
  ·show A1.tmps.getD 2 undef=_;rw [q1 2 (by omega),hv2];rfl
  ·show A1.tmps.getD 3 undef=_;rw [q1 3 (by omega),hv3];rfl
 have T2:TR I1 β1 (tput tm1 (some 5) .top) A1.tmps:=by
  rw [<-hA1]
  exact Zqj T1 (by simp only [VR]) (fun n hn=>by injection hn with hn;omega)
 unfold ZfT at hg
 have hst2:StF dr σ1.length an2.nt base w0 I0 I1 β1 (tput tm1 (some 5) .top) σ1 { A1 with defers:=[d] } w1:=⟨I1,β1,Imm.le.refl I1,KeptE.refl _ β1,T2,⟨hdr,by rw [hn2];show 20<=A1.tmps.size;omega⟩,R1⟩
 have lift:∀ {I':Imm} {β':Bmap},I1.le I'->KeptE σ1.length β1 β'->I.le I'/\KeptE σ.length β β':=fun h1 h2=>⟨g1.trans h1,g2.trans (fun t ht bi e=>h2 t (by omega) bi e)⟩
 have hinv:∀ w:World,(invoke (.fn (.func h) #[v2,v3]) #[]).run P w=.ok (.enter h #[v2,v3]) w:=fun w=>by
  unfold invoke
  simpa using ZjV (args:=#[v2,v3]) (w:=w) hH (by rw [hHb];rfl) hHname
 have tm2:∀ {A:Act},dr.ok A->A.tmps.getD 2 undef=v2/\A.tmps.getD 3 undef=v3:=fun hA=>⟨hA.2 2 (by simp [dr]),hA.2 3 (by simp [dr])⟩
 split at hg
 case h_3=>cases hg
 ·rename_i tmx σ2 hx2
  obtain ⟨n2,hx2⟩:=Zbl.1 hx2
  rw [<-hc2,Zec] at hx2
  refine ZiW (dr:=dr) (an:=an2) (hO n2) (fun n hn=>by rw [hk2];exact hn) hm hb σ1.length n2 rfl hst2 hx2 ?_
  rintro A3 w3 ⟨I3,β3,k1,k2,T3,⟨kd,ks⟩,R3⟩
  show Leaves P F A3.tmps _ A3.defers .returning w3
  rw [kd.1]
  show Leaves P F A3.tmps _ [d] .returning w3
  rw [<-hd]
  refine leaves_cons (f:=h) (args:=#[v2,v3]) (by simp) (hinv w3) ?_
  refine (Zzh D).mono ?_
  rintro e u' w' ⟨rfl,rfl,rfl⟩
  simp only [settle,Leaves]
  obtain ⟨l1,l2⟩:=lift k1 k2
  exact Zwh hrs l1 l2 R3 (by rw [(tm2 kd).1];exact ZhC k2 hli hr2) (by rw [(tm2 kd).2];exact ZhC k2 hlj hr3) hg
 ·rename_i t x tmx σ2 hx2
  split at hg
  case isFalse=>cases hg
  rename_i ht
  subst ht
  split at hg
  case h_2=>cases hg
  rename_i tmy σ3 hx3
  obtain ⟨n2,hx2⟩:=Zbl.1 hx2
  rw [<-hc2,Zec] at hx2
  obtain ⟨n3,hx3⟩:=Zbl.1 hx3
  refine ZiW (dr:=dr) (an:=an2) (hO n2) (fun n hn=>by rw [hk2];exact hn) hm hb σ1.length n2 rfl hst2 hx2 ?_
  rintro A3 u w3 kd ⟨I3,β3,k1,k2,R3,kv⟩
  simp only [ZaT,VR] at kv
  obtain ⟨v,rfl,kv⟩:=kv
  show Leaves P F A3.tmps _ A3.defers (.panicking [{ v:=.iface t v,recovered:=false }]) w3
  rw [kd.1]
  show Leaves P F A3.tmps _ [d] _ w3
  rw [<-hd]
  refine leaves_cons (f:=h) (args:=#[v2,v3]) (by simp) (hinv w3) ?_
  refine (ZyX hm (hO n3) D hb R3 (ZhC k2 hli hr2) (ZhC k2 hlj hr3) kv hx3).mono ?_
  rintro e u' w' ⟨rfl,rfl,I4,β4,m1,m2,R4⟩
  simp only [settle,List.dropWhile,Leaves]
  have k3:=k2.trans m2
  obtain ⟨l1,l2⟩:=lift (k1.trans m1) k3
  exact Zwh hrs l1 l2 R4 (by rw [(tm2 kd).1];exact ZhC k3 hli hr2) (by rw [(tm2 kd).2];exact ZhC k3 hlj hr3) hg
end
section
variable {fs:Nat->Option ZD} {p p':Zcq} {bf:Nat->Bool}
theorem Zuo (h0:∀ f,p f=none->p' f=none) (h1:∀ f g,p f=some g->p' f=some g\/∀ a σ,g a σ=none):∀ n,OLe (Zau fs p bf n) (Zau fs p' bf n)
 | 0=>by intro f a σ r h;simp only [Zau] at h;cases h
 | n+1=>by
  intro f a σ r h
  rw [Zau] at h ⊢
  split at h
  ·rename_i g hg
   rcases h1 f g hg with h2 | h2
   ·rw [h2];exact h
   ·rw [h2] at h;cases h
  ·rename_i hg
   rw [h0 f hg]
   split at h
   ·cases h
   ·rename_i fn hfn
    exact ZlO (fun q hq=>ZdC (Zuo h0 h1 n) (Nat.le_refl n) hq) h
theorem ZEY (h0:∀ f,p f=none->p' f=none) (h1:∀ f g,p f=some g->p' f=some g\/∀ a σ,g a σ=none):OLe (EV fs p bf) (EV fs p' bf):=by
 intro f a σ r h
 obtain ⟨n,hn⟩:=Zdo.1 h
 exact Zdo.2 ⟨n,Zuo h0 h1 n f a σ r hn⟩
end
end
section
open Go.Shelf
def ZKT:Ren:=⟨fun | 137=>114 | 217=>119 | 266=>120 | n=>n,fun | 9=>9 | 5=>5 | 3=>3 | n=>n,fun | n=>n⟩
theorem ZIj:Go.Proofs.Lays.n137 Tryz.prog ZKT:={ mixed:=by kernel_rfl,f137:=Tryz.func114.trans (congrArg some (by kernel_rfl)),f217:=Tryz.func119.trans (congrArg some (by kernel_rfl)),f266:=Tryz.func120.trans (congrArg some (by kernel_rfl)),t3:=Tryz.underlying3,a3:=Tryz.isAgg3,z3:=Tryz.sizeOf3,v3:=Tryz.zeroValue3,t5:=Tryz.underlying5,a5:=Tryz.isAgg5,z5:=Tryz.sizeOf5,v5:=Tryz.zeroValue5,t9:=Tryz.underlying9,a9:=Tryz.isAgg9,z9:=Tryz.sizeOf9,v9:=Tryz.zeroValue9 }
def ZKw:Ren:=⟨fun | 217=>119 | 266=>120 | n=>n,fun | 9=>9 | 5=>5 | 3=>3 | n=>n,fun | n=>n⟩
theorem ZKt:Go.Proofs.Lays.n217 Tryz.prog ZKw:={ mixed:=by kernel_rfl,f217:=Tryz.func119.trans (congrArg some (by kernel_rfl)),f266:=Tryz.func120.trans (congrArg some (by kernel_rfl)),t3:=Tryz.underlying3,a3:=Tryz.isAgg3,z3:=Tryz.sizeOf3,v3:=Tryz.zeroValue3,t5:=Tryz.underlying5,a5:=Tryz.isAgg5,z5:=Tryz.sizeOf5,v5:=Tryz.zeroValue5,t9:=Tryz.underlying9,a9:=Tryz.isAgg9,z9:=Tryz.sizeOf9,v9:=Tryz.zeroValue9 }
section
open Go.Shelf
end
end
section
open Go.Shelf
def ZGc:Ren:=⟨fun | 196=>100 | 259=>113 | n=>n,fun | 9=>9 | 4=>4 | 3=>3 | 5=>5 | 12=>12 | 119=>169 | 0=>0 | 46=>81 | 139=>172 | 138=>171 | 53=>119 | n=>n,fun | 3=>1 | 4=>2 | n=>n⟩
theorem Zwn:Go.Proofs.Lays.n196 Tryz.prog ZGc:={ mixed:=by kernel_rfl,f196:=Tryz.func100.trans (congrArg some (by kernel_rfl)),f259:=Tryz.func113.trans (congrArg some (by kernel_rfl)),t0:=Tryz.underlying0,a0:=Tryz.isAgg0,z0:=Tryz.sizeOf0,v0:=Tryz.zeroValue0,t3:=Tryz.underlying3,a3:=Tryz.isAgg3,z3:=Tryz.sizeOf3,v3:=Tryz.zeroValue3,t4:=Tryz.underlying4,a4:=Tryz.isAgg4,z4:=Tryz.sizeOf4,v4:=Tryz.zeroValue4,t5:=Tryz.underlying5,a5:=Tryz.isAgg5,z5:=Tryz.sizeOf5,v5:=Tryz.zeroValue5,t9:=Tryz.underlying9,a9:=Tryz.isAgg9,z9:=Tryz.sizeOf9,v9:=Tryz.zeroValue9,t12:=Tryz.underlying12,a12:=Tryz.isAgg12,z12:=Tryz.sizeOf12,v12:=Tryz.zeroValue12,t46:=Tryz.underlying81,a46:=Tryz.isAgg81,z46:=Tryz.sizeOf81,v46:=Tryz.zeroValue81,t53:=Tryz.underlying119,a53:=Tryz.isAgg119,z53:=Tryz.sizeOf119,v53:=Tryz.zeroValue119,t119:=Tryz.underlying169,a119:=Tryz.isAgg169,z119:=Tryz.sizeOf169,t138:=Tryz.underlying171,a138:=Tryz.isAgg171,z138:=Tryz.sizeOf171,v138:=Tryz.zeroValue171,t139:=Tryz.underlying172,a139:=Tryz.isAgg172,z139:=Tryz.sizeOf172,v139:=Tryz.zeroValue172,g3:=by kernel_rfl,g4:=by kernel_rfl }
end
section
set_option maxRecDepth 100000
theorem Zjk:Tryz.prog.follows .mixedOrders=true:=by kernel_rfl
theorem ZzJ:Znt Tryz.prog 22 1 1 (.int .u8 0) 15:=⟨_,_,_,_,_,_,_,_,_,_,_,rfl,rfl,rfl,by kernel_rfl,rfl,rfl,rfl,rfl,rfl,rfl,rfl,rfl,by kernel_rfl,by kernel_rfl,⟨_,_,_,_,rfl⟩,rfl,by decide⟩
theorem ZGD:Znt Tryz.prog 23 5 72 (.agg [.int .i64 0,.int .i64 0,.str [],.str [],.lst true []]) 36:=⟨_,_,_,_,_,_,_,_,_,_,_,rfl,rfl,rfl,by kernel_rfl,rfl,rfl,rfl,rfl,rfl,rfl,rfl,rfl,by kernel_rfl,by kernel_rfl,⟨_,_,_,_,rfl⟩,rfl,by decide⟩
theorem Zth {α:Type} {d v:α}:∀ {l:List (Nat×α)} {n:Nat},Zez d l n=v->v=d\/(n,v) ∈ l
 | [],n,h=>Or.inl h.symm
 | (k,w)::r,n,h=>by
  simp only [Zez] at h
  split at h
  ·rename_i e;subst e h;exact Or.inr (by simp)
  ·rcases Zth h with h | h
   ·exact Or.inl h
   ·exact Or.inr (by simp [h])
theorem Zwi:Zky Tryz.prog PR:=by
 intro f g h args σ r σ' hg
 rcases Zth h with h | h
 ·cases h
 unfold Zs6 at h
 simp only [List.mem_cons,Prod.mk.injEq,Option.some.injEq,List.not_mem_nil,or_false] at h
 rcases h with ⟨rfl,rfl⟩ | h
 ·exact ZvW Zjk ZzJ hg
 rcases h with ⟨rfl,rfl⟩ | h
 ·exact ZvW Zjk ZGD hg
 rcases h with ⟨rfl,rfl⟩ | h
 ·exact ZrP ⟨Tryz.f114,Tryz.func114,by kernel_rfl,by kernel_rfl⟩ (fun s c w=>Any.strings_IndexByte ZIj s c w) hg
 rcases h with ⟨rfl,rfl⟩ | h
 ·exact ZrP ⟨Tryz.f119,Tryz.func119,by kernel_rfl,by kernel_rfl⟩ (fun s c w=>Any.stringslite_IndexByte ZKt s c w) hg
 rcases h with ⟨rfl,rfl⟩ | h
 ·exact ZOb ⟨Tryz.f100,Tryz.func100,by kernel_rfl,by kernel_rfl⟩ (fun s w hs hT=>Any.utf8_ValidString Zwn s w hs hT) hg
 rcases h with ⟨rfl,rfl⟩ | h
 ·exact ZvS hg
 rcases h with ⟨rfl,rfl⟩ | h
 ·exact ZvS hg
 exact absurd h.2 (by simp)
end
section
def ZbM:Nat:=70368744177664
def Zie (args:List AVal) (σ:Za):Option (AVal×Za):=match args,σ with
 | [.ref 0 0,.lst _ ys],[.var [.lst true [],.int .i64 0,.int .i8 _]] =>
  if ys.length<=ZbM/\kOk 1 ys=true then some (.tup [.int .i64 ys.length,.nili],[.var [.sl 1 0 0 ys.length,.int .i64 0,.int .i8 0],.row 0 1 ys]) else none
 | [.ref 0 0,.lst _ ys],[.var [.sl 1 g 0 m,.int .i64 0,.int .i8 _],.row g' 1 xs] =>
  if g=g'/\m=xs.length/\xs.length+ys.length<=ZbM/\kOk 1 ys=true then some (.tup [.int .i64 ys.length,.nili],[.var [.sl 1 (g+1) 0 (xs++ys).length,.int .i64 0,.int .i8 0],.row (g+1) 1 (xs++ys)]) else none
 | _,_=>none
end
section
set_option maxRecDepth 100000
def c1R:Ze :=  (.region [⟨(some 1),(.box (.t 0)),none,[]⟩,⟨(some 2),(.alloc [(.int .i64 0),(.bool false),(.int .i64 0),(.bool false),(.int .i64 0),(.str []),(.lst true []),(.int .i64 0),(.lst true []),(.lst true []),(.lst true []),(.lst true []),(.bool false),(.int .i64 0),(.str []),(.bool false),(.str []),(.lst true []),(.int .i64 0),(.bool false),(.lst true []),(.bool false),(.str []),(.bool false),(.lst true []),(.bool false)]),none,[]⟩,⟨(some 3),(.alloc [(.int .i64 0)]),none,[]⟩] none [3,2,1])
def c2R:Ze:=(.seq (.region [⟨(some 6),(.faddr 1 (.t 1)),none,[]⟩,⟨(some 7),(.ld none (.t 6)),none,[]⟩,⟨(some 8),(.build [(.int .i64 0),(.bool false),(.int .i64 0),(.bool false),(.int .i64 0),(.str []),(.lst true []),(.int .i64 0),(.lst true []),(.lst true []),(.lst true []),(.lst true []),(.bool false),(.int .i64 0),(.str []),(.bool false),(.str []),(.lst true []),(.int .i64 0),(.bool false),(.lst true []),(.bool false),(.str []),(.bool false),(.lst true []),(.bool false),(.lst true [])] [(26,1,(.t 7))]),none,[]⟩,⟨(some 9),(.box (.t 8)),none,[]⟩,⟨(some 4),(.mov (.t 9)),none,[]⟩] none [4,3,2,1]) (.seq (.region [⟨(some 10),(.mov (.t 4)),none,[]⟩,⟨(some 11),(.faddr 0 (.t 1)),none,[]⟩,⟨(some 12),(.ld none (.t 11)),none,[]⟩,⟨(some 13),(.call 47 0 true [(.t 10),(.t 12)]),none,[]⟩] none [4,3,2]) (.seq (.region [⟨(some 14),(.mov (.t 4)),none,[]⟩,⟨(some 15),(.call 48 1 true [(.t 14)]),none,[]⟩] none [4,3,2]) (.seq (.region [⟨(some 16),(.mov (.t 4)),none,[]⟩,⟨(some 17),(.nilchk (.t 16)),none,[]⟩,⟨(some 18),(.faddr 0 (.t 17)),none,[]⟩,⟨(some 19),(.ld (some 26) (.t 18)),none,[]⟩,⟨none,(.st 26 (.t 2) (.t 19)),none,[]⟩,⟨none,(.st 1 (.t 3) (.c (.int .i64 0))),none,[]⟩] none [3,2]) .ret))))
def c3R:Ze:=(.seq (.region [⟨(some 3),(.mov (.t 10)),none,[]⟩] none [3,1,0]) (.region [⟨(some 11),(.build [(.int .i64 0),(.bool false),(.int .i64 0),(.bool false),(.int .i64 0),(.str []),(.lst true []),(.int .i64 0),(.lst true []),(.lst true []),(.lst true []),(.lst true []),(.bool false),(.int .i64 0),(.str []),(.bool false),(.str []),(.lst true []),(.int .i64 0),(.bool false),(.lst true []),(.bool false),(.str []),(.bool false),(.lst true []),(.bool false)] []),none,[]⟩,⟨(some 12),(.mov (.t 3)),none,[]⟩,⟨none,(.st 26 (.t 0) (.t 11)),none,[]⟩,⟨none,(.st 1 (.t 1) (.t 12)),none,[]⟩] none []))
def rsR:List ZcH:=[(.cell 2 (some 26)),(.cell 3 none)]
def ZFJ:Ann:={ nt:=20,lr:=fun _=>[3,2,1] }
def ZFO:Ann:={ ann 29 with nt:=20,keep:=[2,3],cfg:=fun f=>if f=48 then (1,true) else (0,true) }
def ZEw:Ann:={ ann 46 with nt:=13 }
theorem ZOL:ZjH Tryz.prog 29 46 20 29 ZFJ ZFO ZEw c1R c2R c3R rsR :=
 ⟨_,_,_,_,_,_,_,_,_,_,_,_,_,_,_,_,_,_,_,_,_,_,_,_,_,_,_,_,_,_,_,_,_,_,_,_,_,_,#[],.i64,rfl,by kernel_rfl,rfl,by kernel_rfl,rfl,by kernel_rfl,by kernel_rfl,rfl,rfl,rfl,rfl,by kernel_rfl,rfl,rfl,rfl,by kernel_rfl,rfl,by kernel_rfl,by kernel_rfl⟩
noncomputable def ZeM:List AVal->Za->Option (AVal×Za):=ZhJ FC PR BY 29 c1R c2R c3R rsR
noncomputable def PR1:Zcq:=fun f=>if f=29 then some ZeM else if f=43 then some Zie else PR f
noncomputable abbrev E1:ZO:=EV FC PR1 BY
theorem ZEM:OLe E E1:=by
 refine ZEY (fun f hf=>?_) (fun f g hg=>?_)
 ·unfold PR1
  rw [if_neg (by rintro rfl;revert hf;decide),if_neg (by rintro rfl;revert hf;decide)]
  exact hf
 ·by_cases h1:f=29
  ·subst h1
   have : PR 29=some ZiN:=by rfl
   rw [this] at hg;injection hg with hg;subst hg
   exact Or.inr fun _ _=>rfl
  by_cases h2:f=43
  ·subst h2
   have : PR 43=some ZiN:=by rfl
   rw [this] at hg;injection hg with hg;subst hg
   exact Or.inr fun _ _=>rfl
  refine Or.inl ?_
  unfold PR1
  rw [if_neg h1,if_neg h2]
  exact hg
theorem Zbv {f:Nat} {fn:ZD} (hp:PR1 f=none) (hf:FC f=some fn) (args:List AVal) (σ:Za):E1 f args σ=Zat σ.length fn (evC FC PR1 BY σ.length fn.body (enterA 0 args []) σ):=Zro hp hf args σ
theorem ZgB (args:List AVal) (σ:Za):E1 29 args σ=ZeM args σ:=Zvp (by rfl) args σ
theorem Zs0 (args:List AVal) (σ:Za):E1 43 args σ=Zie args σ:=Zvp (by rfl) args σ
theorem Zyw {args:List AVal} {σ σ':Za} {r:AVal} (hg:ZeM args σ=some (r,σ')) :
  (∃ fn,Tryz.prog.funcs[29]?=some fn/\fn.body.isSome=true/\(fn.name == "runtime.NumGoroutine")=false) /\
  ∀ base w0 I0 I β w (vs:Array Value),KLt base w0->Rel base w0 I0 I β σ w->VRs I β args vs.toList ->
   Calls Tryz.prog 29 vs w (fun e w'=>∃ u,Ends r e u/\ZbS σ.length base w0 I0 I β r σ' u w') :=
 Zye Zjk (fun n=>by
  have h:Zau FC PR BY n=Zau CF PR BY n:=Zrk CF PR BY n
  rw [h]
  exact ZnC Zjk Zwi ann BY n) ZOL hg
end
section
def P0:List AVal:=[.int .i64 0,.bool false,.int .i64 0,.bool false,.int .i64 0,.str [],.lst true [],.int .i64 0,.lst true [],.lst true [],.lst true [],.lst true [],.bool false,.int .i64 0,.str [],.bool false,.str [],.lst true [],.int .i64 0,.bool false,.lst true [],.bool false,.str [],.bool false,.lst true [],.bool false]
def tmR:Tms:=[(3,.ref 2 0),(2,.ref 1 0),(1,.ref 0 0)]
def σR (b:Int) (l:Zb):Za:=[.var [.int .u8 b,.lst false (l.map Zc)],.var P0,.var [.int .i64 0]]
theorem Zni (b:Int) (l:Zb):evC FC PR BY 0 c1R (enterA 0 [.agg [.int .u8 b,.lst false (l.map Zc)]] []) []=some (.normal,tmR,σR b l):=by
 unfold tmR σR P0
 simp -implicitDefEqProofs only [EQA,Nat.reduceAdd,Nat.reduceLT,Nat.reduceEqDiff,Nat.reduceBEq,↓reduceIte,c1R,AVal.cells]
theorem ZzS (b:Int) (l:Zb) {P1 Q:List AVal} {L:AVal} (h1:P1.length=26) (n1:Zd P1=true) (hQ:Q.length=26) (nQ:Zd Q=true) (oQ:Q.all ZR=true) (nL:ZK L=true)
  (hf:E 47 [.ref 0 0,.int .u8 b] (Zh P0 l)=some (.tup [],Zh P1 l)) (hb:E 48 [.ref 0 0] (Zh P1 l)=some (.tup [],[.var (Q++[L])])) :
  evC FC PR BY 3 c2R (tput tmR (some 5) .top) (σR b l)=some (.ret,[(3,.ref 2 0),(2,.ref 1 0)],[.var [.int .u8 b,.lst false (l.map Zc)],.var Q,.var [.int .i64 0],.var (Q++[L]),.free]):=by
 have hF:=fun (σ:Za) sq (hs:σ[3]?=some (.var (P0++[.lst false (l.map Zc)])))=>Zda (O:=E) (bf:=BY) (f:=47) (rest:=[.int .u8 b]) (by kernel_rfl) rfl (by rfl) (ZaD n1 (by rfl)) rfl rfl hf hs sq
 have hB:=fun (σ:Za) sq (hf:σ[sq]?=some .free) (hs:σ[3]?=some (.var (P1++[.lst false (l.map Zc)])))=>ZOC (own:=1) (O:=E) (bf:=BY) (f:=48) (rest:=[]) (by kernel_rfl) rfl (ZaD n1 (by rfl)) (ZaD nQ (by simp [Zd,nL])) rfl rfl hb hs sq (by simp [Za0,freeAt,hf])
 have b1:=Z6 Q hQ
 have b2:=ZeJ Q hQ
 unfold P0 at hF
 simp only [List.cons_append,List.nil_append] at hF
 unfold tmR σR P0
 simp -implicitDefEqProofs only [EQA,Za6,Nat.reduceAdd,Nat.reduceLT,Nat.reduceLeDiff,Nat.reduceEqDiff,Nat.reduceBEq,↓reduceIte,c2R,AVal.cells,Zae,hF,hB,b1,b2,hQ,oQ]
theorem ZjU (b:Int) (l:Zb) {cs:List AVal} {c:Int} (n1:Zd cs=true)
  (hf:E 47 [.ref 0 0,.int .u8 b] (Zh P0 l)=some (.pan (Zx c),[.var cs])) :
  evC FC PR BY 3 c2R (tput tmR (some 5) .top) (σR b l)=some (.panic (Zx c),[],[.var [.int .u8 b,.lst false (l.map Zc)],.var P0,.var [.int .i64 0],.var cs]):=by
 have hF:=fun (σ:Za) sq (hs:σ[3]?=some (.var (P0++[.lst false (l.map Zc)])))=>ZcB (O:=E) (bf:=BY) (f:=47) (view:=true) (rest:=[.int .u8 b]) (by kernel_rfl) rfl (by rfl) n1 rfl hf hs sq
 unfold P0 at hF
 simp only [List.cons_append,List.nil_append] at hF
 unfold tmR σR P0
 simp -implicitDefEqProofs only [EQA,Za6,Nat.reduceAdd,Nat.reduceLT,Nat.reduceLeDiff,Nat.reduceEqDiff,Nat.reduceBEq,↓reduceIte,c2R,AVal.cells,Zae,hF]
theorem ZuJ (b:Int) (l:Zb) {P1 cs:List AVal} {c:Int} (h1:P1.length=26) (n1:Zd P1=true) (n2:Zd cs=true)
  (hf:E 47 [.ref 0 0,.int .u8 b] (Zh P0 l)=some (.tup [],Zh P1 l)) (hb:E 48 [.ref 0 0] (Zh P1 l)=some (.pan (Zx c),[.var cs])) :
  evC FC PR BY 3 c2R (tput tmR (some 5) .top) (σR b l)=some (.panic (Zx c),[],[.var [.int .u8 b,.lst false (l.map Zc)],.var P0,.var [.int .i64 0],.var cs,.free]):=by
 have hF:=fun (σ:Za) sq (hs:σ[3]?=some (.var (P0++[.lst false (l.map Zc)])))=>Zda (O:=E) (bf:=BY) (f:=47) (rest:=[.int .u8 b]) (by kernel_rfl) rfl (by rfl) (ZaD n1 (by rfl)) rfl rfl hf hs sq
 have hB:=fun (σ:Za) sq (hf:σ[sq]?=some .free) (hs:σ[3]?=some (.var (P1++[.lst false (l.map Zc)])))=>ZMB (own:=1) (O:=E) (bf:=BY) (f:=48) (view:=true) (rest:=[]) (by kernel_rfl) rfl (ZaD n1 (by rfl)) n2 rfl hb hs sq (by simp [Za0,freeAt,hf])
 unfold P0 at hF
 simp only [List.cons_append,List.nil_append] at hF
 unfold tmR σR P0
 simp -implicitDefEqProofs only [EQA,Za6,Nat.reduceAdd,Nat.reduceLT,Nat.reduceLeDiff,Nat.reduceEqDiff,Nat.reduceBEq,↓reduceIte,c2R,AVal.cells,Zae,hF,hB]
theorem ZzT (b c:Int) (l:Zb) (τ:Za):evC FC PR BY 3 c3R [(10,.int .i64 c),(1,.ref 2 0),(0,.ref 1 0)] (.var [.int .u8 b,.lst false (l.map Zc)]::.var P0::.var [.int .i64 0]::τ)=some (.normal,[],.var [.int .u8 b,.lst false (l.map Zc)]::.var P0::.var [.int .i64 c]::τ):=by
 unfold P0
 simp -implicitDefEqProofs only [EQA,Nat.reduceAdd,Nat.reduceLT,Nat.reduceLeDiff,Nat.reduceEqDiff,reduceCtorEq,↓reduceIte,c3R,AVal.cells,Zae,ZR]
theorem ZvT (b c:Int) (l:Zb) {Q:List AVal} (τ:Za) (hQ:Q.length=26) (nQ:Zd Q=true):Zfx 0 1 2 rsR (.var [.int .u8 b,.lst false (l.map Zc)]::.var Q::.var [.int .i64 c]::τ)=some (.tup [.agg Q,.int .i64 c],[]):=by
 have h1:resA [(3,.ref 2 0),(2,.ref 1 0)] (.var [.int .u8 b,.lst false (l.map Zc)]::.var Q::.var [.int .i64 c]::τ) rsR=some (.tup [.agg Q,.int .i64 c]):=by
  have h2:Q.take 26=Q:=List.take_of_length_le (by omega)
  simp [resA,resAll,resOne,rsR,tget,ldA,partA,hQ,h2]
 unfold Zfx
 rw [h1]
 generalize (.var [.int .u8 b,.lst false (l.map Zc)]::.var Q::.var [.int .i64 c]::τ:Za)=σ
 have e1:=ZaV (Zn σ 0 []) Q nQ
 have hr:Zr [AVal.tup [.agg Q,.int .i64 c]]=[]:=by simp [Zr,ZZ,e1.2]
 have hi:ZA 0 [AVal.tup [.agg Q,.int .i64 c]] σ=[]:=by
  simp only [ZA,hr,List.nil_append,List.range_zero,List.flatMap_nil]
  rfl
 simp [Zam,gcA,hi,Zf,Zl,e1.1,Zu]
theorem Zsg (b:Int) (l:Zb) {P1 Q:List AVal} {L:AVal} (h1:P1.length=26) (n1:Zd P1=true) (hQ:Q.length=26) (nQ:Zd Q=true) (oQ:Q.all ZR=true) (nL:ZK L=true)
  (hf:E 47 [.ref 0 0,.int .u8 b] (Zh P0 l)=some (.tup [],Zh P1 l)) (hb:E 48 [.ref 0 0] (Zh P1 l)=some (.tup [],[.var (Q++[L])])) :
  ZeM [.agg [.int .u8 b,.lst false (l.map Zc)]] []=some (.tup [.agg Q,.int .i64 0],[]):=by
 unfold ZeM ZhJ
 show (match evC FC PR BY 0 c1R (enterA 0 [.agg [.int .u8 b,.lst false (l.map Zc)]] []) [] with | some (.normal,tm1,σ1)=>_ | _=>none)=_
 rw [Zni]
 show (if (0:Nat)<=(σR b l).length/\1 < (σR b l).length/\2 < (σR b l).length then ZfT FC PR BY 29 c2R c3R rsR 0 (tput tmR (some 5) .top) (σR b l) 1 2 else none)=_
 rw [if_pos (by simp [σR])]
 unfold ZfT
 rw [show (σR b l).length=3 from rfl,ZzS b l h1 n1 hQ nQ oQ nL hf hb]
 exact ZvT b 0 l _ hQ nQ
theorem ZgX (b c:Int) (l:Zb) {τ:Za} (h:evC FC PR BY 3 c2R (tput tmR (some 5) .top) (σR b l)=some (.panic (Zx c),[],.var [.int .u8 b,.lst false (l.map Zc)]::.var P0::.var [.int .i64 0]::τ)) :
  ZeM [.agg [.int .u8 b,.lst false (l.map Zc)]] []=some (.tup [.agg P0,.int .i64 c],[]):=by
 unfold ZeM ZhJ
 show (match evC FC PR BY 0 c1R (enterA 0 [.agg [.int .u8 b,.lst false (l.map Zc)]] []) [] with | some (.normal,tm1,σ1)=>_ | _=>none)=_
 rw [Zni]
 show (if (0:Nat)<=(σR b l).length/\1 < (σR b l).length/\2 < (σR b l).length then ZfT FC PR BY 29 c2R c3R rsR 0 (tput tmR (some 5) .top) (σR b l) 1 2 else none)=_
 rw [if_pos (by simp [σR])]
 unfold ZfT
 rw [show (σR b l).length=3 from rfl,h]
 show (if (29:Nat)=29 then (match evC FC PR BY 3 c3R [(10,.int .i64 c),(1,.ref 2 0),(0,.ref 1 0)] _ with | some (.normal,_,σ3)=>Zfx 0 1 2 rsR σ3 | _=>none) else none)=_
 rw [if_pos rfl,ZzT]
 exact ZvT b c l _ rfl (by rfl)
end
section
theorem Zz5 (a b:Zm):E 80 [Zj a,Zj b] []=some (.bool (a.id == b.id && a.num == b.num && a.text == b.text && a.pair == b.pair && a.data == b.data),[]):=by
 rw [Zg (by rfl) ZP3]
 simp -implicitDefEqProofs only [EQA,ZE,Z4,Zdt,ZjQ,Nat.reduceAdd,Nat.reduceLT,Nat.reduceEqDiff,Nat.reduceBEq,Zci,ZF,Zaw,unG,reduceCtorEq,ZU,ite_self,↓reduceIte,ZEy,Zow,ZA1,oI,ZJ,Zj,Zbu]
theorem ZD2 (a b:Zm):E 24 [Zj a,Zj b] []=some (.bool (a.id == b.id && a.num == b.num && a.text == b.text && a.pair == b.pair && a.data == b.data),[]):=by
 rw [Zg (by rfl) ZyQ]
 simp -implicitDefEqProofs only [EQA,ZE,Z4,Zdt,ZjQ,Nat.reduceAdd,Nat.reduceLT,Nat.reduceEqDiff,Nat.reduceBEq,Zci,ZF,Zaw,unG,reduceCtorEq,ZU,ite_self,↓reduceIte,ZBx,Zoe,ZNJ,oI,ZJ,Zj,Zbu]
theorem Zwb (a b:Zm):(a.id == b.id && a.num == b.num && a.text == b.text && a.pair == b.pair && a.data == b.data)=(a == b):=by
 obtain ⟨i,n,t,p,d⟩:=a
 obtain ⟨i',n',t',p',d'⟩:=b
 rw [Bool.eq_iff_iff]
 simp [and_assoc]
theorem Zte (a:Zm):Z7 (Zj a)=true:=by
 simp -implicitDefEqProofs only [eq_self,Bool.and_self,List.all_cons,List.all_nil,Zwk,Ztz,Zuh,Ztw,Zj,Zbu,ZJ]
theorem Zsj (a:Zm):ZG (Zj a)=Zj a:=by
 simp -implicitDefEqProofs only [eq_self,List.map_cons,List.map_nil,Zwy,Zrm,ZvP,ZwF,Zj,Zbu,ZJ]
theorem Zyv (σ:Za) (sq own:Nat) (view:Bool) (i n:Int) (t p d:Zb) (i' n':Int) (t' p' d':Zb):Zk E BY σ sq 80 own view [.agg [.int .i64 i,.int .i64 n,.str t,.str p,.lst false (d.map Zc)],.agg [.int .i64 i',.int .i64 n',.str t',.str p',.lst false (d'.map Zc)]]=some (.bool (i == i' && n == n' && t == t' && p == p' && d == d'),σ,{}) :=
 Zcp (Zz5 ⟨i,n,t,p,d⟩ ⟨i',n',t',p',d'⟩) (by kernel_rfl) (by simp only [List.all_cons,Zte];rfl) (by simp only [List.map_cons,Zsj];rfl) rfl (fun _=>rfl) _ _ _ _
theorem ZP2 (σ:Za) (sq own:Nat) (view:Bool) (i n:Int) (t p d:Zb) (i' n':Int) (t' p' d':Zb):Zk E BY σ sq 24 own view [.agg [.int .i64 i,.int .i64 n,.str t,.str p,.lst false (d.map Zc)],.agg [.int .i64 i',.int .i64 n',.str t',.str p',.lst false (d'.map Zc)]]=some (.bool (i == i' && n == n' && t == t' && p == p' && d == d'),σ,{}) :=
 Zcp (ZD2 ⟨i,n,t,p,d⟩ ⟨i',n',t',p',d'⟩) (by kernel_rfl) (by simp only [List.all_cons,Zte];rfl) (by simp only [List.map_cons,Zsj];rfl) rfl (fun _=>rfl) _ _ _ _
theorem Zr0 (a b:List Zm) (h:a.length=b.length) (hl:a.length<=9223372036854775807):∀ (r s:List Zm) (i:Nat),a.drop i=r->b.drop i=s->ZmB 0 [(17,.int .i64 i),(16,.int .i64 a.length),(15,Zaz a),(2,.fn 80 []),(1,Zaz b)] []=some (.bool (r == s),[])
 | [],s,i,ha,hb=>by
  have hs:s=[]:=by
   subst hb;rw [List.drop_eq_nil_iff] at ha ⊢;omega
  subst hs
  have h1:=Zc2 ha
  unfold ZmB
  rw [Zaa]
  simp -implicitDefEqProofs only [EQA,Nat.reduceLT,Nat.reduceEqDiff,↓reduceIte,ZpU,ZyL,Zqp,Zwj,Zkv,oI,oN,Zaz,h1]
 | x::r,[],i,ha,hb=>by
  have:=(Z9 ha).2.2;rw [List.drop_eq_nil_iff] at hb;omega
 | x::r,y::s,i,ha,hb=>by
  have ih:=Zr0 a b h hl r s (i+1) (Z9 ha).2.1 (Z9 hb).2.1
  have h1:(i:Int) < a.length:=by have:=(Z9 ha).2.2;omega
  have e1:=iad (Z9 ha).1 Zj (k:=5) rfl
  have e2:=iad (Z9 hb).1 Zj (k:=5) rfl
  have e3:=Zdc h1 hl
  unfold ZmB at ih ⊢
  rw [Zaa]
  simp -implicitDefEqProofs only [EQA,ZE,Z4,Nat.reduceAdd,Nat.reduceLT,Nat.reduceLeDiff,Nat.reduceEqDiff,Nat.reduceBEq,unA,↓reduceIte,gcT,gcA,ZA,Zy,Zu,ZP,ZpU,Zwj,Zkv,oI,oN,ZJ,Zaz,Zj,Zbu,h1,e1,e2,e3,Zyv]
  simp only [Zaz] at ih
  rw [ih,Zwb]
  by_cases hx:x=y <;> simp [hx]
theorem ZLF (a b:List Zm) (hl:a.length<=9223372036854775807):E 79 [Zaz a,Zaz b,.fn 80 []] []=some (.bool (a == b),[]):=by
 rw [Zg (by rfl) Zyp]
 by_cases h:a.length=b.length
 ·have:=Zr0 a b h hl a b 0 rfl rfl
  unfold ZmB at this
  simp only [Zaz] at this
  have e:=Zis h
  simp -implicitDefEqProofs only [EQA,Z4,Nat.reduceAdd,Nat.reduceLT,Nat.reduceEqDiff,reduceCtorEq,↓reduceIte,gcT,gcA,ZA,Zy,Zu,ZP,Zs3,Zld,oI,Zaz,e]
  exact this
 ·have e:=Zjl h
  simp -implicitDefEqProofs only [EQA,Nat.reduceAdd,Nat.reduceLT,Nat.reduceEqDiff,reduceCtorEq,↓reduceIte,Zs3,Zld,ZpU,oI,Zaz,e,ZjF h]
theorem ZEu (σ:Za) (sq own:Nat) (view:Bool) (a b:List Zm) (hl:a.length<=9223372036854775807):Zk E BY σ sq 79 own view [.lst false (a.map Zj),.lst false (b.map Zj),.fn 80 []]=some (.bool (a == b),σ,{}) :=
 Zcp (ZLF a b hl) (by kernel_rfl) (by simp -implicitDefEqProofs only [ZcS,Zss,Zbq,eq_self,Zaz]) (by simp -implicitDefEqProofs only [ZE,Zbq,eq_self,Zaz]) rfl (fun _=>rfl) _ _ _ _
theorem ZMS (a b:List Zm) (hl:a.length<=9223372036854775807):E 52 [Zaz a,Zaz b] []=some (.bool (a == b),[]):=by
 rw [Zg (by rfl) Zzt]
 simp -implicitDefEqProofs only [EQA,Nat.reduceLT,Nat.reduceEqDiff,reduceCtorEq,↓reduceIte,ZOw,ZnN,ZNE,oI,Zaz,ZEu,hl]
theorem ZjI (σ:Za) (sq own:Nat) (view:Bool) (a b:List Zm) (hl:a.length<=9223372036854775807):Zk E BY σ sq 52 own view [.lst false (a.map Zj),.lst false (b.map Zj)]=some (.bool (a == b),σ,{}) :=
 Zcp (ZMS a b hl) (by kernel_rfl) (by simp -implicitDefEqProofs only [ZcS,Zbq,eq_self,Zaz]) (by simp -implicitDefEqProofs only [ZE,Zbq,eq_self,Zaz]) rfl (fun _=>rfl) _ _ _ _
theorem Ztm (a b:List Zm) (h:a.length=b.length) (hl:a.length<=9223372036854775807):∀ (r s:List Zm) (i:Nat),a.drop i=r->b.drop i=s->ZkV 0 [(5,.int .i64 i),(1,Zaz b),(0,Zaz a)] []=some (.bool (r == s),[])
 | [],s,i,ha,hb=>by
  have hs:s=[]:=by
   subst hb;rw [List.drop_eq_nil_iff] at ha ⊢;omega
  subst hs
  have h1:=Zc2 ha
  unfold ZkV
  rw [Zaa]
  simp -implicitDefEqProofs only [EQA,Nat.reduceLT,Nat.reduceEqDiff,reduceCtorEq,↓reduceIte,Zn3,ZNy,Zq4,Zrp,Zl8,oI,Zaz,h1]
 | x::r,[],i,ha,hb=>by
  have:=(Z9 ha).2.2;rw [List.drop_eq_nil_iff] at hb;omega
 | x::r,y::s,i,ha,hb=>by
  have ih:=Ztm a b h hl r s (i+1) (Z9 ha).2.1 (Z9 hb).2.1
  have h1:(i:Int) < a.length:=by have:=(Z9 ha).2.2;omega
  have e1:=iad (Z9 ha).1 Zj (k:=5) rfl
  have e2:=iad (Z9 hb).1 Zj (k:=5) rfl
  have e3:=Zdc h1 hl
  unfold ZkV at ih ⊢
  rw [Zaa]
  simp -implicitDefEqProofs only [EQA,ZE,Z4,Nat.reduceAdd,Nat.reduceLT,Nat.reduceLeDiff,Nat.reduceEqDiff,Nat.reduceBEq,unA,reduceCtorEq,↓reduceIte,gcT,gcA,ZA,Zy,Zu,ZP,Zn3,Zrp,Zl8,oI,ZJ,Zaz,Zj,Zbu,h1,e1,e2,e3,ZP2]
  simp only [Zaz] at ih
  rw [ih,Zwb]
  by_cases hx:x=y <;> simp [hx]
theorem ZGv (a b:List Zm) (hl:a.length<=9223372036854775807):E 16 [Zaz a,Zaz b] []=some (.bool (a == b),[]):=by
 rw [Zg (by rfl) ZAg]
 by_cases h:a.length=b.length
 ·have:=Ztm a b h hl a b 0 rfl rfl
  unfold ZkV at this
  simp only [Zaz] at this
  have e:=Zis h
  simp -implicitDefEqProofs only [EQA,Z4,Nat.reduceLT,Nat.reduceEqDiff,reduceCtorEq,↓reduceIte,gcT,gcA,ZA,Zy,Zu,ZP,Ztj,Zmo,oI,Zaz,e]
  exact this
 ·have e:=Zjl h
  simp -implicitDefEqProofs only [EQA,Nat.reduceLT,Nat.reduceEqDiff,reduceCtorEq,↓reduceIte,Ztj,Zmo,Zn3,oI,Zaz,e,ZjF h]
theorem Zsr (σ:Za) (sq own:Nat) (view:Bool) (a b:List Zm) (hl:a.length<=9223372036854775807):Zk E BY σ sq 16 own view [.lst false (a.map Zj),.lst false (b.map Zj)]=some (.bool (a == b),σ,{}) :=
 Zcp (ZGv a b hl) (by kernel_rfl) (by simp -implicitDefEqProofs only [ZcS,Zbq,eq_self,Zaz]) (by simp -implicitDefEqProofs only [ZE,Zbq,eq_self,Zaz]) rfl (fun _=>rfl) _ _ _ _
end
section
theorem Zzd (b:Zb):List.take b.length (b.map Zc)=b.map Zc:=List.take_of_length_le (by simp)
def ZC (x:Int):Nat:=(x % 18446744073709551616).toNat
theorem ZoC (x:Int):IntKind.u64.wrap x=((ZC x:Nat):Int):=by rw [IntKind.wrap_u64,ZC];omega
def Zb5 (k:Int) (p:Zm):Zb×Zb :=
 if k=1 then (beB (ZC p.num) 1,[]) else if k=2 then (beB (ZC p.num) 2,[]) else if k=3 then (beB (ZC p.num) 4,[])
 else if k=4 then ((Z2 p.num).1,[]) else if k=5 then ((Z3 p.text).1,[]) else if k=6 then ((Za2 p.data).1,[])
 else if k=7 then ((Z3 p.text).1,(Z3 p.pair).1) else ([],[])
def ZaJ (p:Zm):Zb:=(Z2 p.id).1++((Zb5 (Zbm p.id) p).1++(Zb5 (Zbm p.id) p).2)
theorem Zuy:∀ k n:Nat,(ZbV k n).length<=k+1
 | 0,n=>by simp [ZbV]
 | k+1,n=>by
  unfold ZbV
  split
  ·simp
  ·have:=Zuy k (n / 128)
   simp only [List.length_cons];omega
theorem Zgc (n:Int):(Z2 n).1.length<=4:=by
 unfold Z2
 split
 ·simp
 ·exact Zuy 3 _
theorem ZpH (b:Zb):(Za2 b).1.length<=65537:=by
 unfold Za2
 split
 ·simp
 ·simp only [List.length_append,ZaN];omega
theorem ZiO (b:Zb):(Z3 b).1.length<=65537:=by
 unfold Z3
 split
 ·exact ZpH b
 ·simp
theorem ZJH (k:Int) (p:Zm):(Zb5 k p).1.length<=65537/\(Zb5 k p).2.length<=65537:=by
 have h1:=Zgc p.num
 have h2:=ZiO p.text
 have h3:=ZiO p.pair
 have h4:=ZpH p.data
 unfold Zb5
 repeat' split
 all_goals simp only [ZaN,List.length_nil]
 all_goals omega
theorem Zlm (p:Zm):(ZaJ p).length<=200000:=by
 have h1:=Zgc p.id
 have h2:=ZJH (Zbm p.id) p
 unfold ZaJ
 simp only [List.length_append];omega
theorem ZhN (σ:Za) (sq own:Nat) (f:Bool) (a v w:Zb) (h:a.length+(v.length+w.length)<=140737488355328):Zk E BY σ sq 19 own true [.lst f [.lst false (a.map Zc),.lst false (v.map Zc),.lst false (w.map Zc)]]=some (.lst false ((a++(v++w)).map Zc),σ,{}):=by
 have:=Zhe σ sq own f a [v,w] (by simp) (by simpa using h)
 simpa only [List.map_cons,List.map_nil,ZJ,List.flatten_cons,List.flatten_nil,List.append_nil] using this
theorem Zpk (p:Zm) (k:Int) (W:Nat) (hk:Zbm p.id=k) (hW:(k=1/\W=1)\/(k=2/\W=2)\/(k=3/\W=4)):E 86 [Zj p] []=some (.lst false (((Z2 p.id).1++(beB (ZC p.num) W++[])).map Zc),[]):=by
 have hK:=fun σ sq own=>Zjp σ sq own p.id
 have hV:=fun σ sq own=>ZfN σ sq own p.id
 unfold Zet at hV
 have l0:=Zgc p.id
 have hP:=fun σ sq own=>Zlg σ sq own (ZC p.num) W (by omega) (by omega)
 have hJ:=fun σ sq own f=>ZhN σ sq own f (Z2 p.id).1 (beB (ZC p.num) W) [] (by simp only [ZaN,List.length_nil];omega)
 simp only [List.map_nil] at hJ
 have hu:=ZoC p.num
 rw [hk] at hK
 generalize beB (ZC p.num) W=B at *
 have z1:((1:Nat):Int)=1:=rfl
 have z2:((2:Nat):Int)=2:=rfl
 have z4:((4:Nat):Int)=4:=rfl
 rcases hW with ⟨rfl,rfl⟩ | ⟨rfl,rfl⟩ | ⟨rfl,rfl⟩
 ·have w1:IntKind.i64.wrap (1 - 1)=0:=rfl
  have w2:IntKind.i64.wrap (1*2 ^ min (Int.toNat 0) IntKind.i64.bits)=1:=rfl
  have ng:¬((0:Int) < 0):=by decide
  rw [z1] at hP
  rw [Zg (by rfl) Zgg]
  simp -implicitDefEqProofs only [EQA,Zq,Nat.reduceLT,Nat.reduceEqDiff,Nat.reduceBEq,ZaG,↓reduceIte,Zf6,ZeC,ZfR,oI,ZJ,Zj,Zbu,hK,hV,hP,hJ,hu,w1,w2,ng,viewAs,ZL,ZI,Zo,AVal.cells]
 ·have w1:IntKind.i64.wrap (2 - 1)=1:=rfl
  have w2:IntKind.i64.wrap (1*2 ^ min (Int.toNat 1) IntKind.i64.bits)=2:=rfl
  have ng:¬((1:Int) < 0):=by decide
  rw [z2] at hP
  rw [Zg (by rfl) Zgg]
  simp -implicitDefEqProofs only [EQA,Zq,Nat.reduceLT,Nat.reduceEqDiff,Nat.reduceBEq,ZaG,↓reduceIte,Zf6,ZeC,ZfR,oI,ZJ,Zj,Zbu,hK,hV,hP,hJ,hu,w1,w2,ng,Int.reduceBEq,viewAs,ZL,ZI,Zo,AVal.cells]
 ·have w1:IntKind.i64.wrap (3 - 1)=2:=rfl
  have w2:IntKind.i64.wrap (1*2 ^ min (Int.toNat 2) IntKind.i64.bits)=4:=rfl
  have ng:¬((2:Int) < 0):=by decide
  rw [z4] at hP
  rw [Zg (by rfl) Zgg]
  simp -implicitDefEqProofs only [EQA,Zq,Nat.reduceLT,Nat.reduceEqDiff,Nat.reduceBEq,ZaG,↓reduceIte,Zf6,ZeC,ZfR,oI,ZJ,Zj,Zbu,hK,hV,hP,hJ,hu,w1,w2,ng,Int.reduceBEq,viewAs,ZL,ZI,Zo,AVal.cells]
theorem ZD9 (p:Zm) (ht:p.text.length<=9223372036854775807) (hp:p.pair.length<=9223372036854775807) (hd:p.data.length<=9223372036854775807):E 86 [Zj p] []=some (.lst false ((ZaJ p).map Zc),[]):=by
 have hK:=fun σ sq own=>Zjp σ sq own p.id
 have hV:=fun σ sq own=>ZfN σ sq own p.id
 unfold Zet at hV
 have l0:=Zgc p.id
 unfold ZaJ
 rcases Zn9 p.id with hk | hk | hk | hk | hk | hk | hk | hk
 ·rw [hk] at hK ⊢
  rw [show Zb5 0 p=([],[]) from rfl,Zg (by rfl) Zgg]
  have hJ:=fun σ sq own f=>ZhN σ sq own f (Z2 p.id).1 [] [] (by simp only [List.length_nil];omega)
  simp only [List.map_nil] at hJ
  simp -implicitDefEqProofs only [EQA,Zq,Nat.reduceLT,Nat.reduceEqDiff,Nat.reduceBEq,↓reduceIte,Zf6,ZeC,ZfR,oI,ZJ,Zj,Zbu,hK,hV,hJ,Int.reduceBEq,viewAs,ZL,ZI,Zo,AVal.cells]
 ·have h:=Zpk p 1 1 hk (by simp)
  rw [hk];exact h
 ·have h:=Zpk p 2 2 hk (by simp)
  rw [hk];exact h
 ·have h:=Zpk p 3 4 hk (by simp)
  rw [hk];exact h
 ·rw [hk] at hK ⊢
  rw [show Zb5 4 p=((Z2 p.num).1,[]) from rfl,Zg (by rfl) Zgg]
  have l1:=Zgc p.num
  have hJ:=fun σ sq own f=>ZhN σ sq own f (Z2 p.id).1 (Z2 p.num).1 [] (by simp only [List.length_nil];omega)
  simp only [List.map_nil] at hJ
  have hV2:=fun σ sq own=>ZfN σ sq own p.num
  unfold Zet at hV2
  simp -implicitDefEqProofs only [EQA,Zq,Nat.reduceLT,Nat.reduceEqDiff,Nat.reduceBEq,↓reduceIte,Zf6,ZeC,ZfR,oI,ZJ,Zj,Zbu,hK,hV,hV2,hJ,Int.reduceBEq,viewAs,ZL,ZI,Zo,AVal.cells]
 ·rw [hk] at hK ⊢
  rw [show Zb5 5 p=((Z3 p.text).1,[]) from rfl,Zg (by rfl) Zgg]
  have l1:=ZiO p.text
  have hJ:=fun σ sq own f=>ZhN σ sq own f (Z2 p.id).1 (Z3 p.text).1 [] (by simp only [List.length_nil];omega)
  simp only [List.map_nil] at hJ
  have hV2:=fun σ sq own=>Zi5 σ sq own p.text ht
  unfold byT at hV2
  simp -implicitDefEqProofs only [EQA,Zq,Nat.reduceLT,Nat.reduceEqDiff,Nat.reduceBEq,↓reduceIte,Zf6,ZeC,ZfR,oI,ZJ,Zj,Zbu,hK,hV,hV2,hJ,Int.reduceBEq,viewAs,ZL,ZI,Zo,AVal.cells]
 ·rw [hk] at hK ⊢
  rw [show Zb5 6 p=((Za2 p.data).1,[]) from rfl,Zg (by rfl) Zgg]
  have l1:=ZpH p.data
  have hJ:=fun σ sq own f=>ZhN σ sq own f (Z2 p.id).1 (Za2 p.data).1 [] (by simp only [List.length_nil];omega)
  simp only [List.map_nil] at hJ
  have hV2:=fun σ sq own f=>Zps σ sq own f p.data hd
  unfold byT at hV2
  simp -implicitDefEqProofs only [EQA,Zq,Nat.reduceLT,Nat.reduceEqDiff,Nat.reduceBEq,↓reduceIte,Zf6,ZeC,ZfR,oI,ZJ,Zj,Zbu,hK,hV,hV2,hJ,Int.reduceBEq,viewAs,ZL,ZI,Zo,AVal.cells]
 ·rw [hk] at hK ⊢
  rw [show Zb5 7 p=((Z3 p.text).1,(Z3 p.pair).1) from rfl,Zg (by rfl) Zgg]
  have l1:=ZiO p.text
  have l2:=ZiO p.pair
  have hJ:=fun σ sq own f=>ZhN σ sq own f (Z2 p.id).1 (Z3 p.text).1 (Z3 p.pair).1 (by omega)
  have hV2:=fun σ sq own=>Zi5 σ sq own p.text ht
  have hV3:=fun σ sq own=>Zi5 σ sq own p.pair hp
  unfold byT at hV2 hV3
  simp -implicitDefEqProofs only [EQA,Zq,Nat.reduceLT,Nat.reduceEqDiff,Nat.reduceBEq,↓reduceIte,Zf6,ZeC,ZfR,oI,ZJ,Zj,Zbu,hK,hV,hV2,hV3,hJ,Int.reduceBEq,viewAs,ZL,ZI,Zo,AVal.cells]
def ZeX (p:Zm):Prop:=p.text.length<=9223372036854775807/\p.pair.length<=9223372036854775807/\p.data.length<=9223372036854775807
theorem Zr7 (σ:Za) (sq own:Nat) (p:Zm) (h:ZeX p):Zk E BY σ sq 86 own true [.agg [.int .i64 p.id,.int .i64 p.num,.str p.text,.str p.pair,.lst false (p.data.map Zc)]]=some (.lst false ((ZaJ p).map Zc),σ,{}) :=
 ZbB (ZD9 p h.1 h.2.1 h.2.2) (by kernel_rfl) rfl rfl rfl (fun _=>rfl) _ _ _
def Ze8 (w:Int) (l:List Zm) (b:Zb):Zb×Int :=
 if (Z2 b.length).2≠0 then ([],129)
 else if (ZV w ((Z2 b.length).1++b)).2.2≠0\/(ZV w ((Z2 b.length).1++b)).2.1≠((Z2 b.length).1++b).length\/((ZV w ((Z2 b.length).1++b)).1 == l)=false then ([],129)
 else ((Z2 b.length).1++b,0)
def Zap (w:Int) (l:List Zm):Zb×Int:=Ze8 w l (l.map ZaJ).flatten
theorem ZsV (σ:Za) (sq own:Nat) (f:Bool) (a v:Zb) (h:a.length+v.length<=140737488355328):Zk E BY σ sq 19 own true [.lst f [.lst false (a.map Zc),.lst false (v.map Zc)]]=some (.lst false ((a++v).map Zc),σ,{}):=by
 have:=Zhe σ sq own f a [v] (by simp) (by simpa using h)
 simpa only [List.map_cons,List.map_nil,ZJ,List.flatten_cons,List.flatten_nil,List.append_nil] using this
end
section
theorem Zrf (w:Int):∀ (n:Nat) (b:Zb) (l:List Zm),(ZdR w n b l).1.length<=l.length+b.length
 | n,[],l=>by rw [ZnA];simp
 | 0,c::r,l=>by simp [ZdR]
 | n+1,c::r,l=>by
  rw [Zpy]
  split
  ·rename_i h
   have hu:=Zt9 h
   have ih:=Zrf w n ((c::r).drop (ZbG w (c::r) l).2.1) (l++[(ZbG w (c::r) l).1])
   rw [List.length_drop,List.length_append,List.length_singleton] at ih
   omega
  ·simp
theorem ZyY (w:Int) (b:Zb):(ZV w b).1.length<=b.length:=by
 unfold ZV
 split
 ·simp
 ·split
  ·have:=Zrf w (ZS b).1 ((b.take ((ZS b).2.1+(ZS b).1)).drop (ZS b).2.1) []
   simp only [List.length_drop,List.length_take,List.length_nil] at this
   simp only
   omega
  ·simp
def okV (k:Int) (p:Zm):Bool :=
 if k=1 then decide (p.num>=0) && decide (p.num < 256) else if k=2 then decide (p.num>=0) && decide (p.num < 65536) else if k=3 then decide (p.num>=0) && decide (p.num < 4294967296)
 else if k=4 then (Z2 p.num).2 == 0 else if k=5 then (Z3 p.text).2 == 0 else if k=6 then (Za2 p.data).2 == 0
 else if k=7 then (Z3 p.text).2 == 0 && (Z3 p.pair).2 == 0 else false
def ZhF (p:Zm):Bool:=!(decide (p.id < 1) || decide (p.id > 127)) && okV (Zbm p.id) p
theorem ZLY {b:Zb} (h:b.length<=65535):(Za2 b).2=0:=by
 unfold Za2
 rw [if_neg (by omega)]
theorem Zxz {n:Nat} (h:n < 268435456):(Z2 (n:Int)).2=0:=by
 unfold Z2
 rw [if_neg (by omega)]
theorem ZG2 {id:Int} (h:Zd0 id):1<=id/\id<=127/\Zbm id≠0:=by
 rcases h with rfl | rfl | rfl | rfl | rfl | rfl | rfl | rfl | rfl | rfl | rfl | rfl | rfl | rfl | rfl | rfl | rfl | rfl | rfl | rfl | rfl | rfl | rfl | rfl | rfl | rfl | rfl
 all_goals decide
def Zgf (p:Zm):Zb:=(Zb5 (Zbm p.id) p).1++(Zb5 (Zbm p.id) p).2
theorem ZIh {p:Zm} (h:¬(p.id < 1\/p.id > 127)):ZaJ p=UInt8.ofNat p.id.toNat::Zgf p:=by
 unfold ZaJ Zgf
 have e:(Z2 p.id).1=[UInt8.ofNat p.id.toNat]:=by
  unfold Z2
  rw [if_neg (by omega)]
  simp only [ZbV]
  rw [if_pos (by omega)]
 rw [e];rfl
end
section
def ZgW (f:Bool) (x:Zb×Int):AVal:=.tup [.lst f (x.1.map Zc),.int .i64 x.2]
theorem ZDX (w:Int) (l:List Zm) (hl:l.length<=9223372036854775807) (b:Zb) (hb:b.length<=140737488355000) (i:Nat) (h1:¬(i:Int) < l.length) :
  ∃ f,ZiJ 0 [(16,.int .i64 i),(15,.int .i64 l.length),(14,.lst false (l.map Zj)),(6,.sl 0 0 0 b.length),(1,.lst false (l.map Zj)),(0,.int .i64 w)] [.row 0 1 (b.map Zc)]=some (ZgW f (Ze8 w l b),[]):=by
 have hV:=fun σ sq own=>ZfN σ sq own (b.length:Int)
 unfold Zet at hV
 have l0:=Zgc (b.length:Int)
 have hJ:=fun σ sq own f=>ZsV σ sq own f (Z2 b.length).1 b (by omega)
 have hR:=fun σ sq own f=>ZjZ σ sq own f w ((Z2 b.length).1++b) (by simp;omega)
 have hS:=fun σ sq own view (a:List Zm) (ha:a.length<=9223372036854775807)=>ZjI σ sq own view a l ha
 have ht:=Zzd b
 have hlen:((Z2 b.length).1++b).length<=140737488355328:=by simp;omega
 have hrl:=ZyY w ((Z2 b.length).1++b)
 unfold Ze8 ZgW
 generalize Z2 b.length=V at *
 obtain ⟨v,e⟩:=V
 simp only at hV hJ hR hlen hrl ⊢
 generalize hc:v++b=c at *
 generalize ZV w c=R at *
 obtain ⟨again,used,code⟩:=R
 simp only at hR hrl ⊢
 have hS2:=fun σ sq own view=>hS σ sq own view again (by omega)
 unfold ZiJ
 by_cases he:e=0
 ·subst he
  have n0:((0:Int) != 0)=false:=rfl
  rw [if_neg (by simp)]
  by_cases hc0:code=0
  ·subst hc0
   by_cases hu:used=c.length
   ·have n2:((used:Int) != (c.length:Int))=false:=by simp [hu]
    cases hs:(again == l) <;> rw [hs] at hS2
    ·refine ⟨true,?_⟩
     rw [if_pos (by simp),Zaa]
     simp -implicitDefEqProofs only [EQA,Zq,Nat.reduceLT,Nat.reduceEqDiff,unA,ZF,unG,reduceCtorEq,ZU,↓reduceIte,Zd,Zg6,Zh8,Zf5,ZfU,ZeH,oI,oN,h1,hV,hJ,hR,hS2,ht,n0,n2,viewAs,ZL,ZI,Zo,Nat.le_refl,AVal.cells]
    ·refine ⟨false,?_⟩
     rw [if_neg (by simp [hu]),Zaa]
     simp -implicitDefEqProofs only [EQA,Zq,Nat.reduceLT,Nat.reduceEqDiff,unA,ZF,unG,reduceCtorEq,ZU,↓reduceIte,Zd,Zg6,Zh8,Zf5,ZfU,ZeH,oI,oN,h1,hV,hJ,hR,hS2,ht,n0,n2,viewAs,ZL,ZI,Zo,Nat.le_refl,AVal.cells]
   ·have n2:((used:Int) != (c.length:Int))=true:=by simp;omega
    refine ⟨true,?_⟩
    rw [if_pos (by simp [hu]),Zaa]
    simp -implicitDefEqProofs only [EQA,Zq,Nat.reduceLT,Nat.reduceEqDiff,ZF,Zaw,unG,reduceCtorEq,ZU,↓reduceIte,Zd,Zg6,Zh8,Zf5,ZfU,ZeH,oI,oN,h1,hV,hJ,hR,ht,n0,n2,viewAs,ZL,ZI,Zo,Nat.le_refl,AVal.cells]
  ·have n1:(code != 0)=true:=by simpa using hc0
   refine ⟨true,?_⟩
   rw [if_pos (by simp [hc0]),Zaa]
   simp -implicitDefEqProofs only [EQA,Zq,Nat.reduceLT,Nat.reduceEqDiff,ZF,Zaw,reduceCtorEq,ZU,↓reduceIte,Zd,Zg6,Zh8,Zf5,ZfU,ZeH,oI,oN,h1,hV,hJ,hR,ht,n0,n1,viewAs,ZL,ZI,Zo,Nat.le_refl,AVal.cells]
 ·have n1:(e != 0)=true:=by simpa using he
  refine ⟨true,?_⟩
  rw [if_pos he,Zaa]
  simp -implicitDefEqProofs only [EQA,Zq,Nat.reduceLT,Nat.reduceEqDiff,reduceCtorEq,↓reduceIte,Zd,Zg6,Zh8,Zf5,ZfU,ZeH,oI,oN,h1,hV,n1]
theorem ZsW (w:Int) (l:List Zm) (hl:l.length<=9223372036854775807) (hx:∀ p ∈ l,ZeX p):∀ (r:List Zm) (i:Nat) (acc:Zb),l.drop i=r->acc.length+r.length*200000<=140737488355000 ->
  ∃ f,ZiJ 0 [(16,.int .i64 i),(15,.int .i64 l.length),(14,.lst false (l.map Zj)),(6,.sl 0 0 0 acc.length),(1,.lst false (l.map Zj)),(0,.int .i64 w)] [.row 0 1 (acc.map Zc)]=some (ZgW f (Ze8 w l (acc++(r.map ZaJ).flatten)),[])
 | [],i,acc,h,hn=>by
  simp only [List.map_nil,List.flatten_nil,List.append_nil]
  exact ZDX w l hl acc (by simpa using hn) i (Zc2 h)
 | p::r,i,acc,h,hn=>by
  have hlp:=Zlm p
  simp only [List.length_cons] at hn
  obtain ⟨f,ih⟩:=ZsW w l hl hx r (i+1) (acc++ZaJ p) (Z9 h).2.1 (by rw [List.length_append];omega)
  refine ⟨f,?_⟩
  have h1:(i:Int) < l.length:=by have:=(Z9 h).2.2;omega
  have e1:=iad (Z9 h).1 Zj (k:=5) rfl
  have e3:=Zdc h1 hl
  have hC:=fun σ sq own=>Zr7 σ sq own p (hx p (List.mem_of_getElem? (Z9 h).1))
  rw [List.append_assoc] at ih
  rw [List.map_cons,List.flatten_cons]
  generalize ZaJ p=q at *
  have k1:=Ze0 q
  have k2:(acc.length+q.length)*1<=140737488355328:=by omega
  have e4:(acc++q).map Zc=acc.map Zc++q.map Zc:=by simp
  have e5:(acc++q).length=acc.length+q.length:=by simp
  rw [e4,e5] at ih
  unfold ZiJ at ih ⊢
  rw [Zaa]
  simp -implicitDefEqProofs only [EQA,Z4,Zck,Nat.reduceAdd,Nat.reduceLT,Nat.reduceEqDiff,Nat.reduceBEq,reduceCtorEq,ZU,↓reduceIte,gcT,gcA,ZA,Zy,Zn,Zu,Z0,Zp,ZT,ZH,ZP,ZfU,ZeH,oI,oN,ZJ,Zj,Zbu,h1,e1,e3,hC,k1,k2,ZaF,Nat.le_refl,AVal.cells]
  exact ih
theorem ZH0 (w:Int) (l:List Zm) (hl:l.length<=700000000) (hx:∀ p ∈ l,ZeX p):∃ f,E 62 [.int .i64 w,Zaz l] []=some (ZgW f (Zap w l),[]):=by
 have z0:((0:Nat):Int)=0:=rfl
 unfold Zap
 cases l with
 | nil =>
  have hV:=fun σ sq own=>ZfN σ sq own 0
  have hv:Z2 0=([0],0):=rfl
  unfold Zet at hV
  rw [hv] at hV
  have hJ:=fun σ sq own f=>ZsV σ sq own f [0] [] (by simp)
  have hR:=fun σ sq own f=>ZjZ σ sq own f w [0] (by simp)
  have hr:ZV w [0]=([],1,0):=rfl
  rw [hr] at hR
  have hS:=fun σ sq own view=>ZjI σ sq own view [] [] (by simp)
  have e:Ze8 w [] (([]:List Zm).map ZaJ).flatten=([0],0):=by
   unfold Ze8
   simp only [List.map_nil,List.flatten_nil,List.length_nil,z0,hv,List.append_nil,hr]
   rfl
  rw [e]
  refine ⟨false,?_⟩
  rw [Zg (by rfl) ZtK]
  simp only [List.map_nil,List.map_cons,Zc] at hV hJ hR hS
  unfold ZgW
  have b0:Zc 0=.int .u8 0:=rfl
  have u0:(0:UInt8).toNat=0:=rfl
  have n0:((0:Int) != 0)=false:=rfl
  have n1:((1:Int) != 1)=false:=rfl
  rw [u0,z0] at hV hJ hR
  have z1:((1:Nat):Int)=1:=rfl
  rw [z1] at hR
  simp -implicitDefEqProofs only [EQA,Z4,Nat.reduceLT,Nat.reduceEqDiff,reduceCtorEq,↓reduceIte,gcT,gcA,ZA,Zy,Zu,ZP,ZuM,ZlB,oI,Zaz]
  rw [Zaa]
  simp -implicitDefEqProofs only [EQA,Zq,Nat.reduceLT,Nat.reduceEqDiff,unA,ZF,unG,reduceCtorEq,↓reduceIte,Zd,Zg6,Zh8,Zf5,ZfU,ZeH,oI,oN,z0,z1,hV,hJ,hR,hS,n0,n1,b0,viewAs,ZL,ZI,Zo,AVal.cells,Int.reduceLT]
 | cons p r =>
  have hlp:=Zlm p
  simp only [List.length_cons] at hl
  obtain ⟨f,ih⟩:=ZsW w (p::r) (by simp only [List.length_cons];omega) hx r 1 (ZaJ p) rfl (by omega)
  refine ⟨f,?_⟩
  have e1:=iad (l:=p::r) (i:=0) rfl Zj (k:=5) rfl
  have h1:(0:Int) < ((p::r).length:Int):=by simp only [List.length_cons];omega
  have w1:IntKind.i64.wrap (0+1)=1:=rfl
  have z1:((1:Nat):Int)=1:=rfl
  have hC:=fun σ sq own=>Zr7 σ sq own p (hx p (by simp))
  rw [List.map_cons,List.flatten_cons]
  generalize ZaJ p=q at *
  have k1:=Ze0 q
  have k2:q.length*1<=140737488355328:=by omega
  have e6:(q.map Zc).length=q.length:=by simp
  rw [z0] at e1
  rw [z1] at ih
  generalize (r.map ZaJ).flatten=t at *
  generalize hL:p::r=L at *
  rw [Zg (by rfl) ZtK]
  unfold ZiJ at ih
  simp -implicitDefEqProofs only [EQA,Z4,Nat.reduceLT,Nat.reduceEqDiff,reduceCtorEq,↓reduceIte,gcT,gcA,ZA,Zy,Zu,ZP,ZuM,ZlB,oI,Zaz]
  rw [Zaa]
  simp -implicitDefEqProofs only [EQA,Z4,Zck,Nat.reduceAdd,Nat.reduceLT,Nat.reduceEqDiff,Nat.reduceBEq,reduceCtorEq,ZU,↓reduceIte,gcT,gcA,ZA,Zy,Zn,Zu,Z0,Zp,ZT,ZH,ZP,ZfU,ZeH,oI,oN,ZJ,Zj,Zbu,h1,e1,w1,hC,k1,k2,ZaF,Nat.le_refl,AVal.cells]
  exact ih
theorem ZEW (σ:Za) (sq own:Nat) (f:Bool) (w:Int) (l:List Zm) (hl:l.length<=700000000) (hx:∀ p ∈ l,ZeX p):Zk E BY σ sq 62 own true [.int .i64 w,.lst f (l.map Zj)]=some (ZgW false (Zap w l),σ,{}):=by
 obtain ⟨g,h⟩:=ZH0 w l hl hx
 exact ZbB h (by kernel_rfl) rfl rfl rfl (fun _=>rfl) _ _ _
end
section
end
section
def ZlV:Ze:=(.seq (.region [oI 4 (.mov (.c (.lst true [])))] none [1,0]) (.seq (.seq (.region [oI 5 (.mov (.t 0)),oI 6 (.len (.t 5)),oI 7 (.mov (.t 1)),oI 8 (.bin .gtr (.t 6) (.t 7))] none [8,1,0]) (.cond (.t 8) (.seq (.region [oI 9 (.mov (.t 0)),oI 10 (.mov (.t 1)),oI 11 (.slice 1 (.t 9) none (some (.t 10)) none),oI 4 (.mov (.t 11))] none [4]) .ret) .skip)) (.seq (.region [oI 12 (.mov (.t 0)),oI 4 (.mov (.t 12))] none [4]) .ret)))
def Zo9:ZD:=⟨[(.tmp 4)],ZlV⟩
theorem ZEk:FC 4=some Zo9:=by kernel_rfl
theorem ZtS:Zo9.body=ZlV:=rfl
theorem ZtR:Zo9.res=[(.tmp 4)]:=rfl
end
section
end
section
structure Zle where
 topic:Zb
 payload:Zb
 qos:Int
 retain:Bool
 sender:Zb
 expires:Int
 props:List Zm
 origin:Int
 number:Int
 hops:Int
 deriving DecidableEq
structure ZH8 where
 note:Zle
 qos:Int
 retain:Bool
 ids:List Int
 share:Zb
 deriving DecidableEq
def ZMK (n:Zle):List AVal:=[.str n.topic,ZJ n.payload,.int .i64 n.qos,.bool n.retain,.str n.sender,.int .i64 n.expires,Zaz n.props,.int .i64 n.origin,.int .i64 n.number,.int .i64 n.hops]
end
section
theorem ZxE (w:Int) (b:Zb) (h:(ZV w b).2.2=0):(ZV w b).2.1<=268435460:=by
 have h1:=Znp b
 have h2:(ZS b).2.1<=5:=by
  have : ∀ (b:Zb) (i n:Nat),i<=4->(gvA i n b).2.1<=5:=by
   intro b
   induction b with
   | nil=>intro i n hi;unfold gvA;split <;> simp
   | cons c r ih =>
    intro i n hi
    unfold gvA
    repeat' split
    all_goals (try simp only)
    all_goals first
     | omega
     | exact ih _ _ (by omega)
  exact this b 0 0 (by omega)
 unfold ZV at h ⊢
 split
 ·rename_i hc;rw [if_pos hc] at h;simp at h
 ·rename_i hc
  rw [if_neg hc] at h
  split
  ·simp only;omega
  ·rename_i h3;rw [if_neg h3] at h;exact absurd h h3
structure ZIs (n:Zle):Prop where
 topic:n.topic.length<=9223372036854775807
 payload:n.payload.length<=9223372036854775807
 sender:n.sender.length<=9223372036854775807
 props:n.props.length<=700000000
 tx:∀ p ∈ n.props,ZeX p
 dat:∀ p ∈ n.props,p.data.length<=140737488355328
end
section
def wn:List AVal:=[.lst true [],.int .i64 0,.int .i8 0]
def wv (r g n:Nat):List AVal:=[.sl r g 0 n,.int .i64 0,.int .i8 0]
def wH (g:Nat) (l:Zb):Za:=[.var (wv 1 g l.length),.row g 1 (l.map Zc)]
theorem Zbj {σ:Za} {sq f own:Nat} {view:Bool} {args:List AVal} {r:AVal×Za×Cls} (h:Zk E BY σ sq f own view args=some r):Zk E1 BY σ sq f own view args=some r:=Zom ZEM h
theorem Zhf {O:ZO} {f:Nat} {args args':List AVal} {l l':Zb} {q:AVal} (hq:ZK q=true) (hw:viewR (wH 1 l') q=some (q,[])/\viewR (wH 0 l') q=some (q,[])) (g2:Nat) (hg2:g2<=1) (h:O f (.ref 0 0::args') (wH 0 l)=some (q,wH g2 l')) (hb:BY f=false) (hp:args.all Z7=true) (hn:args.map ZG=args') {σ:Za} {t r g sq own:Nat} (htr:t≠r) (hff:Za0 σ sq own=true) (hs:σ[t]?=some (.var (wv r g l.length))) (hr:σ[r]?=some (.row g 1 (l.map Zc))) :
  Zk O BY σ sq f own true (.ref t 0::args)=some (q,(σ.set t (.var (wv r (g+g2) l'.length))).set r (.row (g+g2) 1 (l'.map Zc)),{ any:=true,upd:=[(t,wv r (g+g2) l'.length)] }):=by
 subst hn
 have hw':viewR [.var (wv 1 g2 l'.length),.row g2 1 (l'.map Zc)] q=some (q,[]):=by
  rcases Nat.lt_or_ge g2 1 with e | e
  ·obtain rfl:g2=0:=by omega
   exact hw.2
  ·obtain rfl:g2=1:=by omega
   exact hw.1
 exact Zg0 (cs1:=wv 1 0 l.length) (cs2:=wv 1 g2 l'.length) hs hr htr rfl hb hp (fun ρ hρ=>by simp only [wv,Zf,Zl,hρ]) hg2 hff hq h (Zlb true hq hw' rfl hg2 (fun ρ hρ=>by simp only [wv,Zf,Zl,hρ])) (fun ρ hρ=>by simp only [wv,Zf,Zl,hρ])
theorem Zgr {O:ZO} {f:Nat} {args args':List AVal} {l':Zb} {q:AVal} (hq:ZK q=true) (hv:Zad true 1 (some (q,wH 0 l'))=some (q,wH 0 l')) (h:O f (.ref 0 0::args') [.var wn]=some (q,wH 0 l')) (hb:BY f=false) (hp:args.all Z7=true) (hn:args.map ZG=args') {σ:Za} {t sq:Nat} (hf:σ[sq]?=some .free) (hs:σ[t]?=some (.var wn)) :
  Zk O BY σ sq f 1 true (.ref t 0::args)=some (q,(σ.set t (.var (wv sq 0 l'.length))).set sq (.row 0 1 (l'.map Zc)),{ any:=true,upd:=[(t,wv sq 0 l'.length)] }):=by
 subst hn
 have htl:t < σ.length:=(List.getElem?_eq_some_iff.1 hs).1
 have hsl:sq < σ.length:=(List.getElem?_eq_some_iff.1 hf).1
 have hne:sq≠t:=by rintro rfl;rw [hs] at hf;cases hf
 have h1:σ.getD t .free=.var wn:=by simp [List.getD_eq_getElem?_getD,hs]
 have hf0:Zo σ []=σ:=rfl
 have hsh:showAs σ (.ref t 0::args)=some (.ref t 0::args.map ZG,[]):=by
  rw [showAs,show showA σ (.ref t 0)=some (.ref t 0,[]) from rfl,ZdT hp]
  rfl
 have href:Zr (.ref t 0::args.map ZG)=[t]:=by
  rw [Zr,Zdu hp];rfl
 have hre:Zy σ 1000 [t] []=[t]:=by
  have e1:([]:List Nat).contains t=false:=rfl
  rw [show (1000:Nat)=998+1+1 from rfl,Zy,e1]
  simp only [Bool.false_eq_true,if_false,h1,ZP]
  rfl
 unfold Zk ZbN
 rw [hb]
 simp only [Bool.false_eq_true,if_false,hsh,hf0,href,hre]
 unfold ZbE
 have hall:([t].all fun t=>okB (σ.getD t .free))=true:=by simp only [List.all_cons,List.all_nil,h1,okB,Bool.and_true]
 rw [if_pos hall]
 have hρt:Zn σ 0 [t] t 0=some (0,0):=by simp [Zn,Z0,hs,Zp,ZT]
 have hargs:Zf (Zn σ 0 [t]) (.ref t 0::args.map ZG)=.ref 0 0::args.map ZG:=by
  rw [Zf,Zdf hp]
  simp only [Zl,hρt]
 have hheap:Zu σ 0 [t] (Zn σ 0 [t]) [t] 0=[.var wn]:=by
  simp only [Zu,h1,ZH]
  rfl
 rw [hargs,hheap,h]
 rw [show [t].length=1 from rfl,hv]
 have hk:Za3 σ [t] (wH 0 l') 0=true:=by simp [wH,Za3,okB,Zcc,Zp,hs]
 have hff:Za0 σ sq 1=true:=by simp [Za0,freeAt,hf]
 have hup:Zbb ((σ.set t (.var (wv sq 0 l'.length))).set sq (.row 0 1 (l'.map Zc))) [t]=[(t,wv sq 0 l'.length)]:=by
  have e1:((σ.set t (.var (wv sq 0 l'.length))).set sq (.row 0 1 (l'.map Zc)))[t]?=some (.var (wv sq 0 l'.length)):=by
   rw [List.getElem?_set_ne hne,List.getElem?_set_self htl]
  simp only [Zbb,e1]
 have hlay:Za4 σ [t] sq (wH 0 l') 0 σ=(σ.set t (.var (wv sq 0 l'.length))).set sq (.row 0 1 (l'.map Zc)):=by
  simp [wH,Za4,ZaM,Zch,ZH,Zp,wv,Zf,Zl,ZaA]
 simp only [ZaI,List.isEmpty_cons,Bool.false_and,Bool.false_eq_true,if_false,hk,hff,hlay,hup,(Za8 _ _ hq).1]
 rfl
theorem Zs1 {O:ZO} {f:Nat} {args args':List AVal} (h:O f (.ref 0 0::args') [.var wn]=some (.tup [],[.var wn])) (hb:BY f=false) (hp:args.all Z7=true) (hn:args.map ZG=args') {σ:Za} {t sq own:Nat} (hff:Za0 σ sq own=true) (hs:σ[t]?=some (.var wn)) :
  Zk O BY σ sq f own true (.ref t 0::args)=some (.tup [],σ,{ any:=true,upd:=[(t,wn)] }):=by
 subst hn
 have htl:t < σ.length:=(List.getElem?_eq_some_iff.1 hs).1
 have h1:σ.getD t .free=.var wn:=by simp [List.getD_eq_getElem?_getD,hs]
 have hf0:Zo σ []=σ:=rfl
 have hsh:showAs σ (.ref t 0::args)=some (.ref t 0::args.map ZG,[]):=by
  rw [showAs,show showA σ (.ref t 0)=some (.ref t 0,[]) from rfl,ZdT hp]
  rfl
 have href:Zr (.ref t 0::args.map ZG)=[t]:=by
  rw [Zr,Zdu hp];rfl
 have hre:Zy σ 1000 [t] []=[t]:=by
  have e1:([]:List Nat).contains t=false:=rfl
  rw [show (1000:Nat)=998+1+1 from rfl,Zy,e1]
  simp only [Bool.false_eq_true,if_false,h1,ZP]
  rfl
 unfold Zk ZbN
 rw [hb]
 simp only [Bool.false_eq_true,if_false,hsh,hf0,href,hre]
 unfold ZbE
 have hall:([t].all fun t=>okB (σ.getD t .free))=true:=by simp only [List.all_cons,List.all_nil,h1,okB,Bool.and_true]
 rw [if_pos hall]
 have hρt:Zn σ 0 [t] t 0=some (0,0):=by simp [Zn,Z0,hs,Zp,ZT]
 have hargs:Zf (Zn σ 0 [t]) (.ref t 0::args.map ZG)=.ref 0 0::args.map ZG:=by
  rw [Zf,Zdf hp]
  simp only [Zl,hρt]
 have hheap:Zu σ 0 [t] (Zn σ 0 [t]) [t] 0=[.var wn]:=by
  simp only [Zu,h1,ZH]
  rfl
 rw [hargs,hheap,h]
 have hv:Zad true 1 (some (.tup [],[.var wn]))=some (.tup [],[.var wn]):=rfl
 rw [show [t].length=1 from rfl,hv]
 have hk:Za3 σ [t] [.var wn] 0=true:=by simp [Za3,okB,Zcc,Zp,hs]
 have hset:σ.set t (.var wn)=σ:=by
  apply List.ext_getElem?
  intro i
  rw [List.getElem?_set]
  by_cases e:t=i
  ·subst e;rw [if_pos rfl,if_pos htl,hs]
  ·simp [e]
 have hup:Zbb σ [t]=[(t,wn)]:=by simp only [Zbb,hs]
 have hlay:Za4 σ [t] sq [.var wn] 0 σ=σ:=by
  simp only [Za4,ZaM,ZH,List.getD_cons_zero]
  exact hset
 simp only [ZaI,List.isEmpty_cons,Bool.false_eq_true,if_false,hk,hff,hlay,hup,Zl,Zf,List.length_cons,List.length_nil,Nat.zero_add,Nat.le_add_right,Nat.le_refl,decide_true,Bool.and_self,if_true]
def wT (n:Nat):AVal:=.tup [.int .i64 (n:Nat),.nili]
theorem ZBK (x:Zb) (hx:x.length<=ZbM):E1 43 [.ref 0 0,.lst false (x.map Zc)] [.var wn]=some (wT x.length,wH 0 x):=by
 rw [Zs0]
 simp only [Zie,wn,List.length_map,hx,Ze0,and_self,if_true]
 rfl
theorem ZHn (l x:Zb) (hx:l.length+x.length<=ZbM):E1 43 [.ref 0 0,.lst false (x.map Zc)] (wH 0 l)=some (wT x.length,wH 1 (l++x)):=by
 rw [Zs0]
 simp only [Zie,wH,wv,List.length_map,hx,Ze0,and_self,if_true,List.map_append,List.length_append]
 rfl
theorem Zs9 (x:Zb) (hx:x.length<=ZbM) {σ:Za} {t sq:Nat} (hf:σ[sq]?=some .free) (hs:σ[t]?=some (.var wn)) :
  Zk E1 BY σ sq 43 1 true [.ref t 0,.lst false (x.map Zc)]=some (wT x.length,(σ.set t (.var (wv sq 0 x.length))).set sq (.row 0 1 (x.map Zc)),{ any:=true,upd:=[(t,wv sq 0 x.length)] }) :=
 Zgr (args:=[.lst false (x.map Zc)]) rfl rfl (ZBK x hx) (by kernel_rfl) rfl rfl hf hs
theorem ff1 {σ:Za} {sq:Nat} (hf:σ[sq]?=some .free):Za0 σ sq 1=true:=by simp [Za0,freeAt,hf]
theorem Ziy (l x:Zb) (hx:l.length+x.length<=ZbM) {σ:Za} (t r g:Nat) {sq:Nat} (htr:t≠r) (hf:σ[sq]?=some .free) (hs:σ[t]?=some (.var (wv r g l.length))) (hr:σ[r]?=some (.row g 1 (l.map Zc))) :
  Zk E1 BY σ sq 43 1 true [.ref t 0,.lst false (x.map Zc)]=some (wT x.length,(σ.set t (.var (wv r (g+1) (l++x).length))).set r (.row (g+1) 1 ((l++x).map Zc)),{ any:=true,upd:=[(t,wv r (g+1) (l++x).length)] }) :=
 Zhf (args:=[.lst false (x.map Zc)]) rfl ⟨rfl,rfl⟩ 1 (by omega) (ZHn l x hx) (by kernel_rfl) rfl rfl htr (ff1 hf) hs hr
theorem ZsH (x:Zb) (σ:Za):Zam 1 (.var (wv 1 0 x.length)::.row 0 1 (x.map Zc)::σ) (.tup [])=some (.tup [],wH 0 x):=rfl
theorem ZgH (l:Zb) (g:Nat) (σ:Za):Zam 2 (.var (wv 1 (g+1) l.length)::.row (g+1) 1 (l.map Zc)::σ) (.tup [])=some (.tup [],wH 1 l):=by
 simp [Zam,gcA,ZA,Zr,ZZ,List.range,List.range.loop,ZP,wv,Zy,Zn,Z0,Zu,ZT,Zp,ZH,Zf,Zl,wH]
theorem ZNB (n:Int) (W:Nat) (h1:1<=W) (hW:W<=8):E1 40 [.ref 0 0,.int .i64 n,.int .i64 (W:Nat)] [.var wn]=some (.tup [],wH 0 (beB (ZC n) W)):=by
 have hw:=ZoC n
 have hP:=fun σ sq own=>Zbj (Zlg σ sq own (ZC n) W h1 hW)
 have hlen:(beB (ZC n) W).length<=ZbM:=by rw [ZaN];unfold ZbM;omega
 generalize beB (ZC n) W=B at *
 have hC:=fun {σ:Za} {t sq:Nat}=>Zs9 B hlen (σ:=σ) (t:=t) (sq:=sq)
 have hO:=fun σ=>ZsH B σ
 rw [Zbv (by rfl) Zrx]
 unfold wn at *
 simp -implicitDefEqProofs only [EQA,Nat.reduceAdd,Nat.reduceLT,Nat.reduceEqDiff,Nat.reduceBEq,reduceCtorEq,↓reduceIte,Zrw,ZjJ,ZtU,oI,hw,hP,hC,wT,hO,Zag,Zai,Zak,Zav,Zay,Zao]
theorem ZxF (l:Zb) (n:Int) (W:Nat) (h1:1<=W) (hW:W<=8) (hl:l.length+W<=ZbM):E1 40 [.ref 0 0,.int .i64 n,.int .i64 (W:Nat)] (wH 0 l)=some (.tup [],wH 1 (l++beB (ZC n) W)):=by
 have hw:=ZoC n
 have hP:=fun σ sq own=>Zbj (Zlg σ sq own (ZC n) W h1 hW)
 have hlen:l.length+(beB (ZC n) W).length<=ZbM:=by rw [ZaN];omega
 generalize beB (ZC n) W=B at *
 have hC:=fun {σ:Za} {sq:Nat}=>Ziy l B hlen (σ:=σ) 0 1 0 (sq:=sq) (by omega)
 have hO:=fun g σ=>ZgH (l++B) g σ
 rw [Zbv (by rfl) Zrx]
 unfold wH at *
 simp -implicitDefEqProofs only [EQA,Nat.reduceAdd,Nat.reduceLT,Nat.reduceEqDiff,Nat.reduceBEq,reduceCtorEq,↓reduceIte,Zrw,ZjJ,ZtU,oI,hw,hP,hC,wT,hO,Zag,Zai,Zak,Zav,Zay,Zao]
end
section
end
section
theorem ZPl (b:Zb) (n:Int) (h0:0<=n):E 4 [ZJ b,.int .i64 n] []=some (ZJ (b.take n.toNat),[]):=by
 rw [Zg (by rfl) ZEk]
 by_cases h:n < (b.length:Int)
 ·have hl:n<=(b.length:Int):=by omega
  simp -implicitDefEqProofs only [EQA,Zq,Nat.reduceLT,Nat.reduceEqDiff,reduceCtorEq,↓reduceIte,ZtS,ZlV,ZtR,oI,ZJ,h0,h,hl,ZiE]
 ·have hl:b.take n.toNat=b:=List.take_of_length_le (by omega)
  simp -implicitDefEqProofs only [EQA,Zq,Nat.reduceLT,Nat.reduceEqDiff,reduceCtorEq,↓reduceIte,ZtS,ZlV,ZtR,oI,ZJ,h,hl]
theorem ZGM (σ:Za) (sq own:Nat) (view:Bool) (b:Zb) (n:Int) (h0:0<=n):Zk E BY σ sq 4 own view [.lst false (b.map Zc),.int .i64 n]=some (.lst false ((b.take n.toNat).map Zc),σ,{}) :=
 Zcp (ZPl b n h0) (by kernel_rfl) (by simp -implicitDefEqProofs only [ZcS,Zbq,eq_self,ZJ]) (by simp -implicitDefEqProofs only [ZE,Zbq,eq_self,ZJ]) rfl (fun _=>rfl) _ _ _ _
end
section
structure ZC1 where
 fmt:Int
 content:Zb
 corr:Zb
 users:Zb
end
section
end
section
structure ZP6 where
 r1:Zb×Zeh
 r2:Zb×Zeh
 r3:Zb×Zeh
 r4:Zb×Zeh
 r5:Zb×Zeh
 r6:Zb×Zeh
 r7:Zb×Zeh
 r8:Zb×Zeh
end
section
theorem ZKP (w:Int) (b:Zb):(ZV w b).1.length<=268435455:=by
 have hlt:=Znp b
 unfold ZV
 split
 ·simp
 ·split
  ·have:=Zrf w (ZS b).1 ((b.take ((ZS b).2.1+(ZS b).1)).drop (ZS b).2.1) []
   simp only [List.length_drop,List.length_take,List.length_nil] at this
   simp only
   omega
  ·simp
end
section
structure ZP5 (it:ZH8):Prop where
 note:ZIs it.note
 ids:it.ids.length<=1000000
 share:it.share.length<=9223372036854775807
end
section
end
section
structure ZCO where
 topic:Zb
 sender:Zb
 share:Zb
 payload:Zb
 qos:Int
 sub:Int
 retain:Bool
 keep:Bool
 life:Int
 p:ZC1
 ids:List Int
 origin:Int
 number:Int
structure ZP8 (m:ZCO):Prop where
 topic:m.topic.length<=9223372036854775807
 sender:m.sender.length<=9223372036854775807
 share:m.share.length<=9223372036854775807
 content:m.p.content.length<=9223372036854775807
 users:m.p.users.length<=9223372036854775807
 ids:m.ids.length<=9223372036854775807
end
section
structure ZP7 where
 d:Zb×Zeh
 m:Zb×Zeh
 k:Zb×Zeh
end
section
theorem ZJj (x:Nat) (a b:Zb):ZeQ x (a++b)=ZeQ (ZeQ x a) b:=by
 unfold ZeQ;rw [List.foldl_append]
theorem ZuO:∀ (w n:Nat),w<=8->n < 256 ^ w->ZeQ 0 (beB n w)=n
 | 0,n,_,h=>by simp at h;subst h;rfl
 | w+1,n,hw,h=>by
  have h1:n / 256 < 256 ^ w:=by rw [Nat.pow_succ] at h;omega
  have ih:=ZuO w (n / 256) (by omega) h1
  have h2:256 ^ w<=256 ^ 7:=Nat.pow_le_pow_right (by decide) (by omega)
  rw [beB,ZJj,ih,ZcX,ZeK,UInt8.toNat_ofNat']
  have h3:(256:Nat) ^ 7=72057594037927936:=rfl
  omega
theorem ZoK {w n:Nat} (hw:w<=8) (h:n < 256 ^ w):Zco (beB n w)=n:=ZuO w n hw h
theorem ZA7 {w n:Nat} (hw:w<=8) (h:n < 256 ^ w) (h2:n<=9223372036854775807):Zgx (beB n w)=(n:Int):=by
 unfold Zgx
 rw [ZoK hw h,Zb1 (by omega) (by omega)]
theorem Zru (b rest:Zb) (h:b.length<=65535):ZaH ((Za2 b).1++rest)=(b,2+b.length,0):=by
 have hd:(Za2 b).1=beB b.length 2++b:=by unfold Za2;rw [if_neg (by omega)]
 have hl:=ZaN 2 b.length
 have ht:(beB b.length 2++b++rest).take 2=beB b.length 2:=by
  rw [List.append_assoc];exact List.take_left' hl
 have hdr:(beB b.length 2++b++rest).drop 2=b++rest:=by
  rw [List.append_assoc];exact List.drop_left' hl
 have hu:Zco (beB b.length 2)=b.length:=ZoK (by decide) (by omega)
 unfold ZaH
 rw [hd,ht,hu,hdr,if_neg,List.take_left]
 simp only [List.length_append,hl]
 omega
theorem Zpn (s rest:Zb) (ht:ZeE s=true) (h:s.length<=65535):Zac ((Z3 s).1++rest)=(s,2+s.length,0):=by
 have e:(Z3 s).1=(Za2 s).1:=by unfold Z3;rw [if_pos ht]
 have hg:=Zru s rest h
 unfold Zac
 rw [e,hg]
 simp only [ne_eq,not_true_eq_false,if_false,ht,if_true]
theorem ZtH {b:Zb} (h:b.length<=65535):(Za2 b).1.length=2+b.length:=by
 unfold Za2;rw [if_neg (by omega)];simp [ZaN]
theorem ZmM {s:Zb} (ht:ZeE s=true) (h:s.length<=65535):(Z3 s).1.length=2+s.length:=by
 unfold Z3;rw [if_pos ht];exact ZtH h
theorem Ztq:∀ (k n i acc:Nat) (rest:Zb),i+k<=3->n < 128 ^ (k+1)->(0 < i->0 < n)->gvA i acc (ZbV k n++rest)=(acc+n*128 ^ i,i+(ZbV k n).length,0)
 | 0,n,i,acc,rest,hi,hn,hp=>by
  have h1:(UInt8.ofNat n).toNat=n:=by rw [UInt8.toNat_ofNat'];omega
  have h2:n % 128=n:=by omega
  unfold ZbV
  rw [List.singleton_append]
  unfold gvA
  rw [if_neg (by omega),h1,if_pos (by omega),if_neg,h2]
  ·rfl
  ·rintro ⟨a,b⟩
   have:=hp b
   have:=congrArg UInt8.toNat a
   rw [h1] at this
   simp at this;omega
 | k+1,n,i,acc,rest,hi,hn,hp=>by
  unfold ZbV
  by_cases h:n < 128
  ·have h1:(UInt8.ofNat n).toNat=n:=by rw [UInt8.toNat_ofNat'];omega
   have h2:n % 128=n:=by omega
   rw [if_pos h,List.singleton_append]
   unfold gvA
   rw [if_neg (by omega),h1,if_pos (by omega),if_neg,h2]
   ·rfl
   ·rintro ⟨a,b⟩
    have:=hp b
    have:=congrArg UInt8.toNat a
    rw [h1] at this
    simp at this;omega
  ·have h1:(UInt8.ofNat (n % 128+128)).toNat=n % 128+128:=by rw [UInt8.toNat_ofNat'];omega
   have hd:n / 128 < 128 ^ (k+1):=by rw [Nat.pow_succ] at hn;omega
   have ih:=Ztq k (n / 128) (i+1) (acc+n % 128*128 ^ i) rest (by omega) hd (by omega)
   rw [if_neg h,List.cons_append]
   unfold gvA
   rw [if_neg (by omega),h1,if_neg (by omega)]
   have h3:(n % 128+128) % 128=n % 128:=by omega
   rw [h3,ih,List.length_cons,Nat.pow_succ]
   have h4:n=n / 128*128+n % 128:=by omega
   refine Prod.ext ?_ (Prod.ext ?_ rfl)
   ·simp only
    conv=>rhs;rw [h4]
    rw [Nat.add_mul,Nat.mul_assoc,Nat.mul_comm 128 (128 ^ i)]
    omega
   ·simp only;omega
theorem Zm9 (n:Nat) (rest:Zb) (h:n < 268435456):ZS ((Z2 (n:Int)).1++rest)=(n,(Z2 (n:Int)).1.length,0):=by
 have e:(Z2 (n:Int)).1=ZbV 3 n:=by
  unfold Z2
  rw [if_neg (by omega)]
  rfl
 have:=Ztq 3 n 0 0 rest (by omega) h (by omega)
 rw [e]
 unfold ZS
 rw [this]
 simp
theorem Zvs {x:Int} (h0:0<=x) (h:x < 18446744073709551616):ZC x=x.toNat:=by unfold ZC;omega
theorem ZoJ {s:Zb} (h:(Z3 s).2=0):ZeE s=true/\s.length<=65535:=by
 unfold Z3 at h
 split at h
 ·rename_i ht
  unfold Za2 at h
  split at h
  ·simp at h
  ·exact ⟨ht,by omega⟩
 ·simp at h
theorem ZDi {s:Zb} (h:(Za2 s).2=0):s.length<=65535:=by
 unfold Za2 at h
 split at h
 ·simp at h
 ·omega
def ZlN (k:Int) (p:Zm):Prop :=
 if k=1\/k=2\/k=3\/k=4 then p.text=[]/\p.pair=[]/\p.data=[] else if k=5 then p.num=0/\p.pair=[]/\p.data=[]
 else if k=6 then p.num=0/\p.text=[]/\p.pair=[] else p.num=0/\p.data=[]
theorem ZoP (id num:Int) (W:Nat) (rest:Zb) (hW:W<=4) (h0:0<=num) (h:num.toNat < 256 ^ W):Zev id W (beB (ZC num) W++rest)=(⟨id,num,[],[],[]⟩,W,true):=by
 have hb:256 ^ W<=256 ^ 4:=Nat.pow_le_pow_right (by decide) hW
 have e4:(256:Nat) ^ 4=4294967296:=rfl
 have hu:ZC num=num.toNat:=Zvs h0 (by omega)
 have hl:=ZaN W (ZC num)
 unfold Zev
 rw [if_neg (by simp [hl]),List.take_left' hl,ZoK (by omega) (by rw [hu];exact h),hu]
 have : ((num.toNat:Nat):Int)=num:=by omega
 rw [this]
theorem ZEf (p:Zm) (rest:Zb) (hok:okV (Zbm p.id) p=true) (hc:ZlN (Zbm p.id) p) (h0:Zbm p.id≠0):ZcF p.id (Zgf p++rest)=(p,(Zgf p).length,true):=by
 obtain ⟨id,num,text,pair,data⟩:=p
 unfold ZcF Zgf
 simp only at hok hc h0 ⊢
 rcases Zn9 id with e | e | e | e | e | e | e | e
 ·exact absurd e h0
 all_goals rw [e] at hok hc ⊢
 ·simp only [okV,if_true,Bool.and_eq_true,decide_eq_true_eq] at hok
  obtain ⟨rfl,rfl,rfl⟩:text=[]/\pair=[]/\data=[]:=hc
  have:=ZoP id num 1 rest (by omega) (by omega) (by omega)
  simp only [ZcE,Zb5,if_true,List.append_nil,ZaN]
  exact this
 ·simp only [okV,show ¬((2:Int)=1) by decide,if_false,if_true,Bool.and_eq_true,decide_eq_true_eq] at hok
  obtain ⟨rfl,rfl,rfl⟩:text=[]/\pair=[]/\data=[]:=hc
  have:=ZoP id num 2 rest (by omega) (by omega) (by omega)
  simp only [ZcE,Zb5,show ¬((2:Int)=1) by decide,if_false,if_true,List.append_nil,ZaN]
  exact this
 ·simp only [okV,show ¬((3:Int)=1) by decide,show ¬((3:Int)=2) by decide,if_false,if_true,Bool.and_eq_true,decide_eq_true_eq] at hok
  obtain ⟨rfl,rfl,rfl⟩:text=[]/\pair=[]/\data=[]:=hc
  have:=ZoP id num 4 rest (by omega) (by omega) (by omega)
  simp only [ZcE,Zb5,show ¬((3:Int)=1) by decide,show ¬((3:Int)=2) by decide,if_false,if_true,List.append_nil,ZaN]
  exact this
 ·simp only [okV,show ¬((4:Int)=1) by decide,show ¬((4:Int)=2) by decide,show ¬((4:Int)=3) by decide,if_false,if_true,beq_iff_eq] at hok
  obtain ⟨rfl,rfl,rfl⟩:text=[]/\pair=[]/\data=[]:=hc
  have hr:0<=num/\num<=268435455:=by
   unfold Z2 at hok
   split at hok
   ·simp at hok
   ·omega
  have:=Zm9 num.toNat rest (by omega)
  have e1:((num.toNat:Nat):Int)=num:=by omega
  rw [e1] at this
  simp only [ZcE,Zb5,show ¬((4:Int)=1) by decide,show ¬((4:Int)=2) by decide,show ¬((4:Int)=3) by decide,if_false,if_true,List.append_nil,this,e1,beq_self_eq_true]
 ·simp only [okV,show ¬((5:Int)=1) by decide,show ¬((5:Int)=2) by decide,show ¬((5:Int)=3) by decide,show ¬((5:Int)=4) by decide,if_false,if_true,beq_iff_eq] at hok
  obtain ⟨rfl,rfl,rfl⟩:num=0/\pair=[]/\data=[]:=hc
  obtain ⟨t1,t2⟩:=ZoJ hok
  have:=Zpn text rest t1 t2
  simp only [ZcE,Zb5,show ¬((5:Int)=1) by decide,show ¬((5:Int)=2) by decide,show ¬((5:Int)=3) by decide,show ¬((5:Int)=4) by decide,if_false,if_true,List.append_nil,this,ZmM t1 t2,beq_self_eq_true]
 ·simp only [okV,show ¬((6:Int)=1) by decide,show ¬((6:Int)=2) by decide,show ¬((6:Int)=3) by decide,show ¬((6:Int)=4) by decide,show ¬((6:Int)=5) by decide,if_false,if_true,beq_iff_eq] at hok
  obtain ⟨rfl,rfl,rfl⟩:num=0/\text=[]/\pair=[]:=hc
  have t2:=ZDi hok
  have:=Zru data rest t2
  simp only [ZcE,Zb5,show ¬((6:Int)=1) by decide,show ¬((6:Int)=2) by decide,show ¬((6:Int)=3) by decide,show ¬((6:Int)=4) by decide,show ¬((6:Int)=5) by decide,if_false,if_true,List.append_nil,this,ZtH t2,beq_self_eq_true]
 ·simp only [okV,show ¬((7:Int)=1) by decide,show ¬((7:Int)=2) by decide,show ¬((7:Int)=3) by decide,show ¬((7:Int)=4) by decide,show ¬((7:Int)=5) by decide,show ¬((7:Int)=6) by decide,if_false,if_true,Bool.and_eq_true,beq_iff_eq] at hok
  obtain ⟨rfl,rfl⟩:num=0/\data=[]:=hc
  obtain ⟨t1,t2⟩:=ZoJ hok.1
  obtain ⟨t3,t4⟩:=ZoJ hok.2
  have g1:=Zpn text ((Z3 pair).1++rest) t1 t2
  have g2:=Zpn pair rest t3 t4
  have l1:=ZmM t1 t2
  have l2:=ZmM t3 t4
  have hd:((Z3 text).1++((Z3 pair).1++rest)).drop (2+text.length)=(Z3 pair).1++rest:=List.drop_left' l1
  simp only [ZcE,Zb5,show ¬((7:Int)=1) by decide,show ¬((7:Int)=2) by decide,show ¬((7:Int)=3) by decide,show ¬((7:Int)=4) by decide,show ¬((7:Int)=5) by decide,show ¬((7:Int)=6) by decide,if_false,if_true,ZgA,List.append_assoc,g1,hd,g2,beq_self_eq_true,List.length_append,l1,l2]
structure Zl6 (w:Int) (acc:List Zm) (p:Zm):Prop where
 good:ZhF p=true
 may:Zdm p.id w=true
 canon:ZlN (Zbm p.id) p
 fits:Zfr p.id p.num=true
 dup:((ZdZ p.id acc).isSome && !ZhY p.id w)=false
theorem ZM1 {w:Int} {acc:List Zm} {p:Zm} (h:Zl6 w acc p) (rest:Zb):ZbG w (ZaJ p++rest) acc=(p,(ZaJ p).length,0):=by
 have hT:Zd0 p.id:=by
  refine Decidable.byContradiction fun hT=>?_
  have:=h.may
  rw [ZIN hT w] at this
  cases this
 obtain ⟨t1,t2,t3⟩:=ZG2 hT
 have hok:okV (Zbm p.id) p=true:=by
  have:=h.good
  unfold ZhF at this
  simp only [Bool.and_eq_true] at this
  exact this.2
 have e:ZaJ p=(Z2 p.id).1++Zgf p:=rfl
 have g:=Zm9 p.id.toNat (Zgf p++rest) (by omega)
 have ei:((p.id.toNat:Nat):Int)=p.id:=by omega
 rw [ei,<-List.append_assoc,<-e] at g
 have hv:=ZEf p rest hok h.canon t3
 have hd:(ZaJ p++rest).drop (Z2 p.id).1.length=Zgf p++rest:=by
  rw [e,List.append_assoc];exact List.drop_left' rfl
 unfold ZbG
 rw [g]
 simp only
 rw [ei,hd,hv,h.may]
 rw [if_neg (by simp)]
 unfold ZkT
 simp only [h.dup,h.fits,Bool.false_eq_true,if_false,if_true,Bool.true_eq_false]
 rw [e,List.length_append]
def Zi8 (w:Int):List Zm->List Zm->Prop
 | _,[]=>True
 | acc,p::r=>Zl6 w acc p/\Zi8 w (acc++[p]) r
theorem Zvx (p:Zm) (h:¬(p.id < 1\/p.id > 127)):0 < (ZaJ p).length:=by rw [ZIh h];simp
theorem ZEG {p:Zm} (h:ZhF p=true):¬(p.id < 1\/p.id > 127):=by
 unfold ZhF at h
 simp only [Bool.and_eq_true,Bool.not_eq_true',Bool.or_eq_false_iff,decide_eq_false_iff_not] at h
 exact fun hc=>hc.elim h.1.1 h.1.2
theorem Zrv (w:Int):∀ (l acc:List Zm) (n:Nat),Zi8 w acc l->(l.map ZaJ).flatten.length<=n->ZdR w n (l.map ZaJ).flatten acc=(acc++l,0)
 | [],acc,n,_,_=>by simp [ZnA]
 | p::r,acc,n,h,hn=>by
  obtain ⟨h1,h2⟩:=h
  have hp:=Zvx p (ZEG h1.good)
  simp only [List.map_cons,List.flatten_cons,List.length_append] at hn ⊢
  obtain ⟨n,rfl⟩:∃ m,n=m+1:=⟨n - 1,by omega⟩
  have ho:=ZM1 h1 (r.map ZaJ).flatten
  obtain ⟨c,t,hct⟩:∃ c t,ZaJ p++(r.map ZaJ).flatten=c::t:=by
   cases hl:ZaJ p with
   | nil=>rw [hl] at hp;simp at hp
   | cons c t=>exact ⟨c,_,rfl⟩
  rw [hct,Zpy,<-hct,ho]
  simp only [if_true,List.drop_left' rfl]
  rw [Zrv w r (acc++[p]) n h2 (by omega)]
  simp
theorem ZxU (w:Int) (l:List Zm) (h:Zi8 w [] l) (hb:(l.map ZaJ).flatten.length < 268435456):ZV w ((Z2 ((l.map ZaJ).flatten.length:Nat)).1++(l.map ZaJ).flatten)=(l,(Z2 ((l.map ZaJ).flatten.length:Nat)).1.length+(l.map ZaJ).flatten.length,0):=by
 generalize hB:(l.map ZaJ).flatten=b at *
 have g:=Zm9 b.length b hb
 have hr:=Zrv w l [] b.length h (by rw [hB];exact Nat.le_refl _)
 rw [hB,List.nil_append] at hr
 have hs:(((Z2 (b.length:Nat)).1++b).take ((Z2 (b.length:Nat)).1.length+b.length)).drop (Z2 (b.length:Nat)).1.length=b:=by
  rw [List.take_of_length_le (by simp)]
  exact List.drop_left' rfl
 unfold ZV
 rw [g]
 simp only
 rw [if_neg (by simp;omega),hs,hr]
 simp
theorem ZLj (w:Int) (l:List Zm) (h:Zi8 w [] l) (hb:(l.map ZaJ).flatten.length < 268435456):Zap w l=((Z2 ((l.map ZaJ).flatten.length:Nat)).1++(l.map ZaJ).flatten,0):=by
 have hr:=ZxU w l h hb
 unfold Zap Ze8
 rw [if_neg (by rw [Zxz hb];simp),hr,if_neg (by simp)]
end
section
theorem ZiQ (s:Zb):(Za2 s).1.length<=65537:=by
 unfold Za2
 split
 ·simp
 ·simp [ZaN];omega
theorem ZcT (s:Zb):(Z3 s).1.length<=65537:=by
 unfold Z3
 split
 ·exact ZiQ s
 ·simp
theorem Zdy (w:Int) (l:List Zm):(Zap w l).1.length<=268435460:=by
 unfold Zap Ze8
 generalize (l.map ZaJ).flatten=b
 by_cases h:(Z2 b.length).2≠0
 ·rw [if_pos h];simp
 ·rw [if_neg h]
  split
  ·simp
  ·rename_i h2
   have h0:(ZV w ((Z2 b.length).1++b)).2.2=0:=Classical.byContradiction fun e=>h2 (Or.inl e)
   have h1:(ZV w ((Z2 b.length).1++b)).2.1=((Z2 b.length).1++b).length:=Classical.byContradiction fun e=>h2 (Or.inr (Or.inl e))
   have:=ZxE w _ h0
   rw [h1] at this
   exact this
theorem ZOA (s:Zb) (hs:s.length<=9223372036854775807):E1 42 [.ref 0 0,.str s] [.var wn]=some (.tup [],wH 0 (Z3 s).1):=by
 have hP:=fun σ sq own=>Zbj (Zi5 σ sq own s hs)
 unfold byT at hP
 have hlen:(Z3 s).1.length<=ZbM:=by have:=ZcT s;unfold ZbM;omega
 generalize (Z3 s).1=B at *
 generalize (Z3 s).2=C at *
 have hC:=fun {σ:Za} {t sq:Nat}=>Zs9 B hlen (σ:=σ) (t:=t) (sq:=sq)
 have hO:=fun σ=>ZsH B σ
 rw [Zbv (by rfl) Zr2]
 unfold wn at *
 simp -implicitDefEqProofs only [EQA,Nat.reduceAdd,Nat.reduceLT,Nat.reduceEqDiff,Nat.reduceBEq,reduceCtorEq,↓reduceIte,Zwt,ZlU,Zu7,oI,hP,hC,wT,hO]
theorem ZJL (l:Zb) (s:Zb) (hs:s.length<=9223372036854775807) (hl:l.length+(Z3 s).1.length<=ZbM):E1 42 [.ref 0 0,.str s] (wH 0 l)=some (.tup [],wH 1 (l++(Z3 s).1)):=by
 have hP:=fun σ sq own=>Zbj (Zi5 σ sq own s hs)
 unfold byT at hP
 generalize (Z3 s).1=B at *
 generalize (Z3 s).2=C at *
 have hC:=fun {σ:Za} {sq:Nat}=>Ziy l B hl (σ:=σ) 0 1 0 (sq:=sq) (by omega)
 have hO:=fun g σ=>ZgH (l++B) g σ
 rw [Zbv (by rfl) Zr2]
 unfold wH at *
 simp -implicitDefEqProofs only [EQA,Nat.reduceAdd,Nat.reduceLT,Nat.reduceEqDiff,Nat.reduceBEq,reduceCtorEq,↓reduceIte,Zwt,ZlU,Zu7,oI,hP,hC,wT,hO]
theorem ZvE (s:Zb) (hs:s.length<=9223372036854775807) {σ:Za} {t sq:Nat} (hf:σ[sq]?=some .free) (hs0:σ[t]?=some (.var wn)) :
  Zk E1 BY σ sq 42 1 true [.ref t 0,.str s]=some (.tup [],(σ.set t (.var (wv sq 0 (Z3 s).1.length))).set sq (.row 0 1 ((Z3 s).1.map Zc)),{ any:=true,upd:=[(t,wv sq 0 (Z3 s).1.length)] }) :=
 Zgr (args:=[.str s]) rfl rfl (ZOA s hs) (by kernel_rfl) rfl rfl hf hs0
theorem Zim (l:Zb) (s:Zb) (hs:s.length<=9223372036854775807) (hl:l.length+(Z3 s).1.length<=ZbM) {σ:Za} (t r g:Nat) {sq:Nat} (htr:t≠r) (hf:σ[sq]?=some .free) (hs0:σ[t]?=some (.var (wv r g l.length))) (hr:σ[r]?=some (.row g 1 (l.map Zc))) :
  Zk E1 BY σ sq 42 1 true [.ref t 0,.str s]=some (.tup [],(σ.set t (.var (wv r (g+1) (l++(Z3 s).1).length))).set r (.row (g+1) 1 ((l++(Z3 s).1).map Zc)),{ any:=true,upd:=[(t,wv r (g+1) (l++(Z3 s).1).length)] }) :=
 Zhf (args:=[.str s]) rfl ⟨rfl,rfl⟩ 1 (by omega) (ZJL l s hs hl) (by kernel_rfl) rfl rfl htr (ff1 hf) hs0 hr
theorem ZAO (l:Zb) (s:Zb) (hs:s.length<=9223372036854775807) (hl:l.length+(Za2 s).1.length<=ZbM):E1 60 [.ref 0 0,.lst false (s.map Zc)] (wH 0 l)=some (.tup [],wH 1 (l++(Za2 s).1)):=by
 have hP:=fun σ sq own=>Zbj (Zps σ sq own false s hs)
 unfold byT at hP
 generalize (Za2 s).1=B at *
 generalize (Za2 s).2=C at *
 have hC:=fun {σ:Za} {sq:Nat}=>Ziy l B hl (σ:=σ) 0 1 0 (sq:=sq) (by omega)
 have hO:=fun g σ=>ZgH (l++B) g σ
 rw [Zbv (by rfl) ZCt]
 unfold wH at *
 simp -implicitDefEqProofs only [EQA,Nat.reduceAdd,Nat.reduceLT,Nat.reduceEqDiff,Nat.reduceBEq,reduceCtorEq,↓reduceIte,ZEn,Zpo,Zx6,oI,hP,hC,wT,hO]
theorem ZuV (l:Zb) (s:Zb) (hs:s.length<=9223372036854775807) (hl:l.length+(Za2 s).1.length<=ZbM) {σ:Za} (t r g:Nat) {sq:Nat} (htr:t≠r) (hf:σ[sq]?=some .free) (hs0:σ[t]?=some (.var (wv r g l.length))) (hr:σ[r]?=some (.row g 1 (l.map Zc))) :
  Zk E1 BY σ sq 60 1 true [.ref t 0,.lst false (s.map Zc)]=some (.tup [],(σ.set t (.var (wv r (g+1) (l++(Za2 s).1).length))).set r (.row (g+1) 1 ((l++(Za2 s).1).map Zc)),{ any:=true,upd:=[(t,wv r (g+1) (l++(Za2 s).1).length)] }) :=
 Zhf (args:=[.lst false (s.map Zc)]) rfl ⟨rfl,rfl⟩ 1 (by omega) (ZAO l s hs hl) (by kernel_rfl) rfl rfl htr (ff1 hf) hs0 hr
theorem ZJn (l:Zb) (w:Int) (ps:List Zm) (hp:ps.length<=700000000) (hx:∀ p ∈ ps,ZeX p) (hl:l.length+(Zap w ps).1.length<=ZbM):E1 41 [.ref 0 0,.int .i64 w,.lst false (ps.map Zj)] (wH 0 l)=some (.tup [],wH 1 (l++(Zap w ps).1)):=by
 have hP:=fun σ sq own=>Zbj (ZEW σ sq own false w ps hp hx)
 unfold ZgW at hP
 generalize (Zap w ps).1=B at *
 generalize (Zap w ps).2=C at *
 have hC:=fun {σ:Za} {sq:Nat}=>Ziy l B hl (σ:=σ) 0 1 0 (sq:=sq) (by omega)
 have hO:=fun g σ=>ZgH (l++B) g σ
 rw [Zbv (by rfl) ZAV]
 unfold wH at *
 simp -implicitDefEqProofs only [EQA,Nat.reduceAdd,Nat.reduceLT,Nat.reduceEqDiff,Nat.reduceBEq,reduceCtorEq,↓reduceIte,ZKq,Zov,ZNm,oI,hP,hC,wT,hO]
theorem Zgz (l:Zb) (w:Int) (ps:List Zm) (hp:ps.length<=700000000) (hx:∀ p ∈ ps,ZeX p) (hl:l.length+(Zap w ps).1.length<=ZbM) {σ:Za} (t r g:Nat) {sq:Nat} (htr:t≠r) (hf:σ[sq]?=some .free) (hs0:σ[t]?=some (.var (wv r g l.length))) (hr:σ[r]?=some (.row g 1 (l.map Zc))) :
  Zk E1 BY σ sq 41 1 true [.ref t 0,.int .i64 w,.lst false (ps.map Zj)]=some (.tup [],(σ.set t (.var (wv r (g+1) (l++(Zap w ps).1).length))).set r (.row (g+1) 1 ((l++(Zap w ps).1).map Zc)),{ any:=true,upd:=[(t,wv r (g+1) (l++(Zap w ps).1).length)] }) :=
 Zhf (args:=[.int .i64 w,.lst false (ps.map Zj)]) rfl ⟨rfl,rfl⟩ 1 (by omega) (ZJn l w ps hp hx hl) (by kernel_rfl) rfl rfl htr (ff1 hf) hs0 hr
theorem ZkW (n:Int) (W:Nat) (h1:1<=W) (hW:W<=8) {m:Int} (hm:((W:Nat):Int)=m) {σ:Za} {t sq:Nat} (hf:σ[sq]?=some .free) (hs0:σ[t]?=some (.var wn)) :
  Zk E1 BY σ sq 40 1 true [.ref t 0,.int .i64 n,.int .i64 m]=some (.tup [],(σ.set t (.var (wv sq 0 (beB (ZC n) W).length))).set sq (.row 0 1 ((beB (ZC n) W).map Zc)),{ any:=true,upd:=[(t,wv sq 0 (beB (ZC n) W).length)] }):=by
 subst hm
 exact Zgr (args:=[.int .i64 n,.int .i64 (W:Nat)]) rfl rfl (ZNB n W h1 hW) (by kernel_rfl) rfl rfl hf hs0
theorem ZfW (l:Zb) (n:Int) (W:Nat) (h1:1<=W) (hW:W<=8) {m:Int} (hm:((W:Nat):Int)=m) (hl:l.length+W<=ZbM) {σ:Za} (t r g:Nat) {sq:Nat} (htr:t≠r) (hf:σ[sq]?=some .free) (hs0:σ[t]?=some (.var (wv r g l.length))) (hr:σ[r]?=some (.row g 1 (l.map Zc))) :
  Zk E1 BY σ sq 40 1 true [.ref t 0,.int .i64 n,.int .i64 m]=some (.tup [],(σ.set t (.var (wv r (g+1) (l++beB (ZC n) W).length))).set r (.row (g+1) 1 ((l++beB (ZC n) W).map Zc)),{ any:=true,upd:=[(t,wv r (g+1) (l++beB (ZC n) W).length)] }):=by
 subst hm
 exact Zhf (args:=[.int .i64 n,.int .i64 (W:Nat)]) rfl ⟨rfl,rfl⟩ 1 (by omega) (ZxF l n W h1 hW hl) (by kernel_rfl) rfl rfl htr (ff1 hf) hs0 hr
def Zab (b:Bool) (n:Int):Int:=if b then n else 0
theorem ZP4 (b:Bool) (n:Int):E 28 [.bool b,.int .i64 n] []=some (.int .i64 (Zab b n),[]):=by
 rw [Zg (by rfl) ZI9]
 unfold Zab
 cases b <;> simp -implicitDefEqProofs only [EQA,Nat.reduceLT,Nat.reduceEqDiff,reduceCtorEq,↓reduceIte,ZHQ,Znu,ZFZ,oI]
theorem Zjt (b:Bool) (n:Int) (σ:Za) (sq own:Nat):Zk E1 BY σ sq 28 own true [.bool b,.int .i64 n]=some (.int .i64 (Zab b n),σ,{}) :=
 Zbj (ZbB (ZP4 b n) (by kernel_rfl) rfl rfl rfl (fun _=>rfl) _ _ _)
end
section
def Zt (p:Zs):List AVal:=[.int .i64 p.type,.bool p.dup,.int .i64 p.qos,.bool p.retain,.int .i64 p.id,.str p.topic,.lst false (p.payload.map Zc),.int .i64 p.code,.lst false (p.codes.map (AVal.int .i64)),.lst false (p.props.map Zj),.lst false (p.subs.map ZY),.lst false (p.filters.map AVal.str),.bool p.clean,.int .i64 p.keep,.str p.client,.bool p.hasWill,.str p.will.topic,.lst false (p.will.data.map Zc),.int .i64 p.will.qos,.bool p.will.retain,.lst false (p.will.props.map Zj),.bool p.hasUser,.str p.user,.bool p.hasPassword,.lst false (p.password.map Zc),.bool p.present]
theorem ZbD (p:Zs):Zaj p=.agg (Zt p):=rfl
theorem ZbR (p:Zs):(Zt p).length=26:=rfl
theorem ZdX (p:Zs):Z7 (.agg (Zt p))=true:=rfl
theorem Zd6 (p:Zs):ZG (.agg (Zt p))=.agg (Zt p):=rfl
theorem Zcn (p:Zs):(Zt p).take 26=Zt p:=rfl
theorem ZuX (p:Zs):Zr (Zt p)=[]:=by
 have h:=ZvL (ZdX p)
 rw [Zd6] at h
 simpa [ZZ] using h
structure OkW (p:Zs):Prop where
 topic:p.topic.length<=9223372036854775807
 payload:p.payload.length<=1099511627776
 codes:p.codes.length<=1048576
 props:p.props.length<=700000000/\∀ q ∈ p.props,ZeX q
 subs:p.subs.length<=1048576/\∀ s ∈ p.subs,s.filter.length<=9223372036854775807
 filters:p.filters.length<=1048576/\∀ f ∈ p.filters,f.length<=9223372036854775807
 client:p.client.length<=9223372036854775807
 wtopic:p.will.topic.length<=9223372036854775807
 wdata:p.will.data.length<=9223372036854775807
 wprops:p.will.props.length<=700000000/\∀ q ∈ p.will.props,ZeX q
 user:p.user.length<=9223372036854775807
 password:p.password.length<=9223372036854775807
def wO:Option Zb->Za
 | none=>[.var wn]
 | some l=>wH 0 l
theorem Zd7 {j g:Nat} {l:Zb} {σ:Za} (hj:j≠0) (h0:σ[0]?=some (.var (wv j g l.length))) (h1:σ[j]?=some (.row g 1 (l.map Zc))):Zam 1 σ (.tup [])=some (.tup [],wH 0 l):=by
 have d0:σ.getD 0 .free=.var (wv j g l.length):=by simp [List.getD_eq_getElem?_getD,h0]
 have d1:σ.getD j .free=.row g 1 (l.map Zc):=by simp [List.getD_eq_getElem?_getD,h1]
 have ej:([0]:List Nat).contains j=false:=by simp;omega
 have hrf:Zr (wv j g l.length)=[j]:=rfl
 have hi:ZA 1 [.tup []] σ=[0,j]:=by
  have : Zr [AVal.tup []]=[]:=rfl
  have hR:List.range 1=[0]:=rfl
  simp only [ZA,this,List.nil_append,hR,List.flatMap_cons,List.flatMap_nil,List.append_nil,d0,ZP,hrf]
  rw [show (1000:Nat)=998+1+1 from rfl,Zy,ej]
  simp only [Bool.false_eq_true,if_false,d1,ZP,List.nil_append]
  rfl
 have hρ:Zn σ 1 [0,j] j g=some (1,0):=by
  have : ¬(0:Nat)=j:=fun e=>hj e.symm
  simp [Zn,Z0,Zp,ZT,h1,this]
 have hren:Zf (Zn σ 1 [0,j]) (wv j g l.length)=wv 1 0 l.length:=by simp only [wv,Zf,Zl,hρ]
 have ht:Zf (Zn σ 1 [0,j]) [AVal.tup []]=[.tup []]:=rfl
 simp only [Zam,gcA,hi,ht,Zu,d0,d1,ZT,Zp,ZH,hren,wH]
 simp
theorem ZL2 (σ:Za):Zam 1 (.var wn::σ) (.tup [])=some (.tup [],[.var wn]):=rfl
theorem ZNY (l:Zb) (σ:Za):Zam 2 (.var (wv 1 0 l.length)::.row 0 1 (l.map Zc)::σ) (.tup [])=some (.tup [],wH 0 l):=by
 simp [Zam,gcA,ZA,Zr,ZZ,List.range,List.range.loop,ZP,wv,Zy,Zn,Z0,Zu,ZT,Zp,ZH,Zf,Zl,wH]
def ZbL (p:Zs):Zb:=if p.code≠0\/p.props≠[] then beB (ZC p.code) 1++(if p.props≠[] then (Zap p.type p.props).1 else []) else []
def Zc4 (p:Zs):Option Zb:=if p.code≠0\/p.props≠[] then some (ZbL p) else none
theorem Zey:ZbM=70368744177664:=rfl
section
variable (p:Zs) (h:OkW p)
include h
theorem Zvf:E1 44 [.ref 0 0,Zaj p] [.var wn]=some (.tup [],wO (Zc4 p)):=by
 have l2:=Zdy p.type p.props
 have l1:=ZaN 1 (ZC p.code)
 have hN:=fun {σ:Za} {t sq:Nat}=>ZkW p.code 1 (by omega) (by omega) (m:=1) rfl (σ:=σ) (t:=t) (sq:=sq)
 have hPr:=fun {σ:Za} {sq:Nat}=>Zgz (beB (ZC p.code) 1) p.type p.props h.props.1 h.props.2 (by rw [Zey];omega) (σ:=σ) 0 2 0 (sq:=sq) (by omega)
 have hO:=fun {j g:Nat} {l:Zb} {σ:Za}=>Zd7 (j:=j) (g:=g) (l:=l) (σ:=σ)
 have hl:(p.props.map Zj).length=p.props.length:=by simp
 rw [ZbD]
 have e1:=Zcn p
 have e0:=ZbR p
 have a0:(Zt p)[0]?=some (.int .i64 p.type):=rfl
 have a7:(Zt p)[7]?=some (.int .i64 p.code):=rfl
 have a9:(Zt p)[9]?=some (.lst false (p.props.map Zj)):=rfl
 unfold Zc4 ZbL
 generalize Zt p=P at *
 generalize p.type=ty at *
 generalize p.code=c at *
 generalize p.props=ps at *
 rw [Zbv (by rfl) Zr9]
 by_cases hc:c=0
 ·have b1:(c != 0)=false:=by simp [hc]
  cases ps with
  | nil =>
   rw [if_neg (by simp [hc])]
   unfold wn wO at *
   simp -implicitDefEqProofs only [EQA,Zq,Z4,ZwB,Nat.reduceAdd,Nat.reduceLT,Nat.reduceEqDiff,Nat.reduceBEq,ZF,unG,reduceCtorEq,decide_eq_true_eq,↓reduceIte,Zd,ZfA,Zeo,ZfV,oI,AVal.cells,a0,a7,a9,b1]
   exact ZL2 []
  | cons q ps =>
   rw [if_pos (by simp)]
   have g0:((((q::ps).map Zj).length:Nat):Int) > 0:=by simp
   rw [if_pos (by simp)]
   generalize (Zap ty (q::ps)).1=B at *
   generalize (q::ps).map Zj=qs at *
   generalize beB (ZC c) 1=D at *
   unfold wn wO at *
   simp -implicitDefEqProofs only [EQA,Zq,Nat.reduceAdd,Nat.reduceLT,Nat.reduceEqDiff,Nat.reduceBEq,ZF,unG,reduceCtorEq,↓reduceIte,Zd,ZfA,Zeo,ZfV,oI,AVal.cells,a0,a7,a9,b1,g0,hN,hPr]
   exact hO (j:=2) (by decide) rfl rfl
 ·have b1:(c != 0)=true:=by simp [hc]
  rw [if_pos (by simp [hc]),if_pos (by simp [hc])]
  cases ps with
  | nil =>
   rw [if_neg (by simp),List.append_nil]
   generalize beB (ZC c) 1=D at *
   unfold wn wO at *
   simp -implicitDefEqProofs only [EQA,Zq,Nat.reduceAdd,Nat.reduceLT,Nat.reduceEqDiff,Nat.reduceBEq,ZF,Zaw,reduceCtorEq,decide_eq_true_eq,↓reduceIte,Zd,ZfA,Zeo,ZfV,oI,AVal.cells,a0,a7,a9,b1,hN]
   exact hO (j:=2) (by decide) rfl rfl
  | cons q ps =>
   have g0:((((q::ps).map Zj).length:Nat):Int) > 0:=by simp
   rw [if_pos (by simp)]
   generalize (Zap ty (q::ps)).1=B at *
   generalize (q::ps).map Zj=qs at *
   generalize beB (ZC c) 1=D at *
   unfold wn wO at *
   simp -implicitDefEqProofs only [EQA,Zq,Nat.reduceAdd,Nat.reduceLT,Nat.reduceEqDiff,Nat.reduceBEq,ZF,Zaw,reduceCtorEq,↓reduceIte,Zd,ZfA,Zeo,ZfV,oI,AVal.cells,a0,a7,a9,b1,g0,hN,hPr]
   exact hO (j:=2) (by decide) rfl rfl
theorem ZOx (l:Zb) (hl:l.length<=1000000000):E1 44 [.ref 0 0,Zaj p] (wH 0 l)=some (.tup [],if ZbL p=[] then wH 0 l else wH 1 (l++ZbL p)):=by
 have l2:=Zdy p.type p.props
 have l1:=ZaN 1 (ZC p.code)
 have hN:=fun {σ:Za} {sq:Nat}=>ZfW l p.code 1 (by omega) (by omega) (m:=1) rfl (by rw [Zey];omega) (σ:=σ) 0 1 0 (sq:=sq) (by omega)
 have hPr:=fun {σ:Za} {sq:Nat}=>Zgz (l++beB (ZC p.code) 1) p.type p.props h.props.1 h.props.2 (by rw [Zey,List.length_append];omega) (σ:=σ) 0 1 1 (sq:=sq) (by omega)
 have hl:(p.props.map Zj).length=p.props.length:=by simp
 rw [ZbD]
 have e1:=Zcn p
 have e0:=ZbR p
 have a0:(Zt p)[0]?=some (.int .i64 p.type):=rfl
 have a7:(Zt p)[7]?=some (.int .i64 p.code):=rfl
 have a9:(Zt p)[9]?=some (.lst false (p.props.map Zj)):=rfl
 obtain ⟨R,hR⟩:∃ R,R=ZbL p:=⟨_,rfl⟩
 rw [<-hR]
 unfold ZbL at hR
 generalize Zt p=P at *
 generalize p.type=ty at *
 generalize p.code=c at *
 generalize p.props=ps at *
 rw [Zbv (by rfl) Zr9]
 by_cases hc:c=0
 ·have b1:(c != 0)=false:=by simp [hc]
  cases ps with
  | nil =>
   rw [if_neg (by simp [hc])] at hR
   subst hR
   rw [if_pos rfl]
   unfold wH at *
   simp -implicitDefEqProofs only [EQA,ZwB,Nat.reduceAdd,Nat.reduceLT,Nat.reduceEqDiff,Nat.reduceBEq,ZF,unG,reduceCtorEq,decide_eq_true_eq,↓reduceIte,ZfA,Zeo,ZfV,oI,AVal.cells,a0,a7,a9,b1]
   exact ZNY _ _
  | cons q ps =>
   have g0:((((q::ps).map Zj).length:Nat):Int) > 0:=by simp
   rw [if_pos (by simp),if_pos (by simp)] at hR
   subst hR
   rw [if_neg (by intro e;have:=congrArg List.length e;simp [l1] at this)]
   generalize (Zap ty (q::ps)).1=B at *
   generalize (q::ps).map Zj=qs at *
   generalize beB (ZC c) 1=D at *
   rw [<-List.append_assoc]
   unfold wH at *
   simp -implicitDefEqProofs only [EQA,Nat.reduceAdd,Nat.reduceLT,Nat.reduceEqDiff,Nat.reduceBEq,ZF,unG,reduceCtorEq,↓reduceIte,ZfA,Zeo,ZfV,oI,AVal.cells,a0,a7,a9,b1,g0,hN,hPr]
   exact ZgH _ 1 _
 ·have b1:(c != 0)=true:=by simp [hc]
  rw [if_pos (by simp [hc])] at hR
  cases ps with
  | nil =>
   rw [if_neg (by simp),List.append_nil] at hR
   subst hR
   rw [if_neg (by intro e;have:=congrArg List.length e;simp [l1] at this)]
   generalize beB (ZC c) 1=D at *
   unfold wH at *
   simp -implicitDefEqProofs only [EQA,Nat.reduceAdd,Nat.reduceLT,Nat.reduceEqDiff,Nat.reduceBEq,ZF,Zaw,reduceCtorEq,decide_eq_true_eq,↓reduceIte,ZfA,Zeo,ZfV,oI,AVal.cells,a0,a7,a9,b1,hN]
   exact ZgH _ 0 _
  | cons q ps =>
   have g0:((((q::ps).map Zj).length:Nat):Int) > 0:=by simp
   rw [if_pos (by simp)] at hR
   subst hR
   rw [if_neg (by intro e;have:=congrArg List.length e;simp [l1] at this)]
   generalize (Zap ty (q::ps)).1=B at *
   generalize (q::ps).map Zj=qs at *
   generalize beB (ZC c) 1=D at *
   rw [<-List.append_assoc]
   unfold wH at *
   simp -implicitDefEqProofs only [EQA,Nat.reduceAdd,Nat.reduceLT,Nat.reduceEqDiff,Nat.reduceBEq,ZF,Zaw,reduceCtorEq,↓reduceIte,ZfA,Zeo,ZfV,oI,AVal.cells,a0,a7,a9,b1,g0,hN,hPr]
   exact ZgH _ 1 _
def ZfG (p:Zs):Nat:=if ZbL p=[] then 0 else 1
theorem Zy6 (l:Zb) (hl:l.length<=1000000000) {σ:Za} (t r g:Nat) {sq:Nat} (htr:t≠r) (hf:σ[sq]?=some .free) (hs0:σ[t]?=some (.var (wv r g l.length))) (hr:σ[r]?=some (.row g 1 (l.map Zc))) :
  Zk E1 BY σ sq 44 1 true [.ref t 0,.agg (Zt p)]=some (.tup [],(σ.set t (.var (wv r (g+ZfG p) (l++ZbL p).length))).set r (.row (g+ZfG p) 1 ((l++ZbL p).map Zc)),{ any:=true,upd:=[(t,wv r (g+ZfG p) (l++ZbL p).length)] }):=by
 have hw:=ZOx p h l hl
 have hw':E1 44 [.ref 0 0,Zaj p] (wH 0 l)=some (.tup [],wH (ZfG p) (l++ZbL p)):=by
  rw [hw]
  unfold ZfG
  split
  ·rename_i e;rw [e,List.append_nil]
  ·rfl
 exact Zhf (args:=[.agg (Zt p)]) rfl ⟨rfl,rfl⟩ (ZfG p) (by unfold ZfG;split <;> omega) hw' (by kernel_rfl) (by rw [List.all_cons,ZdX];rfl) (by rw [List.map_cons,Zd6];rfl) htr (ff1 hf) hs0 hr
def ZbT (p:Zs):Zb:=beB (ZC p.id) 2++(Zap p.type p.props).1
theorem ZHH:E1 45 [.ref 0 0,Zaj p] [.var wn]=some (.tup [],wH 0 (ZbT p)):=by
 have l2:=Zdy p.type p.props
 have l1:=ZaN 2 (ZC p.id)
 have hN:=fun {σ:Za} {t sq:Nat}=>ZkW p.id 2 (by omega) (by omega) (m:=2) rfl (σ:=σ) (t:=t) (sq:=sq)
 have hPr:=fun {σ:Za} {sq:Nat}=>Zgz (beB (ZC p.id) 2) p.type p.props h.props.1 h.props.2 (by rw [Zey];omega) (σ:=σ) 0 2 0 (sq:=sq) (by omega)
 have hO:=fun {j g:Nat} {l:Zb} {σ:Za}=>Zd7 (j:=j) (g:=g) (l:=l) (σ:=σ)
 rw [ZbD]
 have e0:=ZbR p
 have a0:(Zt p)[0]?=some (.int .i64 p.type):=rfl
 have a4:(Zt p)[4]?=some (.int .i64 p.id):=rfl
 have a9:(Zt p)[9]?=some (.lst false (p.props.map Zj)):=rfl
 unfold ZbT
 generalize Zt p=P at *
 generalize p.type=ty at *
 generalize p.id=c at *
 generalize p.props=ps at *
 generalize (Zap ty ps).1=B at *
 generalize ps.map Zj=qs at *
 generalize beB (ZC c) 2=D at *
 rw [Zbv (by rfl) ZJ9]
 unfold wn at *
 simp -implicitDefEqProofs only [EQA,Zq,Nat.reduceAdd,Nat.reduceLT,Nat.reduceEqDiff,Nat.reduceBEq,reduceCtorEq,↓reduceIte,Zd,Zzq,Zrc,Zw1,oI,AVal.cells,a0,a4,a9,hN,hPr]
 exact hO (j:=2) (by decide) rfl rfl
theorem Zpx {σ:Za} {t sq:Nat} (hf:σ[sq]?=some .free) (hs0:σ[t]?=some (.var wn)) :
  Zk E1 BY σ sq 45 1 true [.ref t 0,.agg (Zt p)]=some (.tup [],(σ.set t (.var (wv sq 0 (ZbT p).length))).set sq (.row 0 1 ((ZbT p).map Zc)),{ any:=true,upd:=[(t,wv sq 0 (ZbT p).length)] }) :=
 Zgr (args:=[.agg (Zt p)]) rfl rfl (ZHH p h) (by kernel_rfl) (by rw [List.all_cons,ZdX];rfl) (by rw [List.map_cons,Zd6];rfl) hf hs0
end
end
section
theorem ZdL (w:Int) (b:Zb):(ZV w b).2.1<=b.length:=by
 unfold ZV
 split
 ·simp
 ·rename_i h
  split
  ·simp only
   have : ¬(((ZS b).1:Int) > (b.length:Int) - ((ZS b).2.1:Nat)):=fun e=>h (Or.inr e)
   omega
  ·simp
def Zan:Zs:=⟨0,false,0,false,0,[],[],0,[],[],[],[],false,0,[],false,⟨[],[],0,false,[]⟩,false,[],false,[],false⟩
theorem ZlM (σ:Za):Zar σ P0=some (Zt Zan,[]):=rfl
theorem ZqT (q:Zs) (ρ:Rho):Zf ρ (Zt q)=Zt q:=by
 have h:=ZsM (ρ:=ρ) (ZdX q)
 rw [Zd6,Zl] at h
 injection h
theorem ZJt {Q:List AVal} {q:Zs} (c:Int) (h:∀ σ,Zar σ Q=some (Zt q,[])):Zbn 0 (some (.tup [.agg Q,.int .i64 c],[]))=some (.tup [Zaj q,.int .i64 c],[]):=by
 have h1:viewR [] (.tup [.agg Q,.int .i64 c])=some (.tup [Zaj q,.int .i64 c],[]):=by
  rw [viewR,viewAs,ZL,h]
  rfl
 unfold Zbn
 simp only [h1]
 have e1:=ZuX q
 have e2:=ZqT q
 have hi:ZA 0 [AVal.tup [Zaj q,.int .i64 c]] []=[]:=by
  have : Zr [AVal.tup [Zaj q,.int .i64 c]]=[]:=by simp [Zr,ZZ,ZbD,e1]
  simp only [ZA,this,List.nil_append,List.range_zero,List.flatMap_nil]
  rfl
 simp only [Zo,gcA,hi,Zf,Zl,Zu]
 rw [ZbD,Zl,e2]
def ZiC (b:Int) (l:Zb):Zs×Int :=
 if qoI b < 3 then (if qoI b > 0\/(Zbf b 8 != 0)=false then (match ZeT (qoI b) l with
  | .error e=>(Zan,e)
  | .ok (tp,n,ps,pay)=>({ Zan with type:=3,dup:=(Zbf b 8 != 0),qos:=qoI b,retain:=(Zbf b 1 != 0),id:=n,topic:=tp,props:=ps,payload:=pay },0))
  else (Zan,130)) else (Zan,129)
theorem ZPS (b:Int) (h3:tyI b=3) (l:Zb) (hl:l.length<=140737488355328):∃ Q,E1 29 [.agg [.int .u8 b,.lst false (l.map Zc)]] []=some (.tup [.agg Q,.int .i64 (ZiC b l).2],[])/\∀ σ,Zar σ Q=some (Zt (ZiC b l).1,[]):=by
 have hf:=ZKc P0 rfl (by rfl) b l h3
 have hQ:(ZcO P0 b).length=26:=rfl
 have hN:Zd (ZcO P0 b)=true:=by rfl
 unfold ZiC
 by_cases hq:qoI b < 3
 ·rw [if_pos hq] at hf ⊢
  by_cases hd:qoI b > 0\/(Zbf b 8 != 0)=false
  ·rw [if_pos hd] at hf ⊢
   cases hp:ZeT (qoI b) l with
   | error e =>
    obtain ⟨cs,hn,hb⟩:=ZJy (ZcO P0 b) hQ hN (qoI b) rfl rfl l hl hp
    refine ⟨P0,?_,ZlM⟩
    rw [ZgB]
    exact ZgX b e l (ZuJ b l hQ hN hn hf hb)
   | ok s =>
    obtain ⟨tp,n,ps,pay⟩:=s
    have hb:=ZFP (ZcO P0 b) hQ hN (qoI b) rfl rfl rfl (fun r _=>ZdL 3 r) l hl hp
    refine ⟨((((ZcO P0 b).set 5 (.str tp)).set 4 (.int .i64 n)).set 9 (.lst false (ps.map Zj))).set 6 (.lst false (pay.map Zc)),?_,fun σ=>rfl⟩
    rw [ZgB]
    exact Zsg b l hQ hN rfl (by rfl) rfl rfl hf hb
  ·rw [if_neg hd] at hf ⊢
   refine ⟨P0,?_,ZlM⟩
   rw [ZgB]
   exact ZgX b 130 l (ZjU b l (Zw _ hQ hN _ _) hf)
 ·rw [if_neg hq] at hf ⊢
  refine ⟨P0,?_,ZlM⟩
  rw [ZgB]
  exact ZgX b 129 l (ZjU b l (Zw _ hQ hN _ _) hf)
end
end Go.Proofs.YthfdocdjpdkmoaaGreatDoor
