/- packed -/
import Derived.Test.YtlekmfmkkcpbcaaDoorMq2
import Derived.Test.YtlekmfmkkcpbcaaDoorProg
import Derived.Deep.Slices
import Derived.ChangeArms
import Derived.WideShapes
import GoSem.ClaimChange
import Derived.Shelf.Sort.Plain
import Derived.Shelf.Slices.In.SortNone
import Derived.Shelf.Slices.In.SortNone2
import Derived.Shelf.Small.Strs
import Derived.Shelf.Strings.Search1
import Derived.Shelf.Strings.Count
import Derived.Shelf.Unicode.ValidAny
import Derived.Lib.TrimUEq
import Derived.Lib.MapLaws
import Derived.Lib.ValidLaws
set_option linter.defProp false
set_option linter.unusedSectionVars false
set_option linter.unusedSimpArgs false
set_option linter.unusedVariables false
open Option.some renaming injEq→Xa,inj→WU
open Bool renaming decide_eq_true→Xb,not_eq_true→Xd,false_eq_true→Xq,and_eq_true→XE,and_self→WD,false_and→Xap,and_true→XaV,true_and→Xbt
open List renaming range_succ→Xc,getD_cons_zero→Xm,getD_cons_succ→Xn,contains_nil→Xo,all_cons→Xp,length_cons→Xr,all_nil→Xs,length_nil→Xt,getElem?_eq_some_iff→Xu,nil_append→Xv,append_nil→Xw,getD_eq_getElem?_getD→Xz,getElem?_set→XB,flatMap_cons→XD,cons_append→XG,mem_append→XL,flatMap_nil→XM,mem_of_getElem?→XN,map_cons→XS,mem_cons→XV,getElem?_eq_getElem→XY,replicate→XZ,mem_map→X0,all_eq_true→X1,isEmpty_cons→X8,mem_singleton→Wa,getElem?_map→Wh,drop_eq_nil_iff→Wl,map_append→Wm,map_nil→Wr,nodup_append→WG,length_drop→WJ,range→WS,map_map→W5,mem_range→Xaq,drop_drop→XaZ,nodup_range→Xbe,contains_eq_mem→Xbg
open Nat renaming reduceLeDiff→Xe,reduceEqDiff→Xf,reduceAdd→Xh,reduceSub→Xi,reduceBEq→Xj,reduceMul→Xk,reduceLT→Xl,zero_add→XX,le_refl→X5,add_zero→Wx,add_assoc→WW,lt_or_ge→XaP,zero_mul→Xbx
open Prod.mk renaming injEq→Xg
open Option renaming map_eq_some_iff→XI,map_some→We,map→Wt
open Or renaming inl→XK,inr→XO
open Array renaming getElem?_eq_some_iff→XW
open Int renaming toNat_natCast→Wk,toNat_zero→WB,le_refl→WQ
open Ne renaming symm→W0
namespace Go.Proofs.YtlekmfmkkcpbcaaDoor
set_option maxHeartbeats 16000000
set_option maxRecDepth 10000
section
def ZeF {α:Type} (d:α):List (Nat×α)->Nat->α
 | [],_=>d
 | (k,v)::r,n=>if k=n then v else ZeF d r n
def Zas (own raw:List Nat) (cfg cfg2:List (Nat×Nat×Bool)) (lr ll:List (Nat×List Nat)):Ann:={ own:=fun n=>if own.contains n then 1 else if raw.contains n then 2 else if raw.contains (n+1000000) then 3 else if raw.contains (n+2000000) then 4 else if raw.contains (n+3000000) then 5 else if raw.contains (n+4000000) then 6 else 0,cfg:=ZeF (0,true) cfg,cfg2:=ZeF (0,true) cfg2,lr:=ZeF [] lr,ll:=ZeF [] ll }
def ZGT:List (Nat×Ann):=[
 (7,Zas [] [3000022,3000037] [] [] [(0,[8,2,1,0]),(1,[26,2,1,0]),(2,[])] []),
 (9,Zas [] [3000014] [(27,1,false),(26,0,false)] [] [(0,[2,1,0]),(1,[7,2,1,0]),(2,[8,7,1,0]),(3,[]),(4,[29,8,7,1,0]),(5,[6]),(6,[32,8,7,1,0]),(7,[]),(8,[6])] []),
 (16,Zas [] [] [(28,1,false)] [] [(0,[3,0]),(1,[4])] []),
 (4,Zas [] [3000001] [] [] [(0,[]),(1,[0])] []),
 (18,Zas [] [] [] [] [(0,[4,3,2,1,0]),(1,[12,3,2]),(2,[13,12,2]),(3,[27,13,12,2]),(4,[12,2]),(5,[31,12,2]),(6,[11,10]),(7,[11,10])] []),
 (12,Zas [] [] [(9,1,true)] [] [(0,[3,2]),(1,[5,3,2]),(2,[13,12,11,5,3,2]),(3,[14,13,12,11,5,3,2]),(4,[13,12,11,7,5,3,2]),(5,[13,12,11,5,3,2]),(6,[13,12,11,5,3,2]),(7,[4])] [(3,[13,12,11,5,3,2])]),
 (29,Zas [] [] [] [] [(0,[2,1,0]),(1,[4])] []),
 (7,Zas [] [] [] [] [(0,[8,2,1,0]),(1,[26,2,1,0]),(2,[])] []),
 (9,Zas [] [] [(27,1,false),(26,0,false)] [] [(0,[2,1,0]),(1,[7,2,1,0]),(2,[8,7,1,0]),(3,[]),(4,[29,8,7,1,0]),(5,[6]),(6,[32,8,7,1,0]),(7,[]),(8,[6])] []),
 (16,Zas [] [] [] [] [(0,[3,0]),(1,[4])] []),
 (31,Zas [] [] [] [] [(0,[1,0]),(1,[5,1]),(2,[3])] []),
 (14,Zas [] [] [(27,1,false)] [] [(0,[1,0]),(1,[4])] []),
 (65,Zas [] [] [] [] [(0,[1,0]),(1,[4])] []),
 (19,Zas [] [] [] [] [(0,[4,3,2,1,0]),(1,[12,4,3,2]),(2,[14,13,12,4,3,2]),(3,[15,14,13,12,4,3,2]),(4,[23,15,14,13,12,4,3,2]),(5,[15,14,13,12,4,3,2]),(6,[31,15,14,13,12,4,3,2]),(7,[15,14,13,12,4,3,2]),(8,[44,15,14,13,12,4,3,2]),(9,[15,14,13,12,4,3,2]),(10,[54,14,13,2]),(11,[13,2]),(12,[58,13,2]),(13,[11,10]),(14,[16,13]),(15,[64,16,13]),(16,[16,13]),(17,[11,10])] [(4,[15,14,13,12,4,3,2])]),
 (13,Zas [] [] [(10,1,true)] [] [(0,[1,0]),(1,[5,1,0]),(2,[6,5,1,0]),(3,[14,6,5,1,0]),(4,[6,5,1,0]),(5,[26,6,5,1,0]),(6,[6,5,1,0]),(7,[7,5,1,0]),(8,[40,7,5,1,0]),(9,[7,5,1,0]),(10,[7,5,1,0]),(11,[4])] [(3,[6,5,1,0]),(8,[7,5,1,0])]),
 (8,Zas [] [] [] [] [(0,[8,2,1,0]),(1,[22,2,1,0]),(2,[])] []),
 (10,Zas [] [] [] [] [(0,[2,1,0]),(1,[7,0]),(2,[14,7,0]),(3,[6]),(4,[8,7,0]),(5,[]),(6,[6])] []),
 (17,Zas [] [] [] [] [(0,[1,0]),(1,[5,1]),(2,[6,5,1]),(3,[7,6,5,1]),(4,[16,7,6,5,1]),(5,[7,6,5,1]),(6,[9,7,6,5,1]),(7,[30,7,6,5,1]),(8,[7,6,5,1]),(9,[4])] [(4,[7,6,5,1])]),
 (15,Zas [] [] [] [] [(0,[1,0]),(1,[5,1,0]),(2,[6,5,1,0]),(3,[13,6,5,1,0]),(4,[6,5,1,0]),(5,[25,6,5,1,0]),(6,[6,5,1,0]),(7,[4])] [(3,[6,5,1,0])]),
 (20,Zas [] [] [] [] [(0,[0]),(1,[3,0]),(2,[4,3,0]),(3,[11,4,3,0]),(4,[4,3,0]),(5,[4,3,0]),(6,[2])] [(3,[4,3,0])]),
 (24,Zas [] [] [] [] [(0,[2,1,0]),(1,[7,2,1,0]),(2,[14,7,2,1,0]),(3,[7,2,1,0]),(4,[38,7,2,1,0]),(5,[6]),(6,[6])] [(2,[7,2,1,0])]),
 (73,Zas [] [] [] [] [(0,[1,0]),(1,[4])] []),
 (91,Zas [] [] [] [] [(0,[0]),(1,[2])] []),
 (4,Zas [] [] [] [] [(0,[]),(1,[0])] []),
 (34,Zas [] [] [] [] [(0,[2,1,0]),(1,[7,2,1,0]),(2,[12,11,10,7,2,1]),(3,[13,12,11,10,7,2,1]),(4,[12,11,10,9,7,2,1]),(5,[20,12,11,10,9,7,2,1]),(6,[12,11,10,7,2,1]),(7,[12,11,10,7,2,1]),(8,[6])] [(3,[12,11,10,7,2,1])]),
 (35,Zas [] [] [] [] [(0,[1,0]),(1,[1,0]),(2,[9,1,0]),(3,[0]),(4,[4])] []),
 (52,Zas [] [] [] [] [(0,[1,0]),(1,[7,1,0]),(2,[12,7,1,0]),(3,[6,5,4]),(4,[6,5,4])] []),
 (51,Zas [] [] [] [] [(0,[1,0]),(1,[9,1,0]),(2,[5,4]),(3,[5,4])] []),
 (59,Zas [] [] [] [] [(0,[1,0]),(1,[4])] []),
 (60,Zas [] [] [] [] [(0,[1,0]),(1,[5,1,0]),(2,[16,5,1,0]),(3,[4]),(4,[24,5,1,0]),(5,[4]),(6,[31]),(7,[4]),(9,[4]),(10,[6,5,1,0]),(11,[7,6,5,1,0]),(12,[8,7,6,5,1,0]),(13,[9,8,7,6,5,1,0]),(14,[10,9,8,7,6,5,1,0]),(15,[59,10,9,8,7,6,5,1,0]),(16,[64,10,9,8,7,6,5,1,0]),(17,[11,10,8,7,5,1,0]),(18,[73,11,10,8,7,5,1,0]),(19,[4]),(20,[10,8,7,5,1,0]),(21,[93,10,8]),(22,[4]),(23,[10]),(24,[]),(26,[12,8]),(27,[114,12,8]),(28,[4]),(29,[4]),(31,[13,8]),(32,[139,13,8]),(33,[4]),(34,[4]),(35,[4])] [(15,[10,9,8,7,6,5,1,0])]),
 (57,Zas [] [] [] [] [(0,[0]),(1,[2]),(2,[2])] []),
 (76,Zas [] [] [] [] [(0,[2,0]),(1,[4,2,0]),(2,[0]),(3,[2,0]),(4,[8,2,0]),(5,[2,0]),(6,[2,0]),(7,[2])] []),
 (77,Zas [] [] [] [] [(0,[2,0]),(1,[4,2,0]),(2,[0]),(3,[2,0]),(4,[8,2,0]),(5,[2,0]),(6,[2,0]),(7,[14,2,0]),(8,[2,0]),(9,[2,0]),(10,[2])] []),
 (53,Zas [] [] [] [] [(0,[0]),(1,[6,0]),(2,[8,7,6,0]),(3,[6,4,0]),(4,[11,6,0]),(5,[2]),(6,[2])] [(2,[6,0])]),
 (22,Zas [] [] [] [] [(0,[1,0]),(1,[4])] []),
 (26,Zas [] [] [] [] [(0,[2,1,0]),(1,[2,1,0]),(2,[16,2,1,0]),(3,[6]),(4,[7,2,1,0]),(5,[7,0]),(6,[0]),(7,[6])] []),
 (25,Zas [] [] [] [] [(0,[1,0]),(1,[8,7,1,0]),(2,[9,8,7,1,0]),(3,[8,7,5,1,0]),(4,[16,8,7,5,1,0]),(5,[4]),(6,[8,7,1,0]),(7,[4])] [(2,[8,7,1,0])]),
 (47,Zas [] [] [] [] [(0,[2,0]),(1,[])] []),
 (69,Zas [] [] [] [] [(0,[6,1,0]),(1,[15,6,1,0]),(2,[7,6,1,0]),(3,[8,7,6,1,0]),(4,[9,8,7,6,1,0]),(5,[33,9,8,7,6,1,0]),(6,[9,8,7,6,1,0]),(7,[10,9,8,7,6,1,0]),(8,[43,10,9,8,7,6,1,0]),(9,[10,9,8,7,6,1,0]),(10,[9,8,7,6,1,0])] [(5,[9,8,7,6,1,0])]),
 (70,Zas [] [] [] [] [(0,[2,1,0]),(1,[8,1,0]),(2,[9,8,1,0]),(3,[10,9,8,1,0]),(4,[11,10,9,8,1,0]),(5,[12,11,10,9,8,0]),(6,[32,12,11,10,9,8,0]),(7,[34,12,11,10,9,0]),(8,[12,11,10,9,0]),(9,[12,11,10,9,0]),(10,[12,11,10,9,0]),(11,[11,9]),(12,[49,11]),(13,[7,6]),(14,[51,49,11]),(15,[7,6]),(16,[54,11]),(17,[7,6])] []),
 (68,Zas [] [] [] [] [(0,[6,2,1,0]),(1,[7,6,2,1,0]),(2,[8,7,6,0]),(3,[9,8,7,6,0]),(4,[19,9,8,7,6,0]),(5,[9,8,7,6,0]),(6,[9,8,7,6,0]),(7,[10,7,6,0]),(8,[30,10,7,6,0]),(9,[10,7,6,0]),(10,[10,7,6,0]),(11,[10,7,6,0])] [(4,[9,8,7,6,0]),(8,[10,7,6,0])]),
 (67,Zas [] [] [] [] [(0,[6,2,1,0]),(1,[12,6,2,1,0]),(2,[6,2,1,0]),(3,[7,6,2,1,0]),(4,[30,7,6,2,1,0]),(5,[7,6,2,1,0]),(6,[7,6,2,1,0])] [(1,[6,2,1,0]),(4,[7,6,2,1,0])]),
 (89,Zas [] [] [] [] [(0,[2,1,0]),(1,[6])] []),
 (90,Zas [] [] [] [] [(0,[4,3,2,1,0]),(1,[4,3,2,1,0]),(2,[4,2,1,0]),(3,[2]),(4,[10])] []),
 (87,Zas [] [] [] [] [(0,[0]),(1,[2])] []),
 (97,Zas [] [] [] [] [(0,[3,2,1,0]),(1,[18,3,2,1]),(2,[2,1]),(3,[9,8]),(4,[9,8])] []),
 (72,Zas [] [] [] [] [(0,[2,1,0]),(1,[7,2,1,0]),(2,[8,7,2,1,0]),(3,[14,8,7,2,1,0]),(4,[8,7,2,1,0]),(5,[32,8,7,2,1,0]),(6,[8,7,2,1,0]),(7,[37,8,7,2,1,0]),(8,[6]),(9,[41,8,7,2,1,0]),(10,[6]),(11,[8,7,2,1,0]),(12,[61,8,7,2,1,0]),(13,[9,8,7,2,1,0]),(14,[65,9,8,7,2,1,0]),(15,[9,8,7,2,1,0]),(16,[78,9,8,7,2,1,0]),(17,[9,8,7,2,1,0]),(18,[98,8,7,2,1,0]),(19,[10,8,7,2,1,0]),(20,[103,10,8,7,2,1,0]),(21,[10,8,7,2,1,0]),(22,[116,10,8,7,2,1,0]),(23,[10,8,7,2,1,0]),(24,[6])] [(3,[8,7,2,1,0]),(5,[8,7,2,1,0]),(14,[9,8,7,2,1,0]),(20,[10,8,7,2,1,0])]),
 (74,Zas [] [] [] [] [(0,[3,2,1,0]),(1,[2,1,0]),(2,[10,9,1,0]),(3,[43,10,9,1,0]),(4,[10,9,1,0]),(5,[59,10,9,1,0]),(6,[10,9,1,0]),(7,[64,10,9,1,0]),(8,[10,9,1,0]),(9,[10,9,1,0]),(10,[10,9,1,0]),(11,[8])] [(3,[10,9,1,0]),(5,[10,9,1,0])]),
 (75,Zas [] [] [] [] [(0,[3,2,1,0]),(1,[2,1,0]),(2,[11,10,1,0]),(3,[43,11,10,1,0]),(4,[11,10,1,0]),(5,[60,11,10,1,0]),(6,[11,10,1,0]),(7,[65,11,10,1,0]),(8,[11]),(9,[9,8]),(10,[11,10,1,0]),(11,[11,10,1,0]),(12,[11,10,1,0]),(13,[112,11,10,1,0]),(14,[11,10,1,0]),(15,[129,11,10,1,0]),(16,[11,10,1,0]),(17,[134,11,10,1,0]),(18,[11,10,1,0]),(19,[11,10,1,0]),(20,[11,10,1,0]),(21,[11]),(22,[9,8])] [(3,[11,10,1,0]),(5,[11,10,1,0]),(13,[11,10,1,0]),(15,[11,10,1,0])]),
 (56,Zas [] [] [] [] [(0,[8,3,2,1,0]),(1,[9,8,3,2,1,0]),(2,[10,9,8,3,2,1,0]),(3,[23,10,9,8,3,2,1,0]),(4,[]),(5,[29,10,9,8,3,2,1,0]),(6,[]),(7,[35,10,9,8,3,2,1,0]),(8,[10,9,8,3,2,1,0]),(9,[10,9,8,3,2,1,0]),(10,[12,11,10,9,8,3,2,1,0]),(11,[50,12,11,10,9,8,3,2,1,0]),(12,[11,10,9,8,3,2,1,0]),(13,[11,10,9,8,3,2,1,0]),(14,[12,11,10,9,8,3,2,1,0]),(15,[68,11,10,9,8,3,2,1,0]),(16,[72,11,10,9,8,3,2,1,0]),(17,[87,11,10,9,8,3,2,1,0]),(18,[13,9,8,3,2,0]),(19,[9,8,3,2,1,0]),(20,[15,14,10,3,2,1,0]),(21,[14,10,9,3,2,1,0]),(22,[17,16,14,10,9,3,2,1,0]),(23,[18,17,16,14,9,3,2,1,0]),(24,[113,18,17,16,14,9,3,2,1,0]),(25,[14,9,8,3,2,1,0]),(26,[14,9,8,3,2,0]),(27,[9,8,3,2,1,0]),(28,[14,9,8,3,2,1,0]),(29,[14,9,8,3,1,0]),(30,[9,8,3,2,1,0])] [(2,[9,8,3,2,1,0])]),
 (71,Zas [] [] [] [] [(0,[6,2,0]),(1,[7,6,0]),(2,[13,7,6,0]),(3,[7,6,0]),(4,[7,6,0]),(5,[7,6,0])] [(2,[7,6,0])]),
 (86,Zas [] [] [] [] [(0,[8,3,2,0]),(1,[9,8,3,2,0]),(2,[16,9,8,3,2,0]),(3,[36,9,8,3,2,0]),(4,[9,8,3,2,0]),(5,[52,9,8,3,2,0]),(6,[9,3,2,0]),(7,[8,3,2,0])] [(1,[8,3,2,0])]),
 (40,Zas [] [] [] [] [(0,[1,0]),(1,[4])] []),
 (38,Zas [] [] [] [] [(0,[1,0]),(1,[6,5,4])] []),
 (37,Zas [] [] [] [] [(0,[1,0]),(1,[5,4])] []),
 (94,Zas [] [] [] [] [(0,[1,0]),(1,[4])] []),
 (54,Zas [] [] [] [] [(0,[1,0]),(1,[12,1,0]),(2,[4]),(3,[15,1,0]),(4,[5,0]),(5,[20,5,0]),(6,[5,0]),(7,[4]),(8,[26,1,0]),(9,[7,6,1,0]),(10,[32,6,1,0]),(11,[8,6,0]),(12,[36,8,6,0]),(13,[8,6,0]),(14,[42,8,6,0]),(15,[4]),(16,[4]),(17,[45,1]),(18,[47,46,45,1]),(19,[45,10,9,1]),(20,[53,45,9,1]),(21,[4]),(22,[4])] [(12,[8,6,0]),(18,[45,1])]),
 (62,Zas [] [] [] [] [(0,[1,0]),(1,[7,0]),(2,[8,7,0]),(3,[9,8,7,0]),(4,[9,8,7,0]),(5,[26,9,8,7,0]),(6,[33,9,8,7,0]),(7,[11,9,8,7,0]),(8,[43,11,9,8,7,0]),(9,[4]),(10,[9,8,7,0]),(11,[12,9,8,7,0]),(12,[51,12,9,8,7,0]),(13,[12,9,8,7,0]),(14,[64,12,9,8,7,0]),(15,[4]),(16,[10,9,8,7,0]),(17,[10,9,8,7,0]),(18,[98,9,8,7,0]),(19,[4]),(20,[13,9,8]),(21,[108,13,9,8]),(22,[4]),(23,[14,9,8,7,0]),(24,[15,14,9,8,7,0]),(25,[124,15,14,9,8,7,0]),(26,[15,14,9,8,7,0]),(27,[139,15,14,9,8,7,0]),(28,[16,15,14,9,8,7,0]),(29,[143,16,15,14,9,8,7,0]),(30,[16,15,14,9,8,7,0]),(31,[156,16,15,14,9,8,7,0]),(32,[4]),(33,[4]),(34,[160,1,0]),(35,[4]),(36,[171,1,0]),(37,[175]),(38,[177,176,175]),(39,[175,6,5]),(40,[181,175,5]),(41,[4]),(42,[4]),(43,[183,1,0]),(44,[4])] [(5,[9,8,7,0]),(12,[12,9,8,7,0]),(25,[15,14,9,8,7,0]),(29,[16,15,14,9,8,7,0]),(38,[175])]),
 (58,Zas [] [] [] [] [(0,[1,0]),(1,[4])] []),
 (78,Zas [] [] [] [] [(0,[3,2,1,0]),(1,[13,3,2,1,0]),(2,[8]),(3,[15,3,2,1,0]),(4,[8]),(5,[20,3,2,1,0]),(6,[3,2,1,0]),(7,[3,2,1,0]),(8,[9,3,2,1,0]),(9,[9,3,2,1,0]),(10,[10,9,3,2,1,0]),(11,[36,10,9,3,2,1,0]),(12,[11,10,9,3,2,1,0]),(13,[41,11,10,9,3,2,1,0]),(14,[11,10,9,3,2,1,0]),(15,[10,9,3,2,1,0]),(16,[10,9,3,2,1,0]),(17,[10,9]),(18,[8])] [(11,[10,9,3,2,1,0])]),
 (64,Zas [] [] [] [] [(0,[2,0]),(1,[4,2,0]),(2,[9,4,2,0]),(3,[4,2,0]),(4,[5,4,2,0]),(5,[16,5,4,2,0]),(6,[3,2]),(7,[4,2,0]),(8,[3,2])] [(2,[4,2,0])]),
 (63,Zas [] [] [] [] [(0,[0]),(1,[2])] []),
 (6,Zas [] [] [] [] [(0,[2,1,0]),(1,[7,1,0]),(2,[7,1,0]),(3,[16,7,1,0]),(4,[1,0]),(5,[6])] []),
 (3,Zas [] [4000021] [(13,1,true),(8,1,true),(10,1,true),(4,2,false)] [] [(0,[0]),(1,[3,0]),(2,[19,3,0]),(3,[2]),(4,[4,3,0]),(5,[5,4,3,0]),(6,[29,5,4,3,0]),(7,[5,4,3,0]),(8,[6,5,4,3,0]),(9,[38,6,5,4,3,0]),(10,[8,7,6,5,4,3,0]),(11,[10,9,8,7,5,4,3,0]),(12,[72,5,4,3,0]),(13,[2]),(14,[73,38,6,5,4,3,0]),(15,[6,5,4,3,0]),(16,[5,4,3,0]),(17,[87,38,6,5,4,3,0]),(18,[101,5,4,3,0]),(19,[2]),(20,[102,38,6,5,4,3,0]),(21,[113,5,4,3,0]),(22,[2]),(23,[114,38,6,5,4,3,0]),(24,[125,5,4,3,0]),(25,[2]),(26,[126,6,5,4,3,0]),(27,[137,5,4,3,0]),(28,[2]),(29,[11,4,3]),(30,[12,11,4,3]),(31,[143,12,11,4,3]),(32,[12,11,4,3]),(33,[159,12,11,4,3]),(34,[2]),(35,[2])] [(6,[5,4,3,0]),(31,[12,11,4,3])]),
 (5,Zas [] [] [(7,1,true),(4,2,false)] [] [(0,[]),(1,[1]),(2,[8,1]),(3,[0]),(4,[1]),(5,[1]),(6,[3,2,1]),(7,[5,4,3,2,1]),(8,[0])] []),
 (55,Zas [] [] [] [] [(0,[0]),(1,[6,0]),(2,[4,3,0]),(3,[17,4,0]),(4,[2]),(5,[0]),(6,[2])] [(1,[0])]),
 (66,Zas [] [] [] [] [(0,[0]),(1,[4,0]),(2,[4,0]),(3,[3,2]),(4,[11,4,0]),(5,[3,2]),(6,[15,4,0]),(7,[6,5,4,0]),(8,[24,4,0]),(9,[6,5,4,0]),(10,[33,4,0]),(11,[6,5,4,0]),(12,[45,6,5,4,0]),(13,[3,2]),(14,[7,6,5,4,0]),(15,[48,7,6,5,4,0]),(16,[7,6,5,4,0]),(17,[60,7,6,5,4,0]),(18,[3,2]),(19,[7,6,5,4,0]),(20,[83,5,4]),(21,[3,2]),(22,[3,2])] [(15,[7,6,5,4,0])]),
 (46,Zas [] [] [] [] [(0,[0]),(1,[7,0]),(2,[2]),(3,[3]),(4,[4,3]),(5,[13,4,3]),(6,[4,3]),(7,[48,4,3]),(8,[2]),(9,[2])] [(5,[4,3])]),
 (44,Zas [] [] [] [] [(0,[0]),(1,[3,0]),(2,[4,3,0]),(3,[5,4,3,0]),(4,[9,5,4,3,0]),(5,[5,4,3,0]),(6,[15,5,4,3,0]),(7,[5,3,0]),(8,[5,4,3,0]),(9,[5,4,3,0]),(10,[2])] [(4,[5,4,3,0])]),
 (33,Zas [] [] [] [] [(0,[1,0]),(1,[15,1,0]),(2,[4]),(3,[6,5,1]),(4,[34,6,5]),(5,[4]),(6,[7,6,5]),(7,[38,7,6,5]),(8,[7,6,5]),(9,[45,7,6,5]),(10,[4]),(11,[71,7,6,5]),(12,[4]),(13,[4])] [(7,[7,6,5])]),
 (50,Zas [] [] [] [] [(0,[0]),(1,[2])] []),
 (23,Zas [] [] [] [] [(0,[0]),(1,[19,0]),(2,[4,3,2]),(3,[5,0]),(4,[48,5,0]),(5,[4,3,2]),(6,[6,5]),(7,[56,6,5]),(8,[4,3,2]),(9,[4,3,2])] []),
 (42,Zas [] [] [] [] [(0,[0]),(1,[2])] []),
 (45,Zas [] [] [] [] [(0,[1,0]),(1,[5,1,0]),(2,[9,5,1,0]),(3,[5,1,0]),(4,[16,5,1,0]),(5,[4]),(6,[4])] [(2,[5,1,0])]),
 (43,Zas [] [] [] [] [(0,[0]),(1,[2])] []),
 (36,Zas [] [] [] [] [(0,[1,0]),(1,[5,1,0]),(2,[9,5,1,0]),(3,[5,1,0]),(4,[17,5,1,0]),(5,[4]),(6,[4])] [(2,[5,1,0])]),
 (30,Zas [] [] [] [] [(0,[1,0]),(1,[5,1,0]),(2,[18,5,1,0]),(3,[5,1,0]),(4,[32,5,1,0]),(5,[4]),(6,[6,5,1,0]),(7,[4])] [(2,[5,1,0])]),
 (11,Zas [] [] [] [] [(0,[1,0]),(1,[10,1,0]),(2,[4]),(3,[5,1,0]),(4,[14,5,1,0]),(5,[5,1,0]),(6,[25,5,1,0]),(7,[4]),(8,[4])] [(4,[5,1,0])]),
 (41,Zas [] [] [] [] [(0,[0]),(1,[3,0]),(2,[11,10,9,3,0]),(3,[12,11,10,9,3,0]),(4,[11,10,9,5,4,3,0]),(5,[11,10,9,6,5,3,0]),(6,[34,11,10,9,3,0]),(7,[2]),(8,[11,10,9,3,0]),(9,[2])] [(3,[11,10,9,3,0])]),
 (49,Zas [] [] [] [] [(0,[0]),(1,[2])] []),
 (32,Zas [] [] [] [] [(0,[1,0]),(1,[16,1,0]),(2,[4]),(3,[6,5,1]),(4,[35,6,5]),(5,[4]),(6,[38,37,36,6,5]),(7,[39,38,37,36,6,5]),(8,[38,37,36,8,7,6,5]),(9,[43,38,37,36,8,7,6,5]),(10,[4]),(11,[46,38,37,36,6,5]),(12,[4]),(13,[38,37,36,6,5]),(14,[4])] [(7,[38,37,36,6,5])]),
 (48,Zas [] [] [] [] [(0,[0]),(1,[2])] []),
 (21,Zas [] [] [] [] [(0,[0]),(1,[6,5,0]),(2,[7,6,3,2,0]),(3,[48,3,2]),(4,[4,3,2]),(5,[4,3,2])] []),
 (39,Zas [] [] [] [] [(0,[0]),(1,[2])] []),
 (85,Zas [] [] [] [] [(0,[0]),(1,[3,0]),(2,[2]),(3,[10]),(4,[2]),(5,[2])] []),
 (1000000,{})]
def ann:Nat->Ann:=ZeF {} ZGT
def ZAd:List (Nat×Bool):=[
 (47,true),
 (26,true),
 (1000000,false)]
def BY:Nat->Bool:=ZeF false ZAd
noncomputable def CF:Nat->Option Zaj:=Zi9 Tryd.prog ann
noncomputable def FC:Nat->Option Zaj:=fun f=>(CF f).map Zk1
def Ztg:List (Nat×Option (List AVal->Za->Option (AVal×Za))):=[
 (27,some (Zjk 1 16)),
 (28,some (Zf8)),
 (84,some (Zj3)),
 (79,some (Zj3)),
 (93,some (Zoz)),
 (61,some (ZoV)),
 (47,some (ZlH)),
 (7,some (Zf8)),
 (9,some (Zf8)),
 (14,some (Zf8)),
 (18,some (Zf8)),
 (1000000,none)]
def PR:ZbT:=ZeF none Ztg
theorem xw (c d:ZM) (h:c=d) (m:Nat) (tm:Tms) (σ:Za):evC FC PR BY m c tm σ=evC FC PR BY m d tm σ:=by rw [h]
noncomputable abbrev E:Zat:=EV FC PR BY
theorem ZaJ {f:Nat} {fn:Zaj} (hp:PR f=none) (hf:FC f=some fn) (args:List AVal) (σ:Za):E f args σ=ZaL σ.length fn (evC FC PR BY σ.length fn.body (enterA 0 args []) σ):=ZnR hp hf args σ
end
section
open Go.RowKit
inductive Ty where
 | bool
 | int (k:IntKind)
 | str
 | slice (s:Bool) (e:Ty)
 | struct (fs:List Ty)
 deriving Inhabited
def ZdZ:Option TypeDesc->Bool
 | some (.struct _)=>true
 | some (.array _ _)=>true
 | _=>false
def Zje (P:Program):Nat->List Field->Nat->Bool
 | at',[],n=>at' == n
 | at',f::fs,n=>f.offset == at' && Zje P (at'+P.cellsOf f.type) fs n
def ZdN (P:Program):Nat->TypeId->Option Ty
 | 0,_=>none
 | n+1,t=>match P.underlying t with
  | some .bool=>some .bool
  | some (.int k)=>some (.int k)
  | some .string=>some .str
  | some (.slice e)=>if 0 < P.cellsOf e then (ZdN P n e).map (.slice (ZdZ (P.underlying e))) else none
  | some (.struct fs)=>if Zje P 0 fs.toList (P.cellsOf t) then (fs.toList.mapM fun f=>ZdN P n f.type).map .struct else none
  | _=>none
def Zci (s:Bool) (y:List AVal):AVal:=if s then .agg y else y.headD .nilp
mutual
def TyC:Ty->List AVal->Prop
 | .bool,xs=>∃ b,xs=[.bool b]
 | .int k,xs=>∃ n,(Lit.int k n).wf=true/\xs=[.int k n]
 | .str,xs=>∃ l:List UInt8,l.length<=9223372036854775807/\xs=[.str l]
 | .slice s e,xs=>∃ ys:List (List AVal),xs=[.lst false (ys.map (Zci s))]/\ys.length<=9223372036854775807/\∀ y ∈ ys,TyC e y
 | .struct fs,xs=>ZgY fs xs
def ZgY:List Ty->List AVal->Prop
 | [],xs=>xs=[]
 | f::fs,xs=>∃ a b,xs=a++b/\TyC f a/\ZgY fs b
end
def Imm.of (w:World):Imm:=fun b o=>w.cell? ⟨b,o,none⟩
section
variable {H:Type} {enc:TypeId×Value->H} {P:Program} {w:World} {spare:Nat->Bool} {held:Bool}
theorem ZFz {b off:Nat} {s:Option Nat} {u:Value} (h:w.cell? ⟨b,off,s⟩=some u):s=none:=by
 unfold World.cell? at h
 split at h
 ·rcases s with _ | s
  ·rfl
  ·simp at h
 ·cases h
theorem ZHd {s:Bool} {y:List AVal} (h:s=false->y.length=1) (h1:s=false->∀ x ∈ y,Zar x=true):(Zci s y).cells=y:=by
 cases s with
 | true=>rfl
 | false =>
  match y,h rfl with
  | [x],_ =>
   have:=h1 rfl x (by simp)
   cases x <;> simp_all [Zci,AVal.cells,Zar]
theorem ZIF {a:Addr} (h:a.spot=none) (n:Nat):a.add n=⟨a.block,a.off+n,none⟩:=by
 unfold Addr.add
 split
 ·rename_i e;subst e;cases a;simp_all
 ·rfl
theorem ZHN {I:Imm} {β:Bmap} {xs:List AVal} {vs:List Value} {n:Nat} (h:VRs I β xs (vs.take n)) {ys:List AVal} (h':VRs I β ys (vs.drop n)):VRs I β (xs++ys) vs:=by
 have:=ZcC h h'
 rwa [List.take_append_drop] at this
theorem ZrI {α β:Type} {f:α->Option β} {a:α} {l:List α} {r:List β} (h:(a::l).mapM f=some r):∃ b r',f a=some b/\l.mapM f=some r'/\r=b::r':=by
 rw [List.mapM_cons] at h
 simp only [Option.bind_eq_bind,Option.bind_eq_some_iff,Option.pure_def,Xa] at h
 obtain ⟨b,h1,r',h2,h3⟩:=h
 exact ⟨b,r',h1,h2,h3.symm⟩
theorem ZLw {a b:List AVal} (ha:ZaW a=true) (hb:ZaW b=true):ZaW (a++b)=true:=by
 induction a with
 | nil=>exact hb
 | cons x a ih=>simp only [XG,ZaW,XE] at ha ⊢;exact ⟨ha.1,ih ha.2⟩
theorem ZrV {n fuel:Nat} {cs:List Value} (ih:∀ (t:TypeId) (cs:List Value) (x:DataW H×List MemPlace) (T:Ty),ZdN P n t=some T->DataW.trod enc P w 0 spare held fuel t cs=some x->∃ xs,TyC T xs/\VRs (Imm.of w) B0 xs cs/\ZaW xs=true) :
  ∀ (fs:List Field) (at':Nat) (Ts:List Ty) (ys:List (DataW H×List MemPlace)),Zje P at' fs cs.length=true->fs.mapM (fun f=>ZdN P n f.type)=some Ts ->
   fs.mapM (fun f=>DataW.trod enc P w 0 spare held fuel f.type ((cs.drop f.offset).take (P.cellsOf f.type)))=some ys->∃ xs,ZgY Ts xs/\VRs (Imm.of w) B0 xs (cs.drop at')/\ZaW xs=true
 | [],at',Ts,ys,ho,hT,_=>by
  simp only [Zje,beq_iff_eq] at ho
  simp only [List.mapM_nil,Option.pure_def,Xa] at hT
  subst hT ho
  exact ⟨[],by simp only [ZgY],by simp [VRs],rfl⟩
 | f::fs,at',Ts,ys,ho,hT,h=>by
  simp only [Zje,XE,beq_iff_eq] at ho
  obtain ⟨T,Ts',h1,h2,rfl⟩:=ZrI hT
  obtain ⟨y,ys',h3,h4,rfl⟩:=ZrI h
  obtain ⟨a,a1,a2,a3⟩:=ih _ _ _ _ h1 h3
  obtain ⟨b,b1,b2,b3⟩:=ZrV ih fs _ _ _ ho.2 h2 h4
  rw [ho.1] at a2
  refine ⟨a++b,by simp only [ZgY];exact ⟨a,b,rfl,a1,b1⟩,ZHN a2 (by rw [XaZ];exact b2),ZLw a3 b3⟩
theorem Ztf {I:Imm} {β:Bmap} {s:Bool} {k b:Nat}:∀ (n off:Nat) (Y:Nat->List AVal),(∀ i,i < n->(Zci s (Y i)).cells.length=k/\CR I β (Zci s (Y i)).cells b (off+i*k))->LR I β k ((WS n).map fun i=>Zci s (Y i)) b off
 | 0,off,Y,_=>by simp [LR]
 | n+1,off,Y,h=>by
  rw [List.range_succ_eq_map,XS,Zha]
  have h0:=h 0 (by omega)
  simp only [Xbx,Wx] at h0
  refine ⟨h0,?_⟩
  rw [W5]
  exact Ztf n (off+k) (fun i=>Y (i+1)) (fun i hi=>by
   have:=h (i+1) (by omega)
   rw [show off+k+i*k=off+(i+1)*k by rw [Nat.succ_mul];omega]
   exact this)
theorem Zsu {I:Imm} {β:Bmap} {b:Nat}:∀ (xs:List AVal) (cs:List Value) (off:Nat),VRs I β xs cs->(∀ i,i < cs.length->I b (off+i)=cs[i]?)->CR I β xs b off
 | [],_,_,_,_=>by simp only [CR]
 | x::xs,cs,off,h,hI=>by
  simp only [VRs] at h
  obtain ⟨v,vs',rfl,h1,h2⟩:=h
  simp only [CR]
  refine ⟨⟨v,by have:=hI 0 (by simp);simpa using this,h1⟩,Zsu xs vs' (off+1) h2 fun i hi=>?_⟩
  have:=hI (i+1) (by simp;omega)
  rw [show off+1+i=off+(i+1) by omega,this]
  simp
theorem ZpL {s:Bool}:∀ (n:Nat) (Y:Nat->List AVal),(∀ i,i < n->ZaW (Zci s (Y i)).cells=true)->ZaF ((WS n).map fun i=>Zci s (Y i))=true
 | 0,Y,_=>by simp [ZaF]
 | n+1,Y,h=>by
  rw [List.range_succ_eq_map,XS,Zos,h 0 (by omega),W5]
  simp only [Xbt]
  exact ZpL n (fun i=>Y (i+1)) (fun i hi=>h (i+1) (by omega))
theorem Zux {xs:List AVal} (h:ZaW xs=true):∀ x ∈ xs,Zar x=true:=by
 induction xs with
 | nil=>intro x hx;simp at hx
 | cons y ys ih =>
  simp only [ZaW,XE] at h
  intro x hx
  rcases XV.1 hx with rfl | hx
  ·cases x <;> simp_all [Za0,Zar]
  ·exact ih h.2 x hx
theorem Zrw {n:Nat} {e:TypeId} {T:Ty} (hT:ZdN P n e=some T) (hs:ZdZ (P.underlying e)=false) {xs:List AVal} (h:TyC T xs):xs.length=1:=by
 cases n with
 | zero=>simp [ZdN] at hT
 | succ n =>
  simp only [ZdN] at hT
  split at hT
  ·injection hT with hT;subst hT;simp only [TyC] at h;obtain ⟨_,rfl⟩:=h;rfl
  ·injection hT with hT;subst hT;simp only [TyC] at h;obtain ⟨_,_,rfl⟩:=h;rfl
  ·injection hT with hT;subst hT;simp only [TyC] at h;obtain ⟨_,_,rfl⟩:=h;rfl
  ·split at hT
   ·simp only [XI] at hT
    obtain ⟨T',_,rfl⟩:=hT
    simp only [TyC] at h;obtain ⟨_,rfl,_⟩:=h;rfl
   ·cases hT
  ·rename_i hu;rw [hu] at hs;simp [ZdZ] at hs
  ·cases hT
theorem Zo2:∀ (n fuel:Nat) (t:TypeId) (cs:List Value) (x:DataW H×List MemPlace) (T:Ty),ZdN P n t=some T->DataW.trod enc P w 0 spare held fuel t cs=some x ->
  ∃ xs,TyC T xs/\VRs (Imm.of w) B0 xs cs/\ZaW xs=true
 | 0,fuel,t,cs,x,T,hT,_=>by simp [ZdN] at hT
 | n+1,0,t,cs,x,T,_,h=>by simp [DataW.trod] at h
 | n+1,fuel+1,t,cs,x,T,hT,h=>by
  have h0:=h
  simp only [ZdN] at hT
  unfold DataW.trod at h
  split at hT
  ·rename_i hu
   injection hT with hT;subst hT
   obtain ⟨b,rfl,_⟩:=DataW.trod_bool hu h0
   exact ⟨[.bool b],by simp only [TyC];exact ⟨b,rfl⟩,by simp [VRs,VR],rfl⟩
  ·rename_i k hu
   injection hT with hT;subst hT
   obtain ⟨n',rfl,_,hk⟩:=DataW.trod_int hu h0
   exact ⟨[.int k n'],by simp only [TyC];exact ⟨n',hk,rfl⟩,by simp [VRs,VR],rfl⟩
  ·rename_i hu
   injection hT with hT;subst hT
   obtain ⟨s,rfl,_,hs⟩:=DataW.trod_string hu h0
   have hs':s.data.toList.length<=9223372036854775807:=by
    rw [Array.length_toList];exact Nat.le_trans hs (by simp [maxLen])
   exact ⟨[.str s.data.toList],by simp only [TyC];exact ⟨_,hs',rfl⟩,by simp only [VRs,VR];exact ⟨_,_,rfl,⟨by simp,hs'⟩,rfl⟩,rfl⟩
  ·rename_i e hu
   split at hT
   case isFalse=>cases hT
   rename_i hc
   simp only [XI] at hT
   obtain ⟨T,hT,rfl⟩:=hT
   rcases Go.Deep.open_slice hu h0 with ⟨hcs,_⟩ | ⟨a,len,cap,m,n',D,Pl,hcs,_,hl,hm,hmm,_,hi⟩
   ·subst hcs
    exact ⟨[.lst false []],by simp only [TyC];exact ⟨[],by simp,by simp,by simp⟩,by simp only [VRs,VR];exact ⟨_,_,rfl,⟨none,0,rfl,by simp,by simp,by simp,by simp,by simp [ZaF]⟩,rfl⟩,rfl⟩
   ·have hlm:len<=m:=by split at hmm <;> omega
    have hspot:0 < len->a.spot=none:=by
     intro h0
     obtain ⟨cs',h1,h2⟩:=hi 0 (by omega)
     obtain ⟨_,h6,h7⟩:=World.cells?_some h1
     have h8:=h7 0 hc
     obtain ⟨u,hu⟩:∃ u,cs'[0]?=some u:=⟨cs'[0]'(by omega),by simp⟩
     rw [hu] at h8
     simp only [Xbx,Addr.add,if_true] at h8
     exact ZFz (b:=a.block) (off:=a.off) (s:=a.spot) (u:=u) h8
    have hall:∀ i,∃ xs,i < len->TyC T xs/\(Zci (ZdZ (P.underlying e)) xs).cells=xs/\xs.length=P.cellsOf e/\CR (Imm.of w) B0 xs a.block (a.off+i*P.cellsOf e)/\ZaW xs=true:=by
     intro i
     by_cases hlt:i < len
     ·obtain ⟨cs',h1,h2⟩:=hi i (by omega)
      obtain ⟨xs,h3,h4,h5⟩:=Zo2 n n' e cs' _ T hT h2
      obtain ⟨_,h6,h7⟩:=World.cells?_some h1
      have hlen:=ZaS h4
      refine ⟨xs,fun _=>⟨h3,ZHd (fun hs=>Zrw hT hs h3) (fun _=>Zux h5),by omega,Zsu xs cs' _ h4 (fun j hj=>?_),h5⟩⟩
      have h8:=h7 j (by omega)
      rw [Go.Deep.add_add,ZIF (hspot (by omega)),<-WW] at h8
      exact h8
     ·exact ⟨[],fun h=>absurd h hlt⟩
    obtain ⟨Y,hY⟩:=Classical.axiomOfChoice hall
    subst hcs
    have hmx:maxLen=9223372036854775807:=by simp [maxLen]
    rw [hmx] at hm
    refine ⟨[.lst false ((WS len).map fun i=>Zci (ZdZ (P.underlying e)) (Y i))],?_,?_,?_⟩
    ·simp only [TyC]
     refine ⟨(WS len).map Y,by rw [W5];rfl,by simp;omega,?_⟩
     intro y hy
     obtain ⟨i,hi',rfl⟩:=X0.1 hy
     exact (hY i (Xaq.1 hi')).1
    ·simp only [VRs,VR,List.length_map,List.length_range]
     refine ⟨_,_,rfl,⟨some a,cap,rfl,hl,hm,by simp,?_,ZpL len Y fun i hlt=>by rw [(hY i hlt).2.1];exact (hY i hlt).2.2.2.2⟩,rfl⟩
     cases len with
     | zero=>exact XK (by simp)
     | succ len =>
      refine XO ⟨a.block,a.off,P.cellsOf e,?_,hc,Ztf (len+1) a.off Y fun i hlt=>?_⟩
      ·have:=hspot (by omega)
       cases a;simp_all
      ·rw [(hY i hlt).2.1];exact ⟨(hY i hlt).2.2.1,(hY i hlt).2.2.2.1⟩
    ·simp only [ZaW,Za0,XaV]
     exact ZpL len Y fun i hlt=>by rw [(hY i hlt).2.1];exact (hY i hlt).2.2.2.2
  ·rename_i fs hu
   split at hT
   case isFalse=>cases hT
   rename_i ho
   simp only [XI] at hT
   obtain ⟨Ts,hT,rfl⟩:=hT
   rw [hu] at h
   simp only at h
   split at h
   ·rename_i hl
    simp only [XI] at h
    obtain ⟨ys,hy,rfl⟩:=h
    obtain ⟨xs,h1,h2,h3⟩:=ZrV (fun t cs x T h h'=>Zo2 n fuel t cs x T h h') fs.toList 0 Ts ys (by rw [hl];exact ho) hT hy
    exact ⟨xs,by simp only [TyC];exact h1,h2,h3⟩
   ·cases h
  ·cases hT
def ZuE (s:Bool) (T:Ty) (x:AVal):Prop:=∃ xs,TyC T xs/\x=Zci s xs
theorem ZD0 {n:Nat} {t:TypeId} {v:Value} {d:DataW H} {ps:List MemPlace} {T:Ty} {r:Reach} {b0:Nat} (hT:ZdN P n t=some T) (hv:Value.okWide P w r b0 t v) (h:DataW.Trod enc P w 0 spare held t v d ps) :
  ∃ x,ZuE (ZdZ (P.underlying t)) T x/\VR (Imm.of w) B0 x v/\ZaW x.cells=true:=by
 obtain ⟨fuel,h⟩:=h
 obtain ⟨xs,h1,h2,h3⟩:=Zo2 n fuel t _ _ T hT h
 refine ⟨Zci (ZdZ (P.underlying t)) xs,⟨xs,h1,rfl⟩,?_⟩
 by_cases hs:ZdZ (P.underlying t)=true
 ·have : ∃ cs,v=.agg cs:=by
   unfold Value.okWide at hv
   cases hu:P.underlying t with
   | none=>rw [hu] at hs;simp [ZdZ] at hs
   | some dd =>
    rw [hu] at hv hs
    cases dd <;> first | (simp [ZdZ] at hs;done) | (obtain ⟨cs,e,_⟩:=hv;exact ⟨cs,e⟩)
  obtain ⟨cs,rfl⟩:=this
  rw [hs]
  exact ⟨by simp only [Zci,if_true,VR];exact ⟨cs,rfl,h2⟩,h3⟩
 ·have hs':ZdZ (P.underlying t)=false:=by simpa using hs
  have hl:=Zrw hT hs' h1
  have hlen:=ZaS h2
  rw [hs']
  match xs,hl with
  | [x],_ =>
   simp only [Zci,Xq,if_false,List.headD_cons]
   have hvc:v.cells=#[v]:=by
    cases n with
    | zero=>simp [ZdN] at hT
    | succ n =>
     simp only [ZdN] at hT
     split at hT
     ·rename_i hu;obtain ⟨b,rfl⟩:=Go.WideShapes.okWide_bool hu hv;rfl
     ·rename_i k hu;obtain ⟨b,rfl⟩:=Go.WideShapes.okWide_int hu hv;rfl
     ·rename_i hu;obtain ⟨b,rfl⟩:=Go.WideShapes.okWide_string hu hv;rfl
     ·rename_i e hu;obtain ⟨a,l,c,rfl⟩:=Go.WideShapes.okWide_slice hu hv;rfl
     ·rename_i fs hu;rw [hu] at hs';simp [ZdZ] at hs'
     ·cases hT
   rw [hvc] at h2
   simp only [VRs] at h2
   obtain ⟨v',vs',e,h2,_⟩:=h2
   simp only [List.cons.injEq] at e
   rw [e.1]
   refine ⟨h2,?_⟩
   have hok:=Zux h3 x (by simp)
   have hx:x.cells=[x]:=by cases x <;> first | rfl | (simp [Zar] at hok;done)
   rw [hx];exact h3
theorem Rel.start (w:World) (hG:Gl.le (Imm.of w)):Rel (fun b=>b < w.heap.size) w (Imm.of w) (Imm.of w) B0 [] w where
 below:=KB.refl _ w
 old:=fun _ _ _=>rfl
 imm:=fun _ _ _ h=>h
 blk:=fun t x h=>by simp at h
 own:=fun t x b h=>by simp at h
 apart:=fun t x t' x' b h=>by simp at h
 fresh:=fun _ _ _=>rfl
 free:=fun t g h=>by simp at h
 gen:=fun t b g h=>by simp at h
 glob:=hG
 ro:=fun t x b h=>by simp at h
theorem ZKm {O:Zat} (hO:ZaY P O) {f:Nat} {args:List AVal} {vs:Array Value} {σ':Za} (hG:Gl.le (Imm.of w)) (hargs:VRs (Imm.of w) B0 args vs.toList) (h:O f args []=some (.bool true,σ')) :
  Calls P f vs w (fun e w'=>e=.returned (.bool true)/\Below w.heap.size w w'):=by
 refine ((hO f args [] _ _ h).2 _ w _ _ B0 w vs (fun b hb=>hb) (Rel.start w hG) hargs).mono ?_
 rintro e w' ⟨u,he,I',β',_,_,R,hv⟩
 simp only [Za8,VR] at hv
 subst hv
 exact ⟨he,R.below.os,R.below.tape,R.below.output,R.below.size,R.below.block⟩
end
end
section
open Go.Shelf
def ZD1:Ren:=⟨fun | 190=>47 | 125=>57 | 258=>56 | 128=>76 | 129=>77 | 302=>67 | 303=>68 | 304=>69 | 305=>70 | 306=>71 | 307=>72 | 308=>73 | 309=>74 | 310=>75 | 333=>86 | 329=>87 | 330=>88 | 334=>89 | 335=>90 | 336=>91 | 344=>97 | n=>n,fun | 31=>30 | 9=>9 | 3=>3 | 46=>66 | 0=>0 | 51=>86 | 53=>88 | 4=>4 | 183=>79 | 182=>78 | 131=>83 | 5=>5 | 218=>99 | 222=>103 | 228=>108 | 229=>75 | n=>n,fun | n=>n⟩
theorem ZsU:Go.Proofs.Lays.n190 Tryd.prog ZD1:={ mixed:=by kernel_rfl,f125:=Tryd.func57.trans (congrArg some (by kernel_rfl)),f128:=Tryd.func76.trans (congrArg some (by kernel_rfl)),f129:=Tryd.func77.trans (congrArg some (by kernel_rfl)),f190:=Tryd.func47.trans (congrArg some (by kernel_rfl)),f258:=Tryd.func56.trans (congrArg some (by kernel_rfl)),f302:=Tryd.func67.trans (congrArg some (by kernel_rfl)),f303:=Tryd.func68.trans (congrArg some (by kernel_rfl)),f304:=Tryd.func69.trans (congrArg some (by kernel_rfl)),f305:=Tryd.func70.trans (congrArg some (by kernel_rfl)),f306:=Tryd.func71.trans (congrArg some (by kernel_rfl)),f307:=Tryd.func72.trans (congrArg some (by kernel_rfl)),f308:=Tryd.func73.trans (congrArg some (by kernel_rfl)),f309:=Tryd.func74.trans (congrArg some (by kernel_rfl)),f310:=Tryd.func75.trans (congrArg some (by kernel_rfl)),f329:=Tryd.func87.trans (congrArg some (by kernel_rfl)),f330:=Tryd.func88.trans (congrArg some (by kernel_rfl)),f333:=Tryd.func86.trans (congrArg some (by kernel_rfl)),f334:=Tryd.func89.trans (congrArg some (by kernel_rfl)),f335:=Tryd.func90.trans (congrArg some (by kernel_rfl)),f336:=Tryd.func91.trans (congrArg some (by kernel_rfl)),f344:=Tryd.func97.trans (congrArg some (by kernel_rfl)),t0:=Tryd.underlying0,a0:=Tryd.isAgg0,z0:=Tryd.sizeOf0,v0:=Tryd.zeroValue0,t3:=Tryd.underlying3,a3:=Tryd.isAgg3,z3:=Tryd.sizeOf3,v3:=Tryd.zeroValue3,t4:=Tryd.underlying4,a4:=Tryd.isAgg4,z4:=Tryd.sizeOf4,v4:=Tryd.zeroValue4,t5:=Tryd.underlying5,a5:=Tryd.isAgg5,z5:=Tryd.sizeOf5,v5:=Tryd.zeroValue5,t9:=Tryd.underlying9,a9:=Tryd.isAgg9,z9:=Tryd.sizeOf9,v9:=Tryd.zeroValue9,t31:=Tryd.underlying30,a31:=Tryd.isAgg30,z31:=Tryd.sizeOf30,v31:=Tryd.zeroValue30,t46:=Tryd.underlying66,a46:=Tryd.isAgg66,z46:=Tryd.sizeOf66,v46:=Tryd.zeroValue66,t51:=Tryd.underlying86,a51:=Tryd.isAgg86,z51:=Tryd.sizeOf86,v51:=Tryd.zeroValue86,t53:=Tryd.underlying88,a53:=Tryd.isAgg88,z53:=Tryd.sizeOf88,v53:=Tryd.zeroValue88,t131:=Tryd.underlying83,a131:=Tryd.isAgg83,z131:=Tryd.sizeOf83,v131:=Tryd.zeroValue83,t182:=Tryd.underlying78,a182:=Tryd.isAgg78,z182:=Tryd.sizeOf78,v182:=Tryd.zeroValue78,t183:=Tryd.underlying79,a183:=Tryd.isAgg79,z183:=Tryd.sizeOf79,v183:=Tryd.zeroValue79,t218:=Tryd.underlying99,a218:=Tryd.isAgg99,z218:=Tryd.sizeOf99,v218:=Tryd.zeroValue99,t222:=Tryd.underlying103,a222:=Tryd.isAgg103,z222:=Tryd.sizeOf103,v222:=Tryd.zeroValue103,t228:=Tryd.underlying108,a228:=Tryd.isAgg108,z228:=Tryd.sizeOf108,v228:=Tryd.zeroValue108,t229:=Tryd.underlying75,a229:=Tryd.isAgg75,z229:=Tryd.sizeOf75,v229:=Tryd.zeroValue75 }
end
section
open Go.Shelf
def ZK1:Ren:=⟨fun | 137=>84 | 217=>79 | 266=>95 | n=>n,fun | 9=>9 | 5=>5 | 3=>3 | n=>n,fun | n=>n⟩
theorem ZyD:Go.Proofs.Lays.n137 Tryd.prog ZK1:={ mixed:=by kernel_rfl,f137:=Tryd.func84.trans (congrArg some (by kernel_rfl)),f217:=Tryd.func79.trans (congrArg some (by kernel_rfl)),f266:=Tryd.func95.trans (congrArg some (by kernel_rfl)),t3:=Tryd.underlying3,a3:=Tryd.isAgg3,z3:=Tryd.sizeOf3,v3:=Tryd.zeroValue3,t5:=Tryd.underlying5,a5:=Tryd.isAgg5,z5:=Tryd.sizeOf5,v5:=Tryd.zeroValue5,t9:=Tryd.underlying9,a9:=Tryd.isAgg9,z9:=Tryd.sizeOf9,v9:=Tryd.zeroValue9 }
def ZBt:Ren:=⟨fun | 217=>79 | 266=>95 | n=>n,fun | 9=>9 | 5=>5 | 3=>3 | n=>n,fun | n=>n⟩
theorem ZFv:Go.Proofs.Lays.n217 Tryd.prog ZBt:={ mixed:=by kernel_rfl,f217:=Tryd.func79.trans (congrArg some (by kernel_rfl)),f266:=Tryd.func95.trans (congrArg some (by kernel_rfl)),t3:=Tryd.underlying3,a3:=Tryd.isAgg3,z3:=Tryd.sizeOf3,v3:=Tryd.zeroValue3,t5:=Tryd.underlying5,a5:=Tryd.isAgg5,z5:=Tryd.sizeOf5,v5:=Tryd.zeroValue5,t9:=Tryd.underlying9,a9:=Tryd.isAgg9,z9:=Tryd.sizeOf9,v9:=Tryd.zeroValue9 }
section
open Go.Shelf
def ZFO:Ren:=⟨fun | 138=>93 | 195=>98 | 218=>100 | 143=>94 | 219=>60 | 217=>79 | 225=>80 | 224=>81 | 267=>82 | 266=>95 | 314=>96 | n=>n,fun | 9=>9 | 3=>3 | 4=>4 | 5=>5 | 0=>0 | 46=>66 | 146=>106 | 51=>86 | n=>n,fun | 1=>0 | n=>n⟩
theorem ZzS:Go.Proofs.Lays.n138 Tryd.prog ZFO:={ mixed:=by kernel_rfl,f138:=Tryd.func93.trans (congrArg some (by kernel_rfl)),f143:=Tryd.func94.trans (congrArg some (by kernel_rfl)),f195:=Tryd.func98.trans (congrArg some (by kernel_rfl)),f217:=Tryd.func79.trans (congrArg some (by kernel_rfl)),f218:=Tryd.func100.trans (congrArg some (by kernel_rfl)),f219:=Tryd.func60.trans (congrArg some (by kernel_rfl)),f224:=Tryd.func81.trans (congrArg some (by kernel_rfl)),f225:=Tryd.func80.trans (congrArg some (by kernel_rfl)),f266:=Tryd.func95.trans (congrArg some (by kernel_rfl)),f267:=Tryd.func82.trans (congrArg some (by kernel_rfl)),f314:=Tryd.func96.trans (congrArg some (by kernel_rfl)),t0:=Tryd.underlying0,a0:=Tryd.isAgg0,z0:=Tryd.sizeOf0,v0:=Tryd.zeroValue0,t3:=Tryd.underlying3,a3:=Tryd.isAgg3,z3:=Tryd.sizeOf3,v3:=Tryd.zeroValue3,t4:=Tryd.underlying4,a4:=Tryd.isAgg4,z4:=Tryd.sizeOf4,v4:=Tryd.zeroValue4,t5:=Tryd.underlying5,a5:=Tryd.isAgg5,z5:=Tryd.sizeOf5,v5:=Tryd.zeroValue5,t9:=Tryd.underlying9,a9:=Tryd.isAgg9,z9:=Tryd.sizeOf9,v9:=Tryd.zeroValue9,t46:=Tryd.underlying66,a46:=Tryd.isAgg66,z46:=Tryd.sizeOf66,v46:=Tryd.zeroValue66,t51:=Tryd.underlying86,a51:=Tryd.isAgg86,z51:=Tryd.sizeOf86,v51:=Tryd.zeroValue86,t146:=Tryd.underlying106,a146:=Tryd.isAgg106,z146:=Tryd.sizeOf106,v146:=Tryd.zeroValue106,g1:=by kernel_rfl }
end
end
section
open Go.Shelf
def ZDT:Ren:=⟨fun | 196=>61 | 259=>83 | n=>n,fun | 9=>9 | 4=>4 | 3=>3 | 5=>5 | 12=>12 | 119=>93 | 0=>0 | 46=>66 | 139=>96 | 138=>95 | 53=>88 | n=>n,fun | 3=>1 | 4=>2 | n=>n⟩
theorem ZqU:Go.Proofs.Lays.n196 Tryd.prog ZDT:={ mixed:=by kernel_rfl,f196:=Tryd.func61.trans (congrArg some (by kernel_rfl)),f259:=Tryd.func83.trans (congrArg some (by kernel_rfl)),t0:=Tryd.underlying0,a0:=Tryd.isAgg0,z0:=Tryd.sizeOf0,v0:=Tryd.zeroValue0,t3:=Tryd.underlying3,a3:=Tryd.isAgg3,z3:=Tryd.sizeOf3,v3:=Tryd.zeroValue3,t4:=Tryd.underlying4,a4:=Tryd.isAgg4,z4:=Tryd.sizeOf4,v4:=Tryd.zeroValue4,t5:=Tryd.underlying5,a5:=Tryd.isAgg5,z5:=Tryd.sizeOf5,v5:=Tryd.zeroValue5,t9:=Tryd.underlying9,a9:=Tryd.isAgg9,z9:=Tryd.sizeOf9,v9:=Tryd.zeroValue9,t12:=Tryd.underlying12,a12:=Tryd.isAgg12,z12:=Tryd.sizeOf12,v12:=Tryd.zeroValue12,t46:=Tryd.underlying66,a46:=Tryd.isAgg66,z46:=Tryd.sizeOf66,v46:=Tryd.zeroValue66,t53:=Tryd.underlying88,a53:=Tryd.isAgg88,z53:=Tryd.sizeOf88,v53:=Tryd.zeroValue88,t119:=Tryd.underlying93,a119:=Tryd.isAgg93,z119:=Tryd.sizeOf93,t138:=Tryd.underlying95,a138:=Tryd.isAgg95,z138:=Tryd.sizeOf95,v138:=Tryd.zeroValue95,t139:=Tryd.underlying96,a139:=Tryd.isAgg96,z139:=Tryd.sizeOf96,v139:=Tryd.zeroValue96,g3:=by kernel_rfl,g4:=by kernel_rfl }
end
section
set_option maxRecDepth 100000
theorem ZiE:Tryd.prog.follows .mixedOrders=true:=by kernel_rfl
theorem Zyk:Zt4 Tryd.prog 30 1 16 (.str []) 27:=⟨_,_,_,_,_,_,_,_,_,_,_,rfl,rfl,rfl,by kernel_rfl,rfl,rfl,rfl,rfl,rfl,rfl,rfl,rfl,by kernel_rfl,by kernel_rfl,⟨_,_,_,_,rfl⟩,rfl,by decide⟩
theorem Zrq {α:Type} {d v:α}:∀ {l:List (Nat×α)} {n:Nat},ZeF d l n=v->v=d\/(n,v) ∈ l
 | [],n,h=>XK h.symm
 | (k,w)::r,n,h=>by
  simp only [ZeF] at h
  split at h
  ·rename_i e;subst e h;exact XO (by simp)
  ·rcases Zrq h with h | h
   ·exact XK h
   ·exact XO (by simp [h])
theorem Znv:ZjW Tryd.prog PR:=by
 intro f g h args σ r σ' hg
 rcases Zrq h with h | h
 ·cases h
 unfold Ztg at h
 simp only [XV,Xg,Xa,List.not_mem_nil,or_false] at h
 rcases h with ⟨rfl,rfl⟩ | h
 ·exact ZIj ZiE Zyk hg
 rcases h with ⟨rfl,rfl⟩ | h
 ·exact ZiC hg
 rcases h with ⟨rfl,rfl⟩ | h
 ·exact ZsK ⟨Tryd.f84,Tryd.func84,by kernel_rfl,by kernel_rfl⟩ (fun s c w=>Any.strings_IndexByte ZyD s c w) hg
 rcases h with ⟨rfl,rfl⟩ | h
 ·exact ZsK ⟨Tryd.f79,Tryd.func79,by kernel_rfl,by kernel_rfl⟩ (fun s c w=>Any.stringslite_IndexByte ZFv s c w) hg
 rcases h with ⟨rfl,rfl⟩ | h
 ·exact ZAm ⟨Tryd.f93,Tryd.func93,by kernel_rfl,by kernel_rfl⟩ (fun s c w=>Any.strings_Count_one ZzS s c w) hg
 rcases h with ⟨rfl,rfl⟩ | h
 ·exact ZAO ⟨Tryd.f61,Tryd.func61,by kernel_rfl,by kernel_rfl⟩ (fun s w hs hT=>Any.utf8_ValidString ZqU s w hs hT) hg
 rcases h with ⟨rfl,rfl⟩ | h
 ·exact ZJt ⟨Tryd.f47,Tryd.func47,by kernel_rfl,by kernel_rfl⟩ (fun blk off cap zs w=>Any.slices_Sort_string ZsU blk off cap zs w) (fun p cap w=>Any.slices_Sort_string_none ZsU p cap w) hg
 rcases h with ⟨rfl,rfl⟩ | h
 ·exact ZiC hg
 rcases h with ⟨rfl,rfl⟩ | h
 ·exact ZiC hg
 rcases h with ⟨rfl,rfl⟩ | h
 ·exact ZiC hg
 rcases h with ⟨rfl,rfl⟩ | h
 ·exact ZiC hg
 exact absurd h.2 (by simp)
end
section
def Zi3:ZM:=(.seq (.region [oI 10 (.mov (.c (.str []))),oI 11 (.mov (.c (.bool false)))] none [4,3,2,1,0]) (.seq (.region [oM 14 0,oI 15 (.nilchk (.t 14)),oF 16 0 15,oL 17 16,oM 18 1,oI 19 (.look 2 (.lst true []) false (.t 17) (.t 18)),oM 20 4,oI 21 (.call 34 0 true [(.t 19),(.t 20),(.c (.bool false))]),oM 12 21] none [12,3,2]) (.seq (.seq (.region [oM 22 12,oM 23 3,oI 24 (.call 34 0 true [(.t 22),(.t 23),(.c (.bool true))]),oM 13 24] none [13,12,2]) (.seq (.region [oM 25 13,oI 26 (.len (.t 25)),oI 27 (.bin .gtr (.t 26) (.c (.int .i64 0)))] none [27,13,12,2]) (.cond (.t 27) (.region [oM 28 13,oM 12 28] none [12,2]) .skip))) (.seq (.seq (.region [oM 29 12,oI 30 (.len (.t 29)),oI 31 (.bin .eql (.t 30) (.c (.int .i64 0)))] none [31,12,2]) (.cond (.t 31) (.seq (.region [oI 10 (.mov (.c (.str []))),oI 11 (.mov (.c (.bool false)))] none [11,10]) .ret) .skip)) (.seq (.region [oM 32 12,oM 33 2,oM 34 12,oI 35 (.len (.t 34)),oI 36 (.call 35 0 true [(.t 33),(.t 35)]),oI 37 (.iaddr 1 (.t 32) (.t 36)),oL 38 37,oM 10 38,oI 11 (.mov (.c (.bool true)))] none [11,10]) .ret)))))
def Zoq:Zaj:=⟨[(.tmp 10),(.tmp 11)],Zi3⟩
theorem Zm7:FC 18=some Zoq:=by kernel_rfl
theorem Zpt:Zoq.body=Zi3:=rfl
theorem Zm5:Zoq.res=[(.tmp 10),(.tmp 11)]:=rfl
def Zhy:ZM:=(.seq (.region [oM 22 5,oM 4 22] none [4]) .ret)
def Zlp:ZM:=Zhy
def Zqc:=xw Zlp Zhy rfl
def Zio:ZM:=(.seq (.region [oI 14 (.bin .lss (.t 13) (.t 12))] none [14,13,12,11,5,3,2]) (.seq (.cond (.t 14) .skip (.exit 0)) (.seq (.block 1 (.seq (.region [oI 15 (.iaddr 1 (.t 11) (.t 13)),oL 16 15,oM 7 16] none [13,12,11,7,5,3,2]) (.region [oL 17 2,oM 18 7,oL 19 3,oI 20 (.call 9 1 true [(.t 17),(.t 18),(.t 19)])] none [13,12,11,5,3,2]))) (.region [oI 21 (.bin .add (.t 13) (.c (.int .i64 1))),oM 13 21] none [13,12,11,5,3,2]))))
def ZkC:ZM:=Zio
def Zm0:=xw ZkC Zio rfl
def ZiO:ZM:=(.seq (.region [oI 2 (.box (.t 0)),oI 3 (.box (.t 1)),oI 4 (.mov (.c (.lst true [])))] none [3,2]) (.seq (.region [oL 8 2,oI 9 (.mkfn 29 [(.t 2),(.t 3)]),oI 10 (.call 28 0 true [(.t 8),(.t 9)]),oM 5 10] none [5,3,2]) (.seq (.seq (.region [oM 11 5,oI 12 (.len (.t 11)),oI 13 (.mov (.c (.int .i64 0)))] none [13,12,11,5,3,2]) (.block 0 (.loop [13,12,11,5,3,2] ZkC))) Zlp)))
def ZjX:Zaj:=⟨[(.tmp 4)],ZiO⟩
theorem ZKO:FC 12=some ZjX:=by kernel_rfl
theorem Zqx:ZjX.body=ZiO:=rfl
theorem Zpl:ZjX.res=[(.tmp 4)]:=rfl
def ZbB:ZM:=(.seq (.region [oI 4 (.mov (.c (.bool false)))] none [2,1,0]) (.seq (.region [oL 5 1,oI 6 (.nilchk (.t 5)),oF 7 0 6,oL 8 7,oM 9 0,oI 10 (.look 2 (.lst true []) false (.t 8) (.t 9)),oL 11 2,oI 12 (.call 22 0 true [(.t 10),(.t 11)]),oM 4 12] (some [(0,6),(3,6),(5,6),(7,7)]) [4]) .ret))
def ZqD:Zaj:=⟨[(.tmp 4)],ZbB⟩
theorem ZI2:FC 29=some ZqD:=by kernel_rfl
theorem ZbM:ZqD.body=ZbB:=rfl
theorem ZbK:ZqD.res=[(.tmp 4)]:=rfl
def ZhQ:ZM:=(.seq (.region [oM 10 1,oI 11 (.call 21 0 true [(.t 10)]),oM 9 11,oI 12 (.ext (.t 9) 0),oI 13 (.ext (.t 9) 1),oI 14 (.ext (.t 9) 2),oM 6 12,oM 7 13,oM 8 14] none [8,2,1,0]) (.seq (.region [oM 15 8,oM 16 15,⟨(some 17),(.mov (.t 0)),(some (16,true)),[]⟩,⟨(some 18),(.nilchk (.t 17)),(some (16,true)),[]⟩,⟨(some 19),(.faddr 0 (.t 18)),(some (16,true)),[]⟩,⟨(some 20),(.ld none (.t 19)),(some (16,true)),[]⟩,⟨(some 21),(.mov (.t 1)),(some (16,true)),[]⟩,⟨(some 22),(.glook 2 (.lst true []) (.t 20) (.t 21)),(some (16,true)),[]⟩,⟨(some 23),(.mov (.t 2)),(some (16,true)),[]⟩,⟨(some 24),(.call 22 0 true [(.t 22),(.t 23)]),(some (16,true)),[]⟩,⟨(some 25),(.un .not (.t 24)),(some (16,true)),[]⟩,oI 26 (.pick (.t 16) (.t 25) (.c (.bool false)))] none [26,2,1,0]) (.cond (.t 26) (.region [oM 27 0,oI 28 (.nilchk (.t 27)),oF 29 0 28,oL 30 29,oM 31 1,oM 32 0,oI 33 (.nilchk (.t 32)),oF 34 0 33,oL 35 34,oM 36 1,oI 37 (.glook 2 (.lst true []) (.t 35) (.t 36)),oM 38 2,oI 39 (.bslice false 1 1 (.str []) [(0,(.t 38))]),oI 40 (.app 1 16 (.str []) (.t 37) (.t 39)),oN (.mset 2 (.t 30) (.t 31) (.t 40))] (some [(3,8),(3,10),(3,12),(8,12),(10,12),(3,13)]) []) .skip)))
def Zm8:Zaj:=⟨[],ZhQ⟩
theorem Zl1:FC 7=some Zm8:=by kernel_rfl
theorem ZlI:Zm8.body=ZhQ:=rfl
theorem Zls:Zm8.res=[]:=rfl
def ZhV:ZM:=(.seq (.region [oI 6 (.mov (.c (.bool false)))] none [2,1,0]) (.seq (.region [oM 9 0,oI 10 (.nilchk (.t 9)),oF 11 0 10,oL 12 11,oM 13 1,oI 14 (.glook 2 (.lst true []) (.t 12) (.t 13)),oM 7 14] none [7,2,1,0]) (.seq (.region [oM 15 7,oM 16 2,oI 17 (.call 25 0 true [(.t 15),(.t 16)]),oM 8 17] none [8,7,1,0]) (.seq (.block 0 (.seq (.region [oM 30 8,oI 31 (.bin .lss (.t 30) (.c (.int .i64 0))),oM 29 31] none [29,8,7,1,0]) (.cond (.t 29) (.seq (.region [oI 6 (.mov (.c (.bool false)))] none [6]) .ret) (.seq (.region [oM 33 7,oI 34 (.len (.t 33)),oI 35 (.bin .eql (.t 34) (.c (.int .i64 1))),oM 32 35] none [32,8,7,1,0]) (.cond (.t 32) (.region [oM 36 0,oI 37 (.nilchk (.t 36)),oF 38 0 37,oL 39 38,oM 40 1,oN (.mdel 2 (.t 39) (.t 40))] none []) (.region [oM 18 0,oI 19 (.nilchk (.t 18)),oF 20 0 19,oL 21 20,oM 22 1,oM 23 7,oI 24 (.call 27 1 false [(.t 23)]),oM 25 8,oM 26 8,oI 27 (.bin .add (.t 26) (.c (.int .i64 1))),oI 28 (.call 26 0 false [(.t 24),(.t 25),(.t 27)]),oN (.mset 2 (.t 21) (.t 22) (.t 28))] (some [(3,6),(3,10),(10,10)]) [])))))) (.seq (.region [oI 6 (.mov (.c (.bool true)))] none [6]) .ret)))))
def Zps:Zaj:=⟨[(.tmp 6)],ZhV⟩
theorem Zmf:FC 9=some Zps:=by kernel_rfl
theorem ZlX:Zps.body=ZhV:=rfl
theorem Zmd:Zps.res=[(.tmp 6)]:=rfl
def Zmi:ZM:=(.seq (.region [oI 3 (.box (.t 1)),oI 4 (.mov (.c (.lst true [])))] none [3,0]) (.seq (.region [oM 5 0,oI 6 (.mkfn 31 [(.t 3)]),oI 7 (.call 28 1 false [(.t 5),(.t 6)]),oM 4 7] none [4]) .ret))
def Znr:Zaj:=⟨[(.tmp 4)],Zmi⟩
theorem ZqT:FC 16=some Znr:=by kernel_rfl
theorem Zuy:Znr.body=Zmi:=rfl
theorem Zu4:Znr.res=[(.tmp 4)]:=rfl
def Zmb:ZM:=(.seq (.region [oI 3 (.mov (.c (.bool false)))] none [1,0]) (.seq (.region [oM 8 0,oI 9 (.call 21 0 true [(.t 8)]),oM 7 9,oI 10 (.ext (.t 7) 0),oI 11 (.ext (.t 7) 1),oI 12 (.ext (.t 7) 2),oM 4 10,oM 5 11,oM 6 12] none [5,1]) (.seq (.region [oM 13 5,oL 14 1,oI 15 (.call 32 0 true [(.t 13),(.t 14)]),oM 3 15] none [3]) .ret)))
def ZoB:Zaj:=⟨[(.tmp 3)],Zmb⟩
theorem ZtY:FC 31=some ZoB:=by kernel_rfl
theorem ZtM:ZoB.body=Zmb:=rfl
theorem ZqX:ZoB.res=[(.tmp 3)]:=rfl
def ZnW:ZM:=(.seq (.region [oI 4 (.mov (.c (.lst true [])))] none [1,0]) (.seq (.region [oM 5 0,oI 6 (.nilchk (.t 5)),oF 7 0 6,oL 8 7,oM 9 1,oI 10 (.look 2 (.lst true []) false (.t 8) (.t 9)),oI 11 (.call 27 1 false [(.t 10)]),oM 4 11] none [4]) .ret))
def ZmV:Zaj:=⟨[(.tmp 4)],ZnW⟩
theorem ZBJ:FC 14=some ZmV:=by kernel_rfl
theorem ZGa:ZmV.body=ZnW:=rfl
theorem ZGd:ZmV.res=[(.tmp 4)]:=rfl
def Zfi:ZM:=(.seq (.region [oM 26 7,oM 6 26] none [6]) .ret)
def ZqE:ZM:=Zfi
def ZgF:=xw ZqE Zfi rfl
def Zfu:ZM:=(.seq (.region [oI 13 (.bin .lss (.t 12) (.t 11))] none [13,12,11,10,7,2,1]) (.seq (.cond (.t 13) .skip (.exit 0)) (.seq (.block 1 (.seq (.region [oI 14 (.iaddr 1 (.t 10) (.t 12)),oL 15 14,oM 9 15] none [12,11,10,9,7,2,1]) (.seq (.region [oM 16 1,oM 17 9,oI 18 (.call 22 0 true [(.t 16),(.t 17)]),oM 19 2,oI 20 (.beq false (.t 18) (.t 19))] none [20,12,11,10,9,7,2,1]) (.cond (.t 20) (.region [oM 21 7,oM 22 9,oI 23 (.bslice false 1 1 (.str []) [(0,(.t 22))]),oI 24 (.app 1 16 (.str []) (.t 21) (.t 23)),oM 7 24] none [12,11,10,7,2,1]) .skip)))) (.region [oI 25 (.bin .add (.t 12) (.c (.int .i64 1))),oM 12 25] none [12,11,10,7,2,1]))))
def Zpd:ZM:=Zfu
def Zgx:=xw Zpd Zfu rfl
def Zfa:ZM:=(.seq (.region [oI 6 (.mov (.c (.lst true [])))] none [2,1,0]) (.seq (.region [oI 7 (.mov (.c (.lst true [])))] none [7,2,1,0]) (.seq (.seq (.region [oM 10 0,oI 11 (.len (.t 10)),oI 12 (.mov (.c (.int .i64 0)))] none [12,11,10,7,2,1]) (.block 0 (.loop [12,11,10,7,2,1] Zpd))) ZqE)))
def Zlu:Zaj:=⟨[(.tmp 6)],Zfa⟩
theorem ZHh:FC 34=some Zlu:=by kernel_rfl
theorem Zg5:Zlu.body=Zfa:=rfl
theorem Zg6:Zlu.res=[(.tmp 6)]:=rfl
noncomputable def ZeQ (m:Nat) (tm:Tms) (σ:Za):Option (AVal×Za):=(ZaL m Zlu (Zbi FC PR BY m ZqE (Wt (Za6 0) (evL FC PR BY m [12,11,10,7,2,1] Zpd tm σ))))
def Zl9:ZM:=(.seq (.region [oI 4 (.mov (.c (.int .i64 0)))] none [1,0]) (.seq (.seq (.region [oM 5 0,oM 6 1,oI 7 (.bin .rem (.t 5) (.t 6)),oM 0 7] none [1,0]) (.seq (.region [oM 8 0,oI 9 (.bin .lss (.t 8) (.c (.int .i64 0)))] none [9,1,0]) (.cond (.t 9) (.region [oM 10 0,oM 11 1,oI 12 (.bin .add (.t 10) (.t 11)),oM 0 12] none [0]) .skip))) (.seq (.region [oM 13 0,oM 4 13] none [4]) .ret)))
def ZnD:Zaj:=⟨[(.tmp 4)],Zl9⟩
theorem ZAo:FC 35=some ZnD:=by kernel_rfl
theorem ZtP:ZnD.body=Zl9:=rfl
theorem ZrK:ZnD.res=[(.tmp 4)]:=rfl
end
section
set_option maxRecDepth 100000
def ZKC:Ann:={ nt:=26,lr:=fun i=>if i=0 then [1,0] else if i=1 then [5,1,0] else if i=7 then [5] else [4] }
def ZHW:Ann:={ nt:=26,keep:=[11,10],lr:=fun i=>if i=5 then [18,10,6,5,1] else [10,5,1] }
def c1S:ZM:=.seq (.region [oI 4 (.mov (.c (.lst true [])))] none [1,0]) (.seq (.region [oI 5 (.mov (.c (.lst true [])))] none [5,1,0]) .skip)
def Zmq:List AOp:=[⟨some 7,.mov (.t 0),none,[]⟩,⟨some 8,.nilchk (.t 7),none,[0]⟩,⟨some 9,.faddr 0 (.t 8),none,[1]⟩,⟨some 10,.ld none (.t 9),none,[2]⟩]
def Zbx:List AOp:=[⟨some 15,.ext (.t 14) 0,none,[0]⟩,⟨some 6,.mov (.t 15),none,[1,0,1]⟩]
def c2S:ZM:=.seq (.region [oM 16 1,oM 17 6,oI 18 (.callv (.t 16) [(.t 17)])] none [18,10,6,5,1]) (.cond (.t 18) (.region [oM 19 5,oM 20 6,oI 21 (.bslice false 1 1 (.str []) [(0,(.t 20))]),oI 22 (.app 1 16 (.str []) (.t 19) (.t 21)),oM 5 22] none [10,5,1]) .skip)
def c3S:ZM:=.seq (.region [oM 23 5,oI 24 (.call 47 0 true [(.t 23)])] none [5]) (.seq (.region [oM 25 5,oM 4 25] none [4]) .ret)
theorem ZHi:Zvo Tryd.prog 28 ZKC ZHW 26 2 4 10 11 12 13 14 0 1 [10,5,1] Zmq Zbx c1S c2S c3S [.tmp 4] :=
 ⟨_,_,_,_,_,_,_,_,_,_,_,_,_,_,_,_,_,_,_,Tryd.func28,by kernel_rfl,rfl,by kernel_rfl,rfl,rfl,rfl,rfl,rfl,rfl,rfl,rfl,Tryd.underlying43,rfl,rfl,rfl,rfl,rfl,rfl,rfl,rfl,rfl,by kernel_rfl,by kernel_rfl,by kernel_rfl,by kernel_rfl,by kernel_rfl,rfl,rfl,rfl,by decide⟩
end
section
open Go.RowKit
open Go.ChangeMaps (setBlock)
section
variable (fs:Nat->Option Zaj) (prim:ZbT) (bf:Nat->Bool) (m:Nat) (live:List Nat) (ms en b1:Nat) (aslE:List AOp) (c2 c3:ZM) (rs:List Zc0) (fin:Tms->Za->Option (AVal×Za))
noncomputable def ZfL (es es':List (AVal×AVal)) (tm:Tms) (σ:Za):Option (AVal×Za) :=
 match ZcE fs prim bf m live ms en b1 aslE c2 es es' tm σ with
 | some (tm',σ')=>fin tm' σ'
 | none=>none
open Classical in
noncomputable def ZlD (es:List (AVal×AVal)) (tm:Tms) (σ:Za):Option (AVal×Za) :=
 if h:∃ out,∀ es':List (AVal×AVal),es'.Perm es->ZfL fs prim bf m live ms en b1 aslE c2 fin es es' tm σ=some out then some h.choose else none
open Classical in
noncomputable def Zja (t:Nat) (es:List (AVal×AVal)) (tm:Tms) (σ:Za):Option (AVal×Za) :=
 if (gcT m (keepL live tm) σ).2[t]?=some (.map es)/\∀ u x,u≠t->(gcT m (keepL live tm) σ).2[u]?=some x->Zce x=false then ZaL m ⟨rs,c3⟩ (evC fs prim bf m c3 (gcT m (keepL live tm) σ).1 ((gcT m (keepL live tm) σ).2.set t (.rmap es))) else none
end
open Classical in
noncomputable def Zi0 (fs:Nat->Option Zaj) (prim:ZbT) (bf:Nat->Bool) (live:List Nat) (ms en b1:Nat) (asl1 aslE:List AOp) (c1 c2 c3:ZM) (rs:List Zc0) (args:List AVal) (σ:Za):Option (AVal×Za) :=
 match evC fs prim bf σ.length c1 (enterA 0 args []) σ with
 | some (.normal,tm1,σ1)=>match Zdr bf asl1 tm1 σ1 with
  | some (tm2,σ2)=>match tget tm2 ms with
   | .map t=>match σ2[t]? with
    | some (.rmap es)=>if t < σ.length/\(∀ u x,u≠t->σ2[u]?=some x->Zce x=false) then ZlD fs prim bf σ.length live ms en b1 aslE c2 (Zja fs prim bf σ.length live c3 rs t es) es tm2 (σ2.set t (.map es)) else none
    | _=>none
   | _=>none
  | none=>none
 | _=>none
section
variable {base:Nat->Prop} {w0 w:World} {I0 I:Imm} {β:Bmap} {σ:Za}
theorem Zqk {t b:Nat} {x:Z5} (h:ZbG β t x b):Zce x=true:=by cases x <;> first | rfl | cases h
theorem Rel.openR (R:Rel base w0 I0 I β σ w) {t b k c:Nat} {es:List (AVal×AVal)} (ht:σ[t]?=some (.rmap es)) (hb:β t 0=some ⟨some b,k,c⟩) (hro:∀ u x,u≠t->σ[u]?=some x->Zce x=false):Rel (fun j=>base j/\j≠b) w0 I0 I β (σ.set t (.map es)) w:=by
 have hbase:base b:=R.ro t _ b ht (by simp [ZbG,hb])
 have htl:t < σ.length:=(Xu.1 ht).1
 have look:∀ u x,(σ.set t (.map es))[u]?=some x->(u=t/\x=.map es)\/(u≠t/\σ[u]?=some x):=fun u x h=>ZeB htl h
 have hB:=R.blk t _ ht
 have hI:∀ o,I b o=none:=fun o=>by
  cases h:I b o with
  | none=>rfl
  | some u =>
   have h1:=R.imm b o u h
   obtain ⟨b',k',c',arr,clk,e1,e2,_⟩:=hB
   rw [hb] at e1
   simp only [Xa,BI.mk.injEq] at e1
   obtain ⟨rfl,_,_⟩:=e1
   simp only [World.cell?,e2] at h1
   cases h1
 have ownb:∀ (_:Nat) (j:Nat),ZO w β t (.map es) j->j=b:=fun _ j h=>by
  have : some b=some j:=by simpa [ZO,hb] using h
  exact (WU this).symm
 refine ⟨R.below.mono fun _ h=>h.1,fun j o h=>R.old j o h.1,R.imm,?_,?_,?_,?_,?_,?_,R.glob,?_⟩
 ·intro u x hx
  rcases look u x hx with ⟨rfl,rfl⟩ | ⟨_,hx⟩
  ·exact hB
  ·exact R.blk u x hx
 ·intro u x j hx ho
  rcases look u x hx with ⟨rfl,rfl⟩ | ⟨_,hx⟩
  ·have:=ownb 0 j ho;subst this
   exact ⟨fun h=>h.2 rfl,hI⟩
  ·exact ⟨fun h=>(R.own u x j hx ho).1 h.1,(R.own u x j hx ho).2⟩
 ·intro u x u' x' j hx hx' ho ho'
  rcases look u x hx with ⟨rfl,rfl⟩ | ⟨hu,hx2⟩
  ·rcases look u' x' hx' with ⟨rfl,rfl⟩ | ⟨hu',hx3⟩
   ·rfl
   ·have:=ownb 0 j ho;subst this
    exact absurd hbase (R.own u' x' _ hx3 ho').1
  ·rcases look u' x' hx' with ⟨rfl,rfl⟩ | ⟨hu',hx3⟩
   ·have:=ownb 0 j ho';subst this
    exact absurd hbase (R.own u x _ hx2 ho).1
   ·exact R.apart u x u' x' j hx2 hx3 ho ho'
 ·exact fun u g hu=>R.fresh u g (by simpa using hu)
 ·intro u g hx
  rcases look u _ hx with ⟨_,h⟩ | ⟨_,hx⟩
  ·cases h
  ·exact R.free u g hx
 ·intro u x g hx hg
  rcases look u x hx with ⟨rfl,rfl⟩ | ⟨_,hx⟩
  ·exact R.gen u _ g ht hg
  ·exact R.gen u x g hx hg
 ·intro u x j hx hs
  rcases look u x hx with ⟨rfl,rfl⟩ | ⟨hu,hx⟩
  ·cases hs
  ·skip
   have:=Zqk hs
   rw [hro u x hu hx] at this;cases this
theorem Rel.shutR {t b k c:Nat} {es:List (AVal×AVal)} (R:Rel (fun j=>base j/\j≠b) w0 I0 I β σ w) (ht:σ[t]?=some (.map es)) (hb:β t 0=some ⟨some b,k,c⟩) (hw:w.heap[b]?=w0.heap[b]?) (hI0:∀ o,I0 b o=none) (hbase:base b) (hro:∀ u x,u≠t->σ[u]?=some x->Zce x=false):Rel base w0 I0 I β (σ.set t (.rmap es)) w:=by
 have htl:t < σ.length:=(Xu.1 ht).1
 have look:∀ u x,(σ.set t (.rmap es))[u]?=some x->(u=t/\x=.rmap es)\/(u≠t/\σ[u]?=some x):=fun u x h=>ZeB htl h
 have hob:ZO w β t (.map es) b:=by simp [ZO,hb]
 have hI:=(R.own t _ b ht hob).2
 refine ⟨⟨R.below.os,R.below.tape,R.below.output,R.below.size,fun j hj=>?_⟩,fun j o hj=>?_,R.imm,?_,?_,?_,?_,?_,?_,R.glob,?_⟩
 ·by_cases e:j=b
  ·subst e;exact hw
  ·exact R.below.block j ⟨hj,e⟩
 ·by_cases e:j=b
  ·subst e;rw [hI,hI0]
  ·exact R.old j o ⟨hj,e⟩
 ·intro u x hx
  rcases look u x hx with ⟨rfl,rfl⟩ | ⟨_,hx⟩
  ·have h:=R.blk u (.map es) ht
   exact h
  ·exact R.blk u x hx
 ·intro u x j hx ho
  rcases look u x hx with ⟨rfl,rfl⟩ | ⟨hu,hx⟩
  ·cases ho
  ·refine ⟨fun h=>?_,(R.own u x j hx ho).2⟩
   by_cases e:j=b
   ·subst e;exact hu (R.apart u x t _ j hx ht ho hob)
   ·exact (R.own u x j hx ho).1 ⟨h,e⟩
 ·intro u x u' x' j hx hx' ho ho'
  rcases look u x hx with ⟨rfl,rfl⟩ | ⟨hu,hx⟩
  ·cases ho
  ·rcases look u' x' hx' with ⟨rfl,rfl⟩ | ⟨hu',hx'⟩
   ·cases ho'
   ·exact R.apart u x u' x' j hx hx' ho ho'
 ·exact fun u g hu=>R.fresh u g (by simpa using hu)
 ·intro u g hx
  rcases look u _ hx with ⟨_,h⟩ | ⟨_,hx⟩
  ·cases h
  ·exact R.free u g hx
 ·intro u x g hx hg
  rcases look u x hx with ⟨rfl,rfl⟩ | ⟨_,hx⟩
  ·exact R.gen u _ g ht hg
  ·exact R.gen u x g hx hg
 ·intro u x j hx hs
  rcases look u x hx with ⟨rfl,rfl⟩ | ⟨hu,hx⟩
  ·have : some b=some j:=by simpa [ZbG,hb] using hs
   rw [<-WU this];exact hbase
  ·have:=Zqk hs
   rw [hro u x hu hx] at this;cases this
end
section
variable {P:Program} {base:Nat->Prop} {w0:World} {I0:Imm}
variable {fs:Nat->Option Zaj} {prim:ZbT} {bf:Nat->Bool} {m:Nat} {live:List Nat} {ms it nx ok en bid b1 nt:Nat} {aslE:List AOp} {c2 c3:ZM} {rs:List Zc0} {fin:Tms->Za->Option (AVal×Za)}
theorem ZIz (hm:P.follows .mixedOrders=true) (hO:∀ n,ZaY P (ZaT fs prim bf n)) (hb:KLt base w0) {an3:Ann} {ops3 ops4:Array Oper} {i3 i4:Nat} {body:Code} {nxo exo eno:Oper} {lE:List Oper}
  (h3:ops3.toList=[nxo,exo]) (h4:ops4.toList=eno::lE)
  (hn1:nxo.op=.next (.tmp it) false) (hn2:nxo.dst=some nx) (hn3:nxo.guard=none) (hx1:exo.op=.extract (.tmp nx) 0) (hx2:exo.dst=some ok) (hx3:exo.guard=none)
  (he1:eno.op=.entry (.tmp it)) (he2:eno.dst=some en) (he3:eno.guard=none) (hcE:Zcl P an3 ops4 lE=some aslE) (hc2:Zcf (Za2 P an3 body)=c2) (hnt3:an3.nt=nt) (hk3:an3.keep=[it,ms])
  (d1:it < nt) (d2:nx < nt) (d3:ok < nt) (d4:en < nt) (d5:it≠ms) (d6:nx≠ms) (d7:ok≠ms) (d8:en≠ms) (d9:nx≠it) (d10:ok≠it) (d11:en≠it) (d12:nx≠ok) (hlv:∀ n ∈ live,n≠it/\n≠nx/\n≠ok/\n≠en)
  {r b clk:Nat} {arr:Array MapEntry} {es:List (AVal×AVal)} (hS:Zgg arr clk) (hne:arr.size=es.length) (hrb:r≠b) (hrbase:¬base r) (hbbase:¬base b)
  {tm2:Tms} {σ2:Za} {out:AVal×Za} (hall:∀ es':List (AVal×AVal),es'.Perm es->ZfL fs prim bf m live ms en b1 aslE c2 fin es es' tm2 σ2=some out)
  {I:Imm} {β:Bmap} {Q:Exit->Act->World->Prop}
  (hQ:∀ tm σ a w I' β',fin tm σ=some out->I.le I'->KeptE m β β'->TR I' β' (keepL live tm) a.tmps->(a.defers=[]/\nt<=a.tmps.size)->Rel base w0 I0 I' β' σ w->w.heap[b]?=some (.map arr clk)->Q (.exit bid) a w) :
  ∀ (n:Nat) (js:List Nat) (tm:Tms) (σ:Za) (a:Act) (w:World),n+js.length=es.length+1->js.Nodup->(∀ j ∈ js,j < es.length)->ZcE fs prim bf m live ms en b1 aslE c2 es (js.map fun j=>es.getD j (.top,.top)) tm2 σ2=some (tm,σ) ->
   w.heap[r]?=some (.mapIter (some b) clk (js.map (ZfI arr)).toArray clk)->w.heap[b]?=some (.map arr clk) ->
   (∃ I' β',I.le I'/\KeptE m β β'/\TR I' β' (keepL live tm) a.tmps/\((ZcD it ms r b).ok a/\nt<=a.tmps.size)/\Rel base w0 I0 I' β' σ w/\(∀ o,I' r o=none)/\(∀ t x,σ[t]?=some x->¬ZO w β' t x r)) ->
   Code.rounds P (.seq (.region i3 ops3 false) (.seq (.cond (.tmp ok) .skip (.exit bid)) (.block b1 (.seq (.region i4 ops4 false) body)))) Q n a w:=by
 have hperm:∀ js:List Nat,js.Nodup->(∀ j ∈ js,j < es.length)->∃ rest:List Nat,(WS es.length).Perm (js++rest):=fun js h1 h2=>Zvb js _ h1 (fun j hj=>Xaq.2 (h2 j hj)) Xbe
 have hpm:∀ js rest:List Nat,(WS es.length).Perm (js++rest)->(js.map (fun j=>es.getD j (.top,.top))++rest.map fun j=>es.getD j (.top,.top)).Perm es:=by
  intro js rest h
  have:=h.map (fun j=>es.getD j ((.top,.top):AVal×AVal))
  rw [ZGL,Wm] at this
  exact this.symm
 intro n
 induction n with
 | zero =>
  intro js tm σ a w hn hnd hlt _ _ _ _
  exfalso
  obtain ⟨rest,hr⟩:=hperm js hnd hlt
  have:=hr.length_eq
  simp at this
  omega
 | succ n ih =>
  intro js tm σ a w hn hnd hlt hf hit hmap hst
  rw [rounds_succ]
  obtain ⟨I1,β1,g1,g2,T1,⟨gd,gs⟩,R1,hIr,hown⟩:=hst
  have vit:a.tmps.getD it undef=.pointer (some ⟨r,0,none⟩):=by
   have:=gd.2 it (by simp [ZcD]);simpa [ZcD] using this
  have vms:a.tmps.getD ms undef=.map (some b):=by
   have:=gd.2 ms (by simp [ZcD]);simpa [ZcD,W0 d5] using this
  refine wp_seq (wp_region_list ?_)
  rw [h3]
  refine Zgz hn3 ?_
  unfold Oper.wp
  have hlook:=run_next_at (P:=P) w nxo.type r b clk clk _ arr clk hit hmap (fun x hx=>hS.1 x hx) (X5 _)
  rcases hlook with ⟨hz,hrun⟩ | ⟨e,he,w1,hw1,hrun⟩
  ·
   have e1:(execOp a.eval nxo).run P w=.ok (.value (.tuple #[.bool false])) w:=by
    unfold execOp;rw [hn1]
    simp only [Act.eval]
    rw [vit]
    exact ZkJ hrun
   rw [e1,Oper.upon_value,hn2]
   refine Zgz hx3 ?_
   unfold Oper.wp
   have e2:(execOp (a.put (some nx) (.tuple #[.bool false])).eval exo).run P w=.ok (.value (.bool false)) w:=by
    unfold execOp;rw [hx1]
    simp only [Act.eval]
    rw [pgs (by omega)]
    exact ZkJ (by simp [Instr.extract])
   rw [e2,Oper.upon_value,hx2]
   refine wpList_nil ?_
   simp only [Exit.then]
   refine wp_seq (wp_cond_false (by simp only [Act.eval];exact pgs (by rw [ZdR];omega)) (wp_exit ?_))
   simp only [Exit.then]
   obtain ⟨rest,hr⟩:=hperm js hnd hlt
   have hrest:rest=[]:=by
    cases rest with
    | nil=>rfl
    | cons x rest =>
     exfalso
     have hx:x < es.length:=Xaq.1 (hr.mem_iff.2 (by simp))
     obtain ⟨ex,hxa⟩:∃ ex,arr.toList[x]?=some ex:=⟨_,XY (by simpa [hne] using hx)⟩
     have hs:=Zwa hz (arr.toList.getD x ⟨undef,undef,0⟩) (by
      rw [Xz,hxa];exact XN hxa)
     have hnd2:(js++x::rest).Nodup:=hr.nodup_iff.1 Xbe
     have hxj:x ∉ js:=fun hm=>by
      have:=(WG.1 hnd2).2.2 x hm x (by simp)
      exact this rfl
     simp only [List.contains_toArray,Xbg,decide_eq_true_eq,X0] at hs
     obtain ⟨y,hy,hyx⟩:=hs
     have hyl:y < es.length:=hlt y hy
     obtain ⟨ey,hya⟩:∃ ey,arr.toList[y]?=some ey:=⟨_,XY (by simpa [hne] using hyl)⟩
     have hnb:=hS.2
     have e3:(arr.toList.map (·.born))[y]?=(arr.toList.map (·.born))[x]?:=by
      rw [Wh,Wh,hya,hxa]
      simp only [We,Xa]
      unfold ZfI at hyx
      rw [Xz,Xz,hya,hxa] at hyx
      exact hyx
     have hyx2:=(List.getElem?_inj (by simpa [hne] using hyl) hnb).1 e3
     subst hyx2
     exact hxj hy
   subst hrest
   have hp:=hpm js [] hr
   have ho:=hall _ hp
   unfold ZfL at ho
   rw [Zjb,hf] at ho
   simp only [Wr,ZcE] at ho
   refine hQ tm σ _ w I1 β1 ho g1 g2 ?_ ⟨by rw [Zkc,Zkc];exact gd.1,by rw [ZdR,ZdR];exact gs⟩ R1 hmap
   have t0:∀ d,d ∉ live->tget (keepL live tm) d=.top:=fun d hd=>by rw [Zkg,if_neg hd]
   exact ZjQ (ZjQ T1 (t0 nx fun h=>(hlv nx h).2.1 rfl)) (t0 ok fun h=>(hlv ok h).2.2.1 rfl)
  ·
   obtain ⟨hea,hes⟩:=Zyh he
   obtain ⟨j,hj,hje⟩:=List.getElem_of_mem hea
   have hja:arr.toList[j]?=some e:=by rw [XY hj,hje]
   have hjl:j < es.length:=by simpa [hne] using hj
   have hbj:ZfI arr j=e.born:=by unfold ZfI;rw [Xz,hja];rfl
   have hjs:j ∉ js:=fun hm=>by
    have : (js.map (ZfI arr)).toArray.contains e.born=true:=by
     simp only [List.contains_toArray,Xbg,decide_eq_true_eq,X0]
     exact ⟨j,hm,hbj⟩
    rw [this] at hes;cases hes
   have hnd':(js++[j]).Nodup:=by
    rw [WG]
    exact ⟨hnd,by simp,fun x hx y hy=>by rw [Wa] at hy;subst hy;rintro rfl;exact hjs hx⟩
   have hlt':∀ k ∈ js++[j],k < es.length:=fun k hk=>by
    rcases XL.1 hk with hk | hk
    ·exact hlt k hk
    ·rw [Wa] at hk;subst hk;exact hjl
   obtain ⟨rest,hr⟩:=hperm (js++[j]) hnd' hlt'
   have hp:=hpm (js++[j]) rest hr
   have ho:=hall _ hp
   unfold ZfL at ho
   rw [Zjb,Wm,Zjb,hf] at ho
   simp only [XS,Wr,ZcE] at ho
   generalize hkv:es.getD j ((.top,.top):AVal×AVal)=kv at ho
   cases hro:ZbU fs prim bf m live ms en b1 aslE c2 es kv tm σ with
   | none=>rw [hro] at ho;cases ho
   | some q =>
   obtain ⟨tm',σ'⟩:=q
   clear ho
   have hf':ZcE fs prim bf m live ms en b1 aslE c2 es ((js++[j]).map fun j=>es.getD j (.top,.top)) tm2 σ2=some (tm',σ'):=by
    rw [Wm,Zjb,hf]
    simp only [XS,Wr,ZcE,hkv,hro]
   unfold ZbU at hro
   split at hro
   case h_2=>cases hro
   rename_i t hmst
   split at hro
   case isFalse=>cases hro
   rename_i hcond
   obtain ⟨hte,hkept⟩:=hcond
   split at hro
   case h_2=>cases hro
   rename_i tmA σA hstep
   have hbw:=R1.base_le hb
   have Rr:=R1.rebase hown
   obtain ⟨β0,q1,R0r,T0⟩:=Zot Rr T1 m
   have R0:=R1.unbase R0r (fun k h=>XK h) (fun t x b hx hs=>by
    rcases R0r.ro t x b hx hs with h | rfl
    ·exact h
    ·exfalso
     cases x with
     | rmap es2 =>
      obtain ⟨b2,_,_,_,_,e1,e2,_⟩:=R0r.blk t _ hx
      simp only [ZbG,e1,Option.bind_some,Xa] at hs
      subst hs
      rw [hit] at e2;cases e2
     | _=>cases hs)
   have hown0:∀ t x,(gcT m (keepL live tm) σ).2[t]?=some x->¬ZO w β0 t x r:=fun t x hx ho=>(R0r.own t x r hx ho).1 (XO rfl)
   have tt:∀ d,d ∉ live->tget (gcT m (keepL live tm) σ).1 d=.top:=fun d hd=>ZAT hd
   have hml:=ZIp m (keepL live tm) σ
   generalize (gcT m (keepL live tm) σ).1=tm0 at *
   generalize (gcT m (keepL live tm) σ).2=σ0 at *
   have vt:=T0 ms
   rw [hmst,vms] at vt
   simp only [VR] at vt
   obtain ⟨b',kk',cc',hbt,hbb⟩:=vt
   simp only [Value.map.injEq,Xa] at hbb
   subst hbb
   obtain ⟨b2,k2,c2',arr',clk',e1,e2,e3,e4,e5,e6⟩:=R0.blk t _ hte
   rw [hbt] at e1
   simp only [Xa,BI.mk.injEq] at e1
   obtain ⟨rfl,rfl,rfl⟩:=e1
   rw [hmap] at e2
   simp only [Xa,Obj.map.injEq] at e2
   obtain ⟨rfl,rfl⟩:=e2
   have howb:ZO w β0 t (.map es) b:=by simp [ZO,hbt]
   have htl:t < σ0.length:=(Xu.1 hte).1
   have e1:(execOp a.eval nxo).run P w=.ok (.value (.tuple #[.bool true,e.key,e.val])) (setBlock w1 r (.mapIter (some b) clk ((js.map (ZfI arr)).toArray.push e.born) clk)):=by
    unfold execOp;rw [hn1]
    simp only [Act.eval]
    rw [vit]
    rw [Sem.run_bind,hrun];rfl
   have hw1h:w1.heap=w.heap/\w1.os=w.os/\w1.tape=w.tape/\w1.output=w.output:=by rcases hw1 with rfl | rfl <;> exact ⟨rfl,rfl,rfl,rfl⟩
   obtain ⟨wh,wo,wt,wu⟩:=hw1h
   have hrlt:r < w.heap.size:=(XW.1 hit).1
   generalize hw3:setBlock w1 r (.mapIter (some b) clk ((js.map (ZfI arr)).toArray.push e.born) clk)=w3 at e1
   have w3r:w3.heap[r]?=some (.mapIter (some b) clk ((js.map (ZfI arr)).toArray.push e.born) clk):=by
    rw [<-hw3];simp only [setBlock,wh];rw [Array.getElem?_setIfInBounds_self_of_lt hrlt]
   have w3k:∀ k,k≠r->w3.heap[k]?=w.heap[k]?:=fun k hk=>by
    rw [<-hw3];simp only [setBlock,wh];rw [Array.getElem?_setIfInBounds_ne (W0 hk)]
   have w3b:w3.heap[b]?=some (.map arr clk):=by rw [w3k b (W0 hrb)];exact hmap
   have w3s:w3.heap.size=w.heap.size:=by rw [<-hw3];simp [setBlock,wh]
   have R3:Rel base w0 I0 I1 β0 σ0 w3:=R0.turn hown0 hrbase hIr (by rw [<-hw3];exact wo) (by rw [<-hw3];exact wt) (by rw [<-hw3];exact wu) (by omega) (fun k hk _=>w3k k hk) hbw
   have hIb:∀ o,I1 b o=none:=(R3.own t _ b hte howb).2
   have hown3:∀ t x,σ0[t]?=some x->¬ZO w3 β0 t x r:=fun t x hx ho=>hown0 t x hx (((R0.blk t x hx).owns_at (Bmap.le.refl β0) (fun b' hb'=>w3k b' (by rintro rfl;exact hown0 t x hx hb')) r).1 ho)
   have RH:=R3.hide hte howb hown3
   rw [e1,Oper.upon_value,hn2]
   generalize hA1:a.put (some nx) (.tuple #[.bool true,e.key,e.val])=A1
   have s1:A1.tmps.size=a.tmps.size:=by rw [<-hA1,ZdR]
   have f1:∀ k,k≠nx->A1.tmps.getD k undef=a.tmps.getD k undef:=by intro k hk;rw [<-hA1];exact pgn (W0 hk)
   have df1:A1.defers=[]:=by rw [<-hA1];exact gd.1
   have TA1:TR I1 β0 tm0 A1.tmps:=by rw [<-hA1];exact ZjQ T0 (tt nx fun h=>(hlv nx h).2.1 rfl)
   refine Zgz hx3 ?_
   unfold Oper.wp
   have e2:(execOp A1.eval exo).run P w3=.ok (.value (.bool true)) w3:=by
    unfold execOp;rw [hx1]
    simp only [Act.eval]
    rw [<-hA1,pgs (by omega)]
    exact ZkJ (by simp [Instr.extract])
   rw [e2,Oper.upon_value,hx2]
   generalize hA2:A1.put (some ok) (.bool true)=A2
   have s2:A2.tmps.size=a.tmps.size:=by rw [<-hA2,ZdR,s1]
   have f2:∀ k,k≠ok->A2.tmps.getD k undef=A1.tmps.getD k undef:=by intro k hk;rw [<-hA2];exact pgn (W0 hk)
   have df2:A2.defers=[]:=by rw [<-hA2];exact df1
   have TA2:TR I1 β0 tm0 A2.tmps:=by rw [<-hA2];exact ZjQ TA1 (tt ok fun h=>(hlv ok h).2.2.1 rfl)
   refine wpList_nil ?_
   simp only [Exit.then]
   refine wp_seq (wp_cond_true (by simp only [Act.eval];rw [<-hA2];exact pgs (by omega)) (wp_skip ?_))
   simp only [Exit.then]
   refine wp_block (wp_seq (wp_region_list ?_))
   rw [h4]
   refine Zgz he3 ?_
   unfold Oper.wp
   have e3':(execOp A2.eval eno).run P w3=.ok (.value (.tuple #[e.key,e.val])) w3:=by
    unfold execOp;rw [he1]
    simp only [Act.eval]
    rw [f2 it (W0 d10),f1 it (W0 d9),vit]
    exact ZkJ (run_entry_at w3 r b clk _ arr clk e w3r w3b hea hS.2)
   rw [e3',Oper.upon_value,he2]
   generalize hA3:A2.put (some en) (.tuple #[e.key,e.val])=A3
   have s3:A3.tmps.size=a.tmps.size:=by rw [<-hA3,ZdR,s2]
   have f3:∀ k,k≠en->A3.tmps.getD k undef=A2.tmps.getD k undef:=by intro k hk;rw [<-hA3];exact pgn (W0 hk)
   have df3:A3.defers=[]:=by rw [<-hA3];exact df2
   have hkve:VR I1 β0 (.tup [kv.1,kv.2]) (.tuple #[e.key,e.val]):=by
    have hej:es[j]?=some kv:=by
     rw [<-hkv,Xz,XY hjl];rfl
    obtain ⟨v1,p1,p2⟩:=Zco e3 (i:=j) (x:=kv.1) (by rw [Wh,hej];rfl)
    obtain ⟨v2,p3,p4⟩:=Zco e4 (i:=j) (x:=kv.2) (by rw [Wh,hej];rfl)
    rw [Wh,hja] at p1 p3
    simp only [We,Xa] at p1 p3
    subst p1 p3
    simp only [VR]
    exact ⟨_,rfl,by simp only [VRs];exact ⟨_,_,rfl,p2,_,_,rfl,p4,rfl⟩⟩
   have TA3:TR I1 β0 (tput tm0 (some en) (.tup [kv.1,kv.2])) A3.tmps:=by rw [<-hA3];exact TR.put TA2 hkve (by omega)
   have ok3:(ZcD it ms r b).ok A3:=by
    refine ⟨df3,fun k hk=>?_⟩
    have hk':k=it\/k=ms:=by simpa [ZcD] using hk
    have n1:k≠en/\k≠ok/\k≠nx:=by
     rcases hk' with rfl | rfl
     ·exact ⟨W0 d11,W0 d10,W0 d9⟩
     ·exact ⟨W0 d8,W0 d7,W0 d6⟩
    rw [f3 k n1.1,f2 k n1.2.1,f1 k n1.2.2]
    exact gd.2 k hk
   have hkp:∀ n ∈ (ZcD it ms r b).K,n ∈ an3.keep:=fun n hn=>by rw [hk3];exact hn
   have hblt:b < w.heap.size:=(XW.1 hmap).1
   have hbH:KLt (fun k=>base k\/k=b\/k=r) w3:=fun k hk=>by
    rcases hk with hk | rfl | rfl
    ·have:=hbw k hk;omega
    ·omega
    ·omega
   obtain ⟨cs,hruns⟩:=Zru hstep
   rw [<-Xw lE]
   refine ZoP (dr:=ZcD it ms r b) (O:=fun _ _ _=>none) noO hkp hbH hcE TA3 ⟨ok3,by omega⟩ RH hruns ?_
   intro A4 w4 hst4
   refine wpList_nil ?_
   simp only [Exit.then]
   have fin:∀ (x:Za9) (tmB:Tms) (σB:Za),evC fs prim bf σ0.length c2 tmA σA=some (x,tmB,σB)->(x=.normal\/x=.exit b1)->(σB[t]?=some (.rmap es)/\Zc4 (σ0.set t (.rmap es)) σB=true)->tput tmB (some ms) (.map t)=tm'->σB.set t (.map es)=σ'->body.wp P (Exit.inBlock b1 (Exit.then (Code.rounds P (.seq (.region i3 ops3 false) (.seq (.cond (.tmp ok) .skip (.exit bid)) (.block b1 (.seq (.region i4 ops4 false) body)))) Q n) Q)) A4 w4:=by
    intro x tmB σB hev hx hopq htm hσ
    obtain ⟨nf,hev⟩:=Zbt.1 hev
    rw [<-hc2,Zep] at hev
    have hstF:StF (ZcD it ms r b) σ0.length an3.nt (fun k=>base k\/k=b\/k=r) w3 I1 I1 β0 tmA σA A4 w4:=by
     obtain ⟨I4,β4,k1,k2,k3⟩:=hst4
     exact ⟨I4,β4,k1,KeptE.of_le k2,k3⟩
    have next:∀ A5 w5,StF (ZcD it ms r b) σ0.length an3.nt (fun k=>base k\/k=b\/k=r) w3 I1 I1 β0 tmB σB A5 w5->Code.rounds P (.seq (.region i3 ops3 false) (.seq (.cond (.tmp ok) .skip (.exit bid)) (.block b1 (.seq (.region i4 ops4 false) body)))) Q n A5 w5:=by
     rintro A5 w5 ⟨I5,β5,k1,k2,k3,⟨k4,k4'⟩,k5⟩
     have hb5:β5 t 0=some ⟨some b,kk',cc'⟩:=k2 t htl _ hbt
     have w5b:w5.heap[b]?=some (.map arr clk):=by rw [k5.below.block b (XO (XK rfl))];exact w3b
     have w5r:w5.heap[r]?=_:=(k5.below.block r (XO (XO rfl))).trans w3r
     have hI5b:∀ o,I5 b o=none:=fun o=>by rw [k5.old b o (XO (XK rfl))];exact hIb o
     have hI5r:∀ o,I5 r o=none:=fun o=>by rw [k5.old r o (XO (XO rfl))];exact hIr o
     have hB5:BR I5 β5 w5 t (.map es):=⟨b,kk',cc',arr,clk,hb5,w5b,ZpS (fun y hy=>by obtain ⟨p,hp,rfl⟩:=X0.1 hy;exact e5 p hp) e3,Zsn k1 k2 (fun y hy=>by obtain ⟨p,hp,rfl⟩:=X0.1 hy;exact hkept p hp) e4,e5,hS⟩
     have ho5:ZO w β5 t (.map es) b:=by simp [ZO,hb5]
     have R5:=R3.unhide k5 hopq.1 ho5 hB5 hbbase hI5b (fun u x b' hne hx hs=>by
      cases x with
      | rmap es2 =>
       obtain ⟨y,h2,h1⟩:=ZmN hopq.2 hx rfl
       rw [List.getElem?_set_ne (W0 hne)] at h2
       cases y <;> simp [Zce] at h1
       rename_i es3
       obtain ⟨b2,k2',c2',_,_,e1,_⟩:=R0.blk u _ h2
       have e2:=k2 u (Xu.1 h2).1 _ e1
       refine R0.ro u _ b' h2 ?_
       simp only [ZbG,e2] at hs
       simpa [ZbG,e1] using hs
      | _=>cases hs)
     rw [hσ] at R5
     refine ih (js++[j]) tm' σ' A5 w5 (by rw [List.length_append,List.length_singleton];omega) hnd' hlt' hf' ?_ w5b ⟨I5,β5,g1.trans k1,?_,?_,⟨k4,by omega⟩,R5,hI5r,?_⟩
     ·rw [w5r,Wm,XS,Wr,hbj,List.push_toArray]
     ·refine (g2.trans q1).trans (fun u hu bi hbi=>k2 u (by omega) bi hbi)
     ·refine TR.keep (fun u=>?_) live
      rw [<-htm]
      show VR I5 β5 (tget (tins ms (.map t) tmB) u) _
      rw [ZjO]
      split
      ·rename_i e;subst e
       have : A5.tmps.getD ms undef=.map (some b):=by have:=k4.2 ms (by simp [ZcD]);simpa [ZcD,W0 d5] using this
       rw [this]
       simp only [VR]
       exact ⟨b,kk',cc',hb5,rfl⟩
      ·exact k3 u
     ·intro u y hy hoy
      rw [<-hσ,XB] at hy
      split at hy
      ·rename_i e;subst e
       split at hy
       ·injection hy with hy;subst hy
        exact hrb (WU (ho5.symm.trans hoy)).symm
       ·cases hy
      ·exact (k5.own u y r hy hoy).1 (XO (XO rfl))
    refine Zmv (dr:=ZcD it ms r b) (an:=an3) (hO nf) hkp hm hbH σ0.length nf rfl hstF hev ?_
    rcases hx with rfl | rfl
    ·intro A5 w5 hs
     simp only [Exit.inBlock,Exit.then]
     exact next A5 w5 hs
    ·intro A5 w5 hs
     simp only [Exit.inBlock,if_true,Exit.then]
     exact next A5 w5 hs
   split at hro
   ·rename_i tmB σB hev
    split at hro
    case isFalse=>cases hro
    rename_i hopq
    simp only [Xa,Xg] at hro
    exact fin _ _ _ hev (XK rfl) hopq hro.1 hro.2
   ·rename_i i tmB σB hev
    split at hro
    case isFalse=>cases hro
    rename_i hopq
    obtain ⟨rfl,hopq⟩:=hopq
    simp only [Xa,Xg] at hro
    exact fin _ _ _ hev (XO rfl) hopq hro.1 hro.2
   ·cases hro
end
section
variable {P:Program} {fs:Nat->Option Zaj} {prim:ZbT} {bf:Nat->Bool}
theorem ZLq (hm:P.follows .mixedOrders=true) (hO:∀ n,ZaY P (ZaT fs prim bf n)) {f:FuncId} {an1 an3:Ann} {nt n0 n1 ms it nx ok en bid b1:Nat} {live:List Nat} {asl1 aslE:List AOp} {c1 c2 c3:ZM} {rs:List Zc0}
  (D:Zvo P f an1 an3 nt n0 n1 ms it nx ok en bid b1 live asl1 aslE c1 c2 c3 rs) {args:List AVal} {σ σ':Za} {r:AVal} (hg:Zi0 fs prim bf live ms en b1 asl1 aslE c1 c2 c3 rs args σ=some (r,σ')) :
  (∃ fn,P.funcs[f]?=some fn/\fn.body.isSome=true/\(fn.name == "runtime.NumGoroutine")=false) /\
  ∀ base w0 I0 I β w (vs:Array Value),KLt base w0->Rel base w0 I0 I β σ w->VRs I β args vs.toList ->
   Calls P f vs w (fun e w'=>∃ u,Ends r e u/\ZbI σ.length base w0 I0 I β r σ' u w'):=by
 obtain ⟨F,B,pre,ops1,ops3,ops4,i2,i3,i4,body,rest,t,kt,et,rg,nxo,exo,eno,lE,hF,hname,hnt,hrs,hbody,hsp,h1,h3,h4,hr1,hr2,hr3,hu,hn1,hn2,hn3,hx1,hx2,hx3,he1,he2,he3,hc1,hca1,hcE,hc2,hc3,ha1,ha3,hk3,hd⟩:=D.ex
 simp only [XE,decide_eq_true_eq,X1] at hd
 obtain ⟨⟨⟨⟨⟨⟨⟨⟨⟨⟨⟨⟨d1,d2⟩,d3⟩,d4⟩,d5⟩,d6⟩,d7⟩,d8⟩,d9⟩,d10⟩,d11⟩,d12⟩,hlv⟩:=hd
 refine ⟨⟨F,hF,by rw [hbody];rfl,hname⟩,?_⟩
 intro base w0 I0 I β w vs hb R hargs
 unfold Zi0 at hg
 split at hg
 case h_2=>cases hg
 rename_i tm1 σ1 hx
 split at hg
 case h_2=>cases hg
 rename_i tm2 σm hst1
 split at hg
 case h_2=>cases hg
 rename_i mt hms
 split at hg
 case h_2=>cases hg
 rename_i es hes0
 split at hg
 case isFalse=>cases hg
 rename_i hopen
 obtain ⟨hmt,honly⟩:=hopen
 unfold ZlD at hg
 split at hg
 case isFalse=>cases hg
 rename_i hex
 have hall:=hex.choose_spec
 injection hg with hg
 rw [hg] at hall
 obtain ⟨nf,hx⟩:=Zbt.1 hx
 rw [<-hc1,Zep] at hx
 refine calls_of_wp hF hbody ?_
 rw [ZuA hsp]
 have T:=ZqO hargs (F.ntmps - vs.size)
 have hst:StF Zby σ.length an1.nt base w0 I0 I β (enterA 0 args []) σ { tmps:=vs++Array.replicate (F.ntmps - vs.size) undef,defers:=[] } w:=⟨I,β,Imm.le.refl I,KeptE.refl _ β,T,⟨Zez.2 rfl,by rw [ha1,<-hnt];simp;omega⟩,R⟩
 refine Zte (hO nf) hm hb σ.length nf _ pre hst hx ?_
 rintro A1 w1 ⟨I1,β1,g1,g2,T1,⟨gd,gs⟩,R1⟩
 refine wp_seq (wp_seq (wp_region_list ?_))
 have hl1:ops1.toList=ops1.toList.take n1++[rg]:=by rw [<-h1,List.take_append_drop]
 rw [hl1]
 obtain ⟨cs,hruns⟩:=Zru hst1
 refine ZoP (dr:=Zby) (O:=fun _ _ _=>none) noO (fun n hn=>by simp [Zby] at hn) hb hca1 T1 ⟨gd,gs⟩ R1 hruns ?_
 rintro A2 w2 ⟨I2,β2,k1,k2,T2,⟨kd,ks⟩,R2m⟩
 have vms:=T2 ms
 rw [hms] at vms
 simp only [VR] at vms
 obtain ⟨b,kk,cc,hbt,vms⟩:=vms
 have hbase0:base b:=R2m.ro mt _ b hes0 (by simp [ZbG,hbt])
 have R2:=R2m.openR hes0 hbt honly
 have hes:(σm.set mt (.map es))[mt]?=some (.map es):=by rw [XB,if_pos rfl,if_pos (Xu.1 hes0).1]
 have hb0:=hb
 replace hb:KLt (fun k=>base k/\k≠b) w0:=fun k hk=>hb0 k hk.1
 obtain ⟨b',kk',cc',arr,clk,e1,e2,e3,e4,e5,e6⟩:=R2.blk mt _ hes
 rw [hbt] at e1
 simp only [Xa,BI.mk.injEq] at e1
 obtain ⟨rfl,rfl,rfl⟩:=e1
 refine Zgz hr3 ?_
 unfold Oper.wp
 have er:(execOp A2.eval rg).run P w2=.ok (.value (.pointer (some ⟨w2.heap.size,0,none⟩))) { w2 with heap:=w2.heap.push (.mapIter (some b) clk #[] clk) }:=by
  unfold execOp;rw [hr1]
  simp only [Act.eval]
  rw [vms]
  simp [Instr.range,run_underlying hu,Zek e2]
 rw [er,Oper.upon_value,hr2]
 refine wpList_nil ?_
 simp only [Exit.then]
 have hbw:=R2.base_le hb
 have hblt:b < w2.heap.size:=(XW.1 e2).1
 have howb:ZO w2 β2 mt (.map es) b:=by simp [ZO,hbt]
 have hI0:∀ o,I0 b o=none:=fun o=>by rw [<-R2m.old b o hbase0];exact (R2.own mt _ b hes howb).2 o
 have hw0b:w0.heap[b]?=some (.map arr clk):=by rw [<-R2m.below.block b hbase0];exact e2
 generalize hσ2:σm.set mt (.map es)=σ2 at *
 have hob:=R2.own mt _ b hes howb
 generalize hr:w2.heap.size=rr at *
 have hown:∀ t x,σ2[t]?=some x->¬ZO w2 β2 t x rr:=fun t x hx ho=>by
  have:=(R2.blk t x hx).owns_lt ho;omega
 have hrb:¬(base rr/\rr≠b):=fun h=>by have:=hbw rr h;omega
 have hIr:∀ o,I2 rr o=none:=fun o=>by
  cases hi:I2 rr o with
  | none=>rfl
  | some u =>
   have:=ZdH (R2.imm rr o u hi)
   omega
 generalize hw3:({ w2 with heap:=w2.heap.push (.mapIter (some b) clk #[] clk) }:World)=w3
 have w3k:∀ k,k < w2.heap.size->w3.heap[k]?=w2.heap[k]?:=fun k hk=>by
  rw [<-hw3];simp only;rw [Array.getElem?_push];rw [if_neg (by omega)]
 have R3:Rel (fun k=>base k/\k≠b) w0 I0 I2 β2 σ2 w3:=R2.turn hown hrb hIr (by rw [<-hw3]) (by rw [<-hw3]) (by rw [<-hw3]) (by rw [<-hw3];simp) (fun k _ hk=>w3k k hk) hbw
 have hown3:∀ t x,σ2[t]?=some x->¬ZO w3 β2 t x rr:=fun t x hx ho=>hown t x hx (((R2.blk t x hx).owns_at (Bmap.le.refl β2) (fun b' hb'=>w3k b' ((R2.blk t x hx).owns_lt hb')) rr).1 ho)
 refine wp_block (wp_loop_rounds (es.length+1) ?_)
 have hlen:arr.size=es.length:=by
  have:=ZaS e3
  simpa using this.symm
 refine ZIz (base:=fun k=>base k/\k≠b) (w0:=w0) (I0:=I0) (m:=σ.length) (live:=live) (ms:=ms) (it:=it) (nx:=nx) (ok:=ok) (en:=en) (nt:=nt) (fin:=Zja fs prim bf σ.length live c3 rs mt es) hm hO hb h3 h4 hn1 hn2 hn3 hx1 hx2 hx3 he1 he2 he3 hcE hc2 ha3 hk3 d1 d2 d3 d4 d5 d6 d7 d8 d9 d10 d11 d12 (fun n hn=>by have:=hlv n hn;exact ⟨this.1.1.1,this.1.1.2,this.1.2,this.2⟩)
  (r:=rr) (b:=b) (arr:=arr) (clk:=clk) (es:=es) (tm2:=tm2) (σ2:=σ2) (out:=(r,σ')) (I:=I2) (β:=β2) e6 hlen (by omega) hrb hob.1 hall ?_ (es.length+1) [] tm2 σ2 _ w3 (by simp) (by simp) (by simp) rfl ?_ ?_ ?_
 ·
  intro tm σx a wx I' β' hend j1 j2 jT jd jR0 jmap
  simp only [Exit.inBlock,if_true,Exit.then]
  unfold Zja at hend
  split at hend
  case isFalse=>cases hend
  rename_i hsh
  have hbt':β' mt 0=some ⟨some b,kk,cc⟩:=j2 mt hmt _ hbt
  obtain ⟨β3,q1,q20,q3⟩:=Zot jR0 jT σ.length
  have q2:=q20.shutR hsh.1 (q1 mt hmt _ hbt') (by rw [jmap,hw0b]) hI0 hbase0 hsh.2
  generalize hev:evC fs prim bf σ.length c3 (gcT σ.length (keepL live tm) σx).1 ((gcT σ.length (keepL live tm) σx).2.set mt (.rmap es))=res at hend
  cases res with
  | none=>simp only [ZaL] at hend;cases hend
  | some q =>
   obtain ⟨e,tm',σe⟩:=q
   obtain ⟨n3,hev⟩:=Zbt.1 hev
   rw [<-hc3,Zep] at hev
   have hb:=hb0
   have kk1:KeptE σ.length β β3:=(g2.trans (KeptE.of_le k2)).trans (j2.trans q1)
   have st:StF Zby σ.length an1.nt base w0 I0 I β (gcT σ.length (keepL live tm) σx).1 ((gcT σ.length (keepL live tm) σx).2.set mt (.rmap es)) a wx:=⟨I',β3,(g1.trans k1).trans j1,kk1,q3,⟨Zez.2 jd.1,by rw [ha1];exact jd.2⟩,q2⟩
   have fin:(match resA tm' σe rs with | some r=>Zan σ.length σe r | none=>none)=some (r,σ')->∀ a' w',StF Zby σ.length an1.nt base w0 I0 I β tm' σe a' w'->a'.defers=[]/\∃ v,(results F a'.tmps).run P w'=.ok v w'/\∃ u,Ends r (.returned v) u/\ZbI σ.length base w0 I0 I β r σ' u w':=by
    intro hr a' w' ⟨I1,β1,g1,g2,g3,g4,g5⟩
    split at hr
    ·rename_i x hx1
     obtain ⟨v,h1,h2⟩:=Zt9 g3 g5 hrs hx1
     have hnp:∀ y,x≠.pan y:=by rintro y rfl;simp only [VR] at h2
     obtain ⟨q1,q2⟩:=ZhT (⟨I1,β1,g1,g2,g5,by rw [ZeN hnp];exact h2⟩:ZbI σ.length base w0 I0 I β x σe v w') hr
     refine ⟨Zez.1 g4.1,v,h1,v,q2 _ ?_,q1⟩
     cases x <;> first | rfl | exact absurd rfl (hnp _)
    ·cases hr
   refine Zmv (dr:=Zby) (an:=an1) (hO n3) (fun n hn=>by simp [Zby] at hn) hm hb σ.length n3 rfl st hev ?_
   cases e with
   | normal=>simp only [ZaL] at hend;exact fun a' w' hs=>fin hend a' w' hs
   | ret=>simp only [ZaL] at hend;exact fun a' w' hs=>fin hend a' w' hs
   | exit id=>simp only [ZaL] at hend;cases hend
   | panic x =>
    simp only [ZaL] at hend
    intro a' u w' hd hp
    obtain ⟨q1,q2⟩:=ZhT hp hend
    exact ⟨Zez.1 hd,u,q2 _ rfl,q1⟩
 ·rw [<-hw3,<-hr];simp
 ·rw [w3k b (by omega)];exact e2
 ·refine ⟨I2,β2,Imm.le.refl _,KeptE.refl _ _,?_,⟨⟨by rw [Zkc];exact Zez.1 kd,fun k hk=>?_⟩,by rw [ZdR];omega⟩,R3,hIr,hown3⟩
  ·refine ZjQ (T2.keep live) ?_
   rw [Zkg,if_neg]
   exact fun h=>(hlv it h).1.1.1 rfl
  ·have hk':k=it\/k=ms:=by simpa [ZcD] using hk
   rcases hk' with rfl | rfl
   ·rw [pgs (by omega)];simp [ZcD]
   ·rw [pgn d5,vms];simp [ZcD,W0 d5]
end
end
section
open Go.RowKit
def flx1:AVal->Bool
 | .top | .any | .int _ _ | .bool _ | .str _ | .nilp | .nilm | .nili | .ref _ _ | .eref _ _ _ _ | .sl _ _ _ _ | .map _=>true
 | .lst _ xs=>xs.isEmpty
 | _=>false
def flxV:AVal->Bool
 | .tup vs=>vs.all flx1
 | x=>flx1 x
def Zis:Z5->Bool
 | .free=>true
 | .var cs=>cs.all flx1
 | .row _ _ xs=>xs.all fun x=>x.cells.all flx1
 | .frow _ _ xs=>xs.isEmpty
 | .siter _ _=>true
 | .opq=>true
 | _=>false
section
variable {base:Nat->Prop} {w0 w w':World} {I0 I J:Imm} {β:Bmap} {σ:Za}
theorem VR.flx1 {x:AVal} {v:Value} (hf:flx1 x=true) (h:VR I β x v):VR J β x v:=by
 cases x with
 | lst b xs =>
  cases xs with
  | cons y ys=>cases hf
  | nil =>
   simp only [VR] at h ⊢
   obtain ⟨A,cap,h1,h2,h3,h4,h5,h6⟩:=h
   exact ⟨A,cap,h1,h2,h3,h4,XK trivial,h6⟩
 | top=>simp only [VR]
 | any=>simpa only [VR] using h
 | int=>simpa only [VR] using h
 | bool=>simpa only [VR] using h
 | str=>simpa only [VR] using h
 | nilp=>simpa only [VR] using h
 | nilm=>simpa only [VR] using h
 | nili=>simpa only [VR] using h
 | ref=>simpa only [VR] using h
 | eref=>simpa only [VR] using h
 | sl=>simpa only [VR] using h
 | map=>simpa only [VR] using h
 | _=>cases hf
theorem VRs.flx1:∀ {xs:List AVal} {vs:List Value},xs.all Go.Proofs.YtlekmfmkkcpbcaaDoor.flx1=true->VRs I β xs vs->VRs J β xs vs
 | [],_,_,h=>by simpa only [VRs] using h
 | x::xs,_,hf,h=>by
  simp only [Xp,XE] at hf
  simp only [VRs] at h ⊢
  obtain ⟨v,vs',h1,h2,h3⟩:=h
  exact ⟨v,vs',h1,h2.flx1 hf.1,VRs.flx1 hf.2 h3⟩
theorem VR.flxV {x:AVal} {v:Value} (hf:flxV x=true) (h:VR I β x v):VR J β x v:=by
 cases x with
 | tup vs =>
  simp only [VR] at h ⊢
  obtain ⟨us,h1,h2⟩:=h
  exact ⟨us,h1,VRs.flx1 hf h2⟩
 | lst=>exact VR.flx1 hf h
 | top=>exact VR.flx1 hf h
 | any=>exact VR.flx1 hf h
 | int=>exact VR.flx1 hf h
 | bool=>exact VR.flx1 hf h
 | str=>exact VR.flx1 hf h
 | nilp=>exact VR.flx1 hf h
 | nilm=>exact VR.flx1 hf h
 | nili=>exact VR.flx1 hf h
 | ref=>exact VR.flx1 hf h
 | eref=>exact VR.flx1 hf h
 | sl=>exact VR.flx1 hf h
 | map=>exact VR.flx1 hf h
 | _=>cases hf
theorem BR.flat {t:Nat} {x:Z5} (hf:Zis x=true) (h:BR I β w t x):BR J β w t x:=by
 cases x with
 | free=>trivial
 | opq=>exact h
 | siter=>exact h
 | var cs =>
  obtain ⟨b,k,c,us,ty,h1,h2,h3⟩:=h
  exact ⟨b,k,c,us,ty,h1,h2,VRs.flx1 hf h3⟩
 | row g k xs =>
  obtain ⟨bi,h1,h2,h3,h4,h5,h6,h7,h8⟩:=h
  refine ⟨bi,h1,h2,h3,h4,h5,h6,h7,?_⟩
  rcases h8 with h8 | ⟨b,us,ty,e,h8,h9,h10⟩
  ·exact XK h8
  ·refine XO ⟨b,us,ty,e,h8,h9,VRs.flx1 ?_ h10⟩
   rw [List.all_flatMap]
   exact hf
 | frow g k xs =>
  obtain ⟨bi,h1,h2,h3,h4,h5,h6,_⟩:=h
  exact ⟨bi,h1,h2,h3,h4,h5,h6,XK (by cases xs <;> first | rfl | cases hf)⟩
 | _=>cases hf
theorem VRs.of_tree {I':Imm} {β':Bmap} (hI:I.le I'):∀ {xs:List AVal} {vs:List Value},(∀ x ∈ xs,Za0 x=true)->VRs I β xs vs->VRs I' β' xs vs
 | [],_,_,h=>by simpa only [VRs] using h
 | x::xs,_,ht,h=>by
  simp only [VRs] at h ⊢
  obtain ⟨v,vs',h1,h2,h3⟩:=h
  exact ⟨v,vs',h1,(VR.tree x v (ht x (by simp)) h2).mono hI (Zic β') x v,VRs.of_tree hI (fun y hy=>ht y (by simp [hy])) h3⟩
theorem Zq2:∀ {xs:List AVal},ZaF xs=true->∀ c ∈ xs.flatMap AVal.cells,Za0 c=true
 | [],_,c,hc=>by simp at hc
 | x::xs,h,c,hc=>by
  rw [Zos,XE] at h
  rw [XD,XL] at hc
  rcases hc with hc | hc
  ·have key:∀ (l:List AVal),ZaW l=true->∀ c ∈ l,Za0 c=true:=by
    intro l
    induction l with
    | nil=>intro _ c hc;cases hc
    | cons y l ih =>
     intro h c hc
     simp only [ZaW,XE] at h
     rcases XV.1 hc with rfl | hc
     ·exact h.1
     ·exact ih h.2 c hc
   exact key _ h.1 c hc
  ·exact Zq2 h.2 c hc
theorem Rel.hideS (R:Rel base w0 I0 I β σ w) {t b:Nat} {es:List (AVal×AVal)} (ht:σ[t]?=some (.map es)) (hb:ZO w β t (.map es) b) (S:Nat->Prop) (hr:∀ u x r,σ[u]?=some x->ZO w β u x r->¬S r):Rel (fun k=>base k\/k=b\/S k) w I I β (σ.set t (.rmap es)) w:=by
 have htl:t < σ.length:=(Xu.1 ht).1
 have look:∀ u x,(σ.set t (.rmap es))[u]?=some x->(u=t/\x=.rmap es)\/(u≠t/\σ[u]?=some x):=fun u x h=>ZeB htl h
 refine ⟨KB.refl _ _,fun _ _ _=>rfl,R.imm,?_,?_,?_,?_,?_,?_,R.glob,?_⟩
 ·intro u x hx
  rcases look u x hx with ⟨rfl,rfl⟩ | ⟨_,hx⟩
  ·have h:=R.blk u (.map es) ht
   exact h
  ·exact R.blk u x hx
 ·intro u x j hx ho
  rcases look u x hx with ⟨rfl,rfl⟩ | ⟨hu,hx2⟩
  ·cases ho
  ·refine ⟨fun h=>?_,(R.own u x j hx2 ho).2⟩
   rcases h with h | rfl | h
   ·exact (R.own u x j hx2 ho).1 h
   ·exact hu (R.apart u x t _ _ hx2 ht ho hb)
   ·exact hr u x j hx2 ho h
 ·intro u x u' x' j hx hx' ho ho'
  rcases look u x hx with ⟨rfl,rfl⟩ | ⟨hu,hx2⟩
  ·cases ho
  ·rcases look u' x' hx' with ⟨rfl,rfl⟩ | ⟨hu',hx3⟩
   ·cases ho'
   ·exact R.apart u x u' x' j hx2 hx3 ho ho'
 ·exact fun u g hu=>R.fresh u g (by simpa using hu)
 ·intro u g hx
  rcases look u _ hx with ⟨_,h⟩ | ⟨_,hx⟩
  ·cases h
  ·exact R.free u g hx
 ·intro u x g hx hg
  rcases look u x hx with ⟨rfl,rfl⟩ | ⟨_,hx⟩
  ·exact R.gen u _ g ht hg
  ·exact R.gen u x g hx hg
 ·intro u x j hx hs
  rcases look u x hx with ⟨rfl,rfl⟩ | ⟨hu,hx⟩
  ·exact XO (XK (WU (hb.symm.trans hs)).symm)
  ·exact XK (R.ro u x j hx hs)
end
open Classical in
noncomputable def ZdM (t:Nat) (g:List AVal->Za->Option (AVal×Za)) (args:List AVal) (σ:Za):Option (AVal×Za):=match σ[t]? with
 | some (.gmap k es)=>match Zfq es with
  | some fs=>match g args (σ.set t (.rmap fs)) with
   | some (r,σ')=>if σ'[t]?=some (.rmap fs)/\flxV r=true/\∀ u x,u≠t->σ'[u]?=some x->Zis x=true then some (r,σ'.set t (.gmap k es)) else none
   | none=>none
  | none=>none
 | _=>none
def ZhJ (P:Program) (f:Nat) (g:List AVal->Za->Option (AVal×Za)):Prop:=∀ args σ r σ',g args σ=some (r,σ') ->
 (∃ fn,P.funcs[f]?=some fn/\fn.body.isSome=true/\(fn.name == "runtime.NumGoroutine")=false) /\
 ∀ base w0 I0 I β w (vs:Array Value),KLt base w0->Rel base w0 I0 I β σ w->VRs I β args vs.toList ->
  Calls P f vs w (fun e w'=>∃ u,Ends r e u/\ZbI σ.length base w0 I0 I β r σ' u w')
open Classical in
theorem ZnC {P:Program} {f t:Nat} {g:List AVal->Za->Option (AVal×Za)} (hg:ZhJ P f g):ZhJ P f (ZdM t g):=by
 intro args σ r σ' h
 unfold ZdM at h
 split at h
 case h_2=>cases h
 rename_i k es ht
 split at h
 case h_2=>cases h
 rename_i fs hf
 split at h
 case h_2=>cases h
 rename_i r1 σ1 hr
 split at h
 case isFalse=>cases h
 rename_i hcond
 simp only [Xa,Xg] at h
 obtain ⟨rfl,rfl⟩:=h
 obtain ⟨c1,c2,c3⟩:=hcond
 obtain ⟨hfn,hC⟩:=hg _ _ _ _ hr
 refine ⟨hfn,fun base w0 I0 I β w vs hb R hvs=>?_⟩
 obtain ⟨kb,k',c',hbt,hG⟩:=R.blk t _ ht
 obtain ⟨I1,le1,R1⟩:=R.melt ht hf
 have htl:t < σ.length:=(Xu.1 ht).1
 have hset:(σ.set t (.map fs))[t]?=some (.map fs):=by rw [XB,if_pos rfl,if_pos htl]
 have hob:ZO w β t (.map fs) kb:=by simp [ZO,hbt]
 have ownG:∀ b ∈ ZaV w kb es,ZO w β t (.gmap k es) b:=fun b hm=>⟨kb,by simp [hbt],hm⟩
 have hkbG:kb ∈ ZaV w kb es:=by simp [ZaV]
 generalize hS:(fun b=>b ∈ ZaV w kb es/\b≠kb)=S
 have hSd:∀ b,S b↔b ∈ ZaV w kb es/\b≠kb:=fun b=>by rw [<-hS]
 have hSg:∀ b,S b->¬base b/\∀ o,I b o=none:=fun b h=>R.own t _ b ht (ownG b ((hSd b).1 h).1)
 have R2:=R1.hideS hset hob S (fun u x j hx ho hs=>by
  rcases ZeB htl hx with ⟨rfl,rfl⟩ | ⟨hu,hx⟩
  ·have : kb=j:=WU (hob.symm.trans ho)
   exact ((hSd j).1 hs).2 this.symm
  ·exact hu (R.apart u x t _ j hx ht ho (ownG j ((hSd j).1 hs).1)))
 rw [List.set_set] at R2
 have hlt:=hb
 have hb2:KLt (fun k=>base k\/k=kb\/S k) w:=fun j hj=>by
  rcases hj with hj | rfl | hj
  ·exact R.base_le hb j hj
  ·exact Zni hG _ hkbG
  ·exact Zni hG j ((hSd j).1 hj).1
 refine (hC _ _ _ _ β w vs hb2 R2 (VRs.mono le1 (Bmap.le.refl β) _ _ hvs)).mono ?_
 rintro e w' ⟨u,he,I2,β2,le2,kept,R3,hres⟩
 refine ⟨u,he,?_⟩
 rw [List.length_set] at kept
 have hnp:∀ x,r1≠.pan x:=by rintro x rfl;cases c2
 rw [ZeN hnp] at hres
 have hbt2:β2 t 0=some ⟨some kb,k',c'⟩:=kept t htl _ hbt
 generalize hJ:(fun b o=>if S b then none else I2 b o:Imm)=J
 have J1:∀ b o,S b->J b o=none:=fun b o h=>by rw [<-hJ];simp only [if_pos h]
 have J2:∀ b o,¬S b->J b o=I2 b o:=fun b o h=>by rw [<-hJ];simp only [if_neg h]
 have leJ:I.le J:=fun b o v h=>by
  have hn:¬S b:=fun hs=>by rw [(hSg b hs).2 o] at h;cases h
  rw [J2 b o hn]
  exact le2 b o v (le1 b o v h)
 have keepG:∀ b ∈ ZaV w kb es,w'.heap[b]?=w.heap[b]?:=fun b hm=>R3.below.block b (by
  by_cases e:b=kb
  ·exact XO (XK e)
  ·exact XO (XO ((hSd b).2 ⟨hm,e⟩)))
 have htl1:t < σ1.length:=(Xu.1 c1).1
 have look:∀ u x,(σ1.set t (.gmap k es))[u]?=some x->(u=t/\x=.gmap k es)\/(u≠t/\σ1[u]?=some x):=fun u x h=>ZeB htl1 h
 obtain ⟨g0,g1,arr,clk,g2,g3,g4,g5,g6⟩:=hG
 have hGJ:GmapW J β2 w' k kb es:=by
  refine ⟨by rw [Zlc keepG];exact g0,g1,arr,clk,by rw [keepG kb hkbG];exact g2,ZpS (fun y hy=>by obtain ⟨p,hp,rfl⟩:=X0.1 hy;exact g4 p hp) g3,g4,g5,fun i p e hp hpe=>?_⟩
  have hent:=g6 i p e hp hpe
  obtain ⟨xs,hx1,_⟩:=(ZmK hf).2.2 i p hp
  obtain ⟨q,y⟩:=p
  simp only at hx1
  subst hx1
  obtain ⟨t1,t2,us,t3,t4⟩:=hent
  exact ⟨t1,t2,us,t3.keep (fun g hg=>keepG g (ZoO hp (by rw [ZfB g2];exact hpe) hg)),VRs.of_tree leJ (Zq2 t1) t4⟩
 have ownT:∀ j,ZO w' β2 t (.gmap k es) j->j ∈ ZaV w kb es:=by
  rintro j ⟨kb',e1,e2⟩
  have : kb=kb':=by simpa [hbt2] using e1
  subst this
  rwa [Zlc keepG] at e2
 have hkbI:∀ o,J kb o=none:=fun o=>by
  rw [J2 kb o (fun h=>((hSd kb).1 h).2 rfl),R3.old kb o (XO (XK rfl))]
  exact (R1.own t _ kb hset hob).2 o
 refine ⟨J,β2,leJ,kept,⟨R.below.trans (R3.below.mono fun _ h=>XK h),fun j o hj=>?_,fun b o v h=>?_,?_,?_,?_,?_,?_,?_,fun b o v h=>?_,?_⟩,?_⟩
 ·have hn:¬S j:=fun hs=>(hSg j hs).1 hj
  rw [J2 j o hn,R3.old j o (XK hj),R1.old j o hj]
 ·have hn:¬S b:=fun hs=>by rw [J1 b o hs] at h;cases h
  rw [J2 b o hn] at h
  exact R3.imm b o v h
 ·intro u x hx
  rcases look u x hx with ⟨rfl,rfl⟩ | ⟨hu,hx2⟩
  ·exact ⟨kb,k',c',hbt2,hGJ⟩
  ·exact (R3.blk u x hx2).flat (c3 u x hu hx2)
 ·intro u x j hx ho
  rcases look u x hx with ⟨rfl,rfl⟩ | ⟨hu,hx2⟩
  ·have hm:=ownT j ho
   refine ⟨(R.own u _ j ht (ownG j hm)).1,fun o=>?_⟩
   by_cases e:j=kb
   ·subst e;exact hkbI o
   ·exact J1 j o ((hSd j).2 ⟨hm,e⟩)
  ·have h3:=R3.own u x j hx2 ho
   have hn:¬S j:=fun hs=>h3.1 (XO (XO hs))
   exact ⟨fun h=>h3.1 (XK h),fun o=>by rw [J2 j o hn];exact h3.2 o⟩
 ·have clash:∀ u x j,σ1[u]?=some x->ZO w' β2 u x j->j ∈ ZaV w kb es->False:=fun u x j hx ho hm=>by
   refine (R3.own u x j hx ho).1 ?_
   by_cases e:j=kb
   ·exact XO (XK e)
   ·exact XO (XO ((hSd j).2 ⟨hm,e⟩))
  intro u x u' x' j hx hx' ho ho'
  rcases look u x hx with ⟨rfl,rfl⟩ | ⟨hu,hx2⟩
  ·rcases look u' x' hx' with ⟨rfl,rfl⟩ | ⟨hu',hx3⟩
   ·rfl
   ·exact (clash u' x' j hx3 ho' (ownT j ho)).elim
  ·rcases look u' x' hx' with ⟨rfl,rfl⟩ | ⟨hu',hx3⟩
   ·exact (clash u x j hx2 ho (ownT j ho')).elim
   ·exact R3.apart u x u' x' j hx2 hx3 ho ho'
 ·exact fun u g hu=>R3.fresh u g (by simpa using hu)
 ·intro u g hx
  rcases look u _ hx with ⟨_,h⟩ | ⟨_,hx⟩
  ·cases h
  ·exact R3.free u g hx
 ·intro u x g hx hgn
  rcases look u x hx with ⟨rfl,rfl⟩ | ⟨_,hx⟩
  ·exact R3.gen u _ g c1 hgn
  ·exact R3.gen u x g hx hgn
 ·have h0:=R.glob b o v h
  have hn:¬S b:=fun hs=>by rw [(hSg b hs).2 o] at h0;cases h0
  rw [J2 b o hn]
  exact R3.glob b o v h
 ·intro u x j hx hs
  rcases look u x hx with ⟨rfl,rfl⟩ | ⟨hu,hx2⟩
  ·cases hs
  ·have h1:=Zqk hs
   have h2:=c3 u x hu hx2
   cases x <;> first | (cases h1;done) | (cases h2;done)
 ·rw [ZeN hnp];exact hres.flxV c2
def Zeh:List (AVal×(List AVal ⊕ AVal))->Nat->Option (Nat×AVal×AVal)
 | [],_=>none
 | (_,.inl _)::r,i=>Zeh r (i+1)
 | (q,.inr v)::_,i=>some (i,q,v)
theorem Zsi:∀ {es:List (AVal×(List AVal ⊕ AVal))} {i j:Nat} {q v:AVal},Zeh es i=some (j,q,v)->∃ d,j=i+d/\es[d]?=some (q,.inr v)
 | (x,.inl y)::r,i,j,q,v,h=>by
  obtain ⟨d,h1,h2⟩:=Zsi (es:=r) h
  exact ⟨d+1,by omega,by simpa using h2⟩
 | (x,.inr y)::r,i,j,q,v,h=>by
  simp only [Zeh,Xa,Xg] at h
  obtain ⟨rfl,rfl,rfl⟩:=h
  exact ⟨0,rfl,rfl⟩
def Zfz (t:Nat) (σ:Za):Za:=match σ[t]? with
 | some (.gmap k es)=>match Zeh es 0 with
  | some (j,q,.sl s g lo n)=>match σ[s]? with
   | some (.row g' k' xs)=>if lo=0/\g'=g/\k'=k/\n<=xs.length then (σ.set s (.frow g k [])).set t (.gmap k (es.set j (q,.inl (xs.take n)))) else σ
   | _=>σ
  | _=>σ
 | _=>σ
theorem Rel.tidy {base:Nat->Prop} {w0 w:World} {I0 I:Imm} {β:Bmap} {σ:Za} (R:Rel base w0 I0 I β σ w) (t:Nat):Rel base w0 I0 I β (Zfz t σ) w:=by
 unfold Zfz
 split
 case h_2=>exact R
 rename_i k es ht
 split
 case h_2=>exact R
 rename_i j q s g lo n hj
 split
 case h_2=>exact R
 rename_i g' k' xs hs
 split
 case isFalse=>exact R
 rename_i hc
 obtain ⟨rfl,rfl,rfl,hn⟩:=hc
 obtain ⟨d,e1,e2⟩:=Zsi hj
 rw [XX] at e1
 subst e1
 exact R.give_row ht e2 hs hn
def ZdV (t:Nat) (g:List AVal->Za->Option (AVal×Za)) (args:List AVal) (σ:Za):Option (AVal×Za):=match g args σ with
 | some (r,σ')=>Zan σ.length (Zfz t σ') r
 | none=>none
theorem ZsN {P:Program} {f t:Nat} {g:List AVal->Za->Option (AVal×Za)} (hg:ZhJ P f g):ZhJ P f (ZdV t g):=by
 intro args σ r σ' h
 unfold ZdV at h
 split at h
 case h_2=>cases h
 rename_i r1 σ1 hr
 obtain ⟨hfn,hC⟩:=hg _ _ _ _ hr
 refine ⟨hfn,fun base w0 I0 I β w vs hb R hvs=>(hC _ _ _ _ β w vs hb R hvs).mono ?_⟩
 rintro e w' ⟨u,he,I2,β2,le2,kept,R3,hres⟩
 obtain ⟨q1,q2⟩:=ZhT (⟨I2,β2,le2,kept,R3.tidy t,hres⟩:ZbI σ.length base w0 I0 I β r1 (Zfz t σ1) u w') h
 exact ⟨u,q2 e he,q1⟩
end
section
set_option maxRecDepth 100000
noncomputable def ZeK:List AVal->Za->Option (AVal×Za):=Zi0 FC PR BY [10,5,1] 10 14 1 Zmq Zbx c1S c2S c3S [.tmp 4]
def PRI:ZbT:=fun f=>if f=7 then none else if f=9 then none else if f=14 then none else if f=18 then none else PR f
noncomputable abbrev EI:Zat:=EV FC PRI BY
theorem ZGv:OLe E EI:=by
 refine Zsw (fun f hf=>?_) (fun f g hg=>?_)
 ·unfold PRI
  repeat' split
  all_goals first | rfl | exact hf
 ·by_cases h1:f=7\/f=9\/f=14\/f=18
  ·have : PR f=some Zf8:=by rcases h1 with rfl | rfl | rfl | rfl <;> rfl
   rw [this] at hg;injection hg with hg;subst hg
   exact XO fun _ _=>rfl
  ·simp only [not_or] at h1
   refine XK ?_
   unfold PRI
   rw [if_neg h1.1,if_neg h1.2.1,if_neg h1.2.2.1,if_neg h1.2.2.2]
   exact hg
theorem ZdX {f:Nat} {fn:Zaj} (hp:PRI f=none) (hf:FC f=some fn) (args:List AVal) (σ:Za):EI f args σ=ZaL σ.length fn (evC FC PRI BY σ.length fn.body (enterA 0 args []) σ):=ZnR hp hf args σ
theorem ZcP {σ:Za} {sq f own:Nat} {view:Bool} {args:List AVal} {r:AVal×Za×Cls} (h:ZQ E BY σ sq f own view args=some r):ZQ EI BY σ sq f own view args=some r:=Zlr ZGv h
theorem ZGR:ZjW Tryd.prog PRI:=by
 intro f g h args σ r σ' hg
 unfold PRI at h
 repeat' split at h
 all_goals first | cases h | skip
 exact Znv f g h args σ r σ' hg
theorem ZCj:ZaY Tryd.prog EI:=by
 have h:EI=EV CF PRI BY:=Zr4 CF PRI BY
 rw [h]
 exact ZrS ZiE ZGR ann BY
theorem ZLv:ZhJ Tryd.prog 28 ZeK:=fun _ _ _ _ hg =>
 ZLq ZiE (fun n=>by
  have h:ZaT FC PR BY n=ZaT CF PR BY n:=Zn5 CF PR BY n
  rw [h]
  exact ZpR ZiE Znv ann BY n) ZHi hg
noncomputable def PRP:ZbT:=fun f =>
 if f=7 then some (ZdV 1 (EI 7)) else
 if f=9 then some (ZdV 1 (EI 9)) else
 if f=14 then some (ZdM 1 (EI 14)) else
 if f=18 then some (ZdM 1 (EI 18)) else
 if f=28 then some (ZdM 1 ZeK) else PR f
noncomputable abbrev EP:Zat:=EV FC PRP BY
theorem ZpA {f:Nat} (h:¬(f=7\/f=9\/f=14\/f=18\/f=28)):PRP f=PR f:=by
 simp only [not_or] at h
 unfold PRP
 rw [if_neg h.1,if_neg h.2.1,if_neg h.2.2.1,if_neg h.2.2.2.1,if_neg h.2.2.2.2]
theorem ZtL {f:Nat} (h1:f=7\/f=9\/f=14\/f=18\/f=28):PR f=some Zf8:=by rcases h1 with rfl | rfl | rfl | rfl | rfl <;> rfl
theorem Ztn:OLe E EP:=by
 refine Zsw (fun f hf=>?_) (fun f g hg=>?_)
 ·rw [ZpA (fun h=>by rw [ZtL h] at hf;cases hf)]
  exact hf
 ·by_cases h1:f=7\/f=9\/f=14\/f=18\/f=28
  ·rw [ZtL h1] at hg;injection hg with hg;subst hg
   exact XO fun _ _=>rfl
  ·exact XK (by rw [ZpA h1];exact hg)
theorem ZjD {f:Nat} {fn:Zaj} (hp:PRP f=none) (hf:FC f=some fn) (args:List AVal) (σ:Za):EP f args σ=ZaL σ.length fn (evC FC PRP BY σ.length fn.body (enterA 0 args []) σ):=ZnR hp hf args σ
theorem ZgJ {σ:Za} {sq f own:Nat} {view:Bool} {args:List AVal} {r:AVal×Za×Cls} (h:ZQ E BY σ sq f own view args=some r):ZQ EP BY σ sq f own view args=some r:=Zlr Ztn h
theorem Zkd (args:List AVal) (σ:Za):EP 7 args σ=ZdV 1 (EI 7) args σ:=Zi2 (by rfl) args σ
theorem Zl6 (args:List AVal) (σ:Za):EP 9 args σ=ZdV 1 (EI 9) args σ:=Zi2 (by rfl) args σ
theorem ZDy (args:List AVal) (σ:Za):EP 14 args σ=ZdM 1 (EI 14) args σ:=Zi2 (by rfl) args σ
theorem ZLx (args:List AVal) (σ:Za):EP 18 args σ=ZdM 1 (EI 18) args σ:=Zi2 (by rfl) args σ
theorem ZuQ (args:List AVal) (σ:Za):EP 28 args σ=ZdM 1 ZeK args σ:=Zi2 (by rfl) args σ
theorem Zmx (f:Nat):ZhJ Tryd.prog f (EI f):=fun args σ r σ' h=>ZCj f args σ r σ' h
theorem ZH0:ZjW Tryd.prog PRP:=by
 intro f g h args σ r σ' hg
 by_cases h1:f=7\/f=9\/f=14\/f=18\/f=28
 ·rcases h1 with rfl | rfl | rfl | rfl | rfl
  ·have e:PRP 7=some (ZdV 1 (EI 7)):=by rfl
   rw [e] at h;injection h with h;subst h
   exact ZsN (Zmx _) args σ r σ' hg
  ·have e:PRP 9=some (ZdV 1 (EI 9)):=by rfl
   rw [e] at h;injection h with h;subst h
   exact ZsN (Zmx _) args σ r σ' hg
  ·have e:PRP 14=some (ZdM 1 (EI 14)):=by rfl
   rw [e] at h;injection h with h;subst h
   exact ZnC (Zmx _) args σ r σ' hg
  ·have e:PRP 18=some (ZdM 1 (EI 18)):=by rfl
   rw [e] at h;injection h with h;subst h
   exact ZnC (Zmx _) args σ r σ' hg
  ·have e:PRP 28=some (ZdM 1 ZeK):=by rfl
   rw [e] at h;injection h with h;subst h
   exact ZnC ZLv args σ r σ' hg
 ·rw [ZpA h1] at h
  exact Znv f g h args σ r σ' hg
theorem ZCq:ZaY Tryd.prog EP:=by
 have h:EP=EV CF PRP BY:=Zr4 CF PRP BY
 rw [h]
 exact ZrS ZiE ZH0 ann BY
theorem xwP (c d:ZM) (h:c=d) (m:Nat) (tm:Tms) (σ:Za):evC FC PRP BY m c tm σ=evC FC PRP BY m d tm σ:=by rw [h]
end
section
open Go.RowKit
theorem ZGI (id:Nat) (tm:Tms) (σ:Za):Za6 id (.normal,tm,σ)=(.normal,tm,σ):=rfl
theorem ZHS (id i:Nat) (tm:Tms) (σ:Za):Za6 id (.exit i,tm,σ)=if i=id then (.normal,tm,σ) else (.exit i,tm,σ):=by simp only [Za6]
theorem ZGD (id:Nat) (tm:Tms) (σ:Za):Za6 id (.ret,tm,σ)=(.ret,tm,σ):=rfl
theorem ZKX (id:Nat) (x:AVal) (tm:Tms) (σ:Za):Za6 id (.panic x,tm,σ)=(.panic x,tm,σ):=rfl
section
variable (O:Zat) (bf:Nat->Bool)
def ZdU (c:Cls):Option (Tms×Za×List Cls×Option AVal)->Option (Tms×Za×List Cls×Option AVal)
 | none=>none
 | some (tm,σ,cs,p)=>some (tm,σ,c::cs,p)
def Zgn (c:List Cls):Option (Tms×Za×List Cls×Option AVal)->Option (Tms×Za×List Cls×Option AVal)
 | none=>none
 | some (tm,σ,cs,p)=>some (tm,σ,c++cs,p)
def kC (d:Option Nat) (os:List AOp) (s:Nat) (tm:Tms):Option (AVal×Za×Cls)->Option (Tms×Za×List Cls×Option AVal)
 | none=>none
 | some (v,σ,c)=>if Zba v then some (tput tm d v,σ,[c],some (Za8 v)) else ZdU c (Zav O bf os s (tput tm d v) σ)
def ZeL (ops:List AOp) (L:Nat) (l:List (Nat×Nat)) (live:List Nat):Option (Tms×Za×List Cls×Option AVal)->Option (Za9×Tms×Za)
 | none=>none
 | some (_,σ,cs,some x)=>if Z3 ops L l cs then some (.panic x,[],σ) else none
 | some (tm,σ,cs,none)=>if ZdL ops L l cs then some (.normal,keepL live tm,σ) else none
variable {O bf}
theorem ZqY (s:Nat) (tm:Tms) (σ:Za):Zav O bf [] s tm σ=some (tm,σ,[],none):=rfl
theorem ZKh (c:Cls) (tm:Tms) (σ:Za) (cs:List Cls) (p:Option AVal):ZdU c (some (tm,σ,cs,p))=some (tm,σ,c::cs,p):=rfl
theorem Zzu (c:Cls):ZdU c none=none:=rfl
theorem Zyl (c:Cls) (q:Prop) [Decidable q] (x y:Option (Tms×Za×List Cls×Option AVal)):ZdU c (if q then x else y)=if q then ZdU c x else ZdU c y:=by split <;> rfl
theorem ZKw (c:List Cls) (tm:Tms) (σ:Za) (cs:List Cls) (p:Option AVal):Zgn c (some (tm,σ,cs,p))=some (tm,σ,c++cs,p):=rfl
theorem ZAh (c:List Cls):Zgn c none=none:=rfl
theorem ZA4 (c:List Cls) (q:Prop) [Decidable q] (x y:Option (Tms×Za×List Cls×Option AVal)):Zgn c (if q then x else y)=if q then Zgn c x else Zgn c y:=by split <;> rfl
theorem Zkx {o:AOp} {os:List AOp} {s:Nat} {tm tm1:Tms} {σ σ1:Za} {v:AVal} {c:Cls} (h:Zad O bf o s tm σ=some (v,tm1,σ1,c)) (hn:Zba v=false):Zav O bf (o::os) s tm σ=ZdU c (Zav O bf os (s+nsite o.ins) tm1 σ1):=by
 rw [ZrZ h hn]
 cases Zav O bf os (s+nsite o.ins) tm1 σ1 <;> rfl
theorem Zou (d:Option Nat) (i:Ins) (af:List Nat) (os:List AOp) (s:Nat) (tm:Tms) (σ:Za):Zav O bf (⟨d,i,none,af⟩::os) s tm σ=kC O bf d os (s+nsite i) tm (exI O bf i s tm σ):=by
 cases h:exI O bf i s tm σ with
 | none=>exact Zjt (by rw [Zkb,h];rfl)
 | some q =>
  obtain ⟨v,σ1,c⟩:=q
  have hs:Zad O bf ⟨d,i,none,af⟩ s tm σ=some (v,tput tm d v,σ1,c):=by rw [Zkb,h];rfl
  cases hp:Zba v with
  | true =>
   obtain ⟨x,rfl⟩:=Zlk hp
   exact ZlY hs
  | false =>
   rw [Zkx hs hp]
   simp only [kC,hp,Xq,if_false]
theorem Zpq (d:Option Nat) (os:List AOp) (s:Nat) (tm:Tms) (v:AVal) (σ:Za) (c:Cls) (h:Zba v=false):kC O bf d os s tm (some (v,σ,c))=ZdU c (Zav O bf os s (tput tm d v) σ):=by
 simp only [kC,h,Xq,if_false]
theorem ZJc (d:Option Nat) (os:List AOp) (s:Nat) (tm:Tms) (x:AVal) (σ:Za) (c:Cls):kC O bf d os s tm (some (.pan x,σ,c))=some (tput tm d (.pan x),σ,[c],some x):=rfl
theorem ZBa (d:Option Nat) (os:List AOp) (s:Nat) (tm:Tms):kC O bf d os s tm none=none:=rfl
theorem ZG1 (d:Option Nat) (os:List AOp) (s:Nat) (tm:Tms) (q:Prop) [Decidable q] (x y:Option (AVal×Za×Cls)):kC O bf d os s tm (if q then x else y)=if q then kC O bf d os s tm x else kC O bf d os s tm y:=by split <;> rfl
theorem Zag (ops:List AOp) (l:List (Nat×Nat)) (live:List Nat) (tm:Tms) (σ:Za):Zca O bf ops (some l) live tm σ=ZeL ops σ.length l live (Zav O bf ops σ.length tm (σ++XZ (sitesOf ops) .free)):=by
 unfold Zca
 cases Zav O bf ops σ.length tm (σ++XZ (sitesOf ops) .free) with
 | none=>rfl
 | some q =>
  obtain ⟨tm',σ',cs,p⟩:=q
  cases p <;> rfl
theorem Z0 (ops:List AOp) (L:Nat) (l:List (Nat×Nat)) (live:List Nat) (tm:Tms) (σ:Za) (cs:List Cls) (h:ZdL ops L l cs=true):ZeL ops L l live (some (tm,σ,cs,none))=some (.normal,keepL live tm,σ):=by
 simp only [ZeL,h,if_true]
theorem Zah (ops:List AOp) (L:Nat) (l:List (Nat×Nat)) (live:List Nat) (tm:Tms) (σ:Za) (cs:List Cls) (x:AVal) (h:Z3 ops L l cs=true):ZeL ops L l live (some (tm,σ,cs,some x))=some (.panic x,[],σ):=by
 simp only [ZeL,h,if_true]
theorem ZF0 (ops:List AOp) (L:Nat) (l:List (Nat×Nat)) (live:List Nat):ZeL ops L l live none=none:=rfl
theorem ZEC (ops:List AOp) (L:Nat) (l:List (Nat×Nat)) (live:List Nat) (q:Prop) [Decidable q] (x y:Option (Tms×Za×List Cls×Option AVal)):ZeL ops L l live (if q then x else y)=if q then ZeL ops L l live x else ZeL ops L l live y:=by split <;> rfl
theorem Zv8 (ops:List AOp) (L:Nat) (l:List (Nat×Nat)) (cs:List Cls) (h:(cs.all fun c=>c.wr.isEmpty && !c.any)=true) (hs:(l.all fun p=>p.1 == p.2 || nsite (ops.getD p.1 default).ins == 0)=true):ZdL ops L l cs=true:=by
 have hd:∀ i,Zdq (cs.getD i {})=true:=by
  intro i
  rw [X1] at h
  rw [Xz]
  cases hi:cs[i]? with
  | none=>rfl
  | some c=>exact h c (XN hi)
 unfold ZdL
 rw [X1] at hs ⊢
 intro p hp
 have:=hs p hp
 rw [Bool.or_eq_true] at this ⊢
 rcases this with this | this
 ·exact XK this
 ·refine XO ?_
  unfold ZcQ
  simp only [hd,this,XaV,Xbt,Bool.true_or,Bool.or_true]
theorem ZIx (ops:List AOp) (L:Nat) (l:List (Nat×Nat)) (live:List Nat) (tm:Tms) (σ:Za) (cs:List Cls) (h:(cs.all fun c=>c.wr.isEmpty && !c.any)=true) (hs:(l.all fun p=>p.1 == p.2 || nsite (ops.getD p.1 default).ins == 0)=true):ZeL ops L l live (some (tm,σ,cs,none))=some (.normal,keepL live tm,σ) :=
 Z0 _ _ _ _ _ _ _ (Zv8 _ _ _ _ h hs)
variable (O bf) in
def gKC (os:List AOp) (s:Nat):Option (Tms×Za×List Cls×Option AVal)->Option (Tms×Za×List Cls×Option AVal)
 | none=>none
 | some (tm,σ,cs,some x)=>some (tm,σ,cs,some x)
 | some (tm,σ,cs,none)=>Zgn cs (Zav O bf os s tm σ)
theorem Zw7 (os:List AOp) (s:Nat) (tm:Tms) (σ:Za) (cs:List Cls):gKC O bf os s (some (tm,σ,cs,none))=Zgn cs (Zav O bf os s tm σ):=rfl
theorem Zy0 (os:List AOp) (s:Nat) (q:Prop) [Decidable q] (x y:Option (Tms×Za×List Cls×Option AVal)):gKC O bf os s (if q then x else y)=if q then gKC O bf os s x else gKC O bf os s y:=by split <;> rfl
theorem ZGH (os:List AOp) (s:Nat) (c:Cls) (r:Option (Tms×Za×List Cls×Option AVal)):gKC O bf os s (ZdU c r)=ZdU c (gKC O bf os s r):=by
 cases r with
 | none=>rfl
 | some q =>
  obtain ⟨tm,σ,cs,p⟩:=q
  cases p with
  | some x=>rfl
  | none =>
   simp only [ZdU,gKC]
   cases Zav O bf os s tm σ <;> rfl
theorem ZvX:∀ (a b:List AOp) (s:Nat) (tm:Tms) (σ:Za),Zav O bf (a++b) s tm σ=gKC O bf b (s+sitesOf a) (Zav O bf a s tm σ)
 | [],b,s,tm,σ=>by
  simp only [Xv,ZqY,gKC,sitesOf,Wr,List.sum_nil,Wx]
  cases Zav O bf b s tm σ <;> rfl
 | o::a,b,s,tm,σ=>by
  have ih:=ZvX a b
  simp only [XG]
  have hs:s+nsite o.ins+sitesOf a=s+sitesOf (o::a):=by simp [sitesOf,WW]
  cases hst:Zad O bf o s tm σ with
  | none=>rw [Zjt hst,Zjt hst];rfl
  | some q =>
   obtain ⟨v,tm1,σ1,c⟩:=q
   cases hp:Zba v with
   | true =>
    obtain ⟨x,rfl⟩:=Zlk hp
    rw [ZlY hst,ZlY hst];rfl
   | false=>rw [Zkx hst hp,Zkx hst hp,ih,hs,ZGH]
variable (O bf) in
def Zew (j:Nat) (w:Bool) (g:List AOp) (s:Nat) (tm:Tms) (σ:Za):Option (Tms×Za×List Cls×Option AVal):=match Zbw (some (j,w)) tm with
 | none=>none
 | some false=>some (Zu g tm,σ,g.map fun _=>{},none)
 | some true=>Zav O bf (g.map unG) s tm σ
theorem Zrm (j:Nat) (w:Bool):∀ (g:List AOp),(∀ o ∈ g,o.guard=some (j,w)/\o.dst≠some j)->∀ (s:Nat) (tm:Tms) (σ:Za),g≠[]->Zav O bf g s tm σ=Zew O bf j w g s tm σ
 | [],_,_,_,_,h=>absurd rfl h
 | o::g,hall,s,tm,σ,_=>by
  obtain ⟨hg,hd⟩:=hall o (by simp)
  have ih:∀ (tm:Tms) (σ:Za) (s:Nat),Zbw (some (j,w)) tm≠none->Zav O bf g s tm σ=Zew O bf j w g s tm σ:=by
   intro tm σ s hw
   by_cases he:g=[]
   ·subst he
    unfold Zew
    cases hx:Zbw (some (j,w)) tm with
    | none=>exact absurd hx hw
    | some b=>cases b <;> rfl
   ·exact Zrm j w g (fun o ho=>hall o (by simp [ho])) s tm σ he
  cases hx:Zbw (some (j,w)) tm with
  | none =>
   rw [Zjt (by simp only [Zad,hg,hx])]
   simp only [Zew,hx]
  | some b =>
   cases b with
   | false =>
    have h1:Zav O bf (o::g) s tm σ=ZdU {} (Zav O bf g (s+nsite o.ins) (tput tm o.dst (.tup [])) σ) :=
     Zkx (v:=.tup []) (c:={}) (by simp only [Zad,hg,hx]) rfl
    rw [h1,ih _ _ _ (by rw [Zgk hd,hx];simp)]
    unfold Zew
    rw [Zgk hd,hx]
    rfl
   | true =>
    have key:∀ r:Option (AVal×Za×Cls),(∀ v σ' c,r=some (v,σ',c)->Zba v=false->Zav O bf g (s+nsite o.ins) (tput tm o.dst v) σ'=Zav O bf (g.map unG) (s+nsite o.ins) (tput tm o.dst v) σ')->kC O bf o.dst g (s+nsite o.ins) tm r=kC O bf o.dst (g.map unG) (s+nsite o.ins) tm r:=by
     intro r hr
     cases r with
     | none=>rfl
     | some q =>
      obtain ⟨v,σ',c⟩:=q
      cases hp:Zba v with
      | true=>simp only [kC,hp,if_true]
      | false=>rw [Zpq _ _ _ _ _ _ _ hp,Zpq _ _ _ _ _ _ _ hp,hr v σ' c rfl hp]
    have h1:Zav O bf (o::g) s tm σ=kC O bf o.dst g (s+nsite o.ins) tm (exI O bf o.ins s tm σ):=by
     have h0:Zav O bf (o::g) s tm σ=Zav O bf (⟨o.dst,o.ins,none,o.after⟩::g) s tm σ:=by
      have hst:Zad O bf o s tm σ=Zad O bf ⟨o.dst,o.ins,none,o.after⟩ s tm σ:=by
       unfold Zad
       simp only [hg,hx]
       rfl
      simp only [Zav,hst]
     rw [h0,Zou]
    rw [h1]
    unfold Zew
    rw [hx]
    simp only [XS]
    rw [show unG o=⟨o.dst,o.ins,none,o.after⟩ from rfl,Zou]
    refine key _ fun v σ' c _ _=>?_
    rw [ih _ _ _ (by rw [Zgk hd,hx];simp)]
    unfold Zew
    rw [Zgk hd,hx]
theorem ZxO (d:Option Nat) (i:Ins) (j:Nat) (w:Bool) (af:List Nat) (os:List AOp) (s:Nat) (tm:Tms) (σ:Za) (hd:decide (d=some j)=false) :
  Zav O bf (⟨d,i,some (j,w),af⟩::os) s tm σ=gKC O bf (Zt j w os).2 (s+sitesOf (⟨d,i,some (j,w),af⟩::(Zt j w os).1)) (Zew O bf j w (⟨d,i,some (j,w),af⟩::(Zt j w os).1) s tm σ):=by
 have h:=Zp4 j w os
 have hall:∀ o ∈ (⟨d,i,some (j,w),af⟩::(Zt j w os).1:List AOp),o.guard=some (j,w)/\o.dst≠some j:=by
  intro o ho
  rcases XV.1 ho with rfl | ho
  ·exact ⟨rfl,by simpa using hd⟩
  ·exact ZoH j w os o ho
 rw [<-Zrm j w _ hall s tm σ (by simp),<-ZvX,XG,h]
variable (O bf) in
def gWC (w:Bool) (g:List AOp) (s:Nat) (tm:Tms) (σ:Za):AVal->Option (Tms×Za×List Cls×Option AVal)
 | .bool b=>if b=w then Zav O bf (g.map unG) s tm σ else some (Zu g tm,σ,g.map fun _=>{},none)
 | .tup []=>some (Zu g tm,σ,g.map fun _=>{},none)
 | _=>none
theorem ZAG (j:Nat) (w:Bool) (g:List AOp) (s:Nat) (tm:Tms) (σ:Za):Zew O bf j w g s tm σ=gWC O bf w g s tm σ (tget tm j):=by
 unfold Zew Zbw
 simp only
 generalize tget tm j=v
 cases v
 case bool b=>cases b <;> cases w <;> rfl
 case tup vs=>cases vs <;> rfl
 all_goals rfl
theorem ZF5 (w:Bool) (g:List AOp) (s:Nat) (tm:Tms) (σ:Za) (b:Bool):gWC O bf w g s tm σ (.bool b)=if b=w then Zav O bf (g.map unG) s tm σ else some (Zu g tm,σ,g.map fun _=>{},none):=rfl
theorem ZBl (w:Bool) (g:List AOp) (s:Nat) (tm:Tms) (σ:Za):gWC O bf w g s tm σ (.tup [])=some (Zu g tm,σ,g.map fun _=>{},none):=rfl
theorem ZGj (q:Prop) [Decidable q] (t1 t2:Tms) (σ1 σ2:Za) (cs:List Cls):(if q then some (t1,σ1,cs,(none:Option AVal)) else some (t2,σ2,cs,none))=some ((if q then t1 else t2),(if q then σ1 else σ2),cs,none):=by split <;> rfl
end
section
theorem ZuJ {r:AVal} {cs:List AVal} {σ:Za} (hr:Zbe r=true) (hc:Zs cs=true):gcA 1 [r] (.var cs::σ)=([r],[.var cs]):=by
 have e1:=(Zh2 (Zc (.var cs::σ) 1 [0]) r hr)
 have e2:=(Zec (Zc (.var cs::σ) 1 [0]) cs hc)
 have h1:Zq 1 [r] (.var cs::σ)=[0]:=by
  have : ZP [r]=[]:=by simp only [ZP,e1.2,Xw]
  simp only [Zq,this,Xv,List.range_one,XD,XM,Xw,Xm,Zo,e2.2]
  rfl
 simp only [gcA,h1,ZR,e1.1,Ze,Xm,Zg,Zb,Zf,e2.1]
theorem ZBE {r:AVal} {cs:List AVal} {σ:Za} (hr:Zbe r=true) (hc:Zs cs=true):Zan 1 (.var cs::σ) r=some (r,[.var cs]):=by
 simp only [Zan,ZuJ hr hc]
theorem ZzX {σ:Za} {t:Nat} {cs:List AVal} (hs:σ[t]?=some (.var cs)) (hc:Zs cs=true):Zd σ 1000 [t] []=[t]:=by
 have hd:σ.getD t .free=.var cs:=by simp [Xz,hs]
 have e2:=(Zec (fun _ _=>none) cs hc).2
 show Zd σ (999+1) [t] []=[t]
 simp only [Zd,Xo,Xq,if_false,hd,Zo,e2,Xv]
theorem ZCD {O:Zat} {bf:Nat->Bool} {σ:Za} {t sq f:Nat} {view:Bool} {rest:List AVal} {cs cs':List AVal} {r:AVal} (hs:σ[t]?=some (.var cs)) (hc:Zs cs=true) (hc':Zs cs'=true) (hb:bf f=false) (hp:rest.all ZaX=true) (hr:ZbD r=true) (hn:Zbe r=true) (hv:viewR [.var cs'] r=some (r,[]))
  (h:O f (.ref 0 0::rest.map Zaw) [.var cs]=some (r,[.var cs'])):ZQ O bf σ sq f 0 view (.ref t 0::rest)=some (r,σ.set t (.var cs'),{ any:=true,upd:=[(t,cs')] }):=by
 have htl:t < σ.length:=by
  rcases XaP t σ.length with h | h
  ·exact h
  ·rw [List.getElem?_eq_none h] at hs;cases hs
 have hup:Za7 (σ.set t (.var cs')) [t]=[(t,cs')]:=by
  simp only [Za7,XB,if_pos htl,if_true]
 have hd:σ.getD t .free=.var cs:=by simp [Xz,hs]
 have hf0:ZS σ []=σ:=rfl
 have hsh:showAs σ (.ref t 0::rest)=some (.ref t 0::rest.map Zaw,[]):=by
  rw [showAs,show showA σ (.ref t 0)=some (.ref t 0,[]) from rfl,Zh7 hp]
  rfl
 have href:ZP (.ref t 0::rest.map Zaw)=[t]:=by
  rw [ZP,Zgp hp];rfl
 unfold ZQ ZcK
 rw [hb]
 simp only [Xq,if_false,hsh,hf0,href,ZzX hs hc]
 unfold Zb8
 have hall:([t].all fun t=>okB (σ.getD t .free))=true:=by simp [Xp,Xs,hs,okB]
 rw [if_pos hall]
 have hρ:Zc σ 0 [t] t 0=some (0,0):=by simp [Zc,Zh,hs,Zb,Zg]
 have hheap:Ze σ 0 [t] (Zc σ 0 [t]) [t] 0=[.var cs]:=by
  simp only [Ze,hd,Zg,Zb,Zf,(Zec _ cs hc).1]
 have hargs:ZR (Zc σ 0 [t]) (.ref t 0::rest.map Zaw)=.ref 0 0::rest.map Zaw:=by
  rw [ZR,ZgB hp]
  simp only [ZN,hρ]
 rw [hargs,hheap,h]
 have hask:ZaG view [t].length (some (r,[.var cs']))=some (r,[.var cs']):=by
  unfold ZaG
  split
  ·have hnp:∀ x,r≠.pan x:=by rintro x rfl;simp [viewR,Zcb,ZbA] at hv
   rw [show Zc8 [t].length (some (r,[.var cs']))=(match viewR [.var cs'] r with
    | some (r',ts)=>match gcA [t].length [r'] (ZS [.var cs'] ts) with
     | ([r''],σ')=>some (r'',σ')
     | _=>none
    | none=>none) from by cases r <;> first | rfl | exact absurd rfl (hnp _)]
   rw [hv]
   simp only [Xr,Xt,XX,show ZS [Z5.var cs'] []=[.var cs'] from rfl,ZuJ hn hc']
  ·rfl
 rw [hask]
 have hk:Za4 σ [t] [.var cs'] 0=true:=by
  simp [Za4,okB,hs,Zbk,Zb]
 simp only [Zbf,X8,Xap,Xq,if_false,Xr,Xt,XX,Wx,X5,decide_true,hk,ZaN,WD,if_true,ZaR,ZaH,Xm,Za1,List.getElem?_cons_zero,hd,Zb,Zf,(Zh2 _ r hn).1,(Zec _ cs' hc').1,hup]
end
end
section
theorem Zl3 {O:Zat} {bf:Nat->Bool} {σ:Za} {sq f own:Nat} {view:Bool} {args vs vs':List AVal} {ids:List Nat} {h0 h:Za} {r0 r:AVal} (hb:bf f=false) (hsh:showAs σ args=some (vs,[])) (hre:Zd σ 1000 (ZP vs) []=ids) (hne:ids.isEmpty=false)
  (hall:(ids.all fun t=>okB (σ.getD t .free))=true) (hvs:ZR (Zc σ 0 ids) vs=vs') (hh:Ze σ 0 ids (Zc σ 0 ids) ids 0=h0) {hh0:Za} (hO:O f vs' h0=some (r0,hh0)) (hv:ZaG view ids.length (some (r0,hh0))=some (r,h))
  (hl1:h.length<=ids.length+own) (hl2:ids.length<=h.length) (hk:Za4 σ ids h 0=true) (hff:ZaN σ sq own=true) {r':AVal} (hr:ZN (ZaM σ ids sq) r=r') {σ':Za} (hlay:ZaR σ ids sq h 0 σ=σ') {u:List (Nat×List AVal)} (hu:Za7 σ' ids=u) :
  ZQ O bf σ sq f own view args=some (r',σ',{ any:=true,upd:=u }):=by
 subst hr hlay hu
 unfold ZQ ZcK
 rw [hb]
 simp only [Xq,if_false,hsh,show ZS σ []=σ from rfl,hre]
 unfold Zb8
 rw [if_pos hall,hvs,hh,hO,hv]
 simp only [Zbf,hne,Xap,Xq,if_false,hl1,hl2,decide_true,hk,hff,WD,if_true]
theorem ZwY {O:Zat} {bf:Nat->Bool} {σ:Za} {t sq f own k:Nat} {view:Bool} {args args' xs xs':List AVal} {r:AVal} {b':Z5} (hs:σ[t]?=some (.row 0 k xs)) (hb:bf f=true) (hff:ZaN σ sq own=true)
  (href:ZP args=[t]) (hren:∀ ρ:Rho,ρ t 0=some (0,0)->ZR ρ args=args') (hr:∀ ρ:Rho,ZN ρ r=r) (hb':b'=.row 0 k xs'\/b'=.frow 0 k xs')
  (h:ZaG view 1 (O f args' [.row 0 k xs])=some (r,[b'])):ZQ O bf σ sq f own view args=some (r,σ.set t b',{ any:=true }):=by
 have hd:σ.getD t .free=.row 0 k xs:=by simp [Xz,hs]
 have hf0:ZS σ []=σ:=rfl
 unfold ZQ ZcK
 rw [hb]
 simp only [if_true,hf0,href]
 have hreach:Zd σ 1000 [t] []=[t]:=by
  simp only [Zd,Xo,Xq,if_false,hd,Zo,Xv]
 rw [hreach]
 unfold Zb8
 have hall:([t].all fun t=>okB (σ.getD t .free))=true:=by simp [Xp,Xs,hs,okB]
 rw [if_pos hall]
 have hρ:Zc σ 0 [t] t 0=some (0,0):=by simp [Zc,Zh,hs,Zb,Zg]
 have hheap:Ze σ 0 [t] (Zc σ 0 [t]) [t] 0=[.row 0 k xs]:=by
  simp only [Ze,hd,Zg,Zb,Zf,Nat.not_lt_zero,false_and,if_false]
 rw [hren _ hρ,hheap]
 simp only [Xr,Xt,XX]
 rw [h]
 have hk:Za4 σ [t] [b'] 0=true:=by
  rcases hb' with rfl | rfl <;> simp [Za4,okB,hs,Zbk,Zb]
 have hren':∀ ρ,Zf ρ (Za1 σ [t] 0 b') b'=b':=by
  intro ρ
  rcases hb' with rfl | rfl <;> simp [Za1,hs,Zb,Zf]
 simp only [Zbf,X8,Xap,Xq,if_false,Xr,Xt,XX,Nat.le_add_right,X5,decide_true,hk,hff,WD,if_true,ZaR,Za7,ZaH,Xm,hr,hren']
 have htl:t < σ.length:=(Xu.1 hs).1
 have hg:(σ.set t b')[t]?=some b':=by simp [htl]
 simp only [XD,XM,Xw,hg]
 rcases hb' with rfl | rfl <;> rfl
end
section
section
variable (c:Prop) [Decidable c]
theorem ZEz (t1 t2:Tms) (σ1 σ2:Za):(if c then some (Za9.normal,t1,σ1) else some (Za9.normal,t2,σ2))=some (Za9.normal,(if c then t1 else t2),(if c then σ1 else σ2)):=by split <;> rfl
theorem ZLL (t1 t2:Tms) (σ1 σ2:Za):(if c then some (Za9.ret,t1,σ1) else some (Za9.ret,t2,σ2))=some (Za9.ret,(if c then t1 else t2),(if c then σ1 else σ2)):=by split <;> rfl
theorem ZGV (t1 t2:Tms) (σ1 σ2:Za):(if c then some (t1,σ1,(none:Option AVal)) else some (t2,σ2,none))=some ((if c then t1 else t2),(if c then σ1 else σ2),none):=by split <;> rfl
theorem ZHu (n:Nat) (a b:AVal):(if c then (n,a) else (n,b))=(n,if c then a else b):=by split <;> rfl
theorem Zwq (a b:AVal) (σ1 σ2:Za):(if c then some (a,σ1) else some (b,σ2))=some ((if c then a else b),(if c then σ1 else σ2)):=by split <;> rfl
theorem ZyN (a b:AVal) (σ1 σ2:Za) (x y:Cls):(if c then some (a,σ1,x) else some (b,σ2,y))=some ((if c then a else b),(if c then σ1 else σ2),if c then x else y):=by split <;> rfl
end
theorem Zz {α:Type} (p:Bool) (x y z:α):(if p=true then x else (if p=false then y else z))=if p=true then x else y:=by cases p <;> rfl
theorem ZG {α:Type} (p:Bool) (x y z:α):(if p=false then x else (if p=true then y else z))=if p=false then x else y:=by cases p <;> rfl
theorem ZC {α:Type} (p:Bool) (x y z:α):(if p=true then (if p=false then x else y) else z)=if p=true then y else z:=by cases p <;> rfl
theorem Zy {α:Type} (p:Bool) (x y z:α):(if p=false then (if p=true then x else y) else z)=if p=false then y else z:=by cases p <;> rfl
theorem Zae (ops:List AOp) (b:Nat) (cs:List Cls):ZdL ops b [] cs=true:=rfl
theorem Zaa (ops:List AOp) (b:Nat) (p:Nat×Nat) (l:List (Nat×Nat)) (cs:List Cls):ZdL ops b (p::l) cs=((p.1 == p.2 || ZcQ (ops.getD p.1 default) (ops.getD p.2 default) (cs.getD p.1 {}) (cs.getD p.2 {}) (b+sitesOf (ops.take p.1))) && ZdL ops b l cs):=by
 simp only [ZdL,Xp]
theorem Zab (oj oi:AOp) (cj ci:Cls) (sj:Nat):ZcQ oj oi cj ci sj=(Zck oj cj || Zck oi ci || (Zdq cj && Zdq ci && (nsite oj.ins == 0 || !ci.rd.contains sj)) || ((ZU oj.ins || (ZV oj.ins && !cj.any)) && (Zdq ci && ci.rd.isEmpty)) || (ZX oj.ins && ZU oi.ins && ci.any && ZZ cj ci) || (ZX oj.ins && (ZV oi.ins || (Z1 oi.ins && Z9 cj ci)) && ZZ cj ci) || (Z6 oj.ins && Z4 oi.ins) || (ZU oj.ins && ZX oi.ins && cj.any && Z7 cj ci sj) || (((ZV oj.ins && !cj.any) || Z1 oj.ins) && Zdq ci && nsite oi.ins == 0 && ci.rd.all fun t=>!cj.wr.contains t && t != sj)):=rfl
theorem Zaf (o:AOp) (rd wr:List Nat) (any:Bool) (got:List (Nat×Option Nat×Nat×AVal)) (upd:List (Nat×List AVal)):Zck o ⟨rd,wr,any,got,upd⟩=(nsite o.ins == 0 && rd.isEmpty && wr.isEmpty && !any):=rfl
theorem Zac (rd wr:List Nat) (any:Bool) (got:List (Nat×Option Nat×Nat×AVal)) (upd:List (Nat×List AVal)):Zdq ⟨rd,wr,any,got,upd⟩=(wr.isEmpty && !any):=rfl
theorem ZaC {α:Type} {l:List α} {i:Nat} {x:α} {r:List α} (h:l.drop i=x::r):l[i]?=some x/\l.drop (i+1)=r/\i < l.length:=by
 have h1:i < l.length:=by
  rcases XaP i l.length with h1 | h1
  ·exact h1
  ·rw [List.drop_eq_nil_of_le h1] at h;cases h
 rw [List.drop_eq_getElem_cons h1] at h
 injection h with h2 h3
 exact ⟨by rw [XY h1,h2],h3,h1⟩
theorem ZbF {α:Type} {l:List α} {i:Nat} (h:l.drop i=[]):¬(i:Int) < l.length:=by
 have:=Wl.1 h;omega
theorem iad {α:Type} {l:List α} {i:Nat} {x:α} (h:l[i]?=some x) (f:α->AVal) {k:Nat} (hk:(f x).cells.length=k) (σ:Za) (n:Bool) (kk:IntKind):ZbN σ k (.lst n (l.map f)) (.int kk (i:Int))=some (.iptr (f x).cells 0,σ,{}):=by
 have h0:(0:Int)<=(i:Int):=Int.natCast_nonneg i
 unfold ZbN
 simp only [h0,if_true,Wk,Wh,h,We,hk]
theorem Zbp {n:Int} (h0:-9223372036854775808<=n) (h:n<=9223372036854775807):IntKind.i64.wrap n=n:=by
 rw [IntKind.wrap_i64];omega
theorem ZIm {α β:Type} {a:List α} {b:List β} (h:a.length=b.length):((a.length:Int) != (b.length:Int))=false:=by simp [h]
theorem Zxg {α β:Type} {a:List α} {b:List β} (h:a.length≠b.length):((a.length:Int) != (b.length:Int))=true:=by
 simp only [bne_iff_ne,ne_eq];omega
theorem Zzq {α:Type} [BEq α] [LawfulBEq α] {a b:List α} (h:a.length≠b.length):(a == b)=false:=by
 simp only [beq_eq_false_iff_ne,ne_eq];rintro rfl;exact h rfl
theorem Zbh {i n:Nat} (h:(i:Int) < n) (hn:n<=9223372036854775807):IntKind.i64.wrap ((i:Int)+1)=((i+1:Nat):Int):=by
 rw [Zbp (by omega) (by omega)];rfl
theorem Za5 {O:Zat} {bf:Nat->Bool} {f:Nat} {args:List AVal} {r:AVal} (h:O f args []=some (r,[])) (hb:bf f=false) (hp:args.all ZaX=true) (hn:args.map Zaw=args) (hv:Zc8 0 (some (r,[]))=some (r,[])) (hr:∀ sq,ZN (ZaM [] [] sq) r=r) (σ:Za) (sq own:Nat) (view:Bool):ZQ O bf σ sq f own view args=some (r,σ,{}):=by
 rw [Zi5 hb hp,hn,h]
 have : ZaG view 0 (some (r,[]))=some (r,[]):=by
  unfold ZaG
  split
  ·exact hv
  ·rfl
 rw [this,Zmw _ _ _ _ (hr sq)]
abbrev ZjG:=List UInt8
def ZI (b:ZjG):AVal:=.lst false (b.map ZaP)
structure Znc where
 id:Int
 num:Int
 text:ZjG
 pair:ZjG
 data:ZjG
 deriving DecidableEq
def ZH (p:Znc):List AVal:=[.int .i64 p.id,.int .i64 p.num,.str p.text,.str p.pair,ZI p.data]
def ZJ (p:Znc):AVal:=.agg (ZH p)
def ZK (l:List Znc):AVal:=.lst false (l.map ZJ)
def Zp (l:List Int):AVal:=.lst false (l.map (.int .i64 ·))
theorem ZL (l:ZjG):Zf3 (l.map ZaP)=some l:=by
 induction l with
 | nil=>rfl
 | cons b l ih =>
  simp only [XS,Zf3,ih,ZaP,ZpV,Wk,UInt8.ofNat_toNat]
end
section
theorem ZGA {O:Zat} {bf:Nat->Bool} {σ:Za} {f:Nat} {args vs:List AVal} {ts:List Nat} {r r':AVal} (hb:bf f=false) (hsh:showAs σ args=some (vs,ts)) (hp:vs.all ZaX=true) (hm:vs.map Zaw=vs) (h:O f vs []=some (r,[])) (hv:Zc8 0 (some (r,[]))=some (r',[])) (sq own:Nat) :
  ZQ O bf σ sq f own true args=if ZbD r' then some (r',σ,{ rd:=ts }) else if Zd4 σ ts r' then some (r',σ,{ rd:=ts }) else some (ZN (ZaM [] [] sq) r',ZS σ ts,{ rd:=ts,wr:=ts }):=by
 have hr:=Zgp hp
 have hn:=fun ρ=>ZgB (ρ:=ρ) hp
 rw [hm] at hr
 simp only [hm] at hn
 unfold ZQ ZcK
 rw [hb]
 simp only [Xq,if_false,hsh]
 rw [hr]
 have h2:∀ σ,Zd σ 1000 [] []=[]:=fun _=>rfl
 rw [h2]
 unfold Zb8
 simp only [Xs,if_true,hn,Ze,Xt,h]
 have : ZaG true 0 (some (r,[]))=some (r',[]):=by unfold ZaG;rw [if_pos rfl,hv]
 rw [this]
 simp only [Zbf,List.isEmpty_nil,WD,if_true]
theorem ZtZ {O:Zat} {bf:Nat->Bool} {σ:Za} {f:Nat} {args vs:List AVal} {ts:List Nat} {r r':AVal} (hb:bf f=false) (hsh:showAs σ args=some (vs,ts)) (hp:vs.all ZaX=true) (hm:vs.map Zaw=vs) (h:O f vs []=some (r,[])) (hv:Zc8 0 (some (r,[]))=some (r',[])) (hf:ZbD r'=true) (sq own:Nat) :
  ZQ O bf σ sq f own true args=some (r',σ,{ rd:=ts }):=by
 rw [ZGA hb hsh hp hm h hv,if_pos hf]
theorem ZfF {O:Zat} {bf:Nat->Bool} {f:Nat} {args args':List AVal} {r r':AVal} (h:O f args' []=some (r,[])) (hb:bf f=false) (hp:args.all ZaX=true) (hn:args.map Zaw=args') (hv:Zc8 0 (some (r,[]))=some (r',[])) (hr:∀ sq,ZN (ZaM [] [] sq) r'=r') (σ:Za) (sq own:Nat):ZQ O bf σ sq f own true args=some (r',σ,{}):=by
 rw [Zi5 hb hp,hn,h]
 have : ZaG true 0 (some (r,[]))=some (r',[]):=by
  unfold ZaG
  rw [if_pos rfl];exact hv
 rw [this,Zmw _ _ _ _ (hr sq)]
end
section
def Zil:ZM:=(.seq (.region [oM 12 0,oI 13 (.call 61 0 true [(.t 12)]),oM 2 13] none [2]) .ret)
def ZnM:ZM:=Zil
def ZkG:=xw ZnM Zil rfl
def ZhP:ZM:=(.seq (.region [oI 7 (.nxt (.t 6)),oI 8 (.ext (.t 7) 0)] none [8,7,6,0]) (.seq (.cond (.t 8) .skip (.exit 0)) (.block 1 (.seq (.region [oI 9 (.ext (.t 7) 2),oM 4 9] none [6,4,0]) (.seq (.region [oM 10 4,oI 11 (.bin .eql (.t 10) (.c (.int .i32 0)))] none [11,6,0]) (.cond (.t 11) (.seq (.region [oI 2 (.mov (.c (.bool false)))] none [2]) .ret) .skip))))))
def Znk:ZM:=ZhP
def ZkQ:=xw Znk ZhP rfl
def Zik:ZM:=(.seq (.region [oI 2 (.mov (.c (.bool false)))] none [0]) (.seq (.seq (.region [oM 5 0,oI 6 (.rng (.t 5))] none [6,0]) (.block 0 (.loop [6,0] Znk))) ZnM))
def Zle:Zaj:=⟨[(.tmp 2)],Zik⟩
theorem Zzo:FC 53=some Zle:=by kernel_rfl
theorem Zla:Zle.body=Zik:=rfl
theorem ZlP:Zle.res=[(.tmp 2)]:=rfl
noncomputable def ZjZ (m:Nat) (tm:Tms) (σ:Za):Option (AVal×Za):=(ZaL m Zle (Zbi FC PR BY m ZnM (Wt (Za6 0) (evL FC PR BY m [6,0] Znk tm σ))))
def Zg1:ZM:=(.seq (.region [oI 2 (.mov (.c (.bool true)))] none [2]) .ret)
def Zpz:ZM:=Zg1
def ZjT:=xw Zpz Zg1 rfl
def Zgw:ZM:=(.seq (.seq (.region [oM 5 0,oI 6 (.bin .neq (.t 5) (.c (.str [])))] none [6,0]) (.cond (.t 6) .skip (.exit 0))) (.block 1 (.seq (.region [oM 8 0,oI 9 (.call 66 0 true [(.t 8)]),oM 7 9,oI 10 (.ext (.t 7) 0),oI 11 (.ext (.t 7) 1),oM 3 10,oM 4 11] none [4,3,0]) (.seq (.seq (.region [oM 12 4,oI 13 (.bin .eql (.t 12) (.c (.int .i64 0))),oM 14 13,⟨(some 15),(.mov (.t 3)),(some (14,false)),[]⟩,⟨(some 16),(.bin .eql (.t 15) (.c (.int .i64 0))),(some (14,false)),[]⟩,oI 17 (.pick (.t 14) (.c (.bool true)) (.t 16))] none [17,4,0]) (.cond (.t 17) (.seq (.region [oI 2 (.mov (.c (.bool false)))] none [2]) .ret) .skip)) (.region [oM 18 0,oM 19 4,oI 20 (.sslice (.t 18) (some (.t 19)) none),oM 0 20] none [0])))))
def ZnO:ZM:=Zgw
def ZjF:=xw ZnO Zgw rfl
def ZgL:ZM:=(.seq (.region [oI 2 (.mov (.c (.bool false)))] none [0]) (.seq (.block 0 (.loop [0] ZnO)) Zpz))
def Zj8:Zaj:=⟨[(.tmp 2)],ZgL⟩
theorem ZBz:FC 55=some Zj8:=by kernel_rfl
theorem ZiV:Zj8.body=ZgL:=rfl
theorem Zjh:Zj8.res=[(.tmp 2)]:=rfl
noncomputable def ZiW (m:Nat) (tm:Tms) (σ:Za):Option (AVal×Za):=(ZaL m Zj8 (Zbi FC PR BY m Zpz (Wt (Za6 0) (evL FC PR BY m [0] ZnO tm σ))))
def Zcr:ZM:=(.seq (.seq (.region [oM 69 4,oM 70 6,oI 71 (.bin .lss (.t 69) (.t 70)),oM 72 71,⟨(some 73),(.mov (.t 4)),(some (72,false)),[]⟩,⟨(some 74),(.bin .gtr (.t 73) (.c (.int .i64 1114111))),(some (72,false)),[]⟩,oI 75 (.pick (.t 72) (.c (.bool true)) (.t 74)),oM 76 75,⟨(some 77),(.mov (.t 4)),(some (76,false)),[]⟩,⟨(some 78),(.bin .geq (.t 77) (.c (.int .i64 55296))),(some (76,false)),[]⟩,⟨(some 79),(.mov (.t 78)),(some (76,false)),[]⟩,⟨(some 80),(.mov (.t 4)),(some (79,true)),[]⟩,⟨(some 81),(.bin .lss (.t 80) (.c (.int .i64 57344))),(some (79,true)),[]⟩,⟨(some 82),(.pick (.t 79) (.t 81) (.c (.bool false))),(some (76,false)),[]⟩,oI 83 (.pick (.t 76) (.c (.bool true)) (.t 82))] none [83,5,4]) (.cond (.t 83) (.seq (.region [oI 2 (.mov (.c (.int .i64 0))),oI 3 (.mov (.c (.int .i64 0)))] none [3,2]) .ret) .skip)) (.seq (.region [oM 84 4,oM 85 5,oI 86 (.bin .add (.t 85) (.c (.int .i64 1))),oM 2 84,oM 3 86] none [3,2]) .ret))
def ZoS:ZM:=Zcr
def ZcF:=xw ZoS Zcr rfl
def Zcn:ZM:=(.seq (.seq (.region [oM 46 7,oM 47 5,oI 48 (.bin .leq (.t 46) (.t 47))] none [48,7,6,5,4,0]) (.cond (.t 48) .skip (.exit 1))) (.seq (.block 2 (.seq (.seq (.region [oM 51 0,oM 52 7,oI 53 (.sindex (.t 51) (.t 52)),oI 54 (.bin .lss (.t 53) (.c (.int .u8 128))),oM 55 54,⟨(some 56),(.mov (.t 0)),(some (55,false)),[]⟩,⟨(some 57),(.mov (.t 7)),(some (55,false)),[]⟩,⟨(some 58),(.sindex (.t 56) (.t 57)),(some (55,false)),[]⟩,⟨(some 59),(.bin .geq (.t 58) (.c (.int .u8 192))),(some (55,false)),[]⟩,oI 60 (.pick (.t 55) (.c (.bool true)) (.t 59))] none [60,7,6,5,4,0]) (.cond (.t 60) (.seq (.region [oI 2 (.mov (.c (.int .i64 0))),oI 3 (.mov (.c (.int .i64 0)))] none [3,2]) .ret) .skip)) (.region [oM 61 4,oI 62 (.bin .mul (.t 61) (.c (.int .i64 64))),oM 63 0,oM 64 7,oI 65 (.sindex (.t 63) (.t 64)),oI 66 (.i2i .i64 (.t 65)),oI 67 (.bin .add (.t 62) (.t 66)),oI 68 (.bin .sub (.t 67) (.c (.int .i64 128))),oM 4 68] none [7,6,5,4,0]))) (.region [oM 49 7,oI 50 (.bin .add (.t 49) (.c (.int .i64 1))),oM 7 50] none [7,6,5,4,0])))
def Zp3:ZM:=Zcn
def ZcU:=xw Zp3 Zcn rfl
def Zch:ZM:=(.seq (.region [oI 2 (.mov (.c (.int .i64 0))),oI 3 (.mov (.c (.int .i64 0)))] none [0]) (.seq (.region [oM 8 0,oI 9 (.sindex (.t 8) (.c (.int .i64 0))),oI 10 (.i2i .i64 (.t 9)),oM 4 10] none [4,0]) (.seq (.region [oI 5 (.mov (.c (.int .i64 0))),oI 6 (.mov (.c (.int .i64 0)))] none [4,0]) (.seq (.block 0 (.seq (.region [oM 12 4,oI 13 (.bin .lss (.t 12) (.c (.int .i64 128))),oM 11 13] none [11,4,0]) (.cond (.t 11) (.seq (.region [oM 14 4,oM 2 14,oI 3 (.mov (.c (.int .i64 1)))] none [3,2]) .ret) (.seq (.region [oM 16 4,oI 17 (.bin .geq (.t 16) (.c (.int .i64 192))),oM 18 17,⟨(some 19),(.mov (.t 4)),(some (18,true)),[]⟩,⟨(some 20),(.bin .lss (.t 19) (.c (.int .i64 224))),(some (18,true)),[]⟩,oI 21 (.pick (.t 18) (.t 20) (.c (.bool false))),oM 15 21] none [15,4,0]) (.cond (.t 15) (.region [oM 22 4,oI 23 (.bin .sub (.t 22) (.c (.int .i64 192))),oI 5 (.mov (.c (.int .i64 1))),oI 6 (.mov (.c (.int .i64 128))),oM 4 23] none [6,5,4,0]) (.seq (.region [oM 25 4,oI 26 (.bin .geq (.t 25) (.c (.int .i64 224))),oM 27 26,⟨(some 28),(.mov (.t 4)),(some (27,true)),[]⟩,⟨(some 29),(.bin .lss (.t 28) (.c (.int .i64 240))),(some (27,true)),[]⟩,oI 30 (.pick (.t 27) (.t 29) (.c (.bool false))),oM 24 30] none [24,4,0]) (.cond (.t 24) (.region [oM 31 4,oI 32 (.bin .sub (.t 31) (.c (.int .i64 224))),oI 5 (.mov (.c (.int .i64 2))),oI 6 (.mov (.c (.int .i64 2048))),oM 4 32] none [6,5,4,0]) (.seq (.region [oM 34 4,oI 35 (.bin .geq (.t 34) (.c (.int .i64 240))),oM 36 35,⟨(some 37),(.mov (.t 4)),(some (36,true)),[]⟩,⟨(some 38),(.bin .lss (.t 37) (.c (.int .i64 248))),(some (36,true)),[]⟩,oI 39 (.pick (.t 36) (.t 38) (.c (.bool false))),oM 33 39] none [33,4,0]) (.cond (.t 33) (.region [oM 40 4,oI 41 (.bin .sub (.t 40) (.c (.int .i64 240))),oI 5 (.mov (.c (.int .i64 3))),oI 6 (.mov (.c (.int .i64 65536))),oM 4 41] none [6,5,4,0]) (.seq (.region [oI 2 (.mov (.c (.int .i64 0))),oI 3 (.mov (.c (.int .i64 0)))] none [3,2]) .ret)))))))))) (.seq (.seq (.region [oM 42 0,oI 43 (.slen (.t 42)),oM 44 5,oI 45 (.bin .leq (.t 43) (.t 44))] none [45,6,5,4,0]) (.cond (.t 45) (.seq (.region [oI 2 (.mov (.c (.int .i64 0))),oI 3 (.mov (.c (.int .i64 0)))] none [3,2]) .ret) .skip)) (.seq (.seq (.region [oI 7 (.mov (.c (.int .i64 1)))] none [7,6,5,4,0]) (.block 1 (.loop [7,6,5,4,0] Zp3))) ZoS))))))
def ZkR:Zaj:=⟨[(.tmp 2),(.tmp 3)],Zch⟩
theorem ZH9:FC 66=some ZkR:=by kernel_rfl
theorem ZcG:ZkR.body=Zch:=rfl
theorem ZcS:ZkR.res=[(.tmp 2),(.tmp 3)]:=rfl
noncomputable def ZfX (m:Nat) (tm:Tms) (σ:Za):Option (AVal×Za):=(ZaL m ZkR (Zbi FC PR BY m ZoS (Wt (Za6 1) (evL FC PR BY m [7,6,5,4,0] Zp3 tm σ))))
end
section
def Zam:=(aI (aI (aI (aI (aI (aI @ZAW @ZJu) (aI @ZwW @ZFd)) (aI (aI @ZD9 @ZzL) (aI @ZDj @ZAA))) (aI (aI (aI @Zt2 @Zoj) (aI @Zyu @Zo6)) (aI (aI @ZIh @ZLo) (aI @ZJo @ZBo)))) (aI (aI (aI (aI @ZE3 @ZFl) (aI @ZxI @Zzv)) (aI (aI @Zyj @Zwp) (aI @ZAC @ZDY))) (aI (aI (aI @ZGX @ZG9) (aI @ZLM @ZKY)) (aI (aI @Zwm @ZL) (aI @ZEz @ZLL))))) (aI (aI (aI (aI (aI @ZGV @ZHu) (aI @Zwq @ZyN)) (aI (aI @ZzF @ZDv) (aI @ZKv @ZBc))) (aI (aI (aI @ZLU @ZCr) (aI @Zww @Zag)) (aI (aI @ZqY @Zou) (aI @ZxO @ZKh)))) (aI (aI (aI (aI @Zzu @Zyl) (aI @ZKw @ZAh)) (aI (aI @ZA4 @Zpq) (aI @ZJc @ZBa))) (aI (aI (aI @ZG1 @ZIx) (aI @ZF0 @ZEC)) (aI (aI @Zw7 @Zy0) (aI @ZAG @ZF5))))))
def Zao:=(aI (aI (aI (aI (aI (aI @ZBl @ZGj) (aI @ZGI @ZHS)) (aI (aI @ZGD @ZKX) (aI @Zae @Zaa))) (aI (aI (aI @Zab @Zaf) (aI @Zac @Z0)) (aI (aI @ZGu @ZKe) (aI @Zwx @ZCo)))) (aI (aI (aI (aI @ZDl @Zxn) (aI @ZzP @ZAI)) (aI (aI @Zre @ZB8) (aI @Zw4 @ZL0))) (aI (aI (aI @Zyf @Zz1) (aI @ZxA @ZEE)) (aI (aI @ZLN @ZAy) (aI @Zwc @Zz6))))) (aI (aI (aI (aI (aI @ZHJ @ZLV) (aI @ZHy @ZLE)) (aI (aI @ZHI @ZJh) (aI @ZCs @ZDq))) (aI (aI (aI @Zwl @ZLO) (aI @ZHD @ZyU)) (aI (aI @Zzn @ZEk) (aI @Zzx @Zy2)))) (aI (aI (aI (aI @Zzw @Zzj) (aI @ZCR @ZJH)) (aI (aI @ZLh @ZCp) (aI @ZBZ @ZFX))) (aI (aI (aI @ZIX @ZFm) (aI @ZDC @ZHU)) (aI (aI @ZK6 @ZC5) (aI @ZEa @ZKU))))))
def Zn:=(aI (aI (aI (aI (aI (aI @ZAa @ZDi) (aI @ZxZ @ZCy)) (aI (aI @ZFk @Zxr) (aI @ZD8 @Zz5))) (aI (aI (aI @ZE1 @ZB4) (aI @ZKa @Zwg)) (aI (aI @ZFx @ZFA) (aI @ZwO @ZzY)))) (aI (aI (aI (aI @Zyd @ZCb) (aI @ZAn @ZDU)) (aI (aI @ZID @ZCX) (aI @ZEc @ZBO))) (aI (aI (aI @ZF8 @ZJU) (aI @ZLb @Zxl)) (aI (aI @ZJI @Zxb) (aI @ZBX @ZJr))))) (aI (aI (aI (aI (aI @ZIU @ZLH) (aI @ZF9 @ZCg)) (aI (aI @ZD6 @ZA6) (aI @ZH5 @ZIi))) (aI (aI (aI @ZxM @ZEA) (aI @ZIv @ZHG)) (aI (aI @ZBS @ZyG) (aI @ZLm @ZLT)))) (aI (aI (aI (aI @ZwJ @ZJK) (aI @ZLs @Zy5)) (aI (aI @ZBP @ZB2) (aI @ZK0 @ZBA))) (aI (aI (aI @ZEX @ZJm) (aI @ZK2 @ZHr)) (aI (aI @ZAt @ZLi) (aI @ZA3 @ZxJ))))))
def Zi:=(aI (aI (aI (aI (aI (aI @ZCB @Zw9) (aI @ZJ0 @ZC7)) (aI (aI @Zyi @ZIW) (aI @ZB6 @ZI7))) (aI (aI (aI @ZKf @Zyt) (aI @ZwX @Zwn)) (aI (aI @Zxi @ZCU) (aI @ZE9 @ZBy)))) (aI (aI (aI (aI @ZyJ @ZI4) (aI @ZEf @ZwU)) (aI (aI @ZAS @ZIk) (aI @ZBn @ZyA))) (aI (aI (aI @ZKo @Zyw) (aI @Zxo @Zwf)) (aI (aI @ZKE @ZET) (aI @ZHR @Zzs))))) (aI (aI (aI (aI (aI @ZD4 @ZKG) (aI @Zxe @ZGM)) (aI (aI @Zxa @ZKj) (aI @ZFR @ZIc))) (aI (aI (aI @Zw3 @Zz9) (aI @ZKr @ZI3)) (aI (aI @ZKx @ZJw) (aI @ZJP @ZCn)))) (aI (aI (aI (aI @ZCM @ZGF) (aI @ZCE @ZFZ)) (aI (aI @Zxh @ZEt) (aI @ZEI @Zz0))) (aI (aI (aI @ZB1 @ZC3) (aI @ZCN @ZEr)) (aI (aI @ZG5 @ZB0) (aI @ZA5 @ZJj))))))
def Zm:=(aI (aI (aI (aI (aI (aI @Zv1 @ZFs) (aI @ZKq @Zwv)) (aI (aI @ZGG @ZJl) (aI @ZDf @ZFL))) (aI (aI (aI @ZI0 @Zxm) (aI @ZDp @ZJy)) (aI (aI @ZCC @Zyp) (aI @ZHV @ZFg)))) (aI (aI (aI (aI @Zx5 @ZIC) (aI @ZxQ @ZKs)) (aI (aI @Zz3 @Zyz) (aI @ZAK @ZDm))) (aI (aI (aI @ZEp @ZD3) (aI @ZJg @ZIw)) (aI (aI @Zxf @ZDz) (aI @ZFI @ZxB))))) (aI (aI (aI (aI (aI @ZCc @ZHk) (aI @ZIg @ZKL)) (aI (aI @Zwb @ZyR) (aI @ZId @ZEi))) (aI (aI (aI @ZDD @ZCH) (aI @ZAD @Zws)) (aI (aI @ZKz @ZJq) (aI @ZAV @ZyV)))) (aI (aI (aI (aI @ZIn @ZIV) (aI @Zyg @ZzD)) (aI (aI @ZBD @Zv5) (aI @ZAZ @ZF1))) (aI (aI (aI @Zzt @ZFq) (aI @Zx6 @ZGJ)) (aI (aI @Zy9 @ZBR) (aI @ZDo @ZHb))))))
def Zaq:=(aI (aI (aI (aI (aI (aI @ZCO @ZHc) (aI @ZCP @ZFD)) (aI (aI @ZJR @ZKS) (aI @Zyb @ZI6))) (aI (aI (aI @ZIf @ZAM) (aI @ZLy @ZKt)) (aI (aI @ZCJ @ZxV) (aI @ZBq @ZHC)))) (aI (aI (aI (aI @ZIT @ZII) (aI @ZD2 @Zyr)) (aI (aI @ZH8 @ZJM) (aI @ZHq @ZFP))) (aI (aI (aI @Zzz @ZEv) (aI @ZJT @ZHH)) (aI (aI @ZwD @ZDc) (aI @Zy4 @ZIt))))) (aI (aI (aI (aI (aI @ZDL @ZB9) (aI @ZA1 @ZEu)) (aI (aI @ZEU @ZIB) (aI @ZyO @ZJe))) (aI (aI (aI @ZzW @ZHn) (aI @Zv7 @ZDE)) (aI (aI @ZCz @ZFw) (aI @ZE5 @ZAJ)))) (aI (aI (aI (aI @ZIe @ZDJ) (aI @ZHm @ZDx)) (aI (aI @ZJA @ZAU) (aI @ZGk @Zya))) (aI (aI (aI @ZDI @ZD7) (aI @ZDN @Zwr)) (aI (aI @ZHF @ZGN) (aI @Zzm @ZzQ))))))
def Zk:=(aI (aI (aI (aI (aI (aI @ZIl @ZAv) (aI @ZK3 @ZIr)) (aI (aI @ZBQ @ZDr) (aI @ZwF @Zzg))) (aI (aI (aI @Zwj @ZxP) (aI @ZBY @ZCY)) (aI (aI @Zzr @ZED) (aI @ZJx @ZIa)))) (aI (aI (aI (aI @ZwM @ZJJ) (aI @Zyx @ZzM)) (aI (aI @Zzy @ZEm) (aI @ZAw @ZHT))) (aI (aI (aI @Zzp @ZC6) (aI @ZBw @ZA8)) (aI (aI @ZKW @ZJb) (aI @ZCK @ZHa))))) (aI (aI (aI (aI (aI @ZJZ @ZxU) (aI @ZE6 @ZK8)) (aI (aI @ZAR @ZHf) (aI @ZGt @Zys))) (aI (aI (aI @ZJz @ZBG) (aI @ZFn @ZKp)) (aI (aI @ZwP @ZJp) (aI @Zxq @Zze)))) (aI (aI (aI (aI @ZJ9 @ZGh) (aI @ZyY @Zx0)) (aI (aI @ZF2 @Zy8) (aI @ZwG @ZE2))) (aI (aI (aI @ZEY @ZBF) (aI @ZBU @ZDg)) (aI (aI @ZEN @ZxT) (aI @ZEg @ZEj))))))
def Zj:=(aI (aI (aI (aI (aI @ZKR (aI @ZHO @ZFy)) (aI (aI @ZEh @ZGx) (aI @ZFE @ZxK))) (aI (aI @ZCh (aI @ZFo @ZzI)) (aI (aI @ZFt @Zzc) (aI @ZKd @ZDV)))) (aI (aI (aI @ZJN (aI @ZAB @ZKu)) (aI (aI @ZC8 @ZzN) (aI @ZLA @ZFW))) (aI (aI (aI @ZJO @ZH6) (aI @ZJF @ZFj)) (aI (aI @Zxw @ZHK) (aI @ZJv @ZDM))))) (aI (aI (aI (aI @ZH4 (aI @Zwt @ZF7)) (aI (aI @ZJn @ZCF) (aI @ZB3 @ZEW))) (aI (aI (aI @ZwE @ZJL) (aI @ZDH @ZCa)) (aI (aI @ZDw @Zzb) (aI @ZLd @ZEQ)))) (aI (aI (aI @ZGm (aI @ZyE @ZBi)) (aI (aI @ZHs @ZGr) (aI @ZJs @Zzl))) (aI (aI (aI @ZEb @ZBu) (aI @ZJE @ZC4)) (aI (aI @ZwC @ZBE) (aI @ZJ8 @Zvp))))))
def Zap:=(aI (aI (aI (aI (aI (aI @List.map_cons.{0,0} @List.map_nil.{0,0}) (aI @List.length_cons.{0} @List.length_nil.{0})) (aI (aI @List.replicate_zero.{0} @List.replicate_succ.{0}) (aI @List.append_nil.{0} @List.nil_append.{0}))) (aI (aI (aI @List.cons_append.{0} @List.getElem?_cons_zero.{0}) (aI @List.getElem?_cons_succ.{0} @List.set_cons_zero.{0})) (aI (aI @List.set_cons_succ.{0} @Nat.add_zero) (aI @Nat.zero_add @Bool.true_or)))) (aI (aI (aI (aI @Bool.false_or @Bool.or_true) (aI @Bool.or_false @Bool.and_true)) (aI (aI @Bool.true_and @Bool.and_self) (aI @Bool.and_false @Bool.false_and))) (aI (aI (aI @if_true.{1} @if_false.{1}) (aI @ite_true.{1} @ite_false.{1})) (aI (aI @Option.map_some.{0,0} @Option.map_none.{0,0}) (aI @and_self @and_true))))) (aI (aI (aI (aI (aI @true_and @and_false) (aI @false_and @true_or)) (aI (aI @or_true @false_or) (aI @or_false @not_true_eq_false))) (aI (aI (aI @not_false_eq_true @List.drop_zero.{0}) (aI @List.drop_succ_cons.{0} @List.take_succ_cons.{0})) (aI (aI @List.take_zero.{0} @List.all_cons.{0}) (aI @List.all_nil.{0} @List.isEmpty_nil.{0})))) (aI (aI (aI (aI @Bool.not_false @Bool.not_true) (aI @List.length_map.{0,0} @Bool.bne_false)) (aI (aI @Bool.bne_true @List.isEmpty_cons.{0}) (aI @List.getD_cons_zero.{0} @List.getD_cons_succ.{0}))) (aI (aI (aI @List.getD_nil.{0} @List.contains_nil.{0}) (aI @List.range_zero @List.flatMap_cons.{0,0})) (aI (aI @List.flatMap_nil.{0,0} @List.zip_cons_cons.{0,0}) (aI @List.zip_nil_left.{0,0} @List.zip_nil_right.{0,0}))))))
def Zl:=@Nat.not_lt_zero
def EQA := (aI (aI (aI (aI (aI (aI (aI Zam Zao) (aI Zaq Zap)) (aI (aI @exI.eq_1 @nsite.eq_1) (aI @nsite.eq_2 @nsite.eq_3))) (aI (aI (aI @nsite.eq_4 @nsite.eq_5) (aI @nsite.eq_6 @nsite.eq_7)) (aI (aI @nsite.eq_8 @nsite.eq_9) (aI @nsite.eq_10 (aI @nsite.eq_11 @nsite.eq_12))))) (aI (aI (aI (aI @nsite.eq_13 @nsite.eq_14) (aI @nsite.eq_15 @freeAt.eq_1)) (aI (aI @execI.eq_1 @execI.eq_2) (aI @execI.eq_3 (aI @execI.eq_4 @execI.eq_5)))) (aI (aI (aI @execI.eq_6 @execI.eq_7) (aI @execI.eq_8 @execI.eq_9)) (aI (aI @execI.eq_10 @execI.eq_11) (aI @execI.eq_12 (aI @execI.eq_13 @execI.eq_14)))))) (aI (aI (aI (aI (aI @execI.eq_15 @execI.eq_16) (aI @execI.eq_17 @execI.eq_18)) (aI (aI @execI.eq_19 @execI.eq_20) (aI @execI.eq_21 (aI @execI.eq_22 @execI.eq_23)))) (aI (aI (aI @execI.eq_24 @execI.eq_25) (aI @execI.eq_26 @execI.eq_27)) (aI (aI @execI.eq_28 @execI.eq_29) (aI @execI.eq_30 (aI @execI.eq_31 @execI.eq_32))))) (aI (aI (aI (aI @execI.eq_33 @execI.eq_34) (aI @execI.eq_35 @execI.eq_36)) (aI (aI @execI.eq_37 @execI.eq_38) (aI @execI.eq_39 (aI @execI.eq_40 @execI.eq_41)))) (aI (aI (aI @execI.eq_42 @execI.eq_43) (aI @execI.eq_44 @execI.eq_45)) (aI (aI @execI.eq_46 @execI.eq_47) (aI @execI.eq_48 (aI @execI.eq_49 @execI.eq_50))))))) (aI (aI (aI (aI (aI (aI @execI.eq_51 @execI.eq_52) (aI @execI.eq_53 @Opd.ev.eq_1)) (aI (aI @Opd.ev.eq_2 @tget.eq_1) (aI @tget.eq_2 (aI @tins.eq_1 @tins.eq_2)))) (aI (aI (aI @tput.eq_1 @tput.eq_2) (aI @keepL.eq_1 @sitesOf.eq_1)) (aI (aI @resA.eq_1 @resAll.eq_1) (aI @resAll.eq_2 (aI @resOne.eq_1 @resOne.eq_2))))) (aI (aI (aI (aI @enterA.eq_1 @enterA.eq_2) (aI @partA.eq_1 @partA.eq_2)) (aI (aI @faddrA.eq_1 @faddrA.eq_2) (aI @faddrA.eq_3 (aI @faddrA.eq_4 @setAt.eq_1)))) (aI (aI (aI @binA.eq_1 @binA.eq_2) (aI @binA.eq_3 @binA.eq_4)) (aI (aI @binA.eq_5 @arithA.eq_1) (aI @arithA.eq_2 (aI @arithA.eq_3 @arithA.eq_4)))))) (aI (aI (aI (aI (aI @arithA.eq_5 @arithA.eq_6) (aI @arithA.eq_7 @arithA.eq_8)) (aI (aI @arithA.eq_9 @arithA.eq_10) (aI @arithA.eq_11 (aI @arithA.eq_12 @arithA.eq_13)))) (aI (aI (aI @arithA.eq_14 @arithA.eq_15) (aI @arithA.eq_16 @ldA.eq_1)) (aI (aI @ldA.eq_2 @ldA.eq_3) (aI @ldA.eq_4 (aI @stA.eq_1 @stA.eq_2))))) (aI (aI (aI (aI @stA.eq_3 @oI.eq_1) (aI @oN.eq_1 @oM.eq_1)) (aI (aI @oF.eq_1 @oL.eq_1) (aI @List.sum_cons.{0} (aI @List.sum_nil.{0} @eq_self.{1})))) (aI (aI (aI @beq_self_eq_true.{0} @Bool.false_eq_true) (aI @Option.some.injEq.{0} @decide_true)) (aI (aI @decide_false @List.foldl_cons.{0, 0}) (aI @List.foldl_nil.{0, 0} (aI @List.contains_cons.{0} @ne_eq.{1}))))))))
end
section
theorem ZmE (l:List UInt8) (p:Nat):Zfn l p=Lib.decodeL (l.drop p):=by
 have:=Lib.decodeL_drop ⟨l.toArray⟩ p
 simpa [Zfn] using this.symm
def zfG:Nat->List UInt8->Bool
 | 0,_=>true
 | n+1,l=>if l=[] then true else if (Lib.decodeL l).1=0 then false else zfG n (l.drop (Lib.decodeL l).2)
def Zim (l:List UInt8):Bool:=zfG l.length l && Lib.validD l
theorem ZxY (l:List UInt8):E 61 [.str l] []=some (.bool (Lib.validD l),[]):=Zcp.2 ⟨1,rfl⟩
theorem ZpN (σ:Za) (sq own:Nat) (view:Bool) (l:List UInt8):ZQ E BY σ sq 61 own view [.str l]=some (.bool (Lib.validD l),σ,{}) :=
 Za5 (ZxY l) (by kernel_rfl) (by simp -implicitDefEqProofs only [Zam,Zao,Zn,Zi,Zm,Zaq,Zk,Zj,Zap,Zl,eq_self,implies_true,Xq,Zp,ZI,ZK,ZJ,ZH,Zp]) (by simp -implicitDefEqProofs only [Zam,Zao,Zn,Zi,Zm,Zaq,Zk,Zj,Zap,Zl,eq_self,implies_true,Xq,Zp,ZI,ZK,ZJ,ZH,Zp]) rfl (fun _=>rfl) _ _ _ _
theorem Zsh (s:List UInt8):∀ (n p:Nat),s.length - p<=n->p<=s.length->ZjZ 0 [(6,.ref 0 0),(0,.str s)] [.siter s p]=some (.bool (zfG n (s.drop p) && Lib.validD s),[])
 | n,p,hn,hp=>by
  by_cases h:p < s.length
  ·obtain ⟨n,rfl⟩:∃ m,n=m+1:=⟨n - 1,by omega⟩
   have hw:=Lib.decodeL_width (s.drop p)
   have hne:s.drop p≠[]:=by rw [ne_eq,Wl];omega
   have hle:=Lib.decodeL_le (s.drop p) hne
   rw [WJ] at hle
   have ih:=Zsh s n (p+(Lib.decodeL (s.drop p)).2) (by omega) (by omega)
   rw [<-XaZ] at ih
   unfold ZjZ at ih ⊢
   rw [ZY]
   by_cases hz:(Lib.decodeL (s.drop p)).1=0
   ·have hz':((Lib.decodeL (s.drop p)).1:Int)=0:=by omega
    simp -implicitDefEqProofs only [EQA,Zn,Zi,Zm,Zk,Zj,Zl,Zz,ZG,ZC,Zy,ZE,ZF,ZA,ZB,ZD,implies_true,forall_const,Xh,Xi,Xl,Xe,Xf,Xj,Xk,Zv,Zx,unA,Zt,Zu,unG,reduceCtorEq,Zr,decide_eq_true_eq,Xd,Xb,ite_self,↓reduceIte,Zs,Zw,gcT,gcA,Zq,Zd,Zc,Ze,Zh,Zb,Zg,Zf,Zo,Xc,Zla,Zik,ZlP,ZkG,Zil,ZkQ,ZhP,Zp,ZI,ZK,ZJ,ZH,ZL,h,ZmE,hz',ZpN]
    rw [zfG,if_neg hne,if_pos hz];rfl
   ·have hz':(((Lib.decodeL (s.drop p)).1:Int) == 0)=false:=by rw [beq_eq_false_iff_ne];omega
    simp -implicitDefEqProofs only [EQA,Zn,Zi,Zm,Zk,Zj,Zl,Zz,ZG,ZC,Zy,ZE,ZF,ZA,ZB,ZD,implies_true,forall_const,Xh,Xi,Xl,Xe,Xf,Xj,Xk,Zv,Zx,unA,Zt,Zu,unG,reduceCtorEq,Zr,decide_eq_true_eq,Xd,Xb,ite_self,↓reduceIte,Zs,Zw,gcT,gcA,Zq,Zd,Zc,Ze,Zh,Zb,Zg,Zf,Zo,Xc,Zla,Zik,ZlP,ZkG,Zil,ZkQ,ZhP,Zp,ZI,ZK,ZJ,ZH,ZL,h,ZmE,hz',ZpN]
    rw [ih,zfG,if_neg hne,if_neg hz]
  ·have he:s.drop p=[]:=by rw [Wl];omega
   unfold ZjZ
   rw [ZY]
   simp -implicitDefEqProofs only [EQA,Zn,Zi,Zm,Zk,Zj,Zl,Zz,ZG,ZC,Zy,ZE,ZF,ZA,ZB,ZD,implies_true,forall_const,Xh,Xi,Xl,Xe,Xf,Xj,Xk,Zv,Zx,unA,Zt,Zu,unG,reduceCtorEq,Zr,decide_eq_true_eq,Xd,Xb,ite_self,↓reduceIte,Zs,Zw,gcT,gcA,Zq,Zd,Zc,Ze,Zh,Zb,Zg,Zf,Zo,Xc,Zla,Zik,ZlP,ZkG,Zil,ZkQ,ZhP,Zp,ZI,ZK,ZJ,ZH,ZL,h,ZpN]
   rw [he]
   cases n <;> simp [zfG]
theorem Zwk (s:List UInt8):E 53 [.str s] []=some (.bool (Zim s),[]):=by
 rw [ZaJ (by rfl) Zzo]
 have:=Zsh s s.length 0 (by omega) (by omega)
 unfold ZjZ at this
 simp -implicitDefEqProofs only [EQA,Zn,Zi,Zm,Zk,Zj,Zl,Zz,ZG,ZC,Zy,ZE,ZF,ZA,ZB,ZD,implies_true,forall_const,Xh,Xi,Xl,Xe,Xf,Xj,Xk,Zv,Zx,unA,Zt,Zu,unG,reduceCtorEq,Zr,decide_eq_true_eq,Xd,Xb,ite_self,↓reduceIte,Zs,Zw,gcT,gcA,Zq,Zd,Zc,Ze,Zh,Zb,Zg,Zf,Zo,Xc,Zla,Zik,ZlP,ZkG,Zil,ZkQ,ZhP,Zp,ZI,ZK,ZJ,ZH,ZL,Zp]
 rw [this,List.drop_zero];rfl
theorem ZFH (σ:Za) (sq own:Nat) (view:Bool) (l:List UInt8):ZQ E BY σ sq 53 own view [.str l]=some (.bool (Zim l),σ,{}) :=
 Za5 (Zwk l) (by kernel_rfl) (by simp -implicitDefEqProofs only [Zam,Zao,Zn,Zi,Zm,Zaq,Zk,Zj,Zap,Zl,eq_self,implies_true,Xq,Zp,ZI,ZK,ZJ,ZH,Zp]) (by simp -implicitDefEqProofs only [Zam,Zao,Zn,Zi,Zm,Zaq,Zk,Zj,Zap,Zl,eq_self,implies_true,Xq,Zp,ZI,ZK,ZJ,ZH,Zp]) rfl (fun _=>rfl) _ _ _ _
def ZbW:List UInt8->Int->Option Int
 | [],c=>some c
 | b::r,c=>if b.toNat < 128\/192<=b.toNat then none else ZbW r (c*64+b.toNat - 128)
def ZbO (n least:Int):Option Int->AVal
 | none=>.tup [.int .i64 0,.int .i64 0]
 | some c=>if c < least\/1114111 < c\/(55296<=c/\c < 57344) then .tup [.int .i64 0,.int .i64 0] else .tup [.int .i64 c,.int .i64 (n+1)]
theorem ZpM (b:UInt8):(b.toNat:Int) < 256:=by have:=b.toNat_lt;omega
theorem wrap_i64 {n:Int} (h0:-9223372036854775808<=n) (h:n<=9223372036854775807):IntKind.i64.wrap n=n:=Zbp h0 h
theorem ZkK (s:List UInt8) (least:Int) (n:Nat) (hn:n<=3):∀ (r:List UInt8) (i:Nat) (c:Int),1<=i->i+r.length=n+1->(∀ j,j < r.length->s[i+j]?=r[j]?)->0<=c->(c+1)*64 ^ r.length<=2 ^ 40->n < s.length ->
  ZfX 0 [(7,.int .i64 i),(6,.int .i64 least),(5,.int .i64 n),(4,.int .i64 c),(0,.str s)] []=some (ZbO n least (ZbW r c),[])
 | [],i,c,hi,hl,hs,hc,hb,hns=>by
  simp only [Xt,Wx] at hl
  simp only [Xt,Int.pow_zero,Int.mul_one] at hb
  have h1:¬((i:Int)<=n):=by omega
  have h2:IntKind.i64.wrap ((n:Int)+1)=n+1:=Zbp (by omega) (by omega)
  unfold ZfX
  rw [ZY]
  by_cases h4:c < least
  ·have e:ZbO n least (ZbW [] c)=.tup [.int .i64 0,.int .i64 0]:=by simp [ZbO,ZbW,h4]
   rw [e]
   simp -implicitDefEqProofs only [EQA,Zn,Zi,Zm,Zk,Zj,Zl,Zz,ZG,ZC,Zy,ZE,ZF,ZA,ZB,ZD,implies_true,forall_const,Xh,Xi,Xl,Xe,Xf,Xj,Xk,Zv,Zx,unA,Zt,Zu,unG,reduceCtorEq,Zr,decide_eq_true_eq,Xd,Xb,ite_self,↓reduceIte,Zs,Zw,gcT,gcA,Zq,Zd,Zc,Ze,Zh,Zb,Zg,Zf,Zo,Xc,ZcG,Zch,ZcS,ZcF,Zcr,ZcU,Zcn,Zp,ZI,ZK,ZJ,ZH,ZL,h1,h2,h4]
  by_cases h5:c > 1114111
  ·have e:ZbO n least (ZbW [] c)=.tup [.int .i64 0,.int .i64 0]:=by
    have h5':1114111 < c:=h5
    simp [ZbO,ZbW,h5']
   rw [e]
   simp -implicitDefEqProofs only [EQA,Zn,Zi,Zm,Zk,Zj,Zl,Zz,ZG,ZC,Zy,ZE,ZF,ZA,ZB,ZD,implies_true,forall_const,Xh,Xi,Xl,Xe,Xf,Xj,Xk,Zv,Zx,unA,Zt,Zu,unG,reduceCtorEq,Zr,decide_eq_true_eq,Xd,Xb,ite_self,↓reduceIte,Zs,Zw,gcT,gcA,Zq,Zd,Zc,Ze,Zh,Zb,Zg,Zf,Zo,Xc,ZcG,Zch,ZcS,ZcF,Zcr,ZcU,Zcn,Zp,ZI,ZK,ZJ,ZH,ZL,h1,h2,h4,h5]
  by_cases h6:c>=55296
  ·by_cases h7:c < 57344
   ·have e:ZbO n least (ZbW [] c)=.tup [.int .i64 0,.int .i64 0]:=by
     simp only [ZbO,ZbW];rw [if_pos (XO (XO ⟨h6,h7⟩))]
    rw [e]
    simp -implicitDefEqProofs only [EQA,Zn,Zi,Zm,Zk,Zj,Zl,Zz,ZG,ZC,Zy,ZE,ZF,ZA,ZB,ZD,implies_true,forall_const,Xh,Xi,Xl,Xe,Xf,Xj,Xk,Zv,Zx,unA,Zt,Zu,unG,reduceCtorEq,Zr,decide_eq_true_eq,Xd,Xb,ite_self,↓reduceIte,Zs,Zw,gcT,gcA,Zq,Zd,Zc,Ze,Zh,Zb,Zg,Zf,Zo,Xc,ZcG,Zch,ZcS,ZcF,Zcr,ZcU,Zcn,Zp,ZI,ZK,ZJ,ZH,ZL,h1,h2,h4,h5,h6,h7]
   ·have e:ZbO n least (ZbW [] c)=.tup [.int .i64 c,.int .i64 (n+1)]:=by
     simp only [ZbO,ZbW];rw [if_neg (by omega)]
    rw [e]
    simp -implicitDefEqProofs only [EQA,Zn,Zi,Zm,Zk,Zj,Zl,Zz,ZG,ZC,Zy,ZE,ZF,ZA,ZB,ZD,implies_true,forall_const,Xh,Xi,Xl,Xe,Xf,Xj,Xk,Zv,Zx,unA,Zt,Zu,unG,reduceCtorEq,Zr,decide_eq_true_eq,Xd,Xb,ite_self,↓reduceIte,Zs,Zw,gcT,gcA,Zq,Zd,Zc,Ze,Zh,Zb,Zg,Zf,Zo,Xc,ZcG,Zch,ZcS,ZcF,Zcr,ZcU,Zcn,Zp,ZI,ZK,ZJ,ZH,ZL,h1,h2,h4,h5,h6,h7]
  ·have e:ZbO n least (ZbW [] c)=.tup [.int .i64 c,.int .i64 (n+1)]:=by
    simp only [ZbO,ZbW];rw [if_neg (by omega)]
   rw [e]
   simp -implicitDefEqProofs only [EQA,Zn,Zi,Zm,Zk,Zj,Zl,Zz,ZG,ZC,Zy,ZE,ZF,ZA,ZB,ZD,implies_true,forall_const,Xh,Xi,Xl,Xe,Xf,Xj,Xk,Zv,Zx,unA,Zt,Zu,unG,reduceCtorEq,Zr,decide_eq_true_eq,Xd,Xb,ite_self,↓reduceIte,Zs,Zw,gcT,gcA,Zq,Zd,Zc,Ze,Zh,Zb,Zg,Zf,Zo,Xc,ZcG,Zch,ZcS,ZcF,Zcr,ZcU,Zcn,Zp,ZI,ZK,ZJ,ZH,ZL,h1,h2,h4,h5,h6]
 | b::r,i,c,hi,hl,hs,hc,hb,hns=>by
  simp only [Xr] at hl hb
  have hb0:=ZpM b
  have hs0:s[i]?=some b:=by have:=hs 0 (by simp);simpa using this
  have h1:((i:Int)<=n):=by omega
  have h3:IntKind.i64.wrap ((i:Int)+1)=((i+1:Nat):Int):=by rw [Zbp (by omega) (by omega)];rfl
  have hp:(1:Int)<=64 ^ r.length:=by
   have : (0:Int) < 64 ^ r.length:=Int.pow_pos (by omega)
   omega
  have hc2:c+1<=2 ^ 40:=by
   have : (c+1)*1<=(c+1)*64 ^ (r.length+1):=Int.mul_le_mul_of_nonneg_left (by rw [Int.pow_succ];omega) (by omega)
   omega
  have i0:(0:Int)<=(i:Int):=by omega
  have hlow:((b.toNat:Int) < 128)\/¬((b.toNat:Int) < 128):=by omega
  by_cases h4:(b.toNat:Int) < 128
  ·have e:ZbO n least (ZbW (b::r) c)=.tup [.int .i64 0,.int .i64 0]:=by simp only [ZbW];rw [if_pos (XK (by omega))];rfl
   rw [e]
   unfold ZfX
   rw [ZY]
   simp -implicitDefEqProofs only [EQA,Zn,Zi,Zm,Zk,Zj,Zl,Zz,ZG,ZC,Zy,ZE,ZF,ZA,ZB,ZD,implies_true,forall_const,Xh,Xi,Xl,Xe,Xf,Xj,Xk,Zv,Zx,unA,Zt,Zu,unG,reduceCtorEq,Zr,decide_eq_true_eq,Xd,Xb,ite_self,↓reduceIte,Zs,Zw,gcT,gcA,Zq,Zd,Zc,Ze,Zh,Zb,Zg,Zf,Zo,Xc,ZcG,Zch,ZcS,ZcF,Zcr,ZcU,Zcn,Zp,ZI,ZK,ZJ,ZH,ZL,h1,h3,h4,hs0,i0,Wk,ZaP]
  by_cases h5:(b.toNat:Int)>=192
  ·have e:ZbO n least (ZbW (b::r) c)=.tup [.int .i64 0,.int .i64 0]:=by simp only [ZbW];rw [if_pos (XO (by omega))];rfl
   rw [e]
   unfold ZfX
   rw [ZY]
   simp -implicitDefEqProofs only [EQA,Zn,Zi,Zm,Zk,Zj,Zl,Zz,ZG,ZC,Zy,ZE,ZF,ZA,ZB,ZD,implies_true,forall_const,Xh,Xi,Xl,Xe,Xf,Xj,Xk,Zv,Zx,unA,Zt,Zu,unG,reduceCtorEq,Zr,decide_eq_true_eq,Xd,Xb,ite_self,↓reduceIte,Zs,Zw,gcT,gcA,Zq,Zd,Zc,Ze,Zh,Zb,Zg,Zf,Zo,Xc,ZcG,Zch,ZcS,ZcF,Zcr,ZcU,Zcn,Zp,ZI,ZK,ZJ,ZH,ZL,h1,h3,h4,h5,hs0,i0,Wk,ZaP]
  have ih:=ZkK s least n hn r (i+1) (c*64+b.toNat - 128) (by omega) (by omega) (fun j hj=>by
   have:=hs (j+1) (by simp;omega)
   rw [show i+1+j=i+(j+1) by omega,this];simp) (by omega) (by
    have : (c*64+b.toNat - 128+1)*64 ^ r.length<=(c+1)*64*64 ^ r.length:=Int.mul_le_mul_of_nonneg_right (by omega) (by omega)
    rw [Int.pow_succ,Int.mul_comm (64 ^ r.length) 64,<-Int.mul_assoc] at hb
    omega) hns
  have w1:IntKind.i64.wrap (c*64)=c*64:=Zbp (by omega) (by omega)
  have w2:IntKind.i64.wrap (b.toNat:Int)=b.toNat:=Zbp (by omega) (by omega)
  have w3:IntKind.i64.wrap (c*64+b.toNat)=c*64+b.toNat:=Zbp (by omega) (by omega)
  have w4:IntKind.i64.wrap (c*64+b.toNat - 128)=c*64+b.toNat - 128:=Zbp (by omega) (by omega)
  unfold ZfX at ih ⊢
  rw [ZY]
  simp -implicitDefEqProofs only [EQA,Zn,Zi,Zm,Zk,Zj,Zl,Zz,ZG,ZC,Zy,ZE,ZF,ZA,ZB,ZD,implies_true,forall_const,Xh,Xi,Xl,Xe,Xf,Xj,Xk,Zv,Zx,unA,Zt,Zu,unG,reduceCtorEq,Zr,decide_eq_true_eq,Xd,Xb,ite_self,↓reduceIte,Zs,Zw,gcT,gcA,Zq,Zd,Zc,Ze,Zh,Zb,Zg,Zf,Zo,Xc,ZcG,Zch,ZcS,ZcF,Zcr,ZcU,Zcn,Zp,ZI,ZK,ZJ,ZH,ZL,h1,h3,h4,h5,hs0,i0,w1,w2,w3,w4,Wk,ZaP]
  rw [ih]
  simp only [ZbW]
  rw [if_neg (by omega)]
def Zd9 (l:List UInt8):Nat×Nat:=if (Lib.decodeL l).1=65533/\(Lib.decodeL l).2=1 then (0,0) else Lib.decodeL l
def Zcj (p:Nat×Nat):AVal:=.tup [.int .i64 p.1,.int .i64 p.2]
theorem Ziu (l:List UInt8):Zd9 l=if (Lib.decodeN l.length (l.getD 0 0).toNat (l.getD 1 0).toNat (l.getD 2 0).toNat (l.getD 3 0).toNat).1=65533/\(Lib.decodeN l.length (l.getD 0 0).toNat (l.getD 1 0).toNat (l.getD 2 0).toNat (l.getD 3 0).toNat).2=1 then (0,0) else Lib.decodeN l.length (l.getD 0 0).toNat (l.getD 1 0).toNat (l.getD 2 0).toNat (l.getD 3 0).toNat:=by
 unfold Zd9;rw [Lib.decodeL_N]
theorem ZmY {c n:Int} {p:Nat×Nat} (h1:c=p.1) (h2:n=p.2):(.tup [.int .i64 c,.int .i64 n]:AVal)=Zcj p:=by simp [Zcj,h1,h2]
theorem ZBe (b0 b1:UInt8) (t:List UInt8) (h:192<=b0.toNat/\b0.toNat < 224):ZbO 1 128 (ZbW [b1] (b0.toNat - 192))=Zcj (Zd9 (b0::b1::t)):=by
 rw [Ziu]
 simp only [Xr,Xm,Xn,ZbW]
 have hb1:=b1.toNat_lt
 generalize b0.toNat=x0 at *
 generalize b1.toNat=x1 at *
 generalize ((t.getD 0 0).toNat)=x2
 generalize ((t.getD 1 0).toNat)=x3
 have e1:¬x0 < 128:=by omega
 have e2:x0 / 32=6:=by omega
 have e3:1 < t.length+1+1:=by omega
 have e4:¬x0 / 16=14:=by omega
 have e5:¬x0 / 8=30:=by omega
 by_cases h1:x1 < 128\/192<=x1
 ·rw [if_pos h1]
  have e6:¬x1 / 64=2:=by omega
  simp [Lib.decodeN,e1,e2,e4,e5,e6,ZbO,Zcj]
 ·rw [if_neg h1]
  have e6:x1 / 64=2:=by omega
  simp only [Lib.decodeN,e1,e2,e3,e6,if_false,and_self,if_true]
  simp only [ZbO]
  by_cases h2:x0 % 32*64+x1 % 64>=128
  ·rw [if_neg (by omega),if_pos h2,if_neg (by simp)]
   exact ZmY (by simp only;omega) (by simp)
  ·rw [if_pos (by omega),if_neg h2,if_pos (by simp)]
   rfl
theorem ZDs (b0 b1 b2:UInt8) (t:List UInt8) (h:224<=b0.toNat/\b0.toNat < 240):ZbO 2 2048 (ZbW [b1,b2] (b0.toNat - 224))=Zcj (Zd9 (b0::b1::b2::t)):=by
 rw [Ziu]
 simp only [Xr,Xm,Xn,ZbW]
 have hb1:=b1.toNat_lt
 have hb2:=b2.toNat_lt
 generalize b0.toNat=x0 at *
 generalize b1.toNat=x1 at *
 generalize b2.toNat=x2 at *
 generalize ((t.getD 0 0).toNat)=x3
 have e1:¬x0 < 128:=by omega
 have e2:¬x0 / 32=6:=by omega
 have e3:1 < t.length+1+1+1:=by omega
 have e3':2 < t.length+1+1+1:=by omega
 have e4:x0 / 16=14:=by omega
 have e5:¬x0 / 8=30:=by omega
 by_cases h1:x1 < 128\/192<=x1
 ·rw [if_pos h1]
  have e6:¬x1 / 64=2:=by omega
  simp [Lib.decodeN,e1,e2,e4,e5,e6,ZbO,Zcj]
 ·rw [if_neg h1]
  have e6:x1 / 64=2:=by omega
  by_cases h2:x2 < 128\/192<=x2
  ·rw [if_pos h2]
   have e7:¬x2 / 64=2:=by omega
   simp [Lib.decodeN,e1,e2,e4,e5,e6,e7,ZbO,Zcj]
  ·rw [if_neg h2]
   have e7:x2 / 64=2:=by omega
   simp only [Lib.decodeN,e1,e2,e3,e3',e4,e6,e7,if_false,and_self,if_true,false_and]
   simp only [ZbO]
   by_cases h3:x0 % 16*4096+x1 % 64*64+x2 % 64>=2048/\(x0 % 16*4096+x1 % 64*64+x2 % 64 < 55296\/(57344<=x0 % 16*4096+x1 % 64*64+x2 % 64/\x0 % 16*4096+x1 % 64*64+x2 % 64<=1114111))
   ·rw [if_neg (by omega),if_pos h3,if_neg (by simp)]
    exact ZmY (by simp only;omega) (by simp)
   ·rw [if_pos (by omega),if_neg h3,if_pos (by simp)]
    rfl
theorem Zwz (b0 b1 b2 b3:UInt8) (t:List UInt8) (h:240<=b0.toNat/\b0.toNat < 248):ZbO 3 65536 (ZbW [b1,b2,b3] (b0.toNat - 240))=Zcj (Zd9 (b0::b1::b2::b3::t)):=by
 rw [Ziu]
 simp only [Xr,Xm,Xn,ZbW]
 have hb1:=b1.toNat_lt
 have hb2:=b2.toNat_lt
 have hb3:=b3.toNat_lt
 generalize b0.toNat=x0 at *
 generalize b1.toNat=x1 at *
 generalize b2.toNat=x2 at *
 generalize b3.toNat=x3 at *
 have e1:¬x0 < 128:=by omega
 have e2:¬x0 / 32=6:=by omega
 have e3:1 < t.length+1+1+1+1:=by omega
 have e3':2 < t.length+1+1+1+1:=by omega
 have e3'':3 < t.length+1+1+1+1:=by omega
 have e4:¬x0 / 16=14:=by omega
 have e5:x0 / 8=30:=by omega
 by_cases h1:x1 < 128\/192<=x1
 ·rw [if_pos h1]
  have e6:¬x1 / 64=2:=by omega
  simp [Lib.decodeN,e1,e2,e4,e5,e6,ZbO,Zcj]
 ·rw [if_neg h1]
  have e6:x1 / 64=2:=by omega
  by_cases h2:x2 < 128\/192<=x2
  ·rw [if_pos h2]
   have e7:¬x2 / 64=2:=by omega
   simp [Lib.decodeN,e1,e2,e4,e5,e6,e7,ZbO,Zcj]
  ·rw [if_neg h2]
   have e7:x2 / 64=2:=by omega
   by_cases h4:x3 < 128\/192<=x3
   ·rw [if_pos h4]
    have e8:¬x3 / 64=2:=by omega
    simp [Lib.decodeN,e1,e2,e4,e5,e6,e7,e8,ZbO,Zcj]
   ·rw [if_neg h4]
    have e8:x3 / 64=2:=by omega
    simp only [Lib.decodeN,e1,e2,e3,e3',e3'',e4,e5,e6,e7,e8,if_false,and_self,if_true,false_and]
    simp only [ZbO]
    by_cases h3:x0 % 8*262144+x1 % 64*4096+x2 % 64*64+x3 % 64>=65536/\(x0 % 8*262144+x1 % 64*4096+x2 % 64*64+x3 % 64 < 55296\/(57344<=x0 % 8*262144+x1 % 64*4096+x2 % 64*64+x3 % 64/\x0 % 8*262144+x1 % 64*4096+x2 % 64*64+x3 % 64<=1114111))
    ·rw [if_neg (by omega),if_pos h3,if_neg (by simp)]
     exact ZmY (by simp only;omega) (by simp)
    ·rw [if_pos (by omega),if_neg h3,if_pos (by simp)]
     rfl
theorem ZjL (b0:UInt8) (t:List UInt8) (h:(192<=b0.toNat/\b0.toNat < 224/\t.length < 1)\/(224<=b0.toNat/\b0.toNat < 240/\t.length < 2)\/(240<=b0.toNat/\b0.toNat < 248/\t.length < 3)\/(128<=b0.toNat/\b0.toNat < 192)\/248<=b0.toNat):Zd9 (b0::t)=(0,0):=by
 rw [Ziu,if_pos]
 simp only [Xr,Xm,Xn]
 have hb:=b0.toNat_lt
 generalize b0.toNat=x0 at *
 generalize ((t.getD 0 0).toNat)=x1
 generalize ((t.getD 1 0).toNat)=x2
 generalize ((t.getD 2 0).toNat)=x3
 generalize t.length=m at *
 unfold Lib.decodeN
 repeat' split
 all_goals first | exact ⟨rfl,rfl⟩ | (exfalso;omega) | (constructor <;> omega)
theorem ZJ4 (b0:UInt8) (t:List UInt8) (h:b0.toNat < 128):Zd9 (b0::t)=(b0.toNat,1):=by
 rw [Ziu]
 simp only [Xr,Xm,Lib.decodeN,h,if_true]
 rw [if_neg (by omega)]
theorem ZhB:Zcj (0,0)=.tup [.int .i64 0,.int .i64 0]:=rfl
theorem ZwI (n:Nat):Zcj (n,1)=.tup [.int .i64 n,.int .i64 1]:=rfl
theorem ZGl (b0:UInt8) (t:List UInt8):E 66 [.str (b0::t)] []=some (Zcj (Zd9 (b0::t)),[]):=by
 rw [ZaJ (by rfl) ZH9]
 have hb:=ZpM b0
 have w0:IntKind.i64.wrap (b0.toNat:Int)=b0.toNat:=Zbp (by omega) (by omega)
 by_cases h1:(b0.toNat:Int) < 128
 ·rw [ZJ4 b0 t (by omega),ZwI]
  simp -implicitDefEqProofs only [EQA,Zn,Zi,Zm,Zk,Zj,Zl,Zz,ZG,ZC,Zy,ZE,ZF,ZA,ZB,ZD,implies_true,forall_const,Xh,Xi,Xl,Xe,Xf,Xj,Xk,Zv,Zx,unA,Zt,Zu,unG,reduceCtorEq,Zr,decide_eq_true_eq,Xd,Xb,ite_self,↓reduceIte,Zs,Zw,gcT,gcA,Zq,Zd,Zc,Ze,Zh,Zb,Zg,Zf,Zo,Xc,ZcG,Zch,ZcS,ZcF,Zcr,ZcU,Zcn,Zp,ZI,ZK,ZJ,ZH,ZL,h1,w0,ZaP,WB,WQ]
 by_cases h2:(b0.toNat:Int)>=192
 ·by_cases h3:(b0.toNat:Int) < 224
  ·have w1:IntKind.i64.wrap ((b0.toNat:Int) - 192)=b0.toNat - 192:=Zbp (by omega) (by omega)
   by_cases h6:((t.length+1:Nat):Int)<=1
   ·rw [ZjL b0 t (XK ⟨by omega,by omega,by omega⟩),ZhB]
    simp -implicitDefEqProofs only [EQA,Zn,Zi,Zm,Zk,Zj,Zl,Zz,ZG,ZC,Zy,ZE,ZF,ZA,ZB,ZD,implies_true,forall_const,Xh,Xi,Xl,Xe,Xf,Xj,Xk,Zv,Zx,unA,Zt,Zu,unG,reduceCtorEq,Zr,decide_eq_true_eq,Xd,Xb,ite_self,↓reduceIte,Zs,Zw,gcT,gcA,Zq,Zd,Zc,Ze,Zh,Zb,Zg,Zf,Zo,Xc,ZcG,Zch,ZcS,ZcF,Zcr,ZcU,Zcn,Zp,ZI,ZK,ZJ,ZH,ZL,h1,h2,h3,w0,w1,h6,ZaP,WB,WQ]
   ·obtain ⟨b1,t,rfl⟩:∃ b1 t',t=b1::t':=by
     cases t with
     | nil=>simp at h6
     | cons b1 t=>exact ⟨b1,t,rfl⟩
    have key:=ZkK (b0::b1::t) 128 1 (by omega) [b1] 1 (b0.toNat - 192) (by omega) rfl (fun j hj=>by
     have : j=0:=by simpa using hj
     subst this;rfl) (by omega) (by simp only [Xr,Xt];omega) (by simp)
    rw [show (((1:Nat):Int))=1 from rfl,ZBe b0 b1 t (by omega)] at key
    unfold ZfX at key
    simp -implicitDefEqProofs only [EQA,Zn,Zi,Zm,Zk,Zj,Zl,Zz,ZG,ZC,Zy,ZE,ZF,ZA,ZB,ZD,implies_true,forall_const,Xh,Xi,Xl,Xe,Xf,Xj,Xk,Zv,Zx,unA,Zt,Zu,unG,reduceCtorEq,Zr,decide_eq_true_eq,Xd,Xb,ite_self,↓reduceIte,Zs,Zw,gcT,gcA,Zq,Zd,Zc,Ze,Zh,Zb,Zg,Zf,Zo,Xc,ZcG,Zch,ZcS,ZcF,Zcr,ZcU,Zcn,Zp,ZI,ZK,ZJ,ZH,ZL,h1,h2,h3,w0,w1,h6,ZaP,WB,WQ]
    exact key
  ·by_cases h4:(b0.toNat:Int) < 240
   ·have h3':(b0.toNat:Int)>=224:=by omega
    have w1:IntKind.i64.wrap ((b0.toNat:Int) - 224)=b0.toNat - 224:=Zbp (by omega) (by omega)
    by_cases h6:((t.length+1:Nat):Int)<=2
    ·rw [ZjL b0 t (XO (XK ⟨by omega,by omega,by omega⟩)),ZhB]
     simp -implicitDefEqProofs only [EQA,Zn,Zi,Zm,Zk,Zj,Zl,Zz,ZG,ZC,Zy,ZE,ZF,ZA,ZB,ZD,implies_true,forall_const,Xh,Xi,Xl,Xe,Xf,Xj,Xk,Zv,Zx,unA,Zt,Zu,unG,reduceCtorEq,Zr,decide_eq_true_eq,Xd,Xb,ite_self,↓reduceIte,Zs,Zw,gcT,gcA,Zq,Zd,Zc,Ze,Zh,Zb,Zg,Zf,Zo,Xc,ZcG,Zch,ZcS,ZcF,Zcr,ZcU,Zcn,Zp,ZI,ZK,ZJ,ZH,ZL,h1,h2,h3,h3',h4,w0,w1,h6,ZaP,WB,WQ]
    ·obtain ⟨b1,b2,t,rfl⟩:∃ b1 b2 t',t=b1::b2::t':=by
      match t,h6 with
      | [],h6=>simp at h6
      | [_],h6=>simp at h6
      | b1::b2::t,_=>exact ⟨b1,b2,t,rfl⟩
     have key:=ZkK (b0::b1::b2::t) 2048 2 (by omega) [b1,b2] 1 (b0.toNat - 224) (by omega) rfl (fun j hj=>by
      match j,hj with
      | 0,_=>rfl
      | 1,_=>rfl
      | j+2,hj=>simp at hj;omega) (by omega) (by simp only [Xr,Xt];omega) (by simp)
     rw [show (((2:Nat):Int))=2 from rfl,show (((1:Nat):Int))=1 from rfl,ZDs b0 b1 b2 t (by omega)] at key
     unfold ZfX at key
     simp -implicitDefEqProofs only [EQA,Zn,Zi,Zm,Zk,Zj,Zl,Zz,ZG,ZC,Zy,ZE,ZF,ZA,ZB,ZD,implies_true,forall_const,Xh,Xi,Xl,Xe,Xf,Xj,Xk,Zv,Zx,unA,Zt,Zu,unG,reduceCtorEq,Zr,decide_eq_true_eq,Xd,Xb,ite_self,↓reduceIte,Zs,Zw,gcT,gcA,Zq,Zd,Zc,Ze,Zh,Zb,Zg,Zf,Zo,Xc,ZcG,Zch,ZcS,ZcF,Zcr,ZcU,Zcn,Zp,ZI,ZK,ZJ,ZH,ZL,h1,h2,h3,h3',h4,w0,w1,h6,ZaP,WB,WQ]
     exact key
   ·by_cases h5:(b0.toNat:Int) < 248
    ·have h3':(b0.toNat:Int)>=224:=by omega
     have h4':(b0.toNat:Int)>=240:=by omega
     have w1:IntKind.i64.wrap ((b0.toNat:Int) - 240)=b0.toNat - 240:=Zbp (by omega) (by omega)
     by_cases h6:((t.length+1:Nat):Int)<=3
     ·rw [ZjL b0 t (XO (XO (XK ⟨by omega,by omega,by omega⟩))),ZhB]
      simp -implicitDefEqProofs only [EQA,Zn,Zi,Zm,Zk,Zj,Zl,Zz,ZG,ZC,Zy,ZE,ZF,ZA,ZB,ZD,implies_true,forall_const,Xh,Xi,Xl,Xe,Xf,Xj,Xk,Zv,Zx,unA,Zt,Zu,unG,reduceCtorEq,Zr,decide_eq_true_eq,Xd,Xb,ite_self,↓reduceIte,Zs,Zw,gcT,gcA,Zq,Zd,Zc,Ze,Zh,Zb,Zg,Zf,Zo,Xc,ZcG,Zch,ZcS,ZcF,Zcr,ZcU,Zcn,Zp,ZI,ZK,ZJ,ZH,ZL,h1,h2,h3,h3',h4,h4',h5,w0,w1,h6,ZaP,WB,WQ]
     ·obtain ⟨b1,b2,b3,t,rfl⟩:∃ b1 b2 b3 t',t=b1::b2::b3::t':=by
       match t,h6 with
       | [],h6=>simp at h6
       | [_],h6=>simp at h6
       | [_,_],h6=>simp at h6
       | b1::b2::b3::t,_=>exact ⟨b1,b2,b3,t,rfl⟩
      have key:=ZkK (b0::b1::b2::b3::t) 65536 3 (by omega) [b1,b2,b3] 1 (b0.toNat - 240) (by omega) rfl (fun j hj=>by
       match j,hj with
       | 0,_=>rfl
       | 1,_=>rfl
       | 2,_=>rfl
       | j+3,hj=>simp at hj;omega) (by omega) (by simp only [Xr,Xt];omega) (by simp)
      rw [show (((3:Nat):Int))=3 from rfl,show (((1:Nat):Int))=1 from rfl,Zwz b0 b1 b2 b3 t (by omega)] at key
      unfold ZfX at key
      simp -implicitDefEqProofs only [EQA,Zn,Zi,Zm,Zk,Zj,Zl,Zz,ZG,ZC,Zy,ZE,ZF,ZA,ZB,ZD,implies_true,forall_const,Xh,Xi,Xl,Xe,Xf,Xj,Xk,Zv,Zx,unA,Zt,Zu,unG,reduceCtorEq,Zr,decide_eq_true_eq,Xd,Xb,ite_self,↓reduceIte,Zs,Zw,gcT,gcA,Zq,Zd,Zc,Ze,Zh,Zb,Zg,Zf,Zo,Xc,ZcG,Zch,ZcS,ZcF,Zcr,ZcU,Zcn,Zp,ZI,ZK,ZJ,ZH,ZL,h1,h2,h3,h3',h4,h4',h5,w0,w1,h6,ZaP,WB,WQ]
      exact key
    ·have h3':(b0.toNat:Int)>=224:=by omega
     have h4':(b0.toNat:Int)>=240:=by omega
     rw [ZjL b0 t (XO (XO (XO (XO (by omega))))),ZhB]
     simp -implicitDefEqProofs only [EQA,Zn,Zi,Zm,Zk,Zj,Zl,Zz,ZG,ZC,Zy,ZE,ZF,ZA,ZB,ZD,implies_true,forall_const,Xh,Xi,Xl,Xe,Xf,Xj,Xk,Zv,Zx,unA,Zt,Zu,unG,reduceCtorEq,Zr,decide_eq_true_eq,Xd,Xb,ite_self,↓reduceIte,Zs,Zw,gcT,gcA,Zq,Zd,Zc,Ze,Zh,Zb,Zg,Zf,Zo,Xc,ZcG,Zch,ZcS,ZcF,Zcr,ZcU,Zcn,Zp,ZI,ZK,ZJ,ZH,ZL,h1,h2,h3,h3',h4,h4',h5,w0,ZaP,WB,WQ]
 ·have h3:¬(b0.toNat:Int)>=224:=by omega
  have h4:¬(b0.toNat:Int)>=240:=by omega
  rw [ZjL b0 t (XO (XO (XO (XK (by omega))))),ZhB]
  simp -implicitDefEqProofs only [EQA,Zn,Zi,Zm,Zk,Zj,Zl,Zz,ZG,ZC,Zy,ZE,ZF,ZA,ZB,ZD,implies_true,forall_const,Xh,Xi,Xl,Xe,Xf,Xj,Xk,Zv,Zx,unA,Zt,Zu,unG,reduceCtorEq,Zr,decide_eq_true_eq,Xd,Xb,ite_self,↓reduceIte,Zs,Zw,gcT,gcA,Zq,Zd,Zc,Ze,Zh,Zb,Zg,Zf,Zo,Xc,ZcG,Zch,ZcS,ZcF,Zcr,ZcU,Zcn,Zp,ZI,ZK,ZJ,ZH,ZL,h1,h2,h3,h4,w0,ZaP,WB,WQ]
theorem Zne (σ:Za) (sq own:Nat) (view:Bool) (b0:UInt8) (t:List UInt8):ZQ E BY σ sq 66 own view [.str (b0::t)]=some (Zcj (Zd9 (b0::t)),σ,{}) :=
 Za5 (ZGl b0 t) (by kernel_rfl) (by simp -implicitDefEqProofs only [Zam,Zao,Zn,Zi,Zm,Zaq,Zk,Zj,Zap,Zl,eq_self,implies_true,Xq,Zp,ZI,ZK,ZJ,ZH,Zcj]) (by simp -implicitDefEqProofs only [Zam,Zao,Zn,Zi,Zm,Zaq,Zk,Zj,Zap,Zl,eq_self,implies_true,Xq,Zp,ZI,ZK,ZJ,ZH,Zcj]) rfl (fun _=>rfl) _ _ _ _
theorem Zty:∀ (n:Nat) (l:List UInt8),l.length<=n->l.length<=9223372036854775807->ZiW 0 [(0,.str l)] []=some (.bool (zfG n l && Lib.validGoD n l),[])
 | n,[],_,_=>by
  have e:(zfG n [] && Lib.validGoD n [])=true:=by cases n <;> rfl
  rw [e]
  unfold ZiW
  rw [ZY]
  simp -implicitDefEqProofs only [EQA,Zn,Zi,Zm,Zk,Zj,Zl,Zz,ZG,ZC,Zy,ZE,ZF,ZA,ZB,ZD,implies_true,forall_const,Xh,Xi,Xl,Xe,Xf,Xj,Xk,Zv,Zx,unA,Zt,Zu,unG,reduceCtorEq,Zr,decide_eq_true_eq,Xd,Xb,ite_self,↓reduceIte,Zs,Zw,gcT,gcA,Zq,Zd,Zc,Ze,Zh,Zb,Zg,Zf,Zo,Xc,ZiV,ZgL,Zjh,ZjT,Zg1,ZjF,Zgw,Zp,ZI,ZK,ZJ,ZH,ZL,Zp]
 | 0,b0::t,h,_=>by simp at h
 | n+1,b0::t,h,hl=>by
  have hw:=Lib.decodeL_width (b0::t)
  have hle:=Lib.decodeL_le (b0::t) (by simp)
  have e0:((b0::t) == ([]:List UInt8))=false:=by simp
  have hne:(b0::t)≠([]:List UInt8):=by simp
  unfold ZiW
  rw [ZY]
  by_cases hb:(Lib.decodeL (b0::t)).1=65533/\(Lib.decodeL (b0::t)).2=1
  ·have hc:Zd9 (b0::t)=(0,0):=if_pos hb
   have e:(zfG (n+1) (b0::t) && Lib.validGoD (n+1) (b0::t))=false:=by
    simp only [Lib.validGoD]
    rw [if_neg hne,if_pos hb,Bool.and_false]
   rw [e]
   simp -implicitDefEqProofs only [EQA,Zn,Zi,Zm,Zk,Zj,Zl,Zz,ZG,ZC,Zy,ZE,ZF,ZA,ZB,ZD,implies_true,forall_const,Xh,Xi,Xl,Xe,Xf,Xj,Xk,Zv,Zx,unA,Zt,Zu,unG,reduceCtorEq,Zr,decide_eq_true_eq,Xd,Xb,ite_self,↓reduceIte,Zs,Zw,gcT,gcA,Zq,Zd,Zc,Ze,Zh,Zb,Zg,Zf,Zo,Xc,ZiV,ZgL,Zjh,ZjT,Zg1,ZjF,Zgw,Zp,ZI,ZK,ZJ,ZH,ZL,e0,Zne,hc,ZhB]
  ·have hc:Zd9 (b0::t)=Lib.decodeL (b0::t):=if_neg hb
   have n1:(((Lib.decodeL (b0::t)).2:Int) == 0)=false:=by rw [beq_eq_false_iff_ne];omega
   by_cases hz:(Lib.decodeL (b0::t)).1=0
   ·have z1:(((Lib.decodeL (b0::t)).1:Int) == 0)=true:=by rw [beq_iff_eq];omega
    have e:(zfG (n+1) (b0::t) && Lib.validGoD (n+1) (b0::t))=false:=by
     rw [zfG,if_neg hne,if_pos hz,Xap]
    rw [e]
    simp -implicitDefEqProofs only [EQA,Zn,Zi,Zm,Zk,Zj,Zl,Zz,ZG,ZC,Zy,ZE,ZF,ZA,ZB,ZD,implies_true,forall_const,Xh,Xi,Xl,Xe,Xf,Xj,Xk,Zv,Zx,unA,Zt,Zu,unG,reduceCtorEq,Zr,decide_eq_true_eq,Xd,Xb,ite_self,↓reduceIte,Zs,Zw,gcT,gcA,Zq,Zd,Zc,Ze,Zh,Zb,Zg,Zf,Zo,Xc,ZiV,ZgL,Zjh,ZjT,Zg1,ZjF,Zgw,Zp,ZI,ZK,ZJ,ZH,ZL,e0,Zne,hc,Zcj,n1,z1]
   ·have z1:(((Lib.decodeL (b0::t)).1:Int) == 0)=false:=by rw [beq_eq_false_iff_ne];omega
    have e:(zfG (n+1) (b0::t) && Lib.validGoD (n+1) (b0::t))=(zfG n ((b0::t).drop (Lib.decodeL (b0::t)).2) && Lib.validGoD n ((b0::t).drop (Lib.decodeL (b0::t)).2)):=by
     rw [zfG,if_neg hne,if_neg hz,Lib.validGoD,if_neg hne,if_neg hb]
    have ih:=Zty n ((b0::t).drop (Lib.decodeL (b0::t)).2) (by simp only [WJ] at *;omega) (by simp only [WJ];omega)
    rw [e]
    unfold ZiW at ih
    have l0:(0:Int)<=((Lib.decodeL (b0::t)).2:Int):=by omega
    have l1:((Lib.decodeL (b0::t)).2:Int)<=((t.length+1:Nat):Int):=by simp only [Xr] at hle;omega
    have l2:(b0::t).take (t.length+1)=b0::t:=List.take_of_length_le (by simp)
    simp -implicitDefEqProofs only [EQA,Zn,Zi,Zm,Zk,Zj,Zl,Zz,ZG,ZC,Zy,ZE,ZF,ZA,ZB,ZD,implies_true,forall_const,Xh,Xi,Xl,Xe,Xf,Xj,Xk,Zv,Zx,unA,Zt,Zu,unG,reduceCtorEq,Zr,decide_eq_true_eq,Xd,Xb,ite_self,↓reduceIte,Zs,Zw,gcT,gcA,Zq,Zd,Zc,Ze,Zh,Zb,Zg,Zf,Zo,Xc,ZiV,ZgL,Zjh,ZjT,Zg1,ZjF,Zgw,Zp,ZI,ZK,ZJ,ZH,ZL,e0,Zne,hc,Zcj,n1,z1,ZaQ,Zbv,l0,l1,l2,Wk]
    exact ih
theorem ZJ7 (l:List UInt8) (hl:l.length<=9223372036854775807):E 55 [.str l] []=some (.bool (Zim l),[]):=by
 rw [ZaJ (by rfl) ZBz]
 have:=Zty l.length l (X5 _) hl
 unfold ZiW at this
 simp -implicitDefEqProofs only [EQA,Zn,Zi,Zm,Zk,Zj,Zl,Zz,ZG,ZC,Zy,ZE,ZF,ZA,ZB,ZD,implies_true,forall_const,Xh,Xi,Xl,Xe,Xf,Xj,Xk,Zv,Zx,unA,Zt,Zu,unG,reduceCtorEq,Zr,decide_eq_true_eq,Xd,Xb,ite_self,↓reduceIte,Zs,Zw,gcT,gcA,Zq,Zd,Zc,Ze,Zh,Zb,Zg,Zf,Zo,Xc,ZiV,ZgL,Zjh,ZjT,Zg1,ZjF,Zgw,Zp,ZI,ZK,ZJ,ZH,ZL,Zp]
 rw [this];rfl
theorem Zzh (σ:Za) (sq own:Nat) (view:Bool) (l:List UInt8) (hl:l.length<=9223372036854775807):ZQ E BY σ sq 55 own view [.str l]=some (.bool (Zim l),σ,{}) :=
 Za5 (ZJ7 l hl) (by kernel_rfl) (by simp -implicitDefEqProofs only [Zam,Zao,Zn,Zi,Zm,Zaq,Zk,Zj,Zap,Zl,eq_self,implies_true,Xq,Zp,ZI,ZK,ZJ,ZH,Zp]) (by simp -implicitDefEqProofs only [Zam,Zao,Zn,Zi,Zm,Zaq,Zk,Zj,Zap,Zl,eq_self,implies_true,Xq,Zp,ZI,ZK,ZJ,ZH,Zp]) rfl (fun _=>rfl) _ _ _ _
end
section
def ZcJ:ZM:=(.seq (.seq (.region [oM 52 14,oI 53 (.len (.t 52)),oI 54 (.bin .gtr (.t 53) (.c (.int .i64 0)))] none [54,14,13,2]) (.cond (.t 54) (.region [oM 55 14,oM 13 55] none [13,2]) .skip)) (.seq (.seq (.region [oM 56 13,oI 57 (.len (.t 56)),oI 58 (.bin .eql (.t 57) (.c (.int .i64 0)))] none [58,13,2]) (.cond (.t 58) (.seq (.region [oI 10 (.mov (.c (.str []))),oI 11 (.mov (.c (.bool false)))] none [11,10]) .ret) .skip)) (.seq (.region [oM 59 2,oM 60 13,oI 61 (.len (.t 60)),oI 62 (.bin .rem (.t 59) (.t 61)),oM 16 62] none [16,13]) (.seq (.seq (.region [oM 63 16,oI 64 (.bin .lss (.t 63) (.c (.int .i64 0)))] none [64,16,13]) (.cond (.t 64) (.region [oM 65 16,oM 66 13,oI 67 (.len (.t 66)),oI 68 (.bin .add (.t 65) (.t 67)),oM 16 68] none [16,13]) .skip)) (.seq (.region [oM 69 13,oM 70 16,oI 71 (.iaddr 1 (.t 69) (.t 70)),oL 72 71,oM 10 72,oI 11 (.mov (.c (.bool true)))] none [11,10]) .ret)))))
def ZmZ:ZM:=ZcJ
def Zdb:=xw ZmZ ZcJ rfl
def ZcI:ZM:=(.seq (.seq (.region [oM 20 15,oM 21 12,oI 22 (.len (.t 21)),oI 23 (.bin .lss (.t 20) (.t 22))] none [23,15,14,13,12,4,3,2]) (.cond (.t 23) .skip (.exit 0))) (.seq (.block 1 (.seq (.seq (.region [oM 26 4,oM 27 12,oM 28 15,oI 29 (.iaddr 1 (.t 27) (.t 28)),oL 30 29,oI 31 (.call 36 0 true [(.t 26),(.t 30)])] none [31,15,14,13,12,4,3,2]) (.cond (.t 31) (.exit 1) .skip)) (.seq (.region [oM 32 13,oM 33 12,oM 34 15,oI 35 (.iaddr 1 (.t 33) (.t 34)),oL 36 35,oI 37 (.bslice false 1 1 (.str []) [(0,(.t 36))]),oI 38 (.app 1 16 (.str []) (.t 32) (.t 37)),oM 13 38] none [15,14,13,12,4,3,2]) (.seq (.region [oM 39 3,oM 40 12,oM 41 15,oI 42 (.iaddr 1 (.t 40) (.t 41)),oL 43 42,oI 44 (.call 36 0 true [(.t 39),(.t 43)])] none [44,15,14,13,12,4,3,2]) (.cond (.t 44) (.region [oM 45 14,oM 46 12,oM 47 15,oI 48 (.iaddr 1 (.t 46) (.t 47)),oL 49 48,oI 50 (.bslice false 1 1 (.str []) [(0,(.t 49))]),oI 51 (.app 1 16 (.str []) (.t 45) (.t 50)),oM 14 51] none [15,14,13,12,4,3,2]) .skip))))) (.region [oM 24 15,oI 25 (.bin .add (.t 24) (.c (.int .i64 1))),oM 15 25] none [15,14,13,12,4,3,2])))
def Zpx:ZM:=ZcI
def Zde:=xw Zpx ZcI rfl
def ZcM:ZM:=(.seq (.region [oI 10 (.mov (.c (.str []))),oI 11 (.mov (.c (.bool false)))] none [4,3,2,1,0]) (.seq (.region [oM 17 0,oM 18 1,oI 19 (.call 15 0 true [(.t 17),(.t 18)]),oM 12 19] none [12,4,3,2]) (.seq (.region [oI 13 (.mov (.c (.lst true []))),oI 14 (.mov (.c (.lst true [])))] none [14,13,12,4,3,2]) (.seq (.seq (.region [oI 15 (.mov (.c (.int .i64 0)))] none [15,14,13,12,4,3,2]) (.block 0 (.loop [15,14,13,12,4,3,2] Zpx))) ZmZ))))
def ZkF:Zaj:=⟨[(.tmp 10),(.tmp 11)],ZcM⟩
theorem ZDe:FC 19=some ZkF:=by kernel_rfl
theorem Zc7:ZkF.body=ZcM:=rfl
theorem Zc6:ZkF.res=[(.tmp 10),(.tmp 11)]:=rfl
noncomputable def Zcx (m:Nat) (tm:Tms) (σ:Za):Option (AVal×Za):=(ZaL m ZkF (Zbi FC PR BY m ZmZ (Wt (Za6 0) (evL FC PR BY m [15,14,13,12,4,3,2] Zpx tm σ))))
def Zd7:ZM:=(.seq (.region [oM 50 5,oM 4 50] none [4]) .ret)
def Zo3:ZM:=Zd7
def Zft:=xw Zo3 Zd7 rfl
def Zd2:ZM:=(.seq (.seq (.region [oM 37 7,oM 38 5,oI 39 (.len (.t 38)),oI 40 (.bin .lss (.t 37) (.t 39))] none [40,7,5,1,0]) (.cond (.t 40) .skip (.exit 2))) (.seq (.block 3 (.region [oM 43 0,oM 44 5,oM 45 7,oI 46 (.iaddr 1 (.t 44) (.t 45)),oL 47 46,oM 48 1,oI 49 (.call 10 1 true [(.t 43),(.t 47),(.t 48)])] none [7,5,1,0])) (.region [oM 41 7,oI 42 (.bin .add (.t 41) (.c (.int .i64 1))),oM 7 42] none [7,5,1,0])))
def ZqK:ZM:=Zd2
def Zfh:=xw ZqK Zd2 rfl
def Zd3:ZM:=(.seq (.seq (.region [oI 7 (.mov (.c (.int .i64 0)))] none [7,5,1,0]) (.block 2 (.loop [7,5,1,0] ZqK))) Zo3)
def Ztx:ZM:=Zd3
def Ze0:=xw Ztx Zd3 rfl
def Zd8:ZM:=(.seq (.seq (.region [oM 8 6,oM 9 0,oI 10 (.nilchk (.t 9)),oF 11 0 10,oL 12 11,oI 13 (.len (.t 12)),oI 14 (.bin .lss (.t 8) (.t 13))] none [14,6,5,1,0]) (.cond (.t 14) .skip (.exit 0))) (.seq (.block 1 (.seq (.region [oM 17 0,oI 18 (.nilchk (.t 17)),oF 19 0 18,oL 20 19,oM 21 6,oI 22 (.iaddr 2 (.t 20) (.t 21)),oF 23 1 22,oL 24 23,oM 25 1,oI 26 (.bin .eql (.t 24) (.t 25))] none [26,6,5,1,0]) (.cond (.t 26) (.region [oM 27 5,oM 28 0,oI 29 (.nilchk (.t 28)),oF 30 0 29,oL 31 30,oM 32 6,oI 33 (.iaddr 2 (.t 31) (.t 32)),oF 34 0 33,oL 35 34,oI 36 (.call 30 0 true [(.t 27),(.t 35)]),oM 5 36] none [6,5,1,0]) .skip))) (.region [oM 15 6,oI 16 (.bin .add (.t 15) (.c (.int .i64 1))),oM 6 16] none [6,5,1,0])))
def ZpY:ZM:=Zd8
def Zfs:=xw ZpY Zd8 rfl
def Zd5:ZM:=(.seq (.region [oI 4 (.mov (.c (.lst true [])))] none [1,0]) (.seq (.region [oI 5 (.mov (.c (.lst true [])))] none [5,1,0]) (.seq (.seq (.region [oI 6 (.mov (.c (.int .i64 0)))] none [6,5,1,0]) (.block 0 (.loop [6,5,1,0] ZpY))) Ztx)))
def ZlJ:Zaj:=⟨[(.tmp 4)],Zd5⟩
theorem ZKl:FC 13=some ZlJ:=by kernel_rfl
theorem Ze4:ZlJ.body=Zd5:=rfl
theorem Zfg:ZlJ.res=[(.tmp 4)]:=rfl
noncomputable def ZfE (m:Nat) (tm:Tms) (σ:Za):Option (AVal×Za):=(ZaL m ZlJ (Zbi FC PR BY m Zo3 (Wt (Za6 2) (evL FC PR BY m [7,5,1,0] ZqK tm σ))))
def ZiX:ZM:=(.seq (.region [oM 10 1,oI 11 (.call 23 0 true [(.t 10)]),oM 9 11,oI 12 (.ext (.t 9) 0),oI 13 (.ext (.t 9) 1),oI 14 (.ext (.t 9) 2),oM 6 12,oM 7 13,oM 8 14] none [8,2,1,0]) (.seq (.region [oM 15 8,oM 16 15,⟨(some 17),(.mov (.t 0)),(some (16,true)),[]⟩,⟨(some 18),(.mov (.t 1)),(some (16,true)),[]⟩,⟨(some 19),(.mov (.t 2)),(some (16,true)),[]⟩,⟨(some 20),(.call 24 0 true [(.t 17),(.t 18),(.t 19)]),(some (16,true)),[]⟩,⟨(some 21),(.bin .lss (.t 20) (.c (.int .i64 0))),(some (16,true)),[]⟩,oI 22 (.pick (.t 16) (.t 21) (.c (.bool false)))] none [22,2,1,0]) (.cond (.t 22) (.region [oM 23 0,oM 24 0,oI 25 (.nilchk (.t 24)),oF 26 0 25,oL 27 26,oM 28 1,oM 29 2,oI 30 (.build [(.str []),(.str [])] [(0,1,(.t 28)),(1,1,(.t 29))]),oI 31 (.bslice false 2 1 (.agg [(.str []),(.str [])]) [(0,(.t 30))]),oI 32 (.app 2 32 (.agg [(.str []),(.str [])]) (.t 27) (.t 31)),oI 33 (.nilchk (.t 23)),oF 34 0 33,oN (.st 1 (.t 34) (.t 32))] none []) .skip)))
def Znf:Zaj:=⟨[],ZiX⟩
theorem Zpj:FC 8=some Znf:=by kernel_rfl
theorem ZnT:Znf.body=ZiX:=rfl
theorem Zn6:Znf.res=[]:=rfl
def Zl2:ZM:=(.seq (.region [oI 6 (.mov (.c (.bool false)))] none [2,1,0]) (.seq (.region [oM 9 0,oM 10 1,oM 11 2,oI 12 (.call 24 0 true [(.t 9),(.t 10),(.t 11)]),oM 7 12] none [7,0]) (.seq (.seq (.region [oM 13 7,oI 14 (.bin .lss (.t 13) (.c (.int .i64 0)))] none [14,7,0]) (.cond (.t 14) (.seq (.region [oI 6 (.mov (.c (.bool false)))] none [6]) .ret) .skip)) (.seq (.region [oI 8 (.mov (.c (.lst true [])))] none [8,7,0]) (.seq (.region [oM 15 0,oM 16 8,oM 17 0,oI 18 (.nilchk (.t 17)),oF 19 0 18,oL 20 19,oM 21 7,oI 22 (.slice 2 (.t 20) none (some (.t 21)) none),oI 23 (.app 2 32 (.agg [(.str []),(.str [])]) (.t 16) (.t 22)),oM 24 0,oI 25 (.nilchk (.t 24)),oF 26 0 25,oL 27 26,oM 28 7,oI 29 (.bin .add (.t 28) (.c (.int .i64 1))),oI 30 (.slice 2 (.t 27) (some (.t 29)) none none),oI 31 (.app 2 32 (.agg [(.str []),(.str [])]) (.t 23) (.t 30)),oI 32 (.nilchk (.t 15)),oF 33 0 32,oN (.st 1 (.t 33) (.t 31))] (some [(5,12),(7,12),(8,12),(5,15),(7,15),(8,15)]) []) (.seq (.region [oI 6 (.mov (.c (.bool true)))] none [6]) .ret))))))
def Zqm:Zaj:=⟨[(.tmp 6)],Zl2⟩
theorem Zrt:FC 10=some Zqm:=by kernel_rfl
theorem ZtI:Zqm.body=Zl2:=rfl
theorem Zun:Zqm.res=[(.tmp 6)]:=rfl
def Zfc:ZM:=(.seq (.region [oM 38 6,oM 4 38] none [4]) .ret)
def ZpF:ZM:=Zfc
def ZgW:=xw ZpF Zfc rfl
def Ze1:ZM:=(.seq (.seq (.region [oM 13 7,oM 14 5,oI 15 (.len (.t 14)),oI 16 (.bin .lss (.t 13) (.t 15))] none [16,7,6,5,1]) (.cond (.t 16) .skip (.exit 0))) (.seq (.block 1 (.seq (.region [oM 20 5,oM 21 7,oI 22 (.iaddr 1 (.t 20) (.t 21)),oL 23 22,oI 24 (.call 23 0 true [(.t 23)]),oM 19 24,oI 25 (.ext (.t 19) 0),oI 26 (.ext (.t 19) 1),oI 27 (.ext (.t 19) 2),oM 8 25,oM 9 26,oM 10 27] none [9,7,6,5,1]) (.seq (.region [oM 28 9,oM 29 1,oI 30 (.call 33 0 true [(.t 28),(.t 29)])] none [30,7,6,5,1]) (.cond (.t 30) (.region [oM 31 6,oM 32 5,oM 33 7,oI 34 (.iaddr 1 (.t 32) (.t 33)),oL 35 34,oI 36 (.bslice false 1 1 (.str []) [(0,(.t 35))]),oI 37 (.app 1 16 (.str []) (.t 31) (.t 36)),oM 6 37] none [7,6,5,1]) .skip)))) (.region [oM 17 7,oI 18 (.bin .add (.t 17) (.c (.int .i64 1))),oM 7 18] none [7,6,5,1])))
def Zqt:ZM:=Ze1
def ZgE:=xw Zqt Ze1 rfl
def Zfe:ZM:=(.seq (.region [oI 4 (.mov (.c (.lst true [])))] none [1,0]) (.seq (.region [oM 11 0,oI 12 (.call 20 0 true [(.t 11)]),oM 5 12] none [5,1]) (.seq (.region [oI 6 (.mov (.c (.lst true [])))] none [6,5,1]) (.seq (.seq (.region [oI 7 (.mov (.c (.int .i64 0)))] none [7,6,5,1]) (.block 0 (.loop [7,6,5,1] Zqt))) ZpF))))
def ZlF:Zaj:=⟨[(.tmp 4)],Zfe⟩
theorem ZBM:FC 17=some ZlF:=by kernel_rfl
theorem ZgC:ZlF.body=Zfe:=rfl
theorem ZgX:ZlF.res=[(.tmp 4)]:=rfl
noncomputable def ZeU (m:Nat) (tm:Tms) (σ:Za):Option (AVal×Za):=(ZaL m ZlF (Zbi FC PR BY m ZpF (Wt (Za6 0) (evL FC PR BY m [7,6,5,1] Zqt tm σ))))
def Zfm:ZM:=(.seq (.region [oM 37 5,oM 4 37] none [4]) .ret)
def ZpB:ZM:=Zfm
def Zgt:=xw ZpB Zfm rfl
def Zfv:ZM:=(.seq (.seq (.region [oM 7 6,oM 8 0,oI 9 (.nilchk (.t 8)),oF 10 0 9,oL 11 10,oI 12 (.len (.t 11)),oI 13 (.bin .lss (.t 7) (.t 12))] none [13,6,5,1,0]) (.cond (.t 13) .skip (.exit 0))) (.seq (.block 1 (.seq (.region [oM 16 0,oI 17 (.nilchk (.t 16)),oF 18 0 17,oL 19 18,oM 20 6,oI 21 (.iaddr 2 (.t 19) (.t 20)),oF 22 0 21,oL 23 22,oM 24 1,oI 25 (.bin .eql (.t 23) (.t 24))] none [25,6,5,1,0]) (.cond (.t 25) (.region [oM 26 5,oM 27 0,oI 28 (.nilchk (.t 27)),oF 29 0 28,oL 30 29,oM 31 6,oI 32 (.iaddr 2 (.t 30) (.t 31)),oF 33 1 32,oL 34 33,oI 35 (.bslice false 1 1 (.str []) [(0,(.t 34))]),oI 36 (.app 1 16 (.str []) (.t 26) (.t 35)),oM 5 36] none [6,5,1,0]) .skip))) (.region [oM 14 6,oI 15 (.bin .add (.t 14) (.c (.int .i64 1))),oM 6 15] none [6,5,1,0])))
def Zoe:ZM:=Zfv
def Zg8:=xw Zoe Zfv rfl
def Ze6:ZM:=(.seq (.region [oI 4 (.mov (.c (.lst true [])))] none [1,0]) (.seq (.region [oI 5 (.mov (.c (.lst true [])))] none [5,1,0]) (.seq (.seq (.region [oI 6 (.mov (.c (.int .i64 0)))] none [6,5,1,0]) (.block 0 (.loop [6,5,1,0] Zoe))) ZpB)))
def ZmH:Zaj:=⟨[(.tmp 4)],Ze6⟩
theorem ZEV:FC 15=some ZmH:=by kernel_rfl
theorem Zg9:ZmH.body=Ze6:=rfl
theorem Zhb:ZmH.res=[(.tmp 4)]:=rfl
noncomputable def ZeO (m:Nat) (tm:Tms) (σ:Za):Option (AVal×Za):=(ZaL m ZmH (Zbi FC PR BY m ZpB (Wt (Za6 0) (evL FC PR BY m [6,5,1,0] Zoe tm σ))))
def ZiS:ZM:=(.seq (.region [oM 24 3,oM 2 24] none [2]) .ret)
def ZpK:ZM:=ZiS
def Zo4:=xw ZpK ZiS rfl
def ZiN:ZM:=(.seq (.seq (.region [oM 5 4,oM 6 0,oI 7 (.nilchk (.t 6)),oF 8 0 7,oL 9 8,oI 10 (.len (.t 9)),oI 11 (.bin .lss (.t 5) (.t 10))] none [11,4,3,0]) (.cond (.t 11) .skip (.exit 0))) (.seq (.block 1 (.region [oM 14 3,oM 15 0,oI 16 (.nilchk (.t 15)),oF 17 0 16,oL 18 17,oM 19 4,oI 20 (.iaddr 2 (.t 18) (.t 19)),oF 21 0 20,oL 22 21,oI 23 (.call 30 0 true [(.t 14),(.t 22)]),oM 3 23] none [4,3,0])) (.region [oM 12 4,oI 13 (.bin .add (.t 12) (.c (.int .i64 1))),oM 4 13] none [4,3,0])))
def Zp8:ZM:=ZiN
def Zqj:=xw Zp8 ZiN rfl
def ZjV:ZM:=(.seq (.region [oI 2 (.mov (.c (.lst true [])))] none [0]) (.seq (.region [oI 3 (.mov (.c (.lst true [])))] none [3,0]) (.seq (.seq (.region [oI 4 (.mov (.c (.int .i64 0)))] none [4,3,0]) (.block 0 (.loop [4,3,0] Zp8))) ZpK)))
def Zmz:Zaj:=⟨[(.tmp 2)],ZjV⟩
theorem ZKP:FC 20=some Zmz:=by kernel_rfl
theorem ZoM:Zmz.body=ZjV:=rfl
theorem Zog:Zmz.res=[(.tmp 2)]:=rfl
noncomputable def Zkf (m:Nat) (tm:Tms) (σ:Za):Option (AVal×Za):=(ZaL m Zmz (Zbi FC PR BY m ZpK (Wt (Za6 0) (evL FC PR BY m [4,3,0] Zp8 tm σ))))
def ZgT:ZM:=(.seq (.region [oI 6 (.mov (.c (.int .i64 (-1))))] none [6]) .ret)
def Zqo:ZM:=ZgT
def Ziz:=xw Zqo ZgT rfl
def Zgs:ZM:=(.seq (.seq (.region [oM 8 7,oM 9 0,oI 10 (.nilchk (.t 9)),oF 11 0 10,oL 12 11,oI 13 (.len (.t 12)),oI 14 (.bin .lss (.t 8) (.t 13))] none [14,7,2,1,0]) (.cond (.t 14) .skip (.exit 0))) (.seq (.block 1 (.seq (.region [oM 17 0,oI 18 (.nilchk (.t 17)),oF 19 0 18,oL 20 19,oM 21 7,oI 22 (.iaddr 2 (.t 20) (.t 21)),oF 23 0 22,oL 24 23,oM 25 1,oI 26 (.bin .eql (.t 24) (.t 25)),oM 27 26,⟨(some 28),(.mov (.t 0)),(some (27,true)),[]⟩,⟨(some 29),(.nilchk (.t 28)),(some (27,true)),[]⟩,⟨(some 30),(.faddr 0 (.t 29)),(some (27,true)),[]⟩,⟨(some 31),(.ld none (.t 30)),(some (27,true)),[]⟩,⟨(some 32),(.mov (.t 7)),(some (27,true)),[]⟩,⟨(some 33),(.iaddr 2 (.t 31) (.t 32)),(some (27,true)),[]⟩,⟨(some 34),(.faddr 1 (.t 33)),(some (27,true)),[]⟩,⟨(some 35),(.ld none (.t 34)),(some (27,true)),[]⟩,⟨(some 36),(.mov (.t 2)),(some (27,true)),[]⟩,⟨(some 37),(.bin .eql (.t 35) (.t 36)),(some (27,true)),[]⟩,oI 38 (.pick (.t 27) (.t 37) (.c (.bool false)))] none [38,7,2,1,0]) (.cond (.t 38) (.seq (.region [oM 39 7,oM 6 39] none [6]) .ret) .skip))) (.region [oM 15 7,oI 16 (.bin .add (.t 15) (.c (.int .i64 1))),oM 7 16] none [7,2,1,0])))
def ZoG:ZM:=Zgs
def ZjR:=xw ZoG Zgs rfl
def ZgI:ZM:=(.seq (.region [oI 6 (.mov (.c (.int .i64 0)))] none [2,1,0]) (.seq (.seq (.region [oI 7 (.mov (.c (.int .i64 0)))] none [7,2,1,0]) (.block 0 (.loop [7,2,1,0] ZoG))) Zqo))
def Zk8:Zaj:=⟨[(.tmp 6)],ZgI⟩
theorem ZAg:FC 24=some Zk8:=by kernel_rfl
theorem Ziy:Zk8.body=ZgI:=rfl
theorem ZiM:Zk8.res=[(.tmp 6)]:=rfl
noncomputable def ZkI (m:Nat) (tm:Tms) (σ:Za):Option (AVal×Za):=(ZaL m Zk8 (Zbi FC PR BY m Zqo (Wt (Za6 0) (evL FC PR BY m [7,2,1,0] ZoG tm σ))))
def ZbH:ZM:=(.seq (.region [oI 2 (.mov (.c (.bool true)))] none [2]) .ret)
def Zli:ZM:=ZbH
def Zb5:=xw Zli ZbH rfl
def ZbP:ZM:=(.seq (.seq (.region [oM 140 12,oM 141 11,oI 142 (.len (.t 141)),oI 143 (.bin .lss (.t 140) (.t 142))] none [143,12,11,4,3]) (.cond (.t 143) .skip (.exit 3))) (.seq (.block 4 (.seq (.region [oM 146 3,oM 147 11,oM 148 12,oI 149 (.iaddr 1 (.t 147) (.t 148)),oL 150 149,oI 151 (.call 14 0 true [(.t 146),(.t 150)]),oM 152 4,oM 153 11,oM 154 12,oI 155 (.iaddr 1 (.t 153) (.t 154)),oL 156 155,oI 157 (.call 15 0 true [(.t 152),(.t 156)]),oI 158 (.call 11 0 true [(.t 151),(.t 157)]),oI 159 (.un .not (.t 158))] (some [(3,9),(4,9),(5,9),(3,10),(4,10),(5,10),(11,11),(12,12)]) [159,12,11,4,3]) (.cond (.t 159) (.seq (.region [oI 2 (.mov (.c (.bool false)))] none [2]) .ret) .skip))) (.region [oM 144 12,oI 145 (.bin .add (.t 144) (.c (.int .i64 1))),oM 12 145] none [12,11,4,3])))
def Zmg:ZM:=ZbP
def Zb2:=xw Zmg ZbP rfl
def ZbJ:ZM:=(.seq (.region [oM 138 4,oI 139 (.call 20 0 true [(.t 138)]),oM 11 139] none [11,4,3]) (.seq (.seq (.region [oI 12 (.mov (.c (.int .i64 0)))] none [12,11,4,3]) (.block 3 (.loop [12,11,4,3] Zmg))) Zli))
def ZjP:ZM:=ZbJ
def Zb0:=xw ZjP ZbJ rfl
def Zbz:ZM:=(.seq (.seq (.region [oM 22 5,oM 23 0,oI 24 (.len (.t 23)),oI 25 (.bin .lss (.t 22) (.t 24)),oM 26 25,⟨(some 27),(.mov (.t 5)),(some (26,true)),[]⟩,⟨(some 28),(.bin .lss (.t 27) (.c (.int .i64 120))),(some (26,true)),[]⟩,oI 29 (.pick (.t 26) (.t 28) (.c (.bool false)))] none [29,5,4,3,0]) (.cond (.t 29) .skip (.exit 0))) (.seq (.block 1 (.seq (.region [oM 32 0,oM 33 5,oI 34 (.iaddr 6 (.t 32) (.t 33)),oI 35 (.ld (some 6) (.t 34)),oI 6 (.alloc [(.int .i64 0),(.int .i64 0),(.str []),(.str []),(.lst true []),(.lst true [])]),oN (.st 6 (.t 6) (.t 35))] none [6,5,4,3,0]) (.seq (.region [oF 36 0 6,oL 37 36,oI 38 (.call 6 0 true [(.t 37),(.c (.int .i64 0)),(.c (.int .i64 5))])] none [38,6,5,4,3,0]) (.block 2 (.seq (.region [oI 74 (.bin .eql (.t 38) (.c (.int .i64 0))),oM 73 74] none [73,38,6,5,4,3,0]) (.cond (.t 73) (.seq (.region [oM 75 3,oF 76 2 6,oL 77 76,oF 78 3 6,oL 79 78,oI 80 (.call 7 0 true [(.t 75),(.t 77),(.t 79)])] none [6,5,4,3,0]) (.region [oM 81 4,oF 82 2 6,oL 83 82,oF 84 3 6,oL 85 84,oI 86 (.call 8 1 true [(.t 81),(.t 83),(.t 85)])] none [5,4,3,0])) (.seq (.region [oI 88 (.bin .eql (.t 38) (.c (.int .i64 1))),oM 87 88] none [87,38,6,5,4,3,0]) (.cond (.t 87) (.seq (.region [oM 89 3,oF 90 2 6,oL 91 90,oF 92 3 6,oL 93 92,oI 94 (.call 9 0 true [(.t 89),(.t 91),(.t 93)]),oM 95 4,oF 96 2 6,oL 97 96,oF 98 3 6,oL 99 98,oI 100 (.call 10 1 true [(.t 95),(.t 97),(.t 99)]),oI 101 (.beq true (.t 94) (.t 100))] (some [(2,4),(2,8),(4,8),(5,8),(2,10),(4,10),(5,10),(8,10),(11,11)]) [101,5,4,3,0]) (.cond (.t 101) (.seq (.region [oI 2 (.mov (.c (.bool false)))] none [2]) .ret) .skip)) (.seq (.region [oI 103 (.bin .eql (.t 38) (.c (.int .i64 2))),oM 102 103] none [102,38,6,5,4,3,0]) (.cond (.t 102) (.seq (.region [oM 104 3,oF 105 3 6,oL 106 105,oI 107 (.call 12 0 true [(.t 104),(.t 106)]),oM 108 4,oF 109 3 6,oL 110 109,oI 111 (.call 13 1 true [(.t 108),(.t 110)]),oI 112 (.call 11 0 true [(.t 107),(.t 111)]),oI 113 (.un .not (.t 112))] (some [(2,6),(3,6),(7,7),(8,8)]) [113,5,4,3,0]) (.cond (.t 113) (.seq (.region [oI 2 (.mov (.c (.bool false)))] none [2]) .ret) .skip)) (.seq (.region [oI 115 (.bin .eql (.t 38) (.c (.int .i64 3))),oM 114 115] none [114,38,6,5,4,3,0]) (.cond (.t 114) (.seq (.region [oM 116 3,oF 117 2 6,oL 118 117,oI 119 (.call 14 0 true [(.t 116),(.t 118)]),oM 120 4,oF 121 2 6,oL 122 121,oI 123 (.call 15 0 true [(.t 120),(.t 122)]),oI 124 (.call 11 0 true [(.t 119),(.t 123)]),oI 125 (.un .not (.t 124))] (some [(2,6),(3,6),(7,7),(8,8)]) [125,5,4,3,0]) (.cond (.t 125) (.seq (.region [oI 2 (.mov (.c (.bool false)))] none [2]) .ret) .skip)) (.seq (.region [oI 127 (.bin .eql (.t 38) (.c (.int .i64 4))),oM 126 127] none [126,6,5,4,3,0]) (.cond (.t 126) (.seq (.region [oM 128 3,oF 129 3 6,oL 130 129,oI 131 (.call 16 0 true [(.t 128),(.t 130)]),oM 132 4,oF 133 3 6,oL 134 133,oI 135 (.call 17 0 true [(.t 132),(.t 134)]),oI 136 (.call 11 0 true [(.t 131),(.t 135)]),oI 137 (.un .not (.t 136))] (some [(2,6),(3,6),(7,7),(8,8)]) [137,5,4,3,0]) (.cond (.t 137) (.seq (.region [oI 2 (.mov (.c (.bool false)))] none [2]) .ret) .skip)) (.seq (.region [oM 40 3,oF 41 2 6,oL 42 41,oF 43 1 6,oL 44 43,oF 45 4 6,oL 46 45,oF 47 5 6,oL 48 47,oI 49 (.call 18 0 true [(.t 40),(.t 42),(.t 44),(.t 46),(.t 48)]),oM 39 49,oI 50 (.ext (.t 39) 0),oI 51 (.ext (.t 39) 1),oM 7 50,oM 8 51] none [8,7,6,5,4,3,0]) (.seq (.region [oM 53 4,oF 54 2 6,oL 55 54,oF 56 1 6,oL 57 56,oF 58 4 6,oL 59 58,oF 60 5 6,oL 61 60,oI 62 (.call 19 0 true [(.t 53),(.t 55),(.t 57),(.t 59),(.t 61)]),oM 52 62,oI 63 (.ext (.t 52) 0),oI 64 (.ext (.t 52) 1),oM 9 63,oM 10 64] none [10,9,8,7,5,4,3,0]) (.seq (.region [oM 65 7,oM 66 9,oI 67 (.bin .neq (.t 65) (.t 66)),oM 68 67,⟨(some 69),(.mov (.t 8)),(some (68,false)),[]⟩,⟨(some 70),(.mov (.t 10)),(some (68,false)),[]⟩,⟨(some 71),(.beq true (.t 69) (.t 70)),(some (68,false)),[]⟩,oI 72 (.pick (.t 68) (.c (.bool true)) (.t 71))] none [72,5,4,3,0]) (.cond (.t 72) (.seq (.region [oI 2 (.mov (.c (.bool false)))] none [2]) .ret) .skip)))))))))))))))))) (.region [oM 30 5,oI 31 (.bin .add (.t 30) (.c (.int .i64 1))),oM 5 31] none [5,4,3,0])))
def ZlV:ZM:=Zbz
def Zb9:=xw ZlV Zbz rfl
def ZbQ:ZM:=(.seq (.region [oI 2 (.mov (.c (.bool false)))] none [0]) (.seq (.region [oI 13 (.call 4 2 false []),oM 3 13] none [3,0]) (.seq (.seq (.region [oM 14 3,oI 15 (.peq false (.t 14) (.c .nilp)),oM 16 15,⟨(some 17),(.call 5 0 true []),(some (16,false)),[]⟩,⟨(some 18),(.un .not (.t 17)),(some (16,false)),[]⟩,oI 19 (.pick (.t 16) (.c (.bool true)) (.t 18))] none [19,3,0]) (.cond (.t 19) (.seq (.region [oI 2 (.mov (.c (.bool false)))] none [2]) .ret) .skip)) (.seq (.region [oI 20 (.build [(.lst true [])] []),oI 21 (.mkrow (.t 20) 1),oM 4 21] none [4,3,0]) (.seq (.seq (.region [oI 5 (.mov (.c (.int .i64 0)))] none [5,4,3,0]) (.block 0 (.loop [5,4,3,0] ZlV))) ZjP)))))
def Zh0:Zaj:=⟨[(.tmp 2)],ZbQ⟩
theorem ZFu:FC 3=some Zh0:=by kernel_rfl
theorem ZbZ:Zh0.body=ZbQ:=rfl
theorem Zb1:Zh0.res=[(.tmp 2)]:=rfl
def Zqs:ZM:=(.seq (.region [oI 0 (.mov (.c (.bool false)))] none []) (.seq (.region [oI 6 (.call 4 2 false []),oM 1 6] none [1]) (.seq (.seq (.region [oM 7 1,oI 8 (.peq false (.t 7) (.c .nilp))] none [8,1]) (.cond (.t 8) (.seq (.region [oI 0 (.mov (.c (.bool false)))] none [0]) .ret) .skip)) (.seq (.region [oM 9 1,oI 10 (.call 7 1 true [(.t 9),(.c (.str [36,115,104,97,114,101,47,103,47,97])),(.c (.str [120]))])] none [1]) (.seq (.region [oM 11 1,oI 12 (.call 7 1 true [(.t 11),(.c (.str [36,115,104,97,114,101,47,103,47,97])),(.c (.str [121]))])] none [1]) (.seq (.region [oM 14 1,oI 15 (.call 18 0 true [(.t 14),(.c (.str [36,115,104,97,114,101,47,103,47,97])),(.c (.int .i64 3)),(.c (.lst true [])),(.c (.lst true []))]),oM 13 15,oI 16 (.ext (.t 13) 0),oI 17 (.ext (.t 13) 1),oM 2 16,oM 3 17] none [3,2,1]) (.seq (.region [oM 19 1,oI 20 (.bslice false 1 1 (.str []) [(0,(.c (.str [121])))]),oI 21 (.call 18 0 true [(.t 19),(.c (.str [36,115,104,97,114,101,47,103,47,97])),(.c (.int .i64 0)),(.t 20),(.c (.lst true []))]),oM 18 21,oI 22 (.ext (.t 18) 0),oI 23 (.ext (.t 18) 1),oM 4 22,oM 5 23] none [5,4,3,2,1]) (.seq (.region [oM 24 3,oM 25 24,⟨(some 26),(.mov (.t 2)),(some (25,true)),[]⟩,⟨(some 27),(.bin .eql (.t 26) (.c (.str [121]))),(some (25,true)),[]⟩,oI 28 (.pick (.t 25) (.t 27) (.c (.bool false))),oM 29 28,⟨(some 30),(.mov (.t 5)),(some (29,true)),[]⟩,oI 31 (.pick (.t 29) (.t 30) (.c (.bool false))),oM 32 31,⟨(some 33),(.mov (.t 4)),(some (32,true)),[]⟩,⟨(some 34),(.bin .eql (.t 33) (.c (.str [121]))),(some (32,true)),[]⟩,oI 35 (.pick (.t 32) (.t 34) (.c (.bool false))),oM 36 35,⟨(some 37),(.mov (.t 1)),(some (36,true)),[]⟩,⟨(some 38),(.call 16 0 true [(.t 37),(.c (.str [97]))]),(some (36,true)),[]⟩,⟨(some 39),(.bslice false 1 1 (.str []) [(0,(.c (.str [36,115,104,97,114,101,47,103,47,97])))]),(some (36,true)),[]⟩,⟨(some 40),(.call 11 0 true [(.t 38),(.t 39)]),(some (36,true)),[]⟩,oI 41 (.pick (.t 36) (.t 40) (.c (.bool false))),oM 0 41] none [0]) .ret))))))))
def ZpE:Zaj:=⟨[(.tmp 0)],Zqs⟩
theorem ZEO:FC 5=some ZpE:=by kernel_rfl
theorem ZHY:ZpE.body=Zqs:=rfl
theorem ZKb:ZpE.res=[(.tmp 0)]:=rfl
end
section
def ZhZ:ZM:=(.seq (.region [oI 4 (.mov (.c (.bool false)))] none [4]) .ret)
def Zn4:ZM:=ZhZ
def Zmu:=xw Zn4 ZhZ rfl
def Zhl:ZM:=(.seq (.seq (.region [oM 6 5,oM 7 0,oI 8 (.len (.t 7)),oI 9 (.bin .lss (.t 6) (.t 8))] none [9,5,1,0]) (.cond (.t 9) .skip (.exit 0))) (.seq (.block 1 (.seq (.region [oM 12 0,oM 13 5,oI 14 (.iaddr 1 (.t 12) (.t 13)),oL 15 14,oM 16 1,oI 17 (.bin .eql (.t 15) (.t 16))] none [17,5,1,0]) (.cond (.t 17) (.seq (.region [oI 4 (.mov (.c (.bool true)))] none [4]) .ret) .skip))) (.region [oM 10 5,oI 11 (.bin .add (.t 10) (.c (.int .i64 1))),oM 5 11] none [5,1,0])))
def ZnU:ZM:=Zhl
def Zk3:=xw ZnU Zhl rfl
def ZhU:ZM:=(.seq (.region [oI 4 (.mov (.c (.bool false)))] none [1,0]) (.seq (.seq (.region [oI 5 (.mov (.c (.int .i64 0)))] none [5,1,0]) (.block 0 (.loop [5,1,0] ZnU))) Zn4))
def ZlU:Zaj:=⟨[(.tmp 4)],ZhU⟩
theorem ZDG:FC 36=some ZlU:=by kernel_rfl
theorem ZkX:ZlU.body=ZhU:=rfl
theorem ZkN:ZlU.res=[(.tmp 4)]:=rfl
noncomputable def Zjq (m:Nat) (tm:Tms) (σ:Za):Option (AVal×Za):=(ZaL m ZlU (Zbi FC PR BY m Zn4 (Wt (Za6 0) (evL FC PR BY m [5,1,0] ZnU tm σ))))
def Zjx:ZM:=(.seq (.seq (.region [oM 21 5,oM 22 0,oI 23 (.len (.t 22)),oI 24 (.bin .lss (.t 21) (.t 23)),oM 25 24,⟨(some 26),(.mov (.t 0)),(some (25,true)),[]⟩,⟨(some 27),(.mov (.t 5)),(some (25,true)),[]⟩,⟨(some 28),(.iaddr 1 (.t 26) (.t 27)),(some (25,true)),[]⟩,⟨(some 29),(.ld none (.t 28)),(some (25,true)),[]⟩,⟨(some 30),(.mov (.t 1)),(some (25,true)),[]⟩,⟨(some 31),(.bin .eql (.t 29) (.t 30)),(some (25,true)),[]⟩,oI 32 (.pick (.t 25) (.t 31) (.c (.bool false)))] none [32,5,1,0]) (.cond (.t 32) (.seq (.region [oM 33 0,oM 4 33] none [4]) .ret) .skip)) (.seq (.region [oI 6 (.mov (.c (.lst true [])))] none [6,5,1,0]) (.seq (.region [oM 34 6,oM 35 0,oM 36 5,oI 37 (.slice 1 (.t 35) none (some (.t 36)) none),oI 38 (.app 1 16 (.str []) (.t 34) (.t 37)),oM 39 1,oI 40 (.bslice false 1 1 (.str []) [(0,(.t 39))]),oI 41 (.app 1 16 (.str []) (.t 38) (.t 40)),oM 42 0,oM 43 5,oI 44 (.slice 1 (.t 42) (some (.t 43)) none none),oI 45 (.app 1 16 (.str []) (.t 41) (.t 44)),oM 4 45] (some [(3,6),(4,6),(3,10),(4,10),(6,10),(7,10)]) [4]) .ret)))
def Zki:ZM:=Zjx
def Znj:=xw Zki Zjx rfl
def ZfV:ZM:=(.seq (.seq (.region [oM 7 5,oM 8 0,oI 9 (.len (.t 8)),oI 10 (.bin .lss (.t 7) (.t 9)),oM 11 10,⟨(some 12),(.mov (.t 0)),(some (11,true)),[]⟩,⟨(some 13),(.mov (.t 5)),(some (11,true)),[]⟩,⟨(some 14),(.iaddr 1 (.t 12) (.t 13)),(some (11,true)),[]⟩,⟨(some 15),(.ld none (.t 14)),(some (11,true)),[]⟩,⟨(some 16),(.mov (.t 1)),(some (11,true)),[]⟩,⟨(some 17),(.bin .lss (.t 15) (.t 16)),(some (11,true)),[]⟩,oI 18 (.pick (.t 11) (.t 17) (.c (.bool false)))] none [18,5,1,0]) (.cond (.t 18) .skip (.exit 0))) (.block 1 (.region [oM 19 5,oI 20 (.bin .add (.t 19) (.c (.int .i64 1))),oM 5 20] none [5,1,0])))
def Zns:ZM:=ZfV
def ZhC:=xw Zns ZfV rfl
def ZhW:ZM:=(.seq (.region [oI 4 (.mov (.c (.lst true [])))] none [1,0]) (.seq (.region [oI 5 (.mov (.c (.int .i64 0)))] none [5,1,0]) (.seq (.block 0 (.loop [5,1,0] Zns)) Zki)))
def ZiZ:Zaj:=⟨[(.tmp 4)],ZhW⟩
theorem ZGS:FC 30=some ZiZ:=by kernel_rfl
theorem ZkZ:ZiZ.body=ZhW:=rfl
theorem ZlR:ZiZ.res=[(.tmp 4)]:=rfl
noncomputable def Zjr (m:Nat) (tm:Tms) (σ:Za):Option (AVal×Za):=(ZaL m ZiZ (Zbi FC PR BY m Zki (Wt (Za6 0) (evL FC PR BY m [5,1,0] Zns tm σ))))
def Zin:ZM:=(.seq (.region [oI 4 (.mov (.c (.bool true)))] none [4]) .ret)
def Zqd:ZM:=Zin
def Zk0:=xw Zqd Zin rfl
def ZhN:ZM:=(.seq (.seq (.region [oM 11 5,oM 12 0,oI 13 (.len (.t 12)),oI 14 (.bin .lss (.t 11) (.t 13))] none [14,5,1,0]) (.cond (.t 14) .skip (.exit 0))) (.seq (.block 1 (.seq (.region [oM 17 0,oM 18 5,oI 19 (.iaddr 1 (.t 17) (.t 18)),oL 20 19,oM 21 1,oM 22 5,oI 23 (.iaddr 1 (.t 21) (.t 22)),oL 24 23,oI 25 (.bin .neq (.t 20) (.t 24))] (some [(2,6),(3,6),(2,7),(3,7)]) [25,5,1,0]) (.cond (.t 25) (.seq (.region [oI 4 (.mov (.c (.bool false)))] none [4]) .ret) .skip))) (.region [oM 15 5,oI 16 (.bin .add (.t 15) (.c (.int .i64 1))),oM 5 16] none [5,1,0])))
def ZpU:ZM:=ZhN
def ZlO:=xw ZpU ZhN rfl
def Zht:ZM:=(.seq (.region [oI 4 (.mov (.c (.bool false)))] none [1,0]) (.seq (.seq (.region [oM 6 0,oI 7 (.len (.t 6)),oM 8 1,oI 9 (.len (.t 8)),oI 10 (.bin .neq (.t 7) (.t 9))] none [10,1,0]) (.cond (.t 10) (.seq (.region [oI 4 (.mov (.c (.bool false)))] none [4]) .ret) .skip)) (.seq (.seq (.region [oI 5 (.mov (.c (.int .i64 0)))] none [5,1,0]) (.block 0 (.loop [5,1,0] ZpU))) Zqd)))
def Zj7:Zaj:=⟨[(.tmp 4)],Zht⟩
theorem Zy3:FC 11=some Zj7:=by kernel_rfl
theorem Zmn:Zj7.body=Zht:=rfl
theorem Zkz:Zj7.res=[(.tmp 4)]:=rfl
noncomputable def Zku (m:Nat) (tm:Tms) (σ:Za):Option (AVal×Za):=(ZaL m Zj7 (Zbi FC PR BY m Zqd (Wt (Za6 0) (evL FC PR BY m [5,1,0] ZpU tm σ))))
end
section
def Zg2:ZM:=(.seq (.region [oI 2 (.mov (.c (.bool true)))] none [2]) .ret)
def ZmX:ZM:=Zg2
def Zjc:=xw ZmX Zg2 rfl
def Zgq:ZM:=(.seq (.seq (.region [oM 10 4,oM 11 3,oI 12 (.len (.t 11)),oI 13 (.bin .lss (.t 10) (.t 12))] none [13,4,3]) (.cond (.t 13) .skip (.exit 0))) (.seq (.block 1 (.seq (.region [oM 16 3,oM 17 4,oI 18 (.iaddr 1 (.t 16) (.t 17)),oL 19 18,oI 20 (.call 45 0 true [(.t 19),(.c (.int .u8 35))]),oM 21 20,⟨(some 22),(.mov (.t 3)),(some (21,true)),[]⟩,⟨(some 23),(.mov (.t 4)),(some (21,true)),[]⟩,⟨(some 24),(.iaddr 1 (.t 22) (.t 23)),(some (21,true)),[]⟩,⟨(some 25),(.ld none (.t 24)),(some (21,true)),[]⟩,⟨(some 26),(.bin .neq (.t 25) (.c (.str [35]))),(some (21,true)),[]⟩,⟨(some 27),(.mov (.t 26)),(some (21,true)),[]⟩,⟨(some 28),(.mov (.t 4)),(some (27,false)),[]⟩,⟨(some 29),(.mov (.t 3)),(some (27,false)),[]⟩,⟨(some 30),(.len (.t 29)),(some (27,false)),[]⟩,⟨(some 31),(.bin .sub (.t 30) (.c (.int .i64 1))),(some (27,false)),[]⟩,⟨(some 32),(.bin .neq (.t 28) (.t 31)),(some (27,false)),[]⟩,⟨(some 33),(.pick (.t 27) (.c (.bool true)) (.t 32)),(some (21,true)),[]⟩,oI 34 (.pick (.t 21) (.t 33) (.c (.bool false))),oM 35 34,⟨(some 36),(.mov (.t 3)),(some (35,false)),[]⟩,⟨(some 37),(.mov (.t 4)),(some (35,false)),[]⟩,⟨(some 38),(.iaddr 1 (.t 36) (.t 37)),(some (35,false)),[]⟩,⟨(some 39),(.ld none (.t 38)),(some (35,false)),[]⟩,⟨(some 40),(.call 45 0 true [(.t 39),(.c (.int .u8 43))]),(some (35,false)),[]⟩,⟨(some 41),(.mov (.t 40)),(some (35,false)),[]⟩,⟨(some 42),(.mov (.t 3)),(some (41,true)),[]⟩,⟨(some 43),(.mov (.t 4)),(some (41,true)),[]⟩,⟨(some 44),(.iaddr 1 (.t 42) (.t 43)),(some (41,true)),[]⟩,⟨(some 45),(.ld none (.t 44)),(some (41,true)),[]⟩,⟨(some 46),(.bin .neq (.t 45) (.c (.str [43]))),(some (41,true)),[]⟩,⟨(some 47),(.pick (.t 41) (.t 46) (.c (.bool false))),(some (35,false)),[]⟩,oI 48 (.pick (.t 35) (.c (.bool true)) (.t 47))] none [48,4,3]) (.cond (.t 48) (.seq (.region [oI 2 (.mov (.c (.bool false)))] none [2]) .ret) .skip))) (.region [oM 14 4,oI 15 (.bin .add (.t 14) (.c (.int .i64 1))),oM 4 15] none [4,3])))
def Zn7:ZM:=Zgq
def Zjv:=xw Zn7 Zgq rfl
def ZgZ:ZM:=(.seq (.region [oI 2 (.mov (.c (.bool false)))] none [0]) (.seq (.seq (.region [oM 5 0,oI 6 (.call 43 0 true [(.t 5)]),oI 7 (.un .not (.t 6))] none [7,0]) (.cond (.t 7) (.seq (.region [oI 2 (.mov (.c (.bool false)))] none [2]) .ret) .skip)) (.seq (.region [oM 8 0,oI 9 (.call 44 0 true [(.t 8)]),oM 3 9] none [3]) (.seq (.seq (.region [oI 4 (.mov (.c (.int .i64 0)))] none [4,3]) (.block 0 (.loop [4,3] Zn7))) ZmX))))
def Zms:Zaj:=⟨[(.tmp 2)],ZgZ⟩
theorem Zzf:FC 46=some Zms:=by kernel_rfl
theorem ZiR:Zms.body=ZgZ:=rfl
theorem ZiH:Zms.res=[(.tmp 2)]:=rfl
noncomputable def ZmB (m:Nat) (tm:Tms) (σ:Za):Option (AVal×Za):=(ZaL m Zms (Zbi FC PR BY m ZmX (Wt (Za6 0) (evL FC PR BY m [4,3] Zn7 tm σ))))
def ZeY:ZM:=(.seq (.region [oM 27 3,oM 28 4,oI 29 (.bslice false 1 1 (.str []) [(0,(.t 28))]),oI 30 (.app 1 16 (.str []) (.t 27) (.t 29)),oM 2 30] none [2]) .ret)
def Zpy:ZM:=ZeY
def ZgV:=xw Zpy ZeY rfl
def ZeW:ZM:=(.seq (.seq (.region [oM 6 5,oM 7 0,oI 8 (.slen (.t 7)),oI 9 (.bin .lss (.t 6) (.t 8))] none [9,5,4,3,0]) (.cond (.t 9) .skip (.exit 0))) (.seq (.block 1 (.seq (.seq (.region [oM 12 0,oM 13 5,oI 14 (.sindex (.t 12) (.t 13)),oI 15 (.bin .eql (.t 14) (.c (.int .u8 47)))] none [15,5,4,3,0]) (.cond (.t 15) (.seq (.region [oM 16 3,oM 17 4,oI 18 (.bslice false 1 1 (.str []) [(0,(.t 17))]),oI 19 (.app 1 16 (.str []) (.t 16) (.t 18)),oM 3 19] none [5,3,0]) (.seq (.region [oI 4 (.mov (.c (.str [])))] none [5,4,3,0]) (.exit 1))) .skip)) (.region [oM 20 4,oM 21 0,oM 22 5,oM 23 5,oI 24 (.bin .add (.t 23) (.c (.int .i64 1))),oI 25 (.sslice (.t 21) (some (.t 22)) (some (.t 24))),oI 26 (.bin .add (.t 20) (.t 25)),oM 4 26] none [5,4,3,0]))) (.region [oM 10 5,oI 11 (.bin .add (.t 10) (.c (.int .i64 1))),oM 5 11] none [5,4,3,0])))
def ZqJ:ZM:=ZeW
def Zg4:=xw ZqJ ZeW rfl
def Zfo:ZM:=(.seq (.region [oI 2 (.mov (.c (.lst true [])))] none [0]) (.seq (.region [oI 3 (.mov (.c (.lst true [])))] none [3,0]) (.seq (.region [oI 4 (.mov (.c (.str [])))] none [4,3,0]) (.seq (.seq (.region [oI 5 (.mov (.c (.int .i64 0)))] none [5,4,3,0]) (.block 0 (.loop [5,4,3,0] ZqJ))) Zpy))))
def Zk7:Zaj:=⟨[(.tmp 2)],Zfo⟩
theorem ZAe:FC 44=some Zk7:=by kernel_rfl
theorem ZgO:Zk7.body=Zfo:=rfl
theorem Zgo:Zk7.res=[(.tmp 2)]:=rfl
noncomputable def ZgR (m:Nat) (tm:Tms) (σ:Za):Option (AVal×Za):=(ZaL m Zk7 (Zbi FC PR BY m Zpy (Wt (Za6 0) (evL FC PR BY m [5,4,3,0] ZqJ tm σ))))
def ZcZ:ZM:=(.seq (.region [oM 72 5,oI 73 (.len (.t 72)),oM 74 6,oI 75 (.len (.t 74)),oI 76 (.bin .eql (.t 73) (.t 75)),oM 4 76] none [4]) .ret)
def ZqH:ZM:=ZcZ
def Zdz:=xw ZqH ZcZ rfl
def ZcW:ZM:=(.seq (.seq (.region [oM 35 7,oM 36 5,oI 37 (.len (.t 36)),oI 38 (.bin .lss (.t 35) (.t 37))] none [38,7,6,5]) (.cond (.t 38) .skip (.exit 0))) (.seq (.block 1 (.seq (.seq (.region [oM 41 5,oM 42 7,oI 43 (.iaddr 1 (.t 41) (.t 42)),oL 44 43,oI 45 (.bin .eql (.t 44) (.c (.str [35])))] none [45,7,6,5]) (.cond (.t 45) (.seq (.region [oM 46 6,oI 47 (.len (.t 46)),oM 48 7,oI 49 (.bin .geq (.t 47) (.t 48)),oM 4 49] none [4]) .ret) .skip)) (.seq (.region [oM 50 7,oM 51 6,oI 52 (.len (.t 51)),oI 53 (.bin .geq (.t 50) (.t 52)),oM 54 53,⟨(some 55),(.mov (.t 5)),(some (54,false)),[]⟩,⟨(some 56),(.mov (.t 7)),(some (54,false)),[]⟩,⟨(some 57),(.iaddr 1 (.t 55) (.t 56)),(some (54,false)),[]⟩,⟨(some 58),(.ld none (.t 57)),(some (54,false)),[]⟩,⟨(some 59),(.bin .neq (.t 58) (.c (.str [43]))),(some (54,false)),[]⟩,⟨(some 60),(.mov (.t 59)),(some (54,false)),[]⟩,⟨(some 61),(.mov (.t 5)),(some (60,true)),[]⟩,⟨(some 62),(.mov (.t 7)),(some (60,true)),[]⟩,⟨(some 63),(.iaddr 1 (.t 61) (.t 62)),(some (60,true)),[]⟩,⟨(some 64),(.ld none (.t 63)),(some (60,true)),[]⟩,⟨(some 65),(.mov (.t 6)),(some (60,true)),[]⟩,⟨(some 66),(.mov (.t 7)),(some (60,true)),[]⟩,⟨(some 67),(.iaddr 1 (.t 65) (.t 66)),(some (60,true)),[]⟩,⟨(some 68),(.ld none (.t 67)),(some (60,true)),[]⟩,⟨(some 69),(.bin .neq (.t 64) (.t 68)),(some (60,true)),[]⟩,⟨(some 70),(.pick (.t 60) (.t 69) (.c (.bool false))),(some (54,false)),[]⟩,oI 71 (.pick (.t 54) (.c (.bool true)) (.t 70))] (some [(13,17),(14,17),(13,18),(14,18)]) [71,7,6,5]) (.cond (.t 71) (.seq (.region [oI 4 (.mov (.c (.bool false)))] none [4]) .ret) .skip)))) (.region [oM 39 7,oI 40 (.bin .add (.t 39) (.c (.int .i64 1))),oM 7 40] none [7,6,5])))
def Znz:ZM:=ZcW
def Zdk:=xw Znz ZcW rfl
def ZcX:ZM:=(.seq (.region [oI 4 (.mov (.c (.bool false)))] none [1,0]) (.seq (.seq (.region [oM 8 0,oI 9 (.call 46 0 true [(.t 8)]),oI 10 (.un .not (.t 9)),oM 11 10,⟨(some 12),(.mov (.t 1)),(some (11,false)),[]⟩,⟨(some 13),(.call 50 0 true [(.t 12)]),(some (11,false)),[]⟩,⟨(some 14),(.un .not (.t 13)),(some (11,false)),[]⟩,oI 15 (.pick (.t 11) (.c (.bool true)) (.t 14))] none [15,1,0]) (.cond (.t 15) (.seq (.region [oI 4 (.mov (.c (.bool false)))] none [4]) .ret) .skip)) (.seq (.region [oM 16 0,oI 17 (.call 44 0 true [(.t 16)]),oM 18 1,oI 19 (.call 44 0 true [(.t 18)]),oM 5 17,oM 6 19] none [6,5,1]) (.seq (.seq (.region [oM 20 5,oI 21 (.iaddr 1 (.t 20) (.c (.int .i64 0))),oL 22 21,oI 23 (.bin .eql (.t 22) (.c (.str [43]))),oM 24 23,⟨(some 25),(.mov (.t 5)),(some (24,false)),[]⟩,⟨(some 26),(.iaddr 1 (.t 25) (.c (.int .i64 0))),(some (24,false)),[]⟩,⟨(some 27),(.ld none (.t 26)),(some (24,false)),[]⟩,⟨(some 28),(.bin .eql (.t 27) (.c (.str [35]))),(some (24,false)),[]⟩,oI 29 (.pick (.t 24) (.c (.bool true)) (.t 28)),oM 30 29,⟨(some 31),(.mov (.t 1)),(some (30,true)),[]⟩,⟨(some 32),(.sindex (.t 31) (.c (.int .i64 0))),(some (30,true)),[]⟩,⟨(some 33),(.bin .eql (.t 32) (.c (.int .u8 36))),(some (30,true)),[]⟩,oI 34 (.pick (.t 30) (.t 33) (.c (.bool false)))] none [34,6,5]) (.cond (.t 34) (.seq (.region [oI 4 (.mov (.c (.bool false)))] none [4]) .ret) .skip)) (.seq (.seq (.region [oI 7 (.mov (.c (.int .i64 0)))] none [7,6,5]) (.block 0 (.loop [7,6,5] Znz))) ZqH)))))
def Zk6:Zaj:=⟨[(.tmp 4)],ZcX⟩
theorem ZCT:FC 33=some Zk6:=by kernel_rfl
theorem Zdv:Zk6.body=ZcX:=rfl
theorem Zdl:Zk6.res=[(.tmp 4)]:=rfl
noncomputable def ZjU (m:Nat) (tm:Tms) (σ:Za):Option (AVal×Za):=(ZaL m Zk6 (Zbi FC PR BY m ZqH (Wt (Za6 0) (evL FC PR BY m [7,6,5] Znz tm σ))))
def ZjI:ZM:=(.seq (.region [oI 2 (.mov (.c (.bool false)))] none [0]) (.seq (.region [oM 3 0,oI 4 (.call 43 0 true [(.t 3)]),oM 5 4,⟨(some 6),(.mov (.t 0)),(some (5,true)),[]⟩,⟨(some 7),(.call 45 0 true [(.t 6),(.c (.int .u8 43))]),(some (5,true)),[]⟩,⟨(some 8),(.un .not (.t 7)),(some (5,true)),[]⟩,oI 9 (.pick (.t 5) (.t 8) (.c (.bool false))),oM 10 9,⟨(some 11),(.mov (.t 0)),(some (10,true)),[]⟩,⟨(some 12),(.call 45 0 true [(.t 11),(.c (.int .u8 35))]),(some (10,true)),[]⟩,⟨(some 13),(.un .not (.t 12)),(some (10,true)),[]⟩,oI 14 (.pick (.t 10) (.t 13) (.c (.bool false))),oM 2 14] none [2]) .ret))
def Zoc:Zaj:=⟨[(.tmp 2)],ZjI⟩
theorem ZyM:FC 50=some Zoc:=by kernel_rfl
theorem Zqq:Zoc.body=ZjI:=rfl
theorem Zom:Zoc.res=[(.tmp 2)]:=rfl
def ZdT:ZM:=(.seq (.region [oI 2 (.mov (.c (.str []))),oI 3 (.mov (.c (.str []))),oI 4 (.mov (.c (.bool false)))] none [0]) (.seq (.seq (.region [oM 7 0,oI 8 (.call 42 0 true [(.t 7)]),oI 9 (.un .not (.t 8)),oM 10 9,⟨(some 11),(.mov (.t 0)),(some (10,false)),[]⟩,⟨(some 12),(.call 43 0 true [(.t 11)]),(some (10,false)),[]⟩,⟨(some 13),(.un .not (.t 12)),(some (10,false)),[]⟩,oI 14 (.pick (.t 10) (.c (.bool true)) (.t 13)),oM 15 14,⟨(some 16),(.mov (.t 0)),(some (15,false)),[]⟩,⟨(some 17),(.slen (.t 16)),(some (15,false)),[]⟩,⟨(some 18),(.bin .lss (.t 17) (.c (.int .i64 8))),(some (15,false)),[]⟩,oI 19 (.pick (.t 15) (.c (.bool true)) (.t 18))] none [19,0]) (.cond (.t 19) (.seq (.region [oI 2 (.mov (.c (.str []))),oI 3 (.mov (.c (.str []))),oI 4 (.mov (.c (.bool false)))] none [4,3,2]) .ret) .skip)) (.seq (.region [oM 20 0,oI 21 (.sslice (.t 20) (some (.c (.int .i64 7))) none),oI 22 (.call 44 0 true [(.t 21)]),oI 23 (.iaddr 1 (.t 22) (.c (.int .i64 0))),oL 24 23,oM 5 24] none [5,0]) (.seq (.seq (.region [oM 25 5,oI 26 (.slen (.t 25)),oI 27 (.bin .lss (.t 26) (.c (.int .i64 1))),oM 28 27,⟨(some 29),(.mov (.t 5)),(some (28,false)),[]⟩,⟨(some 30),(.slen (.t 29)),(some (28,false)),[]⟩,⟨(some 31),(.bin .gtr (.t 30) (.c (.int .i64 16))),(some (28,false)),[]⟩,oI 32 (.pick (.t 28) (.c (.bool true)) (.t 31)),oM 33 32,⟨(some 34),(.mov (.t 5)),(some (33,false)),[]⟩,⟨(some 35),(.call 45 0 true [(.t 34),(.c (.int .u8 43))]),(some (33,false)),[]⟩,oI 36 (.pick (.t 33) (.c (.bool true)) (.t 35)),oM 37 36,⟨(some 38),(.mov (.t 5)),(some (37,false)),[]⟩,⟨(some 39),(.call 45 0 true [(.t 38),(.c (.int .u8 35))]),(some (37,false)),[]⟩,oI 40 (.pick (.t 37) (.c (.bool true)) (.t 39)),oM 41 40,⟨(some 42),(.mov (.t 0)),(some (41,false)),[]⟩,⟨(some 43),(.slen (.t 42)),(some (41,false)),[]⟩,⟨(some 44),(.mov (.t 5)),(some (41,false)),[]⟩,⟨(some 45),(.slen (.t 44)),(some (41,false)),[]⟩,⟨(some 46),(.bin .add (.c (.int .i64 8)) (.t 45)),(some (41,false)),[]⟩,⟨(some 47),(.bin .leq (.t 43) (.t 46)),(some (41,false)),[]⟩,oI 48 (.pick (.t 41) (.c (.bool true)) (.t 47))] none [48,5,0]) (.cond (.t 48) (.seq (.region [oI 2 (.mov (.c (.str []))),oI 3 (.mov (.c (.str []))),oI 4 (.mov (.c (.bool false)))] none [4,3,2]) .ret) .skip)) (.seq (.region [oM 49 0,oM 50 5,oI 51 (.slen (.t 50)),oI 52 (.bin .add (.c (.int .i64 8)) (.t 51)),oI 53 (.sslice (.t 49) (some (.t 52)) none),oM 6 53] none [6,5]) (.seq (.seq (.region [oM 54 6,oI 55 (.call 46 0 true [(.t 54)]),oI 56 (.un .not (.t 55))] none [56,6,5]) (.cond (.t 56) (.seq (.region [oI 2 (.mov (.c (.str []))),oI 3 (.mov (.c (.str []))),oI 4 (.mov (.c (.bool false)))] none [4,3,2]) .ret) .skip)) (.seq (.region [oM 57 5,oM 58 6,oM 2 57,oM 3 58,oI 4 (.mov (.c (.bool true)))] none [4,3,2]) .ret)))))))
def ZnN:Zaj:=⟨[(.tmp 2),(.tmp 3),(.tmp 4)],ZdT⟩
theorem Zz2:FC 23=some ZnN:=by kernel_rfl
theorem Zel:ZnN.body=ZdT:=rfl
theorem Zei:ZnN.res=[(.tmp 2),(.tmp 3),(.tmp 4)]:=rfl
def ZjH:ZM:=(.seq (.region [oI 2 (.mov (.c (.bool false)))] none [0]) (.seq (.region [oM 3 0,oI 4 (.bin .eql (.t 3) (.c (.str [36,115,104,97,114,101]))),oM 5 4,⟨(some 6),(.mov (.t 0)),(some (5,false)),[]⟩,⟨(some 7),(.slen (.t 6)),(some (5,false)),[]⟩,⟨(some 8),(.bin .geq (.t 7) (.c (.int .i64 7))),(some (5,false)),[]⟩,⟨(some 9),(.mov (.t 8)),(some (5,false)),[]⟩,⟨(some 10),(.mov (.t 0)),(some (9,true)),[]⟩,⟨(some 11),(.sslice (.t 10) none (some (.c (.int .i64 7)))),(some (9,true)),[]⟩,⟨(some 12),(.bin .eql (.t 11) (.c (.str [36,115,104,97,114,101,47]))),(some (9,true)),[]⟩,⟨(some 13),(.pick (.t 9) (.t 12) (.c (.bool false))),(some (5,false)),[]⟩,oI 14 (.pick (.t 5) (.c (.bool true)) (.t 13)),oM 2 14] none [2]) .ret))
def Zn3:Zaj:=⟨[(.tmp 2)],ZjH⟩
theorem Zxc:FC 42=some Zn3:=by kernel_rfl
theorem ZoK:Zn3.body=ZjH:=rfl
theorem Zo7:Zn3.res=[(.tmp 2)]:=rfl
def ZhM:ZM:=(.seq (.region [oI 4 (.mov (.c (.bool false)))] none [4]) .ret)
def ZpI:ZM:=ZhM
def Zmh:=xw ZpI ZhM rfl
def Zig:ZM:=(.seq (.seq (.region [oM 6 5,oM 7 0,oI 8 (.slen (.t 7)),oI 9 (.bin .lss (.t 6) (.t 8))] none [9,5,1,0]) (.cond (.t 9) .skip (.exit 0))) (.seq (.block 1 (.seq (.region [oM 12 0,oM 13 5,oI 14 (.sindex (.t 12) (.t 13)),oM 15 1,oI 16 (.bin .eql (.t 14) (.t 15))] none [16,5,1,0]) (.cond (.t 16) (.seq (.region [oI 4 (.mov (.c (.bool true)))] none [4]) .ret) .skip))) (.region [oM 10 5,oI 11 (.bin .add (.t 10) (.c (.int .i64 1))),oM 5 11] none [5,1,0])))
def ZqI:ZM:=Zig
def Zlf:=xw ZqI Zig rfl
def ZhG:ZM:=(.seq (.region [oI 4 (.mov (.c (.bool false)))] none [1,0]) (.seq (.seq (.region [oI 5 (.mov (.c (.int .i64 0)))] none [5,1,0]) (.block 0 (.loop [5,1,0] ZqI))) ZpI))
def Zlx:Zaj:=⟨[(.tmp 4)],ZhG⟩
theorem ZDQ:FC 45=some Zlx:=by kernel_rfl
theorem Zks:Zlx.body=ZhG:=rfl
theorem Zkn:Zlx.res=[(.tmp 4)]:=rfl
noncomputable def Zkj (m:Nat) (tm:Tms) (σ:Za):Option (AVal×Za):=(ZaL m Zlx (Zbi FC PR BY m ZpI (Wt (Za6 0) (evL FC PR BY m [5,1,0] ZqI tm σ))))
def Zlq:ZM:=(.seq (.region [oI 2 (.mov (.c (.bool false)))] none [0]) (.seq (.region [oM 3 0,oI 4 (.slen (.t 3)),oI 5 (.bin .geq (.t 4) (.c (.int .i64 1))),oM 6 5,⟨(some 7),(.mov (.t 0)),(some (6,true)),[]⟩,⟨(some 8),(.slen (.t 7)),(some (6,true)),[]⟩,⟨(some 9),(.bin .leq (.t 8) (.c (.int .i64 64))),(some (6,true)),[]⟩,oI 10 (.pick (.t 6) (.t 9) (.c (.bool false))),oM 11 10,⟨(some 12),(.mov (.t 0)),(some (11,true)),[]⟩,⟨(some 13),(.call 55 0 true [(.t 12)]),(some (11,true)),[]⟩,oI 14 (.pick (.t 11) (.t 13) (.c (.bool false))),oM 2 14] none [2]) .ret))
def ZmW:Zaj:=⟨[(.tmp 2)],Zlq⟩
theorem ZFF:FC 43=some ZmW:=by kernel_rfl
theorem ZuB:ZmW.body=Zlq:=rfl
theorem Zrx:ZmW.res=[(.tmp 2)]:=rfl
def ZeG:ZM:=(.seq (.region [oM 36 0,oI 37 (.call 39 0 true [(.t 36)]),oM 2 37] none [2]) .ret)
def Zqz:ZM:=ZeG
def ZfN:=xw Zqz ZeG rfl
def Zeo:ZM:=(.seq (.region [oI 12 (.bin .lss (.t 11) (.t 10))] none [12,11,10,9,3,0]) (.seq (.cond (.t 12) .skip (.exit 0)) (.seq (.block 1 (.seq (.region [oM 13 11,oI 14 (.iaddr 1 (.t 9) (.t 11)),oL 15 14,oM 4 13,oM 5 15] none [11,10,9,5,4,3,0]) (.seq (.region [oM 16 5,oI 17 (.bin .eql (.t 16) (.c (.str [43]))),oM 18 17,⟨(some 19),(.mov (.t 5)),(some (18,false)),[]⟩,⟨(some 20),(.bin .eql (.t 19) (.c (.str [35]))),(some (18,false)),[]⟩,⟨(some 21),(.mov (.t 20)),(some (18,false)),[]⟩,⟨(some 22),(.mov (.t 4)),(some (21,true)),[]⟩,⟨(some 23),(.mov (.t 3)),(some (21,true)),[]⟩,⟨(some 24),(.len (.t 23)),(some (21,true)),[]⟩,⟨(some 25),(.bin .sub (.t 24) (.c (.int .i64 1))),(some (21,true)),[]⟩,⟨(some 26),(.bin .eql (.t 22) (.t 25)),(some (21,true)),[]⟩,⟨(some 27),(.pick (.t 21) (.t 26) (.c (.bool false))),(some (18,false)),[]⟩,oI 28 (.pick (.t 18) (.c (.bool true)) (.t 27)),oM 6 28] none [11,10,9,6,5,3,0]) (.seq (.region [oM 29 6,oI 30 (.un .not (.t 29)),oM 31 30,⟨(some 32),(.mov (.t 5)),(some (31,true)),[]⟩,⟨(some 33),(.call 40 0 true [(.t 32),(.c (.str [43,35]))]),(some (31,true)),[]⟩,oI 34 (.pick (.t 31) (.t 33) (.c (.bool false)))] none [34,11,10,9,3,0]) (.cond (.t 34) (.seq (.region [oI 2 (.mov (.c (.bool false)))] none [2]) .ret) .skip))))) (.region [oI 35 (.bin .add (.t 11) (.c (.int .i64 1))),oM 11 35] none [11,10,9,3,0]))))
def Zng:ZM:=Zeo
def Zga:=xw Zng Zeo rfl
def Zes:ZM:=(.seq (.region [oI 2 (.mov (.c (.bool false)))] none [0]) (.seq (.region [oM 7 0,oI 8 (.call 49 0 true [(.t 7)]),oM 3 8] none [3,0]) (.seq (.seq (.region [oM 9 3,oI 10 (.len (.t 9)),oI 11 (.mov (.c (.int .i64 0)))] none [11,10,9,3,0]) (.block 0 (.loop [11,10,9,3,0] Zng))) Zqz)))
def Zkw:Zaj:=⟨[(.tmp 2)],Zes⟩
theorem ZKV:FC 41=some Zkw:=by kernel_rfl
theorem Zgj:Zkw.body=Zes:=rfl
theorem Zgf:Zkw.res=[(.tmp 2)]:=rfl
noncomputable def ZmD (m:Nat) (tm:Tms) (σ:Za):Option (AVal×Za):=(ZaL m Zkw (Zbi FC PR BY m Zqz (Wt (Za6 0) (evL FC PR BY m [11,10,9,3,0] Zng tm σ))))
def ZmU:ZM:=(.seq (.region [oI 2 (.mov (.c (.lst true [])))] none [0]) (.seq (.region [oM 3 0,oI 4 (.call 58 0 true [(.t 3),(.c (.str [47]))]),oM 2 4] none [2]) .ret))
def Zp7:Zaj:=⟨[(.tmp 2)],ZmU⟩
theorem ZE0:FC 49=some Zp7:=by kernel_rfl
theorem ZwS:Zp7.body=ZmU:=rfl
theorem Zzd:Zp7.res=[(.tmp 2)]:=rfl
def Zc9:ZM:=(.seq (.region [oM 64 5,oI 65 (.len (.t 64)),oM 66 6,oI 67 (.len (.t 66)),oI 68 (.bin .eql (.t 65) (.t 67)),oM 4 68] none [4]) .ret)
def Zn2:ZM:=Zc9
def ZdD:=xw Zn2 Zc9 rfl
def Zdi:ZM:=(.seq (.region [oI 39 (.bin .lss (.t 38) (.t 37))] none [39,38,37,36,6,5]) (.seq (.cond (.t 39) .skip (.exit 0)) (.seq (.block 1 (.seq (.region [oM 40 38,oI 41 (.iaddr 1 (.t 36) (.t 38)),oL 42 41,oM 7 40,oM 8 42] none [38,37,36,8,7,6,5]) (.block 2 (.seq (.region [oM 44 8,oI 45 (.bin .eql (.t 44) (.c (.str [35]))),oM 43 45] none [43,38,37,36,8,7,6,5]) (.cond (.t 43) (.seq (.region [oI 4 (.mov (.c (.bool true)))] none [4]) .ret) (.seq (.region [oM 47 7,oM 48 6,oI 49 (.len (.t 48)),oI 50 (.bin .eql (.t 47) (.t 49)),oM 51 50,⟨(some 52),(.mov (.t 8)),(some (51,false)),[]⟩,⟨(some 53),(.bin .neq (.t 52) (.c (.str [43]))),(some (51,false)),[]⟩,⟨(some 54),(.mov (.t 53)),(some (51,false)),[]⟩,⟨(some 55),(.mov (.t 8)),(some (54,true)),[]⟩,⟨(some 56),(.mov (.t 6)),(some (54,true)),[]⟩,⟨(some 57),(.mov (.t 7)),(some (54,true)),[]⟩,⟨(some 58),(.iaddr 1 (.t 56) (.t 57)),(some (54,true)),[]⟩,⟨(some 59),(.ld none (.t 58)),(some (54,true)),[]⟩,⟨(some 60),(.bin .neq (.t 55) (.t 59)),(some (54,true)),[]⟩,⟨(some 61),(.pick (.t 54) (.t 60) (.c (.bool false))),(some (51,false)),[]⟩,oI 62 (.pick (.t 51) (.c (.bool true)) (.t 61)),oM 46 62] none [46,38,37,36,6,5]) (.cond (.t 46) (.seq (.region [oI 4 (.mov (.c (.bool false)))] none [4]) .ret) .skip))))))) (.region [oI 63 (.bin .add (.t 38) (.c (.int .i64 1))),oM 38 63] none [38,37,36,6,5]))))
def ZmR:ZM:=Zdi
def ZdP:=xw ZmR Zdi rfl
def Zdh:ZM:=(.seq (.region [oI 4 (.mov (.c (.bool false)))] none [1,0]) (.seq (.seq (.region [oM 9 0,oI 10 (.call 41 0 true [(.t 9)]),oI 11 (.un .not (.t 10)),oM 12 11,⟨(some 13),(.mov (.t 1)),(some (12,false)),[]⟩,⟨(some 14),(.call 48 0 true [(.t 13)]),(some (12,false)),[]⟩,⟨(some 15),(.un .not (.t 14)),(some (12,false)),[]⟩,oI 16 (.pick (.t 12) (.c (.bool true)) (.t 15))] none [16,1,0]) (.cond (.t 16) (.seq (.region [oI 4 (.mov (.c (.bool false)))] none [4]) .ret) .skip)) (.seq (.region [oM 17 0,oI 18 (.call 49 0 true [(.t 17)]),oM 19 1,oI 20 (.call 49 0 true [(.t 19)]),oM 5 18,oM 6 20] none [6,5,1]) (.seq (.seq (.region [oM 21 1,oI 22 (.sindex (.t 21) (.c (.int .i64 0))),oI 23 (.bin .eql (.t 22) (.c (.int .u8 36))),oM 24 23,⟨(some 25),(.mov (.t 5)),(some (24,true)),[]⟩,⟨(some 26),(.iaddr 1 (.t 25) (.c (.int .i64 0))),(some (24,true)),[]⟩,⟨(some 27),(.ld none (.t 26)),(some (24,true)),[]⟩,⟨(some 28),(.bin .eql (.t 27) (.c (.str [43]))),(some (24,true)),[]⟩,⟨(some 29),(.mov (.t 28)),(some (24,true)),[]⟩,⟨(some 30),(.mov (.t 5)),(some (29,false)),[]⟩,⟨(some 31),(.iaddr 1 (.t 30) (.c (.int .i64 0))),(some (29,false)),[]⟩,⟨(some 32),(.ld none (.t 31)),(some (29,false)),[]⟩,⟨(some 33),(.bin .eql (.t 32) (.c (.str [35]))),(some (29,false)),[]⟩,⟨(some 34),(.pick (.t 29) (.c (.bool true)) (.t 33)),(some (24,true)),[]⟩,oI 35 (.pick (.t 24) (.t 34) (.c (.bool false)))] none [35,6,5]) (.cond (.t 35) (.seq (.region [oI 4 (.mov (.c (.bool false)))] none [4]) .ret) .skip)) (.seq (.seq (.region [oM 36 5,oI 37 (.len (.t 36)),oI 38 (.mov (.c (.int .i64 0)))] none [38,37,36,6,5]) (.block 0 (.loop [38,37,36,6,5] ZmR))) Zn2)))))
def ZlW:Zaj:=⟨[(.tmp 4)],Zdh⟩
theorem ZJ6:FC 32=some ZlW:=by kernel_rfl
theorem ZdE:ZlW.body=Zdh:=rfl
theorem ZdG:ZlW.res=[(.tmp 4)]:=rfl
noncomputable def ZiB (m:Nat) (tm:Tms) (σ:Za):Option (AVal×Za):=(ZaL m ZlW (Zbi FC PR BY m Zn2 (Wt (Za6 0) (evL FC PR BY m [38,37,36,6,5] ZmR tm σ))))
def Zmc:ZM:=(.seq (.region [oI 2 (.mov (.c (.bool false)))] none [0]) (.seq (.region [oM 3 0,oI 4 (.call 39 0 true [(.t 3)]),oM 5 4,⟨(some 6),(.mov (.t 0)),(some (5,true)),[]⟩,⟨(some 7),(.call 40 0 true [(.t 6),(.c (.str [43,35]))]),(some (5,true)),[]⟩,⟨(some 8),(.un .not (.t 7)),(some (5,true)),[]⟩,oI 9 (.pick (.t 5) (.t 8) (.c (.bool false))),oM 2 9] none [2]) .ret))
def Zoa:Zaj:=⟨[(.tmp 2)],Zmc⟩
theorem ZKD:FC 48=some Zoa:=by kernel_rfl
theorem ZtD:Zoa.body=Zmc:=rfl
theorem Ztc:Zoa.res=[(.tmp 2)]:=rfl
def Zeb:ZM:=(.seq (.region [oI 2 (.mov (.c (.str []))),oI 3 (.mov (.c (.str []))),oI 4 (.mov (.c (.bool false)))] none [0]) (.seq (.region [oM 9 0,oI 10 (.call 37 0 true [(.t 9),(.c (.str [36,115,104,97,114,101,47]))]),oM 8 10,oI 11 (.ext (.t 8) 0),oI 12 (.ext (.t 8) 1),oM 5 11,oM 6 12] none [6,5,0]) (.seq (.region [oM 14 5,oI 15 (.call 38 0 true [(.t 14),(.c (.str [47]))]),oM 13 15,oI 16 (.ext (.t 13) 0),oI 17 (.ext (.t 13) 1),oI 18 (.ext (.t 13) 2),oM 2 16,oM 3 17,oM 7 18] none [7,6,3,2,0]) (.seq (.seq (.region [oM 19 6,oI 20 (.un .not (.t 19)),oM 21 20,⟨(some 22),(.mov (.t 7)),(some (21,false)),[]⟩,⟨(some 23),(.un .not (.t 22)),(some (21,false)),[]⟩,oI 24 (.pick (.t 21) (.c (.bool true)) (.t 23)),oM 25 24,⟨(some 26),(.mov (.t 0)),(some (25,false)),[]⟩,⟨(some 27),(.call 39 0 true [(.t 26)]),(some (25,false)),[]⟩,⟨(some 28),(.un .not (.t 27)),(some (25,false)),[]⟩,oI 29 (.pick (.t 25) (.c (.bool true)) (.t 28)),oM 30 29,⟨(some 31),(.mov (.t 2)),(some (30,false)),[]⟩,⟨(some 32),(.slen (.t 31)),(some (30,false)),[]⟩,⟨(some 33),(.bin .lss (.t 32) (.c (.int .i64 1))),(some (30,false)),[]⟩,oI 34 (.pick (.t 30) (.c (.bool true)) (.t 33)),oM 35 34,⟨(some 36),(.mov (.t 2)),(some (35,false)),[]⟩,⟨(some 37),(.slen (.t 36)),(some (35,false)),[]⟩,⟨(some 38),(.bin .gtr (.t 37) (.c (.int .i64 16))),(some (35,false)),[]⟩,oI 39 (.pick (.t 35) (.c (.bool true)) (.t 38)),oM 40 39,⟨(some 41),(.mov (.t 2)),(some (40,false)),[]⟩,⟨(some 42),(.call 40 0 true [(.t 41),(.c (.str [43,35]))]),(some (40,false)),[]⟩,oI 43 (.pick (.t 40) (.c (.bool true)) (.t 42)),oM 44 43,⟨(some 45),(.mov (.t 3)),(some (44,false)),[]⟩,⟨(some 46),(.call 41 0 true [(.t 45)]),(some (44,false)),[]⟩,⟨(some 47),(.un .not (.t 46)),(some (44,false)),[]⟩,oI 48 (.pick (.t 44) (.c (.bool true)) (.t 47))] none [48,3,2]) (.cond (.t 48) (.seq (.region [oI 2 (.mov (.c (.str []))),oI 3 (.mov (.c (.str []))),oI 4 (.mov (.c (.bool false)))] none [4,3,2]) .ret) .skip)) (.seq (.region [oM 49 2,oM 50 3,oM 2 49,oM 3 50,oI 4 (.mov (.c (.bool true)))] none [4,3,2]) .ret)))))
def ZmM:Zaj:=⟨[(.tmp 2),(.tmp 3),(.tmp 4)],Zeb⟩
theorem ZEB:FC 21=some ZmM:=by kernel_rfl
theorem Zfp:ZmM.body=Zeb:=rfl
theorem ZeS:ZmM.res=[(.tmp 2),(.tmp 3),(.tmp 4)]:=rfl
def ZnE:ZM:=(.seq (.region [oI 2 (.mov (.c (.bool false)))] none [0]) (.seq (.region [oM 3 0,oI 4 (.slen (.t 3)),oI 5 (.bin .geq (.t 4) (.c (.int .i64 1))),oM 6 5,⟨(some 7),(.mov (.t 0)),(some (6,true)),[]⟩,⟨(some 8),(.slen (.t 7)),(some (6,true)),[]⟩,⟨(some 9),(.bin .leq (.t 8) (.c (.int .i64 64))),(some (6,true)),[]⟩,oI 10 (.pick (.t 6) (.t 9) (.c (.bool false))),oM 11 10,⟨(some 12),(.mov (.t 0)),(some (11,true)),[]⟩,⟨(some 13),(.call 53 0 true [(.t 12)]),(some (11,true)),[]⟩,oI 14 (.pick (.t 11) (.t 13) (.c (.bool false))),oM 2 14] none [2]) .ret))
def ZpH:Zaj:=⟨[(.tmp 2)],ZnE⟩
theorem ZBj:FC 39=some ZpH:=by kernel_rfl
theorem ZF6:ZpH.body=ZnE:=rfl
theorem ZEs:ZpH.res=[(.tmp 2)]:=rfl
end
end Go.Proofs.YtlekmfmkkcpbcaaDoor
