/- packed -/
import Derived.Test.YtjhabjdfhmbanaaGreatDoorMq1
import Derived.Test.YtjhabjdfhmbanaaGreatDoorProg
import Derived.Deep.Slices
import Derived.ChangeArms
import Derived.WideShapes
import GoSem.ClaimChange
import Derived.Lib.TrimUEq
import Derived.Lib.MapLaws
import Derived.Lib.ValidLaws
set_option linter.defProp false
set_option linter.unusedSectionVars false
set_option linter.unusedSimpArgs false
set_option linter.unusedVariables false
open Nat renaming reduceEqDiff→Xa,reduceLT→Xc,reduceAdd→Xd,reduceLeDiff→Xf,reduceBEq→Xg,zero_add→XF,le_refl→XH,add_zero→X6,lt_or_ge→Wz,pow_le_pow_right→W9,le_add_right→Xav,mod_eq_of_lt→Xa3,shiftLeft_eq→Xa5,mul_le_mul→Xbb,mod_lt→Xbe
open Option.some renaming injEq→Xb
open List renaming getD_eq_getElem?_getD→Xh,getElem?_set_ne→Xl,getD_cons_zero→Xm,getElem?_eq_some_iff→Xn,nil_append→Xp,append_nil→Xr,getD_cons_succ→Xs,map_cons→Xu,range_succ→Xv,length_nil→Xw,all_eq_true→Xy,length_cons→Xz,flatMap_cons→XB,map_nil→XC,take_of_length_le→XG,replicate→XI,cons_append→XJ,getElem?_cons_zero→XK,mem_of_getElem?→XL,length_append→XM,getElem?_cons_succ→XN,getElem?_set→XO,flatMap_nil→XQ,length_map→XS,getElem?_set_self→XV,all_cons→XW,all_nil→XX,drop_eq_nil_iff→XY,mem_cons→X0,range→X5,mem_map→X7,isEmpty_nil→X8,getElem?_eq_none→Wb,drop_eq_nil_of_le→Wg,set_cons_succ→Wp,length_drop→Wt,any_cons→Wu,isEmpty_cons→WC,set_cons_zero→WG,drop_take→Xaj,any_eq_false→Xar,drop_zero→Xat,map_map→XaJ,map_take→Xa1
open Bool renaming false_eq_true→Xi,and_eq_true→Xk,and_self→XT,false_and→Wi,true_or→WV,or_true→W7,and_true→Xag,false_ne_true→Xan,and_false→XaZ
open Int renaming reduceBEq→Xj,toNat_natCast→WB,toNat_zero→WE,toNat→Xad,le_refl→Xaf
open Or renaming inl→Xq,inr→Xt
open BitVec renaming ofInt→XR
open Option renaming map→Wf,isSome_none→Xal
open UInt8 renaming toNat_inj→Xa8
namespace Go.Proofs.YtjhabjdfhmbanaaGreatDoor
set_option maxHeartbeats 16000000
set_option maxRecDepth 10000
section
def ZfQ{D:Type}(d:D):List (Nat×D)->Nat->D
 | [],_=>d
 |(k,v)::r,n=>if k=n then v else ZfQ d r n
def ZF(own raw:List Nat)(cfg cfg2:List (Nat×Nat×Bool))(lr ll:List (Nat×List Nat)):Ann:={ own:=fun n=>if own.contains n then 1 else if raw.contains n then 2 else 0,cfg:=ZfQ (0,true) cfg,cfg2:=ZfQ (0,true) cfg2,lr:=ZfQ [] lr,ll:=ZfQ [] ll }
def ZNE:List (Nat×Ann):=[
 (40,ZF [] [] [] [] [(0,[0]),(1,[2])] []),
 (26,ZF [] [] [(53,2,true),(60,1,true),(57,1,true)] [] [(0,[1]),(1,[2,1]),(2,[10,2,1]),(3,[11,10,2,1]),(4,[1]),(5,[15,10,2,1]),(6,[3,2,1]),(7,[3,2,1]),(8,[2,1]),(9,[2,1]),(10,[1]),(11,[37,10,2,1]),(12,[1]),(13,[41,10,2,1]),(14,[41,10,2,1]),(15,[41,10,2,1]),(16,[41,10,2,1]),(17,[1]),(18,[1]),(19,[50,10,2,1]),(20,[1]),(21,[56,10,2,1]),(22,[1]),(23,[61,10,2,1]),(24,[61,10,2,1]),(25,[1]),(26,[67,10,1]),(27,[67,1]),(28,[1]),(29,[])] []),
 (62,ZF [] [] [] [] [(0,[])] []),
 (64,ZF [] [] [] [] [(0,[])] []),
 (55,ZF [] [] [] [] [(0,[0]),(1,[3,0]),(2,[3]),(3,[2])] []),
 (53,ZF [] [] [(94,1,false)] [] [(0,[2,0]),(1,[2,0]),(2,[2,0]),(3,[3,2,0]),(4,[3,2,0]),(5,[3,2,0]),(6,[3,2,0]),(7,[2,0]),(8,[2,0]),(9,[2,0]),(10,[2,0]),(11,[107,2,0]),(12,[2,0]),(13,[2,0]),(14,[2,0]),(15,[129,2,0]),(16,[2,0]),(17,[138,2,0]),(18,[])] []),
 (94,ZF [] [] [(114,1,false)] [] [(0,[0]),(1,[5,4,3,0]),(2,[4,3,0]),(3,[3]),(4,[2])] []),
 (25,ZF [] [] [] [] [(0,[4,1]),(1,[4,1]),(2,[4,1]),(3,[24,4,1]),(4,[]),(5,[4]),(6,[4]),(7,[])] []),
 (58,ZF [] [] [] [] [(0,[0]),(1,[])] []),
 (60,ZF [] [] [] [] [(0,[1,0]),(1,[1,0]),(2,[1,0]),(3,[29,1,0]),(4,[1,0])] [(3,[1,0])]),
 (54,ZF [] [] [] [] [(0,[1,0]),(1,[1,0]),(2,[5,1,0]),(3,[5]),(4,[4])] []),
 (56,ZF [] [] [] [] [(0,[1,0]),(1,[7,6,5,0]),(2,[6,5,0]),(3,[5]),(4,[4])] []),
 (57,ZF [] [] [(97,1,false)] [] [(0,[0]),(1,[13,0]),(2,[0]),(3,[0]),(4,[])] []),
 (59,ZF [] [] [] [] [(0,[7,0]),(1,[0]),(2,[19,0]),(3,[])] []),
 (61,ZF [] [] [] [] [(0,[2,0]),(1,[3,2,0]),(2,[3,2,0]),(3,[3,2,0]),(4,[2,0]),(5,[2,0]),(6,[])] []),
 (63,ZF [] [] [] [] [(0,[0]),(1,[5,4,3,0]),(2,[4,3,0]),(3,[3]),(4,[2])] []),
 (38,ZF [] [] [(81,1,true),(77,1,true),(83,1,true),(78,1,true),(79,1,true),(82,1,true),(80,1,true)] [] [(0,[3,0]),(1,[11,3,0]),(2,[12,11,3,0]),(3,[]),(4,[17,11,3,0]),(5,[3,0]),(6,[3,0]),(7,[]),(8,[32,11,3,0]),(9,[3,0]),(10,[40,3,0]),(11,[3,0]),(12,[3,0]),(13,[]),(14,[55,11,3,0]),(15,[55,11,3,0]),(16,[55,11,3,0]),(17,[55,11,3,0]),(18,[3,0]),(19,[]),(20,[67,11,3,0]),(21,[3,0]),(22,[75,74,73,0]),(23,[76,75,74,73,0]),(24,[75,74,73,5,0]),(25,[75,74,73,5,0]),(26,[75,74,73,0]),(27,[75,74,73,0]),(28,[102,11,3,0]),(29,[3,0]),(30,[110,109,108,0]),(31,[111,110,109,108,0]),(32,[110,109,108,7,0]),(33,[110,109,108,0]),(34,[110,109,108,0]),(35,[118,11,3,0]),(36,[118,11,3,0]),(37,[3,0]),(38,[127,126,125,0]),(39,[128,127,126,125,0]),(40,[127,126,125,9,0]),(41,[127,126,125,0]),(42,[127,126,125,0]),(43,[135,11,3,0]),(44,[135,3,0]),(45,[])] [(23,[75,74,73,0]),(31,[110,109,108,0]),(39,[127,126,125,0])]),
 (77,ZF [] [] [(104,1,true),(78,1,true),(79,1,true),(80,1,true)] [] [(0,[3,0]),(1,[3,0]),(2,[3,0]),(3,[3,0]),(4,[3,0]),(5,[3,0]),(6,[3,0]),(7,[49,3,0]),(8,[3,0]),(9,[3,0]),(10,[3,0]),(11,[66,3,0]),(12,[3,0]),(13,[72,3,0]),(14,[])] []),
 (104,ZF [] [] [(81,1,true)] [] [(0,[4,0]),(1,[])] []),
 (83,ZF [] [] [(78,1,true),(79,1,true)] [] [(0,[3,0]),(1,[3,0]),(2,[])] []),
 (78,ZF [] [] [(81,1,true)] [] [(0,[])] []),
 (79,ZF [] [] [(81,1,true)] [] [(0,[6,0]),(1,[])] []),
 (82,ZF [] [] [(78,1,true),(79,1,true)] [] [(0,[3,0]),(1,[12,3,0]),(2,[3,0]),(3,[20,3,0]),(4,[])] []),
 (80,ZF [] [] [(81,1,true)] [] [(0,[4,0]),(1,[])] []),
 (12,ZF [] [16] [] [] [(0,[9,1,0]),(1,[1,0]),(2,[])] []),
 (13,ZF [] [] [] [] [(0,[0]),(1,[2])] []),
 (31,ZF [] [] [] [] [(0,[0]),(1,[3,0]),(2,[12,3,0]),(3,[3,0]),(4,[30,3,0]),(5,[2]),(6,[4,0]),(7,[37,4,0]),(8,[4,0]),(9,[55,4,0]),(10,[2]),(11,[5,0]),(12,[62,5,0]),(13,[5,0]),(14,[80,5,0]),(15,[2]),(16,[2])] [(2,[3,0]),(7,[4,0]),(12,[5,0])]),
 (32,ZF [] [] [] [] [(0,[0]),(1,[3,0]),(2,[17,3,0]),(3,[3,0]),(4,[4,3,0]),(5,[29,4,3,0]),(6,[4,3,0]),(7,[4,3,0]),(8,[5,0]),(9,[6,5,0]),(10,[49,6,5,0]),(11,[6,5,0]),(12,[7,6,5,0]),(13,[6,5,0]),(14,[8,5,0]),(15,[76,8,5,0]),(16,[8,5,0]),(17,[9,8,5,0]),(18,[10,9,8,5,0]),(19,[89,10,9,8,5,0]),(20,[10,9,8,5,0]),(21,[116,10,9,8,5,0]),(22,[2]),(23,[141,8,5,0]),(24,[2]),(25,[2])] [(2,[3,0]),(5,[4,3,0]),(10,[6,5,0]),(15,[8,5,0]),(19,[10,9,8,5,0])]),
 (34,ZF [] [] [] [] [(0,[0]),(1,[3,0]),(2,[17,3,0]),(3,[3,0]),(4,[4,3,0]),(5,[29,4,3,0]),(6,[4,3,0]),(7,[4,3,0]),(8,[5,0]),(9,[6,5,0]),(10,[48,6,5,0]),(11,[6,5,0]),(12,[7,6,5,0]),(13,[6,5,0]),(14,[8,5,0]),(15,[73,8,5,0]),(16,[8,5,0]),(17,[9,8,5,0]),(18,[10,9,8,5,0]),(19,[86,10,9,8,5,0]),(20,[10,9,8,5,0]),(21,[111,10,9,8,5,0]),(22,[2]),(23,[134,8,5,0]),(24,[2]),(25,[2])] [(2,[3,0]),(5,[4,3,0]),(10,[6,5,0]),(15,[8,5,0]),(19,[10,9,8,5,0])]),
 (33,ZF [] [] [] [] [(0,[0]),(1,[3,0]),(2,[17,3,0]),(3,[3,0]),(4,[4,3,0]),(5,[29,4,3,0]),(6,[4,3,0]),(7,[4,3,0]),(8,[5,0]),(9,[6,5,0]),(10,[49,6,5,0]),(11,[6,5,0]),(12,[7,6,5,0]),(13,[6,5,0]),(14,[8,5,0]),(15,[76,8,5,0]),(16,[8,5,0]),(17,[9,8,5,0]),(18,[10,9,8,5,0]),(19,[89,10,9,8,5,0]),(20,[10,9,8,5,0]),(21,[116,10,9,8,5,0]),(22,[2]),(23,[141,8,5,0]),(24,[2]),(25,[2])] [(2,[3,0]),(5,[4,3,0]),(10,[6,5,0]),(15,[8,5,0]),(19,[10,9,8,5,0])]),
 (27,ZF [] [] [(73,1,true),(72,1,true)] [] [(0,[8,1,0]),(1,[9,8,1,0]),(2,[]),(3,[14,8,1,0]),(4,[4,1,0]),(5,[19,4,1,0]),(6,[4,1,0]),(7,[1,0]),(8,[1,0]),(9,[]),(10,[37,8,1,0]),(11,[1,0]),(12,[48,1,0]),(13,[1,0]),(14,[1,0]),(15,[0]),(16,[]),(17,[71,8,1,0]),(18,[71,8,1,0]),(19,[71,8,1,0]),(20,[71,8,1,0]),(21,[1,0]),(22,[]),(23,[84,8,1,0]),(24,[84,8,1,0]),(25,[1,0]),(26,[1,0]),(27,[]),(28,[104,8,1,0]),(29,[104,8,1,0]),(30,[1,0]),(31,[1,0]),(32,[]),(33,[124,8,1,0]),(34,[124,1,0]),(35,[])] []),
 (73,ZF [] [] [] [] [(0,[16,1,0]),(1,[1,0]),(2,[31,1,0]),(3,[1,0])] [(2,[1,0])]),
 (65,ZF [] [] [] [] [(0,[7,1,0]),(1,[1,0]),(2,[12,1,0]),(3,[1,0]),(4,[4,1,0]),(5,[4,1,0]),(6,[4,1,0]),(7,[4,1,0]),(8,[4,1,0]),(9,[4,1,0]),(10,[4,1,0]),(11,[87,1,0]),(12,[1,0]),(13,[1,0]),(14,[1,0]),(15,[1,0]),(16,[108,1,0]),(17,[1,0]),(18,[1,0]),(19,[1,0]),(20,[130,1,0]),(21,[1,0]),(22,[139,1,0]),(23,[])] []),
 (100,ZF [] [] [] [] [(0,[0]),(1,[10,0]),(2,[2]),(3,[5,4,3,0]),(4,[21,4,3,0]),(5,[]),(6,[2]),(7,[3]),(8,[2])] []),
 (28,ZF [] [] [] [] [(0,[8,1,0]),(1,[])] []),
 (72,ZF [] [] [] [] [(0,[19,1,0]),(1,[1,0]),(2,[34,1,0]),(3,[4,1,0]),(4,[41,4,1,0]),(5,[1,0]),(6,[5,4,1,0]),(7,[55,5,4,1,0]),(8,[5,4,1,0]),(9,[6,1,0]),(10,[78,6,1,0]),(11,[6,1,0]),(12,[1,0])] [(2,[1,0])]),
 (70,ZF [] [] [] [] [(0,[0]),(1,[3,0]),(2,[7,3,0]),(3,[3]),(4,[2])] []),
 (66,ZF [] [] [] [] [(0,[0]),(1,[2])] []),
 (68,ZF [] [] [] [] [(0,[1,0]),(1,[12,1,0]),(2,[4]),(3,[7,6,5,0]),(4,[24,7,6,5,0]),(5,[]),(6,[4]),(7,[5]),(8,[4])] []),
 (67,ZF [] [] [] [] [(0,[1,0]),(1,[5,1,0]),(2,[11,5,0]),(3,[5]),(4,[4])] []),
 (71,ZF [] [] [] [] [(0,[16,1,0]),(1,[1,0]),(2,[38,1,0]),(3,[])] []),
 (101,ZF [] [] [] [] [(0,[1,0]),(1,[19,1,0]),(2,[1]),(3,[4]),(4,[5,1,0]),(5,[5]),(6,[4])] []),
 (69,ZF [] [] [] [] [(0,[0]),(1,[10,0]),(2,[2]),(3,[5,4,3,0]),(4,[21,4,3,0]),(5,[]),(6,[2]),(7,[3]),(8,[2])] []),
 (99,ZF [] [] [] [] [(0,[0]),(1,[2])] []),
 (85,ZF [] [] [] [] [(0,[2,0]),(1,[])] []),
 (43,ZF [] [] [(85,1,true),(86,1,true),(84,1,true),(87,1,true),(90,1,true),(88,1,true),(89,1,true)] [] [(0,[3,0]),(1,[9,3,0]),(2,[10,9,3,0]),(3,[]),(4,[15,9,3,0]),(5,[3,0]),(6,[3,0]),(7,[]),(8,[32,9,3,0]),(9,[3,0]),(10,[40,3,0]),(11,[3,0]),(12,[3,0]),(13,[]),(14,[53,9,3,0]),(15,[53,9,3,0]),(16,[53,9,3,0]),(17,[53,9,3,0]),(18,[3,0]),(19,[]),(20,[65,9,3,0]),(21,[65,9,3,0]),(22,[]),(23,[71,9,3,0]),(24,[3,0]),(25,[3,0]),(26,[4,3,0]),(27,[85,4,3,0]),(28,[4,3,0]),(29,[5,4,3,0]),(30,[5,4,3,0]),(31,[4,3,0]),(32,[117,9,3,0]),(33,[3,0]),(34,[3,0]),(35,[6,3,0]),(36,[131,6,3,0]),(37,[6,3,0]),(38,[6,3,0]),(39,[141,9,3,0]),(40,[141,3,0]),(41,[3,0]),(42,[3,0]),(43,[7,3,0]),(44,[156,7,3,0]),(45,[7,3,0]),(46,[7,3,0])] [(27,[4,3,0]),(36,[6,3,0]),(44,[7,3,0])]),
 (86,ZF [] [] [(85,1,true)] [] [(0,[])] []),
 (84,ZF [] [] [(85,1,true),(110,1,true),(87,1,true),(88,1,true),(89,1,true)] [] [(0,[3,0]),(1,[3,0]),(2,[4,3,0]),(3,[3,0]),(4,[3,0]),(5,[3,0]),(6,[3,0]),(7,[51,3,0]),(8,[3,0]),(9,[3,0]),(10,[3,0]),(11,[68,3,0]),(12,[3,0]),(13,[74,3,0]),(14,[])] []),
 (110,ZF [] [] [(85,1,true)] [] [(0,[5,4,0]),(1,[])] []),
 (87,ZF [] [] [(85,1,true)] [] [(0,[])] []),
 (90,ZF [] [] [(86,1,true),(87,1,true)] [] [(0,[3,0]),(1,[12,3,0]),(2,[3,0]),(3,[20,3,0]),(4,[])] []),
 (88,ZF [] [] [(85,1,true)] [] [(0,[5,4,0]),(1,[])] []),
 (89,ZF [] [] [(85,1,true)] [] [(0,[])] []),
 (130,ZF [] [] [] [] [(0,[]),(2,[]),(7,[4])] []),
 (143,ZF [] [] [] [] [] []),
 (126,ZF [] [] [] [] [(0,[0]),(1,[6,0]),(2,[3,2]),(3,[3,2])] []),
 (95,ZF [] [] [] [] [(0,[0]),(1,[3,0]),(2,[8,7,6,3]),(3,[9,8,7,6,3]),(4,[8,7,6,5,3]),(5,[8,7,6,3]),(6,[8,7,6,3]),(7,[2])] [(3,[8,7,6,3])]),
 (114,ZF [] [] [(36,1,false)] [] [(0,[0]),(1,[17,0]),(2,[4,3,2]),(3,[3,0]),(4,[4,3,2])] []),
 (98,ZF [] [] [] [] [(0,[0]),(1,[5,4,3]),(2,[12,5,4,3]),(3,[4,3,2]),(4,[16,5,3]),(5,[4,3,2]),(6,[4,3,2])] []),
 (115,ZF [] [] [] [] [(0,[2,0]),(1,[9,8,7,2,0]),(2,[10,9,8,7,2,0]),(3,[9,8,7,6,5,2,0]),(4,[15,9,8,7,6,5,2,0]),(5,[9,8,7,6,5,2,0]),(6,[25,9,8,7,6,5,2,0]),(7,[31,5,2]),(8,[4,3,2]),(9,[4,3,2]),(10,[9,8,7,2,0]),(11,[38]),(12,[4,3,2]),(13,[4,3,2])] [(2,[9,8,7,2,0])]),
 (117,ZF [] [] [] [] [(0,[0]),(1,[6,0]),(2,[8,7,6,0]),(3,[6,4,0]),(4,[11,6,0]),(5,[2]),(6,[2])] [(2,[6,0])]),
 (36,ZF [] [] [] [] [(0,[0]),(1,[3,0]),(2,[8,7,6,3]),(3,[9,8,7,6,3]),(4,[8,7,6,5,3]),(5,[8,7,6,3]),(6,[8,7,6,3]),(7,[2])] [(3,[8,7,6,3])]),
 (105,ZF [] [] [] [] [(0,[1,0]),(1,[12,1,0]),(2,[4]),(3,[5,1,0]),(4,[6,5,0]),(5,[18,6,5,0]),(6,[6,5,0]),(7,[6,5,0]),(8,[6,5,0]),(9,[4])] [(5,[6,5,0])]),
 (107,ZF [] [] [] [] [(0,[0]),(1,[6,0]),(2,[3,2]),(3,[3,2])] []),
 (35,ZF [] [] [] [] [(0,[0]),(1,[10,0]),(2,[3,2]),(3,[4,0]),(4,[12,4,0]),(5,[4,0]),(6,[4,0]),(7,[3,2])] [(4,[4,0])]),
 (22,ZF [] [] [] [] [(0,[3,0]),(1,[4])] []),
 (50,ZF [] [] [] [] [(0,[2,1]),(1,[3])] []),
 (18,ZF [] [] [(38,1,true),(36,1,false),(7,2,false)] [] [(0,[2,1]),(1,[4,2,1]),(2,[4,2,1]),(3,[5,2,1]),(4,[32,5,2,1]),(5,[5,2,1]),(6,[7,6,5,2,1]),(7,[9,7,6,5,2,1]),(8,[73,5,2]),(9,[3,2]),(10,[3,2])] []),
 (16,ZF [] [] [(36,1,false)] [] [(0,[1]),(1,[5,4]),(2,[14,5,4]),(3,[3,2]),(4,[6,4]),(5,[3,2])] []),
 (7,ZF [] [] [] [] [(0,[]),(2,[4,3,2,1]),(3,[4,3,2]),(4,[4,3,2]),(5,[3,2])] []),
 (24,ZF [] [] [] [] [(1,[4]),(2,[]),(3,[7,5]),(4,[]),(6,[3,1,0]),(7,[])] []),
 (21,ZF [] [] [] [] [(0,[3,2]),(1,[5,3,2]),(2,[6,5,3,2]),(3,[7,6,5,3,2]),(4,[8,7,6,5,3,2]),(5,[4])] []),
 (49,ZF [] [] [] [] [(0,[0]),(1,[3]),(2,[4,3]),(3,[2]),(4,[15,3]),(5,[15,3]),(6,[2]),(7,[27,3]),(8,[27,3]),(9,[2]),(10,[33,3]),(11,[2]),(12,[45,3]),(13,[2]),(14,[55,3]),(15,[2]),(16,[66]),(17,[2]),(18,[2])] []),
 (39,ZF [] [] [] [] [(0,[0]),(1,[3]),(2,[4,3]),(3,[4,3]),(4,[4]),(5,[2]),(6,[2])] []),
 (41,ZF [] [] [] [] [(0,[1,0]),(1,[5,1]),(2,[4]),(3,[4])] []),
 (52,ZF [] [] [] [] [(0,[5,1]),(1,[])] []),
 (135,ZF [] [] [] [] [(0,[4,1,0]),(1,[10,9,8,4,0]),(2,[11,10,9,8,4,0]),(3,[10,9,8,7,4,0]),(4,[17,10,9,8,7,4,0]),(5,[5,4]),(6,[10,9,8,4,0]),(7,[5,4])] [(2,[10,9,8,4,0])]),
 (142,ZF [] [] [] [] [(0,[0]),(1,[2])] []),
 (106,ZF [] [] [(36,1,false)] [] [(0,[1,0]),(1,[6,1,0]),(2,[16,15,14,6,1,0]),(3,[17,16,15,14,6,1,0]),(4,[16,15,14,8,6,1,0]),(5,[16,15,14,6,1,0]),(6,[16,15,14,6,1,0]),(7,[10,9,6,1,0]),(8,[32,9,6,1,0]),(9,[5,4]),(10,[6,1,0]),(11,[13,12,11,6,1]),(12,[57,6]),(13,[5,4]),(14,[5,4])] [(3,[16,15,14,6,1,0])]),
 (133,ZF [] [] [] [] [(0,[1,0]),(1,[4])] []),
 (96,ZF [] [] [] [] [(0,[4,1,0]),(1,[9,8,7,4,1,0]),(2,[29,8,7,4,1,0]),(3,[6,5,4]),(4,[10,8,7,4,0]),(5,[38,10,8,7,4,0]),(6,[13,12,11,10,8,7,4,0]),(7,[48,13,12,11,10,8,7,4,0]),(8,[6,5,4]),(9,[12,10,8,7,4,0]),(10,[10,8,7,4,0]),(11,[6,5,4])] [(5,[10,8,7,4,0])]),
 (47,ZF [] [] [] [] [(0,[1,0]),(1,[4])] []),
 (92,ZF [] [] [] [] [(0,[3,2]),(1,[4])] []),
 (147,ZF [] [] [] [] [(0,[0]),(1,[3,0]),(2,[8,7,6,3]),(3,[9,8,7,6,3]),(4,[8,7,6,5,3]),(5,[8,7,6,3]),(6,[8,7,6,3]),(7,[2])] [(3,[8,7,6,3])]),
 (145,ZF [] [] [] [] [(0,[2,1]),(1,[2,1]),(2,[2])] []),
 (137,ZF [] [] [] [] [(0,[1]),(1,[4,1]),(2,[5,4,1]),(3,[5,4,1]),(4,[5,4,1]),(5,[5,1]),(6,[2]),(7,[2])] []),
 (127,ZF [] [] [] [] [(0,[1]),(1,[3,1]),(2,[6,5,3,1]),(3,[15,6,5,3,1]),(4,[16,15,6,5,3,1]),(5,[16,15,6,5,3,1]),(6,[16,15,6,5,3,1]),(7,[6,5,3]),(8,[29,15,6,5,3,1]),(9,[6,5,3]),(10,[37,15,6,5,3,1]),(11,[6,5,3]),(12,[45,15,6,5,3,1]),(13,[6,5,3]),(14,[53,6,5,3,1]),(15,[5,3,1]),(16,[6,5,3]),(17,[2])] []),
 (144,ZF [] [] [] [] [(0,[2,0]),(1,[3,2]),(2,[4,3,2]),(3,[2]),(4,[9,3,2]),(5,[2]),(6,[14,3,2]),(7,[14,3,2]),(8,[2]),(9,[20,3,2]),(10,[2]),(11,[25,3,2]),(12,[2]),(13,[30,3,2]),(14,[2]),(15,[35,3,2]),(16,[35,3,2]),(17,[2]),(18,[41,3,2]),(19,[2]),(20,[46,3,2]),(21,[2]),(22,[51,3,2]),(23,[2]),(24,[56,3,2]),(25,[56,3,2]),(26,[2]),(27,[62,3,2]),(28,[2]),(29,[67,3,2]),(30,[2]),(31,[72,3,2]),(32,[2]),(33,[77,3,2]),(34,[77,3,2]),(35,[2]),(36,[83,3,2]),(37,[2]),(38,[88,3,2]),(39,[2]),(40,[93,3,2]),(41,[93,3,2]),(42,[93,3,2]),(43,[93,3,2]),(44,[93,3,2]),(45,[2]),(46,[102,2]),(47,[2]),(48,[2])] []),
 (136,ZF [] [] [] [] [(0,[1,0]),(1,[4])] []),
 (116,ZF [] [] [] [] [(0,[6,2,1,0]),(1,[11,10,9,6,2,1,0]),(2,[28,10,9,6,2,1,0]),(3,[8,7,6]),(4,[12,10,9,7,6,2,0]),(5,[14,12,10,9,7,6,0]),(6,[45,14,10,9,7,6,0]),(7,[8,7,6]),(8,[49,10,9,7,6]),(9,[8,7,6]),(10,[58,10,9,7,6]),(11,[8,7,6]),(12,[65,6]),(13,[8,7,6]),(14,[8,7,6])] []),
 (134,ZF [] [] [] [] [(0,[5,4,1,0]),(1,[5,4,1,0]),(2,[7,5,4,1,0]),(3,[12,7,5,4,1,0]),(4,[13,12,7,5,4,1,0]),(5,[13,12,7,5,4,1,0]),(6,[13,12,7,5,4,1,0]),(7,[7,5,4,1]),(8,[24,7,5,4,1]),(9,[6,5,4]),(10,[7,5,4]),(11,[32,12,7,5,4,1]),(12,[7,5,4]),(13,[41,12,7,5,4,1]),(14,[7,5,4]),(15,[50,12,7,5,4,1]),(16,[7,5,4]),(17,[59,7,5,4,1]),(18,[7,5,4,1]),(19,[69,7,5,4,1]),(20,[5,4,1]),(21,[8,7,5,4]),(22,[7,5,4]),(23,[6,5,4])] []),
 (48,ZF [] [] [] [] [(0,[1,0]),(1,[4])] []),
 (91,ZF [] [] [] [] [(0,[2,1,0]),(1,[14,2,1,0]),(2,[6]),(3,[17,16,15,2,1]),(4,[18,17,16,15,2,1]),(5,[17,16,15,8,7,2,1]),(6,[17,16,15,9,8,2,1]),(7,[30,17,16,15,2,1]),(8,[6]),(9,[17,16,15,2,1]),(10,[6])] [(4,[17,16,15,2,1])]),
 (44,ZF [] [] [] [] [(0,[1,0]),(1,[10,1,0]),(2,[4]),(3,[13,12,1,0]),(4,[14,13,12,1,0]),(5,[13,12,5,1,0]),(6,[24,13,12,1,0]),(7,[4]),(8,[13,12,1,0]),(9,[4])] [(4,[13,12,1,0])]),
 (45,ZF [] [] [] [] [(0,[1,0]),(1,[10,1,0]),(2,[4]),(3,[13,12,1,0]),(4,[14,13,12,1,0]),(5,[13,12,5,1,0]),(6,[24,13,12,1,0]),(7,[4]),(8,[13,12,1,0]),(9,[4])] [(4,[13,12,1,0])]),
 (46,ZF [] [] [] [] [(0,[1,0]),(1,[10,1,0]),(2,[4]),(3,[13,12,1,0]),(4,[14,13,12,1,0]),(5,[13,12,5,1,0]),(6,[24,13,12,1,0]),(7,[4]),(8,[13,12,1,0]),(9,[4])] [(4,[13,12,1,0])]),
 (93,ZF [] [] [] [] [(0,[1,0]),(1,[8,7,1,0]),(2,[9,8,7,1,0]),(3,[8,7,5,1,0]),(4,[16,8,7,5,1,0]),(5,[4]),(6,[8,7,1,0]),(7,[4])] [(2,[8,7,1,0])]),
 (11,ZF [] [] [] [] [(0,[1,0]),(1,[10,1,0]),(2,[4]),(3,[5,1,0]),(4,[30,0]),(5,[4]),(6,[6,0]),(7,[34,6,0]),(8,[6,0]),(9,[6,0]),(10,[4])] [(7,[6,0])]),
 (5,ZF [] [] [] [] [(0,[1,0]),(1,[8,1,0]),(2,[4]),(3,[4])] []),
 (76,ZF [] [] [] [] [(0,[1,0]),(1,[10,1,0]),(2,[4]),(3,[5,1,0]),(4,[14,5,1,0]),(5,[5,1,0]),(6,[25,5,1,0]),(7,[4]),(8,[4])] [(4,[5,1,0])]),
 (6,ZF [] [] [] [] [(0,[0]),(1,[3,0]),(2,[3,0]),(3,[3,0]),(4,[2])] []),
 (20,ZF [] [] [] [] [(0,[1,0]),(1,[4])] []),
 (30,ZF [] [] [] [] [(0,[0]),(1,[3,0]),(2,[2])] []),
 (75,ZF [] [] [] [] [(0,[1,0]),(1,[10,1,0]),(2,[4]),(3,[5,1,0]),(4,[14,5,1,0]),(5,[5,1,0]),(6,[25,5,1,0]),(7,[4]),(8,[4])] [(4,[5,1,0])]),
 (15,ZF [] [] [] [] [(0,[2,1]),(1,[6,2,1]),(2,[2,1]),(3,[14,2,1]),(4,[2,1]),(5,[22,2,1]),(6,[2,1]),(7,[30,2,1]),(8,[2,1]),(9,[39,2,1]),(10,[2,1]),(11,[2,1]),(12,[2])] []),
 (4,ZF [] [] [(12,2,true),(18,1,false),(16,1,false)] [] [(0,[5,4,3,2]),(1,[5,4,3,2]),(2,[10,9,5,4,3,2]),(3,[12,11,10,9,5,4,3,2]),(4,[14,13,12,11,10,9,5,4,3,2]),(5,[16,15,14,13,12,11,10,9,5,4,3,2]),(6,[72,13,9,5,4,3,2]),(7,[8]),(8,[17,13,9,5,4,3,2]),(9,[17,13,5,4,3,2]),(10,[17,5,4,3,2]),(11,[8])] []),
 (3,ZF [] [] [(12,2,true),(7,2,false),(6,1,false)] [] [(0,[1]),(1,[1]),(2,[3,1]),(3,[5,4,3,1]),(4,[7,6,5,4,3,1]),(5,[52,4]),(6,[2]),(7,[8,4]),(8,[8,4]),(9,[8,4]),(10,[8]),(11,[2])] []),
 (10,ZF [] [] [] [] [(0,[0]),(1,[2])] []),
 (14,ZF [] [] [] [] [(0,[]),(1,[2,1]),(2,[4,3,2,1]),(3,[0])] []),
 (131,ZF [] [] [(113,1,false)] [] [(0,[0]),(1,[6,0]),(2,[3,2]),(3,[3,2])] []),
 (118,ZF [] [] [] [] [(0,[0]),(1,[3,0]),(2,[4,3,0]),(3,[8,4,3,0]),(4,[4,3,0]),(5,[4,3,0]),(6,[2])] [(3,[4,3,0])]),
 (119,ZF [] [] [] [] [(0,[0]),(1,[8,0]),(2,[4,3,2]),(3,[5,0]),(4,[17,5,0]),(5,[4,3,2]),(6,[4,3,2])] []),
 (103,ZF [] [] [] [] [(0,[0]),(1,[7,6,5]),(2,[15,7,6,5]),(3,[4,3,2]),(4,[20,6,5]),(5,[4,3,2]),(6,[4,3,2])] []),
 (120,ZF [] [] [] [] [(0,[0]),(1,[6,5,0]),(2,[7,6,5,0]),(3,[9,7,6,5,0]),(4,[7,6,5,0]),(5,[15,7,6,5,0]),(6,[4,3,2]),(7,[7,6,5,0]),(8,[7,6,5,0]),(9,[32,7,6,5,0]),(10,[41,7,5]),(11,[4,3,2]),(12,[4,3,2]),(13,[4,3,2])] [(3,[7,6,5,0])]),
 (125,ZF [] [] [] [] [(0,[0]),(1,[6,0]),(2,[4,3,0]),(3,[17,4,0]),(4,[2]),(5,[0]),(6,[2])] [(1,[0])]),
 (113,ZF [] [] [] [] [(0,[1,0]),(1,[12,1,0]),(2,[4]),(3,[5,1,0]),(4,[6,5,0]),(5,[18,6,5,0]),(6,[6,5,0]),(7,[6,5,0]),(8,[6,5,0]),(9,[4])] [(5,[6,5,0])]),
 (112,ZF [] [] [(131,1,false)] [] [(0,[0]),(1,[6,0]),(2,[3,2]),(3,[3,2])] []),
 (37,ZF [] [] [] [] [(0,[0]),(1,[10,0]),(2,[3,2]),(3,[4,0]),(4,[12,4,0]),(5,[4,0]),(6,[4,0]),(7,[3,2])] [(4,[4,0])]),
 (141,ZF [] [] [] [] [(0,[0]),(1,[4,0]),(2,[4,0]),(3,[3,2]),(4,[11,4,0]),(5,[3,2]),(6,[15,4,0]),(7,[6,5,4,0]),(8,[24,4,0]),(9,[6,5,4,0]),(10,[33,4,0]),(11,[6,5,4,0]),(12,[45,6,5,4,0]),(13,[3,2]),(14,[7,6,5,4,0]),(15,[48,7,6,5,4,0]),(16,[7,6,5,4,0]),(17,[60,7,6,5,4,0]),(18,[3,2]),(19,[7,6,5,4,0]),(20,[83,5,4]),(21,[3,2]),(22,[3,2])] [(15,[7,6,5,4,0])]),
 (74,ZF [] [] [] [] [(0,[3,2]),(1,[4])] []),
 (111,ZF [] [] [] [] [(0,[0]),(1,[4,0]),(2,[5,4,0]),(3,[14,5,4,0]),(4,[5,4,0]),(5,[6,5,4,0]),(6,[28,6,5,4,0]),(7,[3,2]),(8,[6,5,4,0]),(9,[8,7,5,4,0]),(10,[41,7,5,4,0]),(11,[3,2]),(12,[5,4,0]),(13,[10,9,4]),(14,[3,2])] [(3,[5,4,0])]),
 (123,ZF [] [] [] [] [(0,[4,1,0]),(1,[6,4,1,0]),(2,[10,6,4,1,0]),(3,[6,4,1,0]),(4,[19,6,4,1,0]),(5,[5,4]),(6,[5,4])] [(2,[6,4,1,0])]),
 (140,ZF [] [] [] [] [(0,[0]),(1,[3]),(2,[4,3]),(3,[4,3]),(4,[4,3]),(5,[4,3]),(6,[4,3]),(7,[4,3]),(8,[4,3]),(9,[4,3]),(10,[2]),(11,[13,3]),(12,[13,3]),(13,[13,3]),(14,[13,3]),(15,[2]),(16,[18,3]),(17,[18,3]),(18,[18,3]),(19,[18,3]),(20,[2]),(21,[23,3]),(22,[2]),(23,[25,3]),(24,[25,3]),(25,[25,3]),(26,[25,3]),(27,[25,3]),(28,[25,3]),(29,[25,3]),(30,[2]),(31,[33,3]),(32,[33,3]),(33,[2]),(34,[36]),(35,[2]),(36,[2])] []),
 (121,ZF [] [] [] [] [(0,[1,0]),(1,[5,1]),(2,[6,5,1]),(3,[6,5,1]),(4,[6,5,1]),(5,[6,5,1]),(6,[6,5,1]),(7,[4]),(8,[15,5,1]),(9,[4]),(10,[20,5,1]),(11,[4]),(12,[25,5,1]),(13,[25,5,1]),(14,[25,5,1]),(15,[25,5,1]),(16,[25,5,1]),(17,[25,5,1]),(18,[25,5,1]),(19,[25,5,1]),(20,[4]),(21,[36,5,1]),(22,[36,5,1]),(23,[4]),(24,[42,5,1]),(25,[42,5,1]),(26,[4]),(27,[47,5,1]),(28,[4]),(29,[51,5,1]),(30,[4]),(31,[56,5,1]),(32,[4]),(33,[61,5,1]),(34,[61,5,1]),(35,[61,5,1]),(36,[4]),(37,[68,5,1]),(38,[4]),(39,[72,1]),(40,[4]),(41,[4])] []),
 (102,ZF [] [] [] [] [(0,[1,0]),(1,[9,8,7,1,0]),(2,[36,8,7,1,0]),(3,[6,5,4]),(4,[10,8,7,0]),(5,[11,10,8,7,0]),(6,[45,11,10,8,7,0]),(7,[14,13,12,11,10,8,7,0]),(8,[59,13,12,11,10,8,7,0]),(9,[6,5,4]),(10,[17,16,15,13,12,11,10,8,7,0]),(11,[70,16,15,13,12,11,10,8,7,0]),(12,[6,5,4]),(13,[19,16,15,13,12,11,10,8,7,0]),(14,[90,16,15,13,12,11,10,8,7,0]),(15,[6,5,4]),(16,[20,16,15,13,11,10,8,7,0]),(17,[96,20,16,15,13,11,10,8,7,0]),(18,[6,5,4]),(19,[16,13,11,10,8,7,0]),(20,[11,10,8,7,0]),(21,[6,5,4])] [(6,[11,10,8,7,0])]),
 (29,ZF [] [] [] [] [(0,[1,0]),(1,[10,1,0]),(2,[4]),(3,[5,1,0]),(4,[14,5,1,0]),(5,[5,1,0]),(6,[26,5,1,0]),(7,[4]),(8,[4])] [(4,[5,1,0])]),
 (139,ZF [] [] [] [] [(0,[1,0]),(1,[5,1,0]),(2,[9,5,1,0]),(3,[5,1,0]),(4,[17,5,1,0]),(5,[4]),(6,[4])] [(2,[5,1,0])]),
 (132,ZF [] [] [(112,1,false)] [] [(0,[1]),(1,[16,1]),(2,[17,16,1]),(3,[3,2]),(4,[31,16,1]),(5,[3,2]),(6,[45,16,1]),(7,[3,2]),(8,[59,16,1]),(9,[5,4]),(10,[3,2]),(11,[70,16,1]),(12,[7,6]),(13,[3,2]),(14,[81,16,1]),(15,[9,8]),(16,[3,2]),(17,[92,1]),(18,[11,10,1]),(19,[13,12,11,10]),(20,[3,2]),(21,[3,2])] []),
 (124,ZF [] [] [] [] [(0,[1,0]),(1,[5,1]),(2,[6,5,1]),(3,[6,5,1]),(4,[6,5,1]),(5,[6,5,1]),(6,[6,5,1]),(7,[6,5,1]),(8,[6,5,1]),(9,[6,5,1]),(10,[16]),(11,[4]),(12,[17,5,1]),(13,[17,5,1]),(14,[17,5,1]),(15,[22]),(16,[4]),(17,[23,1]),(18,[26]),(19,[4]),(20,[4])] []),
 (122,ZF [] [] [] [] [(0,[4,1,0]),(1,[7,4,1,0]),(2,[8,7,4,1,0]),(3,[26,8,7,4,1]),(4,[27,26,8,7,4,1]),(5,[8,7,4,1]),(6,[29,26,8,7,4,1]),(7,[8,7,4,1]),(8,[31,26,8,7,4,1]),(9,[8,7,4,1]),(10,[33,26,8,7,4,1]),(11,[11,10,9,7,4]),(12,[11,10,7,4]),(13,[6,5,4]),(14,[47,26,8,7,4,1]),(15,[14,13,12,7,4]),(16,[14,13,7,4]),(17,[6,5,4]),(18,[61,26,8,7,4,1]),(19,[17,16,15,7,4]),(20,[17,16,7,4]),(21,[6,5,4]),(22,[77,8,7,4,1]),(23,[20,19,18,7,4,1]),(24,[86,19,18,7,4,1]),(25,[6,5,4]),(26,[22,21,20,19,18,7,4]),(27,[22,20,19,7,4]),(28,[6,5,4]),(29,[109,8,7,4,1]),(30,[6,5,4]),(31,[8,7,4]),(32,[6,5,4])] []),
 (23,ZF [] [] [] [] [(0,[1,0]),(1,[5,1]),(2,[6,5,1]),(3,[4]),(4,[11,5,1]),(5,[11,5,1]),(6,[4]),(7,[17,5,1]),(8,[17,5,1]),(9,[4]),(10,[26,5,1]),(11,[4]),(12,[31,5,1]),(13,[4]),(14,[36,5,1]),(15,[4]),(16,[41,1]),(17,[4]),(18,[4])] []),
 (19,ZF [] [] [(43,1,true)] [] [(0,[2,1]),(1,[16,2,1]),(2,[3,2]),(3,[4,2,1]),(4,[19,4,2,1]),(5,[20,19,4,2,1]),(6,[20,19,4,2,1]),(7,[20,19,4,2,1]),(8,[4,2,1]),(9,[24,4,2,1]),(10,[4,2,1]),(11,[5,4,2,1]),(12,[5,4,2,1]),(13,[6,5,2,1]),(14,[8,7,6,5,2,1]),(15,[72,6,2]),(16,[3,2]),(17,[3,2])] []),
 (17,ZF [] [] [] [] [(0,[1]),(1,[5,4]),(2,[14,5,4]),(3,[3,2]),(4,[7,6,4]),(5,[24,6,4]),(6,[3,2]),(7,[3,2])] []),
 (8,ZF [] [] [(27,1,true)] [] [(0,[2,1]),(1,[4,2,1]),(2,[5,4,2,1]),(3,[6,5,4,2,1]),(4,[29,6,5,4,2,1]),(5,[6,5,4,2,1]),(6,[53,5,4,2,1]),(7,[3,2]),(8,[57,5,4,2,1]),(9,[5,4,2,1]),(10,[5,4,2,1]),(11,[4,2,1]),(12,[76,4,2,1]),(13,[3,2]),(14,[7,4,2]),(15,[7,4,2]),(16,[96,7,4,2]),(17,[7,4,2]),(18,[103,7,4,2]),(19,[3,2]),(20,[3,2])] []),
 (9,ZF [] [] [] [] [(0,[3,2]),(1,[112,3,2]),(2,[4]),(3,[163,3,2]),(4,[4]),(5,[5,3,2]),(6,[168,5,3,2]),(7,[5,3,2]),(8,[181,5,3,2]),(9,[4]),(10,[6,3,2]),(11,[186,6,3,2]),(12,[6,3,2]),(13,[199,6,3,2]),(14,[4]),(15,[7,3,2]),(16,[204,7,3,2]),(17,[7,3,2]),(18,[217,7,3,2]),(19,[4]),(20,[9,8]),(21,[4])] [(6,[5,3,2]),(11,[6,3,2]),(16,[7,3,2])]),
 (51,ZF [] [] [] [] [(0,[1,0]),(1,[5,1,0]),(2,[10,5,1,0]),(3,[5,1,0]),(4,[27,5,1,0]),(5,[4]),(6,[4])] [(2,[5,1,0])]),
 (42,ZF [] [] [] [] [(0,[1,0]),(1,[5,1]),(2,[4]),(3,[4])] []),
 (1000000,{})]
def ann:Nat->Ann:=ZfQ {} ZNE
def ZCL:List (Nat×Bool):=[
 (11,true),
 (12,true),
 (30,true),
 (7,true),(7+2000000,true),
 (96,true),(96+2000000,true),
 (116,true),(116+3000000,true),
 (134,true),(134+3000000,true),
 (1000000,false)]
def BY:Nat->Bool:=ZfQ false ZCL
noncomputable def CF:Nat->Option ZM:=ZkT Tryz.prog ann
noncomputable def FC:Nat->Option ZM:=fun f=>(CF f).map ZnZ
def ZwG:List (Nat×Option (List AVal->Za->Option (AVal×Za))):=[
 (97,some (ZkM 1 1)),
 (138,some (Zt7)),
 (7,some (Zlr)),
 (81,some (Zlr)),
 (32,some (ZkS)),
 (1000000,none)]
def PR:ZcT:=ZfQ none ZwG
theorem xw(c d:Zf)(h:c=d)(m:Nat)(tm:Tms)(G:Za):evC FC PR BY m c tm G=evC FC PR BY m d tm G:=by rw[h]
def pcA:List Nat->Zf->Zf
 |0::p,.seq a _ |0::p,.cond _ a _ |_::p,.block _ a |_::p,.loop _ a=>pcA p a
 |_::p,.seq _ b |_::p,.cond _ _ b=>pcA p b
 |_,c=>c
def prA(x:Zf):List Nat->Zf->Zf
 | [],_=>x
 |0::p,.seq a b=>.seq (prA x p a) b
 |_::p,.seq a b=>.seq a (prA x p b)
 |0::p,.cond c a b=>.cond c (prA x p a) b
 |_::p,.cond c a b=>.cond c a (prA x p b)
 |_::p,.block i a=>.block i (prA x p a)
 |_::p,.loop l a=>.loop l (prA x p a)
 |_,c=>c
noncomputable def ZCR(n:Nat)(p:List Nat)(q:List (List Nat×Zf)):Zf:=match FC n with
 |some f=>q.foldl (fun c x=>prA x.2 x.1 c) (pcA p f.body)
 |none=>.stuck
def Zb(n:Nat)(p:List Nat)(q:List (List Nat×Zf)){c:Zf}(_:ZCR n p q=c):Zf:=c
theorem zi(n:Nat):Int.ofNat (no_index (@OfNat.ofNat Nat n (instOfNatNat n)))=@OfNat.ofNat Int n instOfNat:=rfl
theorem zb(n:Nat)(h:n<2^8):UInt8.ofBitVec (BitVec.ofFin (Fin.mk n h))=@OfNat.ofNat UInt8 n UInt8.instOfNat:=by
 apply Xa8.1;simp[UInt8.toNat];omega
noncomputable abbrev E:ZS:=EV FC PR BY
theorem Zg{f:Nat}{fn:ZM}(hp:PR f=none)(hf:FC f=some fn)(args:List AVal)(G:Za):E f args G=Zaw G.length fn (evC FC PR BY G.length fn.body (enterA 0 args []) G):=ZAz hp hf args G
end
section
def ZqY:Zf:=(.seq (.region [oM 18 3,oM 2 18] none [2]) .ret)
@[irreducible] def Zra:Zf:=ZqY
def ZGo:=xw Zra ZqY (by kernel_rfl)
def Zl2:Zf:=by apply Zb 95 [1,1,0,1,0,0] [];conv=>lhs;reduce;dsimp only[zi]
@[irreducible] def ZqZ:Zf:=Zl2
def ZvP:=xw ZqZ Zl2 (by kernel_rfl)
def Zph:Zf:=by apply Zb 95 [] [([1,1,0,1,0,0],ZqZ),([1,1,1],Zra)];conv=>lhs;reduce;dsimp only[zi]
def Zow:ZM:=⟨[(.tmp 2)],Zph⟩
theorem ZEo:FC 95=some Zow:=by kernel_rfl
theorem ZUU:Zow.body=Zph:=rfl
theorem ZCm:Zow.res=[(.tmp 2)]:=rfl
noncomputable def ZnC(m:Nat)(tm:Tms)(G:Za):Option (AVal×Za):=(Zaw m Zow (Zb0 FC PR BY m Zra (Wf (Zbp 0) (evL FC PR BY m [8,7,6,3] ZqZ tm G))))
def Zkj:Zf:=by apply Zb 114 [] [];conv=>lhs;reduce;dsimp only[zi]
def Zs7:ZM:=⟨[(.tmp 2),(.tmp 3),(.tmp 4)],Zkj⟩
theorem Ztb:FC 114=some Zs7:=by kernel_rfl
theorem ZqE:Zs7.body=Zkj:=rfl
theorem ZqD:Zs7.res=[(.tmp 2),(.tmp 3),(.tmp 4)]:=rfl
def Zlj:Zf:=by apply Zb 98 [] [];conv=>lhs;reduce;dsimp only[zi]
def Ztu:ZM:=⟨[(.tmp 2),(.tmp 3),(.tmp 4)],Zlj⟩
theorem Zzi:FC 98=some Ztu:=by kernel_rfl
theorem Zsg:Ztu.body=Zlj:=rfl
theorem Zqf:Ztu.res=[(.tmp 2),(.tmp 3),(.tmp 4)]:=rfl
def ZkW:Zf:=by apply Zb 115 [1,1] [];conv=>lhs;reduce;dsimp only[zi]
@[irreducible] def ZuA:Zf:=ZkW
def ZtA:=xw ZuA ZkW (by kernel_rfl)
def Zgn:Zf:=by apply Zb 115 [1,0,1,0,0] [];conv=>lhs;reduce;dsimp only[zi]
@[irreducible] def Ztx:Zf:=Zgn
def Zio:=xw Ztx Zgn (by kernel_rfl)
def ZtX:Zf:=by apply Zb 115 [] [([1,0,1,0,0],Ztx),([1,1],ZuA)];conv=>lhs;reduce;dsimp only[zi]
def Zmb:ZM:=⟨[(.tmp 2),(.tmp 3),(.tmp 4)],ZtX⟩
theorem ZHF:FC 115=some Zmb:=by kernel_rfl
theorem ZLT:Zmb.body=ZtX:=rfl
theorem ZjD:Zmb.res=[(.tmp 2),(.tmp 3),(.tmp 4)]:=rfl
noncomputable def Zja(m:Nat)(tm:Tms)(G:Za):Option (AVal×Za):=(Zaw m Zmb (Zb0 FC PR BY m ZuA (Wf (Zbp 0) (evL FC PR BY m [9,8,7,2,0] Ztx tm G))))
def Zrl:Zf:=(.seq (.region [oM 12 0,oI 13 (.call 138 0 true [(.t 12)]),oM 2 13] none [2]) .ret)
@[irreducible] def ZpA:Zf:=Zrl
def ZIV:=xw ZpA Zrl (by kernel_rfl)
def Zka:Zf:=by apply Zb 117 [1,0,1,0,0] [];conv=>lhs;reduce;dsimp only[zi]
@[irreducible] def ZoQ:Zf:=Zka
def ZpB:=xw ZoQ Zka (by kernel_rfl)
def Zup:Zf:=by apply Zb 117 [] [([1,0,1,0,0],ZoQ),([1,1],ZpA)];conv=>lhs;reduce;dsimp only[zi]
def Zmt:ZM:=⟨[(.tmp 2)],Zup⟩
theorem ZHN:FC 117=some Zmt:=by kernel_rfl
theorem ZIa:Zmt.body=Zup:=rfl
theorem Zzy:Zmt.res=[(.tmp 2)]:=rfl
noncomputable def Znf(m:Nat)(tm:Tms)(G:Za):Option (AVal×Za):=(Zaw m Zmt (Zb0 FC PR BY m ZpA (Wf (Zbp 0) (evL FC PR BY m [6,0] ZoQ tm G))))
def Zp3:Zf:=(.seq (.region [oM 16 3,oM 2 16] none [2]) .ret)
@[irreducible] def Zs9:Zf:=Zp3
def ZGm:=xw Zs9 Zp3 (by kernel_rfl)
def ZjR:Zf:=by apply Zb 36 [1,1,0,1,0,0] [];conv=>lhs;reduce;dsimp only[zi]
@[irreducible] def Zti:Zf:=ZjR
def ZpW:=xw Zti ZjR (by kernel_rfl)
def ZuF:Zf:=by apply Zb 36 [] [([1,1,0,1,0,0],Zti),([1,1,1],Zs9)];conv=>lhs;reduce;dsimp only[zi]
def Zm0:ZM:=⟨[(.tmp 2)],ZuF⟩
theorem ZHm:FC 36=some Zm0:=by kernel_rfl
theorem ZLe:Zm0.body=ZuF:=rfl
theorem ZLN:Zm0.res=[(.tmp 2)]:=rfl
noncomputable def Zmg(m:Nat)(tm:Tms)(G:Za):Option (AVal×Za):=(Zaw m Zm0 (Zb0 FC PR BY m Zs9 (Wf (Zbp 0) (evL FC PR BY m [8,7,6,3] Zti tm G))))
def Zsj:Zf:=(.seq (.region [oM 19 3,oM 2 19] none [2]) .ret)
@[irreducible] def Zs8:Zf:=Zsj
def ZJE:=xw Zs8 Zsj (by kernel_rfl)
def Zmf:Zf:=by apply Zb 118 [1,1,0,1,0,0] [];conv=>lhs;reduce;dsimp only[zi]
@[irreducible] def Zrp:Zf:=Zmf
def Zz3:=xw Zrp Zmf (by kernel_rfl)
def Zo1:Zf:=by apply Zb 118 [] [([1,1,0,1,0,0],Zrp),([1,1,1],Zs8)];conv=>lhs;reduce;dsimp only[zi]
def ZlO:ZM:=⟨[(.tmp 2)],Zo1⟩
theorem ZSf:FC 118=some ZlO:=by kernel_rfl
theorem ZIl:ZlO.body=Zo1:=rfl
theorem ZU0:ZlO.res=[(.tmp 2)]:=rfl
noncomputable def ZlR(m:Nat)(tm:Tms)(G:Za):Option (AVal×Za):=(Zaw m ZlO (Zb0 FC PR BY m Zs8 (Wf (Zbp 0) (evL FC PR BY m [4,3,0] Zrp tm G))))
def Zkd:Zf:=by apply Zb 119 [] [];conv=>lhs;reduce;dsimp only[zi]
def ZsA:ZM:=⟨[(.tmp 2),(.tmp 3),(.tmp 4)],Zkd⟩
theorem Zr3:FC 119=some ZsA:=by kernel_rfl
theorem ZsT:ZsA.body=Zkd:=rfl
theorem Zrd:ZsA.res=[(.tmp 2),(.tmp 3),(.tmp 4)]:=rfl
def Zj7:Zf:=by apply Zb 103 [] [];conv=>lhs;reduce;dsimp only[zi]
def Zqg:ZM:=⟨[(.tmp 2),(.tmp 3),(.tmp 4)],Zj7⟩
theorem Zyv:FC 103=some Zqg:=by kernel_rfl
theorem Zt5:Zqg.body=Zj7:=rfl
theorem ZpP:Zqg.res=[(.tmp 2),(.tmp 3),(.tmp 4)]:=rfl
def Zn5:Zf:=(.seq (.region [oI 2 (.mov (.c (.int .i64 0))),oI 3 (.mov (.c (.int .i64 0))),oI 4 (.mov (.c (.int .i64 12)))] none [4,3,2]) .ret)
@[irreducible] def ZrG:Zf:=Zn5
def Zyy:=xw ZrG Zn5 (by kernel_rfl)
def Zgr:Zf:=by apply Zb 120 [1,1,0,1,0,0] [];conv=>lhs;reduce;dsimp only[zi]
@[irreducible] def Zs3:Zf:=Zgr
def Ziw:=xw Zs3 Zgr (by kernel_rfl)
def Zpk:Zf:=by apply Zb 120 [] [([1,1,0,1,0,0],Zs3),([1,1,1],ZrG)];conv=>lhs;reduce;dsimp only[zi]
def ZnF:ZM:=⟨[(.tmp 2),(.tmp 3),(.tmp 4)],Zpk⟩
theorem ZUv:FC 120=some ZnF:=by kernel_rfl
theorem ZPY:ZnF.body=Zpk:=rfl
theorem ZiK:ZnF.res=[(.tmp 2),(.tmp 3),(.tmp 4)]:=rfl
noncomputable def Zgb(m:Nat)(tm:Tms)(G:Za):Option (AVal×Za):=(Zaw m ZnF (Zb0 FC PR BY m ZrG (Wf (Zbp 0) (evL FC PR BY m [7,6,5,0] Zs3 tm G))))
def Ztj:Zf:=(.seq (.region [oI 2 (.mov (.c (.bool true)))] none [2]) .ret)
@[irreducible] def Zqt:Zf:=Ztj
def ZLP:=xw Zqt Ztj (by kernel_rfl)
def ZjJ:Zf:=by apply Zb 125 [1,0,0,0] [];conv=>lhs;reduce;dsimp only[zi]
@[irreducible] def Zus:Zf:=ZjJ
def ZmV:=xw Zus ZjJ (by kernel_rfl)
def Zqn:Zf:=(.seq (.region [oI 2 (.mov (.c (.bool false)))] none [0]) (.seq (.block 0 (.loop [0] Zus)) Zqt))
def Zoy:ZM:=⟨[(.tmp 2)],Zqn⟩
theorem ZGJ:FC 125=some Zoy:=by kernel_rfl
theorem ZBk:Zoy.body=Zqn:=rfl
theorem ZoI:Zoy.res=[(.tmp 2)]:=rfl
noncomputable def Zj9(m:Nat)(tm:Tms)(G:Za):Option (AVal×Za):=(Zaw m Zoy (Zb0 FC PR BY m Zqt (Wf (Zbp 0) (evL FC PR BY m [0] Zus tm G))))
def ZhM:Zf:=by apply Zb 141 [1,1,1,1,1,1] [];conv=>lhs;reduce;dsimp only[zi]
@[irreducible] def Zun:Zf:=ZhM
def ZkZ:=xw Zun ZhM (by kernel_rfl)
def Zf6:Zf:=by apply Zb 141 [1,1,1,1,1,0,1,0,0] [];conv=>lhs;reduce;dsimp only[zi]
@[irreducible] def Ztd:Zf:=Zf6
def Zhi:=xw Ztd Zf6 (by kernel_rfl)
def Zff:Zf:=by apply Zb 141 [] [([1,1,1,1,1,0,1,0,0],Ztd),([1,1,1,1,1,1],Zun)];conv=>lhs;reduce;dsimp only[zi]
def Zon:ZM:=⟨[(.tmp 2),(.tmp 3)],Zff⟩
theorem ZNJ:FC 141=some Zon:=by kernel_rfl
theorem Zgm:Zon.body=Zff:=rfl
theorem ZdE:Zon.res=[(.tmp 2),(.tmp 3)]:=rfl
noncomputable def Zha(m:Nat)(tm:Tms)(G:Za):Option (AVal×Za):=(Zaw m Zon (Zb0 FC PR BY m Zun (Wf (Zbp 1) (evL FC PR BY m [7,6,5,4,0] Ztd tm G))))
end
section
open Go.RowKit
inductive Ty where
 |bool
 |int (k:IntKind)
 |str
 |slice (s:Bool) (e:Ty)
 |struct (fs:List Ty)
 deriving Inhabited
def ZeH:Option TypeDesc->Bool
 |some (.struct _)=>true
 |some (.array _ _)=>true
 |_=>false
def ZkU(P:Program):Nat->List Field->Nat->Bool
 |at',[],n=>at'==n
 |at',f::fs,n=>f.offset==at'&&ZkU P (at'+P.cellsOf f.type) fs n
def Zer(P:Program):Nat->TypeId->Option Ty
 |0,_=>none
 |n+1,t=>match P.underlying t with
  |some .bool=>some .bool
  |some (.int k)=>some (.int k)
  |some .string=>some .str
  |some (.slice e)=>if 0<P.cellsOf e then(Zer P n e).map (.slice (ZeH (P.underlying e)))else none
  |some (.struct fs)=>if ZkU P 0 fs.toList (P.cellsOf t)then(fs.toList.mapM fun f=>Zer P n f.type).map .struct else none
  |_=>none
def ZcD(s:Bool)(y:List AVal):AVal:=if s then .agg y else y.headD .nilp
def Imm.of(w:World):Imm:={ im:=fun b o=>w.cell? ⟨b,o,none⟩,ln:=fun _ _=>none }
section
variable {H:Type}{enc:TypeId×Value->H}{P:Program}{w:World}{spare:Nat->Bool}{held:Bool}
theorem ZHv{b off:Nat}{s:Option Nat}{u:Value}(h:w.cell? ⟨b,off,s⟩=some u):s=none:=by
 unfold World.cell? at h
 split at h
 ·rcases s with _ |s
  ·rfl
  grind
 ·cases h
theorem ZQd{s:Bool}{y:List AVal}(h:s=false->y.length=1)(h1:s=false->∀ x∈y,ZY x=true):(ZcD s y).cells=y:=by
 cases s with
 |true=>rfl
 |false =>
  match y,h rfl with
  | [x],_ =>
   have:=h1 rfl x (by simp)
   cases x<;>simp_all[ZcD,AVal.cells,ZY]
theorem ZNP{a:Addr}(h:a.spot=none)(n:Nat):a.add n=⟨a.block,a.off+n,none⟩:=by
 unfold Addr.add
 split
 ·rename_i e;subst e;cases a;simp_all
 ·rfl
theorem ZQC{I:Imm}{V:Bmap}{xs:List AVal}{vs:List Value}{n:Nat}(h:VRs I V xs (vs.take n)){ys:List AVal}(h':VRs I V ys (vs.drop n)):VRs I V (xs++ys) vs:=by
 have:=Zc2 h h'
 rwa [List.take_append_drop]at this
theorem ZvL{D V:Type}{f:D->Option V}{a:D}{l:List D}{r:List V}(h:(a::l).mapM f=some r):∃ b r',f a=some b/\l.mapM f=some r'/\r=b::r':=by
 rw[List.mapM_cons]at h
 simp only[Option.bind_eq_bind,Option.bind_eq_some_iff,Option.pure_def,Xb]at h
 grind
theorem ZB5{a b:List AVal}(ha:ZaJ a=true)(hb:ZaJ b=true):ZaJ (a++b)=true:=by
 induction a with
 |nil=>exact hb
 |cons x a ih=>simp only[XJ,ZaJ,Xk]at ha ⊢;grind
theorem Zu5{I:Imm}{V:Bmap}{s:Bool}{k b:Nat}:∀ (n off:Nat) (Y:Nat->List AVal),(∀ i,i<n->(ZcD s (Y i)).cells.length=k/\CR I V (ZcD s (Y i)).cells b (off+i*k))->LR I V k ((X5 n).map fun i=>ZcD s (Y i)) b off
 |0,off,Y,_=>by simp[LR]
 |n+1,off,Y,h=>by
  rw[List.range_succ_eq_map,Xu,Zhz]
  have h0:=h 0 (by omega)
  simp only[Nat.zero_mul,X6]at h0
  refine⟨h0,?_⟩
  rw[XaJ]
  exact Zu5 n (off+k) (fun i=>Y (i+1)) (fun i hi=>by
   grind)
theorem ZvC{I:Imm}{V:Bmap}{b:Nat}:∀ (xs:List AVal) (cs:List Value) (off:Nat),VRs I V xs cs->(∀ i,i<cs.length->I b (off+i)=cs[i]?)->CR I V xs b off
 | [],_,_,_,_=>by simp only[CR]
 |x::xs,cs,off,h,hI=>by
  simp only[VRs]at h
  obtain⟨v,vs',rfl,h1,h2⟩:=h
  simp only[CR]
  refine⟨⟨v,by have:=hI 0 (by simp);simpa using this,h1⟩,ZvC xs vs' (off+1) h2 fun i hi=>?_⟩
  have:=hI (i+1) (by simp;omega)
  rw[show off+1+i=off+(i+1)by omega,this]
  simp
theorem ZpI{s:Bool}:∀ (n:Nat) (Y:Nat->List AVal),(∀ i,i<n->ZaJ (ZcD s (Y i)).cells=true)->Zaq ((X5 n).map fun i=>ZcD s (Y i))=true
 |0,Y,_=>by simp[Zaq]
 |n+1,Y,h=>by
  rw[List.range_succ_eq_map,Xu,ZtQ,h 0 (by omega),XaJ]
  simp only[Bool.true_and]
  exact ZpI n (fun i=>Y (i+1)) (fun i hi=>h (i+1) (by omega))
theorem ZAl{xs:List AVal}(h:ZaJ xs=true):∀ x∈xs,ZY x=true:=by
 induction xs with
 |nil=>grind
 |cons y ys ih =>
  simp only[ZaJ,Xk]at h
  intro x hx
  rcases X0.1 hx with rfl |hx
  ·cases x<;>simp_all[ZaM,ZY]
  grind
def GlW(w:World):Prop:=(∀ b o u,Gl b o=some u->w.cell? ⟨b,o,none⟩=some u)/\GB (fun b=>b<w.heap.size) w
theorem Rel.start(w:World)(hG:GlW w):Rel (fun b=>b<w.heap.size) w (Imm.of w) (Imm.of w) B0 [] w where
 below:=KB.refl _ w
 old:=fun _ _ _=>rfl
 imm:=fun b o u h=>(show w.cell? ⟨b,o,none⟩=some u from h)
 blk:=fun t x h=>by simp at h
 own:=fun t x b h=>by simp at h
 apart:=fun t x t' x' b h=>by simp at h
 fresh:=fun _ _ _=>rfl
 free:=fun t g h=>by simp at h
 gen:=fun t b g h=>by simp at h
 glob:=⟨fun b o u h=>(show(Imm.of w).im b o=some u from hG.1 b o u h),hG.2,fun b o u h=>by cases h⟩
theorem ZMu{O:ZS}(hO:ZaN P O){f:Nat}{args:List AVal}{vs:Array Value}{G':Za}(hG:GlW w)(hargs:VRs (Imm.of w) B0 args vs.toList)(h:O f args []=some (.bool true,G')) :
  Calls P f vs w (fun e w'=>e=.returned (.bool true)/\Below w.heap.size w w'):=by
 refine((hO f args [] _ _ h).2 _ w _ _ B0 w vs (fun b hb=>hb) (Rel.start w hG) hargs).mono ?_
 rintro e w' ⟨u,he,I',V',_,_,R,hv⟩
 simp only[ZaY,VR]at hv
 subst hv
 exact⟨he,R.below.os,R.below.tape,R.below.output,R.below.size,R.below.block⟩
end
end
section
open Go.RowKit
theorem ZCq(id:Nat)(tm:Tms)(G:Za):Zbp id (.normal,tm,G)=(.normal,tm,G):=rfl
theorem ZD6(id i:Nat)(tm:Tms)(G:Za):Zbp id (.exit i,tm,G)=if i=id then(.normal,tm,G)else(.exit i,tm,G):=by simp only[Zbp]
theorem ZPg(id:Nat)(tm:Tms)(G:Za):Zbp id (.ret,tm,G)=(.ret,tm,G):=rfl
theorem ZDF(id:Nat)(x:AVal)(tm:Tms)(G:Za):Zbp id (.panic x,tm,G)=(.panic x,tm,G):=rfl
section
variable (O:ZS)(bf:Nat->Bool)
def Ze1(c:Cls):Option (Tms×Za×List Cls×Option AVal)->Option (Tms×Za×List Cls×Option AVal)
 |none=>none
 |some (tm,G,cs,p)=>some (tm,G,c::cs,p)
def Zix(c:List Cls):Option (Tms×Za×List Cls×Option AVal)->Option (Tms×Za×List Cls×Option AVal)
 |none=>none
 |some (tm,G,cs,p)=>some (tm,G,c++cs,p)
def kC(d:Option Nat)(os:List AOp)(s:Nat)(tm:Tms):Option (AVal×Za×Cls)->Option (Tms×Za×List Cls×Option AVal)
 |none=>none
 |some (v,G,c)=>if ZaX v then some (tput tm d v,G,[c],some (ZaY v))else Ze1 c (Zac O bf os s (tput tm d v) G)
def ZfZ(ops:List AOp)(L:Nat)(l:List (Nat×Nat))(live:List Nat):Option (Tms×Za×List Cls×Option AVal)->Option (Za7×Tms×Za)
 |none=>none
 |some (_,G,cs,some x)=>if Zex ops L l cs then some (.panic x,[],G)else none
 |some (tm,G,cs,none)=>if Zek ops L l cs then some (.normal,keepL live tm,G)else none
variable {O bf}
theorem Zv8(s:Nat)(tm:Tms)(G:Za):Zac O bf [] s tm G=some (tm,G,[],none):=rfl
theorem ZRR(c:Cls)(tm:Tms)(G:Za)(cs:List Cls)(p:Option AVal):Ze1 c (some (tm,G,cs,p))=some (tm,G,c::cs,p):=rfl
theorem ZNA(c:Cls):Ze1 c none=none:=rfl
theorem ZNK(c:Cls)(q:Prop)[Decidable q](x y:Option (Tms×Za×List Cls×Option AVal)):Ze1 c (if q then x else y)=if q then Ze1 c x else Ze1 c y:=by split<;>rfl
theorem ZTH(c:List Cls)(tm:Tms)(G:Za)(cs:List Cls)(p:Option AVal):Zix c (some (tm,G,cs,p))=some (tm,G,c++cs,p):=rfl
theorem ZRG(c:List Cls):Zix c none=none:=rfl
theorem ZEK(c:List Cls)(q:Prop)[Decidable q](x y:Option (Tms×Za×List Cls×Option AVal)):Zix c (if q then x else y)=if q then Zix c x else Zix c y:=by split<;>rfl
theorem Znp{o:AOp}{os:List AOp}{s:Nat}{tm tm1:Tms}{G G1:Za}{v:AVal}{c:Cls}(h:ZW O bf o s tm G=some (v,tm1,G1,c))(hn:ZaX v=false):Zac O bf (o::os) s tm G=Ze1 c (Zac O bf os (s+nsite o.ins) tm1 G1):=by
 rw[Zzc h hn]
 cases Zac O bf os (s+nsite o.ins) tm1 G1<;>rfl
theorem Zur(d:Option Nat)(i:Ins)(af:List Nat)(os:List AOp)(s:Nat)(tm:Tms)(G:Za):Zac O bf (⟨d,i,none,af⟩::os) s tm G=kC O bf d os (s+nsite i) tm (exI O bf i s tm G):=by
 cases h:exI O bf i s tm G with
 |none=>exact Zln (by rw[ZnR,h];rfl)
 |some q =>
  obtain⟨v,G1,c⟩:=q
  have hs:ZW O bf ⟨d,i,none,af⟩ s tm G=some (v,tput tm d v,G1,c):=by rw[ZnR,h];rfl
  cases hp:ZaX v with
  |true =>
   obtain⟨x,rfl⟩:=ZlJ hp
   exact Zn2 hs
  |false =>
   rw[Znp hs hp]
   simp only[kC,hp,Xi,if_false]
theorem Zr9(d:Option Nat)(os:List AOp)(s:Nat)(tm:Tms)(v:AVal)(G:Za)(c:Cls)(h:ZaX v=false):kC O bf d os s tm (some (v,G,c))=Ze1 c (Zac O bf os s (tput tm d v) G):=by
 simp only[kC,h,Xi,if_false]
theorem ZG0(d:Option Nat)(os:List AOp)(s:Nat)(tm:Tms)(x:AVal)(G:Za)(c:Cls):kC O bf d os s tm (some (.pan x,G,c))=some (tput tm d (.pan x),G,[c],some x):=rfl
theorem ZNI(d:Option Nat)(os:List AOp)(s:Nat)(tm:Tms):kC O bf d os s tm none=none:=rfl
theorem ZPK(d:Option Nat)(os:List AOp)(s:Nat)(tm:Tms)(q:Prop)[Decidable q](x y:Option (AVal×Za×Cls)):kC O bf d os s tm (if q then x else y)=if q then kC O bf d os s tm x else kC O bf d os s tm y:=by split<;>rfl
theorem ZHw(ops:List AOp)(l:List (Nat×Nat))(live:List Nat)(tm:Tms)(G:Za):Zcn O bf ops (some l) live tm G=ZfZ ops G.length l live (Zac O bf ops G.length tm (G++XI (sitesOf ops) .free)):=by
 unfold Zcn
 cases Zac O bf ops G.length tm (G++XI (sitesOf ops) .free)with
 |none=>rfl
 |some q =>
  obtain⟨tm',G',cs,p⟩:=q
  cases p<;>rfl
theorem ZwV(ops:List AOp)(L:Nat)(l:List (Nat×Nat))(live:List Nat)(tm:Tms)(G:Za)(cs:List Cls)(h:Zek ops L l cs=true):ZfZ ops L l live (some (tm,G,cs,none))=some (.normal,keepL live tm,G):=by
 simp only[ZfZ,h,if_true]
theorem ZjL(ops:List AOp)(L:Nat)(l:List (Nat×Nat))(live:List Nat)(tm:Tms)(G:Za)(cs:List Cls)(x:AVal)(h:Zex ops L l cs=true):ZfZ ops L l live (some (tm,G,cs,some x))=some (.panic x,[],G):=by
 simp only[ZfZ,h,if_true]
theorem ZRi(ops:List AOp)(L:Nat)(l:List (Nat×Nat))(live:List Nat):ZfZ ops L l live none=none:=rfl
theorem ZKo(ops:List AOp)(L:Nat)(l:List (Nat×Nat))(live:List Nat)(q:Prop)[Decidable q](x y:Option (Tms×Za×List Cls×Option AVal)):ZfZ ops L l live (if q then x else y)=if q then ZfZ ops L l live x else ZfZ ops L l live y:=by split<;>rfl
theorem ZE4(ops:List AOp)(L:Nat)(l:List (Nat×Nat))(cs:List Cls)(h:(cs.all fun c=>c.wr.isEmpty && !c.any)=true)(hs:(l.all fun p=>p.1==p.2 ||nsite (ops.getD p.1 default).ins==0)=true):Zek ops L l cs=true:=by
 have hd:∀ i,ZeG (cs.getD i {})=true:=by
  intro i
  rw[Xy]at h
  rw[Xh]
  cases hi:cs[i]? with
  |none=>rfl
  |some c=>exact h c (XL hi)
 unfold Zek
 rw[Xy]at hs ⊢
 intro p hp
 have:=hs p hp
 rw[Bool.or_eq_true]at this ⊢
 rcases this with this |this
 ·grind
 ·refine Xt ?_
  unfold Zda
  grind
theorem ZJ7(ops:List AOp)(L:Nat)(l:List (Nat×Nat))(live:List Nat)(tm:Tms)(G:Za)(cs:List Cls)(h:(cs.all fun c=>c.wr.isEmpty && !c.any)=true)(hs:(l.all fun p=>p.1==p.2 ||nsite (ops.getD p.1 default).ins==0)=true):ZfZ ops L l live (some (tm,G,cs,none))=some (.normal,keepL live tm,G) :=
 ZwV _ _ _ _ _ _ _ (ZE4 _ _ _ _ h hs)
variable (O bf)in
def gKC(os:List AOp)(s:Nat):Option (Tms×Za×List Cls×Option AVal)->Option (Tms×Za×List Cls×Option AVal)
 |none=>none
 |some (tm,G,cs,some x)=>some (tm,G,cs,some x)
 |some (tm,G,cs,none)=>Zix cs (Zac O bf os s tm G)
theorem ZTc(os:List AOp)(s:Nat)(tm:Tms)(G:Za)(cs:List Cls):gKC O bf os s (some (tm,G,cs,none))=Zix cs (Zac O bf os s tm G):=rfl
theorem ZJr(os:List AOp)(s:Nat)(q:Prop)[Decidable q](x y:Option (Tms×Za×List Cls×Option AVal)):gKC O bf os s (if q then x else y)=if q then gKC O bf os s x else gKC O bf os s y:=by split<;>rfl
theorem ZSQ(os:List AOp)(s:Nat)(c:Cls)(r:Option (Tms×Za×List Cls×Option AVal)):gKC O bf os s (Ze1 c r)=Ze1 c (gKC O bf os s r):=by
 cases r with
 |none=>rfl
 |some q =>
  obtain⟨tm,G,cs,p⟩:=q
  cases p with
  |some x=>rfl
  |none =>
   simp only[Ze1,gKC]
   cases Zac O bf os s tm G<;>rfl
theorem ZvR:∀ (a b:List AOp) (s:Nat) (tm:Tms) (G:Za),Zac O bf (a++b) s tm G=gKC O bf b (s+sitesOf a) (Zac O bf a s tm G)
 | [],b,s,tm,G=>by
  simp only[Xp,Zv8,gKC,sitesOf,XC,List.sum_nil,X6]
  cases Zac O bf b s tm G<;>rfl
 |o::a,b,s,tm,G=>by
  have ih:=ZvR a b
  simp only[XJ]
  have hs:s+nsite o.ins+sitesOf a=s+sitesOf (o::a):=by simp[sitesOf,Nat.add_assoc]
  cases hst:ZW O bf o s tm G with
  |none=>rw[Zln hst,Zln hst];rfl
  |some q =>
   obtain⟨v,tm1,G1,c⟩:=q
   cases hp:ZaX v with
   |true =>
    obtain⟨x,rfl⟩:=ZlJ hp
    rw[Zn2 hst,Zn2 hst];rfl
   |false=>rw[Znp hst hp,Znp hst hp,ih,hs,ZSQ]
variable (O bf)in
def ZfF(j:Nat)(w:Bool)(g:List AOp)(s:Nat)(tm:Tms)(G:Za):Option (Tms×Za×List Cls×Option AVal):=match ZbL (some (j,w)) tm with
 |none=>none
 |some false=>some (Z6 g tm,G,g.map fun _=>{},none)
 |some true=>Zac O bf (g.map unG) s tm G
theorem ZxG(j:Nat)(w:Bool):∀ (g:List AOp),(∀ o∈g,o.guard=some (j,w)/\o.dst≠some j)->∀ (s:Nat) (tm:Tms) (G:Za),g≠[]->Zac O bf g s tm G=ZfF O bf j w g s tm G
 | [],_,_,_,_,h=>absurd rfl h
 |o::g,hall,s,tm,G,_=>by
  obtain⟨hg,hd⟩:=hall o (by simp)
  have ih:∀ (tm:Tms) (G:Za) (s:Nat),ZbL (some (j,w)) tm≠none->Zac O bf g s tm G=ZfF O bf j w g s tm G:=by
   intro tm G s hw
   by_cases he:g=[]
   ·subst he
    unfold ZfF
    cases hx:ZbL (some (j,w)) tm with
    |none=>grind
    |some b=>cases b<;>rfl
   ·exact ZxG j w g (fun o ho=>hall o (by simp[ho])) s tm G he
  cases hx:ZbL (some (j,w)) tm with
  |none =>
   rw[Zln (by simp only[ZW,hg,hx])]
   simp only[ZfF,hx]
  |some b =>
   cases b with
   |false =>
    have h1:Zac O bf (o::g) s tm G=Ze1 {} (Zac O bf g (s+nsite o.ins) (tput tm o.dst (.tup [])) G) :=
     Znp (v:=.tup []) (c:={}) (by simp only[ZW,hg,hx]) rfl
    rw[h1,ih _ _ _ (by rw[Zhw hd,hx];simp)]
    unfold ZfF
    rw[Zhw hd,hx]
    rfl
   |true =>
    have key:∀ r:Option (AVal×Za×Cls),(∀ v G' c,r=some (v,G',c)->ZaX v=false->Zac O bf g (s+nsite o.ins) (tput tm o.dst v) G'=Zac O bf (g.map unG) (s+nsite o.ins) (tput tm o.dst v) G')->kC O bf o.dst g (s+nsite o.ins) tm r=kC O bf o.dst (g.map unG) (s+nsite o.ins) tm r:=by
     intro r hr
     cases r with
     |none=>rfl
     |some q =>
      obtain⟨v,G',c⟩:=q
      cases hp:ZaX v with
      |true=>simp only[kC,hp,if_true]
      |false=>rw[Zr9 _ _ _ _ _ _ _ hp,Zr9 _ _ _ _ _ _ _ hp,hr v G' c rfl hp]
    have h1:Zac O bf (o::g) s tm G=kC O bf o.dst g (s+nsite o.ins) tm (exI O bf o.ins s tm G):=by
     have h0:Zac O bf (o::g) s tm G=Zac O bf (⟨o.dst,o.ins,none,o.after⟩::g) s tm G:=by
      have hst:ZW O bf o s tm G=ZW O bf ⟨o.dst,o.ins,none,o.after⟩ s tm G:=by
       unfold ZW
       simp only[hg,hx]
       rfl
      simp only[Zac,hst]
     rw[h0,Zur]
    rw[h1]
    unfold ZfF
    rw[hx]
    simp only[Xu]
    rw[show unG o=⟨o.dst,o.ins,none,o.after⟩from rfl,Zur]
    refine key _ fun v G' c _ _=>?_
    rw[ih _ _ _ (by rw[Zhw hd,hx];simp)]
    unfold ZfF
    rw[Zhw hd,hx]
theorem ZME(d:Option Nat)(i:Ins)(j:Nat)(w:Bool)(af:List Nat)(os:List AOp)(s:Nat)(tm:Tms)(G:Za)(hd:decide (d=some j)=false) :
  Zac O bf (⟨d,i,some (j,w),af⟩::os) s tm G=gKC O bf (Zy j w os).2 (s+sitesOf (⟨d,i,some (j,w),af⟩::(Zy j w os).1)) (ZfF O bf j w (⟨d,i,some (j,w),af⟩::(Zy j w os).1) s tm G):=by
 have h:=ZsQ j w os
 have hall:∀ o∈(⟨d,i,some (j,w),af⟩::(Zy j w os).1:List AOp),o.guard=some (j,w)/\o.dst≠some j:=by
  intro o ho
  rcases X0.1 ho with rfl |ho
  ·grind
  ·exact ZsU j w os o ho
 rw[<-ZxG j w _ hall s tm G (by simp),<-ZvR,XJ,h]
variable (O bf)in
def gWC(w:Bool)(g:List AOp)(s:Nat)(tm:Tms)(G:Za):AVal->Option (Tms×Za×List Cls×Option AVal)
 | .bool b=>if b=w then Zac O bf (g.map unG) s tm G else some (Z6 g tm,G,g.map fun _=>{},none)
 | .tup []=>some (Z6 g tm,G,g.map fun _=>{},none)
 |_=>none
theorem ZNT(j:Nat)(w:Bool)(g:List AOp)(s:Nat)(tm:Tms)(G:Za):ZfF O bf j w g s tm G=gWC O bf w g s tm G (tget tm j):=by
 unfold ZfF ZbL
 simp only
 generalize tget tm j=v
 cases v
 case bool b=>cases b<;>cases w<;>rfl
 case tup vs=>cases vs<;>rfl
 all_goals rfl
theorem ZLW(w:Bool)(g:List AOp)(s:Nat)(tm:Tms)(G:Za)(b:Bool):gWC O bf w g s tm G (.bool b)=if b=w then Zac O bf (g.map unG) s tm G else some (Z6 g tm,G,g.map fun _=>{},none):=rfl
theorem ZIw(w:Bool)(g:List AOp)(s:Nat)(tm:Tms)(G:Za):gWC O bf w g s tm G (.tup [])=some (Z6 g tm,G,g.map fun _=>{},none):=rfl
theorem ZBA(q:Prop)[Decidable q](t1 t2:Tms)(G1 G2:Za)(cs:List Cls):(if q then some (t1,G1,cs,(none:Option AVal))else some (t2,G2,cs,none))=some ((if q then t1 else t2),(if q then G1 else G2),cs,none):=by split<;>rfl
end
section
theorem Zl8{r:AVal}{cs:List AVal}{G:Za}(hr:ZQ r=true)(hc:Ze cs=true):gcA 1 [r] (.var cs::G)=([r],[.var cs]):=by
 have e1:=(Za9 (Zm (.var cs::G) 1 [0]) r hr)
 have e2:=(Z5 (Zm (.var cs::G) 1 [0]) cs hc)
 have h1:Zw 1 [r] (.var cs::G)=[0]:=by
  have : Zl [r]=[]:=by simp only[Zl,e1.2,Xr]
  simp only[Zw,this,List.range_one,XB,XQ,Xr,Xm,ZB,e2.2]
  rfl
 simp only[gcA,h1,Zj,e1.1,Zo,Xm,Zz,e2.1]
theorem Zaj{r:AVal}{cs:List AVal}{G:Za}(hr:ZQ r=true)(hc:Ze cs=true):ZR 1 (.var cs::G) r=some (r,[.var cs]):=by
 simp only[ZR,Zl8 hr hc]
theorem Zet{G:Za}{t:Nat}{cs:List AVal}(hs:G[t]?=some (.var cs))(hc:Ze cs=true):Zt G 1000 [t] []=[t]:=by
 have hd:G.getD t .free=.var cs:=by simp[Xh,hs]
 have e2:=(Z5 (fun _ _=>none) cs hc).2
 show Zt G (999+1) [t] []=[t]
 simp only[Zt,List.contains_nil,Xi,if_false,hd,ZB,e2,Xp]
end
end
section
section
variable (c:Prop)[Decidable c]
theorem ZKf(t1 t2:Tms)(G1 G2:Za):(if c then some (Za7.normal,t1,G1)else some (Za7.normal,t2,G2))=some (Za7.normal,(if c then t1 else t2),(if c then G1 else G2)):=by split<;>rfl
theorem ZUM(t1 t2:Tms)(G1 G2:Za):(if c then some (Za7.ret,t1,G1)else some (Za7.ret,t2,G2))=some (Za7.ret,(if c then t1 else t2),(if c then G1 else G2)):=by split<;>rfl
theorem ZMK(t1 t2:Tms)(G1 G2:Za):(if c then some (t1,G1,(none:Option AVal))else some (t2,G2,none))=some ((if c then t1 else t2),(if c then G1 else G2),none):=by split<;>rfl
theorem ZHJ(n:Nat)(a b:AVal):(if c then(n,a)else(n,b))=(n,if c then a else b):=by split<;>rfl
theorem ZNL(a b:AVal)(G1 G2:Za):(if c then some (a,G1)else some (b,G2))=some ((if c then a else b),(if c then G1 else G2)):=by split<;>rfl
theorem ZKm(a b:AVal)(G1 G2:Za)(x y:Cls):(if c then some (a,G1,x)else some (b,G2,y))=some ((if c then a else b),(if c then G1 else G2),if c then x else y):=by split<;>rfl
end
theorem ZLw{D:Type}(p:Bool)(x y z:D):(if p=true then x else(if p=false then y else z))=if p=true then x else y:=by cases p<;>rfl
theorem ZJM(ops:List AOp)(b:Nat)(cs:List Cls):Zek ops b [] cs=true:=rfl
theorem ZPw(ops:List AOp)(b:Nat)(p:Nat×Nat)(l:List (Nat×Nat))(cs:List Cls):Zek ops b (p::l) cs=((p.1==p.2 ||Zda (ops.getD p.1 default) (ops.getD p.2 default) (cs.getD p.1 {}) (cs.getD p.2 {}) (b+sitesOf (ops.take p.1)))&&Zek ops b l cs):=by
 simp only[Zek,XW]
theorem ZK5(oj oi:AOp)(cj ci:Cls)(sj:Nat):Zda oj oi cj ci sj=(ZcS oj cj ||ZcS oi ci ||(ZeG cj&&ZeG ci&&(nsite oj.ins==0 || !ci.rd.contains sj)) ||((ZaH oj.ins ||(ZaT oj.ins && !cj.any))&&(ZeG ci&&ci.rd.isEmpty)) ||(ZaO oj.ins&&ZaH oi.ins&&ci.any&&ZaS cj ci) ||(ZaO oj.ins&&(ZaT oi.ins ||(Zbj oi.ins&&Zbn cj ci))&&ZaS cj ci) ||(Zbi oj.ins&&Zbg oi.ins) ||(ZaH oj.ins&&ZaO oi.ins&&cj.any&&Zbo cj ci sj)):=rfl
theorem ZDU(o:AOp)(rd wr:List Nat)(any:Bool)(got:List (Nat×Option Nat×Nat×AVal))(upd:List (Nat×List AVal)):ZcS o ⟨rd,wr,any,got,upd⟩=(nsite o.ins==0&&rd.isEmpty&&wr.isEmpty && !any):=rfl
theorem ZKa(rd wr:List Nat)(any:Bool)(got:List (Nat×Option Nat×Nat×AVal))(upd:List (Nat×List AVal)):ZeG ⟨rd,wr,any,got,upd⟩=(wr.isEmpty && !any):=rfl
theorem Zas{D:Type}{l:List D}{i:Nat}{x:D}{r:List D}(h:l.drop i=x::r):l[i]?=some x/\l.drop (i+1)=r/\i<l.length:=by
 have h1:i<l.length:=by
  rcases Wz i l.length with h1 |h1
  ·exact h1
  ·rw[Wg h1]at h;cases h
 rw[List.drop_eq_getElem_cons h1]at h
 injection h with h2 h3
 exact⟨by rw[List.getElem?_eq_getElem h1,h2],h3,h1⟩
theorem Zes{D:Type}{l:List D}{i:Nat}(h:l.drop i=[]):¬(i:Int)<l.length:=by
 have:=XY.1 h;omega
theorem iad{D:Type}{l:List D}{i:Nat}{x:D}(h:l[i]?=some x)(f:D->AVal){k:Nat}(hk:(f x).cells.length=k)(G:Za)(n:Bool)(kk:IntKind):Zc6 G k (.lst n (l.map f)) (.int kk (i:Int))=some (.iptr (f x).cells 0,G,{}):=by
 have h0:(0:Int)<=(i:Int):=Int.natCast_nonneg i
 unfold Zc6
 grind
theorem ZaD{n:Int}(h0:-9223372036854775808<=n)(h:n<=9223372036854775807):IntKind.i64.wrap n=n:=by
 rw[IntKind.wrap_i64];omega
theorem ZPx{D V:Type}{a:List D}{b:List V}(h:a.length=b.length):((a.length:Int) != (b.length:Int))=false:=by simp[h]
theorem ZEm{D V:Type}{a:List D}{b:List V}(h:a.length≠b.length):((a.length:Int) != (b.length:Int))=true:=by
 grind
theorem ZT5{D:Type}[BEq D][LawfulBEq D]{a b:List D}(h:a.length≠b.length):(a==b)=false:=by
 grind
theorem Zd0{i n:Nat}(h:(i:Int)<n)(hn:n<=9223372036854775807):IntKind.i64.wrap ((i:Int)+1)=((i+1:Nat):Int):=by
 rw[ZaD (by omega) (by omega)];rfl
theorem ZdQ{O:ZS}{bf:Nat->Bool}{f:Nat}{args:List AVal}{r:AVal}(h:O f args []=some (r,[]))(hb:bf f=false)(hp:args.all Zai=true)(hn:args.map Z1=args)(hv:ZbP 0 (some (r,[]))=some (r,[]))(hr:∀ sq,Zp (Zak [] [] sq) r=r)(G:Za)(sq own:Nat)(view:Bool):Zq O bf G sq f own view args=some (r,G,{}):=by
 rw[ZhH hb hp,hn,h]
 have : ZV view 0 (some (r,[]))=some (r,[]):=by
  unfold ZV
  split
  ·exact hv
  ·rfl
 rw[this,Zfz _ _ _ _ (hr sq)]
theorem Zjs{D:Type}(G:Za)(k:Nat)(l:List D)(f:D->AVal)(kk:IntKind)(n:Int)(h0:0<=n)(h:n<=(l.length:Int)):ZbO G k (.lst false (l.map f)) none (some (.int kk n)) none=some (.lst false ((l.take n.toNat).map f),G,{}):=by
 simp only[ZbO,Za3,Zdy,XS,h0,h,and_self,if_true,beq_self_eq_true,WV,Xal,Xi,if_false,Wi,Xat,Xa1]
abbrev Zd:=List UInt8
def Z4(b:Zd):AVal:=.lst false (b.map Zh)
structure ZP where
 id:Int
 num:Int
 text:Zd
 pair:Zd
 data:Zd
 deriving DecidableEq
def Zcy(p:ZP):List AVal:=[.int .i64 p.id,.int .i64 p.num,.str p.text,.str p.pair,Z4 p.data]
def Zv(p:ZP):AVal:=.agg (Zcy p)
def ZbI(l:List ZP):AVal:=.lst false (l.map Zv)
def ZrL(l:List Int):AVal:=.lst false (l.map (.int .i64 ·))
theorem ZHz(l:Zd):bytesOf (l.map Zh)=some l:=by
 induction l with
 |nil=>rfl
 |cons b l ih =>
  simp only[Xu,bytesOf,ih,Zh,Zt1,WB,UInt8.ofNat_toNat]
end
section
def Zjc(x:Nat)(b:Zd):Nat:=b.foldl (fun x c=>(x*256+c.toNat)%18446744073709551616) x
def Zce(b:Zd):Nat:=Zjc 0 b
theorem Zdf(x:Nat)(c:UInt8)(b:Zd):Zjc x (c::b)=Zjc ((x*256+c.toNat)%18446744073709551616) b:=rfl
theorem ZeE(x:Nat):Zjc x []=x:=rfl
def gvA(i n:Nat):Zd->Nat×Nat×Int
 | []=>if i<4 then(0,0,11)else(0,0,12)
 |c::r=>if i=4 then(0,0,12)else if c.toNat<128 then(if c=0/\0<i then(0,0,12)else(n+c.toNat%128*128^i,i+1,0))else gvA (i+1) (n+c.toNat%128*128^i) r
def Zar(b:Zd):Nat×Nat×Int:=gvA 0 0 b
def ZL(b:Zd):Zd×Nat×Int :=
 if b.length<2\/b.length-2<Zce (b.take 2)then([],0,11)else((b.drop 2).take (Zce (b.take 2)),2+Zce (b.take 2),0)
end
section
def ZsZ:=(aI (aI (aI (aI (aI (aI @Zvp @ZMo) (aI @ZEy @ZRK)) (aI (aI @ZHW @ZFe) (aI @ZEA @ZIz))) (aI (aI (aI @ZzT @Ztq) (aI @ZMM @ZrY)) (aI (aI @ZIv @ZJo) (aI @ZFf @ZyN)))) (aI (aI (aI (aI @ZwO @Zxj) (aI @ZAx @ZEq)) (aI (aI @ZQF @ZJi) (aI @ZST @ZHD))) (aI (aI (aI @ZQx @ZRv) (aI @ZTD @ZQ4)) (aI (aI @ZKh @ZHz) (aI @ZKf @ZUM))))) (aI (aI (aI (aI (aI @ZMK @ZHJ) (aI @ZNL @ZKm)) (aI (aI @ZR7 @ZCu) (aI @ZNV @ZBt))) (aI (aI (aI @ZT6 @ZPj) (aI @ZD0 @ZHw)) (aI (aI @Zv8 @Zur) (aI @ZME @ZRR)))) (aI (aI (aI (aI @ZNA @ZNK) (aI @ZTH @ZRG)) (aI (aI @ZEK @Zr9) (aI @ZG0 @ZNI))) (aI (aI (aI @ZPK @ZJ7) (aI @ZRi @ZKo)) (aI (aI @ZTc @ZJr) (aI @ZNT @ZLW))))))
def ZT2:=(aI (aI (aI (aI (aI (aI @ZIw @ZBA) (aI @ZCq @ZD6)) (aI (aI @ZPg @ZDF) (aI @ZJM @ZPw))) (aI (aI (aI @ZK5 @ZDU) (aI @ZKa @ZwV)) (aI (aI @ZOW @ZJ5) (aI @ZGR @ZLL)))) (aI (aI (aI (aI @ZCP @ZUp) (aI @ZL3 @ZNY)) (aI (aI @ZAG @ZD7) (aI @ZT0 @ZK1))) (aI (aI (aI @ZCd @ZQE) (aI @ZS7 @ZSu)) (aI (aI @ZLx @ZRD) (aI @ZU4 @ZRX))))) (aI (aI (aI (aI (aI @ZSZ @ZMI) (aI @ZJD @ZMg)) (aI (aI @ZKu @ZCQ) (aI @ZQv @ZUS))) (aI (aI (aI @ZJB @ZR3) (aI @ZId @ZNh)) (aI (aI @ZCY @ZQA) (aI @ZPQ @ZQT)))) (aI (aI (aI (aI @ZQ5 @ZPE) (aI @ZHK @ZPX)) (aI (aI @ZEl @ZLy) (aI @ZR5 @ZDZ))) (aI (aI (aI @ZDt @ZPu) (aI @ZQo @ZMD)) (aI (aI @ZBL @ZHB) (aI @ZJh @Zdb))))))
def Zs:=(aI (aI (aI (aI (aI (aI @ZDm @ZRq) (aI @ZUH @ZLz)) (aI (aI @ZPm @ZIO) (aI @ZJV @ZJx))) (aI (aI (aI @ZKK @ZJp) (aI @ZIj @ZPS)) (aI (aI @ZPk @ZFc) (aI @ZCV @ZE7)))) (aI (aI (aI (aI @ZA0 @ZO3) (aI @ZBJ @ZDw)) (aI (aI @ZLl @ZFT) (aI @ZSJ @ZQk))) (aI (aI (aI @ZD1 @ZQc) (aI @ZOd @ZKR)) (aI (aI @ZMm @ZNC) (aI @ZI0 @ZR8))))) (aI (aI (aI (aI (aI @ZM7 @ZFs) (aI @ZH4 @ZMx)) (aI (aI @ZQR @ZQQ) (aI @ZKW @ZMr))) (aI (aI (aI @ZSn @ZDK) (aI @ZKN @ZTn)) (aI (aI @ZE6 @ZB9) (aI @ZUX @ZD8)))) (aI (aI (aI (aI @ZPy @ZTW) (aI @ZQl @ZQL)) (aI (aI @ZEI @ZOP) (aI @ZK3 @ZM6))) (aI (aI (aI @ZIQ @ZGv) (aI @ZKp @ZI7)) (aI (aI @ZAM @ZF7) (aI @ZDs @ZHX))))))
def Zej:=(aI (aI (aI (aI (aI (aI @ZHP @ZUk) (aI @ZSc @ZUh)) (aI (aI @ZIL @ZIF) (aI @ZFo @ZJy))) (aI (aI (aI @ZG4 @ZIW) (aI @ZL7 @ZQG)) (aI (aI @ZOk @ZCB) (aI @ZOr @ZM3)))) (aI (aI (aI (aI @ZBC @ZIP) (aI @ZEO @ZCc)) (aI (aI @ZJe @ZEv) (aI @ZUZ @ZBH))) (aI (aI (aI @ZJA @ZNR) (aI @ZHb @ZGh)) (aI (aI @ZH5 @ZGe) (aI @ZSg @ZSK))))) (aI (aI (aI (aI (aI @ZUQ @Zvk) (aI @ZKn @ZzF)) (aI (aI @ZUN @ZU7) (aI @ZEr @ZC7))) (aI (aI (aI @Zxs @ZLu) (aI @ZJY @ZBd)) (aI (aI @ZFj @ZQw) (aI @ZRY @ZSj)))) (aI (aI (aI (aI @ZMT @ZTP) (aI @ZOM @ZT8)) (aI (aI @ZAT @ZLM) (aI @ZTm @ZDy))) (aI (aI (aI @ZHy @ZC2) (aI @ZRT @ZSA)) (aI (aI @ZwJ @ZQn) (aI @ZLD @ZTh))))))
def ZE:=(aI (aI (aI (aI (aI (aI @ZIg @ZLd) (aI @ZI3 @ZIM)) (aI (aI @ZSe @Zwt) (aI @ZJP @ZvF))) (aI (aI (aI @ZMH @ZMN) (aI @ZC9 @ZS6)) (aI (aI @Zzm @ZTJ) (aI @ZEp @ZM4)))) (aI (aI (aI (aI @ZJG @ZFx) (aI @ZJf @ZEJ)) (aI (aI @ZMe @ZA3) (aI @ZGM @ZSk))) (aI (aI (aI @ZJj @ZMC) (aI @ZT9 @ZNU)) (aI (aI @ZDM @ZVe) (aI @ZMQ @ZIt))))) (aI (aI (aI (aI (aI @ZKb @Zv9) (aI @ZDX @ZM9)) (aI (aI @ZE5 @ZSI) (aI @ZPC @ZIq))) (aI (aI (aI @ZVa @ZUJ) (aI @ZL0 @ZFp)) (aI (aI @ZOs @ZQX) (aI @ZNb @ZNs)))) (aI (aI (aI (aI @ZO9 @ZKl) (aI @ZLC @ZU1)) (aI (aI @ZQu @ZDz) (aI @ZTs @ZN2))) (aI (aI (aI @ZBE @ZJQ) (aI @ZHY @ZFC)) (aI (aI @ZSN @ZCy) (aI @ZPJ @ZJ1))))))
def ZD4:=(aI (aI (aI (aI (aI (aI @ZK4 @ZL1) (aI @ZIf @ZDe)) (aI (aI @ZFa @ZJK) (aI @ZSi @ZDr))) (aI (aI (aI @ZF2 @ZEX) (aI @ZQJ @ZUD)) (aI (aI @ZDk @ZA6) (aI @ZTk @ZE3)))) (aI (aI (aI (aI @ZRO @ZFV) (aI @ZOj @ZIH)) (aI (aI @ZH0 @ZDN) (aI @ZGq @ZD5))) (aI (aI (aI @ZUb @ZRQ) (aI @ZSz @ZD3)) (aI (aI @ZHq @ZVj) (aI @ZJ9 @ZBb))))) (aI (aI (aI (aI (aI @ZF3 @ZSa) (aI @ZCi @ZTB)) (aI (aI @ZBq @ZMa) (aI @ZFt @ZHI))) (aI (aI (aI @ZGg @ZI8) (aI @ZK9 @ZHt)) (aI (aI @ZVf @ZNS) (aI @ZOI @ZPv)))) (aI (aI (aI (aI @ZNf @ZNu) (aI @ZRL @ZS9)) (aI (aI @ZGD @ZUB) (aI @ZGQ @ZIr))) (aI (aI (aI @ZTS @ZRF) (aI @ZCK @ZUy)) (aI (aI @ZKy @ZJS) (aI @ZTR @ZJb))))))
def Zc:=(aI (aI (aI (aI (aI (aI @ZRd @ZDv) (aI @ZJ4 @ZEs)) (aI (aI @ZBw @ZBP) (aI @ZP6 @ZA7))) (aI (aI (aI @ZC5 @ZF1) (aI @ZH8 @ZTV)) (aI (aI @ZGC @ZJF) (aI @ZJO @ZE9)))) (aI (aI (aI (aI @ZNi @ZSU) (aI @ZEF @ZUT)) (aI (aI @ZFQ @ZO0) (aI @ZIG @ZMq))) (aI (aI (aI @ZRI @ZNW) (aI @ZFJ @ZEU)) (aI (aI @ZIs @ZG2) (aI @ZTe @ZLr))))) (aI (aI (aI (aI (aI @ZEx @ZAQ) (aI @ZIT @ZOi)) (aI (aI @ZN3 @ZBc) (aI @ZJa @ZOC))) (aI (aI (aI @ZRm @ZHs) (aI @ZOH @ZJv)) (aI (aI @ZO4 @ZAU) (aI @ZCj @ZNk)))) (aI (aI (aI (aI @ZMb @ZSB) (aI @ZCA @ZH9)) (aI (aI @ZHh @ZQq) (aI @ZNl @ZCF))) (aI (aI (aI @ZTa @ZBB) (aI @ZGK @ZQH)) (aI (aI @ZLn @ZTN) (aI @ZMh @ZQp))))))
def ZT:=(aI (aI (aI (aI @ZHQ @ZA9) (aI @ZB4 @ZA1)) (aI (aI @ZFR @ZCv) (aI @ZPp @ZGV))) (aI (aI (aI @ZC4 @ZGk) (aI @ZHS @ZP7)) (aI (aI @ZTT @ZNX) (aI @Zaj (aI @ZDT @ZwK)))))
def ZbS:=(aI (aI (aI (aI (aI (aI @List.map_cons.{0,0} @List.map_nil.{0,0}) (aI @List.length_cons.{0} @List.length_nil.{0})) (aI (aI @List.replicate_zero.{0} @List.replicate_succ.{0}) (aI @List.append_nil.{0} @List.nil_append.{0}))) (aI (aI (aI @List.cons_append.{0} @List.getElem?_cons_zero.{0}) (aI @List.getElem?_cons_succ.{0} @List.set_cons_zero.{0})) (aI (aI @List.set_cons_succ.{0} @Nat.add_zero) (aI @Nat.zero_add @Bool.true_or)))) (aI (aI (aI (aI @Bool.false_or @Bool.or_true) (aI @Bool.or_false @Bool.and_true)) (aI (aI @Bool.true_and @Bool.and_self) (aI @Bool.and_false @Bool.false_and))) (aI (aI (aI @if_true.{1} @if_false.{1}) (aI @ite_true.{1} @ite_false.{1})) (aI (aI @Option.map_some.{0,0} @Option.map_none.{0,0}) (aI @and_self @and_true))))) (aI (aI (aI (aI (aI @true_and @and_false) (aI @false_and @true_or)) (aI (aI @or_true @false_or) (aI @or_false @not_true_eq_false))) (aI (aI (aI @not_false_eq_true @List.drop_zero.{0}) (aI @List.drop_succ_cons.{0} @List.take_succ_cons.{0})) (aI (aI @List.take_zero.{0} @List.all_cons.{0}) (aI @List.all_nil.{0} @List.isEmpty_nil.{0})))) (aI (aI (aI (aI @Bool.not_false @Bool.not_true) (aI @List.length_map.{0,0} @Bool.bne_false)) (aI (aI @Bool.bne_true @List.isEmpty_cons.{0}) (aI @List.getD_cons_zero.{0} @List.getD_cons_succ.{0}))) (aI (aI (aI @List.getD_nil.{0} @List.contains_nil.{0}) (aI @List.range_zero @List.flatMap_cons.{0,0})) (aI (aI @List.flatMap_nil.{0,0} @List.zip_cons_cons.{0,0}) (aI @List.zip_nil_left.{0,0} @List.zip_nil_right.{0,0}))))))
def ZbH:=@Nat.not_lt_zero
def EQA:=(aI (aI (aI (aI (aI (aI (aI ZsZ ZT2) (aI ZD4 ZbS)) (aI (aI @exI.eq_1 @nsite.eq_1) (aI @nsite.eq_2 @nsite.eq_3))) (aI (aI (aI @nsite.eq_4 @nsite.eq_5) (aI @nsite.eq_6 @nsite.eq_7)) (aI (aI @nsite.eq_8 @nsite.eq_9) (aI @nsite.eq_10 @nsite.eq_11)))) (aI (aI (aI (aI @freeAt.eq_1 @execI.eq_1) (aI @execI.eq_2 @execI.eq_3)) (aI (aI @execI.eq_4 @execI.eq_5) (aI @execI.eq_6 @execI.eq_7))) (aI (aI (aI @execI.eq_8 @execI.eq_9) (aI @execI.eq_10 @execI.eq_11)) (aI (aI @execI.eq_12 @execI.eq_13) (aI @execI.eq_14 (aI @execI.eq_15 @execI.eq_16)))))) (aI (aI (aI (aI (aI @execI.eq_17 @execI.eq_18) (aI @execI.eq_19 @execI.eq_20)) (aI (aI @execI.eq_21 @execI.eq_22) (aI @execI.eq_23 @execI.eq_24))) (aI (aI (aI @execI.eq_25 @execI.eq_26) (aI @execI.eq_27 @execI.eq_28)) (aI (aI @execI.eq_29 @execI.eq_30) (aI @execI.eq_31 (aI @execI.eq_32 @execI.eq_33))))) (aI (aI (aI (aI @execI.eq_34 @execI.eq_35) (aI @execI.eq_36 @execI.eq_37)) (aI (aI @execI.eq_38 @execI.eq_39) (aI @execI.eq_40 @execI.eq_41))) (aI (aI (aI @execI.eq_42 @execI.eq_43) (aI @execI.eq_44 @execI.eq_45)) (aI (aI @execI.eq_46 @execI.eq_47) (aI @execI.eq_48 (aI @execI.eq_49 @Opd.ev.eq_1))))))) (aI (aI (aI (aI (aI (aI @Opd.ev.eq_2 @tget.eq_1) (aI @tget.eq_2 @tins.eq_1)) (aI (aI @tins.eq_2 @tput.eq_1) (aI @tput.eq_2 @keepL.eq_1))) (aI (aI (aI @sitesOf.eq_1 @resA.eq_1) (aI @resAll.eq_1 @resAll.eq_2)) (aI (aI @resOne.eq_1 @resOne.eq_2) (aI @enterA.eq_1 (aI @enterA.eq_2 @partA.eq_1))))) (aI (aI (aI (aI @partA.eq_2 @faddrA.eq_1) (aI @faddrA.eq_2 @faddrA.eq_3)) (aI (aI @faddrA.eq_4 @setAt.eq_1) (aI @binA.eq_1 @binA.eq_2))) (aI (aI (aI @binA.eq_3 @binA.eq_4) (aI @binA.eq_5 @arithA.eq_1)) (aI (aI @arithA.eq_2 @arithA.eq_3) (aI @arithA.eq_4 (aI @arithA.eq_5 @arithA.eq_6)))))) (aI (aI (aI (aI (aI @arithA.eq_7 @arithA.eq_8) (aI @arithA.eq_9 @arithA.eq_10)) (aI (aI @arithA.eq_11 @arithA.eq_12) (aI @arithA.eq_13 @arithA.eq_14))) (aI (aI (aI @arithA.eq_15 @arithA.eq_16) (aI @ldA.eq_1 @ldA.eq_2)) (aI (aI @ldA.eq_3 @ldA.eq_4) (aI @stA.eq_1 (aI @stA.eq_2 @stA.eq_3))))) (aI (aI (aI (aI @oI.eq_1 @oN.eq_1) (aI @oM.eq_1 @oF.eq_1)) (aI (aI @oL.eq_1 @List.sum_cons.{0}) (aI @List.sum_nil.{0} @eq_self.{1}))) (aI (aI (aI @beq_self_eq_true.{0} @Bool.false_eq_true) (aI @Option.some.injEq.{0} @decide_true)) (aI (aI @decide_false @List.foldl_cons.{0,0}) (aI @List.foldl_nil.{0,0} (aI @List.contains_cons.{0} @ne_eq.{1}))))))))
end
section
theorem Zxi{O:ZS}{bf:Nat->Bool}{G:Za}{sq f own:Nat}{view:Bool}{args:List AVal}(h:args.all Zai=true)(hm:args.map Z1=args) :
  Zq O bf G sq f own view args=Zaz G G [] [] sq own (ZV view 0 (O f args [])):=by
 cases hb:bf f
 ·rw[ZhH hb h,hm]
 ·have hr:=Zd4 h
  have hn:=fun C=>Zd8 (C:=C) h
  rw[hm]at hr
  simp only[hm]at hn
  have hno:args.any Zin=false:=by
   rw[Xar]
   intro x hx
   have hx:=Xy.1 h x hx
   cases x with
   |agg cs =>
    simp only[Zai]at hx
    simp only[Zin]
    rw[Bool.not_eq_true,Xar]
    intro c hc
    have:=Xy.1 hx c hc
    cases c<;>first |exact Xan |(simp[ZaU]at this)
   |_=>first |exact Xan |(simp[Zai,ZaU]at hx)
  have hsm:Zbb bf f G args=some (args,[],[],0):=by
   have hsh:=Zea (G:=G) h
   rw[hm]at hsh
   simp only[Zbb,hb,hno,XaZ,Xi,if_true,if_false,hsh]
   split<;>rfl
  unfold Zq
  rw[hsm]
  simp only
  have h1:Zu G []=G:=rfl
  rw[h1,hr]
  have h2:Zt G 1000 [] []=[]:=rfl
  rw[h2]
  unfold Zbl
  simp only[XX,if_true,hn,Zo,Xw,Zdb]
theorem ZH7{O:ZS}{bf:Nat->Bool}{f:Nat}{args:List AVal}{k n:Nat}{xs:List AVal}(h:O f args []=some (.sl 0 0 0 n,[.row 0 k xs]))(hn:xs.length=n)(hp:args.all Zai=true)(hm:args.map Z1=args)(G:Za)(sq own:Nat):Zq O bf G sq f own true args=some (.lst false xs,G,{}):=by
 rw[Zxi hp hm,h]
 have : ZV true 0 (some (.sl 0 0 0 n,[.row 0 k xs]))=some (.lst false xs,[]):=by
  unfold ZV
  rw[if_pos rfl,ZMp (k:=k) (g:=0) (t:=0) (xs:=xs) rfl (by omega),XG (by omega)]
 rw[this,Zfz _ _ _ _ rfl]
theorem ZUo{O:ZS}{bf:Nat->Bool}{f:Nat}{args:List AVal}{k n:Nat}{xs:List AVal}(h:O f args []=some (.sl 0 0 0 n,[.row 0 k xs]))(hp:args.all Zai=true)(hm:args.map Z1=args)(G:Za)(sq:Nat)(hs:freeAt G sq=true):Zq O bf G sq f 1 false args=some (.sl sq 0 0 n,G.set sq (.row 0 k xs),if xs.all Za5 then{}else{ any:=true }):=by
 rw[Zxi hp hm,h]
 cases hx:xs.all Za5<;>simp[ZV,Zaz,Zgy,hx,Za0,okB,Zn,Zah,hs,Zp,Zak,ZaR,Zba,Zba,ZaB,ZbZ,Zz]
theorem ZxI{O:ZS}{bf:Nat->Bool}{G:Za}{f:Nat}{args vs:List AVal}{ts:List Nat}{r r':AVal}(hb:bf f=false)(hsh:showAs G args=some (vs,ts))(hp:vs.all Zai=true)(hm:vs.map Z1=vs)(h:O f vs []=some (r,[]))(hv:ZbP 0 (some (r,[]))=some (r',[]))(sq own:Nat) :
  Zq O bf G sq f own true args=if ZbB r' then some (r',G,{ rd:=ts })else if Zde G ts r' then some (r',G,{ rd:=ts })else some (Zp (Zak [] [] sq) r',Zu G ts,{ rd:=ts,wr:=ts }):=by
 have hr:=Zd4 hp
 have hn:=fun C=>Zd8 (C:=C) hp
 rw[hm]at hr
 simp only[hm]at hn
 unfold Zq
 rw[Zf0 hb hsh (Zef hp)]
 simp only
 rw[hr]
 have h2:∀ G,Zt G 1000 [] []=[]:=fun _=>rfl
 rw[h2]
 unfold Zbl
 simp only[XX,if_true,hn,Zo,Xw,h,Zdb]
 have : ZV true 0 (some (r,[]))=some (r',[]):=by unfold ZV;grind
 rw[this]
 simp only[Zaz,X8,XT,if_true]
theorem ZuX{O:ZS}{bf:Nat->Bool}{G:Za}{f:Nat}{args vs:List AVal}{ts:List Nat}{r r':AVal}(hb:bf f=false)(hsh:showAs G args=some (vs,ts))(hp:vs.all Zai=true)(hm:vs.map Z1=vs)(h:O f vs []=some (r,[]))(hv:ZbP 0 (some (r,[]))=some (r',[]))(hf:ZbB r'=true)(sq own:Nat) :
  Zq O bf G sq f own true args=some (r',G,{ rd:=ts }):=by
 rw[ZxI hb hsh hp hm h hv,if_pos hf]
theorem ZQ1{O:ZS}{bf:Nat->Bool}{G:Za}{f:Nat}{args vs:List AVal}{ts:List Nat}{r r':AVal}(hb:bf f=false)(hsh:showAs G args=some (vs,ts))(hp:vs.all Zai=true)(hm:vs.map Z1=vs)(h:O f vs []=some (r,[]))(hv:ZbP 0 (some (r,[]))=some (r',[]))(hap:Zde G ts r'=true)(sq own:Nat) :
  Zq O bf G sq f own true args=some (r',G,{ rd:=ts }):=by
 rw[ZxI hb hsh hp hm h hv,if_pos hap]
 split<;>rfl
theorem Zcr{O:ZS}{bf:Nat->Bool}{f:Nat}{args args':List AVal}{r r':AVal}(h:O f args' []=some (r,[]))(hb:bf f=false)(hp:args.all Zai=true)(hn:args.map Z1=args')(hv:ZbP 0 (some (r,[]))=some (r',[]))(hr:∀ sq,Zp (Zak [] [] sq) r'=r')(G:Za)(sq own:Nat):Zq O bf G sq f own true args=some (r',G,{}):=by
 rw[ZhH hb hp,hn,h]
 have : ZV true 0 (some (r,[]))=some (r',[]):=by
  unfold ZV
  rw[if_pos rfl];exact hv
 rw[this,Zfz _ _ _ _ (hr sq)]
theorem ZxU(k n:Nat)(xs:List AVal)(G:Za):ZR 0 (.row 0 k xs::G) (.sl 0 0 0 n)=some (.sl 0 0 0 n,[.row 0 k xs]):=by
 simp[ZR,gcA,Zw,Zt,Zl,ZG,Zm,Zo,ZI,Zn,ZD,Zj,Zp,Zz,ZB]
def ZeT:List AVal->AVal
 | []=>.lst true []
 |x::xs=>.sl 0 0 0 (x::xs).length
def ZeB(k:Nat):List AVal->Za
 | []=>[]
 |x::xs=>[.row 0 k (x::xs)]
theorem Zc4:ZeT []=.lst true []:=rfl
theorem Zk8(x:AVal)(xs:List AVal):ZeT (x::xs)=.sl 0 0 0 (x::xs).length:=rfl
theorem Zc1(k:Nat):ZeB k []=[]:=rfl
theorem Zk4(k:Nat)(x:AVal)(xs:List AVal):ZeB k (x::xs)=[.row 0 k (x::xs)]:=rfl
theorem Zg1(l:Zd):kOk 1 (l.map Zh)=true:=by cases l<;>rfl
end
section
theorem ZUf(x c:Nat)(hc:c<256):IntKind.u64.wrap (((XR IntKind.u64.bits (IntKind.u64.wrap ((x:Int)*2^min (Xad 8) IntKind.u64.bits)) |||XR IntKind.u64.bits (c:Int)).toNat:Nat):Int)=(((x*256+c)%18446744073709551616:Nat):Int):=by
 rw[show(2:Int)^min (Xad 8) IntKind.u64.bits=256 from rfl]
 have hb:IntKind.u64.bits=64:=rfl
 rw[hb,IntKind.wrap_u64,IntKind.wrap_u64]
 have e1:(x:Int)*256%18446744073709551616=((x*256%18446744073709551616:Nat):Int):=by omega
 rw[e1,BitVec.toNat_or]
 simp only[BitVec.ofInt_natCast,BitVec.toNat_ofNat]
 have e2:x*256%18446744073709551616%2^64=(x%72057594037927936)<<<8:=by
  rw[Xa5];omega
 have e3:c%2^64=c:=by omega
 rw[e2,e3,<-Nat.shiftLeft_add_eq_or_of_lt (by omega:c<2^8),Xa5]
 omega
theorem ZzU(b:Zd)(hl:b.length<=9223372036854775807):∀ (r:Zd) (i x:Nat),b.drop i=r->ZnC 0 [(8,.int .i64 i),(7,.int .i64 b.length),(6,.lst false (b.map Zh)),(3,.int .u64 (x:Nat))] []=some (.int .u64 (Zjc x r:Nat),[])
 | [],i,x,h=>by
  have h1:=Zes h
  unfold ZnC
  rw[Z9,ZeE]
  simp -implicitDefEqProofs only[EQA,Zc,Xc,Xa,↓reduceIte,ZCm,ZGo,ZqY,ZvP,Zl2,Zb,h1]
 |c::r,i,x,h=>by
  have ih:=ZzU b hl r (i+1) ((x*256+c.toNat)%18446744073709551616) (Zas h).2.1
  have h1:(i:Int)<b.length:=by have:=(Zas h).2.2;omega
  have e1:=iad (Zas h).1 Zh (k:=1) rfl
  have e3:=Zd0 h1 hl
  have ho:=ZUf x c.toNat c.toNat_lt
  have hc:IntKind.u64.wrap (c.toNat:Int)=(c.toNat:Int):=by rw[IntKind.wrap_u64];have:=c.toNat_lt;omega
  unfold ZnC at ih ⊢
  rw[Z9,Zdf]
  simp -implicitDefEqProofs only[EQA,Zc,ZT,Xc,Xa,Zbh,↓reduceIte,gcT,gcA,Zw,Zt,Zo,ZB,ZvP,Zl2,Zb,h1,e1,e3,ho,hc,Zh,AVal.cells,Int.reduceLT]
  exact ih
theorem ZwH(b:Zd)(hl:b.length<=9223372036854775807):E 95 [Z4 b] []=some (.int .u64 (Zce b:Nat),[]):=by
 have key:=ZzU b hl b 0 0 rfl
 have z0:((0:Nat):Int)=0:=rfl
 rw[z0]at key
 unfold ZnC at key
 unfold Zce
 rw[Zg (by rfl) ZEo]
 simp -implicitDefEqProofs only[EQA,Zc,ZT,Xc,Xa,reduceCtorEq,↓reduceIte,gcT,gcA,Zw,Zt,Zo,ZB,ZUU,Zph,Zb,Z4]
 exact key
theorem ZOz(G:Za)(sq own:Nat)(b:Zd)(hl:b.length<=9223372036854775807)(f:Bool):Zq E BY G sq 95 own true [.lst f (b.map Zh)]=some (.int .u64 (Zce b:Nat),G,{}) :=
 Zcr (ZwH b hl) (by kernel_rfl) rfl rfl rfl (fun _=>rfl) _ _ _
theorem Zws(b:Zd)(hl:b.length<=9223372036854775807):∀ (r:Zd) (i x:Nat),b.drop i=r->ZlR 0 [(4,.int .i64 i),(3,.int .u64 (x:Nat)),(0,.lst false (b.map Zh))] []=some (.int .u64 (Zjc x r:Nat),[])
 | [],i,x,h=>by
  have h1:=Zes h
  unfold ZlR
  rw[Z9,ZeE]
  simp -implicitDefEqProofs only[EQA,Zc,Xc,Xa,reduceCtorEq,↓reduceIte,ZU0,ZJE,Zsj,Zz3,Zmf,Zb,h1]
 |c::r,i,x,h=>by
  have ih:=Zws b hl r (i+1) ((x*256+c.toNat)%18446744073709551616) (Zas h).2.1
  have h1:(i:Int)<b.length:=by have:=(Zas h).2.2;omega
  have e1:=iad (Zas h).1 Zh (k:=1) rfl
  have e3:=Zd0 h1 hl
  have ho:IntKind.u64.wrap (IntKind.u64.wrap ((x:Int)*256)+(c.toNat:Int))=(((x*256+c.toNat)%18446744073709551616:Nat):Int):=by
   rw[IntKind.wrap_u64,IntKind.wrap_u64]
   have:=c.toNat_lt
   omega
  have hc:IntKind.u64.wrap (c.toNat:Int)=(c.toNat:Int):=by rw[IntKind.wrap_u64];have:=c.toNat_lt;omega
  unfold ZlR at ih ⊢
  rw[Z9,Zdf]
  simp -implicitDefEqProofs only[EQA,Zc,ZT,Xc,Xa,reduceCtorEq,↓reduceIte,gcT,gcA,Zw,Zt,Zo,ZB,Zz3,Zmf,Zb,h1,e1,e3,ho,hc,Zh,AVal.cells]
  exact ih
theorem ZQY(b:Zd)(hl:b.length<=9223372036854775807):E 118 [Z4 b] []=some (.int .u64 (Zce b:Nat),[]):=by
 have key:=Zws b hl b 0 0 rfl
 have z0:((0:Nat):Int)=0:=rfl
 rw[z0]at key
 unfold ZlR at key
 unfold Zce
 rw[Zg (by rfl) ZSf]
 simp -implicitDefEqProofs only[EQA,Zc,ZT,Xc,Xa,reduceCtorEq,↓reduceIte,gcT,gcA,Zw,Zt,Zo,ZB,ZIl,Zo1,Zb,Z4]
 exact key
theorem ZlW(G:Za)(sq own:Nat)(b:Zd)(hl:b.length<=9223372036854775807)(f:Bool):Zq E BY G sq 118 own true [.lst f (b.map Zh)]=some (.int .u64 (Zce b:Nat),G,{}) :=
 Zcr (ZQY b hl) (by kernel_rfl) rfl rfl rfl (fun _=>rfl) _ _ _
end
section
theorem Zzz(ls:List Zd)(hl:ls.length<=9223372036854775807):∀ (r:List Zd) (i:Nat) (acc full:Zd),ls.drop i=r->full=acc++r.flatten->full.length<=140737488355328 ->
  Zmg 0 [(8,.int .i64 i),(7,.int .i64 ls.length),(6,.lst false (ls.map Z4)),(3,.sl 0 0 0 acc.length)] [.row 0 1 (acc.map Zh)]=some (.sl 0 0 0 full.length,[.row 0 1 (full.map Zh)])
 | [],i,acc,full,h,hf,hn=>by
  have h1:=Zes h
  have e:full=acc:=by simpa using hf
  subst e
  unfold Zmg
  rw[Z9]
  simp -implicitDefEqProofs only[EQA,Zc,Xc,Xa,↓reduceIte,ZLN,ZGm,Zp3,ZpW,ZjR,Zb,h1,ZxU]
 |p::r,i,acc,full,h,hf,hn=>by
  have ih:=Zzz ls hl r (i+1) (acc++p) full (Zas h).2.1 (by grind) hn
  have h1:(i:Int)<ls.length:=by have:=(Zas h).2.2;omega
  have e1:=iad (Zas h).1 Z4 (k:=1) rfl
  have e3:=Zd0 h1 hl
  have k1:=Zg1 p
  have k2:(acc.length+p.length)*1<=140737488355328:=by have:=congrArg List.length hf;simp at this;omega
  have e4:(acc++p).map Zh=acc.map Zh++p.map Zh:=by simp
  have e5:(acc++p).length=acc.length+p.length:=by simp
  rw[e4,e5]at ih
  clear hf
  unfold Zmg at ih ⊢
  rw[Z9]
  unfold Z4 at e1 ih ⊢
  simp -implicitDefEqProofs only[EQA,Zc,ZT,ZbH,Xd,Xc,Xa,Xg,reduceCtorEq,ZZ,↓reduceIte,gcT,gcA,Zw,Zt,Zm,Zo,ZI,Zn,ZD,Zz,ZB,ZpW,ZjR,Zb,h1,e1,e3,k1,k2,Zan,AVal.cells]
  exact ih
theorem ZEc(p:Zd)(ls:List Zd)(hl:(p::ls).length<=9223372036854775807)(hn:(p::ls).flatten.length<=140737488355328):E 36 [.lst false ((p::ls).map Z4)] []=some (.sl 0 0 0 (p::ls).flatten.length,[.row 0 1 ((p::ls).flatten.map Zh)]):=by
 have key:=Zzz (p::ls) hl ls 1 p (p::ls).flatten rfl rfl hn
 have k1:=Zg1 p
 have k2:p.length*1<=140737488355328:=by simp at hn;omega
 have h1:(0:Int)<((p::ls).length:Int):=by simp
 have hat:(p::ls)[0]?=some p:=rfl
 have e1:=iad hat Z4 (k:=1) rfl
 have z0:((0:Nat):Int)=0:=rfl
 have z1:((1:Nat):Int)=1:=rfl
 have w1:IntKind.i64.wrap (0+1)=1:=rfl
 rw[z0]at e1
 rw[z1]at key
 unfold Zmg at key
 generalize hL:p::ls=L at *
 rw[Zg (by rfl) ZHm]
 unfold Z4 at e1 key ⊢
 simp -implicitDefEqProofs only[EQA,Zc,ZT,Xc,Xa,reduceCtorEq,↓reduceIte,gcT,gcA,Zw,Zt,Zo,ZB,ZLe,ZuF,Zb]
 rw[Z9]
 simp -implicitDefEqProofs only[EQA,Zc,ZT,ZbH,Xc,Xa,Xg,ZZ,↓reduceIte,gcT,gcA,Zw,Zt,Zm,Zo,ZI,Zn,ZD,Zz,ZB,ZpW,ZjR,Zb,h1,e1,w1,k1,k2,Zan,AVal.cells]
 exact key
end
section
def gvT(x:Nat×Nat×Int):AVal:=.tup [.int .i64 (x.1:Nat),.int .i64 (x.2.1:Nat),.int .i64 x.2.2]
theorem ZRZ:∀ n:Fin 256,IntKind.u8.wrap (((XR IntKind.u8.bits ((n.val:Nat):Int)&&&XR IntKind.u8.bits 127).toNat:Nat):Int)=((n.val%128:Nat):Int):=by decide +kernel
theorem ZUu(c:UInt8):IntKind.u8.wrap (((XR IntKind.u8.bits (c.toNat:Int)&&&XR IntKind.u8.bits 127).toNat:Nat):Int)=((c.toNat%128:Nat):Int):=ZRZ ⟨c.toNat,c.toNat_lt⟩
theorem ZsK(i:Nat):128^i=2^(7*i):=by rw[Nat.pow_mul]
theorem ZGp(n a i:Nat)(hi:i<=3)(hn:n<128^i)(ha:a<128):IntKind.i64.wrap (((XR IntKind.i64.bits (n:Int) |||XR IntKind.i64.bits ((a*128^i:Nat):Int)).toNat:Nat):Int)=((n+a*128^i:Nat):Int):=by
 have hb:IntKind.i64.bits=64:=rfl
 have hp:128^i<=128^3:=W9 (by decide) hi
 have hm:a*128^i<=127*128^3:=Xbb (by omega) hp
 rw[hb,BitVec.toNat_or]
 simp only[BitVec.ofInt_natCast,BitVec.toNat_ofNat]
 have e1:n%2^64=n:=Xa3 (by omega)
 have e2:a*128^i%2^64=a*128^i:=Xa3 (by omega)
 rw[e1,e2]
 have e3:a*128^i=a<<<(7*i):=by rw[Xa5,ZsK]
 have e4:n |||a*128^i=n+a*128^i:=by
  rw[e3,Nat.or_comm,<-Nat.shiftLeft_add_eq_or_of_lt (by rw[<-ZsK];exact hn)]
  omega
 rw[e4,ZaD (by omega) (by omega)]
theorem ZNM(a i:Nat)(hi:i<=3)(ha:a<128):IntKind.i64.wrap ((a:Int)*2^min (Xad ((7*i:Nat):Int)) IntKind.i64.bits)=((a*128^i:Nat):Int):=by
 have hp:128^i<=128^3:=W9 (by decide) hi
 have hm:a*128^i<=127*128^3:=Xbb (by omega) hp
 have e:min (Xad ((7*i:Nat):Int)) IntKind.i64.bits=7*i:=by
  have hb:IntKind.i64.bits=64:=rfl
  rw[hb];omega
 have e2:((a:Int)*2^(7*i))=((a*128^i:Nat):Int):=by rw[ZsK];simp
 rw[e,e2,ZaD (by omega) (by omega)]
theorem ZoY(n i a:Nat)(hn:n<128^i)(ha:a<128):n+a*128^i<128^(i+1):=by
 have : a*128^i<=127*128^i:=Nat.mul_le_mul_right _ (by omega)
 rw[Nat.pow_succ];omega
theorem ZwQ(b:Zd)(hl:b.length<=9223372036854775807):∀ (r:Zd) (i n:Nat),i<=4->i<=b.length->n<128^i->b.drop i=r ->
  Zja 0 [(9,.int .i64 i),(8,.int .i64 b.length),(7,.lst false (b.map Zh)),(2,.int .i64 n),(0,.lst false (b.map Zh))] []=some (gvT (gvA i n r),[])
 | [],i,n,hi,hib,hn,h=>by
  have h1:=Zes h
  unfold Zja
  rw[Z9,gvA]
  by_cases h4:i<4
  ·have h5:(b.length:Int)<4:=by omega
   simp -implicitDefEqProofs only[EQA,Zc,Xc,Xa,reduceCtorEq,↓reduceIte,Ze,ZjD,ZtA,ZkW,Zio,Zgn,Zb,h1,h4,h5,gvT]
   rfl
  ·have h5:¬(b.length:Int)<4:=by omega
   simp -implicitDefEqProofs only[EQA,Zc,Xc,Xa,reduceCtorEq,↓reduceIte,Ze,ZjD,ZtA,ZkW,Zio,Zgn,Zb,h1,h4,h5,gvT]
   rfl
 |c::r,i,n,hi,hib,hn,h=>by
  have hlt:=(Zas h).2.2
  have h1:(i:Int)<b.length:=by omega
  have e1:=iad (Zas h).1 Zh (k:=1) rfl
  have e3:=Zd0 h1 hl
  rw[gvA]
  by_cases h4:i=4
  ·have h5:¬(b.length:Int)<4:=by omega
   have h6:((i:Int)==4)=true:=by simp;omega
   rw[if_pos h4]
   unfold Zja
   rw[Z9]
   simp -implicitDefEqProofs only[EQA,Zc,Xc,Xa,reduceCtorEq,↓reduceIte,Ze,ZjD,ZtA,ZkW,Zio,Zgn,Zb,h1,e1,h5,h6,gvT,Zh,AVal.cells]
   rfl
  ·have h6:((i:Int)==4)=false:=by simp;omega
   have hm:=ZUu c
   have ha:c.toNat%128<128:=Xbe _ (by decide)
   have hi64:IntKind.i64.wrap ((c.toNat%128:Nat):Int)=((c.toNat%128:Nat):Int):=ZaD (by omega) (by omega)
   have h7:IntKind.i64.wrap (7*(i:Int))=((7*i:Nat):Int):=by rw[ZaD (by omega) (by omega)];omega
   have hneg:¬((7*i:Nat):Int)<0:=by omega
   have hs:=ZNM (c.toNat%128) i (by omega) ha
   have ho:=ZGp n (c.toNat%128) i (by omega) hn ha
   by_cases hc:c.toNat<128
   ·have hc':(c.toNat:Int)<128:=by omega
    unfold Zja
    rw[Z9]
    by_cases hc0:c=0
    ·have hc1:((c.toNat:Int)==0)=true:=by rw[hc0];rfl
     by_cases hip:0<i
     ·have hip':(i:Int)>0:=by omega
      have hcc:c=0/\0<i:=⟨hc0,hip⟩
      simp -implicitDefEqProofs only[EQA,Zc,ZT,Zc9,Zve,Xc,Xa,Zbh,Zy,Z6,unG,reduceCtorEq,decide_eq_true_eq,ite_self,↓reduceIte,Ze,gcT,gcA,Zw,Zt,Zo,ZB,ZjD,Zio,Zgn,Zb,h1,e1,h4,h6,h7,hneg,hip',hcc,gvT,Zh,AVal.cells]
      rfl
     ·have hip':¬(i:Int)>0:=by omega
      have hcc:¬(c=0/\0<i):=fun h=>hip h.2
      simp -implicitDefEqProofs only[EQA,Zc,Xc,Xa,Zbh,Zy,unG,reduceCtorEq,↓reduceIte,Ze,ZjD,Zio,Zgn,Zb,h1,e1,h4,h6,hm,hi64,h7,hneg,hs,ho,hc,hc',hc1,hip',hcc,e3,gvT,Zh,AVal.cells]
    ·have hc1:((c.toNat:Int)==0)=false:=by
      have : c.toNat≠0:=fun h=>hc0 (Xa8.1 (by grind))
      simp;omega
     have hcc:¬(c=0/\0<i):=fun h=>hc0 h.1
     simp -implicitDefEqProofs only[EQA,Zc,Xc,Xa,Zbh,Zy,Z6,reduceCtorEq,↓reduceIte,Ze,ZjD,Zio,Zgn,Zb,h1,e1,h4,h6,hm,hi64,h7,hneg,hs,ho,hc,hc',hc1,hcc,e3,gvT,Zh,AVal.cells]
   ·have hc':¬(c.toNat:Int)<128:=by omega
    have ih:=ZwQ b hl r (i+1) (n+c.toNat%128*128^i) (by omega) (by omega) (ZoY n i _ hn ha) (Zas h).2.1
    unfold Zja at ih ⊢
    rw[Z9]
    simp -implicitDefEqProofs only[EQA,Zc,ZT,Xc,Xa,Zbh,reduceCtorEq,↓reduceIte,gcT,gcA,Zw,Zt,Zo,ZB,Zio,Zgn,Zb,h1,e1,h4,h6,hm,hi64,h7,hneg,hs,ho,hc,hc',e3,Zh,AVal.cells]
    exact ih
theorem ZPa(b:Zd)(hl:b.length<=9223372036854775807):E 115 [Z4 b] []=some (gvT (Zar b),[]):=by
 have key:=ZwQ b hl b 0 0 (by omega) (by omega) (by simp) rfl
 have z0:((0:Nat):Int)=0:=rfl
 rw[z0]at key
 unfold Zja at key
 unfold Zar
 rw[Zg (by rfl) ZHF]
 simp -implicitDefEqProofs only[EQA,Zc,ZT,Xc,Xa,reduceCtorEq,↓reduceIte,gcT,gcA,Zw,Zt,Zo,ZB,ZLT,ZtX,Zb,Z4]
 exact key
theorem ZyE(b:Zd)(hl:b.length<=9223372036854775807):∀ (r:Zd) (i n:Nat),i<=4->i<=b.length->n<128^i->b.drop i=r ->
  Zgb 0 [(7,.int .i64 i),(6,.int .i64 (128^i:Nat)),(5,.int .i64 n),(0,.lst false (b.map Zh))] []=some (gvT (gvA i n r),[])
 | [],i,n,hi,hib,hn,h=>by
  have h1:i=b.length:=by have:=XY.1 h;omega
  rw[gvA]
  by_cases h4:i<4
  ·have h5:(i:Int)<4:=by omega
   have h6:((i:Int)==(b.length:Int))=true:=by simp;omega
   rw[if_pos h4]
   unfold Zgb
   rw[Z9]
   simp -implicitDefEqProofs only[EQA,Zc,Xc,Xa,reduceCtorEq,↓reduceIte,Ze,ZiK,Ziw,Zgr,Zb,h5,h6,gvT]
   rfl
  ·have h5:¬(i:Int)<4:=by omega
   rw[if_neg h4]
   unfold Zgb
   rw[Z9]
   simp -implicitDefEqProofs only[EQA,Zc,Xc,Xa,reduceCtorEq,↓reduceIte,Ze,ZiK,Zyy,Zn5,Ziw,Zgr,Zb,h5,gvT]
   rfl
 |c::r,i,n,hi,hib,hn,h=>by
  have hlt:=(Zas h).2.2
  have e1:=iad (Zas h).1 Zh (k:=1) rfl
  have e3:=Zd0 (show(i:Int)<b.length by omega) hl
  rw[gvA]
  by_cases h4:i=4
  ·have h5:¬(i:Int)<4:=by omega
   rw[if_pos h4]
   unfold Zgb
   rw[Z9]
   simp -implicitDefEqProofs only[EQA,Zc,Xc,Xa,reduceCtorEq,↓reduceIte,Ze,ZiK,Zyy,Zn5,Ziw,Zgr,Zb,h5,gvT]
   rfl
  ·have h5:(i:Int)<4:=by omega
   have h6:((i:Int)==(b.length:Int))=false:=by simp;omega
   have ha:c.toNat%128<128:=Xbe _ (by decide)
   have hp:128^i<=128^3:=W9 (by decide) (by omega)
   have hmul:c.toNat%128*128^i<=127*128^3:=Xbb (by omega) hp
   have hz:((128:Int)=0)=False:=by simp
   have hm:(c.toNat:Int).tmod 128=((c.toNat%128:Nat):Int):=by rw[Int.tmod_eq_emod_of_nonneg (by omega)];omega
   have hi64:IntKind.i64.wrap ((c.toNat%128:Nat):Int)=((c.toNat%128:Nat):Int):=ZaD (by omega) (by omega)
   have hx:IntKind.i64.wrap (((c.toNat%128:Nat):Int)*((128^i:Nat):Int))=((c.toNat%128*128^i:Nat):Int):=by
    rw[<-Int.natCast_mul,ZaD (by omega) (by omega)]
   have hs:IntKind.i64.wrap ((n:Int)+((c.toNat%128*128^i:Nat):Int))=((n+c.toNat%128*128^i:Nat):Int):=by
    rw[<-Int.natCast_add,ZaD (by omega) (by omega)]
   have hu:IntKind.i64.wrap (((128^i:Nat):Int)*128)=((128^(i+1):Nat):Int):=by
    have : ((128^i:Nat):Int)*128=((128^(i+1):Nat):Int):=by rw[Nat.pow_succ,Int.natCast_mul];rfl
    have h9:128^(i+1)<=128^4:=W9 (by decide) (by omega)
    rw[this,ZaD (by omega) (by omega)]
   by_cases hc:c.toNat<128
   ·have hc':(c.toNat:Int)<128:=by omega
    by_cases hc0:c=0
    ·have hc1:((c.toNat:Int)==0)=true:=by rw[hc0];rfl
     by_cases hip:0<i
     ·have hip':(i:Int)>0:=by omega
      have hcc:c=0/\0<i:=⟨hc0,hip⟩
      unfold Zgb
      rw[Z9,if_neg h4,if_pos hc,if_pos hcc]
      simp -implicitDefEqProofs only[EQA,Zc,Xc,Xa,Zy,unG,reduceCtorEq,↓reduceIte,Ze,ZiK,Ziw,Zgr,Zb,h5,h6,e1,hz,hm,hi64,hx,hs,hu,hc',hc1,hip',gvT,Zh,AVal.cells]
      rfl
     ·have hip':¬(i:Int)>0:=by omega
      have hcc:¬(c=0/\0<i):=fun h=>hip h.2
      unfold Zgb
      rw[Z9,if_neg h4,if_pos hc,if_neg hcc]
      simp -implicitDefEqProofs only[EQA,Zc,Xc,Xa,Zy,unG,reduceCtorEq,↓reduceIte,Ze,ZiK,Ziw,Zgr,Zb,h5,h6,e1,hz,hm,hi64,hx,hs,hu,hc',hc1,hip',e3,gvT,Zh,AVal.cells]
    ·have hc1:((c.toNat:Int)==0)=false:=by
      have : c.toNat≠0:=fun h=>hc0 (Xa8.1 (by grind))
      simp;omega
     have hcc:¬(c=0/\0<i):=fun h=>hc0 h.1
     unfold Zgb
     rw[Z9,if_neg h4,if_pos hc,if_neg hcc]
     simp -implicitDefEqProofs only[EQA,Zc,Xc,Xa,Zy,Z6,reduceCtorEq,↓reduceIte,Ze,ZiK,Ziw,Zgr,Zb,h5,h6,e1,hz,hm,hi64,hx,hs,hu,hc',hc1,e3,gvT,Zh,AVal.cells]
   ·have hc':¬(c.toNat:Int)<128:=by omega
    have ih:=ZyE b hl r (i+1) (n+c.toNat%128*128^i) (by omega) (by omega) (ZoY n i _ hn ha) (Zas h).2.1
    unfold Zgb at ih ⊢
    rw[Z9,if_neg h4,if_neg hc]
    simp -implicitDefEqProofs only[EQA,Zc,ZT,Xc,Xa,reduceCtorEq,↓reduceIte,gcT,gcA,Zw,Zt,Zo,ZB,Ziw,Zgr,Zb,h5,h6,e1,hz,hm,hi64,hx,hs,hu,hc',e3,Zh,AVal.cells]
    exact ih
theorem ZEV(b:Zd)(hl:b.length<=9223372036854775807):E 120 [Z4 b] []=some (gvT (Zar b),[]):=by
 have key:=ZyE b hl b 0 0 (by omega) (by omega) (by simp) rfl
 have z0:((0:Nat):Int)=0:=rfl
 have z1:((128^0:Nat):Int)=1:=rfl
 rw[z0,z1]at key
 unfold Zgb at key
 unfold Zar
 rw[Zg (by rfl) ZUv]
 simp -implicitDefEqProofs only[EQA,Zc,ZT,Xc,Xa,reduceCtorEq,↓reduceIte,gcT,gcA,Zw,Zt,Zo,ZB,ZPY,Zpk,Zb,Z4]
 exact key
theorem ZqR(G:Za)(sq own:Nat)(f:Bool)(b:Zd)(hl:b.length<=9223372036854775807):Zq E BY G sq 120 own true [.lst f (b.map Zh)]=some (gvT (Zar b),G,{}) :=
 Zcr (ZEV b hl) (by kernel_rfl) rfl rfl rfl (fun _=>rfl) _ _ _
end
section
theorem Zwq(l:List UInt8)(p:Nat):ZgN l p=Lib.decodeL (l.drop p):=by
 have:=Lib.decodeL_drop ⟨l.toArray⟩ p
 simpa[ZgN]using this.symm
def zfG:Nat->List UInt8->Bool
 |0,_=>true
 |n+1,l=>if l=[]then true else if(Lib.decodeL l).1=0 then false else zfG n (l.drop (Lib.decodeL l).2)
def Zim(l:List UInt8):Bool:=zfG l.length l&&Lib.validD l
theorem ZO1(l:List UInt8):E 138 [.str l] []=some (.bool (Lib.validD l),[]):=Zdv.2 ⟨1,rfl⟩
theorem ZKB(G:Za)(sq own:Nat)(view:Bool)(l:List UInt8):Zq E BY G sq 138 own view [.str l]=some (.bool (Lib.validD l),G,{}) :=
 ZdQ (ZO1 l) (by kernel_rfl) (by simp -implicitDefEqProofs only[Zej,ZbS,eq_self]) (by simp -implicitDefEqProofs only[ZE,ZbS,eq_self]) rfl (fun _=>rfl) _ _ _ _
theorem ZxM(s:List UInt8):∀ (n p:Nat),s.length-p<=n->p<=s.length->Znf 0 [(6,.ref 0 0),(0,.str s)] [.siter s p]=some (.bool (zfG n (s.drop p)&&Lib.validD s),[])
 |n,p,hn,hp=>by
  by_cases h:p<s.length
  ·obtain⟨n,rfl⟩:∃ m,n=m+1:=⟨n-1,by omega⟩
   have hw:=Lib.decodeL_width (s.drop p)
   have hne:s.drop p≠[]:=by rw[ne_eq,XY];omega
   have hle:=Lib.decodeL_le (s.drop p) hne
   rw[Wt]at hle
   have ih:=ZxM s n (p+(Lib.decodeL (s.drop p)).2) (by omega) (by omega)
   rw[<-List.drop_drop]at ih
   unfold Znf at ih ⊢
   rw[Z9]
   by_cases hz:(Lib.decodeL (s.drop p)).1=0
   ·have hz':((Lib.decodeL (s.drop p)).1:Int)=0:=by omega
    simp -implicitDefEqProofs only[EQA,Zc,Xc,Xa,reduceCtorEq,↓reduceIte,Zzy,ZpB,Zka,Zb,h,Zwq,hz']
    rw[zfG,if_neg hne,if_pos hz];rfl
   ·have hz':(((Lib.decodeL (s.drop p)).1:Int)==0)=false:=by rw[beq_eq_false_iff_ne];omega
    simp -implicitDefEqProofs only[EQA,Zc,ZT,ZbH,Xc,Xa,reduceCtorEq,↓reduceIte,gcT,gcA,Zw,Zt,Zm,Zo,ZI,Zn,ZD,Zz,ZB,ZpB,Zka,Zb,h,Zwq,hz']
    rw[ih,zfG,if_neg hne,if_neg hz]
  ·have he:s.drop p=[]:=by rw[XY];omega
   unfold Znf
   rw[Z9]
   simp -implicitDefEqProofs only[EQA,Zc,Xc,Xa,reduceCtorEq,↓reduceIte,Zzy,ZIV,Zrl,ZpB,Zka,Zb,h,ZKB]
   rw[he]
   cases n<;>simp[zfG]
theorem ZFl(s:List UInt8):E 117 [.str s] []=some (.bool (Zim s),[]):=by
 rw[Zg (by rfl) ZHN]
 have:=ZxM s s.length 0 (by omega) (by omega)
 unfold Znf at this
 simp -implicitDefEqProofs only[EQA,Zc,ZT,ZbH,Xc,Xg,reduceCtorEq,↓reduceIte,gcT,gcA,Zw,Zt,Zm,Zo,ZI,Zn,ZD,Zz,ZB,ZIa,Zup,Zb]
 rw[this,Xat];rfl
theorem ZUI(G:Za)(sq own:Nat)(view:Bool)(l:List UInt8):Zq E BY G sq 117 own view [.str l]=some (.bool (Zim l),G,{}) :=
 ZdQ (ZFl l) (by kernel_rfl) (by simp -implicitDefEqProofs only[Zej,ZbS,eq_self]) (by simp -implicitDefEqProofs only[ZE,ZbS,eq_self]) rfl (fun _=>rfl) _ _ _ _
def Zcg:List UInt8->Int->Option Int
 | [],c=>some c
 |b::r,c=>if b.toNat<128\/192<=b.toNat then none else Zcg r (c*64+b.toNat-128)
def Zb5(n least:Int):Option Int->AVal
 |none=>.tup [.int .i64 0,.int .i64 0]
 |some c=>if c<least\/1114111<c\/(55296<=c/\c<57344)then .tup [.int .i64 0,.int .i64 0]else .tup [.int .i64 c,.int .i64 (n+1)]
theorem Zwa(b:UInt8):(b.toNat:Int)<256:=by have:=b.toNat_lt;omega
theorem wrap_i64{n:Int}(h0:-9223372036854775808<=n)(h:n<=9223372036854775807):IntKind.i64.wrap n=n:=ZaD h0 h
theorem Zmj(s:List UInt8)(least:Int)(n:Nat)(hn:n<=3):∀ (r:List UInt8) (i:Nat) (c:Int),1<=i->i+r.length=n+1->(∀ j,j<r.length->s[i+j]?=r[j]?)->0<=c->(c+1)*64^r.length<=2^40->n<s.length ->
  Zha 0 [(7,.int .i64 i),(6,.int .i64 least),(5,.int .i64 n),(4,.int .i64 c),(0,.str s)] []=some (Zb5 n least (Zcg r c),[])
 | [],i,c,hi,hl,hs,hc,hb,hns=>by
  simp only[Xw,X6]at hl
  simp only[Xw,Int.pow_zero,Int.mul_one]at hb
  have h1:¬((i:Int)<=n):=by omega
  have h2:IntKind.i64.wrap ((n:Int)+1)=n+1:=ZaD (by omega) (by omega)
  unfold Zha
  rw[Z9]
  by_cases h4:c<least
  ·have e:Zb5 n least (Zcg [] c)=.tup [.int .i64 0,.int .i64 0]:=by simp[Zb5,Zcg,h4]
   rw[e]
   simp -implicitDefEqProofs only[EQA,Zc,Xc,Xa,Zy,Z6,reduceCtorEq,↓reduceIte,Ze,ZdE,ZkZ,ZhM,Zhi,Zf6,Zb,h1,h4]
  by_cases h5:c>1114111
  ·have e:Zb5 n least (Zcg [] c)=.tup [.int .i64 0,.int .i64 0]:=by
    have h5':1114111<c:=h5
    simp[Zb5,Zcg,h5']
   rw[e]
   simp -implicitDefEqProofs only[EQA,Zc,Xc,Xa,Zy,Z6,unG,reduceCtorEq,↓reduceIte,Ze,ZdE,ZkZ,ZhM,Zhi,Zf6,Zb,h1,h4,h5]
  by_cases h6:c>=55296
  ·by_cases h7:c<57344
   ·have e:Zb5 n least (Zcg [] c)=.tup [.int .i64 0,.int .i64 0]:=by
     simp only[Zb5,Zcg];grind
    rw[e]
    simp -implicitDefEqProofs only[EQA,Zc,Xc,Xa,Zy,unG,reduceCtorEq,↓reduceIte,Ze,ZdE,ZkZ,ZhM,Zhi,Zf6,Zb,h1,h4,h5,h6,h7]
   ·have e:Zb5 n least (Zcg [] c)=.tup [.int .i64 c,.int .i64 (n+1)]:=by
     simp only[Zb5,Zcg];grind
    rw[e]
    simp -implicitDefEqProofs only[EQA,Zc,Xc,Xa,Zy,unG,reduceCtorEq,↓reduceIte,Ze,ZdE,ZkZ,ZhM,Zhi,Zf6,Zb,h1,h2,h4,h5,h6,h7]
  ·have e:Zb5 n least (Zcg [] c)=.tup [.int .i64 c,.int .i64 (n+1)]:=by
    simp only[Zb5,Zcg];grind
   rw[e]
   simp -implicitDefEqProofs only[EQA,Zc,Xc,Xa,Zy,Z6,unG,reduceCtorEq,↓reduceIte,Ze,ZdE,ZkZ,ZhM,Zhi,Zf6,Zb,h1,h2,h4,h5,h6]
 |b::r,i,c,hi,hl,hs,hc,hb,hns=>by
  simp only[Xz]at hl hb
  have hb0:=Zwa b
  have hs0:s[i]?=some b:=by have:=hs 0 (by simp);simpa using this
  have h1:((i:Int)<=n):=by omega
  have h3:IntKind.i64.wrap ((i:Int)+1)=((i+1:Nat):Int):=by rw[ZaD (by omega) (by omega)];rfl
  have hp:(1:Int)<=64^r.length:=by
   have : (0:Int)<64^r.length:=Int.pow_pos (by omega)
   omega
  have hc2:c+1<=2^40:=by
   have : (c+1)*1<=(c+1)*64^(r.length+1):=Int.mul_le_mul_of_nonneg_left (by grind) (by omega)
   omega
  have i0:(0:Int)<=(i:Int):=by omega
  have hlow:((b.toNat:Int)<128)\/¬((b.toNat:Int)<128):=by omega
  by_cases h4:(b.toNat:Int)<128
  ·have e:Zb5 n least (Zcg (b::r) c)=.tup [.int .i64 0,.int .i64 0]:=by simp only[Zcg];rw[if_pos (Xq (by omega))];rfl
   rw[e]
   unfold Zha
   rw[Z9]
   simp -implicitDefEqProofs only[EQA,Zc,Xc,Xa,Zy,Z6,reduceCtorEq,↓reduceIte,Ze,ZdE,Zhi,Zf6,Zb,h1,h4,hs0,i0,WB,Zh]
  by_cases h5:(b.toNat:Int)>=192
  ·have e:Zb5 n least (Zcg (b::r) c)=.tup [.int .i64 0,.int .i64 0]:=by simp only[Zcg];rw[if_pos (Xt (by omega))];rfl
   rw[e]
   unfold Zha
   rw[Z9]
   simp -implicitDefEqProofs only[EQA,Zc,Xc,Xa,Zy,unG,reduceCtorEq,↓reduceIte,Ze,ZdE,Zhi,Zf6,Zb,h1,h4,h5,hs0,i0,WB,Zh]
  have ih:=Zmj s least n hn r (i+1) (c*64+b.toNat-128) (by omega) (by omega) (fun j hj=>by
   have:=hs (j+1) (by simp;omega)
   rw[show i+1+j=i+(j+1)by omega,this];simp) (by omega) (by
    have : (c*64+b.toNat-128+1)*64^r.length<=(c+1)*64*64^r.length:=Int.mul_le_mul_of_nonneg_right (by omega) (by omega)
    rw[Int.pow_succ,Int.mul_comm (64^r.length) 64,<-Int.mul_assoc]at hb
    omega) hns
  have w1:IntKind.i64.wrap (c*64)=c*64:=ZaD (by omega) (by omega)
  have w2:IntKind.i64.wrap (b.toNat:Int)=b.toNat:=ZaD (by omega) (by omega)
  have w3:IntKind.i64.wrap (c*64+b.toNat)=c*64+b.toNat:=ZaD (by omega) (by omega)
  have w4:IntKind.i64.wrap (c*64+b.toNat-128)=c*64+b.toNat-128:=ZaD (by omega) (by omega)
  unfold Zha at ih ⊢
  rw[Z9]
  simp -implicitDefEqProofs only[EQA,Zc,ZT,Xc,Xa,Zy,unG,reduceCtorEq,↓reduceIte,gcT,gcA,Zw,Zt,Zo,ZB,Zhi,Zf6,Zb,h1,h3,h4,h5,hs0,i0,w1,w2,w3,w4,WB,Zh]
  rw[ih]
  simp only[Zcg]
  grind
def Zfn(l:List UInt8):Nat×Nat:=if(Lib.decodeL l).1=65533/\(Lib.decodeL l).2=1 then(0,0)else Lib.decodeL l
def Zdj(p:Nat×Nat):AVal:=.tup [.int .i64 p.1,.int .i64 p.2]
theorem ZkJ(l:List UInt8):Zfn l=if(Lib.decodeN l.length (l.getD 0 0).toNat (l.getD 1 0).toNat (l.getD 2 0).toNat (l.getD 3 0).toNat).1=65533/\(Lib.decodeN l.length (l.getD 0 0).toNat (l.getD 1 0).toNat (l.getD 2 0).toNat (l.getD 3 0).toNat).2=1 then(0,0)else Lib.decodeN l.length (l.getD 0 0).toNat (l.getD 1 0).toNat (l.getD 2 0).toNat (l.getD 3 0).toNat:=by
 unfold Zfn;rw[Lib.decodeL_N]
theorem ZrC{c n:Int}{p:Nat×Nat}(h1:c=p.1)(h2:n=p.2):(.tup [.int .i64 c,.int .i64 n]:AVal)=Zdj p:=by simp[Zdj,h1,h2]
theorem ZMt(b0 b1:UInt8)(t:List UInt8)(h:192<=b0.toNat/\b0.toNat<224):Zb5 1 128 (Zcg [b1] (b0.toNat-192))=Zdj (Zfn (b0::b1::t)):=by
 rw[ZkJ]
 simp only[Xz,Xm,Xs,Zcg]
 have hb1:=b1.toNat_lt
 generalize b0.toNat=x0 at *
 generalize b1.toNat=x1 at *
 generalize ((t.getD 0 0).toNat)=x2
 generalize ((t.getD 1 0).toNat)=x3
 have e1:¬x0<128:=by omega
 have e2:x0/32=6:=by omega
 have e3:1<t.length+1+1:=by omega
 have e4:¬x0/16=14:=by omega
 have e5:¬x0/8=30:=by omega
 by_cases h1:x1<128\/192<=x1
 ·rw[if_pos h1]
  have e6:¬x1/64=2:=by omega
  simp[Lib.decodeN,e1,e2,e4,e5,e6,Zb5,Zdj]
 ·rw[if_neg h1]
  have e6:x1/64=2:=by omega
  simp only[Lib.decodeN,e1,e2,e3,e6,if_false,and_self,if_true]
  simp only[Zb5]
  by_cases h2:x0%32*64+x1%64>=128
  ·rw[if_neg (by omega),if_pos h2,if_neg (by simp)]
   exact ZrC (by grind) (by simp)
  ·rw[if_pos (by omega),if_neg h2,if_pos (by simp)]
   rfl
theorem ZJs(b0 b1 b2:UInt8)(t:List UInt8)(h:224<=b0.toNat/\b0.toNat<240):Zb5 2 2048 (Zcg [b1,b2] (b0.toNat-224))=Zdj (Zfn (b0::b1::b2::t)):=by
 rw[ZkJ]
 simp only[Xz,Xm,Xs,Zcg]
 have hb1:=b1.toNat_lt
 have hb2:=b2.toNat_lt
 generalize b0.toNat=x0 at *
 generalize b1.toNat=x1 at *
 generalize b2.toNat=x2 at *
 generalize ((t.getD 0 0).toNat)=x3
 have e1:¬x0<128:=by omega
 have e2:¬x0/32=6:=by omega
 have e3:1<t.length+1+1+1:=by omega
 have e3':2<t.length+1+1+1:=by omega
 have e4:x0/16=14:=by omega
 have e5:¬x0/8=30:=by omega
 by_cases h1:x1<128\/192<=x1
 ·rw[if_pos h1]
  have e6:¬x1/64=2:=by omega
  simp[Lib.decodeN,e1,e2,e4,e5,e6,Zb5,Zdj]
 ·rw[if_neg h1]
  have e6:x1/64=2:=by omega
  by_cases h2:x2<128\/192<=x2
  ·rw[if_pos h2]
   have e7:¬x2/64=2:=by omega
   simp[Lib.decodeN,e1,e2,e4,e5,e6,e7,Zb5,Zdj]
  ·rw[if_neg h2]
   have e7:x2/64=2:=by omega
   simp only[Lib.decodeN,e1,e2,e3,e3',e4,e6,e7,if_false,and_self,if_true,false_and]
   simp only[Zb5]
   by_cases h3:x0%16*4096+x1%64*64+x2%64>=2048/\(x0%16*4096+x1%64*64+x2%64<55296\/(57344<=x0%16*4096+x1%64*64+x2%64/\x0%16*4096+x1%64*64+x2%64<=1114111))
   ·rw[if_neg (by omega),if_pos h3,if_neg (by simp)]
    exact ZrC (by grind) (by simp)
   ·rw[if_pos (by omega),if_neg h3,if_pos (by simp)]
    rfl
theorem ZQS(b0 b1 b2 b3:UInt8)(t:List UInt8)(h:240<=b0.toNat/\b0.toNat<248):Zb5 3 65536 (Zcg [b1,b2,b3] (b0.toNat-240))=Zdj (Zfn (b0::b1::b2::b3::t)):=by
 rw[ZkJ]
 simp only[Xz,Xm,Xs,Zcg]
 have hb1:=b1.toNat_lt
 have hb2:=b2.toNat_lt
 have hb3:=b3.toNat_lt
 generalize b0.toNat=x0 at *
 generalize b1.toNat=x1 at *
 generalize b2.toNat=x2 at *
 generalize b3.toNat=x3 at *
 have e1:¬x0<128:=by omega
 have e2:¬x0/32=6:=by omega
 have e3:1<t.length+1+1+1+1:=by omega
 have e3':2<t.length+1+1+1+1:=by omega
 have e3'':3<t.length+1+1+1+1:=by omega
 have e4:¬x0/16=14:=by omega
 have e5:x0/8=30:=by omega
 by_cases h1:x1<128\/192<=x1
 ·rw[if_pos h1]
  have e6:¬x1/64=2:=by omega
  simp[Lib.decodeN,e1,e2,e4,e5,e6,Zb5,Zdj]
 ·rw[if_neg h1]
  have e6:x1/64=2:=by omega
  by_cases h2:x2<128\/192<=x2
  ·rw[if_pos h2]
   have e7:¬x2/64=2:=by omega
   simp[Lib.decodeN,e1,e2,e4,e5,e6,e7,Zb5,Zdj]
  ·rw[if_neg h2]
   have e7:x2/64=2:=by omega
   by_cases h4:x3<128\/192<=x3
   ·rw[if_pos h4]
    have e8:¬x3/64=2:=by omega
    simp[Lib.decodeN,e1,e2,e4,e5,e6,e7,e8,Zb5,Zdj]
   ·rw[if_neg h4]
    have e8:x3/64=2:=by omega
    simp only[Lib.decodeN,e1,e2,e3,e3',e3'',e4,e5,e6,e7,e8,if_false,and_self,if_true,false_and]
    simp only[Zb5]
    by_cases h3:x0%8*262144+x1%64*4096+x2%64*64+x3%64>=65536/\(x0%8*262144+x1%64*4096+x2%64*64+x3%64<55296\/(57344<=x0%8*262144+x1%64*4096+x2%64*64+x3%64/\x0%8*262144+x1%64*4096+x2%64*64+x3%64<=1114111))
    ·rw[if_neg (by omega),if_pos h3,if_neg (by simp)]
     exact ZrC (by grind) (by simp)
    ·rw[if_pos (by omega),if_neg h3,if_pos (by simp)]
     rfl
theorem ZjZ(b0:UInt8)(t:List UInt8)(h:(192<=b0.toNat/\b0.toNat<224/\t.length<1)\/(224<=b0.toNat/\b0.toNat<240/\t.length<2)\/(240<=b0.toNat/\b0.toNat<248/\t.length<3)\/(128<=b0.toNat/\b0.toNat<192)\/248<=b0.toNat):Zfn (b0::t)=(0,0):=by
 rw[ZkJ,if_pos]
 simp only[Xz,Xm,Xs]
 have hb:=b0.toNat_lt
 generalize b0.toNat=x0 at *
 generalize ((t.getD 0 0).toNat)=x1
 generalize ((t.getD 1 0).toNat)=x2
 generalize ((t.getD 2 0).toNat)=x3
 generalize t.length=m at *
 unfold Lib.decodeN
 grind
theorem ZP1(b0:UInt8)(t:List UInt8)(h:b0.toNat<128):Zfn (b0::t)=(b0.toNat,1):=by
 rw[ZkJ]
 simp only[Xz,Xm,Lib.decodeN,h,if_true]
 grind
theorem Zjl:Zdj (0,0)=.tup [.int .i64 0,.int .i64 0]:=rfl
theorem ZIK(n:Nat):Zdj (n,1)=.tup [.int .i64 n,.int .i64 1]:=rfl
theorem ZIU(b0:UInt8)(t:List UInt8):E 141 [.str (b0::t)] []=some (Zdj (Zfn (b0::t)),[]):=by
 rw[Zg (by rfl) ZNJ]
 have hb:=Zwa b0
 have w0:IntKind.i64.wrap (b0.toNat:Int)=b0.toNat:=ZaD (by omega) (by omega)
 by_cases h1:(b0.toNat:Int)<128
 ·rw[ZP1 b0 t (by omega),ZIK]
  simp -implicitDefEqProofs only[EQA,Zc,Xc,Xa,reduceCtorEq,↓reduceIte,Ze,Zgm,Zff,ZdE,Zb,h1,w0,Zh,WE,Xaf]
 by_cases h2:(b0.toNat:Int)>=192
 ·by_cases h3:(b0.toNat:Int)<224
  ·have w1:IntKind.i64.wrap ((b0.toNat:Int)-192)=b0.toNat-192:=ZaD (by omega) (by omega)
   by_cases h6:((t.length+1:Nat):Int)<=1
   ·rw[ZjZ b0 t (Xq ⟨by omega,by omega,by omega⟩),Zjl]
    simp -implicitDefEqProofs only[EQA,Zc,Xc,Xa,Zy,unG,reduceCtorEq,↓reduceIte,Ze,Zgm,Zff,ZdE,Zb,h1,h2,h3,w0,w1,h6,Zh,WE,Xaf]
   ·obtain⟨b1,t,rfl⟩:∃ b1 t',t=b1::t':=by
     cases t with
     |nil=>simp at h6
     |cons b1 t=>grind
    have key:=Zmj (b0::b1::t) 128 1 (by omega) [b1] 1 (b0.toNat-192) (by omega) rfl (fun j hj=>by
     grind) (by omega) (by grind) (by simp)
    rw[show(((1:Nat):Int))=1 from rfl,ZMt b0 b1 t (by omega)]at key
    unfold Zha at key
    simp -implicitDefEqProofs only[EQA,Zc,ZT,Xc,Xa,Zy,unG,reduceCtorEq,decide_eq_true_eq,↓reduceIte,Ze,gcT,gcA,Zw,Zt,Zo,ZB,Zgm,Zff,ZdE,Zb,h1,h2,h3,w0,w1,Zh,WE,Xaf]
    exact key
  ·by_cases h4:(b0.toNat:Int)<240
   ·have h3':(b0.toNat:Int)>=224:=by omega
    have w1:IntKind.i64.wrap ((b0.toNat:Int)-224)=b0.toNat-224:=ZaD (by omega) (by omega)
    by_cases h6:((t.length+1:Nat):Int)<=2
    ·rw[ZjZ b0 t (Xt (Xq ⟨by omega,by omega,by omega⟩)),Zjl]
     simp -implicitDefEqProofs only[EQA,Zc,Xc,Xa,Zy,unG,reduceCtorEq,↓reduceIte,Ze,Zgm,Zff,ZdE,Zb,h1,h2,h3,h3',h4,w0,w1,h6,Zh,WE,Xaf]
    ·obtain⟨b1,b2,t,rfl⟩:∃ b1 b2 t',t=b1::b2::t':=by
      match t,h6 with
      | [],h6=>simp at h6
      | [_],h6=>simp at h6
      |b1::b2::t,_=>exact⟨b1,b2,t,rfl⟩
     have key:=Zmj (b0::b1::b2::t) 2048 2 (by omega) [b1,b2] 1 (b0.toNat-224) (by omega) rfl (fun j hj=>by
      grind) (by omega) (by simp only[Xz,Xw];omega) (by simp)
     rw[show(((2:Nat):Int))=2 from rfl,show(((1:Nat):Int))=1 from rfl,ZJs b0 b1 b2 t (by omega)]at key
     unfold Zha at key
     simp -implicitDefEqProofs only[EQA,Zc,ZT,Xc,Xa,Zy,unG,reduceCtorEq,decide_eq_true_eq,↓reduceIte,Ze,gcT,gcA,Zw,Zt,Zo,ZB,Zgm,Zff,ZdE,Zb,h1,h2,h3,h3',h4,w0,w1,Zh,WE,Xaf]
     exact key
   ·by_cases h5:(b0.toNat:Int)<248
    ·have h3':(b0.toNat:Int)>=224:=by omega
     have h4':(b0.toNat:Int)>=240:=by omega
     have w1:IntKind.i64.wrap ((b0.toNat:Int)-240)=b0.toNat-240:=ZaD (by omega) (by omega)
     by_cases h6:((t.length+1:Nat):Int)<=3
     ·rw[ZjZ b0 t (Xt (Xt (Xq ⟨by omega,by omega,by omega⟩))),Zjl]
      simp -implicitDefEqProofs only[EQA,Zc,Xc,Xa,Zy,unG,reduceCtorEq,↓reduceIte,Ze,Zgm,Zff,ZdE,Zb,h1,h2,h3,h3',h4,h4',h5,w0,w1,h6,Zh,WE,Xaf]
     ·obtain⟨b1,b2,b3,t,rfl⟩:∃ b1 b2 b3 t',t=b1::b2::b3::t':=by
       match t,h6 with
       | [],h6=>simp at h6
       | [_],h6=>simp at h6
       | [_,_],h6=>simp at h6
       |b1::b2::b3::t,_=>exact⟨b1,b2,b3,t,rfl⟩
      have key:=Zmj (b0::b1::b2::b3::t) 65536 3 (by omega) [b1,b2,b3] 1 (b0.toNat-240) (by omega) rfl (fun j hj=>by
       grind) (by omega) (by simp only[Xz,Xw];omega) (by simp)
      rw[show(((3:Nat):Int))=3 from rfl,show(((1:Nat):Int))=1 from rfl,ZQS b0 b1 b2 b3 t (by omega)]at key
      unfold Zha at key
      simp -implicitDefEqProofs only[EQA,Zc,ZT,Xc,Xa,Zy,unG,reduceCtorEq,decide_eq_true_eq,↓reduceIte,Ze,gcT,gcA,Zw,Zt,Zo,ZB,Zgm,Zff,ZdE,Zb,h1,h2,h3,h3',h4,h4',h5,w0,w1,Zh,WE,Xaf]
      exact key
    ·have h3':(b0.toNat:Int)>=224:=by omega
     have h4':(b0.toNat:Int)>=240:=by omega
     rw[ZjZ b0 t (Xt (Xt (Xt (Xt (by omega))))),Zjl]
     simp -implicitDefEqProofs only[EQA,Zc,Xc,Xa,Zy,unG,reduceCtorEq,↓reduceIte,Ze,Zgm,Zff,ZdE,Zb,h1,h2,h3,h3',h4,h4',h5,w0,Zh,WE,Xaf]
 ·have h3:¬(b0.toNat:Int)>=224:=by omega
  have h4:¬(b0.toNat:Int)>=240:=by omega
  rw[ZjZ b0 t (Xt (Xt (Xt (Xq (by omega))))),Zjl]
  simp -implicitDefEqProofs only[EQA,Zc,Xc,Xa,Zy,Z6,reduceCtorEq,↓reduceIte,Ze,Zgm,Zff,ZdE,Zb,h1,h2,h3,h4,w0,Zh,WE,Xaf]
theorem ZuC(G:Za)(sq own:Nat)(view:Bool)(b0:UInt8)(t:List UInt8):Zq E BY G sq 141 own view [.str (b0::t)]=some (Zdj (Zfn (b0::t)),G,{}) :=
 ZdQ (ZIU b0 t) (by kernel_rfl) (by simp -implicitDefEqProofs only[Zej,ZbS,eq_self]) (by simp -implicitDefEqProofs only[ZE,ZbS,eq_self]) rfl (fun _=>rfl) _ _ _ _
theorem ZuM:∀ (n:Nat) (l:List UInt8),l.length<=n->l.length<=9223372036854775807->Zj9 0 [(0,.str l)] []=some (.bool (zfG n l&&Lib.validGoD n l),[])
 |n,[],_,_=>by
  have e:(zfG n []&&Lib.validGoD n [])=true:=by cases n<;>rfl
  rw[e]
  unfold Zj9
  rw[Z9]
  simp -implicitDefEqProofs only[EQA,Zc,Xc,Xa,Zdr,reduceCtorEq,↓reduceIte,ZoI,ZLP,Ztj,ZmV,ZjJ,Zb]
 |0,b0::t,h,_=>by simp at h
 |n+1,b0::t,h,hl=>by
  have hw:=Lib.decodeL_width (b0::t)
  have hle:=Lib.decodeL_le (b0::t) (by simp)
  have e0:((b0::t)==([]:List UInt8))=false:=by simp
  have hne:(b0::t)≠([]:List UInt8):=by simp
  unfold Zj9
  rw[Z9]
  by_cases hb:(Lib.decodeL (b0::t)).1=65533/\(Lib.decodeL (b0::t)).2=1
  ·have hc:Zfn (b0::t)=(0,0):=if_pos hb
   have e:(zfG (n+1) (b0::t)&&Lib.validGoD (n+1) (b0::t))=false:=by
    simp only[Lib.validGoD]
    grind
   rw[e]
   simp -implicitDefEqProofs only[EQA,Zc,Xc,Xa,Zdr,Zy,Z6,reduceCtorEq,↓reduceIte,ZoI,ZmV,ZjJ,Zb,e0,ZuC,hc,Zjl]
  ·have hc:Zfn (b0::t)=Lib.decodeL (b0::t):=if_neg hb
   have n1:(((Lib.decodeL (b0::t)).2:Int)==0)=false:=by rw[beq_eq_false_iff_ne];omega
   by_cases hz:(Lib.decodeL (b0::t)).1=0
   ·have z1:(((Lib.decodeL (b0::t)).1:Int)==0)=true:=by rw[beq_iff_eq];omega
    have e:(zfG (n+1) (b0::t)&&Lib.validGoD (n+1) (b0::t))=false:=by
     rw[zfG,if_neg hne,if_pos hz,Wi]
    rw[e]
    simp -implicitDefEqProofs only[EQA,Zc,Xc,Xa,Zdr,Zy,unG,reduceCtorEq,↓reduceIte,ZoI,ZmV,ZjJ,Zb,e0,ZuC,hc,Zdj,n1,z1]
   ·have z1:(((Lib.decodeL (b0::t)).1:Int)==0)=false:=by rw[beq_eq_false_iff_ne];omega
    have e:(zfG (n+1) (b0::t)&&Lib.validGoD (n+1) (b0::t))=(zfG n ((b0::t).drop (Lib.decodeL (b0::t)).2)&&Lib.validGoD n ((b0::t).drop (Lib.decodeL (b0::t)).2)):=by
     rw[zfG,if_neg hne,if_neg hz,Lib.validGoD,if_neg hne,if_neg hb]
    have ih:=ZuM n ((b0::t).drop (Lib.decodeL (b0::t)).2) (by grind) (by grind)
    rw[e]
    unfold Zj9 at ih
    have l0:(0:Int)<=((Lib.decodeL (b0::t)).2:Int):=by omega
    have l1:((Lib.decodeL (b0::t)).2:Int)<=((t.length+1:Nat):Int):=by simp only[Xz]at hle;omega
    have l2:(b0::t).take (t.length+1)=b0::t:=XG (by simp)
    simp -implicitDefEqProofs only[EQA,Zc,ZT,ZbH,Xc,Xa,Zdr,Zy,unG,reduceCtorEq,↓reduceIte,gcT,gcA,Zw,Zt,Zo,ZB,ZmV,ZjJ,Zb,e0,ZuC,hc,Zdj,n1,z1,Za3,Zdy,l0,l1,l2,WB]
    exact ih
theorem ZN1(l:List UInt8)(hl:l.length<=9223372036854775807):E 125 [.str l] []=some (.bool (Zim l),[]):=by
 rw[Zg (by rfl) ZGJ]
 have:=ZuM l.length l (XH _) hl
 unfold Zj9 at this
 simp -implicitDefEqProofs only[EQA,Zc,ZT,Xc,reduceCtorEq,↓reduceIte,gcT,gcA,Zw,Zt,Zo,ZB,ZBk,Zqn]
 rw[this];rfl
theorem ZFO(G:Za)(sq own:Nat)(view:Bool)(l:List UInt8)(hl:l.length<=9223372036854775807):Zq E BY G sq 125 own view [.str l]=some (.bool (Zim l),G,{}) :=
 ZdQ (ZN1 l hl) (by kernel_rfl) (by simp -implicitDefEqProofs only[Zej,ZbS,eq_self]) (by simp -implicitDefEqProofs only[ZE,ZbS,eq_self]) rfl (fun _=>rfl) _ _ _ _
end
section
theorem ZuG(G:Za)(l:Zd)(k1 k2:IntKind)(lo hi:Int)(h0:0<=lo)(h1:lo<=hi)(h2:hi<=(l.length:Int)):ZbO G 1 (.lst false (l.map Zh)) (some (.int k1 lo)) (some (.int k2 hi)) none=some (.lst false (((l.take hi.toNat).drop lo.toNat).map Zh),G,{}):=by
 have hh:0<=hi:=by omega
 have h3:lo<=((hi.toNat:Nat):Int):=by omega
 have hk:=Zg1 l
 simp only[ZbO,Za3,Zdy,XS,hh,h2,and_self,if_true,h0,h3,hk,W7,Xal,Xi,if_false,Wi,Xa1,List.map_drop]
theorem Zgu(G:Za)(l:Zd)(k1:IntKind)(lo:Int)(h0:0<=lo)(h1:lo<=(l.length:Int)):ZbO G 1 (.lst false (l.map Zh)) (some (.int k1 lo)) none none=some (.lst false ((l.drop lo.toNat).map Zh),G,{}):=by
 have hk:=Zg1 l
 simp only[ZbO,Za3,Zdy,XS,and_self,if_true,h0,h1,hk,W7,Xal,Xi,if_false,Wi,List.map_drop]
 rw[XG (by simp)]
end
section
def gdT(x:Zd×Nat×Int):AVal:=.tup [.lst false (x.1.map Zh),.int .i64 (x.2.1:Nat),.int .i64 x.2.2]
def gtT(x:Zd×Nat×Int):AVal:=.tup [.str x.1,.int .i64 (x.2.1:Nat),.int .i64 x.2.2]
theorem ZoG(b:Zd)(h:b.length<=2):Zce b<65536:=by
 unfold Zce
 match b,h with
 | [],_=>simp[ZeE]
 | [a],_=>rw[Zdf,ZeE];have:=a.toNat_lt;omega
 | [a,c],_=>rw[Zdf,Zdf,ZeE];have:=a.toNat_lt;have:=c.toNat_lt;omega
def ZU(b:Zd):Zd×Nat×Int:=if(ZL b).2.2≠0 then([],0,(ZL b).2.2)else if Zim (ZL b).1 then ZL b else([],0,13)
theorem ZlM(d:Zd):(d.map Zh).all Za5=true:=by
 rw[Xy]
 intro x hx
 obtain⟨y,_,rfl⟩:=X7.1 hx
 rfl
theorem ZFk{O:ZS}{bf:Nat->Bool}{f k n:Nat}{args args':List AVal}{full:List AVal}{a b:Int}(h:O f args' []=some (.tup [.sl 0 0 0 n,.int .i64 a,.int .i64 b],[.row 0 k full]))(hl:n=full.length)(hb:bf f=false)(hp:args.all Zai=true)(hn:args.map Z1=args')(G:Za)(sq own:Nat):Zq O bf G sq f own true args=some (.tup [.lst false full,.int .i64 a,.int .i64 b],G,{}):=by
 rw[ZhH hb hp,hn,h]
 have : ZV true 0 (some (.tup [.sl 0 0 0 n,.int .i64 a,.int .i64 b],[.row 0 k full]))=some (.tup [.lst false full,.int .i64 a,.int .i64 b],[]):=by
  unfold ZV
  rw[if_pos rfl]
  simp[hl,ZbP,viewR,viewAs,Z3,ZN,ZZ,Zu,gcA,Zw,Zt,Zl,ZG,Zj,Zp,Zo]
 rw[this,Zfz _ _ _ _ rfl]
theorem ZI4{O:ZS}{bf:Nat->Bool}{f:Nat}{args args':List AVal}{k n:Nat}{xs:List AVal}(h:O f args' []=some (.sl 0 0 0 n,[.row 0 k xs]))(hb:bf f=false)(hp:args.all Zai=true)(hn:args.map Z1=args')(hx:xs.all Za5=true)(G:Za)(sq:Nat)(hs:freeAt G sq=true):Zq O bf G sq f 1 false args=some (.sl sq 0 0 n,G.set sq (.row 0 k xs),{}):=by
 rw[ZhH hb hp,hn,h]
 simp[ZV,Zaz,Zgy,hx]
theorem ZBT(G:Za)(sq:Nat)(fl:Bool)(a:Zd)(hn:a.length<=140737488355328)(hs:freeAt G sq=true):Zq E BY G sq 36 1 false [.lst fl [.lst false (a.map Zh)]]=some (.sl sq 0 0 a.length,G.set sq (.row 0 1 (a.map Zh)),{}):=by
 have h:=ZEc a [] (by simp) (by grind)
 simp only[List.flatten_cons,List.flatten_nil,Xr]at h
 exact ZI4 (args:=[.lst fl [.lst false (a.map Zh)]]) h (by kernel_rfl) rfl rfl (ZlM _) G sq hs
def gdR(x:Zd×Nat×Int):AVal×Za:=if x.2.2=0 then(.tup [.sl 0 0 0 x.1.length,.int .i64 (x.2.1:Nat),.int .i64 x.2.2],[.row 0 1 (x.1.map Zh)])else(.tup [.lst true [],.int .i64 (x.2.1:Nat),.int .i64 x.2.2],[])
theorem Zm4(b:Zd)(hl:b.length<=140737488355328):E 114 [Z4 b] []=some (gdR (ZL b)):=by
 have t2:(b.take 2).length<=9223372036854775807:=by simp;omega
 have hG:=fun G sq own f=>ZOz G sq own (b.take 2) t2 f
 have hg:=ZoG (b.take 2) (by simp;omega)
 unfold ZL gdR
 generalize hGG:Zce (b.take 2)=g at *
 have hi:IntKind.i64.wrap (g:Int)=(g:Int):=ZaD (by omega) (by omega)
 by_cases h1:b.length<2
 ·have h1':(b.length:Int)<2:=by omega
  rw[Zg (by rfl) Ztb,if_pos (Xq h1)]
  simp -implicitDefEqProofs only[EQA,Zc,Xc,Xa,Zy,Z6,reduceCtorEq,↓reduceIte,Ze,ZqE,Zkj,ZqD,Zb,Z4,h1']
  rfl
 ·have h1':¬(b.length:Int)<2:=by omega
  have s2:=fun G kk=>Zjs G 1 b Zh kk 2 (by omega) (by omega)
  have e2:(2:Int).toNat=2:=rfl
  rw[e2]at s2
  have w1:IntKind.i64.wrap ((b.length:Int)-2)=((b.length-2:Nat):Int):=by rw[ZaD (by omega) (by omega)];omega
  by_cases h3:b.length-2<g
  ·have h3':((b.length-2:Nat):Int)<(g:Int):=by omega
   rw[Zg (by rfl) Ztb,if_pos (Xt h3)]
   simp -implicitDefEqProofs only[EQA,Zc,Xc,Xa,Zy,unG,reduceCtorEq,↓reduceIte,Ze,ZqE,Zkj,ZqD,Zb,Z4,h1',s2,hG,hi,w1,h3']
   rfl
  ·have h3':¬((b.length-2:Nat):Int)<(g:Int):=by omega
   have w2:IntKind.i64.wrap (2+(g:Int))=((2+g:Nat):Int):=by rw[ZaD (by omega) (by omega)];omega
   have s3:=fun G k1 k2=>ZuG G b k1 k2 2 ((2+g:Nat):Int) (by omega) (by omega) (by omega)
   have e3:(((2+g:Nat):Int)).toNat=2+g:=rfl
   have e4:(b.take (2+g)).drop 2=(b.drop 2).take g:=by rw[Xaj];congr 1;omega
   rw[e2,e3,e4]at s3
   have hJ:=fun G sq fl hs=>ZBT G sq fl ((b.drop 2).take g) (by simp;omega) hs
   have hc:¬(b.length<2\/b.length-2<g):=by omega
   rw[Zg (by rfl) Ztb,if_neg hc]
   generalize (b.drop 2).take g=d at *
   generalize hX:d.map Zh=X at *
   simp -implicitDefEqProofs only[EQA,Zc,Xc,Xa,Xg,Zy,unG,reduceCtorEq,↓reduceIte,ZqE,Zkj,ZqD,Zb,Z4,h1',s2,hG,hi,w1,h3',w2,s3,hJ,viewAs,Z3,ZN,Zu,AVal.cells]
   simp[ZR,gcA,Zw,Zt,Zl,ZG,Zm,Zo,ZI,Zn,ZD,Zj,Zp,Zz,ZB]
theorem ZSV(G:Za)(sq own:Nat)(f:Bool)(b:Zd)(hl:b.length<=140737488355328):Zq E BY G sq 114 own true [.lst f (b.map Zh)]=some (gdT (ZL b),G,{}):=by
 have h:=Zm4 b hl
 unfold gdR at h
 unfold gdT
 by_cases he:(ZL b).2.2=0
 ·rw[if_pos he]at h
  exact ZFk h (by simp) (by kernel_rfl) rfl rfl G sq own
 ·rw[if_neg he]at h
  have hd:(ZL b).1=[]:=by
   unfold ZL at he ⊢
   split
   ·rfl
   ·grind
  rw[hd]
  exact Zcr h (by kernel_rfl) rfl rfl rfl (fun _=>rfl) G sq own
theorem ZSh(b:Zd)(hl:b.length<=140737488355328):E 98 [Z4 b] []=some (gtT (ZU b),[]):=by
 have hD:=fun G sq own f=>ZSV G sq own f b hl
 unfold gdT at hD
 have hI:=fun G sq own=>ZUI G sq own true (ZL b).1
 unfold ZU
 by_cases h0:(ZL b).2.2=0
 ·have hn0:¬((ZL b).2.2≠0):=by omega
  have e0:((0:Int) != 0)=false:=rfl
  have hp:ZL b=((ZL b).1,(ZL b).2.1,0):=by rw[<-h0]
  rw[if_neg hn0]
  rw[hp]
  simp only
  rw[h0]at hD
  generalize (ZL b).1=d at *
  generalize (ZL b).2.1=u at *
  rw[Zg (by rfl) Zzi]
  cases ht:Zim d<;>rw[ht]at hI
  ·simp -implicitDefEqProofs only[EQA,Zc,Xc,Xa,unA,reduceCtorEq,ZZ,↓reduceIte,Ze,Zsg,Zlj,Zqf,Zb,Z4,hD,hI,e0,gtT]
   rfl
  ·simp -implicitDefEqProofs only[EQA,Zc,Xc,Xa,unA,reduceCtorEq,ZZ,↓reduceIte,Ze,Zsg,Zlj,Zqf,Zb,Z4,hD,hI,e0,gtT]
 ·have hn0:((ZL b).2.2≠0):=h0
  have e0:((ZL b).2.2 != 0)=true:=by simpa using h0
  rw[if_pos hn0]
  generalize (ZL b).2.2=e at *
  rw[Zg (by rfl) Zzi]
  simp -implicitDefEqProofs only[EQA,Zc,Xc,Xa,reduceCtorEq,↓reduceIte,Ze,Zsg,Zlj,Zqf,Zb,Z4,hD,e0,gtT]
  rfl
theorem ZIm(b:Zd)(hl:b.length<=140737488355328):∃ f,E 119 [Z4 b] []=some (.tup [.lst f ((ZL b).1.map Zh),.int .i64 ((ZL b).2.1:Nat),.int .i64 (ZL b).2.2],[]):=by
 have t2:(b.take 2).length<=9223372036854775807:=by simp;omega
 have hG:=fun G sq own f=>ZlW G sq own (b.take 2) t2 f
 have hg:=ZoG (b.take 2) (by simp;omega)
 unfold ZL
 generalize hGG:Zce (b.take 2)=g at *
 have hi:IntKind.i64.wrap (g:Int)=(g:Int):=ZaD (by omega) (by omega)
 by_cases h1:b.length<2
 ·have h1':(b.length:Int)<2:=by omega
  refine⟨true,?_⟩
  rw[Zg (by rfl) Zr3,if_pos (Xq h1)]
  simp -implicitDefEqProofs only[EQA,Zc,Xc,Xa,reduceCtorEq,↓reduceIte,Ze,ZsT,Zkd,Zrd,Zb,Z4,h1']
  rfl
 ·have h1':¬(b.length:Int)<2:=by omega
  have s2:=fun G kk=>Zjs G 1 b Zh kk 2 (by omega) (by omega)
  have e2:(2:Int).toNat=2:=rfl
  rw[e2]at s2
  have w1:IntKind.i64.wrap ((b.length:Int)-2)=((b.length-2:Nat):Int):=by rw[ZaD (by omega) (by omega)];omega
  by_cases h3:b.length-2<g
  ·have h3':((b.length-2:Nat):Int)<(g:Int):=by omega
   refine⟨true,?_⟩
   rw[Zg (by rfl) Zr3,if_pos (Xt h3)]
   simp -implicitDefEqProofs only[EQA,Zc,Xc,Xa,reduceCtorEq,↓reduceIte,Ze,ZsT,Zkd,Zrd,Zb,Z4,h1',s2,hG,hi,w1,h3']
   rfl
  ·have h3':¬((b.length-2:Nat):Int)<(g:Int):=by omega
   have w2:IntKind.i64.wrap (2+(g:Int))=((2+g:Nat):Int):=by rw[ZaD (by omega) (by omega)];omega
   have s3:=fun G k1 k2=>ZuG G b k1 k2 2 ((2+g:Nat):Int) (by omega) (by omega) (by omega)
   have e3:(((2+g:Nat):Int)).toNat=2+g:=rfl
   have e4:(b.take (2+g)).drop 2=(b.drop 2).take g:=by rw[Xaj];congr 1;omega
   rw[e2,e3,e4]at s3
   have hc:¬(b.length<2\/b.length-2<g):=by omega
   refine⟨false,?_⟩
   rw[Zg (by rfl) Zr3,if_neg hc]
   simp -implicitDefEqProofs only[EQA,Zc,Xc,Xa,reduceCtorEq,↓reduceIte,Ze,ZsT,Zkd,Zrd,Zb,Z4,h1',s2,hG,hi,w1,h3',w2,s3]
theorem Zsu(G:Za)(sq own:Nat)(f:Bool)(b:Zd)(hl:b.length<=140737488355328):Zq E BY G sq 119 own true [.lst f (b.map Zh)]=some (gdT (ZL b),G,{}):=by
 obtain⟨g,h⟩:=ZIm b hl
 exact Zcr h (by kernel_rfl) rfl rfl rfl (fun _=>rfl) _ _ _
theorem ZEf(b:Zd)(hl:b.length<=140737488355328):E 103 [Z4 b] []=some (gtT (ZU b),[]):=by
 have hD:=fun G sq own f=>Zsu G sq own f b hl
 unfold gdT at hD
 have hdl:(ZL b).1.length<=9223372036854775807:=by
  unfold ZL
  split
  ·simp
  ·simp;omega
 have hI:=fun G sq own=>ZFO G sq own true (ZL b).1 hdl
 unfold ZU
 by_cases h0:(ZL b).2.2=0
 ·have hn0:¬((ZL b).2.2≠0):=by omega
  have e0:((0:Int) != 0)=false:=rfl
  have hp:ZL b=((ZL b).1,(ZL b).2.1,0):=by rw[<-h0]
  rw[if_neg hn0]
  rw[hp]
  simp only
  rw[h0]at hD
  generalize (ZL b).1=d at *
  generalize (ZL b).2.1=u at *
  rw[Zg (by rfl) Zyv]
  cases ht:Zim d<;>rw[ht]at hI
  ·simp -implicitDefEqProofs only[EQA,Zc,Xc,Xa,unA,reduceCtorEq,ZZ,↓reduceIte,Ze,Zt5,Zj7,ZpP,Zb,Z4,hD,hI,e0,gtT]
   rfl
  ·simp -implicitDefEqProofs only[EQA,Zc,Xc,Xa,unA,reduceCtorEq,ZZ,↓reduceIte,Ze,Zt5,Zj7,ZpP,Zb,Z4,hD,hI,e0,gtT]
 ·have hn0:((ZL b).2.2≠0):=h0
  have e0:((ZL b).2.2 != 0)=true:=by simpa using h0
  rw[if_pos hn0]
  generalize (ZL b).2.2=e at *
  rw[Zg (by rfl) Zyv]
  simp -implicitDefEqProofs only[EQA,Zc,Xc,Xa,reduceCtorEq,↓reduceIte,Ze,Zt5,Zj7,ZpP,Zb,Z4,hD,e0,gtT]
  rfl
theorem ZrN(G:Za)(sq own:Nat)(f:Bool)(b:Zd)(hl:b.length<=140737488355328):Zq E BY G sq 103 own true [.lst f (b.map Zh)]=some (gtT (ZU b),G,{}) :=
 Zcr (ZEf b hl) (by kernel_rfl) rfl rfl rfl (fun _=>rfl) _ _ _
end
section
theorem Zcj{O:ZS}{bf:Nat->Bool}{G:Za}{t f:Nat}{rest:List AVal}{cs cs':List AVal}{r r':AVal}(hb:bf f=false)(hp:rest.all Zai=true)(hc:Ze cs=true)(hc':Ze cs'=true)(hn:ZQ r'=true)(hv:viewR [.var cs'] r=some (r',[]))
  (h:O f (.ref 0 0::rest.map Z1) [.var cs]=some (r,[.var cs'])) (hs:G[t]?=some (.var cs)) (sq:Nat):Zq O bf G sq f 0 true (.ref t 0::rest)=some (r',G.set t (.var cs'),{ any:=true,upd:=[(t,cs')] }):=by
 have htl:t<G.length:=by
  rcases Wz t G.length with h |h
  ·exact h
  ·rw[Wb h]at hs;cases hs
 have hup:Zba (G.set t (.var cs')) [t]=[(t,cs')]:=by
  simp only[Zba,XO,if_pos htl,if_true]
 have hd:G.getD t .free=.var cs:=by simp[Xh,hs]
 have hf0:Zu G []=G:=rfl
 have hsh:showAs G (.ref t 0::rest)=some (.ref t 0::rest.map Z1,[]):=by
  rw[showAs,show showA G (.ref t 0)=some (.ref t 0,[])from rfl,Zea hp]
  rfl
 have href:Zl (.ref t 0::rest.map Z1)=[t]:=by
  rw[Zl,Zd4 hp];rfl
 unfold Zq
 rw[Zf0 (hb) hsh (by first |rfl |exact Zef ‹_› |exact ZcJ ‹_› |(rw[Wu,ZcJ ‹_›];rfl) |simp[Zcz,Zhl,ZcJ,Zef, *])]
 simp only[hf0,href,Zet hs hc]
 unfold Zbl
 simp only[Zdb]
 have hall:([t].all fun t=>okB (G.getD t .free))=true:=by simp[XW,XX,hs,okB]
 rw[if_pos hall]
 have hC:Zm G 0 [t] t 0=some (0,0):=by simp[Zm,ZI,hs,Zn,ZD]
 have hheap:Zo G 0 [t] (Zm G 0 [t]) [t] 0=[.var cs]:=by
  simp only[Zo,hd,Zz,(Z5 _ cs hc).1]
 have hargs:Zj (Zm G 0 [t]) (.ref t 0::rest.map Z1)=.ref 0 0::rest.map Z1:=by
  rw[Zj,Zd8 hp]
  simp only[Zp,hC]
 rw[hargs,hheap,h]
 have hask:ZV true [t].length (some (r,[.var cs']))=some (r',[.var cs']):=by
  unfold ZV
  rw[if_pos rfl]
  have hnp:∀ x,r≠.pan x:=by rintro x rfl;simp[viewR,Z3,ZN]at hv
  rw[show ZbP [t].length (some (r,[.var cs']))=(match viewR [.var cs'] r with
   |some (r',ts)=>match gcA [t].length [r'] (Zu [.var cs'] ts)with
    |([r''],G')=>some (r'',G')
    |_=>none
   |none=>none)from by cases r<;>first |rfl |grind]
  rw[hv]
  simp only[Xz,Xw,XF,show Zu [ZO.var cs'] []=[.var cs']from rfl,Zl8 hn hc']
 rw[hask]
 have hk:Za0 G [t] [.var cs'] 0=true:=by
  simp[Za0,okB,hs,Zcx,Zn]
 simp only[Zaz,WC,Xi,if_false,Xz,Xw,XF,X6,XH,decide_true,hk,Zah,XT,if_true,ZaR,ZaB,Xm,Zz,(Za9 _ r' hn).1,(Z5 _ cs' hc').1,hup]
theorem Zew{O:ZS}{bf:Nat->Bool}{G:Za}{t f:Nat}{rest:List AVal}{cs cs':List AVal}{x:AVal}{view:Bool}(hb:bf f=false)(hp:rest.all Zai=true)(hc:Ze cs=true)(hc':Ze cs'=true)(hn:ZQ x=true)
  (h:O f (.ref 0 0::rest.map Z1) [.var cs]=some (.pan x,[.var cs'])) (hs:G[t]?=some (.var cs)) (sq:Nat):Zq O bf G sq f 0 view (.ref t 0::rest)=some (.pan x,G.set t (.var cs'),{ any:=true,upd:=[(t,cs')] }):=by
 have htl:t<G.length:=by
  rcases Wz t G.length with h |h
  ·exact h
  ·rw[Wb h]at hs;cases hs
 have hup:Zba (G.set t (.var cs')) [t]=[(t,cs')]:=by
  simp only[Zba,XO,if_pos htl,if_true]
 have hd:G.getD t .free=.var cs:=by simp[Xh,hs]
 have hf0:Zu G []=G:=rfl
 have hsh:showAs G (.ref t 0::rest)=some (.ref t 0::rest.map Z1,[]):=by
  rw[showAs,show showA G (.ref t 0)=some (.ref t 0,[])from rfl,Zea hp]
  rfl
 have href:Zl (.ref t 0::rest.map Z1)=[t]:=by
  rw[Zl,Zd4 hp];rfl
 unfold Zq
 rw[Zf0 (hb) hsh (by first |rfl |exact Zef ‹_› |exact ZcJ ‹_› |(rw[Wu,ZcJ ‹_›];rfl) |simp[Zcz,Zhl,ZcJ,Zef, *])]
 simp only[hf0,href,Zet hs hc]
 unfold Zbl
 simp only[Zdb]
 have hall:([t].all fun t=>okB (G.getD t .free))=true:=by simp[XW,XX,hs,okB]
 rw[if_pos hall]
 have hC:Zm G 0 [t] t 0=some (0,0):=by simp[Zm,ZI,hs,Zn,ZD]
 have hheap:Zo G 0 [t] (Zm G 0 [t]) [t] 0=[.var cs]:=by
  simp only[Zo,hd,Zz,(Z5 _ cs hc).1]
 have hargs:Zj (Zm G 0 [t]) (.ref t 0::rest.map Z1)=.ref 0 0::rest.map Z1:=by
  rw[Zj,Zd8 hp]
  simp only[Zp,hC]
 rw[hargs,hheap,h]
 have hask:ZV view [t].length (some (.pan x,[.var cs']))=some (.pan x,[.var cs']):=by
  unfold ZV
  split<;>rfl
 rw[hask]
 have hk:Za0 G [t] [.var cs'] 0=true:=by
  simp[Za0,okB,hs,Zcx,Zn]
 have hnp:ZQ (.pan x)=true:=by simpa only[ZQ]using hn
 simp only[Zaz,WC,Xi,if_false,Xz,Xw,XF,X6,XH,decide_true,hk,Zah,XT,if_true,ZaR,ZaB,Xm,Zz,(Za9 _ _ hnp).1,(Z5 _ cs' hc').1,hup]
end
section
theorem ZzX{O:ZS}{bf:Nat->Bool}{G:Za}{t f own:Nat}{rest:List AVal}{cs cs':List AVal}{r r':AVal}(hb:bf f=false)(hp:rest.all Zai=true)(hc:Ze cs=true)(hc':Ze cs'=true)(hn:ZQ r'=true)(hv:viewR [.var cs'] r=some (r',[]))
  (h:O f (.ref 0 0::rest.map Z1) [.var cs]=some (r,[.var cs'])) (hs:G[t]?=some (.var cs)) (sq:Nat) (hff:Zah G sq own=true):Zq O bf G sq f own true (.ref t 0::rest)=some (r',G.set t (.var cs'),{ any:=true,upd:=[(t,cs')] }):=by
 have htl:t<G.length:=by
  rcases Wz t G.length with h |h
  ·exact h
  ·rw[Wb h]at hs;cases hs
 have hup:Zba (G.set t (.var cs')) [t]=[(t,cs')]:=by
  simp only[Zba,XO,if_pos htl,if_true]
 have hd:G.getD t .free=.var cs:=by simp[Xh,hs]
 have hf0:Zu G []=G:=rfl
 have hsh:showAs G (.ref t 0::rest)=some (.ref t 0::rest.map Z1,[]):=by
  rw[showAs,show showA G (.ref t 0)=some (.ref t 0,[])from rfl,Zea hp]
  rfl
 have href:Zl (.ref t 0::rest.map Z1)=[t]:=by
  rw[Zl,Zd4 hp];rfl
 unfold Zq
 rw[Zf0 (hb) hsh (by first |rfl |exact Zef ‹_› |exact ZcJ ‹_› |(rw[Wu,ZcJ ‹_›];rfl) |simp[Zcz,Zhl,ZcJ,Zef, *])]
 simp only[hf0,href,Zet hs hc]
 unfold Zbl
 simp only[Zdb]
 have hall:([t].all fun t=>okB (G.getD t .free))=true:=by simp[XW,XX,hs,okB]
 rw[if_pos hall]
 have hC:Zm G 0 [t] t 0=some (0,0):=by simp[Zm,ZI,hs,Zn,ZD]
 have hheap:Zo G 0 [t] (Zm G 0 [t]) [t] 0=[.var cs]:=by
  simp only[Zo,hd,Zz,(Z5 _ cs hc).1]
 have hargs:Zj (Zm G 0 [t]) (.ref t 0::rest.map Z1)=.ref 0 0::rest.map Z1:=by
  rw[Zj,Zd8 hp]
  simp only[Zp,hC]
 rw[hargs,hheap,h]
 have hask:ZV true [t].length (some (r,[.var cs']))=some (r',[.var cs']):=by
  unfold ZV
  rw[if_pos rfl]
  have hnp:∀ x,r≠.pan x:=by rintro x rfl;simp[viewR,Z3,ZN]at hv
  rw[show ZbP [t].length (some (r,[.var cs']))=(match viewR [.var cs'] r with
   |some (r',ts)=>match gcA [t].length [r'] (Zu [.var cs'] ts)with
    |([r''],G')=>some (r'',G')
    |_=>none
   |none=>none)from by cases r<;>first |rfl |grind]
  rw[hv]
  simp only[Xz,Xw,XF,show Zu [ZO.var cs'] []=[.var cs']from rfl,Zl8 hn hc']
 rw[hask]
 have hk:Za0 G [t] [.var cs'] 0=true:=by
  simp[Za0,okB,hs,Zcx,Zn]
 simp only[Zaz,WC,Xi,if_false,Xz,Xw,XF,Xav,XH,decide_true,hk,hff,XT,if_true,ZaR,ZaB,Xm,Zz,(Za9 _ r' hn).1,(Z5 _ cs' hc').1,hup]
theorem Zmd{O:ZS}{bf:Nat->Bool}{G:Za}{t f own:Nat}{rest:List AVal}{cs cs':List AVal}{x:AVal}{view:Bool}(hb:bf f=false)(hp:rest.all Zai=true)(hc:Ze cs=true)(hc':Ze cs'=true)(hn:ZQ x=true)
  (h:O f (.ref 0 0::rest.map Z1) [.var cs]=some (.pan x,[.var cs'])) (hs:G[t]?=some (.var cs)) (sq:Nat) (hff:Zah G sq own=true):Zq O bf G sq f own view (.ref t 0::rest)=some (.pan x,G.set t (.var cs'),{ any:=true,upd:=[(t,cs')] }):=by
 have htl:t<G.length:=by
  rcases Wz t G.length with h |h
  ·exact h
  ·rw[Wb h]at hs;cases hs
 have hup:Zba (G.set t (.var cs')) [t]=[(t,cs')]:=by
  simp only[Zba,XO,if_pos htl,if_true]
 have hd:G.getD t .free=.var cs:=by simp[Xh,hs]
 have hf0:Zu G []=G:=rfl
 have hsh:showAs G (.ref t 0::rest)=some (.ref t 0::rest.map Z1,[]):=by
  rw[showAs,show showA G (.ref t 0)=some (.ref t 0,[])from rfl,Zea hp]
  rfl
 have href:Zl (.ref t 0::rest.map Z1)=[t]:=by
  rw[Zl,Zd4 hp];rfl
 unfold Zq
 rw[Zf0 (hb) hsh (by first |rfl |exact Zef ‹_› |exact ZcJ ‹_› |(rw[Wu,ZcJ ‹_›];rfl) |simp[Zcz,Zhl,ZcJ,Zef, *])]
 simp only[hf0,href,Zet hs hc]
 unfold Zbl
 simp only[Zdb]
 have hall:([t].all fun t=>okB (G.getD t .free))=true:=by simp[XW,XX,hs,okB]
 rw[if_pos hall]
 have hC:Zm G 0 [t] t 0=some (0,0):=by simp[Zm,ZI,hs,Zn,ZD]
 have hheap:Zo G 0 [t] (Zm G 0 [t]) [t] 0=[.var cs]:=by
  simp only[Zo,hd,Zz,(Z5 _ cs hc).1]
 have hargs:Zj (Zm G 0 [t]) (.ref t 0::rest.map Z1)=.ref 0 0::rest.map Z1:=by
  rw[Zj,Zd8 hp]
  simp only[Zp,hC]
 rw[hargs,hheap,h]
 have hask:ZV view [t].length (some (.pan x,[.var cs']))=some (.pan x,[.var cs']):=by
  unfold ZV
  split<;>rfl
 rw[hask]
 have hk:Za0 G [t] [.var cs'] 0=true:=by
  simp[Za0,okB,hs,Zcx,Zn]
 have hnp:ZQ (.pan x)=true:=by simpa only[ZQ]using hn
 simp only[Zaz,WC,Xi,if_false,Xz,Xw,XF,Xav,XH,decide_true,hk,hff,XT,if_true,ZaR,ZaB,Xm,Zz,(Za9 _ _ hnp).1,(Z5 _ cs' hc').1,hup]
theorem Zck{O:ZS}{bf:Nat->Bool}{G:Za}{sq f own:Nat}{view:Bool}{args vs vs':List AVal}{ids:List Nat}{h0 h:Za}{r0 r:AVal}(hb:bf f=false)(hsh:showAs G args=some (vs,[]))(hre:Zt G 1000 (Zl vs) []=ids)(hne:ids.isEmpty=false)
  (hall:(ids.all fun t=>okB (G.getD t .free))=true) (hvs:Zj (Zm G 0 ids) vs=vs') (hh:Zo G 0 ids (Zm G 0 ids) ids 0=h0) {hh0:Za} (hO:O f vs' h0=some (r0,hh0)) (hv:ZV view ids.length (some (r0,hh0))=some (r,h))
  (hl1:h.length<=ids.length+own) (hl2:ids.length<=h.length) (hk:Za0 G ids h 0=true) (hff:Zah G sq own=true) {r':AVal} (hr:Zp (Zak G ids sq) r=r') {G':Za} (hlay:ZaR G ids sq h 0 G=G') {u:List (Nat×List AVal)} (hu:Zba G' ids=u) (hvl:vs.any Zcz=false:=by first |rfl |exact ZcJ ‹_› |(rw[Wu,ZcJ ‹_›];rfl) |exact Zef ‹_›) :
  Zq O bf G sq f own view args=some (r',G',{ any:=true,upd:=u }):=by
 subst hr hlay hu
 unfold Zq
 rw[Zf0 (hb) hsh (by grind)]
 simp only[show Zu G []=G from rfl,hre]
 unfold Zbl
 simp only[Zdb]
 rw[if_pos hall,hvs,hh,hO,hv]
 simp only[Zaz,hne,Wi,Xi,if_false,hl1,hl2,decide_true,hk,hff,XT,if_true]
end
section
section
variable {G:Za}{cs xs:List AVal}{g w:Nat}
theorem ZsX{t r:Nat}(hs:G[t]?=some (.var cs))(hr:G[r]?=some (.row g w xs))(htr:t≠r)(hrf:Zl cs=[r]):Zt G 1000 [t] []=[t,r]:=by
 have h1:G.getD t .free=.var cs:=by simp[Xh,hs]
 have h2:G.getD r .free=.row g w xs:=by simp[Xh,hr]
 have e1:([]:List Nat).contains t=false:=rfl
 have e2:([t]:List Nat).contains r=false:=by simp;exact fun e=>htr e.symm
 rw[show(1000:Nat)=997+1+1+1 from rfl,Zt,e1]
 simp only[Xi,if_false,h1,ZB,hrf,Xr,Xp]
 rw[Zt,e2]
 simp only[Xi,if_false,h2,ZB,Xp]
 rfl
theorem ZxF{r:AVal}{G:Za}(hr:ZQ r=true)(hrf:Zl cs=[1])(hg:g<=1)(hren:∀ C:Rho,C 1 g=some (1,g)->Zj C cs=cs):gcA 2 [r] (.var cs::.row g w xs::G)=([r],[.var cs,.row g w xs]):=by
 have e1:=(Za9 (Zm (.var cs::.row g w xs::G) 2 [0,1]) r hr)
 have h1:Zw 2 [r] (.var cs::.row g w xs::G)=[0,1]:=by
  have : Zl [r]=[]:=by simp only[Zl,e1.2,Xr]
  have hR:X5 2=[0,1]:=rfl
  simp only[Zw,this,Xp,hR,XB,XQ,Xr,Xm,Xs,ZB,hrf]
  rfl
 have hng:(if g=0 then 0 else 1)=g:=by split<;>omega
 have hC:Zm (.var cs::.row g w xs::G) 2 [0,1] 1 g=some (1,g):=by
  simp only[Zm,ZI,Zn,ZD,XN,XK]
  simp[hng]
 simp only[gcA,h1,Zj,e1.1,Zo,Xm,Xs,ZD,Zn,Zz,hren _ hC]
 simp[hng]
theorem Zma{r:AVal}{G:Za}(hr:ZQ r=true)(hrf:Zl cs=[1])(hg:g<=1)(hren:∀ C:Rho,C 1 g=some (1,g)->Zj C cs=cs):ZR 2 (.var cs::.row g w xs::G) r=some (r,[.var cs,.row g w xs]):=by
 simp only[ZR,ZxF hr hrf hg hren]
end
theorem Zb8:∀ (a b:List AVal),Zl (a++b)=Zl a++Zl b
 | [],b=>by simp[Zl]
 |x::a,b=>by simp[Zl,Zb8 a b,List.append_assoc]
theorem Zbx(C:Rho):∀ (a b:List AVal),Zj C (a++b)=Zj C a++Zj C b
 | [],b=>by simp[Zj]
 |x::a,b=>by simp[Zj,Zbx C a b]
theorem Zit{v:AVal}:∀ {P:List AVal} {k:Nat},Ze P=true->k<P.length->Zl (P.set k v)=ZG v
 | [],_,_,h=>by simp at h
 |x::P,0,h,_=>by
  simp only[Ze,Xk]at h
  simp only[WG,Zl,(Z5 (fun _ _=>none) P h.2).2,Xr]
 |x::P,k+1,h,hk=>by
  simp only[Ze,Xk]at h
  simp only[Wp,Zl,(Za9 (fun _ _=>none) x h.1).2,Xp]
  exact Zit h.2 (by grind)
theorem ZkY(C:Rho){v:AVal}:∀ {P:List AVal} {k:Nat},Ze P=true->Zj C (P.set k v)=P.set k (Zp C v)
 | [],_,_=>by simp[Zj]
 |x::P,0,h=>by
  simp only[Ze,Xk]at h
  simp only[WG,Zj,(Z5 C P h.2).1]
 |x::P,k+1,h=>by
  simp only[Ze,Xk]at h
  simp only[Wp,Zj,(Za9 C x h.1).1,ZkY C h.2]
theorem ZF8{G:Za}{t r g w w2 g2:Nat}{cs xs cs2 xs2:List AVal}(hs:G[t]?=some (.var cs))(hr:G[r]?=some (.row g w xs))(hg2:g2<=1):Za0 G [t,r] [.var cs2,.row g2 w2 xs2] 0=true:=by
 have h1:G.getD t .free=.var cs:=by simp[Xh,hs]
 have h2:G.getD r .free=.row g w xs:=by simp[Xh,hr]
 simp[Za0,okB,Zcx,Zn,hs,hr,hg2]
theorem Zii{O:ZS}{bf:Nat->Bool}{G:Za}{t r f own g w g2 w2 sq:Nat}{view:Bool}{rest:List AVal}{cs cs1 cs2 cs3 xs xs2:List AVal}{q q':AVal}(hs:G[t]?=some (.var cs))(hr:G[r]?=some (.row g w xs))(htr:t≠r)(hrf:Zl cs=[r])(hb:bf f=false)(hp:rest.all Zai=true)
  (hren:∀ C:Rho,C r g=some (1,0)->Zj C cs=cs1) (hg2:g2<=1) (hff:Zah G sq own=true) (hn:ZQ q'=true)
  (h:O f (.ref 0 0::rest.map Z1) [.var cs1,.row 0 w xs]=some (q,[.var cs2,.row g2 w2 xs2])) (hv:ZV view 2 (some (q,[.var cs2,.row g2 w2 xs2]))=some (q',[.var cs2,.row g2 w2 xs2]))
  (hback:∀ C:Rho,(∀ j,C 1 j=some (r,g+j))->Zj C cs2=cs3) :
  Zq O bf G sq f own view (.ref t 0::rest)=some (q',(G.set t (.var cs3)).set r (.row (g+g2) w2 xs2),{ any:=true,upd:=[(t,cs3)] }):=by
 have htl:t<G.length:=by
  rcases Wz t G.length with h |h
  ·exact h
  ·rw[Wb h]at hs;cases hs
 have h1:G.getD t .free=.var cs:=by simp[Xh,hs]
 have h2:G.getD r .free=.row g w xs:=by simp[Xh,hr]
 have hf0:Zu G []=G:=rfl
 have hsh:showAs G (.ref t 0::rest)=some (.ref t 0::rest.map Z1,[]):=by
  rw[showAs,show showA G (.ref t 0)=some (.ref t 0,[])from rfl,Zea hp]
  rfl
 have href:Zl (.ref t 0::rest.map Z1)=[t]:=by
  rw[Zl,Zd4 hp];rfl
 have hup:Zba ((G.set t (.var cs3)).set r (.row (g+g2) w2 xs2)) [t,r]=[(t,cs3)]:=by
  have e1:((G.set t (.var cs3)).set r (.row (g+g2) w2 xs2))[t]?=some (.var cs3):=by
   rw[Xl (fun e=>htr e.symm),XV htl]
  have e2:((G.set t (.var cs3)).set r (.row (g+g2) w2 xs2))[r]?=some (.row (g+g2) w2 xs2):=by
   rw[XV (by
    rcases Wz r G.length with h |h
    ·simpa using h
    ·rw[Wb h]at hr;cases hr)]
  simp only[Zba,e1,e2]
 unfold Zq
 rw[Zf0 (hb) hsh (by first |rfl |exact Zef ‹_› |exact ZcJ ‹_› |(rw[Wu,ZcJ ‹_›];rfl) |simp[Zcz,Zhl,ZcJ,Zef, *])]
 simp only[hf0,href,ZsX hs hr htr hrf]
 unfold Zbl
 simp only[Zdb]
 have hall:([t,r].all fun t=>okB (G.getD t .free))=true:=by simp only[XW,XX,h1,h2,okB,Xag]
 rw[if_pos hall]
 have hCt:Zm G 0 [t,r] t 0=some (0,0):=by simp[Zm,ZI,hs,Zn,ZD]
 have hCr:Zm G 0 [t,r] r g=some (1,0):=by simp[Zm,ZI,hr,Zn,ZD,htr]
 have hargs:Zj (Zm G 0 [t,r]) (.ref t 0::rest.map Z1)=.ref 0 0::rest.map Z1:=by
  rw[Zj,Zd8 hp]
  simp only[Zp,hCt]
 have hheap:Zo G 0 [t,r] (Zm G 0 [t,r]) [t,r] 0=[.var cs1,.row 0 w xs]:=by
  simp only[Zo,h1,h2,ZD,Zn,Zz,hren _ hCr]
  simp
 rw[hargs,hheap,h]
 rw[show [t,r].length=2 from rfl,hv]
 have hk:=ZF8 (cs2:=cs2) (w2:=w2) (xs2:=xs2) hs hr hg2
 have hb3:Zj (Zak G [t,r] sq) cs2=cs3:=hback _ (fun j=>by simp only[Zak,XN,XK,h2,Zn])
 simp only[Zaz,WC,Xi,if_false,Xz,Xw,XF,Xd,Xav,XH,decide_true,hk,hff,XT,if_true,ZaR,ZaB,Xm,Xs,ZbZ,XK,XN,h2,Zn,Zz,(Za9 _ _ hn).1,hb3,hup]
end
section
theorem ZqO{O:ZS}{bf:Nat->Bool}{G:Za}{sq f own:Nat}{view:Bool}{args vs:List AVal}{r:AVal}(hb:bf f=false)(hsh:showAs G args=some (vs,[]))(hl:vs.any Zcz=true)(hr:Zl vs=[])(hn:∀ C:Rho,Zj C (vs.map ZbA)=vs.map ZbA)
  (hO:O f (vs.map ZbA) []=some (r,[])) (hf:ZbB r=true) (hv:ZV view 0 (some (r,[]))=some (r,[])):Zq O bf G sq f own view args=some (r,G,{}):=by
 have hm:Zbb bf f G args=some (vs.map ZbA,[],[],1):=by
  simp only[Zbb,hb,Xi,if_false,hsh,hl,hr,if_true,X8]
 have hr':Zl (vs.map ZbA)=[]:=by rw[Ziz];exact hr
 unfold Zq
 rw[hm]
 simp only[hr',show Zu G []=G from rfl,show Zt G 1000 [] []=[]from rfl]
 unfold Zbl
 simp only[XX,if_true,hn,Zo,Xw,hO,ZbU,ZgL,hf,X8,XT,WV,hv,Zaz]
theorem ZoP(G:Za)(b:Zd)(kk:IntKind)(n:Int)(h0:0<=n)(h1:n<=b.length):ZbO G 1 (.lnt b) none (some (.int kk n)) none=some (.lnt (b.take n.toNat),G,{}):=by
 simp[ZbO,Za3,Zdy,h0,h1]
theorem Zfw(G:Za)(b:Zd)(kk:IntKind)(n:Int)(h0:0<=n)(h1:n<=b.length):ZbO G 1 (.lnt b) (some (.int kk n)) none none=some (.lnt (b.drop n.toNat),G,{}):=by
 simp[ZbO,Za3,Zdy,h0,h1]
theorem ZBh(G:Za)(b:Zd)(k1 k2:IntKind)(lo hi:Int)(h0:0<=lo)(h1:lo<=hi)(h2:hi<=b.length):ZbO G 1 (.lnt b) (some (.int k1 lo)) (some (.int k2 hi)) none=some (.lnt ((b.take hi.toNat).drop lo.toNat),G,{}):=by
 have h3:0<=hi:=by omega
 have h4:lo<=max hi 0:=by omega
 simp[ZbO,Za3,Zdy,h0,h2,h3,h4]
theorem ZAp{O:ZS}{bf:Nat->Bool}{G:Za}{sq f own:Nat}{args vs:List AVal}{r r':AVal}{h:Za}(hb:bf f=false)(hsh:showAs G args=some (vs,[]))(hl:vs.any Zcz=true)(hr:Zl vs=[])(hn:∀ C:Rho,Zj C (vs.map ZbA)=vs.map ZbA)
  (hO:O f (vs.map ZbA) []=some (r,h)) (hf:Zhb r=true) (hh:h.all Zgk=true) (hv:ZV true 0 (some (r,h))=some (r',[])) (hn':Zp (Zak [] [] sq) r'=r'):Zq O bf G sq f own true args=some (r',G,{}):=by
 have hm:Zbb bf f G args=some (vs.map ZbA,[],[],1):=by
  simp only[Zbb,hb,Xi,if_false,hsh,hl,hr,if_true,X8]
 have hr':Zl (vs.map ZbA)=[]:=by rw[Ziz];exact hr
 unfold Zq
 rw[hm]
 simp only[hr',show Zu G []=G from rfl,show Zt G 1000 [] []=[]from rfl]
 unfold Zbl
 simp only[XX,if_true,hn,Zo,Xw,hO,ZbU,ZgL,hf,hh,XT,W7,hv]
 exact Zfz G sq own r' hn'
theorem Zyr{O:ZS}{bf:Nat->Bool}{G:Za}{sq f own:Nat}{view:Bool}{args vs:List AVal}{r r':AVal}(hb:bf f=true)(h2:bf (f+2000000)=false)(h3:bf (f+3000000)=true)(hsh:showAs G args=some (vs,[]))(hr:Zl vs=[])(hn:∀ C:Rho,Zj C vs=vs)
  (hO:O f vs []=some (r,[])) (hv:ZV view 0 (some (r,[]))=some (r',[])) (hn':Zp (Zak [] [] sq) r'=r'):Zq O bf G sq f own view args=some (r',G,{}):=by
 have hm:Zbb bf f G args=some (vs,[],[],0):=by
  simp only[Zbb,hb,h2,h3,Wi,Xi,if_false,if_true,hsh]
 unfold Zq
 rw[hm]
 simp only[hr,show Zu G []=G from rfl,show Zt G 1000 [] []=[]from rfl]
 unfold Zbl
 simp only[XX,if_true,hn,Zo,Xw,hO,Zdb,hv]
 exact Zfz G sq own r' hn'
theorem ZuI{O:ZS}{bf:Nat->Bool}{G:Za}{sq f own:Nat}{view:Bool}{args:List AVal}{r r':AVal}{h:Za}(hb:bf f=true)(hno:args.any Zin=false)(h3:bf (f+3000000)=false)(hr:Zl args=[])(hn:∀ C:Rho,Zj C args=args)
  (hO:O f args []=some (r,h)) (hv:ZV view 0 (some (r,h))=some (r',[])) (hn':Zp (Zak [] [] sq) r'=r'):Zq O bf G sq f own view args=some (r',G,{}):=by
 have hm:Zbb bf f G args=some (args,[],[],0):=by
  simp only[Zbb,hb,hno,h3,XaZ,Xi,if_false,if_true]
 unfold Zq
 rw[hm]
 simp only[hr,show Zu G []=G from rfl,show Zt G 1000 [] []=[]from rfl]
 unfold Zbl
 simp only[XX,if_true,hn,Zo,Xw,hO,Zdb,hv]
 exact Zfz G sq own r' hn'
theorem ZLE{O:ZS}{bf:Nat->Bool}{G:Za}{sq f own:Nat}{view:Bool}{args vs:List AVal}{ls:List Nat}{r r':AVal}{h:Za}(hb:bf f=true)(h2:bf (f+2000000)=true)(hno:args.any Zin=true)(hl:ZdN G args=some (vs,[],ls))(hr:Zl vs=[])(hn:∀ C:Rho,Zj C vs=vs)
  (hO:O f vs []=some (r,h)) (hf:ZcZ r=true) (hh:h.all ZnG=true) (hv:ZV view 0 (some (r,h))=some (r',[])) (hn':Zp (Zak [] [] sq) r'=r') (hfl:ZbB r'=false) (hap:Zde G ls r'=false):Zq O bf G sq f own view args=some (r',G,{ rd:=ls,wr:=ls }):=by
 have hm:Zbb bf f G args=some (vs,[],ls,2):=by
  simp only[Zbb,hb,h2,hno,XT,if_true,hl,hr,X8,Xp]
 unfold Zq
 rw[hm]
 simp only[hr,show Zu G []=G from rfl,show Zt G 1000 [] []=[]from rfl]
 unfold Zbl
 simp only[XX,if_true,hn,Zo,Xw,hO,ZbU,ZjP,hf,hh,XT,hv]
 simp only[Zaz,X8,XT,if_true,hfl,hap,Xi,if_false,hn']
theorem ZNH{O:ZS}{bf:Nat->Bool}{G:Za}{sq f own:Nat}{view:Bool}{args vs:List AVal}{ts:List Nat}{r r':AVal}(hb:bf f=true)(h2:bf (f+2000000)=false)(h3:bf (f+3000000)=true)(hsh:showAs G args=some (vs,ts))(hr:Zl vs=[])(hn:∀ C:Rho,Zj C vs=vs)
  (hO:O f vs []=some (r,[])) (hv:ZV view 0 (some (r,[]))=some (r',[])) (hap:Zde G ts r'=true):Zq O bf G sq f own view args=some (r',G,{ rd:=ts }):=by
 have hm:Zbb bf f G args=some (vs,ts,ts,0):=by
  simp only[Zbb,hb,h2,h3,Wi,Xi,if_false,if_true,hsh]
 unfold Zq
 rw[hm]
 simp only[hr,show ∀ G,Zt G 1000 [] []=[]from fun _=>rfl]
 unfold Zbl
 simp only[XX,if_true,hn,Zo,Xw,hO,Zdb,hv,Zaz,X8,XT,hap]
 split<;>rfl
theorem ZR1{O:ZS}{bf:Nat->Bool}{G:Za}{sq f n k:Nat}{args vs ws xs:List AVal}(hb:bf f=false)(hsh:showAs G args=some (vs,[]))(hl:vs.any Zcz=true)(hr:Zl vs=[])(hn:∀ C:Rho,Zj C (vs.map ZbA)=vs.map ZbA)
  (hO:O f (vs.map ZbA) []=some (.tup (.sl 0 0 0 n::ws),[.row 0 k xs])) (hf:Zhb (.tup (.sl 0 0 0 n::ws))=true) (hx:xs.all Za5=true) (hw:∀ C:Rho,Zj C ws=ws) (hs:freeAt G sq=true):Zq O bf G sq f 1 false args=some (.tup (.sl sq 0 0 n::ws),G.set sq (.row 0 k xs),{ any:=true }):=by
 have hm:Zbb bf f G args=some (vs.map ZbA,[],[],1):=by
  simp only[Zbb,hb,Xi,if_false,hsh,hl,hr,if_true,X8]
 have hr':Zl (vs.map ZbA)=[]:=by rw[Ziz];exact hr
 unfold Zq
 rw[hm]
 simp only[hr',show Zu G []=G from rfl,show Zt G 1000 [] []=[]from rfl]
 unfold Zbl
 have hh:([ZO.row 0 k xs]:Za).all Zgk=true:=by simp only[XW,XX,Zgk,hx,Xag]
 simp only[XX,if_true,hn,Zo,Xw,hO,ZbU,ZgL,hf,hh,XT,W7]
 simp[ZV,Zaz,Zgy,Za0,okB,Zn,Zah,hs,Zp,hw,Zj,Zak,ZaR,Zba,ZaB,ZbZ,Zz]
end
section
theorem Zps(G:Za)(sq own:Nat)(b:Zd)(hl:b.length<=9223372036854775807):Zq E BY G sq 95 own true [.lnt b]=some (.int .u64 (Zce b),G,{}) :=
 ZqO (vs:=[.lnt b]) (by kernel_rfl) rfl rfl rfl (fun _=>rfl) (ZwH b hl) rfl rfl
theorem ZpZ(G:Za)(sq own:Nat)(b:Zd)(hl:b.length<=9223372036854775807):Zq E BY G sq 115 own true [.lnt b]=some (gvT (Zar b),G,{}) :=
 ZqO (vs:=[.lnt b]) (by kernel_rfl) rfl rfl rfl (fun _=>rfl) (ZPa b hl) rfl rfl
theorem ZiJ(G:Za)(sq own:Nat)(b:Zd)(hl:b.length<=140737488355328):Zq E BY G sq 98 own true [.lnt b]=some (gtT (ZU b),G,{}) :=
 ZqO (vs:=[.lnt b]) (by kernel_rfl) rfl rfl rfl (fun _=>rfl) (ZSh b hl) rfl rfl
theorem ZL6(G:Za)(sq own:Nat)(b:Zd)(hl:b.length<=140737488355328):Zq E BY G sq 114 own true [.lnt b]=some (gdT (ZL b),G,{}):=by
 have h:=Zm4 b hl
 unfold gdR at h
 unfold gdT
 by_cases he:(ZL b).2.2=0
 ·rw[if_pos he]at h
  refine ZAp (vs:=[.lnt b]) (by kernel_rfl) rfl rfl rfl (fun _=>rfl) h rfl ?_ ?_ rfl
  ·simp only[XW,XX,Zgk,ZlM,Xag]
  ·simp[ZV,ZbP,viewR,viewAs,Z3,ZN,ZZ,Zu,gcA,Zj,Zp,Zw,Zt,Zl,ZG,Zo]
   rw[XG (by simp)]
 ·rw[if_neg he]at h
  have hd:(ZL b).1=[]:=by
   unfold ZL at he ⊢
   split
   ·rfl
   ·grind
  rw[hd]
  exact ZAp (vs:=[.lnt b]) (by kernel_rfl) rfl rfl rfl (fun _=>rfl) h rfl rfl rfl rfl
end
section
theorem ZJn{O:ZS}{bf:Nat->Bool}{G:Za}{sq f own:Nat}{args vs:List AVal}{r:AVal}(hb:bf f=false)(hsh:showAs G args=some (vs,[]))(hl:vs.any Zcz=true)(hr:Zl vs=[])(hn:∀ C:Rho,Zj C (vs.map ZbA)=vs.map ZbA)
  (hO:O f (vs.map ZbA) []=some (r,[])) (hf:Zhb r=true) (hn':Zp (Zak [] [] sq) r=r):Zq O bf G sq f own false args=some (r,G,{}):=by
 have hm:Zbb bf f G args=some (vs.map ZbA,[],[],1):=by
  simp only[Zbb,hb,Xi,if_false,hsh,hl,hr,if_true,X8]
 have hr':Zl (vs.map ZbA)=[]:=by rw[Ziz];exact hr
 unfold Zq
 rw[hm]
 simp only[hr',show Zu G []=G from rfl,show Zt G 1000 [] []=[]from rfl]
 unfold Zbl
 simp only[XX,if_true,hn,Zo,Xw,hO,ZbU,ZgL,hf,XT,W7,ZV,Xi,if_false]
 exact Zfz G sq own r hn'
theorem ZKk{O:ZS}{bf:Nat->Bool}{G:Za}{sq f n k:Nat}{args vs xs:List AVal}(hb:bf f=false)(hsh:showAs G args=some (vs,[]))(hl:vs.any Zcz=true)(hr:Zl vs=[])(hn:∀ C:Rho,Zj C (vs.map ZbA)=vs.map ZbA)
  (hO:O f (vs.map ZbA) []=some (.sl 0 0 0 n,[.row 0 k xs])) (hx:xs.all Za5=true) (hs:freeAt G sq=true):Zq O bf G sq f 1 false args=some (.sl sq 0 0 n,G.set sq (.row 0 k xs),{}):=by
 have hm:Zbb bf f G args=some (vs.map ZbA,[],[],1):=by
  simp only[Zbb,hb,Xi,if_false,hsh,hl,hr,if_true,X8]
 have hr':Zl (vs.map ZbA)=[]:=by rw[Ziz];exact hr
 unfold Zq
 rw[hm]
 simp only[hr',show Zu G []=G from rfl,show Zt G 1000 [] []=[]from rfl]
 unfold Zbl
 have hh:([ZO.row 0 k xs]:Za).all Zgk=true:=by simp only[XW,XX,Zgk,hx,Xag]
 have hf:Zhb (.sl 0 0 0 n)=true:=rfl
 simp only[XX,if_true,hn,Zo,Xw,hO,ZbU,ZgL,hf,hh,XT,W7]
 simp[ZV,Zaz,Zgy,hx]
section
variable {O:ZS}{bf:Nat->Bool}{G:Za}{t f sq w n:Nat}{cs cs2 ys:List AVal}
theorem ZCr(hb:bf f=false)(hc:Ze cs=true)(hc2:Ze cs2=true)(h:O f [.ref 0 0] [.var cs]=some (.sl 1 0 0 n,[.var cs2,.row 0 w ys]))(hs:G[t]?=some (.var cs))(hff:Zah G sq 1=true) :
  Zq O bf G sq f 1 false [.ref t 0]=some (.sl sq 0 0 n,(G.set t (.var cs2)).set sq (.row 0 w ys),{ any:=true,upd:=[(t,cs2)] }):=by
 have hfs:G[sq]?=some .free:=Zev (i:=0) hff (by omega)
 have hts:t≠sq:=by rintro rfl;rw[hs]at hfs;cases hfs
 have htl:t<G.length:=(Xn.1 hs).1
 have hd:G.getD t .free=.var cs:=by simp[Xh,hs]
 have hC:Zm G 0 [t] t 0=some (0,0):=by simp[Zm,ZI,hs,Zn,ZD]
 refine Zck (vs:=[.ref t 0]) (ids:=[t]) hb rfl (Zet hs hc) rfl (by simp[hs,okB]) ?_ ?_ h rfl (by simp) (by simp) ?_ hff ?_ ?_ ?_ rfl
 ·simp only[Zj,Zp,hC]
 ·simp only[Zo,hd,Zz,(Z5 _ cs hc).1]
 ·simp[Za0,okB,hs,Zcx,Zn]
 ·simp[Zp,Zak]
 ·simp only[ZaR,ZaB,Xm,ZbZ,Zn,Zz,(Z5 _ cs2 hc2).1]
  simp[]
 ·have e1:((G.set t (.var cs2)).set sq (.row 0 w ys))[t]?=some (.var cs2):=by
   rw[Xl (fun e=>hts e.symm),XV htl]
  simp only[Zba,e1]
end
def Zi(Q:List AVal)(k r g n:Nat):List AVal:=Q.set k (.sl r g 0 n)
section
variable (Q:List AVal)(hQ:Q.length=26)(hN:Ze Q=true)(k:Nat)(hk:k<26)(n:Nat)
include hQ hN hk
theorem Zbr(r g:Nat):(Zi Q k r g n).length=26:=by simp[Zi,hQ]
theorem Za1(r g:Nat):Zl (Zi Q k r g n)=[r]:=by
 unfold Zi
 rw[Zit hN (by omega)]
 rfl
theorem ZaC{r g r' g':Nat}(C:Rho)(h:C r g=some (r',g')):Zj C (Zi Q k r g n)=Zi Q k r' g' n:=by
 unfold Zi
 rw[ZkY C hN]
 simp only[Zp,h]
end
theorem Zb3{cs cs' xs:List AVal}{w j:Nat}{r:AVal}{G:Za}(hr:ZQ r=true)(hj:j≠0)(h0:G[0]?=some (.var cs))(h1:G[j]?=some (.row 0 w xs))(hrf:Zl cs=[j])(hren:∀ C:Rho,C j 0=some (1,0)->Zj C cs=cs'):ZR 1 G r=some (r,[.var cs',.row 0 w xs]):=by
 have d0:G.getD 0 .free=.var cs:=by simp[Xh,h0]
 have d1:G.getD j .free=.row 0 w xs:=by simp[Xh,h1]
 have e1:=(Za9 (Zm G 1 [0,j]) r hr)
 have ej:([0]:List Nat).contains j=false:=by simp;omega
 have hi:Zw 1 [r] G=[0,j]:=by
  have : Zl [r]=[]:=by simp only[Zl,e1.2,Xr]
  have hR:X5 1=[0]:=rfl
  simp only[Zw,this,Xp,hR,XB,XQ,Xr,d0,ZB,hrf]
  rw[show(1000:Nat)=998+1+1 from rfl,Zt,ej]
  simp only[Xi,if_false,d1,ZB,Xp]
  rfl
 have hC:Zm G 1 [0,j] j 0=some (1,0):=by
  have : ¬(0:Nat)=j:=fun e=>hj e.symm
  simp[Zm,ZI,Zn,ZD,h1,this]
 simp only[ZR,gcA,hi,Zj,e1.1,Zo,d0,d1,ZD,Zn,Zz,hren _ hC]
 simp
section
variable {O:ZS}{bf:Nat->Bool}{G:Za}{t f sq w:Nat}{rest:List AVal}{cs cs2 cs3 ys:List AVal}
theorem Zml(hb:bf f=false)(hp:rest.all Zai=true)(hc:Ze cs=true)(hrf:Zl cs2=[1])(hren:∀ C:Rho,C 1 0=some (1,0)->Zj C cs2=cs2)(hback:∀ C:Rho,C 1 0=some (sq,0)->Zj C cs2=cs3)
  (h:O f (.ref 0 0::rest.map Z1) [.var cs]=some (.tup [],[.var cs2,.row 0 w ys])) (hs:G[t]?=some (.var cs)) {own:Nat} (ho:1<=own) (hff:Zah G sq own=true):Zq O bf G sq f own true (.ref t 0::rest)=some (.tup [],(G.set t (.var cs3)).set sq (.row 0 w ys),{ any:=true,upd:=[(t,cs3)] }):=by
 have hfs:G[sq]?=some .free:=Zev (i:=0) hff (by omega)
 have hts:t≠sq:=by rintro rfl;rw[hs]at hfs;cases hfs
 have htl:t<G.length:=(Xn.1 hs).1
 have hd:G.getD t .free=.var cs:=by simp[Xh,hs]
 have hsh:showAs G (.ref t 0::rest)=some (.ref t 0::rest.map Z1,[]):=by
  rw[showAs,show showA G (.ref t 0)=some (.ref t 0,[])from rfl,Zea hp]
  rfl
 have href:Zl (.ref t 0::rest.map Z1)=[t]:=by
  rw[Zl,Zd4 hp];rfl
 have hC:Zm G 0 [t] t 0=some (0,0):=by simp[Zm,ZI,hs,Zn,ZD]
 have hask:ZV true [t].length (some (.tup [],[.var cs2,.row 0 w ys]))=some (.tup [],[.var cs2,.row 0 w ys]):=Zb3 (j:=1) (G:=[.var cs2,.row 0 w ys]) (r:=.tup []) rfl (by omega) rfl rfl hrf hren
 refine Zck (ids:=[t]) hb hsh (by rw[href];exact Zet hs hc) rfl (by simp[hs,okB]) ?_ ?_ h hask (by grind) (by simp) ?_ hff rfl ?_ ?_
 ·rw[Zj,Zd8 hp]
  simp only[Zp,hC]
 ·simp only[Zo,hd,Zz,(Z5 _ cs hc).1]
 ·simp[Za0,okB,hs,Zcx,Zn]
 ·have hb3:Zj (Zak G [t] sq) cs2=cs3:=hback _ (by simp[Zak])
  simp only[ZaR,ZaB,Xm,ZbZ,Zn,Zz,hb3]
  simp[]
 ·have e1:((G.set t (.var cs3)).set sq (.row 0 w ys))[t]?=some (.var cs3):=by
   rw[Xl (fun e=>hts e.symm),XV htl]
  simp only[Zba,e1]
theorem Zzd{x:AVal}{view:Bool}(hb:bf f=false)(hp:rest.all Zai=true)(hc:Ze cs=true)(hback:∀ C:Rho,C 1 0=some (sq,0)->Zj C cs2=cs3)(hx:ZQ x=true)
  (h:O f (.ref 0 0::rest.map Z1) [.var cs]=some (.pan x,[.var cs2,.row 0 w ys])) (hs:G[t]?=some (.var cs)) {own:Nat} (ho:1<=own) (hff:Zah G sq own=true):Zq O bf G sq f own view (.ref t 0::rest)=some (.pan x,(G.set t (.var cs3)).set sq (.row 0 w ys),{ any:=true,upd:=[(t,cs3)] }):=by
 have hfs:G[sq]?=some .free:=Zev (i:=0) hff (by omega)
 have hts:t≠sq:=by rintro rfl;rw[hs]at hfs;cases hfs
 have htl:t<G.length:=(Xn.1 hs).1
 have hd:G.getD t .free=.var cs:=by simp[Xh,hs]
 have hnp:ZQ (.pan x)=true:=by simpa only[ZQ]using hx
 have hsh:showAs G (.ref t 0::rest)=some (.ref t 0::rest.map Z1,[]):=by
  rw[showAs,show showA G (.ref t 0)=some (.ref t 0,[])from rfl,Zea hp]
  rfl
 have href:Zl (.ref t 0::rest.map Z1)=[t]:=by
  rw[Zl,Zd4 hp];rfl
 have hC:Zm G 0 [t] t 0=some (0,0):=by simp[Zm,ZI,hs,Zn,ZD]
 have hask:ZV view [t].length (some (.pan x,[.var cs2,.row 0 w ys]))=some (.pan x,[.var cs2,.row 0 w ys]):=by
  unfold ZV
  split<;>rfl
 refine Zck (ids:=[t]) hb hsh (by rw[href];exact Zet hs hc) rfl (by simp[hs,okB]) ?_ ?_ h hask (by grind) (by simp) ?_ hff (Za9 _ _ hnp).1 ?_ ?_
 ·rw[Zj,Zd8 hp]
  simp only[Zp,hC]
 ·simp only[Zo,hd,Zz,(Z5 _ cs hc).1]
 ·simp[Za0,okB,hs,Zcx,Zn]
 ·have hb3:Zj (Zak G [t] sq) cs2=cs3:=hback _ (by simp[Zak])
  simp only[ZaR,ZaB,Xm,ZbZ,Zn,Zz,hb3]
  simp[]
 ·have e1:((G.set t (.var cs3)).set sq (.row 0 w ys))[t]?=some (.var cs3):=by
   rw[Xl (fun e=>hts e.symm),XV htl]
  simp only[Zba,e1]
end
theorem ZmQ{cs cs' xs ys:List AVal}{w w2 i j:Nat}{r:AVal}{G:Za}(hr:ZQ r=true)(hi0:i≠0)(hj0:j≠0)(hij:i≠j)(h0:G[0]?=some (.var cs))(h1:G[i]?=some (.row 0 w xs))(h2:G[j]?=some (.row 0 w2 ys))(hrf:Zl cs=[i,j])(hren:∀ C:Rho,C i 0=some (1,0)->C j 0=some (2,0)->Zj C cs=cs'):ZR 1 G r=some (r,[.var cs',.row 0 w xs,.row 0 w2 ys]):=by
 have d0:G.getD 0 .free=.var cs:=by simp[Xh,h0]
 have d1:G.getD i .free=.row 0 w xs:=by simp[Xh,h1]
 have d2:G.getD j .free=.row 0 w2 ys:=by simp[Xh,h2]
 have e1:=(Za9 (Zm G 1 [0,i,j]) r hr)
 have ei:([0]:List Nat).contains i=false:=by simp;omega
 have ej:([0,i]:List Nat).contains j=false:=by simp;omega
 have hi:Zw 1 [r] G=[0,i,j]:=by
  have : Zl [r]=[]:=by simp only[Zl,e1.2,Xr]
  have hR:X5 1=[0]:=rfl
  simp only[Zw,this,Xp,hR,XB,XQ,Xr,d0,ZB,hrf]
  rw[show(1000:Nat)=997+1+1+1 from rfl,Zt,ei]
  simp only[Xi,if_false,d1,ZB,Xp,XJ]
  rw[Zt,ej]
  simp only[Xi,if_false,d2,ZB,Xp,Xr,XJ]
  rfl
 have hC1:Zm G 1 [0,i,j] i 0=some (1,0):=by
  have : ¬(0:Nat)=i:=fun e=>hi0 e.symm
  simp[Zm,ZI,Zn,ZD,h1,this]
 have hC2:Zm G 1 [0,i,j] j 0=some (2,0):=by
  have a1:¬(0:Nat)=j:=fun e=>hj0 e.symm
  simp[Zm,ZI,Zn,ZD,h2,a1,hij]
 simp only[ZR,gcA,hi,Zj,e1.1,Zo,d0,d1,d2,ZD,Zn,Zz,hren _ hC1 hC2]
 simp
section
variable {O:ZS}{bf:Nat->Bool}{G:Za}{t f sq w w2:Nat}{rest:List AVal}{cs cs2 cs3 ys zs:List AVal}
theorem Zw0(hb:bf f=false)(hp:rest.all Zai=true)(hc:Ze cs=true)(hrf:Zl cs2=[1,2])(hren:∀ C:Rho,C 1 0=some (1,0)->C 2 0=some (2,0)->Zj C cs2=cs2)(hback:∀ C:Rho,C 1 0=some (sq,0)->C 2 0=some (sq+1,0)->Zj C cs2=cs3)
  (h:O f (.ref 0 0::rest.map Z1) [.var cs]=some (.tup [],[.var cs2,.row 0 w ys,.row 0 w2 zs])) (hs:G[t]?=some (.var cs)) (hff:Zah G sq 2=true):Zq O bf G sq f 2 true (.ref t 0::rest)=some (.tup [],((G.set t (.var cs3)).set sq (.row 0 w ys)).set (sq+1) (.row 0 w2 zs),{ any:=true,upd:=[(t,cs3)] }):=by
 have hfs:G[sq]?=some .free:=Zev (i:=0) hff (by omega)
 have hfs1:G[sq+1]?=some .free:=Zev (i:=1) hff (by omega)
 have hts:t≠sq:=by rintro rfl;rw[hs]at hfs;cases hfs
 have hts1:t≠sq+1:=by rintro rfl;rw[hs]at hfs1;cases hfs1
 have htl:t<G.length:=(Xn.1 hs).1
 have hd:G.getD t .free=.var cs:=by simp[Xh,hs]
 have hsh:showAs G (.ref t 0::rest)=some (.ref t 0::rest.map Z1,[]):=by
  rw[showAs,show showA G (.ref t 0)=some (.ref t 0,[])from rfl,Zea hp]
  rfl
 have href:Zl (.ref t 0::rest.map Z1)=[t]:=by
  rw[Zl,Zd4 hp];rfl
 have hC:Zm G 0 [t] t 0=some (0,0):=by simp[Zm,ZI,hs,Zn,ZD]
 have hask:ZV true [t].length (some (.tup [],[.var cs2,.row 0 w ys,.row 0 w2 zs]))=some (.tup [],[.var cs2,.row 0 w ys,.row 0 w2 zs]):=ZmQ (i:=1) (j:=2) (G:=[.var cs2,.row 0 w ys,.row 0 w2 zs]) (r:=.tup []) rfl (by omega) (by omega) (by omega) rfl rfl rfl hrf hren
 refine Zck (ids:=[t]) hb hsh (by rw[href];exact Zet hs hc) rfl (by simp[hs,okB]) ?_ ?_ h hask (by simp) (by simp) ?_ hff rfl ?_ ?_
 ·rw[Zj,Zd8 hp]
  simp only[Zp,hC]
 ·simp only[Zo,hd,Zz,(Z5 _ cs hc).1]
 ·simp[Za0,okB,hs,Zcx,Zn]
 ·have hb3:Zj (Zak G [t] sq) cs2=cs3:=hback _ (by simp[Zak]) (by simp[Zak])
  simp only[ZaR,ZaB,Xm,ZbZ,Zn,Zz,hb3]
  simp[]
 ·have e1:(((G.set t (.var cs3)).set sq (.row 0 w ys)).set (sq+1) (.row 0 w2 zs))[t]?=some (.var cs3):=by
   rw[Xl (fun e=>hts1 e.symm),Xl (fun e=>hts e.symm),XV htl]
  simp only[Zba,e1]
theorem ZMJ{x:AVal}{view:Bool}(hb:bf f=false)(hp:rest.all Zai=true)(hc:Ze cs=true)(hback:∀ C:Rho,C 1 0=some (sq,0)->C 2 0=some (sq+1,0)->Zj C cs2=cs3)(hx:ZQ x=true)
  (h:O f (.ref 0 0::rest.map Z1) [.var cs]=some (.pan x,[.var cs2,.row 0 w ys,.row 0 w2 zs])) (hs:G[t]?=some (.var cs)) (hff:Zah G sq 2=true):Zq O bf G sq f 2 view (.ref t 0::rest)=some (.pan x,((G.set t (.var cs3)).set sq (.row 0 w ys)).set (sq+1) (.row 0 w2 zs),{ any:=true,upd:=[(t,cs3)] }):=by
 have hfs:G[sq]?=some .free:=Zev (i:=0) hff (by omega)
 have hfs1:G[sq+1]?=some .free:=Zev (i:=1) hff (by omega)
 have hts:t≠sq:=by rintro rfl;rw[hs]at hfs;cases hfs
 have hts1:t≠sq+1:=by rintro rfl;rw[hs]at hfs1;cases hfs1
 have htl:t<G.length:=(Xn.1 hs).1
 have hd:G.getD t .free=.var cs:=by simp[Xh,hs]
 have hsh:showAs G (.ref t 0::rest)=some (.ref t 0::rest.map Z1,[]):=by
  rw[showAs,show showA G (.ref t 0)=some (.ref t 0,[])from rfl,Zea hp]
  rfl
 have href:Zl (.ref t 0::rest.map Z1)=[t]:=by
  rw[Zl,Zd4 hp];rfl
 have hC:Zm G 0 [t] t 0=some (0,0):=by simp[Zm,ZI,hs,Zn,ZD]
 have hnp:ZQ (.pan x)=true:=by simpa only[ZQ]using hx
 have hask:ZV view [t].length (some (.pan x,[.var cs2,.row 0 w ys,.row 0 w2 zs]))=some (.pan x,[.var cs2,.row 0 w ys,.row 0 w2 zs]):=by
  unfold ZV
  split<;>rfl
 refine Zck (ids:=[t]) hb hsh (by rw[href];exact Zet hs hc) rfl (by simp[hs,okB]) ?_ ?_ h hask (by simp) (by simp) ?_ hff (Za9 _ _ hnp).1 ?_ ?_
 ·rw[Zj,Zd8 hp]
  simp only[Zp,hC]
 ·simp only[Zo,hd,Zz,(Z5 _ cs hc).1]
 ·simp[Za0,okB,hs,Zcx,Zn]
 ·have hb3:Zj (Zak G [t] sq) cs2=cs3:=hback _ (by simp[Zak]) (by simp[Zak])
  simp only[ZaR,ZaB,Xm,ZbZ,Zn,Zz,hb3]
  simp[]
 ·have e1:(((G.set t (.var cs3)).set sq (.row 0 w ys)).set (sq+1) (.row 0 w2 zs))[t]?=some (.var cs3):=by
   rw[Xl (fun e=>hts1 e.symm),Xl (fun e=>hts e.symm),XV htl]
  simp only[Zba,e1]
end
end
section
def ZpJ:Zf:=by apply Zb 135 [1,1] [];conv=>lhs;reduce;dsimp only[zi]
@[irreducible] def Zpe:Zf:=ZpJ
def ZLF:=xw Zpe ZpJ (by kernel_rfl)
def Zld:Zf:=by apply Zb 135 [1,0,1,0,0] [];conv=>lhs;reduce;dsimp only[zi]
@[irreducible] def ZuD:Zf:=Zld
def Zst:=xw ZuD Zld (by kernel_rfl)
def Zqk:Zf:=by apply Zb 135 [] [([1,0,1,0,0],ZuD),([1,1],Zpe)];conv=>lhs;reduce;dsimp only[zi]
def ZoC:ZM:=⟨[(.cell 4 (some 5)),(.tmp 5)],Zqk⟩
theorem ZKr:FC 135=some ZoC:=by kernel_rfl
theorem ZLv:ZoC.body=Zqk:=rfl
theorem Zya:ZoC.res=[(.cell 4 (some 5)),(.tmp 5)]:=rfl
noncomputable def Zny(m:Nat)(tm:Tms)(G:Za):Option (AVal×Za):=(Zaw m ZoC (Zb0 FC PR BY m Zpe (Wf (Zbp 0) (evL FC PR BY m [10,9,8,4,0] ZuD tm G))))
def Zum:Zf:=by apply Zb 142 [] [];conv=>lhs;reduce;dsimp only[zi]
def Zto:ZM:=⟨[(.tmp 2)],Zum⟩
theorem ZG7:FC 142=some Zto:=by kernel_rfl
theorem ZJz:Zto.body=Zum:=rfl
theorem ZGY:Zto.res=[(.tmp 2)]:=rfl
def ZjY:Zf:=by apply Zb 133 [] [];conv=>lhs;reduce;dsimp only[zi]
def Zp9:ZM:=⟨[(.tmp 4)],ZjY⟩
theorem ZCW:FC 133=some Zp9:=by kernel_rfl
theorem Zrc:Zp9.body=ZjY:=rfl
theorem Zo0:Zp9.res=[(.tmp 4)]:=rfl
def ZlX:Zf:=by apply Zb 96 [1,1,1,1] [];conv=>lhs;reduce;dsimp only[zi]
@[irreducible] def Zs1:Zf:=ZlX
def Zw1:=xw Zs1 ZlX (by kernel_rfl)
def Zht:Zf:=by apply Zb 96 [1,1,1,0,1,0,0] [];conv=>lhs;reduce;dsimp only[zi]
@[irreducible] def ZpK:Zf:=Zht
def Zi8:=xw ZpK Zht (by kernel_rfl)
def ZkQ:Zf:=by apply Zb 96 [] [([1,1,1,0,1,0,0],ZpK),([1,1,1,1],Zs1)];conv=>lhs;reduce;dsimp only[zi]
def Zmc:ZM:=⟨[(.tmp 4),(.tmp 5),(.tmp 6)],ZkQ⟩
theorem Zsw:FC 96=some Zmc:=by kernel_rfl
theorem ZsO:Zmc.body=ZkQ:=rfl
theorem Zjk:Zmc.res=[(.tmp 4),(.tmp 5),(.tmp 6)]:=rfl
noncomputable def Zjb(m:Nat)(tm:Tms)(G:Za):Option (AVal×Za):=(Zaw m Zmc (Zb0 FC PR BY m Zs1 (Wf (Zbp 0) (evL FC PR BY m [10,8,7,4,0] ZpK tm G))))
def Zp1:Zf:=by apply Zb 145 [] [];conv=>lhs;reduce;dsimp only[zi]
def Zta:ZM:=⟨[(.cell 2 (some 5))],Zp1⟩
theorem ZH3:FC 145=some Zta:=by kernel_rfl
theorem ZLf:Zta.body=Zp1:=rfl
theorem ZB0:Zta.res=[(.cell 2 (some 5))]:=rfl
def Zpa:Zf:=by apply Zb 137 [] [];conv=>lhs;reduce;dsimp only[zi]
def ZtC:ZM:=⟨[(.tmp 2)],Zpa⟩
theorem ZQz:FC 137=some ZtC:=by kernel_rfl
theorem ZRu:ZtC.body=Zpa:=rfl
theorem ZRz:ZtC.res=[(.tmp 2)]:=rfl
def Zty:Zf:=by apply Zb 144 [] [];conv=>lhs;reduce;dsimp only[zi]
def Ztl:ZM:=⟨[(.cell 2 (some 2))],Zty⟩
theorem ZNd:FC 144=some Ztl:=by kernel_rfl
theorem ZTK:Ztl.body=Zty:=rfl
theorem ZBv:Ztl.res=[(.cell 2 (some 2))]:=rfl
def ZrV:Zf:=by apply Zb 136 [] [];conv=>lhs;reduce;dsimp only[zi]
def Zuy:ZM:=⟨[(.tmp 4)],ZrV⟩
theorem ZS8:FC 136=some Zuy:=by kernel_rfl
theorem ZQK:Zuy.body=ZrV:=rfl
theorem ZTd:Zuy.res=[(.tmp 4)]:=rfl
def ZfY:Zf:=by apply Zb 116 [] [];conv=>lhs;reduce;dsimp only[zi]
def ZpE:ZM:=⟨[(.cell 6 (some 5)),(.tmp 7),(.tmp 8)],ZfY⟩
theorem Zhg:FC 116=some ZpE:=by kernel_rfl
theorem ZhA:ZpE.body=ZfY:=rfl
theorem Zhf:ZpE.res=[(.cell 6 (some 5)),(.tmp 7),(.tmp 8)]:=rfl
def Zd5:Zf:=by apply Zb 134 [] [];conv=>lhs;reduce;dsimp only[zi]
def ZrE:ZM:=⟨[(.cell 4 (some 5)),(.tmp 5),(.tmp 6)],Zd5⟩
theorem Zfh:FC 134=some ZrE:=by kernel_rfl
theorem ZeN:ZrE.body=Zd5:=rfl
theorem ZeM:ZrE.res=[(.cell 4 (some 5)),(.tmp 5),(.tmp 6)]:=rfl
def ZsG:Zf:=by apply Zb 74 [] [];conv=>lhs;reduce;dsimp only[zi]
def Zr7:ZM:=⟨[(.tmp 4)],ZsG⟩
theorem ZIh:FC 74=some Zr7:=by kernel_rfl
theorem ZOn:Zr7.body=ZsG:=rfl
theorem ZOl:Zr7.res=[(.tmp 4)]:=rfl
def ZoT:Zf:=by apply Zb 123 [1,1] [];conv=>lhs;reduce;dsimp only[zi]
@[irreducible] def Zsv:Zf:=ZoT
def ZEt:=xw Zsv ZoT (by kernel_rfl)
def Zkf:Zf:=by apply Zb 123 [1,0,1,0,0] [];conv=>lhs;reduce;dsimp only[zi]
@[irreducible] def Zte:Zf:=Zkf
def Zse:=xw Zte Zkf (by kernel_rfl)
def ZqG:Zf:=by apply Zb 123 [] [([1,0,1,0,0],Zte),([1,1],Zsv)];conv=>lhs;reduce;dsimp only[zi]
def Zm5:ZM:=⟨[(.cell 4 (some 5)),(.tmp 5)],ZqG⟩
theorem ZLU:FC 123=some Zm5:=by kernel_rfl
theorem ZAP:Zm5.body=ZqG:=rfl
theorem Zyj:Zm5.res=[(.cell 4 (some 5)),(.tmp 5)]:=rfl
noncomputable def ZmD(m:Nat)(tm:Tms)(G:Za):Option (AVal×Za):=(Zaw m Zm5 (Zb0 FC PR BY m Zsv (Wf (Zbp 0) (evL FC PR BY m [6,4,1,0] Zte tm G))))
def Zuh:Zf:=by apply Zb 140 [] [];conv=>lhs;reduce;dsimp only[zi]
def ZtD:ZM:=⟨[(.tmp 2)],Zuh⟩
theorem ZJT:FC 140=some ZtD:=by kernel_rfl
theorem ZPf:ZtD.body=Zuh:=rfl
theorem ZFb:ZtD.res=[(.tmp 2)]:=rfl
def ZbF:Zf:=by apply Zb 121 [] [];conv=>lhs;reduce;dsimp only[zi]
def Zqe:ZM:=⟨[(.tmp 4)],ZbF⟩
theorem ZbK:FC 121=some Zqe:=by kernel_rfl
theorem ZbJ:Zqe.body=ZbF:=rfl
theorem ZbM:Zqe.res=[(.tmp 4)]:=rfl
def ZmO:Zf:=by apply Zb 102 [1,1,1,1,1,1] [];conv=>lhs;reduce;dsimp only[zi]
@[irreducible] def Ztn:Zf:=ZmO
def Zyn:=xw Ztn ZmO (by kernel_rfl)
def Zb1:Zf:=by apply Zb 102 [1,1,1,1,1,0,0,0] [];conv=>lhs;reduce;dsimp only[zi]
@[irreducible] def Zpb:Zf:=Zb1
def Zcb:=xw Zpb Zb1 (by kernel_rfl)
def Zj6:Zf:=by apply Zb 102 [] [([1,1,1,1,1,0,0,0],Zpb),([1,1,1,1,1,1],Ztn)];conv=>lhs;reduce;dsimp only[zi]
def Znn:ZM:=⟨[(.tmp 4),(.tmp 5),(.tmp 6)],Zj6⟩
theorem Zp6:FC 102=some Znn:=by kernel_rfl
theorem Zuo:Znn.body=Zj6:=rfl
theorem ZcK:Znn.res=[(.tmp 4),(.tmp 5),(.tmp 6)]:=rfl
noncomputable def ZdJ(m:Nat)(tm:Tms)(G:Za):Option (AVal×Za):=(Zaw m Znn (Zb0 FC PR BY m Ztn (Wf (Zbp 0) (evL FC PR BY m [11,10,8,7,0] Zpb tm G))))
def Zo5:Zf:=(.seq (.region [oI 4 (.mov (.c (.bool true)))] none [4]) .ret)
@[irreducible] def Zt3:Zf:=Zo5
def ZOy:=xw Zt3 Zo5 (by kernel_rfl)
def ZnY:Zf:=by apply Zb 29 [1,1,0,1,0,0] [];conv=>lhs;reduce;dsimp only[zi]
@[irreducible] def Zpu:Zf:=ZnY
def Zwm:=xw Zpu ZnY (by kernel_rfl)
def Zl0:Zf:=by apply Zb 29 [] [([1,1,0,1,0,0],Zpu),([1,1,1],Zt3)];conv=>lhs;reduce;dsimp only[zi]
def ZoB:ZM:=⟨[(.tmp 4)],Zl0⟩
theorem ZTO:FC 29=some ZoB:=by kernel_rfl
theorem Zu3:ZoB.body=Zl0:=rfl
theorem ZqT:ZoB.res=[(.tmp 4)]:=rfl
noncomputable def Zm9(m:Nat)(tm:Tms)(G:Za):Option (AVal×Za):=(Zaw m ZoB (Zb0 FC PR BY m Zt3 (Wf (Zbp 0) (evL FC PR BY m [5,1,0] Zpu tm G))))
def Zuw:Zf:=(.seq (.region [oI 4 (.mov (.c (.bool false)))] none [4]) .ret)
@[irreducible] def ZtV:Zf:=Zuw
def ZN5:=xw ZtV Zuw (by kernel_rfl)
def ZkI:Zf:=by apply Zb 139 [1,0,1,0,0] [];conv=>lhs;reduce;dsimp only[zi]
@[irreducible] def ZqL:Zf:=ZkI
def ZsV:=xw ZqL ZkI (by kernel_rfl)
def Zsq:Zf:=by apply Zb 139 [] [([1,0,1,0,0],ZqL),([1,1],ZtV)];conv=>lhs;reduce;dsimp only[zi]
def ZmW:ZM:=⟨[(.tmp 4)],Zsq⟩
theorem ZC8:FC 139=some ZmW:=by kernel_rfl
theorem ZUa:ZmW.body=Zsq:=rfl
theorem Zw9:ZmW.res=[(.tmp 4)]:=rfl
noncomputable def Zn9(m:Nat)(tm:Tms)(G:Za):Option (AVal×Za):=(Zaw m ZmW (Zb0 FC PR BY m ZtV (Wf (Zbp 0) (evL FC PR BY m [5,1,0] ZqL tm G))))
def Zk7:Zf:=by apply Zb 124 [] [];conv=>lhs;reduce;dsimp only[zi]
def Zuq:ZM:=⟨[(.tmp 4)],Zk7⟩
theorem Zu1:FC 124=some Zuq:=by kernel_rfl
theorem ZpY:Zuq.body=Zk7:=rfl
theorem Zsd:Zuq.res=[(.tmp 4)]:=rfl
def ZdX:Zf:=by apply Zb 122 [] [];conv=>lhs;reduce;dsimp only[zi]
def Zqv:ZM:=⟨[(.cell 4 (some 5)),(.tmp 5),(.tmp 6)],ZdX⟩
theorem Zfj:FC 122=some Zqv:=by kernel_rfl
theorem Zfa:Zqv.body=ZdX:=rfl
theorem ZeI:Zqv.res=[(.cell 4 (some 5)),(.tmp 5),(.tmp 6)]:=rfl
end
section
theorem Zvj(l:List Int)(hl:l.length<=9223372036854775807)(v:Int):∀ (r:List Int) (i:Nat),l.drop i=r ->
  Zn9 0 [(5,.int .i64 i),(1,.lst false (l.map (AVal.int .i64 ·))),(0,.int .i64 v)] []=some (.bool (r.contains v),[])
 | [],i,h=>by
  have h1:=Zes h
  unfold Zn9
  rw[Z9]
  simp -implicitDefEqProofs only[EQA,Zc,Xc,Xa,reduceCtorEq,↓reduceIte,Zw9,ZN5,Zuw,ZsV,ZkI,Zb,h1]
 |x::r,i,h=>by
  have ih:=Zvj l hl v r (i+1) (Zas h).2.1
  have h1:(i:Int)<l.length:=by have:=(Zas h).2.2;omega
  have e1:=iad (Zas h).1 (AVal.int .i64 ·) (k:=1) rfl
  have e3:=Zd0 h1 hl
  unfold Zn9 at ih ⊢
  rw[Z9,List.contains_cons]
  cases hb:(v==x)
  ·have hb':(x==v)=false:=by simp only[beq_eq_false_iff_ne,ne_eq]at hb ⊢;exact fun e=>hb e.symm
   rw[Bool.false_or]
   simp -implicitDefEqProofs only[EQA,ZE,Zc,ZT,Xc,Xa,reduceCtorEq,↓reduceIte,gcT,gcA,Zw,Zt,Zo,ZB,ZsV,ZkI,Zb,h1,e1,e3,hb']
   exact ih
  ·have hb':(x==v)=true:=by simp only[beq_iff_eq]at hb ⊢;exact hb.symm
   rw[WV]
   simp -implicitDefEqProofs only[EQA,ZE,Zc,Xc,Xa,reduceCtorEq,↓reduceIte,Zw9,ZsV,ZkI,Zb,h1,e1,hb']
theorem ZNj(l:List Int)(hl:l.length<=9223372036854775807)(v:Int):E 139 [.int .i64 v,ZrL l] []=some (.bool (l.contains v),[]):=by
 have h:=Zvj l hl v l 0 rfl
 have z0:((0:Nat):Int)=0:=rfl
 rw[z0]at h
 unfold Zn9 at h
 rw[Zg (by rfl) ZC8]
 simp -implicitDefEqProofs only[EQA,Zc,ZT,Xc,Xa,reduceCtorEq,↓reduceIte,gcT,gcA,Zw,Zt,Zo,ZB,ZUa,Zsq,Zb,ZrL,ZrL]
 exact h
theorem ZBm(G:Za)(sq own:Nat)(l:List Int)(hl:l.length<=9223372036854775807)(v:Int)(b:Bool):Zq E BY G sq 139 own true [.int .i64 v,.lst b (l.map (AVal.int .i64 ·))]=some (.bool (l.contains v),G,{}) :=
 Zcr (ZNj l hl v) (by kernel_rfl) rfl rfl rfl (fun _=>rfl) _ _ _
end
section
def ZqI:List (Int×Int×Int):=[(1,1,65544),(2,3,65544),(3,5,65544),(8,5,65544),(9,6,65544),(11,4,264),(17,3,16390),(18,5,4),(26,5,4),(19,2,4),(21,5,32774),(22,6,32774),(23,1,2),(25,1,2),(24,3,65536),(28,5,16388),(31,5,51956),(33,2,6),(34,2,6),(35,2,8),(39,3,6),(36,1,4),(37,1,4),(40,1,4),(41,1,4),(42,1,4),(38,7,-12290)]
def ofF(id:Int):Int×Int:=(ZqI.lookup id).getD (0,0)
def Zcc(id:Int):Int:=(ofF id).1
def ZeA(id:Int):Prop:=id=1\/id=2\/id=3\/id=8\/id=9\/id=11\/id=17\/id=18\/id=26\/id=19\/id=21\/id=22\/id=23\/id=25\/id=24\/id=28\/id=31\/id=33\/id=34\/id=35\/id=39\/id=36\/id=37\/id=40\/id=41\/id=42\/id=38
instance (id:Int):Decidable (ZeA id):=by unfold ZeA;infer_instance
theorem Zlm{id:Int}(h:¬ZeA id):(id==1)=false/\(id==2)=false/\(id==3)=false/\(id==8)=false/\(id==9)=false/\(id==11)=false/\(id==17)=false/\(id==18)=false/\(id==26)=false/\(id==19)=false/\(id==21)=false/\(id==22)=false/\(id==23)=false/\(id==25)=false/\(id==24)=false/\(id==28)=false/\(id==31)=false/\(id==33)=false/\(id==34)=false/\(id==35)=false/\(id==39)=false/\(id==36)=false/\(id==37)=false/\(id==40)=false/\(id==41)=false/\(id==42)=false/\(id==38)=false:=by
 unfold ZeA at h
 grind
theorem Zlc{id:Int}(h:¬ZeA id):ofF id=(0,0):=by
 obtain⟨h1,h2,h3,h8,h9,h11,h17,h18,h26,h19,h21,h22,h23,h25,h24,h28,h31,h33,h34,h35,h39,h36,h37,h40,h41,h42,h38⟩:=Zlm h
 simp only[ofF,ZqI,List.lookup,h1,h2,h3,h8,h9,h11,h17,h18,h26,h19,h21,h22,h23,h25,h24,h28,h31,h33,h34,h35,h39,h36,h37,h40,h41,h42,h38,Option.getD_none]
theorem ZSw(id:Int):E 144 [.int .i64 id] []=some (.agg [.int .i64 (ofF id).1,.int .i64 (ofF id).2],[]):=by
 by_cases h:ZeA id
 ·rcases h with rfl |rfl |rfl |rfl |rfl |rfl |rfl |rfl |rfl |rfl |rfl |rfl |rfl |rfl |rfl |rfl |rfl |rfl |rfl |rfl |rfl |rfl |rfl |rfl |rfl |rfl |rfl
  all_goals exact Zdv.2 ⟨20,by kernel_rfl⟩
 ·rw[Zlc h]
  obtain⟨h1,h2,h3,h8,h9,h11,h17,h18,h26,h19,h21,h22,h23,h25,h24,h28,h31,h33,h34,h35,h39,h36,h37,h40,h41,h42,h38⟩:=Zlm h
  rw[Zg (by rfl) ZNd]
  simp -implicitDefEqProofs only[EQA,Zs,Zc,Xd,Xc,Xf,Xa,Xg,reduceCtorEq,↓reduceIte,Ze,ZTK,Zty,ZBv,Zb,h1,h2,h3,h8,h9,h11,h17,h18,h26,h19,h21,h22,h23,h25,h24,h28,h31,h33,h34,h35,h39,h36,h37,h40,h41,h42,h38,Zao,AVal.cells]
theorem Zwk(G:Za)(sq own:Nat)(id:Int):Zq E BY G sq 144 own true [.int .i64 id]=some (.agg [.int .i64 (ofF id).1,.int .i64 (ofF id).2],G,{}) :=
 Zcr (ZSw id) (by kernel_rfl) rfl rfl rfl (fun _=>rfl) _ _ _
theorem ZPe(id:Int):E 142 [.int .i64 id] []=some (.int .i64 (Zcc id),[]):=by
 have hC:=fun G sq own=>Zwk G sq own id
 unfold Zcc
 rw[Zg (by rfl) ZG7]
 simp -implicitDefEqProofs only[EQA,Zc,Xc,Xa,reduceCtorEq,↓reduceIte,ZJz,Zum,ZGY,Zb,hC]
theorem Zrm(G:Za)(sq own:Nat)(id:Int):Zq E BY G sq 142 own true [.int .i64 id]=some (.int .i64 (Zcc id),G,{}) :=
 Zcr (ZPe id) (by kernel_rfl) rfl rfl rfl (fun _=>rfl) _ _ _
theorem ZOa(id:Int):E 140 [.int .i64 id] []=some (.int .i64 (Zcc id),[]):=by
 unfold Zcc
 by_cases h:ZeA id
 ·rcases h with rfl |rfl |rfl |rfl |rfl |rfl |rfl |rfl |rfl |rfl |rfl |rfl |rfl |rfl |rfl |rfl |rfl |rfl |rfl |rfl |rfl |rfl |rfl |rfl |rfl |rfl |rfl
  all_goals exact Zdv.2 ⟨20,by kernel_rfl⟩
 ·rw[Zlc h]
  obtain⟨h1,h2,h3,h8,h9,h11,h17,h18,h26,h19,h21,h22,h23,h25,h24,h28,h31,h33,h34,h35,h39,h36,h37,h40,h41,h42,h38⟩:=Zlm h
  rw[Zg (by rfl) ZJT]
  simp -implicitDefEqProofs only[EQA,Zc,Xc,Xa,reduceCtorEq,↓reduceIte,ZPf,Zuh,ZFb,Zb,h1,h2,h3,h8,h9,h11,h17,h18,h26,h19,h21,h22,h23,h25,h24,h28,h31,h33,h34,h35,h39,h36,h37,h40,h41,h42,h38]
theorem ZxO(G:Za)(sq own:Nat)(id:Int):Zq E BY G sq 140 own true [.int .i64 id]=some (.int .i64 (Zcc id),G,{}) :=
 Zcr (ZOa id) (by kernel_rfl) rfl rfl rfl (fun _=>rfl) _ _ _
def ZsL(pl w:Int):Int:=IntKind.i64.wrap (((XR IntKind.i64.bits (pl.fdiv (2^min w.toNat IntKind.i64.bits))&&&XR IntKind.i64.bits 1).toNat:Nat):Int)
def Z0(id w:Int):Bool:=decide (w>=1)&&decide (w<=16)&&ZsL (ofF id).2 w==1
theorem ZGn(id w:Int):E 133 [.int .i64 id,.int .i64 w] []=some (.bool (Z0 id w),[]):=by
 have hC:=fun G sq own=>Zwk G sq own id
 unfold Z0 ZsL
 generalize (ofF id).2=pl at *
 rw[Zg (by rfl) ZCW]
 by_cases h1:w>=1
 ·have h2:¬w<0:=by omega
  by_cases h3:w<=16
  ·simp -implicitDefEqProofs only[EQA,Zc,Xc,Xa,Zbh,Zy,unG,reduceCtorEq,↓reduceIte,Zrc,ZjY,Zo0,Zb,hC,h1,h2,h3]
  ·simp -implicitDefEqProofs only[EQA,Zc,Xc,Xa,Zy,Z6,unG,reduceCtorEq,↓reduceIte,Zrc,ZjY,Zo0,Zb,h1,h3]
 ·simp -implicitDefEqProofs only[EQA,Zc,Xc,Xa,Zy,Z6,reduceCtorEq,↓reduceIte,Zrc,ZjY,Zo0,Zb,h1]
theorem ZAN(G:Za)(sq own:Nat)(id w:Int):Zq E BY G sq 133 own true [.int .i64 id,.int .i64 w]=some (.bool (Z0 id w),G,{}) :=
 Zcr (ZGn id w) (by kernel_rfl) rfl rfl rfl (fun _=>rfl) _ _ _
theorem ZTw:∀ k:Fin 17,1<=k.val->Z0 1 k.val=([3,16]:List Int).contains (k.val:Int)/\Z0 2 k.val=([3,16]:List Int).contains (k.val:Int)/\Z0 3 k.val=([3,16]:List Int).contains (k.val:Int)/\Z0 8 k.val=([3,16]:List Int).contains (k.val:Int)/\Z0 9 k.val=([3,16]:List Int).contains (k.val:Int)/\Z0 11 k.val=([3,8]:List Int).contains (k.val:Int)/\Z0 17 k.val=([1,2,14]:List Int).contains (k.val:Int)/\Z0 18 k.val=([2]:List Int).contains (k.val:Int)/\Z0 26 k.val=([2]:List Int).contains (k.val:Int)/\Z0 19 k.val=([2]:List Int).contains (k.val:Int)/\Z0 21 k.val=([1,2,15]:List Int).contains (k.val:Int)/\Z0 22 k.val=([1,2,15]:List Int).contains (k.val:Int)/\Z0 23 k.val=([1]:List Int).contains (k.val:Int)/\Z0 25 k.val=([1]:List Int).contains (k.val:Int)/\Z0 24 k.val=([16]:List Int).contains (k.val:Int)/\Z0 28 k.val=([2,14]:List Int).contains (k.val:Int)/\Z0 31 k.val=([2,4,5,6,7,9,11,14,15]:List Int).contains (k.val:Int)/\Z0 33 k.val=([1,2]:List Int).contains (k.val:Int)/\Z0 34 k.val=([1,2]:List Int).contains (k.val:Int)/\Z0 35 k.val=([3]:List Int).contains (k.val:Int)/\Z0 39 k.val=([1,2]:List Int).contains (k.val:Int)/\Z0 36 k.val=([2]:List Int).contains (k.val:Int)/\Z0 37 k.val=([2]:List Int).contains (k.val:Int)/\Z0 40 k.val=([2]:List Int).contains (k.val:Int)/\Z0 41 k.val=([2]:List Int).contains (k.val:Int)/\Z0 42 k.val=([2]:List Int).contains (k.val:Int)/\Z0 38 k.val=([1,2,3,4,5,6,7,8,9,10,11,14,15,16]:List Int).contains (k.val:Int):=by decide +kernel
theorem Zqr{id w:Int}(h:¬(1<=w/\w<=16)):Z0 id w=false:=by
 unfold Z0
 grind
theorem ZQB:∀ k:Fin 17,ZsL 0 k.val=0:=by decide +kernel
theorem ZTI{id:Int}(h:¬ZeA id)(w:Int):Z0 id w=false:=by
 by_cases hw:1<=w/\w<=16
 ·unfold Z0
  rw[Zlc h]
  have:=ZQB ⟨w.toNat,by omega⟩
  have e:((w.toNat:Nat):Int)=w:=by omega
  simp only[e]at this
  rw[this];simp
 ·exact Zqr hw
theorem ZTX{id w:Int}(hw:1<=w/\w<=16):Z0 1 w=([3,16]:List Int).contains w/\Z0 2 w=([3,16]:List Int).contains w/\Z0 3 w=([3,16]:List Int).contains w/\Z0 8 w=([3,16]:List Int).contains w/\Z0 9 w=([3,16]:List Int).contains w/\Z0 11 w=([3,8]:List Int).contains w/\Z0 17 w=([1,2,14]:List Int).contains w/\Z0 18 w=([2]:List Int).contains w/\Z0 26 w=([2]:List Int).contains w/\Z0 19 w=([2]:List Int).contains w/\Z0 21 w=([1,2,15]:List Int).contains w/\Z0 22 w=([1,2,15]:List Int).contains w/\Z0 23 w=([1]:List Int).contains w/\Z0 25 w=([1]:List Int).contains w/\Z0 24 w=([16]:List Int).contains w/\Z0 28 w=([2,14]:List Int).contains w/\Z0 31 w=([2,4,5,6,7,9,11,14,15]:List Int).contains w/\Z0 33 w=([1,2]:List Int).contains w/\Z0 34 w=([1,2]:List Int).contains w/\Z0 35 w=([3]:List Int).contains w/\Z0 39 w=([1,2]:List Int).contains w/\Z0 36 w=([2]:List Int).contains w/\Z0 37 w=([2]:List Int).contains w/\Z0 40 w=([2]:List Int).contains w/\Z0 41 w=([2]:List Int).contains w/\Z0 42 w=([2]:List Int).contains w/\Z0 38 w=([1,2,3,4,5,6,7,8,9,10,11,14,15,16]:List Int).contains w:=by
 have:=ZTw ⟨w.toNat,by omega⟩ (by simp;omega)
 have e:((w.toNat:Nat):Int)=w:=by omega
 simpa only[e]using this
theorem ZbW{w:Int}(hw:¬(1<=w/\w<=16)){l:List Int}(hl:l.all fun x=>decide (1<=x)&&decide (x<=16)):l.contains w=false:=by
 grind
theorem ZK2(w:Int):Z0 1 w=([3,16]:List Int).contains w/\Z0 2 w=([3,16]:List Int).contains w/\Z0 3 w=([3,16]:List Int).contains w/\Z0 8 w=([3,16]:List Int).contains w/\Z0 9 w=([3,16]:List Int).contains w/\Z0 11 w=([3,8]:List Int).contains w/\Z0 17 w=([1,2,14]:List Int).contains w/\Z0 18 w=([2]:List Int).contains w/\Z0 26 w=([2]:List Int).contains w/\Z0 19 w=([2]:List Int).contains w/\Z0 21 w=([1,2,15]:List Int).contains w/\Z0 22 w=([1,2,15]:List Int).contains w/\Z0 23 w=([1]:List Int).contains w/\Z0 25 w=([1]:List Int).contains w/\Z0 24 w=([16]:List Int).contains w/\Z0 28 w=([2,14]:List Int).contains w/\Z0 31 w=([2,4,5,6,7,9,11,14,15]:List Int).contains w/\Z0 33 w=([1,2]:List Int).contains w/\Z0 34 w=([1,2]:List Int).contains w/\Z0 35 w=([3]:List Int).contains w/\Z0 39 w=([1,2]:List Int).contains w/\Z0 36 w=([2]:List Int).contains w/\Z0 37 w=([2]:List Int).contains w/\Z0 40 w=([2]:List Int).contains w/\Z0 41 w=([2]:List Int).contains w/\Z0 42 w=([2]:List Int).contains w/\Z0 38 w=([1,2,3,4,5,6,7,8,9,10,11,14,15,16]:List Int).contains w:=by
 by_cases hw:1<=w/\w<=16
 ·exact ZTX (id:=0) hw
 ·simp only[Zqr hw]
  refine⟨(ZbW hw rfl).symm,(ZbW hw rfl).symm,(ZbW hw rfl).symm,(ZbW hw rfl).symm,(ZbW hw rfl).symm,(ZbW hw rfl).symm,(ZbW hw rfl).symm,(ZbW hw rfl).symm,(ZbW hw rfl).symm,(ZbW hw rfl).symm,(ZbW hw rfl).symm,(ZbW hw rfl).symm,(ZbW hw rfl).symm,(ZbW hw rfl).symm,(ZbW hw rfl).symm,(ZbW hw rfl).symm,(ZbW hw rfl).symm,(ZbW hw rfl).symm,(ZbW hw rfl).symm,(ZbW hw rfl).symm,(ZbW hw rfl).symm,(ZbW hw rfl).symm,(ZbW hw rfl).symm,(ZbW hw rfl).symm,(ZbW hw rfl).symm,(ZbW hw rfl).symm,(ZbW hw rfl).symm⟩
theorem ZLg(id w:Int):E 121 [.int .i64 id,.int .i64 w] []=some (.bool (Z0 id w),[]):=by
 by_cases h:ZeA id
 ·obtain⟨m1,m2,m3,m8,m9,m11,m17,m18,m26,m19,m21,m22,m23,m25,m24,m28,m31,m33,m34,m35,m39,m36,m37,m40,m41,m42,m38⟩:=ZK2 w
  have hK:=fun G sq own l hl b=>ZBm G sq own l hl w b
  have k0:=fun G sq own b=>hK G sq own [1,2] (by decide) b
  have k1:=fun G sq own b=>hK G sq own [1,2,14] (by decide) b
  have k2:=fun G sq own b=>hK G sq own [1,2,15] (by decide) b
  have k3:=fun G sq own b=>hK G sq own [2,4,5,6,7,9,11,14,15] (by decide) b
  have k4:=fun G sq own b=>hK G sq own [2,14] (by decide) b
  have k5:=fun G sq own b=>hK G sq own [3,8] (by decide) b
  have k6:=fun G sq own b=>hK G sq own [3,16] (by decide) b
  clear hK
  simp only[Xu,XC]at k0 k1 k2 k3 k4 k5 k6
  have c1:∀ a:Int,([a]:List Int).contains w=(w==a):=fun a=>by grind
  rcases h with rfl |rfl |rfl |rfl |rfl |rfl |rfl |rfl |rfl |rfl |rfl |rfl |rfl |rfl |rfl |rfl |rfl |rfl |rfl |rfl |rfl |rfl |rfl |rfl |rfl |rfl |rfl
  ·rw[m1]
   rw[Zg (by rfl) ZbK]
   simp -implicitDefEqProofs only[EQA,Zc,Xc,Xa,reduceCtorEq,↓reduceIte,ZbJ,ZbF,ZbM,Zb,k6,viewAs,Z3,ZN,Zu,AVal.cells]
  ·rw[m2]
   rw[Zg (by rfl) ZbK]
   simp -implicitDefEqProofs only[EQA,Zc,Xc,Xa,reduceCtorEq,↓reduceIte,ZbJ,ZbF,ZbM,Zb,k6,Xj,viewAs,Z3,ZN,Zu,AVal.cells]
  ·rw[m3]
   rw[Zg (by rfl) ZbK]
   simp -implicitDefEqProofs only[EQA,Zc,Xc,Xa,reduceCtorEq,↓reduceIte,ZbJ,ZbF,ZbM,Zb,k6,Xj,viewAs,Z3,ZN,Zu,AVal.cells]
  ·rw[m8]
   rw[Zg (by rfl) ZbK]
   simp -implicitDefEqProofs only[EQA,Zc,Xc,Xa,reduceCtorEq,↓reduceIte,ZbJ,ZbF,ZbM,Zb,k6,Xj,viewAs,Z3,ZN,Zu,AVal.cells]
  ·rw[m9]
   rw[Zg (by rfl) ZbK]
   simp -implicitDefEqProofs only[EQA,Zc,Xc,Xa,reduceCtorEq,↓reduceIte,ZbJ,ZbF,ZbM,Zb,k6,Xj,viewAs,Z3,ZN,Zu,AVal.cells]
  ·rw[m11]
   rw[Zg (by rfl) ZbK]
   simp -implicitDefEqProofs only[EQA,Zc,Xc,Xa,reduceCtorEq,↓reduceIte,ZbJ,ZbF,ZbM,Zb,k5,Xj,viewAs,Z3,ZN,Zu,AVal.cells]
  ·rw[m17]
   rw[Zg (by rfl) ZbK]
   simp -implicitDefEqProofs only[EQA,Zc,Xc,Xa,reduceCtorEq,↓reduceIte,ZbJ,ZbF,ZbM,Zb,k1,Xj,viewAs,Z3,ZN,Zu,AVal.cells]
  ·rw[m18,c1]
   rw[Zg (by rfl) ZbK]
   simp -implicitDefEqProofs only[EQA,Zc,Xc,Xa,reduceCtorEq,↓reduceIte,ZbJ,ZbF,ZbM,Zb,Xj]
  ·rw[m26,c1]
   rw[Zg (by rfl) ZbK]
   simp -implicitDefEqProofs only[EQA,Zc,Xc,Xa,reduceCtorEq,↓reduceIte,ZbJ,ZbF,ZbM,Zb,Xj]
  ·rw[m19,c1]
   rw[Zg (by rfl) ZbK]
   simp -implicitDefEqProofs only[EQA,Zc,Xc,Xa,reduceCtorEq,↓reduceIte,ZbJ,ZbF,ZbM,Zb,Xj]
  ·rw[m21]
   rw[Zg (by rfl) ZbK]
   simp -implicitDefEqProofs only[EQA,Zc,Xc,Xa,reduceCtorEq,↓reduceIte,ZbJ,ZbF,ZbM,Zb,k2,Xj,viewAs,Z3,ZN,Zu,AVal.cells]
  ·rw[m22]
   rw[Zg (by rfl) ZbK]
   simp -implicitDefEqProofs only[EQA,Zc,Xc,Xa,reduceCtorEq,↓reduceIte,ZbJ,ZbF,ZbM,Zb,k2,Xj,viewAs,Z3,ZN,Zu,AVal.cells]
  ·rw[m23,c1]
   rw[Zg (by rfl) ZbK]
   simp -implicitDefEqProofs only[EQA,Zc,Xc,Xa,reduceCtorEq,↓reduceIte,ZbJ,ZbF,ZbM,Zb,Xj]
  ·rw[m25,c1]
   rw[Zg (by rfl) ZbK]
   simp -implicitDefEqProofs only[EQA,Zc,Xc,Xa,reduceCtorEq,↓reduceIte,ZbJ,ZbF,ZbM,Zb,Xj]
  ·rw[m24,c1]
   rw[Zg (by rfl) ZbK]
   simp -implicitDefEqProofs only[EQA,Zc,Xc,Xa,reduceCtorEq,↓reduceIte,ZbJ,ZbF,ZbM,Zb,Xj]
  ·rw[m28]
   rw[Zg (by rfl) ZbK]
   simp -implicitDefEqProofs only[EQA,Zc,Xc,Xa,reduceCtorEq,↓reduceIte,ZbJ,ZbF,ZbM,Zb,k4,Xj,viewAs,Z3,ZN,Zu,AVal.cells]
  ·rw[m31]
   rw[Zg (by rfl) ZbK]
   simp -implicitDefEqProofs only[EQA,Zc,Xc,Xa,reduceCtorEq,↓reduceIte,ZbJ,ZbF,ZbM,Zb,k3,Xj,viewAs,Z3,ZN,Zu,AVal.cells]
  ·rw[m33]
   rw[Zg (by rfl) ZbK]
   simp -implicitDefEqProofs only[EQA,Zc,Xc,Xa,reduceCtorEq,↓reduceIte,ZbJ,ZbF,ZbM,Zb,k0,Xj,viewAs,Z3,ZN,Zu,AVal.cells]
  ·rw[m34]
   rw[Zg (by rfl) ZbK]
   simp -implicitDefEqProofs only[EQA,Zc,Xc,Xa,reduceCtorEq,↓reduceIte,ZbJ,ZbF,ZbM,Zb,k0,Xj,viewAs,Z3,ZN,Zu,AVal.cells]
  ·rw[m35,c1]
   rw[Zg (by rfl) ZbK]
   simp -implicitDefEqProofs only[EQA,Zc,Xc,Xa,reduceCtorEq,↓reduceIte,ZbJ,ZbF,ZbM,Zb,Xj]
  ·rw[m39]
   rw[Zg (by rfl) ZbK]
   simp -implicitDefEqProofs only[EQA,Zc,Xc,Xa,reduceCtorEq,↓reduceIte,ZbJ,ZbF,ZbM,Zb,k0,Xj,viewAs,Z3,ZN,Zu,AVal.cells]
  ·rw[m36,c1]
   rw[Zg (by rfl) ZbK]
   simp -implicitDefEqProofs only[EQA,Zc,Xc,Xa,reduceCtorEq,↓reduceIte,ZbJ,ZbF,ZbM,Zb,Xj]
  ·rw[m37,c1]
   rw[Zg (by rfl) ZbK]
   simp -implicitDefEqProofs only[EQA,Zc,Xc,Xa,reduceCtorEq,↓reduceIte,ZbJ,ZbF,ZbM,Zb,Xj]
  ·rw[m40,c1]
   rw[Zg (by rfl) ZbK]
   simp -implicitDefEqProofs only[EQA,Zc,Xc,Xa,reduceCtorEq,↓reduceIte,ZbJ,ZbF,ZbM,Zb,Xj]
  ·rw[m41,c1]
   rw[Zg (by rfl) ZbK]
   simp -implicitDefEqProofs only[EQA,Zc,Xc,Xa,reduceCtorEq,↓reduceIte,ZbJ,ZbF,ZbM,Zb,Xj]
  ·rw[m42,c1]
   rw[Zg (by rfl) ZbK]
   simp -implicitDefEqProofs only[EQA,Zc,Xc,Xa,reduceCtorEq,↓reduceIte,ZbJ,ZbF,ZbM,Zb,Xj]
  ·by_cases hw:1<=w/\w<=16
   ·have : w=1\/w=2\/w=3\/w=4\/w=5\/w=6\/w=7\/w=8\/w=9\/w=10\/w=11\/w=12\/w=13\/w=14\/w=15\/w=16:=by omega
    clear m1
    rcases this with rfl |rfl |rfl |rfl |rfl |rfl |rfl |rfl |rfl |rfl |rfl |rfl |rfl |rfl |rfl |rfl
    all_goals exact Zdv.2 ⟨20,by kernel_rfl⟩
   ·rw[Zqr hw]
    by_cases h1:w>=1
    ·have h2:¬w<=16:=fun h2=>hw ⟨h1,h2⟩
     rw[Zg (by rfl) ZbK]
     simp -implicitDefEqProofs only[EQA,Zc,Xc,Xa,Zy,Z6,unG,reduceCtorEq,↓reduceIte,ZbJ,ZbF,ZbM,Zb,h1,h2,Xj]
    ·rw[Zg (by rfl) ZbK]
     simp -implicitDefEqProofs only[EQA,Zc,Xc,Xa,Zy,Z6,reduceCtorEq,↓reduceIte,ZbJ,ZbF,ZbM,Zb,h1,Xj]
 ·rw[ZTI h]
  obtain⟨h1,h2,h3,h8,h9,h11,h17,h18,h26,h19,h21,h22,h23,h25,h24,h28,h31,h33,h34,h35,h39,h36,h37,h40,h41,h42,h38⟩:=Zlm h
  rw[Zg (by rfl) ZbK]
  simp -implicitDefEqProofs only[EQA,Zc,Xc,Xa,reduceCtorEq,↓reduceIte,ZbJ,ZbF,ZbM,Zb,h1,h2,h3,h8,h9,h11,h17,h18,h26,h19,h21,h22,h23,h25,h24,h28,h31,h33,h34,h35,h39,h36,h37,h40,h41,h42,h38]
theorem ZQi(G:Za)(sq own:Nat)(id w:Int):Zq E BY G sq 121 own true [.int .i64 id,.int .i64 w]=some (.bool (Z0 id w),G,{}) :=
 Zcr (ZLg id w) (by kernel_rfl) rfl rfl rfl (fun _=>rfl) _ _ _
end
section
theorem Zy4(id:Int):Zcc id=0\/Zcc id=1\/Zcc id=2\/Zcc id=3\/Zcc id=4\/Zcc id=5\/Zcc id=6\/Zcc id=7:=by
 unfold Zcc
 by_cases h:ZeA id
 ·unfold ZeA at h
  rcases h with rfl |rfl |rfl |rfl |rfl |rfl |rfl |rfl |rfl |rfl |rfl |rfl |rfl |rfl |rfl |rfl |rfl |rfl |rfl |rfl |rfl |rfl |rfl |rfl |rfl |rfl |rfl
  all_goals decide
 ·rw[Zlc h];simp
theorem ZzJ(b:Zd)(h:b.length<=4):Zce b<4294967296:=by
 unfold Zce
 match b,h with
 | [],_=>simp[ZeE]
 | [a],_=>rw[Zdf,ZeE];have:=a.toNat_lt;omega
 | [a,c],_=>rw[Zdf,Zdf,ZeE];have:=a.toNat_lt;have:=c.toNat_lt;omega
 | [a,c,d],_=>rw[Zdf,Zdf,Zdf,ZeE];have:=a.toNat_lt;have:=c.toNat_lt;have:=d.toNat_lt;omega
 | [a,c,d,e],_=>rw[Zdf,Zdf,Zdf,Zdf,ZeE];have:=a.toNat_lt;have:=c.toNat_lt;have:=d.toNat_lt;have:=e.toNat_lt;omega
def Zf4(id:Int)(W:Nat)(b:Zd):ZP×Nat×Bool:=if b.length<W then(⟨id,0,[],[],[]⟩,0,false)else(⟨id,Zce (b.take W),[],[],[]⟩,W,true)
def Zg8(id:Int)(b:Zd):ZP×Nat×Bool :=
 if(ZU b).2.2=0 then(⟨id,0,(ZU b).1,(ZU (b.drop (ZU b).2.1)).1,[]⟩,(ZU b).2.1+(ZU (b.drop (ZU b).2.1)).2.1,(ZU (b.drop (ZU b).2.1)).2.2==0)else(⟨id,0,[],[],[]⟩,0,false)
def Zeh(k id:Int)(b:Zd):ZP×Nat×Bool :=
 if k=1 then Zf4 id 1 b else if k=2 then Zf4 id 2 b else if k=3 then Zf4 id 4 b
 else if k=4 then(⟨id,(Zar b).1,[],[],[]⟩,(Zar b).2.1,(Zar b).2.2==0)
 else if k=5 then(⟨id,0,(ZU b).1,[],[]⟩,(ZU b).2.1,(ZU b).2.2==0)
 else if k=6 then(⟨id,0,[],[],(ZL b).1⟩,(ZL b).2.1,(ZL b).2.2==0)
 else if k=7 then Zg8 id b else(⟨id,0,[],[],[]⟩,0,true)
def Zcv(id:Int)(b:Zd):ZP×Nat×Bool:=Zeh (Zcc id) id b
def Zby(f:Bool)(x:ZP×Nat×Bool):AVal:=.tup [.agg [.int .i64 x.1.id,.int .i64 x.1.num,.str x.1.text,.str x.1.pair,.lst f (x.1.data.map Zh)],.int .i64 (x.2.1:Nat),.bool x.2.2]
theorem Zg0(b:Zd):(ZL b).2.1<=b.length/\(ZL b).1.length<=b.length:=by
 unfold ZL
 grind
theorem ZgJ(b:Zd):(ZU b).2.1<=b.length/\((ZU b).2.2≠0->(ZU b).1=[]/\(ZU b).2.1=0):=by
 have hd:=Zg0 b
 unfold ZU
 grind
theorem Zsp(id:Int)(b:Zd)(hl:b.length<=140737488355328)(k:Int)(W:Nat)(hk:Zcc id=k)(hW:(k=1/\W=1)\/(k=2/\W=2)\/(k=3/\W=4)):E 134 [.int .i64 id,.lnt b] []=some (Zby true (Zf4 id W b),[]):=by
 have hC:=fun G sq own=>Zrm G sq own id
 rw[hk]at hC
 have hG:=fun G sq own=>Zps G sq own (b.take W) (by simp;omega)
 have hg:=ZzJ (b.take W) (by simp;omega)
 unfold Zf4
 generalize Zce (b.take W)=g at *
 have hi:IntKind.i64.wrap (g:Int)=(g:Int):=ZaD (by omega) (by omega)
 have hw:∀ W:Nat,W<=b.length->∀ (G:Za) (kk:IntKind),ZbO G 1 (.lnt b) none (some (.int kk (W:Int))) none=some (.lnt (b.take W),G,{}):=fun W hW G kk=>by
  have:=ZoP G b kk (W:Int) (by omega) (by omega)
  exact this
 have z1:((1:Nat):Int)=1:=rfl
 have z2:((2:Nat):Int)=2:=rfl
 have z4:((4:Nat):Int)=4:=rfl
 rcases hW with⟨rfl,rfl⟩ |⟨rfl,rfl⟩ |⟨rfl,rfl⟩
 ·have w1:IntKind.i64.wrap (1-1)=0:=rfl
  have w2:IntKind.i64.wrap (1*2^min (Xad 0) IntKind.i64.bits)=1:=rfl
  have ng:¬((0:Int)<0):=by decide
  by_cases h:b.length<1
  ·have h':(b.length:Int)<1:=by omega
   rw[Zg (by rfl) Zfh,if_pos h]
   simp -implicitDefEqProofs only[EQA,Zs,Zc,Xd,Xc,Xf,Xa,Xg,Zbh,reduceCtorEq,↓reduceIte,Ze,ZeN,Zd5,ZeM,Zb,hC,w1,w2,ng,h',Zby,AVal.cells]
   rfl
  ·have h':¬(b.length:Int)<1:=by omega
   have hs:=hw 1 (by omega)
   rw[z1]at hs
   have e0:((0:Int)==0)=true:=rfl
   rw[Zg (by rfl) Zfh,if_neg h]
   simp -implicitDefEqProofs only[EQA,Zs,Zc,Xd,Xc,Xf,Xa,Xg,Zbh,reduceCtorEq,↓reduceIte,Ze,ZeN,Zd5,ZeM,Zb,hC,w1,w2,ng,h',hs,hG,hi,Zby,AVal.cells]
   rfl
 ·have w1:IntKind.i64.wrap (2-1)=1:=rfl
  have w2:IntKind.i64.wrap (1*2^min (Xad 1) IntKind.i64.bits)=2:=rfl
  have ng:¬((1:Int)<0):=by decide
  by_cases h:b.length<2
  ·have h':(b.length:Int)<2:=by omega
   rw[Zg (by rfl) Zfh,if_pos h]
   simp -implicitDefEqProofs only[EQA,Zs,Zc,Xd,Xc,Xf,Xa,Xg,Zbh,reduceCtorEq,↓reduceIte,Ze,ZeN,Zd5,ZeM,Zb,hC,w1,w2,ng,h',Xj,Zby,AVal.cells]
   rfl
  ·have h':¬(b.length:Int)<2:=by omega
   have hs:=hw 2 (by omega)
   rw[z2]at hs
   have e0:((0:Int)==0)=true:=rfl
   rw[Zg (by rfl) Zfh,if_neg h]
   simp -implicitDefEqProofs only[EQA,Zs,Zc,Xd,Xc,Xf,Xa,Xg,Zbh,reduceCtorEq,↓reduceIte,Ze,ZeN,Zd5,ZeM,Zb,hC,w1,w2,ng,h',hs,hG,hi,Xj,Zby,AVal.cells]
   rfl
 ·have w1:IntKind.i64.wrap (3-1)=2:=rfl
  have w2:IntKind.i64.wrap (1*2^min (Xad 2) IntKind.i64.bits)=4:=rfl
  have ng:¬((2:Int)<0):=by decide
  by_cases h:b.length<4
  ·have h':(b.length:Int)<4:=by omega
   rw[Zg (by rfl) Zfh,if_pos h]
   simp -implicitDefEqProofs only[EQA,Zs,Zc,Xd,Xc,Xf,Xa,Xg,Zbh,reduceCtorEq,↓reduceIte,Ze,ZeN,Zd5,ZeM,Zb,hC,w1,w2,ng,h',Xj,Zby,AVal.cells]
   rfl
  ·have h':¬(b.length:Int)<4:=by omega
   have hs:=hw 4 (by omega)
   rw[z4]at hs
   have e0:((0:Int)==0)=true:=rfl
   rw[Zg (by rfl) Zfh,if_neg h]
   simp -implicitDefEqProofs only[EQA,Zs,Zc,Xd,Xc,Xf,Xa,Xg,Zbh,reduceCtorEq,↓reduceIte,Ze,ZeN,Zd5,ZeM,Zb,hC,w1,w2,ng,h',hs,hG,hi,Xj,Zby,AVal.cells]
   rfl
theorem ZP9(id:Int)(b:Zd)(hl:b.length<=140737488355328):∃ f,E 134 [.int .i64 id,.lnt b] []=some (Zby f (Zcv id b),[]):=by
 unfold Zcv
 have hC:=fun G sq own=>Zrm G sq own id
 have hGV:=fun G sq own=>ZpZ G sq own b (by omega)
 have hGT:=fun G sq own=>ZiJ G sq own b hl
 have hGD:=fun G sq own=>ZL6 G sq own b hl
 have z0:((0:Nat):Int)=0:=rfl
 rcases Zy4 id with hk |hk |hk |hk |hk |hk |hk |hk
 ·refine⟨true,?_⟩
  rw[hk]at hC ⊢
  rw[show Zeh 0 id b=(⟨id,0,[],[],[]⟩,0,true)from rfl,Zg (by rfl) Zfh]
  have e0:((0:Int)==0)=true:=rfl
  simp -implicitDefEqProofs only[EQA,Zs,Zc,Xd,Xc,Xf,Xa,Xg,reduceCtorEq,↓reduceIte,Ze,ZeN,Zd5,ZeM,Zb,hC,Xj,Zby,AVal.cells]
  rfl
 ·rw[hk];exact⟨true,Zsp id b hl 1 1 hk (by simp)⟩
 ·rw[hk];exact⟨true,Zsp id b hl 2 2 hk (by simp)⟩
 ·rw[hk];exact⟨true,Zsp id b hl 3 4 hk (by simp)⟩
 ·refine⟨true,?_⟩
  rw[hk]at hC ⊢
  rw[show Zeh 4 id b=(⟨id,(Zar b).1,[],[],[]⟩,(Zar b).2.1,(Zar b).2.2==0)from rfl,Zg (by rfl) Zfh]
  unfold gvT at hGV
  simp -implicitDefEqProofs only[EQA,Zs,Zc,Xd,Xc,Xf,Xa,Xg,reduceCtorEq,↓reduceIte,Ze,ZeN,Zd5,ZeM,Zb,hC,hGV,Xj,Zby,AVal.cells]
 ·refine⟨true,?_⟩
  rw[hk]at hC ⊢
  rw[show Zeh 5 id b=(⟨id,0,(ZU b).1,[],[]⟩,(ZU b).2.1,(ZU b).2.2==0)from rfl,Zg (by rfl) Zfh]
  unfold gtT at hGT
  simp -implicitDefEqProofs only[EQA,Zs,Zc,Xd,Xc,Xf,Xa,Xg,reduceCtorEq,↓reduceIte,Ze,ZeN,Zd5,ZeM,Zb,hC,hGT,Xj,Zby,AVal.cells]
 ·refine⟨false,?_⟩
  rw[hk]at hC ⊢
  rw[show Zeh 6 id b=(⟨id,0,[],[],(ZL b).1⟩,(ZL b).2.1,(ZL b).2.2==0)from rfl,Zg (by rfl) Zfh]
  unfold gdT at hGD
  simp -implicitDefEqProofs only[EQA,Zs,Zc,Xd,Xc,Xf,Xa,Xg,reduceCtorEq,↓reduceIte,Ze,ZeN,Zd5,ZeM,Zb,hC,hGD,Xj,Zby,AVal.cells]
 ·refine⟨true,?_⟩
  rw[hk]at hC ⊢
  rw[show Zeh 7 id b=Zg8 id b from rfl,Zg (by rfl) Zfh]
  unfold gtT at hGT
  unfold Zg8
  have hu:=ZgJ b
  by_cases h:(ZU b).2.2=0
  ·have h':((ZU b).2.2==0)=true:=by simpa using h
   have hs:=fun G kk=>Zfw G b kk (((ZU b).2.1:Nat):Int) (by omega) (by omega)
   have e:((((ZU b).2.1:Nat):Int)).toNat=(ZU b).2.1:=rfl
   rw[e]at hs
   have hGT2:=fun G sq own=>ZiJ G sq own (b.drop (ZU b).2.1) (by simp;omega)
   unfold gtT at hGT2
   have hu2:=ZgJ (b.drop (ZU b).2.1)
   have hdl:(b.drop (ZU b).2.1).length<=b.length:=by simp
   have hw:IntKind.i64.wrap ((((ZU b).2.1:Nat):Int)+(((ZU (b.drop (ZU b).2.1)).2.1:Nat):Int))=(((ZU b).2.1+(ZU (b.drop (ZU b).2.1)).2.1:Nat):Int):=by
    rw[ZaD (by omega) (by omega)];rfl
   rw[if_pos h]
   rw[h]at hGT
   have e0:((0:Int)==0)=true:=rfl
   simp -implicitDefEqProofs only[EQA,Zs,Zc,Xd,Xc,Xf,Xa,Xg,reduceCtorEq,↓reduceIte,Ze,ZeN,Zd5,ZeM,Zb,hC,hGT,hs,hGT2,hw,Xj,Zby,AVal.cells]
  ·have h':((ZU b).2.2==0)=false:=by simpa using h
   rw[if_neg h]
   obtain⟨x1,x2⟩:=hu.2 h
   rw[x1,x2]at hGT
   simp -implicitDefEqProofs only[EQA,Zs,Zc,Xd,Xc,Xf,Xa,Xg,reduceCtorEq,↓reduceIte,Ze,ZeN,Zd5,ZeM,Zb,hC,hGT,h',Xj,Zby,AVal.cells]
theorem ZHO(G:Za)(sq own:Nat)(id:Int)(b:Zd)(hl:b.length<=140737488355328):Zq E BY G sq 134 own true [.int .i64 id,.lnt b]=some (Zby false (Zcv id b),G,{}):=by
 obtain⟨g,h⟩:=ZP9 id b hl
 exact Zyr (vs:=[.int .i64 id,.lnt b]) (by kernel_rfl) (by kernel_rfl) (by kernel_rfl) rfl rfl (fun _=>rfl) h rfl rfl
end
section
theorem ZsB(id:Int)(b:Zd)(hl:b.length<=140737488355328)(k:Int)(W:Nat)(hk:Zcc id=k)(hW:(k=1/\W=1)\/(k=2/\W=2)\/(k=3/\W=4)):E 122 [.int .i64 id,Z4 b] []=some (Zby true (Zf4 id W b),[]):=by
 have hC:=fun G sq own=>ZxO G sq own id
 rw[hk]at hC
 have hG:=fun G sq own f=>ZlW G sq own (b.take W) (by simp;omega) f
 have hg:=ZzJ (b.take W) (by simp;omega)
 unfold Zf4
 generalize Zce (b.take W)=g at *
 have hi:IntKind.i64.wrap (g:Int)=(g:Int):=ZaD (by omega) (by omega)
 have hw:∀ W:Nat,W<=b.length->∀ (G:Za) (kk:IntKind),ZbO G 1 (.lst false (b.map Zh)) none (some (.int kk (W:Int))) none=some (.lst false ((b.take W).map Zh),G,{}):=fun W hW G kk=>by
  have:=Zjs G 1 b Zh kk (W:Int) (by omega) (by omega)
  exact this
 have z1:((1:Nat):Int)=1:=rfl
 have z2:((2:Nat):Int)=2:=rfl
 have z4:((4:Nat):Int)=4:=rfl
 rcases hW with⟨rfl,rfl⟩ |⟨rfl,rfl⟩ |⟨rfl,rfl⟩
 ·skip
  by_cases h:b.length<1
  ·have h':(b.length:Int)<1:=by omega
   rw[Zg (by rfl) Zfj,if_pos h]
   simp -implicitDefEqProofs only[EQA,Zs,Zc,Xd,Xc,Xf,Xa,Xg,reduceCtorEq,↓reduceIte,Ze,Zfa,ZdX,ZeI,Zb,Z4,hC,h',Zby,AVal.cells,Zao]
   rfl
  ·have h':¬(b.length:Int)<1:=by omega
   have hs:=hw 1 (by omega)
   rw[z1]at hs
   have e0:((0:Int)==0)=true:=rfl
   rw[Zg (by rfl) Zfj,if_neg h]
   simp -implicitDefEqProofs only[EQA,Zs,Zc,Xd,Xc,Xf,Xa,Xg,reduceCtorEq,↓reduceIte,Ze,Zfa,ZdX,ZeI,Zb,Z4,hC,h',hs,hG,hi,Zby,AVal.cells,Zao]
   rfl
 ·skip
  by_cases h:b.length<2
  ·have h':(b.length:Int)<2:=by omega
   rw[Zg (by rfl) Zfj,if_pos h]
   simp -implicitDefEqProofs only[EQA,Zs,Zc,Xd,Xc,Xf,Xa,Xg,reduceCtorEq,↓reduceIte,Ze,Zfa,ZdX,ZeI,Zb,Z4,hC,h',Xj,Zby,AVal.cells,Zao]
   rfl
  ·have h':¬(b.length:Int)<2:=by omega
   have hs:=hw 2 (by omega)
   rw[z2]at hs
   have e0:((0:Int)==0)=true:=rfl
   rw[Zg (by rfl) Zfj,if_neg h]
   simp -implicitDefEqProofs only[EQA,Zs,Zc,Xd,Xc,Xf,Xa,Xg,reduceCtorEq,↓reduceIte,Ze,Zfa,ZdX,ZeI,Zb,Z4,hC,h',hs,hG,hi,Xj,Zby,AVal.cells,Zao]
   rfl
 ·skip
  by_cases h:b.length<4
  ·have h':(b.length:Int)<4:=by omega
   rw[Zg (by rfl) Zfj,if_pos h]
   simp -implicitDefEqProofs only[EQA,Zs,Zc,Xd,Xc,Xf,Xa,Xg,reduceCtorEq,↓reduceIte,Ze,Zfa,ZdX,ZeI,Zb,Z4,hC,h',Xj,Zby,AVal.cells,Zao]
   rfl
  ·have h':¬(b.length:Int)<4:=by omega
   have hs:=hw 4 (by omega)
   rw[z4]at hs
   have e0:((0:Int)==0)=true:=rfl
   rw[Zg (by rfl) Zfj,if_neg h]
   simp -implicitDefEqProofs only[EQA,Zs,Zc,Xd,Xc,Xf,Xa,Xg,reduceCtorEq,↓reduceIte,Ze,Zfa,ZdX,ZeI,Zb,Z4,hC,h',hs,hG,hi,Xj,Zby,AVal.cells,Zao]
   rfl
theorem ZFI(id:Int)(b:Zd)(hl:b.length<=140737488355328):(Zcc id≠6->E 122 [.int .i64 id,Z4 b] []=some (Zby true (Zcv id b),[]))/\(Zcc id=6->E 122 [.int .i64 id,Z4 b] []=some (.tup [.agg [.int .i64 id,.int .i64 0,.str [],.str [],.sl 0 0 0 (ZL b).1.length],.int .i64 ((ZL b).2.1:Nat),.bool ((ZL b).2.2==0)],[.row 0 1 ((ZL b).1.map Zh)])):=by
 unfold Zcv
 have hC:=fun G sq own=>ZxO G sq own id
 have hGV:=fun G sq own f=>ZqR G sq own f b (by omega)
 have hGT:=fun G sq own f=>ZrN G sq own f b hl
 have hGD:=fun G sq own f=>Zsu G sq own f b hl
 have z0:((0:Nat):Int)=0:=rfl
 rcases Zy4 id with hk |hk |hk |hk |hk |hk |hk |hk
 ·refine⟨fun _=>?_,fun h6=>by grind⟩
  rw[hk]at hC ⊢
  have hG:=fun G sq own f=>ZlW G sq own (b.take 0) (by simp) f
  rw[show Zce (b.take 0)=0 from rfl]at hG
  have hs:=fun G kk=>Zjs G 1 b Zh kk 0 (by omega) (by omega)
  rw[show(0:Int).toNat=0 from rfl]at hs
  have h':¬(b.length:Int)<0:=by omega
  have hi:IntKind.i64.wrap 0=0:=rfl
  rw[show Zeh 0 id b=(⟨id,0,[],[],[]⟩,0,true)from rfl,Zg (by rfl) Zfj]
  rw[z0]at hG
  generalize b.take 0=b0 at *
  simp -implicitDefEqProofs only[EQA,Zs,Zc,Xd,Xc,Xf,Xa,Xg,reduceCtorEq,↓reduceIte,Ze,Zfa,ZdX,ZeI,Zb,Z4,hC,hG,hs,h',hi,Xj,Zby,AVal.cells,Zao]
  rfl
 ·rw[hk];exact⟨fun _=>ZsB id b hl 1 1 hk (by simp),fun h6=>absurd h6 (by decide)⟩
 ·rw[hk];exact⟨fun _=>ZsB id b hl 2 2 hk (by simp),fun h6=>absurd h6 (by decide)⟩
 ·rw[hk];exact⟨fun _=>ZsB id b hl 3 4 hk (by simp),fun h6=>absurd h6 (by decide)⟩
 ·refine⟨fun _=>?_,fun h6=>by grind⟩
  rw[hk]at hC ⊢
  rw[show Zeh 4 id b=(⟨id,(Zar b).1,[],[],[]⟩,(Zar b).2.1,(Zar b).2.2==0)from rfl,Zg (by rfl) Zfj]
  unfold gvT at hGV
  simp -implicitDefEqProofs only[EQA,Zs,Zc,Xd,Xc,Xf,Xa,Xg,reduceCtorEq,↓reduceIte,Ze,Zfa,ZdX,ZeI,Zb,Z4,hC,hGV,Xj,Zby,AVal.cells,Zao]
 ·refine⟨fun _=>?_,fun h6=>by grind⟩
  rw[hk]at hC ⊢
  rw[show Zeh 5 id b=(⟨id,0,(ZU b).1,[],[]⟩,(ZU b).2.1,(ZU b).2.2==0)from rfl,Zg (by rfl) Zfj]
  unfold gtT at hGT
  simp -implicitDefEqProofs only[EQA,Zs,Zc,Xd,Xc,Xf,Xa,Xg,reduceCtorEq,↓reduceIte,Ze,Zfa,ZdX,ZeI,Zb,Z4,hC,hGT,Xj,Zby,AVal.cells,Zao]
 ·refine⟨fun h6=>absurd hk h6,fun _=>?_⟩
  rw[hk]at hC
  have hdl:=(Zg0 b).2
  have k1:=Zg1 (ZL b).1
  have k2:(ZL b).1.length*1<=140737488355328:=by omega
  rw[Zg (by rfl) Zfj]
  unfold gdT at hGD
  generalize (ZL b).1=d at *
  simp -implicitDefEqProofs only[EQA,Zs,Zc,ZbH,Xd,Xc,Xf,Xa,Xg,reduceCtorEq,ZZ,↓reduceIte,Zfa,ZdX,ZeI,Zb,Z4,hC,hGD,k1,k2,Xj,AVal.cells,Zao,Zan,viewAs,Zu]
  simp[ZR,gcA,Zw,Zt,Zl,ZG,Zm,Zo,ZI,Zn,ZD,Zj,Zp,Zz,ZB]
 ·refine⟨fun _=>?_,fun h6=>by grind⟩
  rw[hk]at hC ⊢
  rw[show Zeh 7 id b=Zg8 id b from rfl,Zg (by rfl) Zfj]
  unfold gtT at hGT
  unfold Zg8
  have hu:=ZgJ b
  by_cases h:(ZU b).2.2=0
  ·have h':((ZU b).2.2==0)=true:=by simpa using h
   have hs:=fun G kk=>Zgu G b kk (((ZU b).2.1:Nat):Int) (by omega) (by omega)
   have e:((((ZU b).2.1:Nat):Int)).toNat=(ZU b).2.1:=rfl
   rw[e]at hs
   have hGT2:=fun G sq own f=>ZrN G sq own f (b.drop (ZU b).2.1) (by simp;omega)
   unfold gtT at hGT2
   have hu2:=ZgJ (b.drop (ZU b).2.1)
   have hdl:(b.drop (ZU b).2.1).length<=b.length:=by simp
   have hw:IntKind.i64.wrap ((((ZU b).2.1:Nat):Int)+(((ZU (b.drop (ZU b).2.1)).2.1:Nat):Int))=(((ZU b).2.1+(ZU (b.drop (ZU b).2.1)).2.1:Nat):Int):=by
    rw[ZaD (by omega) (by omega)];rfl
   rw[if_pos h]
   rw[h]at hGT
   have e0:((0:Int)==0)=true:=rfl
   have n0:((0:Int) != 0)=false:=rfl
   simp -implicitDefEqProofs only[EQA,Zs,Zc,Xd,Xc,Xf,Xa,Xg,reduceCtorEq,↓reduceIte,Ze,Zfa,ZdX,ZeI,Zb,Z4,hC,hGT,hs,hGT2,hw,n0,Xj,Zby,AVal.cells,Zao]
  ·have h':((ZU b).2.2==0)=false:=by simpa using h
   rw[if_neg h]
   obtain⟨x1,x2⟩:=hu.2 h
   rw[x1,x2]at hGT
   have h'':((ZU b).2.2 != 0)=true:=by simpa using h
   simp -implicitDefEqProofs only[EQA,Zs,Zc,Xd,Xc,Xf,Xa,Xg,reduceCtorEq,↓reduceIte,Ze,Zfa,ZdX,ZeI,Zb,Z4,hC,hGT,h'',Xj,Zby,AVal.cells,Zao]
   rfl
theorem ZA2(G:Za)(sq own:Nat)(f:Bool)(id:Int)(b:Zd)(hl:b.length<=140737488355328):Zq E BY G sq 122 own true [.int .i64 id,.lst f (b.map Zh)]=some (Zby false (Zcv id b),G,{}):=by
 obtain⟨h1,h2⟩:=ZFI id b hl
 by_cases hk:Zcc id=6
 ·have h:=h2 hk
  have e:Zcv id b=(⟨id,0,[],[],(ZL b).1⟩,(ZL b).2.1,(ZL b).2.2==0):=by unfold Zcv;rw[hk];rfl
  rw[e,ZhH (by kernel_rfl) rfl]
  have hm:[AVal.int .i64 id,.lst f (b.map Zh)].map Z1=[AVal.int .i64 id,Z4 b]:=rfl
  rw[hm,h]
  simp[ZV,ZbP,viewR,viewAs,Z3,Zag,ZN,ZZ,Zu,gcA,Zw,Zt,Zl,ZG,Zj,Zp,Zo,Zaz,ZbB,Za5,ZaK,Zby]
  exact XG (by simp)
 ·exact Zcr (h1 hk) (by kernel_rfl) rfl rfl rfl (fun _=>rfl) _ _ _
end
section
def ZmC(b:Bool):AVal:=.tup [.agg [.int .i64 0,.int .i64 0,.str [],.str [],.lst b []],.bool false]
theorem ZtY(l:Zd):kOk 1 (l.map Zh)=true:=by cases l<;>rfl
theorem Zvm(l:Zd)(h:l.length<=140737488355328):E 97 [.lst false (l.map Zh)] []=some (.sl 0 0 0 (l.map Zh).length,[.row 0 1 (l.map Zh)]):=by
 refine Zdv.2 ⟨1,?_⟩
 show ZkM 1 1 [.lst false (l.map Zh)] []=_
 have h1:(l.map Zh).length*1<=140737488355328/\kOk 1 (l.map Zh)=true:=⟨by grind,ZtY l⟩
 simp only[ZkM,ZZ]
 grind
theorem ZJ6(G:Za)(sq own:Nat)(l:Zd)(h:l.length<=140737488355328):Zq E BY G sq 97 own true [.lst false (l.map Zh)]=some (.lst false (l.map Zh),G,{}) :=
 ZH7 (bf:=BY) (Zvm l h) rfl rfl rfl G sq own
theorem ZTz(p:ZP)(h:p.data.length<=140737488355328):E 145 [Zv p] []=some (Zv p,[]):=by
 have hC:=fun G sq own=>ZJ6 G sq own p.data h
 rw[Zg (by rfl) ZH3]
 simp -implicitDefEqProofs only[EQA,Zs,ZE,Zc,Xd,Xc,Xf,Xa,Xg,↓reduceIte,Ze,ZLf,Zp1,ZB0,Zb,Z4,Zv,Zcy,hC]
theorem ZIN(G:Za)(sq own:Nat)(p:ZP)(h:p.data.length<=140737488355328):Zq E BY G sq 145 own true [.agg [.int .i64 p.id,.int .i64 p.num,.str p.text,.str p.pair,.lst false (p.data.map Zh)]]=some (.agg [.int .i64 p.id,.int .i64 p.num,.str p.text,.str p.pair,.lst false (p.data.map Zh)],G,{}) :=
 ZdQ (ZTz p h) (by kernel_rfl) (by simp -implicitDefEqProofs only[Zej,ZbS,eq_self,Z4,Zv,Zcy]) (by simp -implicitDefEqProofs only[ZE,ZbS,eq_self,Z4,Zv,Zcy]) rfl (fun _=>rfl) _ _ _ _
def Zfe(id:Int):List ZP->AVal
 | []=>ZmC true
 |p::r=>if p.id==id then .tup [Zv p,.bool true]else Zfe id r
theorem ZyR(l:List ZP)(hl:l.length<=9223372036854775807)(hd:∀ p∈l,p.data.length<=140737488355328)(id:Int):∀ (r:List ZP) (i:Nat),l.drop i=r ->
  Zny 0 [(10,.int .i64 i),(9,.int .i64 l.length),(8,.lst false (l.map Zv)),(4,.ref 0 0),(0,.int .i64 id)] [.var [.int .i64 0,.int .i64 0,.str [],.str [],.lst true []]]=some (Zfe id r,[])
 | [],i,h=>by
  have h1:=Zes h
  unfold Zny
  rw[Z9,Zfe]
  simp -implicitDefEqProofs only[EQA,Zs,Zc,Xd,Xc,Xf,Xa,reduceCtorEq,↓reduceIte,Ze,Zya,ZLF,ZpJ,Zst,Zld,Zb,h1,ZmC,Zao,AVal.cells]
 |p::r,i,h=>by
  have ih:=ZyR l hl hd id r (i+1) (Zas h).2.1
  have h1:(i:Int)<l.length:=by have:=(Zas h).2.2;omega
  have e1:=iad (Zas h).1 Zv (k:=5) rfl
  have e3:=Zd0 h1 hl
  have hC:=fun G sq own=>ZIN G sq own p (hd p (XL (Zas h).1))
  unfold Zny at ih ⊢
  rw[Z9,Zfe]
  cases hb:(p.id==id)
  ·simp -implicitDefEqProofs only[EQA,Zs,ZE,Zc,ZT,ZbH,Xd,Xc,Xf,Xa,Xg,reduceCtorEq,↓reduceIte,gcT,gcA,Zw,Zt,Zm,Zo,ZI,Zn,ZD,Zz,ZB,Zst,Zld,Zb,Z4,Zv,Zcy,h1,e1,e3,hb]
   exact ih
  ·simp -implicitDefEqProofs only[EQA,Zs,ZE,Zc,Xd,Xc,Xf,Xa,Xg,reduceCtorEq,↓reduceIte,Ze,Zya,Zst,Zld,Zb,Z4,Zv,Zcy,h1,e1,hb,hC]
theorem ZF9(l:List ZP)(hl:l.length<=9223372036854775807)(hd:∀ p∈l,p.data.length<=140737488355328)(id:Int):E 135 [.int .i64 id,ZbI l] []=some (Zfe id l,[]):=by
 have:=ZyR l hl hd id l 0 rfl
 have z0:((0:Nat):Int)=0:=rfl
 rw[z0]at this
 unfold Zny at this
 rw[Zg (by rfl) ZKr]
 simp -implicitDefEqProofs only[EQA,Zc,ZT,ZbH,Xc,Xa,Xg,reduceCtorEq,↓reduceIte,gcT,gcA,Zw,Zt,Zm,Zo,ZI,Zn,ZD,Zz,ZB,ZLv,Zqk,Zb,ZbI]
 exact this
def Zdu(id:Int)(l:List ZP):Option ZP:=l.find? (fun p=>p.id==id)
def Zjo(b:Bool):Option ZP->AVal
 |none=>ZmC b
 |some p=>.tup [Zv p,.bool true]
theorem Zmq(id:Int):∀ l:List ZP,Zfe id l=Zjo true (Zdu id l)
 | []=>rfl
 |p::r=>by
  have ih:=Zmq id r
  unfold Zdu at ih ⊢
  rw[Zfe,List.find?_cons]
  cases h:(p.id==id)
  ·grind
  ·rfl
theorem ZJX(G:Za)(sq own:Nat)(l:List ZP)(hl:l.length<=9223372036854775807)(hd:∀ p∈l,p.data.length<=140737488355328)(id:Int):Zq E BY G sq 135 own true [.int .i64 id,.lst false (l.map Zv)]=some (Zjo false (Zdu id l),G,{}):=by
 have h:=ZF9 l hl hd id
 rw[Zmq]at h
 cases hf:Zdu id l with
 |none=>rw[hf]at h;exact Zcr h (by kernel_rfl) rfl rfl rfl (fun _=>rfl) G sq own
 |some p =>
  rw[hf]at h
  exact Zcr h (by kernel_rfl) rfl rfl rfl (fun _=>rfl) G sq own
theorem ZvE(l:List ZP)(hl:l.length<=9223372036854775807)(id:Int):∀ (r:List ZP) (i:Nat),l.drop i=r ->
  ZmD 0 [(6,.int .i64 i),(4,.ref 0 0),(1,.lst false (l.map Zv)),(0,.int .i64 id)] [.var [.int .i64 0,.int .i64 0,.str [],.str [],.lst true []]]=some (Zfe id r,[])
 | [],i,h=>by
  have h1:=Zes h
  unfold ZmD
  rw[Z9,Zfe]
  simp -implicitDefEqProofs only[EQA,Zs,Zc,Xd,Xc,Xf,Xa,reduceCtorEq,↓reduceIte,Ze,Zyj,ZEt,ZoT,Zse,Zkf,Zb,h1,ZmC,Zao,AVal.cells]
 |p::r,i,h=>by
  have ih:=ZvE l hl id r (i+1) (Zas h).2.1
  have h1:(i:Int)<l.length:=by have:=(Zas h).2.2;omega
  have e1:=iad (Zas h).1 Zv (k:=5) rfl
  have e3:=Zd0 h1 hl
  unfold ZmD at ih ⊢
  rw[Z9,Zfe]
  cases hb:(p.id==id)
  ·simp -implicitDefEqProofs only[EQA,ZE,Zc,ZT,ZbH,Xc,Xa,reduceCtorEq,↓reduceIte,gcT,gcA,Zw,Zt,Zm,Zo,ZI,Zn,ZD,Zz,ZB,Zse,Zkf,Zb,Z4,Zv,Zcy,h1,e1,e3,hb]
   exact ih
  ·simp -implicitDefEqProofs only[EQA,Zs,ZE,Zc,Xd,Xc,Xf,Xa,reduceCtorEq,↓reduceIte,Ze,Zyj,Zse,Zkf,Zb,Z4,Zv,Zcy,h1,e1,hb]
theorem ZyZ(l:List ZP)(hl:l.length<=9223372036854775807)(id:Int):E 123 [.int .i64 id,ZbI l] []=some (Zfe id l,[]):=by
 have:=ZvE l hl id l 0 rfl
 have z0:((0:Nat):Int)=0:=rfl
 rw[z0]at this
 unfold ZmD at this
 rw[Zg (by rfl) ZLU]
 simp -implicitDefEqProofs only[EQA,Zc,ZT,ZbH,Xc,Xa,Xg,reduceCtorEq,↓reduceIte,gcT,gcA,Zw,Zt,Zm,Zo,ZI,Zn,ZD,Zz,ZB,ZAP,ZqG,Zb,ZbI]
 exact this
def Zfv:ZP:=⟨0,0,[],[],[]⟩
theorem ZnV(o:Option ZP):Zjo false o=.tup [.agg [.int .i64 (o.getD Zfv).id,.int .i64 (o.getD Zfv).num,.str (o.getD Zfv).text,.str (o.getD Zfv).pair,.lst false ((o.getD Zfv).data.map Zh)],.bool o.isSome]:=by
 cases o<;>rfl
end
section
def ZdL(id w:Int):Bool:=id==38 ||(id==11&&w==3)
def ZgH(id num:Int):Bool:=if id==11 ||id==33 ||id==35 ||id==39 then num != 0 else Zcc id != 1 ||decide (num<=1)
def Zgi(id num:Int):Int:=if ZgH id num then 0 else if id==35 then 148 else 130
theorem ZPn(id w:Int):E 136 [.int .i64 id,.int .i64 w] []=some (.bool (ZdL id w),[]):=by
 rw[Zg (by rfl) ZS8]
 unfold ZdL
 cases h1:(id==38)<;>cases h2:(id==11)
 all_goals simp -implicitDefEqProofs only[EQA,Zc,Xc,Xa,Zy,Z6,unG,reduceCtorEq,↓reduceIte,ZQK,ZrV,ZTd,Zb,h1,h2]
theorem ZLt(G:Za)(sq own:Nat)(id w:Int):Zq E BY G sq 136 own true [.int .i64 id,.int .i64 w]=some (.bool (ZdL id w),G,{}) :=
 Zcr (ZPn id w) (by kernel_rfl) rfl rfl rfl (fun _=>rfl) _ _ _
theorem ZN7(p:ZP):E 137 [Zv p] []=some (.bool (ZgH p.id p.num),[]):=by
 have hC:=fun G sq own=>Zrm G sq own p.id
 rw[Zg (by rfl) ZQz]
 unfold ZgH
 cases h1:(p.id==11)<;>cases h2:(p.id==33)<;>cases h3:(p.id==35)<;>cases h4:(p.id==39)
 all_goals simp -implicitDefEqProofs only[EQA,ZE,Zc,ZT,ZLw,Zc9,Xc,Xa,Xg,Zy,Z6,unG,ite_self,↓reduceIte,ZRu,Zpa,ZRz,Zb,Z4,Zv,Zcy,hC,h1,h2,h3,h4]
theorem ZIJ(G:Za)(sq own:Nat)(p:ZP):Zq E BY G sq 137 own true [.agg [.int .i64 p.id,.int .i64 p.num,.str p.text,.str p.pair,.lst false (p.data.map Zh)]]=some (.bool (ZgH p.id p.num),G,{}) :=
 Zcr (ZN7 p) (by kernel_rfl) rfl rfl rfl (fun _=>rfl) _ _ _
theorem ZOA (id n : Int) : E 124 [.int .i64 id, .int .i64 n] [] = some (.int .i64 (Zgi id n), []) := by
  have g1 : n > 1 -> (n == 0) = false := fun h => by simp; omega
  by_cases h : ZeA id
  . rcases h with rfl | rfl | rfl | rfl | rfl | rfl | rfl | rfl | rfl | rfl | rfl | rfl | rfl | rfl | rfl | rfl | rfl | rfl | rfl | rfl | rfl | rfl | rfl | rfl | rfl | rfl | rfl
    all_goals rw [Zg (by rfl) Zu1]
    all_goals (by_cases h1 : n > 1 <;> cases h0 : (n == 0))
    all_goals first
      | (exact absurd (g1 h1) (by grind))
      | (simp -implicitDefEqProofs only [EQA,Zc,Xc,Xa,reduceCtorEq,↓reduceIte,ZpY,Zk7,Zsd,Zb,h1,h0,Xj]
         done)
      | (simp -implicitDefEqProofs only [EQA,Zc,Xc,Xa,reduceCtorEq,↓reduceIte,ZpY,Zk7,Zsd,Zb,h1,h0,Xj]
         have h2 : (n <= 1) = ¬ (n > 1) := by simp
         have h3 : (n != 0) = !(n == 0) := rfl
         simp [Zgi, ZgH, Zcc, ofF, ZqI, List.lookup, h1, h0, h2, h3])
  . obtain ⟨h1, h2, h3, h8, h9, h11, h17, h18, h26, h19, h21, h22, h23, h25, h24, h28, h31, h33, h34, h35, h39, h36, h37, h40, h41, h42, h38⟩ := Zlm h
    have e : Zgi id n = 0 := by simp [Zgi, ZgH, Zcc, Zlc h, h11, h33, h35, h39]
    rw [e, Zg (by rfl) Zu1]
    simp -implicitDefEqProofs only [EQA,Zc,Xc,Xa,reduceCtorEq,↓reduceIte,ZpY,Zk7,Zsd,Zb,h1,h11,h23,h25,h33,h35,h39,h36,h37,h40,h41,h42]
end
section
theorem ZAu:∀ (b:Zd) (i n:Nat),(gvA i n b).2.2=0->i<(gvA i n b).2.1/\(gvA i n b).2.1<=i+b.length
 | [],i,n,h=>by
  unfold gvA at h
  split at h<;>simp at h
 |c::r,i,n,h=>by
  unfold gvA at h⊢
  split at h
  ·simp at h
  ·rename_i h4
   rw[if_neg h4]
   split at h
   ·grind
   ·rename_i hc
    rw[if_neg hc]
    have:=ZAu r (i+1) _ h
    simp only[Xz]
    omega
theorem ZkE(b:Zd)(h:(Zar b).2.2=0):0<(Zar b).2.1/\(Zar b).2.1<=b.length:=by
 have:=ZAu b 0 0 h
 simpa[Zar]using this
theorem Zzj(id:Int)(b:Zd):(Zcv id b).1.id=id:=by
 unfold Zcv Zeh Zf4 Zg8
 grind
theorem Zyg(id:Int)(b:Zd):(Zcv id b).1.data.length<=b.length:=by
 unfold Zcv Zeh Zf4 Zg8
 repeat' split
 all_goals first
  |exact(Zg0 b).2
  |exact Nat.zero_le _
theorem Zyi:∀ (b:Zd) (i n:Nat),(gvA i n b).2.1<=i+b.length
 | [],i,n=>by unfold gvA;split<;>simp
 |c::r,i,n=>by
  unfold gvA
  repeat' split
  all_goals simp only[Xz]
  all_goals first
   |omega
   |(have:=Zyi r (i+1) (n+c.toNat%128*128^i);omega)
theorem Ztf(b:Zd):(Zar b).2.1<=b.length:=by simpa[Zar]using Zyi b 0 0
theorem Zq7(id:Int)(b:Zd):(Zcv id b).2.1<=b.length:=by
 have h1:=(ZgJ b).1
 have h2:=(ZgJ (b.drop (ZU b).2.1)).1
 have h3:=Ztf b
 have h4:=(Zg0 b).1
 simp only[Wt]at h2
 unfold Zcv Zeh Zf4 Zg8
 grind
def ZdG(w:Int)(l:List ZP)(id:Int)(u:Nat)(v:ZP×Nat×Bool):ZP×Nat×Int :=
 if v.2.2=false then(v.1,0,129)else if((Zdu id l).isSome && !ZdL id w)=true then(v.1,0,130)else
 if ZgH v.1.id v.1.num=true then(v.1,u+v.2.1,0)else if(id==35)=true then(v.1,0,148)else(v.1,0,130)
def Zch(w:Int)(b:Zd)(l:List ZP):ZP×Nat×Int :=
 if(Zar b).2.2≠0\/Z0 ((Zar b).1:Nat) w=false then(Zfv,0,129)
 else ZdG w l ((Zar b).1:Nat) (Zar b).2.1 (Zcv ((Zar b).1:Nat) (b.drop (Zar b).2.1))
def ZdZ(f:Bool)(x:ZP×Nat×Int):AVal:=.tup [.agg [.int .i64 x.1.id,.int .i64 x.1.num,.str x.1.text,.str x.1.pair,.lst f (x.1.data.map Zh)],.int .i64 (x.2.1:Nat),.int .i64 x.2.2]
theorem ZwL(w:Int)(b:Zd)(l:List ZP)(hl:b.length<=140737488355328)(hl2:l.length<=9223372036854775807)(hd:∀ p∈l,p.data.length<=140737488355328):∃ f,E 116 [.int .i64 w,.lnt b,ZbI l] []=some (ZdZ f (Zch w b l),[]):=by
 have hGV:=fun G sq own=>ZpZ G sq own b (by omega)
 have hu:=ZkE b
 unfold Zch
 rcases hx:Zar b with⟨n,u,e⟩
 rw[hx]at hGV hu
 unfold gvT at hGV
 simp only at hGV hu ⊢
 have hM:=fun G sq own=>ZAN G sq own (n:Int) w
 by_cases he:e=0
 ·subst he
  have n0:((0:Int) != 0)=false:=rfl
  cases hm:Z0 (n:Int) w
  ·refine⟨true,?_⟩
   rw[hm]at hM
   have hc:(0:Int)≠0\/false=false:=Xt rfl
   rw[if_pos hc,Zg (by rfl) Zhg]
   unfold ZdZ Zfv
   simp -implicitDefEqProofs only[EQA,Zs,Zc,Xd,Xc,Xf,Xa,Xg,unA,Zy,unG,reduceCtorEq,↓reduceIte,Ze,ZhA,ZfY,Zhf,Zb,ZbI,hGV,hM,n0,AVal.cells]
   rfl
  ·refine⟨false,?_⟩
   rw[hm]at hM
   have hc:¬((0:Int)≠0\/true=false):=by simp
   rw[if_neg hc]
   have hul:=(hu rfl).2
   have hs:=fun G kk=>Zfw G b kk ((u:Nat):Int) (by omega) (by omega)
   have e2:(((u:Nat):Int)).toNat=u:=rfl
   rw[e2]at hs
   have hV:=fun G sq own=>ZHO G sq own (n:Int) (b.drop u) (by simp;omega)
   have hF:=fun G sq own=>ZJX G sq own l hl2 hd (n:Int)
   have hO:=fun G sq own=>ZLt G sq own (n:Int) w
   have hid:=Zzj (n:Int) (b.drop u)
   have hused:(Zcv (n:Int) (b.drop u)).2.1<=b.length:=Nat.le_trans (Zq7 _ _) (by simp)
   have hT:=fun G sq own=>ZIJ G sq own (Zcv (n:Int) (b.drop u)).1
   unfold Zby at hV
   simp only[ZnV]at hF
   unfold ZdG
   generalize Zcv (n:Int) (b.drop u)=v at *
   obtain⟨p,m,ok⟩:=v
   simp only at hV hT hid hused ⊢
   have hw:IntKind.i64.wrap ((u:Int)+(m:Int))=((u+m:Nat):Int):=by
    rw[ZaD (by omega) (by omega)];rfl
   generalize (Zdu (n:Int) l).getD Zfv=q at *
   cases ok
   ·rw[Zg (by rfl) Zhg]
    unfold ZdZ
    simp -implicitDefEqProofs only[EQA,Zs,Zc,Xd,Xc,Xf,Xa,Xg,unA,Zy,unG,reduceCtorEq,↓reduceIte,Ze,ZhA,ZfY,Zhf,Zb,ZbI,hGV,hM,hs,hV,hF,n0,AVal.cells]
    rfl
   ·cases h1:(Zdu (n:Int) l).isSome<;>rw[h1]at hF
    ·cases h3:ZgH p.id p.num<;>rw[h3]at hT
     ·cases h4:((n:Int)==35)
      all_goals rw[Zg (by rfl) Zhg]
      all_goals unfold ZdZ
      all_goals simp -implicitDefEqProofs only[EQA,Zs,Zc,Xd,Xc,Xf,Xa,Xg,unA,Zy,Z6,unG,reduceCtorEq,↓reduceIte,Ze,ZhA,ZfY,Zhf,Zb,ZbI,hGV,hM,hs,hV,hF,hT,h4,n0,AVal.cells]
      all_goals rfl
     ·rw[Zg (by rfl) Zhg]
      unfold ZdZ
      simp -implicitDefEqProofs only[EQA,Zs,Zc,Xd,Xc,Xf,Xa,Xg,unA,Zy,Z6,unG,reduceCtorEq,↓reduceIte,Ze,ZhA,ZfY,Zhf,Zb,ZbI,hGV,hM,hs,hV,hF,hT,hw,n0,AVal.cells]
    ·cases h2:ZdL (n:Int) w<;>rw[h2]at hO
     ·rw[Zg (by rfl) Zhg]
      unfold ZdZ
      simp -implicitDefEqProofs only[EQA,Zs,Zc,Xd,Xc,Xf,Xa,Xg,unA,Zy,unG,reduceCtorEq,↓reduceIte,Ze,ZhA,ZfY,Zhf,Zb,ZbI,hGV,hM,hs,hV,hF,hO,n0,AVal.cells]
      rfl
     ·cases h3:ZgH p.id p.num<;>rw[h3]at hT
      ·cases h4:((n:Int)==35)
       all_goals rw[Zg (by rfl) Zhg]
       all_goals unfold ZdZ
       all_goals simp -implicitDefEqProofs only[EQA,Zs,Zc,Xd,Xc,Xf,Xa,Xg,unA,Zy,unG,reduceCtorEq,↓reduceIte,Ze,ZhA,ZfY,Zhf,Zb,ZbI,hGV,hM,hs,hV,hF,hT,hO,h4,n0,AVal.cells]
       all_goals rfl
      ·rw[Zg (by rfl) Zhg]
       unfold ZdZ
       simp -implicitDefEqProofs only[EQA,Zs,Zc,Xd,Xc,Xf,Xa,Xg,unA,Zy,unG,reduceCtorEq,↓reduceIte,Ze,ZhA,ZfY,Zhf,Zb,ZbI,hGV,hM,hs,hV,hF,hT,hO,hw,n0,AVal.cells]
 ·refine⟨true,?_⟩
  have hc:e≠0\/Z0 (n:Int) w=false:=Xq he
  have n1:(e != 0)=true:=by simpa using he
  rw[if_pos hc,Zg (by rfl) Zhg]
  unfold ZdZ Zfv
  simp -implicitDefEqProofs only[EQA,Zs,Zc,Xd,Xc,Xf,Xa,Xg,Zy,Z6,reduceCtorEq,↓reduceIte,Ze,ZhA,ZfY,Zhf,Zb,ZbI,hGV,n1,AVal.cells]
  rfl
end
section
def ZdS(w:Int):Nat->Zd->List ZP->List ZP×Int
 |_,[],l=>(l,0)
 |0,_::_,_=>([],129)
 |n+1,c::r,l=>if(Zch w (c::r) l).2.2=0 then ZdS w n ((c::r).drop (Zch w (c::r) l).2.1) (l++[(Zch w (c::r) l).1])else([],(Zch w (c::r) l).2.2)
def Zab(w:Int)(b:Zd):List ZP×Nat×Int :=
 if(Zar b).2.2≠0\/((Zar b).1:Int)>(b.length:Int)-((Zar b).2.1:Nat)then([],0,129)
 else if(ZdS w (Zar b).1 ((b.take ((Zar b).2.1+(Zar b).1)).drop (Zar b).2.1) []).2=0 then
  ((ZdS w (Zar b).1 ((b.take ((Zar b).2.1+(Zar b).1)).drop (Zar b).2.1) []).1,(Zar b).2.1+(Zar b).1,0)
 else([],0,(ZdS w (Zar b).1 ((b.take ((Zar b).2.1+(Zar b).1)).drop (Zar b).2.1) []).2)
def Zdd(u:Nat)(x:List ZP×Int):AVal×Za:=if x.2=0 then(.tup [ZeT (x.1.map Zv),.int .i64 (u:Nat),.int .i64 0],ZeB 5 (x.1.map Zv))else(.tup [.lst true [],.int .i64 0,.int .i64 x.2],[])
theorem Zqo{w:Int}{b:Zd}{l:List ZP}(h:(Zch w b l).2.2=0):0<(Zch w b l).2.1/\(Zch w b l).2.1<=b.length/\(Zch w b l).1.data.length<=b.length:=by
 unfold Zch at h⊢
 split at h
 ·simp at h
 ·rename_i hc
  rw[if_neg hc]
  have hc0:(Zar b).2.2=0:=Decidable.byContradiction fun h=>hc (Xq h)
  have h1:=ZkE b hc0
  have h2:=Zq7 ((Zar b).1:Nat) (b.drop (Zar b).2.1)
  have h3:=Zyg ((Zar b).1:Nat) (b.drop (Zar b).2.1)
  simp only[Wt]at h2 h3
  unfold ZdG at h⊢
  grind
theorem ZcM{xs:List AVal}(h:0<xs.length):ZeT xs=.sl 0 0 0 xs.length:=by
 cases xs with
 |nil=>simp at h
 |cons x xs=>rfl
theorem ZcQ{k:Nat}{xs:List AVal}(h:0<xs.length):ZeB k xs=[.row 0 k xs]:=by
 cases xs with
 |nil=>simp at h
 |cons x xs=>rfl
theorem Zwy(l:List ZP):Zk3 (l.map Zv)=true:=by
 unfold Zk3
 rw[Xy]
 intro x hx
 obtain⟨p,_,rfl⟩:=X7.1 hx
 rfl
theorem Zwz(b:Zd):(b.map Zh).all Zmi=true:=by
 rw[Xy]
 intro x hx
 obtain⟨p,_,rfl⟩:=X7.1 hx
 rfl
theorem ZBV(G:Za)(sq own:Nat)(g:Bool)(w:Int)(b:Zd)(l:List ZP)(hl:b.length<=140737488355328)(hl2:l.length<=9223372036854775807)(hd:∀ p∈l,p.data.length<=140737488355328) :
  Zq E BY G sq 116 own true [.int .i64 w,.lnt b,.lst g (l.map Zv)]=some (ZdZ false (Zch w b l),G,{}):=by
 obtain⟨f',h⟩:=ZwL w b l hl hl2 hd
 exact Zyr (vs:=[.int .i64 w,.lnt b,ZbI l]) (by kernel_rfl) (by kernel_rfl) (by kernel_rfl) rfl rfl (fun _=>rfl) h (by cases f'<;>rfl) rfl
theorem ZKz(G:Za)(sq own:Nat)(w:Int)(b:Zd)(l:List ZP)(hl:b.length<=140737488355328)(hl2:l.length<=9223372036854775807)(hd:∀ p∈l,p.data.length<=140737488355328) :
  Zq E BY (.row 0 5 (l.map Zv)::G) sq 116 own true [.int .i64 w,.lnt b,.sl 0 0 0 (l.map Zv).length]=some (ZdZ false (Zch w b l),.row 0 5 (l.map Zv)::G,{ rd:=[0] }):=by
 obtain⟨f',h⟩:=ZwL w b l hl hl2 hd
 refine ZNH (vs:=[.int .i64 w,.lnt b,ZbI l]) (by kernel_rfl) (by kernel_rfl) (by kernel_rfl) ?_ rfl (fun _=>rfl) h (r':=ZdZ false (Zch w b l)) (by cases f'<;>rfl) ?_
 ·simp[showAs,showA,Zct,ZZ,ZbI]
  exact XG (by simp)
 ·have h1:=Zwy l
  have h2:=Zwz (Zch w b l).1.data
  unfold Zde
  simp only[WC,Bool.not_false,ZdZ,Ziy,ZhO,Ziq,XW,XX,ZaK,h2,Zem,XK,h1,XT]
theorem ZpF(w:Int)(n:Nat)(l:List ZP):ZdS w n [] l=(l,0):=by cases n<;>rfl
theorem ZoN(w:Int)(n:Nat)(c:UInt8)(r:Zd)(l:List ZP):ZdS w (n+1) (c::r) l=if(Zch w (c::r) l).2.2=0 then ZdS w n ((c::r).drop (Zch w (c::r) l).2.1) (l++[(Zch w (c::r) l).1])else([],(Zch w (c::r) l).2.2):=rfl
theorem ZHV(w:Int)(N U:Nat)(hU:U+N<=140737488355328)(l:List ZP) :
  Zjb 0 [(10,.lnt []),(8,.int .i64 (U:Nat)),(7,.int .i64 (N:Nat)),(4,ZeT (l.map Zv)),(0,.int .i64 w)] (ZeB 5 (l.map Zv))=some (Zdd (U+N) (l,0)):=by
 have hw:IntKind.i64.wrap ((U:Int)+(N:Int))=((U+N:Nat):Int):=by rw[ZaD (by omega) (by omega)];rfl
 have h1:¬(((0:Nat):Int)>0):=by simp
 unfold Zdd Zjb
 rw[Z9]
 cases l with
 |nil =>
  simp -implicitDefEqProofs only[EQA,Zc,Xc,Xa,reduceCtorEq,↓reduceIte,Ze,Zjk,Zw1,ZlX,Zi8,Zht,Zb,Zc4,Zc1,hw,h1]
  try (simp[ZR,gcA,Zw,Zt,Zl,ZG,Zm,Zo,ZI,Zn,ZD,Zj,Zp,Zz,ZB,Xv])
 |cons p l =>
  generalize hX:(p::l).map Zv=X
  have hpos:0<X.length:=by rw[<-hX];simp
  simp only[ZcM hpos,ZcQ hpos]
  simp -implicitDefEqProofs only[EQA,Zc,Xc,Xa,reduceCtorEq,↓reduceIte,Zjk,Zw1,ZlX,Zi8,Zht,Zb,hw,h1]
  simp[ZR,gcA,Zw,Zt,Zl,ZG,Zm,Zo,ZI,Zn,ZD,Zj,Zp,Zz,ZB]
theorem Zxe(w:Int)(N U:Nat)(hU:U+N<=140737488355328)(hN9:N<=1000000000):∀ (n:Nat) (b:Zd) (l:List ZP),b.length<=n->l.length+b.length<=N->(∀ p∈l,p.data.length<=140737488355328) ->
  Zjb 0 [(10,.lnt b),(8,.int .i64 (U:Nat)),(7,.int .i64 (N:Nat)),(4,ZeT (l.map Zv)),(0,.int .i64 w)] (ZeB 5 (l.map Zv))=some (Zdd (U+N) (ZdS w n b l))
 |n,[],l,hb,hN,hd=>by
  rw[ZpF]
  exact ZHV w N U hU l
 |0,c::r,l,hb,hN,hd=>by simp at hb
 |n+1,c::r,l,hb,hN,hd=>by
  rw[ZoN]
  generalize hB:c::r=b at *
  have hlen:0<b.length:=by rw[<-hB];simp
  have hpos:((b.length:Nat):Int)>0:=by omega
  have hC:=fun G sq own g=>ZBV G sq own g w b l (by omega) (by omega) hd
  have hS:=fun G sq own=>ZKz G sq own w b l (by omega) (by omega) hd
  have hu:=Zqo (w:=w) (b:=b) (l:=l)
  unfold ZdZ at hC hS
  rcases hx:Zch w b l with⟨p,m,e⟩
  rw[hx]at hC hS hu
  simp only at hC hS hu ⊢
  by_cases he:e=0
  ·subst he
   obtain⟨u1,u2,u3⟩:=hu rfl
   have n0:((0:Int) != 0)=false:=rfl
   rw[if_pos rfl]
   have ih:=Zxe w N U hU hN9 n (b.drop m) (l++[p]) (by simp;omega) (by simp;omega) (by
    grind)
   have hs:=fun G kk=>Zfw G b kk ((m:Nat):Int) (by omega) (by omega)
   have e2:(((m:Nat):Int)).toNat=m:=rfl
   rw[e2]at hs
   generalize ZdS w n (b.drop m) (l++[p])=R at *
   unfold Zjb at ih ⊢
   rw[Z9]
   cases l with
   |nil =>
    simp only[XC]at hC
    simp only[Xp,Xu,XC,Zk8,Zk4,Zc4,Zc1,Xz,Xw,XF,Zv,Zcy,Z4]at ih ⊢
    simp -implicitDefEqProofs only[EQA,Zs,Zc,ZT,ZbH,Xd,Xc,Xf,Xa,Xg,reduceCtorEq,ZZ,↓reduceIte,gcT,gcA,Zw,Zt,Zm,Zo,ZI,Zn,ZD,Zz,ZB,Zi8,Zht,Zb,hpos,hC,n0,hs,Zan,kOk,viewAs,Z3,ZN,Zag,Zu,Nat.one_mul,AVal.cells]
    exact ih
   |cons a l =>
    have hXl:((a::l).map Zv).length=l.length+1:=by simp
    rw[List.map_append]at ih
    generalize hX:(a::l).map Zv=X at *
    have hXp:0<X.length:=by omega
    have hXq:0<(X++[p].map Zv).length:=by rw[XM];omega
    simp only[ZcM hXp,ZcQ hXp,ZcM hXq,ZcQ hXq]at ih ⊢
    have hk:kOk 5 X=true:=by rw[<-hX];rfl
    have hb9:(X.length+1)*72<=140737488355328:=by simp at hN;omega
    try simp only[Xu,XC,Zv,Zcy,Z4,XM,Xz,Xw,XF]at ih
    simp -implicitDefEqProofs only[EQA,Zs,Zc,ZT,ZbH,Xd,Xc,Xf,Xa,Xg,reduceCtorEq,ZZ,↓reduceIte,gcT,gcA,Zw,Zt,Zm,Zo,ZI,Zn,ZD,Zz,ZB,Zi8,Zht,Zb,hpos,hS,n0,hs,hb9,Zan,kOk,viewAs,Z3,ZN,Zag,Zu,AVal.cells]
    exact ih
  ·have n1:(e != 0)=true:=by simpa using he
   rw[if_neg he]
   unfold Zdd Zjb
   simp only
   rw[if_neg he,Z9]
   cases l with
   |nil =>
    simp only[XC,Zc4,Zc1]at hC ⊢
    simp -implicitDefEqProofs only[EQA,Zs,Zc,Xd,Xc,Xf,Xa,Xg,reduceCtorEq,↓reduceIte,Ze,Zjk,Zi8,Zht,Zb,hpos,hC,n1,AVal.cells]
    try (simp[ZR,gcA,Zw,Zt,Zl,ZG,Zm,Zo,ZI,Zn,ZD,Zj,Zp,Zz,ZB,Xv])
   |cons a l =>
    generalize hX:(a::l).map Zv=X at *
    have hXp:0<X.length:=by rw[<-hX];simp
    simp only[ZcM hXp,ZcQ hXp]
    simp -implicitDefEqProofs only[EQA,Zs,Zc,Xd,Xc,Xf,Xa,Xg,reduceCtorEq,↓reduceIte,Ze,Zjk,Zi8,Zht,Zb,hpos,hS,n1,AVal.cells]
    try (simp[ZR,gcA,Zw,Zt,Zl,ZG,Zm,Zo,ZI,Zn,ZD,Zj,Zp,Zz,ZB,Xv])
theorem ZvV:∀ (b:Zd) (i n:Nat),i<=4->n<128^i->(gvA i n b).1<268435456
 | [],i,n,hi,hn=>by unfold gvA;split<;>simp
 |c::r,i,n,hi,hn=>by
  have ha:c.toNat%128<128:=Xbe _ (by decide)
  unfold gvA
  split
  ·simp
  ·rename_i h4
   have hb:=ZoY n i _ hn ha
   have hp:128^(i+1)<=128^4:=W9 (by decide) (by omega)
   split
   ·grind
   ·exact ZvV r (i+1) _ (by omega) hb
theorem ZqW(b:Zd):(Zar b).1<268435456:=ZvV b 0 0 (by omega) (by simp)
def Zmm(x:List ZP×Nat×Int):AVal×Za:=(.tup [ZeT (x.1.map Zv),.int .i64 (x.2.1:Nat),.int .i64 x.2.2],ZeB 5 (x.1.map Zv))
theorem ZL5(w:Int)(b:Zd)(hl:b.length<=140737488355328):E 96 [.int .i64 w,.lnt b] []=some (Zmm (Zab w b)):=by
 have hGV:=fun G sq own=>ZpZ G sq own b (by omega)
 have hu:=ZkE b
 have hlt:=ZqW b
 have hle:=Ztf b
 unfold Zab Zmm
 rcases hx:Zar b with⟨n,u,e⟩
 rw[hx]at hGV hu hlt hle
 unfold gvT at hGV
 simp only at hGV hu hlt hle ⊢
 have hw:IntKind.i64.wrap ((b.length:Int)-(u:Int))=(b.length:Int)-(u:Int):=ZaD (by omega) (by omega)
 by_cases he:e=0
 ·subst he
  have n0:((0:Int) != 0)=false:=rfl
  by_cases hn:(n:Int)>(b.length:Int)-(u:Int)
  ·rw[if_pos (Xt hn),Zg (by rfl) Zsw]
   simp -implicitDefEqProofs only[EQA,Zc,Xc,Xa,Zy,unG,reduceCtorEq,↓reduceIte,Ze,ZsO,ZkQ,Zjk,Zb,hGV,n0,hw,hn]
   simp[]
   exact⟨rfl,rfl⟩
  ·have hc:¬((0:Int)≠0\/(n:Int)>(b.length:Int)-(u:Int)):=by simpa using hn
   rw[if_neg hc,Zg (by rfl) Zsw]
   have hw2:IntKind.i64.wrap ((u:Int)+(n:Int))=((u+n:Nat):Int):=by rw[ZaD (by omega) (by omega)];rfl
   have hs:=fun G k1 k2=>ZBh G b k1 k2 ((u:Nat):Int) ((u+n:Nat):Int) (by omega) (by omega) (by omega)
   have e1:(((u:Nat):Int)).toNat=u:=rfl
   have e2:(((u+n:Nat):Int)).toNat=u+n:=rfl
   rw[e1,e2]at hs
   have key:=Zxe w n u (by omega) (by omega) n ((b.take (u+n)).drop u) [] (by simp;omega) (by simp;omega) (by simp)
   generalize (b.take (u+n)).drop u=B at *
   unfold Zjb at key
   simp only[XC,Zc4,Zc1]at key
   simp -implicitDefEqProofs only[EQA,Zc,ZT,Xc,Xa,Zy,unG,reduceCtorEq,↓reduceIte,gcT,gcA,Zw,Zt,Zo,ZB,ZsO,ZkQ,Zb,hGV,n0,hw,hn,hw2,hs]
   rw[key]
   unfold Zdd
   split<;>rfl
 ·have n1:(e != 0)=true:=by simpa using he
  rw[if_pos (Xq he),Zg (by rfl) Zsw]
  simp -implicitDefEqProofs only[EQA,Zc,Xc,Xa,Zy,Z6,reduceCtorEq,↓reduceIte,Ze,ZsO,ZkQ,Zjk,Zb,hGV,n1]
  simp[]
  exact⟨rfl,rfl⟩
theorem ZNF{G:Za}{x:AVal}(h:ZaK x=true):Z3 G x=some (x,[])/\ZG x=[]/\∀ C,Zp C x=x:=by
 cases x<;>simp[ZaK]at h<;>simp[Z3,ZN,ZG,Zp]
theorem ZjT{G:Za}:∀ {vs:List AVal},vs.all ZaK=true->viewAs G vs=some (vs,[])/\Zl vs=[]/\∀ C,Zj C vs=vs
 | [],_=>⟨rfl,rfl,fun _=>rfl⟩
 |x::xs,h=>by
  simp only[XW,Xk]at h
  obtain⟨a1,a2,a3⟩:=ZNF (G:=G) h.1
  obtain⟨b1,b2,b3⟩:=ZjT (G:=G) h.2
  refine⟨by simp only[viewAs,a1,b1,Xr],by simp only[Zl,a2,b2,Xr],fun C=>by simp only[Zj,a3,b3]⟩
theorem ZAo{k:Nat}{full vs:List AVal}(hv:vs.all ZaK=true):ZV true 0 (some (.tup (ZeT full::vs),ZeB k full))=some (.tup (.lst false full::vs),[]):=by
 unfold ZV
 rw[if_pos rfl]
 cases full with
 |nil =>
  obtain⟨b1,b2,b3⟩:=ZjT (G:=[]) hv
  simp[Zc4,Zc1,ZbP,viewR,viewAs,Z3,ZN,b1,Zu,gcA,Zw,Zt,Zl,ZG,b2,Zj,Zp,b3,Zo]
 |cons x xs =>
  obtain⟨b1,b2,b3⟩:=ZjT (G:=[ZO.row 0 k (x::xs)]) hv
  simp only[Zk8,Zk4]
  generalize x::xs=X at *
  simp[ZbP,viewR,viewAs,Z3,ZN,ZZ,b1,Zu,gcA,Zw,Zt,Zl,ZG,b2,Zj,Zp,b3,Zo]
theorem ZFH{O:ZS}{bf:Nat->Bool}{f k:Nat}{args args':List AVal}{full vs:List AVal}(h:O f args' []=some (.tup (ZeT full::vs),ZeB k full))(hv:vs.all ZaK=true)(hb:bf f=false)(hp:args.all Zai=true)(hn:args.map Z1=args')(G:Za)(sq own:Nat):Zq O bf G sq f own true args=some (.tup (.lst false full::vs),G,{}):=by
 have hr:∀ sq,Zp (Zak [] [] sq) (.tup (.lst false full::vs))=.tup (.lst false full::vs):=fun sq=>by
  simp only[Zp,Zj,(ZjT (G:=[]) hv).2.2]
 rw[ZhH hb hp,hn,h,ZAo hv,Zfz _ _ _ _ (hr sq)]
theorem ZRA{O:ZS}{bf:Nat->Bool}{f k:Nat}{args:List AVal}{full vs:List AVal}(h:O f args []=some (.tup (ZeT full::vs),ZeB k full))(hv:vs.all ZaK=true)(hb:bf f=true)(hno:args.any Zin=false)(h3:bf (f+3000000)=false)(hr:Zl args=[])(hn:∀ C:Rho,Zj C args=args)(G:Za)(sq own:Nat):Zq O bf G sq f own true args=some (.tup (.lst false full::vs),G,{}) :=
 ZuI hb hno h3 hr hn h (ZAo hv) (by simp only[Zp,Zj,(ZjT (G:=[]) hv).2.2])
theorem Zu2(G:Za)(sq own:Nat)(w:Int)(b:Zd)(hl:b.length<=140737488355328):Zq E BY G sq 96 own true [.int .i64 w,.lnt b]=some (.tup [.lst false ((Zab w b).1.map Zv),.int .i64 ((Zab w b).2.1:Nat),.int .i64 (Zab w b).2.2],G,{}) :=
 ZRA (k:=5) (ZL5 w b hl) rfl (by kernel_rfl) rfl (by kernel_rfl) rfl (fun _=>rfl) _ _ _
end
section
end
section
structure ZVr where
 b:Zd
 short:Bool
def ZeJ(b:Zd):Int:=IntKind.i64.wrap (Zce b:Int)
end
section
def ZaZ:Zf:=by apply Zb 26 [] [];conv=>lhs;reduce;dsimp only[zi]
def ZtT:ZM:=⟨[],ZaZ⟩
theorem Za4:FC 26=some ZtT:=by kernel_rfl
theorem Za6:ZtT.body=ZaZ:=rfl
theorem Zeu:ZtT.res=[]:=rfl
def Zel:Zf:=by apply Zb 62 [] [];conv=>lhs;reduce;dsimp only[zi]
def ZPc:ZM:=⟨[],Zel⟩
theorem ZnL:FC 62=some ZPc:=by kernel_rfl
def Zed:Zf:=by apply Zb 64 [] [];conv=>lhs;reduce;dsimp only[zi]
def ZDB:ZM:=⟨[],Zed⟩
theorem Znu:FC 64=some ZDB:=by kernel_rfl
def ZfJ:Zf:=by apply Zb 55 [] [];conv=>lhs;reduce;dsimp only[zi]
def Zsf:ZM:=⟨[(.tmp 2)],ZfJ⟩
theorem Zhk:FC 55=some Zsf:=by kernel_rfl
theorem ZhI:Zsf.body=ZfJ:=rfl
theorem ZAI:Zsf.res=[(.tmp 2)]:=rfl
def Zs0:Zf:=by apply Zb 53 [] [];conv=>lhs;reduce;simp only[zi,zb]
def Zt9:ZM:=⟨[],Zs0⟩
theorem ZyI:FC 53=some Zt9:=by kernel_rfl
def ZiX:Zf:=by apply Zb 94 [] [];conv=>lhs;reduce;dsimp only[zi]
def Zuv:ZM:=⟨[(.tmp 2)],ZiX⟩
theorem Zme:FC 94=some Zuv:=by kernel_rfl
theorem ZmP:Zuv.body=ZiX:=rfl
theorem ZyH:Zuv.res=[(.tmp 2)]:=rfl
def Zgz:Zf:=by apply Zb 25 [] [];conv=>lhs;reduce;dsimp only[zi]
def ZqJ:ZM:=⟨[],Zgz⟩
theorem ZhV:FC 25=some ZqJ:=by kernel_rfl
theorem ZhT:ZqJ.body=Zgz:=rfl
theorem Zq5:ZqJ.res=[]:=rfl
def ZlA:Zf:=by apply Zb 58 [] [];conv=>lhs;reduce;dsimp only[zi]
def Zq4:ZM:=⟨[],ZlA⟩
theorem Zr4:FC 58=some Zq4:=by kernel_rfl
theorem ZsY:Zq4.body=ZlA:=rfl
theorem ZSq:Zq4.res=[]:=rfl
def Zd2:Zf:=by apply Zb 60 [1,1,1,0,0] [];conv=>lhs;reduce;dsimp only[zi]
@[irreducible] def ZsP:Zf:=Zd2
def ZeP:=xw ZsP Zd2 (by kernel_rfl)
def ZfA:Zf:=by apply Zb 60 [] [([1,1,1,0,0],ZsP)];conv=>lhs;reduce;dsimp only[zi]
def Zmx:ZM:=⟨[],ZfA⟩
theorem Zhh:FC 60=some Zmx:=by kernel_rfl
theorem Zg4:Zmx.body=ZfA:=rfl
theorem ZlL:Zmx.res=[]:=rfl
noncomputable def Zbf(m:Nat)(tm:Tms)(G:Za):Option (AVal×Za):=(Zaw m Zmx (Wf (Zbp 0) (evL FC PR BY m [1,0] ZsP tm G)))
def Zi9:Zf:=by apply Zb 54 [] [];conv=>lhs;reduce;dsimp only[zi]
def Ztm:ZM:=⟨[(.tmp 4)],Zi9⟩
theorem ZlP:FC 54=some Ztm:=by kernel_rfl
theorem ZmF:Ztm.body=Zi9:=rfl
theorem ZAH:Ztm.res=[(.tmp 4)]:=rfl
def Zoa:Zf:=by apply Zb 56 [] [];conv=>lhs;reduce;dsimp only[zi]
def Zuk:ZM:=⟨[(.tmp 4)],Zoa⟩
theorem Zvb:FC 56=some Zuk:=by kernel_rfl
theorem ZxV:Zuk.body=Zoa:=rfl
theorem ZF0:Zuk.res=[(.tmp 4)]:=rfl
def Zhn:Zf:=by apply Zb 57 [] [];conv=>lhs;reduce;dsimp only[zi]
def Zpd:ZM:=⟨[],Zhn⟩
theorem ZiS:FC 57=some Zpd:=by kernel_rfl
theorem Zje:Zpd.body=Zhn:=rfl
theorem Zyk:Zpd.res=[]:=rfl
def Zif:Zf:=by apply Zb 59 [] [];conv=>lhs;reduce;dsimp only[zi]
def ZrO:ZM:=⟨[],Zif⟩
theorem Zkl:FC 59=some ZrO:=by kernel_rfl
theorem Zlq:ZrO.body=Zif:=rfl
theorem Zs5:ZrO.res=[]:=rfl
def ZdU:Zf:=by apply Zb 61 [] [];conv=>lhs;reduce;dsimp only[zi]
def Zqd:ZM:=⟨[],ZdU⟩
theorem Ze6:FC 61=some Zqd:=by kernel_rfl
theorem Zez:Zqd.body=ZdU:=rfl
theorem Zxh:Zqd.res=[]:=rfl
def ZjH:Zf:=by apply Zb 63 [] [];conv=>lhs;reduce;dsimp only[zi]
def Zt2:ZM:=⟨[(.tmp 2)],ZjH⟩
theorem ZmM:FC 63=some Zt2:=by kernel_rfl
theorem Zof:Zt2.body=ZjH:=rfl
theorem Zwc:Zt2.res=[(.tmp 2)]:=rfl
def ZcN:Zf:=by apply Zb 27 [] [];conv=>lhs;reduce;dsimp only[zi]
def ZrU:ZM:=⟨[],ZcN⟩
theorem Zdk:FC 27=some ZrU:=by kernel_rfl
theorem Zdg:ZrU.body=ZcN:=rfl
theorem Zdo:ZrU.res=[]:=rfl
def Zi5:Zf:=by apply Zb 73 [1,0,0] [];conv=>lhs;reduce;dsimp only[zi]
@[irreducible] def ZfO:Zf:=Zi5
def ZlK:=xw ZfO Zi5 (by kernel_rfl)
def Zkn:Zf:=by apply Zb 73 [] [([1,0,0],ZfO)];conv=>lhs;reduce;dsimp only[zi]
def Zq2:ZM:=⟨[],Zkn⟩
theorem ZVn:FC 73=some Zq2:=by kernel_rfl
theorem Zrw:Zq2.body=Zkn:=rfl
theorem ZqS:Zq2.res=[]:=rfl
def ZqH:Zf:=by apply Zb 65 [] [];conv=>lhs;reduce;simp only[zi,zb]
def ZyO:ZM:=⟨[],ZqH⟩
theorem ZEg:FC 65=some ZyO:=by kernel_rfl
def ZkA:Zf:=by apply Zb 100 [] [];conv=>lhs;reduce;dsimp only[zi]
def ZpH:ZM:=⟨[(.tmp 2)],ZkA⟩
theorem ZoR:FC 100=some ZpH:=by kernel_rfl
theorem Zsk:ZpH.body=ZkA:=rfl
theorem ZsH:ZpH.res=[(.tmp 2)]:=rfl
def Zkp:Zf:=by apply Zb 28 [] [];conv=>lhs;reduce;dsimp only[zi]
def Zq0:ZM:=⟨[],Zkp⟩
theorem ZrS:FC 28=some Zq0:=by kernel_rfl
theorem Zr6:Zq0.body=Zkp:=rfl
theorem Zsb:Zq0.res=[]:=rfl
def ZeL:Zf:=by apply Zb 72 [1,0,0] [];conv=>lhs;reduce;dsimp only[zi]
@[irreducible] def Zds:Zf:=ZeL
def ZfM:=xw Zds ZeL (by kernel_rfl)
def Zg5:Zf:=by apply Zb 72 [] [([1,0,0],Zds)];conv=>lhs;reduce;dsimp only[zi]
def ZrH:ZM:=⟨[],Zg5⟩
theorem Zyo:FC 72=some ZrH:=by kernel_rfl
theorem ZjE:ZrH.body=Zg5:=rfl
theorem Zjf:ZrH.res=[]:=rfl
def Zoq:Zf:=by apply Zb 70 [] [];conv=>lhs;reduce;dsimp only[zi]
def Zpl:ZM:=⟨[(.tmp 2)],Zoq⟩
theorem ZuT:FC 70=some Zpl:=by kernel_rfl
theorem Zyh:Zpl.body=Zoq:=rfl
theorem Zy7:Zpl.res=[(.tmp 2)]:=rfl
def ZtU:Zf:=by apply Zb 66 [] [];conv=>lhs;reduce;dsimp only[zi]
def ZpS:ZM:=⟨[(.tmp 2)],ZtU⟩
theorem ZK8:FC 66=some ZpS:=by kernel_rfl
theorem ZPi:ZpS.body=ZtU:=rfl
theorem ZG9:ZpS.res=[(.tmp 2)]:=rfl
def Zlg:Zf:=by apply Zb 68 [] [];conv=>lhs;reduce;dsimp only[zi]
def Zux:ZM:=⟨[(.tmp 4)],Zlg⟩
theorem ZsS:FC 68=some Zux:=by kernel_rfl
theorem Zpx:Zux.body=Zlg:=rfl
theorem ZoO:Zux.res=[(.tmp 4)]:=rfl
def Zoe:Zf:=by apply Zb 67 [] [];conv=>lhs;reduce;dsimp only[zi]
def ZrJ:ZM:=⟨[(.tmp 4)],Zoe⟩
theorem Zwi:FC 67=some ZrJ:=by kernel_rfl
theorem Zz2:ZrJ.body=Zoe:=rfl
theorem Zw2:ZrJ.res=[(.tmp 4)]:=rfl
def ZtO:Zf:=by apply Zb 71 [] [];conv=>lhs;reduce;dsimp only[zi]
def Zyc:ZM:=⟨[],ZtO⟩
theorem ZBe:FC 71=some Zyc:=by kernel_rfl
def ZiN:Zf:=by apply Zb 101 [] [];conv=>lhs;reduce;dsimp only[zi]
def Zpo:ZM:=⟨[(.tmp 4)],ZiN⟩
theorem ZvS:FC 101=some Zpo:=by kernel_rfl
theorem Znm:Zpo.body=ZiN:=rfl
theorem Zn4:Zpo.res=[(.tmp 4)]:=rfl
def ZkG:Zf:=by apply Zb 69 [] [];conv=>lhs;reduce;dsimp only[zi]
def Zpy:ZM:=⟨[(.tmp 2)],ZkG⟩
theorem ZpM:FC 69=some Zpy:=by kernel_rfl
theorem ZtZ:Zpy.body=ZkG:=rfl
theorem Zul:Zpy.res=[(.tmp 2)]:=rfl
def Zr8:Zf:=by apply Zb 99 [] [];conv=>lhs;reduce;dsimp only[zi]
def Zpv:ZM:=⟨[(.tmp 2)],Zr8⟩
theorem ZHL:FC 99=some Zpv:=by kernel_rfl
theorem ZON:Zpv.body=Zr8:=rfl
theorem ZQM:Zpv.res=[(.tmp 2)]:=rfl
def Zrz:Zf:=by apply Zb 22 [] [];conv=>lhs;reduce;dsimp only[zi]
def Zqs:ZM:=⟨[(.tmp 4)],Zrz⟩
theorem ZM1:FC 22=some Zqs:=by kernel_rfl
theorem ZO7:Zqs.body=Zrz:=rfl
theorem ZJL:Zqs.res=[(.tmp 4)]:=rfl
def Zn0:Zf:=by apply Zb 50 [] [];conv=>lhs;reduce;dsimp only[zi]
def ZtN:ZM:=⟨[(.tmp 3)],Zn0⟩
theorem ZKV:FC 50=some ZtN:=by kernel_rfl
theorem ZwI:ZtN.body=Zn0:=rfl
theorem Zxp:ZtN.res=[(.tmp 3)]:=rfl
def ZeF:Zf:=by apply Zb 49 [] [];conv=>lhs;reduce;dsimp only[zi]
def Zs6:ZM:=⟨[(.tmp 2)],ZeF⟩
theorem ZfX:FC 49=some Zs6:=by kernel_rfl
theorem ZfH:Zs6.body=ZeF:=rfl
theorem Zf2:Zs6.res=[(.tmp 2)]:=rfl
def ZiQ:Zf:=by apply Zb 39 [] [];conv=>lhs;reduce;dsimp only[zi]
def ZrX:ZM:=⟨[(.tmp 2)],ZiQ⟩
theorem Zos:FC 39=some ZrX:=by kernel_rfl
theorem Zoj:ZrX.body=ZiQ:=rfl
theorem Znv:ZrX.res=[(.tmp 2)]:=rfl
def Zob:Zf:=by apply Zb 52 [] [];conv=>lhs;reduce;dsimp only[zi]
def ZqM:ZM:=⟨[],Zob⟩
theorem Zxf:FC 52=some ZqM:=by kernel_rfl
theorem ZyS:ZqM.body=Zob:=rfl
theorem ZBo:ZqM.res=[]:=rfl
def Ze4:Zf:=by apply Zb 23 [] [];conv=>lhs;reduce;dsimp only[zi]
def ZsN:ZM:=⟨[(.tmp 4)],Ze4⟩
theorem ZfV:FC 23=some ZsN:=by kernel_rfl
theorem ZfI:ZsN.body=Ze4:=rfl
theorem ZfN:ZsN.res=[(.tmp 4)]:=rfl
def ZiY:Zf:=by apply Zb 8 [] [];conv=>lhs;reduce;dsimp only[zi]
def ZtB:ZM:=⟨[(.cell 2 (some 26)),(.tmp 3)],ZiY⟩
theorem Zxo:FC 8=some ZtB:=by kernel_rfl
def Zrt:Zf:=(.seq (.region [oF 218 16 2,oI 219 (.ld (some 5) (.t 218)),oF 220 16 3,oI 221 (.ld (some 5) (.t 220)),oI 8 (.alloc [(.str []),(.lst true []),(.int .i64 0),(.bool false),(.lst true [])]),oI 9 (.alloc [(.str []),(.lst true []),(.int .i64 0),(.bool false),(.lst true [])]),oN (.st 5 (.t 8) (.t 219)),oN (.st 5 (.t 9) (.t 221))] (some [(1,3),(1,4),(3,4),(1,5),(3,5),(4,5),(3,6)]) [9,8]) (.seq (.region [oF 222 0 8,oL 223 222,oF 224 0 9,oL 225 224,oI 226 (.bin .eql (.t 223) (.t 225)),oM 227 226,⟨(some 228),(.faddr 1 (.t 8)),(some (227,true)),[]⟩,⟨(some 229),(.ld none (.t 228)),(some (227,true)),[]⟩,⟨(some 230),(.b2s (.t 229)),(some (227,true)),[]⟩,⟨(some 231),(.faddr 1 (.t 9)),(some (227,true)),[]⟩,⟨(some 232),(.ld none (.t 231)),(some (227,true)),[]⟩,⟨(some 233),(.b2s (.t 232)),(some (227,true)),[]⟩,⟨(some 234),(.bin .eql (.t 230) (.t 233)),(some (227,true)),[]⟩,oI 235 (.pick (.t 227) (.t 234) (.c (.bool false))),oM 236 235,⟨(some 237),(.faddr 2 (.t 8)),(some (236,true)),[]⟩,⟨(some 238),(.ld none (.t 237)),(some (236,true)),[]⟩,⟨(some 239),(.faddr 2 (.t 9)),(some (236,true)),[]⟩,⟨(some 240),(.ld none (.t 239)),(some (236,true)),[]⟩,⟨(some 241),(.bin .eql (.t 238) (.t 240)),(some (236,true)),[]⟩,oI 242 (.pick (.t 236) (.t 241) (.c (.bool false))),oM 243 242,⟨(some 244),(.faddr 3 (.t 8)),(some (243,true)),[]⟩,⟨(some 245),(.ld none (.t 244)),(some (243,true)),[]⟩,⟨(some 246),(.faddr 3 (.t 9)),(some (243,true)),[]⟩,⟨(some 247),(.ld none (.t 246)),(some (243,true)),[]⟩,⟨(some 248),(.beq false (.t 245) (.t 247)),(some (243,true)),[]⟩,oI 249 (.pick (.t 243) (.t 248) (.c (.bool false))),oM 250 249,⟨(some 251),(.faddr 4 (.t 8)),(some (250,true)),[]⟩,⟨(some 252),(.ld none (.t 251)),(some (250,true)),[]⟩,⟨(some 253),(.faddr 4 (.t 9)),(some (250,true)),[]⟩,⟨(some 254),(.ld none (.t 253)),(some (250,true)),[]⟩,⟨(some 255),(.call 29 0 true [(.t 252),(.t 254)]),(some (250,true)),[]⟩,oI 256 (.pick (.t 250) (.t 255) (.c (.bool false))),oM 4 256] none [4]) .ret))
def ZlZ:Zf:=Zrt
def ZP4:=xw ZlZ Zrt rfl
def ZkH:Zf:=(.seq (.seq (.region [oM 200 7,oF 201 11 2,oL 202 201,oI 203 (.len (.t 202)),oI 204 (.bin .lss (.t 200) (.t 203))] none [204,7,3,2]) (.cond (.t 204) .skip (.exit 4))) (.seq (.block 5 (.seq (.region [oF 207 11 2,oL 208 207,oM 209 7,oI 210 (.iaddr 1 (.t 208) (.t 209)),oL 211 210,oF 212 11 3,oL 213 212,oM 214 7,oI 215 (.iaddr 1 (.t 213) (.t 214)),oL 216 215,oI 217 (.bin .neq (.t 211) (.t 216))] (some [(1,6),(3,6),(4,6),(1,8),(3,8),(4,8),(1,9),(3,9),(4,9)]) [217,7,3,2]) (.cond (.t 217) (.seq (.region [oI 4 (.mov (.c (.bool false)))] none [4]) .ret) .skip))) (.region [oM 205 7,oI 206 (.bin .add (.t 205) (.c (.int .i64 1))),oM 7 206] none [7,3,2])))
def Zj5:Zf:=ZkH
def Zpw:=xw Zj5 ZkH rfl
def ZAS:Zf:=(.seq (.seq (.region [oI 7 (.mov (.c (.int .i64 0)))] none [7,3,2]) (.block 4 (.loop [7,3,2] Zj5))) ZlZ)
def Zpn:Zf:=ZAS
def Zkw:Zf:=(.seq (.seq (.region [oM 182 6,oF 183 10 2,oL 184 183,oI 185 (.len (.t 184)),oI 186 (.bin .lss (.t 182) (.t 185))] none [186,6,3,2]) (.cond (.t 186) .skip (.exit 2))) (.seq (.block 3 (.seq (.region [oF 189 10 2,oL 190 189,oM 191 6,oI 192 (.iaddr 6 (.t 190) (.t 191)),oI 193 (.ld (some 6) (.t 192)),oF 194 10 3,oL 195 194,oM 196 6,oI 197 (.iaddr 6 (.t 195) (.t 196)),oI 198 (.ld (some 6) (.t 197)),oI 199 (.eqv true [2,0,1,1,0,0] (.t 193) (.t 198))] (some [(1,6),(3,6),(4,6),(1,8),(3,8),(4,8),(1,9),(3,9),(4,9)]) [199,6,3,2]) (.cond (.t 199) (.seq (.region [oI 4 (.mov (.c (.bool false)))] none [4]) .ret) .skip))) (.region [oM 187 6,oI 188 (.bin .add (.t 187) (.c (.int .i64 1))),oM 6 188] none [6,3,2])))
def Zk6:Zf:=Zkw
def ZqX:=xw Zk6 Zkw rfl
def ZIu:Zf:=(.seq (.seq (.region [oI 6 (.mov (.c (.int .i64 0)))] none [6,3,2]) (.block 2 (.loop [6,3,2] Zk6))) Zpn)
def ZpO:Zf:=ZIu
def Zj8:Zf:=(.seq (.seq (.region [oM 164 5,oF 165 8 2,oL 166 165,oI 167 (.len (.t 166)),oI 168 (.bin .lss (.t 164) (.t 167))] none [168,5,3,2]) (.cond (.t 168) .skip (.exit 0))) (.seq (.block 1 (.seq (.region [oF 171 8 2,oL 172 171,oM 173 5,oI 174 (.iaddr 1 (.t 172) (.t 173)),oL 175 174,oF 176 8 3,oL 177 176,oM 178 5,oI 179 (.iaddr 1 (.t 177) (.t 178)),oL 180 179,oI 181 (.bin .neq (.t 175) (.t 180))] (some [(1,6),(3,6),(4,6),(1,8),(3,8),(4,8),(1,9),(3,9),(4,9)]) [181,5,3,2]) (.cond (.t 181) (.seq (.region [oI 4 (.mov (.c (.bool false)))] none [4]) .ret) .skip))) (.region [oM 169 5,oI 170 (.bin .add (.t 169) (.c (.int .i64 1))),oM 5 170] none [5,3,2])))
def Zl6:Zf:=Zj8
def Zt0:=xw Zl6 Zj8 rfl
def ZpT:Zf:=(.seq (.region [oI 2 (.box (.t 0)),oI 3 (.box (.t 1)),oI 4 (.mov (.c (.bool false)))] none [3,2]) (.seq (.seq (.region [oF 10 0 2,oL 11 10,oF 12 0 3,oL 13 12,oI 14 (.bin .neq (.t 11) (.t 13)),oM 15 14,⟨(some 16),(.faddr 1 (.t 2)),(some (15,false)),[]⟩,⟨(some 17),(.ld none (.t 16)),(some (15,false)),[]⟩,⟨(some 18),(.faddr 1 (.t 3)),(some (15,false)),[]⟩,⟨(some 19),(.ld none (.t 18)),(some (15,false)),[]⟩,⟨(some 20),(.beq true (.t 17) (.t 19)),(some (15,false)),[]⟩,oI 21 (.pick (.t 15) (.c (.bool true)) (.t 20)),oM 22 21,⟨(some 23),(.faddr 2 (.t 2)),(some (22,false)),[]⟩,⟨(some 24),(.ld none (.t 23)),(some (22,false)),[]⟩,⟨(some 25),(.faddr 2 (.t 3)),(some (22,false)),[]⟩,⟨(some 26),(.ld none (.t 25)),(some (22,false)),[]⟩,⟨(some 27),(.bin .neq (.t 24) (.t 26)),(some (22,false)),[]⟩,oI 28 (.pick (.t 22) (.c (.bool true)) (.t 27)),oM 29 28,⟨(some 30),(.faddr 3 (.t 2)),(some (29,false)),[]⟩,⟨(some 31),(.ld none (.t 30)),(some (29,false)),[]⟩,⟨(some 32),(.faddr 3 (.t 3)),(some (29,false)),[]⟩,⟨(some 33),(.ld none (.t 32)),(some (29,false)),[]⟩,⟨(some 34),(.beq true (.t 31) (.t 33)),(some (29,false)),[]⟩,oI 35 (.pick (.t 29) (.c (.bool true)) (.t 34)),oM 36 35,⟨(some 37),(.faddr 4 (.t 2)),(some (36,false)),[]⟩,⟨(some 38),(.ld none (.t 37)),(some (36,false)),[]⟩,⟨(some 39),(.faddr 4 (.t 3)),(some (36,false)),[]⟩,⟨(some 40),(.ld none (.t 39)),(some (36,false)),[]⟩,⟨(some 41),(.bin .neq (.t 38) (.t 40)),(some (36,false)),[]⟩,oI 42 (.pick (.t 36) (.c (.bool true)) (.t 41)),oM 43 42,⟨(some 44),(.faddr 5 (.t 2)),(some (43,false)),[]⟩,⟨(some 45),(.ld none (.t 44)),(some (43,false)),[]⟩,⟨(some 46),(.faddr 5 (.t 3)),(some (43,false)),[]⟩,⟨(some 47),(.ld none (.t 46)),(some (43,false)),[]⟩,⟨(some 48),(.bin .neq (.t 45) (.t 47)),(some (43,false)),[]⟩,oI 49 (.pick (.t 43) (.c (.bool true)) (.t 48)),oM 50 49,⟨(some 51),(.faddr 7 (.t 2)),(some (50,false)),[]⟩,⟨(some 52),(.ld none (.t 51)),(some (50,false)),[]⟩,⟨(some 53),(.faddr 7 (.t 3)),(some (50,false)),[]⟩,⟨(some 54),(.ld none (.t 53)),(some (50,false)),[]⟩,⟨(some 55),(.bin .neq (.t 52) (.t 54)),(some (50,false)),[]⟩,oI 56 (.pick (.t 50) (.c (.bool true)) (.t 55)),oM 57 56,⟨(some 58),(.faddr 12 (.t 2)),(some (57,false)),[]⟩,⟨(some 59),(.ld none (.t 58)),(some (57,false)),[]⟩,⟨(some 60),(.faddr 12 (.t 3)),(some (57,false)),[]⟩,⟨(some 61),(.ld none (.t 60)),(some (57,false)),[]⟩,⟨(some 62),(.beq true (.t 59) (.t 61)),(some (57,false)),[]⟩,oI 63 (.pick (.t 57) (.c (.bool true)) (.t 62)),oM 64 63,⟨(some 65),(.faddr 13 (.t 2)),(some (64,false)),[]⟩,⟨(some 66),(.ld none (.t 65)),(some (64,false)),[]⟩,⟨(some 67),(.faddr 13 (.t 3)),(some (64,false)),[]⟩,⟨(some 68),(.ld none (.t 67)),(some (64,false)),[]⟩,⟨(some 69),(.bin .neq (.t 66) (.t 68)),(some (64,false)),[]⟩,oI 70 (.pick (.t 64) (.c (.bool true)) (.t 69)),oM 71 70,⟨(some 72),(.faddr 14 (.t 2)),(some (71,false)),[]⟩,⟨(some 73),(.ld none (.t 72)),(some (71,false)),[]⟩,⟨(some 74),(.faddr 14 (.t 3)),(some (71,false)),[]⟩,⟨(some 75),(.ld none (.t 74)),(some (71,false)),[]⟩,⟨(some 76),(.bin .neq (.t 73) (.t 75)),(some (71,false)),[]⟩,oI 77 (.pick (.t 71) (.c (.bool true)) (.t 76)),oM 78 77,⟨(some 79),(.faddr 15 (.t 2)),(some (78,false)),[]⟩,⟨(some 80),(.ld none (.t 79)),(some (78,false)),[]⟩,⟨(some 81),(.faddr 15 (.t 3)),(some (78,false)),[]⟩,⟨(some 82),(.ld none (.t 81)),(some (78,false)),[]⟩,⟨(some 83),(.beq true (.t 80) (.t 82)),(some (78,false)),[]⟩,oI 84 (.pick (.t 78) (.c (.bool true)) (.t 83)),oM 85 84,⟨(some 86),(.faddr 21 (.t 2)),(some (85,false)),[]⟩,⟨(some 87),(.ld none (.t 86)),(some (85,false)),[]⟩,⟨(some 88),(.faddr 21 (.t 3)),(some (85,false)),[]⟩,⟨(some 89),(.ld none (.t 88)),(some (85,false)),[]⟩,⟨(some 90),(.beq true (.t 87) (.t 89)),(some (85,false)),[]⟩,oI 91 (.pick (.t 85) (.c (.bool true)) (.t 90)),oM 92 91,⟨(some 93),(.faddr 22 (.t 2)),(some (92,false)),[]⟩,⟨(some 94),(.ld none (.t 93)),(some (92,false)),[]⟩,⟨(some 95),(.faddr 22 (.t 3)),(some (92,false)),[]⟩,⟨(some 96),(.ld none (.t 95)),(some (92,false)),[]⟩,⟨(some 97),(.bin .neq (.t 94) (.t 96)),(some (92,false)),[]⟩,oI 98 (.pick (.t 92) (.c (.bool true)) (.t 97)),oM 99 98,⟨(some 100),(.faddr 23 (.t 2)),(some (99,false)),[]⟩,⟨(some 101),(.ld none (.t 100)),(some (99,false)),[]⟩,⟨(some 102),(.faddr 23 (.t 3)),(some (99,false)),[]⟩,⟨(some 103),(.ld none (.t 102)),(some (99,false)),[]⟩,⟨(some 104),(.beq true (.t 101) (.t 103)),(some (99,false)),[]⟩,oI 105 (.pick (.t 99) (.c (.bool true)) (.t 104)),oM 106 105,⟨(some 107),(.faddr 25 (.t 2)),(some (106,false)),[]⟩,⟨(some 108),(.ld none (.t 107)),(some (106,false)),[]⟩,⟨(some 109),(.faddr 25 (.t 3)),(some (106,false)),[]⟩,⟨(some 110),(.ld none (.t 109)),(some (106,false)),[]⟩,⟨(some 111),(.beq true (.t 108) (.t 110)),(some (106,false)),[]⟩,oI 112 (.pick (.t 106) (.c (.bool true)) (.t 111))] none [112,3,2]) (.cond (.t 112) (.seq (.region [oI 4 (.mov (.c (.bool false)))] none [4]) .ret) .skip)) (.seq (.seq (.region [oF 113 6 2,oL 114 113,oI 115 (.b2s (.t 114)),oF 116 6 3,oL 117 116,oI 118 (.b2s (.t 117)),oI 119 (.bin .neq (.t 115) (.t 118)),oM 120 119,⟨(some 121),(.faddr 24 (.t 2)),(some (120,false)),[]⟩,⟨(some 122),(.ld none (.t 121)),(some (120,false)),[]⟩,⟨(some 123),(.b2s (.t 122)),(some (120,false)),[]⟩,⟨(some 124),(.faddr 24 (.t 3)),(some (120,false)),[]⟩,⟨(some 125),(.ld none (.t 124)),(some (120,false)),[]⟩,⟨(some 126),(.b2s (.t 125)),(some (120,false)),[]⟩,⟨(some 127),(.bin .neq (.t 123) (.t 126)),(some (120,false)),[]⟩,oI 128 (.pick (.t 120) (.c (.bool true)) (.t 127)),oM 129 128,⟨(some 130),(.faddr 9 (.t 2)),(some (129,false)),[]⟩,⟨(some 131),(.ld none (.t 130)),(some (129,false)),[]⟩,⟨(some 132),(.faddr 9 (.t 3)),(some (129,false)),[]⟩,⟨(some 133),(.ld none (.t 132)),(some (129,false)),[]⟩,⟨(some 134),(.call 29 0 true [(.t 131),(.t 133)]),(some (129,false)),[]⟩,⟨(some 135),(.un .not (.t 134)),(some (129,false)),[]⟩,oI 136 (.pick (.t 129) (.c (.bool true)) (.t 135)),oM 137 136,⟨(some 138),(.faddr 8 (.t 2)),(some (137,false)),[]⟩,⟨(some 139),(.ld none (.t 138)),(some (137,false)),[]⟩,⟨(some 140),(.len (.t 139)),(some (137,false)),[]⟩,⟨(some 141),(.faddr 8 (.t 3)),(some (137,false)),[]⟩,⟨(some 142),(.ld none (.t 141)),(some (137,false)),[]⟩,⟨(some 143),(.len (.t 142)),(some (137,false)),[]⟩,⟨(some 144),(.bin .neq (.t 140) (.t 143)),(some (137,false)),[]⟩,oI 145 (.pick (.t 137) (.c (.bool true)) (.t 144)),oM 146 145,⟨(some 147),(.faddr 10 (.t 2)),(some (146,false)),[]⟩,⟨(some 148),(.ld none (.t 147)),(some (146,false)),[]⟩,⟨(some 149),(.len (.t 148)),(some (146,false)),[]⟩,⟨(some 150),(.faddr 10 (.t 3)),(some (146,false)),[]⟩,⟨(some 151),(.ld none (.t 150)),(some (146,false)),[]⟩,⟨(some 152),(.len (.t 151)),(some (146,false)),[]⟩,⟨(some 153),(.bin .neq (.t 149) (.t 152)),(some (146,false)),[]⟩,oI 154 (.pick (.t 146) (.c (.bool true)) (.t 153)),oM 155 154,⟨(some 156),(.faddr 11 (.t 2)),(some (155,false)),[]⟩,⟨(some 157),(.ld none (.t 156)),(some (155,false)),[]⟩,⟨(some 158),(.len (.t 157)),(some (155,false)),[]⟩,⟨(some 159),(.faddr 11 (.t 3)),(some (155,false)),[]⟩,⟨(some 160),(.ld none (.t 159)),(some (155,false)),[]⟩,⟨(some 161),(.len (.t 160)),(some (155,false)),[]⟩,⟨(some 162),(.bin .neq (.t 158) (.t 161)),(some (155,false)),[]⟩,oI 163 (.pick (.t 155) (.c (.bool true)) (.t 162))] none [163,3,2]) (.cond (.t 163) (.seq (.region [oI 4 (.mov (.c (.bool false)))] none [4]) .ret) .skip)) (.seq (.seq (.region [oI 5 (.mov (.c (.int .i64 0)))] none [5,3,2]) (.block 0 (.loop [5,3,2] Zl6))) ZpO))))
def Zqj:ZM:=⟨[(.tmp 4)],ZpT⟩
theorem ZRB:FC 9=some Zqj:=by kernel_rfl
def Zsa:Zf:=(.seq (.region [oI 4 (.mov (.c (.bool false)))] none [4]) .ret)
@[irreducible] def Zsx:Zf:=Zsa
def ZLJ:=xw Zsx Zsa (by kernel_rfl)
def ZjB:Zf:=by apply Zb 51 [1,0,1,0,0] [];conv=>lhs;reduce;dsimp only[zi]
@[irreducible] def ZpV:Zf:=ZjB
def Zn6:=xw ZpV ZjB (by kernel_rfl)
def Zpc:Zf:=by apply Zb 51 [] [([1,0,1,0,0],ZpV),([1,1],Zsx)];conv=>lhs;reduce;dsimp only[zi]
def Znr:ZM:=⟨[(.tmp 4)],Zpc⟩
theorem ZOm:FC 51=some Znr:=by kernel_rfl
theorem ZUn:Znr.body=Zpc:=rfl
theorem Zvy:Znr.res=[(.tmp 4)]:=rfl
noncomputable def Znq(m:Nat)(tm:Tms)(G:Za):Option (AVal×Za):=(Zaw m Znr (Zb0 FC PR BY m Zsx (Wf (Zbp 0) (evL FC PR BY m [5,1,0] ZpV tm G))))
end
section
def ZH(c:Int):AVal:=.iface 27 (.int .i64 c)
theorem Zbt(c:Int)(G:Za)(sq own:Nat):Zq E BY G sq 52 own true [.bool true,.int .i64 c]=some (.tup [],G,{}):=by
 have h:E 52 [.bool true,.int .i64 c] []=some (.tup [],[]):=by
  rw[Zg (by rfl) Zxf]
  simp -implicitDefEqProofs only[EQA,Zc,Xc,Xa,unA,reduceCtorEq,↓reduceIte,Ze,ZyS,Zob,ZBo,Zb]
 exact ZdQ (h) (by kernel_rfl) (by simp -implicitDefEqProofs only[Zej,ZbS,eq_self,eq_self]) (by simp -implicitDefEqProofs only[ZE,ZbS,eq_self,eq_self]) rfl (fun _=>rfl) _ _ _ _
theorem ZbV(c:Int)(G:Za)(sq own:Nat):Zq E BY G sq 52 own true [.bool false,.int .i64 c]=some (.pan (ZH c),G,{}):=by
 have h:E 52 [.bool false,.int .i64 c] []=some (.pan (ZH c),[]):=by
  rw[Zg (by rfl) Zxf]
  simp -implicitDefEqProofs only[EQA,Zc,Xc,Xa,unA,reduceCtorEq,↓reduceIte,ZyS,Zob,Zb,ZH]
 exact ZdQ (h) (by kernel_rfl) (by simp -implicitDefEqProofs only[Zej,ZbS,eq_self]) (by simp -implicitDefEqProofs only[ZE,ZbS,eq_self]) rfl (fun _=>rfl) _ _ _ _
theorem Zkb{cs xs:List AVal}{w n:Nat}{G:Za}(hc:Ze cs=true):ZR 1 (.var cs::.row 0 w xs::G) (.sl 1 0 0 n)=some (.sl 1 0 0 n,[.var cs,.row 0 w xs]):=by
 have e2:=fun C=>Z5 C cs hc
 have hi:Zw 1 [AVal.sl 1 0 0 n] (.var cs::.row 0 w xs::G)=[0,1]:=by
  have hR:X5 1=[0]:=rfl
  simp only[Zw,hR,XB,XQ,Xr,Xm,ZB,(e2 (fun _ _=>none)).2,Zl,ZG]
  rfl
 have hC:Zm (.var cs::.row 0 w xs::G) 1 [0,1] 1 0=some (1,0):=rfl
 simp only[ZR,gcA,hi,Zj,Zp,hC,Zo,Xm,Xs,ZD,Zn,Zz,(e2 _).1]
 simp
theorem ZvZ(G:Za)(sq:Nat)(b:Zd)(hl:b.length<=140737488355328)(he:(ZL b).2.2=0)(hs:freeAt G sq=true):Zq E BY G sq 114 1 false [.lnt b]=some (.tup [.sl sq 0 0 (ZL b).1.length,.int .i64 ((ZL b).2.1:Nat),.int .i64 0],G.set sq (.row 0 1 ((ZL b).1.map Zh)),{ any:=true }):=by
 have h:=Zm4 b hl
 unfold gdR at h
 rw[if_pos he,he]at h
 exact ZR1 (vs:=[.lnt b]) (by kernel_rfl) rfl rfl rfl (fun _=>rfl) h rfl (ZlM _) (fun _=>rfl) hs
theorem ZuU(G:Za)(sq:Nat)(b:Zd)(hl:b.length<=140737488355328)(he:(ZL b).2.2≠0):Zq E BY G sq 114 1 false [.lnt b]=some (.tup [.lst true [],.int .i64 ((ZL b).2.1:Nat),.int .i64 (ZL b).2.2],G,{}):=by
 have h:=Zm4 b hl
 unfold gdR at h
 rw[if_neg he]at h
 exact ZJn (vs:=[.lnt b]) (by kernel_rfl) rfl rfl rfl (fun _=>rfl) h rfl rfl
theorem ZaV{xs ys:List AVal}(h:Ze xs=true)(h':Ze ys=true):Ze (xs++ys)=true:=by
 induction xs with
 |nil=>exact h'
 |cons x xs ih =>
  simp only[Ze,Xk,XJ]at h⊢
  grind
section
variable (P:List AVal)(hP:P.length=26)(hN:Ze P=true)
include hP
theorem Zaf(L:AVal):(P++[L]).length=27:=by simp[hP]
theorem ZaA(L:AVal):(P++[L])[26]?=some L:=by
 grind
theorem ZeD(L:AVal):(P++[L]).take 26=P:=by
 grind
theorem Zgx(L:AVal):(P++[L]).drop 27=[]:=Wg (by simp[hP])
include hN
theorem ZK(l:Zd):Ze (P++[.lnt l])=true:=ZaV hN rfl
theorem ZA5(l:Zd)(n:Nat)(hn:n<=l.length)(hl:l.length<=140737488355328):E 54 [.ref 0 0,.int .i64 (n:Nat)] [.var (P++[.lnt l])]=some (.int .i64 (ZeJ (l.take n)),[.var (P++[.lnt (l.drop n)])]):=by
 have h1:(l.length:Int)>=((n:Nat):Int):=by omega
 have s1:=fun G kk=>ZoP G l kk (n:Int) (by omega) (by omega)
 have s2:=fun G kk=>Zfw G l kk (n:Int) (by omega) (by omega)
 have e2:((n:Int)).toNat=n:=rfl
 rw[e2]at s1 s2
 have ht:(l.take n).length<=9223372036854775807:=by simp;omega
 have hG:=fun G sq own=>Zps G sq own (l.take n) ht
 have a1:=Zaf P hP
 have a2:=ZaA P hP
 have a3:=ZeD P hP
 have a4:=Zgx P hP
 have m1:=Zbt
 rw[Zg (by rfl) ZlP]
 simp -implicitDefEqProofs only[EQA,Zc,Xd,Xc,Xf,Xa,reduceCtorEq,↓reduceIte,ZmF,Zi9,ZAH,Zb,h1,s1,s2,hG,a1,a2,a3,a4,m1,ZeJ]
 exact Zaj rfl (ZK P hP hN _)
theorem ZCg(l:Zd)(n:Nat)(hn:l.length<n)(hn':n<=9223372036854775807):E 54 [.ref 0 0,.int .i64 (n:Nat)] [.var (P++[.lnt l])]=some (.pan (ZH 129),[.var (P++[.lnt l])]):=by
 have h1:¬(l.length:Int)>=((n:Nat):Int):=by omega
 have a2:=ZaA P hP
 have m1:=ZbV
 rw[Zg (by rfl) ZlP]
 simp -implicitDefEqProofs only[EQA,Zc,Xc,Xa,reduceCtorEq,↓reduceIte,ZmF,Zi9,Zb,h1,a2,m1]
 exact Zaj rfl (ZK P hP hN _)
theorem ZQs(l:Zd)(hl:l.length<=140737488355328)(h:(ZU l).2.2=0):E 63 [.ref 0 0] [.var (P++[.lnt l])]=some (.str (ZU l).1,[.var (P++[.lnt (l.drop (ZU l).2.1)])]):=by
 have hG:=fun G sq own=>ZiJ G sq own l hl
 have hu:=(ZgJ l).1
 unfold gtT at hG
 have s2:=fun G kk=>Zfw G l kk ((ZU l).2.1:Int) (by omega) (by omega)
 have e2:(((ZU l).2.1:Nat):Int).toNat=(ZU l).2.1:=rfl
 rw[e2]at s2
 rw[h]at hG
 have a1:=Zaf P hP
 have a2:=ZaA P hP
 have a3:=ZeD P hP
 have a4:=Zgx P hP
 have m1:=Zbt
 rw[Zg (by rfl) ZmM]
 simp -implicitDefEqProofs only[EQA,Zc,Xd,Xc,Xf,Xa,reduceCtorEq,↓reduceIte,Zof,ZjH,Zwc,Zb,s2,hG,a1,a2,a3,a4,m1]
 exact Zaj rfl (ZK P hP hN _)
theorem ZHM(l:Zd)(hl:l.length<=140737488355328)(h:(ZU l).2.2≠0):E 63 [.ref 0 0] [.var (P++[.lnt l])]=some (.pan (ZH 129),[.var (P++[.lnt l])]):=by
 have hG:=fun G sq own=>ZiJ G sq own l hl
 unfold gtT at hG
 have h0:((ZU l).2.2==0)=false:=by simpa using h
 have h1:=h
 have a2:=ZaA P hP
 have m1:=ZbV
 rw[Zg (by rfl) ZmM]
 simp -implicitDefEqProofs only[EQA,Zc,Xc,Xa,reduceCtorEq,↓reduceIte,Zof,ZjH,Zb,hG,a2,h0,m1]
 exact Zaj rfl (ZK P hP hN _)
theorem ZEd(l:Zd)(hl:l.length<=140737488355328)(h:(ZL l).2.2=0):E 94 [.ref 0 0] [.var (P++[.lnt l])]=some (.sl 1 0 0 (ZL l).1.length,[.var (P++[.lnt (l.drop (ZL l).2.1)]),.row 0 1 ((ZL l).1.map Zh)]):=by
 have hG:=fun G sq hs=>ZvZ G sq l hl h hs
 have hu:=(Zg0 l).1
 have s2:=fun G kk=>Zfw G l kk ((ZL l).2.1:Int) (by omega) (by omega)
 have e2:(((ZL l).2.1:Nat):Int).toNat=(ZL l).2.1:=rfl
 rw[e2]at s2
 have a1:=Zaf P hP
 have a2:=ZaA P hP
 have a3:=ZeD P hP
 have a4:=Zgx P hP
 have m1:=Zbt
 rw[Zg (by rfl) Zme]
 simp -implicitDefEqProofs only[EQA,Zc,Xd,Xc,Xf,Xa,Xg,reduceCtorEq,↓reduceIte,ZmP,ZiX,ZyH,Zb,s2,hG,a1,a2,a3,a4,m1]
 exact Zkb (ZK P hP hN _)
theorem ZDn(l:Zd)(hl:l.length<=140737488355328)(h:(ZL l).2.2≠0):E 94 [.ref 0 0] [.var (P++[.lnt l])]=some (.pan (ZH 129),[.var (P++[.lnt l])]):=by
 have hG:=fun G sq=>ZuU G sq l hl h
 have h0:((ZL l).2.2==0)=false:=by simpa using h
 have h1:=h
 have a2:=ZaA P hP
 have m1:=ZbV
 rw[Zg (by rfl) Zme]
 simp -implicitDefEqProofs only[EQA,Zc,Xd,Xc,Xa,Xg,reduceCtorEq,↓reduceIte,ZmP,ZiX,Zb,hG,a2,h0,m1]
 exact Zaj rfl (ZK P hP hN _)
theorem ZTi(w:Int)(l:Zd)(hl:l.length<=140737488355328)(h:(Zab w l).2.2=0)(hu:(Zab w l).2.1<=l.length):E 56 [.ref 0 0,.int .i64 w] [.var (P++[.lnt l])]=some (.lst false ((Zab w l).1.map Zv),[.var (P++[.lnt (l.drop (Zab w l).2.1)])]):=by
 have hG:=fun G sq own=>Zu2 G sq own w l hl
 have s2:=fun G kk=>Zfw G l kk ((Zab w l).2.1:Int) (by omega) (by omega)
 have e2:(((Zab w l).2.1:Nat):Int).toNat=(Zab w l).2.1:=rfl
 rw[e2]at s2
 rw[h]at hG
 have a1:=Zaf P hP
 have a2:=ZaA P hP
 have a3:=ZeD P hP
 have a4:=Zgx P hP
 have m1:=Zbt
 generalize Zab w l=R at *
 rw[Zg (by rfl) Zvb]
 simp -implicitDefEqProofs only[EQA,Zc,Xd,Xc,Xf,Xa,reduceCtorEq,↓reduceIte,ZxV,Zoa,ZF0,Zb,s2,hG,a1,a2,a3,a4,m1]
 exact Zaj rfl (ZK P hP hN _)
theorem ZOp(w:Int)(l:Zd)(hl:l.length<=140737488355328)(h:(Zab w l).2.2≠0):E 56 [.ref 0 0,.int .i64 w] [.var (P++[.lnt l])]=some (.pan (ZH (Zab w l).2.2),[.var (P++[.lnt l])]):=by
 have hG:=fun G sq own=>Zu2 G sq own w l hl
 have h0:((Zab w l).2.2==0)=false:=by simpa using h
 have h1:=h
 have a2:=ZaA P hP
 have m1:=ZbV
 generalize Zab w l=R at *
 rw[Zg (by rfl) Zvb]
 simp -implicitDefEqProofs only[EQA,Zc,Xc,Xa,reduceCtorEq,↓reduceIte,ZxV,Zoa,Zb,hG,a2,h0,m1]
 exact Zaj rfl (ZK P hP hN _)
end
end
section
def Zpt:Zf:=by apply Zb 48 [] [];conv=>lhs;reduce;dsimp only[zi]
def Zqa:ZM:=⟨[(.tmp 4)],Zpt⟩
theorem ZMY:FC 48=some Zqa:=by kernel_rfl
theorem ZIp:Zqa.body=Zpt:=rfl
theorem ZDb:Zqa.res=[(.tmp 4)]:=rfl
def ZuH:Zf:=(.seq (.region [oI 4 (.mov (.c (.int .i64 (-1))))] none [4]) .ret)
@[irreducible] def Zre:Zf:=ZuH
def ZDL:=xw Zre ZuH (by kernel_rfl)
def ZkC:Zf:=by apply Zb 93 [1,0,1,0,0] [];conv=>lhs;reduce;dsimp only[zi]
@[irreducible] def Zql:Zf:=ZkC
def Zsc:=xw Zql ZkC (by kernel_rfl)
def Zru:Zf:=by apply Zb 93 [] [([1,0,1,0,0],Zql),([1,1],Zre)];conv=>lhs;reduce;dsimp only[zi]
def Zov:ZM:=⟨[(.tmp 4)],Zru⟩
theorem ZUV:FC 93=some Zov:=by kernel_rfl
theorem ZUm:Zov.body=Zru:=rfl
theorem ZzG:Zov.res=[(.tmp 4)]:=rfl
noncomputable def ZnM(m:Nat)(tm:Tms)(G:Za):Option (AVal×Za):=(Zaw m Zov (Zb0 FC PR BY m Zre (Wf (Zbp 0) (evL FC PR BY m [8,7,1,0] Zql tm G))))
end
section
theorem Zqw{O:ZS}{bf:Nat->Bool}{G:Za}{t sq f own:Nat}{view:Bool}{args vs vs':List AVal}{cs cs':List AVal}{r:AVal}(hs:G[t]?=some (.var cs))(hc:Ze cs=true)(hc':Ze cs'=true)(hb:bf f=false)(hff:Zah G sq own=true)
  (hsh:showAs G args=some (vs,[])) (href:Zl vs=[t]) (hren:∀ C:Rho,C t 0=some (0,0)->Zj C vs=vs') (hn:ZQ r=true) (hv:viewR [.var cs'] r=some (r,[]))
  (h:O f vs' [.var cs]=some (r,[.var cs'])) (hvl:vs.any Zcz=false:=by rfl):Zq O bf G sq f own view args=some (r,G.set t (.var cs'),{ any:=true,upd:=[(t,cs')] }):=by
 have htl:t<G.length:=by
  rcases Wz t G.length with h |h
  ·exact h
  ·rw[Wb h]at hs;cases hs
 have hup:Zba (G.set t (.var cs')) [t]=[(t,cs')]:=by
  simp only[Zba,XO,if_pos htl,if_true]
 have hd:G.getD t .free=.var cs:=by simp[Xh,hs]
 have hf0:Zu G []=G:=rfl
 unfold Zq
 rw[Zf0 (hb) hsh (by grind)]
 simp only[hf0,href,Zet hs hc]
 unfold Zbl
 simp only[Zdb]
 have hall:([t].all fun t=>okB (G.getD t .free))=true:=by simp[XW,XX,hs,okB]
 rw[if_pos hall]
 have hC:Zm G 0 [t] t 0=some (0,0):=by simp[Zm,ZI,hs,Zn,ZD]
 have hheap:Zo G 0 [t] (Zm G 0 [t]) [t] 0=[.var cs]:=by
  simp only[Zo,hd,Zz,(Z5 _ cs hc).1]
 rw[hren _ hC,hheap,h]
 have hask:ZV view [t].length (some (r,[.var cs']))=some (r,[.var cs']):=by
  unfold ZV
  split
  ·have hnp:∀ x,r≠.pan x:=by rintro x rfl;simp[viewR,Z3,ZN]at hv
   rw[show ZbP [t].length (some (r,[.var cs']))=(match viewR [.var cs'] r with
    |some (r',ts)=>match gcA [t].length [r'] (Zu [.var cs'] ts)with
     |([r''],G')=>some (r'',G')
     |_=>none
    |none=>none)from by cases r<;>first |rfl |grind]
   rw[hv]
   simp only[Xz,Xw,XF,show Zu [ZO.var cs'] []=[.var cs']from rfl,Zl8 hn hc']
  ·rfl
 rw[hask]
 have hk:Za0 G [t] [.var cs'] 0=true:=by
  simp[Za0,okB,hs,Zcx,Zn]
 simp only[Zaz,WC,Xi,if_false,Xz,Xw,XF,Xav,XH,decide_true,hk,hff,XT,if_true,ZaR,ZaB,Xm,Zz,(Za9 _ r hn).1,(Z5 _ cs' hc').1,hup]
def Zcd(k:Int):List (Int×Int) :=
 if k=2 then [(0,0),(128,138),(140,140),(144,144),(149,149),(151,151),(153,157),(159,159)]else
 if k=4 then [(0,0),(16,16),(128,128),(131,131),(135,135),(144,145),(151,151),(153,153)]else
 if k=5 then [(0,0),(16,16),(128,128),(131,131),(135,135),(144,145),(151,151),(153,153)]else
 if k=6 then [(0,0),(146,146)]else
 if k=7 then [(0,0),(146,146)]else
 if k=9 then [(0,2),(128,128),(131,131),(135,135),(143,143),(145,145),(151,151),(158,158),(161,162)]else
 if k=11 then [(0,0),(17,17),(128,128),(131,131),(135,135),(143,143),(145,145)]else
 if k=14 then [(0,0),(4,4),(128,131),(135,135),(137,137),(139,139),(141,144),(147,162)]else
 if k=15 then [(0,0),(24,25)]else
 []
def ZeX(s:Int×Int):AVal:=.agg [.int .i64 s.1,.int .i64 s.2]
def Zc0(c:Int)(s:Int×Int):Bool:=decide (c>=s.1)&&decide (c<=s.2)
def ZfC(k c:Int):Bool:=(Zcd k).any (Zc0 c)
theorem ZHl(k:Int):(Zcd k).length<=9:=by
 unfold Zcd
 repeat' split
 all_goals simp
theorem ZOS(k:Int):∃ f,E 49 [.int .i64 k] []=some (.lst f ((Zcd k).map ZeX),[]):=by
 refine⟨true,?_⟩
 unfold Zcd
 by_cases h2:k=2
 ·subst h2
  rw[Zg (by rfl) ZfX]
  simp -implicitDefEqProofs only[EQA,Zc,Xd,Xc,Xf,Xa,reduceCtorEq,↓reduceIte,ZfH,ZeF,Zf2,Zb,Zao,AVal.cells,Zbz,viewAs,Z3,ZN,Zag,Zu]
  rfl
 by_cases h4:k=4
 ·subst h4
  rw[Zg (by rfl) ZfX]
  simp -implicitDefEqProofs only[EQA,Zc,Zc9,Xd,Xc,Xf,Xa,reduceCtorEq,ite_self,↓reduceIte,ZfH,ZeF,Zf2,Zb,Xj,Zao,AVal.cells,Zbz,viewAs,Z3,ZN,Zag,Zu]
  rfl
 by_cases h5:k=5
 ·subst h5
  rw[Zg (by rfl) ZfX]
  simp -implicitDefEqProofs only[EQA,Zc,Zc9,Xd,Xc,Xf,Xa,reduceCtorEq,ite_self,↓reduceIte,ZfH,ZeF,Zf2,Zb,Xj,Zao,AVal.cells,Zbz,viewAs,Z3,ZN,Zag,Zu]
  rfl
 by_cases h6:k=6
 ·subst h6
  rw[Zg (by rfl) ZfX]
  simp -implicitDefEqProofs only[EQA,Zc,Zc9,Xd,Xc,Xf,Xa,reduceCtorEq,ite_self,↓reduceIte,ZfH,ZeF,Zf2,Zb,Xj,Zao,AVal.cells,Zbz,viewAs,Z3,ZN,Zag,Zu]
  rfl
 by_cases h7:k=7
 ·subst h7
  rw[Zg (by rfl) ZfX]
  simp -implicitDefEqProofs only[EQA,Zc,Zc9,Xd,Xc,Xf,Xa,reduceCtorEq,ite_self,↓reduceIte,ZfH,ZeF,Zf2,Zb,Xj,Zao,AVal.cells,Zbz,viewAs,Z3,ZN,Zag,Zu]
  rfl
 by_cases h9:k=9
 ·subst h9
  rw[Zg (by rfl) ZfX]
  simp -implicitDefEqProofs only[EQA,Zc,Zc9,Xd,Xc,Xf,Xa,reduceCtorEq,↓reduceIte,ZfH,ZeF,Zf2,Zb,Xj,Zao,AVal.cells,Zbz,viewAs,Z3,ZN,Zag,Zu]
  rfl
 by_cases h11:k=11
 ·subst h11
  rw[Zg (by rfl) ZfX]
  simp -implicitDefEqProofs only[EQA,Zc,Zc9,Xd,Xc,Xf,Xa,reduceCtorEq,↓reduceIte,ZfH,ZeF,Zf2,Zb,Xj,Zao,AVal.cells,Zbz,viewAs,Z3,ZN,Zag,Zu]
  rfl
 by_cases h14:k=14
 ·subst h14
  rw[Zg (by rfl) ZfX]
  simp -implicitDefEqProofs only[EQA,Zc,Zc9,Xd,Xc,Xf,Xa,reduceCtorEq,ite_self,↓reduceIte,ZfH,ZeF,Zf2,Zb,Xj,Zao,AVal.cells,Zbz,viewAs,Z3,ZN,Zag,Zu]
  rfl
 by_cases h15:k=15
 ·subst h15
  rw[Zg (by rfl) ZfX]
  simp -implicitDefEqProofs only[EQA,Zc,Zc9,Xd,Xc,Xf,Xa,reduceCtorEq,ite_self,↓reduceIte,ZfH,ZeF,Zf2,Zb,Xj,Zao,AVal.cells,Zbz,viewAs,Z3,ZN,Zag,Zu]
  rfl
 have b2:(k==2)=false:=by simpa using h2
 have b4:(k==4)=false:=by simpa using h4
 have b5:(k==5)=false:=by simpa using h5
 have b6:(k==6)=false:=by simpa using h6
 have b7:(k==7)=false:=by simpa using h7
 have b9:(k==9)=false:=by simpa using h9
 have b11:(k==11)=false:=by simpa using h11
 have b14:(k==14)=false:=by simpa using h14
 have b15:(k==15)=false:=by simpa using h15
 rw[if_neg h2,if_neg h4,if_neg h5,if_neg h6,if_neg h7,if_neg h9,if_neg h11,if_neg h14,if_neg h15]
 rw[Zg (by rfl) ZfX]
 simp -implicitDefEqProofs only[EQA,Zc,Xc,Xa,reduceCtorEq,↓reduceIte,ZfH,ZeF,Zf2,Zb,b2,b4,b5,b6,b7,b9,b11,b14,b15]
theorem ZSP(c:Int)(s:Int×Int):E 50 [.agg [.int .i64 s.1,.int .i64 s.2],.ref 0 0] [.var [.int .i64 c]]=some (.bool (Zc0 c s),[.var [.int .i64 c]]):=by
 unfold Zc0
 rw[Zg (by rfl) ZKV]
 by_cases h:c>=s.1
 ·simp -implicitDefEqProofs only[EQA,ZE,Zc,ZT,Xd,Xc,Xa,Xg,Zy,unG,reduceCtorEq,↓reduceIte,Ze,ZwI,Zn0,Zxp,Zb,h]
  try (simp[ZR,gcA,Zw,Zt,Zl,ZG,Zm,Zo,ZI,Zn,ZD,Zj,Zp,Zz,ZB,Xv])
 ·simp -implicitDefEqProofs only[EQA,ZE,Zc,ZT,Xd,Xc,Xa,Xg,Zy,Z6,reduceCtorEq,↓reduceIte,Ze,ZwI,Zn0,Zxp,Zb,h]
  try (simp[ZR,gcA,Zw,Zt,Zl,ZG,Zm,Zo,ZI,Zn,ZD,Zj,Zp,Zz,ZB,Xv])
theorem ZHf(k:Int)(G:Za)(sq own:Nat):Zq E BY G sq 49 own true [.int .i64 k]=some (.lst false ((Zcd k).map ZeX),G,{}):=by
 obtain⟨f,h⟩:=ZOS k
 exact Zcr h (by kernel_rfl) rfl rfl rfl (fun _=>rfl) _ _ _
theorem ZUP(G:Za)(sq t own:Nat)(view:Bool)(c:Int)(s:Int×Int)(hs:G[t]?=some (.var [.int .i64 c]))(hff:Zah G sq own=true):Zq E BY G sq 50 own view [.agg [.int .i64 s.1,.int .i64 s.2],.ref t 0]=some (.bool (Zc0 c s),G.set t (.var [.int .i64 c]),{ any:=true,upd:=[(t,[.int .i64 c])] }) :=
 Zqw hs rfl rfl (by kernel_rfl) hff rfl rfl (fun C h=>by simp only[Zj,Zp,h]) rfl rfl (ZSP c s)
theorem ZvW(L:List (Int×Int))(c:Int)(hL:L.length<=9223372036854775807):∀ (r:List (Int×Int)) (i:Nat),L.drop i=r ->
  ∃ z,ZnM 1 [(8,.int .i64 i),(7,.int .i64 L.length),(1,.fn 50 [.ref 0 0]),(0,.lst false (L.map ZeX))] [.var [.int .i64 c]]=some (.int .i64 z,[.var [.int .i64 c]])/\decide (z>=0)=r.any (Zc0 c)
 | [],i,h=>by
  have h1:=Zes h
  refine⟨-1,?_,by simp⟩
  unfold ZnM
  rw[Z9]
  simp -implicitDefEqProofs only[EQA,Zc,ZT,Xc,Xa,reduceCtorEq,↓reduceIte,Ze,ZzG,ZDL,ZuH,Zsc,ZkC,Zb,h1]
 |x::r,i,h=>by
  obtain⟨z,ih,hz⟩:=ZvW L c hL r (i+1) (Zas h).2.1
  have h1:(i:Int)<L.length:=by have:=(Zas h).2.2;omega
  have e1:=iad (Zas h).1 ZeX (k:=2) rfl
  have e3:=Zd0 h1 hL
  have hm:x∈L:=XL (Zas h).1
  have hc:=fun G sq t own view hs hff=>ZUP G sq t own view c x hs hff
  unfold ZnM at ih ⊢
  cases hb:Zc0 c x
  ·refine⟨z,?_,by grind⟩
   rw[Z9]
   simp -implicitDefEqProofs only[EQA,ZE,Zc,ZT,Xd,Xc,Xf,Xa,Xg,reduceCtorEq,↓reduceIte,gcT,gcA,Zw,Zt,Zm,Zo,ZI,Zn,ZD,Zz,ZB,Xv,Zsc,ZkC,Zb,h1,e1,e3,hc,hb,Zah,ZeX]
   exact ih
  ·refine⟨i,?_,by simp[hb]⟩
   rw[Z9]
   simp -implicitDefEqProofs only[EQA,ZE,Zc,ZT,Xd,Xc,Xf,Xa,Xg,reduceCtorEq,↓reduceIte,Ze,ZzG,Zsc,ZkC,Zb,h1,e1,hc,hb,Zah,ZeX]
theorem ZGI(L:List (Int×Int))(c:Int)(hL:L.length<=9223372036854775807) :
  ∃ z,E 93 [.lst false (L.map ZeX),.fn 50 [.ref 0 0]] [.var [.int .i64 c]]=some (.int .i64 z,[.var [.int .i64 c]])/\decide (z>=0)=L.any (Zc0 c):=by
 obtain⟨z,h,hz⟩:=ZvW L c hL L 0 rfl
 refine⟨z,?_,hz⟩
 rw[Zg (by rfl) ZUV]
 have z0:((0:Nat):Int)=0:=rfl
 rw[z0]at h
 unfold ZnM at h
 simp -implicitDefEqProofs only[EQA,Zc,ZT,Xc,Xa,reduceCtorEq,↓reduceIte,gcT,gcA,Zw,Zt,Zm,Zo,ZI,Zn,ZD,Zz,ZB,Xv,ZUm,Zru,Zb,h]
theorem ZTY(L:List (Int×Int))(c:Int)(hL:L.length<=9223372036854775807) :
  E 48 [.lst false (L.map ZeX),.fn 50 [.ref 0 0]] [.var [.int .i64 c]]=some (.bool (L.any (Zc0 c)),[.var [.int .i64 c]]):=by
 obtain⟨z,h,hz⟩:=ZGI L c hL
 rw[Zg (by rfl) ZMY]
 have hc:=fun(G:Za) sq t view hs=>Zqw (O:=E) (bf:=BY) (G:=G) (t:=t) (sq:=sq) (own:=0) (view:=view) (f:=93) (args:=[.lst false (L.map ZeX),.fn 50 [.ref t 0]]) (vs:=[.lst false (L.map ZeX),.fn 50 [.ref t 0]]) hs rfl rfl (by kernel_rfl) rfl rfl rfl (fun C h=>by simp only[Zj,Zp,h]) rfl rfl h
 simp -implicitDefEqProofs only[EQA,Zc,ZT,Xc,Xa,reduceCtorEq,↓reduceIte,Ze,ZIp,Zpt,ZDb,Zb,hc,hz]
theorem ZVc(k c:Int):E 22 [.int .i64 k,.int .i64 c] []=some (.bool (ZfC k c),[]):=by
 have h:=ZTY (Zcd k) c (by have:=ZHl k;omega)
 have hC:=fun G sq own=>ZHf k G sq own
 unfold ZfC
 generalize Zcd k=L at *
 rw[Zg (by rfl) ZM1]
 have hc:=fun(G:Za) sq t view hs=>Zqw (O:=E) (bf:=BY) (G:=G) (t:=t) (sq:=sq) (own:=0) (view:=view) (f:=48) (args:=[.lst false (L.map ZeX),.fn 50 [.ref t 0]]) (vs:=[.lst false (L.map ZeX),.fn 50 [.ref t 0]]) hs rfl rfl (by kernel_rfl) rfl rfl rfl (fun C h=>by simp only[Zj,Zp,h]) rfl rfl h
 simp -implicitDefEqProofs only[EQA,ZE,Zc,Xc,Xa,Xg,reduceCtorEq,↓reduceIte,ZO7,Zrz,ZJL,Zb,hC,hc]
theorem ZkN(k c:Int)(G:Za)(sq own:Nat):Zq E BY G sq 22 own true [.int .i64 k,.int .i64 c]=some (.bool (ZfC k c),G,{}) :=
 ZdQ (ZVc k c) (by kernel_rfl) (by simp -implicitDefEqProofs only[Zej,ZbS,eq_self,eq_self]) (by simp -implicitDefEqProofs only[ZE,ZbS,eq_self,eq_self]) rfl (fun _=>rfl) _ _ _ _
end
end Go.Proofs.YtjhabjdfhmbanaaGreatDoor
