/- packed -/
import Derived.Test.YtjhabjdfhmbanaaGreatDoorMq1
import Derived.Test.YtjhabjdfhmbanaaGreatDoorProg
import Derived.Deep.Slices
import Derived.ChangeArms
import Derived.WideShapes
import GoSem.ClaimChange
import Derived.Lib.TrimUEq
import Derived.Lib.MapLaws
import Derived.Lib.ValidLaws
set_option linter.defProp false
set_option linter.unusedSectionVars false
set_option linter.unusedSimpArgs false
set_option linter.unusedVariables false
open Nat renaming reduceEqDiff→Xa,reduceLT→Xc,reduceAdd→Xd,reduceLeDiff→Xf,reduceBEq→Xg,zero_add→XF,le_refl→XH,add_zero→X6,lt_or_ge→Wz,pow_le_pow_right→W9,le_add_right→Xav,mod_eq_of_lt→Xa3,shiftLeft_eq→Xa5,mul_le_mul→Xbb,mod_lt→Xbe
open Option.some renaming injEq→Xb
open List renaming getD_eq_getElem?_getD→Xh,getElem?_set_ne→Xl,getD_cons_zero→Xm,getElem?_eq_some_iff→Xn,nil_append→Xp,append_nil→Xr,getD_cons_succ→Xs,map_cons→Xu,range_succ→Xv,length_nil→Xw,all_eq_true→Xy,length_cons→Xz,flatMap_cons→XB,map_nil→XC,take_of_length_le→XG,replicate→XI,cons_append→XJ,getElem?_cons_zero→XK,mem_of_getElem?→XL,length_append→XM,getElem?_cons_succ→XN,getElem?_set→XO,flatMap_nil→XQ,length_map→XS,getElem?_set_self→XV,all_cons→XW,all_nil→XX,drop_eq_nil_iff→XY,mem_cons→X0,range→X5,mem_map→X7,isEmpty_nil→X8,getElem?_eq_none→Wb,drop_eq_nil_of_le→Wg,set_cons_succ→Wp,length_drop→Wt,any_cons→Wu,isEmpty_cons→WC,set_cons_zero→WG,drop_take→Xaj,any_eq_false→Xar,drop_zero→Xat,map_map→XaJ,map_take→Xa1
open Bool renaming false_eq_true→Xi,and_eq_true→Xk,and_self→XT,false_and→Wi,true_or→WV,or_true→W7,and_true→Xag,false_ne_true→Xan,and_false→XaZ
open Int renaming reduceBEq→Xj,toNat_natCast→WB,toNat_zero→WE,toNat→Xad,le_refl→Xaf
open Or renaming inl→Xq,inr→Xt
open BitVec renaming ofInt→XR
open Option renaming map→Wf,isSome_none→Xal
open UInt8 renaming toNat_inj→Xa8
namespace Go.Proofs.YtjhabjdfhmbanaaGreatDoor
set_option maxHeartbeats 16000000
set_option maxRecDepth 10000
section
def ZfZ{D:Type}(d:D):List (Nat×D)->Nat->D
 | [],_=>d
 |(k,v)::r,n=>if k=n then v else ZfZ d r n
def ZF(own raw:List Nat)(cfg cfg2:List (Nat×Nat×Bool))(lr ll:List (Nat×List Nat)):Ann:={ own:=fun n=>if own.contains n then 1 else if raw.contains n then 2 else 0,cfg:=ZfZ (0,true) cfg,cfg2:=ZfZ (0,true) cfg2,lr:=ZfZ [] lr,ll:=ZfZ [] ll }
def ZTf:List (Nat×Ann):=[
 (40,ZF [] [] [] [] [(0,[0]),(1,[2])] []),
 (26,ZF [] [] [(53,2,true),(60,1,true),(57,1,true)] [] [(0,[1]),(1,[2,1]),(2,[10,2,1]),(3,[11,10,2,1]),(4,[1]),(5,[15,10,2,1]),(6,[3,2,1]),(7,[3,2,1]),(8,[2,1]),(9,[2,1]),(10,[1]),(11,[37,10,2,1]),(12,[1]),(13,[41,10,2,1]),(14,[41,10,2,1]),(15,[41,10,2,1]),(16,[41,10,2,1]),(17,[1]),(18,[1]),(19,[50,10,2,1]),(20,[1]),(21,[56,10,2,1]),(22,[1]),(23,[61,10,2,1]),(24,[61,10,2,1]),(25,[1]),(26,[67,10,1]),(27,[67,1]),(28,[1]),(29,[])] []),
 (62,ZF [] [] [] [] [(0,[])] []),
 (64,ZF [] [] [] [] [(0,[])] []),
 (55,ZF [] [] [] [] [(0,[0]),(1,[3,0]),(2,[3]),(3,[2])] []),
 (53,ZF [] [] [(94,1,false)] [] [(0,[2,0]),(1,[2,0]),(2,[2,0]),(3,[3,2,0]),(4,[3,2,0]),(5,[3,2,0]),(6,[3,2,0]),(7,[2,0]),(8,[2,0]),(9,[2,0]),(10,[2,0]),(11,[107,2,0]),(12,[2,0]),(13,[2,0]),(14,[2,0]),(15,[129,2,0]),(16,[2,0]),(17,[138,2,0]),(18,[])] []),
 (94,ZF [] [] [(114,1,false)] [] [(0,[0]),(1,[5,4,3,0]),(2,[4,3,0]),(3,[3]),(4,[2])] []),
 (25,ZF [] [] [] [] [(0,[4,1]),(1,[4,1]),(2,[4,1]),(3,[24,4,1]),(4,[]),(5,[4]),(6,[4]),(7,[])] []),
 (58,ZF [] [] [] [] [(0,[0]),(1,[])] []),
 (60,ZF [] [] [] [] [(0,[1,0]),(1,[1,0]),(2,[1,0]),(3,[29,1,0]),(4,[1,0])] [(3,[1,0])]),
 (54,ZF [] [] [] [] [(0,[1,0]),(1,[1,0]),(2,[5,1,0]),(3,[5]),(4,[4])] []),
 (56,ZF [] [] [] [] [(0,[1,0]),(1,[7,6,5,0]),(2,[6,5,0]),(3,[5]),(4,[4])] []),
 (57,ZF [] [] [(97,1,false)] [] [(0,[0]),(1,[13,0]),(2,[0]),(3,[0]),(4,[])] []),
 (59,ZF [] [] [] [] [(0,[7,0]),(1,[0]),(2,[19,0]),(3,[])] []),
 (61,ZF [] [] [] [] [(0,[2,0]),(1,[3,2,0]),(2,[3,2,0]),(3,[3,2,0]),(4,[2,0]),(5,[2,0]),(6,[])] []),
 (63,ZF [] [] [] [] [(0,[0]),(1,[5,4,3,0]),(2,[4,3,0]),(3,[3]),(4,[2])] []),
 (38,ZF [] [] [(81,1,true),(77,1,true),(83,1,true),(78,1,true),(79,1,true),(82,1,true),(80,1,true)] [] [(0,[3,0]),(1,[11,3,0]),(2,[12,11,3,0]),(3,[]),(4,[17,11,3,0]),(5,[3,0]),(6,[3,0]),(7,[]),(8,[32,11,3,0]),(9,[3,0]),(10,[40,3,0]),(11,[3,0]),(12,[3,0]),(13,[]),(14,[55,11,3,0]),(15,[55,11,3,0]),(16,[55,11,3,0]),(17,[55,11,3,0]),(18,[3,0]),(19,[]),(20,[67,11,3,0]),(21,[3,0]),(22,[75,74,73,0]),(23,[76,75,74,73,0]),(24,[75,74,73,5,0]),(25,[75,74,73,5,0]),(26,[75,74,73,0]),(27,[75,74,73,0]),(28,[102,11,3,0]),(29,[3,0]),(30,[110,109,108,0]),(31,[111,110,109,108,0]),(32,[110,109,108,7,0]),(33,[110,109,108,0]),(34,[110,109,108,0]),(35,[118,11,3,0]),(36,[118,11,3,0]),(37,[3,0]),(38,[127,126,125,0]),(39,[128,127,126,125,0]),(40,[127,126,125,9,0]),(41,[127,126,125,0]),(42,[127,126,125,0]),(43,[135,11,3,0]),(44,[135,3,0]),(45,[])] [(23,[75,74,73,0]),(31,[110,109,108,0]),(39,[127,126,125,0])]),
 (77,ZF [] [] [(104,1,true),(78,1,true),(79,1,true),(80,1,true)] [] [(0,[3,0]),(1,[3,0]),(2,[3,0]),(3,[3,0]),(4,[3,0]),(5,[3,0]),(6,[3,0]),(7,[49,3,0]),(8,[3,0]),(9,[3,0]),(10,[3,0]),(11,[66,3,0]),(12,[3,0]),(13,[72,3,0]),(14,[])] []),
 (104,ZF [] [] [(81,1,true)] [] [(0,[4,0]),(1,[])] []),
 (83,ZF [] [] [(78,1,true),(79,1,true)] [] [(0,[3,0]),(1,[3,0]),(2,[])] []),
 (78,ZF [] [] [(81,1,true)] [] [(0,[])] []),
 (79,ZF [] [] [(81,1,true)] [] [(0,[6,0]),(1,[])] []),
 (82,ZF [] [] [(78,1,true),(79,1,true)] [] [(0,[3,0]),(1,[12,3,0]),(2,[3,0]),(3,[20,3,0]),(4,[])] []),
 (80,ZF [] [] [(81,1,true)] [] [(0,[4,0]),(1,[])] []),
 (12,ZF [] [16] [] [] [(0,[9,1,0]),(1,[1,0]),(2,[])] []),
 (13,ZF [] [] [] [] [(0,[0]),(1,[2])] []),
 (31,ZF [] [] [] [] [(0,[0]),(1,[3,0]),(2,[12,3,0]),(3,[3,0]),(4,[30,3,0]),(5,[2]),(6,[4,0]),(7,[37,4,0]),(8,[4,0]),(9,[55,4,0]),(10,[2]),(11,[5,0]),(12,[62,5,0]),(13,[5,0]),(14,[80,5,0]),(15,[2]),(16,[2])] [(2,[3,0]),(7,[4,0]),(12,[5,0])]),
 (32,ZF [] [] [] [] [(0,[0]),(1,[3,0]),(2,[17,3,0]),(3,[3,0]),(4,[4,3,0]),(5,[29,4,3,0]),(6,[4,3,0]),(7,[4,3,0]),(8,[5,0]),(9,[6,5,0]),(10,[49,6,5,0]),(11,[6,5,0]),(12,[7,6,5,0]),(13,[6,5,0]),(14,[8,5,0]),(15,[76,8,5,0]),(16,[8,5,0]),(17,[9,8,5,0]),(18,[10,9,8,5,0]),(19,[89,10,9,8,5,0]),(20,[10,9,8,5,0]),(21,[116,10,9,8,5,0]),(22,[2]),(23,[141,8,5,0]),(24,[2]),(25,[2])] [(2,[3,0]),(5,[4,3,0]),(10,[6,5,0]),(15,[8,5,0]),(19,[10,9,8,5,0])]),
 (34,ZF [] [] [] [] [(0,[0]),(1,[3,0]),(2,[17,3,0]),(3,[3,0]),(4,[4,3,0]),(5,[29,4,3,0]),(6,[4,3,0]),(7,[4,3,0]),(8,[5,0]),(9,[6,5,0]),(10,[48,6,5,0]),(11,[6,5,0]),(12,[7,6,5,0]),(13,[6,5,0]),(14,[8,5,0]),(15,[73,8,5,0]),(16,[8,5,0]),(17,[9,8,5,0]),(18,[10,9,8,5,0]),(19,[86,10,9,8,5,0]),(20,[10,9,8,5,0]),(21,[111,10,9,8,5,0]),(22,[2]),(23,[134,8,5,0]),(24,[2]),(25,[2])] [(2,[3,0]),(5,[4,3,0]),(10,[6,5,0]),(15,[8,5,0]),(19,[10,9,8,5,0])]),
 (33,ZF [] [] [] [] [(0,[0]),(1,[3,0]),(2,[17,3,0]),(3,[3,0]),(4,[4,3,0]),(5,[29,4,3,0]),(6,[4,3,0]),(7,[4,3,0]),(8,[5,0]),(9,[6,5,0]),(10,[49,6,5,0]),(11,[6,5,0]),(12,[7,6,5,0]),(13,[6,5,0]),(14,[8,5,0]),(15,[76,8,5,0]),(16,[8,5,0]),(17,[9,8,5,0]),(18,[10,9,8,5,0]),(19,[89,10,9,8,5,0]),(20,[10,9,8,5,0]),(21,[116,10,9,8,5,0]),(22,[2]),(23,[141,8,5,0]),(24,[2]),(25,[2])] [(2,[3,0]),(5,[4,3,0]),(10,[6,5,0]),(15,[8,5,0]),(19,[10,9,8,5,0])]),
 (27,ZF [] [] [(73,1,true),(72,1,true)] [] [(0,[8,1,0]),(1,[9,8,1,0]),(2,[]),(3,[14,8,1,0]),(4,[4,1,0]),(5,[19,4,1,0]),(6,[4,1,0]),(7,[1,0]),(8,[1,0]),(9,[]),(10,[37,8,1,0]),(11,[1,0]),(12,[48,1,0]),(13,[1,0]),(14,[1,0]),(15,[0]),(16,[]),(17,[71,8,1,0]),(18,[71,8,1,0]),(19,[71,8,1,0]),(20,[71,8,1,0]),(21,[1,0]),(22,[]),(23,[84,8,1,0]),(24,[84,8,1,0]),(25,[1,0]),(26,[1,0]),(27,[]),(28,[104,8,1,0]),(29,[104,8,1,0]),(30,[1,0]),(31,[1,0]),(32,[]),(33,[124,8,1,0]),(34,[124,1,0]),(35,[])] []),
 (73,ZF [] [] [] [] [(0,[16,1,0]),(1,[1,0]),(2,[31,1,0]),(3,[1,0])] [(2,[1,0])]),
 (65,ZF [] [] [] [] [(0,[7,1,0]),(1,[1,0]),(2,[12,1,0]),(3,[1,0]),(4,[4,1,0]),(5,[4,1,0]),(6,[4,1,0]),(7,[4,1,0]),(8,[4,1,0]),(9,[4,1,0]),(10,[4,1,0]),(11,[87,1,0]),(12,[1,0]),(13,[1,0]),(14,[1,0]),(15,[1,0]),(16,[108,1,0]),(17,[1,0]),(18,[1,0]),(19,[1,0]),(20,[130,1,0]),(21,[1,0]),(22,[139,1,0]),(23,[])] []),
 (100,ZF [] [] [] [] [(0,[0]),(1,[10,0]),(2,[2]),(3,[5,4,3,0]),(4,[21,4,3,0]),(5,[]),(6,[2]),(7,[3]),(8,[2])] []),
 (28,ZF [] [] [] [] [(0,[8,1,0]),(1,[])] []),
 (72,ZF [] [] [] [] [(0,[19,1,0]),(1,[1,0]),(2,[34,1,0]),(3,[4,1,0]),(4,[41,4,1,0]),(5,[1,0]),(6,[5,4,1,0]),(7,[55,5,4,1,0]),(8,[5,4,1,0]),(9,[6,1,0]),(10,[78,6,1,0]),(11,[6,1,0]),(12,[1,0])] [(2,[1,0])]),
 (70,ZF [] [] [] [] [(0,[0]),(1,[3,0]),(2,[7,3,0]),(3,[3]),(4,[2])] []),
 (66,ZF [] [] [] [] [(0,[0]),(1,[2])] []),
 (68,ZF [] [] [] [] [(0,[1,0]),(1,[12,1,0]),(2,[4]),(3,[7,6,5,0]),(4,[24,7,6,5,0]),(5,[]),(6,[4]),(7,[5]),(8,[4])] []),
 (67,ZF [] [] [] [] [(0,[1,0]),(1,[5,1,0]),(2,[11,5,0]),(3,[5]),(4,[4])] []),
 (71,ZF [] [] [] [] [(0,[16,1,0]),(1,[1,0]),(2,[38,1,0]),(3,[])] []),
 (101,ZF [] [] [] [] [(0,[1,0]),(1,[19,1,0]),(2,[1]),(3,[4]),(4,[5,1,0]),(5,[5]),(6,[4])] []),
 (69,ZF [] [] [] [] [(0,[0]),(1,[10,0]),(2,[2]),(3,[5,4,3,0]),(4,[21,4,3,0]),(5,[]),(6,[2]),(7,[3]),(8,[2])] []),
 (99,ZF [] [] [] [] [(0,[0]),(1,[2])] []),
 (85,ZF [] [] [] [] [(0,[2,0]),(1,[])] []),
 (43,ZF [] [] [(85,1,true),(86,1,true),(84,1,true),(87,1,true),(90,1,true),(88,1,true),(89,1,true)] [] [(0,[3,0]),(1,[9,3,0]),(2,[10,9,3,0]),(3,[]),(4,[15,9,3,0]),(5,[3,0]),(6,[3,0]),(7,[]),(8,[32,9,3,0]),(9,[3,0]),(10,[40,3,0]),(11,[3,0]),(12,[3,0]),(13,[]),(14,[53,9,3,0]),(15,[53,9,3,0]),(16,[53,9,3,0]),(17,[53,9,3,0]),(18,[3,0]),(19,[]),(20,[65,9,3,0]),(21,[65,9,3,0]),(22,[]),(23,[71,9,3,0]),(24,[3,0]),(25,[3,0]),(26,[4,3,0]),(27,[85,4,3,0]),(28,[4,3,0]),(29,[5,4,3,0]),(30,[5,4,3,0]),(31,[4,3,0]),(32,[117,9,3,0]),(33,[3,0]),(34,[3,0]),(35,[6,3,0]),(36,[131,6,3,0]),(37,[6,3,0]),(38,[6,3,0]),(39,[141,9,3,0]),(40,[141,3,0]),(41,[3,0]),(42,[3,0]),(43,[7,3,0]),(44,[156,7,3,0]),(45,[7,3,0]),(46,[7,3,0])] [(27,[4,3,0]),(36,[6,3,0]),(44,[7,3,0])]),
 (86,ZF [] [] [(85,1,true)] [] [(0,[])] []),
 (84,ZF [] [] [(85,1,true),(110,1,true),(87,1,true),(88,1,true),(89,1,true)] [] [(0,[3,0]),(1,[3,0]),(2,[4,3,0]),(3,[3,0]),(4,[3,0]),(5,[3,0]),(6,[3,0]),(7,[51,3,0]),(8,[3,0]),(9,[3,0]),(10,[3,0]),(11,[68,3,0]),(12,[3,0]),(13,[74,3,0]),(14,[])] []),
 (110,ZF [] [] [(85,1,true)] [] [(0,[5,4,0]),(1,[])] []),
 (87,ZF [] [] [(85,1,true)] [] [(0,[])] []),
 (90,ZF [] [] [(86,1,true),(87,1,true)] [] [(0,[3,0]),(1,[12,3,0]),(2,[3,0]),(3,[20,3,0]),(4,[])] []),
 (88,ZF [] [] [(85,1,true)] [] [(0,[5,4,0]),(1,[])] []),
 (89,ZF [] [] [(85,1,true)] [] [(0,[])] []),
 (130,ZF [] [] [] [] [(0,[]),(2,[]),(7,[4])] []),
 (143,ZF [] [] [] [] [] []),
 (126,ZF [] [] [] [] [(0,[0]),(1,[6,0]),(2,[3,2]),(3,[3,2])] []),
 (95,ZF [] [] [] [] [(0,[0]),(1,[3,0]),(2,[8,7,6,3]),(3,[9,8,7,6,3]),(4,[8,7,6,5,3]),(5,[8,7,6,3]),(6,[8,7,6,3]),(7,[2])] [(3,[8,7,6,3])]),
 (114,ZF [] [] [(36,1,false)] [] [(0,[0]),(1,[17,0]),(2,[4,3,2]),(3,[3,0]),(4,[4,3,2])] []),
 (98,ZF [] [] [] [] [(0,[0]),(1,[5,4,3]),(2,[12,5,4,3]),(3,[4,3,2]),(4,[16,5,3]),(5,[4,3,2]),(6,[4,3,2])] []),
 (115,ZF [] [] [] [] [(0,[2,0]),(1,[9,8,7,2,0]),(2,[10,9,8,7,2,0]),(3,[9,8,7,6,5,2,0]),(4,[15,9,8,7,6,5,2,0]),(5,[9,8,7,6,5,2,0]),(6,[25,9,8,7,6,5,2,0]),(7,[31,5,2]),(8,[4,3,2]),(9,[4,3,2]),(10,[9,8,7,2,0]),(11,[38]),(12,[4,3,2]),(13,[4,3,2])] [(2,[9,8,7,2,0])]),
 (117,ZF [] [] [] [] [(0,[0]),(1,[6,0]),(2,[8,7,6,0]),(3,[6,4,0]),(4,[11,6,0]),(5,[2]),(6,[2])] [(2,[6,0])]),
 (36,ZF [] [] [] [] [(0,[0]),(1,[3,0]),(2,[8,7,6,3]),(3,[9,8,7,6,3]),(4,[8,7,6,5,3]),(5,[8,7,6,3]),(6,[8,7,6,3]),(7,[2])] [(3,[8,7,6,3])]),
 (105,ZF [] [] [] [] [(0,[1,0]),(1,[12,1,0]),(2,[4]),(3,[5,1,0]),(4,[6,5,0]),(5,[18,6,5,0]),(6,[6,5,0]),(7,[6,5,0]),(8,[6,5,0]),(9,[4])] [(5,[6,5,0])]),
 (107,ZF [] [] [] [] [(0,[0]),(1,[6,0]),(2,[3,2]),(3,[3,2])] []),
 (35,ZF [] [] [] [] [(0,[0]),(1,[10,0]),(2,[3,2]),(3,[4,0]),(4,[12,4,0]),(5,[4,0]),(6,[4,0]),(7,[3,2])] [(4,[4,0])]),
 (22,ZF [] [] [] [] [(0,[3,0]),(1,[4])] []),
 (50,ZF [] [] [] [] [(0,[2,1]),(1,[3])] []),
 (18,ZF [] [] [(38,1,true),(36,1,false),(7,2,false)] [] [(0,[2,1]),(1,[4,2,1]),(2,[4,2,1]),(3,[5,2,1]),(4,[32,5,2,1]),(5,[5,2,1]),(6,[7,6,5,2,1]),(7,[9,7,6,5,2,1]),(8,[73,5,2]),(9,[3,2]),(10,[3,2])] []),
 (16,ZF [] [] [(36,1,false)] [] [(0,[1]),(1,[5,4]),(2,[14,5,4]),(3,[3,2]),(4,[6,4]),(5,[3,2])] []),
 (7,ZF [] [] [] [] [(0,[]),(2,[4,3,2,1]),(3,[4,3,2]),(4,[4,3,2]),(5,[3,2])] []),
 (24,ZF [] [] [] [] [(1,[4]),(2,[]),(3,[7,5]),(4,[]),(6,[3,1,0]),(7,[])] []),
 (21,ZF [] [] [] [] [(0,[3,2]),(1,[5,3,2]),(2,[6,5,3,2]),(3,[7,6,5,3,2]),(4,[8,7,6,5,3,2]),(5,[4])] []),
 (49,ZF [] [] [] [] [(0,[0]),(1,[3]),(2,[4,3]),(3,[2]),(4,[15,3]),(5,[15,3]),(6,[2]),(7,[27,3]),(8,[27,3]),(9,[2]),(10,[33,3]),(11,[2]),(12,[45,3]),(13,[2]),(14,[55,3]),(15,[2]),(16,[66]),(17,[2]),(18,[2])] []),
 (39,ZF [] [] [] [] [(0,[0]),(1,[3]),(2,[4,3]),(3,[4,3]),(4,[4]),(5,[2]),(6,[2])] []),
 (41,ZF [] [] [] [] [(0,[1,0]),(1,[5,1]),(2,[4]),(3,[4])] []),
 (52,ZF [] [] [] [] [(0,[5,1]),(1,[])] []),
 (135,ZF [] [] [] [] [(0,[4,1,0]),(1,[10,9,8,4,0]),(2,[11,10,9,8,4,0]),(3,[10,9,8,7,4,0]),(4,[17,10,9,8,7,4,0]),(5,[5,4]),(6,[10,9,8,4,0]),(7,[5,4])] [(2,[10,9,8,4,0])]),
 (142,ZF [] [] [] [] [(0,[0]),(1,[2])] []),
 (106,ZF [] [] [(36,1,false)] [] [(0,[1,0]),(1,[6,1,0]),(2,[16,15,14,6,1,0]),(3,[17,16,15,14,6,1,0]),(4,[16,15,14,8,6,1,0]),(5,[16,15,14,6,1,0]),(6,[16,15,14,6,1,0]),(7,[10,9,6,1,0]),(8,[32,9,6,1,0]),(9,[5,4]),(10,[6,1,0]),(11,[13,12,11,6,1]),(12,[57,6]),(13,[5,4]),(14,[5,4])] [(3,[16,15,14,6,1,0])]),
 (133,ZF [] [] [] [] [(0,[1,0]),(1,[4])] []),
 (96,ZF [] [] [] [] [(0,[4,1,0]),(1,[9,8,7,4,1,0]),(2,[29,8,7,4,1,0]),(3,[6,5,4]),(4,[10,8,7,4,0]),(5,[38,10,8,7,4,0]),(6,[13,12,11,10,8,7,4,0]),(7,[48,13,12,11,10,8,7,4,0]),(8,[6,5,4]),(9,[12,10,8,7,4,0]),(10,[10,8,7,4,0]),(11,[6,5,4])] [(5,[10,8,7,4,0])]),
 (47,ZF [] [] [] [] [(0,[1,0]),(1,[4])] []),
 (92,ZF [] [] [] [] [(0,[3,2]),(1,[4])] []),
 (147,ZF [] [] [] [] [(0,[0]),(1,[3,0]),(2,[8,7,6,3]),(3,[9,8,7,6,3]),(4,[8,7,6,5,3]),(5,[8,7,6,3]),(6,[8,7,6,3]),(7,[2])] [(3,[8,7,6,3])]),
 (145,ZF [] [] [] [] [(0,[2,1]),(1,[2,1]),(2,[2])] []),
 (137,ZF [] [] [] [] [(0,[1]),(1,[4,1]),(2,[5,4,1]),(3,[5,4,1]),(4,[5,4,1]),(5,[5,1]),(6,[2]),(7,[2])] []),
 (127,ZF [] [] [] [] [(0,[1]),(1,[3,1]),(2,[6,5,3,1]),(3,[15,6,5,3,1]),(4,[16,15,6,5,3,1]),(5,[16,15,6,5,3,1]),(6,[16,15,6,5,3,1]),(7,[6,5,3]),(8,[29,15,6,5,3,1]),(9,[6,5,3]),(10,[37,15,6,5,3,1]),(11,[6,5,3]),(12,[45,15,6,5,3,1]),(13,[6,5,3]),(14,[53,6,5,3,1]),(15,[5,3,1]),(16,[6,5,3]),(17,[2])] []),
 (144,ZF [] [] [] [] [(0,[2,0]),(1,[3,2]),(2,[4,3,2]),(3,[2]),(4,[9,3,2]),(5,[2]),(6,[14,3,2]),(7,[14,3,2]),(8,[2]),(9,[20,3,2]),(10,[2]),(11,[25,3,2]),(12,[2]),(13,[30,3,2]),(14,[2]),(15,[35,3,2]),(16,[35,3,2]),(17,[2]),(18,[41,3,2]),(19,[2]),(20,[46,3,2]),(21,[2]),(22,[51,3,2]),(23,[2]),(24,[56,3,2]),(25,[56,3,2]),(26,[2]),(27,[62,3,2]),(28,[2]),(29,[67,3,2]),(30,[2]),(31,[72,3,2]),(32,[2]),(33,[77,3,2]),(34,[77,3,2]),(35,[2]),(36,[83,3,2]),(37,[2]),(38,[88,3,2]),(39,[2]),(40,[93,3,2]),(41,[93,3,2]),(42,[93,3,2]),(43,[93,3,2]),(44,[93,3,2]),(45,[2]),(46,[102,2]),(47,[2]),(48,[2])] []),
 (136,ZF [] [] [] [] [(0,[1,0]),(1,[4])] []),
 (116,ZF [] [] [] [] [(0,[6,2,1,0]),(1,[11,10,9,6,2,1,0]),(2,[28,10,9,6,2,1,0]),(3,[8,7,6]),(4,[12,10,9,7,6,2,0]),(5,[14,12,10,9,7,6,0]),(6,[45,14,10,9,7,6,0]),(7,[8,7,6]),(8,[49,10,9,7,6]),(9,[8,7,6]),(10,[58,10,9,7,6]),(11,[8,7,6]),(12,[65,6]),(13,[8,7,6]),(14,[8,7,6])] []),
 (134,ZF [] [] [] [] [(0,[5,4,1,0]),(1,[5,4,1,0]),(2,[7,5,4,1,0]),(3,[12,7,5,4,1,0]),(4,[13,12,7,5,4,1,0]),(5,[13,12,7,5,4,1,0]),(6,[13,12,7,5,4,1,0]),(7,[7,5,4,1]),(8,[24,7,5,4,1]),(9,[6,5,4]),(10,[7,5,4]),(11,[32,12,7,5,4,1]),(12,[7,5,4]),(13,[41,12,7,5,4,1]),(14,[7,5,4]),(15,[50,12,7,5,4,1]),(16,[7,5,4]),(17,[59,7,5,4,1]),(18,[7,5,4,1]),(19,[69,7,5,4,1]),(20,[5,4,1]),(21,[8,7,5,4]),(22,[7,5,4]),(23,[6,5,4])] []),
 (48,ZF [] [] [] [] [(0,[1,0]),(1,[4])] []),
 (91,ZF [] [] [] [] [(0,[2,1,0]),(1,[14,2,1,0]),(2,[6]),(3,[17,16,15,2,1]),(4,[18,17,16,15,2,1]),(5,[17,16,15,8,7,2,1]),(6,[17,16,15,9,8,2,1]),(7,[30,17,16,15,2,1]),(8,[6]),(9,[17,16,15,2,1]),(10,[6])] [(4,[17,16,15,2,1])]),
 (44,ZF [] [] [] [] [(0,[1,0]),(1,[10,1,0]),(2,[4]),(3,[13,12,1,0]),(4,[14,13,12,1,0]),(5,[13,12,5,1,0]),(6,[24,13,12,1,0]),(7,[4]),(8,[13,12,1,0]),(9,[4])] [(4,[13,12,1,0])]),
 (45,ZF [] [] [] [] [(0,[1,0]),(1,[10,1,0]),(2,[4]),(3,[13,12,1,0]),(4,[14,13,12,1,0]),(5,[13,12,5,1,0]),(6,[24,13,12,1,0]),(7,[4]),(8,[13,12,1,0]),(9,[4])] [(4,[13,12,1,0])]),
 (46,ZF [] [] [] [] [(0,[1,0]),(1,[10,1,0]),(2,[4]),(3,[13,12,1,0]),(4,[14,13,12,1,0]),(5,[13,12,5,1,0]),(6,[24,13,12,1,0]),(7,[4]),(8,[13,12,1,0]),(9,[4])] [(4,[13,12,1,0])]),
 (93,ZF [] [] [] [] [(0,[1,0]),(1,[8,7,1,0]),(2,[9,8,7,1,0]),(3,[8,7,5,1,0]),(4,[16,8,7,5,1,0]),(5,[4]),(6,[8,7,1,0]),(7,[4])] [(2,[8,7,1,0])]),
 (11,ZF [] [] [] [] [(0,[1,0]),(1,[10,1,0]),(2,[4]),(3,[5,1,0]),(4,[30,0]),(5,[4]),(6,[6,0]),(7,[34,6,0]),(8,[6,0]),(9,[6,0]),(10,[4])] [(7,[6,0])]),
 (5,ZF [] [] [] [] [(0,[1,0]),(1,[8,1,0]),(2,[4]),(3,[4])] []),
 (76,ZF [] [] [] [] [(0,[1,0]),(1,[10,1,0]),(2,[4]),(3,[5,1,0]),(4,[14,5,1,0]),(5,[5,1,0]),(6,[25,5,1,0]),(7,[4]),(8,[4])] [(4,[5,1,0])]),
 (6,ZF [] [] [] [] [(0,[0]),(1,[3,0]),(2,[3,0]),(3,[3,0]),(4,[2])] []),
 (20,ZF [] [] [] [] [(0,[1,0]),(1,[4])] []),
 (30,ZF [] [] [] [] [(0,[0]),(1,[3,0]),(2,[2])] []),
 (75,ZF [] [] [] [] [(0,[1,0]),(1,[10,1,0]),(2,[4]),(3,[5,1,0]),(4,[14,5,1,0]),(5,[5,1,0]),(6,[25,5,1,0]),(7,[4]),(8,[4])] [(4,[5,1,0])]),
 (15,ZF [] [] [] [] [(0,[2,1]),(1,[6,2,1]),(2,[2,1]),(3,[14,2,1]),(4,[2,1]),(5,[22,2,1]),(6,[2,1]),(7,[30,2,1]),(8,[2,1]),(9,[39,2,1]),(10,[2,1]),(11,[2,1]),(12,[2])] []),
 (4,ZF [] [] [(12,2,true),(18,1,false),(16,1,false)] [] [(0,[5,4,3,2]),(1,[5,4,3,2]),(2,[10,9,5,4,3,2]),(3,[12,11,10,9,5,4,3,2]),(4,[14,13,12,11,10,9,5,4,3,2]),(5,[16,15,14,13,12,11,10,9,5,4,3,2]),(6,[72,13,9,5,4,3,2]),(7,[8]),(8,[17,13,9,5,4,3,2]),(9,[17,13,5,4,3,2]),(10,[17,5,4,3,2]),(11,[8])] []),
 (3,ZF [] [] [(12,2,true),(7,2,false),(6,1,false)] [] [(0,[1]),(1,[1]),(2,[3,1]),(3,[5,4,3,1]),(4,[7,6,5,4,3,1]),(5,[52,4]),(6,[2]),(7,[8,4]),(8,[8,4]),(9,[8,4]),(10,[8]),(11,[2])] []),
 (10,ZF [] [] [] [] [(0,[0]),(1,[2])] []),
 (14,ZF [] [] [] [] [(0,[]),(1,[2,1]),(2,[4,3,2,1]),(3,[0])] []),
 (131,ZF [] [] [(113,1,false)] [] [(0,[0]),(1,[6,0]),(2,[3,2]),(3,[3,2])] []),
 (118,ZF [] [] [] [] [(0,[0]),(1,[3,0]),(2,[4,3,0]),(3,[8,4,3,0]),(4,[4,3,0]),(5,[4,3,0]),(6,[2])] [(3,[4,3,0])]),
 (119,ZF [] [] [] [] [(0,[0]),(1,[8,0]),(2,[4,3,2]),(3,[5,0]),(4,[17,5,0]),(5,[4,3,2]),(6,[4,3,2])] []),
 (103,ZF [] [] [] [] [(0,[0]),(1,[7,6,5]),(2,[15,7,6,5]),(3,[4,3,2]),(4,[20,6,5]),(5,[4,3,2]),(6,[4,3,2])] []),
 (120,ZF [] [] [] [] [(0,[0]),(1,[6,5,0]),(2,[7,6,5,0]),(3,[9,7,6,5,0]),(4,[7,6,5,0]),(5,[15,7,6,5,0]),(6,[4,3,2]),(7,[7,6,5,0]),(8,[7,6,5,0]),(9,[32,7,6,5,0]),(10,[41,7,5]),(11,[4,3,2]),(12,[4,3,2]),(13,[4,3,2])] [(3,[7,6,5,0])]),
 (125,ZF [] [] [] [] [(0,[0]),(1,[6,0]),(2,[4,3,0]),(3,[17,4,0]),(4,[2]),(5,[0]),(6,[2])] [(1,[0])]),
 (113,ZF [] [] [] [] [(0,[1,0]),(1,[12,1,0]),(2,[4]),(3,[5,1,0]),(4,[6,5,0]),(5,[18,6,5,0]),(6,[6,5,0]),(7,[6,5,0]),(8,[6,5,0]),(9,[4])] [(5,[6,5,0])]),
 (112,ZF [] [] [(131,1,false)] [] [(0,[0]),(1,[6,0]),(2,[3,2]),(3,[3,2])] []),
 (37,ZF [] [] [] [] [(0,[0]),(1,[10,0]),(2,[3,2]),(3,[4,0]),(4,[12,4,0]),(5,[4,0]),(6,[4,0]),(7,[3,2])] [(4,[4,0])]),
 (141,ZF [] [] [] [] [(0,[0]),(1,[4,0]),(2,[4,0]),(3,[3,2]),(4,[11,4,0]),(5,[3,2]),(6,[15,4,0]),(7,[6,5,4,0]),(8,[24,4,0]),(9,[6,5,4,0]),(10,[33,4,0]),(11,[6,5,4,0]),(12,[45,6,5,4,0]),(13,[3,2]),(14,[7,6,5,4,0]),(15,[48,7,6,5,4,0]),(16,[7,6,5,4,0]),(17,[60,7,6,5,4,0]),(18,[3,2]),(19,[7,6,5,4,0]),(20,[83,5,4]),(21,[3,2]),(22,[3,2])] [(15,[7,6,5,4,0])]),
 (74,ZF [] [] [] [] [(0,[3,2]),(1,[4])] []),
 (111,ZF [] [] [] [] [(0,[0]),(1,[4,0]),(2,[5,4,0]),(3,[14,5,4,0]),(4,[5,4,0]),(5,[6,5,4,0]),(6,[28,6,5,4,0]),(7,[3,2]),(8,[6,5,4,0]),(9,[8,7,5,4,0]),(10,[41,7,5,4,0]),(11,[3,2]),(12,[5,4,0]),(13,[10,9,4]),(14,[3,2])] [(3,[5,4,0])]),
 (123,ZF [] [] [] [] [(0,[4,1,0]),(1,[6,4,1,0]),(2,[10,6,4,1,0]),(3,[6,4,1,0]),(4,[19,6,4,1,0]),(5,[5,4]),(6,[5,4])] [(2,[6,4,1,0])]),
 (140,ZF [] [] [] [] [(0,[0]),(1,[3]),(2,[4,3]),(3,[4,3]),(4,[4,3]),(5,[4,3]),(6,[4,3]),(7,[4,3]),(8,[4,3]),(9,[4,3]),(10,[2]),(11,[13,3]),(12,[13,3]),(13,[13,3]),(14,[13,3]),(15,[2]),(16,[18,3]),(17,[18,3]),(18,[18,3]),(19,[18,3]),(20,[2]),(21,[23,3]),(22,[2]),(23,[25,3]),(24,[25,3]),(25,[25,3]),(26,[25,3]),(27,[25,3]),(28,[25,3]),(29,[25,3]),(30,[2]),(31,[33,3]),(32,[33,3]),(33,[2]),(34,[36]),(35,[2]),(36,[2])] []),
 (121,ZF [] [] [] [] [(0,[1,0]),(1,[5,1]),(2,[6,5,1]),(3,[6,5,1]),(4,[6,5,1]),(5,[6,5,1]),(6,[6,5,1]),(7,[4]),(8,[15,5,1]),(9,[4]),(10,[20,5,1]),(11,[4]),(12,[25,5,1]),(13,[25,5,1]),(14,[25,5,1]),(15,[25,5,1]),(16,[25,5,1]),(17,[25,5,1]),(18,[25,5,1]),(19,[25,5,1]),(20,[4]),(21,[36,5,1]),(22,[36,5,1]),(23,[4]),(24,[42,5,1]),(25,[42,5,1]),(26,[4]),(27,[47,5,1]),(28,[4]),(29,[51,5,1]),(30,[4]),(31,[56,5,1]),(32,[4]),(33,[61,5,1]),(34,[61,5,1]),(35,[61,5,1]),(36,[4]),(37,[68,5,1]),(38,[4]),(39,[72,1]),(40,[4]),(41,[4])] []),
 (102,ZF [] [] [] [] [(0,[1,0]),(1,[9,8,7,1,0]),(2,[36,8,7,1,0]),(3,[6,5,4]),(4,[10,8,7,0]),(5,[11,10,8,7,0]),(6,[45,11,10,8,7,0]),(7,[14,13,12,11,10,8,7,0]),(8,[59,13,12,11,10,8,7,0]),(9,[6,5,4]),(10,[17,16,15,13,12,11,10,8,7,0]),(11,[70,16,15,13,12,11,10,8,7,0]),(12,[6,5,4]),(13,[19,16,15,13,12,11,10,8,7,0]),(14,[90,16,15,13,12,11,10,8,7,0]),(15,[6,5,4]),(16,[20,16,15,13,11,10,8,7,0]),(17,[96,20,16,15,13,11,10,8,7,0]),(18,[6,5,4]),(19,[16,13,11,10,8,7,0]),(20,[11,10,8,7,0]),(21,[6,5,4])] [(6,[11,10,8,7,0])]),
 (29,ZF [] [] [] [] [(0,[1,0]),(1,[10,1,0]),(2,[4]),(3,[5,1,0]),(4,[14,5,1,0]),(5,[5,1,0]),(6,[26,5,1,0]),(7,[4]),(8,[4])] [(4,[5,1,0])]),
 (139,ZF [] [] [] [] [(0,[1,0]),(1,[5,1,0]),(2,[9,5,1,0]),(3,[5,1,0]),(4,[17,5,1,0]),(5,[4]),(6,[4])] [(2,[5,1,0])]),
 (132,ZF [] [] [(112,1,false)] [] [(0,[1]),(1,[16,1]),(2,[17,16,1]),(3,[3,2]),(4,[31,16,1]),(5,[3,2]),(6,[45,16,1]),(7,[3,2]),(8,[59,16,1]),(9,[5,4]),(10,[3,2]),(11,[70,16,1]),(12,[7,6]),(13,[3,2]),(14,[81,16,1]),(15,[9,8]),(16,[3,2]),(17,[92,1]),(18,[11,10,1]),(19,[13,12,11,10]),(20,[3,2]),(21,[3,2])] []),
 (124,ZF [] [] [] [] [(0,[1,0]),(1,[5,1]),(2,[6,5,1]),(3,[6,5,1]),(4,[6,5,1]),(5,[6,5,1]),(6,[6,5,1]),(7,[6,5,1]),(8,[6,5,1]),(9,[6,5,1]),(10,[16]),(11,[4]),(12,[17,5,1]),(13,[17,5,1]),(14,[17,5,1]),(15,[22]),(16,[4]),(17,[23,1]),(18,[26]),(19,[4]),(20,[4])] []),
 (122,ZF [] [] [] [] [(0,[4,1,0]),(1,[7,4,1,0]),(2,[8,7,4,1,0]),(3,[26,8,7,4,1]),(4,[27,26,8,7,4,1]),(5,[8,7,4,1]),(6,[29,26,8,7,4,1]),(7,[8,7,4,1]),(8,[31,26,8,7,4,1]),(9,[8,7,4,1]),(10,[33,26,8,7,4,1]),(11,[11,10,9,7,4]),(12,[11,10,7,4]),(13,[6,5,4]),(14,[47,26,8,7,4,1]),(15,[14,13,12,7,4]),(16,[14,13,7,4]),(17,[6,5,4]),(18,[61,26,8,7,4,1]),(19,[17,16,15,7,4]),(20,[17,16,7,4]),(21,[6,5,4]),(22,[77,8,7,4,1]),(23,[20,19,18,7,4,1]),(24,[86,19,18,7,4,1]),(25,[6,5,4]),(26,[22,21,20,19,18,7,4]),(27,[22,20,19,7,4]),(28,[6,5,4]),(29,[109,8,7,4,1]),(30,[6,5,4]),(31,[8,7,4]),(32,[6,5,4])] []),
 (23,ZF [] [] [] [] [(0,[1,0]),(1,[5,1]),(2,[6,5,1]),(3,[4]),(4,[11,5,1]),(5,[11,5,1]),(6,[4]),(7,[17,5,1]),(8,[17,5,1]),(9,[4]),(10,[26,5,1]),(11,[4]),(12,[31,5,1]),(13,[4]),(14,[36,5,1]),(15,[4]),(16,[41,1]),(17,[4]),(18,[4])] []),
 (19,ZF [] [] [(43,1,true)] [] [(0,[2,1]),(1,[16,2,1]),(2,[3,2]),(3,[4,2,1]),(4,[19,4,2,1]),(5,[20,19,4,2,1]),(6,[20,19,4,2,1]),(7,[20,19,4,2,1]),(8,[4,2,1]),(9,[24,4,2,1]),(10,[4,2,1]),(11,[5,4,2,1]),(12,[5,4,2,1]),(13,[6,5,2,1]),(14,[8,7,6,5,2,1]),(15,[72,6,2]),(16,[3,2]),(17,[3,2])] []),
 (17,ZF [] [] [] [] [(0,[1]),(1,[5,4]),(2,[14,5,4]),(3,[3,2]),(4,[7,6,4]),(5,[24,6,4]),(6,[3,2]),(7,[3,2])] []),
 (8,ZF [] [] [(27,1,true)] [] [(0,[2,1]),(1,[4,2,1]),(2,[5,4,2,1]),(3,[6,5,4,2,1]),(4,[29,6,5,4,2,1]),(5,[6,5,4,2,1]),(6,[53,5,4,2,1]),(7,[3,2]),(8,[57,5,4,2,1]),(9,[5,4,2,1]),(10,[5,4,2,1]),(11,[4,2,1]),(12,[76,4,2,1]),(13,[3,2]),(14,[7,4,2]),(15,[7,4,2]),(16,[96,7,4,2]),(17,[7,4,2]),(18,[103,7,4,2]),(19,[3,2]),(20,[3,2])] []),
 (9,ZF [] [] [] [] [(0,[3,2]),(1,[112,3,2]),(2,[4]),(3,[163,3,2]),(4,[4]),(5,[5,3,2]),(6,[168,5,3,2]),(7,[5,3,2]),(8,[181,5,3,2]),(9,[4]),(10,[6,3,2]),(11,[186,6,3,2]),(12,[6,3,2]),(13,[199,6,3,2]),(14,[4]),(15,[7,3,2]),(16,[204,7,3,2]),(17,[7,3,2]),(18,[217,7,3,2]),(19,[4]),(20,[9,8]),(21,[4])] [(6,[5,3,2]),(11,[6,3,2]),(16,[7,3,2])]),
 (51,ZF [] [] [] [] [(0,[1,0]),(1,[5,1,0]),(2,[10,5,1,0]),(3,[5,1,0]),(4,[27,5,1,0]),(5,[4]),(6,[4])] [(2,[5,1,0])]),
 (42,ZF [] [] [] [] [(0,[1,0]),(1,[5,1]),(2,[4]),(3,[4])] []),
 (1000000,{})]
def ann:Nat->Ann:=ZfZ {} ZTf
def ZG9:List (Nat×Bool):=[
 (11,true),
 (12,true),
 (30,true),
 (7,true),(7+2000000,true),
 (96,true),(96+2000000,true),
 (116,true),(116+3000000,true),
 (134,true),(134+3000000,true),
 (1000000,false)]
def BY:Nat->Bool:=ZfZ false ZG9
noncomputable def CF:Nat->Option ZM:=ZkQ Tryz.prog ann
noncomputable def FC:Nat->Option ZM:=fun f=>(CF f).map Zm4
def Zw5:List (Nat×Option (List AVal->Za->Option (AVal×Za))):=[
 (97,some (ZkY 1 1)),
 (138,some (ZsF)),
 (7,some (Zle)),
 (81,some (Zle)),
 (32,some (Zlr)),
 (1000000,none)]
def PR:ZcR:=ZfZ none Zw5
theorem xw(c d:Zf)(h:c=d)(m:Nat)(tm:Tms)(G:Za):evC FC PR BY m c tm G=evC FC PR BY m d tm G:=by rw[h]
def pcA:List Nat->Zf->Zf
 |0::p,.seq a _ |0::p,.cond _ a _ |_::p,.block _ a |_::p,.loop _ a=>pcA p a
 |_::p,.seq _ b |_::p,.cond _ _ b=>pcA p b
 |_,c=>c
def prA(x:Zf):List Nat->Zf->Zf
 | [],_=>x
 |0::p,.seq a b=>.seq (prA x p a) b
 |_::p,.seq a b=>.seq a (prA x p b)
 |0::p,.cond c a b=>.cond c (prA x p a) b
 |_::p,.cond c a b=>.cond c a (prA x p b)
 |_::p,.block i a=>.block i (prA x p a)
 |_::p,.loop l a=>.loop l (prA x p a)
 |_,c=>c
noncomputable def ZMe(n:Nat)(p:List Nat)(q:List (List Nat×Zf)):Zf:=match FC n with
 |some f=>q.foldl (fun c x=>prA x.2 x.1 c) (pcA p f.body)
 |none=>.stuck
def Zb(n:Nat)(p:List Nat)(q:List (List Nat×Zf)){c:Zf}(_:ZMe n p q=c):Zf:=c
theorem zi(n:Nat):Int.ofNat (no_index (@OfNat.ofNat Nat n (instOfNatNat n)))=@OfNat.ofNat Int n instOfNat:=rfl
theorem zb(n:Nat)(h:n<2^8):UInt8.ofBitVec (BitVec.ofFin (Fin.mk n h))=@OfNat.ofNat UInt8 n UInt8.instOfNat:=by
 apply Xa8.1;simp[UInt8.toNat];omega
noncomputable abbrev E:ZS:=EV FC PR BY
theorem Zg{f:Nat}{fn:ZM}(hp:PR f=none)(hf:FC f=some fn)(args:List AVal)(G:Za):E f args G=Zax G.length fn (evC FC PR BY G.length fn.body (enterA 0 args []) G):=ZyL hp hf args G
end
section
def ZoZ:Zf:=(.seq (.region [oM 18 3,oM 2 18] none [2]) .ret)
@[irreducible] def Zqb:Zf:=ZoZ
def ZJZ:=xw Zqb ZoZ (by kernel_rfl)
def ZlO:Zf:=by apply Zb 95 [1,1,0,1,0,0] [];conv=>lhs;reduce;dsimp only[zi]
@[irreducible] def ZrK:Zf:=ZlO
def ZAs:=xw ZrK ZlO (by kernel_rfl)
def Zs0:Zf:=by apply Zb 95 [] [([1,1,0,1,0,0],ZrK),([1,1,1],Zqb)];conv=>lhs;reduce;dsimp only[zi]
def Zof:ZM:=⟨[(.tmp 2)],Zs0⟩
theorem ZDE:FC 95=some Zof:=by kernel_rfl
theorem ZQY:Zof.body=Zs0:=rfl
theorem ZNS:Zof.res=[(.tmp 2)]:=rfl
noncomputable def Zn0(m:Nat)(tm:Tms)(G:Za):Option (AVal×Za):=(Zax m Zof (Zb0 FC PR BY m Zqb (Wf (Zbm 0) (evL FC PR BY m [8,7,6,3] ZrK tm G))))
def ZjZ:Zf:=by apply Zb 114 [] [];conv=>lhs;reduce;dsimp only[zi]
def ZrN:ZM:=⟨[(.tmp 2),(.tmp 3),(.tmp 4)],ZjZ⟩
theorem ZrV:FC 114=some ZrN:=by kernel_rfl
theorem Zq7:ZrN.body=ZjZ:=rfl
theorem Zsb:ZrN.res=[(.tmp 2),(.tmp 3),(.tmp 4)]:=rfl
def Zlw:Zf:=by apply Zb 98 [] [];conv=>lhs;reduce;dsimp only[zi]
def Zqu:ZM:=⟨[(.tmp 2),(.tmp 3),(.tmp 4)],Zlw⟩
theorem Zwp:FC 98=some Zqu:=by kernel_rfl
theorem ZsX:Zqu.body=Zlw:=rfl
theorem Zpu:Zqu.res=[(.tmp 2),(.tmp 3),(.tmp 4)]:=rfl
def Zlh:Zf:=by apply Zb 115 [1,1] [];conv=>lhs;reduce;dsimp only[zi]
@[irreducible] def ZpE:Zf:=Zlh
def Zo9:=xw ZpE Zlh (by kernel_rfl)
def ZgD:Zf:=by apply Zb 115 [1,0,1,0,0] [];conv=>lhs;reduce;dsimp only[zi]
@[irreducible] def Ztq:Zf:=ZgD
def ZhX:=xw Ztq ZgD (by kernel_rfl)
def Zt1:Zf:=by apply Zb 115 [] [([1,0,1,0,0],Ztq),([1,1],ZpE)];conv=>lhs;reduce;dsimp only[zi]
def Zn2:ZM:=⟨[(.tmp 2),(.tmp 3),(.tmp 4)],Zt1⟩
theorem ZKx:FC 115=some Zn2:=by kernel_rfl
theorem ZHi:Zn2.body=Zt1:=rfl
theorem Zjc:Zn2.res=[(.tmp 2),(.tmp 3),(.tmp 4)]:=rfl
noncomputable def Zi1(m:Nat)(tm:Tms)(G:Za):Option (AVal×Za):=(Zax m Zn2 (Zb0 FC PR BY m ZpE (Wf (Zbm 0) (evL FC PR BY m [9,8,7,2,0] Ztq tm G))))
def Zts:Zf:=(.seq (.region [oM 12 0,oI 13 (.call 138 0 true [(.t 12)]),oM 2 13] none [2]) .ret)
@[irreducible] def Ztw:Zf:=Zts
def ZPA:=xw Ztw Zts (by kernel_rfl)
def Zlg:Zf:=by apply Zb 117 [1,0,1,0,0] [];conv=>lhs;reduce;dsimp only[zi]
@[irreducible] def Zo7:Zf:=Zlg
def Zrk:=xw Zo7 Zlg (by kernel_rfl)
def Zpg:Zf:=by apply Zb 117 [] [([1,0,1,0,0],Zo7),([1,1],Ztw)];conv=>lhs;reduce;dsimp only[zi]
def ZlM:ZM:=⟨[(.tmp 2)],Zpg⟩
theorem ZPm:FC 117=some ZlM:=by kernel_rfl
theorem ZC2:ZlM.body=Zpg:=rfl
theorem Zu6:ZlM.res=[(.tmp 2)]:=rfl
noncomputable def Zmt(m:Nat)(tm:Tms)(G:Za):Option (AVal×Za):=(Zax m ZlM (Zb0 FC PR BY m Ztw (Wf (Zbm 0) (evL FC PR BY m [6,0] Zo7 tm G))))
def ZtM:Zf:=(.seq (.region [oM 16 3,oM 2 16] none [2]) .ret)
@[irreducible] def Zqc:Zf:=ZtM
def ZKu:=xw Zqc ZtM (by kernel_rfl)
def ZkF:Zf:=by apply Zb 36 [1,1,0,1,0,0] [];conv=>lhs;reduce;dsimp only[zi]
@[irreducible] def ZtE:Zf:=ZkF
def Zrh:=xw ZtE ZkF (by kernel_rfl)
def Zrj:Zf:=by apply Zb 36 [] [([1,1,0,1,0,0],ZtE),([1,1,1],Zqc)];conv=>lhs;reduce;dsimp only[zi]
def Zl5:ZM:=⟨[(.tmp 2)],Zrj⟩
theorem ZPX:FC 36=some Zl5:=by kernel_rfl
theorem ZTs:Zl5.body=Zrj:=rfl
theorem ZSv:Zl5.res=[(.tmp 2)]:=rfl
noncomputable def Zom(m:Nat)(tm:Tms)(G:Za):Option (AVal×Za):=(Zax m Zl5 (Zb0 FC PR BY m Zqc (Wf (Zbm 0) (evL FC PR BY m [8,7,6,3] ZtE tm G))))
def Zs3:Zf:=(.seq (.region [oM 19 3,oM 2 19] none [2]) .ret)
@[irreducible] def ZqX:Zf:=Zs3
def ZD4:=xw ZqX Zs3 (by kernel_rfl)
def ZmG:Zf:=by apply Zb 118 [1,1,0,1,0,0] [];conv=>lhs;reduce;dsimp only[zi]
@[irreducible] def ZpL:Zf:=ZmG
def ZzN:=xw ZpL ZmG (by kernel_rfl)
def ZoS:Zf:=by apply Zb 118 [] [([1,1,0,1,0,0],ZpL),([1,1,1],ZqX)];conv=>lhs;reduce;dsimp only[zi]
def Zoz:ZM:=⟨[(.tmp 2)],ZoS⟩
theorem ZIL:FC 118=some Zoz:=by kernel_rfl
theorem ZT0:Zoz.body=ZoS:=rfl
theorem ZDu:Zoz.res=[(.tmp 2)]:=rfl
noncomputable def ZoB(m:Nat)(tm:Tms)(G:Za):Option (AVal×Za):=(Zax m Zoz (Zb0 FC PR BY m ZqX (Wf (Zbm 0) (evL FC PR BY m [4,3,0] ZpL tm G))))
def Zj8:Zf:=by apply Zb 119 [] [];conv=>lhs;reduce;dsimp only[zi]
def ZpK:ZM:=⟨[(.tmp 2),(.tmp 3),(.tmp 4)],Zj8⟩
theorem Zuj:FC 119=some ZpK:=by kernel_rfl
theorem ZpB:ZpK.body=Zj8:=rfl
theorem ZtL:ZpK.res=[(.tmp 2),(.tmp 3),(.tmp 4)]:=rfl
def Zll:Zf:=by apply Zb 103 [] [];conv=>lhs;reduce;dsimp only[zi]
def ZrP:ZM:=⟨[(.tmp 2),(.tmp 3),(.tmp 4)],Zll⟩
theorem ZzU:FC 103=some ZrP:=by kernel_rfl
theorem Zqm:ZrP.body=Zll:=rfl
theorem ZqY:ZrP.res=[(.tmp 2),(.tmp 3),(.tmp 4)]:=rfl
def ZnD:Zf:=(.seq (.region [oI 2 (.mov (.c (.int .i64 0))),oI 3 (.mov (.c (.int .i64 0))),oI 4 (.mov (.c (.int .i64 12)))] none [4,3,2]) .ret)
@[irreducible] def Zsv:Zf:=ZnD
def Zzb:=xw Zsv ZnD (by kernel_rfl)
def ZgQ:Zf:=by apply Zb 120 [1,1,0,1,0,0] [];conv=>lhs;reduce;dsimp only[zi]
@[irreducible] def ZtR:Zf:=ZgQ
def Zix:=xw ZtR ZgQ (by kernel_rfl)
def ZrO:Zf:=by apply Zb 120 [] [([1,1,0,1,0,0],ZtR),([1,1,1],Zsv)];conv=>lhs;reduce;dsimp only[zi]
def Znh:ZM:=⟨[(.tmp 2),(.tmp 3),(.tmp 4)],ZrO⟩
theorem ZRj:FC 120=some Znh:=by kernel_rfl
theorem ZGF:Znh.body=ZrO:=rfl
theorem Zje:Znh.res=[(.tmp 2),(.tmp 3),(.tmp 4)]:=rfl
noncomputable def ZgA(m:Nat)(tm:Tms)(G:Za):Option (AVal×Za):=(Zax m Znh (Zb0 FC PR BY m Zsv (Wf (Zbm 0) (evL FC PR BY m [7,6,5,0] ZtR tm G))))
def Zsd:Zf:=(.seq (.region [oI 2 (.mov (.c (.bool true)))] none [2]) .ret)
@[irreducible] def Ztf:Zf:=Zsd
def ZM5:=xw Ztf Zsd (by kernel_rfl)
def Zjj:Zf:=by apply Zb 125 [1,0,0,0] [];conv=>lhs;reduce;dsimp only[zi]
@[irreducible] def Zuf:Zf:=Zjj
def ZmH:=xw Zuf Zjj (by kernel_rfl)
def ZqL:Zf:=(.seq (.region [oI 2 (.mov (.c (.bool false)))] none [0]) (.seq (.block 0 (.loop [0] Zuf)) Ztf))
def ZnU:ZM:=⟨[(.tmp 2)],ZqL⟩
theorem ZDF:FC 125=some ZnU:=by kernel_rfl
theorem ZEy:ZnU.body=ZqL:=rfl
theorem ZqP:ZnU.res=[(.tmp 2)]:=rfl
noncomputable def Zlb(m:Nat)(tm:Tms)(G:Za):Option (AVal×Za):=(Zax m ZnU (Zb0 FC PR BY m Ztf (Wf (Zbm 0) (evL FC PR BY m [0] Zuf tm G))))
def ZhS:Zf:=by apply Zb 141 [1,1,1,1,1,1] [];conv=>lhs;reduce;dsimp only[zi]
@[irreducible] def ZpU:Zf:=ZhS
def Zk8:=xw ZpU ZhS (by kernel_rfl)
def ZfD:Zf:=by apply Zb 141 [1,1,1,1,1,0,1,0,0] [];conv=>lhs;reduce;dsimp only[zi]
@[irreducible] def ZpS:Zf:=ZfD
def ZgZ:=xw ZpS ZfD (by kernel_rfl)
def Zfs:Zf:=by apply Zb 141 [] [([1,1,1,1,1,0,1,0,0],ZpS),([1,1,1,1,1,1],ZpU)];conv=>lhs;reduce;dsimp only[zi]
def Zn7:ZM:=⟨[(.tmp 2),(.tmp 3)],Zfs⟩
theorem ZIp:FC 141=some Zn7:=by kernel_rfl
theorem ZgS:Zn7.body=Zfs:=rfl
theorem Zdt:Zn7.res=[(.tmp 2),(.tmp 3)]:=rfl
noncomputable def Zho(m:Nat)(tm:Tms)(G:Za):Option (AVal×Za):=(Zax m Zn7 (Zb0 FC PR BY m ZpU (Wf (Zbm 1) (evL FC PR BY m [7,6,5,4,0] ZpS tm G))))
end
section
open Go.RowKit
inductive Ty where
 |bool
 |int (k:IntKind)
 |str
 |slice (s:Bool) (e:Ty)
 |struct (fs:List Ty)
 deriving Inhabited
def ZeB:Option TypeDesc->Bool
 |some (.struct _)=>true
 |some (.array _ _)=>true
 |_=>false
def ZkR(P:Program):Nat->List Field->Nat->Bool
 |at',[],n=>at'==n
 |at',f::fs,n=>f.offset==at'&&ZkR P (at'+P.cellsOf f.type) fs n
def Zd9(P:Program):Nat->TypeId->Option Ty
 |0,_=>none
 |n+1,t=>match P.underlying t with
  |some .bool=>some .bool
  |some (.int k)=>some (.int k)
  |some .string=>some .str
  |some (.slice e)=>if 0<P.cellsOf e then(Zd9 P n e).map (.slice (ZeB (P.underlying e)))else none
  |some (.struct fs)=>if ZkR P 0 fs.toList (P.cellsOf t)then(fs.toList.mapM fun f=>Zd9 P n f.type).map .struct else none
  |_=>none
def ZcB(s:Bool)(y:List AVal):AVal:=if s then .agg y else y.headD .nilp
def Imm.of(w:World):Imm:={ im:=fun b o=>w.cell? ⟨b,o,none⟩,ln:=fun _ _=>none }
section
variable {H:Type}{enc:TypeId×Value->H}{P:Program}{w:World}{spare:Nat->Bool}{held:Bool}
theorem ZSQ{b off:Nat}{s:Option Nat}{u:Value}(h:w.cell? ⟨b,off,s⟩=some u):s=none:=by
 unfold World.cell? at h
 split at h
 ·rcases s with _ |s
  ·rfl
  grind
 ·cases h
theorem ZCz{s:Bool}{y:List AVal}(h:s=false->y.length=1)(h1:s=false->∀ x∈y,ZY x=true):(ZcB s y).cells=y:=by
 cases s with
 |true=>rfl
 |false =>
  match y,h rfl with
  | [x],_ =>
   have:=h1 rfl x (by simp)
   cases x<;>simp_all[ZcB,AVal.cells,ZY]
theorem ZPF{a:Addr}(h:a.spot=none)(n:Nat):a.add n=⟨a.block,a.off+n,none⟩:=by
 unfold Addr.add
 split
 ·rename_i e;subst e;cases a;simp_all
 ·rfl
theorem ZER{I:Imm}{V:Bmap}{xs:List AVal}{vs:List Value}{n:Nat}(h:VRs I V xs (vs.take n)){ys:List AVal}(h':VRs I V ys (vs.drop n)):VRs I V (xs++ys) vs:=by
 have:=Zc3 h h'
 rwa [List.take_append_drop]at this
theorem ZAx{D V:Type}{f:D->Option V}{a:D}{l:List D}{r:List V}(h:(a::l).mapM f=some r):∃ b r',f a=some b/\l.mapM f=some r'/\r=b::r':=by
 rw[List.mapM_cons]at h
 simp only[Option.bind_eq_bind,Option.bind_eq_some_iff,Option.pure_def,Xb]at h
 grind
theorem ZIn{a b:List AVal}(ha:ZaK a=true)(hb:ZaK b=true):ZaK (a++b)=true:=by
 induction a with
 |nil=>exact hb
 |cons x a ih=>simp only[XJ,ZaK,Xk]at ha ⊢;grind
theorem ZAw{I:Imm}{V:Bmap}{s:Bool}{k b:Nat}:∀ (n off:Nat) (Y:Nat->List AVal),(∀ i,i<n->(ZcB s (Y i)).cells.length=k/\CR I V (ZcB s (Y i)).cells b (off+i*k))->LR I V k ((X5 n).map fun i=>ZcB s (Y i)) b off
 |0,off,Y,_=>by simp[LR]
 |n+1,off,Y,h=>by
  rw[List.range_succ_eq_map,Xu,Zhm]
  have h0:=h 0 (by omega)
  simp only[Nat.zero_mul,X6]at h0
  refine⟨h0,?_⟩
  rw[XaJ]
  exact ZAw n (off+k) (fun i=>Y (i+1)) (fun i hi=>by
   grind)
theorem ZAq{I:Imm}{V:Bmap}{b:Nat}:∀ (xs:List AVal) (cs:List Value) (off:Nat),VRs I V xs cs->(∀ i,i<cs.length->I b (off+i)=cs[i]?)->CR I V xs b off
 | [],_,_,_,_=>by simp only[CR]
 |x::xs,cs,off,h,hI=>by
  simp only[VRs]at h
  obtain⟨v,vs',rfl,h1,h2⟩:=h
  simp only[CR]
  refine⟨⟨v,by have:=hI 0 (by simp);simpa using this,h1⟩,ZAq xs vs' (off+1) h2 fun i hi=>?_⟩
  have:=hI (i+1) (by simp;omega)
  rw[show off+1+i=off+(i+1)by omega,this]
  simp
theorem Ztp{s:Bool}:∀ (n:Nat) (Y:Nat->List AVal),(∀ i,i<n->ZaK (ZcB s (Y i)).cells=true)->Zaq ((X5 n).map fun i=>ZcB s (Y i))=true
 |0,Y,_=>by simp[Zaq]
 |n+1,Y,h=>by
  rw[List.range_succ_eq_map,Xu,Zse,h 0 (by omega),XaJ]
  simp only[Bool.true_and]
  exact Ztp n (fun i=>Y (i+1)) (fun i hi=>h (i+1) (by omega))
theorem Zwk{xs:List AVal}(h:ZaK xs=true):∀ x∈xs,ZY x=true:=by
 induction xs with
 |nil=>grind
 |cons y ys ih =>
  simp only[ZaK,Xk]at h
  intro x hx
  rcases X0.1 hx with rfl |hx
  ·cases x<;>simp_all[ZaN,ZY]
  grind
def GlW(w:World):Prop:=(∀ b o u,Gl b o=some u->w.cell? ⟨b,o,none⟩=some u)/\GB (fun b=>b<w.heap.size) w
theorem Rel.start(w:World)(hG:GlW w):Rel (fun b=>b<w.heap.size) w (Imm.of w) (Imm.of w) B0 [] w where
 below:=KB.refl _ w
 old:=fun _ _ _=>rfl
 imm:=fun b o u h=>(show w.cell? ⟨b,o,none⟩=some u from h)
 blk:=fun t x h=>by simp at h
 own:=fun t x b h=>by simp at h
 apart:=fun t x t' x' b h=>by simp at h
 fresh:=fun _ _ _=>rfl
 free:=fun t g h=>by simp at h
 gen:=fun t b g h=>by simp at h
 glob:=⟨fun b o u h=>(show(Imm.of w).im b o=some u from hG.1 b o u h),hG.2,fun b o u h=>by cases h⟩
theorem ZB6{O:ZS}(hO:ZaM P O){f:Nat}{args:List AVal}{vs:Array Value}{G':Za}(hG:GlW w)(hargs:VRs (Imm.of w) B0 args vs.toList)(h:O f args []=some (.bool true,G')) :
  Calls P f vs w (fun e w'=>e=.returned (.bool true)/\Below w.heap.size w w'):=by
 refine((hO f args [] _ _ h).2 _ w _ _ B0 w vs (fun b hb=>hb) (Rel.start w hG) hargs).mono ?_
 rintro e w' ⟨u,he,I',V',_,_,R,hv⟩
 simp only[ZaX,VR]at hv
 subst hv
 exact⟨he,R.below.os,R.below.tape,R.below.output,R.below.size,R.below.block⟩
end
end
section
open Go.RowKit
theorem ZP9(id:Nat)(tm:Tms)(G:Za):Zbm id (.normal,tm,G)=(.normal,tm,G):=rfl
theorem ZPy(id i:Nat)(tm:Tms)(G:Za):Zbm id (.exit i,tm,G)=if i=id then(.normal,tm,G)else(.exit i,tm,G):=by simp only[Zbm]
theorem ZET(id:Nat)(tm:Tms)(G:Za):Zbm id (.ret,tm,G)=(.ret,tm,G):=rfl
theorem ZRO(id:Nat)(x:AVal)(tm:Tms)(G:Za):Zbm id (.panic x,tm,G)=(.panic x,tm,G):=rfl
section
variable (O:ZS)(bf:Nat->Bool)
def Ze7(c:Cls):Option (Tms×Za×List Cls×Option AVal)->Option (Tms×Za×List Cls×Option AVal)
 |none=>none
 |some (tm,G,cs,p)=>some (tm,G,c::cs,p)
def Ziy(c:List Cls):Option (Tms×Za×List Cls×Option AVal)->Option (Tms×Za×List Cls×Option AVal)
 |none=>none
 |some (tm,G,cs,p)=>some (tm,G,c++cs,p)
def kC(d:Option Nat)(os:List AOp)(s:Nat)(tm:Tms):Option (AVal×Za×Cls)->Option (Tms×Za×List Cls×Option AVal)
 |none=>none
 |some (v,G,c)=>if ZaY v then some (tput tm d v,G,[c],some (ZaX v))else Ze7 c (Zac O bf os s (tput tm d v) G)
def Zf7(ops:List AOp)(L:Nat)(l:List (Nat×Nat))(live:List Nat):Option (Tms×Za×List Cls×Option AVal)->Option (Za6×Tms×Za)
 |none=>none
 |some (_,G,cs,some x)=>if Zef ops L l cs then some (.panic x,[],G)else none
 |some (tm,G,cs,none)=>if Zeb ops L l cs then some (.normal,keepL live tm,G)else none
variable {O bf}
theorem ZxU(s:Nat)(tm:Tms)(G:Za):Zac O bf [] s tm G=some (tm,G,[],none):=rfl
theorem ZH6(c:Cls)(tm:Tms)(G:Za)(cs:List Cls)(p:Option AVal):Ze7 c (some (tm,G,cs,p))=some (tm,G,c::cs,p):=rfl
theorem ZQg(c:Cls):Ze7 c none=none:=rfl
theorem ZR0(c:Cls)(q:Prop)[Decidable q](x y:Option (Tms×Za×List Cls×Option AVal)):Ze7 c (if q then x else y)=if q then Ze7 c x else Ze7 c y:=by split<;>rfl
theorem ZGu(c:List Cls)(tm:Tms)(G:Za)(cs:List Cls)(p:Option AVal):Ziy c (some (tm,G,cs,p))=some (tm,G,c++cs,p):=rfl
theorem ZN3(c:List Cls):Ziy c none=none:=rfl
theorem ZKY(c:List Cls)(q:Prop)[Decidable q](x y:Option (Tms×Za×List Cls×Option AVal)):Ziy c (if q then x else y)=if q then Ziy c x else Ziy c y:=by split<;>rfl
theorem Zoy{o:AOp}{os:List AOp}{s:Nat}{tm tm1:Tms}{G G1:Za}{v:AVal}{c:Cls}(h:ZW O bf o s tm G=some (v,tm1,G1,c))(hn:ZaY v=false):Zac O bf (o::os) s tm G=Ze7 c (Zac O bf os (s+nsite o.ins) tm1 G1):=by
 rw[Zy7 h hn]
 cases Zac O bf os (s+nsite o.ins) tm1 G1<;>rfl
theorem Zqn(d:Option Nat)(i:Ins)(af:List Nat)(os:List AOp)(s:Nat)(tm:Tms)(G:Za):Zac O bf (⟨d,i,none,af⟩::os) s tm G=kC O bf d os (s+nsite i) tm (exI O bf i s tm G):=by
 cases h:exI O bf i s tm G with
 |none=>exact Zj5 (by rw[Zmc,h];rfl)
 |some q =>
  obtain⟨v,G1,c⟩:=q
  have hs:ZW O bf ⟨d,i,none,af⟩ s tm G=some (v,tput tm d v,G1,c):=by rw[Zmc,h];rfl
  cases hp:ZaY v with
  |true =>
   obtain⟨x,rfl⟩:=Zmy hp
   exact ZnO hs
  |false =>
   rw[Zoy hs hp]
   simp only[kC,hp,Xi,if_false]
theorem ZrE(d:Option Nat)(os:List AOp)(s:Nat)(tm:Tms)(v:AVal)(G:Za)(c:Cls)(h:ZaY v=false):kC O bf d os s tm (some (v,G,c))=Ze7 c (Zac O bf os s (tput tm d v) G):=by
 simp only[kC,h,Xi,if_false]
theorem ZE9(d:Option Nat)(os:List AOp)(s:Nat)(tm:Tms)(x:AVal)(G:Za)(c:Cls):kC O bf d os s tm (some (.pan x,G,c))=some (tput tm d (.pan x),G,[c],some x):=rfl
theorem ZEr(d:Option Nat)(os:List AOp)(s:Nat)(tm:Tms):kC O bf d os s tm none=none:=rfl
theorem ZCG(d:Option Nat)(os:List AOp)(s:Nat)(tm:Tms)(q:Prop)[Decidable q](x y:Option (AVal×Za×Cls)):kC O bf d os s tm (if q then x else y)=if q then kC O bf d os s tm x else kC O bf d os s tm y:=by split<;>rfl
theorem ZRp(ops:List AOp)(l:List (Nat×Nat))(live:List Nat)(tm:Tms)(G:Za):Zcq O bf ops (some l) live tm G=Zf7 ops G.length l live (Zac O bf ops G.length tm (G++XI (sitesOf ops) .free)):=by
 unfold Zcq
 cases Zac O bf ops G.length tm (G++XI (sitesOf ops) .free)with
 |none=>rfl
 |some q =>
  obtain⟨tm',G',cs,p⟩:=q
  cases p<;>rfl
theorem Zzf(ops:List AOp)(L:Nat)(l:List (Nat×Nat))(live:List Nat)(tm:Tms)(G:Za)(cs:List Cls)(h:Zeb ops L l cs=true):Zf7 ops L l live (some (tm,G,cs,none))=some (.normal,keepL live tm,G):=by
 simp only[Zf7,h,if_true]
theorem Zjb(ops:List AOp)(L:Nat)(l:List (Nat×Nat))(live:List Nat)(tm:Tms)(G:Za)(cs:List Cls)(x:AVal)(h:Zef ops L l cs=true):Zf7 ops L l live (some (tm,G,cs,some x))=some (.panic x,[],G):=by
 simp only[Zf7,h,if_true]
theorem ZKZ(ops:List AOp)(L:Nat)(l:List (Nat×Nat))(live:List Nat):Zf7 ops L l live none=none:=rfl
theorem ZIW(ops:List AOp)(L:Nat)(l:List (Nat×Nat))(live:List Nat)(q:Prop)[Decidable q](x y:Option (Tms×Za×List Cls×Option AVal)):Zf7 ops L l live (if q then x else y)=if q then Zf7 ops L l live x else Zf7 ops L l live y:=by split<;>rfl
theorem ZNF(ops:List AOp)(L:Nat)(l:List (Nat×Nat))(cs:List Cls)(h:(cs.all fun c=>c.wr.isEmpty && !c.any)=true)(hs:(l.all fun p=>p.1==p.2 ||nsite (ops.getD p.1 default).ins==0)=true):Zeb ops L l cs=true:=by
 have hd:∀ i,ZeJ (cs.getD i {})=true:=by
  intro i
  rw[Xy]at h
  rw[Xh]
  cases hi:cs[i]? with
  |none=>rfl
  |some c=>exact h c (XL hi)
 unfold Zeb
 rw[Xy]at hs ⊢
 intro p hp
 have:=hs p hp
 rw[Bool.or_eq_true]at this ⊢
 rcases this with this |this
 ·grind
 ·refine Xt ?_
  unfold Zdc
  grind
theorem ZVm(ops:List AOp)(L:Nat)(l:List (Nat×Nat))(live:List Nat)(tm:Tms)(G:Za)(cs:List Cls)(h:(cs.all fun c=>c.wr.isEmpty && !c.any)=true)(hs:(l.all fun p=>p.1==p.2 ||nsite (ops.getD p.1 default).ins==0)=true):Zf7 ops L l live (some (tm,G,cs,none))=some (.normal,keepL live tm,G) :=
 Zzf _ _ _ _ _ _ _ (ZNF _ _ _ _ h hs)
variable (O bf)in
def gKC(os:List AOp)(s:Nat):Option (Tms×Za×List Cls×Option AVal)->Option (Tms×Za×List Cls×Option AVal)
 |none=>none
 |some (tm,G,cs,some x)=>some (tm,G,cs,some x)
 |some (tm,G,cs,none)=>Ziy cs (Zac O bf os s tm G)
theorem ZSS(os:List AOp)(s:Nat)(tm:Tms)(G:Za)(cs:List Cls):gKC O bf os s (some (tm,G,cs,none))=Ziy cs (Zac O bf os s tm G):=rfl
theorem ZRL(os:List AOp)(s:Nat)(q:Prop)[Decidable q](x y:Option (Tms×Za×List Cls×Option AVal)):gKC O bf os s (if q then x else y)=if q then gKC O bf os s x else gKC O bf os s y:=by split<;>rfl
theorem ZRE(os:List AOp)(s:Nat)(c:Cls)(r:Option (Tms×Za×List Cls×Option AVal)):gKC O bf os s (Ze7 c r)=Ze7 c (gKC O bf os s r):=by
 cases r with
 |none=>rfl
 |some q =>
  obtain⟨tm,G,cs,p⟩:=q
  cases p with
  |some x=>rfl
  |none =>
   simp only[Ze7,gKC]
   cases Zac O bf os s tm G<;>rfl
theorem Zvh:∀ (a b:List AOp) (s:Nat) (tm:Tms) (G:Za),Zac O bf (a++b) s tm G=gKC O bf b (s+sitesOf a) (Zac O bf a s tm G)
 | [],b,s,tm,G=>by
  simp only[Xp,ZxU,gKC,sitesOf,XC,List.sum_nil,X6]
  cases Zac O bf b s tm G<;>rfl
 |o::a,b,s,tm,G=>by
  have ih:=Zvh a b
  simp only[XJ]
  have hs:s+nsite o.ins+sitesOf a=s+sitesOf (o::a):=by simp[sitesOf,Nat.add_assoc]
  cases hst:ZW O bf o s tm G with
  |none=>rw[Zj5 hst,Zj5 hst];rfl
  |some q =>
   obtain⟨v,tm1,G1,c⟩:=q
   cases hp:ZaY v with
   |true =>
    obtain⟨x,rfl⟩:=Zmy hp
    rw[ZnO hst,ZnO hst];rfl
   |false=>rw[Zoy hst hp,Zoy hst hp,ih,hs,ZRE]
variable (O bf)in
def Zfz(j:Nat)(w:Bool)(g:List AOp)(s:Nat)(tm:Tms)(G:Za):Option (Tms×Za×List Cls×Option AVal):=match ZbM (some (j,w)) tm with
 |none=>none
 |some false=>some (Z6 g tm,G,g.map fun _=>{},none)
 |some true=>Zac O bf (g.map unG) s tm G
theorem Zwu(j:Nat)(w:Bool):∀ (g:List AOp),(∀ o∈g,o.guard=some (j,w)/\o.dst≠some j)->∀ (s:Nat) (tm:Tms) (G:Za),g≠[]->Zac O bf g s tm G=Zfz O bf j w g s tm G
 | [],_,_,_,_,h=>absurd rfl h
 |o::g,hall,s,tm,G,_=>by
  obtain⟨hg,hd⟩:=hall o (by simp)
  have ih:∀ (tm:Tms) (G:Za) (s:Nat),ZbM (some (j,w)) tm≠none->Zac O bf g s tm G=Zfz O bf j w g s tm G:=by
   intro tm G s hw
   by_cases he:g=[]
   ·subst he
    unfold Zfz
    cases hx:ZbM (some (j,w)) tm with
    |none=>grind
    |some b=>cases b<;>rfl
   ·exact Zwu j w g (fun o ho=>hall o (by simp[ho])) s tm G he
  cases hx:ZbM (some (j,w)) tm with
  |none =>
   rw[Zj5 (by simp only[ZW,hg,hx])]
   simp only[Zfz,hx]
  |some b =>
   cases b with
   |false =>
    have h1:Zac O bf (o::g) s tm G=Ze7 {} (Zac O bf g (s+nsite o.ins) (tput tm o.dst (.tup [])) G) :=
     Zoy (v:=.tup []) (c:={}) (by simp only[ZW,hg,hx]) rfl
    rw[h1,ih _ _ _ (by rw[Zhb hd,hx];simp)]
    unfold Zfz
    rw[Zhb hd,hx]
    rfl
   |true =>
    have key:∀ r:Option (AVal×Za×Cls),(∀ v G' c,r=some (v,G',c)->ZaY v=false->Zac O bf g (s+nsite o.ins) (tput tm o.dst v) G'=Zac O bf (g.map unG) (s+nsite o.ins) (tput tm o.dst v) G')->kC O bf o.dst g (s+nsite o.ins) tm r=kC O bf o.dst (g.map unG) (s+nsite o.ins) tm r:=by
     intro r hr
     cases r with
     |none=>rfl
     |some q =>
      obtain⟨v,G',c⟩:=q
      cases hp:ZaY v with
      |true=>simp only[kC,hp,if_true]
      |false=>rw[ZrE _ _ _ _ _ _ _ hp,ZrE _ _ _ _ _ _ _ hp,hr v G' c rfl hp]
    have h1:Zac O bf (o::g) s tm G=kC O bf o.dst g (s+nsite o.ins) tm (exI O bf o.ins s tm G):=by
     have h0:Zac O bf (o::g) s tm G=Zac O bf (⟨o.dst,o.ins,none,o.after⟩::g) s tm G:=by
      have hst:ZW O bf o s tm G=ZW O bf ⟨o.dst,o.ins,none,o.after⟩ s tm G:=by
       unfold ZW
       simp only[hg,hx]
       rfl
      simp only[Zac,hst]
     rw[h0,Zqn]
    rw[h1]
    unfold Zfz
    rw[hx]
    simp only[Xu]
    rw[show unG o=⟨o.dst,o.ins,none,o.after⟩from rfl,Zqn]
    refine key _ fun v G' c _ _=>?_
    rw[ih _ _ _ (by rw[Zhb hd,hx];simp)]
    unfold Zfz
    rw[Zhb hd,hx]
theorem ZEo(d:Option Nat)(i:Ins)(j:Nat)(w:Bool)(af:List Nat)(os:List AOp)(s:Nat)(tm:Tms)(G:Za)(hd:decide (d=some j)=false) :
  Zac O bf (⟨d,i,some (j,w),af⟩::os) s tm G=gKC O bf (Zy j w os).2 (s+sitesOf (⟨d,i,some (j,w),af⟩::(Zy j w os).1)) (Zfz O bf j w (⟨d,i,some (j,w),af⟩::(Zy j w os).1) s tm G):=by
 have h:=ZsP j w os
 have hall:∀ o∈(⟨d,i,some (j,w),af⟩::(Zy j w os).1:List AOp),o.guard=some (j,w)/\o.dst≠some j:=by
  intro o ho
  rcases X0.1 ho with rfl |ho
  ·grind
  ·exact Zue j w os o ho
 rw[<-Zwu j w _ hall s tm G (by simp),<-Zvh,XJ,h]
variable (O bf)in
def gWC(w:Bool)(g:List AOp)(s:Nat)(tm:Tms)(G:Za):AVal->Option (Tms×Za×List Cls×Option AVal)
 | .bool b=>if b=w then Zac O bf (g.map unG) s tm G else some (Z6 g tm,G,g.map fun _=>{},none)
 | .tup []=>some (Z6 g tm,G,g.map fun _=>{},none)
 |_=>none
theorem ZLw(j:Nat)(w:Bool)(g:List AOp)(s:Nat)(tm:Tms)(G:Za):Zfz O bf j w g s tm G=gWC O bf w g s tm G (tget tm j):=by
 unfold Zfz ZbM
 simp only
 generalize tget tm j=v
 cases v
 case bool b=>cases b<;>cases w<;>rfl
 case tup vs=>cases vs<;>rfl
 all_goals rfl
theorem ZL2(w:Bool)(g:List AOp)(s:Nat)(tm:Tms)(G:Za)(b:Bool):gWC O bf w g s tm G (.bool b)=if b=w then Zac O bf (g.map unG) s tm G else some (Z6 g tm,G,g.map fun _=>{},none):=rfl
theorem ZKy(w:Bool)(g:List AOp)(s:Nat)(tm:Tms)(G:Za):gWC O bf w g s tm G (.tup [])=some (Z6 g tm,G,g.map fun _=>{},none):=rfl
theorem ZRd(q:Prop)[Decidable q](t1 t2:Tms)(G1 G2:Za)(cs:List Cls):(if q then some (t1,G1,cs,(none:Option AVal))else some (t2,G2,cs,none))=some ((if q then t1 else t2),(if q then G1 else G2),cs,none):=by split<;>rfl
end
section
theorem ZlS{r:AVal}{cs:List AVal}{G:Za}(hr:ZQ r=true)(hc:Ze cs=true):gcA 1 [r] (.var cs::G)=([r],[.var cs]):=by
 have e1:=(Zba (Zn (.var cs::G) 1 [0]) r hr)
 have e2:=(Z5 (Zn (.var cs::G) 1 [0]) cs hc)
 have h1:Zw 1 [r] (.var cs::G)=[0]:=by
  have : Zl [r]=[]:=by simp only[Zl,e1.2,Xr]
  simp only[Zw,this,List.range_one,XB,XQ,Xr,Xm,ZB,e2.2]
  rfl
 simp only[gcA,h1,Zj,e1.1,Zo,Xm,Zz,e2.1]
theorem Zah{r:AVal}{cs:List AVal}{G:Za}(hr:ZQ r=true)(hc:Ze cs=true):ZR 1 (.var cs::G) r=some (r,[.var cs]):=by
 simp only[ZR,ZlS hr hc]
theorem Zeo{G:Za}{t:Nat}{cs:List AVal}(hs:G[t]?=some (.var cs))(hc:Ze cs=true):Zt G 1000 [t] []=[t]:=by
 have hd:G.getD t .free=.var cs:=by simp[Xh,hs]
 have e2:=(Z5 (fun _ _=>none) cs hc).2
 show Zt G (999+1) [t] []=[t]
 simp only[Zt,List.contains_nil,Xi,if_false,hd,ZB,e2,Xp]
end
end
section
section
variable (c:Prop)[Decidable c]
theorem ZEb(t1 t2:Tms)(G1 G2:Za):(if c then some (Za6.normal,t1,G1)else some (Za6.normal,t2,G2))=some (Za6.normal,(if c then t1 else t2),(if c then G1 else G2)):=by split<;>rfl
theorem ZBG(t1 t2:Tms)(G1 G2:Za):(if c then some (Za6.ret,t1,G1)else some (Za6.ret,t2,G2))=some (Za6.ret,(if c then t1 else t2),(if c then G1 else G2)):=by split<;>rfl
theorem ZEP(t1 t2:Tms)(G1 G2:Za):(if c then some (t1,G1,(none:Option AVal))else some (t2,G2,none))=some ((if c then t1 else t2),(if c then G1 else G2),none):=by split<;>rfl
theorem ZHU(n:Nat)(a b:AVal):(if c then(n,a)else(n,b))=(n,if c then a else b):=by split<;>rfl
theorem ZTV(a b:AVal)(G1 G2:Za):(if c then some (a,G1)else some (b,G2))=some ((if c then a else b),(if c then G1 else G2)):=by split<;>rfl
theorem ZBc(a b:AVal)(G1 G2:Za)(x y:Cls):(if c then some (a,G1,x)else some (b,G2,y))=some ((if c then a else b),(if c then G1 else G2),if c then x else y):=by split<;>rfl
end
theorem ZCf{D:Type}(p:Bool)(x y z:D):(if p=true then x else(if p=false then y else z))=if p=true then x else y:=by cases p<;>rfl
theorem ZEL(ops:List AOp)(b:Nat)(cs:List Cls):Zeb ops b [] cs=true:=rfl
theorem ZSq(ops:List AOp)(b:Nat)(p:Nat×Nat)(l:List (Nat×Nat))(cs:List Cls):Zeb ops b (p::l) cs=((p.1==p.2 ||Zdc (ops.getD p.1 default) (ops.getD p.2 default) (cs.getD p.1 {}) (cs.getD p.2 {}) (b+sitesOf (ops.take p.1)))&&Zeb ops b l cs):=by
 simp only[Zeb,XW]
theorem ZN1(oj oi:AOp)(cj ci:Cls)(sj:Nat):Zdc oj oi cj ci sj=(ZcP oj cj ||ZcP oi ci ||(ZeJ cj&&ZeJ ci&&(nsite oj.ins==0 || !ci.rd.contains sj)) ||((ZaG oj.ins ||(ZaU oj.ins && !cj.any))&&(ZeJ ci&&ci.rd.isEmpty)) ||(ZaP oj.ins&&ZaG oi.ins&&ci.any&&ZaV cj ci) ||(ZaP oj.ins&&(ZaU oi.ins ||(Zbi oi.ins&&Zbq cj ci))&&ZaV cj ci) ||(Zbl oj.ins&&Zbg oi.ins) ||(ZaG oj.ins&&ZaP oi.ins&&cj.any&&Zbo cj ci sj)):=rfl
theorem ZCv(o:AOp)(rd wr:List Nat)(any:Bool)(got:List (Nat×Option Nat×Nat×AVal))(upd:List (Nat×List AVal)):ZcP o ⟨rd,wr,any,got,upd⟩=(nsite o.ins==0&&rd.isEmpty&&wr.isEmpty && !any):=rfl
theorem ZCp(rd wr:List Nat)(any:Bool)(got:List (Nat×Option Nat×Nat×AVal))(upd:List (Nat×List AVal)):ZeJ ⟨rd,wr,any,got,upd⟩=(wr.isEmpty && !any):=rfl
theorem Zar{D:Type}{l:List D}{i:Nat}{x:D}{r:List D}(h:l.drop i=x::r):l[i]?=some x/\l.drop (i+1)=r/\i<l.length:=by
 have h1:i<l.length:=by
  rcases Wz i l.length with h1 |h1
  ·exact h1
  ·rw[Wg h1]at h;cases h
 rw[List.drop_eq_getElem_cons h1]at h
 injection h with h2 h3
 exact⟨by rw[List.getElem?_eq_getElem h1,h2],h3,h1⟩
theorem Zep{D:Type}{l:List D}{i:Nat}(h:l.drop i=[]):¬(i:Int)<l.length:=by
 have:=XY.1 h;omega
theorem iad{D:Type}{l:List D}{i:Nat}{x:D}(h:l[i]?=some x)(f:D->AVal){k:Nat}(hk:(f x).cells.length=k)(G:Za)(n:Bool)(kk:IntKind):Zc5 G k (.lst n (l.map f)) (.int kk (i:Int))=some (.iptr (f x).cells 0,G,{}):=by
 have h0:(0:Int)<=(i:Int):=Int.natCast_nonneg i
 unfold Zc5
 grind
theorem ZaE{n:Int}(h0:-9223372036854775808<=n)(h:n<=9223372036854775807):IntKind.i64.wrap n=n:=by
 rw[IntKind.wrap_i64];omega
theorem ZGq{D V:Type}{a:List D}{b:List V}(h:a.length=b.length):((a.length:Int) != (b.length:Int))=false:=by simp[h]
theorem ZJ3{D V:Type}{a:List D}{b:List V}(h:a.length≠b.length):((a.length:Int) != (b.length:Int))=true:=by
 grind
theorem ZPs{D:Type}[BEq D][LawfulBEq D]{a b:List D}(h:a.length≠b.length):(a==b)=false:=by
 grind
theorem Zd1{i n:Nat}(h:(i:Int)<n)(hn:n<=9223372036854775807):IntKind.i64.wrap ((i:Int)+1)=((i+1:Nat):Int):=by
 rw[ZaE (by omega) (by omega)];rfl
theorem ZdI{O:ZS}{bf:Nat->Bool}{f:Nat}{args:List AVal}{r:AVal}(h:O f args []=some (r,[]))(hb:bf f=false)(hp:args.all Zai=true)(hn:args.map Z1=args)(hv:ZbR 0 (some (r,[]))=some (r,[]))(hr:∀ sq,Zp (Zak [] [] sq) r=r)(G:Za)(sq own:Nat)(view:Bool):Zq O bf G sq f own view args=some (r,G,{}):=by
 rw[Zg4 hb hp,hn,h]
 have : ZV view 0 (some (r,[]))=some (r,[]):=by
  unfold ZV
  split
  ·exact hv
  ·rfl
 rw[this,ZfJ _ _ _ _ (hr sq)]
theorem Zjx{D:Type}(G:Za)(k:Nat)(l:List D)(f:D->AVal)(kk:IntKind)(n:Int)(h0:0<=n)(h:n<=(l.length:Int)):ZbO G k (.lst false (l.map f)) none (some (.int kk n)) none=some (.lst false ((l.take n.toNat).map f),G,{}):=by
 simp only[ZbO,Za5,ZdC,XS,h0,h,and_self,if_true,beq_self_eq_true,WV,Xal,Xi,if_false,Wi,Xat,Xa1]
abbrev Zd:=List UInt8
def Z4(b:Zd):AVal:=.lst false (b.map Zh)
structure ZO where
 id:Int
 num:Int
 text:Zd
 pair:Zd
 data:Zd
 deriving DecidableEq
def Zcw(p:ZO):List AVal:=[.int .i64 p.id,.int .i64 p.num,.str p.text,.str p.pair,Z4 p.data]
def Zu(p:ZO):AVal:=.agg (Zcw p)
def ZbI(l:List ZO):AVal:=.lst false (l.map Zu)
def ZoY(l:List Int):AVal:=.lst false (l.map (.int .i64 ·))
theorem ZQl(l:Zd):bytesOf (l.map Zh)=some l:=by
 induction l with
 |nil=>rfl
 |cons b l ih =>
  simp only[Xu,bytesOf,ih,Zh,Ztk,WB,UInt8.ofNat_toNat]
end
section
def ZiQ(x:Nat)(b:Zd):Nat:=b.foldl (fun x c=>(x*256+c.toNat)%18446744073709551616) x
def Zcj(b:Zd):Nat:=ZiQ 0 b
theorem Zds(x:Nat)(c:UInt8)(b:Zd):ZiQ x (c::b)=ZiQ ((x*256+c.toNat)%18446744073709551616) b:=rfl
theorem ZeF(x:Nat):ZiQ x []=x:=rfl
def gvA(i n:Nat):Zd->Nat×Nat×Int
 | []=>if i<4 then(0,0,11)else(0,0,12)
 |c::r=>if i=4 then(0,0,12)else if c.toNat<128 then(if c=0/\0<i then(0,0,12)else(n+c.toNat%128*128^i,i+1,0))else gvA (i+1) (n+c.toNat%128*128^i) r
def Zas(b:Zd):Nat×Nat×Int:=gvA 0 0 b
def ZL(b:Zd):Zd×Nat×Int :=
 if b.length<2\/b.length-2<Zcj (b.take 2)then([],0,11)else((b.drop 2).take (Zcj (b.take 2)),2+Zcj (b.take 2),0)
end
section
def Zp5:=(aI (aI (aI (aI (aI (aI @Zwm @ZJx) (aI @ZR6 @ZCt)) (aI (aI @ZSR @ZQu) (aI @ZQm @ZHr))) (aI (aI (aI @Zy1 @Zpn) (aI @ZO8 @Zpl)) (aI (aI @ZRb @ZRi) (aI @ZQt @ZAd)))) (aI (aI (aI (aI @ZvP @ZwI) (aI @ZuV @ZCn)) (aI (aI @ZBu @ZKr) (aI @ZTO @ZLk))) (aI (aI (aI @ZLQ @ZKG) (aI @ZBS @ZNy)) (aI (aI @ZCD @ZQl) (aI @ZEb @ZBG))))) (aI (aI (aI (aI (aI @ZEP @ZHU) (aI @ZTV @ZBc)) (aI (aI @ZH3 @ZKB) (aI @ZGc @ZOR))) (aI (aI (aI @ZOs @ZSu) (aI @ZDn @ZRp)) (aI (aI @ZxU @Zqn) (aI @ZEo @ZH6)))) (aI (aI (aI (aI @ZQg @ZR0) (aI @ZGu @ZN3)) (aI (aI @ZKY @ZrE) (aI @ZE9 @ZEr))) (aI (aI (aI @ZCG @ZVm) (aI @ZKZ @ZIW)) (aI (aI @ZSS @ZRL) (aI @ZLw @ZL2))))))
def ZNW:=(aI (aI (aI (aI (aI (aI @ZKy @ZRd) (aI @ZP9 @ZPy)) (aI (aI @ZET @ZRO) (aI @ZEL @ZSq))) (aI (aI (aI @ZN1 @ZCv) (aI @ZCp @Zzf)) (aI (aI @ZRG @ZFI) (aI @ZSw @ZTH)))) (aI (aI (aI (aI @ZHM @ZNK) (aI @ZE2 @ZTD)) (aI (aI @ZvM @ZVe) (aI @ZBf @ZAS))) (aI (aI (aI @ZOv @ZFS) (aI @ZEE @ZPr)) (aI (aI @ZNt @ZJq) (aI @ZD3 @ZCS))))) (aI (aI (aI (aI (aI @ZGP @ZUD) (aI @ZPD @ZH4)) (aI (aI @ZO9 @ZT1) (aI @ZUH @ZPe))) (aI (aI (aI @ZJP @ZLI) (aI @ZJ7 @ZQ7)) (aI (aI @ZB8 @ZKD) (aI @ZKL @ZD8)))) (aI (aI (aI (aI @ZTy @ZFQ) (aI @ZHF @ZSj)) (aI (aI @ZTz @ZC8) (aI @ZUb @ZCZ))) (aI (aI (aI @ZPC @ZC6) (aI @ZAN @ZJG)) (aI (aI @ZOh @ZMC) (aI @ZMF @Zdo))))))
def Zs:=(aI (aI (aI (aI (aI (aI @ZLt @ZJX) (aI @ZEm @ZKe)) (aI (aI @ZAP @ZVh) (aI @ZQ1 @ZUU))) (aI (aI (aI @ZPj @ZEF) (aI @ZJj @ZNc)) (aI (aI @ZFv @ZBa) (aI @ZO5 @ZJ5)))) (aI (aI (aI (aI @ZHv @ZE3) (aI @ZIk @ZOV)) (aI (aI @ZQb @ZMQ) (aI @ZNm @ZPn))) (aI (aI (aI @ZII @ZOi) (aI @ZTK @ZT2)) (aI (aI @ZEk @ZTd) (aI @ZFa @ZM8))))) (aI (aI (aI (aI (aI @ZCV @ZQ0) (aI @ZMw @ZRg)) (aI (aI @ZQG @ZDM) (aI @ZOk @ZM7))) (aI (aI (aI @ZFe @ZOE) (aI @ZQX @ZFZ)) (aI (aI @ZPI @ZJv) (aI @ZDl @ZIE)))) (aI (aI (aI (aI @ZPd @ZU7) (aI @ZMu @ZEM)) (aI (aI @ZEO @ZHK) (aI @ZNL @ZJo))) (aI (aI (aI @ZOH @ZDL) (aI @ZKE @ZGA)) (aI (aI @ZKl @ZHI) (aI @ZCE @ZKw))))))
def Zem:=(aI (aI (aI (aI (aI (aI @ZFP @ZIg) (aI @ZBs @ZLc)) (aI (aI @ZNR @ZPT) (aI @ZLh @ZC9))) (aI (aI (aI @ZBK @ZI1) (aI @ZA2 @ZJt)) (aI (aI @ZG1 @ZVb) (aI @ZLz @ZIv)))) (aI (aI (aI (aI @ZML @ZDK) (aI @ZLN @ZMO)) (aI (aI @ZPP @ZH5) (aI @ZTq @ZDV))) (aI (aI (aI @ZE4 @ZUy) (aI @ZCe @ZLx)) (aI (aI @ZVd @ZIF) (aI @ZTP @ZLi))))) (aI (aI (aI (aI (aI @ZIG @Zww) (aI @ZEt @ZwP)) (aI (aI @ZMl @ZLR) (aI @ZBb @ZEI))) (aI (aI (aI @Zvx @ZNe) (aI @ZJs @ZFO)) (aI (aI @ZFH @ZRu) (aI @ZPo @ZMR)))) (aI (aI (aI (aI @ZI8 @ZFb) (aI @ZI5 @ZLd)) (aI (aI @ZP0 @ZGM) (aI @ZN8 @ZOQ))) (aI (aI (aI @ZCT @ZNq) (aI @ZVc @ZJr)) (aI (aI @ZAG @ZNb) (aI @ZM4 @ZUf))))))
def ZE:=(aI (aI (aI (aI (aI (aI @ZOY @ZJF) (aI @ZGf @ZI7)) (aI (aI @ZPN @Zvj) (aI @ZDI @Zwx))) (aI (aI (aI @ZC3 @ZCg) (aI @ZOA @ZSd)) (aI (aI @Zxq @ZE8) (aI @ZCF @ZSc)))) (aI (aI (aI (aI @ZDw @ZOK) (aI @ZUS @ZFo)) (aI (aI @ZHT @ZKj) (aI @ZLS @ZEs))) (aI (aI (aI @ZSi @ZMD) (aI @ZKF @ZAV)) (aI (aI @ZEJ @ZFY) (aI @ZEx @ZP6))))) (aI (aI (aI (aI (aI @ZIQ @Zvc) (aI @ZLg @ZRc)) (aI (aI @ZNU @ZUd) (aI @ZSa @ZFX))) (aI (aI (aI @ZLr @ZTN) (aI @ZQi @ZNI)) (aI (aI @ZGZ @ZBH) (aI @ZQk @ZQf)))) (aI (aI (aI (aI @ZRY @ZCq) (aI @ZNB @ZA4)) (aI (aI @ZDQ @ZLA) (aI @ZDs @ZDk))) (aI (aI (aI @ZQS @ZRB) (aI @ZLv @ZOx)) (aI (aI @ZTE @ZT9) (aI @ZRq @ZUr))))))
def ZIh:=(aI (aI (aI (aI (aI (aI @ZEh @ZRF) (aI @ZJh @ZQe)) (aI (aI @ZS4 @ZME) (aI @ZHu @ZVp))) (aI (aI (aI @ZOC @ZNd) (aI @ZQH @ZOJ)) (aI (aI @ZUe @ZKK) (aI @ZTr @ZDp)))) (aI (aI (aI (aI @ZTA @ZFW) (aI @ZMH @ZKX)) (aI (aI @ZUq @ZL0) (aI @ZCy @ZHH))) (aI (aI (aI @ZBT @ZIr) (aI @ZQj @ZPh)) (aI (aI @ZFT @ZHR) (aI @ZHa @ZQW))))) (aI (aI (aI (aI (aI @ZUv @ZFB) (aI @ZFM @ZUh)) (aI (aI @ZSy @ZG5) (aI @ZJ2 @ZDi))) (aI (aI (aI @ZG3 @ZJd) (aI @ZCH @ZSs)) (aI (aI @ZB4 @ZHl) (aI @ZSn @ZNz)))) (aI (aI (aI (aI @ZJI @ZUz) (aI @ZDo @ZMA)) (aI (aI @ZIR @ZS0) (aI @ZBZ @ZA3))) (aI (aI (aI @ZVl @ZEp) (aI @ZR5 @ZC1)) (aI (aI @ZGw @ZDJ) (aI @ZSX @ZQ6))))))
def Zc:=(aI (aI (aI (aI (aI (aI @ZPG @ZJu) (aI @ZJ4 @ZLL)) (aI (aI @ZEf @ZFL) (aI @ZHx @ZM6))) (aI (aI (aI @ZOF @ZHL) (aI @ZKo @ZIy)) (aI (aI @ZR3 @ZS5) (aI @ZON @ZEB)))) (aI (aI (aI (aI @ZVi @ZTF) (aI @ZHn @ZGi)) (aI (aI @ZHA @ZTp) (aI @ZPq @ZOL))) (aI (aI (aI @ZGW @ZSB) (aI @ZHs @ZBn)) (aI (aI @ZT5 @ZIf) (aI @ZKV @ZNj))))) (aI (aI (aI (aI (aI @ZCa @ZA6) (aI @ZQz @ZAM)) (aI (aI @ZSD @ZJL) (aI @ZT7 @ZOj))) (aI (aI (aI @ZDB @ZFj) (aI @ZMa @ZPK)) (aI (aI @ZTj @ZF4) (aI @ZRC @ZCj)))) (aI (aI (aI (aI @ZTR @ZEC) (aI @ZGR @ZFU)) (aI (aI @ZTI @ZIq) (aI @ZUB @ZU0))) (aI (aI (aI @ZPp @ZQO) (aI @ZK4 @ZLT)) (aI (aI @ZJY @ZF7) (aI @ZKd @ZOw))))))
def ZT:=(aI (aI (aI (aI @ZBw @ZUG) (aI @ZQ4 @ZLD)) (aI (aI @ZDx @ZK9) (aI @ZQp @ZN9))) (aI (aI (aI @ZMm @ZTw) (aI @ZQv @ZTe)) (aI (aI @ZTk @ZO3) (aI @Zah (aI @ZRf @ZvY)))))
def ZbW:=(aI (aI (aI (aI (aI (aI @List.map_cons.{0,0} @List.map_nil.{0,0}) (aI @List.length_cons.{0} @List.length_nil.{0})) (aI (aI @List.replicate_zero.{0} @List.replicate_succ.{0}) (aI @List.append_nil.{0} @List.nil_append.{0}))) (aI (aI (aI @List.cons_append.{0} @List.getElem?_cons_zero.{0}) (aI @List.getElem?_cons_succ.{0} @List.set_cons_zero.{0})) (aI (aI @List.set_cons_succ.{0} @Nat.add_zero) (aI @Nat.zero_add @Bool.true_or)))) (aI (aI (aI (aI @Bool.false_or @Bool.or_true) (aI @Bool.or_false @Bool.and_true)) (aI (aI @Bool.true_and @Bool.and_self) (aI @Bool.and_false @Bool.false_and))) (aI (aI (aI @if_true.{1} @if_false.{1}) (aI @ite_true.{1} @ite_false.{1})) (aI (aI @Option.map_some.{0,0} @Option.map_none.{0,0}) (aI @and_self @and_true))))) (aI (aI (aI (aI (aI @true_and @and_false) (aI @false_and @true_or)) (aI (aI @or_true @false_or) (aI @or_false @not_true_eq_false))) (aI (aI (aI @not_false_eq_true @List.drop_zero.{0}) (aI @List.drop_succ_cons.{0} @List.take_succ_cons.{0})) (aI (aI @List.take_zero.{0} @List.all_cons.{0}) (aI @List.all_nil.{0} @List.isEmpty_nil.{0})))) (aI (aI (aI (aI @Bool.not_false @Bool.not_true) (aI @List.length_map.{0,0} @Bool.bne_false)) (aI (aI @Bool.bne_true @List.isEmpty_cons.{0}) (aI @List.getD_cons_zero.{0} @List.getD_cons_succ.{0}))) (aI (aI (aI @List.getD_nil.{0} @List.contains_nil.{0}) (aI @List.range_zero @List.flatMap_cons.{0,0})) (aI (aI @List.flatMap_nil.{0,0} @List.zip_cons_cons.{0,0}) (aI @List.zip_nil_left.{0,0} @List.zip_nil_right.{0,0}))))))
def ZbH:=@Nat.not_lt_zero
def EQA:=(aI (aI (aI (aI (aI (aI (aI Zp5 ZNW) (aI ZIh ZbW)) (aI (aI @exI.eq_1 @nsite.eq_1) (aI @nsite.eq_2 @nsite.eq_3))) (aI (aI (aI @nsite.eq_4 @nsite.eq_5) (aI @nsite.eq_6 @nsite.eq_7)) (aI (aI @nsite.eq_8 @nsite.eq_9) (aI @nsite.eq_10 @nsite.eq_11)))) (aI (aI (aI (aI @freeAt.eq_1 @execI.eq_1) (aI @execI.eq_2 @execI.eq_3)) (aI (aI @execI.eq_4 @execI.eq_5) (aI @execI.eq_6 @execI.eq_7))) (aI (aI (aI @execI.eq_8 @execI.eq_9) (aI @execI.eq_10 @execI.eq_11)) (aI (aI @execI.eq_12 @execI.eq_13) (aI @execI.eq_14 (aI @execI.eq_15 @execI.eq_16)))))) (aI (aI (aI (aI (aI @execI.eq_17 @execI.eq_18) (aI @execI.eq_19 @execI.eq_20)) (aI (aI @execI.eq_21 @execI.eq_22) (aI @execI.eq_23 @execI.eq_24))) (aI (aI (aI @execI.eq_25 @execI.eq_26) (aI @execI.eq_27 @execI.eq_28)) (aI (aI @execI.eq_29 @execI.eq_30) (aI @execI.eq_31 (aI @execI.eq_32 @execI.eq_33))))) (aI (aI (aI (aI @execI.eq_34 @execI.eq_35) (aI @execI.eq_36 @execI.eq_37)) (aI (aI @execI.eq_38 @execI.eq_39) (aI @execI.eq_40 @execI.eq_41))) (aI (aI (aI @execI.eq_42 @execI.eq_43) (aI @execI.eq_44 @execI.eq_45)) (aI (aI @execI.eq_46 @execI.eq_47) (aI @execI.eq_48 (aI @execI.eq_49 @Opd.ev.eq_1))))))) (aI (aI (aI (aI (aI (aI @Opd.ev.eq_2 @tget.eq_1) (aI @tget.eq_2 @tins.eq_1)) (aI (aI @tins.eq_2 @tput.eq_1) (aI @tput.eq_2 @keepL.eq_1))) (aI (aI (aI @sitesOf.eq_1 @resA.eq_1) (aI @resAll.eq_1 @resAll.eq_2)) (aI (aI @resOne.eq_1 @resOne.eq_2) (aI @enterA.eq_1 (aI @enterA.eq_2 @partA.eq_1))))) (aI (aI (aI (aI @partA.eq_2 @faddrA.eq_1) (aI @faddrA.eq_2 @faddrA.eq_3)) (aI (aI @faddrA.eq_4 @setAt.eq_1) (aI @binA.eq_1 @binA.eq_2))) (aI (aI (aI @binA.eq_3 @binA.eq_4) (aI @binA.eq_5 @arithA.eq_1)) (aI (aI @arithA.eq_2 @arithA.eq_3) (aI @arithA.eq_4 (aI @arithA.eq_5 @arithA.eq_6)))))) (aI (aI (aI (aI (aI @arithA.eq_7 @arithA.eq_8) (aI @arithA.eq_9 @arithA.eq_10)) (aI (aI @arithA.eq_11 @arithA.eq_12) (aI @arithA.eq_13 @arithA.eq_14))) (aI (aI (aI @arithA.eq_15 @arithA.eq_16) (aI @ldA.eq_1 @ldA.eq_2)) (aI (aI @ldA.eq_3 @ldA.eq_4) (aI @stA.eq_1 (aI @stA.eq_2 @stA.eq_3))))) (aI (aI (aI (aI @oI.eq_1 @oN.eq_1) (aI @oM.eq_1 @oF.eq_1)) (aI (aI @oL.eq_1 @List.sum_cons.{0}) (aI @List.sum_nil.{0} @eq_self.{1}))) (aI (aI (aI @beq_self_eq_true.{0} @Bool.false_eq_true) (aI @Option.some.injEq.{0} @decide_true)) (aI (aI @decide_false @List.foldl_cons.{0,0}) (aI @List.foldl_nil.{0,0} (aI @List.contains_cons.{0} @ne_eq.{1}))))))))
end
section
theorem Zv0{O:ZS}{bf:Nat->Bool}{G:Za}{sq f own:Nat}{view:Bool}{args:List AVal}(h:args.all Zai=true)(hm:args.map Z1=args) :
  Zq O bf G sq f own view args=Zaz G G [] [] sq own (ZV view 0 (O f args [])):=by
 cases hb:bf f
 ·rw[Zg4 hb h,hm]
 ·have hr:=Zd8 h
  have hn:=fun C=>ZdV (C:=C) h
  rw[hm]at hr
  simp only[hm]at hn
  have hno:args.any Zig=false:=by
   rw[Xar]
   intro x hx
   have hx:=Xy.1 h x hx
   cases x with
   |agg cs =>
    simp only[Zai]at hx
    simp only[Zig]
    rw[Bool.not_eq_true,Xar]
    intro c hc
    have:=Xy.1 hx c hc
    cases c<;>first |exact Xan |(simp[ZaW]at this)
   |_=>first |exact Xan |(simp[Zai,ZaW]at hx)
  have hsm:Zbb bf f G args=some (args,[],[],0):=by
   have hsh:=Zeg (G:=G) h
   rw[hm]at hsh
   simp only[Zbb,hb,hno,XaZ,Xi,if_true,if_false,hsh]
   split<;>rfl
  unfold Zq
  rw[hsm]
  simp only
  have h1:Zv G []=G:=rfl
  rw[h1,hr]
  have h2:Zt G 1000 [] []=[]:=rfl
  rw[h2]
  unfold Zbk
  simp only[XX,if_true,hn,Zo,Xw,Zdo]
theorem ZCJ{O:ZS}{bf:Nat->Bool}{f:Nat}{args:List AVal}{k n:Nat}{xs:List AVal}(h:O f args []=some (.sl 0 0 0 n,[.row 0 k xs]))(hn:xs.length=n)(hp:args.all Zai=true)(hm:args.map Z1=args)(G:Za)(sq own:Nat):Zq O bf G sq f own true args=some (.lst false xs,G,{}):=by
 rw[Zv0 hp hm,h]
 have : ZV true 0 (some (.sl 0 0 0 n,[.row 0 k xs]))=some (.lst false xs,[]):=by
  unfold ZV
  rw[if_pos rfl,ZK3 (k:=k) (g:=0) (t:=0) (xs:=xs) rfl (by omega),XG (by omega)]
 rw[this,ZfJ _ _ _ _ rfl]
theorem ZND{O:ZS}{bf:Nat->Bool}{f:Nat}{args:List AVal}{k n:Nat}{xs:List AVal}(h:O f args []=some (.sl 0 0 0 n,[.row 0 k xs]))(hp:args.all Zai=true)(hm:args.map Z1=args)(G:Za)(sq:Nat)(hs:freeAt G sq=true):Zq O bf G sq f 1 false args=some (.sl sq 0 0 n,G.set sq (.row 0 k xs),if xs.all Za2 then{}else{ any:=true }):=by
 rw[Zv0 hp hm,h]
 cases hx:xs.all Za2<;>simp[ZV,Zaz,ZgJ,hx,Za1,okB,Zm,Zaj,hs,Zp,Zak,ZaQ,Za9,Za9,ZaA,ZbZ,Zz]
theorem ZzS{O:ZS}{bf:Nat->Bool}{G:Za}{f:Nat}{args vs:List AVal}{ts:List Nat}{r r':AVal}(hb:bf f=false)(hsh:showAs G args=some (vs,ts))(hp:vs.all Zai=true)(hm:vs.map Z1=vs)(h:O f vs []=some (r,[]))(hv:ZbR 0 (some (r,[]))=some (r',[]))(sq own:Nat) :
  Zq O bf G sq f own true args=if ZbC r' then some (r',G,{ rd:=ts })else if Zda G ts r' then some (r',G,{ rd:=ts })else some (Zp (Zak [] [] sq) r',Zv G ts,{ rd:=ts,wr:=ts }):=by
 have hr:=Zd8 hp
 have hn:=fun C=>ZdV (C:=C) hp
 rw[hm]at hr
 simp only[hm]at hn
 unfold Zq
 rw[Zfx hb hsh (Zew hp)]
 simp only
 rw[hr]
 have h2:∀ G,Zt G 1000 [] []=[]:=fun _=>rfl
 rw[h2]
 unfold Zbk
 simp only[XX,if_true,hn,Zo,Xw,h,Zdo]
 have : ZV true 0 (some (r,[]))=some (r',[]):=by unfold ZV;grind
 rw[this]
 simp only[Zaz,X8,XT,if_true]
theorem ZAf{O:ZS}{bf:Nat->Bool}{G:Za}{f:Nat}{args vs:List AVal}{ts:List Nat}{r r':AVal}(hb:bf f=false)(hsh:showAs G args=some (vs,ts))(hp:vs.all Zai=true)(hm:vs.map Z1=vs)(h:O f vs []=some (r,[]))(hv:ZbR 0 (some (r,[]))=some (r',[]))(hf:ZbC r'=true)(sq own:Nat) :
  Zq O bf G sq f own true args=some (r',G,{ rd:=ts }):=by
 rw[ZzS hb hsh hp hm h hv,if_pos hf]
theorem ZSC{O:ZS}{bf:Nat->Bool}{G:Za}{f:Nat}{args vs:List AVal}{ts:List Nat}{r r':AVal}(hb:bf f=false)(hsh:showAs G args=some (vs,ts))(hp:vs.all Zai=true)(hm:vs.map Z1=vs)(h:O f vs []=some (r,[]))(hv:ZbR 0 (some (r,[]))=some (r',[]))(hap:Zda G ts r'=true)(sq own:Nat) :
  Zq O bf G sq f own true args=some (r',G,{ rd:=ts }):=by
 rw[ZzS hb hsh hp hm h hv,if_pos hap]
 split<;>rfl
theorem Zct{O:ZS}{bf:Nat->Bool}{f:Nat}{args args':List AVal}{r r':AVal}(h:O f args' []=some (r,[]))(hb:bf f=false)(hp:args.all Zai=true)(hn:args.map Z1=args')(hv:ZbR 0 (some (r,[]))=some (r',[]))(hr:∀ sq,Zp (Zak [] [] sq) r'=r')(G:Za)(sq own:Nat):Zq O bf G sq f own true args=some (r',G,{}):=by
 rw[Zg4 hb hp,hn,h]
 have : ZV true 0 (some (r,[]))=some (r',[]):=by
  unfold ZV
  rw[if_pos rfl];exact hv
 rw[this,ZfJ _ _ _ _ (hr sq)]
theorem Zzx(k n:Nat)(xs:List AVal)(G:Za):ZR 0 (.row 0 k xs::G) (.sl 0 0 0 n)=some (.sl 0 0 0 n,[.row 0 k xs]):=by
 simp[ZR,gcA,Zw,Zt,Zl,ZH,Zn,Zo,ZI,Zm,ZD,Zj,Zp,Zz,ZB]
def ZeA:List AVal->AVal
 | []=>.lst true []
 |x::xs=>.sl 0 0 0 (x::xs).length
def ZeS(k:Nat):List AVal->Za
 | []=>[]
 |x::xs=>[.row 0 k (x::xs)]
theorem Zc0:ZeA []=.lst true []:=rfl
theorem ZkJ(x:AVal)(xs:List AVal):ZeA (x::xs)=.sl 0 0 0 (x::xs).length:=rfl
theorem ZcW(k:Nat):ZeS k []=[]:=rfl
theorem ZkG(k:Nat)(x:AVal)(xs:List AVal):ZeS k (x::xs)=[.row 0 k (x::xs)]:=rfl
theorem Zhe(l:Zd):kOk 1 (l.map Zh)=true:=by cases l<;>rfl
end
section
theorem ZSk(x c:Nat)(hc:c<256):IntKind.u64.wrap (((XR IntKind.u64.bits (IntKind.u64.wrap ((x:Int)*2^min (Xad 8) IntKind.u64.bits)) |||XR IntKind.u64.bits (c:Int)).toNat:Nat):Int)=(((x*256+c)%18446744073709551616:Nat):Int):=by
 rw[show(2:Int)^min (Xad 8) IntKind.u64.bits=256 from rfl]
 have hb:IntKind.u64.bits=64:=rfl
 rw[hb,IntKind.wrap_u64,IntKind.wrap_u64]
 have e1:(x:Int)*256%18446744073709551616=((x*256%18446744073709551616:Nat):Int):=by omega
 rw[e1,BitVec.toNat_or]
 simp only[BitVec.ofInt_natCast,BitVec.toNat_ofNat]
 have e2:x*256%18446744073709551616%2^64=(x%72057594037927936)<<<8:=by
  rw[Xa5];omega
 have e3:c%2^64=c:=by omega
 rw[e2,e3,<-Nat.shiftLeft_add_eq_or_of_lt (by omega:c<2^8),Xa5]
 omega
theorem Zyc(b:Zd)(hl:b.length<=9223372036854775807):∀ (r:Zd) (i x:Nat),b.drop i=r->Zn0 0 [(8,.int .i64 i),(7,.int .i64 b.length),(6,.lst false (b.map Zh)),(3,.int .u64 (x:Nat))] []=some (.int .u64 (ZiQ x r:Nat),[])
 | [],i,x,h=>by
  have h1:=Zep h
  unfold Zn0
  rw[Z9,ZeF]
  simp -implicitDefEqProofs only[EQA,Zc,Xc,Xa,↓reduceIte,ZNS,ZJZ,ZoZ,ZAs,ZlO,Zb,h1]
 |c::r,i,x,h=>by
  have ih:=Zyc b hl r (i+1) ((x*256+c.toNat)%18446744073709551616) (Zar h).2.1
  have h1:(i:Int)<b.length:=by have:=(Zar h).2.2;omega
  have e1:=iad (Zar h).1 Zh (k:=1) rfl
  have e3:=Zd1 h1 hl
  have ho:=ZSk x c.toNat c.toNat_lt
  have hc:IntKind.u64.wrap (c.toNat:Int)=(c.toNat:Int):=by rw[IntKind.wrap_u64];have:=c.toNat_lt;omega
  unfold Zn0 at ih ⊢
  rw[Z9,Zds]
  simp -implicitDefEqProofs only[EQA,Zc,ZT,Xc,Xa,Zbh,↓reduceIte,gcT,gcA,Zw,Zt,Zo,ZB,ZAs,ZlO,Zb,h1,e1,e3,ho,hc,Zh,AVal.cells,Int.reduceLT]
  exact ih
theorem ZAI(b:Zd)(hl:b.length<=9223372036854775807):E 95 [Z4 b] []=some (.int .u64 (Zcj b:Nat),[]):=by
 have key:=Zyc b hl b 0 0 rfl
 have z0:((0:Nat):Int)=0:=rfl
 rw[z0]at key
 unfold Zn0 at key
 unfold Zcj
 rw[Zg (by rfl) ZDE]
 simp -implicitDefEqProofs only[EQA,Zc,ZT,Xc,Xa,reduceCtorEq,↓reduceIte,gcT,gcA,Zw,Zt,Zo,ZB,ZQY,Zs0,Zb,Z4]
 exact key
theorem ZDG(G:Za)(sq own:Nat)(b:Zd)(hl:b.length<=9223372036854775807)(f:Bool):Zq E BY G sq 95 own true [.lst f (b.map Zh)]=some (.int .u64 (Zcj b:Nat),G,{}) :=
 Zct (ZAI b hl) (by kernel_rfl) rfl rfl rfl (fun _=>rfl) _ _ _
theorem ZvA(b:Zd)(hl:b.length<=9223372036854775807):∀ (r:Zd) (i x:Nat),b.drop i=r->ZoB 0 [(4,.int .i64 i),(3,.int .u64 (x:Nat)),(0,.lst false (b.map Zh))] []=some (.int .u64 (ZiQ x r:Nat),[])
 | [],i,x,h=>by
  have h1:=Zep h
  unfold ZoB
  rw[Z9,ZeF]
  simp -implicitDefEqProofs only[EQA,Zc,Xc,Xa,reduceCtorEq,↓reduceIte,ZDu,ZD4,Zs3,ZzN,ZmG,Zb,h1]
 |c::r,i,x,h=>by
  have ih:=ZvA b hl r (i+1) ((x*256+c.toNat)%18446744073709551616) (Zar h).2.1
  have h1:(i:Int)<b.length:=by have:=(Zar h).2.2;omega
  have e1:=iad (Zar h).1 Zh (k:=1) rfl
  have e3:=Zd1 h1 hl
  have ho:IntKind.u64.wrap (IntKind.u64.wrap ((x:Int)*256)+(c.toNat:Int))=(((x*256+c.toNat)%18446744073709551616:Nat):Int):=by
   rw[IntKind.wrap_u64,IntKind.wrap_u64]
   have:=c.toNat_lt
   omega
  have hc:IntKind.u64.wrap (c.toNat:Int)=(c.toNat:Int):=by rw[IntKind.wrap_u64];have:=c.toNat_lt;omega
  unfold ZoB at ih ⊢
  rw[Z9,Zds]
  simp -implicitDefEqProofs only[EQA,Zc,ZT,Xc,Xa,reduceCtorEq,↓reduceIte,gcT,gcA,Zw,Zt,Zo,ZB,ZzN,ZmG,Zb,h1,e1,e3,ho,hc,Zh,AVal.cells]
  exact ih
theorem ZOO(b:Zd)(hl:b.length<=9223372036854775807):E 118 [Z4 b] []=some (.int .u64 (Zcj b:Nat),[]):=by
 have key:=ZvA b hl b 0 0 rfl
 have z0:((0:Nat):Int)=0:=rfl
 rw[z0]at key
 unfold ZoB at key
 unfold Zcj
 rw[Zg (by rfl) ZIL]
 simp -implicitDefEqProofs only[EQA,Zc,ZT,Xc,Xa,reduceCtorEq,↓reduceIte,gcT,gcA,Zw,Zt,Zo,ZB,ZT0,ZoS,Zb,Z4]
 exact key
theorem ZlX(G:Za)(sq own:Nat)(b:Zd)(hl:b.length<=9223372036854775807)(f:Bool):Zq E BY G sq 118 own true [.lst f (b.map Zh)]=some (.int .u64 (Zcj b:Nat),G,{}) :=
 Zct (ZOO b hl) (by kernel_rfl) rfl rfl rfl (fun _=>rfl) _ _ _
end
section
theorem Zwf(ls:List Zd)(hl:ls.length<=9223372036854775807):∀ (r:List Zd) (i:Nat) (acc full:Zd),ls.drop i=r->full=acc++r.flatten->full.length<=140737488355328 ->
  Zom 0 [(8,.int .i64 i),(7,.int .i64 ls.length),(6,.lst false (ls.map Z4)),(3,.sl 0 0 0 acc.length)] [.row 0 1 (acc.map Zh)]=some (.sl 0 0 0 full.length,[.row 0 1 (full.map Zh)])
 | [],i,acc,full,h,hf,hn=>by
  have h1:=Zep h
  have e:full=acc:=by simpa using hf
  subst e
  unfold Zom
  rw[Z9]
  simp -implicitDefEqProofs only[EQA,Zc,Xc,Xa,↓reduceIte,ZSv,ZKu,ZtM,Zrh,ZkF,Zb,h1,Zzx]
 |p::r,i,acc,full,h,hf,hn=>by
  have ih:=Zwf ls hl r (i+1) (acc++p) full (Zar h).2.1 (by grind) hn
  have h1:(i:Int)<ls.length:=by have:=(Zar h).2.2;omega
  have e1:=iad (Zar h).1 Z4 (k:=1) rfl
  have e3:=Zd1 h1 hl
  have k1:=Zhe p
  have k2:(acc.length+p.length)*1<=140737488355328:=by have:=congrArg List.length hf;simp at this;omega
  have e4:(acc++p).map Zh=acc.map Zh++p.map Zh:=by simp
  have e5:(acc++p).length=acc.length+p.length:=by simp
  rw[e4,e5]at ih
  clear hf
  unfold Zom at ih ⊢
  rw[Z9]
  unfold Z4 at e1 ih ⊢
  simp -implicitDefEqProofs only[EQA,Zc,ZT,ZbH,Xd,Xc,Xa,Xg,reduceCtorEq,ZZ,↓reduceIte,gcT,gcA,Zw,Zt,Zn,Zo,ZI,Zm,ZD,Zz,ZB,Zrh,ZkF,Zb,h1,e1,e3,k1,k2,Zan,AVal.cells]
  exact ih
theorem ZBI(p:Zd)(ls:List Zd)(hl:(p::ls).length<=9223372036854775807)(hn:(p::ls).flatten.length<=140737488355328):E 36 [.lst false ((p::ls).map Z4)] []=some (.sl 0 0 0 (p::ls).flatten.length,[.row 0 1 ((p::ls).flatten.map Zh)]):=by
 have key:=Zwf (p::ls) hl ls 1 p (p::ls).flatten rfl rfl hn
 have k1:=Zhe p
 have k2:p.length*1<=140737488355328:=by simp at hn;omega
 have h1:(0:Int)<((p::ls).length:Int):=by simp
 have hat:(p::ls)[0]?=some p:=rfl
 have e1:=iad hat Z4 (k:=1) rfl
 have z0:((0:Nat):Int)=0:=rfl
 have z1:((1:Nat):Int)=1:=rfl
 have w1:IntKind.i64.wrap (0+1)=1:=rfl
 rw[z0]at e1
 rw[z1]at key
 unfold Zom at key
 generalize hL:p::ls=L at *
 rw[Zg (by rfl) ZPX]
 unfold Z4 at e1 key ⊢
 simp -implicitDefEqProofs only[EQA,Zc,ZT,Xc,Xa,reduceCtorEq,↓reduceIte,gcT,gcA,Zw,Zt,Zo,ZB,ZTs,Zrj,Zb]
 rw[Z9]
 simp -implicitDefEqProofs only[EQA,Zc,ZT,ZbH,Xc,Xa,Xg,ZZ,↓reduceIte,gcT,gcA,Zw,Zt,Zn,Zo,ZI,Zm,ZD,Zz,ZB,Zrh,ZkF,Zb,h1,e1,w1,k1,k2,Zan,AVal.cells]
 exact key
end
section
def gvT(x:Nat×Nat×Int):AVal:=.tup [.int .i64 (x.1:Nat),.int .i64 (x.2.1:Nat),.int .i64 x.2.2]
theorem ZD6:∀ n:Fin 256,IntKind.u8.wrap (((XR IntKind.u8.bits ((n.val:Nat):Int)&&&XR IntKind.u8.bits 127).toNat:Nat):Int)=((n.val%128:Nat):Int):=by decide +kernel
theorem ZEd(c:UInt8):IntKind.u8.wrap (((XR IntKind.u8.bits (c.toNat:Int)&&&XR IntKind.u8.bits 127).toNat:Nat):Int)=((c.toNat%128:Nat):Int):=ZD6 ⟨c.toNat,c.toNat_lt⟩
theorem ZsI(i:Nat):128^i=2^(7*i):=by rw[Nat.pow_mul]
theorem ZEl(n a i:Nat)(hi:i<=3)(hn:n<128^i)(ha:a<128):IntKind.i64.wrap (((XR IntKind.i64.bits (n:Int) |||XR IntKind.i64.bits ((a*128^i:Nat):Int)).toNat:Nat):Int)=((n+a*128^i:Nat):Int):=by
 have hb:IntKind.i64.bits=64:=rfl
 have hp:128^i<=128^3:=W9 (by decide) hi
 have hm:a*128^i<=127*128^3:=Xbb (by omega) hp
 rw[hb,BitVec.toNat_or]
 simp only[BitVec.ofInt_natCast,BitVec.toNat_ofNat]
 have e1:n%2^64=n:=Xa3 (by omega)
 have e2:a*128^i%2^64=a*128^i:=Xa3 (by omega)
 rw[e1,e2]
 have e3:a*128^i=a<<<(7*i):=by rw[Xa5,ZsI]
 have e4:n |||a*128^i=n+a*128^i:=by
  rw[e3,Nat.or_comm,<-Nat.shiftLeft_add_eq_or_of_lt (by rw[<-ZsI];exact hn)]
  omega
 rw[e4,ZaE (by omega) (by omega)]
theorem ZDa(a i:Nat)(hi:i<=3)(ha:a<128):IntKind.i64.wrap ((a:Int)*2^min (Xad ((7*i:Nat):Int)) IntKind.i64.bits)=((a*128^i:Nat):Int):=by
 have hp:128^i<=128^3:=W9 (by decide) hi
 have hm:a*128^i<=127*128^3:=Xbb (by omega) hp
 have e:min (Xad ((7*i:Nat):Int)) IntKind.i64.bits=7*i:=by
  have hb:IntKind.i64.bits=64:=rfl
  rw[hb];omega
 have e2:((a:Int)*2^(7*i))=((a*128^i:Nat):Int):=by rw[ZsI];simp
 rw[e,e2,ZaE (by omega) (by omega)]
theorem ZqA(n i a:Nat)(hn:n<128^i)(ha:a<128):n+a*128^i<128^(i+1):=by
 have : a*128^i<=127*128^i:=Nat.mul_le_mul_right _ (by omega)
 rw[Nat.pow_succ];omega
theorem Zwq(b:Zd)(hl:b.length<=9223372036854775807):∀ (r:Zd) (i n:Nat),i<=4->i<=b.length->n<128^i->b.drop i=r ->
  Zi1 0 [(9,.int .i64 i),(8,.int .i64 b.length),(7,.lst false (b.map Zh)),(2,.int .i64 n),(0,.lst false (b.map Zh))] []=some (gvT (gvA i n r),[])
 | [],i,n,hi,hib,hn,h=>by
  have h1:=Zep h
  unfold Zi1
  rw[Z9,gvA]
  by_cases h4:i<4
  ·have h5:(b.length:Int)<4:=by omega
   simp -implicitDefEqProofs only[EQA,Zc,Xc,Xa,reduceCtorEq,↓reduceIte,Ze,Zjc,Zo9,Zlh,ZhX,ZgD,Zb,h1,h4,h5,gvT]
   rfl
  ·have h5:¬(b.length:Int)<4:=by omega
   simp -implicitDefEqProofs only[EQA,Zc,Xc,Xa,reduceCtorEq,↓reduceIte,Ze,Zjc,Zo9,Zlh,ZhX,ZgD,Zb,h1,h4,h5,gvT]
   rfl
 |c::r,i,n,hi,hib,hn,h=>by
  have hlt:=(Zar h).2.2
  have h1:(i:Int)<b.length:=by omega
  have e1:=iad (Zar h).1 Zh (k:=1) rfl
  have e3:=Zd1 h1 hl
  rw[gvA]
  by_cases h4:i=4
  ·have h5:¬(b.length:Int)<4:=by omega
   have h6:((i:Int)==4)=true:=by simp;omega
   rw[if_pos h4]
   unfold Zi1
   rw[Z9]
   simp -implicitDefEqProofs only[EQA,Zc,Xc,Xa,reduceCtorEq,↓reduceIte,Ze,Zjc,Zo9,Zlh,ZhX,ZgD,Zb,h1,e1,h5,h6,gvT,Zh,AVal.cells]
   rfl
  ·have h6:((i:Int)==4)=false:=by simp;omega
   have hm:=ZEd c
   have ha:c.toNat%128<128:=Xbe _ (by decide)
   have hi64:IntKind.i64.wrap ((c.toNat%128:Nat):Int)=((c.toNat%128:Nat):Int):=ZaE (by omega) (by omega)
   have h7:IntKind.i64.wrap (7*(i:Int))=((7*i:Nat):Int):=by rw[ZaE (by omega) (by omega)];omega
   have hneg:¬((7*i:Nat):Int)<0:=by omega
   have hs:=ZDa (c.toNat%128) i (by omega) ha
   have ho:=ZEl n (c.toNat%128) i (by omega) hn ha
   by_cases hc:c.toNat<128
   ·have hc':(c.toNat:Int)<128:=by omega
    unfold Zi1
    rw[Z9]
    by_cases hc0:c=0
    ·have hc1:((c.toNat:Int)==0)=true:=by rw[hc0];rfl
     by_cases hip:0<i
     ·have hip':(i:Int)>0:=by omega
      have hcc:c=0/\0<i:=⟨hc0,hip⟩
      simp -implicitDefEqProofs only[EQA,Zc,ZT,Zdk,ZzT,Xc,Xa,Zbh,Zy,Z6,unG,reduceCtorEq,decide_eq_true_eq,ite_self,↓reduceIte,Ze,gcT,gcA,Zw,Zt,Zo,ZB,Zjc,ZhX,ZgD,Zb,h1,e1,h4,h6,h7,hneg,hip',hcc,gvT,Zh,AVal.cells]
      rfl
     ·have hip':¬(i:Int)>0:=by omega
      have hcc:¬(c=0/\0<i):=fun h=>hip h.2
      simp -implicitDefEqProofs only[EQA,Zc,Xc,Xa,Zbh,Zy,unG,reduceCtorEq,↓reduceIte,Ze,Zjc,ZhX,ZgD,Zb,h1,e1,h4,h6,hm,hi64,h7,hneg,hs,ho,hc,hc',hc1,hip',hcc,e3,gvT,Zh,AVal.cells]
    ·have hc1:((c.toNat:Int)==0)=false:=by
      have : c.toNat≠0:=fun h=>hc0 (Xa8.1 (by grind))
      simp;omega
     have hcc:¬(c=0/\0<i):=fun h=>hc0 h.1
     simp -implicitDefEqProofs only[EQA,Zc,Xc,Xa,Zbh,Zy,Z6,reduceCtorEq,↓reduceIte,Ze,Zjc,ZhX,ZgD,Zb,h1,e1,h4,h6,hm,hi64,h7,hneg,hs,ho,hc,hc',hc1,hcc,e3,gvT,Zh,AVal.cells]
   ·have hc':¬(c.toNat:Int)<128:=by omega
    have ih:=Zwq b hl r (i+1) (n+c.toNat%128*128^i) (by omega) (by omega) (ZqA n i _ hn ha) (Zar h).2.1
    unfold Zi1 at ih ⊢
    rw[Z9]
    simp -implicitDefEqProofs only[EQA,Zc,ZT,Xc,Xa,Zbh,reduceCtorEq,↓reduceIte,gcT,gcA,Zw,Zt,Zo,ZB,ZhX,ZgD,Zb,h1,e1,h4,h6,hm,hi64,h7,hneg,hs,ho,hc,hc',e3,Zh,AVal.cells]
    exact ih
theorem ZCM(b:Zd)(hl:b.length<=9223372036854775807):E 115 [Z4 b] []=some (gvT (Zas b),[]):=by
 have key:=Zwq b hl b 0 0 (by omega) (by omega) (by simp) rfl
 have z0:((0:Nat):Int)=0:=rfl
 rw[z0]at key
 unfold Zi1 at key
 unfold Zas
 rw[Zg (by rfl) ZKx]
 simp -implicitDefEqProofs only[EQA,Zc,ZT,Xc,Xa,reduceCtorEq,↓reduceIte,gcT,gcA,Zw,Zt,Zo,ZB,ZHi,Zt1,Zb,Z4]
 exact key
theorem Zxe(b:Zd)(hl:b.length<=9223372036854775807):∀ (r:Zd) (i n:Nat),i<=4->i<=b.length->n<128^i->b.drop i=r ->
  ZgA 0 [(7,.int .i64 i),(6,.int .i64 (128^i:Nat)),(5,.int .i64 n),(0,.lst false (b.map Zh))] []=some (gvT (gvA i n r),[])
 | [],i,n,hi,hib,hn,h=>by
  have h1:i=b.length:=by have:=XY.1 h;omega
  rw[gvA]
  by_cases h4:i<4
  ·have h5:(i:Int)<4:=by omega
   have h6:((i:Int)==(b.length:Int))=true:=by simp;omega
   rw[if_pos h4]
   unfold ZgA
   rw[Z9]
   simp -implicitDefEqProofs only[EQA,Zc,Xc,Xa,reduceCtorEq,↓reduceIte,Ze,Zje,Zix,ZgQ,Zb,h5,h6,gvT]
   rfl
  ·have h5:¬(i:Int)<4:=by omega
   rw[if_neg h4]
   unfold ZgA
   rw[Z9]
   simp -implicitDefEqProofs only[EQA,Zc,Xc,Xa,reduceCtorEq,↓reduceIte,Ze,Zje,Zzb,ZnD,Zix,ZgQ,Zb,h5,gvT]
   rfl
 |c::r,i,n,hi,hib,hn,h=>by
  have hlt:=(Zar h).2.2
  have e1:=iad (Zar h).1 Zh (k:=1) rfl
  have e3:=Zd1 (show(i:Int)<b.length by omega) hl
  rw[gvA]
  by_cases h4:i=4
  ·have h5:¬(i:Int)<4:=by omega
   rw[if_pos h4]
   unfold ZgA
   rw[Z9]
   simp -implicitDefEqProofs only[EQA,Zc,Xc,Xa,reduceCtorEq,↓reduceIte,Ze,Zje,Zzb,ZnD,Zix,ZgQ,Zb,h5,gvT]
   rfl
  ·have h5:(i:Int)<4:=by omega
   have h6:((i:Int)==(b.length:Int))=false:=by simp;omega
   have ha:c.toNat%128<128:=Xbe _ (by decide)
   have hp:128^i<=128^3:=W9 (by decide) (by omega)
   have hmul:c.toNat%128*128^i<=127*128^3:=Xbb (by omega) hp
   have hz:((128:Int)=0)=False:=by simp
   have hm:(c.toNat:Int).tmod 128=((c.toNat%128:Nat):Int):=by rw[Int.tmod_eq_emod_of_nonneg (by omega)];omega
   have hi64:IntKind.i64.wrap ((c.toNat%128:Nat):Int)=((c.toNat%128:Nat):Int):=ZaE (by omega) (by omega)
   have hx:IntKind.i64.wrap (((c.toNat%128:Nat):Int)*((128^i:Nat):Int))=((c.toNat%128*128^i:Nat):Int):=by
    rw[<-Int.natCast_mul,ZaE (by omega) (by omega)]
   have hs:IntKind.i64.wrap ((n:Int)+((c.toNat%128*128^i:Nat):Int))=((n+c.toNat%128*128^i:Nat):Int):=by
    rw[<-Int.natCast_add,ZaE (by omega) (by omega)]
   have hu:IntKind.i64.wrap (((128^i:Nat):Int)*128)=((128^(i+1):Nat):Int):=by
    have : ((128^i:Nat):Int)*128=((128^(i+1):Nat):Int):=by rw[Nat.pow_succ,Int.natCast_mul];rfl
    have h9:128^(i+1)<=128^4:=W9 (by decide) (by omega)
    rw[this,ZaE (by omega) (by omega)]
   by_cases hc:c.toNat<128
   ·have hc':(c.toNat:Int)<128:=by omega
    by_cases hc0:c=0
    ·have hc1:((c.toNat:Int)==0)=true:=by rw[hc0];rfl
     by_cases hip:0<i
     ·have hip':(i:Int)>0:=by omega
      have hcc:c=0/\0<i:=⟨hc0,hip⟩
      unfold ZgA
      rw[Z9,if_neg h4,if_pos hc,if_pos hcc]
      simp -implicitDefEqProofs only[EQA,Zc,Xc,Xa,Zy,unG,reduceCtorEq,↓reduceIte,Ze,Zje,Zix,ZgQ,Zb,h5,h6,e1,hz,hm,hi64,hx,hs,hu,hc',hc1,hip',gvT,Zh,AVal.cells]
      rfl
     ·have hip':¬(i:Int)>0:=by omega
      have hcc:¬(c=0/\0<i):=fun h=>hip h.2
      unfold ZgA
      rw[Z9,if_neg h4,if_pos hc,if_neg hcc]
      simp -implicitDefEqProofs only[EQA,Zc,Xc,Xa,Zy,unG,reduceCtorEq,↓reduceIte,Ze,Zje,Zix,ZgQ,Zb,h5,h6,e1,hz,hm,hi64,hx,hs,hu,hc',hc1,hip',e3,gvT,Zh,AVal.cells]
    ·have hc1:((c.toNat:Int)==0)=false:=by
      have : c.toNat≠0:=fun h=>hc0 (Xa8.1 (by grind))
      simp;omega
     have hcc:¬(c=0/\0<i):=fun h=>hc0 h.1
     unfold ZgA
     rw[Z9,if_neg h4,if_pos hc,if_neg hcc]
     simp -implicitDefEqProofs only[EQA,Zc,Xc,Xa,Zy,Z6,reduceCtorEq,↓reduceIte,Ze,Zje,Zix,ZgQ,Zb,h5,h6,e1,hz,hm,hi64,hx,hs,hu,hc',hc1,e3,gvT,Zh,AVal.cells]
   ·have hc':¬(c.toNat:Int)<128:=by omega
    have ih:=Zxe b hl r (i+1) (n+c.toNat%128*128^i) (by omega) (by omega) (ZqA n i _ hn ha) (Zar h).2.1
    unfold ZgA at ih ⊢
    rw[Z9,if_neg h4,if_neg hc]
    simp -implicitDefEqProofs only[EQA,Zc,ZT,Xc,Xa,reduceCtorEq,↓reduceIte,gcT,gcA,Zw,Zt,Zo,ZB,Zix,ZgQ,Zb,h5,h6,e1,hz,hm,hi64,hx,hs,hu,hc',e3,Zh,AVal.cells]
    exact ih
theorem ZJE(b:Zd)(hl:b.length<=9223372036854775807):E 120 [Z4 b] []=some (gvT (Zas b),[]):=by
 have key:=Zxe b hl b 0 0 (by omega) (by omega) (by simp) rfl
 have z0:((0:Nat):Int)=0:=rfl
 have z1:((128^0:Nat):Int)=1:=rfl
 rw[z0,z1]at key
 unfold ZgA at key
 unfold Zas
 rw[Zg (by rfl) ZRj]
 simp -implicitDefEqProofs only[EQA,Zc,ZT,Xc,Xa,reduceCtorEq,↓reduceIte,gcT,gcA,Zw,Zt,Zo,ZB,ZGF,ZrO,Zb,Z4]
 exact key
theorem ZpN(G:Za)(sq own:Nat)(f:Bool)(b:Zd)(hl:b.length<=9223372036854775807):Zq E BY G sq 120 own true [.lst f (b.map Zh)]=some (gvT (Zas b),G,{}) :=
 Zct (ZJE b hl) (by kernel_rfl) rfl rfl rfl (fun _=>rfl) _ _ _
end
section
theorem Zv6(l:List UInt8)(p:Nat):ZgC l p=Lib.decodeL (l.drop p):=by
 have:=Lib.decodeL_drop ⟨l.toArray⟩ p
 simpa[ZgC]using this.symm
def zfG:Nat->List UInt8->Bool
 |0,_=>true
 |n+1,l=>if l=[]then true else if(Lib.decodeL l).1=0 then false else zfG n (l.drop (Lib.decodeL l).2)
def Zio(l:List UInt8):Bool:=zfG l.length l&&Lib.validD l
theorem ZO4(l:List UInt8):E 138 [.str l] []=some (.bool (Lib.validD l),[]):=ZdD.2 ⟨1,rfl⟩
theorem ZHm(G:Za)(sq own:Nat)(view:Bool)(l:List UInt8):Zq E BY G sq 138 own view [.str l]=some (.bool (Lib.validD l),G,{}) :=
 ZdI (ZO4 l) (by kernel_rfl) (by simp -implicitDefEqProofs only[Zem,ZbW,eq_self]) (by simp -implicitDefEqProofs only[ZE,ZbW,eq_self]) rfl (fun _=>rfl) _ _ _ _
theorem ZyB(s:List UInt8):∀ (n p:Nat),s.length-p<=n->p<=s.length->Zmt 0 [(6,.ref 0 0),(0,.str s)] [.siter s p]=some (.bool (zfG n (s.drop p)&&Lib.validD s),[])
 |n,p,hn,hp=>by
  by_cases h:p<s.length
  ·obtain⟨n,rfl⟩:∃ m,n=m+1:=⟨n-1,by omega⟩
   have hw:=Lib.decodeL_width (s.drop p)
   have hne:s.drop p≠[]:=by rw[ne_eq,XY];omega
   have hle:=Lib.decodeL_le (s.drop p) hne
   rw[Wt]at hle
   have ih:=ZyB s n (p+(Lib.decodeL (s.drop p)).2) (by omega) (by omega)
   rw[<-List.drop_drop]at ih
   unfold Zmt at ih ⊢
   rw[Z9]
   by_cases hz:(Lib.decodeL (s.drop p)).1=0
   ·have hz':((Lib.decodeL (s.drop p)).1:Int)=0:=by omega
    simp -implicitDefEqProofs only[EQA,Zc,Xc,Xa,reduceCtorEq,↓reduceIte,Zu6,Zrk,Zlg,Zb,h,Zv6,hz']
    rw[zfG,if_neg hne,if_pos hz];rfl
   ·have hz':(((Lib.decodeL (s.drop p)).1:Int)==0)=false:=by rw[beq_eq_false_iff_ne];omega
    simp -implicitDefEqProofs only[EQA,Zc,ZT,ZbH,Xc,Xa,reduceCtorEq,↓reduceIte,gcT,gcA,Zw,Zt,Zn,Zo,ZI,Zm,ZD,Zz,ZB,Zrk,Zlg,Zb,h,Zv6,hz']
    rw[ih,zfG,if_neg hne,if_neg hz]
  ·have he:s.drop p=[]:=by rw[XY];omega
   unfold Zmt
   rw[Z9]
   simp -implicitDefEqProofs only[EQA,Zc,Xc,Xa,reduceCtorEq,↓reduceIte,Zu6,ZPA,Zts,Zrk,Zlg,Zb,h,ZHm]
   rw[he]
   cases n<;>simp[zfG]
theorem ZG2(s:List UInt8):E 117 [.str s] []=some (.bool (Zio s),[]):=by
 rw[Zg (by rfl) ZPm]
 have:=ZyB s s.length 0 (by omega) (by omega)
 unfold Zmt at this
 simp -implicitDefEqProofs only[EQA,Zc,ZT,ZbH,Xc,Xg,reduceCtorEq,↓reduceIte,gcT,gcA,Zw,Zt,Zn,Zo,ZI,Zm,ZD,Zz,ZB,ZC2,Zpg,Zb]
 rw[this,Xat];rfl
theorem ZQ8(G:Za)(sq own:Nat)(view:Bool)(l:List UInt8):Zq E BY G sq 117 own view [.str l]=some (.bool (Zio l),G,{}) :=
 ZdI (ZG2 l) (by kernel_rfl) (by simp -implicitDefEqProofs only[Zem,ZbW,eq_self]) (by simp -implicitDefEqProofs only[ZE,ZbW,eq_self]) rfl (fun _=>rfl) _ _ _ _
def Zcd:List UInt8->Int->Option Int
 | [],c=>some c
 |b::r,c=>if b.toNat<128\/192<=b.toNat then none else Zcd r (c*64+b.toNat-128)
def Zb4(n least:Int):Option Int->AVal
 |none=>.tup [.int .i64 0,.int .i64 0]
 |some c=>if c<least\/1114111<c\/(55296<=c/\c<57344)then .tup [.int .i64 0,.int .i64 0]else .tup [.int .i64 c,.int .i64 (n+1)]
theorem Zzu(b:UInt8):(b.toNat:Int)<256:=by have:=b.toNat_lt;omega
theorem wrap_i64{n:Int}(h0:-9223372036854775808<=n)(h:n<=9223372036854775807):IntKind.i64.wrap n=n:=ZaE h0 h
theorem ZmS(s:List UInt8)(least:Int)(n:Nat)(hn:n<=3):∀ (r:List UInt8) (i:Nat) (c:Int),1<=i->i+r.length=n+1->(∀ j,j<r.length->s[i+j]?=r[j]?)->0<=c->(c+1)*64^r.length<=2^40->n<s.length ->
  Zho 0 [(7,.int .i64 i),(6,.int .i64 least),(5,.int .i64 n),(4,.int .i64 c),(0,.str s)] []=some (Zb4 n least (Zcd r c),[])
 | [],i,c,hi,hl,hs,hc,hb,hns=>by
  simp only[Xw,X6]at hl
  simp only[Xw,Int.pow_zero,Int.mul_one]at hb
  have h1:¬((i:Int)<=n):=by omega
  have h2:IntKind.i64.wrap ((n:Int)+1)=n+1:=ZaE (by omega) (by omega)
  unfold Zho
  rw[Z9]
  by_cases h4:c<least
  ·have e:Zb4 n least (Zcd [] c)=.tup [.int .i64 0,.int .i64 0]:=by simp[Zb4,Zcd,h4]
   rw[e]
   simp -implicitDefEqProofs only[EQA,Zc,Xc,Xa,Zy,Z6,reduceCtorEq,↓reduceIte,Ze,Zdt,Zk8,ZhS,ZgZ,ZfD,Zb,h1,h4]
  by_cases h5:c>1114111
  ·have e:Zb4 n least (Zcd [] c)=.tup [.int .i64 0,.int .i64 0]:=by
    have h5':1114111<c:=h5
    simp[Zb4,Zcd,h5']
   rw[e]
   simp -implicitDefEqProofs only[EQA,Zc,Xc,Xa,Zy,Z6,unG,reduceCtorEq,↓reduceIte,Ze,Zdt,Zk8,ZhS,ZgZ,ZfD,Zb,h1,h4,h5]
  by_cases h6:c>=55296
  ·by_cases h7:c<57344
   ·have e:Zb4 n least (Zcd [] c)=.tup [.int .i64 0,.int .i64 0]:=by
     simp only[Zb4,Zcd];grind
    rw[e]
    simp -implicitDefEqProofs only[EQA,Zc,Xc,Xa,Zy,unG,reduceCtorEq,↓reduceIte,Ze,Zdt,Zk8,ZhS,ZgZ,ZfD,Zb,h1,h4,h5,h6,h7]
   ·have e:Zb4 n least (Zcd [] c)=.tup [.int .i64 c,.int .i64 (n+1)]:=by
     simp only[Zb4,Zcd];grind
    rw[e]
    simp -implicitDefEqProofs only[EQA,Zc,Xc,Xa,Zy,unG,reduceCtorEq,↓reduceIte,Ze,Zdt,Zk8,ZhS,ZgZ,ZfD,Zb,h1,h2,h4,h5,h6,h7]
  ·have e:Zb4 n least (Zcd [] c)=.tup [.int .i64 c,.int .i64 (n+1)]:=by
    simp only[Zb4,Zcd];grind
   rw[e]
   simp -implicitDefEqProofs only[EQA,Zc,Xc,Xa,Zy,Z6,unG,reduceCtorEq,↓reduceIte,Ze,Zdt,Zk8,ZhS,ZgZ,ZfD,Zb,h1,h2,h4,h5,h6]
 |b::r,i,c,hi,hl,hs,hc,hb,hns=>by
  simp only[Xz]at hl hb
  have hb0:=Zzu b
  have hs0:s[i]?=some b:=by have:=hs 0 (by simp);simpa using this
  have h1:((i:Int)<=n):=by omega
  have h3:IntKind.i64.wrap ((i:Int)+1)=((i+1:Nat):Int):=by rw[ZaE (by omega) (by omega)];rfl
  have hp:(1:Int)<=64^r.length:=by
   have : (0:Int)<64^r.length:=Int.pow_pos (by omega)
   omega
  have hc2:c+1<=2^40:=by
   have : (c+1)*1<=(c+1)*64^(r.length+1):=Int.mul_le_mul_of_nonneg_left (by grind) (by omega)
   omega
  have i0:(0:Int)<=(i:Int):=by omega
  have hlow:((b.toNat:Int)<128)\/¬((b.toNat:Int)<128):=by omega
  by_cases h4:(b.toNat:Int)<128
  ·have e:Zb4 n least (Zcd (b::r) c)=.tup [.int .i64 0,.int .i64 0]:=by simp only[Zcd];rw[if_pos (Xq (by omega))];rfl
   rw[e]
   unfold Zho
   rw[Z9]
   simp -implicitDefEqProofs only[EQA,Zc,Xc,Xa,Zy,Z6,reduceCtorEq,↓reduceIte,Ze,Zdt,ZgZ,ZfD,Zb,h1,h4,hs0,i0,WB,Zh]
  by_cases h5:(b.toNat:Int)>=192
  ·have e:Zb4 n least (Zcd (b::r) c)=.tup [.int .i64 0,.int .i64 0]:=by simp only[Zcd];rw[if_pos (Xt (by omega))];rfl
   rw[e]
   unfold Zho
   rw[Z9]
   simp -implicitDefEqProofs only[EQA,Zc,Xc,Xa,Zy,unG,reduceCtorEq,↓reduceIte,Ze,Zdt,ZgZ,ZfD,Zb,h1,h4,h5,hs0,i0,WB,Zh]
  have ih:=ZmS s least n hn r (i+1) (c*64+b.toNat-128) (by omega) (by omega) (fun j hj=>by
   have:=hs (j+1) (by simp;omega)
   rw[show i+1+j=i+(j+1)by omega,this];simp) (by omega) (by
    have : (c*64+b.toNat-128+1)*64^r.length<=(c+1)*64*64^r.length:=Int.mul_le_mul_of_nonneg_right (by omega) (by omega)
    rw[Int.pow_succ,Int.mul_comm (64^r.length) 64,<-Int.mul_assoc]at hb
    omega) hns
  have w1:IntKind.i64.wrap (c*64)=c*64:=ZaE (by omega) (by omega)
  have w2:IntKind.i64.wrap (b.toNat:Int)=b.toNat:=ZaE (by omega) (by omega)
  have w3:IntKind.i64.wrap (c*64+b.toNat)=c*64+b.toNat:=ZaE (by omega) (by omega)
  have w4:IntKind.i64.wrap (c*64+b.toNat-128)=c*64+b.toNat-128:=ZaE (by omega) (by omega)
  unfold Zho at ih ⊢
  rw[Z9]
  simp -implicitDefEqProofs only[EQA,Zc,ZT,Xc,Xa,Zy,unG,reduceCtorEq,↓reduceIte,gcT,gcA,Zw,Zt,Zo,ZB,ZgZ,ZfD,Zb,h1,h3,h4,h5,hs0,i0,w1,w2,w3,w4,WB,Zh]
  rw[ih]
  simp only[Zcd]
  grind
def Zfn(l:List UInt8):Nat×Nat:=if(Lib.decodeL l).1=65533/\(Lib.decodeL l).2=1 then(0,0)else Lib.decodeL l
def Zdi(p:Nat×Nat):AVal:=.tup [.int .i64 p.1,.int .i64 p.2]
theorem Zkm(l:List UInt8):Zfn l=if(Lib.decodeN l.length (l.getD 0 0).toNat (l.getD 1 0).toNat (l.getD 2 0).toNat (l.getD 3 0).toNat).1=65533/\(Lib.decodeN l.length (l.getD 0 0).toNat (l.getD 1 0).toNat (l.getD 2 0).toNat (l.getD 3 0).toNat).2=1 then(0,0)else Lib.decodeN l.length (l.getD 0 0).toNat (l.getD 1 0).toNat (l.getD 2 0).toNat (l.getD 3 0).toNat:=by
 unfold Zfn;rw[Lib.decodeL_N]
theorem Zpq{c n:Int}{p:Nat×Nat}(h1:c=p.1)(h2:n=p.2):(.tup [.int .i64 c,.int .i64 n]:AVal)=Zdi p:=by simp[Zdi,h1,h2]
theorem ZJb(b0 b1:UInt8)(t:List UInt8)(h:192<=b0.toNat/\b0.toNat<224):Zb4 1 128 (Zcd [b1] (b0.toNat-192))=Zdi (Zfn (b0::b1::t)):=by
 rw[Zkm]
 simp only[Xz,Xm,Xs,Zcd]
 have hb1:=b1.toNat_lt
 generalize b0.toNat=x0 at *
 generalize b1.toNat=x1 at *
 generalize ((t.getD 0 0).toNat)=x2
 generalize ((t.getD 1 0).toNat)=x3
 have e1:¬x0<128:=by omega
 have e2:x0/32=6:=by omega
 have e3:1<t.length+1+1:=by omega
 have e4:¬x0/16=14:=by omega
 have e5:¬x0/8=30:=by omega
 by_cases h1:x1<128\/192<=x1
 ·rw[if_pos h1]
  have e6:¬x1/64=2:=by omega
  simp[Lib.decodeN,e1,e2,e4,e5,e6,Zb4,Zdi]
 ·rw[if_neg h1]
  have e6:x1/64=2:=by omega
  simp only[Lib.decodeN,e1,e2,e3,e6,if_false,and_self,if_true]
  simp only[Zb4]
  by_cases h2:x0%32*64+x1%64>=128
  ·rw[if_neg (by omega),if_pos h2,if_neg (by simp)]
   exact Zpq (by grind) (by simp)
  ·rw[if_pos (by omega),if_neg h2,if_pos (by simp)]
   rfl
theorem ZEN(b0 b1 b2:UInt8)(t:List UInt8)(h:224<=b0.toNat/\b0.toNat<240):Zb4 2 2048 (Zcd [b1,b2] (b0.toNat-224))=Zdi (Zfn (b0::b1::b2::t)):=by
 rw[Zkm]
 simp only[Xz,Xm,Xs,Zcd]
 have hb1:=b1.toNat_lt
 have hb2:=b2.toNat_lt
 generalize b0.toNat=x0 at *
 generalize b1.toNat=x1 at *
 generalize b2.toNat=x2 at *
 generalize ((t.getD 0 0).toNat)=x3
 have e1:¬x0<128:=by omega
 have e2:¬x0/32=6:=by omega
 have e3:1<t.length+1+1+1:=by omega
 have e3':2<t.length+1+1+1:=by omega
 have e4:x0/16=14:=by omega
 have e5:¬x0/8=30:=by omega
 by_cases h1:x1<128\/192<=x1
 ·rw[if_pos h1]
  have e6:¬x1/64=2:=by omega
  simp[Lib.decodeN,e1,e2,e4,e5,e6,Zb4,Zdi]
 ·rw[if_neg h1]
  have e6:x1/64=2:=by omega
  by_cases h2:x2<128\/192<=x2
  ·rw[if_pos h2]
   have e7:¬x2/64=2:=by omega
   simp[Lib.decodeN,e1,e2,e4,e5,e6,e7,Zb4,Zdi]
  ·rw[if_neg h2]
   have e7:x2/64=2:=by omega
   simp only[Lib.decodeN,e1,e2,e3,e3',e4,e6,e7,if_false,and_self,if_true,false_and]
   simp only[Zb4]
   by_cases h3:x0%16*4096+x1%64*64+x2%64>=2048/\(x0%16*4096+x1%64*64+x2%64<55296\/(57344<=x0%16*4096+x1%64*64+x2%64/\x0%16*4096+x1%64*64+x2%64<=1114111))
   ·rw[if_neg (by omega),if_pos h3,if_neg (by simp)]
    exact Zpq (by grind) (by simp)
   ·rw[if_pos (by omega),if_neg h3,if_pos (by simp)]
    rfl
theorem ZCL(b0 b1 b2 b3:UInt8)(t:List UInt8)(h:240<=b0.toNat/\b0.toNat<248):Zb4 3 65536 (Zcd [b1,b2,b3] (b0.toNat-240))=Zdi (Zfn (b0::b1::b2::b3::t)):=by
 rw[Zkm]
 simp only[Xz,Xm,Xs,Zcd]
 have hb1:=b1.toNat_lt
 have hb2:=b2.toNat_lt
 have hb3:=b3.toNat_lt
 generalize b0.toNat=x0 at *
 generalize b1.toNat=x1 at *
 generalize b2.toNat=x2 at *
 generalize b3.toNat=x3 at *
 have e1:¬x0<128:=by omega
 have e2:¬x0/32=6:=by omega
 have e3:1<t.length+1+1+1+1:=by omega
 have e3':2<t.length+1+1+1+1:=by omega
 have e3'':3<t.length+1+1+1+1:=by omega
 have e4:¬x0/16=14:=by omega
 have e5:x0/8=30:=by omega
 by_cases h1:x1<128\/192<=x1
 ·rw[if_pos h1]
  have e6:¬x1/64=2:=by omega
  simp[Lib.decodeN,e1,e2,e4,e5,e6,Zb4,Zdi]
 ·rw[if_neg h1]
  have e6:x1/64=2:=by omega
  by_cases h2:x2<128\/192<=x2
  ·rw[if_pos h2]
   have e7:¬x2/64=2:=by omega
   simp[Lib.decodeN,e1,e2,e4,e5,e6,e7,Zb4,Zdi]
  ·rw[if_neg h2]
   have e7:x2/64=2:=by omega
   by_cases h4:x3<128\/192<=x3
   ·rw[if_pos h4]
    have e8:¬x3/64=2:=by omega
    simp[Lib.decodeN,e1,e2,e4,e5,e6,e7,e8,Zb4,Zdi]
   ·rw[if_neg h4]
    have e8:x3/64=2:=by omega
    simp only[Lib.decodeN,e1,e2,e3,e3',e3'',e4,e5,e6,e7,e8,if_false,and_self,if_true,false_and]
    simp only[Zb4]
    by_cases h3:x0%8*262144+x1%64*4096+x2%64*64+x3%64>=65536/\(x0%8*262144+x1%64*4096+x2%64*64+x3%64<55296\/(57344<=x0%8*262144+x1%64*4096+x2%64*64+x3%64/\x0%8*262144+x1%64*4096+x2%64*64+x3%64<=1114111))
    ·rw[if_neg (by omega),if_pos h3,if_neg (by simp)]
     exact Zpq (by grind) (by simp)
    ·rw[if_pos (by omega),if_neg h3,if_pos (by simp)]
     rfl
theorem Zk6(b0:UInt8)(t:List UInt8)(h:(192<=b0.toNat/\b0.toNat<224/\t.length<1)\/(224<=b0.toNat/\b0.toNat<240/\t.length<2)\/(240<=b0.toNat/\b0.toNat<248/\t.length<3)\/(128<=b0.toNat/\b0.toNat<192)\/248<=b0.toNat):Zfn (b0::t)=(0,0):=by
 rw[Zkm,if_pos]
 simp only[Xz,Xm,Xs]
 have hb:=b0.toNat_lt
 generalize b0.toNat=x0 at *
 generalize ((t.getD 0 0).toNat)=x1
 generalize ((t.getD 1 0).toNat)=x2
 generalize ((t.getD 2 0).toNat)=x3
 generalize t.length=m at *
 unfold Lib.decodeN
 grind
theorem ZIO(b0:UInt8)(t:List UInt8)(h:b0.toNat<128):Zfn (b0::t)=(b0.toNat,1):=by
 rw[Zkm]
 simp only[Xz,Xm,Lib.decodeN,h,if_true]
 grind
theorem ZjN:Zdi (0,0)=.tup [.int .i64 0,.int .i64 0]:=rfl
theorem ZIb(n:Nat):Zdi (n,1)=.tup [.int .i64 n,.int .i64 1]:=rfl
theorem ZUE(b0:UInt8)(t:List UInt8):E 141 [.str (b0::t)] []=some (Zdi (Zfn (b0::t)),[]):=by
 rw[Zg (by rfl) ZIp]
 have hb:=Zzu b0
 have w0:IntKind.i64.wrap (b0.toNat:Int)=b0.toNat:=ZaE (by omega) (by omega)
 by_cases h1:(b0.toNat:Int)<128
 ·rw[ZIO b0 t (by omega),ZIb]
  simp -implicitDefEqProofs only[EQA,Zc,Xc,Xa,reduceCtorEq,↓reduceIte,Ze,ZgS,Zfs,Zdt,Zb,h1,w0,Zh,WE,Xaf]
 by_cases h2:(b0.toNat:Int)>=192
 ·by_cases h3:(b0.toNat:Int)<224
  ·have w1:IntKind.i64.wrap ((b0.toNat:Int)-192)=b0.toNat-192:=ZaE (by omega) (by omega)
   by_cases h6:((t.length+1:Nat):Int)<=1
   ·rw[Zk6 b0 t (Xq ⟨by omega,by omega,by omega⟩),ZjN]
    simp -implicitDefEqProofs only[EQA,Zc,Xc,Xa,Zy,unG,reduceCtorEq,↓reduceIte,Ze,ZgS,Zfs,Zdt,Zb,h1,h2,h3,w0,w1,h6,Zh,WE,Xaf]
   ·obtain⟨b1,t,rfl⟩:∃ b1 t',t=b1::t':=by
     cases t with
     |nil=>simp at h6
     |cons b1 t=>grind
    have key:=ZmS (b0::b1::t) 128 1 (by omega) [b1] 1 (b0.toNat-192) (by omega) rfl (fun j hj=>by
     grind) (by omega) (by grind) (by simp)
    rw[show(((1:Nat):Int))=1 from rfl,ZJb b0 b1 t (by omega)]at key
    unfold Zho at key
    simp -implicitDefEqProofs only[EQA,Zc,ZT,Xc,Xa,Zy,unG,reduceCtorEq,decide_eq_true_eq,↓reduceIte,Ze,gcT,gcA,Zw,Zt,Zo,ZB,ZgS,Zfs,Zdt,Zb,h1,h2,h3,w0,w1,Zh,WE,Xaf]
    exact key
  ·by_cases h4:(b0.toNat:Int)<240
   ·have h3':(b0.toNat:Int)>=224:=by omega
    have w1:IntKind.i64.wrap ((b0.toNat:Int)-224)=b0.toNat-224:=ZaE (by omega) (by omega)
    by_cases h6:((t.length+1:Nat):Int)<=2
    ·rw[Zk6 b0 t (Xt (Xq ⟨by omega,by omega,by omega⟩)),ZjN]
     simp -implicitDefEqProofs only[EQA,Zc,Xc,Xa,Zy,unG,reduceCtorEq,↓reduceIte,Ze,ZgS,Zfs,Zdt,Zb,h1,h2,h3,h3',h4,w0,w1,h6,Zh,WE,Xaf]
    ·obtain⟨b1,b2,t,rfl⟩:∃ b1 b2 t',t=b1::b2::t':=by
      match t,h6 with
      | [],h6=>simp at h6
      | [_],h6=>simp at h6
      |b1::b2::t,_=>exact⟨b1,b2,t,rfl⟩
     have key:=ZmS (b0::b1::b2::t) 2048 2 (by omega) [b1,b2] 1 (b0.toNat-224) (by omega) rfl (fun j hj=>by
      grind) (by omega) (by simp only[Xz,Xw];omega) (by simp)
     rw[show(((2:Nat):Int))=2 from rfl,show(((1:Nat):Int))=1 from rfl,ZEN b0 b1 b2 t (by omega)]at key
     unfold Zho at key
     simp -implicitDefEqProofs only[EQA,Zc,ZT,Xc,Xa,Zy,unG,reduceCtorEq,decide_eq_true_eq,↓reduceIte,Ze,gcT,gcA,Zw,Zt,Zo,ZB,ZgS,Zfs,Zdt,Zb,h1,h2,h3,h3',h4,w0,w1,Zh,WE,Xaf]
     exact key
   ·by_cases h5:(b0.toNat:Int)<248
    ·have h3':(b0.toNat:Int)>=224:=by omega
     have h4':(b0.toNat:Int)>=240:=by omega
     have w1:IntKind.i64.wrap ((b0.toNat:Int)-240)=b0.toNat-240:=ZaE (by omega) (by omega)
     by_cases h6:((t.length+1:Nat):Int)<=3
     ·rw[Zk6 b0 t (Xt (Xt (Xq ⟨by omega,by omega,by omega⟩))),ZjN]
      simp -implicitDefEqProofs only[EQA,Zc,Xc,Xa,Zy,unG,reduceCtorEq,↓reduceIte,Ze,ZgS,Zfs,Zdt,Zb,h1,h2,h3,h3',h4,h4',h5,w0,w1,h6,Zh,WE,Xaf]
     ·obtain⟨b1,b2,b3,t,rfl⟩:∃ b1 b2 b3 t',t=b1::b2::b3::t':=by
       match t,h6 with
       | [],h6=>simp at h6
       | [_],h6=>simp at h6
       | [_,_],h6=>simp at h6
       |b1::b2::b3::t,_=>exact⟨b1,b2,b3,t,rfl⟩
      have key:=ZmS (b0::b1::b2::b3::t) 65536 3 (by omega) [b1,b2,b3] 1 (b0.toNat-240) (by omega) rfl (fun j hj=>by
       grind) (by omega) (by simp only[Xz,Xw];omega) (by simp)
      rw[show(((3:Nat):Int))=3 from rfl,show(((1:Nat):Int))=1 from rfl,ZCL b0 b1 b2 b3 t (by omega)]at key
      unfold Zho at key
      simp -implicitDefEqProofs only[EQA,Zc,ZT,Xc,Xa,Zy,unG,reduceCtorEq,decide_eq_true_eq,↓reduceIte,Ze,gcT,gcA,Zw,Zt,Zo,ZB,ZgS,Zfs,Zdt,Zb,h1,h2,h3,h3',h4,h4',h5,w0,w1,Zh,WE,Xaf]
      exact key
    ·have h3':(b0.toNat:Int)>=224:=by omega
     have h4':(b0.toNat:Int)>=240:=by omega
     rw[Zk6 b0 t (Xt (Xt (Xt (Xt (by omega))))),ZjN]
     simp -implicitDefEqProofs only[EQA,Zc,Xc,Xa,Zy,unG,reduceCtorEq,↓reduceIte,Ze,ZgS,Zfs,Zdt,Zb,h1,h2,h3,h3',h4,h4',h5,w0,Zh,WE,Xaf]
 ·have h3:¬(b0.toNat:Int)>=224:=by omega
  have h4:¬(b0.toNat:Int)>=240:=by omega
  rw[Zk6 b0 t (Xt (Xt (Xt (Xq (by omega))))),ZjN]
  simp -implicitDefEqProofs only[EQA,Zc,Xc,Xa,Zy,Z6,reduceCtorEq,↓reduceIte,Ze,ZgS,Zfs,Zdt,Zb,h1,h2,h3,h4,w0,Zh,WE,Xaf]
theorem Zru(G:Za)(sq own:Nat)(view:Bool)(b0:UInt8)(t:List UInt8):Zq E BY G sq 141 own view [.str (b0::t)]=some (Zdi (Zfn (b0::t)),G,{}) :=
 ZdI (ZUE b0 t) (by kernel_rfl) (by simp -implicitDefEqProofs only[Zem,ZbW,eq_self]) (by simp -implicitDefEqProofs only[ZE,ZbW,eq_self]) rfl (fun _=>rfl) _ _ _ _
theorem ZvJ:∀ (n:Nat) (l:List UInt8),l.length<=n->l.length<=9223372036854775807->Zlb 0 [(0,.str l)] []=some (.bool (zfG n l&&Lib.validGoD n l),[])
 |n,[],_,_=>by
  have e:(zfG n []&&Lib.validGoD n [])=true:=by cases n<;>rfl
  rw[e]
  unfold Zlb
  rw[Z9]
  simp -implicitDefEqProofs only[EQA,Zc,Xc,Xa,Zc8,reduceCtorEq,↓reduceIte,ZqP,ZM5,Zsd,ZmH,Zjj,Zb]
 |0,b0::t,h,_=>by simp at h
 |n+1,b0::t,h,hl=>by
  have hw:=Lib.decodeL_width (b0::t)
  have hle:=Lib.decodeL_le (b0::t) (by simp)
  have e0:((b0::t)==([]:List UInt8))=false:=by simp
  have hne:(b0::t)≠([]:List UInt8):=by simp
  unfold Zlb
  rw[Z9]
  by_cases hb:(Lib.decodeL (b0::t)).1=65533/\(Lib.decodeL (b0::t)).2=1
  ·have hc:Zfn (b0::t)=(0,0):=if_pos hb
   have e:(zfG (n+1) (b0::t)&&Lib.validGoD (n+1) (b0::t))=false:=by
    simp only[Lib.validGoD]
    grind
   rw[e]
   simp -implicitDefEqProofs only[EQA,Zc,Xc,Xa,Zc8,Zy,Z6,reduceCtorEq,↓reduceIte,ZqP,ZmH,Zjj,Zb,e0,Zru,hc,ZjN]
  ·have hc:Zfn (b0::t)=Lib.decodeL (b0::t):=if_neg hb
   have n1:(((Lib.decodeL (b0::t)).2:Int)==0)=false:=by rw[beq_eq_false_iff_ne];omega
   by_cases hz:(Lib.decodeL (b0::t)).1=0
   ·have z1:(((Lib.decodeL (b0::t)).1:Int)==0)=true:=by rw[beq_iff_eq];omega
    have e:(zfG (n+1) (b0::t)&&Lib.validGoD (n+1) (b0::t))=false:=by
     rw[zfG,if_neg hne,if_pos hz,Wi]
    rw[e]
    simp -implicitDefEqProofs only[EQA,Zc,Xc,Xa,Zc8,Zy,unG,reduceCtorEq,↓reduceIte,ZqP,ZmH,Zjj,Zb,e0,Zru,hc,Zdi,n1,z1]
   ·have z1:(((Lib.decodeL (b0::t)).1:Int)==0)=false:=by rw[beq_eq_false_iff_ne];omega
    have e:(zfG (n+1) (b0::t)&&Lib.validGoD (n+1) (b0::t))=(zfG n ((b0::t).drop (Lib.decodeL (b0::t)).2)&&Lib.validGoD n ((b0::t).drop (Lib.decodeL (b0::t)).2)):=by
     rw[zfG,if_neg hne,if_neg hz,Lib.validGoD,if_neg hne,if_neg hb]
    have ih:=ZvJ n ((b0::t).drop (Lib.decodeL (b0::t)).2) (by grind) (by grind)
    rw[e]
    unfold Zlb at ih
    have l0:(0:Int)<=((Lib.decodeL (b0::t)).2:Int):=by omega
    have l1:((Lib.decodeL (b0::t)).2:Int)<=((t.length+1:Nat):Int):=by simp only[Xz]at hle;omega
    have l2:(b0::t).take (t.length+1)=b0::t:=XG (by simp)
    simp -implicitDefEqProofs only[EQA,Zc,ZT,ZbH,Xc,Xa,Zc8,Zy,unG,reduceCtorEq,↓reduceIte,gcT,gcA,Zw,Zt,Zo,ZB,ZmH,Zjj,Zb,e0,Zru,hc,Zdi,n1,z1,Za5,ZdC,l0,l1,l2,WB]
    exact ih
theorem ZHd(l:List UInt8)(hl:l.length<=9223372036854775807):E 125 [.str l] []=some (.bool (Zio l),[]):=by
 rw[Zg (by rfl) ZDF]
 have:=ZvJ l.length l (XH _) hl
 unfold Zlb at this
 simp -implicitDefEqProofs only[EQA,Zc,ZT,Xc,reduceCtorEq,↓reduceIte,gcT,gcA,Zw,Zt,Zo,ZB,ZEy,ZqL]
 rw[this];rfl
theorem ZSe(G:Za)(sq own:Nat)(view:Bool)(l:List UInt8)(hl:l.length<=9223372036854775807):Zq E BY G sq 125 own view [.str l]=some (.bool (Zio l),G,{}) :=
 ZdI (ZHd l hl) (by kernel_rfl) (by simp -implicitDefEqProofs only[Zem,ZbW,eq_self]) (by simp -implicitDefEqProofs only[ZE,ZbW,eq_self]) rfl (fun _=>rfl) _ _ _ _
end
section
theorem ZoV(G:Za)(l:Zd)(k1 k2:IntKind)(lo hi:Int)(h0:0<=lo)(h1:lo<=hi)(h2:hi<=(l.length:Int)):ZbO G 1 (.lst false (l.map Zh)) (some (.int k1 lo)) (some (.int k2 hi)) none=some (.lst false (((l.take hi.toNat).drop lo.toNat).map Zh),G,{}):=by
 have hh:0<=hi:=by omega
 have h3:lo<=((hi.toNat:Nat):Int):=by omega
 have hk:=Zhe l
 simp only[ZbO,Za5,ZdC,XS,hh,h2,and_self,if_true,h0,h3,hk,W7,Xal,Xi,if_false,Wi,Xa1,List.map_drop]
theorem Zgw(G:Za)(l:Zd)(k1:IntKind)(lo:Int)(h0:0<=lo)(h1:lo<=(l.length:Int)):ZbO G 1 (.lst false (l.map Zh)) (some (.int k1 lo)) none none=some (.lst false ((l.drop lo.toNat).map Zh),G,{}):=by
 have hk:=Zhe l
 simp only[ZbO,Za5,ZdC,XS,and_self,if_true,h0,h1,hk,W7,Xal,Xi,if_false,Wi,List.map_drop]
 rw[XG (by simp)]
end
section
def gdT(x:Zd×Nat×Int):AVal:=.tup [.lst false (x.1.map Zh),.int .i64 (x.2.1:Nat),.int .i64 x.2.2]
def gtT(x:Zd×Nat×Int):AVal:=.tup [.str x.1,.int .i64 (x.2.1:Nat),.int .i64 x.2.2]
theorem Zpi(b:Zd)(h:b.length<=2):Zcj b<65536:=by
 unfold Zcj
 match b,h with
 | [],_=>simp[ZeF]
 | [a],_=>rw[Zds,ZeF];have:=a.toNat_lt;omega
 | [a,c],_=>rw[Zds,Zds,ZeF];have:=a.toNat_lt;have:=c.toNat_lt;omega
def ZU(b:Zd):Zd×Nat×Int:=if(ZL b).2.2≠0 then([],0,(ZL b).2.2)else if Zio (ZL b).1 then ZL b else([],0,13)
theorem ZnV(d:Zd):(d.map Zh).all Za2=true:=by
 rw[Xy]
 intro x hx
 obtain⟨y,_,rfl⟩:=X7.1 hx
 rfl
theorem ZJH{O:ZS}{bf:Nat->Bool}{f k n:Nat}{args args':List AVal}{full:List AVal}{a b:Int}(h:O f args' []=some (.tup [.sl 0 0 0 n,.int .i64 a,.int .i64 b],[.row 0 k full]))(hl:n=full.length)(hb:bf f=false)(hp:args.all Zai=true)(hn:args.map Z1=args')(G:Za)(sq own:Nat):Zq O bf G sq f own true args=some (.tup [.lst false full,.int .i64 a,.int .i64 b],G,{}):=by
 rw[Zg4 hb hp,hn,h]
 have : ZV true 0 (some (.tup [.sl 0 0 0 n,.int .i64 a,.int .i64 b],[.row 0 k full]))=some (.tup [.lst false full,.int .i64 a,.int .i64 b],[]):=by
  unfold ZV
  rw[if_pos rfl]
  simp[hl,ZbR,viewR,viewAs,Z3,ZN,ZZ,Zv,gcA,Zw,Zt,Zl,ZH,Zj,Zp,Zo]
 rw[this,ZfJ _ _ _ _ rfl]
theorem ZNQ{O:ZS}{bf:Nat->Bool}{f:Nat}{args args':List AVal}{k n:Nat}{xs:List AVal}(h:O f args' []=some (.sl 0 0 0 n,[.row 0 k xs]))(hb:bf f=false)(hp:args.all Zai=true)(hn:args.map Z1=args')(hx:xs.all Za2=true)(G:Za)(sq:Nat)(hs:freeAt G sq=true):Zq O bf G sq f 1 false args=some (.sl sq 0 0 n,G.set sq (.row 0 k xs),{}):=by
 rw[Zg4 hb hp,hn,h]
 simp[ZV,Zaz,ZgJ,hx]
theorem ZKT(G:Za)(sq:Nat)(fl:Bool)(a:Zd)(hn:a.length<=140737488355328)(hs:freeAt G sq=true):Zq E BY G sq 36 1 false [.lst fl [.lst false (a.map Zh)]]=some (.sl sq 0 0 a.length,G.set sq (.row 0 1 (a.map Zh)),{}):=by
 have h:=ZBI a [] (by simp) (by grind)
 simp only[List.flatten_cons,List.flatten_nil,Xr]at h
 exact ZNQ (args:=[.lst fl [.lst false (a.map Zh)]]) h (by kernel_rfl) rfl rfl (ZnV _) G sq hs
def gdR(x:Zd×Nat×Int):AVal×Za:=if x.2.2=0 then(.tup [.sl 0 0 0 x.1.length,.int .i64 (x.2.1:Nat),.int .i64 x.2.2],[.row 0 1 (x.1.map Zh)])else(.tup [.lst true [],.int .i64 (x.2.1:Nat),.int .i64 x.2.2],[])
theorem Zmm(b:Zd)(hl:b.length<=140737488355328):E 114 [Z4 b] []=some (gdR (ZL b)):=by
 have t2:(b.take 2).length<=9223372036854775807:=by simp;omega
 have hG:=fun G sq own f=>ZDG G sq own (b.take 2) t2 f
 have hg:=Zpi (b.take 2) (by simp;omega)
 unfold ZL gdR
 generalize hGG:Zcj (b.take 2)=g at *
 have hi:IntKind.i64.wrap (g:Int)=(g:Int):=ZaE (by omega) (by omega)
 by_cases h1:b.length<2
 ·have h1':(b.length:Int)<2:=by omega
  rw[Zg (by rfl) ZrV,if_pos (Xq h1)]
  simp -implicitDefEqProofs only[EQA,Zc,Xc,Xa,Zy,Z6,reduceCtorEq,↓reduceIte,Ze,Zq7,ZjZ,Zsb,Zb,Z4,h1']
  rfl
 ·have h1':¬(b.length:Int)<2:=by omega
  have s2:=fun G kk=>Zjx G 1 b Zh kk 2 (by omega) (by omega)
  have e2:(2:Int).toNat=2:=rfl
  rw[e2]at s2
  have w1:IntKind.i64.wrap ((b.length:Int)-2)=((b.length-2:Nat):Int):=by rw[ZaE (by omega) (by omega)];omega
  by_cases h3:b.length-2<g
  ·have h3':((b.length-2:Nat):Int)<(g:Int):=by omega
   rw[Zg (by rfl) ZrV,if_pos (Xt h3)]
   simp -implicitDefEqProofs only[EQA,Zc,Xc,Xa,Zy,unG,reduceCtorEq,↓reduceIte,Ze,Zq7,ZjZ,Zsb,Zb,Z4,h1',s2,hG,hi,w1,h3']
   rfl
  ·have h3':¬((b.length-2:Nat):Int)<(g:Int):=by omega
   have w2:IntKind.i64.wrap (2+(g:Int))=((2+g:Nat):Int):=by rw[ZaE (by omega) (by omega)];omega
   have s3:=fun G k1 k2=>ZoV G b k1 k2 2 ((2+g:Nat):Int) (by omega) (by omega) (by omega)
   have e3:(((2+g:Nat):Int)).toNat=2+g:=rfl
   have e4:(b.take (2+g)).drop 2=(b.drop 2).take g:=by rw[Xaj];congr 1;omega
   rw[e2,e3,e4]at s3
   have hJ:=fun G sq fl hs=>ZKT G sq fl ((b.drop 2).take g) (by simp;omega) hs
   have hc:¬(b.length<2\/b.length-2<g):=by omega
   rw[Zg (by rfl) ZrV,if_neg hc]
   generalize (b.drop 2).take g=d at *
   generalize hX:d.map Zh=X at *
   simp -implicitDefEqProofs only[EQA,Zc,Xc,Xa,Xg,Zy,unG,reduceCtorEq,↓reduceIte,Zq7,ZjZ,Zsb,Zb,Z4,h1',s2,hG,hi,w1,h3',w2,s3,hJ,viewAs,Z3,ZN,Zv,AVal.cells]
   simp[ZR,gcA,Zw,Zt,Zl,ZH,Zn,Zo,ZI,Zm,ZD,Zj,Zp,Zz,ZB]
theorem ZGK(G:Za)(sq own:Nat)(f:Bool)(b:Zd)(hl:b.length<=140737488355328):Zq E BY G sq 114 own true [.lst f (b.map Zh)]=some (gdT (ZL b),G,{}):=by
 have h:=Zmm b hl
 unfold gdR at h
 unfold gdT
 by_cases he:(ZL b).2.2=0
 ·rw[if_pos he]at h
  exact ZJH h (by simp) (by kernel_rfl) rfl rfl G sq own
 ·rw[if_neg he]at h
  have hd:(ZL b).1=[]:=by
   unfold ZL at he ⊢
   split
   ·rfl
   ·grind
  rw[hd]
  exact Zct h (by kernel_rfl) rfl rfl rfl (fun _=>rfl) G sq own
theorem ZFx(b:Zd)(hl:b.length<=140737488355328):E 98 [Z4 b] []=some (gtT (ZU b),[]):=by
 have hD:=fun G sq own f=>ZGK G sq own f b hl
 unfold gdT at hD
 have hI:=fun G sq own=>ZQ8 G sq own true (ZL b).1
 unfold ZU
 by_cases h0:(ZL b).2.2=0
 ·have hn0:¬((ZL b).2.2≠0):=by omega
  have e0:((0:Int) != 0)=false:=rfl
  have hp:ZL b=((ZL b).1,(ZL b).2.1,0):=by rw[<-h0]
  rw[if_neg hn0]
  rw[hp]
  simp only
  rw[h0]at hD
  generalize (ZL b).1=d at *
  generalize (ZL b).2.1=u at *
  rw[Zg (by rfl) Zwp]
  cases ht:Zio d<;>rw[ht]at hI
  ·simp -implicitDefEqProofs only[EQA,Zc,Xc,Xa,unA,reduceCtorEq,ZZ,↓reduceIte,Ze,ZsX,Zlw,Zpu,Zb,Z4,hD,hI,e0,gtT]
   rfl
  ·simp -implicitDefEqProofs only[EQA,Zc,Xc,Xa,unA,reduceCtorEq,ZZ,↓reduceIte,Ze,ZsX,Zlw,Zpu,Zb,Z4,hD,hI,e0,gtT]
 ·have hn0:((ZL b).2.2≠0):=h0
  have e0:((ZL b).2.2 != 0)=true:=by simpa using h0
  rw[if_pos hn0]
  generalize (ZL b).2.2=e at *
  rw[Zg (by rfl) Zwp]
  simp -implicitDefEqProofs only[EQA,Zc,Xc,Xa,reduceCtorEq,↓reduceIte,Ze,ZsX,Zlw,Zpu,Zb,Z4,hD,e0,gtT]
  rfl
theorem ZEG(b:Zd)(hl:b.length<=140737488355328):∃ f,E 119 [Z4 b] []=some (.tup [.lst f ((ZL b).1.map Zh),.int .i64 ((ZL b).2.1:Nat),.int .i64 (ZL b).2.2],[]):=by
 have t2:(b.take 2).length<=9223372036854775807:=by simp;omega
 have hG:=fun G sq own f=>ZlX G sq own (b.take 2) t2 f
 have hg:=Zpi (b.take 2) (by simp;omega)
 unfold ZL
 generalize hGG:Zcj (b.take 2)=g at *
 have hi:IntKind.i64.wrap (g:Int)=(g:Int):=ZaE (by omega) (by omega)
 by_cases h1:b.length<2
 ·have h1':(b.length:Int)<2:=by omega
  refine⟨true,?_⟩
  rw[Zg (by rfl) Zuj,if_pos (Xq h1)]
  simp -implicitDefEqProofs only[EQA,Zc,Xc,Xa,reduceCtorEq,↓reduceIte,Ze,ZpB,Zj8,ZtL,Zb,Z4,h1']
  rfl
 ·have h1':¬(b.length:Int)<2:=by omega
  have s2:=fun G kk=>Zjx G 1 b Zh kk 2 (by omega) (by omega)
  have e2:(2:Int).toNat=2:=rfl
  rw[e2]at s2
  have w1:IntKind.i64.wrap ((b.length:Int)-2)=((b.length-2:Nat):Int):=by rw[ZaE (by omega) (by omega)];omega
  by_cases h3:b.length-2<g
  ·have h3':((b.length-2:Nat):Int)<(g:Int):=by omega
   refine⟨true,?_⟩
   rw[Zg (by rfl) Zuj,if_pos (Xt h3)]
   simp -implicitDefEqProofs only[EQA,Zc,Xc,Xa,reduceCtorEq,↓reduceIte,Ze,ZpB,Zj8,ZtL,Zb,Z4,h1',s2,hG,hi,w1,h3']
   rfl
  ·have h3':¬((b.length-2:Nat):Int)<(g:Int):=by omega
   have w2:IntKind.i64.wrap (2+(g:Int))=((2+g:Nat):Int):=by rw[ZaE (by omega) (by omega)];omega
   have s3:=fun G k1 k2=>ZoV G b k1 k2 2 ((2+g:Nat):Int) (by omega) (by omega) (by omega)
   have e3:(((2+g:Nat):Int)).toNat=2+g:=rfl
   have e4:(b.take (2+g)).drop 2=(b.drop 2).take g:=by rw[Xaj];congr 1;omega
   rw[e2,e3,e4]at s3
   have hc:¬(b.length<2\/b.length-2<g):=by omega
   refine⟨false,?_⟩
   rw[Zg (by rfl) Zuj,if_neg hc]
   simp -implicitDefEqProofs only[EQA,Zc,Xc,Xa,reduceCtorEq,↓reduceIte,Ze,ZpB,Zj8,ZtL,Zb,Z4,h1',s2,hG,hi,w1,h3',w2,s3]
theorem Zp2(G:Za)(sq own:Nat)(f:Bool)(b:Zd)(hl:b.length<=140737488355328):Zq E BY G sq 119 own true [.lst f (b.map Zh)]=some (gdT (ZL b),G,{}):=by
 obtain⟨g,h⟩:=ZEG b hl
 exact Zct h (by kernel_rfl) rfl rfl rfl (fun _=>rfl) _ _ _
theorem ZMv(b:Zd)(hl:b.length<=140737488355328):E 103 [Z4 b] []=some (gtT (ZU b),[]):=by
 have hD:=fun G sq own f=>Zp2 G sq own f b hl
 unfold gdT at hD
 have hdl:(ZL b).1.length<=9223372036854775807:=by
  unfold ZL
  split
  ·simp
  ·simp;omega
 have hI:=fun G sq own=>ZSe G sq own true (ZL b).1 hdl
 unfold ZU
 by_cases h0:(ZL b).2.2=0
 ·have hn0:¬((ZL b).2.2≠0):=by omega
  have e0:((0:Int) != 0)=false:=rfl
  have hp:ZL b=((ZL b).1,(ZL b).2.1,0):=by rw[<-h0]
  rw[if_neg hn0]
  rw[hp]
  simp only
  rw[h0]at hD
  generalize (ZL b).1=d at *
  generalize (ZL b).2.1=u at *
  rw[Zg (by rfl) ZzU]
  cases ht:Zio d<;>rw[ht]at hI
  ·simp -implicitDefEqProofs only[EQA,Zc,Xc,Xa,unA,reduceCtorEq,ZZ,↓reduceIte,Ze,Zqm,Zll,ZqY,Zb,Z4,hD,hI,e0,gtT]
   rfl
  ·simp -implicitDefEqProofs only[EQA,Zc,Xc,Xa,unA,reduceCtorEq,ZZ,↓reduceIte,Ze,Zqm,Zll,ZqY,Zb,Z4,hD,hI,e0,gtT]
 ·have hn0:((ZL b).2.2≠0):=h0
  have e0:((ZL b).2.2 != 0)=true:=by simpa using h0
  rw[if_pos hn0]
  generalize (ZL b).2.2=e at *
  rw[Zg (by rfl) ZzU]
  simp -implicitDefEqProofs only[EQA,Zc,Xc,Xa,reduceCtorEq,↓reduceIte,Ze,Zqm,Zll,ZqY,Zb,Z4,hD,e0,gtT]
  rfl
theorem ZrQ(G:Za)(sq own:Nat)(f:Bool)(b:Zd)(hl:b.length<=140737488355328):Zq E BY G sq 103 own true [.lst f (b.map Zh)]=some (gtT (ZU b),G,{}) :=
 Zct (ZMv b hl) (by kernel_rfl) rfl rfl rfl (fun _=>rfl) _ _ _
end
section
theorem Zce{O:ZS}{bf:Nat->Bool}{G:Za}{t f:Nat}{rest:List AVal}{cs cs':List AVal}{r r':AVal}(hb:bf f=false)(hp:rest.all Zai=true)(hc:Ze cs=true)(hc':Ze cs'=true)(hn:ZQ r'=true)(hv:viewR [.var cs'] r=some (r',[]))
  (h:O f (.ref 0 0::rest.map Z1) [.var cs]=some (r,[.var cs'])) (hs:G[t]?=some (.var cs)) (sq:Nat):Zq O bf G sq f 0 true (.ref t 0::rest)=some (r',G.set t (.var cs'),{ any:=true,upd:=[(t,cs')] }):=by
 have htl:t<G.length:=by
  rcases Wz t G.length with h |h
  ·exact h
  ·rw[Wb h]at hs;cases hs
 have hup:Za9 (G.set t (.var cs')) [t]=[(t,cs')]:=by
  simp only[Za9,XO,if_pos htl,if_true]
 have hd:G.getD t .free=.var cs:=by simp[Xh,hs]
 have hf0:Zv G []=G:=rfl
 have hsh:showAs G (.ref t 0::rest)=some (.ref t 0::rest.map Z1,[]):=by
  rw[showAs,show showA G (.ref t 0)=some (.ref t 0,[])from rfl,Zeg hp]
  rfl
 have href:Zl (.ref t 0::rest.map Z1)=[t]:=by
  rw[Zl,Zd8 hp];rfl
 unfold Zq
 rw[Zfx (hb) hsh (by first |rfl |exact Zew ‹_› |exact ZcG ‹_› |(rw[Wu,ZcG ‹_›];rfl) |simp[Zcx,Zg6,ZcG,Zew, *])]
 simp only[hf0,href,Zeo hs hc]
 unfold Zbk
 simp only[Zdo]
 have hall:([t].all fun t=>okB (G.getD t .free))=true:=by simp[XW,XX,hs,okB]
 rw[if_pos hall]
 have hC:Zn G 0 [t] t 0=some (0,0):=by simp[Zn,ZI,hs,Zm,ZD]
 have hheap:Zo G 0 [t] (Zn G 0 [t]) [t] 0=[.var cs]:=by
  simp only[Zo,hd,Zz,(Z5 _ cs hc).1]
 have hargs:Zj (Zn G 0 [t]) (.ref t 0::rest.map Z1)=.ref 0 0::rest.map Z1:=by
  rw[Zj,ZdV hp]
  simp only[Zp,hC]
 rw[hargs,hheap,h]
 have hask:ZV true [t].length (some (r,[.var cs']))=some (r',[.var cs']):=by
  unfold ZV
  rw[if_pos rfl]
  have hnp:∀ x,r≠.pan x:=by rintro x rfl;simp[viewR,Z3,ZN]at hv
  rw[show ZbR [t].length (some (r,[.var cs']))=(match viewR [.var cs'] r with
   |some (r',ts)=>match gcA [t].length [r'] (Zv [.var cs'] ts)with
    |([r''],G')=>some (r'',G')
    |_=>none
   |none=>none)from by cases r<;>first |rfl |grind]
  rw[hv]
  simp only[Xz,Xw,XF,show Zv [ZP.var cs'] []=[.var cs']from rfl,ZlS hn hc']
 rw[hask]
 have hk:Za1 G [t] [.var cs'] 0=true:=by
  simp[Za1,okB,hs,Zcy,Zm]
 simp only[Zaz,WC,Xi,if_false,Xz,Xw,XF,X6,XH,decide_true,hk,Zaj,XT,if_true,ZaQ,ZaA,Xm,Zz,(Zba _ r' hn).1,(Z5 _ cs' hc').1,hup]
theorem Zes{O:ZS}{bf:Nat->Bool}{G:Za}{t f:Nat}{rest:List AVal}{cs cs':List AVal}{x:AVal}{view:Bool}(hb:bf f=false)(hp:rest.all Zai=true)(hc:Ze cs=true)(hc':Ze cs'=true)(hn:ZQ x=true)
  (h:O f (.ref 0 0::rest.map Z1) [.var cs]=some (.pan x,[.var cs'])) (hs:G[t]?=some (.var cs)) (sq:Nat):Zq O bf G sq f 0 view (.ref t 0::rest)=some (.pan x,G.set t (.var cs'),{ any:=true,upd:=[(t,cs')] }):=by
 have htl:t<G.length:=by
  rcases Wz t G.length with h |h
  ·exact h
  ·rw[Wb h]at hs;cases hs
 have hup:Za9 (G.set t (.var cs')) [t]=[(t,cs')]:=by
  simp only[Za9,XO,if_pos htl,if_true]
 have hd:G.getD t .free=.var cs:=by simp[Xh,hs]
 have hf0:Zv G []=G:=rfl
 have hsh:showAs G (.ref t 0::rest)=some (.ref t 0::rest.map Z1,[]):=by
  rw[showAs,show showA G (.ref t 0)=some (.ref t 0,[])from rfl,Zeg hp]
  rfl
 have href:Zl (.ref t 0::rest.map Z1)=[t]:=by
  rw[Zl,Zd8 hp];rfl
 unfold Zq
 rw[Zfx (hb) hsh (by first |rfl |exact Zew ‹_› |exact ZcG ‹_› |(rw[Wu,ZcG ‹_›];rfl) |simp[Zcx,Zg6,ZcG,Zew, *])]
 simp only[hf0,href,Zeo hs hc]
 unfold Zbk
 simp only[Zdo]
 have hall:([t].all fun t=>okB (G.getD t .free))=true:=by simp[XW,XX,hs,okB]
 rw[if_pos hall]
 have hC:Zn G 0 [t] t 0=some (0,0):=by simp[Zn,ZI,hs,Zm,ZD]
 have hheap:Zo G 0 [t] (Zn G 0 [t]) [t] 0=[.var cs]:=by
  simp only[Zo,hd,Zz,(Z5 _ cs hc).1]
 have hargs:Zj (Zn G 0 [t]) (.ref t 0::rest.map Z1)=.ref 0 0::rest.map Z1:=by
  rw[Zj,ZdV hp]
  simp only[Zp,hC]
 rw[hargs,hheap,h]
 have hask:ZV view [t].length (some (.pan x,[.var cs']))=some (.pan x,[.var cs']):=by
  unfold ZV
  split<;>rfl
 rw[hask]
 have hk:Za1 G [t] [.var cs'] 0=true:=by
  simp[Za1,okB,hs,Zcy,Zm]
 have hnp:ZQ (.pan x)=true:=by simpa only[ZQ]using hn
 simp only[Zaz,WC,Xi,if_false,Xz,Xw,XF,X6,XH,decide_true,hk,Zaj,XT,if_true,ZaQ,ZaA,Xm,Zz,(Zba _ _ hnp).1,(Z5 _ cs' hc').1,hup]
end
section
theorem ZxZ{O:ZS}{bf:Nat->Bool}{G:Za}{t f own:Nat}{rest:List AVal}{cs cs':List AVal}{r r':AVal}(hb:bf f=false)(hp:rest.all Zai=true)(hc:Ze cs=true)(hc':Ze cs'=true)(hn:ZQ r'=true)(hv:viewR [.var cs'] r=some (r',[]))
  (h:O f (.ref 0 0::rest.map Z1) [.var cs]=some (r,[.var cs'])) (hs:G[t]?=some (.var cs)) (sq:Nat) (hff:Zaj G sq own=true):Zq O bf G sq f own true (.ref t 0::rest)=some (r',G.set t (.var cs'),{ any:=true,upd:=[(t,cs')] }):=by
 have htl:t<G.length:=by
  rcases Wz t G.length with h |h
  ·exact h
  ·rw[Wb h]at hs;cases hs
 have hup:Za9 (G.set t (.var cs')) [t]=[(t,cs')]:=by
  simp only[Za9,XO,if_pos htl,if_true]
 have hd:G.getD t .free=.var cs:=by simp[Xh,hs]
 have hf0:Zv G []=G:=rfl
 have hsh:showAs G (.ref t 0::rest)=some (.ref t 0::rest.map Z1,[]):=by
  rw[showAs,show showA G (.ref t 0)=some (.ref t 0,[])from rfl,Zeg hp]
  rfl
 have href:Zl (.ref t 0::rest.map Z1)=[t]:=by
  rw[Zl,Zd8 hp];rfl
 unfold Zq
 rw[Zfx (hb) hsh (by first |rfl |exact Zew ‹_› |exact ZcG ‹_› |(rw[Wu,ZcG ‹_›];rfl) |simp[Zcx,Zg6,ZcG,Zew, *])]
 simp only[hf0,href,Zeo hs hc]
 unfold Zbk
 simp only[Zdo]
 have hall:([t].all fun t=>okB (G.getD t .free))=true:=by simp[XW,XX,hs,okB]
 rw[if_pos hall]
 have hC:Zn G 0 [t] t 0=some (0,0):=by simp[Zn,ZI,hs,Zm,ZD]
 have hheap:Zo G 0 [t] (Zn G 0 [t]) [t] 0=[.var cs]:=by
  simp only[Zo,hd,Zz,(Z5 _ cs hc).1]
 have hargs:Zj (Zn G 0 [t]) (.ref t 0::rest.map Z1)=.ref 0 0::rest.map Z1:=by
  rw[Zj,ZdV hp]
  simp only[Zp,hC]
 rw[hargs,hheap,h]
 have hask:ZV true [t].length (some (r,[.var cs']))=some (r',[.var cs']):=by
  unfold ZV
  rw[if_pos rfl]
  have hnp:∀ x,r≠.pan x:=by rintro x rfl;simp[viewR,Z3,ZN]at hv
  rw[show ZbR [t].length (some (r,[.var cs']))=(match viewR [.var cs'] r with
   |some (r',ts)=>match gcA [t].length [r'] (Zv [.var cs'] ts)with
    |([r''],G')=>some (r'',G')
    |_=>none
   |none=>none)from by cases r<;>first |rfl |grind]
  rw[hv]
  simp only[Xz,Xw,XF,show Zv [ZP.var cs'] []=[.var cs']from rfl,ZlS hn hc']
 rw[hask]
 have hk:Za1 G [t] [.var cs'] 0=true:=by
  simp[Za1,okB,hs,Zcy,Zm]
 simp only[Zaz,WC,Xi,if_false,Xz,Xw,XF,Xav,XH,decide_true,hk,hff,XT,if_true,ZaQ,ZaA,Xm,Zz,(Zba _ r' hn).1,(Z5 _ cs' hc').1,hup]
theorem ZoF{O:ZS}{bf:Nat->Bool}{G:Za}{t f own:Nat}{rest:List AVal}{cs cs':List AVal}{x:AVal}{view:Bool}(hb:bf f=false)(hp:rest.all Zai=true)(hc:Ze cs=true)(hc':Ze cs'=true)(hn:ZQ x=true)
  (h:O f (.ref 0 0::rest.map Z1) [.var cs]=some (.pan x,[.var cs'])) (hs:G[t]?=some (.var cs)) (sq:Nat) (hff:Zaj G sq own=true):Zq O bf G sq f own view (.ref t 0::rest)=some (.pan x,G.set t (.var cs'),{ any:=true,upd:=[(t,cs')] }):=by
 have htl:t<G.length:=by
  rcases Wz t G.length with h |h
  ·exact h
  ·rw[Wb h]at hs;cases hs
 have hup:Za9 (G.set t (.var cs')) [t]=[(t,cs')]:=by
  simp only[Za9,XO,if_pos htl,if_true]
 have hd:G.getD t .free=.var cs:=by simp[Xh,hs]
 have hf0:Zv G []=G:=rfl
 have hsh:showAs G (.ref t 0::rest)=some (.ref t 0::rest.map Z1,[]):=by
  rw[showAs,show showA G (.ref t 0)=some (.ref t 0,[])from rfl,Zeg hp]
  rfl
 have href:Zl (.ref t 0::rest.map Z1)=[t]:=by
  rw[Zl,Zd8 hp];rfl
 unfold Zq
 rw[Zfx (hb) hsh (by first |rfl |exact Zew ‹_› |exact ZcG ‹_› |(rw[Wu,ZcG ‹_›];rfl) |simp[Zcx,Zg6,ZcG,Zew, *])]
 simp only[hf0,href,Zeo hs hc]
 unfold Zbk
 simp only[Zdo]
 have hall:([t].all fun t=>okB (G.getD t .free))=true:=by simp[XW,XX,hs,okB]
 rw[if_pos hall]
 have hC:Zn G 0 [t] t 0=some (0,0):=by simp[Zn,ZI,hs,Zm,ZD]
 have hheap:Zo G 0 [t] (Zn G 0 [t]) [t] 0=[.var cs]:=by
  simp only[Zo,hd,Zz,(Z5 _ cs hc).1]
 have hargs:Zj (Zn G 0 [t]) (.ref t 0::rest.map Z1)=.ref 0 0::rest.map Z1:=by
  rw[Zj,ZdV hp]
  simp only[Zp,hC]
 rw[hargs,hheap,h]
 have hask:ZV view [t].length (some (.pan x,[.var cs']))=some (.pan x,[.var cs']):=by
  unfold ZV
  split<;>rfl
 rw[hask]
 have hk:Za1 G [t] [.var cs'] 0=true:=by
  simp[Za1,okB,hs,Zcy,Zm]
 have hnp:ZQ (.pan x)=true:=by simpa only[ZQ]using hn
 simp only[Zaz,WC,Xi,if_false,Xz,Xw,XF,Xav,XH,decide_true,hk,hff,XT,if_true,ZaQ,ZaA,Xm,Zz,(Zba _ _ hnp).1,(Z5 _ cs' hc').1,hup]
theorem Zcf{O:ZS}{bf:Nat->Bool}{G:Za}{sq f own:Nat}{view:Bool}{args vs vs':List AVal}{ids:List Nat}{h0 h:Za}{r0 r:AVal}(hb:bf f=false)(hsh:showAs G args=some (vs,[]))(hre:Zt G 1000 (Zl vs) []=ids)(hne:ids.isEmpty=false)
  (hall:(ids.all fun t=>okB (G.getD t .free))=true) (hvs:Zj (Zn G 0 ids) vs=vs') (hh:Zo G 0 ids (Zn G 0 ids) ids 0=h0) {hh0:Za} (hO:O f vs' h0=some (r0,hh0)) (hv:ZV view ids.length (some (r0,hh0))=some (r,h))
  (hl1:h.length<=ids.length+own) (hl2:ids.length<=h.length) (hk:Za1 G ids h 0=true) (hff:Zaj G sq own=true) {r':AVal} (hr:Zp (Zak G ids sq) r=r') {G':Za} (hlay:ZaQ G ids sq h 0 G=G') {u:List (Nat×List AVal)} (hu:Za9 G' ids=u) (hvl:vs.any Zcx=false:=by first |rfl |exact ZcG ‹_› |(rw[Wu,ZcG ‹_›];rfl) |exact Zew ‹_›) :
  Zq O bf G sq f own view args=some (r',G',{ any:=true,upd:=u }):=by
 subst hr hlay hu
 unfold Zq
 rw[Zfx (hb) hsh (by grind)]
 simp only[show Zv G []=G from rfl,hre]
 unfold Zbk
 simp only[Zdo]
 rw[if_pos hall,hvs,hh,hO,hv]
 simp only[Zaz,hne,Wi,Xi,if_false,hl1,hl2,decide_true,hk,hff,XT,if_true]
end
section
section
variable {G:Za}{cs xs:List AVal}{g w:Nat}
theorem Zpr{t r:Nat}(hs:G[t]?=some (.var cs))(hr:G[r]?=some (.row g w xs))(htr:t≠r)(hrf:Zl cs=[r]):Zt G 1000 [t] []=[t,r]:=by
 have h1:G.getD t .free=.var cs:=by simp[Xh,hs]
 have h2:G.getD r .free=.row g w xs:=by simp[Xh,hr]
 have e1:([]:List Nat).contains t=false:=rfl
 have e2:([t]:List Nat).contains r=false:=by simp;exact fun e=>htr e.symm
 rw[show(1000:Nat)=997+1+1+1 from rfl,Zt,e1]
 simp only[Xi,if_false,h1,ZB,hrf,Xr,Xp]
 rw[Zt,e2]
 simp only[Xi,if_false,h2,ZB,Xp]
 rfl
theorem Zu4{r:AVal}{G:Za}(hr:ZQ r=true)(hrf:Zl cs=[1])(hg:g<=1)(hren:∀ C:Rho,C 1 g=some (1,g)->Zj C cs=cs):gcA 2 [r] (.var cs::.row g w xs::G)=([r],[.var cs,.row g w xs]):=by
 have e1:=(Zba (Zn (.var cs::.row g w xs::G) 2 [0,1]) r hr)
 have h1:Zw 2 [r] (.var cs::.row g w xs::G)=[0,1]:=by
  have : Zl [r]=[]:=by simp only[Zl,e1.2,Xr]
  have hR:X5 2=[0,1]:=rfl
  simp only[Zw,this,Xp,hR,XB,XQ,Xr,Xm,Xs,ZB,hrf]
  rfl
 have hng:(if g=0 then 0 else 1)=g:=by split<;>omega
 have hC:Zn (.var cs::.row g w xs::G) 2 [0,1] 1 g=some (1,g):=by
  simp only[Zn,ZI,Zm,ZD,XN,XK]
  simp[hng]
 simp only[gcA,h1,Zj,e1.1,Zo,Xm,Xs,ZD,Zm,Zz,hren _ hC]
 simp[hng]
theorem Zoq{r:AVal}{G:Za}(hr:ZQ r=true)(hrf:Zl cs=[1])(hg:g<=1)(hren:∀ C:Rho,C 1 g=some (1,g)->Zj C cs=cs):ZR 2 (.var cs::.row g w xs::G) r=some (r,[.var cs,.row g w xs]):=by
 simp only[ZR,Zu4 hr hrf hg hren]
end
theorem Zcc:∀ (a b:List AVal),Zl (a++b)=Zl a++Zl b
 | [],b=>by simp[Zl]
 |x::a,b=>by simp[Zl,Zcc a b,List.append_assoc]
theorem Zbz(C:Rho):∀ (a b:List AVal),Zj C (a++b)=Zj C a++Zj C b
 | [],b=>by simp[Zj]
 |x::a,b=>by simp[Zj,Zbz C a b]
theorem ZiC{v:AVal}:∀ {P:List AVal} {k:Nat},Ze P=true->k<P.length->Zl (P.set k v)=ZH v
 | [],_,_,h=>by simp at h
 |x::P,0,h,_=>by
  simp only[Ze,Xk]at h
  simp only[WG,Zl,(Z5 (fun _ _=>none) P h.2).2,Xr]
 |x::P,k+1,h,hk=>by
  simp only[Ze,Xk]at h
  simp only[Wp,Zl,(Zba (fun _ _=>none) x h.1).2,Xp]
  exact ZiC h.2 (by grind)
theorem Zki(C:Rho){v:AVal}:∀ {P:List AVal} {k:Nat},Ze P=true->Zj C (P.set k v)=P.set k (Zp C v)
 | [],_,_=>by simp[Zj]
 |x::P,0,h=>by
  simp only[Ze,Xk]at h
  simp only[WG,Zj,(Z5 C P h.2).1]
 |x::P,k+1,h=>by
  simp only[Ze,Xk]at h
  simp only[Wp,Zj,(Zba C x h.1).1,Zki C h.2]
theorem ZSU{G:Za}{t r g w w2 g2:Nat}{cs xs cs2 xs2:List AVal}(hs:G[t]?=some (.var cs))(hr:G[r]?=some (.row g w xs))(hg2:g2<=1):Za1 G [t,r] [.var cs2,.row g2 w2 xs2] 0=true:=by
 have h1:G.getD t .free=.var cs:=by simp[Xh,hs]
 have h2:G.getD r .free=.row g w xs:=by simp[Xh,hr]
 simp[Za1,okB,Zcy,Zm,hs,hr,hg2]
theorem Zik{O:ZS}{bf:Nat->Bool}{G:Za}{t r f own g w g2 w2 sq:Nat}{view:Bool}{rest:List AVal}{cs cs1 cs2 cs3 xs xs2:List AVal}{q q':AVal}(hs:G[t]?=some (.var cs))(hr:G[r]?=some (.row g w xs))(htr:t≠r)(hrf:Zl cs=[r])(hb:bf f=false)(hp:rest.all Zai=true)
  (hren:∀ C:Rho,C r g=some (1,0)->Zj C cs=cs1) (hg2:g2<=1) (hff:Zaj G sq own=true) (hn:ZQ q'=true)
  (h:O f (.ref 0 0::rest.map Z1) [.var cs1,.row 0 w xs]=some (q,[.var cs2,.row g2 w2 xs2])) (hv:ZV view 2 (some (q,[.var cs2,.row g2 w2 xs2]))=some (q',[.var cs2,.row g2 w2 xs2]))
  (hback:∀ C:Rho,(∀ j,C 1 j=some (r,g+j))->Zj C cs2=cs3) :
  Zq O bf G sq f own view (.ref t 0::rest)=some (q',(G.set t (.var cs3)).set r (.row (g+g2) w2 xs2),{ any:=true,upd:=[(t,cs3)] }):=by
 have htl:t<G.length:=by
  rcases Wz t G.length with h |h
  ·exact h
  ·rw[Wb h]at hs;cases hs
 have h1:G.getD t .free=.var cs:=by simp[Xh,hs]
 have h2:G.getD r .free=.row g w xs:=by simp[Xh,hr]
 have hf0:Zv G []=G:=rfl
 have hsh:showAs G (.ref t 0::rest)=some (.ref t 0::rest.map Z1,[]):=by
  rw[showAs,show showA G (.ref t 0)=some (.ref t 0,[])from rfl,Zeg hp]
  rfl
 have href:Zl (.ref t 0::rest.map Z1)=[t]:=by
  rw[Zl,Zd8 hp];rfl
 have hup:Za9 ((G.set t (.var cs3)).set r (.row (g+g2) w2 xs2)) [t,r]=[(t,cs3)]:=by
  have e1:((G.set t (.var cs3)).set r (.row (g+g2) w2 xs2))[t]?=some (.var cs3):=by
   rw[Xl (fun e=>htr e.symm),XV htl]
  have e2:((G.set t (.var cs3)).set r (.row (g+g2) w2 xs2))[r]?=some (.row (g+g2) w2 xs2):=by
   rw[XV (by
    rcases Wz r G.length with h |h
    ·simpa using h
    ·rw[Wb h]at hr;cases hr)]
  simp only[Za9,e1,e2]
 unfold Zq
 rw[Zfx (hb) hsh (by first |rfl |exact Zew ‹_› |exact ZcG ‹_› |(rw[Wu,ZcG ‹_›];rfl) |simp[Zcx,Zg6,ZcG,Zew, *])]
 simp only[hf0,href,Zpr hs hr htr hrf]
 unfold Zbk
 simp only[Zdo]
 have hall:([t,r].all fun t=>okB (G.getD t .free))=true:=by simp only[XW,XX,h1,h2,okB,Xag]
 rw[if_pos hall]
 have hCt:Zn G 0 [t,r] t 0=some (0,0):=by simp[Zn,ZI,hs,Zm,ZD]
 have hCr:Zn G 0 [t,r] r g=some (1,0):=by simp[Zn,ZI,hr,Zm,ZD,htr]
 have hargs:Zj (Zn G 0 [t,r]) (.ref t 0::rest.map Z1)=.ref 0 0::rest.map Z1:=by
  rw[Zj,ZdV hp]
  simp only[Zp,hCt]
 have hheap:Zo G 0 [t,r] (Zn G 0 [t,r]) [t,r] 0=[.var cs1,.row 0 w xs]:=by
  simp only[Zo,h1,h2,ZD,Zm,Zz,hren _ hCr]
  simp
 rw[hargs,hheap,h]
 rw[show [t,r].length=2 from rfl,hv]
 have hk:=ZSU (cs2:=cs2) (w2:=w2) (xs2:=xs2) hs hr hg2
 have hb3:Zj (Zak G [t,r] sq) cs2=cs3:=hback _ (fun j=>by simp only[Zak,XN,XK,h2,Zm])
 simp only[Zaz,WC,Xi,if_false,Xz,Xw,XF,Xd,Xav,XH,decide_true,hk,hff,XT,if_true,ZaQ,ZaA,Xm,Xs,ZbZ,XK,XN,h2,Zm,Zz,(Zba _ _ hn).1,hb3,hup]
end
section
theorem Zud{O:ZS}{bf:Nat->Bool}{G:Za}{sq f own:Nat}{view:Bool}{args vs:List AVal}{r:AVal}(hb:bf f=false)(hsh:showAs G args=some (vs,[]))(hl:vs.any Zcx=true)(hr:Zl vs=[])(hn:∀ C:Rho,Zj C (vs.map ZbE)=vs.map ZbE)
  (hO:O f (vs.map ZbE) []=some (r,[])) (hf:ZbC r=true) (hv:ZV view 0 (some (r,[]))=some (r,[])):Zq O bf G sq f own view args=some (r,G,{}):=by
 have hm:Zbb bf f G args=some (vs.map ZbE,[],[],1):=by
  simp only[Zbb,hb,Xi,if_false,hsh,hl,hr,if_true,X8]
 have hr':Zl (vs.map ZbE)=[]:=by rw[ZhN];exact hr
 unfold Zq
 rw[hm]
 simp only[hr',show Zv G []=G from rfl,show Zt G 1000 [] []=[]from rfl]
 unfold Zbk
 simp only[XX,if_true,hn,Zo,Xw,hO,ZbV,Zgd,hf,X8,XT,WV,hv,Zaz]
theorem Zpa(G:Za)(b:Zd)(kk:IntKind)(n:Int)(h0:0<=n)(h1:n<=b.length):ZbO G 1 (.lnt b) none (some (.int kk n)) none=some (.lnt (b.take n.toNat),G,{}):=by
 simp[ZbO,Za5,ZdC,h0,h1]
theorem ZfC(G:Za)(b:Zd)(kk:IntKind)(n:Int)(h0:0<=n)(h1:n<=b.length):ZbO G 1 (.lnt b) (some (.int kk n)) none none=some (.lnt (b.drop n.toNat),G,{}):=by
 simp[ZbO,Za5,ZdC,h0,h1]
theorem ZLu(G:Za)(b:Zd)(k1 k2:IntKind)(lo hi:Int)(h0:0<=lo)(h1:lo<=hi)(h2:hi<=b.length):ZbO G 1 (.lnt b) (some (.int k1 lo)) (some (.int k2 hi)) none=some (.lnt ((b.take hi.toNat).drop lo.toNat),G,{}):=by
 have h3:0<=hi:=by omega
 have h4:lo<=max hi 0:=by omega
 simp[ZbO,Za5,ZdC,h0,h2,h3,h4]
theorem ZAH{O:ZS}{bf:Nat->Bool}{G:Za}{sq f own:Nat}{args vs:List AVal}{r r':AVal}{h:Za}(hb:bf f=false)(hsh:showAs G args=some (vs,[]))(hl:vs.any Zcx=true)(hr:Zl vs=[])(hn:∀ C:Rho,Zj C (vs.map ZbE)=vs.map ZbE)
  (hO:O f (vs.map ZbE) []=some (r,h)) (hf:Zhs r=true) (hh:h.all Zgc=true) (hv:ZV true 0 (some (r,h))=some (r',[])) (hn':Zp (Zak [] [] sq) r'=r'):Zq O bf G sq f own true args=some (r',G,{}):=by
 have hm:Zbb bf f G args=some (vs.map ZbE,[],[],1):=by
  simp only[Zbb,hb,Xi,if_false,hsh,hl,hr,if_true,X8]
 have hr':Zl (vs.map ZbE)=[]:=by rw[ZhN];exact hr
 unfold Zq
 rw[hm]
 simp only[hr',show Zv G []=G from rfl,show Zt G 1000 [] []=[]from rfl]
 unfold Zbk
 simp only[XX,if_true,hn,Zo,Xw,hO,ZbV,Zgd,hf,hh,XT,W7,hv]
 exact ZfJ G sq own r' hn'
theorem Zu9{O:ZS}{bf:Nat->Bool}{G:Za}{sq f own:Nat}{view:Bool}{args vs:List AVal}{r r':AVal}(hb:bf f=true)(h2:bf (f+2000000)=false)(h3:bf (f+3000000)=true)(hsh:showAs G args=some (vs,[]))(hr:Zl vs=[])(hn:∀ C:Rho,Zj C vs=vs)
  (hO:O f vs []=some (r,[])) (hv:ZV view 0 (some (r,[]))=some (r',[])) (hn':Zp (Zak [] [] sq) r'=r'):Zq O bf G sq f own view args=some (r',G,{}):=by
 have hm:Zbb bf f G args=some (vs,[],[],0):=by
  simp only[Zbb,hb,h2,h3,Wi,Xi,if_false,if_true,hsh]
 unfold Zq
 rw[hm]
 simp only[hr,show Zv G []=G from rfl,show Zt G 1000 [] []=[]from rfl]
 unfold Zbk
 simp only[XX,if_true,hn,Zo,Xw,hO,Zdo,hv]
 exact ZfJ G sq own r' hn'
theorem Zwd{O:ZS}{bf:Nat->Bool}{G:Za}{sq f own:Nat}{view:Bool}{args:List AVal}{r r':AVal}{h:Za}(hb:bf f=true)(hno:args.any Zig=false)(h3:bf (f+3000000)=false)(hr:Zl args=[])(hn:∀ C:Rho,Zj C args=args)
  (hO:O f args []=some (r,h)) (hv:ZV view 0 (some (r,h))=some (r',[])) (hn':Zp (Zak [] [] sq) r'=r'):Zq O bf G sq f own view args=some (r',G,{}):=by
 have hm:Zbb bf f G args=some (args,[],[],0):=by
  simp only[Zbb,hb,hno,h3,XaZ,Xi,if_false,if_true]
 unfold Zq
 rw[hm]
 simp only[hr,show Zv G []=G from rfl,show Zt G 1000 [] []=[]from rfl]
 unfold Zbk
 simp only[XX,if_true,hn,Zo,Xw,hO,Zdo,hv]
 exact ZfJ G sq own r' hn'
theorem ZR1{O:ZS}{bf:Nat->Bool}{G:Za}{sq f own:Nat}{view:Bool}{args vs:List AVal}{ls:List Nat}{r r':AVal}{h:Za}(hb:bf f=true)(h2:bf (f+2000000)=true)(hno:args.any Zig=true)(hl:ZdT G args=some (vs,[],ls))(hr:Zl vs=[])(hn:∀ C:Rho,Zj C vs=vs)
  (hO:O f vs []=some (r,h)) (hf:ZcV r=true) (hh:h.all ZoD=true) (hv:ZV view 0 (some (r,h))=some (r',[])) (hn':Zp (Zak [] [] sq) r'=r') (hfl:ZbC r'=false) (hap:Zda G ls r'=false):Zq O bf G sq f own view args=some (r',G,{ rd:=ls,wr:=ls }):=by
 have hm:Zbb bf f G args=some (vs,[],ls,2):=by
  simp only[Zbb,hb,h2,hno,XT,if_true,hl,hr,X8,Xp]
 unfold Zq
 rw[hm]
 simp only[hr,show Zv G []=G from rfl,show Zt G 1000 [] []=[]from rfl]
 unfold Zbk
 simp only[XX,if_true,hn,Zo,Xw,hO,ZbV,Zi4,hf,hh,XT,hv]
 simp only[Zaz,X8,XT,if_true,hfl,hap,Xi,if_false,hn']
theorem ZJJ{O:ZS}{bf:Nat->Bool}{G:Za}{sq f own:Nat}{view:Bool}{args vs:List AVal}{ts:List Nat}{r r':AVal}(hb:bf f=true)(h2:bf (f+2000000)=false)(h3:bf (f+3000000)=true)(hsh:showAs G args=some (vs,ts))(hr:Zl vs=[])(hn:∀ C:Rho,Zj C vs=vs)
  (hO:O f vs []=some (r,[])) (hv:ZV view 0 (some (r,[]))=some (r',[])) (hap:Zda G ts r'=true):Zq O bf G sq f own view args=some (r',G,{ rd:=ts }):=by
 have hm:Zbb bf f G args=some (vs,ts,ts,0):=by
  simp only[Zbb,hb,h2,h3,Wi,Xi,if_false,if_true,hsh]
 unfold Zq
 rw[hm]
 simp only[hr,show ∀ G,Zt G 1000 [] []=[]from fun _=>rfl]
 unfold Zbk
 simp only[XX,if_true,hn,Zo,Xw,hO,Zdo,hv,Zaz,X8,XT,hap]
 split<;>rfl
theorem ZUc{O:ZS}{bf:Nat->Bool}{G:Za}{sq f n k:Nat}{args vs ws xs:List AVal}(hb:bf f=false)(hsh:showAs G args=some (vs,[]))(hl:vs.any Zcx=true)(hr:Zl vs=[])(hn:∀ C:Rho,Zj C (vs.map ZbE)=vs.map ZbE)
  (hO:O f (vs.map ZbE) []=some (.tup (.sl 0 0 0 n::ws),[.row 0 k xs])) (hf:Zhs (.tup (.sl 0 0 0 n::ws))=true) (hx:xs.all Za2=true) (hw:∀ C:Rho,Zj C ws=ws) (hs:freeAt G sq=true):Zq O bf G sq f 1 false args=some (.tup (.sl sq 0 0 n::ws),G.set sq (.row 0 k xs),{ any:=true }):=by
 have hm:Zbb bf f G args=some (vs.map ZbE,[],[],1):=by
  simp only[Zbb,hb,Xi,if_false,hsh,hl,hr,if_true,X8]
 have hr':Zl (vs.map ZbE)=[]:=by rw[ZhN];exact hr
 unfold Zq
 rw[hm]
 simp only[hr',show Zv G []=G from rfl,show Zt G 1000 [] []=[]from rfl]
 unfold Zbk
 have hh:([ZP.row 0 k xs]:Za).all Zgc=true:=by simp only[XW,XX,Zgc,hx,Xag]
 simp only[XX,if_true,hn,Zo,Xw,hO,ZbV,Zgd,hf,hh,XT,W7]
 simp[ZV,Zaz,ZgJ,Za1,okB,Zm,Zaj,hs,Zp,hw,Zj,Zak,ZaQ,Za9,ZaA,ZbZ,Zz]
end
section
theorem Zo2(G:Za)(sq own:Nat)(b:Zd)(hl:b.length<=9223372036854775807):Zq E BY G sq 95 own true [.lnt b]=some (.int .u64 (Zcj b),G,{}) :=
 Zud (vs:=[.lnt b]) (by kernel_rfl) rfl rfl rfl (fun _=>rfl) (ZAI b hl) rfl rfl
theorem Zpy(G:Za)(sq own:Nat)(b:Zd)(hl:b.length<=9223372036854775807):Zq E BY G sq 115 own true [.lnt b]=some (gvT (Zas b),G,{}) :=
 Zud (vs:=[.lnt b]) (by kernel_rfl) rfl rfl rfl (fun _=>rfl) (ZCM b hl) rfl rfl
theorem ZjA(G:Za)(sq own:Nat)(b:Zd)(hl:b.length<=140737488355328):Zq E BY G sq 98 own true [.lnt b]=some (gtT (ZU b),G,{}) :=
 Zud (vs:=[.lnt b]) (by kernel_rfl) rfl rfl rfl (fun _=>rfl) (ZFx b hl) rfl rfl
theorem ZMt(G:Za)(sq own:Nat)(b:Zd)(hl:b.length<=140737488355328):Zq E BY G sq 114 own true [.lnt b]=some (gdT (ZL b),G,{}):=by
 have h:=Zmm b hl
 unfold gdR at h
 unfold gdT
 by_cases he:(ZL b).2.2=0
 ·rw[if_pos he]at h
  refine ZAH (vs:=[.lnt b]) (by kernel_rfl) rfl rfl rfl (fun _=>rfl) h rfl ?_ ?_ rfl
  ·simp only[XW,XX,Zgc,ZnV,Xag]
  ·simp[ZV,ZbR,viewR,viewAs,Z3,ZN,ZZ,Zv,gcA,Zj,Zp,Zw,Zt,Zl,ZH,Zo]
   rw[XG (by simp)]
 ·rw[if_neg he]at h
  have hd:(ZL b).1=[]:=by
   unfold ZL at he ⊢
   split
   ·rfl
   ·grind
  rw[hd]
  exact ZAH (vs:=[.lnt b]) (by kernel_rfl) rfl rfl rfl (fun _=>rfl) h rfl rfl rfl rfl
end
section
theorem ZDv{O:ZS}{bf:Nat->Bool}{G:Za}{sq f own:Nat}{args vs:List AVal}{r:AVal}(hb:bf f=false)(hsh:showAs G args=some (vs,[]))(hl:vs.any Zcx=true)(hr:Zl vs=[])(hn:∀ C:Rho,Zj C (vs.map ZbE)=vs.map ZbE)
  (hO:O f (vs.map ZbE) []=some (r,[])) (hf:Zhs r=true) (hn':Zp (Zak [] [] sq) r=r):Zq O bf G sq f own false args=some (r,G,{}):=by
 have hm:Zbb bf f G args=some (vs.map ZbE,[],[],1):=by
  simp only[Zbb,hb,Xi,if_false,hsh,hl,hr,if_true,X8]
 have hr':Zl (vs.map ZbE)=[]:=by rw[ZhN];exact hr
 unfold Zq
 rw[hm]
 simp only[hr',show Zv G []=G from rfl,show Zt G 1000 [] []=[]from rfl]
 unfold Zbk
 simp only[XX,if_true,hn,Zo,Xw,hO,ZbV,Zgd,hf,XT,W7,ZV,Xi,if_false]
 exact ZfJ G sq own r hn'
theorem ZIK{O:ZS}{bf:Nat->Bool}{G:Za}{sq f n k:Nat}{args vs xs:List AVal}(hb:bf f=false)(hsh:showAs G args=some (vs,[]))(hl:vs.any Zcx=true)(hr:Zl vs=[])(hn:∀ C:Rho,Zj C (vs.map ZbE)=vs.map ZbE)
  (hO:O f (vs.map ZbE) []=some (.sl 0 0 0 n,[.row 0 k xs])) (hx:xs.all Za2=true) (hs:freeAt G sq=true):Zq O bf G sq f 1 false args=some (.sl sq 0 0 n,G.set sq (.row 0 k xs),{}):=by
 have hm:Zbb bf f G args=some (vs.map ZbE,[],[],1):=by
  simp only[Zbb,hb,Xi,if_false,hsh,hl,hr,if_true,X8]
 have hr':Zl (vs.map ZbE)=[]:=by rw[ZhN];exact hr
 unfold Zq
 rw[hm]
 simp only[hr',show Zv G []=G from rfl,show Zt G 1000 [] []=[]from rfl]
 unfold Zbk
 have hh:([ZP.row 0 k xs]:Za).all Zgc=true:=by simp only[XW,XX,Zgc,hx,Xag]
 have hf:Zhs (.sl 0 0 0 n)=true:=rfl
 simp only[XX,if_true,hn,Zo,Xw,hO,ZbV,Zgd,hf,hh,XT,W7]
 simp[ZV,Zaz,ZgJ,hx]
section
variable {O:ZS}{bf:Nat->Bool}{G:Za}{t f sq w n:Nat}{cs cs2 ys:List AVal}
theorem ZF3(hb:bf f=false)(hc:Ze cs=true)(hc2:Ze cs2=true)(h:O f [.ref 0 0] [.var cs]=some (.sl 1 0 0 n,[.var cs2,.row 0 w ys]))(hs:G[t]?=some (.var cs))(hff:Zaj G sq 1=true) :
  Zq O bf G sq f 1 false [.ref t 0]=some (.sl sq 0 0 n,(G.set t (.var cs2)).set sq (.row 0 w ys),{ any:=true,upd:=[(t,cs2)] }):=by
 have hfs:G[sq]?=some .free:=Zeh (i:=0) hff (by omega)
 have hts:t≠sq:=by rintro rfl;rw[hs]at hfs;cases hfs
 have htl:t<G.length:=(Xn.1 hs).1
 have hd:G.getD t .free=.var cs:=by simp[Xh,hs]
 have hC:Zn G 0 [t] t 0=some (0,0):=by simp[Zn,ZI,hs,Zm,ZD]
 refine Zcf (vs:=[.ref t 0]) (ids:=[t]) hb rfl (Zeo hs hc) rfl (by simp[hs,okB]) ?_ ?_ h rfl (by simp) (by simp) ?_ hff ?_ ?_ ?_ rfl
 ·simp only[Zj,Zp,hC]
 ·simp only[Zo,hd,Zz,(Z5 _ cs hc).1]
 ·simp[Za1,okB,hs,Zcy,Zm]
 ·simp[Zp,Zak]
 ·simp only[ZaQ,ZaA,Xm,ZbZ,Zm,Zz,(Z5 _ cs2 hc2).1]
  simp[]
 ·have e1:((G.set t (.var cs2)).set sq (.row 0 w ys))[t]?=some (.var cs2):=by
   rw[Xl (fun e=>hts e.symm),XV htl]
  simp only[Za9,e1]
end
def Zi(Q:List AVal)(k r g n:Nat):List AVal:=Q.set k (.sl r g 0 n)
section
variable (Q:List AVal)(hQ:Q.length=26)(hN:Ze Q=true)(k:Nat)(hk:k<26)(n:Nat)
include hQ hN hk
theorem Zbp(r g:Nat):(Zi Q k r g n).length=26:=by simp[Zi,hQ]
theorem Za0(r g:Nat):Zl (Zi Q k r g n)=[r]:=by
 unfold Zi
 rw[ZiC hN (by omega)]
 rfl
theorem ZaC{r g r' g':Nat}(C:Rho)(h:C r g=some (r',g')):Zj C (Zi Q k r g n)=Zi Q k r' g' n:=by
 unfold Zi
 rw[Zki C hN]
 simp only[Zp,h]
end
theorem Zb2{cs cs' xs:List AVal}{w j:Nat}{r:AVal}{G:Za}(hr:ZQ r=true)(hj:j≠0)(h0:G[0]?=some (.var cs))(h1:G[j]?=some (.row 0 w xs))(hrf:Zl cs=[j])(hren:∀ C:Rho,C j 0=some (1,0)->Zj C cs=cs'):ZR 1 G r=some (r,[.var cs',.row 0 w xs]):=by
 have d0:G.getD 0 .free=.var cs:=by simp[Xh,h0]
 have d1:G.getD j .free=.row 0 w xs:=by simp[Xh,h1]
 have e1:=(Zba (Zn G 1 [0,j]) r hr)
 have ej:([0]:List Nat).contains j=false:=by simp;omega
 have hi:Zw 1 [r] G=[0,j]:=by
  have : Zl [r]=[]:=by simp only[Zl,e1.2,Xr]
  have hR:X5 1=[0]:=rfl
  simp only[Zw,this,Xp,hR,XB,XQ,Xr,d0,ZB,hrf]
  rw[show(1000:Nat)=998+1+1 from rfl,Zt,ej]
  simp only[Xi,if_false,d1,ZB,Xp]
  rfl
 have hC:Zn G 1 [0,j] j 0=some (1,0):=by
  have : ¬(0:Nat)=j:=fun e=>hj e.symm
  simp[Zn,ZI,Zm,ZD,h1,this]
 simp only[ZR,gcA,hi,Zj,e1.1,Zo,d0,d1,ZD,Zm,Zz,hren _ hC]
 simp
section
variable {O:ZS}{bf:Nat->Bool}{G:Za}{t f sq w:Nat}{rest:List AVal}{cs cs2 cs3 ys:List AVal}
theorem ZmM(hb:bf f=false)(hp:rest.all Zai=true)(hc:Ze cs=true)(hrf:Zl cs2=[1])(hren:∀ C:Rho,C 1 0=some (1,0)->Zj C cs2=cs2)(hback:∀ C:Rho,C 1 0=some (sq,0)->Zj C cs2=cs3)
  (h:O f (.ref 0 0::rest.map Z1) [.var cs]=some (.tup [],[.var cs2,.row 0 w ys])) (hs:G[t]?=some (.var cs)) {own:Nat} (ho:1<=own) (hff:Zaj G sq own=true):Zq O bf G sq f own true (.ref t 0::rest)=some (.tup [],(G.set t (.var cs3)).set sq (.row 0 w ys),{ any:=true,upd:=[(t,cs3)] }):=by
 have hfs:G[sq]?=some .free:=Zeh (i:=0) hff (by omega)
 have hts:t≠sq:=by rintro rfl;rw[hs]at hfs;cases hfs
 have htl:t<G.length:=(Xn.1 hs).1
 have hd:G.getD t .free=.var cs:=by simp[Xh,hs]
 have hsh:showAs G (.ref t 0::rest)=some (.ref t 0::rest.map Z1,[]):=by
  rw[showAs,show showA G (.ref t 0)=some (.ref t 0,[])from rfl,Zeg hp]
  rfl
 have href:Zl (.ref t 0::rest.map Z1)=[t]:=by
  rw[Zl,Zd8 hp];rfl
 have hC:Zn G 0 [t] t 0=some (0,0):=by simp[Zn,ZI,hs,Zm,ZD]
 have hask:ZV true [t].length (some (.tup [],[.var cs2,.row 0 w ys]))=some (.tup [],[.var cs2,.row 0 w ys]):=Zb2 (j:=1) (G:=[.var cs2,.row 0 w ys]) (r:=.tup []) rfl (by omega) rfl rfl hrf hren
 refine Zcf (ids:=[t]) hb hsh (by rw[href];exact Zeo hs hc) rfl (by simp[hs,okB]) ?_ ?_ h hask (by grind) (by simp) ?_ hff rfl ?_ ?_
 ·rw[Zj,ZdV hp]
  simp only[Zp,hC]
 ·simp only[Zo,hd,Zz,(Z5 _ cs hc).1]
 ·simp[Za1,okB,hs,Zcy,Zm]
 ·have hb3:Zj (Zak G [t] sq) cs2=cs3:=hback _ (by simp[Zak])
  simp only[ZaQ,ZaA,Xm,ZbZ,Zm,Zz,hb3]
  simp[]
 ·have e1:((G.set t (.var cs3)).set sq (.row 0 w ys))[t]?=some (.var cs3):=by
   rw[Xl (fun e=>hts e.symm),XV htl]
  simp only[Za9,e1]
theorem ZAc{x:AVal}{view:Bool}(hb:bf f=false)(hp:rest.all Zai=true)(hc:Ze cs=true)(hback:∀ C:Rho,C 1 0=some (sq,0)->Zj C cs2=cs3)(hx:ZQ x=true)
  (h:O f (.ref 0 0::rest.map Z1) [.var cs]=some (.pan x,[.var cs2,.row 0 w ys])) (hs:G[t]?=some (.var cs)) {own:Nat} (ho:1<=own) (hff:Zaj G sq own=true):Zq O bf G sq f own view (.ref t 0::rest)=some (.pan x,(G.set t (.var cs3)).set sq (.row 0 w ys),{ any:=true,upd:=[(t,cs3)] }):=by
 have hfs:G[sq]?=some .free:=Zeh (i:=0) hff (by omega)
 have hts:t≠sq:=by rintro rfl;rw[hs]at hfs;cases hfs
 have htl:t<G.length:=(Xn.1 hs).1
 have hd:G.getD t .free=.var cs:=by simp[Xh,hs]
 have hnp:ZQ (.pan x)=true:=by simpa only[ZQ]using hx
 have hsh:showAs G (.ref t 0::rest)=some (.ref t 0::rest.map Z1,[]):=by
  rw[showAs,show showA G (.ref t 0)=some (.ref t 0,[])from rfl,Zeg hp]
  rfl
 have href:Zl (.ref t 0::rest.map Z1)=[t]:=by
  rw[Zl,Zd8 hp];rfl
 have hC:Zn G 0 [t] t 0=some (0,0):=by simp[Zn,ZI,hs,Zm,ZD]
 have hask:ZV view [t].length (some (.pan x,[.var cs2,.row 0 w ys]))=some (.pan x,[.var cs2,.row 0 w ys]):=by
  unfold ZV
  split<;>rfl
 refine Zcf (ids:=[t]) hb hsh (by rw[href];exact Zeo hs hc) rfl (by simp[hs,okB]) ?_ ?_ h hask (by grind) (by simp) ?_ hff (Zba _ _ hnp).1 ?_ ?_
 ·rw[Zj,ZdV hp]
  simp only[Zp,hC]
 ·simp only[Zo,hd,Zz,(Z5 _ cs hc).1]
 ·simp[Za1,okB,hs,Zcy,Zm]
 ·have hb3:Zj (Zak G [t] sq) cs2=cs3:=hback _ (by simp[Zak])
  simp only[ZaQ,ZaA,Xm,ZbZ,Zm,Zz,hb3]
  simp[]
 ·have e1:((G.set t (.var cs3)).set sq (.row 0 w ys))[t]?=some (.var cs3):=by
   rw[Xl (fun e=>hts e.symm),XV htl]
  simp only[Za9,e1]
end
theorem Zon{cs cs' xs ys:List AVal}{w w2 i j:Nat}{r:AVal}{G:Za}(hr:ZQ r=true)(hi0:i≠0)(hj0:j≠0)(hij:i≠j)(h0:G[0]?=some (.var cs))(h1:G[i]?=some (.row 0 w xs))(h2:G[j]?=some (.row 0 w2 ys))(hrf:Zl cs=[i,j])(hren:∀ C:Rho,C i 0=some (1,0)->C j 0=some (2,0)->Zj C cs=cs'):ZR 1 G r=some (r,[.var cs',.row 0 w xs,.row 0 w2 ys]):=by
 have d0:G.getD 0 .free=.var cs:=by simp[Xh,h0]
 have d1:G.getD i .free=.row 0 w xs:=by simp[Xh,h1]
 have d2:G.getD j .free=.row 0 w2 ys:=by simp[Xh,h2]
 have e1:=(Zba (Zn G 1 [0,i,j]) r hr)
 have ei:([0]:List Nat).contains i=false:=by simp;omega
 have ej:([0,i]:List Nat).contains j=false:=by simp;omega
 have hi:Zw 1 [r] G=[0,i,j]:=by
  have : Zl [r]=[]:=by simp only[Zl,e1.2,Xr]
  have hR:X5 1=[0]:=rfl
  simp only[Zw,this,Xp,hR,XB,XQ,Xr,d0,ZB,hrf]
  rw[show(1000:Nat)=997+1+1+1 from rfl,Zt,ei]
  simp only[Xi,if_false,d1,ZB,Xp,XJ]
  rw[Zt,ej]
  simp only[Xi,if_false,d2,ZB,Xp,Xr,XJ]
  rfl
 have hC1:Zn G 1 [0,i,j] i 0=some (1,0):=by
  have : ¬(0:Nat)=i:=fun e=>hi0 e.symm
  simp[Zn,ZI,Zm,ZD,h1,this]
 have hC2:Zn G 1 [0,i,j] j 0=some (2,0):=by
  have a1:¬(0:Nat)=j:=fun e=>hj0 e.symm
  simp[Zn,ZI,Zm,ZD,h2,a1,hij]
 simp only[ZR,gcA,hi,Zj,e1.1,Zo,d0,d1,d2,ZD,Zm,Zz,hren _ hC1 hC2]
 simp
section
variable {O:ZS}{bf:Nat->Bool}{G:Za}{t f sq w w2:Nat}{rest:List AVal}{cs cs2 cs3 ys zs:List AVal}
theorem Zyx(hb:bf f=false)(hp:rest.all Zai=true)(hc:Ze cs=true)(hrf:Zl cs2=[1,2])(hren:∀ C:Rho,C 1 0=some (1,0)->C 2 0=some (2,0)->Zj C cs2=cs2)(hback:∀ C:Rho,C 1 0=some (sq,0)->C 2 0=some (sq+1,0)->Zj C cs2=cs3)
  (h:O f (.ref 0 0::rest.map Z1) [.var cs]=some (.tup [],[.var cs2,.row 0 w ys,.row 0 w2 zs])) (hs:G[t]?=some (.var cs)) (hff:Zaj G sq 2=true):Zq O bf G sq f 2 true (.ref t 0::rest)=some (.tup [],((G.set t (.var cs3)).set sq (.row 0 w ys)).set (sq+1) (.row 0 w2 zs),{ any:=true,upd:=[(t,cs3)] }):=by
 have hfs:G[sq]?=some .free:=Zeh (i:=0) hff (by omega)
 have hfs1:G[sq+1]?=some .free:=Zeh (i:=1) hff (by omega)
 have hts:t≠sq:=by rintro rfl;rw[hs]at hfs;cases hfs
 have hts1:t≠sq+1:=by rintro rfl;rw[hs]at hfs1;cases hfs1
 have htl:t<G.length:=(Xn.1 hs).1
 have hd:G.getD t .free=.var cs:=by simp[Xh,hs]
 have hsh:showAs G (.ref t 0::rest)=some (.ref t 0::rest.map Z1,[]):=by
  rw[showAs,show showA G (.ref t 0)=some (.ref t 0,[])from rfl,Zeg hp]
  rfl
 have href:Zl (.ref t 0::rest.map Z1)=[t]:=by
  rw[Zl,Zd8 hp];rfl
 have hC:Zn G 0 [t] t 0=some (0,0):=by simp[Zn,ZI,hs,Zm,ZD]
 have hask:ZV true [t].length (some (.tup [],[.var cs2,.row 0 w ys,.row 0 w2 zs]))=some (.tup [],[.var cs2,.row 0 w ys,.row 0 w2 zs]):=Zon (i:=1) (j:=2) (G:=[.var cs2,.row 0 w ys,.row 0 w2 zs]) (r:=.tup []) rfl (by omega) (by omega) (by omega) rfl rfl rfl hrf hren
 refine Zcf (ids:=[t]) hb hsh (by rw[href];exact Zeo hs hc) rfl (by simp[hs,okB]) ?_ ?_ h hask (by simp) (by simp) ?_ hff rfl ?_ ?_
 ·rw[Zj,ZdV hp]
  simp only[Zp,hC]
 ·simp only[Zo,hd,Zz,(Z5 _ cs hc).1]
 ·simp[Za1,okB,hs,Zcy,Zm]
 ·have hb3:Zj (Zak G [t] sq) cs2=cs3:=hback _ (by simp[Zak]) (by simp[Zak])
  simp only[ZaQ,ZaA,Xm,ZbZ,Zm,Zz,hb3]
  simp[]
 ·have e1:(((G.set t (.var cs3)).set sq (.row 0 w ys)).set (sq+1) (.row 0 w2 zs))[t]?=some (.var cs3):=by
   rw[Xl (fun e=>hts1 e.symm),Xl (fun e=>hts e.symm),XV htl]
  simp only[Za9,e1]
theorem ZPk{x:AVal}{view:Bool}(hb:bf f=false)(hp:rest.all Zai=true)(hc:Ze cs=true)(hback:∀ C:Rho,C 1 0=some (sq,0)->C 2 0=some (sq+1,0)->Zj C cs2=cs3)(hx:ZQ x=true)
  (h:O f (.ref 0 0::rest.map Z1) [.var cs]=some (.pan x,[.var cs2,.row 0 w ys,.row 0 w2 zs])) (hs:G[t]?=some (.var cs)) (hff:Zaj G sq 2=true):Zq O bf G sq f 2 view (.ref t 0::rest)=some (.pan x,((G.set t (.var cs3)).set sq (.row 0 w ys)).set (sq+1) (.row 0 w2 zs),{ any:=true,upd:=[(t,cs3)] }):=by
 have hfs:G[sq]?=some .free:=Zeh (i:=0) hff (by omega)
 have hfs1:G[sq+1]?=some .free:=Zeh (i:=1) hff (by omega)
 have hts:t≠sq:=by rintro rfl;rw[hs]at hfs;cases hfs
 have hts1:t≠sq+1:=by rintro rfl;rw[hs]at hfs1;cases hfs1
 have htl:t<G.length:=(Xn.1 hs).1
 have hd:G.getD t .free=.var cs:=by simp[Xh,hs]
 have hsh:showAs G (.ref t 0::rest)=some (.ref t 0::rest.map Z1,[]):=by
  rw[showAs,show showA G (.ref t 0)=some (.ref t 0,[])from rfl,Zeg hp]
  rfl
 have href:Zl (.ref t 0::rest.map Z1)=[t]:=by
  rw[Zl,Zd8 hp];rfl
 have hC:Zn G 0 [t] t 0=some (0,0):=by simp[Zn,ZI,hs,Zm,ZD]
 have hnp:ZQ (.pan x)=true:=by simpa only[ZQ]using hx
 have hask:ZV view [t].length (some (.pan x,[.var cs2,.row 0 w ys,.row 0 w2 zs]))=some (.pan x,[.var cs2,.row 0 w ys,.row 0 w2 zs]):=by
  unfold ZV
  split<;>rfl
 refine Zcf (ids:=[t]) hb hsh (by rw[href];exact Zeo hs hc) rfl (by simp[hs,okB]) ?_ ?_ h hask (by simp) (by simp) ?_ hff (Zba _ _ hnp).1 ?_ ?_
 ·rw[Zj,ZdV hp]
  simp only[Zp,hC]
 ·simp only[Zo,hd,Zz,(Z5 _ cs hc).1]
 ·simp[Za1,okB,hs,Zcy,Zm]
 ·have hb3:Zj (Zak G [t] sq) cs2=cs3:=hback _ (by simp[Zak]) (by simp[Zak])
  simp only[ZaQ,ZaA,Xm,ZbZ,Zm,Zz,hb3]
  simp[]
 ·have e1:(((G.set t (.var cs3)).set sq (.row 0 w ys)).set (sq+1) (.row 0 w2 zs))[t]?=some (.var cs3):=by
   rw[Xl (fun e=>hts1 e.symm),Xl (fun e=>hts e.symm),XV htl]
  simp only[Za9,e1]
end
end
section
def Zt7:Zf:=by apply Zb 135 [1,1] [];conv=>lhs;reduce;dsimp only[zi]
@[irreducible] def Zur:Zf:=Zt7
def ZJK:=xw Zur Zt7 (by kernel_rfl)
def Zkj:Zf:=by apply Zb 135 [1,0,1,0,0] [];conv=>lhs;reduce;dsimp only[zi]
@[irreducible] def Zug:Zf:=Zkj
def ZrD:=xw Zug Zkj (by kernel_rfl)
def ZtW:Zf:=by apply Zb 135 [] [([1,0,1,0,0],Zug),([1,1],Zur)];conv=>lhs;reduce;dsimp only[zi]
def Zox:ZM:=⟨[(.cell 4 (some 5)),(.tmp 5)],ZtW⟩
theorem ZBU:FC 135=some Zox:=by kernel_rfl
theorem ZTW:Zox.body=ZtW:=rfl
theorem Zz5:Zox.res=[(.cell 4 (some 5)),(.tmp 5)]:=rfl
noncomputable def ZlT(m:Nat)(tm:Tms)(G:Za):Option (AVal×Za):=(Zax m Zox (Zb0 FC PR BY m Zur (Wf (Zbm 0) (evL FC PR BY m [10,9,8,4,0] Zug tm G))))
def ZoR:Zf:=by apply Zb 142 [] [];conv=>lhs;reduce;dsimp only[zi]
def ZsO:ZM:=⟨[(.tmp 2)],ZoR⟩
theorem ZDX:FC 142=some ZsO:=by kernel_rfl
theorem ZPW:ZsO.body=ZoR:=rfl
theorem ZIo:ZsO.res=[(.tmp 2)]:=rfl
def Zld:Zf:=by apply Zb 133 [] [];conv=>lhs;reduce;dsimp only[zi]
def Zrf:ZM:=⟨[(.tmp 4)],Zld⟩
theorem ZKN:FC 133=some Zrf:=by kernel_rfl
theorem ZsE:Zrf.body=Zld:=rfl
theorem Zup:Zrf.res=[(.tmp 4)]:=rfl
def Zmz:Zf:=by apply Zb 96 [1,1,1,1] [];conv=>lhs;reduce;dsimp only[zi]
@[irreducible] def Zsl:Zf:=Zmz
def ZxE:=xw Zsl Zmz (by kernel_rfl)
def Zhw:Zf:=by apply Zb 96 [1,1,1,0,1,0,0] [];conv=>lhs;reduce;dsimp only[zi]
@[irreducible] def ZtG:Zf:=Zhw
def ZjG:=xw ZtG Zhw (by kernel_rfl)
def ZkX:Zf:=by apply Zb 96 [] [([1,1,1,0,1,0,0],ZtG),([1,1,1,1],Zsl)];conv=>lhs;reduce;dsimp only[zi]
def ZlJ:ZM:=⟨[(.tmp 4),(.tmp 5),(.tmp 6)],ZkX⟩
theorem ZpP:FC 96=some ZlJ:=by kernel_rfl
theorem Zqv:ZlJ.body=ZkX:=rfl
theorem ZjD:ZlJ.res=[(.tmp 4),(.tmp 5),(.tmp 6)]:=rfl
noncomputable def Zjk(m:Nat)(tm:Tms)(G:Za):Option (AVal×Za):=(Zax m ZlJ (Zb0 FC PR BY m Zsl (Wf (Zbm 0) (evL FC PR BY m [10,8,7,4,0] ZtG tm G))))
def Zrv:Zf:=by apply Zb 145 [] [];conv=>lhs;reduce;dsimp only[zi]
def Zqx:ZM:=⟨[(.cell 2 (some 5))],Zrv⟩
theorem ZAX:FC 145=some Zqx:=by kernel_rfl
theorem ZQB:Zqx.body=Zrv:=rfl
theorem ZKs:Zqx.res=[(.cell 2 (some 5))]:=rfl
def Zo8:Zf:=by apply Zb 137 [] [];conv=>lhs;reduce;dsimp only[zi]
def ZsK:ZM:=⟨[(.tmp 2)],Zo8⟩
theorem ZBB:FC 137=some ZsK:=by kernel_rfl
theorem ZMh:ZsK.body=Zo8:=rfl
theorem ZSA:ZsK.res=[(.tmp 2)]:=rfl
def Zuy:Zf:=by apply Zb 144 [] [];conv=>lhs;reduce;dsimp only[zi]
def Zpe:ZM:=⟨[(.cell 2 (some 2))],Zuy⟩
theorem ZSo:FC 144=some Zpe:=by kernel_rfl
theorem ZST:Zpe.body=Zuy:=rfl
theorem ZCs:Zpe.res=[(.cell 2 (some 2))]:=rfl
def Zq3:Zf:=by apply Zb 136 [] [];conv=>lhs;reduce;dsimp only[zi]
def Zp6:ZM:=⟨[(.tmp 4)],Zq3⟩
theorem ZNk:FC 136=some Zp6:=by kernel_rfl
theorem ZCQ:Zp6.body=Zq3:=rfl
theorem ZQh:Zp6.res=[(.tmp 4)]:=rfl
def Zfy:Zf:=by apply Zb 116 [] [];conv=>lhs;reduce;dsimp only[zi]
def ZtS:ZM:=⟨[(.cell 6 (some 5)),(.tmp 7),(.tmp 8)],Zfy⟩
theorem Zhk:FC 116=some ZtS:=by kernel_rfl
theorem Zhv:ZtS.body=Zfy:=rfl
theorem Zhg:ZtS.res=[(.cell 6 (some 5)),(.tmp 7),(.tmp 8)]:=rfl
def Zd2:Zf:=by apply Zb 134 [] [];conv=>lhs;reduce;dsimp only[zi]
def ZtY:ZM:=⟨[(.cell 4 (some 5)),(.tmp 5),(.tmp 6)],Zd2⟩
theorem Zfc:FC 134=some ZtY:=by kernel_rfl
theorem ZeD:ZtY.body=Zd2:=rfl
theorem ZeE:ZtY.res=[(.cell 4 (some 5)),(.tmp 5),(.tmp 6)]:=rfl
def ZuG:Zf:=by apply Zb 74 [] [];conv=>lhs;reduce;dsimp only[zi]
def ZpF:ZM:=⟨[(.tmp 4)],ZuG⟩
theorem ZLy:FC 74=some ZpF:=by kernel_rfl
theorem ZF2:ZpF.body=ZuG:=rfl
theorem ZEc:ZpF.res=[(.tmp 4)]:=rfl
def Zrg:Zf:=by apply Zb 123 [1,1] [];conv=>lhs;reduce;dsimp only[zi]
@[irreducible] def ZsQ:Zf:=Zrg
def ZOq:=xw ZsQ Zrg (by kernel_rfl)
def Zly:Zf:=by apply Zb 123 [1,0,1,0,0] [];conv=>lhs;reduce;dsimp only[zi]
@[irreducible] def Zto:Zf:=Zly
def Zrr:=xw Zto Zly (by kernel_rfl)
def Zqq:Zf:=by apply Zb 123 [] [([1,0,1,0,0],Zto),([1,1],ZsQ)];conv=>lhs;reduce;dsimp only[zi]
def Zng:ZM:=⟨[(.cell 4 (some 5)),(.tmp 5)],Zqq⟩
theorem ZJm:FC 123=some Zng:=by kernel_rfl
theorem ZUl:Zng.body=Zqq:=rfl
theorem Zva:Zng.res=[(.cell 4 (some 5)),(.tmp 5)]:=rfl
noncomputable def Zl4(m:Nat)(tm:Tms)(G:Za):Option (AVal×Za):=(Zax m Zng (Zb0 FC PR BY m ZsQ (Wf (Zbm 0) (evL FC PR BY m [6,4,1,0] Zto tm G))))
def ZpX:Zf:=by apply Zb 140 [] [];conv=>lhs;reduce;dsimp only[zi]
def ZqG:ZM:=⟨[(.tmp 2)],ZpX⟩
theorem ZM3:FC 140=some ZqG:=by kernel_rfl
theorem ZR7:ZqG.body=ZpX:=rfl
theorem ZBi:ZqG.res=[(.tmp 2)]:=rfl
def ZbF:Zf:=by apply Zb 121 [] [];conv=>lhs;reduce;dsimp only[zi]
def ZpV:ZM:=⟨[(.tmp 4)],ZbF⟩
theorem ZbN:FC 121=some ZpV:=by kernel_rfl
theorem ZbK:ZpV.body=ZbF:=rfl
theorem ZbL:ZpV.res=[(.tmp 4)]:=rfl
def ZlB:Zf:=by apply Zb 102 [1,1,1,1,1,1] [];conv=>lhs;reduce;dsimp only[zi]
@[irreducible] def Zum:Zf:=ZlB
def Zxb:=xw Zum ZlB (by kernel_rfl)
def ZbY:Zf:=by apply Zb 102 [1,1,1,1,1,0,0,0] [];conv=>lhs;reduce;dsimp only[zi]
@[irreducible] def Zss:Zf:=ZbY
def Zb8:=xw Zss ZbY (by kernel_rfl)
def Zln:Zf:=by apply Zb 102 [] [([1,1,1,1,1,0,0,0],Zss),([1,1,1,1,1,1],Zum)];conv=>lhs;reduce;dsimp only[zi]
def ZnI:ZM:=⟨[(.tmp 4),(.tmp 5),(.tmp 6)],Zln⟩
theorem Zti:FC 102=some ZnI:=by kernel_rfl
theorem Zr9:ZnI.body=Zln:=rfl
theorem ZcK:ZnI.res=[(.tmp 4),(.tmp 5),(.tmp 6)]:=rfl
noncomputable def ZdK(m:Nat)(tm:Tms)(G:Za):Option (AVal×Za):=(Zax m ZnI (Zb0 FC PR BY m Zum (Wf (Zbm 0) (evL FC PR BY m [11,10,8,7,0] Zss tm G))))
def ZtB:Zf:=(.seq (.region [oI 4 (.mov (.c (.bool true)))] none [4]) .ret)
@[irreducible] def Ztb:Zf:=ZtB
def ZIl:=xw Ztb ZtB (by kernel_rfl)
def Zna:Zf:=by apply Zb 29 [1,1,0,1,0,0] [];conv=>lhs;reduce;dsimp only[zi]
@[irreducible] def Zqr:Zf:=Zna
def ZyZ:=xw Zqr Zna (by kernel_rfl)
def Znf:Zf:=by apply Zb 29 [] [([1,1,0,1,0,0],Zqr),([1,1,1],Ztb)];conv=>lhs;reduce;dsimp only[zi]
def Zn8:ZM:=⟨[(.tmp 4)],Znf⟩
theorem ZGs:FC 29=some Zn8:=by kernel_rfl
theorem Zxp:Zn8.body=Znf:=rfl
theorem Ztc:Zn8.res=[(.tmp 4)]:=rfl
noncomputable def ZmT(m:Nat)(tm:Tms)(G:Za):Option (AVal×Za):=(Zax m Zn8 (Zb0 FC PR BY m Ztb (Wf (Zbm 0) (evL FC PR BY m [5,1,0] Zqr tm G))))
def Zsu:Zf:=(.seq (.region [oI 4 (.mov (.c (.bool false)))] none [4]) .ret)
@[irreducible] def Zqj:Zf:=Zsu
def ZHt:=xw Zqj Zsu (by kernel_rfl)
def Zkl:Zf:=by apply Zb 139 [1,0,1,0,0] [];conv=>lhs;reduce;dsimp only[zi]
@[irreducible] def Zp7:Zf:=Zkl
def ZtU:=xw Zp7 Zkl (by kernel_rfl)
def Zo0:Zf:=by apply Zb 139 [] [([1,0,1,0,0],Zp7),([1,1],Zqj)];conv=>lhs;reduce;dsimp only[zi]
def Zm2:ZM:=⟨[(.tmp 4)],Zo0⟩
theorem ZD7:FC 139=some Zm2:=by kernel_rfl
theorem ZMK:Zm2.body=Zo0:=rfl
theorem Zya:Zm2.res=[(.tmp 4)]:=rfl
noncomputable def ZlP(m:Nat)(tm:Tms)(G:Za):Option (AVal×Za):=(Zax m Zm2 (Zb0 FC PR BY m Zqj (Wf (Zbm 0) (evL FC PR BY m [5,1,0] Zp7 tm G))))
def Zky:Zf:=by apply Zb 124 [] [];conv=>lhs;reduce;dsimp only[zi]
def Zrc:ZM:=⟨[(.tmp 4)],Zky⟩
theorem ZwV:FC 124=some Zrc:=by kernel_rfl
theorem ZuE:Zrc.body=Zky:=rfl
theorem ZtN:Zrc.res=[(.tmp 4)]:=rfl
def Zd3:Zf:=by apply Zb 122 [] [];conv=>lhs;reduce;dsimp only[zi]
def ZrC:ZM:=⟨[(.cell 4 (some 5)),(.tmp 5),(.tmp 6)],Zd3⟩
theorem Zfg:FC 122=some ZrC:=by kernel_rfl
theorem ZeU:ZrC.body=Zd3:=rfl
theorem ZeN:ZrC.res=[(.cell 4 (some 5)),(.tmp 5),(.tmp 6)]:=rfl
end
section
theorem Zxj(l:List Int)(hl:l.length<=9223372036854775807)(v:Int):∀ (r:List Int) (i:Nat),l.drop i=r ->
  ZlP 0 [(5,.int .i64 i),(1,.lst false (l.map (AVal.int .i64 ·))),(0,.int .i64 v)] []=some (.bool (r.contains v),[])
 | [],i,h=>by
  have h1:=Zep h
  unfold ZlP
  rw[Z9]
  simp -implicitDefEqProofs only[EQA,Zc,Xc,Xa,reduceCtorEq,↓reduceIte,Zya,ZHt,Zsu,ZtU,Zkl,Zb,h1]
 |x::r,i,h=>by
  have ih:=Zxj l hl v r (i+1) (Zar h).2.1
  have h1:(i:Int)<l.length:=by have:=(Zar h).2.2;omega
  have e1:=iad (Zar h).1 (AVal.int .i64 ·) (k:=1) rfl
  have e3:=Zd1 h1 hl
  unfold ZlP at ih ⊢
  rw[Z9,List.contains_cons]
  cases hb:(v==x)
  ·have hb':(x==v)=false:=by simp only[beq_eq_false_iff_ne,ne_eq]at hb ⊢;exact fun e=>hb e.symm
   rw[Bool.false_or]
   simp -implicitDefEqProofs only[EQA,ZE,Zc,ZT,Xc,Xa,reduceCtorEq,↓reduceIte,gcT,gcA,Zw,Zt,Zo,ZB,ZtU,Zkl,Zb,h1,e1,e3,hb']
   exact ih
  ·have hb':(x==v)=true:=by simp only[beq_iff_eq]at hb ⊢;exact hb.symm
   rw[WV]
   simp -implicitDefEqProofs only[EQA,ZE,Zc,Xc,Xa,reduceCtorEq,↓reduceIte,Zya,ZtU,Zkl,Zb,h1,e1,hb']
theorem ZJk(l:List Int)(hl:l.length<=9223372036854775807)(v:Int):E 139 [.int .i64 v,ZoY l] []=some (.bool (l.contains v),[]):=by
 have h:=Zxj l hl v l 0 rfl
 have z0:((0:Nat):Int)=0:=rfl
 rw[z0]at h
 unfold ZlP at h
 rw[Zg (by rfl) ZD7]
 simp -implicitDefEqProofs only[EQA,Zc,ZT,Xc,Xa,reduceCtorEq,↓reduceIte,gcT,gcA,Zw,Zt,Zo,ZB,ZMK,Zo0,Zb,ZoY,ZoY]
 exact h
theorem ZJC(G:Za)(sq own:Nat)(l:List Int)(hl:l.length<=9223372036854775807)(v:Int)(b:Bool):Zq E BY G sq 139 own true [.int .i64 v,.lst b (l.map (AVal.int .i64 ·))]=some (.bool (l.contains v),G,{}) :=
 Zct (ZJk l hl v) (by kernel_rfl) rfl rfl rfl (fun _=>rfl) _ _ _
end
section
def ZsW:List (Int×Int×Int):=[(1,1,65544),(2,3,65544),(3,5,65544),(8,5,65544),(9,6,65544),(11,4,264),(17,3,16390),(18,5,4),(26,5,4),(19,2,4),(21,5,32774),(22,6,32774),(23,1,2),(25,1,2),(24,3,65536),(28,5,16388),(31,5,51956),(33,2,6),(34,2,6),(35,2,8),(39,3,6),(36,1,4),(37,1,4),(40,1,4),(41,1,4),(42,1,4),(38,7,-12290)]
def ofF(id:Int):Int×Int:=(ZsW.lookup id).getD (0,0)
def Zb9(id:Int):Int:=(ofF id).1
def Zfa(id:Int):Prop:=id=1\/id=2\/id=3\/id=8\/id=9\/id=11\/id=17\/id=18\/id=26\/id=19\/id=21\/id=22\/id=23\/id=25\/id=24\/id=28\/id=31\/id=33\/id=34\/id=35\/id=39\/id=36\/id=37\/id=40\/id=41\/id=42\/id=38
instance (id:Int):Decidable (Zfa id):=by unfold Zfa;infer_instance
theorem Zj1{id:Int}(h:¬Zfa id):(id==1)=false/\(id==2)=false/\(id==3)=false/\(id==8)=false/\(id==9)=false/\(id==11)=false/\(id==17)=false/\(id==18)=false/\(id==26)=false/\(id==19)=false/\(id==21)=false/\(id==22)=false/\(id==23)=false/\(id==25)=false/\(id==24)=false/\(id==28)=false/\(id==31)=false/\(id==33)=false/\(id==34)=false/\(id==35)=false/\(id==39)=false/\(id==36)=false/\(id==37)=false/\(id==40)=false/\(id==41)=false/\(id==42)=false/\(id==38)=false:=by
 unfold Zfa at h
 grind
theorem Zk1{id:Int}(h:¬Zfa id):ofF id=(0,0):=by
 obtain⟨h1,h2,h3,h8,h9,h11,h17,h18,h26,h19,h21,h22,h23,h25,h24,h28,h31,h33,h34,h35,h39,h36,h37,h40,h41,h42,h38⟩:=Zj1 h
 simp only[ofF,ZsW,List.lookup,h1,h2,h3,h8,h9,h11,h17,h18,h26,h19,h21,h22,h23,h25,h24,h28,h31,h33,h34,h35,h39,h36,h37,h40,h41,h42,h38,Option.getD_none]
theorem ZMY(id:Int):E 144 [.int .i64 id] []=some (.agg [.int .i64 (ofF id).1,.int .i64 (ofF id).2],[]):=by
 by_cases h:Zfa id
 ·rcases h with rfl |rfl |rfl |rfl |rfl |rfl |rfl |rfl |rfl |rfl |rfl |rfl |rfl |rfl |rfl |rfl |rfl |rfl |rfl |rfl |rfl |rfl |rfl |rfl |rfl |rfl |rfl
  all_goals exact ZdD.2 ⟨20,by kernel_rfl⟩
 ·rw[Zk1 h]
  obtain⟨h1,h2,h3,h8,h9,h11,h17,h18,h26,h19,h21,h22,h23,h25,h24,h28,h31,h33,h34,h35,h39,h36,h37,h40,h41,h42,h38⟩:=Zj1 h
  rw[Zg (by rfl) ZSo]
  simp -implicitDefEqProofs only[EQA,Zs,Zc,Xd,Xc,Xf,Xa,Xg,reduceCtorEq,↓reduceIte,Ze,ZST,Zuy,ZCs,Zb,h1,h2,h3,h8,h9,h11,h17,h18,h26,h19,h21,h22,h23,h25,h24,h28,h31,h33,h34,h35,h39,h36,h37,h40,h41,h42,h38,Zao,AVal.cells]
theorem Zz4(G:Za)(sq own:Nat)(id:Int):Zq E BY G sq 144 own true [.int .i64 id]=some (.agg [.int .i64 (ofF id).1,.int .i64 (ofF id).2],G,{}) :=
 Zct (ZMY id) (by kernel_rfl) rfl rfl rfl (fun _=>rfl) _ _ _
theorem ZP1(id:Int):E 142 [.int .i64 id] []=some (.int .i64 (Zb9 id),[]):=by
 have hC:=fun G sq own=>Zz4 G sq own id
 unfold Zb9
 rw[Zg (by rfl) ZDX]
 simp -implicitDefEqProofs only[EQA,Zc,Xc,Xa,reduceCtorEq,↓reduceIte,ZPW,ZoR,ZIo,Zb,hC]
theorem ZoG(G:Za)(sq own:Nat)(id:Int):Zq E BY G sq 142 own true [.int .i64 id]=some (.int .i64 (Zb9 id),G,{}) :=
 Zct (ZP1 id) (by kernel_rfl) rfl rfl rfl (fun _=>rfl) _ _ _
theorem ZGL(id:Int):E 140 [.int .i64 id] []=some (.int .i64 (Zb9 id),[]):=by
 unfold Zb9
 by_cases h:Zfa id
 ·rcases h with rfl |rfl |rfl |rfl |rfl |rfl |rfl |rfl |rfl |rfl |rfl |rfl |rfl |rfl |rfl |rfl |rfl |rfl |rfl |rfl |rfl |rfl |rfl |rfl |rfl |rfl |rfl
  all_goals exact ZdD.2 ⟨20,by kernel_rfl⟩
 ·rw[Zk1 h]
  obtain⟨h1,h2,h3,h8,h9,h11,h17,h18,h26,h19,h21,h22,h23,h25,h24,h28,h31,h33,h34,h35,h39,h36,h37,h40,h41,h42,h38⟩:=Zj1 h
  rw[Zg (by rfl) ZM3]
  simp -implicitDefEqProofs only[EQA,Zc,Xc,Xa,reduceCtorEq,↓reduceIte,ZR7,ZpX,ZBi,Zb,h1,h2,h3,h8,h9,h11,h17,h18,h26,h19,h21,h22,h23,h25,h24,h28,h31,h33,h34,h35,h39,h36,h37,h40,h41,h42,h38]
theorem ZuT(G:Za)(sq own:Nat)(id:Int):Zq E BY G sq 140 own true [.int .i64 id]=some (.int .i64 (Zb9 id),G,{}) :=
 Zct (ZGL id) (by kernel_rfl) rfl rfl rfl (fun _=>rfl) _ _ _
def Ztn(pl w:Int):Int:=IntKind.i64.wrap (((XR IntKind.i64.bits (pl.fdiv (2^min w.toNat IntKind.i64.bits))&&&XR IntKind.i64.bits 1).toNat:Nat):Int)
def Z0(id w:Int):Bool:=decide (w>=1)&&decide (w<=16)&&Ztn (ofF id).2 w==1
theorem ZLB(id w:Int):E 133 [.int .i64 id,.int .i64 w] []=some (.bool (Z0 id w),[]):=by
 have hC:=fun G sq own=>Zz4 G sq own id
 unfold Z0 Ztn
 generalize (ofF id).2=pl at *
 rw[Zg (by rfl) ZKN]
 by_cases h1:w>=1
 ·have h2:¬w<0:=by omega
  by_cases h3:w<=16
  ·simp -implicitDefEqProofs only[EQA,Zc,Xc,Xa,Zbh,Zy,unG,reduceCtorEq,↓reduceIte,ZsE,Zld,Zup,Zb,hC,h1,h2,h3]
  ·simp -implicitDefEqProofs only[EQA,Zc,Xc,Xa,Zy,Z6,unG,reduceCtorEq,↓reduceIte,ZsE,Zld,Zup,Zb,h1,h3]
 ·simp -implicitDefEqProofs only[EQA,Zc,Xc,Xa,Zy,Z6,reduceCtorEq,↓reduceIte,ZsE,Zld,Zup,Zb,h1]
theorem ZSx(G:Za)(sq own:Nat)(id w:Int):Zq E BY G sq 133 own true [.int .i64 id,.int .i64 w]=some (.bool (Z0 id w),G,{}) :=
 Zct (ZLB id w) (by kernel_rfl) rfl rfl rfl (fun _=>rfl) _ _ _
theorem ZJw:∀ k:Fin 17,1<=k.val->Z0 1 k.val=([3,16]:List Int).contains (k.val:Int)/\Z0 2 k.val=([3,16]:List Int).contains (k.val:Int)/\Z0 3 k.val=([3,16]:List Int).contains (k.val:Int)/\Z0 8 k.val=([3,16]:List Int).contains (k.val:Int)/\Z0 9 k.val=([3,16]:List Int).contains (k.val:Int)/\Z0 11 k.val=([3,8]:List Int).contains (k.val:Int)/\Z0 17 k.val=([1,2,14]:List Int).contains (k.val:Int)/\Z0 18 k.val=([2]:List Int).contains (k.val:Int)/\Z0 26 k.val=([2]:List Int).contains (k.val:Int)/\Z0 19 k.val=([2]:List Int).contains (k.val:Int)/\Z0 21 k.val=([1,2,15]:List Int).contains (k.val:Int)/\Z0 22 k.val=([1,2,15]:List Int).contains (k.val:Int)/\Z0 23 k.val=([1]:List Int).contains (k.val:Int)/\Z0 25 k.val=([1]:List Int).contains (k.val:Int)/\Z0 24 k.val=([16]:List Int).contains (k.val:Int)/\Z0 28 k.val=([2,14]:List Int).contains (k.val:Int)/\Z0 31 k.val=([2,4,5,6,7,9,11,14,15]:List Int).contains (k.val:Int)/\Z0 33 k.val=([1,2]:List Int).contains (k.val:Int)/\Z0 34 k.val=([1,2]:List Int).contains (k.val:Int)/\Z0 35 k.val=([3]:List Int).contains (k.val:Int)/\Z0 39 k.val=([1,2]:List Int).contains (k.val:Int)/\Z0 36 k.val=([2]:List Int).contains (k.val:Int)/\Z0 37 k.val=([2]:List Int).contains (k.val:Int)/\Z0 40 k.val=([2]:List Int).contains (k.val:Int)/\Z0 41 k.val=([2]:List Int).contains (k.val:Int)/\Z0 42 k.val=([2]:List Int).contains (k.val:Int)/\Z0 38 k.val=([1,2,3,4,5,6,7,8,9,10,11,14,15,16]:List Int).contains (k.val:Int):=by decide +kernel
theorem ZoP{id w:Int}(h:¬(1<=w/\w<=16)):Z0 id w=false:=by
 unfold Z0
 grind
theorem ZPl:∀ k:Fin 17,Ztn 0 k.val=0:=by decide +kernel
theorem ZRz{id:Int}(h:¬Zfa id)(w:Int):Z0 id w=false:=by
 by_cases hw:1<=w/\w<=16
 ·unfold Z0
  rw[Zk1 h]
  have:=ZPl ⟨w.toNat,by omega⟩
  have e:((w.toNat:Nat):Int)=w:=by omega
  simp only[e]at this
  rw[this];simp
 ·exact ZoP hw
theorem ZOG{id w:Int}(hw:1<=w/\w<=16):Z0 1 w=([3,16]:List Int).contains w/\Z0 2 w=([3,16]:List Int).contains w/\Z0 3 w=([3,16]:List Int).contains w/\Z0 8 w=([3,16]:List Int).contains w/\Z0 9 w=([3,16]:List Int).contains w/\Z0 11 w=([3,8]:List Int).contains w/\Z0 17 w=([1,2,14]:List Int).contains w/\Z0 18 w=([2]:List Int).contains w/\Z0 26 w=([2]:List Int).contains w/\Z0 19 w=([2]:List Int).contains w/\Z0 21 w=([1,2,15]:List Int).contains w/\Z0 22 w=([1,2,15]:List Int).contains w/\Z0 23 w=([1]:List Int).contains w/\Z0 25 w=([1]:List Int).contains w/\Z0 24 w=([16]:List Int).contains w/\Z0 28 w=([2,14]:List Int).contains w/\Z0 31 w=([2,4,5,6,7,9,11,14,15]:List Int).contains w/\Z0 33 w=([1,2]:List Int).contains w/\Z0 34 w=([1,2]:List Int).contains w/\Z0 35 w=([3]:List Int).contains w/\Z0 39 w=([1,2]:List Int).contains w/\Z0 36 w=([2]:List Int).contains w/\Z0 37 w=([2]:List Int).contains w/\Z0 40 w=([2]:List Int).contains w/\Z0 41 w=([2]:List Int).contains w/\Z0 42 w=([2]:List Int).contains w/\Z0 38 w=([1,2,3,4,5,6,7,8,9,10,11,14,15,16]:List Int).contains w:=by
 have:=ZJw ⟨w.toNat,by omega⟩ (by simp;omega)
 have e:((w.toNat:Nat):Int)=w:=by omega
 simpa only[e]using this
theorem ZbU{w:Int}(hw:¬(1<=w/\w<=16)){l:List Int}(hl:l.all fun x=>decide (1<=x)&&decide (x<=16)):l.contains w=false:=by
 grind
theorem ZQn(w:Int):Z0 1 w=([3,16]:List Int).contains w/\Z0 2 w=([3,16]:List Int).contains w/\Z0 3 w=([3,16]:List Int).contains w/\Z0 8 w=([3,16]:List Int).contains w/\Z0 9 w=([3,16]:List Int).contains w/\Z0 11 w=([3,8]:List Int).contains w/\Z0 17 w=([1,2,14]:List Int).contains w/\Z0 18 w=([2]:List Int).contains w/\Z0 26 w=([2]:List Int).contains w/\Z0 19 w=([2]:List Int).contains w/\Z0 21 w=([1,2,15]:List Int).contains w/\Z0 22 w=([1,2,15]:List Int).contains w/\Z0 23 w=([1]:List Int).contains w/\Z0 25 w=([1]:List Int).contains w/\Z0 24 w=([16]:List Int).contains w/\Z0 28 w=([2,14]:List Int).contains w/\Z0 31 w=([2,4,5,6,7,9,11,14,15]:List Int).contains w/\Z0 33 w=([1,2]:List Int).contains w/\Z0 34 w=([1,2]:List Int).contains w/\Z0 35 w=([3]:List Int).contains w/\Z0 39 w=([1,2]:List Int).contains w/\Z0 36 w=([2]:List Int).contains w/\Z0 37 w=([2]:List Int).contains w/\Z0 40 w=([2]:List Int).contains w/\Z0 41 w=([2]:List Int).contains w/\Z0 42 w=([2]:List Int).contains w/\Z0 38 w=([1,2,3,4,5,6,7,8,9,10,11,14,15,16]:List Int).contains w:=by
 by_cases hw:1<=w/\w<=16
 ·exact ZOG (id:=0) hw
 ·simp only[ZoP hw]
  refine⟨(ZbU hw rfl).symm,(ZbU hw rfl).symm,(ZbU hw rfl).symm,(ZbU hw rfl).symm,(ZbU hw rfl).symm,(ZbU hw rfl).symm,(ZbU hw rfl).symm,(ZbU hw rfl).symm,(ZbU hw rfl).symm,(ZbU hw rfl).symm,(ZbU hw rfl).symm,(ZbU hw rfl).symm,(ZbU hw rfl).symm,(ZbU hw rfl).symm,(ZbU hw rfl).symm,(ZbU hw rfl).symm,(ZbU hw rfl).symm,(ZbU hw rfl).symm,(ZbU hw rfl).symm,(ZbU hw rfl).symm,(ZbU hw rfl).symm,(ZbU hw rfl).symm,(ZbU hw rfl).symm,(ZbU hw rfl).symm,(ZbU hw rfl).symm,(ZbU hw rfl).symm,(ZbU hw rfl).symm⟩
theorem ZGx(id w:Int):E 121 [.int .i64 id,.int .i64 w] []=some (.bool (Z0 id w),[]):=by
 by_cases h:Zfa id
 ·obtain⟨m1,m2,m3,m8,m9,m11,m17,m18,m26,m19,m21,m22,m23,m25,m24,m28,m31,m33,m34,m35,m39,m36,m37,m40,m41,m42,m38⟩:=ZQn w
  have hK:=fun G sq own l hl b=>ZJC G sq own l hl w b
  have k0:=fun G sq own b=>hK G sq own [1,2] (by decide) b
  have k1:=fun G sq own b=>hK G sq own [1,2,14] (by decide) b
  have k2:=fun G sq own b=>hK G sq own [1,2,15] (by decide) b
  have k3:=fun G sq own b=>hK G sq own [2,4,5,6,7,9,11,14,15] (by decide) b
  have k4:=fun G sq own b=>hK G sq own [2,14] (by decide) b
  have k5:=fun G sq own b=>hK G sq own [3,8] (by decide) b
  have k6:=fun G sq own b=>hK G sq own [3,16] (by decide) b
  clear hK
  simp only[Xu,XC]at k0 k1 k2 k3 k4 k5 k6
  have c1:∀ a:Int,([a]:List Int).contains w=(w==a):=fun a=>by grind
  rcases h with rfl |rfl |rfl |rfl |rfl |rfl |rfl |rfl |rfl |rfl |rfl |rfl |rfl |rfl |rfl |rfl |rfl |rfl |rfl |rfl |rfl |rfl |rfl |rfl |rfl |rfl |rfl
  ·rw[m1]
   rw[Zg (by rfl) ZbN]
   simp -implicitDefEqProofs only[EQA,Zc,Xc,Xa,reduceCtorEq,↓reduceIte,ZbK,ZbF,ZbL,Zb,k6,viewAs,Z3,ZN,Zv,AVal.cells]
  ·rw[m2]
   rw[Zg (by rfl) ZbN]
   simp -implicitDefEqProofs only[EQA,Zc,Xc,Xa,reduceCtorEq,↓reduceIte,ZbK,ZbF,ZbL,Zb,k6,Xj,viewAs,Z3,ZN,Zv,AVal.cells]
  ·rw[m3]
   rw[Zg (by rfl) ZbN]
   simp -implicitDefEqProofs only[EQA,Zc,Xc,Xa,reduceCtorEq,↓reduceIte,ZbK,ZbF,ZbL,Zb,k6,Xj,viewAs,Z3,ZN,Zv,AVal.cells]
  ·rw[m8]
   rw[Zg (by rfl) ZbN]
   simp -implicitDefEqProofs only[EQA,Zc,Xc,Xa,reduceCtorEq,↓reduceIte,ZbK,ZbF,ZbL,Zb,k6,Xj,viewAs,Z3,ZN,Zv,AVal.cells]
  ·rw[m9]
   rw[Zg (by rfl) ZbN]
   simp -implicitDefEqProofs only[EQA,Zc,Xc,Xa,reduceCtorEq,↓reduceIte,ZbK,ZbF,ZbL,Zb,k6,Xj,viewAs,Z3,ZN,Zv,AVal.cells]
  ·rw[m11]
   rw[Zg (by rfl) ZbN]
   simp -implicitDefEqProofs only[EQA,Zc,Xc,Xa,reduceCtorEq,↓reduceIte,ZbK,ZbF,ZbL,Zb,k5,Xj,viewAs,Z3,ZN,Zv,AVal.cells]
  ·rw[m17]
   rw[Zg (by rfl) ZbN]
   simp -implicitDefEqProofs only[EQA,Zc,Xc,Xa,reduceCtorEq,↓reduceIte,ZbK,ZbF,ZbL,Zb,k1,Xj,viewAs,Z3,ZN,Zv,AVal.cells]
  ·rw[m18,c1]
   rw[Zg (by rfl) ZbN]
   simp -implicitDefEqProofs only[EQA,Zc,Xc,Xa,reduceCtorEq,↓reduceIte,ZbK,ZbF,ZbL,Zb,Xj]
  ·rw[m26,c1]
   rw[Zg (by rfl) ZbN]
   simp -implicitDefEqProofs only[EQA,Zc,Xc,Xa,reduceCtorEq,↓reduceIte,ZbK,ZbF,ZbL,Zb,Xj]
  ·rw[m19,c1]
   rw[Zg (by rfl) ZbN]
   simp -implicitDefEqProofs only[EQA,Zc,Xc,Xa,reduceCtorEq,↓reduceIte,ZbK,ZbF,ZbL,Zb,Xj]
  ·rw[m21]
   rw[Zg (by rfl) ZbN]
   simp -implicitDefEqProofs only[EQA,Zc,Xc,Xa,reduceCtorEq,↓reduceIte,ZbK,ZbF,ZbL,Zb,k2,Xj,viewAs,Z3,ZN,Zv,AVal.cells]
  ·rw[m22]
   rw[Zg (by rfl) ZbN]
   simp -implicitDefEqProofs only[EQA,Zc,Xc,Xa,reduceCtorEq,↓reduceIte,ZbK,ZbF,ZbL,Zb,k2,Xj,viewAs,Z3,ZN,Zv,AVal.cells]
  ·rw[m23,c1]
   rw[Zg (by rfl) ZbN]
   simp -implicitDefEqProofs only[EQA,Zc,Xc,Xa,reduceCtorEq,↓reduceIte,ZbK,ZbF,ZbL,Zb,Xj]
  ·rw[m25,c1]
   rw[Zg (by rfl) ZbN]
   simp -implicitDefEqProofs only[EQA,Zc,Xc,Xa,reduceCtorEq,↓reduceIte,ZbK,ZbF,ZbL,Zb,Xj]
  ·rw[m24,c1]
   rw[Zg (by rfl) ZbN]
   simp -implicitDefEqProofs only[EQA,Zc,Xc,Xa,reduceCtorEq,↓reduceIte,ZbK,ZbF,ZbL,Zb,Xj]
  ·rw[m28]
   rw[Zg (by rfl) ZbN]
   simp -implicitDefEqProofs only[EQA,Zc,Xc,Xa,reduceCtorEq,↓reduceIte,ZbK,ZbF,ZbL,Zb,k4,Xj,viewAs,Z3,ZN,Zv,AVal.cells]
  ·rw[m31]
   rw[Zg (by rfl) ZbN]
   simp -implicitDefEqProofs only[EQA,Zc,Xc,Xa,reduceCtorEq,↓reduceIte,ZbK,ZbF,ZbL,Zb,k3,Xj,viewAs,Z3,ZN,Zv,AVal.cells]
  ·rw[m33]
   rw[Zg (by rfl) ZbN]
   simp -implicitDefEqProofs only[EQA,Zc,Xc,Xa,reduceCtorEq,↓reduceIte,ZbK,ZbF,ZbL,Zb,k0,Xj,viewAs,Z3,ZN,Zv,AVal.cells]
  ·rw[m34]
   rw[Zg (by rfl) ZbN]
   simp -implicitDefEqProofs only[EQA,Zc,Xc,Xa,reduceCtorEq,↓reduceIte,ZbK,ZbF,ZbL,Zb,k0,Xj,viewAs,Z3,ZN,Zv,AVal.cells]
  ·rw[m35,c1]
   rw[Zg (by rfl) ZbN]
   simp -implicitDefEqProofs only[EQA,Zc,Xc,Xa,reduceCtorEq,↓reduceIte,ZbK,ZbF,ZbL,Zb,Xj]
  ·rw[m39]
   rw[Zg (by rfl) ZbN]
   simp -implicitDefEqProofs only[EQA,Zc,Xc,Xa,reduceCtorEq,↓reduceIte,ZbK,ZbF,ZbL,Zb,k0,Xj,viewAs,Z3,ZN,Zv,AVal.cells]
  ·rw[m36,c1]
   rw[Zg (by rfl) ZbN]
   simp -implicitDefEqProofs only[EQA,Zc,Xc,Xa,reduceCtorEq,↓reduceIte,ZbK,ZbF,ZbL,Zb,Xj]
  ·rw[m37,c1]
   rw[Zg (by rfl) ZbN]
   simp -implicitDefEqProofs only[EQA,Zc,Xc,Xa,reduceCtorEq,↓reduceIte,ZbK,ZbF,ZbL,Zb,Xj]
  ·rw[m40,c1]
   rw[Zg (by rfl) ZbN]
   simp -implicitDefEqProofs only[EQA,Zc,Xc,Xa,reduceCtorEq,↓reduceIte,ZbK,ZbF,ZbL,Zb,Xj]
  ·rw[m41,c1]
   rw[Zg (by rfl) ZbN]
   simp -implicitDefEqProofs only[EQA,Zc,Xc,Xa,reduceCtorEq,↓reduceIte,ZbK,ZbF,ZbL,Zb,Xj]
  ·rw[m42,c1]
   rw[Zg (by rfl) ZbN]
   simp -implicitDefEqProofs only[EQA,Zc,Xc,Xa,reduceCtorEq,↓reduceIte,ZbK,ZbF,ZbL,Zb,Xj]
  ·by_cases hw:1<=w/\w<=16
   ·have : w=1\/w=2\/w=3\/w=4\/w=5\/w=6\/w=7\/w=8\/w=9\/w=10\/w=11\/w=12\/w=13\/w=14\/w=15\/w=16:=by omega
    clear m1
    rcases this with rfl |rfl |rfl |rfl |rfl |rfl |rfl |rfl |rfl |rfl |rfl |rfl |rfl |rfl |rfl |rfl
    all_goals exact ZdD.2 ⟨20,by kernel_rfl⟩
   ·rw[ZoP hw]
    by_cases h1:w>=1
    ·have h2:¬w<=16:=fun h2=>hw ⟨h1,h2⟩
     rw[Zg (by rfl) ZbN]
     simp -implicitDefEqProofs only[EQA,Zc,Xc,Xa,Zy,Z6,unG,reduceCtorEq,↓reduceIte,ZbK,ZbF,ZbL,Zb,h1,h2,Xj]
    ·rw[Zg (by rfl) ZbN]
     simp -implicitDefEqProofs only[EQA,Zc,Xc,Xa,Zy,Z6,reduceCtorEq,↓reduceIte,ZbK,ZbF,ZbL,Zb,h1,Xj]
 ·rw[ZRz h]
  obtain⟨h1,h2,h3,h8,h9,h11,h17,h18,h26,h19,h21,h22,h23,h25,h24,h28,h31,h33,h34,h35,h39,h36,h37,h40,h41,h42,h38⟩:=Zj1 h
  rw[Zg (by rfl) ZbN]
  simp -implicitDefEqProofs only[EQA,Zc,Xc,Xa,reduceCtorEq,↓reduceIte,ZbK,ZbF,ZbL,Zb,h1,h2,h3,h8,h9,h11,h17,h18,h26,h19,h21,h22,h23,h25,h24,h28,h31,h33,h34,h35,h39,h36,h37,h40,h41,h42,h38]
theorem ZUj(G:Za)(sq own:Nat)(id w:Int):Zq E BY G sq 121 own true [.int .i64 id,.int .i64 w]=some (.bool (Z0 id w),G,{}) :=
 Zct (ZGx id w) (by kernel_rfl) rfl rfl rfl (fun _=>rfl) _ _ _
end
section
theorem Zyo(id:Int):Zb9 id=0\/Zb9 id=1\/Zb9 id=2\/Zb9 id=3\/Zb9 id=4\/Zb9 id=5\/Zb9 id=6\/Zb9 id=7:=by
 unfold Zb9
 by_cases h:Zfa id
 ·unfold Zfa at h
  rcases h with rfl |rfl |rfl |rfl |rfl |rfl |rfl |rfl |rfl |rfl |rfl |rfl |rfl |rfl |rfl |rfl |rfl |rfl |rfl |rfl |rfl |rfl |rfl |rfl |rfl |rfl |rfl
  all_goals decide
 ·rw[Zk1 h];simp
theorem Zx1(b:Zd)(h:b.length<=4):Zcj b<4294967296:=by
 unfold Zcj
 match b,h with
 | [],_=>simp[ZeF]
 | [a],_=>rw[Zds,ZeF];have:=a.toNat_lt;omega
 | [a,c],_=>rw[Zds,Zds,ZeF];have:=a.toNat_lt;have:=c.toNat_lt;omega
 | [a,c,d],_=>rw[Zds,Zds,Zds,ZeF];have:=a.toNat_lt;have:=c.toNat_lt;have:=d.toNat_lt;omega
 | [a,c,d,e],_=>rw[Zds,Zds,Zds,Zds,ZeF];have:=a.toNat_lt;have:=c.toNat_lt;have:=d.toNat_lt;have:=e.toNat_lt;omega
def ZfK(id:Int)(W:Nat)(b:Zd):ZO×Nat×Bool:=if b.length<W then(⟨id,0,[],[],[]⟩,0,false)else(⟨id,Zcj (b.take W),[],[],[]⟩,W,true)
def Zhn(id:Int)(b:Zd):ZO×Nat×Bool :=
 if(ZU b).2.2=0 then(⟨id,0,(ZU b).1,(ZU (b.drop (ZU b).2.1)).1,[]⟩,(ZU b).2.1+(ZU (b.drop (ZU b).2.1)).2.1,(ZU (b.drop (ZU b).2.1)).2.2==0)else(⟨id,0,[],[],[]⟩,0,false)
def Zel(k id:Int)(b:Zd):ZO×Nat×Bool :=
 if k=1 then ZfK id 1 b else if k=2 then ZfK id 2 b else if k=3 then ZfK id 4 b
 else if k=4 then(⟨id,(Zas b).1,[],[],[]⟩,(Zas b).2.1,(Zas b).2.2==0)
 else if k=5 then(⟨id,0,(ZU b).1,[],[]⟩,(ZU b).2.1,(ZU b).2.2==0)
 else if k=6 then(⟨id,0,[],[],(ZL b).1⟩,(ZL b).2.1,(ZL b).2.2==0)
 else if k=7 then Zhn id b else(⟨id,0,[],[],[]⟩,0,true)
def Zcv(id:Int)(b:Zd):ZO×Nat×Bool:=Zel (Zb9 id) id b
def Zbx(f:Bool)(x:ZO×Nat×Bool):AVal:=.tup [.agg [.int .i64 x.1.id,.int .i64 x.1.num,.str x.1.text,.str x.1.pair,.lst f (x.1.data.map Zh)],.int .i64 (x.2.1:Nat),.bool x.2.2]
theorem Zg0(b:Zd):(ZL b).2.1<=b.length/\(ZL b).1.length<=b.length:=by
 unfold ZL
 grind
theorem Zgp(b:Zd):(ZU b).2.1<=b.length/\((ZU b).2.2≠0->(ZU b).1=[]/\(ZU b).2.1=0):=by
 have hd:=Zg0 b
 unfold ZU
 grind
theorem Zo1(id:Int)(b:Zd)(hl:b.length<=140737488355328)(k:Int)(W:Nat)(hk:Zb9 id=k)(hW:(k=1/\W=1)\/(k=2/\W=2)\/(k=3/\W=4)):E 134 [.int .i64 id,.lnt b] []=some (Zbx true (ZfK id W b),[]):=by
 have hC:=fun G sq own=>ZoG G sq own id
 rw[hk]at hC
 have hG:=fun G sq own=>Zo2 G sq own (b.take W) (by simp;omega)
 have hg:=Zx1 (b.take W) (by simp;omega)
 unfold ZfK
 generalize Zcj (b.take W)=g at *
 have hi:IntKind.i64.wrap (g:Int)=(g:Int):=ZaE (by omega) (by omega)
 have hw:∀ W:Nat,W<=b.length->∀ (G:Za) (kk:IntKind),ZbO G 1 (.lnt b) none (some (.int kk (W:Int))) none=some (.lnt (b.take W),G,{}):=fun W hW G kk=>by
  have:=Zpa G b kk (W:Int) (by omega) (by omega)
  exact this
 have z1:((1:Nat):Int)=1:=rfl
 have z2:((2:Nat):Int)=2:=rfl
 have z4:((4:Nat):Int)=4:=rfl
 rcases hW with⟨rfl,rfl⟩ |⟨rfl,rfl⟩ |⟨rfl,rfl⟩
 ·have w1:IntKind.i64.wrap (1-1)=0:=rfl
  have w2:IntKind.i64.wrap (1*2^min (Xad 0) IntKind.i64.bits)=1:=rfl
  have ng:¬((0:Int)<0):=by decide
  by_cases h:b.length<1
  ·have h':(b.length:Int)<1:=by omega
   rw[Zg (by rfl) Zfc,if_pos h]
   simp -implicitDefEqProofs only[EQA,Zs,Zc,Xd,Xc,Xf,Xa,Xg,Zbh,reduceCtorEq,↓reduceIte,Ze,ZeD,Zd2,ZeE,Zb,hC,w1,w2,ng,h',Zbx,AVal.cells]
   rfl
  ·have h':¬(b.length:Int)<1:=by omega
   have hs:=hw 1 (by omega)
   rw[z1]at hs
   have e0:((0:Int)==0)=true:=rfl
   rw[Zg (by rfl) Zfc,if_neg h]
   simp -implicitDefEqProofs only[EQA,Zs,Zc,Xd,Xc,Xf,Xa,Xg,Zbh,reduceCtorEq,↓reduceIte,Ze,ZeD,Zd2,ZeE,Zb,hC,w1,w2,ng,h',hs,hG,hi,Zbx,AVal.cells]
   rfl
 ·have w1:IntKind.i64.wrap (2-1)=1:=rfl
  have w2:IntKind.i64.wrap (1*2^min (Xad 1) IntKind.i64.bits)=2:=rfl
  have ng:¬((1:Int)<0):=by decide
  by_cases h:b.length<2
  ·have h':(b.length:Int)<2:=by omega
   rw[Zg (by rfl) Zfc,if_pos h]
   simp -implicitDefEqProofs only[EQA,Zs,Zc,Xd,Xc,Xf,Xa,Xg,Zbh,reduceCtorEq,↓reduceIte,Ze,ZeD,Zd2,ZeE,Zb,hC,w1,w2,ng,h',Xj,Zbx,AVal.cells]
   rfl
  ·have h':¬(b.length:Int)<2:=by omega
   have hs:=hw 2 (by omega)
   rw[z2]at hs
   have e0:((0:Int)==0)=true:=rfl
   rw[Zg (by rfl) Zfc,if_neg h]
   simp -implicitDefEqProofs only[EQA,Zs,Zc,Xd,Xc,Xf,Xa,Xg,Zbh,reduceCtorEq,↓reduceIte,Ze,ZeD,Zd2,ZeE,Zb,hC,w1,w2,ng,h',hs,hG,hi,Xj,Zbx,AVal.cells]
   rfl
 ·have w1:IntKind.i64.wrap (3-1)=2:=rfl
  have w2:IntKind.i64.wrap (1*2^min (Xad 2) IntKind.i64.bits)=4:=rfl
  have ng:¬((2:Int)<0):=by decide
  by_cases h:b.length<4
  ·have h':(b.length:Int)<4:=by omega
   rw[Zg (by rfl) Zfc,if_pos h]
   simp -implicitDefEqProofs only[EQA,Zs,Zc,Xd,Xc,Xf,Xa,Xg,Zbh,reduceCtorEq,↓reduceIte,Ze,ZeD,Zd2,ZeE,Zb,hC,w1,w2,ng,h',Xj,Zbx,AVal.cells]
   rfl
  ·have h':¬(b.length:Int)<4:=by omega
   have hs:=hw 4 (by omega)
   rw[z4]at hs
   have e0:((0:Int)==0)=true:=rfl
   rw[Zg (by rfl) Zfc,if_neg h]
   simp -implicitDefEqProofs only[EQA,Zs,Zc,Xd,Xc,Xf,Xa,Xg,Zbh,reduceCtorEq,↓reduceIte,Ze,ZeD,Zd2,ZeE,Zb,hC,w1,w2,ng,h',hs,hG,hi,Xj,Zbx,AVal.cells]
   rfl
theorem ZNn(id:Int)(b:Zd)(hl:b.length<=140737488355328):∃ f,E 134 [.int .i64 id,.lnt b] []=some (Zbx f (Zcv id b),[]):=by
 unfold Zcv
 have hC:=fun G sq own=>ZoG G sq own id
 have hGV:=fun G sq own=>Zpy G sq own b (by omega)
 have hGT:=fun G sq own=>ZjA G sq own b hl
 have hGD:=fun G sq own=>ZMt G sq own b hl
 have z0:((0:Nat):Int)=0:=rfl
 rcases Zyo id with hk |hk |hk |hk |hk |hk |hk |hk
 ·refine⟨true,?_⟩
  rw[hk]at hC ⊢
  rw[show Zel 0 id b=(⟨id,0,[],[],[]⟩,0,true)from rfl,Zg (by rfl) Zfc]
  have e0:((0:Int)==0)=true:=rfl
  simp -implicitDefEqProofs only[EQA,Zs,Zc,Xd,Xc,Xf,Xa,Xg,reduceCtorEq,↓reduceIte,Ze,ZeD,Zd2,ZeE,Zb,hC,Xj,Zbx,AVal.cells]
  rfl
 ·rw[hk];exact⟨true,Zo1 id b hl 1 1 hk (by simp)⟩
 ·rw[hk];exact⟨true,Zo1 id b hl 2 2 hk (by simp)⟩
 ·rw[hk];exact⟨true,Zo1 id b hl 3 4 hk (by simp)⟩
 ·refine⟨true,?_⟩
  rw[hk]at hC ⊢
  rw[show Zel 4 id b=(⟨id,(Zas b).1,[],[],[]⟩,(Zas b).2.1,(Zas b).2.2==0)from rfl,Zg (by rfl) Zfc]
  unfold gvT at hGV
  simp -implicitDefEqProofs only[EQA,Zs,Zc,Xd,Xc,Xf,Xa,Xg,reduceCtorEq,↓reduceIte,Ze,ZeD,Zd2,ZeE,Zb,hC,hGV,Xj,Zbx,AVal.cells]
 ·refine⟨true,?_⟩
  rw[hk]at hC ⊢
  rw[show Zel 5 id b=(⟨id,0,(ZU b).1,[],[]⟩,(ZU b).2.1,(ZU b).2.2==0)from rfl,Zg (by rfl) Zfc]
  unfold gtT at hGT
  simp -implicitDefEqProofs only[EQA,Zs,Zc,Xd,Xc,Xf,Xa,Xg,reduceCtorEq,↓reduceIte,Ze,ZeD,Zd2,ZeE,Zb,hC,hGT,Xj,Zbx,AVal.cells]
 ·refine⟨false,?_⟩
  rw[hk]at hC ⊢
  rw[show Zel 6 id b=(⟨id,0,[],[],(ZL b).1⟩,(ZL b).2.1,(ZL b).2.2==0)from rfl,Zg (by rfl) Zfc]
  unfold gdT at hGD
  simp -implicitDefEqProofs only[EQA,Zs,Zc,Xd,Xc,Xf,Xa,Xg,reduceCtorEq,↓reduceIte,Ze,ZeD,Zd2,ZeE,Zb,hC,hGD,Xj,Zbx,AVal.cells]
 ·refine⟨true,?_⟩
  rw[hk]at hC ⊢
  rw[show Zel 7 id b=Zhn id b from rfl,Zg (by rfl) Zfc]
  unfold gtT at hGT
  unfold Zhn
  have hu:=Zgp b
  by_cases h:(ZU b).2.2=0
  ·have h':((ZU b).2.2==0)=true:=by simpa using h
   have hs:=fun G kk=>ZfC G b kk (((ZU b).2.1:Nat):Int) (by omega) (by omega)
   have e:((((ZU b).2.1:Nat):Int)).toNat=(ZU b).2.1:=rfl
   rw[e]at hs
   have hGT2:=fun G sq own=>ZjA G sq own (b.drop (ZU b).2.1) (by simp;omega)
   unfold gtT at hGT2
   have hu2:=Zgp (b.drop (ZU b).2.1)
   have hdl:(b.drop (ZU b).2.1).length<=b.length:=by simp
   have hw:IntKind.i64.wrap ((((ZU b).2.1:Nat):Int)+(((ZU (b.drop (ZU b).2.1)).2.1:Nat):Int))=(((ZU b).2.1+(ZU (b.drop (ZU b).2.1)).2.1:Nat):Int):=by
    rw[ZaE (by omega) (by omega)];rfl
   rw[if_pos h]
   rw[h]at hGT
   have e0:((0:Int)==0)=true:=rfl
   simp -implicitDefEqProofs only[EQA,Zs,Zc,Xd,Xc,Xf,Xa,Xg,reduceCtorEq,↓reduceIte,Ze,ZeD,Zd2,ZeE,Zb,hC,hGT,hs,hGT2,hw,Xj,Zbx,AVal.cells]
  ·have h':((ZU b).2.2==0)=false:=by simpa using h
   rw[if_neg h]
   obtain⟨x1,x2⟩:=hu.2 h
   rw[x1,x2]at hGT
   simp -implicitDefEqProofs only[EQA,Zs,Zc,Xd,Xc,Xf,Xa,Xg,reduceCtorEq,↓reduceIte,Ze,ZeD,Zd2,ZeE,Zb,hC,hGT,h',Xj,Zbx,AVal.cells]
theorem ZDj(G:Za)(sq own:Nat)(id:Int)(b:Zd)(hl:b.length<=140737488355328):Zq E BY G sq 134 own true [.int .i64 id,.lnt b]=some (Zbx false (Zcv id b),G,{}):=by
 obtain⟨g,h⟩:=ZNn id b hl
 exact Zu9 (vs:=[.int .i64 id,.lnt b]) (by kernel_rfl) (by kernel_rfl) (by kernel_rfl) rfl rfl (fun _=>rfl) h rfl rfl
end
section
theorem Zqy(id:Int)(b:Zd)(hl:b.length<=140737488355328)(k:Int)(W:Nat)(hk:Zb9 id=k)(hW:(k=1/\W=1)\/(k=2/\W=2)\/(k=3/\W=4)):E 122 [.int .i64 id,Z4 b] []=some (Zbx true (ZfK id W b),[]):=by
 have hC:=fun G sq own=>ZuT G sq own id
 rw[hk]at hC
 have hG:=fun G sq own f=>ZlX G sq own (b.take W) (by simp;omega) f
 have hg:=Zx1 (b.take W) (by simp;omega)
 unfold ZfK
 generalize Zcj (b.take W)=g at *
 have hi:IntKind.i64.wrap (g:Int)=(g:Int):=ZaE (by omega) (by omega)
 have hw:∀ W:Nat,W<=b.length->∀ (G:Za) (kk:IntKind),ZbO G 1 (.lst false (b.map Zh)) none (some (.int kk (W:Int))) none=some (.lst false ((b.take W).map Zh),G,{}):=fun W hW G kk=>by
  have:=Zjx G 1 b Zh kk (W:Int) (by omega) (by omega)
  exact this
 have z1:((1:Nat):Int)=1:=rfl
 have z2:((2:Nat):Int)=2:=rfl
 have z4:((4:Nat):Int)=4:=rfl
 rcases hW with⟨rfl,rfl⟩ |⟨rfl,rfl⟩ |⟨rfl,rfl⟩
 ·skip
  by_cases h:b.length<1
  ·have h':(b.length:Int)<1:=by omega
   rw[Zg (by rfl) Zfg,if_pos h]
   simp -implicitDefEqProofs only[EQA,Zs,Zc,Xd,Xc,Xf,Xa,Xg,reduceCtorEq,↓reduceIte,Ze,ZeU,Zd3,ZeN,Zb,Z4,hC,h',Zbx,AVal.cells,Zao]
   rfl
  ·have h':¬(b.length:Int)<1:=by omega
   have hs:=hw 1 (by omega)
   rw[z1]at hs
   have e0:((0:Int)==0)=true:=rfl
   rw[Zg (by rfl) Zfg,if_neg h]
   simp -implicitDefEqProofs only[EQA,Zs,Zc,Xd,Xc,Xf,Xa,Xg,reduceCtorEq,↓reduceIte,Ze,ZeU,Zd3,ZeN,Zb,Z4,hC,h',hs,hG,hi,Zbx,AVal.cells,Zao]
   rfl
 ·skip
  by_cases h:b.length<2
  ·have h':(b.length:Int)<2:=by omega
   rw[Zg (by rfl) Zfg,if_pos h]
   simp -implicitDefEqProofs only[EQA,Zs,Zc,Xd,Xc,Xf,Xa,Xg,reduceCtorEq,↓reduceIte,Ze,ZeU,Zd3,ZeN,Zb,Z4,hC,h',Xj,Zbx,AVal.cells,Zao]
   rfl
  ·have h':¬(b.length:Int)<2:=by omega
   have hs:=hw 2 (by omega)
   rw[z2]at hs
   have e0:((0:Int)==0)=true:=rfl
   rw[Zg (by rfl) Zfg,if_neg h]
   simp -implicitDefEqProofs only[EQA,Zs,Zc,Xd,Xc,Xf,Xa,Xg,reduceCtorEq,↓reduceIte,Ze,ZeU,Zd3,ZeN,Zb,Z4,hC,h',hs,hG,hi,Xj,Zbx,AVal.cells,Zao]
   rfl
 ·skip
  by_cases h:b.length<4
  ·have h':(b.length:Int)<4:=by omega
   rw[Zg (by rfl) Zfg,if_pos h]
   simp -implicitDefEqProofs only[EQA,Zs,Zc,Xd,Xc,Xf,Xa,Xg,reduceCtorEq,↓reduceIte,Ze,ZeU,Zd3,ZeN,Zb,Z4,hC,h',Xj,Zbx,AVal.cells,Zao]
   rfl
  ·have h':¬(b.length:Int)<4:=by omega
   have hs:=hw 4 (by omega)
   rw[z4]at hs
   have e0:((0:Int)==0)=true:=rfl
   rw[Zg (by rfl) Zfg,if_neg h]
   simp -implicitDefEqProofs only[EQA,Zs,Zc,Xd,Xc,Xf,Xa,Xg,reduceCtorEq,↓reduceIte,Ze,ZeU,Zd3,ZeN,Zb,Z4,hC,h',hs,hG,hi,Xj,Zbx,AVal.cells,Zao]
   rfl
theorem ZDP(id:Int)(b:Zd)(hl:b.length<=140737488355328):(Zb9 id≠6->E 122 [.int .i64 id,Z4 b] []=some (Zbx true (Zcv id b),[]))/\(Zb9 id=6->E 122 [.int .i64 id,Z4 b] []=some (.tup [.agg [.int .i64 id,.int .i64 0,.str [],.str [],.sl 0 0 0 (ZL b).1.length],.int .i64 ((ZL b).2.1:Nat),.bool ((ZL b).2.2==0)],[.row 0 1 ((ZL b).1.map Zh)])):=by
 unfold Zcv
 have hC:=fun G sq own=>ZuT G sq own id
 have hGV:=fun G sq own f=>ZpN G sq own f b (by omega)
 have hGT:=fun G sq own f=>ZrQ G sq own f b hl
 have hGD:=fun G sq own f=>Zp2 G sq own f b hl
 have z0:((0:Nat):Int)=0:=rfl
 rcases Zyo id with hk |hk |hk |hk |hk |hk |hk |hk
 ·refine⟨fun _=>?_,fun h6=>by grind⟩
  rw[hk]at hC ⊢
  have hG:=fun G sq own f=>ZlX G sq own (b.take 0) (by simp) f
  rw[show Zcj (b.take 0)=0 from rfl]at hG
  have hs:=fun G kk=>Zjx G 1 b Zh kk 0 (by omega) (by omega)
  rw[show(0:Int).toNat=0 from rfl]at hs
  have h':¬(b.length:Int)<0:=by omega
  have hi:IntKind.i64.wrap 0=0:=rfl
  rw[show Zel 0 id b=(⟨id,0,[],[],[]⟩,0,true)from rfl,Zg (by rfl) Zfg]
  rw[z0]at hG
  generalize b.take 0=b0 at *
  simp -implicitDefEqProofs only[EQA,Zs,Zc,Xd,Xc,Xf,Xa,Xg,reduceCtorEq,↓reduceIte,Ze,ZeU,Zd3,ZeN,Zb,Z4,hC,hG,hs,h',hi,Xj,Zbx,AVal.cells,Zao]
  rfl
 ·rw[hk];exact⟨fun _=>Zqy id b hl 1 1 hk (by simp),fun h6=>absurd h6 (by decide)⟩
 ·rw[hk];exact⟨fun _=>Zqy id b hl 2 2 hk (by simp),fun h6=>absurd h6 (by decide)⟩
 ·rw[hk];exact⟨fun _=>Zqy id b hl 3 4 hk (by simp),fun h6=>absurd h6 (by decide)⟩
 ·refine⟨fun _=>?_,fun h6=>by grind⟩
  rw[hk]at hC ⊢
  rw[show Zel 4 id b=(⟨id,(Zas b).1,[],[],[]⟩,(Zas b).2.1,(Zas b).2.2==0)from rfl,Zg (by rfl) Zfg]
  unfold gvT at hGV
  simp -implicitDefEqProofs only[EQA,Zs,Zc,Xd,Xc,Xf,Xa,Xg,reduceCtorEq,↓reduceIte,Ze,ZeU,Zd3,ZeN,Zb,Z4,hC,hGV,Xj,Zbx,AVal.cells,Zao]
 ·refine⟨fun _=>?_,fun h6=>by grind⟩
  rw[hk]at hC ⊢
  rw[show Zel 5 id b=(⟨id,0,(ZU b).1,[],[]⟩,(ZU b).2.1,(ZU b).2.2==0)from rfl,Zg (by rfl) Zfg]
  unfold gtT at hGT
  simp -implicitDefEqProofs only[EQA,Zs,Zc,Xd,Xc,Xf,Xa,Xg,reduceCtorEq,↓reduceIte,Ze,ZeU,Zd3,ZeN,Zb,Z4,hC,hGT,Xj,Zbx,AVal.cells,Zao]
 ·refine⟨fun h6=>absurd hk h6,fun _=>?_⟩
  rw[hk]at hC
  have hdl:=(Zg0 b).2
  have k1:=Zhe (ZL b).1
  have k2:(ZL b).1.length*1<=140737488355328:=by omega
  rw[Zg (by rfl) Zfg]
  unfold gdT at hGD
  generalize (ZL b).1=d at *
  simp -implicitDefEqProofs only[EQA,Zs,Zc,ZbH,Xd,Xc,Xf,Xa,Xg,reduceCtorEq,ZZ,↓reduceIte,ZeU,Zd3,ZeN,Zb,Z4,hC,hGD,k1,k2,Xj,AVal.cells,Zao,Zan,viewAs,Zv]
  simp[ZR,gcA,Zw,Zt,Zl,ZH,Zn,Zo,ZI,Zm,ZD,Zj,Zp,Zz,ZB]
 ·refine⟨fun _=>?_,fun h6=>by grind⟩
  rw[hk]at hC ⊢
  rw[show Zel 7 id b=Zhn id b from rfl,Zg (by rfl) Zfg]
  unfold gtT at hGT
  unfold Zhn
  have hu:=Zgp b
  by_cases h:(ZU b).2.2=0
  ·have h':((ZU b).2.2==0)=true:=by simpa using h
   have hs:=fun G kk=>Zgw G b kk (((ZU b).2.1:Nat):Int) (by omega) (by omega)
   have e:((((ZU b).2.1:Nat):Int)).toNat=(ZU b).2.1:=rfl
   rw[e]at hs
   have hGT2:=fun G sq own f=>ZrQ G sq own f (b.drop (ZU b).2.1) (by simp;omega)
   unfold gtT at hGT2
   have hu2:=Zgp (b.drop (ZU b).2.1)
   have hdl:(b.drop (ZU b).2.1).length<=b.length:=by simp
   have hw:IntKind.i64.wrap ((((ZU b).2.1:Nat):Int)+(((ZU (b.drop (ZU b).2.1)).2.1:Nat):Int))=(((ZU b).2.1+(ZU (b.drop (ZU b).2.1)).2.1:Nat):Int):=by
    rw[ZaE (by omega) (by omega)];rfl
   rw[if_pos h]
   rw[h]at hGT
   have e0:((0:Int)==0)=true:=rfl
   have n0:((0:Int) != 0)=false:=rfl
   simp -implicitDefEqProofs only[EQA,Zs,Zc,Xd,Xc,Xf,Xa,Xg,reduceCtorEq,↓reduceIte,Ze,ZeU,Zd3,ZeN,Zb,Z4,hC,hGT,hs,hGT2,hw,n0,Xj,Zbx,AVal.cells,Zao]
  ·have h':((ZU b).2.2==0)=false:=by simpa using h
   rw[if_neg h]
   obtain⟨x1,x2⟩:=hu.2 h
   rw[x1,x2]at hGT
   have h'':((ZU b).2.2 != 0)=true:=by simpa using h
   simp -implicitDefEqProofs only[EQA,Zs,Zc,Xd,Xc,Xf,Xa,Xg,reduceCtorEq,↓reduceIte,Ze,ZeU,Zd3,ZeN,Zb,Z4,hC,hGT,h'',Xj,Zbx,AVal.cells,Zao]
   rfl
theorem ZVg(G:Za)(sq own:Nat)(f:Bool)(id:Int)(b:Zd)(hl:b.length<=140737488355328):Zq E BY G sq 122 own true [.int .i64 id,.lst f (b.map Zh)]=some (Zbx false (Zcv id b),G,{}):=by
 obtain⟨h1,h2⟩:=ZDP id b hl
 by_cases hk:Zb9 id=6
 ·have h:=h2 hk
  have e:Zcv id b=(⟨id,0,[],[],(ZL b).1⟩,(ZL b).2.1,(ZL b).2.2==0):=by unfold Zcv;rw[hk];rfl
  rw[e,Zg4 (by kernel_rfl) rfl]
  have hm:[AVal.int .i64 id,.lst f (b.map Zh)].map Z1=[AVal.int .i64 id,Z4 b]:=rfl
  rw[hm,h]
  simp[ZV,ZbR,viewR,viewAs,Z3,Zae,ZN,ZZ,Zv,gcA,Zw,Zt,Zl,ZH,Zj,Zp,Zo,Zaz,ZbC,Za2,ZaJ,Zbx]
  exact XG (by simp)
 ·exact Zct (h1 hk) (by kernel_rfl) rfl rfl rfl (fun _=>rfl) _ _ _
end
section
def Zow(b:Bool):AVal:=.tup [.agg [.int .i64 0,.int .i64 0,.str [],.str [],.lst b []],.bool false]
theorem Zpo(l:Zd):kOk 1 (l.map Zh)=true:=by cases l<;>rfl
theorem Zz1(l:Zd)(h:l.length<=140737488355328):E 97 [.lst false (l.map Zh)] []=some (.sl 0 0 0 (l.map Zh).length,[.row 0 1 (l.map Zh)]):=by
 refine ZdD.2 ⟨1,?_⟩
 show ZkY 1 1 [.lst false (l.map Zh)] []=_
 have h1:(l.map Zh).length*1<=140737488355328/\kOk 1 (l.map Zh)=true:=⟨by grind,Zpo l⟩
 simp only[ZkY,ZZ]
 grind
theorem ZCh(G:Za)(sq own:Nat)(l:Zd)(h:l.length<=140737488355328):Zq E BY G sq 97 own true [.lst false (l.map Zh)]=some (.lst false (l.map Zh),G,{}) :=
 ZCJ (bf:=BY) (Zz1 l h) rfl rfl rfl G sq own
theorem ZCN(p:ZO)(h:p.data.length<=140737488355328):E 145 [Zu p] []=some (Zu p,[]):=by
 have hC:=fun G sq own=>ZCh G sq own p.data h
 rw[Zg (by rfl) ZAX]
 simp -implicitDefEqProofs only[EQA,Zs,ZE,Zc,Xd,Xc,Xf,Xa,Xg,↓reduceIte,Ze,ZQB,Zrv,ZKs,Zb,Z4,Zu,Zcw,hC]
theorem ZDg(G:Za)(sq own:Nat)(p:ZO)(h:p.data.length<=140737488355328):Zq E BY G sq 145 own true [.agg [.int .i64 p.id,.int .i64 p.num,.str p.text,.str p.pair,.lst false (p.data.map Zh)]]=some (.agg [.int .i64 p.id,.int .i64 p.num,.str p.text,.str p.pair,.lst false (p.data.map Zh)],G,{}) :=
 ZdI (ZCN p h) (by kernel_rfl) (by simp -implicitDefEqProofs only[Zem,ZbW,eq_self,Z4,Zu,Zcw]) (by simp -implicitDefEqProofs only[ZE,ZbW,eq_self,Z4,Zu,Zcw]) rfl (fun _=>rfl) _ _ _ _
def Zfm(id:Int):List ZO->AVal
 | []=>Zow true
 |p::r=>if p.id==id then .tup [Zu p,.bool true]else Zfm id r
theorem Zzs(l:List ZO)(hl:l.length<=9223372036854775807)(hd:∀ p∈l,p.data.length<=140737488355328)(id:Int):∀ (r:List ZO) (i:Nat),l.drop i=r ->
  ZlT 0 [(10,.int .i64 i),(9,.int .i64 l.length),(8,.lst false (l.map Zu)),(4,.ref 0 0),(0,.int .i64 id)] [.var [.int .i64 0,.int .i64 0,.str [],.str [],.lst true []]]=some (Zfm id r,[])
 | [],i,h=>by
  have h1:=Zep h
  unfold ZlT
  rw[Z9,Zfm]
  simp -implicitDefEqProofs only[EQA,Zs,Zc,Xd,Xc,Xf,Xa,reduceCtorEq,↓reduceIte,Ze,Zz5,ZJK,Zt7,ZrD,Zkj,Zb,h1,Zow,Zao,AVal.cells]
 |p::r,i,h=>by
  have ih:=Zzs l hl hd id r (i+1) (Zar h).2.1
  have h1:(i:Int)<l.length:=by have:=(Zar h).2.2;omega
  have e1:=iad (Zar h).1 Zu (k:=5) rfl
  have e3:=Zd1 h1 hl
  have hC:=fun G sq own=>ZDg G sq own p (hd p (XL (Zar h).1))
  unfold ZlT at ih ⊢
  rw[Z9,Zfm]
  cases hb:(p.id==id)
  ·simp -implicitDefEqProofs only[EQA,Zs,ZE,Zc,ZT,ZbH,Xd,Xc,Xf,Xa,Xg,reduceCtorEq,↓reduceIte,gcT,gcA,Zw,Zt,Zn,Zo,ZI,Zm,ZD,Zz,ZB,ZrD,Zkj,Zb,Z4,Zu,Zcw,h1,e1,e3,hb]
   exact ih
  ·simp -implicitDefEqProofs only[EQA,Zs,ZE,Zc,Xd,Xc,Xf,Xa,Xg,reduceCtorEq,↓reduceIte,Ze,Zz5,ZrD,Zkj,Zb,Z4,Zu,Zcw,h1,e1,hb,hC]
theorem ZFr(l:List ZO)(hl:l.length<=9223372036854775807)(hd:∀ p∈l,p.data.length<=140737488355328)(id:Int):E 135 [.int .i64 id,ZbI l] []=some (Zfm id l,[]):=by
 have:=Zzs l hl hd id l 0 rfl
 have z0:((0:Nat):Int)=0:=rfl
 rw[z0]at this
 unfold ZlT at this
 rw[Zg (by rfl) ZBU]
 simp -implicitDefEqProofs only[EQA,Zc,ZT,ZbH,Xc,Xa,Xg,reduceCtorEq,↓reduceIte,gcT,gcA,Zw,Zt,Zn,Zo,ZI,Zm,ZD,Zz,ZB,ZTW,ZtW,Zb,ZbI]
 exact this
def ZdB(id:Int)(l:List ZO):Option ZO:=l.find? (fun p=>p.id==id)
def ZiX(b:Bool):Option ZO->AVal
 |none=>Zow b
 |some p=>.tup [Zu p,.bool true]
theorem Znt(id:Int):∀ l:List ZO,Zfm id l=ZiX true (ZdB id l)
 | []=>rfl
 |p::r=>by
  have ih:=Znt id r
  unfold ZdB at ih ⊢
  rw[Zfm,List.find?_cons]
  cases h:(p.id==id)
  ·grind
  ·rfl
theorem ZPO(G:Za)(sq own:Nat)(l:List ZO)(hl:l.length<=9223372036854775807)(hd:∀ p∈l,p.data.length<=140737488355328)(id:Int):Zq E BY G sq 135 own true [.int .i64 id,.lst false (l.map Zu)]=some (ZiX false (ZdB id l),G,{}):=by
 have h:=ZFr l hl hd id
 rw[Znt]at h
 cases hf:ZdB id l with
 |none=>rw[hf]at h;exact Zct h (by kernel_rfl) rfl rfl rfl (fun _=>rfl) G sq own
 |some p =>
  rw[hf]at h
  exact Zct h (by kernel_rfl) rfl rfl rfl (fun _=>rfl) G sq own
theorem ZxL(l:List ZO)(hl:l.length<=9223372036854775807)(id:Int):∀ (r:List ZO) (i:Nat),l.drop i=r ->
  Zl4 0 [(6,.int .i64 i),(4,.ref 0 0),(1,.lst false (l.map Zu)),(0,.int .i64 id)] [.var [.int .i64 0,.int .i64 0,.str [],.str [],.lst true []]]=some (Zfm id r,[])
 | [],i,h=>by
  have h1:=Zep h
  unfold Zl4
  rw[Z9,Zfm]
  simp -implicitDefEqProofs only[EQA,Zs,Zc,Xd,Xc,Xf,Xa,reduceCtorEq,↓reduceIte,Ze,Zva,ZOq,Zrg,Zrr,Zly,Zb,h1,Zow,Zao,AVal.cells]
 |p::r,i,h=>by
  have ih:=ZxL l hl id r (i+1) (Zar h).2.1
  have h1:(i:Int)<l.length:=by have:=(Zar h).2.2;omega
  have e1:=iad (Zar h).1 Zu (k:=5) rfl
  have e3:=Zd1 h1 hl
  unfold Zl4 at ih ⊢
  rw[Z9,Zfm]
  cases hb:(p.id==id)
  ·simp -implicitDefEqProofs only[EQA,ZE,Zc,ZT,ZbH,Xc,Xa,reduceCtorEq,↓reduceIte,gcT,gcA,Zw,Zt,Zn,Zo,ZI,Zm,ZD,Zz,ZB,Zrr,Zly,Zb,Z4,Zu,Zcw,h1,e1,e3,hb]
   exact ih
  ·simp -implicitDefEqProofs only[EQA,Zs,ZE,Zc,Xd,Xc,Xf,Xa,reduceCtorEq,↓reduceIte,Ze,Zva,Zrr,Zly,Zb,Z4,Zu,Zcw,h1,e1,hb]
theorem ZxJ(l:List ZO)(hl:l.length<=9223372036854775807)(id:Int):E 123 [.int .i64 id,ZbI l] []=some (Zfm id l,[]):=by
 have:=ZxL l hl id l 0 rfl
 have z0:((0:Nat):Int)=0:=rfl
 rw[z0]at this
 unfold Zl4 at this
 rw[Zg (by rfl) ZJm]
 simp -implicitDefEqProofs only[EQA,Zc,ZT,ZbH,Xc,Xa,Xg,reduceCtorEq,↓reduceIte,gcT,gcA,Zw,Zt,Zn,Zo,ZI,Zm,ZD,Zz,ZB,ZUl,Zqq,Zb,ZbI]
 exact this
def Zfq:ZO:=⟨0,0,[],[],[]⟩
theorem ZlI(o:Option ZO):ZiX false o=.tup [.agg [.int .i64 (o.getD Zfq).id,.int .i64 (o.getD Zfq).num,.str (o.getD Zfq).text,.str (o.getD Zfq).pair,.lst false ((o.getD Zfq).data.map Zh)],.bool o.isSome]:=by
 cases o<;>rfl
end
section
def ZdQ(id w:Int):Bool:=id==38 ||(id==11&&w==3)
def ZgK(id num:Int):Bool:=if id==11 ||id==33 ||id==35 ||id==39 then num != 0 else Zb9 id != 1 ||decide (num<=1)
def ZgP(id num:Int):Int:=if ZgK id num then 0 else if id==35 then 148 else 130
theorem ZA0(id w:Int):E 136 [.int .i64 id,.int .i64 w] []=some (.bool (ZdQ id w),[]):=by
 rw[Zg (by rfl) ZNk]
 unfold ZdQ
 cases h1:(id==38)<;>cases h2:(id==11)
 all_goals simp -implicitDefEqProofs only[EQA,Zc,Xc,Xa,Zy,Z6,unG,reduceCtorEq,↓reduceIte,ZCQ,Zq3,ZQh,Zb,h1,h2]
theorem ZOp(G:Za)(sq own:Nat)(id w:Int):Zq E BY G sq 136 own true [.int .i64 id,.int .i64 w]=some (.bool (ZdQ id w),G,{}) :=
 Zct (ZA0 id w) (by kernel_rfl) rfl rfl rfl (fun _=>rfl) _ _ _
theorem ZK5(p:ZO):E 137 [Zu p] []=some (.bool (ZgK p.id p.num),[]):=by
 have hC:=fun G sq own=>ZoG G sq own p.id
 rw[Zg (by rfl) ZBB]
 unfold ZgK
 cases h1:(p.id==11)<;>cases h2:(p.id==33)<;>cases h3:(p.id==35)<;>cases h4:(p.id==39)
 all_goals simp -implicitDefEqProofs only[EQA,ZE,Zc,ZT,ZCf,Zdk,Xc,Xa,Xg,Zy,Z6,unG,ite_self,↓reduceIte,ZMh,Zo8,ZSA,Zb,Z4,Zu,Zcw,hC,h1,h2,h3,h4]
theorem ZOd(G:Za)(sq own:Nat)(p:ZO):Zq E BY G sq 137 own true [.agg [.int .i64 p.id,.int .i64 p.num,.str p.text,.str p.pair,.lst false (p.data.map Zh)]]=some (.bool (ZgK p.id p.num),G,{}) :=
 Zct (ZK5 p) (by kernel_rfl) rfl rfl rfl (fun _=>rfl) _ _ _
theorem ZFm (id n : Int) : E 124 [.int .i64 id, .int .i64 n] [] = some (.int .i64 (ZgP id n), []) := by
  have g1 : n > 1 -> (n == 0) = false := fun h => by simp; omega
  by_cases h : Zfa id
  . rcases h with rfl | rfl | rfl | rfl | rfl | rfl | rfl | rfl | rfl | rfl | rfl | rfl | rfl | rfl | rfl | rfl | rfl | rfl | rfl | rfl | rfl | rfl | rfl | rfl | rfl | rfl | rfl
    all_goals rw [Zg (by rfl) ZwV]
    all_goals (by_cases h1 : n > 1 <;> cases h0 : (n == 0))
    all_goals first
      | (exact absurd (g1 h1) (by grind))
      | (simp -implicitDefEqProofs only [EQA,Zc,Xc,Xa,reduceCtorEq,↓reduceIte,ZuE,Zky,ZtN,Zb,h1,h0,Xj]
         done)
      | (simp -implicitDefEqProofs only [EQA,Zc,Xc,Xa,reduceCtorEq,↓reduceIte,ZuE,Zky,ZtN,Zb,h1,h0,Xj]
         have h2 : (n <= 1) = ¬ (n > 1) := by simp
         have h3 : (n != 0) = !(n == 0) := rfl
         simp [ZgP, ZgK, Zb9, ofF, ZsW, List.lookup, h1, h0, h2, h3])
  . obtain ⟨h1, h2, h3, h8, h9, h11, h17, h18, h26, h19, h21, h22, h23, h25, h24, h28, h31, h33, h34, h35, h39, h36, h37, h40, h41, h42, h38⟩ := Zj1 h
    have e : ZgP id n = 0 := by simp [ZgP, ZgK, Zb9, Zk1 h, h11, h33, h35, h39]
    rw [e, Zg (by rfl) ZwV]
    simp -implicitDefEqProofs only [EQA,Zc,Xc,Xa,reduceCtorEq,↓reduceIte,ZuE,Zky,ZtN,Zb,h1,h11,h23,h25,h33,h35,h39,h36,h37,h40,h41,h42]
end
section
theorem Zx0:∀ (b:Zd) (i n:Nat),(gvA i n b).2.2=0->i<(gvA i n b).2.1/\(gvA i n b).2.1<=i+b.length
 | [],i,n,h=>by
  unfold gvA at h
  split at h<;>simp at h
 |c::r,i,n,h=>by
  unfold gvA at h⊢
  split at h
  ·simp at h
  ·rename_i h4
   rw[if_neg h4]
   split at h
   ·grind
   ·rename_i hc
    rw[if_neg hc]
    have:=Zx0 r (i+1) _ h
    simp only[Xz]
    omega
theorem Zkw(b:Zd)(h:(Zas b).2.2=0):0<(Zas b).2.1/\(Zas b).2.1<=b.length:=by
 have:=Zx0 b 0 0 h
 simpa[Zas]using this
theorem Zzp(id:Int)(b:Zd):(Zcv id b).1.id=id:=by
 unfold Zcv Zel ZfK Zhn
 grind
theorem Zw6(id:Int)(b:Zd):(Zcv id b).1.data.length<=b.length:=by
 unfold Zcv Zel ZfK Zhn
 repeat' split
 all_goals first
  |exact(Zg0 b).2
  |exact Nat.zero_le _
theorem Zxc:∀ (b:Zd) (i n:Nat),(gvA i n b).2.1<=i+b.length
 | [],i,n=>by unfold gvA;split<;>simp
 |c::r,i,n=>by
  unfold gvA
  repeat' split
  all_goals simp only[Xz]
  all_goals first
   |omega
   |(have:=Zxc r (i+1) (n+c.toNat%128*128^i);omega)
theorem Zuk(b:Zd):(Zas b).2.1<=b.length:=by simpa[Zas]using Zxc b 0 0
theorem Zuo(id:Int)(b:Zd):(Zcv id b).2.1<=b.length:=by
 have h1:=(Zgp b).1
 have h2:=(Zgp (b.drop (ZU b).2.1)).1
 have h3:=Zuk b
 have h4:=(Zg0 b).1
 simp only[Wt]at h2
 unfold Zcv Zel ZfK Zhn
 grind
def Zdz(w:Int)(l:List ZO)(id:Int)(u:Nat)(v:ZO×Nat×Bool):ZO×Nat×Int :=
 if v.2.2=false then(v.1,0,129)else if((ZdB id l).isSome && !ZdQ id w)=true then(v.1,0,130)else
 if ZgK v.1.id v.1.num=true then(v.1,u+v.2.1,0)else if(id==35)=true then(v.1,0,148)else(v.1,0,130)
def Zci(w:Int)(b:Zd)(l:List ZO):ZO×Nat×Int :=
 if(Zas b).2.2≠0\/Z0 ((Zas b).1:Nat) w=false then(Zfq,0,129)
 else Zdz w l ((Zas b).1:Nat) (Zas b).2.1 (Zcv ((Zas b).1:Nat) (b.drop (Zas b).2.1))
def Zd4(f:Bool)(x:ZO×Nat×Int):AVal:=.tup [.agg [.int .i64 x.1.id,.int .i64 x.1.num,.str x.1.text,.str x.1.pair,.lst f (x.1.data.map Zh)],.int .i64 (x.2.1:Nat),.int .i64 x.2.2]
theorem Zu1(w:Int)(b:Zd)(l:List ZO)(hl:b.length<=140737488355328)(hl2:l.length<=9223372036854775807)(hd:∀ p∈l,p.data.length<=140737488355328):∃ f,E 116 [.int .i64 w,.lnt b,ZbI l] []=some (Zd4 f (Zci w b l),[]):=by
 have hGV:=fun G sq own=>Zpy G sq own b (by omega)
 have hu:=Zkw b
 unfold Zci
 rcases hx:Zas b with⟨n,u,e⟩
 rw[hx]at hGV hu
 unfold gvT at hGV
 simp only at hGV hu ⊢
 have hM:=fun G sq own=>ZSx G sq own (n:Int) w
 by_cases he:e=0
 ·subst he
  have n0:((0:Int) != 0)=false:=rfl
  cases hm:Z0 (n:Int) w
  ·refine⟨true,?_⟩
   rw[hm]at hM
   have hc:(0:Int)≠0\/false=false:=Xt rfl
   rw[if_pos hc,Zg (by rfl) Zhk]
   unfold Zd4 Zfq
   simp -implicitDefEqProofs only[EQA,Zs,Zc,Xd,Xc,Xf,Xa,Xg,unA,Zy,unG,reduceCtorEq,↓reduceIte,Ze,Zhv,Zfy,Zhg,Zb,ZbI,hGV,hM,n0,AVal.cells]
   rfl
  ·refine⟨false,?_⟩
   rw[hm]at hM
   have hc:¬((0:Int)≠0\/true=false):=by simp
   rw[if_neg hc]
   have hul:=(hu rfl).2
   have hs:=fun G kk=>ZfC G b kk ((u:Nat):Int) (by omega) (by omega)
   have e2:(((u:Nat):Int)).toNat=u:=rfl
   rw[e2]at hs
   have hV:=fun G sq own=>ZDj G sq own (n:Int) (b.drop u) (by simp;omega)
   have hF:=fun G sq own=>ZPO G sq own l hl2 hd (n:Int)
   have hO:=fun G sq own=>ZOp G sq own (n:Int) w
   have hid:=Zzp (n:Int) (b.drop u)
   have hused:(Zcv (n:Int) (b.drop u)).2.1<=b.length:=Nat.le_trans (Zuo _ _) (by simp)
   have hT:=fun G sq own=>ZOd G sq own (Zcv (n:Int) (b.drop u)).1
   unfold Zbx at hV
   simp only[ZlI]at hF
   unfold Zdz
   generalize Zcv (n:Int) (b.drop u)=v at *
   obtain⟨p,m,ok⟩:=v
   simp only at hV hT hid hused ⊢
   have hw:IntKind.i64.wrap ((u:Int)+(m:Int))=((u+m:Nat):Int):=by
    rw[ZaE (by omega) (by omega)];rfl
   generalize (ZdB (n:Int) l).getD Zfq=q at *
   cases ok
   ·rw[Zg (by rfl) Zhk]
    unfold Zd4
    simp -implicitDefEqProofs only[EQA,Zs,Zc,Xd,Xc,Xf,Xa,Xg,unA,Zy,unG,reduceCtorEq,↓reduceIte,Ze,Zhv,Zfy,Zhg,Zb,ZbI,hGV,hM,hs,hV,hF,n0,AVal.cells]
    rfl
   ·cases h1:(ZdB (n:Int) l).isSome<;>rw[h1]at hF
    ·cases h3:ZgK p.id p.num<;>rw[h3]at hT
     ·cases h4:((n:Int)==35)
      all_goals rw[Zg (by rfl) Zhk]
      all_goals unfold Zd4
      all_goals simp -implicitDefEqProofs only[EQA,Zs,Zc,Xd,Xc,Xf,Xa,Xg,unA,Zy,Z6,unG,reduceCtorEq,↓reduceIte,Ze,Zhv,Zfy,Zhg,Zb,ZbI,hGV,hM,hs,hV,hF,hT,h4,n0,AVal.cells]
      all_goals rfl
     ·rw[Zg (by rfl) Zhk]
      unfold Zd4
      simp -implicitDefEqProofs only[EQA,Zs,Zc,Xd,Xc,Xf,Xa,Xg,unA,Zy,Z6,unG,reduceCtorEq,↓reduceIte,Ze,Zhv,Zfy,Zhg,Zb,ZbI,hGV,hM,hs,hV,hF,hT,hw,n0,AVal.cells]
    ·cases h2:ZdQ (n:Int) w<;>rw[h2]at hO
     ·rw[Zg (by rfl) Zhk]
      unfold Zd4
      simp -implicitDefEqProofs only[EQA,Zs,Zc,Xd,Xc,Xf,Xa,Xg,unA,Zy,unG,reduceCtorEq,↓reduceIte,Ze,Zhv,Zfy,Zhg,Zb,ZbI,hGV,hM,hs,hV,hF,hO,n0,AVal.cells]
      rfl
     ·cases h3:ZgK p.id p.num<;>rw[h3]at hT
      ·cases h4:((n:Int)==35)
       all_goals rw[Zg (by rfl) Zhk]
       all_goals unfold Zd4
       all_goals simp -implicitDefEqProofs only[EQA,Zs,Zc,Xd,Xc,Xf,Xa,Xg,unA,Zy,unG,reduceCtorEq,↓reduceIte,Ze,Zhv,Zfy,Zhg,Zb,ZbI,hGV,hM,hs,hV,hF,hT,hO,h4,n0,AVal.cells]
       all_goals rfl
      ·rw[Zg (by rfl) Zhk]
       unfold Zd4
       simp -implicitDefEqProofs only[EQA,Zs,Zc,Xd,Xc,Xf,Xa,Xg,unA,Zy,unG,reduceCtorEq,↓reduceIte,Ze,Zhv,Zfy,Zhg,Zb,ZbI,hGV,hM,hs,hV,hF,hT,hO,hw,n0,AVal.cells]
 ·refine⟨true,?_⟩
  have hc:e≠0\/Z0 (n:Int) w=false:=Xq he
  have n1:(e != 0)=true:=by simpa using he
  rw[if_pos hc,Zg (by rfl) Zhk]
  unfold Zd4 Zfq
  simp -implicitDefEqProofs only[EQA,Zs,Zc,Xd,Xc,Xf,Xa,Xg,Zy,Z6,reduceCtorEq,↓reduceIte,Ze,Zhv,Zfy,Zhg,Zb,ZbI,hGV,n1,AVal.cells]
  rfl
end
section
def ZdR(w:Int):Nat->Zd->List ZO->List ZO×Int
 |_,[],l=>(l,0)
 |0,_::_,_=>([],129)
 |n+1,c::r,l=>if(Zci w (c::r) l).2.2=0 then ZdR w n ((c::r).drop (Zci w (c::r) l).2.1) (l++[(Zci w (c::r) l).1])else([],(Zci w (c::r) l).2.2)
def Zab(w:Int)(b:Zd):List ZO×Nat×Int :=
 if(Zas b).2.2≠0\/((Zas b).1:Int)>(b.length:Int)-((Zas b).2.1:Nat)then([],0,129)
 else if(ZdR w (Zas b).1 ((b.take ((Zas b).2.1+(Zas b).1)).drop (Zas b).2.1) []).2=0 then
  ((ZdR w (Zas b).1 ((b.take ((Zas b).2.1+(Zas b).1)).drop (Zas b).2.1) []).1,(Zas b).2.1+(Zas b).1,0)
 else([],0,(ZdR w (Zas b).1 ((b.take ((Zas b).2.1+(Zas b).1)).drop (Zas b).2.1) []).2)
def Zdl(u:Nat)(x:List ZO×Int):AVal×Za:=if x.2=0 then(.tup [ZeA (x.1.map Zu),.int .i64 (u:Nat),.int .i64 0],ZeS 5 (x.1.map Zu))else(.tup [.lst true [],.int .i64 0,.int .i64 x.2],[])
theorem ZqW{w:Int}{b:Zd}{l:List ZO}(h:(Zci w b l).2.2=0):0<(Zci w b l).2.1/\(Zci w b l).2.1<=b.length/\(Zci w b l).1.data.length<=b.length:=by
 unfold Zci at h⊢
 split at h
 ·simp at h
 ·rename_i hc
  rw[if_neg hc]
  have hc0:(Zas b).2.2=0:=Decidable.byContradiction fun h=>hc (Xq h)
  have h1:=Zkw b hc0
  have h2:=Zuo ((Zas b).1:Nat) (b.drop (Zas b).2.1)
  have h3:=Zw6 ((Zas b).1:Nat) (b.drop (Zas b).2.1)
  simp only[Wt]at h2 h3
  unfold Zdz at h⊢
  grind
theorem ZcT{xs:List AVal}(h:0<xs.length):ZeA xs=.sl 0 0 0 xs.length:=by
 cases xs with
 |nil=>simp at h
 |cons x xs=>rfl
theorem ZcU{k:Nat}{xs:List AVal}(h:0<xs.length):ZeS k xs=[.row 0 k xs]:=by
 cases xs with
 |nil=>simp at h
 |cons x xs=>rfl
theorem Zwr(l:List ZO):ZjS (l.map Zu)=true:=by
 unfold ZjS
 rw[Xy]
 intro x hx
 obtain⟨p,_,rfl⟩:=X7.1 hx
 rfl
theorem ZyD(b:Zd):(b.map Zh).all Zl0=true:=by
 rw[Xy]
 intro x hx
 obtain⟨p,_,rfl⟩:=X7.1 hx
 rfl
theorem ZEi(G:Za)(sq own:Nat)(g:Bool)(w:Int)(b:Zd)(l:List ZO)(hl:b.length<=140737488355328)(hl2:l.length<=9223372036854775807)(hd:∀ p∈l,p.data.length<=140737488355328) :
  Zq E BY G sq 116 own true [.int .i64 w,.lnt b,.lst g (l.map Zu)]=some (Zd4 false (Zci w b l),G,{}):=by
 obtain⟨f',h⟩:=Zu1 w b l hl hl2 hd
 exact Zu9 (vs:=[.int .i64 w,.lnt b,ZbI l]) (by kernel_rfl) (by kernel_rfl) (by kernel_rfl) rfl rfl (fun _=>rfl) h (by cases f'<;>rfl) rfl
theorem ZC5(G:Za)(sq own:Nat)(w:Int)(b:Zd)(l:List ZO)(hl:b.length<=140737488355328)(hl2:l.length<=9223372036854775807)(hd:∀ p∈l,p.data.length<=140737488355328) :
  Zq E BY (.row 0 5 (l.map Zu)::G) sq 116 own true [.int .i64 w,.lnt b,.sl 0 0 0 (l.map Zu).length]=some (Zd4 false (Zci w b l),.row 0 5 (l.map Zu)::G,{ rd:=[0] }):=by
 obtain⟨f',h⟩:=Zu1 w b l hl hl2 hd
 refine ZJJ (vs:=[.int .i64 w,.lnt b,ZbI l]) (by kernel_rfl) (by kernel_rfl) (by kernel_rfl) ?_ rfl (fun _=>rfl) h (r':=Zd4 false (Zci w b l)) (by cases f'<;>rfl) ?_
 ·simp[showAs,showA,Zcu,ZZ,ZbI]
  exact XG (by simp)
 ·have h1:=Zwr l
  have h2:=ZyD (Zci w b l).1.data
  unfold Zda
  simp only[WC,Bool.not_false,Zd4,Ziw,Zic,Zij,XW,XX,ZaJ,h2,Zej,XK,h1,XT]
theorem Zrm(w:Int)(n:Nat)(l:List ZO):ZdR w n [] l=(l,0):=by cases n<;>rfl
theorem Zro(w:Int)(n:Nat)(c:UInt8)(r:Zd)(l:List ZO):ZdR w (n+1) (c::r) l=if(Zci w (c::r) l).2.2=0 then ZdR w n ((c::r).drop (Zci w (c::r) l).2.1) (l++[(Zci w (c::r) l).1])else([],(Zci w (c::r) l).2.2):=rfl
theorem ZRW(w:Int)(N U:Nat)(hU:U+N<=140737488355328)(l:List ZO) :
  Zjk 0 [(10,.lnt []),(8,.int .i64 (U:Nat)),(7,.int .i64 (N:Nat)),(4,ZeA (l.map Zu)),(0,.int .i64 w)] (ZeS 5 (l.map Zu))=some (Zdl (U+N) (l,0)):=by
 have hw:IntKind.i64.wrap ((U:Int)+(N:Int))=((U+N:Nat):Int):=by rw[ZaE (by omega) (by omega)];rfl
 have h1:¬(((0:Nat):Int)>0):=by simp
 unfold Zdl Zjk
 rw[Z9]
 cases l with
 |nil =>
  simp -implicitDefEqProofs only[EQA,Zc,Xc,Xa,reduceCtorEq,↓reduceIte,Ze,ZjD,ZxE,Zmz,ZjG,Zhw,Zb,Zc0,ZcW,hw,h1]
  try (simp[ZR,gcA,Zw,Zt,Zl,ZH,Zn,Zo,ZI,Zm,ZD,Zj,Zp,Zz,ZB,Xv])
 |cons p l =>
  generalize hX:(p::l).map Zu=X
  have hpos:0<X.length:=by rw[<-hX];simp
  simp only[ZcT hpos,ZcU hpos]
  simp -implicitDefEqProofs only[EQA,Zc,Xc,Xa,reduceCtorEq,↓reduceIte,ZjD,ZxE,Zmz,ZjG,Zhw,Zb,hw,h1]
  simp[ZR,gcA,Zw,Zt,Zl,ZH,Zn,Zo,ZI,Zm,ZD,Zj,Zp,Zz,ZB]
theorem Zwl(w:Int)(N U:Nat)(hU:U+N<=140737488355328)(hN9:N<=1000000000):∀ (n:Nat) (b:Zd) (l:List ZO),b.length<=n->l.length+b.length<=N->(∀ p∈l,p.data.length<=140737488355328) ->
  Zjk 0 [(10,.lnt b),(8,.int .i64 (U:Nat)),(7,.int .i64 (N:Nat)),(4,ZeA (l.map Zu)),(0,.int .i64 w)] (ZeS 5 (l.map Zu))=some (Zdl (U+N) (ZdR w n b l))
 |n,[],l,hb,hN,hd=>by
  rw[Zrm]
  exact ZRW w N U hU l
 |0,c::r,l,hb,hN,hd=>by simp at hb
 |n+1,c::r,l,hb,hN,hd=>by
  rw[Zro]
  generalize hB:c::r=b at *
  have hlen:0<b.length:=by rw[<-hB];simp
  have hpos:((b.length:Nat):Int)>0:=by omega
  have hC:=fun G sq own g=>ZEi G sq own g w b l (by omega) (by omega) hd
  have hS:=fun G sq own=>ZC5 G sq own w b l (by omega) (by omega) hd
  have hu:=ZqW (w:=w) (b:=b) (l:=l)
  unfold Zd4 at hC hS
  rcases hx:Zci w b l with⟨p,m,e⟩
  rw[hx]at hC hS hu
  simp only at hC hS hu ⊢
  by_cases he:e=0
  ·subst he
   obtain⟨u1,u2,u3⟩:=hu rfl
   have n0:((0:Int) != 0)=false:=rfl
   rw[if_pos rfl]
   have ih:=Zwl w N U hU hN9 n (b.drop m) (l++[p]) (by simp;omega) (by simp;omega) (by
    grind)
   have hs:=fun G kk=>ZfC G b kk ((m:Nat):Int) (by omega) (by omega)
   have e2:(((m:Nat):Int)).toNat=m:=rfl
   rw[e2]at hs
   generalize ZdR w n (b.drop m) (l++[p])=R at *
   unfold Zjk at ih ⊢
   rw[Z9]
   cases l with
   |nil =>
    simp only[XC]at hC
    simp only[Xp,Xu,XC,ZkJ,ZkG,Zc0,ZcW,Xz,Xw,XF,Zu,Zcw,Z4]at ih ⊢
    simp -implicitDefEqProofs only[EQA,Zs,Zc,ZT,ZbH,Xd,Xc,Xf,Xa,Xg,reduceCtorEq,ZZ,↓reduceIte,gcT,gcA,Zw,Zt,Zn,Zo,ZI,Zm,ZD,Zz,ZB,ZjG,Zhw,Zb,hpos,hC,n0,hs,Zan,kOk,viewAs,Z3,ZN,Zae,Zv,Nat.one_mul,AVal.cells]
    exact ih
   |cons a l =>
    have hXl:((a::l).map Zu).length=l.length+1:=by simp
    rw[List.map_append]at ih
    generalize hX:(a::l).map Zu=X at *
    have hXp:0<X.length:=by omega
    have hXq:0<(X++[p].map Zu).length:=by rw[XM];omega
    simp only[ZcT hXp,ZcU hXp,ZcT hXq,ZcU hXq]at ih ⊢
    have hk:kOk 5 X=true:=by rw[<-hX];rfl
    have hb9:(X.length+1)*72<=140737488355328:=by simp at hN;omega
    try simp only[Xu,XC,Zu,Zcw,Z4,XM,Xz,Xw,XF]at ih
    simp -implicitDefEqProofs only[EQA,Zs,Zc,ZT,ZbH,Xd,Xc,Xf,Xa,Xg,reduceCtorEq,ZZ,↓reduceIte,gcT,gcA,Zw,Zt,Zn,Zo,ZI,Zm,ZD,Zz,ZB,ZjG,Zhw,Zb,hpos,hS,n0,hs,hb9,Zan,kOk,viewAs,Z3,ZN,Zae,Zv,AVal.cells]
    exact ih
  ·have n1:(e != 0)=true:=by simpa using he
   rw[if_neg he]
   unfold Zdl Zjk
   simp only
   rw[if_neg he,Z9]
   cases l with
   |nil =>
    simp only[XC,Zc0,ZcW]at hC ⊢
    simp -implicitDefEqProofs only[EQA,Zs,Zc,Xd,Xc,Xf,Xa,Xg,reduceCtorEq,↓reduceIte,Ze,ZjD,ZjG,Zhw,Zb,hpos,hC,n1,AVal.cells]
    try (simp[ZR,gcA,Zw,Zt,Zl,ZH,Zn,Zo,ZI,Zm,ZD,Zj,Zp,Zz,ZB,Xv])
   |cons a l =>
    generalize hX:(a::l).map Zu=X at *
    have hXp:0<X.length:=by rw[<-hX];simp
    simp only[ZcT hXp,ZcU hXp]
    simp -implicitDefEqProofs only[EQA,Zs,Zc,Xd,Xc,Xf,Xa,Xg,reduceCtorEq,↓reduceIte,Ze,ZjD,ZjG,Zhw,Zb,hpos,hS,n1,AVal.cells]
    try (simp[ZR,gcA,Zw,Zt,Zl,ZH,Zn,Zo,ZI,Zm,ZD,Zj,Zp,Zz,ZB,Xv])
theorem ZvB:∀ (b:Zd) (i n:Nat),i<=4->n<128^i->(gvA i n b).1<268435456
 | [],i,n,hi,hn=>by unfold gvA;split<;>simp
 |c::r,i,n,hi,hn=>by
  have ha:c.toNat%128<128:=Xbe _ (by decide)
  unfold gvA
  split
  ·simp
  ·rename_i h4
   have hb:=ZqA n i _ hn ha
   have hp:128^(i+1)<=128^4:=W9 (by decide) (by omega)
   split
   ·grind
   ·exact ZvB r (i+1) _ (by omega) hb
theorem ZrF(b:Zd):(Zas b).1<268435456:=ZvB b 0 0 (by omega) (by simp)
def Zl8(x:List ZO×Nat×Int):AVal×Za:=(.tup [ZeA (x.1.map Zu),.int .i64 (x.2.1:Nat),.int .i64 x.2.2],ZeS 5 (x.1.map Zu))
theorem ZR9(w:Int)(b:Zd)(hl:b.length<=140737488355328):E 96 [.int .i64 w,.lnt b] []=some (Zl8 (Zab w b)):=by
 have hGV:=fun G sq own=>Zpy G sq own b (by omega)
 have hu:=Zkw b
 have hlt:=ZrF b
 have hle:=Zuk b
 unfold Zab Zl8
 rcases hx:Zas b with⟨n,u,e⟩
 rw[hx]at hGV hu hlt hle
 unfold gvT at hGV
 simp only at hGV hu hlt hle ⊢
 have hw:IntKind.i64.wrap ((b.length:Int)-(u:Int))=(b.length:Int)-(u:Int):=ZaE (by omega) (by omega)
 by_cases he:e=0
 ·subst he
  have n0:((0:Int) != 0)=false:=rfl
  by_cases hn:(n:Int)>(b.length:Int)-(u:Int)
  ·rw[if_pos (Xt hn),Zg (by rfl) ZpP]
   simp -implicitDefEqProofs only[EQA,Zc,Xc,Xa,Zy,unG,reduceCtorEq,↓reduceIte,Ze,Zqv,ZkX,ZjD,Zb,hGV,n0,hw,hn]
   simp[]
   exact⟨rfl,rfl⟩
  ·have hc:¬((0:Int)≠0\/(n:Int)>(b.length:Int)-(u:Int)):=by simpa using hn
   rw[if_neg hc,Zg (by rfl) ZpP]
   have hw2:IntKind.i64.wrap ((u:Int)+(n:Int))=((u+n:Nat):Int):=by rw[ZaE (by omega) (by omega)];rfl
   have hs:=fun G k1 k2=>ZLu G b k1 k2 ((u:Nat):Int) ((u+n:Nat):Int) (by omega) (by omega) (by omega)
   have e1:(((u:Nat):Int)).toNat=u:=rfl
   have e2:(((u+n:Nat):Int)).toNat=u+n:=rfl
   rw[e1,e2]at hs
   have key:=Zwl w n u (by omega) (by omega) n ((b.take (u+n)).drop u) [] (by simp;omega) (by simp;omega) (by simp)
   generalize (b.take (u+n)).drop u=B at *
   unfold Zjk at key
   simp only[XC,Zc0,ZcW]at key
   simp -implicitDefEqProofs only[EQA,Zc,ZT,Xc,Xa,Zy,unG,reduceCtorEq,↓reduceIte,gcT,gcA,Zw,Zt,Zo,ZB,Zqv,ZkX,Zb,hGV,n0,hw,hn,hw2,hs]
   rw[key]
   unfold Zdl
   split<;>rfl
 ·have n1:(e != 0)=true:=by simpa using he
  rw[if_pos (Xq he),Zg (by rfl) ZpP]
  simp -implicitDefEqProofs only[EQA,Zc,Xc,Xa,Zy,Z6,reduceCtorEq,↓reduceIte,Ze,Zqv,ZkX,ZjD,Zb,hGV,n1]
  simp[]
  exact⟨rfl,rfl⟩
theorem ZIA{G:Za}{x:AVal}(h:ZaJ x=true):Z3 G x=some (x,[])/\ZH x=[]/\∀ C,Zp C x=x:=by
 cases x<;>simp[ZaJ]at h<;>simp[Z3,ZN,ZH,Zp]
theorem ZjV{G:Za}:∀ {vs:List AVal},vs.all ZaJ=true->viewAs G vs=some (vs,[])/\Zl vs=[]/\∀ C,Zj C vs=vs
 | [],_=>⟨rfl,rfl,fun _=>rfl⟩
 |x::xs,h=>by
  simp only[XW,Xk]at h
  obtain⟨a1,a2,a3⟩:=ZIA (G:=G) h.1
  obtain⟨b1,b2,b3⟩:=ZjV (G:=G) h.2
  refine⟨by simp only[viewAs,a1,b1,Xr],by simp only[Zl,a2,b2,Xr],fun C=>by simp only[Zj,a3,b3]⟩
theorem Zyk{k:Nat}{full vs:List AVal}(hv:vs.all ZaJ=true):ZV true 0 (some (.tup (ZeA full::vs),ZeS k full))=some (.tup (.lst false full::vs),[]):=by
 unfold ZV
 rw[if_pos rfl]
 cases full with
 |nil =>
  obtain⟨b1,b2,b3⟩:=ZjV (G:=[]) hv
  simp[Zc0,ZcW,ZbR,viewR,viewAs,Z3,ZN,b1,Zv,gcA,Zw,Zt,Zl,ZH,b2,Zj,Zp,b3,Zo]
 |cons x xs =>
  obtain⟨b1,b2,b3⟩:=ZjV (G:=[ZP.row 0 k (x::xs)]) hv
  simp only[ZkJ,ZkG]
  generalize x::xs=X at *
  simp[ZbR,viewR,viewAs,Z3,ZN,ZZ,b1,Zv,gcA,Zw,Zt,Zl,ZH,b2,Zj,Zp,b3,Zo]
theorem ZNf{O:ZS}{bf:Nat->Bool}{f k:Nat}{args args':List AVal}{full vs:List AVal}(h:O f args' []=some (.tup (ZeA full::vs),ZeS k full))(hv:vs.all ZaJ=true)(hb:bf f=false)(hp:args.all Zai=true)(hn:args.map Z1=args')(G:Za)(sq own:Nat):Zq O bf G sq f own true args=some (.tup (.lst false full::vs),G,{}):=by
 have hr:∀ sq,Zp (Zak [] [] sq) (.tup (.lst false full::vs))=.tup (.lst false full::vs):=fun sq=>by
  simp only[Zp,Zj,(ZjV (G:=[]) hv).2.2]
 rw[Zg4 hb hp,hn,h,Zyk hv,ZfJ _ _ _ _ (hr sq)]
theorem ZMq{O:ZS}{bf:Nat->Bool}{f k:Nat}{args:List AVal}{full vs:List AVal}(h:O f args []=some (.tup (ZeA full::vs),ZeS k full))(hv:vs.all ZaJ=true)(hb:bf f=true)(hno:args.any Zig=false)(h3:bf (f+3000000)=false)(hr:Zl args=[])(hn:∀ C:Rho,Zj C args=args)(G:Za)(sq own:Nat):Zq O bf G sq f own true args=some (.tup (.lst false full::vs),G,{}) :=
 Zwd hb hno h3 hr hn h (Zyk hv) (by simp only[Zp,Zj,(ZjV (G:=[]) hv).2.2])
theorem Zz2(G:Za)(sq own:Nat)(w:Int)(b:Zd)(hl:b.length<=140737488355328):Zq E BY G sq 96 own true [.int .i64 w,.lnt b]=some (.tup [.lst false ((Zab w b).1.map Zu),.int .i64 ((Zab w b).2.1:Nat),.int .i64 (Zab w b).2.2],G,{}) :=
 ZMq (k:=5) (ZR9 w b hl) rfl (by kernel_rfl) rfl (by kernel_rfl) rfl (fun _=>rfl) _ _ _
end
section
end
section
structure ZVs where
 b:Zd
 short:Bool
def Ze0(b:Zd):Int:=IntKind.i64.wrap (Zcj b:Int)
end
section
def ZaZ:Zf:=by apply Zb 26 [] [];conv=>lhs;reduce;dsimp only[zi]
def Zr6:ZM:=⟨[],ZaZ⟩
theorem Za3:FC 26=some Zr6:=by kernel_rfl
theorem Za4:Zr6.body=ZaZ:=rfl
theorem Zek:Zr6.res=[]:=rfl
def Zev:Zf:=by apply Zb 62 [] [];conv=>lhs;reduce;dsimp only[zi]
def ZOT:ZM:=⟨[],Zev⟩
theorem Zl6:FC 62=some ZOT:=by kernel_rfl
def Zee:Zf:=by apply Zb 64 [] [];conv=>lhs;reduce;dsimp only[zi]
def ZMb:ZM:=⟨[],Zee⟩
theorem ZmK:FC 64=some ZMb:=by kernel_rfl
def ZfQ:Zf:=by apply Zb 55 [] [];conv=>lhs;reduce;dsimp only[zi]
def Zpb:ZM:=⟨[(.tmp 2)],ZfQ⟩
theorem ZhD:FC 55=some Zpb:=by kernel_rfl
theorem Zhq:Zpb.body=ZfQ:=rfl
theorem ZyN:Zpb.res=[(.tmp 2)]:=rfl
def ZqM:Zf:=by apply Zb 53 [] [];conv=>lhs;reduce;simp only[zi,zb]
def Zqe:ZM:=⟨[],ZqM⟩
theorem Zxo:FC 53=some Zqe:=by kernel_rfl
def Zjt:Zf:=by apply Zb 94 [] [];conv=>lhs;reduce;dsimp only[zi]
def ZpY:ZM:=⟨[(.tmp 2)],Zjt⟩
theorem ZoE:FC 94=some ZpY:=by kernel_rfl
theorem Zmx:ZpY.body=Zjt:=rfl
theorem Zyu:ZpY.res=[(.tmp 2)]:=rfl
def ZgG:Zf:=by apply Zb 25 [] [];conv=>lhs;reduce;dsimp only[zi]
def Zry:ZM:=⟨[],ZgG⟩
theorem Zib:FC 25=some Zry:=by kernel_rfl
theorem Zil:Zry.body=ZgG:=rfl
theorem ZsR:Zry.res=[]:=rfl
def Zla:Zf:=by apply Zb 58 [] [];conv=>lhs;reduce;dsimp only[zi]
def Zs4:ZM:=⟨[],Zla⟩
theorem ZtD:FC 58=some Zs4:=by kernel_rfl
theorem Zpt:Zs4.body=Zla:=rfl
theorem ZMo:Zs4.res=[]:=rfl
def ZdZ:Zf:=by apply Zb 60 [1,1,1,0,0] [];conv=>lhs;reduce;dsimp only[zi]
@[irreducible] def ZtV:Zf:=ZdZ
def ZeM:=xw ZtV ZdZ (by kernel_rfl)
def ZfH:Zf:=by apply Zb 60 [] [([1,1,1,0,0],ZtV)];conv=>lhs;reduce;dsimp only[zi]
def Zmk:ZM:=⟨[],ZfH⟩
theorem ZhH:FC 60=some Zmk:=by kernel_rfl
theorem Zhc:Zmk.body=ZfH:=rfl
theorem ZmF:Zmk.res=[]:=rfl
noncomputable def Zbc(m:Nat)(tm:Tms)(G:Za):Option (AVal×Za):=(Zax m Zmk (Wf (Zbm 0) (evL FC PR BY m [1,0] ZtV tm G)))
def Zi5:Zf:=by apply Zb 54 [] [];conv=>lhs;reduce;dsimp only[zi]
def ZqF:ZM:=⟨[(.tmp 4)],Zi5⟩
theorem ZnQ:FC 54=some ZqF:=by kernel_rfl
theorem ZnB:ZqF.body=Zi5:=rfl
theorem Zwj:ZqF.res=[(.tmp 4)]:=rfl
def Zn5:Zf:=by apply Zb 56 [] [];conv=>lhs;reduce;dsimp only[zi]
def Zt8:ZM:=⟨[(.tmp 4)],Zn5⟩
theorem Zwi:FC 56=some Zt8:=by kernel_rfl
theorem Zzy:Zt8.body=Zn5:=rfl
theorem ZSh:Zt8.res=[(.tmp 4)]:=rfl
def ZhC:Zf:=by apply Zb 57 [] [];conv=>lhs;reduce;dsimp only[zi]
def Zrt:ZM:=⟨[],ZhC⟩
theorem ZiR:FC 57=some Zrt:=by kernel_rfl
theorem ZiG:Zrt.body=ZhC:=rfl
theorem Zzz:Zrt.res=[]:=rfl
def Zis:Zf:=by apply Zb 59 [] [];conv=>lhs;reduce;dsimp only[zi]
def ZoX:ZM:=⟨[],Zis⟩
theorem ZkO:FC 59=some ZoX:=by kernel_rfl
theorem Zkh:ZoX.body=Zis:=rfl
theorem Zre:ZoX.res=[]:=rfl
def ZdW:Zf:=by apply Zb 61 [] [];conv=>lhs;reduce;dsimp only[zi]
def Zuw:ZM:=⟨[],ZdW⟩
theorem Ze9:FC 61=some Zuw:=by kernel_rfl
theorem ZeP:Zuw.body=ZdW:=rfl
theorem Zzc:Zuw.res=[]:=rfl
def Zjp:Zf:=by apply Zb 63 [] [];conv=>lhs;reduce;dsimp only[zi]
def ZrU:ZM:=⟨[(.tmp 2)],Zjp⟩
theorem Zmv:FC 63=some ZrU:=by kernel_rfl
theorem ZlD:ZrU.body=Zjp:=rfl
theorem Zwb:ZrU.res=[(.tmp 2)]:=rfl
def ZcL:Zf:=by apply Zb 27 [] [];conv=>lhs;reduce;dsimp only[zi]
def Zrn:ZM:=⟨[],ZcL⟩
theorem Zdf:FC 27=some Zrn:=by kernel_rfl
theorem Zdd:Zrn.body=ZcL:=rfl
theorem Zdn:Zrn.res=[]:=rfl
def ZjC:Zf:=by apply Zb 73 [1,0,0] [];conv=>lhs;reduce;dsimp only[zi]
@[irreducible] def ZfB:Zf:=ZjC
def Zod:=xw ZfB ZjC (by kernel_rfl)
def Zks:Zf:=by apply Zb 73 [] [([1,0,0],ZfB)];conv=>lhs;reduce;dsimp only[zi]
def ZoT:ZM:=⟨[],Zks⟩
theorem ZS3:FC 73=some ZoT:=by kernel_rfl
theorem Zqd:ZoT.body=Zks:=rfl
theorem ZpC:ZoT.res=[]:=rfl
def ZqV:Zf:=by apply Zb 65 [] [];conv=>lhs;reduce;simp only[zi,zb]
def Zx6:ZM:=⟨[],ZqV⟩
theorem ZJy:FC 65=some Zx6:=by kernel_rfl
def Zls:Zf:=by apply Zb 100 [] [];conv=>lhs;reduce;dsimp only[zi]
def ZuF:ZM:=⟨[(.tmp 2)],Zls⟩
theorem ZoJ:FC 100=some ZuF:=by kernel_rfl
theorem Zuz:ZuF.body=Zls:=rfl
theorem Zta:ZuF.res=[(.tmp 2)]:=rfl
def ZjU:Zf:=by apply Zb 28 [] [];conv=>lhs;reduce;dsimp only[zi]
def ZqU:ZM:=⟨[],ZjU⟩
theorem Zr2:FC 28=some ZqU:=by kernel_rfl
theorem ZoW:ZqU.body=ZjU:=rfl
theorem ZoI:ZqU.res=[]:=rfl
def ZeX:Zf:=by apply Zb 72 [1,0,0] [];conv=>lhs;reduce;dsimp only[zi]
@[irreducible] def Zdp:Zf:=ZeX
def Zf6:=xw Zdp ZeX (by kernel_rfl)
def Zg8:Zf:=by apply Zb 72 [] [([1,0,0],Zdp)];conv=>lhs;reduce;dsimp only[zi]
def ZqT:ZM:=⟨[],Zg8⟩
theorem ZxR:FC 72=some ZqT:=by kernel_rfl
theorem Zjl:ZqT.body=Zg8:=rfl
theorem Zjr:ZqT.res=[]:=rfl
def ZlC:Zf:=by apply Zb 70 [] [];conv=>lhs;reduce;dsimp only[zi]
def Zsj:ZM:=⟨[(.tmp 2)],ZlC⟩
theorem ZvU:FC 70=some Zsj:=by kernel_rfl
theorem Zv8:Zsj.body=ZlC:=rfl
theorem ZuI:Zsj.res=[(.tmp 2)]:=rfl
def ZsZ:Zf:=by apply Zb 66 [] [];conv=>lhs;reduce;dsimp only[zi]
def ZtF:ZM:=⟨[(.tmp 2)],ZsZ⟩
theorem ZBo:FC 66=some ZtF:=by kernel_rfl
theorem ZId:ZtF.body=ZsZ:=rfl
theorem ZLb:ZtF.res=[(.tmp 2)]:=rfl
def ZkA:Zf:=by apply Zb 68 [] [];conv=>lhs;reduce;dsimp only[zi]
def Zs9:ZM:=⟨[(.tmp 4)],ZkA⟩
theorem ZoO:FC 68=some Zs9:=by kernel_rfl
theorem Ztr:Zs9.body=ZkA:=rfl
theorem Zr0:Zs9.res=[(.tmp 4)]:=rfl
def Zn1:Zf:=by apply Zb 67 [] [];conv=>lhs;reduce;dsimp only[zi]
def Zq1:ZM:=⟨[(.tmp 4)],Zn1⟩
theorem ZyT:FC 67=some Zq1:=by kernel_rfl
theorem Zyf:Zq1.body=Zn1:=rfl
theorem Zv5:Zq1.res=[(.tmp 4)]:=rfl
def ZtX:Zf:=by apply Zb 71 [] [];conv=>lhs;reduce;dsimp only[zi]
def Zxa:ZM:=⟨[],ZtX⟩
theorem ZLJ:FC 71=some Zxa:=by kernel_rfl
def Zi8:Zf:=by apply Zb 101 [] [];conv=>lhs;reduce;dsimp only[zi]
def Zsz:ZM:=⟨[(.tmp 4)],Zi8⟩
theorem ZuS:FC 101=some Zsz:=by kernel_rfl
theorem Zm0:Zsz.body=Zi8:=rfl
theorem Zmd:Zsz.res=[(.tmp 4)]:=rfl
def Zk9:Zf:=by apply Zb 69 [] [];conv=>lhs;reduce;dsimp only[zi]
def ZsY:ZM:=⟨[(.tmp 2)],Zk9⟩
theorem ZsG:FC 69=some ZsY:=by kernel_rfl
theorem ZqB:ZsY.body=Zk9:=rfl
theorem ZoQ:ZsY.res=[(.tmp 2)]:=rfl
def Zri:Zf:=by apply Zb 99 [] [];conv=>lhs;reduce;dsimp only[zi]
def ZtC:ZM:=⟨[(.tmp 2)],Zri⟩
theorem ZGT:FC 99=some ZtC:=by kernel_rfl
theorem ZNY:ZtC.body=Zri:=rfl
theorem ZDH:ZtC.res=[(.tmp 2)]:=rfl
def ZtZ:Zf:=by apply Zb 22 [] [];conv=>lhs;reduce;dsimp only[zi]
def Zrw:ZM:=⟨[(.tmp 4)],ZtZ⟩
theorem ZPt:FC 22=some Zrw:=by kernel_rfl
theorem ZQw:Zrw.body=ZtZ:=rfl
theorem ZHN:Zrw.res=[(.tmp 4)]:=rfl
def ZmO:Zf:=by apply Zb 50 [] [];conv=>lhs;reduce;dsimp only[zi]
def Zq5:ZM:=⟨[(.tmp 3)],ZmO⟩
theorem ZBP:FC 50=some Zq5:=by kernel_rfl
theorem ZAL:Zq5.body=ZmO:=rfl
theorem ZvN:Zq5.res=[(.tmp 3)]:=rfl
def ZeI:Zf:=by apply Zb 49 [] [];conv=>lhs;reduce;dsimp only[zi]
def ZpI:ZM:=⟨[(.tmp 2)],ZeI⟩
theorem Zfw:FC 49=some ZpI:=by kernel_rfl
theorem Zf5:ZpI.body=ZeI:=rfl
theorem ZfE:ZpI.res=[(.tmp 2)]:=rfl
def ZjO:Zf:=by apply Zb 39 [] [];conv=>lhs;reduce;dsimp only[zi]
def ZpT:ZM:=⟨[(.tmp 2)],ZjO⟩
theorem Zot:FC 39=some ZpT:=by kernel_rfl
theorem ZnS:ZpT.body=ZjO:=rfl
theorem Zmr:ZpT.res=[(.tmp 2)]:=rfl
def Zno:Zf:=by apply Zb 52 [] [];conv=>lhs;reduce;dsimp only[zi]
def Zqk:ZM:=⟨[],Zno⟩
theorem ZAp:FC 52=some Zqk:=by kernel_rfl
theorem Zw9:Zqk.body=Zno:=rfl
theorem ZFF:Zqk.res=[]:=rfl
def ZeH:Zf:=by apply Zb 23 [] [];conv=>lhs;reduce;dsimp only[zi]
def ZoL:ZM:=⟨[(.tmp 4)],ZeH⟩
theorem Zf8:FC 23=some ZoL:=by kernel_rfl
theorem Zf1:ZoL.body=ZeH:=rfl
theorem ZfN:ZoL.res=[(.tmp 4)]:=rfl
def ZiN:Zf:=by apply Zb 8 [] [];conv=>lhs;reduce;dsimp only[zi]
def ZrY:ZM:=⟨[(.cell 2 (some 26)),(.tmp 3)],ZiN⟩
theorem Zxs:FC 8=some ZrY:=by kernel_rfl
def Zq4:Zf:=(.seq (.region [oF 218 16 2,oI 219 (.ld (some 5) (.t 218)),oF 220 16 3,oI 221 (.ld (some 5) (.t 220)),oI 8 (.alloc [(.str []),(.lst true []),(.int .i64 0),(.bool false),(.lst true [])]),oI 9 (.alloc [(.str []),(.lst true []),(.int .i64 0),(.bool false),(.lst true [])]),oN (.st 5 (.t 8) (.t 219)),oN (.st 5 (.t 9) (.t 221))] (some [(1,3),(1,4),(3,4),(1,5),(3,5),(4,5),(3,6)]) [9,8]) (.seq (.region [oF 222 0 8,oL 223 222,oF 224 0 9,oL 225 224,oI 226 (.bin .eql (.t 223) (.t 225)),oM 227 226,⟨(some 228),(.faddr 1 (.t 8)),(some (227,true)),[]⟩,⟨(some 229),(.ld none (.t 228)),(some (227,true)),[]⟩,⟨(some 230),(.b2s (.t 229)),(some (227,true)),[]⟩,⟨(some 231),(.faddr 1 (.t 9)),(some (227,true)),[]⟩,⟨(some 232),(.ld none (.t 231)),(some (227,true)),[]⟩,⟨(some 233),(.b2s (.t 232)),(some (227,true)),[]⟩,⟨(some 234),(.bin .eql (.t 230) (.t 233)),(some (227,true)),[]⟩,oI 235 (.pick (.t 227) (.t 234) (.c (.bool false))),oM 236 235,⟨(some 237),(.faddr 2 (.t 8)),(some (236,true)),[]⟩,⟨(some 238),(.ld none (.t 237)),(some (236,true)),[]⟩,⟨(some 239),(.faddr 2 (.t 9)),(some (236,true)),[]⟩,⟨(some 240),(.ld none (.t 239)),(some (236,true)),[]⟩,⟨(some 241),(.bin .eql (.t 238) (.t 240)),(some (236,true)),[]⟩,oI 242 (.pick (.t 236) (.t 241) (.c (.bool false))),oM 243 242,⟨(some 244),(.faddr 3 (.t 8)),(some (243,true)),[]⟩,⟨(some 245),(.ld none (.t 244)),(some (243,true)),[]⟩,⟨(some 246),(.faddr 3 (.t 9)),(some (243,true)),[]⟩,⟨(some 247),(.ld none (.t 246)),(some (243,true)),[]⟩,⟨(some 248),(.beq false (.t 245) (.t 247)),(some (243,true)),[]⟩,oI 249 (.pick (.t 243) (.t 248) (.c (.bool false))),oM 250 249,⟨(some 251),(.faddr 4 (.t 8)),(some (250,true)),[]⟩,⟨(some 252),(.ld none (.t 251)),(some (250,true)),[]⟩,⟨(some 253),(.faddr 4 (.t 9)),(some (250,true)),[]⟩,⟨(some 254),(.ld none (.t 253)),(some (250,true)),[]⟩,⟨(some 255),(.call 29 0 true [(.t 252),(.t 254)]),(some (250,true)),[]⟩,oI 256 (.pick (.t 250) (.t 255) (.c (.bool false))),oM 4 256] none [4]) .ret))
def Zm1:Zf:=Zq4
def ZCo:=xw Zm1 Zq4 rfl
def Zk0:Zf:=(.seq (.seq (.region [oM 200 7,oF 201 11 2,oL 202 201,oI 203 (.len (.t 202)),oI 204 (.bin .lss (.t 200) (.t 203))] none [204,7,3,2]) (.cond (.t 204) .skip (.exit 4))) (.seq (.block 5 (.seq (.region [oF 207 11 2,oL 208 207,oM 209 7,oI 210 (.iaddr 1 (.t 208) (.t 209)),oL 211 210,oF 212 11 3,oL 213 212,oM 214 7,oI 215 (.iaddr 1 (.t 213) (.t 214)),oL 216 215,oI 217 (.bin .neq (.t 211) (.t 216))] (some [(1,6),(3,6),(4,6),(1,8),(3,8),(4,8),(1,9),(3,9),(4,9)]) [217,7,3,2]) (.cond (.t 217) (.seq (.region [oI 4 (.mov (.c (.bool false)))] none [4]) .ret) .skip))) (.region [oM 205 7,oI 206 (.bin .add (.t 205) (.c (.int .i64 1))),oM 7 206] none [7,3,2])))
def Zko:Zf:=Zk0
def Zqw:=xw Zko Zk0 rfl
def ZNi:Zf:=(.seq (.seq (.region [oI 7 (.mov (.c (.int .i64 0)))] none [7,3,2]) (.block 4 (.loop [7,3,2] Zko))) Zm1)
def ZsT:Zf:=ZNi
def Zkd:Zf:=(.seq (.seq (.region [oM 182 6,oF 183 10 2,oL 184 183,oI 185 (.len (.t 184)),oI 186 (.bin .lss (.t 182) (.t 185))] none [186,6,3,2]) (.cond (.t 186) .skip (.exit 2))) (.seq (.block 3 (.seq (.region [oF 189 10 2,oL 190 189,oM 191 6,oI 192 (.iaddr 6 (.t 190) (.t 191)),oI 193 (.ld (some 6) (.t 192)),oF 194 10 3,oL 195 194,oM 196 6,oI 197 (.iaddr 6 (.t 195) (.t 196)),oI 198 (.ld (some 6) (.t 197)),oI 199 (.eqv true [2,0,1,1,0,0] (.t 193) (.t 198))] (some [(1,6),(3,6),(4,6),(1,8),(3,8),(4,8),(1,9),(3,9),(4,9)]) [199,6,3,2]) (.cond (.t 199) (.seq (.region [oI 4 (.mov (.c (.bool false)))] none [4]) .ret) .skip))) (.region [oM 187 6,oI 188 (.bin .add (.t 187) (.c (.int .i64 1))),oM 6 188] none [6,3,2])))
def Zkp:Zf:=Zkd
def ZsS:=xw Zkp Zkd rfl
def ZGh:Zf:=(.seq (.seq (.region [oI 6 (.mov (.c (.int .i64 0)))] none [6,3,2]) (.block 2 (.loop [6,3,2] Zkp))) ZsT)
def ZpO:Zf:=ZGh
def Zk4:Zf:=(.seq (.seq (.region [oM 164 5,oF 165 8 2,oL 166 165,oI 167 (.len (.t 166)),oI 168 (.bin .lss (.t 164) (.t 167))] none [168,5,3,2]) (.cond (.t 168) .skip (.exit 0))) (.seq (.block 1 (.seq (.region [oF 171 8 2,oL 172 171,oM 173 5,oI 174 (.iaddr 1 (.t 172) (.t 173)),oL 175 174,oF 176 8 3,oL 177 176,oM 178 5,oI 179 (.iaddr 1 (.t 177) (.t 178)),oL 180 179,oI 181 (.bin .neq (.t 175) (.t 180))] (some [(1,6),(3,6),(4,6),(1,8),(3,8),(4,8),(1,9),(3,9),(4,9)]) [181,5,3,2]) (.cond (.t 181) (.seq (.region [oI 4 (.mov (.c (.bool false)))] none [4]) .ret) .skip))) (.region [oM 169 5,oI 170 (.bin .add (.t 169) (.c (.int .i64 1))),oM 5 170] none [5,3,2])))
def Zm7:Zf:=Zk4
def ZpA:=xw Zm7 Zk4 rfl
def ZqE:Zf:=(.seq (.region [oI 2 (.box (.t 0)),oI 3 (.box (.t 1)),oI 4 (.mov (.c (.bool false)))] none [3,2]) (.seq (.seq (.region [oF 10 0 2,oL 11 10,oF 12 0 3,oL 13 12,oI 14 (.bin .neq (.t 11) (.t 13)),oM 15 14,⟨(some 16),(.faddr 1 (.t 2)),(some (15,false)),[]⟩,⟨(some 17),(.ld none (.t 16)),(some (15,false)),[]⟩,⟨(some 18),(.faddr 1 (.t 3)),(some (15,false)),[]⟩,⟨(some 19),(.ld none (.t 18)),(some (15,false)),[]⟩,⟨(some 20),(.beq true (.t 17) (.t 19)),(some (15,false)),[]⟩,oI 21 (.pick (.t 15) (.c (.bool true)) (.t 20)),oM 22 21,⟨(some 23),(.faddr 2 (.t 2)),(some (22,false)),[]⟩,⟨(some 24),(.ld none (.t 23)),(some (22,false)),[]⟩,⟨(some 25),(.faddr 2 (.t 3)),(some (22,false)),[]⟩,⟨(some 26),(.ld none (.t 25)),(some (22,false)),[]⟩,⟨(some 27),(.bin .neq (.t 24) (.t 26)),(some (22,false)),[]⟩,oI 28 (.pick (.t 22) (.c (.bool true)) (.t 27)),oM 29 28,⟨(some 30),(.faddr 3 (.t 2)),(some (29,false)),[]⟩,⟨(some 31),(.ld none (.t 30)),(some (29,false)),[]⟩,⟨(some 32),(.faddr 3 (.t 3)),(some (29,false)),[]⟩,⟨(some 33),(.ld none (.t 32)),(some (29,false)),[]⟩,⟨(some 34),(.beq true (.t 31) (.t 33)),(some (29,false)),[]⟩,oI 35 (.pick (.t 29) (.c (.bool true)) (.t 34)),oM 36 35,⟨(some 37),(.faddr 4 (.t 2)),(some (36,false)),[]⟩,⟨(some 38),(.ld none (.t 37)),(some (36,false)),[]⟩,⟨(some 39),(.faddr 4 (.t 3)),(some (36,false)),[]⟩,⟨(some 40),(.ld none (.t 39)),(some (36,false)),[]⟩,⟨(some 41),(.bin .neq (.t 38) (.t 40)),(some (36,false)),[]⟩,oI 42 (.pick (.t 36) (.c (.bool true)) (.t 41)),oM 43 42,⟨(some 44),(.faddr 5 (.t 2)),(some (43,false)),[]⟩,⟨(some 45),(.ld none (.t 44)),(some (43,false)),[]⟩,⟨(some 46),(.faddr 5 (.t 3)),(some (43,false)),[]⟩,⟨(some 47),(.ld none (.t 46)),(some (43,false)),[]⟩,⟨(some 48),(.bin .neq (.t 45) (.t 47)),(some (43,false)),[]⟩,oI 49 (.pick (.t 43) (.c (.bool true)) (.t 48)),oM 50 49,⟨(some 51),(.faddr 7 (.t 2)),(some (50,false)),[]⟩,⟨(some 52),(.ld none (.t 51)),(some (50,false)),[]⟩,⟨(some 53),(.faddr 7 (.t 3)),(some (50,false)),[]⟩,⟨(some 54),(.ld none (.t 53)),(some (50,false)),[]⟩,⟨(some 55),(.bin .neq (.t 52) (.t 54)),(some (50,false)),[]⟩,oI 56 (.pick (.t 50) (.c (.bool true)) (.t 55)),oM 57 56,⟨(some 58),(.faddr 12 (.t 2)),(some (57,false)),[]⟩,⟨(some 59),(.ld none (.t 58)),(some (57,false)),[]⟩,⟨(some 60),(.faddr 12 (.t 3)),(some (57,false)),[]⟩,⟨(some 61),(.ld none (.t 60)),(some (57,false)),[]⟩,⟨(some 62),(.beq true (.t 59) (.t 61)),(some (57,false)),[]⟩,oI 63 (.pick (.t 57) (.c (.bool true)) (.t 62)),oM 64 63,⟨(some 65),(.faddr 13 (.t 2)),(some (64,false)),[]⟩,⟨(some 66),(.ld none (.t 65)),(some (64,false)),[]⟩,⟨(some 67),(.faddr 13 (.t 3)),(some (64,false)),[]⟩,⟨(some 68),(.ld none (.t 67)),(some (64,false)),[]⟩,⟨(some 69),(.bin .neq (.t 66) (.t 68)),(some (64,false)),[]⟩,oI 70 (.pick (.t 64) (.c (.bool true)) (.t 69)),oM 71 70,⟨(some 72),(.faddr 14 (.t 2)),(some (71,false)),[]⟩,⟨(some 73),(.ld none (.t 72)),(some (71,false)),[]⟩,⟨(some 74),(.faddr 14 (.t 3)),(some (71,false)),[]⟩,⟨(some 75),(.ld none (.t 74)),(some (71,false)),[]⟩,⟨(some 76),(.bin .neq (.t 73) (.t 75)),(some (71,false)),[]⟩,oI 77 (.pick (.t 71) (.c (.bool true)) (.t 76)),oM 78 77,⟨(some 79),(.faddr 15 (.t 2)),(some (78,false)),[]⟩,⟨(some 80),(.ld none (.t 79)),(some (78,false)),[]⟩,⟨(some 81),(.faddr 15 (.t 3)),(some (78,false)),[]⟩,⟨(some 82),(.ld none (.t 81)),(some (78,false)),[]⟩,⟨(some 83),(.beq true (.t 80) (.t 82)),(some (78,false)),[]⟩,oI 84 (.pick (.t 78) (.c (.bool true)) (.t 83)),oM 85 84,⟨(some 86),(.faddr 21 (.t 2)),(some (85,false)),[]⟩,⟨(some 87),(.ld none (.t 86)),(some (85,false)),[]⟩,⟨(some 88),(.faddr 21 (.t 3)),(some (85,false)),[]⟩,⟨(some 89),(.ld none (.t 88)),(some (85,false)),[]⟩,⟨(some 90),(.beq true (.t 87) (.t 89)),(some (85,false)),[]⟩,oI 91 (.pick (.t 85) (.c (.bool true)) (.t 90)),oM 92 91,⟨(some 93),(.faddr 22 (.t 2)),(some (92,false)),[]⟩,⟨(some 94),(.ld none (.t 93)),(some (92,false)),[]⟩,⟨(some 95),(.faddr 22 (.t 3)),(some (92,false)),[]⟩,⟨(some 96),(.ld none (.t 95)),(some (92,false)),[]⟩,⟨(some 97),(.bin .neq (.t 94) (.t 96)),(some (92,false)),[]⟩,oI 98 (.pick (.t 92) (.c (.bool true)) (.t 97)),oM 99 98,⟨(some 100),(.faddr 23 (.t 2)),(some (99,false)),[]⟩,⟨(some 101),(.ld none (.t 100)),(some (99,false)),[]⟩,⟨(some 102),(.faddr 23 (.t 3)),(some (99,false)),[]⟩,⟨(some 103),(.ld none (.t 102)),(some (99,false)),[]⟩,⟨(some 104),(.beq true (.t 101) (.t 103)),(some (99,false)),[]⟩,oI 105 (.pick (.t 99) (.c (.bool true)) (.t 104)),oM 106 105,⟨(some 107),(.faddr 25 (.t 2)),(some (106,false)),[]⟩,⟨(some 108),(.ld none (.t 107)),(some (106,false)),[]⟩,⟨(some 109),(.faddr 25 (.t 3)),(some (106,false)),[]⟩,⟨(some 110),(.ld none (.t 109)),(some (106,false)),[]⟩,⟨(some 111),(.beq true (.t 108) (.t 110)),(some (106,false)),[]⟩,oI 112 (.pick (.t 106) (.c (.bool true)) (.t 111))] none [112,3,2]) (.cond (.t 112) (.seq (.region [oI 4 (.mov (.c (.bool false)))] none [4]) .ret) .skip)) (.seq (.seq (.region [oF 113 6 2,oL 114 113,oI 115 (.b2s (.t 114)),oF 116 6 3,oL 117 116,oI 118 (.b2s (.t 117)),oI 119 (.bin .neq (.t 115) (.t 118)),oM 120 119,⟨(some 121),(.faddr 24 (.t 2)),(some (120,false)),[]⟩,⟨(some 122),(.ld none (.t 121)),(some (120,false)),[]⟩,⟨(some 123),(.b2s (.t 122)),(some (120,false)),[]⟩,⟨(some 124),(.faddr 24 (.t 3)),(some (120,false)),[]⟩,⟨(some 125),(.ld none (.t 124)),(some (120,false)),[]⟩,⟨(some 126),(.b2s (.t 125)),(some (120,false)),[]⟩,⟨(some 127),(.bin .neq (.t 123) (.t 126)),(some (120,false)),[]⟩,oI 128 (.pick (.t 120) (.c (.bool true)) (.t 127)),oM 129 128,⟨(some 130),(.faddr 9 (.t 2)),(some (129,false)),[]⟩,⟨(some 131),(.ld none (.t 130)),(some (129,false)),[]⟩,⟨(some 132),(.faddr 9 (.t 3)),(some (129,false)),[]⟩,⟨(some 133),(.ld none (.t 132)),(some (129,false)),[]⟩,⟨(some 134),(.call 29 0 true [(.t 131),(.t 133)]),(some (129,false)),[]⟩,⟨(some 135),(.un .not (.t 134)),(some (129,false)),[]⟩,oI 136 (.pick (.t 129) (.c (.bool true)) (.t 135)),oM 137 136,⟨(some 138),(.faddr 8 (.t 2)),(some (137,false)),[]⟩,⟨(some 139),(.ld none (.t 138)),(some (137,false)),[]⟩,⟨(some 140),(.len (.t 139)),(some (137,false)),[]⟩,⟨(some 141),(.faddr 8 (.t 3)),(some (137,false)),[]⟩,⟨(some 142),(.ld none (.t 141)),(some (137,false)),[]⟩,⟨(some 143),(.len (.t 142)),(some (137,false)),[]⟩,⟨(some 144),(.bin .neq (.t 140) (.t 143)),(some (137,false)),[]⟩,oI 145 (.pick (.t 137) (.c (.bool true)) (.t 144)),oM 146 145,⟨(some 147),(.faddr 10 (.t 2)),(some (146,false)),[]⟩,⟨(some 148),(.ld none (.t 147)),(some (146,false)),[]⟩,⟨(some 149),(.len (.t 148)),(some (146,false)),[]⟩,⟨(some 150),(.faddr 10 (.t 3)),(some (146,false)),[]⟩,⟨(some 151),(.ld none (.t 150)),(some (146,false)),[]⟩,⟨(some 152),(.len (.t 151)),(some (146,false)),[]⟩,⟨(some 153),(.bin .neq (.t 149) (.t 152)),(some (146,false)),[]⟩,oI 154 (.pick (.t 146) (.c (.bool true)) (.t 153)),oM 155 154,⟨(some 156),(.faddr 11 (.t 2)),(some (155,false)),[]⟩,⟨(some 157),(.ld none (.t 156)),(some (155,false)),[]⟩,⟨(some 158),(.len (.t 157)),(some (155,false)),[]⟩,⟨(some 159),(.faddr 11 (.t 3)),(some (155,false)),[]⟩,⟨(some 160),(.ld none (.t 159)),(some (155,false)),[]⟩,⟨(some 161),(.len (.t 160)),(some (155,false)),[]⟩,⟨(some 162),(.bin .neq (.t 158) (.t 161)),(some (155,false)),[]⟩,oI 163 (.pick (.t 155) (.c (.bool true)) (.t 162))] none [163,3,2]) (.cond (.t 163) (.seq (.region [oI 4 (.mov (.c (.bool false)))] none [4]) .ret) .skip)) (.seq (.seq (.region [oI 5 (.mov (.c (.int .i64 0)))] none [5,3,2]) (.block 0 (.loop [5,3,2] Zm7))) ZpO))))
def ZrW:ZM:=⟨[(.tmp 4)],ZqE⟩
theorem ZSG:FC 9=some ZrW:=by kernel_rfl
def Zpm:Zf:=(.seq (.region [oI 4 (.mov (.c (.bool false)))] none [4]) .ret)
@[irreducible] def ZtI:Zf:=Zpm
def ZLa:=xw ZtI Zpm (by kernel_rfl)
def ZiJ:Zf:=by apply Zb 51 [1,0,1,0,0] [];conv=>lhs;reduce;dsimp only[zi]
@[irreducible] def Zs7:Zf:=ZiJ
def ZlE:=xw Zs7 ZiJ (by kernel_rfl)
def ZoM:Zf:=by apply Zb 51 [] [([1,0,1,0,0],Zs7),([1,1],ZtI)];conv=>lhs;reduce;dsimp only[zi]
def Zor:ZM:=⟨[(.tmp 4)],ZoM⟩
theorem ZOm:FC 51=some Zor:=by kernel_rfl
theorem ZRk:Zor.body=ZoM:=rfl
theorem ZzY:Zor.res=[(.tmp 4)]:=rfl
noncomputable def Zoe(m:Nat)(tm:Tms)(G:Za):Option (AVal×Za):=(Zax m Zor (Zb0 FC PR BY m ZtI (Wf (Zbm 0) (evL FC PR BY m [5,1,0] Zs7 tm G))))
end
section
def ZG(c:Int):AVal:=.iface 27 (.int .i64 c)
theorem Zbt(c:Int)(G:Za)(sq own:Nat):Zq E BY G sq 52 own true [.bool true,.int .i64 c]=some (.tup [],G,{}):=by
 have h:E 52 [.bool true,.int .i64 c] []=some (.tup [],[]):=by
  rw[Zg (by rfl) ZAp]
  simp -implicitDefEqProofs only[EQA,Zc,Xc,Xa,unA,reduceCtorEq,↓reduceIte,Ze,Zw9,Zno,ZFF,Zb]
 exact ZdI (h) (by kernel_rfl) (by simp -implicitDefEqProofs only[Zem,ZbW,eq_self,eq_self]) (by simp -implicitDefEqProofs only[ZE,ZbW,eq_self,eq_self]) rfl (fun _=>rfl) _ _ _ _
theorem ZbS(c:Int)(G:Za)(sq own:Nat):Zq E BY G sq 52 own true [.bool false,.int .i64 c]=some (.pan (ZG c),G,{}):=by
 have h:E 52 [.bool false,.int .i64 c] []=some (.pan (ZG c),[]):=by
  rw[Zg (by rfl) ZAp]
  simp -implicitDefEqProofs only[EQA,Zc,Xc,Xa,unA,reduceCtorEq,↓reduceIte,Zw9,Zno,Zb,ZG]
 exact ZdI (h) (by kernel_rfl) (by simp -implicitDefEqProofs only[Zem,ZbW,eq_self]) (by simp -implicitDefEqProofs only[ZE,ZbW,eq_self]) rfl (fun _=>rfl) _ _ _ _
theorem Zkr{cs xs:List AVal}{w n:Nat}{G:Za}(hc:Ze cs=true):ZR 1 (.var cs::.row 0 w xs::G) (.sl 1 0 0 n)=some (.sl 1 0 0 n,[.var cs,.row 0 w xs]):=by
 have e2:=fun C=>Z5 C cs hc
 have hi:Zw 1 [AVal.sl 1 0 0 n] (.var cs::.row 0 w xs::G)=[0,1]:=by
  have hR:X5 1=[0]:=rfl
  simp only[Zw,hR,XB,XQ,Xr,Xm,ZB,(e2 (fun _ _=>none)).2,Zl,ZH]
  rfl
 have hC:Zn (.var cs::.row 0 w xs::G) 1 [0,1] 1 0=some (1,0):=rfl
 simp only[ZR,gcA,hi,Zj,Zp,hC,Zo,Xm,Xs,ZD,Zm,Zz,(e2 _).1]
 simp
theorem ZAt(G:Za)(sq:Nat)(b:Zd)(hl:b.length<=140737488355328)(he:(ZL b).2.2=0)(hs:freeAt G sq=true):Zq E BY G sq 114 1 false [.lnt b]=some (.tup [.sl sq 0 0 (ZL b).1.length,.int .i64 ((ZL b).2.1:Nat),.int .i64 0],G.set sq (.row 0 1 ((ZL b).1.map Zh)),{ any:=true }):=by
 have h:=Zmm b hl
 unfold gdR at h
 rw[if_pos he,he]at h
 exact ZUc (vs:=[.lnt b]) (by kernel_rfl) rfl rfl rfl (fun _=>rfl) h rfl (ZnV _) (fun _=>rfl) hs
theorem ZyW(G:Za)(sq:Nat)(b:Zd)(hl:b.length<=140737488355328)(he:(ZL b).2.2≠0):Zq E BY G sq 114 1 false [.lnt b]=some (.tup [.lst true [],.int .i64 ((ZL b).2.1:Nat),.int .i64 (ZL b).2.2],G,{}):=by
 have h:=Zmm b hl
 unfold gdR at h
 rw[if_neg he]at h
 exact ZDv (vs:=[.lnt b]) (by kernel_rfl) rfl rfl rfl (fun _=>rfl) h rfl rfl
theorem ZaT{xs ys:List AVal}(h:Ze xs=true)(h':Ze ys=true):Ze (xs++ys)=true:=by
 induction xs with
 |nil=>exact h'
 |cons x xs ih =>
  simp only[Ze,Xk,XJ]at h⊢
  grind
section
variable (P:List AVal)(hP:P.length=26)(hN:Ze P=true)
include hP
theorem Zag(L:AVal):(P++[L]).length=27:=by simp[hP]
theorem ZaB(L:AVal):(P++[L])[26]?=some L:=by
 grind
theorem ZeL(L:AVal):(P++[L]).take 26=P:=by
 grind
theorem ZgO(L:AVal):(P++[L]).drop 27=[]:=Wg (by simp[hP])
include hN
theorem ZK(l:Zd):Ze (P++[.lnt l])=true:=ZaT hN rfl
theorem ZO7(l:Zd)(n:Nat)(hn:n<=l.length)(hl:l.length<=140737488355328):E 54 [.ref 0 0,.int .i64 (n:Nat)] [.var (P++[.lnt l])]=some (.int .i64 (Ze0 (l.take n)),[.var (P++[.lnt (l.drop n)])]):=by
 have h1:(l.length:Int)>=((n:Nat):Int):=by omega
 have s1:=fun G kk=>Zpa G l kk (n:Int) (by omega) (by omega)
 have s2:=fun G kk=>ZfC G l kk (n:Int) (by omega) (by omega)
 have e2:((n:Int)).toNat=n:=rfl
 rw[e2]at s1 s2
 have ht:(l.take n).length<=9223372036854775807:=by simp;omega
 have hG:=fun G sq own=>Zo2 G sq own (l.take n) ht
 have a1:=Zag P hP
 have a2:=ZaB P hP
 have a3:=ZeL P hP
 have a4:=ZgO P hP
 have m1:=Zbt
 rw[Zg (by rfl) ZnQ]
 simp -implicitDefEqProofs only[EQA,Zc,Xd,Xc,Xf,Xa,reduceCtorEq,↓reduceIte,ZnB,Zi5,Zwj,Zb,h1,s1,s2,hG,a1,a2,a3,a4,m1,Ze0]
 exact Zah rfl (ZK P hP hN _)
theorem ZBD(l:Zd)(n:Nat)(hn:l.length<n)(hn':n<=9223372036854775807):E 54 [.ref 0 0,.int .i64 (n:Nat)] [.var (P++[.lnt l])]=some (.pan (ZG 129),[.var (P++[.lnt l])]):=by
 have h1:¬(l.length:Int)>=((n:Nat):Int):=by omega
 have a2:=ZaB P hP
 have m1:=ZbS
 rw[Zg (by rfl) ZnQ]
 simp -implicitDefEqProofs only[EQA,Zc,Xc,Xa,reduceCtorEq,↓reduceIte,ZnB,Zi5,Zb,h1,a2,m1]
 exact Zah rfl (ZK P hP hN _)
theorem ZD0(l:Zd)(hl:l.length<=140737488355328)(h:(ZU l).2.2=0):E 63 [.ref 0 0] [.var (P++[.lnt l])]=some (.str (ZU l).1,[.var (P++[.lnt (l.drop (ZU l).2.1)])]):=by
 have hG:=fun G sq own=>ZjA G sq own l hl
 have hu:=(Zgp l).1
 unfold gtT at hG
 have s2:=fun G kk=>ZfC G l kk ((ZU l).2.1:Int) (by omega) (by omega)
 have e2:(((ZU l).2.1:Nat):Int).toNat=(ZU l).2.1:=rfl
 rw[e2]at s2
 rw[h]at hG
 have a1:=Zag P hP
 have a2:=ZaB P hP
 have a3:=ZeL P hP
 have a4:=ZgO P hP
 have m1:=Zbt
 rw[Zg (by rfl) Zmv]
 simp -implicitDefEqProofs only[EQA,Zc,Xd,Xc,Xf,Xa,reduceCtorEq,↓reduceIte,ZlD,Zjp,Zwb,Zb,s2,hG,a1,a2,a3,a4,m1]
 exact Zah rfl (ZK P hP hN _)
theorem ZM1(l:Zd)(hl:l.length<=140737488355328)(h:(ZU l).2.2≠0):E 63 [.ref 0 0] [.var (P++[.lnt l])]=some (.pan (ZG 129),[.var (P++[.lnt l])]):=by
 have hG:=fun G sq own=>ZjA G sq own l hl
 unfold gtT at hG
 have h0:((ZU l).2.2==0)=false:=by simpa using h
 have h1:=h
 have a2:=ZaB P hP
 have m1:=ZbS
 rw[Zg (by rfl) Zmv]
 simp -implicitDefEqProofs only[EQA,Zc,Xc,Xa,reduceCtorEq,↓reduceIte,ZlD,Zjp,Zb,hG,a2,h0,m1]
 exact Zah rfl (ZK P hP hN _)
theorem ZUZ(l:Zd)(hl:l.length<=140737488355328)(h:(ZL l).2.2=0):E 94 [.ref 0 0] [.var (P++[.lnt l])]=some (.sl 1 0 0 (ZL l).1.length,[.var (P++[.lnt (l.drop (ZL l).2.1)]),.row 0 1 ((ZL l).1.map Zh)]):=by
 have hG:=fun G sq hs=>ZAt G sq l hl h hs
 have hu:=(Zg0 l).1
 have s2:=fun G kk=>ZfC G l kk ((ZL l).2.1:Int) (by omega) (by omega)
 have e2:(((ZL l).2.1:Nat):Int).toNat=(ZL l).2.1:=rfl
 rw[e2]at s2
 have a1:=Zag P hP
 have a2:=ZaB P hP
 have a3:=ZeL P hP
 have a4:=ZgO P hP
 have m1:=Zbt
 rw[Zg (by rfl) ZoE]
 simp -implicitDefEqProofs only[EQA,Zc,Xd,Xc,Xf,Xa,Xg,reduceCtorEq,↓reduceIte,Zmx,Zjt,Zyu,Zb,s2,hG,a1,a2,a3,a4,m1]
 exact Zkr (ZK P hP hN _)
theorem ZMU(l:Zd)(hl:l.length<=140737488355328)(h:(ZL l).2.2≠0):E 94 [.ref 0 0] [.var (P++[.lnt l])]=some (.pan (ZG 129),[.var (P++[.lnt l])]):=by
 have hG:=fun G sq=>ZyW G sq l hl h
 have h0:((ZL l).2.2==0)=false:=by simpa using h
 have h1:=h
 have a2:=ZaB P hP
 have m1:=ZbS
 rw[Zg (by rfl) ZoE]
 simp -implicitDefEqProofs only[EQA,Zc,Xd,Xc,Xa,Xg,reduceCtorEq,↓reduceIte,Zmx,Zjt,Zb,hG,a2,h0,m1]
 exact Zah rfl (ZK P hP hN _)
theorem ZPJ(w:Int)(l:Zd)(hl:l.length<=140737488355328)(h:(Zab w l).2.2=0)(hu:(Zab w l).2.1<=l.length):E 56 [.ref 0 0,.int .i64 w] [.var (P++[.lnt l])]=some (.lst false ((Zab w l).1.map Zu),[.var (P++[.lnt (l.drop (Zab w l).2.1)])]):=by
 have hG:=fun G sq own=>Zz2 G sq own w l hl
 have s2:=fun G kk=>ZfC G l kk ((Zab w l).2.1:Int) (by omega) (by omega)
 have e2:(((Zab w l).2.1:Nat):Int).toNat=(Zab w l).2.1:=rfl
 rw[e2]at s2
 rw[h]at hG
 have a1:=Zag P hP
 have a2:=ZaB P hP
 have a3:=ZeL P hP
 have a4:=ZgO P hP
 have m1:=Zbt
 generalize Zab w l=R at *
 rw[Zg (by rfl) Zwi]
 simp -implicitDefEqProofs only[EQA,Zc,Xd,Xc,Xf,Xa,reduceCtorEq,↓reduceIte,Zzy,Zn5,ZSh,Zb,s2,hG,a1,a2,a3,a4,m1]
 exact Zah rfl (ZK P hP hN _)
theorem ZHJ(w:Int)(l:Zd)(hl:l.length<=140737488355328)(h:(Zab w l).2.2≠0):E 56 [.ref 0 0,.int .i64 w] [.var (P++[.lnt l])]=some (.pan (ZG (Zab w l).2.2),[.var (P++[.lnt l])]):=by
 have hG:=fun G sq own=>Zz2 G sq own w l hl
 have h0:((Zab w l).2.2==0)=false:=by simpa using h
 have h1:=h
 have a2:=ZaB P hP
 have m1:=ZbS
 generalize Zab w l=R at *
 rw[Zg (by rfl) Zwi]
 simp -implicitDefEqProofs only[EQA,Zc,Xc,Xa,reduceCtorEq,↓reduceIte,Zzy,Zn5,Zb,hG,a2,h0,m1]
 exact Zah rfl (ZK P hP hN _)
end
end
section
def ZsL:Zf:=by apply Zb 48 [] [];conv=>lhs;reduce;dsimp only[zi]
def ZrZ:ZM:=⟨[(.tmp 4)],ZsL⟩
theorem ZPb:FC 48=some ZrZ:=by kernel_rfl
theorem ZGQ:ZrZ.body=ZsL:=rfl
theorem ZRJ:ZrZ.res=[(.tmp 4)]:=rfl
def Zpx:Zf:=(.seq (.region [oI 4 (.mov (.c (.int .i64 (-1))))] none [4]) .ret)
@[irreducible] def ZsH:Zf:=Zpx
def ZEu:=xw ZsH Zpx (by kernel_rfl)
def Zlq:Zf:=by apply Zb 93 [1,0,1,0,0] [];conv=>lhs;reduce;dsimp only[zi]
@[irreducible] def Zuu:Zf:=Zlq
def Zps:=xw Zuu Zlq (by kernel_rfl)
def Zsm:Zf:=by apply Zb 93 [] [([1,0,1,0,0],Zuu),([1,1],ZsH)];conv=>lhs;reduce;dsimp only[zi]
def ZoC:ZM:=⟨[(.tmp 4)],Zsm⟩
theorem ZF0:FC 93=some ZoC:=by kernel_rfl
theorem ZMk:ZoC.body=Zsm:=rfl
theorem Zxt:ZoC.res=[(.tmp 4)]:=rfl
noncomputable def ZnW(m:Nat)(tm:Tms)(G:Za):Option (AVal×Za):=(Zax m ZoC (Zb0 FC PR BY m ZsH (Wf (Zbm 0) (evL FC PR BY m [8,7,1,0] Zuu tm G))))
end
section
theorem ZqJ{O:ZS}{bf:Nat->Bool}{G:Za}{t sq f own:Nat}{view:Bool}{args vs vs':List AVal}{cs cs':List AVal}{r:AVal}(hs:G[t]?=some (.var cs))(hc:Ze cs=true)(hc':Ze cs'=true)(hb:bf f=false)(hff:Zaj G sq own=true)
  (hsh:showAs G args=some (vs,[])) (href:Zl vs=[t]) (hren:∀ C:Rho,C t 0=some (0,0)->Zj C vs=vs') (hn:ZQ r=true) (hv:viewR [.var cs'] r=some (r,[]))
  (h:O f vs' [.var cs]=some (r,[.var cs'])) (hvl:vs.any Zcx=false:=by rfl):Zq O bf G sq f own view args=some (r,G.set t (.var cs'),{ any:=true,upd:=[(t,cs')] }):=by
 have htl:t<G.length:=by
  rcases Wz t G.length with h |h
  ·exact h
  ·rw[Wb h]at hs;cases hs
 have hup:Za9 (G.set t (.var cs')) [t]=[(t,cs')]:=by
  simp only[Za9,XO,if_pos htl,if_true]
 have hd:G.getD t .free=.var cs:=by simp[Xh,hs]
 have hf0:Zv G []=G:=rfl
 unfold Zq
 rw[Zfx (hb) hsh (by grind)]
 simp only[hf0,href,Zeo hs hc]
 unfold Zbk
 simp only[Zdo]
 have hall:([t].all fun t=>okB (G.getD t .free))=true:=by simp[XW,XX,hs,okB]
 rw[if_pos hall]
 have hC:Zn G 0 [t] t 0=some (0,0):=by simp[Zn,ZI,hs,Zm,ZD]
 have hheap:Zo G 0 [t] (Zn G 0 [t]) [t] 0=[.var cs]:=by
  simp only[Zo,hd,Zz,(Z5 _ cs hc).1]
 rw[hren _ hC,hheap,h]
 have hask:ZV view [t].length (some (r,[.var cs']))=some (r,[.var cs']):=by
  unfold ZV
  split
  ·have hnp:∀ x,r≠.pan x:=by rintro x rfl;simp[viewR,Z3,ZN]at hv
   rw[show ZbR [t].length (some (r,[.var cs']))=(match viewR [.var cs'] r with
    |some (r',ts)=>match gcA [t].length [r'] (Zv [.var cs'] ts)with
     |([r''],G')=>some (r'',G')
     |_=>none
    |none=>none)from by cases r<;>first |rfl |grind]
   rw[hv]
   simp only[Xz,Xw,XF,show Zv [ZP.var cs'] []=[.var cs']from rfl,ZlS hn hc']
  ·rfl
 rw[hask]
 have hk:Za1 G [t] [.var cs'] 0=true:=by
  simp[Za1,okB,hs,Zcy,Zm]
 simp only[Zaz,WC,Xi,if_false,Xz,Xw,XF,Xav,XH,decide_true,hk,hff,XT,if_true,ZaQ,ZaA,Xm,Zz,(Zba _ r hn).1,(Z5 _ cs' hc').1,hup]
def Zcg(k:Int):List (Int×Int) :=
 if k=2 then [(0,0),(128,138),(140,140),(144,144),(149,149),(151,151),(153,157),(159,159)]else
 if k=4 then [(0,0),(16,16),(128,128),(131,131),(135,135),(144,145),(151,151),(153,153)]else
 if k=5 then [(0,0),(16,16),(128,128),(131,131),(135,135),(144,145),(151,151),(153,153)]else
 if k=6 then [(0,0),(146,146)]else
 if k=7 then [(0,0),(146,146)]else
 if k=9 then [(0,2),(128,128),(131,131),(135,135),(143,143),(145,145),(151,151),(158,158),(161,162)]else
 if k=11 then [(0,0),(17,17),(128,128),(131,131),(135,135),(143,143),(145,145)]else
 if k=14 then [(0,0),(4,4),(128,131),(135,135),(137,137),(139,139),(141,144),(147,162)]else
 if k=15 then [(0,0),(24,25)]else
 []
def ZeZ(s:Int×Int):AVal:=.agg [.int .i64 s.1,.int .i64 s.2]
def Zc1(c:Int)(s:Int×Int):Bool:=decide (c>=s.1)&&decide (c<=s.2)
def ZfS(k c:Int):Bool:=(Zcg k).any (Zc1 c)
theorem ZMc(k:Int):(Zcg k).length<=9:=by
 unfold Zcg
 repeat' split
 all_goals simp
theorem ZRn(k:Int):∃ f,E 49 [.int .i64 k] []=some (.lst f ((Zcg k).map ZeZ),[]):=by
 refine⟨true,?_⟩
 unfold Zcg
 by_cases h2:k=2
 ·subst h2
  rw[Zg (by rfl) Zfw]
  simp -implicitDefEqProofs only[EQA,Zc,Xd,Xc,Xf,Xa,reduceCtorEq,↓reduceIte,Zf5,ZeI,ZfE,Zb,Zao,AVal.cells,Zby,viewAs,Z3,ZN,Zae,Zv]
  rfl
 by_cases h4:k=4
 ·subst h4
  rw[Zg (by rfl) Zfw]
  simp -implicitDefEqProofs only[EQA,Zc,Zdk,Xd,Xc,Xf,Xa,reduceCtorEq,ite_self,↓reduceIte,Zf5,ZeI,ZfE,Zb,Xj,Zao,AVal.cells,Zby,viewAs,Z3,ZN,Zae,Zv]
  rfl
 by_cases h5:k=5
 ·subst h5
  rw[Zg (by rfl) Zfw]
  simp -implicitDefEqProofs only[EQA,Zc,Zdk,Xd,Xc,Xf,Xa,reduceCtorEq,ite_self,↓reduceIte,Zf5,ZeI,ZfE,Zb,Xj,Zao,AVal.cells,Zby,viewAs,Z3,ZN,Zae,Zv]
  rfl
 by_cases h6:k=6
 ·subst h6
  rw[Zg (by rfl) Zfw]
  simp -implicitDefEqProofs only[EQA,Zc,Zdk,Xd,Xc,Xf,Xa,reduceCtorEq,ite_self,↓reduceIte,Zf5,ZeI,ZfE,Zb,Xj,Zao,AVal.cells,Zby,viewAs,Z3,ZN,Zae,Zv]
  rfl
 by_cases h7:k=7
 ·subst h7
  rw[Zg (by rfl) Zfw]
  simp -implicitDefEqProofs only[EQA,Zc,Zdk,Xd,Xc,Xf,Xa,reduceCtorEq,ite_self,↓reduceIte,Zf5,ZeI,ZfE,Zb,Xj,Zao,AVal.cells,Zby,viewAs,Z3,ZN,Zae,Zv]
  rfl
 by_cases h9:k=9
 ·subst h9
  rw[Zg (by rfl) Zfw]
  simp -implicitDefEqProofs only[EQA,Zc,Zdk,Xd,Xc,Xf,Xa,reduceCtorEq,↓reduceIte,Zf5,ZeI,ZfE,Zb,Xj,Zao,AVal.cells,Zby,viewAs,Z3,ZN,Zae,Zv]
  rfl
 by_cases h11:k=11
 ·subst h11
  rw[Zg (by rfl) Zfw]
  simp -implicitDefEqProofs only[EQA,Zc,Zdk,Xd,Xc,Xf,Xa,reduceCtorEq,↓reduceIte,Zf5,ZeI,ZfE,Zb,Xj,Zao,AVal.cells,Zby,viewAs,Z3,ZN,Zae,Zv]
  rfl
 by_cases h14:k=14
 ·subst h14
  rw[Zg (by rfl) Zfw]
  simp -implicitDefEqProofs only[EQA,Zc,Zdk,Xd,Xc,Xf,Xa,reduceCtorEq,ite_self,↓reduceIte,Zf5,ZeI,ZfE,Zb,Xj,Zao,AVal.cells,Zby,viewAs,Z3,ZN,Zae,Zv]
  rfl
 by_cases h15:k=15
 ·subst h15
  rw[Zg (by rfl) Zfw]
  simp -implicitDefEqProofs only[EQA,Zc,Zdk,Xd,Xc,Xf,Xa,reduceCtorEq,ite_self,↓reduceIte,Zf5,ZeI,ZfE,Zb,Xj,Zao,AVal.cells,Zby,viewAs,Z3,ZN,Zae,Zv]
  rfl
 have b2:(k==2)=false:=by simpa using h2
 have b4:(k==4)=false:=by simpa using h4
 have b5:(k==5)=false:=by simpa using h5
 have b6:(k==6)=false:=by simpa using h6
 have b7:(k==7)=false:=by simpa using h7
 have b9:(k==9)=false:=by simpa using h9
 have b11:(k==11)=false:=by simpa using h11
 have b14:(k==14)=false:=by simpa using h14
 have b15:(k==15)=false:=by simpa using h15
 rw[if_neg h2,if_neg h4,if_neg h5,if_neg h6,if_neg h7,if_neg h9,if_neg h11,if_neg h14,if_neg h15]
 rw[Zg (by rfl) Zfw]
 simp -implicitDefEqProofs only[EQA,Zc,Xc,Xa,reduceCtorEq,↓reduceIte,Zf5,ZeI,ZfE,Zb,b2,b4,b5,b6,b7,b9,b11,b14,b15]
theorem ZUQ(c:Int)(s:Int×Int):E 50 [.agg [.int .i64 s.1,.int .i64 s.2],.ref 0 0] [.var [.int .i64 c]]=some (.bool (Zc1 c s),[.var [.int .i64 c]]):=by
 unfold Zc1
 rw[Zg (by rfl) ZBP]
 by_cases h:c>=s.1
 ·simp -implicitDefEqProofs only[EQA,ZE,Zc,ZT,Xd,Xc,Xa,Xg,Zy,unG,reduceCtorEq,↓reduceIte,Ze,ZAL,ZmO,ZvN,Zb,h]
  try (simp[ZR,gcA,Zw,Zt,Zl,ZH,Zn,Zo,ZI,Zm,ZD,Zj,Zp,Zz,ZB,Xv])
 ·simp -implicitDefEqProofs only[EQA,ZE,Zc,ZT,Xd,Xc,Xa,Xg,Zy,Z6,reduceCtorEq,↓reduceIte,Ze,ZAL,ZmO,ZvN,Zb,h]
  try (simp[ZR,gcA,Zw,Zt,Zl,ZH,Zn,Zo,ZI,Zm,ZD,Zj,Zp,Zz,ZB,Xv])
theorem ZKP(k:Int)(G:Za)(sq own:Nat):Zq E BY G sq 49 own true [.int .i64 k]=some (.lst false ((Zcg k).map ZeZ),G,{}):=by
 obtain⟨f,h⟩:=ZRn k
 exact Zct h (by kernel_rfl) rfl rfl rfl (fun _=>rfl) _ _ _
theorem ZUC(G:Za)(sq t own:Nat)(view:Bool)(c:Int)(s:Int×Int)(hs:G[t]?=some (.var [.int .i64 c]))(hff:Zaj G sq own=true):Zq E BY G sq 50 own view [.agg [.int .i64 s.1,.int .i64 s.2],.ref t 0]=some (.bool (Zc1 c s),G.set t (.var [.int .i64 c]),{ any:=true,upd:=[(t,[.int .i64 c])] }) :=
 ZqJ hs rfl rfl (by kernel_rfl) hff rfl rfl (fun C h=>by simp only[Zj,Zp,h]) rfl rfl (ZUQ c s)
theorem Zz9(L:List (Int×Int))(c:Int)(hL:L.length<=9223372036854775807):∀ (r:List (Int×Int)) (i:Nat),L.drop i=r ->
  ∃ z,ZnW 1 [(8,.int .i64 i),(7,.int .i64 L.length),(1,.fn 50 [.ref 0 0]),(0,.lst false (L.map ZeZ))] [.var [.int .i64 c]]=some (.int .i64 z,[.var [.int .i64 c]])/\decide (z>=0)=r.any (Zc1 c)
 | [],i,h=>by
  have h1:=Zep h
  refine⟨-1,?_,by simp⟩
  unfold ZnW
  rw[Z9]
  simp -implicitDefEqProofs only[EQA,Zc,ZT,Xc,Xa,reduceCtorEq,↓reduceIte,Ze,Zxt,ZEu,Zpx,Zps,Zlq,Zb,h1]
 |x::r,i,h=>by
  obtain⟨z,ih,hz⟩:=Zz9 L c hL r (i+1) (Zar h).2.1
  have h1:(i:Int)<L.length:=by have:=(Zar h).2.2;omega
  have e1:=iad (Zar h).1 ZeZ (k:=2) rfl
  have e3:=Zd1 h1 hL
  have hm:x∈L:=XL (Zar h).1
  have hc:=fun G sq t own view hs hff=>ZUC G sq t own view c x hs hff
  unfold ZnW at ih ⊢
  cases hb:Zc1 c x
  ·refine⟨z,?_,by grind⟩
   rw[Z9]
   simp -implicitDefEqProofs only[EQA,ZE,Zc,ZT,Xd,Xc,Xf,Xa,Xg,reduceCtorEq,↓reduceIte,gcT,gcA,Zw,Zt,Zn,Zo,ZI,Zm,ZD,Zz,ZB,Xv,Zps,Zlq,Zb,h1,e1,e3,hc,hb,Zaj,ZeZ]
   exact ih
  ·refine⟨i,?_,by simp[hb]⟩
   rw[Z9]
   simp -implicitDefEqProofs only[EQA,ZE,Zc,ZT,Xd,Xc,Xf,Xa,Xg,reduceCtorEq,↓reduceIte,Ze,Zxt,Zps,Zlq,Zb,h1,e1,hc,hb,Zaj,ZeZ]
theorem ZEQ(L:List (Int×Int))(c:Int)(hL:L.length<=9223372036854775807) :
  ∃ z,E 93 [.lst false (L.map ZeZ),.fn 50 [.ref 0 0]] [.var [.int .i64 c]]=some (.int .i64 z,[.var [.int .i64 c]])/\decide (z>=0)=L.any (Zc1 c):=by
 obtain⟨z,h,hz⟩:=Zz9 L c hL L 0 rfl
 refine⟨z,?_,hz⟩
 rw[Zg (by rfl) ZF0]
 have z0:((0:Nat):Int)=0:=rfl
 rw[z0]at h
 unfold ZnW at h
 simp -implicitDefEqProofs only[EQA,Zc,ZT,Xc,Xa,reduceCtorEq,↓reduceIte,gcT,gcA,Zw,Zt,Zn,Zo,ZI,Zm,ZD,Zz,ZB,Xv,ZMk,Zsm,Zb,h]
theorem ZGr(L:List (Int×Int))(c:Int)(hL:L.length<=9223372036854775807) :
  E 48 [.lst false (L.map ZeZ),.fn 50 [.ref 0 0]] [.var [.int .i64 c]]=some (.bool (L.any (Zc1 c)),[.var [.int .i64 c]]):=by
 obtain⟨z,h,hz⟩:=ZEQ L c hL
 rw[Zg (by rfl) ZPb]
 have hc:=fun(G:Za) sq t view hs=>ZqJ (O:=E) (bf:=BY) (G:=G) (t:=t) (sq:=sq) (own:=0) (view:=view) (f:=93) (args:=[.lst false (L.map ZeZ),.fn 50 [.ref t 0]]) (vs:=[.lst false (L.map ZeZ),.fn 50 [.ref t 0]]) hs rfl rfl (by kernel_rfl) rfl rfl rfl (fun C h=>by simp only[Zj,Zp,h]) rfl rfl h
 simp -implicitDefEqProofs only[EQA,Zc,ZT,Xc,Xa,reduceCtorEq,↓reduceIte,Ze,ZGQ,ZsL,ZRJ,Zb,hc,hz]
theorem ZBg(k c:Int):E 22 [.int .i64 k,.int .i64 c] []=some (.bool (ZfS k c),[]):=by
 have h:=ZGr (Zcg k) c (by have:=ZMc k;omega)
 have hC:=fun G sq own=>ZKP k G sq own
 unfold ZfS
 generalize Zcg k=L at *
 rw[Zg (by rfl) ZPt]
 have hc:=fun(G:Za) sq t view hs=>ZqJ (O:=E) (bf:=BY) (G:=G) (t:=t) (sq:=sq) (own:=0) (view:=view) (f:=48) (args:=[.lst false (L.map ZeZ),.fn 50 [.ref t 0]]) (vs:=[.lst false (L.map ZeZ),.fn 50 [.ref t 0]]) hs rfl rfl (by kernel_rfl) rfl rfl rfl (fun C h=>by simp only[Zj,Zp,h]) rfl rfl h
 simp -implicitDefEqProofs only[EQA,ZE,Zc,Xc,Xa,Xg,reduceCtorEq,↓reduceIte,ZQw,ZtZ,ZHN,Zb,hC,hc]
theorem Zlo(k c:Int)(G:Za)(sq own:Nat):Zq E BY G sq 22 own true [.int .i64 k,.int .i64 c]=some (.bool (ZfS k c),G,{}) :=
 ZdI (ZBg k c) (by kernel_rfl) (by simp -implicitDefEqProofs only[Zem,ZbW,eq_self,eq_self]) (by simp -implicitDefEqProofs only[ZE,ZbW,eq_self,eq_self]) rfl (fun _=>rfl) _ _ _ _
end
end Go.Proofs.YtjhabjdfhmbanaaGreatDoor
