/- packed -/
import Derived.Test.YtfhocpplckoodaaGreatDoorMq4
import Derived.Test.YtfhocpplckoodaaGreatDoorMq3
import Derived.Test.YtfhocpplckoodaaGreatDoorMq2
set_option linter.defProp false
set_option linter.unusedSectionVars false
set_option linter.unusedSimpArgs false
set_option linter.unusedVariables false
open Nat renaming reduceEqDiff→Xa,reduceLT→Xc,reduceAdd→Xe,reduceLeDiff→Xf,reduceBEq→Xg,zero_add→XB,le_refl→XF,add_zero→Wc,pow_le_pow_right→WN,one_mul→W7,sub_self→Xaa
open List renaming getD_eq_getElem?_getD→Xh,length_append→Xi,getElem?_eq_some_iff→Xl,map_cons→Xm,getElem?_set_ne→Xn,append_nil→Xo,length_cons→Xp,map_nil→Xt,getD_cons_zero→Xu,length_nil→Xw,lookup_nil→Xy,replicate→Xz,nil_append→XA,mem_of_getElem?→XC,length_map→XD,take_of_length_le→XI,getElem?_cons_zero→XJ,lookup_cons→XL,getD_cons_succ→XN,all_cons→XO,mem_cons→XR,getElem?_cons_succ→XT,append_assoc→XU,cons_append→XV,drop_eq_nil_iff→XW,length_take→X0,mem_map→X2,map_append→X4,flatMap_nil→X5,take_append_of_le_length→X6,getElem?_set_self→X7,length_drop→X9,range→Wa,range_succ→Wd,mem_singleton→Wf,isEmpty_cons→Wm,flatten_cons→Wn,all_nil→Ws,set_cons_zero→WH,set_cons_succ→WQ,length→Xab,count_le_length→Xaw,take_length→Xaz,replicate_succ→XaB,range_zero→XaH,count_cons→Xbe
open Bool renaming false_eq_true→Xj,and_eq_true→Xk,and_self→Wg,false_and→WX,eq_iff_iff→Xan,and_true→Xat,or_eq_false_iff→Xav
open Or renaming inl→Xr,inr→XE
open Int renaming reduceBEq→Xs,reduceLT→XY,toNat_natCast→Wv,toNat_zero→Xac,le_refl→Xar,reduceLE→Xa3
open BitVec renaming ofInt→XP
open Option renaming map→XZ,getD_some→WF
open UInt8 renaming toNat_ofNat'→Wr,toNat_inj→Xaq
open Classical renaming byContradiction→WP
open List.range renaming loop→XaY
namespace Go.Proofs.YtfhocpplckoodaaGreatDoor
set_option maxHeartbeats 16000000
set_option maxRecDepth 10000
section
section
variable {O:ZV}{bf:Nat->Bool}{σ:Za}{t f sq w:Nat}{rest:List AVal}{cs cs2 cs3 ys:List AVal}
theorem ZM7(hb:bf f=false)(hp:rest.all Zan=true)(hc:Zf cs=true)(hrf:Zt cs2=[1])(hren:∀ ρ:Rho,ρ 1 0=some (1,0)->Zh ρ cs2=cs2)(hback:∀ ρ:Rho,ρ 1 0=some (sq,0)->Zh ρ cs2=cs3)
  (h:O f (.ref 0 0::rest.map ZN) [.var cs]=some (.tup [],[.var cs2,.row 0 w ys])) (hs:σ[t]?=some (.var cs)) (hff:ZaM σ sq 1=true):Zj O bf σ sq f 1 true (.ref t 0::rest)=some (.tup [],(σ.set t (.var cs3)).set sq (.row 0 w ys),{ any:=true,upd:=[(t,cs3)] }):=by
 have hfs:σ[sq]?=some .free:=Zht (i:=0) hff (by omega)
 have hts:t≠sq:=by rintro rfl;rw[hs]at hfs;cases hfs
 have htl:t<σ.length:=(Xl.1 hs).1
 have hd:σ.getD t .free=.var cs:=by simp[Xh,hs]
 have hsh:showAs σ (.ref t 0::rest)=some (.ref t 0::rest.map ZN,[]):=by
  rw[showAs,show showA σ (.ref t 0)=some (.ref t 0,[])from rfl,Zej hp]
  rfl
 have href:Zt (.ref t 0::rest.map ZN)=[t]:=by
  rw[Zt,ZdC hp];rfl
 have hρ:Zk σ 0 [t] t 0=some (0,0):=by simp[Zk,ZI,hs,Zl,ZF]
 have hask:Z3 true [t].length (some (.tup [],[.var cs2,.row 0 w ys]))=some (.tup [],[.var cs2,.row 0 w ys]):=Zdv (j:=1) (σ:=[.var cs2,.row 0 w ys]) (r:=.tup []) rfl (by omega) rfl rfl hrf hren
 refine ZdG (ids:=[t]) hb hsh (by rw[href];exact Zff hs hc) rfl (by simp[hs,okB]) ?_ ?_ h hask (by simp) (by simp) ?_ hff rfl ?_ ?_
 ·rw[Zh,ZdE hp]
  simp only[Zo,hρ]
 ·simp only[Zn,hd,Zy,(ZaV _ cs hc).1]
 ·simp[ZaW,okB,hs,Zcr,Zl]
 ·have hb3:Zh (ZaJ σ [t] sq) cs2=cs3:=hback _ (by simp[ZaJ])
  simp only[Za9,ZaN,Xu,Zch,Zl,Zy,hb3]
  simp[]
 ·have e1:((σ.set t (.var cs3)).set sq (.row 0 w ys))[t]?=some (.var cs3):=by
   rw[Xn (fun e=>hts e.symm),X7 htl]
  simp only[ZaZ,e1]
theorem ZH0{x:AVal}{view:Bool}(hb:bf f=false)(hp:rest.all Zan=true)(hc:Zf cs=true)(hback:∀ ρ:Rho,ρ 1 0=some (sq,0)->Zh ρ cs2=cs3)(hx:ZS x=true)
  (h:O f (.ref 0 0::rest.map ZN) [.var cs]=some (.pan x,[.var cs2,.row 0 w ys])) (hs:σ[t]?=some (.var cs)) (hff:ZaM σ sq 1=true):Zj O bf σ sq f 1 view (.ref t 0::rest)=some (.pan x,(σ.set t (.var cs3)).set sq (.row 0 w ys),{ any:=true,upd:=[(t,cs3)] }):=by
 have hfs:σ[sq]?=some .free:=Zht (i:=0) hff (by omega)
 have hts:t≠sq:=by rintro rfl;rw[hs]at hfs;cases hfs
 have htl:t<σ.length:=(Xl.1 hs).1
 have hd:σ.getD t .free=.var cs:=by simp[Xh,hs]
 have hnp:ZS (.pan x)=true:=by simpa only[ZS]using hx
 have hsh:showAs σ (.ref t 0::rest)=some (.ref t 0::rest.map ZN,[]):=by
  rw[showAs,show showA σ (.ref t 0)=some (.ref t 0,[])from rfl,Zej hp]
  rfl
 have href:Zt (.ref t 0::rest.map ZN)=[t]:=by
  rw[Zt,ZdC hp];rfl
 have hρ:Zk σ 0 [t] t 0=some (0,0):=by simp[Zk,ZI,hs,Zl,ZF]
 have hask:Z3 view [t].length (some (.pan x,[.var cs2,.row 0 w ys]))=some (.pan x,[.var cs2,.row 0 w ys]):=by
  unfold Z3
  split<;>rfl
 refine ZdG (ids:=[t]) hb hsh (by rw[href];exact Zff hs hc) rfl (by simp[hs,okB]) ?_ ?_ h hask (by simp) (by simp) ?_ hff (Zbm _ _ hnp).1 ?_ ?_
 ·rw[Zh,ZdE hp]
  simp only[Zo,hρ]
 ·simp only[Zn,hd,Zy,(ZaV _ cs hc).1]
 ·simp[ZaW,okB,hs,Zcr,Zl]
 ·have hb3:Zh (ZaJ σ [t] sq) cs2=cs3:=hback _ (by simp[ZaJ])
  simp only[Za9,ZaN,Xu,Zch,Zl,Zy,hb3]
  simp[]
 ·have e1:((σ.set t (.var cs3)).set sq (.row 0 w ys))[t]?=some (.var cs3):=by
   rw[Xn (fun e=>hts e.symm),X7 htl]
  simp only[ZaZ,e1]
end
section
variable (b:Int)(l:Zc){P1 Q:List AVal}{kk n w:Nat}{ys:List AVal}(h1:P1.length=26)(n1:Zf P1=true)(hQ:Q.length=26)(nQ:Zf Q=true)(hk:kk<26)
include h1 n1 hQ nQ hk
theorem ZGG(oQ:∀ r g m,(Zq Q kk r g m).all ZX=true)
  (hf:E 77 [.ref 0 0,.int .u8 b] (Zm P0 l)=some (.tup [],Zm P1 l)) (hb:E 78 [.ref 0 0] (Zm P1 l)=some (.tup [],ZcG Q kk n [] w ys)) :
  evC FC PR BY 3 c2R (tput tmR (some 5) .top) (σR b l)=some (.ret,[(3,.ref 2 0),(2,.ref 1 0)],[.var [.int .u8 b,.lst false (l.map Zb)],.var (Zq Q kk 4 0 n),.var [.int .i64 0],.var (Zq Q kk 4 0 n++[.lst false []]),.row 0 w ys]):=by
 have hF:=fun(σ:Za) sq (hs:σ[3]?=some (.var (P0++[.lst false (l.map Zb)])))=>Zdn (O:=E) (bf:=BY) (f:=77) (rest:=[.int .u8 b]) (by kernel_rfl) rfl (by rfl) (ZaQ n1 (by rfl)) rfl rfl hf hs sq
 have hB:=fun(σ:Za) (hs:σ[3]?=some (.var (P1++[.lst false (l.map Zb)]))) (hfr:σ[4]?=some .free)=>ZM7 (O:=E) (bf:=BY) (f:=78) (sq:=4) (rest:=[]) (by kernel_rfl) rfl (ZaQ n1 (by rfl)) (ZbO Q hQ nQ hk 1 0 n []) (fun ρ h=>Zbc Q hQ nQ hk 1 0 n 1 0 [] ρ h) (fun ρ h=>Zbc Q hQ nQ hk 1 0 n 4 0 [] ρ h) hb hs (by simp[ZaM,freeAt,hfr])
 have hR:=Zcj Q hQ nQ kk hk n 4 0
 have b1:=Zal _ hR
 have b2:=Zfs _ hR
 have o2:=oQ 4 0 n
 simp only[Xt]at hB
 unfold P0 at hF
 simp only[XV,XA]at hF
 unfold tmR σR P0
 clear hf hb
 generalize Zq Q kk 4 0 n=R at *
 simp -implicitDefEqProofs only[EQA,ZaG,Xe,Xc,Xf,Xa,Xg,↓reduceIte,c2R,AVal.cells,Zab,hF,hB,b1,b2,hR,o2]
theorem ZTy{c:Int}(hf:E 77 [.ref 0 0,.int .u8 b] (Zm P0 l)=some (.tup [],Zm P1 l)){r:Zc}(hb:E 78 [.ref 0 0] (Zm P1 l)=some (.pan (ZH c),ZcG Q kk n r w ys)) :
  evC FC PR BY 3 c2R (tput tmR (some 5) .top) (σR b l)=some (.panic (ZH c),[],[.var [.int .u8 b,.lst false (l.map Zb)],.var P0,.var [.int .i64 0],.var (Zq Q kk 4 0 n++[.lst false (r.map Zb)]),.row 0 w ys]):=by
 have hF:=fun(σ:Za) sq (hs:σ[3]?=some (.var (P0++[.lst false (l.map Zb)])))=>Zdn (O:=E) (bf:=BY) (f:=77) (rest:=[.int .u8 b]) (by kernel_rfl) rfl (by rfl) (ZaQ n1 (by rfl)) rfl rfl hf hs sq
 have hB:=fun(σ:Za) (hs:σ[3]?=some (.var (P1++[.lst false (l.map Zb)]))) (hff:ZaM σ 4 1=true)=>ZH0 (O:=E) (bf:=BY) (f:=78) (view:=true) (sq:=4) (rest:=[]) (by kernel_rfl) rfl (ZaQ n1 (by rfl)) (fun ρ h=>Zbc Q hQ nQ hk 1 0 n 4 0 r ρ h) rfl hb hs hff
 unfold P0 at hF
 simp only[XV,XA]at hF
 unfold tmR σR P0
 clear hf hb
 generalize Zq Q kk 4 0 n=R at *
 simp -implicitDefEqProofs only[EQA,ZaG,Xe,Xc,Xf,Xa,Xg,↓reduceIte,c2R,AVal.cells,Zab,hF,hB,ZaM]
omit h1 n1
theorem ZGF(c:Int):Zga 0 1 2 rsR (.var [.int .u8 b,.lst false (l.map Zb)]::.var (Zq Q kk 4 0 n)::.var [.int .i64 c]::.var (Zq Q kk 4 0 n++[.lst false []])::.row 0 w ys::[])=some (.tup [.agg (Zq Q kk 0 0 n),.int .i64 c],[.row 0 w ys]):=by
 have hR:=Zcj Q hQ nQ kk hk n 4 0
 have hRf:=ZcF Q hQ nQ kk hk n 4 0
 have hre:=fun ρ h=>ZbX Q hQ nQ kk hk n (r:=4) (g:=0) (r':=0) (g':=0) ρ h
 generalize Zq Q kk 4 0 n=R at *
 have h1:resA [(3,.ref 2 0),(2,.ref 1 0)] (.var [.int .u8 b,.lst false (l.map Zb)]::.var R::.var [.int .i64 c]::.var (R++[.lst false []])::.row 0 w ys::[]) rsR=some (.tup [.agg R,.int .i64 c]):=by
  have h2:R.take 26=R:=XI (by omega)
  simp[resA,resAll,resOne,rsR,tget,ldA,partA,hR,h2]
 unfold Zga
 rw[h1]
 have hr:Zt [AVal.tup [.agg R,.int .i64 c]]=[4]:=by simp[Zt,ZT,hRf]
 have hi:Zu 0 [AVal.tup [.agg R,.int .i64 c]] (.var [.int .u8 b,.lst false (l.map Zb)]::.var R::.var [.int .i64 c]::.var (R++[.lst false []])::.row 0 w ys::[])=[4]:=by
  simp only[Zu,hr,XaH,X5,Xo]
  rfl
 have hρ:Zk (.var [.int .u8 b,.lst false (l.map Zb)]::.var R::.var [.int .i64 c]::.var (R++[.lst false []])::.row 0 w ys::[]) 0 [4] 4 0=some (0,0):=rfl
 simp only[Z4,gcA,hi,Zh,Zo,hre _ hρ,Zn,Xu,XN,ZF,Zl,Zy]
 simp
end
theorem ZUO(b:Int)(l:Zc){P1 Q:List AVal}{kk n w:Nat}{ys:List AVal}(h1:P1.length=26)(n1:Zf P1=true)(hQ:Q.length=26)(nQ:Zf Q=true)(hk:kk<26)(oQ:∀ r g m,(Zq Q kk r g m).all ZX=true)
  (hf:E 77 [.ref 0 0,.int .u8 b] (Zm P0 l)=some (.tup [],Zm P1 l)) (hb:E 78 [.ref 0 0] (Zm P1 l)=some (.tup [],ZcG Q kk n [] w ys)) :
  Zfn [.agg [.int .u8 b,.lst false (l.map Zb)]] []=some (.tup [.agg (Zq Q kk 0 0 n),.int .i64 0],[.row 0 w ys]):=by
 unfold Zfn Zjd
 show(match evC FC PR BY 0 c1R (enterA 0 [.agg [.int .u8 b,.lst false (l.map Zb)]] []) []with |some (.normal,tm1,σ1)=>_ |_=>none)=_
 rw[ZpI]
 show(if(0:Nat)<=(σR b l).length/\1<(σR b l).length/\2<(σR b l).length then ZgX FC PR BY 41 c2R c3R rsR 0 (tput tmR (some 5) .top) (σR b l) 1 2 else none)=_
 rw[if_pos (by simp[σR])]
 unfold ZgX
 rw[show(σR b l).length=3 from rfl,ZGG b l h1 n1 hQ nQ hk oQ hf hb]
 exact ZGF b l hQ nQ hk 0
theorem ZFX{b c:Int}{l:Zc}{Q:List AVal}{q:ZE}{w:Nat}{ys:List AVal}(h:E1 57 [.agg [.int .u8 b,.lst false (l.map Zb)]] []=some (.tup [.agg Q,.int .i64 c],[.row 0 w ys]))(hv:∀ σ:Za,σ[0]?=some (.row 0 w ys)->Zat σ Q=some (ZB q,[0])) :
  Z3 true 0 (E1 57 [.agg [.int .u8 b,.lst false (l.map Zb)]] [])=some (.tup [ZaH q,.int .i64 c],[]):=by
 rw[h]
 show ZbB 0 (some (.tup [.agg Q,.int .i64 c],[.row 0 w ys]))=some (.tup [ZaH q,.int .i64 c],[])
 have h1:viewR [.row 0 w ys] (.tup [.agg Q,.int .i64 c])=some (.tup [ZaH q,.int .i64 c],[0]):=by
  rw[viewR,viewAs,ZP,hv _ rfl]
  rfl
 unfold ZbB
 simp only[h1]
 have e1:=Zp2 q
 have e2:=ZlX q
 have hi:Zu 0 [AVal.tup [ZaH q,.int .i64 c]] (Zr [.row 0 w ys] [0])=[]:=by
  have : Zt [AVal.tup [ZaH q,.int .i64 c]]=[]:=by simp[Zt,ZT,Zb0,e1]
  simp only[Zu,this,XA,XaH,X5]
  rfl
 simp only[gcA,hi,Zh,Zo,Zn]
 rw[Zb0,Zo,e2]
end
section
def Zo4(q:ZE)(m:Int):ZE:={ q with clean:=ZD m 2 != 0,hasWill:=ZD m 4 != 0,hasPassword:=ZD m 64 != 0,hasUser:=ZD m 128 != 0,will:={ q.will with qos:=ZD (ZeW m) 3,retain:=ZD m 32 != 0 } }
def headD(q:ZE)(k:Int)(ps:List Zp)(cl:Zc):ZE:={ q with keep:=k,props:=ps,client:=cl }
def ZkX(b:Bool)(q:ZE)(l:Zc):Except Int (ZE×Zc):=if b=true then(match ZdK l with
 | .error c=>.error c
 | .ok (d,r)=>.ok ({ q with password:=d },r))else .ok (q,l)
def Zi0(b:Bool)(q:ZE)(l:Zc):Except Int (ZE×Zc):=if b=true then(match ZaD l with
 | .error c=>.error c
 | .ok (d,r)=>.ok ({ q with user:=d },r))else .ok (q,l)
def ZiZ(b:Bool)(q:ZE)(l:Zc):Except Int (ZE×Zc):=if b=true then(match ZeQ l with
 | .error c=>.error c
 | .ok (ps,tp,d,r)=>.ok ({ q with will:={ q.will with props:=ps,topic:=tp,data:=d } },r))else .ok (q,l)
def ZoI(m:Int)(q:ZE)(l:Zc):Except Int (ZE×Zc):=match ZiZ (ZD m 4 != 0) q l with
 | .error c=>.error c
 | .ok (q,l)=>match Zi0 (ZD m 128 != 0) q l with
  | .error c=>.error c
  | .ok (q,l)=>ZkX (ZD m 64 != 0) q l
def ZmO(q:ZE)(m:Int)(l:Zc):Except Int (ZE×Zc):=match ZaU 2 l with
 | .error c=>.error c
 | .ok (k,r4)=>match ZbU 1 r4 with
  | .error c=>.error c
  | .ok (ps,r5)=>match ZaD r5 with
   | .error c=>.error c
   | .ok (cl,r6)=>ZoI m (headD (Zo4 q m) k ps cl) r6
def Zhh(q:ZE)(l:Zc):Except Int (ZE×Zc):=match ZaD l with
 | .error c=>.error c
 | .ok (s,r1)=>if(s==[77,81,84,84])=true then(match ZaU 1 r1 with
  | .error c=>.error c
  | .ok (v,r2)=>if(v==5)=true then(match ZaU 1 r2 with
   | .error c=>.error c
   | .ok (m,r3)=>if Zjo m (ZD (ZeW m) 3) (ZD m 4 != 0) (ZD m 32 != 0)=true then ZmO q m r3 else .error 129)
   else .error 132)
  else .error 132
structure Is(P:List AVal)(q:ZE):Prop where
 view:∀ σ,Zat σ P=some (ZB q,[])
 ok:P.all ZX=true
theorem Zss{σ:Za}{v y:AVal}{ts:List Nat}(hv:ZK σ v=some (y,ts)):∀ {P ys:List AVal} {k:Nat},Zat σ P=some (ys,[])->k<P.length->Zat σ (P.set k v)=some (ys.set k y,ts)
 | [],_,_,_,h=>by simp at h
 |x::P,ys,k,h,hk=>by
  rw[Zat]at h
  split at h
  ·rename_i y0 t0 h0
   split at h
   ·rename_i ys0 us0 h1
    injection h with h;injection h with h2 h3
    obtain⟨rfl,rfl⟩:=List.append_eq_nil_iff.1 h3
    subst h2
    cases k with
    |zero =>
     rw[WH,Zat,hv]
     simp only[h1,Xo]
     rfl
    |succ k =>
     rw[WQ,Zat,h0]
     simp only[Zss hv h1 (by simpa using hk)]
     rfl
   ·cases h
  ·cases h
theorem ZpA{v:AVal}(hv:ZX v=true):∀ {P:List AVal} {k:Nat},P.all ZX=true->(P.set k v).all ZX=true
 | [],_,_=>rfl
 |x::P,0,h=>by
  simp only[WH,XO,Xk]at h⊢
  exact⟨hv,h.2⟩
 |x::P,k+1,h=>by
  simp only[WQ,XO,Xk]at h⊢
  exact⟨h.1,ZpA hv h.2⟩
theorem Is.set{P:List AVal}{q q':ZE}(h:Is P q){k:Nat}{v y:AVal}(hk:k<P.length)(hv:∀ σ,ZK σ v=some (y,[]))(ho:ZX v=true)(hc:(ZB q).set k y=ZB q'):Is (P.set k v) q' :=
 ⟨fun σ=>by rw[Zss (hv σ) (h.view σ) hk,hc],ZpA ho h.ok⟩
section
variable {P:List AVal}{q:ZE}(hP:P.length=26)(h:Is P q)
include hP h
theorem ZH3(m:Int):Is (ZbT P m) (Zo4 q m):=by
 unfold ZbT
 have h1:=h.set (k:=12) (q':={ q with clean:=ZD m 2 != 0 }) (v:=.bool (ZD m 2 != 0)) (by omega) (fun _=>rfl) rfl rfl
 have h2:=h1.set (k:=15) (q':={ q with clean:=ZD m 2 != 0,hasWill:=ZD m 4 != 0 }) (v:=.bool (ZD m 4 != 0)) (by simp[hP]) (fun _=>rfl) rfl rfl
 have h3:=h2.set (k:=23) (q':={ q with clean:=ZD m 2 != 0,hasWill:=ZD m 4 != 0,hasPassword:=ZD m 64 != 0 }) (v:=.bool (ZD m 64 != 0)) (by simp[hP]) (fun _=>rfl) rfl rfl
 have h4:=h3.set (k:=21) (q':={ q with clean:=ZD m 2 != 0,hasWill:=ZD m 4 != 0,hasPassword:=ZD m 64 != 0,hasUser:=ZD m 128 != 0 }) (v:=.bool (ZD m 128 != 0)) (by simp[hP]) (fun _=>rfl) rfl rfl
 have h5:=h4.set (k:=18) (q':={ q with clean:=ZD m 2 != 0,hasWill:=ZD m 4 != 0,hasPassword:=ZD m 64 != 0,hasUser:=ZD m 128 != 0,will:={ q.will with qos:=ZD (ZeW m) 3 } }) (v:=.int .i64 (ZD (ZeW m) 3)) (by simp[hP]) (fun _=>rfl) rfl rfl
 exact h5.set (k:=19) (v:=.bool (ZD m 32 != 0)) (by simp[hP]) (fun _=>rfl) rfl rfl
theorem ZDS(k:Int)(ps:List Zp)(cl:Zc):Is (Zkm P k ps cl) (headD q k ps cl):=by
 unfold Zkm
 have h1:=h.set (k:=13) (q':={ q with keep:=k }) (v:=.int .i64 k) (by omega) (fun _=>rfl) rfl rfl
 have h2:=h1.set (k:=9) (q':={ q with keep:=k,props:=ps }) (v:=.lst false (ps.map Zg)) (by simp[hP]) (fun _=>rfl) rfl rfl
 exact h2.set (k:=14) (v:=.str cl) (by simp[hP]) (fun _=>rfl) rfl rfl
theorem ZNx(ps:List Zp)(tp d:Zc):Is (ZiK P ps tp d) { q with will:={ q.will with props:=ps,topic:=tp,data:=d } }:=by
 unfold ZiK
 have h1:=h.set (k:=20) (q':={ q with will:={ q.will with props:=ps } }) (v:=.lst false (ps.map Zg)) (by omega) (fun _=>rfl) rfl rfl
 have h2:=h1.set (k:=16) (q':={ q with will:={ q.will with props:=ps,topic:=tp } }) (v:=.str tp) (by simp[hP]) (fun _=>rfl) rfl rfl
 exact h2.set (k:=17) (v:=.lst false (d.map Zb)) (by simp[hP]) (fun _=>rfl) rfl rfl
end
def Ziu(x:Except Int KSt)(y:Except Int (ZE×Zc)):Prop:=match x with
 | .error e=>y=.error e
 | .ok (P,l)=>∃ q,y=.ok (q,l)/\P.length=26/\Is P q
section
variable {P:List AVal}{q:ZE}(hP:P.length=26)(h:Is P q)(l:Zc)
include hP h
theorem ZDe(b:Bool):Ziu (Zjs b (P,l)) (ZkX b q l):=by
 unfold Zjs ZkX
 cases b
 ·exact⟨q,rfl,hP,h⟩
 ·rw[if_pos rfl,if_pos rfl]
  cases hd:ZdK l with
  |error c=>exact rfl
  |ok a=>exact⟨_,rfl,by simp[hP],h.set (by omega) (fun _=>rfl) rfl rfl⟩
theorem ZGQ(b:Bool):Ziu (Zjk b (P,l)) (Zi0 b q l):=by
 unfold Zjk Zi0
 cases b
 ·exact⟨q,rfl,hP,h⟩
 ·rw[if_pos rfl,if_pos rfl]
  cases hd:ZaD l with
  |error c=>exact rfl
  |ok a=>exact⟨_,rfl,by simp[hP],h.set (by omega) (fun _=>rfl) rfl rfl⟩
theorem ZFC(b:Bool):Ziu (Zj3 b (P,l)) (ZiZ b q l):=by
 unfold Zj3 ZiZ
 cases b
 ·exact⟨q,rfl,hP,h⟩
 ·rw[if_pos rfl,if_pos rfl]
  cases hd:ZeQ l with
  |error c=>exact rfl
  |ok a =>
   obtain⟨ps,tp,d,r⟩:=a
   exact⟨_,rfl,by simp[ZiK,hP],ZNx hP h ps tp d⟩
theorem ZDz(m:Int):Ziu (ZjJ m (P,l)) (ZoI m q l):=by
 unfold ZjJ ZoI
 have h1:=ZFC hP h l (ZD m 4 != 0)
 cases hw:Zj3 (ZD m 4 != 0) (P,l)with
 |error e =>
  rw[hw]at h1
  rw[show ZiZ (ZD m 4 != 0) q l=.error e from h1]
  exact rfl
 |ok s =>
  obtain⟨P1,l1⟩:=s
  rw[hw]at h1
  obtain⟨q1,e1,hP1,i1⟩:=h1
  rw[e1]
  simp only
  have h2:=ZGQ hP1 i1 l1 (ZD m 128 != 0)
  cases hu:Zjk (ZD m 128 != 0) (P1,l1)with
  |error e =>
   rw[hu]at h2
   rw[show Zi0 (ZD m 128 != 0) q1 l1=.error e from h2]
   exact rfl
  |ok s =>
   obtain⟨P2,l2⟩:=s
   rw[hu]at h2
   obtain⟨q2,e2,hP2,i2⟩:=h2
   rw[e2]
   exact ZDe hP2 i2 l2 _
theorem ZOh(m:Int):Ziu (ZkE P m l) (ZmO q m l):=by
 unfold ZkE ZmO
 cases h1:ZaU 2 l with
 |error c=>exact rfl
 |ok a =>
 obtain⟨k,r4⟩:=a
 simp only
 cases h2:ZbU 1 r4 with
 |error c=>exact rfl
 |ok a =>
 obtain⟨ps,r5⟩:=a
 simp only
 cases h3:ZaD r5 with
 |error c=>exact rfl
 |ok a =>
 obtain⟨cl,r6⟩:=a
 exact ZDz (by simp[Zkm,ZbT,hP]) (ZDS (by simp[ZbT,hP]) (ZH3 hP h m) k ps cl) r6 m
theorem ZBV:Ziu (ZjE P l) (Zhh q l):=by
 unfold ZjE Zhh
 cases h1:ZaD l with
 |error c=>exact rfl
 |ok a =>
 obtain⟨s,r1⟩:=a
 simp only
 split
 case isFalse=>exact rfl
 cases h2:ZaU 1 r1 with
 |error c=>exact rfl
 |ok a =>
 obtain⟨v,r2⟩:=a
 simp only
 split
 case isFalse=>exact rfl
 cases h3:ZaU 1 r2 with
 |error c=>exact rfl
 |ok a =>
 obtain⟨m,r3⟩:=a
 simp only
 split
 case isFalse=>exact rfl
 exact ZOh hP h r3 m
end
def Zdo(x:Except Int (ZE×Zc)):Except Int ZE:=match x with
 | .error e=>.error e
 | .ok (q,r)=>if r.length=0 then .ok q else .error 129
def ZhL(q:ZE)(l:Zc):Except Int (ZE×Zc):=match Zdl q.type l with
 | .error e=>.error e
 | .ok ((c,ps),r)=>.ok ({ q with code:=c,props:=ps.getD [] },r)
def idQ(q:ZE)(l:Zc):Except Int (ZE×Zc):=match idK l with
 | .error e=>.error e
 | .ok (n,r)=>ZhL { q with id:=n } r
def ZjW(q:ZE)(l:Zc):Except Int (ZE×Zc):=match ZaU 1 l with
 | .error e=>.error e
 | .ok (f,r)=>if f<2 then(match ZaY 2 r with
  | .error e=>.error e
  | .ok (c,r2)=>match ZbU 2 r2 with
   | .error e=>.error e
   | .ok (ps,r3)=>.ok ({ q with present:=f==1,code:=c,props:=ps },r3))else .error 129
def ZlH(q:ZE)(l:Zc):Except Int ZE:=match ZbV ZbN 8 l with
 | .error e=>.error e
 | .ok (n,ps,ts)=>.ok { q with id:=n,props:=ps,subs:=ts }
def Zk9(q:ZE)(l:Zc):Except Int ZE:=match ZbV ZaD 10 l with
 | .error e=>.error e
 | .ok (n,ps,ts)=>.ok { q with id:=n,props:=ps,filters:=ts }
def Zjl(q:ZE)(l:Zc):Except Int ZE:=match ZbV (ZaY q.type) q.type l with
 | .error e=>.error e
 | .ok (n,ps,ts)=>.ok { q with id:=n,props:=ps,codes:=ts }
def ZiO(t:Int)(l:Zc):Except Int ZE :=
 if t=1 then Zdo (Zhh { ZaT with type:=1 } l)
 else if t=2 then Zdo (ZjW { ZaT with type:=2 } l)
 else if t=4\/t=5\/t=6\/t=7 then Zdo (idQ { ZaT with type:=t } l)
 else if t=8 then ZlH { ZaT with type:=8 } l
 else if t=10 then Zk9 { ZaT with type:=10 } l
 else if t=9\/t=11 then Zjl { ZaT with type:=t } l
 else if t=14\/t=15 then Zdo (ZhL { ZaT with type:=t } l)
 else Zdo (.ok ({ ZaT with type:=t },l))
def ZdQ(b:Int)(l:Zc):ZE×Int :=
 if tyI b=0 then(ZaT,129)else if tyI b=3 then ZiM b l
 else if ZbH b 15=Ze6 (tyI b)then(match ZiO (tyI b) l with
  | .error e=>(ZaT,e)
  | .ok q=>(q,0))else(ZaT,129)
def Zed (t : Int) (l : Zc) (x : Except Int ZE) : Prop := match x with
  | .ok q => (∃ Q L, Q.length = 26 /\ Zf Q = true /\ ZS L = true /\ Is Q q /\ E 78 [.ref 0 0] (Zm (P0.set 0 (.int .i64 t)) l) = some (.tup [], [.var (Q ++ [L])])) \/
      (∃ Q q0 kk w ys, Q.length = 26 /\ Zf Q = true /\ kk < 26 /\ Is Q q0 /\ (ZB q0).set kk (.lst false ys) = ZB q /\ E 78 [.ref 0 0] (Zm (P0.set 0 (.int .i64 t)) l) = some (.tup [], ZcG Q kk ys.length [] w ys))
  | .error e => (∃ cs, Zf cs = true /\ E 78 [.ref 0 0] (Zm (P0.set 0 (.int .i64 t)) l) = some (.pan (ZH e), [.var cs])) \/
      (∃ Q kk n r w ys, Q.length = 26 /\ Zf Q = true /\ kk < 26 /\ E 78 [.ref 0 0] (Zm (P0.set 0 (.int .i64 t)) l) = some (.pan (ZH e), ZcG Q kk n r w ys))
theorem ZjO{t:Int}{l:Zc}{q:ZE}{Q:List AVal}{r:Zc}(hQ:Q.length=26)(hN:Zf Q=true)(hi:Is Q q)(h:E 78 [.ref 0 0] (Zm (P0.set 0 (.int .i64 t)) l)=some (if r.length=0 then .tup []else .pan (ZH 129),Zm Q r)):Zed t l (Zdo (.ok (q,r))):=by
 unfold Zdo
 simp only
 split at h
 ·rename_i h0
  rw[if_pos h0]
  exact Xr ⟨Q,_,hQ,hN,rfl,hi,h⟩
 ·rename_i h0
  rw[if_neg h0]
  exact Xr ⟨_,ZG Q hQ hN _ _,h⟩
theorem Zoj{t:Int}{l:Zc}{kk w:Nat}{e:Int}(hk:kk<26)(h:ZjP kk w l (P0.set 0 (.int .i64 t)) e):Zed t l (.error e):=by
 rcases h with⟨cs,h1,h2⟩ |⟨Q,n,r,ys,h1,h2,h3⟩
 ·exact Xr ⟨cs,h1,h2⟩
 ·exact XE ⟨Q,kk,n,r,w,ys,h1,h2,hk,h3⟩
section
variable (l:Zc)(hl:l.length<=1099511627775)
include hl
theorem hlP:l.length<=140737488355328:=by omega
theorem ZKD:Zed 1 l (Zdo (Zhh { ZaT with type:=1 } l)):=by
 have hs:=ZBV (P:=P0.set 0 (.int .i64 1)) (q:={ ZaT with type:=1 }) rfl ⟨fun σ=>rfl,rfl⟩ l
 have hr:=ZKR (P0.set 0 (.int .i64 1)) rfl (by rfl) l (hlP l hl) (fun r _=>Zen 1 r) (fun r _=>Zen 16 r)
 cases hc:ZjE (P0.set 0 (.int .i64 1)) l with
 |error e =>
  rw[hc]at hs hr
  rw[show Zhh { ZaT with type:=1 } l=.error e from hs]
  obtain⟨cs,hn,he⟩:=KRuns.fnF (f:=100) (fn:=ZsX) (by rfl) ZwA hr
  exact Xr ⟨cs,hn,ZFB (P0.set 0 (.int .i64 1)) rfl (by rfl) rfl l (hlP l hl) hn he⟩
 |ok s =>
  obtain⟨Q,r⟩:=s
  rw[hc]at hs hr
  obtain⟨q,e1,hQ,hi⟩:=hs
  rw[e1]
  have hQN:Zf Q=true:=by obtain⟨_,_,_,h3,_⟩:=hr;exact h3
  have he:=KRuns.fnT (f:=100) (fn:=ZsX) (by rfl) ZwA rfl hr
  refine ZjO hQ hQN hi ?_
  by_cases h0:r.length=0
  ·rw[if_pos h0];exact ZEc (P0.set 0 (.int .i64 1)) rfl (by rfl) rfl l (hlP l hl) he hQ hQN h0
  ·rw[if_neg h0];exact ZFo (P0.set 0 (.int .i64 1)) rfl (by rfl) rfl l (hlP l hl) he hQ hQN h0
theorem ZWs:Zed 2 l (Zdo (ZjW { ZaT with type:=2 } l)):=by
 have hP:(P0.set 0 (.int .i64 2)).length=26:=rfl
 have hN:Zf (P0.set 0 (.int .i64 2))=true:=by rfl
 unfold ZjW
 cases h1:ZaU 1 l with
 |error e=>exact Xr (ZPG _ hP hN rfl l (hlP l hl) h1)
 |ok a =>
 obtain⟨f,r⟩:=a
 simp only
 split
 case isFalse hf=>exact Xr (ZWa _ hP hN rfl l (hlP l hl) h1 hf)
 rename_i hf
 cases h2:ZaY 2 r with
 |error e=>exact Xr (ZNe _ hP hN rfl l (hlP l hl) h1 hf h2)
 |ok a =>
 obtain⟨c,r2⟩:=a
 simp only
 cases h3:ZbU 2 r2 with
 |error e=>exact Xr (ZMR _ hP hN rfl l (hlP l hl) h1 hf h2 h3)
 |ok a =>
 obtain⟨ps,r3⟩:=a
 exact ZjO (by simp[hP]) (ZZ (Zcn _ _) _ (ZZ rfl _ (ZZ rfl _ hN))) ⟨fun σ=>rfl,rfl⟩ (ZWY _ hP hN rfl l (hlP l hl) h1 hf h2 h3 (Zen 2 r2))
theorem ZuY{P:List AVal}{q:ZE}(hP:P.length=26)(h:Is P q)(c:Int)(ps:Option (List Zp)):Is (ZeL P c ps) { q with code:=c,props:=ps.getD [] }:=by
 unfold ZeL
 have h1:=h.set (k:=7) (q':={ q with code:=c }) (v:=.int .i64 c) (by omega) (fun _=>rfl) rfl rfl
 cases ps with
 |none=>exact h1.set (k:=9) (v:=.lst true []) (by simp[hP]) (fun _=>rfl) rfl rfl
 |some ps=>exact h1.set (k:=9) (v:=.lst false (ps.map Zg)) (by simp[hP]) (fun _=>rfl) rfl rfl
theorem Zwl(k:Int)(hk:k=14\/k=15):Zed k l (Zdo (ZhL { ZaT with type:=k } l)):=by
 have hP:(P0.set 0 (.int .i64 k)).length=26:=rfl
 have hN:Zf (P0.set 0 (.int .i64 k))=true:=by rfl
 unfold ZhL
 simp only
 cases h1:Zdl k l with
 |error e=>exact Xr (ZIx _ hP hN k hk rfl (fun r _=>Zen k r) l (hlP l hl) h1)
 |ok a =>
 obtain⟨⟨c,ps⟩,r⟩:=a
 obtain⟨i1,i2⟩:=ZmR hP hN c ps
 exact ZjO i1 i2 (ZuY l hl (q:={ ZaT with type:=k }) hP ⟨fun σ=>rfl,rfl⟩ c ps) (ZGm _ hP hN k hk rfl rfl rfl (fun r _=>Zen k r) l (hlP l hl) h1)
theorem Zmt(k:Int)(hk:k=4\/k=5\/k=6\/k=7):Zed k l (Zdo (idQ { ZaT with type:=k } l)):=by
 have hP:(P0.set 0 (.int .i64 k)).length=26:=rfl
 have hN:Zf (P0.set 0 (.int .i64 k))=true:=by rfl
 unfold idQ ZhL
 simp only
 cases h0:idK l with
 |error e=>exact Xr (ZLP _ hP hN k hk rfl l (hlP l hl) h0)
 |ok a =>
 obtain⟨n,r1⟩:=a
 simp only
 cases h1:Zdl k r1 with
 |error e=>exact Xr (ZHB _ hP hN k hk rfl (fun r _=>Zen k r) l (hlP l hl) h0 h1)
 |ok a =>
 obtain⟨⟨c,ps⟩,r⟩:=a
 obtain⟨i1,i2⟩:=ZmR (P:=(P0.set 0 (.int .i64 k)).set 4 (.int .i64 n)) rfl (by rfl) c ps
 exact ZjO i1 i2 (ZuY l hl (q:={ ZaT with type:=k,id:=n }) rfl ⟨fun σ=>rfl,rfl⟩ c ps) (ZGo _ hP hN k hk rfl rfl rfl (fun r _=>Zen k r) l (hlP l hl) h0 h1)
theorem ZAt(k:Int)(hk:k=12\/k=13):Zed k l (Zdo (.ok ({ ZaT with type:=k },l))) :=
 ZjO (Q:=P0.set 0 (.int .i64 k)) rfl (by rfl) ⟨fun σ=>rfl,rfl⟩ (ZNQ _ rfl (by rfl) k hk rfl l)
theorem Zei(k:Int):QOk k (P0.set 0 (.int .i64 k)):=⟨rfl,by rfl,rfl,rfl,rfl,rfl⟩
theorem Zla(k:Int)(n:Int)(ps:List Zp):Is (Zcg (P0.set 0 (.int .i64 k)) n ps) { ZaT with type:=k,id:=n,props:=ps }:=⟨fun σ=>rfl,rfl⟩
theorem ZDC:Zed 8 l (ZlH { ZaT with type:=8 } l):=by
 unfold ZlH
 cases h:ZbV ZbN 8 l with
 |error e=>exact Zoj (by omega) (ZLf _ l hl (Zei l hl 8) h)
 |ok a =>
 obtain⟨n,ps,ts⟩:=a
 have hQ:=Zd7 (Zei l hl 8) n ps
 have:=ZSH _ l hl (Zei l hl 8) h
 rw[<-XD (f:=Zaa)]at this
 exact XE ⟨_,_,10,6,ts.map Zaa,hQ.len,hQ.nor,by omega,Zla l hl 8 n ps,rfl,this⟩
theorem ZNb:Zed 10 l (Zk9 { ZaT with type:=10 } l):=by
 unfold Zk9
 cases h:ZbV ZaD 10 l with
 |error e=>exact Zoj (by omega) (ZMO _ l hl (Zei l hl 10) h)
 |ok a =>
 obtain⟨n,ps,ts⟩:=a
 have hQ:=Zd7 (Zei l hl 10) n ps
 have:=ZPF _ l hl (Zei l hl 10) h
 rw[<-XD (f:=AVal.str)]at this
 exact XE ⟨_,_,11,1,ts.map AVal.str,hQ.len,hQ.nor,by omega,Zla l hl 10 n ps,rfl,this⟩
theorem ZUA:Zed 9 l (Zjl { ZaT with type:=9 } l):=by
 unfold Zjl
 simp only
 cases h:ZbV (ZaY 9) 9 l with
 |error e=>exact Zoj (by omega) (ZOJ _ l hl (Zei l hl 9) h)
 |ok a =>
 obtain⟨n,ps,ts⟩:=a
 have hQ:=Zd7 (Zei l hl 9) n ps
 have:=ZQC _ l hl (Zei l hl 9) h
 rw[<-XD (f:=AVal.int .i64)]at this
 exact XE ⟨_,_,8,1,ts.map (AVal.int .i64),hQ.len,hQ.nor,by omega,Zla l hl 9 n ps,rfl,this⟩
theorem ZKF:Zed 11 l (Zjl { ZaT with type:=11 } l):=by
 unfold Zjl
 simp only
 cases h:ZbV (ZaY 11) 11 l with
 |error e=>exact Zoj (by omega) (ZPx _ l hl (Zei l hl 11) h)
 |ok a =>
 obtain⟨n,ps,ts⟩:=a
 have hQ:=Zd7 (Zei l hl 11) n ps
 have:=ZVx _ l hl (Zei l hl 11) h
 rw[<-XD (f:=AVal.int .i64)]at this
 exact XE ⟨_,_,8,1,ts.map (AVal.int .i64),hQ.len,hQ.nor,by omega,Zla l hl 11 n ps,rfl,this⟩
theorem ZKS(t:Int)(h1:1<=t/\t<=15)(h3:t≠3):Zed t l (ZiO t l):=by
 have : t=1\/t=2\/t=4\/t=5\/t=6\/t=7\/t=8\/t=9\/t=10\/t=11\/t=12\/t=13\/t=14\/t=15:=by omega
 unfold ZiO
 rcases this with rfl |rfl |rfl |rfl |rfl |rfl |rfl |rfl |rfl |rfl |rfl |rfl |rfl |rfl
 ·exact ZKD l hl
 ·exact ZWs l hl
 ·exact Zmt l hl 4 (by decide)
 ·exact Zmt l hl 5 (by decide)
 ·exact Zmt l hl 6 (by decide)
 ·exact Zmt l hl 7 (by decide)
 ·exact ZDC l hl
 ·exact ZUA l hl
 ·exact ZNb l hl
 ·exact ZKF l hl
 ·exact ZAt l hl 12 (by decide)
 ·exact ZAt l hl 13 (by decide)
 ·exact Zwl l hl 14 (by decide)
 ·exact Zwl l hl 15 (by decide)
end
theorem ZOi(b:Int)(hb:0<=b/\b<256):0<=tyI b/\tyI b<=15:=by
 have h:∀ n:Nat,n<256->0<=tyI (n:Int)/\tyI (n:Int)<=15:=by decide +kernel
 have:=h b.toNat (by omega)
 rwa [Int.toNat_of_nonneg hb.1]at this
theorem Zrk{b c:Int}{l:Zc}{Q:List AVal}{q:ZE}(h:E1 57 [.agg [.int .u8 b,.lst false (l.map Zb)]] []=some (.tup [.agg Q,.int .i64 c],[]))(hv:∀ σ,Zat σ Q=some (ZB q,[])):Z3 true 0 (E1 57 [.agg [.int .u8 b,.lst false (l.map Zb)]] [])=some (.tup [ZaH q,.int .i64 c],[]):=by
 rw[h];exact ZCv c hv
theorem ZNX(b:Int)(hb:0<=b/\b<256)(l:Zc)(hl:l.length<=1099511627775):Z3 true 0 (E1 57 [.agg [.int .u8 b,.lst false (l.map Zb)]] [])=some (.tup [ZaH (ZdQ b l).1,.int .i64 (ZdQ b l).2],[]):=by
 have hr:=ZOi b hb
 have hF:∀ c,Zfn [.agg [.int .u8 b,.lst false (l.map Zb)]] []=some (.tup [.agg P0,.int .i64 c],[])->Z3 true 0 (E1 57 [.agg [.int .u8 b,.lst false (l.map Zb)]] [])=some (.tup [ZaH ZaT,.int .i64 c],[]):=fun c h =>
  Zrk (by rw[Zhl];exact h) Zlt
 unfold ZdQ
 by_cases h0:tyI b=0
 ·rw[if_pos h0]
  exact hF 129 (Zhd b 129 l (ZoE b l (ZG _ rfl (by rfl) _ _) (ZIr P0 rfl (by rfl) b l h0)))
 rw[if_neg h0]
 by_cases h3:tyI b=3
 ·rw[if_pos h3]
  obtain⟨Q,h,hv⟩:=ZNF b h3 l (by omega)
  exact Zrk h hv
 rw[if_neg h3]
 by_cases hf:ZbH b 15=Ze6 (tyI b)
 case neg =>
  rw[if_neg hf]
  exact hF 129 (Zhd b 129 l (ZoE b l (ZG _ rfl (by rfl) _ _) (ZVU P0 rfl (by rfl) b (tyI b) l rfl h0 h3 hf)))
 rw[if_pos hf]
 have hfi:=ZEt P0 rfl (by rfl) b (tyI b) l rfl h0 h3 hf
 have hB:=ZKS l hl (tyI b) (by omega) h3
 generalize tyI b=t at *
 have p1:(P0.set 0 (.int .i64 t)).length=26:=rfl
 have p2:Zf (P0.set 0 (.int .i64 t))=true:=by rfl
 cases hx:ZiO t l with
 |error e =>
  rw[hx]at hB
  rcases hB with⟨cs,hn,hb⟩ |⟨Q,kk,n,r,w,ys,hQ,hN,hk,hb⟩
  ·exact hF e (Zhd b e l (Zyg b l p1 p2 hn hfi hb))
  ·exact hF e (Zhd b e l (ZTy b l p1 p2 hQ hN hk hfi hb))
 |ok q =>
  rw[hx]at hB
  rcases hB with⟨Q,L,hQ,hN,nL,hi,hb⟩ |⟨Q,q0,kk,w,ys,hQ,hN,hk,hi,hc,hb⟩
  ·exact Zrk (by rw[Zhl];exact ZAi b l p1 p2 hQ hN hi.ok nL hfi hb) hi.view
  ·refine ZFX (by rw[Zhl];exact ZUO b l p1 p2 hQ hN hk (fun r g m=>ZpA rfl hi.ok) hfi hb) (fun σ hs=>?_)
   have hv:ZK σ (.sl 0 0 0 ys.length)=some (.lst false ys,[0]):=by
    simp[ZK,ZY,hs]
   unfold Zq
   rw[Zss hv (hi.view σ) (by omega),hc]
theorem ZwW(b:Int)(hb:0<=b/\b<256)(l:Zc)(hl:l.length<=1099511627775)(f:Bool)(σ:Za)(sq own:Nat) :
  Zj E1 BY σ sq 57 own true [.agg [.int .u8 b,.lst f (l.map Zb)]]=some (.tup [ZaH (ZdQ b l).1,.int .i64 (ZdQ b l).2],σ,{}):=by
 rw[ZcT (by kernel_rfl) rfl]
 show ZaA σ σ [] [] sq own (Z3 true 0 (E1 57 [.agg [.int .u8 b,.lst false (l.map Zb)]] []))=_
 rw[ZNX b hb l hl,Zgu _ _ _ _ (by simp only[Zo,Zh,Zb0,ZlX])]
end
section
def ZiP:Zc:=[77,81,84,84]
theorem Zkx(q:Int):0<=ZD q 3/\ZD q 3<=3:=by
 have h:∀ x:BitVec 64,(x&&&XP 64 3).toNat<=3:=by
  intro x
  rw[BitVec.toNat_and]
  exact Nat.and_le_right
 have h2:=h (XP 64 q)
 unfold ZD
 have h3:IntKind.i64.bits=64:=rfl
 rw[h3,ZaC (by omega) (by omega)]
 omega
def Zrd(p:ZE):Int:=Zaj p.clean 2+Zaj p.hasWill 4+ZD p.will.qos 3*8+Zaj p.will.retain 32+Zaj p.hasPassword 64+Zaj p.hasUser 128
theorem Zew(b:Bool)(n:Int)(h:0<=n):0<=Zaj b n/\Zaj b n<=n:=by unfold Zaj;split<;>omega
theorem ZcW(n:Int)(h0:0<=n)(h1:n<9223372036854775808):IntKind.i64.wrap n=n:=by
 obtain⟨m,rfl⟩:∃ m:Nat,n=m:=⟨n.toNat,by omega⟩
 exact ZaC (by omega) (by omega)
def Zov(p:ZE):Zc:=((((Z5 ZiP).1++beB (ZU 5) 1)++beB (ZU (Zrd p)) 1)++beB (ZU p.keep) 2)++(Za8 1 p.props).1++(Z5 p.client).1
def ZmF(p:ZE):Zc:=if p.hasWill then((Zov p++(Za8 16 p.will.props).1)++(Z5 p.will.topic).1)++(Zbj p.will.data).1 else Zov p
def Zm4(p:ZE):Zc:=if p.hasUser then ZmF p++(Z5 p.user).1 else ZmF p
def Ze4(p:ZE):Zc:=if p.hasPassword then Zm4 p++(Zbj p.password).1 else Zm4 p
section
variable (p:ZE)(h:OkW p)
include h
theorem ZB7:E1 69 [.ref 0 0,ZaH p] [.var wn]=some (.tup [],wH 0 (Ze4 p)):=by
 have hq:=Zkx p.will.qos
 have m1:=Zew p.clean 2 (by omega)
 have m2:=Zew p.hasWill 4 (by omega)
 have m3:=Zew p.will.retain 32 (by omega)
 have m4:=Zew p.hasPassword 64 (by omega)
 have m5:=Zew p.hasUser 128 (by omega)
 have hm:=fun b n σ sq own=>Zkt b n σ sq own
 have w1:=ZcW (Zaj p.clean 2+Zaj p.hasWill 4) (by omega) (by omega)
 have w2:=ZcW (ZD p.will.qos 3*8) (by omega) (by omega)
 have w3:=ZcW (Zaj p.clean 2+Zaj p.hasWill 4+ZD p.will.qos 3*8) (by omega) (by omega)
 have w4:=ZcW (Zaj p.clean 2+Zaj p.hasWill 4+ZD p.will.qos 3*8+Zaj p.will.retain 32) (by omega) (by omega)
 have w5:=ZcW (Zaj p.clean 2+Zaj p.hasWill 4+ZD p.will.qos 3*8+Zaj p.will.retain 32+Zaj p.hasPassword 64) (by omega) (by omega)
 have w6:=ZcW (Zaj p.clean 2+Zaj p.hasWill 4+ZD p.will.qos 3*8+Zaj p.will.retain 32+Zaj p.hasPassword 64+Zaj p.hasUser 128) (by omega) (by omega)
 have lim:=Ze3
 have t0:=Zc9 ZiP
 have t1:=Zc9 p.client
 have t2:=Zc9 p.will.topic
 have t3:=Zc9 p.user
 have d1:=ZkN p.will.data
 have d2:=ZkN p.password
 have y1:=ZdP 1 p.props
 have y2:=ZdP 16 p.will.props
 have f0:=fun{σ:Za} {t sq:Nat}=>ZAs ZiP (by decide) (σ:=σ) (t:=t) (sq:=sq)
 unfold Ze4 Zm4 ZmF Zov Zrd
 have n1:=Za3 1 (ZU 5)
 generalize (Z5 ZiP).1=l0 at *
 have f1:=fun{σ:Za} {sq:Nat}=>Zg7 l0 5 1 (by omega) (by omega) (m:=1) rfl (by omega) (σ:=σ) 0 2 0 (sq:=sq) (by omega)
 generalize beB (ZU 5) 1=D1 at *
 obtain⟨l1,e1⟩:∃ l1,l0++D1=l1:=⟨_,rfl⟩
 have k1:l1.length=l0.length+D1.length:=by rw[<-e1,Xi]
 simp only[e1]at f1 ⊢
 have n2:=Za3 1 (ZU (Zaj p.clean 2+Zaj p.hasWill 4+ZD p.will.qos 3*8+Zaj p.will.retain 32+Zaj p.hasPassword 64+Zaj p.hasUser 128))
 have f2:=fun{σ:Za} {sq:Nat}=>Zg7 l1 (Zaj p.clean 2+Zaj p.hasWill 4+ZD p.will.qos 3*8+Zaj p.will.retain 32+Zaj p.hasPassword 64+Zaj p.hasUser 128) 1 (by omega) (by omega) (m:=1) rfl (by omega) (σ:=σ) 0 2 1 (sq:=sq) (by omega)
 generalize beB (ZU (Zaj p.clean 2+Zaj p.hasWill 4+ZD p.will.qos 3*8+Zaj p.will.retain 32+Zaj p.hasPassword 64+Zaj p.hasUser 128)) 1=D2 at *
 obtain⟨l2,e2⟩:∃ l2,l1++D2=l2:=⟨_,rfl⟩
 have k2:l2.length=l1.length+D2.length:=by rw[<-e2,Xi]
 simp only[e2]at f2 ⊢
 have n3:=Za3 2 (ZU p.keep)
 have f3:=fun{σ:Za} {sq:Nat}=>Zg7 l2 p.keep 2 (by omega) (by omega) (m:=2) rfl (by omega) (σ:=σ) 0 2 2 (sq:=sq) (by omega)
 generalize beB (ZU p.keep) 2=D3 at *
 obtain⟨l3,e3⟩:∃ l3,l2++D3=l3:=⟨_,rfl⟩
 have k3:l3.length=l2.length+D3.length:=by rw[<-e3,Xi]
 simp only[e3]at f3 ⊢
 have f4:=fun{σ:Za} {sq:Nat}=>Zhu l3 1 p.props h.props.1 h.props.2 (by omega) (σ:=σ) 0 2 3 (sq:=sq) (by omega)
 generalize (Za8 1 p.props).1=D4 at *
 obtain⟨l4,e4⟩:∃ l4,l3++D4=l4:=⟨_,rfl⟩
 have k4:l4.length=l3.length+D4.length:=by rw[<-e4,Xi]
 simp only[e4]at f4 ⊢
 have f5:=fun{σ:Za} {sq:Nat}=>Zj6 l4 p.client h.client (by omega) (σ:=σ) 0 2 4 (sq:=sq) (by omega)
 generalize (Z5 p.client).1=D5 at *
 obtain⟨l5,e5⟩:∃ l5,l4++D5=l5:=⟨_,rfl⟩
 have k5:l5.length=l4.length+D5.length:=by rw[<-e5,Xi]
 simp only[e5]at f5 ⊢
 have f6:=fun{σ:Za} {sq:Nat}=>Zhu l5 16 p.will.props h.wprops.1 h.wprops.2 (by omega) (σ:=σ) 0 2 5 (sq:=sq) (by omega)
 generalize (Za8 16 p.will.props).1=D6 at *
 obtain⟨l6,e6⟩:∃ l6,l5++D6=l6:=⟨_,rfl⟩
 have k6:l6.length=l5.length+D6.length:=by rw[<-e6,Xi]
 simp only[e6]at f6 ⊢
 have f7:=fun{σ:Za} {sq:Nat}=>Zj6 l6 p.will.topic h.wtopic (by omega) (σ:=σ) 0 2 6 (sq:=sq) (by omega)
 generalize (Z5 p.will.topic).1=D7 at *
 obtain⟨l7,e7⟩:∃ l7,l6++D7=l7:=⟨_,rfl⟩
 have k7:l7.length=l6.length+D7.length:=by rw[<-e7,Xi]
 simp only[e7]at f7 ⊢
 have f8:=fun{σ:Za} {sq:Nat}=>Zxg l7 p.will.data h.wdata (by omega) (σ:=σ) 0 2 7 (sq:=sq) (by omega)
 generalize (Zbj p.will.data).1=D8 at *
 obtain⟨l8,e8⟩:∃ l8,l7++D8=l8:=⟨_,rfl⟩
 have k8:l8.length=l7.length+D8.length:=by rw[<-e8,Xi]
 simp only[e8]at f8 ⊢
 have hO:=fun{j g:Nat} {l:Zc} {σ:Za}=>ZeZ (j:=j) (g:=g) (l:=l) (σ:=σ)
 rw[Zb0]
 have e0:=Zck p
 have a9:(ZB p)[9]?=some (.lst false (p.props.map Zg)):=rfl
 have a12:(ZB p)[12]?=some (.bool p.clean):=rfl
 have a13:(ZB p)[13]?=some (.int .i64 p.keep):=rfl
 have a14:(ZB p)[14]?=some (.str p.client):=rfl
 have a15:(ZB p)[15]?=some (.bool p.hasWill):=rfl
 have a16:(ZB p)[16]?=some (.str p.will.topic):=rfl
 have a17:(ZB p)[17]?=some (.lst false (p.will.data.map Zb)):=rfl
 have a18:(ZB p)[18]?=some (.int .i64 p.will.qos):=rfl
 have a19:(ZB p)[19]?=some (.bool p.will.retain):=rfl
 have a20:(ZB p)[20]?=some (.lst false (p.will.props.map Zg)):=rfl
 have a21:(ZB p)[21]?=some (.bool p.hasUser):=rfl
 have a22:(ZB p)[22]?=some (.str p.user):=rfl
 have a23:(ZB p)[23]?=some (.bool p.hasPassword):=rfl
 have a24:(ZB p)[24]?=some (.lst false (p.password.map Zb)):=rfl
 have b5:=h.user
 have b6:=h.password
 clear h
 generalize ZB p=P at *
 generalize p.will.qos=wq at *
 generalize p.will.retain=wr at *
 generalize p.will.topic=wt at *
 generalize p.will.data=wd at *
 generalize p.will.props=wp at *
 generalize p.clean=cl at *
 generalize p.keep=kp at *
 generalize p.client=ci at *
 generalize p.props=ps at *
 generalize p.hasWill=hw at *
 generalize p.hasUser=hu at *
 generalize p.hasPassword=hp at *
 generalize p.user=us at *
 generalize p.password=pw at *
 unfold ZD ZiP at *
 rw[ZbE (by rfl) ZOf]
 have fu:=fun(l:Zc) (g:Nat) (hl:l.length<=1000000000) {σ:Za} {sq:Nat}=>Zj6 l us b5 (by omega) (σ:=σ) 0 2 g (sq:=sq) (by omega)
 have fp:=fun(l:Zc) (g:Nat) (hl:l.length<=1000000000) {σ:Za} {sq:Nat}=>Zxg l pw b6 (by omega) (σ:=σ) 0 2 g (sq:=sq) (by omega)
 generalize (Z5 us).1=Du at *
 generalize (Zbj pw).1=Dp at *
 cases hw<;>cases hu<;>cases hp
 ·simp only[Xj,if_false]
  unfold wn at *
  simp -implicitDefEqProofs only[EQA,Zv,Xe,Xc,Xa,Xg,reduceCtorEq,↓reduceIte,Zf,Zgg,Zfc,ZgA,Zd,AVal.cells,a9,a12,a13,a14,a15,a18,a19,a21,a23,hm,w1,w2,w3,w4,w5,w6,f0,f1,f2,f3,f4,f5,Z6,Zaf,Zah,Zau,Zas,Zar,Zav,Zaw,Zag,Xy]
  exact hO (j:=2) (by decide) rfl rfl
 ·have g1:=fun{σ:Za} {sq:Nat}=>fp l5 5 (by omega) (σ:=σ) (sq:=sq)
  simp only[Xj,if_false,if_true]
  unfold wn at *
  simp -implicitDefEqProofs only[EQA,Zv,Xe,Xc,Xa,Xg,reduceCtorEq,↓reduceIte,Zf,Zgg,Zfc,ZgA,Zd,AVal.cells,a9,a12,a13,a14,a15,a18,a19,a21,a23,a24,hm,w1,w2,w3,w4,w5,w6,f0,f1,f2,f3,f4,f5,g1,Z6,Zaf,Zah,Zau,Zas,Zar,Zav,Zaw,Zag,Xy]
  exact hO (j:=2) (by decide) rfl rfl
 ·have g1:=fun{σ:Za} {sq:Nat}=>fu l5 5 (by omega) (σ:=σ) (sq:=sq)
  simp only[Xj,if_false,if_true]
  unfold wn at *
  simp -implicitDefEqProofs only[EQA,Zv,Xe,Xc,Xa,Xg,reduceCtorEq,↓reduceIte,Zf,Zgg,Zfc,ZgA,Zd,AVal.cells,a9,a12,a13,a14,a15,a18,a19,a21,a22,a23,hm,w1,w2,w3,w4,w5,w6,f0,f1,f2,f3,f4,f5,g1,Z6,Zaf,Zah,Zau,Zas,Zar,Zav,Zaw,Zag,Xy]
  exact hO (j:=2) (by decide) rfl rfl
 ·have g1:=fun{σ:Za} {sq:Nat}=>fu l5 5 (by omega) (σ:=σ) (sq:=sq)
  have g2:=fun{σ:Za} {sq:Nat}=>fp (l5++Du) 6 (by rw[Xi];omega) (σ:=σ) (sq:=sq)
  simp only[Xj,if_false,if_true]
  unfold wn at *
  simp -implicitDefEqProofs only[EQA,Zv,Xe,Xc,Xa,Xg,reduceCtorEq,↓reduceIte,Zf,Zgg,Zfc,ZgA,Zd,AVal.cells,a9,a12,a13,a14,a15,a18,a19,a21,a22,a23,a24,hm,w1,w2,w3,w4,w5,w6,f0,f1,f2,f3,f4,f5,g1,g2,Z6,Zaf,Zah,Zau,Zas,Zar,Zav,Zaw,Zag,Xy]
  exact hO (j:=2) (by decide) rfl rfl
 ·simp only[Xj,if_false,if_true]
  unfold wn at *
  simp -implicitDefEqProofs only[EQA,Zv,Xe,Xc,Xa,Xg,reduceCtorEq,↓reduceIte,Zf,Zgg,Zfc,ZgA,Zd,AVal.cells,a9,a12,a13,a14,a15,a16,a17,a18,a19,a20,a21,a23,hm,w1,w2,w3,w4,w5,w6,f0,f1,f2,f3,f4,f5,f6,f7,f8,Z6,Zaf,Zah,Zau,Zas,Zar,Zav,Zaw,Zag,Xy]
  exact hO (j:=2) (by decide) rfl rfl
 ·have g1:=fun{σ:Za} {sq:Nat}=>fp l8 8 (by omega) (σ:=σ) (sq:=sq)
  simp only[Xj,if_false,if_true]
  unfold wn at *
  simp -implicitDefEqProofs only[EQA,Zv,Xe,Xc,Xa,Xg,reduceCtorEq,↓reduceIte,Zf,Zgg,Zfc,ZgA,Zd,AVal.cells,a9,a12,a13,a14,a15,a16,a17,a18,a19,a20,a21,a23,a24,hm,w1,w2,w3,w4,w5,w6,f0,f1,f2,f3,f4,f5,f6,f7,f8,g1,Z6,Zaf,Zah,Zau,Zas,Zar,Zav,Zaw,Zag,Xy]
  exact hO (j:=2) (by decide) rfl rfl
 ·have g1:=fun{σ:Za} {sq:Nat}=>fu l8 8 (by omega) (σ:=σ) (sq:=sq)
  simp only[Xj,if_false,if_true]
  unfold wn at *
  simp -implicitDefEqProofs only[EQA,Zv,Xe,Xc,Xa,Xg,reduceCtorEq,↓reduceIte,Zf,Zgg,Zfc,ZgA,Zd,AVal.cells,a9,a12,a13,a14,a15,a16,a17,a18,a19,a20,a21,a22,a23,hm,w1,w2,w3,w4,w5,w6,f0,f1,f2,f3,f4,f5,f6,f7,f8,g1,Z6,Zaf,Zah,Zau,Zas,Zar,Zav,Zaw,Zag,Xy]
  exact hO (j:=2) (by decide) rfl rfl
 ·have g1:=fun{σ:Za} {sq:Nat}=>fu l8 8 (by omega) (σ:=σ) (sq:=sq)
  have g2:=fun{σ:Za} {sq:Nat}=>fp (l8++Du) 9 (by rw[Xi];omega) (σ:=σ) (sq:=sq)
  simp only[if_true]
  unfold wn at *
  simp -implicitDefEqProofs only[EQA,Zv,Xe,Xc,Xa,Xg,reduceCtorEq,↓reduceIte,Zf,Zgg,Zfc,ZgA,Zd,AVal.cells,a9,a12,a13,a14,a15,a16,a17,a18,a19,a20,a21,a22,a23,a24,hm,w1,w2,w3,w4,w5,w6,f0,f1,f2,f3,f4,f5,f6,f7,f8,g1,g2,Z6,Zaf,Zah,Zau,Zas,Zar,Zav,Zaw,Zag,Xy]
  exact hO (j:=2) (by decide) rfl rfl
theorem ZBT:(Ze4 p).length<=1000000000:=by
 have t0:=Zc9 ZiP
 have t1:=Zc9 p.client
 have t2:=Zc9 p.will.topic
 have t3:=Zc9 p.user
 have d1:=ZkN p.will.data
 have d2:=ZkN p.password
 have y1:=ZdP 1 p.props
 have y2:=ZdP 16 p.will.props
 have n1:=Za3 1 (ZU 5)
 have n2:=Za3 1 (ZU (Zrd p))
 have n3:=Za3 2 (ZU p.keep)
 unfold Ze4 Zm4 ZmF Zov
 cases p.hasWill<;>cases p.hasUser<;>cases p.hasPassword<;>simp only[Xj,if_false,if_true,Xi]<;>omega
theorem ZHN{σ:Za}{t sq:Nat}(hf:σ[sq]?=some .free)(hs0:σ[t]?=some (.var wn)) :
  Zj E1 BY σ sq 69 1 true [.ref t 0,.agg (ZB p)]=some (.tup [],(σ.set t (.var (wv sq 0 (Ze4 p).length))).set sq (.row 0 1 ((Ze4 p).map Zb)),{ any:=true,upd:=[(t,wv sq 0 (Ze4 p).length)] }) :=
 Zhc (args:=[.agg (ZB p)]) rfl rfl (ZB7 p h) (by kernel_rfl) (by rw[XO,Zet];rfl) (by rw[Xm,ZeS];rfl) hf hs0
end
end
section
def Zkj(p:ZE):Zc:=if p.qos>0 then(Z5 p.topic).1++beB (ZU p.id) 2 else(Z5 p.topic).1
def ZeV(p:ZE):Zc:=(Zkj p++(Za8 3 p.props).1)++p.payload
def Zmo(p:ZE):Zc:=(beB (ZU (Zaj p.present 1)) 1++beB (ZU p.code) 1)++(Za8 2 p.props).1
def ZgG(s:ZbP):Int:=ZD s.qos 3+Zaj s.noLocal 4+Zaj s.asPublished 8+ZD s.handling 3*16
def ZtT(s:ZbP):Zc:=(Z5 s.filter).1++beB (ZU (ZgG s)) 1
def ZeA(l:List ZbP):Zc:=(l.map ZtT).flatten
def ZeJ(l:List Zc):Zc:=(l.map fun f=>(Z5 f).1).flatten
def ZeB(l:List Int):Zc:=(l.map fun c=>beB (ZU c) 1).flatten
theorem ZG7(p:ZE)(h:OkW p)(hk:p.type=3):E1 53 [.ref 0 0,ZaH p] [.var wn]=some (.tup [],wH 0 (ZeV p)):=by
 have lim:=Ze3
 have t1:=Zc9 p.topic
 have y1:=ZdP 3 p.props
 have n1:=Za3 2 (ZU p.id)
 have f0:=fun{σ:Za} {t sq:Nat}=>ZAs p.topic h.topic (σ:=σ) (t:=t) (sq:=sq)
 have pl:=h.payload
 unfold ZeV Zkj
 generalize (Z5 p.topic).1=l0 at *
 have f1:=fun{σ:Za} {sq:Nat}=>Zg7 l0 p.id 2 (by omega) (by omega) (m:=2) rfl (by omega) (σ:=σ) 0 2 0 (sq:=sq) (by omega)
 generalize beB (ZU p.id) 2=D1 at *
 have f2:=fun(l:Zc) (g:Nat) (hl:l.length<=1000000000) {σ:Za} {sq:Nat}=>Zhu l 3 p.props h.props.1 h.props.2 (by omega) (σ:=σ) 0 2 g (sq:=sq) (by omega)
 generalize (Za8 3 p.props).1=D2 at *
 have f3:=fun(l:Zc) (g:Nat) (hl:l.length<=2000000000) {σ:Za} {sq:Nat}=>ZjK l p.payload (by omega) (σ:=σ) 0 2 g (sq:=sq) (by omega)
 have hO:=fun{j g:Nat} {l:Zc} {σ:Za}=>ZeZ (j:=j) (g:=g) (l:=l) (σ:=σ)
 rw[Zb0]
 have e0:=Zck p
 have a0:(ZB p)[0]?=some (.int .i64 p.type):=rfl
 have a2:(ZB p)[2]?=some (.int .i64 p.qos):=rfl
 have a4:(ZB p)[4]?=some (.int .i64 p.id):=rfl
 have a5:(ZB p)[5]?=some (.str p.topic):=rfl
 have a6:(ZB p)[6]?=some (.lst false (p.payload.map Zb)):=rfl
 have a9:(ZB p)[9]?=some (.lst false (p.props.map Zg)):=rfl
 rw[hk]at a0
 clear h hk
 generalize ZB p=P at *
 generalize p.qos=q at *
 generalize p.id=c at *
 generalize p.topic=tp at *
 generalize p.payload=pa at *
 generalize p.props=ps at *
 rw[ZbE (by rfl) Ze9]
 by_cases hq:q>0
 ·rw[if_pos hq]
  have k1:(l0++D1).length=l0.length+D1.length:=Xi
  have k2:(l0++D1++D2).length=l0.length+D1.length+D2.length:=by rw[Xi,k1]
  have g2:=fun{σ:Za} {sq:Nat}=>f2 (l0++D1) 1 (by omega) (σ:=σ) (sq:=sq)
  have g3:=fun{σ:Za} {sq:Nat}=>f3 (l0++D1++D2) 2 (by omega) (σ:=σ) (sq:=sq)
  clear k1 k2 f2 f3
  unfold wn wT at *
  simp -implicitDefEqProofs only[EQA,Zv,Xe,Xc,Xa,Xg,reduceCtorEq,↓reduceIte,Zf,ZeP,ZdV,ZeM,Zd,AVal.cells,a0,a2,a4,a5,a6,a9,Xs,hq,f0,f1,g2,g3,Z6,Zaf,Zah,Zau,Zas,Zar,Zav,Zaw,Zag]
  exact hO (j:=2) (by decide) rfl rfl
 ·rw[if_neg hq]
  have k2:(l0++D2).length=l0.length+D2.length:=Xi
  have g2:=fun{σ:Za} {sq:Nat}=>f2 l0 0 (by omega) (σ:=σ) (sq:=sq)
  have g3:=fun{σ:Za} {sq:Nat}=>f3 (l0++D2) 1 (by omega) (σ:=σ) (sq:=sq)
  clear k2 f2 f3
  unfold wn wT at *
  simp -implicitDefEqProofs only[EQA,Zv,Xe,Xc,Xa,Xg,reduceCtorEq,↓reduceIte,Zf,ZeP,ZdV,ZeM,Zd,AVal.cells,a0,a2,a5,a6,a9,Xs,hq,f0,g2,g3,Z6,Zaf,Zah,Zau,Zas,Zar,Zav,Zaw,Zag]
  exact hO (j:=2) (by decide) rfl rfl
theorem ZJ8(p:ZE)(h:OkW p)(hk:p.type=1):E1 53 [.ref 0 0,ZaH p] [.var wn]=some (.tup [],wH 0 (Ze4 p)):=by
 have f0:=fun{σ:Za} {t sq:Nat}=>ZHN p h (σ:=σ) (t:=t) (sq:=sq)
 have hO:=fun{j g:Nat} {l:Zc} {σ:Za}=>ZeZ (j:=j) (g:=g) (l:=l) (σ:=σ)
 rw[Zb0]
 generalize Ze4 p=B at *
 have e0:=Zck p
 have e1:=Zdh p
 have a0:(ZB p)[0]?=some (.int .i64 p.type):=rfl
 rw[hk]at a0
 generalize ZB p=P at *
 rw[ZbE (by rfl) Ze9]
 unfold wn at *
 simp -implicitDefEqProofs only[EQA,Zv,Xe,Xc,Xf,Xa,Xg,reduceCtorEq,↓reduceIte,Zf,ZeP,ZdV,ZeM,Zd,AVal.cells,a0,e0,e1,f0]
 exact hO (j:=2) (by decide) rfl rfl
theorem ZVO(p:ZE)(h:OkW p)(hk:p.type=2):E1 53 [.ref 0 0,ZaH p] [.var wn]=some (.tup [],wH 0 (Zmo p)):=by
 have lim:=Ze3
 have y1:=ZdP 2 p.props
 have n1:=Za3 1 (ZU p.code)
 have n0:=Za3 1 (ZU (Zaj p.present 1))
 have hm:=fun b n σ sq own=>Zkt b n σ sq own
 have f0:=fun{σ:Za} {t sq:Nat}=>Zm6 (Zaj p.present 1) 1 (by omega) (by omega) (m:=1) rfl (σ:=σ) (t:=t) (sq:=sq)
 unfold Zmo
 generalize beB (ZU (Zaj p.present 1)) 1=l0 at *
 have f1:=fun{σ:Za} {sq:Nat}=>Zg7 l0 p.code 1 (by omega) (by omega) (m:=1) rfl (by omega) (σ:=σ) 0 2 0 (sq:=sq) (by omega)
 generalize beB (ZU p.code) 1=D1 at *
 have k1:(l0++D1).length=l0.length+D1.length:=Xi
 have f2:=fun{σ:Za} {sq:Nat}=>Zhu (l0++D1) 2 p.props h.props.1 h.props.2 (by omega) (σ:=σ) 0 2 1 (sq:=sq) (by omega)
 generalize (Za8 2 p.props).1=D2 at *
 have hO:=fun{j g:Nat} {l:Zc} {σ:Za}=>ZeZ (j:=j) (g:=g) (l:=l) (σ:=σ)
 rw[Zb0]
 have e0:=Zck p
 have a0:(ZB p)[0]?=some (.int .i64 p.type):=rfl
 have a7:(ZB p)[7]?=some (.int .i64 p.code):=rfl
 have a9:(ZB p)[9]?=some (.lst false (p.props.map Zg)):=rfl
 have a25:(ZB p)[25]?=some (.bool p.present):=rfl
 rw[hk]at a0
 clear h hk k1
 generalize ZB p=P at *
 generalize p.code=c at *
 generalize p.present=b at *
 generalize p.props=ps at *
 rw[ZbE (by rfl) Ze9]
 unfold wn at *
 simp -implicitDefEqProofs only[EQA,Zv,Xe,Xc,Xa,Xg,reduceCtorEq,↓reduceIte,Zf,ZeP,ZdV,ZeM,Zd,AVal.cells,a0,a7,a9,a25,Xs,hm,f0,f1,f2]
 exact hO (j:=2) (by decide) rfl rfl
theorem ZFb(p:ZE)(h:OkW p)(hk:p.type=4\/p.type=5\/p.type=6\/p.type=7):E1 53 [.ref 0 0,ZaH p] [.var wn]=some (.tup [],wH 0 (beB (ZU p.id) 2++Zcc p)):=by
 have n0:=Za3 2 (ZU p.id)
 have f0:=fun{σ:Za} {t sq:Nat}=>Zm6 p.id 2 (by omega) (by omega) (m:=2) rfl (σ:=σ) (t:=t) (sq:=sq)
 generalize beB (ZU p.id) 2=l0 at *
 have f1:=fun{σ:Za} {sq:Nat}=>ZLj p h l0 (by omega) (σ:=σ) 0 2 0 (sq:=sq) (by omega)
 have hO:=fun{j g:Nat} {l:Zc} {σ:Za}=>ZeZ (j:=j) (g:=g) (l:=l) (σ:=σ)
 rw[Zb0]
 generalize Zcc p=B at *
 generalize Zgr p=g0 at *
 have e0:=Zck p
 have e1:=Zdh p
 have a0:(ZB p)[0]?=some (.int .i64 p.type):=rfl
 have a4:(ZB p)[4]?=some (.int .i64 p.id):=rfl
 clear h
 generalize ZB p=P at *
 generalize p.id=c at *
 generalize p.type=ty at *
 rw[ZbE (by rfl) Ze9]
 unfold wn at *
 rcases hk with rfl |rfl |rfl |rfl
 all_goals
  simp -implicitDefEqProofs only[EQA,Zv,Xe,Xc,Xf,Xa,Xg,reduceCtorEq,↓reduceIte,Zf,ZeP,ZdV,ZeM,Zd,AVal.cells,a0,a4,e0,e1,Xs,f0,f1]
  exact hO (j:=2) (by decide) rfl rfl
theorem ZOm(p:ZE)(h:OkW p)(hb:ZdL p=none){σ:Za}{t sq:Nat}(hf:σ[sq]?=some .free)(hs0:σ[t]?=some (.var wn)) :
  Zj E1 BY σ sq 74 1 true [.ref t 0,.agg (ZB p)]=some (.tup [],σ,{ any:=true,upd:=[(t,wn)] }):=by
 have:=ZyS p h
 rw[hb]at this
 exact ZAf (args:=[.agg (ZB p)]) this (by kernel_rfl) (by rw[XO,Zet];rfl) (by rw[Xm,ZeS];rfl) (ff1 hf) hs0
theorem ZTg(p:ZE)(h:OkW p)(hb:ZdL p≠none){σ:Za}{t sq:Nat}(hf:σ[sq]?=some .free)(hs0:σ[t]?=some (.var wn)) :
  Zj E1 BY σ sq 74 1 true [.ref t 0,.agg (ZB p)]=some (.tup [],(σ.set t (.var (wv sq 0 (Zcc p).length))).set sq (.row 0 1 ((Zcc p).map Zb)),{ any:=true,upd:=[(t,wv sq 0 (Zcc p).length)] }):=by
 have:=ZyS p h
 unfold ZdL at this hb
 by_cases hc:p.code≠0\/p.props≠[]
 ·rw[if_pos hc]at this
  exact Zhc (args:=[.agg (ZB p)]) rfl rfl this (by kernel_rfl) (by rw[XO,Zet];rfl) (by rw[Xm,ZeS];rfl) hf hs0
 ·rw[if_neg hc]at hb;exact absurd rfl hb
theorem ZE1(p:ZE)(h:OkW p)(hk:p.type=14\/p.type=15):E1 53 [.ref 0 0,ZaH p] [.var wn]=some (.tup [],wO (ZdL p)):=by
 have hO:=fun{j g:Nat} {l:Zc} {σ:Za}=>ZeZ (j:=j) (g:=g) (l:=l) (σ:=σ)
 have e0:=Zck p
 have e1:=Zdh p
 have a0:(ZB p)[0]?=some (.int .i64 p.type):=rfl
 by_cases hb:ZdL p=none
 ·have f1:=fun{σ:Za} {t sq:Nat}=>ZOm p h hb (σ:=σ) (t:=t) (sq:=sq)
  rw[hb,Zb0]
  clear h hb
  generalize ZB p=P at *
  generalize p.type=ty at *
  rw[ZbE (by rfl) Ze9]
  unfold wO wn at *
  rcases hk with rfl |rfl
  all_goals
   simp -implicitDefEqProofs only[EQA,Zv,ZM,Xe,Xc,Xf,Xa,Xg,reduceCtorEq,↓reduceIte,Zf,ZeP,ZdV,ZeM,Zd,AVal.cells,a0,e0,e1,Xs,f1]
 ·have f1:=fun{σ:Za} {t sq:Nat}=>ZTg p h hb (σ:=σ) (t:=t) (sq:=sq)
  have hr:ZdL p=some (Zcc p):=by unfold ZdL at hb ⊢;split at hb<;>simp_all
  rw[hr,Zb0]
  clear h hb hr
  generalize Zcc p=B at *
  generalize ZB p=P at *
  generalize p.type=ty at *
  rw[ZbE (by rfl) Ze9]
  unfold wO wn at *
  rcases hk with rfl |rfl
  all_goals
   simp -implicitDefEqProofs only[EQA,Zv,Xe,Xc,Xf,Xa,Xg,reduceCtorEq,↓reduceIte,Zf,ZeP,ZdV,ZeM,Zd,AVal.cells,a0,e0,e1,Xs,f1]
   exact hO (j:=2) (by decide) rfl rfl
theorem ZMf(p:ZE)(hk:p.type<1\/p.type=12\/p.type=13\/15<p.type):E1 53 [.ref 0 0,ZaH p] [.var wn]=some (.tup [],[.var wn]):=by
 have e0:=Zck p
 have a0:(ZB p)[0]?=some (.int .i64 p.type):=rfl
 have b:∀ n:Int,n=1\/n=2\/n=3\/n=4\/n=5\/n=6\/n=7\/n=8\/n=9\/n=10\/n=11\/n=14\/n=15->(p.type==n)=false:=by
  intro n hn
  have : p.type≠n:=by omega
  simpa using this
 have b1:=b 1 (by simp)
 have b2:=b 2 (by simp)
 have b3:=b 3 (by simp)
 have b4:=b 4 (by simp)
 have b5:=b 5 (by simp)
 have b6:=b 6 (by simp)
 have b7:=b 7 (by simp)
 have b8:=b 8 (by simp)
 have b9:=b 9 (by simp)
 have b10:=b 10 (by simp)
 have b11:=b 11 (by simp)
 have b14:=b 14 (by simp)
 have b15:=b 15 (by simp)
 rw[Zb0]
 generalize ZB p=P at *
 generalize p.type=ty at *
 rw[ZbE (by rfl) Ze9]
 unfold wn at *
 simp -implicitDefEqProofs only[EQA,Zv,ZM,Xe,Xc,Xa,Xg,reduceCtorEq,↓reduceIte,Zf,ZeP,ZdV,ZeM,Zd,AVal.cells,a0,b1,b2,b3,b4,b5,b6,b7,b8,b9,b10,b11,b14,b15]
end
section
theorem xw1(c d:Ze)(h:c=d)(m:Nat)(tm:Tms)(σ:Za):evC FC PR1 BY m c tm σ=evC FC PR1 BY m d tm σ:=by rw[h]
def ZAG:=xw1 ZqC Zm5 (by kernel_rfl)
def Zvf:=xw1 ZtY Zm7 (by kernel_rfl)
def Zx0:=xw1 Ztn Znc (by kernel_rfl)
noncomputable def ZoA(m:Nat)(tm:Tms)(σ:Za):Option (AVal×Za):=(Zap m Zi7 (XZ (ZaK 0) (XZ (ZaK 1) (evL FC PR1 BY m [75,74,73,0] ZqC tm σ))))
noncomputable def Zl3(m:Nat)(tm:Tms)(σ:Za):Option (AVal×Za):=(Zap m Zi7 (XZ (ZaK 0) (XZ (ZaK 3) (evL FC PR1 BY m [110,109,108,0] ZtY tm σ))))
noncomputable def Zlw(m:Nat)(tm:Tms)(σ:Za):Option (AVal×Za):=(Zap m Zi7 (XZ (ZaK 0) (XZ (ZaK 5) (evL FC PR1 BY m [127,126,125,0] Ztn tm σ))))
theorem ZiJ{a b c d:Nat}{x y z:AVal}(hx:ZS x=true)(hy:ZS y=true)(hz:ZS z=true)(r g:Nat)(hr:r≠0)(l:Zc)(σ:Za)(h0:σ[0]?=some (.var (wv r g l.length)))(h1:σ[r]?=some (.row g 1 (l.map Zb))) :
  gcT 1 [(a,x),(b,y),(c,z),(d,.ref 0 0)] σ=([(a,x),(b,y),(c,z),(d,.ref 0 0)],[.var (wv 1 0 l.length),.row 0 1 (l.map Zb)]):=by
 have d0:σ.getD 0 .free=.var (wv r g l.length):=by simp[Xh,h0]
 have d1:σ.getD r .free=.row g 1 (l.map Zb):=by simp[Xh,h1]
 have ej:([0]:List Nat).contains r=false:=by simp;omega
 have hrf:Zt (wv r g l.length)=[r]:=rfl
 have e1:=fun ρ=>Zbm ρ x hx
 have e2:=fun ρ=>Zbm ρ y hy
 have e3:=fun ρ=>Zbm ρ z hz
 have hv:Zt [x,y,z,.ref 0 0]=[0]:=by
  simp only[Zt,(e1 (fun _ _=>none)).2,(e2 (fun _ _=>none)).2,(e3 (fun _ _=>none)).2];rfl
 have hi:Zu 1 [x,y,z,.ref 0 0] σ=[0,r]:=by
  have hR:Wa 1=[0]:=rfl
  have e0:([]:List Nat).contains r=false:=rfl
  simp only[Zu,hv,hR,List.flatMap_cons,X5,Xo,d0,Zx,hrf]
  rw[show(1000:Nat)=996+1+1+1+1 from rfl]
  simp only[XV,XA,Zs,ej,d1,Zx,Xo,Xj,if_false]
  have ej0:([0]:List Nat).contains 0=true:=rfl
  have ejr:([0,r]:List Nat).contains r=true:=by simp
  simp[]
 have hρ:Zk σ 1 [0,r] r g=some (1,0):=by
  have : ¬(0:Nat)=r:=fun e=>hr e.symm
  simp[Zk,ZI,Zl,ZF,h1,this]
 have hρ0:Zk σ 1 [0,r] 0 0=some (0,0):=by
  simp[Zk,ZI,Zl,ZF,h0]
 have hren:Zh (Zk σ 1 [0,r]) (wv r g l.length)=wv 1 0 l.length:=by simp only[wv,Zh,Zo,hρ]
 simp only[gcT,gcA,hi,Xm,Xt,Zn,d0,d1,ZF,Zl,Zy,hren,Zh,(e1 _).1,(e2 _).1,(e3 _).1,Zo,hρ0]
 simp
theorem ZLG(r:List Zc):(ZeJ r).length<=r.length*65537:=by
 induction r with
 |nil=>simp[ZeJ]
 |cons x r ih =>
  have:=Zc9 x
  simp only[ZeJ,Xm,Wn,Xi,Xp]at ih ⊢
  omega
theorem ZEk(r:List Int):(ZeB r).length<=r.length:=by
 induction r with
 |nil=>simp[ZeB]
 |cons x r ih =>
  have:=Za3 1 (ZU x)
  simp only[ZeB,Xm,Wn,Xi,Xp]at ih ⊢
  omega
theorem ZUZ(r:List ZbP):(ZeA r).length<=r.length*65538:=by
 induction r with
 |nil=>simp[ZeA]
 |cons x r ih =>
  have:=Zc9 x.filter
  have:=Za3 1 (ZU (ZgG x))
  simp only[ZeA,Xm,Wn,Xi,Xp,ZtT]at ih ⊢
  omega
theorem ZBe(fs:List Zc)(hn:fs.length<=1048576)(hx:∀ f∈fs,f.length<=9223372036854775807):∀ (r:List Zc) (i:Nat) (l:Zc),fs.drop i=r->l.length+r.length*65537<=1000000000000 ->
  Zl3 1 [(110,.int .i64 i),(109,.int .i64 fs.length),(108,.lst false (fs.map AVal.str)),(0,.ref 0 0)] [.var (wv 1 0 l.length),.row 0 1 (l.map Zb)]=some (.tup [],wH 0 (l++ZeJ r))
 | [],i,l,h,hl=>by
  have h1:=Zcq h
  have hO:=fun{j g:Nat} {l:Zc} {σ:Za}=>ZeZ (j:=j) (g:=g) (l:=l) (σ:=σ)
  have e:l++ZeJ []=l:=by simp[ZeJ]
  rw[e]
  unfold Zl3
  rw[ZR]
  simp -implicitDefEqProofs only[EQA,Zv,Xe,Xc,Xa,reduceCtorEq,↓reduceIte,Zf,ZeM,Zm7,Zd,Zvf,h1]
  exact hO (j:=1) (by decide) rfl rfl
 |x::r,i,l,h,hl=>by
  have hx0:x.length<=9223372036854775807:=hx x (XC (ZW h).1)
  have t1:=Zc9 x
  have lim:=Ze3
  simp only[Xp]at hl
  have ih:=ZBe fs hn hx r (i+1) (l++(Z5 x).1) (ZW h).2.1 (by rw[Xi];omega)
  have h1:(i:Int)<fs.length:=by have:=(ZW h).2.2;omega
  have e1:=iad (ZW h).1 AVal.str (k:=1) rfl
  have e3:=Zcs h1 (by omega)
  have f1:=fun{σ:Za} {sq:Nat}=>Zj6 l x hx0 (by omega) (σ:=σ) 0 1 0 (sq:=sq) (by omega)
  have e:l++ZeJ (x::r)=l++(Z5 x).1++ZeJ r:=by simp[ZeJ]
  rw[e]
  generalize (Z5 x).1=D at *
  have hG:=fun{a b c d:Nat} {i n:Int} {σ:Za} h0 h1=>ZiJ (a:=a) (b:=b) (c:=c) (d:=d) (x:=.int .i64 i) (y:=.int .i64 n) (z:=.lst false (fs.map AVal.str)) rfl rfl rfl 1 1 (by omega) (l++D) σ h0 h1
  unfold Zl3 at ih ⊢
  rw[ZR]
  simp -implicitDefEqProofs only[EQA,ZM,Xe,Xc,Xa,Xg,reduceCtorEq,↓reduceIte,Zm7,Zd,Zvf,AVal.cells,h1,e1,e3,f1,hG]
  exact ih
theorem Zxs(fs:List Int)(hn:fs.length<=1048576):∀ (r:List Int) (i:Nat) (l:Zc),fs.drop i=r->l.length+r.length<=1000000000000 ->
  Zlw 1 [(127,.int .i64 i),(126,.int .i64 fs.length),(125,.lst false (fs.map (AVal.int .i64))),(0,.ref 0 0)] [.var (wv 1 0 l.length),.row 0 1 (l.map Zb)]=some (.tup [],wH 0 (l++ZeB r))
 | [],i,l,h,hl=>by
  have h1:=Zcq h
  have hO:=fun{j g:Nat} {l:Zc} {σ:Za}=>ZeZ (j:=j) (g:=g) (l:=l) (σ:=σ)
  have e:l++ZeB []=l:=by simp[ZeB]
  rw[e]
  unfold Zlw
  rw[ZR]
  simp -implicitDefEqProofs only[EQA,Zv,Xe,Xc,Xa,reduceCtorEq,↓reduceIte,Zf,ZeM,Znc,Zd,Zx0,h1]
  exact hO (j:=1) (by decide) rfl rfl
 |x::r,i,l,h,hl=>by
  have t1:=Za3 1 (ZU x)
  have lim:=Ze3
  simp only[Xp]at hl
  have ih:=Zxs fs hn r (i+1) (l++beB (ZU x) 1) (ZW h).2.1 (by rw[Xi];omega)
  have h1:(i:Int)<fs.length:=by have:=(ZW h).2.2;omega
  have e1:=iad (ZW h).1 (AVal.int .i64) (k:=1) rfl
  have e3:=Zcs h1 (by omega)
  have f1:=fun{σ:Za} {sq:Nat}=>Zg7 l x 1 (by omega) (by omega) (m:=1) rfl (by omega) (σ:=σ) 0 1 0 (sq:=sq) (by omega)
  have e:l++ZeB (x::r)=l++beB (ZU x) 1++ZeB r:=by simp[ZeB]
  rw[e]
  generalize beB (ZU x) 1=D at *
  have hG:=fun{a b c d:Nat} {i n:Int} {σ:Za} h0 h1=>ZiJ (a:=a) (b:=b) (c:=c) (d:=d) (x:=.int .i64 i) (y:=.int .i64 n) (z:=.lst false (fs.map (AVal.int .i64))) rfl rfl rfl 1 1 (by omega) (l++D) σ h0 h1
  unfold Zlw at ih ⊢
  rw[ZR]
  simp -implicitDefEqProofs only[EQA,ZM,Xe,Xc,Xa,Xg,reduceCtorEq,↓reduceIte,Znc,Zd,Zx0,AVal.cells,h1,e1,e3,f1,hG]
  exact ih
theorem ZxK(fs:List ZbP)(hn:fs.length<=1048576)(hx:∀ f∈fs,f.filter.length<=9223372036854775807):∀ (r:List ZbP) (i:Nat) (l:Zc),fs.drop i=r->l.length+r.length*65538<=1000000000000 ->
  ZoA 1 [(75,.int .i64 i),(74,.int .i64 fs.length),(73,.lst false (fs.map Zaa)),(0,.ref 0 0)] [.var (wv 1 0 l.length),.row 0 1 (l.map Zb)]=some (.tup [],wH 0 (l++ZeA r))
 | [],i,l,h,hl=>by
  have h1:=Zcq h
  have hO:=fun{j g:Nat} {l:Zc} {σ:Za}=>ZeZ (j:=j) (g:=g) (l:=l) (σ:=σ)
  have e:l++ZeA []=l:=by simp[ZeA]
  rw[e]
  unfold ZoA
  rw[ZR]
  simp -implicitDefEqProofs only[EQA,Zv,Xe,Xc,Xa,reduceCtorEq,↓reduceIte,Zf,ZeM,Zm5,Zd,ZAG,h1]
  exact hO (j:=1) (by decide) rfl rfl
 |x::r,i,l,h,hl=>by
  have hx0:x.filter.length<=9223372036854775807:=hx x (XC (ZW h).1)
  have t1:=Zc9 x.filter
  have t2:=Za3 1 (ZU (ZgG x))
  have lim:=Ze3
  simp only[Xp]at hl
  have ih:=ZxK fs hn hx r (i+1) (l++(Z5 x.filter).1++beB (ZU (ZgG x)) 1) (ZW h).2.1 (by rw[Xi,Xi];omega)
  have h1:(i:Int)<fs.length:=by have:=(ZW h).2.2;omega
  have e1:=iad (ZW h).1 Zaa (k:=6) rfl
  have e3:=Zcs h1 (by omega)
  have hm:=fun b n σ sq own=>Zkt b n σ sq own
  have q1:=Zkx x.qos
  have q2:=Zkx x.handling
  have m1:=Zew x.noLocal 4 (by omega)
  have m2:=Zew x.asPublished 8 (by omega)
  have w1:=ZcW (ZD x.qos 3+Zaj x.noLocal 4) (by omega) (by omega)
  have w2:=ZcW (ZD x.qos 3+Zaj x.noLocal 4+Zaj x.asPublished 8) (by omega) (by omega)
  have w3:=ZcW (ZD x.handling 3*16) (by omega) (by omega)
  have w4:=ZcW (ZD x.qos 3+Zaj x.noLocal 4+Zaj x.asPublished 8+ZD x.handling 3*16) (by omega) (by omega)
  have f1:=fun{σ:Za} {sq:Nat}=>Zj6 l x.filter hx0 (by omega) (σ:=σ) 0 1 0 (sq:=sq) (by omega)
  have f2:=fun{σ:Za} {sq:Nat}=>Zg7 (l++(Z5 x.filter).1) (ZgG x) 1 (by omega) (by omega) (m:=1) rfl (by rw[Xi];omega) (σ:=σ) 0 1 1 (sq:=sq) (by omega)
  have e:l++ZeA (x::r)=l++(Z5 x.filter).1++beB (ZU (ZgG x)) 1++ZeA r:=by simp[ZeA,ZtT]
  rw[e]
  generalize (Z5 x.filter).1=D at *
  generalize beB (ZU (ZgG x)) 1=D2 at *
  have hG:=fun{a b c d:Nat} {i n:Int} {σ:Za} h0 h1=>ZiJ (a:=a) (b:=b) (c:=c) (d:=d) (x:=.int .i64 i) (y:=.int .i64 n) (z:=.lst false (fs.map Zaa)) rfl rfl rfl 1 2 (by omega) (l++D++D2) σ h0 h1
  unfold ZgG at f2
  unfold ZoA at ih ⊢
  rw[ZR]
  simp only[Zaa,AVal.cells]at e1
  unfold ZD at *
  simp -implicitDefEqProofs only[EQA,ZM,Xe,Xc,Xf,Xa,Xg,reduceCtorEq,↓reduceIte,Zm5,Zd,ZAG,AVal.cells,h1,e1,e3,hm,w1,w2,w3,w4,f1,f2,hG,Z6,Zaf,Zah,Zau,Zas,Zar,Zav,Zaw,Zag,Xy]
  exact ih
section
variable (p:ZE)(h:OkW p)
include h
theorem Znn:(Zb6 p).length<=300000000:=by
 have:=ZdP p.type p.props
 have:=Za3 2 (ZU p.id)
 unfold Zb6
 rw[Xi];omega
theorem ZXO(hk:p.type=8):E1 53 [.ref 0 0,ZaH p] [.var wn]=some (.tup [],wH 0 (Zb6 p++ZeA p.subs)):=by
 have hh:=Znn p h
 have f0:=fun{σ:Za} {t sq:Nat}=>Zs0 p h (σ:=σ) (t:=t) (sq:=sq)
 have hx:=h.subs
 have hL:=ZxK p.subs hx.1 hx.2 p.subs 0 (Zb6 p) rfl (by omega)
 have z:((0:Nat):Int)=0:=rfl
 rw[z]at hL
 unfold ZoA at hL
 have hG:=fun{a b c d:Nat} {i n:Int} {r g:Nat} {σ:Za} hr h0 h1=>ZiJ (a:=a) (b:=b) (c:=c) (d:=d) (x:=.int .i64 i) (y:=.int .i64 n) (z:=.lst false (p.subs.map Zaa)) rfl rfl rfl r g hr (Zb6 p) σ h0 h1
 have hG2:=fun{a b c d:Nat} {i n:Int} {g:Nat} {σ:Za} h0 h1=>hG (a:=a) (b:=b) (c:=c) (d:=d) (i:=i) (n:=n) (r:=2) (g:=g) (σ:=σ) (by omega) h0 h1
 clear hG
 have hn:(p.subs.map Zaa).length=p.subs.length:=by simp
 rw[Zb0]
 generalize Zb6 p=B at *
 have e0:=Zck p
 have e1:=Zdh p
 have a0:(ZB p)[0]?=some (.int .i64 p.type):=rfl
 have a10:(ZB p)[10]?=some (.lst false (p.subs.map Zaa)):=rfl
 rw[hk]at a0
 clear h hk hx
 generalize ZB p=P at *
 generalize p.subs=ss at *
 rw[ZbE (by rfl) Ze9]
 unfold wn at *
 simp -implicitDefEqProofs only[EQA,ZM,Xe,Xc,Xf,Xa,Xg,reduceCtorEq,↓reduceIte,ZeP,ZdV,Zd,AVal.cells,a0,a10,e0,e1,hn,Xs,f0]
 exact hL
theorem ZXE(hk:p.type=10):E1 53 [.ref 0 0,ZaH p] [.var wn]=some (.tup [],wH 0 (Zb6 p++ZeJ p.filters)):=by
 have hh:=Znn p h
 have f0:=fun{σ:Za} {t sq:Nat}=>Zs0 p h (σ:=σ) (t:=t) (sq:=sq)
 have hx:=h.filters
 have hL:=ZBe p.filters hx.1 hx.2 p.filters 0 (Zb6 p) rfl (by omega)
 have z:((0:Nat):Int)=0:=rfl
 rw[z]at hL
 unfold Zl3 at hL
 have hG2:=fun{a b c d:Nat} {i n:Int} {g:Nat} {σ:Za} h0 h1=>ZiJ (a:=a) (b:=b) (c:=c) (d:=d) (x:=.int .i64 i) (y:=.int .i64 n) (z:=.lst false (p.filters.map AVal.str)) rfl rfl rfl 2 g (by omega) (Zb6 p) σ h0 h1
 have hn:(p.filters.map AVal.str).length=p.filters.length:=by simp
 rw[Zb0]
 generalize Zb6 p=B at *
 have e0:=Zck p
 have e1:=Zdh p
 have a0:(ZB p)[0]?=some (.int .i64 p.type):=rfl
 have a11:(ZB p)[11]?=some (.lst false (p.filters.map AVal.str)):=rfl
 rw[hk]at a0
 clear h hk hx
 generalize ZB p=P at *
 generalize p.filters=ss at *
 rw[ZbE (by rfl) Ze9]
 unfold wn at *
 simp -implicitDefEqProofs only[EQA,ZM,Xe,Xc,Xf,Xa,Xg,reduceCtorEq,↓reduceIte,ZeP,ZdV,Zd,AVal.cells,a0,a11,e0,e1,hn,Xs,f0]
 exact hL
theorem ZMT(hk:p.type=9\/p.type=11):E1 53 [.ref 0 0,ZaH p] [.var wn]=some (.tup [],wH 0 (Zb6 p++ZeB p.codes)):=by
 have hh:=Znn p h
 have f0:=fun{σ:Za} {t sq:Nat}=>Zs0 p h (σ:=σ) (t:=t) (sq:=sq)
 have hx:=h.codes
 have hL:=Zxs p.codes hx p.codes 0 (Zb6 p) rfl (by omega)
 have z:((0:Nat):Int)=0:=rfl
 rw[z]at hL
 unfold Zlw at hL
 have hG2:=fun{a b c d:Nat} {i n:Int} {g:Nat} {σ:Za} h0 h1=>ZiJ (a:=a) (b:=b) (c:=c) (d:=d) (x:=.int .i64 i) (y:=.int .i64 n) (z:=.lst false (p.codes.map (AVal.int .i64))) rfl rfl rfl 2 g (by omega) (Zb6 p) σ h0 h1
 have hn:(p.codes.map (AVal.int .i64)).length=p.codes.length:=by simp
 rw[Zb0]
 generalize Zb6 p=B at *
 have e0:=Zck p
 have e1:=Zdh p
 have a0:(ZB p)[0]?=some (.int .i64 p.type):=rfl
 have a8:(ZB p)[8]?=some (.lst false (p.codes.map (AVal.int .i64))):=rfl
 clear h hx
 generalize ZB p=P at *
 generalize p.codes=ss at *
 generalize p.type=ty at *
 rw[ZbE (by rfl) Ze9]
 unfold wn at *
 rcases hk with rfl |rfl
 all_goals
  simp -implicitDefEqProofs only[EQA,ZM,Xe,Xc,Xf,Xa,Xg,reduceCtorEq,↓reduceIte,ZeP,ZdV,Zd,AVal.cells,a0,a8,e0,e1,hn,Xs,f0]
  exact hL
end
end
section
theorem Zvx(a b:List Int)(h:a.length=b.length)(hl:a.length<=9223372036854775807):∀ (r s:List Int) (i:Nat),a.drop i=r->b.drop i=s->ZnL 0 [(13,.int .i64 i),(12,.int .i64 a.length),(1,.lst false (b.map (AVal.int .i64))),(0,.lst false (a.map (AVal.int .i64)))] []=some (.bool (r==s),[])
 | [],s,i,ha,hb=>by
  have hs:s=[]:=by
   subst hb;rw[XW]at ha ⊢;omega
  subst hs
  have h1:=Zcq ha
  unfold ZnL
  rw[ZR]
  simp -implicitDefEqProofs only[EQA,Xc,Xa,reduceCtorEq,↓reduceIte,ZrM,ZIV,Ztp,Zzu,ZnZ,Zd,h1]
 |x::r,[],i,ha,hb=>by
  have:=(ZW ha).2.2;rw[XW]at hb;omega
 |x::r,y::s,i,ha,hb=>by
  have ih:=Zvx a b h hl r s (i+1) (ZW ha).2.1 (ZW hb).2.1
  have h1:(i:Int)<a.length:=by have:=(ZW ha).2.2;omega
  have e1:=iad (ZW ha).1 (AVal.int .i64) (k:=1) rfl
  have e2:=iad (ZW hb).1 (AVal.int .i64) (k:=1) rfl
  have e3:=Zcs h1 hl
  unfold ZnL at ih ⊢
  rw[ZR]
  simp -implicitDefEqProofs only[EQA,Zz,ZM,Xc,Xa,Xg,reduceCtorEq,↓reduceIte,gcT,gcA,Zu,Zs,Zn,Zx,ZrM,Zzu,ZnZ,Zd,h1,e1,e2,e3]
  rw[ih]
  by_cases hx:x=y<;>simp[hx]
theorem ZHa(a b:List Int)(hl:a.length<=9223372036854775807):E 79 [.lst false (a.map (AVal.int .i64)),.lst false (b.map (AVal.int .i64))] []=some (.bool (a==b),[]):=by
 rw[Zi (by rfl) ZSJ]
 by_cases h:a.length=b.length
 ·have:=Zvx a b h hl a b 0 rfl rfl
  unfold ZnL at this
  have e:=Zom h
  simp -implicitDefEqProofs only[EQA,ZM,Xc,Xa,reduceCtorEq,↓reduceIte,gcT,gcA,Zu,Zs,Zn,Zx,ZvY,ZlC,Zd,e]
  exact this
 ·have e:=Zoc h
  simp -implicitDefEqProofs only[EQA,Xc,Xa,reduceCtorEq,↓reduceIte,ZvY,ZlC,ZrM,Zd,e,Zna h]
theorem ZJ3(σ:Za)(sq own:Nat)(view:Bool)(a b:List Int)(hl:a.length<=9223372036854775807):Zj E BY σ sq 79 own view [.lst false (a.map (AVal.int .i64)),.lst false (b.map (AVal.int .i64))]=some (.bool (a==b),σ,{}) :=
 Za2 (ZHa a b hl) (by kernel_rfl) (by simp -implicitDefEqProofs only[Zbu,Zai,eq_self]) (by simp -implicitDefEqProofs only[Zz,Zai,eq_self]) rfl (fun _=>rfl) _ _ _ _
theorem ZAF(a b:List Zc)(h:a.length=b.length)(hl:a.length<=9223372036854775807):∀ (r s:List Zc) (i:Nat),a.drop i=r->b.drop i=s->ZoH 0 [(13,.int .i64 i),(12,.int .i64 a.length),(1,.lst false (b.map AVal.str)),(0,.lst false (a.map AVal.str))] []=some (.bool (r==s),[])
 | [],s,i,ha,hb=>by
  have hs:s=[]:=by
   subst hb;rw[XW]at ha ⊢;omega
  subst hs
  have h1:=Zcq ha
  unfold ZoH
  rw[ZR]
  simp -implicitDefEqProofs only[EQA,Xc,Xa,reduceCtorEq,↓reduceIte,Zpg,ZEq,Zq3,ZBk,Zoo,Zd,h1]
 |x::r,[],i,ha,hb=>by
  have:=(ZW ha).2.2;rw[XW]at hb;omega
 |x::r,y::s,i,ha,hb=>by
  have ih:=ZAF a b h hl r s (i+1) (ZW ha).2.1 (ZW hb).2.1
  have h1:(i:Int)<a.length:=by have:=(ZW ha).2.2;omega
  have e1:=iad (ZW ha).1 AVal.str (k:=1) rfl
  have e2:=iad (ZW hb).1 AVal.str (k:=1) rfl
  have e3:=Zcs h1 hl
  unfold ZoH at ih ⊢
  rw[ZR]
  simp -implicitDefEqProofs only[EQA,Zz,ZM,Xc,Xa,Xg,Zbi,reduceCtorEq,↓reduceIte,gcT,gcA,Zu,Zs,Zn,Zx,Zpg,ZBk,Zoo,Zd,h1,e1,e2,e3]
  rw[ih]
  by_cases hx:x=y<;>simp[hx]
theorem ZWw(a b:List Zc)(hl:a.length<=9223372036854775807):E 81 [.lst false (a.map AVal.str),.lst false (b.map AVal.str)] []=some (.bool (a==b),[]):=by
 rw[Zi (by rfl) ZVG]
 by_cases h:a.length=b.length
 ·have:=ZAF a b h hl a b 0 rfl rfl
  unfold ZoH at this
  have e:=Zom h
  simp -implicitDefEqProofs only[EQA,ZM,Xc,Xa,reduceCtorEq,↓reduceIte,gcT,gcA,Zu,Zs,Zn,Zx,ZBf,Zlq,Zd,e]
  exact this
 ·have e:=Zoc h
  simp -implicitDefEqProofs only[EQA,Xc,Xa,reduceCtorEq,↓reduceIte,ZBf,Zlq,Zpg,Zd,e,Zna h]
theorem ZLr(σ:Za)(sq own:Nat)(view:Bool)(a b:List Zc)(hl:a.length<=9223372036854775807):Zj E BY σ sq 81 own view [.lst false (a.map AVal.str),.lst false (b.map AVal.str)]=some (.bool (a==b),σ,{}) :=
 Za2 (ZWw a b hl) (by kernel_rfl) (by simp -implicitDefEqProofs only[Zbu,Zai,eq_self]) (by simp -implicitDefEqProofs only[Zz,Zai,eq_self]) rfl (fun _=>rfl) _ _ _ _
theorem Zzc(a b:List ZbP)(h:a.length=b.length)(hl:a.length<=9223372036854775807):∀ (r s:List ZbP) (i:Nat),a.drop i=r->b.drop i=s->ZnJ 0 [(13,.int .i64 i),(12,.int .i64 a.length),(1,.lst false (b.map Zaa)),(0,.lst false (a.map Zaa))] []=some (.bool (r==s),[])
 | [],s,i,ha,hb=>by
  have hs:s=[]:=by
   subst hb;rw[XW]at ha ⊢;omega
  subst hs
  have h1:=Zcq ha
  unfold ZnJ
  rw[ZR]
  simp -implicitDefEqProofs only[EQA,Xc,Xa,reduceCtorEq,↓reduceIte,Zt0,ZHD,Zre,ZBd,Zok,h1]
 |x::r,[],i,ha,hb=>by
  have:=(ZW ha).2.2;rw[XW]at hb;omega
 |x::r,y::s,i,ha,hb=>by
  have ih:=Zzc a b h hl r s (i+1) (ZW ha).2.1 (ZW hb).2.1
  have h1:(i:Int)<a.length:=by have:=(ZW ha).2.2;omega
  have e1:=iad (ZW ha).1 Zaa (k:=6) rfl
  have e2:=iad (ZW hb).1 Zaa (k:=6) rfl
  have e3:=Zcs h1 hl
  unfold ZnJ at ih ⊢
  rw[ZR]
  obtain⟨f1,q1,n1,a1,d1,i1⟩:=x
  obtain⟨f2,q2,n2,a2,d2,i2⟩:=y
  simp only[Zaa,AVal.cells]at e1 e2
  have kd:Zgt [2,0,1,1,0,0] [AVal.str f1,.int .i64 q1,.bool n1,.bool a1,.int .i64 d1,.int .i64 i1]=true:=rfl
  have ke:Zf4 [AVal.str f1,.int .i64 q1,.bool n1,.bool a1,.int .i64 d1,.int .i64 i1] [AVal.str f2,.int .i64 q2,.bool n2,.bool a2,.int .i64 d2,.int .i64 i2]=some (f1==f2&&(q1==q2&&(n1==n2&&(a1==a2&&(d1==d2&&(i1==i2&&true)))))):=rfl
  have kd2:Zgt [2,0,1,1,0,0] [AVal.str f2,.int .i64 q2,.bool n2,.bool a2,.int .i64 d2,.int .i64 i2]=true:=rfl
  simp -implicitDefEqProofs only[EQA,ZM,Xe,Xc,Xf,Xa,Xg,reduceCtorEq,↓reduceIte,gcT,gcA,Zu,Zs,Zn,Zx,Zt0,ZBd,Zok,h1,e1,e2,e3,kd,ke]
  rw[ih]
  have hb:((⟨f1,q1,n1,a1,d1,i1⟩:ZbP)==⟨f2,q2,n2,a2,d2,i2⟩)=(f1==f2&&(q1==q2&&(n1==n2&&(a1==a2&&(d1==d2&&(i1==i2)))))):=by
   rw[Xan];simp
  rw[List.cons_beq_cons,hb]
  cases f1==f2<;>cases q1==q2<;>cases n1==n2<;>cases a1==a2<;>cases d1==d2<;>cases i1==i2<;>rfl
theorem ZJX(a b:List ZbP)(hl:a.length<=9223372036854775807):E 80 [.lst false (a.map Zaa),.lst false (b.map Zaa)] []=some (.bool (a==b),[]):=by
 rw[Zi (by rfl) ZHC]
 by_cases h:a.length=b.length
 ·have:=Zzc a b h hl a b 0 rfl rfl
  unfold ZnJ at this
  have e:=Zom h
  simp -implicitDefEqProofs only[EQA,ZM,Xc,Xa,reduceCtorEq,↓reduceIte,gcT,gcA,Zu,Zs,Zn,Zx,ZwQ,Zob,e]
  exact this
 ·have e:=Zoc h
  simp -implicitDefEqProofs only[EQA,Xc,Xa,reduceCtorEq,↓reduceIte,ZwQ,Zob,Zt0,e,Zna h]
theorem ZEF(σ:Za)(sq own:Nat)(view:Bool)(a b:List ZbP)(hl:a.length<=9223372036854775807):Zj E BY σ sq 80 own view [.lst false (a.map Zaa),.lst false (b.map Zaa)]=some (.bool (a==b),σ,{}) :=
 Za2 (ZJX a b hl) (by kernel_rfl) (by simp -implicitDefEqProofs only[Zbu,Zai,eq_self]) (by simp -implicitDefEqProofs only[Zz,Zai,eq_self]) rfl (fun _=>rfl) _ _ _ _
def ZeG(a b:ZE):Bool :=
 ((((((((((((a.codes==b.codes&&a.subs==b.subs&&a.filters==b.filters&&a.props==b.props&&a.will.props==b.will.props)
  && (a.payload==b.payload&&a.password==b.password&&a.will.data==b.will.data))
  && (a.will.topic==b.will.topic&&a.will.qos==b.will.qos&&a.will.retain==b.will.retain))
  && (a.dup==b.dup&&a.retain==b.retain&&a.clean==b.clean&&a.hasWill==b.hasWill&&a.hasUser==b.hasUser&&a.hasPassword==b.hasPassword&&a.present==b.present))
  && a.type==b.type)&&a.qos==b.qos)&&a.id==b.id)&&a.topic==b.topic)&&a.code==b.code)&&a.keep==b.keep)&&a.client==b.client)&&a.user==b.user)
theorem ZJt(a b:ZE):ZeG a b=true↔a=b:=by
 obtain⟨a1,a2,a3,a4,a5,a6,a7,a8,a9,a10,a11,a12,a13,a14,a15,a16,⟨a17,a18,a19,a20,a21⟩,a22,a23,a24,a25,a26⟩:=a
 obtain⟨b1,b2,b3,b4,b5,b6,b7,b8,b9,b10,b11,b12,b13,b14,b15,b16,⟨b17,b18,b19,b20,b21⟩,b22,b23,b24,b25,b26⟩:=b
 simp only[ZeG,Xk,beq_iff_eq,ZE.mk.injEq,Zz7.mk.injEq]
 constructor
 ·rintro⟨⟨⟨⟨⟨⟨⟨⟨⟨⟨⟨⟨⟨⟨⟨h1,h2⟩,h3⟩,h4⟩,h5⟩,⟨⟨h6,h7⟩,h8⟩⟩,⟨⟨h9,h10⟩,h11⟩⟩,⟨⟨⟨⟨⟨⟨h12,h13⟩,h14⟩,h15⟩,h16⟩,h17⟩,h18⟩⟩,h19⟩,h20⟩,h21⟩,h22⟩,h23⟩,h24⟩,h25⟩,h26⟩
  simp only[h1,h2,h3,h4,h5,h6,h7,h8,h9,h10,h11,h12,h13,h14,h15,h16,h17,h18,h19,h20,h21,h22,h23,h24,h25,h26,and_self]
 ·rintro⟨h1,h2,h3,h4,h5,h6,h7,h8,h9,h10,h11,h12,h13,h14,h15,h16,⟨h17,h18,h19,h20,h21⟩,h22,h23,h24,h25,h26⟩
  simp only[h1,h2,h3,h4,h5,h6,h7,h8,h9,h10,h11,h12,h13,h14,h15,h16,h17,h18,h19,h20,h21,h22,h23,h24,h25,h26,and_self]
structure OkL(p:ZE):Prop where
 codes:p.codes.length<=9223372036854775807
 props:p.props.length<=9223372036854775807
 subs:p.subs.length<=9223372036854775807
 filters:p.filters.length<=9223372036854775807
 wprops:p.will.props.length<=9223372036854775807
theorem ZR6(a b:ZE)(h:OkL a):E 58 [ZaH a,ZaH b] []=some (.bool (ZeG a b),[]):=by
 have h1:=fun σ sq own view=>ZJ3 σ sq own view a.codes b.codes h.codes
 have h2:=fun σ sq own view=>ZEF σ sq own view a.subs b.subs h.subs
 have h3:=fun σ sq own view=>ZLr σ sq own view a.filters b.filters h.filters
 have h4:=fun σ sq own view=>Znf σ sq own view a.props b.props h.props
 have h5:=fun σ sq own view=>Znf σ sq own view a.will.props b.will.props h.wprops
 rw[Zi (by rfl) ZMm]
 unfold ZaH ZeG
 simp -implicitDefEqProofs only[EQA,ZM,Zdm,ZmH,Xe,Xc,Xa,Xg,Zbi,Zw,Zad,unG,reduceCtorEq,ZY,ite_self,↓reduceIte,ZGj,Zup,ZJQ,Zd,AVal.cells,h1,h2,h3,h4,h5]
theorem ZwR(σ:Za)(sq own:Nat)(view:Bool)(a b:ZE)(h:OkL a):Zj E BY σ sq 58 own view [ZaH a,ZaH b]=some (.bool (ZeG a b),σ,{}) :=
 Za2 (ZR6 a b h) (by kernel_rfl) rfl rfl rfl (fun _=>rfl) _ _ _ _
end
section
def ZoJ:Ze:=by apply Zd 55 [] [];conv=>lhs;reduce;dsimp only[zi]
def Zqi:ZA:=⟨[(.tmp 2)],ZoJ⟩
theorem Zyy:FC 55=some Zqi:=by kernel_rfl
theorem Zxa:Zqi.body=ZoJ:=rfl
theorem ZzD:Zqi.res=[(.tmp 2)]:=rfl
end
section
theorem ZDN{σ:Za}{t g k n:Nat}{xs:List AVal}(hs:σ[t]?=some (.row g k xs))(hn:n=xs.length):ZbI σ k (.sl t g 0 n) (some (.int .i64 0)) none none=some (.sl t g 0 n,σ,{ rd:=[t] }):=by
 subst hn
 have he:ZY σ (.sl t g 0 xs.length)=some ((xs.drop 0).take xs.length,[t]):=by simp[ZY,hs]
 simp[ZbI,he,hs,Zbp,ZcP]
theorem ZCF(σ:Za)(k:Nat):ZbI σ k (.lst true []) (some (.int .i64 0)) none none=some (.lst true [],σ,{}):=by
 simp[ZbI,Zbp,ZcP]
theorem ZWr(l:Zc):E 55 [.ref 0 0] (wH 0 l)=some (.sl 1 0 0 l.length,wH 0 l):=by
 have h1:((l.map Zb).length)=l.length:=by simp
 rw[Zi (by rfl) Zyy]
 unfold wH wv
 have hS:=fun(σ:Za) (hs:σ[1]?=some (.row 0 1 (l.map Zb)))=>ZDN (n:=l.length) hs h1.symm
 simp -implicitDefEqProofs only[EQA,Xe,Xc,Xa,Xg,reduceCtorEq,↓reduceIte,Zxa,ZoJ,ZzD,Zd,hS]
 simp[Z4,gcA,Zu,Zs,Zt,ZT,Zx,Zk,ZI,Zl,ZF,Zn,Zh,Zo,Zy,Wa,XaY]
theorem ZPh:E 55 [.ref 0 0] [.var wn]=some (.lst true [],[.var wn]):=by
 rw[Zi (by rfl) Zyy]
 unfold wn
 simp -implicitDefEqProofs only[EQA,Zv,ZM,Xc,Xa,Xg,reduceCtorEq,↓reduceIte,Zf,Zxa,ZoJ,ZzD,Zd,ZCF]
theorem ZBR(l:Zc):Z3 true 2 (some (.sl 1 0 0 l.length,wH 0 l))=some (.lst false (l.map Zb),[.var (wv 1 0 l.length),.frow 0 1 (l.map Zb)]):=by
 have e1:(0:Nat)+l.length<=(l.map Zb).length:=by simp
 have e2:((l.map Zb).drop 0).take l.length=l.map Zb:=by
  rw[List.drop_zero,<-XD (f:=Zb),Xaz]
 simp only[Z3,if_true,ZbB,viewR,ZP,ZK,ZY,wH,XT,XJ,e1,e2,and_self,Zr,WQ,WH]
 simp[gcA,Zu,Zt,ZT,Wa,XaY,Zx,wv,Zs,Zk,ZI,Zn,ZF,Zl,Zy,Zh,Zo]
theorem ZSA(l:Zc){σ:Za}(t r g:Nat){sq:Nat}(htr:t≠r)(hs:σ[t]?=some (.var (wv r g l.length)))(hr:σ[r]?=some (.row g 1 (l.map Zb))) :
  Zj E1 BY σ sq 55 0 true [.ref t 0]=some (.lst false (l.map Zb),(σ.set t (.var (wv r g l.length))).set r (.frow g 1 (l.map Zb)),{ any:=true,upd:=[(t,wv r g l.length)] }):=by
 refine ZbL ?_
 have hrf:Zt (wv r g l.length)=[r]:=rfl
 have htl:t<σ.length:=(Xl.1 hs).1
 have hrl:r<σ.length:=(Xl.1 hr).1
 have h1:σ.getD t .free=.var (wv r g l.length):=by simp[Xh,hs]
 have h2:σ.getD r .free=.row g 1 (l.map Zb):=by simp[Xh,hr]
 have hf0:Zr σ []=σ:=rfl
 have hsh:showAs σ [.ref t 0]=some ([.ref t 0],[]):=rfl
 have href:Zt [AVal.ref t 0]=[t]:=rfl
 have hup:ZaZ ((σ.set t (.var (wv r g l.length))).set r (.frow g 1 (l.map Zb))) [t,r]=[(t,wv r g l.length)]:=by
  have e1:((σ.set t (.var (wv r g l.length))).set r (.frow g 1 (l.map Zb)))[t]?=some (.var (wv r g l.length)):=by
   rw[Xn (fun e=>htr e.symm),X7 htl]
  have e2:((σ.set t (.var (wv r g l.length))).set r (.frow g 1 (l.map Zb)))[r]?=some (.frow g 1 (l.map Zb)):=by
   rw[X7 (by simpa using hrl)]
  simp only[ZaZ,e1,e2]
 unfold Zj ZbS
 rw[show BY 55=false by kernel_rfl]
 simp only[Xj,if_false,hsh,hf0,href,ZqJ hs hr htr hrf]
 unfold ZbK
 have hall:([t,r].all fun t=>okB (σ.getD t .free))=true:=by simp only[XO,Ws,h1,h2,okB,Xat]
 rw[if_pos hall]
 have hρt:Zk σ 0 [t,r] t 0=some (0,0):=by simp[Zk,ZI,hs,Zl,ZF]
 have hρr:Zk σ 0 [t,r] r g=some (1,0):=by simp[Zk,ZI,hr,Zl,ZF,htr]
 have hargs:Zh (Zk σ 0 [t,r]) [.ref t 0]=[.ref 0 0]:=by simp only[Zh,Zo,hρt]
 have hren:Zh (Zk σ 0 [t,r]) (wv r g l.length)=wv 1 0 l.length:=by simp only[wv,Zh,Zo,hρr]
 have hheap:Zn σ 0 [t,r] (Zk σ 0 [t,r]) [t,r] 0=wH 0 l:=by
  simp only[Zn,h1,h2,ZF,Zl,Zy,hren,wH]
  simp
 rw[hargs,hheap,ZWr l,show [t,r].length=2 from rfl,ZBR l]
 have hk:ZaW σ [t,r] [.var (wv 1 0 l.length),.frow 0 1 (l.map Zb)] 0=true:=by simp[ZaW,okB,Zcr,Zl,hs,hr]
 have hff:ZaM σ sq 0=true:=by simp[ZaM]
 have hb3:Zh (ZaJ σ [t,r] sq) (wv 1 0 l.length)=wv r g l.length:=by
  have : ZaJ σ [t,r] sq 1 0=some (r,g):=by simp only[ZaJ,XT,XJ,h2,Zl];rfl
  simp only[wv,Zh,Zo,this]
 simp only[ZaA,Wm,Xj,if_false,Xp,Xw,XB,Xe,Wc,XF,decide_true,hk,hff,Wg,if_true,Za9,ZaN,Xu,XN,Zch,XJ,XT,h2,Zl,Zy,Zo,hb3,hup]
theorem ZLM{σ:Za}{t sq:Nat}(hs:σ[t]?=some (.var wn)):Zj E1 BY σ sq 55 0 true [.ref t 0]=some (.lst false [],σ,{ any:=true,upd:=[(t,wn)] }):=by
 refine ZbL ?_
 have htl:t<σ.length:=(Xl.1 hs).1
 have h1:σ.getD t .free=.var wn:=by simp[Xh,hs]
 have hf0:Zr σ []=σ:=rfl
 have hsh:showAs σ [.ref t 0]=some ([.ref t 0],[]):=rfl
 have href:Zt [AVal.ref t 0]=[t]:=rfl
 have hre:Zs σ 1000 [t] []=[t]:=by
  have e1:([]:List Nat).contains t=false:=rfl
  rw[show(1000:Nat)=998+1+1 from rfl,Zs,e1]
  simp only[Xj,if_false,h1,Zx]
  rfl
 unfold Zj ZbS
 rw[show BY 55=false by kernel_rfl]
 simp only[Xj,if_false,hsh,hf0,href,hre]
 unfold ZbK
 have hall:([t].all fun t=>okB (σ.getD t .free))=true:=by simp only[XO,Ws,h1,okB,Xat]
 rw[if_pos hall]
 have hρt:Zk σ 0 [t] t 0=some (0,0):=by simp[Zk,ZI,hs,Zl,ZF]
 have hargs:Zh (Zk σ 0 [t]) [.ref t 0]=[.ref 0 0]:=by simp only[Zh,Zo,hρt]
 have hheap:Zn σ 0 [t] (Zk σ 0 [t]) [t] 0=[.var wn]:=by
  simp only[Zn,h1,Zy]
  rfl
 rw[hargs,hheap,ZPh]
 have hv:Z3 true 1 (some (.lst true [],[.var wn]))=some (.lst false [],[.var wn]):=rfl
 rw[show [t].length=1 from rfl,hv]
 have hk:ZaW σ [t] [.var wn] 0=true:=by simp[ZaW,okB,Zcr,Zl,hs]
 have hset:σ.set t (.var wn)=σ:=by
  apply List.ext_getElem?
  intro i
  rw[List.getElem?_set]
  by_cases e:t=i
  ·subst e;rw[if_pos rfl,if_pos htl,hs]
  ·simp[e]
 have hup:ZaZ σ [t]=[(t,wn)]:=by simp only[ZaZ,hs]
 have hff:ZaM σ sq 0=true:=by simp[ZaM]
 have hlay:Za9 σ [t] sq [.var wn] 0 σ=σ:=by
  simp only[Za9,ZaN,Zy,Xu]
  exact hset
 simp only[ZaA,Wm,Xj,if_false,hk,hff,hlay,hup,Zo,Xp,Xw,XB,Wc,XF,decide_true,Wg,if_true]
theorem Zxi(σ:Za)(sq own:Nat)(f:Bool)(a:Zc)(h:a.length<=140737488355328):Zj E BY σ sq 29 own true [.lst f [.lst false (a.map Zb)]]=some (.lst false (a.map Zb),σ,{}):=by
 have:=Zid σ sq own f a [] (by simp) (by simpa using h)
 simpa[ZJ]using this
theorem ZCz{p:ZE}{l:Zc}(h:E1 53 [.ref 0 0,ZaH p] [.var wn]=some (.tup [],wH 0 l)){σ:Za}{t sq:Nat}(hf:σ[sq]?=some .free)(hs0:σ[t]?=some (.var wn)) :
  Zj E1 BY σ sq 53 1 true [.ref t 0,.agg (ZB p)]=some (.tup [],(σ.set t (.var (wv sq 0 l.length))).set sq (.row 0 1 (l.map Zb)),{ any:=true,upd:=[(t,wv sq 0 l.length)] }) :=
 Zhc (args:=[.agg (ZB p)]) rfl rfl h (by kernel_rfl) (by rw[XO,Zet];rfl) (by rw[Xm,ZeS];rfl) hf hs0
theorem ZEU{p:ZE}(h:E1 53 [.ref 0 0,ZaH p] [.var wn]=some (.tup [],[.var wn])){σ:Za}{t sq:Nat}(hf:σ[sq]?=some .free)(hs0:σ[t]?=some (.var wn)) :
  Zj E1 BY σ sq 53 1 true [.ref t 0,.agg (ZB p)]=some (.tup [],σ,{ any:=true,upd:=[(t,wn)] }) :=
 ZAf (args:=[.agg (ZB p)]) h (by kernel_rfl) (by rw[XO,Zet];rfl) (by rw[Xm,ZeS];rfl) (ff1 hf) hs0
def orU(a b:Int):Int:=IntKind.u8.wrap (XP IntKind.u8.bits a |||XP IntKind.u8.bits b).toNat
def ZhV(t:Int):Int:=orU (IntKind.u8.wrap (IntKind.i64.wrap (t*2^min (Int.toNat 4) IntKind.i64.bits))) (Ze6 t)
def Zol(p:ZE):Int:=IntKind.u8.wrap (Zaj p.dup 8+ZD p.qos 3*2+Zaj p.retain 1)
def Zcz(p:ZE):Int:=if p.type=3 then orU (ZhV 3) (Zol p)else ZhV p.type
theorem ZPd(m:Nat)(h:m<256):IntKind.u8.wrap (m:Int)=m:=by
 unfold IntKind.wrap IntKind.signed IntKind.bits
 simp
 omega
theorem Zxn(a b:Int):0<=orU a b/\orU a b<256:=by
 have h:∀ x y:BitVec 8,(x |||y).toNat<256:=fun x y=>(x |||y).isLt
 have h2:=h (XP 8 a) (XP 8 b)
 unfold orU
 rw[show IntKind.u8.bits=8 from rfl,ZPd _ h2]
 omega
theorem ZzU(p:ZE):0<=Zcz p/\Zcz p<256:=by
 unfold Zcz
 split
 ·exact Zxn _ _
 ·exact Zxn _ _
theorem Zzb(B:Zc):(Zac (B.length:Nat)).2=0↔B.length<=268435455:=by
 unfold Zac
 split
 ·simp only[]
  constructor
  ·intro h;simp at h
  ·intro h;omega
 ·simp only[true_iff]
  omega
def ZhN(first:Int)(B:Zc)(c:Int)(s:Bool):AVal :=
 if B.length<=268435455/\c=0/\s=true then .tup [.agg [.int .u8 first,.lst false (B.map Zb)],.int .i64 0]else .tup [.agg [.int .u8 0,.lst true []],.int .i64 129]
section
variable (p q:ZE)(c:Int)
theorem ZRW(B:Zc)(hb:E1 53 [.ref 0 0,ZaH p] [.var wn]=some (.tup [],wH 0 B))(hB:B.length<=140737488355328)
  (hr:∀ σ sq own,Zj E1 BY σ sq 57 own true [.agg [.int .u8 (Zcz p),.lst false (B.map Zb)]]=some (.tup [ZaH q,.int .i64 c],σ,{})) (hq:OkL q) :
  E1 27 [ZaH p] []=some (ZhN (Zcz p) B c (ZeG q p),[]):=by
 have fb:=fun{σ:Za} {t sq:Nat}=>ZCz hb (σ:=σ) (t:=t) (sq:=sq)
 have fB:=fun{σ:Za} {sq:Nat}=>ZSA B 2 3 0 (by omega) (σ:=σ) (sq:=sq)
 have fj:=fun σ sq own f=>ZbL (Zxi σ sq own f B hB)
 have ff:=fun σ sq own=>ZbL (ZmV p.type σ sq own)
 have fm:=fun b n σ sq own=>Zkt b n σ sq own
 have fv:=fun σ sq own=>ZbL (Zgq σ sq own (B.length:Nat))
 have fs:=fun σ sq own=>ZbL (ZwR σ sq own true q p hq)
 have hn:(B.map Zb).length=B.length:=by simp
 unfold ZhN
 generalize ZeG q p=s at *
 rw[Zb0]at *
 rw[Zb0]at *
 have e0:=Zck p
 have e1:=Zdh p
 have a0:(ZB p)[0]?=some (.int .i64 p.type):=rfl
 have a1:(ZB p)[1]?=some (.bool p.dup):=rfl
 have a2:(ZB p)[2]?=some (.int .i64 p.qos):=rfl
 have a3:(ZB p)[3]?=some (.bool p.retain):=rfl
 have d0:=Zck q
 have d1:=Zdh q
 have oq:(ZB q).all ZX=true:=rfl
 have m1:=Zew p.dup 8 (by omega)
 have m2:=Zew p.retain 1 (by omega)
 have m3:=Zkx p.qos
 have w2:=ZcW (ZD p.qos 3*2) (by omega) (by omega)
 have w3:=ZcW (Zaj p.dup 8+ZD p.qos 3*2) (by omega) (by omega)
 have w4:=ZcW (Zaj p.dup 8+ZD p.qos 3*2+Zaj p.retain 1) (by omega) (by omega)
 clear m1 m2 m3
 unfold Zcz at hr ⊢
 have hv:=Zzb B
 unfold Zfm at fv
 generalize (Zac (B.length:Nat)).1=V at *
 generalize (Zac (B.length:Nat)).2=v at *
 by_cases h3:p.type=3
 ·rw[if_pos h3]at hr ⊢
  rw[h3]at ff a0
  unfold ZhV Zol orU ZD at *
  clear h3
  generalize ZB p=P at *
  generalize ZB q=Q at *
  generalize p.dup=pd at *
  generalize p.qos=pq at *
  generalize p.retain=pr at *
  unfold wn at *
  rw[ZbE (by rfl) Zmy]
  by_cases v0:v=0
  ·have hL:=hv.1 v0
   subst v0
   by_cases c0:c=0
   ·subst c0
    cases s
    ·rw[if_neg (by simp)]
     simp -implicitDefEqProofs only[EQA,ZaG,Zv,Xe,Xc,Xf,Xa,Xg,ZaR,unA,Zw,unG,↓reduceIte,Zf,Zc6,ZcH,Zc5,Zd,AVal.cells,a0,a1,a2,a3,e0,e1,d0,d1,oq,Zab,fb,fB,fj,ff,fm,fv,fs,hr,hn,w2,w3,w4,XY,viewAs,ZP,ZK,Zr,Z6,Zaf,Zah,Zau,Zas,Zar,Zav,Zaw,Zag,XL,Xy,bne_self_eq_false]
    ·rw[if_pos ⟨hL,rfl,rfl⟩]
     simp -implicitDefEqProofs only[EQA,ZaG,Zv,Xe,Xc,Xf,Xa,Xg,ZaR,unA,Zw,unG,↓reduceIte,Zf,Zc6,ZcH,Zc5,Zd,AVal.cells,a0,a1,a2,a3,e0,e1,d0,d1,oq,Zab,fb,fB,fj,ff,fm,fv,fs,hr,hn,w2,w3,w4,XY,viewAs,ZP,ZK,Zr,Z6,Zaf,Zah,Zau,Zas,Zar,Zav,Zaw,Zag,XL,Xy,bne_self_eq_false]
   ·have c1:(c != 0)=true:=by simpa using c0
    rw[if_neg (fun h=>c0 h.2.1)]
    simp -implicitDefEqProofs only[EQA,ZaG,Zv,Xe,Xc,Xf,Xa,Xg,ZaR,Zw,Zad,unG,reduceCtorEq,↓reduceIte,Zf,Zc6,ZcH,Zc5,Zd,AVal.cells,a0,a1,a2,a3,e0,e1,d0,oq,Zab,fb,fB,fj,ff,fm,fv,hr,hn,w2,w3,w4,c1,XY,viewAs,ZP,ZK,Zr,Z6,Zaf,Zah,Zau,Zas,Zar,Zav,Zaw,Zag,XL,Xy,bne_self_eq_false]
  ·have v1:(v != 0)=true:=by simpa using v0
   rw[if_neg (fun h=>v0 (hv.2 h.1))]
   simp -implicitDefEqProofs only[EQA,ZaG,Zv,Xe,Xc,Xf,Xa,Xg,ZaR,Zw,Zad,reduceCtorEq,↓reduceIte,Zf,Zc6,ZcH,Zc5,Zd,AVal.cells,a0,a1,a2,a3,e0,e1,d0,oq,Zab,fb,fB,fj,ff,fm,fv,hr,hn,w2,w3,w4,v1,XY,viewAs,ZP,ZK,Zr,Z6,Zaf,Zah,Zau,Zas,Zar,Zav,Zaw,Zag,XL,Xy]
 ·rw[if_neg h3]at hr ⊢
  have h3b:(p.type==3)=false:=by simpa using h3
  unfold ZhV orU at *
  clear h3
  generalize ZB p=P at *
  generalize ZB q=Q at *
  generalize p.dup=pd at *
  generalize p.qos=pq at *
  generalize p.retain=pr at *
  generalize p.type=ty at *
  unfold wn at *
  rw[ZbE (by rfl) Zmy]
  by_cases v0:v=0
  ·have hL:=hv.1 v0
   subst v0
   by_cases c0:c=0
   ·subst c0
    cases s
    ·rw[if_neg (by simp)]
     simp -implicitDefEqProofs only[EQA,ZaG,Zv,Xe,Xc,Xf,Xa,Xg,ZaR,unA,Zw,unG,↓reduceIte,Zf,Zc6,ZcH,Zc5,Zd,AVal.cells,a0,e0,e1,d0,d1,oq,Zab,fb,fB,fj,ff,fv,fs,hr,hn,h3b,XY,viewAs,ZP,ZK,Zr,Z6,Zaf,Zah,Zau,Zas,Zar,Zav,Zaw,Zag,XL,Xy,bne_self_eq_false]
    ·rw[if_pos ⟨hL,rfl,rfl⟩]
     simp -implicitDefEqProofs only[EQA,ZaG,Zv,Xe,Xc,Xf,Xa,Xg,ZaR,unA,Zw,unG,↓reduceIte,Zf,Zc6,ZcH,Zc5,Zd,AVal.cells,a0,e0,e1,d0,d1,oq,Zab,fb,fB,fj,ff,fv,fs,hr,hn,h3b,XY,viewAs,ZP,ZK,Zr,Z6,Zaf,Zah,Zau,Zas,Zar,Zav,Zaw,Zag,XL,Xy,bne_self_eq_false]
   ·have c1:(c != 0)=true:=by simpa using c0
    rw[if_neg (fun h=>c0 h.2.1)]
    simp -implicitDefEqProofs only[EQA,ZaG,Zv,Xe,Xc,Xf,Xa,Xg,ZaR,Zw,Zad,unG,reduceCtorEq,↓reduceIte,Zf,Zc6,ZcH,Zc5,Zd,AVal.cells,a0,e0,e1,d0,oq,Zab,fb,fB,fj,ff,fv,hr,hn,h3b,c1,XY,viewAs,ZP,ZK,Zr,Z6,Zaf,Zah,Zau,Zas,Zar,Zav,Zaw,Zag,XL,Xy,bne_self_eq_false]
  ·have v1:(v != 0)=true:=by simpa using v0
   rw[if_neg (fun h=>v0 (hv.2 h.1))]
   simp -implicitDefEqProofs only[EQA,ZaG,Zv,Xe,Xc,Xf,Xa,Xg,ZaR,Zw,Zad,reduceCtorEq,↓reduceIte,Zf,Zc6,ZcH,Zc5,Zd,AVal.cells,a0,e0,e1,d0,oq,Zab,fb,fB,fj,ff,fv,hr,hn,h3b,v1,XY,viewAs,ZP,ZK,Zr,Z6,Zaf,Zah,Zau,Zas,Zar,Zav,Zaw,Zag,XL,Xy]
theorem ZWQ(hb:E1 53 [.ref 0 0,ZaH p] [.var wn]=some (.tup [],[.var wn]))
  (hr:∀ σ sq own,Zj E1 BY σ sq 57 own true [.agg [.int .u8 (Zcz p),.lst false (([]:Zc).map Zb)]]=some (.tup [ZaH q,.int .i64 c],σ,{})) (hq:OkL q) :
  E1 27 [ZaH p] []=some (ZhN (Zcz p) [] c (ZeG q p),[]):=by
 have fb:=fun{σ:Za} {t sq:Nat}=>ZEU hb (σ:=σ) (t:=t) (sq:=sq)
 have fB:=fun{σ:Za} {sq:Nat}=>ZLM (σ:=σ) (t:=2) (sq:=sq)
 have fj:=fun σ sq own f=>ZbL (Zxi σ sq own f [] (by decide))
 have ff:=fun σ sq own=>ZbL (ZmV p.type σ sq own)
 have fm:=fun b n σ sq own=>Zkt b n σ sq own
 have fv:=fun σ sq own=>ZbL (Zgq σ sq own (([]:Zc).length:Nat))
 have fs:=fun σ sq own=>ZbL (ZwR σ sq own true q p hq)
 have hn:(([]:Zc).map Zb).length=([]:Zc).length:=by simp
 unfold ZhN
 generalize ZeG q p=s at *
 rw[Zb0]at *
 rw[Zb0]at *
 have e0:=Zck p
 have e1:=Zdh p
 have a0:(ZB p)[0]?=some (.int .i64 p.type):=rfl
 have a1:(ZB p)[1]?=some (.bool p.dup):=rfl
 have a2:(ZB p)[2]?=some (.int .i64 p.qos):=rfl
 have a3:(ZB p)[3]?=some (.bool p.retain):=rfl
 have d0:=Zck q
 have d1:=Zdh q
 have oq:(ZB q).all ZX=true:=rfl
 have m1:=Zew p.dup 8 (by omega)
 have m2:=Zew p.retain 1 (by omega)
 have m3:=Zkx p.qos
 have w2:=ZcW (ZD p.qos 3*2) (by omega) (by omega)
 have w3:=ZcW (Zaj p.dup 8+ZD p.qos 3*2) (by omega) (by omega)
 have w4:=ZcW (Zaj p.dup 8+ZD p.qos 3*2+Zaj p.retain 1) (by omega) (by omega)
 clear m1 m2 m3
 unfold Zcz at hr ⊢
 have hv:=Zzb []
 unfold Zfm at fv
 generalize (Zac (([]:Zc).length:Nat)).1=V at *
 generalize (Zac (([]:Zc).length:Nat)).2=v at *
 simp only[Xt,Xw]at fj hr fv hn hv
 by_cases h3:p.type=3
 ·rw[if_pos h3]at hr ⊢
  rw[h3]at ff a0
  unfold ZhV Zol orU ZD at *
  clear h3
  generalize ZB p=P at *
  generalize ZB q=Q at *
  generalize p.dup=pd at *
  generalize p.qos=pq at *
  generalize p.retain=pr at *
  unfold wn at *
  rw[ZbE (by rfl) Zmy]
  by_cases v0:v=0
  ·have hL:=hv.1 v0
   subst v0
   by_cases c0:c=0
   ·subst c0
    cases s
    ·rw[if_neg (by simp)]
     simp -implicitDefEqProofs only[EQA,ZaG,Zv,Xe,Xc,Xf,Xa,Xg,ZaR,unA,Zw,unG,↓reduceIte,Zf,Zc6,ZcH,Zc5,Zd,AVal.cells,a0,a1,a2,a3,e0,e1,d0,d1,oq,Zab,fb,fB,fj,ff,fm,fv,fs,hr,w2,w3,w4,XY,viewAs,ZP,ZK,Zr,Z6,Zaf,Zah,Zau,Zas,Zar,Zav,Zaw,Zag,XL,Xy,bne_self_eq_false]
    ·rw[if_pos ⟨by decide,rfl,rfl⟩]
     simp -implicitDefEqProofs only[EQA,ZaG,Zv,Xe,Xc,Xf,Xa,Xg,ZaR,unA,Zw,unG,↓reduceIte,Zf,Zc6,ZcH,Zc5,Zd,AVal.cells,a0,a1,a2,a3,e0,e1,d0,d1,oq,Zab,fb,fB,fj,ff,fm,fv,fs,hr,w2,w3,w4,XY,viewAs,ZP,ZK,Zr,Z6,Zaf,Zah,Zau,Zas,Zar,Zav,Zaw,Zag,XL,Xy,bne_self_eq_false]
   ·have c1:(c != 0)=true:=by simpa using c0
    rw[if_neg (fun h=>c0 h.2.1)]
    simp -implicitDefEqProofs only[EQA,ZaG,Zv,Xe,Xc,Xf,Xa,Xg,ZaR,Zw,Zad,unG,reduceCtorEq,↓reduceIte,Zf,Zc6,ZcH,Zc5,Zd,AVal.cells,a0,a1,a2,a3,e0,e1,d0,oq,Zab,fb,fB,fj,ff,fm,fv,hr,w2,w3,w4,c1,XY,viewAs,ZP,ZK,Zr,Z6,Zaf,Zah,Zau,Zas,Zar,Zav,Zaw,Zag,XL,Xy,bne_self_eq_false]
  ·have v1:(v != 0)=true:=by simpa using v0
   rw[if_neg (fun h=>v0 (hv.2 (by decide)))]
   simp -implicitDefEqProofs only[EQA,ZaG,Zv,Xe,Xc,Xf,Xa,Xg,ZaR,Zw,Zad,reduceCtorEq,↓reduceIte,Zf,Zc6,ZcH,Zc5,Zd,AVal.cells,a0,a1,a2,a3,e0,e1,d0,oq,Zab,fb,fB,fj,ff,fm,fv,hr,w2,w3,w4,v1,XY,viewAs,ZP,ZK,Zr,Z6,Zaf,Zah,Zau,Zas,Zar,Zav,Zaw,Zag,XL,Xy]
 ·rw[if_neg h3]at hr ⊢
  have h3b:(p.type==3)=false:=by simpa using h3
  unfold ZhV orU at *
  clear h3
  generalize ZB p=P at *
  generalize ZB q=Q at *
  generalize p.dup=pd at *
  generalize p.qos=pq at *
  generalize p.retain=pr at *
  generalize p.type=ty at *
  unfold wn at *
  rw[ZbE (by rfl) Zmy]
  by_cases v0:v=0
  ·have hL:=hv.1 v0
   subst v0
   by_cases c0:c=0
   ·subst c0
    cases s
    ·rw[if_neg (by simp)]
     simp -implicitDefEqProofs only[EQA,ZaG,Zv,Xe,Xc,Xf,Xa,Xg,ZaR,unA,Zw,unG,↓reduceIte,Zf,Zc6,ZcH,Zc5,Zd,AVal.cells,a0,e0,e1,d0,d1,oq,Zab,fb,fB,fj,ff,fv,fs,hr,h3b,XY,viewAs,ZP,ZK,Zr,Z6,Zaf,Zah,Zau,Zas,Zar,Zav,Zaw,Zag,XL,Xy,bne_self_eq_false]
    ·rw[if_pos ⟨by decide,rfl,rfl⟩]
     simp -implicitDefEqProofs only[EQA,ZaG,Zv,Xe,Xc,Xf,Xa,Xg,ZaR,unA,Zw,unG,↓reduceIte,Zf,Zc6,ZcH,Zc5,Zd,AVal.cells,a0,e0,e1,d0,d1,oq,Zab,fb,fB,fj,ff,fv,fs,hr,h3b,XY,viewAs,ZP,ZK,Zr,Z6,Zaf,Zah,Zau,Zas,Zar,Zav,Zaw,Zag,XL,Xy,bne_self_eq_false]
   ·have c1:(c != 0)=true:=by simpa using c0
    rw[if_neg (fun h=>c0 h.2.1)]
    simp -implicitDefEqProofs only[EQA,ZaG,Zv,Xe,Xc,Xf,Xa,Xg,ZaR,Zw,Zad,unG,reduceCtorEq,↓reduceIte,Zf,Zc6,ZcH,Zc5,Zd,AVal.cells,a0,e0,e1,d0,oq,Zab,fb,fB,fj,ff,fv,hr,h3b,c1,XY,viewAs,ZP,ZK,Zr,Z6,Zaf,Zah,Zau,Zas,Zar,Zav,Zaw,Zag,XL,Xy,bne_self_eq_false]
  ·have v1:(v != 0)=true:=by simpa using v0
   rw[if_neg (fun h=>v0 (hv.2 (by decide)))]
   simp -implicitDefEqProofs only[EQA,ZaG,Zv,Xe,Xc,Xf,Xa,Xg,ZaR,Zw,Zad,reduceCtorEq,↓reduceIte,Zf,Zc6,ZcH,Zc5,Zd,AVal.cells,a0,e0,e1,d0,oq,Zab,fb,fB,fj,ff,fv,hr,h3b,v1,XY,viewAs,ZP,ZK,Zr,Z6,Zaf,Zah,Zau,Zas,Zar,Zav,Zaw,Zag,XL,Xy]
end
end
section
def Zmn(x:UInt8)(B:Zc):AVal:=.tup [.agg [Zb x,.lst false (B.map Zb)],.int .i64 0]
theorem ZL7{args:List AVal}{p:ZE}{x:UInt8}{B:Zc}(h:E1 27 [ZaH p] []=some (ZhN x.toNat B 0 true,[]))(hB:B.length<=268435455)(hp:args.all Zan=true)(hn:args.map ZN=[ZaH p])(σ:Za)(sq own:Nat) :
  Zj E1 BY σ sq 27 own true args=some (Zmn x B,σ,{}):=by
 unfold ZhN at h
 rw[if_pos ⟨hB,rfl,rfl⟩]at h
 exact ZbD h (by kernel_rfl) hp hn rfl (fun _=>rfl) σ sq own
def ZlD(x:UInt8)(B:Zc):Zc:=x::((Zac B.length).1++B)
theorem ZQJ(σ:Za)(sq own:Nat)(f:Bool)(x:UInt8)(b c:Zc)(h:1+b.length+c.length<=140737488355328):Zj E BY σ sq 29 own true [.lst f [.lst false [Zb x],.lst false (b.map Zb),.lst false (c.map Zb)]]=some (.lst false ((x::(b++c)).map Zb),σ,{}):=by
 have:=Zid σ sq own f [x] [b,c] (by simp) (by simp;omega)
 simpa only[Xm,Xt,ZJ,Wn,List.flatten_nil,Xo,XV,XA]using this
theorem ZzY(p:ZE)(x:UInt8)(B:Zc)(hB:B.length<=268435455)(hF:∀ σ sq own,Zj E1 BY σ sq 27 own true [.agg (ZB p)]=some (Zmn x B,σ,{})) :
  E1 11 [ZaH p] []=some (.tup [.lst false ((ZlD x B).map Zb),.int .i64 0],[]):=by
 have hv:=Zfx (B.length:Nat)
 have fv:=fun σ sq own=>ZbL (Zgq σ sq own (B.length:Nat))
 have fj:=fun σ sq own f=>ZbL (ZQJ σ sq own f x (Zac (B.length:Nat)).1 B (by omega))
 have hn:(B.map Zb).length=B.length:=by simp
 rw[Zb0]
 have e0:=Zck p
 have e1:=Zdh p
 unfold ZlD
 unfold Zfm at fv
 unfold Zmn at hF
 generalize (Zac (B.length:Nat)).1=V at *
 generalize (Zac (B.length:Nat)).2=c at *
 generalize ZB p=P at *
 generalize (x::(V++B)).map Zb=R at *
 generalize hBB:B.map Zb=BB at *
 have bx:Zb x=.int .u8 (x.toNat:Nat):=rfl
 simp only[bx]at fj hF
 rw[ZbE (by rfl) ZH6]
 simp -implicitDefEqProofs only[EQA,Zv,Xe,Xc,Xf,Xa,Xg,↓reduceIte,Zf,ZO8,Zpa,ZWN,Zd,AVal.cells,e0,e1,hF,fv,fj,hn,bne_self_eq_false,viewAs,ZP,ZK,Zr]
end
section
def Zhq(p:ZE):Option Zc :=
 if p.type=1 then some (Ze4 p)else if p.type=2 then some (Zmo p)else if p.type=3 then some (ZeV p)
 else if p.type=4\/p.type=5\/p.type=6\/p.type=7 then some (beB (ZU p.id) 2++Zcc p)
 else if p.type=8 then some (Zb6 p++ZeA p.subs)else if p.type=10 then some (Zb6 p++ZeJ p.filters)
 else if p.type=9\/p.type=11 then some (Zb6 p++ZeB p.codes)
 else if p.type=14\/p.type=15 then ZdL p else none
def ZcD(p:ZE):Zc:=(Zhq p).getD []
theorem ZMP(p:ZE)(h:OkW p):E1 53 [.ref 0 0,ZaH p] [.var wn]=some (.tup [],wO (Zhq p)):=by
 unfold Zhq
 by_cases h1:p.type=1
 ·rw[if_pos h1];exact ZJ8 p h h1
 rw[if_neg h1]
 by_cases h2:p.type=2
 ·rw[if_pos h2];exact ZVO p h h2
 rw[if_neg h2]
 by_cases h3:p.type=3
 ·rw[if_pos h3];exact ZG7 p h h3
 rw[if_neg h3]
 by_cases h4:p.type=4\/p.type=5\/p.type=6\/p.type=7
 ·rw[if_pos h4];exact ZFb p h h4
 rw[if_neg h4]
 by_cases h8:p.type=8
 ·rw[if_pos h8];exact ZXO p h h8
 rw[if_neg h8]
 by_cases h10:p.type=10
 ·rw[if_pos h10];exact ZXE p h h10
 rw[if_neg h10]
 by_cases h9:p.type=9\/p.type=11
 ·rw[if_pos h9];exact ZMT p h h9
 rw[if_neg h9]
 by_cases h14:p.type=14\/p.type=15
 ·rw[if_pos h14];exact ZE1 p h h14
 rw[if_neg h14]
 exact ZMf p (by omega)
theorem ZHR(p:ZE):(Zcc p).length<=300000000:=by
 have h1:=Za3 1 (ZU p.code)
 have h2:=ZdP p.type p.props
 unfold Zcc
 repeat' split
 all_goals simp only[Xi,Xw]
 all_goals omega
theorem ZW1(p:ZE)(h:OkW p)(hp:p.payload.length<=1000000):(ZcD p).length<=1000000000000:=by
 have a1:=ZBT p h
 have a2:=ZHR p
 have a3:=Za3 2 (ZU p.id)
 have a4:=Za3 1 (ZU p.code)
 have a5:=Za3 1 (ZU (Zaj p.present 1))
 have a6:=ZdP 2 p.props
 have a7:=ZdP 3 p.props
 have a8:=Zc9 p.topic
 have a9:=Znn p h
 have b1:=ZUZ p.subs
 have b2:=ZLG p.filters
 have b3:=ZEk p.codes
 have c1:=h.subs.1
 have c2:=h.filters.1
 have c3:=h.codes
 have a10:(Zkj p).length<=70000:=by
  unfold Zkj
  split
  ·rw[Xi];omega
  ·omega
 have a11:((ZdL p).getD []).length<=300000000:=by
  unfold ZdL
  split
  ·simpa using a2
  ·simp
 unfold ZcD Zhq
 generalize ZdL p=ro at *
 repeat' split
 all_goals try simp only[WF,Option.getD_none,Xi,Xw,Zmo,ZeV]
 all_goals omega
theorem Zh4{w:Int}{b:Zc}{l:List Zp}{r:Zc}(h:ZbU w b=.ok (l,r)):l.length<=268435455:=by
 unfold ZbU at h
 split at h
 ·injection h with h
  injection h with h1 h2
  rw[<-h1];exact ZMb w b
 ·cases h
theorem Zzn{α:Type}{one:Zc->RK α}:∀ {n:Nat} {l:Zc} {ts:List α},Zba one n l=.ok ts->ts.length<=n
 |0,l,ts,h=>by
  unfold Zba at h
  split at h
  ·injection h with h;subst h;simp
  ·cases h
 |n+1,l,ts,h=>by
  unfold Zba at h
  split at h
  ·injection h with h;subst h;simp
  ·split at h
   ·cases h
   ·split at h
    ·cases h
    ·rename_i t ht
     injection h with h;subst h
     have:=Zzn ht
     simp;omega
theorem ZsF{α:Type}{one:Zc->RK α}{k:Int}{l:Zc}{n:Int}{ps:List Zp}{ts:List α}(h:ZbV one k l=.ok (n,ps,ts)):ps.length<=268435455/\ts.length<=l.length:=by
 unfold ZbV at h
 split at h
 ·cases h
 rename_i n' ps' r hm
 have l1:=Zkr hm
 split at h
 ·cases h
 rename_i us hu
 injection h with h;injection h with e1 h;injection h with e2 e3;subst e1 e2 e3
 have:=Zzn hu
 refine⟨?_,by omega⟩
 unfold Zel at hm
 split at hm
 ·cases hm
 split at hm
 ·cases hm
 rename_i hp
 split at hm
 ·cases hm
 injection hm with hm;injection hm with _ hm;injection hm with e _;subst e
 exact Zh4 hp
theorem ZP4{k:Int}{l:Zc}{c:Int}{ps:Option (List Zp)}{r:Zc}(h:Zdl k l=.ok ((c,ps),r)):(ps.getD []).length<=268435455:=by
 unfold Zdl at h
 split at h
 ·injection h with h;injection h with h _;injection h with _ h;subst h;simp
 split at h
 ·cases h
 split at h
 ·injection h with h;injection h with h _;injection h with _ h;subst h;simp
 split at h
 ·cases h
 rename_i hp
 injection h with h;injection h with h _;injection h with _ h;subst h
 exact Zh4 hp
theorem Zdk:OkL ZaT:=⟨by simp[ZaT],by simp[ZaT],by simp[ZaT],by simp[ZaT],by simp[ZaT]⟩
theorem Zu8{q q':ZE}{l r:Zc}(h:OkL q)(e:ZhL q l=.ok (q',r)):OkL q':=by
 unfold ZhL at e
 split at e
 ·cases e
 rename_i c ps r' hr
 injection e with e;injection e with e _;subst e
 have:=ZP4 hr
 exact⟨h.codes,by simp only;omega,h.subs,h.filters,h.wprops⟩
theorem ZXQ{q q':ZE}{l r:Zc}(h:OkL q)(e:idQ q l=.ok (q',r)):OkL q':=by
 unfold idQ at e
 split at e
 ·cases e
 rename_i n r1 _
 exact Zu8 (q:={ q with id:=n }) ⟨h.codes,h.props,h.subs,h.filters,h.wprops⟩ e
theorem ZKI{q q':ZE}{l r:Zc}(h:OkL q)(e:ZjW q l=.ok (q',r)):OkL q':=by
 unfold ZjW at e
 split at e
 ·cases e
 split at e
 case isFalse=>cases e
 split at e
 ·cases e
 split at e
 ·cases e
 rename_i hp
 injection e with e;injection e with e _;subst e
 have:=Zh4 hp
 exact⟨h.codes,by simp only;omega,h.subs,h.filters,h.wprops⟩
theorem ZWA{b:Bool}{q q':ZE}{l r:Zc}(h:OkL q)(e:ZkX b q l=.ok (q',r)):OkL q':=by
 unfold ZkX at e
 split at e
 ·split at e
  ·cases e
  ·injection e with e;injection e with e _;subst e;exact⟨h.codes,h.props,h.subs,h.filters,h.wprops⟩
 ·injection e with e;injection e with e _;subst e;exact h
theorem ZCM{b:Bool}{q q':ZE}{l r:Zc}(h:OkL q)(e:Zi0 b q l=.ok (q',r)):OkL q':=by
 unfold Zi0 at e
 split at e
 ·split at e
  ·cases e
  ·injection e with e;injection e with e _;subst e;exact⟨h.codes,h.props,h.subs,h.filters,h.wprops⟩
 ·injection e with e;injection e with e _;subst e;exact h
theorem ZOR{b:Bool}{q q':ZE}{l r:Zc}(h:OkL q)(e:ZiZ b q l=.ok (q',r)):OkL q':=by
 unfold ZiZ at e
 split at e
 ·split at e
  ·cases e
  ·rename_i ps tp d r' hw
   injection e with e;injection e with e _;subst e
   refine⟨h.codes,h.props,h.subs,h.filters,?_⟩
   unfold ZeQ at hw
   split at hw
   ·cases hw
   rename_i hp
   split at hw
   ·cases hw
   split at hw
   ·cases hw
   injection hw with hw;injection hw with e1 _;subst e1
   have:=Zh4 hp
   simp only;omega
 ·injection e with e;injection e with e _;subst e;exact h
theorem ZQE{q:ZE}(h:OkL q)(m k:Int){ps:List Zp}(cl:Zc)(hp:ps.length<=268435455):OkL (headD (Zo4 q m) k ps cl):=⟨h.codes,Nat.le_trans hp (by decide),h.subs,h.filters,h.wprops⟩
theorem ZDv{q q':ZE}{l r:Zc}(h:OkL q)(e:Zhh q l=.ok (q',r)):OkL q':=by
 unfold Zhh at e
 split at e
 ·cases e
 split at e
 case isFalse=>cases e
 split at e
 ·cases e
 split at e
 case isFalse=>cases e
 split at e
 ·cases e
 split at e
 case isFalse=>cases e
 unfold ZmO at e
 split at e
 ·cases e
 split at e
 ·cases e
 rename_i hp
 split at e
 ·cases e
 unfold ZoI at e
 split at e
 ·cases e
 rename_i hw
 split at e
 ·cases e
 rename_i hu
 exact ZWA (ZCM (ZOR (ZQE h _ _ _ (Zh4 hp)) hw) hu) e
theorem ZjC{x:Except Int (ZE×Zc)}(h:∀ q r,x=.ok (q,r)->OkL q){q:ZE}(e:Zdo x=.ok q):OkL q:=by
 unfold Zdo at e
 split at e
 ·cases e
 rename_i q' r'
 split at e
 ·injection e with e;subst e;exact h _ _ rfl
 ·cases e
theorem ZPM{t:Int}{l:Zc}(hl:l.length<=9223372036854775807){q:ZE}(e:ZiO t l=.ok q):OkL q:=by
 have h0:∀ k:Int,OkL { ZaT with type:=k }:=fun k=>⟨Zdk.codes,Zdk.props,Zdk.subs,Zdk.filters,Zdk.wprops⟩
 unfold ZiO at e
 split at e
 ·exact ZjC (fun _ _ h=>ZDv (h0 1) h) e
 split at e
 ·exact ZjC (fun _ _ h=>ZKI (h0 2) h) e
 split at e
 ·exact ZjC (fun _ _ h=>ZXQ (h0 t) h) e
 split at e
 ·unfold ZlH at e
  split at e
  ·cases e
  rename_i hm
  injection e with e;subst e
  have:=ZsF hm
  exact⟨(h0 8).codes,by simp only;omega,by simp only;omega,(h0 8).filters,(h0 8).wprops⟩
 split at e
 ·unfold Zk9 at e
  split at e
  ·cases e
  rename_i hm
  injection e with e;subst e
  have:=ZsF hm
  exact⟨(h0 8).codes,by simp only;omega,(h0 8).subs,by simp only;omega,(h0 8).wprops⟩
 split at e
 ·unfold Zjl at e
  split at e
  ·cases e
  rename_i hm
  injection e with e;subst e
  have:=ZsF hm
  exact⟨by simp only;omega,by simp only;omega,(h0 8).subs,(h0 8).filters,(h0 8).wprops⟩
 split at e
 ·exact ZjC (fun _ _ h=>Zu8 (h0 t) h) e
 ·exact ZjC (fun q r h=>by injection h with h;injection h with h _;subst h;exact h0 t) e
theorem ZMS{qos:Int}{l:Zc}{tp:Zc}{n:Int}{ps:List Zp}{q:Zc}(e:ZdO qos l=.ok (tp,n,ps,q)):ps.length<=268435455:=by
 unfold ZdO at e
 split at e
 ·cases e
 split at e
 ·split at e
  ·cases e
  split at e
  ·cases e
  rename_i hp
  injection e with e;injection e with _ e;injection e with _ e;injection e with e _;subst e
  exact Zh4 hp
 ·split at e
  ·cases e
  rename_i hp
  injection e with e;injection e with _ e;injection e with _ e;injection e with e _;subst e
  exact Zh4 hp
theorem Zvn(b:Int)(l:Zc)(hl:l.length<=9223372036854775807):OkL (ZdQ b l).1:=by
 unfold ZdQ
 split
 ·exact Zdk
 split
 ·unfold ZiM
  split
  ·split
   ·split
    ·exact Zdk
    ·rename_i h
     have:=ZMS h
     exact⟨Zdk.codes,by simp only;omega,Zdk.subs,Zdk.filters,Zdk.wprops⟩
   ·exact Zdk
  ·exact Zdk
 split
 ·split
  ·exact Zdk
  ·rename_i h
   exact ZPM hl h
 ·exact Zdk
theorem ZSr(p:ZE)(h:OkW p)(hp:p.payload.length<=1000000):E1 27 [ZaH p] []=some (ZhN (Zcz p) (ZcD p) (ZdQ (Zcz p) (ZcD p)).2 (ZeG (ZdQ (Zcz p) (ZcD p)).1 p),[]):=by
 have hb:=ZMP p h
 have hl:=ZW1 p h hp
 have hw:=ZzU p
 unfold ZcD at hl ⊢
 cases hB:Zhq p with
 |none =>
  rw[hB]at hb
  exact ZWQ p _ _ hb (fun σ sq own=>ZwW _ hw [] (by decide) false σ sq own) (Zvn _ _ (by decide))
 |some B =>
  rw[hB]at hb hl
  simp only[WF]at hl ⊢
  exact ZRW p _ _ B hb (by omega) (fun σ sq own=>ZwW _ hw B (by omega) false σ sq own) (Zvn _ _ (by omega))
def ZfJ(p:ZE):Prop:=(ZcD p).length<=268435455/\ZdQ (Zcz p) (ZcD p)=(p,0)
instance (p:ZE):Decidable (ZfJ p):=inferInstanceAs (Decidable (_/\_))
def Zim(p:ZE):UInt8:=UInt8.ofNat (Zcz p).toNat
theorem ZHO(p:ZE):((Zim p).toNat:Int)=Zcz p:=by
 have:=ZzU p
 unfold Zim
 rw[Wr]
 omega
section
variable (p:ZE)(h:OkW p)(hp:p.payload.length<=1000000)
include h hp
theorem ZQz:ZfJ p↔((ZcD p).length<=268435455/\(ZdQ (Zcz p) (ZcD p)).2=0/\ZeG (ZdQ (Zcz p) (ZcD p)).1 p=true):=by
 unfold ZfJ
 rw[ZJt]
 constructor
 ·rintro⟨h1,h2⟩
  rw[h2];exact⟨h1,rfl,rfl⟩
 ·rintro⟨h1,h2,h3⟩
  exact⟨h1,Prod.ext h3 h2⟩
theorem Zyf(hg:ZfJ p)(args:List AVal)(ha:args.all Zan=true)(hn:args.map ZN=[ZaH p])(σ:Za)(sq own:Nat):Zj E1 BY σ sq 27 own true args=some (Zmn (Zim p) (ZcD p),σ,{}):=by
 have hF:=ZSr p h hp
 obtain⟨h1,h2,h3⟩:=(ZQz p h hp).1 hg
 rw[h2,h3,<-ZHO p]at hF
 exact ZL7 (by rw[hF]) h1 ha hn σ sq own
theorem ZiQ(p:ZE):([AVal.agg (ZB p)].all Zan=true)/\[AVal.agg (ZB p)].map ZN=[ZaH p]:=⟨by rw[XO,Zet];rfl,by rw[Xm,ZeS];rfl⟩
def Zd0(p:ZE):Zc:=ZlD (Zim p) (ZcD p)
theorem ZzK(hg:ZfJ p)(args:List AVal)(ha:args.all Zan=true)(hn:args.map ZN=[ZaH p])(σ:Za)(sq own:Nat):Zj E1 BY σ sq 11 own true args=some (.tup [.lst false ((Zd0 p).map Zb),.int .i64 0],σ,{}) :=
 ZbD (ZzY p (Zim p) (ZcD p) hg.1 fun σ sq own=>Zyf p h hp hg _ (ZiQ p h hp p).1 (ZiQ p h hp p).2 σ sq own) (by kernel_rfl) ha hn rfl (fun _=>rfl) σ sq own
end
end
section
theorem Zxx(rest:Zc):∀ (b:Zc) (i n:Nat),(gvA i n b).2.2=0->gvA i n (b++rest)=gvA i n b
 | [],i,n,h=>by
  unfold gvA at h
  split at h<;>simp at h
 |c::r,i,n,h=>by
  rw[XV]
  unfold gvA at h⊢
  split at h
  ·simp at h
  ·rename_i h4
   rw[if_neg h4,if_neg h4]
   split at h
   ·rename_i hc
    rw[if_pos hc,if_pos hc]
   ·rename_i hc
    rw[if_neg hc,if_neg hc]
    exact Zxx rest r (i+1) _ h
theorem ZXl(b rest:Zc)(h:(Z0 b).2.2=0):Z0 (b++rest)=Z0 b:=Zxx rest b 0 0 h
theorem ZP7(w:Int)(b rest:Zc)(h:(Z9 w b).2.2=0):Z9 w (b++rest)=Z9 w b:=by
 have hx:¬((Z0 b).2.2≠0\/((Z0 b).1:Int)>(b.length:Int)-((Z0 b).2.1:Nat)):=by
  intro hx
  unfold Z9 at h
  rw[if_pos hx]at h
  simp at h
 have h1:(Z0 b).2.2=0:=WP fun e=>hx (Xr e)
 have h2:¬(((Z0 b).1:Int)>(b.length:Int)-((Z0 b).2.1:Nat)):=fun e=>hx (XE e)
 have hg:=ZXl b rest h1
 have hle:(Z0 b).2.1+(Z0 b).1<=b.length:=by omega
 have ht:(b++rest).take ((Z0 b).2.1+(Z0 b).1)=b.take ((Z0 b).2.1+(Z0 b).1):=X6 hle
 have hl:(b++rest).length=b.length+rest.length:=Xi
 have hx':¬((Z0 b).2.2≠0\/((Z0 b).1:Int)>((b++rest).length:Int)-((Z0 b).2.1:Nat)):=by
  rintro(e |e)
  ·exact e h1
  ·rw[hl]at e;omega
 unfold Z9
 rw[hg,ht,if_neg hx,if_neg hx']
theorem ZKA(w:Int)(l:List Zp):(Z9 w (Za8 w l).1=(l,(Za8 w l).1.length,0)/\(Za8 w l).2=0)\/((Za8 w l).1=[]/\(Za8 w l).2≠0):=by
 unfold Za8 ZfN
 generalize (l.map ZaF).flatten=b
 by_cases h:(Zac b.length).2≠0
 ·rw[if_pos h];exact XE ⟨rfl,by decide⟩
 ·rw[if_neg h]
  split
  ·exact XE ⟨rfl,by decide⟩
  ·rename_i h2
   refine Xr ⟨?_,rfl⟩
   have h0:(Z9 w ((Zac b.length).1++b)).2.2=0:=WP fun e=>h2 (Xr e)
   have h1:(Z9 w ((Zac b.length).1++b)).2.1=((Zac b.length).1++b).length:=WP fun e=>h2 (XE (Xr e))
   have h3:(Z9 w ((Zac b.length).1++b)).1=l:=by
    by_cases e:((Z9 w ((Zac b.length).1++b)).1==l)=true
    ·exact beq_iff_eq.1 e
    ·exact absurd (XE (XE (by simpa using e))) h2
   simp only
   generalize Z9 w ((Zac b.length).1++b)=R at *
   obtain⟨a,n,c⟩:=R
   simp only at h0 h1 h3
   rw[h0,h1,h3]
theorem Zw3(w:Int)(l:List Zp)(rest:Zc)(h:(Za8 w l).2=0):ZbU w ((Za8 w l).1++rest)=.ok (l,rest):=by
 rcases ZKA w l with⟨h1,_⟩ |⟨_,h2⟩
 ·have h0:(Z9 w (Za8 w l).1).2.2=0:=by rw[h1]
  unfold ZbU
  rw[ZP7 w _ rest h0,h1]
  simp
 ·exact absurd h h2
end
section
end
section
theorem ZST(a b:Zc):E 14 [ZJ a,ZJ b] []=some (.bool (a==b),[]):=by
 rw[Zi (by rfl) ZGE]
 simp -implicitDefEqProofs only[EQA,Xc,Xa,Zbi,reduceCtorEq,ZY,↓reduceIte,ZIR,ZqW,ZJx,Zd,ZJ]
theorem ZUl(σ:Za)(sq own:Nat)(f g:Bool)(a b:Zc):Zj E BY σ sq 14 own true [.lst f (a.map Zb),.lst g (b.map Zb)]=some (.bool (a==b),σ,{}) :=
 ZbD (ZST a b) (by kernel_rfl) rfl rfl rfl (fun _=>rfl) σ sq own
def p7:ZE:={ ZaT with type:=4,id:=7,code:=16 }
def b7:Zc:=[0,7,16]
end
section
open Go.RowKit
section
variable {H:Type}{enc:TypeId×Value->H}{P:Program}{w:World}{spare:Nat->Bool}{held:Bool}{R:Nat}
end
end
section
open Go.RowKit
variable {R:Nat}
def okI(n:Int):Prop:=-9223372036854775808<=n/\n<=9223372036854775807
def ZVB(R:Nat)(p:Zp):Prop:=okI p.id/\okI p.num/\p.text.length<=R/\p.pair.length<=R/\p.data.length<=R
def Zy8(R:Nat)(l:List Zp):Prop:=l.length<=R/\∀ p∈l,ZVB R p
structure ZXR(R:Nat)(p:ZE):Prop where
 topic:p.topic.length<=R
 payload:p.payload.length<=R
 codes:p.codes.length<=R/\∀ n∈p.codes,okI n
 props:Zy8 R p.props
 subs:p.subs.length<=R/\∀ s∈p.subs,s.filter.length<=R/\okI s.qos/\okI s.handling/\okI s.id
 filters:p.filters.length<=R/\∀ f∈p.filters,f.length<=R
 client:p.client.length<=R
 wtopic:p.will.topic.length<=R
 wdata:p.will.data.length<=R
 wprops:Zy8 R p.will.props
 user:p.user.length<=R
 password:p.password.length<=R
 ints:okI p.type/\okI p.qos/\okI p.id/\okI p.code/\okI p.keep/\okI p.will.qos
end
section
end
section
end
section
theorem ZWk{w:Nat}{x:Int}(r:Zc)(hw:w<=4)(h0:0<=x)(h:x.toNat<256^w):ZaU w (beB (ZU x) w++r)=.ok (x,r):=by
 have hl:=Za3 w (ZU x)
 have hu:ZU x=x.toNat:=by
  refine ZyD h0 ?_
  have : (256:Nat)^w<=256^4:=WN (by omega) hw
  have e4:(256:Nat)^4=4294967296:=rfl
  omega
 have hp:(256:Nat)^w<=4294967296:=by
  have : (256:Nat)^w<=256^4:=WN (by omega) hw
  have e4:(256:Nat)^4=4294967296:=rfl
  omega
 have hx:ZU x<=4294967296:=by rw[hu];omega
 unfold ZaU
 rw[if_neg (by rw[Xi];omega),X6 (by omega),XI (by omega),List.drop_append_of_le_length (by omega),List.drop_of_length_le (by omega),XA,hu,ZEo (by omega) h (by omega)]
 have : ((x.toNat:Nat):Int)=x:=by omega
 rw[this]
theorem ZGH{x:Int}(r:Zc)(h0:1<=x)(h:x<=65535):idK (beB (ZU x) 2++r)=.ok (x,r):=by
 unfold idK
 rw[ZWk r (by omega) (by omega) (by have : (256:Nat)^2=65536:=rfl;omega)]
 simp only
 rw[if_neg (by omega)]
section
variable (c id:Int)(hc:0<=c/\c<=255)(hi:1<=id/\id<=4096)
include hc hi
end
end
section
def asc(l:Zc):Prop:=∀ b∈l,0<b.toNat/\b.toNat<128
theorem Zwb:∀ l:Zc,asc l->zfG l.length l=true
 | [],_=>rfl
 |b::t,h=>by
  have hb:=h b (by simp)
  rw[Xp,zfG,if_neg (by simp),Lib.decodeL_ascii b t hb.2]
  simp only
  rw[if_neg (by omega)]
  exact Zwb t fun c hc=>h c (by simp[hc])
theorem ZxI:∀ l:Zc,asc l->Lib.validD l=true
 | [],_=>rfl
 |b::t,h=>by
  rw[Lib.validD_cons b t (h b (by simp)).2]
  exact ZxI t fun c hc=>h c (by simp[hc])
theorem Zlj{l:Zc}(h:asc l):Zct l=true:=by
 unfold Zct;rw[Zwb l h,ZxI l h];rfl
theorem ZRm(c:UInt8):0<(ZeO c).toNat/\(ZeO c).toNat<128:=by
 unfold ZeO;rw[Wr];omega
theorem ZiW(b:Zc):asc (Zb5 b):=by
 intro c hc
 unfold Zb5 at hc
 obtain⟨d,_,rfl⟩:=X2.1 hc
 exact ZRm d
theorem Zxk(b:Zc):asc (116::Zb5 b):=by
 intro c hc
 rcases XR.1 hc with rfl |hc
 ·decide
 ·exact ZiW b c hc
theorem ZhQ(x:Int)(k:Nat)(hk:k<9223372036854775808):0<=ZaS x k/\ZaS x k<=k:=by
 unfold ZaS
 have hb:IntKind.i64.bits=64:=rfl
 rw[hb,BitVec.toNat_and,BitVec.ofInt_natCast,BitVec.toNat_ofNat]
 have h1:k%2^64=k:=by omega
 rw[h1]
 have h2:=@Nat.and_le_right (XP 64 x).toNat k
 rw[ZaC (by omega) (by omega)]
 omega
theorem ZHF(x:Int):0<=ZjD x/\ZjD x<=1:=ZhQ x 1 (by decide)
theorem Zn5:ZcQ 1 3=true/\ZcQ 3 3=true/\ZcQ 9 3=true/\ZcQ 38 3=true:=by decide +kernel
theorem Zeg:Zbt 1=1/\Zbt 3=5/\Zbt 9=6/\Zbt 38=7:=by decide
theorem ZqY{s:Zc}(h:asc s)(hl:s.length<=65535):(Z5 s).2=0:=by
 unfold Z5;rw[if_pos (Zlj h)];exact ZvV hl
theorem ZG2{acc:List Zp}(x:Int)(h:Zcm 1 acc=none):Zg3 3 acc ⟨1,ZjD x,[],[],[]⟩:=by
 have hx:=ZHF x
 refine⟨?_,Zn5.1,?_,?_,?_⟩
 ·unfold ZfR okV
  simp only[Zeg.1,if_true,Xk,Bool.not_eq_true',Xav,decide_eq_false_iff_not,decide_eq_true_eq]
  omega
 ·unfold Zho;simp[Zeg.1]
 ·unfold Zer;simp[Zeg.1];omega
 ·simp[h]
theorem ZAz{acc:List Zp}(s:Zc)(hs:asc s)(hl:s.length<=65535)(h:Zcm 3 acc=none):Zg3 3 acc ⟨3,0,s,[],[]⟩:=by
 refine⟨?_,Zn5.2.1,?_,?_,?_⟩
 ·unfold ZfR okV
  simp[Zeg.2.1,ZqY hs hl]
 ·unfold Zho;simp[Zeg.2.1]
 ·unfold Zer;simp[Zeg.2.1]
 ·simp[h]
theorem ZXo{acc:List Zp}(d:Zc)(hl:d.length<=65535)(h:Zcm 9 acc=none):Zg3 3 acc ⟨9,0,[],[],d⟩:=by
 refine⟨?_,Zn5.2.2.1,?_,?_,?_⟩
 ·unfold ZfR okV
  simp[Zeg.2.2.1,ZvV hl]
 ·unfold Zho;simp[Zeg.2.2.1]
 ·unfold Zer;simp[Zeg.2.2.1]
 ·simp[h]
theorem ZwY{acc:List Zp}(s t:Zc)(hs:asc s)(hl:s.length<=65535)(ht:asc t)(hm:t.length<=65535):Zg3 3 acc ⟨38,0,s,t,[]⟩:=by
 refine⟨?_,Zn5.2.2.2,?_,?_,?_⟩
 ·unfold ZfR okV
  simp[Zeg.2.2.2,ZqY hs hl,ZqY ht hm]
 ·unfold Zho;simp[Zeg.2.2.2]
 ·unfold Zer;simp[Zeg.2.2.2]
 ·simp[Zh2]
theorem Zja{w:Int}:∀ {l r acc:List Zp},ZeC w acc l->ZeC w (acc++l) r->ZeC w acc (l++r)
 | [],r,acc,_,h=>by simpa using h
 |p::l,r,acc,h1,h2=>⟨h1.1,Zja h1.2 (by simpa using h2)⟩
theorem Zvy(u:Zc):∀ (l:Zc) (acc:List Zp),ZeC 3 acc (l.map (Zfl u))
 | [],_=>trivial
 |c::l,acc=>⟨ZwY _ _ (ZiW _) (by have:=Zev [c];omega) (ZiW _) (by have:=Zev u;omega),Zvy u l _⟩
theorem Zxp(p:ZdW):ZeC 3 [] (Zb4 p):=by
 have hc:=Zev p.content
 unfold Zb4 Zfg
 refine Zja ?_ (Zvy _ _ _)
 refine Zja ?_ (Zja ?_ ?_)
 ·split
  ·exact⟨ZG2 _ rfl,trivial⟩
  ·trivial
 ·split<;>split
  ·exact⟨ZAz _ (ZiW _) (by omega) rfl,trivial⟩
  ·trivial
  ·exact⟨ZAz _ (ZiW _) (by omega) rfl,trivial⟩
  ·trivial
 ·split<;>split<;>split
  all_goals first
   |trivial
   |exact⟨ZXo _ (by simp;omega) rfl,trivial⟩
theorem Zse(p:ZdW):(Zb4 p).length<=7:=by
 unfold Zb4 Zfg
 simp only[Xi,XD,X0]
 repeat' split
 all_goals simp
 all_goals omega
theorem ZfE(p:ZdW):∀ q∈Zb4 p,q.text.length<=30/\q.pair.length<=30/\q.data.length<=30/\[(1:Int),3,8,9,38].contains q.id=true:=by
 have hc:=Zev p.content
 intro q hq
 unfold Zb4 Zfg at hq
 simp only[List.mem_append,X2]at hq
 rcases hq with(h |h |h) |⟨c,_,rfl⟩
 ·split at h
  ·simp only[Wf]at h;subst h;simp
  ·simp at h
 ·split at h
  ·simp only[Wf]at h;subst h;simp;omega
  ·simp at h
 ·split at h
  ·simp only[Wf]at h;subst h;simp;omega
  ·simp at h
 ·have h1:=Zev [c]
  have h2:=Zev p.users
  simp[Zfl,h1,h2]
theorem ZO4(q:Zp)(h:q.text.length<=30/\q.pair.length<=30/\q.data.length<=30):(ZaF q).length<=100:=by
 have h1:=Zfx q.id
 have h2:=Zfx q.num
 have ht:∀ s:Zc,s.length<=30->(Z5 s).1.length<=32:=by
  intro s hs
  unfold Z5
  split
  ·rw[Zng (by omega)];omega
  ·simp
 have a1:=ht _ h.1
 have a2:=ht _ h.2.1
 have a3:(Zbj q.data).1.length<=32:=by rw[Zng (by omega)];omega
 unfold ZaF Zce
 rw[Xi,Xi]
 repeat' split
 all_goals simp only[Za3,Xw]
 all_goals omega
theorem Zro:∀ l:List Zp,(∀ q∈l,q.text.length<=30/\q.pair.length<=30/\q.data.length<=30)->(l.map ZaF).flatten.length<=l.length*100
 | [],_=>by simp
 |p::r,h=>by
  have h1:=ZO4 p (h p (by simp))
  have h2:=Zro r fun q hq=>h q (by simp[hq])
  simp only[Xm,Wn,Xi,Xp]
  omega
theorem ZE5(p:ZdW):((Zb4 p).map ZaF).flatten.length<=700:=by
 have h1:=Zro (Zb4 p) fun q hq=>⟨(ZfE p q hq).1,(ZfE p q hq).2.1,(ZfE p q hq).2.2.1⟩
 have h2:=Zse p
 omega
theorem ZRz(p:ZdW):Zdx (Zb4 p)=Zb4 p:=by
 unfold Zdx Zcv
 rw[List.filter_eq_self]
 exact fun q hq=>(ZfE p q hq).2.2.2
structure ZS0(n:Zax):Prop where
 topic:Zct n.topic=true/\n.topic.length<=65535
 payload:n.payload.length<=65535
 qos:n.qos=0\/n.qos=1\/n.qos=2
 sender:Zct n.sender=true/\n.sender.length<=65535
 expires:0<=n.expires/\n.expires<=4611686018427387904
 number:0<=n.number/\n.number<=4611686018427387904
 origin:0<=n.origin/\n.origin<=255
 hops:0<=n.hops/\n.hops<=255
 seq:ZeC 3 [] n.props
 flat:(n.props.map ZaF).flatten.length<268435456
 kept:Zdx n.props=n.props
theorem Zl8(m:ZcN):ZS0 (ZbG m):=by
 have h1:=Zev m.topic
 have h2:=Zev m.sender
 have a1:0<=ZaS m.life 65535/\ZaS m.life 65535<=65535:=ZhQ m.life 65535 (by decide)
 have a2:0<=ZaS m.origin 255/\ZaS m.origin 255<=255:=ZhQ m.origin 255 (by decide)
 have a3:0<=ZaS m.number 16777215/\ZaS m.number 16777215<=16777215:=ZhQ m.number 16777215 (by decide)
 have a4:=ZE5 m.p
 refine⟨⟨Zlj (Zxk _),?_⟩,?_,ZWl _,⟨Zlj (ZiW _),?_⟩,?_,?_,?_,⟨Xar 0,show(0:Int)<=255 by decide⟩,Zxp _,?_,ZRz _⟩
 ·simp only[ZbG,Xp];omega
 ·simp only[ZbG,X0];omega
 ·simp only[ZbG];omega
 ·simp only[ZbG];split<;>omega
 ·simp only[ZbG];omega
 ·simp only[ZbG];omega
 ·simp only[ZbG];omega
end
section
def Zdq(qos:Int)(rt:Bool)(id:Int)(topic:Zc)(props:List Zp)(pay:Zc):ZE:={ ZaT with type:=3,qos:=qos,retain:=rt,id:=id,topic:=topic,props:=props,payload:=pay }
def fM(q:Int)(r:Bool):Int:=orU (ZhV 3) (IntKind.u8.wrap (Zaj false 8+ZD q 3*2+Zaj r 1))
theorem ZXB(q:Int)(hq:q=0\/q=1\/q=2)(r:Bool):tyI (fM q r)=3/\qoI (fM q r)=q/\(ZbH (fM q r) 8 != 0)=false/\(ZbH (fM q r) 1 != 0)=r:=by
 rcases hq with rfl |rfl |rfl<;>cases r<;>decide +kernel
theorem ZAN(s r:Zc)(ht:Zct s=true)(hl:s.length<=65535):ZaD ((Z5 s).1++r)=.ok (s,r):=by
 have h:=ZmB s r ht hl
 have l:=Zkl ht hl
 unfold ZaD
 rw[h,if_pos rfl]
 simp only
 rw[List.drop_left' l]
theorem ZHt(qos:Int)(rt:Bool)(id:Int)(topic:Zc)(props:List Zp)(pay:Zc)(hq:qos=0\/qos=1\/qos=2)(ht:Zct topic=true/\topic.length<=65535)(h0:qos=0->id=0)(h1:qos≠0->1<=id/\id<=65535)(hp:(Za8 3 props).2=0)(hB:(ZeV (Zdq qos rt id topic props pay)).length<=268435455) :
  ZfJ (Zdq qos rt id topic props pay):=by
 have hb:ZcD (Zdq qos rt id topic props pay)=ZeV (Zdq qos rt id topic props pay):=by
  unfold ZcD Zhq Zdq
  simp
 have hf:Zcz (Zdq qos rt id topic props pay)=fM qos rt:=by
  unfold Zcz fM Zol Zdq
  simp[ZaT]
 obtain⟨f1,f2,f3,f4⟩:=ZXB qos hq rt
 refine⟨by rw[hb];exact hB,?_⟩
 rw[hb,hf]
 have hk:ZdO qos (ZeV (Zdq qos rt id topic props pay))=.ok (topic,id,props,pay):=by
  unfold ZeV Zkj Zdq
  simp only
  rcases Decidable.em (qos=0)with e |e
  ·subst e
   rw[if_neg (by decide)]
   unfold ZdO
   rw[XU,ZAN _ _ ht.1 ht.2]
   simp only
   rw[if_neg (by decide),Zw3 3 props pay hp]
   rw[h0 rfl]
  ·have hg:qos>0:=by omega
   obtain⟨i1,i2⟩:=h1 e
   rw[if_pos hg]
   unfold ZdO
   rw[XU,XU,ZAN _ _ ht.1 ht.2]
   simp only
   rw[if_pos hg,ZGH _ i1 i2]
   simp only
   rw[Zw3 3 props pay hp]
 unfold ZdQ
 rw[f1,if_neg (by decide),if_pos rfl]
 unfold ZiM
 rw[f2,f3,f4,hk,if_pos (by omega),if_pos (XE rfl)]
 unfold Zdq
 simp[ZaT]
theorem ZjR:Zbt 2=3/\Zbt 11=4/\ZcQ 2 3=true/\ZcQ 11 3=true:=by decide +kernel
def Zcp(x:Int):Zp:=⟨2,x,[],[],[]⟩
def Zda(x:Int):Zp:=⟨11,x,[],[],[]⟩
theorem ZW3{acc:List Zp}(x:Int)(h0:0<=x)(hx:x<4294967296)(h:Zcm 2 acc=none):Zg3 3 acc (Zcp x):=by
 refine⟨?_,ZjR.2.2.1,?_,?_,?_⟩
 ·unfold ZfR okV Zcp
  simp[ZjR.1,h0,hx]
 ·unfold Zho Zcp;simp[ZjR.1]
 ·unfold Zer Zcp;simp[ZjR.1]
 ·simp[h,Zcp]
def Zc4(e now:Int):List Zp:=if e≠0 then [Zcp (if IntKind.i64.wrap (e-now)<0 then 0 else IntKind.i64.wrap (e-now))]else []
def Z1(it:ZhZ)(now:Int):List Zp:=it.note.props++Zc4 it.note.expires now++it.ids.map Zda
theorem ZyI(p:ZdW):Zcm 2 (Zb4 p)=none:=by
 unfold Zcm
 rw[List.find?_eq_none]
 intro q hq h
 have:=(ZfE p q hq).2.2.2
 simp only[beq_iff_eq]at h
 rw[h]at this
 exact absurd this (by decide)
theorem ZEG(q:Int)(rt:Bool)(id:Int)(t:Zc)(ps:List Zp)(pay:Zc):ZeV (Zdq q rt id t ps pay)=((if q>0 then(Z5 t).1++beB (ZU id) 2 else(Z5 t).1)++(Za8 3 ps).1)++pay:=rfl
end
section
theorem Zzh(l:Zc)(h:l.length<=140737488355328):E 44 [.lst false (l.map Zb)] []=some (.sl 0 0 0 (l.map Zb).length,[.row 0 1 (l.map Zb)]):=by
 refine ZbQ.2 ⟨1,?_⟩
 show ZeD 1 1 [.lst false (l.map Zb)] []=_
 have h1:(l.map Zb).length*1<=140737488355328/\kOk 1 (l.map Zb)=true:=⟨by simp;omega,by cases l<;>rfl⟩
 simp only[ZeD,ZY]
 rw[if_pos h1];rfl
theorem ZvA(n:Zax)(hp:n.payload.length<=140737488355328)(hl:n.props.length<=700000000)(hd:∀ p∈n.props,p.data.length<=140737488355328) :
  E 20 [.agg [.str n.topic,.lst false (n.payload.map Zb),.int .i64 n.qos,.bool n.retain,.str n.sender,.int .i64 n.expires,.lst false (n.props.map Zg),.int .i64 n.origin,.int .i64 n.number,.int .i64 n.hops]] []=some (.agg (ZeX n 0 1),[.row 0 1 (n.payload.map Zb),.row 0 5 (n.props.map Zg)]):=by
 have h:=Zwe n hl hd n.props 0 rfl
 have z:((0:Nat):Int)=0:=rfl
 rw[z]at h
 have c1:=fun σ sq hs=>ZrZ (bf:=BY) (Zzh n.payload hp) rfl rfl σ sq hs
 have c2:=fun σ sq hs=>ZrZ (bf:=BY) (ZLJ n.props hl) rfl rfl σ sq hs
 rw[XD]at c1 c2
 unfold ZeX ZnC at h
 unfold ZeX
 generalize n.payload.map Zb=P at *
 generalize n.props.map Zg=R at *
 unfold ZnK at h
 rw[Zi (by rfl) ZOl]
 simp -implicitDefEqProofs only[EQA,ZM,Za7,Xe,Xc,Xf,Xa,Xg,reduceCtorEq,↓reduceIte,gcT,gcA,Zu,Zs,Zk,Zn,ZI,Zl,ZF,Zy,Zx,ZL0,Ztz,Zd,c1,c2,ZX,AVal.cells]
 exact h
theorem ZXf(n:Zax)(hp:n.payload.length<=140737488355328)(hl:n.props.length<=700000000)(hd:∀ p∈n.props,p.data.length<=140737488355328)(σ:Za)(sq:Nat)(h0:σ[sq]?=some .free)(h1:σ[sq+1]?=some .free) :
  Zj E BY σ sq 20 2 false [.agg [.str n.topic,.lst false (n.payload.map Zb),.int .i64 n.qos,.bool n.retain,.str n.sender,.int .i64 n.expires,.lst false (n.props.map Zg),.int .i64 n.origin,.int .i64 n.number,.int .i64 n.hops]]=some (.agg (ZeX n sq (sq+1)),(σ.set sq (.row 0 1 (n.payload.map Zb))).set (sq+1) (.row 0 5 (n.props.map Zg)),{ any:=true }):=by
 rw[ZcT (by kernel_rfl) rfl]
 simp only[Xm,Xt,ZN,Za4]
 rw[ZvA n hp hl hd]
 have hf:ZaM σ sq 2=true:=by simp[ZaM,freeAt,h0,h1]
 unfold Z3
 rw[if_neg (by decide)]
 simp[ZaA,ZhP,ZaW,okB,Zl,hf,Zo,Zh,ZaJ,Za9,ZaZ,ZaN,Zch,Zy,ZeX]
def ZcJ(d:Bool)(qos:Int)(rt:Bool)(id:Int)(topic:Zc)(x y:AVal):List AVal:=[.int .i64 3,.bool d,.int .i64 qos,.bool rt,.int .i64 id,.str topic,x,.int .i64 0,.lst true [],y,.lst true [],.lst true [],.bool false,.int .i64 0,.str [],.bool false,.str [],.lst true [],.int .i64 0,.bool false,.lst true [],.bool false,.str [],.bool false,.lst true [],.bool false]
def ZhJ:List AVal:=[.int .i64 0,.bool false,.int .i64 0,.bool false,.int .i64 0,.str [],.lst true [],.int .i64 0,.lst true [],.lst true [],.lst true [],.lst true [],.bool false,.int .i64 0,.str [],.bool false,.str [],.lst true [],.int .i64 0,.bool false,.lst true [],.bool false,.str [],.bool false,.lst true [],.bool false]
theorem Zwz(ids:List Int)(hi:ids.length<=1000000)(d:Bool)(qos:Int)(rt:Bool)(id:Int)(topic:Zc)(P:List AVal)(full:List Zp):∀ (r:List Int) (i:Nat) (acc:List Zp),ids.drop i=r->acc.length+r.length<=800000000->full=acc++r.map Zda ->
  ZhW 0 [(51,.int .i64 i),(50,.int .i64 ids.length),(49,.lst false (ids.map (AVal.int .i64))),(10,.ref 0 0),(8,.ref 3 0)] [.var (ZcJ d qos rt id topic (.sl 1 0 0 P.length) (.sl 2 0 0 acc.length)),.row 0 1 P,.row 0 5 (acc.map Zg),.var ZhJ] =
  some (.agg (ZcJ d qos rt id topic (.sl 0 0 0 P.length) (.sl 1 0 0 full.length)),[.row 0 1 P,.row 0 5 (full.map Zg)])
 | [],i,acc,h,_,hf=>by
  have h1:=Zcq h
  rw[Xt,Xo]at hf
  subst hf
  generalize full.map Zg=R at *
  unfold ZhW ZcJ ZhJ
  rw[ZR]
  simp -implicitDefEqProofs only[EQA,Xe,Xc,Xf,Xa,↓reduceIte,ZVL,ZIC,Zr9,ZAg,Zos,Zd,h1,ZX,AVal.cells]
  simp[Z4,gcA,Zu,Zs,Zt,ZT,Zk,Zn,ZI,Zl,ZF,Zh,Zo,Zy,Zx]
 |x::r,i,acc,h,hn,hf=>by
  simp only[Xp]at hn
  have ih:=Zwz ids hi d qos rt id topic P full r (i+1) (acc++[Zda x]) (ZW h).2.1 (by rw[Xi];simp;omega) (by rw[hf];simp)
  have h1:(i:Int)<ids.length:=by have:=(ZW h).2.2;omega
  have e1:=iad (ZW h).1 (AVal.int .i64) (k:=1) rfl
  have e3:=Zcs h1 (by omega)
  have hb:(acc.length+1)*72<=140737488355328:=by omega
  simp only[X4,Xm,Xt,Xi,Xp,Xw,XB,Zg,Za0,Zda,ZJ]at ih
  clear hf h
  generalize full.map Zg=F at *
  have hR:(acc.map Zg).length=acc.length:=XD ..
  generalize acc.map Zg=R at *
  unfold ZhW ZcJ ZhJ at *
  rw[ZR]
  simp -implicitDefEqProofs only[EQA,ZaG,ZM,Za7,Xe,Xc,Xf,Xa,Xg,reduceCtorEq,ZY,↓reduceIte,gcT,gcA,Zu,Zs,Zk,Zn,ZI,Zl,ZF,Zy,Zx,ZAg,Zos,Zd,h1,e1,e3,hb,hR,ZaE,kOk,viewAs,ZP,ZK,Zat,Zr,Zab,ZX,AVal.cells]
  exact ih
theorem ZTO(it:ZhZ)(now id:Int)(dup:Bool)(hp:it.note.payload.length<=140737488355328)(hl:it.note.props.length<=600000000)(hd:∀ p∈it.note.props,p.data.length<=140737488355328)(hi:it.ids.length<=1000000) :
  E 48 [.agg [.str it.note.topic,.lst false (it.note.payload.map Zb),.int .i64 it.note.qos,.bool it.note.retain,.str it.note.sender,.int .i64 it.note.expires,.lst false (it.note.props.map Zg),.int .i64 it.note.origin,.int .i64 it.note.number,.int .i64 it.note.hops,.int .i64 it.qos,.bool it.retain,.lst false (it.ids.map (.int .i64 ·)),.str it.share],.int .i64 now,.int .i64 id,.bool dup] []=some (.agg (ZcJ (if it.qos>0 then dup else false) it.qos it.retain (if it.qos>0 then id else 0) it.note.topic (.sl 0 0 0 it.note.payload.length) (.sl 1 0 0 (Z1 it now).length)),[.row 0 1 (it.note.payload.map Zb),.row 0 5 ((Z1 it now).map Zg)]):=by
 have hc:=fun σ sq=>ZXf it.note hp (by omega) hd σ sq
 have z:((0:Nat):Int)=0:=rfl
 have key:=fun(d:Bool) (id:Int) (acc:List Zp) (ha:acc.length<=700000000)=>Zwz it.ids hi d it.qos it.retain id it.note.topic (it.note.payload.map Zb) (acc++it.ids.map Zda) it.ids 0 acc rfl (by omega) rfl
 rw[z]at key
 unfold Z1 Zc4
 unfold ZeX at hc
 simp only[XD]at key
 by_cases hq:it.qos>0
 ·rw[if_pos hq,if_pos hq]
  have hk:=key dup id
  by_cases he:it.note.expires=0
  ·have he':(it.note.expires != 0)=false:=by simp[he]
   rw[if_neg (by simp[he]),Xo]
   have h:=hk it.note.props (by omega)
   clear hk key
   generalize it.note.payload.map Zb=P at *
   generalize it.note.props.map Zg=R at *
   generalize (it.note.props++it.ids.map Zda).map Zg=F at *
   generalize (it.note.props++it.ids.map Zda).length=N at *
   unfold ZhW ZcJ ZhJ at h
   unfold ZcJ
   rw[Zi (by rfl) ZmT]
   simp -implicitDefEqProofs only[EQA,ZaG,ZM,Za7,Xe,Xc,Xf,Xa,Xg,reduceCtorEq,↓reduceIte,gcT,gcA,Zu,Zs,Zk,Zn,ZI,Zl,ZF,Zy,Zx,Zop,ZiB,Zd,hc,hq,he',Zab,ZX,AVal.cells]
   exact h
  ·have he':(it.note.expires != 0)=true:=by simp[he]
   rw[if_pos he]
   generalize hx:(if IntKind.i64.wrap (it.note.expires-now)<0 then 0 else IntKind.i64.wrap (it.note.expires-now))=x
   have h:=hk (it.note.props++[Zcp x]) (by rw[Xi];simp;omega)
   clear hk key
   have hb:(it.note.props.length+1)*72<=140737488355328:=by omega
   generalize (it.note.props++[Zcp x]++it.ids.map Zda).length=N at *
   simp only[X4,Xm,Xt,Xi,Xp,Xw,XB,Zg,Za0,Zcp,ZJ]at h
   have hR:(it.note.props.map Zg).length=it.note.props.length:=XD ..
   generalize it.note.payload.map Zb=P at *
   have e:(it.note.props++[Zcp x]++it.ids.map Zda).map Zg=it.note.props.map Zg++[.agg [.int .i64 2,.int .i64 x,.str [],.str [],.lst false []]]++(it.ids.map Zda).map Zg:=by simp[Zcp,Zg,Za0,ZJ]
   rw[e]
   generalize it.note.props.map Zg=R at *
   unfold ZhW ZcJ ZhJ at h
   unfold ZcJ
   rw[Zi (by rfl) ZmT]
   simp -implicitDefEqProofs only[EQA,ZaG,ZM,Za7,Xe,Xc,Xf,Xa,Xg,reduceCtorEq,ZY,↓reduceIte,gcT,gcA,Zu,Zs,Zk,Zn,ZI,Zl,ZF,Zy,Zx,Zop,ZiB,Zd,hc,hq,he',hx,hb,hR,gt_iff_lt,ZaE,kOk,viewAs,ZP,ZK,Zat,Zr,Zab,ZX,AVal.cells]
   exact h
 ·rw[if_neg hq,if_neg hq]
  have hk:=key false 0
  by_cases he:it.note.expires=0
  ·have he':(it.note.expires != 0)=false:=by simp[he]
   rw[if_neg (by simp[he]),Xo]
   have h:=hk it.note.props (by omega)
   clear hk key
   generalize it.note.payload.map Zb=P at *
   generalize it.note.props.map Zg=R at *
   generalize (it.note.props++it.ids.map Zda).map Zg=F at *
   generalize (it.note.props++it.ids.map Zda).length=N at *
   unfold ZhW ZcJ ZhJ at h
   unfold ZcJ
   rw[Zi (by rfl) ZmT]
   simp -implicitDefEqProofs only[EQA,ZaG,ZM,Za7,Xe,Xc,Xf,Xa,Xg,reduceCtorEq,↓reduceIte,gcT,gcA,Zu,Zs,Zk,Zn,ZI,Zl,ZF,Zy,Zx,Zop,ZiB,Zd,hc,hq,he',Zab,ZX,AVal.cells]
   exact h
  ·have he':(it.note.expires != 0)=true:=by simp[he]
   rw[if_pos he]
   generalize hx:(if IntKind.i64.wrap (it.note.expires-now)<0 then 0 else IntKind.i64.wrap (it.note.expires-now))=x
   have h:=hk (it.note.props++[Zcp x]) (by rw[Xi];simp;omega)
   clear hk key
   have hb:(it.note.props.length+1)*72<=140737488355328:=by omega
   generalize (it.note.props++[Zcp x]++it.ids.map Zda).length=N at *
   simp only[X4,Xm,Xt,Xi,Xp,Xw,XB,Zg,Za0,Zcp,ZJ]at h
   have hR:(it.note.props.map Zg).length=it.note.props.length:=XD ..
   generalize it.note.payload.map Zb=P at *
   have e:(it.note.props++[Zcp x]++it.ids.map Zda).map Zg=it.note.props.map Zg++[.agg [.int .i64 2,.int .i64 x,.str [],.str [],.lst false []]]++(it.ids.map Zda).map Zg:=by simp[Zcp,Zg,Za0,ZJ]
   rw[e]
   generalize it.note.props.map Zg=R at *
   unfold ZhW ZcJ ZhJ at h
   unfold ZcJ
   rw[Zi (by rfl) ZmT]
   simp -implicitDefEqProofs only[EQA,ZaG,ZM,Za7,Xe,Xc,Xf,Xa,Xg,reduceCtorEq,ZY,↓reduceIte,gcT,gcA,Zu,Zs,Zk,Zn,ZI,Zl,ZF,Zy,Zx,Zop,ZiB,Zd,hc,hq,he',hx,hb,hR,gt_iff_lt,ZaE,kOk,viewAs,ZP,ZK,Zat,Zr,Zab,ZX,AVal.cells]
   exact h
theorem ZER(n:Zax)(now:Int):E 52 [.agg [.str n.topic,.lst false (n.payload.map Zb),.int .i64 n.qos,.bool n.retain,.str n.sender,.int .i64 n.expires,.lst false (n.props.map Zg),.int .i64 n.origin,.int .i64 n.number,.int .i64 n.hops],.int .i64 now] []=some (.bool (n.expires != 0&&decide (now>=n.expires)),[]):=by
 rw[Zi (by rfl) ZNE]
 simp -implicitDefEqProofs only[EQA,ZM,Zdm,ZmH,Xc,Xa,Xg,Zw,Zad,unG,reduceCtorEq,ite_self,↓reduceIte,ZWu,ZrH,ZWd,Zd,AVal.cells]
theorem ZIT(σ:Za)(sq own:Nat)(view:Bool)(n:Zax)(now:Int):Zj E BY σ sq 52 own view [.agg [.str n.topic,.lst false (n.payload.map Zb),.int .i64 n.qos,.bool n.retain,.str n.sender,.int .i64 n.expires,.lst false (n.props.map Zg),.int .i64 n.origin,.int .i64 n.number,.int .i64 n.hops],.int .i64 now]=some (.bool (n.expires != 0&&decide (now>=n.expires)),σ,{}) :=
 Za2 (ZER n now) (by kernel_rfl) (by simp -implicitDefEqProofs only[Zbu,Zai,eq_self]) (by simp -implicitDefEqProofs only[Zbu,Zz,Zai,eq_self]) rfl (fun _=>rfl) _ _ _ _
end
section
theorem ZeK{O:ZV}{bf:Nat->Bool}{σ:Za}{sq f own:Nat}{view:Bool}{args vs vs':List AVal}{ids:List Nat}{h0 h:Za}{r0 r:AVal}(hb:bf f=false)(hsh:showAs σ args=some (vs,[]))(hre:Zs σ 1000 (Zt vs) []=ids)(hne:ids.isEmpty=false)
  (hall:(ids.all fun t=>okB (σ.getD t .free))=true) (hvs:Zh (Zk σ 0 ids) vs=vs') (hh:Zn σ 0 ids (Zk σ 0 ids) ids 0=h0) {hh0:Za} (hO:O f vs' h0=some (r0,hh0)) (hv:Z3 view ids.length (some (r0,hh0))=some (r,h))
  (hl1:h.length<=ids.length+own) (hl2:ids.length<=h.length) (hk:ZaW σ ids h 0=true) (hff:ZaM σ sq own=true) {r':AVal} (hr:Zo (ZaJ σ ids sq) r=r') {σ':Za} (hlay:Za9 σ ids sq h 0 σ=σ') {u:List (Nat×List AVal)} (hu:ZaZ σ' ids=u) :
  Zj O bf σ sq f own view args=some (r',σ',{ any:=true,upd:=u }):=by
 subst hr hlay hu
 unfold Zj ZbS
 rw[hb]
 simp only[Xj,if_false,hsh,show Zr σ []=σ from rfl,hre]
 unfold ZbK
 rw[if_pos hall,hvs,hh,hO,hv]
 simp only[ZaA,hne,WX,Xj,if_false,hl1,hl2,decide_true,hk,hff,Wg,if_true]
end
section
def ZoG:Ze:=by apply Zd 10 [] [];conv=>lhs;reduce;dsimp only[zi]
def ZrI:ZA:=⟨[(.cell 4 (some 26)),(.tmp 5)],ZoG⟩
theorem Zxb:FC 10=some ZrI:=by kernel_rfl
theorem Zxo:ZrI.body=ZoG:=rfl
theorem ZvR:ZrI.res=[(.cell 4 (some 26)),(.tmp 5)]:=rfl
def Zto:Ze:=by apply Zd 8 [] [];conv=>lhs;reduce;dsimp only[zi]
def Zp0:ZA:=⟨[(.tmp 4)],Zto⟩
theorem ZIi:FC 8=some Zp0:=by kernel_rfl
theorem ZBO:Zp0.body=Zto:=rfl
theorem ZVR:Zp0.res=[(.tmp 4)]:=rfl
def Zmp:Ze:=by apply Zd 17 [] [];conv=>lhs;reduce;dsimp only[zi]
def ZtE:ZA:=⟨[(.tmp 4)],Zmp⟩
theorem ZwN:FC 17=some ZtE:=by kernel_rfl
theorem Zyd:ZtE.body=Zmp:=rfl
theorem Zvo:ZtE.res=[(.tmp 4)]:=rfl
def Zs5:Ze:=(.seq (.region [oM 30 5,oM 4 30] none [4]) .ret)
@[irreducible] def Zvz:Ze:=Zs5
def ZXy:=xw Zvz Zs5 (by kernel_rfl)
def Ztr:Ze:=by apply Zd 9 [1,1,1,0,1,0,0] [];conv=>lhs;reduce;dsimp only[zi]
@[irreducible] def Zvj:Ze:=Ztr
def ZIH:=xw Zvj Ztr (by kernel_rfl)
def Zq6:Ze:=by apply Zd 9 [] [([1,1,1,0,1,0,0],Zvj),([1,1,1,1],Zvz)];conv=>lhs;reduce;dsimp only[zi]
def ZqV:ZA:=⟨[(.tmp 4)],Zq6⟩
theorem ZEL:FC 9=some ZqV:=by kernel_rfl
theorem ZLp:ZqV.body=Zq6:=rfl
theorem ZVN:ZqV.res=[(.tmp 4)]:=rfl
def ZsH:Ze:=by apply Zd 24 [] [];conv=>lhs;reduce;dsimp only[zi]
def Zpq:ZA:=⟨[(.tmp 4)],ZsH⟩
theorem ZQU:FC 24=some Zpq:=by kernel_rfl
theorem ZHK:Zpq.body=ZsH:=rfl
theorem ZP1:Zpq.res=[(.tmp 4)]:=rfl
def Zsl:Ze:=by apply Zd 51 [] [];conv=>lhs;reduce;dsimp only[zi]
def Zut:ZA:=⟨[(.tmp 3)],Zsl⟩
theorem ZJO:FC 51=some Zut:=by kernel_rfl
theorem ZFK:Zut.body=Zsl:=rfl
theorem ZEX:Zut.res=[(.tmp 3)]:=rfl
def ZtW:Ze:=by apply Zd 12 [] [];conv=>lhs;reduce;simp only[zi,zb]
def Zo8:ZA:=⟨[(.cell 4 (some 10)),(.tmp 5)],ZtW⟩
theorem ZXt:FC 12=some Zo8:=by kernel_rfl
theorem ZOF:Zo8.body=ZtW:=rfl
theorem ZLs:Zo8.res=[(.cell 4 (some 10)),(.tmp 5)]:=rfl
def Zs1:Ze:=by apply Zd 30 [] [];conv=>lhs;reduce;dsimp only[zi]
def ZoY:ZA:=⟨[(.tmp 6)],Zs1⟩
theorem ZFV:FC 30=some ZoY:=by kernel_rfl
theorem ZD7:ZoY.body=Zs1:=rfl
theorem ZIl:ZoY.res=[(.tmp 6)]:=rfl
def ZsZ:Ze:=by apply Zd 22 [] [];conv=>lhs;reduce;dsimp only[zi]
def ZtU:ZA:=⟨[(.tmp 2)],ZsZ⟩
theorem ZEa:FC 22=some ZtU:=by kernel_rfl
theorem ZUY:ZtU.body=ZsZ:=rfl
theorem ZI6:ZtU.res=[(.tmp 2)]:=rfl
def Zun:Ze:=by apply Zd 23 [] [];conv=>lhs;reduce;simp only[zi,zb]
def ZrN:ZA:=⟨[(.cell 8 (some 26))],Zun⟩
theorem ZPz:FC 23=some ZrN:=by kernel_rfl
theorem ZXI:ZrN.body=Zun:=rfl
theorem ZRr:ZrN.res=[(.cell 8 (some 26))]:=rfl
def Zt9:Ze:=by apply Zd 49 [] [];conv=>lhs;reduce;dsimp only[zi]
def ZuJ:ZA:=⟨[(.cell 4 (some 5))],Zt9⟩
theorem ZBD:FC 49=some ZuJ:=by kernel_rfl
theorem ZQ3:ZuJ.body=Zt9:=rfl
theorem ZU2:ZuJ.res=[(.cell 4 (some 5))]:=rfl
end
section
theorem Zwf(n:Int)(h0:0<=n)(h1:n<=9223372036854775807)(σ:Za)(sq own:Nat)(view:Bool):Zj E BY σ sq 60 own view [.int .i64 n]=some (.str (Za6 20 n.toNat),σ,{}):=by
 have h:E 60 [.int .i64 n] []=some (.str (Za6 20 n.toNat),[]):=by
  refine ZbQ.2 ⟨1,?_⟩
  show ZjG [.int .i64 n] []=_
  simp only[ZjG]
  rw[if_pos ⟨h0,h1⟩]
 exact Za2 h (by kernel_rfl) rfl rfl rfl (fun _=>rfl) _ _ _ _
theorem ZCG(l:Zc)(n:Int)(hl:l.length<=18)(ha:Lib.atoi l=some n)(σ:Za)(sq own:Nat)(view:Bool):Zj E BY σ sq 59 own view [.str l]=some (.tup [.int .i64 n,.nili],σ,{}):=by
 have h:E 59 [.str l] []=some (.tup [.int .i64 n,.nili],[]):=by
  refine ZbQ.2 ⟨1,?_⟩
  show Zjy [.str l] []=_
  simp only[Zjy,ha]
  rw[if_pos hl]
 exact Za2 h (by kernel_rfl) rfl rfl rfl (fun _=>rfl) _ _ _ _
def lkP(s:Zc)(n:Int):Zp:=⟨38,0,s,Za6 20 n.toNat,[]⟩
theorem ZCN(s:Zc)(n:Int)(h0:0<=n)(h1:n<=9223372036854775807):E 49 [.str s,.int .i64 n] []=some (.agg [.int .i64 38,.int .i64 0,.str s,.str (Za6 20 n.toNat),.lst true []],[]):=by
 have hI:=Zwf n h0 h1
 generalize Za6 20 n.toNat=d at *
 rw[Zi (by rfl) ZBD]
 simp -implicitDefEqProofs only[EQA,ZaG,Zv,Xe,Xc,Xf,Xa,Xg,reduceCtorEq,↓reduceIte,Zf,ZQ3,Zt9,ZU2,Zd,hI,Zab,AVal.cells]
theorem Zub(s:Zc)(n:Int)(h0:0<=n)(h1:n<=9223372036854775807)(σ:Za)(sq own:Nat):Zj E BY σ sq 49 own true [.str s,.int .i64 n]=some (.agg [.int .i64 38,.int .i64 0,.str s,.str (Za6 20 n.toNat),.lst false []],σ,{}) :=
 ZbD (ZCN s n h0 h1) (by kernel_rfl) rfl rfl rfl (fun _=>rfl) σ sq own
def Z2(n:Zax):ZhZ:=⟨n,1,n.retain,[],[]⟩
theorem ZRn(n:Zax)(now id:Int)(dup:Bool)(hp:n.payload.length<=140737488355328)(hl:n.props.length<=600000000)(hd:∀ p∈n.props,p.data.length<=140737488355328)(σ:Za)(sq:Nat)(h0:σ[sq]?=some .free)(h1:σ[sq+1]?=some .free) :
  Zj E BY σ sq 48 2 false [.agg [.str n.topic,.lst false (n.payload.map Zb),.int .i64 n.qos,.bool n.retain,.str n.sender,.int .i64 n.expires,.lst false (n.props.map Zg),.int .i64 n.origin,.int .i64 n.number,.int .i64 n.hops,.int .i64 1,.bool n.retain,.lst true [],.str []],.int .i64 now,.int .i64 id,.bool dup]=some (.agg (ZcJ dup 1 n.retain id n.topic (.sl sq 0 0 n.payload.length) (.sl (sq+1) 0 0 (Z1 (Z2 n) now).length)),(σ.set sq (.row 0 1 (n.payload.map Zb))).set (sq+1) (.row 0 5 ((Z1 (Z2 n) now).map Zg)),{ any:=true }):=by
 have h:=ZTO (Z2 n) now id dup hp hl hd (by simp[Z2])
 rw[ZcT (by kernel_rfl) rfl]
 simp only[Xm,Xt,ZN,Za4]
 unfold Z2 at h⊢
 simp only[Xt]at h
 rw[h]
 have hf:ZaM σ sq 2=true:=by simp[ZaM,freeAt,h0,h1]
 unfold Z3
 rw[if_neg (by decide)]
 simp[ZaA,ZhP,ZaW,okB,Zl,hf,Zo,Zh,ZaJ,Za9,ZaZ,ZaN,Zch,Zy,ZcJ]
def ZfY(n:Zax):List Zp:=[lkP [111] n.origin,lkP [109] n.number,lkP [104] n.hops]
def lkL(n:Zax)(now:Int):List Zp:=Z1 (Z2 n) now++ZfY n
structure Zef(n:Zax):Prop where
 payload:n.payload.length<=1000000
 props:n.props.length<=100000
 data:∀ p∈n.props,p.data.length<=140737488355328
 origin:0<=n.origin/\n.origin<=1000000
 number:0<=n.number/\n.number<=1000000000
 hops:0<=n.hops/\n.hops<=1000000
theorem ZwL(n:Zax)(now:Int):(Z1 (Z2 n) now).length<=n.props.length+1:=by
 unfold Z1 Zc4 Z2
 simp only[Xi,XD,Xw]
 split<;>simp
theorem ZBZ(n:Zax)(now id:Int)(dup:Bool)(h:Zef n) :
  E 23 [.agg [.str n.topic,.lst false (n.payload.map Zb),.int .i64 n.qos,.bool n.retain,.str n.sender,.int .i64 n.expires,.lst false (n.props.map Zg),.int .i64 n.origin,.int .i64 n.number,.int .i64 n.hops],.int .i64 now,.int .i64 id,.bool dup] []=some (.agg (ZcJ dup 1 n.retain id n.topic (.sl 0 0 0 n.payload.length) (.sl 1 0 0 (lkL n now).length)),[.row 0 1 (n.payload.map Zb),.row 0 5 ((lkL n now).map Zg)]):=by
 have hO:=fun σ sq=>ZRn n now id dup (by have:=h.payload;omega) (by have:=h.props;omega) h.data σ sq
 have u1:=Zub [111] n.origin h.origin.1 (by have:=h.origin.2;omega)
 have u2:=Zub [109] n.number h.number.1 (by have:=h.number.2;omega)
 have u3:=Zub [104] n.hops h.hops.1 (by have:=h.hops.2;omega)
 have hlen:=ZwL n now
 have hprops:=h.props
 have hb:((Z1 (Z2 n) now).length+3)*72<=140737488355328:=by omega
 have hL:(lkL n now).length=(Z1 (Z2 n) now).length+3:=by simp[lkL,ZfY]
 have hM:(lkL n now).map Zg=(Z1 (Z2 n) now).map Zg++[.agg [.int .i64 38,.int .i64 0,.str [111],.str (Za6 20 n.origin.toNat),.lst false []],.agg [.int .i64 38,.int .i64 0,.str [109],.str (Za6 20 n.number.toNat),.lst false []],.agg [.int .i64 38,.int .i64 0,.str [104],.str (Za6 20 n.hops.toNat),.lst false []]]:=by
  simp[lkL,ZfY,lkP,Zg,Za0,ZJ]
 rw[hL,hM]
 have hR:((Z1 (Z2 n) now).map Zg).length=(Z1 (Z2 n) now).length:=XD ..
 generalize (Z1 (Z2 n) now).map Zg=R at *
 generalize (Z1 (Z2 n) now).length=N at *
 generalize Za6 20 n.origin.toNat=d1 at *
 generalize Za6 20 n.number.toNat=d2 at *
 generalize Za6 20 n.hops.toNat=d3 at *
 generalize n.payload.map Zb=P at *
 generalize n.props.map Zg=Q at *
 unfold ZcJ at *
 rw[Zi (by rfl) ZPz]
 simp -implicitDefEqProofs only[EQA,ZaG,Xe,Xc,Xf,Xa,Xg,reduceCtorEq,ZY,↓reduceIte,ZXI,Zun,ZRr,Zd,hO,u1,u2,u3,hR,hb,Zab,AVal.cells,ZaE,kOk,viewAs,ZP,ZK,Zat,Zr,Z6,Zaf,Zah,Zau,Zas,Zar,Zav,Zaw,Zag,Xy,ZX]
 simp[Z4,gcA,Zu,Zs,Zt,ZT,Zk,Zn,ZI,Zl,ZF,Zh,Zo,Zy,Zx]
end
section
theorem ZAA{O:ZV}{bf:Nat->Bool}{σ σf:Za}{sq f own:Nat}{view:Bool}{args vs vs':List AVal}{ts ids:List Nat}{h0 h:Za}{r0 r:AVal}(hb:bf f=false)(hsh:showAs σ args=some (vs,ts))(hfz:Zr σ ts=σf)(hre:Zs σf 1000 (Zt vs) []=ids)(hne:ids.isEmpty=false)
  (hall:(ids.all fun t=>okB (σf.getD t .free))=true) (hvs:Zh (Zk σf 0 ids) vs=vs') (hh:Zn σf 0 ids (Zk σf 0 ids) ids 0=h0) {hh0:Za} (hO:O f vs' h0=some (r0,hh0)) (hv:Z3 view ids.length (some (r0,hh0))=some (r,h))
  (hl1:h.length<=ids.length+own) (hl2:ids.length<=h.length) (hk:ZaW σf ids h 0=true) (hff:ZaM σf sq own=true) {r':AVal} (hr:Zo (ZaJ σf ids sq) r=r') {σ':Za} (hlay:Za9 σf ids sq h 0 σf=σ') {u:List (Nat×List AVal)} (hu:ZaZ σ' ids=u) :
  Zj O bf σ sq f own view args=some (r',σ',{ any:=true,upd:=u }):=by
 subst hr hlay hu hfz
 unfold Zj ZbS
 rw[hb]
 simp only[Xj,if_false,hsh,hre]
 unfold ZbK
 rw[if_pos hall,hvs,hh,hO,hv]
 simp only[ZaA,hne,WX,Xj,if_false,hl1,hl2,decide_true,hk,hff,Wg,if_true]
def lkC(n:Zax):List AVal:=[.str n.topic,.lst false (n.payload.map Zb),.int .i64 n.qos,.bool n.retain,.str n.sender,.int .i64 n.expires,.lst false (n.props.map Zg),.int .i64 n.origin,.int .i64 n.number,.int .i64 n.hops]
def lkE(up:Bool)(W F:AVal):List AVal:=[.ref 1 0,.str [35],.str [112,47],.bool up,W,F]
def Zci(n:Zax)(now:Int):Bool:=n.expires != 0&&decide (now>=n.expires)
theorem ZWF(n:Zax)(now:Int):E 51 [.agg (lkC n),.ref 0 0] [.var [.int .i64 now]]=some (.bool (!Zci n now),[.var [.int .i64 now]]):=by
 have hD:=fun σ sq own view=>ZIT σ sq own view n now
 unfold lkC
 unfold Zci
 generalize (n.expires != 0&&decide (now>=n.expires))=d at *
 generalize n.payload.map Zb=P at *
 generalize n.props.map Zg=Q at *
 rw[Zi (by rfl) ZJO]
 simp -implicitDefEqProofs only[EQA,ZM,Xe,Xc,Xf,Xa,Xg,unA,reduceCtorEq,↓reduceIte,Zf,ZFK,Zsl,ZEX,Zd,hD,AVal.cells]
theorem ZG1(n:Zax)(now:Int)(σ:Za)(sq t own:Nat)(view:Bool)(hs:σ[t]?=some (.var [.int .i64 now]))(hff:ZaM σ sq own=true):Zj E BY σ sq 51 own view [.agg (lkC n),.ref t 0]=some (.bool (!Zci n now),σ.set t (.var [.int .i64 now]),{ any:=true,upd:=[(t,[.int .i64 now])] }) :=
 ZlI hs rfl rfl (by kernel_rfl) hff rfl rfl (fun ρ h=>by simp only[lkC,Zh,Zo,h]) rfl rfl (ZWF n now)
theorem ZLn(n:Zax)(now:Int):E 50 [.lst false [.agg (lkC n)],.fn 51 [.ref 0 0]] [.var [.int .i64 now]]=some (.int .i64 (if Zci n now=true then -1 else 0),[.var [.int .i64 now]]):=by
 have hc:=fun σ sq t own view hs hff=>ZG1 n now σ sq t own view hs hff
 unfold lkC at *
 generalize n.payload.map Zb=P at *
 generalize n.props.map Zg=Q at *
 have c0:((0:Nat):Int)=0:=rfl
 have c1:((1:Nat):Int)=1:=rfl
 have w1:IntKind.i64.wrap (0+1)=1:=by decide
 cases hd:Zci n now
 ·rw[hd]at hc
  rw[Zi (by rfl) ZyN]
  simp -implicitDefEqProofs only[EQA,ZM,Xc,Xa,reduceCtorEq,↓reduceIte,gcT,gcA,Zu,Zs,Zk,Zn,ZI,Zl,ZF,Zy,Zx,Wd,ZyC,Zor,Zd,c1]
  rw[ZR]
  simp -implicitDefEqProofs only[EQA,Zz,ZM,Xe,Xc,Xf,Xa,Xg,reduceCtorEq,↓reduceIte,Zf,Zy6,ZrJ,Zko,Zd,hc,ZaM,Zb9,XY,Xa3,Xac]
 ·rw[hd]at hc
  rw[Zi (by rfl) ZyN]
  simp -implicitDefEqProofs only[EQA,ZM,Xc,Xa,reduceCtorEq,↓reduceIte,gcT,gcA,Zu,Zs,Zk,Zn,ZI,Zl,ZF,Zy,Zx,Wd,ZyC,Zor,Zd,c1]
  rw[ZR]
  simp -implicitDefEqProofs only[EQA,Zz,ZM,Xe,Xc,Xf,Xa,Xg,reduceCtorEq,↓reduceIte,gcT,gcA,Zu,Zs,Zk,Zn,ZI,Zl,ZF,Zy,Zx,Wd,ZrJ,Zko,Zd,hc,w1,ZaM,Zb9,XY,Xa3,Xac]
  rw[ZR]
  simp -implicitDefEqProofs only[EQA,ZM,Xc,Xa,reduceCtorEq,↓reduceIte,Zf,Zy6,ZUw,Ztu,ZrJ,Zko,Zd,XY]
end
section
end
section
def lkH(up:Bool)(B:ZO):Za:=[.var (lkE up (.sl 3 0 0 1) (.lst true [])),.var [.map 2],.map [],B]
def lkR(n:Zax):ZO:=.row 0 10 [.agg (lkC n)]
def lkF(n:Zax):ZO:=.frow 0 10 [.agg (lkC n)]
theorem ZzN(n:Zax)(now:Int)(B:ZO)(hB:B=lkR n\/B=lkF n)(up:Bool):E 24 [.ref 0 0,.int .i64 now] (lkH up B)=some (.int .i64 (if Zci n now=true then -1 else 0),lkH up (lkF n)):=by
 have h:=ZLn n now
 generalize (if Zci n now=true then -1 else 0:Int)=z at *
 have hc:Zj E BY [.var (lkE up (.sl 3 0 0 1) (.lst true [])),.var [.map 2],.map [],B,.var [.int .i64 now]] 5 50 0 true [.sl 3 0 0 1,.fn 51 [.ref 4 0]]=some (.int .i64 z,[.var (lkE up (.sl 3 0 0 1) (.lst true [])),.var [.map 2],.map [],lkF n,.var [.int .i64 now]],{ any:=true,upd:=[(4,[.int .i64 now])] }):=by
  rcases hB with rfl |rfl
  ·exact ZAA (O:=E) (bf:=BY) (σ:=[.var (lkE up (.sl 3 0 0 1) (.lst true [])),.var [.map 2],.map [],lkR n,.var [.int .i64 now]]) (sq:=5) (own:=0) (view:=true) (σf:=[.var (lkE up (.sl 3 0 0 1) (.lst true [])),.var [.map 2],.map [],lkF n,.var [.int .i64 now]]) (r0:=.int .i64 z) (r:=.int .i64 z) (ts:=[3]) (vs:=[.lst false [.agg (lkC n)],.fn 51 [.ref 4 0]]) (vs':=[.lst false [.agg (lkC n)],.fn 51 [.ref 0 0]]) (ids:=[4]) (h0:=[.var [.int .i64 now]]) (hh0:=[.var [.int .i64 now]]) (h:=[.var [.int .i64 now]]) (by kernel_rfl) rfl rfl rfl rfl rfl rfl rfl h rfl (by simp) (by simp) rfl rfl rfl rfl rfl
  ·exact ZAA (O:=E) (bf:=BY) (σ:=[.var (lkE up (.sl 3 0 0 1) (.lst true [])),.var [.map 2],.map [],lkF n,.var [.int .i64 now]]) (sq:=5) (own:=0) (view:=true) (σf:=[.var (lkE up (.sl 3 0 0 1) (.lst true [])),.var [.map 2],.map [],lkF n,.var [.int .i64 now]]) (r0:=.int .i64 z) (r:=.int .i64 z) (ts:=[3]) (vs:=[.lst false [.agg (lkC n)],.fn 51 [.ref 4 0]]) (vs':=[.lst false [.agg (lkC n)],.fn 51 [.ref 0 0]]) (ids:=[4]) (h0:=[.var [.int .i64 now]]) (hh0:=[.var [.int .i64 now]]) (h:=[.var [.int .i64 now]]) (by kernel_rfl) rfl rfl rfl rfl rfl rfl rfl h rfl (by simp) (by simp) rfl rfl rfl rfl rfl
 unfold lkH lkE at *
 rw[Zi (by rfl) ZQU]
 simp -implicitDefEqProofs only[EQA,Xe,Xc,Xa,Xg,reduceCtorEq,↓reduceIte,ZHK,ZsH,ZP1,Zd,hc,AVal.cells]
 rfl
theorem ZFF(n:Zax)(now:Int)(B:ZO)(hB:B=lkR n\/B=lkF n)(up:Bool)(sq:Nat):Zj E BY (lkH up B) sq 24 0 true [.ref 0 0,.int .i64 now]=some (.int .i64 (if Zci n now=true then -1 else 0),lkH up (lkF n),{ any:=true,upd:=[(0,lkE up (.sl 3 0 0 1) (.lst true [])),(1,[.map 2])] }):=by
 have h:=ZzN n now B hB up
 generalize (if Zci n now=true then -1 else 0:Int)=z at *
 rcases hB with rfl |rfl
 ·exact ZeK (O:=E) (bf:=BY) (σ:=lkH up (lkR n)) (sq:=sq) (own:=0) (view:=true) (r0:=.int .i64 z) (r:=.int .i64 z) (vs:=[.ref 0 0,.int .i64 now]) (vs':=[.ref 0 0,.int .i64 now]) (ids:=[0,1,2,3]) (h0:=lkH up (lkR n)) (hh0:=lkH up (lkF n)) (h:=lkH up (lkF n)) (by kernel_rfl) rfl rfl rfl rfl rfl rfl h rfl (by simp[lkH]) (by simp[lkH]) rfl rfl rfl rfl rfl
 ·exact ZeK (O:=E) (bf:=BY) (σ:=lkH up (lkF n)) (sq:=sq) (own:=0) (view:=true) (r0:=.int .i64 z) (r:=.int .i64 z) (vs:=[.ref 0 0,.int .i64 now]) (vs':=[.ref 0 0,.int .i64 now]) (ids:=[0,1,2,3]) (h0:=lkH up (lkF n)) (hh0:=lkH up (lkF n)) (h:=lkH up (lkF n)) (by kernel_rfl) rfl rfl rfl rfl rfl rfl h rfl (by simp[lkH]) (by simp[lkH]) rfl rfl rfl rfl rfl
end
section
theorem Zxy(n:Zax)(now:Int):E 17 [.ref 0 0,.int .i64 now] (lkH true (lkR n))=some (.bool (!Zci n now),lkH true (lkF n)):=by
 have hf:=ZFF n now (lkR n) (Xr rfl) true
 have c0:((0:Nat):Int)=0:=rfl
 unfold lkH lkE lkR lkF at *
 cases hd:Zci n now
 ·rw[hd]at hf
  rw[Zi (by rfl) ZwN]
  simp -implicitDefEqProofs only[EQA,Xe,Xc,Xa,Zw,unG,reduceCtorEq,↓reduceIte,Zyd,Zmp,Zvo,Zd,hf,c0,XY,ge_iff_le,Xar]
  rfl
 ·rw[hd]at hf
  rw[Zi (by rfl) ZwN]
  simp -implicitDefEqProofs only[EQA,Xe,Xc,Xa,Zw,unG,reduceCtorEq,↓reduceIte,Zyd,Zmp,Zvo,Zd,hf,c0,XY,Xa3,Int.reduceNeg,ge_iff_le]
  rfl
theorem ZI5(n:Zax)(now:Int):E 9 [.ref 0 0,.int .i64 now] (lkH false (lkR n))=some (.lst true [],lkH true (lkR n)):=by
 have c0:((0:Nat):Int)=0:=rfl
 unfold lkH lkE lkR at *
 rw[Zi (by rfl) ZEL]
 simp -implicitDefEqProofs only[EQA,ZM,Xe,Xc,Xf,Xa,Xg,reduceCtorEq,↓reduceIte,gcT,gcA,Zu,Zs,Zk,Zn,ZI,Zl,ZF,Zy,Zx,Wd,ZLp,Zq6,Zd,c0,AVal.cells]
 rw[ZR]
 simp -implicitDefEqProofs only[EQA,Xe,Xc,Xa,↓reduceIte,ZVN,ZXy,Zs5,ZIH,Ztr,Zd,Int.lt_irrefl]
 rfl
theorem ZLH:E 25 [.ref 0 0] [.var [.map 1],.map []]=some (.tup [.int .i64 1,.bool true],[.var [.map 1],.map [(.int .i64 1,.agg [])]]):=ZbQ.2 ⟨30,by kernel_rfl⟩
theorem ZKT:E 26 [.lst false []] []=some (.lst true [],[]):=ZbQ.2 ⟨30,by kernel_rfl⟩
theorem ZFr(σ:Za)(sq own:Nat):Zj E BY σ sq 26 own false [.lst true []]=some (.lst true [],σ,{}):=by
 rw[ZcT (by kernel_rfl) rfl]
 simp only[Xm,Xt,ZN,Za4]
 rw[ZKT]
 rfl
end
section
def lkD(n:Zax)(now id:Int):ZE:=Zdq 1 n.retain id n.topic (lkL n now) n.payload
theorem ZzH(n:Zax)(now id:Int)(h:Zef n)(σ:Za)(sq own:Nat):Zj E BY σ sq 23 own true [.agg (lkC n),.int .i64 now,.int .i64 id,.bool false]=some (.agg (ZB (lkD n now id)),σ,{}):=by
 rw[ZcT (by kernel_rfl) rfl]
 unfold lkC
 simp only[Xm,Xt,ZN,Za4]
 rw[ZBZ n now id false h]
 have hL:(lkL n now).length=((lkL n now).map Zg).length:=by rw[XD]
 have hP:n.payload.length=(n.payload.map Zb).length:=by rw[XD]
 have e:ZB (lkD n now id)=[.int .i64 3,.bool false,.int .i64 1,.bool n.retain,.int .i64 id,.str n.topic,.lst false (n.payload.map Zb),.int .i64 0,.lst false [],.lst false ((lkL n now).map Zg),.lst false [],.lst false [],.bool false,.int .i64 0,.str [],.bool false,.str [],.lst false [],.int .i64 0,.bool false,.lst false [],.bool false,.str [],.bool false,.lst false [],.bool false]:=rfl
 rw[e]
 unfold Z3
 rw[if_pos rfl]
 rw[hL,hP]
 generalize (lkL n now).map Zg=R
 generalize n.payload.map Zb=P
 unfold ZcJ
 simp[ZbB,viewR,ZP,Zat,ZK,ZY,Zr,gcA,Zu,Zs,Zt,ZT,Zh,Zo,Zn,Zx,ZaA,ZbJ,Zbr,Za5,ZcY]
def ZcC:List AVal:=[.int .i64 0,.bool false,.int .i64 0,.bool false,.int .i64 0,.str [],.lst true [],.int .i64 0,.lst true [],.lst true [],.lst true [],.lst true [],.bool false,.int .i64 0,.str [],.bool false,.str [],.lst true [],.int .i64 0,.bool false,.lst true [],.bool false,.str [],.bool false,.lst true [],.bool false]
def lkN(n:Zax):Za:=[.var (lkE true (.sl 3 0 1 0) (.sl 4 0 0 1)),.var [.map 2],.map [(.int .i64 1,.agg [])],lkF n,.row 0 11 [.agg (.int .i64 1::lkC n)]]
theorem ZB8(n:Zax)(now:Int)(hd:Zci n now=true):E 10 [.ref 0 0,.int .i64 now] (lkH true (lkR n))=some (.tup [.agg ZcC,.bool false],lkH true (lkF n)):=by
 have hr:=Zxy n now
 rw[hd]at hr
 have hc:Zj E BY [.var (lkE true (.sl 3 0 0 1) (.lst true [])),.var [.map 2],.map [],lkR n,.var ZcC] 5 17 0 true [.ref 0 0,.int .i64 now]=some (.bool false,[.var (lkE true (.sl 3 0 0 1) (.lst true [])),.var [.map 2],.map [],lkF n,.var ZcC],{ any:=true,upd:=[(0,lkE true (.sl 3 0 0 1) (.lst true [])),(1,[.map 2])] }) :=
  ZeK (O:=E) (bf:=BY) (σ:=[.var (lkE true (.sl 3 0 0 1) (.lst true [])),.var [.map 2],.map [],lkR n,.var ZcC]) (sq:=5) (own:=0) (view:=true) (r0:=.bool false) (r:=.bool false) (vs:=[.ref 0 0,.int .i64 now]) (vs':=[.ref 0 0,.int .i64 now]) (ids:=[0,1,2,3]) (h0:=lkH true (lkR n)) (hh0:=lkH true (lkF n)) (h:=lkH true (lkF n)) (by kernel_rfl) rfl rfl rfl rfl rfl rfl hr rfl (by simp[lkH]) (by simp[lkH]) rfl rfl rfl rfl rfl
 unfold lkH lkE lkR lkF ZcC at *
 rw[Zi (by rfl) Zxb]
 simp -implicitDefEqProofs only[EQA,Xe,Xc,Xf,Xa,Xg,unA,reduceCtorEq,↓reduceIte,Zxo,ZoG,ZvR,Zd,hc,Zab,AVal.cells]
 rfl
theorem ZDd(n:Zax)(now:Int)(hd:Zci n now=false)(hn:Zef n):E 10 [.ref 0 0,.int .i64 now] (lkH true (lkR n))=some (.tup [.agg (ZB (lkD n now 1)),.bool true],lkN n):=by
 have hr:=Zxy n now
 rw[hd]at hr
 have hc:Zj E BY [.var (lkE true (.sl 3 0 0 1) (.lst true [])),.var [.map 2],.map [],lkR n,.var ZcC] 5 17 0 true [.ref 0 0,.int .i64 now]=some (.bool true,[.var (lkE true (.sl 3 0 0 1) (.lst true [])),.var [.map 2],.map [],lkF n,.var ZcC],{ any:=true,upd:=[(0,lkE true (.sl 3 0 0 1) (.lst true [])),(1,[.map 2])] }) :=
  ZeK (O:=E) (bf:=BY) (σ:=[.var (lkE true (.sl 3 0 0 1) (.lst true [])),.var [.map 2],.map [],lkR n,.var ZcC]) (sq:=5) (own:=0) (view:=true) (r0:=.bool true) (r:=.bool true) (vs:=[.ref 0 0,.int .i64 now]) (vs':=[.ref 0 0,.int .i64 now]) (ids:=[0,1,2,3]) (h0:=lkH true (lkR n)) (hh0:=lkH true (lkF n)) (h:=lkH true (lkF n)) (by kernel_rfl) rfl rfl rfl rfl rfl rfl hr rfl (by simp[lkH]) (by simp[lkH]) rfl rfl rfl rfl rfl
 have hq:=ZzN n now (lkF n) (XE rfl) true
 rw[hd]at hq
 have hf:Zj E BY [.var (lkE true (.sl 3 0 0 1) (.lst true [])),.var [.map 2],.map [],lkF n,.var ZcC] 5 24 0 true [.ref 0 0,.int .i64 now]=some (.int .i64 0,[.var (lkE true (.sl 3 0 0 1) (.lst true [])),.var [.map 2],.map [],lkF n,.var ZcC],{ any:=true,upd:=[(0,lkE true (.sl 3 0 0 1) (.lst true [])),(1,[.map 2])] }) :=
  ZeK (O:=E) (bf:=BY) (σ:=[.var (lkE true (.sl 3 0 0 1) (.lst true [])),.var [.map 2],.map [],lkF n,.var ZcC]) (sq:=5) (own:=0) (view:=true) (r0:=.int .i64 0) (r:=.int .i64 0) (vs:=[.ref 0 0,.int .i64 now]) (vs':=[.ref 0 0,.int .i64 now]) (ids:=[0,1,2,3]) (h0:=lkH true (lkF n)) (hh0:=lkH true (lkF n)) (h:=lkH true (lkF n)) (by kernel_rfl) rfl rfl rfl rfl rfl rfl hq rfl (by simp[lkH]) (by simp[lkH]) rfl rfl rfl rfl rfl
 have ht:Zj E BY [.var (lkE true (.sl 3 0 1 0) (.lst true [])),.var [.map 2],.map [],lkF n,.var ZcC,.var (lkC n)] 6 25 0 true [.ref 1 0]=some (.tup [.int .i64 1,.bool true],[.var (lkE true (.sl 3 0 1 0) (.lst true [])),.var [.map 2],.map [(.int .i64 1,.agg [])],lkF n,.var ZcC,.var (lkC n)],{ any:=true,upd:=[(1,[.map 2])] }) :=
  ZeK (O:=E) (bf:=BY) (σ:=[.var (lkE true (.sl 3 0 1 0) (.lst true [])),.var [.map 2],.map [],lkF n,.var ZcC,.var (lkC n)]) (sq:=6) (own:=0) (view:=true) (r0:=.tup [.int .i64 1,.bool true]) (r:=.tup [.int .i64 1,.bool true]) (vs:=[.ref 1 0]) (vs':=[.ref 0 0]) (ids:=[1,2]) (h0:=[.var [.map 1],.map []]) (hh0:=[.var [.map 1],.map [(.int .i64 1,.agg [])]]) (h:=[.var [.map 1],.map [(.int .i64 1,.agg [])]]) (by kernel_rfl) rfl rfl rfl rfl rfl rfl ZLH rfl (by simp) (by simp) rfl rfl rfl rfl rfl
 have hcl:=ZFr
 have hl:=ZzH n now 1 hn
 have e0:=Zck (lkD n now 1)
 have e1:=Zdh (lkD n now 1)
 have e2:(ZB (lkD n now 1)).drop 26=[]:=rfl
 have e3:(ZB (lkD n now 1)).all ZX=true:=rfl
 have e4:=Zp2 (lkD n now 1)
 have e5:=ZlX (lkD n now 1)
 have c0:((0:Nat):Int)=0:=rfl
 have c1:((1:Nat):Int)=1:=rfl
 have w1:IntKind.i64.wrap (0+1)=1:=by decide
 have hs:∀ (A N:List AVal) (r:Za),ZbI (.var A::.var [.map 2]::.map []::.frow 0 10 [.agg N]::r) 10 (.sl 3 0 0 1) (some (.int .i64 1)) none none=some (.sl 3 0 1 0,.var A::.var [.map 2]::.map []::.frow 0 10 [.agg N]::r,{ rd:=[3] }):=fun _ _ _=>rfl
 unfold lkN
 generalize ZB (lkD n now 1)=X at *
 unfold lkH lkE lkR lkF ZcC lkC at *
 generalize n.payload.map Zb=P at *
 generalize n.props.map Zg=Q at *
 rw[Zi (by rfl) Zxb]
 simp -implicitDefEqProofs only[EQA,ZaG,Xe,Xc,Xf,Xa,Xg,unA,reduceCtorEq,ZY,↓reduceIte,Zxo,ZoG,ZvR,Zd,hc,hf,ht,hcl,hl,hs,e0,e1,e3,w1,Zab,AVal.cells,Zb9,ZaE,kOk,viewAs,ZP,ZK,Zat,Zr,W7,Z6,Zaf,Zah,Zau,Zas,Zar,Zav,Zaw,Zag,Xy,ZX,Xa3,Xac]
 simp[Z4,gcA,Zu,Zs,Zt,ZT,Zk,Zn,ZI,Zl,ZF,Zh,Zo,Zy,Zx,Wd,e4,e5]
end
section
def ZQt:Ze:=(.seq (.region [oI 4 (.mov (.c (.int .i64 (-1))))] none [4]) .ret)
@[irreducible] def ZDj:Ze:=ZQt
def ZMz:Ze:=by apply Zd 148 [1,1,1,1,1,1,1,1,0,0,0] [];conv=>lhs;reduce;dsimp only[zi,zn]
@[irreducible] def ZBB:Ze:=ZMz
def ZqL:Ze:=by apply Zd 148 [] [([1,1,1,1,1,1,1,1,0,0,0],ZBB),([1,1,1,1,1,1,1,1,1],ZDj)];conv=>lhs;reduce;dsimp only[zi,zn]
def ZuK:ZA:=⟨[(.tmp 4)],ZqL⟩
theorem ZBS:FC 148=some ZuK:=by kernel_rfl
theorem ZNJ:ZuK.body=ZqL:=rfl
theorem ZI8:ZuK.res=[(.tmp 4)]:=rfl
def ZrX:Ze:=by apply Zd 122 [] [];conv=>lhs;reduce;dsimp only[zi]
def Zs8:ZA:=⟨[(.tmp 4)],ZrX⟩
theorem ZKP:FC 122=some Zs8:=by kernel_rfl
theorem ZLy:Zs8.body=ZrX:=rfl
theorem ZNz:Zs8.res=[(.tmp 4)]:=rfl
def Zux:Ze:=by apply Zd 66 [] [];conv=>lhs;reduce;dsimp only[zi,zn]
def Zqa:ZA:=⟨[(.tmp 4)],Zux⟩
theorem ZE6:FC 66=some Zqa:=by kernel_rfl
theorem ZGA:Zqa.body=Zux:=rfl
theorem ZIg:Zqa.res=[(.tmp 4)]:=rfl
def Zud:Ze:=by apply Zd 87 [1,1,1,1,1,1,1,1,1] [];conv=>lhs;reduce;dsimp only[zi]
@[irreducible] def Zp7:Ze:=Zud
def ZCH:=xw Zp7 Zud (by kernel_rfl)
def ZlQ:Ze:=by apply Zd 87 [1,1,1,1,1,1,1,1,0,0,0] [];conv=>lhs;reduce;dsimp only[zi]
@[irreducible] def Zuz:Ze:=ZlQ
def ZyT:=xw Zuz ZlQ (by kernel_rfl)
def ZqM:Ze:=by apply Zd 87 [] [([1,1,1,1,1,1,1,1,0,0,0],Zuz),([1,1,1,1,1,1,1,1,1],Zp7)];conv=>lhs;reduce;dsimp only[zi]
def Zl5:ZA:=⟨[(.tmp 8)],ZqM⟩
theorem ZRa:FC 87=some Zl5:=by kernel_rfl
theorem ZKB:Zl5.body=ZqM:=rfl
theorem ZT7:Zl5.res=[(.tmp 8)]:=rfl
noncomputable def Zlv(m:Nat)(tm:Tms)(σ:Za):Option (AVal×Za):=(Zap m Zl5 (Zbo FC PR BY m Zp7 (XZ (ZaK 0) (evL FC PR BY m [10,9,3,2,1,0] Zuz tm σ))))
end
section
def Zqc:Ze:=(.seq (.region [oM 36 0,oI 37 (.call 46 0 true [(.t 36)]),oM 2 37] none [2]) .ret)
@[irreducible] def Zs6:Ze:=Zqc
def ZPE:=xw Zs6 Zqc (by kernel_rfl)
def ZfM:Ze:=by apply Zd 42 [1,1,0,1,0,0] [];conv=>lhs;reduce;simp only[zi,zb]
@[irreducible] def Zrr:Ze:=ZfM
def Zhe:=xw Zrr ZfM (by kernel_rfl)
def Zpe:Ze:=by apply Zd 42 [] [([1,1,0,1,0,0],Zrr),([1,1,1],Zs6)];conv=>lhs;reduce;dsimp only[zi]
def ZnF:ZA:=⟨[(.tmp 2)],Zpe⟩
theorem ZM3:FC 42=some ZnF:=by kernel_rfl
theorem ZOs:ZnF.body=Zpe:=rfl
theorem Zsy:ZnF.res=[(.tmp 2)]:=rfl
noncomputable def ZlS(m:Nat)(tm:Tms)(σ:Za):Option (AVal×Za):=(Zap m ZnF (Zbo FC PR BY m Zs6 (XZ (ZaK 0) (evL FC PR BY m [11,10,9,3,0] Zrr tm σ))))
def Zo9:Ze:=by apply Zd 43 [] [];conv=>lhs;reduce;simp only[zi,zb]
def ZqN:ZA:=⟨[(.tmp 2)],Zo9⟩
theorem ZSU:FC 43=some ZqN:=by kernel_rfl
theorem ZGl:ZqN.body=Zo9:=rfl
theorem ZJq:ZqN.res=[(.tmp 2)]:=rfl
def Zsu:Ze:=by apply Zd 19 [1,1,1,1,1] [];conv=>lhs;reduce;dsimp only[zi]
@[irreducible] def ZqQ:Ze:=Zsu
def ZG8:=xw ZqQ Zsu (by kernel_rfl)
def Zf9:Ze:=by apply Zd 19 [1,1,1,1,0,1,0,0] [];conv=>lhs;reduce;simp only[zi,zb]
@[irreducible] def ZsG:Ze:=Zf9
def Zh6:=xw ZsG Zf9 (by kernel_rfl)
def Zgm:Ze:=by apply Zd 19 [] [([1,1,1,1,0,1,0,0],ZsG),([1,1,1,1,1],ZqQ)];conv=>lhs;reduce;simp only[zi,zb]
def ZlJ:ZA:=⟨[(.tmp 4)],Zgm⟩
theorem ZDp:FC 19=some ZlJ:=by kernel_rfl
theorem Zi3:ZlJ.body=Zgm:=rfl
theorem ZfQ:ZlJ.res=[(.tmp 4)]:=rfl
noncomputable def ZjU(m:Nat)(tm:Tms)(σ:Za):Option (AVal×Za):=(Zap m ZlJ (Zbo FC PR BY m ZqQ (XZ (ZaK 0) (evL FC PR BY m [38,37,36,6,5] ZsG tm σ))))
def ZlY:Ze:=by apply Zd 21 [] [];conv=>lhs;reduce;simp only[zi,zb]
def ZtD:ZA:=⟨[(.tmp 2)],ZlY⟩
theorem ZFL:FC 21=some ZtD:=by kernel_rfl
theorem Zvi:ZtD.body=ZlY:=rfl
theorem ZzE:ZtD.res=[(.tmp 2)]:=rfl
def Zs4:Ze:=by apply Zd 46 [] [];conv=>lhs;reduce;dsimp only[zi]
def ZuQ:ZA:=⟨[(.tmp 2)],Zs4⟩
theorem ZLl:FC 46=some ZuQ:=by kernel_rfl
theorem ZXj:ZuQ.body=Zs4:=rfl
theorem ZFd:ZuQ.res=[(.tmp 2)]:=rfl
end
section
def Zbk:List UInt8->List (List UInt8)
 | []=>[[]]
 |b::r=>if b=47 then []::Zbk r else match Zbk r with
  |h::t=>(b::h)::t
  | []=>[[b]]
theorem Zyo(s:List UInt8):Zbk s≠[]:=by
 cases s with
 |nil=>simp[Zbk]
 |cons b r=>simp only[Zbk];split<;>(try split)<;>simp
theorem ZSN{s:List UInt8}(h:s.count 47=0):Zbk s=[s]:=by
 induction s with
 |nil=>rfl
 |cons b r ih =>
  rw[Xbe]at h
  have hb:¬b=47:=by rintro rfl;simp at h
  simp only[Zbk]
  rw[if_neg hb,ih (by omega)]
theorem ZGZ{s:List UInt8}{k:Nat}(h:s.count 47=k+1):∃ p t,s=p++47::t/\t.count 47=k/\Zbk s=p::Zbk t/\Lib.indexByte s 47=p.length:=by
 induction s with
 |nil=>simp at h
 |cons b r ih =>
  rw[Xbe]at h
  by_cases hb:b=47
  ·subst hb
   exact⟨[],r,rfl,by simpa using h,by simp[Zbk],by simp[Lib.indexByte]⟩
  ·have hb':(b==47)=false:=by simpa using hb
   rw[hb']at h
   obtain⟨p,t,rfl,h2,h3,h4⟩:=ih (by simpa using h)
   refine⟨b::p,t,rfl,h2,?_,?_⟩
   ·simp only[Zbk]
    rw[if_neg hb,h3]
   ·simp only[Lib.indexByte,hb',h4]
    simp
    try omega
theorem ZmE(s:List UInt8):(Zbk s).length=s.count 47+1:=by
 induction s with
 |nil=>rfl
 |cons b r ih =>
  simp only[Zbk]
  rw[Xbe]
  split
  ·rename_i h;subst h;simp[ih]
  ·rename_i h
   have h0:=Zyo r
   split
   ·rename_i e;rw[e]at ih;simp[h];simp at ih;omega
   ·rename_i e;exact absurd e h0
theorem ZBC(l:List UInt8)(c:UInt8):E 149 [.str l,.int .u8 c.toNat] []=some (.int .i64 (Lib.indexByte l c),[]):=by
 have : ((c.toNat:Int).toNat.toUInt8)=c:=by simp
 have h:=(ZbQ (fs:=FC) (prim:=PR) (bf:=BY) (f:=149) (args:=[.str l,.int .u8 c.toNat]) (σ:=[])).2 ⟨1,rfl⟩
 rw[this]at h
 exact h
theorem ZRl(σ:Za)(sq own:Nat)(view:Bool)(l:List UInt8)(c:UInt8):Zj E BY σ sq 149 own view [.str l,.int .u8 c.toNat]=some (.int .i64 (Lib.indexByte l c),σ,{}) :=
 Za2 (ZBC l c) (by kernel_rfl) (by simp -implicitDefEqProofs only[Zbu,Zai,eq_self]) (by simp -implicitDefEqProofs only[Zz,Zai,eq_self]) rfl (fun _=>rfl) _ _ _ _
theorem ZL5(l:List UInt8)(c:UInt8):E 148 [.str l,.str [c]] []=some (.int .i64 (Lib.indexByte l c),[]):=by
 rw[Zi (by rfl) ZBS]
 have e0:(((1:Nat):Int)==0)=false:=rfl
 have e1:(((1:Nat):Int)==1)=true:=rfl
 have hi:(if([c]==l)=true then(0:Int)else Lib.indexByte l c)=Lib.indexByte l c:=by
  split
  ·rename_i h
   have : [c]=l:=by simpa using h
   subst this
   simp[Lib.indexByte]
  ·rfl
 simp -implicitDefEqProofs only[EQA,Zdm,Xc,Xa,Zbi,Zw,unG,reduceCtorEq,ite_self,↓reduceIte,ZNJ,ZqL,ZI8,Zd,e0,e1,ZRl,Zb,Xac,Xar]
 rw[hi]
theorem ZOU(σ:Za)(sq own:Nat)(view:Bool)(l:List UInt8)(c:UInt8):Zj E BY σ sq 148 own view [.str l,.str [c]]=some (.int .i64 (Lib.indexByte l c),σ,{}) :=
 Za2 (ZL5 l c) (by kernel_rfl) (by simp -implicitDefEqProofs only[Zbu,Zai,eq_self]) (by simp -implicitDefEqProofs only[Zz,Zai,eq_self]) rfl (fun _=>rfl) _ _ _ _
theorem ZFJ(l:List UInt8)(c:UInt8):E 122 [.str l,.str [c]] []=some (.int .i64 (Lib.indexByte l c),[]):=by
 rw[Zi (by rfl) ZKP]
 simp -implicitDefEqProofs only[EQA,Xc,Xa,reduceCtorEq,↓reduceIte,ZLy,ZrX,ZNz,Zd,ZOU]
theorem ZJe(σ:Za)(sq own:Nat)(view:Bool)(l:List UInt8)(c:UInt8):Zj E BY σ sq 122 own view [.str l,.str [c]]=some (.int .i64 (Lib.indexByte l c),σ,{}) :=
 Za2 (ZFJ l c) (by kernel_rfl) (by simp -implicitDefEqProofs only[Zbu,Zai,eq_self]) (by simp -implicitDefEqProofs only[Zz,Zai,eq_self]) rfl (fun _=>rfl) _ _ _ _
theorem ZNT(l:List UInt8)(c:UInt8):E 121 [.str l,.str [c]] []=some (.int .i64 (Lib.countByte l c),[]):=ZbQ.2 ⟨1,rfl⟩
theorem ZK4(σ:Za)(sq own:Nat)(view:Bool)(l:List UInt8)(c:UInt8):Zj E BY σ sq 121 own view [.str l,.str [c]]=some (.int .i64 (Lib.countByte l c),σ,{}) :=
 Za2 (ZNT l c) (by kernel_rfl) (by simp -implicitDefEqProofs only[Zbu,Zai,eq_self]) (by simp -implicitDefEqProofs only[Zz,Zai,eq_self]) rfl (fun _=>rfl) _ _ _ _
theorem ZUo{σ:Za}{t g k n:Nat}{xs:List AVal}(hs:σ[t]?=some (.row g k xs))(hn:n<=xs.length){h:Int}(h0:0<=h)(h1:h<=(xs.length:Int))(kk:IntKind):ZbI σ k (.sl t g 0 n) none (some (.int kk h)) none=some (.sl t g 0 h.toNat,σ,{ rd:=[t] }):=by
 have he:ZY σ (.sl t g 0 n)=some ((xs.drop 0).take n,[t]):=by simp[ZY,hs,hn]
 simp[ZbI,he,hs,Zbp,ZcP,h0,h1]
theorem ZVe(k n:Nat)(xs:List AVal)(σ:Za):Z4 0 (.row 0 k xs::σ) (.sl 0 0 0 n)=some (.sl 0 0 0 n,[.row 0 k xs]):=by
 rfl
theorem ZwM{done:List (List UInt8)}{n m:Nat}(hn:n=done.length+m+1):(done.map AVal.str++Xz (n-done.length) (AVal.str []))[done.length]?=some (AVal.str []):=by
 rw[List.getElem?_append_right (by simp),XD,Xaa,show n-done.length=m+1 by omega,XaB]
 rfl
theorem ZA2{done:List (List UInt8)}{n m:Nat}(hn:n=done.length+m+1)(p:List UInt8):(done.map AVal.str++Xz (n-done.length) (AVal.str [])).set done.length (AVal.str p)=(done++[p]).map AVal.str++Xz (n-(done++[p]).length) (AVal.str []):=by
 rw[List.set_append_right _ _ (by simp),XD,Xaa,show n-done.length=m+1 by omega,XaB,WH,X4,XU,Xi]
 simp only[Xm,Xt,XV,XA,Xp,Xw]
 rw[show n-(done.length+(0+1))=m by omega]
theorem ZyA(N:Nat)(hN:N<=9223372036854775807):∀ (k:Nat) (s:List UInt8) (done:List (List UInt8)),s.count 47=k->N=done.length+k+1->s.length<=9223372036854775807 ->
  Zlv 0 [(10,.int .i64 done.length),(9,.sl 0 0 0 N),(3,.int .i64 (N-1:Int)),(2,.int .i64 0),(1,.str [47]),(0,.str s)] [.row 0 1 (done.map AVal.str++Xz (N-done.length) (AVal.str []))] =
   some (.sl 0 0 0 N,[.row 0 1 ((done++Zbk s).map AVal.str)])
 |0,s,done,hk,hNd,hs=>by
  have h1:¬((done.length:Int)<(N-1:Int)):=by omega
  have i0:(0:Int)<=(done.length:Int):=by omega
  have i1:done.length<N:=by omega
  have hg:=ZwM (done:=done) (n:=N) (m:=0) (by omega)
  have hst:=ZA2 (done:=done) (n:=N) (m:=0) (by omega) s
  have hw:IntKind.i64.wrap ((done.length:Int)+1)=(N:Int):=by rw[ZaC (by omega) (by omega)];omega
  rw[ZSN hk]
  have he:(done++[s]).map AVal.str++Xz (N-(done++[s]).length) (AVal.str [])=(done++[s]).map AVal.str:=by
   have : N-(done++[s]).length=0:=by simp;omega
   rw[this];simp
  rw[he]at hst
  have hl:((done++[s]).map AVal.str).length=N:=by simp;omega
  have hl0:(done.map AVal.str++Xz (N-done.length) (AVal.str [])).length=N:=by simp;omega
  generalize hX:done.map AVal.str++Xz (N-done.length) (AVal.str [])=X at *
  generalize hY:(done++[s]).map AVal.str=Y at *
  have hsl:ZbI [ZO.row 0 1 Y] 1 (.sl 0 0 0 N) none (some (.int .i64 (N:Int))) none=some (.sl 0 0 0 N,[ZO.row 0 1 Y],{ rd:=[0] }):=by
   have:=ZUo (σ:=[ZO.row 0 1 Y]) (t:=0) (g:=0) (k:=1) (n:=N) (xs:=Y) rfl (by omega) (h:=(N:Int)) (by omega) (by omega) .i64
   simpa using this
  unfold Zlv
  rw[ZR]
  simp -implicitDefEqProofs only[EQA,Zz,Xc,Xa,reduceCtorEq,↓reduceIte,ZT7,ZCH,Zud,ZyT,ZlQ,Zd,h1,i0,i1,hg,hst,hw,hsl,ZVe,Wv,Zb9,Zat,ZK,Zg5,Zr]
 |k+1,s,done,hk,hNd,hs=>by
  obtain⟨p,t,rfl,ht,hsp,hidx⟩:=ZGZ hk
  have hlen:(p++47::t).length=p.length+t.length+1:=by simp;omega
  have ih:=ZyA N hN k t (done++[p]) ht (by simp;omega) (by omega)
  have h1:((done.length:Int)<(N-1:Int)):=by omega
  have i0:(0:Int)<=(done.length:Int):=by omega
  have i1:done.length<N:=by omega
  have hg:=ZwM (done:=done) (n:=N) (m:=k+1) (by omega)
  have hst:=ZA2 (done:=done) (n:=N) (m:=k+1) (by omega) p
  have hw:IntKind.i64.wrap ((done.length:Int)+1)=(((done++[p]).length:Nat):Int):=by rw[ZaC (by omega) (by omega)];simp
  rw[hsp,show done++p::Zbk t=(done++[p])++Zbk t by simp]
  have hi:Lib.indexByte (p++47::t) 47=p.length:=hidx
  have n1:¬((p.length:Int)<0):=by omega
  have w1:IntKind.i64.wrap ((p.length:Int)+0)=p.length:=by rw[ZaC (by omega) (by omega)];omega
  have w2:IntKind.i64.wrap ((p.length:Int)+((1:Nat):Int))=p.length+1:=by rw[ZaC (by omega) (by omega)];rfl
  have p0:(0:Int)<=(p.length:Int):=by omega
  have p1:(0:Int)<=(p.length:Int)+1:=by omega
  have e1:((p++47::t).take p.length)=p:=by simp
  have e2:((p++47::t).drop (p.length+1))=t:=by rw[List.drop_append];simp
  have e3:((p++47::t).take (p++47::t).length)=p++47::t:=Xaz
  have t1:((p.length:Int)+1).toNat=p.length+1:=by omega
  have l1:(p.length:Int)<=(((p++47::t).length:Nat):Int):=by omega
  have l2:(p.length:Int)+1<=(((p++47::t).length:Nat):Int):=by omega
  have hl0:(done.map AVal.str++Xz (N-done.length) (AVal.str [])).length=N:=by simp;omega
  generalize hX:done.map AVal.str++Xz (N-done.length) (AVal.str [])=X at *
  generalize hY:(done++[p]).map AVal.str++Xz (N-(done++[p]).length) (AVal.str [])=Y at *
  generalize hS:p++47::t=S at *
  generalize hD:(done++[p]).length=D at *
  unfold Zlv at ih ⊢
  rw[ZR]
  simp -implicitDefEqProofs only[EQA,Zz,ZM,Za7,Xc,Xa,reduceCtorEq,↓reduceIte,gcT,gcA,Zu,Zs,Zk,Zn,ZI,Zl,ZF,Zy,Zx,ZyT,ZlQ,Zd,h1,i0,i1,hg,hst,hw,ZJe,hi,n1,w1,w2,p0,p1,e1,e2,e3,t1,l1,l2,Zbp,ZcP,Wv,Zb9,Zat,ZK,Zg5,Zr]
  exact ih
theorem ZKH(s:List UInt8)(hs:s.length*16<=140737488355328-16):E 87 [.str s,.str [47],.int .i64 0,.int .i64 (-1)] []=some (.sl 0 0 0 (s.count 47+1),[.row 0 1 ((Zbk s).map AVal.str)]):=by
 have hc:=Xaw (a:=(47:UInt8)) (l:=s)
 have key:=ZyA (s.count 47+1) (by omega) (s.count 47) s [] rfl (by simp) (by omega)
 rw[Zi (by rfl) ZRa]
 unfold Zlv at key
 have e0:(((-1:Int))==0)=false:=rfl
 have e1:(([47]:List UInt8)==[])=false:=rfl
 have e2:((-1:Int)<0)=True:=by simp
 have w1:IntKind.i64.wrap (((Lib.countByte s 47:Nat):Int)+1)=((s.count 47+1:Nat):Int):=by
  show IntKind.i64.wrap (((s.count 47:Nat):Int)+1)=_
  rw[ZaC (by omega) (by omega)];rfl
 have w2:IntKind.i64.wrap (((s.length:Nat):Int)+1)=((s.length+1:Nat):Int):=by rw[ZaC (by omega) (by omega)];rfl
 have w3:IntKind.i64.wrap (((s.count 47+1:Nat):Int)-1)=((s.count 47+1:Nat):Int)-1:=by rw[ZaC (by omega) (by omega)]
 have n1:¬(((s.count 47+1:Nat):Int)>((s.length+1:Nat):Int)):=by omega
 have m1:(0:Int)<=((s.count 47+1:Nat):Int):=by omega
 have m2:((s.count 47+1:Nat):Int)<=9223372036854775807:=by omega
 have m3:((16:Nat):Int)*((s.count 47+1:Nat):Int)<=140737488355328:=by omega
 simp only[Xt,XA,Xw,Nat.sub_zero]at key
 have z0:((0:Nat):Int)=0:=rfl
 rw[z0]at key
 simp -implicitDefEqProofs only[EQA,Zz,ZM,Za7,Xe,Xc,Xa,Xg,Zbi,reduceCtorEq,↓reduceIte,gcT,gcA,Zu,Zs,Zk,Zn,ZI,Zl,ZF,Zy,Zx,ZKB,ZqM,Zd,e0,e1,e2,w1,w2,w3,n1,m1,m2,m3,ZK4,Wv,Xar]
 rw[XaB]at key
 exact key
theorem ZR9{O:ZV}{bf:Nat->Bool}{f:Nat}{args:List AVal}{k n:Nat}{xs:List AVal}(h:O f args []=some (.sl 0 0 0 n,[.row 0 k xs]))(hn:xs.length=n)(hb:bf f=false)(hp:args.all Zan=true)(hm:args.map ZN=args)(σ:Za)(sq own:Nat):Zj O bf σ sq f own true args=some (.lst false xs,σ,{}):=by
 rw[ZcT hb hp,hm,h]
 have : Z3 true 0 (some (.sl 0 0 0 n,[.row 0 k xs]))=some (.lst false xs,[]):=by
  unfold Z3
  rw[if_pos rfl,ZsQ (k:=k) (g:=0) (t:=0) (xs:=xs) rfl (by omega),XI (by omega)]
 rw[this,Zgu _ _ _ _ rfl]
def Zl6(l:List (List UInt8)):AVal:=.lst false (l.map AVal.str)
theorem ZVl(s:List UInt8)(hs:s.length*16<=140737488355328-16):E 66 [.str s,.str [47]] []=some (Zl6 (Zbk s),[]):=by
 have hC:=fun σ sq own=>ZR9 (bf:=BY) (ZKH s hs) (by rw[XD,ZmE]) (by kernel_rfl) rfl rfl σ sq own
 rw[Zi (by rfl) ZE6]
 simp -implicitDefEqProofs only[EQA,Zv,Xc,Xa,reduceCtorEq,↓reduceIte,ZGA,Zux,ZIg,Zd,hC,Zl6]
theorem ZTn(σ:Za)(sq own:Nat)(view:Bool)(s:List UInt8)(hs:s.length*16<=140737488355328-16):Zj E BY σ sq 66 own view [.str s,.str [47]]=some (.lst false ((Zbk s).map AVal.str),σ,{}) :=
 Za2 (ZVl s hs) (by kernel_rfl) (by simp -implicitDefEqProofs only[Zbu,Zai,eq_self]) (by simp -implicitDefEqProofs only[Zz,Zai,eq_self]) rfl (fun _=>rfl) _ _ _ _
theorem ZRh(s:List UInt8)(hs:s.length*16<=140737488355328-16):E 43 [.str s] []=some (Zl6 (Zbk s),[]):=by
 have hC:=fun σ sq own view=>ZTn σ sq own view s hs
 rw[Zi (by rfl) ZSU]
 simp -implicitDefEqProofs only[EQA,Zv,Xc,Xa,reduceCtorEq,↓reduceIte,ZGl,Zo9,ZJq,Zd,hC,Zl6]
theorem ZrY(σ:Za)(sq own:Nat)(view:Bool)(s:List UInt8)(hs:s.length*16<=140737488355328-16):Zj E BY σ sq 43 own view [.str s]=some (.lst false ((Zbk s).map AVal.str),σ,{}) :=
 Za2 (ZRh s hs) (by kernel_rfl) (by simp -implicitDefEqProofs only[Zbu,Zai,eq_self]) (by simp -implicitDefEqProofs only[Zz,Zai,eq_self]) rfl (fun _=>rfl) _ _ _ _
section
end
end
section
def ZuR:Ze:=by apply Zd 92 [] [];conv=>lhs;reduce;dsimp only[zi]
def ZpF:ZA:=⟨[(.tmp 4)],ZuR⟩
theorem ZCn:FC 92=some ZpF:=by kernel_rfl
theorem ZOw:ZpF.body=ZuR:=rfl
theorem ZFc:ZpF.res=[(.tmp 4)]:=rfl
def Zuq:Ze:=by apply Zd 47 [] [];conv=>lhs;reduce;dsimp only[zi]
def Zri:ZA:=⟨[(.tmp 4)],Zuq⟩
theorem ZNO:FC 47=some Zri:=by kernel_rfl
theorem ZPK:Zri.body=Zuq:=rfl
theorem ZFH:Zri.res=[(.tmp 4)]:=rfl
def Zt6:Ze:=(.seq (.region [oI 4 (.mov (.c (.int .i64 (-1))))] none [4]) .ret)
@[irreducible] def Zpz:Ze:=Zt6
def ZMo:=xw Zpz Zt6 (by kernel_rfl)
def ZkS:Ze:=by apply Zd 68 [1,1,1,1,0,1,0,0] [];conv=>lhs;reduce;dsimp only[zi]
@[irreducible] def Zsx:Ze:=ZkS
def Zsz:=xw Zsx ZkS (by kernel_rfl)
def ZsC:Ze:=by apply Zd 68 [1,1,1,1] [([0,1,0,0],Zsx),([1],Zpz)];conv=>lhs;reduce;dsimp only[zi]
@[irreducible] def ZtO:Ze:=ZsC
def ZUu:=xw ZtO ZsC (by kernel_rfl)
def Zsc:Ze:=(.seq (.region [oI 4 (.mov (.c (.int .i64 (-1))))] none [4]) .ret)
@[irreducible] def Zua:Ze:=Zsc
def ZMl:=xw Zua Zsc (by kernel_rfl)
def Zky:Ze:=by apply Zd 68 [1,1,1,0,1,0,1,1,0,0,1,0,0] [];conv=>lhs;reduce;dsimp only[zi]
@[irreducible] def Zui:Ze:=Zky
def ZtJ:=xw Zui Zky (by kernel_rfl)
def Zn7:Ze:=by apply Zd 68 [] [([1,1,1,0,1,0,1,1,0,0,1,0,0],Zui),([1,1,1,0,1,0,1,1,0,1],Zua),([1,1,1,1],ZtO)];conv=>lhs;reduce;dsimp only[zi,zn]
def Zjz:ZA:=⟨[(.tmp 4)],Zn7⟩
theorem ZyP:FC 68=some Zjz:=by kernel_rfl
theorem Zvt:Zjz.body=Zn7:=rfl
theorem ZnD:Zjz.res=[(.tmp 4)]:=rfl
noncomputable def Zm2(m:Nat)(tm:Tms)(σ:Za):Option (AVal×Za):=(Zap m Zjz (Zbo FC PR BY m Zpz (XZ (ZaK 2) (evL FC PR BY m [45,1] Zsx tm σ))))
noncomputable def Zns(m:Nat)(tm:Tms)(σ:Za):Option (AVal×Za):=(Zap m Zjz (Zbo FC PR BY m ZtO (Zbo FC PR BY m Zua (XZ (ZaK 0) (evL FC PR BY m [8,6,0] Zui tm σ)))))
def ZT8:Ze:=(.seq (.region [oI 4 (.mov (.c (.int .i64 (-1))))] none [4]) .ret)
@[irreducible] def ZGI:Ze:=ZT8
def ZOb:Ze:=by apply Zd 89 [1,0,1,1,1,0,0,1,0,0] [];conv=>lhs;reduce;dsimp only[zi]
@[irreducible] def ZKg:Ze:=ZOb
def ZMI:Ze:=(.seq (.region [oI 4 (.mov (.c (.int .i64 (-1))))] none [4]) .ret)
@[irreducible] def ZRo:Ze:=ZMI
def ZIG:Ze:=(.region [oM 125 9,oI 126 (.bin .add (.t 125) (.c (.int .i64 1))),oM 9 126] none [15,14,9,8,7,0])
@[irreducible] def ZLq:Ze:=ZIG
def ZTv:Ze:=(.seq (.region [oM 157 9,oM 158 8,oI 159 (.bin .sub (.t 157) (.t 158)),oM 4 159] none [4]) .ret)
@[irreducible] def ZJH:Ze:=ZTv
def ZDV:Ze:=by apply Zd 89 [1,0,1,1,1,1,1,1,1,1,1,1,1,1,1,0,1,1,1,1,0,0,1,0,0,1,0,0,1,0,0] [];conv=>lhs;reduce;dsimp only[zi]
@[irreducible] def ZO7:Ze:=ZDV
def ZIQ:Ze:=by apply Zd 89 [1,0,1,1,1,1,1,1,1,1,1,1,1,1,1,0,1,1,1,1,0,0] [([1,0,0,1,0,0,1,0,0],ZO7),([1,0,0,1,0,1],ZJH),([1,1],ZLq)];conv=>lhs;reduce;dsimp only[zi]
@[irreducible] def ZJp:Ze:=ZIQ
def Zmd:Ze:=by apply Zd 89 [1,0,1,1,1,1,1,1,1,1,1,1,1] [([1,1,0,1,1,1,1,0,0],ZJp),([1,1,1],ZRo)];conv=>lhs;reduce;dsimp only[zi,zn]
@[irreducible] def Zz0:Ze:=Zmd
def ZAT:=xw Zz0 Zmd (by kernel_rfl)
def ZP3:Ze:=by apply Zd 89 [1,0,1,1,1,1,1,1,1,1,1,1,0,0,0,1,0,1,1] [];conv=>lhs;reduce;dsimp only[zi]
@[irreducible] def ZCL:Ze:=ZP3
def ZQl:Ze:=by apply Zd 89 [1,0,1,1,1,1,1,1,1,1,1,1,0,0,0,1,0,1,0,1,0,0] [];conv=>lhs;reduce;dsimp only[zi]
@[irreducible] def ZS1:Ze:=ZQl
def ZkT:Ze:=by apply Zd 89 [1,0,1,1,1,1,1,1,1,1,1,1,0,0,0] [([1,0,1,0,1,0,0],ZS1),([1,0,1,1],ZCL)];conv=>lhs;reduce;dsimp only[zi,zn]
@[irreducible] def Zy3:Ze:=ZkT
def Zs2:=xw Zy3 ZkT (by kernel_rfl)
def ZiN:Ze:=by apply Zd 89 [] [([1,0,1,1,1,0,0,1,0,0],ZKg),([1,0,1,1,1,0,1],ZGI),([1,0,1,1,1,1,1,1,1,1,1,1,0,0,0],Zy3),([1,0,1,1,1,1,1,1,1,1,1,1,1],Zz0)];conv=>lhs;reduce;dsimp only[zi,zn]
def ZoU:ZA:=⟨[(.tmp 4)],ZiN⟩
theorem Zxm:FC 89=some ZoU:=by kernel_rfl
theorem Zny:ZoU.body=ZiN:=rfl
theorem ZnB:ZoU.res=[(.tmp 4)]:=rfl
def Zqw:Ze:=by apply Zd 90 [] [];conv=>lhs;reduce;dsimp only[zi]
def Zr1:ZA:=⟨[(.tmp 2)],Zqw⟩
theorem ZSe:FC 90=some Zr1:=by kernel_rfl
theorem ZFi:Zr1.body=Zqw:=rfl
theorem ZMU:Zr1.res=[(.tmp 2)]:=rfl
def Zlx:Ze:=by apply Zd 125 [] [];conv=>lhs;reduce;dsimp only[zi]
def Zpl:ZA:=⟨[(.tmp 2)],Zlx⟩
theorem ZEO:FC 125=some Zpl:=by kernel_rfl
theorem Zvk:Zpl.body=Zlx:=rfl
theorem ZBg:Zpl.res=[(.tmp 2)]:=rfl
end
section
def Zep(b:UInt8):Bool:=b==43 ||b==35
def Zb8(l:List UInt8):Bool:=l.any Zep
def ZcB:List AVal:=(Wa 256).map fun n=>.bool (n==43 ||n==35)
theorem ZRA:ZcB.length=256:=by simp[ZcB]
theorem Zkh:Zf ZcB=true:=by kernel_rfl
theorem ZHL(b:UInt8):ZcB[b.toNat]?=some (.bool (Zep b)):=by
 have hb:=b.toNat_lt
 have : Zep b=(b.toNat==43 ||b.toNat==35):=by
  unfold Zep
  rw[Xan]
  simp[<-Xaq]
 rw[this]
 simp[ZcB,hb]
theorem ZzM:Zt ZcB=[]:=(ZaV (fun _ _=>none) ZcB Zkh).2
theorem ZzI(ρ:Rho):Zh ρ ZcB=ZcB:=(ZaV ρ ZcB Zkh).1
theorem ZUK:E 91 [.str [43,35]] []=some (.tup [.agg ZcB,.bool true],[]):=ZbQ.2 ⟨8,by kernel_rfl⟩
theorem ZW5(σ:Za)(sq own:Nat)(view:Bool):Zj E BY σ sq 91 own view [.str [43,35]]=some (.tup [.agg ZcB,.bool true],σ,{}) :=
 Za2 ZUK (by kernel_rfl) rfl rfl (by kernel_rfl) (fun _=>by kernel_rfl) _ _ _ _
theorem ZNK(b:UInt8):E 92 [.ref 0 0,Zb b] [.var ZcB]=some (.bool (Zep b),[.var ZcB]):=by
 rw[Zi (by rfl) ZCn]
 have h1:(0:Int)<=(b.toNat:Int):=by omega
 have h2:(b.toNat:Int)<((256:Nat):Int):=by have:=ZXk b;omega
 simp -implicitDefEqProofs only[EQA,ZM,Xc,Xa,reduceCtorEq,↓reduceIte,ZOw,ZuR,ZFc,Zd,Zb,h1,h2,Wv,Nat.mul_one,ZHL,Zkh]
theorem ZzT(σ:Za)(sq t:Nat)(view:Bool)(b:UInt8)(hs:σ[t]?=some (.var ZcB)):Zj E BY σ sq 92 0 view [.ref t 0,.int .u8 b.toNat]=some (.bool (Zep b),σ.set t (.var ZcB),{ any:=true,upd:=[(t,ZcB)] }) :=
 ZFq hs Zkh Zkh (by kernel_rfl) rfl rfl rfl rfl (ZNK b)
theorem ZwS(s:List UInt8)(hl:s.length<=9223372036854775807):∀ (r:List UInt8) (i:Nat),s.drop i=r->∃ z,Zns 0 [(8,.int .i64 i),(6,.ref 0 0),(0,.str s)] [.var ZcB]=some (.int .i64 z,[])/\decide (z>=0)=Zb8 r
 | [],i,h=>by
  have h1:=Zcq h
  refine⟨-1,?_,by simp[Zb8]⟩
  unfold Zns
  rw[ZR]
  simp -implicitDefEqProofs only[EQA,Xc,Xa,reduceCtorEq,↓reduceIte,ZnD,ZMl,Zsc,ZtJ,Zky,Zd,h1]
 |b::r,i,h=>by
  obtain⟨z,ih,hz⟩:=ZwS s hl r (i+1) (ZW h).2.1
  have h1:(i:Int)<s.length:=by have:=(ZW h).2.2;omega
  have h2:=(ZW h).1
  have h3:=Zcs h1 hl
  have i0:(0:Int)<=(i:Int):=by omega
  unfold Zns at ih ⊢
  cases hb:Zep b
  ·refine⟨z,?_,by rw[hz];simp[Zb8,hb]⟩
   rw[ZR]
   simp -implicitDefEqProofs only[EQA,ZM,Za7,Xc,Xa,reduceCtorEq,↓reduceIte,gcT,gcA,Zu,Zs,Zk,Zn,ZI,Zl,ZF,Zy,Zx,ZtJ,Zky,Zd,h1,h2,h3,i0,Wv,ZzT,hb,Zb,ZzM,ZzI]
   exact ih
  ·refine⟨i,?_,by simp[Zb8,hb]⟩
   rw[ZR]
   simp -implicitDefEqProofs only[EQA,Xc,Xa,reduceCtorEq,↓reduceIte,ZnD,ZtJ,Zky,Zd,h1,h2,i0,Wv,ZzT,hb,Zb]
def ZdY(r:Int):Int:=if r=43 then 0 else if r=35 then 1 else -1
theorem ZQy(l:List UInt8)(c:Int):E 124 [.str l,.int .u8 c] []=some (.int .i64 (Lib.indexByte l c.toNat.toUInt8),[]):=ZbQ.2 ⟨1,rfl⟩
theorem Zzv(σ:Za)(sq own:Nat)(view:Bool)(l:List UInt8)(c:Int):Zj E BY σ sq 124 own view [.str l,.int .u8 c]=some (.int .i64 (Lib.indexByte l c.toNat.toUInt8),σ,{}) :=
 Za2 (ZQy l c) (by kernel_rfl) (by simp -implicitDefEqProofs only[Zbu,Zai,eq_self]) (by simp -implicitDefEqProofs only[Zz,Zai,eq_self]) rfl (fun _=>rfl) _ _ _ _
theorem ZU3(r:Int)(h:(0<=r/\r<55296)\/(57344<=r/\r<=1114111)):E 125 [.int .i32 r] []=some (.bool true,[]):=by
 rw[Zi (by rfl) ZEO]
 rcases h with⟨h1,h2⟩ |⟨h1,h2⟩
 ·simp -implicitDefEqProofs only[EQA,Xc,Xa,Zw,unG,reduceCtorEq,↓reduceIte,Zvk,Zlx,ZBg,Zd,h1,h2]
 ·have h3:¬r<55296:=by omega
  have h4:(57343:Int)<r:=by omega
  have h5:(0:Int)<=r:=by omega
  simp -implicitDefEqProofs only[EQA,Xc,Xa,Zw,unG,reduceCtorEq,↓reduceIte,Zvk,Zlx,ZBg,Zd,h2,h3,h4,h5]
theorem ZNq:E 89 [.str [43,35],.int .i32 65533] []=some (.int .i64 (-1),[]):=ZbQ.2 ⟨8,by kernel_rfl⟩
theorem ZIP(σ:Za)(sq own:Nat)(view:Bool)(r:Int)(h:(0<=r/\r<55296)\/(57344<=r/\r<=1114111)):Zj E BY σ sq 125 own view [.int .i32 r]=some (.bool true,σ,{}) :=
 Za2 (ZU3 r h) (by kernel_rfl) (by simp -implicitDefEqProofs only[Zbu,Zai,eq_self]) (by simp -implicitDefEqProofs only[Zz,Zai,eq_self]) rfl (fun _=>rfl) _ _ _ _
theorem ZUG(r:Int)(h0:0<=r)(h1:r<128):Lib.indexByte [43,35] r.toNat.toUInt8=ZdY r:=by
 obtain⟨n,rfl⟩:∃ n:Fin 128,r=(n.val:Int):=⟨⟨r.toNat,by omega⟩,by simp;omega⟩
 clear h0 h1
 revert n
 decide
theorem ZH8(r:Int)(h0:0<=r)(h1:r<128):E 89 [.str [43,35],.int .i32 r] []=some (.int .i64 (ZdY r),[]):=by
 rw[Zi (by rfl) Zxm]
 have w:IntKind.u8.wrap r=r:=by rw[show IntKind.u8.wrap r=r%256 from rfl];omega
 simp -implicitDefEqProofs only[EQA,Xc,Xa,Zw,unG,reduceCtorEq,↓reduceIte,Zny,ZiN,ZnB,Zd,h0,h1,w,Zzv,ZUG]
theorem ZSD(r:Int)(h0:128<=r)(h1:r<2048):∃ a b:UInt8,(Utf8.encode r).data.toList=[a,b]/\((35:Int)==(b.toNat:Int))=false:=by
 have hv:Utf8.valid r=true:=by simp[Utf8.valid];omega
 refine⟨_,_,by unfold Utf8.encode;simp only[hv,if_true];rw[if_neg (by omega),if_pos (by omega)],?_⟩
 rw[beq_eq_false_iff_ne]
 simp
 omega
theorem ZOS(r:Int)(h0:2048<=r)(h1:r<65536)(hv:Utf8.valid r=true):∃ a b c:UInt8,(Utf8.encode r).data.toList=[a,b,c]:=by
 refine⟨_,_,_,by unfold Utf8.encode;simp only[hv,if_true];rw[if_neg (by omega),if_neg (by omega),if_pos (by omega)]⟩
theorem ZED(r:Int)(h1:65536<=r)(hv:Utf8.valid r=true):∃ a b c d:UInt8,(Utf8.encode r).data.toList=[a,b,c,d]:=by
 refine⟨_,_,_,_,by unfold Utf8.encode;simp only[hv,if_true];rw[if_neg (by omega),if_neg (by omega),if_neg (by omega)]⟩
theorem ZSm(r:Int)(h0:128<=r)(hv:(0<=r/\r<55296)\/(57344<=r/\r<=1114111))(hne:r≠65533):E 89 [.str [43,35],.int .i32 r] []=some (.int .i64 (-1),[]):=by
 rw[Zi (by rfl) Zxm]
 have h1:(0:Int)<=r:=by omega
 have h2:¬r<128:=by omega
 have h3:(r==65533)=false:=by rw[beq_eq_false_iff_ne];exact hne
 have hv':Utf8.valid r=true:=by simp[Utf8.valid];omega
 have hV:=fun σ sq own view=>ZIP σ sq own view r hv
 by_cases h4:r<2048
 ·obtain⟨a,b,he,hb⟩:=ZSD r h0 h4
  have hi:Lib.indexByte [] ((b.toNat:Int).toNat.toUInt8)=-1:=rfl
  have w1:IntKind.i64.wrap (((2:Nat):Int)-1)=1:=by decide
  have w2:IntKind.i64.wrap ((1:Int)+1)=2:=by decide
  have l1:(1:Int)<((2:Nat):Int):=by decide
  have l2:(2:Int)<=((2:Nat):Int):=by decide
  have l3:(0:Int)<=1:=by decide
  have l4:(0:Int)<=2:=by decide
  have t1:(1:Int).toNat=1:=rfl
  have t2:(2:Int).toNat=2:=rfl
  have n1:((-1:Int)<0)=True:=by simp
  have hb':(((35:UInt8).toNat:Int) != (b.toNat:Int))=true:=by
   have : ((35:UInt8).toNat:Int)=35:=rfl
   rw[this];simp only[bne,hb,Bool.not_false]
  simp -implicitDefEqProofs only[EQA,ZM,Xe,Xc,Xa,unA,Zw,unG,reduceCtorEq,↓reduceIte,gcT,gcA,Zu,Zs,Zn,Zx,Zny,ZiN,ZnB,Zs2,ZkT,Zd,h1,h2,h3,hV,he,ZR,Zb,w1,w2,l1,l2,l3,l4,t1,t2,hb',Zbp,ZcP,Zzv,hi,n1]
 ·by_cases h5:r<65536
  ·obtain⟨a,b,c,he⟩:=ZOS r (by omega) h5 hv'
   have w1:IntKind.i64.wrap (((3:Nat):Int)-1)=2:=by decide
   have l1:¬(2:Int)<((2:Nat):Int):=by decide
   simp -implicitDefEqProofs only[EQA,ZM,Xe,Xc,Xa,unA,Zw,unG,reduceCtorEq,↓reduceIte,gcT,gcA,Zu,Zs,Zn,Zx,Zny,ZiN,ZnB,ZAT,Zmd,Zs2,ZkT,Zd,h1,h2,h3,hV,he,ZR,w1,l1]
  ·obtain⟨a,b,c,d,he⟩:=ZED r (by omega) hv'
   have w1:IntKind.i64.wrap (((4:Nat):Int)-1)=3:=by decide
   have l1:¬(3:Int)<((2:Nat):Int):=by decide
   simp -implicitDefEqProofs only[EQA,ZM,Xe,Xc,Xa,unA,Zw,unG,reduceCtorEq,↓reduceIte,gcT,gcA,Zu,Zs,Zn,Zx,Zny,ZiN,ZnB,ZAT,Zmd,Zs2,ZkT,Zd,h1,h2,h3,hV,he,ZR,w1,l1]
theorem ZFf(l:List UInt8):((Lib.decodeL l).1<55296)\/(57344<=(Lib.decodeL l).1/\(Lib.decodeL l).1<=1114111):=by
 rw[Lib.decodeL_N]
 have h0:=(l.getD 0 0).toNat_lt
 unfold Lib.decodeN
 repeat' split
 all_goals (try simp only);omega
theorem ZH9(l:List UInt8):E 89 [.str [43,35],.int .i32 (Lib.decodeL l).1] []=some (.int .i64 (ZdY (Lib.decodeL l).1),[]):=by
 have hv:=ZFf l
 generalize (Lib.decodeL l).1=n at hv
 by_cases h:n<128
 ·exact ZH8 n (by omega) (by omega)
 ·have e:ZdY (n:Int)=-1:=by unfold ZdY;rw[if_neg (by omega),if_neg (by omega)]
  rw[e]
  by_cases h2:n=65533
  ·subst h2;exact ZNq
  ·exact ZSm n (by omega) (by omega) (by omega)
theorem ZAC(σ:Za)(sq own:Nat)(view:Bool)(l:List UInt8):Zj E BY σ sq 89 own view [.str [43,35],.int .i32 (Lib.decodeL l).1]=some (.int .i64 (ZdY (Lib.decodeL l).1),σ,{}) :=
 Za2 (ZH9 l) (by kernel_rfl) (by simp -implicitDefEqProofs only[Zbu,Zai,eq_self]) (by simp -implicitDefEqProofs only[Zz,Zai,eq_self]) rfl (fun _=>rfl) _ _ _ _
theorem ZGv(l:List UInt8)(hne:l≠[]):Zb8 l=(decide (ZdY (Lib.decodeL l).1>=0) ||Zb8 (l.drop (Lib.decodeL l).2)):=by
 obtain⟨b0,t,rfl⟩:∃ b t,l=b::t:=by
  cases l with
  |nil=>exact absurd rfl hne
  |cons b t=>exact⟨b,t,rfl⟩
 have hc:∀ b:UInt8,b.toNat/64=2->Zep b=false:=by
  intro b hb
  unfold Zep
  simp only[Xav,beq_eq_false_iff_ne,ne_eq,<-Xaq]
  have : (43:UInt8).toNat=43:=rfl
  have : (35:UInt8).toNat=35:=rfl
  omega
 have hi:∀ n:Nat,n≠43->n≠35->decide (ZdY (n:Int)>=0)=false:=by
  intro n h1 h2
  unfold ZdY
  rw[if_neg (by omega),if_neg (by omega)];rfl
 have hp:∀ b:UInt8,Zep b=decide (ZdY (b.toNat:Int)>=0):=by
  intro b
  unfold Zep ZdY
  have e1:(43:UInt8).toNat=43:=rfl
  have e2:(35:UInt8).toNat=35:=rfl
  rw[Xan]
  simp only[Bool.or_eq_true,beq_iff_eq,<-Xaq,e1,e2,decide_eq_true_eq]
  constructor
  ·rintro(h |h)<;>simp[h]
  ·intro h
   by_cases h1:b.toNat=43
   ·exact Xr h1
   ·by_cases h2:b.toNat=35
    ·exact XE h2
    ·rw[if_neg (by omega),if_neg (by omega)]at h;omega
 rw[Lib.decodeL_N]
 simp only[Xp,Xu,XN]
 have hb:=b0.toNat_lt
 have hlow:128<=b0.toNat->Zep b0=false:=by
  intro h;rw[hp];exact hi _ (by omega) (by omega)
 unfold Lib.decodeN
 split
 ·simp[Zb8,hp]
 rename_i h0
 have hl0:=hlow (by omega)
 have eE:decide (ZdY ((65533:Nat):Int)>=0)=false:=by decide
 split
 ·rename_i h1
  obtain⟨b1,t,rfl⟩:∃ b t',t=b::t':=by
   cases t with
   |nil=>simp at h1
   |cons b t=>exact⟨b,t,rfl⟩
  have h1c:=hc b1 (by simpa using h1.2.2)
  split
  ·rename_i h2
   rw[hi _ (by simp only;omega) (by simp only;omega)]
   simp[Zb8,hl0,h1c]
  ·rw[eE];simp[Zb8,hl0]
 split
 ·rename_i h1
  obtain⟨b1,b2,t,rfl⟩:∃ b c t',t=b::c::t':=by
   match t,h1 with
   | [],h1=>simp at h1
   | [_],h1=>simp at h1
   |b::c::t,_=>exact⟨b,c,t,rfl⟩
  have h1c:=hc b1 (by simpa using h1.2.1.2)
  have h2c:=hc b2 (by simpa using h1.2.2.2)
  split
  ·rename_i h2
   rw[hi _ (by simp only;omega) (by simp only;omega)]
   simp[Zb8,hl0,h1c,h2c]
  ·rw[eE];simp[Zb8,hl0]
 split
 ·rename_i h1
  obtain⟨b1,b2,b3,t,rfl⟩:∃ b c d t',t=b::c::d::t':=by
   match t,h1 with
   | [],h1=>simp at h1
   | [_],h1=>simp at h1
   | [_,_],h1=>simp at h1
   |b::c::d::t,_=>exact⟨b,c,d,t,rfl⟩
  have h1c:=hc b1 (by simpa using h1.2.1.2)
  have h2c:=hc b2 (by simpa using h1.2.2.1.2)
  have h3c:=hc b3 (by simpa using h1.2.2.2.2)
  split
  ·rename_i h2
   rw[hi _ (by simp only;omega) (by simp only;omega)]
   simp[Zb8,hl0,h1c,h2c,h3c]
  ·rw[eE];simp[Zb8,hl0]
 ·rw[eE];simp[Zb8,hl0]
theorem ZwV(s:List UInt8):∀ (n p:Nat),s.length-p<=n->p<=s.length->∃ z,Zm2 0 [(45,.ref 0 0),(1,.str [43,35])] [.siter s p]=some (.int .i64 z,[])/\decide (z>=0)=Zb8 (s.drop p)
 |n,p,hn,hp=>by
  by_cases h:p<s.length
  ·obtain⟨n,rfl⟩:∃ m,n=m+1:=⟨n-1,by omega⟩
   have hw:=Lib.decodeL_width (s.drop p)
   have hne:s.drop p≠[]:=by rw[ne_eq,XW];omega
   have hle:=Lib.decodeL_le (s.drop p) hne
   rw[X9]at hle
   obtain⟨z,ih,hz⟩:=ZwV s n (p+(Lib.decodeL (s.drop p)).2) (by omega) (by omega)
   rw[<-List.drop_drop]at hz
   rw[ZGv _ hne,<-hz]
   unfold Zm2 at ih ⊢
   by_cases hi:ZdY (Lib.decodeL (s.drop p)).1>=0
   ·refine⟨p,?_,by simp[hi]⟩
    rw[ZR]
    simp -implicitDefEqProofs only[EQA,Xc,Xa,↓reduceIte,ZnD,Zsz,ZkS,Zd,h,Zlu,ZAC,hi]
   ·refine⟨z,?_,by simp[hi]⟩
    rw[ZR]
    simp -implicitDefEqProofs only[EQA,ZM,Za7,Xc,Xa,↓reduceIte,gcT,gcA,Zu,Zs,Zk,Zn,ZI,Zl,ZF,Zy,Zx,Zsz,ZkS,Zd,h,Zlu,ZAC,hi]
    exact ih
  ·have he:s.drop p=[]:=by rw[XW];omega
   refine⟨-1,?_,by rw[he];rfl⟩
   unfold Zm2
   rw[ZR]
   simp -implicitDefEqProofs only[EQA,Xc,Xa,↓reduceIte,ZnD,ZMo,Zt6,Zsz,ZkS,Zd,h]
end
section
theorem ZK0(n:Int):E 90 [.int .i64 n] []=some (.bool (decide (n>8)),[]):=by
 rw[Zi (by rfl) ZSe]
 simp -implicitDefEqProofs only[EQA,Xc,Xa,reduceCtorEq,↓reduceIte,ZFi,Zqw,ZMU,Zd]
theorem Zx9(σ:Za)(sq own:Nat)(view:Bool)(n:Int):Zj E BY σ sq 90 own view [.int .i64 n]=some (.bool (decide (n>8)),σ,{}) :=
 Za2 (ZK0 n) (by kernel_rfl) (by simp -implicitDefEqProofs only[Zbu,Zai,eq_self]) (by simp -implicitDefEqProofs only[Zz,Zai,eq_self]) rfl (fun _=>rfl) _ _ _ _
theorem ZMx:ZcB.all ZX=true:=by kernel_rfl
theorem ZRH(s:List UInt8)(hl:s.length<=9223372036854775807):∃ z,E 68 [.str s,.str [43,35]] []=some (.int .i64 z,[])/\decide (z>=0)=Zb8 s:=by
 have e0:(([43,35]:List UInt8)==[])=false:=rfl
 have e1:((((2:Nat)):Int)==1)=false:=rfl
 by_cases h:(s.length:Int)>8
 ·obtain⟨z,h1,h2⟩:=ZwS s hl s 0 rfl
  refine⟨z,?_,h2⟩
  rw[Zi (by rfl) ZyP]
  unfold Zns at h1
  have z0:((0:Nat):Int)=0:=rfl
  rw[z0]at h1
  simp -implicitDefEqProofs only[EQA,Zz,ZM,Za7,Xe,Xc,Xf,Xa,Xg,Zbi,reduceCtorEq,↓reduceIte,gcT,gcA,Zu,Zs,Zk,Zn,ZI,Zl,ZF,Zy,Zx,Zvt,Zn7,Zd,e0,e1,h,Zx9,ZW5,ZRA,ZzM,ZzI,ZMx]
  exact h1
 ·obtain⟨z,h1,h2⟩:=ZwV s s.length 0 (by omega) (by omega)
  refine⟨z,?_,h2⟩
  rw[Zi (by rfl) ZyP]
  unfold Zm2 at h1
  simp -implicitDefEqProofs only[EQA,ZM,Za7,Xe,Xc,Xa,Xg,Zbi,reduceCtorEq,↓reduceIte,gcT,gcA,Zu,Zs,Zk,Zn,ZI,Zl,ZF,Zy,Zx,Zvt,Zn7,ZUu,ZsC,Zd,e0,e1,h,Zx9]
  exact h1
theorem ZV8(s:List UInt8)(hl:s.length<=9223372036854775807):E 47 [.str s,.str [43,35]] []=some (.bool (Zb8 s),[]):=by
 obtain⟨z,h1,h2⟩:=ZRH s hl
 have hC:∀ (σ:Za) (sq own:Nat) (view:Bool),Zj E BY σ sq 68 own view [.str s,.str [43,35]]=some (.int .i64 z,σ,{}):=fun _ _ _ _=>Za2 (h1) (by kernel_rfl) (by simp -implicitDefEqProofs only[Zbu,Zai,eq_self]) (by simp -implicitDefEqProofs only[Zz,Zai,eq_self]) rfl (fun _=>rfl) _ _ _ _
 rw[Zi (by rfl) ZNO,<-h2]
 simp -implicitDefEqProofs only[EQA,Xc,Xa,reduceCtorEq,↓reduceIte,ZPK,Zuq,ZFH,Zd,hC]
theorem ZxC(σ:Za)(sq own:Nat)(view:Bool)(s:List UInt8)(hl:s.length<=9223372036854775807):Zj E BY σ sq 47 own view [.str s,.str [43,35]]=some (.bool (Zb8 s),σ,{}) :=
 Za2 (ZV8 s hl) (by kernel_rfl) (by simp -implicitDefEqProofs only[Zbu,Zai,eq_self]) (by simp -implicitDefEqProofs only[Zz,Zai,eq_self]) rfl (fun _=>rfl) _ _ _ _
def ZeT(s:List UInt8):Bool:=decide (1<=s.length)&&decide (s.length<=64)&&Zct s
theorem ZDc(s:List UInt8):(decide ((s.length:Int)>=1)&&decide ((s.length:Int)<=64)&&Zct s)=ZeT s:=by
 unfold ZeT
 congr 2
 ·congr 1;rw[eq_iff_iff];omega
 ·congr 1;rw[eq_iff_iff];omega
theorem ZAQ{s:List UInt8}(h:ZeT s=true):s.length<=64:=by
 simp only[ZeT,Xk,decide_eq_true_eq]at h;exact h.1.2
theorem ZFN(s:List UInt8):E 46 [.str s] []=some (.bool (ZeT s),[]):=by
 rw[Zi (by rfl) ZLl,<-ZDc]
 by_cases h1:(s.length:Int)>=1<;>by_cases h2:(s.length:Int)<=64
 all_goals simp -implicitDefEqProofs only[EQA,Xc,Xa,Zw,Zad,unG,reduceCtorEq,↓reduceIte,ZXj,Zs4,ZFd,Zd,h1,h2,Zq5]
theorem Zp6(σ:Za)(sq own:Nat)(view:Bool)(s:List UInt8):Zj E BY σ sq 46 own view [.str s]=some (.bool (ZeT s),σ,{}) :=
 Za2 (ZFN s) (by kernel_rfl) (by simp -implicitDefEqProofs only[Zbu,Zai,eq_self]) (by simp -implicitDefEqProofs only[Zz,Zai,eq_self]) rfl (fun _=>rfl) _ _ _ _
def ZdD(s:List UInt8):Bool:=ZeT s && !Zb8 s
theorem ZRS(s:List UInt8):E 21 [.str s] []=some (.bool (ZdD s),[]):=by
 rw[Zi (by rfl) ZFL]
 unfold ZdD
 cases h:ZeT s
 ·simp -implicitDefEqProofs only[EQA,Xc,Xa,Zw,Zad,reduceCtorEq,↓reduceIte,Zvi,ZlY,ZzE,Zd,h,Zp6]
 ·have hC:=fun σ sq own view=>ZxC σ sq own view s (by have:=ZAQ h;omega)
  simp -implicitDefEqProofs only[EQA,Xc,Xa,unA,Zw,unG,reduceCtorEq,↓reduceIte,Zvi,ZlY,ZzE,Zd,h,Zp6,hC]
theorem Zhf(σ:Za)(sq own:Nat)(view:Bool)(s:List UInt8):Zj E BY σ sq 21 own view [.str s]=some (.bool (ZdD s),σ,{}) :=
 Za2 (ZRS s) (by kernel_rfl) (by simp -implicitDefEqProofs only[Zbu,Zai,eq_self]) (by simp -implicitDefEqProofs only[Zz,Zai,eq_self]) rfl (fun _=>rfl) _ _ _ _
end
section
theorem ZFI(s:List UInt8):∀ x∈Zbk s,x.length<=s.length:=by
 induction s with
 |nil=>simp[Zbk]
 |cons b r ih =>
  simp only[Zbk]
  split
  ·intro x hx
   rcases XR.1 hx with rfl |hx
   ·simp
   ·have:=ih x hx;simp;omega
  ·split
   ·rename_i h t e
    intro x hx
    rw[e]at ih
    rcases XR.1 hx with rfl |hx
    ·have:=ih h (by simp);simp;omega
    ·have:=ih x (by simp[hx]);simp;omega
   ·intro x hx
    have : x=[b]:=by simpa using hx
    subst this;simp
def ZpC(last:Bool)(x:List UInt8):Bool:=x==[43] ||(x==[35]&&last) || !Zb8 x
def ZjY:List (List UInt8)->Bool
 | []=>true
 |x::r=>ZpC r.isEmpty x&&ZjY r
def Znv(s:List UInt8):Bool:=ZjY (Zbk s)&&ZeT s
theorem ZJu{α:Type}{l:List α}{i:Nat}{x:α}{r:List α}(h:l.drop i=x::r):((i:Int)==((l.length:Int)-1))=r.isEmpty:=by
 have h1:=congrArg Xab h
 simp only[X9,Xp]at h1
 cases r with
 |nil=>simp at h1 ⊢;omega
 |cons y r=>simp at h1 ⊢;omega
theorem ZAq(s:List UInt8)(L:List (List UInt8))(hL:L.length<=9223372036854775807)(hx:∀ x∈L,x.length<=9223372036854775807):∀ (r:List (List UInt8)) (i:Nat),L.drop i=r ->
  ZlS 0 [(11,.int .i64 i),(10,.int .i64 L.length),(9,.lst false (L.map AVal.str)),(3,.lst false (L.map AVal.str)),(0,.str s)] []=some (.bool (ZjY r&&ZeT s),[])
 | [],i,h=>by
  have h1:=Zcq h
  unfold ZlS
  rw[ZR]
  simp -implicitDefEqProofs only[EQA,Xc,Xa,reduceCtorEq,↓reduceIte,Zsy,ZPE,Zqc,Zhe,ZfM,Zd,h1,Zp6]
  rfl
 |x::r,i,h=>by
  have ih:=ZAq s L hL hx r (i+1) (ZW h).2.1
  have hlt:=(ZW h).2.2
  have h1:(i:Int)<L.length:=by omega
  have e1:=iad (ZW h).1 AVal.str (k:=1) rfl
  have h3:=Zcs h1 hL
  have hmem:x∈L:=XC (ZW h).1
  have hC:=fun σ sq own view=>ZxC σ sq own view x (hx x hmem)
  have w1:IntKind.i64.wrap ((L.length:Int)-1)=(L.length:Int)-1:=ZaC (by omega) (by omega)
  have hla:=ZJu h
  have ee:ZjY (x::r)=(ZpC r.isEmpty x&&ZjY r):=rfl
  rw[ee]
  unfold ZpC
  unfold ZlS at ih ⊢
  rw[ZR]
  cases hp:(x==[43])
  ·cases hq:(x==[35])
   ·cases hz:Zb8 x
    ·simp -implicitDefEqProofs only[EQA,Zz,ZM,Xc,Xa,Zbi,unA,Zw,Zad,unG,reduceCtorEq,↓reduceIte,gcT,gcA,Zu,Zs,Zn,Zx,Zhe,ZfM,Zd,h1,e1,h3,hC,hp,hq,hz]
     exact ih
    ·simp -implicitDefEqProofs only[EQA,Zz,Xc,Xa,Zbi,unA,Zw,Zad,unG,reduceCtorEq,↓reduceIte,Zsy,Zhe,ZfM,Zd,h1,e1,hC,hp,hq,hz]
   ·cases hr:r.isEmpty
    ·cases hz:Zb8 x
     ·simp -implicitDefEqProofs only[EQA,Zz,ZM,Xc,Xa,Zbi,unA,Zw,unG,reduceCtorEq,↓reduceIte,gcT,gcA,Zu,Zs,Zn,Zx,Zhe,ZfM,Zd,h1,e1,h3,hC,w1,hla,hp,hq,hz,hr]
      exact ih
     ·simp -implicitDefEqProofs only[EQA,Zz,Xc,Xa,Zbi,unA,Zw,unG,reduceCtorEq,↓reduceIte,Zsy,Zhe,ZfM,Zd,h1,e1,hC,w1,hla,hp,hq,hz,hr]
    ·simp -implicitDefEqProofs only[EQA,Zz,ZM,Xc,Xa,Zbi,unA,Zw,Zad,unG,reduceCtorEq,↓reduceIte,gcT,gcA,Zu,Zs,Zn,Zx,Zhe,ZfM,Zd,h1,e1,h3,w1,hla,hp,hq,hr]
     exact ih
  ·simp -implicitDefEqProofs only[EQA,Zz,ZM,Xc,Xa,Zbi,unA,Zw,Zad,reduceCtorEq,↓reduceIte,gcT,gcA,Zu,Zs,Zn,Zx,Zhe,ZfM,Zd,h1,e1,h3,hp]
   exact ih
theorem ZJV(s:List UInt8)(hs:s.length*16<=140737488355328-64):E 42 [.str s] []=some (.bool (Znv s),[]):=by
 have hC:=fun σ sq own view=>ZrY σ sq own view s (by omega)
 have hlen:=ZmE s
 have hcl:=Xaw (a:=(47:UInt8)) (l:=s)
 have key:=ZAq s (Zbk s) (by omega) (fun x hx=>by have:=ZFI s x hx;omega) (Zbk s) 0 rfl
 rw[Zi (by rfl) ZM3]
 unfold ZlS at key
 have z0:((0:Nat):Int)=0:=rfl
 rw[z0]at key
 simp -implicitDefEqProofs only[EQA,ZM,Xc,Xa,reduceCtorEq,↓reduceIte,gcT,gcA,Zu,Zs,Zn,Zx,ZOs,Zpe,Zd,hC]
 exact key
theorem ZOL(σ:Za)(sq own:Nat)(view:Bool)(s:List UInt8)(hs:s.length*16<=140737488355328-64):Zj E BY σ sq 42 own view [.str s]=some (.bool (Znv s),σ,{}) :=
 Za2 (ZJV s hs) (by kernel_rfl) (by simp -implicitDefEqProofs only[Zbu,Zai,eq_self]) (by simp -implicitDefEqProofs only[Zz,Zai,eq_self]) rfl (fun _=>rfl) _ _ _ _
end
section
def ZfZ:List (List UInt8)->List (List UInt8)->Bool
 | [],n=>n.isEmpty
 |x::f,n=>x==[35] ||(match n with
  | []=>false
  |y::n=>(x==[43] ||x==y)&&ZfZ f n)
def ZA0(x:List UInt8):Bool:=x==[43] ||x==[35]
def Zkc(f s:List UInt8):Bool:=Znv f&&ZdD s && !((s.headD 0==36)&&ZA0 ((Zbk f).headD []))&&ZfZ (Zbk f) (Zbk s)
theorem ZyK(F S:List (List UInt8))(hF:F.length<=9223372036854775807)(hS:S.length<=9223372036854775807):∀ (r n:List (List UInt8)) (i:Nat),F.drop i=r->S.drop i=n->i<=F.length->i<=S.length ->
  ZjU 0 [(38,.int .i64 i),(37,.int .i64 F.length),(36,.lst false (F.map AVal.str)),(6,.lst false (S.map AVal.str)),(5,.lst false (F.map AVal.str))] []=some (.bool (ZfZ r n),[])
 | [],n,i,h,hn,hi,hi'=>by
  have h1:=Zcq h
  have he:(((F.length:Int))==((S.length:Int)))=n.isEmpty:=by
   have hfi:F.length=i:=by have:=XW.1 h;omega
   have h2:=congrArg Xab hn
   simp only[X9]at h2
   cases n with
   |nil=>simp at h2 ⊢;omega
   |cons y n=>simp at h2 ⊢;omega
  unfold ZjU
  rw[ZR]
  simp -implicitDefEqProofs only[EQA,Xc,Xa,↓reduceIte,ZfQ,ZG8,Zsu,Zh6,Zf9,Zd,h1,he]
  rfl
 |x::r,[],i,h,hn,hi,hi'=>by
  have hlt:=(ZW h).2.2
  have h1:(i:Int)<F.length:=by omega
  have e1:=iad (ZW h).1 AVal.str (k:=1) rfl
  have he:((i:Int)==((S.length:Int)))=true:=by have:=XW.1 hn;rw[beq_iff_eq];omega
  unfold ZjU
  rw[ZR]
  cases hp:(x==[35])
  ·have ee:ZfZ (x::r) []=false:=by simp[ZfZ,hp]
   rw[ee]
   simp -implicitDefEqProofs only[EQA,Zz,Xc,Xa,Zbi,Zw,Zad,reduceCtorEq,↓reduceIte,ZfQ,Zh6,Zf9,Zd,h1,e1,he,hp]
  ·have ee:ZfZ (x::r) []=true:=by simp[ZfZ,hp]
   rw[ee]
   simp -implicitDefEqProofs only[EQA,Zz,Xc,Xa,Zbi,↓reduceIte,ZfQ,Zh6,Zf9,Zd,h1,e1,hp]
 |x::r,y::n,i,h,hn,hi,hi'=>by
  have hlt:=(ZW h).2.2
  have hlt':=(ZW hn).2.2
  have ih:=ZyK F S hF hS r n (i+1) (ZW h).2.1 (ZW hn).2.1 (by omega) (by omega)
  have h1:(i:Int)<F.length:=by omega
  have h3:=Zcs h1 hF
  have e1:=iad (ZW h).1 AVal.str (k:=1) rfl
  have e2:=iad (ZW hn).1 AVal.str (k:=1) rfl
  have he:((i:Int)==((S.length:Int)))=false:=by rw[beq_eq_false_iff_ne];omega
  have ee:ZfZ (x::r) (y::n)=(x==[35] ||((x==[43] ||x==y)&&ZfZ r n)):=rfl
  rw[ee]
  unfold ZjU at ih ⊢
  rw[ZR]
  cases hp:(x==[35])
  ·cases hq:(x==[43])
   ·cases hz:(x==y)
    ·simp -implicitDefEqProofs only[EQA,Zz,Xc,Xa,Zbi,Zw,unG,reduceCtorEq,↓reduceIte,ZfQ,Zh6,Zf9,Zd,h1,e1,e2,he,hp,hq,hz]
    ·simp -implicitDefEqProofs only[EQA,Zz,ZM,Xc,Xa,Zbi,Zw,unG,reduceCtorEq,↓reduceIte,gcT,gcA,Zu,Zs,Zn,Zx,Zh6,Zf9,Zd,h1,h3,e1,e2,he,hp,hq,hz]
     exact ih
   ·simp -implicitDefEqProofs only[EQA,Zz,ZM,Xc,Xa,Zbi,Zw,Zad,unG,reduceCtorEq,↓reduceIte,gcT,gcA,Zu,Zs,Zn,Zx,Zh6,Zf9,Zd,h1,h3,e1,he,hp,hq]
    exact ih
  ·simp -implicitDefEqProofs only[EQA,Zz,Xc,Xa,Zbi,↓reduceIte,ZfQ,Zh6,Zf9,Zd,h1,e1,hp]
theorem ZNL{s:List UInt8}(h:ZdD s=true):∃ b t,s=b::t:=by
 cases s with
 |nil=>simp[ZdD,ZeT]at h
 |cons b t=>exact⟨b,t,rfl⟩
theorem ZXP{s:List UInt8}(h:ZdD s=true):s.length<=64:=by
 simp only[ZdD,Xk]at h;exact ZAQ h.1
theorem ZHA(x:List UInt8)(r:List (List UInt8))(σ:Za)(kk:IntKind):Zb9 σ 1 (.lst false ((x::r).map AVal.str)) (.int kk 0)=some (.iptr [.str x] 0,σ,{}):=by
 exact iad (l:=x::r) (i:=0) (x:=x) rfl AVal.str (k:=1) rfl σ false kk
theorem ZIa(f s:List UInt8)(hf:f.length*16<=140737488355328-64):E 19 [.str f,.str s] []=some (.bool (Zkc f s),[]):=by
 have hCf:=fun σ sq own view=>ZOL σ sq own view f hf
 have hLf:=fun σ sq own view=>ZrY σ sq own view f (by omega)
 rw[Zi (by rfl) ZDp]
 unfold Zkc
 cases h1:Znv f
 ·simp -implicitDefEqProofs only[EQA,Xc,Xa,unA,Zw,Zad,reduceCtorEq,↓reduceIte,Zi3,Zgm,ZfQ,Zd,hCf,h1]
 cases h2:ZdD s
 ·simp -implicitDefEqProofs only[EQA,Xc,Xa,unA,Zw,unG,reduceCtorEq,↓reduceIte,Zi3,Zgm,ZfQ,Zd,hCf,h1,Zhf,h2]
 have hl:=ZXP h2
 have hLs:=fun σ sq own view=>ZrY σ sq own view s (by omega)
 obtain⟨b,t,rfl⟩:=ZNL h2
 have hlenf:=ZmE f
 have hlens:=ZmE (b::t)
 have hcf:=Xaw (a:=(47:UInt8)) (l:=f)
 have hcs:=Xaw (a:=(47:UInt8)) (l:=b::t)
 have key:=ZyK (Zbk f) (Zbk (b::t)) (by omega) (by omega) (Zbk f) (Zbk (b::t)) 0 rfl rfl (by omega) (by omega)
 obtain⟨x0,r0,hx⟩:∃ x r,Zbk f=x::r:=by
  cases h:Zbk f with
  |nil=>exact absurd h (Zyo f)
  |cons x r=>exact⟨x,r,rfl⟩
 rw[hx]at key hLf ⊢
 have hdol:((b.toNat:Int)==36)=(b==36):=by
  rw[Xan]
  simp only[beq_iff_eq,<-Xaq]
  have : (36:UInt8).toNat=36:=rfl
  omega
 unfold ZjU at key
 have z0:((0:Nat):Int)=0:=rfl
 rw[z0]at key
 simp only[List.headD_cons,ZA0]
 generalize Zbk (b::t)=S at *
 have hi0:=fun σ kk=>ZHA x0 r0 σ kk
 simp only[Xm,Xp]at key hLf hi0
 cases h3:(b==36)
 ·simp -implicitDefEqProofs only[EQA,ZM,Xc,Xa,unA,Zw,Zad,unG,reduceCtorEq,↓reduceIte,gcT,gcA,Zu,Zs,Zn,Zx,Zi3,Zgm,Zd,hCf,h1,Zhf,h2,hLf,hLs,hdol,h3,Zb,Xac,Xar]
  exact key
 ·cases h4:(x0==[43])
  ·cases h5:(x0==[35])
   ·simp -implicitDefEqProofs only[EQA,ZM,Xc,Xa,Zbi,unA,Zw,unG,reduceCtorEq,↓reduceIte,gcT,gcA,Zu,Zs,Zn,Zx,Zi3,Zgm,Zd,hCf,h1,Zhf,h2,hLf,hLs,hdol,h3,h4,h5,Zb,Xac,Xar,hi0]
    exact key
   ·simp -implicitDefEqProofs only[EQA,Xc,Xa,Zbi,unA,Zw,unG,reduceCtorEq,↓reduceIte,Zi3,Zgm,ZfQ,Zd,hCf,h1,Zhf,h2,hLf,hLs,hdol,h3,h4,h5,Zb,Xac,Xar,hi0]
  ·simp -implicitDefEqProofs only[EQA,Xc,Xa,Zbi,unA,Zw,Zad,unG,reduceCtorEq,↓reduceIte,Zi3,Zgm,ZfQ,Zd,hCf,h1,Zhf,h2,hLf,hLs,hdol,h3,h4,Zb,Xac,Xar,hi0]
theorem ZQI(σ:Za)(sq own:Nat)(view:Bool)(f s:List UInt8)(hf:f.length*16<=140737488355328-64):Zj E BY σ sq 19 own view [.str f,.str s]=some (.bool (Zkc f s),σ,{}) :=
 Za2 (ZIa f s hf) (by kernel_rfl) (by simp -implicitDefEqProofs only[Zbu,Zai,eq_self]) (by simp -implicitDefEqProofs only[Zz,Zai,eq_self]) rfl (fun _=>rfl) _ _ _ _
end
section
end
section
set_option maxRecDepth 100000
end
section
theorem ZCx(it:ZhZ):ZbB 0 (some (itO it))=some (.agg (itC it.note it.qos it.retain (.lst false (it.ids.map (AVal.int .i64))) it.share),[]):=by
 unfold itO
 cases it.ids with
 |nil =>
  simp[ZcL,ZcI,itC,ZbB,viewR,ZP,Zat,ZK,Zr,gcA,Zu,Zs,Zt,ZT,Zh,Zo,Zn]
 |cons a l =>
  simp only[Xm,ZdF,Zdr]
  generalize AVal.int .i64 a::l.map (AVal.int .i64)=X
  simp[itC,ZbB,viewR,ZP,Zat,ZK,ZY,Zr,gcA,Zu,Zs,Zt,ZT,Zh,Zo,Zn]
theorem ZWc(σ:Za)(sq own:Nat)(m:ZcN)(hm:Zhx m):Zj E BY σ sq 15 own true [.agg (mC m)]=some (.agg [.str (Zbn m).note.topic,.lst false ((Zbn m).note.payload.map Zb),.int .i64 (Zbn m).note.qos,.bool (Zbn m).note.retain,.str (Zbn m).note.sender,.int .i64 (Zbn m).note.expires,.lst false ((Zbn m).note.props.map Zg),.int .i64 (Zbn m).note.origin,.int .i64 (Zbn m).note.number,.int .i64 (Zbn m).note.hops,.int .i64 (Zbn m).qos,.bool (Zbn m).retain,.lst false ((Zbn m).ids.map (.int .i64 ·)),.str (Zbn m).share],σ,{}):=by
 rw[ZcT (by kernel_rfl) rfl]
 have hn:[AVal.agg (mC m)].map ZN=[.agg (mC m)]:=rfl
 rw[hn,ZG6 m hm]
 have : Z3 true 0 (some (itO (Zbn m)))=_:=(if_pos rfl).trans (ZCx _)
 rw[this]
 rw[Zgu _ _ _ _ rfl]
 rfl
end
section
theorem ZWf(n lo hi:Int)(h0:0<=lo)(h1:lo<=hi)(h2:hi<=4611686018427387904):∃ k:Int,(lo<=k/\k<=hi)/\E 5 [.int .i64 n,.int .i64 lo,.int .i64 hi] []=some (.int .i64 k,[]):=by
 have w1:IntKind.i64.wrap (hi-lo)=hi-lo:=ZaC (by omega) (by omega)
 have w2:IntKind.i64.wrap (hi-lo+1)=hi-lo+1:=ZaC (by omega) (by omega)
 generalize hw:hi-lo+1=w at w2
 have hz:(w=0)=False:=by simp;omega
 have hb:-w<n.tmod w/\n.tmod w<w:=⟨Int.lt_tmod_of_pos n (by omega),Int.tmod_lt_of_pos n (by omega)⟩
 by_cases h:n.tmod w<0
 ·refine⟨lo+(n.tmod w+w),by omega,?_⟩
  have w3:IntKind.i64.wrap (n.tmod w+w)=n.tmod w+w:=ZaC (by omega) (by omega)
  have w4:IntKind.i64.wrap (lo+(n.tmod w+w))=lo+(n.tmod w+w):=ZaC (by omega) (by omega)
  rw[Zi (by rfl) Zt4]
  simp -implicitDefEqProofs only[EQA,Za7,Xe,Xc,Xa,reduceCtorEq,↓reduceIte,Zl7,Zjn,ZnN,Zd,w1,hw,w2,w3,w4,hz,h]
 ·refine⟨lo+n.tmod w,by omega,?_⟩
  have w4:IntKind.i64.wrap (lo+n.tmod w)=lo+n.tmod w:=ZaC (by omega) (by omega)
  rw[Zi (by rfl) Zt4]
  simp -implicitDefEqProofs only[EQA,Za7,Xe,Xc,Xa,reduceCtorEq,↓reduceIte,Zl7,Zjn,ZnN,Zd,w1,hw,w2,w4,hz,h]
theorem ZyM(n lo hi:Int)(h0:0<=lo)(h1:lo<=hi)(h2:hi<=4611686018427387904):∃ k:Int,(lo<=k/\k<=hi)/\∀ (σ:Za) (sq own:Nat) (view:Bool),Zj E BY σ sq 5 own view [.int .i64 n,.int .i64 lo,.int .i64 hi]=some (.int .i64 k,σ,{}):=by
 obtain⟨k,hk,h⟩:=ZWf n lo hi h0 h1 h2
 exact⟨k,hk,fun σ sq own view=>Za2 h (by kernel_rfl) rfl rfl rfl (fun _=>rfl) _ _ _ _⟩
end
section
theorem ZUT(n:Zax)(h:Zef n)(σ:Za)(sq own:Nat):Zj E BY σ sq 20 own true [.agg (lkC n)]=some (.agg (lkC n),σ,{}):=by
 rw[ZcT (by kernel_rfl) rfl]
 unfold lkC
 simp only[Xm,Xt,ZN,Za4]
 rw[ZvA n (by have:=h.payload;omega) (by have:=h.props;omega) h.data]
 have hQ:n.props.length=(n.props.map Zg).length:=by rw[XD]
 have hP:n.payload.length=(n.payload.map Zb).length:=by rw[XD]
 unfold Z3 ZeX
 rw[if_pos rfl]
 rw[hQ,hP]
 generalize n.props.map Zg=R
 generalize n.payload.map Zb=P
 simp[ZbB,viewR,ZP,Zat,ZK,ZY,Zr,gcA,Zu,Zs,Zt,ZT,Zh,Zo,Zn,Zx,ZaA,ZbJ,Zbr,Za5,ZcY]
def Zhs(n:Zax):Bool:=decide ((Zd0 (lkD n (n.expires-1) 1)).length<=512)
structure Ziz(n:Zax):Prop where
 ok:Zef n
 exp:0<=n.expires/\n.expires<=1000000
 w:∀ now,OkW (lkD n now 1)
 good:∀ now,0<=now+1->now<=1000000->ZfJ (lkD n now 1)
theorem ZES(n:Zax)(h:Ziz n):E1 22 [.agg (lkC n)] []=some (.bool (Zhs n),[]):=by
 have he:=h.exp
 have hpay:(lkD n (n.expires-1) 1).payload.length<=1000000:=h.ok.payload
 have hw:=h.w (n.expires-1)
 have hL:=ZzK (lkD n (n.expires-1) 1) hw hpay (h.good _ (by omega) (by omega)) [.agg (ZB (lkD n (n.expires-1) 1))] (ZiQ _ hw hpay _).1 (ZiQ _ hw hpay _).2
 have hl:=fun σ sq own=>ZbL (ZzH n (n.expires-1) 1 h.ok σ sq own)
 have w1:IntKind.i64.wrap (n.expires-1)=n.expires-1:=ZaC (by omega) (by omega)
 have e:Zhs n=decide (((Zd0 (lkD n (n.expires-1) 1)).length:Int)<=512):=by
  unfold Zhs
  simp only[decide_eq_decide]
  omega
 rw[e]
 have c0:((0:Int)==0)=true:=rfl
 generalize ZB (lkD n (n.expires-1) 1)=X at *
 generalize hB:Zd0 (lkD n (n.expires-1) 1)=B at *
 clear e hB
 unfold lkC at *
 generalize n.payload.map Zb=P at *
 generalize n.props.map Zg=Q at *
 rw[ZbE (by rfl) ZEa]
 simp -implicitDefEqProofs only[EQA,Xe,Xc,Xf,Xa,Xg,Zw,unG,↓reduceIte,ZUY,ZsZ,ZI6,Zd,hl,hL,w1,AVal.cells]
theorem ZD2(n:Zax)(h:Ziz n)(σ:Za)(sq own:Nat)(view:Bool):Zj E1 BY σ sq 22 own view [.agg (lkC n)]=some (.bool (Zhs n),σ,{}) :=
 Za2 (ZES n h) (by kernel_rfl) rfl rfl rfl (fun _=>rfl) _ _ _ _
def lkT(n:Zax):Zax:={ n with topic:=[112,47]++n.topic }
def lk0:Za:=[.var (lkE false (.lst true []) (.lst true [])),.var [.map 2],.map []]
def ZhU(n:Zax):Bool:=Zkc [35] n.topic&&ZdD ([112,47]++n.topic)&&Zhs (lkT n)
theorem Zwr(n:Zax)(h:Ziz (lkT n))(hn:Zef n)(ht:n.topic.length<=1000000):E1 8 [.ref 0 0,.agg (lkC n)] lk0=some (.bool (ZhU n),if ZhU n=true then lkH false (lkR (lkT n))else lk0):=by
 have hm:=fun σ sq own view=>ZbL (ZQI σ sq own view [35] n.topic (by decide))
 have hN:∀ (σ:Za) (sq own:Nat) (view:Bool),Zj E1 BY σ sq 21 own view [.str (112::47::n.topic)]=some (.bool (ZdD ([112,47]++n.topic)),σ,{}):=fun σ sq own view=>ZbL (Zhf σ sq own view ([112,47]++n.topic))
 have hc:=fun σ sq own=>ZbL (ZUT n hn σ sq own)
 have eC:lkC (lkT n)=[.str (112::47::n.topic),.lst false (n.payload.map Zb),.int .i64 n.qos,.bool n.retain,.str n.sender,.int .i64 n.expires,.lst false (n.props.map Zg),.int .i64 n.origin,.int .i64 n.number,.int .i64 n.hops]:=rfl
 have hf:=ZD2 (lkT n) h
 have c0:((0:Nat):Int)=0:=rfl
 have tl:2+n.topic.length<=9223372036854775807:=by omega
 unfold ZhU
 unfold lkH lkR lk0 lkE
 rw[eC]at *
 unfold lkC at *
 clear eC
 generalize Zhs (lkT n)=ft at *
 generalize Zkc [35] n.topic=mt at *
 generalize ZdD ([112,47]++n.topic)=nt at *
 generalize n.payload.map Zb=P at *
 generalize n.props.map Zg=Q at *
 cases mt<;>cases nt<;>cases ft
 all_goals (
  rw[ZbE (by rfl) ZIi]
  simp -implicitDefEqProofs only[EQA,Xe,Xc,Xf,Xa,Xg,Zbi,unA,Zw,Zad,unG,reduceCtorEq,ZY,↓reduceIte,ZBO,Zto,ZVR,Zd,hm,hN,hc,hf,c0,tl,AVal.cells,ZaE,kOk,viewAs,ZP,ZK,Zat,Zr,W7,Z6,Zaf,Zah,Zau,Zas,Zar,Zav,Zaw,Zag,Xy,ZX,Xa3,ge_iff_le]
  try rfl)
end
end Go.Proofs.YtfhocpplckoodaaGreatDoor
