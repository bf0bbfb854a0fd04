/- The statement of RoutePlans: for every input the law returns true, and each argument reads afterwards as it read before. No other condition. -/
import Derived.Test.YtaimaokfbgmoiaaMq4
import Derived.Test.YtaimaokfbgmoiaaMq3
import Derived.Test.YtaimaokfbgmoiaaRows
import Derived.WalkKit
import Derived.ProofKit
import Derived.OpenShut
import Derived.ShutString
import Derived.ChangeOld
import Derived.Below
set_option linter.defProp false
set_option linter.unusedSectionVars false
set_option linter.unusedSimpArgs false
set_option linter.unusedVariables false
open Bool renaming decide_eq_true→Xc,not_eq_true→Xh,false_eq_true→Xu,not_false→WG,and_self→WX,false_and→W0,true_and→W3
open List renaming range_succ→Xd,getElem?_eq_some_iff→Xf,all_cons→Xi,getD_eq_getElem?_getD→Xn,all_nil→Xp,length_cons→Xq,replicate→Xr,map_cons→Xw,mem_of_getElem?→Xx,length_nil→Xy,getElem?_eq_getElem→Xz,getD_cons_zero→XA,getElem?_cons_succ→XC,getD_cons_succ→XD,length_append→XE,contains_nil→XF,mem_append→XG,nil_append→XI,lookup_cons→XJ,length_map→XL,length_singleton→XM,getElem?_cons_zero→XN,mem_cons→XP,lookup_nil→XR,map_nil→XS,range'→XT,mem_singleton→XU,mem_map→XV,getElem?_map→XY,any_cons→XZ,cons_append→X1,append_nil→X2,any_nil→X3,mem_range'_1→X6,length_take→X9,nodup_cons→Wc,mem_or_eq_of_mem_set→We,getElem?_append_left→Wf,getElem?_range'→Wg,take_succ_cons→Wh,drop_succ_cons→Wi,getElem?_append_right→Wo,pairwise_cons→Ws,append_assoc→Wt,mem_iff_getElem?→WA,replicate_succ→WC,drop_zero→WF,nodup_append→WJ,take_zero→WL,length_replicate→WN,nodup_range'→WS,set_cons_zero→W7,isEmpty_nil→Xab,length_set→Xaf,foldl_cons→Xag,set_append_right→Xaz,isEmpty_cons→XaG,getElem?_replicate→XaH,not_mem_nil→XaY,length_range'→Xa6,length_zipIdx→Xa7,le_antisymm→Xbd,filter_cons→Xbe,headD_cons→Xbn,not_lt→Xbu
open Nat renaming reduceLeDiff→Xe,reduceEqDiff→Xg,reduceMul→Xj,reduceAdd→Xk,reduceSub→Xl,reduceBEq→Xm,reduceLT→Xo,zero_add→XK,le_refl→X0,one_mul→Wj,add_comm→W6,sub_self→Xas
open Or renaming inl→XH,inr→XO
namespace Go.Proofs.Ytaimaokfbgmoiaa
set_option maxHeartbeats 16000000
set_option maxRecDepth 10000
section
theorem ZE2 (n:ZU) (X:Zq) {k t:Nat} (V:Za) (h0:0 < t) (h:t < k+1):(X::(Z2 n k++V))[t]?=some (.row 0 1 (n.payload.map Zn)):=by
 obtain ⟨i,rfl⟩:∃ i,t=i+1:=⟨t - 1,by omega⟩
 rw [XC,Wf (by rw [Zkh];omega)]
 exact Zpm n (by omega)
theorem ZGe (n:ZU) (hn:n.props.length<=700000000) (P:Grp) (hP:P.length<=900) (hids:∀ p ∈ P,(byI n p.2).ids.length<=9223372036854775807) (V:Za) (sq:Nat) :
  Z4 E BY (.rrow 0 15 (ZY n 1 P)::(Z2 n P.length++V)) sq 11 0 true [.sl 0 0 0 P.length,.lst false (P.map (Zcx n))]=some (.bool true,.rrow 0 15 (ZY n 1 P)::(Z2 n P.length++V),{ any:=true }):=by
 have hq:=ZBf n hn P hP hids
 have hga:=Zkm n P hP (rs:=[AVal.bool true]) (XO rfl) (fun ρ h=>rfl)
 have pg:∀ t,0 < t->t < P.length+1->(Zq.rrow 0 15 (ZY n 1 P)::(Z2 n P.length++V))[t]?=some (.row 0 1 (n.payload.map Zn)):=fun t h0 h1=>ZE2 n _ V h0 h1
 have pd:∀ t,0 < t->t < P.length+1->(Zq.rrow 0 15 (ZY n 1 P)::(Z2 n P.length++V)).getD t .free=.row 0 1 (n.payload.map Zn):=fun t h0 h1=>by rw [Xn,pg t h0 h1];rfl
 have hr:=Zw5 n 1 P
 have hY1:∀ ρ:Rho,(∀ i,i < P.length->ρ (1+i) 0=some (1+i,0))->ZW ρ (ZY n 1 P)=ZY n 1 P:=fun ρ h=>Zzi n P ρ 1 h
 have hset:(Zq.rrow 0 15 (ZY n 1 P)::(Z2 n P.length++V)).set 0 (.rrow 0 15 (ZY n 1 P))=.rrow 0 15 (ZY n 1 P)::(Z2 n P.length++V):=rfl
 generalize P.map (Zcx n)=RA at *
 generalize ZY n 1 P=Y at *
 generalize hk:P.length=k at *
 have g0:(Zq.rrow 0 15 Y::(Z2 n k++V)).getD 0 .free=.rrow 0 15 Y:=rfl
 have q0:(Zq.rrow 0 15 Y::(Z2 n k++V))[0]?=some (.rrow 0 15 Y):=rfl
 generalize hσ:(Zq.rrow 0 15 Y::(Z2 n k++V):Za)=σ at *
 have hre:Zf σ 1000 [0] []=0::XT 1 k:=by
  rw [show (1000:Nat)=999+1 from rfl,Zf]
  simp only [XF,Xu,if_false,g0,Zp,hr,XI]
  rw [Zf3 σ (XT 1 k) [] _ (999 - k) 999 (by rw [Xa6];omega) (fun t ht=>by
   rw [X6] at ht
   rw [pd t (by omega) (by omega)];rfl) WS (fun t ht=>by
   rw [X6] at ht
   simp only [XU];omega)]
  have e:999 - k=(998 - k)+1:=by omega
  rw [e,Zf]
  rfl
 have hb:BY 11=true:=by kernel_rfl
 unfold Z4 ZcZ
 rw [hb]
 simp only [if_true,show ZZ [AVal.sl 0 0 0 k,.lst false RA]=[0] from rfl,ZV,hre]
 have i0:Zk 0 (0::XT 1 k) 0=some 0:=rfl
 have ir:∀ i,i < k->Zk (1+i) (0::XT 1 k) 0=some (1+i):=fun i hi=>by
  have:=Zf8 (0::XT 1 k) [] 0 (i+1) (1+i) (Wc.2 ⟨by rw [X6];omega,WS⟩) (by rw [XC,Wg hi];simp)
  rw [X2] at this
  rw [this];congr 1;omega
 have r0:Zd σ 0 (0::XT 1 k) 0 0=some (0,0):=by simp [Zd,i0,q0,Zc,Zl]
 have rr:∀ i,i < k->Zd σ 0 (0::XT 1 k) (1+i) 0=some (1+i,0):=fun i hi=>Zkj σ (ir i hi) (pd (1+i) (by omega) (by omega))
 unfold Zck
 have hall:((0::XT 1 k).all fun t=>okB (σ.getD t .free))=true:=by
  rw [Xi,g0,List.all_eq_true.2 (fun t ht=>by
   rw [X6] at ht
   rw [pd t (by omega) (by omega)];rfl)]
  rfl
 rw [if_pos hall]
 have ha:ZW (Zd σ 0 (0::XT 1 k)) [.sl 0 0 0 k,.lst false RA]=[.sl 0 0 0 k,.lst false RA]:=by simp only [ZW,Zs,r0]
 have hh:Ze σ 0 (0::XT 1 k) (Zd σ 0 (0::XT 1 k)) (0::XT 1 k) 0=.rrow 0 15 Y::Z2 n k:=by
  conv=>lhs;rw [Ze]
  rw [ZhE σ _ _ (n.payload.map Zn) _ _ (fun b hb=>by
   rw [X6] at hb
   exact pd b (by omega) (by omega)),g0]
  simp only [Zg,Zl,Nat.not_lt_zero,false_and,if_false,hY1 _ rr,Xa6]
  rfl
 rw [ha,hh,hq]
 have hask:ZaC true (0::XT 1 k).length (some (.bool true,.rrow 0 15 Y::Z2 n k))=some (.bool true,.rrow 0 15 Y::Z2 n k):=by
  rw [show (0::XT 1 k).length=k+1 by simp]
  unfold ZaC
  rw [if_pos rfl]
  show (match viewR (Zq.rrow 0 15 Y::Z2 n k) (.bool true) with
   | some (r',ts)=>match gcA (k+1) [r'] (ZV (Zq.rrow 0 15 Y::Z2 n k) ts) with
    | ([r''],σ')=>some (r'',σ')
    | _=>none
   | none=>none)=_
  simp only [viewR,Zao,Zad,ZV,hga]
 rw [hask]
 simp only [ZaP,XaG,W0,Xu,if_false]
 have hlen:(Zq.rrow 0 15 Y::Z2 n k).length=(0::XT 1 k).length:=by simp [Z2]
 have hok:ZbI σ (0::XT 1 k) (.rrow 0 15 Y::Z2 n k) 0=true:=by
  unfold ZbI
  simp only [XN,g0,okB,ZeG,Zc,Nat.zero_le,decide_true,WX,W3]
  exact Ztz k 1 fun i hi=>⟨1+i,by rw [W6 1 i,XC,Wg hi];simp;omega,pd (1+i) (by omega) (by omega)⟩
 have hl:Za9 σ (0::XT 1 k) sq (.rrow 0 15 Y::Z2 n k) 0 σ=σ:=by
  rw [Za9]
  have e1:ZaY (0::XT 1 k) sq 0=0:=rfl
  have e2:ZbB σ (0::XT 1 k) 0 (.rrow 0 15 Y)=0:=by simp only [ZbB,XN,g0,Zc]
  have e3:ZW (Za8 σ (0::XT 1 k) sq) Y=Y:=hY1 _ fun i hi=>by
   have : (0::XT 1 k)[1+i]?=some (1+i):=by
    rw [W6 1 i,XC,Wg hi]
    simp;omega
   have hp:=pd (1+i) (by omega) (by omega)
   simp only [Za8,this,hp,Zc]
  rw [e1,e2]
  simp only [Zg,e3,hset]
  exact Zsg k 1 _ fun i hi=>⟨1+i,by rw [W6 1 i,XC,Wg hi];simp;omega,pg (1+i) (by omega) (by omega),by rw [pd (1+i) (by omega) (by omega)];rfl⟩
 have hu:Zct σ (0::XT 1 k)=[]:=Zlk _ fun t ht cs h=>by
  rcases XP.1 ht with rfl | ht
  ·rw [q0] at h;simp at h
  ·rw [X6] at ht
   rw [pg t (by omega) (by omega)] at h
   cases h
 have hff:ZcJ σ sq 0=true:=rfl
 rw [hl,hu,hok,hff,hlen]
 simp [Zs,ZW]
end
section
def ZcA (x:Zq):Prop:=Zp x=[]/\(∀ ρ:Rho,Zg ρ 0 x=x)/\Zc x=0/\x≠.free
theorem ZuC {σ:Za} {ids:List Nat} {ρ:Rho}:∀ (bs:List Nat) (Bs:List Zq) (j:Nat),bs.length=Bs.length->(∀ (i b:Nat) (B:Zq),bs[i]?=some b->Bs[i]?=some B->σ.getD b .free=B/\ZcA B)->Ze σ 0 ids ρ bs j=Bs
 | [],[],_,_,_=>rfl
 | [],B::Bs,_,h,_=>by simp at h
 | b::bs,[],_,h,_=>by simp at h
 | b::bs,B::Bs,j,h,hB=>by
  obtain ⟨h1,h2,h3,h4,h5⟩:=hB 0 b B rfl rfl
  rw [Ze,h1,ZuC bs Bs (j+1) (by simpa using h) (fun i b B hb hB'=>hB (i+1) b B (by simpa using hb) (by simpa using hB'))]
  have : Zl 0 j B=0:=by simp [Zl]
  rw [this,h3]
theorem ZCL (X:List AVal):ZcA (.row 0 1 X):=⟨rfl,fun _=>rfl,rfl,by simp⟩
theorem ZkC {n:ZU} {ys:List ((Zt×List Z5)×Nat)} {σ:Za} {a:Nat} {vs:List Nat} {Xs:List (List AVal)} {Vs:List Zq} {rs rs':List AVal} (hr:ZZ rs=a::vs) (ha:σ[a]?=some (.rrow 0 15 (ZaV n ys)))
  (hnd:(a::(ys.map (·.2)++vs)).Nodup) (hXl:Xs.length=ys.length) (hVl:Vs.length=vs.length) (hX:∀ (i b:Nat) (X:List AVal),(ys.map (·.2))[i]?=some b->Xs[i]?=some X->σ[b]?=some (.row 0 1 X))
  (hV:∀ (i v:Nat) (V:Zq),vs[i]?=some v->Vs[i]?=some V->σ[v]?=some V/\ZcA V) (hl:ys.length<=900) (hvl:vs.length<=20)
  (hren:∀ ρ:Rho,ρ a 0=some (0,0)->(∀ (j v:Nat),vs[j]?=some v->ρ v 0=some (1+ys.length+j,0))->ZW ρ rs=rs'):gcA 0 rs σ=(rs',ZaX n (ys.map (·.1)) Xs Vs):=by
 have hbl:(ys.map (·.2)).length=ys.length:=XL ..
 have hyr:=Zhd n ys
 have hge:∀ ρ,(∀ (i b:Nat),(ys.map (·.2))[i]?=some b->ρ b 0=some (1+i,0))->ZW ρ (ZaV n ys)=ZY n 1 (ys.map (·.1)):=fun ρ h=>Zgu n ρ ys 1 h
 generalize ys.map (·.2)=bs at *
 have gd:∀ {t:Nat} {x:Zq},σ[t]?=some x->σ.getD t .free=x:=fun h=>by rw [Xn,h];rfl
 have hXb:∀ (i b:Nat),bs[i]?=some b->∃ X,σ[b]?=some (.row 0 1 X):=fun i b h=>by
  have hi:i < Xs.length:=by have:=(Xf.1 h).1;omega
  exact ⟨_,hX i b _ h (Xz hi)⟩
 have hVb:∀ (i v:Nat),vs[i]?=some v->∃ V,σ[v]?=some V/\ZcA V:=fun i v h=>by
  have hi:i < Vs.length:=by have:=(Xf.1 h).1;omega
  exact ⟨_,hV i v _ h (Xz hi)⟩
 obtain ⟨na,nbv⟩:=Wc.1 hnd
 obtain ⟨nb,nv,ndis⟩:=WJ.1 nbv
 have hre:Zm 0 rs σ=a::(bs++vs):=by
  unfold Zm
  rw [hr,show (List.range 0:List Nat)=[] from rfl,List.flatMap_nil,X2]
  rw [show (1000:Nat)=999+1 from rfl,Zf]
  simp only [XF,Xu,if_false,gd ha,Zp,hyr,XI]
  rw [Zf3 σ bs vs [a] (999 - bs.length) 999 (by omega) (fun t ht=>by
   obtain ⟨i,hi⟩:=WA.1 ht
   obtain ⟨X,hX⟩:=hXb i t hi
   rw [gd hX];rfl) nb (fun t ht hm=>by
   rw [XU] at hm
   subst hm
   exact na (List.mem_append_left _ ht))]
  have:=Zf3 σ vs [] ([a]++bs) (999 - bs.length - vs.length) (999 - bs.length) (by omega) (fun t ht=>by
   obtain ⟨i,hi⟩:=WA.1 ht
   obtain ⟨V,hV,hs⟩:=hVb i t hi
   rw [gd hV];exact hs.1) nv (fun t ht hm=>by
   rcases XG.1 hm with hm | hm
   ·rw [XU] at hm
    subst hm
    exact na (List.mem_append_right _ ht)
   ·exact ndis t hm t ht rfl)
  rw [X2] at this
  rw [this]
  obtain ⟨F,hF⟩:∃ F,999 - bs.length - vs.length=F+1:=⟨999 - bs.length - vs.length - 1,by omega⟩
  rw [hF,Zf]
  simp
 have ix:∀ (j t:Nat),(a::(bs++vs))[j]?=some t->Zk t (a::(bs++vs)) 0=some j:=fun j t h=>by
  have:=Zf8 (a::(bs++vs)) [] 0 j t hnd h
  rw [X2,XK] at this
  exact this
 unfold gcA
 rw [hre]
 have rho:∀ (j t:Nat) (x:Zq),(a::(bs++vs))[j]?=some t->σ[t]?=some x->Zc x=0->x≠.free->Zd σ 0 (a::(bs++vs)) t 0=some (j,0):=by
  intro j t x h hx hg hf
  unfold Zd
  rw [ix j t h]
  simp only [hx]
  have hn:Zl 0 j x=0:=by simp [Zl]
  cases x <;> first | exact absurd rfl hf | (simp only [hg,if_true,hn])
 have ra:Zd σ 0 (a::(bs++vs)) a 0=some (0,0):=rho 0 a _ rfl ha rfl (by simp)
 have rb:∀ (i b:Nat),bs[i]?=some b->Zd σ 0 (a::(bs++vs)) b 0=some (1+i,0):=fun i b h=>by
  obtain ⟨X,hX⟩:=hXb i b h
  refine rho (1+i) b _ ?_ hX rfl (by simp)
  rw [W6 1 i,XC,Wf (Xf.1 h).1]
  exact h
 have rv:∀ (i v:Nat),vs[i]?=some v->Zd σ 0 (a::(bs++vs)) v 0=some (1+ys.length+i,0):=fun i v h=>by
  obtain ⟨V,hV,hs⟩:=hVb i v h
  refine rho (1+ys.length+i) v _ ?_ hV hs.2.2.1 hs.2.2.2
  rw [show 1+ys.length+i=(ys.length+i)+1 by omega,XC,Wo (by omega)]
  rw [show ys.length+i - bs.length=i by omega]
  exact h
 rw [hren _ ra rv]
 congr 1
 rw [Ze,ZkP,gd ha]
 have e1:Zg (Zd σ 0 (a::(bs++vs))) (Zl 0 0 (.rrow 0 15 (ZaV n ys))) (.rrow 0 15 (ZaV n ys))=.rrow 0 15 (ZY n 1 (ys.map (·.1))):=by
  have : Zl 0 0 (.rrow 0 15 (ZaV n ys))=0:=rfl
  rw [this]
  simp only [Zg,hge _ rb]
 rw [e1,ZuC bs (Xs.map fun X=>Zq.row 0 1 X) _ (by simp;omega) (fun i b B hb hB=>by
  rw [XY] at hB
  cases hXi:Xs[i]? with
  | none=>rw [hXi] at hB;cases hB
  | some X =>
   rw [hXi] at hB
   injection hB with hB;subst hB
   exact ⟨gd (hX i b X hb hXi),ZCL X⟩),ZuC vs Vs _ (by omega) (fun i v V hv hV'=>by
  obtain ⟨h1,h2⟩:=hV i v V hv hV'
  exact ⟨gd h1,h2⟩)]
 rfl
end
section
theorem Zwz:∀ (k:Nat) (A:Za),ZcJ (A++Xr k .free) A.length k=true
 | 0,A=>rfl
 | k+1,A=>by
  have ih:=Zwz k (A++[Zq.free])
  rw [Wt,List.singleton_append,<-WC,XE,XM] at ih
  rw [ZcJ,ih,Bool.and_true]
  unfold freeAt
  rw [Wo (X0 _),Xas,WC,XN]
theorem Zv8 {σ0:Za} {sq:Nat} {X:List AVal}:∀ (k j K:Nat) (A:Za),A.length=sq+j->k<=K->Za9 σ0 [] sq (Xr k (.row 0 1 X)) j (A++Xr K .free)=A++Xr k (.row 0 1 X)++Xr (K - k) .free
 | 0,j,K,A,_,_=>by simp [Za9]
 | k+1,j,K,A,hA,hk=>by
  obtain ⟨K',rfl⟩:∃ K',K=K'+1:=⟨K - 1,by omega⟩
  rw [WC,Za9]
  have e1:ZaY [] sq j=A.length:=by simp [ZaY,hA]
  have e2:ZbB σ0 [] j (.row 0 1 X)=0:=rfl
  rw [e1,e2]
  have e3:(A++Xr (K'+1) Zq.free).set A.length (Zg (Za8 σ0 [] sq) 0 (.row 0 1 X))=(A++[Zq.row 0 1 X])++Xr K' .free:=by
   rw [Xaz _ _ (X0 _),Xas,WC,W7,Wt];rfl
  rw [e3,Zv8 k (j+1) K' (A++[Zq.row 0 1 X]) (by simp;omega) (by omega)]
  simp
theorem Zwq {σ:Za} {X:List AVal}:∀ (k j:Nat),ZbI σ [] (Xr k (.row 0 1 X)) j=true
 | 0,_=>rfl
 | k+1,j=>by
  rw [WC,ZbI,Zwq k (j+1)]
  rfl
theorem ZAl (n:ZU) (P:Grp) (sq:Nat) (σ:Za):ZW (Za8 σ [] sq) (ZY n 1 P)=ZY n (sq+1) P:=by
 have:=Zgu n (Za8 σ [] sq) (P.zipIdx 1) (sq+1) (fun i b hb=>by
  rw [Zek] at hb
  have hi:i < P.length:=by have:=(Xf.1 hb).1;simpa using this
  rw [Wg hi] at hb
  injection hb with hb
  subst hb
  simp [Za8];omega)
 rwa [ZfM] at this
section
variable (n:ZU) (hn:Zc2 n) (H:List Zaa) (hH:H.length<=30) (A:Za) (a:Nat) (ha:A[a]?=some (.row 0 7 (H.map ZA)))
include hn hH ha
theorem Zwv:BY 8=false/\showAs (A++Xr 31 .free) [.agg [.str n.topic,.lst false (n.payload.map Zn),.int .i64 n.qos,.bool n.retain,.str n.sender,.int .i64 n.expires,.lst false (n.props.map Zb),.int .i64 n.origin,.int .i64 n.number,.int .i64 n.hops],.sl a 0 0 H.length]=some ([.agg [.str n.topic,.lst false (n.payload.map Zn),.int .i64 n.qos,.bool n.retain,.str n.sender,.int .i64 n.expires,.lst false (n.props.map Zb),.int .i64 n.origin,.int .i64 n.number,.int .i64 n.hops],.lst false (H.map ZA)],[a])/\ZV (A++Xr 31 .free) [a]=A.set a (.frow 0 7 (H.map ZA))++Xr 31 .free:=by
 have hal:a < A.length:=(Xf.1 ha).1
 have hs:(A++Xr 31 .free)[a]?=some (.row 0 7 (H.map ZA)):=by rw [Wf hal];exact ha
 have hl:(H.map ZA).length=H.length:=XL ..
 refine ⟨by kernel_rfl,?_,?_⟩
 ·clear hn
  generalize A++Xr 31 Zq.free=B at *
  generalize H.map ZA=S at *
  rw [<-hl]
  simp [showAs,showA,ZcX,Zc4,Zo,hs]
 ·simp only [ZV,hs]
  rw [List.set_append_left _ _ hal]
theorem ZBX (hP:0 < (Zaw n H).length) (hPl:(Zaw n H).length<=30):Z4 EP BY (A++Xr 31 .free) A.length 8 31 false [.agg [.str n.topic,.lst false (n.payload.map Zn),.int .i64 n.qos,.bool n.retain,.str n.sender,.int .i64 n.expires,.lst false (n.props.map Zb),.int .i64 n.origin,.int .i64 n.number,.int .i64 n.hops],.sl a 0 0 H.length]=some (.sl A.length 0 0 (Zaw n H).length,A.set a (.frow 0 7 (H.map ZA))++(.rrow 0 15 (ZY n (A.length+1) (Zaw n H))::(Z2 n (Zaw n H).length++Xr (30 - (Zaw n H).length) .free)),{ any:=true }):=by
 obtain ⟨hb,hsh,hfz⟩:=Zwv n hn H hH A a ha
 have hq:=Zlz n hn H (by omega)
 rw [ZlZ n hP] at hq
 have hbk:=ZAl n (Zaw n H) A.length
 generalize Zaw n H=P at *
 unfold Z4 ZcZ
 rw [hb]
 simp only [Xu,if_false,hsh,hfz]
 rw [show ZZ [.agg [.str n.topic,.lst false (n.payload.map Zn),.int .i64 n.qos,.bool n.retain,.str n.sender,.int .i64 n.expires,.lst false (n.props.map Zb),.int .i64 n.origin,.int .i64 n.number,.int .i64 n.hops],AVal.lst false (H.map ZA)]=[] from rfl]
 have hre:∀ σ:Za,Zf σ 1000 [] []=[]:=fun _=>rfl
 rw [hre]
 unfold Zck
 rw [if_pos (by rfl)]
 generalize hF:A.set a (.frow 0 7 (H.map ZA))=F at *
 have hFl:F.length=A.length:=by rw [<-hF,Xaf]
 have hv:ZW (Zd (F++Xr 31 .free) 0 []) [.agg [.str n.topic,.lst false (n.payload.map Zn),.int .i64 n.qos,.bool n.retain,.str n.sender,.int .i64 n.expires,.lst false (n.props.map Zb),.int .i64 n.origin,.int .i64 n.number,.int .i64 n.hops],AVal.lst false (H.map ZA)]=[Za7 n,.lst false (H.map ZA)]:=rfl
 have hh:∀ ρ:Rho,Ze (F++Xr 31 .free) 0 [] ρ [] 0=[]:=fun _=>rfl
 rw [hv,hh,hq]
 simp only [ZaC,Xu,if_false,ZaP,Xab,XaG,Bool.and_false]
 have hc:Ze5 31 (.sl 0 0 0 P.length) (.rrow 0 15 (ZY n 1 P)::Z2 n P.length)=none:=by
  unfold Ze5
  rfl
 have hk:ZbI (F++Xr 31 .free) [] (.rrow 0 15 (ZY n 1 P)::Z2 n P.length) 0=true:=by
  unfold ZbI
  rw [show Z2 n P.length=Xr P.length (.row 0 1 (n.payload.map Zn)) from rfl,Zwq]
  rfl
 have hff:ZcJ (F++Xr 31 .free) A.length 31=true:=by rw [<-hFl];exact Zwz 31 F
 have hlen:(Zq.rrow 0 15 (ZY n 1 P)::Z2 n P.length).length=P.length+1:=by rw [Xq,Zkh]
 have hl:Za9 (F++Xr 31 .free) [] A.length (.rrow 0 15 (ZY n 1 P)::Z2 n P.length) 0 (F++Xr 31 .free)=F++(.rrow 0 15 (ZY n (A.length+1) P)::(Z2 n P.length++Xr (30 - P.length) .free)):=by
  rw [Za9]
  have e1:ZaY [] A.length 0=F.length:=by simp [ZaY,hFl]
  have e2:ZbB (F++Xr 31 .free) [] 0 (.rrow 0 15 (ZY n 1 P))=0:=rfl
  rw [e1,e2]
  simp only [Zg,hbk]
  have e3:(F++Xr 31 Zq.free).set F.length (.rrow 0 15 (ZY n (A.length+1) P))=(F++[Zq.rrow 0 15 (ZY n (A.length+1) P)])++Xr 30 .free:=by
   rw [Xaz _ _ (X0 _),Xas,show (31:Nat)=30+1 from rfl,WC,W7,Wt];rfl
  rw [e3]
  show Za9 (F++Xr 31 .free) [] A.length (Xr P.length (.row 0 1 (n.payload.map Zn))) 1 _=_
  rw [Zv8 P.length 1 30 (F++[Zq.rrow 0 15 (ZY n (A.length+1) P)]) (by simp [hFl]) hPl]
  simp [Z2]
 rw [hc,hl,hk,hff,hlen]
 simp [Zs,Za8,Zct,hPl]
theorem ZBD (hP:Zaw n H=[]):∃ (σ':Za) (c:Cls),Z4 EP BY (A++Xr 31 .free) A.length 8 31 false [.agg [.str n.topic,.lst false (n.payload.map Zn),.int .i64 n.qos,.bool n.retain,.str n.sender,.int .i64 n.expires,.lst false (n.props.map Zb),.int .i64 n.origin,.int .i64 n.number,.int .i64 n.hops],.sl a 0 0 H.length]=some (.lst true [],σ',c)/\(σ'=A++Xr 31 .free\/σ'=A.set a (.frow 0 7 (H.map ZA))++Xr 31 .free):=by
 obtain ⟨hb,hsh,hfz⟩:=Zwv n hn H hH A a ha
 have hq:=Zlz n hn H (by omega)
 rw [hP] at hq
 unfold Z4 ZcZ
 rw [hb]
 simp only [Xu,if_false,hsh,hfz]
 rw [show ZZ [.agg [.str n.topic,.lst false (n.payload.map Zn),.int .i64 n.qos,.bool n.retain,.str n.sender,.int .i64 n.expires,.lst false (n.props.map Zb),.int .i64 n.origin,.int .i64 n.number,.int .i64 n.hops],AVal.lst false (H.map ZA)]=[] from rfl]
 have hre:∀ σ:Za,Zf σ 1000 [] []=[]:=fun _=>rfl
 rw [hre]
 unfold Zck
 rw [if_pos (by rfl)]
 generalize hF:A.set a (.frow 0 7 (H.map ZA))=F at *
 have hv:ZW (Zd (F++Xr 31 .free) 0 []) [.agg [.str n.topic,.lst false (n.payload.map Zn),.int .i64 n.qos,.bool n.retain,.str n.sender,.int .i64 n.expires,.lst false (n.props.map Zb),.int .i64 n.origin,.int .i64 n.number,.int .i64 n.hops],AVal.lst false (H.map ZA)]=[Za7 n,.lst false (H.map ZA)]:=rfl
 have hh:∀ ρ:Rho,Ze (F++Xr 31 .free) 0 [] ρ [] 0=[]:=fun _=>rfl
 rw [hv,hh,hq]
 unfold Zjz
 simp only [ZaC,Xu,if_false,ZaP,Xab,WX,if_true,Zbg,Zba,Za5]
 split
 ·exact ⟨_,_,rfl,XH rfl⟩
 ·exact ⟨_,_,rfl,XO rfl⟩
end
end
section
theorem Zjc {l:List Int} (h:l.Pairwise (·<=·)):ZcN l=l:=by
 unfold ZcN
 have ht:∀ a b c:Int,decide (a<=b)=true->decide (b<=c)=true->decide (a<=c)=true:=by intro a b c;simp only [decide_eq_true_eq];omega
 have hto:∀ a b:Int,(decide (a<=b) || decide (b<=a))=true:=by intro a b;simp only [Bool.or_eq_true,decide_eq_true_eq];omega
 refine (List.mergeSort_perm l _).eq_of_pairwise (le:=fun a b:Int=>decide (a<=b)=true) (fun a b _ _ h1 h2=>by simp only [decide_eq_true_eq] at h1 h2;omega) (List.pairwise_mergeSort ht hto l) (h.imp fun h=>by simpa using h)
def ZcQ (n:ZU) (s:Z5) (sh:Zt):Zcs:=⟨n,Zcv n.qos s.qos,n.retain && s.asPublished,if s.id == 0 then [] else [s.id],sh⟩
theorem ZCC (n:ZU) (s:Z5):byI n [s]={ ZcQ n s [] with qos:=Zcv n.qos (ZdX s.qos s.qos) }:=by
 unfold byI ZcQ byQ byK Zgb ZcB
 have e:(List.filter (fun s:Z5=>s.id != 0) [s]).map (·.id)=if s.id == 0 then [] else [s.id]:=by
  simp only [Xbe,List.filter_nil,bne]
  cases s.id == 0 <;> simp
 rw [e]
 have e2:ZcN (if s.id == 0 then [] else [s.id])=if s.id == 0 then [] else [s.id]:=by
  split
  ·exact Zjc (by simp)
  ·exact Zjc (by simp)
 rw [e2]
 simp only [Xw,XS,Xbn,Xag,List.foldl_nil,Xu,if_false]
 cases n.retain <;> simp
theorem ZDJ (n:ZU) (hn:Zc2 n) (s:Z5) (f:Bool) (σ:Za) (sq own:Nat):Z4 EP BY σ sq 22 own true [.agg [.str n.topic,.lst false (n.payload.map Zn),.int .i64 n.qos,.bool n.retain,.str n.sender,.int .i64 n.expires,.lst false (n.props.map Zb),.int .i64 n.origin,.int .i64 n.number,.int .i64 n.hops],.lst f [Zas s]]=some (ZbJ (byI n [s]),σ,{}):=by
 have hpl:[.agg [.str n.topic,.lst false (n.payload.map Zn),.int .i64 n.qos,.bool n.retain,.str n.sender,.int .i64 n.expires,.lst false (n.props.map Zb),.int .i64 n.origin,.int .i64 n.number,.int .i64 n.hops],AVal.lst f [Zas s]].all ZaO=true:=by cases f <;> rfl
 rw [Zdr (by kernel_rfl) hpl]
 simp only [Xw,XS,Zal,ZaZ]
 have h:=Zwh n hn s [] (by simp)
 rw [<-ZEo] at h
 unfold Za7 ZX Zh Zi at h
 rw [Xw,XS] at h
 rw [h]
 have hpay:n.payload=(byI n [s]).note.payload:=rfl
 have : ZaC true 0 (some (.agg (Zdh (byI n [s]) 0),[.row 0 1 (n.payload.map Zn)]))=some (ZbJ (byI n [s]),[]):=by
  rw [hpay]
  generalize byI n [s]=it
  unfold Zdh ZbJ Zbl Zh Zi Zr
  have e:(it.note.payload.map Zn).length=it.note.payload.length:=XL ..
  generalize it.note.payload.map Zn=L at *
  rw [<-e]
  simp [ZaC,ZcO,viewR,Zao,Zag,Zad,Zo,ZV,gcA,Zm,Zf,ZZ,Z6,Zd,Ze,Zk,ZW,Zs]
 rw [this]
 generalize byI n [s]=it
 simp [ZaP,ZbJ,Zbl,Zh,Zi,Zr,Zbg,Zba,Za5,Zdi,Zs,ZW]
theorem ZAn (n:ZU) (hn:Zc2 n) (sh:Zt) (s:Z5):EP 14 [Za7 n,.str sh,Zas s] []=some (ZbJ (ZcQ n s sh),[]):=by
 have hC:=fun f σ sq own=>ZDJ n hn s f σ sq own
 rw [ZCC] at hC
 unfold ZcQ ZbJ Zbl Zh Zi Zr at *
 unfold Zas Za7 ZX Zh Zi Zcv at *
 generalize n.payload.map Zn=L1 at *
 generalize n.props.map Zb=L2 at *
 rw [ZhA (by rfl) ZDB]
 cases hid:(s.id == 0) <;> rw [hid] at hC
 all_goals
  simp only [Xu,if_false,if_true,Xw,XS] at hC ⊢
  simp -implicitDefEqProofs only [EQA,ZE,ZB,ZG,ZC,ZF,ZD,ZP,ZS,ZQ,ZN,ZL,ZM,ZO,ZT,ZR,implies_true,forall_const,Xk,Xl,Xo,Xe,Xg,Xm,Xj,ZH,ZK,unA,Zu,Zz,unG,reduceCtorEq,Zo,decide_eq_true_eq,Xh,Xc,ite_self,↓reduceIte,Zy,ZI,gcT,gcA,Zm,Zf,Zd,Ze,Zk,Zc,Zl,Zg,Zp,Xd,ZEF,ZqF,ZBI,Zr,Zh,Zi,Zb,Zx,ZJ,hC,Zae,Zbi,AVal.cells,Z1,Xi,Xp,Zap,Zat,ZaU,Zav,XZ,X3,Xi,Xp,Xq,Xy,ZaD,ZaE,ZaI,ZaJ,ZaL,XA,XD,Zaf,Zai,Zak,Zau,ZaA,Zaz,ZaH,ZaM,Zaq,ZaK,XJ,XR,Xi,Xp,XF,Zaj,kOk,viewAs,Zao,Zad,Zag,ZV,XM,Wj,ZaG,ZdD,Wh,WL,Wi,WF]
def ZsF (it:Zcs) (r:Bool):AVal:=.agg [.str it.note.topic,Zh it.note.payload,.int .i64 it.note.qos,.bool it.note.retain,.str it.note.sender,.int .i64 it.note.expires,Zi it.note.props,.int .i64 it.note.origin,.int .i64 it.note.number,.int .i64 it.note.hops,.int .i64 it.qos,.bool r,.lst true (it.ids.map (AVal.int .i64)),.str it.share]
theorem ZzT (n:ZU) (sh:Zt) (s:Z5):E 15 [Za7 n,.str sh,Zas s] []=some (ZsF (ZcQ n s sh) (n.retain && s.asPublished),[]):=by
 unfold ZsF ZcQ
 have hM:=fun σ sq own view=>Zyg σ sq own view n.qos s.qos
 have e:Zcv s.qos n.qos=Zcv n.qos s.qos:=by unfold Zcv;split <;> split <;> omega
 rw [e] at hM
 generalize Zcv n.qos s.qos=Q at *
 unfold Zas Za7 ZX Zh Zi at *
 generalize n.payload.map Zn=L1 at *
 generalize n.props.map Zb=L2 at *
 rw [ZcU (by rfl) ZCD]
 cases hrt:n.retain
 all_goals
  cases hid:(s.id == 0)
  all_goals
   simp only [Xu,if_false,if_true,Xw,XS,W3,W0]
   simp -implicitDefEqProofs only [EQA,ZE,ZB,ZG,ZC,ZF,ZD,ZP,ZS,ZQ,ZN,ZL,ZM,ZO,ZT,ZR,implies_true,forall_const,Xk,Xl,Xo,Xe,Xg,Xm,Xj,ZH,ZK,unA,Zu,Zz,unG,reduceCtorEq,Zo,decide_eq_true_eq,Xh,Xc,ite_self,↓reduceIte,Zy,ZI,gcT,gcA,Zm,Zf,Zd,Ze,Zk,Zc,Zl,Zg,Zp,Xd,ZDT,Ztb,ZCH,Zr,Zh,Zi,Zb,Zx,ZJ,hM,hid,bne,Bool.not_true,WG,Zae,Zbi,AVal.cells,Z1,Xi,Xp,Zap,Zat,ZaU,Zav,XZ,X3,Xi,Xp,Xq,Xy,ZaD,ZaE,ZaI,ZaJ,ZaL,XA,XD,Zaf,Zai,Zak,Zau,ZaA,Zaz,ZaH,ZaM,Zaq,ZaK,XJ,XR,Xi,Xp,XF,Zaj,kOk,viewAs,Zao,Zad,Zag,ZV,XM,Wj,ZaG,ZdD,Wh,WL,Wi,WF]
theorem ZxY (n:ZU) (hn:Zc2 n) (s:Z5) (sh:Zt) (σ:Za) (sq:Nat):Z4 EP BY σ sq 14 0 true [.agg [.str n.topic,.lst false (n.payload.map Zn),.int .i64 n.qos,.bool n.retain,.str n.sender,.int .i64 n.expires,.lst false (n.props.map Zb),.int .i64 n.origin,.int .i64 n.number,.int .i64 n.hops],.str sh,Zas s]=some (ZbJ (ZcQ n s sh),σ,{}):=by
 have hpl:[.agg [.str n.topic,.lst false (n.payload.map Zn),.int .i64 n.qos,.bool n.retain,.str n.sender,.int .i64 n.expires,.lst false (n.props.map Zb),.int .i64 n.origin,.int .i64 n.number,.int .i64 n.hops],AVal.str sh,Zas s].all ZaO=true:=rfl
 rw [Zdr (by kernel_rfl) hpl]
 simp only [Xw,XS,Zal,ZaZ]
 have h:=ZAn n hn sh s
 unfold Za7 ZX Zh Zi Zas at h
 unfold Zas
 simp only [Zal,ZaZ,Xw,XS] at h ⊢
 rw [h]
 generalize ZcQ n s sh=it
 unfold ZbJ Zbl Zh Zi Zr
 simp [ZaC,ZcO,viewR,Zao,Zag,Zad,Zo,ZV,gcA,Zm,Zf,ZZ,Z6,Zd,Ze,Zk,ZaP,Zbg,Zba,Za5,Zdi,Zs,ZW]
def Ze9 (n:ZU) (s:Z5):Zcs:={ ZcQ n s [] with retain:=true }
theorem ZEM (n:ZU) (hn:Zc2 n) (s:Z5):EP 16 [Za7 n,Zas s] []=some (ZbJ (Ze9 n s),[]):=by
 have hC:=fun σ sq=>ZxY n hn s [] σ sq
 unfold Ze9
 generalize ZcQ n s []=it at *
 unfold ZbJ Zbl Zh Zi Zr at *
 unfold Zas Za7 ZX Zh Zi at *
 generalize n.payload.map Zn=L1 at *
 generalize n.props.map Zb=L2 at *
 rw [ZhA (by rfl) ZBB]
 simp -implicitDefEqProofs only [EQA,ZE,ZB,ZG,ZC,ZF,ZD,ZP,ZS,ZQ,ZN,ZL,ZM,ZO,ZT,ZR,implies_true,forall_const,Xk,Xl,Xo,Xe,Xg,Xm,Xj,ZH,ZK,unA,Zu,Zz,unG,reduceCtorEq,Zo,decide_eq_true_eq,Xh,Xc,ite_self,↓reduceIte,Zy,ZI,gcT,gcA,Zm,Zf,Zd,Ze,Zk,Zc,Zl,Zg,Zp,Xd,ZFB,ZpZ,ZFz,Zr,Zh,Zi,Zb,Zx,ZJ,hC,Zae,Zbi,AVal.cells,Z1,Xi,Xp,Zap,Zat,ZaU,Zav,XZ,X3,Xi,Xp,Xq,Xy,ZaD,ZaE,ZaI,ZaJ,ZaL,XA,XD,Zaf,Zai,Zak,Zau,ZaA,Zaz,ZaH,ZaM,Zaq,ZaK,XJ,XR,Xi,Xp,XF,Zaj,kOk,viewAs,Zao,Zad,Zag,ZV,XM,Wj,ZaG,ZdD,Wh,WL,Wi,WF]
theorem Zyd (n:ZU) (s:Z5) (sh:Zt) (σ:Za) (sq:Nat):Z4 E BY σ sq 15 0 true [.agg [.str n.topic,.lst false (n.payload.map Zn),.int .i64 n.qos,.bool n.retain,.str n.sender,.int .i64 n.expires,.lst false (n.props.map Zb),.int .i64 n.origin,.int .i64 n.number,.int .i64 n.hops],.str sh,Zas s]=some (ZbJ (ZcQ n s sh),σ,{}):=by
 have hpl:[.agg [.str n.topic,.lst false (n.payload.map Zn),.int .i64 n.qos,.bool n.retain,.str n.sender,.int .i64 n.expires,.lst false (n.props.map Zb),.int .i64 n.origin,.int .i64 n.number,.int .i64 n.hops],AVal.str sh,Zas s].all ZaO=true:=rfl
 rw [Zdr (by kernel_rfl) hpl]
 simp only [Xw,XS,Zal,ZaZ]
 have h:=ZzT n sh s
 unfold Za7 ZX Zh Zi Zas at h
 unfold Zas
 simp only [Zal,ZaZ,Xw,XS] at h ⊢
 rw [h]
 have e:(n.retain && s.asPublished)=(ZcQ n s sh).retain:=rfl
 rw [e]
 generalize ZcQ n s sh=it
 unfold ZsF ZbJ Zbl Zh Zi Zr
 simp [ZaC,ZcO,viewR,Zao,Zag,Zad,Zo,ZV,gcA,Zm,Zf,ZZ,Z6,Zd,Ze,Zk,ZaP,Zbg,Zba,Za5,Zdi,Zs,ZW]
theorem ZAS (n:ZU) (s:Z5):E 17 [Za7 n,Zas s] []=some (ZbJ (Ze9 n s),[]):=by
 have hC:=fun σ sq=>Zyd n s [] σ sq
 unfold Ze9
 generalize ZcQ n s []=it at *
 unfold ZbJ Zbl Zh Zi Zr at *
 unfold Zas Za7 ZX Zh Zi at *
 generalize n.payload.map Zn=L1 at *
 generalize n.props.map Zb=L2 at *
 rw [ZcU (by rfl) ZCx]
 simp -implicitDefEqProofs only [EQA,ZE,ZB,ZG,ZC,ZF,ZD,ZP,ZS,ZQ,ZN,ZL,ZM,ZO,ZT,ZR,implies_true,forall_const,Xk,Xl,Xo,Xe,Xg,Xm,Xj,ZH,ZK,unA,Zu,Zz,unG,reduceCtorEq,Zo,decide_eq_true_eq,Xh,Xc,ite_self,↓reduceIte,Zy,ZI,gcT,gcA,Zm,Zf,Zd,Ze,Zk,Zc,Zl,Zg,Zp,Xd,ZC5,Zly,ZBN,Zr,Zh,Zi,Zb,Zx,ZJ,hC,Zae,Zbi,AVal.cells,Z1,Xi,Xp,Zap,Zat,ZaU,Zav,XZ,X3,Xi,Xp,Xq,Xy,ZaD,ZaE,ZaI,ZaJ,ZaL,XA,XD,Zaf,Zai,Zak,Zau,ZaA,Zaz,ZaH,ZaM,Zaq,ZaK,XJ,XR,Xi,Xp,XF,Zaj,kOk,viewAs,Zao,Zad,Zag,ZV,XM,Wj,ZaG,ZdD,Wh,WL,Wi,WF]
end
section
theorem ZwM (y:Zt) (l:List Zt) (x:Zt):ZcW (y::l) x=if Op.bytesLess y x then y::ZcW l x else if y=x then y::l else x::y::l:=by
 unfold ZcW twS
 rw [List.takeWhile_cons]
 by_cases h:Op.bytesLess y x=true
 ·rw [if_pos h,if_pos h,Xq,XC,Wh,Wi]
  split <;> rfl
 ·rw [if_neg h,if_neg h]
  simp
theorem Zyt (l:List Zt) (x c:Zt):c ∈ ZcW l x↔c=x\/c ∈ l:=by
 induction l with
 | nil=>simp [ZcW,twS]
 | cons y l ih =>
  rw [ZwM]
  split
  ·rw [XP,ih,XP]
   constructor
   ·rintro (h | h | h)
    ·exact XO (XH h)
    ·exact XH h
    ·exact XO (XO h)
   ·rintro (h | h | h)
    ·exact XO (XH h)
    ·exact XH h
    ·exact XO (XO h)
  ·split
   ·rename_i e
    subst e
    rw [XP]
    constructor
    ·exact fun h=>XO h
    ·rintro (h | h)
     ·exact XH h
     ·exact h
   ·rw [XP]
theorem ZAv (l:List Zt) (x:Zt) (h:l.Pairwise (· < ·)):(ZcW l x).Pairwise (· < ·):=by
 induction l with
 | nil=>simp [ZcW,twS]
 | cons y l ih =>
  rw [Ws] at h
  rw [ZwM]
  split
  ·rename_i hy
   rw [bytesLess_eq,decide_eq_true_eq] at hy
   rw [Ws]
   refine ⟨fun c hc=>?_,ih h.2⟩
   rcases (Zyt l x c).1 hc with rfl | hc
   ·exact hy
   ·exact h.1 c hc
  ·rename_i hy
   split
   ·exact Ws.2 h
   ·rename_i hne
    rw [bytesLess_eq,decide_eq_true_eq] at hy
    have hxy:x < y:=by
     rcases Decidable.em (x < y) with h | h
     ·exact h
     ·exact absurd (Xbd (Xbu.1 h) (Xbu.1 hy)) hne
    rw [Ws]
    refine ⟨fun c hc=>?_,Ws.2 h⟩
    rcases XP.1 hc with rfl | hc
    ·exact hxy
    ·exact List.lt_trans hxy (h.1 c hc)
theorem Zx8 (n:ZU):∀ (hits:List Zaa) (L:List Zt),L.Pairwise (· < ·)->(ZcR n L hits).Pairwise (· < ·)
 | [],_,h=>h
 | x::r,L,h=>by
  show (ZcR n (if Zdn n x then ZcW L x.client else L) r).Pairwise (· < ·)
  refine Zx8 n r _ ?_
  split
  ·exact ZAv L _ h
  ·exact h
theorem Zx7 (n:ZU) (c:Zt):∀ (hits:List Zaa) (L:List Zt),c ∈ ZcR n L hits↔c ∈ L\/ZcE n c hits≠[]
 | [],L=>by simp [ZcR,ZcE]
 | x::r,L=>by
  show c ∈ ZcR n (if Zdn n x then ZcW L x.client else L) r↔_
  rw [Zx7 n c r,ZnU,<-Zwe]
  cases hw:Zdn n x
  ·simp
  ·simp only [if_true,Zyt,W3]
   by_cases e:x.client=c
   ·subst e;simp
   ·have e1:(x.client == c)=false:=by simpa using e
    have e2:¬c=x.client:=fun h=>e h.symm
    simp [e1,e2]
theorem ZCd (n:ZU) (hits:List Zaa):Zcy n hits=ZdG (Zf7 n hits):=by
 have hp:=Zx8 n hits [] (by simp)
 have hnd:(Zcy n hits).Nodup:=hp.imp fun {a b} h e=>by subst e;exact List.lt_irrefl _ h
 have hnd2:(ZdG (Zf7 n hits)).Nodup:=(Zej _).nodup_iff.2 (ZDi n hits)
 have hperm:(Zcy n hits).Perm (ZdG (Zf7 n hits)):=(List.perm_ext_iff_of_nodup hnd hnd2).2 fun c=>by
  rw [(Zej _).mem_iff,ZuM]
  unfold Zcy
  rw [Zx7]
  simp
 exact hperm.eq_of_pairwise (fun a b _ _ h1 h2=>Xbd h1 h2) (hp.imp fun {a b} h=>List.le_of_lt h) (Zuz _)
def Zd3 (a:Zfa) (s:Z5):Zfa:=⟨ZdX a.most s.qos,if a.keep then true else s.asPublished,if s.id == 0 then a.ids else ZcI a.ids s.id⟩
theorem ZwR (n:ZU) (c:Zt):∀ (hits:List Zaa) (a:Zfa),hits.foldl (Zep n c) a=(ZcE n c hits).foldl Zd3 a
 | [],_=>rfl
 | x::r,a=>by
  rw [Xag,ZwR n c r,ZnU]
  unfold Zep
  rw [Zwe,Bool.and_comm]
  by_cases h:(Zdt n x && x.client == c)=true
  ·rw [if_pos h,if_pos h,Xag];rfl
  ·rw [if_neg h,if_neg h]
theorem Zxk (l:List Int) (x:Int):(ZcI l x).Perm (x::l):=by
 unfold ZcI
 refine List.perm_middle.trans ?_
 rw [List.takeWhile_append_dropWhile]
theorem ZFM (l:List Int) (x:Int) (h:l.Pairwise (·<=·)):(ZcI l x).Pairwise (·<=·):=by
 induction l with
 | nil=>simp [ZcI]
 | cons y l ih =>
  rw [Ws] at h
  unfold ZcI at ih ⊢
  rw [List.takeWhile_cons,List.dropWhile_cons]
  by_cases hy:y<=x
  ·have hd:decide (y<=x)=true:=by simpa using hy
   rw [if_pos hd,if_pos hd,X1,Ws]
   refine ⟨fun c hc=>?_,ih h.2⟩
   rcases XP.1 ((Zxk l x).mem_iff.1 hc) with rfl | hc
   ·exact hy
   ·exact h.1 c hc
  ·have hd:¬decide (y<=x)=true:=by simpa using hy
   rw [if_neg hd,if_neg hd,XI,Ws]
   refine ⟨fun c hc=>?_,Ws.2 h⟩
   rcases XP.1 hc with rfl | hc
   ·omega
   ·have:=h.1 c hc;omega
theorem Zwc:∀ (l:List Z5) (a:Zfa),a.ids.Pairwise (·<=·)->(l.foldl Zd3 a).most=byQ a.most l/\(l.foldl Zd3 a).keep=(a.keep || l.any (·.asPublished))/\(l.foldl Zd3 a).ids.Pairwise (·<=·)/\(l.foldl Zd3 a).ids.Perm (ZcB l++a.ids)
 | [],a,h=>⟨rfl,by simp,h,by simp [ZcB]⟩
 | s::l,a,h=>by
  obtain ⟨h1,h2,h3,h4⟩:=Zwc l (Zd3 a s) (by
   unfold Zd3
   simp only
   split
   ·exact h
   ·exact ZFM _ _ h)
  refine ⟨h1,?_,h3,?_⟩
  ·rw [Xag,h2]
   unfold Zd3
   cases a.keep <;> simp
  ·rw [Xag]
   refine h4.trans ?_
   unfold Zd3 ZcB
   rw [Xbe]
   simp only [bne]
   cases hs:s.id == 0
   ·simp only [WG,if_true,Xw,Xu,if_false]
    refine (List.Perm.append_left _ (Zxk a.ids s.id)).trans ?_
    exact List.perm_middle
   ·simp
theorem ZFg (n:ZU) (hits:List Zaa) (c:Zt) (hc:ZcE n c hits≠[]) (hq:∀ h ∈ hits,0<=h.sub.qos):Zju n hits c=byI n (ZcE n c hits):=by
 unfold Zju ZeQ
 rw [ZwR]
 have hq':∀ s ∈ ZcE n c hits,0<=s.qos:=by
  intro s hs
  unfold ZcE at hs
  rw [XV] at hs
  obtain ⟨h,hh,rfl⟩:=hs
  exact hq h (List.mem_filter.1 hh).1
 generalize ZcE n c hits=l at *
 obtain ⟨h1,h2,h3,h4⟩:=Zwc l ⟨0,false,[]⟩ (by simp)
 have e1:Zcv (l.foldl Zd3 ⟨0,false,[]⟩).most n.qos=Zcv n.qos (byQ ((l.map (·.qos)).headD 0) l):=by
  rw [h1]
  obtain ⟨t1,s,t2,t3⟩:=ZAi hc
  obtain ⟨⟨b1,b2⟩,b3⟩:=ZlE l 0
  show Zcv (byQ 0 l) n.qos=Zcv n.qos (ZjY l)
  have : byQ 0 l=ZjY l:=by
   have b2s:=b2 s t2
   rcases b3 with b3 | ⟨u,b4,b5⟩
   ·have:=hq' s t2;omega
   ·have:=t1 u b4;omega
  rw [this]
  unfold Zcv
  split <;> split <;> omega
 have e2:(n.retain && (l.foldl Zd3 ⟨0,false,[]⟩).keep)=byK n false l:=by rw [h2,Zxi];simp
 have e3:(l.foldl Zd3 ⟨0,false,[]⟩).ids=ZcN (ZcB l):=by
  rw [X2] at h4
  rw [<-Zx1 h4,Zjc h3]
 unfold byI
 rw [e1,e2,e3]
theorem ZvW (n:ZU) (hits:List Zaa) (hq:∀ h ∈ hits,0<=h.sub.qos):(Zcy n hits).map (Zdl n hits)=(Zaw n hits).map (Zcx n):=by
 rw [ZCd,ZwD,List.map_map]
 apply List.map_congr_left
 intro c hc
 have hs:=(ZuM n hits c).1 ((Zej _).mem_iff.1 hc)
 unfold Zdl
 rw [ZFg n hits c hs hq]
 rfl
end
section
def wkN:ZU:=⟨[],[],2,false,[120],0,[],0,0,0⟩
def wkH:List Zaa:=[⟨[120],⟨[],0,true,false,0,0⟩⟩,⟨[121],⟨[],1,false,false,0,7⟩⟩,⟨[121],⟨[],0,false,false,0,3⟩⟩]
def wkS:List Z5:=[⟨[],1,false,false,0,7⟩,⟨[],0,false,false,0,3⟩]
def wkX:List AVal:=[.str [121],.str [],.sl 1 0 0 0,.int .i64 2,.bool false,.str [120],.int .i64 0,.lst false [],.int .i64 0,.int .i64 0,.int .i64 0,.int .i64 1,.bool false,.lst false [.int .i64 3,.int .i64 7],.str []]
theorem ZAO:Zjz wkN (Zaw wkN wkH)=(.sl 0 0 0 1,[.rrow 0 15 [.agg wkX],.row 0 1 []]):=by
 have : Zaw wkN wkH=[([121],wkS)]:=by
  unfold Zaw
  have : Zc6 wkN [] wkH=[([121],wkS)]:=by decide
  rw [this]
  unfold ZdO ZdG
  simp
 rw [this]
 have h:ZcN (ZcB wkS)=[3,7]:=by
  rw [show ZcB wkS=[7,3] by decide]
  rw [Zx1 (List.Perm.swap (3:Int) 7 []),Zjc (by simp)]
 have hb:byI wkN wkS=⟨wkN,1,false,[3,7],[]⟩:=by
  unfold byI
  rw [h]
  rfl
 rw [ZlZ wkN (by simp)]
 unfold ZY ZaV
 simp only [List.zipIdx_cons,List.zipIdx_nil,Xw,XS,Zby,hb]
 rfl
theorem ZD8:Z4 EP BY (Xr 31 .free) 0 8 31 false [.agg [.str [],.lst true [],.int .i64 2,.bool false,.str [120],.int .i64 0,.lst true [],.int .i64 0,.int .i64 0,.int .i64 0],.lst true (wkH.map ZA)]=some (.sl 0 0 0 1,.rrow 0 15 [.agg wkX]::.row 0 1 []::Xr 29 .free,{ any:=true }):=by
 have h:=Zlz wkN ⟨by decide,by decide,by simp [wkN]⟩ wkH (by decide)
 rw [ZAO] at h
 rw [Zdr (by kernel_rfl) (by rfl)]
 have e:[AVal.agg [.str [],.lst true [],.int .i64 2,.bool false,.str [120],.int .i64 0,.lst true [],.int .i64 0,.int .i64 0,.int .i64 0],.lst true (wkH.map ZA)].map Zal=[Za7 wkN,.lst false (wkH.map ZA)]:=by rfl
 rw [e,h]
 rfl
theorem ZA5:EP 9 [] []=some (.bool true,[]):=by
 have hP:=ZD8
 simp only [wkH,Xw,XS,ZA,wkX,List.reduceReplicate] at hP
 have i1:∀ (L:List AVal) (T:Za),ZaG (.rrow 0 15 L::T) 15 (.sl 0 0 0 1) (.int .i64 0)=some (.eref 0 0 0 0,.rrow 0 15 L::T,{ rd:=[0] }):=fun L T=>rfl
 have i2:∀ (σ:Za) (a b:AVal),a.cells.length=1->ZaG σ 1 (.lst false [a,b]) (.int .i64 0)=some (.iptr a.cells 0,σ,{}):=fun σ a b h=>by simp [ZaG,h]
 have n1:((1:Nat):Int)=1:=rfl
 have n2:((2:Nat):Int)=2:=rfl
 rw [ZhA (by rfl) ZEj]
 simp -implicitDefEqProofs only [EQA,ZE,ZB,ZG,ZC,ZF,ZD,ZP,ZS,ZQ,ZN,ZL,ZM,ZO,ZT,ZR,implies_true,forall_const,Xk,Xl,Xo,Xe,Xg,Xm,Xj,ZH,ZK,unA,Zu,Zz,unG,reduceCtorEq,Zo,decide_eq_true_eq,Xh,Xc,ite_self,↓reduceIte,Zy,ZI,gcT,gcA,Zm,Zf,Zd,Ze,Zk,Zc,Zl,Zg,Zp,Xd,ZFX,Zoi,ZAZ,Zr,Zh,Zi,Zb,Zx,ZJ,hP,i1,i2,n1,n2,Zae,Zbi,AVal.cells,Int.reduceBEq,Xq,Xy,Xk,Zaj,kOk,viewAs,Zao,Zad,Zag,ZV,XM,Wj]
theorem ZAa (σ:Za) (sq own:Nat) (view:Bool):Z4 EP BY σ sq 9 own view []=some (.bool true,σ,{}) :=
 ZfL ZA5 (by kernel_rfl) rfl rfl rfl (fun _=>rfl) σ sq own view
end
section
def ZCo:=xwP Zje ZbD rfl
def ZEm:=xwP Zjf ZbF rfl
def ZCq:=xwP Zj9 Zbx rfl
def Zy8:=xwP ZhZ Zbp rfl
def Zvv:=xwP Zhr ZbG rfl
def Zk0:=xwP Zhg Zbw rfl
def Zzj:=xwP ZfY ZbE rfl
def ZxP:=xwP Zho ZbA rfl
def Zax (N a:Nat):Tms:=[(9,.sl 0 0 0 N),(7,.ref a 0),(5,.ref (a+1) 0),(3,.ref (a+2) 0)]
theorem ZD7 (σ:Za) (N a i t L k:Nat) (Y X:List AVal) (w:Int) (cs1:List AVal) (x0 x1:AVal)
  (h0:σ[0]?=some (.rrow 0 15 Y)) (hY:Y[i]?=some (.agg (x0::x1::.sl t 0 0 L::cs1))) (ht:σ[t]?=some (.row 0 1 X)) (hX:X[k]?=some (.int .u8 w)) (hk:k < L) (hi:i < N) (hL:L<=1000000000000) :
  evC FC PRP BY 0 ZfY ((12,.int .i64 (k:Int))::(11,.int .i64 (i:Int))::Zax N a) σ=some (.normal,(12,.int .i64 ((k+1:Nat):Int))::(11,.int .i64 (i:Int))::Zax N a,σ.set t (.row 0 1 (X.set k (.int .u8 (IntKind.u8.wrap (w+1)))))):=by
 have ia:ZaG σ 15 (.sl 0 0 0 N) (.int .i64 (i:Int))=some (.eref 0 0 i 0,σ,{ rd:=[0] }):=by
  have e0:(0:Int)<=(i:Int):=by omega
  simp [ZaG,e0,hi,h0]
 have ib:ZaG σ 1 (.sl t 0 0 L) (.int .i64 (k:Int))=some (.eref t 0 k 0,σ,{ rd:=[t] }):=by
  have e0:(0:Int)<=(k:Int):=by omega
  simp [ZaG,e0,hk,ht]
 have h1:(k:Int) < (L:Int):=by omega
 have hw:IntKind.i64.wrap ((k:Int)+1)=((k+1:Nat):Int):=by rw [Zcm (by omega) (by omega)];rfl
 unfold Zax
 rw [Zzj]
 simp -implicitDefEqProofs only [EQA,ZE,ZB,ZG,ZC,ZF,ZD,ZP,ZS,ZQ,ZN,ZL,ZM,ZO,ZT,ZR,implies_true,forall_const,Xk,Xl,Xo,Xe,Xg,Xm,Xj,ZH,ZK,unA,Zu,Zz,unG,reduceCtorEq,Zo,decide_eq_true_eq,Xh,Xc,ite_self,↓reduceIte,Zy,ZI,gcT,gcA,Zm,Zf,Zd,Ze,Zk,Zc,Zl,Zg,Zp,Xd,ZbM,Zbv,Zce,Zcd,ZbD,Zb7,ZbF,Zci,ZbA,Zb9,Zbx,Zb5,ZbE,Zcb,Zbw,Zb1,Zbp,Zca,ZbG,Zr,Zh,Zi,Zb,Zx,ZJ,h1,hw,ia,ib,h0,hY,ht,hX,AVal.cells,Z1,Zag,Zao,Zad,ZdD,ZV,XF,Xi,Xp,XK,Zap,Zat,ZaU,Zav,XZ,X3,Xi,Xp,Xq,Xy,ZaD,ZaE,ZaI,ZaJ,ZaL,XA,XD,Zaf,Zai,Zak,Zau,ZaA,Zaz,ZaH,ZaM,Zaq,ZaK,XJ,XR,Xi,Xp,XF,Wh,WL,Wi,WF]
theorem ZDr (σ:Za) (N a i t L:Nat) (Y:List AVal) (cs1:List AVal) (x0 x1:AVal)
  (h0:σ[0]?=some (.rrow 0 15 Y)) (hY:Y[i]?=some (.agg (x0::x1::.sl t 0 0 L::cs1))) (hi:i < N) :
  evC FC PRP BY 0 ZfY ((12,.int .i64 (L:Int))::(11,.int .i64 (i:Int))::Zax N a) σ=some (.exit 4,(63,.bool false)::(12,.int .i64 (L:Int))::(11,.int .i64 (i:Int))::Zax N a,σ):=by
 have ia:ZaG σ 15 (.sl 0 0 0 N) (.int .i64 (i:Int))=some (.eref 0 0 i 0,σ,{ rd:=[0] }):=by
  have e0:(0:Int)<=(i:Int):=by omega
  simp [ZaG,e0,hi,h0]
 have h1:¬(L:Int) < (L:Int):=by omega
 unfold Zax
 rw [Zzj]
 simp -implicitDefEqProofs only [EQA,ZE,ZB,ZG,ZC,ZF,ZD,ZP,ZS,ZQ,ZN,ZL,ZM,ZO,ZT,ZR,implies_true,forall_const,Xk,Xl,Xo,Xe,Xg,Xm,Xj,ZH,ZK,unA,Zu,Zz,unG,reduceCtorEq,Zo,decide_eq_true_eq,Xh,Xc,ite_self,↓reduceIte,Zy,ZI,gcT,gcA,Zm,Zf,Zd,Ze,Zk,Zc,Zl,Zg,Zp,Xd,ZbM,Zbv,Zce,Zcd,ZbD,Zb7,ZbF,Zci,ZbA,Zb9,Zbx,Zb5,ZbE,Zcb,Zbw,Zb1,Zbp,Zca,ZbG,Zr,Zh,Zi,Zb,Zx,ZJ,h1,ia,h0,hY,AVal.cells,Z1,Xi,Xp,XK,Zap,Zat,ZaU,Zav,XZ,X3,Xi,Xp,Xq,Xy,ZaD,ZaE,ZaI,ZaJ,ZaL,XA,XD,Zaf,Zai,Zak,Zau,ZaA,Zaz,ZaH,ZaM,Zaq,ZaK,XJ,XR,Xi,Xp,XF,Wh,WL,Wi,WF]
theorem Zs1 (n:ZU) (P:Grp) (Xs:List (List AVal)) (V:Za) (hXl:Xs.length=P.length) (hP:P.length<=30) (hV:V.length=3) (hs:∀ x ∈ V,ZcA x) {rs:List AVal} (hr:ZZ rs=[0,P.length+1,P.length+2,P.length+3])
  (hn:∀ ρ:Rho,ρ 0 0=some (0,0)->ρ (P.length+1) 0=some (P.length+1,0)->ρ (P.length+2) 0=some (P.length+2,0)->ρ (P.length+3) 0=some (P.length+3,0)->ZW ρ rs=rs):gcA 0 rs (ZaX n P Xs V)=(rs,ZaX n P Xs V):=by
 have h1:(P.zipIdx 1).map (·.2)=XT 1 P.length:=Zek ..
 have h2:(P.zipIdx 1).map (·.1)=P:=ZfM ..
 have hl:(P.zipIdx 1).length=P.length:=Xa7 ..
 have key:=ZkC (n:=n) (ys:=P.zipIdx 1) (σ:=ZaX n P Xs V) (a:=0) (vs:=[P.length+1,P.length+2,P.length+3]) (Xs:=Xs) (Vs:=V) (rs:=rs) (rs':=rs) hr rfl
 rw [h1,h2,hl] at key
 refine key ?_ hXl hV ?_ ?_ (by omega) (by simp) ?_
 ·rw [Wc]
  refine ⟨by simp [X6],?_⟩
  rw [WJ]
  refine ⟨WS,by simp,?_⟩
  intro x hx y hy e
  subst e
  rw [X6] at hx
  simp at hy
  omega
 ·intro i b X hb hX
  have hi:i < P.length:=by have:=(Xf.1 hX).1;omega
  rw [Wg hi] at hb
  injection hb with hb
  subst hb
  rw [show 1+1*i=i+1 by omega]
  exact ZhR n P V hX
 ·intro i v x hv hx
  refine ⟨Ze3 n P Xs hx ?_,hs x (Xx hx)⟩
  have hi:i < 3:=by have:=(Xf.1 hx).1;omega
  rcases i with _ | _ | _ | i
  ·injection hv with hv;omega
  ·injection hv with hv;omega
  ·injection hv with hv;omega
  ·omega
 ·intro ρ r0 rv
  refine hn ρ r0 ?_ ?_ ?_
  ·rw [rv 0 _ rfl];congr 2;omega
  ·rw [rv 1 _ rfl];congr 2;omega
  ·rw [rv 2 _ rfl];congr 2;omega
def ZfE (X:List AVal):Prop:=∀ v ∈ X,∃ z:Int,v=.int .u8 z
theorem ZBx {X:List AVal} (h:ZfE X) (k:Nat) (z:Int):ZfE (X.set k (.int .u8 z)):=by
 intro v hv
 rcases We hv with hv | rfl
 ·exact h v hv
 ·exact ⟨z,rfl⟩
theorem Zwu (n:ZU) {P:Grp} {i:Nat} {p:Zt×List Z5} (h:P[i]?=some p):∃ cs,(ZY n 1 P)[i]?=some (.agg (.str p.1::.str n.topic::.sl (i+1) 0 0 n.payload.length::cs)):=by
 rw [Zug n 1 h,W6 1 i]
 exact ⟨_,rfl⟩
theorem Zzu (n:ZU) (P:Grp) (V:Za) (hP:P.length<=30) (hV:V.length=3) (hs:∀ x ∈ V,ZcA x) (hL:n.payload.length<=1000000000000) (i:Nat) (hi:i < P.length):∀ (j k:Nat) (Xs:List (List AVal)),Xs.length=P.length->(∀ X ∈ Xs,ZfE X/\X.length=n.payload.length)->k+j=n.payload.length ->
  ∃ Xs':List (List AVal),Xs'.length=P.length/\(∀ X ∈ Xs',ZfE X/\X.length=n.payload.length)/\(∀ i',i'≠i->Xs'[i']?=Xs[i']?) /\
  evL FC PRP BY 0 [12,11,9,7,5,3] ZfY ((12,.int .i64 (k:Int))::(11,.int .i64 (i:Int))::Zax P.length (P.length+1)) (ZaX n P Xs V)=some (.exit 4,(63,.bool false)::(12,.int .i64 (n.payload.length:Int))::(11,.int .i64 (i:Int))::Zax P.length (P.length+1),ZaX n P Xs' V)
 | 0,k,Xs,hXl,hX,hk=>by
  obtain rfl:k=n.payload.length:=by omega
  obtain ⟨cs,hY⟩:=Zwu n (Xz hi)
  exact ⟨Xs,hXl,hX,fun _ _=>rfl,Zfw (ZDr _ P.length (P.length+1) i (i+1) n.payload.length (ZY n 1 P) cs _ _ rfl hY hi)⟩
 | j+1,k,Xs,hXl,hX,hk=>by
  obtain ⟨cs,hY⟩:=Zwu n (Xz hi)
  have hXi:Xs[i]?=some Xs[i]:=Xz (by omega)
  obtain ⟨hB,hXL⟩:=hX _ (Xx hXi)
  generalize Xs[i]=X at *
  have hkX:X[k]?=some X[k]:=Xz (by omega)
  obtain ⟨z,hz⟩:=hB _ (Xx hkX)
  rw [hz] at hkX
  have hr:=ZD7 (ZaX n P Xs V) P.length (P.length+1) i (i+1) n.payload.length k (ZY n 1 P) X z cs _ _ rfl hY (ZhR n P V hXi) hkX (by omega) hi hL
  rw [ZDh n P Xs V _ (by omega)] at hr
  generalize hX':X.set k (.int .u8 (IntKind.u8.wrap (z+1)))=X' at *
  have hl':(Xs.set i X').length=P.length:=by rw [Xaf];exact hXl
  have hB':∀ A ∈ Xs.set i X',ZfE A/\A.length=n.payload.length:=by
   intro A hA
   rcases We hA with hA | rfl
   ·exact hX A hA
   ·rw [<-hX']
    exact ⟨ZBx hB _ _,by rw [Xaf];exact hXL⟩
  obtain ⟨Xs',g1,g2,g3,g4⟩:=Zzu n P V hP hV hs hL i hi j (k+1) (Xs.set i X') hl' hB' (by omega)
  refine ⟨Xs',g1,g2,fun i' hne=>by rw [g3 i' hne,List.getElem?_set_ne (fun e=>hne e.symm)],?_⟩
  rw [ZgK hr]
  rw [show keepL [12,11,9,7,5,3] ((12,AVal.int .i64 ((k+1:Nat):Int))::(11,.int .i64 (i:Int))::Zax P.length (P.length+1))=((12,AVal.int .i64 ((k+1:Nat):Int))::(11,.int .i64 (i:Int))::Zax P.length (P.length+1)) from rfl]
  rw [ZgN (Zs1 n P (Xs.set i X') V hl' hP hV hs (by rfl) (fun ρ r0 r1 r2 r3=>by unfold Zax;simp only [Xw,XS,ZW,Zs,r0,r1,r2,r3]))]
  exact g4
end
section
def ZjZ (n:ZU) (b:Nat):AVal:=.agg [.str n.topic,.sl b 0 0 n.payload.length,.int .i64 n.qos,.bool n.retain,.str n.sender,.int .i64 n.expires,.lst false (n.props.map Zb),.int .i64 n.origin,.int .i64 n.number,.int .i64 n.hops]
theorem ZE0 {σ:Za} {n:ZU} {b:Nat} (hs:σ[b]?=some (.row 0 1 (n.payload.map Zn))) (h1:n.props.length<=9223372036854775807) (sq own:Nat):Z4 EP BY σ sq 13 own true [ZjZ n b,.agg [.str n.topic,.lst false (n.payload.map Zn),.int .i64 n.qos,.bool n.retain,.str n.sender,.int .i64 n.expires,.lst false (n.props.map Zb),.int .i64 n.origin,.int .i64 n.number,.int .i64 n.hops]]=some (.bool true,σ,{ rd:=[b] }):=by
 have h:=Zy9 n n h1
 rw [ZpN] at h
 have e:Zo σ (.sl b 0 0 n.payload.length)=some (n.payload.map Zn,[b]):=by
  have : (n.payload.map Zn).length=n.payload.length:=XL ..
  generalize n.payload.map Zn=L at *
  rw [<-this]
  simp [Zo,hs]
 have hsh:showAs σ [ZjZ n b,.agg [.str n.topic,.lst false (n.payload.map Zn),.int .i64 n.qos,.bool n.retain,.str n.sender,.int .i64 n.expires,.lst false (n.props.map Zb),.int .i64 n.origin,.int .i64 n.number,.int .i64 n.hops]]=some ([Za7 n,Za7 n],[b]):=by
  unfold ZjZ Za7 ZX Zh Zi
  simp only [showAs,showA,ZcX,Zc4,e,X2,XI]
 exact Zdo (ZyO (by kernel_rfl) hsh rfl rfl h rfl rfl sq own)
theorem ZFG (σ:Za) (N a i t k:Nat) (Y:List AVal) (m:ZcV) (hm:ZdU m) (hp1:(Zj m).note.props.length<=9223372036854775807) (c:Zt) (q:List AVal)
  (h0:σ[0]?=some (.rrow 0 15 Y)) (hY:Y[k]?=some (.agg (.str c::.str (Zj m).note.topic::.sl t 0 0 (Zj m).note.payload.length::.int .i64 (Zj m).note.qos::.bool (Zj m).note.retain::.str (Zj m).note.sender::.int .i64 (Zj m).note.expires::.lst false ((Zj m).note.props.map Zb)::.int .i64 (Zj m).note.origin::.int .i64 (Zj m).note.number::.int .i64 (Zj m).note.hops::q)))
  (ht:σ[t]?=some (.row 0 1 ((Zj m).note.payload.map Zn))) (h3:σ[a+2]?=some (.var (mC m))) (hk:k < N) (hN:N<=1000) :
  evC FC PRP BY 0 Zho ((13,.int .i64 (k:Int))::(11,.int .i64 (i:Int))::Zax N a) σ=some (.normal,(13,.int .i64 ((k+1:Nat):Int))::(11,.int .i64 (i:Int))::Zax N a,σ):=by
 have ia:ZaG σ 15 (.sl 0 0 0 N) (.int .i64 (k:Int))=some (.eref 0 0 k 0,σ,{ rd:=[0] }):=by
  have e0:(0:Int)<=(k:Int):=by omega
  simp [ZaG,e0,hk,h0]
 have h1:(k:Int) < (N:Int):=by omega
 have hw:IntKind.i64.wrap ((k:Int)+1)=((k+1:Nat):Int):=by rw [Zcm (by omega) (by omega)];rfl
 have hM:=fun sq own=>Zdo (ZhP σ sq own m hm)
 have hS:=fun sq own=>ZE0 ht hp1 sq own
 generalize (Zj m).ids.map (AVal.int .i64)=L3 at *
 generalize (Zj m).qos=iq at *
 generalize (Zj m).retain=ir at *
 generalize (Zj m).share=ish at *
 generalize (Zj m).note=n at *
 unfold ZjZ at hS
 unfold mC at hM h3
 generalize n.payload.map Zn=L1 at *
 generalize n.props.map Zb=L2 at *
 unfold Zax
 rw [ZxP]
 simp -implicitDefEqProofs only [EQA,ZE,ZB,ZG,ZC,ZF,ZD,ZP,ZS,ZQ,ZN,ZL,ZM,ZO,ZT,ZR,implies_true,forall_const,Xk,Xl,Xo,Xe,Xg,Xm,Xj,ZH,ZK,unA,Zu,Zz,unG,reduceCtorEq,Zo,decide_eq_true_eq,Xh,Xc,ite_self,↓reduceIte,Zy,ZI,gcT,gcA,Zm,Zf,Zd,Ze,Zk,Zc,Zl,Zg,Zp,Xd,ZbM,Zbv,Zce,Zcd,ZbD,Zb7,ZbF,Zci,ZbA,Zb9,Zbx,Zb5,ZbE,Zcb,Zbw,Zb1,Zbp,Zca,ZbG,Zr,Zh,Zi,Zb,Zx,ZJ,h1,hw,ia,h0,hY,ht,h3,hM,hS,AVal.cells,Z1,Xi,Xp,XK,Zap,Zat,ZaU,Zav,XZ,X3,Xi,Xp,Xq,Xy,ZaD,ZaE,ZaI,ZaJ,ZaL,XA,XD,Zaf,Zai,Zak,Zau,ZaA,Zaz,ZaH,ZaM,Zaq,ZaK,XJ,XR,Xi,Xp,XF,Wh,WL,Wi,WF]
theorem ZDL (σ:Za) (N a i:Nat):evC FC PRP BY 0 Zho ((13,.int .i64 (N:Int))::(11,.int .i64 (i:Int))::Zax N a) σ=some (.exit 6,(83,.bool false)::(13,.int .i64 (N:Int))::(11,.int .i64 (i:Int))::Zax N a,σ):=by
 have h1:¬(N:Int) < (N:Int):=by omega
 unfold Zax
 rw [ZxP]
 simp -implicitDefEqProofs only [EQA,ZE,ZB,ZG,ZC,ZF,ZD,ZP,ZS,ZQ,ZN,ZL,ZM,ZO,ZT,ZR,implies_true,forall_const,Xk,Xl,Xo,Xe,Xg,Xm,Xj,ZH,ZK,unA,Zu,Zz,unG,reduceCtorEq,Zo,decide_eq_true_eq,Xh,Xc,ite_self,↓reduceIte,Zy,ZI,gcT,gcA,Zm,Zf,Zd,Ze,Zk,Zc,Zl,Zg,Zp,Xd,ZbM,Zbv,Zce,Zcd,ZbD,Zb7,ZbF,Zci,ZbA,Zb9,Zbx,Zb5,ZbE,Zcb,Zbw,Zb1,Zbp,Zca,ZbG,Zr,Zh,Zi,Zb,Zx,ZJ,h1,AVal.cells,Z1,Xi,Xp,XK,Zap,Zat,ZaU,Zav,XZ,X3,Xi,Xp,Xq,Xy,ZaD,ZaE,ZaI,ZaJ,ZaL,XA,XD,Zaf,Zai,Zak,Zau,ZaA,Zaz,ZaH,ZaM,Zaq,ZaK,XJ,XR,Xi,Xp,XF]
theorem ZEg (n:ZU) {P:Grp} {i:Nat} {p:Zt×List Z5} (h:P[i]?=some p):∃ q,(ZY n 1 P)[i]?=some (.agg (.str p.1::.str n.topic::.sl (i+1) 0 0 n.payload.length::.int .i64 n.qos::.bool n.retain::.str n.sender::.int .i64 n.expires::.lst false (n.props.map Zb)::.int .i64 n.origin::.int .i64 n.number::.int .i64 n.hops::q)):=by
 rw [Zug n 1 h,W6 1 i]
 exact ⟨_,rfl⟩
theorem ZsS (n:ZU) (P:Grp) (hP:P.length<=30) (V:Za) (hV:V.length=3) (hs:∀ x ∈ V,ZcA x) (Xs:List (List AVal)) (hXl:Xs.length=P.length) (s1 s2:Nat) (v1 v2:Int):gcT 0 ((s1,.int .i64 v1)::(s2,.int .i64 v2)::Zax P.length (P.length+1)) (ZaX n P Xs V)=((s1,.int .i64 v1)::(s2,.int .i64 v2)::Zax P.length (P.length+1),ZaX n P Xs V) :=
 ZgN (Zs1 n P Xs V hXl hP hV hs (by rfl) (fun ρ r0 r1 r2 r3=>by unfold Zax;simp only [Xw,XS,ZW,Zs,r0,r1,r2,r3]))
theorem ZEa (n:ZU) (P:Grp) (hP:P.length<=30) (V:Za) (hV:V.length=3) (hs:∀ x ∈ V,ZcA x) (Xs:List (List AVal)) (hXl:Xs.length=P.length) (s1:Nat) (v1:Int):gcT 0 ((s1,.int .i64 v1)::Zax P.length (P.length+1)) (ZaX n P Xs V)=((s1,.int .i64 v1)::Zax P.length (P.length+1),ZaX n P Xs V) :=
 ZgN (Zs1 n P Xs V hXl hP hV hs (by rfl) (fun ρ r0 r1 r2 r3=>by unfold Zax;simp only [Xw,XS,ZW,Zs,r0,r1,r2,r3]))
section
variable (m:ZcV) (hm:ZdU m) (hp1:(Zj m).note.props.length<=9223372036854775807) (hL:(Zj m).note.payload.length<=1000000000000) (P:Grp) (hP:P.length<=30) (V:Za) (hV:V.length=3) (hs:∀ x ∈ V,ZcA x) (h3:V[2]?=some (.var (mC m)))
include hm hp1 hP hV hs h3
theorem ZxI (i:Nat) (Xs:List (List AVal)) (hXl:Xs.length=P.length) (hX:∀ i',i < i'->i' < P.length->Xs[i']?=some ((Zj m).note.payload.map Zn)):∀ (j k:Nat),k+j=P.length->i < k ->
  evL FC PRP BY 0 [13,11,9,7,5,3] Zho ((13,.int .i64 (k:Int))::(11,.int .i64 (i:Int))::Zax P.length (P.length+1)) (ZaX (Zj m).note P Xs V)=some (.exit 6,(83,.bool false)::(13,.int .i64 (P.length:Int))::(11,.int .i64 (i:Int))::Zax P.length (P.length+1),ZaX (Zj m).note P Xs V)
 | 0,k,hk,_=>by
  obtain rfl:k=P.length:=by omega
  exact Zfw (ZDL _ _ _ _)
 | j+1,k,hk,hik=>by
  have hkP:k < P.length:=by omega
  obtain ⟨q,hY⟩:=ZEg (Zj m).note (Xz hkP)
  have hr:=ZFG (ZaX (Zj m).note P Xs V) P.length (P.length+1) i (k+1) k (ZY (Zj m).note 1 P) m hm hp1 _ q rfl hY (ZhR _ P V (hX k hik hkP)) (Ze3 _ P Xs h3 (by omega)) hkP (by omega)
  rw [ZgK hr]
  rw [show keepL [13,11,9,7,5,3] ((13,AVal.int .i64 ((k+1:Nat):Int))::(11,.int .i64 (i:Int))::Zax P.length (P.length+1))=((13,AVal.int .i64 ((k+1:Nat):Int))::(11,.int .i64 (i:Int))::Zax P.length (P.length+1)) from rfl]
  rw [ZsS _ P hP V hV hs Xs hXl]
  exact ZxI i Xs hXl hX j (k+1) (by omega) (by omega)
include hL
theorem ZzP (i:Nat) (hi:i < P.length) (Xs:List (List AVal)) (hXl:Xs.length=P.length) (hB:∀ X ∈ Xs,ZfE X/\X.length=(Zj m).note.payload.length) (hX:∀ i',i<=i'->i' < P.length->Xs[i']?=some ((Zj m).note.payload.map Zn)) :
  ∃ Xs':List (List AVal),Xs'.length=P.length/\(∀ X ∈ Xs',ZfE X/\X.length=(Zj m).note.payload.length)/\(∀ i',i+1<=i'->i' < P.length->Xs'[i']?=some ((Zj m).note.payload.map Zn)) /\
  evC FC PRP BY 0 Zhg ((11,.int .i64 (i:Int))::Zax P.length (P.length+1)) (ZaX (Zj m).note P Xs V)=some (.normal,(11,.int .i64 ((i+1:Nat):Int))::Zax P.length (P.length+1),ZaX (Zj m).note P Xs' V):=by
 obtain ⟨Xs',g1,g2,g3,g4⟩:=Zzu (Zj m).note P V hP hV hs hL i hi (Zj m).note.payload.length 0 Xs hXl hB (by omega)
 have hX':∀ i',i < i'->i' < P.length->Xs'[i']?=some ((Zj m).note.payload.map Zn):=fun i' h1 h2=>by rw [g3 i' (by omega)];exact hX i' (by omega) h2
 have hl:=ZxI m hm hp1 P hP V hV hs h3 i Xs' g1 hX' (P.length - (i+1)) (i+1) (by omega) (by omega)
 refine ⟨Xs',g1,g2,fun i' h1 h2=>hX' i' (by omega) h2,?_⟩
 have c1:(i:Int) < (P.length:Int):=by omega
 have hw:IntKind.i64.wrap ((i:Int)+1)=((i+1:Nat):Int):=by rw [Zcm (by omega) (by omega)];rfl
 have lp1:=Zf5 (id:=4) (tm:=(12,.int .i64 0)::(11,.int .i64 (i:Int))::Zax P.length (P.length+1)) (ZsS (Zj m).note P hP V hV hs Xs hXl 12 11 0 (i:Int)) g4
 have lp2:=Zf5 (id:=6) (tm:=(13,.int .i64 ((i+1:Nat):Int))::(11,.int .i64 (i:Int))::Zax P.length (P.length+1)) (ZsS (Zj m).note P hP V hV hs Xs' g1 13 11 ((i+1:Nat):Int) (i:Int)) hl
 generalize ZaX (Zj m).note P Xs V=σ at *
 generalize ZaX (Zj m).note P Xs' V=σ' at *
 generalize P.length+1=a at *
 generalize P.length=N at *
 have h1:evC FC PRP BY 0 (.seq (.region [oM 48 11,oM 49 9,oI 50 (.len (.t 49)),oI 51 (.bin .lss (.t 48) (.t 50))] none [51,11,9,7,5,3]) (.cond (.t 51) .skip (.exit 2))) ((11,.int .i64 (i:Int))::Zax N a) σ=some (.normal,(51,.bool true)::(11,.int .i64 (i:Int))::Zax N a,σ):=by
  unfold Zax
  simp -implicitDefEqProofs only [EQA,ZE,ZB,ZG,ZC,ZF,ZD,ZP,ZS,ZQ,ZN,ZL,ZM,ZO,ZT,ZR,implies_true,forall_const,Xk,Xl,Xo,Xe,Xg,Xm,Xj,ZH,ZK,unA,Zu,Zz,unG,reduceCtorEq,Zo,decide_eq_true_eq,Xh,Xc,ite_self,↓reduceIte,Zy,ZI,gcT,gcA,Zm,Zf,Zd,Ze,Zk,Zc,Zl,Zg,Zp,Xd,ZbM,Zbv,Zce,Zcd,ZbD,Zb7,ZbF,Zci,ZbA,Zb9,Zbx,Zb5,ZbE,Zcb,Zbw,Zb1,Zbp,Zca,ZbG,Zr,Zh,Zi,Zb,Zx,ZJ,c1]
 have h2:evC FC PRP BY 0 (.region [oI 12 (.mov (.c (.int .i64 0)))] none [12,11,9,7,5,3]) ((51,.bool true)::(11,.int .i64 (i:Int))::Zax N a) σ=some (.normal,(12,.int .i64 0)::(11,.int .i64 (i:Int))::Zax N a,σ):=by
  unfold Zax
  simp -implicitDefEqProofs only [EQA,ZE,ZB,ZG,ZC,ZF,ZD,ZP,ZS,ZQ,ZN,ZL,ZM,ZO,ZT,ZR,implies_true,forall_const,Xk,Xl,Xo,Xe,Xg,Xm,Xj,ZH,ZK,unA,Zu,Zz,unG,reduceCtorEq,Zo,decide_eq_true_eq,Xh,Xc,ite_self,↓reduceIte,Zy,ZI,gcT,gcA,Zm,Zf,Zd,Ze,Zk,Zc,Zl,Zg,Zp,Xd,ZbM,Zbv,Zce,Zcd,ZbD,Zb7,ZbF,Zci,ZbA,Zb9,Zbx,Zb5,ZbE,Zcb,Zbw,Zb1,Zbp,Zca,ZbG,Zr,Zh,Zi,Zb,Zx,ZJ,c1]
 have h3:∀ L:Int,evC FC PRP BY 0 (.region [oM 78 11,oI 79 (.bin .add (.t 78) (.c (.int .i64 1))),oM 13 79] none [13,11,9,7,5,3]) ((63,.bool false)::(12,.int .i64 L)::(11,.int .i64 (i:Int))::Zax N a) σ'=some (.normal,(13,.int .i64 ((i+1:Nat):Int))::(11,.int .i64 (i:Int))::Zax N a,σ'):=by
  intro L
  unfold Zax
  simp -implicitDefEqProofs only [EQA,ZE,ZB,ZG,ZC,ZF,ZD,ZP,ZS,ZQ,ZN,ZL,ZM,ZO,ZT,ZR,implies_true,forall_const,Xk,Xl,Xo,Xe,Xg,Xm,Xj,ZH,ZK,unA,Zu,Zz,unG,reduceCtorEq,Zo,decide_eq_true_eq,Xh,Xc,ite_self,↓reduceIte,Zy,ZI,gcT,gcA,Zm,Zf,Zd,Ze,Zk,Zc,Zl,Zg,Zp,Xd,ZbM,Zbv,Zce,Zcd,ZbD,Zb7,ZbF,Zci,ZbA,Zb9,Zbx,Zb5,ZbE,Zcb,Zbw,Zb1,Zbp,Zca,ZbG,Zr,Zh,Zi,Zb,Zx,ZJ,hw]
 have h4:evC FC PRP BY 0 Zjf ((83,.bool false)::(13,.int .i64 (N:Int))::(11,.int .i64 (i:Int))::Zax N a) σ'=some (.normal,(11,.int .i64 ((i+1:Nat):Int))::Zax N a,σ'):=by
  unfold Zax
  rw [ZEm]
  simp -implicitDefEqProofs only [EQA,ZE,ZB,ZG,ZC,ZF,ZD,ZP,ZS,ZQ,ZN,ZL,ZM,ZO,ZT,ZR,implies_true,forall_const,Xk,Xl,Xo,Xe,Xg,Xm,Xj,ZH,ZK,unA,Zu,Zz,unG,reduceCtorEq,Zo,decide_eq_true_eq,Xh,Xc,ite_self,↓reduceIte,Zy,ZI,gcT,gcA,Zm,Zf,Zd,Ze,Zk,Zc,Zl,Zg,Zp,Xd,ZbM,Zbv,Zce,Zcd,ZbD,Zb7,ZbF,Zci,ZbA,Zb9,Zbx,Zb5,ZbE,Zcb,Zbw,Zb1,Zbp,Zca,ZbG,Zr,Zh,Zi,Zb,Zx,ZJ,hw]
 rw [Zk0]
 unfold Zbw
 rw [Zbk h1]
 have h5:evC FC PRP BY 0 (.block 3 (.seq (.seq (.region [oI 12 (.mov (.c (.int .i64 0)))] none [12,11,9,7,5,3]) (.block 4 (.loop [12,11,9,7,5,3] ZfY))) Zj9)) ((51,.bool true)::(11,.int .i64 (i:Int))::Zax N a) σ=some (.normal,(83,.bool false)::(13,.int .i64 (N:Int))::(11,.int .i64 (i:Int))::Zax N a,σ'):=by
  rw [Zix,Zbk ((Zbk h2).trans lp1),ZCq]
  unfold Zbx
  rw [Zbk (h3 _),lp2]
  rfl
 rw [Zbk h5]
 exact h4
theorem ZxZ:∀ (j i:Nat) (Xs:List (List AVal)),i+j=P.length->Xs.length=P.length->(∀ X ∈ Xs,ZfE X/\X.length=(Zj m).note.payload.length)->(∀ i',i<=i'->i' < P.length->Xs[i']?=some ((Zj m).note.payload.map Zn)) ->
  ∃ Xs':List (List AVal),Xs'.length=P.length/\evL FC PRP BY 0 [11,9,7,5,3] Zhg ((11,.int .i64 (i:Int))::Zax P.length (P.length+1)) (ZaX (Zj m).note P Xs V)=some (.exit 2,(51,.bool false)::(11,.int .i64 (P.length:Int))::Zax P.length (P.length+1),ZaX (Zj m).note P Xs' V)
 | 0,i,Xs,hi,hXl,_,_=>by
  obtain rfl:i=P.length:=by omega
  refine ⟨Xs,hXl,Zfw ?_⟩
  have h1:¬(P.length:Int) < (P.length:Int):=by omega
  generalize ZaX (Zj m).note P Xs V=σ at *
  generalize P.length+1=a at *
  generalize P.length=N at *
  unfold Zax
  rw [Zk0]
  simp -implicitDefEqProofs only [EQA,ZE,ZB,ZG,ZC,ZF,ZD,ZP,ZS,ZQ,ZN,ZL,ZM,ZO,ZT,ZR,implies_true,forall_const,Xk,Xl,Xo,Xe,Xg,Xm,Xj,ZH,ZK,unA,Zu,Zz,unG,reduceCtorEq,Zo,decide_eq_true_eq,Xh,Xc,ite_self,↓reduceIte,Zy,ZI,gcT,gcA,Zm,Zf,Zd,Ze,Zk,Zc,Zl,Zg,Zp,Xd,ZbM,Zbv,Zce,Zcd,ZbD,Zb7,ZbF,Zci,ZbA,Zb9,Zbx,Zb5,ZbE,Zcb,Zbw,Zb1,Zbp,Zca,ZbG,Zr,Zh,Zi,Zb,Zx,ZJ,h1]
 | j+1,i,Xs,hi,hXl,hB,hX=>by
  obtain ⟨Xs1,g1,g2,g3,g4⟩:=ZzP m hm hp1 hL P hP V hV hs h3 i (by omega) Xs hXl hB hX
  obtain ⟨Xs',e1,e2⟩:=ZxZ j (i+1) Xs1 (by omega) g1 g2 g3
  refine ⟨Xs',e1,?_⟩
  rw [ZgK g4]
  rw [show keepL [11,9,7,5,3] ((11,AVal.int .i64 ((i+1:Nat):Int))::Zax P.length (P.length+1))=((11,AVal.int .i64 ((i+1:Nat):Int))::Zax P.length (P.length+1)) from rfl]
  rw [ZEa _ P hP V hV hs Xs1 g1]
  exact e2
end
end
section
theorem Zw2 {O:Z7} {f:Nat} {args:List AVal} {it:Zcs} (h:O f (args.map Zal) []=some (ZbJ it,[])) (hb:BY f=false) (hp:args.all ZaO=true) (σ:Za) (sq:Nat):Z4 O BY σ sq f 0 true args=some (ZbJ it,σ,{}):=by
 rw [Zdr hb hp,h]
 unfold ZbJ Zbl Zh Zi Zr
 simp [ZaC,ZcO,viewR,Zao,Zag,Zad,Zo,ZV,gcA,Zm,Zf,ZZ,Z6,Zd,Ze,Zk,ZaP,Zbg,Zba,Za5,Zdi,Zs,ZW]
theorem ZAm (n:ZU) (hn:Zc2 n) (s:Z5) (σ:Za) (sq:Nat):Z4 EP BY σ sq 16 0 true [.agg [.str n.topic,.lst false (n.payload.map Zn),.int .i64 n.qos,.bool n.retain,.str n.sender,.int .i64 n.expires,.lst false (n.props.map Zb),.int .i64 n.origin,.int .i64 n.number,.int .i64 n.hops],Zas s]=some (ZbJ (Ze9 n s),σ,{}) :=
 Zw2 (ZEM n hn s) (by kernel_rfl) rfl σ sq
theorem ZCs (n:ZU) (s:Z5) (σ:Za) (sq:Nat):Z4 E BY σ sq 17 0 true [.agg [.str n.topic,.lst false (n.payload.map Zn),.int .i64 n.qos,.bool n.retain,.str n.sender,.int .i64 n.expires,.lst false (n.props.map Zb),.int .i64 n.origin,.int .i64 n.number,.int .i64 n.hops],Zas s]=some (ZbJ (Ze9 n s),σ,{}) :=
 Zw2 (ZAS n s) (by kernel_rfl) rfl σ sq
def shG:Zt:=[36,115,104,97,114,101,47,103,47,116]
theorem ZzH (n:ZU) (s:Z5) (sh:Zt):(ZcQ n s sh).ids.length<=9223372036854775807:=by
 unfold ZcQ
 simp only
 split <;> simp
theorem Zv0 (σ:Za) (m:ZcV) (hm:ZdU m) (hn:Zc2 (Zj m).note) (s:Z5) (a b c:Nat) (x51 v11 v9:AVal) (h7:σ[a]?=some (.var (ZX (Zj m).note))) (h5:σ[b]?=some (.var [.str s.filter,.int .i64 s.qos,.bool s.noLocal,.bool s.asPublished,.int .i64 s.handling,.int .i64 s.id])) (h3:σ[c]?=some (.var (mC m))) :
  ∃ σ',evC FC PRP BY 0 Zje [(51,x51),(11,v11),(9,v9),(7,.ref a 0),(5,.ref b 0),(3,.ref c 0)] σ=some (.ret,[(6,.bool true)],σ'):=by
 have hp1:(Zj m).note.props.length<=9223372036854775807:=by have:=hn.len;omega
 have hM:=fun sq own=>Zdo (ZhP σ sq own m hm)
 have hS:=fun sq own view=>Zdo (Zot σ sq own view (Zj m).note (Zj m).note hp1)
 have b1:=fun sq=>ZxY (Zj m).note hn s shG σ sq
 have b2:=fun sq=>Zdo (Zyd (Zj m).note s shG σ sq)
 have b3:=fun sq own view=>Zdo (Zzn σ sq own view (ZcQ (Zj m).note s shG) (ZcQ (Zj m).note s shG) hp1 (ZzH (Zj m).note s shG))
 have k1:=fun sq=>ZAm (Zj m).note hn s σ sq
 have k2:=fun sq=>Zdo (ZCs (Zj m).note s σ sq)
 have k3:=fun sq own view=>Zdo (Zzn σ sq own view (Ze9 (Zj m).note s) (Ze9 (Zj m).note s) hp1 (ZzH (Zj m).note s []))
 have hW:=fun sq own view=>ZAa σ sq own view
 rw [ZpN] at hS
 rw [Zy3] at b3 k3
 generalize ZcQ (Zj m).note s shG=i1 at *
 generalize Ze9 (Zj m).note s=i2 at *
 generalize (Zj m).ids.map (AVal.int .i64)=L3 at *
 generalize (Zj m).qos=iq at *
 generalize (Zj m).retain=ir at *
 generalize (Zj m).share=ish at *
 generalize (Zj m).note=n at *
 unfold mC at hM h3
 unfold Zas at b1 b2 k1 k2
 unfold ZX Zh Zi at h7
 unfold ZbJ Zbl Zh Zi Zr at b1 b2 k1 k2
 unfold shG at b1 b2
 generalize n.payload.map Zn=L1 at *
 generalize n.props.map Zb=L2 at *
 generalize i1.note.payload.map Zn=L4 at *
 generalize i1.note.props.map Zb=L5 at *
 generalize i1.ids.map (AVal.int .i64)=L6 at *
 generalize i2.note.payload.map Zn=L7 at *
 generalize i2.note.props.map Zb=L8 at *
 generalize i2.ids.map (AVal.int .i64)=L9 at *
 refine ⟨σ,?_⟩
 rw [ZCo]
 simp -implicitDefEqProofs only [EQA,ZE,ZB,ZG,ZC,ZF,ZD,ZP,ZS,ZQ,ZN,ZL,ZM,ZO,ZT,ZR,implies_true,forall_const,Xk,Xl,Xo,Xe,Xg,Xm,Xj,ZH,ZK,unA,Zu,Zz,unG,reduceCtorEq,Zo,decide_eq_true_eq,Xh,Xc,ite_self,↓reduceIte,Zy,ZI,gcT,gcA,Zm,Zf,Zd,Ze,Zk,Zc,Zl,Zg,Zp,Xd,ZbM,Zbv,Zce,Zcd,ZbD,Zb7,ZbF,Zci,ZbA,Zb9,Zbx,Zb5,ZbE,Zcb,Zbw,Zb1,Zbp,Zca,ZbG,Zr,Zh,Zi,Zb,Zx,ZJ,h7,h5,h3,hM,hS,b1,b2,b3,k1,k2,k3,hW,AVal.cells,Z1,Xi,Xp,XK,Zap,Zat,ZaU,Zav,XZ,X3,Xi,Xp,Xq,Xy,ZaD,ZaE,ZaI,ZaJ,ZaL,XA,XD,Zaf,Zai,Zak,Zau,ZaA,Zaz,ZaH,ZaM,Zaq,ZaK,XJ,XR,Xi,Xp,XF,Wh,WL,Wi,WF]
end
section
theorem ZBi (p:ZfC):(ZeL p).length<=7/\∀ x ∈ ZeL p,x.data.length<=30:=by
 unfold ZeL Zfq
 refine ⟨?_,?_⟩
 ·simp only [XE,XL,X9]
  repeat' split
  all_goals simp only [XE,Xq,Xy]
  all_goals omega
 ·intro x hx
  rcases XG.1 hx with hx | hx
  ·rcases XG.1 hx with hx | hx
   ·split at hx
    ·simp only [XU] at hx;subst hx;simp
    ·simp at hx
   ·rcases XG.1 hx with hx | hx
    ·split at hx
     ·simp only [XU] at hx;subst hx;simp
     ·simp at hx
    ·split at hx
     ·simp only [XU] at hx;subst hx;simp only [X9];omega
     ·simp at hx
  ·obtain ⟨c,_,rfl⟩:=XV.1 hx
   simp [ZeX]
theorem Zww (m:ZcV):Zc2 (Zj m).note:=by
 obtain ⟨h1,h2⟩:=ZBi m.p
 refine ⟨?_,?_,?_⟩
 ·show (m.payload.take 300).length<=_
  rw [X9];omega
 ·show (ZeL m.p).length<=_
  omega
 ·intro p hp
  have:=h2 p hp
  omega
theorem Zwr (hits:List Zaa):(Z3 hits).length<=30:=by
 unfold Z3;rw [XL,X9];omega
theorem ZGb (n:ZU) (hits:List Zaa):(Zaw n hits).length<=hits.length:=by
 unfold Zaw
 rw [ZkS]
 have:=(Zi4 n hits [] 0 ⟨by simp,by simp,by simp⟩).len
 simpa using this
theorem ZF5 (n:ZU) (hits:List Zaa) {p:Zt×List Z5} (hp:p ∈ Zaw n hits):p.2.length<=hits.length:=by
 rw [ZwD] at hp
 obtain ⟨c,_,rfl⟩:=XV.1 hp
 simp only [ZcE,XL]
 exact List.length_filter_le _ _
theorem ZDN (n:ZU) (l:List Z5):(byI n l).ids.length<=l.length:=by
 show (ZcN (ZcB l)).length<=_
 rw [ZxU,ZcB,XL]
 exact List.length_filter_le _ _
theorem ZCQ (n:ZU) (P:Grp) (Xs:List (List AVal)) (F:Zq) (V:Za) (hXl:Xs.length=P.length) (hP:P.length<=30) (hV:V.length=3) (hs:∀ x ∈ V,ZcA x):gcA 0 [.int .i64 0,.sl 0 0 0 P.length,.ref (P.length+2) 0,.ref (P.length+3) 0,.ref (P.length+4) 0] (ZaX n P Xs (F::V))=([.int .i64 0,.sl 0 0 0 P.length,.ref (P.length+1) 0,.ref (P.length+1+1) 0,.ref (P.length+1+2) 0],ZaX n P Xs V):=by
 have h1:(P.zipIdx 1).map (·.2)=XT 1 P.length:=Zek ..
 have h2:(P.zipIdx 1).map (·.1)=P:=ZfM ..
 have hl:(P.zipIdx 1).length=P.length:=Xa7 ..
 have key:=ZkC (n:=n) (ys:=P.zipIdx 1) (σ:=ZaX n P Xs (F::V)) (a:=0) (vs:=[P.length+2,P.length+3,P.length+4]) (Xs:=Xs) (Vs:=V) (rs:=[.int .i64 0,.sl 0 0 0 P.length,.ref (P.length+2) 0,.ref (P.length+3) 0,.ref (P.length+4) 0]) (rs':=[.int .i64 0,.sl 0 0 0 P.length,.ref (P.length+1) 0,.ref (P.length+1+1) 0,.ref (P.length+1+2) 0]) (by rfl) rfl
 rw [h1,h2,hl] at key
 refine key ?_ hXl hV ?_ ?_ (by omega) (by simp) ?_
 ·rw [Wc]
  refine ⟨by simp [X6],?_⟩
  rw [WJ]
  refine ⟨WS,by simp,?_⟩
  intro x hx y hy e
  subst e
  rw [X6] at hx
  simp at hy
  omega
 ·intro i b X hb hX
  have hi:i < P.length:=by have:=(Xf.1 hX).1;omega
  rw [Wg hi] at hb
  injection hb with hb
  subst hb
  rw [show 1+1*i=i+1 by omega]
  exact ZhR n P (F::V) hX
 ·intro i v x hv hx
  refine ⟨Ze3 n P Xs (j:=i+1) (V:=F::V) hx ?_,hs x (Xx hx)⟩
  have hi:i < 3:=by have:=(Xf.1 hx).1;omega
  rcases i with _ | _ | _ | i
  ·injection hv with hv;omega
  ·injection hv with hv;omega
  ·injection hv with hv;omega
  ·omega
 ·intro ρ r0 rv
  have v0:=rv 0 _ rfl
  have v1:=rv 1 _ rfl
  have v2:=rv 2 _ rfl
  rw [show 1+P.length+0=P.length+1 by omega] at v0
  rw [show 1+P.length+1=P.length+1+1 by omega] at v1
  rw [show 1+P.length+2=P.length+1+2 by omega] at v2
  simp only [ZW,Zs,r0,v0,v1,v2]
theorem Zxz (hits:List Zaa):∀ h ∈ Z3 hits,0<=h.sub.qos:=by
 intro h hh
 unfold Z3 at hh
 rw [XV] at hh
 obtain ⟨x,_,rfl⟩:=hh
 show 0<=Zc9 x.sub.qos 0 2
 rcases ZAy x.sub.qos with h | h | h <;> rw [h] <;> decide
theorem ZBz (m:ZcV) (hm:ZdU m) (hn:Zc2 (Zj m).note) (s:Z5) (H:List Zaa) (hq:∀ h ∈ H,0<=h.sub.qos) (hH:H.length<=30) (hPp:(Zaw (Zj m).note H).length<=30) (hpl:(Zj m).note.payload.length<=1000000000000) (F:Zq) (x28 v10 v8:AVal) :
  ∃ σ',evC FC PRP BY 0 ZhZ [(28,x28),(10,v10),(9,.sl 0 0 0 (Zaw (Zj m).note H).length),(8,v8),(7,.ref ((Zaw (Zj m).note H).length+2) 0),(5,.ref ((Zaw (Zj m).note H).length+3) 0),(3,.ref ((Zaw (Zj m).note H).length+4) 0),(1,.lst false (H.map ZA))]
   (ZaX (Zj m).note (Zaw (Zj m).note H) (Xr (Zaw (Zj m).note H).length ((Zj m).note.payload.map Zn)) [F,.var (ZX (Zj m).note),.var [.str s.filter,.int .i64 s.qos,.bool s.noLocal,.bool s.asPublished,.int .i64 s.handling,.int .i64 s.id],.var (mC m)])=some (.ret,[(6,.bool true)],σ'):=by
 have hR:=fun σ sq own=>Zdo (ZvY σ sq own (Zj m).note H (by omega) false)
 rw [ZvW (Zj m).note H hq] at hR
 have hM:=fun σ sq own=>Zdo (ZhP σ sq own m hm)
 have hAl:=fun V sq=>Zdo (ZGe (Zj m).note (by have:=hn.len;omega) (Zaw (Zj m).note H) (by omega) (fun p hp=>by have:=ZDN (Zj m).note p.2;have:=ZF5 _ _ hp;omega) V sq)
 have hp1:(Zj m).note.props.length<=9223372036854775807:=by have:=hn.len;omega
 generalize Zaw (Zj m).note H=P at *
 generalize hW:[Zq.var (ZX (Zj m).note),.var [.str s.filter,.int .i64 s.qos,.bool s.noLocal,.bool s.asPublished,.int .i64 s.handling,.int .i64 s.id],.var (mC m)]=V at *
 have hV:V.length=3:=by rw [<-hW];rfl
 have hs:∀ x ∈ V,ZcA x:=by
  rw [<-hW]
  intro x hx
  simp only [XP,XaY,or_false] at hx
  rcases hx with rfl | rfl | rfl
  ·exact ⟨rfl,fun _=>rfl,rfl,by simp⟩
  ·exact ⟨rfl,fun _=>rfl,rfl,by simp⟩
  ·exact ⟨rfl,fun _=>rfl,rfl,by simp⟩
 have g3:V[2]?=some (.var (mC m)):=by rw [<-hW];rfl
 have hXl:(Xr P.length ((Zj m).note.payload.map Zn)).length=P.length:=WN ..
 obtain ⟨Xs',e1,e2⟩:=ZxZ m hm hp1 hpl P hPp V hV hs g3 P.length 0 (Xr P.length ((Zj m).note.payload.map Zn)) (by omega) hXl (fun X hX=>by
  rw [List.mem_replicate] at hX
  rw [hX.2]
  refine ⟨fun v hv=>?_,XL ..⟩
  obtain ⟨b,_,rfl⟩:=XV.1 hv
  exact ⟨_,rfl⟩) (fun i' _ h=>by rw [XaH,if_pos h])
 have hgc:=ZCQ (Zj m).note P _ F V hXl hPp hV hs
 have hlp:=Zf5 (id:=2) (live:=[11,9,7,5,3]) (tm:=[(11,.int .i64 0),(9,.sl 0 0 0 P.length),(7,.ref (P.length+2) 0),(5,.ref (P.length+3) 0),(3,.ref (P.length+4) 0)]) (tm1:=(11,.int .i64 ((0:Nat):Int))::Zax P.length (P.length+1)) (show gcT 0 [(11,.int .i64 0),(9,.sl 0 0 0 P.length),(7,.ref (P.length+2) 0),(5,.ref (P.length+3) 0),(3,.ref (P.length+4) 0)] _=_ by
  unfold gcT
  simp only [Xw,XS]
  rw [hgc];rfl) e2
 have hk:=Zv0 (ZaX (Zj m).note P Xs' V) m hm hn s (P.length+1) (P.length+1+1) (P.length+1+2) (.bool false) (.int .i64 (P.length:Int)) (.sl 0 0 0 P.length) (Ze3 _ P Xs' (j:=0) (by rw [<-hW];rfl) (by omega)) (Ze3 _ P Xs' (j:=1) (by rw [<-hW];rfl) (by omega)) (Ze3 _ P Xs' (j:=2) (by rw [<-hW];rfl) (by omega))
 obtain ⟨σ',hk⟩:=hk
 refine ⟨σ',?_⟩
 have hpe:ZaX (Zj m).note P (Xr P.length ((Zj m).note.payload.map Zn)) (F::V)=.rrow 0 15 (ZY (Zj m).note 1 P)::(Z2 (Zj m).note P.length++F::V):=by
  unfold ZaX Z2
  rw [List.map_replicate]
 have hAm:=fun sq=>hAl (F::V) sq
 rw [<-hpe] at hAm
 have m3:(ZaX (Zj m).note P (Xr P.length ((Zj m).note.payload.map Zn)) (F::V))[P.length+4]?=some (.var (mC m)):=Ze3 _ P _ (j:=3) (by rw [<-hW];rfl) (by omega)
 clear e1 e2 hgc hpe hXl hs hV g3 hW hq hAl
 generalize ZaX (Zj m).note P (Xr P.length ((Zj m).note.payload.map Zn)) (F::V)=σ at *
 generalize ZaX (Zj m).note P Xs' V=σ1 at *
 generalize P.map (Zcx (Zj m).note)=S at *
 generalize H.map ZA=HS at *
 have s1:evC FC PRP BY 0 (.seq (.region [oM 40 9,oI 41 (.ld (some 16) (.t 3)),oI 42 (.call 6 0 true [(.t 41)]),oI 43 (.field (some 10) 0 (.t 42)),oM 44 1,oI 45 (.call 12 0 true [(.t 43),(.t 44)]),oI 46 (.call 11 0 true [(.t 40),(.t 45)]),oI 47 (.un .not (.t 46))] none [47,9,7,5,3]) (.cond (.t 47) (.seq (.region [oI 6 (.mov (.c (.bool false)))] none [6]) .ret) .skip)) [(28,x28),(10,v10),(9,.sl 0 0 0 P.length),(8,v8),(7,.ref (P.length+2) 0),(5,.ref (P.length+3) 0),(3,.ref (P.length+4) 0),(1,.lst false HS)] σ=some (.normal,[(47,.bool false),(9,.sl 0 0 0 P.length),(7,.ref (P.length+2) 0),(5,.ref (P.length+3) 0),(3,.ref (P.length+4) 0)],σ):=by
  generalize (Zj m).ids.map (AVal.int .i64)=L3 at *
  generalize (Zj m).qos=iq at *
  generalize (Zj m).retain=ir at *
  generalize (Zj m).share=ish at *
  generalize (Zj m).note=n at *
  unfold mC at hM m3
  generalize n.payload.map Zn=L1 at *
  generalize n.props.map Zb=L2 at *
  simp -implicitDefEqProofs only [EQA,ZE,ZB,ZG,ZC,ZF,ZD,ZP,ZS,ZQ,ZN,ZL,ZM,ZO,ZT,ZR,implies_true,forall_const,Xk,Xl,Xo,Xe,Xg,Xm,Xj,ZH,ZK,unA,Zu,Zz,unG,reduceCtorEq,Zo,decide_eq_true_eq,Xh,Xc,ite_self,↓reduceIte,Zy,ZI,gcT,gcA,Zm,Zf,Zd,Ze,Zk,Zc,Zl,Zg,Zp,Xd,ZbM,Zbv,Zce,Zcd,ZbD,Zb7,ZbF,Zci,ZbA,Zb9,Zbx,Zb5,ZbE,Zcb,Zbw,Zb1,Zbp,Zca,ZbG,Zr,Zh,Zi,Zb,Zx,ZJ,hM,hR,hAm,m3,AVal.cells]
 have s2:evC FC PRP BY 0 (.region [oI 11 (.mov (.c (.int .i64 0)))] none [11,9,7,5,3]) [(47,.bool false),(9,.sl 0 0 0 P.length),(7,.ref (P.length+2) 0),(5,.ref (P.length+3) 0),(3,.ref (P.length+4) 0)] σ=some (.normal,[(11,.int .i64 0),(9,.sl 0 0 0 P.length),(7,.ref (P.length+2) 0),(5,.ref (P.length+3) 0),(3,.ref (P.length+4) 0)],σ):=by
  simp -implicitDefEqProofs only [EQA,ZE,ZB,ZG,ZC,ZF,ZD,ZP,ZS,ZQ,ZN,ZL,ZM,ZO,ZT,ZR,implies_true,forall_const,Xk,Xl,Xo,Xe,Xg,Xm,Xj,ZH,ZK,unA,Zu,Zz,unG,reduceCtorEq,Zo,decide_eq_true_eq,Xh,Xc,ite_self,↓reduceIte,Zy,ZI,gcT,gcA,Zm,Zf,Zd,Ze,Zk,Zc,Zl,Zg,Zp,Xd,ZbM,Zbv,Zce,Zcd,ZbD,Zb7,ZbF,Zci,ZbA,Zb9,Zbx,Zb5,ZbE,Zcb,Zbw,Zb1,Zbp,Zca,ZbG,Zr,Zh,Zi,Zb,Zx,ZJ,m3]
 rw [Zy8]
 unfold Zbp
 rw [Zbk s1,Zbk ((Zbk s2).trans hlp)]
 exact hk
end
section
def Zd8 (v9:AVal) (t a hl:Nat) (S:AVal):Tms:=[(9,v9),(8,.sl t 0 0 hl),(7,.ref (a+1) 0),(5,.ref (a+2) 0),(3,.ref (a+3) 0),(1,S)]
theorem ZDQ (σ:Za) (v9:AVal) (t a:Nat) (H:List Zaa) (hH:H.length<=30) (i:Nat) (h:Zaa) (hi:H[i]?=some h) (ht:σ[t]?=some (.frow 0 7 (H.map ZA))\/σ[t]?=some (.row 0 7 (H.map ZA))) :
  evC FC PRP BY 0 Zhr ((10,.int .i64 (i:Int))::Zd8 v9 t a H.length (.lst false (H.map ZA))) σ=some (.normal,(10,.int .i64 ((i+1:Nat):Int))::Zd8 v9 t a H.length (.lst false (H.map ZA)),σ):=by
 have hlt:i < H.length:=(Xf.1 hi).1
 have h1:(i:Int) < (H.length:Int):=by omega
 have hw:IntKind.i64.wrap ((i:Int)+1)=((i+1:Nat):Int):=by rw [Zcm (by omega) (by omega)];rfl
 have hL:(H.map ZA).length=H.length:=XL ..
 have ia:ZaG σ 7 (.sl t 0 0 H.length) (.int .i64 (i:Int))=some (.eref t 0 i 0,σ,{ rd:=[t] }):=by
  have e0:(0:Int)<=(i:Int):=by omega
  rcases ht with ht | ht <;> simp [ZaG,e0,hlt,ht]
 have ib:∀ (b:Bool) (kk:IntKind),ZaG σ 7 (.lst b (H.map ZA)) (.int kk (i:Int))=some (.iptr [.str h.client,.str h.sub.filter,.int .i64 h.sub.qos,.bool h.sub.noLocal,.bool h.sub.asPublished,.int .i64 h.sub.handling,.int .i64 h.sub.id] 0,σ,{}):=fun b kk=>iad hi ZA (k:=7) rfl σ b kk
 have hX:(H.map ZA)[i]?=some (.agg [.str h.client,.str h.sub.filter,.int .i64 h.sub.qos,.bool h.sub.noLocal,.bool h.sub.asPublished,.int .i64 h.sub.handling,.int .i64 h.sub.id]):=by rw [XY,hi];rfl
 have hkk:ZbC [2,2,0,1,1,0,0] [.str h.client,.str h.sub.filter,.int .i64 h.sub.qos,.bool h.sub.noLocal,.bool h.sub.asPublished,.int .i64 h.sub.handling,.int .i64 h.sub.id]=true:=by simp [ZbC,ZaW]
 have haa:Zbh [.str h.client,.str h.sub.filter,.int .i64 h.sub.qos,.bool h.sub.noLocal,.bool h.sub.asPublished,.int .i64 h.sub.handling,.int .i64 h.sub.id] [.str h.client,.str h.sub.filter,.int .i64 h.sub.qos,.bool h.sub.noLocal,.bool h.sub.asPublished,.int .i64 h.sub.handling,.int .i64 h.sub.id]=some true:=by simp [Zbh,Zdx]
 generalize H.map ZA=S at *
 unfold Zd8
 rw [Zvv]
 rcases ht with ht | ht
 all_goals
  simp -implicitDefEqProofs only [EQA,ZE,ZB,ZG,ZC,ZF,ZD,ZP,ZS,ZQ,ZN,ZL,ZM,ZO,ZT,ZR,implies_true,forall_const,Xk,Xl,Xo,Xe,Xg,Xm,Xj,ZH,ZK,unA,Zu,Zz,unG,reduceCtorEq,Zo,decide_eq_true_eq,Xh,Xc,ite_self,↓reduceIte,Zy,ZI,gcT,gcA,Zm,Zf,Zd,Ze,Zk,Zc,Zl,Zg,Zp,Xd,ZbM,Zbv,Zce,Zcd,ZbD,Zb7,ZbF,Zci,ZbA,Zb9,Zbx,Zb5,ZbE,Zcb,Zbw,Zb1,Zbp,Zca,ZbG,Zr,Zh,Zi,Zb,Zx,ZJ,h1,hw,hL,ia,ib,ht,hX,hkk,haa,AVal.cells,Wh,WL,Wi,WF]
theorem ZD6 (σ:Za) (v9 v8 v7 v5 v3:AVal) (H:List Zaa):evC FC PRP BY 0 Zhr [(10,.int .i64 (H.length:Int)),(9,v9),(8,v8),(7,v7),(5,v5),(3,v3),(1,.lst false (H.map ZA))] σ=some (.exit 0,[(28,.bool false),(10,.int .i64 (H.length:Int)),(9,v9),(8,v8),(7,v7),(5,v5),(3,v3),(1,.lst false (H.map ZA))],σ):=by
 have h1:¬(H.length:Int) < (H.length:Int):=by omega
 have hL:(H.map ZA).length=H.length:=XL ..
 generalize H.map ZA=S at *
 rw [Zvv]
 simp -implicitDefEqProofs only [EQA,ZE,ZB,ZG,ZC,ZF,ZD,ZP,ZS,ZQ,ZN,ZL,ZM,ZO,ZT,ZR,implies_true,forall_const,Xk,Xl,Xo,Xe,Xg,Xm,Xj,ZH,ZK,unA,Zu,Zz,unG,reduceCtorEq,Zo,decide_eq_true_eq,Xh,Xc,ite_self,↓reduceIte,Zy,ZI,gcT,gcA,Zm,Zf,Zd,Ze,Zk,Zc,Zl,Zg,Zp,Xd,ZbM,Zbv,Zce,Zcd,ZbD,Zb7,ZbF,Zci,ZbA,Zb9,Zbx,Zb5,ZbE,Zcb,Zbw,Zb1,Zbp,Zca,ZbG,Zr,Zh,Zi,Zb,Zx,ZJ,h1,hL]
theorem ZpJ (σ:Za) (v9:AVal) (t a:Nat) (H:List Zaa) (hH:H.length<=30) (ht:σ[t]?=some (.frow 0 7 (H.map ZA))\/σ[t]?=some (.row 0 7 (H.map ZA)))
  (hg:∀ v:Int,gcT 0 ((10,.int .i64 v)::Zd8 v9 t a H.length (.lst false (H.map ZA))) σ=((10,.int .i64 v)::Zd8 v9 t a H.length (.lst false (H.map ZA)),σ)):∀ (j i:Nat),i+j=H.length ->
  evL FC PRP BY 0 [10,9,8,7,5,3,1] Zhr ((10,.int .i64 (i:Int))::Zd8 v9 t a H.length (.lst false (H.map ZA))) σ=some (.exit 0,(28,.bool false)::(10,.int .i64 (H.length:Int))::Zd8 v9 t a H.length (.lst false (H.map ZA)),σ)
 | 0,i,hi=>by
  obtain rfl:i=H.length:=by omega
  exact Zfw (ZD6 _ _ _ _ _ _ _)
 | j+1,i,hi=>by
  rw [ZgK (ZDQ σ v9 t a H hH i _ (Xz (by omega)) ht)]
  rw [show keepL [10,9,8,7,5,3,1] ((10,AVal.int .i64 ((i+1:Nat):Int))::Zd8 v9 t a H.length (.lst false (H.map ZA)))=((10,AVal.int .i64 ((i+1:Nat):Int))::Zd8 v9 t a H.length (.lst false (H.map ZA))) from rfl]
  rw [hg]
  exact ZpJ σ v9 t a H hH ht hg j (i+1) (by omega)
theorem ZDo (n:ZU) (P:Grp) (hP:P.length<=30) (X:List AVal) (F A0 A1 A2:Zq) (s0:ZcA A0) (s1:ZcA A1) (s2:ZcA A2) (sF:ZcA F) (k:Nat) (HS:AVal) (hS:Z6 HS=[]/\∀ ρ:Rho,Zs ρ HS=HS) (hl:Nat) (v:Int) :
  gcA 0 [.int .i64 v,.sl 4 0 0 P.length,.sl 3 0 0 hl,.ref 2 0,.ref 1 0,.ref 0 0,HS] ([A0,A1,A2,F]++(.rrow 0 15 (ZY n 5 P)::(Xr P.length (.row 0 1 X)++Xr k .free)))=([.int .i64 v,.sl 0 0 0 P.length,.sl (P.length+1) 0 0 hl,.ref (P.length+2) 0,.ref (P.length+3) 0,.ref (P.length+4) 0,HS],ZaX n P (Xr P.length X) [F,A2,A1,A0]):=by
 have h1:(P.zipIdx 5).map (·.2)=XT 5 P.length:=Zek ..
 have h2:(P.zipIdx 5).map (·.1)=P:=ZfM ..
 have hlz:(P.zipIdx 5).length=P.length:=Xa7 ..
 have key:=ZkC (n:=n) (ys:=P.zipIdx 5) (σ:=[A0,A1,A2,F]++(.rrow 0 15 (ZY n 5 P)::(Xr P.length (.row 0 1 X)++Xr k .free))) (a:=4) (vs:=[3,2,1,0]) (Xs:=Xr P.length X) (Vs:=[F,A2,A1,A0]) (rs:=[.int .i64 v,.sl 4 0 0 P.length,.sl 3 0 0 hl,.ref 2 0,.ref 1 0,.ref 0 0,HS]) (rs':=[.int .i64 v,.sl 0 0 0 P.length,.sl (P.length+1) 0 0 hl,.ref (P.length+2) 0,.ref (P.length+3) 0,.ref (P.length+4) 0,HS]) (by simp [ZZ,Z6,hS.1]) rfl
 rw [h1,h2,hlz] at key
 refine key ?_ (WN ..) rfl ?_ ?_ (by omega) (by simp) ?_
 ·rw [Wc]
  refine ⟨by simp [X6],?_⟩
  rw [WJ]
  refine ⟨WS,by simp,?_⟩
  intro x hx y hy e
  subst e
  rw [X6] at hx
  simp at hy
  omega
 ·intro i b Y hb hY
  rw [XaH] at hY
  split at hY
  ·rename_i hi
   injection hY with hY
   subst hY
   rw [Wg hi] at hb
   injection hb with hb
   subst hb
   rw [show 5+1*i=(i+1)+4 by omega,Wo (by simp)]
   simp only [Xq,Xy,XK,Xk,Nat.add_sub_cancel,XC]
   rw [Wf (by simpa using hi),XaH,if_pos hi]
  ·cases hY
 ·intro i w x hv hx
  rcases i with _ | _ | _ | _ | i
  ·injection hv with hv;injection hx with hx;subst hv hx;exact ⟨rfl,sF⟩
  ·injection hv with hv;injection hx with hx;subst hv hx;exact ⟨rfl,s2⟩
  ·injection hv with hv;injection hx with hx;subst hv hx;exact ⟨rfl,s1⟩
  ·injection hv with hv;injection hx with hx;subst hv hx;exact ⟨rfl,s0⟩
  ·cases hv
 ·intro ρ r0 rv
  have v0:=rv 0 _ rfl
  have v1:=rv 1 _ rfl
  have v2:=rv 2 _ rfl
  have v3:=rv 3 _ rfl
  rw [show 1+P.length+0=P.length+1 by omega] at v0
  rw [show 1+P.length+1=P.length+2 by omega] at v1
  rw [show 1+P.length+2=P.length+3 by omega] at v2
  rw [show 1+P.length+3=P.length+4 by omega] at v3
  simp only [ZW,Zs,r0,v0,v1,v2,v3,hS.2]
theorem ZEX (n:ZU) (P:Grp) (hP:P.length<=30) (Xs:List (List AVal)) (hXl:Xs.length=P.length) (V:Za) (hV:V.length=4) (hs:∀ x ∈ V,ZcA x) (HS:AVal) (hS:Z6 HS=[]/\∀ ρ:Rho,Zs ρ HS=HS) (hl:Nat) (v:Int) :
  gcA 0 [.int .i64 v,.sl 0 0 0 P.length,.sl (P.length+1) 0 0 hl,.ref (P.length+2) 0,.ref (P.length+3) 0,.ref (P.length+4) 0,HS] (ZaX n P Xs V)=([.int .i64 v,.sl 0 0 0 P.length,.sl (P.length+1) 0 0 hl,.ref (P.length+2) 0,.ref (P.length+3) 0,.ref (P.length+4) 0,HS],ZaX n P Xs V):=by
 have h1:(P.zipIdx 1).map (·.2)=XT 1 P.length:=Zek ..
 have h2:(P.zipIdx 1).map (·.1)=P:=ZfM ..
 have hlz:(P.zipIdx 1).length=P.length:=Xa7 ..
 have key:=ZkC (n:=n) (ys:=P.zipIdx 1) (σ:=ZaX n P Xs V) (a:=0) (vs:=[P.length+1,P.length+2,P.length+3,P.length+4]) (Xs:=Xs) (Vs:=V) (rs:=[.int .i64 v,.sl 0 0 0 P.length,.sl (P.length+1) 0 0 hl,.ref (P.length+2) 0,.ref (P.length+3) 0,.ref (P.length+4) 0,HS]) (rs':=[.int .i64 v,.sl 0 0 0 P.length,.sl (P.length+1) 0 0 hl,.ref (P.length+2) 0,.ref (P.length+3) 0,.ref (P.length+4) 0,HS]) (by simp [ZZ,Z6,hS.1]) rfl
 rw [h1,h2,hlz] at key
 refine key ?_ hXl hV ?_ ?_ (by omega) (by simp) ?_
 ·rw [Wc]
  refine ⟨by simp [X6],?_⟩
  rw [WJ]
  refine ⟨WS,by simp,?_⟩
  intro x hx y hy e
  subst e
  rw [X6] at hx
  simp at hy
  omega
 ·intro i b X hb hX
  have hi:i < P.length:=by have:=(Xf.1 hX).1;omega
  rw [Wg hi] at hb
  injection hb with hb
  subst hb
  rw [show 1+1*i=i+1 by omega]
  exact ZhR n P V hX
 ·intro i w x hv hx
  refine ⟨Ze3 n P Xs hx ?_,hs x (Xx hx)⟩
  have hi:i < 4:=by have:=(Xf.1 hx).1;omega
  rcases i with _ | _ | _ | _ | i
  ·injection hv with hv;omega
  ·injection hv with hv;omega
  ·injection hv with hv;omega
  ·injection hv with hv;omega
  ·omega
 ·intro ρ r0 rv
  have v0:=rv 0 _ rfl
  have v1:=rv 1 _ rfl
  have v2:=rv 2 _ rfl
  have v3:=rv 3 _ rfl
  rw [show 1+P.length+0=P.length+1 by omega] at v0
  rw [show 1+P.length+1=P.length+2 by omega] at v1
  rw [show 1+P.length+2=P.length+3 by omega] at v2
  rw [show 1+P.length+3=P.length+4 by omega] at v3
  simp only [ZW,Zs,r0,v0,v1,v2,v3,hS.2]
end
section
def Zbc (s:Z5):List AVal:=[.str s.filter,.int .i64 s.qos,.bool s.noLocal,.bool s.asPublished,.int .i64 s.handling,.int .i64 s.id]
theorem ZF8 (m:ZcV):(Zj m).note.payload.length<=1000000000000:=by
 show (m.payload.take 300).length<=_
 rw [X9];omega
theorem ZvJ (M S0:AVal) (cs ds:List AVal):evC FC PRP BY 0 (.region [oI 3 (.box (.t 0)),oI 5 (.box (.t 2)),oI 6 (.mov (.c (.bool false)))] none [5,3,1]) (enterA 0 [.agg cs,S0,.agg ds] []) []=some (.normal,[(5,.ref 1 0),(3,.ref 0 0),(1,S0)],[.var cs,.var ds]):=by
 simp -implicitDefEqProofs only [EQA,ZE,ZB,ZG,ZC,ZF,ZD,ZP,ZS,ZQ,ZN,ZL,ZM,ZO,ZT,ZR,implies_true,forall_const,Xk,Xl,Xo,Xe,Xg,Xm,Xj,ZH,ZK,unA,Zu,Zz,unG,reduceCtorEq,Zo,decide_eq_true_eq,Xh,Xc,ite_self,↓reduceIte,Zy,ZI,gcT,gcA,Zm,Zf,Zd,Ze,Zk,Zc,Zl,Zg,Zp,Xd,ZbM,Zbv,Zce,Zcd,ZbD,Zb7,ZbF,Zci,ZbA,Zb9,Zbx,Zb5,ZbE,Zcb,Zbw,Zb1,Zbp,Zca,ZbG,Zr,Zh,Zi,Zb,Zx,ZJ,AVal.cells]
theorem ZzD (m:ZcV) (hm:ZdU m) (s:Z5) (S0:AVal):evC FC PRP BY 0 (.region [oI 14 (.ld (some 16) (.t 3)),oI 15 (.call 6 0 true [(.t 14)]),oI 16 (.field (some 10) 0 (.t 15)),oI 7 (.alloc [(.str []),(.lst true []),(.int .i64 0),(.bool false),(.str []),(.int .i64 0),(.lst true []),(.int .i64 0),(.int .i64 0),(.int .i64 0)]),oN (.st 10 (.t 7) (.t 16))] none [7,5,3,1]) [(5,.ref 1 0),(3,.ref 0 0),(1,S0)] [.var (mC m),.var (Zbc s)]=some (.normal,[(7,.ref 2 0),(5,.ref 1 0),(3,.ref 0 0),(1,S0)],[.var (mC m),.var (Zbc s),.var (ZX (Zj m).note)]):=by
 have hM:=fun σ sq own=>Zdo (ZhP σ sq own m hm)
 generalize (Zj m).ids.map (AVal.int .i64)=L3 at *
 generalize (Zj m).qos=iq at *
 generalize (Zj m).retain=ir at *
 generalize (Zj m).share=ish at *
 generalize (Zj m).note=n at *
 unfold mC at hM ⊢
 unfold ZX Zh Zi
 generalize n.payload.map Zn=L1 at *
 generalize n.props.map Zb=L2 at *
 simp -implicitDefEqProofs only [EQA,ZE,ZB,ZG,ZC,ZF,ZD,ZP,ZS,ZQ,ZN,ZL,ZM,ZO,ZT,ZR,implies_true,forall_const,Xk,Xl,Xo,Xe,Xg,Xm,Xj,ZH,ZK,unA,Zu,Zz,unG,reduceCtorEq,Zo,decide_eq_true_eq,Xh,Xc,ite_self,↓reduceIte,Zy,ZI,gcT,gcA,Zm,Zf,Zd,Ze,Zk,Zc,Zl,Zg,Zp,Xd,ZbM,Zbv,Zce,Zcd,ZbD,Zb7,ZbF,Zci,ZbA,Zb9,Zbx,Zb5,ZbE,Zcb,Zbw,Zb1,Zbp,Zca,ZbG,Zr,Zh,Zi,Zb,Zx,ZJ,hM,AVal.cells,Zae,Z1,Xi,Xp,Zap,Zat,ZaU,Zav,XZ,X3,Xi,Xp,Xq,Xy,ZaD,ZaE,ZaI,ZaJ,ZaL,XA,XD,Zaf,Zai,Zak,Zau,ZaA,Zaz,ZaH,ZaM,Zaq,ZaK,XJ,XR,Xi,Xp,XF]
theorem ZzI (hits:List Zaa) (σ:Za) (x7 x5 x3:AVal):evC FC PRP BY 0 (.region [oM 17 1,oI 18 (.call 7 0 true [(.t 17)]),oM 1 18] none [7,5,3,1]) [(7,x7),(5,x5),(3,x3),(1,.lst false (hits.map ZA))] σ=some (.normal,[(7,x7),(5,x5),(3,x3),(1,.lst false ((Z3 hits).map ZA))],σ):=by
 have hC:=fun σ sq own=>Zdo (ZFK hits σ sq own)
 generalize hits.map ZA=S at *
 generalize (Z3 hits).map ZA=S2 at *
 simp -implicitDefEqProofs only [EQA,ZE,ZB,ZG,ZC,ZF,ZD,ZP,ZS,ZQ,ZN,ZL,ZM,ZO,ZT,ZR,implies_true,forall_const,Xk,Xl,Xo,Xe,Xg,Xm,Xj,ZH,ZK,unA,Zu,Zz,unG,reduceCtorEq,Zo,decide_eq_true_eq,Xh,Xc,ite_self,↓reduceIte,Zy,ZI,gcT,gcA,Zm,Zf,Zd,Ze,Zk,Zc,Zl,Zg,Zp,Xd,ZbM,Zbv,Zce,Zcd,ZbD,Zb7,ZbF,Zci,ZbA,Zb9,Zbx,Zb5,ZbE,Zcb,Zbw,Zb1,Zbp,Zca,ZbG,Zr,Zh,Zi,Zb,Zx,ZJ,hC]
theorem Zx2 (X:List AVal) (hx:X.length<=30) (hk:kOk 7 X=true) (A0 A1 A2:Zq) (x7 x5 x3:AVal):evC FC PRP BY 0 (.region [oI 19 (.bslice false 7 0 (.agg [(.str []),(.str []),(.int .i64 0),(.bool false),(.bool false),(.int .i64 0),(.int .i64 0)]) []),oM 20 1,oI 21 (.app 7 64 (.agg [(.str []),(.str []),(.int .i64 0),(.bool false),(.bool false),(.int .i64 0),(.int .i64 0)]) (.t 19) (.t 20)),oM 8 21] none [8,7,5,3,1]) [(7,x7),(5,x5),(3,x3),(1,.lst false X)] [A0,A1,A2]=some (.normal,[(8,.sl 3 0 0 X.length),(7,x7),(5,x5),(3,x3),(1,.lst false X)],[A0,A1,A2,.row 0 7 X]):=by
 have h64:X.length*64<=140737488355328:=by omega
 simp -implicitDefEqProofs only [EQA,ZE,ZB,ZG,ZC,ZF,ZD,ZP,ZS,ZQ,ZN,ZL,ZM,ZO,ZT,ZR,implies_true,forall_const,Xk,Xl,Xo,Xe,Xg,Xm,Xj,ZH,ZK,unA,Zu,Zz,unG,reduceCtorEq,Zo,decide_eq_true_eq,Xh,Xc,ite_self,↓reduceIte,Zy,ZI,gcT,gcA,Zm,Zf,Zd,Ze,Zk,Zc,Zl,Zg,Zp,Xd,ZbM,Zbv,Zce,Zcd,ZbD,Zb7,ZbF,Zci,ZbA,Zb9,Zbx,Zb5,ZbE,Zcb,Zbw,Zb1,Zbp,Zca,ZbG,Zr,Zh,Zi,Zb,Zx,ZJ,hk,h64,AVal.cells,Zap,Zat,ZaU,Zav,XZ,X3,Xi,Xp,Xq,Xy,ZaD,ZaE,ZaI,ZaJ,ZaL,XA,XD,Zaf,Zai,Zak,Zau,ZaA,Zaz,ZaH,ZaM,Zaq,ZaK,XJ,XR,Xi,Xp,XF,Zaj,viewAs,Zao,Zad,Zag,ZV,XM,Wj,X0,Xj,Xe,XI]
theorem Zzs (H:List Zaa):kOk 7 (H.map ZA)=true:=by
 cases H with
 | nil=>rfl
 | cons h H=>rfl
theorem Zyf {n:ZU} {A0 A1 A2:Zq} {hl:Nat} {R:AVal} {σ':Za} {c:Cls} (X:List AVal) (v5 v3 v1:AVal) (hA:A2=.var (ZX n)) (hR:(∃ k,R=.sl 4 0 0 k)\/R=.lst true []) (h:Z4 EP BY ([A0,A1,A2,.row 0 7 X]++Xr 31 .free) 4 8 31 false [.agg [.str n.topic,.lst false (n.payload.map Zn),.int .i64 n.qos,.bool n.retain,.str n.sender,.int .i64 n.expires,.lst false (n.props.map Zb),.int .i64 n.origin,.int .i64 n.number,.int .i64 n.hops],.sl 3 0 0 hl]=some (R,σ',c)) :
  evC FC PRP BY 0 (.region [oI 22 (.ld (some 10) (.t 7)),oM 23 8,oI 24 (.call 8 31 false [(.t 22),(.t 23)]),oM 9 24] none [9,8,7,5,3,1]) [(8,.sl 3 0 0 hl),(7,.ref 2 0),(5,v5),(3,v3),(1,v1)] [A0,A1,A2,.row 0 7 X]=some (.normal,[(9,R),(8,.sl 3 0 0 hl),(7,.ref 2 0),(5,v5),(3,v3),(1,v1)],σ'):=by
 subst hA
 unfold ZX Zh Zi at *
 generalize n.payload.map Zn=L1 at *
 generalize n.props.map Zb=L2 at *
 simp only [X1,XI,List.reduceReplicate] at h
 rcases hR with ⟨k,rfl⟩ | rfl
 all_goals
  simp -implicitDefEqProofs only [EQA,ZE,ZB,ZG,ZC,ZF,ZD,ZP,ZS,ZQ,ZN,ZL,ZM,ZO,ZT,ZR,implies_true,forall_const,Xk,Xl,Xo,Xe,Xg,Xm,Xj,ZH,ZK,unA,Zu,Zz,unG,reduceCtorEq,Zo,decide_eq_true_eq,Xh,Xc,ite_self,↓reduceIte,Zy,ZI,gcT,gcA,Zm,Zf,Zd,Ze,Zk,Zc,Zl,Zg,Zp,Xd,ZbM,Zbv,Zce,Zcd,ZbD,Zb7,ZbF,Zci,ZbA,Zb9,Zbx,Zb5,ZbE,Zcb,Zbw,Zb1,Zbp,Zca,ZbG,Zr,Zh,Zi,Zb,Zx,ZJ,h,AVal.cells,Wh,WL,Wi,WF,Zap,Zat,ZaU,Zav,XZ,X3,Xi,Xp,Xq,Xy,ZaD,ZaE,ZaI,ZaJ,ZaL,XA,XD,Zaf,Zai,Zak,Zau,ZaA,Zaz,ZaH,ZaM,Zaq,ZaK,XJ,XR,Xi,Xp,XF]
end
section
theorem ZzG (σ:Za) (v9 v8 v7 v5 v3 v1:AVal):evC FC PRP BY 0 (.region [oI 10 (.mov (.c (.int .i64 0)))] none [10,9,8,7,5,3,1]) [(9,v9),(8,v8),(7,v7),(5,v5),(3,v3),(1,v1)] σ=some (.normal,[(10,.int .i64 0),(9,v9),(8,v8),(7,v7),(5,v5),(3,v3),(1,v1)],σ):=by
 simp -implicitDefEqProofs only [EQA,ZE,ZB,ZG,ZC,ZF,ZD,ZP,ZS,ZQ,ZN,ZL,ZM,ZO,ZT,ZR,implies_true,forall_const,Xk,Xl,Xo,Xe,Xg,Xm,Xj,ZH,ZK,unA,Zu,Zz,unG,reduceCtorEq,Zo,decide_eq_true_eq,Xh,Xc,ite_self,↓reduceIte,Zy,ZI,gcT,gcA,Zm,Zf,Zd,Ze,Zk,Zc,Zl,Zg,Zp,Xd,ZbM,Zbv,Zce,Zcd,ZbD,Zb7,ZbF,Zci,ZbA,Zb9,Zbx,Zb5,ZbE,Zcb,Zbw,Zb1,Zbp,Zca,ZbG,Zr,Zh,Zi,Zb,Zx,ZJ,AVal.cells]
theorem ZlO {cs:List AVal} (h:ZZ cs=[]) (h2:∀ ρ:Rho,ZW ρ cs=cs):ZcA (.var cs):=⟨h,fun ρ=>by simp only [Zg,h2],rfl,by simp⟩
theorem ZD1 (m:ZcV) (hm:ZdU m) (hits:List Zaa) (s:Z5) (hP:0 < (Zaw (Zj m).note (Z3 hits)).length):EP 5 [.agg (mC m),.lst false (hits.map ZA),Zas s] []=some (.bool true,[]):=by
 have hn:=Zww m
 have hH:=Zwr hits
 have hPl:(Zaw (Zj m).note (Z3 hits)).length<=30:=Nat.le_trans (ZGb _ _) hH
 have hL:((Z3 hits).map ZA).length=(Z3 hits).length:=XL ..
 have hpl:Z4 EP BY ([.var (mC m),.var (Zbc s),.var (ZX (Zj m).note),.row 0 7 ((Z3 hits).map ZA)]++Xr 31 .free) 4 8 31 false [.agg [.str (Zj m).note.topic,.lst false ((Zj m).note.payload.map Zn),.int .i64 (Zj m).note.qos,.bool (Zj m).note.retain,.str (Zj m).note.sender,.int .i64 (Zj m).note.expires,.lst false ((Zj m).note.props.map Zb),.int .i64 (Zj m).note.origin,.int .i64 (Zj m).note.number,.int .i64 (Zj m).note.hops],.sl 3 0 0 (Z3 hits).length]=some (.sl 4 0 0 (Zaw (Zj m).note (Z3 hits)).length,[.var (mC m),.var (Zbc s),.var (ZX (Zj m).note),.frow 0 7 ((Z3 hits).map ZA)]++(.rrow 0 15 (ZY (Zj m).note 5 (Zaw (Zj m).note (Z3 hits)))::(Xr (Zaw (Zj m).note (Z3 hits)).length (.row 0 1 ((Zj m).note.payload.map Zn))++Xr (30 - (Zaw (Zj m).note (Z3 hits)).length) .free)),{ any:=true }):=ZBX (Zj m).note hn (Z3 hits) hH [.var (mC m),.var (Zbc s),.var (ZX (Zj m).note),.row 0 7 ((Z3 hits).map ZA)] 3 rfl hP hPl
 have h5:=Zyf ((Z3 hits).map ZA) (.ref 1 0) (.ref 0 0) (.lst false ((Z3 hits).map ZA)) rfl (XH ⟨_,rfl⟩) hpl
 have sF:ZcA (.frow 0 7 ((Z3 hits).map ZA)):=⟨rfl,fun _=>rfl,rfl,by simp⟩
 have sm:ZcA (.var (mC m)):=ZlO rfl (fun _=>rfl)
 have ss:ZcA (.var (Zbc s)):=ZlO rfl (fun _=>rfl)
 have sn:ZcA (.var (ZX (Zj m).note)):=ZlO rfl (fun _=>rfl)
 have hS:Z6 (.lst false ((Z3 hits).map ZA))=[]/\∀ ρ:Rho,Zs ρ (.lst false ((Z3 hits).map ZA))=.lst false ((Z3 hits).map ZA):=⟨rfl,fun _=>rfl⟩
 have g1:=ZDo (Zj m).note (Zaw (Zj m).note (Z3 hits)) hPl ((Zj m).note.payload.map Zn) (.frow 0 7 ((Z3 hits).map ZA)) _ _ _ sm ss sn sF (30 - (Zaw (Zj m).note (Z3 hits)).length) _ hS (Z3 hits).length 0
 have g2:=fun v=>ZEX (Zj m).note (Zaw (Zj m).note (Z3 hits)) hPl (Xr (Zaw (Zj m).note (Z3 hits)).length ((Zj m).note.payload.map Zn)) (WN ..) [.frow 0 7 ((Z3 hits).map ZA),.var (ZX (Zj m).note),.var (Zbc s),.var (mC m)] rfl (fun x hx=>by
  simp only [XP,XaY,or_false] at hx
  rcases hx with rfl | rfl | rfl | rfl
  ·exact sF
  ·exact sn
  ·exact ss
  ·exact sm) _ hS (Z3 hits).length v
 have hlp:=ZpJ (ZaX (Zj m).note (Zaw (Zj m).note (Z3 hits)) (Xr (Zaw (Zj m).note (Z3 hits)).length ((Zj m).note.payload.map Zn)) [.frow 0 7 ((Z3 hits).map ZA),.var (ZX (Zj m).note),.var (Zbc s),.var (mC m)]) (.sl 0 0 0 (Zaw (Zj m).note (Z3 hits)).length) ((Zaw (Zj m).note (Z3 hits)).length+1) ((Zaw (Zj m).note (Z3 hits)).length+1) (Z3 hits) hH (XH (Ze3 _ _ _ (j:=0) rfl (by rw [WN];omega)))
  (fun v=>ZgN (g2 v)) (Z3 hits).length 0 (by omega)
 obtain ⟨σ',hk⟩:=ZBz m hm hn s (Z3 hits) (Zxz hits) hH hPl (ZF8 m) (.frow 0 7 ((Z3 hits).map ZA)) (.bool false) (.int .i64 ((Z3 hits).length:Int)) (.sl ((Zaw (Zj m).note (Z3 hits)).length+1) 0 0 (Z3 hits).length)
 have lp:=Zf5 (id:=0) (live:=[10,9,8,7,5,3,1]) (tm:=[(10,.int .i64 0),(9,.sl 4 0 0 (Zaw (Zj m).note (Z3 hits)).length),(8,.sl 3 0 0 (Z3 hits).length),(7,.ref 2 0),(5,.ref 1 0),(3,.ref 0 0),(1,.lst false ((Z3 hits).map ZA))]) (σ:=[.var (mC m),.var (Zbc s),.var (ZX (Zj m).note),.frow 0 7 ((Z3 hits).map ZA)]++(.rrow 0 15 (ZY (Zj m).note 5 (Zaw (Zj m).note (Z3 hits)))::(Xr (Zaw (Zj m).note (Z3 hits)).length (.row 0 1 ((Zj m).note.payload.map Zn))++Xr (30 - (Zaw (Zj m).note (Z3 hits)).length) .free))) (show gcT 0 [(10,.int .i64 0),(9,.sl 4 0 0 (Zaw (Zj m).note (Z3 hits)).length),(8,.sl 3 0 0 (Z3 hits).length),(7,.ref 2 0),(5,.ref 1 0),(3,.ref 0 0),(1,.lst false ((Z3 hits).map ZA))] _=_ by
  unfold gcT
  simp only [Xw,XS]
  rw [g1];rfl) hlp
 have h4:=Zx2 ((Z3 hits).map ZA) (by omega) (Zzs _) (.var (mC m)) (.var (Zbc s)) (.var (ZX (Zj m).note)) (.ref 2 0) (.ref 1 0) (.ref 0 0)
 rw [hL] at h4
 rw [ZhA (by rfl) Zzr,ZbM]
 unfold Zbv
 have h1:=ZvJ (.agg (mC m)) (.lst false (hits.map ZA)) (mC m) (Zbc s)
 rw [show ([]:Za).length=0 from rfl,show Zas s=.agg (Zbc s) from rfl]
 rw [Zbk h1,Zbk (ZzD m hm s _),Zbk (ZzI hits _ _ _ _),Zbk h4,Zbk h5,Zbk ((Zbk (ZzG _ _ _ _ _ _ _)).trans lp)]
 exact (congrArg (Za4 0 Zir) hk).trans rfl
end
section
theorem ZCU (f g:Bool):E 11 [.lst f [],.lst g []] []=some (.bool true,[]):=by
 have z:((0:Nat):Int)=0:=rfl
 have z0:¬(0:Int) < 0:=by omega
 rw [ZcU (by rfl) ZvK]
 have h1:evL FC PR BY 0 [5,1,0] Ziw [(5,.int .i64 0),(1,.lst g []),(0,.lst f [])] []=some (.exit 0,[(14,.bool false),(5,.int .i64 0),(1,.lst g []),(0,.lst f [])],[]):=by
  refine Zfw ?_
  simp -implicitDefEqProofs only [EQA,ZE,ZB,ZG,ZC,ZF,ZD,ZP,ZS,ZQ,ZN,ZL,ZM,ZO,ZT,ZR,implies_true,forall_const,Xk,Xl,Xo,Xe,Xg,Xm,Xj,ZH,ZK,unA,Zu,Zz,unG,reduceCtorEq,Zo,decide_eq_true_eq,Xh,Xc,ite_self,↓reduceIte,Zy,ZI,gcT,gcA,Zm,Zf,Zd,Ze,Zk,Zc,Zl,Zg,Zp,Xd,Zfg,Zee,ZfB,ZfN,ZeS,ZfA,ZeK,Zr,Zh,Zi,Zb,Zx,ZJ,Xy,z,z0]
 simp -implicitDefEqProofs only [EQA,ZE,ZB,ZG,ZC,ZF,ZD,ZP,ZS,ZQ,ZN,ZL,ZM,ZO,ZT,ZR,implies_true,forall_const,Xk,Xl,Xo,Xe,Xg,Xm,Xj,ZH,ZK,unA,Zu,Zz,unG,reduceCtorEq,Zo,decide_eq_true_eq,Xh,Xc,ite_self,↓reduceIte,Zy,ZI,gcT,gcA,Zm,Zf,Zd,Ze,Zk,Zc,Zl,Zg,Zp,Xd,Zfg,Zee,ZfB,ZfN,ZeS,ZfA,ZeK,Zr,Zh,Zi,Zb,Zx,ZJ,h1,Xy,z,z0,bne_self_eq_false]
theorem ZBt (σ:Za) (sq:Nat):Z4 EP BY σ sq 11 0 true [.lst true [],.lst false []]=some (.bool true,σ,{}):=by
 refine Zdo ?_
 have h:=ZCU true false
 have hb:BY 11=true:=by kernel_rfl
 unfold Z4 ZcZ
 rw [hb]
 simp only [if_true,show ZZ [AVal.lst true [],.lst false []]=[] from rfl]
 have hre:∀ σ:Za,Zf σ 1000 [] []=[]:=fun _=>rfl
 rw [hre]
 unfold Zck
 rw [if_pos (by rfl)]
 have ha:∀ ρ:Rho,ZW ρ [AVal.lst true [],.lst false []]=[.lst true [],.lst false []]:=fun _=>rfl
 have hh:∀ (σ:Za) (ρ:Rho),Ze σ 0 [] ρ [] 0=[]:=fun _ _=>rfl
 rw [ha,hh,h]
 rfl
theorem ZDa (m:ZcV) (hm:ZdU m) (hits:List Zaa) (s:Z5) (hP:Zaw (Zj m).note (Z3 hits)=[]):EP 5 [.agg (mC m),.lst false (hits.map ZA),Zas s] []=some (.bool true,[]):=by
 have hn:=Zww m
 have hH:=Zwr hits
 have hL:((Z3 hits).map ZA).length=(Z3 hits).length:=XL ..
 obtain ⟨σ1,c,hpl,hσ⟩:=ZBD (Zj m).note hn (Z3 hits) hH [.var (mC m),.var (Zbc s),.var (ZX (Zj m).note),.row 0 7 ((Z3 hits).map ZA)] 3 rfl hP
 have h5:=Zyf ((Z3 hits).map ZA) (.ref 1 0) (.ref 0 0) (.lst false ((Z3 hits).map ZA)) rfl (XO rfl) hpl
 obtain ⟨F,hF,hσ⟩:∃ F:Zq,(F=.row 0 7 ((Z3 hits).map ZA)\/F=.frow 0 7 ((Z3 hits).map ZA))/\σ1=[.var (mC m),.var (Zbc s),.var (ZX (Zj m).note),F]++Xr 31 .free:=by
  rcases hσ with h | h
  ·exact ⟨_,XH rfl,h⟩
  ·exact ⟨_,XO rfl,h⟩
 subst hσ
 have g1:gcT 0 [(10,.int .i64 0),(9,.lst true []),(8,.sl 3 0 0 (Z3 hits).length),(7,.ref 2 0),(5,.ref 1 0),(3,.ref 0 0),(1,.lst false ((Z3 hits).map ZA))] ([.var (mC m),.var (Zbc s),.var (ZX (Zj m).note),F]++Xr 31 .free)=((10,.int .i64 ((0:Nat):Int))::Zd8 (.lst true []) 0 0 (Z3 hits).length (.lst false ((Z3 hits).map ZA)),[F,.var (ZX (Zj m).note),.var (Zbc s),.var (mC m)]):=by
  rcases hF with rfl | rfl <;> rfl
 have g2:∀ v:Int,gcT 0 ((10,.int .i64 v)::Zd8 (.lst true []) 0 0 (Z3 hits).length (.lst false ((Z3 hits).map ZA))) [F,.var (ZX (Zj m).note),.var (Zbc s),.var (mC m)]=((10,.int .i64 v)::Zd8 (.lst true []) 0 0 (Z3 hits).length (.lst false ((Z3 hits).map ZA)),[F,.var (ZX (Zj m).note),.var (Zbc s),.var (mC m)]):=by
  intro v
  rcases hF with rfl | rfl <;> rfl
 have g3:gcT 0 [(11,.int .i64 0),(9,.lst true []),(7,.ref 1 0),(5,.ref 2 0),(3,.ref 3 0)] [F,.var (ZX (Zj m).note),.var (Zbc s),.var (mC m)]=([(11,.int .i64 0),(9,.lst true []),(7,.ref 0 0),(5,.ref 1 0),(3,.ref 2 0)],[.var (ZX (Zj m).note),.var (Zbc s),.var (mC m)]):=by
  rcases hF with rfl | rfl <;> rfl
 have hlp:=ZpJ [F,.var (ZX (Zj m).note),.var (Zbc s),.var (mC m)] (.lst true []) 0 0 (Z3 hits) hH (by rcases hF with rfl | rfl;exact XO rfl;exact XH rfl) g2 (Z3 hits).length 0 (by omega)
 have lp:=Zf5 (id:=0) (live:=[10,9,8,7,5,3,1]) (tm:=[(10,.int .i64 0),(9,.lst true []),(8,.sl 3 0 0 (Z3 hits).length),(7,.ref 2 0),(5,.ref 1 0),(3,.ref 0 0),(1,.lst false ((Z3 hits).map ZA))]) g1 hlp
 have l13:evL FC PRP BY 0 [11,9,7,5,3] Zhg [(11,.int .i64 0),(9,.lst true []),(7,.ref 0 0),(5,.ref 1 0),(3,.ref 2 0)] [.var (ZX (Zj m).note),.var (Zbc s),.var (mC m)]=some (.exit 2,[(51,.bool false),(11,.int .i64 0),(9,.lst true []),(7,.ref 0 0),(5,.ref 1 0),(3,.ref 2 0)],[.var (ZX (Zj m).note),.var (Zbc s),.var (mC m)]):=by
  have z:((0:Nat):Int)=0:=rfl
  have z0:¬(0:Int) < 0:=by omega
  refine Zfw ?_
  rw [Zk0]
  simp -implicitDefEqProofs only [EQA,ZE,ZB,ZG,ZC,ZF,ZD,ZP,ZS,ZQ,ZN,ZL,ZM,ZO,ZT,ZR,implies_true,forall_const,Xk,Xl,Xo,Xe,Xg,Xm,Xj,ZH,ZK,unA,Zu,Zz,unG,reduceCtorEq,Zo,decide_eq_true_eq,Xh,Xc,ite_self,↓reduceIte,Zy,ZI,gcT,gcA,Zm,Zf,Zd,Ze,Zk,Zc,Zl,Zg,Zp,Xd,ZbM,Zbv,Zce,Zcd,ZbD,Zb7,ZbF,Zci,ZbA,Zb9,Zbx,Zb5,ZbE,Zcb,Zbw,Zb1,Zbp,Zca,ZbG,Zr,Zh,Zi,Zb,Zx,ZJ,Xy,z,z0]
 have lp2:=Zf5 (id:=2) (live:=[11,9,7,5,3]) (tm:=[(11,.int .i64 0),(9,.lst true []),(7,.ref 1 0),(5,.ref 2 0),(3,.ref 3 0)]) g3 l13
 obtain ⟨σ',hk0⟩:=Zv0 [.var (ZX (Zj m).note),.var (Zbc s),.var (mC m)] m hm hn s 0 1 2 (.bool false) (.int .i64 0) (.lst true []) rfl rfl rfl
 have hR:=fun σ sq own=>Zdo (ZvY σ sq own (Zj m).note (Z3 hits) (by omega) false)
 rw [ZvW (Zj m).note (Z3 hits) (Zxz hits),hP] at hR
 have hM:=fun σ sq own=>Zdo (ZhP σ sq own m hm)
 have hA:=ZBt
 have h4:=Zx2 ((Z3 hits).map ZA) (by omega) (Zzs _) (.var (mC m)) (.var (Zbc s)) (.var (ZX (Zj m).note)) (.ref 2 0) (.ref 1 0) (.ref 0 0)
 rw [hL] at h4
 have s1:∀ (v10 v8:AVal),evC FC PRP BY 0 (.seq (.region [oM 40 9,oI 41 (.ld (some 16) (.t 3)),oI 42 (.call 6 0 true [(.t 41)]),oI 43 (.field (some 10) 0 (.t 42)),oM 44 1,oI 45 (.call 12 0 true [(.t 43),(.t 44)]),oI 46 (.call 11 0 true [(.t 40),(.t 45)]),oI 47 (.un .not (.t 46))] none [47,9,7,5,3]) (.cond (.t 47) (.seq (.region [oI 6 (.mov (.c (.bool false)))] none [6]) .ret) .skip)) [(28,.bool false),(10,v10),(9,.lst true []),(8,v8),(7,.ref 1 0),(5,.ref 2 0),(3,.ref 3 0),(1,.lst false ((Z3 hits).map ZA))] [F,.var (ZX (Zj m).note),.var (Zbc s),.var (mC m)]=some (.normal,[(47,.bool false),(9,.lst true []),(7,.ref 1 0),(5,.ref 2 0),(3,.ref 3 0)],[F,.var (ZX (Zj m).note),.var (Zbc s),.var (mC m)]):=by
  intro v10 v8
  have m3:[F,.var (ZX (Zj m).note),.var (Zbc s),.var (mC m)][3]?=some (.var (mC m)):=rfl
  generalize [F,.var (ZX (Zj m).note),.var (Zbc s),.var (mC m)]=σ at *
  generalize (Z3 hits).map ZA=HS at *
  generalize (Zj m).ids.map (AVal.int .i64)=L3 at *
  generalize (Zj m).qos=iq at *
  generalize (Zj m).retain=ir at *
  generalize (Zj m).share=ish at *
  generalize (Zj m).note=n at *
  rw [XS] at hR
  unfold mC at hM m3
  generalize n.payload.map Zn=L1 at *
  generalize n.props.map Zb=L2 at *
  simp -implicitDefEqProofs only [EQA,ZE,ZB,ZG,ZC,ZF,ZD,ZP,ZS,ZQ,ZN,ZL,ZM,ZO,ZT,ZR,implies_true,forall_const,Xk,Xl,Xo,Xe,Xg,Xm,Xj,ZH,ZK,unA,Zu,Zz,unG,reduceCtorEq,Zo,decide_eq_true_eq,Xh,Xc,ite_self,↓reduceIte,Zy,ZI,gcT,gcA,Zm,Zf,Zd,Ze,Zk,Zc,Zl,Zg,Zp,Xd,ZbM,Zbv,Zce,Zcd,ZbD,Zb7,ZbF,Zci,ZbA,Zb9,Zbx,Zb5,ZbE,Zcb,Zbw,Zb1,Zbp,Zca,ZbG,Zr,Zh,Zi,Zb,Zx,ZJ,hM,hR,hA,m3,AVal.cells]
 have s2:evC FC PRP BY 0 (.region [oI 11 (.mov (.c (.int .i64 0)))] none [11,9,7,5,3]) [(47,.bool false),(9,.lst true []),(7,.ref 1 0),(5,.ref 2 0),(3,.ref 3 0)] [F,.var (ZX (Zj m).note),.var (Zbc s),.var (mC m)]=some (.normal,[(11,.int .i64 0),(9,.lst true []),(7,.ref 1 0),(5,.ref 2 0),(3,.ref 3 0)],[F,.var (ZX (Zj m).note),.var (Zbc s),.var (mC m)]):=by
  simp -implicitDefEqProofs only [EQA,ZE,ZB,ZG,ZC,ZF,ZD,ZP,ZS,ZQ,ZN,ZL,ZM,ZO,ZT,ZR,implies_true,forall_const,Xk,Xl,Xo,Xe,Xg,Xm,Xj,ZH,ZK,unA,Zu,Zz,unG,reduceCtorEq,Zo,decide_eq_true_eq,Xh,Xc,ite_self,↓reduceIte,Zy,ZI,gcT,gcA,Zm,Zf,Zd,Ze,Zk,Zc,Zl,Zg,Zp,Xd,ZbM,Zbv,Zce,Zcd,ZbD,Zb7,ZbF,Zci,ZbA,Zb9,Zbx,Zb5,ZbE,Zcb,Zbw,Zb1,Zbp,Zca,ZbG,Zr,Zh,Zi,Zb,Zx,ZJ,AVal.cells]
 have hk:evC FC PRP BY 0 ZhZ [(28,.bool false),(10,.int .i64 ((Z3 hits).length:Int)),(9,.lst true []),(8,.sl 0 0 0 (Z3 hits).length),(7,.ref 1 0),(5,.ref 2 0),(3,.ref 3 0),(1,.lst false ((Z3 hits).map ZA))] [F,.var (ZX (Zj m).note),.var (Zbc s),.var (mC m)]=some (.ret,[(6,.bool true)],σ'):=by
  rw [Zy8]
  unfold Zbp
  rw [Zbk (s1 _ _),Zbk ((Zbk s2).trans lp2)]
  exact hk0
 rw [ZhA (by rfl) Zzr,ZbM]
 unfold Zbv
 have h1:=ZvJ (.agg (mC m)) (.lst false (hits.map ZA)) (mC m) (Zbc s)
 rw [show ([]:Za).length=0 from rfl,show Zas s=.agg (Zbc s) from rfl]
 rw [Zbk h1,Zbk (ZzD m hm s _),Zbk (ZzI hits _ _ _ _),Zbk h4,Zbk h5,Zbk ((Zbk (ZzG _ _ _ _ _ _ _)).trans lp)]
 exact (congrArg (Za4 0 Zir) hk).trans rfl
theorem ZEZ (m:ZcV) (hm:ZdU m) (hits:List Zaa) (s:Z5):EP 5 [.agg (mC m),.lst false (hits.map ZA),Zas s] []=some (.bool true,[]):=by
 cases h:Zaw (Zj m).note (Z3 hits) with
 | nil=>exact ZDa m hm hits s h
 | cons x xs=>exact ZD1 m hm hits s (by rw [h];simp)
end
section
open Go.RowKit
theorem ZwG {α:Type} {T:Ty} {s:Bool} {f:α->AVal} (h:∀ y,TyC T y->∃ a,Zcz s y=f a) {xs:List AVal} (hx:TyC (.slice s T) xs):∃ l:List α,xs=[.lst false (l.map f)]/\l.length<=9223372036854775807:=by
 simp only [TyC] at hx
 obtain ⟨ys,rfl,h1,h2⟩:=hx
 have : ∀ ys:List (List AVal),(∀ y ∈ ys,TyC T y)->∃ l:List α,ys.map (Zcz s)=l.map f:=by
  intro ys
  induction ys with
  | nil=>intro _;exact ⟨[],rfl⟩
  | cons y ys ih =>
   intro hy
   obtain ⟨a,ha⟩:=h y (hy y (by simp))
   obtain ⟨l,hl⟩:=ih fun y' h'=>hy y' (by simp [h'])
   exact ⟨a::l,by simp [ha,hl]⟩
 obtain ⟨l,hl⟩:=this ys h2
 refine ⟨l,by rw [hl],?_⟩
 have:=congrArg List.length hl
 simp only [XL] at this
 omega
theorem ZDS {y:List AVal} (h:TyC (.int .u8) y):∃ b,Zcz false y=Zn b:=by
 simp only [TyC] at h
 obtain ⟨n,hw,rfl⟩:=h
 have h1:0<=n/\n<=255:=by
  simp only [Lit.wf,Bool.and_eq_true,decide_eq_true_eq] at hw
  exact hw
 refine ⟨UInt8.ofNat n.toNat,?_⟩
 simp only [Zcz,Xu,if_false,Xbn,Zn,AVal.int.injEq,true_and]
 rw [UInt8.toNat_ofNat']
 omega
theorem Zgt {xs:List AVal} (h:TyC (.slice false (.int .u8)) xs):∃ b:Zt,xs=[Zh b]/\b.length<=9223372036854775807:=ZwG (fun _=>ZDS) h
theorem ZE4 {xs:List AVal} (h:TyC (.slice false (.int .i64)) xs):∃ b:List Int,xs=[Zr b]/\b.length<=9223372036854775807:=ZwG (fun y hy=>by
 simp only [TyC] at hy
 obtain ⟨n,_,rfl⟩:=hy
 exact ⟨n,rfl⟩) h
def ZEi:Ty:=.struct [.int .i64,.int .i64,.str,.str,.slice false (.int .u8)]
def ZEV:Ty:=.struct [.str,.slice false (.int .u8),.int .i64,.bool,.str,.int .i64,.slice true ZEi,.int .i64,.int .i64,.int .i64]
def ZzR:Ty:=.struct [ZEV,.int .i64,.bool,.slice false (.int .i64),.str]
example:ZdL Try.prog 8 33=some ZzR:=by kernel_rfl
example:ZdV (Try.prog.underlying 33)=true:=by kernel_rfl
end
section
open Go.RowKit
def Zro:Ty:=.struct [.slice false (.int .u8),.slice false (.int .u8),.slice false (.int .u8),.slice false (.int .u8),.int .i64,.int .i64,.bool,.bool,.int .i64,.struct [.int .i64,.slice false (.int .u8),.slice false (.int .u8),.slice false (.int .u8)],.slice false (.int .i64),.int .i64,.int .i64]
theorem ZAw {x:AVal} (h:Zkn true Zro x):∃ m,ZdU m/\x=.agg (mC m):=by
 obtain ⟨y,h,rfl⟩:=h
 unfold Zro at h
 rw [TyC] at h
 simp only [Zeo] at h
 obtain ⟨_,_,rfl,h1,_,_,rfl,h2,_,_,rfl,h3,_,_,rfl,h4,_,_,rfl,h5,_,_,rfl,h6,_,_,rfl,h7,_,_,rfl,h8,_,_,rfl,h9,_,_,rfl,h10,_,_,rfl,h11,_,_,rfl,h12,_,_,rfl,h13,rfl⟩:=h
 rw [TyC] at h10
 simp only [Zeo] at h10
 obtain ⟨_,_,rfl,g1,_,_,rfl,g2,_,_,rfl,g3,_,_,rfl,g4,rfl⟩:=h10
 obtain ⟨b1,rfl,l1⟩:=Zgt h1
 obtain ⟨b2,rfl,l2⟩:=Zgt h2
 obtain ⟨b3,rfl,l3⟩:=Zgt h3
 obtain ⟨b4,rfl,l4⟩:=Zgt h4
 obtain ⟨c2,rfl,m2⟩:=Zgt g2
 obtain ⟨c3,rfl,m3⟩:=Zgt g3
 obtain ⟨c4,rfl,m4⟩:=Zgt g4
 obtain ⟨is,rfl,li⟩:=ZE4 h11
 simp only [TyC] at h5 h6 h7 h8 h9 h12 h13 g1
 obtain ⟨a5,_,rfl⟩:=h5
 obtain ⟨a6,_,rfl⟩:=h6
 obtain ⟨a7,rfl⟩:=h7
 obtain ⟨a8,rfl⟩:=h8
 obtain ⟨a9,_,rfl⟩:=h9
 obtain ⟨a12,_,rfl⟩:=h12
 obtain ⟨a13,_,rfl⟩:=h13
 obtain ⟨f1,_,rfl⟩:=g1
 exact ⟨⟨b1,b2,b3,b4,a5,a6,a7,a8,a9,⟨f1,c2,c3,c4⟩,is,a12,a13⟩,⟨l1,l2,l3,m2,m4,li⟩,rfl⟩
end
section
open Go.RowKit
def Zu2:Ty:=.slice true (.struct [.str,.struct [.str,.int .i64,.bool,.bool,.int .i64,.int .i64]])
theorem ZEH {x:AVal} (h:Zkn false Zu2 x):∃ l:List Zaa,x=.lst false (l.map ZA):=by
 obtain ⟨y,h,rfl⟩:=h
 simp only [Zu2,TyC] at h
 obtain ⟨ys,rfl,h1,h2⟩:=h
 have : ∀ ys:List (List AVal),(∀ y ∈ ys,Zeo [.str,.struct [.str,.int .i64,.bool,.bool,.int .i64,.int .i64]] y)->∃ l:List Zaa,ys.map (Zcz true)=l.map ZA:=by
  intro ys
  induction ys with
  | nil=>intro _;exact ⟨[],rfl⟩
  | cons y ys ih =>
   intro hy
   have hy0:=hy y (by simp)
   simp only [Zeo] at hy0
   obtain ⟨_,_,rfl,h1,_,_,rfl,h2,rfl⟩:=hy0
   rw [TyC] at h2
   simp only [Zeo] at h2
   obtain ⟨_,_,rfl,g1,_,_,rfl,g2,_,_,rfl,g3,_,_,rfl,g4,_,_,rfl,g5,_,_,rfl,g6,rfl⟩:=h2
   simp only [TyC] at h1 g1 g2 g3 g4 g5 g6
   obtain ⟨c,_,rfl⟩:=h1
   obtain ⟨f,_,rfl⟩:=g1
   obtain ⟨q,_,rfl⟩:=g2
   obtain ⟨a,rfl⟩:=g3
   obtain ⟨p,rfl⟩:=g4
   obtain ⟨hd,_,rfl⟩:=g5
   obtain ⟨i,_,rfl⟩:=g6
   obtain ⟨l,hl⟩:=ih fun y' h'=>hy y' (by simp [h'])
   exact ⟨⟨c,⟨f,q,a,p,hd,i⟩⟩::l,by simp [hl,Zcz,ZA]⟩
 obtain ⟨l,hl⟩:=this ys (fun y hy=>by simpa only [TyC] using h2 y hy)
 exact ⟨l,by simp [Zcz,hl]⟩
theorem ZAz (w:World):Gl.le (Imm.of w):=by
 intro b o u h
 unfold Gl at h
 cases h
end
section
open Go.RowKit
def Zns:Ty:=.struct [.str,.int .i64,.bool,.bool,.int .i64,.int .i64]
theorem ZEt {x:AVal} (h:Zkn true Zns x):∃ s:Z5,x=Zas s:=by
 obtain ⟨y,h,rfl⟩:=h
 unfold Zns at h
 rw [TyC] at h
 simp only [Zeo] at h
 obtain ⟨_,_,rfl,g1,_,_,rfl,g2,_,_,rfl,g3,_,_,rfl,g4,_,_,rfl,g5,_,_,rfl,g6,rfl⟩:=h
 simp only [TyC] at g1 g2 g3 g4 g5 g6
 obtain ⟨f,_,rfl⟩:=g1
 obtain ⟨q,_,rfl⟩:=g2
 obtain ⟨a,rfl⟩:=g3
 obtain ⟨p,rfl⟩:=g4
 obtain ⟨hd,_,rfl⟩:=g5
 obtain ⟨i,_,rfl⟩:=g6
 exact ⟨⟨f,q,a,p,hd,i⟩,rfl⟩
end
section
open Go.ChangeShapes Go.WideShapes Go.ChangeAt Go.RowKit Go.Deep
open Go.ChangeMaps (open_string shut_string)
theorem ZDD:ownKnob Try.prog.godebug=none:=by kernel_rfl
theorem ZnA:laidOutB Try.prog=true:=by kernel_rfl
set_option maxRecDepth 100000 in
theorem ZFH (os:Os) (started:os.Started) (H:Type) (enc:TypeId×Value->H) :
  ReturnsInHanded {} Try.checked os 5 .any (Rows.routePlansSpec.pre6 enc Try.prog Try.f5 Rows.routePlansRow.domain false) (Rows.routePlansSpec.post enc Try.prog Try.f5 false true false false):=by
 refine returnsInHanded_of_change (C:=Try.checked) ZDD started (by kernel_rfl) Try.func5
  (ChangeSpec.witness6 (enc:=enc) (C:=Try.checked) false ⟨#[],#[.agg #[.slice none 0 0,.slice none 0 0,.slice none 0 0,.slice none 0 0,.int .i64 0,.int .i64 0,.bool false,.bool false,.int .i64 0,.int .i64 0,.slice none 0 0,.slice none 0 0,.slice none 0 0,.slice none 0 0,.int .i64 0,.int .i64 0],.slice none 0 0,.agg #[.string ByteArray.empty,.int .i64 0,.bool false,.bool false,.int .i64 0,.int .i64 0]],[]⟩ 8 (by kernel_rfl) (by kernel_rfl) (by kernel_rfl) (by kernel_rfl)) ?_
 intro W base args ds gs before hval0 hW hcnd _
 have hval:∀ (j:Nat) t v,Try.f5.params[j]?=some t->args[j]?=some v->Value.okWide Try.prog W .any base t v:=hval0
 have hW':=hW
 obtain ⟨p,q,hA0,hV,rfl,hfz,hnd⟩:=hW
 have hA:DataW.TrodAll enc Try.prog W 0 (fun _=>true) true Try.f5.params.toList args.toList ds p:=hA0
 rw [Try.params5] at hA hval
 obtain ⟨v0,vs0,d0,ds0,p0,q0,hargs,rfl,rfl,h0,r0⟩:=trodAll_cons hA
 obtain ⟨v1,vs1,d1,ds1,p1,q1,rfl,rfl,rfl,h1,r1⟩:=trodAll_cons r0
 obtain ⟨v2,vs2,d2,ds2,p2,q2,rfl,rfl,rfl,h2,r2⟩:=trodAll_cons r1
 obtain ⟨rfl,rfl,rfl⟩:=trodAll_nil r2
 obtain rfl:args=#[v0,v1,v2]:=by cases args;simp_all
 obtain ⟨rfl,rfl⟩:=trodVars_none hV
 have k0:=h0
 have lt0:∀ x ∈ p0,x.block < W.heap.size:=by obtain ⟨m,hm⟩:=k0;exact DataW.trod_lt m _ _ _ hm
 have k1:=h1
 have lt1:∀ x ∈ p1,x.block < W.heap.size:=by obtain ⟨m,hm⟩:=k1;exact DataW.trod_lt m _ _ _ hm
 have k2:=h2
 have lt2:∀ x ∈ p2,x.block < W.heap.size:=by obtain ⟨m,hm⟩:=k2;exact DataW.trod_lt m _ _ _ hm
 obtain ⟨x0,y0,z0,_⟩:=ZuL (n:=12) (T:=Zro) (by kernel_rfl) (hval 0 27 v0 rfl rfl) h0
 obtain ⟨a0,b0,rfl⟩:=ZAw y0
 obtain ⟨x1,y1,z1,_⟩:=ZuL (n:=12) (T:=Zu2) (by kernel_rfl) (hval 1 28 v1 rfl rfl) h1
 obtain ⟨a1,rfl⟩:=ZEH y1
 obtain ⟨x2,y2,z2,_⟩:=ZuL (n:=12) (T:=Zns) (by kernel_rfl) (hval 2 41 v2 rfl rfl) h2
 obtain ⟨a2,rfl⟩:=ZEt y2
 clear hA0 hval0
 refine (ZFh ZCa (ZAz _) (args:=[.agg (mC a0),.lst false (a1.map ZA),Zas a2]) (by simp only [VRs];exact ⟨_,_,rfl,z0,_,_,rfl,z1,_,_,rfl,z2,rfl⟩) (ZEZ a0 b0 a1 a2)).mono fun e W' ⟨he,bel⟩=>?_
 subst he
 exact ⟨_,rfl,_,_,_,[],_,[],hW',trodAll_mk1 (shut_bool Try.underlying4 _),(trodAll_cons_mk (Below.trod ZnA (by kernel_rfl) (of_decide_eq_true (by kernel_rfl)) k0 bel lt0) (trodAll_cons_mk (Below.trod ZnA (by kernel_rfl) (of_decide_eq_true (by kernel_rfl)) k1 bel lt1) (trodAll_cons_mk (Below.trod ZnA (by kernel_rfl) (of_decide_eq_true (by kernel_rfl)) k2 bel lt2) trodAll_mk0))),rfl,bel.frame _,fun h=>by cases h⟩
theorem routePlans_holds:Rows.RoutePlansSaid :=
 OpenClaim.holds_of_wide 5 Try.f5 rfl rfl rfl rfl rfl rfl rfl ⟨rfl,rfl,rfl,rfl,rfl⟩ rfl rfl rfl rfl rfl (by kernel_rfl) Try.func5 (by kernel_rfl)
  (of_decide_eq_true (by kernel_rfl)) (by unfold Func.isWrapper;first | (rw [if_pos (by decide +kernel)];kernel_rfl) | (rw [if_neg (by decide +kernel)];exact ⟨rfl,rfl⟩))
  (fun os started H enc _=>ZFH os started H enc)
#print axioms routePlans_holds
end
end Go.Proofs.Ytaimaokfbgmoiaa
