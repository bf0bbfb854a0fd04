/- The card of LinkSeen: for every input the law returns true, and each argument reads afterwards as it read before. No other condition; the tables of unicode/utf8 are tied to the program. -/
import Derived.Test.YtfemfbchakdidaaGreatDoorMq5
import Derived.Test.YtfemfbchakdidaaGreatDoorMq4
import Derived.Test.YtfemfbchakdidaaGreatDoorMq2
import Derived.Test.YtfemfbchakdidaaGreatDoorMq3
import Derived.Lib.LaidU8T
import Derived.Test.YtfemfbchakdidaaGreatDoorRows
import Derived.Deep.Slices
import Derived.Test.YtfemfbchakdidaaGreatDoorCards
import Derived.Test.YtfemfbchakdidaaGreatDoorTie
import Derived.WalkKit
import Derived.ProofKit
import Derived.OpenShut
import Derived.ShutString
import Derived.ChangeOld
import Derived.Below
import Derived.SevenTiedAt
import Derived.LaidByTextLater
import Derived.Lib.LaidIn
import Derived.Deep.DeepHandedRow
import Derived.MakeChecks
import Derived.SizedLaws
set_option linter.defProp false
set_option linter.unusedSectionVars false
set_option linter.unusedSimpArgs false
set_option linter.unusedVariables false
open Option.some renaming injEq→Xa,inj→WO
open Nat renaming reduceEqDiff→Xb,reduceLT→Xc,reduceAdd→Xe,reduceBEq→Xg,le_of_ble_eq_true→Xo,zero_le→Xao,le_trans→XaM
open Bool renaming false_eq_true→Xi,and_eq_true→Xj
open List renaming length_append→Xk,mem_append→Xs,map_cons→Xt,length_nil→XG,all_cons→XP,mem_cons→XS,length_map→XT,mem_map→XX,getElem?_eq_getElem→X1,range→X9,length→W3,mem_range→W7
open Option renaming map_eq_some_iff→Xn,getD_some→WD
open Or renaming inl→Xr,inr→Xy
namespace Go.Proofs.YtfemfbchakdidaaGreatDoor
set_option maxHeartbeats 16000000
set_option maxRecDepth 10000
section
def ZiP (p:ZA):Option Zb :=
 if p.type=1 then some (Zer p) else if p.type=2 then some (ZlB p) else if p.type=3 then some (Zk8 p)
 else if p.type=4\/p.type=5\/p.type=6\/p.type=7 then some (beB (ZU p.id) 2++ZbX p)
 else if p.type=8 then some (ZbT p++ZdT p.subs) else if p.type=10 then some (ZbT p++ZdX p.filters)
 else if p.type=9\/p.type=11 then some (ZbT p++Zd0 p.codes)
 else if p.type=14\/p.type=15 then Zdn p else none
def ZcO (p:ZA):Zb:=(ZiP p).getD []
theorem Zyn (p:ZA) (h:OkW p):E1 62 [.ref 0 0,ZaC p] [.var wn]=some (.tup [],wO (ZiP p)):=by
 unfold ZiP
 by_cases h1:p.type=1
 ·rw [if_pos h1];exact ZIo p h h1
 rw [if_neg h1]
 by_cases h2:p.type=2
 ·rw [if_pos h2];exact ZzL p h h2
 rw [if_neg h2]
 by_cases h3:p.type=3
 ·rw [if_pos h3];exact ZHK p h h3
 rw [if_neg h3]
 by_cases h4:p.type=4\/p.type=5\/p.type=6\/p.type=7
 ·rw [if_pos h4];exact Zzl p h h4
 rw [if_neg h4]
 by_cases h8:p.type=8
 ·rw [if_pos h8];exact ZBQ p h h8
 rw [if_neg h8]
 by_cases h10:p.type=10
 ·rw [if_pos h10];exact ZJK p h h10
 rw [if_neg h10]
 by_cases h9:p.type=9\/p.type=11
 ·rw [if_pos h9];exact ZCg p h h9
 rw [if_neg h9]
 by_cases h14:p.type=14\/p.type=15
 ·rw [if_pos h14];exact ZIi p h h14
 rw [if_neg h14]
 exact ZzM p (by omega)
theorem ZLa (p:ZA):(ZbX p).length<=300000000:=by
 have h1:=Zbh 1 (ZU p.code)
 have h2:=Zdb p.type p.props
 unfold ZbX
 repeat' split
 all_goals simp only [Xk,XG]
 all_goals omega
theorem ZE7 (p:ZA) (h:OkW p) (hp:p.payload.length<=1000000):(ZcO p).length<=1000000000000:=by
 have a1:=ZG0 p h
 have a2:=ZLa p
 have a3:=Zbh 2 (ZU p.id)
 have a4:=Zbh 1 (ZU p.code)
 have a5:=Zbh 1 (ZU (Zad p.present 1))
 have a6:=Zdb 2 p.props
 have a7:=Zdb 3 p.props
 have a8:=ZcE p.topic
 have a9:=Zj9 p h
 have b1:=ZIm p.subs
 have b2:=ZLc p.filters
 have b3:=ZDR p.codes
 have c1:=h.subs.1
 have c2:=h.filters.1
 have c3:=h.codes
 have a10:(Zln p).length<=70000:=by
  unfold Zln
  split
  ·rw [Xk];omega
  ·omega
 have a11:((Zdn p).getD []).length<=300000000:=by
  unfold Zdn
  split
  ·simpa using a2
  ·simp
 unfold ZcO ZiP
 generalize Zdn p=ro at *
 repeat' split
 all_goals try simp only [WD,Option.getD_none,Xk,XG,ZlB,Zk8]
 all_goals omega
theorem Zgl {w:Int} {b:Zb} {l:List Zv} {r:Zb} (h:ZbM w b=.ok (l,r)):l.length<=268435455:=by
 unfold ZbM at h
 split at h
 ·injection h with h
  injection h with h1 h2
  rw [<-h1];exact ZyI w b
 ·cases h
theorem ZrG {α:Type} {one:Zb->RK α}:∀ {n:Nat} {l:Zb} {ts:List α},ZaU one n l=.ok ts->ts.length<=n
 | 0,l,ts,h=>by
  unfold ZaU at h
  split at h
  ·injection h with h;subst h;simp
  ·cases h
 | n+1,l,ts,h=>by
  unfold ZaU at h
  split at h
  ·injection h with h;subst h;simp
  ·split at h
   ·cases h
   ·split at h
    ·cases h
    ·rename_i t ht
     injection h with h;subst h
     have:=ZrG ht
     simp;omega
theorem ZoP {α:Type} {one:Zb->RK α} {k:Int} {l:Zb} {n:Int} {ps:List Zv} {ts:List α} (h:ZbF one k l=.ok (n,ps,ts)):ps.length<=268435455/\ts.length<=l.length:=by
 unfold ZbF at h
 split at h
 ·cases h
 rename_i n' ps' r hm
 have l1:=Zid hm
 split at h
 ·cases h
 rename_i us hu
 injection h with h;injection h with e1 h;injection h with e2 e3;subst e1 e2 e3
 have:=ZrG hu
 refine ⟨?_,by omega⟩
 unfold ZdK at hm
 split at hm
 ·cases hm
 split at hm
 ·cases hm
 rename_i hp
 split at hm
 ·cases hm
 injection hm with hm;injection hm with _ hm;injection hm with e _;subst e
 exact Zgl hp
theorem ZFU {k:Int} {l:Zb} {c:Int} {ps:Option (List Zv)} {r:Zb} (h:ZcW k l=.ok ((c,ps),r)):(ps.getD []).length<=268435455:=by
 unfold ZcW at h
 split at h
 ·injection h with h;injection h with h _;injection h with _ h;subst h;simp
 split at h
 ·cases h
 split at h
 ·injection h with h;injection h with h _;injection h with _ h;subst h;simp
 split at h
 ·cases h
 rename_i hp
 injection h with h;injection h with h _;injection h with _ h;subst h
 exact Zgl hp
theorem ZcI:OkL ZaO:=⟨by simp [ZaO],by simp [ZaO],by simp [ZaO],by simp [ZaO],by simp [ZaO]⟩
theorem Zty {q q':ZA} {l r:Zb} (h:OkL q) (e:Zgq q l=.ok (q',r)):OkL q':=by
 unfold Zgq at e
 split at e
 ·cases e
 rename_i c ps r' hr
 injection e with e;injection e with e _;subst e
 have:=ZFU hr
 exact ⟨h.codes,by simp only;omega,h.subs,h.filters,h.wprops⟩
theorem ZOq {q q':ZA} {l r:Zb} (h:OkL q) (e:idQ q l=.ok (q',r)):OkL q':=by
 unfold idQ at e
 split at e
 ·cases e
 rename_i n r1 _
 exact Zty (q:={ q with id:=n }) ⟨h.codes,h.props,h.subs,h.filters,h.wprops⟩ e
theorem ZKX {q q':ZA} {l r:Zb} (h:OkL q) (e:Zi9 q l=.ok (q',r)):OkL q':=by
 unfold Zi9 at e
 split at e
 ·cases e
 split at e
 case isFalse=>cases e
 split at e
 ·cases e
 split at e
 ·cases e
 rename_i hp
 injection e with e;injection e with e _;subst e
 have:=Zgl hp
 exact ⟨h.codes,by simp only;omega,h.subs,h.filters,h.wprops⟩
theorem ZEH {b:Bool} {q q':ZA} {l r:Zb} (h:OkL q) (e:ZiI b q l=.ok (q',r)):OkL q':=by
 unfold ZiI at e
 split at e
 ·split at e
  ·cases e
  ·injection e with e;injection e with e _;subst e;exact ⟨h.codes,h.props,h.subs,h.filters,h.wprops⟩
 ·injection e with e;injection e with e _;subst e;exact h
theorem ZMS {b:Bool} {q q':ZA} {l r:Zb} (h:OkL q) (e:ZgV b q l=.ok (q',r)):OkL q':=by
 unfold ZgV at e
 split at e
 ·split at e
  ·cases e
  ·injection e with e;injection e with e _;subst e;exact ⟨h.codes,h.props,h.subs,h.filters,h.wprops⟩
 ·injection e with e;injection e with e _;subst e;exact h
theorem ZxE {b:Bool} {q q':ZA} {l r:Zb} (h:OkL q) (e:Zhh b q l=.ok (q',r)):OkL q':=by
 unfold Zhh at e
 split at e
 ·split at e
  ·cases e
  ·rename_i ps tp d r' hw
   injection e with e;injection e with e _;subst e
   refine ⟨h.codes,h.props,h.subs,h.filters,?_⟩
   unfold Zd5 at hw
   split at hw
   ·cases hw
   rename_i hp
   split at hw
   ·cases hw
   split at hw
   ·cases hw
   injection hw with hw;injection hw with e1 _;subst e1
   have:=Zgl hp
   simp only;omega
 ·injection e with e;injection e with e _;subst e;exact h
theorem ZK2 {q:ZA} (h:OkL q) (m k:Int) {ps:List Zv} (cl:Zb) (hp:ps.length<=268435455):OkL (headD (Zm0 q m) k ps cl):=⟨h.codes,XaM hp (by decide),h.subs,h.filters,h.wprops⟩
theorem ZAS {q q':ZA} {l r:Zb} (h:OkL q) (e:Zgo q l=.ok (q',r)):OkL q':=by
 unfold Zgo at e
 split at e
 ·cases e
 split at e
 case isFalse=>cases e
 split at e
 ·cases e
 split at e
 case isFalse=>cases e
 split at e
 ·cases e
 split at e
 case isFalse=>cases e
 unfold ZlH at e
 split at e
 ·cases e
 split at e
 ·cases e
 rename_i hp
 split at e
 ·cases e
 unfold ZjY at e
 split at e
 ·cases e
 rename_i hw
 split at e
 ·cases e
 rename_i hu
 exact ZEH (ZMS (ZxE (ZK2 h _ _ _ (Zgl hp)) hw) hu) e
theorem Zji {x:Except Int (ZA×Zb)} (h:∀ q r,x=.ok (q,r)->OkL q) {q:ZA} (e:Zc3 x=.ok q):OkL q:=by
 unfold Zc3 at e
 split at e
 ·cases e
 rename_i q' r'
 split at e
 ·injection e with e;subst e;exact h _ _ rfl
 ·cases e
theorem Zzc {t:Int} {l:Zb} (hl:l.length<=9223372036854775807) {q:ZA} (e:ZhQ t l=.ok q):OkL q:=by
 have h0:∀ k:Int,OkL { ZaO with type:=k }:=fun k=>⟨ZcI.codes,ZcI.props,ZcI.subs,ZcI.filters,ZcI.wprops⟩
 unfold ZhQ at e
 split at e
 ·exact Zji (fun _ _ h=>ZAS (h0 1) h) e
 split at e
 ·exact Zji (fun _ _ h=>ZKX (h0 2) h) e
 split at e
 ·exact Zji (fun _ _ h=>ZOq (h0 t) h) e
 split at e
 ·unfold Zkf at e
  split at e
  ·cases e
  rename_i hm
  injection e with e;subst e
  have:=ZoP hm
  exact ⟨(h0 8).codes,by simp only;omega,by simp only;omega,(h0 8).filters,(h0 8).wprops⟩
 split at e
 ·unfold Zlv at e
  split at e
  ·cases e
  rename_i hm
  injection e with e;subst e
  have:=ZoP hm
  exact ⟨(h0 8).codes,by simp only;omega,(h0 8).subs,by simp only;omega,(h0 8).wprops⟩
 split at e
 ·unfold Zhn at e
  split at e
  ·cases e
  rename_i hm
  injection e with e;subst e
  have:=ZoP hm
  exact ⟨by simp only;omega,by simp only;omega,(h0 8).subs,(h0 8).filters,(h0 8).wprops⟩
 split at e
 ·exact Zji (fun _ _ h=>Zty (h0 t) h) e
 ·exact Zji (fun q r h=>by injection h with h;injection h with h _;subst h;exact h0 t) e
theorem ZM4 {qos:Int} {l:Zb} {tp:Zb} {n:Int} {ps:List Zv} {q:Zb} (e:ZeN qos l=.ok (tp,n,ps,q)):ps.length<=268435455:=by
 unfold ZeN at e
 split at e
 ·cases e
 split at e
 ·split at e
  ·cases e
  split at e
  ·cases e
  rename_i hp
  injection e with e;injection e with _ e;injection e with _ e;injection e with e _;subst e
  exact Zgl hp
 ·split at e
  ·cases e
  rename_i hp
  injection e with e;injection e with _ e;injection e with _ e;injection e with e _;subst e
  exact Zgl hp
theorem Zvk (b:Int) (l:Zb) (hl:l.length<=9223372036854775807):OkL (Zdx b l).1:=by
 unfold Zdx
 split
 ·exact ZcI
 split
 ·unfold Zi3
  split
  ·split
   ·split
    ·exact ZcI
    ·rename_i h
     have:=ZM4 h
     exact ⟨ZcI.codes,by simp only;omega,ZcI.subs,ZcI.filters,ZcI.wprops⟩
   ·exact ZcI
  ·exact ZcI
 split
 ·split
  ·exact ZcI
  ·rename_i h
   exact Zzc hl h
 ·exact ZcI
theorem ZAy (p:ZA) (h:OkW p) (hp:p.payload.length<=1000000):E1 33 [ZaC p] []=some (Zgg (Zcp p) (ZcO p) (Zdx (Zcp p) (ZcO p)).2 (ZdQ (Zdx (Zcp p) (ZcO p)).1 p),[]):=by
 have hb:=Zyn p h
 have hl:=ZE7 p h hp
 have hw:=ZrY p
 unfold ZcO at hl ⊢
 cases hB:ZiP p with
 | none =>
  rw [hB] at hb
  exact ZGv p _ _ hb (fun σ sq own=>ZvC _ hw [] (by decide) false σ sq own) (Zvk _ _ (by decide))
 | some B =>
  rw [hB] at hb hl
  simp only [WD] at hl ⊢
  exact ZPj p _ _ B hb (by omega) (fun σ sq own=>ZvC _ hw B (by omega) false σ sq own) (Zvk _ _ (by omega))
def Zjk (p:ZA):Prop:=(ZcO p).length<=268435455/\Zdx (Zcp p) (ZcO p)=(p,0)
instance (p:ZA):Decidable (Zjk p):=inferInstanceAs (Decidable (_/\_))
def Zik (p:ZA):UInt8:=UInt8.ofNat (Zcp p).toNat
theorem ZIu (p:ZA):((Zik p).toNat:Int)=Zcp p:=by
 have:=ZrY p
 unfold Zik
 rw [UInt8.toNat_ofNat']
 omega
section
variable (p:ZA) (h:OkW p) (hp:p.payload.length<=1000000)
include h hp
theorem Zx1:Zjk p↔((ZcO p).length<=268435455/\(Zdx (Zcp p) (ZcO p)).2=0/\ZdQ (Zdx (Zcp p) (ZcO p)).1 p=true):=by
 unfold Zjk
 rw [ZCz]
 constructor
 ·rintro ⟨h1,h2⟩
  rw [h2];exact ⟨h1,rfl,rfl⟩
 ·rintro ⟨h1,h2,h3⟩
  exact ⟨h1,Prod.ext h3 h2⟩
theorem Zxp (hg:Zjk p) (args:List AVal) (ha:args.all Zai=true) (hn:args.map ZL=[ZaC p]) (σ:Za) (sq own:Nat):Zi E1 BY σ sq 33 own true args=some (Zk5 (Zik p) (ZcO p),σ,{}):=by
 have hF:=ZAy p h hp
 obtain ⟨h1,h2,h3⟩:=(Zx1 p h hp).1 hg
 rw [h2,h3,<-ZIu p] at hF
 exact Zze (by rw [hF]) h1 ha hn σ sq own
def ZwQ (p:ZA):Zb:=ZqP (Zik p) (ZcO p)
end
end
section
end
section
end
section
end
section
end
section
end
section
end
section
set_option maxRecDepth 100000
def u25 (a b:UInt8):Zv:={ id:=38,num:=0,text:=[a],pair:=[b],data:=[] }
def p25:ZA:={ ZaO with type:=3,qos:=1,id:=1,topic:=[120,47,97,47,98],props:=[u25 111 51,u25 109 57,u25 104 49] }
theorem ZJ5:OkW p25:=by
 refine ⟨?_,?_,?_,?_,?_,?_,?_,?_,?_,?_,?_,?_⟩ <;> simp [p25,ZaO,u25,ZeD]
theorem Zt5:Zjk p25:=of_decide_eq_true (by kernel_rfl)
def b25:Zb:=ZwQ p25
theorem ZCR:E1 12 [ZaC p25] []=some (.tup [.lst false (b25.map Zc),.int .i64 0],[]) :=
 ZyW p25 (Zik p25) (ZcO p25) Zt5.1 fun σ sq own=>Zxp p25 ZJ5 (by decide) Zt5 _ (by rw [XP,ZeK];rfl) (by rw [Xt,Zel];rfl) σ sq own
theorem ZL5:E1 8 [] []=some (.bool true,[]) :=
 Zzu (n:=60) (f0:=12) (by rfl) ZCR (by kernel_rfl)
theorem ZIQ (σ:Za) (sq own:Nat):Zi E1 BY σ sq 8 own true []=some (.bool true,σ,{}) :=
 ZbJ ZL5 (by kernel_rfl) rfl rfl rfl (fun _=>rfl) _ _ _
end
section
theorem Zq9 (m:Int×Int):∀ (r L:List (Int×Int)),Zaq L (r++[m])=Zcl (Zaq L r) m
 | [],L=>rfl
 | x::r,L=>by rw [List.cons_append,Zaq,Zaq,Zq9 m r]
theorem ZoF:∀ (r L:List (Int×Int)),L.length<=32->(Zaq L r).length<=32
 | [],L,h=>h
 | x::r,L,h=>by rw [Zaq];exact ZoF r _ (Zr2 h x)
def sl7 (l:List Int) (i:Nat) (al:AVal) (r s:Nat):Tms:=[(6,.int .i64 (i:Int)),(5,al),(4,.ref r 0),(3,.ref s 0),(0,.lst false (l.map (AVal.int .i64 ·)))]
def hp7 (A:List AVal) (off n:Nat) (X S:List AVal):Za:=[.row 0 2 A,.var [.sl 2 0 off n],.row 0 2 X,.var [.sl 4 0 0 n],.row 0 2 S]
theorem ZGt (l:List Int) (hi:¬((0:Nat):Int) < (l.length:Int)):evL FC PR1 BY 0 [6,5,4,3,0] ZcB (sl7 l 0 (.lst true []) 0 1) [.var [.lst true []],.var [.lst true []]]=some (.exit 0,(29,.bool false)::sl7 l 0 (.lst true []) 0 1,[.var [.lst true []],.var [.lst true []]]):=by
 have hL:(l.map (AVal.int .i64 ·)).length=l.length:=by simp
 unfold sl7
 generalize l.map (AVal.int .i64 ·)=LS at *
 rw [ZX]
 simp -implicitDefEqProofs only [EQA,Xe,Xc,Xb,ZE,Zaz,reduceCtorEq,↓reduceIte,ZeW,Zf9,hi,hL]
theorem Zrc (l:List Int) (i:Nat) (hi:¬(i:Int) < (l.length:Int)\/¬(i:Int) < 120) (A:List AVal) (k off n:Nat) (X S:List AVal):evL FC PR1 BY 0 [6,5,4,3,0] ZcB (sl7 l i (.sl 0 0 0 k) 1 3) (hp7 A off n X S)=some (.exit 0,(29,.bool false)::sl7 l i (.sl 0 0 0 k) 1 3,hp7 A off n X S):=by
 have hL:(l.map (AVal.int .i64 ·)).length=l.length:=by simp
 unfold sl7 hp7
 generalize l.map (AVal.int .i64 ·)=LS at *
 rw [ZX]
 by_cases h0:(i:Int) < (l.length:Int)
 ·have h6:¬(i:Int) < 120:=by rcases hi with h | h;exact absurd h0 h;exact h
  simp -implicitDefEqProofs only [EQA,Xe,Xc,Xb,ZE,unG,reduceCtorEq,↓reduceIte,ZeW,Zf9,h0,h6,hL]
 ·simp -implicitDefEqProofs only [EQA,Xe,Xc,Xb,ZE,Zaz,reduceCtorEq,↓reduceIte,ZeW,Zf9,h0,hL]
theorem ev7 (l:List Int):∀ (n i:Nat) (ms:List (Int×Int)) (off:Nat) (X:List AVal),i+n=120->ms.length<=i->X.drop off=(Zaq [] ms).map Ze->off<=X.length ->
  ∃ (i':Nat) (ms':List (Int×Int)) (off':Nat) (X':List AVal),ms'.length<=120/\(ms≠[]->ms'≠[])/\X'.drop off'=(Zaq [] ms').map Ze/\off'<=X'.length /\
   evL FC PR1 BY 0 [6,5,4,3,0] ZcB (sl7 l i (.sl 0 0 0 ms.length) 1 3) (hp7 (ms.map Ze) off (Zaq [] ms).length X ((Zaq [] ms).map Ze)) =
   some (.exit 0,(29,.bool false)::sl7 l i' (.sl 0 0 0 ms'.length) 1 3,hp7 (ms'.map Ze) off' (Zaq [] ms').length X' ((Zaq [] ms').map Ze))
 | 0,i,ms,off,X,hi,hl,hX,ho=>⟨i,ms,off,X,by omega,id,hX,ho,Zrc l i (Xy (by omega)) _ _ _ _ _ _⟩
 | n+1,i,ms,off,X,hi,hl,hX,ho=>by
  by_cases h0:(i:Int) < (l.length:Int)
  ·obtain ⟨z,hz⟩:∃ z,l[i]?=some z:=⟨l[i]'(by omega),X1 _⟩
   have hL32:=ZoF ms [] (by simp)
   have hsn:=Zq9 (mkM z) ms []
   have hln:(ms++[mkM z]).length=ms.length+1:=by simp
   have hmp:(ms++[mkM z]).map Ze=ms.map Ze++[.agg [.int .i64 (mkM z).1,.int .i64 (mkM z).2]]:=by simp [Ze]
   cases hm:(Zaq [] ms).contains (mkM z) with
   | true =>
    have ha:Zcl (Zaq [] ms) (mkM z)=Zaq [] ms:=by unfold Zcl;rw [if_pos hm]
    rw [ha] at hsn
    obtain ⟨i',ms',off',X',a1,a2,a3,a4,a5⟩:=ev7 l n (i+1) (ms++[mkM z]) off X (by omega) (by simp;omega) (by rw [hsn];exact hX) ho
    refine ⟨i',ms',off',X',a1,fun _=>a2 (by simp),a3,a4,?_⟩
    rw [<-a5,hsn,hln,hmp]
    exact ZE8 l i z hz (by omega) (ms.map Ze) ms.length (by simp) (by omega) off X (Zaq [] ms) hL32 hX ho hm
   | false =>
    by_cases h32:(Zaq [] ms).length < 32
    ·have ha:Zcl (Zaq [] ms) (mkM z)=Zaq [] ms++[mkM z]:=by unfold Zcl;rw [if_neg (by rw [hm];decide),if_pos h32]
     rw [ha] at hsn
     have hxm:(Zaq [] ms).map Ze++[.agg [.int .i64 (mkM z).1,.int .i64 (mkM z).2]]=(Zaq [] ms++[mkM z]).map Ze:=by simp [Ze]
     obtain ⟨i',ms',off',X',a1,a2,a3,a4,a5⟩:=ev7 l n (i+1) (ms++[mkM z]) 0 ((Zaq [] ms).map Ze++[.agg [.int .i64 (mkM z).1,.int .i64 (mkM z).2]]) (by omega) (by simp;omega) (by rw [hsn];exact hxm) (Xao _)
     refine ⟨i',ms',off',X',a1,fun _=>a2 (by simp),a3,a4,?_⟩
     rw [<-a5,hsn,hln,hmp,show (Zaq [] ms++[mkM z]).length=(Zaq [] ms).length+1 by simp]
     exact ZJI l i z hz (by omega) (ms.map Ze) ms.length (by simp) (by omega) off X (Zaq [] ms) hL32 hX ho hm h32
    ·have hE:(Zaq [] ms).length=32:=by omega
     have ha:Zcl (Zaq [] ms) (mkM z)=(Zaq [] ms++[mkM z]).drop 1:=by unfold Zcl;rw [if_neg (by rw [hm];decide),if_neg h32]
     rw [ha] at hsn
     have hxm:(Zaq [] ms).map Ze++[.agg [.int .i64 (mkM z).1,.int .i64 (mkM z).2]]=(Zaq [] ms++[mkM z]).map Ze:=by simp [Ze]
     obtain ⟨i',ms',off',X',a1,a2,a3,a4,a5⟩:=ev7 l n (i+1) (ms++[mkM z]) 1 ((Zaq [] ms).map Ze++[.agg [.int .i64 (mkM z).1,.int .i64 (mkM z).2]]) (by omega) (by simp;omega) (by rw [hsn,hxm,List.map_drop]) (by simp)
     refine ⟨i',ms',off',X',a1,fun _=>a2 (by simp),a3,a4,?_⟩
     rw [<-a5,hsn,hln,hmp,show ((Zaq [] ms++[mkM z]).drop 1).length=32 by simp;omega]
     exact ZzU l i z hz (by omega) (ms.map Ze) ms.length (by simp) (by omega) off X (Zaq [] ms) hL32 hX ho hm hE
  ·exact ⟨i,ms,off,X,by omega,id,hX,ho,Zrc l i (Xr h0) _ _ _ _ _ _⟩
theorem ZxB (l:List Int) :
  (evL FC PR1 BY 0 [6,5,4,3,0] ZcB (sl7 l 0 (.lst true []) 0 1) [.var [.lst true []],.var [.lst true []]]=some (.exit 0,(29,.bool false)::sl7 l 0 (.lst true []) 0 1,[.var [.lst true []],.var [.lst true []]])) \/
  (∃ (i':Nat) (ms':List (Int×Int)) (off':Nat) (X':List AVal),ms'.length<=120/\ms'≠[]/\X'.drop off'=(Zaq [] ms').map Ze/\off'<=X'.length /\
   evL FC PR1 BY 0 [6,5,4,3,0] ZcB (sl7 l 0 (.lst true []) 0 1) [.var [.lst true []],.var [.lst true []]] =
   some (.exit 0,(29,.bool false)::sl7 l i' (.sl 0 0 0 ms'.length) 1 3,hp7 (ms'.map Ze) off' (Zaq [] ms').length X' ((Zaq [] ms').map Ze))):=by
 by_cases h0:((0:Nat):Int) < (l.length:Int)
 ·right
  obtain ⟨z,hz⟩:∃ z,l[0]?=some z:=⟨l[0]'(by omega),X1 _⟩
  obtain ⟨i',ms',off',X',a1,a2,a3,a4,a5⟩:=ev7 l 119 1 [mkM z] 0 ([mkM z].map Ze) (by omega) (by simp) rfl (Xao _)
  refine ⟨i',ms',off',X',a1,a2 (by simp),a3,a4,?_⟩
  rw [<-a5]
  exact ZON l 0 z hz (by decide)
 ·left
  exact ZGt l h0
end
section
def ZmL:=xw1 ZlG Zjd rfl
def ZoK:=xw1 ZkR Zjy rfl
def ZnC:=xw1 Zrn Zia rfl
def Zog (r:Option (ZaQ×Tms×Za)):Prop:=∃ tm σ,r=some (.ret,(2,.bool true)::tm,σ)
theorem Zp7 (tm:Tms) (σ:Za):Zog (some (.ret,(2,.bool true)::tm,σ)):=⟨_,_,rfl⟩
def ZiN (i:Nat) (S:List AVal):Tms:=[(12,.int .i64 (i:Int)),(11,.lst false S),(10,.lst false S),(4,.ref 0 0)]
theorem Zwm (L:List (Int×Int)) (hl:L.length<=32) (off:Nat) (X:List AVal) (hX:X.drop off=L.map Ze) (ho:off<=X.length):∀ (r:List (Int×Int)) (i:Nat),L.drop i=r->i<=L.length ->
  evL FC PR1 BY 0 [12,11,10,4] ZlG (ZiN i (L.map Ze)) [.var [.sl 1 0 off L.length],.row 0 2 X]=some (.exit 2,(103,.bool false)::ZiN L.length (L.map Ze),[.var [.sl 1 0 off L.length],.row 0 2 X])
 | [],i,hi,hle=>by
  have : L.length<=i:=List.drop_eq_nil_iff.1 hi
  obtain rfl:i=L.length:=by omega
  have h0:¬(L.length:Int) < (L.length:Int):=by omega
  have hLn:(L.map Ze).length=L.length:=by simp
  unfold ZiN
  generalize L.map Ze=S at *
  rw [ZX]
  simp -implicitDefEqProofs only [EQA,Xe,Xc,Xb,↓reduceIte,Zjd,ZmL,h0,hLn]
 | x::r,i,hi,hle=>by
  obtain ⟨g1,d1,l1⟩:=Zab hi
  have ih:=Zwm L hl off X hX ho r (i+1) d1 (by omega)
  have h0:(i:Int) < (L.length:Int):=by omega
  have hw:=Zcn (i:=i) h0 (by omega)
  have hLn:(L.map Ze).length=L.length:=by simp
  have hxl:X.length=off+L.length:=by
   have:=congrArg W3 hX
   rw [List.length_drop,XT] at this;omega
  have e1:=iad g1 Ze (k:=2) rfl
  have e0:(Ze x).cells=[.int .i64 x.1,.int .i64 x.2]:=rfl
  simp only [e0] at e1
  have hel:∀ {σ:Za} (hs:σ[1]?=some (.row 0 2 X)),Zca σ 2 (.sl 1 0 off L.length) (.int .i64 (i:Int))=some (.eref 1 0 (off+i) 0,σ,{ rd:=[1] }):=by
   intro σ hs
   have : off+L.length<=X.length:=by omega
   simp [Zca,hs,l1]
  have hXi:X[off+i]?=some (.agg [.int .i64 x.1,.int .i64 x.2]):=by
   have:=congrArg (fun l=>l[i]?) hX
   simp only [List.getElem?_drop,List.getElem?_map,g1] at this
   exact this
  have ka:ZdZ [0,0] [.int .i64 x.1,.int .i64 x.2]=true:=rfl
  have b1:((true && (true && true)) != true)=false:=rfl
  unfold ZiN at ih ⊢
  generalize L.map Ze=S at *
  rw [ZX]
  simp -implicitDefEqProofs only [EQA,ZT,Zbk,Xe,Xc,Nat.reduceLeDiff,Xb,Xg,ZE,unG,reduceCtorEq,↓reduceIte,gcT,gcA,Zy,Zu,Zk,Zr,ZO,Zo,ZJ,ZB,ZG,Zjd,ZmL,h0,hw,hLn,e1,hel,hXi,ka,ZcV,ZcQ,bne_self_eq_false,AVal.cells]
  exact ih
theorem ZoJ {O:ZN} {f:Nat} {args vs:List AVal} {ts:List Nat} {hh:Za} {σ σ':Za} {sq:Nat} (hb:BY f=false) (hsh:showAs σ args=some (vs,ts)) (hp:vs.all Zai=true) (hn:vs.map ZL=vs) (h:O f vs []=some (.ref 0 0,hh)) (hne:hh.isEmpty=false) (hd:Zhi 2 (.ref 0 0) hh=none) (hk2:decide (hh.length<=0+2)=true) (hk:ZaZ (Zn σ ts) [] hh 0=true) (hff:ZaY (Zn σ ts) sq 2=true) (hlay:Za1 (Zn σ ts) [] sq hh 0 (Zn σ ts)=σ') :
  Zi O BY σ sq f 2 false args=some (.ref sq 0,σ',{ any:=true }):=by
 have hr:=Zc2 hp
 have hn':=fun ρ=>ZcN (ρ:=ρ) hp
 rw [hn] at hr
 simp only [hn] at hn'
 unfold Zi Zbx
 rw [hb]
 simp only [Xi,if_false,hsh]
 rw [hr]
 have h2:∀ σ,Zu σ 1000 [] []=[]:=fun _=>rfl
 rw [h2]
 unfold Zbl
 simp only [List.all_nil,if_true,hn',Zr,XG,h]
 simp only [Z5,Xi,if_false,Zaw,List.isEmpty_nil,hne,Bool.and_false,if_true,hd,XG,hk2,Xao,decide_true,hk,hff,Bool.and_self]
 simp [hlay,ZaA,Zm,Za4]
theorem ZBB (L:List (Int×Int)):[AVal.lst false (L.map Ze)].all Zai=true/\[AVal.lst false (L.map Ze)].map ZL=[AVal.lst false (L.map Ze)]:=⟨rfl,rfl⟩
theorem ZDa (l:List Int) (i:Nat) (m:Int×Int) (r:List (Int×Int)) (hr:(m::r).length<=120) (off:Nat) (X:List AVal) (hX:X.drop off=(Zaq [m] r).map Ze) (ho:off<=X.length) :
  Zog (evC FC PR1 BY 0 ZkR ((29,.bool false)::sl7 l i (.sl 0 0 0 (m::r).length) 1 3) (hp7 ((m::r).map Ze) off (Zaq [m] r).length X ((Zaq [m] r).map Ze))):=by
 have hl:=ZoF r [m] (by simp)
 have h20:=Zwm (Zaq [m] r) hl off X hX ho (Zaq [m] r) 0 rfl (Xao _)
 have z0:((0:Nat):Int)=0:=rfl
 unfold ZiN at h20
 rw [z0] at h20
 obtain ⟨fz,hall⟩:=ZHM (Zaq [m] r) hl
 unfold sL at hall
 have hnew:=ZCH m r (by omega)
 have hLn:((Zaq [m] r).map Ze).length=(Zaq [m] r).length:=by simp
 have hAl:((m::r).map Ze).length=(m::r).length:=by simp
 have hg:¬(((Zaq [m] r).length:Nat):Int) > 32:=by omega
 have hpl:=ZBB (m::r)
 unfold sL at hnew
 generalize hS:(Zaq [m] r).map Ze=S at *
 generalize hA:(m::r).map Ze=A at *
 generalize (Zaq [m] r).length=n at *
 generalize (m::r).length=k at *
 have hC1:=ZaK (Zby (O:=E) (bf:=BY) (σ:=[.row 0 2 A,.var [.sl 2 0 off n],.row 0 2 X,.var [.sl 4 0 0 n],.row 0 2 S]) (sq:=5) (own:=0) (f:=20) (view:=true) (args:=[.ref 3 0]) (vs:=[.ref 3 0]) (vs':=[.ref 0 0]) (ids:=[3,4]) (h0:=[.var [.sl 1 0 0 n],.row 0 2 S]) (h:=[.var [.sl 1 0 0 n],Zc1 fz S]) (r:=.lst false S) (σ':=[.row 0 2 A,.var [.sl 2 0 off n],.row 0 2 X,.var [.sl 4 0 0 n],Zc1 fz S]) (by kernel_rfl) rfl rfl rfl rfl rfl rfl (by rw [hall];cases fz <;> rfl) (Xo rfl) (Xo rfl) (by cases fz <;> rfl) rfl rfl (by cases fz <;> rfl) (u:=[(3,[.sl 4 0 0 n])]) (by cases fz <;> rfl))
 have hC2:=ZaK (ZoJ (O:=E) (σ:=[.row 0 2 A,.var [.sl 2 0 off n],.row 0 2 X,.var [.sl 4 0 0 n],Zc1 fz S,.free,.free]) (sq:=5) (f:=16) (args:=[.sl 0 0 0 k]) (vs:=[.lst false A]) (ts:=[0]) (hh:=[.var [.sl 1 0 0 n],.row 0 2 S]) (σ':=[.frow 0 2 A,.var [.sl 2 0 off n],.row 0 2 X,.var [.sl 4 0 0 n],Zc1 fz S,.var [.sl 6 0 0 n],.row 0 2 S]) (by kernel_rfl) (by
  have he:=ZnH [.row 0 2 A,.var [.sl 2 0 off n],.row 0 2 X,.var [.sl 4 0 0 n],Zc1 fz S,.free,.free] 0 2 0 A k hAl.symm rfl
  simp only [showAs,showA,Zb8,he,List.append_nil]) hpl.1 hpl.2 hnew rfl rfl rfl rfl rfl rfl)
 have hC3:=ZaK (Zby (O:=E) (bf:=BY) (σ:=[.frow 0 2 A,.var [.sl 2 0 off n],.row 0 2 X,.var [.sl 4 0 0 n],Zc1 fz S,.var [.sl 6 0 0 n],.row 0 2 S]) (sq:=7) (own:=0) (f:=20) (view:=true) (args:=[.ref 5 0]) (vs:=[.ref 5 0]) (vs':=[.ref 0 0]) (ids:=[5,6]) (h0:=[.var [.sl 1 0 0 n],.row 0 2 S]) (h:=[.var [.sl 1 0 0 n],Zc1 fz S]) (r:=.lst false S) (σ':=[.frow 0 2 A,.var [.sl 2 0 off n],.row 0 2 X,.var [.sl 4 0 0 n],Zc1 fz S,.var [.sl 6 0 0 n],Zc1 fz S]) (by kernel_rfl) rfl rfl rfl rfl rfl rfl (by rw [hall];cases fz <;> rfl) (Xo rfl) (Xo rfl) (by cases fz <;> rfl) rfl rfl (by cases fz <;> rfl) (u:=[(5,[.sl 6 0 0 n])]) (by cases fz <;> rfl))
 have r1:Zm (ZaA [.row 0 2 A,.var [.sl 2 0 off n],.row 0 2 X,.var [.sl 4 0 0 n],.row 0 2 S] [3,4] 5) (.lst false S)=.lst false S:=rfl
 clear hall hnew hpl
 unfold sl7 hp7
 generalize l.map (AVal.int .i64 ·)=LS at *
 cases fz
 ·simp only [Zc1,Xi,if_false] at hC1 hC2 hC3
  simp -implicitDefEqProofs only [EQA,ZT,Zbk,Xe,Xc,Xb,Xg,ZE,unG,↓reduceIte,gcT,gcA,Zy,Zu,Zk,Zr,ZO,Zo,ZJ,ZB,ZG,Zia,Zjy,ZoK,ZnC,hC1,hC2,hC3,h20,hLn,hg,Zp7,Zm,bne_self_eq_false]
 ·simp only [Zc1,if_true] at hC1 hC2 hC3
  simp -implicitDefEqProofs only [EQA,ZT,Zbk,Xe,Xc,Xb,Xg,ZE,unG,↓reduceIte,gcT,gcA,Zy,Zu,Zk,Zr,ZO,Zo,ZJ,ZB,ZG,Zia,Zjy,ZoK,ZnC,hC1,hC2,hC3,h20,hLn,hg,Zp7,Zm,bne_self_eq_false]
theorem ZAB (l:List Int):Zog (evC FC PR1 BY 0 ZkR ((29,.bool false)::sl7 l 0 (.lst true []) 0 1) [.var [.lst true []],.var [.lst true []]]):=by
 have hall:=ZxU
 unfold sN at hall
 have hnew:=Zs8
 unfold sN at hnew
 have hC1:=ZaK (Zby (O:=E) (bf:=BY) (σ:=[.var [.lst true []],.var [.lst true []]]) (sq:=2) (own:=0) (f:=20) (view:=true) (args:=[.ref 1 0]) (vs:=[.ref 1 0]) (vs':=[.ref 0 0]) (ids:=[1]) (h0:=[.var [.lst true []]]) (h:=[.var [.lst true []]]) (r:=.lst false []) (σ':=[.var [.lst true []],.var [.lst true []]]) (by kernel_rfl) rfl rfl rfl rfl rfl rfl (by rw [hall];rfl) (Xo rfl) (Xo rfl) rfl rfl rfl rfl (u:=[(1,[.lst true []])]) rfl)
 have hC2:=ZaK (ZoJ (O:=E) (σ:=[.var [.lst true []],.var [.lst true []],.free,.free]) (sq:=2) (f:=16) (args:=[.lst true []]) (vs:=[.lst false []]) (ts:=[]) (hh:=[.var [.lst true []]]) (σ':=[.var [.lst true []],.var [.lst true []],.var [.lst true []],.free]) (by kernel_rfl) rfl rfl rfl hnew rfl rfl rfl rfl rfl rfl)
 have hC3:=ZaK (Zby (O:=E) (bf:=BY) (σ:=[.var [.lst true []],.var [.lst true []],.var [.lst true []],.free]) (sq:=4) (own:=0) (f:=20) (view:=true) (args:=[.ref 2 0]) (vs:=[.ref 2 0]) (vs':=[.ref 0 0]) (ids:=[2]) (h0:=[.var [.lst true []]]) (h:=[.var [.lst true []]]) (r:=.lst false []) (σ':=[.var [.lst true []],.var [.lst true []],.var [.lst true []],.free]) (by kernel_rfl) rfl rfl rfl rfl rfl rfl (by rw [hall];rfl) (Xo rfl) (Xo rfl) rfl rfl rfl rfl (u:=[(2,[.lst true []])]) rfl)
 have h20:evL FC PR1 BY 0 [12,11,10,4] ZlG [(12,.int .i64 0),(11,.lst false []),(10,.lst false []),(4,.ref 0 0)] [.var [.lst true []]]=some (.exit 2,(103,.bool false)::[(12,.int .i64 0),(11,.lst false []),(10,.lst false []),(4,.ref 0 0)],[.var [.lst true []]]):=by
  have h0:¬(0:Int) < ((0:Nat):Int):=by decide
  rw [ZX]
  simp -implicitDefEqProofs only [EQA,Xc,Xb,↓reduceIte,Zjd,ZmL,h0]
 have g1:¬(((0:Nat):Int) > 32):=by decide
 unfold sl7
 generalize l.map (AVal.int .i64 ·)=LS at *
 simp -implicitDefEqProofs only [EQA,ZT,Zbk,Xe,Xc,Xb,Xg,ZE,unG,↓reduceIte,gcT,gcA,Zy,Zu,Zk,Zr,ZO,Zo,ZJ,ZB,ZG,Zia,Zjy,ZoK,ZnC,hC1,hC2,hC3,h20,g1,Zp7,Zm,bne_self_eq_false]
theorem ZLp (l:List Int):E1 4 [.lst false (l.map (AVal.int .i64 ·))] []=some (.bool true,[]):=by
 have h7:=ZxB l
 have hw:=ZIQ
 have hnew:=Zs8
 unfold sN at hnew
 have hN:=ZaK (ZoJ (O:=E) (σ:=[.free,.free]) (sq:=0) (f:=16) (args:=[.lst true []]) (vs:=[.lst false []]) (ts:=[]) (hh:=[.var [.lst true []]]) (σ':=[.var [.lst true []],.free]) (by kernel_rfl) rfl rfl rfl hnew rfl rfl rfl rfl rfl rfl)
 have z0:((0:Nat):Int)=0:=rfl
 have p1:(false != false)=false:=rfl
 rw [Zbz (by rfl) ZJu]
 rcases h7 with h7 | ⟨i',ms,off,X,a1,a2,a3,a4,h7⟩
 ·obtain ⟨tm,σ',hk⟩:=ZAB l
  unfold sl7 at h7 hk
  rw [z0] at h7 hk
  generalize l.map (AVal.int .i64 ·)=LS at *
  simp -implicitDefEqProofs only [EQA,ZT,Zbk,Xe,Xc,Xb,Xg,unA,ZE,unG,reduceCtorEq,↓reduceIte,gcT,gcA,Zy,Zu,Zk,Zr,ZO,Zo,ZJ,ZB,ZG,ZuF,ZkP,ZsF,hN,hw,h7,hk,p1,Zam,AVal.cells]
 ·cases ms with
  | nil=>exact absurd rfl a2
  | cons m r =>
   have e:Zaq [] (m::r)=Zaq [m] r:=by
    rw [Zaq]
    rfl
   rw [e] at a3 h7
   obtain ⟨tm,σ',hk⟩:=ZDa l i' m r a1 off X a3 a4
   unfold sl7 hp7 at h7
   unfold sl7 hp7 at hk
   rw [z0] at h7
   generalize l.map (AVal.int .i64 ·)=LS at *
   generalize (m::r).map Ze=A at *
   generalize (Zaq [m] r).map Ze=S at *
   generalize (m::r).length=k at *
   simp -implicitDefEqProofs only [EQA,ZT,Zbk,Xe,Xc,Xb,Xg,unA,ZE,unG,reduceCtorEq,↓reduceIte,gcT,gcA,Zy,Zu,Zk,Zr,ZO,Zo,ZJ,ZB,ZG,ZuF,ZkP,ZsF,hN,hw,h7,hk,p1,Zam,AVal.cells]
end
section
open Go.RowKit
def Zfs (P:Program):Nat->TypeId->Bool
 | 0,_=>true
 | n+1,t=>match P.underlying t with
  | some (.slice e)=>decide (1<=P.bytesOf e) && Zfs P n e
  | some (.struct fs)=>fs.toList.all fun f=>Zfs P n f.type
  | _=>true
mutual
def TyR (R:Nat):Ty->List AVal->Prop
 | .bool,xs=>∃ b,xs=[.bool b]
 | .int k,xs=>∃ n,(Lit.int k n).wf=true/\xs=[.int k n]
 | .str,xs=>∃ l:List UInt8,l.length<=R/\xs=[.str l]
 | .slice s e,xs=>∃ ys:List (List AVal),xs=[.lst false (ys.map (Zcu s))]/\ys.length<=R/\∀ y ∈ ys,TyR R e y
 | .struct fs,xs=>ZiY R fs xs
def ZiY (R:Nat):List Ty->List AVal->Prop
 | [],xs=>xs=[]
 | f::fs,xs=>∃ a b,xs=a++b/\TyR R f a/\ZiY R fs b
end
section
variable {H:Type} {enc:TypeId×Value->H} {P:Program} {w:World} {spare:Nat->Bool} {held:Bool} {R:Nat}
theorem Zvg {d:DataW H} {e:TypeId} {n:Nat}:∀ {l:List (DataW H)},d ∈ l->n ∈ d.weights P e->n ∈ DataW.weightsAll P e l
 | x::l,h,hn=>by
  simp only [DataW.weightsAll,Xs]
  rcases XS.1 h with rfl | h
  ·exact Xr hn
  ·exact Xy (Zvg h hn)
theorem ZGQ {t e:TypeId} {l m:List (DataW H)} {d:DataW H} (hu:P.underlying t=some (.slice e)) (hd:d ∈ l) {n:Nat} (hn:n ∈ d.weights P e):n ∈ (DataW.slice l m).weights P t:=by
 simp only [DataW.weights,hu,XS,Xs]
 exact Xy (Xr (Zvg hd hn))
theorem Ztn {n fuel:Nat} {cs:List Value} (ih:∀ (t:TypeId) (cs:List Value) (x:DataW H×List MemPlace) (T:Ty),Zdh P n t=some T->Zfs P n t=true->(∀ m ∈ x.1.weights P t,m<=R)->DataW.trod enc P w 0 spare held fuel t cs=some x->∃ xs,TyR R T xs/\VRs (Imm.of w) B0 xs cs/\ZaG xs=true) :
  ∀ (fs:List Field) (at':Nat) (Ts:List Ty) (ys:List (DataW H×List MemPlace)),(fs.all fun f=>Zfs P n f.type)=true->(∀ m ∈ DataW.weightsEach P (fs.map (·.type)) (ys.map (·.1)),m<=R)->Zin P at' fs cs.length=true->fs.mapM (fun f=>Zdh P n f.type)=some Ts ->
   fs.mapM (fun f=>DataW.trod enc P w 0 spare held fuel f.type ((cs.drop f.offset).take (P.cellsOf f.type)))=some ys->∃ xs,ZiY R Ts xs/\VRs (Imm.of w) B0 xs (cs.drop at')/\ZaG xs=true
 | [],at',Ts,ys,_,_,ho,hT,_=>by
  simp only [Zin,beq_iff_eq] at ho
  simp only [List.mapM_nil,Option.pure_def,Xa] at hT
  subst hT ho
  exact ⟨[],by simp only [ZiY],by simp [VRs],rfl⟩
 | f::fs,at',Ts,ys,hby,hwt,ho,hT,h=>by
  simp only [Zin,Xj,beq_iff_eq] at ho
  obtain ⟨T,Ts',h1,h2,rfl⟩:=ZuJ hT
  obtain ⟨y,ys',h3,h4,rfl⟩:=ZuJ h
  simp only [XP,Xj] at hby
  simp only [Xt,DataW.weightsEach,Xs] at hwt
  obtain ⟨a,a1,a2,a3⟩:=ih _ _ _ _ h1 hby.1 (fun m hm=>hwt m (Xr hm)) h3
  obtain ⟨b,b1,b2,b3⟩:=Ztn ih fs _ _ _ hby.2 (fun m hm=>hwt m (Xy hm)) ho.2 h2 h4
  rw [ho.1] at a2
  refine ⟨a++b,by simp only [ZiY];exact ⟨a,b,rfl,a1,b1⟩,ZF7 a2 (by rw [List.drop_drop];exact b2),Zzn a3 b3⟩
theorem Zri {n:Nat} {e:TypeId} {T:Ty} (hT:Zdh P n e=some T) (hs:ZdE (P.underlying e)=false) {xs:List AVal} (h:TyR R T xs):xs.length=1:=by
 cases n with
 | zero=>simp [Zdh] at hT
 | succ n =>
  simp only [Zdh] at hT
  split at hT
  ·injection hT with hT;subst hT;simp only [TyR] at h;obtain ⟨_,rfl⟩:=h;rfl
  ·injection hT with hT;subst hT;simp only [TyR] at h;obtain ⟨_,_,rfl⟩:=h;rfl
  ·injection hT with hT;subst hT;simp only [TyR] at h;obtain ⟨_,_,rfl⟩:=h;rfl
  ·split at hT
   ·simp only [Xn] at hT
    obtain ⟨T',_,rfl⟩:=hT
    simp only [TyR] at h;obtain ⟨_,rfl,_⟩:=h;rfl
   ·cases hT
  ·rename_i hu;rw [hu] at hs;simp [ZdE] at hs
  ·cases hT
theorem Zou:∀ (n fuel:Nat) (t:TypeId) (cs:List Value) (x:DataW H×List MemPlace) (T:Ty),Zdh P n t=some T->Zfs P n t=true->(∀ m ∈ x.1.weights P t,m<=R)->DataW.trod enc P w 0 spare held fuel t cs=some x ->
  ∃ xs,TyR R T xs/\VRs (Imm.of w) B0 xs cs/\ZaG xs=true
 | 0,fuel,t,cs,x,T,hT,_,_,_=>by simp [Zdh] at hT
 | n+1,0,t,cs,x,T,_,_,_,h=>by simp [DataW.trod] at h
 | n+1,fuel+1,t,cs,x,T,hT,hby,hwt,h=>by
  have h0:=h
  simp only [Zdh] at hT
  unfold DataW.trod at h
  split at hT
  ·rename_i hu
   injection hT with hT;subst hT
   obtain ⟨b,rfl,_⟩:=DataW.trod_bool hu h0
   exact ⟨[.bool b],by simp only [TyR];exact ⟨b,rfl⟩,by simp [VRs,VR],rfl⟩
  ·rename_i k hu
   injection hT with hT;subst hT
   obtain ⟨n',rfl,_,hk⟩:=DataW.trod_int hu h0
   exact ⟨[.int k n'],by simp only [TyR];exact ⟨n',hk,rfl⟩,by simp [VRs,VR],rfl⟩
  ·rename_i hu
   injection hT with hT;subst hT
   obtain ⟨s,rfl,hx,hs⟩:=DataW.trod_string hu h0
   have hs':s.data.toList.length<=9223372036854775807:=by
    rw [Array.length_toList];exact XaM hs (by simp [maxLen])
   have hR:s.data.toList.length<=R:=by
    subst hx
    exact hwt _ (by simp [DataW.weights])
   exact ⟨[.str s.data.toList],by simp only [TyR];exact ⟨_,hR,rfl⟩,by simp only [VRs,VR];exact ⟨_,_,rfl,⟨by simp,hs'⟩,rfl⟩,rfl⟩
  ·rename_i e hu
   split at hT
   case isFalse=>cases hT
   rename_i hc
   simp only [Xn] at hT
   obtain ⟨T,hT,rfl⟩:=hT
   rcases Go.Deep.open_slice hu h0 with ⟨hcs,_⟩ | ⟨a,len,cap,m,n',D,Pl,hcs,_,hl,hm,hmm,hx,hi⟩
   ·subst hcs
    exact ⟨[.lst false []],by simp only [TyR];exact ⟨[],by simp,by simp,by simp⟩,by simp only [VRs,VR];exact ⟨_,_,rfl,⟨none,0,rfl,by simp,by simp,by simp,by simp,by simp [Zae]⟩,rfl⟩,rfl⟩
   ·have hlm:len<=m:=by split at hmm <;> omega
    unfold Zfs at hby
    rw [hu] at hby
    simp only [Xj,decide_eq_true_eq] at hby
    have hlR:len<=R:=by
     have:=hwt _ (by rw [hx];simp only [DataW.weights,hu];exact List.mem_cons_self ..)
     simp only [XT,List.length_range] at this
     have h1:=Nat.le_mul_of_pos_right (len+(m - len)) hby.1
     omega
    have hspot:0 < len->a.spot=none:=by
     intro h0
     obtain ⟨cs',h1,h2⟩:=hi 0 (by omega)
     obtain ⟨_,h6,h7⟩:=World.cells?_some h1
     have h8:=h7 0 hc
     obtain ⟨u,hu⟩:∃ u,cs'[0]?=some u:=⟨cs'[0]'(by omega),by simp⟩
     rw [hu] at h8
     simp only [Nat.zero_mul,Addr.add,if_true] at h8
     exact ZFY (b:=a.block) (off:=a.off) (s:=a.spot) (u:=u) h8
    have hall:∀ i,∃ xs,i < len->TyR R T xs/\(Zcu (ZdE (P.underlying e)) xs).cells=xs/\xs.length=P.cellsOf e/\CR (Imm.of w) B0 xs a.block (a.off+i*P.cellsOf e)/\ZaG xs=true:=by
     intro i
     by_cases hlt:i < len
     ·obtain ⟨cs',h1,h2⟩:=hi i (by omega)
      obtain ⟨xs,h3,h4,h5⟩:=Zou n n' e cs' _ T hT hby.2 (fun q hq=>hwt q (by rw [hx];exact ZGQ hu (XX.2 ⟨i,W7.2 hlt,rfl⟩) hq)) h2
      obtain ⟨_,h6,h7⟩:=World.cells?_some h1
      have hlen:=ZaN h4
      refine ⟨xs,fun _=>⟨h3,ZBh (fun hs=>Zri hT hs h3) (fun _=>ZvP h5),by omega,ZvY xs cs' _ h4 (fun j hj=>?_),h5⟩⟩
      have h8:=h7 j (by omega)
      rw [Go.Deep.add_add,ZOf (hspot (by omega)),<-Nat.add_assoc] at h8
      exact h8
     ·exact ⟨[],fun h=>absurd h hlt⟩
    obtain ⟨Y,hY⟩:=Classical.axiomOfChoice hall
    subst hcs
    have hmx:maxLen=9223372036854775807:=by simp [maxLen]
    rw [hmx] at hm
    refine ⟨[.lst false ((X9 len).map fun i=>Zcu (ZdE (P.underlying e)) (Y i))],?_,?_,?_⟩
    ·simp only [TyR]
     refine ⟨(X9 len).map Y,by rw [List.map_map];rfl,by simpa using hlR,?_⟩
     intro y hy
     obtain ⟨i,hi',rfl⟩:=XX.1 hy
     exact (hY i (W7.1 hi')).1
    ·simp only [VRs,VR,XT,List.length_range]
     refine ⟨_,_,rfl,⟨some a,cap,rfl,hl,hm,by simp,?_,ZqF len Y fun i hlt=>by rw [(hY i hlt).2.1];exact (hY i hlt).2.2.2.2⟩,rfl⟩
     cases len with
     | zero=>exact Xr (by simp)
     | succ len =>
      refine Xy ⟨a.block,a.off,P.cellsOf e,?_,hc,Zuo (len+1) a.off Y fun i hlt=>?_⟩
      ·have:=hspot (by omega)
       cases a;simp_all
      ·rw [(hY i hlt).2.1];exact ⟨(hY i hlt).2.2.1,(hY i hlt).2.2.2.1⟩
    ·simp only [ZaG,ZaV,Bool.and_true]
     exact ZqF len Y fun i hlt=>by rw [(hY i hlt).2.1];exact (hY i hlt).2.2.2.2
  ·rename_i fs hu
   split at hT
   case isFalse=>cases hT
   rename_i ho
   simp only [Xn] at hT
   obtain ⟨Ts,hT,rfl⟩:=hT
   rw [hu] at h
   simp only at h
   split at h
   ·rename_i hl
    simp only [Xn] at h
    obtain ⟨ys,hy,rfl⟩:=h
    unfold Zfs at hby
    rw [hu] at hby
    simp only [DataW.weights,hu] at hwt
    obtain ⟨xs,h1,h2,h3⟩:=Ztn (fun t cs x T h h1 h2 h'=>Zou n fuel t cs x T h h1 h2 h') fs.toList 0 Ts ys hby hwt (by rw [hl];exact ho) hT hy
    exact ⟨xs,by simp only [TyR];exact h1,h2,h3⟩
   ·cases h
  ·cases hT
def Zsw (R:Nat) (s:Bool) (T:Ty) (x:AVal):Prop:=∃ xs,TyR R T xs/\x=Zcu s xs
theorem ZDq {n:Nat} {t:TypeId} {v:Value} {d:DataW H} {ps:List MemPlace} {T:Ty} {r:Reach} {b0:Nat} (hT:Zdh P n t=some T) (hby:Zfs P n t=true) (hwt:∀ m ∈ d.weights P t,m<=R) (hv:Value.okWide P w r b0 t v) (h:DataW.Trod enc P w 0 spare held t v d ps) :
  ∃ x,Zsw R (ZdE (P.underlying t)) T x/\VR (Imm.of w) B0 x v/\ZaG x.cells=true:=by
 obtain ⟨fuel,h⟩:=h
 obtain ⟨xs,h1,h2,h3⟩:=Zou n fuel t _ _ T hT hby hwt h
 refine ⟨Zcu (ZdE (P.underlying t)) xs,⟨xs,h1,rfl⟩,?_⟩
 by_cases hs:ZdE (P.underlying t)=true
 ·have : ∃ cs,v=.agg cs:=by
   unfold Value.okWide at hv
   cases hu:P.underlying t with
   | none=>rw [hu] at hs;simp [ZdE] at hs
   | some dd =>
    rw [hu] at hv hs
    cases dd <;> first | (simp [ZdE] at hs;done) | (obtain ⟨cs,e,_⟩:=hv;exact ⟨cs,e⟩)
  obtain ⟨cs,rfl⟩:=this
  rw [hs]
  exact ⟨by simp only [Zcu,if_true,VR];exact ⟨cs,rfl,h2⟩,h3⟩
 ·have hs':ZdE (P.underlying t)=false:=by simpa using hs
  have hl:=Zri hT hs' h1
  have hlen:=ZaN h2
  rw [hs']
  match xs,hl with
  | [x],_ =>
   simp only [Zcu,Xi,if_false,List.headD_cons]
   have hvc:v.cells=#[v]:=by
    cases n with
    | zero=>simp [Zdh] at hT
    | succ n =>
     simp only [Zdh] at hT
     split at hT
     ·rename_i hu;obtain ⟨b,rfl⟩:=Go.WideShapes.okWide_bool hu hv;rfl
     ·rename_i k hu;obtain ⟨b,rfl⟩:=Go.WideShapes.okWide_int hu hv;rfl
     ·rename_i hu;obtain ⟨b,rfl⟩:=Go.WideShapes.okWide_string hu hv;rfl
     ·rename_i e hu;obtain ⟨a,l,c,rfl⟩:=Go.WideShapes.okWide_slice hu hv;rfl
     ·rename_i fs hu;rw [hu] at hs';simp [ZdE] at hs'
     ·cases hT
   rw [hvc] at h2
   simp only [VRs] at h2
   obtain ⟨v',vs',e,h2,_⟩:=h2
   simp only [List.cons.injEq] at e
   rw [e.1]
   refine ⟨h2,?_⟩
   have hok:=ZvP h3 x (by simp)
   have hx:x.cells=[x]:=by cases x <;> first | rfl | (simp [ZS] at hok;done)
   rw [hx];exact h3
end
end
section
open Go.RowKit
variable {R:Nat}
theorem Zzq {α:Type} {T:Ty} {s:Bool} {f:α->AVal} {Q:α->Prop} (h:∀ y,TyR R T y->∃ a,Q a/\Zcu s y=f a) {xs:List AVal} (hx:TyR R (.slice s T) xs):∃ l:List α,(l.length<=R/\∀ a ∈ l,Q a)/\xs=[.lst false (l.map f)]:=by
 simp only [TyR] at hx
 obtain ⟨ys,rfl,h1,h2⟩:=hx
 have : ∀ ys:List (List AVal),(∀ y ∈ ys,TyR R T y)->∃ l:List α,(∀ a ∈ l,Q a)/\ys.map (Zcu s)=l.map f:=by
  intro ys
  induction ys with
  | nil=>intro _;exact ⟨[],by simp,rfl⟩
  | cons y ys ih =>
   intro hy
   obtain ⟨a,hq,ha⟩:=h y (hy y (by simp))
   obtain ⟨l,hql,hl⟩:=ih fun y' h'=>hy y' (by simp [h'])
   exact ⟨a::l,by simpa using ⟨hq,hql⟩,by simp [ha,hl]⟩
 obtain ⟨l,hq,hl⟩:=this ys h2
 refine ⟨l,⟨?_,hq⟩,by rw [hl]⟩
 have:=congrArg W3 hl
 simp only [XT] at this
 omega
def okI (n:Int):Prop:=-9223372036854775808<=n/\n<=9223372036854775807
theorem ZFu {y:List AVal} (h:TyR R (.int .i64) y):∃ n,okI n/\y=[.int .i64 n]:=by
 simp only [TyR] at h
 obtain ⟨n,hw,rfl⟩:=h
 refine ⟨n,?_,rfl⟩
 simp only [Lit.wf,Xj,decide_eq_true_eq] at hw
 exact hw
theorem ZO0 {xs:List AVal} (h:TyR R (.slice false (.int .i64)) xs):∃ l:List Int,(l.length<=R/\∀ n ∈ l,okI n)/\xs=[.lst false (l.map (AVal.int .i64))] :=
 Zzq (fun y hy=>by obtain ⟨n,h1,rfl⟩:=ZFu hy;exact ⟨n,h1,rfl⟩) h
def ZBX (R:Nat) (p:Zv):Prop:=okI p.id/\okI p.num/\p.text.length<=R/\p.pair.length<=R/\p.data.length<=R
def Zrw (R:Nat) (l:List Zv):Prop:=l.length<=R/\∀ p ∈ l,ZBX R p
structure ZPm (R:Nat) (p:ZA):Prop where
 topic:p.topic.length<=R
 payload:p.payload.length<=R
 codes:p.codes.length<=R/\∀ n ∈ p.codes,okI n
 props:Zrw R p.props
 subs:p.subs.length<=R/\∀ s ∈ p.subs,s.filter.length<=R/\okI s.qos/\okI s.handling/\okI s.id
 filters:p.filters.length<=R/\∀ f ∈ p.filters,f.length<=R
 client:p.client.length<=R
 wtopic:p.will.topic.length<=R
 wdata:p.will.data.length<=R
 wprops:Zrw R p.will.props
 user:p.user.length<=R
 password:p.password.length<=R
 ints:okI p.type/\okI p.qos/\okI p.id/\okI p.code/\okI p.keep/\okI p.will.qos
end
section
open Go.RowKit
variable {R:Nat}
theorem ZHV {x:AVal} (h:Zsw R false (.slice false (.int .i64)) x):∃ l:List Int,(l.length<=R/\∀ n ∈ l,okI n)/\x=.lst false (l.map (AVal.int .i64)):=by
 obtain ⟨y,h,rfl⟩:=h
 obtain ⟨l,h1,rfl⟩:=ZO0 h
 exact ⟨l,h1,rfl⟩
end
section
open Go.RowKit Go.Shelf Go.Lib
theorem ZLx {W:World} (h:Lib.Utf8Tabs 0 1 W):Gl.le (Imm.of W):=by
 intro b o u hu
 unfold Gl at hu
 unfold Imm.of
 split at hu
 ·rename_i e;subst e
  split at hu
  ·rename_i ho
   rw [h.1 o ho,<-hu]
  ·cases hu
 ·split at hu
  ·rename_i e;subst e
   split at hu
   ·rename_i ho
    rw [<-hu]
    obtain ⟨h1,h2⟩:=h.2 (o / 2) (by omega)
    by_cases hp:o % 2=0
    ·rw [if_pos hp,<-h1];congr 2;omega
    ·rw [if_neg hp,<-h2];congr 2;omega
   ·cases hu
  ·cases hu
section
open Go.RowKit
variable {H:Type} {enc:TypeId×Value->H} {P:Program} {w:World} {spare:Nat->Bool} {held:Bool}
end
end
section
open Go.ChangeShapes Go.WideShapes Go.ChangeAt Go.RowKit Go.Deep
theorem ZHW:ownKnob Tryz.prog.godebug=none:=by kernel_rfl
theorem ZOc:laidOutB Tryz.prog=true:=by kernel_rfl
theorem ZM0 {W:World} (hLH:laidMetH Tryz.prog Rows.linkSeenRow.laid W):Gl.le (Imm.of W):=by
 have hL:laidMet Tryz.prog Rows.linkSeenRow.laid W:=by rw [<-MakeChecks.laidMetH_plain _ _ _ (by kernel_rfl)];exact hLH
 have e1:Rows.laid_unicode_utf8_first=Lib.firstData:=by kernel_rfl
 have e2:(Rows.laid_unicode_utf8_acceptRanges:DataW Unit)=Lib.acceptData:=by kernel_rfl
 have h1:Lib.VarReads Tryz.prog W "unicode/utf8.first" Lib.firstData:=by rw [<-e1];exact Lib.laidMet.reads hL (.tail _ (.tail _ (.tail _ (.tail _ (.tail _ (.tail _ (.tail _ (.head _))))))))
 have h2:Lib.VarReads Tryz.prog W "unicode/utf8.acceptRanges" Lib.acceptData:=by rw [<-e2];exact Lib.laidMet.reads hL (.tail _ (.tail _ (.tail _ (.head _))))
 exact ZLx (utf8Tabs_of_readsT (U8Types.of196 Zuj) ⟨by kernel_rfl,by kernel_rfl,by kernel_rfl,by kernel_rfl,by kernel_rfl,by kernel_rfl,by kernel_rfl⟩ h1 h2)
set_option maxRecDepth 100000 in
theorem ZIF (H:Type) (enc:TypeId×Value->H) (W:World) (base:Nat) (args:Array Value) (ds gs:List (DataW H)) (before:List MemPlace) (vts:List TypeId)
  (hval0:∀ (j:Nat) t v,Tryz.f4.params[j]?=some t->args[j]?=some v->Value.okWide Tryz.prog W .any base t v)
  (hW:DataW.Whole enc Tryz.prog Tryz.f4.params.toList Rows.linkSeenSpec.vars false W args.toList ds gs before) (hL:laidMetH Tryz.prog Rows.linkSeenRow.laid W) (hwt:(DataW.weightsEach Tryz.prog (Tryz.f4.params.toList++vts) (ds++gs)).all (·<=reachBytes)=true) :
  Calls Tryz.prog 4 args W fun e W'=>∃ v,e=.returned v/\Rows.linkSeenSpec.post enc Tryz.prog Tryz.f4 false true false false W args v W':=by
 have hW':=hW
 obtain ⟨p,q,hA0,hV,rfl,hfz,hnd⟩:=hW
 have hval:∀ (j:Nat) t v,Tryz.f4.params[j]?=some t->args[j]?=some v->Value.okWide Tryz.prog W .any base t v:=hval0
 have hA:DataW.TrodAll enc Tryz.prog W 0 (fun _=>true) true Tryz.f4.params.toList args.toList ds p:=hA0
 rw [Tryz.params4] at hA hval hwt
 obtain ⟨v0,vs0,d0,ds0,p0,q0,hargs,rfl,rfl,h0,r0⟩:=trodAll_cons hA
 obtain ⟨rfl,rfl,rfl⟩:=trodAll_nil r0
 obtain rfl:args=#[v0]:=by cases args;simp_all
 obtain ⟨rfl,rfl⟩:=trodVars_none hV
 have k0:=h0
 have lt0:∀ x ∈ p0,x.block < W.heap.size:=by obtain ⟨m,hm⟩:=k0;exact DataW.trod_lt m _ _ _ hm
 obtain ⟨x0,y0,z0,_⟩:=ZDq (R:=reachBytes) (n:=12) (T:=(.slice false (.int .i64))) (by kernel_rfl) (by kernel_rfl) (fun m hm=>of_decide_eq_true (List.all_eq_true.1 hwt m (DataW.weights_mem_each (j:=0) rfl rfl m hm))) (hval 0 25 v0 rfl rfl) h0
 rw [Tryz.underlying25] at y0
 obtain ⟨a0,b0,rfl⟩:=ZHV y0
 clear hA0 hval0
 have hq:=ZLp a0
 refine (ZF8 ZBR (ZM0 hL) (args:=[.lst false (a0.map (AVal.int .i64 ·))]) (by simp only [VRs];exact ⟨_,_,rfl,z0,rfl⟩) (hq)).mono fun e W' ⟨he,bel⟩=>?_
 subst he
 exact ⟨_,rfl,_,_,_,[],_,[],hW',trodAll_mk1 (shut_bool Tryz.underlying4 _),(trodAll_cons_mk (Below.trod ZOc (by kernel_rfl) (of_decide_eq_true (by kernel_rfl)) k0 bel lt0) trodAll_mk0),rfl,bel.frame _,fun h=>by cases h⟩
noncomputable def ZpF (os:Os):World :=
 let w0:=World.holding Tryz.prog os ⟨#[],#[],[]⟩
 let put (h:Array Obj) (g:Nat) (us:Array Value):Array Obj:=h.modify g fun
  | .cells _ t frozen=>.cells us t frozen
  | o=>o
 let h1:=put w0.heap 0 (Lib.firstTab.map fun z=>Value.int .u8 z).toArray
 let h2:=put h1 1 ((X9 16).flatMap fun i=>[Value.int .u8 (Lib.accLo i),Value.int .u8 (Lib.accHi i)]).toArray
 let h3:=(put h2 2 #[Value.iface 246 (.pointer (some ⟨h2.size,0,none⟩))]).push (.cells #[Value.string ⟨#[98,121,116,101,115,46,66,117,102,102,101,114,58,32,116,111,111,32,108,97,114,103,101]⟩] 248)
 let vals (d:DataW Unit):Array Value:=match d with
  | .agg l=>(l.filterMap fun x=>match x with
   | .lit (.int k n)=>some (Value.int k n)
   | _=>none).toArray
  | _=>#[]
 let h4:=put h3 7 (vals Rows.laid_math_bits_deBruijn32tab)
 let h5:=put h4 8 (vals Rows.laid_math_bits_deBruijn64tab)
 let h6:=put h5 6 (vals Rows.laid_internal_strconv_uint64pow10)
 let h7:=(put h6 4 #[Value.iface 246 (.pointer (some ⟨h6.size,0,none⟩))]).push (.cells #[Value.string ⟨#[118,97,108,117,101,32,111,117,116,32,111,102,32,114,97,110,103,101]⟩] 248)
 let h8:=(put h7 3 #[Value.iface 246 (.pointer (some ⟨h7.size,0,none⟩))]).push (.cells #[Value.string ⟨#[105,110,118,97,108,105,100,32,115,121,110,116,97,120]⟩] 248)
 { w0 with heap:=h8 }
theorem ZBG (os:Os):laidMet Tryz.prog Rows.linkSeenRow.laid ((ZpF os).forCall (fun _ _=>0) ⟨#[],#[.slice none 0 0],[]⟩).memory :=
 laidMet_of_run' 8 (by kernel_rfl) (by kernel_rfl)
theorem Zwu (os:Os) {H:Type} (enc:TypeId×Value->H):∃ ds places,DataW.whole enc Tryz.prog ((ZpF os).forCall (fun _ _=>0) ⟨#[],#[.slice none 0 0],[]⟩).memory Tryz.f4.params.toList Rows.linkSeenSpec.vars false #[.slice none 0 0].toList 8=some (ds,[],places) :=
 ⟨[.nil],[],by kernel_rfl⟩
set_option maxRecDepth 100000 in
theorem ZF4 (os:Os) (started:os.Started) (H:Type) (enc:TypeId×Value->H) (F:Stop.Interp) :
  ReturnsInHanded {} Tryz.checked os 4 .any ((OpenSpec.ofChange Rows.linkSeenSpec).preRow enc Tryz.prog Tryz.f4 Rows.linkSeenRow.domain false Rows.linkSeenRow.laid) (((OpenSpec.ofChange Rows.linkSeenSpec).at F).post enc Tryz.prog Tryz.f4 false true false false):=by
 obtain ⟨ds,places,hx⟩:=Zwu os enc
 refine returnsInHanded_of_row (C:=Tryz.checked) (s:=(OpenSpec.ofChange Rows.linkSeenSpec)) ZHW started (by kernel_rfl) Tryz.func4
  (witness_row_at (enc:=enc) (C:=Tryz.checked) false (ZpF os) #[.slice none 0 0] rfl (by kernel_rfl) (by kernel_rfl) (by kernel_rfl)
   (OpenSpec.preRow_of_cond 8 hx (by kernel_rfl) (fun k hk=>by cases hk) (by kernel_rfl) (ZBG os))) ?_
 intro W base args ds gs before hval hW _ hcond hwt hL _ _
 exact ZIF H enc W base args ds gs before _ hval hW hL hwt
theorem ZzD:Rows.LinkSeenSaid :=
 OpenClaim.holds_of_cond 4 Tryz.f4 rfl rfl rfl rfl rfl rfl rfl ⟨rfl,rfl,rfl,rfl,rfl⟩ rfl rfl rfl rfl rfl (by kernel_rfl) Tryz.func4 (by kernel_rfl)
  (of_decide_eq_true (by kernel_rfl)) (by unfold Func.isWrapper;first | (rw [if_pos (by decide +kernel)];kernel_rfl) | (rw [if_neg (by decide +kernel)];exact ⟨rfl,rfl⟩))
  (fun os started H enc _ F=>by rw [OpenClaim.pre_eq_preRow];exact ZF4 os started H enc F)
theorem Zwr (f:FuncId) (fn:Func) (hf:Tryz.pinned.checked.prog.funcNamed "tidings/tidingslaw25.LinkSeen"=some f) (hfn:Tryz.pinned.checked.prog.funcs[f]?=some fn) :
  true=Tryz.pinned.checked.prog.looks []/\∀ (j:Nat) t,fn.params[j]?=some t->Tryz.pinned.checked.prog.wantsStandIn t=false:=by
 obtain rfl:f=4:=WO ((show Tryz.prog.funcNamed "tidings/tidingslaw25.LinkSeen"=some 4 by kernel_rfl).symm.trans hf) |>.symm
 obtain rfl:fn=Tryz.f4:=(WO (Tryz.func4.symm.trans hfn)).symm
 refine ⟨by kernel_rfl,fun j t ht=>?_⟩
 rw [Tryz.params4] at ht
 have hm:t=25:=by
  have:=Array.mem_of_getElem? ht
  simp at this
  first | exact this | exact this.symm | omega | (rcases this with h | h | h <;> simp [h]) | (rcases this with h | h | h | h <;> simp [h]) | (rcases this with h | h | h | h | h <;> simp [h]) | (rcases this with h | h | h | h | h | h <;> simp [h]) | (rcases this with h | h | h | h | h | h | h <;> simp [h])
 subst hm
 exact (show Tryz.prog.wantsStandIn 25=false by kernel_rfl)
theorem linkSeen_card:Rows.LinkSeenCardSaid :=
 Claim7.holds_tied_plain_at .later [] _ _ _ _ ZzD (fun _ h=>by cases h) (by kernel_rfl) (fun _ h=>by cases h) linkSeen_row_tie rfl ⟨rfl,rfl⟩ (by kernel_rfl) rfl Zwr (by kernel_rfl)
#print axioms linkSeen_card
end
end Go.Proofs.YtfemfbchakdidaaGreatDoor
