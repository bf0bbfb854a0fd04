/- The card of TreePlays: for every input the law returns true, and each argument reads afterwards as it read before, where what it reads is of bulk at most 1048576. No other condition; the tables of unicode/utf8 are tied to the program. -/
import Derived.Test.YtbjflkbenobjjaaDoorMr5
import Derived.Test.YtbjflkbenobjjaaDoorMr3
import Derived.Test.YtbjflkbenobjjaaDoorProg
import Derived.Shelf.Unicode.ValidAny
import Derived.Lib.LaidU8T
import Derived.Test.YtbjflkbenobjjaaDoorRows
import Derived.Deep.Slices
import Derived.Shelf.SlSortCmp.NoneTotal
import Derived.Test.YtbjflkbenobjjaaDoorChecked
import Derived.Deep.RegionHeld3
import Derived.Laws.Cover1
import Derived.Shelf.Small.Strs
import Derived.Shelf.Strings.Search1
import Derived.Shelf.Strings.Count
import Derived.Test.YtbjflkbenobjjaaDoorCards
import Derived.Test.YtbjflkbenobjjaaDoorTie
import Derived.WalkKit
import Derived.ProofKit
import Derived.OpenShut
import Derived.ShutString
import Derived.ChangeOld
import Derived.Below
import Derived.SevenTiedAt
import Derived.LaidByTextLater
import Derived.Lib.LaidIn
import Derived.Deep.DeepHandedRow
import Derived.MakeChecks
set_option linter.unusedSimpArgs false
set_option linter.unusedVariables false
open Option.some renaming injEq→Xa,inj→XbF
open Prod.mk renaming injEq→Xb
open Nat renaming reduceEqDiff→Xc,reduceLT→Xe,reduceAdd→Xj,le_trans→Xat
open Option renaming map_eq_some_iff→Xh
open Or renaming inl→Xm,inr→Xr
open List renaming mem_map→Xv,append_nil→XA,mem_cons→XB,length_map→Wd,range→Wn,mem_range→W0,not_mem_nil→Xah,not_lt→XaZ
open List.cons renaming injEq→WJ
namespace Go.Proofs.YtbjflkbenobjjaaDoor
set_option maxHeartbeats 16000000
set_option maxRecDepth 10000
section
theorem ZqU (sc:List ZcR) (i:Nat) (bn:Bool) (L:List Zl) (ns:List TN) (h:¬(i < sc.length/\i < 120)):kPl sc i bn L ns=some (.bool true,[]):=by
 have hm:(sc.map ZaX).length=sc.length:=by simp
 unfold kPl trV
 generalize eNs ns=X at *
 generalize (L.length:Int)=n0 at *
 generalize L.map Zc=P at *
 generalize sc.map ZaX=SC at *
 unfold ZeL
 rw [ZO]
 by_cases h1:i < sc.length
 ·have e1:(i:Int) < sc.length:=by omega
  have e2:¬(i:Int) < 120:=by omega
  simp -implicitDefEqProofs only [EQA,Xj,Xe,Xc,Zs,unG,reduceCtorEq,↓reduceIte,Ztp,Zp4,ZjP,Zfe,Zd8,hm,e1,e2]
 ·have e1:¬(i:Int) < sc.length:=by omega
  simp -implicitDefEqProofs only [EQA,Xj,Xe,Xc,Zs,Z4,reduceCtorEq,↓reduceIte,Ztp,Zp4,ZjP,Zfe,Zd8,hm,e1]
structure StP (c:Nat) (ns:List TN) (L:List Zl):Prop where
 st:St c ns L
 kb:KeyB ns
 len:ns.length<=1+65*c
theorem StP.nil:StP 0 [([],[])] []:=⟨St.nil,KeyB.nil,by simp⟩
theorem StP.put {c:Nat} {ns:List TN} {L:List Zl} (h:StP c ns L) {f:Tx} (hf:ZaW f=true) (k:Tx) (v:Int):StP (c+1) (Z0 k v (Zh f) ns 0).1 (ZbW L ⟨f,k,v⟩):=by
 obtain ⟨h1,h2⟩:=ZKL hf
 obtain ⟨h3,h4⟩:=KeyB.put k v (Zh f) ns 0 h2 h.kb
 exact ⟨h.st.put hf k v,h3,by have:=h.len;omega⟩
theorem StP.mono {c:Nat} {ns:List TN} {L:List Zl} (h:StP c ns L):StP (c+1) ns L:=⟨h.st.mono (by omega),h.kb,by have:=h.len;omega⟩
theorem StP.drop {c:Nat} {ns:List TN} {L:List Zl} (h:StP c ns L) (f k:Tx):StP (c+1) (ZL k (Zh f) ns 0).1 (Zbh L f k).1 :=
 ⟨(h.st.drop f k).mono (by omega),KeyB.drop k _ ns 0 h.kb,by have:=h.len;rw [ZhU];omega⟩
theorem ZfI (sc:List ZcR) (hf:∀ x ∈ sc,x.f.length<=1048576):∀ (n i:Nat) (bn:Bool) (L:List Zl) (ns:List TN),i+n=120->StP i ns L->kPl sc i bn L ns=some (.bool true,[])
 | 0,i,bn,L,ns,hn,hS=>ZqU sc i bn L ns (by omega)
 | n+1,i,bn,L,ns,hn,hS=>by
  by_cases h:i < sc.length/\i < 120
  ·obtain ⟨x,hx⟩:∃ x,sc[i]?=some x:=⟨_,List.getElem?_eq_getElem h.1⟩
   have hxs:=hf x (List.mem_of_getElem? hx)
   have hI:=hS.st.inv
   have hl:=hS.st.len
   have hl2:L.length<=1000:=by omega
   have hsm:=hS.st.small (by omega)
   have hnl:=hS.len
   cases h0:(x.d.tmod 5 == 0) with
   | true =>
    cases hnm:ZaW x.f with
    | true=>exact ZJE sc i L bn x hx h.2 hI hl2 hxs hnm h0 (ZfI sc hf n (i+1) false _ _ (by omega) (hS.put hnm x.k x.v))
    | false=>exact ZAW sc i L bn x hx h.2 hI hl2 hxs hnm h0 (ZfI sc hf n (i+1) bn _ _ (by omega) hS.mono)
   | false =>
    cases h01:(x.d.tmod 5 == 1) with
    | true=>exact ZE5 sc i L bn x hx h.2 hI hl2 hxs hsm h0 h01 (ZfI sc hf n (i+1) false _ _ (by omega) (hS.drop x.f x.k))
    | false =>
     cases h02:(x.d.tmod 5 == 2) with
     | true=>exact ZBH sc i L bn x hx h.2 hI hl2 hxs h0 h01 h02 (ZfI sc hf n (i+1) bn _ _ (by omega) hS.mono)
     | false =>
      cases h03:(x.d.tmod 5 == 3) with
      | true=>exact ZG4 sc i L bn x hx h.2 hI hl2 h0 h01 h02 h03 (ZfI sc hf n (i+1) bn _ _ (by omega) hS.mono)
      | false=>exact ZDW sc i L bn x hx h.2 hI hl2 hS.kb (by omega) h0 h01 h02 h03 (ZfI sc hf n (i+1) bn _ _ (by omega) hS.mono)
  ·exact ZqU sc i bn L ns h
theorem Zwg (sc:List ZcR) (hf:∀ x ∈ sc,x.f.length<=1048576):E 6 [.lst false (sc.map ZaX)] []=some (.bool true,[]):=by
 have h:=ZfI sc hf 120 0 true [] [([],[])] rfl StP.nil
 unfold kPl ZeL at h
 have z0:((0:Nat):Int)=0:=rfl
 simp only [List.length_nil,z0,List.map_nil] at h
 have q0:=fun {σ:Za} {sq:Nat} hff=>ZKU (σ:=σ) (sq:=sq) hff
 have q2:=Zu4
 generalize sc.map ZaX=SC at *
 rw [ZQ (by rfl) ZJg]
 simp -implicitDefEqProofs only [EQA,ZE,ZaH,Xj,Xe,Nat.reduceLeDiff,Xc,Nat.reduceBEq,Nat.reduceMul,unA,Zs,unG,reduceCtorEq,↓reduceIte,gcT,gcA,Zn,Zi,Ze,Zg,Zv,Zb,Zu,Zm,Zp,ZwL,Zpe,q0,q2,Zai,ZaR]
 exact h
end
section
open Go.RowKit
mutual
def TyR (R:Nat):Ty->List AVal->Prop
 | .bool,xs=>∃ b,xs=[.bool b]
 | .int k,xs=>∃ n,(Lit.int k n).wf=true/\xs=[.int k n]
 | .str,xs=>∃ l:List UInt8,l.length<=R/\xs=[.str l]
 | .slice s e,xs=>∃ ys:List (List AVal),xs=[.lst false (ys.map (Zcn s))]/\ys.length<=R/\∀ y ∈ ys,TyR R e y
 | .struct fs,xs=>ZfP R fs xs
def ZfP (R:Nat):List Ty->List AVal->Prop
 | [],xs=>xs=[]
 | f::fs,xs=>∃ a b,xs=a++b/\TyR R f a/\ZfP R fs b
end
section
variable {H:Type} {enc:TypeId×Value->H} {P:Program} {w:World} {spare:Nat->Bool} {held:Bool} {R:Nat}
theorem ZuV {n:Nat} {e:TypeId} {T:Ty} (hT:Zc7 P n e=some T) (hs:Zdl (P.underlying e)=false) {xs:List AVal} (h:TyR R T xs):xs.length=1:=by
 cases n with
 | zero=>simp [Zc7] at hT
 | succ n =>
  simp only [Zc7] at hT
  split at hT
  ·injection hT with hT;subst hT;simp only [TyR] at h;obtain ⟨_,rfl⟩:=h;rfl
  ·injection hT with hT;subst hT;simp only [TyR] at h;obtain ⟨_,_,rfl⟩:=h;rfl
  ·injection hT with hT;subst hT;simp only [TyR] at h;obtain ⟨_,_,rfl⟩:=h;rfl
  ·split at hT
   ·simp only [Xh] at hT
    obtain ⟨T',_,rfl⟩:=hT
    simp only [TyR] at h;obtain ⟨_,rfl,_⟩:=h;rfl
   ·cases hT
  ·rename_i hu;rw [hu] at hs;simp [Zdl] at hs
  ·cases hT
def Zus (R:Nat) (s:Bool) (T:Ty) (x:AVal):Prop:=∃ xs,TyR R T xs/\x=Zcn s xs
end
end
section
open Go.Shelf
def ZyF:Ren:=⟨fun | 196=>64 | 259=>82 | n=>n,fun | 9=>9 | 4=>4 | 3=>3 | 5=>5 | 12=>12 | 119=>111 | 0=>0 | 46=>84 | 139=>114 | 138=>113 | 53=>105 | n=>n,fun | 3=>0 | 4=>1 | n=>n⟩
theorem Zra:Go.Proofs.Lays.n196 Tryd.prog ZyF:={ mixed:=by kernel_rfl,f196:=Tryd.func64.trans (congrArg some (by kernel_rfl)),f259:=Tryd.func82.trans (congrArg some (by kernel_rfl)),t0:=Tryd.underlying0,a0:=Tryd.isAgg0,z0:=Tryd.sizeOf0,v0:=Tryd.zeroValue0,t3:=Tryd.underlying3,a3:=Tryd.isAgg3,z3:=Tryd.sizeOf3,v3:=Tryd.zeroValue3,t4:=Tryd.underlying4,a4:=Tryd.isAgg4,z4:=Tryd.sizeOf4,v4:=Tryd.zeroValue4,t5:=Tryd.underlying5,a5:=Tryd.isAgg5,z5:=Tryd.sizeOf5,v5:=Tryd.zeroValue5,t9:=Tryd.underlying9,a9:=Tryd.isAgg9,z9:=Tryd.sizeOf9,v9:=Tryd.zeroValue9,t12:=Tryd.underlying12,a12:=Tryd.isAgg12,z12:=Tryd.sizeOf12,v12:=Tryd.zeroValue12,t46:=Tryd.underlying84,a46:=Tryd.isAgg84,z46:=Tryd.sizeOf84,v46:=Tryd.zeroValue84,t53:=Tryd.underlying105,a53:=Tryd.isAgg105,z53:=Tryd.sizeOf105,v53:=Tryd.zeroValue105,t119:=Tryd.underlying111,a119:=Tryd.isAgg111,z119:=Tryd.sizeOf111,t138:=Tryd.underlying113,a138:=Tryd.isAgg113,z138:=Tryd.sizeOf113,v138:=Tryd.zeroValue113,t139:=Tryd.underlying114,a139:=Tryd.isAgg114,z139:=Tryd.sizeOf114,v139:=Tryd.zeroValue114,g3:=by kernel_rfl,g4:=by kernel_rfl }
end
section
open Go.RowKit Go.Shelf Go.Lib
theorem ZKZ {W:World} (h:Lib.Utf8Tabs 0 1 W):Gl.le (Imm.of W):=by
 intro b o u hu
 unfold Gl at hu
 unfold Imm.of
 split at hu
 ·rename_i e;subst e
  split at hu
  ·rename_i ho
   rw [h.1 o ho,<-hu]
  ·cases hu
 ·split at hu
  ·rename_i e;subst e
   split at hu
   ·rename_i ho
    rw [<-hu]
    obtain ⟨h1,h2⟩:=h.2 (o / 2) (by omega)
    by_cases hp:o % 2=0
    ·rw [if_pos hp,<-h1];congr 2;omega
    ·rw [if_neg hp,<-h2];congr 2;omega
   ·cases hu
  ·cases hu
section
open Go.RowKit
variable {H:Type} {enc:TypeId×Value->H} {P:Program} {w:World} {spare:Nat->Bool} {held:Bool}
theorem ZtW {d:DataW H} {l:List (DataW H)} (h:d ∈ l):Rows.uptoBulk d<=Rows.uptoBulkAll l:=by
 induction l with
 | nil=>cases h
 | cons x r ih =>
  simp only [Rows.uptoBulkAll]
  rcases XB.1 h with rfl | h
  ·omega
  ·have:=ih h;omega
theorem ZFo {d:DataW H} {l m:List (DataW H)} (h:d ∈ l):Rows.uptoBulk d<=Rows.uptoBulk (.slice l m):=by
 have:=ZtW h
 simp only [Rows.uptoBulk];omega
theorem ZIE {d:DataW H} {l:List (DataW H)} (hb:Rows.uptoSmall H l=true) (h:d ∈ l):Rows.uptoBulk d<=1048576:=by
 have:=ZtW h
 have h2:Rows.uptoBulkAll l<=1048576:=by simpa [Rows.uptoSmall] using hb
 omega
end
end
section
open Go.RowKit
section
variable {H:Type} {enc:TypeId×Value->H} {P:Program} {w:World} {spare:Nat->Bool} {held:Bool} {R:Nat}
theorem ZJB (d:DataW H):1<=Rows.uptoBulk d:=by
 cases d with
 | lit l=>cases l <;> simp [Rows.uptoBulk]
 | _=>simp [Rows.uptoBulk]
theorem ZpI:∀ l:List (DataW H),l.length<=Rows.uptoBulkAll l
 | []=>by simp [Rows.uptoBulkAll]
 | d::l=>by
  have:=ZpI l
  have:=ZJB d
  simp only [Rows.uptoBulkAll,List.length_cons];omega
theorem ZrV {n fuel:Nat} {cs:List Value} (ih:∀ (t:TypeId) (cs:List Value) (x:DataW H×List MemPlace) (T:Ty),Zc7 P n t=some T->Rows.uptoBulk x.1<=R->DataW.trod enc P w 0 spare held fuel t cs=some x->∃ xs,TyR R T xs/\VRs (Imm.of w) B0 xs cs/\Z9 xs=true) :
  ∀ (fs:List Field) (at':Nat) (Ts:List Ty) (ys:List (DataW H×List MemPlace)),Rows.uptoBulkAll (ys.map (·.1))<=R->Zid P at' fs cs.length=true->fs.mapM (fun f=>Zc7 P n f.type)=some Ts ->
   fs.mapM (fun f=>DataW.trod enc P w 0 spare held fuel f.type ((cs.drop f.offset).take (P.cellsOf f.type)))=some ys->∃ xs,ZfP R Ts xs/\VRs (Imm.of w) B0 xs (cs.drop at')/\Z9 xs=true
 | [],at',Ts,ys,_,ho,hT,_=>by
  simp only [Zid,beq_iff_eq] at ho
  simp only [List.mapM_nil,Option.pure_def,Xa] at hT
  subst hT ho
  exact ⟨[],by simp only [ZfP],by simp [VRs],rfl⟩
 | f::fs,at',Ts,ys,hwt,ho,hT,h=>by
  simp only [Zid,Bool.and_eq_true,beq_iff_eq] at ho
  obtain ⟨T,Ts',h1,h2,rfl⟩:=ZsL hT
  obtain ⟨y,ys',h3,h4,rfl⟩:=ZsL h
  simp only [List.map_cons,Rows.uptoBulkAll] at hwt
  obtain ⟨a,a1,a2,a3⟩:=ih _ _ _ _ h1 (by omega) h3
  obtain ⟨b,b1,b2,b3⟩:=ZrV ih fs _ _ _ (by omega) ho.2 h2 h4
  rw [ho.1] at a2
  refine ⟨a++b,by simp only [ZfP];exact ⟨a,b,rfl,a1,b1⟩,ZCe a2 (by rw [List.drop_drop];exact b2),ZJW a3 b3⟩
theorem Zk1:∀ (n fuel:Nat) (t:TypeId) (cs:List Value) (x:DataW H×List MemPlace) (T:Ty),Zc7 P n t=some T->Rows.uptoBulk x.1<=R->DataW.trod enc P w 0 spare held fuel t cs=some x ->
  ∃ xs,TyR R T xs/\VRs (Imm.of w) B0 xs cs/\Z9 xs=true
 | 0,fuel,t,cs,x,T,hT,_,_=>by simp [Zc7] at hT
 | n+1,0,t,cs,x,T,_,_,h=>by simp [DataW.trod] at h
 | n+1,fuel+1,t,cs,x,T,hT,hwt,h=>by
  have h0:=h
  simp only [Zc7] at hT
  unfold DataW.trod at h
  split at hT
  ·rename_i hu
   injection hT with hT;subst hT
   obtain ⟨b,rfl,_⟩:=DataW.trod_bool hu h0
   exact ⟨[.bool b],by simp only [TyR];exact ⟨b,rfl⟩,by simp [VRs,VR],rfl⟩
  ·rename_i k hu
   injection hT with hT;subst hT
   obtain ⟨n',rfl,_,hk⟩:=DataW.trod_int hu h0
   exact ⟨[.int k n'],by simp only [TyR];exact ⟨n',hk,rfl⟩,by simp [VRs,VR],rfl⟩
  ·rename_i hu
   injection hT with hT;subst hT
   obtain ⟨s,rfl,hx,hs⟩:=DataW.trod_string hu h0
   have hs':s.data.toList.length<=9223372036854775807:=by
    rw [Array.length_toList];exact Xat hs (by simp [maxLen])
   have hR:s.data.toList.length<=R:=by
    subst hx
    simp only [Rows.uptoBulk] at hwt
    omega
   exact ⟨[.str s.data.toList],by simp only [TyR];exact ⟨_,hR,rfl⟩,by simp only [VRs,VR];exact ⟨_,_,rfl,⟨by simp,hs'⟩,rfl⟩,rfl⟩
  ·rename_i e hu
   split at hT
   case isFalse=>cases hT
   rename_i hc
   simp only [Xh] at hT
   obtain ⟨T,hT,rfl⟩:=hT
   rcases Go.Deep.open_slice hu h0 with ⟨hcs,_⟩ | ⟨a,len,cap,m,n',D,Pl,hcs,_,hl,hm,hmm,hx,hi⟩
   ·subst hcs
    exact ⟨[.lst false []],by simp only [TyR];exact ⟨[],by simp,by simp,by simp⟩,by simp only [VRs,VR];exact ⟨_,_,rfl,⟨none,0,rfl,by simp,by simp,by simp,by simp,by simp [ZM]⟩,rfl⟩,rfl⟩
   ·have hlm:len<=m:=by split at hmm <;> omega
    have hlR:len<=R:=by
     rw [hx] at hwt
     simp only [Rows.uptoBulk] at hwt
     have:=ZpI ((Wn len).map D)
     simp only [Wd,List.length_range] at this
     omega
    have hspot:0 < len->a.spot=none:=by
     intro h0
     obtain ⟨cs',h1,h2⟩:=hi 0 (by omega)
     obtain ⟨_,h6,h7⟩:=World.cells?_some h1
     have h8:=h7 0 hc
     obtain ⟨u,hu⟩:∃ u,cs'[0]?=some u:=⟨cs'[0]'(by omega),by simp⟩
     rw [hu] at h8
     simp only [Nat.zero_mul,Addr.add,if_true] at h8
     exact Zvx (b:=a.block) (off:=a.off) (s:=a.spot) (u:=u) h8
    have hall:∀ i,∃ xs,i < len->TyR R T xs/\(Zcn (Zdl (P.underlying e)) xs).cells=xs/\xs.length=P.cellsOf e/\CR (Imm.of w) B0 xs a.block (a.off+i*P.cellsOf e)/\Z9 xs=true:=by
     intro i
     by_cases hlt:i < len
     ·obtain ⟨cs',h1,h2⟩:=hi i (by omega)
      obtain ⟨xs,h3,h4,h5⟩:=Zk1 n n' e cs' _ T hT (Xat (by rw [hx];exact ZFo (Xv.2 ⟨i,W0.2 hlt,rfl⟩)) hwt) h2
      obtain ⟨_,h6,h7⟩:=World.cells?_some h1
      have hlen:=Z1 h4
      refine ⟨xs,fun _=>⟨h3,ZDG (fun hs=>ZuV hT hs h3) (fun _=>ZsV h5),by omega,ZsE xs cs' _ h4 (fun j hj=>?_),h5⟩⟩
      have h8:=h7 j (by omega)
      rw [Go.Deep.add_add,ZGS (hspot (by omega)),<-Nat.add_assoc] at h8
      exact h8
     ·exact ⟨[],fun h=>absurd h hlt⟩
    obtain ⟨Y,hY⟩:=Classical.axiomOfChoice hall
    subst hcs
    have hmx:maxLen=9223372036854775807:=by simp [maxLen]
    rw [hmx] at hm
    refine ⟨[.lst false ((Wn len).map fun i=>Zcn (Zdl (P.underlying e)) (Y i))],?_,?_,?_⟩
    ·simp only [TyR]
     refine ⟨(Wn len).map Y,by rw [List.map_map];rfl,by simpa using hlR,?_⟩
     intro y hy
     obtain ⟨i,hi',rfl⟩:=Xv.1 hy
     exact (hY i (W0.1 hi')).1
    ·simp only [VRs,VR,Wd,List.length_range]
     refine ⟨_,_,rfl,⟨some a,cap,rfl,hl,hm,by simp,?_,ZoE len Y fun i hlt=>by rw [(hY i hlt).2.1];exact (hY i hlt).2.2.2.2⟩,rfl⟩
     cases len with
     | zero=>exact Xm (by simp)
     | succ len =>
      refine Xr ⟨a.block,a.off,P.cellsOf e,?_,hc,Ztx (len+1) a.off Y fun i hlt=>?_⟩
      ·have:=hspot (by omega)
       cases a;simp_all
      ·rw [(hY i hlt).2.1];exact ⟨(hY i hlt).2.2.1,(hY i hlt).2.2.2.1⟩
    ·simp only [Z9,Z2,Bool.and_true]
     exact ZoE len Y fun i hlt=>by rw [(hY i hlt).2.1];exact (hY i hlt).2.2.2.2
  ·rename_i fs hu
   split at hT
   case isFalse=>cases hT
   rename_i ho
   simp only [Xh] at hT
   obtain ⟨Ts,hT,rfl⟩:=hT
   rw [hu] at h
   simp only at h
   split at h
   ·rename_i hl
    simp only [Xh] at h
    obtain ⟨ys,hy,rfl⟩:=h
    simp only [Rows.uptoBulk] at hwt
    obtain ⟨xs,h1,h2,h3⟩:=ZrV (fun t cs x T h h1 h'=>Zk1 n fuel t cs x T h h1 h') fs.toList 0 Ts ys (by omega) (by rw [hl];exact ho) hT hy
    exact ⟨xs,by simp only [TyR];exact h1,h2,h3⟩
   ·cases h
  ·cases hT
theorem ZMH {n:Nat} {t:TypeId} {v:Value} {d:DataW H} {ps:List MemPlace} {T:Ty} {r:Reach} {b0:Nat} (hT:Zc7 P n t=some T) (hwt:Rows.uptoBulk d<=R) (hv:Value.okWide P w r b0 t v) (h:DataW.Trod enc P w 0 spare held t v d ps) :
  ∃ x,Zus R (Zdl (P.underlying t)) T x/\VR (Imm.of w) B0 x v/\Z9 x.cells=true:=by
 obtain ⟨fuel,h⟩:=h
 obtain ⟨xs,h1,h2,h3⟩:=Zk1 n fuel t _ _ T hT hwt h
 refine ⟨Zcn (Zdl (P.underlying t)) xs,⟨xs,h1,rfl⟩,?_⟩
 by_cases hs:Zdl (P.underlying t)=true
 ·have : ∃ cs,v=.agg cs:=by
   unfold Value.okWide at hv
   cases hu:P.underlying t with
   | none=>rw [hu] at hs;simp [Zdl] at hs
   | some dd =>
    rw [hu] at hv hs
    cases dd <;> first | (simp [Zdl] at hs;done) | (obtain ⟨cs,e,_⟩:=hv;exact ⟨cs,e⟩)
  obtain ⟨cs,rfl⟩:=this
  rw [hs]
  exact ⟨by simp only [Zcn,if_true,VR];exact ⟨cs,rfl,h2⟩,h3⟩
 ·have hs':Zdl (P.underlying t)=false:=by simpa using hs
  have hl:=ZuV hT hs' h1
  have hlen:=Z1 h2
  rw [hs']
  match xs,hl with
  | [x],_ =>
   simp only [Zcn,Bool.false_eq_true,if_false,List.headD_cons]
   have hvc:v.cells=#[v]:=by
    cases n with
    | zero=>simp [Zc7] at hT
    | succ n =>
     simp only [Zc7] at hT
     split at hT
     ·rename_i hu;obtain ⟨b,rfl⟩:=Go.WideShapes.okWide_bool hu hv;rfl
     ·rename_i k hu;obtain ⟨b,rfl⟩:=Go.WideShapes.okWide_int hu hv;rfl
     ·rename_i hu;obtain ⟨b,rfl⟩:=Go.WideShapes.okWide_string hu hv;rfl
     ·rename_i e hu;obtain ⟨a,l,c,rfl⟩:=Go.WideShapes.okWide_slice hu hv;rfl
     ·rename_i fs hu;rw [hu] at hs';simp [Zdl] at hs'
     ·cases hT
   rw [hvc] at h2
   simp only [VRs] at h2
   obtain ⟨v',vs',e,h2,_⟩:=h2
   simp only [WJ] at e
   rw [e.1]
   refine ⟨h2,?_⟩
   have hok:=ZsV h3 x (by simp)
   have hx:x.cells=[x]:=by cases x <;> first | rfl | (simp [ZJ] at hok;done)
   rw [hx];exact h3
end
end
section
open Go.RowKit
def Zoo:Ty:=.slice true (.struct [.int .i64,.int .i64,.str,.str])
theorem ZxH {R:Nat} {x:AVal} (h:Zus R false Zoo x):∃ l:List ZcR,(∀ s ∈ l,s.f.length<=R/\s.k.length<=R)/\x=.lst false (l.map ZaX):=by
 obtain ⟨y,h,rfl⟩:=h
 simp only [Zoo,TyR] at h
 obtain ⟨ys,rfl,h1,h2⟩:=h
 have : ∀ ys:List (List AVal),(∀ y ∈ ys,ZfP R [.int .i64,.int .i64,.str,.str] y)->∃ l:List ZcR,(∀ s ∈ l,s.f.length<=R/\s.k.length<=R)/\ys.map (Zcn true)=l.map ZaX:=by
  intro ys
  induction ys with
  | nil=>intro _;exact ⟨[],by simp,rfl⟩
  | cons y ys ih =>
   intro hy
   have hy0:=hy y (by simp)
   simp only [ZfP] at hy0
   obtain ⟨_,_,rfl,h1,_,_,rfl,h2,_,_,rfl,h3,_,_,rfl,h4,rfl⟩:=hy0
   simp only [TyR] at h1 h2 h3 h4
   obtain ⟨a,_,rfl⟩:=h1
   obtain ⟨d,_,rfl⟩:=h2
   obtain ⟨s,hs,rfl⟩:=h3
   obtain ⟨c,hc,rfl⟩:=h4
   obtain ⟨l,hok,hl⟩:=ih fun y' h'=>hy y' (by simp [h'])
   refine ⟨⟨a,d,s,c⟩::l,?_,by simp [hl,Zcn,ZaX]⟩
   intro z hz
   rcases XB.1 hz with rfl | hz
   ·exact ⟨hs,hc⟩
   ·exact hok z hz
 obtain ⟨l,hok,hl⟩:=this ys (fun y hy=>by simpa only [TyR] using h2 y hy)
 exact ⟨l,hok,by simp [Zcn,hl]⟩
end
section
theorem ZEG:Z8 (ZgA Tryd.prog (fun _=>{ lr:=fun n=>if n=1 then [0] else [] })) (fun _=>none) (fun _=>false) 2 28 [] []=some (.ref 0 0,[.var [.map 1,.map 2],.map [],.map []]):=by kernel_rfl
theorem ZzL:Zkx Tryd.prog (fun _=>none):=by intro f g h;cases h
theorem ZLY {args:List AVal} {σ σ':Za} {r:AVal} (hp:ZmV args σ=some (r,σ')) :
  (∃ fn,Tryd.prog.funcs[28]?=some fn/\fn.body.isSome=true/\(fn.name == "runtime.NumGoroutine")=false) /\
  ∀ base w0 I0 I β w (vs:Array Value),KLt base w0->Rel base w0 I0 I β σ w->VRs I β args vs.toList->Calls Tryd.prog 28 vs w (fun e w'=>∃ u,Ends r e u/\ZbY σ.length base w0 I0 I β r σ' u w'):=by
 unfold ZmV at hp
 split at hp
 case h_2=>cases hp
 simp only [Xa,Xb] at hp
 obtain ⟨rfl,rfl⟩:=hp
 obtain ⟨h1,h2⟩:=Zma (by kernel_rfl) ZzL _ _ 2 _ _ _ _ _ ZEG
 refine ⟨h1,fun base w0 I0 I β w vs hb R hv=>(h2 base w0 I0 I β w vs hb R hv).mono ?_⟩
 rintro e w' ⟨u,he,I',β',i1,i2,R',hv'⟩
 obtain ⟨β2,R2,hv2⟩:=R'.arena1
 exact ⟨u,he,I',β2,i1,fun t ht=>absurd ht (by simp),R2,hv2 _ hv'⟩
end
section
open Go.Shelf
def ZGu:Ren:=⟨fun | 6=>49 | 15=>57 | 14=>56 | 28=>76 | 29=>77 | 20=>68 | 21=>69 | 22=>70 | 23=>71 | 24=>72 | 25=>73 | 26=>74 | 27=>75 | 46=>87 | 47=>88 | 48=>89 | 49=>90 | 50=>91 | 57=>95 | n=>n,fun | 22=>31 | 24=>35 | 25=>80 | 3=>3 | 39=>84 | 0=>0 | 53=>103 | 55=>105 | 4=>4 | 46=>97 | 45=>96 | 50=>50 | 5=>5 | 9=>9 | 66=>118 | 70=>122 | 76=>124 | 77=>85 | n=>n,fun | n=>n⟩
theorem Ztv:Go.Proofs.SlLaysF0.n6 Tryd.prog ZGu:={ mixed:=by kernel_rfl,f6:=⟨"slices.SortFunc[[]tidings/trie.Row[int],tidings/trie.Row[int]]",by kernel_rfl,Tryd.func49.trans (congrArg some (by kernel_rfl))⟩,f14:=⟨"slices.pdqsortCmpFunc[tidings/trie.Row[int]]",by kernel_rfl,Tryd.func56.trans (congrArg some (by kernel_rfl))⟩,f15:=Tryd.func57.trans (congrArg some (by kernel_rfl)),f20:=⟨"slices.insertionSortCmpFunc[tidings/trie.Row[int]]",by kernel_rfl,Tryd.func68.trans (congrArg some (by kernel_rfl))⟩,f21:=⟨"slices.heapSortCmpFunc[tidings/trie.Row[int]]",by kernel_rfl,Tryd.func69.trans (congrArg some (by kernel_rfl))⟩,f22:=⟨"slices.breakPatternsCmpFunc[tidings/trie.Row[int]]",by kernel_rfl,Tryd.func70.trans (congrArg some (by kernel_rfl))⟩,f23:=⟨"slices.choosePivotCmpFunc[tidings/trie.Row[int]]",by kernel_rfl,Tryd.func71.trans (congrArg some (by kernel_rfl))⟩,f24:=⟨"slices.reverseRangeCmpFunc[tidings/trie.Row[int]]",by kernel_rfl,Tryd.func72.trans (congrArg some (by kernel_rfl))⟩,f25:=⟨"slices.partialInsertionSortCmpFunc[tidings/trie.Row[int]]",by kernel_rfl,Tryd.func73.trans (congrArg some (by kernel_rfl))⟩,f26:=⟨"slices.partitionEqualCmpFunc[tidings/trie.Row[int]]",by kernel_rfl,Tryd.func74.trans (congrArg some (by kernel_rfl))⟩,f27:=⟨"slices.partitionCmpFunc[tidings/trie.Row[int]]",by kernel_rfl,Tryd.func75.trans (congrArg some (by kernel_rfl))⟩,f28:=Tryd.func76.trans (congrArg some (by kernel_rfl)),f29:=Tryd.func77.trans (congrArg some (by kernel_rfl)),f46:=⟨"slices.siftDownCmpFunc[tidings/trie.Row[int]]",by kernel_rfl,Tryd.func87.trans (congrArg some (by kernel_rfl))⟩,f47:=Tryd.func88.trans (congrArg some (by kernel_rfl)),f48:=Tryd.func89.trans (congrArg some (by kernel_rfl)),f49:=⟨"slices.medianAdjacentCmpFunc[tidings/trie.Row[int]]",by kernel_rfl,Tryd.func90.trans (congrArg some (by kernel_rfl))⟩,f50:=⟨"slices.medianCmpFunc[tidings/trie.Row[int]]",by kernel_rfl,Tryd.func91.trans (congrArg some (by kernel_rfl))⟩,f57:=⟨"slices.order2CmpFunc[tidings/trie.Row[int]]",by kernel_rfl,Tryd.func95.trans (congrArg some (by kernel_rfl))⟩,t0:=Tryd.underlying0,a0:=Tryd.isAgg0,z0:=Tryd.sizeOf0,v0:=Tryd.zeroValue0,t3:=Tryd.underlying3,a3:=Tryd.isAgg3,z3:=Tryd.sizeOf3,v3:=Tryd.zeroValue3,t4:=Tryd.underlying4,a4:=Tryd.isAgg4,z4:=Tryd.sizeOf4,v4:=Tryd.zeroValue4,t5:=Tryd.underlying5,a5:=Tryd.isAgg5,z5:=Tryd.sizeOf5,v5:=Tryd.zeroValue5,t9:=Tryd.underlying9,a9:=Tryd.isAgg9,z9:=Tryd.sizeOf9,v9:=Tryd.zeroValue9,t22:=Tryd.underlying31,a22:=Tryd.isAgg31,z22:=Tryd.sizeOf31,v22:=Tryd.zeroValue31,t25:=Tryd.underlying80,a25:=Tryd.isAgg80,z25:=Tryd.sizeOf80,v25:=Tryd.zeroValue80,t39:=Tryd.underlying84,a39:=Tryd.isAgg84,z39:=Tryd.sizeOf84,v39:=Tryd.zeroValue84,t45:=Tryd.underlying96,a45:=Tryd.isAgg96,z45:=Tryd.sizeOf96,v45:=Tryd.zeroValue96,t46:=Tryd.underlying97,a46:=Tryd.isAgg97,z46:=Tryd.sizeOf97,v46:=Tryd.zeroValue97,t50:=Tryd.underlying50,a50:=Tryd.isAgg50,z50:=Tryd.sizeOf50,v50:=Tryd.zeroValue50,t53:=Tryd.underlying103,a53:=Tryd.isAgg103,z53:=Tryd.sizeOf103,v53:=Tryd.zeroValue103,t55:=Tryd.underlying105,a55:=Tryd.isAgg105,z55:=Tryd.sizeOf105,v55:=Tryd.zeroValue105,t66:=Tryd.underlying118,a66:=Tryd.isAgg118,z66:=Tryd.sizeOf118,v66:=Tryd.zeroValue118,t70:=Tryd.underlying122,a70:=Tryd.isAgg122,z70:=Tryd.sizeOf122,v70:=Tryd.zeroValue122,t76:=Tryd.underlying124,a76:=Tryd.isAgg124,z76:=Tryd.sizeOf124,v76:=Tryd.zeroValue124,t77:=Tryd.underlying85,a77:=Tryd.isAgg85,z77:=Tryd.sizeOf85,v77:=Tryd.zeroValue85 }
end
section
open Go.RowKit Go.Sort Go.Lib
set_option maxRecDepth 100000
theorem ZFF {I:Imm} {β:Bmap} (x:AVal) (a:List UInt8×List UInt8) (l:List Value) (h:Zc2 x=some a) (hv:VRs I β x.cells l):∃ t,l=[Value.string ⟨a.1.toArray⟩,Value.string ⟨a.2.toArray⟩]++t:=by
 unfold Zc2 at h
 split at h
 ·injection h with h;subst h
  simp only [AVal.cells,VRs] at hv
  obtain ⟨v,vs,rfl,h1,v2,vs2,rfl,h2,_⟩:=hv
  simp only [VR] at h1 h2
  exact ⟨vs2,by rw [h1.1,h2.1];rfl⟩
 ·cases h
theorem ZEx (A:ByteArray) (W:World):Calls Tryd.prog 58 #[.string A] W fun e w'=>e=.returned (.bool false)/\w'=W:=by
 go_enter Tryd.func58,Tryd.ntmps58
 go_wp2
 go_ret
 simp
theorem ZyD (a b:List UInt8) (W:World):Calls Tryd.prog 51 #[.string ⟨a.toArray⟩,.string ⟨b.toArray⟩] W fun e w'=>e=.returned (.int .i64 (Zcu a b))/\w'=W:=by
 have h1:Op.bytesLess (⟨a.toArray⟩:ByteArray).toList (⟨b.toArray⟩:ByteArray).toList=decide (a < b):=by
  rw [Go.Proofs.bytesLess_eq];simp
 have h3:((⟨a.toArray⟩:ByteArray).toList == (⟨b.toArray⟩:ByteArray).toList)=decide (a=b):=by
  by_cases h:a=b
  ·subst h;simp
  ·simp [h]
 have hn:=ZEx
 by_cases hab:a < b
 ·rw [decide_eq_true hab] at h1
  have hr:Zcu a b=-1:=by unfold Zcu;rw [if_pos hab]
  rw [hr]
  clear h3 hr hab
  generalize (⟨a.toArray⟩:ByteArray)=A1 at *
  generalize (⟨b.toArray⟩:ByteArray)=B1 at *
  go_enter Tryd.func51,Tryd.ntmps51
  go_wp2_with (go_at_call 58;refine (hn _ _).mono ?_;rintro e w' ⟨rfl,rfl⟩)
  go_ret
  simp
 ·rw [decide_eq_false hab] at h1
  by_cases hba:b < a
  ·have hne:a≠b:=by rintro rfl;exact List.lt_irrefl _ hba
   have hr:Zcu a b=1:=by unfold Zcu;rw [if_neg hab,if_pos hba]
   rw [decide_eq_false hne] at h3
   rw [hr]
   clear hr hab hba hne
   generalize (⟨a.toArray⟩:ByteArray)=A1 at *
   generalize (⟨b.toArray⟩:ByteArray)=B1 at *
   go_enter Tryd.func51,Tryd.ntmps51
   go_wp2_with (go_at_call 58;refine (hn _ _).mono ?_;rintro e w' ⟨rfl,rfl⟩)
   go_ret
   simp
  ·have he:a=b:=List.le_antisymm (XaZ.1 hba) (XaZ.1 hab)
   have hr:Zcu a b=0:=by unfold Zcu;rw [if_neg hab,if_neg hba]
   rw [decide_eq_true he] at h3
   rw [hr]
   clear hr hab hba he
   generalize (⟨a.toArray⟩:ByteArray)=A1 at *
   generalize (⟨b.toArray⟩:ByteArray)=B1 at *
   go_enter Tryd.func51,Tryd.ntmps51
   go_wp2_with (go_at_call 58;refine (hn _ _).mono ?_;rintro e w' ⟨rfl,rfl⟩)
   go_ret
   simp
theorem ZGN (a b:List UInt8×List UInt8) (us vs:List Value) (W:World) (hu:2+us.length=3) (hv:2+vs.length=3):Calls Tryd.prog 50 #[.agg ([Value.string ⟨a.1.toArray⟩,Value.string ⟨a.2.toArray⟩]++us).toArray,.agg ([Value.string ⟨b.1.toArray⟩,Value.string ⟨b.2.toArray⟩]++vs).toArray] W fun e w'=>e=.returned (.int .i64 (ZaD a b))/\∃ q os',w'=grow (W.drewN q) os':=by
 obtain ⟨a1,a2⟩:=a
 obtain ⟨b1,b2⟩:=b
 obtain ⟨u1,rfl⟩:∃ u1,us=[u1]:=by
  match us,hu with
  | [u1],_=>exact ⟨u1,rfl⟩
  | _::_::_,h=>simp at h;omega
 obtain ⟨v1,rfl⟩:∃ v1,vs=[v1]:=by
  match vs,hv with
  | [v1],_=>exact ⟨v1,rfl⟩
  | _::_::_,h=>simp at h;omega
 clear hu hv
 have hc:=ZyD
 unfold ZaD
 generalize Zcu=cf at *
 go_enter Tryd.func50,Tryd.ntmps50
 go_wp2_with (go_at_call 51;refine (hc _ _ _).mono ?_;rintro e w' ⟨rfl,rfl⟩)
 all_goals first
  | (go_ret;exact ⟨rfl,0,_,by rw [alloc_eq_grow,alloc_eq_grow,grow_grow];rfl⟩)
  | (exfalso;have h1:=‹(_ != _)=(_:Bool)›;simp only [bne_iff_ne,bne_eq_false_iff_eq] at h1;contradiction)
theorem ZEX {args:List AVal} {σ σ':Za} {r:AVal} (hp:Ze3 3 50 Zc2 ZaD args σ=some (r,σ')) :
  (∃ fn,Tryd.prog.funcs[49]?=some fn/\fn.body.isSome=true/\(fn.name == "runtime.NumGoroutine")=false) /\
  ∀ base w0 I0 I β w (vs:Array Value),KLt base w0->Rel base w0 I0 I β σ w->VRs I β args vs.toList ->
   Calls Tryd.prog 49 vs w (fun e w'=>∃ u,Ends r e u/\ZbY σ.length base w0 I0 I β r σ' u w') :=
 ZwX (κ:=List UInt8×List UInt8) (k:=3) (g:=50) (m:=2) (pre:=fun a=>[Value.string ⟨a.1.toArray⟩,Value.string ⟨a.2.toArray⟩]) ⟨_,Tryd.func49,by kernel_rfl,by kernel_rfl⟩ (by decide) (by decide) (by decide)
  (fun a=>⟨rfl,fun v hv=>by simp only [XB,Xah,or_false] at hv;rcases hv with rfl | rfl <;> rfl⟩) ZFF ZGN
  (fun enc hk h1 blk off cap d w hcl hH hb hs=>AnyQ.slices_SortFunc_total Ztv 3 Tryd.isAgg35 Tryd.sizeOf35 enc hk h1 ZaD ZK6 50 #[] blk off cap d w (enters_of Tryd.func50 (by kernel_rfl) rfl) hcl hH hb hs ZGt)
  (fun p cap fv w=>AnyF.slices_SortFunc_none Ztv p cap fv w) hp
end
section
open Go.Shelf
def Zv9:Ren:=⟨fun | 137=>78 | 217=>92 | 266=>96 | n=>n,fun | 9=>9 | 5=>5 | 3=>3 | n=>n,fun | n=>n⟩
theorem ZDq:Go.Proofs.Lays.n137 Tryd.prog Zv9:={ mixed:=by kernel_rfl,f137:=Tryd.func78.trans (congrArg some (by kernel_rfl)),f217:=Tryd.func92.trans (congrArg some (by kernel_rfl)),f266:=Tryd.func96.trans (congrArg some (by kernel_rfl)),t3:=Tryd.underlying3,a3:=Tryd.isAgg3,z3:=Tryd.sizeOf3,v3:=Tryd.zeroValue3,t5:=Tryd.underlying5,a5:=Tryd.isAgg5,z5:=Tryd.sizeOf5,v5:=Tryd.zeroValue5,t9:=Tryd.underlying9,a9:=Tryd.isAgg9,z9:=Tryd.sizeOf9,v9:=Tryd.zeroValue9 }
def ZzQ:Ren:=⟨fun | 217=>92 | 266=>96 | n=>n,fun | 9=>9 | 5=>5 | 3=>3 | n=>n,fun | n=>n⟩
theorem Zu0:Go.Proofs.Lays.n217 Tryd.prog ZzQ:={ mixed:=by kernel_rfl,f217:=Tryd.func92.trans (congrArg some (by kernel_rfl)),f266:=Tryd.func96.trans (congrArg some (by kernel_rfl)),t3:=Tryd.underlying3,a3:=Tryd.isAgg3,z3:=Tryd.sizeOf3,v3:=Tryd.zeroValue3,t5:=Tryd.underlying5,a5:=Tryd.isAgg5,z5:=Tryd.sizeOf5,v5:=Tryd.zeroValue5,t9:=Tryd.underlying9,a9:=Tryd.isAgg9,z9:=Tryd.sizeOf9,v9:=Tryd.zeroValue9 }
section
open Go.Shelf
def ZDi:Ren:=⟨fun | 138=>66 | 195=>83 | 218=>85 | 143=>67 | 219=>86 | 217=>92 | 225=>81 | 224=>80 | 267=>94 | 266=>96 | 314=>97 | n=>n,fun | 9=>9 | 3=>3 | 4=>4 | 5=>5 | 0=>0 | 46=>84 | 146=>126 | 51=>103 | n=>n,fun | 1=>2 | n=>n⟩
theorem Zvv:Go.Proofs.Lays.n138 Tryd.prog ZDi:={ mixed:=by kernel_rfl,f138:=Tryd.func66.trans (congrArg some (by kernel_rfl)),f143:=Tryd.func67.trans (congrArg some (by kernel_rfl)),f195:=Tryd.func83.trans (congrArg some (by kernel_rfl)),f217:=Tryd.func92.trans (congrArg some (by kernel_rfl)),f218:=Tryd.func85.trans (congrArg some (by kernel_rfl)),f219:=Tryd.func86.trans (congrArg some (by kernel_rfl)),f224:=Tryd.func80.trans (congrArg some (by kernel_rfl)),f225:=Tryd.func81.trans (congrArg some (by kernel_rfl)),f266:=Tryd.func96.trans (congrArg some (by kernel_rfl)),f267:=Tryd.func94.trans (congrArg some (by kernel_rfl)),f314:=Tryd.func97.trans (congrArg some (by kernel_rfl)),t0:=Tryd.underlying0,a0:=Tryd.isAgg0,z0:=Tryd.sizeOf0,v0:=Tryd.zeroValue0,t3:=Tryd.underlying3,a3:=Tryd.isAgg3,z3:=Tryd.sizeOf3,v3:=Tryd.zeroValue3,t4:=Tryd.underlying4,a4:=Tryd.isAgg4,z4:=Tryd.sizeOf4,v4:=Tryd.zeroValue4,t5:=Tryd.underlying5,a5:=Tryd.isAgg5,z5:=Tryd.sizeOf5,v5:=Tryd.zeroValue5,t9:=Tryd.underlying9,a9:=Tryd.isAgg9,z9:=Tryd.sizeOf9,v9:=Tryd.zeroValue9,t46:=Tryd.underlying84,a46:=Tryd.isAgg84,z46:=Tryd.sizeOf84,v46:=Tryd.zeroValue84,t51:=Tryd.underlying103,a51:=Tryd.isAgg103,z51:=Tryd.sizeOf103,v51:=Tryd.zeroValue103,t146:=Tryd.underlying126,a146:=Tryd.isAgg126,z146:=Tryd.sizeOf126,v146:=Tryd.zeroValue126,g1:=by kernel_rfl }
end
end
section
set_option maxRecDepth 100000
theorem ZyI:Tryd.prog.follows .mixedOrders=true:=by kernel_rfl
theorem Zry {α:Type} {d v:α}:∀ {l:List (Nat×α)} {n:Nat},ZdT d l n=v->v=d\/(n,v) ∈ l
 | [],n,h=>Xm h.symm
 | (k,w)::r,n,h=>by
  simp only [ZdT] at h
  split at h
  ·rename_i e;subst e h;exact Xr (by simp)
  ·rcases Zry h with h | h
   ·exact Xm h
   ·exact Xr (by simp [h])
theorem ZxD:Zkx Tryd.prog PR:=by
 intro f g h args σ r σ' hg
 rcases Zry h with h | h
 ·cases h
 unfold ZpT at h
 simp only [XB,Xb,Xa,Xah,or_false] at h
 rcases h with ⟨rfl,rfl⟩ | h
 ·exact Zrq ⟨Tryd.f78,Tryd.func78,by kernel_rfl,by kernel_rfl⟩ (fun s c w=>Any.strings_IndexByte ZDq s c w) hg
 rcases h with ⟨rfl,rfl⟩ | h
 ·exact Zrq ⟨Tryd.f92,Tryd.func92,by kernel_rfl,by kernel_rfl⟩ (fun s c w=>Any.stringslite_IndexByte Zu0 s c w) hg
 rcases h with ⟨rfl,rfl⟩ | h
 ·exact ZHu ⟨Tryd.f66,Tryd.func66,by kernel_rfl,by kernel_rfl⟩ (fun s c w=>Any.strings_Count_one Zvv s c w) hg
 rcases h with ⟨rfl,rfl⟩ | h
 ·exact ZwW ⟨Tryd.f64,Tryd.func64,by kernel_rfl,by kernel_rfl⟩ (fun s w hs hT=>Any.utf8_ValidString Zra s w hs hT) hg
 rcases h with ⟨rfl,rfl⟩ | h
 ·exact ZMR (fun h=>ZEX h) hg
 rcases h with ⟨rfl,rfl⟩ | h
 ·exact ZLY hg
 exact absurd h.2 (by simp)
theorem ZLO:Zae Tryd.prog E:=by
 have h:E=EV CF PR BY:=ZIm CF PR BY
 rw [h]
 exact ZMp ZyI ZxD ann BY
end
section
open Go.ChangeShapes Go.WideShapes Go.ChangeAt Go.RowKit Go.Deep
theorem ZHj:ownKnob Tryd.prog.godebug=none:=by kernel_rfl
theorem ZwI:laidOutB Tryd.prog=true:=by kernel_rfl
theorem Zws {W:World} (hLH:laidMetH Tryd.prog Rows.treePlaysUptoRow.laid W):Gl.le (Imm.of W):=by
 have hL:laidMet Tryd.prog Rows.treePlaysUptoRow.laid W:=by rw [<-MakeChecks.laidMetH_plain _ _ _ (by kernel_rfl)];exact hLH
 have e1:Rows.laid_unicode_utf8_first=Lib.firstData:=by kernel_rfl
 have e2:(Rows.laid_unicode_utf8_acceptRanges:DataW Unit)=Lib.acceptData:=by kernel_rfl
 have h1:Lib.VarReads Tryd.prog W "unicode/utf8.first" Lib.firstData:=by rw [<-e1];exact Lib.laidMet.reads hL (.tail _ (.head _))
 have h2:Lib.VarReads Tryd.prog W "unicode/utf8.acceptRanges" Lib.acceptData:=by rw [<-e2];exact Lib.laidMet.reads hL (.head _)
 exact ZKZ (utf8Tabs_of_readsT (U8Types.of196 Zra) ⟨by kernel_rfl,by kernel_rfl,by kernel_rfl,by kernel_rfl,by kernel_rfl,by kernel_rfl,by kernel_rfl⟩ h1 h2)
set_option maxRecDepth 100000 in
theorem ZHs (H:Type) (enc:TypeId×Value->H) (W:World) (base:Nat) (args:Array Value) (ds gs:List (DataW H)) (before:List MemPlace)
  (hval0:∀ (j:Nat) t v,Tryd.f6.params[j]?=some t->args[j]?=some v->Value.okWide Tryd.prog W .any base t v)
  (hW:DataW.Whole enc Tryd.prog Tryd.f6.params.toList Rows.treePlaysSpec.vars false W args.toList ds gs before) (hL:laidMetH Tryd.prog Rows.treePlaysUptoRow.laid W) (hbulk:Rows.uptoSmall H (ds++gs)=true) :
  Calls Tryd.prog 6 args W fun e W'=>∃ v,e=.returned v/\Rows.treePlaysSpec.post enc Tryd.prog Tryd.f6 false true false false W args v W':=by
 have hW':=hW
 obtain ⟨p,q,hA0,hV,rfl,hfz,hnd⟩:=hW
 have hval:∀ (j:Nat) t v,Tryd.f6.params[j]?=some t->args[j]?=some v->Value.okWide Tryd.prog W .any base t v:=hval0
 have hA:DataW.TrodAll enc Tryd.prog W 0 (fun _=>true) true Tryd.f6.params.toList args.toList ds p:=hA0
 rw [Tryd.params6] at hA hval
 obtain ⟨v0,vs0,d0,ds0,p0,q0,hargs,rfl,rfl,h0,r0⟩:=trodAll_cons hA
 obtain ⟨rfl,rfl,rfl⟩:=trodAll_nil r0
 obtain rfl:args=#[v0]:=by cases args;simp_all
 obtain ⟨rfl,rfl⟩:=trodVars_none hV
 simp only [XA] at hbulk
 have k0:=h0
 have lt0:∀ x ∈ p0,x.block < W.heap.size:=by obtain ⟨m,hm⟩:=k0;exact DataW.trod_lt m _ _ _ hm
 obtain ⟨x0,y0,z0,_⟩:=ZMH (R:=1048576) (n:=12) (T:=Zoo) (by kernel_rfl) (ZIE hbulk (by simp)) (hval 0 22 v0 rfl rfl) h0
 rw [Tryd.underlying22] at y0
 obtain ⟨a0,b0,rfl⟩:=ZxH y0
 clear hA0 hval0
 refine (ZMC ZLO (Zws hL) (args:=[.lst false (a0.map ZaX)]) (by simp only [VRs];exact ⟨_,_,rfl,z0,rfl⟩) (Zwg a0 (fun x hx=>(b0 x hx).1))).mono fun e W' ⟨he,bel⟩=>?_
 subst he
 exact ⟨_,rfl,_,_,_,[],_,[],hW',trodAll_mk1 (shut_bool Tryd.underlying4 _),(trodAll_cons_mk (Below.trod ZwI (by kernel_rfl) (of_decide_eq_true (by kernel_rfl)) k0 bel lt0) trodAll_mk0),rfl,bel.frame _,fun h=>by cases h⟩
noncomputable def Zor (os:Os):World :=
 let w0:=World.holding Tryd.prog os ⟨#[],#[],[]⟩
 let put (h:Array Obj) (g:Nat) (us:Array Value):Array Obj:=h.modify g fun
  | .cells _ t frozen=>.cells us t frozen
  | o=>o
 let h1:=put w0.heap 0 (Lib.firstTab.map fun z=>Value.int .u8 z).toArray
 let h2:=put h1 1 ((Wn 16).flatMap fun i=>[Value.int .u8 (Lib.accLo i),Value.int .u8 (Lib.accHi i)]).toArray
 { w0 with heap:=h2 }
theorem ZHL (os:Os):laidMet Tryd.prog Rows.treePlaysUptoRow.laid ((Zor os).forCall (fun _ _=>0) ⟨#[],#[.slice none 0 0],[]⟩).memory :=
 laidMet_of_run' 8 (by kernel_rfl) (by kernel_rfl)
theorem Zu7 (os:Os) {H:Type} (enc:TypeId×Value->H):∃ ds places,DataW.whole enc Tryd.prog ((Zor os).forCall (fun _ _=>0) ⟨#[],#[.slice none 0 0],[]⟩).memory Tryd.f6.params.toList Rows.treePlaysSpec.vars false #[.slice none 0 0].toList 8=some (ds,[],places)/\Rows.uptoSmall H ds=true :=
 ⟨[.nil],[],by kernel_rfl,by kernel_rfl⟩
set_option maxRecDepth 100000 in
theorem ZMe (os:Os) (started:os.Started) (H:Type) (enc:TypeId×Value->H) (F:Stop.Interp) :
  ReturnsInHanded {} Tryd.checked os 6 .any ((Rows.OpenSpec.upto Rows.treePlaysSpec).preRow enc Tryd.prog Tryd.f6 Rows.treePlaysUptoRow.domain false Rows.treePlaysUptoRow.laid) (((Rows.OpenSpec.upto Rows.treePlaysSpec).at F).post enc Tryd.prog Tryd.f6 false true false false):=by
 obtain ⟨ds,places,hx,hb⟩:=Zu7 os enc
 refine returnsInHanded_of_row (C:=Tryd.checked) (s:=(Rows.OpenSpec.upto Rows.treePlaysSpec)) ZHj started (by kernel_rfl) Tryd.func6
  (witness_row_at (enc:=enc) (C:=Tryd.checked) false (Zor os) #[.slice none 0 0] rfl (by kernel_rfl) (by kernel_rfl) (by kernel_rfl)
   (OpenSpec.preRow_of_cond 8 hx (by kernel_rfl) (fun k hk=>by cases hk;rw [XA];exact hb) (by kernel_rfl) (ZHL os))) ?_
 intro W base args ds gs before hval hW _ hcond _ hL _ _
 exact ZHs H enc W base args ds gs before hval hW hL (hcond _ rfl)
theorem ZGC:Rows.TreePlaysUptoSaid :=
 OpenClaim.holds_of_cond 6 Tryd.f6 rfl rfl rfl rfl rfl rfl rfl ⟨rfl,rfl,rfl,rfl,rfl⟩ rfl rfl rfl rfl rfl (by kernel_rfl) Tryd.func6 (by kernel_rfl)
  (of_decide_eq_true (by kernel_rfl)) (by unfold Func.isWrapper;first | (rw [if_pos (by decide +kernel)];kernel_rfl) | (rw [if_neg (by decide +kernel)];exact ⟨rfl,rfl⟩))
  (fun os started H enc _ F=>by rw [OpenClaim.pre_eq_preRow];exact ZMe os started H enc F)
theorem ZK8 (f:FuncId) (fn:Func) (hf:Tryd.pinned.checked.prog.funcNamed "tidings/tidingslaw15.TreePlays"=some f) (hfn:Tryd.pinned.checked.prog.funcs[f]?=some fn) :
  false=Tryd.pinned.checked.prog.looks []/\∀ (j:Nat) t,fn.params[j]?=some t->Tryd.pinned.checked.prog.wantsStandIn t=false:=by
 obtain rfl:f=6:=XbF ((show Tryd.prog.funcNamed "tidings/tidingslaw15.TreePlays"=some 6 by kernel_rfl).symm.trans hf) |>.symm
 obtain rfl:fn=Tryd.f6:=(XbF (Tryd.func6.symm.trans hfn)).symm
 refine ⟨by kernel_rfl,fun j t ht=>?_⟩
 rw [Tryd.params6] at ht
 have hm:t=22:=by
  have:=Array.mem_of_getElem? ht
  simp at this
  first | exact this | exact this.symm | omega | (rcases this with h | h | h <;> simp [h]) | (rcases this with h | h | h | h <;> simp [h]) | (rcases this with h | h | h | h | h <;> simp [h]) | (rcases this with h | h | h | h | h | h <;> simp [h]) | (rcases this with h | h | h | h | h | h | h <;> simp [h])
 subst hm
 exact (show Tryd.prog.wantsStandIn 22=false by kernel_rfl)
theorem treePlays_card:Rows.TreePlaysUptoCardSaid :=
 Claim7.holds_tied_plain_at .later [] _ _ _ _ ZGC (fun _ h=>by cases h) (by kernel_rfl) (fun _ h=>by cases h) treePlaysUpto_row_tie rfl ⟨rfl,rfl⟩ (by kernel_rfl) rfl ZK8 (by kernel_rfl)
#print axioms treePlays_card
end
end Go.Proofs.YtbjflkbenobjjaaDoor
