/- packed -/
import Derived.Test.YtmlkhhidifjjfaaDoorMl1
import Derived.Laws.Cover3
import Derived.Lib.Index
import Derived.Shelf.Unicode.ValidAny
import Derived.Shelf.Strings.Count
import Derived.Test.YtmlkhhidifjjfaaDoorProg
import Derived.Deep.Slices
import Derived.ChangeArms
import Derived.WideShapes
import GoSem.ClaimChange
set_option linter.defProp false
set_option linter.unusedSimpArgs false
set_option linter.unusedVariables false
namespace Go.Proofs.YtmlkhhidifjjfaaDoor
set_option maxHeartbeats 16000000
set_option maxRecDepth 10000
section
open Go.RowKit
def OLe (O O':ZU):Prop:=∀ f a σ r,O f a σ=some r->O' f a σ=some r
section
variable {O O':ZU} {bf:Nat->Bool}
theorem ZLm {view:Bool} {m:Nat} {x y:Option (AVal×Za)} (h:∀ r,x=some r->y=some r) {r:AVal×Za} (hr:Zab view m x=some r):Zab view m y=some r:=by
 cases x with
 | none=>cases view <;> simp [Zab,Zbs] at hr
 | some q=>rw [h q rfl];exact hr
theorem ZGd {σ σf:Za} {ids ts:List Nat} {sq own:Nat} {x y:Option (AVal×Za)} (h:∀ r,x=some r->y=some r) {r:AVal×Za×Cls} (hr:Zav σ σf ids ts sq own x=some r):Zav σ σf ids ts sq own y=some r:=by
 cases x with
 | none=>simp only [Zav] at hr;cases hr
 | some q=>rw [h q rfl];exact hr
theorem Znk (hO:OLe O O') {σ:Za} {sq f own:Nat} {view:Bool} {args:List AVal} {r:AVal×Za×Cls} (h:Zo O bf σ sq f own view args=some r):Zo O' bf σ sq f own view args=some r:=by
 unfold Zo Zbz at h ⊢
 split at h
 ·cases h
 ·rename_i vs ts hv
  split at h
  ·rename_i hc
   simp only [hc,if_true]
   exact ZGd (fun q hq=>ZLm (fun q hq=>hO _ _ _ _ hq) hq) h
  ·cases h
theorem ZOf (hO:OLe O O') {tm:Tms} {σ:Za} {sq:Nat} {ins:Ins} {r:AVal×Za×Cls} (h:execI O bf tm σ sq ins=some r):execI O' bf tm σ sq ins=some r:=by
 cases ins
 case call f own view args =>
  simp only [execI] at h ⊢
  exact Znk hO h
 case callv x args =>
  simp only [execI] at h ⊢
  split at h
  ·exact Znk hO h
  ·cases h
 all_goals exact h
theorem ZnK (hO:OLe O O') {o:AOp} {tm:Tms} {σ:Za} {sq:Nat} {r:AVal×Tms×Za×Cls} (h:ZR O bf o sq tm σ=some r):ZR O' bf o sq tm σ=some r:=by
 unfold ZR at h ⊢
 split at h
 ·cases h
 ·exact h
 ·split at h
  ·rename_i hf
   rw [if_pos hf]
   split at h
   ·rename_i he;rw [ZOf hO he];exact h
   ·cases h
  ·cases h
theorem ZpV (hO:OLe O O'):∀ {ops:List AOp} {s:Nat} {tm:Tms} {σ:Za} {r:Tms×Za×List Cls×Option AVal},Z3 O bf ops s tm σ=some r->Z3 O' bf ops s tm σ=some r
 | [],_,_,_,_,h=>h
 | o::ops,s,tm,σ,r,h=>by
  simp only [Z3] at h ⊢
  split at h
  ·cases h
  ·rename_i h1
   rw [ZnK hO h1]
   exact h
  ·rename_i v tm1 σ1 c hnp h1
   rw [ZnK hO h1]
   simp only
   split at h
   ·cases h
   rename_i h2
   rw [ZpV hO h2]
   exact h
theorem Zwu (hO:OLe O O') {ops:List AOp} {chk:Option (List (Nat×Nat))} {live:List Nat} {tm:Tms} {σ:Za} {r:ZaU×Tms×Za} (h:ZbX O bf ops chk live tm σ=some r):ZbX O' bf ops chk live tm σ=some r:=by
 unfold ZbX at h ⊢
 cases hx:Z3 O bf ops σ.length tm (σ++List.replicate (sitesOf ops) .free) with
 | none=>rw [hx] at h;simp only [ZcT] at h;cases h
 | some q=>rw [ZpV hO hx];rw [hx] at h;exact h
theorem Zlv {m0:Nat} {live:List Nat} {f f':Tms->Za->Option (ZaU×Tms×Za)} (hf:∀ tm σ r,f tm σ=some r->f' tm σ=some r):∀ {n n':Nat} {tm:Tms} {σ:Za} {r:ZaU×Tms×Za},n<=n'->Zdj m0 live f n tm σ=some r->Zdj m0 live f' n' tm σ=some r
 | 0,_,_,_,_,_,h=>by simp only [Zdj] at h;cases h
 | n+1,0,_,_,_,hn,_=>by omega
 | n+1,n'+1,tm,σ,r,hn,h=>by
  simp only [Zdj] at h ⊢
  split at h
  ·rename_i h1
   rw [hf _ _ _ h1]
   exact Zlv hf (by omega) h
  ·rename_i hne
   rw [hf _ _ _ h]
   split
   ·rename_i e;injection e with e;subst e;exact absurd h (hne _ _)
   ·rfl
theorem ZdL (hO:OLe O O') {m0:Nat}:∀ {c:Ze} {n n':Nat} {tm:Tms} {σ:Za} {r:ZaU×Tms×Za},n<=n'->Z9 O bf m0 n c tm σ=some r->Z9 O' bf m0 n' c tm σ=some r:=by
 intro c
 induction c with
 | skip=>intro n n' tm σ r _ h;exact h
 | exit id=>intro n n' tm σ r _ h;exact h
 | ret=>intro n n' tm σ r _ h;exact h
 | stuck=>intro n n' tm σ r _ h;exact h
 | region ops chk live =>
  intro n n' tm σ r _ h
  simp only [Z9] at h ⊢
  exact Zwu hO h
 | seq a b iha ihb =>
  intro n n' tm σ r hn h
  simp only [Z9] at h ⊢
  split at h
  ·rename_i h1;rw [iha hn h1];exact ihb hn h
  ·rename_i hne
   rw [iha hn h]
   split
   ·rename_i e;injection e with e;subst e;exact absurd h (hne _ _)
   ·rfl
 | cond c a b iha ihb =>
  intro n n' tm σ r hn h
  simp only [Z9] at h ⊢
  split at h
  ·exact iha hn h
  ·exact ihb hn h
  ·cases h
 | block id c ih =>
  intro n n' tm σ r hn h
  simp only [Z9] at h ⊢
  split at h
  ·rename_i h1;rw [ih hn h1];exact h
  ·rename_i hne
   rw [ih hn h]
   split
   ·rename_i e;injection e with e;subst e;exact absurd h (hne _ _ _)
   ·rfl
 | loop live c ih =>
  intro n n' tm σ r hn h
  simp only [Z9] at h ⊢
  exact Zlv (fun tm σ r h=>ih hn h) hn h
theorem ZjX {m0:Nat} {fn:ZG} {x y:Option (ZaU×Tms×Za)} (h:∀ r,x=some r->y=some r) {r:AVal×Za} (hr:Zan m0 fn x=some r):Zan m0 fn y=some r:=by
 cases x with
 | none=>simp only [Zan] at hr;cases hr
 | some q=>rw [h q rfl];exact hr
theorem ZtX (fs:Nat->Option ZG) (prim:Zcm):∀ n,OLe (Zau fs prim bf n) (Zau fs prim bf (n+1))
 | 0=>by intro f a σ r h;simp only [Zau] at h;cases h
 | n+1=>by
  intro f a σ r h
  rw [Zau] at h ⊢
  split at h
  ·rename_i g hg;exact h
  ·rename_i hg
   split at h
   ·cases h
   ·rename_i fn hfn
    exact ZjX (fun q hq=>ZdL (ZtX fs prim n) (by omega) hq) h
theorem Ziy (fs : Nat -> Option ZG) (prim : Zcm) {n m : Nat} (h : n <= m) : OLe (Zau fs prim bf n) (Zau fs prim bf m) := by
  induction m with
  | zero => obtain rfl : n = 0 := by omega
            exact fun _ _ _ _ h => h
  | succ m ih =>
    by_cases e : n = m + 1
    . subst e; exact fun _ _ _ _ h => h
    . exact fun f a σ r hr => ZtX fs prim m f a σ r (ih (by omega) f a σ r hr)
end
section
variable (fs:Nat->Option ZG) (prim:Zcm) (bf:Nat->Bool)
open Classical in
noncomputable def EV:ZU:=fun f args σ=>if h:∃ r,∃ n,Zau fs prim bf n f args σ=some r then some h.choose else none
open Classical in
noncomputable def evC (m:Nat) (c:Ze) (tm:Tms) (σ:Za):Option (ZaU×Tms×Za):=if h:∃ r,∃ n,Z9 (Zau fs prim bf n) bf m n c tm σ=some r then some h.choose else none
variable {fs prim bf} {m0:Nat}
theorem ZcO {f:Nat} {args:List AVal} {σ:Za} {r:AVal×Za}:EV fs prim bf f args σ=some r↔∃ n,Zau fs prim bf n f args σ=some r:=by
 unfold EV
 constructor
 ·intro h
  split at h
  ·rename_i hx
   injection h with h
   rw [<-h]
   exact hx.choose_spec
  ·cases h
 ·rintro ⟨n,hn⟩
  have hx:∃ r,∃ n,Zau fs prim bf n f args σ=some r:=⟨r,n,hn⟩
  rw [dif_pos hx]
  obtain ⟨m,hm⟩:=hx.choose_spec
  have h1:=Ziy (bf:=bf) fs prim (Nat.le_max_left n m) _ _ _ _ hn
  have h2:=Ziy (bf:=bf) fs prim (Nat.le_max_right n m) _ _ _ _ hm
  rw [h1] at h2
  injection h2 with h2
  rw [<-h2]
theorem Zbn {c:Ze} {tm:Tms} {σ:Za} {r:ZaU×Tms×Za}:evC fs prim bf m0 c tm σ=some r↔∃ n,Z9 (Zau fs prim bf n) bf m0 n c tm σ=some r:=by
 unfold evC
 constructor
 ·intro h
  split at h
  ·rename_i hx
   injection h with h
   rw [<-h]
   exact hx.choose_spec
  ·cases h
 ·rintro ⟨n,hn⟩
  have hx:∃ r,∃ n,Z9 (Zau fs prim bf n) bf m0 n c tm σ=some r:=⟨r,n,hn⟩
  rw [dif_pos hx]
  obtain ⟨m,hm⟩:=hx.choose_spec
  have h1:=ZdL (Ziy (bf:=bf) fs prim (Nat.le_max_left n m)) (Nat.le_max_left n m) hn
  have h2:=ZdL (Ziy (bf:=bf) fs prim (Nat.le_max_right n m)) (Nat.le_max_right n m) hm
  rw [h1] at h2
  injection h2 with h2
  rw [<-h2]
theorem ZfE {α:Type} {x y:Option α} (h:∀ r,x=some r↔y=some r):x=y:=by
 cases x with
 | none =>
  cases y with
  | none=>rfl
  | some q=>exact absurd ((h q).2 rfl) (by simp)
 | some q=>exact ((h q).1 rfl).symm
theorem ZPt (n:Nat):OLe (Zau fs prim bf n) (EV fs prim bf):=fun _ _ _ _ h=>ZcO.2 ⟨n,h⟩
theorem up {n m:Nat} (h:n<=m):OLe (Zau fs prim bf n) (Zau fs prim bf m):=Ziy fs prim h
theorem Zsx {f:Nat} {g:List AVal->Za->Option (AVal×Za)} (hp:prim f=some g) (args:List AVal) (σ:Za):EV fs prim bf f args σ=g args σ:=by
 apply ZfE
 intro r
 rw [ZcO]
 constructor
 ·rintro ⟨n,h⟩
  cases n with
  | zero=>simp only [Zau] at h;cases h
  | succ n=>rw [Zau,hp] at h;exact h
 ·intro h
  exact ⟨1,by rw [Zau,hp];exact h⟩
theorem ZtT {f:Nat} {fn:ZG} (hp:prim f=none) (hf:fs f=some fn) (args:List AVal) (σ:Za):EV fs prim bf f args σ=Zan σ.length fn (evC fs prim bf σ.length fn.body (enterA 0 args []) σ):=by
 apply ZfE
 intro r
 rw [ZcO]
 constructor
 ·rintro ⟨n,h⟩
  cases n with
  | zero=>simp only [Zau] at h;cases h
  | succ n =>
   rw [Zau,hp,hf] at h
   exact ZjX (fun q hq=>Zbn.2 ⟨n,hq⟩) h
 ·intro h
  cases hx:evC fs prim bf σ.length fn.body (enterA 0 args []) σ with
  | none=>rw [hx] at h;simp only [Zan] at h;cases h
  | some q =>
   obtain ⟨n,hn⟩:=Zbn.1 hx
   refine ⟨n+1,?_⟩
   rw [Zau,hp,hf]
   rw [hx] at h
   exact ZjX (x:=some q) (fun q' hq'=>by injection hq' with hq';subst hq';exact hn) h
theorem ZvD {σ:Za} {sq f own:Nat} {view:Bool} {args:List AVal} {r:AVal×Za×Cls} (h:Zo (EV fs prim bf) bf σ sq f own view args=some r):∃ n,Zo (Zau fs prim bf n) bf σ sq f own view args=some r:=by
 unfold Zo Zbz at h ⊢
 split at h
 ·cases h
 ·rename_i vs ts hv
  split at h
  ·rename_i hc
   simp only [hc,if_true]
   cases hx:EV fs prim bf f (Zf (Zj (Zq σ ts) 0 (Zu (Zq σ ts) 1000 (Zp vs) [])) vs) (Zr (Zq σ ts) 0 (Zu (Zq σ ts) 1000 (Zp vs) []) (Zj (Zq σ ts) 0 (Zu (Zq σ ts) 1000 (Zp vs) [])) (Zu (Zq σ ts) 1000 (Zp vs) []) 0) with
   | none =>
    rw [hx] at h
    cases view <;> simp [Zab,Zbs,Zav] at h
   | some q =>
    obtain ⟨n,hn⟩:=ZcO.1 hx
    exact ⟨n,by rw [hn];rw [hx] at h;exact h⟩
  ·cases h
theorem ZDY {tm:Tms} {σ:Za} {sq:Nat} {ins:Ins} {r:AVal×Za×Cls} (h:execI (EV fs prim bf) bf tm σ sq ins=some r):∃ n,execI (Zau fs prim bf n) bf tm σ sq ins=some r:=by
 cases ins
 case call f own view args =>
  simp only [execI] at h ⊢
  exact ZvD h
 case callv x args =>
  simp only [execI] at h ⊢
  split at h
  ·exact ZvD h
  ·cases h
 all_goals exact ⟨0,h⟩
theorem ZtG {o:AOp} {tm:Tms} {σ:Za} {sq:Nat} {r:AVal×Tms×Za×Cls} (h:ZR (EV fs prim bf) bf o sq tm σ=some r):∃ n,ZR (Zau fs prim bf n) bf o sq tm σ=some r:=by
 unfold ZR at h ⊢
 split at h
 ·cases h
 ·exact ⟨0,h⟩
 ·split at h
  ·rename_i hf
   simp only [hf,if_true]
   split at h
   ·rename_i he
    obtain ⟨n,hn⟩:=ZDY he
    exact ⟨n,by rw [hn];exact h⟩
   ·cases h
  ·cases h
theorem Zth:∀ {ops:List AOp} {s:Nat} {tm:Tms} {σ:Za} {r:Tms×Za×List Cls×Option AVal},Z3 (EV fs prim bf) bf ops s tm σ=some r->∃ n,Z3 (Zau fs prim bf n) bf ops s tm σ=some r
 | [],_,_,_,_,h=>⟨0,h⟩
 | o::ops,s,tm,σ,r,h=>by
  simp only [Z3] at h ⊢
  split at h
  ·cases h
  ·rename_i h1
   obtain ⟨n,hn⟩:=ZtG h1
   exact ⟨n,by rw [hn];exact h⟩
  rename_i v tm1 σ1 c hnp h1
  split at h
  ·cases h
  rename_i h2
  obtain ⟨n,hn⟩:=ZtG h1
  obtain ⟨m,hm⟩:=Zth h2
  refine ⟨max n m,?_⟩
  rw [ZnK (up (Nat.le_max_left n m)) hn]
  simp only
  rw [ZpV (up (Nat.le_max_right n m)) hm]
  exact h
theorem ZNw {ops:List AOp} {chk:Option (List (Nat×Nat))} {live:List Nat} {tm:Tms} {σ:Za} {r:ZaU×Tms×Za} (h:ZbX (EV fs prim bf) bf ops chk live tm σ=some r):∃ n,ZbX (Zau fs prim bf n) bf ops chk live tm σ=some r:=by
 unfold ZbX at h ⊢
 cases hx:Z3 (EV fs prim bf) bf ops σ.length tm (σ++List.replicate (sitesOf ops) .free) with
 | none=>rw [hx] at h;simp only [ZcT] at h;cases h
 | some q =>
  obtain ⟨n,hn⟩:=Zth hx
  exact ⟨n,by rw [hn];rw [hx] at h;exact h⟩
theorem ZM4 (tm:Tms) (σ:Za):evC fs prim bf m0 .skip tm σ=some (.normal,tm,σ):=Zbn.2 ⟨0,rfl⟩
theorem ZGA (id:Nat) (tm:Tms) (σ:Za):evC fs prim bf m0 (.exit id) tm σ=some (.exit id,tm,σ):=Zbn.2 ⟨0,rfl⟩
theorem ZyJ (tm:Tms) (σ:Za):evC fs prim bf m0 .ret tm σ=some (.ret,tm,σ):=Zbn.2 ⟨0,rfl⟩
theorem ZKy {ops:List AOp} {chk:Option (List (Nat×Nat))} {live:List Nat} {tm:Tms} {σ:Za}:evC fs prim bf m0 (.region ops chk live) tm σ=ZbX (EV fs prim bf) bf ops chk live tm σ:=by
 apply ZfE
 intro r
 rw [Zbn]
 constructor
 ·rintro ⟨n,hn⟩
  simp only [Z9] at hn
  exact Zwu (ZPt n) hn
 ·intro h
  obtain ⟨n,hn⟩:=ZNw h
  exact ⟨n,by simp only [Z9];exact hn⟩
theorem Zi3 {a b:Ze} {tm tm':Tms} {σ σ':Za} (h:evC fs prim bf m0 a tm σ=some (.normal,tm',σ')):evC fs prim bf m0 (.seq a b) tm σ=evC fs prim bf m0 b tm' σ':=by
 obtain ⟨n,hn⟩:=Zbn.1 h
 apply ZfE
 intro r
 rw [Zbn,Zbn]
 constructor
 ·rintro ⟨m,hm⟩
  have h1:=ZdL (up (Nat.le_max_left n m)) (Nat.le_max_left n m) hn
  have h2:=ZdL (up (Nat.le_max_right n m)) (Nat.le_max_right n m) hm
  simp only [Z9,h1] at h2
  exact ⟨_,h2⟩
 ·rintro ⟨m,hm⟩
  have h1:=ZdL (up (Nat.le_max_left n m)) (Nat.le_max_left n m) hn
  have h2:=ZdL (up (Nat.le_max_right n m)) (Nat.le_max_right n m) hm
  exact ⟨max n m,by simp only [Z9,h1];exact h2⟩
theorem ZjF {a b:Ze} {tm tm':Tms} {σ σ':Za} {e:ZaU} (he:e≠.normal) (h:evC fs prim bf m0 a tm σ=some (e,tm',σ')):evC fs prim bf m0 (.seq a b) tm σ=some (e,tm',σ'):=by
 obtain ⟨n,hn⟩:=Zbn.1 h
 refine Zbn.2 ⟨n,?_⟩
 simp only [Z9,hn]
 cases e with
 | normal=>exact absurd rfl he
 | exit id=>rfl
 | ret=>rfl
 | panic x=>rfl
def ZaJ (id:Nat):ZaU×Tms×Za->ZaU×Tms×Za
 | (.exit i,tm,σ)=>if i=id then (.normal,tm,σ) else (.exit i,tm,σ)
 | r=>r
theorem ZFF {id:Nat} {c:Ze} {tm:Tms} {σ:Za}:evC fs prim bf m0 (.block id c) tm σ=(evC fs prim bf m0 c tm σ).map (ZaJ id):=by
 have step:∀ n,Z9 (Zau fs prim bf n) bf m0 n (.block id c) tm σ=(Z9 (Zau fs prim bf n) bf m0 n c tm σ).map (ZaJ id):=by
  intro n
  simp only [Z9]
  cases Z9 (Zau fs prim bf n) bf m0 n c tm σ with
  | none=>rfl
  | some q =>
   obtain ⟨e,tm1,σ1⟩:=q
   cases e with
   | normal=>rfl
   | ret=>rfl
   | panic x=>rfl
   | exit i=>simp only [Option.map_some,ZaJ];split <;> rfl
 apply ZfE;intro r
 rw [Zbn]
 simp only [step,Option.map_eq_some_iff]
 constructor
 ·rintro ⟨n,q,h1,h2⟩;exact ⟨q,Zbn.2 ⟨n,h1⟩,h2⟩
 ·rintro ⟨q,h1,h2⟩;obtain ⟨n,hn⟩:=Zbn.1 h1;exact ⟨n,q,hn,h2⟩
theorem ZKG {c:Ze} {tm:Tms} {σ:Za} (h:evC fs prim bf m0 c tm σ=none) (n:Nat):Z9 (Zau fs prim bf n) bf m0 n c tm σ=none:=by
 cases hx:Z9 (Zau fs prim bf n) bf m0 n c tm σ with
 | none=>rfl
 | some r=>rw [Zbn.2 ⟨n,hx⟩] at h;cases h
variable (fs prim bf m0) in
noncomputable def Zbq (b:Ze):Option (ZaU×Tms×Za)->Option (ZaU×Tms×Za)
 | some (.normal,tm,σ)=>evC fs prim bf m0 b tm σ
 | r=>r
theorem ZGn {a b:Ze} {tm:Tms} {σ:Za}:evC fs prim bf m0 (.seq a b) tm σ=Zbq fs prim bf m0 b (evC fs prim bf m0 a tm σ):=by
 cases h:evC fs prim bf m0 a tm σ with
 | none =>
  simp only [Zbq]
  apply ZfE;intro r
  rw [Zbn]
  constructor
  ·rintro ⟨n,hn⟩
   simp only [Z9,ZKG h n] at hn
   cases hn
  ·intro h;cases h
 | some q =>
  obtain ⟨e,tm',σ'⟩:=q
  cases e with
  | normal=>exact Zi3 h
  | exit id=>exact ZjF (by simp) h
  | ret=>exact ZjF (by simp) h
  | panic x=>exact ZjF (by simp) h
variable (fs prim bf m0) in
noncomputable def Zjc (a b:Ze) (tm:Tms) (σ:Za):AVal->Option (ZaU×Tms×Za)
 | .bool true=>evC fs prim bf m0 a tm σ
 | .bool false=>evC fs prim bf m0 b tm σ
 | _=>none
theorem ZyN {c:Opd} {a b:Ze} {tm:Tms} {σ:Za}:evC fs prim bf m0 (.cond c a b) tm σ=Zjc fs prim bf m0 a b tm σ (c.ev tm):=by
 apply ZfE;intro r
 rw [Zbn]
 simp only [Z9]
 constructor
 ·rintro ⟨n,hn⟩
  split at hn
  ·rename_i e;rw [e];simp only [Zjc];exact Zbn.2 ⟨n,hn⟩
  ·rename_i e;rw [e];simp only [Zjc];exact Zbn.2 ⟨n,hn⟩
  ·cases hn
 ·intro h
  unfold Zjc at h
  split at h
  ·rename_i e;obtain ⟨n,hn⟩:=Zbn.1 h;exact ⟨n,by rw [e];exact hn⟩
  ·rename_i e;obtain ⟨n,hn⟩:=Zbn.1 h;exact ⟨n,by rw [e];exact hn⟩
  ·cases h
variable (fs prim bf m0) in
noncomputable def evL (live:List Nat) (c:Ze) (tm:Tms) (σ:Za):Option (ZaU×Tms×Za) :=
 match evC fs prim bf m0 c tm σ with
 | some (.normal,tm',σ')=>evC fs prim bf m0 (.loop live c) tm' σ'
 | r=>r
theorem Zvr {live:List Nat} {c:Ze} {tm:Tms} {σ:Za}:evC fs prim bf m0 (.loop live c) tm σ=evL fs prim bf m0 live c (gcT m0 (keepL live tm) σ).1 (gcT m0 (keepL live tm) σ).2:=by
 apply ZfE;intro r
 rw [Zbn]
 constructor
 ·rintro ⟨n,hn⟩
  simp only [Z9] at hn
  cases n with
  | zero=>simp only [Zdj] at hn;cases hn
  | succ k =>
   simp only [Zdj] at hn
   unfold evL
   cases hx:Z9 (Zau fs prim bf (k+1)) bf m0 (k+1) c (gcT m0 (keepL live tm) σ).1 (gcT m0 (keepL live tm) σ).2 with
   | none=>rw [hx] at hn;cases hn
   | some q =>
    rw [Zbn.2 ⟨_,hx⟩]
    rw [hx] at hn
    obtain ⟨e,tm',σ'⟩:=q
    cases e with
    | normal =>
     simp only at hn ⊢
     exact Zbn.2 ⟨k+1,by simp only [Z9];exact Zlv (fun _ _ _ h=>h) (by omega) hn⟩
    | exit id=>exact hn
    | ret=>exact hn
    | panic x=>exact hn
 ·intro h
  unfold evL at h
  cases hx:evC fs prim bf m0 c (gcT m0 (keepL live tm) σ).1 (gcT m0 (keepL live tm) σ).2 with
  | none=>rw [hx] at h;cases h
  | some q =>
   rw [hx] at h
   obtain ⟨n,hn⟩:=Zbn.1 hx
   obtain ⟨e,tm',σ'⟩:=q
   have out:e≠.normal->some (e,tm',σ')=some r->∃ n,Z9 (Zau fs prim bf n) bf m0 n (.loop live c) tm σ=some r:=by
    intro he h
    refine ⟨n+1,?_⟩
    have h1:=ZdL (up (show n<=n+1 by omega)) (show n<=n+1 by omega) hn
    simp only [Z9,Zdj,h1]
    cases e with
    | normal=>exact absurd rfl he
    | exit id=>exact h
    | ret=>exact h
    | panic x=>exact h
   cases e with
   | normal =>
    simp only at h
    obtain ⟨m,hm⟩:=Zbn.1 h
    have h1:=ZdL (up (show n<=max n m+1 by omega)) (show n<=max n m+1 by omega) hn
    have h2:=ZdL (up (show m<=max n m+1 by omega)) (Nat.le_refl m) hm
    simp only [Z9] at h2
    refine ⟨max n m+1,?_⟩
    simp only [Z9,Zdj,h1]
    exact Zlv (fun tm σ r h=>ZdL (fun _ _ _ _ h=>h) (by omega) h) (by omega) h2
   | exit id=>exact out (by simp) h
   | ret=>exact out (by simp) h
   | panic x=>exact out (by simp) h
theorem ZJu {P:Program} (hm:P.follows .mixedOrders=true) {prim:Zcm} (hP:Zmf P prim) (ann:Nat->Ann) (bf:Nat->Bool):ZaO P (EV (ZiG P ann) prim bf):=by
 intro f args σ r σ' h
 obtain ⟨n,hn⟩:=ZcO.1 h
 exact ZqU hm hP ann bf n f args σ r σ' hn
end
end
section
open Go.RowKit
def Zwc:Tms×Za×List Cls×Option AVal->Tms×Za×Option AVal:=fun q=>(q.1,q.2.1,q.2.2.2)
def ZaS:AVal->Bool
 | .pan _=>true
 | _=>false
section
variable (O:ZU) (bf:Nat->Bool)
def exI (i:Ins) (s:Nat) (tm:Tms) (σ:Za):Option (AVal×Za×Cls) :=
 if nsite i == 0 || freeAt σ s then execI O bf tm σ s i else none
def Zbi (ops:List AOp) (s:Nat) (tm:Tms) (σ:Za):Option (Tms×Za×Option AVal):=(Z3 O bf ops s tm σ).map Zwc
def kN (d:Option Nat) (os:List AOp) (s:Nat) (tm:Tms):Option (AVal×Za×Cls)->Option (Tms×Za×Option AVal)
 | none=>none
 | some (v,σ,_)=>if ZaS v then some (tput tm d v,σ,some (ZaT v)) else Zbi O bf os s (tput tm d v) σ
def Zk7 (live:List Nat):Option (Tms×Za×Option AVal)->Option (ZaU×Tms×Za)
 | none=>none
 | some (_,σ,some x)=>some (.panic x,[],σ)
 | some (tm,σ,none)=>some (.normal,keepL live tm,σ)
variable {O bf}
theorem Zr3 (s:Nat) (tm:Tms) (σ:Za):Zbi O bf [] s tm σ=some (tm,σ,none):=rfl
theorem Zi4 {o:AOp} {os:List AOp} {s:Nat} {tm:Tms} {σ:Za} (h:ZR O bf o s tm σ=none):Z3 O bf (o::os) s tm σ=none:=by simp only [Z3,h]
theorem ZmQ {o:AOp} {os:List AOp} {s:Nat} {tm tm1:Tms} {σ σ1:Za} {x:AVal} {c:Cls} (h:ZR O bf o s tm σ=some (.pan x,tm1,σ1,c)):Z3 O bf (o::os) s tm σ=some (tm1,σ1,[c],some x):=by simp only [Z3,h]
theorem Zuv {o:AOp} {os:List AOp} {s:Nat} {tm tm1:Tms} {σ σ1:Za} {v:AVal} {c:Cls} (h:ZR O bf o s tm σ=some (v,tm1,σ1,c)) (hn:ZaS v=false):Z3 O bf (o::os) s tm σ=(Z3 O bf os (s+nsite o.ins) tm1 σ1).map fun q=>(q.1,q.2.1,c::q.2.2.1,q.2.2.2):=by
 simp only [Z3,h]
 cases v <;> first
  | (simp [ZaS] at hn;done)
  | (simp only;cases Z3 O bf os (s+nsite o.ins) tm1 σ1 <;> rfl)
theorem Zl0 {o:AOp} {os:List AOp} {s:Nat} {tm:Tms} {σ:Za} (h:ZR O bf o s tm σ=none):Zbi O bf (o::os) s tm σ=none:=by simp only [Zbi,Zi4 h,Option.map_none]
theorem ZoI {o:AOp} {os:List AOp} {s:Nat} {tm tm1:Tms} {σ σ1:Za} {x:AVal} {c:Cls} (h:ZR O bf o s tm σ=some (.pan x,tm1,σ1,c)):Zbi O bf (o::os) s tm σ=some (tm1,σ1,some x):=by simp only [Zbi,ZmQ h,Option.map_some,Zwc]
theorem ZlT {o:AOp} {os:List AOp} {s:Nat} {tm tm1:Tms} {σ σ1:Za} {v:AVal} {c:Cls} (h:ZR O bf o s tm σ=some (v,tm1,σ1,c)) (hn:ZaS v=false):Zbi O bf (o::os) s tm σ=Zbi O bf os (s+nsite o.ins) tm1 σ1:=by
 simp only [Zbi,Zuv h hn,Option.map_map]
 rfl
theorem Zj9 {v:AVal} (h:ZaS v=true):∃ x,v=.pan x:=by
 cases v <;> first | exact ⟨_,rfl⟩ | (simp [ZaS] at h;done)
theorem ZkL {d:Option Nat} {i:Ins} {af:List Nat} {s:Nat} {tm:Tms} {σ:Za}:ZR O bf ⟨d,i,none,af⟩ s tm σ=(exI O bf i s tm σ).map fun q=>(q.1,tput tm d q.1,q.2.1,q.2.2):=by
 unfold ZR exI
 simp only [Zbp]
 split
 ·cases execI O bf tm σ s i with
  | none=>rfl
  | some q=>rfl
 ·rfl
theorem Zoy (d:Option Nat) (i:Ins) (af:List Nat) (os:List AOp) (s:Nat) (tm:Tms) (σ:Za):Zbi O bf (⟨d,i,none,af⟩::os) s tm σ=kN O bf d os (s+nsite i) tm (exI O bf i s tm σ):=by
 cases h:exI O bf i s tm σ with
 | none=>exact Zl0 (by rw [ZkL,h];rfl)
 | some q =>
  obtain ⟨v,σ1,c⟩:=q
  have hs:ZR O bf ⟨d,i,none,af⟩ s tm σ=some (v,tput tm d v,σ1,c):=by rw [ZkL,h];rfl
  cases hp:ZaS v with
  | true =>
   obtain ⟨x,rfl⟩:=Zj9 hp
   exact ZoI hs
  | false =>
   rw [ZlT hs hp]
   simp only [kN,hp,Bool.false_eq_true,if_false]
theorem ZB8 (ops:List AOp) (live:List Nat) (tm:Tms) (σ:Za):ZbX O bf ops none live tm σ=Zk7 live (Zbi O bf ops σ.length tm (σ++List.replicate (sitesOf ops) .free)):=by
 unfold ZbX Zbi
 cases Z3 O bf ops σ.length tm (σ++List.replicate (sitesOf ops) .free) with
 | none=>rfl
 | some q =>
  obtain ⟨tm',σ',cs,p⟩:=q
  cases p <;> rfl
theorem ZoJ (d:Option Nat) (os:List AOp) (s:Nat) (tm:Tms) (v:AVal) (σ:Za) (c:Cls) (h:ZaS v=false):kN O bf d os s tm (some (v,σ,c))=Zbi O bf os s (tput tm d v) σ:=by
 simp only [kN,h,Bool.false_eq_true,if_false]
theorem ZG6 (d:Option Nat) (os:List AOp) (s:Nat) (tm:Tms) (x:AVal) (σ:Za) (c:Cls):kN O bf d os s tm (some (.pan x,σ,c))=some (tput tm d (.pan x),σ,some x):=rfl
theorem ZxI (d:Option Nat) (os:List AOp) (s:Nat) (tm:Tms):kN O bf d os s tm none=none:=rfl
structure GOp where
 guard:Option (Nat×Bool)
 ops:List AOp
def Zam:List AOp->Tms->Tms
 | [],tm=>tm
 | o::os,tm=>Zam os (tput tm o.dst (.tup []))
def unG (o:AOp):AOp:={ o with guard:=none }
variable (O bf) in
def Zfc (j:Nat) (w:Bool) (g:List AOp) (s:Nat) (tm:Tms) (σ:Za):Option (Tms×Za×Option AVal):=match Zbp (some (j,w)) tm with
 | none=>none
 | some false=>some (Zam g tm,σ,none)
 | some true=>Zbi O bf (g.map unG) s tm σ
variable (O bf) in
def gK (os:List AOp) (s:Nat):Option (Tms×Za×Option AVal)->Option (Tms×Za×Option AVal)
 | none=>none
 | some (tm,σ,some x)=>some (tm,σ,some x)
 | some (tm,σ,none)=>Zbi O bf os s tm σ
def ZD (j:Nat) (w:Bool):List AOp->List AOp×List AOp
 | []=>([],[])
 | o::os=>match o.guard with
  | some (j',w')=>if j'=j/\w'=w/\o.dst≠some j then ((o::(ZD j w os).1),(ZD j w os).2) else ([],o::os)
  | none=>([],o::os)
theorem ZpB (j:Nat) (w:Bool):∀ os,(ZD j w os).1++(ZD j w os).2=os
 | []=>rfl
 | o::os=>by
  simp only [ZD]
  split
  ·split
   ·simp [ZpB j w os]
   ·rfl
  ·rfl
theorem Znq (j:Nat) (w:Bool):∀ os,∀ o ∈ (ZD j w os).1,o.guard=some (j,w)/\o.dst≠some j
 | []=>by simp [ZD]
 | o::os=>by
  intro o' ho
  simp only [ZD] at ho
  split at ho
  ·rename_i j' w' hg
   split at ho
   ·rename_i hc
    rcases List.mem_cons.1 ho with rfl | ho
    ·exact ⟨by rw [hg,hc.1,hc.2.1],hc.2.2⟩
    ·exact Znq j w os o' ho
   ·simp at ho
  ·simp at ho
theorem ZEY {d:Option Nat} {v:AVal} {n:Nat} {tm:Tms} (h:d≠some n):tget (tput tm d v) n=tget tm n:=by
 cases d with
 | none=>rfl
 | some d =>
  have : d≠n:=by rintro rfl;exact h rfl
  simp only [tput,Zmb,this,if_false]
theorem Zgc {d:Option Nat} {v:AVal} {j:Nat} {w:Bool} {tm:Tms} (h:d≠some j):Zbp (some (j,w)) (tput tm d v)=Zbp (some (j,w)) tm:=by
 simp only [Zbp,ZEY h]
theorem Zv2:∀ (a b:List AOp) (s:Nat) (tm:Tms) (σ:Za),Zbi O bf (a++b) s tm σ=gK O bf b (s+sitesOf a) (Zbi O bf a s tm σ)
 | [],b,s,tm,σ=>by simp [Zr3,gK,sitesOf]
 | o::a,b,s,tm,σ=>by
  have ih:=Zv2 a b
  simp only [List.cons_append]
  have hs:s+nsite o.ins+sitesOf a=s+sitesOf (o::a):=by simp [sitesOf,Nat.add_assoc]
  cases hst:ZR O bf o s tm σ with
  | none=>rw [Zl0 hst,Zl0 hst];rfl
  | some q =>
   obtain ⟨v,tm1,σ1,c⟩:=q
   cases hp:ZaS v with
   | true =>
    obtain ⟨x,rfl⟩:=Zj9 hp
    rw [ZoI hst,ZoI hst];rfl
   | false=>rw [ZlT hst hp,ZlT hst hp,ih,hs]
theorem Zua (j:Nat) (w:Bool):∀ (g:List AOp),(∀ o ∈ g,o.guard=some (j,w)/\o.dst≠some j)->∀ (s:Nat) (tm:Tms) (σ:Za),g≠[]->Zbi O bf g s tm σ=Zfc O bf j w g s tm σ
 | [],_,_,_,_,h=>absurd rfl h
 | o::g,hall,s,tm,σ,_=>by
  obtain ⟨hg,hd⟩:=hall o (by simp)
  have ih:∀ (tm:Tms) (σ:Za) (s:Nat),Zbp (some (j,w)) tm≠none->Zbi O bf g s tm σ=Zfc O bf j w g s tm σ:=by
   intro tm σ s hw
   by_cases he:g=[]
   ·subst he
    unfold Zfc
    cases hx:Zbp (some (j,w)) tm with
    | none=>exact absurd hx hw
    | some b=>cases b <;> rfl
   ·exact Zua j w g (fun o ho=>hall o (by simp [ho])) s tm σ he
  cases hx:Zbp (some (j,w)) tm with
  | none =>
   rw [Zl0 (by simp only [ZR,hg,hx])]
   simp only [Zfc,hx]
  | some b =>
   cases b with
   | false =>
    have h1:Zbi O bf (o::g) s tm σ=Zbi O bf g (s+nsite o.ins) (tput tm o.dst (.tup [])) σ :=
     ZlT (v:=.tup []) (c:={}) (by simp only [ZR,hg,hx]) rfl
    rw [h1,ih _ _ _ (by rw [Zgc hd,hx];simp)]
    unfold Zfc
    rw [Zgc hd,hx]
    rfl
   | true =>
    have key:∀ r:Option (AVal×Za×Cls),(∀ v σ' c,r=some (v,σ',c)->ZaS v=false->Zbi O bf g (s+nsite o.ins) (tput tm o.dst v) σ'=Zbi O bf (g.map unG) (s+nsite o.ins) (tput tm o.dst v) σ')->kN O bf o.dst g (s+nsite o.ins) tm r=kN O bf o.dst (g.map unG) (s+nsite o.ins) tm r:=by
     intro r hr
     cases r with
     | none=>rfl
     | some q =>
      obtain ⟨v,σ',c⟩:=q
      cases hp:ZaS v with
      | true=>simp only [kN,hp,if_true]
      | false=>rw [ZoJ _ _ _ _ _ _ _ hp,ZoJ _ _ _ _ _ _ _ hp];exact hr v σ' c rfl hp
    have h1:Zbi O bf (o::g) s tm σ=kN O bf o.dst g (s+nsite o.ins) tm (exI O bf o.ins s tm σ):=by
     have h0:Zbi O bf (o::g) s tm σ=Zbi O bf (⟨o.dst,o.ins,none,o.after⟩::g) s tm σ:=by
      have hst:ZR O bf o s tm σ=ZR O bf ⟨o.dst,o.ins,none,o.after⟩ s tm σ:=by
       unfold ZR
       simp only [hg,hx]
       rfl
      unfold Zbi
      simp only [Z3,hst]
     rw [h0,Zoy]
    rw [h1]
    unfold Zfc
    rw [hx]
    simp only [List.map_cons]
    rw [show unG o=⟨o.dst,o.ins,none,o.after⟩ from rfl,Zoy]
    refine key _ fun v σ' c _ _=>?_
    rw [ih _ _ _ (by rw [Zgc hd,hx];simp)]
    unfold Zfc
    rw [Zgc hd,hx]
theorem ZyD (d:Option Nat) (i:Ins) (j:Nat) (w:Bool) (af:List Nat) (os:List AOp) (s:Nat) (tm:Tms) (σ:Za) (hd:decide (d=some j)=false) :
  Zbi O bf (⟨d,i,some (j,w),af⟩::os) s tm σ=gK O bf (ZD j w os).2 (s+sitesOf (⟨d,i,some (j,w),af⟩::(ZD j w os).1)) (Zfc O bf j w (⟨d,i,some (j,w),af⟩::(ZD j w os).1) s tm σ):=by
 have h:=ZpB j w os
 have hall:∀ o ∈ (⟨d,i,some (j,w),af⟩::(ZD j w os).1:List AOp),o.guard=some (j,w)/\o.dst≠some j:=by
  intro o ho
  rcases List.mem_cons.1 ho with rfl | ho
  ·exact ⟨rfl,by simpa using hd⟩
  ·exact Znq j w os o ho
 rw [<-Zua j w _ hall s tm σ (by simp),<-Zv2,List.cons_append,h]
variable (O bf) in
def gW (w:Bool) (g:List AOp) (s:Nat) (tm:Tms) (σ:Za):AVal->Option (Tms×Za×Option AVal)
 | .bool b=>if b=w then Zbi O bf (g.map unG) s tm σ else some (Zam g tm,σ,none)
 | .tup []=>some (Zam g tm,σ,none)
 | _=>none
theorem ZH3 (j:Nat) (w:Bool) (g:List AOp) (s:Nat) (tm:Tms) (σ:Za):Zfc O bf j w g s tm σ=gW O bf w g s tm σ (tget tm j):=by
 unfold Zfc Zbp
 simp only
 generalize tget tm j=v
 cases v
 case bool b=>cases b <;> cases w <;> rfl
 case tup vs=>cases vs <;> rfl
 all_goals rfl
theorem ZHD (w:Bool) (g:List AOp) (s:Nat) (tm:Tms) (σ:Za) (b:Bool):gW O bf w g s tm σ (.bool b)=if b=w then Zbi O bf (g.map unG) s tm σ else some (Zam g tm,σ,none):=rfl
theorem ZK6 (w:Bool) (g:List AOp) (s:Nat) (tm:Tms) (σ:Za):gW O bf w g s tm σ (.tup [])=some (Zam g tm,σ,none):=rfl
theorem ZAj (os:List AOp) (s:Nat) (tm:Tms) (σ:Za):gK O bf os s (some (tm,σ,none))=Zbi O bf os s tm σ:=rfl
end
section
variable (c:Prop) [Decidable c]
theorem ZdB {α:Type} (a b:α) (x y:List α):(if c then a::x else b::y)=(if c then a else b)::(if c then x else y):=by split <;> rfl
theorem ZPj (k:IntKind) (a b:Int):(if c then AVal.int k a else AVal.int k b)=AVal.int k (if c then a else b):=by split <;> rfl
theorem ZCr (a b:Bool):(if c then AVal.bool a else AVal.bool b)=AVal.bool (if c then a else b):=by split <;> rfl
theorem ZEA (a b:List UInt8):(if c then AVal.str a else AVal.str b)=AVal.str (if c then a else b):=by split <;> rfl
theorem ZxL (p q:Bool) (a b:List AVal):(if c then AVal.lst p a else AVal.lst q b)=AVal.lst (if c then p else q) (if c then a else b):=by split <;> rfl
theorem ZK4 (a b:List AVal):(if c then AVal.agg a else AVal.agg b)=AVal.agg (if c then a else b):=by split <;> rfl
theorem ZxP (a b:List AVal):(if c then ZN.var a else ZN.var b)=ZN.var (if c then a else b):=by split <;> rfl
theorem ZD2 (g k:Nat) (a b:List AVal):(if c then ZN.row g k a else ZN.row g k b)=ZN.row g k (if c then a else b):=by split <;> rfl
theorem ZMN (t:Nat) (a b:Nat):(if c then AVal.ref t a else AVal.ref t b)=AVal.ref t (if c then a else b):=by split <;> rfl
theorem ZmD {α:Type} (x y z:α):(if c then (if c then x else y) else z)=if c then x else z:=by split <;> rfl
theorem Zud {α:Type} (x y z:α):(if c then x else (if c then y else z))=if c then x else z:=by split <;> rfl
theorem ZFA (σ:Za) (a b:AVal) (p:Bool):Zgz σ a b (.bool p)=some (if p=true then a else b,σ,{}):=by cases p <;> rfl
theorem ZDg (a b:AVal):ZaS (if c then a else b)=if c then ZaS a else ZaS b:=by split <;> rfl
end
section
variable {fs:Nat->Option ZG} {prim:Zcm} {bf:Nat->Bool} {m0:Nat}
theorem Zzx (p:Bool) (a b:Ze) (tm:Tms) (σ:Za):Zjc fs prim bf m0 a b tm σ (.bool p)=if p=true then evC fs prim bf m0 a tm σ else evC fs prim bf m0 b tm σ:=by
 cases p <;> rfl
theorem ZEU (b:Ze) (tm:Tms) (σ:Za):Zbq fs prim bf m0 b (some (.normal,tm,σ))=evC fs prim bf m0 b tm σ:=rfl
theorem ZPp (b:Ze) (i:Nat) (tm:Tms) (σ:Za):Zbq fs prim bf m0 b (some (.exit i,tm,σ))=some (.exit i,tm,σ):=rfl
theorem ZKe (b:Ze) (tm:Tms) (σ:Za):Zbq fs prim bf m0 b (some (.ret,tm,σ))=some (.ret,tm,σ):=rfl
theorem ZBH (b:Ze) (x:AVal) (tm:Tms) (σ:Za):Zbq fs prim bf m0 b (some (.panic x,tm,σ))=some (.panic x,tm,σ):=rfl
theorem ZNZ (c:Prop) [Decidable c] (b:Ze) (x y:Option (ZaU×Tms×Za)):Zbq fs prim bf m0 b (if c then x else y)=if c then Zbq fs prim bf m0 b x else Zbq fs prim bf m0 b y:=by split <;> rfl
theorem ZIL (id:Nat) (tm:Tms) (σ:Za):Option.map (ZaJ id) (some (.normal,tm,σ))=some (.normal,tm,σ):=rfl
theorem ZO2 (id i:Nat) (tm:Tms) (σ:Za):Option.map (ZaJ id) (some (.exit i,tm,σ))=if i=id then some (.normal,tm,σ) else some (.exit i,tm,σ):=by
 simp only [Option.map_some,ZaJ];split <;> rfl
theorem ZNI (id:Nat) (tm:Tms) (σ:Za):Option.map (ZaJ id) (some (.ret,tm,σ))=some (.ret,tm,σ):=rfl
theorem ZAW (id:Nat) (x:AVal) (tm:Tms) (σ:Za):Option.map (ZaJ id) (some (.panic x,tm,σ))=some (.panic x,tm,σ):=rfl
theorem Zx5 (id:Nat) (c:Prop) [Decidable c] (x y:Option (ZaU×Tms×Za)):Option.map (ZaJ id) (if c then x else y)=if c then Option.map (ZaJ id) x else Option.map (ZaJ id) y:=by split <;> rfl
theorem ZBU (m:Nat) (fn:ZG) (c:Prop) [Decidable c] (x y:Option (ZaU×Tms×Za)):Zan m fn (if c then x else y)=if c then Zan m fn x else Zan m fn y:=by split <;> rfl
end
section
variable {fs:Nat->Option ZG} {prim:Zcm} {bf:Nat->Bool} {m0:Nat}
theorem ZFU {live:List Nat} {c:Ze} {tm tm':Tms} {σ σ':Za} (h:evC fs prim bf m0 c tm σ=some (.normal,tm',σ')):evL fs prim bf m0 live c tm σ=evL fs prim bf m0 live c (gcT m0 (keepL live tm') σ').1 (gcT m0 (keepL live tm') σ').2:=by
 unfold evL
 rw [h]
 simp only
 rw [Zvr]
 rfl
theorem ZIv {live:List Nat} {c:Ze} {tm tm':Tms} {σ σ':Za} {i:Nat} (h:evC fs prim bf m0 c tm σ=some (.exit i,tm',σ')):evL fs prim bf m0 live c tm σ=some (.exit i,tm',σ'):=by
 unfold evL;rw [h]
theorem ZMM {live:List Nat} {c:Ze} {tm tm':Tms} {σ σ':Za} (h:evC fs prim bf m0 c tm σ=some (.ret,tm',σ')):evL fs prim bf m0 live c tm σ=some (.ret,tm',σ'):=by
 unfold evL;rw [h]
variable (fs prim bf m0) in
noncomputable def evM (live:List Nat) (c:Ze):Option (ZaU×Tms×Za)->Option (ZaU×Tms×Za)
 | some (.normal,tm,σ)=>evL fs prim bf m0 live c (gcT m0 (keepL live tm) σ).1 (gcT m0 (keepL live tm) σ).2
 | r=>r
theorem Z2 (live:List Nat) (c:Ze) (tm:Tms) (σ:Za):evL fs prim bf m0 live c tm σ=evM fs prim bf m0 live c (evC fs prim bf m0 c tm σ):=by
 cases h:evC fs prim bf m0 c tm σ with
 | none=>unfold evL;rw [h];rfl
 | some q =>
  obtain ⟨e,tm',σ'⟩:=q
  cases e with
  | normal=>exact ZFU h
  | exit i=>exact ZIv h
  | ret=>exact ZMM h
  | panic x=>unfold evL;rw [h];rfl
theorem ZGP (live:List Nat) (c:Ze) (tm:Tms) (σ:Za):evM fs prim bf m0 live c (some (.normal,tm,σ))=evL fs prim bf m0 live c (gcT m0 (keepL live tm) σ).1 (gcT m0 (keepL live tm) σ).2:=rfl
theorem ZNn (live:List Nat) (c:Ze) (i:Nat) (tm:Tms) (σ:Za):evM fs prim bf m0 live c (some (.exit i,tm,σ))=some (.exit i,tm,σ):=rfl
theorem Zxb (live:List Nat) (c:Ze) (tm:Tms) (σ:Za):evM fs prim bf m0 live c (some (.ret,tm,σ))=some (.ret,tm,σ):=rfl
theorem ZBi (live:List Nat) (c:Ze) (x:AVal) (tm:Tms) (σ:Za):evM fs prim bf m0 live c (some (.panic x,tm,σ))=some (.panic x,tm,σ):=rfl
theorem ZO4 (live:List Nat) (b:Ze) (c:Prop) [Decidable c] (x y:Option (ZaU×Tms×Za)):evM fs prim bf m0 live b (if c then x else y)=if c then evM fs prim bf m0 live b x else evM fs prim bf m0 live b y:=by split <;> rfl
end
def Za8:AVal->Bool
 | .int _ _=>true
 | .bool _=>true
 | .str _=>true
 | .nilp=>true
 | .nilm=>true
 | .nili=>true
 | .lst _ _=>true
 | .fn _ []=>true
 | _=>false
def Zak:AVal->Bool
 | .agg cs=>cs.all Za8
 | x=>Za8 x
def Za9:AVal->AVal
 | .lst _ xs=>.lst false xs
 | x=>x
def ZM:AVal->AVal
 | .agg cs=>.agg (cs.map Za9)
 | x=>Za9 x
theorem ZsZ {σ:Za} {x:AVal} (h:Za8 x=true):ZcP σ x=some (Za9 x,[]):=by
 cases x <;> first | (simp [Za8] at h;done) | rfl
theorem ZuB {σ:Za}:∀ {xs:List AVal},xs.all Za8=true->ZcE σ xs=some (xs.map Za9,[])
 | [],_=>rfl
 | x::xs,h=>by
  simp only [List.all_cons,Bool.and_eq_true] at h
  simp only [ZcE,ZsZ h.1,ZuB h.2,List.map_cons,List.append_nil]
theorem Zhs {x:AVal} (h:∀ cs,x≠.agg cs):Zak x=Za8 x/\ZM x=Za9 x:=by
 cases x <;> first | exact ⟨rfl,rfl⟩ | exact absurd rfl (h _)
theorem ZGh {σ:Za} {x:AVal} (h:∀ cs,x≠.agg cs):showA σ x=ZcP σ x:=by
 cases x <;> first | rfl | exact absurd rfl (h _)
theorem Zpi (x:AVal):(∃ cs,x=.agg cs)\/∀ cs,x≠.agg cs:=by
 cases x <;> first | exact Or.inl ⟨_,rfl⟩ | (right;intro cs;simp)
theorem ZCz {σ:Za} {x:AVal} (h:Zak x=true):showA σ x=some (ZM x,[]):=by
 rcases Zpi x with ⟨cs,rfl⟩ | hn
 ·simp only [Zak] at h
  simp only [showA,ZuB h,ZM]
 ·rw [(Zhs hn).1] at h
  rw [ZGh hn,(Zhs hn).2]
  exact ZsZ h
theorem Zed {σ:Za}:∀ {xs:List AVal},xs.all Zak=true->showAs σ xs=some (xs.map ZM,[])
 | [],_=>rfl
 | x::xs,h=>by
  simp only [List.all_cons,Bool.and_eq_true] at h
  simp only [showAs,ZCz h.1,Zed h.2,List.map_cons,List.append_nil]
theorem Ztt {x:AVal} (h:Za8 x=true):ZS (Za9 x)=[]:=by
 cases x
 case fn f cs=>cases cs <;> simp [Za8] at h;rfl
 all_goals first | (simp [Za8] at h;done) | rfl
theorem ZrQ:∀ {xs:List AVal},xs.all Za8=true->Zp (xs.map Za9)=[]
 | [],_=>rfl
 | x::xs,h=>by
  simp only [List.all_cons,Bool.and_eq_true] at h
  simp only [List.map_cons,Zp,Ztt h.1,ZrQ h.2,List.append_nil]
theorem ZvB {x:AVal} (h:Zak x=true):ZS (ZM x)=[]:=by
 rcases Zpi x with ⟨cs,rfl⟩ | hn
 ·simp only [Zak] at h
  simp only [ZM,ZS];exact ZrQ h
 ·rw [(Zhs hn).1] at h
  rw [(Zhs hn).2];exact Ztt h
theorem Zdu:∀ {xs:List AVal},xs.all Zak=true->Zp (xs.map ZM)=[]
 | [],_=>rfl
 | x::xs,h=>by
  simp only [List.all_cons,Bool.and_eq_true] at h
  simp only [List.map_cons,Zp,ZvB h.1,Zdu h.2,List.append_nil]
theorem ZsU {ρ:Rho} {x:AVal} (h:Za8 x=true):Zm ρ (Za9 x)=Za9 x:=by
 cases x
 case fn f cs=>cases cs <;> simp [Za8] at h;rfl
 all_goals first | (simp [Za8] at h;done) | rfl
theorem Zs9 {ρ:Rho}:∀ {xs:List AVal},xs.all Za8=true->Zf ρ (xs.map Za9)=xs.map Za9
 | [],_=>rfl
 | x::xs,h=>by
  simp only [List.all_cons,Bool.and_eq_true] at h
  simp only [List.map_cons,Zf,ZsU h.1,Zs9 h.2]
theorem ZuI {ρ:Rho} {x:AVal} (h:Zak x=true):Zm ρ (ZM x)=ZM x:=by
 rcases Zpi x with ⟨cs,rfl⟩ | hn
 ·simp only [Zak] at h
  simp only [ZM,Zm];rw [Zs9 h]
 ·rw [(Zhs hn).1] at h
  rw [(Zhs hn).2];exact ZsU h
theorem ZdA {ρ:Rho}:∀ {xs:List AVal},xs.all Zak=true->Zf ρ (xs.map ZM)=xs.map ZM
 | [],_=>rfl
 | x::xs,h=>by
  simp only [List.all_cons,Bool.and_eq_true] at h
  simp only [List.map_cons,Zf,ZuI h.1,ZdA h.2]
theorem Zd2 {O:ZU} {bf:Nat->Bool} {σ:Za} {sq f own:Nat} {view:Bool} {args:List AVal} (hb:bf f=false) (h:args.all Zak=true) :
  Zo O bf σ sq f own view args=Zav σ σ [] [] sq own (Zab view 0 (O f (args.map ZM) [])):=by
 unfold Zo ZbO
 rw [hb]
 simp only [Bool.false_eq_true,if_false,Zed h]
 have h1:Zq σ []=σ:=rfl
 rw [h1,Zdu h]
 have h2:Zu σ 1000 [] []=[]:=rfl
 rw [h2]
 unfold Zbz
 simp only [List.all_nil,if_true,ZdA h,Zr,List.length_nil]
theorem Zha (σ:Za) (sq own:Nat) (r:AVal) (h:Zm (Zax [] [] sq) r=r):Zav σ σ [] [] sq own (some (r,[]))=some (r,σ,{}):=by
 simp only [Zav,List.isEmpty_nil,Bool.and_self,if_true,Zda,Bool.not_true,Bool.false_and,Bool.false_eq_true,if_false]
 split
 ·rfl
 ·rw [h]
end
section
section
variable (ρ:Rho) (σ:Za)
theorem ZGK  : ZaS (.top)=false:=rfl
theorem ZE1  : ZaS (.any)=false:=rfl
theorem ZIl (k:IntKind) (n:Int):ZaS (.int k n)=false:=rfl
theorem ZEk (b:Bool):ZaS (.bool b)=false:=rfl
theorem ZKd (l:List UInt8):ZaS (.str l)=false:=rfl
theorem ZPf  : ZaS (.nilp)=false:=rfl
theorem ZGV (t:Nat) (o:Nat):ZaS (.ref t o)=false:=rfl
theorem ZEP (t:Nat) (g:Nat) (i:Nat) (o:Nat):ZaS (.eref t g i o)=false:=rfl
theorem Zx6 (cs:List AVal) (o:Nat):ZaS (.iptr cs o)=false:=rfl
theorem ZMs (x:Bool) (xs:List AVal):ZaS (.lst x xs)=false:=rfl
theorem ZOl (t:Nat) (g:Nat) (lo:Nat) (n:Nat):ZaS (.sl t g lo n)=false:=rfl
theorem ZMm (cs:List AVal):ZaS (.agg cs)=false:=rfl
theorem ZLK (vs:List AVal):ZaS (.tup vs)=false:=rfl
theorem ZGa (f:Nat) (caps:List AVal):ZaS (.fn f caps)=false:=rfl
theorem ZxZ  : ZaS (.nilm)=false:=rfl
theorem ZzY (t:Nat):ZaS (.map t)=false:=rfl
theorem ZB5  : ZaS (.nili)=false:=rfl
theorem ZHW (t:Nat) (x:AVal):ZaS (.iface t x)=false:=rfl
theorem ZNP (x:AVal):ZaS (.pan x)=true:=rfl
theorem ZJ8  : ZX (.top)=false:=rfl
theorem ZCO  : ZX (.any)=true:=rfl
theorem Zy9 (k:IntKind) (n:Int):ZX (.int k n)=true:=rfl
theorem ZNq (b:Bool):ZX (.bool b)=true:=rfl
theorem ZAn (l:List UInt8):ZX (.str l)=true:=rfl
theorem ZIs  : ZX (.nilp)=true:=rfl
theorem ZCt (t:Nat) (o:Nat):ZX (.ref t o)=true:=rfl
theorem ZMP (t:Nat) (g:Nat) (i:Nat) (o:Nat):ZX (.eref t g i o)=true:=rfl
theorem ZOV (cs:List AVal) (o:Nat):ZX (.iptr cs o)=true:=rfl
theorem Zxm (x:Bool) (xs:List AVal):ZX (.lst x xs)=true:=rfl
theorem Zxj (t:Nat) (g:Nat) (lo:Nat) (n:Nat):ZX (.sl t g lo n)=true:=rfl
theorem Zyc (cs:List AVal):ZX (.agg cs)=false:=rfl
theorem ZAT (vs:List AVal):ZX (.tup vs)=false:=rfl
theorem ZGq (f:Nat) (caps:List AVal):ZX (.fn f caps)=true:=rfl
theorem ZJf  : ZX (.nilm)=true:=rfl
theorem ZGv (t:Nat):ZX (.map t)=true:=rfl
theorem Zw2  : ZX (.nili)=true:=rfl
theorem ZPu (t:Nat) (x:AVal):ZX (.iface t x)=true:=rfl
theorem ZF3 (x:AVal):ZX (.pan x)=false:=rfl
theorem ZME  : Zbk (.top)=false:=rfl
theorem ZH4  : Zbk (.any)=true:=rfl
theorem ZCI (k:IntKind) (n:Int):Zbk (.int k n)=true:=rfl
theorem ZIW (b:Bool):Zbk (.bool b)=true:=rfl
theorem ZOD (l:List UInt8):Zbk (.str l)=true:=rfl
theorem ZJp  : Zbk (.nilp)=true:=rfl
theorem ZM3 (t:Nat) (o:Nat):Zbk (.ref t o)=true:=rfl
theorem ZLu (t:Nat) (g:Nat) (i:Nat) (o:Nat):Zbk (.eref t g i o)=true:=rfl
theorem ZBI (cs:List AVal) (o:Nat):Zbk (.iptr cs o)=true:=rfl
theorem ZLZ (x:Bool) (xs:List AVal):Zbk (.lst x xs)=true:=rfl
theorem Zyn (t:Nat) (g:Nat) (lo:Nat) (n:Nat):Zbk (.sl t g lo n)=true:=rfl
theorem ZH0 (cs:List AVal):Zbk (.agg cs)=true:=rfl
theorem ZF0 (vs:List AVal):Zbk (.tup vs)=true:=rfl
theorem ZFo (f:Nat) (caps:List AVal):Zbk (.fn f caps)=true:=rfl
theorem ZDz  : Zbk (.nilm)=true:=rfl
theorem ZHn (t:Nat):Zbk (.map t)=true:=rfl
theorem ZPE  : Zbk (.nili)=true:=rfl
theorem ZFY (t:Nat) (x:AVal):Zbk (.iface t x)=true:=rfl
theorem Zzp (x:AVal):Zbk (.pan x)=true:=rfl
theorem ZKh  : ZaV (.top)=false:=rfl
theorem Zyd  : ZaV (.any)=false:=rfl
theorem ZNO (k:IntKind) (n:Int):ZaV (.int k n)=true:=rfl
theorem ZIx (b:Bool):ZaV (.bool b)=true:=rfl
theorem ZKa (l:List UInt8):ZaV (.str l)=true:=rfl
theorem ZBj  : ZaV (.nilp)=true:=rfl
theorem ZDp (t:Nat) (o:Nat):ZaV (.ref t o)=false:=rfl
theorem ZDE (t:Nat) (g:Nat) (i:Nat) (o:Nat):ZaV (.eref t g i o)=false:=rfl
theorem ZBZ (cs:List AVal) (o:Nat):ZaV (.iptr cs o)=false:=rfl
theorem ZBQ (x:Bool) (xs:List AVal):ZaV (.lst x xs)=false:=rfl
theorem ZKb (t:Nat) (g:Nat) (lo:Nat) (n:Nat):ZaV (.sl t g lo n)=false:=rfl
theorem ZxS (cs:List AVal):ZaV (.agg cs)=false:=rfl
theorem ZLF (vs:List AVal):ZaV (.tup vs)=false:=rfl
theorem ZMW (f:Nat) (caps:List AVal):ZaV (.fn f caps)=false:=rfl
theorem ZEw  : ZaV (.nilm)=true:=rfl
theorem ZDV (t:Nat):ZaV (.map t)=false:=rfl
theorem ZM8  : ZaV (.nili)=true:=rfl
theorem ZHv (t:Nat) (x:AVal):ZaV (.iface t x)=false:=rfl
theorem ZE5 (x:AVal):ZaV (.pan x)=false:=rfl
theorem ZwU  : Zbh (.top)=false:=rfl
theorem ZKu  : Zbh (.any)=false:=rfl
theorem ZNr (k:IntKind) (n:Int):Zbh (.int k n)=true:=rfl
theorem ZA6 (b:Bool):Zbh (.bool b)=true:=rfl
theorem ZNx (l:List UInt8):Zbh (.str l)=true:=rfl
theorem ZBV  : Zbh (.nilp)=true:=rfl
theorem Zxx (t:Nat) (o:Nat):Zbh (.ref t o)=false:=rfl
theorem ZII (t:Nat) (g:Nat) (i:Nat) (o:Nat):Zbh (.eref t g i o)=false:=rfl
theorem ZCl (cs:List AVal) (o:Nat):Zbh (.iptr cs o)=false:=rfl
theorem ZyU (x:Bool) (xs:List AVal):Zbh (.lst x xs)=false:=rfl
theorem ZH1 (t:Nat) (g:Nat) (lo:Nat) (n:Nat):Zbh (.sl t g lo n)=false:=rfl
theorem ZJ2 (cs:List AVal):Zbh (.agg cs)=cs.all ZaV:=rfl
theorem ZFj (vs:List AVal):Zbh (.tup vs)=false:=rfl
theorem ZMZ (f:Nat) (caps:List AVal):Zbh (.fn f caps)=false:=rfl
theorem ZOO  : Zbh (.nilm)=true:=rfl
theorem ZDj (t:Nat):Zbh (.map t)=false:=rfl
theorem ZwZ  : Zbh (.nili)=true:=rfl
theorem ZGs (t:Nat) (x:AVal):Zbh (.iface t x)=false:=rfl
theorem ZM0 (x:AVal):Zbh (.pan x)=false:=rfl
theorem ZMd  : Zbx (.top)=false:=rfl
theorem ZEE  : Zbx (.any)=false:=rfl
theorem ZAK (k:IntKind) (n:Int):Zbx (.int k n)=true:=rfl
theorem ZI3 (b:Bool):Zbx (.bool b)=true:=rfl
theorem ZAa (l:List UInt8):Zbx (.str l)=true:=rfl
theorem ZEh  : Zbx (.nilp)=true:=rfl
theorem Zyw (t:Nat) (o:Nat):Zbx (.ref t o)=false:=rfl
theorem ZJF (t:Nat) (g:Nat) (i:Nat) (o:Nat):Zbx (.eref t g i o)=false:=rfl
theorem ZIU (cs:List AVal) (o:Nat):Zbx (.iptr cs o)=false:=rfl
theorem ZHE (x:Bool) (xs:List AVal):Zbx (.lst x xs)=false:=rfl
theorem ZH9 (t:Nat) (g:Nat) (lo:Nat) (n:Nat):Zbx (.sl t g lo n)=false:=rfl
theorem ZNB (cs:List AVal):Zbx (.agg cs)=cs.all ZaV:=rfl
theorem Zyk (vs:List AVal):Zbx (.tup vs)=vs.all Zbh:=rfl
theorem ZJR (f:Nat) (caps:List AVal):Zbx (.fn f caps)=false:=rfl
theorem ZEc  : Zbx (.nilm)=true:=rfl
theorem ZIF (t:Nat):Zbx (.map t)=false:=rfl
theorem ZO8  : Zbx (.nili)=true:=rfl
theorem ZCx (t:Nat) (x:AVal):Zbx (.iface t x)=false:=rfl
theorem ZPv  : Za8 (.top)=false:=rfl
theorem ZKm  : Za8 (.any)=false:=rfl
theorem Zvd (k:IntKind) (n:Int):Za8 (.int k n)=true:=rfl
theorem ZE6 (b:Bool):Za8 (.bool b)=true:=rfl
theorem ZsY (l:List UInt8):Za8 (.str l)=true:=rfl
theorem ZE2  : Za8 (.nilp)=true:=rfl
theorem ZOF (t:Nat) (o:Nat):Za8 (.ref t o)=false:=rfl
theorem ZBR (t:Nat) (g:Nat) (i:Nat) (o:Nat):Za8 (.eref t g i o)=false:=rfl
theorem ZOo (cs:List AVal) (o:Nat):Za8 (.iptr cs o)=false:=rfl
theorem Zwa (x:Bool) (xs:List AVal):Za8 (.lst x xs)=true:=rfl
theorem ZMC (t:Nat) (g:Nat) (lo:Nat) (n:Nat):Za8 (.sl t g lo n)=false:=rfl
theorem ZAx (cs:List AVal):Za8 (.agg cs)=false:=rfl
theorem ZG1 (vs:List AVal):Za8 (.tup vs)=false:=rfl
theorem ZOr  : Za8 (.nilm)=true:=rfl
theorem ZOj (t:Nat):Za8 (.map t)=false:=rfl
theorem ZEH  : Za8 (.nili)=true:=rfl
theorem ZH5 (t:Nat) (x:AVal):Za8 (.iface t x)=false:=rfl
theorem Zy5 (x:AVal):Za8 (.pan x)=false:=rfl
theorem ZG3  : Zak (.top)=false:=rfl
theorem ZF7  : Zak (.any)=false:=rfl
theorem Zzl (k:IntKind) (n:Int):Zak (.int k n)=true:=rfl
theorem ZEn (b:Bool):Zak (.bool b)=true:=rfl
theorem ZEM (l:List UInt8):Zak (.str l)=true:=rfl
theorem ZyB  : Zak (.nilp)=true:=rfl
theorem ZFe (t:Nat) (o:Nat):Zak (.ref t o)=false:=rfl
theorem ZDK (t:Nat) (g:Nat) (i:Nat) (o:Nat):Zak (.eref t g i o)=false:=rfl
theorem ZEZ (cs:List AVal) (o:Nat):Zak (.iptr cs o)=false:=rfl
theorem ZGS (x:Bool) (xs:List AVal):Zak (.lst x xs)=true:=rfl
theorem Zzz (t:Nat) (g:Nat) (lo:Nat) (n:Nat):Zak (.sl t g lo n)=false:=rfl
theorem ZuW (cs:List AVal):Zak (.agg cs)=cs.all Za8:=rfl
theorem ZL1 (vs:List AVal):Zak (.tup vs)=false:=rfl
theorem ZGB  : Zak (.nilm)=true:=rfl
theorem Zzo (t:Nat):Zak (.map t)=false:=rfl
theorem ZGQ  : Zak (.nili)=true:=rfl
theorem ZN9 (t:Nat) (x:AVal):Zak (.iface t x)=false:=rfl
theorem ZGx (x:AVal):Zak (.pan x)=false:=rfl
theorem ZFf  : Za9 (.top)=(.top):=rfl
theorem ZwN  : Za9 (.any)=(.any):=rfl
theorem ZsG (k:IntKind) (n:Int):Za9 (.int k n)=(.int k n):=rfl
theorem ZCe (b:Bool):Za9 (.bool b)=(.bool b):=rfl
theorem Zuk (l:List UInt8):Za9 (.str l)=(.str l):=rfl
theorem ZD4  : Za9 (.nilp)=(.nilp):=rfl
theorem ZFx (t:Nat) (o:Nat):Za9 (.ref t o)=(.ref t o):=rfl
theorem ZAR (t:Nat) (g:Nat) (i:Nat) (o:Nat):Za9 (.eref t g i o)=(.eref t g i o):=rfl
theorem Zyt (cs:List AVal) (o:Nat):Za9 (.iptr cs o)=(.iptr cs o):=rfl
theorem Zv1 (x:Bool) (xs:List AVal):Za9 (.lst x xs)=.lst false xs:=rfl
theorem ZCi (t:Nat) (g:Nat) (lo:Nat) (n:Nat):Za9 (.sl t g lo n)=(.sl t g lo n):=rfl
theorem ZJW (cs:List AVal):Za9 (.agg cs)=(.agg cs):=rfl
theorem ZID (vs:List AVal):Za9 (.tup vs)=(.tup vs):=rfl
theorem ZOB (f:Nat) (caps:List AVal):Za9 (.fn f caps)=(.fn f caps):=rfl
theorem Zza  : Za9 (.nilm)=(.nilm):=rfl
theorem ZzU (t:Nat):Za9 (.map t)=(.map t):=rfl
theorem ZE9  : Za9 (.nili)=(.nili):=rfl
theorem ZKF (t:Nat) (x:AVal):Za9 (.iface t x)=(.iface t x):=rfl
theorem ZFD (x:AVal):Za9 (.pan x)=(.pan x):=rfl
theorem ZE7  : ZM (.top)=(.top):=rfl
theorem ZMY  : ZM (.any)=(.any):=rfl
theorem ZIP (k:IntKind) (n:Int):ZM (.int k n)=(.int k n):=rfl
theorem ZAg (b:Bool):ZM (.bool b)=(.bool b):=rfl
theorem ZBC (l:List UInt8):ZM (.str l)=(.str l):=rfl
theorem ZAi  : ZM (.nilp)=(.nilp):=rfl
theorem Zzi (t:Nat) (o:Nat):ZM (.ref t o)=(.ref t o):=rfl
theorem ZzK (t:Nat) (g:Nat) (i:Nat) (o:Nat):ZM (.eref t g i o)=(.eref t g i o):=rfl
theorem ZH6 (cs:List AVal) (o:Nat):ZM (.iptr cs o)=(.iptr cs o):=rfl
theorem ZJy (x:Bool) (xs:List AVal):ZM (.lst x xs)=.lst false xs:=rfl
theorem ZHP (t:Nat) (g:Nat) (lo:Nat) (n:Nat):ZM (.sl t g lo n)=(.sl t g lo n):=rfl
theorem Zva (cs:List AVal):ZM (.agg cs)=.agg (cs.map Za9):=rfl
theorem ZNt (vs:List AVal):ZM (.tup vs)=(.tup vs):=rfl
theorem ZHb (f:Nat) (caps:List AVal):ZM (.fn f caps)=(.fn f caps):=rfl
theorem ZFH  : ZM (.nilm)=(.nilm):=rfl
theorem ZyM (t:Nat):ZM (.map t)=(.map t):=rfl
theorem ZOs  : ZM (.nili)=(.nili):=rfl
theorem ZE4 (t:Nat) (x:AVal):ZM (.iface t x)=(.iface t x):=rfl
theorem Zw3 (x:AVal):ZM (.pan x)=(.pan x):=rfl
theorem Zzd  : AVal.cells (.top)=[(.top)]:=rfl
theorem ZNT  : AVal.cells (.any)=[(.any)]:=rfl
theorem ZD9 (k:IntKind) (n:Int):AVal.cells (.int k n)=[(.int k n)]:=rfl
theorem ZzL (b:Bool):AVal.cells (.bool b)=[(.bool b)]:=rfl
theorem ZHw (l:List UInt8):AVal.cells (.str l)=[(.str l)]:=rfl
theorem ZJS  : AVal.cells (.nilp)=[(.nilp)]:=rfl
theorem ZM5 (t:Nat) (o:Nat):AVal.cells (.ref t o)=[(.ref t o)]:=rfl
theorem ZG5 (t:Nat) (g:Nat) (i:Nat) (o:Nat):AVal.cells (.eref t g i o)=[(.eref t g i o)]:=rfl
theorem ZLR (cs:List AVal) (o:Nat):AVal.cells (.iptr cs o)=[(.iptr cs o)]:=rfl
theorem ZFw (x:Bool) (xs:List AVal):AVal.cells (.lst x xs)=[(.lst x xs)]:=rfl
theorem ZDM (t:Nat) (g:Nat) (lo:Nat) (n:Nat):AVal.cells (.sl t g lo n)=[(.sl t g lo n)]:=rfl
theorem ZDP (cs:List AVal):AVal.cells (.agg cs)=cs:=rfl
theorem ZEL (vs:List AVal):AVal.cells (.tup vs)=[(.tup vs)]:=rfl
theorem ZJ7 (f:Nat) (caps:List AVal):AVal.cells (.fn f caps)=[(.fn f caps)]:=rfl
theorem ZxE  : AVal.cells (.nilm)=[(.nilm)]:=rfl
theorem ZEV (t:Nat):AVal.cells (.map t)=[(.map t)]:=rfl
theorem ZDs  : AVal.cells (.nili)=[(.nili)]:=rfl
theorem ZIy (t:Nat) (x:AVal):AVal.cells (.iface t x)=[(.iface t x)]:=rfl
theorem ZPe (x:AVal):AVal.cells (.pan x)=[(.pan x)]:=rfl
theorem ZKg  : ZaT (.top)=(.top):=rfl
theorem ZCU  : ZaT (.any)=(.any):=rfl
theorem ZIt (k:IntKind) (n:Int):ZaT (.int k n)=(.int k n):=rfl
theorem ZGb (b:Bool):ZaT (.bool b)=(.bool b):=rfl
theorem ZOK (l:List UInt8):ZaT (.str l)=(.str l):=rfl
theorem ZK1  : ZaT (.nilp)=(.nilp):=rfl
theorem ZMV (t:Nat) (o:Nat):ZaT (.ref t o)=(.ref t o):=rfl
theorem ZMa (t:Nat) (g:Nat) (i:Nat) (o:Nat):ZaT (.eref t g i o)=(.eref t g i o):=rfl
theorem ZOa (cs:List AVal) (o:Nat):ZaT (.iptr cs o)=(.iptr cs o):=rfl
theorem ZFr (x:Bool) (xs:List AVal):ZaT (.lst x xs)=(.lst x xs):=rfl
theorem ZxG (t:Nat) (g:Nat) (lo:Nat) (n:Nat):ZaT (.sl t g lo n)=(.sl t g lo n):=rfl
theorem ZHo (cs:List AVal):ZaT (.agg cs)=(.agg cs):=rfl
theorem ZyS (vs:List AVal):ZaT (.tup vs)=(.tup vs):=rfl
theorem Zzq (f:Nat) (caps:List AVal):ZaT (.fn f caps)=(.fn f caps):=rfl
theorem ZBt  : ZaT (.nilm)=(.nilm):=rfl
theorem ZOY (t:Nat):ZaT (.map t)=(.map t):=rfl
theorem ZFE  : ZaT (.nili)=(.nili):=rfl
theorem ZBb (t:Nat) (x:AVal):ZaT (.iface t x)=(.iface t x):=rfl
theorem ZLt (x:AVal):ZaT (.pan x)=x:=rfl
theorem ZJQ  : ZbR (.top)=4:=rfl
theorem ZDW  : ZbR (.any)=4:=rfl
theorem Zyq (k:IntKind) (n:Int):ZbR (.int k n)=0:=rfl
theorem ZNb (b:Bool):ZbR (.bool b)=1:=rfl
theorem ZMH (l:List UInt8):ZbR (.str l)=2:=rfl
theorem Zzc  : ZbR (.nilp)=4:=rfl
theorem ZJm (t:Nat) (o:Nat):ZbR (.ref t o)=4:=rfl
theorem ZEf (t:Nat) (g:Nat) (i:Nat) (o:Nat):ZbR (.eref t g i o)=4:=rfl
theorem ZN6 (cs:List AVal) (o:Nat):ZbR (.iptr cs o)=4:=rfl
theorem ZBE (x:Bool) (xs:List AVal):ZbR (.lst x xs)=4:=rfl
theorem ZOT (t:Nat) (g:Nat) (lo:Nat) (n:Nat):ZbR (.sl t g lo n)=4:=rfl
theorem ZHr (cs:List AVal):ZbR (.agg cs)=4:=rfl
theorem ZDI (vs:List AVal):ZbR (.tup vs)=4:=rfl
theorem ZGN (f:Nat) (caps:List AVal):ZbR (.fn f caps)=4:=rfl
theorem ZFp  : ZbR (.nilm)=4:=rfl
theorem ZAh (t:Nat):ZbR (.map t)=4:=rfl
theorem ZwX  : ZbR (.nili)=4:=rfl
theorem ZLx (t:Nat) (x:AVal):ZbR (.iface t x)=4:=rfl
theorem Zy3 (x:AVal):ZbR (.pan x)=4:=rfl
theorem ZIC  : ZS (.top)=[]:=rfl
theorem ZwR  : ZS (.any)=[]:=rfl
theorem ZAC (k:IntKind) (n:Int):ZS (.int k n)=[]:=rfl
theorem ZJ5 (b:Bool):ZS (.bool b)=[]:=rfl
theorem ZFa (l:List UInt8):ZS (.str l)=[]:=rfl
theorem ZLq  : ZS (.nilp)=[]:=rfl
theorem ZK0 (t:Nat) (o:Nat):ZS (.ref t o)=[t]:=rfl
theorem ZIf (t:Nat) (g:Nat) (i:Nat) (o:Nat):ZS (.eref t g i o)=[t]:=rfl
theorem ZOG (cs:List AVal) (o:Nat):ZS (.iptr cs o)=[]:=rfl
theorem Zzm (x:Bool) (xs:List AVal):ZS (.lst x xs)=[]:=rfl
theorem ZAy (t:Nat) (g:Nat) (lo:Nat) (n:Nat):ZS (.sl t g lo n)=[t]:=rfl
theorem ZyH (cs:List AVal):ZS (.agg cs)=Zp cs:=rfl
theorem ZzF (vs:List AVal):ZS (.tup vs)=Zp vs:=rfl
theorem ZCC (f:Nat) (caps:List AVal):ZS (.fn f caps)=Zp caps:=rfl
theorem ZEl  : ZS (.nilm)=[]:=rfl
theorem ZFL (t:Nat):ZS (.map t)=[t]:=rfl
theorem ZMt  : ZS (.nili)=[]:=rfl
theorem ZHa (t:Nat) (x:AVal):ZS (.iface t x)=ZS x:=rfl
theorem Zxn (x:AVal):ZS (.pan x)=ZS x:=rfl
theorem ZPy  : Zm ρ (.top)=(.top):=rfl
theorem ZFV  : Zm ρ (.any)=(.any):=rfl
theorem ZEs (k:IntKind) (n:Int):Zm ρ (.int k n)=(.int k n):=rfl
theorem ZzW (b:Bool):Zm ρ (.bool b)=(.bool b):=rfl
theorem ZAt (l:List UInt8):Zm ρ (.str l)=(.str l):=rfl
theorem ZEt  : Zm ρ (.nilp)=(.nilp):=rfl
theorem ZF5 (cs:List AVal) (o:Nat):Zm ρ (.iptr cs o)=(.iptr cs o):=rfl
theorem Zz0 (x:Bool) (xs:List AVal):Zm ρ (.lst x xs)=(.lst x xs):=rfl
theorem ZGJ (cs:List AVal):Zm ρ (.agg cs)=.agg (Zf ρ cs):=rfl
theorem ZHu (vs:List AVal):Zm ρ (.tup vs)=.tup (Zf ρ vs):=rfl
theorem Zyx (f:Nat) (caps:List AVal):Zm ρ (.fn f caps)=.fn f (Zf ρ caps):=rfl
theorem ZKl  : Zm ρ (.nilm)=(.nilm):=rfl
theorem ZAP  : Zm ρ (.nili)=(.nili):=rfl
theorem ZEr (t:Nat) (x:AVal):Zm ρ (.iface t x)=.iface t (Zm ρ x):=rfl
theorem Zy2 (x:AVal):Zm ρ (.pan x)=.pan (Zm ρ x):=rfl
theorem ZKx (f:Nat):Za8 (.fn f [])=true:=rfl
theorem Zx0 (f:Nat):Zak (.fn f [])=true:=rfl
theorem ZHz (t:Nat) (x:AVal):Zbx (.pan (.iface t x))=ZaV x:=rfl
theorem ZF2 (live:List Nat) (tm:Tms):Zk7 live (some (tm,σ,none))=some (.normal,keepL live tm,σ):=rfl
theorem ZzB (live:List Nat) (tm:Tms) (x:AVal):Zk7 live (some (tm,σ,some x))=some (.panic x,[],σ):=rfl
theorem ZJM (live:List Nat):Zk7 live none=none:=rfl
theorem ZNH (t o:Nat):Zm ρ (.ref t o)=(match ρ t 0 with | some (t',0)=>.ref t' o | _=>.any):=rfl
theorem ZCc (t:Nat):Zm ρ (.map t)=(match ρ t 0 with | some (t',0)=>.map t' | _=>.any):=rfl
theorem ZOS (t g lo n:Nat):Zm ρ (.sl t g lo n)=(match ρ t g with | some (t',g')=>.sl t' g' lo n | none=>.any):=rfl
theorem ZJi (t g i o:Nat):Zm ρ (.eref t g i o)=(match ρ t g with | some (t',g')=>.eref t' g' i o | none=>.any):=rfl
theorem ZzZ:Zp []=[]:=rfl
theorem ZL0 (x:AVal) (xs:List AVal):Zp (x::xs)=ZS x++Zp xs:=rfl
theorem ZMf:Zf ρ []=[]:=rfl
theorem ZB1 (x:AVal) (xs:List AVal):Zf ρ (x::xs)=Zm ρ x::Zf ρ xs:=rfl
end
end
section
mutual
def ZQ:AVal->Bool
 | .ref _ _=>false
 | .eref _ _ _ _=>false
 | .sl _ _ _ _=>false
 | .map _=>false
 | .agg cs=>Zd cs
 | .tup vs=>Zd vs
 | .fn _ vs=>Zd vs
 | .iface _ x=>ZQ x
 | .pan x=>ZQ x
 | .top=>true
 | .any=>true
 | .int _ _=>true
 | .bool _=>true
 | .str _=>true
 | .nilp=>true
 | .nilm=>true
 | .nili=>true
 | .iptr _ _=>true
 | .lst _ _=>true
def Zd:List AVal->Bool
 | []=>true
 | x::xs=>ZQ x && Zd xs
end
mutual
theorem Za7 (ρ:Rho):∀ (x:AVal),ZQ x=true->Zm ρ x=x/\ZS x=[]
 | .ref _ _,h=>by simp [ZQ] at h
 | .eref _ _ _ _,h=>by simp [ZQ] at h
 | .sl _ _ _ _,h=>by simp [ZQ] at h
 | .map _,h=>by simp [ZQ] at h
 | .agg cs,h=>by have:=ZaW ρ cs (by simpa only [ZQ] using h);exact ⟨by simp only [Zm,this.1],by simp only [ZS,this.2]⟩
 | .tup cs,h=>by have:=ZaW ρ cs (by simpa only [ZQ] using h);exact ⟨by simp only [Zm,this.1],by simp only [ZS,this.2]⟩
 | .fn f cs,h=>by have:=ZaW ρ cs (by simpa only [ZQ] using h);exact ⟨by simp only [Zm,this.1],by simp only [ZS,this.2]⟩
 | .iface t x,h=>by have:=Za7 ρ x (by simpa only [ZQ] using h);exact ⟨by simp only [Zm,this.1],by simp only [ZS,this.2]⟩
 | .pan x,h=>by have:=Za7 ρ x (by simpa only [ZQ] using h);exact ⟨by simp only [Zm,this.1],by simp only [ZS,this.2]⟩
 | .top,_=>⟨rfl,rfl⟩
 | .any,_=>⟨rfl,rfl⟩
 | .int _ _,_=>⟨rfl,rfl⟩
 | .bool _,_=>⟨rfl,rfl⟩
 | .str _,_=>⟨rfl,rfl⟩
 | .nilp,_=>⟨rfl,rfl⟩
 | .nilm,_=>⟨rfl,rfl⟩
 | .nili,_=>⟨rfl,rfl⟩
 | .iptr _ _,_=>⟨rfl,rfl⟩
 | .lst _ _,_=>⟨rfl,rfl⟩
theorem ZaW (ρ:Rho):∀ (xs:List AVal),Zd xs=true->Zf ρ xs=xs/\Zp xs=[]
 | [],_=>⟨rfl,rfl⟩
 | x::xs,h=>by
  simp only [Zd,Bool.and_eq_true] at h
  have h1:=Za7 ρ x h.1
  have h2:=ZaW ρ xs h.2
  exact ⟨by simp only [Zf,h1.1,h2.1],by simp only [Zp,h1.2,h2.2,List.append_nil]⟩
end
theorem ZrD {σ:Za} {r:AVal} (h:ZQ r=true):Z6 0 σ r=some (r,[]):=by
 have h1:=Za7 (Zj σ 0 []) r h
 have hids:Zv 0 [r] σ=[]:=by
  unfold Zv
  simp only [Zp,h1.2,List.append_nil,List.range_zero,List.flatMap_nil]
  rfl
 unfold Z6 gcA
 simp only [hids,Zf,Zr,h1.1]
def Zcb:AVal->AVal
 | .tup vs=>.tup (vs.map ZM)
 | x=>ZM x
def Zb7:AVal->Bool
 | .tup vs=>vs.all Zak
 | x=>Zak x
def ZbN:AVal->Bool
 | .fn _ _=>false
 | _=>true
def ZbU:AVal->Bool
 | .agg cs=>cs.all ZbN
 | x=>ZbN x
def Zca:AVal->Bool
 | .tup vs=>vs.all ZbU
 | x=>ZbU x
theorem Zv9 {k g n:Nat} {xs:List AVal} {σ:Za} {t:Nat} (hs:σ[t]?=some (.row g k xs)) (hn:n<=xs.length):Zbs 0 (some (.sl t g 0 n,σ))=some (.lst false (xs.take n),[]):=by
 have hv:viewR σ (.sl t g 0 n)=some (.lst false (xs.take n),[t]):=by
  simp only [viewR,ZP,ZL,ZY,hs,Nat.zero_add,hn,and_self,if_true,List.drop_zero]
 have e:Zbs 0 (some (.sl t g 0 n,σ))=(match viewR σ (.sl t g 0 n) with
  | some (r',ts)=>match gcA 0 [r'] (Zq σ ts) with
   | ([r''],σ')=>some (r'',σ')
   | _=>none
  | none=>none):=rfl
 rw [e,hv]
 exact ZrD rfl
theorem ZHj {m:Nat} {fn:ZG} {tm:Tms} {σ:Za}:Zan m fn (some (.ret,tm,σ))=match resA tm σ fn.res with
  | some r=>Z6 m σ r
  | none=>none:=rfl
theorem ZOE {m:Nat} {fn:ZG} {tm:Tms} {σ:Za}:Zan m fn (some (.normal,tm,σ))=match resA tm σ fn.res with
  | some r=>Z6 m σ r
  | none=>none:=rfl
theorem Zyb {m:Nat} {fn:ZG} {tm:Tms} {σ:Za} {x:AVal}:Zan m fn (some (.panic x,tm,σ))=Z6 m σ (.pan x):=rfl
theorem ZC7  : ZQ (.top)=true:=rfl
theorem ZD0  : ZQ (.any)=true:=rfl
theorem ZIO (k:IntKind) (n:Int):ZQ (.int k n)=true:=rfl
theorem ZDH (b:Bool):ZQ (.bool b)=true:=rfl
theorem ZDA (l:List UInt8):ZQ (.str l)=true:=rfl
theorem ZHX  : ZQ (.nilp)=true:=rfl
theorem Zxd (t:Nat) (o:Nat):ZQ (.ref t o)=false:=rfl
theorem Zw0 (t:Nat) (g:Nat) (i:Nat) (o:Nat):ZQ (.eref t g i o)=false:=rfl
theorem ZPw (cs:List AVal) (o:Nat):ZQ (.iptr cs o)=true:=rfl
theorem ZNW (x:Bool) (xs:List AVal):ZQ (.lst x xs)=true:=rfl
theorem ZOw (t:Nat) (g:Nat) (lo:Nat) (n:Nat):ZQ (.sl t g lo n)=false:=rfl
theorem Zzn (cs:List AVal):ZQ (.agg cs)=Zd cs:=rfl
theorem ZDF (vs:List AVal):ZQ (.tup vs)=Zd vs:=rfl
theorem ZwQ (f:Nat) (caps:List AVal):ZQ (.fn f caps)=Zd caps:=rfl
theorem ZOM  : ZQ (.nilm)=true:=rfl
theorem ZHK (t:Nat):ZQ (.map t)=false:=rfl
theorem ZzR  : ZQ (.nili)=true:=rfl
theorem ZA8 (t:Nat) (x:AVal):ZQ (.iface t x)=ZQ x:=rfl
theorem ZFO (x:AVal):ZQ (.pan x)=ZQ x:=rfl
theorem ZC6  : ZbN (.top)=true:=rfl
theorem ZNf  : ZbN (.any)=true:=rfl
theorem ZKS (k:IntKind) (n:Int):ZbN (.int k n)=true:=rfl
theorem ZGT (b:Bool):ZbN (.bool b)=true:=rfl
theorem ZHc (l:List UInt8):ZbN (.str l)=true:=rfl
theorem ZK3  : ZbN (.nilp)=true:=rfl
theorem ZJo (t:Nat) (o:Nat):ZbN (.ref t o)=true:=rfl
theorem ZLY (t:Nat) (g:Nat) (i:Nat) (o:Nat):ZbN (.eref t g i o)=true:=rfl
theorem ZzV (cs:List AVal) (o:Nat):ZbN (.iptr cs o)=true:=rfl
theorem ZyY (x:Bool) (xs:List AVal):ZbN (.lst x xs)=true:=rfl
theorem ZKr (t:Nat) (g:Nat) (lo:Nat) (n:Nat):ZbN (.sl t g lo n)=true:=rfl
theorem ZAM (cs:List AVal):ZbN (.agg cs)=true:=rfl
theorem ZMu (vs:List AVal):ZbN (.tup vs)=true:=rfl
theorem ZwY (f:Nat) (caps:List AVal):ZbN (.fn f caps)=false:=rfl
theorem ZxM  : ZbN (.nilm)=true:=rfl
theorem ZKz (t:Nat):ZbN (.map t)=true:=rfl
theorem ZI0  : ZbN (.nili)=true:=rfl
theorem ZBd (t:Nat) (x:AVal):ZbN (.iface t x)=true:=rfl
theorem ZwP (x:AVal):ZbN (.pan x)=true:=rfl
theorem ZJH  : ZbU (.top)=true:=rfl
theorem ZJc  : ZbU (.any)=true:=rfl
theorem ZFv (k:IntKind) (n:Int):ZbU (.int k n)=true:=rfl
theorem ZGo (b:Bool):ZbU (.bool b)=true:=rfl
theorem ZCd (l:List UInt8):ZbU (.str l)=true:=rfl
theorem ZxR  : ZbU (.nilp)=true:=rfl
theorem Zzj (t:Nat) (o:Nat):ZbU (.ref t o)=true:=rfl
theorem ZCL (t:Nat) (g:Nat) (i:Nat) (o:Nat):ZbU (.eref t g i o)=true:=rfl
theorem ZAY (cs:List AVal) (o:Nat):ZbU (.iptr cs o)=true:=rfl
theorem ZOd (x:Bool) (xs:List AVal):ZbU (.lst x xs)=true:=rfl
theorem ZKq (t:Nat) (g:Nat) (lo:Nat) (n:Nat):ZbU (.sl t g lo n)=true:=rfl
theorem ZN7 (cs:List AVal):ZbU (.agg cs)=cs.all ZbN:=rfl
theorem ZDo (vs:List AVal):ZbU (.tup vs)=true:=rfl
theorem ZMi (f:Nat) (caps:List AVal):ZbU (.fn f caps)=false:=rfl
theorem ZNd  : ZbU (.nilm)=true:=rfl
theorem ZIA (t:Nat):ZbU (.map t)=true:=rfl
theorem ZMS  : ZbU (.nili)=true:=rfl
theorem ZK8 (t:Nat) (x:AVal):ZbU (.iface t x)=true:=rfl
theorem ZIX (x:AVal):ZbU (.pan x)=true:=rfl
theorem ZA4  : Zca (.top)=true:=rfl
theorem ZC9  : Zca (.any)=true:=rfl
theorem ZO5 (k:IntKind) (n:Int):Zca (.int k n)=true:=rfl
theorem ZEy (b:Bool):Zca (.bool b)=true:=rfl
theorem ZEx (l:List UInt8):Zca (.str l)=true:=rfl
theorem ZEp  : Zca (.nilp)=true:=rfl
theorem Zw8 (t:Nat) (o:Nat):Zca (.ref t o)=true:=rfl
theorem ZxW (t:Nat) (g:Nat) (i:Nat) (o:Nat):Zca (.eref t g i o)=true:=rfl
theorem ZCw (cs:List AVal) (o:Nat):Zca (.iptr cs o)=true:=rfl
theorem ZPn (x:Bool) (xs:List AVal):Zca (.lst x xs)=true:=rfl
theorem ZJj (t:Nat) (g:Nat) (lo:Nat) (n:Nat):Zca (.sl t g lo n)=true:=rfl
theorem ZKV (cs:List AVal):Zca (.agg cs)=cs.all ZbN:=rfl
theorem ZN2 (vs:List AVal):Zca (.tup vs)=vs.all ZbU:=rfl
theorem ZGj (f:Nat) (caps:List AVal):Zca (.fn f caps)=false:=rfl
theorem ZIN  : Zca (.nilm)=true:=rfl
theorem ZzD (t:Nat):Zca (.map t)=true:=rfl
theorem ZJV  : Zca (.nili)=true:=rfl
theorem ZAz (t:Nat) (x:AVal):Zca (.iface t x)=true:=rfl
theorem ZJv (x:AVal):Zca (.pan x)=true:=rfl
theorem Zyz  : Zb7 (.top)=false:=rfl
theorem ZGi  : Zb7 (.any)=false:=rfl
theorem ZF1 (k:IntKind) (n:Int):Zb7 (.int k n)=true:=rfl
theorem ZI8 (b:Bool):Zb7 (.bool b)=true:=rfl
theorem ZOv (l:List UInt8):Zb7 (.str l)=true:=rfl
theorem ZLT  : Zb7 (.nilp)=true:=rfl
theorem Zzf (t:Nat) (o:Nat):Zb7 (.ref t o)=false:=rfl
theorem ZxJ (t:Nat) (g:Nat) (i:Nat) (o:Nat):Zb7 (.eref t g i o)=false:=rfl
theorem ZNe (cs:List AVal) (o:Nat):Zb7 (.iptr cs o)=false:=rfl
theorem ZKw (x:Bool) (xs:List AVal):Zb7 (.lst x xs)=true:=rfl
theorem ZLI (t:Nat) (g:Nat) (lo:Nat) (n:Nat):Zb7 (.sl t g lo n)=false:=rfl
theorem ZHU (cs:List AVal):Zb7 (.agg cs)=cs.all Za8:=rfl
theorem ZCa (vs:List AVal):Zb7 (.tup vs)=vs.all Zak:=rfl
theorem ZDk  : Zb7 (.nilm)=true:=rfl
theorem ZOu (t:Nat):Zb7 (.map t)=false:=rfl
theorem ZLQ  : Zb7 (.nili)=true:=rfl
theorem ZKf (t:Nat) (x:AVal):Zb7 (.iface t x)=false:=rfl
theorem ZEu (x:AVal):Zb7 (.pan x)=false:=rfl
theorem ZHm  : Zcb (.top)=(.top):=rfl
theorem ZD6  : Zcb (.any)=(.any):=rfl
theorem ZyF (k:IntKind) (n:Int):Zcb (.int k n)=(.int k n):=rfl
theorem ZxB (b:Bool):Zcb (.bool b)=(.bool b):=rfl
theorem ZON (l:List UInt8):Zcb (.str l)=(.str l):=rfl
theorem ZKc  : Zcb (.nilp)=(.nilp):=rfl
theorem ZDm (t:Nat) (o:Nat):Zcb (.ref t o)=(.ref t o):=rfl
theorem ZFc (t:Nat) (g:Nat) (i:Nat) (o:Nat):Zcb (.eref t g i o)=(.eref t g i o):=rfl
theorem Zy0 (cs:List AVal) (o:Nat):Zcb (.iptr cs o)=(.iptr cs o):=rfl
theorem ZCW (x:Bool) (xs:List AVal):Zcb (.lst x xs)=.lst false xs:=rfl
theorem ZJN (t:Nat) (g:Nat) (lo:Nat) (n:Nat):Zcb (.sl t g lo n)=(.sl t g lo n):=rfl
theorem ZAc (cs:List AVal):Zcb (.agg cs)=.agg (cs.map Za9):=rfl
theorem ZBA (vs:List AVal):Zcb (.tup vs)=.tup (vs.map ZM):=rfl
theorem ZLV (f:Nat) (caps:List AVal):Zcb (.fn f caps)=(.fn f caps):=rfl
theorem ZCF  : Zcb (.nilm)=(.nilm):=rfl
theorem ZDr (t:Nat):Zcb (.map t)=(.map t):=rfl
theorem ZMc  : Zcb (.nili)=(.nili):=rfl
theorem ZLv (t:Nat) (x:AVal):Zcb (.iface t x)=(.iface t x):=rfl
theorem ZMe (x:AVal):Zcb (.pan x)=(.pan x):=rfl
theorem ZOk:Zd []=true:=rfl
theorem ZHS (x:AVal) (xs:List AVal):Zd (x::xs)=(ZQ x && Zd xs):=rfl
theorem Zx9 (f:Nat):Zb7 (.fn f [])=true:=rfl
theorem ZMx (p q:Bool):(if p=true then q else false)=(p && q):=by cases p <;> rfl
theorem ZCb (p q:Bool):(if p=true then true else q)=(p || q):=by cases p <;> rfl
theorem Zye (p q:Bool):(if p=true then false else q)=(!p && q):=by cases p <;> rfl
theorem ZBK (p q:Bool):(if p=true then q else true)=(!p || q):=by cases p <;> rfl
theorem ZNh (p q:Bool):(if p=false then q else false)=(!p && q):=by cases p <;> rfl
theorem ZAI (p q:Bool):(if p=false then true else q)=(!p || q):=by cases p <;> rfl
theorem ZwS (p q:Bool):(if p=false then false else q)=(p && q):=by cases p <;> rfl
theorem ZCR (p q:Bool):(if p=false then q else true)=(p || q):=by cases p <;> rfl
section
def ZeY (o:AOp):AOp:=⟨o.dst,o.ins,o.guard,[]⟩
def ZcJ:Ze->Ze
 | .region ops chk live=>.region (ops.map ZeY) chk live
 | .seq a b=>.seq (ZcJ a) (ZcJ b)
 | .cond c a b=>.cond c (ZcJ a) (ZcJ b)
 | .block id c=>.block id (ZcJ c)
 | .loop live c=>.loop live (ZcJ c)
 | .skip=>.skip
 | .exit id=>.exit id
 | .ret=>.ret
 | .stuck=>.stuck
def ZlO (f:ZG):ZG:=⟨f.res,ZcJ f.body⟩
section
variable {O:ZU} {bf:Nat->Bool}
theorem Zxy (o:AOp) (s:Nat) (tm:Tms) (σ:Za):ZR O bf (ZeY o) s tm σ=ZR O bf o s tm σ:=rfl
theorem Ztl:∀ (ops:List AOp) (s:Nat) (tm:Tms) (σ:Za),Z3 O bf (ops.map ZeY) s tm σ=Z3 O bf ops s tm σ
 | [],_,_,_=>rfl
 | o::os,s,tm,σ=>by
  simp only [List.map_cons,Z3,Zxy]
  split
  ·rfl
  ·rfl
  ·rename_i tm' σ' c _ _
   rw [show (ZeY o).ins=o.ins from rfl,Ztl os]
theorem Zov (ops:List AOp):sitesOf (ops.map ZeY)=sitesOf ops:=by
 simp [sitesOf,ZeY,Function.comp_def]
theorem ZmE (ops:List AOp) (i:Nat):((ops.map ZeY).getD i default).ins=(ops.getD i default).ins:=by
 simp only [List.getD_eq_getElem?_getD,List.getElem?_map]
 cases ops[i]? <;> rfl
theorem ZDL (ops:List AOp) (b:Nat) (l:List (Nat×Nat)) (cs:List Cls):Zdm (ops.map ZeY) b l cs=Zdm ops b l cs:=by
 unfold Zdm
 congr 1
 funext p
 unfold Zco Zcd
 rw [ZmE,ZmE,<-List.map_take,Zov]
theorem Zyg (ops:List AOp) (b:Nat) (l:List (Nat×Nat)) (cs:List Cls):Zdy (ops.map ZeY) b l cs=Zdy ops b l cs:=by
 unfold Zdy
 congr 2
 funext p
 unfold Zco Zcd
 rw [ZmE,ZmE,<-List.map_take,Zov]
theorem ZJT (ops:List AOp) (chk:Option (List (Nat×Nat))) (live:List Nat) (tm:Tms) (σ:Za):ZbX O bf (ops.map ZeY) chk live tm σ=ZbX O bf ops chk live tm σ:=by
 unfold ZbX
 rw [Ztl,Zov]
 cases Z3 O bf ops σ.length tm (σ++List.replicate (sitesOf ops) .free) with
 | none=>rfl
 | some q =>
  obtain ⟨tm',σ',cs,p⟩:=q
  cases p with
  | some x =>
   cases chk with
   | none=>rfl
   | some l=>simp only [ZcT,Zyg]
  | none =>
   cases chk with
   | none=>rfl
   | some l=>simp only [ZcT,ZDL]
theorem Zd4 (m n:Nat):∀ (c:Ze),Z9 O bf m n (ZcJ c)=Z9 O bf m n c
 | .region ops chk live=>by funext tm σ;simp only [ZcJ,Z9,ZJT]
 | .seq a b=>by funext tm σ;simp only [ZcJ,Z9,Zd4 m n a,Zd4 m n b]
 | .cond c a b=>by funext tm σ;simp only [ZcJ,Z9,Zd4 m n a,Zd4 m n b]
 | .block id c=>by funext tm σ;simp only [ZcJ,Z9,Zd4 m n c]
 | .loop live c=>by funext tm σ;simp only [ZcJ,Z9,Zd4 m n c]
 | .skip=>rfl
 | .exit id=>rfl
 | .ret=>rfl
 | .stuck=>rfl
end
theorem Zps (fs:Nat->Option ZG) (prim:Zcm) (bf:Nat->Bool):∀ n,Zau (fun f=>(fs f).map ZlO) prim bf n=Zau fs prim bf n
 | 0=>rfl
 | n+1=>by
  funext f args σ
  simp only [Zau,Zps fs prim bf n]
  cases prim f with
  | some g=>rfl
  | none =>
   cases fs f with
   | none=>rfl
   | some fn =>
    simp only [Option.map_some,ZlO,Zd4]
    rfl
theorem ZBM (fs:Nat->Option ZG) (prim:Zcm) (bf:Nat->Bool):EV (fun f=>(fs f).map ZlO) prim bf=EV fs prim bf:=by
 funext f args σ
 apply ZfE
 intro r
 rw [ZcO,ZcO]
 simp only [Zps]
end
end
section
open Go.RowKit
def ZiH:List AVal->Za->Option (AVal×Za):=fun _ _=>none
theorem ZtH {α:Prop} {args:List AVal} {σ:Za} {r:AVal×Za} (h:ZiH args σ=some r):α:=by cases h
def ZeI (k bytes:Nat) (args:List AVal) (σ:Za):Option (AVal×Za):=match args with
 | [.str _]=>none
 | [a]=>match ZY σ a with
  | some (xs,_)=>if xs.length*bytes<=140737488355328/\kOk k xs=true then some (.sl σ.length 0 0 xs.length,σ++[.row 0 k xs]) else none
  | none=>none
 | _=>none
def Ze5:Ann:={ nt:=8,lr:=fun _=>[7,6,5,4,3,2,0] }
structure Zoo (P:Program) (t:TypeId) (k bytes:Nat) (z:AVal) (f:FuncId):Prop where
 ex:∃ (F:Func) (e:TypeId) (i0 i1 i2 i3:Nat) (r0 r2 r3:Array Oper) (m b:Oper),
  P.funcs[f]?=some F/\F.results=#[.tmp 2]/\F.ntmps=8/\(F.name == "runtime.NumGoroutine")=false/\P.underlying t=some (.slice e) /\
  F.body=some (.seq (.region i0 r0 false) (.seq (.seq (.region i1 #[m,b] false) (.cond (.tmp 4) (.seq (.region i2 r2 false) .ret) .skip)) (.seq (.region i3 r3 false) .ret))) /\
  m.op=.move (.tmp 0)/\m.dst=some 3/\m.guard=none/\b.op=.binOp .eql t (.tmp 3) (.const (.slice none 0 0)) t/\b.dst=some 4/\b.guard=none /\
  Zdv P Ze5 r0 r0.toList=some [⟨some 2,.mov (.c (.lst true [])),none,[]⟩] /\
  Zdv P Ze5 r2 r2.toList=some [⟨some 2,.mov (.c (.lst true [])),none,[]⟩] /\
  (∃ a1 a2 a3 a4,Zdv P Ze5 r3 r3.toList=some [⟨some 5,.bslice false k 0 z [],none,a1⟩,⟨some 6,.mov (.t 0),none,a2⟩,⟨some 7,.app k bytes z (.t 5) (.t 6),none,a3⟩,⟨some 2,.mov (.t 7),none,a4⟩])/\z.cells.length=k/\0 < k
section
variable {P:Program} {base:Nat->Prop} {w0 w w':World} {I0 I:Imm} {β:Bmap} {σ:Za}
theorem noO:ZaO P (fun _ _ _=>none):=by intro f args σ r σ' h;cases h
theorem Ze0 {ops:Array Oper} {Q:Exit->Act->World->Prop} {o:Oper} {l:List Oper} {a:Act} {w:World} (hg:o.guard=none) (h:o.wp P a w (wpList P ops Q l) Q):wpList P ops Q (o::l) a w:=by
 unfold wpList
 have : Region.wanted o (yielded ops a.tmps)=true:=by unfold Region.wanted;rw [hg]
 rw [this]
 simp only [if_true]
 exact Or.inl h
theorem Zvt {t : TypeId} {k bytes : Nat} {z : AVal} {f : FuncId} (hm : P.follows .mixedOrders = true) (C : Zoo P t k bytes z f) {args : List AVal} {σ σ' : Za} {r : AVal} (h : ZeI k bytes args σ = some (r, σ')) :
    (∃ fn, P.funcs[f]? = some fn /\ fn.body.isSome = true /\ (fn.name == "runtime.NumGoroutine") = false) /\
    ∀ base w0 I0 I β w (vs : Array Value), KLt base w0 -> Rel base w0 I0 I β σ w -> VRs I β args vs.toList ->
      Calls P f vs w (fun e w' => ∃ u, Ends r e u /\ ZbV σ.length base w0 I0 I β r σ' u w') := by
  obtain ⟨F, e, i0, i1, i2, i3, r0, r2, r3, m, b, hF, hres, hnt, hname, hu, hbody, hm1, hm2, hm3, hb1, hb2, hb3, hc0, hc2, ⟨a1, a2, a3, a4, hc3⟩, hzk, hk0⟩ := C.ex
  refine ⟨⟨F, hF, by rw [hbody]; rfl, hname⟩, ?_⟩
  intro base w0 I0 I β w vs hb R hargs
  unfold ZeI at h
  split at h
  case h_1 => cases h
  case h_3 => cases h
  rename_i a hns
  split at h
  case h_2 => cases h
  rename_i xs ts hel0
  split at h
  case isFalse => cases h
  rename_i hc
  obtain ⟨hbytes, hkOk⟩ := hc
  simp only [Option.some.injEq, Prod.mk.injEq] at h
  obtain ⟨rfl, rfl⟩ := h
  have hnt8 : ∀ (n : Nat), n < 8 -> n < Ze5.nt := fun n h => h
  refine calls_of_wp hF hbody ?_
  have hsz : vs.size = 1 := by have := ZaZ hargs; simpa using this.symm
  have T := ZqI hargs (F.ntmps - vs.size)
  have hst : StR ZbM 8 base w0 I0 I β (enterA 0 [a] []) σ { tmps := vs ++ Array.replicate (F.ntmps - vs.size) undef, defers := [] } w := ⟨I, β, Imm.le.refl I, Bmap.le.refl β, T, ⟨Zfl.2 rfl, by simp; omega⟩, R⟩
  have fin : ∀ {tm : Tms} {σ1 : Za} {y : AVal} {a' : Act} {w1 : World}, StR ZbM 8 base w0 I0 I β tm σ1 a' w1 -> tget tm 2 = y -> (∀ I' β' u, I.le I' -> β.le β' -> Rel base w0 I0 I' β' σ1 w1 -> VR I' β' y u -> ZbV σ.length base w0 I0 I β (.sl σ.length 0 0 xs.length) (σ ++ [.row 0 k xs]) u w1) ->
      a'.defers = [] /\ ∃ v, (results F a'.tmps).run P w1 = .ok v w1 /\ ∃ u, Ends (.sl σ.length 0 0 xs.length) (.returned v) u /\ ZbV σ.length base w0 I0 I β (.sl σ.length 0 0 xs.length) (σ ++ [.row 0 k xs]) u w1 := by
    rintro tm σ1 y a' w1 ⟨I', β', h1, h2, h3, h4, h5⟩ hy hpost
    refine ⟨Zfl.1 h4.1, a'.tmps.getD 2 undef, by simp [results, hres], _, rfl, ?_⟩
    have := h3 2
    rw [hy] at this
    exact hpost I' β' _ h1 h2 h5 this
  have R0 : ZaY P Ze5 (.region i0 r0 false) = .region [⟨some 2, .mov (.c (.lst true [])), none, []⟩] none [7, 6, 5, 4, 3, 2, 0] := by simp only [ZaY]; rw [hc0]; rfl
  have R2 : ZaY P Ze5 (.region i2 r2 false) = .region [⟨some 2, .mov (.c (.lst true [])), none, []⟩] none [7, 6, 5, 4, 3, 2, 0] := by simp only [ZaY]; rw [hc2]; rfl
  have R3 : ZaY P Ze5 (.region i3 r3 false) = .region [⟨some 5, .bslice false k 0 z [], none, a1⟩, ⟨some 6, .mov (.t 0), none, a2⟩, ⟨some 7, .app k bytes z (.t 5) (.t 6), none, a3⟩, ⟨some 2, .mov (.t 7), none, a4⟩] none [7, 6, 5, 4, 3, 2, 0] := by simp only [ZaY]; rw [hc3]; rfl
  refine wp_seq ?_
  refine ZkX (an := Ze5) (dr := ZbM) (bf := fun _ => false) noO (fun n hn => by simp [ZbM] at hn) hm hb R0 hst (e := .normal) (tm' := keepL [7, 6, 5, 4, 3, 2, 0] [(2, .lst true []), (0, a)]) (σ' := σ) ?_ ?_
  . simp [ZbX, ZcT, sitesOf, nsite, Z3, ZR, Zbp, execI, Opd.ev, tput, tins, enterA]
  intro a1' w1 hst1
  simp only [Exit.then]
  refine wp_seq (wp_seq ?_)
  refine wp_region_list ?_
  refine Ze0 hm3 ?_
  obtain ⟨I1, β1, g1, g2, g3, g4, g5⟩ := hst1
  have hs8 : 8 <= a1'.tmps.size := g4.2
  have hT0 : VR I1 β1 a (a1'.tmps.getD 0 undef) := by have := g3 0; simpa [keepL, tget] using this
  obtain ⟨A, cap, hv0, q1, q2, q5, q4⟩ := Zrx g5 (fun l e => hns l e) hel0 hT0
  show m.wp P a1' w1 _ _
  unfold Oper.wp
  have e1 : (execOp a1'.eval m).run P w1 = .ok (.value (.slice A xs.length cap)) w1 := by
    unfold execOp; rw [hm1]; simp [Act.eval, hv0]
  rw [e1, Oper.upon_value, hm2]
  refine Ze0 hb3 ?_
  unfold Oper.wp
  have hs3 : (a1'.put (some 3) (.slice A xs.length cap)).tmps.getD 3 undef = .slice A xs.length cap := by
    have : 3 < a1'.tmps.size := by omega
    simp [Act.put, Array.getD, this]
  have e2 : (execOp (a1'.put (some 3) (.slice A xs.length cap)).eval b).run P w1 = .ok (.value (.bool A.isNone)) w1 := by
    have hq : (Op.equal t (.slice A xs.length cap) (.slice none 0 0)).run P w1 = .ok A.isNone w1 := run_equal_slice_nil w1 t e A xs.length cap hu
    unfold execOp; rw [hb1]
    simp only [Act.eval]
    rw [hs3]
    simp [eqGuard, binOp, hq]
  rw [e2, Oper.upon_value, hb2]
  refine wpList_nil ?_
  have hst2 : StR ZbM 8 base w0 I0 I β [(4, .bool A.isNone), (2, .lst true []), (0, a)] σ ((a1'.put (some 3) (.slice A xs.length cap)).put (some 4) (.bool A.isNone)) w1 := by
    refine ⟨I1, β1, g1, g2, fun n => ?_, ⟨Zkb (Zkb g4.1 (fun n _ hm => by simp [ZbM] at hm)) (fun n _ hm => by simp [ZbM] at hm), by rw [Ze2, Ze2]; exact g4.2⟩, g5⟩
    have hs : 4 < (a1'.put (some 3) (.slice A xs.length cap)).tmps.size := by rw [Ze2]; omega
    have ne : ∀ {a : Act} {d j : Nat} {u : Value}, d ≠ j -> (a.put (some d) u).tmps.getD j undef = a.tmps.getD j undef := by
      intro a d j u hne
      simp only [Act.put, Array.getD_eq_getD_getElem?]; rw [Array.getElem?_setIfInBounds_ne hne]
    simp only [tget]
    split
    . rename_i e; subst e
      rw [show ((a1'.put (some 3) (.slice A xs.length cap)).put (some 4) (.bool A.isNone)).tmps.getD 4 undef = .bool A.isNone by
        simp only [Act.put] at hs ⊢
        simp [Array.getD] at hs ⊢
        omega]
      simp only [VR]
    . split
      . rename_i e; subst e
        rw [ne (by omega), ne (by omega)]
        have := g3 2; simpa [keepL, tget] using this
      . split
        . rename_i e; subst e
          rw [ne (by omega), ne (by omega)]
          have := g3 0; simpa [keepL, tget] using this
        . simp only [VR]
  simp only [Exit.then]
  cases hA : A.isNone with
  | true =>
    have hx0 : xs = [] := by
      rcases q4 with h | ⟨b, off, k', us, e, _⟩
      . exact h
      . rw [e] at hA; cases hA
    subst hx0
    have hev : ((a1'.put (some 3) (.slice A 0 cap)).put (some 4) (.bool A.isNone)).eval (.tmp 4) = .bool true := by
      obtain ⟨_, _, _, _, T, _, _⟩ := hst2
      have := T 4
      simp only [tget, if_true, VR] at this
      rw [hA] at this
      simpa [Act.eval, hA] using this
    refine wp_cond_true (by simpa [hA] using hev) ?_
    refine wp_seq ?_
    rw [hA] at hst2
    refine ZkX (an := Ze5) (dr := ZbM) (bf := fun _ => false) noO (fun n hn => by simp [ZbM] at hn) hm hb R2 hst2 (e := .normal) (tm' := keepL [7, 6, 5, 4, 3, 2, 0] [(4, .bool true), (2, .lst true []), (0, a)]) (σ' := σ) ?_ ?_
    . simp [ZbX, ZcT, sitesOf, nsite, Z3, ZR, Zbp, execI, Opd.ev, tput, tins]
    intro a3' w3 hst3
    simp only [Exit.then]
    refine wp_ret ?_
    refine fin hst3 (y := .lst true []) (by simp [keepL, tget]) ?_
    intro I' β' u h1 h2 h3 h4
    simp only [VR] at h4
    obtain ⟨A', cap', rfl, _, _, hx, _⟩ := h4
    have hcap : cap' = 0 := by simpa using hx
    subst hcap
    have R4 := h3.reserve 1
    have hfree : (σ ++ List.replicate 1 ZN.free)[σ.length]? = some .free := by simp
    obtain ⟨R5, hle⟩ := R4.newNone hfree k hk0
    refine ⟨I', _, h1, KeptE.of_le (h2.trans hle), ?_, ?_⟩
    . have : (σ ++ List.replicate 1 ZN.free).set σ.length (.row 0 k []) = σ ++ [.row 0 k []] := by simp
      rw [this] at R5; exact R5
    . simp only [ZaT]
      rw [Zb6]
      exact ⟨_, Bmap.put_same β' σ.length 0 _, by simp, by simp, Or.inr ⟨rfl, rfl, A', rfl⟩⟩
  | false =>
    have hev : ((a1'.put (some 3) (.slice A xs.length cap)).put (some 4) (.bool A.isNone)).eval (.tmp 4) = .bool false := by
      obtain ⟨_, _, _, _, T, _, _⟩ := hst2
      have := T 4
      simp only [tget, if_true, VR] at this
      rw [hA] at this
      simpa [Act.eval, hA] using this
    refine wp_cond_false (by simpa [hA] using hev) ?_
    refine wp_skip ?_
    rw [hA] at hst2
    simp only [Exit.then]
    refine wp_seq ?_
    have hel : ZY (σ ++ [ZN.free]) a = some (xs, ts) := Zhf hel0 (fun t ht => by
      obtain ⟨g, k, ys, h | h⟩ := Zmz hel0 t ht <;> (rw [List.getElem?_append_left (List.getElem?_eq_some_iff.1 h).1]))
    refine ZkX (an := Ze5) (dr := ZbM) (bf := fun _ => false) noO (fun n hn => by simp [ZbM] at hn) hm hb R3 hst2 (e := .normal) (tm' := keepL [7, 6, 5, 4, 3, 2, 0] [(7, .sl σ.length 0 0 xs.length), (6, a), (5, .lst true []), (4, .bool false), (2, .sl σ.length 0 0 xs.length), (0, a)]) (σ' := σ ++ [.row 0 k xs]) ?_ ?_
    . have hfa : freeAt (σ ++ [ZN.free]) σ.length = true := by simp [freeAt]
      have hnp : (∃ x ys, a = .lst x ys) \/ ∃ t g lo n, a = .sl t g lo n := by
        cases a with
        | lst x ys => exact Or.inl ⟨x, ys, rfl⟩
        | sl t g lo n => exact Or.inr ⟨t, g, lo, n, rfl⟩
        | str l => exact absurd rfl (hns l)
        | _ => simp [ZY] at hel0
      rcases hnp with ⟨x, ys, rfl⟩ | ⟨t', g', lo, n, rfl⟩
      . simp [ZbX, ZcT, sitesOf, nsite, Z3, ZR, Zbp, execI, Opd.ev, tput, tins, tget, viewAs, Zq, hzk, Zaz, hel, hkOk, hbytes, hfa]
      . simp [ZbX, ZcT, sitesOf, nsite, Z3, ZR, Zbp, execI, Opd.ev, tput, tins, tget, viewAs, Zq, hzk, Zaz, hel, hkOk, hbytes, hfa]
    intro a3' w3 hst3
    simp only [Exit.then]
    refine wp_ret ?_
    refine fin hst3 (y := .sl σ.length 0 0 xs.length) (by simp [keepL, tget]) ?_
    intro I' β' u h1 h2 h3 h4
    exact ⟨I', β', h1, KeptE.of_le h2, h3, h4⟩
end
end
section
open Go.RowKit
def ZpR (args:List AVal) (σ:Za):Option (AVal×Za):=match args with
 | [.str l]=>some (.bool (Lib.validD l),σ)
 | _=>none
section
variable {P:Program} {base:Nat->Prop} {w0 w w':World} {I0 I:Imm} {β:Bmap} {σ:Za}
theorem ZHN {f:Nat} (hf:∃ fn,P.funcs[f]?=some fn/\fn.body.isSome=true/\(fn.name == "runtime.NumGoroutine")=false) {args:List AVal} {r:AVal} {u:Value} (hn:∀ x,r≠.pan x) (hr:∀ I β,VR I β r u)
  (h:∀ base w0 I0 I β w (vs:Array Value),Rel base w0 I0 I β σ w->VRs I β args vs.toList->Calls P f vs w (fun e w'=>e=.returned u/\Below w.heap.size w w')) :
  (∃ fn,P.funcs[f]?=some fn/\fn.body.isSome=true/\(fn.name == "runtime.NumGoroutine")=false) /\
  ∀ base w0 I0 I β w (vs:Array Value),KLt base w0->Rel base w0 I0 I β σ w->VRs I β args vs.toList ->
   Calls P f vs w (fun e w'=>∃ u,Ends r e u/\ZbV σ.length base w0 I0 I β r σ u w'):=by
 refine ⟨hf,fun base w0 I0 I β w vs hb R hv=>(h base w0 I0 I β w vs R hv).mono ?_⟩
 rintro e w' ⟨rfl,hB⟩
 have hbw:=R.base_le hb
 refine ⟨u,?_,I,β,Imm.le.refl I,KeptE.refl _ β,R.stay (Imm.le.refl I) ⟨hB.os,hB.tape,hB.output,hB.size,fun k hk=>hB.block k (hbw k hk)⟩ (fun _ _ _=>rfl) ?_ ?_,by rw [ZfP hn];exact hr I β⟩
 ·cases r <;> first | rfl | exact absurd rfl (hn _)
 ·intro b o x hx
  have h1:=R.imm b o x hx
  have hlt:=Zec h1
  rw [<-h1]
  simp only [World.cell?,hB.block b hlt]
 ·intro t x b hx hb'
  exact ⟨hB.block b ((R.blk t x hx).owns_lt hb'),(R.own t x b hx hb').2⟩
theorem ZDB (R:Rel base w0 I0 I β σ w):Lib.Utf8Tabs 0 1 w:=by
 refine ⟨fun c hc=>R.imm _ _ _ (R.glob _ _ _ (by simp [Gl,hc])),fun i hi=>⟨R.imm _ _ _ (R.glob _ _ _ ?_),R.imm _ _ _ (R.glob _ _ _ ?_)⟩⟩
 ·have h1:2*i < 32:=by omega
  have h2:2*i % 2=0:=by omega
  have h3:2*i / 2=i:=by omega
  simp [Gl,h1,h3]
 ·have h1:2*i+1 < 32:=by omega
  have h2:(2*i+1) % 2=1:=by omega
  have h3:(2*i+1) / 2=i:=by omega
  simp [Gl,h1,h2,h3]
theorem ZHq {f:Nat} (hf:∃ fn,P.funcs[f]?=some fn/\fn.body.isSome=true/\(fn.name == "runtime.NumGoroutine")=false)
  (hc:∀ (s:ByteArray) (w:World),s.size<=9223372036854775807->Lib.Utf8Tabs 0 1 w->Calls P f #[.string s] w fun e w'=>e=.returned (.bool (Lib.validD s.data.toList))/\Below w.heap.size w w') {args:List AVal} {σ σ':Za} {r:AVal} (h:ZpR args σ=some (r,σ')) :
  (∃ fn,P.funcs[f]?=some fn/\fn.body.isSome=true/\(fn.name == "runtime.NumGoroutine")=false) /\
  ∀ base w0 I0 I β w (vs:Array Value),KLt base w0->Rel base w0 I0 I β σ w->VRs I β args vs.toList ->
   Calls P f vs w (fun e w'=>∃ u,Ends r e u/\ZbV σ.length base w0 I0 I β r σ' u w'):=by
 unfold ZpR at h
 split at h
 case h_2=>cases h
 rename_i l
 simp only [Option.some.injEq,Prod.mk.injEq] at h
 obtain ⟨rfl,rfl⟩:=h
 refine ZHN hf (u:=.bool (Lib.validD l)) (by simp) (fun _ _=>by simp only [VR]) ?_
 intro base w0 I0 I β w vs R hv
 obtain ⟨vs⟩:=vs
 simp only [VRs,VR] at hv
 obtain ⟨v1,r1,e1,⟨rfl,hl⟩,rfl⟩:=hv
 subst e1
 refine (hc ⟨l.toArray⟩ w (by simpa [ByteArray.size] using hl) (ZDB R)).mono ?_
 rintro e w' ⟨rfl,hB⟩
 exact ⟨by simp,hB⟩
end
end
section
def Ze9 {α:Type} (d:α):List (Nat×α)->Nat->α
 | [],_=>d
 | (k,v)::r,n=>if k=n then v else Ze9 d r n
def Zs (own raw:List Nat) (cfg cfg2:List (Nat×Nat×Bool)) (lr ll:List (Nat×List Nat)):Ann:={ own:=fun n=>if own.contains n then 1 else if raw.contains n then 2 else 0,cfg:=Ze9 (0,true) cfg,cfg2:=Ze9 (0,true) cfg2,lr:=Ze9 [] lr,ll:=Ze9 [] ll }
def Zw1:List (Nat×Ann):=[
 (80,Zs [] [] [] [] [(0,[0]),(1,[2])] []),
 (68,Zs [] [] [] [] [(0,[0]),(1,[5,4,3,0]),(2,[4,3,0]),(3,[3]),(4,[2])] []),
 (70,Zs [] [] [] [] [(0,[1,0]),(1,[4])] []),
 (107,Zs [] [] [] [] [(0,[1,0]),(1,[18,1,0]),(2,[]),(3,[4]),(4,[5,1,0]),(5,[5]),(6,[4])] []),
 (71,Zs [] [] [] [] [(0,[0]),(1,[5,4,3,0]),(2,[4,3,0]),(3,[3]),(4,[2])] []),
 (69,Zs [] [] [] [] [(0,[0]),(1,[4]),(2,[3,2])] []),
 (61,Zs [] [] [] [] [(0,[2,0]),(1,[3,2,0]),(2,[3,2,0]),(3,[3,2,0]),(4,[3,2,0]),(5,[3,2,0]),(6,[6,5,4,3,2,0]),(7,[4,3,2]),(8,[3,2]),(9,[2])] []),
 (77,Zs [] [] [(121,1,true)] [] [(0,[1]),(1,[2,1]),(2,[10,2,1]),(3,[11,10,2,1]),(4,[1]),(5,[15,10,2,1]),(6,[3,2,1]),(7,[3,2,1]),(8,[2,1]),(9,[2,1]),(10,[1]),(11,[37,10,2,1]),(12,[1]),(13,[41,10,2,1]),(14,[41,10,2,1]),(15,[41,10,2,1]),(16,[41,10,2,1]),(17,[1]),(18,[1]),(19,[50,10,2,1]),(20,[1]),(21,[56,10,2,1]),(22,[1]),(23,[61,10,2,1]),(24,[61,10,2,1]),(25,[1]),(26,[67,10,1]),(27,[67,1]),(28,[1]),(29,[])] []),
 (123,Zs [] [] [] [] [(0,[])] []),
 (125,Zs [] [] [] [] [(0,[])] []),
 (116,Zs [] [] [] [] [(0,[0]),(1,[3,0]),(2,[3]),(3,[2])] []),
 (114,Zs [] [] [] [] [(0,[2,0]),(1,[2,0]),(2,[2,0]),(3,[3,2,0]),(4,[3,2,0]),(5,[3,2,0]),(6,[3,2,0]),(7,[2,0]),(8,[2,0]),(9,[2,0]),(10,[2,0]),(11,[107,2,0]),(12,[2,0]),(13,[2,0]),(14,[2,0]),(15,[129,2,0]),(16,[2,0]),(17,[138,2,0]),(18,[])] []),
 (148,Zs [] [] [] [] [(0,[0]),(1,[5,4,3,0]),(2,[4,3,0]),(3,[3]),(4,[2])] []),
 (76,Zs [] [] [] [] [(0,[4,1]),(1,[4,1]),(2,[4,1]),(3,[24,4,1]),(4,[]),(5,[4]),(6,[4]),(7,[])] []),
 (119,Zs [] [] [] [] [(0,[0]),(1,[])] []),
 (121,Zs [] [] [] [] [(0,[1,0]),(1,[1,0]),(2,[1,0]),(3,[29,1,0]),(4,[1,0])] [(3,[1,0])]),
 (115,Zs [] [] [] [] [(0,[1,0]),(1,[1,0]),(2,[5,1,0]),(3,[5]),(4,[4])] []),
 (117,Zs [] [] [] [] [(0,[1,0]),(1,[7,6,5,0]),(2,[6,5,0]),(3,[5]),(4,[4])] []),
 (118,Zs [] [] [] [] [(0,[0]),(1,[13,0]),(2,[0]),(3,[0]),(4,[])] []),
 (120,Zs [] [] [] [] [(0,[7,0]),(1,[0]),(2,[19,0]),(3,[])] []),
 (122,Zs [] [] [] [] [(0,[2,0]),(1,[3,2,0]),(2,[3,2,0]),(3,[3,2,0]),(4,[2,0]),(5,[2,0]),(6,[])] []),
 (124,Zs [] [] [] [] [(0,[0]),(1,[5,4,3,0]),(2,[4,3,0]),(3,[3]),(4,[2])] []),
 (78,Zs [] [] [(130,1,true),(126,1,true),(132,1,true),(127,1,true),(128,1,true),(131,1,true),(129,1,true)] [] [(0,[3,0]),(1,[11,3,0]),(2,[12,11,3,0]),(3,[]),(4,[17,11,3,0]),(5,[3,0]),(6,[3,0]),(7,[]),(8,[32,11,3,0]),(9,[3,0]),(10,[40,3,0]),(11,[3,0]),(12,[3,0]),(13,[]),(14,[55,11,3,0]),(15,[55,11,3,0]),(16,[55,11,3,0]),(17,[55,11,3,0]),(18,[3,0]),(19,[]),(20,[67,11,3,0]),(21,[3,0]),(22,[75,74,73,0]),(23,[76,75,74,73,0]),(24,[75,74,73,5,0]),(25,[75,74,73,5,0]),(26,[75,74,73,0]),(27,[75,74,73,0]),(28,[102,11,3,0]),(29,[3,0]),(30,[110,109,108,0]),(31,[111,110,109,108,0]),(32,[110,109,108,7,0]),(33,[110,109,108,0]),(34,[110,109,108,0]),(35,[118,11,3,0]),(36,[118,11,3,0]),(37,[3,0]),(38,[127,126,125,0]),(39,[128,127,126,125,0]),(40,[127,126,125,9,0]),(41,[127,126,125,0]),(42,[127,126,125,0]),(43,[135,11,3,0]),(44,[135,3,0]),(45,[])] [(23,[75,74,73,0]),(31,[110,109,108,0]),(39,[127,126,125,0])]),
 (126,Zs [] [] [(149,1,true),(127,1,true),(128,1,true),(129,1,true)] [] [(0,[3,0]),(1,[3,0]),(2,[3,0]),(3,[3,0]),(4,[3,0]),(5,[3,0]),(6,[3,0]),(7,[49,3,0]),(8,[3,0]),(9,[3,0]),(10,[3,0]),(11,[66,3,0]),(12,[3,0]),(13,[72,3,0]),(14,[])] []),
 (149,Zs [] [] [(130,1,true)] [] [(0,[4,0]),(1,[])] []),
 (132,Zs [] [] [(127,1,true),(128,1,true)] [] [(0,[3,0]),(1,[3,0]),(2,[])] []),
 (127,Zs [] [] [(130,1,true)] [] [(0,[])] []),
 (128,Zs [] [] [(130,1,true)] [] [(0,[6,0]),(1,[])] []),
 (131,Zs [] [] [(127,1,true),(128,1,true)] [] [(0,[3,0]),(1,[12,3,0]),(2,[3,0]),(3,[20,3,0]),(4,[])] []),
 (129,Zs [] [] [(130,1,true)] [] [(0,[4,0]),(1,[])] []),
 (65,Zs [] [] [] [] [(0,[0]),(1,[3,0]),(2,[18,3,0]),(3,[]),(4,[2]),(5,[2])] []),
 (66,Zs [] [] [] [] [(0,[1,0]),(1,[4])] []),
 (99,Zs [] [] [] [] [(0,[1,0]),(1,[18,1,0]),(2,[1]),(3,[4]),(4,[5,1,0]),(5,[5]),(6,[4])] []),
 (64,Zs [] [] [] [] [(0,[0]),(1,[2])] []),
 (12,Zs [] [] [] [] [(0,[2,1]),(1,[3,2,1]),(2,[33,3,2,1]),(3,[3,2,1]),(4,[4,2,1]),(5,[5,4,2,1]),(6,[53,5,4,2,1]),(7,[5,4,2,1]),(8,[5,4,2,1]),(9,[71,4,2,1]),(10,[4,2]),(11,[2])] [(6,[5,4,2,1])]),
 (47,Zs [] [] [] [] [(0,[1]),(1,[3,1]),(2,[7,3,1]),(3,[3,1]),(4,[18,3,1]),(5,[3,1]),(6,[29,3,1]),(7,[3,1]),(8,[4,3,1]),(9,[45,4,3,1]),(10,[4,3,1]),(11,[4,3,1]),(12,[2])] [(9,[4,3,1])]),
 (63,Zs [] [] [] [] [(0,[1,0]),(1,[4])] []),
 (161,Zs [] [] [] [] [(0,[]),(2,[]),(7,[4])] []),
 (164,Zs [] [] [] [] [] []),
 (93,Zs [6] [] [(137,1,false)] [(111,1,false)] [(0,[2,1]),(1,[2,1]),(2,[2,1]),(3,[15,14,2,1]),(4,[16,15,14,2,1]),(5,[15,14,3,2,1]),(6,[15,14,2,1]),(7,[15,14,2,1]),(8,[2])] [(4,[15,14,2,1])]),
 (45,Zs [] [] [] [] [(0,[2,1]),(1,[4])] []),
 (16,Zs [] [] [] [] [(0,[1]),(1,[3,1]),(2,[5,3,1]),(3,[7,5,3,1]),(4,[9,7,5,3,1]),(5,[2])] []),
 (17,Zs [] [] [(56,1,false)] [] [(0,[1]),(1,[3,1]),(2,[5,3,1]),(3,[7,5,1]),(4,[39,38,37,7,5]),(5,[40,39,38,37,7,5]),(6,[39,38,37,9,7,5]),(7,[39,38,37,7,5]),(8,[39,38,37,7,5]),(9,[2])] [(5,[39,38,37,7,5])]),
 (73,Zs [] [] [(111,1,false)] [] [(0,[8,4,3,2,1]),(1,[9,8,4,3]),(2,[11,10,9,8,3]),(3,[31,10,9,8,3]),(4,[9,8]),(5,[8])] []),
 (44,Zs [] [] [(93,2,false)] [] [(0,[8,4,3,2,1]),(1,[9,8,4,3,2,1]),(2,[10,9,8,4,3,2,1]),(3,[29,10,9,8,4,3,2,1]),(4,[10,9,8,4,1]),(5,[36,10,9,8,4,1]),(6,[10,8,4]),(7,[51,50,49,10,8]),(8,[52,51,50,49,10,8]),(9,[51,50,49,12,10,8]),(10,[51,50,49,10,8]),(11,[51,50,49,10,8]),(12,[8])] [(8,[51,50,49,10,8])]),
 (21,Zs [] [] [] [] [(0,[2,0]),(1,[4,2,0]),(2,[5,4,2,0]),(3,[28,5,2]),(4,[3,2]),(5,[3,2])] []),
 (23,Zs [] [] [] [] [(0,[2,0]),(1,[4,2,0]),(2,[6,5,4,2,0]),(3,[7,6,4,2,0]),(4,[7,6,4,2,0]),(5,[8,7,4,2,0]),(6,[42,41,8,7,4,2,0]),(7,[43,42,41,8,7,4,2,0]),(8,[42,41,9,8,7,4,2,0]),(9,[42,41,9,8,7,4,2,0]),(10,[42,41,8,7,4,2,0]),(11,[42,41,8,7,4,2,0]),(12,[8,7,4,2,0]),(13,[84,7,2]),(14,[3,2]),(15,[3,2])] [(7,[42,41,8,7,4,2,0])]),
 (30,Zs [] [] [] [] [(0,[3,2]),(1,[4])] []),
 (31,Zs [] [] [] [] [(0,[3,2]),(1,[4])] []),
 (58,Zs [] [] [] [] [(0,[0]),(1,[2])] []),
 (98,Zs [] [] [] [] [(0,[0]),(1,[2])] []),
 (57,Zs [] [] [] [] [(0,[1,0]),(1,[5,0]),(2,[0]),(3,[4])] []),
 (62,Zs [] [] [] [] [(0,[1]),(1,[2])] []),
 (55,Zs [] [] [] [] [(0,[0]),(1,[6,0]),(2,[3,2]),(3,[3,2])] []),
 (108,Zs [] [] [] [] [(0,[0]),(1,[3,0]),(2,[8,7,6,3]),(3,[9,8,7,6,3]),(4,[8,7,6,5,3]),(5,[8,7,6,3]),(6,[8,7,6,3]),(7,[2])] [(3,[8,7,6,3])]),
 (106,Zs [] [] [] [] [(0,[0]),(1,[17,0]),(2,[4,3,2]),(3,[3,0]),(4,[4,3,2])] []),
 (109,Zs [] [] [] [] [(0,[0]),(1,[5,4,3]),(2,[12,5,4,3]),(3,[4,3,2]),(4,[16,5,3]),(5,[4,3,2]),(6,[4,3,2])] []),
 (135,Zs [] [] [] [] [(0,[2,0]),(1,[9,8,7,2,0]),(2,[10,9,8,7,2,0]),(3,[9,8,7,6,5,2,0]),(4,[15,9,8,7,6,5,2,0]),(5,[9,8,7,6,5,2,0]),(6,[25,9,8,7,6,5,2,0]),(7,[31,5,2]),(8,[4,3,2]),(9,[4,3,2]),(10,[9,8,7,2,0]),(11,[38]),(12,[4,3,2]),(13,[4,3,2])] [(2,[9,8,7,2,0])]),
 (97,Zs [] [] [] [] [(0,[0]),(1,[6,0]),(2,[8,7,6,0]),(3,[6,4,0]),(4,[11,6,0]),(5,[2]),(6,[2])] [(2,[6,0])]),
 (56,Zs [] [] [] [] [(0,[0]),(1,[3,0]),(2,[8,7,6,3]),(3,[9,8,7,6,3]),(4,[8,7,6,5,3]),(5,[8,7,6,3]),(6,[8,7,6,3]),(7,[2])] [(3,[8,7,6,3])]),
 (59,Zs [] [] [] [] [(0,[1,0]),(1,[12,1,0]),(2,[4]),(3,[5,1,0]),(4,[6,5,0]),(5,[18,6,5,0]),(6,[6,5,0]),(7,[6,5,0]),(8,[6,5,0]),(9,[4])] [(5,[6,5,0])]),
 (54,Zs [] [] [] [] [(0,[0]),(1,[6,0]),(2,[3,2]),(3,[3,2])] []),
 (82,Zs [] [] [] [] [(0,[0]),(1,[10,0]),(2,[3,2]),(3,[4,0]),(4,[12,4,0]),(5,[4,0]),(6,[4,0]),(7,[3,2])] [(4,[4,0])]),
 (41,Zs [] [] [] [] [(0,[3,0]),(1,[4])] []),
 (88,Zs [] [] [] [] [(0,[2,1]),(1,[3])] []),
 (34,Zs [] [] [(78,1,true)] [] [(0,[2,1]),(1,[4,2,1]),(2,[4,2,1]),(3,[5,2,1]),(4,[32,5,2,1]),(5,[5,2,1]),(6,[7,6,5,2,1]),(7,[9,7,6,5,2,1]),(8,[73,5,2]),(9,[3,2]),(10,[3,2])] []),
 (40,Zs [] [] [] [] [(0,[1]),(1,[5,4]),(2,[14,5,4]),(3,[3,2]),(4,[6,4]),(5,[3,2])] []),
 (32,Zs [] [] [] [] [(0,[]),(2,[4,3,2,1]),(3,[4,3,2]),(4,[4,3,2]),(5,[3,2])] []),
 (75,Zs [] [] [] [] [(1,[4]),(2,[]),(3,[7,5]),(4,[]),(6,[3,1,0]),(7,[])] []),
 (35,Zs [] [] [] [] [(0,[3,2]),(1,[5,3,2]),(2,[6,5,3,2]),(3,[7,6,5,3,2]),(4,[8,7,6,5,3,2]),(5,[4])] []),
 (87,Zs [] [] [] [] [(0,[0]),(1,[3]),(2,[4,3]),(3,[2]),(4,[15,3]),(5,[15,3]),(6,[2]),(7,[27,3]),(8,[27,3]),(9,[2]),(10,[33,3]),(11,[2]),(12,[45,3]),(13,[2]),(14,[55,3]),(15,[2]),(16,[66]),(17,[2]),(18,[2])] []),
 (79,Zs [] [] [] [] [(0,[0]),(1,[3]),(2,[4,3]),(3,[4,3]),(4,[4]),(5,[2]),(6,[2])] []),
 (81,Zs [] [] [] [] [(0,[1,0]),(1,[5,1]),(2,[4]),(3,[4])] []),
 (113,Zs [] [] [] [] [(0,[5,1]),(1,[])] []),
 (112,Zs [] [] [] [] [(0,[4,1,0]),(1,[10,9,8,4,0]),(2,[11,10,9,8,4,0]),(3,[10,9,8,7,4,0]),(4,[17,10,9,8,7,4,0]),(5,[5,4]),(6,[10,9,8,4,0]),(7,[5,4])] [(2,[10,9,8,4,0])]),
 (134,Zs [] [] [] [] [(0,[0]),(1,[2])] []),
 (42,Zs [] [] [] [] [(0,[1,0]),(1,[6,1,0]),(2,[16,15,14,6,1,0]),(3,[17,16,15,14,6,1,0]),(4,[16,15,14,8,6,1,0]),(5,[16,15,14,6,1,0]),(6,[16,15,14,6,1,0]),(7,[10,9,6,1,0]),(8,[32,9,6,1,0]),(9,[5,4]),(10,[6,1,0]),(11,[13,12,11,6,1]),(12,[57,6]),(13,[5,4]),(14,[5,4])] [(3,[16,15,14,6,1,0])]),
 (153,Zs [] [] [] [] [(0,[1,0]),(1,[4])] []),
 (143,Zs [] [] [] [] [(0,[1,0]),(1,[5,1,0]),(2,[10,9,8,5,1]),(3,[11,10,9,8,5,1]),(4,[10,9,8,7,5,1]),(5,[17,10,9,8,7,5,1]),(6,[10,9,8,5,1]),(7,[10,9,8,5,1]),(8,[4])] [(3,[10,9,8,5,1])]),
 (90,Zs [] [] [] [] [(0,[4,1,0]),(1,[9,8,7,4,1,0]),(2,[29,8,7,4,1,0]),(3,[6,5,4]),(4,[10,8,7,4,0]),(5,[38,10,8,7,4,0]),(6,[13,12,11,10,8,7,4,0]),(7,[48,13,12,11,10,8,7,4,0]),(8,[6,5,4]),(9,[12,10,8,7,4,0]),(10,[10,8,7,4,0]),(11,[6,5,4])] [(5,[10,8,7,4,0])]),
 (43,Zs [] [] [] [] [(0,[1,0]),(1,[4])] []),
 (92,Zs [] [] [] [] [(0,[3,2]),(1,[4])] []),
 (162,Zs [] [] [] [] [(0,[0]),(1,[3,0]),(2,[8,7,6,3]),(3,[9,8,7,6,3]),(4,[8,7,6,5,3]),(5,[8,7,6,3]),(6,[8,7,6,3]),(7,[2])] [(3,[8,7,6,3])]),
 (147,Zs [] [] [] [] [(0,[2,1]),(1,[2,1]),(2,[2])] []),
 (156,Zs [] [] [] [] [(0,[1]),(1,[4,1]),(2,[5,4,1]),(3,[5,4,1]),(4,[5,4,1]),(5,[5,1]),(6,[2]),(7,[2])] []),
 (89,Zs [] [] [] [] [(0,[1]),(1,[3,1]),(2,[6,5,3,1]),(3,[15,6,5,3,1]),(4,[16,15,6,5,3,1]),(5,[16,15,6,5,3,1]),(6,[16,15,6,5,3,1]),(7,[6,5,3]),(8,[29,15,6,5,3,1]),(9,[6,5,3]),(10,[37,15,6,5,3,1]),(11,[6,5,3]),(12,[45,15,6,5,3,1]),(13,[6,5,3]),(14,[53,6,5,3,1]),(15,[5,3,1]),(16,[6,5,3]),(17,[2])] []),
 (152,Zs [] [] [] [] [(0,[2,0]),(1,[3,2]),(2,[4,3,2]),(3,[2]),(4,[9,3,2]),(5,[2]),(6,[14,3,2]),(7,[14,3,2]),(8,[2]),(9,[20,3,2]),(10,[2]),(11,[25,3,2]),(12,[2]),(13,[30,3,2]),(14,[2]),(15,[35,3,2]),(16,[35,3,2]),(17,[2]),(18,[41,3,2]),(19,[2]),(20,[46,3,2]),(21,[2]),(22,[51,3,2]),(23,[2]),(24,[56,3,2]),(25,[56,3,2]),(26,[2]),(27,[62,3,2]),(28,[2]),(29,[67,3,2]),(30,[2]),(31,[72,3,2]),(32,[2]),(33,[77,3,2]),(34,[77,3,2]),(35,[2]),(36,[83,3,2]),(37,[2]),(38,[88,3,2]),(39,[2]),(40,[93,3,2]),(41,[93,3,2]),(42,[93,3,2]),(43,[93,3,2]),(44,[93,3,2]),(45,[2]),(46,[102,2]),(47,[2]),(48,[2])] []),
 (155,Zs [] [] [] [] [(0,[1,0]),(1,[4])] []),
 (136,Zs [] [] [] [] [(0,[6,2,1,0]),(1,[11,10,9,6,2,1,0]),(2,[28,10,9,6,2,1,0]),(3,[8,7,6]),(4,[12,10,9,7,6,2,0]),(5,[14,12,10,9,7,6,0]),(6,[45,14,10,9,7,6,0]),(7,[8,7,6]),(8,[49,10,9,7,6]),(9,[8,7,6]),(10,[58,10,9,7,6]),(11,[8,7,6]),(12,[65,6]),(13,[8,7,6]),(14,[8,7,6])] []),
 (154,Zs [] [] [] [] [(0,[5,4,1,0]),(1,[5,4,1,0]),(2,[7,5,4,1,0]),(3,[12,7,5,4,1,0]),(4,[13,12,7,5,4,1,0]),(5,[13,12,7,5,4,1,0]),(6,[13,12,7,5,4,1,0]),(7,[7,5,4,1]),(8,[24,7,5,4,1]),(9,[6,5,4]),(10,[7,5,4]),(11,[32,12,7,5,4,1]),(12,[7,5,4]),(13,[41,12,7,5,4,1]),(14,[7,5,4]),(15,[50,12,7,5,4,1]),(16,[7,5,4]),(17,[59,7,5,4,1]),(18,[7,5,4,1]),(19,[69,7,5,4,1]),(20,[5,4,1]),(21,[8,7,5,4]),(22,[7,5,4]),(23,[6,5,4])] []),
 (86,Zs [] [] [] [] [(0,[1,0]),(1,[4])] []),
 (158,Zs [] [] [] [] [(0,[1,0]),(1,[4])] []),
 (91,Zs [] [] [] [] [(0,[2,1,0]),(1,[14,2,1,0]),(2,[6]),(3,[17,16,15,2,1]),(4,[18,17,16,15,2,1]),(5,[17,16,15,8,7,2,1]),(6,[17,16,15,9,8,2,1]),(7,[30,17,16,15,2,1]),(8,[6]),(9,[17,16,15,2,1]),(10,[6])] [(4,[17,16,15,2,1])]),
 (83,Zs [] [] [] [] [(0,[1,0]),(1,[10,1,0]),(2,[4]),(3,[13,12,1,0]),(4,[14,13,12,1,0]),(5,[13,12,5,1,0]),(6,[24,13,12,1,0]),(7,[4]),(8,[13,12,1,0]),(9,[4])] [(4,[13,12,1,0])]),
 (84,Zs [] [] [] [] [(0,[1,0]),(1,[10,1,0]),(2,[4]),(3,[13,12,1,0]),(4,[14,13,12,1,0]),(5,[13,12,5,1,0]),(6,[24,13,12,1,0]),(7,[4]),(8,[13,12,1,0]),(9,[4])] [(4,[13,12,1,0])]),
 (74,Zs [] [] [] [] [(0,[1,0]),(1,[10,1,0]),(2,[4]),(3,[13,12,1,0]),(4,[14,13,12,1,0]),(5,[13,12,5,1,0]),(6,[24,13,12,1,0]),(7,[4]),(8,[13,12,1,0]),(9,[4])] [(4,[13,12,1,0])]),
 (85,Zs [] [] [] [] [(0,[1,0]),(1,[10,1,0]),(2,[4]),(3,[13,12,1,0]),(4,[14,13,12,1,0]),(5,[13,12,5,1,0]),(6,[24,13,12,1,0]),(7,[4]),(8,[13,12,1,0]),(9,[4])] [(4,[13,12,1,0])]),
 (133,Zs [] [] [] [] [(0,[1,0]),(1,[8,7,1,0]),(2,[9,8,7,1,0]),(3,[8,7,5,1,0]),(4,[16,8,7,5,1,0]),(5,[4]),(6,[8,7,1,0]),(7,[4])] [(2,[8,7,1,0])]),
 (163,Zs [] [] [] [] [(0,[1,0]),(1,[8,7,1,0]),(2,[9,8,7,1,0]),(3,[8,7,5,1,0]),(4,[16,8,7,5,1,0]),(5,[4]),(6,[8,7,1,0]),(7,[4])] [(2,[8,7,1,0])]),
 (28,Zs [] [] [] [] [(0,[1,0]),(1,[10,1,0]),(2,[4]),(3,[5,1,0]),(4,[30,0]),(5,[4]),(6,[6,0]),(7,[34,6,0]),(8,[6,0]),(9,[6,0]),(10,[4])] [(7,[6,0])]),
 (18,Zs [] [] [] [] [(0,[1,0]),(1,[8,1,0]),(2,[4]),(3,[4])] []),
 (20,Zs [] [] [] [] [(0,[0]),(1,[3,0]),(2,[3,0]),(3,[3,0]),(4,[2])] []),
 (15,Zs [] [] [] [] [(0,[1,0]),(1,[4])] []),
 (60,Zs [] [] [] [] [(0,[0]),(1,[3,0]),(2,[2])] []),
 (39,Zs [] [] [] [] [(0,[2,1,0]),(1,[7,1,0]),(2,[7,1,0]),(3,[16,7,1,0]),(4,[1,0]),(5,[6])] []),
 (37,Zs [] [] [] [] [(0,[2,1]),(1,[6,2,1]),(2,[2,1]),(3,[14,2,1]),(4,[2,1]),(5,[22,2,1]),(6,[2,1]),(7,[30,2,1]),(8,[2,1]),(9,[39,2,1]),(10,[2,1]),(11,[2,1]),(12,[2])] []),
 (5,Zs [] [] [] [] [(0,[3,2]),(1,[3,2]),(2,[6,5,3,2]),(3,[26,5,3,2]),(4,[8,7,5,3,2]),(5,[10,9,8,7,5,3,2]),(6,[66,3]),(7,[4]),(8,[70,3]),(9,[4]),(10,[3]),(11,[12,11,3]),(12,[80,12,11,3]),(13,[4]),(14,[14,13,3]),(15,[4])] []),
 (9,Zs [] [] [] [] [(0,[2,1,0]),(1,[2,1,0]),(2,[7,2,1,0]),(3,[25,7,2,1,0]),(4,[6]),(5,[33,25,7,2,1,0]),(6,[33,25,7,2,1,0]),(7,[33,25,7,2,1,0]),(8,[33,25,7,2,1,0]),(9,[7,1,0]),(10,[40,25,7,2,1,0]),(11,[40,25,7,2,1,0]),(12,[7,1,0]),(13,[49,25,7,1,0]),(14,[49,25,7,1,0]),(15,[49,7,1,0]),(16,[9,8,7,1,0]),(17,[10,9,8,7]),(18,[62,9,8,7]),(19,[6]),(20,[12,11,9,8,7]),(21,[14,13,12,9,8,7]),(22,[6])] []),
 (7,Zs [] [] [] [] [(0,[2,1]),(1,[2,1]),(2,[6,5,2,1]),(3,[18,5,2,1]),(4,[4]),(5,[8,7,2]),(6,[35,8,7,2]),(7,[36,35,8,7,2]),(8,[36,35,8,7,2]),(9,[36,35,8,7,2]),(10,[36,35,8,7,2]),(11,[4]),(12,[52,8,7,2]),(13,[4]),(14,[4])] []),
 (8,Zs [] [] [] [] [(0,[3,2]),(1,[3,2]),(2,[6,5,3,2]),(3,[8,7,6,5,3,2]),(4,[30,7,5,3,2]),(5,[4]),(6,[4])] []),
 (10,Zs [] [] [] [] [(0,[1,0]),(1,[14,1,0]),(2,[1,0]),(3,[1,0]),(4,[6,5,1,0]),(5,[8,7,6,5,1,0]),(6,[33,8,7,5,1,0]),(7,[4]),(8,[9,8,7,1,0]),(9,[11,10,9,8,7,1,0]),(10,[4])] []),
 (6,Zs [] [] [] [] [(0,[2,1]),(1,[6,5,2,1]),(2,[23,5,2,1]),(3,[4]),(4,[5,2,1]),(5,[8,7,2]),(6,[44,7,2]),(7,[4]),(8,[52,7,2]),(9,[53,52,7,2]),(10,[53,52,7,2]),(11,[53,52,7,2]),(12,[53,52,7,2]),(13,[53,52,7,2]),(14,[53,52,7,2]),(15,[53,52,7,2]),(16,[53,52,7,2]),(17,[53,52,7,2]),(18,[53,52,7,2]),(19,[53,7,2]),(20,[4]),(21,[4])] []),
 (33,Zs [] [] [] [] [(0,[0]),(1,[2])] []),
 (38,Zs [] [] [] [] [(0,[]),(1,[2,1]),(2,[4,3,2,1]),(3,[0])] []),
 (4,Zs [] [] [] [] [(0,[1]),(1,[3]),(2,[5,4,3]),(3,[7,6,5,4,3]),(4,[2])] []),
 (3,Zs [] [] [] [] [(0,[4,3,2,1]),(1,[9,3,2,1]),(2,[10,9,3,2,1]),(3,[12,10,9,3,2,1]),(4,[50,12,10,3,2,1]),(5,[8]),(6,[12,10,3,2,1]),(7,[14]),(8,[15,14]),(9,[68,15,14]),(10,[15,14]),(11,[16,15,14]),(12,[18,17,16,15,14]),(13,[20,19,18,17,16,15,14]),(14,[22,21,20,19,18,17,16,15,14]),(15,[24,23,22,21,20,19,18,17,16,15,14]),(16,[144,15,14]),(17,[8]),(18,[8])] [(9,[15,14])]),
 (11,Zs [] [] [] [] [(0,[3,2,1]),(1,[7,2,1]),(2,[7,2,1]),(3,[8,7,2]),(4,[9,8,7]),(5,[11,10,9,8,7]),(6,[50,9,8,7]),(7,[6]),(8,[12,9,8,7]),(9,[13,12,9,8,7]),(10,[55,13,12,9,8,7]),(11,[13,12,9,8,7]),(12,[64,13,12,9,8,7]),(13,[13,12,9,8,7]),(14,[71,12,8,7]),(15,[6]),(16,[88,12,8,7]),(17,[6]),(18,[6])] [(10,[13,12,9,8,7])]),
 (25,Zs [] [] [] [] [(0,[0]),(1,[2])] []),
 (46,Zs [] [] [] [] [(0,[0]),(1,[3,0]),(2,[4,3,0]),(3,[12,4,3,0]),(4,[4,3,0]),(5,[4,3,0]),(6,[2])] [(3,[4,3,0])]),
 (19,Zs [] [] [(60,1,false)] [] [(0,[2,1,0]),(1,[7,2,1]),(2,[12,7,2,1]),(3,[6]),(4,[7,2,1]),(5,[20,7,2,1]),(6,[6]),(7,[7]),(8,[6])] []),
 (29,Zs [3] [] [] [] [(0,[]),(1,[1]),(2,[2,1]),(3,[0])] []),
 (49,Zs [] [] [(53,1,false)] [] [(0,[0]),(1,[6,0]),(2,[3,2]),(3,[3,2])] []),
 (100,Zs [] [] [] [] [(0,[0]),(1,[3,0]),(2,[4,3,0]),(3,[8,4,3,0]),(4,[4,3,0]),(5,[4,3,0]),(6,[2])] [(3,[4,3,0])]),
 (146,Zs [] [] [] [] [(0,[0]),(1,[8,0]),(2,[4,3,2]),(3,[5,0]),(4,[17,5,0]),(5,[4,3,2]),(6,[4,3,2])] []),
 (145,Zs [] [] [] [] [(0,[0]),(1,[7,6,5]),(2,[15,7,6,5]),(3,[4,3,2]),(4,[20,6,5]),(5,[4,3,2]),(6,[4,3,2])] []),
 (101,Zs [] [] [] [] [(0,[0]),(1,[6,5,0]),(2,[7,6,5,0]),(3,[9,7,6,5,0]),(4,[7,6,5,0]),(5,[15,7,6,5,0]),(6,[4,3,2]),(7,[7,6,5,0]),(8,[7,6,5,0]),(9,[32,7,6,5,0]),(10,[41,7,5]),(11,[4,3,2]),(12,[4,3,2]),(13,[4,3,2])] [(3,[7,6,5,0])]),
 (94,Zs [] [] [] [] [(0,[0]),(1,[6,0]),(2,[4,3,0]),(3,[17,4,0]),(4,[2]),(5,[0]),(6,[2])] [(1,[0])]),
 (53,Zs [] [] [] [] [(0,[1,0]),(1,[12,1,0]),(2,[4]),(3,[5,1,0]),(4,[6,5,0]),(5,[18,6,5,0]),(6,[6,5,0]),(7,[6,5,0]),(8,[6,5,0]),(9,[4])] [(5,[6,5,0])]),
 (48,Zs [] [] [(49,1,false)] [] [(0,[0]),(1,[6,0]),(2,[3,2]),(3,[3,2])] []),
 (140,Zs [] [] [] [] [(0,[0]),(1,[10,0]),(2,[3,2]),(3,[4,0]),(4,[12,4,0]),(5,[4,0]),(6,[4,0]),(7,[3,2])] [(4,[4,0])]),
 (138,Zs [] [] [] [] [(0,[0]),(1,[4,0]),(2,[4,0]),(3,[3,2]),(4,[11,4,0]),(5,[3,2]),(6,[15,4,0]),(7,[6,5,4,0]),(8,[24,4,0]),(9,[6,5,4,0]),(10,[33,4,0]),(11,[6,5,4,0]),(12,[45,6,5,4,0]),(13,[3,2]),(14,[7,6,5,4,0]),(15,[48,7,6,5,4,0]),(16,[7,6,5,4,0]),(17,[60,7,6,5,4,0]),(18,[3,2]),(19,[7,6,5,4,0]),(20,[83,5,4]),(21,[3,2]),(22,[3,2])] [(15,[7,6,5,4,0])]),
 (110,Zs [] [] [] [] [(0,[3,2]),(1,[4])] []),
 (95,Zs [] [] [] [] [(0,[0]),(1,[4,0]),(2,[5,4,0]),(3,[14,5,4,0]),(4,[5,4,0]),(5,[6,5,4,0]),(6,[28,6,5,4,0]),(7,[3,2]),(8,[6,5,4,0]),(9,[8,7,5,4,0]),(10,[41,7,5,4,0]),(11,[3,2]),(12,[5,4,0]),(13,[10,9,4]),(14,[3,2])] [(3,[5,4,0])]),
 (104,Zs [] [] [] [] [(0,[4,1,0]),(1,[6,4,1,0]),(2,[10,6,4,1,0]),(3,[6,4,1,0]),(4,[19,6,4,1,0]),(5,[5,4]),(6,[5,4])] [(2,[6,4,1,0])]),
 (144,Zs [] [] [] [] [(0,[0]),(1,[3]),(2,[4,3]),(3,[4,3]),(4,[4,3]),(5,[4,3]),(6,[4,3]),(7,[4,3]),(8,[4,3]),(9,[4,3]),(10,[2]),(11,[13,3]),(12,[13,3]),(13,[13,3]),(14,[13,3]),(15,[2]),(16,[18,3]),(17,[18,3]),(18,[18,3]),(19,[18,3]),(20,[2]),(21,[23,3]),(22,[2]),(23,[25,3]),(24,[25,3]),(25,[25,3]),(26,[25,3]),(27,[25,3]),(28,[25,3]),(29,[25,3]),(30,[2]),(31,[33,3]),(32,[33,3]),(33,[2]),(34,[36]),(35,[2]),(36,[2])] []),
 (50,Zs [] [] [] [] [(0,[1,0]),(1,[7,6,1,0]),(2,[17,6,1,0]),(3,[5,4]),(4,[10,9,8,6,1]),(5,[38,6]),(6,[5,4]),(7,[5,4])] []),
 (102,Zs [] [] [] [] [(0,[1,0]),(1,[5,1]),(2,[6,5,1]),(3,[6,5,1]),(4,[6,5,1]),(5,[6,5,1]),(6,[6,5,1]),(7,[4]),(8,[15,5,1]),(9,[4]),(10,[20,5,1]),(11,[4]),(12,[25,5,1]),(13,[25,5,1]),(14,[25,5,1]),(15,[25,5,1]),(16,[25,5,1]),(17,[25,5,1]),(18,[25,5,1]),(19,[25,5,1]),(20,[4]),(21,[36,5,1]),(22,[36,5,1]),(23,[4]),(24,[42,5,1]),(25,[42,5,1]),(26,[4]),(27,[47,5,1]),(28,[4]),(29,[51,5,1]),(30,[4]),(31,[56,5,1]),(32,[4]),(33,[61,5,1]),(34,[61,5,1]),(35,[61,5,1]),(36,[4]),(37,[68,5,1]),(38,[4]),(39,[72,1]),(40,[4]),(41,[4])] []),
 (96,Zs [] [] [] [] [(0,[1,0]),(1,[5,1,0]),(2,[6,5,1,0]),(3,[10,6,5,1,0]),(4,[6,5,1,0]),(5,[19,6,5,1,0]),(6,[6,5,1,0]),(7,[4])] [(3,[6,5,1,0])]),
 (67,Zs [] [] [] [] [(0,[1,0]),(1,[9,8,7,1,0]),(2,[36,8,7,1,0]),(3,[6,5,4]),(4,[10,8,7,0]),(5,[11,10,8,7,0]),(6,[45,11,10,8,7,0]),(7,[14,13,12,11,10,8,7,0]),(8,[59,13,12,11,10,8,7,0]),(9,[6,5,4]),(10,[17,16,15,13,12,11,10,8,7,0]),(11,[70,16,15,13,12,11,10,8,7,0]),(12,[6,5,4]),(13,[19,16,15,13,12,11,10,8,7,0]),(14,[90,16,15,13,12,11,10,8,7,0]),(15,[6,5,4]),(16,[20,16,15,13,11,10,8,7,0]),(17,[96,20,16,15,13,11,10,8,7,0]),(18,[6,5,4]),(19,[16,13,11,10,8,7,0]),(20,[11,10,8,7,0]),(21,[6,5,4])] [(6,[11,10,8,7,0])]),
 (72,Zs [] [] [] [] [(0,[1,0]),(1,[10,1,0]),(2,[4]),(3,[5,1,0]),(4,[14,5,1,0]),(5,[5,1,0]),(6,[26,5,1,0]),(7,[4]),(8,[4])] [(4,[5,1,0])]),
 (141,Zs [] [] [] [] [(0,[1,0]),(1,[5,1,0]),(2,[9,5,1,0]),(3,[5,1,0]),(4,[17,5,1,0]),(5,[4]),(6,[4])] [(2,[5,1,0])]),
 (139,Zs [] [] [(48,1,false)] [] [(0,[1]),(1,[16,1]),(2,[17,16,1]),(3,[3,2]),(4,[31,16,1]),(5,[3,2]),(6,[45,16,1]),(7,[3,2]),(8,[59,16,1]),(9,[5,4]),(10,[3,2]),(11,[70,16,1]),(12,[7,6]),(13,[3,2]),(14,[81,16,1]),(15,[9,8]),(16,[3,2]),(17,[92,1]),(18,[11,10,1]),(19,[13,12,11,10]),(20,[3,2]),(21,[3,2])] []),
 (105,Zs [] [] [] [] [(0,[1,0]),(1,[5,1]),(2,[6,5,1]),(3,[6,5,1]),(4,[6,5,1]),(5,[6,5,1]),(6,[6,5,1]),(7,[6,5,1]),(8,[6,5,1]),(9,[6,5,1]),(10,[16]),(11,[4]),(12,[17,5,1]),(13,[17,5,1]),(14,[17,5,1]),(15,[22]),(16,[4]),(17,[23,1]),(18,[26]),(19,[4]),(20,[4])] []),
 (103,Zs [] [] [] [] [(0,[4,1,0]),(1,[7,4,1,0]),(2,[8,7,4,1,0]),(3,[26,8,7,4,1]),(4,[27,26,8,7,4,1]),(5,[8,7,4,1]),(6,[29,26,8,7,4,1]),(7,[8,7,4,1]),(8,[31,26,8,7,4,1]),(9,[8,7,4,1]),(10,[33,26,8,7,4,1]),(11,[11,10,9,7,4]),(12,[11,10,7,4]),(13,[6,5,4]),(14,[47,26,8,7,4,1]),(15,[14,13,12,7,4]),(16,[14,13,7,4]),(17,[6,5,4]),(18,[61,26,8,7,4,1]),(19,[17,16,15,7,4]),(20,[17,16,7,4]),(21,[6,5,4]),(22,[77,8,7,4,1]),(23,[20,19,18,7,4,1]),(24,[86,19,18,7,4,1]),(25,[6,5,4]),(26,[22,21,20,19,18,7,4]),(27,[22,20,19,7,4]),(28,[6,5,4]),(29,[109,8,7,4,1]),(30,[6,5,4]),(31,[8,7,4]),(32,[6,5,4])] []),
 (36,Zs [] [] [] [] [(0,[3,2]),(1,[112,3,2]),(2,[4]),(3,[163,3,2]),(4,[4]),(5,[5,3,2]),(6,[168,5,3,2]),(7,[5,3,2]),(8,[181,5,3,2]),(9,[4]),(10,[6,3,2]),(11,[186,6,3,2]),(12,[6,3,2]),(13,[199,6,3,2]),(14,[4]),(15,[7,3,2]),(16,[204,7,3,2]),(17,[7,3,2]),(18,[217,7,3,2]),(19,[4]),(20,[9,8]),(21,[4])] [(6,[5,3,2]),(11,[6,3,2]),(16,[7,3,2])]),
 (51,Zs [] [] [] [] [(0,[0]),(1,[2])] []),
 (13,Zs [] [] [] [] [(0,[1]),(1,[5,4,1]),(2,[7,6,5,4,1]),(3,[9,8,7,6,5,4,1]),(4,[11,10,9,8,7,6,5,4,1]),(5,[12,10,8,6,4,1]),(6,[12,10,8,6,4,1]),(7,[13,12,10,8,1]),(8,[13,12,10,1]),(9,[13,12,10,1]),(10,[3,2])] []),
 (14,Zs [] [] [] [] [(0,[1]),(1,[5,4,1]),(2,[7,6,5,1]),(3,[9,8,7,6,5,1]),(4,[8,6,5,1]),(5,[10,8,5,1]),(6,[11,10,8,5,1]),(7,[72,11,10,8,5,1]),(8,[11,10,8,5,1]),(9,[11,10,8,5,1]),(10,[11,10,8,5,1]),(11,[3,2])] [(7,[11,10,8,5,1])]),
 (22,Zs [] [] [] [] [(0,[2,0]),(1,[4,2,0]),(2,[5,4,2,0]),(3,[6,5,4,2,0]),(4,[5,4,2,0]),(5,[5,4,2,0]),(6,[5,4,2,0]),(7,[48,5,4,2,0]),(8,[9,8,7,5,4,2,0]),(9,[7,5,4,2,0]),(10,[5,4,2,0]),(11,[11,10,5,4,2,0]),(12,[93,5,2]),(13,[3,2]),(14,[3,2])] []),
 (24,Zs [] [] [] [] [(0,[2,0]),(1,[4,2,0]),(2,[6,5,4,2,0]),(3,[7,6,4,2,0]),(4,[8,7,6,4,2,0]),(5,[7,6,4,2,0]),(6,[9,7,6,4,2,0]),(7,[10,9,7,6,4,2,0]),(8,[44,10,9,7,6,4,2,0]),(9,[10,9,7,6,4,2,0]),(10,[10,9,7,6,4,2,0]),(11,[7,6,4,2,0]),(12,[12,11,7,6,4,2,0]),(13,[80,7,2]),(14,[3,2]),(15,[3,2])] [(8,[10,9,7,6,4,2,0])]),
 (26,Zs [] [] [] [] [(0,[3,2]),(1,[4])] []),
 (27,Zs [] [] [] [] [(0,[3,2]),(1,[41,3,2]),(2,[4]),(3,[5,3,2]),(4,[46,5,3,2]),(5,[5,3,2]),(6,[59,5,3,2]),(7,[4]),(8,[4])] [(4,[5,3,2])]),
 (52,Zs [] [] [] [] [(0,[1,0]),(1,[5,0]),(2,[4]),(3,[4])] []),
 (1000000,{})]
def ann:Nat->Ann:=Ze9 {} Zw1
def Zxq:List (Nat×Bool):=[
 (28,true),
 (1000000,false)]
def BY:Nat->Bool:=Ze9 false Zxq
noncomputable def CF:Nat->Option ZG:=ZiG Tryd.prog ann
noncomputable def FC:Nat->Option ZG:=fun f=>(CF f).map ZlO
def Zvu:List (Nat×Option (List AVal->Za->Option (AVal×Za))):=[
 (111,some (ZeI 1 1)),
 (137,some (ZeI 5 72)),
 (142,some (ZpR)),
 (32,some (ZiH)),
 (130,some (ZiH)),
 (1000000,none)]
def PR:Zcm:=Ze9 none Zvu
def oI (d:Nat) (i:Ins):AOp:=⟨some d,i,none,[]⟩
def oN (i:Ins):AOp:=⟨none,i,none,[]⟩
theorem xw (c d:Ze) (h:c=d) (m:Nat) (tm:Tms) (σ:Za):evC FC PR BY m c tm σ=evC FC PR BY m d tm σ:=by rw [h]
noncomputable abbrev E:ZU:=EV FC PR BY
theorem Zh {f:Nat} {fn:ZG} (hp:PR f=none) (hf:FC f=some fn) (args:List AVal) (σ:Za):E f args σ=Zan σ.length fn (evC FC PR BY σ.length fn.body (enterA 0 args []) σ):=ZtT hp hf args σ
end
section
def Zo8:Ze:=(.seq (.region [oI 31 (.ld (some 10) (.t 1)),oN (.st 10 (.t 2) (.t 31))] none [2]) .ret)
def ZmZ:Ze:=Zo8
def Zy7:=xw ZmZ Zo8 rfl
def Zmh:Ze:=(.seq (.region [oI 16 (.bin .lss (.t 15) (.t 14))] none [16,15,14,2,1]) (.seq (.cond (.t 16) .skip (.exit 0)) (.seq (.block 1 (.seq (.region [oI 17 (.mov (.t 15)),oI 3 (.mov (.t 17))] none [15,14,3,2,1]) (.region [oI 18 (.faddr 6 (.t 1)),oI 19 (.ld none (.t 18)),oI 20 (.mov (.t 3)),oI 21 (.faddr 6 (.t 1)),oI 22 (.ld none (.t 21)),oI 23 (.mov (.t 3)),oI 24 (.iaddr 5 (.t 22) (.t 23)),oI 25 (.faddr 4 (.t 24)),oI 26 (.ld none (.t 25)),oI 27 (.call 111 0 true [(.t 26)]),oI 28 (.iaddr 5 (.t 19) (.t 20)),oI 29 (.faddr 4 (.t 28)),oN (.st 1 (.t 29) (.t 27))] (some [(1,4),(1,6),(1,8),(1,9),(9,9)]) [15,14,2,1]))) (.region [oI 30 (.bin .add (.t 15) (.c (.int .i64 1))),oI 15 (.mov (.t 30))] none [15,14,2,1]))))
def Zri:Ze:=Zmh
def Zvq:=xw Zri Zmh rfl
def Znh:Ze:=(.seq (.region [oI 1 (.box (.t 0)),oI 2 (.alloc [(.str []),(.lst true []),(.int .i64 0),(.bool false),(.str []),(.int .i64 0),(.lst true []),(.int .i64 0),(.int .i64 0),(.int .i64 0)])] none [2,1]) (.seq (.region [oI 4 (.faddr 1 (.t 1)),oI 5 (.ld none (.t 4)),oI 6 (.call 111 1 false [(.t 5)]),oI 7 (.faddr 1 (.t 1)),oN (.st 1 (.t 7) (.t 6))] none [2,1]) (.seq (.region [oI 8 (.faddr 6 (.t 1)),oI 9 (.ld none (.t 8)),oI 10 (.call 137 1 false [(.t 9)]),oI 11 (.faddr 6 (.t 1)),oN (.st 1 (.t 11) (.t 10))] none [2,1]) (.seq (.seq (.region [oI 12 (.faddr 6 (.t 1)),oI 13 (.ld none (.t 12)),oI 14 (.len (.t 13)),oI 15 (.mov (.c (.int .i64 0)))] none [15,14,2,1]) (.block 0 (.loop [15,14,2,1] Zri))) ZmZ))))
def Zlt:ZG:=⟨[(.cell 2 (some 10))],Znh⟩
theorem ZEq:FC 93=some Zlt:=by kernel_rfl
theorem ZxU:Zlt.body=Znh:=rfl
theorem ZD7:Zlt.res=[(.cell 2 (some 10))]:=rfl
noncomputable def ZkH (m:Nat) (tm:Tms) (σ:Za):Option (AVal×Za):=(Zan m Zlt (Zbq FC PR BY m ZmZ (Option.map (ZaJ 0) (evL FC PR BY m [15,14,2,1] Zri tm σ))))
def Zrr:Ze:=(.seq (.region [oI 2 (.box (.t 0)),oI 4 (.mov (.c (.bool false)))] none [2,1]) (.seq (.region [oI 5 (.faddr 5 (.t 2)),oI 6 (.ld none (.t 5)),oI 7 (.bin .neq (.t 6) (.c (.int .i64 0))),oI 8 (.mov (.t 7)),⟨(some 9),(.mov (.t 1)),(some (8,true)),[]⟩,⟨(some 10),(.faddr 5 (.t 2)),(some (8,true)),[]⟩,⟨(some 11),(.ld none (.t 10)),(some (8,true)),[]⟩,⟨(some 12),(.bin .geq (.t 9) (.t 11)),(some (8,true)),[]⟩,oI 13 (.pick (.t 8) (.t 12) (.c (.bool false))),oI 4 (.mov (.t 13))] none [4]) .ret))
def Zo2:ZG:=⟨[(.tmp 4)],Zrr⟩
theorem ZNs:FC 45=some Zo2:=by kernel_rfl
theorem ZJX:Zo2.body=Zrr:=rfl
theorem ZJd:Zo2.res=[(.tmp 4)]:=rfl
def ZqB:Ze:=(.seq (.region [oI 63 (.ld (some 26) (.t 10)),oN (.st 26 (.t 8) (.t 63))] none [8]) .ret)
def ZqL:Ze:=ZqB
def ZFk:=xw ZqL ZqB rfl
def Zkv:Ze:=(.seq (.region [oI 52 (.bin .lss (.t 51) (.t 50))] none [52,51,50,49,10,8]) (.seq (.cond (.t 52) .skip (.exit 0)) (.seq (.block 1 (.seq (.region [oI 53 (.iaddr 1 (.t 49) (.t 51)),oI 54 (.ld none (.t 53)),oI 12 (.mov (.t 54))] none [51,50,49,12,10,8]) (.region [oI 55 (.faddr 9 (.t 10)),oI 56 (.ld none (.t 55)),oI 57 (.mov (.t 12)),oI 58 (.build [(.int .i64 0),(.int .i64 0),(.str []),(.str []),(.lst true [])] [(0,1,(.c (.int .i64 11))),(1,1,(.t 57))]),oI 59 (.bslice false 5 1 (.agg [(.int .i64 0),(.int .i64 0),(.str []),(.str []),(.lst true [])]) [(0,(.t 58))]),oI 60 (.app 5 72 (.agg [(.int .i64 0),(.int .i64 0),(.str []),(.str []),(.lst true [])]) (.t 56) (.t 59)),oI 61 (.faddr 9 (.t 10)),oN (.st 1 (.t 61) (.t 60))] none [51,50,49,10,8]))) (.region [oI 62 (.bin .add (.t 51) (.c (.int .i64 1))),oI 51 (.mov (.t 62))] none [51,50,49,10,8]))))
def Zp8:Ze:=Zkv
def ZtD:=xw Zp8 Zkv rfl
def Zh6:Ze:=(.seq (.region [oI 4 (.box (.t 0)),oI 8 (.alloc [(.int .i64 0),(.bool false),(.int .i64 0),(.bool false),(.int .i64 0),(.str []),(.lst true []),(.int .i64 0),(.lst true []),(.lst true []),(.lst true []),(.lst true []),(.bool false),(.int .i64 0),(.str []),(.bool false),(.str []),(.lst true []),(.int .i64 0),(.bool false),(.lst true []),(.bool false),(.str []),(.bool false),(.lst true []),(.bool false)])] none [8,4,3,2,1]) (.seq (.region [oI 13 (.faddr 0 (.t 4)),oI 14 (.ld (some 10) (.t 13)),oI 15 (.call 93 2 false [(.t 14)]),oI 9 (.alloc [(.str []),(.lst true []),(.int .i64 0),(.bool false),(.str []),(.int .i64 0),(.lst true []),(.int .i64 0),(.int .i64 0),(.int .i64 0)]),oN (.st 10 (.t 9) (.t 15))] none [9,8,4,3,2,1]) (.seq (.region [oI 16 (.faddr 0 (.t 9)),oI 17 (.ld none (.t 16)),oI 18 (.faddr 1 (.t 9)),oI 19 (.ld none (.t 18)),oI 20 (.faddr 10 (.t 4)),oI 21 (.ld none (.t 20)),oI 22 (.faddr 11 (.t 4)),oI 23 (.ld none (.t 22)),oI 24 (.faddr 6 (.t 9)),oI 25 (.ld none (.t 24)),oI 26 (.build [(.int .i64 0),(.bool false),(.int .i64 0),(.bool false),(.int .i64 0),(.str []),(.lst true []),(.int .i64 0),(.lst true []),(.lst true []),(.lst true []),(.lst true []),(.bool false),(.int .i64 0),(.str []),(.bool false),(.str []),(.lst true []),(.int .i64 0),(.bool false),(.lst true []),(.bool false),(.str []),(.bool false),(.lst true []),(.bool false)] [(0,1,(.c (.int .i64 3))),(5,1,(.t 17)),(6,1,(.t 19)),(2,1,(.t 21)),(3,1,(.t 23)),(9,1,(.t 25))]),oI 10 (.alloc [(.int .i64 0),(.bool false),(.int .i64 0),(.bool false),(.int .i64 0),(.str []),(.lst true []),(.int .i64 0),(.lst true []),(.lst true []),(.lst true []),(.lst true []),(.bool false),(.int .i64 0),(.str []),(.bool false),(.str []),(.lst true []),(.int .i64 0),(.bool false),(.lst true []),(.bool false),(.str []),(.bool false),(.lst true []),(.bool false)]),oN (.st 26 (.t 10) (.t 26))] none [10,9,8,4,3,2,1]) (.seq (.seq (.region [oI 27 (.faddr 10 (.t 4)),oI 28 (.ld none (.t 27)),oI 29 (.bin .gtr (.t 28) (.c (.int .i64 0)))] none [29,10,9,8,4,3,2,1]) (.cond (.t 29) (.region [oI 30 (.mov (.t 2)),oI 31 (.mov (.t 3)),oI 32 (.faddr 4 (.t 10)),oN (.st 1 (.t 32) (.t 30)),oI 33 (.faddr 1 (.t 10)),oN (.st 1 (.t 33) (.t 31))] none [10,9,8,4,1]) .skip)) (.seq (.seq (.region [oI 34 (.faddr 5 (.t 9)),oI 35 (.ld none (.t 34)),oI 36 (.bin .neq (.t 35) (.c (.int .i64 0)))] none [36,10,9,8,4,1]) (.cond (.t 36) (.region [oI 37 (.faddr 9 (.t 10)),oI 38 (.ld none (.t 37)),oI 39 (.faddr 5 (.t 9)),oI 40 (.ld none (.t 39)),oI 41 (.mov (.t 1)),oI 42 (.bin .sub (.t 40) (.t 41)),oI 43 (.mm true [(.t 42),(.c (.int .i64 0))]),oI 44 (.build [(.int .i64 0),(.int .i64 0),(.str []),(.str []),(.lst true [])] [(0,1,(.c (.int .i64 2))),(1,1,(.t 43))]),oI 45 (.bslice false 5 1 (.agg [(.int .i64 0),(.int .i64 0),(.str []),(.str []),(.lst true [])]) [(0,(.t 44))]),oI 46 (.app 5 72 (.agg [(.int .i64 0),(.int .i64 0),(.str []),(.str []),(.lst true [])]) (.t 38) (.t 45)),oI 47 (.faddr 9 (.t 10)),oN (.st 1 (.t 47) (.t 46))] none [10,8,4]) .skip)) (.seq (.seq (.region [oI 48 (.faddr 12 (.t 4)),oI 49 (.ld none (.t 48)),oI 50 (.len (.t 49)),oI 51 (.mov (.c (.int .i64 0)))] none [51,50,49,10,8]) (.block 0 (.loop [51,50,49,10,8] Zp8))) ZqL))))))
def Zks:ZG:=⟨[(.cell 8 (some 26))],Zh6⟩
theorem ZmO:FC 44=some Zks:=by kernel_rfl
theorem Zmr:Zks.body=Zh6:=rfl
theorem ZyI:Zks.res=[(.cell 8 (some 26))]:=rfl
noncomputable def Zg8 (m:Nat) (tm:Tms) (σ:Za):Option (AVal×Za):=(Zan m Zks (Zbq FC PR BY m ZqL (Option.map (ZaJ 0) (evL FC PR BY m [51,50,49,10,8] Zp8 tm σ))))
end
section
def Zk3:Ze:=(.seq (.region [oI 4 (.mov (.c (.lst true [])))] none [1,0]) (.seq (.seq (.region [oI 5 (.mov (.t 0)),oI 6 (.len (.t 5)),oI 7 (.mov (.t 1)),oI 8 (.bin .gtr (.t 6) (.t 7))] none [8,1,0]) (.cond (.t 8) (.seq (.region [oI 9 (.mov (.t 0)),oI 10 (.mov (.t 1)),oI 11 (.slice 1 (.t 9) none (some (.t 10)) none),oI 4 (.mov (.t 11))] none [4]) .ret) .skip)) (.seq (.region [oI 12 (.mov (.t 0)),oI 4 (.mov (.t 12))] none [4]) .ret)))
def ZpW:ZG:=⟨[(.tmp 4)],Zk3⟩
theorem ZHV:FC 18=some ZpW:=by kernel_rfl
theorem Zwo:ZpW.body=Zk3:=rfl
theorem ZrE:ZpW.res=[(.tmp 4)]:=rfl
def Zhu:Ze:=(.seq (.region [oI 6 (.mov (.c (.int .i64 0)))] none [2,1,0]) (.seq (.region [oI 8 (.mov (.t 2)),oI 9 (.mov (.t 1)),oI 10 (.bin .sub (.t 8) (.t 9)),oI 11 (.bin .add (.t 10) (.c (.int .i64 1))),oI 7 (.mov (.t 11))] none [7,1,0]) (.seq (.region [oI 12 (.mov (.t 0)),oI 13 (.mov (.t 7)),oI 14 (.bin .rem (.t 12) (.t 13)),oI 0 (.mov (.t 14))] none [7,1,0]) (.seq (.seq (.region [oI 15 (.mov (.t 0)),oI 16 (.bin .lss (.t 15) (.c (.int .i64 0)))] none [16,7,1,0]) (.cond (.t 16) (.region [oI 17 (.mov (.t 0)),oI 18 (.mov (.t 7)),oI 19 (.bin .add (.t 17) (.t 18)),oI 0 (.mov (.t 19))] none [1,0]) .skip)) (.seq (.region [oI 20 (.mov (.t 1)),oI 21 (.mov (.t 0)),oI 22 (.bin .add (.t 20) (.t 21)),oI 6 (.mov (.t 22))] none [6]) .ret)))))
def ZpA:ZG:=⟨[(.tmp 6)],Zhu⟩
theorem ZrB:FC 39=some ZpA:=by kernel_rfl
theorem Zl5:ZpA.body=Zhu:=rfl
theorem ZlA:ZpA.res=[(.tmp 6)]:=rfl
end
section
def Zqj:Ze:=(.seq (.region [oI 21 (.build [(.int .i64 0),(.int .i64 0),(.str []),(.str []),(.lst true [])] []),oN (.st 5 (.t 4) (.t 21)),oI 5 (.mov (.c (.bool false)))] none [5,4]) .ret)
def Zq4:Ze:=Zqj
def ZxK:=xw Zq4 Zqj rfl
def ZjC:Ze:=(.seq (.region [oI 11 (.bin .lss (.t 10) (.t 9))] none [11,10,9,8,4,0]) (.seq (.cond (.t 11) .skip (.exit 0)) (.seq (.block 1 (.seq (.region [oI 12 (.iaddr 5 (.t 8) (.t 10)),oI 13 (.ld (some 5) (.t 12)),oI 7 (.alloc [(.int .i64 0),(.int .i64 0),(.str []),(.str []),(.lst true [])]),oN (.st 5 (.t 7) (.t 13))] none [10,9,8,7,4,0]) (.seq (.region [oI 14 (.faddr 0 (.t 7)),oI 15 (.ld none (.t 14)),oI 16 (.mov (.t 0)),oI 17 (.bin .eql (.t 15) (.t 16))] none [17,10,9,8,7,4,0]) (.cond (.t 17) (.seq (.region [oI 18 (.ld (some 5) (.t 7)),oI 19 (.call 147 0 true [(.t 18)]),oN (.st 5 (.t 4) (.t 19)),oI 5 (.mov (.c (.bool true)))] none [5,4]) .ret) .skip)))) (.region [oI 20 (.bin .add (.t 10) (.c (.int .i64 1))),oI 10 (.mov (.t 20))] none [10,9,8,4,0]))))
def Zrf:Ze:=ZjC
def Zq9:=xw Zrf ZjC rfl
def Zpt:Ze:=(.seq (.region [oI 4 (.alloc [(.int .i64 0),(.int .i64 0),(.str []),(.str []),(.lst true [])]),oI 5 (.mov (.c (.bool false)))] none [4,1,0]) (.seq (.seq (.region [oI 8 (.mov (.t 1)),oI 9 (.len (.t 8)),oI 10 (.mov (.c (.int .i64 0)))] none [10,9,8,4,0]) (.block 0 (.loop [10,9,8,4,0] Zrf))) Zq4))
def ZmK:ZG:=⟨[(.cell 4 (some 5)),(.tmp 5)],Zpt⟩
theorem ZDy:FC 112=some ZmK:=by kernel_rfl
theorem ZGE:ZmK.body=Zpt:=rfl
theorem ZrF:ZmK.res=[(.cell 4 (some 5)),(.tmp 5)]:=rfl
noncomputable def Zkw (m:Nat) (tm:Tms) (σ:Za):Option (AVal×Za):=(Zan m ZmK (Zbq FC PR BY m Zq4 (Option.map (ZaJ 0) (evL FC PR BY m [10,9,8,4,0] Zrf tm σ))))
def Zrj:Ze:=(.seq (.region [oI 2 (.mov (.c (.int .i64 0)))] none [0]) (.seq (.region [oI 3 (.mov (.t 0)),oI 4 (.call 152 0 true [(.t 3)]),oI 5 (.field none 0 (.t 4)),oI 2 (.mov (.t 5))] none [2]) .ret))
def Znl:ZG:=⟨[(.tmp 2)],Zrj⟩
theorem ZKT:FC 134=some Znl:=by kernel_rfl
theorem ZKX:Znl.body=Zrj:=rfl
theorem ZwW:Znl.res=[(.tmp 2)]:=rfl
def Zgl:Ze:=(.seq (.region [oI 26 (.mov (.t 6)),oI 27 (.len (.t 26)),oI 28 (.call 82 0 true [(.t 27)]),oI 25 (.mov (.t 28)),oI 29 (.ext (.t 25) 0),oI 30 (.ext (.t 25) 1),oI 9 (.mov (.t 29)),oI 10 (.mov (.t 30))] none [10,9,6,1,0]) (.seq (.seq (.region [oI 31 (.mov (.t 10)),oI 32 (.bin .neq (.t 31) (.c (.int .i64 0)))] none [32,9,6,1,0]) (.cond (.t 32) (.seq (.region [oI 4 (.mov (.c (.lst true []))),oI 5 (.mov (.c (.int .i64 129)))] none [5,4]) .ret) .skip)) (.seq (.region [oI 33 (.mov (.t 9)),oI 34 (.mov (.t 6)),oI 35 (.bslice false 1 2 (.lst true []) [(0,(.t 33)),(1,(.t 34))]),oI 36 (.call 56 0 true [(.t 35)]),oI 6 (.mov (.t 36))] none [6,1,0]) (.seq (.region [oI 38 (.mov (.t 0)),oI 39 (.mov (.t 6)),oI 40 (.call 90 0 true [(.t 38),(.t 39)]),oI 37 (.mov (.t 40)),oI 41 (.ext (.t 37) 0),oI 42 (.ext (.t 37) 1),oI 43 (.ext (.t 37) 2),oI 11 (.mov (.t 41)),oI 12 (.mov (.t 42)),oI 13 (.mov (.t 43))] none [13,12,11,6,1]) (.seq (.seq (.region [oI 44 (.mov (.t 13)),oI 45 (.bin .neq (.t 44) (.c (.int .i64 0))),oI 46 (.mov (.t 45)),⟨(some 47),(.mov (.t 12)),(some (46,false)),[]⟩,⟨(some 48),(.mov (.t 6)),(some (46,false)),[]⟩,⟨(some 49),(.len (.t 48)),(some (46,false)),[]⟩,⟨(some 50),(.bin .neq (.t 47) (.t 49)),(some (46,false)),[]⟩,oI 51 (.pick (.t 46) (.c (.bool true)) (.t 50)),oI 52 (.mov (.t 51)),⟨(some 53),(.mov (.t 11)),(some (52,false)),[]⟩,⟨(some 54),(.mov (.t 1)),(some (52,false)),[]⟩,⟨(some 55),(.call 43 0 true [(.t 53),(.t 54)]),(some (52,false)),[]⟩,⟨(some 56),(.un .not (.t 55)),(some (52,false)),[]⟩,oI 57 (.pick (.t 52) (.c (.bool true)) (.t 56))] none [57,6]) (.cond (.t 57) (.seq (.region [oI 4 (.mov (.c (.lst true []))),oI 5 (.mov (.c (.int .i64 129)))] none [5,4]) .ret) .skip)) (.seq (.region [oI 58 (.mov (.t 6)),oI 4 (.mov (.t 58)),oI 5 (.mov (.c (.int .i64 0)))] none [5,4]) .ret))))))
def ZqY:Ze:=Zgl
def Zil:=xw ZqY Zgl rfl
def Ze3:Ze:=(.seq (.region [oI 17 (.bin .lss (.t 16) (.t 15))] none [17,16,15,14,6,1,0]) (.seq (.cond (.t 17) .skip (.exit 0)) (.seq (.block 1 (.seq (.region [oI 18 (.iaddr 5 (.t 14) (.t 16)),oI 19 (.ld (some 5) (.t 18)),oI 8 (.alloc [(.int .i64 0),(.int .i64 0),(.str []),(.str []),(.lst true [])]),oN (.st 5 (.t 8) (.t 19))] none [16,15,14,8,6,1,0]) (.region [oI 20 (.mov (.t 6)),oI 21 (.ld (some 5) (.t 8)),oI 22 (.call 89 0 true [(.t 21)]),oI 23 (.app 1 1 (.int .u8 0) (.t 20) (.t 22)),oI 6 (.mov (.t 23))] none [16,15,14,6,1,0]))) (.region [oI 24 (.bin .add (.t 16) (.c (.int .i64 1))),oI 16 (.mov (.t 24))] none [16,15,14,6,1,0]))))
def Zo1:Ze:=Ze3
def Zgu:=xw Zo1 Ze3 rfl
def ZkV:Ze:=(.seq (.region [oI 4 (.mov (.c (.lst true []))),oI 5 (.mov (.c (.int .i64 0)))] none [1,0]) (.seq (.region [oI 6 (.mov (.c (.lst true [])))] none [6,1,0]) (.seq (.seq (.region [oI 14 (.mov (.t 1)),oI 15 (.len (.t 14)),oI 16 (.mov (.c (.int .i64 0)))] none [16,15,14,6,1,0]) (.block 0 (.loop [16,15,14,6,1,0] Zo1))) ZqY)))
def ZjZ:ZG:=⟨[(.tmp 4),(.tmp 5)],ZkV⟩
theorem Zwg:FC 42=some ZjZ:=by kernel_rfl
theorem ZrV:ZjZ.body=ZkV:=rfl
theorem ZhM:ZjZ.res=[(.tmp 4),(.tmp 5)]:=rfl
noncomputable def Zji (m:Nat) (tm:Tms) (σ:Za):Option (AVal×Za):=(Zan m ZjZ (Zbq FC PR BY m ZqY (Option.map (ZaJ 0) (evL FC PR BY m [16,15,14,6,1,0] Zo1 tm σ))))
def Zi5:Ze:=(.seq (.region [oI 4 (.mov (.c (.bool false)))] none [1,0]) (.seq (.region [oI 5 (.mov (.t 1)),oI 6 (.bin .geq (.t 5) (.c (.int .i64 1))),oI 7 (.mov (.t 6)),⟨(some 8),(.mov (.t 1)),(some (7,true)),[]⟩,⟨(some 9),(.bin .leq (.t 8) (.c (.int .i64 16))),(some (7,true)),[]⟩,oI 10 (.pick (.t 7) (.t 9) (.c (.bool false))),oI 11 (.mov (.t 10)),⟨(some 12),(.mov (.t 0)),(some (11,true)),[]⟩,⟨(some 13),(.call 152 0 true [(.t 12)]),(some (11,true)),[]⟩,⟨(some 14),(.field none 1 (.t 13)),(some (11,true)),[]⟩,⟨(some 15),(.mov (.t 1)),(some (11,true)),[]⟩,⟨(some 16),(.bin .shr (.t 14) (.t 15)),(some (11,true)),[]⟩,⟨(some 17),(.bin .and (.t 16) (.c (.int .i64 1))),(some (11,true)),[]⟩,⟨(some 18),(.bin .eql (.t 17) (.c (.int .i64 1))),(some (11,true)),[]⟩,oI 19 (.pick (.t 11) (.t 18) (.c (.bool false))),oI 4 (.mov (.t 19))] none [4]) .ret))
def Zp5:ZG:=⟨[(.tmp 4)],Zi5⟩
theorem ZJG:FC 153=some Zp5:=by kernel_rfl
theorem Zp0:Zp5.body=Zi5:=rfl
theorem ZnZ:Zp5.res=[(.tmp 4)]:=rfl
def ZkQ:Ze:=(.seq (.region [oI 57 (.mov (.t 4)),oI 58 (.mov (.t 8)),oI 59 (.mov (.t 7)),oI 60 (.bin .add (.t 58) (.t 59)),oI 4 (.mov (.t 57)),oI 5 (.mov (.t 60)),oI 6 (.mov (.c (.int .i64 0)))] none [6,5,4]) .ret)
def Zqy:Ze:=ZkQ
def Zux:=xw Zqy ZkQ rfl
def Zgi:Ze:=(.seq (.seq (.region [oI 36 (.mov (.t 10)),oI 37 (.len (.t 36)),oI 38 (.bin .gtr (.t 37) (.c (.int .i64 0)))] none [38,10,8,7,4,0]) (.cond (.t 38) .skip (.exit 0))) (.block 1 (.seq (.region [oI 40 (.mov (.t 0)),oI 41 (.mov (.t 10)),oI 42 (.mov (.t 4)),oI 43 (.call 136 0 true [(.t 40),(.t 41),(.t 42)]),oI 39 (.mov (.t 43)),oI 44 (.ext (.t 39) 0),oI 45 (.ext (.t 39) 1),oI 46 (.ext (.t 39) 2),oI 11 (.alloc [(.int .i64 0),(.int .i64 0),(.str []),(.str []),(.lst true [])]),oN (.st 5 (.t 11) (.t 44)),oI 12 (.mov (.t 45)),oI 13 (.mov (.t 46))] none [13,12,11,10,8,7,4,0]) (.seq (.seq (.region [oI 47 (.mov (.t 13)),oI 48 (.bin .neq (.t 47) (.c (.int .i64 0)))] none [48,13,12,11,10,8,7,4,0]) (.cond (.t 48) (.seq (.region [oI 49 (.mov (.t 13)),oI 4 (.mov (.c (.lst true []))),oI 5 (.mov (.c (.int .i64 0))),oI 6 (.mov (.t 49))] none [6,5,4]) .ret) .skip)) (.seq (.region [oI 50 (.mov (.t 4)),oI 51 (.ld (some 5) (.t 11)),oI 52 (.bslice false 5 1 (.agg [(.int .i64 0),(.int .i64 0),(.str []),(.str []),(.lst true [])]) [(0,(.t 51))]),oI 53 (.app 5 72 (.agg [(.int .i64 0),(.int .i64 0),(.str []),(.str []),(.lst true [])]) (.t 50) (.t 52)),oI 4 (.mov (.t 53))] none [12,10,8,7,4,0]) (.region [oI 54 (.mov (.t 10)),oI 55 (.mov (.t 12)),oI 56 (.slice 1 (.t 54) (some (.t 55)) none none),oI 10 (.mov (.t 56))] none [10,8,7,4,0]))))))
def Znw:Ze:=Zgi
def ZhA:=xw Znw Zgi rfl
def Zi2:Ze:=(.seq (.region [oI 4 (.mov (.c (.lst true []))),oI 5 (.mov (.c (.int .i64 0))),oI 6 (.mov (.c (.int .i64 0)))] none [4,1,0]) (.seq (.region [oI 15 (.mov (.t 1)),oI 16 (.call 135 0 true [(.t 15)]),oI 14 (.mov (.t 16)),oI 17 (.ext (.t 14) 0),oI 18 (.ext (.t 14) 1),oI 19 (.ext (.t 14) 2),oI 7 (.mov (.t 17)),oI 8 (.mov (.t 18)),oI 9 (.mov (.t 19))] none [9,8,7,4,1,0]) (.seq (.seq (.region [oI 20 (.mov (.t 9)),oI 21 (.bin .neq (.t 20) (.c (.int .i64 0))),oI 22 (.mov (.t 21)),⟨(some 23),(.mov (.t 7)),(some (22,false)),[]⟩,⟨(some 24),(.mov (.t 1)),(some (22,false)),[]⟩,⟨(some 25),(.len (.t 24)),(some (22,false)),[]⟩,⟨(some 26),(.mov (.t 8)),(some (22,false)),[]⟩,⟨(some 27),(.bin .sub (.t 25) (.t 26)),(some (22,false)),[]⟩,⟨(some 28),(.bin .gtr (.t 23) (.t 27)),(some (22,false)),[]⟩,oI 29 (.pick (.t 22) (.c (.bool true)) (.t 28))] none [29,8,7,4,1,0]) (.cond (.t 29) (.seq (.region [oI 4 (.mov (.c (.lst true []))),oI 5 (.mov (.c (.int .i64 0))),oI 6 (.mov (.c (.int .i64 129)))] none [6,5,4]) .ret) .skip)) (.seq (.seq (.region [oI 30 (.mov (.t 1)),oI 31 (.mov (.t 8)),oI 32 (.mov (.t 8)),oI 33 (.mov (.t 7)),oI 34 (.bin .add (.t 32) (.t 33)),oI 35 (.slice 1 (.t 30) (some (.t 31)) (some (.t 34)) none),oI 10 (.mov (.t 35))] none [10,8,7,4,0]) (.block 0 (.loop [10,8,7,4,0] Znw))) Zqy))))
def ZlI:ZG:=⟨[(.tmp 4),(.tmp 5),(.tmp 6)],Zi2⟩
theorem Zok:FC 90=some ZlI:=by kernel_rfl
theorem Zpc:ZlI.body=Zi2:=rfl
theorem Zh4:ZlI.res=[(.tmp 4),(.tmp 5),(.tmp 6)]:=rfl
noncomputable def ZhB (m:Nat) (tm:Tms) (σ:Za):Option (AVal×Za):=(Zan m ZlI (Zbq FC PR BY m Zqy (Option.map (ZaJ 0) (evL FC PR BY m [10,8,7,4,0] Znw tm σ))))
def Znt:Ze:=(.seq (.region [oI 4 (.mov (.c (.bool false)))] none [1,0]) (.seq (.region [oI 5 (.mov (.t 0)),oI 6 (.mov (.t 1)),oI 7 (.call 91 0 true [(.t 5),(.t 6),(.c (.fn 92 []))]),oI 4 (.mov (.t 7))] none [4]) .ret))
def ZpE:ZG:=⟨[(.tmp 4)],Znt⟩
theorem ZJe:FC 43=some ZpE:=by kernel_rfl
theorem ZEQ:ZpE.body=Znt:=rfl
theorem Zzg:ZpE.res=[(.tmp 4)]:=rfl
def Zp7:Ze:=(.seq (.region [oI 2 (.box (.t 0)),oI 3 (.box (.t 1)),oI 4 (.mov (.c (.bool false)))] none [3,2]) (.seq (.region [oI 5 (.faddr 0 (.t 2)),oI 6 (.ld none (.t 5)),oI 7 (.faddr 0 (.t 3)),oI 8 (.ld none (.t 7)),oI 9 (.bin .eql (.t 6) (.t 8)),oI 10 (.mov (.t 9)),⟨(some 11),(.faddr 1 (.t 2)),(some (10,true)),[]⟩,⟨(some 12),(.ld none (.t 11)),(some (10,true)),[]⟩,⟨(some 13),(.faddr 1 (.t 3)),(some (10,true)),[]⟩,⟨(some 14),(.ld none (.t 13)),(some (10,true)),[]⟩,⟨(some 15),(.bin .eql (.t 12) (.t 14)),(some (10,true)),[]⟩,oI 16 (.pick (.t 10) (.t 15) (.c (.bool false))),oI 17 (.mov (.t 16)),⟨(some 18),(.faddr 2 (.t 2)),(some (17,true)),[]⟩,⟨(some 19),(.ld none (.t 18)),(some (17,true)),[]⟩,⟨(some 20),(.faddr 2 (.t 3)),(some (17,true)),[]⟩,⟨(some 21),(.ld none (.t 20)),(some (17,true)),[]⟩,⟨(some 22),(.bin .eql (.t 19) (.t 21)),(some (17,true)),[]⟩,oI 23 (.pick (.t 17) (.t 22) (.c (.bool false))),oI 24 (.mov (.t 23)),⟨(some 25),(.faddr 3 (.t 2)),(some (24,true)),[]⟩,⟨(some 26),(.ld none (.t 25)),(some (24,true)),[]⟩,⟨(some 27),(.faddr 3 (.t 3)),(some (24,true)),[]⟩,⟨(some 28),(.ld none (.t 27)),(some (24,true)),[]⟩,⟨(some 29),(.bin .eql (.t 26) (.t 28)),(some (24,true)),[]⟩,oI 30 (.pick (.t 24) (.t 29) (.c (.bool false))),oI 31 (.mov (.t 30)),⟨(some 32),(.faddr 4 (.t 2)),(some (31,true)),[]⟩,⟨(some 33),(.ld none (.t 32)),(some (31,true)),[]⟩,⟨(some 34),(.b2s (.t 33)),(some (31,true)),[]⟩,⟨(some 35),(.faddr 4 (.t 3)),(some (31,true)),[]⟩,⟨(some 36),(.ld none (.t 35)),(some (31,true)),[]⟩,⟨(some 37),(.b2s (.t 36)),(some (31,true)),[]⟩,⟨(some 38),(.bin .eql (.t 34) (.t 37)),(some (31,true)),[]⟩,oI 39 (.pick (.t 31) (.t 38) (.c (.bool false))),oI 4 (.mov (.t 39))] none [4]) .ret))
def Znm:ZG:=⟨[(.tmp 4)],Zp7⟩
theorem ZCV:FC 92=some Znm:=by kernel_rfl
theorem ZHG:Znm.body=Zp7:=rfl
theorem ZPx:Znm.res=[(.tmp 4)]:=rfl
def ZoA:Ze:=(.seq (.region [oI 1 (.box (.t 0)),oI 2 (.alloc [(.int .i64 0),(.int .i64 0),(.str []),(.str []),(.lst true [])])] none [2,1]) (.seq (.region [oI 3 (.faddr 4 (.t 1)),oI 4 (.ld none (.t 3)),oI 5 (.call 111 0 true [(.t 4)]),oI 6 (.faddr 4 (.t 1)),oN (.st 1 (.t 6) (.t 5))] none [2,1]) (.seq (.region [oI 7 (.ld (some 5) (.t 1)),oN (.st 5 (.t 2) (.t 7))] none [2]) .ret)))
def Zq0:ZG:=⟨[(.cell 2 (some 5))],ZoA⟩
theorem ZH2:FC 147=some Zq0:=by kernel_rfl
theorem ZJD:Zq0.body=ZoA:=rfl
theorem Zz2:Zq0.res=[(.cell 2 (some 5))]:=rfl
def ZpF:Ze:=(.seq (.region [oI 1 (.box (.t 0)),oI 2 (.mov (.c (.bool false)))] none [1]) (.seq (.seq (.region [oI 3 (.faddr 0 (.t 1)),oI 4 (.ld none (.t 3))] none [4,1]) (.block 0 (.seq (.seq (.region [oI 6 (.bin .eql (.t 4) (.c (.int .i64 11))),oI 5 (.mov (.t 6))] none [5,4,1]) (.cond (.t 5) .skip (.seq (.region [oI 7 (.bin .eql (.t 4) (.c (.int .i64 33))),oI 5 (.mov (.t 7))] none [5,4,1]) (.cond (.t 5) .skip (.seq (.region [oI 8 (.bin .eql (.t 4) (.c (.int .i64 35))),oI 5 (.mov (.t 8))] none [5,4,1]) (.cond (.t 5) .skip (.region [oI 9 (.bin .eql (.t 4) (.c (.int .i64 39))),oI 5 (.mov (.t 9))] none [5,1]))))))) (.cond (.t 5) (.seq (.region [oI 10 (.faddr 1 (.t 1)),oI 11 (.ld none (.t 10)),oI 12 (.bin .neq (.t 11) (.c (.int .i64 0))),oI 2 (.mov (.t 12))] none [2]) .ret) .skip)))) (.seq (.region [oI 13 (.faddr 0 (.t 1)),oI 14 (.ld none (.t 13)),oI 15 (.call 134 0 true [(.t 14)]),oI 16 (.bin .neq (.t 15) (.c (.int .i64 1))),oI 17 (.mov (.t 16)),⟨(some 18),(.faddr 1 (.t 1)),(some (17,false)),[]⟩,⟨(some 19),(.ld none (.t 18)),(some (17,false)),[]⟩,⟨(some 20),(.bin .leq (.t 19) (.c (.int .i64 1))),(some (17,false)),[]⟩,oI 21 (.pick (.t 17) (.c (.bool true)) (.t 20)),oI 2 (.mov (.t 21))] none [2]) .ret)))
def Znd:ZG:=⟨[(.tmp 2)],ZpF⟩
theorem Zz8:FC 156=some Znd:=by kernel_rfl
theorem ZJt:Znd.body=ZpF:=rfl
theorem ZHy:Znd.res=[(.tmp 2)]:=rfl
def Ze1:Ze:=(.seq (.region [oI 1 (.box (.t 0)),oI 2 (.mov (.c (.lst true [])))] none [1]) (.seq (.region [oI 8 (.faddr 0 (.t 1)),oI 9 (.ld none (.t 8)),oI 10 (.call 82 0 true [(.t 9)]),oI 7 (.mov (.t 10)),oI 11 (.ext (.t 7) 0),oI 12 (.ext (.t 7) 1),oI 3 (.mov (.t 11)),oI 4 (.mov (.t 12))] none [3,1]) (.seq (.region [oI 5 (.mov (.c (.lst true []))),oI 6 (.mov (.c (.lst true [])))] none [6,5,3,1]) (.seq (.seq (.region [oI 13 (.faddr 0 (.t 1)),oI 14 (.ld none (.t 13)),oI 15 (.call 134 0 true [(.t 14)])] none [15,6,5,3,1]) (.block 0 (.seq (.seq (.region [oI 17 (.bin .eql (.t 15) (.c (.int .i64 1))),oI 16 (.mov (.t 17))] none [16,15,6,5,3,1]) (.cond (.t 16) .skip (.seq (.region [oI 18 (.bin .eql (.t 15) (.c (.int .i64 2))),oI 16 (.mov (.t 18))] none [16,15,6,5,3,1]) (.cond (.t 16) .skip (.region [oI 19 (.bin .eql (.t 15) (.c (.int .i64 3))),oI 16 (.mov (.t 19))] none [16,15,6,5,3,1]))))) (.cond (.t 16) (.region [oI 20 (.faddr 1 (.t 1)),oI 21 (.ld none (.t 20)),oI 22 (.i2i .u64 (.t 21)),oI 23 (.faddr 0 (.t 1)),oI 24 (.ld none (.t 23)),oI 25 (.call 134 0 true [(.t 24)]),oI 26 (.bin .sub (.t 25) (.c (.int .i64 1))),oI 27 (.bin .shl (.c (.int .i64 1)) (.t 26)),oI 28 (.call 59 0 true [(.t 22),(.t 27)]),oI 5 (.mov (.t 28))] (some [(1,4),(1,5),(5,5),(8,8)]) [6,5,3]) (.seq (.region [oI 30 (.bin .eql (.t 15) (.c (.int .i64 4))),oI 29 (.mov (.t 30))] none [29,15,6,5,3,1]) (.cond (.t 29) (.region [oI 32 (.faddr 1 (.t 1)),oI 33 (.ld none (.t 32)),oI 34 (.call 82 0 true [(.t 33)]),oI 31 (.mov (.t 34)),oI 35 (.ext (.t 31) 0),oI 36 (.ext (.t 31) 1),oI 5 (.mov (.t 35))] none [6,5,3]) (.seq (.region [oI 38 (.bin .eql (.t 15) (.c (.int .i64 5))),oI 37 (.mov (.t 38))] none [37,15,6,5,3,1]) (.cond (.t 37) (.region [oI 40 (.faddr 2 (.t 1)),oI 41 (.ld none (.t 40)),oI 42 (.call 54 0 true [(.t 41)]),oI 39 (.mov (.t 42)),oI 43 (.ext (.t 39) 0),oI 44 (.ext (.t 39) 1),oI 5 (.mov (.t 43))] none [6,5,3]) (.seq (.region [oI 46 (.bin .eql (.t 15) (.c (.int .i64 6))),oI 45 (.mov (.t 46))] none [45,15,6,5,3,1]) (.cond (.t 45) (.region [oI 48 (.faddr 4 (.t 1)),oI 49 (.ld none (.t 48)),oI 50 (.call 55 0 true [(.t 49)]),oI 47 (.mov (.t 50)),oI 51 (.ext (.t 47) 0),oI 52 (.ext (.t 47) 1),oI 5 (.mov (.t 51))] none [6,5,3]) (.seq (.region [oI 54 (.bin .eql (.t 15) (.c (.int .i64 7))),oI 53 (.mov (.t 54))] none [53,6,5,3,1]) (.cond (.t 53) (.seq (.region [oI 56 (.faddr 2 (.t 1)),oI 57 (.ld none (.t 56)),oI 58 (.call 54 0 true [(.t 57)]),oI 55 (.mov (.t 58)),oI 59 (.ext (.t 55) 0),oI 60 (.ext (.t 55) 1),oI 5 (.mov (.t 59))] none [5,3,1]) (.region [oI 62 (.faddr 3 (.t 1)),oI 63 (.ld none (.t 62)),oI 64 (.call 54 0 true [(.t 63)]),oI 61 (.mov (.t 64)),oI 65 (.ext (.t 61) 0),oI 66 (.ext (.t 61) 1),oI 6 (.mov (.t 65))] none [6,5,3])) .skip)))))))))))) (.seq (.region [oI 67 (.mov (.t 3)),oI 68 (.mov (.t 5)),oI 69 (.mov (.t 6)),oI 70 (.bslice false 1 3 (.lst true []) [(0,(.t 67)),(1,(.t 68)),(2,(.t 69))]),oI 71 (.call 56 0 true [(.t 70)]),oI 2 (.mov (.t 71))] none [2]) .ret)))))
def Znj:ZG:=⟨[(.tmp 2)],Ze1⟩
theorem Zf9:FC 89=some Znj:=by kernel_rfl
theorem Zgv:Znj.body=Ze1:=rfl
theorem Zgd:Znj.res=[(.tmp 2)]:=rfl
def Zox:Ze:=(.seq (.region [oI 2 (.alloc [(.int .i64 0),(.int .i64 0)])] none [2,0]) (.seq (.seq (.region [oI 3 (.mov (.t 0))] none [3,2]) (.block 0 (.seq (.region [oI 5 (.bin .eql (.t 3) (.c (.int .i64 1))),oI 4 (.mov (.t 5))] none [4,3,2]) (.cond (.t 4) (.seq (.region [oI 6 (.bslice false 1 2 (.int .i64 0) [(0,(.c (.int .i64 3))),(1,(.c (.int .i64 16)))]),oI 7 (.call 162 0 true [(.t 6)]),oI 8 (.build [(.int .i64 0),(.int .i64 0)] [(0,1,(.c (.int .i64 1))),(1,1,(.t 7))]),oN (.st 2 (.t 2) (.t 8))] none [2]) .ret) (.seq (.region [oI 10 (.bin .eql (.t 3) (.c (.int .i64 2))),oI 9 (.mov (.t 10))] none [9,3,2]) (.cond (.t 9) (.seq (.region [oI 11 (.bslice false 1 2 (.int .i64 0) [(0,(.c (.int .i64 3))),(1,(.c (.int .i64 16)))]),oI 12 (.call 162 0 true [(.t 11)]),oI 13 (.build [(.int .i64 0),(.int .i64 0)] [(0,1,(.c (.int .i64 3))),(1,1,(.t 12))]),oN (.st 2 (.t 2) (.t 13))] none [2]) .ret) (.seq (.seq (.region [oI 15 (.bin .eql (.t 3) (.c (.int .i64 3))),oI 14 (.mov (.t 15))] none [14,3,2]) (.cond (.t 14) .skip (.region [oI 16 (.bin .eql (.t 3) (.c (.int .i64 8))),oI 14 (.mov (.t 16))] none [14,3,2]))) (.cond (.t 14) (.seq (.region [oI 17 (.bslice false 1 2 (.int .i64 0) [(0,(.c (.int .i64 3))),(1,(.c (.int .i64 16)))]),oI 18 (.call 162 0 true [(.t 17)]),oI 19 (.build [(.int .i64 0),(.int .i64 0)] [(0,1,(.c (.int .i64 5))),(1,1,(.t 18))]),oN (.st 2 (.t 2) (.t 19))] none [2]) .ret) (.seq (.region [oI 21 (.bin .eql (.t 3) (.c (.int .i64 9))),oI 20 (.mov (.t 21))] none [20,3,2]) (.cond (.t 20) (.seq (.region [oI 22 (.bslice false 1 2 (.int .i64 0) [(0,(.c (.int .i64 3))),(1,(.c (.int .i64 16)))]),oI 23 (.call 162 0 true [(.t 22)]),oI 24 (.build [(.int .i64 0),(.int .i64 0)] [(0,1,(.c (.int .i64 6))),(1,1,(.t 23))]),oN (.st 2 (.t 2) (.t 24))] none [2]) .ret) (.seq (.region [oI 26 (.bin .eql (.t 3) (.c (.int .i64 11))),oI 25 (.mov (.t 26))] none [25,3,2]) (.cond (.t 25) (.seq (.region [oI 27 (.bslice false 1 2 (.int .i64 0) [(0,(.c (.int .i64 3))),(1,(.c (.int .i64 8)))]),oI 28 (.call 162 0 true [(.t 27)]),oI 29 (.build [(.int .i64 0),(.int .i64 0)] [(0,1,(.c (.int .i64 4))),(1,1,(.t 28))]),oN (.st 2 (.t 2) (.t 29))] none [2]) .ret) (.seq (.region [oI 31 (.bin .eql (.t 3) (.c (.int .i64 17))),oI 30 (.mov (.t 31))] none [30,3,2]) (.cond (.t 30) (.seq (.region [oI 32 (.bslice false 1 3 (.int .i64 0) [(0,(.c (.int .i64 1))),(1,(.c (.int .i64 2))),(2,(.c (.int .i64 14)))]),oI 33 (.call 162 0 true [(.t 32)]),oI 34 (.build [(.int .i64 0),(.int .i64 0)] [(0,1,(.c (.int .i64 3))),(1,1,(.t 33))]),oN (.st 2 (.t 2) (.t 34))] none [2]) .ret) (.seq (.seq (.region [oI 36 (.bin .eql (.t 3) (.c (.int .i64 18))),oI 35 (.mov (.t 36))] none [35,3,2]) (.cond (.t 35) .skip (.region [oI 37 (.bin .eql (.t 3) (.c (.int .i64 26))),oI 35 (.mov (.t 37))] none [35,3,2]))) (.cond (.t 35) (.seq (.region [oI 38 (.bslice false 1 1 (.int .i64 0) [(0,(.c (.int .i64 2)))]),oI 39 (.call 162 0 true [(.t 38)]),oI 40 (.build [(.int .i64 0),(.int .i64 0)] [(0,1,(.c (.int .i64 5))),(1,1,(.t 39))]),oN (.st 2 (.t 2) (.t 40))] none [2]) .ret) (.seq (.region [oI 42 (.bin .eql (.t 3) (.c (.int .i64 19))),oI 41 (.mov (.t 42))] none [41,3,2]) (.cond (.t 41) (.seq (.region [oI 43 (.bslice false 1 1 (.int .i64 0) [(0,(.c (.int .i64 2)))]),oI 44 (.call 162 0 true [(.t 43)]),oI 45 (.build [(.int .i64 0),(.int .i64 0)] [(0,1,(.c (.int .i64 2))),(1,1,(.t 44))]),oN (.st 2 (.t 2) (.t 45))] none [2]) .ret) (.seq (.region [oI 47 (.bin .eql (.t 3) (.c (.int .i64 21))),oI 46 (.mov (.t 47))] none [46,3,2]) (.cond (.t 46) (.seq (.region [oI 48 (.bslice false 1 3 (.int .i64 0) [(0,(.c (.int .i64 1))),(1,(.c (.int .i64 2))),(2,(.c (.int .i64 15)))]),oI 49 (.call 162 0 true [(.t 48)]),oI 50 (.build [(.int .i64 0),(.int .i64 0)] [(0,1,(.c (.int .i64 5))),(1,1,(.t 49))]),oN (.st 2 (.t 2) (.t 50))] none [2]) .ret) (.seq (.region [oI 52 (.bin .eql (.t 3) (.c (.int .i64 22))),oI 51 (.mov (.t 52))] none [51,3,2]) (.cond (.t 51) (.seq (.region [oI 53 (.bslice false 1 3 (.int .i64 0) [(0,(.c (.int .i64 1))),(1,(.c (.int .i64 2))),(2,(.c (.int .i64 15)))]),oI 54 (.call 162 0 true [(.t 53)]),oI 55 (.build [(.int .i64 0),(.int .i64 0)] [(0,1,(.c (.int .i64 6))),(1,1,(.t 54))]),oN (.st 2 (.t 2) (.t 55))] none [2]) .ret) (.seq (.seq (.region [oI 57 (.bin .eql (.t 3) (.c (.int .i64 23))),oI 56 (.mov (.t 57))] none [56,3,2]) (.cond (.t 56) .skip (.region [oI 58 (.bin .eql (.t 3) (.c (.int .i64 25))),oI 56 (.mov (.t 58))] none [56,3,2]))) (.cond (.t 56) (.seq (.region [oI 59 (.bslice false 1 1 (.int .i64 0) [(0,(.c (.int .i64 1)))]),oI 60 (.call 162 0 true [(.t 59)]),oI 61 (.build [(.int .i64 0),(.int .i64 0)] [(0,1,(.c (.int .i64 1))),(1,1,(.t 60))]),oN (.st 2 (.t 2) (.t 61))] none [2]) .ret) (.seq (.region [oI 63 (.bin .eql (.t 3) (.c (.int .i64 24))),oI 62 (.mov (.t 63))] none [62,3,2]) (.cond (.t 62) (.seq (.region [oI 64 (.bslice false 1 1 (.int .i64 0) [(0,(.c (.int .i64 16)))]),oI 65 (.call 162 0 true [(.t 64)]),oI 66 (.build [(.int .i64 0),(.int .i64 0)] [(0,1,(.c (.int .i64 3))),(1,1,(.t 65))]),oN (.st 2 (.t 2) (.t 66))] none [2]) .ret) (.seq (.region [oI 68 (.bin .eql (.t 3) (.c (.int .i64 28))),oI 67 (.mov (.t 68))] none [67,3,2]) (.cond (.t 67) (.seq (.region [oI 69 (.bslice false 1 2 (.int .i64 0) [(0,(.c (.int .i64 2))),(1,(.c (.int .i64 14)))]),oI 70 (.call 162 0 true [(.t 69)]),oI 71 (.build [(.int .i64 0),(.int .i64 0)] [(0,1,(.c (.int .i64 5))),(1,1,(.t 70))]),oN (.st 2 (.t 2) (.t 71))] none [2]) .ret) (.seq (.region [oI 73 (.bin .eql (.t 3) (.c (.int .i64 31))),oI 72 (.mov (.t 73))] none [72,3,2]) (.cond (.t 72) (.seq (.region [oI 74 (.bslice false 1 9 (.int .i64 0) [(0,(.c (.int .i64 2))),(1,(.c (.int .i64 4))),(2,(.c (.int .i64 5))),(3,(.c (.int .i64 6))),(4,(.c (.int .i64 7))),(5,(.c (.int .i64 9))),(6,(.c (.int .i64 11))),(7,(.c (.int .i64 14))),(8,(.c (.int .i64 15)))]),oI 75 (.call 162 0 true [(.t 74)]),oI 76 (.build [(.int .i64 0),(.int .i64 0)] [(0,1,(.c (.int .i64 5))),(1,1,(.t 75))]),oN (.st 2 (.t 2) (.t 76))] none [2]) .ret) (.seq (.seq (.region [oI 78 (.bin .eql (.t 3) (.c (.int .i64 33))),oI 77 (.mov (.t 78))] none [77,3,2]) (.cond (.t 77) .skip (.region [oI 79 (.bin .eql (.t 3) (.c (.int .i64 34))),oI 77 (.mov (.t 79))] none [77,3,2]))) (.cond (.t 77) (.seq (.region [oI 80 (.bslice false 1 2 (.int .i64 0) [(0,(.c (.int .i64 1))),(1,(.c (.int .i64 2)))]),oI 81 (.call 162 0 true [(.t 80)]),oI 82 (.build [(.int .i64 0),(.int .i64 0)] [(0,1,(.c (.int .i64 2))),(1,1,(.t 81))]),oN (.st 2 (.t 2) (.t 82))] none [2]) .ret) (.seq (.region [oI 84 (.bin .eql (.t 3) (.c (.int .i64 35))),oI 83 (.mov (.t 84))] none [83,3,2]) (.cond (.t 83) (.seq (.region [oI 85 (.bslice false 1 1 (.int .i64 0) [(0,(.c (.int .i64 3)))]),oI 86 (.call 162 0 true [(.t 85)]),oI 87 (.build [(.int .i64 0),(.int .i64 0)] [(0,1,(.c (.int .i64 2))),(1,1,(.t 86))]),oN (.st 2 (.t 2) (.t 87))] none [2]) .ret) (.seq (.region [oI 89 (.bin .eql (.t 3) (.c (.int .i64 39))),oI 88 (.mov (.t 89))] none [88,3,2]) (.cond (.t 88) (.seq (.region [oI 90 (.bslice false 1 2 (.int .i64 0) [(0,(.c (.int .i64 1))),(1,(.c (.int .i64 2)))]),oI 91 (.call 162 0 true [(.t 90)]),oI 92 (.build [(.int .i64 0),(.int .i64 0)] [(0,1,(.c (.int .i64 3))),(1,1,(.t 91))]),oN (.st 2 (.t 2) (.t 92))] none [2]) .ret) (.seq (.seq (.region [oI 94 (.bin .eql (.t 3) (.c (.int .i64 36))),oI 93 (.mov (.t 94))] none [93,3,2]) (.cond (.t 93) .skip (.seq (.region [oI 95 (.bin .eql (.t 3) (.c (.int .i64 37))),oI 93 (.mov (.t 95))] none [93,3,2]) (.cond (.t 93) .skip (.seq (.region [oI 96 (.bin .eql (.t 3) (.c (.int .i64 40))),oI 93 (.mov (.t 96))] none [93,3,2]) (.cond (.t 93) .skip (.seq (.region [oI 97 (.bin .eql (.t 3) (.c (.int .i64 41))),oI 93 (.mov (.t 97))] none [93,3,2]) (.cond (.t 93) .skip (.region [oI 98 (.bin .eql (.t 3) (.c (.int .i64 42))),oI 93 (.mov (.t 98))] none [93,3,2]))))))))) (.cond (.t 93) (.seq (.region [oI 99 (.bslice false 1 1 (.int .i64 0) [(0,(.c (.int .i64 2)))]),oI 100 (.call 162 0 true [(.t 99)]),oI 101 (.build [(.int .i64 0),(.int .i64 0)] [(0,1,(.c (.int .i64 1))),(1,1,(.t 100))]),oN (.st 2 (.t 2) (.t 101))] none [2]) .ret) (.seq (.region [oI 103 (.bin .eql (.t 3) (.c (.int .i64 38))),oI 102 (.mov (.t 103))] none [102,2]) (.cond (.t 102) (.seq (.region [oI 104 (.bslice false 1 3 (.int .i64 0) [(0,(.c (.int .i64 0))),(1,(.c (.int .i64 12))),(2,(.c (.int .i64 13)))]),oI 105 (.call 162 0 true [(.t 104)]),oI 106 (.un .xor (.t 105)),oI 107 (.build [(.int .i64 0),(.int .i64 0)] [(0,1,(.c (.int .i64 7))),(1,1,(.t 106))]),oN (.st 2 (.t 2) (.t 107))] none [2]) .ret) .skip)))))))))))))))))))))))))))))))))))))))) (.seq (.region [oI 108 (.build [(.int .i64 0),(.int .i64 0)] []),oN (.st 2 (.t 2) (.t 108))] none [2]) .ret)))
def ZnG:ZG:=⟨[(.cell 2 (some 2))],Zox⟩
theorem Zxv:FC 152=some ZnG:=by kernel_rfl
theorem ZLn:ZnG.body=Zox:=rfl
theorem ZC3:ZnG.res=[(.cell 2 (some 2))]:=rfl
def Zql:Ze:=(.seq (.region [oI 4 (.mov (.c (.bool false)))] none [1,0]) (.seq (.region [oI 5 (.mov (.t 0)),oI 6 (.bin .eql (.t 5) (.c (.int .i64 38))),oI 7 (.mov (.t 6)),⟨(some 8),(.mov (.t 0)),(some (7,false)),[]⟩,⟨(some 9),(.bin .eql (.t 8) (.c (.int .i64 11))),(some (7,false)),[]⟩,⟨(some 10),(.mov (.t 9)),(some (7,false)),[]⟩,⟨(some 11),(.mov (.t 1)),(some (10,true)),[]⟩,⟨(some 12),(.bin .eql (.t 11) (.c (.int .i64 3))),(some (10,true)),[]⟩,⟨(some 13),(.pick (.t 10) (.t 12) (.c (.bool false))),(some (7,false)),[]⟩,oI 14 (.pick (.t 7) (.c (.bool true)) (.t 13)),oI 4 (.mov (.t 14))] none [4]) .ret))
def Zqk:ZG:=⟨[(.tmp 4)],Zql⟩
theorem ZFu:FC 155=some Zqk:=by kernel_rfl
theorem ZMU:Zqk.body=Zql:=rfl
theorem Zyo:Zqk.res=[(.tmp 4)]:=rfl
def Ze6:Ze:=(.seq (.region [oI 6 (.alloc [(.int .i64 0),(.int .i64 0),(.str []),(.str []),(.lst true [])]),oI 7 (.mov (.c (.int .i64 0))),oI 8 (.mov (.c (.int .i64 0)))] none [6,2,1,0]) (.seq (.region [oI 16 (.mov (.t 1)),oI 17 (.call 135 0 true [(.t 16)]),oI 15 (.mov (.t 17)),oI 18 (.ext (.t 15) 0),oI 19 (.ext (.t 15) 1),oI 20 (.ext (.t 15) 2),oI 9 (.mov (.t 18)),oI 10 (.mov (.t 19)),oI 11 (.mov (.t 20))] none [11,10,9,6,2,1,0]) (.seq (.seq (.region [oI 21 (.mov (.t 11)),oI 22 (.bin .neq (.t 21) (.c (.int .i64 0))),oI 23 (.mov (.t 22)),⟨(some 24),(.mov (.t 9)),(some (23,false)),[]⟩,⟨(some 25),(.mov (.t 0)),(some (23,false)),[]⟩,⟨(some 26),(.call 153 0 true [(.t 24),(.t 25)]),(some (23,false)),[]⟩,⟨(some 27),(.un .not (.t 26)),(some (23,false)),[]⟩,oI 28 (.pick (.t 23) (.c (.bool true)) (.t 27))] none [28,10,9,6,2,1,0]) (.cond (.t 28) (.seq (.region [oI 29 (.ld (some 5) (.t 6)),oN (.st 5 (.t 6) (.t 29)),oI 7 (.mov (.c (.int .i64 0))),oI 8 (.mov (.c (.int .i64 129)))] none [8,7,6]) .ret) .skip)) (.seq (.region [oI 31 (.mov (.t 9)),oI 32 (.mov (.t 1)),oI 33 (.mov (.t 10)),oI 34 (.slice 1 (.t 32) (some (.t 33)) none none),oI 35 (.call 154 0 true [(.t 31),(.t 34)]),oI 30 (.mov (.t 35)),oI 36 (.ext (.t 30) 0),oI 37 (.ext (.t 30) 1),oI 38 (.ext (.t 30) 2),oN (.st 5 (.t 6) (.t 36)),oI 7 (.mov (.t 37)),oI 12 (.mov (.t 38))] none [12,10,9,7,6,2,0]) (.seq (.region [oI 40 (.mov (.t 9)),oI 41 (.mov (.t 2)),oI 42 (.call 112 0 true [(.t 40),(.t 41)]),oI 39 (.mov (.t 42)),oI 43 (.ext (.t 39) 0),oI 44 (.ext (.t 39) 1),oI 13 (.alloc [(.int .i64 0),(.int .i64 0),(.str []),(.str []),(.lst true [])]),oN (.st 5 (.t 13) (.t 43)),oI 14 (.mov (.t 44))] none [14,12,10,9,7,6,0]) (.seq (.block 0 (.seq (.region [oI 46 (.mov (.t 12)),oI 47 (.un .not (.t 46)),oI 45 (.mov (.t 47))] none [45,14,10,9,7,6,0]) (.cond (.t 45) (.seq (.region [oI 48 (.ld (some 5) (.t 6)),oN (.st 5 (.t 6) (.t 48)),oI 7 (.mov (.c (.int .i64 0))),oI 8 (.mov (.c (.int .i64 129)))] none [8,7,6]) .ret) (.seq (.region [oI 50 (.mov (.t 14)),oI 51 (.mov (.t 50)),⟨(some 52),(.mov (.t 9)),(some (51,true)),[]⟩,⟨(some 53),(.mov (.t 0)),(some (51,true)),[]⟩,⟨(some 54),(.call 155 0 true [(.t 52),(.t 53)]),(some (51,true)),[]⟩,⟨(some 55),(.un .not (.t 54)),(some (51,true)),[]⟩,oI 56 (.pick (.t 51) (.t 55) (.c (.bool false))),oI 49 (.mov (.t 56))] none [49,10,9,7,6]) (.cond (.t 49) (.seq (.region [oI 57 (.ld (some 5) (.t 6)),oN (.st 5 (.t 6) (.t 57)),oI 7 (.mov (.c (.int .i64 0))),oI 8 (.mov (.c (.int .i64 130)))] none [8,7,6]) .ret) (.seq (.region [oI 59 (.ld (some 5) (.t 6)),oI 60 (.call 156 0 true [(.t 59)]),oI 58 (.mov (.t 60))] none [58,10,9,7,6]) (.cond (.t 58) (.seq (.region [oI 61 (.ld (some 5) (.t 6)),oI 62 (.mov (.t 10)),oI 63 (.mov (.t 7)),oI 64 (.bin .add (.t 62) (.t 63)),oN (.st 5 (.t 6) (.t 61)),oI 7 (.mov (.t 64)),oI 8 (.mov (.c (.int .i64 0)))] none [8,7,6]) .ret) (.seq (.region [oI 66 (.mov (.t 9)),oI 67 (.bin .eql (.t 66) (.c (.int .i64 35))),oI 65 (.mov (.t 67))] none [65,6]) (.cond (.t 65) (.seq (.region [oI 68 (.ld (some 5) (.t 6)),oN (.st 5 (.t 6) (.t 68)),oI 7 (.mov (.c (.int .i64 0))),oI 8 (.mov (.c (.int .i64 148)))] none [8,7,6]) .ret) .skip))))))))) (.seq (.region [oI 69 (.ld (some 5) (.t 6)),oN (.st 5 (.t 6) (.t 69)),oI 7 (.mov (.c (.int .i64 0))),oI 8 (.mov (.c (.int .i64 130)))] none [8,7,6]) .ret)))))))
def ZoC:ZG:=⟨[(.cell 6 (some 5)),(.tmp 7),(.tmp 8)],Ze6⟩
theorem Zf1:FC 136=some ZoC:=by kernel_rfl
theorem Zf5:ZoC.body=Ze6:=rfl
theorem Zgx:ZoC.res=[(.cell 6 (some 5)),(.tmp 7),(.tmp 8)]:=rfl
def Zc6:Ze:=(.seq (.region [oI 4 (.alloc [(.int .i64 0),(.int .i64 0),(.str []),(.str []),(.lst true [])]),oI 5 (.mov (.c (.int .i64 0))),oI 6 (.mov (.c (.bool false)))] none [5,4,1,0]) (.seq (.region [oI 9 (.mov (.t 0)),oI 10 (.faddr 0 (.t 4)),oN (.st 1 (.t 10) (.t 9))] none [5,4,1,0]) (.seq (.region [oI 7 (.mov (.c (.int .i64 0)))] none [7,5,4,1,0]) (.seq (.seq (.region [oI 11 (.mov (.t 0)),oI 12 (.call 134 0 true [(.t 11)])] none [12,7,5,4,1,0]) (.block 0 (.seq (.seq (.region [oI 14 (.bin .eql (.t 12) (.c (.int .i64 1))),oI 13 (.mov (.t 14))] none [13,12,7,5,4,1,0]) (.cond (.t 13) .skip (.seq (.region [oI 15 (.bin .eql (.t 12) (.c (.int .i64 2))),oI 13 (.mov (.t 15))] none [13,12,7,5,4,1,0]) (.cond (.t 13) .skip (.region [oI 16 (.bin .eql (.t 12) (.c (.int .i64 3))),oI 13 (.mov (.t 16))] none [13,12,7,5,4,1,0]))))) (.cond (.t 13) (.seq (.region [oI 17 (.mov (.t 0)),oI 18 (.call 134 0 true [(.t 17)]),oI 19 (.bin .sub (.t 18) (.c (.int .i64 1))),oI 20 (.bin .shl (.c (.int .i64 1)) (.t 19)),oI 5 (.mov (.t 20))] none [7,5,4,1]) (.seq (.seq (.region [oI 21 (.mov (.t 1)),oI 22 (.len (.t 21)),oI 23 (.mov (.t 5)),oI 24 (.bin .lss (.t 22) (.t 23))] none [24,7,5,4,1]) (.cond (.t 24) (.seq (.region [oI 25 (.ld (some 5) (.t 4)),oN (.st 5 (.t 4) (.t 25)),oI 5 (.mov (.c (.int .i64 0))),oI 6 (.mov (.c (.bool false)))] none [6,5,4]) .ret) .skip)) (.region [oI 26 (.mov (.t 1)),oI 27 (.mov (.t 5)),oI 28 (.slice 1 (.t 26) none (some (.t 27)) none),oI 29 (.call 108 0 true [(.t 28)]),oI 30 (.i2i .i64 (.t 29)),oI 31 (.faddr 1 (.t 4)),oN (.st 1 (.t 31) (.t 30))] none [7,5,4]))) (.seq (.region [oI 33 (.bin .eql (.t 12) (.c (.int .i64 4))),oI 32 (.mov (.t 33))] none [32,12,7,5,4,1]) (.cond (.t 32) (.region [oI 35 (.mov (.t 1)),oI 36 (.call 135 0 true [(.t 35)]),oI 34 (.mov (.t 36)),oI 37 (.ext (.t 34) 0),oI 38 (.ext (.t 34) 1),oI 39 (.ext (.t 34) 2),oI 40 (.faddr 1 (.t 4)),oN (.st 1 (.t 40) (.t 37)),oI 5 (.mov (.t 38)),oI 7 (.mov (.t 39))] none [7,5,4]) (.seq (.region [oI 42 (.bin .eql (.t 12) (.c (.int .i64 5))),oI 41 (.mov (.t 42))] none [41,12,7,5,4,1]) (.cond (.t 41) (.region [oI 44 (.mov (.t 1)),oI 45 (.call 109 0 true [(.t 44)]),oI 43 (.mov (.t 45)),oI 46 (.ext (.t 43) 0),oI 47 (.ext (.t 43) 1),oI 48 (.ext (.t 43) 2),oI 49 (.faddr 2 (.t 4)),oN (.st 1 (.t 49) (.t 46)),oI 5 (.mov (.t 47)),oI 7 (.mov (.t 48))] none [7,5,4]) (.seq (.region [oI 51 (.bin .eql (.t 12) (.c (.int .i64 6))),oI 50 (.mov (.t 51))] none [50,12,7,5,4,1]) (.cond (.t 50) (.region [oI 53 (.mov (.t 1)),oI 54 (.call 106 0 true [(.t 53)]),oI 52 (.mov (.t 54)),oI 55 (.ext (.t 52) 0),oI 56 (.ext (.t 52) 1),oI 57 (.ext (.t 52) 2),oI 58 (.faddr 4 (.t 4)),oN (.st 1 (.t 58) (.t 55)),oI 5 (.mov (.t 56)),oI 7 (.mov (.t 57))] none [7,5,4]) (.seq (.region [oI 60 (.bin .eql (.t 12) (.c (.int .i64 7))),oI 59 (.mov (.t 60))] none [59,7,5,4,1]) (.cond (.t 59) (.seq (.region [oI 62 (.mov (.t 1)),oI 63 (.call 109 0 true [(.t 62)]),oI 61 (.mov (.t 63)),oI 64 (.ext (.t 61) 0),oI 65 (.ext (.t 61) 1),oI 66 (.ext (.t 61) 2),oI 67 (.faddr 2 (.t 4)),oN (.st 1 (.t 67) (.t 64)),oI 5 (.mov (.t 65)),oI 7 (.mov (.t 66))] none [7,5,4,1]) (.seq (.region [oI 68 (.mov (.t 7)),oI 69 (.bin .eql (.t 68) (.c (.int .i64 0)))] none [69,7,5,4,1]) (.cond (.t 69) (.seq (.region [oI 8 (.mov (.c (.int .i64 0)))] none [5,4,1]) (.seq (.region [oI 71 (.mov (.t 1)),oI 72 (.mov (.t 5)),oI 73 (.slice 1 (.t 71) (some (.t 72)) none none),oI 74 (.call 109 0 true [(.t 73)]),oI 70 (.mov (.t 74)),oI 75 (.ext (.t 70) 0),oI 76 (.ext (.t 70) 1),oI 77 (.ext (.t 70) 2),oI 78 (.faddr 3 (.t 4)),oN (.st 1 (.t 78) (.t 75)),oI 8 (.mov (.t 76)),oI 7 (.mov (.t 77))] none [8,7,5,4]) (.region [oI 79 (.mov (.t 5)),oI 80 (.mov (.t 8)),oI 81 (.bin .add (.t 79) (.t 80)),oI 5 (.mov (.t 81))] none [7,5,4]))) .skip))) .skip)))))))))))) (.seq (.region [oI 82 (.ld (some 5) (.t 4)),oI 83 (.mov (.t 5)),oI 84 (.mov (.t 7)),oI 85 (.bin .eql (.t 84) (.c (.int .i64 0))),oN (.st 5 (.t 4) (.t 82)),oI 5 (.mov (.t 83)),oI 6 (.mov (.t 85))] none [6,5,4]) .ret)))))
def Zp2:ZG:=⟨[(.cell 4 (some 5)),(.tmp 5),(.tmp 6)],Zc6⟩
theorem Zeq:FC 154=some Zp2:=by kernel_rfl
theorem ZdI:Zp2.body=Zc6:=rfl
theorem ZdF:Zp2.res=[(.cell 4 (some 5)),(.tmp 5),(.tmp 6)]:=rfl
end
section
def Zoz:Ze:=(.seq (.region [oI 4 (.mov (.c (.bool false)))] none [1,0]) (.seq (.region [oI 5 (.mov (.t 0)),oI 6 (.mov (.t 1)),oI 7 (.call 133 0 true [(.t 5),(.t 6)]),oI 8 (.bin .geq (.t 7) (.c (.int .i64 0))),oI 4 (.mov (.t 8))] none [4]) .ret))
def ZqZ:ZG:=⟨[(.tmp 4)],Zoz⟩
theorem ZDO:FC 86=some ZqZ:=by kernel_rfl
theorem ZxO:ZqZ.body=Zoz:=rfl
theorem ZyC:ZqZ.res=[(.tmp 4)]:=rfl
def Zor:Ze:=(.seq (.region [oI 6 (.mov (.c (.bool true)))] none [6]) .ret)
def Zni:Ze:=Zor
def ZFd:=xw Zni Zor rfl
def Zli:Ze:=(.seq (.region [oI 18 (.bin .lss (.t 17) (.t 16))] none [18,17,16,15,2,1]) (.seq (.cond (.t 18) .skip (.exit 0)) (.seq (.block 1 (.seq (.region [oI 19 (.mov (.t 17)),oI 20 (.iaddr 5 (.t 15) (.t 17)),oI 21 (.ld (some 5) (.t 20)),oI 8 (.alloc [(.int .i64 0),(.int .i64 0),(.str []),(.str []),(.lst true [])]),oI 7 (.mov (.t 19)),oN (.st 5 (.t 8) (.t 21))] none [17,16,15,8,7,2,1]) (.seq (.region [oI 22 (.mov (.t 1)),oI 23 (.mov (.t 7)),oI 24 (.iaddr 5 (.t 22) (.t 23)),oI 25 (.ld (some 5) (.t 24)),oI 9 (.alloc [(.int .i64 0),(.int .i64 0),(.str []),(.str []),(.lst true [])]),oN (.st 5 (.t 9) (.t 25))] none [17,16,15,9,8,2,1]) (.seq (.region [oI 26 (.mov (.t 2)),oI 27 (.ld (some 5) (.t 8)),oI 28 (.ld (some 5) (.t 9)),oI 29 (.callv (.t 26) [(.t 27),(.t 28)]),oI 30 (.un .not (.t 29))] none [30,17,16,15,2,1]) (.cond (.t 30) (.seq (.region [oI 6 (.mov (.c (.bool false)))] none [6]) .ret) .skip))))) (.region [oI 31 (.bin .add (.t 17) (.c (.int .i64 1))),oI 17 (.mov (.t 31))] none [17,16,15,2,1]))))
def ZnW:Ze:=Zli
def ZtN:=xw ZnW Zli rfl
def ZlK:Ze:=(.seq (.region [oI 6 (.mov (.c (.bool false)))] none [2,1,0]) (.seq (.seq (.region [oI 10 (.mov (.t 0)),oI 11 (.len (.t 10)),oI 12 (.mov (.t 1)),oI 13 (.len (.t 12)),oI 14 (.bin .neq (.t 11) (.t 13))] none [14,2,1,0]) (.cond (.t 14) (.seq (.region [oI 6 (.mov (.c (.bool false)))] none [6]) .ret) .skip)) (.seq (.seq (.region [oI 15 (.mov (.t 0)),oI 16 (.len (.t 15)),oI 17 (.mov (.c (.int .i64 0)))] none [17,16,15,2,1]) (.block 0 (.loop [17,16,15,2,1] ZnW))) Zni)))
def ZkC:ZG:=⟨[(.tmp 6)],ZlK⟩
theorem Zzb:FC 91=some ZkC:=by kernel_rfl
theorem ZsA:ZkC.body=ZlK:=rfl
theorem Zo0:ZkC.res=[(.tmp 6)]:=rfl
noncomputable def ZlP (m:Nat) (tm:Tms) (σ:Za):Option (AVal×Za):=(Zan m ZkC (Zbq FC PR BY m Zni (Option.map (ZaJ 0) (evL FC PR BY m [17,16,15,2,1] ZnW tm σ))))
def ZqH:Ze:=(.seq (.region [oI 4 (.mov (.c (.bool true)))] none [4]) .ret)
def ZnL:Ze:=ZqH
def Zy6:=xw ZnL ZqH rfl
def ZmB:Ze:=(.seq (.region [oI 14 (.bin .lss (.t 13) (.t 12))] none [14,13,12,1,0]) (.seq (.cond (.t 14) .skip (.exit 0)) (.seq (.block 1 (.seq (.region [oI 15 (.mov (.t 13)),oI 5 (.mov (.t 15))] none [13,12,5,1,0]) (.seq (.region [oI 16 (.mov (.t 0)),oI 17 (.mov (.t 5)),oI 18 (.iaddr 1 (.t 16) (.t 17)),oI 19 (.ld none (.t 18)),oI 20 (.mov (.t 1)),oI 21 (.mov (.t 5)),oI 22 (.iaddr 1 (.t 20) (.t 21)),oI 23 (.ld none (.t 22)),oI 24 (.bin .neq (.t 19) (.t 23))] (some [(2,6),(3,6),(2,7),(3,7)]) [24,13,12,1,0]) (.cond (.t 24) (.seq (.region [oI 4 (.mov (.c (.bool false)))] none [4]) .ret) .skip)))) (.region [oI 25 (.bin .add (.t 13) (.c (.int .i64 1))),oI 13 (.mov (.t 25))] none [13,12,1,0]))))
def Zqe:Ze:=ZmB
def Zs2:=xw Zqe ZmB rfl
def Zlz:Ze:=(.seq (.region [oI 4 (.mov (.c (.bool false)))] none [1,0]) (.seq (.seq (.region [oI 6 (.mov (.t 0)),oI 7 (.len (.t 6)),oI 8 (.mov (.t 1)),oI 9 (.len (.t 8)),oI 10 (.bin .neq (.t 7) (.t 9))] none [10,1,0]) (.cond (.t 10) (.seq (.region [oI 4 (.mov (.c (.bool false)))] none [4]) .ret) .skip)) (.seq (.seq (.region [oI 11 (.mov (.t 0)),oI 12 (.len (.t 11)),oI 13 (.mov (.c (.int .i64 0)))] none [13,12,1,0]) (.block 0 (.loop [13,12,1,0] Zqe))) ZnL)))
def Zkt:ZG:=⟨[(.tmp 4)],Zlz⟩
theorem ZFM:FC 83=some Zkt:=by kernel_rfl
theorem ZsT:Zkt.body=Zlz:=rfl
theorem Zon:Zkt.res=[(.tmp 4)]:=rfl
noncomputable def Zl8 (m:Nat) (tm:Tms) (σ:Za):Option (AVal×Za):=(Zan m Zkt (Zbq FC PR BY m ZnL (Option.map (ZaJ 0) (evL FC PR BY m [13,12,1,0] Zqe tm σ))))
def ZqA:Ze:=(.seq (.region [oI 4 (.mov (.c (.bool true)))] none [4]) .ret)
def Zqa:Ze:=ZqA
def Zyf:=xw Zqa ZqA rfl
def ZmI:Ze:=(.seq (.region [oI 14 (.bin .lss (.t 13) (.t 12))] none [14,13,12,1,0]) (.seq (.cond (.t 14) .skip (.exit 0)) (.seq (.block 1 (.seq (.region [oI 15 (.mov (.t 13)),oI 5 (.mov (.t 15))] none [13,12,5,1,0]) (.seq (.region [oI 16 (.mov (.t 0)),oI 17 (.mov (.t 5)),oI 18 (.iaddr 6 (.t 16) (.t 17)),oI 19 (.ld (some 6) (.t 18)),oI 20 (.mov (.t 1)),oI 21 (.mov (.t 5)),oI 22 (.iaddr 6 (.t 20) (.t 21)),oI 23 (.ld (some 6) (.t 22)),oI 24 (.eqv true [2,0,1,1,0,0] (.t 19) (.t 23))] (some [(2,6),(3,6),(2,7),(3,7)]) [24,13,12,1,0]) (.cond (.t 24) (.seq (.region [oI 4 (.mov (.c (.bool false)))] none [4]) .ret) .skip)))) (.region [oI 25 (.bin .add (.t 13) (.c (.int .i64 1))),oI 13 (.mov (.t 25))] none [13,12,1,0]))))
def ZqK:Ze:=ZmI
def Zwb:=xw ZqK ZmI rfl
def Zmc:Ze:=(.seq (.region [oI 4 (.mov (.c (.bool false)))] none [1,0]) (.seq (.seq (.region [oI 6 (.mov (.t 0)),oI 7 (.len (.t 6)),oI 8 (.mov (.t 1)),oI 9 (.len (.t 8)),oI 10 (.bin .neq (.t 7) (.t 9))] none [10,1,0]) (.cond (.t 10) (.seq (.region [oI 4 (.mov (.c (.bool false)))] none [4]) .ret) .skip)) (.seq (.seq (.region [oI 11 (.mov (.t 0)),oI 12 (.len (.t 11)),oI 13 (.mov (.c (.int .i64 0)))] none [13,12,1,0]) (.block 0 (.loop [13,12,1,0] ZqK))) Zqa)))
def ZlW:ZG:=⟨[(.tmp 4)],Zmc⟩
theorem ZxH:FC 84=some ZlW:=by kernel_rfl
theorem ZvH:ZlW.body=Zmc:=rfl
theorem ZqW:ZlW.res=[(.tmp 4)]:=rfl
noncomputable def ZkK (m:Nat) (tm:Tms) (σ:Za):Option (AVal×Za):=(Zan m ZlW (Zbq FC PR BY m Zqa (Option.map (ZaJ 0) (evL FC PR BY m [13,12,1,0] ZqK tm σ))))
def ZoO:Ze:=(.seq (.region [oI 4 (.mov (.c (.bool true)))] none [4]) .ret)
def Zq6:Ze:=ZoO
def ZOA:=xw Zq6 ZoO rfl
def Zln:Ze:=(.seq (.region [oI 14 (.bin .lss (.t 13) (.t 12))] none [14,13,12,1,0]) (.seq (.cond (.t 14) .skip (.exit 0)) (.seq (.block 1 (.seq (.region [oI 15 (.mov (.t 13)),oI 5 (.mov (.t 15))] none [13,12,5,1,0]) (.seq (.region [oI 16 (.mov (.t 0)),oI 17 (.mov (.t 5)),oI 18 (.iaddr 1 (.t 16) (.t 17)),oI 19 (.ld none (.t 18)),oI 20 (.mov (.t 1)),oI 21 (.mov (.t 5)),oI 22 (.iaddr 1 (.t 20) (.t 21)),oI 23 (.ld none (.t 22)),oI 24 (.bin .neq (.t 19) (.t 23))] (some [(2,6),(3,6),(2,7),(3,7)]) [24,13,12,1,0]) (.cond (.t 24) (.seq (.region [oI 4 (.mov (.c (.bool false)))] none [4]) .ret) .skip)))) (.region [oI 25 (.bin .add (.t 13) (.c (.int .i64 1))),oI 13 (.mov (.t 25))] none [13,12,1,0]))))
def Zrs:Ze:=Zln
def Zr1:=xw Zrs Zln rfl
def Zmv:Ze:=(.seq (.region [oI 4 (.mov (.c (.bool false)))] none [1,0]) (.seq (.seq (.region [oI 6 (.mov (.t 0)),oI 7 (.len (.t 6)),oI 8 (.mov (.t 1)),oI 9 (.len (.t 8)),oI 10 (.bin .neq (.t 7) (.t 9))] none [10,1,0]) (.cond (.t 10) (.seq (.region [oI 4 (.mov (.c (.bool false)))] none [4]) .ret) .skip)) (.seq (.seq (.region [oI 11 (.mov (.t 0)),oI 12 (.len (.t 11)),oI 13 (.mov (.c (.int .i64 0)))] none [13,12,1,0]) (.block 0 (.loop [13,12,1,0] Zrs))) Zq6)))
def Zml:ZG:=⟨[(.tmp 4)],Zmv⟩
theorem ZMn:FC 85=some Zml:=by kernel_rfl
theorem Zwh:Zml.body=Zmv:=rfl
theorem ZmX:Zml.res=[(.tmp 4)]:=rfl
noncomputable def Zj8 (m:Nat) (tm:Tms) (σ:Za):Option (AVal×Za):=(Zan m Zml (Zbq FC PR BY m Zq6 (Option.map (ZaJ 0) (evL FC PR BY m [13,12,1,0] Zrs tm σ))))
def Zqp:Ze:=(.seq (.region [oI 4 (.mov (.c (.int .i64 (-1))))] none [4]) .ret)
def ZoT:Ze:=Zqp
def ZIM:=xw ZoT Zqp rfl
def Zi6:Ze:=(.seq (.region [oI 9 (.bin .lss (.t 8) (.t 7))] none [9,8,7,1,0]) (.seq (.cond (.t 9) .skip (.exit 0)) (.seq (.block 1 (.seq (.region [oI 10 (.mov (.t 8)),oI 5 (.mov (.t 10))] none [8,7,5,1,0]) (.seq (.region [oI 11 (.mov (.t 1)),oI 12 (.mov (.t 0)),oI 13 (.mov (.t 5)),oI 14 (.iaddr 2 (.t 12) (.t 13)),oI 15 (.ld (some 2) (.t 14)),oI 16 (.callv (.t 11) [(.t 15)])] none [16,8,7,5,1,0]) (.cond (.t 16) (.seq (.region [oI 17 (.mov (.t 5)),oI 4 (.mov (.t 17))] none [4]) .ret) .skip)))) (.region [oI 18 (.bin .add (.t 8) (.c (.int .i64 1))),oI 8 (.mov (.t 18))] none [8,7,1,0]))))
def Zn5:Ze:=Zi6
def ZqV:=xw Zn5 Zi6 rfl
def Zm5:Ze:=(.seq (.region [oI 4 (.mov (.c (.int .i64 0)))] none [1,0]) (.seq (.seq (.region [oI 6 (.mov (.t 0)),oI 7 (.len (.t 6)),oI 8 (.mov (.c (.int .i64 0)))] none [8,7,1,0]) (.block 0 (.loop [8,7,1,0] Zn5))) ZoT))
def Zkz:ZG:=⟨[(.tmp 4)],Zm5⟩
theorem ZyO:FC 133=some Zkz:=by kernel_rfl
theorem ZKs:Zkz.body=Zm5:=rfl
theorem ZuT:Zkz.res=[(.tmp 4)]:=rfl
noncomputable def Zkh (m:Nat) (tm:Tms) (σ:Za):Option (AVal×Za):=(Zan m Zkz (Zbq FC PR BY m ZoT (Option.map (ZaJ 0) (evL FC PR BY m [8,7,1,0] Zn5 tm σ))))
end
section
open Go.RowKit
inductive Ty where
 | bool
 | int (k:IntKind)
 | str
 | slice (s:Bool) (e:Ty)
 | struct (fs:List Ty)
 deriving Inhabited
def Zdn:Option TypeDesc->Bool
 | some (.struct _)=>true
 | some (.array _ _)=>true
 | _=>false
def Zi1 (P:Program):Nat->List Field->Nat->Bool
 | at',[],n=>at' == n
 | at',f::fs,n=>f.offset == at' && Zi1 P (at'+P.cellsOf f.type) fs n
def Zdg (P:Program):Nat->TypeId->Option Ty
 | 0,_=>none
 | n+1,t=>match P.underlying t with
  | some .bool=>some .bool
  | some (.int k)=>some (.int k)
  | some .string=>some .str
  | some (.slice e)=>if 0 < P.cellsOf e then (Zdg P n e).map (.slice (Zdn (P.underlying e))) else none
  | some (.struct fs)=>if Zi1 P 0 fs.toList (P.cellsOf t) then (fs.toList.mapM fun f=>Zdg P n f.type).map .struct else none
  | _=>none
def Zcl (s:Bool) (y:List AVal):AVal:=if s then .agg y else y.headD .nilp
mutual
def TyC:Ty->List AVal->Prop
 | .bool,xs=>∃ b,xs=[.bool b]
 | .int k,xs=>∃ n,(Lit.int k n).wf=true/\xs=[.int k n]
 | .str,xs=>∃ l:List UInt8,l.length<=9223372036854775807/\xs=[.str l]
 | .slice s e,xs=>∃ ys:List (List AVal),xs=[.lst false (ys.map (Zcl s))]/\ys.length<=9223372036854775807/\∀ y ∈ ys,TyC e y
 | .struct fs,xs=>ZgS fs xs
def ZgS:List Ty->List AVal->Prop
 | [],xs=>xs=[]
 | f::fs,xs=>∃ a b,xs=a++b/\TyC f a/\ZgS fs b
end
def Imm.of (w:World):Imm:=fun b o=>w.cell? ⟨b,o,none⟩
section
variable {H:Type} {enc:TypeId×Value->H} {P:Program} {w:World} {spare:Nat->Bool} {held:Bool}
theorem ZI2 {b off:Nat} {s:Option Nat} {u:Value} (h:w.cell? ⟨b,off,s⟩=some u):s=none:=by
 unfold World.cell? at h
 split at h
 ·rcases s with _ | s
  ·rfl
  ·simp at h
 ·cases h
theorem ZHB {s:Bool} {y:List AVal} (h:s=false->y.length=1) (h1:s=false->∀ x ∈ y,ZX x=true):(Zcl s y).cells=y:=by
 cases s with
 | true=>rfl
 | false =>
  match y,h rfl with
  | [x],_ =>
   have:=h1 rfl x (by simp)
   cases x <;> simp_all [Zcl,AVal.cells,ZX]
theorem ZNN {a:Addr} (h:a.spot=none) (n:Nat):a.add n=⟨a.block,a.off+n,none⟩:=by
 unfold Addr.add
 split
 ·rename_i e;subst e;cases a;simp_all
 ·rfl
theorem ZAQ {I:Imm} {β:Bmap} {xs:List AVal} {vs:List Value} {n:Nat} (h:VRs I β xs (vs.take n)) {ys:List AVal} (h':VRs I β ys (vs.drop n)):VRs I β (xs++ys) vs:=by
 have:=ZcG h h'
 rwa [List.take_append_drop] at this
theorem ZsH {α β:Type} {f:α->Option β} {a:α} {l:List α} {r:List β} (h:(a::l).mapM f=some r):∃ b r',f a=some b/\l.mapM f=some r'/\r=b::r':=by
 rw [List.mapM_cons] at h
 simp only [Option.bind_eq_bind,Option.bind_eq_some_iff,Option.pure_def,Option.some.injEq] at h
 obtain ⟨b,h1,r',h2,h3⟩:=h
 exact ⟨b,r',h1,h2,h3.symm⟩
theorem ZFN {a b:List AVal} (ha:ZaI a=true) (hb:ZaI b=true):ZaI (a++b)=true:=by
 induction a with
 | nil=>exact hb
 | cons x a ih=>simp only [List.cons_append,ZaI,Bool.and_eq_true] at ha ⊢;exact ⟨ha.1,ih ha.2⟩
theorem Zt3 {n fuel:Nat} {cs:List Value} (ih:∀ (t:TypeId) (cs:List Value) (x:DataW H×List MemPlace) (T:Ty),Zdg P n t=some T->DataW.trod enc P w 0 spare held fuel t cs=some x->∃ xs,TyC T xs/\VRs (Imm.of w) B0 xs cs/\ZaI xs=true) :
  ∀ (fs:List Field) (at':Nat) (Ts:List Ty) (ys:List (DataW H×List MemPlace)),Zi1 P at' fs cs.length=true->fs.mapM (fun f=>Zdg P n f.type)=some Ts ->
   fs.mapM (fun f=>DataW.trod enc P w 0 spare held fuel f.type ((cs.drop f.offset).take (P.cellsOf f.type)))=some ys->∃ xs,ZgS Ts xs/\VRs (Imm.of w) B0 xs (cs.drop at')/\ZaI xs=true
 | [],at',Ts,ys,ho,hT,_=>by
  simp only [Zi1,beq_iff_eq] at ho
  simp only [List.mapM_nil,Option.pure_def,Option.some.injEq] at hT
  subst hT ho
  exact ⟨[],by simp only [ZgS],by simp [VRs],rfl⟩
 | f::fs,at',Ts,ys,ho,hT,h=>by
  simp only [Zi1,Bool.and_eq_true,beq_iff_eq] at ho
  obtain ⟨T,Ts',h1,h2,rfl⟩:=ZsH hT
  obtain ⟨y,ys',h3,h4,rfl⟩:=ZsH h
  obtain ⟨a,a1,a2,a3⟩:=ih _ _ _ _ h1 h3
  obtain ⟨b,b1,b2,b3⟩:=Zt3 ih fs _ _ _ ho.2 h2 h4
  rw [ho.1] at a2
  refine ⟨a++b,by simp only [ZgS];exact ⟨a,b,rfl,a1,b1⟩,ZAQ a2 (by rw [List.drop_drop];exact b2),ZFN a3 b3⟩
theorem ZrR {I:Imm} {β:Bmap} {s:Bool} {k b:Nat}:∀ (n off:Nat) (Y:Nat->List AVal),(∀ i,i < n->(Zcl s (Y i)).cells.length=k/\CR I β (Zcl s (Y i)).cells b (off+i*k))->LR I β k ((List.range n).map fun i=>Zcl s (Y i)) b off
 | 0,off,Y,_=>by simp [LR]
 | n+1,off,Y,h=>by
  rw [List.range_succ_eq_map,List.map_cons,ZfR]
  have h0:=h 0 (by omega)
  simp only [Nat.zero_mul,Nat.add_zero] at h0
  refine ⟨h0,?_⟩
  rw [List.map_map]
  exact ZrR n (off+k) (fun i=>Y (i+1)) (fun i hi=>by
   have:=h (i+1) (by omega)
   rw [show off+k+i*k=off+(i+1)*k by rw [Nat.succ_mul];omega]
   exact this)
theorem Zwq {I:Imm} {β:Bmap} {b:Nat}:∀ (xs:List AVal) (cs:List Value) (off:Nat),VRs I β xs cs->(∀ i,i < cs.length->I b (off+i)=cs[i]?)->CR I β xs b off
 | [],_,_,_,_=>by simp only [CR]
 | x::xs,cs,off,h,hI=>by
  simp only [VRs] at h
  obtain ⟨v,vs',rfl,h1,h2⟩:=h
  simp only [CR]
  refine ⟨⟨v,by have:=hI 0 (by simp);simpa using this,h1⟩,Zwq xs vs' (off+1) h2 fun i hi=>?_⟩
  have:=hI (i+1) (by simp;omega)
  rw [show off+1+i=off+(i+1) by omega,this]
  simp
theorem ZnE {s:Bool}:∀ (n:Nat) (Y:Nat->List AVal),(∀ i,i < n->ZaI (Zcl s (Y i)).cells=true)->Zae ((List.range n).map fun i=>Zcl s (Y i))=true
 | 0,Y,_=>by simp [Zae]
 | n+1,Y,h=>by
  rw [List.range_succ_eq_map,List.map_cons,Zv7,h 0 (by omega),List.map_map]
  simp only [Bool.true_and]
  exact ZnE n (fun i=>Y (i+1)) (fun i hi=>h (i+1) (by omega))
theorem ZuS {xs:List AVal} (h:ZaI xs=true):∀ x ∈ xs,ZX x=true:=by
 induction xs with
 | nil=>intro x hx;simp at hx
 | cons y ys ih =>
  simp only [ZaI,Bool.and_eq_true] at h
  intro x hx
  rcases List.mem_cons.1 hx with rfl | hx
  ·cases x <;> simp_all [ZaR,ZX]
  ·exact ih h.2 x hx
theorem Zug {n:Nat} {e:TypeId} {T:Ty} (hT:Zdg P n e=some T) (hs:Zdn (P.underlying e)=false) {xs:List AVal} (h:TyC T xs):xs.length=1:=by
 cases n with
 | zero=>simp [Zdg] at hT
 | succ n =>
  simp only [Zdg] at hT
  split at hT
  ·injection hT with hT;subst hT;simp only [TyC] at h;obtain ⟨_,rfl⟩:=h;rfl
  ·injection hT with hT;subst hT;simp only [TyC] at h;obtain ⟨_,_,rfl⟩:=h;rfl
  ·injection hT with hT;subst hT;simp only [TyC] at h;obtain ⟨_,_,rfl⟩:=h;rfl
  ·split at hT
   ·simp only [Option.map_eq_some_iff] at hT
    obtain ⟨T',_,rfl⟩:=hT
    simp only [TyC] at h;obtain ⟨_,rfl,_⟩:=h;rfl
   ·cases hT
  ·rename_i hu;rw [hu] at hs;simp [Zdn] at hs
  ·cases hT
theorem Zm2:∀ (n fuel:Nat) (t:TypeId) (cs:List Value) (x:DataW H×List MemPlace) (T:Ty),Zdg P n t=some T->DataW.trod enc P w 0 spare held fuel t cs=some x ->
  ∃ xs,TyC T xs/\VRs (Imm.of w) B0 xs cs/\ZaI xs=true
 | 0,fuel,t,cs,x,T,hT,_=>by simp [Zdg] at hT
 | n+1,0,t,cs,x,T,_,h=>by simp [DataW.trod] at h
 | n+1,fuel+1,t,cs,x,T,hT,h=>by
  have h0:=h
  simp only [Zdg] at hT
  unfold DataW.trod at h
  split at hT
  ·rename_i hu
   injection hT with hT;subst hT
   obtain ⟨b,rfl,_⟩:=DataW.trod_bool hu h0
   exact ⟨[.bool b],by simp only [TyC];exact ⟨b,rfl⟩,by simp [VRs,VR],rfl⟩
  ·rename_i k hu
   injection hT with hT;subst hT
   obtain ⟨n',rfl,_,hk⟩:=DataW.trod_int hu h0
   exact ⟨[.int k n'],by simp only [TyC];exact ⟨n',hk,rfl⟩,by simp [VRs,VR],rfl⟩
  ·rename_i hu
   injection hT with hT;subst hT
   obtain ⟨s,rfl,_,hs⟩:=DataW.trod_string hu h0
   have hs':s.data.toList.length<=9223372036854775807:=by
    rw [Array.length_toList];exact Nat.le_trans hs (by simp [maxLen])
   exact ⟨[.str s.data.toList],by simp only [TyC];exact ⟨_,hs',rfl⟩,by simp only [VRs,VR];exact ⟨_,_,rfl,⟨by simp,hs'⟩,rfl⟩,rfl⟩
  ·rename_i e hu
   split at hT
   case isFalse=>cases hT
   rename_i hc
   simp only [Option.map_eq_some_iff] at hT
   obtain ⟨T,hT,rfl⟩:=hT
   rcases Go.Deep.open_slice hu h0 with ⟨hcs,_⟩ | ⟨a,len,cap,m,n',D,Pl,hcs,_,hl,hm,hmm,_,hi⟩
   ·subst hcs
    exact ⟨[.lst false []],by simp only [TyC];exact ⟨[],by simp,by simp,by simp⟩,by simp only [VRs,VR];exact ⟨_,_,rfl,⟨none,0,rfl,by simp,by simp,by simp,by simp,by simp [Zae]⟩,rfl⟩,rfl⟩
   ·have hlm:len<=m:=by split at hmm <;> omega
    have hspot:0 < len->a.spot=none:=by
     intro h0
     obtain ⟨cs',h1,h2⟩:=hi 0 (by omega)
     obtain ⟨_,h6,h7⟩:=World.cells?_some h1
     have h8:=h7 0 hc
     obtain ⟨u,hu⟩:∃ u,cs'[0]?=some u:=⟨cs'[0]'(by omega),by simp⟩
     rw [hu] at h8
     simp only [Nat.zero_mul,Addr.add,if_true] at h8
     exact ZI2 (b:=a.block) (off:=a.off) (s:=a.spot) (u:=u) h8
    have hall:∀ i,∃ xs,i < len->TyC T xs/\(Zcl (Zdn (P.underlying e)) xs).cells=xs/\xs.length=P.cellsOf e/\CR (Imm.of w) B0 xs a.block (a.off+i*P.cellsOf e)/\ZaI xs=true:=by
     intro i
     by_cases hlt:i < len
     ·obtain ⟨cs',h1,h2⟩:=hi i (by omega)
      obtain ⟨xs,h3,h4,h5⟩:=Zm2 n n' e cs' _ T hT h2
      obtain ⟨_,h6,h7⟩:=World.cells?_some h1
      have hlen:=ZaZ h4
      refine ⟨xs,fun _=>⟨h3,ZHB (fun hs=>Zug hT hs h3) (fun _=>ZuS h5),by omega,Zwq xs cs' _ h4 (fun j hj=>?_),h5⟩⟩
      have h8:=h7 j (by omega)
      rw [Go.Deep.add_add,ZNN (hspot (by omega)),<-Nat.add_assoc] at h8
      exact h8
     ·exact ⟨[],fun h=>absurd h hlt⟩
    obtain ⟨Y,hY⟩:=Classical.axiomOfChoice hall
    subst hcs
    have hmx:maxLen=9223372036854775807:=by simp [maxLen]
    rw [hmx] at hm
    refine ⟨[.lst false ((List.range len).map fun i=>Zcl (Zdn (P.underlying e)) (Y i))],?_,?_,?_⟩
    ·simp only [TyC]
     refine ⟨(List.range len).map Y,by rw [List.map_map];rfl,by simp;omega,?_⟩
     intro y hy
     obtain ⟨i,hi',rfl⟩:=List.mem_map.1 hy
     exact (hY i (List.mem_range.1 hi')).1
    ·simp only [VRs,VR,List.length_map,List.length_range]
     refine ⟨_,_,rfl,⟨some a,cap,rfl,hl,hm,by simp,?_,ZnE len Y fun i hlt=>by rw [(hY i hlt).2.1];exact (hY i hlt).2.2.2.2⟩,rfl⟩
     cases len with
     | zero=>exact Or.inl (by simp)
     | succ len =>
      refine Or.inr ⟨a.block,a.off,P.cellsOf e,?_,hc,ZrR (len+1) a.off Y fun i hlt=>?_⟩
      ·have:=hspot (by omega)
       cases a;simp_all
      ·rw [(hY i hlt).2.1];exact ⟨(hY i hlt).2.2.1,(hY i hlt).2.2.2.1⟩
    ·simp only [ZaI,ZaR,Bool.and_true]
     exact ZnE len Y fun i hlt=>by rw [(hY i hlt).2.1];exact (hY i hlt).2.2.2.2
  ·rename_i fs hu
   split at hT
   case isFalse=>cases hT
   rename_i ho
   simp only [Option.map_eq_some_iff] at hT
   obtain ⟨Ts,hT,rfl⟩:=hT
   rw [hu] at h
   simp only at h
   split at h
   ·rename_i hl
    simp only [Option.map_eq_some_iff] at h
    obtain ⟨ys,hy,rfl⟩:=h
    obtain ⟨xs,h1,h2,h3⟩:=Zt3 (fun t cs x T h h'=>Zm2 n fuel t cs x T h h') fs.toList 0 Ts ys (by rw [hl];exact ho) hT hy
    exact ⟨xs,by simp only [TyC];exact h1,h2,h3⟩
   ·cases h
  ·cases hT
def ZqG (s:Bool) (T:Ty) (x:AVal):Prop:=∃ xs,TyC T xs/\x=Zcl s xs
theorem Zn1 {n:Nat} {t:TypeId} {v:Value} {d:DataW H} {ps:List MemPlace} {T:Ty} {r:Reach} {b0:Nat} (hT:Zdg P n t=some T) (hv:Value.okWide P w r b0 t v) (h:DataW.Trod enc P w 0 spare held t v d ps) :
  ∃ x,ZqG (Zdn (P.underlying t)) T x/\VR (Imm.of w) B0 x v/\ZaI x.cells=true:=by
 obtain ⟨fuel,h⟩:=h
 obtain ⟨xs,h1,h2,h3⟩:=Zm2 n fuel t _ _ T hT h
 refine ⟨Zcl (Zdn (P.underlying t)) xs,⟨xs,h1,rfl⟩,?_⟩
 by_cases hs:Zdn (P.underlying t)=true
 ·have : ∃ cs,v=.agg cs:=by
   unfold Value.okWide at hv
   cases hu:P.underlying t with
   | none=>rw [hu] at hs;simp [Zdn] at hs
   | some dd =>
    rw [hu] at hv hs
    cases dd <;> first | (simp [Zdn] at hs;done) | (obtain ⟨cs,e,_⟩:=hv;exact ⟨cs,e⟩)
  obtain ⟨cs,rfl⟩:=this
  rw [hs]
  exact ⟨by simp only [Zcl,if_true,VR];exact ⟨cs,rfl,h2⟩,h3⟩
 ·have hs':Zdn (P.underlying t)=false:=by simpa using hs
  have hl:=Zug hT hs' h1
  have hlen:=ZaZ h2
  rw [hs']
  match xs,hl with
  | [x],_ =>
   simp only [Zcl,Bool.false_eq_true,if_false,List.headD_cons]
   have hvc:v.cells=#[v]:=by
    cases n with
    | zero=>simp [Zdg] at hT
    | succ n =>
     simp only [Zdg] at hT
     split at hT
     ·rename_i hu;obtain ⟨b,rfl⟩:=Go.WideShapes.okWide_bool hu hv;rfl
     ·rename_i k hu;obtain ⟨b,rfl⟩:=Go.WideShapes.okWide_int hu hv;rfl
     ·rename_i hu;obtain ⟨b,rfl⟩:=Go.WideShapes.okWide_string hu hv;rfl
     ·rename_i e hu;obtain ⟨a,l,c,rfl⟩:=Go.WideShapes.okWide_slice hu hv;rfl
     ·rename_i fs hu;rw [hu] at hs';simp [Zdn] at hs'
     ·cases hT
   rw [hvc] at h2
   simp only [VRs] at h2
   obtain ⟨v',vs',e,h2,_⟩:=h2
   simp only [List.cons.injEq] at e
   rw [e.1]
   refine ⟨h2,?_⟩
   have hok:=ZuS h3 x (by simp)
   have hx:x.cells=[x]:=by cases x <;> first | rfl | (simp [ZX] at hok;done)
   rw [hx];exact h3
theorem Rel.start (w:World) (hG:Gl.le (Imm.of w)):Rel (fun b=>b < w.heap.size) w (Imm.of w) (Imm.of w) B0 [] w where
 below:=KB.refl _ w
 old:=fun _ _ _=>rfl
 imm:=fun _ _ _ h=>h
 blk:=fun t x h=>by simp at h
 own:=fun t x b h=>by simp at h
 apart:=fun t x t' x' b h=>by simp at h
 fresh:=fun _ _ _=>rfl
 free:=fun t g h=>by simp at h
 gen:=fun t b g h=>by simp at h
 glob:=hG
theorem ZGu {O:ZU} (hO:ZaO P O) {f:Nat} {args:List AVal} {vs:Array Value} {σ':Za} (hG:Gl.le (Imm.of w)) (hargs:VRs (Imm.of w) B0 args vs.toList) (h:O f args []=some (.bool true,σ')) :
  Calls P f vs w (fun e w'=>e=.returned (.bool true)/\Below w.heap.size w w'):=by
 refine ((hO f args [] _ _ h).2 _ w _ _ B0 w vs (fun b hb=>hb) (Rel.start w hG) hargs).mono ?_
 rintro e w' ⟨u,he,I',β',_,_,R,hv⟩
 simp only [ZaT,VR] at hv
 subst hv
 exact ⟨he,R.below.os,R.below.tape,R.below.output,R.below.size,R.below.block⟩
end
end
section
open Go.RowKit
theorem ZNc (id:Nat) (tm:Tms) (σ:Za):ZaJ id (.normal,tm,σ)=(.normal,tm,σ):=rfl
theorem ZOP (id i:Nat) (tm:Tms) (σ:Za):ZaJ id (.exit i,tm,σ)=if i=id then (.normal,tm,σ) else (.exit i,tm,σ):=by simp only [ZaJ]
theorem ZKE (id:Nat) (tm:Tms) (σ:Za):ZaJ id (.ret,tm,σ)=(.ret,tm,σ):=rfl
theorem ZOZ (id:Nat) (x:AVal) (tm:Tms) (σ:Za):ZaJ id (.panic x,tm,σ)=(.panic x,tm,σ):=rfl
section
variable (O:ZU) (bf:Nat->Bool)
def Zd0 (c:Cls):Option (Tms×Za×List Cls×Option AVal)->Option (Tms×Za×List Cls×Option AVal)
 | none=>none
 | some (tm,σ,cs,p)=>some (tm,σ,c::cs,p)
def Zhh (c:List Cls):Option (Tms×Za×List Cls×Option AVal)->Option (Tms×Za×List Cls×Option AVal)
 | none=>none
 | some (tm,σ,cs,p)=>some (tm,σ,c++cs,p)
def kC (d:Option Nat) (os:List AOp) (s:Nat) (tm:Tms):Option (AVal×Za×Cls)->Option (Tms×Za×List Cls×Option AVal)
 | none=>none
 | some (v,σ,c)=>if ZaS v then some (tput tm d v,σ,[c],some (ZaT v)) else Zd0 c (Z3 O bf os s (tput tm d v) σ)
def ZeV (ops:List AOp) (L:Nat) (l:List (Nat×Nat)) (live:List Nat):Option (Tms×Za×List Cls×Option AVal)->Option (ZaU×Tms×Za)
 | none=>none
 | some (_,σ,cs,some x)=>if Zdy ops L l cs then some (.panic x,[],σ) else none
 | some (tm,σ,cs,none)=>if Zdm ops L l cs then some (.normal,keepL live tm,σ) else none
variable {O bf}
theorem ZtB (s:Nat) (tm:Tms) (σ:Za):Z3 O bf [] s tm σ=some (tm,σ,[],none):=rfl
theorem ZHT (c:Cls) (tm:Tms) (σ:Za) (cs:List Cls) (p:Option AVal):Zd0 c (some (tm,σ,cs,p))=some (tm,σ,c::cs,p):=rfl
theorem ZMv (c:Cls):Zd0 c none=none:=rfl
theorem ZJn (c:Cls) (q:Prop) [Decidable q] (x y:Option (Tms×Za×List Cls×Option AVal)):Zd0 c (if q then x else y)=if q then Zd0 c x else Zd0 c y:=by split <;> rfl
theorem ZLW (c:List Cls) (tm:Tms) (σ:Za) (cs:List Cls) (p:Option AVal):Zhh c (some (tm,σ,cs,p))=some (tm,σ,c++cs,p):=rfl
theorem ZNU (c:List Cls):Zhh c none=none:=rfl
theorem ZLA (c:List Cls) (q:Prop) [Decidable q] (x y:Option (Tms×Za×List Cls×Option AVal)):Zhh c (if q then x else y)=if q then Zhh c x else Zhh c y:=by split <;> rfl
theorem ZmC {o:AOp} {os:List AOp} {s:Nat} {tm tm1:Tms} {σ σ1:Za} {v:AVal} {c:Cls} (h:ZR O bf o s tm σ=some (v,tm1,σ1,c)) (hn:ZaS v=false):Z3 O bf (o::os) s tm σ=Zd0 c (Z3 O bf os (s+nsite o.ins) tm1 σ1):=by
 rw [Zuv h hn]
 cases Z3 O bf os (s+nsite o.ins) tm1 σ1 <;> rfl
theorem Zn3 (d:Option Nat) (i:Ins) (af:List Nat) (os:List AOp) (s:Nat) (tm:Tms) (σ:Za):Z3 O bf (⟨d,i,none,af⟩::os) s tm σ=kC O bf d os (s+nsite i) tm (exI O bf i s tm σ):=by
 cases h:exI O bf i s tm σ with
 | none=>exact Zi4 (by rw [ZkL,h];rfl)
 | some q =>
  obtain ⟨v,σ1,c⟩:=q
  have hs:ZR O bf ⟨d,i,none,af⟩ s tm σ=some (v,tput tm d v,σ1,c):=by rw [ZkL,h];rfl
  cases hp:ZaS v with
  | true =>
   obtain ⟨x,rfl⟩:=Zj9 hp
   exact ZmQ hs
  | false =>
   rw [ZmC hs hp]
   simp only [kC,hp,Bool.false_eq_true,if_false]
theorem ZnI (d:Option Nat) (os:List AOp) (s:Nat) (tm:Tms) (v:AVal) (σ:Za) (c:Cls) (h:ZaS v=false):kC O bf d os s tm (some (v,σ,c))=Zd0 c (Z3 O bf os s (tput tm d v) σ):=by
 simp only [kC,h,Bool.false_eq_true,if_false]
theorem ZAr (d:Option Nat) (os:List AOp) (s:Nat) (tm:Tms) (x:AVal) (σ:Za) (c:Cls):kC O bf d os s tm (some (.pan x,σ,c))=some (tput tm d (.pan x),σ,[c],some x):=rfl
theorem ZKQ (d:Option Nat) (os:List AOp) (s:Nat) (tm:Tms):kC O bf d os s tm none=none:=rfl
theorem ZKH (d:Option Nat) (os:List AOp) (s:Nat) (tm:Tms) (q:Prop) [Decidable q] (x y:Option (AVal×Za×Cls)):kC O bf d os s tm (if q then x else y)=if q then kC O bf d os s tm x else kC O bf d os s tm y:=by split <;> rfl
theorem ZAE (ops:List AOp) (l:List (Nat×Nat)) (live:List Nat) (tm:Tms) (σ:Za):ZbX O bf ops (some l) live tm σ=ZeV ops σ.length l live (Z3 O bf ops σ.length tm (σ++List.replicate (sitesOf ops) .free)):=by
 unfold ZbX
 cases Z3 O bf ops σ.length tm (σ++List.replicate (sitesOf ops) .free) with
 | none=>rfl
 | some q =>
  obtain ⟨tm',σ',cs,p⟩:=q
  cases p <;> rfl
theorem Ztn (ops:List AOp) (L:Nat) (l:List (Nat×Nat)) (live:List Nat) (tm:Tms) (σ:Za) (cs:List Cls) (h:Zdm ops L l cs=true):ZeV ops L l live (some (tm,σ,cs,none))=some (.normal,keepL live tm,σ):=by
 simp only [ZeV,h,if_true]
theorem ZhS (ops:List AOp) (L:Nat) (l:List (Nat×Nat)) (live:List Nat) (tm:Tms) (σ:Za) (cs:List Cls) (x:AVal) (h:Zdy ops L l cs=true):ZeV ops L l live (some (tm,σ,cs,some x))=some (.panic x,[],σ):=by
 simp only [ZeV,h,if_true]
theorem ZNY (ops:List AOp) (L:Nat) (l:List (Nat×Nat)) (live:List Nat):ZeV ops L l live none=none:=rfl
theorem ZDi (ops:List AOp) (L:Nat) (l:List (Nat×Nat)) (live:List Nat) (q:Prop) [Decidable q] (x y:Option (Tms×Za×List Cls×Option AVal)):ZeV ops L l live (if q then x else y)=if q then ZeV ops L l live x else ZeV ops L l live y:=by split <;> rfl
theorem ZAA (ops:List AOp) (L:Nat) (l:List (Nat×Nat)) (cs:List Cls) (h:(cs.all fun c=>c.wr.isEmpty && !c.any)=true) (hs:(l.all fun p=>p.1 == p.2 || nsite (ops.getD p.1 default).ins == 0)=true):Zdm ops L l cs=true:=by
 have hd:∀ i,ZdZ (cs.getD i {})=true:=by
  intro i
  rw [List.all_eq_true] at h
  rw [List.getD_eq_getElem?_getD]
  cases hi:cs[i]? with
  | none=>rfl
  | some c=>exact h c (List.mem_of_getElem? hi)
 unfold Zdm
 rw [List.all_eq_true] at hs ⊢
 intro p hp
 have:=hs p hp
 rw [Bool.or_eq_true] at this ⊢
 rcases this with this | this
 ·exact Or.inl this
 ·refine Or.inr ?_
  unfold Zco
  simp only [hd,this,Bool.and_true,Bool.true_and,Bool.true_or,Bool.or_true]
theorem ZDq (ops:List AOp) (L:Nat) (l:List (Nat×Nat)) (live:List Nat) (tm:Tms) (σ:Za) (cs:List Cls) (h:(cs.all fun c=>c.wr.isEmpty && !c.any)=true) (hs:(l.all fun p=>p.1 == p.2 || nsite (ops.getD p.1 default).ins == 0)=true):ZeV ops L l live (some (tm,σ,cs,none))=some (.normal,keepL live tm,σ) :=
 Ztn _ _ _ _ _ _ _ (ZAA _ _ _ _ h hs)
variable (O bf) in
def gKC (os:List AOp) (s:Nat):Option (Tms×Za×List Cls×Option AVal)->Option (Tms×Za×List Cls×Option AVal)
 | none=>none
 | some (tm,σ,cs,some x)=>some (tm,σ,cs,some x)
 | some (tm,σ,cs,none)=>Zhh cs (Z3 O bf os s tm σ)
theorem ZAL (os:List AOp) (s:Nat) (tm:Tms) (σ:Za) (cs:List Cls):gKC O bf os s (some (tm,σ,cs,none))=Zhh cs (Z3 O bf os s tm σ):=rfl
theorem ZI6 (os:List AOp) (s:Nat) (q:Prop) [Decidable q] (x y:Option (Tms×Za×List Cls×Option AVal)):gKC O bf os s (if q then x else y)=if q then gKC O bf os s x else gKC O bf os s y:=by split <;> rfl
theorem ZBO (os:List AOp) (s:Nat) (c:Cls) (r:Option (Tms×Za×List Cls×Option AVal)):gKC O bf os s (Zd0 c r)=Zd0 c (gKC O bf os s r):=by
 cases r with
 | none=>rfl
 | some q =>
  obtain ⟨tm,σ,cs,p⟩:=q
  cases p with
  | some x=>rfl
  | none =>
   simp only [Zd0,gKC]
   cases Z3 O bf os s tm σ <;> rfl
theorem ZvL:∀ (a b:List AOp) (s:Nat) (tm:Tms) (σ:Za),Z3 O bf (a++b) s tm σ=gKC O bf b (s+sitesOf a) (Z3 O bf a s tm σ)
 | [],b,s,tm,σ=>by
  simp only [List.nil_append,ZtB,gKC,sitesOf,List.map_nil,List.sum_nil,Nat.add_zero]
  cases Z3 O bf b s tm σ <;> rfl
 | o::a,b,s,tm,σ=>by
  have ih:=ZvL a b
  simp only [List.cons_append]
  have hs:s+nsite o.ins+sitesOf a=s+sitesOf (o::a):=by simp [sitesOf,Nat.add_assoc]
  cases hst:ZR O bf o s tm σ with
  | none=>rw [Zi4 hst,Zi4 hst];rfl
  | some q =>
   obtain ⟨v,tm1,σ1,c⟩:=q
   cases hp:ZaS v with
   | true =>
    obtain ⟨x,rfl⟩:=Zj9 hp
    rw [ZmQ hst,ZmQ hst];rfl
   | false=>rw [ZmC hst hp,ZmC hst hp,ih,hs,ZBO]
variable (O bf) in
def Zew (j:Nat) (w:Bool) (g:List AOp) (s:Nat) (tm:Tms) (σ:Za):Option (Tms×Za×List Cls×Option AVal):=match Zbp (some (j,w)) tm with
 | none=>none
 | some false=>some (Zam g tm,σ,g.map fun _=>{},none)
 | some true=>Z3 O bf (g.map unG) s tm σ
theorem Zse (j:Nat) (w:Bool):∀ (g:List AOp),(∀ o ∈ g,o.guard=some (j,w)/\o.dst≠some j)->∀ (s:Nat) (tm:Tms) (σ:Za),g≠[]->Z3 O bf g s tm σ=Zew O bf j w g s tm σ
 | [],_,_,_,_,h=>absurd rfl h
 | o::g,hall,s,tm,σ,_=>by
  obtain ⟨hg,hd⟩:=hall o (by simp)
  have ih:∀ (tm:Tms) (σ:Za) (s:Nat),Zbp (some (j,w)) tm≠none->Z3 O bf g s tm σ=Zew O bf j w g s tm σ:=by
   intro tm σ s hw
   by_cases he:g=[]
   ·subst he
    unfold Zew
    cases hx:Zbp (some (j,w)) tm with
    | none=>exact absurd hx hw
    | some b=>cases b <;> rfl
   ·exact Zse j w g (fun o ho=>hall o (by simp [ho])) s tm σ he
  cases hx:Zbp (some (j,w)) tm with
  | none =>
   rw [Zi4 (by simp only [ZR,hg,hx])]
   simp only [Zew,hx]
  | some b =>
   cases b with
   | false =>
    have h1:Z3 O bf (o::g) s tm σ=Zd0 {} (Z3 O bf g (s+nsite o.ins) (tput tm o.dst (.tup [])) σ) :=
     ZmC (v:=.tup []) (c:={}) (by simp only [ZR,hg,hx]) rfl
    rw [h1,ih _ _ _ (by rw [Zgc hd,hx];simp)]
    unfold Zew
    rw [Zgc hd,hx]
    rfl
   | true =>
    have key:∀ r:Option (AVal×Za×Cls),(∀ v σ' c,r=some (v,σ',c)->ZaS v=false->Z3 O bf g (s+nsite o.ins) (tput tm o.dst v) σ'=Z3 O bf (g.map unG) (s+nsite o.ins) (tput tm o.dst v) σ')->kC O bf o.dst g (s+nsite o.ins) tm r=kC O bf o.dst (g.map unG) (s+nsite o.ins) tm r:=by
     intro r hr
     cases r with
     | none=>rfl
     | some q =>
      obtain ⟨v,σ',c⟩:=q
      cases hp:ZaS v with
      | true=>simp only [kC,hp,if_true]
      | false=>rw [ZnI _ _ _ _ _ _ _ hp,ZnI _ _ _ _ _ _ _ hp,hr v σ' c rfl hp]
    have h1:Z3 O bf (o::g) s tm σ=kC O bf o.dst g (s+nsite o.ins) tm (exI O bf o.ins s tm σ):=by
     have h0:Z3 O bf (o::g) s tm σ=Z3 O bf (⟨o.dst,o.ins,none,o.after⟩::g) s tm σ:=by
      have hst:ZR O bf o s tm σ=ZR O bf ⟨o.dst,o.ins,none,o.after⟩ s tm σ:=by
       unfold ZR
       simp only [hg,hx]
       rfl
      simp only [Z3,hst]
     rw [h0,Zn3]
    rw [h1]
    unfold Zew
    rw [hx]
    simp only [List.map_cons]
    rw [show unG o=⟨o.dst,o.ins,none,o.after⟩ from rfl,Zn3]
    refine key _ fun v σ' c _ _=>?_
    rw [ih _ _ _ (by rw [Zgc hd,hx];simp)]
    unfold Zew
    rw [Zgc hd,hx]
theorem ZOy (d:Option Nat) (i:Ins) (j:Nat) (w:Bool) (af:List Nat) (os:List AOp) (s:Nat) (tm:Tms) (σ:Za) (hd:decide (d=some j)=false) :
  Z3 O bf (⟨d,i,some (j,w),af⟩::os) s tm σ=gKC O bf (ZD j w os).2 (s+sitesOf (⟨d,i,some (j,w),af⟩::(ZD j w os).1)) (Zew O bf j w (⟨d,i,some (j,w),af⟩::(ZD j w os).1) s tm σ):=by
 have h:=ZpB j w os
 have hall:∀ o ∈ (⟨d,i,some (j,w),af⟩::(ZD j w os).1:List AOp),o.guard=some (j,w)/\o.dst≠some j:=by
  intro o ho
  rcases List.mem_cons.1 ho with rfl | ho
  ·exact ⟨rfl,by simpa using hd⟩
  ·exact Znq j w os o ho
 rw [<-Zse j w _ hall s tm σ (by simp),<-ZvL,List.cons_append,h]
variable (O bf) in
def gWC (w:Bool) (g:List AOp) (s:Nat) (tm:Tms) (σ:Za):AVal->Option (Tms×Za×List Cls×Option AVal)
 | .bool b=>if b=w then Z3 O bf (g.map unG) s tm σ else some (Zam g tm,σ,g.map fun _=>{},none)
 | .tup []=>some (Zam g tm,σ,g.map fun _=>{},none)
 | _=>none
theorem ZKk (j:Nat) (w:Bool) (g:List AOp) (s:Nat) (tm:Tms) (σ:Za):Zew O bf j w g s tm σ=gWC O bf w g s tm σ (tget tm j):=by
 unfold Zew Zbp
 simp only
 generalize tget tm j=v
 cases v
 case bool b=>cases b <;> cases w <;> rfl
 case tup vs=>cases vs <;> rfl
 all_goals rfl
theorem ZG2 (w:Bool) (g:List AOp) (s:Nat) (tm:Tms) (σ:Za) (b:Bool):gWC O bf w g s tm σ (.bool b)=if b=w then Z3 O bf (g.map unG) s tm σ else some (Zam g tm,σ,g.map fun _=>{},none):=rfl
theorem ZPk (w:Bool) (g:List AOp) (s:Nat) (tm:Tms) (σ:Za):gWC O bf w g s tm σ (.tup [])=some (Zam g tm,σ,g.map fun _=>{},none):=rfl
theorem Zxa (q:Prop) [Decidable q] (t1 t2:Tms) (σ1 σ2:Za) (cs:List Cls):(if q then some (t1,σ1,cs,(none:Option AVal)) else some (t2,σ2,cs,none))=some ((if q then t1 else t2),(if q then σ1 else σ2),cs,none):=by split <;> rfl
end
section
theorem Zls {r:AVal} {cs:List AVal} {σ:Za} (hr:ZQ r=true) (hc:Zd cs=true):gcA 1 [r] (.var cs::σ)=([r],[.var cs]):=by
 have e1:=(Za7 (Zj (.var cs::σ) 1 [0]) r hr)
 have e2:=(ZaW (Zj (.var cs::σ) 1 [0]) cs hc)
 have h1:Zv 1 [r] (.var cs::σ)=[0]:=by
  have : Zp [r]=[]:=by simp only [Zp,e1.2,List.append_nil]
  simp only [Zv,this,List.range_one,List.flatMap_cons,List.flatMap_nil,List.append_nil,List.getD_cons_zero,ZC,e2.2]
  rfl
 simp only [gcA,h1,Zf,e1.1,Zr,List.getD_cons_zero,Zw,e2.1]
theorem Z1 {r:AVal} {cs:List AVal} {σ:Za} (hr:ZQ r=true) (hc:Zd cs=true):Z6 1 (.var cs::σ) r=some (r,[.var cs]):=by
 simp only [Z6,Zls hr hc]
theorem Zfr {σ:Za} {t:Nat} {cs:List AVal} (hs:σ[t]?=some (.var cs)) (hc:Zd cs=true):Zu σ 1000 [t] []=[t]:=by
 have hd:σ.getD t .free=.var cs:=by simp [List.getD_eq_getElem?_getD,hs]
 have e2:=(ZaW (fun _ _=>none) cs hc).2
 show Zu σ (999+1) [t] []=[t]
 simp only [Zu,List.contains_nil,Bool.false_eq_true,if_false,hd,ZC,e2,List.nil_append]
end
end
section
section
variable (c:Prop) [Decidable c]
theorem ZA5 (t1 t2:Tms) (σ1 σ2:Za):(if c then some (ZaU.normal,t1,σ1) else some (ZaU.normal,t2,σ2))=some (ZaU.normal,(if c then t1 else t2),(if c then σ1 else σ2)):=by split <;> rfl
theorem ZOx (t1 t2:Tms) (σ1 σ2:Za):(if c then some (ZaU.ret,t1,σ1) else some (ZaU.ret,t2,σ2))=some (ZaU.ret,(if c then t1 else t2),(if c then σ1 else σ2)):=by split <;> rfl
theorem ZHY (t1 t2:Tms) (σ1 σ2:Za):(if c then some (t1,σ1,(none:Option AVal)) else some (t2,σ2,none))=some ((if c then t1 else t2),(if c then σ1 else σ2),none):=by split <;> rfl
theorem Zw4 (n:Nat) (a b:AVal):(if c then (n,a) else (n,b))=(n,if c then a else b):=by split <;> rfl
theorem ZK5 (a b:AVal) (σ1 σ2:Za):(if c then some (a,σ1) else some (b,σ2))=some ((if c then a else b),(if c then σ1 else σ2)):=by split <;> rfl
theorem ZPh (a b:AVal) (σ1 σ2:Za) (x y:Cls):(if c then some (a,σ1,x) else some (b,σ2,y))=some ((if c then a else b),(if c then σ1 else σ2),if c then x else y):=by split <;> rfl
end
theorem ZCq {α:Type} (p:Bool) (x y z:α):(if p=true then x else (if p=false then y else z))=if p=true then x else y:=by cases p <;> rfl
theorem ZD5 (ops:List AOp) (b:Nat) (cs:List Cls):Zdm ops b [] cs=true:=rfl
theorem ZBh (ops:List AOp) (b:Nat) (p:Nat×Nat) (l:List (Nat×Nat)) (cs:List Cls):Zdm ops b (p::l) cs=((p.1 == p.2 || Zco (ops.getD p.1 default) (ops.getD p.2 default) (cs.getD p.1 {}) (cs.getD p.2 {}) (b+sitesOf (ops.take p.1))) && Zdm ops b l cs):=by
 simp only [Zdm,List.all_cons]
theorem ZBf (oj oi:AOp) (cj ci:Cls) (sj:Nat):Zco oj oi cj ci sj=(Zcd oj cj || Zcd oi ci || (ZdZ cj && ZdZ ci && (nsite oj.ins == 0 || !ci.rd.contains sj)) || ((Zac oj.ins || (Zai oj.ins && !cj.any)) && (ZdZ ci && ci.rd.isEmpty)) || (Zag oj.ins && Zac oi.ins && ci.any && Zal cj ci) || (Zag oj.ins && (Zai oi.ins || (Zao oi.ins && Zaq cj ci)) && Zal cj ci)):=rfl
theorem ZFl (o:AOp) (rd wr:List Nat) (any:Bool) (got:List (Nat×Option Nat×Nat×AVal)) (upd:List (Nat×List AVal)):Zcd o ⟨rd,wr,any,got,upd⟩=(nsite o.ins == 0 && rd.isEmpty && wr.isEmpty && !any):=rfl
theorem ZPc (rd wr:List Nat) (any:Bool) (got:List (Nat×Option Nat×Nat×AVal)) (upd:List (Nat×List AVal)):ZdZ ⟨rd,wr,any,got,upd⟩=(wr.isEmpty && !any):=rfl
theorem Z4 {α:Type} {l:List α} {i:Nat} {x:α} {r:List α} (h:l.drop i=x::r):l[i]?=some x/\l.drop (i+1)=r/\i < l.length:=by
 have h1:i < l.length:=by
  rcases Nat.lt_or_ge i l.length with h1 | h1
  ·exact h1
  ·rw [List.drop_eq_nil_of_le h1] at h;cases h
 rw [List.drop_eq_getElem_cons h1] at h
 injection h with h2 h3
 exact ⟨by rw [List.getElem?_eq_getElem h1,h2],h3,h1⟩
theorem Zcv {α:Type} {l:List α} {i:Nat} (h:l.drop i=[]):¬(i:Int) < l.length:=by
 have:=List.drop_eq_nil_iff.1 h;omega
theorem iad {α:Type} {l:List α} {i:Nat} {x:α} (h:l[i]?=some x) (f:α->AVal) {k:Nat} (hk:(f x).cells.length=k) (σ:Za) (n:Bool) (kk:IntKind):Zdl σ k (.lst n (l.map f)) (.int kk (i:Int))=some (.iptr (f x).cells 0,σ,{}):=by
 have h0:(0:Int)<=(i:Int):=Int.natCast_nonneg i
 unfold Zdl
 simp only [h0,if_true,Int.toNat_natCast,List.getElem?_map,h,Option.map_some,hk]
theorem Za6 {n:Int} (h0:-9223372036854775808<=n) (h:n<=9223372036854775807):IntKind.i64.wrap n=n:=by
 rw [IntKind.wrap_i64];omega
theorem Zj5 {α β:Type} {a:List α} {b:List β} (h:a.length=b.length):((a.length:Int) != (b.length:Int))=false:=by simp [h]
theorem Zj7 {α β:Type} {a:List α} {b:List β} (h:a.length≠b.length):((a.length:Int) != (b.length:Int))=true:=by
 simp only [bne_iff_ne,ne_eq];omega
theorem Zlq {α:Type} [BEq α] [LawfulBEq α] {a b:List α} (h:a.length≠b.length):(a == b)=false:=by
 simp only [beq_eq_false_iff_ne,ne_eq];rintro rfl;exact h rfl
theorem ZcL {i n:Nat} (h:(i:Int) < n) (hn:n<=9223372036854775807):IntKind.i64.wrap ((i:Int)+1)=((i+1:Nat):Int):=by
 rw [Za6 (by omega) (by omega)];rfl
theorem Zb8 {O:ZU} {bf:Nat->Bool} {f:Nat} {args:List AVal} {r:AVal} (h:O f args []=some (r,[])) (hb:bf f=false) (hp:args.all Zak=true) (hn:args.map ZM=args) (hv:Zbs 0 (some (r,[]))=some (r,[])) (hr:∀ sq,Zm (Zax [] [] sq) r=r) (σ:Za) (sq own:Nat) (view:Bool):Zo O bf σ sq f own view args=some (r,σ,{}):=by
 rw [Zd2 hb hp,hn,h]
 have : Zab view 0 (some (r,[]))=some (r,[]):=by
  unfold Zab
  split
  ·exact hv
  ·rfl
 rw [this,Zha _ _ _ _ (hr sq)]
theorem Zje {α:Type} (σ:Za) (k:Nat) (l:List α) (f:α->AVal) (kk:IntKind) (n:Int) (h0:0<=n) (h:n<=(l.length:Int)):ZbS σ k (.lst false (l.map f)) none (some (.int kk n)) none=some (.lst false ((l.take n.toNat).map f),σ,{}):=by
 simp only [ZbS,Zbl,Zel,List.length_map,h0,h,and_self,if_true,beq_self_eq_true,Bool.true_or,Option.isSome_none,Bool.false_eq_true,if_false,Bool.false_and,List.drop_zero,List.map_take]
abbrev Zb:=List UInt8
def ZI (b:Zb):AVal:=.lst false (b.map Zc)
structure Zn where
 id:Int
 num:Int
 text:Zb
 pair:Zb
 data:Zb
 deriving DecidableEq
def Zbd (p:Zn):List AVal:=[.int .i64 p.id,.int .i64 p.num,.str p.text,.str p.pair,ZI p.data]
def Zg (p:Zn):AVal:=.agg (Zbd p)
def Zbc (l:List Zn):AVal:=.lst false (l.map Zg)
def ZJg (l:List Int):AVal:=.lst false (l.map (.int .i64 ·))
theorem ZvK (l:Zb):ZfI (l.map Zc)=some l:=by
 induction l with
 | nil=>rfl
 | cons b l ih =>
  simp only [List.map_cons,ZfI,ih,Zc,ZoV,Int.toNat_natCast,UInt8.ofNat_toNat]
end
section
def Zvb:=(aI (aI (aI (aI (aI (aI @ZGn @ZyN) (aI @ZFF @ZKy)) (aI (aI @ZM4 @ZGA) (aI @ZyJ @ZB8))) (aI (aI (aI @Zr3 @Zoy) (aI @ZyD @ZoJ)) (aI (aI @ZG6 @ZxI) (aI @ZDg @ZEU)))) (aI (aI (aI (aI @ZPp @ZKe) (aI @ZBH @Zzx)) (aI (aI @ZIL @ZO2) (aI @ZNI @ZAW))) (aI (aI (aI @ZFA @ZH3) (aI @ZHD @ZK6)) (aI (aI @ZAj @ZvK) (aI @ZA5 @ZOx))))) (aI (aI (aI (aI (aI @ZHY @Zw4) (aI @ZK5 @ZPh)) (aI (aI @ZNZ @Zx5) (aI @ZBU @ZO4))) (aI (aI (aI @ZNn @Zxb) (aI @ZBi @ZAE)) (aI (aI @ZtB @Zn3) (aI @ZOy @ZHT)))) (aI (aI (aI (aI @ZMv @ZJn) (aI @ZLW @ZNU)) (aI (aI @ZLA @ZnI) (aI @ZAr @ZKQ))) (aI (aI (aI @ZKH @ZDq) (aI @ZNY @ZDi)) (aI (aI @ZAL @ZI6) (aI @ZKk @ZG2))))))
def ZDG:=(aI (aI (aI (aI (aI (aI @ZPk @Zxa) (aI @ZNc @ZOP)) (aI (aI @ZKE @ZOZ) (aI @ZD5 @ZBh))) (aI (aI (aI @ZBf @ZFl) (aI @ZPc @Ztn)) (aI (aI @ZPj @ZCr) (aI @ZEA @ZxL)))) (aI (aI (aI (aI @ZK4 @ZxP) (aI @ZD2 @ZMN)) (aI (aI @ZrD @ZHj) (aI @ZOE @Zyb))) (aI (aI (aI @ZGK @ZE1) (aI @ZIl @ZEk)) (aI (aI @ZKd @ZPf) (aI @ZGV @ZEP))))) (aI (aI (aI (aI (aI @Zx6 @ZMs) (aI @ZOl @ZMm)) (aI (aI @ZLK @ZGa) (aI @ZxZ @ZzY))) (aI (aI (aI @ZB5 @ZHW) (aI @ZNP @ZJ8)) (aI (aI @ZCO @Zy9) (aI @ZNq @ZAn)))) (aI (aI (aI (aI @ZIs @ZCt) (aI @ZMP @ZOV)) (aI (aI @Zxm @Zxj) (aI @Zyc @ZAT))) (aI (aI (aI @ZGq @ZJf) (aI @ZGv @Zw2)) (aI (aI @ZPu @ZF3) (aI @ZME @ZH4))))))
def ZaM:=(aI (aI (aI (aI (aI (aI @ZCI @ZIW) (aI @ZOD @ZJp)) (aI (aI @ZM3 @ZLu) (aI @ZBI @ZLZ))) (aI (aI (aI @Zyn @ZH0) (aI @ZF0 @ZFo)) (aI (aI @ZDz @ZHn) (aI @ZPE @ZFY)))) (aI (aI (aI (aI @Zzp @ZKh) (aI @Zyd @ZNO)) (aI (aI @ZIx @ZKa) (aI @ZBj @ZDp))) (aI (aI (aI @ZDE @ZBZ) (aI @ZBQ @ZKb)) (aI (aI @ZxS @ZLF) (aI @ZMW @ZEw))))) (aI (aI (aI (aI (aI @ZDV @ZM8) (aI @ZHv @ZE5)) (aI (aI @ZwU @ZKu) (aI @ZNr @ZA6))) (aI (aI (aI @ZNx @ZBV) (aI @Zxx @ZII)) (aI (aI @ZCl @ZyU) (aI @ZH1 @ZJ2)))) (aI (aI (aI (aI @ZFj @ZMZ) (aI @ZOO @ZDj)) (aI (aI @ZwZ @ZGs) (aI @ZM0 @ZMd))) (aI (aI (aI @ZEE @ZAK) (aI @ZI3 @ZAa)) (aI (aI @ZEh @Zyw) (aI @ZJF @ZIU))))))
def ZcI:=(aI (aI (aI (aI (aI (aI @ZHE @ZH9) (aI @ZNB @Zyk)) (aI (aI @ZJR @ZEc) (aI @ZIF @ZO8))) (aI (aI (aI @ZCx @ZPv) (aI @ZKm @Zvd)) (aI (aI @ZE6 @ZsY) (aI @ZE2 @ZOF)))) (aI (aI (aI (aI @ZBR @ZOo) (aI @Zwa @ZMC)) (aI (aI @ZAx @ZG1) (aI @ZOr @ZOj))) (aI (aI (aI @ZEH @ZH5) (aI @Zy5 @ZG3)) (aI (aI @ZF7 @Zzl) (aI @ZEn @ZEM))))) (aI (aI (aI (aI (aI @ZyB @ZFe) (aI @ZDK @ZEZ)) (aI (aI @ZGS @Zzz) (aI @ZuW @ZL1))) (aI (aI (aI @ZGB @Zzo) (aI @ZGQ @ZN9)) (aI (aI @ZGx @ZFf) (aI @ZwN @ZsG)))) (aI (aI (aI (aI @ZCe @Zuk) (aI @ZD4 @ZFx)) (aI (aI @ZAR @Zyt) (aI @Zv1 @ZCi))) (aI (aI (aI @ZJW @ZID) (aI @ZOB @Zza)) (aI (aI @ZzU @ZE9) (aI @ZKF @ZFD))))))
def ZK:=(aI (aI (aI (aI (aI (aI @ZE7 @ZMY) (aI @ZIP @ZAg)) (aI (aI @ZBC @ZAi) (aI @Zzi @ZzK))) (aI (aI (aI @ZH6 @ZJy) (aI @ZHP @Zva)) (aI (aI @ZNt @ZHb) (aI @ZFH @ZyM)))) (aI (aI (aI (aI @ZOs @ZE4) (aI @Zw3 @Zzd)) (aI (aI @ZNT @ZD9) (aI @ZzL @ZHw))) (aI (aI (aI @ZJS @ZM5) (aI @ZG5 @ZLR)) (aI (aI @ZFw @ZDM) (aI @ZDP @ZEL))))) (aI (aI (aI (aI (aI @ZJ7 @ZxE) (aI @ZEV @ZDs)) (aI (aI @ZIy @ZPe) (aI @ZKg @ZCU))) (aI (aI (aI @ZIt @ZGb) (aI @ZOK @ZK1)) (aI (aI @ZMV @ZMa) (aI @ZOa @ZFr)))) (aI (aI (aI (aI @ZxG @ZHo) (aI @ZyS @Zzq)) (aI (aI @ZBt @ZOY) (aI @ZFE @ZBb))) (aI (aI (aI @ZLt @ZJQ) (aI @ZDW @Zyq)) (aI (aI @ZNb @ZMH) (aI @Zzc @ZJm))))))
def ZtU:=(aI (aI (aI (aI (aI (aI @ZEf @ZN6) (aI @ZBE @ZOT)) (aI (aI @ZHr @ZDI) (aI @ZGN @ZFp))) (aI (aI (aI @ZAh @ZwX) (aI @ZLx @Zy3)) (aI (aI @ZIC @ZwR) (aI @ZAC @ZJ5)))) (aI (aI (aI (aI @ZFa @ZLq) (aI @ZK0 @ZIf)) (aI (aI @ZOG @Zzm) (aI @ZAy @ZyH))) (aI (aI (aI @ZzF @ZCC) (aI @ZEl @ZFL)) (aI (aI @ZMt @ZHa) (aI @Zxn @ZPy))))) (aI (aI (aI (aI (aI @ZFV @ZEs) (aI @ZzW @ZAt)) (aI (aI @ZEt @ZF5) (aI @Zz0 @ZGJ))) (aI (aI (aI @ZHu @Zyx) (aI @ZKl @ZAP)) (aI (aI @ZEr @Zy2) (aI @ZKx @Zx0)))) (aI (aI (aI (aI @ZHz @ZF2) (aI @ZzB @ZJM)) (aI (aI @ZNH @ZCc) (aI @ZOS @ZJi))) (aI (aI (aI @ZzZ @ZL0) (aI @ZMf @ZB1)) (aI (aI @ZC7 @ZD0) (aI @ZIO @ZDH))))))
def Zt:=(aI (aI (aI (aI (aI (aI @ZDA @ZHX) (aI @Zxd @Zw0)) (aI (aI @ZPw @ZNW) (aI @ZOw @Zzn))) (aI (aI (aI @ZDF @ZwQ) (aI @ZOM @ZHK)) (aI (aI @ZzR @ZA8) (aI @ZFO @ZC6)))) (aI (aI (aI (aI @ZNf @ZKS) (aI @ZGT @ZHc)) (aI (aI @ZK3 @ZJo) (aI @ZLY @ZzV))) (aI (aI (aI @ZyY @ZKr) (aI @ZAM @ZMu)) (aI (aI @ZwY @ZxM) (aI @ZKz @ZI0))))) (aI (aI (aI (aI (aI @ZBd @ZwP) (aI @ZJH @ZJc)) (aI (aI @ZFv @ZGo) (aI @ZCd @ZxR))) (aI (aI (aI @Zzj @ZCL) (aI @ZAY @ZOd)) (aI (aI @ZKq @ZN7) (aI @ZDo @ZMi)))) (aI (aI (aI (aI @ZNd @ZIA) (aI @ZMS @ZK8)) (aI (aI @ZIX @ZA4) (aI @ZC9 @ZO5))) (aI (aI (aI @ZEy @ZEx) (aI @ZEp @Zw8)) (aI (aI @ZxW @ZCw) (aI @ZPn @ZJj))))))
def ZV:=(aI (aI (aI (aI (aI @ZKV (aI @ZN2 @ZGj)) (aI (aI @ZIN @ZzD) (aI @ZJV @ZAz))) (aI (aI @ZJv (aI @Zyz @ZGi)) (aI (aI @ZF1 @ZI8) (aI @ZOv @ZLT)))) (aI (aI (aI @Zzf (aI @ZxJ @ZNe)) (aI (aI @ZKw @ZLI) (aI @ZHU @ZCa))) (aI (aI (aI @ZDk @ZOu) (aI @ZLQ @ZKf)) (aI (aI @ZEu @ZHm) (aI @ZD6 @ZyF))))) (aI (aI (aI (aI @ZxB (aI @ZON @ZKc)) (aI (aI @ZDm @ZFc) (aI @Zy0 @ZCW))) (aI (aI (aI @ZJN @ZAc) (aI @ZBA @ZLV)) (aI (aI @ZCF @ZDr) (aI @ZMc @ZLv)))) (aI (aI (aI @ZMe (aI @ZOk @ZHS)) (aI (aI @Zx9 @ZMx) (aI @ZCb @Zye))) (aI (aI (aI @ZBK @ZNh) (aI @ZAI @ZwS)) (aI (aI @ZCR @Z1) (aI @ZGP @Zvr))))))
def Zbo:=(aI (aI (aI (aI (aI (aI @List.map_cons.{0,0} @List.map_nil.{0,0}) (aI @List.length_cons.{0} @List.length_nil.{0})) (aI (aI @List.replicate_zero.{0} @List.replicate_succ.{0}) (aI @List.append_nil.{0} @List.nil_append.{0}))) (aI (aI (aI @List.cons_append.{0} @List.getElem?_cons_zero.{0}) (aI @List.getElem?_cons_succ.{0} @List.set_cons_zero.{0})) (aI (aI @List.set_cons_succ.{0} @Nat.add_zero) (aI @Nat.zero_add @Bool.true_or)))) (aI (aI (aI (aI @Bool.false_or @Bool.or_true) (aI @Bool.or_false @Bool.and_true)) (aI (aI @Bool.true_and @Bool.and_self) (aI @Bool.and_false @Bool.false_and))) (aI (aI (aI @if_true.{1} @if_false.{1}) (aI @ite_true.{1} @ite_false.{1})) (aI (aI @Option.map_some.{0,0} @Option.map_none.{0,0}) (aI @and_self @and_true))))) (aI (aI (aI (aI (aI @true_and @and_false) (aI @false_and @true_or)) (aI (aI @or_true @false_or) (aI @or_false @not_true_eq_false))) (aI (aI (aI @not_false_eq_true @List.drop_zero.{0}) (aI @List.drop_succ_cons.{0} @List.take_succ_cons.{0})) (aI (aI @List.take_zero.{0} @List.all_cons.{0}) (aI @List.all_nil.{0} @List.isEmpty_nil.{0})))) (aI (aI (aI (aI @Bool.not_false @Bool.not_true) (aI @List.length_map.{0,0} @Bool.bne_false)) (aI (aI @Bool.bne_true @List.isEmpty_cons.{0}) (aI @List.getD_cons_zero.{0} @List.getD_cons_succ.{0}))) (aI (aI (aI @List.getD_nil.{0} @List.contains_nil.{0}) (aI @List.range_zero @List.flatMap_cons.{0,0})) (aI (aI @List.flatMap_nil.{0,0} @List.zip_cons_cons.{0,0}) (aI @List.zip_nil_left.{0,0} @List.zip_nil_right.{0,0}))))))
def Za2:=@Nat.not_lt_zero
def EQA := (aI (aI (aI (aI (aI (aI Zvb (aI ZDG ZtU)) (aI (aI Zbo @exI.eq_1) (aI @nsite.eq_1 @nsite.eq_2))) (aI (aI (aI @nsite.eq_3 @nsite.eq_4) (aI @nsite.eq_5 @nsite.eq_6)) (aI (aI @nsite.eq_7 @nsite.eq_8) (aI @nsite.eq_9 @nsite.eq_10)))) (aI (aI (aI (aI @freeAt.eq_1 @execI.eq_1) (aI @execI.eq_2 @execI.eq_3)) (aI (aI @execI.eq_4 @execI.eq_5) (aI @execI.eq_6 @execI.eq_7))) (aI (aI (aI @execI.eq_8 @execI.eq_9) (aI @execI.eq_10 @execI.eq_11)) (aI (aI @execI.eq_12 @execI.eq_13) (aI @execI.eq_14 @execI.eq_15))))) (aI (aI (aI (aI @execI.eq_16 (aI @execI.eq_17 @execI.eq_18)) (aI (aI @execI.eq_19 @execI.eq_20) (aI @execI.eq_21 @execI.eq_22))) (aI (aI (aI @execI.eq_23 @execI.eq_24) (aI @execI.eq_25 @execI.eq_26)) (aI (aI @execI.eq_27 @execI.eq_28) (aI @execI.eq_29 @execI.eq_30)))) (aI (aI (aI (aI @execI.eq_31 @execI.eq_32) (aI @execI.eq_33 @execI.eq_34)) (aI (aI @execI.eq_35 @execI.eq_36) (aI @execI.eq_37 @execI.eq_38))) (aI (aI (aI @execI.eq_39 @execI.eq_40) (aI @execI.eq_41 @execI.eq_42)) (aI (aI @execI.eq_43 @execI.eq_44) (aI @Opd.ev.eq_1 @Opd.ev.eq_2)))))) (aI (aI (aI (aI (aI @tget.eq_1 (aI @tget.eq_2 @tins.eq_1)) (aI (aI @tins.eq_2 @tput.eq_1) (aI @tput.eq_2 @keepL.eq_1))) (aI (aI (aI @sitesOf.eq_1 @resA.eq_1) (aI @resAll.eq_1 @resAll.eq_2)) (aI (aI @resOne.eq_1 @resOne.eq_2) (aI @enterA.eq_1 @enterA.eq_2)))) (aI (aI (aI (aI @partA.eq_1 @partA.eq_2) (aI @faddrA.eq_1 @faddrA.eq_2)) (aI (aI @faddrA.eq_3 @faddrA.eq_4) (aI @setAt.eq_1 @binA.eq_1))) (aI (aI (aI @binA.eq_2 @binA.eq_3) (aI @binA.eq_4 @binA.eq_5)) (aI (aI @arithA.eq_1 @arithA.eq_2) (aI @arithA.eq_3 @arithA.eq_4))))) (aI (aI (aI (aI @arithA.eq_5 (aI @arithA.eq_6 @arithA.eq_7)) (aI (aI @arithA.eq_8 @arithA.eq_9) (aI @arithA.eq_10 @arithA.eq_11))) (aI (aI (aI @arithA.eq_12 @arithA.eq_13) (aI @arithA.eq_14 @arithA.eq_15)) (aI (aI @arithA.eq_16 @ldA.eq_1) (aI @ldA.eq_2 @ldA.eq_3)))) (aI (aI (aI (aI @ldA.eq_4 @stA.eq_1) (aI @stA.eq_2 @stA.eq_3)) (aI (aI @List.sum_cons.{0} @List.sum_nil.{0}) (aI @eq_self.{1} @beq_self_eq_true.{0}))) (aI (aI (aI @Bool.false_eq_true @Option.some.injEq.{0}) (aI @decide_true @decide_false)) (aI (aI @List.foldl_cons.{0, 0} @List.foldl_nil.{0, 0}) (aI @List.contains_cons.{0} @ne_eq.{1})))))))
end
section
theorem ZAB (a b:Zn):E 92 [Zg a,Zg b] []=some (.bool (a.id == b.id && a.num == b.num && a.text == b.text && a.pair == b.pair && a.data == b.data),[]):=by
 rw [Zh (by rfl) ZCV]
 simp -implicitDefEqProofs only [EQA,ZK,ZV,ZdB,ZmD,Nat.reduceAdd,Nat.reduceLT,Nat.reduceEqDiff,Nat.reduceBEq,Zcn,ZD,Zam,unG,reduceCtorEq,ZY,ite_self,↓reduceIte,ZHG,Zp7,ZPx,oI,ZI,Zg,Zbd]
theorem ZJY (a b:Zn):(a.id == b.id && a.num == b.num && a.text == b.text && a.pair == b.pair && a.data == b.data)=(a == b):=by
 obtain ⟨i,n,t,p,d⟩:=a
 obtain ⟨i',n',t',p',d'⟩:=b
 rw [Bool.eq_iff_iff]
 simp [and_assoc]
theorem ZLJ (a:Zn):Zak (Zg a)=true:=by
 simp -implicitDefEqProofs only [eq_self,Bool.and_self,List.all_cons,List.all_nil,Zvd,ZsY,Zwa,ZuW,Zg,Zbd,ZI]
theorem ZLc (a:Zn):ZM (Zg a)=Zg a:=by
 simp -implicitDefEqProofs only [eq_self,List.map_cons,List.map_nil,ZsG,Zuk,Zv1,Zva,Zg,Zbd,ZI]
theorem ZHe (σ:Za) (sq own:Nat) (view:Bool) (i n:Int) (t p d:Zb) (i' n':Int) (t' p' d':Zb):Zo E BY σ sq 92 own view [.agg [.int .i64 i,.int .i64 n,.str t,.str p,.lst false (d.map Zc)],.agg [.int .i64 i',.int .i64 n',.str t',.str p',.lst false (d'.map Zc)]]=some (.bool (i == i' && n == n' && t == t' && p == p' && d == d'),σ,{}) :=
 Zb8 (ZAB ⟨i,n,t,p,d⟩ ⟨i',n',t',p',d'⟩) (by kernel_rfl) (by simp only [List.all_cons,ZLJ];rfl) (by simp only [List.map_cons,ZLc];rfl) rfl (fun _=>rfl) _ _ _ _
theorem Zwn (a b:List Zn) (h:a.length=b.length) (hl:a.length<=9223372036854775807):∀ (r s:List Zn) (i:Nat),a.drop i=r->b.drop i=s->ZlP 0 [(17,.int .i64 i),(16,.int .i64 a.length),(15,Zbc a),(2,.fn 92 []),(1,Zbc b)] []=some (.bool (r == s),[])
 | [],s,i,ha,hb=>by
  have hs:s=[]:=by
   subst hb;rw [List.drop_eq_nil_iff] at ha ⊢;omega
  subst hs
  have h1:=Zcv ha
  unfold ZlP
  rw [Z2]
  simp -implicitDefEqProofs only [EQA,Nat.reduceLT,Nat.reduceEqDiff,↓reduceIte,Zo0,ZFd,Zor,ZtN,Zli,oI,oN,Zbc,h1]
 | x::r,[],i,ha,hb=>by
  have:=(Z4 ha).2.2;rw [List.drop_eq_nil_iff] at hb;omega
 | x::r,y::s,i,ha,hb=>by
  have ih:=Zwn a b h hl r s (i+1) (Z4 ha).2.1 (Z4 hb).2.1
  have h1:(i:Int) < a.length:=by have:=(Z4 ha).2.2;omega
  have e1:=iad (Z4 ha).1 Zg (k:=5) rfl
  have e2:=iad (Z4 hb).1 Zg (k:=5) rfl
  have e3:=ZcL h1 hl
  unfold ZlP at ih ⊢
  rw [Z2]
  simp -implicitDefEqProofs only [EQA,ZK,ZV,Nat.reduceAdd,Nat.reduceLT,Nat.reduceLeDiff,Nat.reduceEqDiff,Nat.reduceBEq,unA,↓reduceIte,gcT,gcA,Zv,Zu,Zr,ZC,Zo0,ZtN,Zli,oI,oN,ZI,Zbc,Zg,Zbd,h1,e1,e2,e3,ZHe]
  simp only [Zbc] at ih
  rw [ih,ZJY]
  by_cases hx:x=y <;> simp [hx]
theorem ZBB (a b:List Zn) (hl:a.length<=9223372036854775807):E 91 [Zbc a,Zbc b,.fn 92 []] []=some (.bool (a == b),[]):=by
 rw [Zh (by rfl) Zzb]
 by_cases h:a.length=b.length
 ·have:=Zwn a b h hl a b 0 rfl rfl
  unfold ZlP at this
  simp only [Zbc] at this
  have e:=Zj5 h
  simp -implicitDefEqProofs only [EQA,ZV,Nat.reduceAdd,Nat.reduceLT,Nat.reduceEqDiff,reduceCtorEq,↓reduceIte,gcT,gcA,Zv,Zu,Zr,ZC,ZsA,ZlK,oI,Zbc,e]
  exact this
 ·have e:=Zj7 h
  simp -implicitDefEqProofs only [EQA,Nat.reduceAdd,Nat.reduceLT,Nat.reduceEqDiff,reduceCtorEq,↓reduceIte,ZsA,ZlK,Zo0,oI,Zbc,e,Zlq h]
theorem ZB0 (σ:Za) (sq own:Nat) (view:Bool) (a b:List Zn) (hl:a.length<=9223372036854775807):Zo E BY σ sq 91 own view [.lst false (a.map Zg),.lst false (b.map Zg),.fn 92 []]=some (.bool (a == b),σ,{}) :=
 Zb8 (ZBB a b hl) (by kernel_rfl) (by simp -implicitDefEqProofs only [ZcI,ZtU,Zbo,eq_self,Zbc]) (by simp -implicitDefEqProofs only [ZK,Zbo,eq_self,Zbc]) rfl (fun _=>rfl) _ _ _ _
theorem ZOU (a b:List Zn) (hl:a.length<=9223372036854775807):E 43 [Zbc a,Zbc b] []=some (.bool (a == b),[]):=by
 rw [Zh (by rfl) ZJe]
 simp -implicitDefEqProofs only [EQA,Nat.reduceLT,Nat.reduceEqDiff,reduceCtorEq,↓reduceIte,ZEQ,Znt,Zzg,oI,Zbc,ZB0,hl]
theorem Zkk (σ:Za) (sq own:Nat) (view:Bool) (a b:List Zn) (hl:a.length<=9223372036854775807):Zo E BY σ sq 43 own view [.lst false (a.map Zg),.lst false (b.map Zg)]=some (.bool (a == b),σ,{}) :=
 Zb8 (ZOU a b hl) (by kernel_rfl) (by simp -implicitDefEqProofs only [ZcI,Zbo,eq_self,Zbc]) (by simp -implicitDefEqProofs only [ZK,Zbo,eq_self,Zbc]) rfl (fun _=>rfl) _ _ _ _
end
section
end
section
structure ZcW where
 topic:Zb
 payload:Zb
 qos:Int
 retain:Bool
 sender:Zb
 expires:Int
 props:List Zn
 origin:Int
 number:Int
 hops:Int
 deriving DecidableEq
structure Zfj where
 note:ZcW
 qos:Int
 retain:Bool
 ids:List Int
 share:Zb
 deriving DecidableEq
end
section
theorem ZrJ {O:ZU} {bf:Nat->Bool} {σ:Za} {sq f own:Nat} {view:Bool} {args:List AVal} (h:args.all Zak=true) (hm:args.map ZM=args) :
  Zo O bf σ sq f own view args=Zav σ σ [] [] sq own (Zab view 0 (O f args [])):=by
 cases hb:bf f
 ·rw [Zd2 hb h,hm]
 ·have hr:=Zdu h
  have hn:=fun ρ=>ZdA (ρ:=ρ) h
  rw [hm] at hr
  simp only [hm] at hn
  unfold Zo ZbO
  rw [hb]
  simp only [if_true]
  have h1:Zq σ []=σ:=rfl
  rw [h1,hr]
  have h2:Zu σ 1000 [] []=[]:=rfl
  rw [h2]
  unfold Zbz
  simp only [List.all_nil,if_true,hn,Zr,List.length_nil]
theorem Zoc {O:ZU} {bf:Nat->Bool} {f:Nat} {args:List AVal} {k n:Nat} {xs:List AVal} (h:O f args []=some (.sl 0 0 0 n,[.row 0 k xs])) (hn:xs.length=n) (hp:args.all Zak=true) (hm:args.map ZM=args) (σ:Za) (sq own:Nat):Zo O bf σ sq f own true args=some (.lst false xs,σ,{}):=by
 rw [ZrJ hp hm,h]
 have : Zab true 0 (some (.sl 0 0 0 n,[.row 0 k xs]))=some (.lst false xs,[]):=by
  unfold Zab
  rw [if_pos rfl,Zv9 (k:=k) (g:=0) (t:=0) (xs:=xs) rfl (by omega),List.take_of_length_le (by omega)]
 rw [this,Zha _ _ _ _ rfl]
theorem ZrU {O:ZU} {bf:Nat->Bool} {f:Nat} {args:List AVal} {k n:Nat} {xs:List AVal} (h:O f args []=some (.sl 0 0 0 n,[.row 0 k xs])) (hp:args.all Zak=true) (hm:args.map ZM=args) (σ:Za) (sq:Nat) (hs:freeAt σ sq=true):Zo O bf σ sq f 1 false args=some (.sl sq 0 0 n,σ.set sq (.row 0 k xs),if xs.all Zbh then {} else { any:=true }):=by
 rw [ZrJ hp hm,h]
 cases hx:xs.all Zbh <;> simp [Zab,Zav,Zhp,hx,Za0,okB,Zl,ZaX,hs,Zm,Zax,Za3,Za1,Za1,ZaF,Zb1,Zw]
theorem ZGU {O:ZU} {bf:Nat->Bool} {σ:Za} {f:Nat} {args vs:List AVal} {ts:List Nat} {r r':AVal} (hb:bf f=false) (hsh:showAs σ args=some (vs,ts)) (hp:vs.all Zak=true) (hm:vs.map ZM=vs) (h:O f vs []=some (r,[])) (hv:Zbs 0 (some (r,[]))=some (r',[])) (sq own:Nat) :
  Zo O bf σ sq f own true args=if Zbx r' then some (r',σ,{ rd:=ts }) else if Zda σ ts r' then some (r',σ,{ rd:=ts }) else some (Zm (Zax [] [] sq) r',Zq σ ts,{ rd:=ts,wr:=ts }):=by
 have hr:=Zdu hp
 have hn:=fun ρ=>ZdA (ρ:=ρ) hp
 rw [hm] at hr
 simp only [hm] at hn
 unfold Zo ZbO
 rw [hb]
 simp only [Bool.false_eq_true,if_false,hsh]
 rw [hr]
 have h2:∀ σ,Zu σ 1000 [] []=[]:=fun _=>rfl
 rw [h2]
 unfold Zbz
 simp only [List.all_nil,if_true,hn,Zr,List.length_nil,h]
 have : Zab true 0 (some (r,[]))=some (r',[]):=by unfold Zab;rw [if_pos rfl,hv]
 rw [this]
 simp only [Zav,List.isEmpty_nil,Bool.and_self,if_true]
theorem ZJ9 {O:ZU} {bf:Nat->Bool} {σ:Za} {f:Nat} {args vs:List AVal} {ts:List Nat} {r r':AVal} (hb:bf f=false) (hsh:showAs σ args=some (vs,ts)) (hp:vs.all Zak=true) (hm:vs.map ZM=vs) (h:O f vs []=some (r,[])) (hv:Zbs 0 (some (r,[]))=some (r',[])) (hap:Zda σ ts r'=true) (sq own:Nat) :
  Zo O bf σ sq f own true args=some (r',σ,{ rd:=ts }):=by
 rw [ZGU hb hsh hp hm h hv,if_pos hap]
 split <;> rfl
theorem ZbK {O:ZU} {bf:Nat->Bool} {f:Nat} {args args':List AVal} {r r':AVal} (h:O f args' []=some (r,[])) (hb:bf f=false) (hp:args.all Zak=true) (hn:args.map ZM=args') (hv:Zbs 0 (some (r,[]))=some (r',[])) (hr:∀ sq,Zm (Zax [] [] sq) r'=r') (σ:Za) (sq own:Nat):Zo O bf σ sq f own true args=some (r',σ,{}):=by
 rw [Zd2 hb hp,hn,h]
 have : Zab true 0 (some (r,[]))=some (r',[]):=by
  unfold Zab
  rw [if_pos rfl];exact hv
 rw [this,Zha _ _ _ _ (hr sq)]
theorem ZCs (k n:Nat) (xs:List AVal) (σ:Za):Z6 0 (.row 0 k xs::σ) (.sl 0 0 0 n)=some (.sl 0 0 0 n,[.row 0 k xs]):=by
 simp [Z6,gcA,Zv,Zu,Zp,ZS,Zj,Zr,ZJ,Zl,ZE,Zf,Zm,Zw,ZC]
def ZcR:List AVal->AVal
 | []=>.lst true []
 | x::xs=>.sl 0 0 0 (x::xs).length
def ZcY (k:Nat):List AVal->Za
 | []=>[]
 | x::xs=>[.row 0 k (x::xs)]
theorem ZeL:ZcR []=.lst true []:=rfl
theorem Zf3 (x:AVal) (xs:List AVal):ZcR (x::xs)=.sl 0 0 0 (x::xs).length:=rfl
theorem ZeZ (k:Nat):ZcY k []=[]:=rfl
theorem Zgy (k:Nat) (x:AVal) (xs:List AVal):ZcY k (x::xs)=[.row 0 k (x::xs)]:=rfl
theorem ZxY {O:ZU} {bf:Nat->Bool} {f k:Nat} {args args':List AVal} {full:List AVal} (h:O f args' []=some (ZcR full,ZcY k full)) (hb:bf f=false) (hp:args.all Zak=true) (hn:args.map ZM=args') (σ:Za) (sq own:Nat):Zo O bf σ sq f own true args=some (.lst false full,σ,{}):=by
 cases full with
 | nil=>exact ZbK h hb hp hn rfl (fun _=>rfl) σ sq own
 | cons x xs =>
  rw [Zf3,Zgy] at h
  rw [Zd2 hb hp,hn,h]
  have : Zab true 0 (some (.sl 0 0 0 (x::xs).length,[.row 0 k (x::xs)]))=some (.lst false (x::xs),[]):=by
   unfold Zab
   rw [if_pos rfl,Zv9 (k:=k) (g:=0) (t:=0) (xs:=x::xs) rfl (by omega),List.take_of_length_le (by omega)]
  rw [this,Zha _ _ _ _ rfl]
theorem ZfO (l:Zb):kOk 1 (l.map Zc)=true:=by cases l <;> rfl
end
section
def Znb (b:Bool):AVal:=.tup [.agg [.int .i64 0,.int .i64 0,.str [],.str [],.lst b []],.bool false]
theorem ZAe (l:Zb):kOk 1 (l.map Zc)=true:=by cases l <;> rfl
theorem ZMR (l:Zb) (h:l.length<=140737488355328):E 111 [.lst false (l.map Zc)] []=some (.sl 0 0 0 (l.map Zc).length,[.row 0 1 (l.map Zc)]):=by
 refine ZcO.2 ⟨1,?_⟩
 show ZeI 1 1 [.lst false (l.map Zc)] []=_
 have h1:(l.map Zc).length*1<=140737488355328/\kOk 1 (l.map Zc)=true:=⟨by simpa using h,ZAe l⟩
 simp only [ZeI,ZY]
 rw [if_pos h1];rfl
theorem Zki (σ:Za) (sq own:Nat) (l:Zb) (h:l.length<=140737488355328):Zo E BY σ sq 111 own true [.lst false (l.map Zc)]=some (.lst false (l.map Zc),σ,{}) :=
 Zoc (bf:=BY) (ZMR l h) rfl rfl rfl σ sq own
theorem ZHQ (p:Zn) (h:p.data.length<=140737488355328):E 147 [Zg p] []=some (Zg p,[]):=by
 have hC:=fun σ sq own=>Zki σ sq own p.data h
 rw [Zh (by rfl) ZH2]
 simp -implicitDefEqProofs only [EQA,ZK,Zt,Nat.reduceAdd,Nat.reduceLT,Nat.reduceLeDiff,Nat.reduceEqDiff,Nat.reduceBEq,↓reduceIte,Zd,ZJD,ZoA,Zz2,oI,oN,ZI,Zg,Zbd,hC]
theorem ZKp (σ:Za) (sq own:Nat) (p:Zn) (h:p.data.length<=140737488355328):Zo E BY σ sq 147 own true [.agg [.int .i64 p.id,.int .i64 p.num,.str p.text,.str p.pair,.lst false (p.data.map Zc)]]=some (.agg [.int .i64 p.id,.int .i64 p.num,.str p.text,.str p.pair,.lst false (p.data.map Zc)],σ,{}) :=
 Zb8 (ZHQ p h) (by kernel_rfl) (by simp -implicitDefEqProofs only [ZcI,Zbo,eq_self,ZI,Zg,Zbd]) (by simp -implicitDefEqProofs only [ZcI,ZK,Zbo,eq_self,ZI,Zg,Zbd]) rfl (fun _=>rfl) _ _ _ _
def Zg4 (id:Int):List Zn->AVal
 | []=>Znb true
 | p::r=>if p.id == id then .tup [Zg p,.bool true] else Zg4 id r
theorem Zwp (l:List Zn) (hl:l.length<=9223372036854775807) (hd:∀ p ∈ l,p.data.length<=140737488355328) (id:Int):∀ (r:List Zn) (i:Nat),l.drop i=r ->
  Zkw 0 [(10,.int .i64 i),(9,.int .i64 l.length),(8,.lst false (l.map Zg)),(4,.ref 0 0),(0,.int .i64 id)] [.var [.int .i64 0,.int .i64 0,.str [],.str [],.lst true []]]=some (Zg4 id r,[])
 | [],i,h=>by
  have h1:=Zcv h
  unfold Zkw
  rw [Z2,Zg4]
  simp -implicitDefEqProofs only [EQA,Zt,Nat.reduceAdd,Nat.reduceLT,Nat.reduceLeDiff,Nat.reduceEqDiff,reduceCtorEq,↓reduceIte,Zd,ZrF,ZxK,Zqj,Zq9,ZjC,oI,oN,h1,Znb,Zaj,AVal.cells]
 | p::r,i,h=>by
  have ih:=Zwp l hl hd id r (i+1) (Z4 h).2.1
  have h1:(i:Int) < l.length:=by have:=(Z4 h).2.2;omega
  have e1:=iad (Z4 h).1 Zg (k:=5) rfl
  have e3:=ZcL h1 hl
  have hC:=fun σ sq own=>ZKp σ sq own p (hd p (List.mem_of_getElem? (Z4 h).1))
  unfold Zkw at ih ⊢
  rw [Z2,Zg4]
  cases hb:(p.id == id)
  ·simp -implicitDefEqProofs only [EQA,ZK,ZV,Za2,Nat.reduceAdd,Nat.reduceLT,Nat.reduceLeDiff,Nat.reduceEqDiff,Nat.reduceBEq,reduceCtorEq,↓reduceIte,gcT,gcA,Zv,Zu,Zj,Zr,ZJ,Zl,ZE,Zw,ZC,Zq9,ZjC,oI,oN,ZI,Zg,Zbd,h1,e1,e3,hb]
   exact ih
  ·simp -implicitDefEqProofs only [EQA,ZK,Zt,Nat.reduceAdd,Nat.reduceLT,Nat.reduceLeDiff,Nat.reduceEqDiff,Nat.reduceBEq,reduceCtorEq,↓reduceIte,Zd,ZrF,Zq9,ZjC,oI,oN,ZI,Zg,Zbd,h1,e1,hb,hC]
theorem ZPm (l:List Zn) (hl:l.length<=9223372036854775807) (hd:∀ p ∈ l,p.data.length<=140737488355328) (id:Int):E 112 [.int .i64 id,Zbc l] []=some (Zg4 id l,[]):=by
 have:=Zwp l hl hd id l 0 rfl
 have z0:((0:Nat):Int)=0:=rfl
 rw [z0] at this
 unfold Zkw at this
 rw [Zh (by rfl) ZDy]
 simp -implicitDefEqProofs only [EQA,ZV,Za2,Nat.reduceLT,Nat.reduceEqDiff,Nat.reduceBEq,reduceCtorEq,↓reduceIte,gcT,gcA,Zv,Zu,Zj,Zr,ZJ,Zl,ZE,Zw,ZC,ZGE,Zpt,oI,Zbc]
 exact this
def Zc9 (id:Int) (l:List Zn):Option Zn:=l.find? (fun p=>p.id == id)
def ZnD (b:Bool):Option Zn->AVal
 | none=>Znb b
 | some p=>.tup [Zg p,.bool true]
theorem ZvP (id:Int):∀ l:List Zn,Zg4 id l=ZnD true (Zc9 id l)
 | []=>rfl
 | p::r=>by
  have ih:=ZvP id r
  unfold Zc9 at ih ⊢
  rw [Zg4,List.find?_cons]
  cases h:(p.id == id)
  ·simpa using ih
  ·rfl
theorem ZJ3 (σ:Za) (sq own:Nat) (l:List Zn) (hl:l.length<=9223372036854775807) (hd:∀ p ∈ l,p.data.length<=140737488355328) (id:Int):Zo E BY σ sq 112 own true [.int .i64 id,.lst false (l.map Zg)]=some (ZnD false (Zc9 id l),σ,{}):=by
 have h:=ZPm l hl hd id
 rw [ZvP] at h
 cases hf:Zc9 id l with
 | none=>rw [hf] at h;exact ZbK h (by kernel_rfl) rfl rfl rfl (fun _=>rfl) σ sq own
 | some p =>
  rw [hf] at h
  exact ZbK h (by kernel_rfl) rfl rfl rfl (fun _=>rfl) σ sq own
def Zfh:Zn:=⟨0,0,[],[],[]⟩
theorem ZEj (o:Option Zn):ZnD false o=.tup [.agg [.int .i64 (o.getD Zfh).id,.int .i64 (o.getD Zfh).num,.str (o.getD Zfh).text,.str (o.getD Zfh).pair,.lst false ((o.getD Zfh).data.map Zc)],.bool o.isSome]:=by
 cases o <;> rfl
end
section
def Zmn:Ze:=(.seq (.region [oI 2 (.mov (.c (.lst true []))),oI 3 (.mov (.c (.int .i64 0)))] none [0]) (.seq (.seq (.region [oI 4 (.mov (.t 0)),oI 5 (.len (.t 4)),oI 6 (.bin .gtr (.t 5) (.c (.int .i64 65535)))] none [6,0]) (.cond (.t 6) (.seq (.region [oI 2 (.mov (.c (.lst true []))),oI 3 (.mov (.c (.int .i64 10)))] none [3,2]) .ret) .skip)) (.seq (.region [oI 7 (.mov (.t 0)),oI 8 (.len (.t 7)),oI 9 (.i2i .u64 (.t 8)),oI 10 (.call 59 0 true [(.t 9),(.c (.int .i64 2))]),oI 11 (.mov (.t 0)),oI 12 (.bslice false 1 2 (.lst true []) [(0,(.t 10)),(1,(.t 11))]),oI 13 (.call 56 0 true [(.t 12)]),oI 2 (.mov (.t 13)),oI 3 (.mov (.c (.int .i64 0)))] none [3,2]) .ret)))
def Zqm:ZG:=⟨[(.tmp 2),(.tmp 3)],Zmn⟩
theorem Zwd:FC 55=some Zqm:=by kernel_rfl
theorem Zu1:Zqm.body=Zmn:=rfl
theorem Zuq:Zqm.res=[(.tmp 2),(.tmp 3)]:=rfl
def ZrC:Ze:=(.seq (.region [oI 18 (.mov (.t 3)),oI 2 (.mov (.t 18))] none [2]) .ret)
def ZnA:Ze:=ZrC
def ZMX:=xw ZnA ZrC rfl
def ZlJ:Ze:=(.seq (.region [oI 9 (.bin .lss (.t 8) (.t 7))] none [9,8,7,6,3]) (.seq (.cond (.t 9) .skip (.exit 0)) (.seq (.block 1 (.seq (.region [oI 10 (.iaddr 1 (.t 6) (.t 8)),oI 11 (.ld none (.t 10)),oI 5 (.mov (.t 11))] none [8,7,6,5,3]) (.region [oI 12 (.mov (.t 3)),oI 13 (.bin .shl (.t 12) (.c (.int .u64 8))),oI 14 (.mov (.t 5)),oI 15 (.i2i .u64 (.t 14)),oI 16 (.bin .or (.t 13) (.t 15)),oI 3 (.mov (.t 16))] none [8,7,6,3]))) (.region [oI 17 (.bin .add (.t 8) (.c (.int .i64 1))),oI 8 (.mov (.t 17))] none [8,7,6,3]))))
def ZqX:Ze:=ZlJ
def Ztm:=xw ZqX ZlJ rfl
def ZnC:Ze:=(.seq (.region [oI 2 (.mov (.c (.int .u64 0)))] none [0]) (.seq (.region [oI 3 (.mov (.c (.int .u64 0)))] none [3,0]) (.seq (.seq (.region [oI 6 (.mov (.t 0)),oI 7 (.len (.t 6)),oI 8 (.mov (.c (.int .i64 0)))] none [8,7,6,3]) (.block 0 (.loop [8,7,6,3] ZqX))) ZnA)))
def Zkf:ZG:=⟨[(.tmp 2)],ZnC⟩
theorem ZIT:FC 108=some Zkf:=by kernel_rfl
theorem ZN0:Zkf.body=ZnC:=rfl
theorem ZId:Zkf.res=[(.tmp 2)]:=rfl
noncomputable def Zkx (m:Nat) (tm:Tms) (σ:Za):Option (AVal×Za):=(Zan m Zkf (Zbq FC PR BY m ZnA (Option.map (ZaJ 0) (evL FC PR BY m [8,7,6,3] ZqX tm σ))))
def Zjm:Ze:=(.seq (.region [oI 2 (.mov (.c (.lst true []))),oI 3 (.mov (.c (.int .i64 0))),oI 4 (.mov (.c (.int .i64 0)))] none [0]) (.seq (.seq (.region [oI 5 (.mov (.t 0)),oI 6 (.len (.t 5)),oI 7 (.bin .lss (.t 6) (.c (.int .i64 2))),oI 8 (.mov (.t 7)),⟨(some 9),(.mov (.t 0)),(some (8,false)),[]⟩,⟨(some 10),(.len (.t 9)),(some (8,false)),[]⟩,⟨(some 11),(.bin .sub (.t 10) (.c (.int .i64 2))),(some (8,false)),[]⟩,⟨(some 12),(.mov (.t 0)),(some (8,false)),[]⟩,⟨(some 13),(.slice 1 (.t 12) none (some (.c (.int .i64 2))) none),(some (8,false)),[]⟩,⟨(some 14),(.call 108 0 true [(.t 13)]),(some (8,false)),[]⟩,⟨(some 15),(.i2i .i64 (.t 14)),(some (8,false)),[]⟩,⟨(some 16),(.bin .lss (.t 11) (.t 15)),(some (8,false)),[]⟩,oI 17 (.pick (.t 8) (.c (.bool true)) (.t 16))] none [17,0]) (.cond (.t 17) (.seq (.region [oI 2 (.mov (.c (.lst true []))),oI 3 (.mov (.c (.int .i64 0))),oI 4 (.mov (.c (.int .i64 11)))] none [4,3,2]) .ret) .skip)) (.seq (.region [oI 18 (.mov (.t 0)),oI 19 (.slice 1 (.t 18) none (some (.c (.int .i64 2))) none),oI 20 (.call 108 0 true [(.t 19)]),oI 21 (.i2i .i64 (.t 20)),oI 22 (.bin .add (.c (.int .i64 2)) (.t 21)),oI 3 (.mov (.t 22))] none [3,0]) (.seq (.region [oI 23 (.mov (.t 0)),oI 24 (.mov (.t 3)),oI 25 (.slice 1 (.t 23) (some (.c (.int .i64 2))) (some (.t 24)) none),oI 26 (.bslice false 1 1 (.lst true []) [(0,(.t 25))]),oI 27 (.call 56 0 true [(.t 26)]),oI 28 (.mov (.t 3)),oI 2 (.mov (.t 27)),oI 3 (.mov (.t 28)),oI 4 (.mov (.c (.int .i64 0)))] none [4,3,2]) .ret))))
def ZpM:ZG:=⟨[(.tmp 2),(.tmp 3),(.tmp 4)],Zjm⟩
theorem Zpa:FC 106=some ZpM:=by kernel_rfl
theorem Znu:ZpM.body=Zjm:=rfl
theorem Zn0:ZpM.res=[(.tmp 2),(.tmp 3),(.tmp 4)]:=rfl
def ZiV:Ze:=(.seq (.region [oI 2 (.mov (.c (.str []))),oI 3 (.mov (.c (.int .i64 0))),oI 4 (.mov (.c (.int .i64 0)))] none [0]) (.seq (.region [oI 7 (.mov (.t 0)),oI 8 (.call 106 0 true [(.t 7)]),oI 6 (.mov (.t 8)),oI 9 (.ext (.t 6) 0),oI 10 (.ext (.t 6) 1),oI 11 (.ext (.t 6) 2),oI 5 (.mov (.t 9)),oI 3 (.mov (.t 10)),oI 4 (.mov (.t 11))] none [5,4,3]) (.seq (.block 0 (.seq (.region [oI 13 (.mov (.t 4)),oI 14 (.bin .neq (.t 13) (.c (.int .i64 0))),oI 12 (.mov (.t 14))] none [12,5,4,3]) (.cond (.t 12) (.seq (.region [oI 15 (.mov (.t 4)),oI 2 (.mov (.c (.str []))),oI 3 (.mov (.c (.int .i64 0))),oI 4 (.mov (.t 15))] none [4,3,2]) .ret) (.seq (.region [oI 17 (.mov (.t 5)),oI 18 (.b2s (.t 17)),oI 19 (.call 97 0 true [(.t 18)]),oI 20 (.un .not (.t 19)),oI 16 (.mov (.t 20))] none [16,5,3]) (.cond (.t 16) (.seq (.region [oI 2 (.mov (.c (.str []))),oI 3 (.mov (.c (.int .i64 0))),oI 4 (.mov (.c (.int .i64 13)))] none [4,3,2]) .ret) .skip))))) (.seq (.region [oI 21 (.mov (.t 5)),oI 22 (.b2s (.t 21)),oI 23 (.mov (.t 3)),oI 2 (.mov (.t 22)),oI 3 (.mov (.t 23)),oI 4 (.mov (.c (.int .i64 0)))] none [4,3,2]) .ret))))
def ZoW:ZG:=⟨[(.tmp 2),(.tmp 3),(.tmp 4)],ZiV⟩
theorem Zu3:FC 109=some ZoW:=by kernel_rfl
theorem ZqQ:ZoW.body=ZiV:=rfl
theorem Zpq:ZoW.res=[(.tmp 2),(.tmp 3),(.tmp 4)]:=rfl
def Zjg:Ze:=(.seq (.seq (.region [oI 36 (.mov (.t 0)),oI 37 (.len (.t 36)),oI 38 (.bin .lss (.t 37) (.c (.int .i64 4)))] none [38]) (.cond (.t 38) (.seq (.region [oI 2 (.mov (.c (.int .i64 0))),oI 3 (.mov (.c (.int .i64 0))),oI 4 (.mov (.c (.int .i64 11)))] none [4,3,2]) .ret) .skip)) (.seq (.region [oI 2 (.mov (.c (.int .i64 0))),oI 3 (.mov (.c (.int .i64 0))),oI 4 (.mov (.c (.int .i64 12)))] none [4,3,2]) .ret))
def ZoD:Ze:=Zjg
def Zrl:=xw ZoD Zjg rfl
def Zfm:Ze:=(.seq (.region [oI 10 (.bin .lss (.t 9) (.t 8))] none [10,9,8,7,2,0]) (.seq (.cond (.t 10) .skip (.exit 0)) (.seq (.block 1 (.seq (.region [oI 11 (.mov (.t 9)),oI 12 (.iaddr 1 (.t 7) (.t 9)),oI 13 (.ld none (.t 12)),oI 5 (.mov (.t 11)),oI 6 (.mov (.t 13))] none [9,8,7,6,5,2,0]) (.seq (.seq (.region [oI 14 (.mov (.t 5)),oI 15 (.bin .eql (.t 14) (.c (.int .i64 4)))] none [15,9,8,7,6,5,2,0]) (.cond (.t 15) (.exit 0) .skip)) (.seq (.region [oI 16 (.mov (.t 2)),oI 17 (.mov (.t 6)),oI 18 (.bin .and (.t 17) (.c (.int .u8 127))),oI 19 (.i2i .i64 (.t 18)),oI 20 (.mov (.t 5)),oI 21 (.bin .mul (.c (.int .i64 7)) (.t 20)),oI 22 (.bin .shl (.t 19) (.t 21)),oI 23 (.bin .or (.t 16) (.t 22)),oI 2 (.mov (.t 23))] none [9,8,7,6,5,2,0]) (.seq (.region [oI 24 (.mov (.t 6)),oI 25 (.bin .lss (.t 24) (.c (.int .u8 128)))] none [25,9,8,7,6,5,2,0]) (.cond (.t 25) (.seq (.seq (.region [oI 26 (.mov (.t 6)),oI 27 (.bin .eql (.t 26) (.c (.int .u8 0))),oI 28 (.mov (.t 27)),⟨(some 29),(.mov (.t 5)),(some (28,true)),[]⟩,⟨(some 30),(.bin .gtr (.t 29) (.c (.int .i64 0))),(some (28,true)),[]⟩,oI 31 (.pick (.t 28) (.t 30) (.c (.bool false)))] none [31,5,2]) (.cond (.t 31) (.seq (.region [oI 2 (.mov (.c (.int .i64 0))),oI 3 (.mov (.c (.int .i64 0))),oI 4 (.mov (.c (.int .i64 12)))] none [4,3,2]) .ret) .skip)) (.seq (.region [oI 32 (.mov (.t 2)),oI 33 (.mov (.t 5)),oI 34 (.bin .add (.t 33) (.c (.int .i64 1))),oI 2 (.mov (.t 32)),oI 3 (.mov (.t 34)),oI 4 (.mov (.c (.int .i64 0)))] none [4,3,2]) .ret)) .skip)))))) (.region [oI 35 (.bin .add (.t 9) (.c (.int .i64 1))),oI 9 (.mov (.t 35))] none [9,8,7,2,0]))))
def ZpN:Ze:=Zfm
def Zhj:=xw ZpN Zfm rfl
def Zqz:Ze:=(.seq (.region [oI 2 (.mov (.c (.int .i64 0))),oI 3 (.mov (.c (.int .i64 0))),oI 4 (.mov (.c (.int .i64 0)))] none [2,0]) (.seq (.seq (.region [oI 7 (.mov (.t 0)),oI 8 (.len (.t 7)),oI 9 (.mov (.c (.int .i64 0)))] none [9,8,7,2,0]) (.block 0 (.loop [9,8,7,2,0] ZpN))) ZoD))
def ZjW:ZG:=⟨[(.tmp 2),(.tmp 3),(.tmp 4)],Zqz⟩
theorem ZKN:FC 135=some ZjW:=by kernel_rfl
theorem ZD3:ZjW.body=Zqz:=rfl
theorem Zii:ZjW.res=[(.tmp 2),(.tmp 3),(.tmp 4)]:=rfl
noncomputable def ZhD (m:Nat) (tm:Tms) (σ:Za):Option (AVal×Za):=(Zan m ZjW (Zbq FC PR BY m ZoD (Option.map (ZaJ 0) (evL FC PR BY m [9,8,7,2,0] ZpN tm σ))))
def Zra:Ze:=(.seq (.region [oI 12 (.mov (.t 0)),oI 13 (.call 142 0 true [(.t 12)]),oI 2 (.mov (.t 13))] none [2]) .ret)
def Zrt:Ze:=Zra
def ZBg:=xw Zrt Zra rfl
def Zjr:Ze:=(.seq (.region [oI 7 (.nxt (.t 6)),oI 8 (.ext (.t 7) 0)] none [8,7,6,0]) (.seq (.cond (.t 8) .skip (.exit 0)) (.block 1 (.seq (.region [oI 9 (.ext (.t 7) 2),oI 4 (.mov (.t 9))] none [6,4,0]) (.seq (.region [oI 10 (.mov (.t 4)),oI 11 (.bin .eql (.t 10) (.c (.int .i32 0)))] none [11,6,0]) (.cond (.t 11) (.seq (.region [oI 2 (.mov (.c (.bool false)))] none [2]) .ret) .skip))))))
def ZrA:Ze:=Zjr
def Zos:=xw ZrA Zjr rfl
def Zoj:Ze:=(.seq (.region [oI 2 (.mov (.c (.bool false)))] none [0]) (.seq (.seq (.region [oI 5 (.mov (.t 0)),oI 6 (.rng (.t 5))] none [6,0]) (.block 0 (.loop [6,0] ZrA))) Zrt))
def ZlE:ZG:=⟨[(.tmp 2)],Zoj⟩
theorem ZHF:FC 97=some ZlE:=by kernel_rfl
theorem ZxQ:ZlE.body=Zoj:=rfl
theorem ZuO:ZlE.res=[(.tmp 2)]:=rfl
noncomputable def ZmW (m:Nat) (tm:Tms) (σ:Za):Option (AVal×Za):=(Zan m ZlE (Zbq FC PR BY m Zrt (Option.map (ZaJ 0) (evL FC PR BY m [6,0] ZrA tm σ))))
def Zod:Ze:=(.seq (.region [oI 16 (.mov (.t 3)),oI 2 (.mov (.t 16))] none [2]) .ret)
def Zrk:Ze:=Zod
def ZKR:=xw Zrk Zod rfl
def Ziz:Ze:=(.seq (.region [oI 9 (.bin .lss (.t 8) (.t 7))] none [9,8,7,6,3]) (.seq (.cond (.t 9) .skip (.exit 0)) (.seq (.block 1 (.seq (.region [oI 10 (.iaddr 1 (.t 6) (.t 8)),oI 11 (.ld none (.t 10)),oI 5 (.mov (.t 11))] none [8,7,6,5,3]) (.region [oI 12 (.mov (.t 3)),oI 13 (.mov (.t 5)),oI 14 (.app 1 1 (.int .u8 0) (.t 12) (.t 13)),oI 3 (.mov (.t 14))] none [8,7,6,3]))) (.region [oI 15 (.bin .add (.t 8) (.c (.int .i64 1))),oI 8 (.mov (.t 15))] none [8,7,6,3]))))
def Zpe:Ze:=Ziz
def Zpw:=xw Zpe Ziz rfl
def ZqM:Ze:=(.seq (.region [oI 2 (.mov (.c (.lst true [])))] none [0]) (.seq (.region [oI 3 (.mov (.c (.lst true [])))] none [3,0]) (.seq (.seq (.region [oI 6 (.mov (.t 0)),oI 7 (.len (.t 6)),oI 8 (.mov (.c (.int .i64 0)))] none [8,7,6,3]) (.block 0 (.loop [8,7,6,3] Zpe))) Zrk)))
def Zmj:ZG:=⟨[(.tmp 2)],ZqM⟩
theorem Zze:FC 56=some Zmj:=by kernel_rfl
theorem ZEF:Zmj.body=ZqM:=rfl
theorem ZLs:Zmj.res=[(.tmp 2)]:=rfl
noncomputable def ZlH (m:Nat) (tm:Tms) (σ:Za):Option (AVal×Za):=(Zan m Zmj (Zbq FC PR BY m Zrk (Option.map (ZaJ 0) (evL FC PR BY m [8,7,6,3] Zpe tm σ))))
def ZqF:Ze:=(.seq (.region [oI 28 (.mov (.t 5)),oI 4 (.mov (.t 28))] none [4]) .ret)
def ZoK:Ze:=ZqF
def ZNQ:=xw ZoK ZqF rfl
def Zlu:Ze:=(.seq (.seq (.region [oI 17 (.mov (.t 6)),oI 18 (.bin .geq (.t 17) (.c (.int .i64 0)))] none [18,6,5,0]) (.cond (.t 18) .skip (.exit 0))) (.seq (.block 1 (.seq (.region [oI 21 (.mov (.t 5)),oI 22 (.mov (.t 6)),oI 23 (.mov (.t 0)),oI 24 (.i2i .u8 (.t 23)),oI 25 (.iaddr 1 (.t 21) (.t 22)),oN (.st 1 (.t 25) (.t 24))] none [6,5,0]) (.region [oI 26 (.mov (.t 0)),oI 27 (.bin .shr (.t 26) (.c (.int .u64 8))),oI 0 (.mov (.t 27))] none [6,5,0]))) (.region [oI 19 (.mov (.t 6)),oI 20 (.bin .sub (.t 19) (.c (.int .i64 1))),oI 6 (.mov (.t 20))] none [6,5,0])))
def Zog:Ze:=Zlu
def ZtJ:=xw Zog Zlu rfl
def Zrm:Ze:=(.seq (.region [oI 4 (.mov (.c (.lst true [])))] none [1,0]) (.seq (.seq (.region [oI 7 (.mov (.t 1)),oI 8 (.bin .lss (.t 7) (.c (.int .i64 1))),oI 9 (.mov (.t 8)),⟨(some 10),(.mov (.t 1)),(some (9,false)),[]⟩,⟨(some 11),(.bin .gtr (.t 10) (.c (.int .i64 8))),(some (9,false)),[]⟩,oI 12 (.pick (.t 9) (.c (.bool true)) (.t 11))] none [12,1,0]) (.cond (.t 12) (.seq (.region [oI 4 (.mov (.c (.lst true [])))] none [4]) .ret) .skip)) (.seq (.region [oI 13 (.mov (.t 1)),oI 14 (.mkslice 1 1 (.int .u8 0) (.t 13) (.t 13)),oI 5 (.mov (.t 14))] none [5,1,0]) (.seq (.seq (.region [oI 15 (.mov (.t 1)),oI 16 (.bin .sub (.t 15) (.c (.int .i64 1))),oI 6 (.mov (.t 16))] none [6,5,0]) (.block 0 (.loop [6,5,0] Zog))) ZoK))))
def ZkN:ZG:=⟨[(.tmp 4)],Zrm⟩
theorem ZJK:FC 59=some ZkN:=by kernel_rfl
theorem ZBF:ZkN.body=Zrm:=rfl
theorem ZEW:ZkN.res=[(.tmp 4)]:=rfl
noncomputable def Zlw (m:Nat) (tm:Tms) (σ:Za):Option (AVal×Za):=(Zan m ZkN (Zbq FC PR BY m ZoK (Option.map (ZaJ 0) (evL FC PR BY m [6,5,0] Zog tm σ))))
def ZmT:Ze:=(.seq (.region [oI 2 (.mov (.c (.lst true []))),oI 3 (.mov (.c (.int .i64 0)))] none [0]) (.seq (.seq (.region [oI 4 (.mov (.t 0)),oI 5 (.call 97 0 true [(.t 4)]),oI 6 (.un .not (.t 5))] none [6,0]) (.cond (.t 6) (.seq (.region [oI 2 (.mov (.c (.lst true []))),oI 3 (.mov (.c (.int .i64 13)))] none [3,2]) .ret) .skip)) (.seq (.region [oI 7 (.mov (.t 0)),oI 8 (.s2b (.t 7)),oI 9 (.call 55 0 true [(.t 8)]),oI 10 (.ext (.t 9) 0),oI 11 (.ext (.t 9) 1),oI 2 (.mov (.t 10)),oI 3 (.mov (.t 11))] none [3,2]) .ret)))
def Znc:ZG:=⟨[(.tmp 2),(.tmp 3)],ZmT⟩
theorem Zsq:FC 54=some Znc:=by kernel_rfl
theorem Zr5:Znc.body=ZmT:=rfl
theorem Zum:Znc.res=[(.tmp 2),(.tmp 3)]:=rfl
def Zky:Ze:=(.seq (.region [oI 21 (.mov (.t 4)),oI 22 (.mov (.t 0)),oI 23 (.i2i .u8 (.t 22)),oI 24 (.bslice false 1 1 (.int .u8 0) [(0,(.t 23))]),oI 25 (.app 1 1 (.int .u8 0) (.t 21) (.t 24)),oI 2 (.mov (.t 25)),oI 3 (.mov (.c (.int .i64 0)))] none [3,2]) .ret)
def Zoe:Ze:=Zky
def Zwx:=xw Zoe Zky rfl
def Zio:Ze:=(.seq (.seq (.region [oI 11 (.mov (.t 0)),oI 12 (.bin .gtr (.t 11) (.c (.int .i64 127)))] none [12,4,0]) (.cond (.t 12) .skip (.exit 0))) (.seq (.block 1 (.region [oI 15 (.mov (.t 4)),oI 16 (.mov (.t 0)),oI 17 (.i2i .u8 (.t 16)),oI 18 (.bin .or (.t 17) (.c (.int .u8 128))),oI 19 (.bslice false 1 1 (.int .u8 0) [(0,(.t 18))]),oI 20 (.app 1 1 (.int .u8 0) (.t 15) (.t 19)),oI 4 (.mov (.t 20))] none [4,0])) (.region [oI 13 (.mov (.t 0)),oI 14 (.bin .shr (.t 13) (.c (.int .u64 7))),oI 0 (.mov (.t 14))] none [4,0])))
def Zqq:Ze:=Zio
def ZkO:=xw Zqq Zio rfl
def ZjD:Ze:=(.seq (.region [oI 2 (.mov (.c (.lst true []))),oI 3 (.mov (.c (.int .i64 0)))] none [0]) (.seq (.seq (.region [oI 5 (.mov (.t 0)),oI 6 (.bin .lss (.t 5) (.c (.int .i64 0))),oI 7 (.mov (.t 6)),⟨(some 8),(.mov (.t 0)),(some (7,false)),[]⟩,⟨(some 9),(.bin .gtr (.t 8) (.c (.int .i64 268435455))),(some (7,false)),[]⟩,oI 10 (.pick (.t 7) (.c (.bool true)) (.t 9))] none [10,0]) (.cond (.t 10) (.seq (.region [oI 2 (.mov (.c (.lst true []))),oI 3 (.mov (.c (.int .i64 10)))] none [3,2]) .ret) .skip)) (.seq (.region [oI 4 (.mov (.c (.lst true [])))] none [4,0]) (.seq (.block 0 (.loop [4,0] Zqq)) Zoe))))
def ZlD:ZG:=⟨[(.tmp 2),(.tmp 3)],ZjD⟩
theorem ZIr:FC 82=some ZlD:=by kernel_rfl
theorem Zrw:ZlD.body=ZjD:=rfl
theorem ZkF:ZlD.res=[(.tmp 2),(.tmp 3)]:=rfl
noncomputable def ZmP (m:Nat) (tm:Tms) (σ:Za):Option (AVal×Za):=(Zan m ZlD (Zbq FC PR BY m Zoe (Option.map (ZaJ 0) (evL FC PR BY m [4,0] Zqq tm σ))))
end
section
def beB:Nat->Nat->Zb
 | _,0=>[]
 | n,w+1=>beB (n / 256) w++[UInt8.ofNat (n % 256)]
theorem ZaL:∀ (w n:Nat),(beB n w).length=w
 | 0,_=>rfl
 | w+1,n=>by simp [beB,ZaL w]
def Zex (x:Nat) (b:Zb):Nat:=b.foldl (fun x c=>(x*256+c.toNat) % 18446744073709551616) x
def Zct (b:Zb):Nat:=Zex 0 b
theorem ZcM (x:Nat) (c:UInt8) (b:Zb):Zex x (c::b)=Zex ((x*256+c.toNat) % 18446744073709551616) b:=rfl
theorem ZeK (x:Nat):Zex x []=x:=rfl
def ZbZ:Nat->Nat->Zb
 | 0,n=>[UInt8.ofNat n]
 | k+1,n=>if n < 128 then [UInt8.ofNat n] else UInt8.ofNat (n % 128+128)::ZbZ k (n / 128)
def Z7 (n:Int):Zb×Int:=if n < 0\/n > 268435455 then ([],10) else (ZbZ 3 n.toNat,0)
def gvA (i n:Nat):Zb->Nat×Nat×Int
 | []=>if i < 4 then (0,0,11) else (0,0,12)
 | c::r=>if i=4 then (0,0,12) else if c.toNat < 128 then (if c=0/\0 < i then (0,0,12) else (n+c.toNat % 128*128 ^ i,i+1,0)) else gvA (i+1) (n+c.toNat % 128*128 ^ i) r
def ZW (b:Zb):Nat×Nat×Int:=gvA 0 0 b
def Za4 (b:Zb):Zb×Int:=if b.length > 65535 then ([],10) else (beB b.length 2++b,0)
def ZaB (b:Zb):Zb×Nat×Int :=
 if b.length < 2\/b.length - 2 < Zct (b.take 2) then ([],0,11) else ((b.drop 2).take (Zct (b.take 2)),2+Zct (b.take 2),0)
end
end Go.Proofs.YtmlkhhidifjjfaaDoor
