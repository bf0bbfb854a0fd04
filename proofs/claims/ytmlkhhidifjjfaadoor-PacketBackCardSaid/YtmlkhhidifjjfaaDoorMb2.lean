/- packed -/
import Derived.Test.YtmlkhhidifjjfaaDoorMb1
import Derived.Laws.Cover3
import Derived.Lib.Index
import Derived.Shelf.Unicode.ValidAny
import Derived.Shelf.Strings.Count
import Derived.Test.YtmlkhhidifjjfaaDoorProg
import Derived.Deep.Slices
import Derived.ChangeArms
import Derived.WideShapes
import GoSem.ClaimChange
import Derived.Lib.TrimUEq
import Derived.Lib.MapLaws
import Derived.Lib.ValidLaws
set_option linter.defProp false
set_option linter.unusedSimpArgs false
set_option linter.unusedVariables false
namespace Go.Proofs.YtmlkhhidifjjfaaDoor
set_option maxHeartbeats 16000000
set_option maxRecDepth 10000
section
open Go.RowKit
def OLe (O O':ZR):Prop:=∀ f a σ r,O f a σ=some r->O' f a σ=some r
section
variable {O O':ZR} {bf:Nat->Bool}
theorem Zzt {view:Bool} {m:Nat} {x y:Option (AVal×Za)} (h:∀ r,x=some r->y=some r) {r:AVal×Za} (hr:Zaf view m x=some r):Zaf view m y=some r:=by
 cases x with
 | none=>cases view <;> simp [Zaf,ZbJ] at hr
 | some q=>rw [h q rfl];exact hr
theorem ZBR {σ σf:Za} {ids ts:List Nat} {sq own:Nat} {x y:Option (AVal×Za)} (h:∀ r,x=some r->y=some r) {r:AVal×Za×Cls} (hr:ZaE σ σf ids ts sq own x=some r):ZaE σ σf ids ts sq own y=some r:=by
 cases x with
 | none=>simp only [ZaE] at hr;cases hr
 | some q=>rw [h q rfl];exact hr
theorem Zmp (hO:OLe O O') {σ:Za} {sq f own:Nat} {view:Bool} {args:List AVal} {r:AVal×Za×Cls} (h:Zj O bf σ sq f own view args=some r):Zj O' bf σ sq f own view args=some r:=by
 unfold Zj ZbH at h ⊢
 split at h
 ·cases h
 ·rename_i vs ts hv
  split at h
  ·rename_i hc
   simp only [hc,if_true]
   exact ZBR (fun q hq=>Zzt (fun q hq=>hO _ _ _ _ hq) hq) h
  ·cases h
theorem ZJE (hO:OLe O O') {tm:Tms} {σ:Za} {sq:Nat} {ins:Ins} {r:AVal×Za×Cls} (h:execI O bf tm σ sq ins=some r):execI O' bf tm σ sq ins=some r:=by
 cases ins
 case call f own view args =>
  simp only [execI] at h ⊢
  exact Zmp hO h
 case callv x args =>
  simp only [execI] at h ⊢
  split at h
  ·exact Zmp hO h
  ·cases h
 all_goals exact h
theorem Zmo (hO:OLe O O') {o:AOp} {tm:Tms} {σ:Za} {sq:Nat} {r:AVal×Tms×Za×Cls} (h:ZL O bf o sq tm σ=some r):ZL O' bf o sq tm σ=some r:=by
 unfold ZL at h ⊢
 split at h
 ·cases h
 ·exact h
 ·split at h
  ·rename_i hf
   rw [if_pos hf]
   split at h
   ·rename_i he;rw [ZJE hO he];exact h
   ·cases h
  ·cases h
theorem Zoq (hO:OLe O O'):∀ {ops:List AOp} {s:Nat} {tm:Tms} {σ:Za} {r:Tms×Za×List Cls×Option AVal},ZY O bf ops s tm σ=some r->ZY O' bf ops s tm σ=some r
 | [],_,_,_,_,h=>h
 | o::ops,s,tm,σ,r,h=>by
  simp only [ZY] at h ⊢
  split at h
  ·cases h
  ·rename_i h1
   rw [Zmo hO h1]
   exact h
  ·rename_i v tm1 σ1 c hnp h1
   rw [Zmo hO h1]
   simp only
   split at h
   ·cases h
   rename_i h2
   rw [Zoq hO h2]
   exact h
theorem Zs4 (hO:OLe O O') {ops:List AOp} {chk:Option (List (Nat×Nat))} {live:List Nat} {tm:Tms} {σ:Za} {r:ZaT×Tms×Za} (h:Zb6 O bf ops chk live tm σ=some r):Zb6 O' bf ops chk live tm σ=some r:=by
 unfold Zb6 at h ⊢
 cases hx:ZY O bf ops σ.length tm (σ++List.replicate (sitesOf ops) .free) with
 | none=>rw [hx] at h;simp only [ZcR] at h;cases h
 | some q=>rw [Zoq hO hx];rw [hx] at h;exact h
theorem Zla {m0:Nat} {live:List Nat} {f f':Tms->Za->Option (ZaT×Tms×Za)} (hf:∀ tm σ r,f tm σ=some r->f' tm σ=some r):∀ {n n':Nat} {tm:Tms} {σ:Za} {r:ZaT×Tms×Za},n<=n'->Zdt m0 live f n tm σ=some r->Zdt m0 live f' n' tm σ=some r
 | 0,_,_,_,_,_,h=>by simp only [Zdt] at h;cases h
 | n+1,0,_,_,_,hn,_=>by omega
 | n+1,n'+1,tm,σ,r,hn,h=>by
  simp only [Zdt] at h ⊢
  split at h
  ·rename_i h1
   rw [hf _ _ _ h1]
   exact Zla hf (by omega) h
  ·rename_i hne
   rw [hf _ _ _ h]
   split
   ·rename_i e;injection e with e;subst e;exact absurd h (hne _ _)
   ·rfl
theorem ZdT (hO:OLe O O') {m0:Nat}:∀ {c:Ze} {n n':Nat} {tm:Tms} {σ:Za} {r:ZaT×Tms×Za},n<=n'->Z6 O bf m0 n c tm σ=some r->Z6 O' bf m0 n' c tm σ=some r:=by
 intro c
 induction c with
 | skip=>intro n n' tm σ r _ h;exact h
 | exit id=>intro n n' tm σ r _ h;exact h
 | ret=>intro n n' tm σ r _ h;exact h
 | stuck=>intro n n' tm σ r _ h;exact h
 | region ops chk live =>
  intro n n' tm σ r _ h
  simp only [Z6] at h ⊢
  exact Zs4 hO h
 | seq a b iha ihb =>
  intro n n' tm σ r hn h
  simp only [Z6] at h ⊢
  split at h
  ·rename_i h1;rw [iha hn h1];exact ihb hn h
  ·rename_i hne
   rw [iha hn h]
   split
   ·rename_i e;injection e with e;subst e;exact absurd h (hne _ _)
   ·rfl
 | cond c a b iha ihb =>
  intro n n' tm σ r hn h
  simp only [Z6] at h ⊢
  split at h
  ·exact iha hn h
  ·exact ihb hn h
  ·cases h
 | block id c ih =>
  intro n n' tm σ r hn h
  simp only [Z6] at h ⊢
  split at h
  ·rename_i h1;rw [ih hn h1];exact h
  ·rename_i hne
   rw [ih hn h]
   split
   ·rename_i e;injection e with e;subst e;exact absurd h (hne _ _ _)
   ·rfl
 | loop live c ih =>
  intro n n' tm σ r hn h
  simp only [Z6] at h ⊢
  exact Zla (fun tm σ r h=>ih hn h) hn h
theorem ZlI {m0:Nat} {fn:ZE} {x y:Option (ZaT×Tms×Za)} (h:∀ r,x=some r->y=some r) {r:AVal×Za} (hr:Zap m0 fn x=some r):Zap m0 fn y=some r:=by
 cases x with
 | none=>simp only [Zap] at hr;cases hr
 | some q=>rw [h q rfl];exact hr
theorem Zry (fs:Nat->Option ZE) (prim:Zcz):∀ n,OLe (Zaw fs prim bf n) (Zaw fs prim bf (n+1))
 | 0=>by intro f a σ r h;simp only [Zaw] at h;cases h
 | n+1=>by
  intro f a σ r h
  rw [Zaw] at h ⊢
  split at h
  ·rename_i g hg;exact h
  ·rename_i hg
   split at h
   ·cases h
   ·rename_i fn hfn
    exact ZlI (fun q hq=>ZdT (Zry fs prim n) (by omega) hq) h
theorem Zig (fs : Nat -> Option ZE) (prim : Zcz) {n m : Nat} (h : n <= m) : OLe (Zaw fs prim bf n) (Zaw fs prim bf m) := by
  induction m with
  | zero => obtain rfl : n = 0 := by omega
            exact fun _ _ _ _ h => h
  | succ m ih =>
    by_cases e : n = m + 1
    . subst e; exact fun _ _ _ _ h => h
    . exact fun f a σ r hr => Zry fs prim m f a σ r (ih (by omega) f a σ r hr)
end
section
variable (fs:Nat->Option ZE) (prim:Zcz) (bf:Nat->Bool)
open Classical in
noncomputable def EV:ZR:=fun f args σ=>if h:∃ r,∃ n,Zaw fs prim bf n f args σ=some r then some h.choose else none
open Classical in
noncomputable def evC (m:Nat) (c:Ze) (tm:Tms) (σ:Za):Option (ZaT×Tms×Za):=if h:∃ r,∃ n,Z6 (Zaw fs prim bf n) bf m n c tm σ=some r then some h.choose else none
variable {fs prim bf} {m0:Nat}
theorem ZdI {f:Nat} {args:List AVal} {σ:Za} {r:AVal×Za}:EV fs prim bf f args σ=some r↔∃ n,Zaw fs prim bf n f args σ=some r:=by
 unfold EV
 constructor
 ·intro h
  split at h
  ·rename_i hx
   injection h with h
   rw [<-h]
   exact hx.choose_spec
  ·cases h
 ·rintro ⟨n,hn⟩
  have hx:∃ r,∃ n,Zaw fs prim bf n f args σ=some r:=⟨r,n,hn⟩
  rw [dif_pos hx]
  obtain ⟨m,hm⟩:=hx.choose_spec
  have h1:=Zig (bf:=bf) fs prim (Nat.le_max_left n m) _ _ _ _ hn
  have h2:=Zig (bf:=bf) fs prim (Nat.le_max_right n m) _ _ _ _ hm
  rw [h1] at h2
  injection h2 with h2
  rw [<-h2]
theorem Zbu {c:Ze} {tm:Tms} {σ:Za} {r:ZaT×Tms×Za}:evC fs prim bf m0 c tm σ=some r↔∃ n,Z6 (Zaw fs prim bf n) bf m0 n c tm σ=some r:=by
 unfold evC
 constructor
 ·intro h
  split at h
  ·rename_i hx
   injection h with h
   rw [<-h]
   exact hx.choose_spec
  ·cases h
 ·rintro ⟨n,hn⟩
  have hx:∃ r,∃ n,Z6 (Zaw fs prim bf n) bf m0 n c tm σ=some r:=⟨r,n,hn⟩
  rw [dif_pos hx]
  obtain ⟨m,hm⟩:=hx.choose_spec
  have h1:=ZdT (Zig (bf:=bf) fs prim (Nat.le_max_left n m)) (Nat.le_max_left n m) hn
  have h2:=ZdT (Zig (bf:=bf) fs prim (Nat.le_max_right n m)) (Nat.le_max_right n m) hm
  rw [h1] at h2
  injection h2 with h2
  rw [<-h2]
theorem Zfc {α:Type} {x y:Option α} (h:∀ r,x=some r↔y=some r):x=y:=by
 cases x with
 | none =>
  cases y with
  | none=>rfl
  | some q=>exact absurd ((h q).2 rfl) (by simp)
 | some q=>exact ((h q).1 rfl).symm
theorem ZyJ (n:Nat):OLe (Zaw fs prim bf n) (EV fs prim bf):=fun _ _ _ _ h=>ZdI.2 ⟨n,h⟩
theorem up {n m:Nat} (h:n<=m):OLe (Zaw fs prim bf n) (Zaw fs prim bf m):=Zig fs prim h
theorem ZsF {f:Nat} {g:List AVal->Za->Option (AVal×Za)} (hp:prim f=some g) (args:List AVal) (σ:Za):EV fs prim bf f args σ=g args σ:=by
 apply Zfc
 intro r
 rw [ZdI]
 constructor
 ·rintro ⟨n,h⟩
  cases n with
  | zero=>simp only [Zaw] at h;cases h
  | succ n=>rw [Zaw,hp] at h;exact h
 ·intro h
  exact ⟨1,by rw [Zaw,hp];exact h⟩
theorem ZuF {f:Nat} {fn:ZE} (hp:prim f=none) (hf:fs f=some fn) (args:List AVal) (σ:Za):EV fs prim bf f args σ=Zap σ.length fn (evC fs prim bf σ.length fn.body (enterA 0 args []) σ):=by
 apply Zfc
 intro r
 rw [ZdI]
 constructor
 ·rintro ⟨n,h⟩
  cases n with
  | zero=>simp only [Zaw] at h;cases h
  | succ n =>
   rw [Zaw,hp,hf] at h
   exact ZlI (fun q hq=>Zbu.2 ⟨n,hq⟩) h
 ·intro h
  cases hx:evC fs prim bf σ.length fn.body (enterA 0 args []) σ with
  | none=>rw [hx] at h;simp only [Zap] at h;cases h
  | some q =>
   obtain ⟨n,hn⟩:=Zbu.1 hx
   refine ⟨n+1,?_⟩
   rw [Zaw,hp,hf]
   rw [hx] at h
   exact ZlI (x:=some q) (fun q' hq'=>by injection hq' with hq';subst hq';exact hn) h
theorem ZvH {σ:Za} {sq f own:Nat} {view:Bool} {args:List AVal} {r:AVal×Za×Cls} (h:Zj (EV fs prim bf) bf σ sq f own view args=some r):∃ n,Zj (Zaw fs prim bf n) bf σ sq f own view args=some r:=by
 unfold Zj ZbH at h ⊢
 split at h
 ·cases h
 ·rename_i vs ts hv
  split at h
  ·rename_i hc
   simp only [hc,if_true]
   cases hx:EV fs prim bf f (Zf (Zo (Zs σ ts) 0 (Zz (Zs σ ts) 1000 (Zt vs) [])) vs) (Zw (Zs σ ts) 0 (Zz (Zs σ ts) 1000 (Zt vs) []) (Zo (Zs σ ts) 0 (Zz (Zs σ ts) 1000 (Zt vs) [])) (Zz (Zs σ ts) 1000 (Zt vs) []) 0) with
   | none =>
    rw [hx] at h
    cases view <;> simp [Zaf,ZbJ,ZaE] at h
   | some q =>
    obtain ⟨n,hn⟩:=ZdI.1 hx
    exact ⟨n,by rw [hn];rw [hx] at h;exact h⟩
  ·cases h
theorem ZDa {tm:Tms} {σ:Za} {sq:Nat} {ins:Ins} {r:AVal×Za×Cls} (h:execI (EV fs prim bf) bf tm σ sq ins=some r):∃ n,execI (Zaw fs prim bf n) bf tm σ sq ins=some r:=by
 cases ins
 case call f own view args =>
  simp only [execI] at h ⊢
  exact ZvH h
 case callv x args =>
  simp only [execI] at h ⊢
  split at h
  ·exact ZvH h
  ·cases h
 all_goals exact ⟨0,h⟩
theorem ZvJ {o:AOp} {tm:Tms} {σ:Za} {sq:Nat} {r:AVal×Tms×Za×Cls} (h:ZL (EV fs prim bf) bf o sq tm σ=some r):∃ n,ZL (Zaw fs prim bf n) bf o sq tm σ=some r:=by
 unfold ZL at h ⊢
 split at h
 ·cases h
 ·exact ⟨0,h⟩
 ·split at h
  ·rename_i hf
   simp only [hf,if_true]
   split at h
   ·rename_i he
    obtain ⟨n,hn⟩:=ZDa he
    exact ⟨n,by rw [hn];exact h⟩
   ·cases h
  ·cases h
theorem ZrR:∀ {ops:List AOp} {s:Nat} {tm:Tms} {σ:Za} {r:Tms×Za×List Cls×Option AVal},ZY (EV fs prim bf) bf ops s tm σ=some r->∃ n,ZY (Zaw fs prim bf n) bf ops s tm σ=some r
 | [],_,_,_,_,h=>⟨0,h⟩
 | o::ops,s,tm,σ,r,h=>by
  simp only [ZY] at h ⊢
  split at h
  ·cases h
  ·rename_i h1
   obtain ⟨n,hn⟩:=ZvJ h1
   exact ⟨n,by rw [hn];exact h⟩
  rename_i v tm1 σ1 c hnp h1
  split at h
  ·cases h
  rename_i h2
  obtain ⟨n,hn⟩:=ZvJ h1
  obtain ⟨m,hm⟩:=ZrR h2
  refine ⟨max n m,?_⟩
  rw [Zmo (up (Nat.le_max_left n m)) hn]
  simp only
  rw [Zoq (up (Nat.le_max_right n m)) hm]
  exact h
theorem ZBt {ops:List AOp} {chk:Option (List (Nat×Nat))} {live:List Nat} {tm:Tms} {σ:Za} {r:ZaT×Tms×Za} (h:Zb6 (EV fs prim bf) bf ops chk live tm σ=some r):∃ n,Zb6 (Zaw fs prim bf n) bf ops chk live tm σ=some r:=by
 unfold Zb6 at h ⊢
 cases hx:ZY (EV fs prim bf) bf ops σ.length tm (σ++List.replicate (sitesOf ops) .free) with
 | none=>rw [hx] at h;simp only [ZcR] at h;cases h
 | some q =>
  obtain ⟨n,hn⟩:=ZrR hx
  exact ⟨n,by rw [hn];rw [hx] at h;exact h⟩
theorem ZFm (tm:Tms) (σ:Za):evC fs prim bf m0 .skip tm σ=some (.normal,tm,σ):=Zbu.2 ⟨0,rfl⟩
theorem ZIb (id:Nat) (tm:Tms) (σ:Za):evC fs prim bf m0 (.exit id) tm σ=some (.exit id,tm,σ):=Zbu.2 ⟨0,rfl⟩
theorem ZMj (tm:Tms) (σ:Za):evC fs prim bf m0 .ret tm σ=some (.ret,tm,σ):=Zbu.2 ⟨0,rfl⟩
theorem ZKK {ops:List AOp} {chk:Option (List (Nat×Nat))} {live:List Nat} {tm:Tms} {σ:Za}:evC fs prim bf m0 (.region ops chk live) tm σ=Zb6 (EV fs prim bf) bf ops chk live tm σ:=by
 apply Zfc
 intro r
 rw [Zbu]
 constructor
 ·rintro ⟨n,hn⟩
  simp only [Z6] at hn
  exact Zs4 (ZyJ n) hn
 ·intro h
  obtain ⟨n,hn⟩:=ZBt h
  exact ⟨n,by simp only [Z6];exact hn⟩
theorem Zir {a b:Ze} {tm tm':Tms} {σ σ':Za} (h:evC fs prim bf m0 a tm σ=some (.normal,tm',σ')):evC fs prim bf m0 (.seq a b) tm σ=evC fs prim bf m0 b tm' σ':=by
 obtain ⟨n,hn⟩:=Zbu.1 h
 apply Zfc
 intro r
 rw [Zbu,Zbu]
 constructor
 ·rintro ⟨m,hm⟩
  have h1:=ZdT (up (Nat.le_max_left n m)) (Nat.le_max_left n m) hn
  have h2:=ZdT (up (Nat.le_max_right n m)) (Nat.le_max_right n m) hm
  simp only [Z6,h1] at h2
  exact ⟨_,h2⟩
 ·rintro ⟨m,hm⟩
  have h1:=ZdT (up (Nat.le_max_left n m)) (Nat.le_max_left n m) hn
  have h2:=ZdT (up (Nat.le_max_right n m)) (Nat.le_max_right n m) hm
  exact ⟨max n m,by simp only [Z6,h1];exact h2⟩
theorem Zit {a b:Ze} {tm tm':Tms} {σ σ':Za} {e:ZaT} (he:e≠.normal) (h:evC fs prim bf m0 a tm σ=some (e,tm',σ')):evC fs prim bf m0 (.seq a b) tm σ=some (e,tm',σ'):=by
 obtain ⟨n,hn⟩:=Zbu.1 h
 refine Zbu.2 ⟨n,?_⟩
 simp only [Z6,hn]
 cases e with
 | normal=>exact absurd rfl he
 | exit id=>rfl
 | ret=>rfl
 | panic x=>rfl
def ZaW (id:Nat):ZaT×Tms×Za->ZaT×Tms×Za
 | (.exit i,tm,σ)=>if i=id then (.normal,tm,σ) else (.exit i,tm,σ)
 | r=>r
theorem ZF7 {id:Nat} {c:Ze} {tm:Tms} {σ:Za}:evC fs prim bf m0 (.block id c) tm σ=(evC fs prim bf m0 c tm σ).map (ZaW id):=by
 have step:∀ n,Z6 (Zaw fs prim bf n) bf m0 n (.block id c) tm σ=(Z6 (Zaw fs prim bf n) bf m0 n c tm σ).map (ZaW id):=by
  intro n
  simp only [Z6]
  cases Z6 (Zaw fs prim bf n) bf m0 n c tm σ with
  | none=>rfl
  | some q =>
   obtain ⟨e,tm1,σ1⟩:=q
   cases e with
   | normal=>rfl
   | ret=>rfl
   | panic x=>rfl
   | exit i=>simp only [Option.map_some,ZaW];split <;> rfl
 apply Zfc;intro r
 rw [Zbu]
 simp only [step,Option.map_eq_some_iff]
 constructor
 ·rintro ⟨n,q,h1,h2⟩;exact ⟨q,Zbu.2 ⟨n,h1⟩,h2⟩
 ·rintro ⟨q,h1,h2⟩;obtain ⟨n,hn⟩:=Zbu.1 h1;exact ⟨n,q,hn,h2⟩
theorem ZA9 {c:Ze} {tm:Tms} {σ:Za} (h:evC fs prim bf m0 c tm σ=none) (n:Nat):Z6 (Zaw fs prim bf n) bf m0 n c tm σ=none:=by
 cases hx:Z6 (Zaw fs prim bf n) bf m0 n c tm σ with
 | none=>rfl
 | some r=>rw [Zbu.2 ⟨n,hx⟩] at h;cases h
variable (fs prim bf m0) in
noncomputable def ZbM (b:Ze):Option (ZaT×Tms×Za)->Option (ZaT×Tms×Za)
 | some (.normal,tm,σ)=>evC fs prim bf m0 b tm σ
 | r=>r
theorem ZLc {a b:Ze} {tm:Tms} {σ:Za}:evC fs prim bf m0 (.seq a b) tm σ=ZbM fs prim bf m0 b (evC fs prim bf m0 a tm σ):=by
 cases h:evC fs prim bf m0 a tm σ with
 | none =>
  simp only [ZbM]
  apply Zfc;intro r
  rw [Zbu]
  constructor
  ·rintro ⟨n,hn⟩
   simp only [Z6,ZA9 h n] at hn
   cases hn
  ·intro h;cases h
 | some q =>
  obtain ⟨e,tm',σ'⟩:=q
  cases e with
  | normal=>exact Zir h
  | exit id=>exact Zit (by simp) h
  | ret=>exact Zit (by simp) h
  | panic x=>exact Zit (by simp) h
variable (fs prim bf m0) in
noncomputable def ZiB (a b:Ze) (tm:Tms) (σ:Za):AVal->Option (ZaT×Tms×Za)
 | .bool true=>evC fs prim bf m0 a tm σ
 | .bool false=>evC fs prim bf m0 b tm σ
 | _=>none
theorem ZNm {c:Opd} {a b:Ze} {tm:Tms} {σ:Za}:evC fs prim bf m0 (.cond c a b) tm σ=ZiB fs prim bf m0 a b tm σ (c.ev tm):=by
 apply Zfc;intro r
 rw [Zbu]
 simp only [Z6]
 constructor
 ·rintro ⟨n,hn⟩
  split at hn
  ·rename_i e;rw [e];simp only [ZiB];exact Zbu.2 ⟨n,hn⟩
  ·rename_i e;rw [e];simp only [ZiB];exact Zbu.2 ⟨n,hn⟩
  ·cases hn
 ·intro h
  unfold ZiB at h
  split at h
  ·rename_i e;obtain ⟨n,hn⟩:=Zbu.1 h;exact ⟨n,by rw [e];exact hn⟩
  ·rename_i e;obtain ⟨n,hn⟩:=Zbu.1 h;exact ⟨n,by rw [e];exact hn⟩
  ·cases h
variable (fs prim bf m0) in
noncomputable def evL (live:List Nat) (c:Ze) (tm:Tms) (σ:Za):Option (ZaT×Tms×Za) :=
 match evC fs prim bf m0 c tm σ with
 | some (.normal,tm',σ')=>evC fs prim bf m0 (.loop live c) tm' σ'
 | r=>r
theorem Zvu {live:List Nat} {c:Ze} {tm:Tms} {σ:Za}:evC fs prim bf m0 (.loop live c) tm σ=evL fs prim bf m0 live c (gcT m0 (keepL live tm) σ).1 (gcT m0 (keepL live tm) σ).2:=by
 apply Zfc;intro r
 rw [Zbu]
 constructor
 ·rintro ⟨n,hn⟩
  simp only [Z6] at hn
  cases n with
  | zero=>simp only [Zdt] at hn;cases hn
  | succ k =>
   simp only [Zdt] at hn
   unfold evL
   cases hx:Z6 (Zaw fs prim bf (k+1)) bf m0 (k+1) c (gcT m0 (keepL live tm) σ).1 (gcT m0 (keepL live tm) σ).2 with
   | none=>rw [hx] at hn;cases hn
   | some q =>
    rw [Zbu.2 ⟨_,hx⟩]
    rw [hx] at hn
    obtain ⟨e,tm',σ'⟩:=q
    cases e with
    | normal =>
     simp only at hn ⊢
     exact Zbu.2 ⟨k+1,by simp only [Z6];exact Zla (fun _ _ _ h=>h) (by omega) hn⟩
    | exit id=>exact hn
    | ret=>exact hn
    | panic x=>exact hn
 ·intro h
  unfold evL at h
  cases hx:evC fs prim bf m0 c (gcT m0 (keepL live tm) σ).1 (gcT m0 (keepL live tm) σ).2 with
  | none=>rw [hx] at h;cases h
  | some q =>
   rw [hx] at h
   obtain ⟨n,hn⟩:=Zbu.1 hx
   obtain ⟨e,tm',σ'⟩:=q
   have out:e≠.normal->some (e,tm',σ')=some r->∃ n,Z6 (Zaw fs prim bf n) bf m0 n (.loop live c) tm σ=some r:=by
    intro he h
    refine ⟨n+1,?_⟩
    have h1:=ZdT (up (show n<=n+1 by omega)) (show n<=n+1 by omega) hn
    simp only [Z6,Zdt,h1]
    cases e with
    | normal=>exact absurd rfl he
    | exit id=>exact h
    | ret=>exact h
    | panic x=>exact h
   cases e with
   | normal =>
    simp only at h
    obtain ⟨m,hm⟩:=Zbu.1 h
    have h1:=ZdT (up (show n<=max n m+1 by omega)) (show n<=max n m+1 by omega) hn
    have h2:=ZdT (up (show m<=max n m+1 by omega)) (Nat.le_refl m) hm
    simp only [Z6] at h2
    refine ⟨max n m+1,?_⟩
    simp only [Z6,Zdt,h1]
    exact Zla (fun tm σ r h=>ZdT (fun _ _ _ _ h=>h) (by omega) h) (by omega) h2
   | exit id=>exact out (by simp) h
   | ret=>exact out (by simp) h
   | panic x=>exact out (by simp) h
theorem ZGE {P:Program} (hm:P.follows .mixedOrders=true) {prim:Zcz} (hP:ZjQ P prim) (ann:Nat->Ann) (bf:Nat->Bool):ZaK P (EV (ZjB P ann) prim bf):=by
 intro f args σ r σ' h
 obtain ⟨n,hn⟩:=ZdI.1 h
 exact ZoK hm hP ann bf n f args σ r σ' hn
end
end
section
open Go.RowKit
def Zuv:Tms×Za×List Cls×Option AVal->Tms×Za×Option AVal:=fun q=>(q.1,q.2.1,q.2.2.2)
def ZaM:AVal->Bool
 | .pan _=>true
 | _=>false
section
variable (O:ZR) (bf:Nat->Bool)
def exI (i:Ins) (s:Nat) (tm:Tms) (σ:Za):Option (AVal×Za×Cls) :=
 if nsite i == 0 || freeAt σ s then execI O bf tm σ s i else none
def Zbm (ops:List AOp) (s:Nat) (tm:Tms) (σ:Za):Option (Tms×Za×Option AVal):=(ZY O bf ops s tm σ).map Zuv
def kN (d:Option Nat) (os:List AOp) (s:Nat) (tm:Tms):Option (AVal×Za×Cls)->Option (Tms×Za×Option AVal)
 | none=>none
 | some (v,σ,_)=>if ZaM v then some (tput tm d v,σ,some (ZaS v)) else Zbm O bf os s (tput tm d v) σ
def Zkp (live:List Nat):Option (Tms×Za×Option AVal)->Option (ZaT×Tms×Za)
 | none=>none
 | some (_,σ,some x)=>some (.panic x,[],σ)
 | some (tm,σ,none)=>some (.normal,keepL live tm,σ)
variable {O bf}
theorem Zrf (s:Nat) (tm:Tms) (σ:Za):Zbm O bf [] s tm σ=some (tm,σ,none):=rfl
theorem Zjf {o:AOp} {os:List AOp} {s:Nat} {tm:Tms} {σ:Za} (h:ZL O bf o s tm σ=none):ZY O bf (o::os) s tm σ=none:=by simp only [ZY,h]
theorem Zlq {o:AOp} {os:List AOp} {s:Nat} {tm tm1:Tms} {σ σ1:Za} {x:AVal} {c:Cls} (h:ZL O bf o s tm σ=some (.pan x,tm1,σ1,c)):ZY O bf (o::os) s tm σ=some (tm1,σ1,[c],some x):=by simp only [ZY,h]
theorem Zuk {o:AOp} {os:List AOp} {s:Nat} {tm tm1:Tms} {σ σ1:Za} {v:AVal} {c:Cls} (h:ZL O bf o s tm σ=some (v,tm1,σ1,c)) (hn:ZaM v=false):ZY O bf (o::os) s tm σ=(ZY O bf os (s+nsite o.ins) tm1 σ1).map fun q=>(q.1,q.2.1,c::q.2.2.1,q.2.2.2):=by
 simp only [ZY,h]
 cases v <;> first
  | (simp [ZaM] at hn;done)
  | (simp only;cases ZY O bf os (s+nsite o.ins) tm1 σ1 <;> rfl)
theorem ZlK {o:AOp} {os:List AOp} {s:Nat} {tm:Tms} {σ:Za} (h:ZL O bf o s tm σ=none):Zbm O bf (o::os) s tm σ=none:=by simp only [Zbm,Zjf h,Option.map_none]
theorem ZpU {o:AOp} {os:List AOp} {s:Nat} {tm tm1:Tms} {σ σ1:Za} {x:AVal} {c:Cls} (h:ZL O bf o s tm σ=some (.pan x,tm1,σ1,c)):Zbm O bf (o::os) s tm σ=some (tm1,σ1,some x):=by simp only [Zbm,Zlq h,Option.map_some,Zuv]
theorem Zkz {o:AOp} {os:List AOp} {s:Nat} {tm tm1:Tms} {σ σ1:Za} {v:AVal} {c:Cls} (h:ZL O bf o s tm σ=some (v,tm1,σ1,c)) (hn:ZaM v=false):Zbm O bf (o::os) s tm σ=Zbm O bf os (s+nsite o.ins) tm1 σ1:=by
 simp only [Zbm,Zuk h hn,Option.map_map]
 rfl
theorem ZkI {v:AVal} (h:ZaM v=true):∃ x,v=.pan x:=by
 cases v <;> first | exact ⟨_,rfl⟩ | (simp [ZaM] at h;done)
theorem ZlR {d:Option Nat} {i:Ins} {af:List Nat} {s:Nat} {tm:Tms} {σ:Za}:ZL O bf ⟨d,i,none,af⟩ s tm σ=(exI O bf i s tm σ).map fun q=>(q.1,tput tm d q.1,q.2.1,q.2.2):=by
 unfold ZL exI
 simp only [Zby]
 split
 ·cases execI O bf tm σ s i with
  | none=>rfl
  | some q=>rfl
 ·rfl
theorem ZpT (d:Option Nat) (i:Ins) (af:List Nat) (os:List AOp) (s:Nat) (tm:Tms) (σ:Za):Zbm O bf (⟨d,i,none,af⟩::os) s tm σ=kN O bf d os (s+nsite i) tm (exI O bf i s tm σ):=by
 cases h:exI O bf i s tm σ with
 | none=>exact ZlK (by rw [ZlR,h];rfl)
 | some q =>
  obtain ⟨v,σ1,c⟩:=q
  have hs:ZL O bf ⟨d,i,none,af⟩ s tm σ=some (v,tput tm d v,σ1,c):=by rw [ZlR,h];rfl
  cases hp:ZaM v with
  | true =>
   obtain ⟨x,rfl⟩:=ZkI hp
   exact ZpU hs
  | false =>
   rw [Zkz hs hp]
   simp only [kN,hp,Bool.false_eq_true,if_false]
theorem ZH7 (ops:List AOp) (live:List Nat) (tm:Tms) (σ:Za):Zb6 O bf ops none live tm σ=Zkp live (Zbm O bf ops σ.length tm (σ++List.replicate (sitesOf ops) .free)):=by
 unfold Zb6 Zbm
 cases ZY O bf ops σ.length tm (σ++List.replicate (sitesOf ops) .free) with
 | none=>rfl
 | some q =>
  obtain ⟨tm',σ',cs,p⟩:=q
  cases p <;> rfl
theorem Zpt (d:Option Nat) (os:List AOp) (s:Nat) (tm:Tms) (v:AVal) (σ:Za) (c:Cls) (h:ZaM v=false):kN O bf d os s tm (some (v,σ,c))=Zbm O bf os s (tput tm d v) σ:=by
 simp only [kN,h,Bool.false_eq_true,if_false]
theorem ZOO (d:Option Nat) (os:List AOp) (s:Nat) (tm:Tms) (x:AVal) (σ:Za) (c:Cls):kN O bf d os s tm (some (.pan x,σ,c))=some (tput tm d (.pan x),σ,some x):=rfl
theorem ZwN (d:Option Nat) (os:List AOp) (s:Nat) (tm:Tms):kN O bf d os s tm none=none:=rfl
structure GOp where
 guard:Option (Nat×Bool)
 ops:List AOp
def Zav:List AOp->Tms->Tms
 | [],tm=>tm
 | o::os,tm=>Zav os (tput tm o.dst (.tup []))
def unG (o:AOp):AOp:={ o with guard:=none }
variable (O bf) in
def ZeM (j:Nat) (w:Bool) (g:List AOp) (s:Nat) (tm:Tms) (σ:Za):Option (Tms×Za×Option AVal):=match Zby (some (j,w)) tm with
 | none=>none
 | some false=>some (Zav g tm,σ,none)
 | some true=>Zbm O bf (g.map unG) s tm σ
variable (O bf) in
def gK (os:List AOp) (s:Nat):Option (Tms×Za×Option AVal)->Option (Tms×Za×Option AVal)
 | none=>none
 | some (tm,σ,some x)=>some (tm,σ,some x)
 | some (tm,σ,none)=>Zbm O bf os s tm σ
def ZF (j:Nat) (w:Bool):List AOp->List AOp×List AOp
 | []=>([],[])
 | o::os=>match o.guard with
  | some (j',w')=>if j'=j/\w'=w/\o.dst≠some j then ((o::(ZF j w os).1),(ZF j w os).2) else ([],o::os)
  | none=>([],o::os)
theorem ZnC (j:Nat) (w:Bool):∀ os,(ZF j w os).1++(ZF j w os).2=os
 | []=>rfl
 | o::os=>by
  simp only [ZF]
  split
  ·split
   ·simp [ZnC j w os]
   ·rfl
  ·rfl
theorem Zp1 (j:Nat) (w:Bool):∀ os,∀ o ∈ (ZF j w os).1,o.guard=some (j,w)/\o.dst≠some j
 | []=>by simp [ZF]
 | o::os=>by
  intro o' ho
  simp only [ZF] at ho
  split at ho
  ·rename_i j' w' hg
   split at ho
   ·rename_i hc
    rcases List.mem_cons.1 ho with rfl | ho
    ·exact ⟨by rw [hg,hc.1,hc.2.1],hc.2.2⟩
    ·exact Zp1 j w os o' ho
   ·simp at ho
  ·simp at ho
theorem ZO0 {d:Option Nat} {v:AVal} {n:Nat} {tm:Tms} (h:d≠some n):tget (tput tm d v) n=tget tm n:=by
 cases d with
 | none=>rfl
 | some d =>
  have : d≠n:=by rintro rfl;exact h rfl
  simp only [tput,Zl2,this,if_false]
theorem Zf6 {d:Option Nat} {v:AVal} {j:Nat} {w:Bool} {tm:Tms} (h:d≠some j):Zby (some (j,w)) (tput tm d v)=Zby (some (j,w)) tm:=by
 simp only [Zby,ZO0 h]
theorem ZuO:∀ (a b:List AOp) (s:Nat) (tm:Tms) (σ:Za),Zbm O bf (a++b) s tm σ=gK O bf b (s+sitesOf a) (Zbm O bf a s tm σ)
 | [],b,s,tm,σ=>by simp [Zrf,gK,sitesOf]
 | o::a,b,s,tm,σ=>by
  have ih:=ZuO a b
  simp only [List.cons_append]
  have hs:s+nsite o.ins+sitesOf a=s+sitesOf (o::a):=by simp [sitesOf,Nat.add_assoc]
  cases hst:ZL O bf o s tm σ with
  | none=>rw [ZlK hst,ZlK hst];rfl
  | some q =>
   obtain ⟨v,tm1,σ1,c⟩:=q
   cases hp:ZaM v with
   | true =>
    obtain ⟨x,rfl⟩:=ZkI hp
    rw [ZpU hst,ZpU hst];rfl
   | false=>rw [Zkz hst hp,Zkz hst hp,ih,hs]
theorem ZsT (j:Nat) (w:Bool):∀ (g:List AOp),(∀ o ∈ g,o.guard=some (j,w)/\o.dst≠some j)->∀ (s:Nat) (tm:Tms) (σ:Za),g≠[]->Zbm O bf g s tm σ=ZeM O bf j w g s tm σ
 | [],_,_,_,_,h=>absurd rfl h
 | o::g,hall,s,tm,σ,_=>by
  obtain ⟨hg,hd⟩:=hall o (by simp)
  have ih:∀ (tm:Tms) (σ:Za) (s:Nat),Zby (some (j,w)) tm≠none->Zbm O bf g s tm σ=ZeM O bf j w g s tm σ:=by
   intro tm σ s hw
   by_cases he:g=[]
   ·subst he
    unfold ZeM
    cases hx:Zby (some (j,w)) tm with
    | none=>exact absurd hx hw
    | some b=>cases b <;> rfl
   ·exact ZsT j w g (fun o ho=>hall o (by simp [ho])) s tm σ he
  cases hx:Zby (some (j,w)) tm with
  | none =>
   rw [ZlK (by simp only [ZL,hg,hx])]
   simp only [ZeM,hx]
  | some b =>
   cases b with
   | false =>
    have h1:Zbm O bf (o::g) s tm σ=Zbm O bf g (s+nsite o.ins) (tput tm o.dst (.tup [])) σ :=
     Zkz (v:=.tup []) (c:={}) (by simp only [ZL,hg,hx]) rfl
    rw [h1,ih _ _ _ (by rw [Zf6 hd,hx];simp)]
    unfold ZeM
    rw [Zf6 hd,hx]
    rfl
   | true =>
    have key:∀ r:Option (AVal×Za×Cls),(∀ v σ' c,r=some (v,σ',c)->ZaM v=false->Zbm O bf g (s+nsite o.ins) (tput tm o.dst v) σ'=Zbm O bf (g.map unG) (s+nsite o.ins) (tput tm o.dst v) σ')->kN O bf o.dst g (s+nsite o.ins) tm r=kN O bf o.dst (g.map unG) (s+nsite o.ins) tm r:=by
     intro r hr
     cases r with
     | none=>rfl
     | some q =>
      obtain ⟨v,σ',c⟩:=q
      cases hp:ZaM v with
      | true=>simp only [kN,hp,if_true]
      | false=>rw [Zpt _ _ _ _ _ _ _ hp,Zpt _ _ _ _ _ _ _ hp];exact hr v σ' c rfl hp
    have h1:Zbm O bf (o::g) s tm σ=kN O bf o.dst g (s+nsite o.ins) tm (exI O bf o.ins s tm σ):=by
     have h0:Zbm O bf (o::g) s tm σ=Zbm O bf (⟨o.dst,o.ins,none,o.after⟩::g) s tm σ:=by
      have hst:ZL O bf o s tm σ=ZL O bf ⟨o.dst,o.ins,none,o.after⟩ s tm σ:=by
       unfold ZL
       simp only [hg,hx]
       rfl
      unfold Zbm
      simp only [ZY,hst]
     rw [h0,ZpT]
    rw [h1]
    unfold ZeM
    rw [hx]
    simp only [List.map_cons]
    rw [show unG o=⟨o.dst,o.ins,none,o.after⟩ from rfl,ZpT]
    refine key _ fun v σ' c _ _=>?_
    rw [ih _ _ _ (by rw [Zf6 hd,hx];simp)]
    unfold ZeM
    rw [Zf6 hd,hx]
theorem ZFS (d:Option Nat) (i:Ins) (j:Nat) (w:Bool) (af:List Nat) (os:List AOp) (s:Nat) (tm:Tms) (σ:Za) (hd:decide (d=some j)=false) :
  Zbm O bf (⟨d,i,some (j,w),af⟩::os) s tm σ=gK O bf (ZF j w os).2 (s+sitesOf (⟨d,i,some (j,w),af⟩::(ZF j w os).1)) (ZeM O bf j w (⟨d,i,some (j,w),af⟩::(ZF j w os).1) s tm σ):=by
 have h:=ZnC j w os
 have hall:∀ o ∈ (⟨d,i,some (j,w),af⟩::(ZF j w os).1:List AOp),o.guard=some (j,w)/\o.dst≠some j:=by
  intro o ho
  rcases List.mem_cons.1 ho with rfl | ho
  ·exact ⟨rfl,by simpa using hd⟩
  ·exact Zp1 j w os o ho
 rw [<-ZsT j w _ hall s tm σ (by simp),<-ZuO,List.cons_append,h]
variable (O bf) in
def gW (w:Bool) (g:List AOp) (s:Nat) (tm:Tms) (σ:Za):AVal->Option (Tms×Za×Option AVal)
 | .bool b=>if b=w then Zbm O bf (g.map unG) s tm σ else some (Zav g tm,σ,none)
 | .tup []=>some (Zav g tm,σ,none)
 | _=>none
theorem ZxT (j:Nat) (w:Bool) (g:List AOp) (s:Nat) (tm:Tms) (σ:Za):ZeM O bf j w g s tm σ=gW O bf w g s tm σ (tget tm j):=by
 unfold ZeM Zby
 simp only
 generalize tget tm j=v
 cases v
 case bool b=>cases b <;> cases w <;> rfl
 case tup vs=>cases vs <;> rfl
 all_goals rfl
theorem ZEi (w:Bool) (g:List AOp) (s:Nat) (tm:Tms) (σ:Za) (b:Bool):gW O bf w g s tm σ (.bool b)=if b=w then Zbm O bf (g.map unG) s tm σ else some (Zav g tm,σ,none):=rfl
theorem ZyI (w:Bool) (g:List AOp) (s:Nat) (tm:Tms) (σ:Za):gW O bf w g s tm σ (.tup [])=some (Zav g tm,σ,none):=rfl
theorem ZLU (os:List AOp) (s:Nat) (tm:Tms) (σ:Za):gK O bf os s (some (tm,σ,none))=Zbm O bf os s tm σ:=rfl
end
section
variable (c:Prop) [Decidable c]
theorem Zdx {α:Type} (a b:α) (x y:List α):(if c then a::x else b::y)=(if c then a else b)::(if c then x else y):=by split <;> rfl
theorem ZMV (k:IntKind) (a b:Int):(if c then AVal.int k a else AVal.int k b)=AVal.int k (if c then a else b):=by split <;> rfl
theorem ZEy (a b:Bool):(if c then AVal.bool a else AVal.bool b)=AVal.bool (if c then a else b):=by split <;> rfl
theorem ZC7 (a b:List UInt8):(if c then AVal.str a else AVal.str b)=AVal.str (if c then a else b):=by split <;> rfl
theorem Zz5 (p q:Bool) (a b:List AVal):(if c then AVal.lst p a else AVal.lst q b)=AVal.lst (if c then p else q) (if c then a else b):=by split <;> rfl
theorem ZKn (a b:List AVal):(if c then AVal.agg a else AVal.agg b)=AVal.agg (if c then a else b):=by split <;> rfl
theorem ZOe (a b:List AVal):(if c then ZK.var a else ZK.var b)=ZK.var (if c then a else b):=by split <;> rfl
theorem ZD7 (g k:Nat) (a b:List AVal):(if c then ZK.row g k a else ZK.row g k b)=ZK.row g k (if c then a else b):=by split <;> rfl
theorem ZFx (t:Nat) (a b:Nat):(if c then AVal.ref t a else AVal.ref t b)=AVal.ref t (if c then a else b):=by split <;> rfl
theorem ZkE {α:Type} (x y z:α):(if c then (if c then x else y) else z)=if c then x else z:=by split <;> rfl
theorem Zse {α:Type} (x y z:α):(if c then x else (if c then y else z))=if c then x else z:=by split <;> rfl
theorem ZIi (σ:Za) (a b:AVal) (p:Bool):Zgu σ a b (.bool p)=some (if p=true then a else b,σ,{}):=by cases p <;> rfl
theorem Zwk (a b:AVal):ZaM (if c then a else b)=if c then ZaM a else ZaM b:=by split <;> rfl
end
section
variable {fs:Nat->Option ZE} {prim:Zcz} {bf:Nat->Bool} {m0:Nat}
theorem ZFy (p:Bool) (a b:Ze) (tm:Tms) (σ:Za):ZiB fs prim bf m0 a b tm σ (.bool p)=if p=true then evC fs prim bf m0 a tm σ else evC fs prim bf m0 b tm σ:=by
 cases p <;> rfl
theorem ZMk (b:Ze) (tm:Tms) (σ:Za):ZbM fs prim bf m0 b (some (.normal,tm,σ))=evC fs prim bf m0 b tm σ:=rfl
theorem ZN1 (b:Ze) (i:Nat) (tm:Tms) (σ:Za):ZbM fs prim bf m0 b (some (.exit i,tm,σ))=some (.exit i,tm,σ):=rfl
theorem ZzN (b:Ze) (tm:Tms) (σ:Za):ZbM fs prim bf m0 b (some (.ret,tm,σ))=some (.ret,tm,σ):=rfl
theorem ZGX (b:Ze) (x:AVal) (tm:Tms) (σ:Za):ZbM fs prim bf m0 b (some (.panic x,tm,σ))=some (.panic x,tm,σ):=rfl
theorem ZzC (c:Prop) [Decidable c] (b:Ze) (x y:Option (ZaT×Tms×Za)):ZbM fs prim bf m0 b (if c then x else y)=if c then ZbM fs prim bf m0 b x else ZbM fs prim bf m0 b y:=by split <;> rfl
theorem ZL8 (id:Nat) (tm:Tms) (σ:Za):Option.map (ZaW id) (some (.normal,tm,σ))=some (.normal,tm,σ):=rfl
theorem ZFa (id i:Nat) (tm:Tms) (σ:Za):Option.map (ZaW id) (some (.exit i,tm,σ))=if i=id then some (.normal,tm,σ) else some (.exit i,tm,σ):=by
 simp only [Option.map_some,ZaW];split <;> rfl
theorem ZO6 (id:Nat) (tm:Tms) (σ:Za):Option.map (ZaW id) (some (.ret,tm,σ))=some (.ret,tm,σ):=rfl
theorem ZE2 (id:Nat) (x:AVal) (tm:Tms) (σ:Za):Option.map (ZaW id) (some (.panic x,tm,σ))=some (.panic x,tm,σ):=rfl
theorem ZHe (id:Nat) (c:Prop) [Decidable c] (x y:Option (ZaT×Tms×Za)):Option.map (ZaW id) (if c then x else y)=if c then Option.map (ZaW id) x else Option.map (ZaW id) y:=by split <;> rfl
theorem ZHV (m:Nat) (fn:ZE) (c:Prop) [Decidable c] (x y:Option (ZaT×Tms×Za)):Zap m fn (if c then x else y)=if c then Zap m fn x else Zap m fn y:=by split <;> rfl
end
section
variable {fs:Nat->Option ZE} {prim:Zcz} {bf:Nat->Bool} {m0:Nat}
theorem ZPm {live:List Nat} {c:Ze} {tm tm':Tms} {σ σ':Za} (h:evC fs prim bf m0 c tm σ=some (.normal,tm',σ')):evL fs prim bf m0 live c tm σ=evL fs prim bf m0 live c (gcT m0 (keepL live tm') σ').1 (gcT m0 (keepL live tm') σ').2:=by
 unfold evL
 rw [h]
 simp only
 rw [Zvu]
 rfl
theorem ZzH {live:List Nat} {c:Ze} {tm tm':Tms} {σ σ':Za} {i:Nat} (h:evC fs prim bf m0 c tm σ=some (.exit i,tm',σ')):evL fs prim bf m0 live c tm σ=some (.exit i,tm',σ'):=by
 unfold evL;rw [h]
theorem ZCb {live:List Nat} {c:Ze} {tm tm':Tms} {σ σ':Za} (h:evC fs prim bf m0 c tm σ=some (.ret,tm',σ')):evL fs prim bf m0 live c tm σ=some (.ret,tm',σ'):=by
 unfold evL;rw [h]
variable (fs prim bf m0) in
noncomputable def evM (live:List Nat) (c:Ze):Option (ZaT×Tms×Za)->Option (ZaT×Tms×Za)
 | some (.normal,tm,σ)=>evL fs prim bf m0 live c (gcT m0 (keepL live tm) σ).1 (gcT m0 (keepL live tm) σ).2
 | r=>r
theorem Z9 (live:List Nat) (c:Ze) (tm:Tms) (σ:Za):evL fs prim bf m0 live c tm σ=evM fs prim bf m0 live c (evC fs prim bf m0 c tm σ):=by
 cases h:evC fs prim bf m0 c tm σ with
 | none=>unfold evL;rw [h];rfl
 | some q =>
  obtain ⟨e,tm',σ'⟩:=q
  cases e with
  | normal=>exact ZPm h
  | exit i=>exact ZzH h
  | ret=>exact ZCb h
  | panic x=>unfold evL;rw [h];rfl
theorem ZDw (live:List Nat) (c:Ze) (tm:Tms) (σ:Za):evM fs prim bf m0 live c (some (.normal,tm,σ))=evL fs prim bf m0 live c (gcT m0 (keepL live tm) σ).1 (gcT m0 (keepL live tm) σ).2:=rfl
theorem ZEq (live:List Nat) (c:Ze) (i:Nat) (tm:Tms) (σ:Za):evM fs prim bf m0 live c (some (.exit i,tm,σ))=some (.exit i,tm,σ):=rfl
theorem ZBW (live:List Nat) (c:Ze) (tm:Tms) (σ:Za):evM fs prim bf m0 live c (some (.ret,tm,σ))=some (.ret,tm,σ):=rfl
theorem ZIp (live:List Nat) (c:Ze) (x:AVal) (tm:Tms) (σ:Za):evM fs prim bf m0 live c (some (.panic x,tm,σ))=some (.panic x,tm,σ):=rfl
theorem ZKN (live:List Nat) (b:Ze) (c:Prop) [Decidable c] (x y:Option (ZaT×Tms×Za)):evM fs prim bf m0 live b (if c then x else y)=if c then evM fs prim bf m0 live b x else evM fs prim bf m0 live b y:=by split <;> rfl
end
def Za9:AVal->Bool
 | .int _ _=>true
 | .bool _=>true
 | .str _=>true
 | .nilp=>true
 | .nilm=>true
 | .nili=>true
 | .lst _ _=>true
 | .fn _ []=>true
 | _=>false
def Zac:AVal->Bool
 | .agg cs=>cs.all Za9
 | x=>Za9 x
def Zbg:AVal->AVal
 | .lst _ xs=>.lst false xs
 | x=>x
def ZH:AVal->AVal
 | .agg cs=>.agg (cs.map Zbg)
 | x=>Zbg x
theorem Zr4 {σ:Za} {x:AVal} (h:Za9 x=true):ZcT σ x=some (Zbg x,[]):=by
 cases x <;> first | (simp [Za9] at h;done) | rfl
theorem Zsr {σ:Za}:∀ {xs:List AVal},xs.all Za9=true->ZcF σ xs=some (xs.map Zbg,[])
 | [],_=>rfl
 | x::xs,h=>by
  simp only [List.all_cons,Bool.and_eq_true] at h
  simp only [ZcF,Zr4 h.1,Zsr h.2,List.map_cons,List.append_nil]
theorem Zhk {x:AVal} (h:∀ cs,x≠.agg cs):Zac x=Za9 x/\ZH x=Zbg x:=by
 cases x <;> first | exact ⟨rfl,rfl⟩ | exact absurd rfl (h _)
theorem Zy8 {σ:Za} {x:AVal} (h:∀ cs,x≠.agg cs):showA σ x=ZcT σ x:=by
 cases x <;> first | rfl | exact absurd rfl (h _)
theorem ZmT (x:AVal):(∃ cs,x=.agg cs)\/∀ cs,x≠.agg cs:=by
 cases x <;> first | exact Or.inl ⟨_,rfl⟩ | (right;intro cs;simp)
theorem ZE4 {σ:Za} {x:AVal} (h:Zac x=true):showA σ x=some (ZH x,[]):=by
 rcases ZmT x with ⟨cs,rfl⟩ | hn
 ·simp only [Zac] at h
  simp only [showA,Zsr h,ZH]
 ·rw [(Zhk hn).1] at h
  rw [Zy8 hn,(Zhk hn).2]
  exact Zr4 h
theorem Zeb {σ:Za}:∀ {xs:List AVal},xs.all Zac=true->showAs σ xs=some (xs.map ZH,[])
 | [],_=>rfl
 | x::xs,h=>by
  simp only [List.all_cons,Bool.and_eq_true] at h
  simp only [showAs,ZE4 h.1,Zeb h.2,List.map_cons,List.append_nil]
theorem ZtG {x:AVal} (h:Za9 x=true):Z2 (Zbg x)=[]:=by
 cases x
 case fn f cs=>cases cs <;> simp [Za9] at h;rfl
 all_goals first | (simp [Za9] at h;done) | rfl
theorem Zru:∀ {xs:List AVal},xs.all Za9=true->Zt (xs.map Zbg)=[]
 | [],_=>rfl
 | x::xs,h=>by
  simp only [List.all_cons,Bool.and_eq_true] at h
  simp only [List.map_cons,Zt,ZtG h.1,Zru h.2,List.append_nil]
theorem Zs8 {x:AVal} (h:Zac x=true):Z2 (ZH x)=[]:=by
 rcases ZmT x with ⟨cs,rfl⟩ | hn
 ·simp only [Zac] at h
  simp only [ZH,Z2];exact Zru h
 ·rw [(Zhk hn).1] at h
  rw [(Zhk hn).2];exact ZtG h
theorem Zdp:∀ {xs:List AVal},xs.all Zac=true->Zt (xs.map ZH)=[]
 | [],_=>rfl
 | x::xs,h=>by
  simp only [List.all_cons,Bool.and_eq_true] at h
  simp only [List.map_cons,Zt,Zs8 h.1,Zdp h.2,List.append_nil]
theorem Zvc {ρ:Rho} {x:AVal} (h:Za9 x=true):Zm ρ (Zbg x)=Zbg x:=by
 cases x
 case fn f cs=>cases cs <;> simp [Za9] at h;rfl
 all_goals first | (simp [Za9] at h;done) | rfl
theorem Zuw {ρ:Rho}:∀ {xs:List AVal},xs.all Za9=true->Zf ρ (xs.map Zbg)=xs.map Zbg
 | [],_=>rfl
 | x::xs,h=>by
  simp only [List.all_cons,Bool.and_eq_true] at h
  simp only [List.map_cons,Zf,Zvc h.1,Zuw h.2]
theorem Zwb {ρ:Rho} {x:AVal} (h:Zac x=true):Zm ρ (ZH x)=ZH x:=by
 rcases ZmT x with ⟨cs,rfl⟩ | hn
 ·simp only [Zac] at h
  simp only [ZH,Zm];rw [Zuw h]
 ·rw [(Zhk hn).1] at h
  rw [(Zhk hn).2];exact Zvc h
theorem Zdk {ρ:Rho}:∀ {xs:List AVal},xs.all Zac=true->Zf ρ (xs.map ZH)=xs.map ZH
 | [],_=>rfl
 | x::xs,h=>by
  simp only [List.all_cons,Bool.and_eq_true] at h
  simp only [List.map_cons,Zf,Zwb h.1,Zdk h.2]
theorem Zgz {O:ZR} {bf:Nat->Bool} {σ:Za} {sq f own:Nat} {view:Bool} {args:List AVal} (hb:bf f=false) (h:args.all Zac=true) :
  Zj O bf σ sq f own view args=ZaE σ σ [] [] sq own (Zaf view 0 (O f (args.map ZH) [])):=by
 unfold Zj Zb2
 rw [hb]
 simp only [Bool.false_eq_true,if_false,Zeb h]
 have h1:Zs σ []=σ:=rfl
 rw [h1,Zdp h]
 have h2:Zz σ 1000 [] []=[]:=rfl
 rw [h2]
 unfold ZbH
 simp only [List.all_nil,if_true,Zdk h,Zw,List.length_nil]
theorem Zjx (σ:Za) (sq own:Nat) (r:AVal) (h:Zm (ZaD [] [] sq) r=r):ZaE σ σ [] [] sq own (some (r,[]))=some (r,σ,{}):=by
 simp only [ZaE,List.isEmpty_nil,Bool.and_self,if_true,Zdv,Bool.not_true,Bool.false_and,Bool.false_eq_true,if_false]
 split
 ·rfl
 ·rw [h]
end
section
section
variable (ρ:Rho) (σ:Za)
theorem ZNN  : ZaM (.top)=false:=rfl
theorem ZKk  : ZaM (.any)=false:=rfl
theorem ZAv (k:IntKind) (n:Int):ZaM (.int k n)=false:=rfl
theorem Zxx (b:Bool):ZaM (.bool b)=false:=rfl
theorem ZJq (l:List UInt8):ZaM (.str l)=false:=rfl
theorem ZCi  : ZaM (.nilp)=false:=rfl
theorem ZHT (t:Nat) (o:Nat):ZaM (.ref t o)=false:=rfl
theorem ZOp (t:Nat) (g:Nat) (i:Nat) (o:Nat):ZaM (.eref t g i o)=false:=rfl
theorem ZLM (cs:List AVal) (o:Nat):ZaM (.iptr cs o)=false:=rfl
theorem Zz2 (x:Bool) (xs:List AVal):ZaM (.lst x xs)=false:=rfl
theorem ZEz (t:Nat) (g:Nat) (lo:Nat) (n:Nat):ZaM (.sl t g lo n)=false:=rfl
theorem ZFt (cs:List AVal):ZaM (.agg cs)=false:=rfl
theorem Zwn (vs:List AVal):ZaM (.tup vs)=false:=rfl
theorem ZHj (f:Nat) (caps:List AVal):ZaM (.fn f caps)=false:=rfl
theorem ZDi  : ZaM (.nilm)=false:=rfl
theorem ZOi (t:Nat):ZaM (.map t)=false:=rfl
theorem ZAL  : ZaM (.nili)=false:=rfl
theorem ZIS (t:Nat) (x:AVal):ZaM (.iface t x)=false:=rfl
theorem ZEK (x:AVal):ZaM (.pan x)=true:=rfl
theorem ZNk  : ZV (.top)=false:=rfl
theorem ZzY  : ZV (.any)=true:=rfl
theorem ZLQ (k:IntKind) (n:Int):ZV (.int k n)=true:=rfl
theorem ZI1 (b:Bool):ZV (.bool b)=true:=rfl
theorem ZPf (l:List UInt8):ZV (.str l)=true:=rfl
theorem ZMA  : ZV (.nilp)=true:=rfl
theorem ZCd (t:Nat) (o:Nat):ZV (.ref t o)=true:=rfl
theorem ZBN (t:Nat) (g:Nat) (i:Nat) (o:Nat):ZV (.eref t g i o)=true:=rfl
theorem ZKr (cs:List AVal) (o:Nat):ZV (.iptr cs o)=true:=rfl
theorem ZA0 (x:Bool) (xs:List AVal):ZV (.lst x xs)=true:=rfl
theorem ZCX (t:Nat) (g:Nat) (lo:Nat) (n:Nat):ZV (.sl t g lo n)=true:=rfl
theorem ZOU (cs:List AVal):ZV (.agg cs)=false:=rfl
theorem ZAk (vs:List AVal):ZV (.tup vs)=false:=rfl
theorem ZHR (f:Nat) (caps:List AVal):ZV (.fn f caps)=true:=rfl
theorem ZDF  : ZV (.nilm)=true:=rfl
theorem ZMK (t:Nat):ZV (.map t)=true:=rfl
theorem ZCs  : ZV (.nili)=true:=rfl
theorem ZOZ (t:Nat) (x:AVal):ZV (.iface t x)=true:=rfl
theorem ZOJ (x:AVal):ZV (.pan x)=false:=rfl
theorem Zwr  : Zbo (.top)=false:=rfl
theorem ZJF  : Zbo (.any)=true:=rfl
theorem ZOB (k:IntKind) (n:Int):Zbo (.int k n)=true:=rfl
theorem ZAY (b:Bool):Zbo (.bool b)=true:=rfl
theorem ZNb (l:List UInt8):Zbo (.str l)=true:=rfl
theorem ZNo  : Zbo (.nilp)=true:=rfl
theorem ZDE (t:Nat) (o:Nat):Zbo (.ref t o)=true:=rfl
theorem Zzh (t:Nat) (g:Nat) (i:Nat) (o:Nat):Zbo (.eref t g i o)=true:=rfl
theorem ZAx (cs:List AVal) (o:Nat):Zbo (.iptr cs o)=true:=rfl
theorem ZEa (x:Bool) (xs:List AVal):Zbo (.lst x xs)=true:=rfl
theorem ZFV (t:Nat) (g:Nat) (lo:Nat) (n:Nat):Zbo (.sl t g lo n)=true:=rfl
theorem ZIK (cs:List AVal):Zbo (.agg cs)=true:=rfl
theorem ZKD (vs:List AVal):Zbo (.tup vs)=true:=rfl
theorem ZJb (f:Nat) (caps:List AVal):Zbo (.fn f caps)=true:=rfl
theorem ZNH  : Zbo (.nilm)=true:=rfl
theorem ZGa (t:Nat):Zbo (.map t)=true:=rfl
theorem ZxI  : Zbo (.nili)=true:=rfl
theorem Zyh (t:Nat) (x:AVal):Zbo (.iface t x)=true:=rfl
theorem ZK5 (x:AVal):Zbo (.pan x)=true:=rfl
theorem ZBC  : ZaY (.top)=false:=rfl
theorem ZOj  : ZaY (.any)=false:=rfl
theorem ZIT (k:IntKind) (n:Int):ZaY (.int k n)=true:=rfl
theorem ZCu (b:Bool):ZaY (.bool b)=true:=rfl
theorem Zx9 (l:List UInt8):ZaY (.str l)=true:=rfl
theorem ZJt  : ZaY (.nilp)=true:=rfl
theorem Zym (t:Nat) (o:Nat):ZaY (.ref t o)=false:=rfl
theorem ZFA (t:Nat) (g:Nat) (i:Nat) (o:Nat):ZaY (.eref t g i o)=false:=rfl
theorem ZHB (cs:List AVal) (o:Nat):ZaY (.iptr cs o)=false:=rfl
theorem ZEr (x:Bool) (xs:List AVal):ZaY (.lst x xs)=false:=rfl
theorem ZGk (t:Nat) (g:Nat) (lo:Nat) (n:Nat):ZaY (.sl t g lo n)=false:=rfl
theorem ZFr (cs:List AVal):ZaY (.agg cs)=false:=rfl
theorem ZOn (vs:List AVal):ZaY (.tup vs)=false:=rfl
theorem ZyP (f:Nat) (caps:List AVal):ZaY (.fn f caps)=false:=rfl
theorem ZIv  : ZaY (.nilm)=true:=rfl
theorem ZDW (t:Nat):ZaY (.map t)=false:=rfl
theorem ZGo  : ZaY (.nili)=true:=rfl
theorem ZGM (t:Nat) (x:AVal):ZaY (.iface t x)=false:=rfl
theorem ZOz (x:AVal):ZaY (.pan x)=false:=rfl
theorem ZGd  : Zbx (.top)=false:=rfl
theorem ZLk  : Zbx (.any)=false:=rfl
theorem ZIV (k:IntKind) (n:Int):Zbx (.int k n)=true:=rfl
theorem ZG8 (b:Bool):Zbx (.bool b)=true:=rfl
theorem ZLA (l:List UInt8):Zbx (.str l)=true:=rfl
theorem ZD0  : Zbx (.nilp)=true:=rfl
theorem ZxK (t:Nat) (o:Nat):Zbx (.ref t o)=false:=rfl
theorem ZPi (t:Nat) (g:Nat) (i:Nat) (o:Nat):Zbx (.eref t g i o)=false:=rfl
theorem ZEk (cs:List AVal) (o:Nat):Zbx (.iptr cs o)=false:=rfl
theorem ZMh (x:Bool) (xs:List AVal):Zbx (.lst x xs)=false:=rfl
theorem ZJ9 (t:Nat) (g:Nat) (lo:Nat) (n:Nat):Zbx (.sl t g lo n)=false:=rfl
theorem Zxv (cs:List AVal):Zbx (.agg cs)=cs.all ZaY:=rfl
theorem ZDM (vs:List AVal):Zbx (.tup vs)=false:=rfl
theorem ZA5 (f:Nat) (caps:List AVal):Zbx (.fn f caps)=false:=rfl
theorem ZJH  : Zbx (.nilm)=true:=rfl
theorem Zyo (t:Nat):Zbx (.map t)=false:=rfl
theorem ZJU  : Zbx (.nili)=true:=rfl
theorem ZOV (t:Nat) (x:AVal):Zbx (.iface t x)=false:=rfl
theorem ZM8 (x:AVal):Zbx (.pan x)=false:=rfl
theorem ZEX  : ZbG (.top)=false:=rfl
theorem Zxr  : ZbG (.any)=false:=rfl
theorem ZBI (k:IntKind) (n:Int):ZbG (.int k n)=true:=rfl
theorem ZHr (b:Bool):ZbG (.bool b)=true:=rfl
theorem ZJV (l:List UInt8):ZbG (.str l)=true:=rfl
theorem ZL1  : ZbG (.nilp)=true:=rfl
theorem ZJx (t:Nat) (o:Nat):ZbG (.ref t o)=false:=rfl
theorem ZLI (t:Nat) (g:Nat) (i:Nat) (o:Nat):ZbG (.eref t g i o)=false:=rfl
theorem ZD8 (cs:List AVal) (o:Nat):ZbG (.iptr cs o)=false:=rfl
theorem ZzU (x:Bool) (xs:List AVal):ZbG (.lst x xs)=false:=rfl
theorem ZKy (t:Nat) (g:Nat) (lo:Nat) (n:Nat):ZbG (.sl t g lo n)=false:=rfl
theorem ZxY (cs:List AVal):ZbG (.agg cs)=cs.all ZaY:=rfl
theorem ZFH (vs:List AVal):ZbG (.tup vs)=vs.all Zbx:=rfl
theorem ZKE (f:Nat) (caps:List AVal):ZbG (.fn f caps)=false:=rfl
theorem ZI9  : ZbG (.nilm)=true:=rfl
theorem ZwZ (t:Nat):ZbG (.map t)=false:=rfl
theorem ZAQ  : ZbG (.nili)=true:=rfl
theorem ZEm (t:Nat) (x:AVal):ZbG (.iface t x)=false:=rfl
theorem ZET  : Za9 (.top)=false:=rfl
theorem Zwu  : Za9 (.any)=false:=rfl
theorem ZsI (k:IntKind) (n:Int):Za9 (.int k n)=true:=rfl
theorem ZCz (b:Bool):Za9 (.bool b)=true:=rfl
theorem Zva (l:List UInt8):Za9 (.str l)=true:=rfl
theorem Zzb  : Za9 (.nilp)=true:=rfl
theorem ZHa (t:Nat) (o:Nat):Za9 (.ref t o)=false:=rfl
theorem Zy2 (t:Nat) (g:Nat) (i:Nat) (o:Nat):Za9 (.eref t g i o)=false:=rfl
theorem ZzB (cs:List AVal) (o:Nat):Za9 (.iptr cs o)=false:=rfl
theorem Zwe (x:Bool) (xs:List AVal):Za9 (.lst x xs)=true:=rfl
theorem ZNJ (t:Nat) (g:Nat) (lo:Nat) (n:Nat):Za9 (.sl t g lo n)=false:=rfl
theorem ZNr (cs:List AVal):Za9 (.agg cs)=false:=rfl
theorem ZNq (vs:List AVal):Za9 (.tup vs)=false:=rfl
theorem ZB0  : Za9 (.nilm)=true:=rfl
theorem ZHF (t:Nat):Za9 (.map t)=false:=rfl
theorem ZBb  : Za9 (.nili)=true:=rfl
theorem ZA8 (t:Nat) (x:AVal):Za9 (.iface t x)=false:=rfl
theorem ZKs (x:AVal):Za9 (.pan x)=false:=rfl
theorem ZBc  : Zac (.top)=false:=rfl
theorem ZLS  : Zac (.any)=false:=rfl
theorem ZCY (k:IntKind) (n:Int):Zac (.int k n)=true:=rfl
theorem ZxL (b:Bool):Zac (.bool b)=true:=rfl
theorem ZDd (l:List UInt8):Zac (.str l)=true:=rfl
theorem ZIO  : Zac (.nilp)=true:=rfl
theorem ZLJ (t:Nat) (o:Nat):Zac (.ref t o)=false:=rfl
theorem ZHP (t:Nat) (g:Nat) (i:Nat) (o:Nat):Zac (.eref t g i o)=false:=rfl
theorem Zy0 (cs:List AVal) (o:Nat):Zac (.iptr cs o)=false:=rfl
theorem ZHs (x:Bool) (xs:List AVal):Zac (.lst x xs)=true:=rfl
theorem ZLF (t:Nat) (g:Nat) (lo:Nat) (n:Nat):Zac (.sl t g lo n)=false:=rfl
theorem ZsM (cs:List AVal):Zac (.agg cs)=cs.all Za9:=rfl
theorem ZwO (vs:List AVal):Zac (.tup vs)=false:=rfl
theorem ZKg  : Zac (.nilm)=true:=rfl
theorem ZJy (t:Nat):Zac (.map t)=false:=rfl
theorem ZHw  : Zac (.nili)=true:=rfl
theorem ZAh (t:Nat) (x:AVal):Zac (.iface t x)=false:=rfl
theorem ZO3 (x:AVal):Zac (.pan x)=false:=rfl
theorem ZFG  : Zbg (.top)=(.top):=rfl
theorem ZKt  : Zbg (.any)=(.any):=rfl
theorem Zul (k:IntKind) (n:Int):Zbg (.int k n)=(.int k n):=rfl
theorem ZxJ (b:Bool):Zbg (.bool b)=(.bool b):=rfl
theorem ZqP (l:List UInt8):Zbg (.str l)=(.str l):=rfl
theorem ZBf  : Zbg (.nilp)=(.nilp):=rfl
theorem ZBj (t:Nat) (o:Nat):Zbg (.ref t o)=(.ref t o):=rfl
theorem ZCv (t:Nat) (g:Nat) (i:Nat) (o:Nat):Zbg (.eref t g i o)=(.eref t g i o):=rfl
theorem ZIC (cs:List AVal) (o:Nat):Zbg (.iptr cs o)=(.iptr cs o):=rfl
theorem ZsK (x:Bool) (xs:List AVal):Zbg (.lst x xs)=.lst false xs:=rfl
theorem ZAJ (t:Nat) (g:Nat) (lo:Nat) (n:Nat):Zbg (.sl t g lo n)=(.sl t g lo n):=rfl
theorem ZIE (cs:List AVal):Zbg (.agg cs)=(.agg cs):=rfl
theorem ZHu (vs:List AVal):Zbg (.tup vs)=(.tup vs):=rfl
theorem ZNf (f:Nat) (caps:List AVal):Zbg (.fn f caps)=(.fn f caps):=rfl
theorem Zz0  : Zbg (.nilm)=(.nilm):=rfl
theorem ZBq (t:Nat):Zbg (.map t)=(.map t):=rfl
theorem ZGh  : Zbg (.nili)=(.nili):=rfl
theorem ZHD (t:Nat) (x:AVal):Zbg (.iface t x)=(.iface t x):=rfl
theorem ZFT (x:AVal):Zbg (.pan x)=(.pan x):=rfl
theorem ZHG  : ZH (.top)=(.top):=rfl
theorem ZLg  : ZH (.any)=(.any):=rfl
theorem ZOY (k:IntKind) (n:Int):ZH (.int k n)=(.int k n):=rfl
theorem ZxS (b:Bool):ZH (.bool b)=(.bool b):=rfl
theorem ZKb (l:List UInt8):ZH (.str l)=(.str l):=rfl
theorem ZIz  : ZH (.nilp)=(.nilp):=rfl
theorem ZMB (t:Nat) (o:Nat):ZH (.ref t o)=(.ref t o):=rfl
theorem ZxB (t:Nat) (g:Nat) (i:Nat) (o:Nat):ZH (.eref t g i o)=(.eref t g i o):=rfl
theorem ZD1 (cs:List AVal) (o:Nat):ZH (.iptr cs o)=(.iptr cs o):=rfl
theorem ZwS (x:Bool) (xs:List AVal):ZH (.lst x xs)=.lst false xs:=rfl
theorem ZEC (t:Nat) (g:Nat) (lo:Nat) (n:Nat):ZH (.sl t g lo n)=(.sl t g lo n):=rfl
theorem Zuq (cs:List AVal):ZH (.agg cs)=.agg (cs.map Zbg):=rfl
theorem ZNx (vs:List AVal):ZH (.tup vs)=(.tup vs):=rfl
theorem ZAA (f:Nat) (caps:List AVal):ZH (.fn f caps)=(.fn f caps):=rfl
theorem ZLG  : ZH (.nilm)=(.nilm):=rfl
theorem ZyS (t:Nat):ZH (.map t)=(.map t):=rfl
theorem ZBx  : ZH (.nili)=(.nili):=rfl
theorem ZA3 (t:Nat) (x:AVal):ZH (.iface t x)=(.iface t x):=rfl
theorem ZAV (x:AVal):ZH (.pan x)=(.pan x):=rfl
theorem Zxl  : AVal.cells (.top)=[(.top)]:=rfl
theorem ZCy  : AVal.cells (.any)=[(.any)]:=rfl
theorem ZyL (k:IntKind) (n:Int):AVal.cells (.int k n)=[(.int k n)]:=rfl
theorem ZAM (b:Bool):AVal.cells (.bool b)=[(.bool b)]:=rfl
theorem ZOx (l:List UInt8):AVal.cells (.str l)=[(.str l)]:=rfl
theorem ZMQ  : AVal.cells (.nilp)=[(.nilp)]:=rfl
theorem ZGA (t:Nat) (o:Nat):AVal.cells (.ref t o)=[(.ref t o)]:=rfl
theorem ZGF (t:Nat) (g:Nat) (i:Nat) (o:Nat):AVal.cells (.eref t g i o)=[(.eref t g i o)]:=rfl
theorem ZCp (cs:List AVal) (o:Nat):AVal.cells (.iptr cs o)=[(.iptr cs o)]:=rfl
theorem ZLo (x:Bool) (xs:List AVal):AVal.cells (.lst x xs)=[(.lst x xs)]:=rfl
theorem ZFN (t:Nat) (g:Nat) (lo:Nat) (n:Nat):AVal.cells (.sl t g lo n)=[(.sl t g lo n)]:=rfl
theorem ZJh (cs:List AVal):AVal.cells (.agg cs)=cs:=rfl
theorem ZxN (vs:List AVal):AVal.cells (.tup vs)=[(.tup vs)]:=rfl
theorem ZCF (f:Nat) (caps:List AVal):AVal.cells (.fn f caps)=[(.fn f caps)]:=rfl
theorem ZHH  : AVal.cells (.nilm)=[(.nilm)]:=rfl
theorem ZNy (t:Nat):AVal.cells (.map t)=[(.map t)]:=rfl
theorem ZzZ  : AVal.cells (.nili)=[(.nili)]:=rfl
theorem ZEM (t:Nat) (x:AVal):AVal.cells (.iface t x)=[(.iface t x)]:=rfl
theorem ZNa (x:AVal):AVal.cells (.pan x)=[(.pan x)]:=rfl
theorem Zzr  : ZaS (.top)=(.top):=rfl
theorem Zzf  : ZaS (.any)=(.any):=rfl
theorem ZHZ (k:IntKind) (n:Int):ZaS (.int k n)=(.int k n):=rfl
theorem ZHM (b:Bool):ZaS (.bool b)=(.bool b):=rfl
theorem ZzI (l:List UInt8):ZaS (.str l)=(.str l):=rfl
theorem ZzO  : ZaS (.nilp)=(.nilp):=rfl
theorem ZDc (t:Nat) (o:Nat):ZaS (.ref t o)=(.ref t o):=rfl
theorem ZOu (t:Nat) (g:Nat) (i:Nat) (o:Nat):ZaS (.eref t g i o)=(.eref t g i o):=rfl
theorem ZJK (cs:List AVal) (o:Nat):ZaS (.iptr cs o)=(.iptr cs o):=rfl
theorem ZHC (x:Bool) (xs:List AVal):ZaS (.lst x xs)=(.lst x xs):=rfl
theorem ZCW (t:Nat) (g:Nat) (lo:Nat) (n:Nat):ZaS (.sl t g lo n)=(.sl t g lo n):=rfl
theorem ZCe (cs:List AVal):ZaS (.agg cs)=(.agg cs):=rfl
theorem ZCm (vs:List AVal):ZaS (.tup vs)=(.tup vs):=rfl
theorem ZDq (f:Nat) (caps:List AVal):ZaS (.fn f caps)=(.fn f caps):=rfl
theorem ZNj  : ZaS (.nilm)=(.nilm):=rfl
theorem ZLZ (t:Nat):ZaS (.map t)=(.map t):=rfl
theorem ZxH  : ZaS (.nili)=(.nili):=rfl
theorem ZN4 (t:Nat) (x:AVal):ZaS (.iface t x)=(.iface t x):=rfl
theorem ZDU (x:AVal):ZaS (.pan x)=x:=rfl
theorem ZE8  : Zb1 (.top)=4:=rfl
theorem ZE9  : Zb1 (.any)=4:=rfl
theorem ZMO (k:IntKind) (n:Int):Zb1 (.int k n)=0:=rfl
theorem ZEN (b:Bool):Zb1 (.bool b)=1:=rfl
theorem ZO4 (l:List UInt8):Zb1 (.str l)=2:=rfl
theorem ZAd  : Zb1 (.nilp)=4:=rfl
theorem ZxV (t:Nat) (o:Nat):Zb1 (.ref t o)=4:=rfl
theorem ZKW (t:Nat) (g:Nat) (i:Nat) (o:Nat):Zb1 (.eref t g i o)=4:=rfl
theorem ZFU (cs:List AVal) (o:Nat):Zb1 (.iptr cs o)=4:=rfl
theorem ZMZ (x:Bool) (xs:List AVal):Zb1 (.lst x xs)=4:=rfl
theorem ZM7 (t:Nat) (g:Nat) (lo:Nat) (n:Nat):Zb1 (.sl t g lo n)=4:=rfl
theorem Zys (cs:List AVal):Zb1 (.agg cs)=4:=rfl
theorem ZMW (vs:List AVal):Zb1 (.tup vs)=4:=rfl
theorem ZCS (f:Nat) (caps:List AVal):Zb1 (.fn f caps)=4:=rfl
theorem ZLH  : Zb1 (.nilm)=4:=rfl
theorem ZNu (t:Nat):Zb1 (.map t)=4:=rfl
theorem ZE1  : Zb1 (.nili)=4:=rfl
theorem ZDk (t:Nat) (x:AVal):Zb1 (.iface t x)=4:=rfl
theorem ZCU (x:AVal):Zb1 (.pan x)=4:=rfl
theorem Zwi  : Z2 (.top)=[]:=rfl
theorem ZAF  : Z2 (.any)=[]:=rfl
theorem ZI5 (k:IntKind) (n:Int):Z2 (.int k n)=[]:=rfl
theorem ZCH (b:Bool):Z2 (.bool b)=[]:=rfl
theorem ZF5 (l:List UInt8):Z2 (.str l)=[]:=rfl
theorem ZDg  : Z2 (.nilp)=[]:=rfl
theorem ZFb (t:Nat) (o:Nat):Z2 (.ref t o)=[t]:=rfl
theorem ZH8 (t:Nat) (g:Nat) (i:Nat) (o:Nat):Z2 (.eref t g i o)=[t]:=rfl
theorem ZDl (cs:List AVal) (o:Nat):Z2 (.iptr cs o)=[]:=rfl
theorem ZLE (x:Bool) (xs:List AVal):Z2 (.lst x xs)=[]:=rfl
theorem ZJB (t:Nat) (g:Nat) (lo:Nat) (n:Nat):Z2 (.sl t g lo n)=[t]:=rfl
theorem Zw0 (cs:List AVal):Z2 (.agg cs)=Zt cs:=rfl
theorem ZFd (vs:List AVal):Z2 (.tup vs)=Zt vs:=rfl
theorem ZyX (f:Nat) (caps:List AVal):Z2 (.fn f caps)=Zt caps:=rfl
theorem Zw3  : Z2 (.nilm)=[]:=rfl
theorem ZOb (t:Nat):Z2 (.map t)=[t]:=rfl
theorem ZzK  : Z2 (.nili)=[]:=rfl
theorem ZNU (t:Nat) (x:AVal):Z2 (.iface t x)=Z2 x:=rfl
theorem ZGe (x:AVal):Z2 (.pan x)=Z2 x:=rfl
theorem ZC0  : Zm ρ (.top)=(.top):=rfl
theorem ZNz  : Zm ρ (.any)=(.any):=rfl
theorem Zy7 (k:IntKind) (n:Int):Zm ρ (.int k n)=(.int k n):=rfl
theorem ZyT (b:Bool):Zm ρ (.bool b)=(.bool b):=rfl
theorem ZCO (l:List UInt8):Zm ρ (.str l)=(.str l):=rfl
theorem ZHk  : Zm ρ (.nilp)=(.nilp):=rfl
theorem ZJO (cs:List AVal) (o:Nat):Zm ρ (.iptr cs o)=(.iptr cs o):=rfl
theorem ZwD (x:Bool) (xs:List AVal):Zm ρ (.lst x xs)=(.lst x xs):=rfl
theorem ZIN (cs:List AVal):Zm ρ (.agg cs)=.agg (Zf ρ cs):=rfl
theorem ZKi (vs:List AVal):Zm ρ (.tup vs)=.tup (Zf ρ vs):=rfl
theorem ZzW (f:Nat) (caps:List AVal):Zm ρ (.fn f caps)=.fn f (Zf ρ caps):=rfl
theorem ZHc  : Zm ρ (.nilm)=(.nilm):=rfl
theorem ZwL  : Zm ρ (.nili)=(.nili):=rfl
theorem ZFp (t:Nat) (x:AVal):Zm ρ (.iface t x)=.iface t (Zm ρ x):=rfl
theorem ZKY (x:AVal):Zm ρ (.pan x)=.pan (Zm ρ x):=rfl
theorem ZHJ (f:Nat):Za9 (.fn f [])=true:=rfl
theorem ZBA (f:Nat):Zac (.fn f [])=true:=rfl
theorem ZCo (t:Nat) (x:AVal):ZbG (.pan (.iface t x))=ZaY x:=rfl
theorem Zyx (live:List Nat) (tm:Tms):Zkp live (some (tm,σ,none))=some (.normal,keepL live tm,σ):=rfl
theorem ZDu (live:List Nat) (tm:Tms) (x:AVal):Zkp live (some (tm,σ,some x))=some (.panic x,[],σ):=rfl
theorem ZOg (live:List Nat):Zkp live none=none:=rfl
theorem ZJG (t o:Nat):Zm ρ (.ref t o)=(match ρ t 0 with | some (t',0)=>.ref t' o | _=>.any):=rfl
theorem ZIx (t:Nat):Zm ρ (.map t)=(match ρ t 0 with | some (t',0)=>.map t' | _=>.any):=rfl
theorem ZG0 (t g lo n:Nat):Zm ρ (.sl t g lo n)=(match ρ t g with | some (t',g')=>.sl t' g' lo n | none=>.any):=rfl
theorem ZNQ (t g i o:Nat):Zm ρ (.eref t g i o)=(match ρ t g with | some (t',g')=>.eref t' g' i o | none=>.any):=rfl
theorem ZyA:Zt []=[]:=rfl
theorem ZLj (x:AVal) (xs:List AVal):Zt (x::xs)=Z2 x++Zt xs:=rfl
theorem ZL3:Zf ρ []=[]:=rfl
theorem Zyw (x:AVal) (xs:List AVal):Zf ρ (x::xs)=Zm ρ x::Zf ρ xs:=rfl
end
end
section
mutual
def ZJ:AVal->Bool
 | .ref _ _=>false
 | .eref _ _ _ _=>false
 | .sl _ _ _ _=>false
 | .map _=>false
 | .agg cs=>Zd cs
 | .tup vs=>Zd vs
 | .fn _ vs=>Zd vs
 | .iface _ x=>ZJ x
 | .pan x=>ZJ x
 | .top=>true
 | .any=>true
 | .int _ _=>true
 | .bool _=>true
 | .str _=>true
 | .nilp=>true
 | .nilm=>true
 | .nili=>true
 | .iptr _ _=>true
 | .lst _ _=>true
def Zd:List AVal->Bool
 | []=>true
 | x::xs=>ZJ x && Zd xs
end
mutual
theorem Za5 (ρ:Rho):∀ (x:AVal),ZJ x=true->Zm ρ x=x/\Z2 x=[]
 | .ref _ _,h=>by simp [ZJ] at h
 | .eref _ _ _ _,h=>by simp [ZJ] at h
 | .sl _ _ _ _,h=>by simp [ZJ] at h
 | .map _,h=>by simp [ZJ] at h
 | .agg cs,h=>by have:=ZaP ρ cs (by simpa only [ZJ] using h);exact ⟨by simp only [Zm,this.1],by simp only [Z2,this.2]⟩
 | .tup cs,h=>by have:=ZaP ρ cs (by simpa only [ZJ] using h);exact ⟨by simp only [Zm,this.1],by simp only [Z2,this.2]⟩
 | .fn f cs,h=>by have:=ZaP ρ cs (by simpa only [ZJ] using h);exact ⟨by simp only [Zm,this.1],by simp only [Z2,this.2]⟩
 | .iface t x,h=>by have:=Za5 ρ x (by simpa only [ZJ] using h);exact ⟨by simp only [Zm,this.1],by simp only [Z2,this.2]⟩
 | .pan x,h=>by have:=Za5 ρ x (by simpa only [ZJ] using h);exact ⟨by simp only [Zm,this.1],by simp only [Z2,this.2]⟩
 | .top,_=>⟨rfl,rfl⟩
 | .any,_=>⟨rfl,rfl⟩
 | .int _ _,_=>⟨rfl,rfl⟩
 | .bool _,_=>⟨rfl,rfl⟩
 | .str _,_=>⟨rfl,rfl⟩
 | .nilp,_=>⟨rfl,rfl⟩
 | .nilm,_=>⟨rfl,rfl⟩
 | .nili,_=>⟨rfl,rfl⟩
 | .iptr _ _,_=>⟨rfl,rfl⟩
 | .lst _ _,_=>⟨rfl,rfl⟩
theorem ZaP (ρ:Rho):∀ (xs:List AVal),Zd xs=true->Zf ρ xs=xs/\Zt xs=[]
 | [],_=>⟨rfl,rfl⟩
 | x::xs,h=>by
  simp only [Zd,Bool.and_eq_true] at h
  have h1:=Za5 ρ x h.1
  have h2:=ZaP ρ xs h.2
  exact ⟨by simp only [Zf,h1.1,h2.1],by simp only [Zt,h1.2,h2.2,List.append_nil]⟩
end
theorem Zq1 {σ:Za} {r:AVal} (h:ZJ r=true):Zak 0 σ r=some (r,[]):=by
 have h1:=Za5 (Zo σ 0 []) r h
 have hids:ZB 0 [r] σ=[]:=by
  unfold ZB
  simp only [Zt,h1.2,List.append_nil,List.range_zero,List.flatMap_nil]
  rfl
 unfold Zak gcA
 simp only [hids,Zf,Zw,h1.1]
def Zcj:AVal->AVal
 | .tup vs=>.tup (vs.map ZH)
 | x=>ZH x
def Zcf:AVal->Bool
 | .tup vs=>vs.all Zac
 | x=>Zac x
def ZbP:AVal->Bool
 | .fn _ _=>false
 | _=>true
def ZbT:AVal->Bool
 | .agg cs=>cs.all ZbP
 | x=>ZbP x
def Zcl:AVal->Bool
 | .tup vs=>vs.all ZbT
 | x=>ZbT x
theorem ZG1 {k g n:Nat} {xs:List AVal} {σ:Za} {t:Nat} (hs:σ[t]?=some (.row g k xs)) (hn:n<=xs.length):ZbJ 0 (some (.sl t g 0 n,σ))=some (.lst false (xs.take n),[]):=by
 have hv:viewR σ (.sl t g 0 n)=some (.lst false (xs.take n),[t]):=by
  simp only [viewR,ZS,ZN,Z0,hs,Nat.zero_add,hn,and_self,if_true,List.drop_zero]
 have e:ZbJ 0 (some (.sl t g 0 n,σ))=(match viewR σ (.sl t g 0 n) with
  | some (r',ts)=>match gcA 0 [r'] (Zs σ ts) with
   | ([r''],σ')=>some (r'',σ')
   | _=>none
  | none=>none):=rfl
 rw [e,hv]
 exact Zq1 rfl
theorem Zxs {m:Nat} {fn:ZE} {tm:Tms} {σ:Za}:Zap m fn (some (.ret,tm,σ))=match resA tm σ fn.res with
  | some r=>Zak m σ r
  | none=>none:=rfl
theorem ZLs {m:Nat} {fn:ZE} {tm:Tms} {σ:Za}:Zap m fn (some (.normal,tm,σ))=match resA tm σ fn.res with
  | some r=>Zak m σ r
  | none=>none:=rfl
theorem ZJa {m:Nat} {fn:ZE} {tm:Tms} {σ:Za} {x:AVal}:Zap m fn (some (.panic x,tm,σ))=Zak m σ (.pan x):=rfl
theorem ZNp  : ZJ (.top)=true:=rfl
theorem ZOs  : ZJ (.any)=true:=rfl
theorem ZA7 (k:IntKind) (n:Int):ZJ (.int k n)=true:=rfl
theorem ZPh (b:Bool):ZJ (.bool b)=true:=rfl
theorem ZNI (l:List UInt8):ZJ (.str l)=true:=rfl
theorem ZDN  : ZJ (.nilp)=true:=rfl
theorem ZA6 (t:Nat) (o:Nat):ZJ (.ref t o)=false:=rfl
theorem ZJN (t:Nat) (g:Nat) (i:Nat) (o:Nat):ZJ (.eref t g i o)=false:=rfl
theorem ZAn (cs:List AVal) (o:Nat):ZJ (.iptr cs o)=true:=rfl
theorem ZEG (x:Bool) (xs:List AVal):ZJ (.lst x xs)=true:=rfl
theorem ZyD (t:Nat) (g:Nat) (lo:Nat) (n:Nat):ZJ (.sl t g lo n)=false:=rfl
theorem ZOX (cs:List AVal):ZJ (.agg cs)=Zd cs:=rfl
theorem ZD2 (vs:List AVal):ZJ (.tup vs)=Zd vs:=rfl
theorem ZGp (f:Nat) (caps:List AVal):ZJ (.fn f caps)=Zd caps:=rfl
theorem ZGB  : ZJ (.nilm)=true:=rfl
theorem ZOE (t:Nat):ZJ (.map t)=false:=rfl
theorem ZJk  : ZJ (.nili)=true:=rfl
theorem ZLh (t:Nat) (x:AVal):ZJ (.iface t x)=ZJ x:=rfl
theorem Zy5 (x:AVal):ZJ (.pan x)=ZJ x:=rfl
theorem ZAO  : ZbP (.top)=true:=rfl
theorem ZCD  : ZbP (.any)=true:=rfl
theorem ZMP (k:IntKind) (n:Int):ZbP (.int k n)=true:=rfl
theorem ZzD (b:Bool):ZbP (.bool b)=true:=rfl
theorem ZBu (l:List UInt8):ZbP (.str l)=true:=rfl
theorem Zw2  : ZbP (.nilp)=true:=rfl
theorem ZE0 (t:Nat) (o:Nat):ZbP (.ref t o)=true:=rfl
theorem Zzk (t:Nat) (g:Nat) (i:Nat) (o:Nat):ZbP (.eref t g i o)=true:=rfl
theorem Zx0 (cs:List AVal) (o:Nat):ZbP (.iptr cs o)=true:=rfl
theorem ZBP (x:Bool) (xs:List AVal):ZbP (.lst x xs)=true:=rfl
theorem ZOA (t:Nat) (g:Nat) (lo:Nat) (n:Nat):ZbP (.sl t g lo n)=true:=rfl
theorem ZBh (cs:List AVal):ZbP (.agg cs)=true:=rfl
theorem ZBU (vs:List AVal):ZbP (.tup vs)=true:=rfl
theorem ZIH (f:Nat) (caps:List AVal):ZbP (.fn f caps)=false:=rfl
theorem ZOQ  : ZbP (.nilm)=true:=rfl
theorem ZFw (t:Nat):ZbP (.map t)=true:=rfl
theorem ZDL  : ZbP (.nili)=true:=rfl
theorem ZN8 (t:Nat) (x:AVal):ZbP (.iface t x)=true:=rfl
theorem ZOW (x:AVal):ZbP (.pan x)=true:=rfl
theorem ZJd  : ZbT (.top)=true:=rfl
theorem ZF0  : ZbT (.any)=true:=rfl
theorem ZCk (k:IntKind) (n:Int):ZbT (.int k n)=true:=rfl
theorem Zzw (b:Bool):ZbT (.bool b)=true:=rfl
theorem ZGt (l:List UInt8):ZbT (.str l)=true:=rfl
theorem ZB3  : ZbT (.nilp)=true:=rfl
theorem ZJI (t:Nat) (o:Nat):ZbT (.ref t o)=true:=rfl
theorem ZNn (t:Nat) (g:Nat) (i:Nat) (o:Nat):ZbT (.eref t g i o)=true:=rfl
theorem ZIl (cs:List AVal) (o:Nat):ZbT (.iptr cs o)=true:=rfl
theorem ZwJ (x:Bool) (xs:List AVal):ZbT (.lst x xs)=true:=rfl
theorem Zzi (t:Nat) (g:Nat) (lo:Nat) (n:Nat):ZbT (.sl t g lo n)=true:=rfl
theorem ZGi (cs:List AVal):ZbT (.agg cs)=cs.all ZbP:=rfl
theorem ZNY (vs:List AVal):ZbT (.tup vs)=true:=rfl
theorem ZFh (f:Nat) (caps:List AVal):ZbT (.fn f caps)=false:=rfl
theorem ZwM  : ZbT (.nilm)=true:=rfl
theorem ZLx (t:Nat):ZbT (.map t)=true:=rfl
theorem ZDR  : ZbT (.nili)=true:=rfl
theorem Zwv (t:Nat) (x:AVal):ZbT (.iface t x)=true:=rfl
theorem ZPb (x:AVal):ZbT (.pan x)=true:=rfl
theorem ZFk  : Zcl (.top)=true:=rfl
theorem ZMR  : Zcl (.any)=true:=rfl
theorem Zzd (k:IntKind) (n:Int):Zcl (.int k n)=true:=rfl
theorem ZzM (b:Bool):Zcl (.bool b)=true:=rfl
theorem ZG2 (l:List UInt8):Zcl (.str l)=true:=rfl
theorem ZOH  : Zcl (.nilp)=true:=rfl
theorem ZDY (t:Nat) (o:Nat):Zcl (.ref t o)=true:=rfl
theorem ZJn (t:Nat) (g:Nat) (i:Nat) (o:Nat):Zcl (.eref t g i o)=true:=rfl
theorem ZNO (cs:List AVal) (o:Nat):Zcl (.iptr cs o)=true:=rfl
theorem ZNs (x:Bool) (xs:List AVal):Zcl (.lst x xs)=true:=rfl
theorem ZIs (t:Nat) (g:Nat) (lo:Nat) (n:Nat):Zcl (.sl t g lo n)=true:=rfl
theorem Zzm (cs:List AVal):Zcl (.agg cs)=cs.all ZbP:=rfl
theorem ZFu (vs:List AVal):Zcl (.tup vs)=vs.all ZbT:=rfl
theorem Zxd (f:Nat) (caps:List AVal):Zcl (.fn f caps)=false:=rfl
theorem ZIP  : Zcl (.nilm)=true:=rfl
theorem ZLv (t:Nat):Zcl (.map t)=true:=rfl
theorem ZMM  : Zcl (.nili)=true:=rfl
theorem ZFv (t:Nat) (x:AVal):Zcl (.iface t x)=true:=rfl
theorem ZJD (x:AVal):Zcl (.pan x)=true:=rfl
theorem ZK2  : Zcf (.top)=false:=rfl
theorem ZJR  : Zcf (.any)=false:=rfl
theorem ZHg (k:IntKind) (n:Int):Zcf (.int k n)=true:=rfl
theorem ZxM (b:Bool):Zcf (.bool b)=true:=rfl
theorem ZGc (l:List UInt8):Zcf (.str l)=true:=rfl
theorem ZNS  : Zcf (.nilp)=true:=rfl
theorem ZER (t:Nat) (o:Nat):Zcf (.ref t o)=false:=rfl
theorem ZJp (t:Nat) (g:Nat) (i:Nat) (o:Nat):Zcf (.eref t g i o)=false:=rfl
theorem ZM6 (cs:List AVal) (o:Nat):Zcf (.iptr cs o)=false:=rfl
theorem ZEg (x:Bool) (xs:List AVal):Zcf (.lst x xs)=true:=rfl
theorem ZKC (t:Nat) (g:Nat) (lo:Nat) (n:Nat):Zcf (.sl t g lo n)=false:=rfl
theorem ZKv (cs:List AVal):Zcf (.agg cs)=cs.all Za9:=rfl
theorem ZBO (vs:List AVal):Zcf (.tup vs)=vs.all Zac:=rfl
theorem ZCQ  : Zcf (.nilm)=true:=rfl
theorem ZDf (t:Nat):Zcf (.map t)=false:=rfl
theorem Zxk  : Zcf (.nili)=true:=rfl
theorem ZGr (t:Nat) (x:AVal):Zcf (.iface t x)=false:=rfl
theorem ZFK (x:AVal):Zcf (.pan x)=false:=rfl
theorem ZDy  : Zcj (.top)=(.top):=rfl
theorem ZJM  : Zcj (.any)=(.any):=rfl
theorem ZHh (k:IntKind) (n:Int):Zcj (.int k n)=(.int k n):=rfl
theorem ZGQ (b:Bool):Zcj (.bool b)=(.bool b):=rfl
theorem ZCL (l:List UInt8):Zcj (.str l)=(.str l):=rfl
theorem ZOa  : Zcj (.nilp)=(.nilp):=rfl
theorem ZJc (t:Nat) (o:Nat):Zcj (.ref t o)=(.ref t o):=rfl
theorem ZAt (t:Nat) (g:Nat) (i:Nat) (o:Nat):Zcj (.eref t g i o)=(.eref t g i o):=rfl
theorem ZGj (cs:List AVal) (o:Nat):Zcj (.iptr cs o)=(.iptr cs o):=rfl
theorem Zwy (x:Bool) (xs:List AVal):Zcj (.lst x xs)=.lst false xs:=rfl
theorem ZIk (t:Nat) (g:Nat) (lo:Nat) (n:Nat):Zcj (.sl t g lo n)=(.sl t g lo n):=rfl
theorem Zxg (cs:List AVal):Zcj (.agg cs)=.agg (cs.map Zbg):=rfl
theorem ZOr (vs:List AVal):Zcj (.tup vs)=.tup (vs.map ZH):=rfl
theorem ZDm (f:Nat) (caps:List AVal):Zcj (.fn f caps)=(.fn f caps):=rfl
theorem ZGO  : Zcj (.nilm)=(.nilm):=rfl
theorem ZL0 (t:Nat):Zcj (.map t)=(.map t):=rfl
theorem Zy4  : Zcj (.nili)=(.nili):=rfl
theorem ZxG (t:Nat) (x:AVal):Zcj (.iface t x)=(.iface t x):=rfl
theorem ZOl (x:AVal):Zcj (.pan x)=(.pan x):=rfl
theorem ZzT:Zd []=true:=rfl
theorem ZBB (x:AVal) (xs:List AVal):Zd (x::xs)=(ZJ x && Zd xs):=rfl
theorem ZKX (f:Nat):Zcf (.fn f [])=true:=rfl
theorem ZAX (p q:Bool):(if p=true then q else false)=(p && q):=by cases p <;> rfl
theorem ZzA (p q:Bool):(if p=true then true else q)=(p || q):=by cases p <;> rfl
theorem ZDs (p q:Bool):(if p=true then false else q)=(!p && q):=by cases p <;> rfl
theorem ZDB (p q:Bool):(if p=true then q else true)=(!p || q):=by cases p <;> rfl
theorem ZDz (p q:Bool):(if p=false then q else false)=(!p && q):=by cases p <;> rfl
theorem ZG5 (p q:Bool):(if p=false then true else q)=(!p || q):=by cases p <;> rfl
theorem ZI8 (p q:Bool):(if p=false then false else q)=(p && q):=by cases p <;> rfl
theorem ZD3 (p q:Bool):(if p=false then q else true)=(p || q):=by cases p <;> rfl
section
def ZeL (o:AOp):AOp:=⟨o.dst,o.ins,o.guard,[]⟩
def ZcA:Ze->Ze
 | .region ops chk live=>.region (ops.map ZeL) chk live
 | .seq a b=>.seq (ZcA a) (ZcA b)
 | .cond c a b=>.cond c (ZcA a) (ZcA b)
 | .block id c=>.block id (ZcA c)
 | .loop live c=>.loop live (ZcA c)
 | .skip=>.skip
 | .exit id=>.exit id
 | .ret=>.ret
 | .stuck=>.stuck
def ZlM (f:ZE):ZE:=⟨f.res,ZcA f.body⟩
section
variable {O:ZR} {bf:Nat->Bool}
theorem ZMl (o:AOp) (s:Nat) (tm:Tms) (σ:Za):ZL O bf (ZeL o) s tm σ=ZL O bf o s tm σ:=rfl
theorem ZvU:∀ (ops:List AOp) (s:Nat) (tm:Tms) (σ:Za),ZY O bf (ops.map ZeL) s tm σ=ZY O bf ops s tm σ
 | [],_,_,_=>rfl
 | o::os,s,tm,σ=>by
  simp only [List.map_cons,ZY,ZMl]
  split
  ·rfl
  ·rfl
  ·rename_i tm' σ' c _ _
   rw [show (ZeL o).ins=o.ins from rfl,ZvU os]
theorem ZmW (ops:List AOp):sitesOf (ops.map ZeL)=sitesOf ops:=by
 simp [sitesOf,ZeL,Function.comp_def]
theorem Zj2 (ops:List AOp) (i:Nat):((ops.map ZeL).getD i default).ins=(ops.getD i default).ins:=by
 simp only [List.getD_eq_getElem?_getD,List.getElem?_map]
 cases ops[i]? <;> rfl
theorem ZxF (ops:List AOp) (b:Nat) (l:List (Nat×Nat)) (cs:List Cls):Zdi (ops.map ZeL) b l cs=Zdi ops b l cs:=by
 unfold Zdi
 congr 1
 funext p
 unfold Zct Zcg
 rw [Zj2,Zj2,<-List.map_take,ZmW]
theorem ZEB (ops:List AOp) (b:Nat) (l:List (Nat×Nat)) (cs:List Cls):Zdh (ops.map ZeL) b l cs=Zdh ops b l cs:=by
 unfold Zdh
 congr 2
 funext p
 unfold Zct Zcg
 rw [Zj2,Zj2,<-List.map_take,ZmW]
theorem ZNK (ops:List AOp) (chk:Option (List (Nat×Nat))) (live:List Nat) (tm:Tms) (σ:Za):Zb6 O bf (ops.map ZeL) chk live tm σ=Zb6 O bf ops chk live tm σ:=by
 unfold Zb6
 rw [ZvU,ZmW]
 cases ZY O bf ops σ.length tm (σ++List.replicate (sitesOf ops) .free) with
 | none=>rfl
 | some q =>
  obtain ⟨tm',σ',cs,p⟩:=q
  cases p with
  | some x =>
   cases chk with
   | none=>rfl
   | some l=>simp only [ZcR,ZEB]
  | none =>
   cases chk with
   | none=>rfl
   | some l=>simp only [ZcR,ZxF]
theorem Zee (m n:Nat):∀ (c:Ze),Z6 O bf m n (ZcA c)=Z6 O bf m n c
 | .region ops chk live=>by funext tm σ;simp only [ZcA,Z6,ZNK]
 | .seq a b=>by funext tm σ;simp only [ZcA,Z6,Zee m n a,Zee m n b]
 | .cond c a b=>by funext tm σ;simp only [ZcA,Z6,Zee m n a,Zee m n b]
 | .block id c=>by funext tm σ;simp only [ZcA,Z6,Zee m n c]
 | .loop live c=>by funext tm σ;simp only [ZcA,Z6,Zee m n c]
 | .skip=>rfl
 | .exit id=>rfl
 | .ret=>rfl
 | .stuck=>rfl
end
theorem Zpo (fs:Nat->Option ZE) (prim:Zcz) (bf:Nat->Bool):∀ n,Zaw (fun f=>(fs f).map ZlM) prim bf n=Zaw fs prim bf n
 | 0=>rfl
 | n+1=>by
  funext f args σ
  simp only [Zaw,Zpo fs prim bf n]
  cases prim f with
  | some g=>rfl
  | none =>
   cases fs f with
   | none=>rfl
   | some fn =>
    simp only [Option.map_some,ZlM,Zee]
    rfl
theorem ZAp (fs:Nat->Option ZE) (prim:Zcz) (bf:Nat->Bool):EV (fun f=>(fs f).map ZlM) prim bf=EV fs prim bf:=by
 funext f args σ
 apply Zfc
 intro r
 rw [ZdI,ZdI]
 simp only [Zpo]
end
end
section
open Go.RowKit
def ZiO:List AVal->Za->Option (AVal×Za):=fun _ _=>none
theorem ZtZ {α:Prop} {args:List AVal} {σ:Za} {r:AVal×Za} (h:ZiO args σ=some r):α:=by cases h
def ZhH (k bytes:Nat) (args:List AVal) (σ:Za):Option (AVal×Za):=match args with
 | [.str _]=>none
 | [a]=>match Z0 σ a with
  | some (xs,_)=>if xs.length*bytes<=140737488355328/\kOk k xs=true then some (.sl σ.length 0 0 xs.length,σ++[.row 0 k xs]) else none
  | none=>none
 | _=>none
def ZeY:Ann:={ nt:=8,lr:=fun _=>[7,6,5,4,3,2,0] }
structure ZnH (P:Program) (t:TypeId) (k bytes:Nat) (z:AVal) (f:FuncId):Prop where
 ex:∃ (F:Func) (e:TypeId) (i0 i1 i2 i3:Nat) (r0 r2 r3:Array Oper) (m b:Oper),
  P.funcs[f]?=some F/\F.results=#[.tmp 2]/\F.ntmps=8/\(F.name == "runtime.NumGoroutine")=false/\P.underlying t=some (.slice e) /\
  F.body=some (.seq (.region i0 r0 false) (.seq (.seq (.region i1 #[m,b] false) (.cond (.tmp 4) (.seq (.region i2 r2 false) .ret) .skip)) (.seq (.region i3 r3 false) .ret))) /\
  m.op=.move (.tmp 0)/\m.dst=some 3/\m.guard=none/\b.op=.binOp .eql t (.tmp 3) (.const (.slice none 0 0)) t/\b.dst=some 4/\b.guard=none /\
  ZdB P ZeY r0 r0.toList=some [⟨some 2,.mov (.c (.lst true [])),none,[]⟩] /\
  ZdB P ZeY r2 r2.toList=some [⟨some 2,.mov (.c (.lst true [])),none,[]⟩] /\
  (∃ a1 a2 a3 a4,ZdB P ZeY r3 r3.toList=some [⟨some 5,.bslice false k 0 z [],none,a1⟩,⟨some 6,.mov (.t 0),none,a2⟩,⟨some 7,.app k bytes z (.t 5) (.t 6),none,a3⟩,⟨some 2,.mov (.t 7),none,a4⟩])/\z.cells.length=k/\0 < k
section
variable {P:Program} {base:Nat->Prop} {w0 w w':World} {I0 I:Imm} {β:Bmap} {σ:Za}
theorem noO:ZaK P (fun _ _ _=>none):=by intro f args σ r σ' h;cases h
theorem ZeF {ops:Array Oper} {Q:Exit->Act->World->Prop} {o:Oper} {l:List Oper} {a:Act} {w:World} (hg:o.guard=none) (h:o.wp P a w (wpList P ops Q l) Q):wpList P ops Q (o::l) a w:=by
 unfold wpList
 have : Region.wanted o (yielded ops a.tmps)=true:=by unfold Region.wanted;rw [hg]
 rw [this]
 simp only [if_true]
 exact Or.inl h
theorem ZvY {t : TypeId} {k bytes : Nat} {z : AVal} {f : FuncId} (hm : P.follows .mixedOrders = true) (C : ZnH P t k bytes z f) {args : List AVal} {σ σ' : Za} {r : AVal} (h : ZhH k bytes args σ = some (r, σ')) :
    (∃ fn, P.funcs[f]? = some fn /\ fn.body.isSome = true /\ (fn.name == "runtime.NumGoroutine") = false) /\
    ∀ base w0 I0 I β w (vs : Array Value), KLt base w0 -> Rel base w0 I0 I β σ w -> VRs I β args vs.toList ->
      Calls P f vs w (fun e w' => ∃ u, Ends r e u /\ Zb7 σ.length base w0 I0 I β r σ' u w') := by
  obtain ⟨F, e, i0, i1, i2, i3, r0, r2, r3, m, b, hF, hres, hnt, hname, hu, hbody, hm1, hm2, hm3, hb1, hb2, hb3, hc0, hc2, ⟨a1, a2, a3, a4, hc3⟩, hzk, hk0⟩ := C.ex
  refine ⟨⟨F, hF, by rw [hbody]; rfl, hname⟩, ?_⟩
  intro base w0 I0 I β w vs hb R hargs
  unfold ZhH at h
  split at h
  case h_1 => cases h
  case h_3 => cases h
  rename_i a hns
  split at h
  case h_2 => cases h
  rename_i xs ts hel0
  split at h
  case isFalse => cases h
  rename_i hc
  obtain ⟨hbytes, hkOk⟩ := hc
  simp only [Option.some.injEq, Prod.mk.injEq] at h
  obtain ⟨rfl, rfl⟩ := h
  have hnt8 : ∀ (n : Nat), n < 8 -> n < ZeY.nt := fun n h => h
  refine calls_of_wp hF hbody ?_
  have hsz : vs.size = 1 := by have := ZaV hargs; simpa using this.symm
  have T := Zpu hargs (F.ntmps - vs.size)
  have hst : StR ZbR 8 base w0 I0 I β (enterA 0 [a] []) σ { tmps := vs ++ Array.replicate (F.ntmps - vs.size) undef, defers := [] } w := ⟨I, β, Imm.le.refl I, Bmap.le.refl β, T, ⟨Zft.2 rfl, by simp; omega⟩, R⟩
  have fin : ∀ {tm : Tms} {σ1 : Za} {y : AVal} {a' : Act} {w1 : World}, StR ZbR 8 base w0 I0 I β tm σ1 a' w1 -> tget tm 2 = y -> (∀ I' β' u, I.le I' -> β.le β' -> Rel base w0 I0 I' β' σ1 w1 -> VR I' β' y u -> Zb7 σ.length base w0 I0 I β (.sl σ.length 0 0 xs.length) (σ ++ [.row 0 k xs]) u w1) ->
      a'.defers = [] /\ ∃ v, (results F a'.tmps).run P w1 = .ok v w1 /\ ∃ u, Ends (.sl σ.length 0 0 xs.length) (.returned v) u /\ Zb7 σ.length base w0 I0 I β (.sl σ.length 0 0 xs.length) (σ ++ [.row 0 k xs]) u w1 := by
    rintro tm σ1 y a' w1 ⟨I', β', h1, h2, h3, h4, h5⟩ hy hpost
    refine ⟨Zft.1 h4.1, a'.tmps.getD 2 undef, by simp [results, hres], _, rfl, ?_⟩
    have := h3 2
    rw [hy] at this
    exact hpost I' β' _ h1 h2 h5 this
  have R0 : ZaR P ZeY (.region i0 r0 false) = .region [⟨some 2, .mov (.c (.lst true [])), none, []⟩] none [7, 6, 5, 4, 3, 2, 0] := by simp only [ZaR]; rw [hc0]; rfl
  have R2 : ZaR P ZeY (.region i2 r2 false) = .region [⟨some 2, .mov (.c (.lst true [])), none, []⟩] none [7, 6, 5, 4, 3, 2, 0] := by simp only [ZaR]; rw [hc2]; rfl
  have R3 : ZaR P ZeY (.region i3 r3 false) = .region [⟨some 5, .bslice false k 0 z [], none, a1⟩, ⟨some 6, .mov (.t 0), none, a2⟩, ⟨some 7, .app k bytes z (.t 5) (.t 6), none, a3⟩, ⟨some 2, .mov (.t 7), none, a4⟩] none [7, 6, 5, 4, 3, 2, 0] := by simp only [ZaR]; rw [hc3]; rfl
  refine wp_seq ?_
  refine ZkA (an := ZeY) (dr := ZbR) (bf := fun _ => false) noO (fun n hn => by simp [ZbR] at hn) hm hb R0 hst (e := .normal) (tm' := keepL [7, 6, 5, 4, 3, 2, 0] [(2, .lst true []), (0, a)]) (σ' := σ) ?_ ?_
  . simp [Zb6, ZcR, sitesOf, nsite, ZY, ZL, Zby, execI, Opd.ev, tput, tins, enterA]
  intro a1' w1 hst1
  simp only [Exit.then]
  refine wp_seq (wp_seq ?_)
  refine wp_region_list ?_
  refine ZeF hm3 ?_
  obtain ⟨I1, β1, g1, g2, g3, g4, g5⟩ := hst1
  have hs8 : 8 <= a1'.tmps.size := g4.2
  have hT0 : VR I1 β1 a (a1'.tmps.getD 0 undef) := by have := g3 0; simpa [keepL, tget] using this
  obtain ⟨A, cap, hv0, q1, q2, q5, q4⟩ := ZmC g5 (fun l e => hns l e) hel0 hT0
  show m.wp P a1' w1 _ _
  unfold Oper.wp
  have e1 : (execOp a1'.eval m).run P w1 = .ok (.value (.slice A xs.length cap)) w1 := by
    unfold execOp; rw [hm1]; simp [Act.eval, hv0]
  rw [e1, Oper.upon_value, hm2]
  refine ZeF hb3 ?_
  unfold Oper.wp
  have hs3 : (a1'.put (some 3) (.slice A xs.length cap)).tmps.getD 3 undef = .slice A xs.length cap := by
    have : 3 < a1'.tmps.size := by omega
    simp [Act.put, Array.getD, this]
  have e2 : (execOp (a1'.put (some 3) (.slice A xs.length cap)).eval b).run P w1 = .ok (.value (.bool A.isNone)) w1 := by
    have hq : (Op.equal t (.slice A xs.length cap) (.slice none 0 0)).run P w1 = .ok A.isNone w1 := run_equal_slice_nil w1 t e A xs.length cap hu
    unfold execOp; rw [hb1]
    simp only [Act.eval]
    rw [hs3]
    simp [eqGuard, binOp, hq]
  rw [e2, Oper.upon_value, hb2]
  refine wpList_nil ?_
  have hst2 : StR ZbR 8 base w0 I0 I β [(4, .bool A.isNone), (2, .lst true []), (0, a)] σ ((a1'.put (some 3) (.slice A xs.length cap)).put (some 4) (.bool A.isNone)) w1 := by
    refine ⟨I1, β1, g1, g2, fun n => ?_, ⟨ZlU (ZlU g4.1 (fun n _ hm => by simp [ZbR] at hm)) (fun n _ hm => by simp [ZbR] at hm), by rw [Ze5, Ze5]; exact g4.2⟩, g5⟩
    have hs : 4 < (a1'.put (some 3) (.slice A xs.length cap)).tmps.size := by rw [Ze5]; omega
    have ne : ∀ {a : Act} {d j : Nat} {u : Value}, d ≠ j -> (a.put (some d) u).tmps.getD j undef = a.tmps.getD j undef := by
      intro a d j u hne
      simp only [Act.put, Array.getD_eq_getD_getElem?]; rw [Array.getElem?_setIfInBounds_ne hne]
    simp only [tget]
    split
    . rename_i e; subst e
      rw [show ((a1'.put (some 3) (.slice A xs.length cap)).put (some 4) (.bool A.isNone)).tmps.getD 4 undef = .bool A.isNone by
        simp only [Act.put] at hs ⊢
        simp [Array.getD] at hs ⊢
        omega]
      simp only [VR]
    . split
      . rename_i e; subst e
        rw [ne (by omega), ne (by omega)]
        have := g3 2; simpa [keepL, tget] using this
      . split
        . rename_i e; subst e
          rw [ne (by omega), ne (by omega)]
          have := g3 0; simpa [keepL, tget] using this
        . simp only [VR]
  simp only [Exit.then]
  cases hA : A.isNone with
  | true =>
    have hx0 : xs = [] := by
      rcases q4 with h | ⟨b, off, k', us, e, _⟩
      . exact h
      . rw [e] at hA; cases hA
    subst hx0
    have hev : ((a1'.put (some 3) (.slice A 0 cap)).put (some 4) (.bool A.isNone)).eval (.tmp 4) = .bool true := by
      obtain ⟨_, _, _, _, T, _, _⟩ := hst2
      have := T 4
      simp only [tget, if_true, VR] at this
      rw [hA] at this
      simpa [Act.eval, hA] using this
    refine wp_cond_true (by simpa [hA] using hev) ?_
    refine wp_seq ?_
    rw [hA] at hst2
    refine ZkA (an := ZeY) (dr := ZbR) (bf := fun _ => false) noO (fun n hn => by simp [ZbR] at hn) hm hb R2 hst2 (e := .normal) (tm' := keepL [7, 6, 5, 4, 3, 2, 0] [(4, .bool true), (2, .lst true []), (0, a)]) (σ' := σ) ?_ ?_
    . simp [Zb6, ZcR, sitesOf, nsite, ZY, ZL, Zby, execI, Opd.ev, tput, tins]
    intro a3' w3 hst3
    simp only [Exit.then]
    refine wp_ret ?_
    refine fin hst3 (y := .lst true []) (by simp [keepL, tget]) ?_
    intro I' β' u h1 h2 h3 h4
    simp only [VR] at h4
    obtain ⟨A', cap', rfl, _, _, hx, _⟩ := h4
    have hcap : cap' = 0 := by simpa using hx
    subst hcap
    have R4 := h3.reserve 1
    have hfree : (σ ++ List.replicate 1 ZK.free)[σ.length]? = some .free := by simp
    obtain ⟨R5, hle⟩ := R4.newNone hfree k hk0
    refine ⟨I', _, h1, KeptE.of_le (h2.trans hle), ?_, ?_⟩
    . have : (σ ++ List.replicate 1 ZK.free).set σ.length (.row 0 k []) = σ ++ [.row 0 k []] := by simp
      rw [this] at R5; exact R5
    . simp only [ZaS]
      rw [Zca]
      exact ⟨_, Bmap.put_same β' σ.length 0 _, by simp, by simp, Or.inr ⟨rfl, rfl, A', rfl⟩⟩
  | false =>
    have hev : ((a1'.put (some 3) (.slice A xs.length cap)).put (some 4) (.bool A.isNone)).eval (.tmp 4) = .bool false := by
      obtain ⟨_, _, _, _, T, _, _⟩ := hst2
      have := T 4
      simp only [tget, if_true, VR] at this
      rw [hA] at this
      simpa [Act.eval, hA] using this
    refine wp_cond_false (by simpa [hA] using hev) ?_
    refine wp_skip ?_
    rw [hA] at hst2
    simp only [Exit.then]
    refine wp_seq ?_
    have hel : Z0 (σ ++ [ZK.free]) a = some (xs, ts) := ZgQ hel0 (fun t ht => by
      obtain ⟨g, k, ys, h | h⟩ := ZjV hel0 t ht <;> (rw [List.getElem?_append_left (List.getElem?_eq_some_iff.1 h).1]))
    refine ZkA (an := ZeY) (dr := ZbR) (bf := fun _ => false) noO (fun n hn => by simp [ZbR] at hn) hm hb R3 hst2 (e := .normal) (tm' := keepL [7, 6, 5, 4, 3, 2, 0] [(7, .sl σ.length 0 0 xs.length), (6, a), (5, .lst true []), (4, .bool false), (2, .sl σ.length 0 0 xs.length), (0, a)]) (σ' := σ ++ [.row 0 k xs]) ?_ ?_
    . have hfa : freeAt (σ ++ [ZK.free]) σ.length = true := by simp [freeAt]
      have hnp : (∃ x ys, a = .lst x ys) \/ ∃ t g lo n, a = .sl t g lo n := by
        cases a with
        | lst x ys => exact Or.inl ⟨x, ys, rfl⟩
        | sl t g lo n => exact Or.inr ⟨t, g, lo, n, rfl⟩
        | str l => exact absurd rfl (hns l)
        | _ => simp [Z0] at hel0
      rcases hnp with ⟨x, ys, rfl⟩ | ⟨t', g', lo, n, rfl⟩
      . simp [Zb6, ZcR, sitesOf, nsite, ZY, ZL, Zby, execI, Opd.ev, tput, tins, tget, viewAs, Zs, hzk, ZaX, hel, hkOk, hbytes, hfa]
      . simp [Zb6, ZcR, sitesOf, nsite, ZY, ZL, Zby, execI, Opd.ev, tput, tins, tget, viewAs, Zs, hzk, ZaX, hel, hkOk, hbytes, hfa]
    intro a3' w3 hst3
    simp only [Exit.then]
    refine wp_ret ?_
    refine fin hst3 (y := .sl σ.length 0 0 xs.length) (by simp [keepL, tget]) ?_
    intro I' β' u h1 h2 h3 h4
    exact ⟨I', β', h1, KeptE.of_le h2, h3, h4⟩
end
end
section
open Go.RowKit
def ZqI (args:List AVal) (σ:Za):Option (AVal×Za):=match args with
 | [.str l]=>some (.bool (Lib.validD l),σ)
 | _=>none
section
variable {P:Program} {base:Nat->Prop} {w0 w w':World} {I0 I:Imm} {β:Bmap} {σ:Za}
theorem ZAR {f:Nat} (hf:∃ fn,P.funcs[f]?=some fn/\fn.body.isSome=true/\(fn.name == "runtime.NumGoroutine")=false) {args:List AVal} {r:AVal} {u:Value} (hn:∀ x,r≠.pan x) (hr:∀ I β,VR I β r u)
  (h:∀ base w0 I0 I β w (vs:Array Value),Rel base w0 I0 I β σ w->VRs I β args vs.toList->Calls P f vs w (fun e w'=>e=.returned u/\Below w.heap.size w w')) :
  (∃ fn,P.funcs[f]?=some fn/\fn.body.isSome=true/\(fn.name == "runtime.NumGoroutine")=false) /\
  ∀ base w0 I0 I β w (vs:Array Value),KLt base w0->Rel base w0 I0 I β σ w->VRs I β args vs.toList ->
   Calls P f vs w (fun e w'=>∃ u,Ends r e u/\Zb7 σ.length base w0 I0 I β r σ u w'):=by
 refine ⟨hf,fun base w0 I0 I β w vs hb R hv=>(h base w0 I0 I β w vs R hv).mono ?_⟩
 rintro e w' ⟨rfl,hB⟩
 have hbw:=R.base_le hb
 refine ⟨u,?_,I,β,Imm.le.refl I,KeptE.refl _ β,R.stay (Imm.le.refl I) ⟨hB.os,hB.tape,hB.output,hB.size,fun k hk=>hB.block k (hbw k hk)⟩ (fun _ _ _=>rfl) ?_ ?_,by rw [ZfP hn];exact hr I β⟩
 ·cases r <;> first | rfl | exact absurd rfl (hn _)
 ·intro b o x hx
  have h1:=R.imm b o x hx
  have hlt:=Zed h1
  rw [<-h1]
  simp only [World.cell?,hB.block b hlt]
 ·intro t x b hx hb'
  exact ⟨hB.block b ((R.blk t x hx).owns_lt hb'),(R.own t x b hx hb').2⟩
theorem ZPg (R:Rel base w0 I0 I β σ w):Lib.Utf8Tabs 0 1 w:=by
 refine ⟨fun c hc=>R.imm _ _ _ (R.glob _ _ _ (by simp [Gl,hc])),fun i hi=>⟨R.imm _ _ _ (R.glob _ _ _ ?_),R.imm _ _ _ (R.glob _ _ _ ?_)⟩⟩
 ·have h1:2*i < 32:=by omega
  have h2:2*i % 2=0:=by omega
  have h3:2*i / 2=i:=by omega
  simp [Gl,h1,h3]
 ·have h1:2*i+1 < 32:=by omega
  have h2:(2*i+1) % 2=1:=by omega
  have h3:(2*i+1) / 2=i:=by omega
  simp [Gl,h1,h2,h3]
theorem ZO8 {f:Nat} (hf:∃ fn,P.funcs[f]?=some fn/\fn.body.isSome=true/\(fn.name == "runtime.NumGoroutine")=false)
  (hc:∀ (s:ByteArray) (w:World),s.size<=9223372036854775807->Lib.Utf8Tabs 0 1 w->Calls P f #[.string s] w fun e w'=>e=.returned (.bool (Lib.validD s.data.toList))/\Below w.heap.size w w') {args:List AVal} {σ σ':Za} {r:AVal} (h:ZqI args σ=some (r,σ')) :
  (∃ fn,P.funcs[f]?=some fn/\fn.body.isSome=true/\(fn.name == "runtime.NumGoroutine")=false) /\
  ∀ base w0 I0 I β w (vs:Array Value),KLt base w0->Rel base w0 I0 I β σ w->VRs I β args vs.toList ->
   Calls P f vs w (fun e w'=>∃ u,Ends r e u/\Zb7 σ.length base w0 I0 I β r σ' u w'):=by
 unfold ZqI at h
 split at h
 case h_2=>cases h
 rename_i l
 simp only [Option.some.injEq,Prod.mk.injEq] at h
 obtain ⟨rfl,rfl⟩:=h
 refine ZAR hf (u:=.bool (Lib.validD l)) (by simp) (fun _ _=>by simp only [VR]) ?_
 intro base w0 I0 I β w vs R hv
 obtain ⟨vs⟩:=vs
 simp only [VRs,VR] at hv
 obtain ⟨v1,r1,e1,⟨rfl,hl⟩,rfl⟩:=hv
 subst e1
 refine (hc ⟨l.toArray⟩ w (by simpa [ByteArray.size] using hl) (ZPg R)).mono ?_
 rintro e w' ⟨rfl,hB⟩
 exact ⟨by simp,hB⟩
end
end
section
def Zes {α:Type} (d:α):List (Nat×α)->Nat->α
 | [],_=>d
 | (k,v)::r,n=>if k=n then v else Zes d r n
def Zr (own raw:List Nat) (cfg cfg2:List (Nat×Nat×Bool)) (lr ll:List (Nat×List Nat)):Ann:={ own:=fun n=>if own.contains n then 1 else if raw.contains n then 2 else 0,cfg:=Zes (0,true) cfg,cfg2:=Zes (0,true) cfg2,lr:=Zes [] lr,ll:=Zes [] ll }
def ZMN:List (Nat×Ann):=[
 (80,Zr [] [] [] [] [(0,[0]),(1,[2])] []),
 (68,Zr [] [] [] [] [(0,[0]),(1,[5,4,3,0]),(2,[4,3,0]),(3,[3]),(4,[2])] []),
 (70,Zr [] [] [] [] [(0,[1,0]),(1,[4])] []),
 (107,Zr [] [] [] [] [(0,[1,0]),(1,[18,1,0]),(2,[]),(3,[4]),(4,[5,1,0]),(5,[5]),(6,[4])] []),
 (71,Zr [] [] [] [] [(0,[0]),(1,[5,4,3,0]),(2,[4,3,0]),(3,[3]),(4,[2])] []),
 (69,Zr [] [] [] [] [(0,[0]),(1,[4]),(2,[3,2])] []),
 (61,Zr [] [] [] [] [(0,[2,0]),(1,[3,2,0]),(2,[3,2,0]),(3,[3,2,0]),(4,[3,2,0]),(5,[3,2,0]),(6,[6,5,4,3,2,0]),(7,[4,3,2]),(8,[3,2]),(9,[2])] []),
 (77,Zr [] [] [(121,1,true)] [] [(0,[1]),(1,[2,1]),(2,[10,2,1]),(3,[11,10,2,1]),(4,[1]),(5,[15,10,2,1]),(6,[3,2,1]),(7,[3,2,1]),(8,[2,1]),(9,[2,1]),(10,[1]),(11,[37,10,2,1]),(12,[1]),(13,[41,10,2,1]),(14,[41,10,2,1]),(15,[41,10,2,1]),(16,[41,10,2,1]),(17,[1]),(18,[1]),(19,[50,10,2,1]),(20,[1]),(21,[56,10,2,1]),(22,[1]),(23,[61,10,2,1]),(24,[61,10,2,1]),(25,[1]),(26,[67,10,1]),(27,[67,1]),(28,[1]),(29,[])] []),
 (123,Zr [] [] [] [] [(0,[])] []),
 (125,Zr [] [] [] [] [(0,[])] []),
 (116,Zr [] [] [] [] [(0,[0]),(1,[3,0]),(2,[3]),(3,[2])] []),
 (114,Zr [] [] [] [] [(0,[2,0]),(1,[2,0]),(2,[2,0]),(3,[3,2,0]),(4,[3,2,0]),(5,[3,2,0]),(6,[3,2,0]),(7,[2,0]),(8,[2,0]),(9,[2,0]),(10,[2,0]),(11,[107,2,0]),(12,[2,0]),(13,[2,0]),(14,[2,0]),(15,[129,2,0]),(16,[2,0]),(17,[138,2,0]),(18,[])] []),
 (148,Zr [] [] [] [] [(0,[0]),(1,[5,4,3,0]),(2,[4,3,0]),(3,[3]),(4,[2])] []),
 (76,Zr [] [] [] [] [(0,[4,1]),(1,[4,1]),(2,[4,1]),(3,[24,4,1]),(4,[]),(5,[4]),(6,[4]),(7,[])] []),
 (119,Zr [] [] [] [] [(0,[0]),(1,[])] []),
 (121,Zr [] [] [] [] [(0,[1,0]),(1,[1,0]),(2,[1,0]),(3,[29,1,0]),(4,[1,0])] [(3,[1,0])]),
 (115,Zr [] [] [] [] [(0,[1,0]),(1,[1,0]),(2,[5,1,0]),(3,[5]),(4,[4])] []),
 (117,Zr [] [] [] [] [(0,[1,0]),(1,[7,6,5,0]),(2,[6,5,0]),(3,[5]),(4,[4])] []),
 (118,Zr [] [] [] [] [(0,[0]),(1,[13,0]),(2,[0]),(3,[0]),(4,[])] []),
 (120,Zr [] [] [] [] [(0,[7,0]),(1,[0]),(2,[19,0]),(3,[])] []),
 (122,Zr [] [] [] [] [(0,[2,0]),(1,[3,2,0]),(2,[3,2,0]),(3,[3,2,0]),(4,[2,0]),(5,[2,0]),(6,[])] []),
 (124,Zr [] [] [] [] [(0,[0]),(1,[5,4,3,0]),(2,[4,3,0]),(3,[3]),(4,[2])] []),
 (78,Zr [] [] [(130,1,true),(126,1,true),(132,1,true),(127,1,true),(128,1,true),(131,1,true),(129,1,true)] [] [(0,[3,0]),(1,[11,3,0]),(2,[12,11,3,0]),(3,[]),(4,[17,11,3,0]),(5,[3,0]),(6,[3,0]),(7,[]),(8,[32,11,3,0]),(9,[3,0]),(10,[40,3,0]),(11,[3,0]),(12,[3,0]),(13,[]),(14,[55,11,3,0]),(15,[55,11,3,0]),(16,[55,11,3,0]),(17,[55,11,3,0]),(18,[3,0]),(19,[]),(20,[67,11,3,0]),(21,[3,0]),(22,[75,74,73,0]),(23,[76,75,74,73,0]),(24,[75,74,73,5,0]),(25,[75,74,73,5,0]),(26,[75,74,73,0]),(27,[75,74,73,0]),(28,[102,11,3,0]),(29,[3,0]),(30,[110,109,108,0]),(31,[111,110,109,108,0]),(32,[110,109,108,7,0]),(33,[110,109,108,0]),(34,[110,109,108,0]),(35,[118,11,3,0]),(36,[118,11,3,0]),(37,[3,0]),(38,[127,126,125,0]),(39,[128,127,126,125,0]),(40,[127,126,125,9,0]),(41,[127,126,125,0]),(42,[127,126,125,0]),(43,[135,11,3,0]),(44,[135,3,0]),(45,[])] [(23,[75,74,73,0]),(31,[110,109,108,0]),(39,[127,126,125,0])]),
 (126,Zr [] [] [(149,1,true),(127,1,true),(128,1,true),(129,1,true)] [] [(0,[3,0]),(1,[3,0]),(2,[3,0]),(3,[3,0]),(4,[3,0]),(5,[3,0]),(6,[3,0]),(7,[49,3,0]),(8,[3,0]),(9,[3,0]),(10,[3,0]),(11,[66,3,0]),(12,[3,0]),(13,[72,3,0]),(14,[])] []),
 (149,Zr [] [] [(130,1,true)] [] [(0,[4,0]),(1,[])] []),
 (132,Zr [] [] [(127,1,true),(128,1,true)] [] [(0,[3,0]),(1,[3,0]),(2,[])] []),
 (127,Zr [] [] [(130,1,true)] [] [(0,[])] []),
 (128,Zr [] [] [(130,1,true)] [] [(0,[6,0]),(1,[])] []),
 (131,Zr [] [] [(127,1,true),(128,1,true)] [] [(0,[3,0]),(1,[12,3,0]),(2,[3,0]),(3,[20,3,0]),(4,[])] []),
 (129,Zr [] [] [(130,1,true)] [] [(0,[4,0]),(1,[])] []),
 (65,Zr [] [] [] [] [(0,[0]),(1,[3,0]),(2,[18,3,0]),(3,[]),(4,[2]),(5,[2])] []),
 (66,Zr [] [] [] [] [(0,[1,0]),(1,[4])] []),
 (99,Zr [] [] [] [] [(0,[1,0]),(1,[18,1,0]),(2,[1]),(3,[4]),(4,[5,1,0]),(5,[5]),(6,[4])] []),
 (64,Zr [] [] [] [] [(0,[0]),(1,[2])] []),
 (12,Zr [] [] [] [] [(0,[2,1]),(1,[3,2,1]),(2,[33,3,2,1]),(3,[3,2,1]),(4,[4,2,1]),(5,[5,4,2,1]),(6,[53,5,4,2,1]),(7,[5,4,2,1]),(8,[5,4,2,1]),(9,[71,4,2,1]),(10,[4,2]),(11,[2])] [(6,[5,4,2,1])]),
 (47,Zr [] [] [] [] [(0,[1]),(1,[3,1]),(2,[7,3,1]),(3,[3,1]),(4,[18,3,1]),(5,[3,1]),(6,[29,3,1]),(7,[3,1]),(8,[4,3,1]),(9,[45,4,3,1]),(10,[4,3,1]),(11,[4,3,1]),(12,[2])] [(9,[4,3,1])]),
 (63,Zr [] [] [] [] [(0,[1,0]),(1,[4])] []),
 (161,Zr [] [] [] [] [(0,[]),(2,[]),(7,[4])] []),
 (164,Zr [] [] [] [] [] []),
 (93,Zr [6] [] [(137,1,false)] [(111,1,false)] [(0,[2,1]),(1,[2,1]),(2,[2,1]),(3,[15,14,2,1]),(4,[16,15,14,2,1]),(5,[15,14,3,2,1]),(6,[15,14,2,1]),(7,[15,14,2,1]),(8,[2])] [(4,[15,14,2,1])]),
 (45,Zr [] [] [] [] [(0,[2,1]),(1,[4])] []),
 (16,Zr [] [] [] [] [(0,[1]),(1,[3,1]),(2,[5,3,1]),(3,[7,5,3,1]),(4,[9,7,5,3,1]),(5,[2])] []),
 (17,Zr [] [] [(56,1,false)] [] [(0,[1]),(1,[3,1]),(2,[5,3,1]),(3,[7,5,1]),(4,[39,38,37,7,5]),(5,[40,39,38,37,7,5]),(6,[39,38,37,9,7,5]),(7,[39,38,37,7,5]),(8,[39,38,37,7,5]),(9,[2])] [(5,[39,38,37,7,5])]),
 (73,Zr [] [] [(111,1,false)] [] [(0,[8,4,3,2,1]),(1,[9,8,4,3]),(2,[11,10,9,8,3]),(3,[31,10,9,8,3]),(4,[9,8]),(5,[8])] []),
 (44,Zr [] [] [(93,2,false)] [] [(0,[8,4,3,2,1]),(1,[9,8,4,3,2,1]),(2,[10,9,8,4,3,2,1]),(3,[29,10,9,8,4,3,2,1]),(4,[10,9,8,4,1]),(5,[36,10,9,8,4,1]),(6,[10,8,4]),(7,[51,50,49,10,8]),(8,[52,51,50,49,10,8]),(9,[51,50,49,12,10,8]),(10,[51,50,49,10,8]),(11,[51,50,49,10,8]),(12,[8])] [(8,[51,50,49,10,8])]),
 (21,Zr [] [] [] [] [(0,[2,0]),(1,[4,2,0]),(2,[5,4,2,0]),(3,[28,5,2]),(4,[3,2]),(5,[3,2])] []),
 (23,Zr [] [] [] [] [(0,[2,0]),(1,[4,2,0]),(2,[6,5,4,2,0]),(3,[7,6,4,2,0]),(4,[7,6,4,2,0]),(5,[8,7,4,2,0]),(6,[42,41,8,7,4,2,0]),(7,[43,42,41,8,7,4,2,0]),(8,[42,41,9,8,7,4,2,0]),(9,[42,41,9,8,7,4,2,0]),(10,[42,41,8,7,4,2,0]),(11,[42,41,8,7,4,2,0]),(12,[8,7,4,2,0]),(13,[84,7,2]),(14,[3,2]),(15,[3,2])] [(7,[42,41,8,7,4,2,0])]),
 (30,Zr [] [] [] [] [(0,[3,2]),(1,[4])] []),
 (31,Zr [] [] [] [] [(0,[3,2]),(1,[4])] []),
 (58,Zr [] [] [] [] [(0,[0]),(1,[2])] []),
 (98,Zr [] [] [] [] [(0,[0]),(1,[2])] []),
 (57,Zr [] [] [] [] [(0,[1,0]),(1,[5,0]),(2,[0]),(3,[4])] []),
 (62,Zr [] [] [] [] [(0,[1]),(1,[2])] []),
 (55,Zr [] [] [] [] [(0,[0]),(1,[6,0]),(2,[3,2]),(3,[3,2])] []),
 (108,Zr [] [] [] [] [(0,[0]),(1,[3,0]),(2,[8,7,6,3]),(3,[9,8,7,6,3]),(4,[8,7,6,5,3]),(5,[8,7,6,3]),(6,[8,7,6,3]),(7,[2])] [(3,[8,7,6,3])]),
 (106,Zr [] [] [] [] [(0,[0]),(1,[17,0]),(2,[4,3,2]),(3,[3,0]),(4,[4,3,2])] []),
 (109,Zr [] [] [] [] [(0,[0]),(1,[5,4,3]),(2,[12,5,4,3]),(3,[4,3,2]),(4,[16,5,3]),(5,[4,3,2]),(6,[4,3,2])] []),
 (135,Zr [] [] [] [] [(0,[2,0]),(1,[9,8,7,2,0]),(2,[10,9,8,7,2,0]),(3,[9,8,7,6,5,2,0]),(4,[15,9,8,7,6,5,2,0]),(5,[9,8,7,6,5,2,0]),(6,[25,9,8,7,6,5,2,0]),(7,[31,5,2]),(8,[4,3,2]),(9,[4,3,2]),(10,[9,8,7,2,0]),(11,[38]),(12,[4,3,2]),(13,[4,3,2])] [(2,[9,8,7,2,0])]),
 (97,Zr [] [] [] [] [(0,[0]),(1,[6,0]),(2,[8,7,6,0]),(3,[6,4,0]),(4,[11,6,0]),(5,[2]),(6,[2])] [(2,[6,0])]),
 (56,Zr [] [] [] [] [(0,[0]),(1,[3,0]),(2,[8,7,6,3]),(3,[9,8,7,6,3]),(4,[8,7,6,5,3]),(5,[8,7,6,3]),(6,[8,7,6,3]),(7,[2])] [(3,[8,7,6,3])]),
 (59,Zr [] [] [] [] [(0,[1,0]),(1,[12,1,0]),(2,[4]),(3,[5,1,0]),(4,[6,5,0]),(5,[18,6,5,0]),(6,[6,5,0]),(7,[6,5,0]),(8,[6,5,0]),(9,[4])] [(5,[6,5,0])]),
 (54,Zr [] [] [] [] [(0,[0]),(1,[6,0]),(2,[3,2]),(3,[3,2])] []),
 (82,Zr [] [] [] [] [(0,[0]),(1,[10,0]),(2,[3,2]),(3,[4,0]),(4,[12,4,0]),(5,[4,0]),(6,[4,0]),(7,[3,2])] [(4,[4,0])]),
 (41,Zr [] [] [] [] [(0,[3,0]),(1,[4])] []),
 (88,Zr [] [] [] [] [(0,[2,1]),(1,[3])] []),
 (34,Zr [] [] [(78,1,true)] [] [(0,[2,1]),(1,[4,2,1]),(2,[4,2,1]),(3,[5,2,1]),(4,[32,5,2,1]),(5,[5,2,1]),(6,[7,6,5,2,1]),(7,[9,7,6,5,2,1]),(8,[73,5,2]),(9,[3,2]),(10,[3,2])] []),
 (40,Zr [] [] [] [] [(0,[1]),(1,[5,4]),(2,[14,5,4]),(3,[3,2]),(4,[6,4]),(5,[3,2])] []),
 (32,Zr [] [] [] [] [(0,[]),(2,[4,3,2,1]),(3,[4,3,2]),(4,[4,3,2]),(5,[3,2])] []),
 (75,Zr [] [] [] [] [(1,[4]),(2,[]),(3,[7,5]),(4,[]),(6,[3,1,0]),(7,[])] []),
 (35,Zr [] [] [] [] [(0,[3,2]),(1,[5,3,2]),(2,[6,5,3,2]),(3,[7,6,5,3,2]),(4,[8,7,6,5,3,2]),(5,[4])] []),
 (87,Zr [] [] [] [] [(0,[0]),(1,[3]),(2,[4,3]),(3,[2]),(4,[15,3]),(5,[15,3]),(6,[2]),(7,[27,3]),(8,[27,3]),(9,[2]),(10,[33,3]),(11,[2]),(12,[45,3]),(13,[2]),(14,[55,3]),(15,[2]),(16,[66]),(17,[2]),(18,[2])] []),
 (79,Zr [] [] [] [] [(0,[0]),(1,[3]),(2,[4,3]),(3,[4,3]),(4,[4]),(5,[2]),(6,[2])] []),
 (81,Zr [] [] [] [] [(0,[1,0]),(1,[5,1]),(2,[4]),(3,[4])] []),
 (113,Zr [] [] [] [] [(0,[5,1]),(1,[])] []),
 (112,Zr [] [] [] [] [(0,[4,1,0]),(1,[10,9,8,4,0]),(2,[11,10,9,8,4,0]),(3,[10,9,8,7,4,0]),(4,[17,10,9,8,7,4,0]),(5,[5,4]),(6,[10,9,8,4,0]),(7,[5,4])] [(2,[10,9,8,4,0])]),
 (134,Zr [] [] [] [] [(0,[0]),(1,[2])] []),
 (42,Zr [] [] [] [] [(0,[1,0]),(1,[6,1,0]),(2,[16,15,14,6,1,0]),(3,[17,16,15,14,6,1,0]),(4,[16,15,14,8,6,1,0]),(5,[16,15,14,6,1,0]),(6,[16,15,14,6,1,0]),(7,[10,9,6,1,0]),(8,[32,9,6,1,0]),(9,[5,4]),(10,[6,1,0]),(11,[13,12,11,6,1]),(12,[57,6]),(13,[5,4]),(14,[5,4])] [(3,[16,15,14,6,1,0])]),
 (153,Zr [] [] [] [] [(0,[1,0]),(1,[4])] []),
 (143,Zr [] [] [] [] [(0,[1,0]),(1,[5,1,0]),(2,[10,9,8,5,1]),(3,[11,10,9,8,5,1]),(4,[10,9,8,7,5,1]),(5,[17,10,9,8,7,5,1]),(6,[10,9,8,5,1]),(7,[10,9,8,5,1]),(8,[4])] [(3,[10,9,8,5,1])]),
 (90,Zr [] [] [] [] [(0,[4,1,0]),(1,[9,8,7,4,1,0]),(2,[29,8,7,4,1,0]),(3,[6,5,4]),(4,[10,8,7,4,0]),(5,[38,10,8,7,4,0]),(6,[13,12,11,10,8,7,4,0]),(7,[48,13,12,11,10,8,7,4,0]),(8,[6,5,4]),(9,[12,10,8,7,4,0]),(10,[10,8,7,4,0]),(11,[6,5,4])] [(5,[10,8,7,4,0])]),
 (43,Zr [] [] [] [] [(0,[1,0]),(1,[4])] []),
 (92,Zr [] [] [] [] [(0,[3,2]),(1,[4])] []),
 (162,Zr [] [] [] [] [(0,[0]),(1,[3,0]),(2,[8,7,6,3]),(3,[9,8,7,6,3]),(4,[8,7,6,5,3]),(5,[8,7,6,3]),(6,[8,7,6,3]),(7,[2])] [(3,[8,7,6,3])]),
 (147,Zr [] [] [] [] [(0,[2,1]),(1,[2,1]),(2,[2])] []),
 (156,Zr [] [] [] [] [(0,[1]),(1,[4,1]),(2,[5,4,1]),(3,[5,4,1]),(4,[5,4,1]),(5,[5,1]),(6,[2]),(7,[2])] []),
 (89,Zr [] [] [] [] [(0,[1]),(1,[3,1]),(2,[6,5,3,1]),(3,[15,6,5,3,1]),(4,[16,15,6,5,3,1]),(5,[16,15,6,5,3,1]),(6,[16,15,6,5,3,1]),(7,[6,5,3]),(8,[29,15,6,5,3,1]),(9,[6,5,3]),(10,[37,15,6,5,3,1]),(11,[6,5,3]),(12,[45,15,6,5,3,1]),(13,[6,5,3]),(14,[53,6,5,3,1]),(15,[5,3,1]),(16,[6,5,3]),(17,[2])] []),
 (152,Zr [] [] [] [] [(0,[2,0]),(1,[3,2]),(2,[4,3,2]),(3,[2]),(4,[9,3,2]),(5,[2]),(6,[14,3,2]),(7,[14,3,2]),(8,[2]),(9,[20,3,2]),(10,[2]),(11,[25,3,2]),(12,[2]),(13,[30,3,2]),(14,[2]),(15,[35,3,2]),(16,[35,3,2]),(17,[2]),(18,[41,3,2]),(19,[2]),(20,[46,3,2]),(21,[2]),(22,[51,3,2]),(23,[2]),(24,[56,3,2]),(25,[56,3,2]),(26,[2]),(27,[62,3,2]),(28,[2]),(29,[67,3,2]),(30,[2]),(31,[72,3,2]),(32,[2]),(33,[77,3,2]),(34,[77,3,2]),(35,[2]),(36,[83,3,2]),(37,[2]),(38,[88,3,2]),(39,[2]),(40,[93,3,2]),(41,[93,3,2]),(42,[93,3,2]),(43,[93,3,2]),(44,[93,3,2]),(45,[2]),(46,[102,2]),(47,[2]),(48,[2])] []),
 (155,Zr [] [] [] [] [(0,[1,0]),(1,[4])] []),
 (136,Zr [] [] [] [] [(0,[6,2,1,0]),(1,[11,10,9,6,2,1,0]),(2,[28,10,9,6,2,1,0]),(3,[8,7,6]),(4,[12,10,9,7,6,2,0]),(5,[14,12,10,9,7,6,0]),(6,[45,14,10,9,7,6,0]),(7,[8,7,6]),(8,[49,10,9,7,6]),(9,[8,7,6]),(10,[58,10,9,7,6]),(11,[8,7,6]),(12,[65,6]),(13,[8,7,6]),(14,[8,7,6])] []),
 (154,Zr [] [] [] [] [(0,[5,4,1,0]),(1,[5,4,1,0]),(2,[7,5,4,1,0]),(3,[12,7,5,4,1,0]),(4,[13,12,7,5,4,1,0]),(5,[13,12,7,5,4,1,0]),(6,[13,12,7,5,4,1,0]),(7,[7,5,4,1]),(8,[24,7,5,4,1]),(9,[6,5,4]),(10,[7,5,4]),(11,[32,12,7,5,4,1]),(12,[7,5,4]),(13,[41,12,7,5,4,1]),(14,[7,5,4]),(15,[50,12,7,5,4,1]),(16,[7,5,4]),(17,[59,7,5,4,1]),(18,[7,5,4,1]),(19,[69,7,5,4,1]),(20,[5,4,1]),(21,[8,7,5,4]),(22,[7,5,4]),(23,[6,5,4])] []),
 (86,Zr [] [] [] [] [(0,[1,0]),(1,[4])] []),
 (158,Zr [] [] [] [] [(0,[1,0]),(1,[4])] []),
 (91,Zr [] [] [] [] [(0,[2,1,0]),(1,[14,2,1,0]),(2,[6]),(3,[17,16,15,2,1]),(4,[18,17,16,15,2,1]),(5,[17,16,15,8,7,2,1]),(6,[17,16,15,9,8,2,1]),(7,[30,17,16,15,2,1]),(8,[6]),(9,[17,16,15,2,1]),(10,[6])] [(4,[17,16,15,2,1])]),
 (83,Zr [] [] [] [] [(0,[1,0]),(1,[10,1,0]),(2,[4]),(3,[13,12,1,0]),(4,[14,13,12,1,0]),(5,[13,12,5,1,0]),(6,[24,13,12,1,0]),(7,[4]),(8,[13,12,1,0]),(9,[4])] [(4,[13,12,1,0])]),
 (84,Zr [] [] [] [] [(0,[1,0]),(1,[10,1,0]),(2,[4]),(3,[13,12,1,0]),(4,[14,13,12,1,0]),(5,[13,12,5,1,0]),(6,[24,13,12,1,0]),(7,[4]),(8,[13,12,1,0]),(9,[4])] [(4,[13,12,1,0])]),
 (74,Zr [] [] [] [] [(0,[1,0]),(1,[10,1,0]),(2,[4]),(3,[13,12,1,0]),(4,[14,13,12,1,0]),(5,[13,12,5,1,0]),(6,[24,13,12,1,0]),(7,[4]),(8,[13,12,1,0]),(9,[4])] [(4,[13,12,1,0])]),
 (85,Zr [] [] [] [] [(0,[1,0]),(1,[10,1,0]),(2,[4]),(3,[13,12,1,0]),(4,[14,13,12,1,0]),(5,[13,12,5,1,0]),(6,[24,13,12,1,0]),(7,[4]),(8,[13,12,1,0]),(9,[4])] [(4,[13,12,1,0])]),
 (133,Zr [] [] [] [] [(0,[1,0]),(1,[8,7,1,0]),(2,[9,8,7,1,0]),(3,[8,7,5,1,0]),(4,[16,8,7,5,1,0]),(5,[4]),(6,[8,7,1,0]),(7,[4])] [(2,[8,7,1,0])]),
 (163,Zr [] [] [] [] [(0,[1,0]),(1,[8,7,1,0]),(2,[9,8,7,1,0]),(3,[8,7,5,1,0]),(4,[16,8,7,5,1,0]),(5,[4]),(6,[8,7,1,0]),(7,[4])] [(2,[8,7,1,0])]),
 (28,Zr [] [] [] [] [(0,[1,0]),(1,[10,1,0]),(2,[4]),(3,[5,1,0]),(4,[30,0]),(5,[4]),(6,[6,0]),(7,[34,6,0]),(8,[6,0]),(9,[6,0]),(10,[4])] [(7,[6,0])]),
 (18,Zr [] [] [] [] [(0,[1,0]),(1,[8,1,0]),(2,[4]),(3,[4])] []),
 (20,Zr [] [] [] [] [(0,[0]),(1,[3,0]),(2,[3,0]),(3,[3,0]),(4,[2])] []),
 (15,Zr [] [] [] [] [(0,[1,0]),(1,[4])] []),
 (60,Zr [] [] [] [] [(0,[0]),(1,[3,0]),(2,[2])] []),
 (39,Zr [] [] [] [] [(0,[2,1,0]),(1,[7,1,0]),(2,[7,1,0]),(3,[16,7,1,0]),(4,[1,0]),(5,[6])] []),
 (37,Zr [] [] [] [] [(0,[2,1]),(1,[6,2,1]),(2,[2,1]),(3,[14,2,1]),(4,[2,1]),(5,[22,2,1]),(6,[2,1]),(7,[30,2,1]),(8,[2,1]),(9,[39,2,1]),(10,[2,1]),(11,[2,1]),(12,[2])] []),
 (5,Zr [] [] [] [] [(0,[3,2]),(1,[3,2]),(2,[6,5,3,2]),(3,[26,5,3,2]),(4,[8,7,5,3,2]),(5,[10,9,8,7,5,3,2]),(6,[66,3]),(7,[4]),(8,[70,3]),(9,[4]),(10,[3]),(11,[12,11,3]),(12,[80,12,11,3]),(13,[4]),(14,[14,13,3]),(15,[4])] []),
 (9,Zr [] [] [] [] [(0,[2,1,0]),(1,[2,1,0]),(2,[7,2,1,0]),(3,[25,7,2,1,0]),(4,[6]),(5,[33,25,7,2,1,0]),(6,[33,25,7,2,1,0]),(7,[33,25,7,2,1,0]),(8,[33,25,7,2,1,0]),(9,[7,1,0]),(10,[40,25,7,2,1,0]),(11,[40,25,7,2,1,0]),(12,[7,1,0]),(13,[49,25,7,1,0]),(14,[49,25,7,1,0]),(15,[49,7,1,0]),(16,[9,8,7,1,0]),(17,[10,9,8,7]),(18,[62,9,8,7]),(19,[6]),(20,[12,11,9,8,7]),(21,[14,13,12,9,8,7]),(22,[6])] []),
 (7,Zr [] [] [] [] [(0,[2,1]),(1,[2,1]),(2,[6,5,2,1]),(3,[18,5,2,1]),(4,[4]),(5,[8,7,2]),(6,[35,8,7,2]),(7,[36,35,8,7,2]),(8,[36,35,8,7,2]),(9,[36,35,8,7,2]),(10,[36,35,8,7,2]),(11,[4]),(12,[52,8,7,2]),(13,[4]),(14,[4])] []),
 (8,Zr [] [] [] [] [(0,[3,2]),(1,[3,2]),(2,[6,5,3,2]),(3,[8,7,6,5,3,2]),(4,[30,7,5,3,2]),(5,[4]),(6,[4])] []),
 (10,Zr [] [] [] [] [(0,[1,0]),(1,[14,1,0]),(2,[1,0]),(3,[1,0]),(4,[6,5,1,0]),(5,[8,7,6,5,1,0]),(6,[33,8,7,5,1,0]),(7,[4]),(8,[9,8,7,1,0]),(9,[11,10,9,8,7,1,0]),(10,[4])] []),
 (6,Zr [] [] [] [] [(0,[2,1]),(1,[6,5,2,1]),(2,[23,5,2,1]),(3,[4]),(4,[5,2,1]),(5,[8,7,2]),(6,[44,7,2]),(7,[4]),(8,[52,7,2]),(9,[53,52,7,2]),(10,[53,52,7,2]),(11,[53,52,7,2]),(12,[53,52,7,2]),(13,[53,52,7,2]),(14,[53,52,7,2]),(15,[53,52,7,2]),(16,[53,52,7,2]),(17,[53,52,7,2]),(18,[53,52,7,2]),(19,[53,7,2]),(20,[4]),(21,[4])] []),
 (33,Zr [] [] [] [] [(0,[0]),(1,[2])] []),
 (38,Zr [] [] [] [] [(0,[]),(1,[2,1]),(2,[4,3,2,1]),(3,[0])] []),
 (4,Zr [] [] [] [] [(0,[1]),(1,[3]),(2,[5,4,3]),(3,[7,6,5,4,3]),(4,[2])] []),
 (3,Zr [] [] [] [] [(0,[4,3,2,1]),(1,[9,3,2,1]),(2,[10,9,3,2,1]),(3,[12,10,9,3,2,1]),(4,[50,12,10,3,2,1]),(5,[8]),(6,[12,10,3,2,1]),(7,[14]),(8,[15,14]),(9,[68,15,14]),(10,[15,14]),(11,[16,15,14]),(12,[18,17,16,15,14]),(13,[20,19,18,17,16,15,14]),(14,[22,21,20,19,18,17,16,15,14]),(15,[24,23,22,21,20,19,18,17,16,15,14]),(16,[144,15,14]),(17,[8]),(18,[8])] [(9,[15,14])]),
 (11,Zr [] [] [] [] [(0,[3,2,1]),(1,[7,2,1]),(2,[7,2,1]),(3,[8,7,2]),(4,[9,8,7]),(5,[11,10,9,8,7]),(6,[50,9,8,7]),(7,[6]),(8,[12,9,8,7]),(9,[13,12,9,8,7]),(10,[55,13,12,9,8,7]),(11,[13,12,9,8,7]),(12,[64,13,12,9,8,7]),(13,[13,12,9,8,7]),(14,[71,12,8,7]),(15,[6]),(16,[88,12,8,7]),(17,[6]),(18,[6])] [(10,[13,12,9,8,7])]),
 (25,Zr [] [] [] [] [(0,[0]),(1,[2])] []),
 (46,Zr [] [] [] [] [(0,[0]),(1,[3,0]),(2,[4,3,0]),(3,[12,4,3,0]),(4,[4,3,0]),(5,[4,3,0]),(6,[2])] [(3,[4,3,0])]),
 (19,Zr [] [] [(60,1,false)] [] [(0,[2,1,0]),(1,[7,2,1]),(2,[12,7,2,1]),(3,[6]),(4,[7,2,1]),(5,[20,7,2,1]),(6,[6]),(7,[7]),(8,[6])] []),
 (29,Zr [3] [] [] [] [(0,[]),(1,[1]),(2,[2,1]),(3,[0])] []),
 (49,Zr [] [] [(53,1,false)] [] [(0,[0]),(1,[6,0]),(2,[3,2]),(3,[3,2])] []),
 (100,Zr [] [] [] [] [(0,[0]),(1,[3,0]),(2,[4,3,0]),(3,[8,4,3,0]),(4,[4,3,0]),(5,[4,3,0]),(6,[2])] [(3,[4,3,0])]),
 (146,Zr [] [] [] [] [(0,[0]),(1,[8,0]),(2,[4,3,2]),(3,[5,0]),(4,[17,5,0]),(5,[4,3,2]),(6,[4,3,2])] []),
 (145,Zr [] [] [] [] [(0,[0]),(1,[7,6,5]),(2,[15,7,6,5]),(3,[4,3,2]),(4,[20,6,5]),(5,[4,3,2]),(6,[4,3,2])] []),
 (101,Zr [] [] [] [] [(0,[0]),(1,[6,5,0]),(2,[7,6,5,0]),(3,[9,7,6,5,0]),(4,[7,6,5,0]),(5,[15,7,6,5,0]),(6,[4,3,2]),(7,[7,6,5,0]),(8,[7,6,5,0]),(9,[32,7,6,5,0]),(10,[41,7,5]),(11,[4,3,2]),(12,[4,3,2]),(13,[4,3,2])] [(3,[7,6,5,0])]),
 (94,Zr [] [] [] [] [(0,[0]),(1,[6,0]),(2,[4,3,0]),(3,[17,4,0]),(4,[2]),(5,[0]),(6,[2])] [(1,[0])]),
 (53,Zr [] [] [] [] [(0,[1,0]),(1,[12,1,0]),(2,[4]),(3,[5,1,0]),(4,[6,5,0]),(5,[18,6,5,0]),(6,[6,5,0]),(7,[6,5,0]),(8,[6,5,0]),(9,[4])] [(5,[6,5,0])]),
 (48,Zr [] [] [(49,1,false)] [] [(0,[0]),(1,[6,0]),(2,[3,2]),(3,[3,2])] []),
 (140,Zr [] [] [] [] [(0,[0]),(1,[10,0]),(2,[3,2]),(3,[4,0]),(4,[12,4,0]),(5,[4,0]),(6,[4,0]),(7,[3,2])] [(4,[4,0])]),
 (138,Zr [] [] [] [] [(0,[0]),(1,[4,0]),(2,[4,0]),(3,[3,2]),(4,[11,4,0]),(5,[3,2]),(6,[15,4,0]),(7,[6,5,4,0]),(8,[24,4,0]),(9,[6,5,4,0]),(10,[33,4,0]),(11,[6,5,4,0]),(12,[45,6,5,4,0]),(13,[3,2]),(14,[7,6,5,4,0]),(15,[48,7,6,5,4,0]),(16,[7,6,5,4,0]),(17,[60,7,6,5,4,0]),(18,[3,2]),(19,[7,6,5,4,0]),(20,[83,5,4]),(21,[3,2]),(22,[3,2])] [(15,[7,6,5,4,0])]),
 (110,Zr [] [] [] [] [(0,[3,2]),(1,[4])] []),
 (95,Zr [] [] [] [] [(0,[0]),(1,[4,0]),(2,[5,4,0]),(3,[14,5,4,0]),(4,[5,4,0]),(5,[6,5,4,0]),(6,[28,6,5,4,0]),(7,[3,2]),(8,[6,5,4,0]),(9,[8,7,5,4,0]),(10,[41,7,5,4,0]),(11,[3,2]),(12,[5,4,0]),(13,[10,9,4]),(14,[3,2])] [(3,[5,4,0])]),
 (104,Zr [] [] [] [] [(0,[4,1,0]),(1,[6,4,1,0]),(2,[10,6,4,1,0]),(3,[6,4,1,0]),(4,[19,6,4,1,0]),(5,[5,4]),(6,[5,4])] [(2,[6,4,1,0])]),
 (144,Zr [] [] [] [] [(0,[0]),(1,[3]),(2,[4,3]),(3,[4,3]),(4,[4,3]),(5,[4,3]),(6,[4,3]),(7,[4,3]),(8,[4,3]),(9,[4,3]),(10,[2]),(11,[13,3]),(12,[13,3]),(13,[13,3]),(14,[13,3]),(15,[2]),(16,[18,3]),(17,[18,3]),(18,[18,3]),(19,[18,3]),(20,[2]),(21,[23,3]),(22,[2]),(23,[25,3]),(24,[25,3]),(25,[25,3]),(26,[25,3]),(27,[25,3]),(28,[25,3]),(29,[25,3]),(30,[2]),(31,[33,3]),(32,[33,3]),(33,[2]),(34,[36]),(35,[2]),(36,[2])] []),
 (50,Zr [] [] [] [] [(0,[1,0]),(1,[7,6,1,0]),(2,[17,6,1,0]),(3,[5,4]),(4,[10,9,8,6,1]),(5,[38,6]),(6,[5,4]),(7,[5,4])] []),
 (102,Zr [] [] [] [] [(0,[1,0]),(1,[5,1]),(2,[6,5,1]),(3,[6,5,1]),(4,[6,5,1]),(5,[6,5,1]),(6,[6,5,1]),(7,[4]),(8,[15,5,1]),(9,[4]),(10,[20,5,1]),(11,[4]),(12,[25,5,1]),(13,[25,5,1]),(14,[25,5,1]),(15,[25,5,1]),(16,[25,5,1]),(17,[25,5,1]),(18,[25,5,1]),(19,[25,5,1]),(20,[4]),(21,[36,5,1]),(22,[36,5,1]),(23,[4]),(24,[42,5,1]),(25,[42,5,1]),(26,[4]),(27,[47,5,1]),(28,[4]),(29,[51,5,1]),(30,[4]),(31,[56,5,1]),(32,[4]),(33,[61,5,1]),(34,[61,5,1]),(35,[61,5,1]),(36,[4]),(37,[68,5,1]),(38,[4]),(39,[72,1]),(40,[4]),(41,[4])] []),
 (96,Zr [] [] [] [] [(0,[1,0]),(1,[5,1,0]),(2,[6,5,1,0]),(3,[10,6,5,1,0]),(4,[6,5,1,0]),(5,[19,6,5,1,0]),(6,[6,5,1,0]),(7,[4])] [(3,[6,5,1,0])]),
 (67,Zr [] [] [] [] [(0,[1,0]),(1,[9,8,7,1,0]),(2,[36,8,7,1,0]),(3,[6,5,4]),(4,[10,8,7,0]),(5,[11,10,8,7,0]),(6,[45,11,10,8,7,0]),(7,[14,13,12,11,10,8,7,0]),(8,[59,13,12,11,10,8,7,0]),(9,[6,5,4]),(10,[17,16,15,13,12,11,10,8,7,0]),(11,[70,16,15,13,12,11,10,8,7,0]),(12,[6,5,4]),(13,[19,16,15,13,12,11,10,8,7,0]),(14,[90,16,15,13,12,11,10,8,7,0]),(15,[6,5,4]),(16,[20,16,15,13,11,10,8,7,0]),(17,[96,20,16,15,13,11,10,8,7,0]),(18,[6,5,4]),(19,[16,13,11,10,8,7,0]),(20,[11,10,8,7,0]),(21,[6,5,4])] [(6,[11,10,8,7,0])]),
 (72,Zr [] [] [] [] [(0,[1,0]),(1,[10,1,0]),(2,[4]),(3,[5,1,0]),(4,[14,5,1,0]),(5,[5,1,0]),(6,[26,5,1,0]),(7,[4]),(8,[4])] [(4,[5,1,0])]),
 (141,Zr [] [] [] [] [(0,[1,0]),(1,[5,1,0]),(2,[9,5,1,0]),(3,[5,1,0]),(4,[17,5,1,0]),(5,[4]),(6,[4])] [(2,[5,1,0])]),
 (139,Zr [] [] [(48,1,false)] [] [(0,[1]),(1,[16,1]),(2,[17,16,1]),(3,[3,2]),(4,[31,16,1]),(5,[3,2]),(6,[45,16,1]),(7,[3,2]),(8,[59,16,1]),(9,[5,4]),(10,[3,2]),(11,[70,16,1]),(12,[7,6]),(13,[3,2]),(14,[81,16,1]),(15,[9,8]),(16,[3,2]),(17,[92,1]),(18,[11,10,1]),(19,[13,12,11,10]),(20,[3,2]),(21,[3,2])] []),
 (105,Zr [] [] [] [] [(0,[1,0]),(1,[5,1]),(2,[6,5,1]),(3,[6,5,1]),(4,[6,5,1]),(5,[6,5,1]),(6,[6,5,1]),(7,[6,5,1]),(8,[6,5,1]),(9,[6,5,1]),(10,[16]),(11,[4]),(12,[17,5,1]),(13,[17,5,1]),(14,[17,5,1]),(15,[22]),(16,[4]),(17,[23,1]),(18,[26]),(19,[4]),(20,[4])] []),
 (103,Zr [] [] [] [] [(0,[4,1,0]),(1,[7,4,1,0]),(2,[8,7,4,1,0]),(3,[26,8,7,4,1]),(4,[27,26,8,7,4,1]),(5,[8,7,4,1]),(6,[29,26,8,7,4,1]),(7,[8,7,4,1]),(8,[31,26,8,7,4,1]),(9,[8,7,4,1]),(10,[33,26,8,7,4,1]),(11,[11,10,9,7,4]),(12,[11,10,7,4]),(13,[6,5,4]),(14,[47,26,8,7,4,1]),(15,[14,13,12,7,4]),(16,[14,13,7,4]),(17,[6,5,4]),(18,[61,26,8,7,4,1]),(19,[17,16,15,7,4]),(20,[17,16,7,4]),(21,[6,5,4]),(22,[77,8,7,4,1]),(23,[20,19,18,7,4,1]),(24,[86,19,18,7,4,1]),(25,[6,5,4]),(26,[22,21,20,19,18,7,4]),(27,[22,20,19,7,4]),(28,[6,5,4]),(29,[109,8,7,4,1]),(30,[6,5,4]),(31,[8,7,4]),(32,[6,5,4])] []),
 (36,Zr [] [] [] [] [(0,[3,2]),(1,[112,3,2]),(2,[4]),(3,[163,3,2]),(4,[4]),(5,[5,3,2]),(6,[168,5,3,2]),(7,[5,3,2]),(8,[181,5,3,2]),(9,[4]),(10,[6,3,2]),(11,[186,6,3,2]),(12,[6,3,2]),(13,[199,6,3,2]),(14,[4]),(15,[7,3,2]),(16,[204,7,3,2]),(17,[7,3,2]),(18,[217,7,3,2]),(19,[4]),(20,[9,8]),(21,[4])] [(6,[5,3,2]),(11,[6,3,2]),(16,[7,3,2])]),
 (51,Zr [] [] [] [] [(0,[0]),(1,[2])] []),
 (13,Zr [] [] [] [] [(0,[1]),(1,[5,4,1]),(2,[7,6,5,4,1]),(3,[9,8,7,6,5,4,1]),(4,[11,10,9,8,7,6,5,4,1]),(5,[12,10,8,6,4,1]),(6,[12,10,8,6,4,1]),(7,[13,12,10,8,1]),(8,[13,12,10,1]),(9,[13,12,10,1]),(10,[3,2])] []),
 (14,Zr [] [] [] [] [(0,[1]),(1,[5,4,1]),(2,[7,6,5,1]),(3,[9,8,7,6,5,1]),(4,[8,6,5,1]),(5,[10,8,5,1]),(6,[11,10,8,5,1]),(7,[72,11,10,8,5,1]),(8,[11,10,8,5,1]),(9,[11,10,8,5,1]),(10,[11,10,8,5,1]),(11,[3,2])] [(7,[11,10,8,5,1])]),
 (22,Zr [] [] [] [] [(0,[2,0]),(1,[4,2,0]),(2,[5,4,2,0]),(3,[6,5,4,2,0]),(4,[5,4,2,0]),(5,[5,4,2,0]),(6,[5,4,2,0]),(7,[48,5,4,2,0]),(8,[9,8,7,5,4,2,0]),(9,[7,5,4,2,0]),(10,[5,4,2,0]),(11,[11,10,5,4,2,0]),(12,[93,5,2]),(13,[3,2]),(14,[3,2])] []),
 (24,Zr [] [] [] [] [(0,[2,0]),(1,[4,2,0]),(2,[6,5,4,2,0]),(3,[7,6,4,2,0]),(4,[8,7,6,4,2,0]),(5,[7,6,4,2,0]),(6,[9,7,6,4,2,0]),(7,[10,9,7,6,4,2,0]),(8,[44,10,9,7,6,4,2,0]),(9,[10,9,7,6,4,2,0]),(10,[10,9,7,6,4,2,0]),(11,[7,6,4,2,0]),(12,[12,11,7,6,4,2,0]),(13,[80,7,2]),(14,[3,2]),(15,[3,2])] [(8,[10,9,7,6,4,2,0])]),
 (26,Zr [] [] [] [] [(0,[3,2]),(1,[4])] []),
 (27,Zr [] [] [] [] [(0,[3,2]),(1,[41,3,2]),(2,[4]),(3,[5,3,2]),(4,[46,5,3,2]),(5,[5,3,2]),(6,[59,5,3,2]),(7,[4]),(8,[4])] [(4,[5,3,2])]),
 (52,Zr [] [] [] [] [(0,[1,0]),(1,[5,0]),(2,[4]),(3,[4])] []),
 (1000000,{})]
def ann:Nat->Ann:=Zes {} ZMN
def Zyb:List (Nat×Bool):=[
 (28,true),
 (1000000,false)]
def BY:Nat->Bool:=Zes false Zyb
noncomputable def CF:Nat->Option ZE:=ZjB Tryd.prog ann
noncomputable def FC:Nat->Option ZE:=fun f=>(CF f).map ZlM
def ZtW:List (Nat×Option (List AVal->Za->Option (AVal×Za))):=[
 (111,some (ZhH 1 1)),
 (137,some (ZhH 5 72)),
 (142,some (ZqI)),
 (32,some (ZiO)),
 (130,some (ZiO)),
 (1000000,none)]
def PR:Zcz:=Zes none ZtW
def oI (d:Nat) (i:Ins):AOp:=⟨some d,i,none,[]⟩
def oN (i:Ins):AOp:=⟨none,i,none,[]⟩
theorem xw (c d:Ze) (h:c=d) (m:Nat) (tm:Tms) (σ:Za):evC FC PR BY m c tm σ=evC FC PR BY m d tm σ:=by rw [h]
noncomputable abbrev E:ZR:=EV FC PR BY
theorem Zh {f:Nat} {fn:ZE} (hp:PR f=none) (hf:FC f=some fn) (args:List AVal) (σ:Za):E f args σ=Zap σ.length fn (evC FC PR BY σ.length fn.body (enterA 0 args []) σ):=ZuF hp hf args σ
end
section
def Zmf:Ze:=(.seq (.region [oI 2 (.mov (.c (.lst true []))),oI 3 (.mov (.c (.int .i64 0)))] none [0]) (.seq (.seq (.region [oI 4 (.mov (.t 0)),oI 5 (.len (.t 4)),oI 6 (.bin .gtr (.t 5) (.c (.int .i64 65535)))] none [6,0]) (.cond (.t 6) (.seq (.region [oI 2 (.mov (.c (.lst true []))),oI 3 (.mov (.c (.int .i64 10)))] none [3,2]) .ret) .skip)) (.seq (.region [oI 7 (.mov (.t 0)),oI 8 (.len (.t 7)),oI 9 (.i2i .u64 (.t 8)),oI 10 (.call 59 0 true [(.t 9),(.c (.int .i64 2))]),oI 11 (.mov (.t 0)),oI 12 (.bslice false 1 2 (.lst true []) [(0,(.t 10)),(1,(.t 11))]),oI 13 (.call 56 0 true [(.t 12)]),oI 2 (.mov (.t 13)),oI 3 (.mov (.c (.int .i64 0)))] none [3,2]) .ret)))
def Zpn:ZE:=⟨[(.tmp 2),(.tmp 3)],Zmf⟩
theorem Zsg:FC 55=some Zpn:=by kernel_rfl
theorem Zvl:Zpn.body=Zmf:=rfl
theorem ZtI:Zpn.res=[(.tmp 2),(.tmp 3)]:=rfl
def ZnS:Ze:=(.seq (.region [oI 18 (.mov (.t 3)),oI 2 (.mov (.t 18))] none [2]) .ret)
def Zol:Ze:=ZnS
def ZL6:=xw Zol ZnS rfl
def Zlw:Ze:=(.seq (.region [oI 9 (.bin .lss (.t 8) (.t 7))] none [9,8,7,6,3]) (.seq (.cond (.t 9) .skip (.exit 0)) (.seq (.block 1 (.seq (.region [oI 10 (.iaddr 1 (.t 6) (.t 8)),oI 11 (.ld none (.t 10)),oI 5 (.mov (.t 11))] none [8,7,6,5,3]) (.region [oI 12 (.mov (.t 3)),oI 13 (.bin .shl (.t 12) (.c (.int .u64 8))),oI 14 (.mov (.t 5)),oI 15 (.i2i .u64 (.t 14)),oI 16 (.bin .or (.t 13) (.t 15)),oI 3 (.mov (.t 16))] none [8,7,6,3]))) (.region [oI 17 (.bin .add (.t 8) (.c (.int .i64 1))),oI 8 (.mov (.t 17))] none [8,7,6,3]))))
def Zpe:Ze:=Zlw
def ZqX:=xw Zpe Zlw rfl
def ZpJ:Ze:=(.seq (.region [oI 2 (.mov (.c (.int .u64 0)))] none [0]) (.seq (.region [oI 3 (.mov (.c (.int .u64 0)))] none [3,0]) (.seq (.seq (.region [oI 6 (.mov (.t 0)),oI 7 (.len (.t 6)),oI 8 (.mov (.c (.int .i64 0)))] none [8,7,6,3]) (.block 0 (.loop [8,7,6,3] Zpe))) Zol)))
def Zl4:ZE:=⟨[(.tmp 2)],ZpJ⟩
theorem ZNR:FC 108=some Zl4:=by kernel_rfl
theorem ZII:Zl4.body=ZpJ:=rfl
theorem ZM9:Zl4.res=[(.tmp 2)]:=rfl
noncomputable def Zmd (m:Nat) (tm:Tms) (σ:Za):Option (AVal×Za):=(Zap m Zl4 (ZbM FC PR BY m Zol (Option.map (ZaW 0) (evL FC PR BY m [8,7,6,3] Zpe tm σ))))
def ZiF:Ze:=(.seq (.region [oI 2 (.mov (.c (.lst true []))),oI 3 (.mov (.c (.int .i64 0))),oI 4 (.mov (.c (.int .i64 0)))] none [0]) (.seq (.seq (.region [oI 5 (.mov (.t 0)),oI 6 (.len (.t 5)),oI 7 (.bin .lss (.t 6) (.c (.int .i64 2))),oI 8 (.mov (.t 7)),⟨(some 9),(.mov (.t 0)),(some (8,false)),[]⟩,⟨(some 10),(.len (.t 9)),(some (8,false)),[]⟩,⟨(some 11),(.bin .sub (.t 10) (.c (.int .i64 2))),(some (8,false)),[]⟩,⟨(some 12),(.mov (.t 0)),(some (8,false)),[]⟩,⟨(some 13),(.slice 1 (.t 12) none (some (.c (.int .i64 2))) none),(some (8,false)),[]⟩,⟨(some 14),(.call 108 0 true [(.t 13)]),(some (8,false)),[]⟩,⟨(some 15),(.i2i .i64 (.t 14)),(some (8,false)),[]⟩,⟨(some 16),(.bin .lss (.t 11) (.t 15)),(some (8,false)),[]⟩,oI 17 (.pick (.t 8) (.c (.bool true)) (.t 16))] none [17,0]) (.cond (.t 17) (.seq (.region [oI 2 (.mov (.c (.lst true []))),oI 3 (.mov (.c (.int .i64 0))),oI 4 (.mov (.c (.int .i64 11)))] none [4,3,2]) .ret) .skip)) (.seq (.region [oI 18 (.mov (.t 0)),oI 19 (.slice 1 (.t 18) none (some (.c (.int .i64 2))) none),oI 20 (.call 108 0 true [(.t 19)]),oI 21 (.i2i .i64 (.t 20)),oI 22 (.bin .add (.c (.int .i64 2)) (.t 21)),oI 3 (.mov (.t 22))] none [3,0]) (.seq (.region [oI 23 (.mov (.t 0)),oI 24 (.mov (.t 3)),oI 25 (.slice 1 (.t 23) (some (.c (.int .i64 2))) (some (.t 24)) none),oI 26 (.bslice false 1 1 (.lst true []) [(0,(.t 25))]),oI 27 (.call 56 0 true [(.t 26)]),oI 28 (.mov (.t 3)),oI 2 (.mov (.t 27)),oI 3 (.mov (.t 28)),oI 4 (.mov (.c (.int .i64 0)))] none [4,3,2]) .ret))))
def Zqi:ZE:=⟨[(.tmp 2),(.tmp 3),(.tmp 4)],ZiF⟩
theorem ZqA:FC 106=some Zqi:=by kernel_rfl
theorem ZnD:Zqi.body=ZiF:=rfl
theorem ZpC:Zqi.res=[(.tmp 2),(.tmp 3),(.tmp 4)]:=rfl
def Ziz:Ze:=(.seq (.region [oI 2 (.mov (.c (.str []))),oI 3 (.mov (.c (.int .i64 0))),oI 4 (.mov (.c (.int .i64 0)))] none [0]) (.seq (.region [oI 7 (.mov (.t 0)),oI 8 (.call 106 0 true [(.t 7)]),oI 6 (.mov (.t 8)),oI 9 (.ext (.t 6) 0),oI 10 (.ext (.t 6) 1),oI 11 (.ext (.t 6) 2),oI 5 (.mov (.t 9)),oI 3 (.mov (.t 10)),oI 4 (.mov (.t 11))] none [5,4,3]) (.seq (.block 0 (.seq (.region [oI 13 (.mov (.t 4)),oI 14 (.bin .neq (.t 13) (.c (.int .i64 0))),oI 12 (.mov (.t 14))] none [12,5,4,3]) (.cond (.t 12) (.seq (.region [oI 15 (.mov (.t 4)),oI 2 (.mov (.c (.str []))),oI 3 (.mov (.c (.int .i64 0))),oI 4 (.mov (.t 15))] none [4,3,2]) .ret) (.seq (.region [oI 17 (.mov (.t 5)),oI 18 (.b2s (.t 17)),oI 19 (.call 97 0 true [(.t 18)]),oI 20 (.un .not (.t 19)),oI 16 (.mov (.t 20))] none [16,5,3]) (.cond (.t 16) (.seq (.region [oI 2 (.mov (.c (.str []))),oI 3 (.mov (.c (.int .i64 0))),oI 4 (.mov (.c (.int .i64 13)))] none [4,3,2]) .ret) .skip))))) (.seq (.region [oI 21 (.mov (.t 5)),oI 22 (.b2s (.t 21)),oI 23 (.mov (.t 3)),oI 2 (.mov (.t 22)),oI 3 (.mov (.t 23)),oI 4 (.mov (.c (.int .i64 0)))] none [4,3,2]) .ret))))
def Zmm:ZE:=⟨[(.tmp 2),(.tmp 3),(.tmp 4)],Ziz⟩
theorem Zr6:FC 109=some Zmm:=by kernel_rfl
theorem ZoJ:Zmm.body=Ziz:=rfl
theorem Zoz:Zmm.res=[(.tmp 2),(.tmp 3),(.tmp 4)]:=rfl
def Ziv:Ze:=(.seq (.seq (.region [oI 36 (.mov (.t 0)),oI 37 (.len (.t 36)),oI 38 (.bin .lss (.t 37) (.c (.int .i64 4)))] none [38]) (.cond (.t 38) (.seq (.region [oI 2 (.mov (.c (.int .i64 0))),oI 3 (.mov (.c (.int .i64 0))),oI 4 (.mov (.c (.int .i64 11)))] none [4,3,2]) .ret) .skip)) (.seq (.region [oI 2 (.mov (.c (.int .i64 0))),oI 3 (.mov (.c (.int .i64 0))),oI 4 (.mov (.c (.int .i64 12)))] none [4,3,2]) .ret))
def ZmS:Ze:=Ziv
def Zpp:=xw ZmS Ziv rfl
def Zfv:Ze:=(.seq (.region [oI 10 (.bin .lss (.t 9) (.t 8))] none [10,9,8,7,2,0]) (.seq (.cond (.t 10) .skip (.exit 0)) (.seq (.block 1 (.seq (.region [oI 11 (.mov (.t 9)),oI 12 (.iaddr 1 (.t 7) (.t 9)),oI 13 (.ld none (.t 12)),oI 5 (.mov (.t 11)),oI 6 (.mov (.t 13))] none [9,8,7,6,5,2,0]) (.seq (.seq (.region [oI 14 (.mov (.t 5)),oI 15 (.bin .eql (.t 14) (.c (.int .i64 4)))] none [15,9,8,7,6,5,2,0]) (.cond (.t 15) (.exit 0) .skip)) (.seq (.region [oI 16 (.mov (.t 2)),oI 17 (.mov (.t 6)),oI 18 (.bin .and (.t 17) (.c (.int .u8 127))),oI 19 (.i2i .i64 (.t 18)),oI 20 (.mov (.t 5)),oI 21 (.bin .mul (.c (.int .i64 7)) (.t 20)),oI 22 (.bin .shl (.t 19) (.t 21)),oI 23 (.bin .or (.t 16) (.t 22)),oI 2 (.mov (.t 23))] none [9,8,7,6,5,2,0]) (.seq (.region [oI 24 (.mov (.t 6)),oI 25 (.bin .lss (.t 24) (.c (.int .u8 128)))] none [25,9,8,7,6,5,2,0]) (.cond (.t 25) (.seq (.seq (.region [oI 26 (.mov (.t 6)),oI 27 (.bin .eql (.t 26) (.c (.int .u8 0))),oI 28 (.mov (.t 27)),⟨(some 29),(.mov (.t 5)),(some (28,true)),[]⟩,⟨(some 30),(.bin .gtr (.t 29) (.c (.int .i64 0))),(some (28,true)),[]⟩,oI 31 (.pick (.t 28) (.t 30) (.c (.bool false)))] none [31,5,2]) (.cond (.t 31) (.seq (.region [oI 2 (.mov (.c (.int .i64 0))),oI 3 (.mov (.c (.int .i64 0))),oI 4 (.mov (.c (.int .i64 12)))] none [4,3,2]) .ret) .skip)) (.seq (.region [oI 32 (.mov (.t 2)),oI 33 (.mov (.t 5)),oI 34 (.bin .add (.t 33) (.c (.int .i64 1))),oI 2 (.mov (.t 32)),oI 3 (.mov (.t 34)),oI 4 (.mov (.c (.int .i64 0)))] none [4,3,2]) .ret)) .skip)))))) (.region [oI 35 (.bin .add (.t 9) (.c (.int .i64 1))),oI 9 (.mov (.t 35))] none [9,8,7,2,0]))))
def ZmK:Ze:=Zfv
def Zg3:=xw ZmK Zfv rfl
def ZoU:Ze:=(.seq (.region [oI 2 (.mov (.c (.int .i64 0))),oI 3 (.mov (.c (.int .i64 0))),oI 4 (.mov (.c (.int .i64 0)))] none [2,0]) (.seq (.seq (.region [oI 7 (.mov (.t 0)),oI 8 (.len (.t 7)),oI 9 (.mov (.c (.int .i64 0)))] none [9,8,7,2,0]) (.block 0 (.loop [9,8,7,2,0] ZmK))) ZmS))
def Zl1:ZE:=⟨[(.tmp 2),(.tmp 3),(.tmp 4)],ZoU⟩
theorem ZCJ:FC 135=some Zl1:=by kernel_rfl
theorem ZKU:Zl1.body=ZoU:=rfl
theorem ZhY:Zl1.res=[(.tmp 2),(.tmp 3),(.tmp 4)]:=rfl
noncomputable def ZhX (m:Nat) (tm:Tms) (σ:Za):Option (AVal×Za):=(Zap m Zl1 (ZbM FC PR BY m ZmS (Option.map (ZaW 0) (evL FC PR BY m [9,8,7,2,0] ZmK tm σ))))
def ZmZ:Ze:=(.seq (.region [oI 12 (.mov (.t 0)),oI 13 (.call 142 0 true [(.t 12)]),oI 2 (.mov (.t 13))] none [2]) .ret)
def ZnN:Ze:=ZmZ
def ZNe:=xw ZnN ZmZ rfl
def Zjm:Ze:=(.seq (.region [oI 7 (.nxt (.t 6)),oI 8 (.ext (.t 7) 0)] none [8,7,6,0]) (.seq (.cond (.t 8) .skip (.exit 0)) (.block 1 (.seq (.region [oI 9 (.ext (.t 7) 2),oI 4 (.mov (.t 9))] none [6,4,0]) (.seq (.region [oI 10 (.mov (.t 4)),oI 11 (.bin .eql (.t 10) (.c (.int .i32 0)))] none [11,6,0]) (.cond (.t 11) (.seq (.region [oI 2 (.mov (.c (.bool false)))] none [2]) .ret) .skip))))))
def ZoL:Ze:=Zjm
def Zqz:=xw ZoL Zjm rfl
def ZnI:Ze:=(.seq (.region [oI 2 (.mov (.c (.bool false)))] none [0]) (.seq (.seq (.region [oI 5 (.mov (.t 0)),oI 6 (.rng (.t 5))] none [6,0]) (.block 0 (.loop [6,0] ZoL))) ZnN))
def Zkq:ZE:=⟨[(.tmp 2)],ZnI⟩
theorem ZAN:FC 97=some Zkq:=by kernel_rfl
theorem ZBX:Zkq.body=ZnI:=rfl
theorem ZtN:Zkq.res=[(.tmp 2)]:=rfl
noncomputable def ZlF (m:Nat) (tm:Tms) (σ:Za):Option (AVal×Za):=(Zap m Zkq (ZbM FC PR BY m ZnN (Option.map (ZaW 0) (evL FC PR BY m [6,0] ZoL tm σ))))
def Zou:Ze:=(.seq (.region [oI 16 (.mov (.t 3)),oI 2 (.mov (.t 16))] none [2]) .ret)
def Zpr:Ze:=Zou
def ZIA:=xw Zpr Zou rfl
def Zik:Ze:=(.seq (.region [oI 9 (.bin .lss (.t 8) (.t 7))] none [9,8,7,6,3]) (.seq (.cond (.t 9) .skip (.exit 0)) (.seq (.block 1 (.seq (.region [oI 10 (.iaddr 1 (.t 6) (.t 8)),oI 11 (.ld none (.t 10)),oI 5 (.mov (.t 11))] none [8,7,6,5,3]) (.region [oI 12 (.mov (.t 3)),oI 13 (.mov (.t 5)),oI 14 (.app 1 1 (.int .u8 0) (.t 12) (.t 13)),oI 3 (.mov (.t 14))] none [8,7,6,3]))) (.region [oI 15 (.bin .add (.t 8) (.c (.int .i64 1))),oI 8 (.mov (.t 15))] none [8,7,6,3]))))
def ZqH:Ze:=Zik
def Znb:=xw ZqH Zik rfl
def ZmX:Ze:=(.seq (.region [oI 2 (.mov (.c (.lst true [])))] none [0]) (.seq (.region [oI 3 (.mov (.c (.lst true [])))] none [3,0]) (.seq (.seq (.region [oI 6 (.mov (.t 0)),oI 7 (.len (.t 6)),oI 8 (.mov (.c (.int .i64 0)))] none [8,7,6,3]) (.block 0 (.loop [8,7,6,3] ZqH))) Zpr)))
def Zj3:ZE:=⟨[(.tmp 2)],ZmX⟩
theorem ZzL:FC 56=some Zj3:=by kernel_rfl
theorem ZKe:Zj3.body=ZmX:=rfl
theorem ZDP:Zj3.res=[(.tmp 2)]:=rfl
noncomputable def Zk6 (m:Nat) (tm:Tms) (σ:Za):Option (AVal×Za):=(Zap m Zj3 (ZbM FC PR BY m Zpr (Option.map (ZaW 0) (evL FC PR BY m [8,7,6,3] ZqH tm σ))))
def Zo1:Ze:=(.seq (.region [oI 28 (.mov (.t 5)),oI 4 (.mov (.t 28))] none [4]) .ret)
def Znh:Ze:=Zo1
def ZOR:=xw Znh Zo1 rfl
def Zkw:Ze:=(.seq (.seq (.region [oI 17 (.mov (.t 6)),oI 18 (.bin .geq (.t 17) (.c (.int .i64 0)))] none [18,6,5,0]) (.cond (.t 18) .skip (.exit 0))) (.seq (.block 1 (.seq (.region [oI 21 (.mov (.t 5)),oI 22 (.mov (.t 6)),oI 23 (.mov (.t 0)),oI 24 (.i2i .u8 (.t 23)),oI 25 (.iaddr 1 (.t 21) (.t 22)),oN (.st 1 (.t 25) (.t 24))] none [6,5,0]) (.region [oI 26 (.mov (.t 0)),oI 27 (.bin .shr (.t 26) (.c (.int .u64 8))),oI 0 (.mov (.t 27))] none [6,5,0]))) (.region [oI 19 (.mov (.t 6)),oI 20 (.bin .sub (.t 19) (.c (.int .i64 1))),oI 6 (.mov (.t 20))] none [6,5,0])))
def Zqv:Ze:=Zkw
def Zti:=xw Zqv Zkw rfl
def ZnY:Ze:=(.seq (.region [oI 4 (.mov (.c (.lst true [])))] none [1,0]) (.seq (.seq (.region [oI 7 (.mov (.t 1)),oI 8 (.bin .lss (.t 7) (.c (.int .i64 1))),oI 9 (.mov (.t 8)),⟨(some 10),(.mov (.t 1)),(some (9,false)),[]⟩,⟨(some 11),(.bin .gtr (.t 10) (.c (.int .i64 8))),(some (9,false)),[]⟩,oI 12 (.pick (.t 9) (.c (.bool true)) (.t 11))] none [12,1,0]) (.cond (.t 12) (.seq (.region [oI 4 (.mov (.c (.lst true [])))] none [4]) .ret) .skip)) (.seq (.region [oI 13 (.mov (.t 1)),oI 14 (.mkslice 1 1 (.int .u8 0) (.t 13) (.t 13)),oI 5 (.mov (.t 14))] none [5,1,0]) (.seq (.seq (.region [oI 15 (.mov (.t 1)),oI 16 (.bin .sub (.t 15) (.c (.int .i64 1))),oI 6 (.mov (.t 16))] none [6,5,0]) (.block 0 (.loop [6,5,0] Zqv))) Znh))))
def ZkJ:ZE:=⟨[(.tmp 4)],ZnY⟩
theorem ZLw:FC 59=some ZkJ:=by kernel_rfl
theorem ZFL:ZkJ.body=ZnY:=rfl
theorem ZJo:ZkJ.res=[(.tmp 4)]:=rfl
noncomputable def ZlL (m:Nat) (tm:Tms) (σ:Za):Option (AVal×Za):=(Zap m ZkJ (ZbM FC PR BY m Znh (Option.map (ZaW 0) (evL FC PR BY m [6,5,0] Zqv tm σ))))
def Zls:Ze:=(.seq (.region [oI 2 (.mov (.c (.lst true []))),oI 3 (.mov (.c (.int .i64 0)))] none [0]) (.seq (.seq (.region [oI 4 (.mov (.t 0)),oI 5 (.call 97 0 true [(.t 4)]),oI 6 (.un .not (.t 5))] none [6,0]) (.cond (.t 6) (.seq (.region [oI 2 (.mov (.c (.lst true []))),oI 3 (.mov (.c (.int .i64 13)))] none [3,2]) .ret) .skip)) (.seq (.region [oI 7 (.mov (.t 0)),oI 8 (.s2b (.t 7)),oI 9 (.call 55 0 true [(.t 8)]),oI 10 (.ext (.t 9) 0),oI 11 (.ext (.t 9) 1),oI 2 (.mov (.t 10)),oI 3 (.mov (.t 11))] none [3,2]) .ret)))
def Zo7:ZE:=⟨[(.tmp 2),(.tmp 3)],Zls⟩
theorem ZtF:FC 54=some Zo7:=by kernel_rfl
theorem Zvv:Zo7.body=Zls:=rfl
theorem ZsL:Zo7.res=[(.tmp 2),(.tmp 3)]:=rfl
def ZkM:Ze:=(.seq (.region [oI 21 (.mov (.t 4)),oI 22 (.mov (.t 0)),oI 23 (.i2i .u8 (.t 22)),oI 24 (.bslice false 1 1 (.int .u8 0) [(0,(.t 23))]),oI 25 (.app 1 1 (.int .u8 0) (.t 21) (.t 24)),oI 2 (.mov (.t 25)),oI 3 (.mov (.c (.int .i64 0)))] none [3,2]) .ret)
def Zpc:Ze:=ZkM
def Zsa:=xw Zpc ZkM rfl
def ZhV:Ze:=(.seq (.seq (.region [oI 11 (.mov (.t 0)),oI 12 (.bin .gtr (.t 11) (.c (.int .i64 127)))] none [12,4,0]) (.cond (.t 12) .skip (.exit 0))) (.seq (.block 1 (.region [oI 15 (.mov (.t 4)),oI 16 (.mov (.t 0)),oI 17 (.i2i .u8 (.t 16)),oI 18 (.bin .or (.t 17) (.c (.int .u8 128))),oI 19 (.bslice false 1 1 (.int .u8 0) [(0,(.t 18))]),oI 20 (.app 1 1 (.int .u8 0) (.t 15) (.t 19)),oI 4 (.mov (.t 20))] none [4,0])) (.region [oI 13 (.mov (.t 0)),oI 14 (.bin .shr (.t 13) (.c (.int .u64 7))),oI 0 (.mov (.t 14))] none [4,0])))
def Zow:Ze:=ZhV
def Zkl:=xw Zow ZhV rfl
def ZiR:Ze:=(.seq (.region [oI 2 (.mov (.c (.lst true []))),oI 3 (.mov (.c (.int .i64 0)))] none [0]) (.seq (.seq (.region [oI 5 (.mov (.t 0)),oI 6 (.bin .lss (.t 5) (.c (.int .i64 0))),oI 7 (.mov (.t 6)),⟨(some 8),(.mov (.t 0)),(some (7,false)),[]⟩,⟨(some 9),(.bin .gtr (.t 8) (.c (.int .i64 268435455))),(some (7,false)),[]⟩,oI 10 (.pick (.t 7) (.c (.bool true)) (.t 9))] none [10,0]) (.cond (.t 10) (.seq (.region [oI 2 (.mov (.c (.lst true []))),oI 3 (.mov (.c (.int .i64 10)))] none [3,2]) .ret) .skip)) (.seq (.region [oI 4 (.mov (.c (.lst true [])))] none [4,0]) (.seq (.block 0 (.loop [4,0] Zow)) Zpc))))
def ZkK:ZE:=⟨[(.tmp 2),(.tmp 3)],ZiR⟩
theorem ZBs:FC 82=some ZkK:=by kernel_rfl
theorem ZmV:ZkK.body=ZiR:=rfl
theorem ZlG:ZkK.res=[(.tmp 2),(.tmp 3)]:=rfl
noncomputable def ZkW (m:Nat) (tm:Tms) (σ:Za):Option (AVal×Za):=(Zap m ZkK (ZbM FC PR BY m Zpc (Option.map (ZaW 0) (evL FC PR BY m [4,0] Zow tm σ))))
end
section
open Go.RowKit
inductive Ty where
 | bool
 | int (k:IntKind)
 | str
 | slice (s:Bool) (e:Ty)
 | struct (fs:List Ty)
 deriving Inhabited
def ZdU:Option TypeDesc->Bool
 | some (.struct _)=>true
 | some (.array _ _)=>true
 | _=>false
def Zii (P:Program):Nat->List Field->Nat->Bool
 | at',[],n=>at' == n
 | at',f::fs,n=>f.offset == at' && Zii P (at'+P.cellsOf f.type) fs n
def ZdA (P:Program):Nat->TypeId->Option Ty
 | 0,_=>none
 | n+1,t=>match P.underlying t with
  | some .bool=>some .bool
  | some (.int k)=>some (.int k)
  | some .string=>some .str
  | some (.slice e)=>if 0 < P.cellsOf e then (ZdA P n e).map (.slice (ZdU (P.underlying e))) else none
  | some (.struct fs)=>if Zii P 0 fs.toList (P.cellsOf t) then (fs.toList.mapM fun f=>ZdA P n f.type).map .struct else none
  | _=>none
def ZbS (s:Bool) (y:List AVal):AVal:=if s then .agg y else y.headD .nilp
def Imm.of (w:World):Imm:=fun b o=>w.cell? ⟨b,o,none⟩
section
variable {H:Type} {enc:TypeId×Value->H} {P:Program} {w:World} {spare:Nat->Bool} {held:Bool}
theorem ZNV {b off:Nat} {s:Option Nat} {u:Value} (h:w.cell? ⟨b,off,s⟩=some u):s=none:=by
 unfold World.cell? at h
 split at h
 ·rcases s with _ | s
  ·rfl
  ·simp at h
 ·cases h
theorem Zxz {s:Bool} {y:List AVal} (h:s=false->y.length=1) (h1:s=false->∀ x ∈ y,ZV x=true):(ZbS s y).cells=y:=by
 cases s with
 | true=>rfl
 | false =>
  match y,h rfl with
  | [x],_ =>
   have:=h1 rfl x (by simp)
   cases x <;> simp_all [ZbS,AVal.cells,ZV]
theorem ZBz {a:Addr} (h:a.spot=none) (n:Nat):a.add n=⟨a.block,a.off+n,none⟩:=by
 unfold Addr.add
 split
 ·rename_i e;subst e;cases a;simp_all
 ·rfl
theorem ZHU {I:Imm} {β:Bmap} {xs:List AVal} {vs:List Value} {n:Nat} (h:VRs I β xs (vs.take n)) {ys:List AVal} (h':VRs I β ys (vs.drop n)):VRs I β (xs++ys) vs:=by
 have:=ZcJ h h'
 rwa [List.take_append_drop] at this
theorem ZuB {α β:Type} {f:α->Option β} {a:α} {l:List α} {r:List β} (h:(a::l).mapM f=some r):∃ b r',f a=some b/\l.mapM f=some r'/\r=b::r':=by
 rw [List.mapM_cons] at h
 simp only [Option.bind_eq_bind,Option.bind_eq_some_iff,Option.pure_def,Option.some.injEq] at h
 obtain ⟨b,h1,r',h2,h3⟩:=h
 exact ⟨b,r',h1,h2,h3.symm⟩
theorem Zwq {a b:List AVal} (ha:ZaG a=true) (hb:ZaG b=true):ZaG (a++b)=true:=by
 induction a with
 | nil=>exact hb
 | cons x a ih=>simp only [List.cons_append,ZaG,Bool.and_eq_true] at ha ⊢;exact ⟨ha.1,ih ha.2⟩
theorem Zvg {I:Imm} {β:Bmap} {s:Bool} {k b:Nat}:∀ (n off:Nat) (Y:Nat->List AVal),(∀ i,i < n->(ZbS s (Y i)).cells.length=k/\CR I β (ZbS s (Y i)).cells b (off+i*k))->LR I β k ((List.range n).map fun i=>ZbS s (Y i)) b off
 | 0,off,Y,_=>by simp [LR]
 | n+1,off,Y,h=>by
  rw [List.range_succ_eq_map,List.map_cons,ZfA]
  have h0:=h 0 (by omega)
  simp only [Nat.zero_mul,Nat.add_zero] at h0
  refine ⟨h0,?_⟩
  rw [List.map_map]
  exact Zvg n (off+k) (fun i=>Y (i+1)) (fun i hi=>by
   have:=h (i+1) (by omega)
   rw [show off+k+i*k=off+(i+1)*k by rw [Nat.succ_mul];omega]
   exact this)
theorem ZuS {I:Imm} {β:Bmap} {b:Nat}:∀ (xs:List AVal) (cs:List Value) (off:Nat),VRs I β xs cs->(∀ i,i < cs.length->I b (off+i)=cs[i]?)->CR I β xs b off
 | [],_,_,_,_=>by simp only [CR]
 | x::xs,cs,off,h,hI=>by
  simp only [VRs] at h
  obtain ⟨v,vs',rfl,h1,h2⟩:=h
  simp only [CR]
  refine ⟨⟨v,by have:=hI 0 (by simp);simpa using this,h1⟩,ZuS xs vs' (off+1) h2 fun i hi=>?_⟩
  have:=hI (i+1) (by simp;omega)
  rw [show off+1+i=off+(i+1) by omega,this]
  simp
theorem ZpG {s:Bool}:∀ (n:Nat) (Y:Nat->List AVal),(∀ i,i < n->ZaG (ZbS s (Y i)).cells=true)->Zab ((List.range n).map fun i=>ZbS s (Y i))=true
 | 0,Y,_=>by simp [Zab]
 | n+1,Y,h=>by
  rw [List.range_succ_eq_map,List.map_cons,ZrX,h 0 (by omega),List.map_map]
  simp only [Bool.true_and]
  exact ZpG n (fun i=>Y (i+1)) (fun i hi=>h (i+1) (by omega))
theorem Zq2 {xs:List AVal} (h:ZaG xs=true):∀ x ∈ xs,ZV x=true:=by
 induction xs with
 | nil=>intro x hx;simp at hx
 | cons y ys ih =>
  simp only [ZaG,Bool.and_eq_true] at h
  intro x hx
  rcases List.mem_cons.1 hx with rfl | hx
  ·cases x <;> simp_all [ZaN,ZV]
  ·exact ih h.2 x hx
theorem Rel.start (w:World) (hG:Gl.le (Imm.of w)):Rel (fun b=>b < w.heap.size) w (Imm.of w) (Imm.of w) B0 [] w where
 below:=KB.refl _ w
 old:=fun _ _ _=>rfl
 imm:=fun _ _ _ h=>h
 blk:=fun t x h=>by simp at h
 own:=fun t x b h=>by simp at h
 apart:=fun t x t' x' b h=>by simp at h
 fresh:=fun _ _ _=>rfl
 free:=fun t g h=>by simp at h
 gen:=fun t b g h=>by simp at h
 glob:=hG
theorem Zxm {O:ZR} (hO:ZaK P O) {f:Nat} {args:List AVal} {vs:Array Value} {σ':Za} (hG:Gl.le (Imm.of w)) (hargs:VRs (Imm.of w) B0 args vs.toList) (h:O f args []=some (.bool true,σ')) :
  Calls P f vs w (fun e w'=>e=.returned (.bool true)/\Below w.heap.size w w'):=by
 refine ((hO f args [] _ _ h).2 _ w _ _ B0 w vs (fun b hb=>hb) (Rel.start w hG) hargs).mono ?_
 rintro e w' ⟨u,he,I',β',_,_,R,hv⟩
 simp only [ZaS,VR] at hv
 subst hv
 exact ⟨he,R.below.os,R.below.tape,R.below.output,R.below.size,R.below.block⟩
end
end
section
open Go.RowKit
theorem ZGV (id:Nat) (tm:Tms) (σ:Za):ZaW id (.normal,tm,σ)=(.normal,tm,σ):=rfl
theorem ZE7 (id i:Nat) (tm:Tms) (σ:Za):ZaW id (.exit i,tm,σ)=if i=id then (.normal,tm,σ) else (.exit i,tm,σ):=by simp only [ZaW]
theorem ZJT (id:Nat) (tm:Tms) (σ:Za):ZaW id (.ret,tm,σ)=(.ret,tm,σ):=rfl
theorem ZMf (id:Nat) (x:AVal) (tm:Tms) (σ:Za):ZaW id (.panic x,tm,σ)=(.panic x,tm,σ):=rfl
section
variable (O:ZR) (bf:Nat->Bool)
def ZdJ (c:Cls):Option (Tms×Za×List Cls×Option AVal)->Option (Tms×Za×List Cls×Option AVal)
 | none=>none
 | some (tm,σ,cs,p)=>some (tm,σ,c::cs,p)
def Zg1 (c:List Cls):Option (Tms×Za×List Cls×Option AVal)->Option (Tms×Za×List Cls×Option AVal)
 | none=>none
 | some (tm,σ,cs,p)=>some (tm,σ,c++cs,p)
def kC (d:Option Nat) (os:List AOp) (s:Nat) (tm:Tms):Option (AVal×Za×Cls)->Option (Tms×Za×List Cls×Option AVal)
 | none=>none
 | some (v,σ,c)=>if ZaM v then some (tput tm d v,σ,[c],some (ZaS v)) else ZdJ c (ZY O bf os s (tput tm d v) σ)
def ZeI (ops:List AOp) (L:Nat) (l:List (Nat×Nat)) (live:List Nat):Option (Tms×Za×List Cls×Option AVal)->Option (ZaT×Tms×Za)
 | none=>none
 | some (_,σ,cs,some x)=>if Zdh ops L l cs then some (.panic x,[],σ) else none
 | some (tm,σ,cs,none)=>if Zdi ops L l cs then some (.normal,keepL live tm,σ) else none
variable {O bf}
theorem Zud (s:Nat) (tm:Tms) (σ:Za):ZY O bf [] s tm σ=some (tm,σ,[],none):=rfl
theorem ZDJ (c:Cls) (tm:Tms) (σ:Za) (cs:List Cls) (p:Option AVal):ZdJ c (some (tm,σ,cs,p))=some (tm,σ,c::cs,p):=rfl
theorem ZCN (c:Cls):ZdJ c none=none:=rfl
theorem ZEw (c:Cls) (q:Prop) [Decidable q] (x y:Option (Tms×Za×List Cls×Option AVal)):ZdJ c (if q then x else y)=if q then ZdJ c x else ZdJ c y:=by split <;> rfl
theorem ZKQ (c:List Cls) (tm:Tms) (σ:Za) (cs:List Cls) (p:Option AVal):Zg1 c (some (tm,σ,cs,p))=some (tm,σ,c++cs,p):=rfl
theorem ZJ7 (c:List Cls):Zg1 c none=none:=rfl
theorem ZE6 (c:List Cls) (q:Prop) [Decidable q] (x y:Option (Tms×Za×List Cls×Option AVal)):Zg1 c (if q then x else y)=if q then Zg1 c x else Zg1 c y:=by split <;> rfl
theorem ZkG {o:AOp} {os:List AOp} {s:Nat} {tm tm1:Tms} {σ σ1:Za} {v:AVal} {c:Cls} (h:ZL O bf o s tm σ=some (v,tm1,σ1,c)) (hn:ZaM v=false):ZY O bf (o::os) s tm σ=ZdJ c (ZY O bf os (s+nsite o.ins) tm1 σ1):=by
 rw [Zuk h hn]
 cases ZY O bf os (s+nsite o.ins) tm1 σ1 <;> rfl
theorem Zo0 (d:Option Nat) (i:Ins) (af:List Nat) (os:List AOp) (s:Nat) (tm:Tms) (σ:Za):ZY O bf (⟨d,i,none,af⟩::os) s tm σ=kC O bf d os (s+nsite i) tm (exI O bf i s tm σ):=by
 cases h:exI O bf i s tm σ with
 | none=>exact Zjf (by rw [ZlR,h];rfl)
 | some q =>
  obtain ⟨v,σ1,c⟩:=q
  have hs:ZL O bf ⟨d,i,none,af⟩ s tm σ=some (v,tput tm d v,σ1,c):=by rw [ZlR,h];rfl
  cases hp:ZaM v with
  | true =>
   obtain ⟨x,rfl⟩:=ZkI hp
   exact Zlq hs
  | false =>
   rw [ZkG hs hp]
   simp only [kC,hp,Bool.false_eq_true,if_false]
theorem ZoT (d:Option Nat) (os:List AOp) (s:Nat) (tm:Tms) (v:AVal) (σ:Za) (c:Cls) (h:ZaM v=false):kC O bf d os s tm (some (v,σ,c))=ZdJ c (ZY O bf os s (tput tm d v) σ):=by
 simp only [kC,h,Bool.false_eq_true,if_false]
theorem Zwp (d:Option Nat) (os:List AOp) (s:Nat) (tm:Tms) (x:AVal) (σ:Za) (c:Cls):kC O bf d os s tm (some (.pan x,σ,c))=some (tput tm d (.pan x),σ,[c],some x):=rfl
theorem ZJL (d:Option Nat) (os:List AOp) (s:Nat) (tm:Tms):kC O bf d os s tm none=none:=rfl
theorem ZOT (d:Option Nat) (os:List AOp) (s:Nat) (tm:Tms) (q:Prop) [Decidable q] (x y:Option (AVal×Za×Cls)):kC O bf d os s tm (if q then x else y)=if q then kC O bf d os s tm x else kC O bf d os s tm y:=by split <;> rfl
theorem ZAm (ops:List AOp) (l:List (Nat×Nat)) (live:List Nat) (tm:Tms) (σ:Za):Zb6 O bf ops (some l) live tm σ=ZeI ops σ.length l live (ZY O bf ops σ.length tm (σ++List.replicate (sitesOf ops) .free)):=by
 unfold Zb6
 cases ZY O bf ops σ.length tm (σ++List.replicate (sitesOf ops) .free) with
 | none=>rfl
 | some q =>
  obtain ⟨tm',σ',cs,p⟩:=q
  cases p <;> rfl
theorem ZvV (ops:List AOp) (L:Nat) (l:List (Nat×Nat)) (live:List Nat) (tm:Tms) (σ:Za) (cs:List Cls) (h:Zdi ops L l cs=true):ZeI ops L l live (some (tm,σ,cs,none))=some (.normal,keepL live tm,σ):=by
 simp only [ZeI,h,if_true]
theorem Zhy (ops:List AOp) (L:Nat) (l:List (Nat×Nat)) (live:List Nat) (tm:Tms) (σ:Za) (cs:List Cls) (x:AVal) (h:Zdh ops L l cs=true):ZeI ops L l live (some (tm,σ,cs,some x))=some (.panic x,[],σ):=by
 simp only [ZeI,h,if_true]
theorem Zwz (ops:List AOp) (L:Nat) (l:List (Nat×Nat)) (live:List Nat):ZeI ops L l live none=none:=rfl
theorem ZDZ (ops:List AOp) (L:Nat) (l:List (Nat×Nat)) (live:List Nat) (q:Prop) [Decidable q] (x y:Option (Tms×Za×List Cls×Option AVal)):ZeI ops L l live (if q then x else y)=if q then ZeI ops L l live x else ZeI ops L l live y:=by split <;> rfl
theorem ZJ1 (ops:List AOp) (L:Nat) (l:List (Nat×Nat)) (cs:List Cls) (h:(cs.all fun c=>c.wr.isEmpty && !c.any)=true) (hs:(l.all fun p=>p.1 == p.2 || nsite (ops.getD p.1 default).ins == 0)=true):Zdi ops L l cs=true:=by
 have hd:∀ i,ZdE (cs.getD i {})=true:=by
  intro i
  rw [List.all_eq_true] at h
  rw [List.getD_eq_getElem?_getD]
  cases hi:cs[i]? with
  | none=>rfl
  | some c=>exact h c (List.mem_of_getElem? hi)
 unfold Zdi
 rw [List.all_eq_true] at hs ⊢
 intro p hp
 have:=hs p hp
 rw [Bool.or_eq_true] at this ⊢
 rcases this with this | this
 ·exact Or.inl this
 ·refine Or.inr ?_
  unfold Zct
  simp only [hd,this,Bool.and_true,Bool.true_and,Bool.true_or,Bool.or_true]
theorem ZKa (ops:List AOp) (L:Nat) (l:List (Nat×Nat)) (live:List Nat) (tm:Tms) (σ:Za) (cs:List Cls) (h:(cs.all fun c=>c.wr.isEmpty && !c.any)=true) (hs:(l.all fun p=>p.1 == p.2 || nsite (ops.getD p.1 default).ins == 0)=true):ZeI ops L l live (some (tm,σ,cs,none))=some (.normal,keepL live tm,σ) :=
 ZvV _ _ _ _ _ _ _ (ZJ1 _ _ _ _ h hs)
variable (O bf) in
def gKC (os:List AOp) (s:Nat):Option (Tms×Za×List Cls×Option AVal)->Option (Tms×Za×List Cls×Option AVal)
 | none=>none
 | some (tm,σ,cs,some x)=>some (tm,σ,cs,some x)
 | some (tm,σ,cs,none)=>Zg1 cs (ZY O bf os s tm σ)
theorem ZBS (os:List AOp) (s:Nat) (tm:Tms) (σ:Za) (cs:List Cls):gKC O bf os s (some (tm,σ,cs,none))=Zg1 cs (ZY O bf os s tm σ):=rfl
theorem ZPj (os:List AOp) (s:Nat) (q:Prop) [Decidable q] (x y:Option (Tms×Za×List Cls×Option AVal)):gKC O bf os s (if q then x else y)=if q then gKC O bf os s x else gKC O bf os s y:=by split <;> rfl
theorem Zx6 (os:List AOp) (s:Nat) (c:Cls) (r:Option (Tms×Za×List Cls×Option AVal)):gKC O bf os s (ZdJ c r)=ZdJ c (gKC O bf os s r):=by
 cases r with
 | none=>rfl
 | some q =>
  obtain ⟨tm,σ,cs,p⟩:=q
  cases p with
  | some x=>rfl
  | none =>
   simp only [ZdJ,gKC]
   cases ZY O bf os s tm σ <;> rfl
theorem ZrZ:∀ (a b:List AOp) (s:Nat) (tm:Tms) (σ:Za),ZY O bf (a++b) s tm σ=gKC O bf b (s+sitesOf a) (ZY O bf a s tm σ)
 | [],b,s,tm,σ=>by
  simp only [List.nil_append,Zud,gKC,sitesOf,List.map_nil,List.sum_nil,Nat.add_zero]
  cases ZY O bf b s tm σ <;> rfl
 | o::a,b,s,tm,σ=>by
  have ih:=ZrZ a b
  simp only [List.cons_append]
  have hs:s+nsite o.ins+sitesOf a=s+sitesOf (o::a):=by simp [sitesOf,Nat.add_assoc]
  cases hst:ZL O bf o s tm σ with
  | none=>rw [Zjf hst,Zjf hst];rfl
  | some q =>
   obtain ⟨v,tm1,σ1,c⟩:=q
   cases hp:ZaM v with
   | true =>
    obtain ⟨x,rfl⟩:=ZkI hp
    rw [Zlq hst,Zlq hst];rfl
   | false=>rw [ZkG hst hp,ZkG hst hp,ih,hs,Zx6]
variable (O bf) in
def ZeS (j:Nat) (w:Bool) (g:List AOp) (s:Nat) (tm:Tms) (σ:Za):Option (Tms×Za×List Cls×Option AVal):=match Zby (some (j,w)) tm with
 | none=>none
 | some false=>some (Zav g tm,σ,g.map fun _=>{},none)
 | some true=>ZY O bf (g.map unG) s tm σ
theorem ZvQ (j:Nat) (w:Bool):∀ (g:List AOp),(∀ o ∈ g,o.guard=some (j,w)/\o.dst≠some j)->∀ (s:Nat) (tm:Tms) (σ:Za),g≠[]->ZY O bf g s tm σ=ZeS O bf j w g s tm σ
 | [],_,_,_,_,h=>absurd rfl h
 | o::g,hall,s,tm,σ,_=>by
  obtain ⟨hg,hd⟩:=hall o (by simp)
  have ih:∀ (tm:Tms) (σ:Za) (s:Nat),Zby (some (j,w)) tm≠none->ZY O bf g s tm σ=ZeS O bf j w g s tm σ:=by
   intro tm σ s hw
   by_cases he:g=[]
   ·subst he
    unfold ZeS
    cases hx:Zby (some (j,w)) tm with
    | none=>exact absurd hx hw
    | some b=>cases b <;> rfl
   ·exact ZvQ j w g (fun o ho=>hall o (by simp [ho])) s tm σ he
  cases hx:Zby (some (j,w)) tm with
  | none =>
   rw [Zjf (by simp only [ZL,hg,hx])]
   simp only [ZeS,hx]
  | some b =>
   cases b with
   | false =>
    have h1:ZY O bf (o::g) s tm σ=ZdJ {} (ZY O bf g (s+nsite o.ins) (tput tm o.dst (.tup [])) σ) :=
     ZkG (v:=.tup []) (c:={}) (by simp only [ZL,hg,hx]) rfl
    rw [h1,ih _ _ _ (by rw [Zf6 hd,hx];simp)]
    unfold ZeS
    rw [Zf6 hd,hx]
    rfl
   | true =>
    have key:∀ r:Option (AVal×Za×Cls),(∀ v σ' c,r=some (v,σ',c)->ZaM v=false->ZY O bf g (s+nsite o.ins) (tput tm o.dst v) σ'=ZY O bf (g.map unG) (s+nsite o.ins) (tput tm o.dst v) σ')->kC O bf o.dst g (s+nsite o.ins) tm r=kC O bf o.dst (g.map unG) (s+nsite o.ins) tm r:=by
     intro r hr
     cases r with
     | none=>rfl
     | some q =>
      obtain ⟨v,σ',c⟩:=q
      cases hp:ZaM v with
      | true=>simp only [kC,hp,if_true]
      | false=>rw [ZoT _ _ _ _ _ _ _ hp,ZoT _ _ _ _ _ _ _ hp,hr v σ' c rfl hp]
    have h1:ZY O bf (o::g) s tm σ=kC O bf o.dst g (s+nsite o.ins) tm (exI O bf o.ins s tm σ):=by
     have h0:ZY O bf (o::g) s tm σ=ZY O bf (⟨o.dst,o.ins,none,o.after⟩::g) s tm σ:=by
      have hst:ZL O bf o s tm σ=ZL O bf ⟨o.dst,o.ins,none,o.after⟩ s tm σ:=by
       unfold ZL
       simp only [hg,hx]
       rfl
      simp only [ZY,hst]
     rw [h0,Zo0]
    rw [h1]
    unfold ZeS
    rw [hx]
    simp only [List.map_cons]
    rw [show unG o=⟨o.dst,o.ins,none,o.after⟩ from rfl,Zo0]
    refine key _ fun v σ' c _ _=>?_
    rw [ih _ _ _ (by rw [Zf6 hd,hx];simp)]
    unfold ZeS
    rw [Zf6 hd,hx]
theorem Zzs (d:Option Nat) (i:Ins) (j:Nat) (w:Bool) (af:List Nat) (os:List AOp) (s:Nat) (tm:Tms) (σ:Za) (hd:decide (d=some j)=false) :
  ZY O bf (⟨d,i,some (j,w),af⟩::os) s tm σ=gKC O bf (ZF j w os).2 (s+sitesOf (⟨d,i,some (j,w),af⟩::(ZF j w os).1)) (ZeS O bf j w (⟨d,i,some (j,w),af⟩::(ZF j w os).1) s tm σ):=by
 have h:=ZnC j w os
 have hall:∀ o ∈ (⟨d,i,some (j,w),af⟩::(ZF j w os).1:List AOp),o.guard=some (j,w)/\o.dst≠some j:=by
  intro o ho
  rcases List.mem_cons.1 ho with rfl | ho
  ·exact ⟨rfl,by simpa using hd⟩
  ·exact Zp1 j w os o ho
 rw [<-ZvQ j w _ hall s tm σ (by simp),<-ZrZ,List.cons_append,h]
variable (O bf) in
def gWC (w:Bool) (g:List AOp) (s:Nat) (tm:Tms) (σ:Za):AVal->Option (Tms×Za×List Cls×Option AVal)
 | .bool b=>if b=w then ZY O bf (g.map unG) s tm σ else some (Zav g tm,σ,g.map fun _=>{},none)
 | .tup []=>some (Zav g tm,σ,g.map fun _=>{},none)
 | _=>none
theorem ZEj (j:Nat) (w:Bool) (g:List AOp) (s:Nat) (tm:Tms) (σ:Za):ZeS O bf j w g s tm σ=gWC O bf w g s tm σ (tget tm j):=by
 unfold ZeS Zby
 simp only
 generalize tget tm j=v
 cases v
 case bool b=>cases b <;> cases w <;> rfl
 case tup vs=>cases vs <;> rfl
 all_goals rfl
theorem ZB8 (w:Bool) (g:List AOp) (s:Nat) (tm:Tms) (σ:Za) (b:Bool):gWC O bf w g s tm σ (.bool b)=if b=w then ZY O bf (g.map unG) s tm σ else some (Zav g tm,σ,g.map fun _=>{},none):=rfl
theorem ZAU (w:Bool) (g:List AOp) (s:Nat) (tm:Tms) (σ:Za):gWC O bf w g s tm σ (.tup [])=some (Zav g tm,σ,g.map fun _=>{},none):=rfl
theorem ZF4 (q:Prop) [Decidable q] (t1 t2:Tms) (σ1 σ2:Za) (cs:List Cls):(if q then some (t1,σ1,cs,(none:Option AVal)) else some (t2,σ2,cs,none))=some ((if q then t1 else t2),(if q then σ1 else σ2),cs,none):=by split <;> rfl
end
section
theorem ZlZ {r:AVal} {cs:List AVal} {σ:Za} (hr:ZJ r=true) (hc:Zd cs=true):gcA 1 [r] (.var cs::σ)=([r],[.var cs]):=by
 have e1:=(Za5 (Zo (.var cs::σ) 1 [0]) r hr)
 have e2:=(ZaP (Zo (.var cs::σ) 1 [0]) cs hc)
 have h1:ZB 1 [r] (.var cs::σ)=[0]:=by
  have : Zt [r]=[]:=by simp only [Zt,e1.2,List.append_nil]
  simp only [ZB,this,List.range_one,List.flatMap_cons,List.flatMap_nil,List.append_nil,List.getD_cons_zero,ZM,e2.2]
  rfl
 simp only [gcA,h1,Zf,e1.1,Zw,List.getD_cons_zero,ZG,e2.1]
theorem ZZ {r:AVal} {cs:List AVal} {σ:Za} (hr:ZJ r=true) (hc:Zd cs=true):Zak 1 (.var cs::σ) r=some (r,[.var cs]):=by
 simp only [Zak,ZlZ hr hc]
theorem Zfn {σ:Za} {t:Nat} {cs:List AVal} (hs:σ[t]?=some (.var cs)) (hc:Zd cs=true):Zz σ 1000 [t] []=[t]:=by
 have hd:σ.getD t .free=.var cs:=by simp [List.getD_eq_getElem?_getD,hs]
 have e2:=(ZaP (fun _ _=>none) cs hc).2
 show Zz σ (999+1) [t] []=[t]
 simp only [Zz,List.contains_nil,Bool.false_eq_true,if_false,hd,ZM,e2,List.nil_append]
end
end
section
section
variable (c:Prop) [Decidable c]
theorem ZNt (t1 t2:Tms) (σ1 σ2:Za):(if c then some (ZaT.normal,t1,σ1) else some (ZaT.normal,t2,σ2))=some (ZaT.normal,(if c then t1 else t2),(if c then σ1 else σ2)):=by split <;> rfl
theorem ZGW (t1 t2:Tms) (σ1 σ2:Za):(if c then some (ZaT.ret,t1,σ1) else some (ZaT.ret,t2,σ2))=some (ZaT.ret,(if c then t1 else t2),(if c then σ1 else σ2)):=by split <;> rfl
theorem ZGm (t1 t2:Tms) (σ1 σ2:Za):(if c then some (t1,σ1,(none:Option AVal)) else some (t2,σ2,none))=some ((if c then t1 else t2),(if c then σ1 else σ2),none):=by split <;> rfl
theorem ZEn (n:Nat) (a b:AVal):(if c then (n,a) else (n,b))=(n,if c then a else b):=by split <;> rfl
theorem ZLC (a b:AVal) (σ1 σ2:Za):(if c then some (a,σ1) else some (b,σ2))=some ((if c then a else b),(if c then σ1 else σ2)):=by split <;> rfl
theorem ZyF (a b:AVal) (σ1 σ2:Za) (x y:Cls):(if c then some (a,σ1,x) else some (b,σ2,y))=some ((if c then a else b),(if c then σ1 else σ2),if c then x else y):=by split <;> rfl
end
theorem ZIZ {α:Type} (p:Bool) (x y z:α):(if p=true then x else (if p=false then y else z))=if p=true then x else y:=by cases p <;> rfl
theorem Zxo (ops:List AOp) (b:Nat) (cs:List Cls):Zdi ops b [] cs=true:=rfl
theorem ZDA (ops:List AOp) (b:Nat) (p:Nat×Nat) (l:List (Nat×Nat)) (cs:List Cls):Zdi ops b (p::l) cs=((p.1 == p.2 || Zct (ops.getD p.1 default) (ops.getD p.2 default) (cs.getD p.1 {}) (cs.getD p.2 {}) (b+sitesOf (ops.take p.1))) && Zdi ops b l cs):=by
 simp only [Zdi,List.all_cons]
theorem ZLm (oj oi:AOp) (cj ci:Cls) (sj:Nat):Zct oj oi cj ci sj=(Zcg oj cj || Zcg oi ci || (ZdE cj && ZdE ci && (nsite oj.ins == 0 || !ci.rd.contains sj)) || ((Zag oj.ins || (Zaj oj.ins && !cj.any)) && (ZdE ci && ci.rd.isEmpty)) || (Zai oj.ins && Zag oi.ins && ci.any && Zam cj ci) || (Zai oj.ins && (Zaj oi.ins || (Zau oi.ins && Zax cj ci)) && Zam cj ci)):=rfl
theorem ZCA (o:AOp) (rd wr:List Nat) (any:Bool) (got:List (Nat×Option Nat×Nat×AVal)) (upd:List (Nat×List AVal)):Zcg o ⟨rd,wr,any,got,upd⟩=(nsite o.ins == 0 && rd.isEmpty && wr.isEmpty && !any):=rfl
theorem ZC6 (rd wr:List Nat) (any:Bool) (got:List (Nat×Option Nat×Nat×AVal)) (upd:List (Nat×List AVal)):ZdE ⟨rd,wr,any,got,upd⟩=(wr.isEmpty && !any):=rfl
theorem Z8 {α:Type} {l:List α} {i:Nat} {x:α} {r:List α} (h:l.drop i=x::r):l[i]?=some x/\l.drop (i+1)=r/\i < l.length:=by
 have h1:i < l.length:=by
  rcases Nat.lt_or_ge i l.length with h1 | h1
  ·exact h1
  ·rw [List.drop_eq_nil_of_le h1] at h;cases h
 rw [List.drop_eq_getElem_cons h1] at h
 injection h with h2 h3
 exact ⟨by rw [List.getElem?_eq_getElem h1,h2],h3,h1⟩
theorem Zda {α:Type} {l:List α} {i:Nat} (h:l.drop i=[]):¬(i:Int) < l.length:=by
 have:=List.drop_eq_nil_iff.1 h;omega
theorem iad {α:Type} {l:List α} {i:Nat} {x:α} (h:l[i]?=some x) (f:α->AVal) {k:Nat} (hk:(f x).cells.length=k) (σ:Za) (n:Bool) (kk:IntKind):ZdH σ k (.lst n (l.map f)) (.int kk (i:Int))=some (.iptr (f x).cells 0,σ,{}):=by
 have h0:(0:Int)<=(i:Int):=Int.natCast_nonneg i
 unfold ZdH
 simp only [h0,if_true,Int.toNat_natCast,List.getElem?_map,h,Option.map_some,hk]
theorem ZbX {n:Int} (h0:-9223372036854775808<=n) (h:n<=9223372036854775807):IntKind.i64.wrap n=n:=by
 rw [IntKind.wrap_i64];omega
theorem Zju {α β:Type} {a:List α} {b:List β} (h:a.length=b.length):((a.length:Int) != (b.length:Int))=false:=by simp [h]
theorem Zi1 {α β:Type} {a:List α} {b:List β} (h:a.length≠b.length):((a.length:Int) != (b.length:Int))=true:=by
 simp only [bne_iff_ne,ne_eq];omega
theorem Zjz {α:Type} [BEq α] [LawfulBEq α] {a b:List α} (h:a.length≠b.length):(a == b)=false:=by
 simp only [beq_eq_false_iff_ne,ne_eq];rintro rfl;exact h rfl
theorem Zc9 {i n:Nat} (h:(i:Int) < n) (hn:n<=9223372036854775807):IntKind.i64.wrap ((i:Int)+1)=((i+1:Nat):Int):=by
 rw [ZbX (by omega) (by omega)];rfl
theorem Zce {O:ZR} {bf:Nat->Bool} {f:Nat} {args:List AVal} {r:AVal} (h:O f args []=some (r,[])) (hb:bf f=false) (hp:args.all Zac=true) (hn:args.map ZH=args) (hv:ZbJ 0 (some (r,[]))=some (r,[])) (hr:∀ sq,Zm (ZaD [] [] sq) r=r) (σ:Za) (sq own:Nat) (view:Bool):Zj O bf σ sq f own view args=some (r,σ,{}):=by
 rw [Zgz hb hp,hn,h]
 have : Zaf view 0 (some (r,[]))=some (r,[]):=by
  unfold Zaf
  split
  ·exact hv
  ·rfl
 rw [this,Zjx _ _ _ _ (hr sq)]
theorem Zhi {α:Type} (σ:Za) (k:Nat) (l:List α) (f:α->AVal) (kk:IntKind) (n:Int) (h0:0<=n) (h:n<=(l.length:Int)):ZbY σ k (.lst false (l.map f)) none (some (.int kk n)) none=some (.lst false ((l.take n.toNat).map f),σ,{}):=by
 simp only [ZbY,Zbr,Zem,List.length_map,h0,h,and_self,if_true,beq_self_eq_true,Bool.true_or,Option.isSome_none,Bool.false_eq_true,if_false,Bool.false_and,List.drop_zero,List.map_take]
abbrev Zb:=List UInt8
def ZI (b:Zb):AVal:=.lst false (b.map Zc)
structure Zp where
 id:Int
 num:Int
 text:Zb
 pair:Zb
 data:Zb
 deriving DecidableEq
def ZbI (p:Zp):List AVal:=[.int .i64 p.id,.int .i64 p.num,.str p.text,.str p.pair,ZI p.data]
def Zn (p:Zp):AVal:=.agg (ZbI p)
def ZaA (l:List Zp):AVal:=.lst false (l.map Zn)
theorem Zyu (l:Zb):bytesOf (l.map Zc)=some l:=by
 induction l with
 | nil=>rfl
 | cons b l ih =>
  simp only [List.map_cons,bytesOf,ih,Zc,Zmx,Int.toNat_natCast,UInt8.ofNat_toNat]
end
section
def beB:Nat->Nat->Zb
 | _,0=>[]
 | n,w+1=>beB (n / 256) w++[UInt8.ofNat (n % 256)]
theorem Za2:∀ (w n:Nat),(beB n w).length=w
 | 0,_=>rfl
 | w+1,n=>by simp [beB,Za2 w]
def ZeP (x:Nat) (b:Zb):Nat:=b.foldl (fun x c=>(x*256+c.toNat) % 18446744073709551616) x
def Zba (b:Zb):Nat:=ZeP 0 b
theorem Zbz (x:Nat) (c:UInt8) (b:Zb):ZeP x (c::b)=ZeP ((x*256+c.toNat) % 18446744073709551616) b:=rfl
theorem Zcy (x:Nat):ZeP x []=x:=rfl
def ZbO:Nat->Nat->Zb
 | 0,n=>[UInt8.ofNat n]
 | k+1,n=>if n < 128 then [UInt8.ofNat n] else UInt8.ofNat (n % 128+128)::ZbO k (n / 128)
def Zah (n:Int):Zb×Int:=if n < 0\/n > 268435455 then ([],10) else (ZbO 3 n.toNat,0)
def gvA (i n:Nat):Zb->Nat×Nat×Int
 | []=>if i < 4 then (0,0,11) else (0,0,12)
 | c::r=>if i=4 then (0,0,12) else if c.toNat < 128 then (if c=0/\0 < i then (0,0,12) else (n+c.toNat % 128*128 ^ i,i+1,0)) else gvA (i+1) (n+c.toNat % 128*128 ^ i) r
def ZO (b:Zb):Nat×Nat×Int:=gvA 0 0 b
def Zbv (b:Zb):Zb×Int:=if b.length > 65535 then ([],10) else (beB b.length 2++b,0)
def Zan (b:Zb):Zb×Nat×Int :=
 if b.length < 2\/b.length - 2 < Zba (b.take 2) then ([],0,11) else ((b.drop 2).take (Zba (b.take 2)),2+Zba (b.take 2),0)
end
section
def Zu7:=(aI (aI (aI (aI (aI (aI @ZLc @ZNm) (aI @ZF7 @ZKK)) (aI (aI @ZFm @ZIb) (aI @ZMj @ZH7))) (aI (aI (aI @Zrf @ZpT) (aI @ZFS @Zpt)) (aI (aI @ZOO @ZwN) (aI @Zwk @ZMk)))) (aI (aI (aI (aI @ZN1 @ZzN) (aI @ZGX @ZFy)) (aI (aI @ZL8 @ZFa) (aI @ZO6 @ZE2))) (aI (aI (aI @ZIi @ZxT) (aI @ZEi @ZyI)) (aI (aI @ZLU @Zyu) (aI @ZNt @ZGW))))) (aI (aI (aI (aI (aI @ZGm @ZEn) (aI @ZLC @ZyF)) (aI (aI @ZzC @ZHe) (aI @ZHV @ZKN))) (aI (aI (aI @ZEq @ZBW) (aI @ZIp @ZAm)) (aI (aI @Zud @Zo0) (aI @Zzs @ZDJ)))) (aI (aI (aI (aI @ZCN @ZEw) (aI @ZKQ @ZJ7)) (aI (aI @ZE6 @ZoT) (aI @Zwp @ZJL))) (aI (aI (aI @ZOT @ZKa) (aI @Zwz @ZDZ)) (aI (aI @ZBS @ZPj) (aI @ZEj @ZB8))))))
def Zzg:=(aI (aI (aI (aI (aI (aI @ZAU @ZF4) (aI @ZGV @ZE7)) (aI (aI @ZJT @ZMf) (aI @Zxo @ZDA))) (aI (aI (aI @ZLm @ZCA) (aI @ZC6 @ZvV)) (aI (aI @ZMV @ZEy) (aI @ZC7 @Zz5)))) (aI (aI (aI (aI @ZKn @ZOe) (aI @ZD7 @ZFx)) (aI (aI @Zq1 @Zxs) (aI @ZLs @ZJa))) (aI (aI (aI @ZNN @ZKk) (aI @ZAv @Zxx)) (aI (aI @ZJq @ZCi) (aI @ZHT @ZOp))))) (aI (aI (aI (aI (aI @ZLM @Zz2) (aI @ZEz @ZFt)) (aI (aI @Zwn @ZHj) (aI @ZDi @ZOi))) (aI (aI (aI @ZAL @ZIS) (aI @ZEK @ZNk)) (aI (aI @ZzY @ZLQ) (aI @ZI1 @ZPf)))) (aI (aI (aI (aI @ZMA @ZCd) (aI @ZBN @ZKr)) (aI (aI @ZA0 @ZCX) (aI @ZOU @ZAk))) (aI (aI (aI @ZHR @ZDF) (aI @ZMK @ZCs)) (aI (aI @ZOZ @ZOJ) (aI @Zwr @ZJF))))))
def Zbh:=(aI (aI (aI (aI (aI (aI @ZOB @ZAY) (aI @ZNb @ZNo)) (aI (aI @ZDE @Zzh) (aI @ZAx @ZEa))) (aI (aI (aI @ZFV @ZIK) (aI @ZKD @ZJb)) (aI (aI @ZNH @ZGa) (aI @ZxI @Zyh)))) (aI (aI (aI (aI @ZK5 @ZBC) (aI @ZOj @ZIT)) (aI (aI @ZCu @Zx9) (aI @ZJt @Zym))) (aI (aI (aI @ZFA @ZHB) (aI @ZEr @ZGk)) (aI (aI @ZFr @ZOn) (aI @ZyP @ZIv))))) (aI (aI (aI (aI (aI @ZDW @ZGo) (aI @ZGM @ZOz)) (aI (aI @ZGd @ZLk) (aI @ZIV @ZG8))) (aI (aI (aI @ZLA @ZD0) (aI @ZxK @ZPi)) (aI (aI @ZEk @ZMh) (aI @ZJ9 @Zxv)))) (aI (aI (aI (aI @ZDM @ZA5) (aI @ZJH @Zyo)) (aI (aI @ZJU @ZOV) (aI @ZM8 @ZEX))) (aI (aI (aI @Zxr @ZBI) (aI @ZHr @ZJV)) (aI (aI @ZL1 @ZJx) (aI @ZLI @ZD8))))))
def ZcM:=(aI (aI (aI (aI (aI (aI @ZzU @ZKy) (aI @ZxY @ZFH)) (aI (aI @ZKE @ZI9) (aI @ZwZ @ZAQ))) (aI (aI (aI @ZEm @ZET) (aI @Zwu @ZsI)) (aI (aI @ZCz @Zva) (aI @Zzb @ZHa)))) (aI (aI (aI (aI @Zy2 @ZzB) (aI @Zwe @ZNJ)) (aI (aI @ZNr @ZNq) (aI @ZB0 @ZHF))) (aI (aI (aI @ZBb @ZA8) (aI @ZKs @ZBc)) (aI (aI @ZLS @ZCY) (aI @ZxL @ZDd))))) (aI (aI (aI (aI (aI @ZIO @ZLJ) (aI @ZHP @Zy0)) (aI (aI @ZHs @ZLF) (aI @ZsM @ZwO))) (aI (aI (aI @ZKg @ZJy) (aI @ZHw @ZAh)) (aI (aI @ZO3 @ZFG) (aI @ZKt @Zul)))) (aI (aI (aI (aI @ZxJ @ZqP) (aI @ZBf @ZBj)) (aI (aI @ZCv @ZIC) (aI @ZsK @ZAJ))) (aI (aI (aI @ZIE @ZHu) (aI @ZNf @Zz0)) (aI (aI @ZBq @ZGh) (aI @ZHD @ZFT))))))
def ZC:=(aI (aI (aI (aI (aI (aI @ZHG @ZLg) (aI @ZOY @ZxS)) (aI (aI @ZKb @ZIz) (aI @ZMB @ZxB))) (aI (aI (aI @ZD1 @ZwS) (aI @ZEC @Zuq)) (aI (aI @ZNx @ZAA) (aI @ZLG @ZyS)))) (aI (aI (aI (aI @ZBx @ZA3) (aI @ZAV @Zxl)) (aI (aI @ZCy @ZyL) (aI @ZAM @ZOx))) (aI (aI (aI @ZMQ @ZGA) (aI @ZGF @ZCp)) (aI (aI @ZLo @ZFN) (aI @ZJh @ZxN))))) (aI (aI (aI (aI (aI @ZCF @ZHH) (aI @ZNy @ZzZ)) (aI (aI @ZEM @ZNa) (aI @Zzr @Zzf))) (aI (aI (aI @ZHZ @ZHM) (aI @ZzI @ZzO)) (aI (aI @ZDc @ZOu) (aI @ZJK @ZHC)))) (aI (aI (aI (aI @ZCW @ZCe) (aI @ZCm @ZDq)) (aI (aI @ZNj @ZLZ) (aI @ZxH @ZN4))) (aI (aI (aI @ZDU @ZE8) (aI @ZE9 @ZMO)) (aI (aI @ZEN @ZO4) (aI @ZAd @ZxV))))))
def Zq9:=(aI (aI (aI (aI (aI (aI @ZKW @ZFU) (aI @ZMZ @ZM7)) (aI (aI @Zys @ZMW) (aI @ZCS @ZLH))) (aI (aI (aI @ZNu @ZE1) (aI @ZDk @ZCU)) (aI (aI @Zwi @ZAF) (aI @ZI5 @ZCH)))) (aI (aI (aI (aI @ZF5 @ZDg) (aI @ZFb @ZH8)) (aI (aI @ZDl @ZLE) (aI @ZJB @Zw0))) (aI (aI (aI @ZFd @ZyX) (aI @Zw3 @ZOb)) (aI (aI @ZzK @ZNU) (aI @ZGe @ZC0))))) (aI (aI (aI (aI (aI @ZNz @Zy7) (aI @ZyT @ZCO)) (aI (aI @ZHk @ZJO) (aI @ZwD @ZIN))) (aI (aI (aI @ZKi @ZzW) (aI @ZHc @ZwL)) (aI (aI @ZFp @ZKY) (aI @ZHJ @ZBA)))) (aI (aI (aI (aI @ZCo @Zyx) (aI @ZDu @ZOg)) (aI (aI @ZJG @ZIx) (aI @ZG0 @ZNQ))) (aI (aI (aI @ZyA @ZLj) (aI @ZL3 @Zyw)) (aI (aI @ZNp @ZOs) (aI @ZA7 @ZPh))))))
def Zu:=(aI (aI (aI (aI (aI (aI @ZNI @ZDN) (aI @ZA6 @ZJN)) (aI (aI @ZAn @ZEG) (aI @ZyD @ZOX))) (aI (aI (aI @ZD2 @ZGp) (aI @ZGB @ZOE)) (aI (aI @ZJk @ZLh) (aI @Zy5 @ZAO)))) (aI (aI (aI (aI @ZCD @ZMP) (aI @ZzD @ZBu)) (aI (aI @Zw2 @ZE0) (aI @Zzk @Zx0))) (aI (aI (aI @ZBP @ZOA) (aI @ZBh @ZBU)) (aI (aI @ZIH @ZOQ) (aI @ZFw @ZDL))))) (aI (aI (aI (aI (aI @ZN8 @ZOW) (aI @ZJd @ZF0)) (aI (aI @ZCk @Zzw) (aI @ZGt @ZB3))) (aI (aI (aI @ZJI @ZNn) (aI @ZIl @ZwJ)) (aI (aI @Zzi @ZGi) (aI @ZNY @ZFh)))) (aI (aI (aI (aI @ZwM @ZLx) (aI @ZDR @Zwv)) (aI (aI @ZPb @ZFk) (aI @ZMR @Zzd))) (aI (aI (aI @ZzM @ZG2) (aI @ZOH @ZDY)) (aI (aI @ZJn @ZNO) (aI @ZNs @ZIs))))))
def Z5:=(aI (aI (aI (aI (aI @Zzm (aI @ZFu @Zxd)) (aI (aI @ZIP @ZLv) (aI @ZMM @ZFv))) (aI (aI @ZJD (aI @ZK2 @ZJR)) (aI (aI @ZHg @ZxM) (aI @ZGc @ZNS)))) (aI (aI (aI @ZER (aI @ZJp @ZM6)) (aI (aI @ZEg @ZKC) (aI @ZKv @ZBO))) (aI (aI (aI @ZCQ @ZDf) (aI @Zxk @ZGr)) (aI (aI @ZFK @ZDy) (aI @ZJM @ZHh))))) (aI (aI (aI (aI @ZGQ (aI @ZCL @ZOa)) (aI (aI @ZJc @ZAt) (aI @ZGj @Zwy))) (aI (aI (aI @ZIk @Zxg) (aI @ZOr @ZDm)) (aI (aI @ZGO @ZL0) (aI @Zy4 @ZxG)))) (aI (aI (aI @ZOl (aI @ZzT @ZBB)) (aI (aI @ZKX @ZAX) (aI @ZzA @ZDs))) (aI (aI (aI @ZDB @ZDz) (aI @ZG5 @ZI8)) (aI (aI @ZD3 @ZZ) (aI @ZDw @Zvu))))))
def Zbn:=(aI (aI (aI (aI (aI (aI @List.map_cons.{0,0} @List.map_nil.{0,0}) (aI @List.length_cons.{0} @List.length_nil.{0})) (aI (aI @List.replicate_zero.{0} @List.replicate_succ.{0}) (aI @List.append_nil.{0} @List.nil_append.{0}))) (aI (aI (aI @List.cons_append.{0} @List.getElem?_cons_zero.{0}) (aI @List.getElem?_cons_succ.{0} @List.set_cons_zero.{0})) (aI (aI @List.set_cons_succ.{0} @Nat.add_zero) (aI @Nat.zero_add @Bool.true_or)))) (aI (aI (aI (aI @Bool.false_or @Bool.or_true) (aI @Bool.or_false @Bool.and_true)) (aI (aI @Bool.true_and @Bool.and_self) (aI @Bool.and_false @Bool.false_and))) (aI (aI (aI @if_true.{1} @if_false.{1}) (aI @ite_true.{1} @ite_false.{1})) (aI (aI @Option.map_some.{0,0} @Option.map_none.{0,0}) (aI @and_self @and_true))))) (aI (aI (aI (aI (aI @true_and @and_false) (aI @false_and @true_or)) (aI (aI @or_true @false_or) (aI @or_false @not_true_eq_false))) (aI (aI (aI @not_false_eq_true @List.drop_zero.{0}) (aI @List.drop_succ_cons.{0} @List.take_succ_cons.{0})) (aI (aI @List.take_zero.{0} @List.all_cons.{0}) (aI @List.all_nil.{0} @List.isEmpty_nil.{0})))) (aI (aI (aI (aI @Bool.not_false @Bool.not_true) (aI @List.length_map.{0,0} @Bool.bne_false)) (aI (aI @Bool.bne_true @List.isEmpty_cons.{0}) (aI @List.getD_cons_zero.{0} @List.getD_cons_succ.{0}))) (aI (aI (aI @List.getD_nil.{0} @List.contains_nil.{0}) (aI @List.range_zero @List.flatMap_cons.{0,0})) (aI (aI @List.flatMap_nil.{0,0} @List.zip_cons_cons.{0,0}) (aI @List.zip_nil_left.{0,0} @List.zip_nil_right.{0,0}))))))
def Zcq:=@Nat.not_lt_zero
def EQA := (aI (aI (aI (aI (aI (aI Zu7 (aI Zzg Zq9)) (aI (aI Zbn @exI.eq_1) (aI @nsite.eq_1 @nsite.eq_2))) (aI (aI (aI @nsite.eq_3 @nsite.eq_4) (aI @nsite.eq_5 @nsite.eq_6)) (aI (aI @nsite.eq_7 @nsite.eq_8) (aI @nsite.eq_9 @nsite.eq_10)))) (aI (aI (aI (aI @freeAt.eq_1 @execI.eq_1) (aI @execI.eq_2 @execI.eq_3)) (aI (aI @execI.eq_4 @execI.eq_5) (aI @execI.eq_6 @execI.eq_7))) (aI (aI (aI @execI.eq_8 @execI.eq_9) (aI @execI.eq_10 @execI.eq_11)) (aI (aI @execI.eq_12 @execI.eq_13) (aI @execI.eq_14 @execI.eq_15))))) (aI (aI (aI (aI @execI.eq_16 (aI @execI.eq_17 @execI.eq_18)) (aI (aI @execI.eq_19 @execI.eq_20) (aI @execI.eq_21 @execI.eq_22))) (aI (aI (aI @execI.eq_23 @execI.eq_24) (aI @execI.eq_25 @execI.eq_26)) (aI (aI @execI.eq_27 @execI.eq_28) (aI @execI.eq_29 @execI.eq_30)))) (aI (aI (aI (aI @execI.eq_31 @execI.eq_32) (aI @execI.eq_33 @execI.eq_34)) (aI (aI @execI.eq_35 @execI.eq_36) (aI @execI.eq_37 @execI.eq_38))) (aI (aI (aI @execI.eq_39 @execI.eq_40) (aI @execI.eq_41 @execI.eq_42)) (aI (aI @execI.eq_43 @execI.eq_44) (aI @Opd.ev.eq_1 @Opd.ev.eq_2)))))) (aI (aI (aI (aI (aI @tget.eq_1 (aI @tget.eq_2 @tins.eq_1)) (aI (aI @tins.eq_2 @tput.eq_1) (aI @tput.eq_2 @keepL.eq_1))) (aI (aI (aI @sitesOf.eq_1 @resA.eq_1) (aI @resAll.eq_1 @resAll.eq_2)) (aI (aI @resOne.eq_1 @resOne.eq_2) (aI @enterA.eq_1 @enterA.eq_2)))) (aI (aI (aI (aI @partA.eq_1 @partA.eq_2) (aI @faddrA.eq_1 @faddrA.eq_2)) (aI (aI @faddrA.eq_3 @faddrA.eq_4) (aI @setAt.eq_1 @binA.eq_1))) (aI (aI (aI @binA.eq_2 @binA.eq_3) (aI @binA.eq_4 @binA.eq_5)) (aI (aI @arithA.eq_1 @arithA.eq_2) (aI @arithA.eq_3 @arithA.eq_4))))) (aI (aI (aI (aI @arithA.eq_5 (aI @arithA.eq_6 @arithA.eq_7)) (aI (aI @arithA.eq_8 @arithA.eq_9) (aI @arithA.eq_10 @arithA.eq_11))) (aI (aI (aI @arithA.eq_12 @arithA.eq_13) (aI @arithA.eq_14 @arithA.eq_15)) (aI (aI @arithA.eq_16 @ldA.eq_1) (aI @ldA.eq_2 @ldA.eq_3)))) (aI (aI (aI (aI @ldA.eq_4 @stA.eq_1) (aI @stA.eq_2 @stA.eq_3)) (aI (aI @List.sum_cons.{0} @List.sum_nil.{0}) (aI @eq_self.{1} @beq_self_eq_true.{0}))) (aI (aI (aI @Bool.false_eq_true @Option.some.injEq.{0}) (aI @decide_true @decide_false)) (aI (aI @List.foldl_cons.{0, 0} @List.foldl_nil.{0, 0}) (aI @List.contains_cons.{0} @ne_eq.{1})))))))
end
section
theorem ZxE {O:ZR} {bf:Nat->Bool} {σ:Za} {sq f own:Nat} {view:Bool} {args:List AVal} (h:args.all Zac=true) (hm:args.map ZH=args) :
  Zj O bf σ sq f own view args=ZaE σ σ [] [] sq own (Zaf view 0 (O f args [])):=by
 cases hb:bf f
 ·rw [Zgz hb h,hm]
 ·have hr:=Zdp h
  have hn:=fun ρ=>Zdk (ρ:=ρ) h
  rw [hm] at hr
  simp only [hm] at hn
  unfold Zj Zb2
  rw [hb]
  simp only [if_true]
  have h1:Zs σ []=σ:=rfl
  rw [h1,hr]
  have h2:Zz σ 1000 [] []=[]:=rfl
  rw [h2]
  unfold ZbH
  simp only [List.all_nil,if_true,hn,Zw,List.length_nil]
theorem ZqC {O:ZR} {bf:Nat->Bool} {f:Nat} {args:List AVal} {k n:Nat} {xs:List AVal} (h:O f args []=some (.sl 0 0 0 n,[.row 0 k xs])) (hn:xs.length=n) (hp:args.all Zac=true) (hm:args.map ZH=args) (σ:Za) (sq own:Nat):Zj O bf σ sq f own true args=some (.lst false xs,σ,{}):=by
 rw [ZxE hp hm,h]
 have : Zaf true 0 (some (.sl 0 0 0 n,[.row 0 k xs]))=some (.lst false xs,[]):=by
  unfold Zaf
  rw [if_pos rfl,ZG1 (k:=k) (g:=0) (t:=0) (xs:=xs) rfl (by omega),List.take_of_length_le (by omega)]
 rw [this,Zjx _ _ _ _ rfl]
theorem ZyM {O:ZR} {bf:Nat->Bool} {σ:Za} {f:Nat} {args vs:List AVal} {ts:List Nat} {r r':AVal} (hb:bf f=false) (hsh:showAs σ args=some (vs,ts)) (hp:vs.all Zac=true) (hm:vs.map ZH=vs) (h:O f vs []=some (r,[])) (hv:ZbJ 0 (some (r,[]))=some (r',[])) (sq own:Nat) :
  Zj O bf σ sq f own true args=if ZbG r' then some (r',σ,{ rd:=ts }) else if Zdv σ ts r' then some (r',σ,{ rd:=ts }) else some (Zm (ZaD [] [] sq) r',Zs σ ts,{ rd:=ts,wr:=ts }):=by
 have hr:=Zdp hp
 have hn:=fun ρ=>Zdk (ρ:=ρ) hp
 rw [hm] at hr
 simp only [hm] at hn
 unfold Zj Zb2
 rw [hb]
 simp only [Bool.false_eq_true,if_false,hsh]
 rw [hr]
 have h2:∀ σ,Zz σ 1000 [] []=[]:=fun _=>rfl
 rw [h2]
 unfold ZbH
 simp only [List.all_nil,if_true,hn,Zw,List.length_nil,h]
 have : Zaf true 0 (some (r,[]))=some (r',[]):=by unfold Zaf;rw [if_pos rfl,hv]
 rw [this]
 simp only [ZaE,List.isEmpty_nil,Bool.and_self,if_true]
theorem ZHL {O:ZR} {bf:Nat->Bool} {σ:Za} {f:Nat} {args vs:List AVal} {ts:List Nat} {r r':AVal} (hb:bf f=false) (hsh:showAs σ args=some (vs,ts)) (hp:vs.all Zac=true) (hm:vs.map ZH=vs) (h:O f vs []=some (r,[])) (hv:ZbJ 0 (some (r,[]))=some (r',[])) (hap:Zdv σ ts r'=true) (sq own:Nat) :
  Zj O bf σ sq f own true args=some (r',σ,{ rd:=ts }):=by
 rw [ZyM hb hsh hp hm h hv,if_pos hap]
 split <;> rfl
theorem ZbC {O:ZR} {bf:Nat->Bool} {f:Nat} {args args':List AVal} {r r':AVal} (h:O f args' []=some (r,[])) (hb:bf f=false) (hp:args.all Zac=true) (hn:args.map ZH=args') (hv:ZbJ 0 (some (r,[]))=some (r',[])) (hr:∀ sq,Zm (ZaD [] [] sq) r'=r') (σ:Za) (sq own:Nat):Zj O bf σ sq f own true args=some (r',σ,{}):=by
 rw [Zgz hb hp,hn,h]
 have : Zaf true 0 (some (r,[]))=some (r',[]):=by
  unfold Zaf
  rw [if_pos rfl];exact hv
 rw [this,Zjx _ _ _ _ (hr sq)]
theorem ZGU (k n:Nat) (xs:List AVal) (σ:Za):Zak 0 (.row 0 k xs::σ) (.sl 0 0 0 n)=some (.sl 0 0 0 n,[.row 0 k xs]):=by
 simp [Zak,gcA,ZB,Zz,Zt,Z2,Zo,Zw,Z1,Zq,ZU,Zf,Zm,ZG,ZM]
def ZeB:List AVal->AVal
 | []=>.lst true []
 | x::xs=>.sl 0 0 0 (x::xs).length
def ZeH (k:Nat):List AVal->Za
 | []=>[]
 | x::xs=>[.row 0 k (x::xs)]
theorem Zgm:ZeB []=.lst true []:=rfl
theorem Zhw (x:AVal) (xs:List AVal):ZeB (x::xs)=.sl 0 0 0 (x::xs).length:=rfl
theorem Zga (k:Nat):ZeH k []=[]:=rfl
theorem ZhZ (k:Nat) (x:AVal) (xs:List AVal):ZeH k (x::xs)=[.row 0 k (x::xs)]:=rfl
theorem ZfW (l:Zb):kOk 1 (l.map Zc)=true:=by cases l <;> rfl
end
section
theorem ZDb (n:Nat):IntKind.u8.wrap (n:Int)=((UInt8.ofNat (n % 256)).toNat:Int):=by
 rw [IntKind.wrap_u8,UInt8.toNat_ofNat']
 omega
theorem ZO5 (k n:Nat) (xs:List AVal) (σ:Za):Zak 0 (.row 0 k xs::σ) (.sl 0 0 0 n)=some (.sl 0 0 0 n,[.row 0 k xs]):=by
 simp [Zak,gcA,ZB,Zz,Zt,Z2,Zo,Zw,Z1,Zq,ZU,Zf,Zm,ZG,ZM]
theorem Zwt (m:Nat) (z:AVal) (t:List AVal):(List.replicate (m+1) z++t)[m]?=some z:=by
 rw [List.getElem?_append_left (by simp)];simp
theorem ZKu (m:Nat) (z v:AVal) (t:List AVal):(List.replicate (m+1) z++t).set m v=List.replicate m z++v::t:=by
 rw [List.replicate_succ',List.append_assoc,List.set_append_right _ _ (by simp)];simp
theorem ZvE (W:Nat) (hW:W<=8):∀ (m n:Nat) (tail:Zb),m+tail.length=W->ZlL 0 [(6,.int .i64 ((m:Int) - 1)),(5,.sl 0 0 0 W),(0,.int .u64 (n:Nat))] [.row 0 1 (List.replicate m (.int .u8 0)++tail.map Zc)]=some (.sl 0 0 0 W,[.row 0 1 ((beB n m++tail).map Zc)])
 | 0,n,tail,h=>by
  have h1:¬(((0:Nat):Int) - 1>=0):=by omega
  unfold ZlL
  rw [Z9,beB]
  simp -implicitDefEqProofs only [EQA,Nat.reduceLT,Nat.reduceEqDiff,reduceCtorEq,↓reduceIte,ZJo,ZOR,Zo1,Zti,Zkw,oI,oN,h1,ZO5]
 | m+1,n,tail,h=>by
  have ih:=ZvE W hW m (n / 256) (UInt8.ofNat (n % 256)::tail) (by simp;omega)
  have e0:((m+1:Nat):Int) - 1=(m:Int):=by omega
  have h1:(m:Int)>=0:=by omega
  have h2:(0:Int)<=(m:Int):=by omega
  have h3:m < W:=by omega
  have hg:=Zwt m (.int .u8 0) (tail.map Zc)
  have hs:=ZKu m (.int .u8 0) (Zc (UInt8.ofNat (n % 256))) (tail.map Zc)
  have hb:=ZDb n
  have hw:IntKind.i64.wrap ((m:Int) - 1)=(m:Int) - 1:=ZbX (by omega) (by omega)
  have hd:(n:Int).fdiv (2 ^ min (Int.toNat 8) IntKind.u64.bits)=((n / 256:Nat):Int):=by
   rw [show (2:Int) ^ min (Int.toNat 8) IntKind.u64.bits=256 from rfl,Int.fdiv_eq_ediv_of_nonneg _ (by decide)]
   omega
  have e1:beB n (m+1)++tail=beB (n / 256) m++(UInt8.ofNat (n % 256)::tail):=by simp [beB]
  rw [e0,e1]
  have e2:List.replicate m (AVal.int .u8 0)++(UInt8.ofNat (n % 256)::tail).map Zc=List.replicate m (.int .u8 0)++Zc (UInt8.ofNat (n % 256))::tail.map Zc:=rfl
  rw [e2] at ih
  generalize hX:List.replicate (m+1) (AVal.int .u8 0)++tail.map Zc=X at *
  generalize hY:List.replicate m (AVal.int .u8 0)++Zc (UInt8.ofNat (n % 256))::tail.map Zc=Y at *
  unfold Zc at hs
  unfold ZlL at ih ⊢
  rw [Z9]
  simp -implicitDefEqProofs only [EQA,Z5,Zcq,Nat.reduceLT,Nat.reduceEqDiff,ZaB,reduceCtorEq,↓reduceIte,gcT,gcA,ZB,Zz,Zo,Zw,Z1,Zq,ZU,ZG,ZM,Zti,Zkw,oI,oN,h1,h3,hg,hs,hb,hw,hd,ZdH,Int.toNat_natCast,AVal.cells,ZaL,ZN,ZiJ,Zs,Int.reduceLT]
  exact ih
theorem ZCx (n W:Nat) (h1:1<=W) (hW:W<=8):E 59 [.int .u64 (n:Nat),.int .i64 (W:Nat)] []=some (.sl 0 0 0 W,[.row 0 1 ((beB n W).map Zc)]):=by
 have key:=ZvE W hW W n [] (by simp)
 have c1:¬((W:Int) < 1):=by omega
 have c2:¬((W:Int) > 8):=by omega
 have c3:(0:Int)<=(W:Int):=by omega
 have c4:(W:Int)<=9223372036854775807:=by omega
 have c5:((1:Nat):Int)*(W:Int)<=140737488355328:=by omega
 have w1:IntKind.i64.wrap ((W:Int) - 1)=(W:Int) - 1:=ZbX (by omega) (by omega)
 simp only [List.map_nil,List.append_nil] at key
 rw [Zh (by rfl) ZLw]
 unfold ZlL at key
 simp -implicitDefEqProofs only [EQA,ZC,Z5,Zcq,Nat.reduceLT,Nat.reduceEqDiff,Nat.reduceBEq,ZF,unG,reduceCtorEq,↓reduceIte,gcT,gcA,ZB,Zz,Zo,Zw,Z1,Zq,ZU,ZG,ZM,ZFL,ZnY,oI,c1,c2,c3,c4,c5,w1,Int.le_refl,Int.toNat_natCast]
 exact key
theorem ZkX (σ:Za) (sq own:Nat) (n W:Nat) (h1:1<=W) (hW:W<=8):Zj E BY σ sq 59 own true [.int .u64 (n:Nat),.int .i64 (W:Nat)]=some (.lst false ((beB n W).map Zc),σ,{}) :=
 ZqC (bf:=BY) (ZCx n W h1 hW) (by simp [Za2]) rfl rfl σ sq own
theorem ZIB (x c:Nat) (hc:c < 256):IntKind.u64.wrap (((BitVec.ofInt IntKind.u64.bits (IntKind.u64.wrap ((x:Int)*2 ^ min (Int.toNat 8) IntKind.u64.bits)) ||| BitVec.ofInt IntKind.u64.bits (c:Int)).toNat:Nat):Int)=(((x*256+c) % 18446744073709551616:Nat):Int):=by
 rw [show (2:Int) ^ min (Int.toNat 8) IntKind.u64.bits=256 from rfl]
 have hb:IntKind.u64.bits=64:=rfl
 rw [hb,IntKind.wrap_u64,IntKind.wrap_u64]
 have e1:(x:Int)*256 % 18446744073709551616=((x*256 % 18446744073709551616:Nat):Int):=by omega
 rw [e1,BitVec.toNat_or]
 simp only [BitVec.ofInt_natCast,BitVec.toNat_ofNat]
 have e2:x*256 % 18446744073709551616 % 2 ^ 64=(x % 72057594037927936) <<< 8:=by
  rw [Nat.shiftLeft_eq];omega
 have e3:c % 2 ^ 64=c:=by omega
 rw [e2,e3,<-Nat.shiftLeft_add_eq_or_of_lt (by omega:c < 2 ^ 8),Nat.shiftLeft_eq]
 omega
theorem Zrh (b:Zb) (hl:b.length<=9223372036854775807):∀ (r:Zb) (i x:Nat),b.drop i=r->Zmd 0 [(8,.int .i64 i),(7,.int .i64 b.length),(6,.lst false (b.map Zc)),(3,.int .u64 (x:Nat))] []=some (.int .u64 (ZeP x r:Nat),[])
 | [],i,x,h=>by
  have h1:=Zda h
  unfold Zmd
  rw [Z9,Zcy]
  simp -implicitDefEqProofs only [EQA,Nat.reduceLT,Nat.reduceEqDiff,↓reduceIte,ZM9,ZL6,ZnS,ZqX,Zlw,oI,h1]
 | c::r,i,x,h=>by
  have ih:=Zrh b hl r (i+1) ((x*256+c.toNat) % 18446744073709551616) (Z8 h).2.1
  have h1:(i:Int) < b.length:=by have:=(Z8 h).2.2;omega
  have e1:=iad (Z8 h).1 Zc (k:=1) rfl
  have e3:=Zc9 h1 hl
  have ho:=ZIB x c.toNat c.toNat_lt
  have hc:IntKind.u64.wrap (c.toNat:Int)=(c.toNat:Int):=by rw [IntKind.wrap_u64];have:=c.toNat_lt;omega
  unfold Zmd at ih ⊢
  rw [Z9,Zbz]
  simp -implicitDefEqProofs only [EQA,Z5,Nat.reduceLT,Nat.reduceEqDiff,ZaB,↓reduceIte,gcT,gcA,ZB,Zz,Zw,ZM,ZqX,Zlw,oI,h1,e1,e3,ho,hc,Zc,AVal.cells,Int.reduceLT]
  exact ih
theorem ZG4 (b:Zb) (hl:b.length<=9223372036854775807):E 108 [ZI b] []=some (.int .u64 (Zba b:Nat),[]):=by
 have key:=Zrh b hl b 0 0 rfl
 have z0:((0:Nat):Int)=0:=rfl
 rw [z0] at key
 unfold Zmd at key
 unfold Zba
 rw [Zh (by rfl) ZNR]
 simp -implicitDefEqProofs only [EQA,Z5,Nat.reduceLT,Nat.reduceEqDiff,reduceCtorEq,↓reduceIte,gcT,gcA,ZB,Zz,Zw,ZM,ZII,ZpJ,oI,ZI]
 exact key
theorem Zk0 (σ:Za) (sq own:Nat) (b:Zb) (hl:b.length<=9223372036854775807) (f:Bool):Zj E BY σ sq 108 own true [.lst f (b.map Zc)]=some (.int .u64 (Zba b:Nat),σ,{}) :=
 ZbC (ZG4 b hl) (by kernel_rfl) rfl rfl rfl (fun _=>rfl) _ _ _
end
section
theorem ZrJ (ls:List Zb) (hl:ls.length<=9223372036854775807):∀ (r:List Zb) (i:Nat) (acc full:Zb),ls.drop i=r->full=acc++r.flatten->full.length<=140737488355328 ->
  Zk6 0 [(8,.int .i64 i),(7,.int .i64 ls.length),(6,.lst false (ls.map ZI)),(3,.sl 0 0 0 acc.length)] [.row 0 1 (acc.map Zc)]=some (.sl 0 0 0 full.length,[.row 0 1 (full.map Zc)])
 | [],i,acc,full,h,hf,hn=>by
  have h1:=Zda h
  have e:full=acc:=by simpa using hf
  subst e
  unfold Zk6
  rw [Z9]
  simp -implicitDefEqProofs only [EQA,Nat.reduceLT,Nat.reduceEqDiff,↓reduceIte,ZDP,ZIA,Zou,Znb,Zik,oI,h1,ZGU]
 | p::r,i,acc,full,h,hf,hn=>by
  have ih:=ZrJ ls hl r (i+1) (acc++p) full (Z8 h).2.1 (by rw [hf];simp) hn
  have h1:(i:Int) < ls.length:=by have:=(Z8 h).2.2;omega
  have e1:=iad (Z8 h).1 ZI (k:=1) rfl
  have e3:=Zc9 h1 hl
  have k1:=ZfW p
  have k2:(acc.length+p.length)*1<=140737488355328:=by have:=congrArg List.length hf;simp at this;omega
  have e4:(acc++p).map Zc=acc.map Zc++p.map Zc:=by simp
  have e5:(acc++p).length=acc.length+p.length:=by simp
  rw [e4,e5] at ih
  clear hf
  unfold Zk6 at ih ⊢
  rw [Z9]
  unfold ZI at e1 ih ⊢
  simp -implicitDefEqProofs only [EQA,Z5,Zcq,Nat.reduceAdd,Nat.reduceLT,Nat.reduceEqDiff,Nat.reduceBEq,reduceCtorEq,Z0,↓reduceIte,gcT,gcA,ZB,Zz,Zo,Zw,Z1,Zq,ZU,ZG,ZM,Znb,Zik,oI,h1,e1,e3,k1,k2,ZaX,AVal.cells]
  exact ih
theorem Zyf (p:Zb) (ls:List Zb) (hl:(p::ls).length<=9223372036854775807) (hn:(p::ls).flatten.length<=140737488355328):E 56 [.lst false ((p::ls).map ZI)] []=some (.sl 0 0 0 (p::ls).flatten.length,[.row 0 1 ((p::ls).flatten.map Zc)]):=by
 have key:=ZrJ (p::ls) hl ls 1 p (p::ls).flatten rfl rfl hn
 have k1:=ZfW p
 have k2:p.length*1<=140737488355328:=by simp at hn;omega
 have h1:(0:Int) < ((p::ls).length:Int):=by simp
 have hat:(p::ls)[0]?=some p:=rfl
 have e1:=iad hat ZI (k:=1) rfl
 have z0:((0:Nat):Int)=0:=rfl
 have z1:((1:Nat):Int)=1:=rfl
 have w1:IntKind.i64.wrap (0+1)=1:=rfl
 rw [z0] at e1
 rw [z1] at key
 unfold Zk6 at key
 generalize hL:p::ls=L at *
 rw [Zh (by rfl) ZzL]
 unfold ZI at e1 key ⊢
 simp -implicitDefEqProofs only [EQA,Z5,Nat.reduceLT,Nat.reduceEqDiff,reduceCtorEq,↓reduceIte,gcT,gcA,ZB,Zz,Zw,ZM,ZKe,ZmX,oI]
 rw [Z9]
 simp -implicitDefEqProofs only [EQA,Z5,Zcq,Nat.reduceLT,Nat.reduceEqDiff,Nat.reduceBEq,Z0,↓reduceIte,gcT,gcA,ZB,Zz,Zo,Zw,Z1,Zq,ZU,ZG,ZM,Znb,Zik,oI,h1,e1,w1,k1,k2,ZaX,AVal.cells]
 exact key
theorem Zhx (σ:Za) (sq own:Nat) (f:Bool) (p:Zb) (ls:List Zb) (hl:(p::ls).length<=9223372036854775807) (hn:(p::ls).flatten.length<=140737488355328):Zj E BY σ sq 56 own true [.lst f ((p::ls).map ZI)]=some (.lst false ((p::ls).flatten.map Zc),σ,{}):=by
 have h:=ZqC (bf:=BY) (Zyf p ls hl hn) (by rw [List.length_map]) rfl rfl σ sq own
 cases f
 ·exact h
 ·rw [Zgz (by kernel_rfl) rfl] at h ⊢
  exact h
theorem ZOc:∀ n:Fin 256,IntKind.u8.wrap (((BitVec.ofInt IntKind.u8.bits ((n.val:Nat):Int) ||| BitVec.ofInt IntKind.u8.bits 128).toNat:Nat):Int)=((n.val % 128+128:Nat):Int):=by decide +kernel
theorem Zx2 (n:Nat):IntKind.u8.wrap (((BitVec.ofInt IntKind.u8.bits (IntKind.u8.wrap (n:Int)) ||| BitVec.ofInt IntKind.u8.bits 128).toNat:Nat):Int)=((UInt8.ofNat (n % 128+128)).toNat:Int):=by
 have h:=ZOc ⟨n % 256,Nat.mod_lt _ (by decide)⟩
 have e:IntKind.u8.wrap (n:Int)=((n % 256:Nat):Int):=by rw [IntKind.wrap_u8];omega
 rw [e,h,UInt8.toNat_ofNat']
 simp only
 omega
theorem ZvB:∀ (k n:Nat) (acc full:Zb),n < 128 ^ (k+1)->acc.length+k<=3->full=acc++ZbO k n ->
  ZkW 0 [(4,ZeB (acc.map Zc)),(0,.int .i64 (n:Nat))] (ZeH 1 (acc.map Zc))=some (.tup [.sl 0 0 0 full.length,.int .i64 0],[.row 0 1 (full.map Zc)])
 | k,n,acc,full,hk,hacc,hf=>by
  by_cases hn:n < 128
  ·have h1:¬((n:Int) > 127):=by omega
   have hv:ZbO k n=[UInt8.ofNat n]:=by cases k <;> simp [ZbO,hn]
   rw [hv] at hf
   have hb:IntKind.u8.wrap (n:Int)=((UInt8.ofNat n).toNat:Int):=by rw [IntKind.wrap_u8,UInt8.toNat_ofNat'];omega
   subst hf
   unfold ZkW
   rw [Z9]
   cases acc with
   | nil =>
    simp -implicitDefEqProofs only [EQA,Nat.reduceLT,Nat.reduceLeDiff,Nat.reduceEqDiff,Nat.reduceBEq,reduceCtorEq,Z0,↓reduceIte,ZlG,Zsa,ZkM,Zkl,ZhV,oI,h1,hb,Zgm,Zga,ZaX,kOk,viewAs,ZS,ZN,Zs,Nat.one_mul,AVal.cells]
    simp [Zak,gcA,ZB,Zz,Zt,Z2,Zo,Zw,Z1,Zq,ZU,Zf,Zm,ZG,ZM]
    rfl
   | cons a acc =>
    have hz:(acc.length+1+1)*1<=140737488355328:=by simp at hacc;omega
    simp -implicitDefEqProofs only [EQA,Nat.reduceAdd,Nat.reduceLT,Nat.reduceEqDiff,Nat.reduceBEq,reduceCtorEq,Z0,↓reduceIte,ZlG,Zsa,ZkM,Zkl,ZhV,oI,h1,hb,Zhw,ZhZ,ZaX,kOk,viewAs,ZS,ZN,Zs,AVal.cells,hz]
    simp [Zak,gcA,ZB,Zz,Zt,Z2,Zo,Zw,Z1,Zq,ZU,Zf,Zm,ZG,ZM]
    rfl
  ·cases k with
   | zero=>simp at hk;omega
   | succ k =>
    have hlt:n / 128 < 128 ^ (k+1):=by
     rw [Nat.div_lt_iff_lt_mul (by decide)]
     rw [Nat.pow_succ] at hk;exact hk
    have hv:ZbO (k+1) n=UInt8.ofNat (n % 128+128)::ZbO k (n / 128):=by simp [ZbO,hn]
    have ih:=ZvB k (n / 128) (acc++[UInt8.ofNat (n % 128+128)]) full hlt (by simp;omega) (by rw [hf,hv];simp)
    clear hf
    have h1:((n:Int) > 127):=by omega
    have ho:=Zx2 n
    have hd:(n:Int).fdiv (2 ^ min (Int.toNat 7) IntKind.i64.bits)=((n / 128:Nat):Int):=by
     rw [show (2:Int) ^ min (Int.toNat 7) IntKind.i64.bits=128 from rfl,Int.fdiv_eq_ediv_of_nonneg _ (by decide)]
     omega
    unfold ZkW at ih ⊢
    rw [Z9]
    cases acc with
    | nil =>
     simp -implicitDefEqProofs only [EQA,Z5,Zcq,Nat.reduceLT,Nat.reduceLeDiff,Nat.reduceEqDiff,Nat.reduceBEq,ZaB,reduceCtorEq,Z0,↓reduceIte,gcT,gcA,ZB,Zz,Zo,Zw,Z1,Zq,ZU,ZG,ZM,Zkl,ZhV,oI,h1,ho,hd,Zgm,Zga,ZaX,kOk,viewAs,ZS,ZN,Zs,Nat.one_mul,AVal.cells,Int.reduceLT]
     simp only [List.map_cons,List.map_nil,List.nil_append,Zhw,ZhZ,List.length_cons,List.length_nil,Nat.zero_add,Zc] at ih
     exact ih
    | cons a acc =>
     have hz:(acc.length+1+1)*1<=140737488355328:=by simp at hacc;omega
     simp -implicitDefEqProofs only [EQA,Z5,Zcq,Nat.reduceAdd,Nat.reduceLT,Nat.reduceEqDiff,Nat.reduceBEq,ZaB,reduceCtorEq,Z0,↓reduceIte,gcT,gcA,ZB,Zz,Zo,Zw,Z1,Zq,ZU,ZG,ZM,Zkl,ZhV,oI,h1,ho,hd,Zhw,ZhZ,ZaX,kOk,viewAs,ZS,ZN,Zs,AVal.cells,hz,Int.reduceLT]
     simp only [List.map_append,List.map_cons,List.map_nil,List.cons_append,Zhw,ZhZ,List.length_append,List.length_cons,List.length_map,List.length_nil,Nat.zero_add,Nat.add_assoc,Nat.reduceAdd,Zc] at ih
     exact ih
theorem ZOv (n:Int):E 82 [.int .i64 n] []=some (if n < 0\/n > 268435455 then (.tup [.lst true [],.int .i64 10],[]) else (.tup [.sl 0 0 0 (ZbO 3 n.toNat).length,.int .i64 0],[.row 0 1 ((ZbO 3 n.toNat).map Zc)])):=by
 rw [Zh (by rfl) ZBs]
 by_cases h0:n < 0
 ·have : n < 0\/n > 268435455:=Or.inl h0
  simp -implicitDefEqProofs only [EQA,Zu,Nat.reduceLT,Nat.reduceEqDiff,ZF,Zav,reduceCtorEq,↓reduceIte,Zd,ZmV,ZiR,ZlG,oI,h0]
 ·by_cases h2:n > 268435455
  ·have : n < 0\/n > 268435455:=Or.inr h2
   simp -implicitDefEqProofs only [EQA,Zu,Nat.reduceLT,Nat.reduceEqDiff,ZF,unG,reduceCtorEq,↓reduceIte,Zd,ZmV,ZiR,ZlG,oI,h0,h2]
  ·have : ¬(n < 0\/n > 268435455):=by omega
   have key:=ZvB 3 n.toNat [] (ZbO 3 n.toNat) (by omega) (by simp) rfl
   have e:((n.toNat:Nat):Int)=n:=by omega
   rw [e] at key
   simp only [List.map_nil,Zgm,Zga] at key
   unfold ZkW at key
   generalize ZbO 3 n.toNat=V at *
   simp -implicitDefEqProofs only [EQA,Z5,Nat.reduceLT,Nat.reduceEqDiff,ZF,unG,reduceCtorEq,↓reduceIte,gcT,gcA,ZB,Zz,Zw,ZM,ZmV,ZiR,oI,h0,h2]
   exact key
def ZeK (n:Int):AVal:=.tup [.lst false ((Zah n).1.map Zc),.int .i64 (Zah n).2]
theorem Zxy {O:ZR} {bf:Nat->Bool} {f:Nat} {args args':List AVal} {k n:Nat} {xs:List AVal} {c:Int} (h:O f args' []=some (.tup [.sl 0 0 0 n,.int .i64 c],[.row 0 k xs])) (hl:xs.length=n) (hb:bf f=false) (hp:args.all Zac=true) (hn:args.map ZH=args') (σ:Za) (sq own:Nat):Zj O bf σ sq f own true args=some (.tup [.lst false xs,.int .i64 c],σ,{}):=by
 subst hl
 rw [Zgz hb hp,hn,h]
 simp [Zaf,ZbJ,viewR,viewAs,ZS,ZN,Z0,Zs,gcA,ZB,Zz,Zt,Z2,Zf,Zm,Zw,ZaE,ZbG,Zbx,ZaY]
theorem ZfL (σ:Za) (sq own:Nat) (n:Int):Zj E BY σ sq 82 own true [.int .i64 n]=some (ZeK n,σ,{}):=by
 have h:=ZOv n
 unfold ZeK Zah
 by_cases hc:n < 0\/n > 268435455
 ·rw [if_pos hc] at h ⊢
  exact ZbC h (by kernel_rfl) rfl rfl rfl (fun _=>rfl) _ _ _
 ·rw [if_neg hc] at h ⊢
  exact Zxy h (by rw [List.length_map]) (by kernel_rfl) rfl rfl _ _ _
end
section
def gvT (x:Nat×Nat×Int):AVal:=.tup [.int .i64 (x.1:Nat),.int .i64 (x.2.1:Nat),.int .i64 x.2.2]
theorem ZxP:∀ n:Fin 256,IntKind.u8.wrap (((BitVec.ofInt IntKind.u8.bits ((n.val:Nat):Int) &&& BitVec.ofInt IntKind.u8.bits 127).toNat:Nat):Int)=((n.val % 128:Nat):Int):=by decide +kernel
theorem ZzS (c:UInt8):IntKind.u8.wrap (((BitVec.ofInt IntKind.u8.bits (c.toNat:Int) &&& BitVec.ofInt IntKind.u8.bits 127).toNat:Nat):Int)=((c.toNat % 128:Nat):Int):=ZxP ⟨c.toNat,c.toNat_lt⟩
theorem ZnP (i:Nat):128 ^ i=2 ^ (7*i):=by rw [Nat.pow_mul]
theorem ZOk (n a i:Nat) (hi:i<=3) (hn:n < 128 ^ i) (ha:a < 128):IntKind.i64.wrap (((BitVec.ofInt IntKind.i64.bits (n:Int) ||| BitVec.ofInt IntKind.i64.bits ((a*128 ^ i:Nat):Int)).toNat:Nat):Int)=((n+a*128 ^ i:Nat):Int):=by
 have hb:IntKind.i64.bits=64:=rfl
 have hp:128 ^ i<=128 ^ 3:=Nat.pow_le_pow_right (by decide) hi
 have hm:a*128 ^ i<=127*128 ^ 3:=Nat.mul_le_mul (by omega) hp
 rw [hb,BitVec.toNat_or]
 simp only [BitVec.ofInt_natCast,BitVec.toNat_ofNat]
 have e1:n % 2 ^ 64=n:=Nat.mod_eq_of_lt (by omega)
 have e2:a*128 ^ i % 2 ^ 64=a*128 ^ i:=Nat.mod_eq_of_lt (by omega)
 rw [e1,e2]
 have e3:a*128 ^ i=a <<< (7*i):=by rw [Nat.shiftLeft_eq,ZnP]
 have e4:n ||| a*128 ^ i=n+a*128 ^ i:=by
  rw [e3,Nat.or_comm,<-Nat.shiftLeft_add_eq_or_of_lt (by rw [<-ZnP];exact hn)]
  omega
 rw [e4,ZbX (by omega) (by omega)]
theorem ZK0 (a i:Nat) (hi:i<=3) (ha:a < 128):IntKind.i64.wrap ((a:Int)*2 ^ min (Int.toNat ((7*i:Nat):Int)) IntKind.i64.bits)=((a*128 ^ i:Nat):Int):=by
 have hp:128 ^ i<=128 ^ 3:=Nat.pow_le_pow_right (by decide) hi
 have hm:a*128 ^ i<=127*128 ^ 3:=Nat.mul_le_mul (by omega) hp
 have e:min (Int.toNat ((7*i:Nat):Int)) IntKind.i64.bits=7*i:=by
  have hb:IntKind.i64.bits=64:=rfl
  rw [hb];omega
 have e2:((a:Int)*2 ^ (7*i))=((a*128 ^ i:Nat):Int):=by rw [ZnP];simp
 rw [e,e2,ZbX (by omega) (by omega)]
theorem Zvx (n i a:Nat) (hn:n < 128 ^ i) (ha:a < 128):n+a*128 ^ i < 128 ^ (i+1):=by
 have : a*128 ^ i<=127*128 ^ i:=Nat.mul_le_mul_right _ (by omega)
 rw [Nat.pow_succ];omega
theorem Zrl (b:Zb) (hl:b.length<=9223372036854775807):∀ (r:Zb) (i n:Nat),i<=4->i<=b.length->n < 128 ^ i->b.drop i=r ->
  ZhX 0 [(9,.int .i64 i),(8,.int .i64 b.length),(7,.lst false (b.map Zc)),(2,.int .i64 n),(0,.lst false (b.map Zc))] []=some (gvT (gvA i n r),[])
 | [],i,n,hi,hib,hn,h=>by
  have h1:=Zda h
  unfold ZhX
  rw [Z9,gvA]
  by_cases h4:i < 4
  ·have h5:(b.length:Int) < 4:=by omega
   simp -implicitDefEqProofs only [EQA,Zu,Nat.reduceLT,Nat.reduceEqDiff,reduceCtorEq,↓reduceIte,Zd,ZhY,Zpp,Ziv,Zg3,Zfv,oI,h1,h4,h5,gvT]
   rfl
  ·have h5:¬(b.length:Int) < 4:=by omega
   simp -implicitDefEqProofs only [EQA,Zu,Nat.reduceLT,Nat.reduceEqDiff,reduceCtorEq,↓reduceIte,Zd,ZhY,Zpp,Ziv,Zg3,Zfv,oI,h1,h4,h5,gvT]
   rfl
 | c::r,i,n,hi,hib,hn,h=>by
  have hlt:=(Z8 h).2.2
  have h1:(i:Int) < b.length:=by omega
  have e1:=iad (Z8 h).1 Zc (k:=1) rfl
  have e3:=Zc9 h1 hl
  rw [gvA]
  by_cases h4:i=4
  ·have h5:¬(b.length:Int) < 4:=by omega
   have h6:((i:Int) == 4)=true:=by simp;omega
   rw [if_pos h4]
   unfold ZhX
   rw [Z9]
   simp -implicitDefEqProofs only [EQA,Zu,Nat.reduceLT,Nat.reduceEqDiff,reduceCtorEq,↓reduceIte,Zd,ZhY,Zpp,Ziv,Zg3,Zfv,oI,h1,e1,h5,h6,gvT,Zc,AVal.cells]
   rfl
  ·have h6:((i:Int) == 4)=false:=by simp;omega
   have hm:=ZzS c
   have ha:c.toNat % 128 < 128:=Nat.mod_lt _ (by decide)
   have hi64:IntKind.i64.wrap ((c.toNat % 128:Nat):Int)=((c.toNat % 128:Nat):Int):=ZbX (by omega) (by omega)
   have h7:IntKind.i64.wrap (7*(i:Int))=((7*i:Nat):Int):=by rw [ZbX (by omega) (by omega)];omega
   have hneg:¬((7*i:Nat):Int) < 0:=by omega
   have hs:=ZK0 (c.toNat % 128) i (by omega) ha
   have ho:=ZOk n (c.toNat % 128) i (by omega) hn ha
   by_cases hc:c.toNat < 128
   ·have hc':(c.toNat:Int) < 128:=by omega
    unfold ZhX
    rw [Z9]
    by_cases hc0:c=0
    ·have hc1:((c.toNat:Int) == 0)=true:=by rw [hc0];rfl
     by_cases hip:0 < i
     ·have hip':(i:Int) > 0:=by omega
      have hcc:c=0/\0 < i:=⟨hc0,hip⟩
      simp -implicitDefEqProofs only [EQA,Zu,Z5,Zdx,ZkE,Nat.reduceLT,Nat.reduceEqDiff,ZaB,ZF,Zav,unG,reduceCtorEq,decide_eq_true_eq,ite_self,↓reduceIte,Zd,gcT,gcA,ZB,Zz,Zw,ZM,ZhY,Zg3,Zfv,oI,h1,e1,h4,h6,h7,hneg,hip',hcc,gvT,Zc,AVal.cells]
      rfl
     ·have hip':¬(i:Int) > 0:=by omega
      have hcc:¬(c=0/\0 < i):=fun h=>hip h.2
      simp -implicitDefEqProofs only [EQA,Zu,Nat.reduceLT,Nat.reduceEqDiff,ZaB,ZF,unG,reduceCtorEq,↓reduceIte,Zd,ZhY,Zg3,Zfv,oI,h1,e1,h4,h6,hm,hi64,h7,hneg,hs,ho,hc,hc',hc1,hip',hcc,e3,gvT,Zc,AVal.cells]
    ·have hc1:((c.toNat:Int) == 0)=false:=by
      have : c.toNat≠0:=fun h=>hc0 (UInt8.toNat_inj.1 (by simpa using h))
      simp;omega
     have hcc:¬(c=0/\0 < i):=fun h=>hc0 h.1
     simp -implicitDefEqProofs only [EQA,Zu,Nat.reduceLT,Nat.reduceEqDiff,ZaB,ZF,Zav,reduceCtorEq,↓reduceIte,Zd,ZhY,Zg3,Zfv,oI,h1,e1,h4,h6,hm,hi64,h7,hneg,hs,ho,hc,hc',hc1,hcc,e3,gvT,Zc,AVal.cells]
   ·have hc':¬(c.toNat:Int) < 128:=by omega
    have ih:=Zrl b hl r (i+1) (n+c.toNat % 128*128 ^ i) (by omega) (by omega) (Zvx n i _ hn ha) (Z8 h).2.1
    unfold ZhX at ih ⊢
    rw [Z9]
    simp -implicitDefEqProofs only [EQA,Z5,Nat.reduceLT,Nat.reduceEqDiff,ZaB,reduceCtorEq,↓reduceIte,gcT,gcA,ZB,Zz,Zw,ZM,Zg3,Zfv,oI,h1,e1,h4,h6,hm,hi64,h7,hneg,hs,ho,hc,hc',e3,Zc,AVal.cells]
    exact ih
theorem ZFi (b:Zb) (hl:b.length<=9223372036854775807):E 135 [ZI b] []=some (gvT (ZO b),[]):=by
 have key:=Zrl b hl b 0 0 (by omega) (by omega) (by simp) rfl
 have z0:((0:Nat):Int)=0:=rfl
 rw [z0] at key
 unfold ZhX at key
 unfold ZO
 rw [Zh (by rfl) ZCJ]
 simp -implicitDefEqProofs only [EQA,Z5,Nat.reduceLT,Nat.reduceEqDiff,reduceCtorEq,↓reduceIte,gcT,gcA,ZB,Zz,Zw,ZM,ZKU,ZoU,oI,ZI]
 exact key
theorem Zn7 (σ:Za) (sq own:Nat) (f:Bool) (b:Zb) (hl:b.length<=9223372036854775807):Zj E BY σ sq 135 own true [.lst f (b.map Zc)]=some (gvT (ZO b),σ,{}) :=
 ZbC (ZFi b hl) (by kernel_rfl) rfl rfl rfl (fun _=>rfl) _ _ _
end
section
theorem ZuL (l:List UInt8) (p:Nat):Zfy l p=Lib.decodeL (l.drop p):=by
 have:=Lib.decodeL_drop ⟨l.toArray⟩ p
 simpa [Zfy] using this.symm
def zfG:Nat->List UInt8->Bool
 | 0,_=>true
 | n+1,l=>if l=[] then true else if (Lib.decodeL l).1=0 then false else zfG n (l.drop (Lib.decodeL l).2)
def ZgV (l:List UInt8):Bool:=zfG l.length l && Lib.validD l
theorem ZMa (l:List UInt8):E 142 [.str l] []=some (.bool (Lib.validD l),[]):=ZdI.2 ⟨1,rfl⟩
theorem Zx1 (σ:Za) (sq own:Nat) (view:Bool) (l:List UInt8):Zj E BY σ sq 142 own view [.str l]=some (.bool (Lib.validD l),σ,{}) :=
 Zce (ZMa l) (by kernel_rfl) (by simp -implicitDefEqProofs only [ZcM,Zbn,eq_self]) (by simp -implicitDefEqProofs only [ZC,Zbn,eq_self]) rfl (fun _=>rfl) _ _ _ _
theorem Zu4 (s:List UInt8):∀ (n p:Nat),s.length - p<=n->p<=s.length->ZlF 0 [(6,.ref 0 0),(0,.str s)] [.siter s p]=some (.bool (zfG n (s.drop p) && Lib.validD s),[])
 | n,p,hn,hp=>by
  by_cases h:p < s.length
  ·obtain ⟨n,rfl⟩:∃ m,n=m+1:=⟨n - 1,by omega⟩
   have hw:=Lib.decodeL_width (s.drop p)
   have hne:s.drop p≠[]:=by rw [ne_eq,List.drop_eq_nil_iff];omega
   have hle:=Lib.decodeL_le (s.drop p) hne
   rw [List.length_drop] at hle
   have ih:=Zu4 s n (p+(Lib.decodeL (s.drop p)).2) (by omega) (by omega)
   rw [<-List.drop_drop] at ih
   unfold ZlF at ih ⊢
   rw [Z9]
   by_cases hz:(Lib.decodeL (s.drop p)).1=0
   ·have hz':((Lib.decodeL (s.drop p)).1:Int)=0:=by omega
    simp -implicitDefEqProofs only [EQA,Nat.reduceLT,Nat.reduceEqDiff,reduceCtorEq,↓reduceIte,ZtN,Zqz,Zjm,oI,h,ZuL,hz']
    rw [zfG,if_neg hne,if_pos hz];rfl
   ·have hz':(((Lib.decodeL (s.drop p)).1:Int) == 0)=false:=by rw [beq_eq_false_iff_ne];omega
    simp -implicitDefEqProofs only [EQA,Z5,Zcq,Nat.reduceLT,Nat.reduceEqDiff,reduceCtorEq,↓reduceIte,gcT,gcA,ZB,Zz,Zo,Zw,Z1,Zq,ZU,ZG,ZM,Zqz,Zjm,oI,h,ZuL,hz']
    rw [ih,zfG,if_neg hne,if_neg hz]
  ·have he:s.drop p=[]:=by rw [List.drop_eq_nil_iff];omega
   unfold ZlF
   rw [Z9]
   simp -implicitDefEqProofs only [EQA,Nat.reduceLT,Nat.reduceEqDiff,reduceCtorEq,↓reduceIte,ZtN,ZNe,ZmZ,Zqz,Zjm,oI,h,Zx1]
   rw [he]
   cases n <;> simp [zfG]
theorem ZH9 (s:List UInt8):E 97 [.str s] []=some (.bool (ZgV s),[]):=by
 rw [Zh (by rfl) ZAN]
 have:=Zu4 s s.length 0 (by omega) (by omega)
 unfold ZlF at this
 simp -implicitDefEqProofs only [EQA,Z5,Zcq,Nat.reduceLT,Nat.reduceBEq,reduceCtorEq,↓reduceIte,gcT,gcA,ZB,Zz,Zo,Zw,Z1,Zq,ZU,ZG,ZM,ZBX,ZnI,oI]
 rw [this,List.drop_zero];rfl
theorem Zve (σ:Za) (sq own:Nat) (view:Bool) (l:List UInt8):Zj E BY σ sq 97 own view [.str l]=some (.bool (ZgV l),σ,{}) :=
 Zce (ZH9 l) (by kernel_rfl) (by simp -implicitDefEqProofs only [ZcM,Zbn,eq_self]) (by simp -implicitDefEqProofs only [ZC,Zbn,eq_self]) rfl (fun _=>rfl) _ _ _ _
theorem wrap_i64 {n:Int} (h0:-9223372036854775808<=n) (h:n<=9223372036854775807):IntKind.i64.wrap n=n:=ZbX h0 h
end
section
theorem Zuy (σ:Za) (l:Zb) (k1 k2:IntKind) (lo hi:Int) (h0:0<=lo) (h1:lo<=hi) (h2:hi<=(l.length:Int)):ZbY σ 1 (.lst false (l.map Zc)) (some (.int k1 lo)) (some (.int k2 hi)) none=some (.lst false (((l.take hi.toNat).drop lo.toNat).map Zc),σ,{}):=by
 have hh:0<=hi:=by omega
 have h3:lo<=((hi.toNat:Nat):Int):=by omega
 have hk:=ZfW l
 simp only [ZbY,Zbr,Zem,List.length_map,hh,h2,and_self,if_true,h0,h3,hk,Bool.or_true,Option.isSome_none,Bool.false_eq_true,if_false,Bool.false_and,List.map_take,List.map_drop]
theorem Zfg (σ:Za) (l:Zb) (k1:IntKind) (lo:Int) (h0:0<=lo) (h1:lo<=(l.length:Int)):ZbY σ 1 (.lst false (l.map Zc)) (some (.int k1 lo)) none none=some (.lst false ((l.drop lo.toNat).map Zc),σ,{}):=by
 have hk:=ZfW l
 simp only [ZbY,Zbr,Zem,List.length_map,and_self,if_true,h0,h1,hk,Bool.or_true,Option.isSome_none,Bool.false_eq_true,if_false,Bool.false_and,List.map_drop]
 rw [List.take_of_length_le (by simp)]
def byT (x:Zb×Int):AVal:=.tup [.lst false (x.1.map Zc),.int .i64 x.2]
theorem Zy3 (b:Zb) (h:b.length<=9223372036854775807):IntKind.u64.wrap (b.length:Int)=(b.length:Int):=by rw [IntKind.wrap_u64];omega
theorem ZAi (b:Zb) (hl:b.length<=9223372036854775807):∃ f,E 55 [ZI b] []=some (.tup [.lst f ((Zbv b).1.map Zc),.int .i64 (Zbv b).2],[]):=by
 unfold Zbv
 by_cases h:b.length > 65535
 ·refine ⟨true,?_⟩
  have h':(b.length:Int) > 65535:=by omega
  rw [Zh (by rfl) Zsg,if_pos h]
  simp -implicitDefEqProofs only [EQA,Zu,Nat.reduceLT,Nat.reduceEqDiff,reduceCtorEq,↓reduceIte,Zd,Zvl,Zmf,ZtI,oI,ZI,h']
 ·refine ⟨false,?_⟩
  have h':¬(b.length:Int) > 65535:=by omega
  have hw:=Zy3 b hl
  have hP:=fun σ sq own=>ZkX σ sq own b.length 2 (by omega) (by omega)
  have hJ:=fun σ sq own f=>Zhx σ sq own f (beB b.length 2) [b] (by simp) (by simp [Za2];omega)
  simp only [List.map_cons,List.map_nil,ZI,List.flatten_cons,List.flatten_nil,List.append_nil] at hJ
  have z2:((2:Nat):Int)=2:=rfl
  rw [z2] at hP
  rw [Zh (by rfl) Zsg,if_neg h]
  simp -implicitDefEqProofs only [EQA,Zu,Nat.reduceLT,Nat.reduceEqDiff,reduceCtorEq,↓reduceIte,Zd,Zvl,Zmf,ZtI,oI,ZI,h',hw,hP,hJ,viewAs,ZS,ZN,Zs,AVal.cells]
theorem Zo5 (σ:Za) (sq own:Nat) (f:Bool) (b:Zb) (hl:b.length<=9223372036854775807):Zj E BY σ sq 55 own true [.lst f (b.map Zc)]=some (byT (Zbv b),σ,{}):=by
 obtain ⟨g,h⟩:=ZAi b hl
 exact ZbC h (by kernel_rfl) rfl rfl rfl (fun _=>rfl) _ _ _
def Zad (s:Zb):Zb×Int:=if ZgV s then Zbv s else ([],13)
theorem ZGl (s:Zb) (hl:s.length<=9223372036854775807):∃ f,E 54 [.str s] []=some (.tup [.lst f ((Zad s).1.map Zc),.int .i64 (Zad s).2],[]):=by
 have hI:=fun σ sq own=>Zve σ sq own true s
 have hD:=fun σ sq own f=>Zo5 σ sq own f s hl
 unfold Zad
 cases h:ZgV s <;> rw [h] at hI
 ·refine ⟨true,?_⟩
  rw [Zh (by rfl) ZtF]
  simp -implicitDefEqProofs only [EQA,Zu,Nat.reduceLT,Nat.reduceEqDiff,unA,reduceCtorEq,↓reduceIte,Zd,Zvv,Zls,ZsL,oI,hI]
 ·refine ⟨false,?_⟩
  rw [Zh (by rfl) ZtF]
  simp -implicitDefEqProofs only [EQA,Zu,Nat.reduceLT,Nat.reduceEqDiff,unA,reduceCtorEq,↓reduceIte,Zd,Zvv,Zls,ZsL,oI,hI,hD,byT]
theorem Zjb (σ:Za) (sq own:Nat) (s:Zb) (hl:s.length<=9223372036854775807):Zj E BY σ sq 54 own true [.str s]=some (byT (Zad s),σ,{}):=by
 obtain ⟨g,h⟩:=ZGl s hl
 exact ZbC h (by kernel_rfl) rfl rfl rfl (fun _=>rfl) _ _ _
end
section
def gdT (x:Zb×Nat×Int):AVal:=.tup [.lst false (x.1.map Zc),.int .i64 (x.2.1:Nat),.int .i64 x.2.2]
def gtT (x:Zb×Nat×Int):AVal:=.tup [.str x.1,.int .i64 (x.2.1:Nat),.int .i64 x.2.2]
theorem ZrF (b:Zb) (h:b.length<=2):Zba b < 65536:=by
 unfold Zba
 match b,h with
 | [],_=>simp [Zcy]
 | [a],_=>rw [Zbz,Zcy];have:=a.toNat_lt;omega
 | [a,c],_=>rw [Zbz,Zbz,Zcy];have:=a.toNat_lt;have:=c.toNat_lt;omega
def ZX (b:Zb):Zb×Nat×Int:=if (Zan b).2.2≠0 then ([],0,(Zan b).2.2) else if ZgV (Zan b).1 then Zan b else ([],0,13)
theorem ZKZ (b:Zb) (hl:b.length<=140737488355328):∃ f,E 106 [ZI b] []=some (.tup [.lst f ((Zan b).1.map Zc),.int .i64 ((Zan b).2.1:Nat),.int .i64 (Zan b).2.2],[]):=by
 have t2:(b.take 2).length<=9223372036854775807:=by simp;omega
 have hG:=fun σ sq own f=>Zk0 σ sq own (b.take 2) t2 f
 have hg:=ZrF (b.take 2) (by simp;omega)
 unfold Zan
 generalize hGG:Zba (b.take 2)=g at *
 have hi:IntKind.i64.wrap (g:Int)=(g:Int):=ZbX (by omega) (by omega)
 by_cases h1:b.length < 2
 ·have h1':(b.length:Int) < 2:=by omega
  refine ⟨true,?_⟩
  rw [Zh (by rfl) ZqA,if_pos (Or.inl h1)]
  simp -implicitDefEqProofs only [EQA,Zu,Nat.reduceLT,Nat.reduceEqDiff,ZF,Zav,reduceCtorEq,↓reduceIte,Zd,ZnD,ZiF,ZpC,oI,ZI,h1']
  rfl
 ·have h1':¬(b.length:Int) < 2:=by omega
  have s2:=fun σ kk=>Zhi σ 1 b Zc kk 2 (by omega) (by omega)
  have e2:(2:Int).toNat=2:=rfl
  rw [e2] at s2
  have w1:IntKind.i64.wrap ((b.length:Int) - 2)=((b.length - 2:Nat):Int):=by rw [ZbX (by omega) (by omega)];omega
  by_cases h3:b.length - 2 < g
  ·have h3':((b.length - 2:Nat):Int) < (g:Int):=by omega
   refine ⟨true,?_⟩
   rw [Zh (by rfl) ZqA,if_pos (Or.inr h3)]
   simp -implicitDefEqProofs only [EQA,Zu,Nat.reduceLT,Nat.reduceEqDiff,ZF,unG,reduceCtorEq,↓reduceIte,Zd,ZnD,ZiF,ZpC,oI,ZI,h1',s2,hG,hi,w1,h3']
   rfl
  ·have h3':¬((b.length - 2:Nat):Int) < (g:Int):=by omega
   have w2:IntKind.i64.wrap (2+(g:Int))=((2+g:Nat):Int):=by rw [ZbX (by omega) (by omega)];omega
   have s3:=fun σ k1 k2=>Zuy σ b k1 k2 2 ((2+g:Nat):Int) (by omega) (by omega) (by omega)
   have e3:(((2+g:Nat):Int)).toNat=2+g:=rfl
   have e4:(b.take (2+g)).drop 2=(b.drop 2).take g:=by rw [List.drop_take];congr 1;omega
   rw [e2,e3,e4] at s3
   have hJ:=fun σ sq own f=>Zhx σ sq own f ((b.drop 2).take g) [] (by simp) (by simp;omega)
   simp only [List.map_cons,List.map_nil,ZI,List.flatten_cons,List.flatten_nil,List.append_nil] at hJ
   have hc:¬(b.length < 2\/b.length - 2 < g):=by omega
   refine ⟨false,?_⟩
   rw [Zh (by rfl) ZqA,if_neg hc]
   simp -implicitDefEqProofs only [EQA,Zu,Nat.reduceLT,Nat.reduceEqDiff,ZF,unG,reduceCtorEq,↓reduceIte,Zd,ZnD,ZiF,ZpC,oI,ZI,h1',s2,hG,hi,w1,h3',w2,s3,hJ,viewAs,ZS,ZN,Zs,AVal.cells]
theorem Zl3 (σ:Za) (sq own:Nat) (f:Bool) (b:Zb) (hl:b.length<=140737488355328):Zj E BY σ sq 106 own true [.lst f (b.map Zc)]=some (gdT (Zan b),σ,{}):=by
 obtain ⟨g,h⟩:=ZKZ b hl
 exact ZbC h (by kernel_rfl) rfl rfl rfl (fun _=>rfl) _ _ _
theorem ZCB (b:Zb) (hl:b.length<=140737488355328):E 109 [ZI b] []=some (gtT (ZX b),[]):=by
 have hD:=fun σ sq own f=>Zl3 σ sq own f b hl
 unfold gdT at hD
 have hI:=fun σ sq own=>Zve σ sq own true (Zan b).1
 unfold ZX
 by_cases h0:(Zan b).2.2=0
 ·have hn0:¬((Zan b).2.2≠0):=by omega
  have e0:((0:Int) != 0)=false:=rfl
  have hp:Zan b=((Zan b).1,(Zan b).2.1,0):=by rw [<-h0]
  rw [if_neg hn0]
  rw [hp]
  simp only
  rw [h0] at hD
  generalize (Zan b).1=d at *
  generalize (Zan b).2.1=u at *
  rw [Zh (by rfl) Zr6]
  cases ht:ZgV d <;> rw [ht] at hI
  ·simp -implicitDefEqProofs only [EQA,Zu,Nat.reduceLT,Nat.reduceEqDiff,unA,reduceCtorEq,Z0,↓reduceIte,Zd,ZoJ,Ziz,Zoz,oI,ZI,hD,hI,e0,gtT]
   rfl
  ·simp -implicitDefEqProofs only [EQA,Zu,Nat.reduceLT,Nat.reduceEqDiff,unA,reduceCtorEq,Z0,↓reduceIte,Zd,ZoJ,Ziz,Zoz,oI,ZI,hD,hI,e0,gtT]
 ·have hn0:((Zan b).2.2≠0):=h0
  have e0:((Zan b).2.2 != 0)=true:=by simpa using h0
  rw [if_pos hn0]
  generalize (Zan b).2.2=e at *
  rw [Zh (by rfl) Zr6]
  simp -implicitDefEqProofs only [EQA,Zu,Nat.reduceLT,Nat.reduceEqDiff,reduceCtorEq,↓reduceIte,Zd,ZoJ,Ziz,Zoz,oI,ZI,hD,e0,gtT]
  rfl
theorem ZhR (σ:Za) (sq own:Nat) (f:Bool) (b:Zb) (hl:b.length<=140737488355328):Zj E BY σ sq 109 own true [.lst f (b.map Zc)]=some (gtT (ZX b),σ,{}) :=
 ZbC (ZCB b hl) (by kernel_rfl) rfl rfl rfl (fun _=>rfl) _ _ _
end
section
theorem Zc7 {O:ZR} {bf:Nat->Bool} {σ:Za} {t f:Nat} {rest:List AVal} {cs cs':List AVal} {r r':AVal} (hb:bf f=false) (hp:rest.all Zac=true) (hc:Zd cs=true) (hc':Zd cs'=true) (hn:ZJ r'=true) (hv:viewR [.var cs'] r=some (r',[]))
  (h:O f (.ref 0 0::rest.map ZH) [.var cs]=some (r,[.var cs'])) (hs:σ[t]?=some (.var cs)) (sq:Nat):Zj O bf σ sq f 0 true (.ref t 0::rest)=some (r',σ.set t (.var cs'),{ any:=true,upd:=[(t,cs')] }):=by
 have htl:t < σ.length:=by
  rcases Nat.lt_or_ge t σ.length with h | h
  ·exact h
  ·rw [List.getElem?_eq_none h] at hs;cases hs
 have hup:Zbd (σ.set t (.var cs')) [t]=[(t,cs')]:=by
  simp only [Zbd,List.getElem?_set,if_pos htl,if_true]
 have hd:σ.getD t .free=.var cs:=by simp [List.getD_eq_getElem?_getD,hs]
 have hf0:Zs σ []=σ:=rfl
 have hsh:showAs σ (.ref t 0::rest)=some (.ref t 0::rest.map ZH,[]):=by
  rw [showAs,show showA σ (.ref t 0)=some (.ref t 0,[]) from rfl,Zeb hp]
  rfl
 have href:Zt (.ref t 0::rest.map ZH)=[t]:=by
  rw [Zt,Zdp hp];rfl
 unfold Zj Zb2
 rw [hb]
 simp only [Bool.false_eq_true,if_false,hsh,hf0,href,Zfn hs hc]
 unfold ZbH
 have hall:([t].all fun t=>okB (σ.getD t .free))=true:=by simp [List.all_cons,List.all_nil,hs,okB]
 rw [if_pos hall]
 have hρ:Zo σ 0 [t] t 0=some (0,0):=by simp [Zo,Z1,hs,Zq,ZU]
 have hheap:Zw σ 0 [t] (Zo σ 0 [t]) [t] 0=[.var cs]:=by
  simp only [Zw,hd,ZG,(ZaP _ cs hc).1]
 have hargs:Zf (Zo σ 0 [t]) (.ref t 0::rest.map ZH)=.ref 0 0::rest.map ZH:=by
  rw [Zf,Zdk hp]
  simp only [Zm,hρ]
 rw [hargs,hheap,h]
 have hask:Zaf true [t].length (some (r,[.var cs']))=some (r',[.var cs']):=by
  unfold Zaf
  rw [if_pos rfl]
  have hnp:∀ x,r≠.pan x:=by rintro x rfl;simp [viewR,ZS,ZN] at hv
  rw [show ZbJ [t].length (some (r,[.var cs']))=(match viewR [.var cs'] r with
   | some (r',ts)=>match gcA [t].length [r'] (Zs [.var cs'] ts) with
    | ([r''],σ')=>some (r'',σ')
    | _=>none
   | none=>none) from by cases r <;> first | rfl | exact absurd rfl (hnp _)]
  rw [hv]
  simp only [List.length_cons,List.length_nil,Nat.zero_add,show Zs [ZK.var cs'] []=[.var cs'] from rfl,ZlZ hn hc']
 rw [hask]
 have hk:Za1 σ [t] [.var cs'] 0=true:=by
  simp [Za1,okB,hs,Zck,Zq]
 simp only [ZaE,List.isEmpty_cons,Bool.false_eq_true,if_false,List.length_cons,List.length_nil,Nat.zero_add,Nat.add_zero,Nat.le_refl,decide_true,hk,Za4,Bool.and_self,if_true,Za8,ZaJ,List.getD_cons_zero,ZG,(Za5 _ r' hn).1,(ZaP _ cs' hc').1,hup]
theorem ZcP {O:ZR} {bf:Nat->Bool} {σ:Za} {t f:Nat} {rest:List AVal} {cs cs':List AVal} {x:AVal} {view:Bool} (hb:bf f=false) (hp:rest.all Zac=true) (hc:Zd cs=true) (hc':Zd cs'=true) (hn:ZJ x=true)
  (h:O f (.ref 0 0::rest.map ZH) [.var cs]=some (.pan x,[.var cs'])) (hs:σ[t]?=some (.var cs)) (sq:Nat):Zj O bf σ sq f 0 view (.ref t 0::rest)=some (.pan x,σ.set t (.var cs'),{ any:=true,upd:=[(t,cs')] }):=by
 have htl:t < σ.length:=by
  rcases Nat.lt_or_ge t σ.length with h | h
  ·exact h
  ·rw [List.getElem?_eq_none h] at hs;cases hs
 have hup:Zbd (σ.set t (.var cs')) [t]=[(t,cs')]:=by
  simp only [Zbd,List.getElem?_set,if_pos htl,if_true]
 have hd:σ.getD t .free=.var cs:=by simp [List.getD_eq_getElem?_getD,hs]
 have hf0:Zs σ []=σ:=rfl
 have hsh:showAs σ (.ref t 0::rest)=some (.ref t 0::rest.map ZH,[]):=by
  rw [showAs,show showA σ (.ref t 0)=some (.ref t 0,[]) from rfl,Zeb hp]
  rfl
 have href:Zt (.ref t 0::rest.map ZH)=[t]:=by
  rw [Zt,Zdp hp];rfl
 unfold Zj Zb2
 rw [hb]
 simp only [Bool.false_eq_true,if_false,hsh,hf0,href,Zfn hs hc]
 unfold ZbH
 have hall:([t].all fun t=>okB (σ.getD t .free))=true:=by simp [List.all_cons,List.all_nil,hs,okB]
 rw [if_pos hall]
 have hρ:Zo σ 0 [t] t 0=some (0,0):=by simp [Zo,Z1,hs,Zq,ZU]
 have hheap:Zw σ 0 [t] (Zo σ 0 [t]) [t] 0=[.var cs]:=by
  simp only [Zw,hd,ZG,(ZaP _ cs hc).1]
 have hargs:Zf (Zo σ 0 [t]) (.ref t 0::rest.map ZH)=.ref 0 0::rest.map ZH:=by
  rw [Zf,Zdk hp]
  simp only [Zm,hρ]
 rw [hargs,hheap,h]
 have hask:Zaf view [t].length (some (.pan x,[.var cs']))=some (.pan x,[.var cs']):=by
  unfold Zaf
  split <;> rfl
 rw [hask]
 have hk:Za1 σ [t] [.var cs'] 0=true:=by
  simp [Za1,okB,hs,Zck,Zq]
 have hnp:ZJ (.pan x)=true:=by simpa only [ZJ] using hn
 simp only [ZaE,List.isEmpty_cons,Bool.false_eq_true,if_false,List.length_cons,List.length_nil,Nat.zero_add,Nat.add_zero,Nat.le_refl,decide_true,hk,Za4,Bool.and_self,if_true,Za8,ZaJ,List.getD_cons_zero,ZG,(Za5 _ _ hnp).1,(ZaP _ cs' hc').1,hup]
end
section
def Zqq:Ze:=(.seq (.region [oI 21 (.build [(.int .i64 0),(.int .i64 0),(.str []),(.str []),(.lst true [])] []),oN (.st 5 (.t 4) (.t 21)),oI 5 (.mov (.c (.bool false)))] none [5,4]) .ret)
def Zon:Ze:=Zqq
def ZIt:=xw Zon Zqq rfl
def Zjh:Ze:=(.seq (.region [oI 11 (.bin .lss (.t 10) (.t 9))] none [11,10,9,8,4,0]) (.seq (.cond (.t 11) .skip (.exit 0)) (.seq (.block 1 (.seq (.region [oI 12 (.iaddr 5 (.t 8) (.t 10)),oI 13 (.ld (some 5) (.t 12)),oI 7 (.alloc [(.int .i64 0),(.int .i64 0),(.str []),(.str []),(.lst true [])]),oN (.st 5 (.t 7) (.t 13))] none [10,9,8,7,4,0]) (.seq (.region [oI 14 (.faddr 0 (.t 7)),oI 15 (.ld none (.t 14)),oI 16 (.mov (.t 0)),oI 17 (.bin .eql (.t 15) (.t 16))] none [17,10,9,8,7,4,0]) (.cond (.t 17) (.seq (.region [oI 18 (.ld (some 5) (.t 7)),oI 19 (.call 147 0 true [(.t 18)]),oN (.st 5 (.t 4) (.t 19)),oI 5 (.mov (.c (.bool true)))] none [5,4]) .ret) .skip)))) (.region [oI 20 (.bin .add (.t 10) (.c (.int .i64 1))),oI 10 (.mov (.t 20))] none [10,9,8,4,0]))))
def ZoI:Ze:=Zjh
def ZnG:=xw ZoI Zjh rfl
def Zpx:Ze:=(.seq (.region [oI 4 (.alloc [(.int .i64 0),(.int .i64 0),(.str []),(.str []),(.lst true [])]),oI 5 (.mov (.c (.bool false)))] none [4,1,0]) (.seq (.seq (.region [oI 8 (.mov (.t 1)),oI 9 (.len (.t 8)),oI 10 (.mov (.c (.int .i64 0)))] none [10,9,8,4,0]) (.block 0 (.loop [10,9,8,4,0] ZoI))) Zon))
def Zkv:ZE:=⟨[(.cell 4 (some 5)),(.tmp 5)],Zpx⟩
theorem ZBK:FC 112=some Zkv:=by kernel_rfl
theorem ZAj:Zkv.body=Zpx:=rfl
theorem Zsj:Zkv.res=[(.cell 4 (some 5)),(.tmp 5)]:=rfl
noncomputable def Zkt (m:Nat) (tm:Tms) (σ:Za):Option (AVal×Za):=(Zap m Zkv (ZbM FC PR BY m Zon (Option.map (ZaW 0) (evL FC PR BY m [10,9,8,4,0] ZoI tm σ))))
def Znj:Ze:=(.seq (.region [oI 2 (.mov (.c (.int .i64 0)))] none [0]) (.seq (.region [oI 3 (.mov (.t 0)),oI 4 (.call 152 0 true [(.t 3)]),oI 5 (.field none 0 (.t 4)),oI 2 (.mov (.t 5))] none [2]) .ret))
def Zo3:ZE:=⟨[(.tmp 2)],Znj⟩
theorem ZEv:FC 134=some Zo3:=by kernel_rfl
theorem ZMX:Zo3.body=Znj:=rfl
theorem ZHO:Zo3.res=[(.tmp 2)]:=rfl
def ZfB:Ze:=(.seq (.region [oI 26 (.mov (.t 6)),oI 27 (.len (.t 26)),oI 28 (.call 82 0 true [(.t 27)]),oI 25 (.mov (.t 28)),oI 29 (.ext (.t 25) 0),oI 30 (.ext (.t 25) 1),oI 9 (.mov (.t 29)),oI 10 (.mov (.t 30))] none [10,9,6,1,0]) (.seq (.seq (.region [oI 31 (.mov (.t 10)),oI 32 (.bin .neq (.t 31) (.c (.int .i64 0)))] none [32,9,6,1,0]) (.cond (.t 32) (.seq (.region [oI 4 (.mov (.c (.lst true []))),oI 5 (.mov (.c (.int .i64 129)))] none [5,4]) .ret) .skip)) (.seq (.region [oI 33 (.mov (.t 9)),oI 34 (.mov (.t 6)),oI 35 (.bslice false 1 2 (.lst true []) [(0,(.t 33)),(1,(.t 34))]),oI 36 (.call 56 0 true [(.t 35)]),oI 6 (.mov (.t 36))] none [6,1,0]) (.seq (.region [oI 38 (.mov (.t 0)),oI 39 (.mov (.t 6)),oI 40 (.call 90 0 true [(.t 38),(.t 39)]),oI 37 (.mov (.t 40)),oI 41 (.ext (.t 37) 0),oI 42 (.ext (.t 37) 1),oI 43 (.ext (.t 37) 2),oI 11 (.mov (.t 41)),oI 12 (.mov (.t 42)),oI 13 (.mov (.t 43))] none [13,12,11,6,1]) (.seq (.seq (.region [oI 44 (.mov (.t 13)),oI 45 (.bin .neq (.t 44) (.c (.int .i64 0))),oI 46 (.mov (.t 45)),⟨(some 47),(.mov (.t 12)),(some (46,false)),[]⟩,⟨(some 48),(.mov (.t 6)),(some (46,false)),[]⟩,⟨(some 49),(.len (.t 48)),(some (46,false)),[]⟩,⟨(some 50),(.bin .neq (.t 47) (.t 49)),(some (46,false)),[]⟩,oI 51 (.pick (.t 46) (.c (.bool true)) (.t 50)),oI 52 (.mov (.t 51)),⟨(some 53),(.mov (.t 11)),(some (52,false)),[]⟩,⟨(some 54),(.mov (.t 1)),(some (52,false)),[]⟩,⟨(some 55),(.call 43 0 true [(.t 53),(.t 54)]),(some (52,false)),[]⟩,⟨(some 56),(.un .not (.t 55)),(some (52,false)),[]⟩,oI 57 (.pick (.t 52) (.c (.bool true)) (.t 56))] none [57,6]) (.cond (.t 57) (.seq (.region [oI 4 (.mov (.c (.lst true []))),oI 5 (.mov (.c (.int .i64 129)))] none [5,4]) .ret) .skip)) (.seq (.region [oI 58 (.mov (.t 6)),oI 4 (.mov (.t 58)),oI 5 (.mov (.c (.int .i64 0)))] none [5,4]) .ret))))))
def Zop:Ze:=ZfB
def Zhp:=xw Zop ZfB rfl
def ZeJ:Ze:=(.seq (.region [oI 17 (.bin .lss (.t 16) (.t 15))] none [17,16,15,14,6,1,0]) (.seq (.cond (.t 17) .skip (.exit 0)) (.seq (.block 1 (.seq (.region [oI 18 (.iaddr 5 (.t 14) (.t 16)),oI 19 (.ld (some 5) (.t 18)),oI 8 (.alloc [(.int .i64 0),(.int .i64 0),(.str []),(.str []),(.lst true [])]),oN (.st 5 (.t 8) (.t 19))] none [16,15,14,8,6,1,0]) (.region [oI 20 (.mov (.t 6)),oI 21 (.ld (some 5) (.t 8)),oI 22 (.call 89 0 true [(.t 21)]),oI 23 (.app 1 1 (.int .u8 0) (.t 20) (.t 22)),oI 6 (.mov (.t 23))] none [16,15,14,6,1,0]))) (.region [oI 24 (.bin .add (.t 16) (.c (.int .i64 1))),oI 16 (.mov (.t 24))] none [16,15,14,6,1,0]))))
def ZmA:Ze:=ZeJ
def Zf2:=xw ZmA ZeJ rfl
def Zlk:Ze:=(.seq (.region [oI 4 (.mov (.c (.lst true []))),oI 5 (.mov (.c (.int .i64 0)))] none [1,0]) (.seq (.region [oI 6 (.mov (.c (.lst true [])))] none [6,1,0]) (.seq (.seq (.region [oI 14 (.mov (.t 1)),oI 15 (.len (.t 14)),oI 16 (.mov (.c (.int .i64 0)))] none [16,15,14,6,1,0]) (.block 0 (.loop [16,15,14,6,1,0] ZmA))) Zop)))
def ZjP:ZE:=⟨[(.tmp 4),(.tmp 5)],Zlk⟩
theorem Zsh:FC 42=some ZjP:=by kernel_rfl
theorem ZrW:ZjP.body=Zlk:=rfl
theorem Zhz:ZjP.res=[(.tmp 4),(.tmp 5)]:=rfl
noncomputable def ZiX (m:Nat) (tm:Tms) (σ:Za):Option (AVal×Za):=(Zap m ZjP (ZbM FC PR BY m Zop (Option.map (ZaW 0) (evL FC PR BY m [16,15,14,6,1,0] ZmA tm σ))))
def Zja:Ze:=(.seq (.region [oI 4 (.mov (.c (.bool false)))] none [1,0]) (.seq (.region [oI 5 (.mov (.t 1)),oI 6 (.bin .geq (.t 5) (.c (.int .i64 1))),oI 7 (.mov (.t 6)),⟨(some 8),(.mov (.t 1)),(some (7,true)),[]⟩,⟨(some 9),(.bin .leq (.t 8) (.c (.int .i64 16))),(some (7,true)),[]⟩,oI 10 (.pick (.t 7) (.t 9) (.c (.bool false))),oI 11 (.mov (.t 10)),⟨(some 12),(.mov (.t 0)),(some (11,true)),[]⟩,⟨(some 13),(.call 152 0 true [(.t 12)]),(some (11,true)),[]⟩,⟨(some 14),(.field none 1 (.t 13)),(some (11,true)),[]⟩,⟨(some 15),(.mov (.t 1)),(some (11,true)),[]⟩,⟨(some 16),(.bin .shr (.t 14) (.t 15)),(some (11,true)),[]⟩,⟨(some 17),(.bin .and (.t 16) (.c (.int .i64 1))),(some (11,true)),[]⟩,⟨(some 18),(.bin .eql (.t 17) (.c (.int .i64 1))),(some (11,true)),[]⟩,oI 19 (.pick (.t 11) (.t 18) (.c (.bool false))),oI 4 (.mov (.t 19))] none [4]) .ret))
def Zmz:ZE:=⟨[(.tmp 4)],Zja⟩
theorem ZMC:FC 153=some Zmz:=by kernel_rfl
theorem Zqg:Zmz.body=Zja:=rfl
theorem ZpO:Zmz.res=[(.tmp 4)]:=rfl
def ZjZ:Ze:=(.seq (.region [oI 57 (.mov (.t 4)),oI 58 (.mov (.t 8)),oI 59 (.mov (.t 7)),oI 60 (.bin .add (.t 58) (.t 59)),oI 4 (.mov (.t 57)),oI 5 (.mov (.t 60)),oI 6 (.mov (.c (.int .i64 0)))] none [6,5,4]) .ret)
def Znc:Ze:=ZjZ
def ZuD:=xw Znc ZjZ rfl
def ZfG:Ze:=(.seq (.seq (.region [oI 36 (.mov (.t 10)),oI 37 (.len (.t 36)),oI 38 (.bin .gtr (.t 37) (.c (.int .i64 0)))] none [38,10,8,7,4,0]) (.cond (.t 38) .skip (.exit 0))) (.block 1 (.seq (.region [oI 40 (.mov (.t 0)),oI 41 (.mov (.t 10)),oI 42 (.mov (.t 4)),oI 43 (.call 136 0 true [(.t 40),(.t 41),(.t 42)]),oI 39 (.mov (.t 43)),oI 44 (.ext (.t 39) 0),oI 45 (.ext (.t 39) 1),oI 46 (.ext (.t 39) 2),oI 11 (.alloc [(.int .i64 0),(.int .i64 0),(.str []),(.str []),(.lst true [])]),oN (.st 5 (.t 11) (.t 44)),oI 12 (.mov (.t 45)),oI 13 (.mov (.t 46))] none [13,12,11,10,8,7,4,0]) (.seq (.seq (.region [oI 47 (.mov (.t 13)),oI 48 (.bin .neq (.t 47) (.c (.int .i64 0)))] none [48,13,12,11,10,8,7,4,0]) (.cond (.t 48) (.seq (.region [oI 49 (.mov (.t 13)),oI 4 (.mov (.c (.lst true []))),oI 5 (.mov (.c (.int .i64 0))),oI 6 (.mov (.t 49))] none [6,5,4]) .ret) .skip)) (.seq (.region [oI 50 (.mov (.t 4)),oI 51 (.ld (some 5) (.t 11)),oI 52 (.bslice false 5 1 (.agg [(.int .i64 0),(.int .i64 0),(.str []),(.str []),(.lst true [])]) [(0,(.t 51))]),oI 53 (.app 5 72 (.agg [(.int .i64 0),(.int .i64 0),(.str []),(.str []),(.lst true [])]) (.t 50) (.t 52)),oI 4 (.mov (.t 53))] none [12,10,8,7,4,0]) (.region [oI 54 (.mov (.t 10)),oI 55 (.mov (.t 12)),oI 56 (.slice 1 (.t 54) (some (.t 55)) none none),oI 10 (.mov (.t 56))] none [10,8,7,4,0]))))))
def ZpP:Ze:=ZfG
def Zh6:=xw ZpP ZfG rfl
def Zi6:Ze:=(.seq (.region [oI 4 (.mov (.c (.lst true []))),oI 5 (.mov (.c (.int .i64 0))),oI 6 (.mov (.c (.int .i64 0)))] none [4,1,0]) (.seq (.region [oI 15 (.mov (.t 1)),oI 16 (.call 135 0 true [(.t 15)]),oI 14 (.mov (.t 16)),oI 17 (.ext (.t 14) 0),oI 18 (.ext (.t 14) 1),oI 19 (.ext (.t 14) 2),oI 7 (.mov (.t 17)),oI 8 (.mov (.t 18)),oI 9 (.mov (.t 19))] none [9,8,7,4,1,0]) (.seq (.seq (.region [oI 20 (.mov (.t 9)),oI 21 (.bin .neq (.t 20) (.c (.int .i64 0))),oI 22 (.mov (.t 21)),⟨(some 23),(.mov (.t 7)),(some (22,false)),[]⟩,⟨(some 24),(.mov (.t 1)),(some (22,false)),[]⟩,⟨(some 25),(.len (.t 24)),(some (22,false)),[]⟩,⟨(some 26),(.mov (.t 8)),(some (22,false)),[]⟩,⟨(some 27),(.bin .sub (.t 25) (.t 26)),(some (22,false)),[]⟩,⟨(some 28),(.bin .gtr (.t 23) (.t 27)),(some (22,false)),[]⟩,oI 29 (.pick (.t 22) (.c (.bool true)) (.t 28))] none [29,8,7,4,1,0]) (.cond (.t 29) (.seq (.region [oI 4 (.mov (.c (.lst true []))),oI 5 (.mov (.c (.int .i64 0))),oI 6 (.mov (.c (.int .i64 129)))] none [6,5,4]) .ret) .skip)) (.seq (.seq (.region [oI 30 (.mov (.t 1)),oI 31 (.mov (.t 8)),oI 32 (.mov (.t 8)),oI 33 (.mov (.t 7)),oI 34 (.bin .add (.t 32) (.t 33)),oI 35 (.slice 1 (.t 30) (some (.t 31)) (some (.t 34)) none),oI 10 (.mov (.t 35))] none [10,8,7,4,0]) (.block 0 (.loop [10,8,7,4,0] ZpP))) Znc))))
def Zkf:ZE:=⟨[(.tmp 4),(.tmp 5),(.tmp 6)],Zi6⟩
theorem Zqa:FC 90=some Zkf:=by kernel_rfl
theorem Zpj:Zkf.body=Zi6:=rfl
theorem Zid:Zkf.res=[(.tmp 4),(.tmp 5),(.tmp 6)]:=rfl
noncomputable def ZhC (m:Nat) (tm:Tms) (σ:Za):Option (AVal×Za):=(Zap m Zkf (ZbM FC PR BY m Znc (Option.map (ZaW 0) (evL FC PR BY m [10,8,7,4,0] ZpP tm σ))))
def ZnR:Ze:=(.seq (.region [oI 4 (.mov (.c (.bool false)))] none [1,0]) (.seq (.region [oI 5 (.mov (.t 0)),oI 6 (.mov (.t 1)),oI 7 (.call 91 0 true [(.t 5),(.t 6),(.c (.fn 92 []))]),oI 4 (.mov (.t 7))] none [4]) .ret))
def Zps:ZE:=⟨[(.tmp 4)],ZnR⟩
theorem ZH3:FC 43=some Zps:=by kernel_rfl
theorem ZOD:Zps.body=ZnR:=rfl
theorem ZM4:Zps.res=[(.tmp 4)]:=rfl
def ZoV:Ze:=(.seq (.region [oI 2 (.box (.t 0)),oI 3 (.box (.t 1)),oI 4 (.mov (.c (.bool false)))] none [3,2]) (.seq (.region [oI 5 (.faddr 0 (.t 2)),oI 6 (.ld none (.t 5)),oI 7 (.faddr 0 (.t 3)),oI 8 (.ld none (.t 7)),oI 9 (.bin .eql (.t 6) (.t 8)),oI 10 (.mov (.t 9)),⟨(some 11),(.faddr 1 (.t 2)),(some (10,true)),[]⟩,⟨(some 12),(.ld none (.t 11)),(some (10,true)),[]⟩,⟨(some 13),(.faddr 1 (.t 3)),(some (10,true)),[]⟩,⟨(some 14),(.ld none (.t 13)),(some (10,true)),[]⟩,⟨(some 15),(.bin .eql (.t 12) (.t 14)),(some (10,true)),[]⟩,oI 16 (.pick (.t 10) (.t 15) (.c (.bool false))),oI 17 (.mov (.t 16)),⟨(some 18),(.faddr 2 (.t 2)),(some (17,true)),[]⟩,⟨(some 19),(.ld none (.t 18)),(some (17,true)),[]⟩,⟨(some 20),(.faddr 2 (.t 3)),(some (17,true)),[]⟩,⟨(some 21),(.ld none (.t 20)),(some (17,true)),[]⟩,⟨(some 22),(.bin .eql (.t 19) (.t 21)),(some (17,true)),[]⟩,oI 23 (.pick (.t 17) (.t 22) (.c (.bool false))),oI 24 (.mov (.t 23)),⟨(some 25),(.faddr 3 (.t 2)),(some (24,true)),[]⟩,⟨(some 26),(.ld none (.t 25)),(some (24,true)),[]⟩,⟨(some 27),(.faddr 3 (.t 3)),(some (24,true)),[]⟩,⟨(some 28),(.ld none (.t 27)),(some (24,true)),[]⟩,⟨(some 29),(.bin .eql (.t 26) (.t 28)),(some (24,true)),[]⟩,oI 30 (.pick (.t 24) (.t 29) (.c (.bool false))),oI 31 (.mov (.t 30)),⟨(some 32),(.faddr 4 (.t 2)),(some (31,true)),[]⟩,⟨(some 33),(.ld none (.t 32)),(some (31,true)),[]⟩,⟨(some 34),(.b2s (.t 33)),(some (31,true)),[]⟩,⟨(some 35),(.faddr 4 (.t 3)),(some (31,true)),[]⟩,⟨(some 36),(.ld none (.t 35)),(some (31,true)),[]⟩,⟨(some 37),(.b2s (.t 36)),(some (31,true)),[]⟩,⟨(some 38),(.bin .eql (.t 34) (.t 37)),(some (31,true)),[]⟩,oI 39 (.pick (.t 31) (.t 38) (.c (.bool false))),oI 4 (.mov (.t 39))] none [4]) .ret))
def Zqe:ZE:=⟨[(.tmp 4)],ZoV⟩
theorem ZMJ:FC 92=some Zqe:=by kernel_rfl
theorem ZG3:Zqe.body=ZoV:=rfl
theorem ZKj:Zqe.res=[(.tmp 4)]:=rfl
def Zn4:Ze:=(.seq (.region [oI 1 (.box (.t 0)),oI 2 (.alloc [(.int .i64 0),(.int .i64 0),(.str []),(.str []),(.lst true [])])] none [2,1]) (.seq (.region [oI 3 (.faddr 4 (.t 1)),oI 4 (.ld none (.t 3)),oI 5 (.call 111 0 true [(.t 4)]),oI 6 (.faddr 4 (.t 1)),oN (.st 1 (.t 6) (.t 5))] none [2,1]) (.seq (.region [oI 7 (.ld (some 5) (.t 1)),oN (.st 5 (.t 2) (.t 7))] none [2]) .ret)))
def ZoG:ZE:=⟨[(.cell 2 (some 5))],Zn4⟩
theorem Zyp:FC 147=some ZoG:=by kernel_rfl
theorem ZKS:ZoG.body=Zn4:=rfl
theorem Zzo:ZoG.res=[(.cell 2 (some 5))]:=rfl
def ZoX:Ze:=(.seq (.region [oI 1 (.box (.t 0)),oI 2 (.mov (.c (.bool false)))] none [1]) (.seq (.seq (.region [oI 3 (.faddr 0 (.t 1)),oI 4 (.ld none (.t 3))] none [4,1]) (.block 0 (.seq (.seq (.region [oI 6 (.bin .eql (.t 4) (.c (.int .i64 11))),oI 5 (.mov (.t 6))] none [5,4,1]) (.cond (.t 5) .skip (.seq (.region [oI 7 (.bin .eql (.t 4) (.c (.int .i64 33))),oI 5 (.mov (.t 7))] none [5,4,1]) (.cond (.t 5) .skip (.seq (.region [oI 8 (.bin .eql (.t 4) (.c (.int .i64 35))),oI 5 (.mov (.t 8))] none [5,4,1]) (.cond (.t 5) .skip (.region [oI 9 (.bin .eql (.t 4) (.c (.int .i64 39))),oI 5 (.mov (.t 9))] none [5,1]))))))) (.cond (.t 5) (.seq (.region [oI 10 (.faddr 1 (.t 1)),oI 11 (.ld none (.t 10)),oI 12 (.bin .neq (.t 11) (.c (.int .i64 0))),oI 2 (.mov (.t 12))] none [2]) .ret) .skip)))) (.seq (.region [oI 13 (.faddr 0 (.t 1)),oI 14 (.ld none (.t 13)),oI 15 (.call 134 0 true [(.t 14)]),oI 16 (.bin .neq (.t 15) (.c (.int .i64 1))),oI 17 (.mov (.t 16)),⟨(some 18),(.faddr 1 (.t 1)),(some (17,false)),[]⟩,⟨(some 19),(.ld none (.t 18)),(some (17,false)),[]⟩,⟨(some 20),(.bin .leq (.t 19) (.c (.int .i64 1))),(some (17,false)),[]⟩,oI 21 (.pick (.t 17) (.c (.bool true)) (.t 20)),oI 2 (.mov (.t 21))] none [2]) .ret)))
def ZoY:ZE:=⟨[(.tmp 2)],ZoX⟩
theorem ZGY:FC 156=some ZoY:=by kernel_rfl
theorem ZI2:ZoY.body=ZoX:=rfl
theorem ZLn:ZoY.res=[(.tmp 2)]:=rfl
def Zev:Ze:=(.seq (.region [oI 1 (.box (.t 0)),oI 2 (.mov (.c (.lst true [])))] none [1]) (.seq (.region [oI 8 (.faddr 0 (.t 1)),oI 9 (.ld none (.t 8)),oI 10 (.call 82 0 true [(.t 9)]),oI 7 (.mov (.t 10)),oI 11 (.ext (.t 7) 0),oI 12 (.ext (.t 7) 1),oI 3 (.mov (.t 11)),oI 4 (.mov (.t 12))] none [3,1]) (.seq (.region [oI 5 (.mov (.c (.lst true []))),oI 6 (.mov (.c (.lst true [])))] none [6,5,3,1]) (.seq (.seq (.region [oI 13 (.faddr 0 (.t 1)),oI 14 (.ld none (.t 13)),oI 15 (.call 134 0 true [(.t 14)])] none [15,6,5,3,1]) (.block 0 (.seq (.seq (.region [oI 17 (.bin .eql (.t 15) (.c (.int .i64 1))),oI 16 (.mov (.t 17))] none [16,15,6,5,3,1]) (.cond (.t 16) .skip (.seq (.region [oI 18 (.bin .eql (.t 15) (.c (.int .i64 2))),oI 16 (.mov (.t 18))] none [16,15,6,5,3,1]) (.cond (.t 16) .skip (.region [oI 19 (.bin .eql (.t 15) (.c (.int .i64 3))),oI 16 (.mov (.t 19))] none [16,15,6,5,3,1]))))) (.cond (.t 16) (.region [oI 20 (.faddr 1 (.t 1)),oI 21 (.ld none (.t 20)),oI 22 (.i2i .u64 (.t 21)),oI 23 (.faddr 0 (.t 1)),oI 24 (.ld none (.t 23)),oI 25 (.call 134 0 true [(.t 24)]),oI 26 (.bin .sub (.t 25) (.c (.int .i64 1))),oI 27 (.bin .shl (.c (.int .i64 1)) (.t 26)),oI 28 (.call 59 0 true [(.t 22),(.t 27)]),oI 5 (.mov (.t 28))] (some [(1,4),(1,5),(5,5),(8,8)]) [6,5,3]) (.seq (.region [oI 30 (.bin .eql (.t 15) (.c (.int .i64 4))),oI 29 (.mov (.t 30))] none [29,15,6,5,3,1]) (.cond (.t 29) (.region [oI 32 (.faddr 1 (.t 1)),oI 33 (.ld none (.t 32)),oI 34 (.call 82 0 true [(.t 33)]),oI 31 (.mov (.t 34)),oI 35 (.ext (.t 31) 0),oI 36 (.ext (.t 31) 1),oI 5 (.mov (.t 35))] none [6,5,3]) (.seq (.region [oI 38 (.bin .eql (.t 15) (.c (.int .i64 5))),oI 37 (.mov (.t 38))] none [37,15,6,5,3,1]) (.cond (.t 37) (.region [oI 40 (.faddr 2 (.t 1)),oI 41 (.ld none (.t 40)),oI 42 (.call 54 0 true [(.t 41)]),oI 39 (.mov (.t 42)),oI 43 (.ext (.t 39) 0),oI 44 (.ext (.t 39) 1),oI 5 (.mov (.t 43))] none [6,5,3]) (.seq (.region [oI 46 (.bin .eql (.t 15) (.c (.int .i64 6))),oI 45 (.mov (.t 46))] none [45,15,6,5,3,1]) (.cond (.t 45) (.region [oI 48 (.faddr 4 (.t 1)),oI 49 (.ld none (.t 48)),oI 50 (.call 55 0 true [(.t 49)]),oI 47 (.mov (.t 50)),oI 51 (.ext (.t 47) 0),oI 52 (.ext (.t 47) 1),oI 5 (.mov (.t 51))] none [6,5,3]) (.seq (.region [oI 54 (.bin .eql (.t 15) (.c (.int .i64 7))),oI 53 (.mov (.t 54))] none [53,6,5,3,1]) (.cond (.t 53) (.seq (.region [oI 56 (.faddr 2 (.t 1)),oI 57 (.ld none (.t 56)),oI 58 (.call 54 0 true [(.t 57)]),oI 55 (.mov (.t 58)),oI 59 (.ext (.t 55) 0),oI 60 (.ext (.t 55) 1),oI 5 (.mov (.t 59))] none [5,3,1]) (.region [oI 62 (.faddr 3 (.t 1)),oI 63 (.ld none (.t 62)),oI 64 (.call 54 0 true [(.t 63)]),oI 61 (.mov (.t 64)),oI 65 (.ext (.t 61) 0),oI 66 (.ext (.t 61) 1),oI 6 (.mov (.t 65))] none [6,5,3])) .skip)))))))))))) (.seq (.region [oI 67 (.mov (.t 3)),oI 68 (.mov (.t 5)),oI 69 (.mov (.t 6)),oI 70 (.bslice false 1 3 (.lst true []) [(0,(.t 67)),(1,(.t 68)),(2,(.t 69))]),oI 71 (.call 56 0 true [(.t 70)]),oI 2 (.mov (.t 71))] none [2]) .ret)))))
def Znq:ZE:=⟨[(.tmp 2)],Zev⟩
theorem Zgj:FC 89=some Znq:=by kernel_rfl
theorem ZfQ:Znq.body=Zev:=rfl
theorem ZfE:Znq.res=[(.tmp 2)]:=rfl
def ZoQ:Ze:=(.seq (.region [oI 2 (.alloc [(.int .i64 0),(.int .i64 0)])] none [2,0]) (.seq (.seq (.region [oI 3 (.mov (.t 0))] none [3,2]) (.block 0 (.seq (.region [oI 5 (.bin .eql (.t 3) (.c (.int .i64 1))),oI 4 (.mov (.t 5))] none [4,3,2]) (.cond (.t 4) (.seq (.region [oI 6 (.bslice false 1 2 (.int .i64 0) [(0,(.c (.int .i64 3))),(1,(.c (.int .i64 16)))]),oI 7 (.call 162 0 true [(.t 6)]),oI 8 (.build [(.int .i64 0),(.int .i64 0)] [(0,1,(.c (.int .i64 1))),(1,1,(.t 7))]),oN (.st 2 (.t 2) (.t 8))] none [2]) .ret) (.seq (.region [oI 10 (.bin .eql (.t 3) (.c (.int .i64 2))),oI 9 (.mov (.t 10))] none [9,3,2]) (.cond (.t 9) (.seq (.region [oI 11 (.bslice false 1 2 (.int .i64 0) [(0,(.c (.int .i64 3))),(1,(.c (.int .i64 16)))]),oI 12 (.call 162 0 true [(.t 11)]),oI 13 (.build [(.int .i64 0),(.int .i64 0)] [(0,1,(.c (.int .i64 3))),(1,1,(.t 12))]),oN (.st 2 (.t 2) (.t 13))] none [2]) .ret) (.seq (.seq (.region [oI 15 (.bin .eql (.t 3) (.c (.int .i64 3))),oI 14 (.mov (.t 15))] none [14,3,2]) (.cond (.t 14) .skip (.region [oI 16 (.bin .eql (.t 3) (.c (.int .i64 8))),oI 14 (.mov (.t 16))] none [14,3,2]))) (.cond (.t 14) (.seq (.region [oI 17 (.bslice false 1 2 (.int .i64 0) [(0,(.c (.int .i64 3))),(1,(.c (.int .i64 16)))]),oI 18 (.call 162 0 true [(.t 17)]),oI 19 (.build [(.int .i64 0),(.int .i64 0)] [(0,1,(.c (.int .i64 5))),(1,1,(.t 18))]),oN (.st 2 (.t 2) (.t 19))] none [2]) .ret) (.seq (.region [oI 21 (.bin .eql (.t 3) (.c (.int .i64 9))),oI 20 (.mov (.t 21))] none [20,3,2]) (.cond (.t 20) (.seq (.region [oI 22 (.bslice false 1 2 (.int .i64 0) [(0,(.c (.int .i64 3))),(1,(.c (.int .i64 16)))]),oI 23 (.call 162 0 true [(.t 22)]),oI 24 (.build [(.int .i64 0),(.int .i64 0)] [(0,1,(.c (.int .i64 6))),(1,1,(.t 23))]),oN (.st 2 (.t 2) (.t 24))] none [2]) .ret) (.seq (.region [oI 26 (.bin .eql (.t 3) (.c (.int .i64 11))),oI 25 (.mov (.t 26))] none [25,3,2]) (.cond (.t 25) (.seq (.region [oI 27 (.bslice false 1 2 (.int .i64 0) [(0,(.c (.int .i64 3))),(1,(.c (.int .i64 8)))]),oI 28 (.call 162 0 true [(.t 27)]),oI 29 (.build [(.int .i64 0),(.int .i64 0)] [(0,1,(.c (.int .i64 4))),(1,1,(.t 28))]),oN (.st 2 (.t 2) (.t 29))] none [2]) .ret) (.seq (.region [oI 31 (.bin .eql (.t 3) (.c (.int .i64 17))),oI 30 (.mov (.t 31))] none [30,3,2]) (.cond (.t 30) (.seq (.region [oI 32 (.bslice false 1 3 (.int .i64 0) [(0,(.c (.int .i64 1))),(1,(.c (.int .i64 2))),(2,(.c (.int .i64 14)))]),oI 33 (.call 162 0 true [(.t 32)]),oI 34 (.build [(.int .i64 0),(.int .i64 0)] [(0,1,(.c (.int .i64 3))),(1,1,(.t 33))]),oN (.st 2 (.t 2) (.t 34))] none [2]) .ret) (.seq (.seq (.region [oI 36 (.bin .eql (.t 3) (.c (.int .i64 18))),oI 35 (.mov (.t 36))] none [35,3,2]) (.cond (.t 35) .skip (.region [oI 37 (.bin .eql (.t 3) (.c (.int .i64 26))),oI 35 (.mov (.t 37))] none [35,3,2]))) (.cond (.t 35) (.seq (.region [oI 38 (.bslice false 1 1 (.int .i64 0) [(0,(.c (.int .i64 2)))]),oI 39 (.call 162 0 true [(.t 38)]),oI 40 (.build [(.int .i64 0),(.int .i64 0)] [(0,1,(.c (.int .i64 5))),(1,1,(.t 39))]),oN (.st 2 (.t 2) (.t 40))] none [2]) .ret) (.seq (.region [oI 42 (.bin .eql (.t 3) (.c (.int .i64 19))),oI 41 (.mov (.t 42))] none [41,3,2]) (.cond (.t 41) (.seq (.region [oI 43 (.bslice false 1 1 (.int .i64 0) [(0,(.c (.int .i64 2)))]),oI 44 (.call 162 0 true [(.t 43)]),oI 45 (.build [(.int .i64 0),(.int .i64 0)] [(0,1,(.c (.int .i64 2))),(1,1,(.t 44))]),oN (.st 2 (.t 2) (.t 45))] none [2]) .ret) (.seq (.region [oI 47 (.bin .eql (.t 3) (.c (.int .i64 21))),oI 46 (.mov (.t 47))] none [46,3,2]) (.cond (.t 46) (.seq (.region [oI 48 (.bslice false 1 3 (.int .i64 0) [(0,(.c (.int .i64 1))),(1,(.c (.int .i64 2))),(2,(.c (.int .i64 15)))]),oI 49 (.call 162 0 true [(.t 48)]),oI 50 (.build [(.int .i64 0),(.int .i64 0)] [(0,1,(.c (.int .i64 5))),(1,1,(.t 49))]),oN (.st 2 (.t 2) (.t 50))] none [2]) .ret) (.seq (.region [oI 52 (.bin .eql (.t 3) (.c (.int .i64 22))),oI 51 (.mov (.t 52))] none [51,3,2]) (.cond (.t 51) (.seq (.region [oI 53 (.bslice false 1 3 (.int .i64 0) [(0,(.c (.int .i64 1))),(1,(.c (.int .i64 2))),(2,(.c (.int .i64 15)))]),oI 54 (.call 162 0 true [(.t 53)]),oI 55 (.build [(.int .i64 0),(.int .i64 0)] [(0,1,(.c (.int .i64 6))),(1,1,(.t 54))]),oN (.st 2 (.t 2) (.t 55))] none [2]) .ret) (.seq (.seq (.region [oI 57 (.bin .eql (.t 3) (.c (.int .i64 23))),oI 56 (.mov (.t 57))] none [56,3,2]) (.cond (.t 56) .skip (.region [oI 58 (.bin .eql (.t 3) (.c (.int .i64 25))),oI 56 (.mov (.t 58))] none [56,3,2]))) (.cond (.t 56) (.seq (.region [oI 59 (.bslice false 1 1 (.int .i64 0) [(0,(.c (.int .i64 1)))]),oI 60 (.call 162 0 true [(.t 59)]),oI 61 (.build [(.int .i64 0),(.int .i64 0)] [(0,1,(.c (.int .i64 1))),(1,1,(.t 60))]),oN (.st 2 (.t 2) (.t 61))] none [2]) .ret) (.seq (.region [oI 63 (.bin .eql (.t 3) (.c (.int .i64 24))),oI 62 (.mov (.t 63))] none [62,3,2]) (.cond (.t 62) (.seq (.region [oI 64 (.bslice false 1 1 (.int .i64 0) [(0,(.c (.int .i64 16)))]),oI 65 (.call 162 0 true [(.t 64)]),oI 66 (.build [(.int .i64 0),(.int .i64 0)] [(0,1,(.c (.int .i64 3))),(1,1,(.t 65))]),oN (.st 2 (.t 2) (.t 66))] none [2]) .ret) (.seq (.region [oI 68 (.bin .eql (.t 3) (.c (.int .i64 28))),oI 67 (.mov (.t 68))] none [67,3,2]) (.cond (.t 67) (.seq (.region [oI 69 (.bslice false 1 2 (.int .i64 0) [(0,(.c (.int .i64 2))),(1,(.c (.int .i64 14)))]),oI 70 (.call 162 0 true [(.t 69)]),oI 71 (.build [(.int .i64 0),(.int .i64 0)] [(0,1,(.c (.int .i64 5))),(1,1,(.t 70))]),oN (.st 2 (.t 2) (.t 71))] none [2]) .ret) (.seq (.region [oI 73 (.bin .eql (.t 3) (.c (.int .i64 31))),oI 72 (.mov (.t 73))] none [72,3,2]) (.cond (.t 72) (.seq (.region [oI 74 (.bslice false 1 9 (.int .i64 0) [(0,(.c (.int .i64 2))),(1,(.c (.int .i64 4))),(2,(.c (.int .i64 5))),(3,(.c (.int .i64 6))),(4,(.c (.int .i64 7))),(5,(.c (.int .i64 9))),(6,(.c (.int .i64 11))),(7,(.c (.int .i64 14))),(8,(.c (.int .i64 15)))]),oI 75 (.call 162 0 true [(.t 74)]),oI 76 (.build [(.int .i64 0),(.int .i64 0)] [(0,1,(.c (.int .i64 5))),(1,1,(.t 75))]),oN (.st 2 (.t 2) (.t 76))] none [2]) .ret) (.seq (.seq (.region [oI 78 (.bin .eql (.t 3) (.c (.int .i64 33))),oI 77 (.mov (.t 78))] none [77,3,2]) (.cond (.t 77) .skip (.region [oI 79 (.bin .eql (.t 3) (.c (.int .i64 34))),oI 77 (.mov (.t 79))] none [77,3,2]))) (.cond (.t 77) (.seq (.region [oI 80 (.bslice false 1 2 (.int .i64 0) [(0,(.c (.int .i64 1))),(1,(.c (.int .i64 2)))]),oI 81 (.call 162 0 true [(.t 80)]),oI 82 (.build [(.int .i64 0),(.int .i64 0)] [(0,1,(.c (.int .i64 2))),(1,1,(.t 81))]),oN (.st 2 (.t 2) (.t 82))] none [2]) .ret) (.seq (.region [oI 84 (.bin .eql (.t 3) (.c (.int .i64 35))),oI 83 (.mov (.t 84))] none [83,3,2]) (.cond (.t 83) (.seq (.region [oI 85 (.bslice false 1 1 (.int .i64 0) [(0,(.c (.int .i64 3)))]),oI 86 (.call 162 0 true [(.t 85)]),oI 87 (.build [(.int .i64 0),(.int .i64 0)] [(0,1,(.c (.int .i64 2))),(1,1,(.t 86))]),oN (.st 2 (.t 2) (.t 87))] none [2]) .ret) (.seq (.region [oI 89 (.bin .eql (.t 3) (.c (.int .i64 39))),oI 88 (.mov (.t 89))] none [88,3,2]) (.cond (.t 88) (.seq (.region [oI 90 (.bslice false 1 2 (.int .i64 0) [(0,(.c (.int .i64 1))),(1,(.c (.int .i64 2)))]),oI 91 (.call 162 0 true [(.t 90)]),oI 92 (.build [(.int .i64 0),(.int .i64 0)] [(0,1,(.c (.int .i64 3))),(1,1,(.t 91))]),oN (.st 2 (.t 2) (.t 92))] none [2]) .ret) (.seq (.seq (.region [oI 94 (.bin .eql (.t 3) (.c (.int .i64 36))),oI 93 (.mov (.t 94))] none [93,3,2]) (.cond (.t 93) .skip (.seq (.region [oI 95 (.bin .eql (.t 3) (.c (.int .i64 37))),oI 93 (.mov (.t 95))] none [93,3,2]) (.cond (.t 93) .skip (.seq (.region [oI 96 (.bin .eql (.t 3) (.c (.int .i64 40))),oI 93 (.mov (.t 96))] none [93,3,2]) (.cond (.t 93) .skip (.seq (.region [oI 97 (.bin .eql (.t 3) (.c (.int .i64 41))),oI 93 (.mov (.t 97))] none [93,3,2]) (.cond (.t 93) .skip (.region [oI 98 (.bin .eql (.t 3) (.c (.int .i64 42))),oI 93 (.mov (.t 98))] none [93,3,2]))))))))) (.cond (.t 93) (.seq (.region [oI 99 (.bslice false 1 1 (.int .i64 0) [(0,(.c (.int .i64 2)))]),oI 100 (.call 162 0 true [(.t 99)]),oI 101 (.build [(.int .i64 0),(.int .i64 0)] [(0,1,(.c (.int .i64 1))),(1,1,(.t 100))]),oN (.st 2 (.t 2) (.t 101))] none [2]) .ret) (.seq (.region [oI 103 (.bin .eql (.t 3) (.c (.int .i64 38))),oI 102 (.mov (.t 103))] none [102,2]) (.cond (.t 102) (.seq (.region [oI 104 (.bslice false 1 3 (.int .i64 0) [(0,(.c (.int .i64 0))),(1,(.c (.int .i64 12))),(2,(.c (.int .i64 13)))]),oI 105 (.call 162 0 true [(.t 104)]),oI 106 (.un .xor (.t 105)),oI 107 (.build [(.int .i64 0),(.int .i64 0)] [(0,1,(.c (.int .i64 7))),(1,1,(.t 106))]),oN (.st 2 (.t 2) (.t 107))] none [2]) .ret) .skip)))))))))))))))))))))))))))))))))))))))) (.seq (.region [oI 108 (.build [(.int .i64 0),(.int .i64 0)] []),oN (.st 2 (.t 2) (.t 108))] none [2]) .ret)))
def Zp8:ZE:=⟨[(.cell 2 (some 2))],ZoQ⟩
theorem ZwY:FC 152=some Zp8:=by kernel_rfl
theorem ZKV:Zp8.body=ZoQ:=rfl
theorem ZAe:Zp8.res=[(.cell 2 (some 2))]:=rfl
def ZpA:Ze:=(.seq (.region [oI 4 (.mov (.c (.bool false)))] none [1,0]) (.seq (.region [oI 5 (.mov (.t 0)),oI 6 (.bin .eql (.t 5) (.c (.int .i64 38))),oI 7 (.mov (.t 6)),⟨(some 8),(.mov (.t 0)),(some (7,false)),[]⟩,⟨(some 9),(.bin .eql (.t 8) (.c (.int .i64 11))),(some (7,false)),[]⟩,⟨(some 10),(.mov (.t 9)),(some (7,false)),[]⟩,⟨(some 11),(.mov (.t 1)),(some (10,true)),[]⟩,⟨(some 12),(.bin .eql (.t 11) (.c (.int .i64 3))),(some (10,true)),[]⟩,⟨(some 13),(.pick (.t 10) (.t 12) (.c (.bool false))),(some (7,false)),[]⟩,oI 14 (.pick (.t 7) (.c (.bool true)) (.t 13)),oI 4 (.mov (.t 14))] none [4]) .ret))
def Znp:ZE:=⟨[(.tmp 4)],ZpA⟩
theorem ZAq:FC 155=some Znp:=by kernel_rfl
theorem ZzR:Znp.body=ZpA:=rfl
theorem ZCR:Znp.res=[(.tmp 4)]:=rfl
def ZeT:Ze:=(.seq (.region [oI 6 (.alloc [(.int .i64 0),(.int .i64 0),(.str []),(.str []),(.lst true [])]),oI 7 (.mov (.c (.int .i64 0))),oI 8 (.mov (.c (.int .i64 0)))] none [6,2,1,0]) (.seq (.region [oI 16 (.mov (.t 1)),oI 17 (.call 135 0 true [(.t 16)]),oI 15 (.mov (.t 17)),oI 18 (.ext (.t 15) 0),oI 19 (.ext (.t 15) 1),oI 20 (.ext (.t 15) 2),oI 9 (.mov (.t 18)),oI 10 (.mov (.t 19)),oI 11 (.mov (.t 20))] none [11,10,9,6,2,1,0]) (.seq (.seq (.region [oI 21 (.mov (.t 11)),oI 22 (.bin .neq (.t 21) (.c (.int .i64 0))),oI 23 (.mov (.t 22)),⟨(some 24),(.mov (.t 9)),(some (23,false)),[]⟩,⟨(some 25),(.mov (.t 0)),(some (23,false)),[]⟩,⟨(some 26),(.call 153 0 true [(.t 24),(.t 25)]),(some (23,false)),[]⟩,⟨(some 27),(.un .not (.t 26)),(some (23,false)),[]⟩,oI 28 (.pick (.t 23) (.c (.bool true)) (.t 27))] none [28,10,9,6,2,1,0]) (.cond (.t 28) (.seq (.region [oI 29 (.ld (some 5) (.t 6)),oN (.st 5 (.t 6) (.t 29)),oI 7 (.mov (.c (.int .i64 0))),oI 8 (.mov (.c (.int .i64 129)))] none [8,7,6]) .ret) .skip)) (.seq (.region [oI 31 (.mov (.t 9)),oI 32 (.mov (.t 1)),oI 33 (.mov (.t 10)),oI 34 (.slice 1 (.t 32) (some (.t 33)) none none),oI 35 (.call 154 0 true [(.t 31),(.t 34)]),oI 30 (.mov (.t 35)),oI 36 (.ext (.t 30) 0),oI 37 (.ext (.t 30) 1),oI 38 (.ext (.t 30) 2),oN (.st 5 (.t 6) (.t 36)),oI 7 (.mov (.t 37)),oI 12 (.mov (.t 38))] none [12,10,9,7,6,2,0]) (.seq (.region [oI 40 (.mov (.t 9)),oI 41 (.mov (.t 2)),oI 42 (.call 112 0 true [(.t 40),(.t 41)]),oI 39 (.mov (.t 42)),oI 43 (.ext (.t 39) 0),oI 44 (.ext (.t 39) 1),oI 13 (.alloc [(.int .i64 0),(.int .i64 0),(.str []),(.str []),(.lst true [])]),oN (.st 5 (.t 13) (.t 43)),oI 14 (.mov (.t 44))] none [14,12,10,9,7,6,0]) (.seq (.block 0 (.seq (.region [oI 46 (.mov (.t 12)),oI 47 (.un .not (.t 46)),oI 45 (.mov (.t 47))] none [45,14,10,9,7,6,0]) (.cond (.t 45) (.seq (.region [oI 48 (.ld (some 5) (.t 6)),oN (.st 5 (.t 6) (.t 48)),oI 7 (.mov (.c (.int .i64 0))),oI 8 (.mov (.c (.int .i64 129)))] none [8,7,6]) .ret) (.seq (.region [oI 50 (.mov (.t 14)),oI 51 (.mov (.t 50)),⟨(some 52),(.mov (.t 9)),(some (51,true)),[]⟩,⟨(some 53),(.mov (.t 0)),(some (51,true)),[]⟩,⟨(some 54),(.call 155 0 true [(.t 52),(.t 53)]),(some (51,true)),[]⟩,⟨(some 55),(.un .not (.t 54)),(some (51,true)),[]⟩,oI 56 (.pick (.t 51) (.t 55) (.c (.bool false))),oI 49 (.mov (.t 56))] none [49,10,9,7,6]) (.cond (.t 49) (.seq (.region [oI 57 (.ld (some 5) (.t 6)),oN (.st 5 (.t 6) (.t 57)),oI 7 (.mov (.c (.int .i64 0))),oI 8 (.mov (.c (.int .i64 130)))] none [8,7,6]) .ret) (.seq (.region [oI 59 (.ld (some 5) (.t 6)),oI 60 (.call 156 0 true [(.t 59)]),oI 58 (.mov (.t 60))] none [58,10,9,7,6]) (.cond (.t 58) (.seq (.region [oI 61 (.ld (some 5) (.t 6)),oI 62 (.mov (.t 10)),oI 63 (.mov (.t 7)),oI 64 (.bin .add (.t 62) (.t 63)),oN (.st 5 (.t 6) (.t 61)),oI 7 (.mov (.t 64)),oI 8 (.mov (.c (.int .i64 0)))] none [8,7,6]) .ret) (.seq (.region [oI 66 (.mov (.t 9)),oI 67 (.bin .eql (.t 66) (.c (.int .i64 35))),oI 65 (.mov (.t 67))] none [65,6]) (.cond (.t 65) (.seq (.region [oI 68 (.ld (some 5) (.t 6)),oN (.st 5 (.t 6) (.t 68)),oI 7 (.mov (.c (.int .i64 0))),oI 8 (.mov (.c (.int .i64 148)))] none [8,7,6]) .ret) .skip))))))))) (.seq (.region [oI 69 (.ld (some 5) (.t 6)),oN (.st 5 (.t 6) (.t 69)),oI 7 (.mov (.c (.int .i64 0))),oI 8 (.mov (.c (.int .i64 130)))] none [8,7,6]) .ret)))))))
def Zqc:ZE:=⟨[(.cell 6 (some 5)),(.tmp 7),(.tmp 8)],ZeT⟩
theorem Zfz:FC 136=some Zqc:=by kernel_rfl
theorem Zgi:Zqc.body=ZeT:=rfl
theorem Zf1:Zqc.res=[(.cell 6 (some 5)),(.tmp 7),(.tmp 8)]:=rfl
def Zc4:Ze:=(.seq (.region [oI 4 (.alloc [(.int .i64 0),(.int .i64 0),(.str []),(.str []),(.lst true [])]),oI 5 (.mov (.c (.int .i64 0))),oI 6 (.mov (.c (.bool false)))] none [5,4,1,0]) (.seq (.region [oI 9 (.mov (.t 0)),oI 10 (.faddr 0 (.t 4)),oN (.st 1 (.t 10) (.t 9))] none [5,4,1,0]) (.seq (.region [oI 7 (.mov (.c (.int .i64 0)))] none [7,5,4,1,0]) (.seq (.seq (.region [oI 11 (.mov (.t 0)),oI 12 (.call 134 0 true [(.t 11)])] none [12,7,5,4,1,0]) (.block 0 (.seq (.seq (.region [oI 14 (.bin .eql (.t 12) (.c (.int .i64 1))),oI 13 (.mov (.t 14))] none [13,12,7,5,4,1,0]) (.cond (.t 13) .skip (.seq (.region [oI 15 (.bin .eql (.t 12) (.c (.int .i64 2))),oI 13 (.mov (.t 15))] none [13,12,7,5,4,1,0]) (.cond (.t 13) .skip (.region [oI 16 (.bin .eql (.t 12) (.c (.int .i64 3))),oI 13 (.mov (.t 16))] none [13,12,7,5,4,1,0]))))) (.cond (.t 13) (.seq (.region [oI 17 (.mov (.t 0)),oI 18 (.call 134 0 true [(.t 17)]),oI 19 (.bin .sub (.t 18) (.c (.int .i64 1))),oI 20 (.bin .shl (.c (.int .i64 1)) (.t 19)),oI 5 (.mov (.t 20))] none [7,5,4,1]) (.seq (.seq (.region [oI 21 (.mov (.t 1)),oI 22 (.len (.t 21)),oI 23 (.mov (.t 5)),oI 24 (.bin .lss (.t 22) (.t 23))] none [24,7,5,4,1]) (.cond (.t 24) (.seq (.region [oI 25 (.ld (some 5) (.t 4)),oN (.st 5 (.t 4) (.t 25)),oI 5 (.mov (.c (.int .i64 0))),oI 6 (.mov (.c (.bool false)))] none [6,5,4]) .ret) .skip)) (.region [oI 26 (.mov (.t 1)),oI 27 (.mov (.t 5)),oI 28 (.slice 1 (.t 26) none (some (.t 27)) none),oI 29 (.call 108 0 true [(.t 28)]),oI 30 (.i2i .i64 (.t 29)),oI 31 (.faddr 1 (.t 4)),oN (.st 1 (.t 31) (.t 30))] none [7,5,4]))) (.seq (.region [oI 33 (.bin .eql (.t 12) (.c (.int .i64 4))),oI 32 (.mov (.t 33))] none [32,12,7,5,4,1]) (.cond (.t 32) (.region [oI 35 (.mov (.t 1)),oI 36 (.call 135 0 true [(.t 35)]),oI 34 (.mov (.t 36)),oI 37 (.ext (.t 34) 0),oI 38 (.ext (.t 34) 1),oI 39 (.ext (.t 34) 2),oI 40 (.faddr 1 (.t 4)),oN (.st 1 (.t 40) (.t 37)),oI 5 (.mov (.t 38)),oI 7 (.mov (.t 39))] none [7,5,4]) (.seq (.region [oI 42 (.bin .eql (.t 12) (.c (.int .i64 5))),oI 41 (.mov (.t 42))] none [41,12,7,5,4,1]) (.cond (.t 41) (.region [oI 44 (.mov (.t 1)),oI 45 (.call 109 0 true [(.t 44)]),oI 43 (.mov (.t 45)),oI 46 (.ext (.t 43) 0),oI 47 (.ext (.t 43) 1),oI 48 (.ext (.t 43) 2),oI 49 (.faddr 2 (.t 4)),oN (.st 1 (.t 49) (.t 46)),oI 5 (.mov (.t 47)),oI 7 (.mov (.t 48))] none [7,5,4]) (.seq (.region [oI 51 (.bin .eql (.t 12) (.c (.int .i64 6))),oI 50 (.mov (.t 51))] none [50,12,7,5,4,1]) (.cond (.t 50) (.region [oI 53 (.mov (.t 1)),oI 54 (.call 106 0 true [(.t 53)]),oI 52 (.mov (.t 54)),oI 55 (.ext (.t 52) 0),oI 56 (.ext (.t 52) 1),oI 57 (.ext (.t 52) 2),oI 58 (.faddr 4 (.t 4)),oN (.st 1 (.t 58) (.t 55)),oI 5 (.mov (.t 56)),oI 7 (.mov (.t 57))] none [7,5,4]) (.seq (.region [oI 60 (.bin .eql (.t 12) (.c (.int .i64 7))),oI 59 (.mov (.t 60))] none [59,7,5,4,1]) (.cond (.t 59) (.seq (.region [oI 62 (.mov (.t 1)),oI 63 (.call 109 0 true [(.t 62)]),oI 61 (.mov (.t 63)),oI 64 (.ext (.t 61) 0),oI 65 (.ext (.t 61) 1),oI 66 (.ext (.t 61) 2),oI 67 (.faddr 2 (.t 4)),oN (.st 1 (.t 67) (.t 64)),oI 5 (.mov (.t 65)),oI 7 (.mov (.t 66))] none [7,5,4,1]) (.seq (.region [oI 68 (.mov (.t 7)),oI 69 (.bin .eql (.t 68) (.c (.int .i64 0)))] none [69,7,5,4,1]) (.cond (.t 69) (.seq (.region [oI 8 (.mov (.c (.int .i64 0)))] none [5,4,1]) (.seq (.region [oI 71 (.mov (.t 1)),oI 72 (.mov (.t 5)),oI 73 (.slice 1 (.t 71) (some (.t 72)) none none),oI 74 (.call 109 0 true [(.t 73)]),oI 70 (.mov (.t 74)),oI 75 (.ext (.t 70) 0),oI 76 (.ext (.t 70) 1),oI 77 (.ext (.t 70) 2),oI 78 (.faddr 3 (.t 4)),oN (.st 1 (.t 78) (.t 75)),oI 8 (.mov (.t 76)),oI 7 (.mov (.t 77))] none [8,7,5,4]) (.region [oI 79 (.mov (.t 5)),oI 80 (.mov (.t 8)),oI 81 (.bin .add (.t 79) (.t 80)),oI 5 (.mov (.t 81))] none [7,5,4]))) .skip))) .skip)))))))))))) (.seq (.region [oI 82 (.ld (some 5) (.t 4)),oI 83 (.mov (.t 5)),oI 84 (.mov (.t 7)),oI 85 (.bin .eql (.t 84) (.c (.int .i64 0))),oN (.st 5 (.t 4) (.t 82)),oI 5 (.mov (.t 83)),oI 6 (.mov (.t 85))] none [6,5,4]) .ret)))))
def Zne:ZE:=⟨[(.cell 4 (some 5)),(.tmp 5),(.tmp 6)],Zc4⟩
theorem Zei:FC 154=some Zne:=by kernel_rfl
theorem ZdP:Zne.body=Zc4:=rfl
theorem ZdR:Zne.res=[(.cell 4 (some 5)),(.tmp 5),(.tmp 6)]:=rfl
def Zm5:Ze:=(.seq (.region [oI 2 (.box (.t 0)),oI 3 (.box (.t 1)),oI 4 (.mov (.c (.bool false)))] none [3,2]) (.seq (.region [oI 5 (.faddr 0 (.t 2)),oI 6 (.ld none (.t 5)),oI 7 (.faddr 0 (.t 3)),oI 8 (.ld none (.t 7)),oI 9 (.bin .eql (.t 6) (.t 8)),oI 10 (.mov (.t 9)),⟨(some 11),(.faddr 1 (.t 2)),(some (10,true)),[]⟩,⟨(some 12),(.ld none (.t 11)),(some (10,true)),[]⟩,⟨(some 13),(.faddr 1 (.t 3)),(some (10,true)),[]⟩,⟨(some 14),(.ld none (.t 13)),(some (10,true)),[]⟩,⟨(some 15),(.bin .eql (.t 12) (.t 14)),(some (10,true)),[]⟩,oI 16 (.pick (.t 10) (.t 15) (.c (.bool false))),oI 17 (.mov (.t 16)),⟨(some 18),(.faddr 2 (.t 2)),(some (17,true)),[]⟩,⟨(some 19),(.ld none (.t 18)),(some (17,true)),[]⟩,⟨(some 20),(.faddr 2 (.t 3)),(some (17,true)),[]⟩,⟨(some 21),(.ld none (.t 20)),(some (17,true)),[]⟩,⟨(some 22),(.bin .eql (.t 19) (.t 21)),(some (17,true)),[]⟩,oI 23 (.pick (.t 17) (.t 22) (.c (.bool false))),oI 24 (.mov (.t 23)),⟨(some 25),(.faddr 3 (.t 2)),(some (24,true)),[]⟩,⟨(some 26),(.ld none (.t 25)),(some (24,true)),[]⟩,⟨(some 27),(.faddr 3 (.t 3)),(some (24,true)),[]⟩,⟨(some 28),(.ld none (.t 27)),(some (24,true)),[]⟩,⟨(some 29),(.bin .eql (.t 26) (.t 28)),(some (24,true)),[]⟩,oI 30 (.pick (.t 24) (.t 29) (.c (.bool false))),oI 31 (.mov (.t 30)),⟨(some 32),(.faddr 4 (.t 2)),(some (31,true)),[]⟩,⟨(some 33),(.ld none (.t 32)),(some (31,true)),[]⟩,⟨(some 34),(.b2s (.t 33)),(some (31,true)),[]⟩,⟨(some 35),(.faddr 4 (.t 3)),(some (31,true)),[]⟩,⟨(some 36),(.ld none (.t 35)),(some (31,true)),[]⟩,⟨(some 37),(.b2s (.t 36)),(some (31,true)),[]⟩,⟨(some 38),(.bin .eql (.t 34) (.t 37)),(some (31,true)),[]⟩,oI 39 (.pick (.t 31) (.t 38) (.c (.bool false))),oI 4 (.mov (.t 39))] none [4]) .ret))
def ZpF:ZE:=⟨[(.tmp 4)],Zm5⟩
theorem ZBp:FC 110=some ZpF:=by kernel_rfl
theorem ZBJ:ZpF.body=Zm5:=rfl
theorem ZH1:ZpF.res=[(.tmp 4)]:=rfl
def Znu:Ze:=(.seq (.region [oI 4 (.mov (.c (.bool true)))] none [4]) .ret)
def Zng:Ze:=Znu
def ZyG:=xw Zng Znu rfl
def ZkN:Ze:=(.seq (.seq (.region [oI 11 (.mov (.t 5)),oI 12 (.mov (.t 0)),oI 13 (.len (.t 12)),oI 14 (.bin .lss (.t 11) (.t 13))] none [14,5,1,0]) (.cond (.t 14) .skip (.exit 0))) (.seq (.block 1 (.seq (.region [oI 17 (.mov (.t 0)),oI 18 (.mov (.t 5)),oI 19 (.iaddr 5 (.t 17) (.t 18)),oI 20 (.ld (some 5) (.t 19)),oI 21 (.mov (.t 1)),oI 22 (.mov (.t 5)),oI 23 (.iaddr 5 (.t 21) (.t 22)),oI 24 (.ld (some 5) (.t 23)),oI 25 (.call 110 0 true [(.t 20),(.t 24)]),oI 26 (.un .not (.t 25))] (some [(2,6),(3,6),(2,7),(3,7),(8,8)]) [26,5,1,0]) (.cond (.t 26) (.seq (.region [oI 4 (.mov (.c (.bool false)))] none [4]) .ret) .skip))) (.region [oI 15 (.mov (.t 5)),oI 16 (.bin .add (.t 15) (.c (.int .i64 1))),oI 5 (.mov (.t 16))] none [5,1,0])))
def Zm2:Ze:=ZkN
def Zsf:=xw Zm2 ZkN rfl
def ZlB:Ze:=(.seq (.region [oI 4 (.mov (.c (.bool false)))] none [1,0]) (.seq (.seq (.region [oI 6 (.mov (.t 0)),oI 7 (.len (.t 6)),oI 8 (.mov (.t 1)),oI 9 (.len (.t 8)),oI 10 (.bin .neq (.t 7) (.t 9))] none [10,1,0]) (.cond (.t 10) (.seq (.region [oI 4 (.mov (.c (.bool false)))] none [4]) .ret) .skip)) (.seq (.seq (.region [oI 5 (.mov (.c (.int .i64 0)))] none [5,1,0]) (.block 0 (.loop [5,1,0] Zm2))) Zng)))
def Zj0:ZE:=⟨[(.tmp 4)],ZlB⟩
theorem ZID:FC 72=some Zj0:=by kernel_rfl
theorem ZsZ:Zj0.body=ZlB:=rfl
theorem Zoi:Zj0.res=[(.tmp 4)]:=rfl
noncomputable def Zlg (m:Nat) (tm:Tms) (σ:Za):Option (AVal×Za):=(Zap m Zj0 (ZbM FC PR BY m Zng (Option.map (ZaW 0) (evL FC PR BY m [5,1,0] Zm2 tm σ))))
end
section
end
section
def Zsx:List (Int×Int×Int):=[(1,1,65544),(2,3,65544),(3,5,65544),(8,5,65544),(9,6,65544),(11,4,264),(17,3,16390),(18,5,4),(26,5,4),(19,2,4),(21,5,32774),(22,6,32774),(23,1,2),(25,1,2),(24,3,65536),(28,5,16388),(31,5,51956),(33,2,6),(34,2,6),(35,2,8),(39,3,6),(36,1,4),(37,1,4),(40,1,4),(41,1,4),(42,1,4),(38,7,-12290)]
def ofF (id:Int):Int×Int:=(Zsx.lookup id).getD (0,0)
def Zb5 (id:Int):Int:=(ofF id).1
def Zgq (id:Int):Prop:=id=1\/id=2\/id=3\/id=8\/id=9\/id=11\/id=17\/id=18\/id=26\/id=19\/id=21\/id=22\/id=23\/id=25\/id=24\/id=28\/id=31\/id=33\/id=34\/id=35\/id=39\/id=36\/id=37\/id=40\/id=41\/id=42\/id=38
instance (id:Int):Decidable (Zgq id):=by unfold Zgq;infer_instance
theorem ZuI {id:Int} (h:¬Zgq id):(id == 1)=false/\(id == 2)=false/\(id == 3)=false/\(id == 8)=false/\(id == 9)=false/\(id == 11)=false/\(id == 17)=false/\(id == 18)=false/\(id == 26)=false/\(id == 19)=false/\(id == 21)=false/\(id == 22)=false/\(id == 23)=false/\(id == 25)=false/\(id == 24)=false/\(id == 28)=false/\(id == 31)=false/\(id == 33)=false/\(id == 34)=false/\(id == 35)=false/\(id == 39)=false/\(id == 36)=false/\(id == 37)=false/\(id == 40)=false/\(id == 41)=false/\(id == 42)=false/\(id == 38)=false:=by
 unfold Zgq at h
 simp only [not_or] at h
 simp only [beq_eq_false_iff_ne,ne_eq]
 exact h
theorem Zs7 {id:Int} (h:¬Zgq id):ofF id=(0,0):=by
 obtain ⟨h1,h2,h3,h8,h9,h11,h17,h18,h26,h19,h21,h22,h23,h25,h24,h28,h31,h33,h34,h35,h39,h36,h37,h40,h41,h42,h38⟩:=ZuI h
 simp only [ofF,Zsx,List.lookup,h1,h2,h3,h8,h9,h11,h17,h18,h26,h19,h21,h22,h23,h25,h24,h28,h31,h33,h34,h35,h39,h36,h37,h40,h41,h42,h38,Option.getD_none]
theorem ZHA (id:Int):E 152 [.int .i64 id] []=some (.agg [.int .i64 (ofF id).1,.int .i64 (ofF id).2],[]):=by
 by_cases h:Zgq id
 ·rcases h with rfl | rfl | rfl | rfl | rfl | rfl | rfl | rfl | rfl | rfl | rfl | rfl | rfl | rfl | rfl | rfl | rfl | rfl | rfl | rfl | rfl | rfl | rfl | rfl | rfl | rfl | rfl
  all_goals exact ZdI.2 ⟨20,by kernel_rfl⟩
 ·rw [Zs7 h]
  obtain ⟨h1,h2,h3,h8,h9,h11,h17,h18,h26,h19,h21,h22,h23,h25,h24,h28,h31,h33,h34,h35,h39,h36,h37,h40,h41,h42,h38⟩:=ZuI h
  rw [Zh (by rfl) ZwY]
  simp -implicitDefEqProofs only [EQA,Zu,Nat.reduceAdd,Nat.reduceLT,Nat.reduceLeDiff,Nat.reduceEqDiff,Nat.reduceBEq,reduceCtorEq,↓reduceIte,Zd,ZKV,ZoQ,ZAe,oI,oN,h1,h2,h3,h8,h9,h11,h17,h18,h26,h19,h21,h22,h23,h25,h24,h28,h31,h33,h34,h35,h39,h36,h37,h40,h41,h42,h38,Zao,AVal.cells]
theorem ZvX (σ:Za) (sq own:Nat) (id:Int):Zj E BY σ sq 152 own true [.int .i64 id]=some (.agg [.int .i64 (ofF id).1,.int .i64 (ofF id).2],σ,{}) :=
 ZbC (ZHA id) (by kernel_rfl) rfl rfl rfl (fun _=>rfl) _ _ _
theorem ZFj (id:Int):E 134 [.int .i64 id] []=some (.int .i64 (Zb5 id),[]):=by
 have hC:=fun σ sq own=>ZvX σ sq own id
 unfold Zb5
 rw [Zh (by rfl) ZEv]
 simp -implicitDefEqProofs only [EQA,Nat.reduceLT,Nat.reduceEqDiff,reduceCtorEq,↓reduceIte,ZMX,Znj,ZHO,oI,hC]
theorem Zjj (σ:Za) (sq own:Nat) (id:Int):Zj E BY σ sq 134 own true [.int .i64 id]=some (.int .i64 (Zb5 id),σ,{}) :=
 ZbC (ZFj id) (by kernel_rfl) rfl rfl rfl (fun _=>rfl) _ _ _
def Zr0 (pl w:Int):Int:=IntKind.i64.wrap (((BitVec.ofInt IntKind.i64.bits (pl.fdiv (2 ^ min w.toNat IntKind.i64.bits)) &&& BitVec.ofInt IntKind.i64.bits 1).toNat:Nat):Int)
def ZgM (id w:Int):Bool:=decide (w>=1) && decide (w<=16) && Zr0 (ofF id).2 w == 1
theorem ZD5 (id w:Int):E 153 [.int .i64 id,.int .i64 w] []=some (.bool (ZgM id w),[]):=by
 have hC:=fun σ sq own=>ZvX σ sq own id
 unfold ZgM Zr0
 generalize (ofF id).2=pl at *
 rw [Zh (by rfl) ZMC]
 by_cases h1:w>=1
 ·have h2:¬w < 0:=by omega
  by_cases h3:w<=16
  ·simp -implicitDefEqProofs only [EQA,Nat.reduceLT,Nat.reduceEqDiff,ZaB,ZF,unG,reduceCtorEq,↓reduceIte,Zqg,Zja,ZpO,oI,hC,h1,h2,h3]
  ·simp -implicitDefEqProofs only [EQA,Nat.reduceLT,Nat.reduceEqDiff,ZF,Zav,unG,reduceCtorEq,↓reduceIte,Zqg,Zja,ZpO,oI,h1,h3]
 ·simp -implicitDefEqProofs only [EQA,Nat.reduceLT,Nat.reduceEqDiff,ZF,Zav,reduceCtorEq,↓reduceIte,Zqg,Zja,ZpO,oI,h1]
theorem ZEb (σ:Za) (sq own:Nat) (id w:Int):Zj E BY σ sq 153 own true [.int .i64 id,.int .i64 w]=some (.bool (ZgM id w),σ,{}) :=
 ZbC (ZD5 id w) (by kernel_rfl) rfl rfl rfl (fun _=>rfl) _ _ _
end
end Go.Proofs.YtmlkhhidifjjfaaDoor
