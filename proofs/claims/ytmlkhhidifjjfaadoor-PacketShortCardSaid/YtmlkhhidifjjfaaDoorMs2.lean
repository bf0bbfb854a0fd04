/- packed -/
import Derived.Test.YtmlkhhidifjjfaaDoorMs1
import Derived.Laws.Cover3
import Derived.Lib.Index
import Derived.Shelf.Unicode.ValidAny
import Derived.Shelf.Strings.Count
import Derived.Test.YtmlkhhidifjjfaaDoorProg
import Derived.Deep.Slices
import Derived.ChangeArms
import Derived.WideShapes
import GoSem.ClaimChange
import Derived.Lib.TrimUEq
import Derived.Lib.MapLaws
import Derived.Lib.ValidLaws
set_option linter.defProp false
set_option linter.unusedSimpArgs false
set_option linter.unusedVariables false
namespace Go.Proofs.YtmlkhhidifjjfaaDoor
open Go.RowKit
def OLe (O O':ZO):Prop:=∀ f a σ r,O f a σ=some r→O' f a σ=some r
section
variable {O O':ZO} {byref:Nat→Bool}
theorem ZLU {view:Bool} {m:Nat} {x y:Option (AVal×Za)} (h:∀ r,x=some r→y=some r) {r:AVal×Za} (hr:Zad view m x=some r):Zad view m y=some r:=by
 cases x with
 | none=>cases view <;> simp [Zad,ZbH] at hr
 | some q=>rw [h q rfl];exact hr
theorem ZKU {σ σf:Za} {ids ts:List Nat} {site own:Nat} {x y:Option (AVal×Za)} (h:∀ r,x=some r→y=some r) {r:AVal×Za×Cls} (hr:ZaC σ σf ids ts site own x=some r):ZaC σ σf ids ts site own y=some r:=by
 cases x with
 | none=>simp only [ZaC] at hr;cases hr
 | some q=>rw [h q rfl];exact hr
theorem ZpM (hO:OLe O O') {σ:Za} {site f own:Nat} {view:Bool} {args:List AVal} {r:AVal×Za×Cls} (h:Zj O byref σ site f own view args=some r):Zj O' byref σ site f own view args=some r:=by
 unfold Zj ZbB at h ⊢
 split at h
 ·cases h
 ·rename_i vs ts hv
  split at h
  ·rename_i hc
   simp only [hc,if_true]
   exact ZKU (fun q hq=>ZLU (fun q hq=>hO _ _ _ _ hq) hq) h
  ·cases h
theorem ZLA (hO:OLe O O') {tm:Tms} {σ:Za} {site:Nat} {ins:Ins} {r:AVal×Za×Cls} (h:execI O byref tm σ site ins=some r):execI O' byref tm σ site ins=some r:=by
 cases ins
 case call f own view args =>
  simp only [execI] at h ⊢
  exact ZpM hO h
 case callv x args =>
  simp only [execI] at h ⊢
  split at h
  ·exact ZpM hO h
  ·cases h
 all_goals exact h
theorem ZpD (hO:OLe O O') {o:AOp} {tm:Tms} {σ:Za} {site:Nat} {r:AVal×Tms×Za×Cls} (h:ZP O byref o site tm σ=some r):ZP O' byref o site tm σ=some r:=by
 unfold ZP at h ⊢
 split at h
 ·cases h
 ·exact h
 ·split at h
  ·rename_i hf
   rw [if_pos hf]
   split at h
   ·rename_i he;rw [ZLA hO he];exact h
   ·cases h
  ·cases h
theorem Znq (hO:OLe O O'):∀ {ops:List AOp} {s:Nat} {tm:Tms} {σ:Za} {r:Tms×Za×List Cls×Option AVal},ZW O byref ops s tm σ=some r→ZW O' byref ops s tm σ=some r
 | [],_,_,_,_,h=>h
 | o::ops,s,tm,σ,r,h=>by
  simp only [ZW] at h ⊢
  split at h
  ·cases h
  ·rename_i h1
   rw [ZpD hO h1]
   exact h
  ·rename_i v tm1 σ1 c hnp h1
   rw [ZpD hO h1]
   simp only
   split at h
   ·cases h
   rename_i h2
   rw [Znq hO h2]
   exact h
theorem Zvr (hO:OLe O O') {ops:List AOp} {chk:Option (List (Nat×Nat))} {live:List Nat} {tm:Tms} {σ:Za} {r:ZaQ×Tms×Za} (h:ZbW O byref ops chk live tm σ=some r):ZbW O' byref ops chk live tm σ=some r:=by
 unfold ZbW at h ⊢
 cases hx:ZW O byref ops σ.length tm (σ++List.replicate (sitesOf ops) .free) with
 | none=>rw [hx] at h;simp only [ZcG] at h;cases h
 | some q=>rw [Znq hO hx];rw [hx] at h;exact h
theorem ZkG {m0:Nat} {live:List Nat} {f f':Tms→Za→Option (ZaQ×Tms×Za)} (hf:∀ tm σ r,f tm σ=some r→f' tm σ=some r):∀ {n n':Nat} {tm:Tms} {σ:Za} {r:ZaQ×Tms×Za},n≤n'→Zdc m0 live f n tm σ=some r→Zdc m0 live f' n' tm σ=some r
 | 0,_,_,_,_,_,h=>by simp only [Zdc] at h;cases h
 | n+1,0,_,_,_,hn,_=>by omega
 | n+1,n'+1,tm,σ,r,hn,h=>by
  simp only [Zdc] at h ⊢
  split at h
  ·rename_i h1
   rw [hf _ _ _ h1]
   exact ZkG hf (by omega) h
  ·rename_i hne
   rw [hf _ _ _ h]
   split
   ·rename_i e;injection e with e;subst e;exact absurd h (hne _ _)
   ·rfl
theorem ZdF (hO:OLe O O') {m0:Nat}:∀ {c:Ze} {n n':Nat} {tm:Tms} {σ:Za} {r:ZaQ×Tms×Za},n≤n'→Z4 O byref m0 n c tm σ=some r→Z4 O' byref m0 n' c tm σ=some r:=by
 intro c
 induction c with
 | skip=>intro n n' tm σ r _ h;exact h
 | exit id=>intro n n' tm σ r _ h;exact h
 | ret=>intro n n' tm σ r _ h;exact h
 | stuck=>intro n n' tm σ r _ h;exact h
 | region ops chk live =>
  intro n n' tm σ r _ h
  simp only [Z4] at h ⊢
  exact Zvr hO h
 | seq a b iha ihb =>
  intro n n' tm σ r hn h
  simp only [Z4] at h ⊢
  split at h
  ·rename_i h1;rw [iha hn h1];exact ihb hn h
  ·rename_i hne
   rw [iha hn h]
   split
   ·rename_i e;injection e with e;subst e;exact absurd h (hne _ _)
   ·rfl
 | cond c a b iha ihb =>
  intro n n' tm σ r hn h
  simp only [Z4] at h ⊢
  split at h
  ·exact iha hn h
  ·exact ihb hn h
  ·cases h
 | block id c ih =>
  intro n n' tm σ r hn h
  simp only [Z4] at h ⊢
  split at h
  ·rename_i h1;rw [ih hn h1];exact h
  ·rename_i hne
   rw [ih hn h]
   split
   ·rename_i e;injection e with e;subst e;exact absurd h (hne _ _ _)
   ·rfl
 | loop live c ih =>
  intro n n' tm σ r hn h
  simp only [Z4] at h ⊢
  exact ZkG (fun tm σ r h=>ih hn h) hn h
theorem Zk0 {m0:Nat} {fn:ZD} {x y:Option (ZaQ×Tms×Za)} (h:∀ r,x=some r→y=some r) {r:AVal×Za} (hr:Zan m0 fn x=some r):Zan m0 fn y=some r:=by
 cases x with
 | none=>simp only [Zan] at hr;cases hr
 | some q=>rw [h q rfl];exact hr
theorem Zqx (fs:Nat→Option ZD) (prim:Zcm):∀ n,OLe (Zat fs prim byref n) (Zat fs prim byref (n+1))
 | 0=>by intro f a σ r h;simp only [Zat] at h;cases h
 | n+1=>by
  intro f a σ r h
  rw [Zat] at h ⊢
  split at h
  ·rename_i g hg;exact h
  ·rename_i hg
   split at h
   ·cases h
   ·rename_i fn hfn
    exact Zk0 (fun q hq=>ZdF (Zqx fs prim n) (by omega) hq) h
theorem ZhU (fs : Nat → Option ZD) (prim : Zcm) {n m : Nat} (h : n ≤ m) : OLe (Zat fs prim byref n) (Zat fs prim byref m) := by
  induction m with
  | zero => obtain rfl : n = 0 := by omega
            exact fun _ _ _ _ h => h
  | succ m ih =>
    by_cases e : n = m + 1
    · subst e; exact fun _ _ _ _ h => h
    · exact fun f a σ r hr => Zqx fs prim m f a σ r (ih (by omega) f a σ r hr)
end
section
variable (fs:Nat→Option ZD) (prim:Zcm) (byref:Nat→Bool)
open Classical in
noncomputable def EV:ZO:=fun f args σ=>if h:∃ r,∃ n,Zat fs prim byref n f args σ=some r then some h.choose else none
open Classical in
noncomputable def evC (m:Nat) (c:Ze) (tm:Tms) (σ:Za):Option (ZaQ×Tms×Za):=if h:∃ r,∃ n,Z4 (Zat fs prim byref n) byref m n c tm σ=some r then some h.choose else none
variable {fs prim byref} {m0:Nat}
theorem Zdr {f:Nat} {args:List AVal} {σ:Za} {r:AVal×Za}:EV fs prim byref f args σ=some r↔∃ n,Zat fs prim byref n f args σ=some r:=by
 unfold EV
 constructor
 ·intro h
  split at h
  ·rename_i hx
   injection h with h
   rw [←h]
   exact hx.choose_spec
  ·cases h
 ·rintro ⟨n,hn⟩
  have hx:∃ r,∃ n,Zat fs prim byref n f args σ=some r:=⟨r,n,hn⟩
  rw [dif_pos hx]
  obtain ⟨m,hm⟩:=hx.choose_spec
  have h1:=ZhU (byref:=byref) fs prim (Nat.le_max_left n m) _ _ _ _ hn
  have h2:=ZhU (byref:=byref) fs prim (Nat.le_max_right n m) _ _ _ _ hm
  rw [h1] at h2
  injection h2 with h2
  rw [←h2]
theorem Zbh {c:Ze} {tm:Tms} {σ:Za} {r:ZaQ×Tms×Za}:evC fs prim byref m0 c tm σ=some r↔∃ n,Z4 (Zat fs prim byref n) byref m0 n c tm σ=some r:=by
 unfold evC
 constructor
 ·intro h
  split at h
  ·rename_i hx
   injection h with h
   rw [←h]
   exact hx.choose_spec
  ·cases h
 ·rintro ⟨n,hn⟩
  have hx:∃ r,∃ n,Z4 (Zat fs prim byref n) byref m0 n c tm σ=some r:=⟨r,n,hn⟩
  rw [dif_pos hx]
  obtain ⟨m,hm⟩:=hx.choose_spec
  have h1:=ZdF (ZhU (byref:=byref) fs prim (Nat.le_max_left n m)) (Nat.le_max_left n m) hn
  have h2:=ZdF (ZhU (byref:=byref) fs prim (Nat.le_max_right n m)) (Nat.le_max_right n m) hm
  rw [h1] at h2
  injection h2 with h2
  rw [←h2]
theorem ZeU {α:Type} {x y:Option α} (h:∀ r,x=some r↔y=some r):x=y:=by
 cases x with
 | none =>
  cases y with
  | none=>rfl
  | some q=>exact absurd ((h q).2 rfl) (by simp)
 | some q=>exact ((h q).1 rfl).symm
theorem ZOG (n:Nat):OLe (Zat fs prim byref n) (EV fs prim byref):=fun _ _ _ _ h=>Zdr.2 ⟨n,h⟩
theorem up {n m:Nat} (h:n≤m):OLe (Zat fs prim byref n) (Zat fs prim byref m):=ZhU fs prim h
theorem ZqI {f:Nat} {g:List AVal→Za→Option (AVal×Za)} (hp:prim f=some g) (args:List AVal) (σ:Za):EV fs prim byref f args σ=g args σ:=by
 apply ZeU
 intro r
 rw [Zdr]
 constructor
 ·rintro ⟨n,h⟩
  cases n with
  | zero=>simp only [Zat] at h;cases h
  | succ n=>rw [Zat,hp] at h;exact h
 ·intro h
  exact ⟨1,by rw [Zat,hp];exact h⟩
theorem ZtK {f:Nat} {fn:ZD} (hp:prim f=none) (hf:fs f=some fn) (args:List AVal) (σ:Za):EV fs prim byref f args σ=Zan σ.length fn (evC fs prim byref σ.length fn.body (enterA 0 args []) σ):=by
 apply ZeU
 intro r
 rw [Zdr]
 constructor
 ·rintro ⟨n,h⟩
  cases n with
  | zero=>simp only [Zat] at h;cases h
  | succ n =>
   rw [Zat,hp,hf] at h
   exact Zk0 (fun q hq=>Zbh.2 ⟨n,hq⟩) h
 ·intro h
  cases hx:evC fs prim byref σ.length fn.body (enterA 0 args []) σ with
  | none=>rw [hx] at h;simp only [Zan] at h;cases h
  | some q =>
   obtain ⟨n,hn⟩:=Zbh.1 hx
   refine ⟨n+1,?_⟩
   rw [Zat,hp,hf]
   rw [hx] at h
   exact Zk0 (x:=some q) (fun q' hq'=>by injection hq' with hq';subst hq';exact hn) h
theorem ZqG {σ:Za} {site f own:Nat} {view:Bool} {args:List AVal} {r:AVal×Za×Cls} (h:Zj (EV fs prim byref) byref σ site f own view args=some r):∃ n,Zj (Zat fs prim byref n) byref σ site f own view args=some r:=by
 unfold Zj ZbB at h ⊢
 split at h
 ·cases h
 ·rename_i vs ts hv
  split at h
  ·rename_i hc
   simp only [hc,if_true]
   cases hx:EV fs prim byref f (Zf (Zm (Zq σ ts) 0 (Zz (Zq σ ts) 1000 (Zr vs) [])) vs) (Zv (Zq σ ts) 0 (Zz (Zq σ ts) 1000 (Zr vs) []) (Zm (Zq σ ts) 0 (Zz (Zq σ ts) 1000 (Zr vs) [])) (Zz (Zq σ ts) 1000 (Zr vs) []) 0) with
   | none =>
    rw [hx] at h
    cases view <;> simp [Zad,ZbH,ZaC] at h
   | some q =>
    obtain ⟨n,hn⟩:=Zdr.1 hx
    exact ⟨n,by rw [hn];rw [hx] at h;exact h⟩
  ·cases h
theorem Zxf {tm:Tms} {σ:Za} {site:Nat} {ins:Ins} {r:AVal×Za×Cls} (h:execI (EV fs prim byref) byref tm σ site ins=some r):∃ n,execI (Zat fs prim byref n) byref tm σ site ins=some r:=by
 cases ins
 case call f own view args =>
  simp only [execI] at h ⊢
  exact ZqG h
 case callv x args =>
  simp only [execI] at h ⊢
  split at h
  ·exact ZqG h
  ·cases h
 all_goals exact ⟨0,h⟩
theorem Zvi {o:AOp} {tm:Tms} {σ:Za} {site:Nat} {r:AVal×Tms×Za×Cls} (h:ZP (EV fs prim byref) byref o site tm σ=some r):∃ n,ZP (Zat fs prim byref n) byref o site tm σ=some r:=by
 unfold ZP at h ⊢
 split at h
 ·cases h
 ·exact ⟨0,h⟩
 ·split at h
  ·rename_i hf
   simp only [hf,if_true]
   split at h
   ·rename_i he
    obtain ⟨n,hn⟩:=Zxf he
    exact ⟨n,by rw [hn];exact h⟩
   ·cases h
  ·cases h
theorem ZtJ:∀ {ops:List AOp} {s:Nat} {tm:Tms} {σ:Za} {r:Tms×Za×List Cls×Option AVal},ZW (EV fs prim byref) byref ops s tm σ=some r→∃ n,ZW (Zat fs prim byref n) byref ops s tm σ=some r
 | [],_,_,_,_,h=>⟨0,h⟩
 | o::ops,s,tm,σ,r,h=>by
  simp only [ZW] at h ⊢
  split at h
  ·cases h
  ·rename_i h1
   obtain ⟨n,hn⟩:=Zvi h1
   exact ⟨n,by rw [hn];exact h⟩
  rename_i v tm1 σ1 c hnp h1
  split at h
  ·cases h
  rename_i h2
  obtain ⟨n,hn⟩:=Zvi h1
  obtain ⟨m,hm⟩:=ZtJ h2
  refine ⟨max n m,?_⟩
  rw [ZpD (up (Nat.le_max_left n m)) hn]
  simp only
  rw [Znq (up (Nat.le_max_right n m)) hm]
  exact h
theorem ZKc {ops:List AOp} {chk:Option (List (Nat×Nat))} {live:List Nat} {tm:Tms} {σ:Za} {r:ZaQ×Tms×Za} (h:ZbW (EV fs prim byref) byref ops chk live tm σ=some r):∃ n,ZbW (Zat fs prim byref n) byref ops chk live tm σ=some r:=by
 unfold ZbW at h ⊢
 cases hx:ZW (EV fs prim byref) byref ops σ.length tm (σ++List.replicate (sitesOf ops) .free) with
 | none=>rw [hx] at h;simp only [ZcG] at h;cases h
 | some q =>
  obtain ⟨n,hn⟩:=ZtJ hx
  exact ⟨n,by rw [hn];rw [hx] at h;exact h⟩
theorem ZMi (tm:Tms) (σ:Za):evC fs prim byref m0 .skip tm σ=some (.normal,tm,σ):=Zbh.2 ⟨0,rfl⟩
theorem ZKq (id:Nat) (tm:Tms) (σ:Za):evC fs prim byref m0 (.exit id) tm σ=some (.exit id,tm,σ):=Zbh.2 ⟨0,rfl⟩
theorem ZDV (tm:Tms) (σ:Za):evC fs prim byref m0 .ret tm σ=some (.ret,tm,σ):=Zbh.2 ⟨0,rfl⟩
theorem Zzi {ops:List AOp} {chk:Option (List (Nat×Nat))} {live:List Nat} {tm:Tms} {σ:Za}:evC fs prim byref m0 (.region ops chk live) tm σ=ZbW (EV fs prim byref) byref ops chk live tm σ:=by
 apply ZeU
 intro r
 rw [Zbh]
 constructor
 ·rintro ⟨n,hn⟩
  simp only [Z4] at hn
  exact Zvr (ZOG n) hn
 ·intro h
  obtain ⟨n,hn⟩:=ZKc h
  exact ⟨n,by simp only [Z4];exact hn⟩
theorem Zh5 {a b:Ze} {tm tm':Tms} {σ σ':Za} (h:evC fs prim byref m0 a tm σ=some (.normal,tm',σ')):evC fs prim byref m0 (.seq a b) tm σ=evC fs prim byref m0 b tm' σ':=by
 obtain ⟨n,hn⟩:=Zbh.1 h
 apply ZeU
 intro r
 rw [Zbh,Zbh]
 constructor
 ·rintro ⟨m,hm⟩
  have h1:=ZdF (up (Nat.le_max_left n m)) (Nat.le_max_left n m) hn
  have h2:=ZdF (up (Nat.le_max_right n m)) (Nat.le_max_right n m) hm
  simp only [Z4,h1] at h2
  exact ⟨_,h2⟩
 ·rintro ⟨m,hm⟩
  have h1:=ZdF (up (Nat.le_max_left n m)) (Nat.le_max_left n m) hn
  have h2:=ZdF (up (Nat.le_max_right n m)) (Nat.le_max_right n m) hm
  exact ⟨max n m,by simp only [Z4,h1];exact h2⟩
theorem Zi8 {a b:Ze} {tm tm':Tms} {σ σ':Za} {e:ZaQ} (he:e≠.normal) (h:evC fs prim byref m0 a tm σ=some (e,tm',σ')):evC fs prim byref m0 (.seq a b) tm σ=some (e,tm',σ'):=by
 obtain ⟨n,hn⟩:=Zbh.1 h
 refine Zbh.2 ⟨n,?_⟩
 simp only [Z4,hn]
 cases e with
 | normal=>exact absurd rfl he
 | exit id=>rfl
 | ret=>rfl
 | panic x=>rfl
def ZaW (id:Nat):ZaQ×Tms×Za→ZaQ×Tms×Za
 | (.exit i,tm,σ)=>if i=id then (.normal,tm,σ) else (.exit i,tm,σ)
 | r=>r
theorem ZNZ {id:Nat} {c:Ze} {tm:Tms} {σ:Za}:evC fs prim byref m0 (.block id c) tm σ=(evC fs prim byref m0 c tm σ).map (ZaW id):=by
 have step:∀ n,Z4 (Zat fs prim byref n) byref m0 n (.block id c) tm σ=(Z4 (Zat fs prim byref n) byref m0 n c tm σ).map (ZaW id):=by
  intro n
  simp only [Z4]
  cases Z4 (Zat fs prim byref n) byref m0 n c tm σ with
  | none=>rfl
  | some q =>
   obtain ⟨e,tm1,σ1⟩:=q
   cases e with
   | normal=>rfl
   | ret=>rfl
   | panic x=>rfl
   | exit i=>simp only [Option.map_some,ZaW];split <;> rfl
 apply ZeU;intro r
 rw [Zbh]
 simp only [step,Option.map_eq_some_iff]
 constructor
 ·rintro ⟨n,q,h1,h2⟩;exact ⟨q,Zbh.2 ⟨n,h1⟩,h2⟩
 ·rintro ⟨q,h1,h2⟩;obtain ⟨n,hn⟩:=Zbh.1 h1;exact ⟨n,q,hn,h2⟩
theorem ZFN {c:Ze} {tm:Tms} {σ:Za} (h:evC fs prim byref m0 c tm σ=none) (n:Nat):Z4 (Zat fs prim byref n) byref m0 n c tm σ=none:=by
 cases hx:Z4 (Zat fs prim byref n) byref m0 n c tm σ with
 | none=>rfl
 | some r=>rw [Zbh.2 ⟨n,hx⟩] at h;cases h
variable (fs prim byref m0) in
noncomputable def ZbE (b:Ze):Option (ZaQ×Tms×Za)→Option (ZaQ×Tms×Za)
 | some (.normal,tm,σ)=>evC fs prim byref m0 b tm σ
 | r=>r
theorem ZAR {a b:Ze} {tm:Tms} {σ:Za}:evC fs prim byref m0 (.seq a b) tm σ=ZbE fs prim byref m0 b (evC fs prim byref m0 a tm σ):=by
 cases h:evC fs prim byref m0 a tm σ with
 | none =>
  simp only [ZbE]
  apply ZeU;intro r
  rw [Zbh]
  constructor
  ·rintro ⟨n,hn⟩
   simp only [Z4,ZFN h n] at hn
   cases hn
  ·intro h;cases h
 | some q =>
  obtain ⟨e,tm',σ'⟩:=q
  cases e with
  | normal=>exact Zh5 h
  | exit id=>exact Zi8 (by simp) h
  | ret=>exact Zi8 (by simp) h
  | panic x=>exact Zi8 (by simp) h
variable (fs prim byref m0) in
noncomputable def ZhZ (a b:Ze) (tm:Tms) (σ:Za):AVal→Option (ZaQ×Tms×Za)
 | .bool true=>evC fs prim byref m0 a tm σ
 | .bool false=>evC fs prim byref m0 b tm σ
 | _=>none
theorem ZI8 {c:Opd} {a b:Ze} {tm:Tms} {σ:Za}:evC fs prim byref m0 (.cond c a b) tm σ=ZhZ fs prim byref m0 a b tm σ (c.ev tm):=by
 apply ZeU;intro r
 rw [Zbh]
 simp only [Z4]
 constructor
 ·rintro ⟨n,hn⟩
  split at hn
  ·rename_i e;rw [e];simp only [ZhZ];exact Zbh.2 ⟨n,hn⟩
  ·rename_i e;rw [e];simp only [ZhZ];exact Zbh.2 ⟨n,hn⟩
  ·cases hn
 ·intro h
  unfold ZhZ at h
  split at h
  ·rename_i e;obtain ⟨n,hn⟩:=Zbh.1 h;exact ⟨n,by rw [e];exact hn⟩
  ·rename_i e;obtain ⟨n,hn⟩:=Zbh.1 h;exact ⟨n,by rw [e];exact hn⟩
  ·cases h
variable (fs prim byref m0) in
noncomputable def evL (live:List Nat) (c:Ze) (tm:Tms) (σ:Za):Option (ZaQ×Tms×Za) :=
 match evC fs prim byref m0 c tm σ with
 | some (.normal,tm',σ')=>evC fs prim byref m0 (.loop live c) tm' σ'
 | r=>r
theorem ZsI {live:List Nat} {c:Ze} {tm:Tms} {σ:Za}:evC fs prim byref m0 (.loop live c) tm σ=evL fs prim byref m0 live c (gcT m0 (keepL live tm) σ).1 (gcT m0 (keepL live tm) σ).2:=by
 apply ZeU;intro r
 rw [Zbh]
 constructor
 ·rintro ⟨n,hn⟩
  simp only [Z4] at hn
  cases n with
  | zero=>simp only [Zdc] at hn;cases hn
  | succ k =>
   simp only [Zdc] at hn
   unfold evL
   cases hx:Z4 (Zat fs prim byref (k+1)) byref m0 (k+1) c (gcT m0 (keepL live tm) σ).1 (gcT m0 (keepL live tm) σ).2 with
   | none=>rw [hx] at hn;cases hn
   | some q =>
    rw [Zbh.2 ⟨_,hx⟩]
    rw [hx] at hn
    obtain ⟨e,tm',σ'⟩:=q
    cases e with
    | normal =>
     simp only at hn ⊢
     exact Zbh.2 ⟨k+1,by simp only [Z4];exact ZkG (fun _ _ _ h=>h) (by omega) hn⟩
    | exit id=>exact hn
    | ret=>exact hn
    | panic x=>exact hn
 ·intro h
  unfold evL at h
  cases hx:evC fs prim byref m0 c (gcT m0 (keepL live tm) σ).1 (gcT m0 (keepL live tm) σ).2 with
  | none=>rw [hx] at h;cases h
  | some q =>
   rw [hx] at h
   obtain ⟨n,hn⟩:=Zbh.1 hx
   obtain ⟨e,tm',σ'⟩:=q
   have out:e≠.normal→some (e,tm',σ')=some r→∃ n,Z4 (Zat fs prim byref n) byref m0 n (.loop live c) tm σ=some r:=by
    intro he h
    refine ⟨n+1,?_⟩
    have h1:=ZdF (up (show n≤n+1 by omega)) (show n≤n+1 by omega) hn
    simp only [Z4,Zdc,h1]
    cases e with
    | normal=>exact absurd rfl he
    | exit id=>exact h
    | ret=>exact h
    | panic x=>exact h
   cases e with
   | normal =>
    simp only at h
    obtain ⟨m,hm⟩:=Zbh.1 h
    have h1:=ZdF (up (show n≤max n m+1 by omega)) (show n≤max n m+1 by omega) hn
    have h2:=ZdF (up (show m≤max n m+1 by omega)) (Nat.le_refl m) hm
    simp only [Z4] at h2
    refine ⟨max n m+1,?_⟩
    simp only [Z4,Zdc,h1]
    exact ZkG (fun tm σ r h=>ZdF (fun _ _ _ _ h=>h) (by omega) h) (by omega) h2
   | exit id=>exact out (by simp) h
   | ret=>exact out (by simp) h
   | panic x=>exact out (by simp) h
theorem ZGm {P:Program} (hm:P.follows .mixedOrders=true) {prim:Zcm} (hP:Zjr P prim) (ann:Nat→Ann) (byref:Nat→Bool):ZaK P (EV (Ziv P ann) prim byref):=by
 intro f args σ r σ' h
 obtain ⟨n,hn⟩:=Zdr.1 h
 exact ZoY hm hP ann byref n f args σ r σ' hn
end
end Go.Proofs.YtmlkhhidifjjfaaDoor
namespace Go.Proofs.YtmlkhhidifjjfaaDoor
open Go.RowKit
def Zq0:Tms×Za×List Cls×Option AVal→Tms×Za×Option AVal:=fun q=>(q.1,q.2.1,q.2.2.2)
def ZaL:AVal→Bool
 | .pan _=>true
 | _=>false
section
variable (O:ZO) (byref:Nat→Bool)
def exI (i:Ins) (s:Nat) (tm:Tms) (σ:Za):Option (AVal×Za×Cls) :=
 if nsite i == 0 || freeAt σ s then execI O byref tm σ s i else none
def Zbe (ops:List AOp) (s:Nat) (tm:Tms) (σ:Za):Option (Tms×Za×Option AVal):=(ZW O byref ops s tm σ).map Zq0
def kN (d:Option Nat) (os:List AOp) (s:Nat) (tm:Tms):Option (AVal×Za×Cls)→Option (Tms×Za×Option AVal)
 | none=>none
 | some (v,σ,_)=>if ZaL v then some (tput tm d v,σ,some (ZaP v)) else Zbe O byref os s (tput tm d v) σ
def ZjZ (live:List Nat):Option (Tms×Za×Option AVal)→Option (ZaQ×Tms×Za)
 | none=>none
 | some (_,σ,some x)=>some (.panic x,[],σ)
 | some (tm,σ,none)=>some (.normal,keepL live tm,σ)
variable {O byref}
theorem ZvM (s:Nat) (tm:Tms) (σ:Za):Zbe O byref [] s tm σ=some (tm,σ,none):=rfl
theorem Zh9 {o:AOp} {os:List AOp} {s:Nat} {tm:Tms} {σ:Za} (h:ZP O byref o s tm σ=none):ZW O byref (o::os) s tm σ=none:=by simp only [ZW,h]
theorem ZlI {o:AOp} {os:List AOp} {s:Nat} {tm tm1:Tms} {σ σ1:Za} {x:AVal} {c:Cls} (h:ZP O byref o s tm σ=some (.pan x,tm1,σ1,c)):ZW O byref (o::os) s tm σ=some (tm1,σ1,[c],some x):=by simp only [ZW,h]
theorem Zt7 {o:AOp} {os:List AOp} {s:Nat} {tm tm1:Tms} {σ σ1:Za} {v:AVal} {c:Cls} (h:ZP O byref o s tm σ=some (v,tm1,σ1,c)) (hn:ZaL v=false):ZW O byref (o::os) s tm σ=(ZW O byref os (s+nsite o.ins) tm1 σ1).map fun q=>(q.1,q.2.1,c::q.2.2.1,q.2.2.2):=by
 simp only [ZW,h]
 cases v <;> first
  | (simp [ZaL] at hn;done)
  | (simp only;cases ZW O byref os (s+nsite o.ins) tm1 σ1 <;> rfl)
theorem ZkJ {o:AOp} {os:List AOp} {s:Nat} {tm:Tms} {σ:Za} (h:ZP O byref o s tm σ=none):Zbe O byref (o::os) s tm σ=none:=by simp only [Zbe,Zh9 h,Option.map_none]
theorem Zof {o:AOp} {os:List AOp} {s:Nat} {tm tm1:Tms} {σ σ1:Za} {x:AVal} {c:Cls} (h:ZP O byref o s tm σ=some (.pan x,tm1,σ1,c)):Zbe O byref (o::os) s tm σ=some (tm1,σ1,some x):=by simp only [Zbe,ZlI h,Option.map_some,Zq0]
theorem Zll {o:AOp} {os:List AOp} {s:Nat} {tm tm1:Tms} {σ σ1:Za} {v:AVal} {c:Cls} (h:ZP O byref o s tm σ=some (v,tm1,σ1,c)) (hn:ZaL v=false):Zbe O byref (o::os) s tm σ=Zbe O byref os (s+nsite o.ins) tm1 σ1:=by
 simp only [Zbe,Zt7 h hn,Option.map_map]
 rfl
theorem Zj3 {v:AVal} (h:ZaL v=true):∃ x,v=.pan x:=by
 cases v <;> first | exact ⟨_,rfl⟩ | (simp [ZaL] at h;done)
theorem Zkw {d:Option Nat} {i:Ins} {af:List Nat} {s:Nat} {tm:Tms} {σ:Za}:ZP O byref ⟨d,i,none,af⟩ s tm σ=(exI O byref i s tm σ).map fun q=>(q.1,tput tm d q.1,q.2.1,q.2.2):=by
 unfold ZP exI
 simp only [Zbw]
 split
 ·cases execI O byref tm σ s i with
  | none=>rfl
  | some q=>rfl
 ·rfl
theorem Zl6 (d:Option Nat) (i:Ins) (af:List Nat) (os:List AOp) (s:Nat) (tm:Tms) (σ:Za):Zbe O byref (⟨d,i,none,af⟩::os) s tm σ=kN O byref d os (s+nsite i) tm (exI O byref i s tm σ):=by
 cases h:exI O byref i s tm σ with
 | none=>exact ZkJ (by rw [Zkw,h];rfl)
 | some q =>
  obtain ⟨v,σ1,c⟩:=q
  have hs:ZP O byref ⟨d,i,none,af⟩ s tm σ=some (v,tput tm d v,σ1,c):=by rw [Zkw,h];rfl
  cases hp:ZaL v with
  | true =>
   obtain ⟨x,rfl⟩:=Zj3 hp
   exact Zof hs
  | false =>
   rw [Zll hs hp]
   simp only [kN,hp,Bool.false_eq_true,if_false]
theorem ZL9 (ops:List AOp) (live:List Nat) (tm:Tms) (σ:Za):ZbW O byref ops none live tm σ=ZjZ live (Zbe O byref ops σ.length tm (σ++List.replicate (sitesOf ops) .free)):=by
 unfold ZbW Zbe
 cases ZW O byref ops σ.length tm (σ++List.replicate (sitesOf ops) .free) with
 | none=>rfl
 | some q =>
  obtain ⟨tm',σ',cs,p⟩:=q
  cases p <;> rfl
theorem Zpo (d:Option Nat) (os:List AOp) (s:Nat) (tm:Tms) (v:AVal) (σ:Za) (c:Cls) (h:ZaL v=false):kN O byref d os s tm (some (v,σ,c))=Zbe O byref os s (tput tm d v) σ:=by
 simp only [kN,h,Bool.false_eq_true,if_false]
theorem ZKN (d:Option Nat) (os:List AOp) (s:Nat) (tm:Tms) (x:AVal) (σ:Za) (c:Cls):kN O byref d os s tm (some (.pan x,σ,c))=some (tput tm d (.pan x),σ,some x):=rfl
theorem ZFo (d:Option Nat) (os:List AOp) (s:Nat) (tm:Tms):kN O byref d os s tm none=none:=rfl
structure GOp where
 guard:Option (Nat×Bool)
 ops:List AOp
def Zaq:List AOp→Tms→Tms
 | [],tm=>tm
 | o::os,tm=>Zaq os (tput tm o.dst (.tup []))
def unG (o:AOp):AOp:={ o with guard:=none }
variable (O byref) in
def ZeG (j:Nat) (w:Bool) (g:List AOp) (s:Nat) (tm:Tms) (σ:Za):Option (Tms×Za×Option AVal):=match Zbw (some (j,w)) tm with
 | none=>none
 | some false=>some (Zaq g tm,σ,none)
 | some true=>Zbe O byref (g.map unG) s tm σ
variable (O byref) in
def gK (os:List AOp) (s:Nat):Option (Tms×Za×Option AVal)→Option (Tms×Za×Option AVal)
 | none=>none
 | some (tm,σ,some x)=>some (tm,σ,some x)
 | some (tm,σ,none)=>Zbe O byref os s tm σ
def ZE (j:Nat) (w:Bool):List AOp→List AOp×List AOp
 | []=>([],[])
 | o::os=>match o.guard with
  | some (j',w')=>if j'=j∧w'=w∧o.dst≠some j then ((o::(ZE j w os).1),(ZE j w os).2) else ([],o::os)
  | none=>([],o::os)
theorem Zpj (j:Nat) (w:Bool):∀ os,(ZE j w os).1++(ZE j w os).2=os
 | []=>rfl
 | o::os=>by
  simp only [ZE]
  split
  ·split
   ·simp [Zpj j w os]
   ·rfl
  ·rfl
theorem Zoi (j:Nat) (w:Bool):∀ os,∀ o ∈ (ZE j w os).1,o.guard=some (j,w)∧o.dst≠some j
 | []=>by simp [ZE]
 | o::os=>by
  intro o' ho
  simp only [ZE] at ho
  split at ho
  ·rename_i j' w' hg
   split at ho
   ·rename_i hc
    rcases List.mem_cons.1 ho with rfl | ho
    ·exact ⟨by rw [hg,hc.1,hc.2.1],hc.2.2⟩
    ·exact Zoi j w os o' ho
   ·simp at ho
  ·simp at ho
theorem ZGT {d:Option Nat} {v:AVal} {n:Nat} {tm:Tms} (h:d≠some n):tget (tput tm d v) n=tget tm n:=by
 cases d with
 | none=>rfl
 | some d =>
  have : d≠n:=by rintro rfl;exact h rfl
  simp only [tput,Zli,this,if_false]
theorem Zfs {d:Option Nat} {v:AVal} {j:Nat} {w:Bool} {tm:Tms} (h:d≠some j):Zbw (some (j,w)) (tput tm d v)=Zbw (some (j,w)) tm:=by
 simp only [Zbw,ZGT h]
theorem ZvE:∀ (a b:List AOp) (s:Nat) (tm:Tms) (σ:Za),Zbe O byref (a++b) s tm σ=gK O byref b (s+sitesOf a) (Zbe O byref a s tm σ)
 | [],b,s,tm,σ=>by simp [ZvM,gK,sitesOf]
 | o::a,b,s,tm,σ=>by
  have ih:=ZvE a b
  simp only [List.cons_append]
  have hs:s+nsite o.ins+sitesOf a=s+sitesOf (o::a):=by simp [sitesOf,Nat.add_assoc]
  cases hst:ZP O byref o s tm σ with
  | none=>rw [ZkJ hst,ZkJ hst];rfl
  | some q =>
   obtain ⟨v,tm1,σ1,c⟩:=q
   cases hp:ZaL v with
   | true =>
    obtain ⟨x,rfl⟩:=Zj3 hp
    rw [Zof hst,Zof hst];rfl
   | false=>rw [Zll hst hp,Zll hst hp,ih,hs]
theorem ZsY (j:Nat) (w:Bool):∀ (g:List AOp),(∀ o ∈ g,o.guard=some (j,w)∧o.dst≠some j)→∀ (s:Nat) (tm:Tms) (σ:Za),g≠[]→Zbe O byref g s tm σ=ZeG O byref j w g s tm σ
 | [],_,_,_,_,h=>absurd rfl h
 | o::g,hall,s,tm,σ,_=>by
  obtain ⟨hg,hd⟩:=hall o (by simp)
  have ih:∀ (tm:Tms) (σ:Za) (s:Nat),Zbw (some (j,w)) tm≠none→Zbe O byref g s tm σ=ZeG O byref j w g s tm σ:=by
   intro tm σ s hw
   by_cases he:g=[]
   ·subst he
    unfold ZeG
    cases hx:Zbw (some (j,w)) tm with
    | none=>exact absurd hx hw
    | some b=>cases b <;> rfl
   ·exact ZsY j w g (fun o ho=>hall o (by simp [ho])) s tm σ he
  cases hx:Zbw (some (j,w)) tm with
  | none =>
   rw [ZkJ (by simp only [ZP,hg,hx])]
   simp only [ZeG,hx]
  | some b =>
   cases b with
   | false =>
    have h1:Zbe O byref (o::g) s tm σ=Zbe O byref g (s+nsite o.ins) (tput tm o.dst (.tup [])) σ :=
     Zll (v:=.tup []) (c:={}) (by simp only [ZP,hg,hx]) rfl
    rw [h1,ih _ _ _ (by rw [Zfs hd,hx];simp)]
    unfold ZeG
    rw [Zfs hd,hx]
    rfl
   | true =>
    have key:∀ r:Option (AVal×Za×Cls),(∀ v σ' c,r=some (v,σ',c)→ZaL v=false→Zbe O byref g (s+nsite o.ins) (tput tm o.dst v) σ'=Zbe O byref (g.map unG) (s+nsite o.ins) (tput tm o.dst v) σ')→kN O byref o.dst g (s+nsite o.ins) tm r=kN O byref o.dst (g.map unG) (s+nsite o.ins) tm r:=by
     intro r hr
     cases r with
     | none=>rfl
     | some q =>
      obtain ⟨v,σ',c⟩:=q
      cases hp:ZaL v with
      | true=>simp only [kN,hp,if_true]
      | false=>rw [Zpo _ _ _ _ _ _ _ hp,Zpo _ _ _ _ _ _ _ hp];exact hr v σ' c rfl hp
    have h1:Zbe O byref (o::g) s tm σ=kN O byref o.dst g (s+nsite o.ins) tm (exI O byref o.ins s tm σ):=by
     have h0:Zbe O byref (o::g) s tm σ=Zbe O byref (⟨o.dst,o.ins,none,o.after⟩::g) s tm σ:=by
      have hst:ZP O byref o s tm σ=ZP O byref ⟨o.dst,o.ins,none,o.after⟩ s tm σ:=by
       unfold ZP
       simp only [hg,hx]
       rfl
      unfold Zbe
      simp only [ZW,hst]
     rw [h0,Zl6]
    rw [h1]
    unfold ZeG
    rw [hx]
    simp only [List.map_cons]
    rw [show unG o=⟨o.dst,o.ins,none,o.after⟩ from rfl,Zl6]
    refine key _ fun v σ' c _ _=>?_
    rw [ih _ _ _ (by rw [Zfs hd,hx];simp)]
    unfold ZeG
    rw [Zfs hd,hx]
theorem ZIt (d:Option Nat) (i:Ins) (j:Nat) (w:Bool) (af:List Nat) (os:List AOp) (s:Nat) (tm:Tms) (σ:Za) (hd:decide (d=some j)=false) :
  Zbe O byref (⟨d,i,some (j,w),af⟩::os) s tm σ=gK O byref (ZE j w os).2 (s+sitesOf (⟨d,i,some (j,w),af⟩::(ZE j w os).1)) (ZeG O byref j w (⟨d,i,some (j,w),af⟩::(ZE j w os).1) s tm σ):=by
 have h:=Zpj j w os
 have hall:∀ o ∈ (⟨d,i,some (j,w),af⟩::(ZE j w os).1:List AOp),o.guard=some (j,w)∧o.dst≠some j:=by
  intro o ho
  rcases List.mem_cons.1 ho with rfl | ho
  ·exact ⟨rfl,by simpa using hd⟩
  ·exact Zoi j w os o ho
 rw [←ZsY j w _ hall s tm σ (by simp),←ZvE,List.cons_append,h]
variable (O byref) in
def gW (w:Bool) (g:List AOp) (s:Nat) (tm:Tms) (σ:Za):AVal→Option (Tms×Za×Option AVal)
 | .bool b=>if b=w then Zbe O byref (g.map unG) s tm σ else some (Zaq g tm,σ,none)
 | .tup []=>some (Zaq g tm,σ,none)
 | _=>none
theorem ZyD (j:Nat) (w:Bool) (g:List AOp) (s:Nat) (tm:Tms) (σ:Za):ZeG O byref j w g s tm σ=gW O byref w g s tm σ (tget tm j):=by
 unfold ZeG Zbw
 simp only
 generalize tget tm j=v
 cases v
 case bool b=>cases b <;> cases w <;> rfl
 case tup vs=>cases vs <;> rfl
 all_goals rfl
theorem ZDO (w:Bool) (g:List AOp) (s:Nat) (tm:Tms) (σ:Za) (b:Bool):gW O byref w g s tm σ (.bool b)=if b=w then Zbe O byref (g.map unG) s tm σ else some (Zaq g tm,σ,none):=rfl
theorem Zyt (w:Bool) (g:List AOp) (s:Nat) (tm:Tms) (σ:Za):gW O byref w g s tm σ (.tup [])=some (Zaq g tm,σ,none):=rfl
theorem ZMS (os:List AOp) (s:Nat) (tm:Tms) (σ:Za):gK O byref os s (some (tm,σ,none))=Zbe O byref os s tm σ:=rfl
end
section
variable (c:Prop) [Decidable c]
theorem Zc5 {α:Type} (a b:α) (x y:List α):(if c then a::x else b::y)=(if c then a else b)::(if c then x else y):=by split <;> rfl
theorem ZLy (k:IntKind) (a b:Int):(if c then AVal.int k a else AVal.int k b)=AVal.int k (if c then a else b):=by split <;> rfl
theorem ZKk (a b:Bool):(if c then AVal.bool a else AVal.bool b)=AVal.bool (if c then a else b):=by split <;> rfl
theorem ZvT (a b:List UInt8):(if c then AVal.str a else AVal.str b)=AVal.str (if c then a else b):=by split <;> rfl
theorem ZEW (p q:Bool) (a b:List AVal):(if c then AVal.lst p a else AVal.lst q b)=AVal.lst (if c then p else q) (if c then a else b):=by split <;> rfl
theorem ZFK (a b:List AVal):(if c then AVal.agg a else AVal.agg b)=AVal.agg (if c then a else b):=by split <;> rfl
theorem ZIN (a b:List AVal):(if c then ZK.var a else ZK.var b)=ZK.var (if c then a else b):=by split <;> rfl
theorem ZFx (g k:Nat) (a b:List AVal):(if c then ZK.row g k a else ZK.row g k b)=ZK.row g k (if c then a else b):=by split <;> rfl
theorem ZMy (t:Nat) (a b:Nat):(if c then AVal.ref t a else AVal.ref t b)=AVal.ref t (if c then a else b):=by split <;> rfl
theorem Zlx {α:Type} (x y z:α):(if c then (if c then x else y) else z)=if c then x else z:=by split <;> rfl
theorem Zvl {α:Type} (x y z:α):(if c then x else (if c then y else z))=if c then x else z:=by split <;> rfl
theorem ZE3 (σ:Za) (a b:AVal) (p:Bool):Zfu σ a b (.bool p)=some (if p=true then a else b,σ,{}):=by cases p <;> rfl
theorem ZJI (a b:AVal):ZaL (if c then a else b)=if c then ZaL a else ZaL b:=by split <;> rfl
end
section
variable {fs:Nat→Option ZD} {prim:Zcm} {byref:Nat→Bool} {m0:Nat}
theorem ZAa (p:Bool) (a b:Ze) (tm:Tms) (σ:Za):ZhZ fs prim byref m0 a b tm σ (.bool p)=if p=true then evC fs prim byref m0 a tm σ else evC fs prim byref m0 b tm σ:=by
 cases p <;> rfl
theorem ZIW (b:Ze) (tm:Tms) (σ:Za):ZbE fs prim byref m0 b (some (.normal,tm,σ))=evC fs prim byref m0 b tm σ:=rfl
theorem ZIY (b:Ze) (i:Nat) (tm:Tms) (σ:Za):ZbE fs prim byref m0 b (some (.exit i,tm,σ))=some (.exit i,tm,σ):=rfl
theorem Zyi (b:Ze) (tm:Tms) (σ:Za):ZbE fs prim byref m0 b (some (.ret,tm,σ))=some (.ret,tm,σ):=rfl
theorem ZNO (b:Ze) (x:AVal) (tm:Tms) (σ:Za):ZbE fs prim byref m0 b (some (.panic x,tm,σ))=some (.panic x,tm,σ):=rfl
theorem ZNJ (c:Prop) [Decidable c] (b:Ze) (x y:Option (ZaQ×Tms×Za)):ZbE fs prim byref m0 b (if c then x else y)=if c then ZbE fs prim byref m0 b x else ZbE fs prim byref m0 b y:=by split <;> rfl
theorem ZI2 (id:Nat) (tm:Tms) (σ:Za):Option.map (ZaW id) (some (.normal,tm,σ))=some (.normal,tm,σ):=rfl
theorem ZBL (id i:Nat) (tm:Tms) (σ:Za):Option.map (ZaW id) (some (.exit i,tm,σ))=if i=id then some (.normal,tm,σ) else some (.exit i,tm,σ):=by
 simp only [Option.map_some,ZaW];split <;> rfl
theorem ZE0 (id:Nat) (tm:Tms) (σ:Za):Option.map (ZaW id) (some (.ret,tm,σ))=some (.ret,tm,σ):=rfl
theorem Zy7 (id:Nat) (x:AVal) (tm:Tms) (σ:Za):Option.map (ZaW id) (some (.panic x,tm,σ))=some (.panic x,tm,σ):=rfl
theorem ZAY (id:Nat) (c:Prop) [Decidable c] (x y:Option (ZaQ×Tms×Za)):Option.map (ZaW id) (if c then x else y)=if c then Option.map (ZaW id) x else Option.map (ZaW id) y:=by split <;> rfl
theorem ZMq (m:Nat) (fn:ZD) (c:Prop) [Decidable c] (x y:Option (ZaQ×Tms×Za)):Zan m fn (if c then x else y)=if c then Zan m fn x else Zan m fn y:=by split <;> rfl
end
section
variable {fs:Nat→Option ZD} {prim:Zcm} {byref:Nat→Bool} {m0:Nat}
theorem ZDB {live:List Nat} {c:Ze} {tm tm':Tms} {σ σ':Za} (h:evC fs prim byref m0 c tm σ=some (.normal,tm',σ')):evL fs prim byref m0 live c tm σ=evL fs prim byref m0 live c (gcT m0 (keepL live tm') σ').1 (gcT m0 (keepL live tm') σ').2:=by
 unfold evL
 rw [h]
 simp only
 rw [ZsI]
 rfl
theorem ZCm {live:List Nat} {c:Ze} {tm tm':Tms} {σ σ':Za} {i:Nat} (h:evC fs prim byref m0 c tm σ=some (.exit i,tm',σ')):evL fs prim byref m0 live c tm σ=some (.exit i,tm',σ'):=by
 unfold evL;rw [h]
theorem ZKX {live:List Nat} {c:Ze} {tm tm':Tms} {σ σ':Za} (h:evC fs prim byref m0 c tm σ=some (.ret,tm',σ')):evL fs prim byref m0 live c tm σ=some (.ret,tm',σ'):=by
 unfold evL;rw [h]
variable (fs prim byref m0) in
noncomputable def evM (live:List Nat) (c:Ze):Option (ZaQ×Tms×Za)→Option (ZaQ×Tms×Za)
 | some (.normal,tm,σ)=>evL fs prim byref m0 live c (gcT m0 (keepL live tm) σ).1 (gcT m0 (keepL live tm) σ).2
 | r=>r
theorem Z5 (live:List Nat) (c:Ze) (tm:Tms) (σ:Za):evL fs prim byref m0 live c tm σ=evM fs prim byref m0 live c (evC fs prim byref m0 c tm σ):=by
 cases h:evC fs prim byref m0 c tm σ with
 | none=>unfold evL;rw [h];rfl
 | some q =>
  obtain ⟨e,tm',σ'⟩:=q
  cases e with
  | normal=>exact ZDB h
  | exit i=>exact ZCm h
  | ret=>exact ZKX h
  | panic x=>unfold evL;rw [h];rfl
theorem Zv9 (live:List Nat) (c:Ze) (tm:Tms) (σ:Za):evM fs prim byref m0 live c (some (.normal,tm,σ))=evL fs prim byref m0 live c (gcT m0 (keepL live tm) σ).1 (gcT m0 (keepL live tm) σ).2:=rfl
theorem Zwj (live:List Nat) (c:Ze) (i:Nat) (tm:Tms) (σ:Za):evM fs prim byref m0 live c (some (.exit i,tm,σ))=some (.exit i,tm,σ):=rfl
theorem ZL2 (live:List Nat) (c:Ze) (tm:Tms) (σ:Za):evM fs prim byref m0 live c (some (.ret,tm,σ))=some (.ret,tm,σ):=rfl
theorem ZKT (live:List Nat) (c:Ze) (x:AVal) (tm:Tms) (σ:Za):evM fs prim byref m0 live c (some (.panic x,tm,σ))=some (.panic x,tm,σ):=rfl
theorem ZCf (live:List Nat) (b:Ze) (c:Prop) [Decidable c] (x y:Option (ZaQ×Tms×Za)):evM fs prim byref m0 live b (if c then x else y)=if c then evM fs prim byref m0 live b x else evM fs prim byref m0 live b y:=by split <;> rfl
end
def Za3:AVal→Bool
 | .int _ _=>true
 | .bool _=>true
 | .str _=>true
 | .nilp=>true
 | .nilm=>true
 | .nili=>true
 | .lst _ _=>true
 | .fn _ []=>true
 | _=>false
def Zab:AVal→Bool
 | .agg cs=>cs.all Za3
 | x=>Za3 x
def Zba:AVal→AVal
 | .lst _ xs=>.lst false xs
 | x=>x
def ZG:AVal→AVal
 | .agg cs=>.agg (cs.map Zba)
 | x=>Zba x
theorem Zto {σ:Za} {x:AVal} (h:Za3 x=true):ZcH σ x=some (Zba x,[]):=by
 cases x <;> first | (simp [Za3] at h;done) | rfl
theorem ZqW {σ:Za}:∀ {xs:List AVal},xs.all Za3=true→Zcu σ xs=some (xs.map Zba,[])
 | [],_=>rfl
 | x::xs,h=>by
  simp only [List.all_cons,Bool.and_eq_true] at h
  simp only [Zcu,Zto h.1,ZqW h.2,List.map_cons,List.append_nil]
theorem Zg8 {x:AVal} (h:∀ cs,x≠.agg cs):Zab x=Za3 x∧ZG x=Zba x:=by
 cases x <;> first | exact ⟨rfl,rfl⟩ | exact absurd rfl (h _)
theorem ZJs {σ:Za} {x:AVal} (h:∀ cs,x≠.agg cs):showA σ x=ZcH σ x:=by
 cases x <;> first | rfl | exact absurd rfl (h _)
theorem ZoE (x:AVal):(∃ cs,x=.agg cs)∨∀ cs,x≠.agg cs:=by
 cases x <;> first | exact Or.inl ⟨_,rfl⟩ | (right;intro cs;simp)
theorem ZCu {σ:Za} {x:AVal} (h:Zab x=true):showA σ x=some (ZG x,[]):=by
 rcases ZoE x with ⟨cs,rfl⟩ | hn
 ·simp only [Zab] at h
  simp only [showA,ZqW h,ZG]
 ·rw [(Zg8 hn).1] at h
  rw [ZJs hn,(Zg8 hn).2]
  exact Zto h
theorem Zd1 {σ:Za}:∀ {xs:List AVal},xs.all Zab=true→showAs σ xs=some (xs.map ZG,[])
 | [],_=>rfl
 | x::xs,h=>by
  simp only [List.all_cons,Bool.and_eq_true] at h
  simp only [showAs,ZCu h.1,Zd1 h.2,List.map_cons,List.append_nil]
theorem ZsD {x:AVal} (h:Za3 x=true):ZX (Zba x)=[]:=by
 cases x
 case fn f cs=>cases cs <;> simp [Za3] at h;rfl
 all_goals first | (simp [Za3] at h;done) | rfl
theorem Zs2:∀ {xs:List AVal},xs.all Za3=true→Zr (xs.map Zba)=[]
 | [],_=>rfl
 | x::xs,h=>by
  simp only [List.all_cons,Bool.and_eq_true] at h
  simp only [List.map_cons,Zr,ZsD h.1,Zs2 h.2,List.append_nil]
theorem Zr8 {x:AVal} (h:Zab x=true):ZX (ZG x)=[]:=by
 rcases ZoE x with ⟨cs,rfl⟩ | hn
 ·simp only [Zab] at h
  simp only [ZG,ZX];exact Zs2 h
 ·rw [(Zg8 hn).1] at h
  rw [(Zg8 hn).2];exact ZsD h
theorem Zdg:∀ {xs:List AVal},xs.all Zab=true→Zr (xs.map ZG)=[]
 | [],_=>rfl
 | x::xs,h=>by
  simp only [List.all_cons,Bool.and_eq_true] at h
  simp only [List.map_cons,Zr,Zr8 h.1,Zdg h.2,List.append_nil]
theorem Zr2 {ρ:Rho} {x:AVal} (h:Za3 x=true):Zk ρ (Zba x)=Zba x:=by
 cases x
 case fn f cs=>cases cs <;> simp [Za3] at h;rfl
 all_goals first | (simp [Za3] at h;done) | rfl
theorem Zu8 {ρ:Rho}:∀ {xs:List AVal},xs.all Za3=true→Zf ρ (xs.map Zba)=xs.map Zba
 | [],_=>rfl
 | x::xs,h=>by
  simp only [List.all_cons,Bool.and_eq_true] at h
  simp only [List.map_cons,Zf,Zr2 h.1,Zu8 h.2]
theorem Zuu {ρ:Rho} {x:AVal} (h:Zab x=true):Zk ρ (ZG x)=ZG x:=by
 rcases ZoE x with ⟨cs,rfl⟩ | hn
 ·simp only [Zab] at h
  simp only [ZG,Zk];rw [Zu8 h]
 ·rw [(Zg8 hn).1] at h
  rw [(Zg8 hn).2];exact Zr2 h
theorem Zdf {ρ:Rho}:∀ {xs:List AVal},xs.all Zab=true→Zf ρ (xs.map ZG)=xs.map ZG
 | [],_=>rfl
 | x::xs,h=>by
  simp only [List.all_cons,Bool.and_eq_true] at h
  simp only [List.map_cons,Zf,Zuu h.1,Zdf h.2]
theorem ZgA {O:ZO} {byref:Nat→Bool} {σ:Za} {site f own:Nat} {view:Bool} {args:List AVal} (hb:byref f=false) (h:args.all Zab=true) :
  Zj O byref σ site f own view args=ZaC σ σ [] [] site own (Zad view 0 (O f (args.map ZG) [])):=by
 unfold Zj ZbV
 rw [hb]
 simp only [Bool.false_eq_true,if_false,Zd1 h]
 have h1:Zq σ []=σ:=rfl
 rw [h1,Zdg h]
 have h2:Zz σ 1000 [] []=[]:=rfl
 rw [h2]
 unfold ZbB
 simp only [List.all_nil,if_true,Zdf h,Zv,List.length_nil]
theorem ZiX (σ:Za) (site own:Nat) (r:AVal) (h:Zk (ZaA [] [] site) r=r):ZaC σ σ [] [] site own (some (r,[]))=some (r,σ,{}):=by
 simp only [ZaC,List.isEmpty_nil,Bool.and_self,if_true,Zdk,Bool.not_true,Bool.false_and,Bool.false_eq_true,if_false]
 split
 ·rfl
 ·rw [h]
end Go.Proofs.YtmlkhhidifjjfaaDoor
namespace Go.Proofs.YtmlkhhidifjjfaaDoor
section
variable (ρ:Rho) (σ:Za)
theorem ZMb  : ZaL (.top)=false:=rfl
theorem ZGG  : ZaL (.any)=false:=rfl
theorem ZFC (k:IntKind) (n:Int):ZaL (.int k n)=false:=rfl
theorem ZMI (b:Bool):ZaL (.bool b)=false:=rfl
theorem ZL1 (l:List UInt8):ZaL (.str l)=false:=rfl
theorem ZzO  : ZaL (.nilp)=false:=rfl
theorem ZJN (t:Nat) (o:Nat):ZaL (.ref t o)=false:=rfl
theorem Zyp (t:Nat) (g:Nat) (i:Nat) (o:Nat):ZaL (.eref t g i o)=false:=rfl
theorem ZyG (cs:List AVal) (o:Nat):ZaL (.iptr cs o)=false:=rfl
theorem ZOd (x:Bool) (xs:List AVal):ZaL (.lst x xs)=false:=rfl
theorem ZvY (t:Nat) (g:Nat) (lo:Nat) (n:Nat):ZaL (.sl t g lo n)=false:=rfl
theorem ZNb (cs:List AVal):ZaL (.agg cs)=false:=rfl
theorem ZKa (vs:List AVal):ZaL (.tup vs)=false:=rfl
theorem ZHN (f:Nat) (caps:List AVal):ZaL (.fn f caps)=false:=rfl
theorem ZAT  : ZaL (.nilm)=false:=rfl
theorem ZxM (t:Nat):ZaL (.map t)=false:=rfl
theorem ZCk  : ZaL (.nili)=false:=rfl
theorem ZBJ (t:Nat) (x:AVal):ZaL (.iface t x)=false:=rfl
theorem ZOF (x:AVal):ZaL (.pan x)=true:=rfl
theorem ZNi  : ZT (.top)=false:=rfl
theorem ZMc  : ZT (.any)=true:=rfl
theorem ZJw (k:IntKind) (n:Int):ZT (.int k n)=true:=rfl
theorem ZHB (b:Bool):ZT (.bool b)=true:=rfl
theorem ZER (l:List UInt8):ZT (.str l)=true:=rfl
theorem ZMY  : ZT (.nilp)=true:=rfl
theorem Zwe (t:Nat) (o:Nat):ZT (.ref t o)=true:=rfl
theorem Zw1 (t:Nat) (g:Nat) (i:Nat) (o:Nat):ZT (.eref t g i o)=true:=rfl
theorem ZE2 (cs:List AVal) (o:Nat):ZT (.iptr cs o)=true:=rfl
theorem ZOg (x:Bool) (xs:List AVal):ZT (.lst x xs)=true:=rfl
theorem ZD7 (t:Nat) (g:Nat) (lo:Nat) (n:Nat):ZT (.sl t g lo n)=true:=rfl
theorem ZBP (cs:List AVal):ZT (.agg cs)=false:=rfl
theorem ZA8 (vs:List AVal):ZT (.tup vs)=false:=rfl
theorem Zx5 (f:Nat) (caps:List AVal):ZT (.fn f caps)=true:=rfl
theorem ZHn  : ZT (.nilm)=true:=rfl
theorem ZJM (t:Nat):ZT (.map t)=true:=rfl
theorem ZyZ  : ZT (.nili)=true:=rfl
theorem ZID (t:Nat) (x:AVal):ZT (.iface t x)=true:=rfl
theorem ZMA (x:AVal):ZT (.pan x)=false:=rfl
theorem ZxW  : Zbd (.top)=false:=rfl
theorem ZFc  : Zbd (.any)=true:=rfl
theorem ZI4 (k:IntKind) (n:Int):Zbd (.int k n)=true:=rfl
theorem ZOe (b:Bool):Zbd (.bool b)=true:=rfl
theorem ZAv (l:List UInt8):Zbd (.str l)=true:=rfl
theorem ZCW  : Zbd (.nilp)=true:=rfl
theorem ZC2 (t:Nat) (o:Nat):Zbd (.ref t o)=true:=rfl
theorem ZJo (t:Nat) (g:Nat) (i:Nat) (o:Nat):Zbd (.eref t g i o)=true:=rfl
theorem ZMT (cs:List AVal) (o:Nat):Zbd (.iptr cs o)=true:=rfl
theorem ZHF (x:Bool) (xs:List AVal):Zbd (.lst x xs)=true:=rfl
theorem ZK2 (t:Nat) (g:Nat) (lo:Nat) (n:Nat):Zbd (.sl t g lo n)=true:=rfl
theorem Zxp (cs:List AVal):Zbd (.agg cs)=true:=rfl
theorem ZML (vs:List AVal):Zbd (.tup vs)=true:=rfl
theorem ZMK (f:Nat) (caps:List AVal):Zbd (.fn f caps)=true:=rfl
theorem ZHI  : Zbd (.nilm)=true:=rfl
theorem ZGp (t:Nat):Zbd (.map t)=true:=rfl
theorem ZzJ  : Zbd (.nili)=true:=rfl
theorem ZIc (t:Nat) (x:AVal):Zbd (.iface t x)=true:=rfl
theorem ZJU (x:AVal):Zbd (.pan x)=true:=rfl
theorem ZvW  : ZaT (.top)=false:=rfl
theorem ZLv  : ZaT (.any)=false:=rfl
theorem Zwi (k:IntKind) (n:Int):ZaT (.int k n)=true:=rfl
theorem ZBF (b:Bool):ZaT (.bool b)=true:=rfl
theorem ZCE (l:List UInt8):ZaT (.str l)=true:=rfl
theorem ZNc  : ZaT (.nilp)=true:=rfl
theorem Zxk (t:Nat) (o:Nat):ZaT (.ref t o)=false:=rfl
theorem ZGO (t:Nat) (g:Nat) (i:Nat) (o:Nat):ZaT (.eref t g i o)=false:=rfl
theorem ZAP (cs:List AVal) (o:Nat):ZaT (.iptr cs o)=false:=rfl
theorem ZAW (x:Bool) (xs:List AVal):ZaT (.lst x xs)=false:=rfl
theorem ZFJ (t:Nat) (g:Nat) (lo:Nat) (n:Nat):ZaT (.sl t g lo n)=false:=rfl
theorem ZLe (cs:List AVal):ZaT (.agg cs)=false:=rfl
theorem ZLi (vs:List AVal):ZaT (.tup vs)=false:=rfl
theorem ZKE (f:Nat) (caps:List AVal):ZaT (.fn f caps)=false:=rfl
theorem ZI6  : ZaT (.nilm)=true:=rfl
theorem ZMs (t:Nat):ZaT (.map t)=false:=rfl
theorem ZCv  : ZaT (.nili)=true:=rfl
theorem ZyJ (t:Nat) (x:AVal):ZaT (.iface t x)=false:=rfl
theorem ZHE (x:AVal):ZaT (.pan x)=false:=rfl
theorem ZC8  : Zbp (.top)=false:=rfl
theorem ZCM  : Zbp (.any)=false:=rfl
theorem ZxZ (k:IntKind) (n:Int):Zbp (.int k n)=true:=rfl
theorem ZEp (b:Bool):Zbp (.bool b)=true:=rfl
theorem ZMf (l:List UInt8):Zbp (.str l)=true:=rfl
theorem ZyQ  : Zbp (.nilp)=true:=rfl
theorem ZKZ (t:Nat) (o:Nat):Zbp (.ref t o)=false:=rfl
theorem ZOf (t:Nat) (g:Nat) (i:Nat) (o:Nat):Zbp (.eref t g i o)=false:=rfl
theorem ZGE (cs:List AVal) (o:Nat):Zbp (.iptr cs o)=false:=rfl
theorem ZwO (x:Bool) (xs:List AVal):Zbp (.lst x xs)=false:=rfl
theorem ZL0 (t:Nat) (g:Nat) (lo:Nat) (n:Nat):Zbp (.sl t g lo n)=false:=rfl
theorem ZLc (cs:List AVal):Zbp (.agg cs)=cs.all ZaT:=rfl
theorem ZIp (vs:List AVal):Zbp (.tup vs)=false:=rfl
theorem ZLB (f:Nat) (caps:List AVal):Zbp (.fn f caps)=false:=rfl
theorem ZDv  : Zbp (.nilm)=true:=rfl
theorem ZHt (t:Nat):Zbp (.map t)=false:=rfl
theorem ZFb  : Zbp (.nili)=true:=rfl
theorem ZyB (t:Nat) (x:AVal):Zbp (.iface t x)=false:=rfl
theorem ZAS (x:AVal):Zbp (.pan x)=false:=rfl
theorem ZvP  : ZbA (.top)=false:=rfl
theorem ZNG  : ZbA (.any)=false:=rfl
theorem ZzG (k:IntKind) (n:Int):ZbA (.int k n)=true:=rfl
theorem ZMX (b:Bool):ZbA (.bool b)=true:=rfl
theorem ZJm (l:List UInt8):ZbA (.str l)=true:=rfl
theorem ZJt  : ZbA (.nilp)=true:=rfl
theorem ZFl (t:Nat) (o:Nat):ZbA (.ref t o)=false:=rfl
theorem ZMd (t:Nat) (g:Nat) (i:Nat) (o:Nat):ZbA (.eref t g i o)=false:=rfl
theorem ZNV (cs:List AVal) (o:Nat):ZbA (.iptr cs o)=false:=rfl
theorem ZOB (x:Bool) (xs:List AVal):ZbA (.lst x xs)=false:=rfl
theorem Zx6 (t:Nat) (g:Nat) (lo:Nat) (n:Nat):ZbA (.sl t g lo n)=false:=rfl
theorem ZOC (cs:List AVal):ZbA (.agg cs)=cs.all ZaT:=rfl
theorem ZGI (vs:List AVal):ZbA (.tup vs)=vs.all Zbp:=rfl
theorem ZBD (f:Nat) (caps:List AVal):ZbA (.fn f caps)=false:=rfl
theorem ZHT  : ZbA (.nilm)=true:=rfl
theorem ZOq (t:Nat):ZbA (.map t)=false:=rfl
theorem ZHP  : ZbA (.nili)=true:=rfl
theorem ZMg (t:Nat) (x:AVal):ZbA (.iface t x)=false:=rfl
theorem ZNy  : Za3 (.top)=false:=rfl
theorem Zw9  : Za3 (.any)=false:=rfl
theorem Ztb (k:IntKind) (n:Int):Za3 (.int k n)=true:=rfl
theorem ZFu (b:Bool):Za3 (.bool b)=true:=rfl
theorem ZsX (l:List UInt8):Za3 (.str l)=true:=rfl
theorem ZE5  : Za3 (.nilp)=true:=rfl
theorem ZMw (t:Nat) (o:Nat):Za3 (.ref t o)=false:=rfl
theorem ZNA (t:Nat) (g:Nat) (i:Nat) (o:Nat):Za3 (.eref t g i o)=false:=rfl
theorem Zzc (cs:List AVal) (o:Nat):Za3 (.iptr cs o)=false:=rfl
theorem ZrD (x:Bool) (xs:List AVal):Za3 (.lst x xs)=true:=rfl
theorem ZG6 (t:Nat) (g:Nat) (lo:Nat) (n:Nat):Za3 (.sl t g lo n)=false:=rfl
theorem ZLk (cs:List AVal):Za3 (.agg cs)=false:=rfl
theorem Zwv (vs:List AVal):Za3 (.tup vs)=false:=rfl
theorem Zx2  : Za3 (.nilm)=true:=rfl
theorem ZBX (t:Nat):Za3 (.map t)=false:=rfl
theorem ZNq  : Za3 (.nili)=true:=rfl
theorem ZOk (t:Nat) (x:AVal):Za3 (.iface t x)=false:=rfl
theorem ZHz (x:AVal):Za3 (.pan x)=false:=rfl
theorem ZJp  : Zab (.top)=false:=rfl
theorem Zxw  : Zab (.any)=false:=rfl
theorem ZH6 (k:IntKind) (n:Int):Zab (.int k n)=true:=rfl
theorem ZNg (b:Bool):Zab (.bool b)=true:=rfl
theorem ZCX (l:List UInt8):Zab (.str l)=true:=rfl
theorem ZOx  : Zab (.nilp)=true:=rfl
theorem ZAK (t:Nat) (o:Nat):Zab (.ref t o)=false:=rfl
theorem ZLI (t:Nat) (g:Nat) (i:Nat) (o:Nat):Zab (.eref t g i o)=false:=rfl
theorem ZN5 (cs:List AVal) (o:Nat):Zab (.iptr cs o)=false:=rfl
theorem ZLn (x:Bool) (xs:List AVal):Zab (.lst x xs)=true:=rfl
theorem Zy3 (t:Nat) (g:Nat) (lo:Nat) (n:Nat):Zab (.sl t g lo n)=false:=rfl
theorem Zuq (cs:List AVal):Zab (.agg cs)=cs.all Za3:=rfl
theorem ZGX (vs:List AVal):Zab (.tup vs)=false:=rfl
theorem ZCh  : Zab (.nilm)=true:=rfl
theorem ZJ5 (t:Nat):Zab (.map t)=false:=rfl
theorem ZMj  : Zab (.nili)=true:=rfl
theorem ZxG (t:Nat) (x:AVal):Zab (.iface t x)=false:=rfl
theorem Zxu (x:AVal):Zab (.pan x)=false:=rfl
theorem ZwM  : Zba (.top)=(.top):=rfl
theorem ZFh  : Zba (.any)=(.any):=rfl
theorem Zsl (k:IntKind) (n:Int):Zba (.int k n)=(.int k n):=rfl
theorem ZK5 (b:Bool):Zba (.bool b)=(.bool b):=rfl
theorem ZrS (l:List UInt8):Zba (.str l)=(.str l):=rfl
theorem Zzz  : Zba (.nilp)=(.nilp):=rfl
theorem Zyd (t:Nat) (o:Nat):Zba (.ref t o)=(.ref t o):=rfl
theorem Zyl (t:Nat) (g:Nat) (i:Nat) (o:Nat):Zba (.eref t g i o)=(.eref t g i o):=rfl
theorem ZLD (cs:List AVal) (o:Nat):Zba (.iptr cs o)=(.iptr cs o):=rfl
theorem ZtG (x:Bool) (xs:List AVal):Zba (.lst x xs)=.lst false xs:=rfl
theorem ZDy (t:Nat) (g:Nat) (lo:Nat) (n:Nat):Zba (.sl t g lo n)=(.sl t g lo n):=rfl
theorem ZBh (cs:List AVal):Zba (.agg cs)=(.agg cs):=rfl
theorem ZF9 (vs:List AVal):Zba (.tup vs)=(.tup vs):=rfl
theorem ZBK (f:Nat) (caps:List AVal):Zba (.fn f caps)=(.fn f caps):=rfl
theorem ZHH  : Zba (.nilm)=(.nilm):=rfl
theorem ZxY (t:Nat):Zba (.map t)=(.map t):=rfl
theorem ZAu  : Zba (.nili)=(.nili):=rfl
theorem ZKu (t:Nat) (x:AVal):Zba (.iface t x)=(.iface t x):=rfl
theorem ZJQ (x:AVal):Zba (.pan x)=(.pan x):=rfl
theorem ZvU  : ZG (.top)=(.top):=rfl
theorem ZLM  : ZG (.any)=(.any):=rfl
theorem ZJR (k:IntKind) (n:Int):ZG (.int k n)=(.int k n):=rfl
theorem ZKP (b:Bool):ZG (.bool b)=(.bool b):=rfl
theorem ZLT (l:List UInt8):ZG (.str l)=(.str l):=rfl
theorem ZLR  : ZG (.nilp)=(.nilp):=rfl
theorem ZA7 (t:Nat) (o:Nat):ZG (.ref t o)=(.ref t o):=rfl
theorem Zz4 (t:Nat) (g:Nat) (i:Nat) (o:Nat):ZG (.eref t g i o)=(.eref t g i o):=rfl
theorem ZC5 (cs:List AVal) (o:Nat):ZG (.iptr cs o)=(.iptr cs o):=rfl
theorem ZwU (x:Bool) (xs:List AVal):ZG (.lst x xs)=.lst false xs:=rfl
theorem ZMr (t:Nat) (g:Nat) (lo:Nat) (n:Nat):ZG (.sl t g lo n)=(.sl t g lo n):=rfl
theorem Zqz (cs:List AVal):ZG (.agg cs)=.agg (cs.map Zba):=rfl
theorem ZKn (vs:List AVal):ZG (.tup vs)=(.tup vs):=rfl
theorem ZHU (f:Nat) (caps:List AVal):ZG (.fn f caps)=(.fn f caps):=rfl
theorem Zwk  : ZG (.nilm)=(.nilm):=rfl
theorem ZNI (t:Nat):ZG (.map t)=(.map t):=rfl
theorem ZyL  : ZG (.nili)=(.nili):=rfl
theorem ZKp (t:Nat) (x:AVal):ZG (.iface t x)=(.iface t x):=rfl
theorem ZDw (x:AVal):ZG (.pan x)=(.pan x):=rfl
theorem ZFZ  : AVal.cells (.top)=[(.top)]:=rfl
theorem Zyr  : AVal.cells (.any)=[(.any)]:=rfl
theorem ZEa (k:IntKind) (n:Int):AVal.cells (.int k n)=[(.int k n)]:=rfl
theorem ZDL (b:Bool):AVal.cells (.bool b)=[(.bool b)]:=rfl
theorem ZIA (l:List UInt8):AVal.cells (.str l)=[(.str l)]:=rfl
theorem ZCP  : AVal.cells (.nilp)=[(.nilp)]:=rfl
theorem ZwB (t:Nat) (o:Nat):AVal.cells (.ref t o)=[(.ref t o)]:=rfl
theorem ZEd (t:Nat) (g:Nat) (i:Nat) (o:Nat):AVal.cells (.eref t g i o)=[(.eref t g i o)]:=rfl
theorem ZCJ (cs:List AVal) (o:Nat):AVal.cells (.iptr cs o)=[(.iptr cs o)]:=rfl
theorem ZHj (x:Bool) (xs:List AVal):AVal.cells (.lst x xs)=[(.lst x xs)]:=rfl
theorem ZAh (t:Nat) (g:Nat) (lo:Nat) (n:Nat):AVal.cells (.sl t g lo n)=[(.sl t g lo n)]:=rfl
theorem Zxg (cs:List AVal):AVal.cells (.agg cs)=cs:=rfl
theorem ZBW (vs:List AVal):AVal.cells (.tup vs)=[(.tup vs)]:=rfl
theorem ZGL (f:Nat) (caps:List AVal):AVal.cells (.fn f caps)=[(.fn f caps)]:=rfl
theorem ZKA  : AVal.cells (.nilm)=[(.nilm)]:=rfl
theorem ZwJ (t:Nat):AVal.cells (.map t)=[(.map t)]:=rfl
theorem ZNL  : AVal.cells (.nili)=[(.nili)]:=rfl
theorem Zzb (t:Nat) (x:AVal):AVal.cells (.iface t x)=[(.iface t x)]:=rfl
theorem ZHY (x:AVal):AVal.cells (.pan x)=[(.pan x)]:=rfl
theorem ZDX  : ZaP (.top)=(.top):=rfl
theorem ZOs  : ZaP (.any)=(.any):=rfl
theorem ZAw (k:IntKind) (n:Int):ZaP (.int k n)=(.int k n):=rfl
theorem ZDc (b:Bool):ZaP (.bool b)=(.bool b):=rfl
theorem ZK6 (l:List UInt8):ZaP (.str l)=(.str l):=rfl
theorem ZKm  : ZaP (.nilp)=(.nilp):=rfl
theorem ZB8 (t:Nat) (o:Nat):ZaP (.ref t o)=(.ref t o):=rfl
theorem ZAn (t:Nat) (g:Nat) (i:Nat) (o:Nat):ZaP (.eref t g i o)=(.eref t g i o):=rfl
theorem Zzy (cs:List AVal) (o:Nat):ZaP (.iptr cs o)=(.iptr cs o):=rfl
theorem ZCL (x:Bool) (xs:List AVal):ZaP (.lst x xs)=(.lst x xs):=rfl
theorem ZMh (t:Nat) (g:Nat) (lo:Nat) (n:Nat):ZaP (.sl t g lo n)=(.sl t g lo n):=rfl
theorem ZC0 (cs:List AVal):ZaP (.agg cs)=(.agg cs):=rfl
theorem ZM8 (vs:List AVal):ZaP (.tup vs)=(.tup vs):=rfl
theorem ZGd (f:Nat) (caps:List AVal):ZaP (.fn f caps)=(.fn f caps):=rfl
theorem ZAM  : ZaP (.nilm)=(.nilm):=rfl
theorem ZBH (t:Nat):ZaP (.map t)=(.map t):=rfl
theorem Zxl  : ZaP (.nili)=(.nili):=rfl
theorem ZDn (t:Nat) (x:AVal):ZaP (.iface t x)=(.iface t x):=rfl
theorem Zx9 (x:AVal):ZaP (.pan x)=x:=rfl
theorem Zx4  : ZbT (.top)=4:=rfl
theorem ZB3  : ZbT (.any)=4:=rfl
theorem ZyE (k:IntKind) (n:Int):ZbT (.int k n)=0:=rfl
theorem ZK4 (b:Bool):ZbT (.bool b)=1:=rfl
theorem ZHq (l:List UInt8):ZbT (.str l)=2:=rfl
theorem ZAZ  : ZbT (.nilp)=4:=rfl
theorem ZKY (t:Nat) (o:Nat):ZbT (.ref t o)=4:=rfl
theorem ZHW (t:Nat) (g:Nat) (i:Nat) (o:Nat):ZbT (.eref t g i o)=4:=rfl
theorem ZIx (cs:List AVal) (o:Nat):ZbT (.iptr cs o)=4:=rfl
theorem ZJi (x:Bool) (xs:List AVal):ZbT (.lst x xs)=4:=rfl
theorem ZK0 (t:Nat) (g:Nat) (lo:Nat) (n:Nat):ZbT (.sl t g lo n)=4:=rfl
theorem ZEL (cs:List AVal):ZbT (.agg cs)=4:=rfl
theorem ZyY (vs:List AVal):ZbT (.tup vs)=4:=rfl
theorem ZAx (f:Nat) (caps:List AVal):ZbT (.fn f caps)=4:=rfl
theorem ZvX  : ZbT (.nilm)=4:=rfl
theorem ZwP (t:Nat):ZbT (.map t)=4:=rfl
theorem ZGS  : ZbT (.nili)=4:=rfl
theorem ZBE (t:Nat) (x:AVal):ZbT (.iface t x)=4:=rfl
theorem ZMM (x:AVal):ZbT (.pan x)=4:=rfl
theorem ZHk  : ZX (.top)=[]:=rfl
theorem ZMC  : ZX (.any)=[]:=rfl
theorem ZKI (k:IntKind) (n:Int):ZX (.int k n)=[]:=rfl
theorem ZLY (b:Bool):ZX (.bool b)=[]:=rfl
theorem ZJk (l:List UInt8):ZX (.str l)=[]:=rfl
theorem ZLQ  : ZX (.nilp)=[]:=rfl
theorem ZCA (t:Nat) (o:Nat):ZX (.ref t o)=[t]:=rfl
theorem ZyH (t:Nat) (g:Nat) (i:Nat) (o:Nat):ZX (.eref t g i o)=[t]:=rfl
theorem ZJl (cs:List AVal) (o:Nat):ZX (.iptr cs o)=[]:=rfl
theorem Zyf (x:Bool) (xs:List AVal):ZX (.lst x xs)=[]:=rfl
theorem ZII (t:Nat) (g:Nat) (lo:Nat) (n:Nat):ZX (.sl t g lo n)=[t]:=rfl
theorem ZKe (cs:List AVal):ZX (.agg cs)=Zr cs:=rfl
theorem ZJ1 (vs:List AVal):ZX (.tup vs)=Zr vs:=rfl
theorem ZCx (f:Nat) (caps:List AVal):ZX (.fn f caps)=Zr caps:=rfl
theorem ZCc  : ZX (.nilm)=[]:=rfl
theorem ZBU (t:Nat):ZX (.map t)=[t]:=rfl
theorem ZyF  : ZX (.nili)=[]:=rfl
theorem ZCj (t:Nat) (x:AVal):ZX (.iface t x)=ZX x:=rfl
theorem ZKg (x:AVal):ZX (.pan x)=ZX x:=rfl
theorem Zv2  : Zk ρ (.top)=(.top):=rfl
theorem ZN6  : Zk ρ (.any)=(.any):=rfl
theorem ZFn (k:IntKind) (n:Int):Zk ρ (.int k n)=(.int k n):=rfl
theorem ZFE (b:Bool):Zk ρ (.bool b)=(.bool b):=rfl
theorem ZDr (l:List UInt8):Zk ρ (.str l)=(.str l):=rfl
theorem ZAz  : Zk ρ (.nilp)=(.nilp):=rfl
theorem ZCO (cs:List AVal) (o:Nat):Zk ρ (.iptr cs o)=(.iptr cs o):=rfl
theorem ZBo (x:Bool) (xs:List AVal):Zk ρ (.lst x xs)=(.lst x xs):=rfl
theorem ZvS (cs:List AVal):Zk ρ (.agg cs)=.agg (Zf ρ cs):=rfl
theorem ZKC (vs:List AVal):Zk ρ (.tup vs)=.tup (Zf ρ vs):=rfl
theorem ZEh (f:Nat) (caps:List AVal):Zk ρ (.fn f caps)=.fn f (Zf ρ caps):=rfl
theorem ZHd  : Zk ρ (.nilm)=(.nilm):=rfl
theorem ZJG  : Zk ρ (.nili)=(.nili):=rfl
theorem ZLd (t:Nat) (x:AVal):Zk ρ (.iface t x)=.iface t (Zk ρ x):=rfl
theorem Zym (x:AVal):Zk ρ (.pan x)=.pan (Zk ρ x):=rfl
theorem ZEo (f:Nat):Za3 (.fn f [])=true:=rfl
theorem ZM3 (f:Nat):Zab (.fn f [])=true:=rfl
theorem Zzx (t:Nat) (x:AVal):ZbA (.pan (.iface t x))=ZaT x:=rfl
theorem ZNX (live:List Nat) (tm:Tms):ZjZ live (some (tm,σ,none))=some (.normal,keepL live tm,σ):=rfl
theorem ZBf (live:List Nat) (tm:Tms) (x:AVal):ZjZ live (some (tm,σ,some x))=some (.panic x,[],σ):=rfl
theorem ZzT (live:List Nat):ZjZ live none=none:=rfl
theorem ZE7 (t o:Nat):Zk ρ (.ref t o)=(match ρ t 0 with | some (t',0)=>.ref t' o | _=>.any):=rfl
theorem ZAy (t:Nat):Zk ρ (.map t)=(match ρ t 0 with | some (t',0)=>.map t' | _=>.any):=rfl
theorem ZDG (t g lo n:Nat):Zk ρ (.sl t g lo n)=(match ρ t g with | some (t',g')=>.sl t' g' lo n | none=>.any):=rfl
theorem Zxs (t g i o:Nat):Zk ρ (.eref t g i o)=(match ρ t g with | some (t',g')=>.eref t' g' i o | none=>.any):=rfl
theorem ZIv:Zr []=[]:=rfl
theorem ZMP (x:AVal) (xs:List AVal):Zr (x::xs)=ZX x++Zr xs:=rfl
theorem ZNF:Zf ρ []=[]:=rfl
theorem ZDk (x:AVal) (xs:List AVal):Zf ρ (x::xs)=Zk ρ x::Zf ρ xs:=rfl
end
end Go.Proofs.YtmlkhhidifjjfaaDoor
namespace Go.Proofs.YtmlkhhidifjjfaaDoor
mutual
def ZI:AVal→Bool
 | .ref _ _=>false
 | .eref _ _ _ _=>false
 | .sl _ _ _ _=>false
 | .map _=>false
 | .agg cs=>Zd cs
 | .tup vs=>Zd vs
 | .fn _ vs=>Zd vs
 | .iface _ x=>ZI x
 | .pan x=>ZI x
 | .top=>true
 | .any=>true
 | .int _ _=>true
 | .bool _=>true
 | .str _=>true
 | .nilp=>true
 | .nilm=>true
 | .nili=>true
 | .iptr _ _=>true
 | .lst _ _=>true
def Zd:List AVal→Bool
 | []=>true
 | x::xs=>ZI x && Zd xs
end
mutual
theorem Za1 (ρ:Rho):∀ (x:AVal),ZI x=true→Zk ρ x=x∧ZX x=[]
 | .ref _ _,h=>by simp [ZI] at h
 | .eref _ _ _ _,h=>by simp [ZI] at h
 | .sl _ _ _ _,h=>by simp [ZI] at h
 | .map _,h=>by simp [ZI] at h
 | .agg cs,h=>by have:=ZaS ρ cs (by simpa only [ZI] using h);exact ⟨by simp only [Zk,this.1],by simp only [ZX,this.2]⟩
 | .tup cs,h=>by have:=ZaS ρ cs (by simpa only [ZI] using h);exact ⟨by simp only [Zk,this.1],by simp only [ZX,this.2]⟩
 | .fn f cs,h=>by have:=ZaS ρ cs (by simpa only [ZI] using h);exact ⟨by simp only [Zk,this.1],by simp only [ZX,this.2]⟩
 | .iface t x,h=>by have:=Za1 ρ x (by simpa only [ZI] using h);exact ⟨by simp only [Zk,this.1],by simp only [ZX,this.2]⟩
 | .pan x,h=>by have:=Za1 ρ x (by simpa only [ZI] using h);exact ⟨by simp only [Zk,this.1],by simp only [ZX,this.2]⟩
 | .top,_=>⟨rfl,rfl⟩
 | .any,_=>⟨rfl,rfl⟩
 | .int _ _,_=>⟨rfl,rfl⟩
 | .bool _,_=>⟨rfl,rfl⟩
 | .str _,_=>⟨rfl,rfl⟩
 | .nilp,_=>⟨rfl,rfl⟩
 | .nilm,_=>⟨rfl,rfl⟩
 | .nili,_=>⟨rfl,rfl⟩
 | .iptr _ _,_=>⟨rfl,rfl⟩
 | .lst _ _,_=>⟨rfl,rfl⟩
theorem ZaS (ρ:Rho):∀ (xs:List AVal),Zd xs=true→Zf ρ xs=xs∧Zr xs=[]
 | [],_=>⟨rfl,rfl⟩
 | x::xs,h=>by
  simp only [Zd,Bool.and_eq_true] at h
  have h1:=Za1 ρ x h.1
  have h2:=ZaS ρ xs h.2
  exact ⟨by simp only [Zf,h1.1,h2.1],by simp only [Zr,h1.2,h2.2,List.append_nil]⟩
end
theorem Zso {σ:Za} {r:AVal} (h:ZI r=true):Zak 0 σ r=some (r,[]):=by
 have h1:=Za1 (Zm σ 0 []) r h
 have hids:ZB 0 [r] σ=[]:=by
  unfold ZB
  simp only [Zr,h1.2,List.append_nil,List.range_zero,List.flatMap_nil]
  rfl
 unfold Zak gcA
 simp only [hids,Zf,Zv,h1.1]
def Zb8:AVal→AVal
 | .tup vs=>.tup (vs.map ZG)
 | x=>ZG x
def Zca:AVal→Bool
 | .tup vs=>vs.all Zab
 | x=>Zab x
def ZbK:AVal→Bool
 | .fn _ _=>false
 | _=>true
def ZbS:AVal→Bool
 | .agg cs=>cs.all ZbK
 | x=>ZbK x
def Zb9:AVal→Bool
 | .tup vs=>vs.all ZbS
 | x=>ZbS x
theorem ZwW {k g n:Nat} {xs:List AVal} {σ:Za} {t:Nat} (hs:σ[t]?=some (.row g k xs)) (hn:n≤xs.length):ZbH 0 (some (.sl t g 0 n,σ))=some (.lst false (xs.take n),[]):=by
 have hv:viewR σ (.sl t g 0 n)=some (.lst false (xs.take n),[t]):=by
  simp only [viewR,ZR,ZL,Z0,hs,Nat.zero_add,hn,and_self,if_true,List.drop_zero]
 have e:ZbH 0 (some (.sl t g 0 n,σ))=(match viewR σ (.sl t g 0 n) with
  | some (r',ts)=>match gcA 0 [r'] (Zq σ ts) with
   | ([r''],σ')=>some (r'',σ')
   | _=>none
  | none=>none):=rfl
 rw [e,hv]
 exact Zso rfl
theorem ZAr {m:Nat} {fn:ZD} {tm:Tms} {σ:Za}:Zan m fn (some (.ret,tm,σ))=match resA tm σ fn.res with
  | some r=>Zak m σ r
  | none=>none:=rfl
theorem ZGk {m:Nat} {fn:ZD} {tm:Tms} {σ:Za}:Zan m fn (some (.normal,tm,σ))=match resA tm σ fn.res with
  | some r=>Zak m σ r
  | none=>none:=rfl
theorem ZKB {m:Nat} {fn:ZD} {tm:Tms} {σ:Za} {x:AVal}:Zan m fn (some (.panic x,tm,σ))=Zak m σ (.pan x):=rfl
theorem ZKi  : ZI (.top)=true:=rfl
theorem ZwN  : ZI (.any)=true:=rfl
theorem ZGC (k:IntKind) (n:Int):ZI (.int k n)=true:=rfl
theorem ZzB (b:Bool):ZI (.bool b)=true:=rfl
theorem ZHi (l:List UInt8):ZI (.str l)=true:=rfl
theorem ZHv  : ZI (.nilp)=true:=rfl
theorem ZJX (t:Nat) (o:Nat):ZI (.ref t o)=false:=rfl
theorem ZOy (t:Nat) (g:Nat) (i:Nat) (o:Nat):ZI (.eref t g i o)=false:=rfl
theorem ZCw (cs:List AVal) (o:Nat):ZI (.iptr cs o)=true:=rfl
theorem ZIS (x:Bool) (xs:List AVal):ZI (.lst x xs)=true:=rfl
theorem ZHS (t:Nat) (g:Nat) (lo:Nat) (n:Nat):ZI (.sl t g lo n)=false:=rfl
theorem ZD9 (cs:List AVal):ZI (.agg cs)=Zd cs:=rfl
theorem ZA1 (vs:List AVal):ZI (.tup vs)=Zd vs:=rfl
theorem ZEC (f:Nat) (caps:List AVal):ZI (.fn f caps)=Zd caps:=rfl
theorem ZzW  : ZI (.nilm)=true:=rfl
theorem ZGW (t:Nat):ZI (.map t)=false:=rfl
theorem ZDe  : ZI (.nili)=true:=rfl
theorem ZND (t:Nat) (x:AVal):ZI (.iface t x)=ZI x:=rfl
theorem ZEZ (x:AVal):ZI (.pan x)=ZI x:=rfl
theorem ZM9  : ZbK (.top)=true:=rfl
theorem ZAV  : ZbK (.any)=true:=rfl
theorem Zwy (k:IntKind) (n:Int):ZbK (.int k n)=true:=rfl
theorem ZDz (b:Bool):ZbK (.bool b)=true:=rfl
theorem ZHl (l:List UInt8):ZbK (.str l)=true:=rfl
theorem ZJc  : ZbK (.nilp)=true:=rfl
theorem ZMn (t:Nat) (o:Nat):ZbK (.ref t o)=true:=rfl
theorem ZKG (t:Nat) (g:Nat) (i:Nat) (o:Nat):ZbK (.eref t g i o)=true:=rfl
theorem ZIO (cs:List AVal) (o:Nat):ZbK (.iptr cs o)=true:=rfl
theorem ZJb (x:Bool) (xs:List AVal):ZbK (.lst x xs)=true:=rfl
theorem Zwr (t:Nat) (g:Nat) (lo:Nat) (n:Nat):ZbK (.sl t g lo n)=true:=rfl
theorem ZHV (cs:List AVal):ZbK (.agg cs)=true:=rfl
theorem ZJ2 (vs:List AVal):ZbK (.tup vs)=true:=rfl
theorem ZH9 (f:Nat) (caps:List AVal):ZbK (.fn f caps)=false:=rfl
theorem Zxt  : ZbK (.nilm)=true:=rfl
theorem ZMR (t:Nat):ZbK (.map t)=true:=rfl
theorem ZGb  : ZbK (.nili)=true:=rfl
theorem ZGF (t:Nat) (x:AVal):ZbK (.iface t x)=true:=rfl
theorem ZFO (x:AVal):ZbK (.pan x)=true:=rfl
theorem ZH5  : ZbS (.top)=true:=rfl
theorem ZwR  : ZbS (.any)=true:=rfl
theorem ZD0 (k:IntKind) (n:Int):ZbS (.int k n)=true:=rfl
theorem Zz8 (b:Bool):ZbS (.bool b)=true:=rfl
theorem Zwh (l:List UInt8):ZbS (.str l)=true:=rfl
theorem ZGn  : ZbS (.nilp)=true:=rfl
theorem ZzH (t:Nat) (o:Nat):ZbS (.ref t o)=true:=rfl
theorem ZF6 (t:Nat) (g:Nat) (i:Nat) (o:Nat):ZbS (.eref t g i o)=true:=rfl
theorem ZL4 (cs:List AVal) (o:Nat):ZbS (.iptr cs o)=true:=rfl
theorem ZLW (x:Bool) (xs:List AVal):ZbS (.lst x xs)=true:=rfl
theorem ZMp (t:Nat) (g:Nat) (lo:Nat) (n:Nat):ZbS (.sl t g lo n)=true:=rfl
theorem ZAD (cs:List AVal):ZbS (.agg cs)=cs.all ZbK:=rfl
theorem ZCg (vs:List AVal):ZbS (.tup vs)=true:=rfl
theorem ZKV (f:Nat) (caps:List AVal):ZbS (.fn f caps)=false:=rfl
theorem ZJ6  : ZbS (.nilm)=true:=rfl
theorem ZJJ (t:Nat):ZbS (.map t)=true:=rfl
theorem ZE8  : ZbS (.nili)=true:=rfl
theorem ZK1 (t:Nat) (x:AVal):ZbS (.iface t x)=true:=rfl
theorem ZKW (x:AVal):ZbS (.pan x)=true:=rfl
theorem ZM5  : Zb9 (.top)=true:=rfl
theorem Zxc  : Zb9 (.any)=true:=rfl
theorem ZIm (k:IntKind) (n:Int):Zb9 (.int k n)=true:=rfl
theorem ZF2 (b:Bool):Zb9 (.bool b)=true:=rfl
theorem ZH3 (l:List UInt8):Zb9 (.str l)=true:=rfl
theorem Zz0  : Zb9 (.nilp)=true:=rfl
theorem ZyO (t:Nat) (o:Nat):Zb9 (.ref t o)=true:=rfl
theorem Zw5 (t:Nat) (g:Nat) (i:Nat) (o:Nat):Zb9 (.eref t g i o)=true:=rfl
theorem Zxz (cs:List AVal) (o:Nat):Zb9 (.iptr cs o)=true:=rfl
theorem ZLz (x:Bool) (xs:List AVal):Zb9 (.lst x xs)=true:=rfl
theorem ZCy (t:Nat) (g:Nat) (lo:Nat) (n:Nat):Zb9 (.sl t g lo n)=true:=rfl
theorem ZKQ (cs:List AVal):Zb9 (.agg cs)=cs.all ZbK:=rfl
theorem ZIC (vs:List AVal):Zb9 (.tup vs)=vs.all ZbS:=rfl
theorem ZxB (f:Nat) (caps:List AVal):Zb9 (.fn f caps)=false:=rfl
theorem Zy8  : Zb9 (.nilm)=true:=rfl
theorem ZG2 (t:Nat):Zb9 (.map t)=true:=rfl
theorem ZyV  : Zb9 (.nili)=true:=rfl
theorem ZH8 (t:Nat) (x:AVal):Zb9 (.iface t x)=true:=rfl
theorem ZFj (x:AVal):Zb9 (.pan x)=true:=rfl
theorem Zy1  : Zca (.top)=false:=rfl
theorem ZwL  : Zca (.any)=false:=rfl
theorem ZHw (k:IntKind) (n:Int):Zca (.int k n)=true:=rfl
theorem ZJV (b:Bool):Zca (.bool b)=true:=rfl
theorem Zws (l:List UInt8):Zca (.str l)=true:=rfl
theorem ZD6  : Zca (.nilp)=true:=rfl
theorem ZHf (t:Nat) (o:Nat):Zca (.ref t o)=false:=rfl
theorem ZAg (t:Nat) (g:Nat) (i:Nat) (o:Nat):Zca (.eref t g i o)=false:=rfl
theorem ZBz (cs:List AVal) (o:Nat):Zca (.iptr cs o)=false:=rfl
theorem ZLC (x:Bool) (xs:List AVal):Zca (.lst x xs)=true:=rfl
theorem ZNu (t:Nat) (g:Nat) (lo:Nat) (n:Nat):Zca (.sl t g lo n)=false:=rfl
theorem ZFk (cs:List AVal):Zca (.agg cs)=cs.all Za3:=rfl
theorem Zy4 (vs:List AVal):Zca (.tup vs)=vs.all Zab:=rfl
theorem ZDJ  : Zca (.nilm)=true:=rfl
theorem ZMx (t:Nat):Zca (.map t)=false:=rfl
theorem ZNH  : Zca (.nili)=true:=rfl
theorem ZBS (t:Nat) (x:AVal):Zca (.iface t x)=false:=rfl
theorem Zz9 (x:AVal):Zca (.pan x)=false:=rfl
theorem ZMz  : Zb8 (.top)=(.top):=rfl
theorem ZG8  : Zb8 (.any)=(.any):=rfl
theorem ZMk (k:IntKind) (n:Int):Zb8 (.int k n)=(.int k n):=rfl
theorem ZD3 (b:Bool):Zb8 (.bool b)=(.bool b):=rfl
theorem ZA3 (l:List UInt8):Zb8 (.str l)=(.str l):=rfl
theorem ZDR  : Zb8 (.nilp)=(.nilp):=rfl
theorem Zxb (t:Nat) (o:Nat):Zb8 (.ref t o)=(.ref t o):=rfl
theorem ZxS (t:Nat) (g:Nat) (i:Nat) (o:Nat):Zb8 (.eref t g i o)=(.eref t g i o):=rfl
theorem ZAt (cs:List AVal) (o:Nat):Zb8 (.iptr cs o)=(.iptr cs o):=rfl
theorem ZAX (x:Bool) (xs:List AVal):Zb8 (.lst x xs)=.lst false xs:=rfl
theorem Zyb (t:Nat) (g:Nat) (lo:Nat) (n:Nat):Zb8 (.sl t g lo n)=(.sl t g lo n):=rfl
theorem ZM2 (cs:List AVal):Zb8 (.agg cs)=.agg (cs.map Zba):=rfl
theorem Zwc (vs:List AVal):Zb8 (.tup vs)=.tup (vs.map ZG):=rfl
theorem ZL3 (f:Nat) (caps:List AVal):Zb8 (.fn f caps)=(.fn f caps):=rfl
theorem ZJD  : Zb8 (.nilm)=(.nilm):=rfl
theorem ZzY (t:Nat):Zb8 (.map t)=(.map t):=rfl
theorem Zzm  : Zb8 (.nili)=(.nili):=rfl
theorem ZMJ (t:Nat) (x:AVal):Zb8 (.iface t x)=(.iface t x):=rfl
theorem Zw2 (x:AVal):Zb8 (.pan x)=(.pan x):=rfl
theorem ZAJ:Zd []=true:=rfl
theorem ZGg (x:AVal) (xs:List AVal):Zd (x::xs)=(ZI x && Zd xs):=rfl
theorem ZNK (f:Nat):Zca (.fn f [])=true:=rfl
theorem ZFz (p q:Bool):(if p=true then q else false)=(p && q):=by cases p <;> rfl
theorem ZCH (p q:Bool):(if p=true then true else q)=(p || q):=by cases p <;> rfl
theorem ZIB (p q:Bool):(if p=true then false else q)=(!p && q):=by cases p <;> rfl
theorem Zzk (p q:Bool):(if p=true then q else true)=(!p || q):=by cases p <;> rfl
theorem ZAq (p q:Bool):(if p=false then q else false)=(!p && q):=by cases p <;> rfl
theorem Zv5 (p q:Bool):(if p=false then true else q)=(!p || q):=by cases p <;> rfl
theorem ZCz (p q:Bool):(if p=false then false else q)=(p && q):=by cases p <;> rfl
theorem ZDF (p q:Bool):(if p=false then q else true)=(p || q):=by cases p <;> rfl
section
def Zeg (o:AOp):AOp:=⟨o.dst,o.ins,o.guard,[]⟩
def Zcr:Ze→Ze
 | .region ops chk live=>.region (ops.map Zeg) chk live
 | .seq a b=>.seq (Zcr a) (Zcr b)
 | .cond c a b=>.cond c (Zcr a) (Zcr b)
 | .block id c=>.block id (Zcr c)
 | .loop live c=>.loop live (Zcr c)
 | .skip=>.skip
 | .exit id=>.exit id
 | .ret=>.ret
 | .stuck=>.stuck
def ZlU (f:ZD):ZD:=⟨f.res,Zcr f.body⟩
section
variable {O:ZO} {byref:Nat→Bool}
theorem ZFg (o:AOp) (s:Nat) (tm:Tms) (σ:Za):ZP O byref (Zeg o) s tm σ=ZP O byref o s tm σ:=rfl
theorem ZtM:∀ (ops:List AOp) (s:Nat) (tm:Tms) (σ:Za),ZW O byref (ops.map Zeg) s tm σ=ZW O byref ops s tm σ
 | [],_,_,_=>rfl
 | o::os,s,tm,σ=>by
  simp only [List.map_cons,ZW,ZFg]
  split
  ·rfl
  ·rfl
  ·rename_i tm' σ' c _ _
   rw [show (Zeg o).ins=o.ins from rfl,ZtM os]
theorem Zqt (ops:List AOp):sitesOf (ops.map Zeg)=sitesOf ops:=by
 simp [sitesOf,Zeg,Function.comp_def]
theorem Zlr (ops:List AOp) (i:Nat):((ops.map Zeg).getD i default).ins=(ops.getD i default).ins:=by
 simp only [List.getD_eq_getElem?_getD,List.getElem?_map]
 cases ops[i]? <;> rfl
theorem Zyg (ops:List AOp) (b:Nat) (l:List (Nat×Nat)) (cs:List Cls):Zdd (ops.map Zeg) b l cs=Zdd ops b l cs:=by
 unfold Zdd
 congr 1
 funext p
 unfold Zck Zb7
 rw [Zlr,Zlr,←List.map_take,Zqt]
theorem ZEG (ops:List AOp) (b:Nat) (l:List (Nat×Nat)) (cs:List Cls):Zdm (ops.map Zeg) b l cs=Zdm ops b l cs:=by
 unfold Zdm
 congr 2
 funext p
 unfold Zck Zb7
 rw [Zlr,Zlr,←List.map_take,Zqt]
theorem ZDd (ops:List AOp) (chk:Option (List (Nat×Nat))) (live:List Nat) (tm:Tms) (σ:Za):ZbW O byref (ops.map Zeg) chk live tm σ=ZbW O byref ops chk live tm σ:=by
 unfold ZbW
 rw [ZtM,Zqt]
 cases ZW O byref ops σ.length tm (σ++List.replicate (sitesOf ops) .free) with
 | none=>rfl
 | some q =>
  obtain ⟨tm',σ',cs,p⟩:=q
  cases p with
  | some x =>
   cases chk with
   | none=>rfl
   | some l=>simp only [ZcG,ZEG]
  | none =>
   cases chk with
   | none=>rfl
   | some l=>simp only [ZcG,Zyg]
theorem Zd2 (m n:Nat):∀ (c:Ze),Z4 O byref m n (Zcr c)=Z4 O byref m n c
 | .region ops chk live=>by funext tm σ;simp only [Zcr,Z4,ZDd]
 | .seq a b=>by funext tm σ;simp only [Zcr,Z4,Zd2 m n a,Zd2 m n b]
 | .cond c a b=>by funext tm σ;simp only [Zcr,Z4,Zd2 m n a,Zd2 m n b]
 | .block id c=>by funext tm σ;simp only [Zcr,Z4,Zd2 m n c]
 | .loop live c=>by funext tm σ;simp only [Zcr,Z4,Zd2 m n c]
 | .skip=>rfl
 | .exit id=>rfl
 | .ret=>rfl
 | .stuck=>rfl
end
theorem Zos (fs:Nat→Option ZD) (prim:Zcm) (byref:Nat→Bool):∀ n,Zat (fun f=>(fs f).map ZlU) prim byref n=Zat fs prim byref n
 | 0=>rfl
 | n+1=>by
  funext f args σ
  simp only [Zat,Zos fs prim byref n]
  cases prim f with
  | some g=>rfl
  | none =>
   cases fs f with
   | none=>rfl
   | some fn =>
    simp only [Option.map_some,ZlU,Zd2]
    rfl
theorem ZFU (fs:Nat→Option ZD) (prim:Zcm) (byref:Nat→Bool):EV (fun f=>(fs f).map ZlU) prim byref=EV fs prim byref:=by
 funext f args σ
 apply ZeU
 intro r
 rw [Zdr,Zdr]
 simp only [Zos]
end
end Go.Proofs.YtmlkhhidifjjfaaDoor
namespace Go.Proofs.YtmlkhhidifjjfaaDoor
open Go.RowKit
def ZiN:List AVal→Za→Option (AVal×Za):=fun _ _=>none
theorem ZuM {α:Prop} {args:List AVal} {σ:Za} {r:AVal×Za} (h:ZiN args σ=some r):α:=by cases h
def Zhk (k bytes:Nat) (args:List AVal) (σ:Za):Option (AVal×Za):=match args with
 | [.str _]=>none
 | [a]=>match Z0 σ a with
  | some (xs,_)=>if xs.length*bytes≤140737488355328∧kOk k xs=true then some (.sl σ.length 0 0 xs.length,σ++[.row 0 k xs]) else none
  | none=>none
 | _=>none
def Zer:Ann:={ nt:=8,lr:=fun _=>[7,6,5,4,3,2,0] }
structure Znm (P:Program) (t:TypeId) (k bytes:Nat) (z:AVal) (f:FuncId):Prop where
 ex:∃ (F:Func) (e:TypeId) (i0 i1 i2 i3:Nat) (r0 r2 r3:Array Oper) (m b:Oper),
  P.funcs[f]?=some F∧F.results=#[.tmp 2]∧F.ntmps=8∧(F.name == "runtime.NumGoroutine")=false∧P.underlying t=some (.slice e) ∧
  F.body=some (.seq (.region i0 r0 false) (.seq (.seq (.region i1 #[m,b] false) (.cond (.tmp 4) (.seq (.region i2 r2 false) .ret) .skip)) (.seq (.region i3 r3 false) .ret))) ∧
  m.op=.move (.tmp 0)∧m.dst=some 3∧m.guard=none∧b.op=.binOp .eql t (.tmp 3) (.const (.slice none 0 0)) t∧b.dst=some 4∧b.guard=none ∧
  Zde P Zer r0 r0.toList=some [⟨some 2,.mov (.c (.lst true [])),none,[]⟩] ∧
  Zde P Zer r2 r2.toList=some [⟨some 2,.mov (.c (.lst true [])),none,[]⟩] ∧
  (∃ a1 a2 a3 a4,Zde P Zer r3 r3.toList=some [⟨some 5,.bslice false k 0 z [],none,a1⟩,⟨some 6,.mov (.t 0),none,a2⟩,⟨some 7,.app k bytes z (.t 5) (.t 6),none,a3⟩,⟨some 2,.mov (.t 7),none,a4⟩])∧z.cells.length=k∧0 < k
section
variable {P:Program} {base:Nat→Prop} {w0 w w':World} {I0 I:Imm} {β:Bmap} {σ:Za}
theorem noO:ZaK P (fun _ _ _=>none):=by intro f args σ r σ' h;cases h
theorem Zef {ops:Array Oper} {Q:Exit→Act→World→Prop} {o:Oper} {l:List Oper} {a:Act} {w:World} (hg:o.guard=none) (h:o.wp P a w (wpList P ops Q l) Q):wpList P ops Q (o::l) a w:=by
 unfold wpList
 have : Region.wanted o (yielded ops a.tmps)=true:=by unfold Region.wanted;rw [hg]
 rw [this]
 simp only [if_true]
 exact Or.inl h
theorem ZrN {t : TypeId} {k bytes : Nat} {z : AVal} {f : FuncId} (hm : P.follows .mixedOrders = true) (C : Znm P t k bytes z f) {args : List AVal} {σ σ' : Za} {r : AVal} (h : Zhk k bytes args σ = some (r, σ')) :
    (∃ fn, P.funcs[f]? = some fn ∧ fn.body.isSome = true ∧ (fn.name == "runtime.NumGoroutine") = false) ∧
    ∀ base w0 I0 I β w (vs : Array Value), KLt base w0 → Rel base w0 I0 I β σ w → VRs I β args vs.toList →
      Calls P f vs w (fun e w' => ∃ u, Ends r e u ∧ ZbZ σ.length base w0 I0 I β r σ' u w') := by
  obtain ⟨F, e, i0, i1, i2, i3, r0, r2, r3, m, b, hF, hres, hnt, hname, hu, hbody, hm1, hm2, hm3, hb1, hb2, hb3, hc0, hc2, ⟨a1, a2, a3, a4, hc3⟩, hzk, hk0⟩ := C.ex
  refine ⟨⟨F, hF, by rw [hbody]; rfl, hname⟩, ?_⟩
  intro base w0 I0 I β w vs hb R hargs
  unfold Zhk at h
  split at h
  case h_1 => cases h
  case h_3 => cases h
  rename_i a hns
  split at h
  case h_2 => cases h
  rename_i xs ts hel0
  split at h
  case isFalse => cases h
  rename_i hc
  obtain ⟨hbytes, hkOk⟩ := hc
  simp only [Option.some.injEq, Prod.mk.injEq] at h
  obtain ⟨rfl, rfl⟩ := h
  have hnt8 : ∀ (n : Nat), n < 8 → n < Zer.nt := fun n h => h
  refine calls_of_wp hF hbody ?_
  have hsz : vs.size = 1 := by have := ZaV hargs; simpa using this.symm
  have T := ZnW hargs (F.ntmps - vs.size)
  have hst : StR ZbI 8 base w0 I0 I β (enterA 0 [a] []) σ { tmps := vs ++ Array.replicate (F.ntmps - vs.size) undef, defers := [] } w := ⟨I, β, Imm.le.refl I, Bmap.le.refl β, T, ⟨ZeN.2 rfl, by simp; omega⟩, R⟩
  have fin : ∀ {tm : Tms} {σ1 : Za} {y : AVal} {a' : Act} {w1 : World}, StR ZbI 8 base w0 I0 I β tm σ1 a' w1 → tget tm 2 = y → (∀ I' β' u, I.le I' → β.le β' → Rel base w0 I0 I' β' σ1 w1 → VR I' β' y u → ZbZ σ.length base w0 I0 I β (.sl σ.length 0 0 xs.length) (σ ++ [.row 0 k xs]) u w1) →
      a'.defers = [] ∧ ∃ v, (results F a'.tmps).run P w1 = .ok v w1 ∧ ∃ u, Ends (.sl σ.length 0 0 xs.length) (.returned v) u ∧ ZbZ σ.length base w0 I0 I β (.sl σ.length 0 0 xs.length) (σ ++ [.row 0 k xs]) u w1 := by
    rintro tm σ1 y a' w1 ⟨I', β', h1, h2, h3, h4, h5⟩ hy hpost
    refine ⟨ZeN.1 h4.1, a'.tmps.getD 2 undef, by simp [results, hres], _, rfl, ?_⟩
    have := h3 2
    rw [hy] at this
    exact hpost I' β' _ h1 h2 h5 this
  have R0 : ZaR P Zer (.region i0 r0 false) = .region [⟨some 2, .mov (.c (.lst true [])), none, []⟩] none [7, 6, 5, 4, 3, 2, 0] := by simp only [ZaR]; rw [hc0]; rfl
  have R2 : ZaR P Zer (.region i2 r2 false) = .region [⟨some 2, .mov (.c (.lst true [])), none, []⟩] none [7, 6, 5, 4, 3, 2, 0] := by simp only [ZaR]; rw [hc2]; rfl
  have R3 : ZaR P Zer (.region i3 r3 false) = .region [⟨some 5, .bslice false k 0 z [], none, a1⟩, ⟨some 6, .mov (.t 0), none, a2⟩, ⟨some 7, .app k bytes z (.t 5) (.t 6), none, a3⟩, ⟨some 2, .mov (.t 7), none, a4⟩] none [7, 6, 5, 4, 3, 2, 0] := by simp only [ZaR]; rw [hc3]; rfl
  refine wp_seq ?_
  refine ZkC (an := Zer) (dr := ZbI) (byref := fun _ => false) noO (fun n hn => by simp [ZbI] at hn) hm hb R0 hst (e := .normal) (tm' := keepL [7, 6, 5, 4, 3, 2, 0] [(2, .lst true []), (0, a)]) (σ' := σ) ?_ ?_
  · simp [ZbW, ZcG, sitesOf, nsite, ZW, ZP, Zbw, execI, Opd.ev, tput, tins, enterA]
  intro a1' w1 hst1
  simp only [Exit.then]
  refine wp_seq (wp_seq ?_)
  refine wp_region_list ?_
  refine Zef hm3 ?_
  obtain ⟨I1, β1, g1, g2, g3, g4, g5⟩ := hst1
  have hs8 : 8 ≤ a1'.tmps.size := g4.2
  have hT0 : VR I1 β1 a (a1'.tmps.getD 0 undef) := by have := g3 0; simpa [keepL, tget] using this
  obtain ⟨A, cap, hv0, q1, q2, q5, q4⟩ := Znb g5 (fun l e => hns l e) hel0 hT0
  show m.wp P a1' w1 _ _
  unfold Oper.wp
  have e1 : (execOp a1'.eval m).run P w1 = .ok (.value (.slice A xs.length cap)) w1 := by
    unfold execOp; rw [hm1]; simp [Act.eval, hv0]
  rw [e1, Oper.upon_value, hm2]
  refine Zef hb3 ?_
  unfold Oper.wp
  have hs3 : (a1'.put (some 3) (.slice A xs.length cap)).tmps.getD 3 undef = .slice A xs.length cap := by
    have : 3 < a1'.tmps.size := by omega
    simp [Act.put, Array.getD, this]
  have e2 : (execOp (a1'.put (some 3) (.slice A xs.length cap)).eval b).run P w1 = .ok (.value (.bool A.isNone)) w1 := by
    have hq : (Op.equal t (.slice A xs.length cap) (.slice none 0 0)).run P w1 = .ok A.isNone w1 := run_equal_slice_nil w1 t e A xs.length cap hu
    unfold execOp; rw [hb1]
    simp only [Act.eval]
    rw [hs3]
    simp [eqGuard, binOp, hq]
  rw [e2, Oper.upon_value, hb2]
  refine wpList_nil ?_
  have hst2 : StR ZbI 8 base w0 I0 I β [(4, .bool A.isNone), (2, .lst true []), (0, a)] σ ((a1'.put (some 3) (.slice A xs.length cap)).put (some 4) (.bool A.isNone)) w1 := by
    refine ⟨I1, β1, g1, g2, fun n => ?_, ⟨Zjm (Zjm g4.1 (fun n _ hm => by simp [ZbI] at hm)) (fun n _ hm => by simp [ZbI] at hm), by rw [ZeM, ZeM]; exact g4.2⟩, g5⟩
    have hs : 4 < (a1'.put (some 3) (.slice A xs.length cap)).tmps.size := by rw [ZeM]; omega
    have ne : ∀ {a : Act} {d j : Nat} {u : Value}, d ≠ j → (a.put (some d) u).tmps.getD j undef = a.tmps.getD j undef := by
      intro a d j u hne
      simp only [Act.put, Array.getD_eq_getD_getElem?]; rw [Array.getElem?_setIfInBounds_ne hne]
    simp only [tget]
    split
    · rename_i e; subst e
      rw [show ((a1'.put (some 3) (.slice A xs.length cap)).put (some 4) (.bool A.isNone)).tmps.getD 4 undef = .bool A.isNone by
        simp only [Act.put] at hs ⊢
        simp [Array.getD] at hs ⊢
        omega]
      simp only [VR]
    · split
      · rename_i e; subst e
        rw [ne (by omega), ne (by omega)]
        have := g3 2; simpa [keepL, tget] using this
      · split
        · rename_i e; subst e
          rw [ne (by omega), ne (by omega)]
          have := g3 0; simpa [keepL, tget] using this
        · simp only [VR]
  simp only [Exit.then]
  cases hA : A.isNone with
  | true =>
    have hx0 : xs = [] := by
      rcases q4 with h | ⟨b, off, k', us, e, _⟩
      · exact h
      · rw [e] at hA; cases hA
    subst hx0
    have hev : ((a1'.put (some 3) (.slice A 0 cap)).put (some 4) (.bool A.isNone)).eval (.tmp 4) = .bool true := by
      obtain ⟨_, _, _, _, T, _, _⟩ := hst2
      have := T 4
      simp only [tget, if_true, VR] at this
      rw [hA] at this
      simpa [Act.eval, hA] using this
    refine wp_cond_true (by simpa [hA] using hev) ?_
    refine wp_seq ?_
    rw [hA] at hst2
    refine ZkC (an := Zer) (dr := ZbI) (byref := fun _ => false) noO (fun n hn => by simp [ZbI] at hn) hm hb R2 hst2 (e := .normal) (tm' := keepL [7, 6, 5, 4, 3, 2, 0] [(4, .bool true), (2, .lst true []), (0, a)]) (σ' := σ) ?_ ?_
    · simp [ZbW, ZcG, sitesOf, nsite, ZW, ZP, Zbw, execI, Opd.ev, tput, tins]
    intro a3' w3 hst3
    simp only [Exit.then]
    refine wp_ret ?_
    refine fin hst3 (y := .lst true []) (by simp [keepL, tget]) ?_
    intro I' β' u h1 h2 h3 h4
    simp only [VR] at h4
    obtain ⟨A', cap', rfl, _, _, hx, _⟩ := h4
    have hcap : cap' = 0 := by simpa using hx
    subst hcap
    have R4 := h3.reserve 1
    have hfree : (σ ++ List.replicate 1 ZK.free)[σ.length]? = some .free := by simp
    obtain ⟨R5, hle⟩ := R4.newNone hfree k hk0
    refine ⟨I', _, h1, KeptE.of_le (h2.trans hle), ?_, ?_⟩
    · have : (σ ++ List.replicate 1 ZK.free).set σ.length (.row 0 k []) = σ ++ [.row 0 k []] := by simp
      rw [this] at R5; exact R5
    · simp only [ZaP]
      rw [Zb2]
      exact ⟨_, Bmap.put_same β' σ.length 0 _, by simp, by simp, Or.inr ⟨rfl, rfl, A', rfl⟩⟩
  | false =>
    have hev : ((a1'.put (some 3) (.slice A xs.length cap)).put (some 4) (.bool A.isNone)).eval (.tmp 4) = .bool false := by
      obtain ⟨_, _, _, _, T, _, _⟩ := hst2
      have := T 4
      simp only [tget, if_true, VR] at this
      rw [hA] at this
      simpa [Act.eval, hA] using this
    refine wp_cond_false (by simpa [hA] using hev) ?_
    refine wp_skip ?_
    rw [hA] at hst2
    simp only [Exit.then]
    refine wp_seq ?_
    have hel : Z0 (σ ++ [ZK.free]) a = some (xs, ts) := Zgw hel0 (fun t ht => by
      obtain ⟨g, k, ys, h | h⟩ := Zjh hel0 t ht <;> (rw [List.getElem?_append_left (List.getElem?_eq_some_iff.1 h).1]))
    refine ZkC (an := Zer) (dr := ZbI) (byref := fun _ => false) noO (fun n hn => by simp [ZbI] at hn) hm hb R3 hst2 (e := .normal) (tm' := keepL [7, 6, 5, 4, 3, 2, 0] [(7, .sl σ.length 0 0 xs.length), (6, a), (5, .lst true []), (4, .bool false), (2, .sl σ.length 0 0 xs.length), (0, a)]) (σ' := σ ++ [.row 0 k xs]) ?_ ?_
    · have hfa : freeAt (σ ++ [ZK.free]) σ.length = true := by simp [freeAt]
      have hnp : (∃ x ys, a = .lst x ys) ∨ ∃ t g lo n, a = .sl t g lo n := by
        cases a with
        | lst x ys => exact Or.inl ⟨x, ys, rfl⟩
        | sl t g lo n => exact Or.inr ⟨t, g, lo, n, rfl⟩
        | str l => exact absurd rfl (hns l)
        | _ => simp [Z0] at hel0
      rcases hnp with ⟨x, ys, rfl⟩ | ⟨t', g', lo, n, rfl⟩
      · simp [ZbW, ZcG, sitesOf, nsite, ZW, ZP, Zbw, execI, Opd.ev, tput, tins, tget, viewAs, Zq, hzk, Zbi, hel, hkOk, hbytes, hfa]
      · simp [ZbW, ZcG, sitesOf, nsite, ZW, ZP, Zbw, execI, Opd.ev, tput, tins, tget, viewAs, Zq, hzk, Zbi, hel, hkOk, hbytes, hfa]
    intro a3' w3 hst3
    simp only [Exit.then]
    refine wp_ret ?_
    refine fin hst3 (y := .sl σ.length 0 0 xs.length) (by simp [keepL, tget]) ?_
    intro I' β' u h1 h2 h3 h4
    exact ⟨I', β', h1, KeptE.of_le h2, h3, h4⟩
end
end Go.Proofs.YtmlkhhidifjjfaaDoor
namespace Go.Proofs.YtmlkhhidifjjfaaDoor
open Go.RowKit
def ZnX (args:List AVal) (σ:Za):Option (AVal×Za):=match args with
 | [.str l]=>some (.bool (Lib.validD l),σ)
 | _=>none
section
variable {P:Program} {base:Nat→Prop} {w0 w w':World} {I0 I:Imm} {β:Bmap} {σ:Za}
theorem Zz1 {f:Nat} (hf:∃ fn,P.funcs[f]?=some fn∧fn.body.isSome=true∧(fn.name == "runtime.NumGoroutine")=false) {args:List AVal} {r:AVal} {u:Value} (hn:∀ x,r≠.pan x) (hr:∀ I β,VR I β r u)
  (h:∀ base w0 I0 I β w (vs:Array Value),Rel base w0 I0 I β σ w→VRs I β args vs.toList→Calls P f vs w (fun e w'=>e=.returned u∧Below w.heap.size w w')) :
  (∃ fn,P.funcs[f]?=some fn∧fn.body.isSome=true∧(fn.name == "runtime.NumGoroutine")=false) ∧
  ∀ base w0 I0 I β w (vs:Array Value),KLt base w0→Rel base w0 I0 I β σ w→VRs I β args vs.toList →
   Calls P f vs w (fun e w'=>∃ u,Ends r e u∧ZbZ σ.length base w0 I0 I β r σ u w'):=by
 refine ⟨hf,fun base w0 I0 I β w vs hb R hv=>(h base w0 I0 I β w vs R hv).mono ?_⟩
 rintro e w' ⟨rfl,hB⟩
 have hbw:=R.base_le hb
 refine ⟨u,?_,I,β,Imm.le.refl I,KeptE.refl _ β,R.stay (Imm.le.refl I) ⟨hB.os,hB.tape,hB.output,hB.size,fun k hk=>hB.block k (hbw k hk)⟩ (fun _ _ _=>rfl) ?_ ?_,by rw [Zft hn];exact hr I β⟩
 ·cases r <;> first | rfl | exact absurd rfl (hn _)
 ·intro b o x hx
  have h1:=R.imm b o x hx
  have hlt:=Zd6 h1
  rw [←h1]
  simp only [World.cell?,hB.block b hlt]
 ·intro t x b hx hb'
  exact ⟨hB.block b ((R.blk t x hx).owns_lt hb'),(R.own t x b hx hb').2⟩
theorem ZEQ (R:Rel base w0 I0 I β σ w):Lib.Utf8Tabs 0 1 w:=by
 refine ⟨fun c hc=>R.imm _ _ _ (R.glob _ _ _ (by simp [Gl,hc])),fun i hi=>⟨R.imm _ _ _ (R.glob _ _ _ ?_),R.imm _ _ _ (R.glob _ _ _ ?_)⟩⟩
 ·have h1:2*i < 32:=by omega
  have h2:2*i % 2=0:=by omega
  have h3:2*i / 2=i:=by omega
  simp [Gl,h1,h3]
 ·have h1:2*i+1 < 32:=by omega
  have h2:(2*i+1) % 2=1:=by omega
  have h3:(2*i+1) / 2=i:=by omega
  simp [Gl,h1,h2,h3]
theorem ZAs {f:Nat} (hf:∃ fn,P.funcs[f]?=some fn∧fn.body.isSome=true∧(fn.name == "runtime.NumGoroutine")=false)
  (hc:∀ (s:ByteArray) (w:World),s.size≤9223372036854775807→Lib.Utf8Tabs 0 1 w→Calls P f #[.string s] w fun e w'=>e=.returned (.bool (Lib.validD s.data.toList))∧Below w.heap.size w w') {args:List AVal} {σ σ':Za} {r:AVal} (h:ZnX args σ=some (r,σ')) :
  (∃ fn,P.funcs[f]?=some fn∧fn.body.isSome=true∧(fn.name == "runtime.NumGoroutine")=false) ∧
  ∀ base w0 I0 I β w (vs:Array Value),KLt base w0→Rel base w0 I0 I β σ w→VRs I β args vs.toList →
   Calls P f vs w (fun e w'=>∃ u,Ends r e u∧ZbZ σ.length base w0 I0 I β r σ' u w'):=by
 unfold ZnX at h
 split at h
 case h_2=>cases h
 rename_i l
 simp only [Option.some.injEq,Prod.mk.injEq] at h
 obtain ⟨rfl,rfl⟩:=h
 refine Zz1 hf (u:=.bool (Lib.validD l)) (by simp) (fun _ _=>by simp only [VR]) ?_
 intro base w0 I0 I β w vs R hv
 obtain ⟨vs⟩:=vs
 simp only [VRs,VR] at hv
 obtain ⟨v1,r1,e1,⟨rfl,hl⟩,rfl⟩:=hv
 subst e1
 refine (hc ⟨l.toArray⟩ w (by simpa [ByteArray.size] using hl) (ZEQ R)).mono ?_
 rintro e w' ⟨rfl,hB⟩
 exact ⟨by simp,hB⟩
end
end Go.Proofs.YtmlkhhidifjjfaaDoor
namespace Go.Proofs.YtmlkhhidifjjfaaDoor
def Zet {α:Type} (d:α):List (Nat×α)→Nat→α
 | [],_=>d
 | (k,v)::r,n=>if k=n then v else Zet d r n
def Zp (own raw:List Nat) (cfg cfg2:List (Nat×Nat×Bool)) (lr ll:List (Nat×List Nat)):Ann:={ own:=fun n=>if own.contains n then 1 else if raw.contains n then 2 else 0,cfg:=Zet (0,true) cfg,cfg2:=Zet (0,true) cfg2,lr:=Zet [] lr,ll:=Zet [] ll }
def ZE6:List (Nat×Ann):=[
 (80,Zp [] [] [] [] [(0,[0]),(1,[2])] []),
 (68,Zp [] [] [] [] [(0,[0]),(1,[5,4,3,0]),(2,[4,3,0]),(3,[3]),(4,[2])] []),
 (70,Zp [] [] [] [] [(0,[1,0]),(1,[4])] []),
 (107,Zp [] [] [] [] [(0,[1,0]),(1,[18,1,0]),(2,[]),(3,[4]),(4,[5,1,0]),(5,[5]),(6,[4])] []),
 (71,Zp [] [] [] [] [(0,[0]),(1,[5,4,3,0]),(2,[4,3,0]),(3,[3]),(4,[2])] []),
 (69,Zp [] [] [] [] [(0,[0]),(1,[4]),(2,[3,2])] []),
 (61,Zp [] [] [] [] [(0,[2,0]),(1,[3,2,0]),(2,[3,2,0]),(3,[3,2,0]),(4,[3,2,0]),(5,[3,2,0]),(6,[6,5,4,3,2,0]),(7,[4,3,2]),(8,[3,2]),(9,[2])] []),
 (77,Zp [] [] [(121,1,true)] [] [(0,[1]),(1,[2,1]),(2,[10,2,1]),(3,[11,10,2,1]),(4,[1]),(5,[15,10,2,1]),(6,[3,2,1]),(7,[3,2,1]),(8,[2,1]),(9,[2,1]),(10,[1]),(11,[37,10,2,1]),(12,[1]),(13,[41,10,2,1]),(14,[41,10,2,1]),(15,[41,10,2,1]),(16,[41,10,2,1]),(17,[1]),(18,[1]),(19,[50,10,2,1]),(20,[1]),(21,[56,10,2,1]),(22,[1]),(23,[61,10,2,1]),(24,[61,10,2,1]),(25,[1]),(26,[67,10,1]),(27,[67,1]),(28,[1]),(29,[])] []),
 (123,Zp [] [] [] [] [(0,[])] []),
 (125,Zp [] [] [] [] [(0,[])] []),
 (116,Zp [] [] [] [] [(0,[0]),(1,[3,0]),(2,[3]),(3,[2])] []),
 (114,Zp [] [] [] [] [(0,[2,0]),(1,[2,0]),(2,[2,0]),(3,[3,2,0]),(4,[3,2,0]),(5,[3,2,0]),(6,[3,2,0]),(7,[2,0]),(8,[2,0]),(9,[2,0]),(10,[2,0]),(11,[107,2,0]),(12,[2,0]),(13,[2,0]),(14,[2,0]),(15,[129,2,0]),(16,[2,0]),(17,[138,2,0]),(18,[])] []),
 (148,Zp [] [] [] [] [(0,[0]),(1,[5,4,3,0]),(2,[4,3,0]),(3,[3]),(4,[2])] []),
 (76,Zp [] [] [] [] [(0,[4,1]),(1,[4,1]),(2,[4,1]),(3,[24,4,1]),(4,[]),(5,[4]),(6,[4]),(7,[])] []),
 (119,Zp [] [] [] [] [(0,[0]),(1,[])] []),
 (121,Zp [] [] [] [] [(0,[1,0]),(1,[1,0]),(2,[1,0]),(3,[29,1,0]),(4,[1,0])] [(3,[1,0])]),
 (115,Zp [] [] [] [] [(0,[1,0]),(1,[1,0]),(2,[5,1,0]),(3,[5]),(4,[4])] []),
 (117,Zp [] [] [] [] [(0,[1,0]),(1,[7,6,5,0]),(2,[6,5,0]),(3,[5]),(4,[4])] []),
 (118,Zp [] [] [] [] [(0,[0]),(1,[13,0]),(2,[0]),(3,[0]),(4,[])] []),
 (120,Zp [] [] [] [] [(0,[7,0]),(1,[0]),(2,[19,0]),(3,[])] []),
 (122,Zp [] [] [] [] [(0,[2,0]),(1,[3,2,0]),(2,[3,2,0]),(3,[3,2,0]),(4,[2,0]),(5,[2,0]),(6,[])] []),
 (124,Zp [] [] [] [] [(0,[0]),(1,[5,4,3,0]),(2,[4,3,0]),(3,[3]),(4,[2])] []),
 (78,Zp [] [] [(130,1,true),(126,1,true),(132,1,true),(127,1,true),(128,1,true),(131,1,true),(129,1,true)] [] [(0,[3,0]),(1,[11,3,0]),(2,[12,11,3,0]),(3,[]),(4,[17,11,3,0]),(5,[3,0]),(6,[3,0]),(7,[]),(8,[32,11,3,0]),(9,[3,0]),(10,[40,3,0]),(11,[3,0]),(12,[3,0]),(13,[]),(14,[55,11,3,0]),(15,[55,11,3,0]),(16,[55,11,3,0]),(17,[55,11,3,0]),(18,[3,0]),(19,[]),(20,[67,11,3,0]),(21,[3,0]),(22,[75,74,73,0]),(23,[76,75,74,73,0]),(24,[75,74,73,5,0]),(25,[75,74,73,5,0]),(26,[75,74,73,0]),(27,[75,74,73,0]),(28,[102,11,3,0]),(29,[3,0]),(30,[110,109,108,0]),(31,[111,110,109,108,0]),(32,[110,109,108,7,0]),(33,[110,109,108,0]),(34,[110,109,108,0]),(35,[118,11,3,0]),(36,[118,11,3,0]),(37,[3,0]),(38,[127,126,125,0]),(39,[128,127,126,125,0]),(40,[127,126,125,9,0]),(41,[127,126,125,0]),(42,[127,126,125,0]),(43,[135,11,3,0]),(44,[135,3,0]),(45,[])] [(23,[75,74,73,0]),(31,[110,109,108,0]),(39,[127,126,125,0])]),
 (126,Zp [] [] [(149,1,true),(127,1,true),(128,1,true),(129,1,true)] [] [(0,[3,0]),(1,[3,0]),(2,[3,0]),(3,[3,0]),(4,[3,0]),(5,[3,0]),(6,[3,0]),(7,[49,3,0]),(8,[3,0]),(9,[3,0]),(10,[3,0]),(11,[66,3,0]),(12,[3,0]),(13,[72,3,0]),(14,[])] []),
 (149,Zp [] [] [(130,1,true)] [] [(0,[4,0]),(1,[])] []),
 (132,Zp [] [] [(127,1,true),(128,1,true)] [] [(0,[3,0]),(1,[3,0]),(2,[])] []),
 (127,Zp [] [] [(130,1,true)] [] [(0,[])] []),
 (128,Zp [] [] [(130,1,true)] [] [(0,[6,0]),(1,[])] []),
 (131,Zp [] [] [(127,1,true),(128,1,true)] [] [(0,[3,0]),(1,[12,3,0]),(2,[3,0]),(3,[20,3,0]),(4,[])] []),
 (129,Zp [] [] [(130,1,true)] [] [(0,[4,0]),(1,[])] []),
 (65,Zp [] [] [] [] [(0,[0]),(1,[3,0]),(2,[18,3,0]),(3,[]),(4,[2]),(5,[2])] []),
 (66,Zp [] [] [] [] [(0,[1,0]),(1,[4])] []),
 (99,Zp [] [] [] [] [(0,[1,0]),(1,[18,1,0]),(2,[1]),(3,[4]),(4,[5,1,0]),(5,[5]),(6,[4])] []),
 (64,Zp [] [] [] [] [(0,[0]),(1,[2])] []),
 (12,Zp [] [] [] [] [(0,[2,1]),(1,[3,2,1]),(2,[33,3,2,1]),(3,[3,2,1]),(4,[4,2,1]),(5,[5,4,2,1]),(6,[53,5,4,2,1]),(7,[5,4,2,1]),(8,[5,4,2,1]),(9,[71,4,2,1]),(10,[4,2]),(11,[2])] [(6,[5,4,2,1])]),
 (47,Zp [] [] [] [] [(0,[1]),(1,[3,1]),(2,[7,3,1]),(3,[3,1]),(4,[18,3,1]),(5,[3,1]),(6,[29,3,1]),(7,[3,1]),(8,[4,3,1]),(9,[45,4,3,1]),(10,[4,3,1]),(11,[4,3,1]),(12,[2])] [(9,[4,3,1])]),
 (63,Zp [] [] [] [] [(0,[1,0]),(1,[4])] []),
 (161,Zp [] [] [] [] [(0,[]),(2,[]),(7,[4])] []),
 (164,Zp [] [] [] [] [] []),
 (93,Zp [6] [] [(137,1,false)] [(111,1,false)] [(0,[2,1]),(1,[2,1]),(2,[2,1]),(3,[15,14,2,1]),(4,[16,15,14,2,1]),(5,[15,14,3,2,1]),(6,[15,14,2,1]),(7,[15,14,2,1]),(8,[2])] [(4,[15,14,2,1])]),
 (45,Zp [] [] [] [] [(0,[2,1]),(1,[4])] []),
 (16,Zp [] [] [] [] [(0,[1]),(1,[3,1]),(2,[5,3,1]),(3,[7,5,3,1]),(4,[9,7,5,3,1]),(5,[2])] []),
 (17,Zp [] [] [(56,1,false)] [] [(0,[1]),(1,[3,1]),(2,[5,3,1]),(3,[7,5,1]),(4,[39,38,37,7,5]),(5,[40,39,38,37,7,5]),(6,[39,38,37,9,7,5]),(7,[39,38,37,7,5]),(8,[39,38,37,7,5]),(9,[2])] [(5,[39,38,37,7,5])]),
 (73,Zp [] [] [(111,1,false)] [] [(0,[8,4,3,2,1]),(1,[9,8,4,3]),(2,[11,10,9,8,3]),(3,[31,10,9,8,3]),(4,[9,8]),(5,[8])] []),
 (44,Zp [] [] [(93,2,false)] [] [(0,[8,4,3,2,1]),(1,[9,8,4,3,2,1]),(2,[10,9,8,4,3,2,1]),(3,[29,10,9,8,4,3,2,1]),(4,[10,9,8,4,1]),(5,[36,10,9,8,4,1]),(6,[10,8,4]),(7,[51,50,49,10,8]),(8,[52,51,50,49,10,8]),(9,[51,50,49,12,10,8]),(10,[51,50,49,10,8]),(11,[51,50,49,10,8]),(12,[8])] [(8,[51,50,49,10,8])]),
 (21,Zp [] [] [] [] [(0,[2,0]),(1,[4,2,0]),(2,[5,4,2,0]),(3,[28,5,2]),(4,[3,2]),(5,[3,2])] []),
 (23,Zp [] [] [] [] [(0,[2,0]),(1,[4,2,0]),(2,[6,5,4,2,0]),(3,[7,6,4,2,0]),(4,[7,6,4,2,0]),(5,[8,7,4,2,0]),(6,[42,41,8,7,4,2,0]),(7,[43,42,41,8,7,4,2,0]),(8,[42,41,9,8,7,4,2,0]),(9,[42,41,9,8,7,4,2,0]),(10,[42,41,8,7,4,2,0]),(11,[42,41,8,7,4,2,0]),(12,[8,7,4,2,0]),(13,[84,7,2]),(14,[3,2]),(15,[3,2])] [(7,[42,41,8,7,4,2,0])]),
 (30,Zp [] [] [] [] [(0,[3,2]),(1,[4])] []),
 (31,Zp [] [] [] [] [(0,[3,2]),(1,[4])] []),
 (58,Zp [] [] [] [] [(0,[0]),(1,[2])] []),
 (98,Zp [] [] [] [] [(0,[0]),(1,[2])] []),
 (57,Zp [] [] [] [] [(0,[1,0]),(1,[5,0]),(2,[0]),(3,[4])] []),
 (62,Zp [] [] [] [] [(0,[1]),(1,[2])] []),
 (55,Zp [] [] [] [] [(0,[0]),(1,[6,0]),(2,[3,2]),(3,[3,2])] []),
 (108,Zp [] [] [] [] [(0,[0]),(1,[3,0]),(2,[8,7,6,3]),(3,[9,8,7,6,3]),(4,[8,7,6,5,3]),(5,[8,7,6,3]),(6,[8,7,6,3]),(7,[2])] [(3,[8,7,6,3])]),
 (106,Zp [] [] [] [] [(0,[0]),(1,[17,0]),(2,[4,3,2]),(3,[3,0]),(4,[4,3,2])] []),
 (109,Zp [] [] [] [] [(0,[0]),(1,[5,4,3]),(2,[12,5,4,3]),(3,[4,3,2]),(4,[16,5,3]),(5,[4,3,2]),(6,[4,3,2])] []),
 (135,Zp [] [] [] [] [(0,[2,0]),(1,[9,8,7,2,0]),(2,[10,9,8,7,2,0]),(3,[9,8,7,6,5,2,0]),(4,[15,9,8,7,6,5,2,0]),(5,[9,8,7,6,5,2,0]),(6,[25,9,8,7,6,5,2,0]),(7,[31,5,2]),(8,[4,3,2]),(9,[4,3,2]),(10,[9,8,7,2,0]),(11,[38]),(12,[4,3,2]),(13,[4,3,2])] [(2,[9,8,7,2,0])]),
 (97,Zp [] [] [] [] [(0,[0]),(1,[6,0]),(2,[8,7,6,0]),(3,[6,4,0]),(4,[11,6,0]),(5,[2]),(6,[2])] [(2,[6,0])]),
 (56,Zp [] [] [] [] [(0,[0]),(1,[3,0]),(2,[8,7,6,3]),(3,[9,8,7,6,3]),(4,[8,7,6,5,3]),(5,[8,7,6,3]),(6,[8,7,6,3]),(7,[2])] [(3,[8,7,6,3])]),
 (59,Zp [] [] [] [] [(0,[1,0]),(1,[12,1,0]),(2,[4]),(3,[5,1,0]),(4,[6,5,0]),(5,[18,6,5,0]),(6,[6,5,0]),(7,[6,5,0]),(8,[6,5,0]),(9,[4])] [(5,[6,5,0])]),
 (54,Zp [] [] [] [] [(0,[0]),(1,[6,0]),(2,[3,2]),(3,[3,2])] []),
 (82,Zp [] [] [] [] [(0,[0]),(1,[10,0]),(2,[3,2]),(3,[4,0]),(4,[12,4,0]),(5,[4,0]),(6,[4,0]),(7,[3,2])] [(4,[4,0])]),
 (41,Zp [] [] [] [] [(0,[3,0]),(1,[4])] []),
 (88,Zp [] [] [] [] [(0,[2,1]),(1,[3])] []),
 (34,Zp [] [] [(78,1,true)] [] [(0,[2,1]),(1,[4,2,1]),(2,[4,2,1]),(3,[5,2,1]),(4,[32,5,2,1]),(5,[5,2,1]),(6,[7,6,5,2,1]),(7,[9,7,6,5,2,1]),(8,[73,5,2]),(9,[3,2]),(10,[3,2])] []),
 (40,Zp [] [] [] [] [(0,[1]),(1,[5,4]),(2,[14,5,4]),(3,[3,2]),(4,[6,4]),(5,[3,2])] []),
 (32,Zp [] [] [] [] [(0,[]),(2,[4,3,2,1]),(3,[4,3,2]),(4,[4,3,2]),(5,[3,2])] []),
 (75,Zp [] [] [] [] [(1,[4]),(2,[]),(3,[7,5]),(4,[]),(6,[3,1,0]),(7,[])] []),
 (35,Zp [] [] [] [] [(0,[3,2]),(1,[5,3,2]),(2,[6,5,3,2]),(3,[7,6,5,3,2]),(4,[8,7,6,5,3,2]),(5,[4])] []),
 (87,Zp [] [] [] [] [(0,[0]),(1,[3]),(2,[4,3]),(3,[2]),(4,[15,3]),(5,[15,3]),(6,[2]),(7,[27,3]),(8,[27,3]),(9,[2]),(10,[33,3]),(11,[2]),(12,[45,3]),(13,[2]),(14,[55,3]),(15,[2]),(16,[66]),(17,[2]),(18,[2])] []),
 (79,Zp [] [] [] [] [(0,[0]),(1,[3]),(2,[4,3]),(3,[4,3]),(4,[4]),(5,[2]),(6,[2])] []),
 (81,Zp [] [] [] [] [(0,[1,0]),(1,[5,1]),(2,[4]),(3,[4])] []),
 (113,Zp [] [] [] [] [(0,[5,1]),(1,[])] []),
 (112,Zp [] [] [] [] [(0,[4,1,0]),(1,[10,9,8,4,0]),(2,[11,10,9,8,4,0]),(3,[10,9,8,7,4,0]),(4,[17,10,9,8,7,4,0]),(5,[5,4]),(6,[10,9,8,4,0]),(7,[5,4])] [(2,[10,9,8,4,0])]),
 (134,Zp [] [] [] [] [(0,[0]),(1,[2])] []),
 (42,Zp [] [] [] [] [(0,[1,0]),(1,[6,1,0]),(2,[16,15,14,6,1,0]),(3,[17,16,15,14,6,1,0]),(4,[16,15,14,8,6,1,0]),(5,[16,15,14,6,1,0]),(6,[16,15,14,6,1,0]),(7,[10,9,6,1,0]),(8,[32,9,6,1,0]),(9,[5,4]),(10,[6,1,0]),(11,[13,12,11,6,1]),(12,[57,6]),(13,[5,4]),(14,[5,4])] [(3,[16,15,14,6,1,0])]),
 (153,Zp [] [] [] [] [(0,[1,0]),(1,[4])] []),
 (143,Zp [] [] [] [] [(0,[1,0]),(1,[5,1,0]),(2,[10,9,8,5,1]),(3,[11,10,9,8,5,1]),(4,[10,9,8,7,5,1]),(5,[17,10,9,8,7,5,1]),(6,[10,9,8,5,1]),(7,[10,9,8,5,1]),(8,[4])] [(3,[10,9,8,5,1])]),
 (90,Zp [] [] [] [] [(0,[4,1,0]),(1,[9,8,7,4,1,0]),(2,[29,8,7,4,1,0]),(3,[6,5,4]),(4,[10,8,7,4,0]),(5,[38,10,8,7,4,0]),(6,[13,12,11,10,8,7,4,0]),(7,[48,13,12,11,10,8,7,4,0]),(8,[6,5,4]),(9,[12,10,8,7,4,0]),(10,[10,8,7,4,0]),(11,[6,5,4])] [(5,[10,8,7,4,0])]),
 (43,Zp [] [] [] [] [(0,[1,0]),(1,[4])] []),
 (92,Zp [] [] [] [] [(0,[3,2]),(1,[4])] []),
 (162,Zp [] [] [] [] [(0,[0]),(1,[3,0]),(2,[8,7,6,3]),(3,[9,8,7,6,3]),(4,[8,7,6,5,3]),(5,[8,7,6,3]),(6,[8,7,6,3]),(7,[2])] [(3,[8,7,6,3])]),
 (147,Zp [] [] [] [] [(0,[2,1]),(1,[2,1]),(2,[2])] []),
 (156,Zp [] [] [] [] [(0,[1]),(1,[4,1]),(2,[5,4,1]),(3,[5,4,1]),(4,[5,4,1]),(5,[5,1]),(6,[2]),(7,[2])] []),
 (89,Zp [] [] [] [] [(0,[1]),(1,[3,1]),(2,[6,5,3,1]),(3,[15,6,5,3,1]),(4,[16,15,6,5,3,1]),(5,[16,15,6,5,3,1]),(6,[16,15,6,5,3,1]),(7,[6,5,3]),(8,[29,15,6,5,3,1]),(9,[6,5,3]),(10,[37,15,6,5,3,1]),(11,[6,5,3]),(12,[45,15,6,5,3,1]),(13,[6,5,3]),(14,[53,6,5,3,1]),(15,[5,3,1]),(16,[6,5,3]),(17,[2])] []),
 (152,Zp [] [] [] [] [(0,[2,0]),(1,[3,2]),(2,[4,3,2]),(3,[2]),(4,[9,3,2]),(5,[2]),(6,[14,3,2]),(7,[14,3,2]),(8,[2]),(9,[20,3,2]),(10,[2]),(11,[25,3,2]),(12,[2]),(13,[30,3,2]),(14,[2]),(15,[35,3,2]),(16,[35,3,2]),(17,[2]),(18,[41,3,2]),(19,[2]),(20,[46,3,2]),(21,[2]),(22,[51,3,2]),(23,[2]),(24,[56,3,2]),(25,[56,3,2]),(26,[2]),(27,[62,3,2]),(28,[2]),(29,[67,3,2]),(30,[2]),(31,[72,3,2]),(32,[2]),(33,[77,3,2]),(34,[77,3,2]),(35,[2]),(36,[83,3,2]),(37,[2]),(38,[88,3,2]),(39,[2]),(40,[93,3,2]),(41,[93,3,2]),(42,[93,3,2]),(43,[93,3,2]),(44,[93,3,2]),(45,[2]),(46,[102,2]),(47,[2]),(48,[2])] []),
 (155,Zp [] [] [] [] [(0,[1,0]),(1,[4])] []),
 (136,Zp [] [] [] [] [(0,[6,2,1,0]),(1,[11,10,9,6,2,1,0]),(2,[28,10,9,6,2,1,0]),(3,[8,7,6]),(4,[12,10,9,7,6,2,0]),(5,[14,12,10,9,7,6,0]),(6,[45,14,10,9,7,6,0]),(7,[8,7,6]),(8,[49,10,9,7,6]),(9,[8,7,6]),(10,[58,10,9,7,6]),(11,[8,7,6]),(12,[65,6]),(13,[8,7,6]),(14,[8,7,6])] []),
 (154,Zp [] [] [] [] [(0,[5,4,1,0]),(1,[5,4,1,0]),(2,[7,5,4,1,0]),(3,[12,7,5,4,1,0]),(4,[13,12,7,5,4,1,0]),(5,[13,12,7,5,4,1,0]),(6,[13,12,7,5,4,1,0]),(7,[7,5,4,1]),(8,[24,7,5,4,1]),(9,[6,5,4]),(10,[7,5,4]),(11,[32,12,7,5,4,1]),(12,[7,5,4]),(13,[41,12,7,5,4,1]),(14,[7,5,4]),(15,[50,12,7,5,4,1]),(16,[7,5,4]),(17,[59,7,5,4,1]),(18,[7,5,4,1]),(19,[69,7,5,4,1]),(20,[5,4,1]),(21,[8,7,5,4]),(22,[7,5,4]),(23,[6,5,4])] []),
 (86,Zp [] [] [] [] [(0,[1,0]),(1,[4])] []),
 (158,Zp [] [] [] [] [(0,[1,0]),(1,[4])] []),
 (91,Zp [] [] [] [] [(0,[2,1,0]),(1,[14,2,1,0]),(2,[6]),(3,[17,16,15,2,1]),(4,[18,17,16,15,2,1]),(5,[17,16,15,8,7,2,1]),(6,[17,16,15,9,8,2,1]),(7,[30,17,16,15,2,1]),(8,[6]),(9,[17,16,15,2,1]),(10,[6])] [(4,[17,16,15,2,1])]),
 (83,Zp [] [] [] [] [(0,[1,0]),(1,[10,1,0]),(2,[4]),(3,[13,12,1,0]),(4,[14,13,12,1,0]),(5,[13,12,5,1,0]),(6,[24,13,12,1,0]),(7,[4]),(8,[13,12,1,0]),(9,[4])] [(4,[13,12,1,0])]),
 (84,Zp [] [] [] [] [(0,[1,0]),(1,[10,1,0]),(2,[4]),(3,[13,12,1,0]),(4,[14,13,12,1,0]),(5,[13,12,5,1,0]),(6,[24,13,12,1,0]),(7,[4]),(8,[13,12,1,0]),(9,[4])] [(4,[13,12,1,0])]),
 (74,Zp [] [] [] [] [(0,[1,0]),(1,[10,1,0]),(2,[4]),(3,[13,12,1,0]),(4,[14,13,12,1,0]),(5,[13,12,5,1,0]),(6,[24,13,12,1,0]),(7,[4]),(8,[13,12,1,0]),(9,[4])] [(4,[13,12,1,0])]),
 (85,Zp [] [] [] [] [(0,[1,0]),(1,[10,1,0]),(2,[4]),(3,[13,12,1,0]),(4,[14,13,12,1,0]),(5,[13,12,5,1,0]),(6,[24,13,12,1,0]),(7,[4]),(8,[13,12,1,0]),(9,[4])] [(4,[13,12,1,0])]),
 (133,Zp [] [] [] [] [(0,[1,0]),(1,[8,7,1,0]),(2,[9,8,7,1,0]),(3,[8,7,5,1,0]),(4,[16,8,7,5,1,0]),(5,[4]),(6,[8,7,1,0]),(7,[4])] [(2,[8,7,1,0])]),
 (163,Zp [] [] [] [] [(0,[1,0]),(1,[8,7,1,0]),(2,[9,8,7,1,0]),(3,[8,7,5,1,0]),(4,[16,8,7,5,1,0]),(5,[4]),(6,[8,7,1,0]),(7,[4])] [(2,[8,7,1,0])]),
 (28,Zp [] [] [] [] [(0,[1,0]),(1,[10,1,0]),(2,[4]),(3,[5,1,0]),(4,[30,0]),(5,[4]),(6,[6,0]),(7,[34,6,0]),(8,[6,0]),(9,[6,0]),(10,[4])] [(7,[6,0])]),
 (18,Zp [] [] [] [] [(0,[1,0]),(1,[8,1,0]),(2,[4]),(3,[4])] []),
 (20,Zp [] [] [] [] [(0,[0]),(1,[3,0]),(2,[3,0]),(3,[3,0]),(4,[2])] []),
 (15,Zp [] [] [] [] [(0,[1,0]),(1,[4])] []),
 (60,Zp [] [] [] [] [(0,[0]),(1,[3,0]),(2,[2])] []),
 (39,Zp [] [] [] [] [(0,[2,1,0]),(1,[7,1,0]),(2,[7,1,0]),(3,[16,7,1,0]),(4,[1,0]),(5,[6])] []),
 (37,Zp [] [] [] [] [(0,[2,1]),(1,[6,2,1]),(2,[2,1]),(3,[14,2,1]),(4,[2,1]),(5,[22,2,1]),(6,[2,1]),(7,[30,2,1]),(8,[2,1]),(9,[39,2,1]),(10,[2,1]),(11,[2,1]),(12,[2])] []),
 (5,Zp [] [] [] [] [(0,[3,2]),(1,[3,2]),(2,[6,5,3,2]),(3,[26,5,3,2]),(4,[8,7,5,3,2]),(5,[10,9,8,7,5,3,2]),(6,[66,3]),(7,[4]),(8,[70,3]),(9,[4]),(10,[3]),(11,[12,11,3]),(12,[80,12,11,3]),(13,[4]),(14,[14,13,3]),(15,[4])] []),
 (9,Zp [] [] [] [] [(0,[2,1,0]),(1,[2,1,0]),(2,[7,2,1,0]),(3,[25,7,2,1,0]),(4,[6]),(5,[33,25,7,2,1,0]),(6,[33,25,7,2,1,0]),(7,[33,25,7,2,1,0]),(8,[33,25,7,2,1,0]),(9,[7,1,0]),(10,[40,25,7,2,1,0]),(11,[40,25,7,2,1,0]),(12,[7,1,0]),(13,[49,25,7,1,0]),(14,[49,25,7,1,0]),(15,[49,7,1,0]),(16,[9,8,7,1,0]),(17,[10,9,8,7]),(18,[62,9,8,7]),(19,[6]),(20,[12,11,9,8,7]),(21,[14,13,12,9,8,7]),(22,[6])] []),
 (7,Zp [] [] [] [] [(0,[2,1]),(1,[2,1]),(2,[6,5,2,1]),(3,[18,5,2,1]),(4,[4]),(5,[8,7,2]),(6,[35,8,7,2]),(7,[36,35,8,7,2]),(8,[36,35,8,7,2]),(9,[36,35,8,7,2]),(10,[36,35,8,7,2]),(11,[4]),(12,[52,8,7,2]),(13,[4]),(14,[4])] []),
 (8,Zp [] [] [] [] [(0,[3,2]),(1,[3,2]),(2,[6,5,3,2]),(3,[8,7,6,5,3,2]),(4,[30,7,5,3,2]),(5,[4]),(6,[4])] []),
 (10,Zp [] [] [] [] [(0,[1,0]),(1,[14,1,0]),(2,[1,0]),(3,[1,0]),(4,[6,5,1,0]),(5,[8,7,6,5,1,0]),(6,[33,8,7,5,1,0]),(7,[4]),(8,[9,8,7,1,0]),(9,[11,10,9,8,7,1,0]),(10,[4])] []),
 (6,Zp [] [] [] [] [(0,[2,1]),(1,[6,5,2,1]),(2,[23,5,2,1]),(3,[4]),(4,[5,2,1]),(5,[8,7,2]),(6,[44,7,2]),(7,[4]),(8,[52,7,2]),(9,[53,52,7,2]),(10,[53,52,7,2]),(11,[53,52,7,2]),(12,[53,52,7,2]),(13,[53,52,7,2]),(14,[53,52,7,2]),(15,[53,52,7,2]),(16,[53,52,7,2]),(17,[53,52,7,2]),(18,[53,52,7,2]),(19,[53,7,2]),(20,[4]),(21,[4])] []),
 (33,Zp [] [] [] [] [(0,[0]),(1,[2])] []),
 (38,Zp [] [] [] [] [(0,[]),(1,[2,1]),(2,[4,3,2,1]),(3,[0])] []),
 (4,Zp [] [] [] [] [(0,[1]),(1,[3]),(2,[5,4,3]),(3,[7,6,5,4,3]),(4,[2])] []),
 (3,Zp [] [] [] [] [(0,[4,3,2,1]),(1,[9,3,2,1]),(2,[10,9,3,2,1]),(3,[12,10,9,3,2,1]),(4,[50,12,10,3,2,1]),(5,[8]),(6,[12,10,3,2,1]),(7,[14]),(8,[15,14]),(9,[68,15,14]),(10,[15,14]),(11,[16,15,14]),(12,[18,17,16,15,14]),(13,[20,19,18,17,16,15,14]),(14,[22,21,20,19,18,17,16,15,14]),(15,[24,23,22,21,20,19,18,17,16,15,14]),(16,[144,15,14]),(17,[8]),(18,[8])] [(9,[15,14])]),
 (11,Zp [] [] [] [] [(0,[3,2,1]),(1,[7,2,1]),(2,[7,2,1]),(3,[8,7,2]),(4,[9,8,7]),(5,[11,10,9,8,7]),(6,[50,9,8,7]),(7,[6]),(8,[12,9,8,7]),(9,[13,12,9,8,7]),(10,[55,13,12,9,8,7]),(11,[13,12,9,8,7]),(12,[64,13,12,9,8,7]),(13,[13,12,9,8,7]),(14,[71,12,8,7]),(15,[6]),(16,[88,12,8,7]),(17,[6]),(18,[6])] [(10,[13,12,9,8,7])]),
 (25,Zp [] [] [] [] [(0,[0]),(1,[2])] []),
 (46,Zp [] [] [] [] [(0,[0]),(1,[3,0]),(2,[4,3,0]),(3,[12,4,3,0]),(4,[4,3,0]),(5,[4,3,0]),(6,[2])] [(3,[4,3,0])]),
 (19,Zp [] [] [(60,1,false)] [] [(0,[2,1,0]),(1,[7,2,1]),(2,[12,7,2,1]),(3,[6]),(4,[7,2,1]),(5,[20,7,2,1]),(6,[6]),(7,[7]),(8,[6])] []),
 (29,Zp [3] [] [] [] [(0,[]),(1,[1]),(2,[2,1]),(3,[0])] []),
 (49,Zp [] [] [(53,1,false)] [] [(0,[0]),(1,[6,0]),(2,[3,2]),(3,[3,2])] []),
 (100,Zp [] [] [] [] [(0,[0]),(1,[3,0]),(2,[4,3,0]),(3,[8,4,3,0]),(4,[4,3,0]),(5,[4,3,0]),(6,[2])] [(3,[4,3,0])]),
 (146,Zp [] [] [] [] [(0,[0]),(1,[8,0]),(2,[4,3,2]),(3,[5,0]),(4,[17,5,0]),(5,[4,3,2]),(6,[4,3,2])] []),
 (145,Zp [] [] [] [] [(0,[0]),(1,[7,6,5]),(2,[15,7,6,5]),(3,[4,3,2]),(4,[20,6,5]),(5,[4,3,2]),(6,[4,3,2])] []),
 (101,Zp [] [] [] [] [(0,[0]),(1,[6,5,0]),(2,[7,6,5,0]),(3,[9,7,6,5,0]),(4,[7,6,5,0]),(5,[15,7,6,5,0]),(6,[4,3,2]),(7,[7,6,5,0]),(8,[7,6,5,0]),(9,[32,7,6,5,0]),(10,[41,7,5]),(11,[4,3,2]),(12,[4,3,2]),(13,[4,3,2])] [(3,[7,6,5,0])]),
 (94,Zp [] [] [] [] [(0,[0]),(1,[6,0]),(2,[4,3,0]),(3,[17,4,0]),(4,[2]),(5,[0]),(6,[2])] [(1,[0])]),
 (53,Zp [] [] [] [] [(0,[1,0]),(1,[12,1,0]),(2,[4]),(3,[5,1,0]),(4,[6,5,0]),(5,[18,6,5,0]),(6,[6,5,0]),(7,[6,5,0]),(8,[6,5,0]),(9,[4])] [(5,[6,5,0])]),
 (48,Zp [] [] [(49,1,false)] [] [(0,[0]),(1,[6,0]),(2,[3,2]),(3,[3,2])] []),
 (140,Zp [] [] [] [] [(0,[0]),(1,[10,0]),(2,[3,2]),(3,[4,0]),(4,[12,4,0]),(5,[4,0]),(6,[4,0]),(7,[3,2])] [(4,[4,0])]),
 (138,Zp [] [] [] [] [(0,[0]),(1,[4,0]),(2,[4,0]),(3,[3,2]),(4,[11,4,0]),(5,[3,2]),(6,[15,4,0]),(7,[6,5,4,0]),(8,[24,4,0]),(9,[6,5,4,0]),(10,[33,4,0]),(11,[6,5,4,0]),(12,[45,6,5,4,0]),(13,[3,2]),(14,[7,6,5,4,0]),(15,[48,7,6,5,4,0]),(16,[7,6,5,4,0]),(17,[60,7,6,5,4,0]),(18,[3,2]),(19,[7,6,5,4,0]),(20,[83,5,4]),(21,[3,2]),(22,[3,2])] [(15,[7,6,5,4,0])]),
 (110,Zp [] [] [] [] [(0,[3,2]),(1,[4])] []),
 (95,Zp [] [] [] [] [(0,[0]),(1,[4,0]),(2,[5,4,0]),(3,[14,5,4,0]),(4,[5,4,0]),(5,[6,5,4,0]),(6,[28,6,5,4,0]),(7,[3,2]),(8,[6,5,4,0]),(9,[8,7,5,4,0]),(10,[41,7,5,4,0]),(11,[3,2]),(12,[5,4,0]),(13,[10,9,4]),(14,[3,2])] [(3,[5,4,0])]),
 (104,Zp [] [] [] [] [(0,[4,1,0]),(1,[6,4,1,0]),(2,[10,6,4,1,0]),(3,[6,4,1,0]),(4,[19,6,4,1,0]),(5,[5,4]),(6,[5,4])] [(2,[6,4,1,0])]),
 (144,Zp [] [] [] [] [(0,[0]),(1,[3]),(2,[4,3]),(3,[4,3]),(4,[4,3]),(5,[4,3]),(6,[4,3]),(7,[4,3]),(8,[4,3]),(9,[4,3]),(10,[2]),(11,[13,3]),(12,[13,3]),(13,[13,3]),(14,[13,3]),(15,[2]),(16,[18,3]),(17,[18,3]),(18,[18,3]),(19,[18,3]),(20,[2]),(21,[23,3]),(22,[2]),(23,[25,3]),(24,[25,3]),(25,[25,3]),(26,[25,3]),(27,[25,3]),(28,[25,3]),(29,[25,3]),(30,[2]),(31,[33,3]),(32,[33,3]),(33,[2]),(34,[36]),(35,[2]),(36,[2])] []),
 (50,Zp [] [] [] [] [(0,[1,0]),(1,[7,6,1,0]),(2,[17,6,1,0]),(3,[5,4]),(4,[10,9,8,6,1]),(5,[38,6]),(6,[5,4]),(7,[5,4])] []),
 (102,Zp [] [] [] [] [(0,[1,0]),(1,[5,1]),(2,[6,5,1]),(3,[6,5,1]),(4,[6,5,1]),(5,[6,5,1]),(6,[6,5,1]),(7,[4]),(8,[15,5,1]),(9,[4]),(10,[20,5,1]),(11,[4]),(12,[25,5,1]),(13,[25,5,1]),(14,[25,5,1]),(15,[25,5,1]),(16,[25,5,1]),(17,[25,5,1]),(18,[25,5,1]),(19,[25,5,1]),(20,[4]),(21,[36,5,1]),(22,[36,5,1]),(23,[4]),(24,[42,5,1]),(25,[42,5,1]),(26,[4]),(27,[47,5,1]),(28,[4]),(29,[51,5,1]),(30,[4]),(31,[56,5,1]),(32,[4]),(33,[61,5,1]),(34,[61,5,1]),(35,[61,5,1]),(36,[4]),(37,[68,5,1]),(38,[4]),(39,[72,1]),(40,[4]),(41,[4])] []),
 (96,Zp [] [] [] [] [(0,[1,0]),(1,[5,1,0]),(2,[6,5,1,0]),(3,[10,6,5,1,0]),(4,[6,5,1,0]),(5,[19,6,5,1,0]),(6,[6,5,1,0]),(7,[4])] [(3,[6,5,1,0])]),
 (67,Zp [] [] [] [] [(0,[1,0]),(1,[9,8,7,1,0]),(2,[36,8,7,1,0]),(3,[6,5,4]),(4,[10,8,7,0]),(5,[11,10,8,7,0]),(6,[45,11,10,8,7,0]),(7,[14,13,12,11,10,8,7,0]),(8,[59,13,12,11,10,8,7,0]),(9,[6,5,4]),(10,[17,16,15,13,12,11,10,8,7,0]),(11,[70,16,15,13,12,11,10,8,7,0]),(12,[6,5,4]),(13,[19,16,15,13,12,11,10,8,7,0]),(14,[90,16,15,13,12,11,10,8,7,0]),(15,[6,5,4]),(16,[20,16,15,13,11,10,8,7,0]),(17,[96,20,16,15,13,11,10,8,7,0]),(18,[6,5,4]),(19,[16,13,11,10,8,7,0]),(20,[11,10,8,7,0]),(21,[6,5,4])] [(6,[11,10,8,7,0])]),
 (72,Zp [] [] [] [] [(0,[1,0]),(1,[10,1,0]),(2,[4]),(3,[5,1,0]),(4,[14,5,1,0]),(5,[5,1,0]),(6,[26,5,1,0]),(7,[4]),(8,[4])] [(4,[5,1,0])]),
 (141,Zp [] [] [] [] [(0,[1,0]),(1,[5,1,0]),(2,[9,5,1,0]),(3,[5,1,0]),(4,[17,5,1,0]),(5,[4]),(6,[4])] [(2,[5,1,0])]),
 (139,Zp [] [] [(48,1,false)] [] [(0,[1]),(1,[16,1]),(2,[17,16,1]),(3,[3,2]),(4,[31,16,1]),(5,[3,2]),(6,[45,16,1]),(7,[3,2]),(8,[59,16,1]),(9,[5,4]),(10,[3,2]),(11,[70,16,1]),(12,[7,6]),(13,[3,2]),(14,[81,16,1]),(15,[9,8]),(16,[3,2]),(17,[92,1]),(18,[11,10,1]),(19,[13,12,11,10]),(20,[3,2]),(21,[3,2])] []),
 (105,Zp [] [] [] [] [(0,[1,0]),(1,[5,1]),(2,[6,5,1]),(3,[6,5,1]),(4,[6,5,1]),(5,[6,5,1]),(6,[6,5,1]),(7,[6,5,1]),(8,[6,5,1]),(9,[6,5,1]),(10,[16]),(11,[4]),(12,[17,5,1]),(13,[17,5,1]),(14,[17,5,1]),(15,[22]),(16,[4]),(17,[23,1]),(18,[26]),(19,[4]),(20,[4])] []),
 (103,Zp [] [] [] [] [(0,[4,1,0]),(1,[7,4,1,0]),(2,[8,7,4,1,0]),(3,[26,8,7,4,1]),(4,[27,26,8,7,4,1]),(5,[8,7,4,1]),(6,[29,26,8,7,4,1]),(7,[8,7,4,1]),(8,[31,26,8,7,4,1]),(9,[8,7,4,1]),(10,[33,26,8,7,4,1]),(11,[11,10,9,7,4]),(12,[11,10,7,4]),(13,[6,5,4]),(14,[47,26,8,7,4,1]),(15,[14,13,12,7,4]),(16,[14,13,7,4]),(17,[6,5,4]),(18,[61,26,8,7,4,1]),(19,[17,16,15,7,4]),(20,[17,16,7,4]),(21,[6,5,4]),(22,[77,8,7,4,1]),(23,[20,19,18,7,4,1]),(24,[86,19,18,7,4,1]),(25,[6,5,4]),(26,[22,21,20,19,18,7,4]),(27,[22,20,19,7,4]),(28,[6,5,4]),(29,[109,8,7,4,1]),(30,[6,5,4]),(31,[8,7,4]),(32,[6,5,4])] []),
 (36,Zp [] [] [] [] [(0,[3,2]),(1,[112,3,2]),(2,[4]),(3,[163,3,2]),(4,[4]),(5,[5,3,2]),(6,[168,5,3,2]),(7,[5,3,2]),(8,[181,5,3,2]),(9,[4]),(10,[6,3,2]),(11,[186,6,3,2]),(12,[6,3,2]),(13,[199,6,3,2]),(14,[4]),(15,[7,3,2]),(16,[204,7,3,2]),(17,[7,3,2]),(18,[217,7,3,2]),(19,[4]),(20,[9,8]),(21,[4])] [(6,[5,3,2]),(11,[6,3,2]),(16,[7,3,2])]),
 (51,Zp [] [] [] [] [(0,[0]),(1,[2])] []),
 (13,Zp [] [] [] [] [(0,[1]),(1,[5,4,1]),(2,[7,6,5,4,1]),(3,[9,8,7,6,5,4,1]),(4,[11,10,9,8,7,6,5,4,1]),(5,[12,10,8,6,4,1]),(6,[12,10,8,6,4,1]),(7,[13,12,10,8,1]),(8,[13,12,10,1]),(9,[13,12,10,1]),(10,[3,2])] []),
 (14,Zp [] [] [] [] [(0,[1]),(1,[5,4,1]),(2,[7,6,5,1]),(3,[9,8,7,6,5,1]),(4,[8,6,5,1]),(5,[10,8,5,1]),(6,[11,10,8,5,1]),(7,[72,11,10,8,5,1]),(8,[11,10,8,5,1]),(9,[11,10,8,5,1]),(10,[11,10,8,5,1]),(11,[3,2])] [(7,[11,10,8,5,1])]),
 (22,Zp [] [] [] [] [(0,[2,0]),(1,[4,2,0]),(2,[5,4,2,0]),(3,[6,5,4,2,0]),(4,[5,4,2,0]),(5,[5,4,2,0]),(6,[5,4,2,0]),(7,[48,5,4,2,0]),(8,[9,8,7,5,4,2,0]),(9,[7,5,4,2,0]),(10,[5,4,2,0]),(11,[11,10,5,4,2,0]),(12,[93,5,2]),(13,[3,2]),(14,[3,2])] []),
 (24,Zp [] [] [] [] [(0,[2,0]),(1,[4,2,0]),(2,[6,5,4,2,0]),(3,[7,6,4,2,0]),(4,[8,7,6,4,2,0]),(5,[7,6,4,2,0]),(6,[9,7,6,4,2,0]),(7,[10,9,7,6,4,2,0]),(8,[44,10,9,7,6,4,2,0]),(9,[10,9,7,6,4,2,0]),(10,[10,9,7,6,4,2,0]),(11,[7,6,4,2,0]),(12,[12,11,7,6,4,2,0]),(13,[80,7,2]),(14,[3,2]),(15,[3,2])] [(8,[10,9,7,6,4,2,0])]),
 (26,Zp [] [] [] [] [(0,[3,2]),(1,[4])] []),
 (27,Zp [] [] [] [] [(0,[3,2]),(1,[41,3,2]),(2,[4]),(3,[5,3,2]),(4,[46,5,3,2]),(5,[5,3,2]),(6,[59,5,3,2]),(7,[4]),(8,[4])] [(4,[5,3,2])]),
 (52,Zp [] [] [] [] [(0,[1,0]),(1,[5,0]),(2,[4]),(3,[4])] []),
 (1000000,{})]
def ann:Nat→Ann:=Zet {} ZE6
def ZxK:List (Nat×Bool):=[
 (28,true),
 (1000000,false)]
def BY:Nat→Bool:=Zet false ZxK
noncomputable def CF:Nat→Option ZD:=Ziv Tryd.prog ann
noncomputable def FC:Nat→Option ZD:=fun f=>(CF f).map ZlU
def ZuS:List (Nat×Option (List AVal→Za→Option (AVal×Za))):=[
 (111,some (Zhk 1 1)),
 (137,some (Zhk 5 72)),
 (142,some (ZnX)),
 (32,some (ZiN)),
 (130,some (ZiN)),
 (1000000,none)]
def PR:Zcm:=Zet none ZuS
def oI (d:Nat) (i:Ins):AOp:=⟨some d,i,none,[]⟩
def oN (i:Ins):AOp:=⟨none,i,none,[]⟩
theorem xw (c d:Ze) (h:c=d) (m:Nat) (tm:Tms) (σ:Za):evC FC PR BY m c tm σ=evC FC PR BY m d tm σ:=by rw [h]
noncomputable abbrev E:ZO:=EV FC PR BY
theorem Zh {f:Nat} {fn:ZD} (hp:PR f=none) (hf:FC f=some fn) (args:List AVal) (σ:Za):E f args σ=Zan σ.length fn (evC FC PR BY σ.length fn.body (enterA 0 args []) σ):=ZtK hp hf args σ
end Go.Proofs.YtmlkhhidifjjfaaDoor
namespace Go.Proofs.YtmlkhhidifjjfaaDoor
def Zlm:Ze:=(.seq (.region [oI 2 (.mov (.c (.lst true []))),oI 3 (.mov (.c (.int .i64 0)))] none [0]) (.seq (.seq (.region [oI 4 (.mov (.t 0)),oI 5 (.len (.t 4)),oI 6 (.bin .gtr (.t 5) (.c (.int .i64 65535)))] none [6,0]) (.cond (.t 6) (.seq (.region [oI 2 (.mov (.c (.lst true []))),oI 3 (.mov (.c (.int .i64 10)))] none [3,2]) .ret) .skip)) (.seq (.region [oI 7 (.mov (.t 0)),oI 8 (.len (.t 7)),oI 9 (.i2i .u64 (.t 8)),oI 10 (.call 59 0 true [(.t 9),(.c (.int .i64 2))]),oI 11 (.mov (.t 0)),oI 12 (.bslice false 1 2 (.lst true []) [(0,(.t 10)),(1,(.t 11))]),oI 13 (.call 56 0 true [(.t 12)]),oI 2 (.mov (.t 13)),oI 3 (.mov (.c (.int .i64 0)))] none [3,2]) .ret)))
def ZpT:ZD:=⟨[(.tmp 2),(.tmp 3)],Zlm⟩
theorem Zs7:FC 55=some ZpT:=by kernel_rfl
theorem Zuc:ZpT.body=Zlm:=rfl
theorem Zu7:ZpT.res=[(.tmp 2),(.tmp 3)]:=rfl
def Zoy:Ze:=(.seq (.region [oI 18 (.mov (.t 3)),oI 2 (.mov (.t 18))] none [2]) .ret)
def ZpZ:Ze:=Zoy
def ZKs:=xw ZpZ Zoy rfl
def ZlG:Ze:=(.seq (.region [oI 9 (.bin .lss (.t 8) (.t 7))] none [9,8,7,6,3]) (.seq (.cond (.t 9) .skip (.exit 0)) (.seq (.block 1 (.seq (.region [oI 10 (.iaddr 1 (.t 6) (.t 8)),oI 11 (.ld none (.t 10)),oI 5 (.mov (.t 11))] none [8,7,6,5,3]) (.region [oI 12 (.mov (.t 3)),oI 13 (.bin .shl (.t 12) (.c (.int .u64 8))),oI 14 (.mov (.t 5)),oI 15 (.i2i .u64 (.t 14)),oI 16 (.bin .or (.t 13) (.t 15)),oI 3 (.mov (.t 16))] none [8,7,6,3]))) (.region [oI 17 (.bin .add (.t 8) (.c (.int .i64 1))),oI 8 (.mov (.t 17))] none [8,7,6,3]))))
def Zng:Ze:=ZlG
def ZqU:=xw Zng ZlG rfl
def Zml:Ze:=(.seq (.region [oI 2 (.mov (.c (.int .u64 0)))] none [0]) (.seq (.region [oI 3 (.mov (.c (.int .u64 0)))] none [3,0]) (.seq (.seq (.region [oI 6 (.mov (.t 0)),oI 7 (.len (.t 6)),oI 8 (.mov (.c (.int .i64 0)))] none [8,7,6,3]) (.block 0 (.loop [8,7,6,3] Zng))) ZpZ)))
def Zlg:ZD:=⟨[(.tmp 2)],Zml⟩
theorem ZLG:FC 108=some Zlg:=by kernel_rfl
theorem Zxn:Zlg.body=Zml:=rfl
theorem ZEN:Zlg.res=[(.tmp 2)]:=rfl
noncomputable def ZkX (m:Nat) (tm:Tms) (σ:Za):Option (AVal×Za):=(Zan m Zlg (ZbE FC PR BY m ZpZ (Option.map (ZaW 0) (evL FC PR BY m [8,7,6,3] Zng tm σ))))
def Zh8:Ze:=(.seq (.region [oI 2 (.mov (.c (.lst true []))),oI 3 (.mov (.c (.int .i64 0))),oI 4 (.mov (.c (.int .i64 0)))] none [0]) (.seq (.seq (.region [oI 5 (.mov (.t 0)),oI 6 (.len (.t 5)),oI 7 (.bin .lss (.t 6) (.c (.int .i64 2))),oI 8 (.mov (.t 7)),⟨(some 9),(.mov (.t 0)),(some (8,false)),[]⟩,⟨(some 10),(.len (.t 9)),(some (8,false)),[]⟩,⟨(some 11),(.bin .sub (.t 10) (.c (.int .i64 2))),(some (8,false)),[]⟩,⟨(some 12),(.mov (.t 0)),(some (8,false)),[]⟩,⟨(some 13),(.slice 1 (.t 12) none (some (.c (.int .i64 2))) none),(some (8,false)),[]⟩,⟨(some 14),(.call 108 0 true [(.t 13)]),(some (8,false)),[]⟩,⟨(some 15),(.i2i .i64 (.t 14)),(some (8,false)),[]⟩,⟨(some 16),(.bin .lss (.t 11) (.t 15)),(some (8,false)),[]⟩,oI 17 (.pick (.t 8) (.c (.bool true)) (.t 16))] none [17,0]) (.cond (.t 17) (.seq (.region [oI 2 (.mov (.c (.lst true []))),oI 3 (.mov (.c (.int .i64 0))),oI 4 (.mov (.c (.int .i64 11)))] none [4,3,2]) .ret) .skip)) (.seq (.region [oI 18 (.mov (.t 0)),oI 19 (.slice 1 (.t 18) none (some (.c (.int .i64 2))) none),oI 20 (.call 108 0 true [(.t 19)]),oI 21 (.i2i .i64 (.t 20)),oI 22 (.bin .add (.c (.int .i64 2)) (.t 21)),oI 3 (.mov (.t 22))] none [3,0]) (.seq (.region [oI 23 (.mov (.t 0)),oI 24 (.mov (.t 3)),oI 25 (.slice 1 (.t 23) (some (.c (.int .i64 2))) (some (.t 24)) none),oI 26 (.bslice false 1 1 (.lst true []) [(0,(.t 25))]),oI 27 (.call 56 0 true [(.t 26)]),oI 28 (.mov (.t 3)),oI 2 (.mov (.t 27)),oI 3 (.mov (.t 28)),oI 4 (.mov (.c (.int .i64 0)))] none [4,3,2]) .ret))))
def ZpI:ZD:=⟨[(.tmp 2),(.tmp 3),(.tmp 4)],Zh8⟩
theorem ZpJ:FC 106=some ZpI:=by kernel_rfl
theorem ZpW:ZpI.body=Zh8:=rfl
theorem ZoF:ZpI.res=[(.tmp 2),(.tmp 3),(.tmp 4)]:=rfl
def ZiJ:Ze:=(.seq (.region [oI 2 (.mov (.c (.str []))),oI 3 (.mov (.c (.int .i64 0))),oI 4 (.mov (.c (.int .i64 0)))] none [0]) (.seq (.region [oI 7 (.mov (.t 0)),oI 8 (.call 106 0 true [(.t 7)]),oI 6 (.mov (.t 8)),oI 9 (.ext (.t 6) 0),oI 10 (.ext (.t 6) 1),oI 11 (.ext (.t 6) 2),oI 5 (.mov (.t 9)),oI 3 (.mov (.t 10)),oI 4 (.mov (.t 11))] none [5,4,3]) (.seq (.block 0 (.seq (.region [oI 13 (.mov (.t 4)),oI 14 (.bin .neq (.t 13) (.c (.int .i64 0))),oI 12 (.mov (.t 14))] none [12,5,4,3]) (.cond (.t 12) (.seq (.region [oI 15 (.mov (.t 4)),oI 2 (.mov (.c (.str []))),oI 3 (.mov (.c (.int .i64 0))),oI 4 (.mov (.t 15))] none [4,3,2]) .ret) (.seq (.region [oI 17 (.mov (.t 5)),oI 18 (.b2s (.t 17)),oI 19 (.call 97 0 true [(.t 18)]),oI 20 (.un .not (.t 19)),oI 16 (.mov (.t 20))] none [16,5,3]) (.cond (.t 16) (.seq (.region [oI 2 (.mov (.c (.str []))),oI 3 (.mov (.c (.int .i64 0))),oI 4 (.mov (.c (.int .i64 13)))] none [4,3,2]) .ret) .skip))))) (.seq (.region [oI 21 (.mov (.t 5)),oI 22 (.b2s (.t 21)),oI 23 (.mov (.t 3)),oI 2 (.mov (.t 22)),oI 3 (.mov (.t 23)),oI 4 (.mov (.c (.int .i64 0)))] none [4,3,2]) .ret))))
def Zns:ZD:=⟨[(.tmp 2),(.tmp 3),(.tmp 4)],ZiJ⟩
theorem Zsm:FC 109=some Zns:=by kernel_rfl
theorem Znf:Zns.body=ZiJ:=rfl
theorem ZoC:Zns.res=[(.tmp 2),(.tmp 3),(.tmp 4)]:=rfl
def Zio:Ze:=(.seq (.seq (.region [oI 36 (.mov (.t 0)),oI 37 (.len (.t 36)),oI 38 (.bin .lss (.t 37) (.c (.int .i64 4)))] none [38]) (.cond (.t 38) (.seq (.region [oI 2 (.mov (.c (.int .i64 0))),oI 3 (.mov (.c (.int .i64 0))),oI 4 (.mov (.c (.int .i64 11)))] none [4,3,2]) .ret) .skip)) (.seq (.region [oI 2 (.mov (.c (.int .i64 0))),oI 3 (.mov (.c (.int .i64 0))),oI 4 (.mov (.c (.int .i64 12)))] none [4,3,2]) .ret))
def Zor:Ze:=Zio
def Zqq:=xw Zor Zio rfl
def ZeQ:Ze:=(.seq (.region [oI 10 (.bin .lss (.t 9) (.t 8))] none [10,9,8,7,2,0]) (.seq (.cond (.t 10) .skip (.exit 0)) (.seq (.block 1 (.seq (.region [oI 11 (.mov (.t 9)),oI 12 (.iaddr 1 (.t 7) (.t 9)),oI 13 (.ld none (.t 12)),oI 5 (.mov (.t 11)),oI 6 (.mov (.t 13))] none [9,8,7,6,5,2,0]) (.seq (.seq (.region [oI 14 (.mov (.t 5)),oI 15 (.bin .eql (.t 14) (.c (.int .i64 4)))] none [15,9,8,7,6,5,2,0]) (.cond (.t 15) (.exit 0) .skip)) (.seq (.region [oI 16 (.mov (.t 2)),oI 17 (.mov (.t 6)),oI 18 (.bin .and (.t 17) (.c (.int .u8 127))),oI 19 (.i2i .i64 (.t 18)),oI 20 (.mov (.t 5)),oI 21 (.bin .mul (.c (.int .i64 7)) (.t 20)),oI 22 (.bin .shl (.t 19) (.t 21)),oI 23 (.bin .or (.t 16) (.t 22)),oI 2 (.mov (.t 23))] none [9,8,7,6,5,2,0]) (.seq (.region [oI 24 (.mov (.t 6)),oI 25 (.bin .lss (.t 24) (.c (.int .u8 128)))] none [25,9,8,7,6,5,2,0]) (.cond (.t 25) (.seq (.seq (.region [oI 26 (.mov (.t 6)),oI 27 (.bin .eql (.t 26) (.c (.int .u8 0))),oI 28 (.mov (.t 27)),⟨(some 29),(.mov (.t 5)),(some (28,true)),[]⟩,⟨(some 30),(.bin .gtr (.t 29) (.c (.int .i64 0))),(some (28,true)),[]⟩,oI 31 (.pick (.t 28) (.t 30) (.c (.bool false)))] none [31,5,2]) (.cond (.t 31) (.seq (.region [oI 2 (.mov (.c (.int .i64 0))),oI 3 (.mov (.c (.int .i64 0))),oI 4 (.mov (.c (.int .i64 12)))] none [4,3,2]) .ret) .skip)) (.seq (.region [oI 32 (.mov (.t 2)),oI 33 (.mov (.t 5)),oI 34 (.bin .add (.t 33) (.c (.int .i64 1))),oI 2 (.mov (.t 32)),oI 3 (.mov (.t 34)),oI 4 (.mov (.c (.int .i64 0)))] none [4,3,2]) .ret)) .skip)))))) (.region [oI 35 (.bin .add (.t 9) (.c (.int .i64 1))),oI 9 (.mov (.t 35))] none [9,8,7,2,0]))))
def ZnB:Ze:=ZeQ
def Zgq:=xw ZnB ZeQ rfl
def ZmO:Ze:=(.seq (.region [oI 2 (.mov (.c (.int .i64 0))),oI 3 (.mov (.c (.int .i64 0))),oI 4 (.mov (.c (.int .i64 0)))] none [2,0]) (.seq (.seq (.region [oI 7 (.mov (.t 0)),oI 8 (.len (.t 7)),oI 9 (.mov (.c (.int .i64 0)))] none [9,8,7,2,0]) (.block 0 (.loop [9,8,7,2,0] ZnB))) Zor))
def Zjv:ZD:=⟨[(.tmp 2),(.tmp 3),(.tmp 4)],ZmO⟩
theorem ZEB:FC 135=some Zjv:=by kernel_rfl
theorem ZLj:Zjv.body=ZmO:=rfl
theorem Zhz:Zjv.res=[(.tmp 2),(.tmp 3),(.tmp 4)]:=rfl
noncomputable def Zhb (m:Nat) (tm:Tms) (σ:Za):Option (AVal×Za):=(Zan m Zjv (ZbE FC PR BY m Zor (Option.map (ZaW 0) (evL FC PR BY m [9,8,7,2,0] ZnB tm σ))))
def ZmA:Ze:=(.seq (.region [oI 12 (.mov (.t 0)),oI 13 (.call 142 0 true [(.t 12)]),oI 2 (.mov (.t 13))] none [2]) .ret)
def Zm8:Ze:=ZmA
def ZyI:=xw Zm8 ZmA rfl
def Zjd:Ze:=(.seq (.region [oI 7 (.nxt (.t 6)),oI 8 (.ext (.t 7) 0)] none [8,7,6,0]) (.seq (.cond (.t 8) .skip (.exit 0)) (.block 1 (.seq (.region [oI 9 (.ext (.t 7) 2),oI 4 (.mov (.t 9))] none [6,4,0]) (.seq (.region [oI 10 (.mov (.t 4)),oI 11 (.bin .eql (.t 10) (.c (.int .i32 0)))] none [11,6,0]) (.cond (.t 11) (.seq (.region [oI 2 (.mov (.c (.bool false)))] none [2]) .ret) .skip))))))
def Zm2:Ze:=Zjd
def ZpK:=xw Zm2 Zjd rfl
def Zoa:Ze:=(.seq (.region [oI 2 (.mov (.c (.bool false)))] none [0]) (.seq (.seq (.region [oI 5 (.mov (.t 0)),oI 6 (.rng (.t 5))] none [6,0]) (.block 0 (.loop [6,0] Zm2))) Zm8))
def Zkz:ZD:=⟨[(.tmp 2)],Zoa⟩
theorem ZBa:FC 97=some Zkz:=by kernel_rfl
theorem ZFv:Zkz.body=Zoa:=rfl
theorem ZuO:Zkz.res=[(.tmp 2)]:=rfl
noncomputable def Zlz (m:Nat) (tm:Tms) (σ:Za):Option (AVal×Za):=(Zan m Zkz (ZbE FC PR BY m Zm8 (Option.map (ZaW 0) (evL FC PR BY m [6,0] Zm2 tm σ))))
def ZnY:Ze:=(.seq (.region [oI 16 (.mov (.t 3)),oI 2 (.mov (.t 16))] none [2]) .ret)
def Zou:Ze:=ZnY
def ZEV:=xw Zou ZnY rfl
def ZiA:Ze:=(.seq (.region [oI 9 (.bin .lss (.t 8) (.t 7))] none [9,8,7,6,3]) (.seq (.cond (.t 9) .skip (.exit 0)) (.seq (.block 1 (.seq (.region [oI 10 (.iaddr 1 (.t 6) (.t 8)),oI 11 (.ld none (.t 10)),oI 5 (.mov (.t 11))] none [8,7,6,5,3]) (.region [oI 12 (.mov (.t 3)),oI 13 (.mov (.t 5)),oI 14 (.app 1 1 (.int .u8 0) (.t 12) (.t 13)),oI 3 (.mov (.t 14))] none [8,7,6,3]))) (.region [oI 15 (.bin .add (.t 8) (.c (.int .i64 1))),oI 8 (.mov (.t 15))] none [8,7,6,3]))))
def Zpw:Ze:=ZiA
def Zo3:=xw Zpw ZiA rfl
def Znc:Ze:=(.seq (.region [oI 2 (.mov (.c (.lst true [])))] none [0]) (.seq (.region [oI 3 (.mov (.c (.lst true [])))] none [3,0]) (.seq (.seq (.region [oI 6 (.mov (.t 0)),oI 7 (.len (.t 6)),oI 8 (.mov (.c (.int .i64 0)))] none [8,7,6,3]) (.block 0 (.loop [8,7,6,3] Zpw))) Zou)))
def ZjX:ZD:=⟨[(.tmp 2)],Znc⟩
theorem ZxL:FC 56=some ZjX:=by kernel_rfl
theorem ZyA:ZjX.body=Znc:=rfl
theorem Zw8:ZjX.res=[(.tmp 2)]:=rfl
noncomputable def ZkV (m:Nat) (tm:Tms) (σ:Za):Option (AVal×Za):=(Zan m ZjX (ZbE FC PR BY m Zou (Option.map (ZaW 0) (evL FC PR BY m [8,7,6,3] Zpw tm σ))))
def Zpe:Ze:=(.seq (.region [oI 28 (.mov (.t 5)),oI 4 (.mov (.t 28))] none [4]) .ret)
def Zno:Ze:=Zpe
def ZEx:=xw Zno Zpe rfl
def ZjF:Ze:=(.seq (.seq (.region [oI 17 (.mov (.t 6)),oI 18 (.bin .geq (.t 17) (.c (.int .i64 0)))] none [18,6,5,0]) (.cond (.t 18) .skip (.exit 0))) (.seq (.block 1 (.seq (.region [oI 21 (.mov (.t 5)),oI 22 (.mov (.t 6)),oI 23 (.mov (.t 0)),oI 24 (.i2i .u8 (.t 23)),oI 25 (.iaddr 1 (.t 21) (.t 22)),oN (.st 1 (.t 25) (.t 24))] none [6,5,0]) (.region [oI 26 (.mov (.t 0)),oI 27 (.bin .shr (.t 26) (.c (.int .u64 8))),oI 0 (.mov (.t 27))] none [6,5,0]))) (.region [oI 19 (.mov (.t 6)),oI 20 (.bin .sub (.t 19) (.c (.int .i64 1))),oI 6 (.mov (.t 20))] none [6,5,0])))
def Zni:Ze:=ZjF
def ZqQ:=xw Zni ZjF rfl
def ZoP:Ze:=(.seq (.region [oI 4 (.mov (.c (.lst true [])))] none [1,0]) (.seq (.seq (.region [oI 7 (.mov (.t 1)),oI 8 (.bin .lss (.t 7) (.c (.int .i64 1))),oI 9 (.mov (.t 8)),⟨(some 10),(.mov (.t 1)),(some (9,false)),[]⟩,⟨(some 11),(.bin .gtr (.t 10) (.c (.int .i64 8))),(some (9,false)),[]⟩,oI 12 (.pick (.t 9) (.c (.bool true)) (.t 11))] none [12,1,0]) (.cond (.t 12) (.seq (.region [oI 4 (.mov (.c (.lst true [])))] none [4]) .ret) .skip)) (.seq (.region [oI 13 (.mov (.t 1)),oI 14 (.mkslice 1 1 (.int .u8 0) (.t 13) (.t 13)),oI 5 (.mov (.t 14))] none [5,1,0]) (.seq (.seq (.region [oI 15 (.mov (.t 1)),oI 16 (.bin .sub (.t 15) (.c (.int .i64 1))),oI 6 (.mov (.t 16))] none [6,5,0]) (.block 0 (.loop [6,5,0] Zni))) Zno))))
def ZjN:ZD:=⟨[(.tmp 4)],ZoP⟩
theorem ZKo:FC 59=some ZjN:=by kernel_rfl
theorem Zz3:ZjN.body=ZoP:=rfl
theorem ZBA:ZjN.res=[(.tmp 4)]:=rfl
noncomputable def ZlC (m:Nat) (tm:Tms) (σ:Za):Option (AVal×Za):=(Zan m ZjN (ZbE FC PR BY m Zno (Option.map (ZaW 0) (evL FC PR BY m [6,5,0] Zni tm σ))))
def ZjL:Ze:=(.seq (.region [oI 2 (.mov (.c (.lst true []))),oI 3 (.mov (.c (.int .i64 0)))] none [0]) (.seq (.seq (.region [oI 4 (.mov (.t 0)),oI 5 (.call 97 0 true [(.t 4)]),oI 6 (.un .not (.t 5))] none [6,0]) (.cond (.t 6) (.seq (.region [oI 2 (.mov (.c (.lst true []))),oI 3 (.mov (.c (.int .i64 13)))] none [3,2]) .ret) .skip)) (.seq (.region [oI 7 (.mov (.t 0)),oI 8 (.s2b (.t 7)),oI 9 (.call 55 0 true [(.t 8)]),oI 10 (.ext (.t 9) 0),oI 11 (.ext (.t 9) 1),oI 2 (.mov (.t 10)),oI 3 (.mov (.t 11))] none [3,2]) .ret)))
def ZmT:ZD:=⟨[(.tmp 2),(.tmp 3)],ZjL⟩
theorem ZrL:FC 54=some ZmT:=by kernel_rfl
theorem Zrl:ZmT.body=ZjL:=rfl
theorem ZqO:ZmT.res=[(.tmp 2),(.tmp 3)]:=rfl
def Zlk:Ze:=(.seq (.region [oI 21 (.mov (.t 4)),oI 22 (.mov (.t 0)),oI 23 (.i2i .u8 (.t 22)),oI 24 (.bslice false 1 1 (.int .u8 0) [(0,(.t 23))]),oI 25 (.app 1 1 (.int .u8 0) (.t 21) (.t 24)),oI 2 (.mov (.t 25)),oI 3 (.mov (.c (.int .i64 0)))] none [3,2]) .ret)
def Zmi:Ze:=Zlk
def ZtU:=xw Zmi Zlk rfl
def Zhx:Ze:=(.seq (.seq (.region [oI 11 (.mov (.t 0)),oI 12 (.bin .gtr (.t 11) (.c (.int .i64 127)))] none [12,4,0]) (.cond (.t 12) .skip (.exit 0))) (.seq (.block 1 (.region [oI 15 (.mov (.t 4)),oI 16 (.mov (.t 0)),oI 17 (.i2i .u8 (.t 16)),oI 18 (.bin .or (.t 17) (.c (.int .u8 128))),oI 19 (.bslice false 1 1 (.int .u8 0) [(0,(.t 18))]),oI 20 (.app 1 1 (.int .u8 0) (.t 15) (.t 19)),oI 4 (.mov (.t 20))] none [4,0])) (.region [oI 13 (.mov (.t 0)),oI 14 (.bin .shr (.t 13) (.c (.int .u64 7))),oI 0 (.mov (.t 14))] none [4,0])))
def ZnI:Ze:=Zhx
def ZlT:=xw ZnI Zhx rfl
def ZhX:Ze:=(.seq (.region [oI 2 (.mov (.c (.lst true []))),oI 3 (.mov (.c (.int .i64 0)))] none [0]) (.seq (.seq (.region [oI 5 (.mov (.t 0)),oI 6 (.bin .lss (.t 5) (.c (.int .i64 0))),oI 7 (.mov (.t 6)),⟨(some 8),(.mov (.t 0)),(some (7,false)),[]⟩,⟨(some 9),(.bin .gtr (.t 8) (.c (.int .i64 268435455))),(some (7,false)),[]⟩,oI 10 (.pick (.t 7) (.c (.bool true)) (.t 9))] none [10,0]) (.cond (.t 10) (.seq (.region [oI 2 (.mov (.c (.lst true []))),oI 3 (.mov (.c (.int .i64 10)))] none [3,2]) .ret) .skip)) (.seq (.region [oI 4 (.mov (.c (.lst true [])))] none [4,0]) (.seq (.block 0 (.loop [4,0] ZnI)) Zmi))))
def Zki:ZD:=⟨[(.tmp 2),(.tmp 3)],ZhX⟩
theorem ZHX:FC 82=some Zki:=by kernel_rfl
theorem Zo4:Zki.body=ZhX:=rfl
theorem Zj0:Zki.res=[(.tmp 2),(.tmp 3)]:=rfl
noncomputable def Zkd (m:Nat) (tm:Tms) (σ:Za):Option (AVal×Za):=(Zan m Zki (ZbE FC PR BY m Zmi (Option.map (ZaW 0) (evL FC PR BY m [4,0] ZnI tm σ))))
end Go.Proofs.YtmlkhhidifjjfaaDoor
namespace Go.Proofs.YtmlkhhidifjjfaaDoor
open Go.RowKit
inductive Ty where
 | bool
 | int (k:IntKind)
 | str
 | slice (s:Bool) (e:Ty)
 | struct (fs:List Ty)
 deriving Inhabited
def ZdM:Option TypeDesc→Bool
 | some (.struct _)=>true
 | some (.array _ _)=>true
 | _=>false
def Ziy (P:Program):Nat→List Field→Nat→Bool
 | at',[],n=>at' == n
 | at',f::fs,n=>f.offset == at' && Ziy P (at'+P.cellsOf f.type) fs n
def Zc6 (P:Program):Nat→TypeId→Option Ty
 | 0,_=>none
 | n+1,t=>match P.underlying t with
  | some .bool=>some .bool
  | some (.int k)=>some (.int k)
  | some .string=>some .str
  | some (.slice e)=>if 0 < P.cellsOf e then (Zc6 P n e).map (.slice (ZdM (P.underlying e))) else none
  | some (.struct fs)=>if Ziy P 0 fs.toList (P.cellsOf t) then (fs.toList.mapM fun f=>Zc6 P n f.type).map .struct else none
  | _=>none
def Zb3 (s:Bool) (y:List AVal):AVal:=if s then .agg y else y.headD .nilp
def Imm.of (w:World):Imm:=fun b o=>w.cell? ⟨b,o,none⟩
section
variable {H:Type} {enc:TypeId×Value→H} {P:Program} {w:World} {spare:Nat→Bool} {held:Bool}
theorem ZI3 {b off:Nat} {s:Option Nat} {u:Value} (h:w.cell? ⟨b,off,s⟩=some u):s=none:=by
 unfold World.cell? at h
 split at h
 ·rcases s with _ | s
  ·rfl
  ·simp at h
 ·cases h
theorem ZJe {s:Bool} {y:List AVal} (h:s=false→y.length=1) (h1:s=false→∀ x ∈ y,ZT x=true):(Zb3 s y).cells=y:=by
 cases s with
 | true=>rfl
 | false =>
  match y,h rfl with
  | [x],_ =>
   have:=h1 rfl x (by simp)
   cases x <;> simp_all [Zb3,AVal.cells,ZT]
theorem Zyh {a:Addr} (h:a.spot=none) (n:Nat):a.add n=⟨a.block,a.off+n,none⟩:=by
 unfold Addr.add
 split
 ·rename_i e;subst e;cases a;simp_all
 ·rfl
theorem ZGs {I:Imm} {β:Bmap} {xs:List AVal} {vs:List Value} {n:Nat} (h:VRs I β xs (vs.take n)) {ys:List AVal} (h':VRs I β ys (vs.drop n)):VRs I β (xs++ys) vs:=by
 have:=Zcq h h'
 rwa [List.take_append_drop] at this
theorem Zvu {α β:Type} {f:α→Option β} {a:α} {l:List α} {r:List β} (h:(a::l).mapM f=some r):∃ b r',f a=some b∧l.mapM f=some r'∧r=b::r':=by
 rw [List.mapM_cons] at h
 simp only [Option.bind_eq_bind,Option.bind_eq_some_iff,Option.pure_def,Option.some.injEq] at h
 obtain ⟨b,h1,r',h2,h3⟩:=h
 exact ⟨b,r',h1,h2,h3.symm⟩
theorem ZJL {a b:List AVal} (ha:ZaF a=true) (hb:ZaF b=true):ZaF (a++b)=true:=by
 induction a with
 | nil=>exact hb
 | cons x a ih=>simp only [List.cons_append,ZaF,Bool.and_eq_true] at ha ⊢;exact ⟨ha.1,ih ha.2⟩
theorem ZqX {I:Imm} {β:Bmap} {s:Bool} {k b:Nat}:∀ (n off:Nat) (Y:Nat→List AVal),(∀ i,i < n→(Zb3 s (Y i)).cells.length=k∧CR I β (Zb3 s (Y i)).cells b (off+i*k))→LR I β k ((List.range n).map fun i=>Zb3 s (Y i)) b off
 | 0,off,Y,_=>by simp [LR]
 | n+1,off,Y,h=>by
  rw [List.range_succ_eq_map,List.map_cons,Zf0]
  have h0:=h 0 (by omega)
  simp only [Nat.zero_mul,Nat.add_zero] at h0
  refine ⟨h0,?_⟩
  rw [List.map_map]
  exact ZqX n (off+k) (fun i=>Y (i+1)) (fun i hi=>by
   have:=h (i+1) (by omega)
   rw [show off+k+i*k=off+(i+1)*k by rw [Nat.succ_mul];omega]
   exact this)
theorem Zu2 {I:Imm} {β:Bmap} {b:Nat}:∀ (xs:List AVal) (cs:List Value) (off:Nat),VRs I β xs cs→(∀ i,i < cs.length→I b (off+i)=cs[i]?)→CR I β xs b off
 | [],_,_,_,_=>by simp only [CR]
 | x::xs,cs,off,h,hI=>by
  simp only [VRs] at h
  obtain ⟨v,vs',rfl,h1,h2⟩:=h
  simp only [CR]
  refine ⟨⟨v,by have:=hI 0 (by simp);simpa using this,h1⟩,Zu2 xs vs' (off+1) h2 fun i hi=>?_⟩
  have:=hI (i+1) (by simp;omega)
  rw [show off+1+i=off+(i+1) by omega,this]
  simp
theorem Zmm {s:Bool}:∀ (n:Nat) (Y:Nat→List AVal),(∀ i,i < n→ZaF (Zb3 s (Y i)).cells=true)→Z9 ((List.range n).map fun i=>Zb3 s (Y i))=true
 | 0,Y,_=>by simp [Z9]
 | n+1,Y,h=>by
  rw [List.range_succ_eq_map,List.map_cons,ZrB,h 0 (by omega),List.map_map]
  simp only [Bool.true_and]
  exact Zmm n (fun i=>Y (i+1)) (fun i hi=>h (i+1) (by omega))
theorem ZrW {xs:List AVal} (h:ZaF xs=true):∀ x ∈ xs,ZT x=true:=by
 induction xs with
 | nil=>intro x hx;simp at hx
 | cons y ys ih =>
  simp only [ZaF,Bool.and_eq_true] at h
  intro x hx
  rcases List.mem_cons.1 hx with rfl | hx
  ·cases x <;> simp_all [ZaN,ZT]
  ·exact ih h.2 x hx
theorem Rel.start (w:World) (hG:Gl.le (Imm.of w)):Rel (fun b=>b < w.heap.size) w (Imm.of w) (Imm.of w) B0 [] w where
 below:=KB.refl _ w
 old:=fun _ _ _=>rfl
 imm:=fun _ _ _ h=>h
 blk:=fun t x h=>by simp at h
 own:=fun t x b h=>by simp at h
 apart:=fun t x t' x' b h=>by simp at h
 fresh:=fun _ _ _=>rfl
 free:=fun t g h=>by simp at h
 gen:=fun t b g h=>by simp at h
 glob:=hG
theorem ZyT {O:ZO} (hO:ZaK P O) {f:Nat} {args:List AVal} {vs:Array Value} {σ':Za} (hG:Gl.le (Imm.of w)) (hargs:VRs (Imm.of w) B0 args vs.toList) (h:O f args []=some (.bool true,σ')) :
  Calls P f vs w (fun e w'=>e=.returned (.bool true)∧Below w.heap.size w w'):=by
 refine ((hO f args [] _ _ h).2 _ w _ _ B0 w vs (fun b hb=>hb) (Rel.start w hG) hargs).mono ?_
 rintro e w' ⟨u,he,I',β',_,_,R,hv⟩
 simp only [ZaP,VR] at hv
 subst hv
 exact ⟨he,R.below.os,R.below.tape,R.below.output,R.below.size,R.below.block⟩
end
end Go.Proofs.YtmlkhhidifjjfaaDoor
namespace Go.Proofs.YtmlkhhidifjjfaaDoor
open Go.RowKit
theorem ZFM (id:Nat) (tm:Tms) (σ:Za):ZaW id (.normal,tm,σ)=(.normal,tm,σ):=rfl
theorem ZKH (id i:Nat) (tm:Tms) (σ:Za):ZaW id (.exit i,tm,σ)=if i=id then (.normal,tm,σ) else (.exit i,tm,σ):=by simp only [ZaW]
theorem ZEJ (id:Nat) (tm:Tms) (σ:Za):ZaW id (.ret,tm,σ)=(.ret,tm,σ):=rfl
theorem ZDs (id:Nat) (x:AVal) (tm:Tms) (σ:Za):ZaW id (.panic x,tm,σ)=(.panic x,tm,σ):=rfl
section
variable (O:ZO) (byref:Nat→Bool)
def ZdJ (c:Cls):Option (Tms×Za×List Cls×Option AVal)→Option (Tms×Za×List Cls×Option AVal)
 | none=>none
 | some (tm,σ,cs,p)=>some (tm,σ,c::cs,p)
def Zga (c:List Cls):Option (Tms×Za×List Cls×Option AVal)→Option (Tms×Za×List Cls×Option AVal)
 | none=>none
 | some (tm,σ,cs,p)=>some (tm,σ,c++cs,p)
def kC (d:Option Nat) (os:List AOp) (s:Nat) (tm:Tms):Option (AVal×Za×Cls)→Option (Tms×Za×List Cls×Option AVal)
 | none=>none
 | some (v,σ,c)=>if ZaL v then some (tput tm d v,σ,[c],some (ZaP v)) else ZdJ c (ZW O byref os s (tput tm d v) σ)
def Zek (ops:List AOp) (L:Nat) (l:List (Nat×Nat)) (live:List Nat):Option (Tms×Za×List Cls×Option AVal)→Option (ZaQ×Tms×Za)
 | none=>none
 | some (_,σ,cs,some x)=>if Zdm ops L l cs then some (.panic x,[],σ) else none
 | some (tm,σ,cs,none)=>if Zdd ops L l cs then some (.normal,keepL live tm,σ) else none
variable {O byref}
theorem Ztx (s:Nat) (tm:Tms) (σ:Za):ZW O byref [] s tm σ=some (tm,σ,[],none):=rfl
theorem ZBb (c:Cls) (tm:Tms) (σ:Za) (cs:List Cls) (p:Option AVal):ZdJ c (some (tm,σ,cs,p))=some (tm,σ,c::cs,p):=rfl
theorem ZG1 (c:Cls):ZdJ c none=none:=rfl
theorem ZED (c:Cls) (q:Prop) [Decidable q] (x y:Option (Tms×Za×List Cls×Option AVal)):ZdJ c (if q then x else y)=if q then ZdJ c x else ZdJ c y:=by split <;> rfl
theorem ZH7 (c:List Cls) (tm:Tms) (σ:Za) (cs:List Cls) (p:Option AVal):Zga c (some (tm,σ,cs,p))=some (tm,σ,c++cs,p):=rfl
theorem ZJy (c:List Cls):Zga c none=none:=rfl
theorem ZFq (c:List Cls) (q:Prop) [Decidable q] (x y:Option (Tms×Za×List Cls×Option AVal)):Zga c (if q then x else y)=if q then Zga c x else Zga c y:=by split <;> rfl
theorem Zky {o:AOp} {os:List AOp} {s:Nat} {tm tm1:Tms} {σ σ1:Za} {v:AVal} {c:Cls} (h:ZP O byref o s tm σ=some (v,tm1,σ1,c)) (hn:ZaL v=false):ZW O byref (o::os) s tm σ=ZdJ c (ZW O byref os (s+nsite o.ins) tm1 σ1):=by
 rw [Zt7 h hn]
 cases ZW O byref os (s+nsite o.ins) tm1 σ1 <;> rfl
theorem Zmo (d:Option Nat) (i:Ins) (af:List Nat) (os:List AOp) (s:Nat) (tm:Tms) (σ:Za):ZW O byref (⟨d,i,none,af⟩::os) s tm σ=kC O byref d os (s+nsite i) tm (exI O byref i s tm σ):=by
 cases h:exI O byref i s tm σ with
 | none=>exact Zh9 (by rw [Zkw,h];rfl)
 | some q =>
  obtain ⟨v,σ1,c⟩:=q
  have hs:ZP O byref ⟨d,i,none,af⟩ s tm σ=some (v,tput tm d v,σ1,c):=by rw [Zkw,h];rfl
  cases hp:ZaL v with
  | true =>
   obtain ⟨x,rfl⟩:=Zj3 hp
   exact ZlI hs
  | false =>
   rw [Zky hs hp]
   simp only [kC,hp,Bool.false_eq_true,if_false]
theorem ZmI (d:Option Nat) (os:List AOp) (s:Nat) (tm:Tms) (v:AVal) (σ:Za) (c:Cls) (h:ZaL v=false):kC O byref d os s tm (some (v,σ,c))=ZdJ c (ZW O byref os s (tput tm d v) σ):=by
 simp only [kC,h,Bool.false_eq_true,if_false]
theorem ZNU (d:Option Nat) (os:List AOp) (s:Nat) (tm:Tms) (x:AVal) (σ:Za) (c:Cls):kC O byref d os s tm (some (.pan x,σ,c))=some (tput tm d (.pan x),σ,[c],some x):=rfl
theorem ZJA (d:Option Nat) (os:List AOp) (s:Nat) (tm:Tms):kC O byref d os s tm none=none:=rfl
theorem ZCl (d:Option Nat) (os:List AOp) (s:Nat) (tm:Tms) (q:Prop) [Decidable q] (x y:Option (AVal×Za×Cls)):kC O byref d os s tm (if q then x else y)=if q then kC O byref d os s tm x else kC O byref d os s tm y:=by split <;> rfl
theorem Zyy (ops:List AOp) (l:List (Nat×Nat)) (live:List Nat) (tm:Tms) (σ:Za):ZbW O byref ops (some l) live tm σ=Zek ops σ.length l live (ZW O byref ops σ.length tm (σ++List.replicate (sitesOf ops) .free)):=by
 unfold ZbW
 cases ZW O byref ops σ.length tm (σ++List.replicate (sitesOf ops) .free) with
 | none=>rfl
 | some q =>
  obtain ⟨tm',σ',cs,p⟩:=q
  cases p <;> rfl
theorem ZvL (ops:List AOp) (L:Nat) (l:List (Nat×Nat)) (live:List Nat) (tm:Tms) (σ:Za) (cs:List Cls) (h:Zdd ops L l cs=true):Zek ops L l live (some (tm,σ,cs,none))=some (.normal,keepL live tm,σ):=by
 simp only [Zek,h,if_true]
theorem Zg7 (ops:List AOp) (L:Nat) (l:List (Nat×Nat)) (live:List Nat) (tm:Tms) (σ:Za) (cs:List Cls) (x:AVal) (h:Zdm ops L l cs=true):Zek ops L l live (some (tm,σ,cs,some x))=some (.panic x,[],σ):=by
 simp only [Zek,h,if_true]
theorem Zyc (ops:List AOp) (L:Nat) (l:List (Nat×Nat)) (live:List Nat):Zek ops L l live none=none:=rfl
theorem ZBZ (ops:List AOp) (L:Nat) (l:List (Nat×Nat)) (live:List Nat) (q:Prop) [Decidable q] (x y:Option (Tms×Za×List Cls×Option AVal)):Zek ops L l live (if q then x else y)=if q then Zek ops L l live x else Zek ops L l live y:=by split <;> rfl
theorem Zv6 (ops:List AOp) (L:Nat) (l:List (Nat×Nat)) (cs:List Cls) (h:(cs.all fun c=>c.wr.isEmpty && !c.any)=true) (hs:(l.all fun p=>p.1 == p.2 || nsite (ops.getD p.1 default).ins == 0)=true):Zdd ops L l cs=true:=by
 have hd:∀ i,ZdC (cs.getD i {})=true:=by
  intro i
  rw [List.all_eq_true] at h
  rw [List.getD_eq_getElem?_getD]
  cases hi:cs[i]? with
  | none=>rfl
  | some c=>exact h c (List.mem_of_getElem? hi)
 unfold Zdd
 rw [List.all_eq_true] at hs ⊢
 intro p hp
 have:=hs p hp
 rw [Bool.or_eq_true] at this ⊢
 rcases this with this | this
 ·exact Or.inl this
 ·refine Or.inr ?_
  unfold Zck
  simp only [hd,this,Bool.and_true,Bool.true_and,Bool.true_or,Bool.or_true]
theorem ZBj (ops:List AOp) (L:Nat) (l:List (Nat×Nat)) (live:List Nat) (tm:Tms) (σ:Za) (cs:List Cls) (h:(cs.all fun c=>c.wr.isEmpty && !c.any)=true) (hs:(l.all fun p=>p.1 == p.2 || nsite (ops.getD p.1 default).ins == 0)=true):Zek ops L l live (some (tm,σ,cs,none))=some (.normal,keepL live tm,σ) :=
 ZvL _ _ _ _ _ _ _ (Zv6 _ _ _ _ h hs)
variable (O byref) in
def gKC (os:List AOp) (s:Nat):Option (Tms×Za×List Cls×Option AVal)→Option (Tms×Za×List Cls×Option AVal)
 | none=>none
 | some (tm,σ,cs,some x)=>some (tm,σ,cs,some x)
 | some (tm,σ,cs,none)=>Zga cs (ZW O byref os s tm σ)
theorem ZEu (os:List AOp) (s:Nat) (tm:Tms) (σ:Za) (cs:List Cls):gKC O byref os s (some (tm,σ,cs,none))=Zga cs (ZW O byref os s tm σ):=rfl
theorem ZOv (os:List AOp) (s:Nat) (q:Prop) [Decidable q] (x y:Option (Tms×Za×List Cls×Option AVal)):gKC O byref os s (if q then x else y)=if q then gKC O byref os s x else gKC O byref os s y:=by split <;> rfl
theorem ZDQ (os:List AOp) (s:Nat) (c:Cls) (r:Option (Tms×Za×List Cls×Option AVal)):gKC O byref os s (ZdJ c r)=ZdJ c (gKC O byref os s r):=by
 cases r with
 | none=>rfl
 | some q =>
  obtain ⟨tm,σ,cs,p⟩:=q
  cases p with
  | some x=>rfl
  | none =>
   simp only [ZdJ,gKC]
   cases ZW O byref os s tm σ <;> rfl
theorem ZuE:∀ (a b:List AOp) (s:Nat) (tm:Tms) (σ:Za),ZW O byref (a++b) s tm σ=gKC O byref b (s+sitesOf a) (ZW O byref a s tm σ)
 | [],b,s,tm,σ=>by
  simp only [List.nil_append,Ztx,gKC,sitesOf,List.map_nil,List.sum_nil,Nat.add_zero]
  cases ZW O byref b s tm σ <;> rfl
 | o::a,b,s,tm,σ=>by
  have ih:=ZuE a b
  simp only [List.cons_append]
  have hs:s+nsite o.ins+sitesOf a=s+sitesOf (o::a):=by simp [sitesOf,Nat.add_assoc]
  cases hst:ZP O byref o s tm σ with
  | none=>rw [Zh9 hst,Zh9 hst];rfl
  | some q =>
   obtain ⟨v,tm1,σ1,c⟩:=q
   cases hp:ZaL v with
   | true =>
    obtain ⟨x,rfl⟩:=Zj3 hp
    rw [ZlI hst,ZlI hst];rfl
   | false=>rw [Zky hst hp,Zky hst hp,ih,hs,ZDQ]
variable (O byref) in
def Zec (j:Nat) (w:Bool) (g:List AOp) (s:Nat) (tm:Tms) (σ:Za):Option (Tms×Za×List Cls×Option AVal):=match Zbw (some (j,w)) tm with
 | none=>none
 | some false=>some (Zaq g tm,σ,g.map fun _=>{},none)
 | some true=>ZW O byref (g.map unG) s tm σ
theorem ZqR (j:Nat) (w:Bool):∀ (g:List AOp),(∀ o ∈ g,o.guard=some (j,w)∧o.dst≠some j)→∀ (s:Nat) (tm:Tms) (σ:Za),g≠[]→ZW O byref g s tm σ=Zec O byref j w g s tm σ
 | [],_,_,_,_,h=>absurd rfl h
 | o::g,hall,s,tm,σ,_=>by
  obtain ⟨hg,hd⟩:=hall o (by simp)
  have ih:∀ (tm:Tms) (σ:Za) (s:Nat),Zbw (some (j,w)) tm≠none→ZW O byref g s tm σ=Zec O byref j w g s tm σ:=by
   intro tm σ s hw
   by_cases he:g=[]
   ·subst he
    unfold Zec
    cases hx:Zbw (some (j,w)) tm with
    | none=>exact absurd hx hw
    | some b=>cases b <;> rfl
   ·exact ZqR j w g (fun o ho=>hall o (by simp [ho])) s tm σ he
  cases hx:Zbw (some (j,w)) tm with
  | none =>
   rw [Zh9 (by simp only [ZP,hg,hx])]
   simp only [Zec,hx]
  | some b =>
   cases b with
   | false =>
    have h1:ZW O byref (o::g) s tm σ=ZdJ {} (ZW O byref g (s+nsite o.ins) (tput tm o.dst (.tup [])) σ) :=
     Zky (v:=.tup []) (c:={}) (by simp only [ZP,hg,hx]) rfl
    rw [h1,ih _ _ _ (by rw [Zfs hd,hx];simp)]
    unfold Zec
    rw [Zfs hd,hx]
    rfl
   | true =>
    have key:∀ r:Option (AVal×Za×Cls),(∀ v σ' c,r=some (v,σ',c)→ZaL v=false→ZW O byref g (s+nsite o.ins) (tput tm o.dst v) σ'=ZW O byref (g.map unG) (s+nsite o.ins) (tput tm o.dst v) σ')→kC O byref o.dst g (s+nsite o.ins) tm r=kC O byref o.dst (g.map unG) (s+nsite o.ins) tm r:=by
     intro r hr
     cases r with
     | none=>rfl
     | some q =>
      obtain ⟨v,σ',c⟩:=q
      cases hp:ZaL v with
      | true=>simp only [kC,hp,if_true]
      | false=>rw [ZmI _ _ _ _ _ _ _ hp,ZmI _ _ _ _ _ _ _ hp,hr v σ' c rfl hp]
    have h1:ZW O byref (o::g) s tm σ=kC O byref o.dst g (s+nsite o.ins) tm (exI O byref o.ins s tm σ):=by
     have h0:ZW O byref (o::g) s tm σ=ZW O byref (⟨o.dst,o.ins,none,o.after⟩::g) s tm σ:=by
      have hst:ZP O byref o s tm σ=ZP O byref ⟨o.dst,o.ins,none,o.after⟩ s tm σ:=by
       unfold ZP
       simp only [hg,hx]
       rfl
      simp only [ZW,hst]
     rw [h0,Zmo]
    rw [h1]
    unfold Zec
    rw [hx]
    simp only [List.map_cons]
    rw [show unG o=⟨o.dst,o.ins,none,o.after⟩ from rfl,Zmo]
    refine key _ fun v σ' c _ _=>?_
    rw [ih _ _ _ (by rw [Zfs hd,hx];simp)]
    unfold Zec
    rw [Zfs hd,hx]
theorem Zzg (d:Option Nat) (i:Ins) (j:Nat) (w:Bool) (af:List Nat) (os:List AOp) (s:Nat) (tm:Tms) (σ:Za) (hd:decide (d=some j)=false) :
  ZW O byref (⟨d,i,some (j,w),af⟩::os) s tm σ=gKC O byref (ZE j w os).2 (s+sitesOf (⟨d,i,some (j,w),af⟩::(ZE j w os).1)) (Zec O byref j w (⟨d,i,some (j,w),af⟩::(ZE j w os).1) s tm σ):=by
 have h:=Zpj j w os
 have hall:∀ o ∈ (⟨d,i,some (j,w),af⟩::(ZE j w os).1:List AOp),o.guard=some (j,w)∧o.dst≠some j:=by
  intro o ho
  rcases List.mem_cons.1 ho with rfl | ho
  ·exact ⟨rfl,by simpa using hd⟩
  ·exact Zoi j w os o ho
 rw [←ZqR j w _ hall s tm σ (by simp),←ZuE,List.cons_append,h]
variable (O byref) in
def gWC (w:Bool) (g:List AOp) (s:Nat) (tm:Tms) (σ:Za):AVal→Option (Tms×Za×List Cls×Option AVal)
 | .bool b=>if b=w then ZW O byref (g.map unG) s tm σ else some (Zaq g tm,σ,g.map fun _=>{},none)
 | .tup []=>some (Zaq g tm,σ,g.map fun _=>{},none)
 | _=>none
theorem ZHh (j:Nat) (w:Bool) (g:List AOp) (s:Nat) (tm:Tms) (σ:Za):Zec O byref j w g s tm σ=gWC O byref w g s tm σ (tget tm j):=by
 unfold Zec Zbw
 simp only
 generalize tget tm j=v
 cases v
 case bool b=>cases b <;> cases w <;> rfl
 case tup vs=>cases vs <;> rfl
 all_goals rfl
theorem ZGY (w:Bool) (g:List AOp) (s:Nat) (tm:Tms) (σ:Za) (b:Bool):gWC O byref w g s tm σ (.bool b)=if b=w then ZW O byref (g.map unG) s tm σ else some (Zaq g tm,σ,g.map fun _=>{},none):=rfl
theorem ZNk (w:Bool) (g:List AOp) (s:Nat) (tm:Tms) (σ:Za):gWC O byref w g s tm σ (.tup [])=some (Zaq g tm,σ,g.map fun _=>{},none):=rfl
theorem ZzQ (q:Prop) [Decidable q] (t1 t2:Tms) (σ1 σ2:Za) (cs:List Cls):(if q then some (t1,σ1,cs,(none:Option AVal)) else some (t2,σ2,cs,none))=some ((if q then t1 else t2),(if q then σ1 else σ2),cs,none):=by split <;> rfl
end
section
theorem Zkx {r:AVal} {cs:List AVal} {σ:Za} (hr:ZI r=true) (hc:Zd cs=true):gcA 1 [r] (.var cs::σ)=([r],[.var cs]):=by
 have e1:=(Za1 (Zm (.var cs::σ) 1 [0]) r hr)
 have e2:=(ZaS (Zm (.var cs::σ) 1 [0]) cs hc)
 have h1:ZB 1 [r] (.var cs::σ)=[0]:=by
  have : Zr [r]=[]:=by simp only [Zr,e1.2,List.append_nil]
  simp only [ZB,this,List.range_one,List.flatMap_cons,List.flatMap_nil,List.append_nil,List.getD_cons_zero,ZJ,e2.2]
  rfl
 simp only [gcA,h1,Zf,e1.1,Zv,List.getD_cons_zero,ZF,e2.1]
theorem ZV {r:AVal} {cs:List AVal} {σ:Za} (hr:ZI r=true) (hc:Zd cs=true):Zak 1 (.var cs::σ) r=some (r,[.var cs]):=by
 simp only [Zak,Zkx hr hc]
theorem Ze0 {σ:Za} {t:Nat} {cs:List AVal} (hs:σ[t]?=some (.var cs)) (hc:Zd cs=true):Zz σ 1000 [t] []=[t]:=by
 have hd:σ.getD t .free=.var cs:=by simp [List.getD_eq_getElem?_getD,hs]
 have e2:=(ZaS (fun _ _=>none) cs hc).2
 show Zz σ (999+1) [t] []=[t]
 simp only [Zz,List.contains_nil,Bool.false_eq_true,if_false,hd,ZJ,e2,List.nil_append]
end
end Go.Proofs.YtmlkhhidifjjfaaDoor
namespace Go.Proofs.YtmlkhhidifjjfaaDoor
section
variable (c:Prop) [Decidable c]
theorem ZA5 (t1 t2:Tms) (σ1 σ2:Za):(if c then some (ZaQ.normal,t1,σ1) else some (ZaQ.normal,t2,σ2))=some (ZaQ.normal,(if c then t1 else t2),(if c then σ1 else σ2)):=by split <;> rfl
theorem ZCI (t1 t2:Tms) (σ1 σ2:Za):(if c then some (ZaQ.ret,t1,σ1) else some (ZaQ.ret,t2,σ2))=some (ZaQ.ret,(if c then t1 else t2),(if c then σ1 else σ2)):=by split <;> rfl
theorem ZKR (t1 t2:Tms) (σ1 σ2:Za):(if c then some (t1,σ1,(none:Option AVal)) else some (t2,σ2,none))=some ((if c then t1 else t2),(if c then σ1 else σ2),none):=by split <;> rfl
theorem ZGZ (n:Nat) (a b:AVal):(if c then (n,a) else (n,b))=(n,if c then a else b):=by split <;> rfl
theorem ZFf (a b:AVal) (σ1 σ2:Za):(if c then some (a,σ1) else some (b,σ2))=some ((if c then a else b),(if c then σ1 else σ2)):=by split <;> rfl
theorem ZCa (a b:AVal) (σ1 σ2:Za) (x y:Cls):(if c then some (a,σ1,x) else some (b,σ2,y))=some ((if c then a else b),(if c then σ1 else σ2),if c then x else y):=by split <;> rfl
end
theorem ZvZ {α:Type} (p:Bool) (x y z:α):(if p=true then x else (if p=false then y else z))=if p=true then x else y:=by cases p <;> rfl
theorem ZNQ (ops:List AOp) (b:Nat) (cs:List Cls):Zdd ops b [] cs=true:=rfl
theorem Zz2 (ops:List AOp) (b:Nat) (p:Nat×Nat) (l:List (Nat×Nat)) (cs:List Cls):Zdd ops b (p::l) cs=((p.1 == p.2 || Zck (ops.getD p.1 default) (ops.getD p.2 default) (cs.getD p.1 {}) (cs.getD p.2 {}) (b+sitesOf (ops.take p.1))) && Zdd ops b l cs):=by
 simp only [Zdd,List.all_cons]
theorem ZN0 (oj oi:AOp) (cj ci:Cls) (sj:Nat):Zck oj oi cj ci sj=(Zb7 oj cj || Zb7 oi ci || (ZdC cj && ZdC ci && (nsite oj.ins == 0 || !ci.rd.contains sj)) || (Zae oj.ins && (ZdC ci && ci.rd.isEmpty)) || (Zaf oj.ins && Zae oi.ins && ci.any && Zah cj ci) || (Zaf oj.ins && (Zam oi.ins || (Zao oi.ins && Zar cj ci)) && Zah cj ci)):=rfl
theorem ZKw (o:AOp) (rd wr:List Nat) (any:Bool) (got:List (Nat×Option Nat×Nat×AVal)) (upd:List (Nat×List AVal)):Zb7 o ⟨rd,wr,any,got,upd⟩=(nsite o.ins == 0 && rd.isEmpty && wr.isEmpty && !any):=rfl
theorem ZKv (rd wr:List Nat) (any:Bool) (got:List (Nat×Option Nat×Nat×AVal)) (upd:List (Nat×List AVal)):ZdC ⟨rd,wr,any,got,upd⟩=(wr.isEmpty && !any):=rfl
theorem Z7 {α:Type} {l:List α} {i:Nat} {x:α} {r:List α} (h:l.drop i=x::r):l[i]?=some x∧l.drop (i+1)=r∧i < l.length:=by
 have h1:i < l.length:=by
  rcases Nat.lt_or_ge i l.length with h1 | h1
  ·exact h1
  ·rw [List.drop_eq_nil_of_le h1] at h;cases h
 rw [List.drop_eq_getElem_cons h1] at h
 injection h with h2 h3
 exact ⟨by rw [List.getElem?_eq_getElem h1,h2],h3,h1⟩
theorem ZcO {α:Type} {l:List α} {i:Nat} (h:l.drop i=[]):¬(i:Int) < l.length:=by
 have:=List.drop_eq_nil_iff.1 h;omega
theorem iad {α:Type} {l:List α} {i:Nat} {x:α} (h:l[i]?=some x) (f:α→AVal) {k:Nat} (hk:(f x).cells.length=k) (σ:Za) (n:Bool) (kk:IntKind):ZdH σ k (.lst n (l.map f)) (.int kk (i:Int))=some (.iptr (f x).cells 0,σ,{}):=by
 have h0:(0:Int)≤(i:Int):=Int.natCast_nonneg i
 unfold ZdH
 simp only [h0,if_true,Int.toNat_natCast,List.getElem?_map,h,Option.map_some,hk]
theorem ZbL {n:Int} (h0:-9223372036854775808≤n) (h:n≤9223372036854775807):IntKind.i64.wrap n=n:=by
 rw [IntKind.wrap_i64];omega
theorem ZiZ {α β:Type} {a:List α} {b:List β} (h:a.length=b.length):((a.length:Int) != (b.length:Int))=false:=by simp [h]
theorem Zi0 {α β:Type} {a:List α} {b:List β} (h:a.length≠b.length):((a.length:Int) != (b.length:Int))=true:=by
 simp only [bne_iff_ne,ne_eq];omega
theorem ZiS {α:Type} [BEq α] [LawfulBEq α] {a b:List α} (h:a.length≠b.length):(a == b)=false:=by
 simp only [beq_eq_false_iff_ne,ne_eq];rintro rfl;exact h rfl
theorem ZcT {i n:Nat} (h:(i:Int) < n) (hn:n≤9223372036854775807):IntKind.i64.wrap ((i:Int)+1)=((i+1:Nat):Int):=by
 rw [ZbL (by omega) (by omega)];rfl
theorem Zb6 {O:ZO} {byref:Nat→Bool} {f:Nat} {args:List AVal} {r:AVal} (h:O f args []=some (r,[])) (hb:byref f=false) (hp:args.all Zab=true) (hn:args.map ZG=args) (hv:ZbH 0 (some (r,[]))=some (r,[])) (hr:∀ site,Zk (ZaA [] [] site) r=r) (σ:Za) (site own:Nat) (view:Bool):Zj O byref σ site f own view args=some (r,σ,{}):=by
 rw [ZgA hb hp,hn,h]
 have : Zad view 0 (some (r,[]))=some (r,[]):=by
  unfold Zad
  split
  ·exact hv
  ·rfl
 rw [this,ZiX _ _ _ _ (hr site)]
theorem Zgu {α:Type} (σ:Za) (k:Nat) (l:List α) (f:α→AVal) (kk:IntKind) (n:Int) (h0:0≤n) (h:n≤(l.length:Int)):ZbO σ k (.lst false (l.map f)) none (some (.int kk n)) none=some (.lst false ((l.take n.toNat).map f),σ,{}):=by
 simp only [ZbO,Zbk,ZdR,List.length_map,h0,h,and_self,if_true,beq_self_eq_true,Bool.true_or,Option.isSome_none,Bool.false_eq_true,if_false,Bool.false_and,List.drop_zero,List.map_take]
abbrev Zb:=List UInt8
def ZH (b:Zb):AVal:=.lst false (b.map Zc)
structure Zt where
 id:Int
 num:Int
 text:Zb
 pair:Zb
 data:Zb
 deriving DecidableEq
def Zby (p:Zt):List AVal:=[.int .i64 p.id,.int .i64 p.num,.str p.text,.str p.pair,ZH p.data]
def Zl (p:Zt):AVal:=.agg (Zby p)
def Zax (l:List Zt):AVal:=.lst false (l.map Zl)
theorem ZBR (l:Zb):bytesOf (l.map Zc)=some l:=by
 induction l with
 | nil=>rfl
 | cons b l ih =>
  simp only [List.map_cons,bytesOf,ih,Zc,Zqf,Int.toNat_natCast,UInt8.ofNat_toNat]
end Go.Proofs.YtmlkhhidifjjfaaDoor
namespace Go.Proofs.YtmlkhhidifjjfaaDoor
def beB:Nat→Nat→Zb
 | _,0=>[]
 | n,w+1=>beB (n / 256) w++[UInt8.ofNat (n % 256)]
theorem Zbc:∀ (w n:Nat),(beB n w).length=w
 | 0,_=>rfl
 | w+1,n=>by simp [beB,Zbc w]
def ZhY (x:Nat) (b:Zb):Nat:=b.foldl (fun x c=>(x*256+c.toNat) % 18446744073709551616) x
def ZcD (b:Zb):Nat:=ZhY 0 b
theorem Zc1 (x:Nat) (c:UInt8) (b:Zb):ZhY x (c::b)=ZhY ((x*256+c.toNat) % 18446744073709551616) b:=rfl
theorem ZeO (x:Nat):ZhY x []=x:=rfl
def ZcJ:Nat→Nat→Zb
 | 0,n=>[UInt8.ofNat n]
 | k+1,n=>if n < 128 then [UInt8.ofNat n] else UInt8.ofNat (n % 128+128)::ZcJ k (n / 128)
def ZaG (n:Int):Zb×Int:=if n < 0∨n > 268435455 then ([],10) else (ZcJ 3 n.toNat,0)
def gvA (i n:Nat):Zb→Nat×Nat×Int
 | []=>if i < 4 then (0,0,11) else (0,0,12)
 | c::r=>if i=4 then (0,0,12) else if c.toNat < 128 then (if c=0∧0 < i then (0,0,12) else (n+c.toNat % 128*128 ^ i,i+1,0)) else gvA (i+1) (n+c.toNat % 128*128 ^ i) r
def ZS (b:Zb):Nat×Nat×Int:=gvA 0 0 b
def ZbC (b:Zb):Zb×Int:=if b.length > 65535 then ([],10) else (beB b.length 2++b,0)
def Zas (b:Zb):Zb×Nat×Int :=
 if b.length < 2∨b.length - 2 < ZcD (b.take 2) then ([],0,11) else ((b.drop 2).take (ZcD (b.take 2)),2+ZcD (b.take 2),0)
end Go.Proofs.YtmlkhhidifjjfaaDoor
namespace Go.Proofs.YtmlkhhidifjjfaaDoor
def Zqy:=(And.intro (And.intro (And.intro (And.intro (And.intro (And.intro @ZAR @ZI8) (And.intro @ZNZ @Zzi)) (And.intro (And.intro @ZMi @ZKq) (And.intro @ZDV @ZL9))) (And.intro (And.intro (And.intro @ZvM @Zl6) (And.intro @ZIt @Zpo)) (And.intro (And.intro @ZKN @ZFo) (And.intro @ZJI @ZIW)))) (And.intro (And.intro (And.intro (And.intro @ZIY @Zyi) (And.intro @ZNO @ZAa)) (And.intro (And.intro @ZI2 @ZBL) (And.intro @ZE0 @Zy7))) (And.intro (And.intro (And.intro @ZE3 @ZyD) (And.intro @ZDO @Zyt)) (And.intro (And.intro @ZMS @ZBR) (And.intro @ZA5 @ZCI))))) (And.intro (And.intro (And.intro (And.intro (And.intro @ZKR @ZGZ) (And.intro @ZFf @ZCa)) (And.intro (And.intro @ZNJ @ZAY) (And.intro @ZMq @ZCf))) (And.intro (And.intro (And.intro @Zwj @ZL2) (And.intro @ZKT @Zyy)) (And.intro (And.intro @Ztx @Zmo) (And.intro @Zzg @ZBb)))) (And.intro (And.intro (And.intro (And.intro @ZG1 @ZED) (And.intro @ZH7 @ZJy)) (And.intro (And.intro @ZFq @ZmI) (And.intro @ZNU @ZJA))) (And.intro (And.intro (And.intro @ZCl @ZBj) (And.intro @Zyc @ZBZ)) (And.intro (And.intro @ZEu @ZOv) (And.intro @ZHh @ZGY))))))
def Zzf:=(And.intro (And.intro (And.intro (And.intro (And.intro (And.intro @ZNk @ZzQ) (And.intro @ZFM @ZKH)) (And.intro (And.intro @ZEJ @ZDs) (And.intro @ZNQ @Zz2))) (And.intro (And.intro (And.intro @ZN0 @ZKw) (And.intro @ZKv @ZvL)) (And.intro (And.intro @ZLy @ZKk) (And.intro @ZvT @ZEW)))) (And.intro (And.intro (And.intro (And.intro @ZFK @ZIN) (And.intro @ZFx @ZMy)) (And.intro (And.intro @Zso @ZAr) (And.intro @ZGk @ZKB))) (And.intro (And.intro (And.intro @ZMb @ZGG) (And.intro @ZFC @ZMI)) (And.intro (And.intro @ZL1 @ZzO) (And.intro @ZJN @Zyp))))) (And.intro (And.intro (And.intro (And.intro (And.intro @ZyG @ZOd) (And.intro @ZvY @ZNb)) (And.intro (And.intro @ZKa @ZHN) (And.intro @ZAT @ZxM))) (And.intro (And.intro (And.intro @ZCk @ZBJ) (And.intro @ZOF @ZNi)) (And.intro (And.intro @ZMc @ZJw) (And.intro @ZHB @ZER)))) (And.intro (And.intro (And.intro (And.intro @ZMY @Zwe) (And.intro @Zw1 @ZE2)) (And.intro (And.intro @ZOg @ZD7) (And.intro @ZBP @ZA8))) (And.intro (And.intro (And.intro @Zx5 @ZHn) (And.intro @ZJM @ZyZ)) (And.intro (And.intro @ZID @ZMA) (And.intro @ZxW @ZFc))))))
def Za6:=(And.intro (And.intro (And.intro (And.intro (And.intro (And.intro @ZI4 @ZOe) (And.intro @ZAv @ZCW)) (And.intro (And.intro @ZC2 @ZJo) (And.intro @ZMT @ZHF))) (And.intro (And.intro (And.intro @ZK2 @Zxp) (And.intro @ZML @ZMK)) (And.intro (And.intro @ZHI @ZGp) (And.intro @ZzJ @ZIc)))) (And.intro (And.intro (And.intro (And.intro @ZJU @ZvW) (And.intro @ZLv @Zwi)) (And.intro (And.intro @ZBF @ZCE) (And.intro @ZNc @Zxk))) (And.intro (And.intro (And.intro @ZGO @ZAP) (And.intro @ZAW @ZFJ)) (And.intro (And.intro @ZLe @ZLi) (And.intro @ZKE @ZI6))))) (And.intro (And.intro (And.intro (And.intro (And.intro @ZMs @ZCv) (And.intro @ZyJ @ZHE)) (And.intro (And.intro @ZC8 @ZCM) (And.intro @ZxZ @ZEp))) (And.intro (And.intro (And.intro @ZMf @ZyQ) (And.intro @ZKZ @ZOf)) (And.intro (And.intro @ZGE @ZwO) (And.intro @ZL0 @ZLc)))) (And.intro (And.intro (And.intro (And.intro @ZIp @ZLB) (And.intro @ZDv @ZHt)) (And.intro (And.intro @ZFb @ZyB) (And.intro @ZAS @ZvP))) (And.intro (And.intro (And.intro @ZNG @ZzG) (And.intro @ZMX @ZJm)) (And.intro (And.intro @ZJt @ZFl) (And.intro @ZMd @ZNV))))))
def Zcw:=(And.intro (And.intro (And.intro (And.intro (And.intro (And.intro @ZOB @Zx6) (And.intro @ZOC @ZGI)) (And.intro (And.intro @ZBD @ZHT) (And.intro @ZOq @ZHP))) (And.intro (And.intro (And.intro @ZMg @ZNy) (And.intro @Zw9 @Ztb)) (And.intro (And.intro @ZFu @ZsX) (And.intro @ZE5 @ZMw)))) (And.intro (And.intro (And.intro (And.intro @ZNA @Zzc) (And.intro @ZrD @ZG6)) (And.intro (And.intro @ZLk @Zwv) (And.intro @Zx2 @ZBX))) (And.intro (And.intro (And.intro @ZNq @ZOk) (And.intro @ZHz @ZJp)) (And.intro (And.intro @Zxw @ZH6) (And.intro @ZNg @ZCX))))) (And.intro (And.intro (And.intro (And.intro (And.intro @ZOx @ZAK) (And.intro @ZLI @ZN5)) (And.intro (And.intro @ZLn @Zy3) (And.intro @Zuq @ZGX))) (And.intro (And.intro (And.intro @ZCh @ZJ5) (And.intro @ZMj @ZxG)) (And.intro (And.intro @Zxu @ZwM) (And.intro @ZFh @Zsl)))) (And.intro (And.intro (And.intro (And.intro @ZK5 @ZrS) (And.intro @Zzz @Zyd)) (And.intro (And.intro @Zyl @ZLD) (And.intro @ZtG @ZDy))) (And.intro (And.intro (And.intro @ZBh @ZF9) (And.intro @ZBK @ZHH)) (And.intro (And.intro @ZxY @ZAu) (And.intro @ZKu @ZJQ))))))
def ZC:=(And.intro (And.intro (And.intro (And.intro (And.intro (And.intro @ZvU @ZLM) (And.intro @ZJR @ZKP)) (And.intro (And.intro @ZLT @ZLR) (And.intro @ZA7 @Zz4))) (And.intro (And.intro (And.intro @ZC5 @ZwU) (And.intro @ZMr @Zqz)) (And.intro (And.intro @ZKn @ZHU) (And.intro @Zwk @ZNI)))) (And.intro (And.intro (And.intro (And.intro @ZyL @ZKp) (And.intro @ZDw @ZFZ)) (And.intro (And.intro @Zyr @ZEa) (And.intro @ZDL @ZIA))) (And.intro (And.intro (And.intro @ZCP @ZwB) (And.intro @ZEd @ZCJ)) (And.intro (And.intro @ZHj @ZAh) (And.intro @Zxg @ZBW))))) (And.intro (And.intro (And.intro (And.intro (And.intro @ZGL @ZKA) (And.intro @ZwJ @ZNL)) (And.intro (And.intro @Zzb @ZHY) (And.intro @ZDX @ZOs))) (And.intro (And.intro (And.intro @ZAw @ZDc) (And.intro @ZK6 @ZKm)) (And.intro (And.intro @ZB8 @ZAn) (And.intro @Zzy @ZCL)))) (And.intro (And.intro (And.intro (And.intro @ZMh @ZC0) (And.intro @ZM8 @ZGd)) (And.intro (And.intro @ZAM @ZBH) (And.intro @Zxl @ZDn))) (And.intro (And.intro (And.intro @Zx9 @Zx4) (And.intro @ZB3 @ZyE)) (And.intro (And.intro @ZK4 @ZHq) (And.intro @ZAZ @ZKY))))))
def Ztq:=(And.intro (And.intro (And.intro (And.intro (And.intro (And.intro @ZHW @ZIx) (And.intro @ZJi @ZK0)) (And.intro (And.intro @ZEL @ZyY) (And.intro @ZAx @ZvX))) (And.intro (And.intro (And.intro @ZwP @ZGS) (And.intro @ZBE @ZMM)) (And.intro (And.intro @ZHk @ZMC) (And.intro @ZKI @ZLY)))) (And.intro (And.intro (And.intro (And.intro @ZJk @ZLQ) (And.intro @ZCA @ZyH)) (And.intro (And.intro @ZJl @Zyf) (And.intro @ZII @ZKe))) (And.intro (And.intro (And.intro @ZJ1 @ZCx) (And.intro @ZCc @ZBU)) (And.intro (And.intro @ZyF @ZCj) (And.intro @ZKg @Zv2))))) (And.intro (And.intro (And.intro (And.intro (And.intro @ZN6 @ZFn) (And.intro @ZFE @ZDr)) (And.intro (And.intro @ZAz @ZCO) (And.intro @ZBo @ZvS))) (And.intro (And.intro (And.intro @ZKC @ZEh) (And.intro @ZHd @ZJG)) (And.intro (And.intro @ZLd @Zym) (And.intro @ZEo @ZM3)))) (And.intro (And.intro (And.intro (And.intro @Zzx @ZNX) (And.intro @ZBf @ZzT)) (And.intro (And.intro @ZE7 @ZAy) (And.intro @ZDG @Zxs))) (And.intro (And.intro (And.intro @ZIv @ZMP) (And.intro @ZNF @ZDk)) (And.intro (And.intro @ZKi @ZwN) (And.intro @ZGC @ZzB))))))
def Zs:=(And.intro (And.intro (And.intro (And.intro (And.intro (And.intro @ZHi @ZHv) (And.intro @ZJX @ZOy)) (And.intro (And.intro @ZCw @ZIS) (And.intro @ZHS @ZD9))) (And.intro (And.intro (And.intro @ZA1 @ZEC) (And.intro @ZzW @ZGW)) (And.intro (And.intro @ZDe @ZND) (And.intro @ZEZ @ZM9)))) (And.intro (And.intro (And.intro (And.intro @ZAV @Zwy) (And.intro @ZDz @ZHl)) (And.intro (And.intro @ZJc @ZMn) (And.intro @ZKG @ZIO))) (And.intro (And.intro (And.intro @ZJb @Zwr) (And.intro @ZHV @ZJ2)) (And.intro (And.intro @ZH9 @Zxt) (And.intro @ZMR @ZGb))))) (And.intro (And.intro (And.intro (And.intro (And.intro @ZGF @ZFO) (And.intro @ZH5 @ZwR)) (And.intro (And.intro @ZD0 @Zz8) (And.intro @Zwh @ZGn))) (And.intro (And.intro (And.intro @ZzH @ZF6) (And.intro @ZL4 @ZLW)) (And.intro (And.intro @ZMp @ZAD) (And.intro @ZCg @ZKV)))) (And.intro (And.intro (And.intro (And.intro @ZJ6 @ZJJ) (And.intro @ZE8 @ZK1)) (And.intro (And.intro @ZKW @ZM5) (And.intro @Zxc @ZIm))) (And.intro (And.intro (And.intro @ZF2 @ZH3) (And.intro @Zz0 @ZyO)) (And.intro (And.intro @Zw5 @Zxz) (And.intro @ZLz @ZCy))))))
def Z2:=(And.intro (And.intro (And.intro (And.intro (And.intro @ZKQ (And.intro @ZIC @ZxB)) (And.intro (And.intro @Zy8 @ZG2) (And.intro @ZyV @ZH8))) (And.intro (And.intro @ZFj (And.intro @Zy1 @ZwL)) (And.intro (And.intro @ZHw @ZJV) (And.intro @Zws @ZD6)))) (And.intro (And.intro (And.intro @ZHf (And.intro @ZAg @ZBz)) (And.intro (And.intro @ZLC @ZNu) (And.intro @ZFk @Zy4))) (And.intro (And.intro (And.intro @ZDJ @ZMx) (And.intro @ZNH @ZBS)) (And.intro (And.intro @Zz9 @ZMz) (And.intro @ZG8 @ZMk))))) (And.intro (And.intro (And.intro (And.intro @ZD3 (And.intro @ZA3 @ZDR)) (And.intro (And.intro @Zxb @ZxS) (And.intro @ZAt @ZAX))) (And.intro (And.intro (And.intro @Zyb @ZM2) (And.intro @Zwc @ZL3)) (And.intro (And.intro @ZJD @ZzY) (And.intro @Zzm @ZMJ)))) (And.intro (And.intro (And.intro @Zw2 (And.intro @ZAJ @ZGg)) (And.intro (And.intro @ZNK @ZFz) (And.intro @ZCH @ZIB))) (And.intro (And.intro (And.intro @Zzk @ZAq) (And.intro @Zv5 @ZCz)) (And.intro (And.intro @ZDF @ZV) (And.intro @Zv9 @ZsI))))))
def Zbg:=(And.intro (And.intro (And.intro (And.intro (And.intro (And.intro @List.map_cons.{0,0} @List.map_nil.{0,0}) (And.intro @List.length_cons.{0} @List.length_nil.{0})) (And.intro (And.intro @List.replicate_zero.{0} @List.replicate_succ.{0}) (And.intro @List.append_nil.{0} @List.nil_append.{0}))) (And.intro (And.intro (And.intro @List.cons_append.{0} @List.getElem?_cons_zero.{0}) (And.intro @List.getElem?_cons_succ.{0} @List.set_cons_zero.{0})) (And.intro (And.intro @List.set_cons_succ.{0} @Nat.add_zero) (And.intro @Nat.zero_add @Bool.true_or)))) (And.intro (And.intro (And.intro (And.intro @Bool.false_or @Bool.or_true) (And.intro @Bool.or_false @Bool.and_true)) (And.intro (And.intro @Bool.true_and @Bool.and_self) (And.intro @Bool.and_false @Bool.false_and))) (And.intro (And.intro (And.intro @if_true.{1} @if_false.{1}) (And.intro @ite_true.{1} @ite_false.{1})) (And.intro (And.intro @Option.map_some.{0,0} @Option.map_none.{0,0}) (And.intro @and_self @and_true))))) (And.intro (And.intro (And.intro (And.intro (And.intro @true_and @and_false) (And.intro @false_and @true_or)) (And.intro (And.intro @or_true @false_or) (And.intro @or_false @not_true_eq_false))) (And.intro (And.intro (And.intro @not_false_eq_true @List.drop_zero.{0}) (And.intro @List.drop_succ_cons.{0} @List.take_succ_cons.{0})) (And.intro (And.intro @List.take_zero.{0} @List.all_cons.{0}) (And.intro @List.all_nil.{0} @List.isEmpty_nil.{0})))) (And.intro (And.intro (And.intro (And.intro @Bool.not_false @Bool.not_true) (And.intro @List.length_map.{0,0} @Bool.bne_false)) (And.intro (And.intro @Bool.bne_true @List.isEmpty_cons.{0}) (And.intro @List.getD_cons_zero.{0} @List.getD_cons_succ.{0}))) (And.intro (And.intro (And.intro @List.getD_nil.{0} @List.contains_nil.{0}) (And.intro @List.range_zero @List.flatMap_cons.{0,0})) (And.intro (And.intro @List.flatMap_nil.{0,0} @List.zip_cons_cons.{0,0}) (And.intro @List.zip_nil_left.{0,0} @List.zip_nil_right.{0,0}))))))
def Zb1:=@Nat.not_lt_zero
def EQA := (And.intro (And.intro (And.intro (And.intro (And.intro (And.intro Zqy (And.intro Zzf Ztq)) (And.intro (And.intro Zbg @exI.eq_1) (And.intro @nsite.eq_1 @nsite.eq_2))) (And.intro (And.intro @nsite.eq_3 (And.intro @nsite.eq_4 @nsite.eq_5)) (And.intro (And.intro @nsite.eq_6 @nsite.eq_7) (And.intro @nsite.eq_8 @nsite.eq_9)))) (And.intro (And.intro (And.intro @nsite.eq_10 (And.intro @freeAt.eq_1 @execI.eq_1)) (And.intro (And.intro @execI.eq_2 @execI.eq_3) (And.intro @execI.eq_4 @execI.eq_5))) (And.intro (And.intro (And.intro @execI.eq_6 @execI.eq_7) (And.intro @execI.eq_8 @execI.eq_9)) (And.intro (And.intro @execI.eq_10 @execI.eq_11) (And.intro @execI.eq_12 @execI.eq_13))))) (And.intro (And.intro (And.intro (And.intro @execI.eq_14 (And.intro @execI.eq_15 @execI.eq_16)) (And.intro (And.intro @execI.eq_17 @execI.eq_18) (And.intro @execI.eq_19 @execI.eq_20))) (And.intro (And.intro @execI.eq_21 (And.intro @execI.eq_22 @execI.eq_23)) (And.intro (And.intro @execI.eq_24 @execI.eq_25) (And.intro @execI.eq_26 @execI.eq_27)))) (And.intro (And.intro (And.intro @execI.eq_28 (And.intro @execI.eq_29 @execI.eq_30)) (And.intro (And.intro @execI.eq_31 @execI.eq_32) (And.intro @execI.eq_33 @execI.eq_34))) (And.intro (And.intro (And.intro @execI.eq_35 @execI.eq_36) (And.intro @execI.eq_37 @execI.eq_38)) (And.intro (And.intro @execI.eq_39 @execI.eq_40) (And.intro @execI.eq_41 @execI.eq_42)))))) (And.intro (And.intro (And.intro (And.intro (And.intro @execI.eq_43 (And.intro @execI.eq_44 @Opd.ev.eq_1)) (And.intro (And.intro @Opd.ev.eq_2 @tget.eq_1) (And.intro @tget.eq_2 @tins.eq_1))) (And.intro (And.intro @tins.eq_2 (And.intro @tput.eq_1 @tput.eq_2)) (And.intro (And.intro @keepL.eq_1 @sitesOf.eq_1) (And.intro @resA.eq_1 @resAll.eq_1)))) (And.intro (And.intro (And.intro @resAll.eq_2 (And.intro @resOne.eq_1 @resOne.eq_2)) (And.intro (And.intro @enterA.eq_1 @enterA.eq_2) (And.intro @partA.eq_1 @partA.eq_2))) (And.intro (And.intro (And.intro @faddrA.eq_1 @faddrA.eq_2) (And.intro @faddrA.eq_3 @faddrA.eq_4)) (And.intro (And.intro @setAt.eq_1 @binA.eq_1) (And.intro @binA.eq_2 @binA.eq_3))))) (And.intro (And.intro (And.intro (And.intro @binA.eq_4 (And.intro @binA.eq_5 @arithA.eq_1)) (And.intro (And.intro @arithA.eq_2 @arithA.eq_3) (And.intro @arithA.eq_4 @arithA.eq_5))) (And.intro (And.intro (And.intro @arithA.eq_6 @arithA.eq_7) (And.intro @arithA.eq_8 @arithA.eq_9)) (And.intro (And.intro @arithA.eq_10 @arithA.eq_11) (And.intro @arithA.eq_12 @arithA.eq_13)))) (And.intro (And.intro (And.intro @arithA.eq_14 (And.intro @arithA.eq_15 @arithA.eq_16)) (And.intro (And.intro @ldA.eq_1 @ldA.eq_2) (And.intro @ldA.eq_3 @ldA.eq_4))) (And.intro (And.intro (And.intro @stA.eq_1 @stA.eq_2) (And.intro @stA.eq_3 @List.sum_cons.{0})) (And.intro (And.intro @List.sum_nil.{0} @eq_self.{1}) (And.intro @beq_self_eq_true.{0} @Bool.false_eq_true)))))))
end Go.Proofs.YtmlkhhidifjjfaaDoor
namespace Go.Proofs.YtmlkhhidifjjfaaDoor
theorem ZN7 {O:ZO} {byref:Nat→Bool} {σ:Za} {site f own:Nat} {view:Bool} {args:List AVal} (h:args.all Zab=true) (hm:args.map ZG=args) :
  Zj O byref σ site f own view args=ZaC σ σ [] [] site own (Zad view 0 (O f args [])):=by
 cases hb:byref f
 ·rw [ZgA hb h,hm]
 ·have hr:=Zdg h
  have hn:=fun ρ=>Zdf (ρ:=ρ) h
  rw [hm] at hr
  simp only [hm] at hn
  unfold Zj ZbV
  rw [hb]
  simp only [if_true]
  have h1:Zq σ []=σ:=rfl
  rw [h1,hr]
  have h2:Zz σ 1000 [] []=[]:=rfl
  rw [h2]
  unfold ZbB
  simp only [List.all_nil,if_true,hn,Zv,List.length_nil]
theorem ZnO {O:ZO} {byref:Nat→Bool} {f:Nat} {args:List AVal} {k n:Nat} {xs:List AVal} (h:O f args []=some (.sl 0 0 0 n,[.row 0 k xs])) (hn:xs.length=n) (hp:args.all Zab=true) (hm:args.map ZG=args) (σ:Za) (site own:Nat):Zj O byref σ site f own true args=some (.lst false xs,σ,{}):=by
 rw [ZN7 hp hm,h]
 have : Zad true 0 (some (.sl 0 0 0 n,[.row 0 k xs]))=some (.lst false xs,[]):=by
  unfold Zad
  rw [if_pos rfl,ZwW (k:=k) (g:=0) (t:=0) (xs:=xs) rfl (by omega),List.take_of_length_le (by omega)]
 rw [this,ZiX _ _ _ _ rfl]
theorem ZwI {O:ZO} {byref:Nat→Bool} {σ:Za} {f:Nat} {args vs:List AVal} {ts:List Nat} {r r':AVal} (hb:byref f=false) (hsh:showAs σ args=some (vs,ts)) (hp:vs.all Zab=true) (hm:vs.map ZG=vs) (h:O f vs []=some (r,[])) (hv:ZbH 0 (some (r,[]))=some (r',[])) (site own:Nat) :
  Zj O byref σ site f own true args=if ZbA r' then some (r',σ,{ rd:=ts }) else if Zdk σ ts r' then some (r',σ,{ rd:=ts }) else some (Zk (ZaA [] [] site) r',Zq σ ts,{ rd:=ts,wr:=ts }):=by
 have hr:=Zdg hp
 have hn:=fun ρ=>Zdf (ρ:=ρ) hp
 rw [hm] at hr
 simp only [hm] at hn
 unfold Zj ZbV
 rw [hb]
 simp only [Bool.false_eq_true,if_false,hsh]
 rw [hr]
 have h2:∀ σ,Zz σ 1000 [] []=[]:=fun _=>rfl
 rw [h2]
 unfold ZbB
 simp only [List.all_nil,if_true,hn,Zv,List.length_nil,h]
 have : Zad true 0 (some (r,[]))=some (r',[]):=by unfold Zad;rw [if_pos rfl,hv]
 rw [this]
 simp only [ZaC,List.isEmpty_nil,Bool.and_self,if_true]
theorem ZxJ {O:ZO} {byref:Nat→Bool} {σ:Za} {f:Nat} {args vs:List AVal} {ts:List Nat} {r r':AVal} (hb:byref f=false) (hsh:showAs σ args=some (vs,ts)) (hp:vs.all Zab=true) (hm:vs.map ZG=vs) (h:O f vs []=some (r,[])) (hv:ZbH 0 (some (r,[]))=some (r',[])) (hap:Zdk σ ts r'=true) (site own:Nat) :
  Zj O byref σ site f own true args=some (r',σ,{ rd:=ts }):=by
 rw [ZwI hb hsh hp hm h hv,if_pos hap]
 split <;> rfl
theorem Zbu {O:ZO} {byref:Nat→Bool} {f:Nat} {args args':List AVal} {r r':AVal} (h:O f args' []=some (r,[])) (hb:byref f=false) (hp:args.all Zab=true) (hn:args.map ZG=args') (hv:ZbH 0 (some (r,[]))=some (r',[])) (hr:∀ site,Zk (ZaA [] [] site) r'=r') (σ:Za) (site own:Nat):Zj O byref σ site f own true args=some (r',σ,{}):=by
 rw [ZgA hb hp,hn,h]
 have : Zad true 0 (some (r,[]))=some (r',[]):=by
  unfold Zad
  rw [if_pos rfl];exact hv
 rw [this,ZiX _ _ _ _ (hr site)]
theorem ZyS (k n:Nat) (xs:List AVal) (σ:Za):Zak 0 (.row 0 k xs::σ) (.sl 0 0 0 n)=some (.sl 0 0 0 n,[.row 0 k xs]):=by
 simp [Zak,gcA,ZB,Zz,Zr,ZX,Zm,Zv,ZY,Zo,ZQ,Zf,Zk,ZF,ZJ]
def ZeB:List AVal→AVal
 | []=>.lst true []
 | x::xs=>.sl 0 0 0 (x::xs).length
def Zex (k:Nat):List AVal→Za
 | []=>[]
 | x::xs=>[.row 0 k (x::xs)]
theorem Zfj:ZeB []=.lst true []:=rfl
theorem ZhJ (x:AVal) (xs:List AVal):ZeB (x::xs)=.sl 0 0 0 (x::xs).length:=rfl
theorem Zfc (k:Nat):Zex k []=[]:=rfl
theorem ZhQ (k:Nat) (x:AVal) (xs:List AVal):Zex k (x::xs)=[.row 0 k (x::xs)]:=rfl
theorem Zfp (l:Zb):kOk 1 (l.map Zc)=true:=by cases l <;> rfl
end Go.Proofs.YtmlkhhidifjjfaaDoor
namespace Go.Proofs.YtmlkhhidifjjfaaDoor
set_option maxHeartbeats 4000000
set_option maxRecDepth 10000
theorem ZEs (n:Nat):IntKind.u8.wrap (n:Int)=((UInt8.ofNat (n % 256)).toNat:Int):=by
 rw [IntKind.wrap_u8,UInt8.toNat_ofNat']
 omega
theorem ZCp (k n:Nat) (xs:List AVal) (σ:Za):Zak 0 (.row 0 k xs::σ) (.sl 0 0 0 n)=some (.sl 0 0 0 n,[.row 0 k xs]):=by
 simp [Zak,gcA,ZB,Zz,Zr,ZX,Zm,Zv,ZY,Zo,ZQ,Zf,Zk,ZF,ZJ]
theorem ZDt (m:Nat) (z:AVal) (t:List AVal):(List.replicate (m+1) z++t)[m]?=some z:=by
 rw [List.getElem?_append_left (by simp)];simp
theorem ZGw (m:Nat) (z v:AVal) (t:List AVal):(List.replicate (m+1) z++t).set m v=List.replicate m z++v::t:=by
 rw [List.replicate_succ',List.append_assoc,List.set_append_right _ _ (by simp)];simp
theorem Zq4 (W:Nat) (hW:W≤8):∀ (m n:Nat) (tail:Zb),m+tail.length=W→ZlC 0 [(6,.int .i64 ((m:Int) - 1)),(5,.sl 0 0 0 W),(0,.int .u64 (n:Nat))] [.row 0 1 (List.replicate m (.int .u8 0)++tail.map Zc)]=some (.sl 0 0 0 W,[.row 0 1 ((beB n m++tail).map Zc)])
 | 0,n,tail,h=>by
  have h1:¬(((0:Nat):Int) - 1≥0):=by omega
  unfold ZlC
  rw [Z5,beB]
  simp -implicitDefEqProofs only [EQA,Nat.reduceLT,Nat.reduceEqDiff,reduceCtorEq,decide_false,↓reduceIte,ZBA,ZEx,Zpe,ZqQ,ZjF,oI,oN,h1,ZCp]
 | m+1,n,tail,h=>by
  have ih:=Zq4 W hW m (n / 256) (UInt8.ofNat (n % 256)::tail) (by simp;omega)
  have e0:((m+1:Nat):Int) - 1=(m:Int):=by omega
  have h1:(m:Int)≥0:=by omega
  have h2:(0:Int)≤(m:Int):=by omega
  have h3:m < W:=by omega
  have hg:=ZDt m (.int .u8 0) (tail.map Zc)
  have hs:=ZGw m (.int .u8 0) (Zc (UInt8.ofNat (n % 256))) (tail.map Zc)
  have hb:=ZEs n
  have hw:IntKind.i64.wrap ((m:Int) - 1)=(m:Int) - 1:=ZbL (by omega) (by omega)
  have hd:(n:Int).fdiv (2 ^ min (Int.toNat 8) IntKind.u64.bits)=((n / 256:Nat):Int):=by
   rw [show (2:Int) ^ min (Int.toNat 8) IntKind.u64.bits=256 from rfl,Int.fdiv_eq_ediv_of_nonneg _ (by decide)]
   omega
  have e1:beB n (m+1)++tail=beB (n / 256) m++(UInt8.ofNat (n % 256)::tail):=by simp [beB]
  rw [e0,e1]
  have e2:List.replicate m (AVal.int .u8 0)++(UInt8.ofNat (n % 256)::tail).map Zc=List.replicate m (.int .u8 0)++Zc (UInt8.ofNat (n % 256))::tail.map Zc:=rfl
  rw [e2] at ih
  generalize hX:List.replicate (m+1) (AVal.int .u8 0)++tail.map Zc=X at *
  generalize hY:List.replicate m (AVal.int .u8 0)++Zc (UInt8.ofNat (n % 256))::tail.map Zc=Y at *
  unfold Zc at hs
  unfold ZlC at ih ⊢
  rw [Z5]
  simp -implicitDefEqProofs only [EQA,Z2,Zb1,Nat.reduceLT,Nat.reduceEqDiff,ZaB,ne_eq,reduceCtorEq,decide_true,↓reduceIte,gcT,gcA,ZB,Zz,Zm,Zv,ZY,Zo,ZQ,ZF,ZJ,ZqQ,ZjF,oI,oN,h1,h3,hg,hs,hb,hw,hd,ZdH,Int.toNat_natCast,AVal.cells,ZaJ,ZL,Zin,Zq,Int.reduceLT]
  exact ih
theorem ZCq (n W:Nat) (h1:1≤W) (hW:W≤8):E 59 [.int .u64 (n:Nat),.int .i64 (W:Nat)] []=some (.sl 0 0 0 W,[.row 0 1 ((beB n W).map Zc)]):=by
 have key:=Zq4 W hW W n [] (by simp)
 have c1:¬((W:Int) < 1):=by omega
 have c2:¬((W:Int) > 8):=by omega
 have c3:(0:Int)≤(W:Int):=by omega
 have c4:(W:Int)≤9223372036854775807:=by omega
 have c5:((1:Nat):Int)*(W:Int)≤140737488355328:=by omega
 have w1:IntKind.i64.wrap ((W:Int) - 1)=(W:Int) - 1:=ZbL (by omega) (by omega)
 simp only [List.map_nil,List.append_nil] at key
 rw [Zh (by rfl) ZKo]
 unfold ZlC at key
 simp -implicitDefEqProofs only [EQA,ZC,Z2,Zb1,Nat.reduceLT,Nat.reduceEqDiff,Nat.reduceBEq,ZE,unG,ne_eq,Option.some.injEq,reduceCtorEq,decide_false,↓reduceIte,gcT,gcA,ZB,Zz,Zm,Zv,ZY,Zo,ZQ,ZF,ZJ,Zz3,ZoP,oI,c1,c2,c3,c4,c5,w1,Int.le_refl,Int.toNat_natCast]
 exact key
theorem Zjw (σ:Za) (site own:Nat) (n W:Nat) (h1:1≤W) (hW:W≤8):Zj E BY σ site 59 own true [.int .u64 (n:Nat),.int .i64 (W:Nat)]=some (.lst false ((beB n W).map Zc),σ,{}) :=
 ZnO (byref:=BY) (ZCq n W h1 hW) (by simp [Zbc]) rfl rfl σ site own
theorem ZMO (x c:Nat) (hc:c < 256):IntKind.u64.wrap (((BitVec.ofInt IntKind.u64.bits (IntKind.u64.wrap ((x:Int)*2 ^ min (Int.toNat 8) IntKind.u64.bits)) ||| BitVec.ofInt IntKind.u64.bits (c:Int)).toNat:Nat):Int)=(((x*256+c) % 18446744073709551616:Nat):Int):=by
 rw [show (2:Int) ^ min (Int.toNat 8) IntKind.u64.bits=256 from rfl]
 have hb:IntKind.u64.bits=64:=rfl
 rw [hb,IntKind.wrap_u64,IntKind.wrap_u64]
 have e1:(x:Int)*256 % 18446744073709551616=((x*256 % 18446744073709551616:Nat):Int):=by omega
 rw [e1,BitVec.toNat_or]
 simp only [BitVec.ofInt_natCast,BitVec.toNat_ofNat]
 have e2:x*256 % 18446744073709551616 % 2 ^ 64=(x % 72057594037927936) <<< 8:=by
  rw [Nat.shiftLeft_eq];omega
 have e3:c % 2 ^ 64=c:=by omega
 rw [e2,e3,←Nat.shiftLeft_add_eq_or_of_lt (by omega:c < 2 ^ 8),Nat.shiftLeft_eq]
 omega
theorem Zq5 (b:Zb) (hl:b.length≤9223372036854775807):∀ (r:Zb) (i x:Nat),b.drop i=r→ZkX 0 [(8,.int .i64 i),(7,.int .i64 b.length),(6,.lst false (b.map Zc)),(3,.int .u64 (x:Nat))] []=some (.int .u64 (ZhY x r:Nat),[])
 | [],i,x,h=>by
  have h1:=ZcO h
  unfold ZkX
  rw [Z5,ZeO]
  simp -implicitDefEqProofs only [EQA,Nat.reduceLT,Nat.reduceEqDiff,decide_false,↓reduceIte,ZEN,ZKs,Zoy,ZqU,ZlG,oI,h1]
 | c::r,i,x,h=>by
  have ih:=Zq5 b hl r (i+1) ((x*256+c.toNat) % 18446744073709551616) (Z7 h).2.1
  have h1:(i:Int) < b.length:=by have:=(Z7 h).2.2;omega
  have e1:=iad (Z7 h).1 Zc (k:=1) rfl
  have e3:=ZcT h1 hl
  have ho:=ZMO x c.toNat c.toNat_lt
  have hc:IntKind.u64.wrap (c.toNat:Int)=(c.toNat:Int):=by rw [IntKind.wrap_u64];have:=c.toNat_lt;omega
  unfold ZkX at ih ⊢
  rw [Z5,Zc1]
  simp -implicitDefEqProofs only [EQA,Z2,Nat.reduceLT,Nat.reduceEqDiff,ZaB,decide_true,↓reduceIte,gcT,gcA,ZB,Zz,Zv,ZJ,ZqU,ZlG,oI,h1,e1,e3,ho,hc,Zc,AVal.cells,Int.reduceLT]
  exact ih
theorem ZHo (b:Zb) (hl:b.length≤9223372036854775807):E 108 [ZH b] []=some (.int .u64 (ZcD b:Nat),[]):=by
 have key:=Zq5 b hl b 0 0 rfl
 have z0:((0:Nat):Int)=0:=rfl
 rw [z0] at key
 unfold ZkX at key
 unfold ZcD
 rw [Zh (by rfl) ZLG]
 simp -implicitDefEqProofs only [EQA,Z2,Nat.reduceLT,Nat.reduceEqDiff,reduceCtorEq,↓reduceIte,gcT,gcA,ZB,Zz,Zv,ZJ,Zxn,Zml,oI,ZH]
 exact key
theorem Zkk (σ:Za) (site own:Nat) (b:Zb) (hl:b.length≤9223372036854775807) (f:Bool):Zj E BY σ site 108 own true [.lst f (b.map Zc)]=some (.int .u64 (ZcD b:Nat),σ,{}) :=
 Zbu (ZHo b hl) (by kernel_rfl) rfl rfl rfl (fun _=>rfl) _ _ _
end Go.Proofs.YtmlkhhidifjjfaaDoor
namespace Go.Proofs.YtmlkhhidifjjfaaDoor
set_option maxHeartbeats 8000000
set_option maxRecDepth 10000
theorem Zug (ls:List Zb) (hl:ls.length≤9223372036854775807):∀ (r:List Zb) (i:Nat) (acc full:Zb),ls.drop i=r→full=acc++r.flatten→full.length≤140737488355328 →
  ZkV 0 [(8,.int .i64 i),(7,.int .i64 ls.length),(6,.lst false (ls.map ZH)),(3,.sl 0 0 0 acc.length)] [.row 0 1 (acc.map Zc)]=some (.sl 0 0 0 full.length,[.row 0 1 (full.map Zc)])
 | [],i,acc,full,h,hf,hn=>by
  have h1:=ZcO h
  have e:full=acc:=by simpa using hf
  subst e
  unfold ZkV
  rw [Z5]
  simp -implicitDefEqProofs only [EQA,Nat.reduceLT,Nat.reduceEqDiff,decide_false,↓reduceIte,Zw8,ZEV,ZnY,Zo3,ZiA,oI,h1,ZyS]
 | p::r,i,acc,full,h,hf,hn=>by
  have ih:=Zug ls hl r (i+1) (acc++p) full (Z7 h).2.1 (by rw [hf];simp) hn
  have h1:(i:Int) < ls.length:=by have:=(Z7 h).2.2;omega
  have e1:=iad (Z7 h).1 ZH (k:=1) rfl
  have e3:=ZcT h1 hl
  have k1:=Zfp p
  have k2:(acc.length+p.length)*1≤140737488355328:=by have:=congrArg List.length hf;simp at this;omega
  have e4:(acc++p).map Zc=acc.map Zc++p.map Zc:=by simp
  have e5:(acc++p).length=acc.length+p.length:=by simp
  rw [e4,e5] at ih
  clear hf
  unfold ZkV at ih ⊢
  rw [Z5]
  unfold ZH at e1 ih ⊢
  simp -implicitDefEqProofs only [EQA,Z2,Zb1,Nat.reduceAdd,Nat.reduceLT,Nat.reduceEqDiff,Nat.reduceBEq,ne_eq,reduceCtorEq,decide_true,Z0,↓reduceIte,gcT,gcA,ZB,Zz,Zm,Zv,ZY,Zo,ZQ,ZF,ZJ,Zo3,ZiA,oI,h1,e1,e3,k1,k2,Zbi,AVal.cells]
  exact ih
theorem ZC9 (p:Zb) (ls:List Zb) (hl:(p::ls).length≤9223372036854775807) (hn:(p::ls).flatten.length≤140737488355328):E 56 [.lst false ((p::ls).map ZH)] []=some (.sl 0 0 0 (p::ls).flatten.length,[.row 0 1 ((p::ls).flatten.map Zc)]):=by
 have key:=Zug (p::ls) hl ls 1 p (p::ls).flatten rfl rfl hn
 have k1:=Zfp p
 have k2:p.length*1≤140737488355328:=by simp at hn;omega
 have h1:(0:Int) < ((p::ls).length:Int):=by simp
 have hat:(p::ls)[0]?=some p:=rfl
 have e1:=iad hat ZH (k:=1) rfl
 have z0:((0:Nat):Int)=0:=rfl
 have z1:((1:Nat):Int)=1:=rfl
 have w1:IntKind.i64.wrap (0+1)=1:=rfl
 rw [z0] at e1
 rw [z1] at key
 unfold ZkV at key
 generalize hL:p::ls=L at *
 rw [Zh (by rfl) ZxL]
 unfold ZH at e1 key ⊢
 simp -implicitDefEqProofs only [EQA,Z2,Nat.reduceLT,Nat.reduceEqDiff,reduceCtorEq,↓reduceIte,gcT,gcA,ZB,Zz,Zv,ZJ,ZyA,Znc,oI]
 rw [Z5]
 simp -implicitDefEqProofs only [EQA,Z2,Zb1,Nat.reduceLT,Nat.reduceEqDiff,Nat.reduceBEq,ne_eq,decide_true,Z0,↓reduceIte,gcT,gcA,ZB,Zz,Zm,Zv,ZY,Zo,ZQ,ZF,ZJ,Zo3,ZiA,oI,h1,e1,w1,k1,k2,Zbi,AVal.cells]
 exact key
theorem ZgX (σ:Za) (site own:Nat) (f:Bool) (p:Zb) (ls:List Zb) (hl:(p::ls).length≤9223372036854775807) (hn:(p::ls).flatten.length≤140737488355328):Zj E BY σ site 56 own true [.lst f ((p::ls).map ZH)]=some (.lst false ((p::ls).flatten.map Zc),σ,{}):=by
 have h:=ZnO (byref:=BY) (ZC9 p ls hl hn) (by rw [List.length_map]) rfl rfl σ site own
 cases f
 ·exact h
 ·rw [ZgA (by kernel_rfl) rfl] at h ⊢
  exact h
theorem ZOz:∀ n:Fin 256,IntKind.u8.wrap (((BitVec.ofInt IntKind.u8.bits ((n.val:Nat):Int) ||| BitVec.ofInt IntKind.u8.bits 128).toNat:Nat):Int)=((n.val % 128+128:Nat):Int):=by decide +kernel
theorem ZEi (n:Nat):IntKind.u8.wrap (((BitVec.ofInt IntKind.u8.bits (IntKind.u8.wrap (n:Int)) ||| BitVec.ofInt IntKind.u8.bits 128).toNat:Nat):Int)=((UInt8.ofNat (n % 128+128)).toNat:Int):=by
 have h:=ZOz ⟨n % 256,Nat.mod_lt _ (by decide)⟩
 have e:IntKind.u8.wrap (n:Int)=((n % 256:Nat):Int):=by rw [IntKind.wrap_u8];omega
 rw [e,h,UInt8.toNat_ofNat']
 simp only
 omega
theorem ZrY:∀ (k n:Nat) (acc full:Zb),n < 128 ^ (k+1)→acc.length+k≤3→full=acc++ZcJ k n →
  Zkd 0 [(4,ZeB (acc.map Zc)),(0,.int .i64 (n:Nat))] (Zex 1 (acc.map Zc))=some (.tup [.sl 0 0 0 full.length,.int .i64 0],[.row 0 1 (full.map Zc)])
 | k,n,acc,full,hk,hacc,hf=>by
  by_cases hn:n < 128
  ·have h1:¬((n:Int) > 127):=by omega
   have hv:ZcJ k n=[UInt8.ofNat n]:=by cases k <;> simp [ZcJ,hn]
   rw [hv] at hf
   have hb:IntKind.u8.wrap (n:Int)=((UInt8.ofNat n).toNat:Int):=by rw [IntKind.wrap_u8,UInt8.toNat_ofNat'];omega
   subst hf
   unfold Zkd
   rw [Z5]
   cases acc with
   | nil =>
    simp -implicitDefEqProofs only [EQA,Nat.reduceLT,Nat.reduceLeDiff,Nat.reduceEqDiff,Nat.reduceBEq,reduceCtorEq,decide_true,decide_false,Z0,↓reduceIte,Zj0,ZtU,Zlk,ZlT,Zhx,oI,h1,hb,Zfj,Zfc,Zbi,kOk,viewAs,ZR,ZL,Zq,List.foldl_cons,List.foldl_nil,Nat.one_mul,AVal.cells]
    simp [Zak,gcA,ZB,Zz,Zr,ZX,Zm,Zv,ZY,Zo,ZQ,Zf,Zk,ZF,ZJ]
    rfl
   | cons a acc =>
    have hz:(acc.length+1+1)*1≤140737488355328:=by simp at hacc;omega
    simp -implicitDefEqProofs only [EQA,Nat.reduceAdd,Nat.reduceLT,Nat.reduceEqDiff,Nat.reduceBEq,reduceCtorEq,decide_true,decide_false,Z0,↓reduceIte,Zj0,ZtU,Zlk,ZlT,Zhx,oI,h1,hb,ZhJ,ZhQ,Zbi,kOk,viewAs,ZR,ZL,Zq,List.foldl_cons,List.foldl_nil,AVal.cells,hz]
    simp [Zak,gcA,ZB,Zz,Zr,ZX,Zm,Zv,ZY,Zo,ZQ,Zf,Zk,ZF,ZJ]
    rfl
  ·cases k with
   | zero=>simp at hk;omega
   | succ k =>
    have hlt:n / 128 < 128 ^ (k+1):=by
     rw [Nat.div_lt_iff_lt_mul (by decide)]
     rw [Nat.pow_succ] at hk;exact hk
    have hv:ZcJ (k+1) n=UInt8.ofNat (n % 128+128)::ZcJ k (n / 128):=by simp [ZcJ,hn]
    have ih:=ZrY k (n / 128) (acc++[UInt8.ofNat (n % 128+128)]) full hlt (by simp;omega) (by rw [hf,hv];simp)
    clear hf
    have h1:((n:Int) > 127):=by omega
    have ho:=ZEi n
    have hd:(n:Int).fdiv (2 ^ min (Int.toNat 7) IntKind.i64.bits)=((n / 128:Nat):Int):=by
     rw [show (2:Int) ^ min (Int.toNat 7) IntKind.i64.bits=128 from rfl,Int.fdiv_eq_ediv_of_nonneg _ (by decide)]
     omega
    unfold Zkd at ih ⊢
    rw [Z5]
    cases acc with
    | nil =>
     simp -implicitDefEqProofs only [EQA,Z2,Zb1,Nat.reduceLT,Nat.reduceLeDiff,Nat.reduceEqDiff,Nat.reduceBEq,ZaB,ne_eq,reduceCtorEq,decide_true,Z0,↓reduceIte,gcT,gcA,ZB,Zz,Zm,Zv,ZY,Zo,ZQ,ZF,ZJ,ZlT,Zhx,oI,h1,ho,hd,Zfj,Zfc,Zbi,kOk,viewAs,ZR,ZL,Zq,List.foldl_cons,List.foldl_nil,Nat.one_mul,AVal.cells,Int.reduceLT]
     simp only [List.map_cons,List.map_nil,List.nil_append,ZhJ,ZhQ,List.length_cons,List.length_nil,Nat.zero_add,Zc] at ih
     exact ih
    | cons a acc =>
     have hz:(acc.length+1+1)*1≤140737488355328:=by simp at hacc;omega
     simp -implicitDefEqProofs only [EQA,Z2,Zb1,Nat.reduceAdd,Nat.reduceLT,Nat.reduceEqDiff,Nat.reduceBEq,ZaB,ne_eq,reduceCtorEq,decide_true,Z0,↓reduceIte,gcT,gcA,ZB,Zz,Zm,Zv,ZY,Zo,ZQ,ZF,ZJ,ZlT,Zhx,oI,h1,ho,hd,ZhJ,ZhQ,Zbi,kOk,viewAs,ZR,ZL,Zq,List.foldl_cons,List.foldl_nil,AVal.cells,hz,Int.reduceLT]
     simp only [List.map_append,List.map_cons,List.map_nil,List.cons_append,ZhJ,ZhQ,List.length_append,List.length_cons,List.length_map,List.length_nil,Nat.zero_add,Nat.add_assoc,Nat.reduceAdd,Zc] at ih
     exact ih
theorem ZG7 (n:Int):E 82 [.int .i64 n] []=some (if n < 0∨n > 268435455 then (.tup [.lst true [],.int .i64 10],[]) else (.tup [.sl 0 0 0 (ZcJ 3 n.toNat).length,.int .i64 0],[.row 0 1 ((ZcJ 3 n.toNat).map Zc)])):=by
 rw [Zh (by rfl) ZHX]
 by_cases h0:n < 0
 ·have : n < 0∨n > 268435455:=Or.inl h0
  simp -implicitDefEqProofs only [EQA,Zs,Nat.reduceLT,Nat.reduceEqDiff,ZE,Zaq,ne_eq,Option.some.injEq,reduceCtorEq,decide_true,decide_false,↓reduceIte,Zd,Zo4,ZhX,Zj0,oI,h0]
 ·by_cases h2:n > 268435455
  ·have : n < 0∨n > 268435455:=Or.inr h2
   simp -implicitDefEqProofs only [EQA,Zs,Nat.reduceLT,Nat.reduceEqDiff,ZE,unG,ne_eq,Option.some.injEq,reduceCtorEq,decide_true,decide_false,↓reduceIte,Zd,Zo4,ZhX,Zj0,oI,h0,h2]
  ·have : ¬(n < 0∨n > 268435455):=by omega
   have key:=ZrY 3 n.toNat [] (ZcJ 3 n.toNat) (by omega) (by simp) rfl
   have e:((n.toNat:Nat):Int)=n:=by omega
   rw [e] at key
   simp only [List.map_nil,Zfj,Zfc] at key
   unfold Zkd at key
   generalize ZcJ 3 n.toNat=V at *
   simp -implicitDefEqProofs only [EQA,Z2,Nat.reduceLT,Nat.reduceEqDiff,ZE,unG,ne_eq,Option.some.injEq,reduceCtorEq,decide_false,↓reduceIte,gcT,gcA,ZB,Zz,Zv,ZJ,Zo4,ZhX,oI,h0,h2]
   exact key
def Zez (n:Int):AVal:=.tup [.lst false ((ZaG n).1.map Zc),.int .i64 (ZaG n).2]
theorem ZEf {O:ZO} {byref:Nat→Bool} {f:Nat} {args args':List AVal} {k n:Nat} {xs:List AVal} {c:Int} (h:O f args' []=some (.tup [.sl 0 0 0 n,.int .i64 c],[.row 0 k xs])) (hl:xs.length=n) (hb:byref f=false) (hp:args.all Zab=true) (hn:args.map ZG=args') (σ:Za) (site own:Nat):Zj O byref σ site f own true args=some (.tup [.lst false xs,.int .i64 c],σ,{}):=by
 subst hl
 rw [ZgA hb hp,hn,h]
 simp [Zad,ZbH,viewR,viewAs,ZR,ZL,Z0,Zq,gcA,ZB,Zz,Zr,ZX,Zf,Zk,Zv,ZaC,ZbA,Zbp,ZaT]
theorem Zfh (σ:Za) (site own:Nat) (n:Int):Zj E BY σ site 82 own true [.int .i64 n]=some (Zez n,σ,{}):=by
 have h:=ZG7 n
 unfold Zez ZaG
 by_cases hc:n < 0∨n > 268435455
 ·rw [if_pos hc] at h ⊢
  exact Zbu h (by kernel_rfl) rfl rfl rfl (fun _=>rfl) _ _ _
 ·rw [if_neg hc] at h ⊢
  exact ZEf h (by rw [List.length_map]) (by kernel_rfl) rfl rfl _ _ _
end Go.Proofs.YtmlkhhidifjjfaaDoor
namespace Go.Proofs.YtmlkhhidifjjfaaDoor
set_option maxHeartbeats 8000000
set_option maxRecDepth 10000
def gvT (x:Nat×Nat×Int):AVal:=.tup [.int .i64 (x.1:Nat),.int .i64 (x.2.1:Nat),.int .i64 x.2.2]
theorem ZAF:∀ n:Fin 256,IntKind.u8.wrap (((BitVec.ofInt IntKind.u8.bits ((n.val:Nat):Int) &&& BitVec.ofInt IntKind.u8.bits 127).toNat:Nat):Int)=((n.val % 128:Nat):Int):=by decide +kernel
theorem ZG4 (c:UInt8):IntKind.u8.wrap (((BitVec.ofInt IntKind.u8.bits (c.toNat:Int) &&& BitVec.ofInt IntKind.u8.bits 127).toNat:Nat):Int)=((c.toNat % 128:Nat):Int):=ZAF ⟨c.toNat,c.toNat_lt⟩
theorem ZpP (i:Nat):128 ^ i=2 ^ (7*i):=by rw [Nat.pow_mul]
theorem ZIr (n a i:Nat) (hi:i≤3) (hn:n < 128 ^ i) (ha:a < 128):IntKind.i64.wrap (((BitVec.ofInt IntKind.i64.bits (n:Int) ||| BitVec.ofInt IntKind.i64.bits ((a*128 ^ i:Nat):Int)).toNat:Nat):Int)=((n+a*128 ^ i:Nat):Int):=by
 have hb:IntKind.i64.bits=64:=rfl
 have hp:128 ^ i≤128 ^ 3:=Nat.pow_le_pow_right (by decide) hi
 have hm:a*128 ^ i≤127*128 ^ 3:=Nat.mul_le_mul (by omega) hp
 rw [hb,BitVec.toNat_or]
 simp only [BitVec.ofInt_natCast,BitVec.toNat_ofNat]
 have e1:n % 2 ^ 64=n:=Nat.mod_eq_of_lt (by omega)
 have e2:a*128 ^ i % 2 ^ 64=a*128 ^ i:=Nat.mod_eq_of_lt (by omega)
 rw [e1,e2]
 have e3:a*128 ^ i=a <<< (7*i):=by rw [Nat.shiftLeft_eq,ZpP]
 have e4:n ||| a*128 ^ i=n+a*128 ^ i:=by
  rw [e3,Nat.or_comm,←Nat.shiftLeft_add_eq_or_of_lt (by rw [←ZpP];exact hn)]
  omega
 rw [e4,ZbL (by omega) (by omega)]
theorem Zv0 (a i:Nat) (hi:i≤3) (ha:a < 128):IntKind.i64.wrap ((a:Int)*2 ^ min (Int.toNat ((7*i:Nat):Int)) IntKind.i64.bits)=((a*128 ^ i:Nat):Int):=by
 have hp:128 ^ i≤128 ^ 3:=Nat.pow_le_pow_right (by decide) hi
 have hm:a*128 ^ i≤127*128 ^ 3:=Nat.mul_le_mul (by omega) hp
 have e:min (Int.toNat ((7*i:Nat):Int)) IntKind.i64.bits=7*i:=by
  have hb:IntKind.i64.bits=64:=rfl
  rw [hb];omega
 have e2:((a:Int)*2 ^ (7*i))=((a*128 ^ i:Nat):Int):=by rw [ZpP];simp
 rw [e,e2,ZbL (by omega) (by omega)]
theorem Zsk (n i a:Nat) (hn:n < 128 ^ i) (ha:a < 128):n+a*128 ^ i < 128 ^ (i+1):=by
 have : a*128 ^ i≤127*128 ^ i:=Nat.mul_le_mul_right _ (by omega)
 rw [Nat.pow_succ];omega
theorem Zs5 (b:Zb) (hl:b.length≤9223372036854775807):∀ (r:Zb) (i n:Nat),i≤4→i≤b.length→n < 128 ^ i→b.drop i=r →
  Zhb 0 [(9,.int .i64 i),(8,.int .i64 b.length),(7,.lst false (b.map Zc)),(2,.int .i64 n),(0,.lst false (b.map Zc))] []=some (gvT (gvA i n r),[])
 | [],i,n,hi,hib,hn,h=>by
  have h1:=ZcO h
  unfold Zhb
  rw [Z5,gvA]
  by_cases h4:i < 4
  ·have h5:(b.length:Int) < 4:=by omega
   simp -implicitDefEqProofs only [EQA,Zs,Nat.reduceLT,Nat.reduceEqDiff,Option.some.injEq,reduceCtorEq,decide_true,decide_false,↓reduceIte,Zd,Zhz,Zqq,Zio,Zgq,ZeQ,oI,h1,h4,h5,gvT]
   rfl
  ·have h5:¬(b.length:Int) < 4:=by omega
   simp -implicitDefEqProofs only [EQA,Zs,Nat.reduceLT,Nat.reduceEqDiff,Option.some.injEq,reduceCtorEq,decide_false,↓reduceIte,Zd,Zhz,Zqq,Zio,Zgq,ZeQ,oI,h1,h4,h5,gvT]
   rfl
 | c::r,i,n,hi,hib,hn,h=>by
  have hlt:=(Z7 h).2.2
  have h1:(i:Int) < b.length:=by omega
  have e1:=iad (Z7 h).1 Zc (k:=1) rfl
  have e3:=ZcT h1 hl
  rw [gvA]
  by_cases h4:i=4
  ·have h5:¬(b.length:Int) < 4:=by omega
   have h6:((i:Int) == 4)=true:=by simp;omega
   rw [if_pos h4]
   unfold Zhb
   rw [Z5]
   simp -implicitDefEqProofs only [EQA,Zs,Nat.reduceLT,Nat.reduceEqDiff,Option.some.injEq,reduceCtorEq,decide_true,decide_false,↓reduceIte,Zd,Zhz,Zqq,Zio,Zgq,ZeQ,oI,h1,e1,h5,h6,gvT,Zc,AVal.cells]
   rfl
  ·have h6:((i:Int) == 4)=false:=by simp;omega
   have hm:=ZG4 c
   have ha:c.toNat % 128 < 128:=Nat.mod_lt _ (by decide)
   have hi64:IntKind.i64.wrap ((c.toNat % 128:Nat):Int)=((c.toNat % 128:Nat):Int):=ZbL (by omega) (by omega)
   have h7:IntKind.i64.wrap (7*(i:Int))=((7*i:Nat):Int):=by rw [ZbL (by omega) (by omega)];omega
   have hneg:¬((7*i:Nat):Int) < 0:=by omega
   have hs:=Zv0 (c.toNat % 128) i (by omega) ha
   have ho:=ZIr n (c.toNat % 128) i (by omega) hn ha
   by_cases hc:c.toNat < 128
   ·have hc':(c.toNat:Int) < 128:=by omega
    unfold Zhb
    rw [Z5]
    by_cases hc0:c=0
    ·have hc1:((c.toNat:Int) == 0)=true:=by rw [hc0];rfl
     by_cases hip:0 < i
     ·have hip':(i:Int) > 0:=by omega
      have hcc:c=0∧0 < i:=⟨hc0,hip⟩
      simp -implicitDefEqProofs only [EQA,Zs,Z2,Zc5,Zlx,Nat.reduceLT,Nat.reduceEqDiff,ZaB,ZE,Zaq,unG,ne_eq,Option.some.injEq,reduceCtorEq,decide_true,decide_false,decide_eq_true_eq,ite_self,↓reduceIte,Zd,gcT,gcA,ZB,Zz,Zv,ZJ,Zhz,Zgq,ZeQ,oI,h1,e1,h4,h6,h7,hneg,hip',hcc,gvT,Zc,AVal.cells]
      rfl
     ·have hip':¬(i:Int) > 0:=by omega
      have hcc:¬(c=0∧0 < i):=fun h=>hip h.2
      simp -implicitDefEqProofs only [EQA,Zs,Nat.reduceLT,Nat.reduceEqDiff,ZaB,ZE,unG,ne_eq,Option.some.injEq,reduceCtorEq,decide_true,decide_false,↓reduceIte,Zd,Zhz,Zgq,ZeQ,oI,h1,e1,h4,h6,hm,hi64,h7,hneg,hs,ho,hc,hc',hc1,hip',hcc,e3,gvT,Zc,AVal.cells]
    ·have hc1:((c.toNat:Int) == 0)=false:=by
      have : c.toNat≠0:=fun h=>hc0 (UInt8.toNat_inj.1 (by simpa using h))
      simp;omega
     have hcc:¬(c=0∧0 < i):=fun h=>hc0 h.1
     simp -implicitDefEqProofs only [EQA,Zs,Nat.reduceLT,Nat.reduceEqDiff,ZaB,ZE,Zaq,ne_eq,Option.some.injEq,reduceCtorEq,decide_true,decide_false,↓reduceIte,Zd,Zhz,Zgq,ZeQ,oI,h1,e1,h4,h6,hm,hi64,h7,hneg,hs,ho,hc,hc',hc1,hcc,e3,gvT,Zc,AVal.cells]
   ·have hc':¬(c.toNat:Int) < 128:=by omega
    have ih:=Zs5 b hl r (i+1) (n+c.toNat % 128*128 ^ i) (by omega) (by omega) (Zsk n i _ hn ha) (Z7 h).2.1
    unfold Zhb at ih ⊢
    rw [Z5]
    simp -implicitDefEqProofs only [EQA,Z2,Nat.reduceLT,Nat.reduceEqDiff,ZaB,reduceCtorEq,decide_true,decide_false,↓reduceIte,gcT,gcA,ZB,Zz,Zv,ZJ,Zgq,ZeQ,oI,h1,e1,h4,h6,hm,hi64,h7,hneg,hs,ho,hc,hc',e3,Zc,AVal.cells]
    exact ih
theorem ZLa (b:Zb) (hl:b.length≤9223372036854775807):E 135 [ZH b] []=some (gvT (ZS b),[]):=by
 have key:=Zs5 b hl b 0 0 (by omega) (by omega) (by simp) rfl
 have z0:((0:Nat):Int)=0:=rfl
 rw [z0] at key
 unfold Zhb at key
 unfold ZS
 rw [Zh (by rfl) ZEB]
 simp -implicitDefEqProofs only [EQA,Z2,Nat.reduceLT,Nat.reduceEqDiff,reduceCtorEq,↓reduceIte,gcT,gcA,ZB,Zz,Zv,ZJ,ZLj,ZmO,oI,ZH]
 exact key
theorem Zoo (σ:Za) (site own:Nat) (f:Bool) (b:Zb) (hl:b.length≤9223372036854775807):Zj E BY σ site 135 own true [.lst f (b.map Zc)]=some (gvT (ZS b),σ,{}) :=
 Zbu (ZLa b hl) (by kernel_rfl) rfl rfl rfl (fun _=>rfl) _ _ _
end Go.Proofs.YtmlkhhidifjjfaaDoor
namespace Go.Proofs.YtmlkhhidifjjfaaDoor
set_option maxHeartbeats 4000000
set_option maxRecDepth 10000
theorem ZqM (l:List UInt8) (p:Nat):Ze3 l p=Lib.decodeL (l.drop p):=by
 have:=Lib.decodeL_drop ⟨l.toArray⟩ p
 simpa [Ze3] using this.symm
def zfG:Nat→List UInt8→Bool
 | 0,_=>true
 | n+1,l=>if l=[] then true else if (Lib.decodeL l).1=0 then false else zfG n (l.drop (Lib.decodeL l).2)
def ZgG (l:List UInt8):Bool:=zfG l.length l && Lib.validD l
theorem ZAo (l:List UInt8):E 142 [.str l] []=some (.bool (Lib.validD l),[]):=Zdr.2 ⟨1,rfl⟩
theorem Zzj (σ:Za) (site own:Nat) (view:Bool) (l:List UInt8):Zj E BY σ site 142 own view [.str l]=some (.bool (Lib.validD l),σ,{}) :=
 Zb6 (ZAo l) (by kernel_rfl) (by simp -implicitDefEqProofs only [Zcw,Zbg,eq_self]) (by simp -implicitDefEqProofs only [ZC,Zbg,eq_self]) rfl (fun _=>rfl) _ _ _ _
theorem ZqS (s:List UInt8):∀ (n p:Nat),s.length - p≤n→p≤s.length→Zlz 0 [(6,.ref 0 0),(0,.str s)] [.siter s p]=some (.bool (zfG n (s.drop p) && Lib.validD s),[])
 | n,p,hn,hp=>by
  by_cases h:p < s.length
  ·obtain ⟨n,rfl⟩:∃ m,n=m+1:=⟨n - 1,by omega⟩
   have hw:=Lib.decodeL_width (s.drop p)
   have hne:s.drop p≠[]:=by rw [ne_eq,List.drop_eq_nil_iff];omega
   have hle:=Lib.decodeL_le (s.drop p) hne
   rw [List.length_drop] at hle
   have ih:=ZqS s n (p+(Lib.decodeL (s.drop p)).2) (by omega) (by omega)
   rw [←List.drop_drop] at ih
   unfold Zlz at ih ⊢
   rw [Z5]
   by_cases hz:(Lib.decodeL (s.drop p)).1=0
   ·have hz':((Lib.decodeL (s.drop p)).1:Int)=0:=by omega
    simp -implicitDefEqProofs only [EQA,Nat.reduceLT,Nat.reduceEqDiff,Option.some.injEq,reduceCtorEq,↓reduceIte,ZuO,ZpK,Zjd,oI,h,ZqM,hz']
    rw [zfG,if_neg hne,if_pos hz];rfl
   ·have hz':(((Lib.decodeL (s.drop p)).1:Int) == 0)=false:=by rw [beq_eq_false_iff_ne];omega
    simp -implicitDefEqProofs only [EQA,Z2,Zb1,Nat.reduceLT,Nat.reduceEqDiff,ne_eq,reduceCtorEq,↓reduceIte,gcT,gcA,ZB,Zz,Zm,Zv,ZY,Zo,ZQ,ZF,ZJ,ZpK,Zjd,oI,h,ZqM,hz']
    rw [ih,zfG,if_neg hne,if_neg hz]
  ·have he:s.drop p=[]:=by rw [List.drop_eq_nil_iff];omega
   unfold Zlz
   rw [Z5]
   simp -implicitDefEqProofs only [EQA,Nat.reduceLT,Nat.reduceEqDiff,Option.some.injEq,reduceCtorEq,↓reduceIte,ZuO,ZyI,ZmA,ZpK,Zjd,oI,h,Zzj]
   rw [he]
   cases n <;> simp [zfG]
theorem ZFD (s:List UInt8):E 97 [.str s] []=some (.bool (ZgG s),[]):=by
 rw [Zh (by rfl) ZBa]
 have:=ZqS s s.length 0 (by omega) (by omega)
 unfold Zlz at this
 simp -implicitDefEqProofs only [EQA,Z2,Zb1,Nat.reduceLT,Nat.reduceBEq,ne_eq,reduceCtorEq,↓reduceIte,gcT,gcA,ZB,Zz,Zm,Zv,ZY,Zo,ZQ,ZF,ZJ,ZFv,Zoa,oI]
 rw [this,List.drop_zero];rfl
theorem Zrp (σ:Za) (site own:Nat) (view:Bool) (l:List UInt8):Zj E BY σ site 97 own view [.str l]=some (.bool (ZgG l),σ,{}) :=
 Zb6 (ZFD l) (by kernel_rfl) (by simp -implicitDefEqProofs only [Zcw,Zbg,eq_self]) (by simp -implicitDefEqProofs only [ZC,Zbg,eq_self]) rfl (fun _=>rfl) _ _ _ _
theorem wrap_i64 {n:Int} (h0:-9223372036854775808≤n) (h:n≤9223372036854775807):IntKind.i64.wrap n=n:=ZbL h0 h
end Go.Proofs.YtmlkhhidifjjfaaDoor
namespace Go.Proofs.YtmlkhhidifjjfaaDoor
set_option maxHeartbeats 8000000
set_option maxRecDepth 10000
theorem Zr3 (σ:Za) (l:Zb) (k1 k2:IntKind) (lo hi:Int) (h0:0≤lo) (h1:lo≤hi) (h2:hi≤(l.length:Int)):ZbO σ 1 (.lst false (l.map Zc)) (some (.int k1 lo)) (some (.int k2 hi)) none=some (.lst false (((l.take hi.toNat).drop lo.toNat).map Zc),σ,{}):=by
 have hh:0≤hi:=by omega
 have h3:lo≤((hi.toNat:Nat):Int):=by omega
 have hk:=Zfp l
 simp only [ZbO,Zbk,ZdR,List.length_map,hh,h2,and_self,if_true,h0,h3,hk,Bool.or_true,Option.isSome_none,Bool.false_eq_true,if_false,Bool.false_and,List.map_take,List.map_drop]
theorem Ze1 (σ:Za) (l:Zb) (k1:IntKind) (lo:Int) (h0:0≤lo) (h1:lo≤(l.length:Int)):ZbO σ 1 (.lst false (l.map Zc)) (some (.int k1 lo)) none none=some (.lst false ((l.drop lo.toNat).map Zc),σ,{}):=by
 have hk:=Zfp l
 simp only [ZbO,Zbk,ZdR,List.length_map,and_self,if_true,h0,h1,hk,Bool.or_true,Option.isSome_none,Bool.false_eq_true,if_false,Bool.false_and,List.map_drop]
 rw [List.take_of_length_le (by simp)]
def byT (x:Zb×Int):AVal:=.tup [.lst false (x.1.map Zc),.int .i64 x.2]
theorem ZBw (b:Zb) (h:b.length≤9223372036854775807):IntKind.u64.wrap (b.length:Int)=(b.length:Int):=by rw [IntKind.wrap_u64];omega
theorem ZwQ (b:Zb) (hl:b.length≤9223372036854775807):∃ f,E 55 [ZH b] []=some (.tup [.lst f ((ZbC b).1.map Zc),.int .i64 (ZbC b).2],[]):=by
 unfold ZbC
 by_cases h:b.length > 65535
 ·refine ⟨true,?_⟩
  have h':(b.length:Int) > 65535:=by omega
  rw [Zh (by rfl) Zs7,if_pos h]
  simp -implicitDefEqProofs only [EQA,Zs,Nat.reduceLT,Nat.reduceEqDiff,reduceCtorEq,decide_true,↓reduceIte,Zd,Zuc,Zlm,Zu7,oI,ZH,h']
 ·refine ⟨false,?_⟩
  have h':¬(b.length:Int) > 65535:=by omega
  have hw:=ZBw b hl
  have hP:=fun σ site own=>Zjw σ site own b.length 2 (by omega) (by omega)
  have hJ:=fun σ site own f=>ZgX σ site own f (beB b.length 2) [b] (by simp) (by simp [Zbc];omega)
  simp only [List.map_cons,List.map_nil,ZH,List.flatten_cons,List.flatten_nil,List.append_nil] at hJ
  have z2:((2:Nat):Int)=2:=rfl
  rw [z2] at hP
  rw [Zh (by rfl) Zs7,if_neg h]
  simp -implicitDefEqProofs only [EQA,Zs,Nat.reduceLT,Nat.reduceEqDiff,reduceCtorEq,decide_true,decide_false,↓reduceIte,Zd,Zuc,Zlm,Zu7,oI,ZH,h',hw,hP,hJ,viewAs,ZR,ZL,Zq,AVal.cells,List.foldl_cons,List.foldl_nil]
theorem ZmE (σ:Za) (site own:Nat) (f:Bool) (b:Zb) (hl:b.length≤9223372036854775807):Zj E BY σ site 55 own true [.lst f (b.map Zc)]=some (byT (ZbC b),σ,{}):=by
 obtain ⟨g,h⟩:=ZwQ b hl
 exact Zbu h (by kernel_rfl) rfl rfl rfl (fun _=>rfl) _ _ _
def Zag (s:Zb):Zb×Int:=if ZgG s then ZbC s else ([],13)
theorem ZLH (s:Zb) (hl:s.length≤9223372036854775807):∃ f,E 54 [.str s] []=some (.tup [.lst f ((Zag s).1.map Zc),.int .i64 (Zag s).2],[]):=by
 have hI:=fun σ site own=>Zrp σ site own true s
 have hD:=fun σ site own f=>ZmE σ site own f s hl
 unfold Zag
 cases h:ZgG s <;> rw [h] at hI
 ·refine ⟨true,?_⟩
  rw [Zh (by rfl) ZrL]
  simp -implicitDefEqProofs only [EQA,Zs,Nat.reduceLT,Nat.reduceEqDiff,unA,reduceCtorEq,↓reduceIte,Zd,Zrl,ZjL,ZqO,oI,hI]
 ·refine ⟨false,?_⟩
  rw [Zh (by rfl) ZrL]
  simp -implicitDefEqProofs only [EQA,Zs,Nat.reduceLT,Nat.reduceEqDiff,unA,reduceCtorEq,↓reduceIte,Zd,Zrl,ZjL,ZqO,oI,hI,hD,byT]
theorem ZiV (σ:Za) (site own:Nat) (s:Zb) (hl:s.length≤9223372036854775807):Zj E BY σ site 54 own true [.str s]=some (byT (Zag s),σ,{}):=by
 obtain ⟨g,h⟩:=ZLH s hl
 exact Zbu h (by kernel_rfl) rfl rfl rfl (fun _=>rfl) _ _ _
end Go.Proofs.YtmlkhhidifjjfaaDoor
namespace Go.Proofs.YtmlkhhidifjjfaaDoor
set_option maxHeartbeats 8000000
set_option maxRecDepth 10000
def gdT (x:Zb×Nat×Int):AVal:=.tup [.lst false (x.1.map Zc),.int .i64 (x.2.1:Nat),.int .i64 x.2.2]
def gtT (x:Zb×Nat×Int):AVal:=.tup [.str x.1,.int .i64 (x.2.1:Nat),.int .i64 x.2.2]
theorem ZK3 (b:Zb) (h:b.length≤2):ZcD b < 65536:=by
 unfold ZcD
 match b,h with
 | [],_=>simp [ZeO]
 | [a],_=>rw [Zc1,ZeO];have:=a.toNat_lt;omega
 | [a,c],_=>rw [Zc1,Zc1,ZeO];have:=a.toNat_lt;have:=c.toNat_lt;omega
def Z1 (b:Zb):Zb×Nat×Int:=if (Zas b).2.2≠0 then ([],0,(Zas b).2.2) else if ZgG (Zas b).1 then Zas b else ([],0,13)
theorem ZOl (b:Zb) (hl:b.length≤140737488355328):∃ f,E 106 [ZH b] []=some (.tup [.lst f ((Zas b).1.map Zc),.int .i64 ((Zas b).2.1:Nat),.int .i64 (Zas b).2.2],[]):=by
 have t2:(b.take 2).length≤9223372036854775807:=by simp;omega
 have hG:=fun σ site own f=>Zkk σ site own (b.take 2) t2 f
 have hg:=ZK3 (b.take 2) (by simp;omega)
 unfold Zas
 generalize hGG:ZcD (b.take 2)=g at *
 have hi:IntKind.i64.wrap (g:Int)=(g:Int):=ZbL (by omega) (by omega)
 by_cases h1:b.length < 2
 ·have h1':(b.length:Int) < 2:=by omega
  refine ⟨true,?_⟩
  rw [Zh (by rfl) ZpJ,if_pos (Or.inl h1)]
  simp -implicitDefEqProofs only [EQA,Zs,Nat.reduceLT,Nat.reduceEqDiff,ZE,Zaq,ne_eq,Option.some.injEq,reduceCtorEq,decide_true,decide_false,↓reduceIte,Zd,ZpW,Zh8,ZoF,oI,ZH,h1']
  rfl
 ·have h1':¬(b.length:Int) < 2:=by omega
  have s2:=fun σ kk=>Zgu σ 1 b Zc kk 2 (by omega) (by omega)
  have e2:(2:Int).toNat=2:=rfl
  rw [e2] at s2
  have w1:IntKind.i64.wrap ((b.length:Int) - 2)=((b.length - 2:Nat):Int):=by rw [ZbL (by omega) (by omega)];omega
  by_cases h3:b.length - 2 < g
  ·have h3':((b.length - 2:Nat):Int) < (g:Int):=by omega
   refine ⟨true,?_⟩
   rw [Zh (by rfl) ZpJ,if_pos (Or.inr h3)]
   simp -implicitDefEqProofs only [EQA,Zs,Nat.reduceLT,Nat.reduceEqDiff,ZE,unG,ne_eq,Option.some.injEq,reduceCtorEq,decide_true,decide_false,↓reduceIte,Zd,ZpW,Zh8,ZoF,oI,ZH,h1',s2,hG,hi,w1,h3']
   rfl
  ·have h3':¬((b.length - 2:Nat):Int) < (g:Int):=by omega
   have w2:IntKind.i64.wrap (2+(g:Int))=((2+g:Nat):Int):=by rw [ZbL (by omega) (by omega)];omega
   have s3:=fun σ k1 k2=>Zr3 σ b k1 k2 2 ((2+g:Nat):Int) (by omega) (by omega) (by omega)
   have e3:(((2+g:Nat):Int)).toNat=2+g:=rfl
   have e4:(b.take (2+g)).drop 2=(b.drop 2).take g:=by rw [List.drop_take];congr 1;omega
   rw [e2,e3,e4] at s3
   have hJ:=fun σ site own f=>ZgX σ site own f ((b.drop 2).take g) [] (by simp) (by simp;omega)
   simp only [List.map_cons,List.map_nil,ZH,List.flatten_cons,List.flatten_nil,List.append_nil] at hJ
   have hc:¬(b.length < 2∨b.length - 2 < g):=by omega
   refine ⟨false,?_⟩
   rw [Zh (by rfl) ZpJ,if_neg hc]
   simp -implicitDefEqProofs only [EQA,Zs,Nat.reduceLT,Nat.reduceEqDiff,ZE,unG,ne_eq,Option.some.injEq,reduceCtorEq,decide_true,decide_false,↓reduceIte,Zd,ZpW,Zh8,ZoF,oI,ZH,h1',s2,hG,hi,w1,h3',w2,s3,hJ,viewAs,ZR,ZL,Zq,AVal.cells,List.foldl_cons,List.foldl_nil]
theorem ZlF (σ:Za) (site own:Nat) (f:Bool) (b:Zb) (hl:b.length≤140737488355328):Zj E BY σ site 106 own true [.lst f (b.map Zc)]=some (gdT (Zas b),σ,{}):=by
 obtain ⟨g,h⟩:=ZOl b hl
 exact Zbu h (by kernel_rfl) rfl rfl rfl (fun _=>rfl) _ _ _
theorem ZOm (b:Zb) (hl:b.length≤140737488355328):E 109 [ZH b] []=some (gtT (Z1 b),[]):=by
 have hD:=fun σ site own f=>ZlF σ site own f b hl
 unfold gdT at hD
 have hI:=fun σ site own=>Zrp σ site own true (Zas b).1
 unfold Z1
 by_cases h0:(Zas b).2.2=0
 ·have hn0:¬((Zas b).2.2≠0):=by omega
  have e0:((0:Int) != 0)=false:=rfl
  have hp:Zas b=((Zas b).1,(Zas b).2.1,0):=by rw [←h0]
  rw [if_neg hn0]
  rw [hp]
  simp only
  rw [h0] at hD
  generalize (Zas b).1=d at *
  generalize (Zas b).2.1=u at *
  rw [Zh (by rfl) Zsm]
  cases ht:ZgG d <;> rw [ht] at hI
  ·simp -implicitDefEqProofs only [EQA,Zs,Nat.reduceLT,Nat.reduceEqDiff,unA,Option.some.injEq,reduceCtorEq,Z0,↓reduceIte,Zd,Znf,ZiJ,ZoC,oI,ZH,hD,hI,e0,gtT]
   rfl
  ·simp -implicitDefEqProofs only [EQA,Zs,Nat.reduceLT,Nat.reduceEqDiff,unA,reduceCtorEq,Z0,↓reduceIte,Zd,Znf,ZiJ,ZoC,oI,ZH,hD,hI,e0,gtT]
 ·have hn0:((Zas b).2.2≠0):=h0
  have e0:((Zas b).2.2 != 0)=true:=by simpa using h0
  rw [if_pos hn0]
  generalize (Zas b).2.2=e at *
  rw [Zh (by rfl) Zsm]
  simp -implicitDefEqProofs only [EQA,Zs,Nat.reduceLT,Nat.reduceEqDiff,Option.some.injEq,reduceCtorEq,↓reduceIte,Zd,Znf,ZiJ,ZoC,oI,ZH,hD,e0,gtT]
  rfl
theorem ZhL (σ:Za) (site own:Nat) (f:Bool) (b:Zb) (hl:b.length≤140737488355328):Zj E BY σ site 109 own true [.lst f (b.map Zc)]=some (gtT (Z1 b),σ,{}) :=
 Zbu (ZOm b hl) (by kernel_rfl) rfl rfl rfl (fun _=>rfl) _ _ _
end Go.Proofs.YtmlkhhidifjjfaaDoor
namespace Go.Proofs.YtmlkhhidifjjfaaDoor
set_option maxHeartbeats 4000000
theorem Zc3 {O:ZO} {byref:Nat→Bool} {σ:Za} {t f:Nat} {rest:List AVal} {cs cs':List AVal} {r r':AVal} (hb:byref f=false) (hp:rest.all Zab=true) (hc:Zd cs=true) (hc':Zd cs'=true) (hn:ZI r'=true) (hv:viewR [.var cs'] r=some (r',[]))
  (h:O f (.ref 0 0::rest.map ZG) [.var cs]=some (r,[.var cs'])) (hs:σ[t]?=some (.var cs)) (site:Nat):Zj O byref σ site f 0 true (.ref t 0::rest)=some (r',σ.set t (.var cs'),{ any:=true,upd:=[(t,cs')] }):=by
 have htl:t < σ.length:=by
  rcases Nat.lt_or_ge t σ.length with h | h
  ·exact h
  ·rw [List.getElem?_eq_none h] at hs;cases hs
 have hup:Za4 (σ.set t (.var cs')) [t]=[(t,cs')]:=by
  simp only [Za4,List.getElem?_set,if_pos htl,if_true]
 have hd:σ.getD t .free=.var cs:=by simp [List.getD_eq_getElem?_getD,hs]
 have hf0:Zq σ []=σ:=rfl
 have hsh:showAs σ (.ref t 0::rest)=some (.ref t 0::rest.map ZG,[]):=by
  rw [showAs,show showA σ (.ref t 0)=some (.ref t 0,[]) from rfl,Zd1 hp]
  rfl
 have href:Zr (.ref t 0::rest.map ZG)=[t]:=by
  rw [Zr,Zdg hp];rfl
 unfold Zj ZbV
 rw [hb]
 simp only [Bool.false_eq_true,if_false,hsh,hf0,href,Ze0 hs hc]
 unfold ZbB
 have hall:([t].all fun t=>okB (σ.getD t .free))=true:=by simp [List.all_cons,List.all_nil,hs,okB]
 rw [if_pos hall]
 have hρ:Zm σ 0 [t] t 0=some (0,0):=by simp [Zm,ZY,hs,Zo,ZQ]
 have hheap:Zv σ 0 [t] (Zm σ 0 [t]) [t] 0=[.var cs]:=by
  simp only [Zv,hd,ZF,(ZaS _ cs hc).1]
 have hargs:Zf (Zm σ 0 [t]) (.ref t 0::rest.map ZG)=.ref 0 0::rest.map ZG:=by
  rw [Zf,Zdf hp]
  simp only [Zk,hρ]
 rw [hargs,hheap,h]
 have hask:Zad true [t].length (some (r,[.var cs']))=some (r',[.var cs']):=by
  unfold Zad
  rw [if_pos rfl]
  have hnp:∀ x,r≠.pan x:=by rintro x rfl;simp [viewR,ZR,ZL] at hv
  rw [show ZbH [t].length (some (r,[.var cs']))=(match viewR [.var cs'] r with
   | some (r',ts)=>match gcA [t].length [r'] (Zq [.var cs'] ts) with
    | ([r''],σ')=>some (r'',σ')
    | _=>none
   | none=>none) from by cases r <;> first | rfl | exact absurd rfl (hnp _)]
  rw [hv]
  simp only [List.length_cons,List.length_nil,Nat.zero_add,show Zq [ZK.var cs'] []=[.var cs'] from rfl,Zkx hn hc']
 rw [hask]
 have hk:ZaZ σ [t] [.var cs'] 0=true:=by
  simp [ZaZ,okB,hs,Zcb,Zo]
 simp only [ZaC,List.isEmpty_cons,Bool.false_eq_true,if_false,List.length_cons,List.length_nil,Nat.zero_add,Nat.add_zero,Nat.le_refl,decide_true,hk,ZaY,Bool.and_self,if_true,Za2,ZaH,List.getD_cons_zero,ZF,(Za1 _ r' hn).1,(ZaS _ cs' hc').1,hup]
theorem Zcz {O:ZO} {byref:Nat→Bool} {σ:Za} {t f:Nat} {rest:List AVal} {cs cs':List AVal} {x:AVal} {view:Bool} (hb:byref f=false) (hp:rest.all Zab=true) (hc:Zd cs=true) (hc':Zd cs'=true) (hn:ZI x=true)
  (h:O f (.ref 0 0::rest.map ZG) [.var cs]=some (.pan x,[.var cs'])) (hs:σ[t]?=some (.var cs)) (site:Nat):Zj O byref σ site f 0 view (.ref t 0::rest)=some (.pan x,σ.set t (.var cs'),{ any:=true,upd:=[(t,cs')] }):=by
 have htl:t < σ.length:=by
  rcases Nat.lt_or_ge t σ.length with h | h
  ·exact h
  ·rw [List.getElem?_eq_none h] at hs;cases hs
 have hup:Za4 (σ.set t (.var cs')) [t]=[(t,cs')]:=by
  simp only [Za4,List.getElem?_set,if_pos htl,if_true]
 have hd:σ.getD t .free=.var cs:=by simp [List.getD_eq_getElem?_getD,hs]
 have hf0:Zq σ []=σ:=rfl
 have hsh:showAs σ (.ref t 0::rest)=some (.ref t 0::rest.map ZG,[]):=by
  rw [showAs,show showA σ (.ref t 0)=some (.ref t 0,[]) from rfl,Zd1 hp]
  rfl
 have href:Zr (.ref t 0::rest.map ZG)=[t]:=by
  rw [Zr,Zdg hp];rfl
 unfold Zj ZbV
 rw [hb]
 simp only [Bool.false_eq_true,if_false,hsh,hf0,href,Ze0 hs hc]
 unfold ZbB
 have hall:([t].all fun t=>okB (σ.getD t .free))=true:=by simp [List.all_cons,List.all_nil,hs,okB]
 rw [if_pos hall]
 have hρ:Zm σ 0 [t] t 0=some (0,0):=by simp [Zm,ZY,hs,Zo,ZQ]
 have hheap:Zv σ 0 [t] (Zm σ 0 [t]) [t] 0=[.var cs]:=by
  simp only [Zv,hd,ZF,(ZaS _ cs hc).1]
 have hargs:Zf (Zm σ 0 [t]) (.ref t 0::rest.map ZG)=.ref 0 0::rest.map ZG:=by
  rw [Zf,Zdf hp]
  simp only [Zk,hρ]
 rw [hargs,hheap,h]
 have hask:Zad view [t].length (some (.pan x,[.var cs']))=some (.pan x,[.var cs']):=by
  unfold Zad
  split <;> rfl
 rw [hask]
 have hk:ZaZ σ [t] [.var cs'] 0=true:=by
  simp [ZaZ,okB,hs,Zcb,Zo]
 have hnp:ZI (.pan x)=true:=by simpa only [ZI] using hn
 simp only [ZaC,List.isEmpty_cons,Bool.false_eq_true,if_false,List.length_cons,List.length_nil,Nat.zero_add,Nat.add_zero,Nat.le_refl,decide_true,hk,ZaY,Bool.and_self,if_true,Za2,ZaH,List.getD_cons_zero,ZF,(Za1 _ _ hnp).1,(ZaS _ cs' hc').1,hup]
end Go.Proofs.YtmlkhhidifjjfaaDoor
namespace Go.Proofs.YtmlkhhidifjjfaaDoor
def Zol:Ze:=(.seq (.region [oI 21 (.build [(.int .i64 0),(.int .i64 0),(.str []),(.str []),(.lst true [])] []),oN (.st 5 (.t 4) (.t 21)),oI 5 (.mov (.c (.bool false)))] none [5,4]) .ret)
def Zqr:Ze:=Zol
def Zzq:=xw Zqr Zol rfl
def Zi6:Ze:=(.seq (.region [oI 11 (.bin .lss (.t 10) (.t 9))] none [11,10,9,8,4,0]) (.seq (.cond (.t 11) .skip (.exit 0)) (.seq (.block 1 (.seq (.region [oI 12 (.iaddr 5 (.t 8) (.t 10)),oI 13 (.ld (some 5) (.t 12)),oI 7 (.alloc [(.int .i64 0),(.int .i64 0),(.str []),(.str []),(.lst true [])]),oN (.st 5 (.t 7) (.t 13))] none [10,9,8,7,4,0]) (.seq (.region [oI 14 (.faddr 0 (.t 7)),oI 15 (.ld none (.t 14)),oI 16 (.mov (.t 0)),oI 17 (.bin .eql (.t 15) (.t 16))] none [17,10,9,8,7,4,0]) (.cond (.t 17) (.seq (.region [oI 18 (.ld (some 5) (.t 7)),oI 19 (.call 147 0 true [(.t 18)]),oN (.st 5 (.t 4) (.t 19)),oI 5 (.mov (.c (.bool true)))] none [5,4]) .ret) .skip)))) (.region [oI 20 (.bin .add (.t 10) (.c (.int .i64 1))),oI 10 (.mov (.t 20))] none [10,9,8,4,0]))))
def Zqa:Ze:=Zi6
def ZoH:=xw Zqa Zi6 rfl
def Znd:Ze:=(.seq (.region [oI 4 (.alloc [(.int .i64 0),(.int .i64 0),(.str []),(.str []),(.lst true [])]),oI 5 (.mov (.c (.bool false)))] none [4,1,0]) (.seq (.seq (.region [oI 8 (.mov (.t 1)),oI 9 (.len (.t 8)),oI 10 (.mov (.c (.int .i64 0)))] none [10,9,8,4,0]) (.block 0 (.loop [10,9,8,4,0] Zqa))) Zqr))
def Zjt:ZD:=⟨[(.cell 4 (some 5)),(.tmp 5)],Znd⟩
theorem ZF4:FC 112=some Zjt:=by kernel_rfl
theorem Zxq:Zjt.body=Znd:=rfl
theorem ZuZ:Zjt.res=[(.cell 4 (some 5)),(.tmp 5)]:=rfl
noncomputable def ZkT (m:Nat) (tm:Tms) (σ:Za):Option (AVal×Za):=(Zan m Zjt (ZbE FC PR BY m Zqr (Option.map (ZaW 0) (evL FC PR BY m [10,9,8,4,0] Zqa tm σ))))
def Znk:Ze:=(.seq (.region [oI 2 (.mov (.c (.int .i64 0)))] none [0]) (.seq (.region [oI 3 (.mov (.t 0)),oI 4 (.call 152 0 true [(.t 3)]),oI 5 (.field none 0 (.t 4)),oI 2 (.mov (.t 5))] none [2]) .ret))
def Zpu:ZD:=⟨[(.tmp 2)],Znk⟩
theorem ZDY:FC 134=some Zpu:=by kernel_rfl
theorem ZMF:Zpu.body=Znk:=rfl
theorem ZF3:Zpu.res=[(.tmp 2)]:=rfl
def ZfS:Ze:=(.seq (.region [oI 26 (.mov (.t 6)),oI 27 (.len (.t 26)),oI 28 (.call 82 0 true [(.t 27)]),oI 25 (.mov (.t 28)),oI 29 (.ext (.t 25) 0),oI 30 (.ext (.t 25) 1),oI 9 (.mov (.t 29)),oI 10 (.mov (.t 30))] none [10,9,6,1,0]) (.seq (.seq (.region [oI 31 (.mov (.t 10)),oI 32 (.bin .neq (.t 31) (.c (.int .i64 0)))] none [32,9,6,1,0]) (.cond (.t 32) (.seq (.region [oI 4 (.mov (.c (.lst true []))),oI 5 (.mov (.c (.int .i64 129)))] none [5,4]) .ret) .skip)) (.seq (.region [oI 33 (.mov (.t 9)),oI 34 (.mov (.t 6)),oI 35 (.bslice false 1 2 (.lst true []) [(0,(.t 33)),(1,(.t 34))]),oI 36 (.call 56 0 true [(.t 35)]),oI 6 (.mov (.t 36))] none [6,1,0]) (.seq (.region [oI 38 (.mov (.t 0)),oI 39 (.mov (.t 6)),oI 40 (.call 90 0 true [(.t 38),(.t 39)]),oI 37 (.mov (.t 40)),oI 41 (.ext (.t 37) 0),oI 42 (.ext (.t 37) 1),oI 43 (.ext (.t 37) 2),oI 11 (.mov (.t 41)),oI 12 (.mov (.t 42)),oI 13 (.mov (.t 43))] none [13,12,11,6,1]) (.seq (.seq (.region [oI 44 (.mov (.t 13)),oI 45 (.bin .neq (.t 44) (.c (.int .i64 0))),oI 46 (.mov (.t 45)),⟨(some 47),(.mov (.t 12)),(some (46,false)),[]⟩,⟨(some 48),(.mov (.t 6)),(some (46,false)),[]⟩,⟨(some 49),(.len (.t 48)),(some (46,false)),[]⟩,⟨(some 50),(.bin .neq (.t 47) (.t 49)),(some (46,false)),[]⟩,oI 51 (.pick (.t 46) (.c (.bool true)) (.t 50)),oI 52 (.mov (.t 51)),⟨(some 53),(.mov (.t 11)),(some (52,false)),[]⟩,⟨(some 54),(.mov (.t 1)),(some (52,false)),[]⟩,⟨(some 55),(.call 43 0 true [(.t 53),(.t 54)]),(some (52,false)),[]⟩,⟨(some 56),(.un .not (.t 55)),(some (52,false)),[]⟩,oI 57 (.pick (.t 52) (.c (.bool true)) (.t 56))] none [57,6]) (.cond (.t 57) (.seq (.region [oI 4 (.mov (.c (.lst true []))),oI 5 (.mov (.c (.int .i64 129)))] none [5,4]) .ret) .skip)) (.seq (.region [oI 58 (.mov (.t 6)),oI 4 (.mov (.t 58)),oI 5 (.mov (.c (.int .i64 0)))] none [5,4]) .ret))))))
def ZnF:Ze:=ZfS
def ZhN:=xw ZnF ZfS rfl
def ZeF:Ze:=(.seq (.region [oI 17 (.bin .lss (.t 16) (.t 15))] none [17,16,15,14,6,1,0]) (.seq (.cond (.t 17) .skip (.exit 0)) (.seq (.block 1 (.seq (.region [oI 18 (.iaddr 5 (.t 14) (.t 16)),oI 19 (.ld (some 5) (.t 18)),oI 8 (.alloc [(.int .i64 0),(.int .i64 0),(.str []),(.str []),(.lst true [])]),oN (.st 5 (.t 8) (.t 19))] none [16,15,14,8,6,1,0]) (.region [oI 20 (.mov (.t 6)),oI 21 (.ld (some 5) (.t 8)),oI 22 (.call 89 0 true [(.t 21)]),oI 23 (.app 1 1 (.int .u8 0) (.t 20) (.t 22)),oI 6 (.mov (.t 23))] none [16,15,14,6,1,0]))) (.region [oI 24 (.bin .add (.t 16) (.c (.int .i64 1))),oI 16 (.mov (.t 24))] none [16,15,14,6,1,0]))))
def ZnU:Ze:=ZeF
def Zf2:=xw ZnU ZeF rfl
def ZlW:Ze:=(.seq (.region [oI 4 (.mov (.c (.lst true []))),oI 5 (.mov (.c (.int .i64 0)))] none [1,0]) (.seq (.region [oI 6 (.mov (.c (.lst true [])))] none [6,1,0]) (.seq (.seq (.region [oI 14 (.mov (.t 1)),oI 15 (.len (.t 14)),oI 16 (.mov (.c (.int .i64 0)))] none [16,15,14,6,1,0]) (.block 0 (.loop [16,15,14,6,1,0] ZnU))) ZnF)))
def Zj7:ZD:=⟨[(.tmp 4),(.tmp 5)],ZlW⟩
theorem Zui:FC 42=some Zj7:=by kernel_rfl
theorem Zuz:Zj7.body=ZlW:=rfl
theorem Zg9:Zj7.res=[(.tmp 4),(.tmp 5)]:=rfl
noncomputable def Ziw (m:Nat) (tm:Tms) (σ:Za):Option (AVal×Za):=(Zan m Zj7 (ZbE FC PR BY m ZnF (Option.map (ZaW 0) (evL FC PR BY m [16,15,14,6,1,0] ZnU tm σ))))
def Zip:Ze:=(.seq (.region [oI 4 (.mov (.c (.bool false)))] none [1,0]) (.seq (.region [oI 5 (.mov (.t 1)),oI 6 (.bin .geq (.t 5) (.c (.int .i64 1))),oI 7 (.mov (.t 6)),⟨(some 8),(.mov (.t 1)),(some (7,true)),[]⟩,⟨(some 9),(.bin .leq (.t 8) (.c (.int .i64 16))),(some (7,true)),[]⟩,oI 10 (.pick (.t 7) (.t 9) (.c (.bool false))),oI 11 (.mov (.t 10)),⟨(some 12),(.mov (.t 0)),(some (11,true)),[]⟩,⟨(some 13),(.call 152 0 true [(.t 12)]),(some (11,true)),[]⟩,⟨(some 14),(.field none 1 (.t 13)),(some (11,true)),[]⟩,⟨(some 15),(.mov (.t 1)),(some (11,true)),[]⟩,⟨(some 16),(.bin .shr (.t 14) (.t 15)),(some (11,true)),[]⟩,⟨(some 17),(.bin .and (.t 16) (.c (.int .i64 1))),(some (11,true)),[]⟩,⟨(some 18),(.bin .eql (.t 17) (.c (.int .i64 1))),(some (11,true)),[]⟩,oI 19 (.pick (.t 11) (.t 18) (.c (.bool false))),oI 4 (.mov (.t 19))] none [4]) .ret))
def ZmX:ZD:=⟨[(.tmp 4)],Zip⟩
theorem ZD5:FC 153=some ZmX:=by kernel_rfl
theorem Zph:ZmX.body=Zip:=rfl
theorem Zpf:ZmX.res=[(.tmp 4)]:=rfl
def ZlD:Ze:=(.seq (.region [oI 57 (.mov (.t 4)),oI 58 (.mov (.t 8)),oI 59 (.mov (.t 7)),oI 60 (.bin .add (.t 58) (.t 59)),oI 4 (.mov (.t 57)),oI 5 (.mov (.t 60)),oI 6 (.mov (.c (.int .i64 0)))] none [6,5,4]) .ret)
def ZmF:Ze:=ZlD
def ZqZ:=xw ZmF ZlD rfl
def Zfm:Ze:=(.seq (.seq (.region [oI 36 (.mov (.t 10)),oI 37 (.len (.t 36)),oI 38 (.bin .gtr (.t 37) (.c (.int .i64 0)))] none [38,10,8,7,4,0]) (.cond (.t 38) .skip (.exit 0))) (.block 1 (.seq (.region [oI 40 (.mov (.t 0)),oI 41 (.mov (.t 10)),oI 42 (.mov (.t 4)),oI 43 (.call 136 0 true [(.t 40),(.t 41),(.t 42)]),oI 39 (.mov (.t 43)),oI 44 (.ext (.t 39) 0),oI 45 (.ext (.t 39) 1),oI 46 (.ext (.t 39) 2),oI 11 (.alloc [(.int .i64 0),(.int .i64 0),(.str []),(.str []),(.lst true [])]),oN (.st 5 (.t 11) (.t 44)),oI 12 (.mov (.t 45)),oI 13 (.mov (.t 46))] none [13,12,11,10,8,7,4,0]) (.seq (.seq (.region [oI 47 (.mov (.t 13)),oI 48 (.bin .neq (.t 47) (.c (.int .i64 0)))] none [48,13,12,11,10,8,7,4,0]) (.cond (.t 48) (.seq (.region [oI 49 (.mov (.t 13)),oI 4 (.mov (.c (.lst true []))),oI 5 (.mov (.c (.int .i64 0))),oI 6 (.mov (.t 49))] none [6,5,4]) .ret) .skip)) (.seq (.region [oI 50 (.mov (.t 4)),oI 51 (.ld (some 5) (.t 11)),oI 52 (.bslice false 5 1 (.agg [(.int .i64 0),(.int .i64 0),(.str []),(.str []),(.lst true [])]) [(0,(.t 51))]),oI 53 (.app 5 72 (.agg [(.int .i64 0),(.int .i64 0),(.str []),(.str []),(.lst true [])]) (.t 50) (.t 52)),oI 4 (.mov (.t 53))] none [12,10,8,7,4,0]) (.region [oI 54 (.mov (.t 10)),oI 55 (.mov (.t 12)),oI 56 (.slice 1 (.t 54) (some (.t 55)) none none),oI 10 (.mov (.t 56))] none [10,8,7,4,0]))))))
def ZnK:Ze:=Zfm
def Zg5:=xw ZnK Zfm rfl
def ZhT:Ze:=(.seq (.region [oI 4 (.mov (.c (.lst true []))),oI 5 (.mov (.c (.int .i64 0))),oI 6 (.mov (.c (.int .i64 0)))] none [4,1,0]) (.seq (.region [oI 15 (.mov (.t 1)),oI 16 (.call 135 0 true [(.t 15)]),oI 14 (.mov (.t 16)),oI 17 (.ext (.t 14) 0),oI 18 (.ext (.t 14) 1),oI 19 (.ext (.t 14) 2),oI 7 (.mov (.t 17)),oI 8 (.mov (.t 18)),oI 9 (.mov (.t 19))] none [9,8,7,4,1,0]) (.seq (.seq (.region [oI 20 (.mov (.t 9)),oI 21 (.bin .neq (.t 20) (.c (.int .i64 0))),oI 22 (.mov (.t 21)),⟨(some 23),(.mov (.t 7)),(some (22,false)),[]⟩,⟨(some 24),(.mov (.t 1)),(some (22,false)),[]⟩,⟨(some 25),(.len (.t 24)),(some (22,false)),[]⟩,⟨(some 26),(.mov (.t 8)),(some (22,false)),[]⟩,⟨(some 27),(.bin .sub (.t 25) (.t 26)),(some (22,false)),[]⟩,⟨(some 28),(.bin .gtr (.t 23) (.t 27)),(some (22,false)),[]⟩,oI 29 (.pick (.t 22) (.c (.bool true)) (.t 28))] none [29,8,7,4,1,0]) (.cond (.t 29) (.seq (.region [oI 4 (.mov (.c (.lst true []))),oI 5 (.mov (.c (.int .i64 0))),oI 6 (.mov (.c (.int .i64 129)))] none [6,5,4]) .ret) .skip)) (.seq (.seq (.region [oI 30 (.mov (.t 1)),oI 31 (.mov (.t 8)),oI 32 (.mov (.t 8)),oI 33 (.mov (.t 7)),oI 34 (.bin .add (.t 32) (.t 33)),oI 35 (.slice 1 (.t 30) (some (.t 31)) (some (.t 34)) none),oI 10 (.mov (.t 35))] none [10,8,7,4,0]) (.block 0 (.loop [10,8,7,4,0] ZnK))) ZmF))))
def ZlZ:ZD:=⟨[(.tmp 4),(.tmp 5),(.tmp 6)],ZhT⟩
theorem Zl8:FC 90=some ZlZ:=by kernel_rfl
theorem ZpG:ZlZ.body=ZhT:=rfl
theorem Zg3:ZlZ.res=[(.tmp 4),(.tmp 5),(.tmp 6)]:=rfl
noncomputable def Zhr (m:Nat) (tm:Tms) (σ:Za):Option (AVal×Za):=(Zan m ZlZ (ZbE FC PR BY m ZmF (Option.map (ZaW 0) (evL FC PR BY m [10,8,7,4,0] ZnK tm σ))))
def Zqm:Ze:=(.seq (.region [oI 4 (.mov (.c (.bool false)))] none [1,0]) (.seq (.region [oI 5 (.mov (.t 0)),oI 6 (.mov (.t 1)),oI 7 (.call 91 0 true [(.t 5),(.t 6),(.c (.fn 92 []))]),oI 4 (.mov (.t 7))] none [4]) .ret))
def Znu:ZD:=⟨[(.tmp 4)],Zqm⟩
theorem Zz7:FC 43=some Znu:=by kernel_rfl
theorem ZGx:Znu.body=Zqm:=rfl
theorem ZGR:Znu.res=[(.tmp 4)]:=rfl
def Zny:Ze:=(.seq (.region [oI 2 (.box (.t 0)),oI 3 (.box (.t 1)),oI 4 (.mov (.c (.bool false)))] none [3,2]) (.seq (.region [oI 5 (.faddr 0 (.t 2)),oI 6 (.ld none (.t 5)),oI 7 (.faddr 0 (.t 3)),oI 8 (.ld none (.t 7)),oI 9 (.bin .eql (.t 6) (.t 8)),oI 10 (.mov (.t 9)),⟨(some 11),(.faddr 1 (.t 2)),(some (10,true)),[]⟩,⟨(some 12),(.ld none (.t 11)),(some (10,true)),[]⟩,⟨(some 13),(.faddr 1 (.t 3)),(some (10,true)),[]⟩,⟨(some 14),(.ld none (.t 13)),(some (10,true)),[]⟩,⟨(some 15),(.bin .eql (.t 12) (.t 14)),(some (10,true)),[]⟩,oI 16 (.pick (.t 10) (.t 15) (.c (.bool false))),oI 17 (.mov (.t 16)),⟨(some 18),(.faddr 2 (.t 2)),(some (17,true)),[]⟩,⟨(some 19),(.ld none (.t 18)),(some (17,true)),[]⟩,⟨(some 20),(.faddr 2 (.t 3)),(some (17,true)),[]⟩,⟨(some 21),(.ld none (.t 20)),(some (17,true)),[]⟩,⟨(some 22),(.bin .eql (.t 19) (.t 21)),(some (17,true)),[]⟩,oI 23 (.pick (.t 17) (.t 22) (.c (.bool false))),oI 24 (.mov (.t 23)),⟨(some 25),(.faddr 3 (.t 2)),(some (24,true)),[]⟩,⟨(some 26),(.ld none (.t 25)),(some (24,true)),[]⟩,⟨(some 27),(.faddr 3 (.t 3)),(some (24,true)),[]⟩,⟨(some 28),(.ld none (.t 27)),(some (24,true)),[]⟩,⟨(some 29),(.bin .eql (.t 26) (.t 28)),(some (24,true)),[]⟩,oI 30 (.pick (.t 24) (.t 29) (.c (.bool false))),oI 31 (.mov (.t 30)),⟨(some 32),(.faddr 4 (.t 2)),(some (31,true)),[]⟩,⟨(some 33),(.ld none (.t 32)),(some (31,true)),[]⟩,⟨(some 34),(.b2s (.t 33)),(some (31,true)),[]⟩,⟨(some 35),(.faddr 4 (.t 3)),(some (31,true)),[]⟩,⟨(some 36),(.ld none (.t 35)),(some (31,true)),[]⟩,⟨(some 37),(.b2s (.t 36)),(some (31,true)),[]⟩,⟨(some 38),(.bin .eql (.t 34) (.t 37)),(some (31,true)),[]⟩,oI 39 (.pick (.t 31) (.t 38) (.c (.bool false))),oI 4 (.mov (.t 39))] none [4]) .ret))
def Zqo:ZD:=⟨[(.tmp 4)],Zny⟩
theorem ZI9:FC 92=some Zqo:=by kernel_rfl
theorem ZGo:Zqo.body=Zny:=rfl
theorem ZHu:Zqo.res=[(.tmp 4)]:=rfl
def Znx:Ze:=(.seq (.region [oI 1 (.box (.t 0)),oI 2 (.alloc [(.int .i64 0),(.int .i64 0),(.str []),(.str []),(.lst true [])])] none [2,1]) (.seq (.region [oI 3 (.faddr 4 (.t 1)),oI 4 (.ld none (.t 3)),oI 5 (.call 111 0 true [(.t 4)]),oI 6 (.faddr 4 (.t 1)),oN (.st 1 (.t 6) (.t 5))] none [2,1]) (.seq (.region [oI 7 (.ld (some 5) (.t 1)),oN (.st 5 (.t 2) (.t 7))] none [2]) .ret)))
def Zl4:ZD:=⟨[(.cell 2 (some 5))],Znx⟩
theorem Zzp:FC 147=some Zl4:=by kernel_rfl
theorem Zxx:Zl4.body=Znx:=rfl
theorem ZLL:Zl4.res=[(.cell 2 (some 5))]:=rfl
def Zne:Ze:=(.seq (.region [oI 1 (.box (.t 0)),oI 2 (.mov (.c (.bool false)))] none [1]) (.seq (.seq (.region [oI 3 (.faddr 0 (.t 1)),oI 4 (.ld none (.t 3))] none [4,1]) (.block 0 (.seq (.seq (.region [oI 6 (.bin .eql (.t 4) (.c (.int .i64 11))),oI 5 (.mov (.t 6))] none [5,4,1]) (.cond (.t 5) .skip (.seq (.region [oI 7 (.bin .eql (.t 4) (.c (.int .i64 33))),oI 5 (.mov (.t 7))] none [5,4,1]) (.cond (.t 5) .skip (.seq (.region [oI 8 (.bin .eql (.t 4) (.c (.int .i64 35))),oI 5 (.mov (.t 8))] none [5,4,1]) (.cond (.t 5) .skip (.region [oI 9 (.bin .eql (.t 4) (.c (.int .i64 39))),oI 5 (.mov (.t 9))] none [5,1]))))))) (.cond (.t 5) (.seq (.region [oI 10 (.faddr 1 (.t 1)),oI 11 (.ld none (.t 10)),oI 12 (.bin .neq (.t 11) (.c (.int .i64 0))),oI 2 (.mov (.t 12))] none [2]) .ret) .skip)))) (.seq (.region [oI 13 (.faddr 0 (.t 1)),oI 14 (.ld none (.t 13)),oI 15 (.call 134 0 true [(.t 14)]),oI 16 (.bin .neq (.t 15) (.c (.int .i64 1))),oI 17 (.mov (.t 16)),⟨(some 18),(.faddr 1 (.t 1)),(some (17,false)),[]⟩,⟨(some 19),(.ld none (.t 18)),(some (17,false)),[]⟩,⟨(some 20),(.bin .leq (.t 19) (.c (.int .i64 1))),(some (17,false)),[]⟩,oI 21 (.pick (.t 17) (.c (.bool true)) (.t 20)),oI 2 (.mov (.t 21))] none [2]) .ret)))
def Zm0:ZD:=⟨[(.tmp 2)],Zne⟩
theorem ZIw:FC 156=some Zm0:=by kernel_rfl
theorem ZId:Zm0.body=Zne:=rfl
theorem Zyq:Zm0.res=[(.tmp 2)]:=rfl
def Zej:Ze:=(.seq (.region [oI 1 (.box (.t 0)),oI 2 (.mov (.c (.lst true [])))] none [1]) (.seq (.region [oI 8 (.faddr 0 (.t 1)),oI 9 (.ld none (.t 8)),oI 10 (.call 82 0 true [(.t 9)]),oI 7 (.mov (.t 10)),oI 11 (.ext (.t 7) 0),oI 12 (.ext (.t 7) 1),oI 3 (.mov (.t 11)),oI 4 (.mov (.t 12))] none [3,1]) (.seq (.region [oI 5 (.mov (.c (.lst true []))),oI 6 (.mov (.c (.lst true [])))] none [6,5,3,1]) (.seq (.seq (.region [oI 13 (.faddr 0 (.t 1)),oI 14 (.ld none (.t 13)),oI 15 (.call 134 0 true [(.t 14)])] none [15,6,5,3,1]) (.block 0 (.seq (.seq (.region [oI 17 (.bin .eql (.t 15) (.c (.int .i64 1))),oI 16 (.mov (.t 17))] none [16,15,6,5,3,1]) (.cond (.t 16) .skip (.seq (.region [oI 18 (.bin .eql (.t 15) (.c (.int .i64 2))),oI 16 (.mov (.t 18))] none [16,15,6,5,3,1]) (.cond (.t 16) .skip (.region [oI 19 (.bin .eql (.t 15) (.c (.int .i64 3))),oI 16 (.mov (.t 19))] none [16,15,6,5,3,1]))))) (.cond (.t 16) (.region [oI 20 (.faddr 1 (.t 1)),oI 21 (.ld none (.t 20)),oI 22 (.i2i .u64 (.t 21)),oI 23 (.faddr 0 (.t 1)),oI 24 (.ld none (.t 23)),oI 25 (.call 134 0 true [(.t 24)]),oI 26 (.bin .sub (.t 25) (.c (.int .i64 1))),oI 27 (.bin .shl (.c (.int .i64 1)) (.t 26)),oI 28 (.call 59 0 true [(.t 22),(.t 27)]),oI 5 (.mov (.t 28))] (some [(1,4),(1,5),(5,5),(8,8)]) [6,5,3]) (.seq (.region [oI 30 (.bin .eql (.t 15) (.c (.int .i64 4))),oI 29 (.mov (.t 30))] none [29,15,6,5,3,1]) (.cond (.t 29) (.region [oI 32 (.faddr 1 (.t 1)),oI 33 (.ld none (.t 32)),oI 34 (.call 82 0 true [(.t 33)]),oI 31 (.mov (.t 34)),oI 35 (.ext (.t 31) 0),oI 36 (.ext (.t 31) 1),oI 5 (.mov (.t 35))] none [6,5,3]) (.seq (.region [oI 38 (.bin .eql (.t 15) (.c (.int .i64 5))),oI 37 (.mov (.t 38))] none [37,15,6,5,3,1]) (.cond (.t 37) (.region [oI 40 (.faddr 2 (.t 1)),oI 41 (.ld none (.t 40)),oI 42 (.call 54 0 true [(.t 41)]),oI 39 (.mov (.t 42)),oI 43 (.ext (.t 39) 0),oI 44 (.ext (.t 39) 1),oI 5 (.mov (.t 43))] none [6,5,3]) (.seq (.region [oI 46 (.bin .eql (.t 15) (.c (.int .i64 6))),oI 45 (.mov (.t 46))] none [45,15,6,5,3,1]) (.cond (.t 45) (.region [oI 48 (.faddr 4 (.t 1)),oI 49 (.ld none (.t 48)),oI 50 (.call 55 0 true [(.t 49)]),oI 47 (.mov (.t 50)),oI 51 (.ext (.t 47) 0),oI 52 (.ext (.t 47) 1),oI 5 (.mov (.t 51))] none [6,5,3]) (.seq (.region [oI 54 (.bin .eql (.t 15) (.c (.int .i64 7))),oI 53 (.mov (.t 54))] none [53,6,5,3,1]) (.cond (.t 53) (.seq (.region [oI 56 (.faddr 2 (.t 1)),oI 57 (.ld none (.t 56)),oI 58 (.call 54 0 true [(.t 57)]),oI 55 (.mov (.t 58)),oI 59 (.ext (.t 55) 0),oI 60 (.ext (.t 55) 1),oI 5 (.mov (.t 59))] none [5,3,1]) (.region [oI 62 (.faddr 3 (.t 1)),oI 63 (.ld none (.t 62)),oI 64 (.call 54 0 true [(.t 63)]),oI 61 (.mov (.t 64)),oI 65 (.ext (.t 61) 0),oI 66 (.ext (.t 61) 1),oI 6 (.mov (.t 65))] none [6,5,3])) .skip)))))))))))) (.seq (.region [oI 67 (.mov (.t 3)),oI 68 (.mov (.t 5)),oI 69 (.mov (.t 6)),oI 70 (.bslice false 1 3 (.lst true []) [(0,(.t 67)),(1,(.t 68)),(2,(.t 69))]),oI 71 (.call 56 0 true [(.t 70)]),oI 2 (.mov (.t 71))] none [2]) .ret)))))
def Zp2:ZD:=⟨[(.tmp 2)],Zej⟩
theorem ZfB:FC 89=some Zp2:=by kernel_rfl
theorem ZfC:Zp2.body=Zej:=rfl
theorem Zfl:Zp2.res=[(.tmp 2)]:=rfl
def Zpr:Ze:=(.seq (.region [oI 2 (.alloc [(.int .i64 0),(.int .i64 0)])] none [2,0]) (.seq (.seq (.region [oI 3 (.mov (.t 0))] none [3,2]) (.block 0 (.seq (.region [oI 5 (.bin .eql (.t 3) (.c (.int .i64 1))),oI 4 (.mov (.t 5))] none [4,3,2]) (.cond (.t 4) (.seq (.region [oI 6 (.bslice false 1 2 (.int .i64 0) [(0,(.c (.int .i64 3))),(1,(.c (.int .i64 16)))]),oI 7 (.call 162 0 true [(.t 6)]),oI 8 (.build [(.int .i64 0),(.int .i64 0)] [(0,1,(.c (.int .i64 1))),(1,1,(.t 7))]),oN (.st 2 (.t 2) (.t 8))] none [2]) .ret) (.seq (.region [oI 10 (.bin .eql (.t 3) (.c (.int .i64 2))),oI 9 (.mov (.t 10))] none [9,3,2]) (.cond (.t 9) (.seq (.region [oI 11 (.bslice false 1 2 (.int .i64 0) [(0,(.c (.int .i64 3))),(1,(.c (.int .i64 16)))]),oI 12 (.call 162 0 true [(.t 11)]),oI 13 (.build [(.int .i64 0),(.int .i64 0)] [(0,1,(.c (.int .i64 3))),(1,1,(.t 12))]),oN (.st 2 (.t 2) (.t 13))] none [2]) .ret) (.seq (.seq (.region [oI 15 (.bin .eql (.t 3) (.c (.int .i64 3))),oI 14 (.mov (.t 15))] none [14,3,2]) (.cond (.t 14) .skip (.region [oI 16 (.bin .eql (.t 3) (.c (.int .i64 8))),oI 14 (.mov (.t 16))] none [14,3,2]))) (.cond (.t 14) (.seq (.region [oI 17 (.bslice false 1 2 (.int .i64 0) [(0,(.c (.int .i64 3))),(1,(.c (.int .i64 16)))]),oI 18 (.call 162 0 true [(.t 17)]),oI 19 (.build [(.int .i64 0),(.int .i64 0)] [(0,1,(.c (.int .i64 5))),(1,1,(.t 18))]),oN (.st 2 (.t 2) (.t 19))] none [2]) .ret) (.seq (.region [oI 21 (.bin .eql (.t 3) (.c (.int .i64 9))),oI 20 (.mov (.t 21))] none [20,3,2]) (.cond (.t 20) (.seq (.region [oI 22 (.bslice false 1 2 (.int .i64 0) [(0,(.c (.int .i64 3))),(1,(.c (.int .i64 16)))]),oI 23 (.call 162 0 true [(.t 22)]),oI 24 (.build [(.int .i64 0),(.int .i64 0)] [(0,1,(.c (.int .i64 6))),(1,1,(.t 23))]),oN (.st 2 (.t 2) (.t 24))] none [2]) .ret) (.seq (.region [oI 26 (.bin .eql (.t 3) (.c (.int .i64 11))),oI 25 (.mov (.t 26))] none [25,3,2]) (.cond (.t 25) (.seq (.region [oI 27 (.bslice false 1 2 (.int .i64 0) [(0,(.c (.int .i64 3))),(1,(.c (.int .i64 8)))]),oI 28 (.call 162 0 true [(.t 27)]),oI 29 (.build [(.int .i64 0),(.int .i64 0)] [(0,1,(.c (.int .i64 4))),(1,1,(.t 28))]),oN (.st 2 (.t 2) (.t 29))] none [2]) .ret) (.seq (.region [oI 31 (.bin .eql (.t 3) (.c (.int .i64 17))),oI 30 (.mov (.t 31))] none [30,3,2]) (.cond (.t 30) (.seq (.region [oI 32 (.bslice false 1 3 (.int .i64 0) [(0,(.c (.int .i64 1))),(1,(.c (.int .i64 2))),(2,(.c (.int .i64 14)))]),oI 33 (.call 162 0 true [(.t 32)]),oI 34 (.build [(.int .i64 0),(.int .i64 0)] [(0,1,(.c (.int .i64 3))),(1,1,(.t 33))]),oN (.st 2 (.t 2) (.t 34))] none [2]) .ret) (.seq (.seq (.region [oI 36 (.bin .eql (.t 3) (.c (.int .i64 18))),oI 35 (.mov (.t 36))] none [35,3,2]) (.cond (.t 35) .skip (.region [oI 37 (.bin .eql (.t 3) (.c (.int .i64 26))),oI 35 (.mov (.t 37))] none [35,3,2]))) (.cond (.t 35) (.seq (.region [oI 38 (.bslice false 1 1 (.int .i64 0) [(0,(.c (.int .i64 2)))]),oI 39 (.call 162 0 true [(.t 38)]),oI 40 (.build [(.int .i64 0),(.int .i64 0)] [(0,1,(.c (.int .i64 5))),(1,1,(.t 39))]),oN (.st 2 (.t 2) (.t 40))] none [2]) .ret) (.seq (.region [oI 42 (.bin .eql (.t 3) (.c (.int .i64 19))),oI 41 (.mov (.t 42))] none [41,3,2]) (.cond (.t 41) (.seq (.region [oI 43 (.bslice false 1 1 (.int .i64 0) [(0,(.c (.int .i64 2)))]),oI 44 (.call 162 0 true [(.t 43)]),oI 45 (.build [(.int .i64 0),(.int .i64 0)] [(0,1,(.c (.int .i64 2))),(1,1,(.t 44))]),oN (.st 2 (.t 2) (.t 45))] none [2]) .ret) (.seq (.region [oI 47 (.bin .eql (.t 3) (.c (.int .i64 21))),oI 46 (.mov (.t 47))] none [46,3,2]) (.cond (.t 46) (.seq (.region [oI 48 (.bslice false 1 3 (.int .i64 0) [(0,(.c (.int .i64 1))),(1,(.c (.int .i64 2))),(2,(.c (.int .i64 15)))]),oI 49 (.call 162 0 true [(.t 48)]),oI 50 (.build [(.int .i64 0),(.int .i64 0)] [(0,1,(.c (.int .i64 5))),(1,1,(.t 49))]),oN (.st 2 (.t 2) (.t 50))] none [2]) .ret) (.seq (.region [oI 52 (.bin .eql (.t 3) (.c (.int .i64 22))),oI 51 (.mov (.t 52))] none [51,3,2]) (.cond (.t 51) (.seq (.region [oI 53 (.bslice false 1 3 (.int .i64 0) [(0,(.c (.int .i64 1))),(1,(.c (.int .i64 2))),(2,(.c (.int .i64 15)))]),oI 54 (.call 162 0 true [(.t 53)]),oI 55 (.build [(.int .i64 0),(.int .i64 0)] [(0,1,(.c (.int .i64 6))),(1,1,(.t 54))]),oN (.st 2 (.t 2) (.t 55))] none [2]) .ret) (.seq (.seq (.region [oI 57 (.bin .eql (.t 3) (.c (.int .i64 23))),oI 56 (.mov (.t 57))] none [56,3,2]) (.cond (.t 56) .skip (.region [oI 58 (.bin .eql (.t 3) (.c (.int .i64 25))),oI 56 (.mov (.t 58))] none [56,3,2]))) (.cond (.t 56) (.seq (.region [oI 59 (.bslice false 1 1 (.int .i64 0) [(0,(.c (.int .i64 1)))]),oI 60 (.call 162 0 true [(.t 59)]),oI 61 (.build [(.int .i64 0),(.int .i64 0)] [(0,1,(.c (.int .i64 1))),(1,1,(.t 60))]),oN (.st 2 (.t 2) (.t 61))] none [2]) .ret) (.seq (.region [oI 63 (.bin .eql (.t 3) (.c (.int .i64 24))),oI 62 (.mov (.t 63))] none [62,3,2]) (.cond (.t 62) (.seq (.region [oI 64 (.bslice false 1 1 (.int .i64 0) [(0,(.c (.int .i64 16)))]),oI 65 (.call 162 0 true [(.t 64)]),oI 66 (.build [(.int .i64 0),(.int .i64 0)] [(0,1,(.c (.int .i64 3))),(1,1,(.t 65))]),oN (.st 2 (.t 2) (.t 66))] none [2]) .ret) (.seq (.region [oI 68 (.bin .eql (.t 3) (.c (.int .i64 28))),oI 67 (.mov (.t 68))] none [67,3,2]) (.cond (.t 67) (.seq (.region [oI 69 (.bslice false 1 2 (.int .i64 0) [(0,(.c (.int .i64 2))),(1,(.c (.int .i64 14)))]),oI 70 (.call 162 0 true [(.t 69)]),oI 71 (.build [(.int .i64 0),(.int .i64 0)] [(0,1,(.c (.int .i64 5))),(1,1,(.t 70))]),oN (.st 2 (.t 2) (.t 71))] none [2]) .ret) (.seq (.region [oI 73 (.bin .eql (.t 3) (.c (.int .i64 31))),oI 72 (.mov (.t 73))] none [72,3,2]) (.cond (.t 72) (.seq (.region [oI 74 (.bslice false 1 9 (.int .i64 0) [(0,(.c (.int .i64 2))),(1,(.c (.int .i64 4))),(2,(.c (.int .i64 5))),(3,(.c (.int .i64 6))),(4,(.c (.int .i64 7))),(5,(.c (.int .i64 9))),(6,(.c (.int .i64 11))),(7,(.c (.int .i64 14))),(8,(.c (.int .i64 15)))]),oI 75 (.call 162 0 true [(.t 74)]),oI 76 (.build [(.int .i64 0),(.int .i64 0)] [(0,1,(.c (.int .i64 5))),(1,1,(.t 75))]),oN (.st 2 (.t 2) (.t 76))] none [2]) .ret) (.seq (.seq (.region [oI 78 (.bin .eql (.t 3) (.c (.int .i64 33))),oI 77 (.mov (.t 78))] none [77,3,2]) (.cond (.t 77) .skip (.region [oI 79 (.bin .eql (.t 3) (.c (.int .i64 34))),oI 77 (.mov (.t 79))] none [77,3,2]))) (.cond (.t 77) (.seq (.region [oI 80 (.bslice false 1 2 (.int .i64 0) [(0,(.c (.int .i64 1))),(1,(.c (.int .i64 2)))]),oI 81 (.call 162 0 true [(.t 80)]),oI 82 (.build [(.int .i64 0),(.int .i64 0)] [(0,1,(.c (.int .i64 2))),(1,1,(.t 81))]),oN (.st 2 (.t 2) (.t 82))] none [2]) .ret) (.seq (.region [oI 84 (.bin .eql (.t 3) (.c (.int .i64 35))),oI 83 (.mov (.t 84))] none [83,3,2]) (.cond (.t 83) (.seq (.region [oI 85 (.bslice false 1 1 (.int .i64 0) [(0,(.c (.int .i64 3)))]),oI 86 (.call 162 0 true [(.t 85)]),oI 87 (.build [(.int .i64 0),(.int .i64 0)] [(0,1,(.c (.int .i64 2))),(1,1,(.t 86))]),oN (.st 2 (.t 2) (.t 87))] none [2]) .ret) (.seq (.region [oI 89 (.bin .eql (.t 3) (.c (.int .i64 39))),oI 88 (.mov (.t 89))] none [88,3,2]) (.cond (.t 88) (.seq (.region [oI 90 (.bslice false 1 2 (.int .i64 0) [(0,(.c (.int .i64 1))),(1,(.c (.int .i64 2)))]),oI 91 (.call 162 0 true [(.t 90)]),oI 92 (.build [(.int .i64 0),(.int .i64 0)] [(0,1,(.c (.int .i64 3))),(1,1,(.t 91))]),oN (.st 2 (.t 2) (.t 92))] none [2]) .ret) (.seq (.seq (.region [oI 94 (.bin .eql (.t 3) (.c (.int .i64 36))),oI 93 (.mov (.t 94))] none [93,3,2]) (.cond (.t 93) .skip (.seq (.region [oI 95 (.bin .eql (.t 3) (.c (.int .i64 37))),oI 93 (.mov (.t 95))] none [93,3,2]) (.cond (.t 93) .skip (.seq (.region [oI 96 (.bin .eql (.t 3) (.c (.int .i64 40))),oI 93 (.mov (.t 96))] none [93,3,2]) (.cond (.t 93) .skip (.seq (.region [oI 97 (.bin .eql (.t 3) (.c (.int .i64 41))),oI 93 (.mov (.t 97))] none [93,3,2]) (.cond (.t 93) .skip (.region [oI 98 (.bin .eql (.t 3) (.c (.int .i64 42))),oI 93 (.mov (.t 98))] none [93,3,2]))))))))) (.cond (.t 93) (.seq (.region [oI 99 (.bslice false 1 1 (.int .i64 0) [(0,(.c (.int .i64 2)))]),oI 100 (.call 162 0 true [(.t 99)]),oI 101 (.build [(.int .i64 0),(.int .i64 0)] [(0,1,(.c (.int .i64 1))),(1,1,(.t 100))]),oN (.st 2 (.t 2) (.t 101))] none [2]) .ret) (.seq (.region [oI 103 (.bin .eql (.t 3) (.c (.int .i64 38))),oI 102 (.mov (.t 103))] none [102,2]) (.cond (.t 102) (.seq (.region [oI 104 (.bslice false 1 3 (.int .i64 0) [(0,(.c (.int .i64 0))),(1,(.c (.int .i64 12))),(2,(.c (.int .i64 13)))]),oI 105 (.call 162 0 true [(.t 104)]),oI 106 (.un .xor (.t 105)),oI 107 (.build [(.int .i64 0),(.int .i64 0)] [(0,1,(.c (.int .i64 7))),(1,1,(.t 106))]),oN (.st 2 (.t 2) (.t 107))] none [2]) .ret) .skip)))))))))))))))))))))))))))))))))))))))) (.seq (.region [oI 108 (.build [(.int .i64 0),(.int .i64 0)] []),oN (.st 2 (.t 2) (.t 108))] none [2]) .ret)))
def ZmP:ZD:=⟨[(.cell 2 (some 2))],Zpr⟩
theorem Zxi:FC 152=some ZmP:=by kernel_rfl
theorem ZKr:ZmP.body=Zpr:=rfl
theorem ZHm:ZmP.res=[(.cell 2 (some 2))]:=rfl
def ZoV:Ze:=(.seq (.region [oI 4 (.mov (.c (.bool false)))] none [1,0]) (.seq (.region [oI 5 (.mov (.t 0)),oI 6 (.bin .eql (.t 5) (.c (.int .i64 38))),oI 7 (.mov (.t 6)),⟨(some 8),(.mov (.t 0)),(some (7,false)),[]⟩,⟨(some 9),(.bin .eql (.t 8) (.c (.int .i64 11))),(some (7,false)),[]⟩,⟨(some 10),(.mov (.t 9)),(some (7,false)),[]⟩,⟨(some 11),(.mov (.t 1)),(some (10,true)),[]⟩,⟨(some 12),(.bin .eql (.t 11) (.c (.int .i64 3))),(some (10,true)),[]⟩,⟨(some 13),(.pick (.t 10) (.t 12) (.c (.bool false))),(some (7,false)),[]⟩,oI 14 (.pick (.t 7) (.c (.bool true)) (.t 13)),oI 4 (.mov (.t 14))] none [4]) .ret))
def ZmJ:ZD:=⟨[(.tmp 4)],ZoV⟩
theorem ZMB:FC 155=some ZmJ:=by kernel_rfl
theorem ZwF:ZmJ.body=ZoV:=rfl
theorem ZA4:ZmJ.res=[(.tmp 4)]:=rfl
def ZeD:Ze:=(.seq (.region [oI 6 (.alloc [(.int .i64 0),(.int .i64 0),(.str []),(.str []),(.lst true [])]),oI 7 (.mov (.c (.int .i64 0))),oI 8 (.mov (.c (.int .i64 0)))] none [6,2,1,0]) (.seq (.region [oI 16 (.mov (.t 1)),oI 17 (.call 135 0 true [(.t 16)]),oI 15 (.mov (.t 17)),oI 18 (.ext (.t 15) 0),oI 19 (.ext (.t 15) 1),oI 20 (.ext (.t 15) 2),oI 9 (.mov (.t 18)),oI 10 (.mov (.t 19)),oI 11 (.mov (.t 20))] none [11,10,9,6,2,1,0]) (.seq (.seq (.region [oI 21 (.mov (.t 11)),oI 22 (.bin .neq (.t 21) (.c (.int .i64 0))),oI 23 (.mov (.t 22)),⟨(some 24),(.mov (.t 9)),(some (23,false)),[]⟩,⟨(some 25),(.mov (.t 0)),(some (23,false)),[]⟩,⟨(some 26),(.call 153 0 true [(.t 24),(.t 25)]),(some (23,false)),[]⟩,⟨(some 27),(.un .not (.t 26)),(some (23,false)),[]⟩,oI 28 (.pick (.t 23) (.c (.bool true)) (.t 27))] none [28,10,9,6,2,1,0]) (.cond (.t 28) (.seq (.region [oI 29 (.ld (some 5) (.t 6)),oN (.st 5 (.t 6) (.t 29)),oI 7 (.mov (.c (.int .i64 0))),oI 8 (.mov (.c (.int .i64 129)))] none [8,7,6]) .ret) .skip)) (.seq (.region [oI 31 (.mov (.t 9)),oI 32 (.mov (.t 1)),oI 33 (.mov (.t 10)),oI 34 (.slice 1 (.t 32) (some (.t 33)) none none),oI 35 (.call 154 0 true [(.t 31),(.t 34)]),oI 30 (.mov (.t 35)),oI 36 (.ext (.t 30) 0),oI 37 (.ext (.t 30) 1),oI 38 (.ext (.t 30) 2),oN (.st 5 (.t 6) (.t 36)),oI 7 (.mov (.t 37)),oI 12 (.mov (.t 38))] none [12,10,9,7,6,2,0]) (.seq (.region [oI 40 (.mov (.t 9)),oI 41 (.mov (.t 2)),oI 42 (.call 112 0 true [(.t 40),(.t 41)]),oI 39 (.mov (.t 42)),oI 43 (.ext (.t 39) 0),oI 44 (.ext (.t 39) 1),oI 13 (.alloc [(.int .i64 0),(.int .i64 0),(.str []),(.str []),(.lst true [])]),oN (.st 5 (.t 13) (.t 43)),oI 14 (.mov (.t 44))] none [14,12,10,9,7,6,0]) (.seq (.block 0 (.seq (.region [oI 46 (.mov (.t 12)),oI 47 (.un .not (.t 46)),oI 45 (.mov (.t 47))] none [45,14,10,9,7,6,0]) (.cond (.t 45) (.seq (.region [oI 48 (.ld (some 5) (.t 6)),oN (.st 5 (.t 6) (.t 48)),oI 7 (.mov (.c (.int .i64 0))),oI 8 (.mov (.c (.int .i64 129)))] none [8,7,6]) .ret) (.seq (.region [oI 50 (.mov (.t 14)),oI 51 (.mov (.t 50)),⟨(some 52),(.mov (.t 9)),(some (51,true)),[]⟩,⟨(some 53),(.mov (.t 0)),(some (51,true)),[]⟩,⟨(some 54),(.call 155 0 true [(.t 52),(.t 53)]),(some (51,true)),[]⟩,⟨(some 55),(.un .not (.t 54)),(some (51,true)),[]⟩,oI 56 (.pick (.t 51) (.t 55) (.c (.bool false))),oI 49 (.mov (.t 56))] none [49,10,9,7,6]) (.cond (.t 49) (.seq (.region [oI 57 (.ld (some 5) (.t 6)),oN (.st 5 (.t 6) (.t 57)),oI 7 (.mov (.c (.int .i64 0))),oI 8 (.mov (.c (.int .i64 130)))] none [8,7,6]) .ret) (.seq (.region [oI 59 (.ld (some 5) (.t 6)),oI 60 (.call 156 0 true [(.t 59)]),oI 58 (.mov (.t 60))] none [58,10,9,7,6]) (.cond (.t 58) (.seq (.region [oI 61 (.ld (some 5) (.t 6)),oI 62 (.mov (.t 10)),oI 63 (.mov (.t 7)),oI 64 (.bin .add (.t 62) (.t 63)),oN (.st 5 (.t 6) (.t 61)),oI 7 (.mov (.t 64)),oI 8 (.mov (.c (.int .i64 0)))] none [8,7,6]) .ret) (.seq (.region [oI 66 (.mov (.t 9)),oI 67 (.bin .eql (.t 66) (.c (.int .i64 35))),oI 65 (.mov (.t 67))] none [65,6]) (.cond (.t 65) (.seq (.region [oI 68 (.ld (some 5) (.t 6)),oN (.st 5 (.t 6) (.t 68)),oI 7 (.mov (.c (.int .i64 0))),oI 8 (.mov (.c (.int .i64 148)))] none [8,7,6]) .ret) .skip))))))))) (.seq (.region [oI 69 (.ld (some 5) (.t 6)),oN (.st 5 (.t 6) (.t 69)),oI 7 (.mov (.c (.int .i64 0))),oI 8 (.mov (.c (.int .i64 130)))] none [8,7,6]) .ret)))))))
def ZoQ:ZD:=⟨[(.cell 6 (some 5)),(.tmp 7),(.tmp 8)],ZeD⟩
theorem ZfA:FC 136=some ZoQ:=by kernel_rfl
theorem ZfX:ZoQ.body=ZeD:=rfl
theorem ZfG:ZoQ.res=[(.cell 6 (some 5)),(.tmp 7),(.tmp 8)]:=rfl
def ZcZ:Ze:=(.seq (.region [oI 4 (.alloc [(.int .i64 0),(.int .i64 0),(.str []),(.str []),(.lst true [])]),oI 5 (.mov (.c (.int .i64 0))),oI 6 (.mov (.c (.bool false)))] none [5,4,1,0]) (.seq (.region [oI 9 (.mov (.t 0)),oI 10 (.faddr 0 (.t 4)),oN (.st 1 (.t 10) (.t 9))] none [5,4,1,0]) (.seq (.region [oI 7 (.mov (.c (.int .i64 0)))] none [7,5,4,1,0]) (.seq (.seq (.region [oI 11 (.mov (.t 0)),oI 12 (.call 134 0 true [(.t 11)])] none [12,7,5,4,1,0]) (.block 0 (.seq (.seq (.region [oI 14 (.bin .eql (.t 12) (.c (.int .i64 1))),oI 13 (.mov (.t 14))] none [13,12,7,5,4,1,0]) (.cond (.t 13) .skip (.seq (.region [oI 15 (.bin .eql (.t 12) (.c (.int .i64 2))),oI 13 (.mov (.t 15))] none [13,12,7,5,4,1,0]) (.cond (.t 13) .skip (.region [oI 16 (.bin .eql (.t 12) (.c (.int .i64 3))),oI 13 (.mov (.t 16))] none [13,12,7,5,4,1,0]))))) (.cond (.t 13) (.seq (.region [oI 17 (.mov (.t 0)),oI 18 (.call 134 0 true [(.t 17)]),oI 19 (.bin .sub (.t 18) (.c (.int .i64 1))),oI 20 (.bin .shl (.c (.int .i64 1)) (.t 19)),oI 5 (.mov (.t 20))] none [7,5,4,1]) (.seq (.seq (.region [oI 21 (.mov (.t 1)),oI 22 (.len (.t 21)),oI 23 (.mov (.t 5)),oI 24 (.bin .lss (.t 22) (.t 23))] none [24,7,5,4,1]) (.cond (.t 24) (.seq (.region [oI 25 (.ld (some 5) (.t 4)),oN (.st 5 (.t 4) (.t 25)),oI 5 (.mov (.c (.int .i64 0))),oI 6 (.mov (.c (.bool false)))] none [6,5,4]) .ret) .skip)) (.region [oI 26 (.mov (.t 1)),oI 27 (.mov (.t 5)),oI 28 (.slice 1 (.t 26) none (some (.t 27)) none),oI 29 (.call 108 0 true [(.t 28)]),oI 30 (.i2i .i64 (.t 29)),oI 31 (.faddr 1 (.t 4)),oN (.st 1 (.t 31) (.t 30))] none [7,5,4]))) (.seq (.region [oI 33 (.bin .eql (.t 12) (.c (.int .i64 4))),oI 32 (.mov (.t 33))] none [32,12,7,5,4,1]) (.cond (.t 32) (.region [oI 35 (.mov (.t 1)),oI 36 (.call 135 0 true [(.t 35)]),oI 34 (.mov (.t 36)),oI 37 (.ext (.t 34) 0),oI 38 (.ext (.t 34) 1),oI 39 (.ext (.t 34) 2),oI 40 (.faddr 1 (.t 4)),oN (.st 1 (.t 40) (.t 37)),oI 5 (.mov (.t 38)),oI 7 (.mov (.t 39))] none [7,5,4]) (.seq (.region [oI 42 (.bin .eql (.t 12) (.c (.int .i64 5))),oI 41 (.mov (.t 42))] none [41,12,7,5,4,1]) (.cond (.t 41) (.region [oI 44 (.mov (.t 1)),oI 45 (.call 109 0 true [(.t 44)]),oI 43 (.mov (.t 45)),oI 46 (.ext (.t 43) 0),oI 47 (.ext (.t 43) 1),oI 48 (.ext (.t 43) 2),oI 49 (.faddr 2 (.t 4)),oN (.st 1 (.t 49) (.t 46)),oI 5 (.mov (.t 47)),oI 7 (.mov (.t 48))] none [7,5,4]) (.seq (.region [oI 51 (.bin .eql (.t 12) (.c (.int .i64 6))),oI 50 (.mov (.t 51))] none [50,12,7,5,4,1]) (.cond (.t 50) (.region [oI 53 (.mov (.t 1)),oI 54 (.call 106 0 true [(.t 53)]),oI 52 (.mov (.t 54)),oI 55 (.ext (.t 52) 0),oI 56 (.ext (.t 52) 1),oI 57 (.ext (.t 52) 2),oI 58 (.faddr 4 (.t 4)),oN (.st 1 (.t 58) (.t 55)),oI 5 (.mov (.t 56)),oI 7 (.mov (.t 57))] none [7,5,4]) (.seq (.region [oI 60 (.bin .eql (.t 12) (.c (.int .i64 7))),oI 59 (.mov (.t 60))] none [59,7,5,4,1]) (.cond (.t 59) (.seq (.region [oI 62 (.mov (.t 1)),oI 63 (.call 109 0 true [(.t 62)]),oI 61 (.mov (.t 63)),oI 64 (.ext (.t 61) 0),oI 65 (.ext (.t 61) 1),oI 66 (.ext (.t 61) 2),oI 67 (.faddr 2 (.t 4)),oN (.st 1 (.t 67) (.t 64)),oI 5 (.mov (.t 65)),oI 7 (.mov (.t 66))] none [7,5,4,1]) (.seq (.region [oI 68 (.mov (.t 7)),oI 69 (.bin .eql (.t 68) (.c (.int .i64 0)))] none [69,7,5,4,1]) (.cond (.t 69) (.seq (.region [oI 8 (.mov (.c (.int .i64 0)))] none [5,4,1]) (.seq (.region [oI 71 (.mov (.t 1)),oI 72 (.mov (.t 5)),oI 73 (.slice 1 (.t 71) (some (.t 72)) none none),oI 74 (.call 109 0 true [(.t 73)]),oI 70 (.mov (.t 74)),oI 75 (.ext (.t 70) 0),oI 76 (.ext (.t 70) 1),oI 77 (.ext (.t 70) 2),oI 78 (.faddr 3 (.t 4)),oN (.st 1 (.t 78) (.t 75)),oI 8 (.mov (.t 76)),oI 7 (.mov (.t 77))] none [8,7,5,4]) (.region [oI 79 (.mov (.t 5)),oI 80 (.mov (.t 8)),oI 81 (.bin .add (.t 79) (.t 80)),oI 5 (.mov (.t 81))] none [7,5,4]))) .skip))) .skip)))))))))))) (.seq (.region [oI 82 (.ld (some 5) (.t 4)),oI 83 (.mov (.t 5)),oI 84 (.mov (.t 7)),oI 85 (.bin .eql (.t 84) (.c (.int .i64 0))),oN (.st 5 (.t 4) (.t 82)),oI 5 (.mov (.t 83)),oI 6 (.mov (.t 85))] none [6,5,4]) .ret)))))
def ZoR:ZD:=⟨[(.cell 4 (some 5)),(.tmp 5),(.tmp 6)],ZcZ⟩
theorem ZdY:FC 154=some ZoR:=by kernel_rfl
theorem Zdx:ZoR.body=ZcZ:=rfl
theorem Zds:ZoR.res=[(.cell 4 (some 5)),(.tmp 5),(.tmp 6)]:=rfl
def ZpU:Ze:=(.seq (.region [oI 2 (.box (.t 0)),oI 3 (.box (.t 1)),oI 4 (.mov (.c (.bool false)))] none [3,2]) (.seq (.region [oI 5 (.faddr 0 (.t 2)),oI 6 (.ld none (.t 5)),oI 7 (.faddr 0 (.t 3)),oI 8 (.ld none (.t 7)),oI 9 (.bin .eql (.t 6) (.t 8)),oI 10 (.mov (.t 9)),⟨(some 11),(.faddr 1 (.t 2)),(some (10,true)),[]⟩,⟨(some 12),(.ld none (.t 11)),(some (10,true)),[]⟩,⟨(some 13),(.faddr 1 (.t 3)),(some (10,true)),[]⟩,⟨(some 14),(.ld none (.t 13)),(some (10,true)),[]⟩,⟨(some 15),(.bin .eql (.t 12) (.t 14)),(some (10,true)),[]⟩,oI 16 (.pick (.t 10) (.t 15) (.c (.bool false))),oI 17 (.mov (.t 16)),⟨(some 18),(.faddr 2 (.t 2)),(some (17,true)),[]⟩,⟨(some 19),(.ld none (.t 18)),(some (17,true)),[]⟩,⟨(some 20),(.faddr 2 (.t 3)),(some (17,true)),[]⟩,⟨(some 21),(.ld none (.t 20)),(some (17,true)),[]⟩,⟨(some 22),(.bin .eql (.t 19) (.t 21)),(some (17,true)),[]⟩,oI 23 (.pick (.t 17) (.t 22) (.c (.bool false))),oI 24 (.mov (.t 23)),⟨(some 25),(.faddr 3 (.t 2)),(some (24,true)),[]⟩,⟨(some 26),(.ld none (.t 25)),(some (24,true)),[]⟩,⟨(some 27),(.faddr 3 (.t 3)),(some (24,true)),[]⟩,⟨(some 28),(.ld none (.t 27)),(some (24,true)),[]⟩,⟨(some 29),(.bin .eql (.t 26) (.t 28)),(some (24,true)),[]⟩,oI 30 (.pick (.t 24) (.t 29) (.c (.bool false))),oI 31 (.mov (.t 30)),⟨(some 32),(.faddr 4 (.t 2)),(some (31,true)),[]⟩,⟨(some 33),(.ld none (.t 32)),(some (31,true)),[]⟩,⟨(some 34),(.b2s (.t 33)),(some (31,true)),[]⟩,⟨(some 35),(.faddr 4 (.t 3)),(some (31,true)),[]⟩,⟨(some 36),(.ld none (.t 35)),(some (31,true)),[]⟩,⟨(some 37),(.b2s (.t 36)),(some (31,true)),[]⟩,⟨(some 38),(.bin .eql (.t 34) (.t 37)),(some (31,true)),[]⟩,oI 39 (.pick (.t 31) (.t 38) (.c (.bool false))),oI 4 (.mov (.t 39))] none [4]) .ret))
def Zoq:ZD:=⟨[(.tmp 4)],ZpU⟩
theorem ZKt:FC 110=some Zoq:=by kernel_rfl
theorem ZGf:Zoq.body=ZpU:=rfl
theorem ZB7:Zoq.res=[(.tmp 4)]:=rfl
def Zpa:Ze:=(.seq (.region [oI 4 (.mov (.c (.bool true)))] none [4]) .ret)
def Zoh:Ze:=Zpa
def ZAG:=xw Zoh Zpa rfl
def Zkp:Ze:=(.seq (.seq (.region [oI 11 (.mov (.t 5)),oI 12 (.mov (.t 0)),oI 13 (.len (.t 12)),oI 14 (.bin .lss (.t 11) (.t 13))] none [14,5,1,0]) (.cond (.t 14) .skip (.exit 0))) (.seq (.block 1 (.seq (.region [oI 17 (.mov (.t 0)),oI 18 (.mov (.t 5)),oI 19 (.iaddr 5 (.t 17) (.t 18)),oI 20 (.ld (some 5) (.t 19)),oI 21 (.mov (.t 1)),oI 22 (.mov (.t 5)),oI 23 (.iaddr 5 (.t 21) (.t 22)),oI 24 (.ld (some 5) (.t 23)),oI 25 (.call 110 0 true [(.t 20),(.t 24)]),oI 26 (.un .not (.t 25))] (some [(2,6),(3,6),(2,7),(3,7),(8,8)]) [26,5,1,0]) (.cond (.t 26) (.seq (.region [oI 4 (.mov (.c (.bool false)))] none [4]) .ret) .skip))) (.region [oI 15 (.mov (.t 5)),oI 16 (.bin .add (.t 15) (.c (.int .i64 1))),oI 5 (.mov (.t 16))] none [5,1,0])))
def Zmf:Ze:=Zkp
def ZuD:=xw Zmf Zkp rfl
def Zj2:Ze:=(.seq (.region [oI 4 (.mov (.c (.bool false)))] none [1,0]) (.seq (.seq (.region [oI 6 (.mov (.t 0)),oI 7 (.len (.t 6)),oI 8 (.mov (.t 1)),oI 9 (.len (.t 8)),oI 10 (.bin .neq (.t 7) (.t 9))] none [10,1,0]) (.cond (.t 10) (.seq (.region [oI 4 (.mov (.c (.bool false)))] none [4]) .ret) .skip)) (.seq (.seq (.region [oI 5 (.mov (.c (.int .i64 0)))] none [5,1,0]) (.block 0 (.loop [5,1,0] Zmf))) Zoh)))
def ZkP:ZD:=⟨[(.tmp 4)],Zj2⟩
theorem ZL6:FC 72=some ZkP:=by kernel_rfl
theorem Zsb:ZkP.body=Zj2:=rfl
theorem ZnL:ZkP.res=[(.tmp 4)]:=rfl
noncomputable def ZlK (m:Nat) (tm:Tms) (σ:Za):Option (AVal×Za):=(Zan m ZkP (ZbE FC PR BY m Zoh (Option.map (ZaW 0) (evL FC PR BY m [5,1,0] Zmf tm σ))))
end Go.Proofs.YtmlkhhidifjjfaaDoor
namespace Go.Proofs.YtmlkhhidifjjfaaDoor
set_option maxHeartbeats 4000000
set_option maxRecDepth 10000
end Go.Proofs.YtmlkhhidifjjfaaDoor
