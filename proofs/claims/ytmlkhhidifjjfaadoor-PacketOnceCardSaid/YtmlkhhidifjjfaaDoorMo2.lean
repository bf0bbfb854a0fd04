/- packed -/
import Derived.Test.YtmlkhhidifjjfaaDoorMo1
import Derived.Laws.Cover3
import Derived.Lib.Index
import Derived.Shelf.Unicode.ValidAny
import Derived.Shelf.Strings.Count
import Derived.Test.YtmlkhhidifjjfaaDoorProg
import Derived.Deep.Slices
import Derived.ChangeArms
import Derived.WideShapes
import GoSem.ClaimChange
import Derived.Lib.TrimUEq
import Derived.Lib.MapLaws
import Derived.Lib.ValidLaws
set_option linter.defProp false
set_option linter.unusedSimpArgs false
set_option linter.unusedVariables false
namespace Go.Proofs.YtmlkhhidifjjfaaDoor
open Go.RowKit
def OLe (O O':ZO):Prop:=∀ f a σ r,O f a σ=some r→O' f a σ=some r
section
variable {O O':ZO} {byref:Nat→Bool}
theorem ZH4 {view:Bool} {m:Nat} {x y:Option (AVal×Za)} (h:∀ r,x=some r→y=some r) {r:AVal×Za} (hr:Zad view m x=some r):Zad view m y=some r:=by
 cases x with
 | none=>cases view <;> simp [Zad,Zbx] at hr
 | some q=>rw [h q rfl];exact hr
theorem ZKx {σ σf:Za} {ids ts:List Nat} {site own:Nat} {x y:Option (AVal×Za)} (h:∀ r,x=some r→y=some r) {r:AVal×Za×Cls} (hr:Zaz σ σf ids ts site own x=some r):Zaz σ σf ids ts site own y=some r:=by
 cases x with
 | none=>simp only [Zaz] at hr;cases hr
 | some q=>rw [h q rfl];exact hr
theorem Zo7 (hO:OLe O O') {σ:Za} {site f own:Nat} {view:Bool} {args:List AVal} {r:AVal×Za×Cls} (h:Zj O byref σ site f own view args=some r):Zj O' byref σ site f own view args=some r:=by
 unfold Zj Zbu at h ⊢
 split at h
 ·cases h
 ·rename_i vs ts hv
  split at h
  ·rename_i hc
   simp only [hc,if_true]
   exact ZKx (fun q hq=>ZH4 (fun q hq=>hO _ _ _ _ hq) hq) h
  ·cases h
theorem ZJF (hO:OLe O O') {tm:Tms} {σ:Za} {site:Nat} {ins:Ins} {r:AVal×Za×Cls} (h:execI O byref tm σ site ins=some r):execI O' byref tm σ site ins=some r:=by
 cases ins
 case call f own view args =>
  simp only [execI] at h ⊢
  exact Zo7 hO h
 case callv x args =>
  simp only [execI] at h ⊢
  split at h
  ·exact Zo7 hO h
  ·cases h
 all_goals exact h
theorem ZlX (hO:OLe O O') {o:AOp} {tm:Tms} {σ:Za} {site:Nat} {r:AVal×Tms×Za×Cls} (h:ZP O byref o site tm σ=some r):ZP O' byref o site tm σ=some r:=by
 unfold ZP at h ⊢
 split at h
 ·cases h
 ·exact h
 ·split at h
  ·rename_i hf
   rw [if_pos hf]
   split at h
   ·rename_i he;rw [ZJF hO he];exact h
   ·cases h
  ·cases h
theorem Zn5 (hO:OLe O O'):∀ {ops:List AOp} {s:Nat} {tm:Tms} {σ:Za} {r:Tms×Za×List Cls×Option AVal},ZT O byref ops s tm σ=some r→ZT O' byref ops s tm σ=some r
 | [],_,_,_,_,h=>h
 | o::ops,s,tm,σ,r,h=>by
  simp only [ZT] at h ⊢
  split at h
  ·cases h
  ·rename_i h1
   rw [ZlX hO h1]
   exact h
  ·rename_i v tm1 σ1 c hnp h1
   rw [ZlX hO h1]
   simp only
   split at h
   ·cases h
   rename_i h2
   rw [Zn5 hO h2]
   exact h
theorem ZsC (hO:OLe O O') {ops:List AOp} {chk:Option (List (Nat×Nat))} {live:List Nat} {tm:Tms} {σ:Za} {r:ZaO×Tms×Za} (h:ZbP O byref ops chk live tm σ=some r):ZbP O' byref ops chk live tm σ=some r:=by
 unfold ZbP at h ⊢
 cases hx:ZT O byref ops σ.length tm (σ++List.replicate (sitesOf ops) .free) with
 | none=>rw [hx] at h;simp only [Zcs] at h;cases h
 | some q=>rw [Zn5 hO hx];rw [hx] at h;exact h
theorem ZkS {m0:Nat} {live:List Nat} {f f':Tms→Za→Option (ZaO×Tms×Za)} (hf:∀ tm σ r,f tm σ=some r→f' tm σ=some r):∀ {n n':Nat} {tm:Tms} {σ:Za} {r:ZaO×Tms×Za},n≤n'→Zdb m0 live f n tm σ=some r→Zdb m0 live f' n' tm σ=some r
 | 0,_,_,_,_,_,h=>by simp only [Zdb] at h;cases h
 | n+1,0,_,_,_,hn,_=>by omega
 | n+1,n'+1,tm,σ,r,hn,h=>by
  simp only [Zdb] at h ⊢
  split at h
  ·rename_i h1
   rw [hf _ _ _ h1]
   exact ZkS hf (by omega) h
  ·rename_i hne
   rw [hf _ _ _ h]
   split
   ·rename_i e;injection e with e;subst e;exact absurd h (hne _ _)
   ·rfl
theorem Zdf (hO:OLe O O') {m0:Nat}:∀ {c:Zf} {n n':Nat} {tm:Tms} {σ:Za} {r:ZaO×Tms×Za},n≤n'→ZZ O byref m0 n c tm σ=some r→ZZ O' byref m0 n' c tm σ=some r:=by
 intro c
 induction c with
 | skip=>intro n n' tm σ r _ h;exact h
 | exit id=>intro n n' tm σ r _ h;exact h
 | ret=>intro n n' tm σ r _ h;exact h
 | stuck=>intro n n' tm σ r _ h;exact h
 | region ops chk live =>
  intro n n' tm σ r _ h
  simp only [ZZ] at h ⊢
  exact ZsC hO h
 | seq a b iha ihb =>
  intro n n' tm σ r hn h
  simp only [ZZ] at h ⊢
  split at h
  ·rename_i h1;rw [iha hn h1];exact ihb hn h
  ·rename_i hne
   rw [iha hn h]
   split
   ·rename_i e;injection e with e;subst e;exact absurd h (hne _ _)
   ·rfl
 | cond c a b iha ihb =>
  intro n n' tm σ r hn h
  simp only [ZZ] at h ⊢
  split at h
  ·exact iha hn h
  ·exact ihb hn h
  ·cases h
 | block id c ih =>
  intro n n' tm σ r hn h
  simp only [ZZ] at h ⊢
  split at h
  ·rename_i h1;rw [ih hn h1];exact h
  ·rename_i hne
   rw [ih hn h]
   split
   ·rename_i e;injection e with e;subst e;exact absurd h (hne _ _ _)
   ·rfl
 | loop live c ih =>
  intro n n' tm σ r hn h
  simp only [ZZ] at h ⊢
  exact ZkS (fun tm σ r h=>ih hn h) hn h
theorem ZkI {m0:Nat} {fn:ZD} {x y:Option (ZaO×Tms×Za)} (h:∀ r,x=some r→y=some r) {r:AVal×Za} (hr:Zaq m0 fn x=some r):Zaq m0 fn y=some r:=by
 cases x with
 | none=>simp only [Zaq] at hr;cases hr
 | some q=>rw [h q rfl];exact hr
theorem Ztu (fs:Nat→Option ZD) (prim:Zcc):∀ n,OLe (Zas fs prim byref n) (Zas fs prim byref (n+1))
 | 0=>by intro f a σ r h;simp only [Zas] at h;cases h
 | n+1=>by
  intro f a σ r h
  rw [Zas] at h ⊢
  split at h
  ·rename_i g hg;exact h
  ·rename_i hg
   split at h
   ·cases h
   ·rename_i fn hfn
    exact ZkI (fun q hq=>Zdf (Ztu fs prim n) (by omega) hq) h
theorem Zh7 (fs : Nat → Option ZD) (prim : Zcc) {n m : Nat} (h : n ≤ m) : OLe (Zas fs prim byref n) (Zas fs prim byref m) := by
  induction m with
  | zero => obtain rfl : n = 0 := by omega
            exact fun _ _ _ _ h => h
  | succ m ih =>
    by_cases e : n = m + 1
    · subst e; exact fun _ _ _ _ h => h
    · exact fun f a σ r hr => Ztu fs prim m f a σ r (ih (by omega) f a σ r hr)
end
section
variable (fs:Nat→Option ZD) (prim:Zcc) (byref:Nat→Bool)
open Classical in
noncomputable def EV:ZO:=fun f args σ=>if h:∃ r,∃ n,Zas fs prim byref n f args σ=some r then some h.choose else none
open Classical in
noncomputable def evC (m:Nat) (c:Zf) (tm:Tms) (σ:Za):Option (ZaO×Tms×Za):=if h:∃ r,∃ n,ZZ (Zas fs prim byref n) byref m n c tm σ=some r then some h.choose else none
variable {fs prim byref} {m0:Nat}
theorem Zdq {f:Nat} {args:List AVal} {σ:Za} {r:AVal×Za}:EV fs prim byref f args σ=some r↔∃ n,Zas fs prim byref n f args σ=some r:=by
 unfold EV
 constructor
 ·intro h
  split at h
  ·rename_i hx
   injection h with h
   rw [←h]
   exact hx.choose_spec
  ·cases h
 ·rintro ⟨n,hn⟩
  have hx:∃ r,∃ n,Zas fs prim byref n f args σ=some r:=⟨r,n,hn⟩
  rw [dif_pos hx]
  obtain ⟨m,hm⟩:=hx.choose_spec
  have h1:=Zh7 (byref:=byref) fs prim (Nat.le_max_left n m) _ _ _ _ hn
  have h2:=Zh7 (byref:=byref) fs prim (Nat.le_max_right n m) _ _ _ _ hm
  rw [h1] at h2
  injection h2 with h2
  rw [←h2]
theorem Zbd {c:Zf} {tm:Tms} {σ:Za} {r:ZaO×Tms×Za}:evC fs prim byref m0 c tm σ=some r↔∃ n,ZZ (Zas fs prim byref n) byref m0 n c tm σ=some r:=by
 unfold evC
 constructor
 ·intro h
  split at h
  ·rename_i hx
   injection h with h
   rw [←h]
   exact hx.choose_spec
  ·cases h
 ·rintro ⟨n,hn⟩
  have hx:∃ r,∃ n,ZZ (Zas fs prim byref n) byref m0 n c tm σ=some r:=⟨r,n,hn⟩
  rw [dif_pos hx]
  obtain ⟨m,hm⟩:=hx.choose_spec
  have h1:=Zdf (Zh7 (byref:=byref) fs prim (Nat.le_max_left n m)) (Nat.le_max_left n m) hn
  have h2:=Zdf (Zh7 (byref:=byref) fs prim (Nat.le_max_right n m)) (Nat.le_max_right n m) hm
  rw [h1] at h2
  injection h2 with h2
  rw [←h2]
theorem ZeG {α:Type} {x y:Option α} (h:∀ r,x=some r↔y=some r):x=y:=by
 cases x with
 | none =>
  cases y with
  | none=>rfl
  | some q=>exact absurd ((h q).2 rfl) (by simp)
 | some q=>exact ((h q).1 rfl).symm
theorem Zz2 (n:Nat):OLe (Zas fs prim byref n) (EV fs prim byref):=fun _ _ _ _ h=>Zdq.2 ⟨n,h⟩
theorem up {n m:Nat} (h:n≤m):OLe (Zas fs prim byref n) (Zas fs prim byref m):=Zh7 fs prim h
theorem ZrJ {f:Nat} {g:List AVal→Za→Option (AVal×Za)} (hp:prim f=some g) (args:List AVal) (σ:Za):EV fs prim byref f args σ=g args σ:=by
 apply ZeG
 intro r
 rw [Zdq]
 constructor
 ·rintro ⟨n,h⟩
  cases n with
  | zero=>simp only [Zas] at h;cases h
  | succ n=>rw [Zas,hp] at h;exact h
 ·intro h
  exact ⟨1,by rw [Zas,hp];exact h⟩
theorem ZuN {f:Nat} {fn:ZD} (hp:prim f=none) (hf:fs f=some fn) (args:List AVal) (σ:Za):EV fs prim byref f args σ=Zaq σ.length fn (evC fs prim byref σ.length fn.body (enterA 0 args []) σ):=by
 apply ZeG
 intro r
 rw [Zdq]
 constructor
 ·rintro ⟨n,h⟩
  cases n with
  | zero=>simp only [Zas] at h;cases h
  | succ n =>
   rw [Zas,hp,hf] at h
   exact ZkI (fun q hq=>Zbd.2 ⟨n,hq⟩) h
 ·intro h
  cases hx:evC fs prim byref σ.length fn.body (enterA 0 args []) σ with
  | none=>rw [hx] at h;simp only [Zaq] at h;cases h
  | some q =>
   obtain ⟨n,hn⟩:=Zbd.1 hx
   refine ⟨n+1,?_⟩
   rw [Zas,hp,hf]
   rw [hx] at h
   exact ZkI (x:=some q) (fun q' hq'=>by injection hq' with hq';subst hq';exact hn) h
theorem ZsN {σ:Za} {site f own:Nat} {view:Bool} {args:List AVal} {r:AVal×Za×Cls} (h:Zj (EV fs prim byref) byref σ site f own view args=some r):∃ n,Zj (Zas fs prim byref n) byref σ site f own view args=some r:=by
 unfold Zj Zbu at h ⊢
 split at h
 ·cases h
 ·rename_i vs ts hv
  split at h
  ·rename_i hc
   simp only [hc,if_true]
   cases hx:EV fs prim byref f (Ze (Zl (Zp σ ts) 0 (Zz (Zp σ ts) 1000 (Zr vs) [])) vs) (Zw (Zp σ ts) 0 (Zz (Zp σ ts) 1000 (Zr vs) []) (Zl (Zp σ ts) 0 (Zz (Zp σ ts) 1000 (Zr vs) [])) (Zz (Zp σ ts) 1000 (Zr vs) []) 0) with
   | none =>
    rw [hx] at h
    cases view <;> simp [Zad,Zbx,Zaz] at h
   | some q =>
    obtain ⟨n,hn⟩:=Zdq.1 hx
    exact ⟨n,by rw [hn];rw [hx] at h;exact h⟩
  ·cases h
theorem ZwZ {tm:Tms} {σ:Za} {site:Nat} {ins:Ins} {r:AVal×Za×Cls} (h:execI (EV fs prim byref) byref tm σ site ins=some r):∃ n,execI (Zas fs prim byref n) byref tm σ site ins=some r:=by
 cases ins
 case call f own view args =>
  simp only [execI] at h ⊢
  exact ZsN h
 case callv x args =>
  simp only [execI] at h ⊢
  split at h
  ·exact ZsN h
  ·cases h
 all_goals exact ⟨0,h⟩
theorem Zto {o:AOp} {tm:Tms} {σ:Za} {site:Nat} {r:AVal×Tms×Za×Cls} (h:ZP (EV fs prim byref) byref o site tm σ=some r):∃ n,ZP (Zas fs prim byref n) byref o site tm σ=some r:=by
 unfold ZP at h ⊢
 split at h
 ·cases h
 ·exact ⟨0,h⟩
 ·split at h
  ·rename_i hf
   simp only [hf,if_true]
   split at h
   ·rename_i he
    obtain ⟨n,hn⟩:=ZwZ he
    exact ⟨n,by rw [hn];exact h⟩
   ·cases h
  ·cases h
theorem ZsL:∀ {ops:List AOp} {s:Nat} {tm:Tms} {σ:Za} {r:Tms×Za×List Cls×Option AVal},ZT (EV fs prim byref) byref ops s tm σ=some r→∃ n,ZT (Zas fs prim byref n) byref ops s tm σ=some r
 | [],_,_,_,_,h=>⟨0,h⟩
 | o::ops,s,tm,σ,r,h=>by
  simp only [ZT] at h ⊢
  split at h
  ·cases h
  ·rename_i h1
   obtain ⟨n,hn⟩:=Zto h1
   exact ⟨n,by rw [hn];exact h⟩
  rename_i v tm1 σ1 c hnp h1
  split at h
  ·cases h
  rename_i h2
  obtain ⟨n,hn⟩:=Zto h1
  obtain ⟨m,hm⟩:=ZsL h2
  refine ⟨max n m,?_⟩
  rw [ZlX (up (Nat.le_max_left n m)) hn]
  simp only
  rw [Zn5 (up (Nat.le_max_right n m)) hm]
  exact h
theorem ZG5 {ops:List AOp} {chk:Option (List (Nat×Nat))} {live:List Nat} {tm:Tms} {σ:Za} {r:ZaO×Tms×Za} (h:ZbP (EV fs prim byref) byref ops chk live tm σ=some r):∃ n,ZbP (Zas fs prim byref n) byref ops chk live tm σ=some r:=by
 unfold ZbP at h ⊢
 cases hx:ZT (EV fs prim byref) byref ops σ.length tm (σ++List.replicate (sitesOf ops) .free) with
 | none=>rw [hx] at h;simp only [Zcs] at h;cases h
 | some q =>
  obtain ⟨n,hn⟩:=ZsL hx
  exact ⟨n,by rw [hn];rw [hx] at h;exact h⟩
theorem ZHF (tm:Tms) (σ:Za):evC fs prim byref m0 .skip tm σ=some (.normal,tm,σ):=Zbd.2 ⟨0,rfl⟩
theorem ZGW (id:Nat) (tm:Tms) (σ:Za):evC fs prim byref m0 (.exit id) tm σ=some (.exit id,tm,σ):=Zbd.2 ⟨0,rfl⟩
theorem ZLj (tm:Tms) (σ:Za):evC fs prim byref m0 .ret tm σ=some (.ret,tm,σ):=Zbd.2 ⟨0,rfl⟩
theorem ZHb {ops:List AOp} {chk:Option (List (Nat×Nat))} {live:List Nat} {tm:Tms} {σ:Za}:evC fs prim byref m0 (.region ops chk live) tm σ=ZbP (EV fs prim byref) byref ops chk live tm σ:=by
 apply ZeG
 intro r
 rw [Zbd]
 constructor
 ·rintro ⟨n,hn⟩
  simp only [ZZ] at hn
  exact ZsC (Zz2 n) hn
 ·intro h
  obtain ⟨n,hn⟩:=ZG5 h
  exact ⟨n,by simp only [ZZ];exact hn⟩
theorem ZiN {a b:Zf} {tm tm':Tms} {σ σ':Za} (h:evC fs prim byref m0 a tm σ=some (.normal,tm',σ')):evC fs prim byref m0 (.seq a b) tm σ=evC fs prim byref m0 b tm' σ':=by
 obtain ⟨n,hn⟩:=Zbd.1 h
 apply ZeG
 intro r
 rw [Zbd,Zbd]
 constructor
 ·rintro ⟨m,hm⟩
  have h1:=Zdf (up (Nat.le_max_left n m)) (Nat.le_max_left n m) hn
  have h2:=Zdf (up (Nat.le_max_right n m)) (Nat.le_max_right n m) hm
  simp only [ZZ,h1] at h2
  exact ⟨_,h2⟩
 ·rintro ⟨m,hm⟩
  have h1:=Zdf (up (Nat.le_max_left n m)) (Nat.le_max_left n m) hn
  have h2:=Zdf (up (Nat.le_max_right n m)) (Nat.le_max_right n m) hm
  exact ⟨max n m,by simp only [ZZ,h1];exact h2⟩
theorem ZhY {a b:Zf} {tm tm':Tms} {σ σ':Za} {e:ZaO} (he:e≠.normal) (h:evC fs prim byref m0 a tm σ=some (e,tm',σ')):evC fs prim byref m0 (.seq a b) tm σ=some (e,tm',σ'):=by
 obtain ⟨n,hn⟩:=Zbd.1 h
 refine Zbd.2 ⟨n,?_⟩
 simp only [ZZ,hn]
 cases e with
 | normal=>exact absurd rfl he
 | exit id=>rfl
 | ret=>rfl
 | panic x=>rfl
def ZaS (id:Nat):ZaO×Tms×Za→ZaO×Tms×Za
 | (.exit i,tm,σ)=>if i=id then (.normal,tm,σ) else (.exit i,tm,σ)
 | r=>r
theorem Zvp {id:Nat} {c:Zf} {tm:Tms} {σ:Za}:evC fs prim byref m0 (.block id c) tm σ=(evC fs prim byref m0 c tm σ).map (ZaS id):=by
 have step:∀ n,ZZ (Zas fs prim byref n) byref m0 n (.block id c) tm σ=(ZZ (Zas fs prim byref n) byref m0 n c tm σ).map (ZaS id):=by
  intro n
  simp only [ZZ]
  cases ZZ (Zas fs prim byref n) byref m0 n c tm σ with
  | none=>rfl
  | some q =>
   obtain ⟨e,tm1,σ1⟩:=q
   cases e with
   | normal=>rfl
   | ret=>rfl
   | panic x=>rfl
   | exit i=>simp only [Option.map_some,ZaS];split <;> rfl
 apply ZeG;intro r
 rw [Zbd]
 simp only [step,Option.map_eq_some_iff]
 constructor
 ·rintro ⟨n,q,h1,h2⟩;exact ⟨q,Zbd.2 ⟨n,h1⟩,h2⟩
 ·rintro ⟨q,h1,h2⟩;obtain ⟨n,hn⟩:=Zbd.1 h1;exact ⟨n,q,hn,h2⟩
theorem ZIY {c:Zf} {tm:Tms} {σ:Za} (h:evC fs prim byref m0 c tm σ=none) (n:Nat):ZZ (Zas fs prim byref n) byref m0 n c tm σ=none:=by
 cases hx:ZZ (Zas fs prim byref n) byref m0 n c tm σ with
 | none=>rfl
 | some r=>rw [Zbd.2 ⟨n,hx⟩] at h;cases h
variable (fs prim byref m0) in
noncomputable def ZbG (b:Zf):Option (ZaO×Tms×Za)→Option (ZaO×Tms×Za)
 | some (.normal,tm,σ)=>evC fs prim byref m0 b tm σ
 | r=>r
theorem ZJf {a b:Zf} {tm:Tms} {σ:Za}:evC fs prim byref m0 (.seq a b) tm σ=ZbG fs prim byref m0 b (evC fs prim byref m0 a tm σ):=by
 cases h:evC fs prim byref m0 a tm σ with
 | none =>
  simp only [ZbG]
  apply ZeG;intro r
  rw [Zbd]
  constructor
  ·rintro ⟨n,hn⟩
   simp only [ZZ,ZIY h n] at hn
   cases hn
  ·intro h;cases h
 | some q =>
  obtain ⟨e,tm',σ'⟩:=q
  cases e with
  | normal=>exact ZiN h
  | exit id=>exact ZhY (by simp) h
  | ret=>exact ZhY (by simp) h
  | panic x=>exact ZhY (by simp) h
variable (fs prim byref m0) in
noncomputable def Zig (a b:Zf) (tm:Tms) (σ:Za):AVal→Option (ZaO×Tms×Za)
 | .bool true=>evC fs prim byref m0 a tm σ
 | .bool false=>evC fs prim byref m0 b tm σ
 | _=>none
theorem Zwt {c:Opd} {a b:Zf} {tm:Tms} {σ:Za}:evC fs prim byref m0 (.cond c a b) tm σ=Zig fs prim byref m0 a b tm σ (c.ev tm):=by
 apply ZeG;intro r
 rw [Zbd]
 simp only [ZZ]
 constructor
 ·rintro ⟨n,hn⟩
  split at hn
  ·rename_i e;rw [e];simp only [Zig];exact Zbd.2 ⟨n,hn⟩
  ·rename_i e;rw [e];simp only [Zig];exact Zbd.2 ⟨n,hn⟩
  ·cases hn
 ·intro h
  unfold Zig at h
  split at h
  ·rename_i e;obtain ⟨n,hn⟩:=Zbd.1 h;exact ⟨n,by rw [e];exact hn⟩
  ·rename_i e;obtain ⟨n,hn⟩:=Zbd.1 h;exact ⟨n,by rw [e];exact hn⟩
  ·cases h
variable (fs prim byref m0) in
noncomputable def evL (live:List Nat) (c:Zf) (tm:Tms) (σ:Za):Option (ZaO×Tms×Za) :=
 match evC fs prim byref m0 c tm σ with
 | some (.normal,tm',σ')=>evC fs prim byref m0 (.loop live c) tm' σ'
 | r=>r
theorem ZtF {live:List Nat} {c:Zf} {tm:Tms} {σ:Za}:evC fs prim byref m0 (.loop live c) tm σ=evL fs prim byref m0 live c (gcT m0 (keepL live tm) σ).1 (gcT m0 (keepL live tm) σ).2:=by
 apply ZeG;intro r
 rw [Zbd]
 constructor
 ·rintro ⟨n,hn⟩
  simp only [ZZ] at hn
  cases n with
  | zero=>simp only [Zdb] at hn;cases hn
  | succ k =>
   simp only [Zdb] at hn
   unfold evL
   cases hx:ZZ (Zas fs prim byref (k+1)) byref m0 (k+1) c (gcT m0 (keepL live tm) σ).1 (gcT m0 (keepL live tm) σ).2 with
   | none=>rw [hx] at hn;cases hn
   | some q =>
    rw [Zbd.2 ⟨_,hx⟩]
    rw [hx] at hn
    obtain ⟨e,tm',σ'⟩:=q
    cases e with
    | normal =>
     simp only at hn ⊢
     exact Zbd.2 ⟨k+1,by simp only [ZZ];exact ZkS (fun _ _ _ h=>h) (by omega) hn⟩
    | exit id=>exact hn
    | ret=>exact hn
    | panic x=>exact hn
 ·intro h
  unfold evL at h
  cases hx:evC fs prim byref m0 c (gcT m0 (keepL live tm) σ).1 (gcT m0 (keepL live tm) σ).2 with
  | none=>rw [hx] at h;cases h
  | some q =>
   rw [hx] at h
   obtain ⟨n,hn⟩:=Zbd.1 hx
   obtain ⟨e,tm',σ'⟩:=q
   have out:e≠.normal→some (e,tm',σ')=some r→∃ n,ZZ (Zas fs prim byref n) byref m0 n (.loop live c) tm σ=some r:=by
    intro he h
    refine ⟨n+1,?_⟩
    have h1:=Zdf (up (show n≤n+1 by omega)) (show n≤n+1 by omega) hn
    simp only [ZZ,Zdb,h1]
    cases e with
    | normal=>exact absurd rfl he
    | exit id=>exact h
    | ret=>exact h
    | panic x=>exact h
   cases e with
   | normal =>
    simp only at h
    obtain ⟨m,hm⟩:=Zbd.1 h
    have h1:=Zdf (up (show n≤max n m+1 by omega)) (show n≤max n m+1 by omega) hn
    have h2:=Zdf (up (show m≤max n m+1 by omega)) (Nat.le_refl m) hm
    simp only [ZZ] at h2
    refine ⟨max n m+1,?_⟩
    simp only [ZZ,Zdb,h1]
    exact ZkS (fun tm σ r h=>Zdf (fun _ _ _ _ h=>h) (by omega) h) (by omega) h2
   | exit id=>exact out (by simp) h
   | ret=>exact out (by simp) h
   | panic x=>exact out (by simp) h
theorem ZBE {P:Program} (hm:P.follows .mixedOrders=true) {prim:Zcc} (hP:Zk7 P prim) (ann:Nat→Ann) (byref:Nat→Bool):ZaH P (EV (Zia P ann) prim byref):=by
 intro f args σ r σ' h
 obtain ⟨n,hn⟩:=Zdq.1 h
 exact ZoM hm hP ann byref n f args σ r σ' hn
end
end Go.Proofs.YtmlkhhidifjjfaaDoor
namespace Go.Proofs.YtmlkhhidifjjfaaDoor
open Go.RowKit
def ZuQ:Tms×Za×List Cls×Option AVal→Tms×Za×Option AVal:=fun q=>(q.1,q.2.1,q.2.2.2)
def ZaL:AVal→Bool
 | .pan _=>true
 | _=>false
section
variable (O:ZO) (byref:Nat→Bool)
def exI (i:Ins) (s:Nat) (tm:Tms) (σ:Za):Option (AVal×Za×Cls) :=
 if nsite i == 0 || freeAt σ s then execI O byref tm σ s i else none
def Za9 (ops:List AOp) (s:Nat) (tm:Tms) (σ:Za):Option (Tms×Za×Option AVal):=(ZT O byref ops s tm σ).map ZuQ
def kN (d:Option Nat) (os:List AOp) (s:Nat) (tm:Tms):Option (AVal×Za×Cls)→Option (Tms×Za×Option AVal)
 | none=>none
 | some (v,σ,_)=>if ZaL v then some (tput tm d v,σ,some (ZaP v)) else Za9 O byref os s (tput tm d v) σ
def Zj9 (live:List Nat):Option (Tms×Za×Option AVal)→Option (ZaO×Tms×Za)
 | none=>none
 | some (_,σ,some x)=>some (.panic x,[],σ)
 | some (tm,σ,none)=>some (.normal,keepL live tm,σ)
variable {O byref}
theorem ZqS (s:Nat) (tm:Tms) (σ:Za):Za9 O byref [] s tm σ=some (tm,σ,none):=rfl
theorem ZhO {o:AOp} {os:List AOp} {s:Nat} {tm:Tms} {σ:Za} (h:ZP O byref o s tm σ=none):ZT O byref (o::os) s tm σ=none:=by simp only [ZT,h]
theorem Zj1 {o:AOp} {os:List AOp} {s:Nat} {tm tm1:Tms} {σ σ1:Za} {x:AVal} {c:Cls} (h:ZP O byref o s tm σ=some (.pan x,tm1,σ1,c)):ZT O byref (o::os) s tm σ=some (tm1,σ1,[c],some x):=by simp only [ZT,h]
theorem Zq5 {o:AOp} {os:List AOp} {s:Nat} {tm tm1:Tms} {σ σ1:Za} {v:AVal} {c:Cls} (h:ZP O byref o s tm σ=some (v,tm1,σ1,c)) (hn:ZaL v=false):ZT O byref (o::os) s tm σ=(ZT O byref os (s+nsite o.ins) tm1 σ1).map fun q=>(q.1,q.2.1,c::q.2.2.1,q.2.2.2):=by
 simp only [ZT,h]
 cases v <;> first
  | (simp [ZaL] at hn;done)
  | (simp only;cases ZT O byref os (s+nsite o.ins) tm1 σ1 <;> rfl)
theorem ZjY {o:AOp} {os:List AOp} {s:Nat} {tm:Tms} {σ:Za} (h:ZP O byref o s tm σ=none):Za9 O byref (o::os) s tm σ=none:=by simp only [Za9,ZhO h,Option.map_none]
theorem Zng {o:AOp} {os:List AOp} {s:Nat} {tm tm1:Tms} {σ σ1:Za} {x:AVal} {c:Cls} (h:ZP O byref o s tm σ=some (.pan x,tm1,σ1,c)):Za9 O byref (o::os) s tm σ=some (tm1,σ1,some x):=by simp only [Za9,Zj1 h,Option.map_some,ZuQ]
theorem Zln {o:AOp} {os:List AOp} {s:Nat} {tm tm1:Tms} {σ σ1:Za} {v:AVal} {c:Cls} (h:ZP O byref o s tm σ=some (v,tm1,σ1,c)) (hn:ZaL v=false):Za9 O byref (o::os) s tm σ=Za9 O byref os (s+nsite o.ins) tm1 σ1:=by
 simp only [Za9,Zq5 h hn,Option.map_map]
 rfl
theorem ZjB {v:AVal} (h:ZaL v=true):∃ x,v=.pan x:=by
 cases v <;> first | exact ⟨_,rfl⟩ | (simp [ZaL] at h;done)
theorem ZkJ {d:Option Nat} {i:Ins} {af:List Nat} {s:Nat} {tm:Tms} {σ:Za}:ZP O byref ⟨d,i,none,af⟩ s tm σ=(exI O byref i s tm σ).map fun q=>(q.1,tput tm d q.1,q.2.1,q.2.2):=by
 unfold ZP exI
 simp only [Zbn]
 split
 ·cases execI O byref tm σ s i with
  | none=>rfl
  | some q=>rfl
 ·rfl
theorem Zpv (d:Option Nat) (i:Ins) (af:List Nat) (os:List AOp) (s:Nat) (tm:Tms) (σ:Za):Za9 O byref (⟨d,i,none,af⟩::os) s tm σ=kN O byref d os (s+nsite i) tm (exI O byref i s tm σ):=by
 cases h:exI O byref i s tm σ with
 | none=>exact ZjY (by rw [ZkJ,h];rfl)
 | some q =>
  obtain ⟨v,σ1,c⟩:=q
  have hs:ZP O byref ⟨d,i,none,af⟩ s tm σ=some (v,tput tm d v,σ1,c):=by rw [ZkJ,h];rfl
  cases hp:ZaL v with
  | true =>
   obtain ⟨x,rfl⟩:=ZjB hp
   exact Zng hs
  | false =>
   rw [Zln hs hp]
   simp only [kN,hp,Bool.false_eq_true,if_false]
theorem ZK9 (ops:List AOp) (live:List Nat) (tm:Tms) (σ:Za):ZbP O byref ops none live tm σ=Zj9 live (Za9 O byref ops σ.length tm (σ++List.replicate (sitesOf ops) .free)):=by
 unfold ZbP Za9
 cases ZT O byref ops σ.length tm (σ++List.replicate (sitesOf ops) .free) with
 | none=>rfl
 | some q =>
  obtain ⟨tm',σ',cs,p⟩:=q
  cases p <;> rfl
theorem Zpc (d:Option Nat) (os:List AOp) (s:Nat) (tm:Tms) (v:AVal) (σ:Za) (c:Cls) (h:ZaL v=false):kN O byref d os s tm (some (v,σ,c))=Za9 O byref os s (tput tm d v) σ:=by
 simp only [kN,h,Bool.false_eq_true,if_false]
theorem ZAG (d:Option Nat) (os:List AOp) (s:Nat) (tm:Tms) (x:AVal) (σ:Za) (c:Cls):kN O byref d os s tm (some (.pan x,σ,c))=some (tput tm d (.pan x),σ,some x):=rfl
theorem ZFe (d:Option Nat) (os:List AOp) (s:Nat) (tm:Tms):kN O byref d os s tm none=none:=rfl
structure GOp where
 guard:Option (Nat×Bool)
 ops:List AOp
def Zar:List AOp→Tms→Tms
 | [],tm=>tm
 | o::os,tm=>Zar os (tput tm o.dst (.tup []))
def unG (o:AOp):AOp:={ o with guard:=none }
variable (O byref) in
def Zec (j:Nat) (w:Bool) (g:List AOp) (s:Nat) (tm:Tms) (σ:Za):Option (Tms×Za×Option AVal):=match Zbn (some (j,w)) tm with
 | none=>none
 | some false=>some (Zar g tm,σ,none)
 | some true=>Za9 O byref (g.map unG) s tm σ
variable (O byref) in
def gK (os:List AOp) (s:Nat):Option (Tms×Za×Option AVal)→Option (Tms×Za×Option AVal)
 | none=>none
 | some (tm,σ,some x)=>some (tm,σ,some x)
 | some (tm,σ,none)=>Za9 O byref os s tm σ
def ZE (j:Nat) (w:Bool):List AOp→List AOp×List AOp
 | []=>([],[])
 | o::os=>match o.guard with
  | some (j',w')=>if j'=j∧w'=w∧o.dst≠some j then ((o::(ZE j w os).1),(ZE j w os).2) else ([],o::os)
  | none=>([],o::os)
theorem Zoe (j:Nat) (w:Bool):∀ os,(ZE j w os).1++(ZE j w os).2=os
 | []=>rfl
 | o::os=>by
  simp only [ZE]
  split
  ·split
   ·simp [Zoe j w os]
   ·rfl
  ·rfl
theorem Zn2 (j:Nat) (w:Bool):∀ os,∀ o ∈ (ZE j w os).1,o.guard=some (j,w)∧o.dst≠some j
 | []=>by simp [ZE]
 | o::os=>by
  intro o' ho
  simp only [ZE] at ho
  split at ho
  ·rename_i j' w' hg
   split at ho
   ·rename_i hc
    rcases List.mem_cons.1 ho with rfl | ho
    ·exact ⟨by rw [hg,hc.1,hc.2.1],hc.2.2⟩
    ·exact Zn2 j w os o' ho
   ·simp at ho
  ·simp at ho
theorem ZBc {d:Option Nat} {v:AVal} {n:Nat} {tm:Tms} (h:d≠some n):tget (tput tm d v) n=tget tm n:=by
 cases d with
 | none=>rfl
 | some d =>
  have : d≠n:=by rintro rfl;exact h rfl
  simp only [tput,Zlu,this,if_false]
theorem Zfi {d:Option Nat} {v:AVal} {j:Nat} {w:Bool} {tm:Tms} (h:d≠some j):Zbn (some (j,w)) (tput tm d v)=Zbn (some (j,w)) tm:=by
 simp only [Zbn,ZBc h]
theorem Ztc:∀ (a b:List AOp) (s:Nat) (tm:Tms) (σ:Za),Za9 O byref (a++b) s tm σ=gK O byref b (s+sitesOf a) (Za9 O byref a s tm σ)
 | [],b,s,tm,σ=>by simp [ZqS,gK,sitesOf]
 | o::a,b,s,tm,σ=>by
  have ih:=Ztc a b
  simp only [List.cons_append]
  have hs:s+nsite o.ins+sitesOf a=s+sitesOf (o::a):=by simp [sitesOf,Nat.add_assoc]
  cases hst:ZP O byref o s tm σ with
  | none=>rw [ZjY hst,ZjY hst];rfl
  | some q =>
   obtain ⟨v,tm1,σ1,c⟩:=q
   cases hp:ZaL v with
   | true =>
    obtain ⟨x,rfl⟩:=ZjB hp
    rw [Zng hst,Zng hst];rfl
   | false=>rw [Zln hst hp,Zln hst hp,ih,hs]
theorem Zqv (j:Nat) (w:Bool):∀ (g:List AOp),(∀ o ∈ g,o.guard=some (j,w)∧o.dst≠some j)→∀ (s:Nat) (tm:Tms) (σ:Za),g≠[]→Za9 O byref g s tm σ=Zec O byref j w g s tm σ
 | [],_,_,_,_,h=>absurd rfl h
 | o::g,hall,s,tm,σ,_=>by
  obtain ⟨hg,hd⟩:=hall o (by simp)
  have ih:∀ (tm:Tms) (σ:Za) (s:Nat),Zbn (some (j,w)) tm≠none→Za9 O byref g s tm σ=Zec O byref j w g s tm σ:=by
   intro tm σ s hw
   by_cases he:g=[]
   ·subst he
    unfold Zec
    cases hx:Zbn (some (j,w)) tm with
    | none=>exact absurd hx hw
    | some b=>cases b <;> rfl
   ·exact Zqv j w g (fun o ho=>hall o (by simp [ho])) s tm σ he
  cases hx:Zbn (some (j,w)) tm with
  | none =>
   rw [ZjY (by simp only [ZP,hg,hx])]
   simp only [Zec,hx]
  | some b =>
   cases b with
   | false =>
    have h1:Za9 O byref (o::g) s tm σ=Za9 O byref g (s+nsite o.ins) (tput tm o.dst (.tup [])) σ :=
     Zln (v:=.tup []) (c:={}) (by simp only [ZP,hg,hx]) rfl
    rw [h1,ih _ _ _ (by rw [Zfi hd,hx];simp)]
    unfold Zec
    rw [Zfi hd,hx]
    rfl
   | true =>
    have key:∀ r:Option (AVal×Za×Cls),(∀ v σ' c,r=some (v,σ',c)→ZaL v=false→Za9 O byref g (s+nsite o.ins) (tput tm o.dst v) σ'=Za9 O byref (g.map unG) (s+nsite o.ins) (tput tm o.dst v) σ')→kN O byref o.dst g (s+nsite o.ins) tm r=kN O byref o.dst (g.map unG) (s+nsite o.ins) tm r:=by
     intro r hr
     cases r with
     | none=>rfl
     | some q =>
      obtain ⟨v,σ',c⟩:=q
      cases hp:ZaL v with
      | true=>simp only [kN,hp,if_true]
      | false=>rw [Zpc _ _ _ _ _ _ _ hp,Zpc _ _ _ _ _ _ _ hp];exact hr v σ' c rfl hp
    have h1:Za9 O byref (o::g) s tm σ=kN O byref o.dst g (s+nsite o.ins) tm (exI O byref o.ins s tm σ):=by
     have h0:Za9 O byref (o::g) s tm σ=Za9 O byref (⟨o.dst,o.ins,none,o.after⟩::g) s tm σ:=by
      have hst:ZP O byref o s tm σ=ZP O byref ⟨o.dst,o.ins,none,o.after⟩ s tm σ:=by
       unfold ZP
       simp only [hg,hx]
       rfl
      unfold Za9
      simp only [ZT,hst]
     rw [h0,Zpv]
    rw [h1]
    unfold Zec
    rw [hx]
    simp only [List.map_cons]
    rw [show unG o=⟨o.dst,o.ins,none,o.after⟩ from rfl,Zpv]
    refine key _ fun v σ' c _ _=>?_
    rw [ih _ _ _ (by rw [Zfi hd,hx];simp)]
    unfold Zec
    rw [Zfi hd,hx]
theorem ZzC (d:Option Nat) (i:Ins) (j:Nat) (w:Bool) (af:List Nat) (os:List AOp) (s:Nat) (tm:Tms) (σ:Za) (hd:decide (d=some j)=false) :
  Za9 O byref (⟨d,i,some (j,w),af⟩::os) s tm σ=gK O byref (ZE j w os).2 (s+sitesOf (⟨d,i,some (j,w),af⟩::(ZE j w os).1)) (Zec O byref j w (⟨d,i,some (j,w),af⟩::(ZE j w os).1) s tm σ):=by
 have h:=Zoe j w os
 have hall:∀ o ∈ (⟨d,i,some (j,w),af⟩::(ZE j w os).1:List AOp),o.guard=some (j,w)∧o.dst≠some j:=by
  intro o ho
  rcases List.mem_cons.1 ho with rfl | ho
  ·exact ⟨rfl,by simpa using hd⟩
  ·exact Zn2 j w os o ho
 rw [←Zqv j w _ hall s tm σ (by simp),←Ztc,List.cons_append,h]
variable (O byref) in
def gW (w:Bool) (g:List AOp) (s:Nat) (tm:Tms) (σ:Za):AVal→Option (Tms×Za×Option AVal)
 | .bool b=>if b=w then Za9 O byref (g.map unG) s tm σ else some (Zar g tm,σ,none)
 | .tup []=>some (Zar g tm,σ,none)
 | _=>none
theorem ZET (j:Nat) (w:Bool) (g:List AOp) (s:Nat) (tm:Tms) (σ:Za):Zec O byref j w g s tm σ=gW O byref w g s tm σ (tget tm j):=by
 unfold Zec Zbn
 simp only
 generalize tget tm j=v
 cases v
 case bool b=>cases b <;> cases w <;> rfl
 case tup vs=>cases vs <;> rfl
 all_goals rfl
theorem ZxH (w:Bool) (g:List AOp) (s:Nat) (tm:Tms) (σ:Za) (b:Bool):gW O byref w g s tm σ (.bool b)=if b=w then Za9 O byref (g.map unG) s tm σ else some (Zar g tm,σ,none):=rfl
theorem ZC9 (w:Bool) (g:List AOp) (s:Nat) (tm:Tms) (σ:Za):gW O byref w g s tm σ (.tup [])=some (Zar g tm,σ,none):=rfl
theorem ZK8 (os:List AOp) (s:Nat) (tm:Tms) (σ:Za):gK O byref os s (some (tm,σ,none))=Za9 O byref os s tm σ:=rfl
end
section
variable (c:Prop) [Decidable c]
theorem Zdw {α:Type} (a b:α) (x y:List α):(if c then a::x else b::y)=(if c then a else b)::(if c then x else y):=by split <;> rfl
theorem ZK3 (k:IntKind) (a b:Int):(if c then AVal.int k a else AVal.int k b)=AVal.int k (if c then a else b):=by split <;> rfl
theorem ZLJ (a b:Bool):(if c then AVal.bool a else AVal.bool b)=AVal.bool (if c then a else b):=by split <;> rfl
theorem ZD7 (a b:List UInt8):(if c then AVal.str a else AVal.str b)=AVal.str (if c then a else b):=by split <;> rfl
theorem ZLZ (p q:Bool) (a b:List AVal):(if c then AVal.lst p a else AVal.lst q b)=AVal.lst (if c then p else q) (if c then a else b):=by split <;> rfl
theorem ZLD (a b:List AVal):(if c then AVal.agg a else AVal.agg b)=AVal.agg (if c then a else b):=by split <;> rfl
theorem Zu3 (a b:List AVal):(if c then ZJ.var a else ZJ.var b)=ZJ.var (if c then a else b):=by split <;> rfl
theorem ZEi (g k:Nat) (a b:List AVal):(if c then ZJ.row g k a else ZJ.row g k b)=ZJ.row g k (if c then a else b):=by split <;> rfl
theorem ZF4 (t:Nat) (a b:Nat):(if c then AVal.ref t a else AVal.ref t b)=AVal.ref t (if c then a else b):=by split <;> rfl
theorem Zou {α:Type} (x y z:α):(if c then (if c then x else y) else z)=if c then x else z:=by split <;> rfl
theorem ZqQ {α:Type} (x y z:α):(if c then x else (if c then y else z))=if c then x else z:=by split <;> rfl
theorem ZEg (σ:Za) (a b:AVal) (p:Bool):Ze6 σ a b (.bool p)=some (if p=true then a else b,σ,{}):=by cases p <;> rfl
theorem ZLb (a b:AVal):ZaL (if c then a else b)=if c then ZaL a else ZaL b:=by split <;> rfl
end
section
variable {fs:Nat→Option ZD} {prim:Zcc} {byref:Nat→Bool} {m0:Nat}
theorem ZyU (p:Bool) (a b:Zf) (tm:Tms) (σ:Za):Zig fs prim byref m0 a b tm σ (.bool p)=if p=true then evC fs prim byref m0 a tm σ else evC fs prim byref m0 b tm σ:=by
 cases p <;> rfl
theorem ZxT (b:Zf) (tm:Tms) (σ:Za):ZbG fs prim byref m0 b (some (.normal,tm,σ))=evC fs prim byref m0 b tm σ:=rfl
theorem ZJg (b:Zf) (i:Nat) (tm:Tms) (σ:Za):ZbG fs prim byref m0 b (some (.exit i,tm,σ))=some (.exit i,tm,σ):=rfl
theorem ZyI (b:Zf) (tm:Tms) (σ:Za):ZbG fs prim byref m0 b (some (.ret,tm,σ))=some (.ret,tm,σ):=rfl
theorem ZyB (b:Zf) (x:AVal) (tm:Tms) (σ:Za):ZbG fs prim byref m0 b (some (.panic x,tm,σ))=some (.panic x,tm,σ):=rfl
theorem ZGj (c:Prop) [Decidable c] (b:Zf) (x y:Option (ZaO×Tms×Za)):ZbG fs prim byref m0 b (if c then x else y)=if c then ZbG fs prim byref m0 b x else ZbG fs prim byref m0 b y:=by split <;> rfl
theorem ZEC (id:Nat) (tm:Tms) (σ:Za):Option.map (ZaS id) (some (.normal,tm,σ))=some (.normal,tm,σ):=rfl
theorem ZD9 (id i:Nat) (tm:Tms) (σ:Za):Option.map (ZaS id) (some (.exit i,tm,σ))=if i=id then some (.normal,tm,σ) else some (.exit i,tm,σ):=by
 simp only [Option.map_some,ZaS];split <;> rfl
theorem ZyC (id:Nat) (tm:Tms) (σ:Za):Option.map (ZaS id) (some (.ret,tm,σ))=some (.ret,tm,σ):=rfl
theorem ZHN (id:Nat) (x:AVal) (tm:Tms) (σ:Za):Option.map (ZaS id) (some (.panic x,tm,σ))=some (.panic x,tm,σ):=rfl
theorem ZDf (id:Nat) (c:Prop) [Decidable c] (x y:Option (ZaO×Tms×Za)):Option.map (ZaS id) (if c then x else y)=if c then Option.map (ZaS id) x else Option.map (ZaS id) y:=by split <;> rfl
theorem ZzQ (m:Nat) (fn:ZD) (c:Prop) [Decidable c] (x y:Option (ZaO×Tms×Za)):Zaq m fn (if c then x else y)=if c then Zaq m fn x else Zaq m fn y:=by split <;> rfl
end
section
variable {fs:Nat→Option ZD} {prim:Zcc} {byref:Nat→Bool} {m0:Nat}
theorem ZL8 {live:List Nat} {c:Zf} {tm tm':Tms} {σ σ':Za} (h:evC fs prim byref m0 c tm σ=some (.normal,tm',σ')):evL fs prim byref m0 live c tm σ=evL fs prim byref m0 live c (gcT m0 (keepL live tm') σ').1 (gcT m0 (keepL live tm') σ').2:=by
 unfold evL
 rw [h]
 simp only
 rw [ZtF]
 rfl
theorem ZxN {live:List Nat} {c:Zf} {tm tm':Tms} {σ σ':Za} {i:Nat} (h:evC fs prim byref m0 c tm σ=some (.exit i,tm',σ')):evL fs prim byref m0 live c tm σ=some (.exit i,tm',σ'):=by
 unfold evL;rw [h]
theorem ZDZ {live:List Nat} {c:Zf} {tm tm':Tms} {σ σ':Za} (h:evC fs prim byref m0 c tm σ=some (.ret,tm',σ')):evL fs prim byref m0 live c tm σ=some (.ret,tm',σ'):=by
 unfold evL;rw [h]
variable (fs prim byref m0) in
noncomputable def evM (live:List Nat) (c:Zf):Option (ZaO×Tms×Za)→Option (ZaO×Tms×Za)
 | some (.normal,tm,σ)=>evL fs prim byref m0 live c (gcT m0 (keepL live tm) σ).1 (gcT m0 (keepL live tm) σ).2
 | r=>r
theorem Zac (live:List Nat) (c:Zf) (tm:Tms) (σ:Za):evL fs prim byref m0 live c tm σ=evM fs prim byref m0 live c (evC fs prim byref m0 c tm σ):=by
 cases h:evC fs prim byref m0 c tm σ with
 | none=>unfold evL;rw [h];rfl
 | some q =>
  obtain ⟨e,tm',σ'⟩:=q
  cases e with
  | normal=>exact ZL8 h
  | exit i=>exact ZxN h
  | ret=>exact ZDZ h
  | panic x=>unfold evL;rw [h];rfl
theorem ZMg (live:List Nat) (c:Zf) (tm:Tms) (σ:Za):evM fs prim byref m0 live c (some (.normal,tm,σ))=evL fs prim byref m0 live c (gcT m0 (keepL live tm) σ).1 (gcT m0 (keepL live tm) σ).2:=rfl
theorem ZJw (live:List Nat) (c:Zf) (i:Nat) (tm:Tms) (σ:Za):evM fs prim byref m0 live c (some (.exit i,tm,σ))=some (.exit i,tm,σ):=rfl
theorem ZG4 (live:List Nat) (c:Zf) (tm:Tms) (σ:Za):evM fs prim byref m0 live c (some (.ret,tm,σ))=some (.ret,tm,σ):=rfl
theorem Zzv (live:List Nat) (c:Zf) (x:AVal) (tm:Tms) (σ:Za):evM fs prim byref m0 live c (some (.panic x,tm,σ))=some (.panic x,tm,σ):=rfl
theorem ZLf (live:List Nat) (b:Zf) (c:Prop) [Decidable c] (x y:Option (ZaO×Tms×Za)):evM fs prim byref m0 live b (if c then x else y)=if c then evM fs prim byref m0 live b x else evM fs prim byref m0 live b y:=by split <;> rfl
end
def ZaY:AVal→Bool
 | .int _ _=>true
 | .bool _=>true
 | .str _=>true
 | .nilp=>true
 | .nilm=>true
 | .nili=>true
 | .lst _ _=>true
 | .fn _ []=>true
 | _=>false
def Z6:AVal→Bool
 | .agg cs=>cs.all ZaY
 | x=>ZaY x
def Za5:AVal→AVal
 | .lst _ xs=>.lst false xs
 | x=>x
def ZF:AVal→AVal
 | .agg cs=>.agg (cs.map Za5)
 | x=>Za5 x
theorem Zq8 {σ:Za} {x:AVal} (h:ZaY x=true):Zcr σ x=some (Za5 x,[]):=by
 cases x <;> first | (simp [ZaY] at h;done) | rfl
theorem Zt2 {σ:Za}:∀ {xs:List AVal},xs.all ZaY=true→Zcg σ xs=some (xs.map Za5,[])
 | [],_=>rfl
 | x::xs,h=>by
  simp only [List.all_cons,Bool.and_eq_true] at h
  simp only [Zcg,Zq8 h.1,Zt2 h.2,List.map_cons,List.append_nil]
theorem ZgN {x:AVal} (h:∀ cs,x≠.agg cs):Z6 x=ZaY x∧ZF x=Za5 x:=by
 cases x <;> first | exact ⟨rfl,rfl⟩ | exact absurd rfl (h _)
theorem ZwX {σ:Za} {x:AVal} (h:∀ cs,x≠.agg cs):showA σ x=Zcr σ x:=by
 cases x <;> first | rfl | exact absurd rfl (h _)
theorem ZmS (x:AVal):(∃ cs,x=.agg cs)∨∀ cs,x≠.agg cs:=by
 cases x <;> first | exact Or.inl ⟨_,rfl⟩ | (right;intro cs;simp)
theorem Zxh {σ:Za} {x:AVal} (h:Z6 x=true):showA σ x=some (ZF x,[]):=by
 rcases ZmS x with ⟨cs,rfl⟩ | hn
 ·simp only [Z6] at h
  simp only [showA,Zt2 h,ZF]
 ·rw [(ZgN hn).1] at h
  rw [ZwX hn,(ZgN hn).2]
  exact Zq8 h
theorem ZdX {σ:Za}:∀ {xs:List AVal},xs.all Z6=true→showAs σ xs=some (xs.map ZF,[])
 | [],_=>rfl
 | x::xs,h=>by
  simp only [List.all_cons,Bool.and_eq_true] at h
  simp only [showAs,Zxh h.1,ZdX h.2,List.map_cons,List.append_nil]
theorem ZqV {x:AVal} (h:ZaY x=true):ZW (Za5 x)=[]:=by
 cases x
 case fn f cs=>cases cs <;> simp [ZaY] at h;rfl
 all_goals first | (simp [ZaY] at h;done) | rfl
theorem ZuC:∀ {xs:List AVal},xs.all ZaY=true→Zr (xs.map Za5)=[]
 | [],_=>rfl
 | x::xs,h=>by
  simp only [List.all_cons,Bool.and_eq_true] at h
  simp only [List.map_cons,Zr,ZqV h.1,ZuC h.2,List.append_nil]
theorem Zs1 {x:AVal} (h:Z6 x=true):ZW (ZF x)=[]:=by
 rcases ZmS x with ⟨cs,rfl⟩ | hn
 ·simp only [Z6] at h
  simp only [ZF,ZW];exact ZuC h
 ·rw [(ZgN hn).1] at h
  rw [(ZgN hn).2];exact ZqV h
theorem ZcW:∀ {xs:List AVal},xs.all Z6=true→Zr (xs.map ZF)=[]
 | [],_=>rfl
 | x::xs,h=>by
  simp only [List.all_cons,Bool.and_eq_true] at h
  simp only [List.map_cons,Zr,Zs1 h.1,ZcW h.2,List.append_nil]
theorem ZrD {ρ:Rho} {x:AVal} (h:ZaY x=true):Zk ρ (Za5 x)=Za5 x:=by
 cases x
 case fn f cs=>cases cs <;> simp [ZaY] at h;rfl
 all_goals first | (simp [ZaY] at h;done) | rfl
theorem Zs8 {ρ:Rho}:∀ {xs:List AVal},xs.all ZaY=true→Ze ρ (xs.map Za5)=xs.map Za5
 | [],_=>rfl
 | x::xs,h=>by
  simp only [List.all_cons,Bool.and_eq_true] at h
  simp only [List.map_cons,Ze,ZrD h.1,Zs8 h.2]
theorem ZuD {ρ:Rho} {x:AVal} (h:Z6 x=true):Zk ρ (ZF x)=ZF x:=by
 rcases ZmS x with ⟨cs,rfl⟩ | hn
 ·simp only [Z6] at h
  simp only [ZF,Zk];rw [Zs8 h]
 ·rw [(ZgN hn).1] at h
  rw [(ZgN hn).2];exact ZrD h
theorem Zc6 {ρ:Rho}:∀ {xs:List AVal},xs.all Z6=true→Ze ρ (xs.map ZF)=xs.map ZF
 | [],_=>rfl
 | x::xs,h=>by
  simp only [List.all_cons,Bool.and_eq_true] at h
  simp only [List.map_cons,Ze,ZuD h.1,Zc6 h.2]
theorem Zf5 {O:ZO} {byref:Nat→Bool} {σ:Za} {site f own:Nat} {view:Bool} {args:List AVal} (hb:byref f=false) (h:args.all Z6=true) :
  Zj O byref σ site f own view args=Zaz σ σ [] [] site own (Zad view 0 (O f (args.map ZF) [])):=by
 unfold Zj ZbH
 rw [hb]
 simp only [Bool.false_eq_true,if_false,ZdX h]
 have h1:Zp σ []=σ:=rfl
 rw [h1,ZcW h]
 have h2:Zz σ 1000 [] []=[]:=rfl
 rw [h2]
 unfold Zbu
 simp only [List.all_nil,if_true,Zc6 h,Zw,List.length_nil]
theorem Zh4 (σ:Za) (site own:Nat) (r:AVal) (h:Zk (Zav [] [] site) r=r):Zaz σ σ [] [] site own (some (r,[]))=some (r,σ,{}):=by
 simp only [Zaz,List.isEmpty_nil,Bool.and_self,if_true,ZcY,Bool.not_true,Bool.false_and,Bool.false_eq_true,if_false]
 split
 ·rfl
 ·rw [h]
end Go.Proofs.YtmlkhhidifjjfaaDoor
namespace Go.Proofs.YtmlkhhidifjjfaaDoor
section
variable (ρ:Rho) (σ:Za)
theorem ZLW  : ZaL (.top)=false:=rfl
theorem ZBB  : ZaL (.any)=false:=rfl
theorem ZI8 (k:IntKind) (n:Int):ZaL (.int k n)=false:=rfl
theorem ZKH (b:Bool):ZaL (.bool b)=false:=rfl
theorem ZxW (l:List UInt8):ZaL (.str l)=false:=rfl
theorem ZHA  : ZaL (.nilp)=false:=rfl
theorem ZLa (t:Nat) (o:Nat):ZaL (.ref t o)=false:=rfl
theorem ZAo (t:Nat) (g:Nat) (i:Nat) (o:Nat):ZaL (.eref t g i o)=false:=rfl
theorem ZGn (cs:List AVal) (o:Nat):ZaL (.iptr cs o)=false:=rfl
theorem ZGe (x:Bool) (xs:List AVal):ZaL (.lst x xs)=false:=rfl
theorem ZFA (t:Nat) (g:Nat) (lo:Nat) (n:Nat):ZaL (.sl t g lo n)=false:=rfl
theorem ZyD (cs:List AVal):ZaL (.agg cs)=false:=rfl
theorem Zw8 (vs:List AVal):ZaL (.tup vs)=false:=rfl
theorem Zw5 (f:Nat) (caps:List AVal):ZaL (.fn f caps)=false:=rfl
theorem ZCn  : ZaL (.nilm)=false:=rfl
theorem ZIP (t:Nat):ZaL (.map t)=false:=rfl
theorem ZKW  : ZaL (.nili)=false:=rfl
theorem ZvG (t:Nat) (x:AVal):ZaL (.iface t x)=false:=rfl
theorem ZB5 (x:AVal):ZaL (.pan x)=true:=rfl
theorem ZEO  : ZV (.top)=false:=rfl
theorem ZEb  : ZV (.any)=true:=rfl
theorem ZG9 (k:IntKind) (n:Int):ZV (.int k n)=true:=rfl
theorem ZLr (b:Bool):ZV (.bool b)=true:=rfl
theorem ZH2 (l:List UInt8):ZV (.str l)=true:=rfl
theorem ZHI  : ZV (.nilp)=true:=rfl
theorem Zzb (t:Nat) (o:Nat):ZV (.ref t o)=true:=rfl
theorem ZGl (t:Nat) (g:Nat) (i:Nat) (o:Nat):ZV (.eref t g i o)=true:=rfl
theorem ZJB (cs:List AVal) (o:Nat):ZV (.iptr cs o)=true:=rfl
theorem ZAI (x:Bool) (xs:List AVal):ZV (.lst x xs)=true:=rfl
theorem ZC4 (t:Nat) (g:Nat) (lo:Nat) (n:Nat):ZV (.sl t g lo n)=true:=rfl
theorem ZFm (cs:List AVal):ZV (.agg cs)=false:=rfl
theorem ZFy (vs:List AVal):ZV (.tup vs)=false:=rfl
theorem ZMa (f:Nat) (caps:List AVal):ZV (.fn f caps)=true:=rfl
theorem ZDg  : ZV (.nilm)=true:=rfl
theorem ZJM (t:Nat):ZV (.map t)=true:=rfl
theorem ZDp  : ZV (.nili)=true:=rfl
theorem ZxP (t:Nat) (x:AVal):ZV (.iface t x)=true:=rfl
theorem Zvi (x:AVal):ZV (.pan x)=false:=rfl
theorem ZGN  : Zba (.top)=false:=rfl
theorem ZBO  : Zba (.any)=true:=rfl
theorem ZAl (k:IntKind) (n:Int):Zba (.int k n)=true:=rfl
theorem Zz3 (b:Bool):Zba (.bool b)=true:=rfl
theorem ZIh (l:List UInt8):Zba (.str l)=true:=rfl
theorem ZKF  : Zba (.nilp)=true:=rfl
theorem ZLw (t:Nat) (o:Nat):Zba (.ref t o)=true:=rfl
theorem ZAc (t:Nat) (g:Nat) (i:Nat) (o:Nat):Zba (.eref t g i o)=true:=rfl
theorem ZzZ (cs:List AVal) (o:Nat):Zba (.iptr cs o)=true:=rfl
theorem ZDO (x:Bool) (xs:List AVal):Zba (.lst x xs)=true:=rfl
theorem ZG3 (t:Nat) (g:Nat) (lo:Nat) (n:Nat):Zba (.sl t g lo n)=true:=rfl
theorem ZwC (cs:List AVal):Zba (.agg cs)=true:=rfl
theorem ZIk (vs:List AVal):Zba (.tup vs)=true:=rfl
theorem ZwK (f:Nat) (caps:List AVal):Zba (.fn f caps)=true:=rfl
theorem ZGZ  : Zba (.nilm)=true:=rfl
theorem ZxM (t:Nat):Zba (.map t)=true:=rfl
theorem Zxn  : Zba (.nili)=true:=rfl
theorem ZzY (t:Nat) (x:AVal):Zba (.iface t x)=true:=rfl
theorem ZGh (x:AVal):Zba (.pan x)=true:=rfl
theorem ZD5  : ZaR (.top)=false:=rfl
theorem Zxb  : ZaR (.any)=false:=rfl
theorem ZwS (k:IntKind) (n:Int):ZaR (.int k n)=true:=rfl
theorem Zyl (b:Bool):ZaR (.bool b)=true:=rfl
theorem ZES (l:List UInt8):ZaR (.str l)=true:=rfl
theorem ZH1  : ZaR (.nilp)=true:=rfl
theorem Zw9 (t:Nat) (o:Nat):ZaR (.ref t o)=false:=rfl
theorem ZHS (t:Nat) (g:Nat) (i:Nat) (o:Nat):ZaR (.eref t g i o)=false:=rfl
theorem ZyJ (cs:List AVal) (o:Nat):ZaR (.iptr cs o)=false:=rfl
theorem ZMm (x:Bool) (xs:List AVal):ZaR (.lst x xs)=false:=rfl
theorem Zy0 (t:Nat) (g:Nat) (lo:Nat) (n:Nat):ZaR (.sl t g lo n)=false:=rfl
theorem ZIw (cs:List AVal):ZaR (.agg cs)=false:=rfl
theorem ZGq (vs:List AVal):ZaR (.tup vs)=false:=rfl
theorem ZzE (f:Nat) (caps:List AVal):ZaR (.fn f caps)=false:=rfl
theorem Zwy  : ZaR (.nilm)=true:=rfl
theorem ZFc (t:Nat):ZaR (.map t)=false:=rfl
theorem ZzM  : ZaR (.nili)=true:=rfl
theorem ZAY (t:Nat) (x:AVal):ZaR (.iface t x)=false:=rfl
theorem ZMX (x:AVal):ZaR (.pan x)=false:=rfl
theorem ZJt  : Zbk (.top)=false:=rfl
theorem Zx1  : Zbk (.any)=false:=rfl
theorem ZEj (k:IntKind) (n:Int):Zbk (.int k n)=true:=rfl
theorem ZMt (b:Bool):Zbk (.bool b)=true:=rfl
theorem ZzX (l:List UInt8):Zbk (.str l)=true:=rfl
theorem Zv2  : Zbk (.nilp)=true:=rfl
theorem ZwR (t:Nat) (o:Nat):Zbk (.ref t o)=false:=rfl
theorem Zxy (t:Nat) (g:Nat) (i:Nat) (o:Nat):Zbk (.eref t g i o)=false:=rfl
theorem ZFt (cs:List AVal) (o:Nat):Zbk (.iptr cs o)=false:=rfl
theorem ZIB (x:Bool) (xs:List AVal):Zbk (.lst x xs)=false:=rfl
theorem Zz5 (t:Nat) (g:Nat) (lo:Nat) (n:Nat):Zbk (.sl t g lo n)=false:=rfl
theorem Zvs (cs:List AVal):Zbk (.agg cs)=cs.all ZaR:=rfl
theorem ZwP (vs:List AVal):Zbk (.tup vs)=false:=rfl
theorem ZCD (f:Nat) (caps:List AVal):Zbk (.fn f caps)=false:=rfl
theorem ZDA  : Zbk (.nilm)=true:=rfl
theorem ZFH (t:Nat):Zbk (.map t)=false:=rfl
theorem ZJK  : Zbk (.nili)=true:=rfl
theorem ZFv (t:Nat) (x:AVal):Zbk (.iface t x)=false:=rfl
theorem ZCZ (x:AVal):Zbk (.pan x)=false:=rfl
theorem Zzi  : Zbw (.top)=false:=rfl
theorem Zva  : Zbw (.any)=false:=rfl
theorem ZCS (k:IntKind) (n:Int):Zbw (.int k n)=true:=rfl
theorem ZvT (b:Bool):Zbw (.bool b)=true:=rfl
theorem ZJy (l:List UInt8):Zbw (.str l)=true:=rfl
theorem Zww  : Zbw (.nilp)=true:=rfl
theorem ZJ9 (t:Nat) (o:Nat):Zbw (.ref t o)=false:=rfl
theorem Zxf (t:Nat) (g:Nat) (i:Nat) (o:Nat):Zbw (.eref t g i o)=false:=rfl
theorem ZEW (cs:List AVal) (o:Nat):Zbw (.iptr cs o)=false:=rfl
theorem ZzO (x:Bool) (xs:List AVal):Zbw (.lst x xs)=false:=rfl
theorem ZKg (t:Nat) (g:Nat) (lo:Nat) (n:Nat):Zbw (.sl t g lo n)=false:=rfl
theorem Zwj (cs:List AVal):Zbw (.agg cs)=cs.all ZaR:=rfl
theorem ZxA (vs:List AVal):Zbw (.tup vs)=vs.all Zbk:=rfl
theorem ZCE (f:Nat) (caps:List AVal):Zbw (.fn f caps)=false:=rfl
theorem Zvf  : Zbw (.nilm)=true:=rfl
theorem Zyo (t:Nat):Zbw (.map t)=false:=rfl
theorem Zyc  : Zbw (.nili)=true:=rfl
theorem ZGr (t:Nat) (x:AVal):Zbw (.iface t x)=false:=rfl
theorem Zvj  : ZaY (.top)=false:=rfl
theorem ZJV  : ZaY (.any)=false:=rfl
theorem Zq4 (k:IntKind) (n:Int):ZaY (.int k n)=true:=rfl
theorem ZzD (b:Bool):ZaY (.bool b)=true:=rfl
theorem Ztn (l:List UInt8):ZaY (.str l)=true:=rfl
theorem ZMV  : ZaY (.nilp)=true:=rfl
theorem Zve (t:Nat) (o:Nat):ZaY (.ref t o)=false:=rfl
theorem ZJZ (t:Nat) (g:Nat) (i:Nat) (o:Nat):ZaY (.eref t g i o)=false:=rfl
theorem ZLA (cs:List AVal) (o:Nat):ZaY (.iptr cs o)=false:=rfl
theorem ZuF (x:Bool) (xs:List AVal):ZaY (.lst x xs)=true:=rfl
theorem ZB7 (t:Nat) (g:Nat) (lo:Nat) (n:Nat):ZaY (.sl t g lo n)=false:=rfl
theorem Zx7 (cs:List AVal):ZaY (.agg cs)=false:=rfl
theorem ZxE (vs:List AVal):ZaY (.tup vs)=false:=rfl
theorem Zxo  : ZaY (.nilm)=true:=rfl
theorem Zwp (t:Nat):ZaY (.map t)=false:=rfl
theorem ZH8  : ZaY (.nili)=true:=rfl
theorem ZIz (t:Nat) (x:AVal):ZaY (.iface t x)=false:=rfl
theorem ZIs (x:AVal):ZaY (.pan x)=false:=rfl
theorem ZFp  : Z6 (.top)=false:=rfl
theorem ZDP  : Z6 (.any)=false:=rfl
theorem ZFz (k:IntKind) (n:Int):Z6 (.int k n)=true:=rfl
theorem ZFL (b:Bool):Z6 (.bool b)=true:=rfl
theorem ZE7 (l:List UInt8):Z6 (.str l)=true:=rfl
theorem ZMI  : Z6 (.nilp)=true:=rfl
theorem ZJJ (t:Nat) (o:Nat):Z6 (.ref t o)=false:=rfl
theorem ZA0 (t:Nat) (g:Nat) (i:Nat) (o:Nat):Z6 (.eref t g i o)=false:=rfl
theorem ZEE (cs:List AVal) (o:Nat):Z6 (.iptr cs o)=false:=rfl
theorem ZDG (x:Bool) (xs:List AVal):Z6 (.lst x xs)=true:=rfl
theorem ZJL (t:Nat) (g:Nat) (lo:Nat) (n:Nat):Z6 (.sl t g lo n)=false:=rfl
theorem ZuJ (cs:List AVal):Z6 (.agg cs)=cs.all ZaY:=rfl
theorem ZGs (vs:List AVal):Z6 (.tup vs)=false:=rfl
theorem ZEp  : Z6 (.nilm)=true:=rfl
theorem ZGE (t:Nat):Z6 (.map t)=false:=rfl
theorem ZDV  : Z6 (.nili)=true:=rfl
theorem ZEA (t:Nat) (x:AVal):Z6 (.iface t x)=false:=rfl
theorem Zx8 (x:AVal):Z6 (.pan x)=false:=rfl
theorem ZMw  : Za5 (.top)=(.top):=rfl
theorem ZFd  : Za5 (.any)=(.any):=rfl
theorem ZrG (k:IntKind) (n:Int):Za5 (.int k n)=(.int k n):=rfl
theorem ZHn (b:Bool):Za5 (.bool b)=(.bool b):=rfl
theorem Zse (l:List UInt8):Za5 (.str l)=(.str l):=rfl
theorem ZKM  : Za5 (.nilp)=(.nilp):=rfl
theorem ZxG (t:Nat) (o:Nat):Za5 (.ref t o)=(.ref t o):=rfl
theorem ZBS (t:Nat) (g:Nat) (i:Nat) (o:Nat):Za5 (.eref t g i o)=(.eref t g i o):=rfl
theorem ZFZ (cs:List AVal) (o:Nat):Za5 (.iptr cs o)=(.iptr cs o):=rfl
theorem Zq9 (x:Bool) (xs:List AVal):Za5 (.lst x xs)=.lst false xs:=rfl
theorem ZzK (t:Nat) (g:Nat) (lo:Nat) (n:Nat):Za5 (.sl t g lo n)=(.sl t g lo n):=rfl
theorem ZFX (cs:List AVal):Za5 (.agg cs)=(.agg cs):=rfl
theorem Zvc (vs:List AVal):Za5 (.tup vs)=(.tup vs):=rfl
theorem ZJv (f:Nat) (caps:List AVal):Za5 (.fn f caps)=(.fn f caps):=rfl
theorem ZF5  : Za5 (.nilm)=(.nilm):=rfl
theorem Zzx (t:Nat):Za5 (.map t)=(.map t):=rfl
theorem ZKl  : Za5 (.nili)=(.nili):=rfl
theorem ZHy (t:Nat) (x:AVal):Za5 (.iface t x)=(.iface t x):=rfl
theorem ZFr (x:AVal):Za5 (.pan x)=(.pan x):=rfl
theorem ZwV  : ZF (.top)=(.top):=rfl
theorem ZEF  : ZF (.any)=(.any):=rfl
theorem ZK4 (k:IntKind) (n:Int):ZF (.int k n)=(.int k n):=rfl
theorem ZKr (b:Bool):ZF (.bool b)=(.bool b):=rfl
theorem Zxm (l:List UInt8):ZF (.str l)=(.str l):=rfl
theorem ZG1  : ZF (.nilp)=(.nilp):=rfl
theorem ZKU (t:Nat) (o:Nat):ZF (.ref t o)=(.ref t o):=rfl
theorem ZAL (t:Nat) (g:Nat) (i:Nat) (o:Nat):ZF (.eref t g i o)=(.eref t g i o):=rfl
theorem ZzR (cs:List AVal) (o:Nat):ZF (.iptr cs o)=(.iptr cs o):=rfl
theorem ZCQ (x:Bool) (xs:List AVal):ZF (.lst x xs)=.lst false xs:=rfl
theorem ZEc (t:Nat) (g:Nat) (lo:Nat) (n:Nat):ZF (.sl t g lo n)=(.sl t g lo n):=rfl
theorem Zqs (cs:List AVal):ZF (.agg cs)=.agg (cs.map Za5):=rfl
theorem ZB8 (vs:List AVal):ZF (.tup vs)=(.tup vs):=rfl
theorem Zvq (f:Nat) (caps:List AVal):ZF (.fn f caps)=(.fn f caps):=rfl
theorem ZFf  : ZF (.nilm)=(.nilm):=rfl
theorem Zx0 (t:Nat):ZF (.map t)=(.map t):=rfl
theorem ZxJ  : ZF (.nili)=(.nili):=rfl
theorem ZBU (t:Nat) (x:AVal):ZF (.iface t x)=(.iface t x):=rfl
theorem ZvO (x:AVal):ZF (.pan x)=(.pan x):=rfl
theorem ZL9  : AVal.cells (.top)=[(.top)]:=rfl
theorem ZLq  : AVal.cells (.any)=[(.any)]:=rfl
theorem ZCV (k:IntKind) (n:Int):AVal.cells (.int k n)=[(.int k n)]:=rfl
theorem Zvb (b:Bool):AVal.cells (.bool b)=[(.bool b)]:=rfl
theorem ZvV (l:List UInt8):AVal.cells (.str l)=[(.str l)]:=rfl
theorem Zzf  : AVal.cells (.nilp)=[(.nilp)]:=rfl
theorem ZxI (t:Nat) (o:Nat):AVal.cells (.ref t o)=[(.ref t o)]:=rfl
theorem ZJ0 (t:Nat) (g:Nat) (i:Nat) (o:Nat):AVal.cells (.eref t g i o)=[(.eref t g i o)]:=rfl
theorem Zzw (cs:List AVal) (o:Nat):AVal.cells (.iptr cs o)=[(.iptr cs o)]:=rfl
theorem ZGm (x:Bool) (xs:List AVal):AVal.cells (.lst x xs)=[(.lst x xs)]:=rfl
theorem ZxK (t:Nat) (g:Nat) (lo:Nat) (n:Nat):AVal.cells (.sl t g lo n)=[(.sl t g lo n)]:=rfl
theorem ZJG (cs:List AVal):AVal.cells (.agg cs)=cs:=rfl
theorem Zvk (vs:List AVal):AVal.cells (.tup vs)=[(.tup vs)]:=rfl
theorem ZDm (f:Nat) (caps:List AVal):AVal.cells (.fn f caps)=[(.fn f caps)]:=rfl
theorem ZMN  : AVal.cells (.nilm)=[(.nilm)]:=rfl
theorem ZAi (t:Nat):AVal.cells (.map t)=[(.map t)]:=rfl
theorem ZCY  : AVal.cells (.nili)=[(.nili)]:=rfl
theorem Zv7 (t:Nat) (x:AVal):AVal.cells (.iface t x)=[(.iface t x)]:=rfl
theorem ZCo (x:AVal):AVal.cells (.pan x)=[(.pan x)]:=rfl
theorem Zzn  : ZaP (.top)=(.top):=rfl
theorem Zwd  : ZaP (.any)=(.any):=rfl
theorem ZEl (k:IntKind) (n:Int):ZaP (.int k n)=(.int k n):=rfl
theorem ZHh (b:Bool):ZaP (.bool b)=(.bool b):=rfl
theorem ZIM (l:List UInt8):ZaP (.str l)=(.str l):=rfl
theorem ZCR  : ZaP (.nilp)=(.nilp):=rfl
theorem Zyv (t:Nat) (o:Nat):ZaP (.ref t o)=(.ref t o):=rfl
theorem Zzz (t:Nat) (g:Nat) (i:Nat) (o:Nat):ZaP (.eref t g i o)=(.eref t g i o):=rfl
theorem ZKD (cs:List AVal) (o:Nat):ZaP (.iptr cs o)=(.iptr cs o):=rfl
theorem ZGt (x:Bool) (xs:List AVal):ZaP (.lst x xs)=(.lst x xs):=rfl
theorem ZKw (t:Nat) (g:Nat) (lo:Nat) (n:Nat):ZaP (.sl t g lo n)=(.sl t g lo n):=rfl
theorem ZD2 (cs:List AVal):ZaP (.agg cs)=(.agg cs):=rfl
theorem ZKe (vs:List AVal):ZaP (.tup vs)=(.tup vs):=rfl
theorem ZKb (f:Nat) (caps:List AVal):ZaP (.fn f caps)=(.fn f caps):=rfl
theorem ZIn  : ZaP (.nilm)=(.nilm):=rfl
theorem ZA1 (t:Nat):ZaP (.map t)=(.map t):=rfl
theorem ZK7  : ZaP (.nili)=(.nili):=rfl
theorem ZyF (t:Nat) (x:AVal):ZaP (.iface t x)=(.iface t x):=rfl
theorem ZBo (x:AVal):ZaP (.pan x)=x:=rfl
theorem Zzo  : ZbI (.top)=4:=rfl
theorem ZER  : ZbI (.any)=4:=rfl
theorem ZKG (k:IntKind) (n:Int):ZbI (.int k n)=0:=rfl
theorem ZAZ (b:Bool):ZbI (.bool b)=1:=rfl
theorem ZIG (l:List UInt8):ZbI (.str l)=2:=rfl
theorem ZDQ  : ZbI (.nilp)=4:=rfl
theorem ZHl (t:Nat) (o:Nat):ZbI (.ref t o)=4:=rfl
theorem Zv5 (t:Nat) (g:Nat) (i:Nat) (o:Nat):ZbI (.eref t g i o)=4:=rfl
theorem ZHq (cs:List AVal) (o:Nat):ZbI (.iptr cs o)=4:=rfl
theorem Zya (x:Bool) (xs:List AVal):ZbI (.lst x xs)=4:=rfl
theorem ZMC (t:Nat) (g:Nat) (lo:Nat) (n:Nat):ZbI (.sl t g lo n)=4:=rfl
theorem ZHf (cs:List AVal):ZbI (.agg cs)=4:=rfl
theorem ZvI (vs:List AVal):ZbI (.tup vs)=4:=rfl
theorem ZCX (f:Nat) (caps:List AVal):ZbI (.fn f caps)=4:=rfl
theorem ZKz  : ZbI (.nilm)=4:=rfl
theorem ZFk (t:Nat):ZbI (.map t)=4:=rfl
theorem Zyb  : ZbI (.nili)=4:=rfl
theorem ZBy (t:Nat) (x:AVal):ZbI (.iface t x)=4:=rfl
theorem ZIF (x:AVal):ZbI (.pan x)=4:=rfl
theorem ZCC  : ZW (.top)=[]:=rfl
theorem Zxu  : ZW (.any)=[]:=rfl
theorem Zym (k:IntKind) (n:Int):ZW (.int k n)=[]:=rfl
theorem ZCA (b:Bool):ZW (.bool b)=[]:=rfl
theorem ZJT (l:List UInt8):ZW (.str l)=[]:=rfl
theorem ZAP  : ZW (.nilp)=[]:=rfl
theorem ZDi (t:Nat) (o:Nat):ZW (.ref t o)=[t]:=rfl
theorem ZK0 (t:Nat) (g:Nat) (i:Nat) (o:Nat):ZW (.eref t g i o)=[t]:=rfl
theorem Zzl (cs:List AVal) (o:Nat):ZW (.iptr cs o)=[]:=rfl
theorem ZLn (x:Bool) (xs:List AVal):ZW (.lst x xs)=[]:=rfl
theorem ZKQ (t:Nat) (g:Nat) (lo:Nat) (n:Nat):ZW (.sl t g lo n)=[t]:=rfl
theorem ZyG (cs:List AVal):ZW (.agg cs)=Zr cs:=rfl
theorem Zyg (vs:List AVal):ZW (.tup vs)=Zr vs:=rfl
theorem Zxw (f:Nat) (caps:List AVal):ZW (.fn f caps)=Zr caps:=rfl
theorem ZKS  : ZW (.nilm)=[]:=rfl
theorem ZFE (t:Nat):ZW (.map t)=[t]:=rfl
theorem Zvn  : ZW (.nili)=[]:=rfl
theorem ZFj (t:Nat) (x:AVal):ZW (.iface t x)=ZW x:=rfl
theorem ZEr (x:AVal):ZW (.pan x)=ZW x:=rfl
theorem ZyW  : Zk ρ (.top)=(.top):=rfl
theorem ZMF  : Zk ρ (.any)=(.any):=rfl
theorem ZCf (k:IntKind) (n:Int):Zk ρ (.int k n)=(.int k n):=rfl
theorem ZMc (b:Bool):Zk ρ (.bool b)=(.bool b):=rfl
theorem ZIW (l:List UInt8):Zk ρ (.str l)=(.str l):=rfl
theorem ZMJ  : Zk ρ (.nilp)=(.nilp):=rfl
theorem ZKT (cs:List AVal) (o:Nat):Zk ρ (.iptr cs o)=(.iptr cs o):=rfl
theorem ZGz (x:Bool) (xs:List AVal):Zk ρ (.lst x xs)=(.lst x xs):=rfl
theorem ZxU (cs:List AVal):Zk ρ (.agg cs)=.agg (Ze ρ cs):=rfl
theorem ZCT (vs:List AVal):Zk ρ (.tup vs)=.tup (Ze ρ vs):=rfl
theorem ZJu (f:Nat) (caps:List AVal):Zk ρ (.fn f caps)=.fn f (Ze ρ caps):=rfl
theorem ZF2  : Zk ρ (.nilm)=(.nilm):=rfl
theorem ZA3  : Zk ρ (.nili)=(.nili):=rfl
theorem ZyH (t:Nat) (x:AVal):Zk ρ (.iface t x)=.iface t (Zk ρ x):=rfl
theorem ZJk (x:AVal):Zk ρ (.pan x)=.pan (Zk ρ x):=rfl
theorem Zvh (f:Nat):ZaY (.fn f [])=true:=rfl
theorem ZHB (f:Nat):Z6 (.fn f [])=true:=rfl
theorem ZKj (t:Nat) (x:AVal):Zbw (.pan (.iface t x))=ZaR x:=rfl
theorem ZK6 (live:List Nat) (tm:Tms):Zj9 live (some (tm,σ,none))=some (.normal,keepL live tm,σ):=rfl
theorem ZH5 (live:List Nat) (tm:Tms) (x:AVal):Zj9 live (some (tm,σ,some x))=some (.panic x,[],σ):=rfl
theorem ZzW (live:List Nat):Zj9 live none=none:=rfl
theorem ZEt (t o:Nat):Zk ρ (.ref t o)=(match ρ t 0 with | some (t',0)=>.ref t' o | _=>.any):=rfl
theorem ZFs (t:Nat):Zk ρ (.map t)=(match ρ t 0 with | some (t',0)=>.map t' | _=>.any):=rfl
theorem ZJD (t g lo n:Nat):Zk ρ (.sl t g lo n)=(match ρ t g with | some (t',g')=>.sl t' g' lo n | none=>.any):=rfl
theorem ZA9 (t g i o:Nat):Zk ρ (.eref t g i o)=(match ρ t g with | some (t',g')=>.eref t' g' i o | none=>.any):=rfl
theorem ZBT:Zr []=[]:=rfl
theorem ZBA (x:AVal) (xs:List AVal):Zr (x::xs)=ZW x++Zr xs:=rfl
theorem ZKY:Ze ρ []=[]:=rfl
theorem ZBp (x:AVal) (xs:List AVal):Ze ρ (x::xs)=Zk ρ x::Ze ρ xs:=rfl
end
end Go.Proofs.YtmlkhhidifjjfaaDoor
namespace Go.Proofs.YtmlkhhidifjjfaaDoor
mutual
def ZH:AVal→Bool
 | .ref _ _=>false
 | .eref _ _ _ _=>false
 | .sl _ _ _ _=>false
 | .map _=>false
 | .agg cs=>Zd cs
 | .tup vs=>Zd vs
 | .fn _ vs=>Zd vs
 | .iface _ x=>ZH x
 | .pan x=>ZH x
 | .top=>true
 | .any=>true
 | .int _ _=>true
 | .bool _=>true
 | .str _=>true
 | .nilp=>true
 | .nilm=>true
 | .nili=>true
 | .iptr _ _=>true
 | .lst _ _=>true
def Zd:List AVal→Bool
 | []=>true
 | x::xs=>ZH x && Zd xs
end
mutual
theorem ZaX (ρ:Rho):∀ (x:AVal),ZH x=true→Zk ρ x=x∧ZW x=[]
 | .ref _ _,h=>by simp [ZH] at h
 | .eref _ _ _ _,h=>by simp [ZH] at h
 | .sl _ _ _ _,h=>by simp [ZH] at h
 | .map _,h=>by simp [ZH] at h
 | .agg cs,h=>by have:=ZaN ρ cs (by simpa only [ZH] using h);exact ⟨by simp only [Zk,this.1],by simp only [ZW,this.2]⟩
 | .tup cs,h=>by have:=ZaN ρ cs (by simpa only [ZH] using h);exact ⟨by simp only [Zk,this.1],by simp only [ZW,this.2]⟩
 | .fn f cs,h=>by have:=ZaN ρ cs (by simpa only [ZH] using h);exact ⟨by simp only [Zk,this.1],by simp only [ZW,this.2]⟩
 | .iface t x,h=>by have:=ZaX ρ x (by simpa only [ZH] using h);exact ⟨by simp only [Zk,this.1],by simp only [ZW,this.2]⟩
 | .pan x,h=>by have:=ZaX ρ x (by simpa only [ZH] using h);exact ⟨by simp only [Zk,this.1],by simp only [ZW,this.2]⟩
 | .top,_=>⟨rfl,rfl⟩
 | .any,_=>⟨rfl,rfl⟩
 | .int _ _,_=>⟨rfl,rfl⟩
 | .bool _,_=>⟨rfl,rfl⟩
 | .str _,_=>⟨rfl,rfl⟩
 | .nilp,_=>⟨rfl,rfl⟩
 | .nilm,_=>⟨rfl,rfl⟩
 | .nili,_=>⟨rfl,rfl⟩
 | .iptr _ _,_=>⟨rfl,rfl⟩
 | .lst _ _,_=>⟨rfl,rfl⟩
theorem ZaN (ρ:Rho):∀ (xs:List AVal),Zd xs=true→Ze ρ xs=xs∧Zr xs=[]
 | [],_=>⟨rfl,rfl⟩
 | x::xs,h=>by
  simp only [Zd,Bool.and_eq_true] at h
  have h1:=ZaX ρ x h.1
  have h2:=ZaN ρ xs h.2
  exact ⟨by simp only [Ze,h1.1,h2.1],by simp only [Zr,h1.2,h2.2,List.append_nil]⟩
end
theorem Zq0 {σ:Za} {r:AVal} (h:ZH r=true):Zai 0 σ r=some (r,[]):=by
 have h1:=ZaX (Zl σ 0 []) r h
 have hids:ZB 0 [r] σ=[]:=by
  unfold ZB
  simp only [Zr,h1.2,List.append_nil,List.range_zero,List.flatMap_nil]
  rfl
 unfold Zai gcA
 simp only [hids,Ze,Zw,h1.1]
def Zb4:AVal→AVal
 | .tup vs=>.tup (vs.map ZF)
 | x=>ZF x
def Zb5:AVal→Bool
 | .tup vs=>vs.all Z6
 | x=>Z6 x
def ZbB:AVal→Bool
 | .fn _ _=>false
 | _=>true
def ZbL:AVal→Bool
 | .agg cs=>cs.all ZbB
 | x=>ZbB x
def Zb2:AVal→Bool
 | .tup vs=>vs.all ZbL
 | x=>ZbL x
theorem ZzT {k g n:Nat} {xs:List AVal} {σ:Za} {t:Nat} (hs:σ[t]?=some (.row g k xs)) (hn:n≤xs.length):Zbx 0 (some (.sl t g 0 n,σ))=some (.lst false (xs.take n),[]):=by
 have hv:viewR σ (.sl t g 0 n)=some (.lst false (xs.take n),[t]):=by
  simp only [viewR,ZQ,ZK,Z2,hs,Nat.zero_add,hn,and_self,if_true,List.drop_zero]
 have e:Zbx 0 (some (.sl t g 0 n,σ))=(match viewR σ (.sl t g 0 n) with
  | some (r',ts)=>match gcA 0 [r'] (Zp σ ts) with
   | ([r''],σ')=>some (r'',σ')
   | _=>none
  | none=>none):=rfl
 rw [e,hv]
 exact Zq0 rfl
theorem Zxl {m:Nat} {fn:ZD} {tm:Tms} {σ:Za}:Zaq m fn (some (.ret,tm,σ))=match resA tm σ fn.res with
  | some r=>Zai m σ r
  | none=>none:=rfl
theorem Zwa {m:Nat} {fn:ZD} {tm:Tms} {σ:Za}:Zaq m fn (some (.normal,tm,σ))=match resA tm σ fn.res with
  | some r=>Zai m σ r
  | none=>none:=rfl
theorem ZHM {m:Nat} {fn:ZD} {tm:Tms} {σ:Za} {x:AVal}:Zaq m fn (some (.panic x,tm,σ))=Zai m σ (.pan x):=rfl
theorem ZKN  : ZH (.top)=true:=rfl
theorem ZBn  : ZH (.any)=true:=rfl
theorem ZF8 (k:IntKind) (n:Int):ZH (.int k n)=true:=rfl
theorem Zz9 (b:Bool):ZH (.bool b)=true:=rfl
theorem ZJp (l:List UInt8):ZH (.str l)=true:=rfl
theorem ZCa  : ZH (.nilp)=true:=rfl
theorem ZHx (t:Nat) (o:Nat):ZH (.ref t o)=false:=rfl
theorem ZMx (t:Nat) (g:Nat) (i:Nat) (o:Nat):ZH (.eref t g i o)=false:=rfl
theorem ZDz (cs:List AVal) (o:Nat):ZH (.iptr cs o)=true:=rfl
theorem ZMy (x:Bool) (xs:List AVal):ZH (.lst x xs)=true:=rfl
theorem ZDH (t:Nat) (g:Nat) (lo:Nat) (n:Nat):ZH (.sl t g lo n)=false:=rfl
theorem ZGV (cs:List AVal):ZH (.agg cs)=Zd cs:=rfl
theorem ZEQ (vs:List AVal):ZH (.tup vs)=Zd vs:=rfl
theorem Zxs (f:Nat) (caps:List AVal):ZH (.fn f caps)=Zd caps:=rfl
theorem ZvP  : ZH (.nilm)=true:=rfl
theorem ZwW (t:Nat):ZH (.map t)=false:=rfl
theorem ZKi  : ZH (.nili)=true:=rfl
theorem ZIa (t:Nat) (x:AVal):ZH (.iface t x)=ZH x:=rfl
theorem ZMW (x:AVal):ZH (.pan x)=ZH x:=rfl
theorem ZKA  : ZbB (.top)=true:=rfl
theorem Zxp  : ZbB (.any)=true:=rfl
theorem ZHs (k:IntKind) (n:Int):ZbB (.int k n)=true:=rfl
theorem ZxZ (b:Bool):ZbB (.bool b)=true:=rfl
theorem ZGR (l:List UInt8):ZbB (.str l)=true:=rfl
theorem ZG8  : ZbB (.nilp)=true:=rfl
theorem ZBC (t:Nat) (o:Nat):ZbB (.ref t o)=true:=rfl
theorem ZIC (t:Nat) (g:Nat) (i:Nat) (o:Nat):ZbB (.eref t g i o)=true:=rfl
theorem ZIA (cs:List AVal) (o:Nat):ZbB (.iptr cs o)=true:=rfl
theorem ZC3 (x:Bool) (xs:List AVal):ZbB (.lst x xs)=true:=rfl
theorem ZHO (t:Nat) (g:Nat) (lo:Nat) (n:Nat):ZbB (.sl t g lo n)=true:=rfl
theorem ZIK (cs:List AVal):ZbB (.agg cs)=true:=rfl
theorem ZLT (vs:List AVal):ZbB (.tup vs)=true:=rfl
theorem ZEh (f:Nat) (caps:List AVal):ZbB (.fn f caps)=false:=rfl
theorem ZAu  : ZbB (.nilm)=true:=rfl
theorem ZL7 (t:Nat):ZbB (.map t)=true:=rfl
theorem ZGb  : ZbB (.nili)=true:=rfl
theorem ZBt (t:Nat) (x:AVal):ZbB (.iface t x)=true:=rfl
theorem ZKO (x:AVal):ZbB (.pan x)=true:=rfl
theorem ZA5  : ZbL (.top)=true:=rfl
theorem ZFO  : ZbL (.any)=true:=rfl
theorem ZCU (k:IntKind) (n:Int):ZbL (.int k n)=true:=rfl
theorem ZDs (b:Bool):ZbL (.bool b)=true:=rfl
theorem ZCl (l:List UInt8):ZbL (.str l)=true:=rfl
theorem ZHo  : ZbL (.nilp)=true:=rfl
theorem ZJO (t:Nat) (o:Nat):ZbL (.ref t o)=true:=rfl
theorem ZMG (t:Nat) (g:Nat) (i:Nat) (o:Nat):ZbL (.eref t g i o)=true:=rfl
theorem ZKf (cs:List AVal) (o:Nat):ZbL (.iptr cs o)=true:=rfl
theorem ZGa (x:Bool) (xs:List AVal):ZbL (.lst x xs)=true:=rfl
theorem ZAn (t:Nat) (g:Nat) (lo:Nat) (n:Nat):ZbL (.sl t g lo n)=true:=rfl
theorem ZIQ (cs:List AVal):ZbL (.agg cs)=cs.all ZbB:=rfl
theorem Zw7 (vs:List AVal):ZbL (.tup vs)=true:=rfl
theorem ZAq (f:Nat) (caps:List AVal):ZbL (.fn f caps)=false:=rfl
theorem ZL3  : ZbL (.nilm)=true:=rfl
theorem ZFP (t:Nat):ZbL (.map t)=true:=rfl
theorem ZJ1  : ZbL (.nili)=true:=rfl
theorem Zyj (t:Nat) (x:AVal):ZbL (.iface t x)=true:=rfl
theorem ZEI (x:AVal):ZbL (.pan x)=true:=rfl
theorem Zz0  : Zb2 (.top)=true:=rfl
theorem ZGU  : Zb2 (.any)=true:=rfl
theorem ZDM (k:IntKind) (n:Int):Zb2 (.int k n)=true:=rfl
theorem ZDF (b:Bool):Zb2 (.bool b)=true:=rfl
theorem Zzh (l:List UInt8):Zb2 (.str l)=true:=rfl
theorem ZIc  : Zb2 (.nilp)=true:=rfl
theorem ZCr (t:Nat) (o:Nat):Zb2 (.ref t o)=true:=rfl
theorem Zwl (t:Nat) (g:Nat) (i:Nat) (o:Nat):Zb2 (.eref t g i o)=true:=rfl
theorem ZDt (cs:List AVal) (o:Nat):Zb2 (.iptr cs o)=true:=rfl
theorem ZJa (x:Bool) (xs:List AVal):Zb2 (.lst x xs)=true:=rfl
theorem ZFg (t:Nat) (g:Nat) (lo:Nat) (n:Nat):Zb2 (.sl t g lo n)=true:=rfl
theorem ZEZ (cs:List AVal):Zb2 (.agg cs)=cs.all ZbB:=rfl
theorem ZAF (vs:List AVal):Zb2 (.tup vs)=vs.all ZbL:=rfl
theorem ZzS (f:Nat) (caps:List AVal):Zb2 (.fn f caps)=false:=rfl
theorem ZMh  : Zb2 (.nilm)=true:=rfl
theorem ZAr (t:Nat):Zb2 (.map t)=true:=rfl
theorem Zwu  : Zb2 (.nili)=true:=rfl
theorem ZvN (t:Nat) (x:AVal):Zb2 (.iface t x)=true:=rfl
theorem Zzm (x:AVal):Zb2 (.pan x)=true:=rfl
theorem ZGL  : Zb5 (.top)=false:=rfl
theorem ZMK  : Zb5 (.any)=false:=rfl
theorem ZHQ (k:IntKind) (n:Int):Zb5 (.int k n)=true:=rfl
theorem ZLR (b:Bool):Zb5 (.bool b)=true:=rfl
theorem ZK1 (l:List UInt8):Zb5 (.str l)=true:=rfl
theorem Zyw  : Zb5 (.nilp)=true:=rfl
theorem ZwI (t:Nat) (o:Nat):Zb5 (.ref t o)=false:=rfl
theorem ZHj (t:Nat) (g:Nat) (i:Nat) (o:Nat):Zb5 (.eref t g i o)=false:=rfl
theorem ZHd (cs:List AVal) (o:Nat):Zb5 (.iptr cs o)=false:=rfl
theorem Zwg (x:Bool) (xs:List AVal):Zb5 (.lst x xs)=true:=rfl
theorem ZKq (t:Nat) (g:Nat) (lo:Nat) (n:Nat):Zb5 (.sl t g lo n)=false:=rfl
theorem Zyk (cs:List AVal):Zb5 (.agg cs)=cs.all ZaY:=rfl
theorem ZvD (vs:List AVal):Zb5 (.tup vs)=vs.all Z6:=rfl
theorem ZAT  : Zb5 (.nilm)=true:=rfl
theorem ZwY (t:Nat):Zb5 (.map t)=false:=rfl
theorem ZyV  : Zb5 (.nili)=true:=rfl
theorem ZDc (t:Nat) (x:AVal):Zb5 (.iface t x)=false:=rfl
theorem ZIv (x:AVal):Zb5 (.pan x)=false:=rfl
theorem ZDU  : Zb4 (.top)=(.top):=rfl
theorem ZIT  : Zb4 (.any)=(.any):=rfl
theorem ZJm (k:IntKind) (n:Int):Zb4 (.int k n)=(.int k n):=rfl
theorem ZFl (b:Bool):Zb4 (.bool b)=(.bool b):=rfl
theorem ZAD (l:List UInt8):Zb4 (.str l)=(.str l):=rfl
theorem ZI7  : Zb4 (.nilp)=(.nilp):=rfl
theorem ZE1 (t:Nat) (o:Nat):Zb4 (.ref t o)=(.ref t o):=rfl
theorem ZIf (t:Nat) (g:Nat) (i:Nat) (o:Nat):Zb4 (.eref t g i o)=(.eref t g i o):=rfl
theorem ZzF (cs:List AVal) (o:Nat):Zb4 (.iptr cs o)=(.iptr cs o):=rfl
theorem ZAS (x:Bool) (xs:List AVal):Zb4 (.lst x xs)=.lst false xs:=rfl
theorem ZAU (t:Nat) (g:Nat) (lo:Nat) (n:Nat):Zb4 (.sl t g lo n)=(.sl t g lo n):=rfl
theorem ZCt (cs:List AVal):Zb4 (.agg cs)=.agg (cs.map Za5):=rfl
theorem ZIm (vs:List AVal):Zb4 (.tup vs)=.tup (vs.map ZF):=rfl
theorem ZEd (f:Nat) (caps:List AVal):Zb4 (.fn f caps)=(.fn f caps):=rfl
theorem ZHH  : Zb4 (.nilm)=(.nilm):=rfl
theorem Zy3 (t:Nat):Zb4 (.map t)=(.map t):=rfl
theorem Zw6  : Zb4 (.nili)=(.nili):=rfl
theorem ZBF (t:Nat) (x:AVal):Zb4 (.iface t x)=(.iface t x):=rfl
theorem ZC1 (x:AVal):Zb4 (.pan x)=(.pan x):=rfl
theorem ZF0:Zd []=true:=rfl
theorem ZAv (x:AVal) (xs:List AVal):Zd (x::xs)=(ZH x && Zd xs):=rfl
theorem ZAg (f:Nat):Zb5 (.fn f [])=true:=rfl
theorem ZvB (p q:Bool):(if p=true then q else false)=(p && q):=by cases p <;> rfl
theorem ZFb (p q:Bool):(if p=true then true else q)=(p || q):=by cases p <;> rfl
theorem ZLg (p q:Bool):(if p=true then false else q)=(!p && q):=by cases p <;> rfl
theorem Zu7 (p q:Bool):(if p=true then q else true)=(!p || q):=by cases p <;> rfl
theorem ZJA (p q:Bool):(if p=false then q else false)=(!p && q):=by cases p <;> rfl
theorem ZGI (p q:Bool):(if p=false then true else q)=(!p || q):=by cases p <;> rfl
theorem ZMp (p q:Bool):(if p=false then false else q)=(p && q):=by cases p <;> rfl
theorem ZDK (p q:Bool):(if p=false then q else true)=(p || q):=by cases p <;> rfl
section
def Zd9 (o:AOp):AOp:=⟨o.dst,o.ins,o.guard,[]⟩
def Zcq:Zf→Zf
 | .region ops chk live=>.region (ops.map Zd9) chk live
 | .seq a b=>.seq (Zcq a) (Zcq b)
 | .cond c a b=>.cond c (Zcq a) (Zcq b)
 | .block id c=>.block id (Zcq c)
 | .loop live c=>.loop live (Zcq c)
 | .skip=>.skip
 | .exit id=>.exit id
 | .ret=>.ret
 | .stuck=>.stuck
def ZjZ (f:ZD):ZD:=⟨f.res,Zcq f.body⟩
section
variable {O:ZO} {byref:Nat→Bool}
theorem Zwr (o:AOp) (s:Nat) (tm:Tms) (σ:Za):ZP O byref (Zd9 o) s tm σ=ZP O byref o s tm σ:=rfl
theorem Zrp:∀ (ops:List AOp) (s:Nat) (tm:Tms) (σ:Za),ZT O byref (ops.map Zd9) s tm σ=ZT O byref ops s tm σ
 | [],_,_,_=>rfl
 | o::os,s,tm,σ=>by
  simp only [List.map_cons,ZT,Zwr]
  split
  ·rfl
  ·rfl
  ·rename_i tm' σ' c _ _
   rw [show (Zd9 o).ins=o.ins from rfl,Zrp os]
theorem ZmV (ops:List AOp):sitesOf (ops.map Zd9)=sitesOf ops:=by
 simp [sitesOf,Zd9,Function.comp_def]
theorem Zj2 (ops:List AOp) (i:Nat):((ops.map Zd9).getD i default).ins=(ops.getD i default).ins:=by
 simp only [List.getD_eq_getElem?_getD,List.getElem?_map]
 cases ops[i]? <;> rfl
theorem ZJj (ops:List AOp) (b:Nat) (l:List (Nat×Nat)) (cs:List Cls):Zc5 (ops.map Zd9) b l cs=Zc5 ops b l cs:=by
 unfold Zc5
 congr 1
 funext p
 unfold Zce Zb3
 rw [Zj2,Zj2,←List.map_take,ZmV]
theorem ZMf (ops:List AOp) (b:Nat) (l:List (Nat×Nat)) (cs:List Cls):Zda (ops.map Zd9) b l cs=Zda ops b l cs:=by
 unfold Zda
 congr 2
 funext p
 unfold Zce Zb3
 rw [Zj2,Zj2,←List.map_take,ZmV]
theorem Zy6 (ops:List AOp) (chk:Option (List (Nat×Nat))) (live:List Nat) (tm:Tms) (σ:Za):ZbP O byref (ops.map Zd9) chk live tm σ=ZbP O byref ops chk live tm σ:=by
 unfold ZbP
 rw [Zrp,ZmV]
 cases ZT O byref ops σ.length tm (σ++List.replicate (sitesOf ops) .free) with
 | none=>rfl
 | some q =>
  obtain ⟨tm',σ',cs,p⟩:=q
  cases p with
  | some x =>
   cases chk with
   | none=>rfl
   | some l=>simp only [Zcs,ZMf]
  | none =>
   cases chk with
   | none=>rfl
   | some l=>simp only [Zcs,ZJj]
theorem ZdY (m n:Nat):∀ (c:Zf),ZZ O byref m n (Zcq c)=ZZ O byref m n c
 | .region ops chk live=>by funext tm σ;simp only [Zcq,ZZ,Zy6]
 | .seq a b=>by funext tm σ;simp only [Zcq,ZZ,ZdY m n a,ZdY m n b]
 | .cond c a b=>by funext tm σ;simp only [Zcq,ZZ,ZdY m n a,ZdY m n b]
 | .block id c=>by funext tm σ;simp only [Zcq,ZZ,ZdY m n c]
 | .loop live c=>by funext tm σ;simp only [Zcq,ZZ,ZdY m n c]
 | .skip=>rfl
 | .exit id=>rfl
 | .ret=>rfl
 | .stuck=>rfl
end
theorem Znr (fs:Nat→Option ZD) (prim:Zcc) (byref:Nat→Bool):∀ n,Zas (fun f=>(fs f).map ZjZ) prim byref n=Zas fs prim byref n
 | 0=>rfl
 | n+1=>by
  funext f args σ
  simp only [Zas,Znr fs prim byref n]
  cases prim f with
  | some g=>rfl
  | none =>
   cases fs f with
   | none=>rfl
   | some fn =>
    simp only [Option.map_some,ZjZ,ZdY]
    rfl
theorem ZGx (fs:Nat→Option ZD) (prim:Zcc) (byref:Nat→Bool):EV (fun f=>(fs f).map ZjZ) prim byref=EV fs prim byref:=by
 funext f args σ
 apply ZeG
 intro r
 rw [Zdq,Zdq]
 simp only [Znr]
end
end Go.Proofs.YtmlkhhidifjjfaaDoor
namespace Go.Proofs.YtmlkhhidifjjfaaDoor
open Go.RowKit
def ZiP:List AVal→Za→Option (AVal×Za):=fun _ _=>none
theorem ZsR {α:Prop} {args:List AVal} {σ:Za} {r:AVal×Za} (h:ZiP args σ=some r):α:=by cases h
def ZgQ (k bytes:Nat) (args:List AVal) (σ:Za):Option (AVal×Za):=match args with
 | [.str _]=>none
 | [a]=>match Z2 σ a with
  | some (xs,_)=>if xs.length*bytes≤140737488355328∧kOk k xs=true then some (.sl σ.length 0 0 xs.length,σ++[.row 0 k xs]) else none
  | none=>none
 | _=>none
def Zep:Ann:={ nt:=8,lr:=fun _=>[7,6,5,4,3,2,0] }
structure Zof (P:Program) (t:TypeId) (k bytes:Nat) (z:AVal) (f:FuncId):Prop where
 ex:∃ (F:Func) (e:TypeId) (i0 i1 i2 i3:Nat) (r0 r2 r3:Array Oper) (m b:Oper),
  P.funcs[f]?=some F∧F.results=#[.tmp 2]∧F.ntmps=8∧(F.name == "runtime.NumGoroutine")=false∧P.underlying t=some (.slice e) ∧
  F.body=some (.seq (.region i0 r0 false) (.seq (.seq (.region i1 #[m,b] false) (.cond (.tmp 4) (.seq (.region i2 r2 false) .ret) .skip)) (.seq (.region i3 r3 false) .ret))) ∧
  m.op=.move (.tmp 0)∧m.dst=some 3∧m.guard=none∧b.op=.binOp .eql t (.tmp 3) (.const (.slice none 0 0)) t∧b.dst=some 4∧b.guard=none ∧
  ZcU P Zep r0 r0.toList=some [⟨some 2,.mov (.c (.lst true [])),none,[]⟩] ∧
  ZcU P Zep r2 r2.toList=some [⟨some 2,.mov (.c (.lst true [])),none,[]⟩] ∧
  (∃ a1 a2 a3 a4,ZcU P Zep r3 r3.toList=some [⟨some 5,.bslice false k 0 z [],none,a1⟩,⟨some 6,.mov (.t 0),none,a2⟩,⟨some 7,.app k bytes z (.t 5) (.t 6),none,a3⟩,⟨some 2,.mov (.t 7),none,a4⟩])∧z.cells.length=k∧0 < k
section
variable {P:Program} {base:Nat→Prop} {w0 w w':World} {I0 I:Imm} {β:Bmap} {σ:Za}
theorem noO:ZaH P (fun _ _ _=>none):=by intro f args σ r σ' h;cases h
theorem Zen {ops:Array Oper} {Q:Exit→Act→World→Prop} {o:Oper} {l:List Oper} {a:Act} {w:World} (hg:o.guard=none) (h:o.wp P a w (wpList P ops Q l) Q):wpList P ops Q (o::l) a w:=by
 unfold wpList
 have : Region.wanted o (yielded ops a.tmps)=true:=by unfold Region.wanted;rw [hg]
 rw [this]
 simp only [if_true]
 exact Or.inl h
theorem Zqj {t : TypeId} {k bytes : Nat} {z : AVal} {f : FuncId} (hm : P.follows .mixedOrders = true) (C : Zof P t k bytes z f) {args : List AVal} {σ σ' : Za} {r : AVal} (h : ZgQ k bytes args σ = some (r, σ')) :
    (∃ fn, P.funcs[f]? = some fn ∧ fn.body.isSome = true ∧ (fn.name == "runtime.NumGoroutine") = false) ∧
    ∀ base w0 I0 I β w (vs : Array Value), KLt base w0 → Rel base w0 I0 I β σ w → VRs I β args vs.toList →
      Calls P f vs w (fun e w' => ∃ u, Ends r e u ∧ ZbR σ.length base w0 I0 I β r σ' u w') := by
  obtain ⟨F, e, i0, i1, i2, i3, r0, r2, r3, m, b, hF, hres, hnt, hname, hu, hbody, hm1, hm2, hm3, hb1, hb2, hb3, hc0, hc2, ⟨a1, a2, a3, a4, hc3⟩, hzk, hk0⟩ := C.ex
  refine ⟨⟨F, hF, by rw [hbody]; rfl, hname⟩, ?_⟩
  intro base w0 I0 I β w vs hb R hargs
  unfold ZgQ at h
  split at h
  case h_1 => cases h
  case h_3 => cases h
  rename_i a hns
  split at h
  case h_2 => cases h
  rename_i xs ts hel0
  split at h
  case isFalse => cases h
  rename_i hc
  obtain ⟨hbytes, hkOk⟩ := hc
  simp only [Option.some.injEq, Prod.mk.injEq] at h
  obtain ⟨rfl, rfl⟩ := h
  have hnt8 : ∀ (n : Nat), n < 8 → n < Zep.nt := fun n h => h
  refine calls_of_wp hF hbody ?_
  have hsz : vs.size = 1 := by have := ZaQ hargs; simpa using this.symm
  have T := Zmj hargs (F.ntmps - vs.size)
  have hst : StR ZbD 8 base w0 I0 I β (enterA 0 [a] []) σ { tmps := vs ++ Array.replicate (F.ntmps - vs.size) undef, defers := [] } w := ⟨I, β, Imm.le.refl I, Bmap.le.refl β, T, ⟨ZeR.2 rfl, by simp; omega⟩, R⟩
  have fin : ∀ {tm : Tms} {σ1 : Za} {y : AVal} {a' : Act} {w1 : World}, StR ZbD 8 base w0 I0 I β tm σ1 a' w1 → tget tm 2 = y → (∀ I' β' u, I.le I' → β.le β' → Rel base w0 I0 I' β' σ1 w1 → VR I' β' y u → ZbR σ.length base w0 I0 I β (.sl σ.length 0 0 xs.length) (σ ++ [.row 0 k xs]) u w1) →
      a'.defers = [] ∧ ∃ v, (results F a'.tmps).run P w1 = .ok v w1 ∧ ∃ u, Ends (.sl σ.length 0 0 xs.length) (.returned v) u ∧ ZbR σ.length base w0 I0 I β (.sl σ.length 0 0 xs.length) (σ ++ [.row 0 k xs]) u w1 := by
    rintro tm σ1 y a' w1 ⟨I', β', h1, h2, h3, h4, h5⟩ hy hpost
    refine ⟨ZeR.1 h4.1, a'.tmps.getD 2 undef, by simp [results, hres], _, rfl, ?_⟩
    have := h3 2
    rw [hy] at this
    exact hpost I' β' _ h1 h2 h5 this
  have R0 : ZaM P Zep (.region i0 r0 false) = .region [⟨some 2, .mov (.c (.lst true [])), none, []⟩] none [7, 6, 5, 4, 3, 2, 0] := by simp only [ZaM]; rw [hc0]; rfl
  have R2 : ZaM P Zep (.region i2 r2 false) = .region [⟨some 2, .mov (.c (.lst true [])), none, []⟩] none [7, 6, 5, 4, 3, 2, 0] := by simp only [ZaM]; rw [hc2]; rfl
  have R3 : ZaM P Zep (.region i3 r3 false) = .region [⟨some 5, .bslice false k 0 z [], none, a1⟩, ⟨some 6, .mov (.t 0), none, a2⟩, ⟨some 7, .app k bytes z (.t 5) (.t 6), none, a3⟩, ⟨some 2, .mov (.t 7), none, a4⟩] none [7, 6, 5, 4, 3, 2, 0] := by simp only [ZaM]; rw [hc3]; rfl
  refine wp_seq ?_
  refine Zkc (an := Zep) (dr := ZbD) (byref := fun _ => false) noO (fun n hn => by simp [ZbD] at hn) hm hb R0 hst (e := .normal) (tm' := keepL [7, 6, 5, 4, 3, 2, 0] [(2, .lst true []), (0, a)]) (σ' := σ) ?_ ?_
  · simp [ZbP, Zcs, sitesOf, nsite, ZT, ZP, Zbn, execI, Opd.ev, tput, tins, enterA]
  intro a1' w1 hst1
  simp only [Exit.then]
  refine wp_seq (wp_seq ?_)
  refine wp_region_list ?_
  refine Zen hm3 ?_
  obtain ⟨I1, β1, g1, g2, g3, g4, g5⟩ := hst1
  have hs8 : 8 ≤ a1'.tmps.size := g4.2
  have hT0 : VR I1 β1 a (a1'.tmps.getD 0 undef) := by have := g3 0; simpa [keepL, tget] using this
  obtain ⟨A, cap, hv0, q1, q2, q5, q4⟩ := ZoA g5 (fun l e => hns l e) hel0 hT0
  show m.wp P a1' w1 _ _
  unfold Oper.wp
  have e1 : (execOp a1'.eval m).run P w1 = .ok (.value (.slice A xs.length cap)) w1 := by
    unfold execOp; rw [hm1]; simp [Act.eval, hv0]
  rw [e1, Oper.upon_value, hm2]
  refine Zen hb3 ?_
  unfold Oper.wp
  have hs3 : (a1'.put (some 3) (.slice A xs.length cap)).tmps.getD 3 undef = .slice A xs.length cap := by
    have : 3 < a1'.tmps.size := by omega
    simp [Act.put, Array.getD, this]
  have e2 : (execOp (a1'.put (some 3) (.slice A xs.length cap)).eval b).run P w1 = .ok (.value (.bool A.isNone)) w1 := by
    have hq : (Op.equal t (.slice A xs.length cap) (.slice none 0 0)).run P w1 = .ok A.isNone w1 := run_equal_slice_nil w1 t e A xs.length cap hu
    unfold execOp; rw [hb1]
    simp only [Act.eval]
    rw [hs3]
    simp [eqGuard, binOp, hq]
  rw [e2, Oper.upon_value, hb2]
  refine wpList_nil ?_
  have hst2 : StR ZbD 8 base w0 I0 I β [(4, .bool A.isNone), (2, .lst true []), (0, a)] σ ((a1'.put (some 3) (.slice A xs.length cap)).put (some 4) (.bool A.isNone)) w1 := by
    refine ⟨I1, β1, g1, g2, fun n => ?_, ⟨Zjc (Zjc g4.1 (fun n _ hm => by simp [ZbD] at hm)) (fun n _ hm => by simp [ZbD] at hm), by rw [Zem, Zem]; exact g4.2⟩, g5⟩
    have hs : 4 < (a1'.put (some 3) (.slice A xs.length cap)).tmps.size := by rw [Zem]; omega
    have ne : ∀ {a : Act} {d j : Nat} {u : Value}, d ≠ j → (a.put (some d) u).tmps.getD j undef = a.tmps.getD j undef := by
      intro a d j u hne
      simp only [Act.put, Array.getD_eq_getD_getElem?]; rw [Array.getElem?_setIfInBounds_ne hne]
    simp only [tget]
    split
    · rename_i e; subst e
      rw [show ((a1'.put (some 3) (.slice A xs.length cap)).put (some 4) (.bool A.isNone)).tmps.getD 4 undef = .bool A.isNone by
        simp only [Act.put] at hs ⊢
        simp [Array.getD] at hs ⊢
        omega]
      simp only [VR]
    · split
      · rename_i e; subst e
        rw [ne (by omega), ne (by omega)]
        have := g3 2; simpa [keepL, tget] using this
      · split
        · rename_i e; subst e
          rw [ne (by omega), ne (by omega)]
          have := g3 0; simpa [keepL, tget] using this
        · simp only [VR]
  simp only [Exit.then]
  cases hA : A.isNone with
  | true =>
    have hx0 : xs = [] := by
      rcases q4 with h | ⟨b, off, k', us, e, _⟩
      · exact h
      · rw [e] at hA; cases hA
    subst hx0
    have hev : ((a1'.put (some 3) (.slice A 0 cap)).put (some 4) (.bool A.isNone)).eval (.tmp 4) = .bool true := by
      obtain ⟨_, _, _, _, T, _, _⟩ := hst2
      have := T 4
      simp only [tget, if_true, VR] at this
      rw [hA] at this
      simpa [Act.eval, hA] using this
    refine wp_cond_true (by simpa [hA] using hev) ?_
    refine wp_seq ?_
    rw [hA] at hst2
    refine Zkc (an := Zep) (dr := ZbD) (byref := fun _ => false) noO (fun n hn => by simp [ZbD] at hn) hm hb R2 hst2 (e := .normal) (tm' := keepL [7, 6, 5, 4, 3, 2, 0] [(4, .bool true), (2, .lst true []), (0, a)]) (σ' := σ) ?_ ?_
    · simp [ZbP, Zcs, sitesOf, nsite, ZT, ZP, Zbn, execI, Opd.ev, tput, tins]
    intro a3' w3 hst3
    simp only [Exit.then]
    refine wp_ret ?_
    refine fin hst3 (y := .lst true []) (by simp [keepL, tget]) ?_
    intro I' β' u h1 h2 h3 h4
    simp only [VR] at h4
    obtain ⟨A', cap', rfl, _, _, hx, _⟩ := h4
    have hcap : cap' = 0 := by simpa using hx
    subst hcap
    have R4 := h3.reserve 1
    have hfree : (σ ++ List.replicate 1 ZJ.free)[σ.length]? = some .free := by simp
    obtain ⟨R5, hle⟩ := R4.newNone hfree k hk0
    refine ⟨I', _, h1, KeptE.of_le (h2.trans hle), ?_, ?_⟩
    · have : (σ ++ List.replicate 1 ZJ.free).set σ.length (.row 0 k []) = σ ++ [.row 0 k []] := by simp
      rw [this] at R5; exact R5
    · simp only [ZaP]
      rw [ZbX]
      exact ⟨_, Bmap.put_same β' σ.length 0 _, by simp, by simp, Or.inr ⟨rfl, rfl, A', rfl⟩⟩
  | false =>
    have hev : ((a1'.put (some 3) (.slice A xs.length cap)).put (some 4) (.bool A.isNone)).eval (.tmp 4) = .bool false := by
      obtain ⟨_, _, _, _, T, _, _⟩ := hst2
      have := T 4
      simp only [tget, if_true, VR] at this
      rw [hA] at this
      simpa [Act.eval, hA] using this
    refine wp_cond_false (by simpa [hA] using hev) ?_
    refine wp_skip ?_
    rw [hA] at hst2
    simp only [Exit.then]
    refine wp_seq ?_
    have hel : Z2 (σ ++ [ZJ.free]) a = some (xs, ts) := Zgh hel0 (fun t ht => by
      obtain ⟨g, k, ys, h | h⟩ := ZjS hel0 t ht <;> (rw [List.getElem?_append_left (List.getElem?_eq_some_iff.1 h).1]))
    refine Zkc (an := Zep) (dr := ZbD) (byref := fun _ => false) noO (fun n hn => by simp [ZbD] at hn) hm hb R3 hst2 (e := .normal) (tm' := keepL [7, 6, 5, 4, 3, 2, 0] [(7, .sl σ.length 0 0 xs.length), (6, a), (5, .lst true []), (4, .bool false), (2, .sl σ.length 0 0 xs.length), (0, a)]) (σ' := σ ++ [.row 0 k xs]) ?_ ?_
    · have hfa : freeAt (σ ++ [ZJ.free]) σ.length = true := by simp [freeAt]
      have hnp : (∃ x ys, a = .lst x ys) ∨ ∃ t g lo n, a = .sl t g lo n := by
        cases a with
        | lst x ys => exact Or.inl ⟨x, ys, rfl⟩
        | sl t g lo n => exact Or.inr ⟨t, g, lo, n, rfl⟩
        | str l => exact absurd rfl (hns l)
        | _ => simp [Z2] at hel0
      rcases hnp with ⟨x, ys, rfl⟩ | ⟨t', g', lo, n, rfl⟩
      · simp [ZbP, Zcs, sitesOf, nsite, ZT, ZP, Zbn, execI, Opd.ev, tput, tins, tget, viewAs, Zp, hzk, Zbe, hel, hkOk, hbytes, hfa]
      · simp [ZbP, Zcs, sitesOf, nsite, ZT, ZP, Zbn, execI, Opd.ev, tput, tins, tget, viewAs, Zp, hzk, Zbe, hel, hkOk, hbytes, hfa]
    intro a3' w3 hst3
    simp only [Exit.then]
    refine wp_ret ?_
    refine fin hst3 (y := .sl σ.length 0 0 xs.length) (by simp [keepL, tget]) ?_
    intro I' β' u h1 h2 h3 h4
    exact ⟨I', β', h1, KeptE.of_le h2, h3, h4⟩
end
end Go.Proofs.YtmlkhhidifjjfaaDoor
namespace Go.Proofs.YtmlkhhidifjjfaaDoor
open Go.RowKit
def ZpE (args:List AVal) (σ:Za):Option (AVal×Za):=match args with
 | [.str l]=>some (.bool (Lib.validD l),σ)
 | _=>none
section
variable {P:Program} {base:Nat→Prop} {w0 w w':World} {I0 I:Imm} {β:Bmap} {σ:Za}
theorem Zye {f:Nat} (hf:∃ fn,P.funcs[f]?=some fn∧fn.body.isSome=true∧(fn.name == "runtime.NumGoroutine")=false) {args:List AVal} {r:AVal} {u:Value} (hn:∀ x,r≠.pan x) (hr:∀ I β,VR I β r u)
  (h:∀ base w0 I0 I β w (vs:Array Value),Rel base w0 I0 I β σ w→VRs I β args vs.toList→Calls P f vs w (fun e w'=>e=.returned u∧Below w.heap.size w w')) :
  (∃ fn,P.funcs[f]?=some fn∧fn.body.isSome=true∧(fn.name == "runtime.NumGoroutine")=false) ∧
  ∀ base w0 I0 I β w (vs:Array Value),KLt base w0→Rel base w0 I0 I β σ w→VRs I β args vs.toList →
   Calls P f vs w (fun e w'=>∃ u,Ends r e u∧ZbR σ.length base w0 I0 I β r σ u w'):=by
 refine ⟨hf,fun base w0 I0 I β w vs hb R hv=>(h base w0 I0 I β w vs R hv).mono ?_⟩
 rintro e w' ⟨rfl,hB⟩
 have hbw:=R.base_le hb
 refine ⟨u,?_,I,β,Imm.le.refl I,KeptE.refl _ β,R.stay (Imm.le.refl I) ⟨hB.os,hB.tape,hB.output,hB.size,fun k hk=>hB.block k (hbw k hk)⟩ (fun _ _ _=>rfl) ?_ ?_,by rw [Zff hn];exact hr I β⟩
 ·cases r <;> first | rfl | exact absurd rfl (hn _)
 ·intro b o x hx
  have h1:=R.imm b o x hx
  have hlt:=ZdI h1
  rw [←h1]
  simp only [World.cell?,hB.block b hlt]
 ·intro t x b hx hb'
  exact ⟨hB.block b ((R.blk t x hx).owns_lt hb'),(R.own t x b hx hb').2⟩
theorem ZBG (R:Rel base w0 I0 I β σ w):Lib.Utf8Tabs 0 1 w:=by
 refine ⟨fun c hc=>R.imm _ _ _ (R.glob _ _ _ (by simp [Gl,hc])),fun i hi=>⟨R.imm _ _ _ (R.glob _ _ _ ?_),R.imm _ _ _ (R.glob _ _ _ ?_)⟩⟩
 ·have h1:2*i < 32:=by omega
  have h2:2*i % 2=0:=by omega
  have h3:2*i / 2=i:=by omega
  simp [Gl,h1,h3]
 ·have h1:2*i+1 < 32:=by omega
  have h2:(2*i+1) % 2=1:=by omega
  have h3:(2*i+1) / 2=i:=by omega
  simp [Gl,h1,h2,h3]
theorem ZHY {f:Nat} (hf:∃ fn,P.funcs[f]?=some fn∧fn.body.isSome=true∧(fn.name == "runtime.NumGoroutine")=false)
  (hc:∀ (s:ByteArray) (w:World),s.size≤9223372036854775807→Lib.Utf8Tabs 0 1 w→Calls P f #[.string s] w fun e w'=>e=.returned (.bool (Lib.validD s.data.toList))∧Below w.heap.size w w') {args:List AVal} {σ σ':Za} {r:AVal} (h:ZpE args σ=some (r,σ')) :
  (∃ fn,P.funcs[f]?=some fn∧fn.body.isSome=true∧(fn.name == "runtime.NumGoroutine")=false) ∧
  ∀ base w0 I0 I β w (vs:Array Value),KLt base w0→Rel base w0 I0 I β σ w→VRs I β args vs.toList →
   Calls P f vs w (fun e w'=>∃ u,Ends r e u∧ZbR σ.length base w0 I0 I β r σ' u w'):=by
 unfold ZpE at h
 split at h
 case h_2=>cases h
 rename_i l
 simp only [Option.some.injEq,Prod.mk.injEq] at h
 obtain ⟨rfl,rfl⟩:=h
 refine Zye hf (u:=.bool (Lib.validD l)) (by simp) (fun _ _=>by simp only [VR]) ?_
 intro base w0 I0 I β w vs R hv
 obtain ⟨vs⟩:=vs
 simp only [VRs,VR] at hv
 obtain ⟨v1,r1,e1,⟨rfl,hl⟩,rfl⟩:=hv
 subst e1
 refine (hc ⟨l.toArray⟩ w (by simpa [ByteArray.size] using hl) (ZBG R)).mono ?_
 rintro e w' ⟨rfl,hB⟩
 exact ⟨by simp,hB⟩
end
end Go.Proofs.YtmlkhhidifjjfaaDoor
namespace Go.Proofs.YtmlkhhidifjjfaaDoor
def Zd4 {α:Type} (d:α):List (Nat×α)→Nat→α
 | [],_=>d
 | (k,v)::r,n=>if k=n then v else Zd4 d r n
def Zn (own raw:List Nat) (cfg cfg2:List (Nat×Nat×Bool)) (lr ll:List (Nat×List Nat)):Ann:={ own:=fun n=>if own.contains n then 1 else if raw.contains n then 2 else 0,cfg:=Zd4 (0,true) cfg,cfg2:=Zd4 (0,true) cfg2,lr:=Zd4 [] lr,ll:=Zd4 [] ll }
def ZKh:List (Nat×Ann):=[
 (80,Zn [] [] [] [] [(0,[0]),(1,[2])] []),
 (68,Zn [] [] [] [] [(0,[0]),(1,[5,4,3,0]),(2,[4,3,0]),(3,[3]),(4,[2])] []),
 (70,Zn [] [] [] [] [(0,[1,0]),(1,[4])] []),
 (107,Zn [] [] [] [] [(0,[1,0]),(1,[18,1,0]),(2,[]),(3,[4]),(4,[5,1,0]),(5,[5]),(6,[4])] []),
 (71,Zn [] [] [] [] [(0,[0]),(1,[5,4,3,0]),(2,[4,3,0]),(3,[3]),(4,[2])] []),
 (69,Zn [] [] [] [] [(0,[0]),(1,[4]),(2,[3,2])] []),
 (61,Zn [] [] [] [] [(0,[2,0]),(1,[3,2,0]),(2,[3,2,0]),(3,[3,2,0]),(4,[3,2,0]),(5,[3,2,0]),(6,[6,5,4,3,2,0]),(7,[4,3,2]),(8,[3,2]),(9,[2])] []),
 (77,Zn [] [] [(121,1,true)] [] [(0,[1]),(1,[2,1]),(2,[10,2,1]),(3,[11,10,2,1]),(4,[1]),(5,[15,10,2,1]),(6,[3,2,1]),(7,[3,2,1]),(8,[2,1]),(9,[2,1]),(10,[1]),(11,[37,10,2,1]),(12,[1]),(13,[41,10,2,1]),(14,[41,10,2,1]),(15,[41,10,2,1]),(16,[41,10,2,1]),(17,[1]),(18,[1]),(19,[50,10,2,1]),(20,[1]),(21,[56,10,2,1]),(22,[1]),(23,[61,10,2,1]),(24,[61,10,2,1]),(25,[1]),(26,[67,10,1]),(27,[67,1]),(28,[1]),(29,[])] []),
 (123,Zn [] [] [] [] [(0,[])] []),
 (125,Zn [] [] [] [] [(0,[])] []),
 (116,Zn [] [] [] [] [(0,[0]),(1,[3,0]),(2,[3]),(3,[2])] []),
 (114,Zn [] [] [] [] [(0,[2,0]),(1,[2,0]),(2,[2,0]),(3,[3,2,0]),(4,[3,2,0]),(5,[3,2,0]),(6,[3,2,0]),(7,[2,0]),(8,[2,0]),(9,[2,0]),(10,[2,0]),(11,[107,2,0]),(12,[2,0]),(13,[2,0]),(14,[2,0]),(15,[129,2,0]),(16,[2,0]),(17,[138,2,0]),(18,[])] []),
 (148,Zn [] [] [] [] [(0,[0]),(1,[5,4,3,0]),(2,[4,3,0]),(3,[3]),(4,[2])] []),
 (76,Zn [] [] [] [] [(0,[4,1]),(1,[4,1]),(2,[4,1]),(3,[24,4,1]),(4,[]),(5,[4]),(6,[4]),(7,[])] []),
 (119,Zn [] [] [] [] [(0,[0]),(1,[])] []),
 (121,Zn [] [] [] [] [(0,[1,0]),(1,[1,0]),(2,[1,0]),(3,[29,1,0]),(4,[1,0])] [(3,[1,0])]),
 (115,Zn [] [] [] [] [(0,[1,0]),(1,[1,0]),(2,[5,1,0]),(3,[5]),(4,[4])] []),
 (117,Zn [] [] [] [] [(0,[1,0]),(1,[7,6,5,0]),(2,[6,5,0]),(3,[5]),(4,[4])] []),
 (118,Zn [] [] [] [] [(0,[0]),(1,[13,0]),(2,[0]),(3,[0]),(4,[])] []),
 (120,Zn [] [] [] [] [(0,[7,0]),(1,[0]),(2,[19,0]),(3,[])] []),
 (122,Zn [] [] [] [] [(0,[2,0]),(1,[3,2,0]),(2,[3,2,0]),(3,[3,2,0]),(4,[2,0]),(5,[2,0]),(6,[])] []),
 (124,Zn [] [] [] [] [(0,[0]),(1,[5,4,3,0]),(2,[4,3,0]),(3,[3]),(4,[2])] []),
 (78,Zn [] [] [(130,1,true),(126,1,true),(132,1,true),(127,1,true),(128,1,true),(131,1,true),(129,1,true)] [] [(0,[3,0]),(1,[11,3,0]),(2,[12,11,3,0]),(3,[]),(4,[17,11,3,0]),(5,[3,0]),(6,[3,0]),(7,[]),(8,[32,11,3,0]),(9,[3,0]),(10,[40,3,0]),(11,[3,0]),(12,[3,0]),(13,[]),(14,[55,11,3,0]),(15,[55,11,3,0]),(16,[55,11,3,0]),(17,[55,11,3,0]),(18,[3,0]),(19,[]),(20,[67,11,3,0]),(21,[3,0]),(22,[75,74,73,0]),(23,[76,75,74,73,0]),(24,[75,74,73,5,0]),(25,[75,74,73,5,0]),(26,[75,74,73,0]),(27,[75,74,73,0]),(28,[102,11,3,0]),(29,[3,0]),(30,[110,109,108,0]),(31,[111,110,109,108,0]),(32,[110,109,108,7,0]),(33,[110,109,108,0]),(34,[110,109,108,0]),(35,[118,11,3,0]),(36,[118,11,3,0]),(37,[3,0]),(38,[127,126,125,0]),(39,[128,127,126,125,0]),(40,[127,126,125,9,0]),(41,[127,126,125,0]),(42,[127,126,125,0]),(43,[135,11,3,0]),(44,[135,3,0]),(45,[])] [(23,[75,74,73,0]),(31,[110,109,108,0]),(39,[127,126,125,0])]),
 (126,Zn [] [] [(149,1,true),(127,1,true),(128,1,true),(129,1,true)] [] [(0,[3,0]),(1,[3,0]),(2,[3,0]),(3,[3,0]),(4,[3,0]),(5,[3,0]),(6,[3,0]),(7,[49,3,0]),(8,[3,0]),(9,[3,0]),(10,[3,0]),(11,[66,3,0]),(12,[3,0]),(13,[72,3,0]),(14,[])] []),
 (149,Zn [] [] [(130,1,true)] [] [(0,[4,0]),(1,[])] []),
 (132,Zn [] [] [(127,1,true),(128,1,true)] [] [(0,[3,0]),(1,[3,0]),(2,[])] []),
 (127,Zn [] [] [(130,1,true)] [] [(0,[])] []),
 (128,Zn [] [] [(130,1,true)] [] [(0,[6,0]),(1,[])] []),
 (131,Zn [] [] [(127,1,true),(128,1,true)] [] [(0,[3,0]),(1,[12,3,0]),(2,[3,0]),(3,[20,3,0]),(4,[])] []),
 (129,Zn [] [] [(130,1,true)] [] [(0,[4,0]),(1,[])] []),
 (65,Zn [] [] [] [] [(0,[0]),(1,[3,0]),(2,[18,3,0]),(3,[]),(4,[2]),(5,[2])] []),
 (66,Zn [] [] [] [] [(0,[1,0]),(1,[4])] []),
 (99,Zn [] [] [] [] [(0,[1,0]),(1,[18,1,0]),(2,[1]),(3,[4]),(4,[5,1,0]),(5,[5]),(6,[4])] []),
 (64,Zn [] [] [] [] [(0,[0]),(1,[2])] []),
 (12,Zn [] [] [] [] [(0,[2,1]),(1,[3,2,1]),(2,[33,3,2,1]),(3,[3,2,1]),(4,[4,2,1]),(5,[5,4,2,1]),(6,[53,5,4,2,1]),(7,[5,4,2,1]),(8,[5,4,2,1]),(9,[71,4,2,1]),(10,[4,2]),(11,[2])] [(6,[5,4,2,1])]),
 (47,Zn [] [] [] [] [(0,[1]),(1,[3,1]),(2,[7,3,1]),(3,[3,1]),(4,[18,3,1]),(5,[3,1]),(6,[29,3,1]),(7,[3,1]),(8,[4,3,1]),(9,[45,4,3,1]),(10,[4,3,1]),(11,[4,3,1]),(12,[2])] [(9,[4,3,1])]),
 (63,Zn [] [] [] [] [(0,[1,0]),(1,[4])] []),
 (161,Zn [] [] [] [] [(0,[]),(2,[]),(7,[4])] []),
 (164,Zn [] [] [] [] [] []),
 (93,Zn [6] [] [(137,1,false)] [(111,1,false)] [(0,[2,1]),(1,[2,1]),(2,[2,1]),(3,[15,14,2,1]),(4,[16,15,14,2,1]),(5,[15,14,3,2,1]),(6,[15,14,2,1]),(7,[15,14,2,1]),(8,[2])] [(4,[15,14,2,1])]),
 (45,Zn [] [] [] [] [(0,[2,1]),(1,[4])] []),
 (16,Zn [] [] [] [] [(0,[1]),(1,[3,1]),(2,[5,3,1]),(3,[7,5,3,1]),(4,[9,7,5,3,1]),(5,[2])] []),
 (17,Zn [] [] [(56,1,false)] [] [(0,[1]),(1,[3,1]),(2,[5,3,1]),(3,[7,5,1]),(4,[39,38,37,7,5]),(5,[40,39,38,37,7,5]),(6,[39,38,37,9,7,5]),(7,[39,38,37,7,5]),(8,[39,38,37,7,5]),(9,[2])] [(5,[39,38,37,7,5])]),
 (73,Zn [] [] [(111,1,false)] [] [(0,[8,4,3,2,1]),(1,[9,8,4,3]),(2,[11,10,9,8,3]),(3,[31,10,9,8,3]),(4,[9,8]),(5,[8])] []),
 (44,Zn [] [] [(93,2,false)] [] [(0,[8,4,3,2,1]),(1,[9,8,4,3,2,1]),(2,[10,9,8,4,3,2,1]),(3,[29,10,9,8,4,3,2,1]),(4,[10,9,8,4,1]),(5,[36,10,9,8,4,1]),(6,[10,8,4]),(7,[51,50,49,10,8]),(8,[52,51,50,49,10,8]),(9,[51,50,49,12,10,8]),(10,[51,50,49,10,8]),(11,[51,50,49,10,8]),(12,[8])] [(8,[51,50,49,10,8])]),
 (21,Zn [] [] [] [] [(0,[2,0]),(1,[4,2,0]),(2,[5,4,2,0]),(3,[28,5,2]),(4,[3,2]),(5,[3,2])] []),
 (23,Zn [] [] [] [] [(0,[2,0]),(1,[4,2,0]),(2,[6,5,4,2,0]),(3,[7,6,4,2,0]),(4,[7,6,4,2,0]),(5,[8,7,4,2,0]),(6,[42,41,8,7,4,2,0]),(7,[43,42,41,8,7,4,2,0]),(8,[42,41,9,8,7,4,2,0]),(9,[42,41,9,8,7,4,2,0]),(10,[42,41,8,7,4,2,0]),(11,[42,41,8,7,4,2,0]),(12,[8,7,4,2,0]),(13,[84,7,2]),(14,[3,2]),(15,[3,2])] [(7,[42,41,8,7,4,2,0])]),
 (30,Zn [] [] [] [] [(0,[3,2]),(1,[4])] []),
 (31,Zn [] [] [] [] [(0,[3,2]),(1,[4])] []),
 (58,Zn [] [] [] [] [(0,[0]),(1,[2])] []),
 (98,Zn [] [] [] [] [(0,[0]),(1,[2])] []),
 (57,Zn [] [] [] [] [(0,[1,0]),(1,[5,0]),(2,[0]),(3,[4])] []),
 (62,Zn [] [] [] [] [(0,[1]),(1,[2])] []),
 (55,Zn [] [] [] [] [(0,[0]),(1,[6,0]),(2,[3,2]),(3,[3,2])] []),
 (108,Zn [] [] [] [] [(0,[0]),(1,[3,0]),(2,[8,7,6,3]),(3,[9,8,7,6,3]),(4,[8,7,6,5,3]),(5,[8,7,6,3]),(6,[8,7,6,3]),(7,[2])] [(3,[8,7,6,3])]),
 (106,Zn [] [] [] [] [(0,[0]),(1,[17,0]),(2,[4,3,2]),(3,[3,0]),(4,[4,3,2])] []),
 (109,Zn [] [] [] [] [(0,[0]),(1,[5,4,3]),(2,[12,5,4,3]),(3,[4,3,2]),(4,[16,5,3]),(5,[4,3,2]),(6,[4,3,2])] []),
 (135,Zn [] [] [] [] [(0,[2,0]),(1,[9,8,7,2,0]),(2,[10,9,8,7,2,0]),(3,[9,8,7,6,5,2,0]),(4,[15,9,8,7,6,5,2,0]),(5,[9,8,7,6,5,2,0]),(6,[25,9,8,7,6,5,2,0]),(7,[31,5,2]),(8,[4,3,2]),(9,[4,3,2]),(10,[9,8,7,2,0]),(11,[38]),(12,[4,3,2]),(13,[4,3,2])] [(2,[9,8,7,2,0])]),
 (97,Zn [] [] [] [] [(0,[0]),(1,[6,0]),(2,[8,7,6,0]),(3,[6,4,0]),(4,[11,6,0]),(5,[2]),(6,[2])] [(2,[6,0])]),
 (56,Zn [] [] [] [] [(0,[0]),(1,[3,0]),(2,[8,7,6,3]),(3,[9,8,7,6,3]),(4,[8,7,6,5,3]),(5,[8,7,6,3]),(6,[8,7,6,3]),(7,[2])] [(3,[8,7,6,3])]),
 (59,Zn [] [] [] [] [(0,[1,0]),(1,[12,1,0]),(2,[4]),(3,[5,1,0]),(4,[6,5,0]),(5,[18,6,5,0]),(6,[6,5,0]),(7,[6,5,0]),(8,[6,5,0]),(9,[4])] [(5,[6,5,0])]),
 (54,Zn [] [] [] [] [(0,[0]),(1,[6,0]),(2,[3,2]),(3,[3,2])] []),
 (82,Zn [] [] [] [] [(0,[0]),(1,[10,0]),(2,[3,2]),(3,[4,0]),(4,[12,4,0]),(5,[4,0]),(6,[4,0]),(7,[3,2])] [(4,[4,0])]),
 (41,Zn [] [] [] [] [(0,[3,0]),(1,[4])] []),
 (88,Zn [] [] [] [] [(0,[2,1]),(1,[3])] []),
 (34,Zn [] [] [(78,1,true)] [] [(0,[2,1]),(1,[4,2,1]),(2,[4,2,1]),(3,[5,2,1]),(4,[32,5,2,1]),(5,[5,2,1]),(6,[7,6,5,2,1]),(7,[9,7,6,5,2,1]),(8,[73,5,2]),(9,[3,2]),(10,[3,2])] []),
 (40,Zn [] [] [] [] [(0,[1]),(1,[5,4]),(2,[14,5,4]),(3,[3,2]),(4,[6,4]),(5,[3,2])] []),
 (32,Zn [] [] [] [] [(0,[]),(2,[4,3,2,1]),(3,[4,3,2]),(4,[4,3,2]),(5,[3,2])] []),
 (75,Zn [] [] [] [] [(1,[4]),(2,[]),(3,[7,5]),(4,[]),(6,[3,1,0]),(7,[])] []),
 (35,Zn [] [] [] [] [(0,[3,2]),(1,[5,3,2]),(2,[6,5,3,2]),(3,[7,6,5,3,2]),(4,[8,7,6,5,3,2]),(5,[4])] []),
 (87,Zn [] [] [] [] [(0,[0]),(1,[3]),(2,[4,3]),(3,[2]),(4,[15,3]),(5,[15,3]),(6,[2]),(7,[27,3]),(8,[27,3]),(9,[2]),(10,[33,3]),(11,[2]),(12,[45,3]),(13,[2]),(14,[55,3]),(15,[2]),(16,[66]),(17,[2]),(18,[2])] []),
 (79,Zn [] [] [] [] [(0,[0]),(1,[3]),(2,[4,3]),(3,[4,3]),(4,[4]),(5,[2]),(6,[2])] []),
 (81,Zn [] [] [] [] [(0,[1,0]),(1,[5,1]),(2,[4]),(3,[4])] []),
 (113,Zn [] [] [] [] [(0,[5,1]),(1,[])] []),
 (112,Zn [] [] [] [] [(0,[4,1,0]),(1,[10,9,8,4,0]),(2,[11,10,9,8,4,0]),(3,[10,9,8,7,4,0]),(4,[17,10,9,8,7,4,0]),(5,[5,4]),(6,[10,9,8,4,0]),(7,[5,4])] [(2,[10,9,8,4,0])]),
 (134,Zn [] [] [] [] [(0,[0]),(1,[2])] []),
 (42,Zn [] [] [] [] [(0,[1,0]),(1,[6,1,0]),(2,[16,15,14,6,1,0]),(3,[17,16,15,14,6,1,0]),(4,[16,15,14,8,6,1,0]),(5,[16,15,14,6,1,0]),(6,[16,15,14,6,1,0]),(7,[10,9,6,1,0]),(8,[32,9,6,1,0]),(9,[5,4]),(10,[6,1,0]),(11,[13,12,11,6,1]),(12,[57,6]),(13,[5,4]),(14,[5,4])] [(3,[16,15,14,6,1,0])]),
 (153,Zn [] [] [] [] [(0,[1,0]),(1,[4])] []),
 (143,Zn [] [] [] [] [(0,[1,0]),(1,[5,1,0]),(2,[10,9,8,5,1]),(3,[11,10,9,8,5,1]),(4,[10,9,8,7,5,1]),(5,[17,10,9,8,7,5,1]),(6,[10,9,8,5,1]),(7,[10,9,8,5,1]),(8,[4])] [(3,[10,9,8,5,1])]),
 (90,Zn [] [] [] [] [(0,[4,1,0]),(1,[9,8,7,4,1,0]),(2,[29,8,7,4,1,0]),(3,[6,5,4]),(4,[10,8,7,4,0]),(5,[38,10,8,7,4,0]),(6,[13,12,11,10,8,7,4,0]),(7,[48,13,12,11,10,8,7,4,0]),(8,[6,5,4]),(9,[12,10,8,7,4,0]),(10,[10,8,7,4,0]),(11,[6,5,4])] [(5,[10,8,7,4,0])]),
 (43,Zn [] [] [] [] [(0,[1,0]),(1,[4])] []),
 (92,Zn [] [] [] [] [(0,[3,2]),(1,[4])] []),
 (162,Zn [] [] [] [] [(0,[0]),(1,[3,0]),(2,[8,7,6,3]),(3,[9,8,7,6,3]),(4,[8,7,6,5,3]),(5,[8,7,6,3]),(6,[8,7,6,3]),(7,[2])] [(3,[8,7,6,3])]),
 (147,Zn [] [] [] [] [(0,[2,1]),(1,[2,1]),(2,[2])] []),
 (156,Zn [] [] [] [] [(0,[1]),(1,[4,1]),(2,[5,4,1]),(3,[5,4,1]),(4,[5,4,1]),(5,[5,1]),(6,[2]),(7,[2])] []),
 (89,Zn [] [] [] [] [(0,[1]),(1,[3,1]),(2,[6,5,3,1]),(3,[15,6,5,3,1]),(4,[16,15,6,5,3,1]),(5,[16,15,6,5,3,1]),(6,[16,15,6,5,3,1]),(7,[6,5,3]),(8,[29,15,6,5,3,1]),(9,[6,5,3]),(10,[37,15,6,5,3,1]),(11,[6,5,3]),(12,[45,15,6,5,3,1]),(13,[6,5,3]),(14,[53,6,5,3,1]),(15,[5,3,1]),(16,[6,5,3]),(17,[2])] []),
 (152,Zn [] [] [] [] [(0,[2,0]),(1,[3,2]),(2,[4,3,2]),(3,[2]),(4,[9,3,2]),(5,[2]),(6,[14,3,2]),(7,[14,3,2]),(8,[2]),(9,[20,3,2]),(10,[2]),(11,[25,3,2]),(12,[2]),(13,[30,3,2]),(14,[2]),(15,[35,3,2]),(16,[35,3,2]),(17,[2]),(18,[41,3,2]),(19,[2]),(20,[46,3,2]),(21,[2]),(22,[51,3,2]),(23,[2]),(24,[56,3,2]),(25,[56,3,2]),(26,[2]),(27,[62,3,2]),(28,[2]),(29,[67,3,2]),(30,[2]),(31,[72,3,2]),(32,[2]),(33,[77,3,2]),(34,[77,3,2]),(35,[2]),(36,[83,3,2]),(37,[2]),(38,[88,3,2]),(39,[2]),(40,[93,3,2]),(41,[93,3,2]),(42,[93,3,2]),(43,[93,3,2]),(44,[93,3,2]),(45,[2]),(46,[102,2]),(47,[2]),(48,[2])] []),
 (155,Zn [] [] [] [] [(0,[1,0]),(1,[4])] []),
 (136,Zn [] [] [] [] [(0,[6,2,1,0]),(1,[11,10,9,6,2,1,0]),(2,[28,10,9,6,2,1,0]),(3,[8,7,6]),(4,[12,10,9,7,6,2,0]),(5,[14,12,10,9,7,6,0]),(6,[45,14,10,9,7,6,0]),(7,[8,7,6]),(8,[49,10,9,7,6]),(9,[8,7,6]),(10,[58,10,9,7,6]),(11,[8,7,6]),(12,[65,6]),(13,[8,7,6]),(14,[8,7,6])] []),
 (154,Zn [] [] [] [] [(0,[5,4,1,0]),(1,[5,4,1,0]),(2,[7,5,4,1,0]),(3,[12,7,5,4,1,0]),(4,[13,12,7,5,4,1,0]),(5,[13,12,7,5,4,1,0]),(6,[13,12,7,5,4,1,0]),(7,[7,5,4,1]),(8,[24,7,5,4,1]),(9,[6,5,4]),(10,[7,5,4]),(11,[32,12,7,5,4,1]),(12,[7,5,4]),(13,[41,12,7,5,4,1]),(14,[7,5,4]),(15,[50,12,7,5,4,1]),(16,[7,5,4]),(17,[59,7,5,4,1]),(18,[7,5,4,1]),(19,[69,7,5,4,1]),(20,[5,4,1]),(21,[8,7,5,4]),(22,[7,5,4]),(23,[6,5,4])] []),
 (86,Zn [] [] [] [] [(0,[1,0]),(1,[4])] []),
 (158,Zn [] [] [] [] [(0,[1,0]),(1,[4])] []),
 (91,Zn [] [] [] [] [(0,[2,1,0]),(1,[14,2,1,0]),(2,[6]),(3,[17,16,15,2,1]),(4,[18,17,16,15,2,1]),(5,[17,16,15,8,7,2,1]),(6,[17,16,15,9,8,2,1]),(7,[30,17,16,15,2,1]),(8,[6]),(9,[17,16,15,2,1]),(10,[6])] [(4,[17,16,15,2,1])]),
 (83,Zn [] [] [] [] [(0,[1,0]),(1,[10,1,0]),(2,[4]),(3,[13,12,1,0]),(4,[14,13,12,1,0]),(5,[13,12,5,1,0]),(6,[24,13,12,1,0]),(7,[4]),(8,[13,12,1,0]),(9,[4])] [(4,[13,12,1,0])]),
 (84,Zn [] [] [] [] [(0,[1,0]),(1,[10,1,0]),(2,[4]),(3,[13,12,1,0]),(4,[14,13,12,1,0]),(5,[13,12,5,1,0]),(6,[24,13,12,1,0]),(7,[4]),(8,[13,12,1,0]),(9,[4])] [(4,[13,12,1,0])]),
 (74,Zn [] [] [] [] [(0,[1,0]),(1,[10,1,0]),(2,[4]),(3,[13,12,1,0]),(4,[14,13,12,1,0]),(5,[13,12,5,1,0]),(6,[24,13,12,1,0]),(7,[4]),(8,[13,12,1,0]),(9,[4])] [(4,[13,12,1,0])]),
 (85,Zn [] [] [] [] [(0,[1,0]),(1,[10,1,0]),(2,[4]),(3,[13,12,1,0]),(4,[14,13,12,1,0]),(5,[13,12,5,1,0]),(6,[24,13,12,1,0]),(7,[4]),(8,[13,12,1,0]),(9,[4])] [(4,[13,12,1,0])]),
 (133,Zn [] [] [] [] [(0,[1,0]),(1,[8,7,1,0]),(2,[9,8,7,1,0]),(3,[8,7,5,1,0]),(4,[16,8,7,5,1,0]),(5,[4]),(6,[8,7,1,0]),(7,[4])] [(2,[8,7,1,0])]),
 (163,Zn [] [] [] [] [(0,[1,0]),(1,[8,7,1,0]),(2,[9,8,7,1,0]),(3,[8,7,5,1,0]),(4,[16,8,7,5,1,0]),(5,[4]),(6,[8,7,1,0]),(7,[4])] [(2,[8,7,1,0])]),
 (28,Zn [] [] [] [] [(0,[1,0]),(1,[10,1,0]),(2,[4]),(3,[5,1,0]),(4,[30,0]),(5,[4]),(6,[6,0]),(7,[34,6,0]),(8,[6,0]),(9,[6,0]),(10,[4])] [(7,[6,0])]),
 (18,Zn [] [] [] [] [(0,[1,0]),(1,[8,1,0]),(2,[4]),(3,[4])] []),
 (20,Zn [] [] [] [] [(0,[0]),(1,[3,0]),(2,[3,0]),(3,[3,0]),(4,[2])] []),
 (15,Zn [] [] [] [] [(0,[1,0]),(1,[4])] []),
 (60,Zn [] [] [] [] [(0,[0]),(1,[3,0]),(2,[2])] []),
 (39,Zn [] [] [] [] [(0,[2,1,0]),(1,[7,1,0]),(2,[7,1,0]),(3,[16,7,1,0]),(4,[1,0]),(5,[6])] []),
 (37,Zn [] [] [] [] [(0,[2,1]),(1,[6,2,1]),(2,[2,1]),(3,[14,2,1]),(4,[2,1]),(5,[22,2,1]),(6,[2,1]),(7,[30,2,1]),(8,[2,1]),(9,[39,2,1]),(10,[2,1]),(11,[2,1]),(12,[2])] []),
 (5,Zn [] [] [] [] [(0,[3,2]),(1,[3,2]),(2,[6,5,3,2]),(3,[26,5,3,2]),(4,[8,7,5,3,2]),(5,[10,9,8,7,5,3,2]),(6,[66,3]),(7,[4]),(8,[70,3]),(9,[4]),(10,[3]),(11,[12,11,3]),(12,[80,12,11,3]),(13,[4]),(14,[14,13,3]),(15,[4])] []),
 (9,Zn [] [] [] [] [(0,[2,1,0]),(1,[2,1,0]),(2,[7,2,1,0]),(3,[25,7,2,1,0]),(4,[6]),(5,[33,25,7,2,1,0]),(6,[33,25,7,2,1,0]),(7,[33,25,7,2,1,0]),(8,[33,25,7,2,1,0]),(9,[7,1,0]),(10,[40,25,7,2,1,0]),(11,[40,25,7,2,1,0]),(12,[7,1,0]),(13,[49,25,7,1,0]),(14,[49,25,7,1,0]),(15,[49,7,1,0]),(16,[9,8,7,1,0]),(17,[10,9,8,7]),(18,[62,9,8,7]),(19,[6]),(20,[12,11,9,8,7]),(21,[14,13,12,9,8,7]),(22,[6])] []),
 (7,Zn [] [] [] [] [(0,[2,1]),(1,[2,1]),(2,[6,5,2,1]),(3,[18,5,2,1]),(4,[4]),(5,[8,7,2]),(6,[35,8,7,2]),(7,[36,35,8,7,2]),(8,[36,35,8,7,2]),(9,[36,35,8,7,2]),(10,[36,35,8,7,2]),(11,[4]),(12,[52,8,7,2]),(13,[4]),(14,[4])] []),
 (8,Zn [] [] [] [] [(0,[3,2]),(1,[3,2]),(2,[6,5,3,2]),(3,[8,7,6,5,3,2]),(4,[30,7,5,3,2]),(5,[4]),(6,[4])] []),
 (10,Zn [] [] [] [] [(0,[1,0]),(1,[14,1,0]),(2,[1,0]),(3,[1,0]),(4,[6,5,1,0]),(5,[8,7,6,5,1,0]),(6,[33,8,7,5,1,0]),(7,[4]),(8,[9,8,7,1,0]),(9,[11,10,9,8,7,1,0]),(10,[4])] []),
 (6,Zn [] [] [] [] [(0,[2,1]),(1,[6,5,2,1]),(2,[23,5,2,1]),(3,[4]),(4,[5,2,1]),(5,[8,7,2]),(6,[44,7,2]),(7,[4]),(8,[52,7,2]),(9,[53,52,7,2]),(10,[53,52,7,2]),(11,[53,52,7,2]),(12,[53,52,7,2]),(13,[53,52,7,2]),(14,[53,52,7,2]),(15,[53,52,7,2]),(16,[53,52,7,2]),(17,[53,52,7,2]),(18,[53,52,7,2]),(19,[53,7,2]),(20,[4]),(21,[4])] []),
 (33,Zn [] [] [] [] [(0,[0]),(1,[2])] []),
 (38,Zn [] [] [] [] [(0,[]),(1,[2,1]),(2,[4,3,2,1]),(3,[0])] []),
 (4,Zn [] [] [] [] [(0,[1]),(1,[3]),(2,[5,4,3]),(3,[7,6,5,4,3]),(4,[2])] []),
 (3,Zn [] [] [] [] [(0,[4,3,2,1]),(1,[9,3,2,1]),(2,[10,9,3,2,1]),(3,[12,10,9,3,2,1]),(4,[50,12,10,3,2,1]),(5,[8]),(6,[12,10,3,2,1]),(7,[14]),(8,[15,14]),(9,[68,15,14]),(10,[15,14]),(11,[16,15,14]),(12,[18,17,16,15,14]),(13,[20,19,18,17,16,15,14]),(14,[22,21,20,19,18,17,16,15,14]),(15,[24,23,22,21,20,19,18,17,16,15,14]),(16,[144,15,14]),(17,[8]),(18,[8])] [(9,[15,14])]),
 (11,Zn [] [] [] [] [(0,[3,2,1]),(1,[7,2,1]),(2,[7,2,1]),(3,[8,7,2]),(4,[9,8,7]),(5,[11,10,9,8,7]),(6,[50,9,8,7]),(7,[6]),(8,[12,9,8,7]),(9,[13,12,9,8,7]),(10,[55,13,12,9,8,7]),(11,[13,12,9,8,7]),(12,[64,13,12,9,8,7]),(13,[13,12,9,8,7]),(14,[71,12,8,7]),(15,[6]),(16,[88,12,8,7]),(17,[6]),(18,[6])] [(10,[13,12,9,8,7])]),
 (25,Zn [] [] [] [] [(0,[0]),(1,[2])] []),
 (46,Zn [] [] [] [] [(0,[0]),(1,[3,0]),(2,[4,3,0]),(3,[12,4,3,0]),(4,[4,3,0]),(5,[4,3,0]),(6,[2])] [(3,[4,3,0])]),
 (19,Zn [] [] [(60,1,false)] [] [(0,[2,1,0]),(1,[7,2,1]),(2,[12,7,2,1]),(3,[6]),(4,[7,2,1]),(5,[20,7,2,1]),(6,[6]),(7,[7]),(8,[6])] []),
 (29,Zn [3] [] [] [] [(0,[]),(1,[1]),(2,[2,1]),(3,[0])] []),
 (49,Zn [] [] [(53,1,false)] [] [(0,[0]),(1,[6,0]),(2,[3,2]),(3,[3,2])] []),
 (100,Zn [] [] [] [] [(0,[0]),(1,[3,0]),(2,[4,3,0]),(3,[8,4,3,0]),(4,[4,3,0]),(5,[4,3,0]),(6,[2])] [(3,[4,3,0])]),
 (146,Zn [] [] [] [] [(0,[0]),(1,[8,0]),(2,[4,3,2]),(3,[5,0]),(4,[17,5,0]),(5,[4,3,2]),(6,[4,3,2])] []),
 (145,Zn [] [] [] [] [(0,[0]),(1,[7,6,5]),(2,[15,7,6,5]),(3,[4,3,2]),(4,[20,6,5]),(5,[4,3,2]),(6,[4,3,2])] []),
 (101,Zn [] [] [] [] [(0,[0]),(1,[6,5,0]),(2,[7,6,5,0]),(3,[9,7,6,5,0]),(4,[7,6,5,0]),(5,[15,7,6,5,0]),(6,[4,3,2]),(7,[7,6,5,0]),(8,[7,6,5,0]),(9,[32,7,6,5,0]),(10,[41,7,5]),(11,[4,3,2]),(12,[4,3,2]),(13,[4,3,2])] [(3,[7,6,5,0])]),
 (94,Zn [] [] [] [] [(0,[0]),(1,[6,0]),(2,[4,3,0]),(3,[17,4,0]),(4,[2]),(5,[0]),(6,[2])] [(1,[0])]),
 (53,Zn [] [] [] [] [(0,[1,0]),(1,[12,1,0]),(2,[4]),(3,[5,1,0]),(4,[6,5,0]),(5,[18,6,5,0]),(6,[6,5,0]),(7,[6,5,0]),(8,[6,5,0]),(9,[4])] [(5,[6,5,0])]),
 (48,Zn [] [] [(49,1,false)] [] [(0,[0]),(1,[6,0]),(2,[3,2]),(3,[3,2])] []),
 (140,Zn [] [] [] [] [(0,[0]),(1,[10,0]),(2,[3,2]),(3,[4,0]),(4,[12,4,0]),(5,[4,0]),(6,[4,0]),(7,[3,2])] [(4,[4,0])]),
 (138,Zn [] [] [] [] [(0,[0]),(1,[4,0]),(2,[4,0]),(3,[3,2]),(4,[11,4,0]),(5,[3,2]),(6,[15,4,0]),(7,[6,5,4,0]),(8,[24,4,0]),(9,[6,5,4,0]),(10,[33,4,0]),(11,[6,5,4,0]),(12,[45,6,5,4,0]),(13,[3,2]),(14,[7,6,5,4,0]),(15,[48,7,6,5,4,0]),(16,[7,6,5,4,0]),(17,[60,7,6,5,4,0]),(18,[3,2]),(19,[7,6,5,4,0]),(20,[83,5,4]),(21,[3,2]),(22,[3,2])] [(15,[7,6,5,4,0])]),
 (110,Zn [] [] [] [] [(0,[3,2]),(1,[4])] []),
 (95,Zn [] [] [] [] [(0,[0]),(1,[4,0]),(2,[5,4,0]),(3,[14,5,4,0]),(4,[5,4,0]),(5,[6,5,4,0]),(6,[28,6,5,4,0]),(7,[3,2]),(8,[6,5,4,0]),(9,[8,7,5,4,0]),(10,[41,7,5,4,0]),(11,[3,2]),(12,[5,4,0]),(13,[10,9,4]),(14,[3,2])] [(3,[5,4,0])]),
 (104,Zn [] [] [] [] [(0,[4,1,0]),(1,[6,4,1,0]),(2,[10,6,4,1,0]),(3,[6,4,1,0]),(4,[19,6,4,1,0]),(5,[5,4]),(6,[5,4])] [(2,[6,4,1,0])]),
 (144,Zn [] [] [] [] [(0,[0]),(1,[3]),(2,[4,3]),(3,[4,3]),(4,[4,3]),(5,[4,3]),(6,[4,3]),(7,[4,3]),(8,[4,3]),(9,[4,3]),(10,[2]),(11,[13,3]),(12,[13,3]),(13,[13,3]),(14,[13,3]),(15,[2]),(16,[18,3]),(17,[18,3]),(18,[18,3]),(19,[18,3]),(20,[2]),(21,[23,3]),(22,[2]),(23,[25,3]),(24,[25,3]),(25,[25,3]),(26,[25,3]),(27,[25,3]),(28,[25,3]),(29,[25,3]),(30,[2]),(31,[33,3]),(32,[33,3]),(33,[2]),(34,[36]),(35,[2]),(36,[2])] []),
 (50,Zn [] [] [] [] [(0,[1,0]),(1,[7,6,1,0]),(2,[17,6,1,0]),(3,[5,4]),(4,[10,9,8,6,1]),(5,[38,6]),(6,[5,4]),(7,[5,4])] []),
 (102,Zn [] [] [] [] [(0,[1,0]),(1,[5,1]),(2,[6,5,1]),(3,[6,5,1]),(4,[6,5,1]),(5,[6,5,1]),(6,[6,5,1]),(7,[4]),(8,[15,5,1]),(9,[4]),(10,[20,5,1]),(11,[4]),(12,[25,5,1]),(13,[25,5,1]),(14,[25,5,1]),(15,[25,5,1]),(16,[25,5,1]),(17,[25,5,1]),(18,[25,5,1]),(19,[25,5,1]),(20,[4]),(21,[36,5,1]),(22,[36,5,1]),(23,[4]),(24,[42,5,1]),(25,[42,5,1]),(26,[4]),(27,[47,5,1]),(28,[4]),(29,[51,5,1]),(30,[4]),(31,[56,5,1]),(32,[4]),(33,[61,5,1]),(34,[61,5,1]),(35,[61,5,1]),(36,[4]),(37,[68,5,1]),(38,[4]),(39,[72,1]),(40,[4]),(41,[4])] []),
 (96,Zn [] [] [] [] [(0,[1,0]),(1,[5,1,0]),(2,[6,5,1,0]),(3,[10,6,5,1,0]),(4,[6,5,1,0]),(5,[19,6,5,1,0]),(6,[6,5,1,0]),(7,[4])] [(3,[6,5,1,0])]),
 (67,Zn [] [] [] [] [(0,[1,0]),(1,[9,8,7,1,0]),(2,[36,8,7,1,0]),(3,[6,5,4]),(4,[10,8,7,0]),(5,[11,10,8,7,0]),(6,[45,11,10,8,7,0]),(7,[14,13,12,11,10,8,7,0]),(8,[59,13,12,11,10,8,7,0]),(9,[6,5,4]),(10,[17,16,15,13,12,11,10,8,7,0]),(11,[70,16,15,13,12,11,10,8,7,0]),(12,[6,5,4]),(13,[19,16,15,13,12,11,10,8,7,0]),(14,[90,16,15,13,12,11,10,8,7,0]),(15,[6,5,4]),(16,[20,16,15,13,11,10,8,7,0]),(17,[96,20,16,15,13,11,10,8,7,0]),(18,[6,5,4]),(19,[16,13,11,10,8,7,0]),(20,[11,10,8,7,0]),(21,[6,5,4])] [(6,[11,10,8,7,0])]),
 (72,Zn [] [] [] [] [(0,[1,0]),(1,[10,1,0]),(2,[4]),(3,[5,1,0]),(4,[14,5,1,0]),(5,[5,1,0]),(6,[26,5,1,0]),(7,[4]),(8,[4])] [(4,[5,1,0])]),
 (141,Zn [] [] [] [] [(0,[1,0]),(1,[5,1,0]),(2,[9,5,1,0]),(3,[5,1,0]),(4,[17,5,1,0]),(5,[4]),(6,[4])] [(2,[5,1,0])]),
 (139,Zn [] [] [(48,1,false)] [] [(0,[1]),(1,[16,1]),(2,[17,16,1]),(3,[3,2]),(4,[31,16,1]),(5,[3,2]),(6,[45,16,1]),(7,[3,2]),(8,[59,16,1]),(9,[5,4]),(10,[3,2]),(11,[70,16,1]),(12,[7,6]),(13,[3,2]),(14,[81,16,1]),(15,[9,8]),(16,[3,2]),(17,[92,1]),(18,[11,10,1]),(19,[13,12,11,10]),(20,[3,2]),(21,[3,2])] []),
 (105,Zn [] [] [] [] [(0,[1,0]),(1,[5,1]),(2,[6,5,1]),(3,[6,5,1]),(4,[6,5,1]),(5,[6,5,1]),(6,[6,5,1]),(7,[6,5,1]),(8,[6,5,1]),(9,[6,5,1]),(10,[16]),(11,[4]),(12,[17,5,1]),(13,[17,5,1]),(14,[17,5,1]),(15,[22]),(16,[4]),(17,[23,1]),(18,[26]),(19,[4]),(20,[4])] []),
 (103,Zn [] [] [] [] [(0,[4,1,0]),(1,[7,4,1,0]),(2,[8,7,4,1,0]),(3,[26,8,7,4,1]),(4,[27,26,8,7,4,1]),(5,[8,7,4,1]),(6,[29,26,8,7,4,1]),(7,[8,7,4,1]),(8,[31,26,8,7,4,1]),(9,[8,7,4,1]),(10,[33,26,8,7,4,1]),(11,[11,10,9,7,4]),(12,[11,10,7,4]),(13,[6,5,4]),(14,[47,26,8,7,4,1]),(15,[14,13,12,7,4]),(16,[14,13,7,4]),(17,[6,5,4]),(18,[61,26,8,7,4,1]),(19,[17,16,15,7,4]),(20,[17,16,7,4]),(21,[6,5,4]),(22,[77,8,7,4,1]),(23,[20,19,18,7,4,1]),(24,[86,19,18,7,4,1]),(25,[6,5,4]),(26,[22,21,20,19,18,7,4]),(27,[22,20,19,7,4]),(28,[6,5,4]),(29,[109,8,7,4,1]),(30,[6,5,4]),(31,[8,7,4]),(32,[6,5,4])] []),
 (36,Zn [] [] [] [] [(0,[3,2]),(1,[112,3,2]),(2,[4]),(3,[163,3,2]),(4,[4]),(5,[5,3,2]),(6,[168,5,3,2]),(7,[5,3,2]),(8,[181,5,3,2]),(9,[4]),(10,[6,3,2]),(11,[186,6,3,2]),(12,[6,3,2]),(13,[199,6,3,2]),(14,[4]),(15,[7,3,2]),(16,[204,7,3,2]),(17,[7,3,2]),(18,[217,7,3,2]),(19,[4]),(20,[9,8]),(21,[4])] [(6,[5,3,2]),(11,[6,3,2]),(16,[7,3,2])]),
 (51,Zn [] [] [] [] [(0,[0]),(1,[2])] []),
 (13,Zn [] [] [] [] [(0,[1]),(1,[5,4,1]),(2,[7,6,5,4,1]),(3,[9,8,7,6,5,4,1]),(4,[11,10,9,8,7,6,5,4,1]),(5,[12,10,8,6,4,1]),(6,[12,10,8,6,4,1]),(7,[13,12,10,8,1]),(8,[13,12,10,1]),(9,[13,12,10,1]),(10,[3,2])] []),
 (14,Zn [] [] [] [] [(0,[1]),(1,[5,4,1]),(2,[7,6,5,1]),(3,[9,8,7,6,5,1]),(4,[8,6,5,1]),(5,[10,8,5,1]),(6,[11,10,8,5,1]),(7,[72,11,10,8,5,1]),(8,[11,10,8,5,1]),(9,[11,10,8,5,1]),(10,[11,10,8,5,1]),(11,[3,2])] [(7,[11,10,8,5,1])]),
 (22,Zn [] [] [] [] [(0,[2,0]),(1,[4,2,0]),(2,[5,4,2,0]),(3,[6,5,4,2,0]),(4,[5,4,2,0]),(5,[5,4,2,0]),(6,[5,4,2,0]),(7,[48,5,4,2,0]),(8,[9,8,7,5,4,2,0]),(9,[7,5,4,2,0]),(10,[5,4,2,0]),(11,[11,10,5,4,2,0]),(12,[93,5,2]),(13,[3,2]),(14,[3,2])] []),
 (24,Zn [] [] [] [] [(0,[2,0]),(1,[4,2,0]),(2,[6,5,4,2,0]),(3,[7,6,4,2,0]),(4,[8,7,6,4,2,0]),(5,[7,6,4,2,0]),(6,[9,7,6,4,2,0]),(7,[10,9,7,6,4,2,0]),(8,[44,10,9,7,6,4,2,0]),(9,[10,9,7,6,4,2,0]),(10,[10,9,7,6,4,2,0]),(11,[7,6,4,2,0]),(12,[12,11,7,6,4,2,0]),(13,[80,7,2]),(14,[3,2]),(15,[3,2])] [(8,[10,9,7,6,4,2,0])]),
 (26,Zn [] [] [] [] [(0,[3,2]),(1,[4])] []),
 (27,Zn [] [] [] [] [(0,[3,2]),(1,[41,3,2]),(2,[4]),(3,[5,3,2]),(4,[46,5,3,2]),(5,[5,3,2]),(6,[59,5,3,2]),(7,[4]),(8,[4])] [(4,[5,3,2])]),
 (52,Zn [] [] [] [] [(0,[1,0]),(1,[5,0]),(2,[4]),(3,[4])] []),
 (1000000,{})]
def ann:Nat→Ann:=Zd4 {} ZKh
def ZCW:List (Nat×Bool):=[
 (28,true),
 (1000000,false)]
def BY:Nat→Bool:=Zd4 false ZCW
noncomputable def CF:Nat→Option ZD:=Zia Tryd.prog ann
noncomputable def FC:Nat→Option ZD:=fun f=>(CF f).map ZjZ
def Zp4:List (Nat×Option (List AVal→Za→Option (AVal×Za))):=[
 (111,some (ZgQ 1 1)),
 (137,some (ZgQ 5 72)),
 (142,some (ZpE)),
 (32,some (ZiP)),
 (130,some (ZiP)),
 (1000000,none)]
def PR:Zcc:=Zd4 none Zp4
def oI (d:Nat) (i:Ins):AOp:=⟨some d,i,none,[]⟩
def oN (i:Ins):AOp:=⟨none,i,none,[]⟩
theorem xw (c d:Zf) (h:c=d) (m:Nat) (tm:Tms) (σ:Za):evC FC PR BY m c tm σ=evC FC PR BY m d tm σ:=by rw [h]
noncomputable abbrev E:ZO:=EV FC PR BY
theorem Zh {f:Nat} {fn:ZD} (hp:PR f=none) (hf:FC f=some fn) (args:List AVal) (σ:Za):E f args σ=Zaq σ.length fn (evC FC PR BY σ.length fn.body (enterA 0 args []) σ):=ZuN hp hf args σ
end Go.Proofs.YtmlkhhidifjjfaaDoor
namespace Go.Proofs.YtmlkhhidifjjfaaDoor
def Zkx:Zf:=(.seq (.region [oI 2 (.mov (.c (.lst true []))),oI 3 (.mov (.c (.int .i64 0)))] none [0]) (.seq (.seq (.region [oI 4 (.mov (.t 0)),oI 5 (.len (.t 4)),oI 6 (.bin .gtr (.t 5) (.c (.int .i64 65535)))] none [6,0]) (.cond (.t 6) (.seq (.region [oI 2 (.mov (.c (.lst true []))),oI 3 (.mov (.c (.int .i64 10)))] none [3,2]) .ret) .skip)) (.seq (.region [oI 7 (.mov (.t 0)),oI 8 (.len (.t 7)),oI 9 (.i2i .u64 (.t 8)),oI 10 (.call 59 0 true [(.t 9),(.c (.int .i64 2))]),oI 11 (.mov (.t 0)),oI 12 (.bslice false 1 2 (.lst true []) [(0,(.t 10)),(1,(.t 11))]),oI 13 (.call 56 0 true [(.t 12)]),oI 2 (.mov (.t 13)),oI 3 (.mov (.c (.int .i64 0)))] none [3,2]) .ret)))
def Zo1:ZD:=⟨[(.tmp 2),(.tmp 3)],Zkx⟩
theorem Zu0:FC 55=some Zo1:=by kernel_rfl
theorem Zrt:Zo1.body=Zkx:=rfl
theorem ZtA:Zo1.res=[(.tmp 2),(.tmp 3)]:=rfl
def Zov:Zf:=(.seq (.region [oI 18 (.mov (.t 3)),oI 2 (.mov (.t 18))] none [2]) .ret)
def ZlY:Zf:=Zov
def ZMP:=xw ZlY Zov rfl
def Zkn:Zf:=(.seq (.region [oI 9 (.bin .lss (.t 8) (.t 7))] none [9,8,7,6,3]) (.seq (.cond (.t 9) .skip (.exit 0)) (.seq (.block 1 (.seq (.region [oI 10 (.iaddr 1 (.t 6) (.t 8)),oI 11 (.ld none (.t 10)),oI 5 (.mov (.t 11))] none [8,7,6,5,3]) (.region [oI 12 (.mov (.t 3)),oI 13 (.bin .shl (.t 12) (.c (.int .u64 8))),oI 14 (.mov (.t 5)),oI 15 (.i2i .u64 (.t 14)),oI 16 (.bin .or (.t 13) (.t 15)),oI 3 (.mov (.t 16))] none [8,7,6,3]))) (.region [oI 17 (.bin .add (.t 8) (.c (.int .i64 1))),oI 8 (.mov (.t 17))] none [8,7,6,3]))))
def ZpU:Zf:=Zkn
def Zql:=xw ZpU Zkn rfl
def Zmb:Zf:=(.seq (.region [oI 2 (.mov (.c (.int .u64 0)))] none [0]) (.seq (.region [oI 3 (.mov (.c (.int .u64 0)))] none [3,0]) (.seq (.seq (.region [oI 6 (.mov (.t 0)),oI 7 (.len (.t 6)),oI 8 (.mov (.c (.int .i64 0)))] none [8,7,6,3]) (.block 0 (.loop [8,7,6,3] ZpU))) ZlY)))
def Zji:ZD:=⟨[(.tmp 2)],Zmb⟩
theorem ZHw:FC 108=some Zji:=by kernel_rfl
theorem ZA7:Zji.body=Zmb:=rfl
theorem ZID:Zji.res=[(.tmp 2)]:=rfl
noncomputable def Zlb (m:Nat) (tm:Tms) (σ:Za):Option (AVal×Za):=(Zaq m Zji (ZbG FC PR BY m ZlY (Option.map (ZaS 0) (evL FC PR BY m [8,7,6,3] ZpU tm σ))))
def ZiW:Zf:=(.seq (.region [oI 2 (.mov (.c (.lst true []))),oI 3 (.mov (.c (.int .i64 0))),oI 4 (.mov (.c (.int .i64 0)))] none [0]) (.seq (.seq (.region [oI 5 (.mov (.t 0)),oI 6 (.len (.t 5)),oI 7 (.bin .lss (.t 6) (.c (.int .i64 2))),oI 8 (.mov (.t 7)),⟨(some 9),(.mov (.t 0)),(some (8,false)),[]⟩,⟨(some 10),(.len (.t 9)),(some (8,false)),[]⟩,⟨(some 11),(.bin .sub (.t 10) (.c (.int .i64 2))),(some (8,false)),[]⟩,⟨(some 12),(.mov (.t 0)),(some (8,false)),[]⟩,⟨(some 13),(.slice 1 (.t 12) none (some (.c (.int .i64 2))) none),(some (8,false)),[]⟩,⟨(some 14),(.call 108 0 true [(.t 13)]),(some (8,false)),[]⟩,⟨(some 15),(.i2i .i64 (.t 14)),(some (8,false)),[]⟩,⟨(some 16),(.bin .lss (.t 11) (.t 15)),(some (8,false)),[]⟩,oI 17 (.pick (.t 8) (.c (.bool true)) (.t 16))] none [17,0]) (.cond (.t 17) (.seq (.region [oI 2 (.mov (.c (.lst true []))),oI 3 (.mov (.c (.int .i64 0))),oI 4 (.mov (.c (.int .i64 11)))] none [4,3,2]) .ret) .skip)) (.seq (.region [oI 18 (.mov (.t 0)),oI 19 (.slice 1 (.t 18) none (some (.c (.int .i64 2))) none),oI 20 (.call 108 0 true [(.t 19)]),oI 21 (.i2i .i64 (.t 20)),oI 22 (.bin .add (.c (.int .i64 2)) (.t 21)),oI 3 (.mov (.t 22))] none [3,0]) (.seq (.region [oI 23 (.mov (.t 0)),oI 24 (.mov (.t 3)),oI 25 (.slice 1 (.t 23) (some (.c (.int .i64 2))) (some (.t 24)) none),oI 26 (.bslice false 1 1 (.lst true []) [(0,(.t 25))]),oI 27 (.call 56 0 true [(.t 26)]),oI 28 (.mov (.t 3)),oI 2 (.mov (.t 27)),oI 3 (.mov (.t 28)),oI 4 (.mov (.c (.int .i64 0)))] none [4,3,2]) .ret))))
def Znf:ZD:=⟨[(.tmp 2),(.tmp 3),(.tmp 4)],ZiW⟩
theorem ZmH:FC 106=some Znf:=by kernel_rfl
theorem ZnU:Znf.body=ZiW:=rfl
theorem ZmO:Znf.res=[(.tmp 2),(.tmp 3),(.tmp 4)]:=rfl
def Zih:Zf:=(.seq (.region [oI 2 (.mov (.c (.str []))),oI 3 (.mov (.c (.int .i64 0))),oI 4 (.mov (.c (.int .i64 0)))] none [0]) (.seq (.region [oI 7 (.mov (.t 0)),oI 8 (.call 106 0 true [(.t 7)]),oI 6 (.mov (.t 8)),oI 9 (.ext (.t 6) 0),oI 10 (.ext (.t 6) 1),oI 11 (.ext (.t 6) 2),oI 5 (.mov (.t 9)),oI 3 (.mov (.t 10)),oI 4 (.mov (.t 11))] none [5,4,3]) (.seq (.block 0 (.seq (.region [oI 13 (.mov (.t 4)),oI 14 (.bin .neq (.t 13) (.c (.int .i64 0))),oI 12 (.mov (.t 14))] none [12,5,4,3]) (.cond (.t 12) (.seq (.region [oI 15 (.mov (.t 4)),oI 2 (.mov (.c (.str []))),oI 3 (.mov (.c (.int .i64 0))),oI 4 (.mov (.t 15))] none [4,3,2]) .ret) (.seq (.region [oI 17 (.mov (.t 5)),oI 18 (.b2s (.t 17)),oI 19 (.call 97 0 true [(.t 18)]),oI 20 (.un .not (.t 19)),oI 16 (.mov (.t 20))] none [16,5,3]) (.cond (.t 16) (.seq (.region [oI 2 (.mov (.c (.str []))),oI 3 (.mov (.c (.int .i64 0))),oI 4 (.mov (.c (.int .i64 13)))] none [4,3,2]) .ret) .skip))))) (.seq (.region [oI 21 (.mov (.t 5)),oI 22 (.b2s (.t 21)),oI 23 (.mov (.t 3)),oI 2 (.mov (.t 22)),oI 3 (.mov (.t 23)),oI 4 (.mov (.c (.int .i64 0)))] none [4,3,2]) .ret))))
def Zon:ZD:=⟨[(.tmp 2),(.tmp 3),(.tmp 4)],Zih⟩
theorem Zuv:FC 109=some Zon:=by kernel_rfl
theorem Znj:Zon.body=Zih:=rfl
theorem Zni:Zon.res=[(.tmp 2),(.tmp 3),(.tmp 4)]:=rfl
def ZiU:Zf:=(.seq (.seq (.region [oI 36 (.mov (.t 0)),oI 37 (.len (.t 36)),oI 38 (.bin .lss (.t 37) (.c (.int .i64 4)))] none [38]) (.cond (.t 38) (.seq (.region [oI 2 (.mov (.c (.int .i64 0))),oI 3 (.mov (.c (.int .i64 0))),oI 4 (.mov (.c (.int .i64 11)))] none [4,3,2]) .ret) .skip)) (.seq (.region [oI 2 (.mov (.c (.int .i64 0))),oI 3 (.mov (.c (.int .i64 0))),oI 4 (.mov (.c (.int .i64 12)))] none [4,3,2]) .ret))
def ZmD:Zf:=ZiU
def Zoy:=xw ZmD ZiU rfl
def ZeW:Zf:=(.seq (.region [oI 10 (.bin .lss (.t 9) (.t 8))] none [10,9,8,7,2,0]) (.seq (.cond (.t 10) .skip (.exit 0)) (.seq (.block 1 (.seq (.region [oI 11 (.mov (.t 9)),oI 12 (.iaddr 1 (.t 7) (.t 9)),oI 13 (.ld none (.t 12)),oI 5 (.mov (.t 11)),oI 6 (.mov (.t 13))] none [9,8,7,6,5,2,0]) (.seq (.seq (.region [oI 14 (.mov (.t 5)),oI 15 (.bin .eql (.t 14) (.c (.int .i64 4)))] none [15,9,8,7,6,5,2,0]) (.cond (.t 15) (.exit 0) .skip)) (.seq (.region [oI 16 (.mov (.t 2)),oI 17 (.mov (.t 6)),oI 18 (.bin .and (.t 17) (.c (.int .u8 127))),oI 19 (.i2i .i64 (.t 18)),oI 20 (.mov (.t 5)),oI 21 (.bin .mul (.c (.int .i64 7)) (.t 20)),oI 22 (.bin .shl (.t 19) (.t 21)),oI 23 (.bin .or (.t 16) (.t 22)),oI 2 (.mov (.t 23))] none [9,8,7,6,5,2,0]) (.seq (.region [oI 24 (.mov (.t 6)),oI 25 (.bin .lss (.t 24) (.c (.int .u8 128)))] none [25,9,8,7,6,5,2,0]) (.cond (.t 25) (.seq (.seq (.region [oI 26 (.mov (.t 6)),oI 27 (.bin .eql (.t 26) (.c (.int .u8 0))),oI 28 (.mov (.t 27)),⟨(some 29),(.mov (.t 5)),(some (28,true)),[]⟩,⟨(some 30),(.bin .gtr (.t 29) (.c (.int .i64 0))),(some (28,true)),[]⟩,oI 31 (.pick (.t 28) (.t 30) (.c (.bool false)))] none [31,5,2]) (.cond (.t 31) (.seq (.region [oI 2 (.mov (.c (.int .i64 0))),oI 3 (.mov (.c (.int .i64 0))),oI 4 (.mov (.c (.int .i64 12)))] none [4,3,2]) .ret) .skip)) (.seq (.region [oI 32 (.mov (.t 2)),oI 33 (.mov (.t 5)),oI 34 (.bin .add (.t 33) (.c (.int .i64 1))),oI 2 (.mov (.t 32)),oI 3 (.mov (.t 34)),oI 4 (.mov (.c (.int .i64 0)))] none [4,3,2]) .ret)) .skip)))))) (.region [oI 35 (.bin .add (.t 9) (.c (.int .i64 1))),oI 9 (.mov (.t 35))] none [9,8,7,2,0]))))
def Zl1:Zf:=ZeW
def Zgb:=xw Zl1 ZeW rfl
def ZmT:Zf:=(.seq (.region [oI 2 (.mov (.c (.int .i64 0))),oI 3 (.mov (.c (.int .i64 0))),oI 4 (.mov (.c (.int .i64 0)))] none [2,0]) (.seq (.seq (.region [oI 7 (.mov (.t 0)),oI 8 (.len (.t 7)),oI 9 (.mov (.c (.int .i64 0)))] none [9,8,7,2,0]) (.block 0 (.loop [9,8,7,2,0] Zl1))) ZmD))
def Zjo:ZD:=⟨[(.tmp 2),(.tmp 3),(.tmp 4)],ZmT⟩
theorem Zzs:FC 135=some Zjo:=by kernel_rfl
theorem ZGJ:Zjo.body=ZmT:=rfl
theorem ZgW:Zjo.res=[(.tmp 2),(.tmp 3),(.tmp 4)]:=rfl
noncomputable def Zho (m:Nat) (tm:Tms) (σ:Za):Option (AVal×Za):=(Zaq m Zjo (ZbG FC PR BY m ZmD (Option.map (ZaS 0) (evL FC PR BY m [9,8,7,2,0] Zl1 tm σ))))
def Zom:Zf:=(.seq (.region [oI 12 (.mov (.t 0)),oI 13 (.call 142 0 true [(.t 12)]),oI 2 (.mov (.t 13))] none [2]) .ret)
def Zoc:Zf:=Zom
def ZDC:=xw Zoc Zom rfl
def ZhT:Zf:=(.seq (.region [oI 7 (.nxt (.t 6)),oI 8 (.ext (.t 7) 0)] none [8,7,6,0]) (.seq (.cond (.t 8) .skip (.exit 0)) (.block 1 (.seq (.region [oI 9 (.ext (.t 7) 2),oI 4 (.mov (.t 9))] none [6,4,0]) (.seq (.region [oI 10 (.mov (.t 4)),oI 11 (.bin .eql (.t 10) (.c (.int .i32 0)))] none [11,6,0]) (.cond (.t 11) (.seq (.region [oI 2 (.mov (.c (.bool false)))] none [2]) .ret) .skip))))))
def Zoo:Zf:=ZhT
def Zmh:=xw Zoo ZhT rfl
def Zpl:Zf:=(.seq (.region [oI 2 (.mov (.c (.bool false)))] none [0]) (.seq (.seq (.region [oI 5 (.mov (.t 0)),oI 6 (.rng (.t 5))] none [6,0]) (.block 0 (.loop [6,0] Zoo))) Zoc))
def Zjh:ZD:=⟨[(.tmp 2)],Zpl⟩
theorem ZFY:FC 97=some Zjh:=by kernel_rfl
theorem Zzr:Zjh.body=Zpl:=rfl
theorem Zsr:Zjh.res=[(.tmp 2)]:=rfl
noncomputable def Zj6 (m:Nat) (tm:Tms) (σ:Za):Option (AVal×Za):=(Zaq m Zjh (ZbG FC PR BY m Zoc (Option.map (ZaS 0) (evL FC PR BY m [6,0] Zoo tm σ))))
def Znl:Zf:=(.seq (.region [oI 16 (.mov (.t 3)),oI 2 (.mov (.t 16))] none [2]) .ret)
def Zow:Zf:=Znl
def ZDL:=xw Zow Znl rfl
def Zh8:Zf:=(.seq (.region [oI 9 (.bin .lss (.t 8) (.t 7))] none [9,8,7,6,3]) (.seq (.cond (.t 9) .skip (.exit 0)) (.seq (.block 1 (.seq (.region [oI 10 (.iaddr 1 (.t 6) (.t 8)),oI 11 (.ld none (.t 10)),oI 5 (.mov (.t 11))] none [8,7,6,5,3]) (.region [oI 12 (.mov (.t 3)),oI 13 (.mov (.t 5)),oI 14 (.app 1 1 (.int .u8 0) (.t 12) (.t 13)),oI 3 (.mov (.t 14))] none [8,7,6,3]))) (.region [oI 15 (.bin .add (.t 8) (.c (.int .i64 1))),oI 8 (.mov (.t 15))] none [8,7,6,3]))))
def ZlS:Zf:=Zh8
def ZnY:=xw ZlS Zh8 rfl
def ZmB:Zf:=(.seq (.region [oI 2 (.mov (.c (.lst true [])))] none [0]) (.seq (.region [oI 3 (.mov (.c (.lst true [])))] none [3,0]) (.seq (.seq (.region [oI 6 (.mov (.t 0)),oI 7 (.len (.t 6)),oI 8 (.mov (.c (.int .i64 0)))] none [8,7,6,3]) (.block 0 (.loop [8,7,6,3] ZlS))) Zow)))
def Zla:ZD:=⟨[(.tmp 2)],ZmB⟩
theorem ZJc:FC 56=some Zla:=by kernel_rfl
theorem Zzj:Zla.body=ZmB:=rfl
theorem ZwG:Zla.res=[(.tmp 2)]:=rfl
noncomputable def ZjP (m:Nat) (tm:Tms) (σ:Za):Option (AVal×Za):=(Zaq m Zla (ZbG FC PR BY m Zow (Option.map (ZaS 0) (evL FC PR BY m [8,7,6,3] ZlS tm σ))))
def Zoi:Zf:=(.seq (.region [oI 28 (.mov (.t 5)),oI 4 (.mov (.t 28))] none [4]) .ret)
def Zox:Zf:=Zoi
def ZKv:=xw Zox Zoi rfl
def ZjU:Zf:=(.seq (.seq (.region [oI 17 (.mov (.t 6)),oI 18 (.bin .geq (.t 17) (.c (.int .i64 0)))] none [18,6,5,0]) (.cond (.t 18) .skip (.exit 0))) (.seq (.block 1 (.seq (.region [oI 21 (.mov (.t 5)),oI 22 (.mov (.t 6)),oI 23 (.mov (.t 0)),oI 24 (.i2i .u8 (.t 23)),oI 25 (.iaddr 1 (.t 21) (.t 22)),oN (.st 1 (.t 25) (.t 24))] none [6,5,0]) (.region [oI 26 (.mov (.t 0)),oI 27 (.bin .shr (.t 26) (.c (.int .u64 8))),oI 0 (.mov (.t 27))] none [6,5,0]))) (.region [oI 19 (.mov (.t 6)),oI 20 (.bin .sub (.t 19) (.c (.int .i64 1))),oI 6 (.mov (.t 20))] none [6,5,0])))
def Zm7:Zf:=ZjU
def ZuB:=xw Zm7 ZjU rfl
def Zn7:Zf:=(.seq (.region [oI 4 (.mov (.c (.lst true [])))] none [1,0]) (.seq (.seq (.region [oI 7 (.mov (.t 1)),oI 8 (.bin .lss (.t 7) (.c (.int .i64 1))),oI 9 (.mov (.t 8)),⟨(some 10),(.mov (.t 1)),(some (9,false)),[]⟩,⟨(some 11),(.bin .gtr (.t 10) (.c (.int .i64 8))),(some (9,false)),[]⟩,oI 12 (.pick (.t 9) (.c (.bool true)) (.t 11))] none [12,1,0]) (.cond (.t 12) (.seq (.region [oI 4 (.mov (.c (.lst true [])))] none [4]) .ret) .skip)) (.seq (.region [oI 13 (.mov (.t 1)),oI 14 (.mkslice 1 1 (.int .u8 0) (.t 13) (.t 13)),oI 5 (.mov (.t 14))] none [5,1,0]) (.seq (.seq (.region [oI 15 (.mov (.t 1)),oI 16 (.bin .sub (.t 15) (.c (.int .i64 1))),oI 6 (.mov (.t 16))] none [6,5,0]) (.block 0 (.loop [6,5,0] Zm7))) Zox))))
def Zlf:ZD:=⟨[(.tmp 4)],Zn7⟩
theorem ZFi:FC 59=some Zlf:=by kernel_rfl
theorem ZAh:Zlf.body=Zn7:=rfl
theorem ZMz:Zlf.res=[(.tmp 4)]:=rfl
noncomputable def ZkM (m:Nat) (tm:Tms) (σ:Za):Option (AVal×Za):=(Zaq m Zlf (ZbG FC PR BY m Zox (Option.map (ZaS 0) (evL FC PR BY m [6,5,0] Zm7 tm σ))))
def Zjg:Zf:=(.seq (.region [oI 2 (.mov (.c (.lst true []))),oI 3 (.mov (.c (.int .i64 0)))] none [0]) (.seq (.seq (.region [oI 4 (.mov (.t 0)),oI 5 (.call 97 0 true [(.t 4)]),oI 6 (.un .not (.t 5))] none [6,0]) (.cond (.t 6) (.seq (.region [oI 2 (.mov (.c (.lst true []))),oI 3 (.mov (.c (.int .i64 13)))] none [3,2]) .ret) .skip)) (.seq (.region [oI 7 (.mov (.t 0)),oI 8 (.s2b (.t 7)),oI 9 (.call 55 0 true [(.t 8)]),oI 10 (.ext (.t 9) 0),oI 11 (.ext (.t 9) 1),oI 2 (.mov (.t 10)),oI 3 (.mov (.t 11))] none [3,2]) .ret)))
def Zpb:ZD:=⟨[(.tmp 2),(.tmp 3)],Zjg⟩
theorem ZtU:FC 54=some Zpb:=by kernel_rfl
theorem ZtS:Zpb.body=Zjg:=rfl
theorem ZsA:Zpb.res=[(.tmp 2),(.tmp 3)]:=rfl
def Zkf:Zf:=(.seq (.region [oI 21 (.mov (.t 4)),oI 22 (.mov (.t 0)),oI 23 (.i2i .u8 (.t 22)),oI 24 (.bslice false 1 1 (.int .u8 0) [(0,(.t 23))]),oI 25 (.app 1 1 (.int .u8 0) (.t 21) (.t 24)),oI 2 (.mov (.t 25)),oI 3 (.mov (.c (.int .i64 0)))] none [3,2]) .ret)
def ZpJ:Zf:=Zkf
def Zul:=xw ZpJ Zkf rfl
def ZgY:Zf:=(.seq (.seq (.region [oI 11 (.mov (.t 0)),oI 12 (.bin .gtr (.t 11) (.c (.int .i64 127)))] none [12,4,0]) (.cond (.t 12) .skip (.exit 0))) (.seq (.block 1 (.region [oI 15 (.mov (.t 4)),oI 16 (.mov (.t 0)),oI 17 (.i2i .u8 (.t 16)),oI 18 (.bin .or (.t 17) (.c (.int .u8 128))),oI 19 (.bslice false 1 1 (.int .u8 0) [(0,(.t 18))]),oI 20 (.app 1 1 (.int .u8 0) (.t 15) (.t 19)),oI 4 (.mov (.t 20))] none [4,0])) (.region [oI 13 (.mov (.t 0)),oI 14 (.bin .shr (.t 13) (.c (.int .u64 7))),oI 0 (.mov (.t 14))] none [4,0])))
def ZpH:Zf:=ZgY
def ZjW:=xw ZpH ZgY rfl
def ZiE:Zf:=(.seq (.region [oI 2 (.mov (.c (.lst true []))),oI 3 (.mov (.c (.int .i64 0)))] none [0]) (.seq (.seq (.region [oI 5 (.mov (.t 0)),oI 6 (.bin .lss (.t 5) (.c (.int .i64 0))),oI 7 (.mov (.t 6)),⟨(some 8),(.mov (.t 0)),(some (7,false)),[]⟩,⟨(some 9),(.bin .gtr (.t 8) (.c (.int .i64 268435455))),(some (7,false)),[]⟩,oI 10 (.pick (.t 7) (.c (.bool true)) (.t 9))] none [10,0]) (.cond (.t 10) (.seq (.region [oI 2 (.mov (.c (.lst true []))),oI 3 (.mov (.c (.int .i64 10)))] none [3,2]) .ret) .skip)) (.seq (.region [oI 4 (.mov (.c (.lst true [])))] none [4,0]) (.seq (.block 0 (.loop [4,0] ZpH)) ZpJ))))
def Zi9:ZD:=⟨[(.tmp 2),(.tmp 3)],ZiE⟩
theorem ZHP:FC 82=some Zi9:=by kernel_rfl
theorem ZlQ:Zi9.body=ZiE:=rfl
theorem Zi7:Zi9.res=[(.tmp 2),(.tmp 3)]:=rfl
noncomputable def ZlA (m:Nat) (tm:Tms) (σ:Za):Option (AVal×Za):=(Zaq m Zi9 (ZbG FC PR BY m ZpJ (Option.map (ZaS 0) (evL FC PR BY m [4,0] ZpH tm σ))))
end Go.Proofs.YtmlkhhidifjjfaaDoor
namespace Go.Proofs.YtmlkhhidifjjfaaDoor
open Go.RowKit
inductive Ty where
 | bool
 | int (k:IntKind)
 | str
 | slice (s:Bool) (e:Ty)
 | struct (fs:List Ty)
 deriving Inhabited
def Zde:Option TypeDesc→Bool
 | some (.struct _)=>true
 | some (.array _ _)=>true
 | _=>false
def Zis (P:Program):Nat→List Field→Nat→Bool
 | at',[],n=>at' == n
 | at',f::fs,n=>f.offset == at' && Zis P (at'+P.cellsOf f.type) fs n
def ZcX (P:Program):Nat→TypeId→Option Ty
 | 0,_=>none
 | n+1,t=>match P.underlying t with
  | some .bool=>some .bool
  | some (.int k)=>some (.int k)
  | some .string=>some .str
  | some (.slice e)=>if 0 < P.cellsOf e then (ZcX P n e).map (.slice (Zde (P.underlying e))) else none
  | some (.struct fs)=>if Zis P 0 fs.toList (P.cellsOf t) then (fs.toList.mapM fun f=>ZcX P n f.type).map .struct else none
  | _=>none
def ZbZ (s:Bool) (y:List AVal):AVal:=if s then .agg y else y.headD .nilp
def Imm.of (w:World):Imm:=fun b o=>w.cell? ⟨b,o,none⟩
section
variable {H:Type} {enc:TypeId×Value→H} {P:Program} {w:World} {spare:Nat→Bool} {held:Bool}
theorem ZLV {b off:Nat} {s:Option Nat} {u:Value} (h:w.cell? ⟨b,off,s⟩=some u):s=none:=by
 unfold World.cell? at h
 split at h
 ·rcases s with _ | s
  ·rfl
  ·simp at h
 ·cases h
theorem ZwD {s:Bool} {y:List AVal} (h:s=false→y.length=1) (h1:s=false→∀ x ∈ y,ZV x=true):(ZbZ s y).cells=y:=by
 cases s with
 | true=>rfl
 | false =>
  match y,h rfl with
  | [x],_ =>
   have:=h1 rfl x (by simp)
   cases x <;> simp_all [ZbZ,AVal.cells,ZV]
theorem ZBD {a:Addr} (h:a.spot=none) (n:Nat):a.add n=⟨a.block,a.off+n,none⟩:=by
 unfold Addr.add
 split
 ·rename_i e;subst e;cases a;simp_all
 ·rfl
theorem ZwU {I:Imm} {β:Bmap} {xs:List AVal} {vs:List Value} {n:Nat} (h:VRs I β xs (vs.take n)) {ys:List AVal} (h':VRs I β ys (vs.drop n)):VRs I β (xs++ys) vs:=by
 have:=Zcf h h'
 rwa [List.take_append_drop] at this
theorem ZuS {α β:Type} {f:α→Option β} {a:α} {l:List α} {r:List β} (h:(a::l).mapM f=some r):∃ b r',f a=some b∧l.mapM f=some r'∧r=b::r':=by
 rw [List.mapM_cons] at h
 simp only [Option.bind_eq_bind,Option.bind_eq_some_iff,Option.pure_def,Option.some.injEq] at h
 obtain ⟨b,h1,r',h2,h3⟩:=h
 exact ⟨b,r',h1,h2,h3.symm⟩
theorem ZDl {a b:List AVal} (ha:ZaB a=true) (hb:ZaB b=true):ZaB (a++b)=true:=by
 induction a with
 | nil=>exact hb
 | cons x a ih=>simp only [List.cons_append,ZaB,Bool.and_eq_true] at ha ⊢;exact ⟨ha.1,ih ha.2⟩
theorem Zty {I:Imm} {β:Bmap} {s:Bool} {k b:Nat}:∀ (n off:Nat) (Y:Nat→List AVal),(∀ i,i < n→(ZbZ s (Y i)).cells.length=k∧CR I β (ZbZ s (Y i)).cells b (off+i*k))→LR I β k ((List.range n).map fun i=>ZbZ s (Y i)) b off
 | 0,off,Y,_=>by simp [LR]
 | n+1,off,Y,h=>by
  rw [List.range_succ_eq_map,List.map_cons,Zfl]
  have h0:=h 0 (by omega)
  simp only [Nat.zero_mul,Nat.add_zero] at h0
  refine ⟨h0,?_⟩
  rw [List.map_map]
  exact Zty n (off+k) (fun i=>Y (i+1)) (fun i hi=>by
   have:=h (i+1) (by omega)
   rw [show off+k+i*k=off+(i+1)*k by rw [Nat.succ_mul];omega]
   exact this)
theorem ZsZ {I:Imm} {β:Bmap} {b:Nat}:∀ (xs:List AVal) (cs:List Value) (off:Nat),VRs I β xs cs→(∀ i,i < cs.length→I b (off+i)=cs[i]?)→CR I β xs b off
 | [],_,_,_,_=>by simp only [CR]
 | x::xs,cs,off,h,hI=>by
  simp only [VRs] at h
  obtain ⟨v,vs',rfl,h1,h2⟩:=h
  simp only [CR]
  refine ⟨⟨v,by have:=hI 0 (by simp);simpa using this,h1⟩,ZsZ xs vs' (off+1) h2 fun i hi=>?_⟩
  have:=hI (i+1) (by simp;omega)
  rw [show off+1+i=off+(i+1) by omega,this]
  simp
theorem ZmR {s:Bool}:∀ (n:Nat) (Y:Nat→List AVal),(∀ i,i < n→ZaB (ZbZ s (Y i)).cells=true)→Z5 ((List.range n).map fun i=>ZbZ s (Y i))=true
 | 0,Y,_=>by simp [Z5]
 | n+1,Y,h=>by
  rw [List.range_succ_eq_map,List.map_cons,Ztj,h 0 (by omega),List.map_map]
  simp only [Bool.true_and]
  exact ZmR n (fun i=>Y (i+1)) (fun i hi=>h (i+1) (by omega))
theorem ZtL {xs:List AVal} (h:ZaB xs=true):∀ x ∈ xs,ZV x=true:=by
 induction xs with
 | nil=>intro x hx;simp at hx
 | cons y ys ih =>
  simp only [ZaB,Bool.and_eq_true] at h
  intro x hx
  rcases List.mem_cons.1 hx with rfl | hx
  ·cases x <;> simp_all [ZaI,ZV]
  ·exact ih h.2 x hx
theorem Rel.start (w:World) (hG:Gl.le (Imm.of w)):Rel (fun b=>b < w.heap.size) w (Imm.of w) (Imm.of w) B0 [] w where
 below:=KB.refl _ w
 old:=fun _ _ _=>rfl
 imm:=fun _ _ _ h=>h
 blk:=fun t x h=>by simp at h
 own:=fun t x b h=>by simp at h
 apart:=fun t x t' x' b h=>by simp at h
 fresh:=fun _ _ _=>rfl
 free:=fun t g h=>by simp at h
 gen:=fun t b g h=>by simp at h
 glob:=hG
theorem ZCJ {O:ZO} (hO:ZaH P O) {f:Nat} {args:List AVal} {vs:Array Value} {σ':Za} (hG:Gl.le (Imm.of w)) (hargs:VRs (Imm.of w) B0 args vs.toList) (h:O f args []=some (.bool true,σ')) :
  Calls P f vs w (fun e w'=>e=.returned (.bool true)∧Below w.heap.size w w'):=by
 refine ((hO f args [] _ _ h).2 _ w _ _ B0 w vs (fun b hb=>hb) (Rel.start w hG) hargs).mono ?_
 rintro e w' ⟨u,he,I',β',_,_,R,hv⟩
 simp only [ZaP,VR] at hv
 subst hv
 exact ⟨he,R.below.os,R.below.tape,R.below.output,R.below.size,R.below.block⟩
end
end Go.Proofs.YtmlkhhidifjjfaaDoor
namespace Go.Proofs.YtmlkhhidifjjfaaDoor
open Go.RowKit
theorem ZyM (id:Nat) (tm:Tms) (σ:Za):ZaS id (.normal,tm,σ)=(.normal,tm,σ):=rfl
theorem ZCy (id i:Nat) (tm:Tms) (σ:Za):ZaS id (.exit i,tm,σ)=if i=id then (.normal,tm,σ) else (.exit i,tm,σ):=by simp only [ZaS]
theorem ZLs (id:Nat) (tm:Tms) (σ:Za):ZaS id (.ret,tm,σ)=(.ret,tm,σ):=rfl
theorem Zza (id:Nat) (x:AVal) (tm:Tms) (σ:Za):ZaS id (.panic x,tm,σ)=(.panic x,tm,σ):=rfl
section
variable (O:ZO) (byref:Nat→Bool)
def Zds (c:Cls):Option (Tms×Za×List Cls×Option AVal)→Option (Tms×Za×List Cls×Option AVal)
 | none=>none
 | some (tm,σ,cs,p)=>some (tm,σ,c::cs,p)
def Zgg (c:List Cls):Option (Tms×Za×List Cls×Option AVal)→Option (Tms×Za×List Cls×Option AVal)
 | none=>none
 | some (tm,σ,cs,p)=>some (tm,σ,c++cs,p)
def kC (d:Option Nat) (os:List AOp) (s:Nat) (tm:Tms):Option (AVal×Za×Cls)→Option (Tms×Za×List Cls×Option AVal)
 | none=>none
 | some (v,σ,c)=>if ZaL v then some (tput tm d v,σ,[c],some (ZaP v)) else Zds c (ZT O byref os s (tput tm d v) σ)
def Zeu (ops:List AOp) (L:Nat) (l:List (Nat×Nat)) (live:List Nat):Option (Tms×Za×List Cls×Option AVal)→Option (ZaO×Tms×Za)
 | none=>none
 | some (_,σ,cs,some x)=>if Zda ops L l cs then some (.panic x,[],σ) else none
 | some (tm,σ,cs,none)=>if Zc5 ops L l cs then some (.normal,keepL live tm,σ) else none
variable {O byref}
theorem ZrM (s:Nat) (tm:Tms) (σ:Za):ZT O byref [] s tm σ=some (tm,σ,[],none):=rfl
theorem ZJS (c:Cls) (tm:Tms) (σ:Za) (cs:List Cls) (p:Option AVal):Zds c (some (tm,σ,cs,p))=some (tm,σ,c::cs,p):=rfl
theorem ZAR (c:Cls):Zds c none=none:=rfl
theorem ZzL (c:Cls) (q:Prop) [Decidable q] (x y:Option (Tms×Za×List Cls×Option AVal)):Zds c (if q then x else y)=if q then Zds c x else Zds c y:=by split <;> rfl
theorem Zw1 (c:List Cls) (tm:Tms) (σ:Za) (cs:List Cls) (p:Option AVal):Zgg c (some (tm,σ,cs,p))=some (tm,σ,c++cs,p):=rfl
theorem Zy2 (c:List Cls):Zgg c none=none:=rfl
theorem ZId (c:List Cls) (q:Prop) [Decidable q] (x y:Option (Tms×Za×List Cls×Option AVal)):Zgg c (if q then x else y)=if q then Zgg c x else Zgg c y:=by split <;> rfl
theorem Zjf {o:AOp} {os:List AOp} {s:Nat} {tm tm1:Tms} {σ σ1:Za} {v:AVal} {c:Cls} (h:ZP O byref o s tm σ=some (v,tm1,σ1,c)) (hn:ZaL v=false):ZT O byref (o::os) s tm σ=Zds c (ZT O byref os (s+nsite o.ins) tm1 σ1):=by
 rw [Zq5 h hn]
 cases ZT O byref os (s+nsite o.ins) tm1 σ1 <;> rfl
theorem ZoT (d:Option Nat) (i:Ins) (af:List Nat) (os:List AOp) (s:Nat) (tm:Tms) (σ:Za):ZT O byref (⟨d,i,none,af⟩::os) s tm σ=kC O byref d os (s+nsite i) tm (exI O byref i s tm σ):=by
 cases h:exI O byref i s tm σ with
 | none=>exact ZhO (by rw [ZkJ,h];rfl)
 | some q =>
  obtain ⟨v,σ1,c⟩:=q
  have hs:ZP O byref ⟨d,i,none,af⟩ s tm σ=some (v,tput tm d v,σ1,c):=by rw [ZkJ,h];rfl
  cases hp:ZaL v with
  | true =>
   obtain ⟨x,rfl⟩:=ZjB hp
   exact Zj1 hs
  | false =>
   rw [Zjf hs hp]
   simp only [kC,hp,Bool.false_eq_true,if_false]
theorem ZoD (d:Option Nat) (os:List AOp) (s:Nat) (tm:Tms) (v:AVal) (σ:Za) (c:Cls) (h:ZaL v=false):kC O byref d os s tm (some (v,σ,c))=Zds c (ZT O byref os s (tput tm d v) σ):=by
 simp only [kC,h,Bool.false_eq_true,if_false]
theorem ZIt (d:Option Nat) (os:List AOp) (s:Nat) (tm:Tms) (x:AVal) (σ:Za) (c:Cls):kC O byref d os s tm (some (.pan x,σ,c))=some (tput tm d (.pan x),σ,[c],some x):=rfl
theorem ZJ3 (d:Option Nat) (os:List AOp) (s:Nat) (tm:Tms):kC O byref d os s tm none=none:=rfl
theorem ZF7 (d:Option Nat) (os:List AOp) (s:Nat) (tm:Tms) (q:Prop) [Decidable q] (x y:Option (AVal×Za×Cls)):kC O byref d os s tm (if q then x else y)=if q then kC O byref d os s tm x else kC O byref d os s tm y:=by split <;> rfl
theorem ZxO (ops:List AOp) (l:List (Nat×Nat)) (live:List Nat) (tm:Tms) (σ:Za):ZbP O byref ops (some l) live tm σ=Zeu ops σ.length l live (ZT O byref ops σ.length tm (σ++List.replicate (sitesOf ops) .free)):=by
 unfold ZbP
 cases ZT O byref ops σ.length tm (σ++List.replicate (sitesOf ops) .free) with
 | none=>rfl
 | some q =>
  obtain ⟨tm',σ',cs,p⟩:=q
  cases p <;> rfl
theorem ZtE (ops:List AOp) (L:Nat) (l:List (Nat×Nat)) (live:List Nat) (tm:Tms) (σ:Za) (cs:List Cls) (h:Zc5 ops L l cs=true):Zeu ops L l live (some (tm,σ,cs,none))=some (.normal,keepL live tm,σ):=by
 simp only [Zeu,h,if_true]
theorem ZgM (ops:List AOp) (L:Nat) (l:List (Nat×Nat)) (live:List Nat) (tm:Tms) (σ:Za) (cs:List Cls) (x:AVal) (h:Zda ops L l cs=true):Zeu ops L l live (some (tm,σ,cs,some x))=some (.panic x,[],σ):=by
 simp only [Zeu,h,if_true]
theorem ZGB (ops:List AOp) (L:Nat) (l:List (Nat×Nat)) (live:List Nat):Zeu ops L l live none=none:=rfl
theorem ZKE (ops:List AOp) (L:Nat) (l:List (Nat×Nat)) (live:List Nat) (q:Prop) [Decidable q] (x y:Option (Tms×Za×List Cls×Option AVal)):Zeu ops L l live (if q then x else y)=if q then Zeu ops L l live x else Zeu ops L l live y:=by split <;> rfl
theorem ZKP (ops:List AOp) (L:Nat) (l:List (Nat×Nat)) (cs:List Cls) (h:(cs.all fun c=>c.wr.isEmpty && !c.any)=true) (hs:(l.all fun p=>p.1 == p.2 || nsite (ops.getD p.1 default).ins == 0)=true):Zc5 ops L l cs=true:=by
 have hd:∀ i,Zdn (cs.getD i {})=true:=by
  intro i
  rw [List.all_eq_true] at h
  rw [List.getD_eq_getElem?_getD]
  cases hi:cs[i]? with
  | none=>rfl
  | some c=>exact h c (List.mem_of_getElem? hi)
 unfold Zc5
 rw [List.all_eq_true] at hs ⊢
 intro p hp
 have:=hs p hp
 rw [Bool.or_eq_true] at this ⊢
 rcases this with this | this
 ·exact Or.inl this
 ·refine Or.inr ?_
  unfold Zce
  simp only [hd,this,Bool.and_true,Bool.true_and,Bool.true_or,Bool.or_true]
theorem ZGP (ops:List AOp) (L:Nat) (l:List (Nat×Nat)) (live:List Nat) (tm:Tms) (σ:Za) (cs:List Cls) (h:(cs.all fun c=>c.wr.isEmpty && !c.any)=true) (hs:(l.all fun p=>p.1 == p.2 || nsite (ops.getD p.1 default).ins == 0)=true):Zeu ops L l live (some (tm,σ,cs,none))=some (.normal,keepL live tm,σ) :=
 ZtE _ _ _ _ _ _ _ (ZKP _ _ _ _ h hs)
variable (O byref) in
def gKC (os:List AOp) (s:Nat):Option (Tms×Za×List Cls×Option AVal)→Option (Tms×Za×List Cls×Option AVal)
 | none=>none
 | some (tm,σ,cs,some x)=>some (tm,σ,cs,some x)
 | some (tm,σ,cs,none)=>Zgg cs (ZT O byref os s tm σ)
theorem ZyO (os:List AOp) (s:Nat) (tm:Tms) (σ:Za) (cs:List Cls):gKC O byref os s (some (tm,σ,cs,none))=Zgg cs (ZT O byref os s tm σ):=rfl
theorem ZBu (os:List AOp) (s:Nat) (q:Prop) [Decidable q] (x y:Option (Tms×Za×List Cls×Option AVal)):gKC O byref os s (if q then x else y)=if q then gKC O byref os s x else gKC O byref os s y:=by split <;> rfl
theorem ZB3 (os:List AOp) (s:Nat) (c:Cls) (r:Option (Tms×Za×List Cls×Option AVal)):gKC O byref os s (Zds c r)=Zds c (gKC O byref os s r):=by
 cases r with
 | none=>rfl
 | some q =>
  obtain ⟨tm,σ,cs,p⟩:=q
  cases p with
  | some x=>rfl
  | none =>
   simp only [Zds,gKC]
   cases ZT O byref os s tm σ <;> rfl
theorem ZtD:∀ (a b:List AOp) (s:Nat) (tm:Tms) (σ:Za),ZT O byref (a++b) s tm σ=gKC O byref b (s+sitesOf a) (ZT O byref a s tm σ)
 | [],b,s,tm,σ=>by
  simp only [List.nil_append,ZrM,gKC,sitesOf,List.map_nil,List.sum_nil,Nat.add_zero]
  cases ZT O byref b s tm σ <;> rfl
 | o::a,b,s,tm,σ=>by
  have ih:=ZtD a b
  simp only [List.cons_append]
  have hs:s+nsite o.ins+sitesOf a=s+sitesOf (o::a):=by simp [sitesOf,Nat.add_assoc]
  cases hst:ZP O byref o s tm σ with
  | none=>rw [ZhO hst,ZhO hst];rfl
  | some q =>
   obtain ⟨v,tm1,σ1,c⟩:=q
   cases hp:ZaL v with
   | true =>
    obtain ⟨x,rfl⟩:=ZjB hp
    rw [Zj1 hst,Zj1 hst];rfl
   | false=>rw [Zjf hst hp,Zjf hst hp,ih,hs,ZB3]
variable (O byref) in
def Zet (j:Nat) (w:Bool) (g:List AOp) (s:Nat) (tm:Tms) (σ:Za):Option (Tms×Za×List Cls×Option AVal):=match Zbn (some (j,w)) tm with
 | none=>none
 | some false=>some (Zar g tm,σ,g.map fun _=>{},none)
 | some true=>ZT O byref (g.map unG) s tm σ
theorem Zqu (j:Nat) (w:Bool):∀ (g:List AOp),(∀ o ∈ g,o.guard=some (j,w)∧o.dst≠some j)→∀ (s:Nat) (tm:Tms) (σ:Za),g≠[]→ZT O byref g s tm σ=Zet O byref j w g s tm σ
 | [],_,_,_,_,h=>absurd rfl h
 | o::g,hall,s,tm,σ,_=>by
  obtain ⟨hg,hd⟩:=hall o (by simp)
  have ih:∀ (tm:Tms) (σ:Za) (s:Nat),Zbn (some (j,w)) tm≠none→ZT O byref g s tm σ=Zet O byref j w g s tm σ:=by
   intro tm σ s hw
   by_cases he:g=[]
   ·subst he
    unfold Zet
    cases hx:Zbn (some (j,w)) tm with
    | none=>exact absurd hx hw
    | some b=>cases b <;> rfl
   ·exact Zqu j w g (fun o ho=>hall o (by simp [ho])) s tm σ he
  cases hx:Zbn (some (j,w)) tm with
  | none =>
   rw [ZhO (by simp only [ZP,hg,hx])]
   simp only [Zet,hx]
  | some b =>
   cases b with
   | false =>
    have h1:ZT O byref (o::g) s tm σ=Zds {} (ZT O byref g (s+nsite o.ins) (tput tm o.dst (.tup [])) σ) :=
     Zjf (v:=.tup []) (c:={}) (by simp only [ZP,hg,hx]) rfl
    rw [h1,ih _ _ _ (by rw [Zfi hd,hx];simp)]
    unfold Zet
    rw [Zfi hd,hx]
    rfl
   | true =>
    have key:∀ r:Option (AVal×Za×Cls),(∀ v σ' c,r=some (v,σ',c)→ZaL v=false→ZT O byref g (s+nsite o.ins) (tput tm o.dst v) σ'=ZT O byref (g.map unG) (s+nsite o.ins) (tput tm o.dst v) σ')→kC O byref o.dst g (s+nsite o.ins) tm r=kC O byref o.dst (g.map unG) (s+nsite o.ins) tm r:=by
     intro r hr
     cases r with
     | none=>rfl
     | some q =>
      obtain ⟨v,σ',c⟩:=q
      cases hp:ZaL v with
      | true=>simp only [kC,hp,if_true]
      | false=>rw [ZoD _ _ _ _ _ _ _ hp,ZoD _ _ _ _ _ _ _ hp,hr v σ' c rfl hp]
    have h1:ZT O byref (o::g) s tm σ=kC O byref o.dst g (s+nsite o.ins) tm (exI O byref o.ins s tm σ):=by
     have h0:ZT O byref (o::g) s tm σ=ZT O byref (⟨o.dst,o.ins,none,o.after⟩::g) s tm σ:=by
      have hst:ZP O byref o s tm σ=ZP O byref ⟨o.dst,o.ins,none,o.after⟩ s tm σ:=by
       unfold ZP
       simp only [hg,hx]
       rfl
      simp only [ZT,hst]
     rw [h0,ZoT]
    rw [h1]
    unfold Zet
    rw [hx]
    simp only [List.map_cons]
    rw [show unG o=⟨o.dst,o.ins,none,o.after⟩ from rfl,ZoT]
    refine key _ fun v σ' c _ _=>?_
    rw [ih _ _ _ (by rw [Zfi hd,hx];simp)]
    unfold Zet
    rw [Zfi hd,hx]
theorem ZCj (d:Option Nat) (i:Ins) (j:Nat) (w:Bool) (af:List Nat) (os:List AOp) (s:Nat) (tm:Tms) (σ:Za) (hd:decide (d=some j)=false) :
  ZT O byref (⟨d,i,some (j,w),af⟩::os) s tm σ=gKC O byref (ZE j w os).2 (s+sitesOf (⟨d,i,some (j,w),af⟩::(ZE j w os).1)) (Zet O byref j w (⟨d,i,some (j,w),af⟩::(ZE j w os).1) s tm σ):=by
 have h:=Zoe j w os
 have hall:∀ o ∈ (⟨d,i,some (j,w),af⟩::(ZE j w os).1:List AOp),o.guard=some (j,w)∧o.dst≠some j:=by
  intro o ho
  rcases List.mem_cons.1 ho with rfl | ho
  ·exact ⟨rfl,by simpa using hd⟩
  ·exact Zn2 j w os o ho
 rw [←Zqu j w _ hall s tm σ (by simp),←ZtD,List.cons_append,h]
variable (O byref) in
def gWC (w:Bool) (g:List AOp) (s:Nat) (tm:Tms) (σ:Za):AVal→Option (Tms×Za×List Cls×Option AVal)
 | .bool b=>if b=w then ZT O byref (g.map unG) s tm σ else some (Zar g tm,σ,g.map fun _=>{},none)
 | .tup []=>some (Zar g tm,σ,g.map fun _=>{},none)
 | _=>none
theorem ZIE (j:Nat) (w:Bool) (g:List AOp) (s:Nat) (tm:Tms) (σ:Za):Zet O byref j w g s tm σ=gWC O byref w g s tm σ (tget tm j):=by
 unfold Zet Zbn
 simp only
 generalize tget tm j=v
 cases v
 case bool b=>cases b <;> cases w <;> rfl
 case tup vs=>cases vs <;> rfl
 all_goals rfl
theorem ZGu (w:Bool) (g:List AOp) (s:Nat) (tm:Tms) (σ:Za) (b:Bool):gWC O byref w g s tm σ (.bool b)=if b=w then ZT O byref (g.map unG) s tm σ else some (Zar g tm,σ,g.map fun _=>{},none):=rfl
theorem ZJH (w:Bool) (g:List AOp) (s:Nat) (tm:Tms) (σ:Za):gWC O byref w g s tm σ (.tup [])=some (Zar g tm,σ,g.map fun _=>{},none):=rfl
theorem ZJE (q:Prop) [Decidable q] (t1 t2:Tms) (σ1 σ2:Za) (cs:List Cls):(if q then some (t1,σ1,cs,(none:Option AVal)) else some (t2,σ2,cs,none))=some ((if q then t1 else t2),(if q then σ1 else σ2),cs,none):=by split <;> rfl
end
section
theorem Zle {r:AVal} {cs:List AVal} {σ:Za} (hr:ZH r=true) (hc:Zd cs=true):gcA 1 [r] (.var cs::σ)=([r],[.var cs]):=by
 have e1:=(ZaX (Zl (.var cs::σ) 1 [0]) r hr)
 have e2:=(ZaN (Zl (.var cs::σ) 1 [0]) cs hc)
 have h1:ZB 1 [r] (.var cs::σ)=[0]:=by
  have : Zr [r]=[]:=by simp only [Zr,e1.2,List.append_nil]
  simp only [ZB,this,List.range_one,List.flatMap_cons,List.flatMap_nil,List.append_nil,List.getD_cons_zero,ZM,e2.2]
  rfl
 simp only [gcA,h1,Ze,e1.1,Zw,List.getD_cons_zero,ZG,e2.1]
theorem ZU {r:AVal} {cs:List AVal} {σ:Za} (hr:ZH r=true) (hc:Zd cs=true):Zai 1 (.var cs::σ) r=some (r,[.var cs]):=by
 simp only [Zai,Zle hr hc]
theorem ZeZ {σ:Za} {t:Nat} {cs:List AVal} (hs:σ[t]?=some (.var cs)) (hc:Zd cs=true):Zz σ 1000 [t] []=[t]:=by
 have hd:σ.getD t .free=.var cs:=by simp [List.getD_eq_getElem?_getD,hs]
 have e2:=(ZaN (fun _ _=>none) cs hc).2
 show Zz σ (999+1) [t] []=[t]
 simp only [Zz,List.contains_nil,Bool.false_eq_true,if_false,hd,ZM,e2,List.nil_append]
end
end Go.Proofs.YtmlkhhidifjjfaaDoor
namespace Go.Proofs.YtmlkhhidifjjfaaDoor
section
variable (c:Prop) [Decidable c]
theorem ZK5 (t1 t2:Tms) (σ1 σ2:Za):(if c then some (ZaO.normal,t1,σ1) else some (ZaO.normal,t2,σ2))=some (ZaO.normal,(if c then t1 else t2),(if c then σ1 else σ2)):=by split <;> rfl
theorem ZD6 (t1 t2:Tms) (σ1 σ2:Za):(if c then some (ZaO.ret,t1,σ1) else some (ZaO.ret,t2,σ2))=some (ZaO.ret,(if c then t1 else t2),(if c then σ1 else σ2)):=by split <;> rfl
theorem ZJ7 (t1 t2:Tms) (σ1 σ2:Za):(if c then some (t1,σ1,(none:Option AVal)) else some (t2,σ2,none))=some ((if c then t1 else t2),(if c then σ1 else σ2),none):=by split <;> rfl
theorem Zx5 (n:Nat) (a b:AVal):(if c then (n,a) else (n,b))=(n,if c then a else b):=by split <;> rfl
theorem ZAt (a b:AVal) (σ1 σ2:Za):(if c then some (a,σ1) else some (b,σ2))=some ((if c then a else b),(if c then σ1 else σ2)):=by split <;> rfl
theorem ZMi (a b:AVal) (σ1 σ2:Za) (x y:Cls):(if c then some (a,σ1,x) else some (b,σ2,y))=some ((if c then a else b),(if c then σ1 else σ2),if c then x else y):=by split <;> rfl
end
theorem ZwJ {α:Type} (p:Bool) (x y z:α):(if p=true then x else (if p=false then y else z))=if p=true then x else y:=by cases p <;> rfl
theorem ZKo (ops:List AOp) (b:Nat) (cs:List Cls):Zc5 ops b [] cs=true:=rfl
theorem ZIj (ops:List AOp) (b:Nat) (p:Nat×Nat) (l:List (Nat×Nat)) (cs:List Cls):Zc5 ops b (p::l) cs=((p.1 == p.2 || Zce (ops.getD p.1 default) (ops.getD p.2 default) (cs.getD p.1 {}) (cs.getD p.2 {}) (b+sitesOf (ops.take p.1))) && Zc5 ops b l cs):=by
 simp only [Zc5,List.all_cons]
theorem ZEf (oj oi:AOp) (cj ci:Cls) (sj:Nat):Zce oj oi cj ci sj=(Zb3 oj cj || Zb3 oi ci || (Zdn cj && Zdn ci && (nsite oj.ins == 0 || !ci.rd.contains sj)) || (Z9 oj.ins && (Zdn ci && ci.rd.isEmpty)) || (Zab oj.ins && Z9 oi.ins && ci.any && Zae cj ci) || (Zab oj.ins && (Zak oi.ins || (Zal oi.ins && Zam cj ci)) && Zae cj ci)):=rfl
theorem ZCi (o:AOp) (rd wr:List Nat) (any:Bool) (got:List (Nat×Option Nat×Nat×AVal)) (upd:List (Nat×List AVal)):Zb3 o ⟨rd,wr,any,got,upd⟩=(nsite o.ins == 0 && rd.isEmpty && wr.isEmpty && !any):=rfl
theorem ZLt (rd wr:List Nat) (any:Bool) (got:List (Nat×Option Nat×Nat×AVal)) (upd:List (Nat×List AVal)):Zdn ⟨rd,wr,any,got,upd⟩=(wr.isEmpty && !any):=rfl
theorem Zaf {α:Type} {l:List α} {i:Nat} {x:α} {r:List α} (h:l.drop i=x::r):l[i]?=some x∧l.drop (i+1)=r∧i < l.length:=by
 have h1:i < l.length:=by
  rcases Nat.lt_or_ge i l.length with h1 | h1
  ·exact h1
  ·rw [List.drop_eq_nil_of_le h1] at h;cases h
 rw [List.drop_eq_getElem_cons h1] at h
 injection h with h2 h3
 exact ⟨by rw [List.getElem?_eq_getElem h1,h2],h3,h1⟩
theorem ZcZ {α:Type} {l:List α} {i:Nat} (h:l.drop i=[]):¬(i:Int) < l.length:=by
 have:=List.drop_eq_nil_iff.1 h;omega
theorem iad {α:Type} {l:List α} {i:Nat} {x:α} (h:l[i]?=some x) (f:α→AVal) {k:Nat} (hk:(f x).cells.length=k) (σ:Za) (n:Bool) (kk:IntKind):Zdm σ k (.lst n (l.map f)) (.int kk (i:Int))=some (.iptr (f x).cells 0,σ,{}):=by
 have h0:(0:Int)≤(i:Int):=Int.natCast_nonneg i
 unfold Zdm
 simp only [h0,if_true,Int.toNat_natCast,List.getElem?_map,h,Option.map_some,hk]
theorem Zb0 {n:Int} (h0:-9223372036854775808≤n) (h:n≤9223372036854775807):IntKind.i64.wrap n=n:=by
 rw [IntKind.wrap_i64];omega
theorem Zjr {α β:Type} {a:List α} {b:List β} (h:a.length=b.length):((a.length:Int) != (b.length:Int))=false:=by simp [h]
theorem Zkk {α β:Type} {a:List α} {b:List β} (h:a.length≠b.length):((a.length:Int) != (b.length:Int))=true:=by
 simp only [bne_iff_ne,ne_eq];omega
theorem ZjE {α:Type} [BEq α] [LawfulBEq α] {a b:List α} (h:a.length≠b.length):(a == b)=false:=by
 simp only [beq_eq_false_iff_ne,ne_eq];rintro rfl;exact h rfl
theorem Zc7 {i n:Nat} (h:(i:Int) < n) (hn:n≤9223372036854775807):IntKind.i64.wrap ((i:Int)+1)=((i+1:Nat):Int):=by
 rw [Zb0 (by omega) (by omega)];rfl
theorem Zcd {O:ZO} {byref:Nat→Bool} {f:Nat} {args:List AVal} {r:AVal} (h:O f args []=some (r,[])) (hb:byref f=false) (hp:args.all Z6=true) (hn:args.map ZF=args) (hv:Zbx 0 (some (r,[]))=some (r,[])) (hr:∀ site,Zk (Zav [] [] site) r=r) (σ:Za) (site own:Nat) (view:Bool):Zj O byref σ site f own view args=some (r,σ,{}):=by
 rw [Zf5 hb hp,hn,h]
 have : Zad view 0 (some (r,[]))=some (r,[]):=by
  unfold Zad
  split
  ·exact hv
  ·rfl
 rw [this,Zh4 _ _ _ _ (hr site)]
theorem Zg3 {α:Type} (σ:Za) (k:Nat) (l:List α) (f:α→AVal) (kk:IntKind) (n:Int) (h0:0≤n) (h:n≤(l.length:Int)):ZbN σ k (.lst false (l.map f)) none (some (.int kk n)) none=some (.lst false ((l.take n.toNat).map f),σ,{}):=by
 simp only [ZbN,Zbf,ZdZ,List.length_map,h0,h,and_self,if_true,beq_self_eq_true,Bool.true_or,Option.isSome_none,Bool.false_eq_true,if_false,Bool.false_and,List.drop_zero,List.map_take]
abbrev Zb:=List UInt8
def ZI (b:Zb):AVal:=.lst false (b.map Zc)
structure Zu where
 id:Int
 num:Int
 text:Zb
 pair:Zb
 data:Zb
 deriving DecidableEq
def ZbA (p:Zu):List AVal:=[.int .i64 p.id,.int .i64 p.num,.str p.text,.str p.pair,ZI p.data]
def Zm (p:Zu):AVal:=.agg (ZbA p)
def Za1 (l:List Zu):AVal:=.lst false (l.map Zm)
theorem ZB1 (l:Zb):bytesOf (l.map Zc)=some l:=by
 induction l with
 | nil=>rfl
 | cons b l ih =>
  simp only [List.map_cons,bytesOf,ih,Zc,Zop,Int.toNat_natCast,UInt8.ofNat_toNat]
end Go.Proofs.YtmlkhhidifjjfaaDoor
namespace Go.Proofs.YtmlkhhidifjjfaaDoor
def beB:Nat→Nat→Zb
 | _,0=>[]
 | n,w+1=>beB (n / 256) w++[UInt8.ofNat (n % 256)]
theorem Zbc:∀ (w n:Nat),(beB n w).length=w
 | 0,_=>rfl
 | w+1,n=>by simp [beB,Zbc w]
def ZhZ (x:Nat) (b:Zb):Nat:=b.foldl (fun x c=>(x*256+c.toNat) % 18446744073709551616) x
def Zcw (b:Zb):Nat:=ZhZ 0 b
theorem ZcE (x:Nat) (c:UInt8) (b:Zb):ZhZ x (c::b)=ZhZ ((x*256+c.toNat) % 18446744073709551616) b:=rfl
theorem ZeV (x:Nat):ZhZ x []=x:=rfl
def ZbU:Nat→Nat→Zb
 | 0,n=>[UInt8.ofNat n]
 | k+1,n=>if n < 128 then [UInt8.ofNat n] else UInt8.ofNat (n % 128+128)::ZbU k (n / 128)
def Zaj (n:Int):Zb×Int:=if n < 0∨n > 268435455 then ([],10) else (ZbU 3 n.toNat,0)
def gvA (i n:Nat):Zb→Nat×Nat×Int
 | []=>if i < 4 then (0,0,11) else (0,0,12)
 | c::r=>if i=4 then (0,0,12) else if c.toNat < 128 then (if c=0∧0 < i then (0,0,12) else (n+c.toNat % 128*128 ^ i,i+1,0)) else gvA (i+1) (n+c.toNat % 128*128 ^ i) r
def Z4 (b:Zb):Nat×Nat×Int:=gvA 0 0 b
def Zbt (b:Zb):Zb×Int:=if b.length > 65535 then ([],10) else (beB b.length 2++b,0)
def ZaA (b:Zb):Zb×Nat×Int :=
 if b.length < 2∨b.length - 2 < Zcw (b.take 2) then ([],0,11) else ((b.drop 2).take (Zcw (b.take 2)),2+Zcw (b.take 2),0)
end Go.Proofs.YtmlkhhidifjjfaaDoor
namespace Go.Proofs.YtmlkhhidifjjfaaDoor
def Zsm:=(And.intro (And.intro (And.intro (And.intro (And.intro (And.intro @ZJf @Zwt) (And.intro @Zvp @ZHb)) (And.intro (And.intro @ZHF @ZGW) (And.intro @ZLj @ZK9))) (And.intro (And.intro (And.intro @ZqS @Zpv) (And.intro @ZzC @Zpc)) (And.intro (And.intro @ZAG @ZFe) (And.intro @ZLb @ZxT)))) (And.intro (And.intro (And.intro (And.intro @ZJg @ZyI) (And.intro @ZyB @ZyU)) (And.intro (And.intro @ZEC @ZD9) (And.intro @ZyC @ZHN))) (And.intro (And.intro (And.intro @ZEg @ZET) (And.intro @ZxH @ZC9)) (And.intro (And.intro @ZK8 @ZB1) (And.intro @ZK5 @ZD6))))) (And.intro (And.intro (And.intro (And.intro (And.intro @ZJ7 @Zx5) (And.intro @ZAt @ZMi)) (And.intro (And.intro @ZGj @ZDf) (And.intro @ZzQ @ZLf))) (And.intro (And.intro (And.intro @ZJw @ZG4) (And.intro @Zzv @ZxO)) (And.intro (And.intro @ZrM @ZoT) (And.intro @ZCj @ZJS)))) (And.intro (And.intro (And.intro (And.intro @ZAR @ZzL) (And.intro @Zw1 @Zy2)) (And.intro (And.intro @ZId @ZoD) (And.intro @ZIt @ZJ3))) (And.intro (And.intro (And.intro @ZF7 @ZGP) (And.intro @ZGB @ZKE)) (And.intro (And.intro @ZyO @ZBu) (And.intro @ZIE @ZGu))))))
def ZBK:=(And.intro (And.intro (And.intro (And.intro (And.intro (And.intro @ZJH @ZJE) (And.intro @ZyM @ZCy)) (And.intro (And.intro @ZLs @Zza) (And.intro @ZKo @ZIj))) (And.intro (And.intro (And.intro @ZEf @ZCi) (And.intro @ZLt @ZtE)) (And.intro (And.intro @ZK3 @ZLJ) (And.intro @ZD7 @ZLZ)))) (And.intro (And.intro (And.intro (And.intro @ZLD @Zu3) (And.intro @ZEi @ZF4)) (And.intro (And.intro @Zq0 @Zxl) (And.intro @Zwa @ZHM))) (And.intro (And.intro (And.intro @ZLW @ZBB) (And.intro @ZI8 @ZKH)) (And.intro (And.intro @ZxW @ZHA) (And.intro @ZLa @ZAo))))) (And.intro (And.intro (And.intro (And.intro (And.intro @ZGn @ZGe) (And.intro @ZFA @ZyD)) (And.intro (And.intro @Zw8 @Zw5) (And.intro @ZCn @ZIP))) (And.intro (And.intro (And.intro @ZKW @ZvG) (And.intro @ZB5 @ZEO)) (And.intro (And.intro @ZEb @ZG9) (And.intro @ZLr @ZH2)))) (And.intro (And.intro (And.intro (And.intro @ZHI @Zzb) (And.intro @ZGl @ZJB)) (And.intro (And.intro @ZAI @ZC4) (And.intro @ZFm @ZFy))) (And.intro (And.intro (And.intro @ZMa @ZDg) (And.intro @ZJM @ZDp)) (And.intro (And.intro @ZxP @Zvi) (And.intro @ZGN @ZBO))))))
def Za6:=(And.intro (And.intro (And.intro (And.intro (And.intro (And.intro @ZAl @Zz3) (And.intro @ZIh @ZKF)) (And.intro (And.intro @ZLw @ZAc) (And.intro @ZzZ @ZDO))) (And.intro (And.intro (And.intro @ZG3 @ZwC) (And.intro @ZIk @ZwK)) (And.intro (And.intro @ZGZ @ZxM) (And.intro @Zxn @ZzY)))) (And.intro (And.intro (And.intro (And.intro @ZGh @ZD5) (And.intro @Zxb @ZwS)) (And.intro (And.intro @Zyl @ZES) (And.intro @ZH1 @Zw9))) (And.intro (And.intro (And.intro @ZHS @ZyJ) (And.intro @ZMm @Zy0)) (And.intro (And.intro @ZIw @ZGq) (And.intro @ZzE @Zwy))))) (And.intro (And.intro (And.intro (And.intro (And.intro @ZFc @ZzM) (And.intro @ZAY @ZMX)) (And.intro (And.intro @ZJt @Zx1) (And.intro @ZEj @ZMt))) (And.intro (And.intro (And.intro @ZzX @Zv2) (And.intro @ZwR @Zxy)) (And.intro (And.intro @ZFt @ZIB) (And.intro @Zz5 @Zvs)))) (And.intro (And.intro (And.intro (And.intro @ZwP @ZCD) (And.intro @ZDA @ZFH)) (And.intro (And.intro @ZJK @ZFv) (And.intro @ZCZ @Zzi))) (And.intro (And.intro (And.intro @Zva @ZCS) (And.intro @ZvT @ZJy)) (And.intro (And.intro @Zww @ZJ9) (And.intro @Zxf @ZEW))))))
def Zcv:=(And.intro (And.intro (And.intro (And.intro (And.intro (And.intro @ZzO @ZKg) (And.intro @Zwj @ZxA)) (And.intro (And.intro @ZCE @Zvf) (And.intro @Zyo @Zyc))) (And.intro (And.intro (And.intro @ZGr @Zvj) (And.intro @ZJV @Zq4)) (And.intro (And.intro @ZzD @Ztn) (And.intro @ZMV @Zve)))) (And.intro (And.intro (And.intro (And.intro @ZJZ @ZLA) (And.intro @ZuF @ZB7)) (And.intro (And.intro @Zx7 @ZxE) (And.intro @Zxo @Zwp))) (And.intro (And.intro (And.intro @ZH8 @ZIz) (And.intro @ZIs @ZFp)) (And.intro (And.intro @ZDP @ZFz) (And.intro @ZFL @ZE7))))) (And.intro (And.intro (And.intro (And.intro (And.intro @ZMI @ZJJ) (And.intro @ZA0 @ZEE)) (And.intro (And.intro @ZDG @ZJL) (And.intro @ZuJ @ZGs))) (And.intro (And.intro (And.intro @ZEp @ZGE) (And.intro @ZDV @ZEA)) (And.intro (And.intro @Zx8 @ZMw) (And.intro @ZFd @ZrG)))) (And.intro (And.intro (And.intro (And.intro @ZHn @Zse) (And.intro @ZKM @ZxG)) (And.intro (And.intro @ZBS @ZFZ) (And.intro @Zq9 @ZzK))) (And.intro (And.intro (And.intro @ZFX @Zvc) (And.intro @ZJv @ZF5)) (And.intro (And.intro @Zzx @ZKl) (And.intro @ZHy @ZFr))))))
def ZC:=(And.intro (And.intro (And.intro (And.intro (And.intro (And.intro @ZwV @ZEF) (And.intro @ZK4 @ZKr)) (And.intro (And.intro @Zxm @ZG1) (And.intro @ZKU @ZAL))) (And.intro (And.intro (And.intro @ZzR @ZCQ) (And.intro @ZEc @Zqs)) (And.intro (And.intro @ZB8 @Zvq) (And.intro @ZFf @Zx0)))) (And.intro (And.intro (And.intro (And.intro @ZxJ @ZBU) (And.intro @ZvO @ZL9)) (And.intro (And.intro @ZLq @ZCV) (And.intro @Zvb @ZvV))) (And.intro (And.intro (And.intro @Zzf @ZxI) (And.intro @ZJ0 @Zzw)) (And.intro (And.intro @ZGm @ZxK) (And.intro @ZJG @Zvk))))) (And.intro (And.intro (And.intro (And.intro (And.intro @ZDm @ZMN) (And.intro @ZAi @ZCY)) (And.intro (And.intro @Zv7 @ZCo) (And.intro @Zzn @Zwd))) (And.intro (And.intro (And.intro @ZEl @ZHh) (And.intro @ZIM @ZCR)) (And.intro (And.intro @Zyv @Zzz) (And.intro @ZKD @ZGt)))) (And.intro (And.intro (And.intro (And.intro @ZKw @ZD2) (And.intro @ZKe @ZKb)) (And.intro (And.intro @ZIn @ZA1) (And.intro @ZK7 @ZyF))) (And.intro (And.intro (And.intro @ZBo @Zzo) (And.intro @ZER @ZKG)) (And.intro (And.intro @ZAZ @ZIG) (And.intro @ZDQ @ZHl))))))
def ZrX:=(And.intro (And.intro (And.intro (And.intro (And.intro (And.intro @Zv5 @ZHq) (And.intro @Zya @ZMC)) (And.intro (And.intro @ZHf @ZvI) (And.intro @ZCX @ZKz))) (And.intro (And.intro (And.intro @ZFk @Zyb) (And.intro @ZBy @ZIF)) (And.intro (And.intro @ZCC @Zxu) (And.intro @Zym @ZCA)))) (And.intro (And.intro (And.intro (And.intro @ZJT @ZAP) (And.intro @ZDi @ZK0)) (And.intro (And.intro @Zzl @ZLn) (And.intro @ZKQ @ZyG))) (And.intro (And.intro (And.intro @Zyg @Zxw) (And.intro @ZKS @ZFE)) (And.intro (And.intro @Zvn @ZFj) (And.intro @ZEr @ZyW))))) (And.intro (And.intro (And.intro (And.intro (And.intro @ZMF @ZCf) (And.intro @ZMc @ZIW)) (And.intro (And.intro @ZMJ @ZKT) (And.intro @ZGz @ZxU))) (And.intro (And.intro (And.intro @ZCT @ZJu) (And.intro @ZF2 @ZA3)) (And.intro (And.intro @ZyH @ZJk) (And.intro @Zvh @ZHB)))) (And.intro (And.intro (And.intro (And.intro @ZKj @ZK6) (And.intro @ZH5 @ZzW)) (And.intro (And.intro @ZEt @ZFs) (And.intro @ZJD @ZA9))) (And.intro (And.intro (And.intro @ZBT @ZBA) (And.intro @ZKY @ZBp)) (And.intro (And.intro @ZKN @ZBn) (And.intro @ZF8 @Zz9))))))
def Zs:=(And.intro (And.intro (And.intro (And.intro (And.intro (And.intro @ZJp @ZCa) (And.intro @ZHx @ZMx)) (And.intro (And.intro @ZDz @ZMy) (And.intro @ZDH @ZGV))) (And.intro (And.intro (And.intro @ZEQ @Zxs) (And.intro @ZvP @ZwW)) (And.intro (And.intro @ZKi @ZIa) (And.intro @ZMW @ZKA)))) (And.intro (And.intro (And.intro (And.intro @Zxp @ZHs) (And.intro @ZxZ @ZGR)) (And.intro (And.intro @ZG8 @ZBC) (And.intro @ZIC @ZIA))) (And.intro (And.intro (And.intro @ZC3 @ZHO) (And.intro @ZIK @ZLT)) (And.intro (And.intro @ZEh @ZAu) (And.intro @ZL7 @ZGb))))) (And.intro (And.intro (And.intro (And.intro (And.intro @ZBt @ZKO) (And.intro @ZA5 @ZFO)) (And.intro (And.intro @ZCU @ZDs) (And.intro @ZCl @ZHo))) (And.intro (And.intro (And.intro @ZJO @ZMG) (And.intro @ZKf @ZGa)) (And.intro (And.intro @ZAn @ZIQ) (And.intro @Zw7 @ZAq)))) (And.intro (And.intro (And.intro (And.intro @ZL3 @ZFP) (And.intro @ZJ1 @Zyj)) (And.intro (And.intro @ZEI @Zz0) (And.intro @ZGU @ZDM))) (And.intro (And.intro (And.intro @ZDF @Zzh) (And.intro @ZIc @ZCr)) (And.intro (And.intro @Zwl @ZDt) (And.intro @ZJa @ZFg))))))
def Zaa:=(And.intro (And.intro (And.intro (And.intro (And.intro @ZEZ (And.intro @ZAF @ZzS)) (And.intro (And.intro @ZMh @ZAr) (And.intro @Zwu @ZvN))) (And.intro (And.intro @Zzm (And.intro @ZGL @ZMK)) (And.intro (And.intro @ZHQ @ZLR) (And.intro @ZK1 @Zyw)))) (And.intro (And.intro (And.intro @ZwI (And.intro @ZHj @ZHd)) (And.intro (And.intro @Zwg @ZKq) (And.intro @Zyk @ZvD))) (And.intro (And.intro (And.intro @ZAT @ZwY) (And.intro @ZyV @ZDc)) (And.intro (And.intro @ZIv @ZDU) (And.intro @ZIT @ZJm))))) (And.intro (And.intro (And.intro (And.intro @ZFl (And.intro @ZAD @ZI7)) (And.intro (And.intro @ZE1 @ZIf) (And.intro @ZzF @ZAS))) (And.intro (And.intro (And.intro @ZAU @ZCt) (And.intro @ZIm @ZEd)) (And.intro (And.intro @ZHH @Zy3) (And.intro @Zw6 @ZBF)))) (And.intro (And.intro (And.intro @ZC1 (And.intro @ZF0 @ZAv)) (And.intro (And.intro @ZAg @ZvB) (And.intro @ZFb @ZLg))) (And.intro (And.intro (And.intro @Zu7 @ZJA) (And.intro @ZGI @ZMp)) (And.intro (And.intro @ZDK @ZU) (And.intro @ZMg @ZtF))))))
def Zbh:=(And.intro (And.intro (And.intro (And.intro (And.intro (And.intro @List.map_cons.{0,0} @List.map_nil.{0,0}) (And.intro @List.length_cons.{0} @List.length_nil.{0})) (And.intro (And.intro @List.replicate_zero.{0} @List.replicate_succ.{0}) (And.intro @List.append_nil.{0} @List.nil_append.{0}))) (And.intro (And.intro (And.intro @List.cons_append.{0} @List.getElem?_cons_zero.{0}) (And.intro @List.getElem?_cons_succ.{0} @List.set_cons_zero.{0})) (And.intro (And.intro @List.set_cons_succ.{0} @Nat.add_zero) (And.intro @Nat.zero_add @Bool.true_or)))) (And.intro (And.intro (And.intro (And.intro @Bool.false_or @Bool.or_true) (And.intro @Bool.or_false @Bool.and_true)) (And.intro (And.intro @Bool.true_and @Bool.and_self) (And.intro @Bool.and_false @Bool.false_and))) (And.intro (And.intro (And.intro @if_true.{1} @if_false.{1}) (And.intro @ite_true.{1} @ite_false.{1})) (And.intro (And.intro @Option.map_some.{0,0} @Option.map_none.{0,0}) (And.intro @and_self @and_true))))) (And.intro (And.intro (And.intro (And.intro (And.intro @true_and @and_false) (And.intro @false_and @true_or)) (And.intro (And.intro @or_true @false_or) (And.intro @or_false @not_true_eq_false))) (And.intro (And.intro (And.intro @not_false_eq_true @List.drop_zero.{0}) (And.intro @List.drop_succ_cons.{0} @List.take_succ_cons.{0})) (And.intro (And.intro @List.take_zero.{0} @List.all_cons.{0}) (And.intro @List.all_nil.{0} @List.isEmpty_nil.{0})))) (And.intro (And.intro (And.intro (And.intro @Bool.not_false @Bool.not_true) (And.intro @List.length_map.{0,0} @Bool.bne_false)) (And.intro (And.intro @Bool.bne_true @List.isEmpty_cons.{0}) (And.intro @List.getD_cons_zero.{0} @List.getD_cons_succ.{0}))) (And.intro (And.intro (And.intro @List.getD_nil.{0} @List.contains_nil.{0}) (And.intro @List.range_zero @List.flatMap_cons.{0,0})) (And.intro (And.intro @List.flatMap_nil.{0,0} @List.zip_cons_cons.{0,0}) (And.intro @List.zip_nil_left.{0,0} @List.zip_nil_right.{0,0}))))))
def Zcy:=@Nat.not_lt_zero
def EQA := (And.intro (And.intro (And.intro (And.intro (And.intro (And.intro Zsm (And.intro ZBK ZrX)) (And.intro (And.intro Zbh @exI.eq_1) (And.intro @nsite.eq_1 @nsite.eq_2))) (And.intro (And.intro @nsite.eq_3 (And.intro @nsite.eq_4 @nsite.eq_5)) (And.intro (And.intro @nsite.eq_6 @nsite.eq_7) (And.intro @nsite.eq_8 @nsite.eq_9)))) (And.intro (And.intro (And.intro @nsite.eq_10 (And.intro @freeAt.eq_1 @execI.eq_1)) (And.intro (And.intro @execI.eq_2 @execI.eq_3) (And.intro @execI.eq_4 @execI.eq_5))) (And.intro (And.intro (And.intro @execI.eq_6 @execI.eq_7) (And.intro @execI.eq_8 @execI.eq_9)) (And.intro (And.intro @execI.eq_10 @execI.eq_11) (And.intro @execI.eq_12 @execI.eq_13))))) (And.intro (And.intro (And.intro (And.intro @execI.eq_14 (And.intro @execI.eq_15 @execI.eq_16)) (And.intro (And.intro @execI.eq_17 @execI.eq_18) (And.intro @execI.eq_19 @execI.eq_20))) (And.intro (And.intro @execI.eq_21 (And.intro @execI.eq_22 @execI.eq_23)) (And.intro (And.intro @execI.eq_24 @execI.eq_25) (And.intro @execI.eq_26 @execI.eq_27)))) (And.intro (And.intro (And.intro @execI.eq_28 (And.intro @execI.eq_29 @execI.eq_30)) (And.intro (And.intro @execI.eq_31 @execI.eq_32) (And.intro @execI.eq_33 @execI.eq_34))) (And.intro (And.intro (And.intro @execI.eq_35 @execI.eq_36) (And.intro @execI.eq_37 @execI.eq_38)) (And.intro (And.intro @execI.eq_39 @execI.eq_40) (And.intro @execI.eq_41 @execI.eq_42)))))) (And.intro (And.intro (And.intro (And.intro (And.intro @execI.eq_43 (And.intro @execI.eq_44 @Opd.ev.eq_1)) (And.intro (And.intro @Opd.ev.eq_2 @tget.eq_1) (And.intro @tget.eq_2 @tins.eq_1))) (And.intro (And.intro @tins.eq_2 (And.intro @tput.eq_1 @tput.eq_2)) (And.intro (And.intro @keepL.eq_1 @sitesOf.eq_1) (And.intro @resA.eq_1 @resAll.eq_1)))) (And.intro (And.intro (And.intro @resAll.eq_2 (And.intro @resOne.eq_1 @resOne.eq_2)) (And.intro (And.intro @enterA.eq_1 @enterA.eq_2) (And.intro @partA.eq_1 @partA.eq_2))) (And.intro (And.intro (And.intro @faddrA.eq_1 @faddrA.eq_2) (And.intro @faddrA.eq_3 @faddrA.eq_4)) (And.intro (And.intro @setAt.eq_1 @binA.eq_1) (And.intro @binA.eq_2 @binA.eq_3))))) (And.intro (And.intro (And.intro (And.intro @binA.eq_4 (And.intro @binA.eq_5 @arithA.eq_1)) (And.intro (And.intro @arithA.eq_2 @arithA.eq_3) (And.intro @arithA.eq_4 @arithA.eq_5))) (And.intro (And.intro (And.intro @arithA.eq_6 @arithA.eq_7) (And.intro @arithA.eq_8 @arithA.eq_9)) (And.intro (And.intro @arithA.eq_10 @arithA.eq_11) (And.intro @arithA.eq_12 @arithA.eq_13)))) (And.intro (And.intro (And.intro @arithA.eq_14 (And.intro @arithA.eq_15 @arithA.eq_16)) (And.intro (And.intro @ldA.eq_1 @ldA.eq_2) (And.intro @ldA.eq_3 @ldA.eq_4))) (And.intro (And.intro (And.intro @stA.eq_1 @stA.eq_2) (And.intro @stA.eq_3 @List.sum_cons.{0})) (And.intro (And.intro @List.sum_nil.{0} @eq_self.{1}) (And.intro @beq_self_eq_true.{0} @Bool.false_eq_true)))))))
end Go.Proofs.YtmlkhhidifjjfaaDoor
namespace Go.Proofs.YtmlkhhidifjjfaaDoor
theorem ZxY {O:ZO} {byref:Nat→Bool} {σ:Za} {site f own:Nat} {view:Bool} {args:List AVal} (h:args.all Z6=true) (hm:args.map ZF=args) :
  Zj O byref σ site f own view args=Zaz σ σ [] [] site own (Zad view 0 (O f args [])):=by
 cases hb:byref f
 ·rw [Zf5 hb h,hm]
 ·have hr:=ZcW h
  have hn:=fun ρ=>Zc6 (ρ:=ρ) h
  rw [hm] at hr
  simp only [hm] at hn
  unfold Zj ZbH
  rw [hb]
  simp only [if_true]
  have h1:Zp σ []=σ:=rfl
  rw [h1,hr]
  have h2:Zz σ 1000 [] []=[]:=rfl
  rw [h2]
  unfold Zbu
  simp only [List.all_nil,if_true,hn,Zw,List.length_nil]
theorem ZlU {O:ZO} {byref:Nat→Bool} {f:Nat} {args:List AVal} {k n:Nat} {xs:List AVal} (h:O f args []=some (.sl 0 0 0 n,[.row 0 k xs])) (hn:xs.length=n) (hp:args.all Z6=true) (hm:args.map ZF=args) (σ:Za) (site own:Nat):Zj O byref σ site f own true args=some (.lst false xs,σ,{}):=by
 rw [ZxY hp hm,h]
 have : Zad true 0 (some (.sl 0 0 0 n,[.row 0 k xs]))=some (.lst false xs,[]):=by
  unfold Zad
  rw [if_pos rfl,ZzT (k:=k) (g:=0) (t:=0) (xs:=xs) rfl (by omega),List.take_of_length_le (by omega)]
 rw [this,Zh4 _ _ _ _ rfl]
theorem ZAB {O:ZO} {byref:Nat→Bool} {σ:Za} {f:Nat} {args vs:List AVal} {ts:List Nat} {r r':AVal} (hb:byref f=false) (hsh:showAs σ args=some (vs,ts)) (hp:vs.all Z6=true) (hm:vs.map ZF=vs) (h:O f vs []=some (r,[])) (hv:Zbx 0 (some (r,[]))=some (r',[])) (site own:Nat) :
  Zj O byref σ site f own true args=if Zbw r' then some (r',σ,{ rd:=ts }) else if ZcY σ ts r' then some (r',σ,{ rd:=ts }) else some (Zk (Zav [] [] site) r',Zp σ ts,{ rd:=ts,wr:=ts }):=by
 have hr:=ZcW hp
 have hn:=fun ρ=>Zc6 (ρ:=ρ) hp
 rw [hm] at hr
 simp only [hm] at hn
 unfold Zj ZbH
 rw [hb]
 simp only [Bool.false_eq_true,if_false,hsh]
 rw [hr]
 have h2:∀ σ,Zz σ 1000 [] []=[]:=fun _=>rfl
 rw [h2]
 unfold Zbu
 simp only [List.all_nil,if_true,hn,Zw,List.length_nil,h]
 have : Zad true 0 (some (r,[]))=some (r',[]):=by unfold Zad;rw [if_pos rfl,hv]
 rw [this]
 simp only [Zaz,List.isEmpty_nil,Bool.and_self,if_true]
theorem ZHT {O:ZO} {byref:Nat→Bool} {σ:Za} {f:Nat} {args vs:List AVal} {ts:List Nat} {r r':AVal} (hb:byref f=false) (hsh:showAs σ args=some (vs,ts)) (hp:vs.all Z6=true) (hm:vs.map ZF=vs) (h:O f vs []=some (r,[])) (hv:Zbx 0 (some (r,[]))=some (r',[])) (hap:ZcY σ ts r'=true) (site own:Nat) :
  Zj O byref σ site f own true args=some (r',σ,{ rd:=ts }):=by
 rw [ZAB hb hsh hp hm h hv,if_pos hap]
 split <;> rfl
theorem Zbj {O:ZO} {byref:Nat→Bool} {f:Nat} {args args':List AVal} {r r':AVal} (h:O f args' []=some (r,[])) (hb:byref f=false) (hp:args.all Z6=true) (hn:args.map ZF=args') (hv:Zbx 0 (some (r,[]))=some (r',[])) (hr:∀ site,Zk (Zav [] [] site) r'=r') (σ:Za) (site own:Nat):Zj O byref σ site f own true args=some (r',σ,{}):=by
 rw [Zf5 hb hp,hn,h]
 have : Zad true 0 (some (r,[]))=some (r',[]):=by
  unfold Zad
  rw [if_pos rfl];exact hv
 rw [this,Zh4 _ _ _ _ (hr site)]
theorem ZGo (k n:Nat) (xs:List AVal) (σ:Za):Zai 0 (.row 0 k xs::σ) (.sl 0 0 0 n)=some (.sl 0 0 0 n,[.row 0 k xs]):=by
 simp [Zai,gcA,ZB,Zz,Zr,ZW,Zl,Zw,ZY,Zo,ZR,Ze,Zk,ZG,ZM]
def Zez:List AVal→AVal
 | []=>.lst true []
 | x::xs=>.sl 0 0 0 (x::xs).length
def Zeo (k:Nat):List AVal→Za
 | []=>[]
 | x::xs=>[.row 0 k (x::xs)]
theorem Zfr:Zez []=.lst true []:=rfl
theorem ZhG (x:AVal) (xs:List AVal):Zez (x::xs)=.sl 0 0 0 (x::xs).length:=rfl
theorem ZfD (k:Nat):Zeo k []=[]:=rfl
theorem ZgK (k:Nat) (x:AVal) (xs:List AVal):Zeo k (x::xs)=[.row 0 k (x::xs)]:=rfl
theorem ZfW (l:Zb):kOk 1 (l.map Zc)=true:=by cases l <;> rfl
end Go.Proofs.YtmlkhhidifjjfaaDoor
namespace Go.Proofs.YtmlkhhidifjjfaaDoor
set_option maxHeartbeats 4000000
set_option maxRecDepth 10000
theorem ZJn (n:Nat):IntKind.u8.wrap (n:Int)=((UInt8.ofNat (n % 256)).toNat:Int):=by
 rw [IntKind.wrap_u8,UInt8.toNat_ofNat']
 omega
theorem ZGk (k n:Nat) (xs:List AVal) (σ:Za):Zai 0 (.row 0 k xs::σ) (.sl 0 0 0 n)=some (.sl 0 0 0 n,[.row 0 k xs]):=by
 simp [Zai,gcA,ZB,Zz,Zr,ZW,Zl,Zw,ZY,Zo,ZR,Ze,Zk,ZG,ZM]
theorem Zxd (m:Nat) (z:AVal) (t:List AVal):(List.replicate (m+1) z++t)[m]?=some z:=by
 rw [List.getElem?_append_left (by simp)];simp
theorem Zvy (m:Nat) (z v:AVal) (t:List AVal):(List.replicate (m+1) z++t).set m v=List.replicate m z++v::t:=by
 rw [List.replicate_succ',List.append_assoc,List.set_append_right _ _ (by simp)];simp
theorem Zqn (W:Nat) (hW:W≤8):∀ (m n:Nat) (tail:Zb),m+tail.length=W→ZkM 0 [(6,.int .i64 ((m:Int) - 1)),(5,.sl 0 0 0 W),(0,.int .u64 (n:Nat))] [.row 0 1 (List.replicate m (.int .u8 0)++tail.map Zc)]=some (.sl 0 0 0 W,[.row 0 1 ((beB n m++tail).map Zc)])
 | 0,n,tail,h=>by
  have h1:¬(((0:Nat):Int) - 1≥0):=by omega
  unfold ZkM
  rw [Zac,beB]
  simp -implicitDefEqProofs only [EQA,Nat.reduceLT,Nat.reduceEqDiff,reduceCtorEq,decide_false,↓reduceIte,ZMz,ZKv,Zoi,ZuB,ZjU,oI,oN,h1,ZGk]
 | m+1,n,tail,h=>by
  have ih:=Zqn W hW m (n / 256) (UInt8.ofNat (n % 256)::tail) (by simp;omega)
  have e0:((m+1:Nat):Int) - 1=(m:Int):=by omega
  have h1:(m:Int)≥0:=by omega
  have h2:(0:Int)≤(m:Int):=by omega
  have h3:m < W:=by omega
  have hg:=Zxd m (.int .u8 0) (tail.map Zc)
  have hs:=Zvy m (.int .u8 0) (Zc (UInt8.ofNat (n % 256))) (tail.map Zc)
  have hb:=ZJn n
  have hw:IntKind.i64.wrap ((m:Int) - 1)=(m:Int) - 1:=Zb0 (by omega) (by omega)
  have hd:(n:Int).fdiv (2 ^ min (Int.toNat 8) IntKind.u64.bits)=((n / 256:Nat):Int):=by
   rw [show (2:Int) ^ min (Int.toNat 8) IntKind.u64.bits=256 from rfl,Int.fdiv_eq_ediv_of_nonneg _ (by decide)]
   omega
  have e1:beB n (m+1)++tail=beB (n / 256) m++(UInt8.ofNat (n % 256)::tail):=by simp [beB]
  rw [e0,e1]
  have e2:List.replicate m (AVal.int .u8 0)++(UInt8.ofNat (n % 256)::tail).map Zc=List.replicate m (.int .u8 0)++Zc (UInt8.ofNat (n % 256))::tail.map Zc:=rfl
  rw [e2] at ih
  generalize hX:List.replicate (m+1) (AVal.int .u8 0)++tail.map Zc=X at *
  generalize hY:List.replicate m (AVal.int .u8 0)++Zc (UInt8.ofNat (n % 256))::tail.map Zc=Y at *
  unfold Zc at hs
  unfold ZkM at ih ⊢
  rw [Zac]
  simp -implicitDefEqProofs only [EQA,Zaa,Zcy,Nat.reduceLT,Nat.reduceEqDiff,Zaw,ne_eq,reduceCtorEq,decide_true,↓reduceIte,gcT,gcA,ZB,Zz,Zl,Zw,ZY,Zo,ZR,ZG,ZM,ZuB,ZjU,oI,oN,h1,h3,hg,hs,hb,hw,hd,Zdm,Int.toNat_natCast,AVal.cells,ZaG,ZK,ZiD,Zp,Int.reduceLT]
  exact ih
theorem ZIX (n W:Nat) (h1:1≤W) (hW:W≤8):E 59 [.int .u64 (n:Nat),.int .i64 (W:Nat)] []=some (.sl 0 0 0 W,[.row 0 1 ((beB n W).map Zc)]):=by
 have key:=Zqn W hW W n [] (by simp)
 have c1:¬((W:Int) < 1):=by omega
 have c2:¬((W:Int) > 8):=by omega
 have c3:(0:Int)≤(W:Int):=by omega
 have c4:(W:Int)≤9223372036854775807:=by omega
 have c5:((1:Nat):Int)*(W:Int)≤140737488355328:=by omega
 have w1:IntKind.i64.wrap ((W:Int) - 1)=(W:Int) - 1:=Zb0 (by omega) (by omega)
 simp only [List.map_nil,List.append_nil] at key
 rw [Zh (by rfl) ZFi]
 unfold ZkM at key
 simp -implicitDefEqProofs only [EQA,ZC,Zaa,Zcy,Nat.reduceLT,Nat.reduceEqDiff,Nat.reduceBEq,ZE,unG,ne_eq,Option.some.injEq,reduceCtorEq,decide_false,↓reduceIte,gcT,gcA,ZB,Zz,Zl,Zw,ZY,Zo,ZR,ZG,ZM,ZAh,Zn7,oI,c1,c2,c3,c4,c5,w1,Int.le_refl,Int.toNat_natCast]
 exact key
theorem Zj3 (σ:Za) (site own:Nat) (n W:Nat) (h1:1≤W) (hW:W≤8):Zj E BY σ site 59 own true [.int .u64 (n:Nat),.int .i64 (W:Nat)]=some (.lst false ((beB n W).map Zc),σ,{}) :=
 ZlU (byref:=BY) (ZIX n W h1 hW) (by simp [Zbc]) rfl rfl σ site own
theorem ZJl (x c:Nat) (hc:c < 256):IntKind.u64.wrap (((BitVec.ofInt IntKind.u64.bits (IntKind.u64.wrap ((x:Int)*2 ^ min (Int.toNat 8) IntKind.u64.bits)) ||| BitVec.ofInt IntKind.u64.bits (c:Int)).toNat:Nat):Int)=(((x*256+c) % 18446744073709551616:Nat):Int):=by
 rw [show (2:Int) ^ min (Int.toNat 8) IntKind.u64.bits=256 from rfl]
 have hb:IntKind.u64.bits=64:=rfl
 rw [hb,IntKind.wrap_u64,IntKind.wrap_u64]
 have e1:(x:Int)*256 % 18446744073709551616=((x*256 % 18446744073709551616:Nat):Int):=by omega
 rw [e1,BitVec.toNat_or]
 simp only [BitVec.ofInt_natCast,BitVec.toNat_ofNat]
 have e2:x*256 % 18446744073709551616 % 2 ^ 64=(x % 72057594037927936) <<< 8:=by
  rw [Nat.shiftLeft_eq];omega
 have e3:c % 2 ^ 64=c:=by omega
 rw [e2,e3,←Nat.shiftLeft_add_eq_or_of_lt (by omega:c < 2 ^ 8),Nat.shiftLeft_eq]
 omega
theorem Zuz (b:Zb) (hl:b.length≤9223372036854775807):∀ (r:Zb) (i x:Nat),b.drop i=r→Zlb 0 [(8,.int .i64 i),(7,.int .i64 b.length),(6,.lst false (b.map Zc)),(3,.int .u64 (x:Nat))] []=some (.int .u64 (ZhZ x r:Nat),[])
 | [],i,x,h=>by
  have h1:=ZcZ h
  unfold Zlb
  rw [Zac,ZeV]
  simp -implicitDefEqProofs only [EQA,Nat.reduceLT,Nat.reduceEqDiff,decide_false,↓reduceIte,ZID,ZMP,Zov,Zql,Zkn,oI,h1]
 | c::r,i,x,h=>by
  have ih:=Zuz b hl r (i+1) ((x*256+c.toNat) % 18446744073709551616) (Zaf h).2.1
  have h1:(i:Int) < b.length:=by have:=(Zaf h).2.2;omega
  have e1:=iad (Zaf h).1 Zc (k:=1) rfl
  have e3:=Zc7 h1 hl
  have ho:=ZJl x c.toNat c.toNat_lt
  have hc:IntKind.u64.wrap (c.toNat:Int)=(c.toNat:Int):=by rw [IntKind.wrap_u64];have:=c.toNat_lt;omega
  unfold Zlb at ih ⊢
  rw [Zac,ZcE]
  simp -implicitDefEqProofs only [EQA,Zaa,Nat.reduceLT,Nat.reduceEqDiff,Zaw,decide_true,↓reduceIte,gcT,gcA,ZB,Zz,Zw,ZM,Zql,Zkn,oI,h1,e1,e3,ho,hc,Zc,AVal.cells,Int.reduceLT]
  exact ih
theorem ZL4 (b:Zb) (hl:b.length≤9223372036854775807):E 108 [ZI b] []=some (.int .u64 (Zcw b:Nat),[]):=by
 have key:=Zuz b hl b 0 0 rfl
 have z0:((0:Nat):Int)=0:=rfl
 rw [z0] at key
 unfold Zlb at key
 unfold Zcw
 rw [Zh (by rfl) ZHw]
 simp -implicitDefEqProofs only [EQA,Zaa,Nat.reduceLT,Nat.reduceEqDiff,reduceCtorEq,↓reduceIte,gcT,gcA,ZB,Zz,Zw,ZM,ZA7,Zmb,oI,ZI]
 exact key
theorem ZkE (σ:Za) (site own:Nat) (b:Zb) (hl:b.length≤9223372036854775807) (f:Bool):Zj E BY σ site 108 own true [.lst f (b.map Zc)]=some (.int .u64 (Zcw b:Nat),σ,{}) :=
 Zbj (ZL4 b hl) (by kernel_rfl) rfl rfl rfl (fun _=>rfl) _ _ _
end Go.Proofs.YtmlkhhidifjjfaaDoor
namespace Go.Proofs.YtmlkhhidifjjfaaDoor
set_option maxHeartbeats 8000000
set_option maxRecDepth 10000
theorem ZuZ (ls:List Zb) (hl:ls.length≤9223372036854775807):∀ (r:List Zb) (i:Nat) (acc full:Zb),ls.drop i=r→full=acc++r.flatten→full.length≤140737488355328 →
  ZjP 0 [(8,.int .i64 i),(7,.int .i64 ls.length),(6,.lst false (ls.map ZI)),(3,.sl 0 0 0 acc.length)] [.row 0 1 (acc.map Zc)]=some (.sl 0 0 0 full.length,[.row 0 1 (full.map Zc)])
 | [],i,acc,full,h,hf,hn=>by
  have h1:=ZcZ h
  have e:full=acc:=by simpa using hf
  subst e
  unfold ZjP
  rw [Zac]
  simp -implicitDefEqProofs only [EQA,Nat.reduceLT,Nat.reduceEqDiff,decide_false,↓reduceIte,ZwG,ZDL,Znl,ZnY,Zh8,oI,h1,ZGo]
 | p::r,i,acc,full,h,hf,hn=>by
  have ih:=ZuZ ls hl r (i+1) (acc++p) full (Zaf h).2.1 (by rw [hf];simp) hn
  have h1:(i:Int) < ls.length:=by have:=(Zaf h).2.2;omega
  have e1:=iad (Zaf h).1 ZI (k:=1) rfl
  have e3:=Zc7 h1 hl
  have k1:=ZfW p
  have k2:(acc.length+p.length)*1≤140737488355328:=by have:=congrArg List.length hf;simp at this;omega
  have e4:(acc++p).map Zc=acc.map Zc++p.map Zc:=by simp
  have e5:(acc++p).length=acc.length+p.length:=by simp
  rw [e4,e5] at ih
  clear hf
  unfold ZjP at ih ⊢
  rw [Zac]
  unfold ZI at e1 ih ⊢
  simp -implicitDefEqProofs only [EQA,Zaa,Zcy,Nat.reduceAdd,Nat.reduceLT,Nat.reduceEqDiff,Nat.reduceBEq,ne_eq,reduceCtorEq,decide_true,Z2,↓reduceIte,gcT,gcA,ZB,Zz,Zl,Zw,ZY,Zo,ZR,ZG,ZM,ZnY,Zh8,oI,h1,e1,e3,k1,k2,Zbe,AVal.cells]
  exact ih
theorem ZGi (p:Zb) (ls:List Zb) (hl:(p::ls).length≤9223372036854775807) (hn:(p::ls).flatten.length≤140737488355328):E 56 [.lst false ((p::ls).map ZI)] []=some (.sl 0 0 0 (p::ls).flatten.length,[.row 0 1 ((p::ls).flatten.map Zc)]):=by
 have key:=ZuZ (p::ls) hl ls 1 p (p::ls).flatten rfl rfl hn
 have k1:=ZfW p
 have k2:p.length*1≤140737488355328:=by simp at hn;omega
 have h1:(0:Int) < ((p::ls).length:Int):=by simp
 have hat:(p::ls)[0]?=some p:=rfl
 have e1:=iad hat ZI (k:=1) rfl
 have z0:((0:Nat):Int)=0:=rfl
 have z1:((1:Nat):Int)=1:=rfl
 have w1:IntKind.i64.wrap (0+1)=1:=rfl
 rw [z0] at e1
 rw [z1] at key
 unfold ZjP at key
 generalize hL:p::ls=L at *
 rw [Zh (by rfl) ZJc]
 unfold ZI at e1 key ⊢
 simp -implicitDefEqProofs only [EQA,Zaa,Nat.reduceLT,Nat.reduceEqDiff,reduceCtorEq,↓reduceIte,gcT,gcA,ZB,Zz,Zw,ZM,Zzj,ZmB,oI]
 rw [Zac]
 simp -implicitDefEqProofs only [EQA,Zaa,Zcy,Nat.reduceLT,Nat.reduceEqDiff,Nat.reduceBEq,ne_eq,decide_true,Z2,↓reduceIte,gcT,gcA,ZB,Zz,Zl,Zw,ZY,Zo,ZR,ZG,ZM,ZnY,Zh8,oI,h1,e1,w1,k1,k2,Zbe,AVal.cells]
 exact key
theorem Zg2 (σ:Za) (site own:Nat) (f:Bool) (p:Zb) (ls:List Zb) (hl:(p::ls).length≤9223372036854775807) (hn:(p::ls).flatten.length≤140737488355328):Zj E BY σ site 56 own true [.lst f ((p::ls).map ZI)]=some (.lst false ((p::ls).flatten.map Zc),σ,{}):=by
 have h:=ZlU (byref:=BY) (ZGi p ls hl hn) (by rw [List.length_map]) rfl rfl σ site own
 cases f
 ·exact h
 ·rw [Zf5 (by kernel_rfl) rfl] at h ⊢
  exact h
theorem ZMQ:∀ n:Fin 256,IntKind.u8.wrap (((BitVec.ofInt IntKind.u8.bits ((n.val:Nat):Int) ||| BitVec.ofInt IntKind.u8.bits 128).toNat:Nat):Int)=((n.val % 128+128:Nat):Int):=by decide +kernel
theorem Zwh (n:Nat):IntKind.u8.wrap (((BitVec.ofInt IntKind.u8.bits (IntKind.u8.wrap (n:Int)) ||| BitVec.ofInt IntKind.u8.bits 128).toNat:Nat):Int)=((UInt8.ofNat (n % 128+128)).toNat:Int):=by
 have h:=ZMQ ⟨n % 256,Nat.mod_lt _ (by decide)⟩
 have e:IntKind.u8.wrap (n:Int)=((n % 256:Nat):Int):=by rw [IntKind.wrap_u8];omega
 rw [e,h,UInt8.toNat_ofNat']
 simp only
 omega
theorem Zuo:∀ (k n:Nat) (acc full:Zb),n < 128 ^ (k+1)→acc.length+k≤3→full=acc++ZbU k n →
  ZlA 0 [(4,Zez (acc.map Zc)),(0,.int .i64 (n:Nat))] (Zeo 1 (acc.map Zc))=some (.tup [.sl 0 0 0 full.length,.int .i64 0],[.row 0 1 (full.map Zc)])
 | k,n,acc,full,hk,hacc,hf=>by
  by_cases hn:n < 128
  ·have h1:¬((n:Int) > 127):=by omega
   have hv:ZbU k n=[UInt8.ofNat n]:=by cases k <;> simp [ZbU,hn]
   rw [hv] at hf
   have hb:IntKind.u8.wrap (n:Int)=((UInt8.ofNat n).toNat:Int):=by rw [IntKind.wrap_u8,UInt8.toNat_ofNat'];omega
   subst hf
   unfold ZlA
   rw [Zac]
   cases acc with
   | nil =>
    simp -implicitDefEqProofs only [EQA,Nat.reduceLT,Nat.reduceLeDiff,Nat.reduceEqDiff,Nat.reduceBEq,reduceCtorEq,decide_true,decide_false,Z2,↓reduceIte,Zi7,Zul,Zkf,ZjW,ZgY,oI,h1,hb,Zfr,ZfD,Zbe,kOk,viewAs,ZQ,ZK,Zp,List.foldl_cons,List.foldl_nil,Nat.one_mul,AVal.cells]
    simp [Zai,gcA,ZB,Zz,Zr,ZW,Zl,Zw,ZY,Zo,ZR,Ze,Zk,ZG,ZM]
    rfl
   | cons a acc =>
    have hz:(acc.length+1+1)*1≤140737488355328:=by simp at hacc;omega
    simp -implicitDefEqProofs only [EQA,Nat.reduceAdd,Nat.reduceLT,Nat.reduceEqDiff,Nat.reduceBEq,reduceCtorEq,decide_true,decide_false,Z2,↓reduceIte,Zi7,Zul,Zkf,ZjW,ZgY,oI,h1,hb,ZhG,ZgK,Zbe,kOk,viewAs,ZQ,ZK,Zp,List.foldl_cons,List.foldl_nil,AVal.cells,hz]
    simp [Zai,gcA,ZB,Zz,Zr,ZW,Zl,Zw,ZY,Zo,ZR,Ze,Zk,ZG,ZM]
    rfl
  ·cases k with
   | zero=>simp at hk;omega
   | succ k =>
    have hlt:n / 128 < 128 ^ (k+1):=by
     rw [Nat.div_lt_iff_lt_mul (by decide)]
     rw [Nat.pow_succ] at hk;exact hk
    have hv:ZbU (k+1) n=UInt8.ofNat (n % 128+128)::ZbU k (n / 128):=by simp [ZbU,hn]
    have ih:=Zuo k (n / 128) (acc++[UInt8.ofNat (n % 128+128)]) full hlt (by simp;omega) (by rw [hf,hv];simp)
    clear hf
    have h1:((n:Int) > 127):=by omega
    have ho:=Zwh n
    have hd:(n:Int).fdiv (2 ^ min (Int.toNat 7) IntKind.i64.bits)=((n / 128:Nat):Int):=by
     rw [show (2:Int) ^ min (Int.toNat 7) IntKind.i64.bits=128 from rfl,Int.fdiv_eq_ediv_of_nonneg _ (by decide)]
     omega
    unfold ZlA at ih ⊢
    rw [Zac]
    cases acc with
    | nil =>
     simp -implicitDefEqProofs only [EQA,Zaa,Zcy,Nat.reduceLT,Nat.reduceLeDiff,Nat.reduceEqDiff,Nat.reduceBEq,Zaw,ne_eq,reduceCtorEq,decide_true,Z2,↓reduceIte,gcT,gcA,ZB,Zz,Zl,Zw,ZY,Zo,ZR,ZG,ZM,ZjW,ZgY,oI,h1,ho,hd,Zfr,ZfD,Zbe,kOk,viewAs,ZQ,ZK,Zp,List.foldl_cons,List.foldl_nil,Nat.one_mul,AVal.cells,Int.reduceLT]
     simp only [List.map_cons,List.map_nil,List.nil_append,ZhG,ZgK,List.length_cons,List.length_nil,Nat.zero_add,Zc] at ih
     exact ih
    | cons a acc =>
     have hz:(acc.length+1+1)*1≤140737488355328:=by simp at hacc;omega
     simp -implicitDefEqProofs only [EQA,Zaa,Zcy,Nat.reduceAdd,Nat.reduceLT,Nat.reduceEqDiff,Nat.reduceBEq,Zaw,ne_eq,reduceCtorEq,decide_true,Z2,↓reduceIte,gcT,gcA,ZB,Zz,Zl,Zw,ZY,Zo,ZR,ZG,ZM,ZjW,ZgY,oI,h1,ho,hd,ZhG,ZgK,Zbe,kOk,viewAs,ZQ,ZK,Zp,List.foldl_cons,List.foldl_nil,AVal.cells,hz,Int.reduceLT]
     simp only [List.map_append,List.map_cons,List.map_nil,List.cons_append,ZhG,ZgK,List.length_append,List.length_cons,List.length_map,List.length_nil,Nat.zero_add,Nat.add_assoc,Nat.reduceAdd,Zc] at ih
     exact ih
theorem ZLM (n:Int):E 82 [.int .i64 n] []=some (if n < 0∨n > 268435455 then (.tup [.lst true [],.int .i64 10],[]) else (.tup [.sl 0 0 0 (ZbU 3 n.toNat).length,.int .i64 0],[.row 0 1 ((ZbU 3 n.toNat).map Zc)])):=by
 rw [Zh (by rfl) ZHP]
 by_cases h0:n < 0
 ·have : n < 0∨n > 268435455:=Or.inl h0
  simp -implicitDefEqProofs only [EQA,Zs,Nat.reduceLT,Nat.reduceEqDiff,ZE,Zar,ne_eq,Option.some.injEq,reduceCtorEq,decide_true,decide_false,↓reduceIte,Zd,ZlQ,ZiE,Zi7,oI,h0]
 ·by_cases h2:n > 268435455
  ·have : n < 0∨n > 268435455:=Or.inr h2
   simp -implicitDefEqProofs only [EQA,Zs,Nat.reduceLT,Nat.reduceEqDiff,ZE,unG,ne_eq,Option.some.injEq,reduceCtorEq,decide_true,decide_false,↓reduceIte,Zd,ZlQ,ZiE,Zi7,oI,h0,h2]
  ·have : ¬(n < 0∨n > 268435455):=by omega
   have key:=Zuo 3 n.toNat [] (ZbU 3 n.toNat) (by omega) (by simp) rfl
   have e:((n.toNat:Nat):Int)=n:=by omega
   rw [e] at key
   simp only [List.map_nil,Zfr,ZfD] at key
   unfold ZlA at key
   generalize ZbU 3 n.toNat=V at *
   simp -implicitDefEqProofs only [EQA,Zaa,Nat.reduceLT,Nat.reduceEqDiff,ZE,unG,ne_eq,Option.some.injEq,reduceCtorEq,decide_false,↓reduceIte,gcT,gcA,ZB,Zz,Zw,ZM,ZlQ,ZiE,oI,h0,h2]
   exact key
def Zef (n:Int):AVal:=.tup [.lst false ((Zaj n).1.map Zc),.int .i64 (Zaj n).2]
theorem ZLy {O:ZO} {byref:Nat→Bool} {f:Nat} {args args':List AVal} {k n:Nat} {xs:List AVal} {c:Int} (h:O f args' []=some (.tup [.sl 0 0 0 n,.int .i64 c],[.row 0 k xs])) (hl:xs.length=n) (hb:byref f=false) (hp:args.all Z6=true) (hn:args.map ZF=args') (σ:Za) (site own:Nat):Zj O byref σ site f own true args=some (.tup [.lst false xs,.int .i64 c],σ,{}):=by
 subst hl
 rw [Zf5 hb hp,hn,h]
 simp [Zad,Zbx,viewR,viewAs,ZQ,ZK,Z2,Zp,gcA,ZB,Zz,Zr,ZW,Ze,Zk,Zw,Zaz,Zbw,Zbk,ZaR]
theorem Zfm (σ:Za) (site own:Nat) (n:Int):Zj E BY σ site 82 own true [.int .i64 n]=some (Zef n,σ,{}):=by
 have h:=ZLM n
 unfold Zef Zaj
 by_cases hc:n < 0∨n > 268435455
 ·rw [if_pos hc] at h ⊢
  exact Zbj h (by kernel_rfl) rfl rfl rfl (fun _=>rfl) _ _ _
 ·rw [if_neg hc] at h ⊢
  exact ZLy h (by rw [List.length_map]) (by kernel_rfl) rfl rfl _ _ _
end Go.Proofs.YtmlkhhidifjjfaaDoor
namespace Go.Proofs.YtmlkhhidifjjfaaDoor
set_option maxHeartbeats 8000000
set_option maxRecDepth 10000
def gvT (x:Nat×Nat×Int):AVal:=.tup [.int .i64 (x.1:Nat),.int .i64 (x.2.1:Nat),.int .i64 x.2.2]
theorem ZMl:∀ n:Fin 256,IntKind.u8.wrap (((BitVec.ofInt IntKind.u8.bits ((n.val:Nat):Int) &&& BitVec.ofInt IntKind.u8.bits 127).toNat:Nat):Int)=((n.val % 128:Nat):Int):=by decide +kernel
theorem ZGd (c:UInt8):IntKind.u8.wrap (((BitVec.ofInt IntKind.u8.bits (c.toNat:Int) &&& BitVec.ofInt IntKind.u8.bits 127).toNat:Nat):Int)=((c.toNat % 128:Nat):Int):=ZMl ⟨c.toNat,c.toNat_lt⟩
theorem Zpa (i:Nat):128 ^ i=2 ^ (7*i):=by rw [Nat.pow_mul]
theorem ZK2 (n a i:Nat) (hi:i≤3) (hn:n < 128 ^ i) (ha:a < 128):IntKind.i64.wrap (((BitVec.ofInt IntKind.i64.bits (n:Int) ||| BitVec.ofInt IntKind.i64.bits ((a*128 ^ i:Nat):Int)).toNat:Nat):Int)=((n+a*128 ^ i:Nat):Int):=by
 have hb:IntKind.i64.bits=64:=rfl
 have hp:128 ^ i≤128 ^ 3:=Nat.pow_le_pow_right (by decide) hi
 have hm:a*128 ^ i≤127*128 ^ 3:=Nat.mul_le_mul (by omega) hp
 rw [hb,BitVec.toNat_or]
 simp only [BitVec.ofInt_natCast,BitVec.toNat_ofNat]
 have e1:n % 2 ^ 64=n:=Nat.mod_eq_of_lt (by omega)
 have e2:a*128 ^ i % 2 ^ 64=a*128 ^ i:=Nat.mod_eq_of_lt (by omega)
 rw [e1,e2]
 have e3:a*128 ^ i=a <<< (7*i):=by rw [Nat.shiftLeft_eq,Zpa]
 have e4:n ||| a*128 ^ i=n+a*128 ^ i:=by
  rw [e3,Nat.or_comm,←Nat.shiftLeft_add_eq_or_of_lt (by rw [←Zpa];exact hn)]
  omega
 rw [e4,Zb0 (by omega) (by omega)]
theorem ZLK (a i:Nat) (hi:i≤3) (ha:a < 128):IntKind.i64.wrap ((a:Int)*2 ^ min (Int.toNat ((7*i:Nat):Int)) IntKind.i64.bits)=((a*128 ^ i:Nat):Int):=by
 have hp:128 ^ i≤128 ^ 3:=Nat.pow_le_pow_right (by decide) hi
 have hm:a*128 ^ i≤127*128 ^ 3:=Nat.mul_le_mul (by omega) hp
 have e:min (Int.toNat ((7*i:Nat):Int)) IntKind.i64.bits=7*i:=by
  have hb:IntKind.i64.bits=64:=rfl
  rw [hb];omega
 have e2:((a:Int)*2 ^ (7*i))=((a*128 ^ i:Nat):Int):=by rw [Zpa];simp
 rw [e,e2,Zb0 (by omega) (by omega)]
theorem Zui (n i a:Nat) (hn:n < 128 ^ i) (ha:a < 128):n+a*128 ^ i < 128 ^ (i+1):=by
 have : a*128 ^ i≤127*128 ^ i:=Nat.mul_le_mul_right _ (by omega)
 rw [Nat.pow_succ];omega
theorem ZuG (b:Zb) (hl:b.length≤9223372036854775807):∀ (r:Zb) (i n:Nat),i≤4→i≤b.length→n < 128 ^ i→b.drop i=r →
  Zho 0 [(9,.int .i64 i),(8,.int .i64 b.length),(7,.lst false (b.map Zc)),(2,.int .i64 n),(0,.lst false (b.map Zc))] []=some (gvT (gvA i n r),[])
 | [],i,n,hi,hib,hn,h=>by
  have h1:=ZcZ h
  unfold Zho
  rw [Zac,gvA]
  by_cases h4:i < 4
  ·have h5:(b.length:Int) < 4:=by omega
   simp -implicitDefEqProofs only [EQA,Zs,Nat.reduceLT,Nat.reduceEqDiff,Option.some.injEq,reduceCtorEq,decide_true,decide_false,↓reduceIte,Zd,ZgW,Zoy,ZiU,Zgb,ZeW,oI,h1,h4,h5,gvT]
   rfl
  ·have h5:¬(b.length:Int) < 4:=by omega
   simp -implicitDefEqProofs only [EQA,Zs,Nat.reduceLT,Nat.reduceEqDiff,Option.some.injEq,reduceCtorEq,decide_false,↓reduceIte,Zd,ZgW,Zoy,ZiU,Zgb,ZeW,oI,h1,h4,h5,gvT]
   rfl
 | c::r,i,n,hi,hib,hn,h=>by
  have hlt:=(Zaf h).2.2
  have h1:(i:Int) < b.length:=by omega
  have e1:=iad (Zaf h).1 Zc (k:=1) rfl
  have e3:=Zc7 h1 hl
  rw [gvA]
  by_cases h4:i=4
  ·have h5:¬(b.length:Int) < 4:=by omega
   have h6:((i:Int) == 4)=true:=by simp;omega
   rw [if_pos h4]
   unfold Zho
   rw [Zac]
   simp -implicitDefEqProofs only [EQA,Zs,Nat.reduceLT,Nat.reduceEqDiff,Option.some.injEq,reduceCtorEq,decide_true,decide_false,↓reduceIte,Zd,ZgW,Zoy,ZiU,Zgb,ZeW,oI,h1,e1,h5,h6,gvT,Zc,AVal.cells]
   rfl
  ·have h6:((i:Int) == 4)=false:=by simp;omega
   have hm:=ZGd c
   have ha:c.toNat % 128 < 128:=Nat.mod_lt _ (by decide)
   have hi64:IntKind.i64.wrap ((c.toNat % 128:Nat):Int)=((c.toNat % 128:Nat):Int):=Zb0 (by omega) (by omega)
   have h7:IntKind.i64.wrap (7*(i:Int))=((7*i:Nat):Int):=by rw [Zb0 (by omega) (by omega)];omega
   have hneg:¬((7*i:Nat):Int) < 0:=by omega
   have hs:=ZLK (c.toNat % 128) i (by omega) ha
   have ho:=ZK2 n (c.toNat % 128) i (by omega) hn ha
   by_cases hc:c.toNat < 128
   ·have hc':(c.toNat:Int) < 128:=by omega
    unfold Zho
    rw [Zac]
    by_cases hc0:c=0
    ·have hc1:((c.toNat:Int) == 0)=true:=by rw [hc0];rfl
     by_cases hip:0 < i
     ·have hip':(i:Int) > 0:=by omega
      have hcc:c=0∧0 < i:=⟨hc0,hip⟩
      simp -implicitDefEqProofs only [EQA,Zs,Zaa,Zdw,Zou,Nat.reduceLT,Nat.reduceEqDiff,Zaw,ZE,Zar,unG,ne_eq,Option.some.injEq,reduceCtorEq,decide_true,decide_false,decide_eq_true_eq,ite_self,↓reduceIte,Zd,gcT,gcA,ZB,Zz,Zw,ZM,ZgW,Zgb,ZeW,oI,h1,e1,h4,h6,h7,hneg,hip',hcc,gvT,Zc,AVal.cells]
      rfl
     ·have hip':¬(i:Int) > 0:=by omega
      have hcc:¬(c=0∧0 < i):=fun h=>hip h.2
      simp -implicitDefEqProofs only [EQA,Zs,Nat.reduceLT,Nat.reduceEqDiff,Zaw,ZE,unG,ne_eq,Option.some.injEq,reduceCtorEq,decide_true,decide_false,↓reduceIte,Zd,ZgW,Zgb,ZeW,oI,h1,e1,h4,h6,hm,hi64,h7,hneg,hs,ho,hc,hc',hc1,hip',hcc,e3,gvT,Zc,AVal.cells]
    ·have hc1:((c.toNat:Int) == 0)=false:=by
      have : c.toNat≠0:=fun h=>hc0 (UInt8.toNat_inj.1 (by simpa using h))
      simp;omega
     have hcc:¬(c=0∧0 < i):=fun h=>hc0 h.1
     simp -implicitDefEqProofs only [EQA,Zs,Nat.reduceLT,Nat.reduceEqDiff,Zaw,ZE,Zar,ne_eq,Option.some.injEq,reduceCtorEq,decide_true,decide_false,↓reduceIte,Zd,ZgW,Zgb,ZeW,oI,h1,e1,h4,h6,hm,hi64,h7,hneg,hs,ho,hc,hc',hc1,hcc,e3,gvT,Zc,AVal.cells]
   ·have hc':¬(c.toNat:Int) < 128:=by omega
    have ih:=ZuG b hl r (i+1) (n+c.toNat % 128*128 ^ i) (by omega) (by omega) (Zui n i _ hn ha) (Zaf h).2.1
    unfold Zho at ih ⊢
    rw [Zac]
    simp -implicitDefEqProofs only [EQA,Zaa,Nat.reduceLT,Nat.reduceEqDiff,Zaw,reduceCtorEq,decide_true,decide_false,↓reduceIte,gcT,gcA,ZB,Zz,Zw,ZM,Zgb,ZeW,oI,h1,e1,h4,h6,hm,hi64,h7,hneg,hs,ho,hc,hc',e3,Zc,AVal.cells]
    exact ih
theorem ZwA (b:Zb) (hl:b.length≤9223372036854775807):E 135 [ZI b] []=some (gvT (Z4 b),[]):=by
 have key:=ZuG b hl b 0 0 (by omega) (by omega) (by simp) rfl
 have z0:((0:Nat):Int)=0:=rfl
 rw [z0] at key
 unfold Zho at key
 unfold Z4
 rw [Zh (by rfl) Zzs]
 simp -implicitDefEqProofs only [EQA,Zaa,Nat.reduceLT,Nat.reduceEqDiff,reduceCtorEq,↓reduceIte,gcT,gcA,ZB,Zz,Zw,ZM,ZGJ,ZmT,oI,ZI]
 exact key
theorem Zol (σ:Za) (site own:Nat) (f:Bool) (b:Zb) (hl:b.length≤9223372036854775807):Zj E BY σ site 135 own true [.lst f (b.map Zc)]=some (gvT (Z4 b),σ,{}) :=
 Zbj (ZwA b hl) (by kernel_rfl) rfl rfl rfl (fun _=>rfl) _ _ _
end Go.Proofs.YtmlkhhidifjjfaaDoor
namespace Go.Proofs.YtmlkhhidifjjfaaDoor
set_option maxHeartbeats 4000000
set_option maxRecDepth 10000
theorem Zry (l:List UInt8) (p:Nat):ZeS l p=Lib.decodeL (l.drop p):=by
 have:=Lib.decodeL_drop ⟨l.toArray⟩ p
 simpa [ZeS] using this.symm
def zfG:Nat→List UInt8→Bool
 | 0,_=>true
 | n+1,l=>if l=[] then true else if (Lib.decodeL l).1=0 then false else zfG n (l.drop (Lib.decodeL l).2)
def ZfY (l:List UInt8):Bool:=zfG l.length l && Lib.validD l
theorem Zy7 (l:List UInt8):E 142 [.str l] []=some (.bool (Lib.validD l),[]):=Zdq.2 ⟨1,rfl⟩
theorem ZLi (σ:Za) (site own:Nat) (view:Bool) (l:List UInt8):Zj E BY σ site 142 own view [.str l]=some (.bool (Lib.validD l),σ,{}) :=
 Zcd (Zy7 l) (by kernel_rfl) (by simp -implicitDefEqProofs only [Zcv,Zbh,eq_self]) (by simp -implicitDefEqProofs only [ZC,Zbh,eq_self]) rfl (fun _=>rfl) _ _ _ _
theorem ZsO (s:List UInt8):∀ (n p:Nat),s.length - p≤n→p≤s.length→Zj6 0 [(6,.ref 0 0),(0,.str s)] [.siter s p]=some (.bool (zfG n (s.drop p) && Lib.validD s),[])
 | n,p,hn,hp=>by
  by_cases h:p < s.length
  ·obtain ⟨n,rfl⟩:∃ m,n=m+1:=⟨n - 1,by omega⟩
   have hw:=Lib.decodeL_width (s.drop p)
   have hne:s.drop p≠[]:=by rw [ne_eq,List.drop_eq_nil_iff];omega
   have hle:=Lib.decodeL_le (s.drop p) hne
   rw [List.length_drop] at hle
   have ih:=ZsO s n (p+(Lib.decodeL (s.drop p)).2) (by omega) (by omega)
   rw [←List.drop_drop] at ih
   unfold Zj6 at ih ⊢
   rw [Zac]
   by_cases hz:(Lib.decodeL (s.drop p)).1=0
   ·have hz':((Lib.decodeL (s.drop p)).1:Int)=0:=by omega
    simp -implicitDefEqProofs only [EQA,Nat.reduceLT,Nat.reduceEqDiff,Option.some.injEq,reduceCtorEq,↓reduceIte,Zsr,Zmh,ZhT,oI,h,Zry,hz']
    rw [zfG,if_neg hne,if_pos hz];rfl
   ·have hz':(((Lib.decodeL (s.drop p)).1:Int) == 0)=false:=by rw [beq_eq_false_iff_ne];omega
    simp -implicitDefEqProofs only [EQA,Zaa,Zcy,Nat.reduceLT,Nat.reduceEqDiff,ne_eq,reduceCtorEq,↓reduceIte,gcT,gcA,ZB,Zz,Zl,Zw,ZY,Zo,ZR,ZG,ZM,Zmh,ZhT,oI,h,Zry,hz']
    rw [ih,zfG,if_neg hne,if_neg hz]
  ·have he:s.drop p=[]:=by rw [List.drop_eq_nil_iff];omega
   unfold Zj6
   rw [Zac]
   simp -implicitDefEqProofs only [EQA,Nat.reduceLT,Nat.reduceEqDiff,Option.some.injEq,reduceCtorEq,↓reduceIte,Zsr,ZDC,Zom,Zmh,ZhT,oI,h,ZLi]
   rw [he]
   cases n <;> simp [zfG]
theorem Zws (s:List UInt8):E 97 [.str s] []=some (.bool (ZfY s),[]):=by
 rw [Zh (by rfl) ZFY]
 have:=ZsO s s.length 0 (by omega) (by omega)
 unfold Zj6 at this
 simp -implicitDefEqProofs only [EQA,Zaa,Zcy,Nat.reduceLT,Nat.reduceBEq,ne_eq,reduceCtorEq,↓reduceIte,gcT,gcA,ZB,Zz,Zl,Zw,ZY,Zo,ZR,ZG,ZM,Zzr,Zpl,oI]
 rw [this,List.drop_zero];rfl
theorem Zuq (σ:Za) (site own:Nat) (view:Bool) (l:List UInt8):Zj E BY σ site 97 own view [.str l]=some (.bool (ZfY l),σ,{}) :=
 Zcd (Zws l) (by kernel_rfl) (by simp -implicitDefEqProofs only [Zcv,Zbh,eq_self]) (by simp -implicitDefEqProofs only [ZC,Zbh,eq_self]) rfl (fun _=>rfl) _ _ _ _
theorem wrap_i64 {n:Int} (h0:-9223372036854775808≤n) (h:n≤9223372036854775807):IntKind.i64.wrap n=n:=Zb0 h0 h
end Go.Proofs.YtmlkhhidifjjfaaDoor
namespace Go.Proofs.YtmlkhhidifjjfaaDoor
set_option maxHeartbeats 8000000
set_option maxRecDepth 10000
theorem Zts (σ:Za) (l:Zb) (k1 k2:IntKind) (lo hi:Int) (h0:0≤lo) (h1:lo≤hi) (h2:hi≤(l.length:Int)):ZbN σ 1 (.lst false (l.map Zc)) (some (.int k1 lo)) (some (.int k2 hi)) none=some (.lst false (((l.take hi.toNat).drop lo.toNat).map Zc),σ,{}):=by
 have hh:0≤hi:=by omega
 have h3:lo≤((hi.toNat:Nat):Int):=by omega
 have hk:=ZfW l
 simp only [ZbN,Zbf,ZdZ,List.length_map,hh,h2,and_self,if_true,h0,h3,hk,Bool.or_true,Option.isSome_none,Bool.false_eq_true,if_false,Bool.false_and,List.map_take,List.map_drop]
theorem ZeK (σ:Za) (l:Zb) (k1:IntKind) (lo:Int) (h0:0≤lo) (h1:lo≤(l.length:Int)):ZbN σ 1 (.lst false (l.map Zc)) (some (.int k1 lo)) none none=some (.lst false ((l.drop lo.toNat).map Zc),σ,{}):=by
 have hk:=ZfW l
 simp only [ZbN,Zbf,ZdZ,List.length_map,and_self,if_true,h0,h1,hk,Bool.or_true,Option.isSome_none,Bool.false_eq_true,if_false,Bool.false_and,List.map_drop]
 rw [List.take_of_length_le (by simp)]
def byT (x:Zb×Int):AVal:=.tup [.lst false (x.1.map Zc),.int .i64 x.2]
theorem ZDn (b:Zb) (h:b.length≤9223372036854775807):IntKind.u64.wrap (b.length:Int)=(b.length:Int):=by rw [IntKind.wrap_u64];omega
theorem ZKk (b:Zb) (hl:b.length≤9223372036854775807):∃ f,E 55 [ZI b] []=some (.tup [.lst f ((Zbt b).1.map Zc),.int .i64 (Zbt b).2],[]):=by
 unfold Zbt
 by_cases h:b.length > 65535
 ·refine ⟨true,?_⟩
  have h':(b.length:Int) > 65535:=by omega
  rw [Zh (by rfl) Zu0,if_pos h]
  simp -implicitDefEqProofs only [EQA,Zs,Nat.reduceLT,Nat.reduceEqDiff,reduceCtorEq,decide_true,↓reduceIte,Zd,Zrt,Zkx,ZtA,oI,ZI,h']
 ·refine ⟨false,?_⟩
  have h':¬(b.length:Int) > 65535:=by omega
  have hw:=ZDn b hl
  have hP:=fun σ site own=>Zj3 σ site own b.length 2 (by omega) (by omega)
  have hJ:=fun σ site own f=>Zg2 σ site own f (beB b.length 2) [b] (by simp) (by simp [Zbc];omega)
  simp only [List.map_cons,List.map_nil,ZI,List.flatten_cons,List.flatten_nil,List.append_nil] at hJ
  have z2:((2:Nat):Int)=2:=rfl
  rw [z2] at hP
  rw [Zh (by rfl) Zu0,if_neg h]
  simp -implicitDefEqProofs only [EQA,Zs,Nat.reduceLT,Nat.reduceEqDiff,reduceCtorEq,decide_true,decide_false,↓reduceIte,Zd,Zrt,Zkx,ZtA,oI,ZI,h',hw,hP,hJ,viewAs,ZQ,ZK,Zp,AVal.cells,List.foldl_cons,List.foldl_nil]
theorem Zog (σ:Za) (site own:Nat) (f:Bool) (b:Zb) (hl:b.length≤9223372036854775807):Zj E BY σ site 55 own true [.lst f (b.map Zc)]=some (byT (Zbt b),σ,{}):=by
 obtain ⟨g,h⟩:=ZKk b hl
 exact Zbj h (by kernel_rfl) rfl rfl rfl (fun _=>rfl) _ _ _
def Zah (s:Zb):Zb×Int:=if ZfY s then Zbt s else ([],13)
theorem ZIR (s:Zb) (hl:s.length≤9223372036854775807):∃ f,E 54 [.str s] []=some (.tup [.lst f ((Zah s).1.map Zc),.int .i64 (Zah s).2],[]):=by
 have hI:=fun σ site own=>Zuq σ site own true s
 have hD:=fun σ site own f=>Zog σ site own f s hl
 unfold Zah
 cases h:ZfY s <;> rw [h] at hI
 ·refine ⟨true,?_⟩
  rw [Zh (by rfl) ZtU]
  simp -implicitDefEqProofs only [EQA,Zs,Nat.reduceLT,Nat.reduceEqDiff,unA,reduceCtorEq,↓reduceIte,Zd,ZtS,Zjg,ZsA,oI,hI]
 ·refine ⟨false,?_⟩
  rw [Zh (by rfl) ZtU]
  simp -implicitDefEqProofs only [EQA,Zs,Nat.reduceLT,Nat.reduceEqDiff,unA,reduceCtorEq,↓reduceIte,Zd,ZtS,Zjg,ZsA,oI,hI,hD,byT]
theorem ZhI (σ:Za) (site own:Nat) (s:Zb) (hl:s.length≤9223372036854775807):Zj E BY σ site 54 own true [.str s]=some (byT (Zah s),σ,{}):=by
 obtain ⟨g,h⟩:=ZIR s hl
 exact Zbj h (by kernel_rfl) rfl rfl rfl (fun _=>rfl) _ _ _
end Go.Proofs.YtmlkhhidifjjfaaDoor
namespace Go.Proofs.YtmlkhhidifjjfaaDoor
set_option maxHeartbeats 8000000
set_option maxRecDepth 10000
def gdT (x:Zb×Nat×Int):AVal:=.tup [.lst false (x.1.map Zc),.int .i64 (x.2.1:Nat),.int .i64 x.2.2]
def gtT (x:Zb×Nat×Int):AVal:=.tup [.str x.1,.int .i64 (x.2.1:Nat),.int .i64 x.2.2]
theorem ZEs (b:Zb) (h:b.length≤2):Zcw b < 65536:=by
 unfold Zcw
 match b,h with
 | [],_=>simp [ZeV]
 | [a],_=>rw [ZcE,ZeV];have:=a.toNat_lt;omega
 | [a,c],_=>rw [ZcE,ZcE,ZeV];have:=a.toNat_lt;have:=c.toNat_lt;omega
def Z8 (b:Zb):Zb×Nat×Int:=if (ZaA b).2.2≠0 then ([],0,(ZaA b).2.2) else if ZfY (ZaA b).1 then ZaA b else ([],0,13)
theorem ZzA (b:Zb) (hl:b.length≤140737488355328):∃ f,E 106 [ZI b] []=some (.tup [.lst f ((ZaA b).1.map Zc),.int .i64 ((ZaA b).2.1:Nat),.int .i64 (ZaA b).2.2],[]):=by
 have t2:(b.take 2).length≤9223372036854775807:=by simp;omega
 have hG:=fun σ site own f=>ZkE σ site own (b.take 2) t2 f
 have hg:=ZEs (b.take 2) (by simp;omega)
 unfold ZaA
 generalize hGG:Zcw (b.take 2)=g at *
 have hi:IntKind.i64.wrap (g:Int)=(g:Int):=Zb0 (by omega) (by omega)
 by_cases h1:b.length < 2
 ·have h1':(b.length:Int) < 2:=by omega
  refine ⟨true,?_⟩
  rw [Zh (by rfl) ZmH,if_pos (Or.inl h1)]
  simp -implicitDefEqProofs only [EQA,Zs,Nat.reduceLT,Nat.reduceEqDiff,ZE,Zar,ne_eq,Option.some.injEq,reduceCtorEq,decide_true,decide_false,↓reduceIte,Zd,ZnU,ZiW,ZmO,oI,ZI,h1']
  rfl
 ·have h1':¬(b.length:Int) < 2:=by omega
  have s2:=fun σ kk=>Zg3 σ 1 b Zc kk 2 (by omega) (by omega)
  have e2:(2:Int).toNat=2:=rfl
  rw [e2] at s2
  have w1:IntKind.i64.wrap ((b.length:Int) - 2)=((b.length - 2:Nat):Int):=by rw [Zb0 (by omega) (by omega)];omega
  by_cases h3:b.length - 2 < g
  ·have h3':((b.length - 2:Nat):Int) < (g:Int):=by omega
   refine ⟨true,?_⟩
   rw [Zh (by rfl) ZmH,if_pos (Or.inr h3)]
   simp -implicitDefEqProofs only [EQA,Zs,Nat.reduceLT,Nat.reduceEqDiff,ZE,unG,ne_eq,Option.some.injEq,reduceCtorEq,decide_true,decide_false,↓reduceIte,Zd,ZnU,ZiW,ZmO,oI,ZI,h1',s2,hG,hi,w1,h3']
   rfl
  ·have h3':¬((b.length - 2:Nat):Int) < (g:Int):=by omega
   have w2:IntKind.i64.wrap (2+(g:Int))=((2+g:Nat):Int):=by rw [Zb0 (by omega) (by omega)];omega
   have s3:=fun σ k1 k2=>Zts σ b k1 k2 2 ((2+g:Nat):Int) (by omega) (by omega) (by omega)
   have e3:(((2+g:Nat):Int)).toNat=2+g:=rfl
   have e4:(b.take (2+g)).drop 2=(b.drop 2).take g:=by rw [List.drop_take];congr 1;omega
   rw [e2,e3,e4] at s3
   have hJ:=fun σ site own f=>Zg2 σ site own f ((b.drop 2).take g) [] (by simp) (by simp;omega)
   simp only [List.map_cons,List.map_nil,ZI,List.flatten_cons,List.flatten_nil,List.append_nil] at hJ
   have hc:¬(b.length < 2∨b.length - 2 < g):=by omega
   refine ⟨false,?_⟩
   rw [Zh (by rfl) ZmH,if_neg hc]
   simp -implicitDefEqProofs only [EQA,Zs,Nat.reduceLT,Nat.reduceEqDiff,ZE,unG,ne_eq,Option.some.injEq,reduceCtorEq,decide_true,decide_false,↓reduceIte,Zd,ZnU,ZiW,ZmO,oI,ZI,h1',s2,hG,hi,w1,h3',w2,s3,hJ,viewAs,ZQ,ZK,Zp,AVal.cells,List.foldl_cons,List.foldl_nil]
theorem ZjF (σ:Za) (site own:Nat) (f:Bool) (b:Zb) (hl:b.length≤140737488355328):Zj E BY σ site 106 own true [.lst f (b.map Zc)]=some (gdT (ZaA b),σ,{}):=by
 obtain ⟨g,h⟩:=ZzA b hl
 exact Zbj h (by kernel_rfl) rfl rfl rfl (fun _=>rfl) _ _ _
theorem ZLk (b:Zb) (hl:b.length≤140737488355328):E 109 [ZI b] []=some (gtT (Z8 b),[]):=by
 have hD:=fun σ site own f=>ZjF σ site own f b hl
 unfold gdT at hD
 have hI:=fun σ site own=>Zuq σ site own true (ZaA b).1
 unfold Z8
 by_cases h0:(ZaA b).2.2=0
 ·have hn0:¬((ZaA b).2.2≠0):=by omega
  have e0:((0:Int) != 0)=false:=rfl
  have hp:ZaA b=((ZaA b).1,(ZaA b).2.1,0):=by rw [←h0]
  rw [if_neg hn0]
  rw [hp]
  simp only
  rw [h0] at hD
  generalize (ZaA b).1=d at *
  generalize (ZaA b).2.1=u at *
  rw [Zh (by rfl) Zuv]
  cases ht:ZfY d <;> rw [ht] at hI
  ·simp -implicitDefEqProofs only [EQA,Zs,Nat.reduceLT,Nat.reduceEqDiff,unA,Option.some.injEq,reduceCtorEq,Z2,↓reduceIte,Zd,Znj,Zih,Zni,oI,ZI,hD,hI,e0,gtT]
   rfl
  ·simp -implicitDefEqProofs only [EQA,Zs,Nat.reduceLT,Nat.reduceEqDiff,unA,reduceCtorEq,Z2,↓reduceIte,Zd,Znj,Zih,Zni,oI,ZI,hD,hI,e0,gtT]
 ·have hn0:((ZaA b).2.2≠0):=h0
  have e0:((ZaA b).2.2 != 0)=true:=by simpa using h0
  rw [if_pos hn0]
  generalize (ZaA b).2.2=e at *
  rw [Zh (by rfl) Zuv]
  simp -implicitDefEqProofs only [EQA,Zs,Nat.reduceLT,Nat.reduceEqDiff,Option.some.injEq,reduceCtorEq,↓reduceIte,Zd,Znj,Zih,Zni,oI,ZI,hD,e0,gtT]
  rfl
theorem Zhl (σ:Za) (site own:Nat) (f:Bool) (b:Zb) (hl:b.length≤140737488355328):Zj E BY σ site 109 own true [.lst f (b.map Zc)]=some (gtT (Z8 b),σ,{}) :=
 Zbj (ZLk b hl) (by kernel_rfl) rfl rfl rfl (fun _=>rfl) _ _ _
end Go.Proofs.YtmlkhhidifjjfaaDoor
namespace Go.Proofs.YtmlkhhidifjjfaaDoor
set_option maxHeartbeats 4000000
theorem ZcT {O:ZO} {byref:Nat→Bool} {σ:Za} {t f:Nat} {rest:List AVal} {cs cs':List AVal} {r r':AVal} (hb:byref f=false) (hp:rest.all Z6=true) (hc:Zd cs=true) (hc':Zd cs'=true) (hn:ZH r'=true) (hv:viewR [.var cs'] r=some (r',[]))
  (h:O f (.ref 0 0::rest.map ZF) [.var cs]=some (r,[.var cs'])) (hs:σ[t]?=some (.var cs)) (site:Nat):Zj O byref σ site f 0 true (.ref t 0::rest)=some (r',σ.set t (.var cs'),{ any:=true,upd:=[(t,cs')] }):=by
 have htl:t < σ.length:=by
  rcases Nat.lt_or_ge t σ.length with h | h
  ·exact h
  ·rw [List.getElem?_eq_none h] at hs;cases hs
 have hup:Za0 (σ.set t (.var cs')) [t]=[(t,cs')]:=by
  simp only [Za0,List.getElem?_set,if_pos htl,if_true]
 have hd:σ.getD t .free=.var cs:=by simp [List.getD_eq_getElem?_getD,hs]
 have hf0:Zp σ []=σ:=rfl
 have hsh:showAs σ (.ref t 0::rest)=some (.ref t 0::rest.map ZF,[]):=by
  rw [showAs,show showA σ (.ref t 0)=some (.ref t 0,[]) from rfl,ZdX hp]
  rfl
 have href:Zr (.ref t 0::rest.map ZF)=[t]:=by
  rw [Zr,ZcW hp];rfl
 unfold Zj ZbH
 rw [hb]
 simp only [Bool.false_eq_true,if_false,hsh,hf0,href,ZeZ hs hc]
 unfold Zbu
 have hall:([t].all fun t=>okB (σ.getD t .free))=true:=by simp [List.all_cons,List.all_nil,hs,okB]
 rw [if_pos hall]
 have hρ:Zl σ 0 [t] t 0=some (0,0):=by simp [Zl,ZY,hs,Zo,ZR]
 have hheap:Zw σ 0 [t] (Zl σ 0 [t]) [t] 0=[.var cs]:=by
  simp only [Zw,hd,ZG,(ZaN _ cs hc).1]
 have hargs:Ze (Zl σ 0 [t]) (.ref t 0::rest.map ZF)=.ref 0 0::rest.map ZF:=by
  rw [Ze,Zc6 hp]
  simp only [Zk,hρ]
 rw [hargs,hheap,h]
 have hask:Zad true [t].length (some (r,[.var cs']))=some (r',[.var cs']):=by
  unfold Zad
  rw [if_pos rfl]
  have hnp:∀ x,r≠.pan x:=by rintro x rfl;simp [viewR,ZQ,ZK] at hv
  rw [show Zbx [t].length (some (r,[.var cs']))=(match viewR [.var cs'] r with
   | some (r',ts)=>match gcA [t].length [r'] (Zp [.var cs'] ts) with
    | ([r''],σ')=>some (r'',σ')
    | _=>none
   | none=>none) from by cases r <;> first | rfl | exact absurd rfl (hnp _)]
  rw [hv]
  simp only [List.length_cons,List.length_nil,Nat.zero_add,show Zp [ZJ.var cs'] []=[.var cs'] from rfl,Zle hn hc']
 rw [hask]
 have hk:ZaW σ [t] [.var cs'] 0=true:=by
  simp [ZaW,okB,hs,Zb1,Zo]
 simp only [Zaz,List.isEmpty_cons,Bool.false_eq_true,if_false,List.length_cons,List.length_nil,Nat.zero_add,Nat.add_zero,Nat.le_refl,decide_true,hk,ZaU,Bool.and_self,if_true,ZaZ,ZaD,List.getD_cons_zero,ZG,(ZaX _ r' hn).1,(ZaN _ cs' hc').1,hup]
theorem Zcl {O:ZO} {byref:Nat→Bool} {σ:Za} {t f:Nat} {rest:List AVal} {cs cs':List AVal} {x:AVal} {view:Bool} (hb:byref f=false) (hp:rest.all Z6=true) (hc:Zd cs=true) (hc':Zd cs'=true) (hn:ZH x=true)
  (h:O f (.ref 0 0::rest.map ZF) [.var cs]=some (.pan x,[.var cs'])) (hs:σ[t]?=some (.var cs)) (site:Nat):Zj O byref σ site f 0 view (.ref t 0::rest)=some (.pan x,σ.set t (.var cs'),{ any:=true,upd:=[(t,cs')] }):=by
 have htl:t < σ.length:=by
  rcases Nat.lt_or_ge t σ.length with h | h
  ·exact h
  ·rw [List.getElem?_eq_none h] at hs;cases hs
 have hup:Za0 (σ.set t (.var cs')) [t]=[(t,cs')]:=by
  simp only [Za0,List.getElem?_set,if_pos htl,if_true]
 have hd:σ.getD t .free=.var cs:=by simp [List.getD_eq_getElem?_getD,hs]
 have hf0:Zp σ []=σ:=rfl
 have hsh:showAs σ (.ref t 0::rest)=some (.ref t 0::rest.map ZF,[]):=by
  rw [showAs,show showA σ (.ref t 0)=some (.ref t 0,[]) from rfl,ZdX hp]
  rfl
 have href:Zr (.ref t 0::rest.map ZF)=[t]:=by
  rw [Zr,ZcW hp];rfl
 unfold Zj ZbH
 rw [hb]
 simp only [Bool.false_eq_true,if_false,hsh,hf0,href,ZeZ hs hc]
 unfold Zbu
 have hall:([t].all fun t=>okB (σ.getD t .free))=true:=by simp [List.all_cons,List.all_nil,hs,okB]
 rw [if_pos hall]
 have hρ:Zl σ 0 [t] t 0=some (0,0):=by simp [Zl,ZY,hs,Zo,ZR]
 have hheap:Zw σ 0 [t] (Zl σ 0 [t]) [t] 0=[.var cs]:=by
  simp only [Zw,hd,ZG,(ZaN _ cs hc).1]
 have hargs:Ze (Zl σ 0 [t]) (.ref t 0::rest.map ZF)=.ref 0 0::rest.map ZF:=by
  rw [Ze,Zc6 hp]
  simp only [Zk,hρ]
 rw [hargs,hheap,h]
 have hask:Zad view [t].length (some (.pan x,[.var cs']))=some (.pan x,[.var cs']):=by
  unfold Zad
  split <;> rfl
 rw [hask]
 have hk:ZaW σ [t] [.var cs'] 0=true:=by
  simp [ZaW,okB,hs,Zb1,Zo]
 have hnp:ZH (.pan x)=true:=by simpa only [ZH] using hn
 simp only [Zaz,List.isEmpty_cons,Bool.false_eq_true,if_false,List.length_cons,List.length_nil,Nat.zero_add,Nat.add_zero,Nat.le_refl,decide_true,hk,ZaU,Bool.and_self,if_true,ZaZ,ZaD,List.getD_cons_zero,ZG,(ZaX _ _ hnp).1,(ZaN _ cs' hc').1,hup]
end Go.Proofs.YtmlkhhidifjjfaaDoor
namespace Go.Proofs.YtmlkhhidifjjfaaDoor
def Zpo:Zf:=(.seq (.region [oI 21 (.build [(.int .i64 0),(.int .i64 0),(.str []),(.str []),(.lst true [])] []),oN (.st 5 (.t 4) (.t 21)),oI 5 (.mov (.c (.bool false)))] none [5,4]) .ret)
def Znd:Zf:=Zpo
def ZHc:=xw Znd Zpo rfl
def ZiC:Zf:=(.seq (.region [oI 11 (.bin .lss (.t 10) (.t 9))] none [11,10,9,8,4,0]) (.seq (.cond (.t 11) .skip (.exit 0)) (.seq (.block 1 (.seq (.region [oI 12 (.iaddr 5 (.t 8) (.t 10)),oI 13 (.ld (some 5) (.t 12)),oI 7 (.alloc [(.int .i64 0),(.int .i64 0),(.str []),(.str []),(.lst true [])]),oN (.st 5 (.t 7) (.t 13))] none [10,9,8,7,4,0]) (.seq (.region [oI 14 (.faddr 0 (.t 7)),oI 15 (.ld none (.t 14)),oI 16 (.mov (.t 0)),oI 17 (.bin .eql (.t 15) (.t 16))] none [17,10,9,8,7,4,0]) (.cond (.t 17) (.seq (.region [oI 18 (.ld (some 5) (.t 7)),oI 19 (.call 147 0 true [(.t 18)]),oN (.st 5 (.t 4) (.t 19)),oI 5 (.mov (.c (.bool true)))] none [5,4]) .ret) .skip)))) (.region [oI 20 (.bin .add (.t 10) (.c (.int .i64 1))),oI 10 (.mov (.t 20))] none [10,9,8,4,0]))))
def ZlO:Zf:=ZiC
def Zl0:=xw ZlO ZiC rfl
def Zo5:Zf:=(.seq (.region [oI 4 (.alloc [(.int .i64 0),(.int .i64 0),(.str []),(.str []),(.lst true [])]),oI 5 (.mov (.c (.bool false)))] none [4,1,0]) (.seq (.seq (.region [oI 8 (.mov (.t 1)),oI 9 (.len (.t 8)),oI 10 (.mov (.c (.int .i64 0)))] none [10,9,8,4,0]) (.block 0 (.loop [10,9,8,4,0] ZlO))) Znd))
def ZlG:ZD:=⟨[(.cell 4 (some 5)),(.tmp 5)],Zo5⟩
theorem ZEK:FC 112=some ZlG:=by kernel_rfl
theorem ZyN:ZlG.body=Zo5:=rfl
theorem Ztq:ZlG.res=[(.cell 4 (some 5)),(.tmp 5)]:=rfl
noncomputable def ZkV (m:Nat) (tm:Tms) (σ:Za):Option (AVal×Za):=(Zaq m ZlG (ZbG FC PR BY m Znd (Option.map (ZaS 0) (evL FC PR BY m [10,9,8,4,0] ZlO tm σ))))
def Zl8:Zf:=(.seq (.region [oI 2 (.mov (.c (.int .i64 0)))] none [0]) (.seq (.region [oI 3 (.mov (.t 0)),oI 4 (.call 152 0 true [(.t 3)]),oI 5 (.field none 0 (.t 4)),oI 2 (.mov (.t 5))] none [2]) .ret))
def ZpF:ZD:=⟨[(.tmp 2)],Zl8⟩
theorem ZCF:FC 134=some ZpF:=by kernel_rfl
theorem ZAf:ZpF.body=Zl8:=rfl
theorem ZJ4:ZpF.res=[(.tmp 2)]:=rfl
def Zfq:Zf:=(.seq (.region [oI 26 (.mov (.t 6)),oI 27 (.len (.t 26)),oI 28 (.call 82 0 true [(.t 27)]),oI 25 (.mov (.t 28)),oI 29 (.ext (.t 25) 0),oI 30 (.ext (.t 25) 1),oI 9 (.mov (.t 29)),oI 10 (.mov (.t 30))] none [10,9,6,1,0]) (.seq (.seq (.region [oI 31 (.mov (.t 10)),oI 32 (.bin .neq (.t 31) (.c (.int .i64 0)))] none [32,9,6,1,0]) (.cond (.t 32) (.seq (.region [oI 4 (.mov (.c (.lst true []))),oI 5 (.mov (.c (.int .i64 129)))] none [5,4]) .ret) .skip)) (.seq (.region [oI 33 (.mov (.t 9)),oI 34 (.mov (.t 6)),oI 35 (.bslice false 1 2 (.lst true []) [(0,(.t 33)),(1,(.t 34))]),oI 36 (.call 56 0 true [(.t 35)]),oI 6 (.mov (.t 36))] none [6,1,0]) (.seq (.region [oI 38 (.mov (.t 0)),oI 39 (.mov (.t 6)),oI 40 (.call 90 0 true [(.t 38),(.t 39)]),oI 37 (.mov (.t 40)),oI 41 (.ext (.t 37) 0),oI 42 (.ext (.t 37) 1),oI 43 (.ext (.t 37) 2),oI 11 (.mov (.t 41)),oI 12 (.mov (.t 42)),oI 13 (.mov (.t 43))] none [13,12,11,6,1]) (.seq (.seq (.region [oI 44 (.mov (.t 13)),oI 45 (.bin .neq (.t 44) (.c (.int .i64 0))),oI 46 (.mov (.t 45)),⟨(some 47),(.mov (.t 12)),(some (46,false)),[]⟩,⟨(some 48),(.mov (.t 6)),(some (46,false)),[]⟩,⟨(some 49),(.len (.t 48)),(some (46,false)),[]⟩,⟨(some 50),(.bin .neq (.t 47) (.t 49)),(some (46,false)),[]⟩,oI 51 (.pick (.t 46) (.c (.bool true)) (.t 50)),oI 52 (.mov (.t 51)),⟨(some 53),(.mov (.t 11)),(some (52,false)),[]⟩,⟨(some 54),(.mov (.t 1)),(some (52,false)),[]⟩,⟨(some 55),(.call 43 0 true [(.t 53),(.t 54)]),(some (52,false)),[]⟩,⟨(some 56),(.un .not (.t 55)),(some (52,false)),[]⟩,oI 57 (.pick (.t 52) (.c (.bool true)) (.t 56))] none [57,6]) (.cond (.t 57) (.seq (.region [oI 4 (.mov (.c (.lst true []))),oI 5 (.mov (.c (.int .i64 129)))] none [5,4]) .ret) .skip)) (.seq (.region [oI 58 (.mov (.t 6)),oI 4 (.mov (.t 58)),oI 5 (.mov (.c (.int .i64 0)))] none [5,4]) .ret))))))
def Zms:Zf:=Zfq
def ZgO:=xw Zms Zfq rfl
def Zey:Zf:=(.seq (.region [oI 17 (.bin .lss (.t 16) (.t 15))] none [17,16,15,14,6,1,0]) (.seq (.cond (.t 17) .skip (.exit 0)) (.seq (.block 1 (.seq (.region [oI 18 (.iaddr 5 (.t 14) (.t 16)),oI 19 (.ld (some 5) (.t 18)),oI 8 (.alloc [(.int .i64 0),(.int .i64 0),(.str []),(.str []),(.lst true [])]),oN (.st 5 (.t 8) (.t 19))] none [16,15,14,8,6,1,0]) (.region [oI 20 (.mov (.t 6)),oI 21 (.ld (some 5) (.t 8)),oI 22 (.call 89 0 true [(.t 21)]),oI 23 (.app 1 1 (.int .u8 0) (.t 20) (.t 22)),oI 6 (.mov (.t 23))] none [16,15,14,6,1,0]))) (.region [oI 24 (.bin .add (.t 16) (.c (.int .i64 1))),oI 16 (.mov (.t 24))] none [16,15,14,6,1,0]))))
def Zpn:Zf:=Zey
def Zfu:=xw Zpn Zey rfl
def ZkZ:Zf:=(.seq (.region [oI 4 (.mov (.c (.lst true []))),oI 5 (.mov (.c (.int .i64 0)))] none [1,0]) (.seq (.region [oI 6 (.mov (.c (.lst true [])))] none [6,1,0]) (.seq (.seq (.region [oI 14 (.mov (.t 1)),oI 15 (.len (.t 14)),oI 16 (.mov (.c (.int .i64 0)))] none [16,15,14,6,1,0]) (.block 0 (.loop [16,15,14,6,1,0] Zpn))) Zms)))
def Zjn:ZD:=⟨[(.tmp 4),(.tmp 5)],ZkZ⟩
theorem ZsX:FC 42=some Zjn:=by kernel_rfl
theorem ZqJ:Zjn.body=ZkZ:=rfl
theorem ZgH:Zjn.res=[(.tmp 4),(.tmp 5)]:=rfl
noncomputable def Zh1 (m:Nat) (tm:Tms) (σ:Za):Option (AVal×Za):=(Zaq m Zjn (ZbG FC PR BY m Zms (Option.map (ZaS 0) (evL FC PR BY m [16,15,14,6,1,0] Zpn tm σ))))
def ZiH:Zf:=(.seq (.region [oI 4 (.mov (.c (.bool false)))] none [1,0]) (.seq (.region [oI 5 (.mov (.t 1)),oI 6 (.bin .geq (.t 5) (.c (.int .i64 1))),oI 7 (.mov (.t 6)),⟨(some 8),(.mov (.t 1)),(some (7,true)),[]⟩,⟨(some 9),(.bin .leq (.t 8) (.c (.int .i64 16))),(some (7,true)),[]⟩,oI 10 (.pick (.t 7) (.t 9) (.c (.bool false))),oI 11 (.mov (.t 10)),⟨(some 12),(.mov (.t 0)),(some (11,true)),[]⟩,⟨(some 13),(.call 152 0 true [(.t 12)]),(some (11,true)),[]⟩,⟨(some 14),(.field none 1 (.t 13)),(some (11,true)),[]⟩,⟨(some 15),(.mov (.t 1)),(some (11,true)),[]⟩,⟨(some 16),(.bin .shr (.t 14) (.t 15)),(some (11,true)),[]⟩,⟨(some 17),(.bin .and (.t 16) (.c (.int .i64 1))),(some (11,true)),[]⟩,⟨(some 18),(.bin .eql (.t 17) (.c (.int .i64 1))),(some (11,true)),[]⟩,oI 19 (.pick (.t 11) (.t 18) (.c (.bool false))),oI 4 (.mov (.t 19))] none [4]) .ret))
def ZnC:ZD:=⟨[(.tmp 4)],ZiH⟩
theorem ZD4:FC 153=some ZnC:=by kernel_rfl
theorem Zpz:ZnC.body=ZiH:=rfl
theorem ZnZ:ZnC.res=[(.tmp 4)]:=rfl
def ZkU:Zf:=(.seq (.region [oI 57 (.mov (.t 4)),oI 58 (.mov (.t 8)),oI 59 (.mov (.t 7)),oI 60 (.bin .add (.t 58) (.t 59)),oI 4 (.mov (.t 57)),oI 5 (.mov (.t 60)),oI 6 (.mov (.c (.int .i64 0)))] none [6,5,4]) .ret)
def Zoz:Zf:=ZkU
def Zrj:=xw Zoz ZkU rfl
def Zfh:Zf:=(.seq (.seq (.region [oI 36 (.mov (.t 10)),oI 37 (.len (.t 36)),oI 38 (.bin .gtr (.t 37) (.c (.int .i64 0)))] none [38,10,8,7,4,0]) (.cond (.t 38) .skip (.exit 0))) (.block 1 (.seq (.region [oI 40 (.mov (.t 0)),oI 41 (.mov (.t 10)),oI 42 (.mov (.t 4)),oI 43 (.call 136 0 true [(.t 40),(.t 41),(.t 42)]),oI 39 (.mov (.t 43)),oI 44 (.ext (.t 39) 0),oI 45 (.ext (.t 39) 1),oI 46 (.ext (.t 39) 2),oI 11 (.alloc [(.int .i64 0),(.int .i64 0),(.str []),(.str []),(.lst true [])]),oN (.st 5 (.t 11) (.t 44)),oI 12 (.mov (.t 45)),oI 13 (.mov (.t 46))] none [13,12,11,10,8,7,4,0]) (.seq (.seq (.region [oI 47 (.mov (.t 13)),oI 48 (.bin .neq (.t 47) (.c (.int .i64 0)))] none [48,13,12,11,10,8,7,4,0]) (.cond (.t 48) (.seq (.region [oI 49 (.mov (.t 13)),oI 4 (.mov (.c (.lst true []))),oI 5 (.mov (.c (.int .i64 0))),oI 6 (.mov (.t 49))] none [6,5,4]) .ret) .skip)) (.seq (.region [oI 50 (.mov (.t 4)),oI 51 (.ld (some 5) (.t 11)),oI 52 (.bslice false 5 1 (.agg [(.int .i64 0),(.int .i64 0),(.str []),(.str []),(.lst true [])]) [(0,(.t 51))]),oI 53 (.app 5 72 (.agg [(.int .i64 0),(.int .i64 0),(.str []),(.str []),(.lst true [])]) (.t 50) (.t 52)),oI 4 (.mov (.t 53))] none [12,10,8,7,4,0]) (.region [oI 54 (.mov (.t 10)),oI 55 (.mov (.t 12)),oI 56 (.slice 1 (.t 54) (some (.t 55)) none none),oI 10 (.mov (.t 56))] none [10,8,7,4,0]))))))
def Zmq:Zf:=Zfh
def Zhf:=xw Zmq Zfh rfl
def ZiZ:Zf:=(.seq (.region [oI 4 (.mov (.c (.lst true []))),oI 5 (.mov (.c (.int .i64 0))),oI 6 (.mov (.c (.int .i64 0)))] none [4,1,0]) (.seq (.region [oI 15 (.mov (.t 1)),oI 16 (.call 135 0 true [(.t 15)]),oI 14 (.mov (.t 16)),oI 17 (.ext (.t 14) 0),oI 18 (.ext (.t 14) 1),oI 19 (.ext (.t 14) 2),oI 7 (.mov (.t 17)),oI 8 (.mov (.t 18)),oI 9 (.mov (.t 19))] none [9,8,7,4,1,0]) (.seq (.seq (.region [oI 20 (.mov (.t 9)),oI 21 (.bin .neq (.t 20) (.c (.int .i64 0))),oI 22 (.mov (.t 21)),⟨(some 23),(.mov (.t 7)),(some (22,false)),[]⟩,⟨(some 24),(.mov (.t 1)),(some (22,false)),[]⟩,⟨(some 25),(.len (.t 24)),(some (22,false)),[]⟩,⟨(some 26),(.mov (.t 8)),(some (22,false)),[]⟩,⟨(some 27),(.bin .sub (.t 25) (.t 26)),(some (22,false)),[]⟩,⟨(some 28),(.bin .gtr (.t 23) (.t 27)),(some (22,false)),[]⟩,oI 29 (.pick (.t 22) (.c (.bool true)) (.t 28))] none [29,8,7,4,1,0]) (.cond (.t 29) (.seq (.region [oI 4 (.mov (.c (.lst true []))),oI 5 (.mov (.c (.int .i64 0))),oI 6 (.mov (.c (.int .i64 129)))] none [6,5,4]) .ret) .skip)) (.seq (.seq (.region [oI 30 (.mov (.t 1)),oI 31 (.mov (.t 8)),oI 32 (.mov (.t 8)),oI 33 (.mov (.t 7)),oI 34 (.bin .add (.t 32) (.t 33)),oI 35 (.slice 1 (.t 30) (some (.t 31)) (some (.t 34)) none),oI 10 (.mov (.t 35))] none [10,8,7,4,0]) (.block 0 (.loop [10,8,7,4,0] Zmq))) Zoz))))
def Zkl:ZD:=⟨[(.tmp 4),(.tmp 5),(.tmp 6)],ZiZ⟩
theorem Zno:FC 90=some Zkl:=by kernel_rfl
theorem Zoa:Zkl.body=ZiZ:=rfl
theorem Zht:Zkl.res=[(.tmp 4),(.tmp 5),(.tmp 6)]:=rfl
noncomputable def ZgT (m:Nat) (tm:Tms) (σ:Za):Option (AVal×Za):=(Zaq m Zkl (ZbG FC PR BY m Zoz (Option.map (ZaS 0) (evL FC PR BY m [10,8,7,4,0] Zmq tm σ))))
def ZoE:Zf:=(.seq (.region [oI 4 (.mov (.c (.bool false)))] none [1,0]) (.seq (.region [oI 5 (.mov (.t 0)),oI 6 (.mov (.t 1)),oI 7 (.call 91 0 true [(.t 5),(.t 6),(.c (.fn 92 []))]),oI 4 (.mov (.t 7))] none [4]) .ret))
def ZnM:ZD:=⟨[(.tmp 4)],ZoE⟩
theorem ZED:FC 43=some ZnM:=by kernel_rfl
theorem ZGp:ZnM.body=ZoE:=rfl
theorem ZCG:ZnM.res=[(.tmp 4)]:=rfl
def ZmC:Zf:=(.seq (.region [oI 2 (.box (.t 0)),oI 3 (.box (.t 1)),oI 4 (.mov (.c (.bool false)))] none [3,2]) (.seq (.region [oI 5 (.faddr 0 (.t 2)),oI 6 (.ld none (.t 5)),oI 7 (.faddr 0 (.t 3)),oI 8 (.ld none (.t 7)),oI 9 (.bin .eql (.t 6) (.t 8)),oI 10 (.mov (.t 9)),⟨(some 11),(.faddr 1 (.t 2)),(some (10,true)),[]⟩,⟨(some 12),(.ld none (.t 11)),(some (10,true)),[]⟩,⟨(some 13),(.faddr 1 (.t 3)),(some (10,true)),[]⟩,⟨(some 14),(.ld none (.t 13)),(some (10,true)),[]⟩,⟨(some 15),(.bin .eql (.t 12) (.t 14)),(some (10,true)),[]⟩,oI 16 (.pick (.t 10) (.t 15) (.c (.bool false))),oI 17 (.mov (.t 16)),⟨(some 18),(.faddr 2 (.t 2)),(some (17,true)),[]⟩,⟨(some 19),(.ld none (.t 18)),(some (17,true)),[]⟩,⟨(some 20),(.faddr 2 (.t 3)),(some (17,true)),[]⟩,⟨(some 21),(.ld none (.t 20)),(some (17,true)),[]⟩,⟨(some 22),(.bin .eql (.t 19) (.t 21)),(some (17,true)),[]⟩,oI 23 (.pick (.t 17) (.t 22) (.c (.bool false))),oI 24 (.mov (.t 23)),⟨(some 25),(.faddr 3 (.t 2)),(some (24,true)),[]⟩,⟨(some 26),(.ld none (.t 25)),(some (24,true)),[]⟩,⟨(some 27),(.faddr 3 (.t 3)),(some (24,true)),[]⟩,⟨(some 28),(.ld none (.t 27)),(some (24,true)),[]⟩,⟨(some 29),(.bin .eql (.t 26) (.t 28)),(some (24,true)),[]⟩,oI 30 (.pick (.t 24) (.t 29) (.c (.bool false))),oI 31 (.mov (.t 30)),⟨(some 32),(.faddr 4 (.t 2)),(some (31,true)),[]⟩,⟨(some 33),(.ld none (.t 32)),(some (31,true)),[]⟩,⟨(some 34),(.b2s (.t 33)),(some (31,true)),[]⟩,⟨(some 35),(.faddr 4 (.t 3)),(some (31,true)),[]⟩,⟨(some 36),(.ld none (.t 35)),(some (31,true)),[]⟩,⟨(some 37),(.b2s (.t 36)),(some (31,true)),[]⟩,⟨(some 38),(.bin .eql (.t 34) (.t 37)),(some (31,true)),[]⟩,oI 39 (.pick (.t 31) (.t 38) (.c (.bool false))),oI 4 (.mov (.t 39))] none [4]) .ret))
def Zok:ZD:=⟨[(.tmp 4)],ZmC⟩
theorem ZLG:FC 92=some Zok:=by kernel_rfl
theorem ZLC:Zok.body=ZmC:=rfl
theorem ZFW:Zok.res=[(.tmp 4)]:=rfl
def ZlN:Zf:=(.seq (.region [oI 1 (.box (.t 0)),oI 2 (.alloc [(.int .i64 0),(.int .i64 0),(.str []),(.str []),(.lst true [])])] none [2,1]) (.seq (.region [oI 3 (.faddr 4 (.t 1)),oI 4 (.ld none (.t 3)),oI 5 (.call 111 0 true [(.t 4)]),oI 6 (.faddr 4 (.t 1)),oN (.st 1 (.t 6) (.t 5))] none [2,1]) (.seq (.region [oI 7 (.ld (some 5) (.t 1)),oN (.st 5 (.t 2) (.t 7))] none [2]) .ret)))
def Zm6:ZD:=⟨[(.cell 2 (some 5))],ZlN⟩
theorem ZBz:FC 147=some Zm6:=by kernel_rfl
theorem Zv9:Zm6.body=ZlN:=rfl
theorem ZFw:Zm6.res=[(.cell 2 (some 5))]:=rfl
def Zl2:Zf:=(.seq (.region [oI 1 (.box (.t 0)),oI 2 (.mov (.c (.bool false)))] none [1]) (.seq (.seq (.region [oI 3 (.faddr 0 (.t 1)),oI 4 (.ld none (.t 3))] none [4,1]) (.block 0 (.seq (.seq (.region [oI 6 (.bin .eql (.t 4) (.c (.int .i64 11))),oI 5 (.mov (.t 6))] none [5,4,1]) (.cond (.t 5) .skip (.seq (.region [oI 7 (.bin .eql (.t 4) (.c (.int .i64 33))),oI 5 (.mov (.t 7))] none [5,4,1]) (.cond (.t 5) .skip (.seq (.region [oI 8 (.bin .eql (.t 4) (.c (.int .i64 35))),oI 5 (.mov (.t 8))] none [5,4,1]) (.cond (.t 5) .skip (.region [oI 9 (.bin .eql (.t 4) (.c (.int .i64 39))),oI 5 (.mov (.t 9))] none [5,1]))))))) (.cond (.t 5) (.seq (.region [oI 10 (.faddr 1 (.t 1)),oI 11 (.ld none (.t 10)),oI 12 (.bin .neq (.t 11) (.c (.int .i64 0))),oI 2 (.mov (.t 12))] none [2]) .ret) .skip)))) (.seq (.region [oI 13 (.faddr 0 (.t 1)),oI 14 (.ld none (.t 13)),oI 15 (.call 134 0 true [(.t 14)]),oI 16 (.bin .neq (.t 15) (.c (.int .i64 1))),oI 17 (.mov (.t 16)),⟨(some 18),(.faddr 1 (.t 1)),(some (17,false)),[]⟩,⟨(some 19),(.ld none (.t 18)),(some (17,false)),[]⟩,⟨(some 20),(.bin .leq (.t 19) (.c (.int .i64 1))),(some (17,false)),[]⟩,oI 21 (.pick (.t 17) (.c (.bool true)) (.t 20)),oI 2 (.mov (.t 21))] none [2]) .ret)))
def Zl5:ZD:=⟨[(.tmp 2)],Zl2⟩
theorem ZBL:FC 156=some Zl5:=by kernel_rfl
theorem ZDS:Zl5.body=Zl2:=rfl
theorem ZHp:Zl5.res=[(.tmp 2)]:=rfl
def Zd2:Zf:=(.seq (.region [oI 1 (.box (.t 0)),oI 2 (.mov (.c (.lst true [])))] none [1]) (.seq (.region [oI 8 (.faddr 0 (.t 1)),oI 9 (.ld none (.t 8)),oI 10 (.call 82 0 true [(.t 9)]),oI 7 (.mov (.t 10)),oI 11 (.ext (.t 7) 0),oI 12 (.ext (.t 7) 1),oI 3 (.mov (.t 11)),oI 4 (.mov (.t 12))] none [3,1]) (.seq (.region [oI 5 (.mov (.c (.lst true []))),oI 6 (.mov (.c (.lst true [])))] none [6,5,3,1]) (.seq (.seq (.region [oI 13 (.faddr 0 (.t 1)),oI 14 (.ld none (.t 13)),oI 15 (.call 134 0 true [(.t 14)])] none [15,6,5,3,1]) (.block 0 (.seq (.seq (.region [oI 17 (.bin .eql (.t 15) (.c (.int .i64 1))),oI 16 (.mov (.t 17))] none [16,15,6,5,3,1]) (.cond (.t 16) .skip (.seq (.region [oI 18 (.bin .eql (.t 15) (.c (.int .i64 2))),oI 16 (.mov (.t 18))] none [16,15,6,5,3,1]) (.cond (.t 16) .skip (.region [oI 19 (.bin .eql (.t 15) (.c (.int .i64 3))),oI 16 (.mov (.t 19))] none [16,15,6,5,3,1]))))) (.cond (.t 16) (.region [oI 20 (.faddr 1 (.t 1)),oI 21 (.ld none (.t 20)),oI 22 (.i2i .u64 (.t 21)),oI 23 (.faddr 0 (.t 1)),oI 24 (.ld none (.t 23)),oI 25 (.call 134 0 true [(.t 24)]),oI 26 (.bin .sub (.t 25) (.c (.int .i64 1))),oI 27 (.bin .shl (.c (.int .i64 1)) (.t 26)),oI 28 (.call 59 0 true [(.t 22),(.t 27)]),oI 5 (.mov (.t 28))] (some [(1,4),(1,5),(5,5),(8,8)]) [6,5,3]) (.seq (.region [oI 30 (.bin .eql (.t 15) (.c (.int .i64 4))),oI 29 (.mov (.t 30))] none [29,15,6,5,3,1]) (.cond (.t 29) (.region [oI 32 (.faddr 1 (.t 1)),oI 33 (.ld none (.t 32)),oI 34 (.call 82 0 true [(.t 33)]),oI 31 (.mov (.t 34)),oI 35 (.ext (.t 31) 0),oI 36 (.ext (.t 31) 1),oI 5 (.mov (.t 35))] none [6,5,3]) (.seq (.region [oI 38 (.bin .eql (.t 15) (.c (.int .i64 5))),oI 37 (.mov (.t 38))] none [37,15,6,5,3,1]) (.cond (.t 37) (.region [oI 40 (.faddr 2 (.t 1)),oI 41 (.ld none (.t 40)),oI 42 (.call 54 0 true [(.t 41)]),oI 39 (.mov (.t 42)),oI 43 (.ext (.t 39) 0),oI 44 (.ext (.t 39) 1),oI 5 (.mov (.t 43))] none [6,5,3]) (.seq (.region [oI 46 (.bin .eql (.t 15) (.c (.int .i64 6))),oI 45 (.mov (.t 46))] none [45,15,6,5,3,1]) (.cond (.t 45) (.region [oI 48 (.faddr 4 (.t 1)),oI 49 (.ld none (.t 48)),oI 50 (.call 55 0 true [(.t 49)]),oI 47 (.mov (.t 50)),oI 51 (.ext (.t 47) 0),oI 52 (.ext (.t 47) 1),oI 5 (.mov (.t 51))] none [6,5,3]) (.seq (.region [oI 54 (.bin .eql (.t 15) (.c (.int .i64 7))),oI 53 (.mov (.t 54))] none [53,6,5,3,1]) (.cond (.t 53) (.seq (.region [oI 56 (.faddr 2 (.t 1)),oI 57 (.ld none (.t 56)),oI 58 (.call 54 0 true [(.t 57)]),oI 55 (.mov (.t 58)),oI 59 (.ext (.t 55) 0),oI 60 (.ext (.t 55) 1),oI 5 (.mov (.t 59))] none [5,3,1]) (.region [oI 62 (.faddr 3 (.t 1)),oI 63 (.ld none (.t 62)),oI 64 (.call 54 0 true [(.t 63)]),oI 61 (.mov (.t 64)),oI 65 (.ext (.t 61) 0),oI 66 (.ext (.t 61) 1),oI 6 (.mov (.t 65))] none [6,5,3])) .skip)))))))))))) (.seq (.region [oI 67 (.mov (.t 3)),oI 68 (.mov (.t 5)),oI 69 (.mov (.t 6)),oI 70 (.bslice false 1 3 (.lst true []) [(0,(.t 67)),(1,(.t 68)),(2,(.t 69))]),oI 71 (.call 56 0 true [(.t 70)]),oI 2 (.mov (.t 71))] none [2]) .ret)))))
def Zm2:ZD:=⟨[(.tmp 2)],Zd2⟩
theorem Ze3:FC 89=some Zm2:=by kernel_rfl
theorem ZfA:Zm2.body=Zd2:=rfl
theorem Ze9:Zm2.res=[(.tmp 2)]:=rfl
def Zmx:Zf:=(.seq (.region [oI 2 (.alloc [(.int .i64 0),(.int .i64 0)])] none [2,0]) (.seq (.seq (.region [oI 3 (.mov (.t 0))] none [3,2]) (.block 0 (.seq (.region [oI 5 (.bin .eql (.t 3) (.c (.int .i64 1))),oI 4 (.mov (.t 5))] none [4,3,2]) (.cond (.t 4) (.seq (.region [oI 6 (.bslice false 1 2 (.int .i64 0) [(0,(.c (.int .i64 3))),(1,(.c (.int .i64 16)))]),oI 7 (.call 162 0 true [(.t 6)]),oI 8 (.build [(.int .i64 0),(.int .i64 0)] [(0,1,(.c (.int .i64 1))),(1,1,(.t 7))]),oN (.st 2 (.t 2) (.t 8))] none [2]) .ret) (.seq (.region [oI 10 (.bin .eql (.t 3) (.c (.int .i64 2))),oI 9 (.mov (.t 10))] none [9,3,2]) (.cond (.t 9) (.seq (.region [oI 11 (.bslice false 1 2 (.int .i64 0) [(0,(.c (.int .i64 3))),(1,(.c (.int .i64 16)))]),oI 12 (.call 162 0 true [(.t 11)]),oI 13 (.build [(.int .i64 0),(.int .i64 0)] [(0,1,(.c (.int .i64 3))),(1,1,(.t 12))]),oN (.st 2 (.t 2) (.t 13))] none [2]) .ret) (.seq (.seq (.region [oI 15 (.bin .eql (.t 3) (.c (.int .i64 3))),oI 14 (.mov (.t 15))] none [14,3,2]) (.cond (.t 14) .skip (.region [oI 16 (.bin .eql (.t 3) (.c (.int .i64 8))),oI 14 (.mov (.t 16))] none [14,3,2]))) (.cond (.t 14) (.seq (.region [oI 17 (.bslice false 1 2 (.int .i64 0) [(0,(.c (.int .i64 3))),(1,(.c (.int .i64 16)))]),oI 18 (.call 162 0 true [(.t 17)]),oI 19 (.build [(.int .i64 0),(.int .i64 0)] [(0,1,(.c (.int .i64 5))),(1,1,(.t 18))]),oN (.st 2 (.t 2) (.t 19))] none [2]) .ret) (.seq (.region [oI 21 (.bin .eql (.t 3) (.c (.int .i64 9))),oI 20 (.mov (.t 21))] none [20,3,2]) (.cond (.t 20) (.seq (.region [oI 22 (.bslice false 1 2 (.int .i64 0) [(0,(.c (.int .i64 3))),(1,(.c (.int .i64 16)))]),oI 23 (.call 162 0 true [(.t 22)]),oI 24 (.build [(.int .i64 0),(.int .i64 0)] [(0,1,(.c (.int .i64 6))),(1,1,(.t 23))]),oN (.st 2 (.t 2) (.t 24))] none [2]) .ret) (.seq (.region [oI 26 (.bin .eql (.t 3) (.c (.int .i64 11))),oI 25 (.mov (.t 26))] none [25,3,2]) (.cond (.t 25) (.seq (.region [oI 27 (.bslice false 1 2 (.int .i64 0) [(0,(.c (.int .i64 3))),(1,(.c (.int .i64 8)))]),oI 28 (.call 162 0 true [(.t 27)]),oI 29 (.build [(.int .i64 0),(.int .i64 0)] [(0,1,(.c (.int .i64 4))),(1,1,(.t 28))]),oN (.st 2 (.t 2) (.t 29))] none [2]) .ret) (.seq (.region [oI 31 (.bin .eql (.t 3) (.c (.int .i64 17))),oI 30 (.mov (.t 31))] none [30,3,2]) (.cond (.t 30) (.seq (.region [oI 32 (.bslice false 1 3 (.int .i64 0) [(0,(.c (.int .i64 1))),(1,(.c (.int .i64 2))),(2,(.c (.int .i64 14)))]),oI 33 (.call 162 0 true [(.t 32)]),oI 34 (.build [(.int .i64 0),(.int .i64 0)] [(0,1,(.c (.int .i64 3))),(1,1,(.t 33))]),oN (.st 2 (.t 2) (.t 34))] none [2]) .ret) (.seq (.seq (.region [oI 36 (.bin .eql (.t 3) (.c (.int .i64 18))),oI 35 (.mov (.t 36))] none [35,3,2]) (.cond (.t 35) .skip (.region [oI 37 (.bin .eql (.t 3) (.c (.int .i64 26))),oI 35 (.mov (.t 37))] none [35,3,2]))) (.cond (.t 35) (.seq (.region [oI 38 (.bslice false 1 1 (.int .i64 0) [(0,(.c (.int .i64 2)))]),oI 39 (.call 162 0 true [(.t 38)]),oI 40 (.build [(.int .i64 0),(.int .i64 0)] [(0,1,(.c (.int .i64 5))),(1,1,(.t 39))]),oN (.st 2 (.t 2) (.t 40))] none [2]) .ret) (.seq (.region [oI 42 (.bin .eql (.t 3) (.c (.int .i64 19))),oI 41 (.mov (.t 42))] none [41,3,2]) (.cond (.t 41) (.seq (.region [oI 43 (.bslice false 1 1 (.int .i64 0) [(0,(.c (.int .i64 2)))]),oI 44 (.call 162 0 true [(.t 43)]),oI 45 (.build [(.int .i64 0),(.int .i64 0)] [(0,1,(.c (.int .i64 2))),(1,1,(.t 44))]),oN (.st 2 (.t 2) (.t 45))] none [2]) .ret) (.seq (.region [oI 47 (.bin .eql (.t 3) (.c (.int .i64 21))),oI 46 (.mov (.t 47))] none [46,3,2]) (.cond (.t 46) (.seq (.region [oI 48 (.bslice false 1 3 (.int .i64 0) [(0,(.c (.int .i64 1))),(1,(.c (.int .i64 2))),(2,(.c (.int .i64 15)))]),oI 49 (.call 162 0 true [(.t 48)]),oI 50 (.build [(.int .i64 0),(.int .i64 0)] [(0,1,(.c (.int .i64 5))),(1,1,(.t 49))]),oN (.st 2 (.t 2) (.t 50))] none [2]) .ret) (.seq (.region [oI 52 (.bin .eql (.t 3) (.c (.int .i64 22))),oI 51 (.mov (.t 52))] none [51,3,2]) (.cond (.t 51) (.seq (.region [oI 53 (.bslice false 1 3 (.int .i64 0) [(0,(.c (.int .i64 1))),(1,(.c (.int .i64 2))),(2,(.c (.int .i64 15)))]),oI 54 (.call 162 0 true [(.t 53)]),oI 55 (.build [(.int .i64 0),(.int .i64 0)] [(0,1,(.c (.int .i64 6))),(1,1,(.t 54))]),oN (.st 2 (.t 2) (.t 55))] none [2]) .ret) (.seq (.seq (.region [oI 57 (.bin .eql (.t 3) (.c (.int .i64 23))),oI 56 (.mov (.t 57))] none [56,3,2]) (.cond (.t 56) .skip (.region [oI 58 (.bin .eql (.t 3) (.c (.int .i64 25))),oI 56 (.mov (.t 58))] none [56,3,2]))) (.cond (.t 56) (.seq (.region [oI 59 (.bslice false 1 1 (.int .i64 0) [(0,(.c (.int .i64 1)))]),oI 60 (.call 162 0 true [(.t 59)]),oI 61 (.build [(.int .i64 0),(.int .i64 0)] [(0,1,(.c (.int .i64 1))),(1,1,(.t 60))]),oN (.st 2 (.t 2) (.t 61))] none [2]) .ret) (.seq (.region [oI 63 (.bin .eql (.t 3) (.c (.int .i64 24))),oI 62 (.mov (.t 63))] none [62,3,2]) (.cond (.t 62) (.seq (.region [oI 64 (.bslice false 1 1 (.int .i64 0) [(0,(.c (.int .i64 16)))]),oI 65 (.call 162 0 true [(.t 64)]),oI 66 (.build [(.int .i64 0),(.int .i64 0)] [(0,1,(.c (.int .i64 3))),(1,1,(.t 65))]),oN (.st 2 (.t 2) (.t 66))] none [2]) .ret) (.seq (.region [oI 68 (.bin .eql (.t 3) (.c (.int .i64 28))),oI 67 (.mov (.t 68))] none [67,3,2]) (.cond (.t 67) (.seq (.region [oI 69 (.bslice false 1 2 (.int .i64 0) [(0,(.c (.int .i64 2))),(1,(.c (.int .i64 14)))]),oI 70 (.call 162 0 true [(.t 69)]),oI 71 (.build [(.int .i64 0),(.int .i64 0)] [(0,1,(.c (.int .i64 5))),(1,1,(.t 70))]),oN (.st 2 (.t 2) (.t 71))] none [2]) .ret) (.seq (.region [oI 73 (.bin .eql (.t 3) (.c (.int .i64 31))),oI 72 (.mov (.t 73))] none [72,3,2]) (.cond (.t 72) (.seq (.region [oI 74 (.bslice false 1 9 (.int .i64 0) [(0,(.c (.int .i64 2))),(1,(.c (.int .i64 4))),(2,(.c (.int .i64 5))),(3,(.c (.int .i64 6))),(4,(.c (.int .i64 7))),(5,(.c (.int .i64 9))),(6,(.c (.int .i64 11))),(7,(.c (.int .i64 14))),(8,(.c (.int .i64 15)))]),oI 75 (.call 162 0 true [(.t 74)]),oI 76 (.build [(.int .i64 0),(.int .i64 0)] [(0,1,(.c (.int .i64 5))),(1,1,(.t 75))]),oN (.st 2 (.t 2) (.t 76))] none [2]) .ret) (.seq (.seq (.region [oI 78 (.bin .eql (.t 3) (.c (.int .i64 33))),oI 77 (.mov (.t 78))] none [77,3,2]) (.cond (.t 77) .skip (.region [oI 79 (.bin .eql (.t 3) (.c (.int .i64 34))),oI 77 (.mov (.t 79))] none [77,3,2]))) (.cond (.t 77) (.seq (.region [oI 80 (.bslice false 1 2 (.int .i64 0) [(0,(.c (.int .i64 1))),(1,(.c (.int .i64 2)))]),oI 81 (.call 162 0 true [(.t 80)]),oI 82 (.build [(.int .i64 0),(.int .i64 0)] [(0,1,(.c (.int .i64 2))),(1,1,(.t 81))]),oN (.st 2 (.t 2) (.t 82))] none [2]) .ret) (.seq (.region [oI 84 (.bin .eql (.t 3) (.c (.int .i64 35))),oI 83 (.mov (.t 84))] none [83,3,2]) (.cond (.t 83) (.seq (.region [oI 85 (.bslice false 1 1 (.int .i64 0) [(0,(.c (.int .i64 3)))]),oI 86 (.call 162 0 true [(.t 85)]),oI 87 (.build [(.int .i64 0),(.int .i64 0)] [(0,1,(.c (.int .i64 2))),(1,1,(.t 86))]),oN (.st 2 (.t 2) (.t 87))] none [2]) .ret) (.seq (.region [oI 89 (.bin .eql (.t 3) (.c (.int .i64 39))),oI 88 (.mov (.t 89))] none [88,3,2]) (.cond (.t 88) (.seq (.region [oI 90 (.bslice false 1 2 (.int .i64 0) [(0,(.c (.int .i64 1))),(1,(.c (.int .i64 2)))]),oI 91 (.call 162 0 true [(.t 90)]),oI 92 (.build [(.int .i64 0),(.int .i64 0)] [(0,1,(.c (.int .i64 3))),(1,1,(.t 91))]),oN (.st 2 (.t 2) (.t 92))] none [2]) .ret) (.seq (.seq (.region [oI 94 (.bin .eql (.t 3) (.c (.int .i64 36))),oI 93 (.mov (.t 94))] none [93,3,2]) (.cond (.t 93) .skip (.seq (.region [oI 95 (.bin .eql (.t 3) (.c (.int .i64 37))),oI 93 (.mov (.t 95))] none [93,3,2]) (.cond (.t 93) .skip (.seq (.region [oI 96 (.bin .eql (.t 3) (.c (.int .i64 40))),oI 93 (.mov (.t 96))] none [93,3,2]) (.cond (.t 93) .skip (.seq (.region [oI 97 (.bin .eql (.t 3) (.c (.int .i64 41))),oI 93 (.mov (.t 97))] none [93,3,2]) (.cond (.t 93) .skip (.region [oI 98 (.bin .eql (.t 3) (.c (.int .i64 42))),oI 93 (.mov (.t 98))] none [93,3,2]))))))))) (.cond (.t 93) (.seq (.region [oI 99 (.bslice false 1 1 (.int .i64 0) [(0,(.c (.int .i64 2)))]),oI 100 (.call 162 0 true [(.t 99)]),oI 101 (.build [(.int .i64 0),(.int .i64 0)] [(0,1,(.c (.int .i64 1))),(1,1,(.t 100))]),oN (.st 2 (.t 2) (.t 101))] none [2]) .ret) (.seq (.region [oI 103 (.bin .eql (.t 3) (.c (.int .i64 38))),oI 102 (.mov (.t 103))] none [102,2]) (.cond (.t 102) (.seq (.region [oI 104 (.bslice false 1 3 (.int .i64 0) [(0,(.c (.int .i64 0))),(1,(.c (.int .i64 12))),(2,(.c (.int .i64 13)))]),oI 105 (.call 162 0 true [(.t 104)]),oI 106 (.un .xor (.t 105)),oI 107 (.build [(.int .i64 0),(.int .i64 0)] [(0,1,(.c (.int .i64 7))),(1,1,(.t 106))]),oN (.st 2 (.t 2) (.t 107))] none [2]) .ret) .skip)))))))))))))))))))))))))))))))))))))))) (.seq (.region [oI 108 (.build [(.int .i64 0),(.int .i64 0)] []),oN (.st 2 (.t 2) (.t 108))] none [2]) .ret)))
def Zmw:ZD:=⟨[(.cell 2 (some 2))],Zmx⟩
theorem ZLp:FC 152=some Zmw:=by kernel_rfl
theorem ZGO:Zmw.body=Zmx:=rfl
theorem ZwT:Zmw.res=[(.cell 2 (some 2))]:=rfl
def Zod:Zf:=(.seq (.region [oI 4 (.mov (.c (.bool false)))] none [1,0]) (.seq (.region [oI 5 (.mov (.t 0)),oI 6 (.bin .eql (.t 5) (.c (.int .i64 38))),oI 7 (.mov (.t 6)),⟨(some 8),(.mov (.t 0)),(some (7,false)),[]⟩,⟨(some 9),(.bin .eql (.t 8) (.c (.int .i64 11))),(some (7,false)),[]⟩,⟨(some 10),(.mov (.t 9)),(some (7,false)),[]⟩,⟨(some 11),(.mov (.t 1)),(some (10,true)),[]⟩,⟨(some 12),(.bin .eql (.t 11) (.c (.int .i64 3))),(some (10,true)),[]⟩,⟨(some 13),(.pick (.t 10) (.t 12) (.c (.bool false))),(some (7,false)),[]⟩,oI 14 (.pick (.t 7) (.c (.bool true)) (.t 13)),oI 4 (.mov (.t 14))] none [4]) .ret))
def Zmv:ZD:=⟨[(.tmp 4)],Zod⟩
theorem ZHL:FC 155=some Zmv:=by kernel_rfl
theorem ZHV:Zmv.body=Zod:=rfl
theorem ZvQ:Zmv.res=[(.tmp 4)]:=rfl
def Zd8:Zf:=(.seq (.region [oI 6 (.alloc [(.int .i64 0),(.int .i64 0),(.str []),(.str []),(.lst true [])]),oI 7 (.mov (.c (.int .i64 0))),oI 8 (.mov (.c (.int .i64 0)))] none [6,2,1,0]) (.seq (.region [oI 16 (.mov (.t 1)),oI 17 (.call 135 0 true [(.t 16)]),oI 15 (.mov (.t 17)),oI 18 (.ext (.t 15) 0),oI 19 (.ext (.t 15) 1),oI 20 (.ext (.t 15) 2),oI 9 (.mov (.t 18)),oI 10 (.mov (.t 19)),oI 11 (.mov (.t 20))] none [11,10,9,6,2,1,0]) (.seq (.seq (.region [oI 21 (.mov (.t 11)),oI 22 (.bin .neq (.t 21) (.c (.int .i64 0))),oI 23 (.mov (.t 22)),⟨(some 24),(.mov (.t 9)),(some (23,false)),[]⟩,⟨(some 25),(.mov (.t 0)),(some (23,false)),[]⟩,⟨(some 26),(.call 153 0 true [(.t 24),(.t 25)]),(some (23,false)),[]⟩,⟨(some 27),(.un .not (.t 26)),(some (23,false)),[]⟩,oI 28 (.pick (.t 23) (.c (.bool true)) (.t 27))] none [28,10,9,6,2,1,0]) (.cond (.t 28) (.seq (.region [oI 29 (.ld (some 5) (.t 6)),oN (.st 5 (.t 6) (.t 29)),oI 7 (.mov (.c (.int .i64 0))),oI 8 (.mov (.c (.int .i64 129)))] none [8,7,6]) .ret) .skip)) (.seq (.region [oI 31 (.mov (.t 9)),oI 32 (.mov (.t 1)),oI 33 (.mov (.t 10)),oI 34 (.slice 1 (.t 32) (some (.t 33)) none none),oI 35 (.call 154 0 true [(.t 31),(.t 34)]),oI 30 (.mov (.t 35)),oI 36 (.ext (.t 30) 0),oI 37 (.ext (.t 30) 1),oI 38 (.ext (.t 30) 2),oN (.st 5 (.t 6) (.t 36)),oI 7 (.mov (.t 37)),oI 12 (.mov (.t 38))] none [12,10,9,7,6,2,0]) (.seq (.region [oI 40 (.mov (.t 9)),oI 41 (.mov (.t 2)),oI 42 (.call 112 0 true [(.t 40),(.t 41)]),oI 39 (.mov (.t 42)),oI 43 (.ext (.t 39) 0),oI 44 (.ext (.t 39) 1),oI 13 (.alloc [(.int .i64 0),(.int .i64 0),(.str []),(.str []),(.lst true [])]),oN (.st 5 (.t 13) (.t 43)),oI 14 (.mov (.t 44))] none [14,12,10,9,7,6,0]) (.seq (.block 0 (.seq (.region [oI 46 (.mov (.t 12)),oI 47 (.un .not (.t 46)),oI 45 (.mov (.t 47))] none [45,14,10,9,7,6,0]) (.cond (.t 45) (.seq (.region [oI 48 (.ld (some 5) (.t 6)),oN (.st 5 (.t 6) (.t 48)),oI 7 (.mov (.c (.int .i64 0))),oI 8 (.mov (.c (.int .i64 129)))] none [8,7,6]) .ret) (.seq (.region [oI 50 (.mov (.t 14)),oI 51 (.mov (.t 50)),⟨(some 52),(.mov (.t 9)),(some (51,true)),[]⟩,⟨(some 53),(.mov (.t 0)),(some (51,true)),[]⟩,⟨(some 54),(.call 155 0 true [(.t 52),(.t 53)]),(some (51,true)),[]⟩,⟨(some 55),(.un .not (.t 54)),(some (51,true)),[]⟩,oI 56 (.pick (.t 51) (.t 55) (.c (.bool false))),oI 49 (.mov (.t 56))] none [49,10,9,7,6]) (.cond (.t 49) (.seq (.region [oI 57 (.ld (some 5) (.t 6)),oN (.st 5 (.t 6) (.t 57)),oI 7 (.mov (.c (.int .i64 0))),oI 8 (.mov (.c (.int .i64 130)))] none [8,7,6]) .ret) (.seq (.region [oI 59 (.ld (some 5) (.t 6)),oI 60 (.call 156 0 true [(.t 59)]),oI 58 (.mov (.t 60))] none [58,10,9,7,6]) (.cond (.t 58) (.seq (.region [oI 61 (.ld (some 5) (.t 6)),oI 62 (.mov (.t 10)),oI 63 (.mov (.t 7)),oI 64 (.bin .add (.t 62) (.t 63)),oN (.st 5 (.t 6) (.t 61)),oI 7 (.mov (.t 64)),oI 8 (.mov (.c (.int .i64 0)))] none [8,7,6]) .ret) (.seq (.region [oI 66 (.mov (.t 9)),oI 67 (.bin .eql (.t 66) (.c (.int .i64 35))),oI 65 (.mov (.t 67))] none [65,6]) (.cond (.t 65) (.seq (.region [oI 68 (.ld (some 5) (.t 6)),oN (.st 5 (.t 6) (.t 68)),oI 7 (.mov (.c (.int .i64 0))),oI 8 (.mov (.c (.int .i64 148)))] none [8,7,6]) .ret) .skip))))))))) (.seq (.region [oI 69 (.ld (some 5) (.t 6)),oN (.st 5 (.t 6) (.t 69)),oI 7 (.mov (.c (.int .i64 0))),oI 8 (.mov (.c (.int .i64 130)))] none [8,7,6]) .ret)))))))
def Zn6:ZD:=⟨[(.cell 6 (some 5)),(.tmp 7),(.tmp 8)],Zd8⟩
theorem ZfG:FC 136=some Zn6:=by kernel_rfl
theorem ZfQ:Zn6.body=Zd8:=rfl
theorem ZfV:Zn6.res=[(.cell 6 (some 5)),(.tmp 7),(.tmp 8)]:=rfl
def ZcP:Zf:=(.seq (.region [oI 4 (.alloc [(.int .i64 0),(.int .i64 0),(.str []),(.str []),(.lst true [])]),oI 5 (.mov (.c (.int .i64 0))),oI 6 (.mov (.c (.bool false)))] none [5,4,1,0]) (.seq (.region [oI 9 (.mov (.t 0)),oI 10 (.faddr 0 (.t 4)),oN (.st 1 (.t 10) (.t 9))] none [5,4,1,0]) (.seq (.region [oI 7 (.mov (.c (.int .i64 0)))] none [7,5,4,1,0]) (.seq (.seq (.region [oI 11 (.mov (.t 0)),oI 12 (.call 134 0 true [(.t 11)])] none [12,7,5,4,1,0]) (.block 0 (.seq (.seq (.region [oI 14 (.bin .eql (.t 12) (.c (.int .i64 1))),oI 13 (.mov (.t 14))] none [13,12,7,5,4,1,0]) (.cond (.t 13) .skip (.seq (.region [oI 15 (.bin .eql (.t 12) (.c (.int .i64 2))),oI 13 (.mov (.t 15))] none [13,12,7,5,4,1,0]) (.cond (.t 13) .skip (.region [oI 16 (.bin .eql (.t 12) (.c (.int .i64 3))),oI 13 (.mov (.t 16))] none [13,12,7,5,4,1,0]))))) (.cond (.t 13) (.seq (.region [oI 17 (.mov (.t 0)),oI 18 (.call 134 0 true [(.t 17)]),oI 19 (.bin .sub (.t 18) (.c (.int .i64 1))),oI 20 (.bin .shl (.c (.int .i64 1)) (.t 19)),oI 5 (.mov (.t 20))] none [7,5,4,1]) (.seq (.seq (.region [oI 21 (.mov (.t 1)),oI 22 (.len (.t 21)),oI 23 (.mov (.t 5)),oI 24 (.bin .lss (.t 22) (.t 23))] none [24,7,5,4,1]) (.cond (.t 24) (.seq (.region [oI 25 (.ld (some 5) (.t 4)),oN (.st 5 (.t 4) (.t 25)),oI 5 (.mov (.c (.int .i64 0))),oI 6 (.mov (.c (.bool false)))] none [6,5,4]) .ret) .skip)) (.region [oI 26 (.mov (.t 1)),oI 27 (.mov (.t 5)),oI 28 (.slice 1 (.t 26) none (some (.t 27)) none),oI 29 (.call 108 0 true [(.t 28)]),oI 30 (.i2i .i64 (.t 29)),oI 31 (.faddr 1 (.t 4)),oN (.st 1 (.t 31) (.t 30))] none [7,5,4]))) (.seq (.region [oI 33 (.bin .eql (.t 12) (.c (.int .i64 4))),oI 32 (.mov (.t 33))] none [32,12,7,5,4,1]) (.cond (.t 32) (.region [oI 35 (.mov (.t 1)),oI 36 (.call 135 0 true [(.t 35)]),oI 34 (.mov (.t 36)),oI 37 (.ext (.t 34) 0),oI 38 (.ext (.t 34) 1),oI 39 (.ext (.t 34) 2),oI 40 (.faddr 1 (.t 4)),oN (.st 1 (.t 40) (.t 37)),oI 5 (.mov (.t 38)),oI 7 (.mov (.t 39))] none [7,5,4]) (.seq (.region [oI 42 (.bin .eql (.t 12) (.c (.int .i64 5))),oI 41 (.mov (.t 42))] none [41,12,7,5,4,1]) (.cond (.t 41) (.region [oI 44 (.mov (.t 1)),oI 45 (.call 109 0 true [(.t 44)]),oI 43 (.mov (.t 45)),oI 46 (.ext (.t 43) 0),oI 47 (.ext (.t 43) 1),oI 48 (.ext (.t 43) 2),oI 49 (.faddr 2 (.t 4)),oN (.st 1 (.t 49) (.t 46)),oI 5 (.mov (.t 47)),oI 7 (.mov (.t 48))] none [7,5,4]) (.seq (.region [oI 51 (.bin .eql (.t 12) (.c (.int .i64 6))),oI 50 (.mov (.t 51))] none [50,12,7,5,4,1]) (.cond (.t 50) (.region [oI 53 (.mov (.t 1)),oI 54 (.call 106 0 true [(.t 53)]),oI 52 (.mov (.t 54)),oI 55 (.ext (.t 52) 0),oI 56 (.ext (.t 52) 1),oI 57 (.ext (.t 52) 2),oI 58 (.faddr 4 (.t 4)),oN (.st 1 (.t 58) (.t 55)),oI 5 (.mov (.t 56)),oI 7 (.mov (.t 57))] none [7,5,4]) (.seq (.region [oI 60 (.bin .eql (.t 12) (.c (.int .i64 7))),oI 59 (.mov (.t 60))] none [59,7,5,4,1]) (.cond (.t 59) (.seq (.region [oI 62 (.mov (.t 1)),oI 63 (.call 109 0 true [(.t 62)]),oI 61 (.mov (.t 63)),oI 64 (.ext (.t 61) 0),oI 65 (.ext (.t 61) 1),oI 66 (.ext (.t 61) 2),oI 67 (.faddr 2 (.t 4)),oN (.st 1 (.t 67) (.t 64)),oI 5 (.mov (.t 65)),oI 7 (.mov (.t 66))] none [7,5,4,1]) (.seq (.region [oI 68 (.mov (.t 7)),oI 69 (.bin .eql (.t 68) (.c (.int .i64 0)))] none [69,7,5,4,1]) (.cond (.t 69) (.seq (.region [oI 8 (.mov (.c (.int .i64 0)))] none [5,4,1]) (.seq (.region [oI 71 (.mov (.t 1)),oI 72 (.mov (.t 5)),oI 73 (.slice 1 (.t 71) (some (.t 72)) none none),oI 74 (.call 109 0 true [(.t 73)]),oI 70 (.mov (.t 74)),oI 75 (.ext (.t 70) 0),oI 76 (.ext (.t 70) 1),oI 77 (.ext (.t 70) 2),oI 78 (.faddr 3 (.t 4)),oN (.st 1 (.t 78) (.t 75)),oI 8 (.mov (.t 76)),oI 7 (.mov (.t 77))] none [8,7,5,4]) (.region [oI 79 (.mov (.t 5)),oI 80 (.mov (.t 8)),oI 81 (.bin .add (.t 79) (.t 80)),oI 5 (.mov (.t 81))] none [7,5,4]))) .skip))) .skip)))))))))))) (.seq (.region [oI 82 (.ld (some 5) (.t 4)),oI 83 (.mov (.t 5)),oI 84 (.mov (.t 7)),oI 85 (.bin .eql (.t 84) (.c (.int .i64 0))),oN (.st 5 (.t 4) (.t 82)),oI 5 (.mov (.t 83)),oI 6 (.mov (.t 85))] none [6,5,4]) .ret)))))
def Zmz:ZD:=⟨[(.cell 4 (some 5)),(.tmp 5),(.tmp 6)],ZcP⟩
theorem ZdM:FC 154=some Zmz:=by kernel_rfl
theorem Zdh:Zmz.body=ZcP:=rfl
theorem Zdu:Zmz.res=[(.cell 4 (some 5)),(.tmp 5),(.tmp 6)]:=rfl
end Go.Proofs.YtmlkhhidifjjfaaDoor
namespace Go.Proofs.YtmlkhhidifjjfaaDoor
set_option maxHeartbeats 4000000
set_option maxRecDepth 10000
end Go.Proofs.YtmlkhhidifjjfaaDoor
namespace Go.Proofs.YtmlkhhidifjjfaaDoor
set_option maxHeartbeats 8000000
set_option maxRecDepth 10000
def Zrr:List (Int×Int×Int):=[(1,1,65544),(2,3,65544),(3,5,65544),(8,5,65544),(9,6,65544),(11,4,264),(17,3,16390),(18,5,4),(26,5,4),(19,2,4),(21,5,32774),(22,6,32774),(23,1,2),(25,1,2),(24,3,65536),(28,5,16388),(31,5,51956),(33,2,6),(34,2,6),(35,2,8),(39,3,6),(36,1,4),(37,1,4),(40,1,4),(41,1,4),(42,1,4),(38,7,-12290)]
def ofF (id:Int):Int×Int:=(Zrr.lookup id).getD (0,0)
def ZbT (id:Int):Int:=(ofF id).1
def Ze8 (id:Int):Prop:=id=1∨id=2∨id=3∨id=8∨id=9∨id=11∨id=17∨id=18∨id=26∨id=19∨id=21∨id=22∨id=23∨id=25∨id=24∨id=28∨id=31∨id=33∨id=34∨id=35∨id=39∨id=36∨id=37∨id=40∨id=41∨id=42∨id=38
instance (id:Int):Decidable (Ze8 id):=by unfold Ze8;infer_instance
theorem Zsy {id:Int} (h:¬Ze8 id):(id == 1)=false∧(id == 2)=false∧(id == 3)=false∧(id == 8)=false∧(id == 9)=false∧(id == 11)=false∧(id == 17)=false∧(id == 18)=false∧(id == 26)=false∧(id == 19)=false∧(id == 21)=false∧(id == 22)=false∧(id == 23)=false∧(id == 25)=false∧(id == 24)=false∧(id == 28)=false∧(id == 31)=false∧(id == 33)=false∧(id == 34)=false∧(id == 35)=false∧(id == 39)=false∧(id == 36)=false∧(id == 37)=false∧(id == 40)=false∧(id == 41)=false∧(id == 42)=false∧(id == 38)=false:=by
 unfold Ze8 at h
 simp only [not_or] at h
 simp only [beq_eq_false_iff_ne,ne_eq]
 exact h
theorem ZrO {id:Int} (h:¬Ze8 id):ofF id=(0,0):=by
 obtain ⟨h1,h2,h3,h8,h9,h11,h17,h18,h26,h19,h21,h22,h23,h25,h24,h28,h31,h33,h34,h35,h39,h36,h37,h40,h41,h42,h38⟩:=Zsy h
 simp only [ofF,Zrr,List.lookup,h1,h2,h3,h8,h9,h11,h17,h18,h26,h19,h21,h22,h23,h25,h24,h28,h31,h33,h34,h35,h39,h36,h37,h40,h41,h42,h38,Option.getD_none]
theorem ZvY (id:Int):E 152 [.int .i64 id] []=some (.agg [.int .i64 (ofF id).1,.int .i64 (ofF id).2],[]):=by
 by_cases h:Ze8 id
 ·rcases h with rfl | rfl | rfl | rfl | rfl | rfl | rfl | rfl | rfl | rfl | rfl | rfl | rfl | rfl | rfl | rfl | rfl | rfl | rfl | rfl | rfl | rfl | rfl | rfl | rfl | rfl | rfl
  all_goals exact Zdq.2 ⟨20,by kernel_rfl⟩
 ·rw [ZrO h]
  obtain ⟨h1,h2,h3,h8,h9,h11,h17,h18,h26,h19,h21,h22,h23,h25,h24,h28,h31,h33,h34,h35,h39,h36,h37,h40,h41,h42,h38⟩:=Zsy h
  rw [Zh (by rfl) ZLp]
  simp -implicitDefEqProofs only [EQA,Zs,Nat.reduceAdd,Nat.reduceLT,Nat.reduceLeDiff,Nat.reduceEqDiff,Nat.reduceBEq,reduceCtorEq,↓reduceIte,Zd,ZGO,Zmx,ZwT,oI,oN,h1,h2,h3,h8,h9,h11,h17,h18,h26,h19,h21,h22,h23,h25,h24,h28,h31,h33,h34,h35,h39,h36,h37,h40,h41,h42,h38,Zan,AVal.cells]
theorem Zqf (σ:Za) (site own:Nat) (id:Int):Zj E BY σ site 152 own true [.int .i64 id]=some (.agg [.int .i64 (ofF id).1,.int .i64 (ofF id).2],σ,{}) :=
 Zbj (ZvY id) (by kernel_rfl) rfl rfl rfl (fun _=>rfl) _ _ _
theorem Zxq (id:Int):E 134 [.int .i64 id] []=some (.int .i64 (ZbT id),[]):=by
 have hC:=fun σ site own=>Zqf σ site own id
 unfold ZbT
 rw [Zh (by rfl) ZCF]
 simp -implicitDefEqProofs only [EQA,Nat.reduceLT,Nat.reduceEqDiff,reduceCtorEq,↓reduceIte,ZAf,Zl8,ZJ4,oI,hC]
theorem ZiS (σ:Za) (site own:Nat) (id:Int):Zj E BY σ site 134 own true [.int .i64 id]=some (.int .i64 (ZbT id),σ,{}) :=
 Zbj (Zxq id) (by kernel_rfl) rfl rfl rfl (fun _=>rfl) _ _ _
def ZsM (pl w:Int):Int:=IntKind.i64.wrap (((BitVec.ofInt IntKind.i64.bits (pl.fdiv (2 ^ min w.toNat IntKind.i64.bits)) &&& BitVec.ofInt IntKind.i64.bits 1).toNat:Nat):Int)
def Zgv (id w:Int):Bool:=decide (w≥1) && decide (w≤16) && ZsM (ofF id).2 w == 1
theorem ZLX (id w:Int):E 153 [.int .i64 id,.int .i64 w] []=some (.bool (Zgv id w),[]):=by
 have hC:=fun σ site own=>Zqf σ site own id
 unfold Zgv ZsM
 generalize (ofF id).2=pl at *
 rw [Zh (by rfl) ZD4]
 by_cases h1:w≥1
 ·have h2:¬w < 0:=by omega
  by_cases h3:w≤16
  ·simp -implicitDefEqProofs only [EQA,Nat.reduceLT,Nat.reduceEqDiff,Zaw,ZE,unG,ne_eq,Option.some.injEq,reduceCtorEq,decide_true,decide_false,↓reduceIte,Zpz,ZiH,ZnZ,oI,hC,h1,h2,h3]
  ·simp -implicitDefEqProofs only [EQA,Nat.reduceLT,Nat.reduceEqDiff,ZE,Zar,unG,ne_eq,Option.some.injEq,reduceCtorEq,decide_true,decide_false,↓reduceIte,Zpz,ZiH,ZnZ,oI,h1,h3]
 ·simp -implicitDefEqProofs only [EQA,Nat.reduceLT,Nat.reduceEqDiff,ZE,Zar,ne_eq,Option.some.injEq,reduceCtorEq,decide_false,↓reduceIte,Zpz,ZiH,ZnZ,oI,h1]
theorem ZDj (σ:Za) (site own:Nat) (id w:Int):Zj E BY σ site 153 own true [.int .i64 id,.int .i64 w]=some (.bool (Zgv id w),σ,{}) :=
 Zbj (ZLX id w) (by kernel_rfl) rfl rfl rfl (fun _=>rfl) _ _ _
end Go.Proofs.YtmlkhhidifjjfaaDoor
