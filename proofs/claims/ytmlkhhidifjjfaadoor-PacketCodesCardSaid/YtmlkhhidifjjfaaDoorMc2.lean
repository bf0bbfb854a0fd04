/- packed -/
import Derived.Test.YtmlkhhidifjjfaaDoorMc1
import Derived.Laws.Cover3
import Derived.Lib.Index
import Derived.Shelf.Unicode.ValidAny
import Derived.Shelf.Strings.Count
import Derived.Test.YtmlkhhidifjjfaaDoorProg
import Derived.Deep.Slices
import Derived.ChangeArms
import Derived.WideShapes
import GoSem.ClaimChange
import Derived.Lib.TrimUEq
import Derived.Lib.MapLaws
import Derived.Lib.ValidLaws
set_option linter.defProp false
set_option linter.unusedSimpArgs false
set_option linter.unusedVariables false
namespace Go.Proofs.YtmlkhhidifjjfaaDoor
open Go.RowKit
def OLe (O O':ZR):Prop:=∀ f a σ r,O f a σ=some r→O' f a σ=some r
section
variable {O O':ZR} {byref:Nat→Bool}
theorem ZBu {view:Bool} {m:Nat} {x y:Option (AVal×Za)} (h:∀ r,x=some r→y=some r) {r:AVal×Za} (hr:Zae view m x=some r):Zae view m y=some r:=by
 cases x with
 | none=>cases view <;> simp [Zae,ZbI] at hr
 | some q=>rw [h q rfl];exact hr
theorem ZyN {σ σf:Za} {ids ts:List Nat} {site own:Nat} {x y:Option (AVal×Za)} (h:∀ r,x=some r→y=some r) {r:AVal×Za×Cls} (hr:ZaG σ σf ids ts site own x=some r):ZaG σ σf ids ts site own y=some r:=by
 cases x with
 | none=>simp only [ZaG] at hr;cases hr
 | some q=>rw [h q rfl];exact hr
theorem Zpy (hO:OLe O O') {σ:Za} {site f own:Nat} {view:Bool} {args:List AVal} {r:AVal×Za×Cls} (h:Zj O byref σ site f own view args=some r):Zj O' byref σ site f own view args=some r:=by
 unfold Zj ZbC at h ⊢
 split at h
 ·cases h
 ·rename_i vs ts hv
  split at h
  ·rename_i hc
   simp only [hc,if_true]
   exact ZyN (fun q hq=>ZBu (fun q hq=>hO _ _ _ _ hq) hq) h
  ·cases h
theorem ZMp (hO:OLe O O') {tm:Tms} {σ:Za} {site:Nat} {ins:Ins} {r:AVal×Za×Cls} (h:execI O byref tm σ site ins=some r):execI O' byref tm σ site ins=some r:=by
 cases ins
 case call f own view args =>
  simp only [execI] at h ⊢
  exact Zpy hO h
 case callv x args =>
  simp only [execI] at h ⊢
  split at h
  ·exact Zpy hO h
  ·cases h
 all_goals exact h
theorem ZoJ (hO:OLe O O') {o:AOp} {tm:Tms} {σ:Za} {site:Nat} {r:AVal×Tms×Za×Cls} (h:ZS O byref o site tm σ=some r):ZS O' byref o site tm σ=some r:=by
 unfold ZS at h ⊢
 split at h
 ·cases h
 ·exact h
 ·split at h
  ·rename_i hf
   rw [if_pos hf]
   split at h
   ·rename_i he;rw [ZMp hO he];exact h
   ·cases h
  ·cases h
theorem Zpz (hO:OLe O O'):∀ {ops:List AOp} {s:Nat} {tm:Tms} {σ:Za} {r:Tms×Za×List Cls×Option AVal},ZW O byref ops s tm σ=some r→ZW O' byref ops s tm σ=some r
 | [],_,_,_,_,h=>h
 | o::ops,s,tm,σ,r,h=>by
  simp only [ZW] at h ⊢
  split at h
  ·cases h
  ·rename_i h1
   rw [ZoJ hO h1]
   exact h
  ·rename_i v tm1 σ1 c hnp h1
   rw [ZoJ hO h1]
   simp only
   split at h
   ·cases h
   rename_i h2
   rw [Zpz hO h2]
   exact h
theorem Zs2 (hO:OLe O O') {ops:List AOp} {chk:Option (List (Nat×Nat))} {live:List Nat} {tm:Tms} {σ:Za} {r:ZaR×Tms×Za} (h:Zb4 O byref ops chk live tm σ=some r):Zb4 O' byref ops chk live tm σ=some r:=by
 unfold Zb4 at h ⊢
 cases hx:ZW O byref ops σ.length tm (σ++List.replicate (sitesOf ops) .free) with
 | none=>rw [hx] at h;simp only [ZcG] at h;cases h
 | some q=>rw [Zpz hO hx];rw [hx] at h;exact h
theorem Zka {m0:Nat} {live:List Nat} {f f':Tms→Za→Option (ZaR×Tms×Za)} (hf:∀ tm σ r,f tm σ=some r→f' tm σ=some r):∀ {n n':Nat} {tm:Tms} {σ:Za} {r:ZaR×Tms×Za},n≤n'→Zdh m0 live f n tm σ=some r→Zdh m0 live f' n' tm σ=some r
 | 0,_,_,_,_,_,h=>by simp only [Zdh] at h;cases h
 | n+1,0,_,_,_,hn,_=>by omega
 | n+1,n'+1,tm,σ,r,hn,h=>by
  simp only [Zdh] at h ⊢
  split at h
  ·rename_i h1
   rw [hf _ _ _ h1]
   exact Zka hf (by omega) h
  ·rename_i hne
   rw [hf _ _ _ h]
   split
   ·rename_i e;injection e with e;subst e;exact absurd h (hne _ _)
   ·rfl
theorem Zdv (hO:OLe O O') {m0:Nat}:∀ {c:Zf} {n n':Nat} {tm:Tms} {σ:Za} {r:ZaR×Tms×Za},n≤n'→Z3 O byref m0 n c tm σ=some r→Z3 O' byref m0 n' c tm σ=some r:=by
 intro c
 induction c with
 | skip=>intro n n' tm σ r _ h;exact h
 | exit id=>intro n n' tm σ r _ h;exact h
 | ret=>intro n n' tm σ r _ h;exact h
 | stuck=>intro n n' tm σ r _ h;exact h
 | region ops chk live =>
  intro n n' tm σ r _ h
  simp only [Z3] at h ⊢
  exact Zs2 hO h
 | seq a b iha ihb =>
  intro n n' tm σ r hn h
  simp only [Z3] at h ⊢
  split at h
  ·rename_i h1;rw [iha hn h1];exact ihb hn h
  ·rename_i hne
   rw [iha hn h]
   split
   ·rename_i e;injection e with e;subst e;exact absurd h (hne _ _)
   ·rfl
 | cond c a b iha ihb =>
  intro n n' tm σ r hn h
  simp only [Z3] at h ⊢
  split at h
  ·exact iha hn h
  ·exact ihb hn h
  ·cases h
 | block id c ih =>
  intro n n' tm σ r hn h
  simp only [Z3] at h ⊢
  split at h
  ·rename_i h1;rw [ih hn h1];exact h
  ·rename_i hne
   rw [ih hn h]
   split
   ·rename_i e;injection e with e;subst e;exact absurd h (hne _ _ _)
   ·rfl
 | loop live c ih =>
  intro n n' tm σ r hn h
  simp only [Z3] at h ⊢
  exact Zka (fun tm σ r h=>ih hn h) hn h
theorem Zlg {m0:Nat} {fn:ZI} {x y:Option (ZaR×Tms×Za)} (h:∀ r,x=some r→y=some r) {r:AVal×Za} (hr:Zap m0 fn x=some r):Zap m0 fn y=some r:=by
 cases x with
 | none=>simp only [Zap] at hr;cases hr
 | some q=>rw [h q rfl];exact hr
theorem Zto (fs:Nat→Option ZI) (prim:Zco):∀ n,OLe (Zaq fs prim byref n) (Zaq fs prim byref (n+1))
 | 0=>by intro f a σ r h;simp only [Zaq] at h;cases h
 | n+1=>by
  intro f a σ r h
  rw [Zaq] at h ⊢
  split at h
  ·rename_i g hg;exact h
  ·rename_i hg
   split at h
   ·cases h
   ·rename_i fn hfn
    exact Zlg (fun q hq=>Zdv (Zto fs prim n) (by omega) hq) h
theorem ZiS (fs : Nat → Option ZI) (prim : Zco) {n m : Nat} (h : n ≤ m) : OLe (Zaq fs prim byref n) (Zaq fs prim byref m) := by
  induction m with
  | zero => obtain rfl : n = 0 := by omega
            exact fun _ _ _ _ h => h
  | succ m ih =>
    by_cases e : n = m + 1
    · subst e; exact fun _ _ _ _ h => h
    · exact fun f a σ r hr => Zto fs prim m f a σ r (ih (by omega) f a σ r hr)
end
section
variable (fs:Nat→Option ZI) (prim:Zco) (byref:Nat→Bool)
open Classical in
noncomputable def EV:ZR:=fun f args σ=>if h:∃ r,∃ n,Zaq fs prim byref n f args σ=some r then some h.choose else none
open Classical in
noncomputable def evC (m:Nat) (c:Zf) (tm:Tms) (σ:Za):Option (ZaR×Tms×Za):=if h:∃ r,∃ n,Z3 (Zaq fs prim byref n) byref m n c tm σ=some r then some h.choose else none
variable {fs prim byref} {m0:Nat}
theorem ZdF {f:Nat} {args:List AVal} {σ:Za} {r:AVal×Za}:EV fs prim byref f args σ=some r↔∃ n,Zaq fs prim byref n f args σ=some r:=by
 unfold EV
 constructor
 ·intro h
  split at h
  ·rename_i hx
   injection h with h
   rw [←h]
   exact hx.choose_spec
  ·cases h
 ·rintro ⟨n,hn⟩
  have hx:∃ r,∃ n,Zaq fs prim byref n f args σ=some r:=⟨r,n,hn⟩
  rw [dif_pos hx]
  obtain ⟨m,hm⟩:=hx.choose_spec
  have h1:=ZiS (byref:=byref) fs prim (Nat.le_max_left n m) _ _ _ _ hn
  have h2:=ZiS (byref:=byref) fs prim (Nat.le_max_right n m) _ _ _ _ hm
  rw [h1] at h2
  injection h2 with h2
  rw [←h2]
theorem Zbm {c:Zf} {tm:Tms} {σ:Za} {r:ZaR×Tms×Za}:evC fs prim byref m0 c tm σ=some r↔∃ n,Z3 (Zaq fs prim byref n) byref m0 n c tm σ=some r:=by
 unfold evC
 constructor
 ·intro h
  split at h
  ·rename_i hx
   injection h with h
   rw [←h]
   exact hx.choose_spec
  ·cases h
 ·rintro ⟨n,hn⟩
  have hx:∃ r,∃ n,Z3 (Zaq fs prim byref n) byref m0 n c tm σ=some r:=⟨r,n,hn⟩
  rw [dif_pos hx]
  obtain ⟨m,hm⟩:=hx.choose_spec
  have h1:=Zdv (ZiS (byref:=byref) fs prim (Nat.le_max_left n m)) (Nat.le_max_left n m) hn
  have h2:=Zdv (ZiS (byref:=byref) fs prim (Nat.le_max_right n m)) (Nat.le_max_right n m) hm
  rw [h1] at h2
  injection h2 with h2
  rw [←h2]
theorem ZeX {α:Type} {x y:Option α} (h:∀ r,x=some r↔y=some r):x=y:=by
 cases x with
 | none =>
  cases y with
  | none=>rfl
  | some q=>exact absurd ((h q).2 rfl) (by simp)
 | some q=>exact ((h q).1 rfl).symm
theorem Zy1 (n:Nat):OLe (Zaq fs prim byref n) (EV fs prim byref):=fun _ _ _ _ h=>ZdF.2 ⟨n,h⟩
theorem up {n m:Nat} (h:n≤m):OLe (Zaq fs prim byref n) (Zaq fs prim byref m):=ZiS fs prim h
theorem ZuC {f:Nat} {g:List AVal→Za→Option (AVal×Za)} (hp:prim f=some g) (args:List AVal) (σ:Za):EV fs prim byref f args σ=g args σ:=by
 apply ZeX
 intro r
 rw [ZdF]
 constructor
 ·rintro ⟨n,h⟩
  cases n with
  | zero=>simp only [Zaq] at h;cases h
  | succ n=>rw [Zaq,hp] at h;exact h
 ·intro h
  exact ⟨1,by rw [Zaq,hp];exact h⟩
theorem Zr4 {f:Nat} {fn:ZI} (hp:prim f=none) (hf:fs f=some fn) (args:List AVal) (σ:Za):EV fs prim byref f args σ=Zap σ.length fn (evC fs prim byref σ.length fn.body (enterA 0 args []) σ):=by
 apply ZeX
 intro r
 rw [ZdF]
 constructor
 ·rintro ⟨n,h⟩
  cases n with
  | zero=>simp only [Zaq] at h;cases h
  | succ n =>
   rw [Zaq,hp,hf] at h
   exact Zlg (fun q hq=>Zbm.2 ⟨n,hq⟩) h
 ·intro h
  cases hx:evC fs prim byref σ.length fn.body (enterA 0 args []) σ with
  | none=>rw [hx] at h;simp only [Zap] at h;cases h
  | some q =>
   obtain ⟨n,hn⟩:=Zbm.1 hx
   refine ⟨n+1,?_⟩
   rw [Zaq,hp,hf]
   rw [hx] at h
   exact Zlg (x:=some q) (fun q' hq'=>by injection hq' with hq';subst hq';exact hn) h
theorem ZqJ {σ:Za} {site f own:Nat} {view:Bool} {args:List AVal} {r:AVal×Za×Cls} (h:Zj (EV fs prim byref) byref σ site f own view args=some r):∃ n,Zj (Zaq fs prim byref n) byref σ site f own view args=some r:=by
 unfold Zj ZbC at h ⊢
 split at h
 ·cases h
 ·rename_i vs ts hv
  split at h
  ·rename_i hc
   simp only [hc,if_true]
   cases hx:EV fs prim byref f (Ze (Zl (Zn σ ts) 0 (ZA (Zn σ ts) 1000 (Zr vs) [])) vs) (Zx (Zn σ ts) 0 (ZA (Zn σ ts) 1000 (Zr vs) []) (Zl (Zn σ ts) 0 (ZA (Zn σ ts) 1000 (Zr vs) [])) (ZA (Zn σ ts) 1000 (Zr vs) []) 0) with
   | none =>
    rw [hx] at h
    cases view <;> simp [Zae,ZbI,ZaG] at h
   | some q =>
    obtain ⟨n,hn⟩:=ZdF.1 hx
    exact ⟨n,by rw [hn];rw [hx] at h;exact h⟩
  ·cases h
theorem ZLZ {tm:Tms} {σ:Za} {site:Nat} {ins:Ins} {r:AVal×Za×Cls} (h:execI (EV fs prim byref) byref tm σ site ins=some r):∃ n,execI (Zaq fs prim byref n) byref tm σ site ins=some r:=by
 cases ins
 case call f own view args =>
  simp only [execI] at h ⊢
  exact ZqJ h
 case callv x args =>
  simp only [execI] at h ⊢
  split at h
  ·exact ZqJ h
  ·cases h
 all_goals exact ⟨0,h⟩
theorem Zuw {o:AOp} {tm:Tms} {σ:Za} {site:Nat} {r:AVal×Tms×Za×Cls} (h:ZS (EV fs prim byref) byref o site tm σ=some r):∃ n,ZS (Zaq fs prim byref n) byref o site tm σ=some r:=by
 unfold ZS at h ⊢
 split at h
 ·cases h
 ·exact ⟨0,h⟩
 ·split at h
  ·rename_i hf
   simp only [hf,if_true]
   split at h
   ·rename_i he
    obtain ⟨n,hn⟩:=ZLZ he
    exact ⟨n,by rw [hn];exact h⟩
   ·cases h
  ·cases h
theorem Zr5:∀ {ops:List AOp} {s:Nat} {tm:Tms} {σ:Za} {r:Tms×Za×List Cls×Option AVal},ZW (EV fs prim byref) byref ops s tm σ=some r→∃ n,ZW (Zaq fs prim byref n) byref ops s tm σ=some r
 | [],_,_,_,_,h=>⟨0,h⟩
 | o::ops,s,tm,σ,r,h=>by
  simp only [ZW] at h ⊢
  split at h
  ·cases h
  ·rename_i h1
   obtain ⟨n,hn⟩:=Zuw h1
   exact ⟨n,by rw [hn];exact h⟩
  rename_i v tm1 σ1 c hnp h1
  split at h
  ·cases h
  rename_i h2
  obtain ⟨n,hn⟩:=Zuw h1
  obtain ⟨m,hm⟩:=Zr5 h2
  refine ⟨max n m,?_⟩
  rw [ZoJ (up (Nat.le_max_left n m)) hn]
  simp only
  rw [Zpz (up (Nat.le_max_right n m)) hm]
  exact h
theorem ZEw {ops:List AOp} {chk:Option (List (Nat×Nat))} {live:List Nat} {tm:Tms} {σ:Za} {r:ZaR×Tms×Za} (h:Zb4 (EV fs prim byref) byref ops chk live tm σ=some r):∃ n,Zb4 (Zaq fs prim byref n) byref ops chk live tm σ=some r:=by
 unfold Zb4 at h ⊢
 cases hx:ZW (EV fs prim byref) byref ops σ.length tm (σ++List.replicate (sitesOf ops) .free) with
 | none=>rw [hx] at h;simp only [ZcG] at h;cases h
 | some q =>
  obtain ⟨n,hn⟩:=Zr5 hx
  exact ⟨n,by rw [hn];rw [hx] at h;exact h⟩
theorem ZAU (tm:Tms) (σ:Za):evC fs prim byref m0 .skip tm σ=some (.normal,tm,σ):=Zbm.2 ⟨0,rfl⟩
theorem ZHC (id:Nat) (tm:Tms) (σ:Za):evC fs prim byref m0 (.exit id) tm σ=some (.exit id,tm,σ):=Zbm.2 ⟨0,rfl⟩
theorem ZvK (tm:Tms) (σ:Za):evC fs prim byref m0 .ret tm σ=some (.ret,tm,σ):=Zbm.2 ⟨0,rfl⟩
theorem ZzQ {ops:List AOp} {chk:Option (List (Nat×Nat))} {live:List Nat} {tm:Tms} {σ:Za}:evC fs prim byref m0 (.region ops chk live) tm σ=Zb4 (EV fs prim byref) byref ops chk live tm σ:=by
 apply ZeX
 intro r
 rw [Zbm]
 constructor
 ·rintro ⟨n,hn⟩
  simp only [Z3] at hn
  exact Zs2 (Zy1 n) hn
 ·intro h
  obtain ⟨n,hn⟩:=ZEw h
  exact ⟨n,by simp only [Z3];exact hn⟩
theorem Zii {a b:Zf} {tm tm':Tms} {σ σ':Za} (h:evC fs prim byref m0 a tm σ=some (.normal,tm',σ')):evC fs prim byref m0 (.seq a b) tm σ=evC fs prim byref m0 b tm' σ':=by
 obtain ⟨n,hn⟩:=Zbm.1 h
 apply ZeX
 intro r
 rw [Zbm,Zbm]
 constructor
 ·rintro ⟨m,hm⟩
  have h1:=Zdv (up (Nat.le_max_left n m)) (Nat.le_max_left n m) hn
  have h2:=Zdv (up (Nat.le_max_right n m)) (Nat.le_max_right n m) hm
  simp only [Z3,h1] at h2
  exact ⟨_,h2⟩
 ·rintro ⟨m,hm⟩
  have h1:=Zdv (up (Nat.le_max_left n m)) (Nat.le_max_left n m) hn
  have h2:=Zdv (up (Nat.le_max_right n m)) (Nat.le_max_right n m) hm
  exact ⟨max n m,by simp only [Z3,h1];exact h2⟩
theorem ZiU {a b:Zf} {tm tm':Tms} {σ σ':Za} {e:ZaR} (he:e≠.normal) (h:evC fs prim byref m0 a tm σ=some (e,tm',σ')):evC fs prim byref m0 (.seq a b) tm σ=some (e,tm',σ'):=by
 obtain ⟨n,hn⟩:=Zbm.1 h
 refine Zbm.2 ⟨n,?_⟩
 simp only [Z3,hn]
 cases e with
 | normal=>exact absurd rfl he
 | exit id=>rfl
 | ret=>rfl
 | panic x=>rfl
def ZaX (id:Nat):ZaR×Tms×Za→ZaR×Tms×Za
 | (.exit i,tm,σ)=>if i=id then (.normal,tm,σ) else (.exit i,tm,σ)
 | r=>r
theorem ZEe {id:Nat} {c:Zf} {tm:Tms} {σ:Za}:evC fs prim byref m0 (.block id c) tm σ=(evC fs prim byref m0 c tm σ).map (ZaX id):=by
 have step:∀ n,Z3 (Zaq fs prim byref n) byref m0 n (.block id c) tm σ=(Z3 (Zaq fs prim byref n) byref m0 n c tm σ).map (ZaX id):=by
  intro n
  simp only [Z3]
  cases Z3 (Zaq fs prim byref n) byref m0 n c tm σ with
  | none=>rfl
  | some q =>
   obtain ⟨e,tm1,σ1⟩:=q
   cases e with
   | normal=>rfl
   | ret=>rfl
   | panic x=>rfl
   | exit i=>simp only [Option.map_some,ZaX];split <;> rfl
 apply ZeX;intro r
 rw [Zbm]
 simp only [step,Option.map_eq_some_iff]
 constructor
 ·rintro ⟨n,q,h1,h2⟩;exact ⟨q,Zbm.2 ⟨n,h1⟩,h2⟩
 ·rintro ⟨q,h1,h2⟩;obtain ⟨n,hn⟩:=Zbm.1 h1;exact ⟨n,q,hn,h2⟩
theorem Zxs {c:Zf} {tm:Tms} {σ:Za} (h:evC fs prim byref m0 c tm σ=none) (n:Nat):Z3 (Zaq fs prim byref n) byref m0 n c tm σ=none:=by
 cases hx:Z3 (Zaq fs prim byref n) byref m0 n c tm σ with
 | none=>rfl
 | some r=>rw [Zbm.2 ⟨n,hx⟩] at h;cases h
variable (fs prim byref m0) in
noncomputable def ZbQ (b:Zf):Option (ZaR×Tms×Za)→Option (ZaR×Tms×Za)
 | some (.normal,tm,σ)=>evC fs prim byref m0 b tm σ
 | r=>r
theorem ZBK {a b:Zf} {tm:Tms} {σ:Za}:evC fs prim byref m0 (.seq a b) tm σ=ZbQ fs prim byref m0 b (evC fs prim byref m0 a tm σ):=by
 cases h:evC fs prim byref m0 a tm σ with
 | none =>
  simp only [ZbQ]
  apply ZeX;intro r
  rw [Zbm]
  constructor
  ·rintro ⟨n,hn⟩
   simp only [Z3,Zxs h n] at hn
   cases hn
  ·intro h;cases h
 | some q =>
  obtain ⟨e,tm',σ'⟩:=q
  cases e with
  | normal=>exact Zii h
  | exit id=>exact ZiU (by simp) h
  | ret=>exact ZiU (by simp) h
  | panic x=>exact ZiU (by simp) h
variable (fs prim byref m0) in
noncomputable def Zh7 (a b:Zf) (tm:Tms) (σ:Za):AVal→Option (ZaR×Tms×Za)
 | .bool true=>evC fs prim byref m0 a tm σ
 | .bool false=>evC fs prim byref m0 b tm σ
 | _=>none
theorem ZHs {c:Opd} {a b:Zf} {tm:Tms} {σ:Za}:evC fs prim byref m0 (.cond c a b) tm σ=Zh7 fs prim byref m0 a b tm σ (c.ev tm):=by
 apply ZeX;intro r
 rw [Zbm]
 simp only [Z3]
 constructor
 ·rintro ⟨n,hn⟩
  split at hn
  ·rename_i e;rw [e];simp only [Zh7];exact Zbm.2 ⟨n,hn⟩
  ·rename_i e;rw [e];simp only [Zh7];exact Zbm.2 ⟨n,hn⟩
  ·cases hn
 ·intro h
  unfold Zh7 at h
  split at h
  ·rename_i e;obtain ⟨n,hn⟩:=Zbm.1 h;exact ⟨n,by rw [e];exact hn⟩
  ·rename_i e;obtain ⟨n,hn⟩:=Zbm.1 h;exact ⟨n,by rw [e];exact hn⟩
  ·cases h
variable (fs prim byref m0) in
noncomputable def evL (live:List Nat) (c:Zf) (tm:Tms) (σ:Za):Option (ZaR×Tms×Za) :=
 match evC fs prim byref m0 c tm σ with
 | some (.normal,tm',σ')=>evC fs prim byref m0 (.loop live c) tm' σ'
 | r=>r
theorem Zsq {live:List Nat} {c:Zf} {tm:Tms} {σ:Za}:evC fs prim byref m0 (.loop live c) tm σ=evL fs prim byref m0 live c (gcT m0 (keepL live tm) σ).1 (gcT m0 (keepL live tm) σ).2:=by
 apply ZeX;intro r
 rw [Zbm]
 constructor
 ·rintro ⟨n,hn⟩
  simp only [Z3] at hn
  cases n with
  | zero=>simp only [Zdh] at hn;cases hn
  | succ k =>
   simp only [Zdh] at hn
   unfold evL
   cases hx:Z3 (Zaq fs prim byref (k+1)) byref m0 (k+1) c (gcT m0 (keepL live tm) σ).1 (gcT m0 (keepL live tm) σ).2 with
   | none=>rw [hx] at hn;cases hn
   | some q =>
    rw [Zbm.2 ⟨_,hx⟩]
    rw [hx] at hn
    obtain ⟨e,tm',σ'⟩:=q
    cases e with
    | normal =>
     simp only at hn ⊢
     exact Zbm.2 ⟨k+1,by simp only [Z3];exact Zka (fun _ _ _ h=>h) (by omega) hn⟩
    | exit id=>exact hn
    | ret=>exact hn
    | panic x=>exact hn
 ·intro h
  unfold evL at h
  cases hx:evC fs prim byref m0 c (gcT m0 (keepL live tm) σ).1 (gcT m0 (keepL live tm) σ).2 with
  | none=>rw [hx] at h;cases h
  | some q =>
   rw [hx] at h
   obtain ⟨n,hn⟩:=Zbm.1 hx
   obtain ⟨e,tm',σ'⟩:=q
   have out:e≠.normal→some (e,tm',σ')=some r→∃ n,Z3 (Zaq fs prim byref n) byref m0 n (.loop live c) tm σ=some r:=by
    intro he h
    refine ⟨n+1,?_⟩
    have h1:=Zdv (up (show n≤n+1 by omega)) (show n≤n+1 by omega) hn
    simp only [Z3,Zdh,h1]
    cases e with
    | normal=>exact absurd rfl he
    | exit id=>exact h
    | ret=>exact h
    | panic x=>exact h
   cases e with
   | normal =>
    simp only at h
    obtain ⟨m,hm⟩:=Zbm.1 h
    have h1:=Zdv (up (show n≤max n m+1 by omega)) (show n≤max n m+1 by omega) hn
    have h2:=Zdv (up (show m≤max n m+1 by omega)) (Nat.le_refl m) hm
    simp only [Z3] at h2
    refine ⟨max n m+1,?_⟩
    simp only [Z3,Zdh,h1]
    exact Zka (fun tm σ r h=>Zdv (fun _ _ _ _ h=>h) (by omega) h) (by omega) h2
   | exit id=>exact out (by simp) h
   | ret=>exact out (by simp) h
   | panic x=>exact out (by simp) h
theorem ZBa {P:Program} (hm:P.follows .mixedOrders=true) {prim:Zco} (hP:Zk7 P prim) (ann:Nat→Ann) (byref:Nat→Bool):ZaN P (EV (Zin P ann) prim byref):=by
 intro f args σ r σ' h
 obtain ⟨n,hn⟩:=ZdF.1 h
 exact ZmF hm hP ann byref n f args σ r σ' hn
end
end Go.Proofs.YtmlkhhidifjjfaaDoor
namespace Go.Proofs.YtmlkhhidifjjfaaDoor
open Go.RowKit
def Zrr:Tms×Za×List Cls×Option AVal→Tms×Za×Option AVal:=fun q=>(q.1,q.2.1,q.2.2.2)
def ZaP:AVal→Bool
 | .pan _=>true
 | _=>false
section
variable (O:ZR) (byref:Nat→Bool)
def exI (i:Ins) (s:Nat) (tm:Tms) (σ:Za):Option (AVal×Za×Cls) :=
 if nsite i == 0 || freeAt σ s then execI O byref tm σ s i else none
def Zbg (ops:List AOp) (s:Nat) (tm:Tms) (σ:Za):Option (Tms×Za×Option AVal):=(ZW O byref ops s tm σ).map Zrr
def kN (d:Option Nat) (os:List AOp) (s:Nat) (tm:Tms):Option (AVal×Za×Cls)→Option (Tms×Za×Option AVal)
 | none=>none
 | some (v,σ,_)=>if ZaP v then some (tput tm d v,σ,some (ZaS v)) else Zbg O byref os s (tput tm d v) σ
def ZlU (live:List Nat):Option (Tms×Za×Option AVal)→Option (ZaR×Tms×Za)
 | none=>none
 | some (_,σ,some x)=>some (.panic x,[],σ)
 | some (tm,σ,none)=>some (.normal,keepL live tm,σ)
variable {O byref}
theorem ZrF (s:Nat) (tm:Tms) (σ:Za):Zbg O byref [] s tm σ=some (tm,σ,none):=rfl
theorem Zia {o:AOp} {os:List AOp} {s:Nat} {tm:Tms} {σ:Za} (h:ZS O byref o s tm σ=none):ZW O byref (o::os) s tm σ=none:=by simp only [ZW,h]
theorem Zki {o:AOp} {os:List AOp} {s:Nat} {tm tm1:Tms} {σ σ1:Za} {x:AVal} {c:Cls} (h:ZS O byref o s tm σ=some (.pan x,tm1,σ1,c)):ZW O byref (o::os) s tm σ=some (tm1,σ1,[c],some x):=by simp only [ZW,h]
theorem ZrU {o:AOp} {os:List AOp} {s:Nat} {tm tm1:Tms} {σ σ1:Za} {v:AVal} {c:Cls} (h:ZS O byref o s tm σ=some (v,tm1,σ1,c)) (hn:ZaP v=false):ZW O byref (o::os) s tm σ=(ZW O byref os (s+nsite o.ins) tm1 σ1).map fun q=>(q.1,q.2.1,c::q.2.2.1,q.2.2.2):=by
 simp only [ZW,h]
 cases v <;> first
  | (simp [ZaP] at hn;done)
  | (simp only;cases ZW O byref os (s+nsite o.ins) tm1 σ1 <;> rfl)
theorem ZlA {o:AOp} {os:List AOp} {s:Nat} {tm:Tms} {σ:Za} (h:ZS O byref o s tm σ=none):Zbg O byref (o::os) s tm σ=none:=by simp only [Zbg,Zia h,Option.map_none]
theorem Zme {o:AOp} {os:List AOp} {s:Nat} {tm tm1:Tms} {σ σ1:Za} {x:AVal} {c:Cls} (h:ZS O byref o s tm σ=some (.pan x,tm1,σ1,c)):Zbg O byref (o::os) s tm σ=some (tm1,σ1,some x):=by simp only [Zbg,Zki h,Option.map_some,Zrr]
theorem Zj3 {o:AOp} {os:List AOp} {s:Nat} {tm tm1:Tms} {σ σ1:Za} {v:AVal} {c:Cls} (h:ZS O byref o s tm σ=some (v,tm1,σ1,c)) (hn:ZaP v=false):Zbg O byref (o::os) s tm σ=Zbg O byref os (s+nsite o.ins) tm1 σ1:=by
 simp only [Zbg,ZrU h hn,Option.map_map]
 rfl
theorem Zky {v:AVal} (h:ZaP v=true):∃ x,v=.pan x:=by
 cases v <;> first | exact ⟨_,rfl⟩ | (simp [ZaP] at h;done)
theorem Zk1 {d:Option Nat} {i:Ins} {af:List Nat} {s:Nat} {tm:Tms} {σ:Za}:ZS O byref ⟨d,i,none,af⟩ s tm σ=(exI O byref i s tm σ).map fun q=>(q.1,tput tm d q.1,q.2.1,q.2.2):=by
 unfold ZS exI
 simp only [Zbw]
 split
 ·cases execI O byref tm σ s i with
  | none=>rfl
  | some q=>rfl
 ·rfl
theorem ZpB (d:Option Nat) (i:Ins) (af:List Nat) (os:List AOp) (s:Nat) (tm:Tms) (σ:Za):Zbg O byref (⟨d,i,none,af⟩::os) s tm σ=kN O byref d os (s+nsite i) tm (exI O byref i s tm σ):=by
 cases h:exI O byref i s tm σ with
 | none=>exact ZlA (by rw [Zk1,h];rfl)
 | some q =>
  obtain ⟨v,σ1,c⟩:=q
  have hs:ZS O byref ⟨d,i,none,af⟩ s tm σ=some (v,tput tm d v,σ1,c):=by rw [Zk1,h];rfl
  cases hp:ZaP v with
  | true =>
   obtain ⟨x,rfl⟩:=Zky hp
   exact Zme hs
  | false =>
   rw [Zj3 hs hp]
   simp only [kN,hp,Bool.false_eq_true,if_false]
theorem ZFH (ops:List AOp) (live:List Nat) (tm:Tms) (σ:Za):Zb4 O byref ops none live tm σ=ZlU live (Zbg O byref ops σ.length tm (σ++List.replicate (sitesOf ops) .free)):=by
 unfold Zb4 Zbg
 cases ZW O byref ops σ.length tm (σ++List.replicate (sitesOf ops) .free) with
 | none=>rfl
 | some q =>
  obtain ⟨tm',σ',cs,p⟩:=q
  cases p <;> rfl
theorem Zpi (d:Option Nat) (os:List AOp) (s:Nat) (tm:Tms) (v:AVal) (σ:Za) (c:Cls) (h:ZaP v=false):kN O byref d os s tm (some (v,σ,c))=Zbg O byref os s (tput tm d v) σ:=by
 simp only [kN,h,Bool.false_eq_true,if_false]
theorem ZNj (d:Option Nat) (os:List AOp) (s:Nat) (tm:Tms) (x:AVal) (σ:Za) (c:Cls):kN O byref d os s tm (some (.pan x,σ,c))=some (tput tm d (.pan x),σ,some x):=rfl
theorem ZzE (d:Option Nat) (os:List AOp) (s:Nat) (tm:Tms):kN O byref d os s tm none=none:=rfl
structure GOp where
 guard:Option (Nat×Bool)
 ops:List AOp
def Zau:List AOp→Tms→Tms
 | [],tm=>tm
 | o::os,tm=>Zau os (tput tm o.dst (.tup []))
def unG (o:AOp):AOp:={ o with guard:=none }
variable (O byref) in
def Zer (j:Nat) (w:Bool) (g:List AOp) (s:Nat) (tm:Tms) (σ:Za):Option (Tms×Za×Option AVal):=match Zbw (some (j,w)) tm with
 | none=>none
 | some false=>some (Zau g tm,σ,none)
 | some true=>Zbg O byref (g.map unG) s tm σ
variable (O byref) in
def gK (os:List AOp) (s:Nat):Option (Tms×Za×Option AVal)→Option (Tms×Za×Option AVal)
 | none=>none
 | some (tm,σ,some x)=>some (tm,σ,some x)
 | some (tm,σ,none)=>Zbg O byref os s tm σ
def Zz (j:Nat) (w:Bool):List AOp→List AOp×List AOp
 | []=>([],[])
 | o::os=>match o.guard with
  | some (j',w')=>if j'=j∧w'=w∧o.dst≠some j then ((o::(Zz j w os).1),(Zz j w os).2) else ([],o::os)
  | none=>([],o::os)
theorem ZnQ (j:Nat) (w:Bool):∀ os,(Zz j w os).1++(Zz j w os).2=os
 | []=>rfl
 | o::os=>by
  simp only [Zz]
  split
  ·split
   ·simp [ZnQ j w os]
   ·rfl
  ·rfl
theorem ZpX (j:Nat) (w:Bool):∀ os,∀ o ∈ (Zz j w os).1,o.guard=some (j,w)∧o.dst≠some j
 | []=>by simp [Zz]
 | o::os=>by
  intro o' ho
  simp only [Zz] at ho
  split at ho
  ·rename_i j' w' hg
   split at ho
   ·rename_i hc
    rcases List.mem_cons.1 ho with rfl | ho
    ·exact ⟨by rw [hg,hc.1,hc.2.1],hc.2.2⟩
    ·exact ZpX j w os o' ho
   ·simp at ho
  ·simp at ho
theorem ZK6 {d:Option Nat} {v:AVal} {n:Nat} {tm:Tms} (h:d≠some n):tget (tput tm d v) n=tget tm n:=by
 cases d with
 | none=>rfl
 | some d =>
  have : d≠n:=by rintro rfl;exact h rfl
  simp only [tput,Zll,this,if_false]
theorem ZfI {d:Option Nat} {v:AVal} {j:Nat} {w:Bool} {tm:Tms} (h:d≠some j):Zbw (some (j,w)) (tput tm d v)=Zbw (some (j,w)) tm:=by
 simp only [Zbw,ZK6 h]
theorem Zqe:∀ (a b:List AOp) (s:Nat) (tm:Tms) (σ:Za),Zbg O byref (a++b) s tm σ=gK O byref b (s+sitesOf a) (Zbg O byref a s tm σ)
 | [],b,s,tm,σ=>by simp [ZrF,gK,sitesOf]
 | o::a,b,s,tm,σ=>by
  have ih:=Zqe a b
  simp only [List.cons_append]
  have hs:s+nsite o.ins+sitesOf a=s+sitesOf (o::a):=by simp [sitesOf,Nat.add_assoc]
  cases hst:ZS O byref o s tm σ with
  | none=>rw [ZlA hst,ZlA hst];rfl
  | some q =>
   obtain ⟨v,tm1,σ1,c⟩:=q
   cases hp:ZaP v with
   | true =>
    obtain ⟨x,rfl⟩:=Zky hp
    rw [Zme hst,Zme hst];rfl
   | false=>rw [Zj3 hst hp,Zj3 hst hp,ih,hs]
theorem Zrg (j:Nat) (w:Bool):∀ (g:List AOp),(∀ o ∈ g,o.guard=some (j,w)∧o.dst≠some j)→∀ (s:Nat) (tm:Tms) (σ:Za),g≠[]→Zbg O byref g s tm σ=Zer O byref j w g s tm σ
 | [],_,_,_,_,h=>absurd rfl h
 | o::g,hall,s,tm,σ,_=>by
  obtain ⟨hg,hd⟩:=hall o (by simp)
  have ih:∀ (tm:Tms) (σ:Za) (s:Nat),Zbw (some (j,w)) tm≠none→Zbg O byref g s tm σ=Zer O byref j w g s tm σ:=by
   intro tm σ s hw
   by_cases he:g=[]
   ·subst he
    unfold Zer
    cases hx:Zbw (some (j,w)) tm with
    | none=>exact absurd hx hw
    | some b=>cases b <;> rfl
   ·exact Zrg j w g (fun o ho=>hall o (by simp [ho])) s tm σ he
  cases hx:Zbw (some (j,w)) tm with
  | none =>
   rw [ZlA (by simp only [ZS,hg,hx])]
   simp only [Zer,hx]
  | some b =>
   cases b with
   | false =>
    have h1:Zbg O byref (o::g) s tm σ=Zbg O byref g (s+nsite o.ins) (tput tm o.dst (.tup [])) σ :=
     Zj3 (v:=.tup []) (c:={}) (by simp only [ZS,hg,hx]) rfl
    rw [h1,ih _ _ _ (by rw [ZfI hd,hx];simp)]
    unfold Zer
    rw [ZfI hd,hx]
    rfl
   | true =>
    have key:∀ r:Option (AVal×Za×Cls),(∀ v σ' c,r=some (v,σ',c)→ZaP v=false→Zbg O byref g (s+nsite o.ins) (tput tm o.dst v) σ'=Zbg O byref (g.map unG) (s+nsite o.ins) (tput tm o.dst v) σ')→kN O byref o.dst g (s+nsite o.ins) tm r=kN O byref o.dst (g.map unG) (s+nsite o.ins) tm r:=by
     intro r hr
     cases r with
     | none=>rfl
     | some q =>
      obtain ⟨v,σ',c⟩:=q
      cases hp:ZaP v with
      | true=>simp only [kN,hp,if_true]
      | false=>rw [Zpi _ _ _ _ _ _ _ hp,Zpi _ _ _ _ _ _ _ hp];exact hr v σ' c rfl hp
    have h1:Zbg O byref (o::g) s tm σ=kN O byref o.dst g (s+nsite o.ins) tm (exI O byref o.ins s tm σ):=by
     have h0:Zbg O byref (o::g) s tm σ=Zbg O byref (⟨o.dst,o.ins,none,o.after⟩::g) s tm σ:=by
      have hst:ZS O byref o s tm σ=ZS O byref ⟨o.dst,o.ins,none,o.after⟩ s tm σ:=by
       unfold ZS
       simp only [hg,hx]
       rfl
      unfold Zbg
      simp only [ZW,hst]
     rw [h0,ZpB]
    rw [h1]
    unfold Zer
    rw [hx]
    simp only [List.map_cons]
    rw [show unG o=⟨o.dst,o.ins,none,o.after⟩ from rfl,ZpB]
    refine key _ fun v σ' c _ _=>?_
    rw [ih _ _ _ (by rw [ZfI hd,hx];simp)]
    unfold Zer
    rw [ZfI hd,hx]
theorem Zv3 (d:Option Nat) (i:Ins) (j:Nat) (w:Bool) (af:List Nat) (os:List AOp) (s:Nat) (tm:Tms) (σ:Za) (hd:decide (d=some j)=false) :
  Zbg O byref (⟨d,i,some (j,w),af⟩::os) s tm σ=gK O byref (Zz j w os).2 (s+sitesOf (⟨d,i,some (j,w),af⟩::(Zz j w os).1)) (Zer O byref j w (⟨d,i,some (j,w),af⟩::(Zz j w os).1) s tm σ):=by
 have h:=ZnQ j w os
 have hall:∀ o ∈ (⟨d,i,some (j,w),af⟩::(Zz j w os).1:List AOp),o.guard=some (j,w)∧o.dst≠some j:=by
  intro o ho
  rcases List.mem_cons.1 ho with rfl | ho
  ·exact ⟨rfl,by simpa using hd⟩
  ·exact ZpX j w os o ho
 rw [←Zrg j w _ hall s tm σ (by simp),←Zqe,List.cons_append,h]
variable (O byref) in
def gW (w:Bool) (g:List AOp) (s:Nat) (tm:Tms) (σ:Za):AVal→Option (Tms×Za×Option AVal)
 | .bool b=>if b=w then Zbg O byref (g.map unG) s tm σ else some (Zau g tm,σ,none)
 | .tup []=>some (Zau g tm,σ,none)
 | _=>none
theorem ZMJ (j:Nat) (w:Bool) (g:List AOp) (s:Nat) (tm:Tms) (σ:Za):Zer O byref j w g s tm σ=gW O byref w g s tm σ (tget tm j):=by
 unfold Zer Zbw
 simp only
 generalize tget tm j=v
 cases v
 case bool b=>cases b <;> cases w <;> rfl
 case tup vs=>cases vs <;> rfl
 all_goals rfl
theorem ZNh (w:Bool) (g:List AOp) (s:Nat) (tm:Tms) (σ:Za) (b:Bool):gW O byref w g s tm σ (.bool b)=if b=w then Zbg O byref (g.map unG) s tm σ else some (Zau g tm,σ,none):=rfl
theorem ZAF (w:Bool) (g:List AOp) (s:Nat) (tm:Tms) (σ:Za):gW O byref w g s tm σ (.tup [])=some (Zau g tm,σ,none):=rfl
theorem ZHf (os:List AOp) (s:Nat) (tm:Tms) (σ:Za):gK O byref os s (some (tm,σ,none))=Zbg O byref os s tm σ:=rfl
end
section
variable (c:Prop) [Decidable c]
theorem Zds {α:Type} (a b:α) (x y:List α):(if c then a::x else b::y)=(if c then a else b)::(if c then x else y):=by split <;> rfl
theorem Zym (k:IntKind) (a b:Int):(if c then AVal.int k a else AVal.int k b)=AVal.int k (if c then a else b):=by split <;> rfl
theorem Zze (a b:Bool):(if c then AVal.bool a else AVal.bool b)=AVal.bool (if c then a else b):=by split <;> rfl
theorem ZI0 (a b:List UInt8):(if c then AVal.str a else AVal.str b)=AVal.str (if c then a else b):=by split <;> rfl
theorem Zy5 (p q:Bool) (a b:List AVal):(if c then AVal.lst p a else AVal.lst q b)=AVal.lst (if c then p else q) (if c then a else b):=by split <;> rfl
theorem ZFy (a b:List AVal):(if c then AVal.agg a else AVal.agg b)=AVal.agg (if c then a else b):=by split <;> rfl
theorem Zxc (a b:List AVal):(if c then ZM.var a else ZM.var b)=ZM.var (if c then a else b):=by split <;> rfl
theorem ZA1 (g k:Nat) (a b:List AVal):(if c then ZM.row g k a else ZM.row g k b)=ZM.row g k (if c then a else b):=by split <;> rfl
theorem ZB0 (t:Nat) (a b:Nat):(if c then AVal.ref t a else AVal.ref t b)=AVal.ref t (if c then a else b):=by split <;> rfl
theorem Zma {α:Type} (x y z:α):(if c then (if c then x else y) else z)=if c then x else z:=by split <;> rfl
theorem ZqE {α:Type} (x y z:α):(if c then x else (if c then y else z))=if c then x else z:=by split <;> rfl
theorem ZBE (σ:Za) (a b:AVal) (p:Bool):ZfF σ a b (.bool p)=some (if p=true then a else b,σ,{}):=by cases p <;> rfl
theorem Zw3 (a b:AVal):ZaP (if c then a else b)=if c then ZaP a else ZaP b:=by split <;> rfl
end
section
variable {fs:Nat→Option ZI} {prim:Zco} {byref:Nat→Bool} {m0:Nat}
theorem ZBo (p:Bool) (a b:Zf) (tm:Tms) (σ:Za):Zh7 fs prim byref m0 a b tm σ (.bool p)=if p=true then evC fs prim byref m0 a tm σ else evC fs prim byref m0 b tm σ:=by
 cases p <;> rfl
theorem ZJ5 (b:Zf) (tm:Tms) (σ:Za):ZbQ fs prim byref m0 b (some (.normal,tm,σ))=evC fs prim byref m0 b tm σ:=rfl
theorem ZAr (b:Zf) (i:Nat) (tm:Tms) (σ:Za):ZbQ fs prim byref m0 b (some (.exit i,tm,σ))=some (.exit i,tm,σ):=rfl
theorem ZCu (b:Zf) (tm:Tms) (σ:Za):ZbQ fs prim byref m0 b (some (.ret,tm,σ))=some (.ret,tm,σ):=rfl
theorem ZMv (b:Zf) (x:AVal) (tm:Tms) (σ:Za):ZbQ fs prim byref m0 b (some (.panic x,tm,σ))=some (.panic x,tm,σ):=rfl
theorem ZHZ (c:Prop) [Decidable c] (b:Zf) (x y:Option (ZaR×Tms×Za)):ZbQ fs prim byref m0 b (if c then x else y)=if c then ZbQ fs prim byref m0 b x else ZbQ fs prim byref m0 b y:=by split <;> rfl
theorem ZBv (id:Nat) (tm:Tms) (σ:Za):Option.map (ZaX id) (some (.normal,tm,σ))=some (.normal,tm,σ):=rfl
theorem ZIw (id i:Nat) (tm:Tms) (σ:Za):Option.map (ZaX id) (some (.exit i,tm,σ))=if i=id then some (.normal,tm,σ) else some (.exit i,tm,σ):=by
 simp only [Option.map_some,ZaX];split <;> rfl
theorem Zws (id:Nat) (tm:Tms) (σ:Za):Option.map (ZaX id) (some (.ret,tm,σ))=some (.ret,tm,σ):=rfl
theorem ZEt (id:Nat) (x:AVal) (tm:Tms) (σ:Za):Option.map (ZaX id) (some (.panic x,tm,σ))=some (.panic x,tm,σ):=rfl
theorem ZDJ (id:Nat) (c:Prop) [Decidable c] (x y:Option (ZaR×Tms×Za)):Option.map (ZaX id) (if c then x else y)=if c then Option.map (ZaX id) x else Option.map (ZaX id) y:=by split <;> rfl
theorem ZCR (m:Nat) (fn:ZI) (c:Prop) [Decidable c] (x y:Option (ZaR×Tms×Za)):Zap m fn (if c then x else y)=if c then Zap m fn x else Zap m fn y:=by split <;> rfl
end
section
variable {fs:Nat→Option ZI} {prim:Zco} {byref:Nat→Bool} {m0:Nat}
theorem ZII {live:List Nat} {c:Zf} {tm tm':Tms} {σ σ':Za} (h:evC fs prim byref m0 c tm σ=some (.normal,tm',σ')):evL fs prim byref m0 live c tm σ=evL fs prim byref m0 live c (gcT m0 (keepL live tm') σ').1 (gcT m0 (keepL live tm') σ').2:=by
 unfold evL
 rw [h]
 simp only
 rw [Zsq]
 rfl
theorem ZGq {live:List Nat} {c:Zf} {tm tm':Tms} {σ σ':Za} {i:Nat} (h:evC fs prim byref m0 c tm σ=some (.exit i,tm',σ')):evL fs prim byref m0 live c tm σ=some (.exit i,tm',σ'):=by
 unfold evL;rw [h]
theorem ZAC {live:List Nat} {c:Zf} {tm tm':Tms} {σ σ':Za} (h:evC fs prim byref m0 c tm σ=some (.ret,tm',σ')):evL fs prim byref m0 live c tm σ=some (.ret,tm',σ'):=by
 unfold evL;rw [h]
variable (fs prim byref m0) in
noncomputable def evM (live:List Nat) (c:Zf):Option (ZaR×Tms×Za)→Option (ZaR×Tms×Za)
 | some (.normal,tm,σ)=>evL fs prim byref m0 live c (gcT m0 (keepL live tm) σ).1 (gcT m0 (keepL live tm) σ).2
 | r=>r
theorem Zad (live:List Nat) (c:Zf) (tm:Tms) (σ:Za):evL fs prim byref m0 live c tm σ=evM fs prim byref m0 live c (evC fs prim byref m0 c tm σ):=by
 cases h:evC fs prim byref m0 c tm σ with
 | none=>unfold evL;rw [h];rfl
 | some q =>
  obtain ⟨e,tm',σ'⟩:=q
  cases e with
  | normal=>exact ZII h
  | exit i=>exact ZGq h
  | ret=>exact ZAC h
  | panic x=>unfold evL;rw [h];rfl
theorem ZMk (live:List Nat) (c:Zf) (tm:Tms) (σ:Za):evM fs prim byref m0 live c (some (.normal,tm,σ))=evL fs prim byref m0 live c (gcT m0 (keepL live tm) σ).1 (gcT m0 (keepL live tm) σ).2:=rfl
theorem ZxS (live:List Nat) (c:Zf) (i:Nat) (tm:Tms) (σ:Za):evM fs prim byref m0 live c (some (.exit i,tm,σ))=some (.exit i,tm,σ):=rfl
theorem ZwM (live:List Nat) (c:Zf) (tm:Tms) (σ:Za):evM fs prim byref m0 live c (some (.ret,tm,σ))=some (.ret,tm,σ):=rfl
theorem Zyg (live:List Nat) (c:Zf) (x:AVal) (tm:Tms) (σ:Za):evM fs prim byref m0 live c (some (.panic x,tm,σ))=some (.panic x,tm,σ):=rfl
theorem Zxe (live:List Nat) (b:Zf) (c:Prop) [Decidable c] (x y:Option (ZaR×Tms×Za)):evM fs prim byref m0 live b (if c then x else y)=if c then evM fs prim byref m0 live b x else evM fs prim byref m0 live b y:=by split <;> rfl
end
def Za6:AVal→Bool
 | .int _ _=>true
 | .bool _=>true
 | .str _=>true
 | .nilp=>true
 | .nilm=>true
 | .nili=>true
 | .lst _ _=>true
 | .fn _ []=>true
 | _=>false
def Z4:AVal→Bool
 | .agg cs=>cs.all Za6
 | x=>Za6 x
def Zbd:AVal→AVal
 | .lst _ xs=>.lst false xs
 | x=>x
def ZH:AVal→AVal
 | .agg cs=>.agg (cs.map Zbd)
 | x=>Zbd x
theorem ZrH {σ:Za} {x:AVal} (h:Za6 x=true):ZcL σ x=some (Zbd x,[]):=by
 cases x <;> first | (simp [Za6] at h;done) | rfl
theorem Zq2 {σ:Za}:∀ {xs:List AVal},xs.all Za6=true→Zcy σ xs=some (xs.map Zbd,[])
 | [],_=>rfl
 | x::xs,h=>by
  simp only [List.all_cons,Bool.and_eq_true] at h
  simp only [Zcy,ZrH h.1,Zq2 h.2,List.map_cons,List.append_nil]
theorem Zhu {x:AVal} (h:∀ cs,x≠.agg cs):Z4 x=Za6 x∧ZH x=Zbd x:=by
 cases x <;> first | exact ⟨rfl,rfl⟩ | exact absurd rfl (h _)
theorem ZBL {σ:Za} {x:AVal} (h:∀ cs,x≠.agg cs):showA σ x=ZcL σ x:=by
 cases x <;> first | rfl | exact absurd rfl (h _)
theorem ZoW (x:AVal):(∃ cs,x=.agg cs)∨∀ cs,x≠.agg cs:=by
 cases x <;> first | exact Or.inl ⟨_,rfl⟩ | (right;intro cs;simp)
theorem ZA0 {σ:Za} {x:AVal} (h:Z4 x=true):showA σ x=some (ZH x,[]):=by
 rcases ZoW x with ⟨cs,rfl⟩ | hn
 ·simp only [Z4] at h
  simp only [showA,Zq2 h,ZH]
 ·rw [(Zhu hn).1] at h
  rw [ZBL hn,(Zhu hn).2]
  exact ZrH h
theorem Zd8 {σ:Za}:∀ {xs:List AVal},xs.all Z4=true→showAs σ xs=some (xs.map ZH,[])
 | [],_=>rfl
 | x::xs,h=>by
  simp only [List.all_cons,Bool.and_eq_true] at h
  simp only [showAs,ZA0 h.1,Zd8 h.2,List.map_cons,List.append_nil]
theorem ZrI {x:AVal} (h:Za6 x=true):ZZ (Zbd x)=[]:=by
 cases x
 case fn f cs=>cases cs <;> simp [Za6] at h;rfl
 all_goals first | (simp [Za6] at h;done) | rfl
theorem Ztu:∀ {xs:List AVal},xs.all Za6=true→Zr (xs.map Zbd)=[]
 | [],_=>rfl
 | x::xs,h=>by
  simp only [List.all_cons,Bool.and_eq_true] at h
  simp only [List.map_cons,Zr,ZrI h.1,Ztu h.2,List.append_nil]
theorem Zp7 {x:AVal} (h:Z4 x=true):ZZ (ZH x)=[]:=by
 rcases ZoW x with ⟨cs,rfl⟩ | hn
 ·simp only [Z4] at h
  simp only [ZH,ZZ];exact Ztu h
 ·rw [(Zhu hn).1] at h
  rw [(Zhu hn).2];exact ZrI h
theorem Zdn:∀ {xs:List AVal},xs.all Z4=true→Zr (xs.map ZH)=[]
 | [],_=>rfl
 | x::xs,h=>by
  simp only [List.all_cons,Bool.and_eq_true] at h
  simp only [List.map_cons,Zr,Zp7 h.1,Zdn h.2,List.append_nil]
theorem ZrE {ρ:Rho} {x:AVal} (h:Za6 x=true):Zk ρ (Zbd x)=Zbd x:=by
 cases x
 case fn f cs=>cases cs <;> simp [Za6] at h;rfl
 all_goals first | (simp [Za6] at h;done) | rfl
theorem Zrn {ρ:Rho}:∀ {xs:List AVal},xs.all Za6=true→Ze ρ (xs.map Zbd)=xs.map Zbd
 | [],_=>rfl
 | x::xs,h=>by
  simp only [List.all_cons,Bool.and_eq_true] at h
  simp only [List.map_cons,Ze,ZrE h.1,Zrn h.2]
theorem ZtT {ρ:Rho} {x:AVal} (h:Z4 x=true):Zk ρ (ZH x)=ZH x:=by
 rcases ZoW x with ⟨cs,rfl⟩ | hn
 ·simp only [Z4] at h
  simp only [ZH,Zk];rw [Zrn h]
 ·rw [(Zhu hn).1] at h
  rw [(Zhu hn).2];exact ZrE h
theorem Zde {ρ:Rho}:∀ {xs:List AVal},xs.all Z4=true→Ze ρ (xs.map ZH)=xs.map ZH
 | [],_=>rfl
 | x::xs,h=>by
  simp only [List.all_cons,Bool.and_eq_true] at h
  simp only [List.map_cons,Ze,ZtT h.1,Zde h.2]
theorem ZgL {O:ZR} {byref:Nat→Bool} {σ:Za} {site f own:Nat} {view:Bool} {args:List AVal} (hb:byref f=false) (h:args.all Z4=true) :
  Zj O byref σ site f own view args=ZaG σ σ [] [] site own (Zae view 0 (O f (args.map ZH) [])):=by
 unfold Zj ZbU
 rw [hb]
 simp only [Bool.false_eq_true,if_false,Zd8 h]
 have h1:Zn σ []=σ:=rfl
 rw [h1,Zdn h]
 have h2:ZA σ 1000 [] []=[]:=rfl
 rw [h2]
 unfold ZbC
 simp only [List.all_nil,if_true,Zde h,Zx,List.length_nil]
theorem ZiM (σ:Za) (site own:Nat) (r:AVal) (h:Zk (ZaB [] [] site) r=r):ZaG σ σ [] [] site own (some (r,[]))=some (r,σ,{}):=by
 simp only [ZaG,List.isEmpty_nil,Bool.and_self,if_true,Zdf,Bool.not_true,Bool.false_and,Bool.false_eq_true,if_false]
 split
 ·rfl
 ·rw [h]
end Go.Proofs.YtmlkhhidifjjfaaDoor
namespace Go.Proofs.YtmlkhhidifjjfaaDoor
section
variable (ρ:Rho) (σ:Za)
theorem ZwE  : ZaP (.top)=false:=rfl
theorem ZBx  : ZaP (.any)=false:=rfl
theorem ZIs (k:IntKind) (n:Int):ZaP (.int k n)=false:=rfl
theorem Zzm (b:Bool):ZaP (.bool b)=false:=rfl
theorem ZGL (l:List UInt8):ZaP (.str l)=false:=rfl
theorem ZHQ  : ZaP (.nilp)=false:=rfl
theorem Zx8 (t:Nat) (o:Nat):ZaP (.ref t o)=false:=rfl
theorem Zvd (t:Nat) (g:Nat) (i:Nat) (o:Nat):ZaP (.eref t g i o)=false:=rfl
theorem ZHB (cs:List AVal) (o:Nat):ZaP (.iptr cs o)=false:=rfl
theorem ZB4 (x:Bool) (xs:List AVal):ZaP (.lst x xs)=false:=rfl
theorem Zzx (t:Nat) (g:Nat) (lo:Nat) (n:Nat):ZaP (.sl t g lo n)=false:=rfl
theorem ZLn (cs:List AVal):ZaP (.agg cs)=false:=rfl
theorem ZMc (vs:List AVal):ZaP (.tup vs)=false:=rfl
theorem ZCq (f:Nat) (caps:List AVal):ZaP (.fn f caps)=false:=rfl
theorem ZwX  : ZaP (.nilm)=false:=rfl
theorem ZEL (t:Nat):ZaP (.map t)=false:=rfl
theorem ZCa  : ZaP (.nili)=false:=rfl
theorem ZEJ (t:Nat) (x:AVal):ZaP (.iface t x)=false:=rfl
theorem ZG4 (x:AVal):ZaP (.pan x)=true:=rfl
theorem ZzR  : ZD (.top)=false:=rfl
theorem ZFx  : ZD (.any)=true:=rfl
theorem Zwj (k:IntKind) (n:Int):ZD (.int k n)=true:=rfl
theorem ZC6 (b:Bool):ZD (.bool b)=true:=rfl
theorem ZEM (l:List UInt8):ZD (.str l)=true:=rfl
theorem Zxk  : ZD (.nilp)=true:=rfl
theorem ZDk (t:Nat) (o:Nat):ZD (.ref t o)=true:=rfl
theorem ZIF (t:Nat) (g:Nat) (i:Nat) (o:Nat):ZD (.eref t g i o)=true:=rfl
theorem ZDQ (cs:List AVal) (o:Nat):ZD (.iptr cs o)=true:=rfl
theorem ZHO (x:Bool) (xs:List AVal):ZD (.lst x xs)=true:=rfl
theorem Zzh (t:Nat) (g:Nat) (lo:Nat) (n:Nat):ZD (.sl t g lo n)=true:=rfl
theorem ZEU (cs:List AVal):ZD (.agg cs)=false:=rfl
theorem ZvU (vs:List AVal):ZD (.tup vs)=false:=rfl
theorem Zzk (f:Nat) (caps:List AVal):ZD (.fn f caps)=true:=rfl
theorem ZyI  : ZD (.nilm)=true:=rfl
theorem Zy0 (t:Nat):ZD (.map t)=true:=rfl
theorem ZFB  : ZD (.nili)=true:=rfl
theorem ZIP (t:Nat) (x:AVal):ZD (.iface t x)=true:=rfl
theorem ZDT (x:AVal):ZD (.pan x)=false:=rfl
theorem ZMY  : Zbi (.top)=false:=rfl
theorem ZBR  : Zbi (.any)=true:=rfl
theorem Zxz (k:IntKind) (n:Int):Zbi (.int k n)=true:=rfl
theorem ZvI (b:Bool):Zbi (.bool b)=true:=rfl
theorem ZyB (l:List UInt8):Zbi (.str l)=true:=rfl
theorem Zw7  : Zbi (.nilp)=true:=rfl
theorem ZMf (t:Nat) (o:Nat):Zbi (.ref t o)=true:=rfl
theorem ZAl (t:Nat) (g:Nat) (i:Nat) (o:Nat):Zbi (.eref t g i o)=true:=rfl
theorem ZFP (cs:List AVal) (o:Nat):Zbi (.iptr cs o)=true:=rfl
theorem ZHL (x:Bool) (xs:List AVal):Zbi (.lst x xs)=true:=rfl
theorem ZDe (t:Nat) (g:Nat) (lo:Nat) (n:Nat):Zbi (.sl t g lo n)=true:=rfl
theorem ZJb (cs:List AVal):Zbi (.agg cs)=true:=rfl
theorem ZJp (vs:List AVal):Zbi (.tup vs)=true:=rfl
theorem ZFQ (f:Nat) (caps:List AVal):Zbi (.fn f caps)=true:=rfl
theorem Zww  : Zbi (.nilm)=true:=rfl
theorem Zxv (t:Nat):Zbi (.map t)=true:=rfl
theorem ZNm  : Zbi (.nili)=true:=rfl
theorem Zzg (t:Nat) (x:AVal):Zbi (.iface t x)=true:=rfl
theorem Zwv (x:AVal):Zbi (.pan x)=true:=rfl
theorem Zzw  : ZaV (.top)=false:=rfl
theorem ZFg  : ZaV (.any)=false:=rfl
theorem ZBO (k:IntKind) (n:Int):ZaV (.int k n)=true:=rfl
theorem Zvx (b:Bool):ZaV (.bool b)=true:=rfl
theorem ZAf (l:List UInt8):ZaV (.str l)=true:=rfl
theorem ZMA  : ZaV (.nilp)=true:=rfl
theorem ZK3 (t:Nat) (o:Nat):ZaV (.ref t o)=false:=rfl
theorem ZAg (t:Nat) (g:Nat) (i:Nat) (o:Nat):ZaV (.eref t g i o)=false:=rfl
theorem ZH9 (cs:List AVal) (o:Nat):ZaV (.iptr cs o)=false:=rfl
theorem ZNi (x:Bool) (xs:List AVal):ZaV (.lst x xs)=false:=rfl
theorem ZDo (t:Nat) (g:Nat) (lo:Nat) (n:Nat):ZaV (.sl t g lo n)=false:=rfl
theorem ZAn (cs:List AVal):ZaV (.agg cs)=false:=rfl
theorem Zwf (vs:List AVal):ZaV (.tup vs)=false:=rfl
theorem ZCY (f:Nat) (caps:List AVal):ZaV (.fn f caps)=false:=rfl
theorem ZLU  : ZaV (.nilm)=true:=rfl
theorem ZL8 (t:Nat):ZaV (.map t)=false:=rfl
theorem Zvq  : ZaV (.nili)=true:=rfl
theorem ZHh (t:Nat) (x:AVal):ZaV (.iface t x)=false:=rfl
theorem ZH4 (x:AVal):ZaV (.pan x)=false:=rfl
theorem ZFn  : Zbu (.top)=false:=rfl
theorem ZDI  : Zbu (.any)=false:=rfl
theorem ZKU (k:IntKind) (n:Int):Zbu (.int k n)=true:=rfl
theorem ZKN (b:Bool):Zbu (.bool b)=true:=rfl
theorem ZK9 (l:List UInt8):Zbu (.str l)=true:=rfl
theorem ZvZ  : Zbu (.nilp)=true:=rfl
theorem ZBk (t:Nat) (o:Nat):Zbu (.ref t o)=false:=rfl
theorem ZC7 (t:Nat) (g:Nat) (i:Nat) (o:Nat):Zbu (.eref t g i o)=false:=rfl
theorem ZxO (cs:List AVal) (o:Nat):Zbu (.iptr cs o)=false:=rfl
theorem ZEX (x:Bool) (xs:List AVal):Zbu (.lst x xs)=false:=rfl
theorem ZyL (t:Nat) (g:Nat) (lo:Nat) (n:Nat):Zbu (.sl t g lo n)=false:=rfl
theorem ZI9 (cs:List AVal):Zbu (.agg cs)=cs.all ZaV:=rfl
theorem ZEO (vs:List AVal):Zbu (.tup vs)=false:=rfl
theorem Zz6 (f:Nat) (caps:List AVal):Zbu (.fn f caps)=false:=rfl
theorem ZIc  : Zbu (.nilm)=true:=rfl
theorem ZHR (t:Nat):Zbu (.map t)=false:=rfl
theorem ZMy  : Zbu (.nili)=true:=rfl
theorem ZBy (t:Nat) (x:AVal):Zbu (.iface t x)=false:=rfl
theorem ZBS (x:AVal):Zbu (.pan x)=false:=rfl
theorem ZAu  : ZbE (.top)=false:=rfl
theorem ZLa  : ZbE (.any)=false:=rfl
theorem Zvr (k:IntKind) (n:Int):ZbE (.int k n)=true:=rfl
theorem ZE9 (b:Bool):ZbE (.bool b)=true:=rfl
theorem ZvF (l:List UInt8):ZbE (.str l)=true:=rfl
theorem ZFT  : ZbE (.nilp)=true:=rfl
theorem Zy2 (t:Nat) (o:Nat):ZbE (.ref t o)=false:=rfl
theorem ZHa (t:Nat) (g:Nat) (i:Nat) (o:Nat):ZbE (.eref t g i o)=false:=rfl
theorem ZCU (cs:List AVal) (o:Nat):ZbE (.iptr cs o)=false:=rfl
theorem ZB1 (x:Bool) (xs:List AVal):ZbE (.lst x xs)=false:=rfl
theorem Zy3 (t:Nat) (g:Nat) (lo:Nat) (n:Nat):ZbE (.sl t g lo n)=false:=rfl
theorem ZLc (cs:List AVal):ZbE (.agg cs)=cs.all ZaV:=rfl
theorem Zxu (vs:List AVal):ZbE (.tup vs)=vs.all Zbu:=rfl
theorem ZCb (f:Nat) (caps:List AVal):ZbE (.fn f caps)=false:=rfl
theorem Zz2  : ZbE (.nilm)=true:=rfl
theorem ZvG (t:Nat):ZbE (.map t)=false:=rfl
theorem Zys  : ZbE (.nili)=true:=rfl
theorem Zz0 (t:Nat) (x:AVal):ZbE (.iface t x)=false:=rfl
theorem ZHj  : Za6 (.top)=false:=rfl
theorem ZJy  : Za6 (.any)=false:=rfl
theorem ZrD (k:IntKind) (n:Int):Za6 (.int k n)=true:=rfl
theorem ZxB (b:Bool):Za6 (.bool b)=true:=rfl
theorem Zu6 (l:List UInt8):Za6 (.str l)=true:=rfl
theorem ZGs  : Za6 (.nilp)=true:=rfl
theorem ZEk (t:Nat) (o:Nat):Za6 (.ref t o)=false:=rfl
theorem ZKC (t:Nat) (g:Nat) (i:Nat) (o:Nat):Za6 (.eref t g i o)=false:=rfl
theorem Zxx (cs:List AVal) (o:Nat):Za6 (.iptr cs o)=false:=rfl
theorem Zp8 (x:Bool) (xs:List AVal):Za6 (.lst x xs)=true:=rfl
theorem ZIJ (t:Nat) (g:Nat) (lo:Nat) (n:Nat):Za6 (.sl t g lo n)=false:=rfl
theorem ZIG (cs:List AVal):Za6 (.agg cs)=false:=rfl
theorem ZLS (vs:List AVal):Za6 (.tup vs)=false:=rfl
theorem ZF0  : Za6 (.nilm)=true:=rfl
theorem ZLz (t:Nat):Za6 (.map t)=false:=rfl
theorem ZJt  : Za6 (.nili)=true:=rfl
theorem ZKM (t:Nat) (x:AVal):Za6 (.iface t x)=false:=rfl
theorem ZLv (x:AVal):Za6 (.pan x)=false:=rfl
theorem ZKR  : Z4 (.top)=false:=rfl
theorem ZDN  : Z4 (.any)=false:=rfl
theorem ZHu (k:IntKind) (n:Int):Z4 (.int k n)=true:=rfl
theorem ZER (b:Bool):Z4 (.bool b)=true:=rfl
theorem Zz1 (l:List UInt8):Z4 (.str l)=true:=rfl
theorem ZAj  : Z4 (.nilp)=true:=rfl
theorem Zy9 (t:Nat) (o:Nat):Z4 (.ref t o)=false:=rfl
theorem ZAs (t:Nat) (g:Nat) (i:Nat) (o:Nat):Z4 (.eref t g i o)=false:=rfl
theorem ZKg (cs:List AVal) (o:Nat):Z4 (.iptr cs o)=false:=rfl
theorem ZBr (x:Bool) (xs:List AVal):Z4 (.lst x xs)=true:=rfl
theorem ZLG (t:Nat) (g:Nat) (lo:Nat) (n:Nat):Z4 (.sl t g lo n)=false:=rfl
theorem ZsQ (cs:List AVal):Z4 (.agg cs)=cs.all Za6:=rfl
theorem Zyq (vs:List AVal):Z4 (.tup vs)=false:=rfl
theorem ZD4  : Z4 (.nilm)=true:=rfl
theorem ZMR (t:Nat):Z4 (.map t)=false:=rfl
theorem ZMl  : Z4 (.nili)=true:=rfl
theorem Zy7 (t:Nat) (x:AVal):Z4 (.iface t x)=false:=rfl
theorem ZAT (x:AVal):Z4 (.pan x)=false:=rfl
theorem ZLX  : Zbd (.top)=(.top):=rfl
theorem ZKx  : Zbd (.any)=(.any):=rfl
theorem Zt0 (k:IntKind) (n:Int):Zbd (.int k n)=(.int k n):=rfl
theorem ZFU (b:Bool):Zbd (.bool b)=(.bool b):=rfl
theorem Ztp (l:List UInt8):Zbd (.str l)=(.str l):=rfl
theorem ZCy  : Zbd (.nilp)=(.nilp):=rfl
theorem ZKb (t:Nat) (o:Nat):Zbd (.ref t o)=(.ref t o):=rfl
theorem ZIp (t:Nat) (g:Nat) (i:Nat) (o:Nat):Zbd (.eref t g i o)=(.eref t g i o):=rfl
theorem ZIM (cs:List AVal) (o:Nat):Zbd (.iptr cs o)=(.iptr cs o):=rfl
theorem ZrV (x:Bool) (xs:List AVal):Zbd (.lst x xs)=.lst false xs:=rfl
theorem ZxU (t:Nat) (g:Nat) (lo:Nat) (n:Nat):Zbd (.sl t g lo n)=(.sl t g lo n):=rfl
theorem ZzX (cs:List AVal):Zbd (.agg cs)=(.agg cs):=rfl
theorem ZyP (vs:List AVal):Zbd (.tup vs)=(.tup vs):=rfl
theorem ZAV (f:Nat) (caps:List AVal):Zbd (.fn f caps)=(.fn f caps):=rfl
theorem ZAk  : Zbd (.nilm)=(.nilm):=rfl
theorem ZIr (t:Nat):Zbd (.map t)=(.map t):=rfl
theorem ZDG  : Zbd (.nili)=(.nili):=rfl
theorem ZHd (t:Nat) (x:AVal):Zbd (.iface t x)=(.iface t x):=rfl
theorem ZJv (x:AVal):Zbd (.pan x)=(.pan x):=rfl
theorem ZHJ  : ZH (.top)=(.top):=rfl
theorem ZHU  : ZH (.any)=(.any):=rfl
theorem ZNb (k:IntKind) (n:Int):ZH (.int k n)=(.int k n):=rfl
theorem ZJI (b:Bool):ZH (.bool b)=(.bool b):=rfl
theorem ZzY (l:List UInt8):ZH (.str l)=(.str l):=rfl
theorem ZGF  : ZH (.nilp)=(.nilp):=rfl
theorem ZzN (t:Nat) (o:Nat):ZH (.ref t o)=(.ref t o):=rfl
theorem ZzZ (t:Nat) (g:Nat) (i:Nat) (o:Nat):ZH (.eref t g i o)=(.eref t g i o):=rfl
theorem Zzz (cs:List AVal) (o:Nat):ZH (.iptr cs o)=(.iptr cs o):=rfl
theorem ZEK (x:Bool) (xs:List AVal):ZH (.lst x xs)=.lst false xs:=rfl
theorem ZBs (t:Nat) (g:Nat) (lo:Nat) (n:Nat):ZH (.sl t g lo n)=(.sl t g lo n):=rfl
theorem Zq0 (cs:List AVal):ZH (.agg cs)=.agg (cs.map Zbd):=rfl
theorem ZCg (vs:List AVal):ZH (.tup vs)=(.tup vs):=rfl
theorem Zx0 (f:Nat) (caps:List AVal):ZH (.fn f caps)=(.fn f caps):=rfl
theorem ZDE  : ZH (.nilm)=(.nilm):=rfl
theorem ZFF (t:Nat):ZH (.map t)=(.map t):=rfl
theorem ZEa  : ZH (.nili)=(.nili):=rfl
theorem ZAh (t:Nat) (x:AVal):ZH (.iface t x)=(.iface t x):=rfl
theorem ZIu (x:AVal):ZH (.pan x)=(.pan x):=rfl
theorem ZGd  : AVal.cells (.top)=[(.top)]:=rfl
theorem Zv2  : AVal.cells (.any)=[(.any)]:=rfl
theorem ZFs (k:IntKind) (n:Int):AVal.cells (.int k n)=[(.int k n)]:=rfl
theorem ZCx (b:Bool):AVal.cells (.bool b)=[(.bool b)]:=rfl
theorem ZKH (l:List UInt8):AVal.cells (.str l)=[(.str l)]:=rfl
theorem ZAI  : AVal.cells (.nilp)=[(.nilp)]:=rfl
theorem ZMn (t:Nat) (o:Nat):AVal.cells (.ref t o)=[(.ref t o)]:=rfl
theorem ZId (t:Nat) (g:Nat) (i:Nat) (o:Nat):AVal.cells (.eref t g i o)=[(.eref t g i o)]:=rfl
theorem ZCE (cs:List AVal) (o:Nat):AVal.cells (.iptr cs o)=[(.iptr cs o)]:=rfl
theorem ZLL (x:Bool) (xs:List AVal):AVal.cells (.lst x xs)=[(.lst x xs)]:=rfl
theorem ZvB (t:Nat) (g:Nat) (lo:Nat) (n:Nat):AVal.cells (.sl t g lo n)=[(.sl t g lo n)]:=rfl
theorem ZEx (cs:List AVal):AVal.cells (.agg cs)=cs:=rfl
theorem ZIO (vs:List AVal):AVal.cells (.tup vs)=[(.tup vs)]:=rfl
theorem ZxK (f:Nat) (caps:List AVal):AVal.cells (.fn f caps)=[(.fn f caps)]:=rfl
theorem ZKE  : AVal.cells (.nilm)=[(.nilm)]:=rfl
theorem ZwV (t:Nat):AVal.cells (.map t)=[(.map t)]:=rfl
theorem ZK7  : AVal.cells (.nili)=[(.nili)]:=rfl
theorem ZJ6 (t:Nat) (x:AVal):AVal.cells (.iface t x)=[(.iface t x)]:=rfl
theorem ZwN (x:AVal):AVal.cells (.pan x)=[(.pan x)]:=rfl
theorem ZKi  : ZaS (.top)=(.top):=rfl
theorem ZMt  : ZaS (.any)=(.any):=rfl
theorem ZBz (k:IntKind) (n:Int):ZaS (.int k n)=(.int k n):=rfl
theorem Zvp (b:Bool):ZaS (.bool b)=(.bool b):=rfl
theorem ZEr (l:List UInt8):ZaS (.str l)=(.str l):=rfl
theorem ZCz  : ZaS (.nilp)=(.nilp):=rfl
theorem ZAW (t:Nat) (o:Nat):ZaS (.ref t o)=(.ref t o):=rfl
theorem ZEj (t:Nat) (g:Nat) (i:Nat) (o:Nat):ZaS (.eref t g i o)=(.eref t g i o):=rfl
theorem ZKy (cs:List AVal) (o:Nat):ZaS (.iptr cs o)=(.iptr cs o):=rfl
theorem ZH0 (x:Bool) (xs:List AVal):ZaS (.lst x xs)=(.lst x xs):=rfl
theorem ZKo (t:Nat) (g:Nat) (lo:Nat) (n:Nat):ZaS (.sl t g lo n)=(.sl t g lo n):=rfl
theorem ZKh (cs:List AVal):ZaS (.agg cs)=(.agg cs):=rfl
theorem ZwR (vs:List AVal):ZaS (.tup vs)=(.tup vs):=rfl
theorem ZBF (f:Nat) (caps:List AVal):ZaS (.fn f caps)=(.fn f caps):=rfl
theorem Zvg  : ZaS (.nilm)=(.nilm):=rfl
theorem ZHA (t:Nat):ZaS (.map t)=(.map t):=rfl
theorem ZKK  : ZaS (.nili)=(.nili):=rfl
theorem ZES (t:Nat) (x:AVal):ZaS (.iface t x)=(.iface t x):=rfl
theorem ZFw (x:AVal):ZaS (.pan x)=x:=rfl
theorem ZwY  : ZbZ (.top)=4:=rfl
theorem ZG6  : ZbZ (.any)=4:=rfl
theorem ZK5 (k:IntKind) (n:Int):ZbZ (.int k n)=0:=rfl
theorem ZHx (b:Bool):ZbZ (.bool b)=1:=rfl
theorem ZzF (l:List UInt8):ZbZ (.str l)=2:=rfl
theorem ZBP  : ZbZ (.nilp)=4:=rfl
theorem ZE2 (t:Nat) (o:Nat):ZbZ (.ref t o)=4:=rfl
theorem Zyn (t:Nat) (g:Nat) (i:Nat) (o:Nat):ZbZ (.eref t g i o)=4:=rfl
theorem ZED (cs:List AVal) (o:Nat):ZbZ (.iptr cs o)=4:=rfl
theorem ZF7 (x:Bool) (xs:List AVal):ZbZ (.lst x xs)=4:=rfl
theorem Zzi (t:Nat) (g:Nat) (lo:Nat) (n:Nat):ZbZ (.sl t g lo n)=4:=rfl
theorem ZyO (cs:List AVal):ZbZ (.agg cs)=4:=rfl
theorem ZFI (vs:List AVal):ZbZ (.tup vs)=4:=rfl
theorem ZLN (f:Nat) (caps:List AVal):ZbZ (.fn f caps)=4:=rfl
theorem ZEz  : ZbZ (.nilm)=4:=rfl
theorem ZLV (t:Nat):ZbZ (.map t)=4:=rfl
theorem ZIS  : ZbZ (.nili)=4:=rfl
theorem ZEB (t:Nat) (x:AVal):ZbZ (.iface t x)=4:=rfl
theorem Zwc (x:AVal):ZbZ (.pan x)=4:=rfl
theorem ZyS  : ZZ (.top)=[]:=rfl
theorem ZMU  : ZZ (.any)=[]:=rfl
theorem ZwC (k:IntKind) (n:Int):ZZ (.int k n)=[]:=rfl
theorem ZIX (b:Bool):ZZ (.bool b)=[]:=rfl
theorem ZzV (l:List UInt8):ZZ (.str l)=[]:=rfl
theorem Zx6  : ZZ (.nilp)=[]:=rfl
theorem ZG9 (t:Nat) (o:Nat):ZZ (.ref t o)=[t]:=rfl
theorem ZDq (t:Nat) (g:Nat) (i:Nat) (o:Nat):ZZ (.eref t g i o)=[t]:=rfl
theorem ZLq (cs:List AVal) (o:Nat):ZZ (.iptr cs o)=[]:=rfl
theorem ZB6 (x:Bool) (xs:List AVal):ZZ (.lst x xs)=[]:=rfl
theorem ZKj (t:Nat) (g:Nat) (lo:Nat) (n:Nat):ZZ (.sl t g lo n)=[t]:=rfl
theorem ZMj (cs:List AVal):ZZ (.agg cs)=Zr cs:=rfl
theorem ZBC (vs:List AVal):ZZ (.tup vs)=Zr vs:=rfl
theorem ZBI (f:Nat) (caps:List AVal):ZZ (.fn f caps)=Zr caps:=rfl
theorem ZDv  : ZZ (.nilm)=[]:=rfl
theorem ZyW (t:Nat):ZZ (.map t)=[t]:=rfl
theorem ZxI  : ZZ (.nili)=[]:=rfl
theorem ZMF (t:Nat) (x:AVal):ZZ (.iface t x)=ZZ x:=rfl
theorem ZIe (x:AVal):ZZ (.pan x)=ZZ x:=rfl
theorem ZFM  : Zk ρ (.top)=(.top):=rfl
theorem ZKf  : Zk ρ (.any)=(.any):=rfl
theorem ZGS (k:IntKind) (n:Int):Zk ρ (.int k n)=(.int k n):=rfl
theorem ZKV (b:Bool):Zk ρ (.bool b)=(.bool b):=rfl
theorem ZBQ (l:List UInt8):Zk ρ (.str l)=(.str l):=rfl
theorem ZzM  : Zk ρ (.nilp)=(.nilp):=rfl
theorem ZHS (cs:List AVal) (o:Nat):Zk ρ (.iptr cs o)=(.iptr cs o):=rfl
theorem Zzc (x:Bool) (xs:List AVal):Zk ρ (.lst x xs)=(.lst x xs):=rfl
theorem Zzq (cs:List AVal):Zk ρ (.agg cs)=.agg (Ze ρ cs):=rfl
theorem ZLI (vs:List AVal):Zk ρ (.tup vs)=.tup (Ze ρ vs):=rfl
theorem ZKW (f:Nat) (caps:List AVal):Zk ρ (.fn f caps)=.fn f (Ze ρ caps):=rfl
theorem ZFm  : Zk ρ (.nilm)=(.nilm):=rfl
theorem ZLl  : Zk ρ (.nili)=(.nili):=rfl
theorem ZwT (t:Nat) (x:AVal):Zk ρ (.iface t x)=.iface t (Zk ρ x):=rfl
theorem Zvw (x:AVal):Zk ρ (.pan x)=.pan (Zk ρ x):=rfl
theorem ZBB (f:Nat):Za6 (.fn f [])=true:=rfl
theorem ZzJ (f:Nat):Z4 (.fn f [])=true:=rfl
theorem Zyo (t:Nat) (x:AVal):ZbE (.pan (.iface t x))=ZaV x:=rfl
theorem ZCZ (live:List Nat) (tm:Tms):ZlU live (some (tm,σ,none))=some (.normal,keepL live tm,σ):=rfl
theorem ZyM (live:List Nat) (tm:Tms) (x:AVal):ZlU live (some (tm,σ,some x))=some (.panic x,[],σ):=rfl
theorem ZGr (live:List Nat):ZlU live none=none:=rfl
theorem Zwz (t o:Nat):Zk ρ (.ref t o)=(match ρ t 0 with | some (t',0)=>.ref t' o | _=>.any):=rfl
theorem Zy8 (t:Nat):Zk ρ (.map t)=(match ρ t 0 with | some (t',0)=>.map t' | _=>.any):=rfl
theorem ZNg (t g lo n:Nat):Zk ρ (.sl t g lo n)=(match ρ t g with | some (t',g')=>.sl t' g' lo n | none=>.any):=rfl
theorem ZDb (t g i o:Nat):Zk ρ (.eref t g i o)=(match ρ t g with | some (t',g')=>.eref t' g' i o | none=>.any):=rfl
theorem ZJ1:Zr []=[]:=rfl
theorem ZzI (x:AVal) (xs:List AVal):Zr (x::xs)=ZZ x++Zr xs:=rfl
theorem ZKX:Ze ρ []=[]:=rfl
theorem ZC3 (x:AVal) (xs:List AVal):Ze ρ (x::xs)=Zk ρ x::Ze ρ xs:=rfl
end
end Go.Proofs.YtmlkhhidifjjfaaDoor
namespace Go.Proofs.YtmlkhhidifjjfaaDoor
mutual
def ZK:AVal→Bool
 | .ref _ _=>false
 | .eref _ _ _ _=>false
 | .sl _ _ _ _=>false
 | .map _=>false
 | .agg cs=>Zd cs
 | .tup vs=>Zd vs
 | .fn _ vs=>Zd vs
 | .iface _ x=>ZK x
 | .pan x=>ZK x
 | .top=>true
 | .any=>true
 | .int _ _=>true
 | .bool _=>true
 | .str _=>true
 | .nilp=>true
 | .nilm=>true
 | .nili=>true
 | .iptr _ _=>true
 | .lst _ _=>true
def Zd:List AVal→Bool
 | []=>true
 | x::xs=>ZK x && Zd xs
end
mutual
theorem Za4 (ρ:Rho):∀ (x:AVal),ZK x=true→Zk ρ x=x∧ZZ x=[]
 | .ref _ _,h=>by simp [ZK] at h
 | .eref _ _ _ _,h=>by simp [ZK] at h
 | .sl _ _ _ _,h=>by simp [ZK] at h
 | .map _,h=>by simp [ZK] at h
 | .agg cs,h=>by have:=ZaT ρ cs (by simpa only [ZK] using h);exact ⟨by simp only [Zk,this.1],by simp only [ZZ,this.2]⟩
 | .tup cs,h=>by have:=ZaT ρ cs (by simpa only [ZK] using h);exact ⟨by simp only [Zk,this.1],by simp only [ZZ,this.2]⟩
 | .fn f cs,h=>by have:=ZaT ρ cs (by simpa only [ZK] using h);exact ⟨by simp only [Zk,this.1],by simp only [ZZ,this.2]⟩
 | .iface t x,h=>by have:=Za4 ρ x (by simpa only [ZK] using h);exact ⟨by simp only [Zk,this.1],by simp only [ZZ,this.2]⟩
 | .pan x,h=>by have:=Za4 ρ x (by simpa only [ZK] using h);exact ⟨by simp only [Zk,this.1],by simp only [ZZ,this.2]⟩
 | .top,_=>⟨rfl,rfl⟩
 | .any,_=>⟨rfl,rfl⟩
 | .int _ _,_=>⟨rfl,rfl⟩
 | .bool _,_=>⟨rfl,rfl⟩
 | .str _,_=>⟨rfl,rfl⟩
 | .nilp,_=>⟨rfl,rfl⟩
 | .nilm,_=>⟨rfl,rfl⟩
 | .nili,_=>⟨rfl,rfl⟩
 | .iptr _ _,_=>⟨rfl,rfl⟩
 | .lst _ _,_=>⟨rfl,rfl⟩
theorem ZaT (ρ:Rho):∀ (xs:List AVal),Zd xs=true→Ze ρ xs=xs∧Zr xs=[]
 | [],_=>⟨rfl,rfl⟩
 | x::xs,h=>by
  simp only [Zd,Bool.and_eq_true] at h
  have h1:=Za4 ρ x h.1
  have h2:=ZaT ρ xs h.2
  exact ⟨by simp only [Ze,h1.1,h2.1],by simp only [Zr,h1.2,h2.2,List.append_nil]⟩
end
theorem Zsc {σ:Za} {r:AVal} (h:ZK r=true):Zal 0 σ r=some (r,[]):=by
 have h1:=Za4 (Zl σ 0 []) r h
 have hids:ZE 0 [r] σ=[]:=by
  unfold ZE
  simp only [Zr,h1.2,List.append_nil,List.range_zero,List.flatMap_nil]
  rfl
 unfold Zal gcA
 simp only [hids,Ze,Zx,h1.1]
def Zcd:AVal→AVal
 | .tup vs=>.tup (vs.map ZH)
 | x=>ZH x
def Zca:AVal→Bool
 | .tup vs=>vs.all Z4
 | x=>Z4 x
def ZbN:AVal→Bool
 | .fn _ _=>false
 | _=>true
def ZbY:AVal→Bool
 | .agg cs=>cs.all ZbN
 | x=>ZbN x
def Zcc:AVal→Bool
 | .tup vs=>vs.all ZbY
 | x=>ZbY x
theorem ZGl {k g n:Nat} {xs:List AVal} {σ:Za} {t:Nat} (hs:σ[t]?=some (.row g k xs)) (hn:n≤xs.length):ZbI 0 (some (.sl t g 0 n,σ))=some (.lst false (xs.take n),[]):=by
 have hv:viewR σ (.sl t g 0 n)=some (.lst false (xs.take n),[t]):=by
  simp only [viewR,ZN,ZL,Z6,hs,Nat.zero_add,hn,and_self,if_true,List.drop_zero]
 have e:ZbI 0 (some (.sl t g 0 n,σ))=(match viewR σ (.sl t g 0 n) with
  | some (r',ts)=>match gcA 0 [r'] (Zn σ ts) with
   | ([r''],σ')=>some (r'',σ')
   | _=>none
  | none=>none):=rfl
 rw [e,hv]
 exact Zsc rfl
theorem ZB8 {m:Nat} {fn:ZI} {tm:Tms} {σ:Za}:Zap m fn (some (.ret,tm,σ))=match resA tm σ fn.res with
  | some r=>Zal m σ r
  | none=>none:=rfl
theorem ZGo {m:Nat} {fn:ZI} {tm:Tms} {σ:Za}:Zap m fn (some (.normal,tm,σ))=match resA tm σ fn.res with
  | some r=>Zal m σ r
  | none=>none:=rfl
theorem ZBn {m:Nat} {fn:ZI} {tm:Tms} {σ:Za} {x:AVal}:Zap m fn (some (.panic x,tm,σ))=Zal m σ (.pan x):=rfl
theorem ZzL  : ZK (.top)=true:=rfl
theorem ZF3  : ZK (.any)=true:=rfl
theorem ZEZ (k:IntKind) (n:Int):ZK (.int k n)=true:=rfl
theorem ZLB (b:Bool):ZK (.bool b)=true:=rfl
theorem ZJW (l:List UInt8):ZK (.str l)=true:=rfl
theorem Zzu  : ZK (.nilp)=true:=rfl
theorem ZCm (t:Nat) (o:Nat):ZK (.ref t o)=false:=rfl
theorem ZBw (t:Nat) (g:Nat) (i:Nat) (o:Nat):ZK (.eref t g i o)=false:=rfl
theorem ZM3 (cs:List AVal) (o:Nat):ZK (.iptr cs o)=true:=rfl
theorem ZJh (x:Bool) (xs:List AVal):ZK (.lst x xs)=true:=rfl
theorem ZLD (t:Nat) (g:Nat) (lo:Nat) (n:Nat):ZK (.sl t g lo n)=false:=rfl
theorem ZFJ (cs:List AVal):ZK (.agg cs)=Zd cs:=rfl
theorem ZDY (vs:List AVal):ZK (.tup vs)=Zd vs:=rfl
theorem Zxy (f:Nat) (caps:List AVal):ZK (.fn f caps)=Zd caps:=rfl
theorem ZKY  : ZK (.nilm)=true:=rfl
theorem ZMO (t:Nat):ZK (.map t)=false:=rfl
theorem ZLA  : ZK (.nili)=true:=rfl
theorem ZFG (t:Nat) (x:AVal):ZK (.iface t x)=ZK x:=rfl
theorem ZA6 (x:AVal):ZK (.pan x)=ZK x:=rfl
theorem ZJa  : ZbN (.top)=true:=rfl
theorem Zzd  : ZbN (.any)=true:=rfl
theorem ZAH (k:IntKind) (n:Int):ZbN (.int k n)=true:=rfl
theorem ZIT (b:Bool):ZbN (.bool b)=true:=rfl
theorem ZM0 (l:List UInt8):ZbN (.str l)=true:=rfl
theorem Zxp  : ZbN (.nilp)=true:=rfl
theorem ZBW (t:Nat) (o:Nat):ZbN (.ref t o)=true:=rfl
theorem ZEI (t:Nat) (g:Nat) (i:Nat) (o:Nat):ZbN (.eref t g i o)=true:=rfl
theorem ZJs (cs:List AVal) (o:Nat):ZbN (.iptr cs o)=true:=rfl
theorem ZHt (x:Bool) (xs:List AVal):ZbN (.lst x xs)=true:=rfl
theorem Zzo (t:Nat) (g:Nat) (lo:Nat) (n:Nat):ZbN (.sl t g lo n)=true:=rfl
theorem ZA9 (cs:List AVal):ZbN (.agg cs)=true:=rfl
theorem Zxj (vs:List AVal):ZbN (.tup vs)=true:=rfl
theorem ZEq (f:Nat) (caps:List AVal):ZbN (.fn f caps)=false:=rfl
theorem ZJQ  : ZbN (.nilm)=true:=rfl
theorem Zve (t:Nat):ZbN (.map t)=true:=rfl
theorem ZGK  : ZbN (.nili)=true:=rfl
theorem ZGV (t:Nat) (x:AVal):ZbN (.iface t x)=true:=rfl
theorem ZI1 (x:AVal):ZbN (.pan x)=true:=rfl
theorem Zxo  : ZbY (.top)=true:=rfl
theorem ZyJ  : ZbY (.any)=true:=rfl
theorem ZDg (k:IntKind) (n:Int):ZbY (.int k n)=true:=rfl
theorem ZEi (b:Bool):ZbY (.bool b)=true:=rfl
theorem Zz3 (l:List UInt8):ZbY (.str l)=true:=rfl
theorem ZEf  : ZbY (.nilp)=true:=rfl
theorem ZFp (t:Nat) (o:Nat):ZbY (.ref t o)=true:=rfl
theorem ZGB (t:Nat) (g:Nat) (i:Nat) (o:Nat):ZbY (.eref t g i o)=true:=rfl
theorem ZFa (cs:List AVal) (o:Nat):ZbY (.iptr cs o)=true:=rfl
theorem ZBf (x:Bool) (xs:List AVal):ZbY (.lst x xs)=true:=rfl
theorem ZAS (t:Nat) (g:Nat) (lo:Nat) (n:Nat):ZbY (.sl t g lo n)=true:=rfl
theorem ZKp (cs:List AVal):ZbY (.agg cs)=cs.all ZbN:=rfl
theorem ZDx (vs:List AVal):ZbY (.tup vs)=true:=rfl
theorem ZI3 (f:Nat) (caps:List AVal):ZbY (.fn f caps)=false:=rfl
theorem ZwG  : ZbY (.nilm)=true:=rfl
theorem Zxq (t:Nat):ZbY (.map t)=true:=rfl
theorem ZxM  : ZbY (.nili)=true:=rfl
theorem Zvu (t:Nat) (x:AVal):ZbY (.iface t x)=true:=rfl
theorem Zwb (x:AVal):ZbY (.pan x)=true:=rfl
theorem ZMD  : Zcc (.top)=true:=rfl
theorem ZJw  : Zcc (.any)=true:=rfl
theorem ZNd (k:IntKind) (n:Int):Zcc (.int k n)=true:=rfl
theorem ZJr (b:Bool):Zcc (.bool b)=true:=rfl
theorem ZLt (l:List UInt8):Zcc (.str l)=true:=rfl
theorem ZCp  : Zcc (.nilp)=true:=rfl
theorem ZAO (t:Nat) (o:Nat):Zcc (.ref t o)=true:=rfl
theorem ZA7 (t:Nat) (g:Nat) (i:Nat) (o:Nat):Zcc (.eref t g i o)=true:=rfl
theorem Zx5 (cs:List AVal) (o:Nat):Zcc (.iptr cs o)=true:=rfl
theorem ZK1 (x:Bool) (xs:List AVal):Zcc (.lst x xs)=true:=rfl
theorem ZDz (t:Nat) (g:Nat) (lo:Nat) (n:Nat):Zcc (.sl t g lo n)=true:=rfl
theorem ZLs (cs:List AVal):Zcc (.agg cs)=cs.all ZbN:=rfl
theorem ZJM (vs:List AVal):Zcc (.tup vs)=vs.all ZbY:=rfl
theorem ZFO (f:Nat) (caps:List AVal):Zcc (.fn f caps)=false:=rfl
theorem ZCM  : Zcc (.nilm)=true:=rfl
theorem ZHT (t:Nat):Zcc (.map t)=true:=rfl
theorem ZKl  : Zcc (.nili)=true:=rfl
theorem ZF9 (t:Nat) (x:AVal):Zcc (.iface t x)=true:=rfl
theorem ZF8 (x:AVal):Zcc (.pan x)=true:=rfl
theorem ZLT  : Zca (.top)=false:=rfl
theorem ZDH  : Zca (.any)=false:=rfl
theorem ZKZ (k:IntKind) (n:Int):Zca (.int k n)=true:=rfl
theorem ZFq (b:Bool):Zca (.bool b)=true:=rfl
theorem ZLp (l:List UInt8):Zca (.str l)=true:=rfl
theorem ZL5  : Zca (.nilp)=true:=rfl
theorem Zx7 (t:Nat) (o:Nat):Zca (.ref t o)=false:=rfl
theorem ZGM (t:Nat) (g:Nat) (i:Nat) (o:Nat):Zca (.eref t g i o)=false:=rfl
theorem Zw6 (cs:List AVal) (o:Nat):Zca (.iptr cs o)=false:=rfl
theorem ZKL (x:Bool) (xs:List AVal):Zca (.lst x xs)=true:=rfl
theorem ZyF (t:Nat) (g:Nat) (lo:Nat) (n:Nat):Zca (.sl t g lo n)=false:=rfl
theorem ZIx (cs:List AVal):Zca (.agg cs)=cs.all Za6:=rfl
theorem Zwm (vs:List AVal):Zca (.tup vs)=vs.all Z4:=rfl
theorem ZIv  : Zca (.nilm)=true:=rfl
theorem ZFW (t:Nat):Zca (.map t)=false:=rfl
theorem ZE3  : Zca (.nili)=true:=rfl
theorem ZGO (t:Nat) (x:AVal):Zca (.iface t x)=false:=rfl
theorem ZCj (x:AVal):Zca (.pan x)=false:=rfl
theorem Zxb  : Zcd (.top)=(.top):=rfl
theorem ZL9  : Zcd (.any)=(.any):=rfl
theorem ZH6 (k:IntKind) (n:Int):Zcd (.int k n)=(.int k n):=rfl
theorem Zyx (b:Bool):Zcd (.bool b)=(.bool b):=rfl
theorem ZAi (l:List UInt8):Zcd (.str l)=(.str l):=rfl
theorem ZMI  : Zcd (.nilp)=(.nilp):=rfl
theorem ZA8 (t:Nat) (o:Nat):Zcd (.ref t o)=(.ref t o):=rfl
theorem Zyv (t:Nat) (g:Nat) (i:Nat) (o:Nat):Zcd (.eref t g i o)=(.eref t g i o):=rfl
theorem ZEN (cs:List AVal) (o:Nat):Zcd (.iptr cs o)=(.iptr cs o):=rfl
theorem Zy6 (x:Bool) (xs:List AVal):Zcd (.lst x xs)=.lst false xs:=rfl
theorem Zw9 (t:Nat) (g:Nat) (lo:Nat) (n:Nat):Zcd (.sl t g lo n)=(.sl t g lo n):=rfl
theorem ZCP (cs:List AVal):Zcd (.agg cs)=.agg (cs.map Zbd):=rfl
theorem ZIm (vs:List AVal):Zcd (.tup vs)=.tup (vs.map ZH):=rfl
theorem ZIE (f:Nat) (caps:List AVal):Zcd (.fn f caps)=(.fn f caps):=rfl
theorem ZD6  : Zcd (.nilm)=(.nilm):=rfl
theorem ZEo (t:Nat):Zcd (.map t)=(.map t):=rfl
theorem ZJ3  : Zcd (.nili)=(.nili):=rfl
theorem ZAz (t:Nat) (x:AVal):Zcd (.iface t x)=(.iface t x):=rfl
theorem Zv6 (x:AVal):Zcd (.pan x)=(.pan x):=rfl
theorem ZE8:Zd []=true:=rfl
theorem Zya (x:AVal) (xs:List AVal):Zd (x::xs)=(ZK x && Zd xs):=rfl
theorem ZKF (f:Nat):Zca (.fn f [])=true:=rfl
theorem ZvV (p q:Bool):(if p=true then q else false)=(p && q):=by cases p <;> rfl
theorem ZBg (p q:Bool):(if p=true then true else q)=(p || q):=by cases p <;> rfl
theorem ZwH (p q:Bool):(if p=true then false else q)=(!p && q):=by cases p <;> rfl
theorem ZGI (p q:Bool):(if p=true then q else true)=(!p || q):=by cases p <;> rfl
theorem ZBN (p q:Bool):(if p=false then q else false)=(!p && q):=by cases p <;> rfl
theorem ZAY (p q:Bool):(if p=false then true else q)=(!p || q):=by cases p <;> rfl
theorem ZDB (p q:Bool):(if p=false then false else q)=(p && q):=by cases p <;> rfl
theorem ZI7 (p q:Bool):(if p=false then q else true)=(p || q):=by cases p <;> rfl
section
def ZeA (o:AOp):AOp:=⟨o.dst,o.ins,o.guard,[]⟩
def ZcA:Zf→Zf
 | .region ops chk live=>.region (ops.map ZeA) chk live
 | .seq a b=>.seq (ZcA a) (ZcA b)
 | .cond c a b=>.cond c (ZcA a) (ZcA b)
 | .block id c=>.block id (ZcA c)
 | .loop live c=>.loop live (ZcA c)
 | .skip=>.skip
 | .exit id=>.exit id
 | .ret=>.ret
 | .stuck=>.stuck
def ZkV (f:ZI):ZI:=⟨f.res,ZcA f.body⟩
section
variable {O:ZR} {byref:Nat→Bool}
theorem ZDn (o:AOp) (s:Nat) (tm:Tms) (σ:Za):ZS O byref (ZeA o) s tm σ=ZS O byref o s tm σ:=rfl
theorem Zsu:∀ (ops:List AOp) (s:Nat) (tm:Tms) (σ:Za),ZW O byref (ops.map ZeA) s tm σ=ZW O byref ops s tm σ
 | [],_,_,_=>rfl
 | o::os,s,tm,σ=>by
  simp only [List.map_cons,ZW,ZDn]
  split
  ·rfl
  ·rfl
  ·rename_i tm' σ' c _ _
   rw [show (ZeA o).ins=o.ins from rfl,Zsu os]
theorem Zn2 (ops:List AOp):sitesOf (ops.map ZeA)=sitesOf ops:=by
 simp [sitesOf,ZeA,Function.comp_def]
theorem ZlL (ops:List AOp) (i:Nat):((ops.map ZeA).getD i default).ins=(ops.getD i default).ins:=by
 simp only [List.getD_eq_getElem?_getD,List.getElem?_map]
 cases ops[i]? <;> rfl
theorem ZM4 (ops:List AOp) (b:Nat) (l:List (Nat×Nat)) (cs:List Cls):Zc6 (ops.map ZeA) b l cs=Zc6 ops b l cs:=by
 unfold Zc6
 congr 1
 funext p
 unfold Zcn Zcg
 rw [ZlL,ZlL,←List.map_take,Zn2]
theorem ZNe (ops:List AOp) (b:Nat) (l:List (Nat×Nat)) (cs:List Cls):Zdj (ops.map ZeA) b l cs=Zdj ops b l cs:=by
 unfold Zdj
 congr 2
 funext p
 unfold Zcn Zcg
 rw [ZlL,ZlL,←List.map_take,Zn2]
theorem ZMr (ops:List AOp) (chk:Option (List (Nat×Nat))) (live:List Nat) (tm:Tms) (σ:Za):Zb4 O byref (ops.map ZeA) chk live tm σ=Zb4 O byref ops chk live tm σ:=by
 unfold Zb4
 rw [Zsu,Zn2]
 cases ZW O byref ops σ.length tm (σ++List.replicate (sitesOf ops) .free) with
 | none=>rfl
 | some q =>
  obtain ⟨tm',σ',cs,p⟩:=q
  cases p with
  | some x =>
   cases chk with
   | none=>rfl
   | some l=>simp only [ZcG,ZNe]
  | none =>
   cases chk with
   | none=>rfl
   | some l=>simp only [ZcG,ZM4]
theorem ZdX (m n:Nat):∀ (c:Zf),Z3 O byref m n (ZcA c)=Z3 O byref m n c
 | .region ops chk live=>by funext tm σ;simp only [ZcA,Z3,ZMr]
 | .seq a b=>by funext tm σ;simp only [ZcA,Z3,ZdX m n a,ZdX m n b]
 | .cond c a b=>by funext tm σ;simp only [ZcA,Z3,ZdX m n a,ZdX m n b]
 | .block id c=>by funext tm σ;simp only [ZcA,Z3,ZdX m n c]
 | .loop live c=>by funext tm σ;simp only [ZcA,Z3,ZdX m n c]
 | .skip=>rfl
 | .exit id=>rfl
 | .ret=>rfl
 | .stuck=>rfl
end
theorem ZnM (fs:Nat→Option ZI) (prim:Zco) (byref:Nat→Bool):∀ n,Zaq (fun f=>(fs f).map ZkV) prim byref n=Zaq fs prim byref n
 | 0=>rfl
 | n+1=>by
  funext f args σ
  simp only [Zaq,ZnM fs prim byref n]
  cases prim f with
  | some g=>rfl
  | none =>
   cases fs f with
   | none=>rfl
   | some fn =>
    simp only [Option.map_some,ZkV,ZdX]
    rfl
theorem ZLW (fs:Nat→Option ZI) (prim:Zco) (byref:Nat→Bool):EV (fun f=>(fs f).map ZkV) prim byref=EV fs prim byref:=by
 funext f args σ
 apply ZeX
 intro r
 rw [ZdF,ZdF]
 simp only [ZnM]
end
end Go.Proofs.YtmlkhhidifjjfaaDoor
namespace Go.Proofs.YtmlkhhidifjjfaaDoor
open Go.RowKit
def ZiA:List AVal→Za→Option (AVal×Za):=fun _ _=>none
theorem ZqB {α:Prop} {args:List AVal} {σ:Za} {r:AVal×Za} (h:ZiA args σ=some r):α:=by cases h
def ZgW (k bytes:Nat) (args:List AVal) (σ:Za):Option (AVal×Za):=match args with
 | [.str _]=>none
 | [a]=>match Z6 σ a with
  | some (xs,_)=>if xs.length*bytes≤140737488355328∧kOk k xs=true then some (.sl σ.length 0 0 xs.length,σ++[.row 0 k xs]) else none
  | none=>none
 | _=>none
def Zeh:Ann:={ nt:=8,lr:=fun _=>[7,6,5,4,3,2,0] }
structure Zpu (P:Program) (t:TypeId) (k bytes:Nat) (z:AVal) (f:FuncId):Prop where
 ex:∃ (F:Func) (e:TypeId) (i0 i1 i2 i3:Nat) (r0 r2 r3:Array Oper) (m b:Oper),
  P.funcs[f]?=some F∧F.results=#[.tmp 2]∧F.ntmps=8∧(F.name == "runtime.NumGoroutine")=false∧P.underlying t=some (.slice e) ∧
  F.body=some (.seq (.region i0 r0 false) (.seq (.seq (.region i1 #[m,b] false) (.cond (.tmp 4) (.seq (.region i2 r2 false) .ret) .skip)) (.seq (.region i3 r3 false) .ret))) ∧
  m.op=.move (.tmp 0)∧m.dst=some 3∧m.guard=none∧b.op=.binOp .eql t (.tmp 3) (.const (.slice none 0 0)) t∧b.dst=some 4∧b.guard=none ∧
  Zdl P Zeh r0 r0.toList=some [⟨some 2,.mov (.c (.lst true [])),none,[]⟩] ∧
  Zdl P Zeh r2 r2.toList=some [⟨some 2,.mov (.c (.lst true [])),none,[]⟩] ∧
  (∃ a1 a2 a3 a4,Zdl P Zeh r3 r3.toList=some [⟨some 5,.bslice false k 0 z [],none,a1⟩,⟨some 6,.mov (.t 0),none,a2⟩,⟨some 7,.app k bytes z (.t 5) (.t 6),none,a3⟩,⟨some 2,.mov (.t 7),none,a4⟩])∧z.cells.length=k∧0 < k
section
variable {P:Program} {base:Nat→Prop} {w0 w w':World} {I0 I:Imm} {β:Bmap} {σ:Za}
theorem noO:ZaN P (fun _ _ _=>none):=by intro f args σ r σ' h;cases h
theorem ZeF {ops:Array Oper} {Q:Exit→Act→World→Prop} {o:Oper} {l:List Oper} {a:Act} {w:World} (hg:o.guard=none) (h:o.wp P a w (wpList P ops Q l) Q):wpList P ops Q (o::l) a w:=by
 unfold wpList
 have : Region.wanted o (yielded ops a.tmps)=true:=by unfold Region.wanted;rw [hg]
 rw [this]
 simp only [if_true]
 exact Or.inl h
theorem ZrA {t : TypeId} {k bytes : Nat} {z : AVal} {f : FuncId} (hm : P.follows .mixedOrders = true) (C : Zpu P t k bytes z f) {args : List AVal} {σ σ' : Za} {r : AVal} (h : ZgW k bytes args σ = some (r, σ')) :
    (∃ fn, P.funcs[f]? = some fn ∧ fn.body.isSome = true ∧ (fn.name == "runtime.NumGoroutine") = false) ∧
    ∀ base w0 I0 I β w (vs : Array Value), KLt base w0 → Rel base w0 I0 I β σ w → VRs I β args vs.toList →
      Calls P f vs w (fun e w' => ∃ u, Ends r e u ∧ Zb5 σ.length base w0 I0 I β r σ' u w') := by
  obtain ⟨F, e, i0, i1, i2, i3, r0, r2, r3, m, b, hF, hres, hnt, hname, hu, hbody, hm1, hm2, hm3, hb1, hb2, hb3, hc0, hc2, ⟨a1, a2, a3, a4, hc3⟩, hzk, hk0⟩ := C.ex
  refine ⟨⟨F, hF, by rw [hbody]; rfl, hname⟩, ?_⟩
  intro base w0 I0 I β w vs hb R hargs
  unfold ZgW at h
  split at h
  case h_1 => cases h
  case h_3 => cases h
  rename_i a hns
  split at h
  case h_2 => cases h
  rename_i xs ts hel0
  split at h
  case isFalse => cases h
  rename_i hc
  obtain ⟨hbytes, hkOk⟩ := hc
  simp only [Option.some.injEq, Prod.mk.injEq] at h
  obtain ⟨rfl, rfl⟩ := h
  have hnt8 : ∀ (n : Nat), n < 8 → n < Zeh.nt := fun n h => h
  refine calls_of_wp hF hbody ?_
  have hsz : vs.size = 1 := by have := ZaW hargs; simpa using this.symm
  have T := Zoo hargs (F.ntmps - vs.size)
  have hst : StR ZbR 8 base w0 I0 I β (enterA 0 [a] []) σ { tmps := vs ++ Array.replicate (F.ntmps - vs.size) undef, defers := [] } w := ⟨I, β, Imm.le.refl I, Bmap.le.refl β, T, ⟨ZeW.2 rfl, by simp; omega⟩, R⟩
  have fin : ∀ {tm : Tms} {σ1 : Za} {y : AVal} {a' : Act} {w1 : World}, StR ZbR 8 base w0 I0 I β tm σ1 a' w1 → tget tm 2 = y → (∀ I' β' u, I.le I' → β.le β' → Rel base w0 I0 I' β' σ1 w1 → VR I' β' y u → Zb5 σ.length base w0 I0 I β (.sl σ.length 0 0 xs.length) (σ ++ [.row 0 k xs]) u w1) →
      a'.defers = [] ∧ ∃ v, (results F a'.tmps).run P w1 = .ok v w1 ∧ ∃ u, Ends (.sl σ.length 0 0 xs.length) (.returned v) u ∧ Zb5 σ.length base w0 I0 I β (.sl σ.length 0 0 xs.length) (σ ++ [.row 0 k xs]) u w1 := by
    rintro tm σ1 y a' w1 ⟨I', β', h1, h2, h3, h4, h5⟩ hy hpost
    refine ⟨ZeW.1 h4.1, a'.tmps.getD 2 undef, by simp [results, hres], _, rfl, ?_⟩
    have := h3 2
    rw [hy] at this
    exact hpost I' β' _ h1 h2 h5 this
  have R0 : ZaU P Zeh (.region i0 r0 false) = .region [⟨some 2, .mov (.c (.lst true [])), none, []⟩] none [7, 6, 5, 4, 3, 2, 0] := by simp only [ZaU]; rw [hc0]; rfl
  have R2 : ZaU P Zeh (.region i2 r2 false) = .region [⟨some 2, .mov (.c (.lst true [])), none, []⟩] none [7, 6, 5, 4, 3, 2, 0] := by simp only [ZaU]; rw [hc2]; rfl
  have R3 : ZaU P Zeh (.region i3 r3 false) = .region [⟨some 5, .bslice false k 0 z [], none, a1⟩, ⟨some 6, .mov (.t 0), none, a2⟩, ⟨some 7, .app k bytes z (.t 5) (.t 6), none, a3⟩, ⟨some 2, .mov (.t 7), none, a4⟩] none [7, 6, 5, 4, 3, 2, 0] := by simp only [ZaU]; rw [hc3]; rfl
  refine wp_seq ?_
  refine ZlJ (an := Zeh) (dr := ZbR) (byref := fun _ => false) noO (fun n hn => by simp [ZbR] at hn) hm hb R0 hst (e := .normal) (tm' := keepL [7, 6, 5, 4, 3, 2, 0] [(2, .lst true []), (0, a)]) (σ' := σ) ?_ ?_
  · simp [Zb4, ZcG, sitesOf, nsite, ZW, ZS, Zbw, execI, Opd.ev, tput, tins, enterA]
  intro a1' w1 hst1
  simp only [Exit.then]
  refine wp_seq (wp_seq ?_)
  refine wp_region_list ?_
  refine ZeF hm3 ?_
  obtain ⟨I1, β1, g1, g2, g3, g4, g5⟩ := hst1
  have hs8 : 8 ≤ a1'.tmps.size := g4.2
  have hT0 : VR I1 β1 a (a1'.tmps.getD 0 undef) := by have := g3 0; simpa [keepL, tget] using this
  obtain ⟨A, cap, hv0, q1, q2, q5, q4⟩ := Zoy g5 (fun l e => hns l e) hel0 hT0
  show m.wp P a1' w1 _ _
  unfold Oper.wp
  have e1 : (execOp a1'.eval m).run P w1 = .ok (.value (.slice A xs.length cap)) w1 := by
    unfold execOp; rw [hm1]; simp [Act.eval, hv0]
  rw [e1, Oper.upon_value, hm2]
  refine ZeF hb3 ?_
  unfold Oper.wp
  have hs3 : (a1'.put (some 3) (.slice A xs.length cap)).tmps.getD 3 undef = .slice A xs.length cap := by
    have : 3 < a1'.tmps.size := by omega
    simp [Act.put, Array.getD, this]
  have e2 : (execOp (a1'.put (some 3) (.slice A xs.length cap)).eval b).run P w1 = .ok (.value (.bool A.isNone)) w1 := by
    have hq : (Op.equal t (.slice A xs.length cap) (.slice none 0 0)).run P w1 = .ok A.isNone w1 := run_equal_slice_nil w1 t e A xs.length cap hu
    unfold execOp; rw [hb1]
    simp only [Act.eval]
    rw [hs3]
    simp [eqGuard, binOp, hq]
  rw [e2, Oper.upon_value, hb2]
  refine wpList_nil ?_
  have hst2 : StR ZbR 8 base w0 I0 I β [(4, .bool A.isNone), (2, .lst true []), (0, a)] σ ((a1'.put (some 3) (.slice A xs.length cap)).put (some 4) (.bool A.isNone)) w1 := by
    refine ⟨I1, β1, g1, g2, fun n => ?_, ⟨ZlH (ZlH g4.1 (fun n _ hm => by simp [ZbR] at hm)) (fun n _ hm => by simp [ZbR] at hm), by rw [Zew, Zew]; exact g4.2⟩, g5⟩
    have hs : 4 < (a1'.put (some 3) (.slice A xs.length cap)).tmps.size := by rw [Zew]; omega
    have ne : ∀ {a : Act} {d j : Nat} {u : Value}, d ≠ j → (a.put (some d) u).tmps.getD j undef = a.tmps.getD j undef := by
      intro a d j u hne
      simp only [Act.put, Array.getD_eq_getD_getElem?]; rw [Array.getElem?_setIfInBounds_ne hne]
    simp only [tget]
    split
    · rename_i e; subst e
      rw [show ((a1'.put (some 3) (.slice A xs.length cap)).put (some 4) (.bool A.isNone)).tmps.getD 4 undef = .bool A.isNone by
        simp only [Act.put] at hs ⊢
        simp [Array.getD] at hs ⊢
        omega]
      simp only [VR]
    · split
      · rename_i e; subst e
        rw [ne (by omega), ne (by omega)]
        have := g3 2; simpa [keepL, tget] using this
      · split
        · rename_i e; subst e
          rw [ne (by omega), ne (by omega)]
          have := g3 0; simpa [keepL, tget] using this
        · simp only [VR]
  simp only [Exit.then]
  cases hA : A.isNone with
  | true =>
    have hx0 : xs = [] := by
      rcases q4 with h | ⟨b, off, k', us, e, _⟩
      · exact h
      · rw [e] at hA; cases hA
    subst hx0
    have hev : ((a1'.put (some 3) (.slice A 0 cap)).put (some 4) (.bool A.isNone)).eval (.tmp 4) = .bool true := by
      obtain ⟨_, _, _, _, T, _, _⟩ := hst2
      have := T 4
      simp only [tget, if_true, VR] at this
      rw [hA] at this
      simpa [Act.eval, hA] using this
    refine wp_cond_true (by simpa [hA] using hev) ?_
    refine wp_seq ?_
    rw [hA] at hst2
    refine ZlJ (an := Zeh) (dr := ZbR) (byref := fun _ => false) noO (fun n hn => by simp [ZbR] at hn) hm hb R2 hst2 (e := .normal) (tm' := keepL [7, 6, 5, 4, 3, 2, 0] [(4, .bool true), (2, .lst true []), (0, a)]) (σ' := σ) ?_ ?_
    · simp [Zb4, ZcG, sitesOf, nsite, ZW, ZS, Zbw, execI, Opd.ev, tput, tins]
    intro a3' w3 hst3
    simp only [Exit.then]
    refine wp_ret ?_
    refine fin hst3 (y := .lst true []) (by simp [keepL, tget]) ?_
    intro I' β' u h1 h2 h3 h4
    simp only [VR] at h4
    obtain ⟨A', cap', rfl, _, _, hx, _⟩ := h4
    have hcap : cap' = 0 := by simpa using hx
    subst hcap
    have R4 := h3.reserve 1
    have hfree : (σ ++ List.replicate 1 ZM.free)[σ.length]? = some .free := by simp
    obtain ⟨R5, hle⟩ := R4.newNone hfree k hk0
    refine ⟨I', _, h1, KeptE.of_le (h2.trans hle), ?_, ?_⟩
    · have : (σ ++ List.replicate 1 ZM.free).set σ.length (.row 0 k []) = σ ++ [.row 0 k []] := by simp
      rw [this] at R5; exact R5
    · simp only [ZaS]
      rw [Zb8]
      exact ⟨_, Bmap.put_same β' σ.length 0 _, by simp, by simp, Or.inr ⟨rfl, rfl, A', rfl⟩⟩
  | false =>
    have hev : ((a1'.put (some 3) (.slice A xs.length cap)).put (some 4) (.bool A.isNone)).eval (.tmp 4) = .bool false := by
      obtain ⟨_, _, _, _, T, _, _⟩ := hst2
      have := T 4
      simp only [tget, if_true, VR] at this
      rw [hA] at this
      simpa [Act.eval, hA] using this
    refine wp_cond_false (by simpa [hA] using hev) ?_
    refine wp_skip ?_
    rw [hA] at hst2
    simp only [Exit.then]
    refine wp_seq ?_
    have hel : Z6 (σ ++ [ZM.free]) a = some (xs, ts) := ZgK hel0 (fun t ht => by
      obtain ⟨g, k, ys, h | h⟩ := ZkE hel0 t ht <;> (rw [List.getElem?_append_left (List.getElem?_eq_some_iff.1 h).1]))
    refine ZlJ (an := Zeh) (dr := ZbR) (byref := fun _ => false) noO (fun n hn => by simp [ZbR] at hn) hm hb R3 hst2 (e := .normal) (tm' := keepL [7, 6, 5, 4, 3, 2, 0] [(7, .sl σ.length 0 0 xs.length), (6, a), (5, .lst true []), (4, .bool false), (2, .sl σ.length 0 0 xs.length), (0, a)]) (σ' := σ ++ [.row 0 k xs]) ?_ ?_
    · have hfa : freeAt (σ ++ [ZM.free]) σ.length = true := by simp [freeAt]
      have hnp : (∃ x ys, a = .lst x ys) ∨ ∃ t g lo n, a = .sl t g lo n := by
        cases a with
        | lst x ys => exact Or.inl ⟨x, ys, rfl⟩
        | sl t g lo n => exact Or.inr ⟨t, g, lo, n, rfl⟩
        | str l => exact absurd rfl (hns l)
        | _ => simp [Z6] at hel0
      rcases hnp with ⟨x, ys, rfl⟩ | ⟨t', g', lo, n, rfl⟩
      · simp [Zb4, ZcG, sitesOf, nsite, ZW, ZS, Zbw, execI, Opd.ev, tput, tins, tget, viewAs, Zn, hzk, Zbk, hel, hkOk, hbytes, hfa]
      · simp [Zb4, ZcG, sitesOf, nsite, ZW, ZS, Zbw, execI, Opd.ev, tput, tins, tget, viewAs, Zn, hzk, Zbk, hel, hkOk, hbytes, hfa]
    intro a3' w3 hst3
    simp only [Exit.then]
    refine wp_ret ?_
    refine fin hst3 (y := .sl σ.length 0 0 xs.length) (by simp [keepL, tget]) ?_
    intro I' β' u h1 h2 h3 h4
    exact ⟨I', β', h1, KeptE.of_le h2, h3, h4⟩
end
end Go.Proofs.YtmlkhhidifjjfaaDoor
namespace Go.Proofs.YtmlkhhidifjjfaaDoor
open Go.RowKit
def Zpk (args:List AVal) (σ:Za):Option (AVal×Za):=match args with
 | [.str l]=>some (.bool (Lib.validD l),σ)
 | _=>none
section
variable {P:Program} {base:Nat→Prop} {w0 w w':World} {I0 I:Imm} {β:Bmap} {σ:Za}
theorem ZDs {f:Nat} (hf:∃ fn,P.funcs[f]?=some fn∧fn.body.isSome=true∧(fn.name == "runtime.NumGoroutine")=false) {args:List AVal} {r:AVal} {u:Value} (hn:∀ x,r≠.pan x) (hr:∀ I β,VR I β r u)
  (h:∀ base w0 I0 I β w (vs:Array Value),Rel base w0 I0 I β σ w→VRs I β args vs.toList→Calls P f vs w (fun e w'=>e=.returned u∧Below w.heap.size w w')) :
  (∃ fn,P.funcs[f]?=some fn∧fn.body.isSome=true∧(fn.name == "runtime.NumGoroutine")=false) ∧
  ∀ base w0 I0 I β w (vs:Array Value),KLt base w0→Rel base w0 I0 I β σ w→VRs I β args vs.toList →
   Calls P f vs w (fun e w'=>∃ u,Ends r e u∧Zb5 σ.length base w0 I0 I β r σ u w'):=by
 refine ⟨hf,fun base w0 I0 I β w vs hb R hv=>(h base w0 I0 I β w vs R hv).mono ?_⟩
 rintro e w' ⟨rfl,hB⟩
 have hbw:=R.base_le hb
 refine ⟨u,?_,I,β,Imm.le.refl I,KeptE.refl _ β,R.stay (Imm.le.refl I) ⟨hB.os,hB.tape,hB.output,hB.size,fun k hk=>hB.block k (hbw k hk)⟩ (fun _ _ _=>rfl) ?_ ?_,by rw [ZfH hn];exact hr I β⟩
 ·cases r <;> first | rfl | exact absurd rfl (hn _)
 ·intro b o x hx
  have h1:=R.imm b o x hx
  have hlt:=ZdP h1
  rw [←h1]
  simp only [World.cell?,hB.block b hlt]
 ·intro t x b hx hb'
  exact ⟨hB.block b ((R.blk t x hx).owns_lt hb'),(R.own t x b hx hb').2⟩
theorem ZBD (R:Rel base w0 I0 I β σ w):Lib.Utf8Tabs 0 1 w:=by
 refine ⟨fun c hc=>R.imm _ _ _ (R.glob _ _ _ (by simp [Gl,hc])),fun i hi=>⟨R.imm _ _ _ (R.glob _ _ _ ?_),R.imm _ _ _ (R.glob _ _ _ ?_)⟩⟩
 ·have h1:2*i < 32:=by omega
  have h2:2*i % 2=0:=by omega
  have h3:2*i / 2=i:=by omega
  simp [Gl,h1,h3]
 ·have h1:2*i+1 < 32:=by omega
  have h2:(2*i+1) % 2=1:=by omega
  have h3:(2*i+1) / 2=i:=by omega
  simp [Gl,h1,h2,h3]
theorem ZwP {f:Nat} (hf:∃ fn,P.funcs[f]?=some fn∧fn.body.isSome=true∧(fn.name == "runtime.NumGoroutine")=false)
  (hc:∀ (s:ByteArray) (w:World),s.size≤9223372036854775807→Lib.Utf8Tabs 0 1 w→Calls P f #[.string s] w fun e w'=>e=.returned (.bool (Lib.validD s.data.toList))∧Below w.heap.size w w') {args:List AVal} {σ σ':Za} {r:AVal} (h:Zpk args σ=some (r,σ')) :
  (∃ fn,P.funcs[f]?=some fn∧fn.body.isSome=true∧(fn.name == "runtime.NumGoroutine")=false) ∧
  ∀ base w0 I0 I β w (vs:Array Value),KLt base w0→Rel base w0 I0 I β σ w→VRs I β args vs.toList →
   Calls P f vs w (fun e w'=>∃ u,Ends r e u∧Zb5 σ.length base w0 I0 I β r σ' u w'):=by
 unfold Zpk at h
 split at h
 case h_2=>cases h
 rename_i l
 simp only [Option.some.injEq,Prod.mk.injEq] at h
 obtain ⟨rfl,rfl⟩:=h
 refine ZDs hf (u:=.bool (Lib.validD l)) (by simp) (fun _ _=>by simp only [VR]) ?_
 intro base w0 I0 I β w vs R hv
 obtain ⟨vs⟩:=vs
 simp only [VRs,VR] at hv
 obtain ⟨v1,r1,e1,⟨rfl,hl⟩,rfl⟩:=hv
 subst e1
 refine (hc ⟨l.toArray⟩ w (by simpa [ByteArray.size] using hl) (ZBD R)).mono ?_
 rintro e w' ⟨rfl,hB⟩
 exact ⟨by simp,hB⟩
end
end Go.Proofs.YtmlkhhidifjjfaaDoor
namespace Go.Proofs.YtmlkhhidifjjfaaDoor
def ZeH {α:Type} (d:α):List (Nat×α)→Nat→α
 | [],_=>d
 | (k,v)::r,n=>if k=n then v else ZeH d r n
def Zm (own raw:List Nat) (cfg cfg2:List (Nat×Nat×Bool)) (lr ll:List (Nat×List Nat)):Ann:={ own:=fun n=>if own.contains n then 1 else if raw.contains n then 2 else 0,cfg:=ZeH (0,true) cfg,cfg2:=ZeH (0,true) cfg2,lr:=ZeH [] lr,ll:=ZeH [] ll }
def Zyh:List (Nat×Ann):=[
 (80,Zm [] [] [] [] [(0,[0]),(1,[2])] []),
 (68,Zm [] [] [] [] [(0,[0]),(1,[5,4,3,0]),(2,[4,3,0]),(3,[3]),(4,[2])] []),
 (70,Zm [] [] [] [] [(0,[1,0]),(1,[4])] []),
 (107,Zm [] [] [] [] [(0,[1,0]),(1,[18,1,0]),(2,[]),(3,[4]),(4,[5,1,0]),(5,[5]),(6,[4])] []),
 (71,Zm [] [] [] [] [(0,[0]),(1,[5,4,3,0]),(2,[4,3,0]),(3,[3]),(4,[2])] []),
 (69,Zm [] [] [] [] [(0,[0]),(1,[4]),(2,[3,2])] []),
 (61,Zm [] [] [] [] [(0,[2,0]),(1,[3,2,0]),(2,[3,2,0]),(3,[3,2,0]),(4,[3,2,0]),(5,[3,2,0]),(6,[6,5,4,3,2,0]),(7,[4,3,2]),(8,[3,2]),(9,[2])] []),
 (77,Zm [] [] [(121,1,true)] [] [(0,[1]),(1,[2,1]),(2,[10,2,1]),(3,[11,10,2,1]),(4,[1]),(5,[15,10,2,1]),(6,[3,2,1]),(7,[3,2,1]),(8,[2,1]),(9,[2,1]),(10,[1]),(11,[37,10,2,1]),(12,[1]),(13,[41,10,2,1]),(14,[41,10,2,1]),(15,[41,10,2,1]),(16,[41,10,2,1]),(17,[1]),(18,[1]),(19,[50,10,2,1]),(20,[1]),(21,[56,10,2,1]),(22,[1]),(23,[61,10,2,1]),(24,[61,10,2,1]),(25,[1]),(26,[67,10,1]),(27,[67,1]),(28,[1]),(29,[])] []),
 (123,Zm [] [] [] [] [(0,[])] []),
 (125,Zm [] [] [] [] [(0,[])] []),
 (116,Zm [] [] [] [] [(0,[0]),(1,[3,0]),(2,[3]),(3,[2])] []),
 (114,Zm [] [] [] [] [(0,[2,0]),(1,[2,0]),(2,[2,0]),(3,[3,2,0]),(4,[3,2,0]),(5,[3,2,0]),(6,[3,2,0]),(7,[2,0]),(8,[2,0]),(9,[2,0]),(10,[2,0]),(11,[107,2,0]),(12,[2,0]),(13,[2,0]),(14,[2,0]),(15,[129,2,0]),(16,[2,0]),(17,[138,2,0]),(18,[])] []),
 (148,Zm [] [] [] [] [(0,[0]),(1,[5,4,3,0]),(2,[4,3,0]),(3,[3]),(4,[2])] []),
 (76,Zm [] [] [] [] [(0,[4,1]),(1,[4,1]),(2,[4,1]),(3,[24,4,1]),(4,[]),(5,[4]),(6,[4]),(7,[])] []),
 (119,Zm [] [] [] [] [(0,[0]),(1,[])] []),
 (121,Zm [] [] [] [] [(0,[1,0]),(1,[1,0]),(2,[1,0]),(3,[29,1,0]),(4,[1,0])] [(3,[1,0])]),
 (115,Zm [] [] [] [] [(0,[1,0]),(1,[1,0]),(2,[5,1,0]),(3,[5]),(4,[4])] []),
 (117,Zm [] [] [] [] [(0,[1,0]),(1,[7,6,5,0]),(2,[6,5,0]),(3,[5]),(4,[4])] []),
 (118,Zm [] [] [] [] [(0,[0]),(1,[13,0]),(2,[0]),(3,[0]),(4,[])] []),
 (120,Zm [] [] [] [] [(0,[7,0]),(1,[0]),(2,[19,0]),(3,[])] []),
 (122,Zm [] [] [] [] [(0,[2,0]),(1,[3,2,0]),(2,[3,2,0]),(3,[3,2,0]),(4,[2,0]),(5,[2,0]),(6,[])] []),
 (124,Zm [] [] [] [] [(0,[0]),(1,[5,4,3,0]),(2,[4,3,0]),(3,[3]),(4,[2])] []),
 (78,Zm [] [] [(130,1,true),(126,1,true),(132,1,true),(127,1,true),(128,1,true),(131,1,true),(129,1,true)] [] [(0,[3,0]),(1,[11,3,0]),(2,[12,11,3,0]),(3,[]),(4,[17,11,3,0]),(5,[3,0]),(6,[3,0]),(7,[]),(8,[32,11,3,0]),(9,[3,0]),(10,[40,3,0]),(11,[3,0]),(12,[3,0]),(13,[]),(14,[55,11,3,0]),(15,[55,11,3,0]),(16,[55,11,3,0]),(17,[55,11,3,0]),(18,[3,0]),(19,[]),(20,[67,11,3,0]),(21,[3,0]),(22,[75,74,73,0]),(23,[76,75,74,73,0]),(24,[75,74,73,5,0]),(25,[75,74,73,5,0]),(26,[75,74,73,0]),(27,[75,74,73,0]),(28,[102,11,3,0]),(29,[3,0]),(30,[110,109,108,0]),(31,[111,110,109,108,0]),(32,[110,109,108,7,0]),(33,[110,109,108,0]),(34,[110,109,108,0]),(35,[118,11,3,0]),(36,[118,11,3,0]),(37,[3,0]),(38,[127,126,125,0]),(39,[128,127,126,125,0]),(40,[127,126,125,9,0]),(41,[127,126,125,0]),(42,[127,126,125,0]),(43,[135,11,3,0]),(44,[135,3,0]),(45,[])] [(23,[75,74,73,0]),(31,[110,109,108,0]),(39,[127,126,125,0])]),
 (126,Zm [] [] [(149,1,true),(127,1,true),(128,1,true),(129,1,true)] [] [(0,[3,0]),(1,[3,0]),(2,[3,0]),(3,[3,0]),(4,[3,0]),(5,[3,0]),(6,[3,0]),(7,[49,3,0]),(8,[3,0]),(9,[3,0]),(10,[3,0]),(11,[66,3,0]),(12,[3,0]),(13,[72,3,0]),(14,[])] []),
 (149,Zm [] [] [(130,1,true)] [] [(0,[4,0]),(1,[])] []),
 (132,Zm [] [] [(127,1,true),(128,1,true)] [] [(0,[3,0]),(1,[3,0]),(2,[])] []),
 (127,Zm [] [] [(130,1,true)] [] [(0,[])] []),
 (128,Zm [] [] [(130,1,true)] [] [(0,[6,0]),(1,[])] []),
 (131,Zm [] [] [(127,1,true),(128,1,true)] [] [(0,[3,0]),(1,[12,3,0]),(2,[3,0]),(3,[20,3,0]),(4,[])] []),
 (129,Zm [] [] [(130,1,true)] [] [(0,[4,0]),(1,[])] []),
 (65,Zm [] [] [] [] [(0,[0]),(1,[3,0]),(2,[18,3,0]),(3,[]),(4,[2]),(5,[2])] []),
 (66,Zm [] [] [] [] [(0,[1,0]),(1,[4])] []),
 (99,Zm [] [] [] [] [(0,[1,0]),(1,[18,1,0]),(2,[1]),(3,[4]),(4,[5,1,0]),(5,[5]),(6,[4])] []),
 (64,Zm [] [] [] [] [(0,[0]),(1,[2])] []),
 (12,Zm [] [] [] [] [(0,[2,1]),(1,[3,2,1]),(2,[33,3,2,1]),(3,[3,2,1]),(4,[4,2,1]),(5,[5,4,2,1]),(6,[53,5,4,2,1]),(7,[5,4,2,1]),(8,[5,4,2,1]),(9,[71,4,2,1]),(10,[4,2]),(11,[2])] [(6,[5,4,2,1])]),
 (47,Zm [] [] [] [] [(0,[1]),(1,[3,1]),(2,[7,3,1]),(3,[3,1]),(4,[18,3,1]),(5,[3,1]),(6,[29,3,1]),(7,[3,1]),(8,[4,3,1]),(9,[45,4,3,1]),(10,[4,3,1]),(11,[4,3,1]),(12,[2])] [(9,[4,3,1])]),
 (63,Zm [] [] [] [] [(0,[1,0]),(1,[4])] []),
 (161,Zm [] [] [] [] [(0,[]),(2,[]),(7,[4])] []),
 (164,Zm [] [] [] [] [] []),
 (93,Zm [6] [] [(137,1,false)] [(111,1,false)] [(0,[2,1]),(1,[2,1]),(2,[2,1]),(3,[15,14,2,1]),(4,[16,15,14,2,1]),(5,[15,14,3,2,1]),(6,[15,14,2,1]),(7,[15,14,2,1]),(8,[2])] [(4,[15,14,2,1])]),
 (45,Zm [] [] [] [] [(0,[2,1]),(1,[4])] []),
 (16,Zm [] [] [] [] [(0,[1]),(1,[3,1]),(2,[5,3,1]),(3,[7,5,3,1]),(4,[9,7,5,3,1]),(5,[2])] []),
 (17,Zm [] [] [(56,1,false)] [] [(0,[1]),(1,[3,1]),(2,[5,3,1]),(3,[7,5,1]),(4,[39,38,37,7,5]),(5,[40,39,38,37,7,5]),(6,[39,38,37,9,7,5]),(7,[39,38,37,7,5]),(8,[39,38,37,7,5]),(9,[2])] [(5,[39,38,37,7,5])]),
 (73,Zm [] [] [(111,1,false)] [] [(0,[8,4,3,2,1]),(1,[9,8,4,3]),(2,[11,10,9,8,3]),(3,[31,10,9,8,3]),(4,[9,8]),(5,[8])] []),
 (44,Zm [] [] [(93,2,false)] [] [(0,[8,4,3,2,1]),(1,[9,8,4,3,2,1]),(2,[10,9,8,4,3,2,1]),(3,[29,10,9,8,4,3,2,1]),(4,[10,9,8,4,1]),(5,[36,10,9,8,4,1]),(6,[10,8,4]),(7,[51,50,49,10,8]),(8,[52,51,50,49,10,8]),(9,[51,50,49,12,10,8]),(10,[51,50,49,10,8]),(11,[51,50,49,10,8]),(12,[8])] [(8,[51,50,49,10,8])]),
 (21,Zm [] [] [] [] [(0,[2,0]),(1,[4,2,0]),(2,[5,4,2,0]),(3,[28,5,2]),(4,[3,2]),(5,[3,2])] []),
 (23,Zm [] [] [] [] [(0,[2,0]),(1,[4,2,0]),(2,[6,5,4,2,0]),(3,[7,6,4,2,0]),(4,[7,6,4,2,0]),(5,[8,7,4,2,0]),(6,[42,41,8,7,4,2,0]),(7,[43,42,41,8,7,4,2,0]),(8,[42,41,9,8,7,4,2,0]),(9,[42,41,9,8,7,4,2,0]),(10,[42,41,8,7,4,2,0]),(11,[42,41,8,7,4,2,0]),(12,[8,7,4,2,0]),(13,[84,7,2]),(14,[3,2]),(15,[3,2])] [(7,[42,41,8,7,4,2,0])]),
 (30,Zm [] [] [] [] [(0,[3,2]),(1,[4])] []),
 (31,Zm [] [] [] [] [(0,[3,2]),(1,[4])] []),
 (58,Zm [] [] [] [] [(0,[0]),(1,[2])] []),
 (98,Zm [] [] [] [] [(0,[0]),(1,[2])] []),
 (57,Zm [] [] [] [] [(0,[1,0]),(1,[5,0]),(2,[0]),(3,[4])] []),
 (62,Zm [] [] [] [] [(0,[1]),(1,[2])] []),
 (55,Zm [] [] [] [] [(0,[0]),(1,[6,0]),(2,[3,2]),(3,[3,2])] []),
 (108,Zm [] [] [] [] [(0,[0]),(1,[3,0]),(2,[8,7,6,3]),(3,[9,8,7,6,3]),(4,[8,7,6,5,3]),(5,[8,7,6,3]),(6,[8,7,6,3]),(7,[2])] [(3,[8,7,6,3])]),
 (106,Zm [] [] [] [] [(0,[0]),(1,[17,0]),(2,[4,3,2]),(3,[3,0]),(4,[4,3,2])] []),
 (109,Zm [] [] [] [] [(0,[0]),(1,[5,4,3]),(2,[12,5,4,3]),(3,[4,3,2]),(4,[16,5,3]),(5,[4,3,2]),(6,[4,3,2])] []),
 (135,Zm [] [] [] [] [(0,[2,0]),(1,[9,8,7,2,0]),(2,[10,9,8,7,2,0]),(3,[9,8,7,6,5,2,0]),(4,[15,9,8,7,6,5,2,0]),(5,[9,8,7,6,5,2,0]),(6,[25,9,8,7,6,5,2,0]),(7,[31,5,2]),(8,[4,3,2]),(9,[4,3,2]),(10,[9,8,7,2,0]),(11,[38]),(12,[4,3,2]),(13,[4,3,2])] [(2,[9,8,7,2,0])]),
 (97,Zm [] [] [] [] [(0,[0]),(1,[6,0]),(2,[8,7,6,0]),(3,[6,4,0]),(4,[11,6,0]),(5,[2]),(6,[2])] [(2,[6,0])]),
 (56,Zm [] [] [] [] [(0,[0]),(1,[3,0]),(2,[8,7,6,3]),(3,[9,8,7,6,3]),(4,[8,7,6,5,3]),(5,[8,7,6,3]),(6,[8,7,6,3]),(7,[2])] [(3,[8,7,6,3])]),
 (59,Zm [] [] [] [] [(0,[1,0]),(1,[12,1,0]),(2,[4]),(3,[5,1,0]),(4,[6,5,0]),(5,[18,6,5,0]),(6,[6,5,0]),(7,[6,5,0]),(8,[6,5,0]),(9,[4])] [(5,[6,5,0])]),
 (54,Zm [] [] [] [] [(0,[0]),(1,[6,0]),(2,[3,2]),(3,[3,2])] []),
 (82,Zm [] [] [] [] [(0,[0]),(1,[10,0]),(2,[3,2]),(3,[4,0]),(4,[12,4,0]),(5,[4,0]),(6,[4,0]),(7,[3,2])] [(4,[4,0])]),
 (41,Zm [] [] [] [] [(0,[3,0]),(1,[4])] []),
 (88,Zm [] [] [] [] [(0,[2,1]),(1,[3])] []),
 (34,Zm [] [] [(78,1,true)] [] [(0,[2,1]),(1,[4,2,1]),(2,[4,2,1]),(3,[5,2,1]),(4,[32,5,2,1]),(5,[5,2,1]),(6,[7,6,5,2,1]),(7,[9,7,6,5,2,1]),(8,[73,5,2]),(9,[3,2]),(10,[3,2])] []),
 (40,Zm [] [] [] [] [(0,[1]),(1,[5,4]),(2,[14,5,4]),(3,[3,2]),(4,[6,4]),(5,[3,2])] []),
 (32,Zm [] [] [] [] [(0,[]),(2,[4,3,2,1]),(3,[4,3,2]),(4,[4,3,2]),(5,[3,2])] []),
 (75,Zm [] [] [] [] [(1,[4]),(2,[]),(3,[7,5]),(4,[]),(6,[3,1,0]),(7,[])] []),
 (35,Zm [] [] [] [] [(0,[3,2]),(1,[5,3,2]),(2,[6,5,3,2]),(3,[7,6,5,3,2]),(4,[8,7,6,5,3,2]),(5,[4])] []),
 (87,Zm [] [] [] [] [(0,[0]),(1,[3]),(2,[4,3]),(3,[2]),(4,[15,3]),(5,[15,3]),(6,[2]),(7,[27,3]),(8,[27,3]),(9,[2]),(10,[33,3]),(11,[2]),(12,[45,3]),(13,[2]),(14,[55,3]),(15,[2]),(16,[66]),(17,[2]),(18,[2])] []),
 (79,Zm [] [] [] [] [(0,[0]),(1,[3]),(2,[4,3]),(3,[4,3]),(4,[4]),(5,[2]),(6,[2])] []),
 (81,Zm [] [] [] [] [(0,[1,0]),(1,[5,1]),(2,[4]),(3,[4])] []),
 (113,Zm [] [] [] [] [(0,[5,1]),(1,[])] []),
 (112,Zm [] [] [] [] [(0,[4,1,0]),(1,[10,9,8,4,0]),(2,[11,10,9,8,4,0]),(3,[10,9,8,7,4,0]),(4,[17,10,9,8,7,4,0]),(5,[5,4]),(6,[10,9,8,4,0]),(7,[5,4])] [(2,[10,9,8,4,0])]),
 (134,Zm [] [] [] [] [(0,[0]),(1,[2])] []),
 (42,Zm [] [] [] [] [(0,[1,0]),(1,[6,1,0]),(2,[16,15,14,6,1,0]),(3,[17,16,15,14,6,1,0]),(4,[16,15,14,8,6,1,0]),(5,[16,15,14,6,1,0]),(6,[16,15,14,6,1,0]),(7,[10,9,6,1,0]),(8,[32,9,6,1,0]),(9,[5,4]),(10,[6,1,0]),(11,[13,12,11,6,1]),(12,[57,6]),(13,[5,4]),(14,[5,4])] [(3,[16,15,14,6,1,0])]),
 (153,Zm [] [] [] [] [(0,[1,0]),(1,[4])] []),
 (143,Zm [] [] [] [] [(0,[1,0]),(1,[5,1,0]),(2,[10,9,8,5,1]),(3,[11,10,9,8,5,1]),(4,[10,9,8,7,5,1]),(5,[17,10,9,8,7,5,1]),(6,[10,9,8,5,1]),(7,[10,9,8,5,1]),(8,[4])] [(3,[10,9,8,5,1])]),
 (90,Zm [] [] [] [] [(0,[4,1,0]),(1,[9,8,7,4,1,0]),(2,[29,8,7,4,1,0]),(3,[6,5,4]),(4,[10,8,7,4,0]),(5,[38,10,8,7,4,0]),(6,[13,12,11,10,8,7,4,0]),(7,[48,13,12,11,10,8,7,4,0]),(8,[6,5,4]),(9,[12,10,8,7,4,0]),(10,[10,8,7,4,0]),(11,[6,5,4])] [(5,[10,8,7,4,0])]),
 (43,Zm [] [] [] [] [(0,[1,0]),(1,[4])] []),
 (92,Zm [] [] [] [] [(0,[3,2]),(1,[4])] []),
 (162,Zm [] [] [] [] [(0,[0]),(1,[3,0]),(2,[8,7,6,3]),(3,[9,8,7,6,3]),(4,[8,7,6,5,3]),(5,[8,7,6,3]),(6,[8,7,6,3]),(7,[2])] [(3,[8,7,6,3])]),
 (147,Zm [] [] [] [] [(0,[2,1]),(1,[2,1]),(2,[2])] []),
 (156,Zm [] [] [] [] [(0,[1]),(1,[4,1]),(2,[5,4,1]),(3,[5,4,1]),(4,[5,4,1]),(5,[5,1]),(6,[2]),(7,[2])] []),
 (89,Zm [] [] [] [] [(0,[1]),(1,[3,1]),(2,[6,5,3,1]),(3,[15,6,5,3,1]),(4,[16,15,6,5,3,1]),(5,[16,15,6,5,3,1]),(6,[16,15,6,5,3,1]),(7,[6,5,3]),(8,[29,15,6,5,3,1]),(9,[6,5,3]),(10,[37,15,6,5,3,1]),(11,[6,5,3]),(12,[45,15,6,5,3,1]),(13,[6,5,3]),(14,[53,6,5,3,1]),(15,[5,3,1]),(16,[6,5,3]),(17,[2])] []),
 (152,Zm [] [] [] [] [(0,[2,0]),(1,[3,2]),(2,[4,3,2]),(3,[2]),(4,[9,3,2]),(5,[2]),(6,[14,3,2]),(7,[14,3,2]),(8,[2]),(9,[20,3,2]),(10,[2]),(11,[25,3,2]),(12,[2]),(13,[30,3,2]),(14,[2]),(15,[35,3,2]),(16,[35,3,2]),(17,[2]),(18,[41,3,2]),(19,[2]),(20,[46,3,2]),(21,[2]),(22,[51,3,2]),(23,[2]),(24,[56,3,2]),(25,[56,3,2]),(26,[2]),(27,[62,3,2]),(28,[2]),(29,[67,3,2]),(30,[2]),(31,[72,3,2]),(32,[2]),(33,[77,3,2]),(34,[77,3,2]),(35,[2]),(36,[83,3,2]),(37,[2]),(38,[88,3,2]),(39,[2]),(40,[93,3,2]),(41,[93,3,2]),(42,[93,3,2]),(43,[93,3,2]),(44,[93,3,2]),(45,[2]),(46,[102,2]),(47,[2]),(48,[2])] []),
 (155,Zm [] [] [] [] [(0,[1,0]),(1,[4])] []),
 (136,Zm [] [] [] [] [(0,[6,2,1,0]),(1,[11,10,9,6,2,1,0]),(2,[28,10,9,6,2,1,0]),(3,[8,7,6]),(4,[12,10,9,7,6,2,0]),(5,[14,12,10,9,7,6,0]),(6,[45,14,10,9,7,6,0]),(7,[8,7,6]),(8,[49,10,9,7,6]),(9,[8,7,6]),(10,[58,10,9,7,6]),(11,[8,7,6]),(12,[65,6]),(13,[8,7,6]),(14,[8,7,6])] []),
 (154,Zm [] [] [] [] [(0,[5,4,1,0]),(1,[5,4,1,0]),(2,[7,5,4,1,0]),(3,[12,7,5,4,1,0]),(4,[13,12,7,5,4,1,0]),(5,[13,12,7,5,4,1,0]),(6,[13,12,7,5,4,1,0]),(7,[7,5,4,1]),(8,[24,7,5,4,1]),(9,[6,5,4]),(10,[7,5,4]),(11,[32,12,7,5,4,1]),(12,[7,5,4]),(13,[41,12,7,5,4,1]),(14,[7,5,4]),(15,[50,12,7,5,4,1]),(16,[7,5,4]),(17,[59,7,5,4,1]),(18,[7,5,4,1]),(19,[69,7,5,4,1]),(20,[5,4,1]),(21,[8,7,5,4]),(22,[7,5,4]),(23,[6,5,4])] []),
 (86,Zm [] [] [] [] [(0,[1,0]),(1,[4])] []),
 (158,Zm [] [] [] [] [(0,[1,0]),(1,[4])] []),
 (91,Zm [] [] [] [] [(0,[2,1,0]),(1,[14,2,1,0]),(2,[6]),(3,[17,16,15,2,1]),(4,[18,17,16,15,2,1]),(5,[17,16,15,8,7,2,1]),(6,[17,16,15,9,8,2,1]),(7,[30,17,16,15,2,1]),(8,[6]),(9,[17,16,15,2,1]),(10,[6])] [(4,[17,16,15,2,1])]),
 (83,Zm [] [] [] [] [(0,[1,0]),(1,[10,1,0]),(2,[4]),(3,[13,12,1,0]),(4,[14,13,12,1,0]),(5,[13,12,5,1,0]),(6,[24,13,12,1,0]),(7,[4]),(8,[13,12,1,0]),(9,[4])] [(4,[13,12,1,0])]),
 (84,Zm [] [] [] [] [(0,[1,0]),(1,[10,1,0]),(2,[4]),(3,[13,12,1,0]),(4,[14,13,12,1,0]),(5,[13,12,5,1,0]),(6,[24,13,12,1,0]),(7,[4]),(8,[13,12,1,0]),(9,[4])] [(4,[13,12,1,0])]),
 (74,Zm [] [] [] [] [(0,[1,0]),(1,[10,1,0]),(2,[4]),(3,[13,12,1,0]),(4,[14,13,12,1,0]),(5,[13,12,5,1,0]),(6,[24,13,12,1,0]),(7,[4]),(8,[13,12,1,0]),(9,[4])] [(4,[13,12,1,0])]),
 (85,Zm [] [] [] [] [(0,[1,0]),(1,[10,1,0]),(2,[4]),(3,[13,12,1,0]),(4,[14,13,12,1,0]),(5,[13,12,5,1,0]),(6,[24,13,12,1,0]),(7,[4]),(8,[13,12,1,0]),(9,[4])] [(4,[13,12,1,0])]),
 (133,Zm [] [] [] [] [(0,[1,0]),(1,[8,7,1,0]),(2,[9,8,7,1,0]),(3,[8,7,5,1,0]),(4,[16,8,7,5,1,0]),(5,[4]),(6,[8,7,1,0]),(7,[4])] [(2,[8,7,1,0])]),
 (163,Zm [] [] [] [] [(0,[1,0]),(1,[8,7,1,0]),(2,[9,8,7,1,0]),(3,[8,7,5,1,0]),(4,[16,8,7,5,1,0]),(5,[4]),(6,[8,7,1,0]),(7,[4])] [(2,[8,7,1,0])]),
 (28,Zm [] [] [] [] [(0,[1,0]),(1,[10,1,0]),(2,[4]),(3,[5,1,0]),(4,[30,0]),(5,[4]),(6,[6,0]),(7,[34,6,0]),(8,[6,0]),(9,[6,0]),(10,[4])] [(7,[6,0])]),
 (18,Zm [] [] [] [] [(0,[1,0]),(1,[8,1,0]),(2,[4]),(3,[4])] []),
 (20,Zm [] [] [] [] [(0,[0]),(1,[3,0]),(2,[3,0]),(3,[3,0]),(4,[2])] []),
 (15,Zm [] [] [] [] [(0,[1,0]),(1,[4])] []),
 (60,Zm [] [] [] [] [(0,[0]),(1,[3,0]),(2,[2])] []),
 (39,Zm [] [] [] [] [(0,[2,1,0]),(1,[7,1,0]),(2,[7,1,0]),(3,[16,7,1,0]),(4,[1,0]),(5,[6])] []),
 (37,Zm [] [] [] [] [(0,[2,1]),(1,[6,2,1]),(2,[2,1]),(3,[14,2,1]),(4,[2,1]),(5,[22,2,1]),(6,[2,1]),(7,[30,2,1]),(8,[2,1]),(9,[39,2,1]),(10,[2,1]),(11,[2,1]),(12,[2])] []),
 (5,Zm [] [] [] [] [(0,[3,2]),(1,[3,2]),(2,[6,5,3,2]),(3,[26,5,3,2]),(4,[8,7,5,3,2]),(5,[10,9,8,7,5,3,2]),(6,[66,3]),(7,[4]),(8,[70,3]),(9,[4]),(10,[3]),(11,[12,11,3]),(12,[80,12,11,3]),(13,[4]),(14,[14,13,3]),(15,[4])] []),
 (9,Zm [] [] [] [] [(0,[2,1,0]),(1,[2,1,0]),(2,[7,2,1,0]),(3,[25,7,2,1,0]),(4,[6]),(5,[33,25,7,2,1,0]),(6,[33,25,7,2,1,0]),(7,[33,25,7,2,1,0]),(8,[33,25,7,2,1,0]),(9,[7,1,0]),(10,[40,25,7,2,1,0]),(11,[40,25,7,2,1,0]),(12,[7,1,0]),(13,[49,25,7,1,0]),(14,[49,25,7,1,0]),(15,[49,7,1,0]),(16,[9,8,7,1,0]),(17,[10,9,8,7]),(18,[62,9,8,7]),(19,[6]),(20,[12,11,9,8,7]),(21,[14,13,12,9,8,7]),(22,[6])] []),
 (7,Zm [] [] [] [] [(0,[2,1]),(1,[2,1]),(2,[6,5,2,1]),(3,[18,5,2,1]),(4,[4]),(5,[8,7,2]),(6,[35,8,7,2]),(7,[36,35,8,7,2]),(8,[36,35,8,7,2]),(9,[36,35,8,7,2]),(10,[36,35,8,7,2]),(11,[4]),(12,[52,8,7,2]),(13,[4]),(14,[4])] []),
 (8,Zm [] [] [] [] [(0,[3,2]),(1,[3,2]),(2,[6,5,3,2]),(3,[8,7,6,5,3,2]),(4,[30,7,5,3,2]),(5,[4]),(6,[4])] []),
 (10,Zm [] [] [] [] [(0,[1,0]),(1,[14,1,0]),(2,[1,0]),(3,[1,0]),(4,[6,5,1,0]),(5,[8,7,6,5,1,0]),(6,[33,8,7,5,1,0]),(7,[4]),(8,[9,8,7,1,0]),(9,[11,10,9,8,7,1,0]),(10,[4])] []),
 (6,Zm [] [] [] [] [(0,[2,1]),(1,[6,5,2,1]),(2,[23,5,2,1]),(3,[4]),(4,[5,2,1]),(5,[8,7,2]),(6,[44,7,2]),(7,[4]),(8,[52,7,2]),(9,[53,52,7,2]),(10,[53,52,7,2]),(11,[53,52,7,2]),(12,[53,52,7,2]),(13,[53,52,7,2]),(14,[53,52,7,2]),(15,[53,52,7,2]),(16,[53,52,7,2]),(17,[53,52,7,2]),(18,[53,52,7,2]),(19,[53,7,2]),(20,[4]),(21,[4])] []),
 (33,Zm [] [] [] [] [(0,[0]),(1,[2])] []),
 (38,Zm [] [] [] [] [(0,[]),(1,[2,1]),(2,[4,3,2,1]),(3,[0])] []),
 (4,Zm [] [] [] [] [(0,[1]),(1,[3]),(2,[5,4,3]),(3,[7,6,5,4,3]),(4,[2])] []),
 (3,Zm [] [] [] [] [(0,[4,3,2,1]),(1,[9,3,2,1]),(2,[10,9,3,2,1]),(3,[12,10,9,3,2,1]),(4,[50,12,10,3,2,1]),(5,[8]),(6,[12,10,3,2,1]),(7,[14]),(8,[15,14]),(9,[68,15,14]),(10,[15,14]),(11,[16,15,14]),(12,[18,17,16,15,14]),(13,[20,19,18,17,16,15,14]),(14,[22,21,20,19,18,17,16,15,14]),(15,[24,23,22,21,20,19,18,17,16,15,14]),(16,[144,15,14]),(17,[8]),(18,[8])] [(9,[15,14])]),
 (11,Zm [] [] [] [] [(0,[3,2,1]),(1,[7,2,1]),(2,[7,2,1]),(3,[8,7,2]),(4,[9,8,7]),(5,[11,10,9,8,7]),(6,[50,9,8,7]),(7,[6]),(8,[12,9,8,7]),(9,[13,12,9,8,7]),(10,[55,13,12,9,8,7]),(11,[13,12,9,8,7]),(12,[64,13,12,9,8,7]),(13,[13,12,9,8,7]),(14,[71,12,8,7]),(15,[6]),(16,[88,12,8,7]),(17,[6]),(18,[6])] [(10,[13,12,9,8,7])]),
 (25,Zm [] [] [] [] [(0,[0]),(1,[2])] []),
 (46,Zm [] [] [] [] [(0,[0]),(1,[3,0]),(2,[4,3,0]),(3,[12,4,3,0]),(4,[4,3,0]),(5,[4,3,0]),(6,[2])] [(3,[4,3,0])]),
 (19,Zm [] [] [(60,1,false)] [] [(0,[2,1,0]),(1,[7,2,1]),(2,[12,7,2,1]),(3,[6]),(4,[7,2,1]),(5,[20,7,2,1]),(6,[6]),(7,[7]),(8,[6])] []),
 (29,Zm [3] [] [] [] [(0,[]),(1,[1]),(2,[2,1]),(3,[0])] []),
 (49,Zm [] [] [(53,1,false)] [] [(0,[0]),(1,[6,0]),(2,[3,2]),(3,[3,2])] []),
 (100,Zm [] [] [] [] [(0,[0]),(1,[3,0]),(2,[4,3,0]),(3,[8,4,3,0]),(4,[4,3,0]),(5,[4,3,0]),(6,[2])] [(3,[4,3,0])]),
 (146,Zm [] [] [] [] [(0,[0]),(1,[8,0]),(2,[4,3,2]),(3,[5,0]),(4,[17,5,0]),(5,[4,3,2]),(6,[4,3,2])] []),
 (145,Zm [] [] [] [] [(0,[0]),(1,[7,6,5]),(2,[15,7,6,5]),(3,[4,3,2]),(4,[20,6,5]),(5,[4,3,2]),(6,[4,3,2])] []),
 (101,Zm [] [] [] [] [(0,[0]),(1,[6,5,0]),(2,[7,6,5,0]),(3,[9,7,6,5,0]),(4,[7,6,5,0]),(5,[15,7,6,5,0]),(6,[4,3,2]),(7,[7,6,5,0]),(8,[7,6,5,0]),(9,[32,7,6,5,0]),(10,[41,7,5]),(11,[4,3,2]),(12,[4,3,2]),(13,[4,3,2])] [(3,[7,6,5,0])]),
 (94,Zm [] [] [] [] [(0,[0]),(1,[6,0]),(2,[4,3,0]),(3,[17,4,0]),(4,[2]),(5,[0]),(6,[2])] [(1,[0])]),
 (53,Zm [] [] [] [] [(0,[1,0]),(1,[12,1,0]),(2,[4]),(3,[5,1,0]),(4,[6,5,0]),(5,[18,6,5,0]),(6,[6,5,0]),(7,[6,5,0]),(8,[6,5,0]),(9,[4])] [(5,[6,5,0])]),
 (48,Zm [] [] [(49,1,false)] [] [(0,[0]),(1,[6,0]),(2,[3,2]),(3,[3,2])] []),
 (140,Zm [] [] [] [] [(0,[0]),(1,[10,0]),(2,[3,2]),(3,[4,0]),(4,[12,4,0]),(5,[4,0]),(6,[4,0]),(7,[3,2])] [(4,[4,0])]),
 (138,Zm [] [] [] [] [(0,[0]),(1,[4,0]),(2,[4,0]),(3,[3,2]),(4,[11,4,0]),(5,[3,2]),(6,[15,4,0]),(7,[6,5,4,0]),(8,[24,4,0]),(9,[6,5,4,0]),(10,[33,4,0]),(11,[6,5,4,0]),(12,[45,6,5,4,0]),(13,[3,2]),(14,[7,6,5,4,0]),(15,[48,7,6,5,4,0]),(16,[7,6,5,4,0]),(17,[60,7,6,5,4,0]),(18,[3,2]),(19,[7,6,5,4,0]),(20,[83,5,4]),(21,[3,2]),(22,[3,2])] [(15,[7,6,5,4,0])]),
 (110,Zm [] [] [] [] [(0,[3,2]),(1,[4])] []),
 (95,Zm [] [] [] [] [(0,[0]),(1,[4,0]),(2,[5,4,0]),(3,[14,5,4,0]),(4,[5,4,0]),(5,[6,5,4,0]),(6,[28,6,5,4,0]),(7,[3,2]),(8,[6,5,4,0]),(9,[8,7,5,4,0]),(10,[41,7,5,4,0]),(11,[3,2]),(12,[5,4,0]),(13,[10,9,4]),(14,[3,2])] [(3,[5,4,0])]),
 (104,Zm [] [] [] [] [(0,[4,1,0]),(1,[6,4,1,0]),(2,[10,6,4,1,0]),(3,[6,4,1,0]),(4,[19,6,4,1,0]),(5,[5,4]),(6,[5,4])] [(2,[6,4,1,0])]),
 (144,Zm [] [] [] [] [(0,[0]),(1,[3]),(2,[4,3]),(3,[4,3]),(4,[4,3]),(5,[4,3]),(6,[4,3]),(7,[4,3]),(8,[4,3]),(9,[4,3]),(10,[2]),(11,[13,3]),(12,[13,3]),(13,[13,3]),(14,[13,3]),(15,[2]),(16,[18,3]),(17,[18,3]),(18,[18,3]),(19,[18,3]),(20,[2]),(21,[23,3]),(22,[2]),(23,[25,3]),(24,[25,3]),(25,[25,3]),(26,[25,3]),(27,[25,3]),(28,[25,3]),(29,[25,3]),(30,[2]),(31,[33,3]),(32,[33,3]),(33,[2]),(34,[36]),(35,[2]),(36,[2])] []),
 (50,Zm [] [] [] [] [(0,[1,0]),(1,[7,6,1,0]),(2,[17,6,1,0]),(3,[5,4]),(4,[10,9,8,6,1]),(5,[38,6]),(6,[5,4]),(7,[5,4])] []),
 (102,Zm [] [] [] [] [(0,[1,0]),(1,[5,1]),(2,[6,5,1]),(3,[6,5,1]),(4,[6,5,1]),(5,[6,5,1]),(6,[6,5,1]),(7,[4]),(8,[15,5,1]),(9,[4]),(10,[20,5,1]),(11,[4]),(12,[25,5,1]),(13,[25,5,1]),(14,[25,5,1]),(15,[25,5,1]),(16,[25,5,1]),(17,[25,5,1]),(18,[25,5,1]),(19,[25,5,1]),(20,[4]),(21,[36,5,1]),(22,[36,5,1]),(23,[4]),(24,[42,5,1]),(25,[42,5,1]),(26,[4]),(27,[47,5,1]),(28,[4]),(29,[51,5,1]),(30,[4]),(31,[56,5,1]),(32,[4]),(33,[61,5,1]),(34,[61,5,1]),(35,[61,5,1]),(36,[4]),(37,[68,5,1]),(38,[4]),(39,[72,1]),(40,[4]),(41,[4])] []),
 (96,Zm [] [] [] [] [(0,[1,0]),(1,[5,1,0]),(2,[6,5,1,0]),(3,[10,6,5,1,0]),(4,[6,5,1,0]),(5,[19,6,5,1,0]),(6,[6,5,1,0]),(7,[4])] [(3,[6,5,1,0])]),
 (67,Zm [] [] [] [] [(0,[1,0]),(1,[9,8,7,1,0]),(2,[36,8,7,1,0]),(3,[6,5,4]),(4,[10,8,7,0]),(5,[11,10,8,7,0]),(6,[45,11,10,8,7,0]),(7,[14,13,12,11,10,8,7,0]),(8,[59,13,12,11,10,8,7,0]),(9,[6,5,4]),(10,[17,16,15,13,12,11,10,8,7,0]),(11,[70,16,15,13,12,11,10,8,7,0]),(12,[6,5,4]),(13,[19,16,15,13,12,11,10,8,7,0]),(14,[90,16,15,13,12,11,10,8,7,0]),(15,[6,5,4]),(16,[20,16,15,13,11,10,8,7,0]),(17,[96,20,16,15,13,11,10,8,7,0]),(18,[6,5,4]),(19,[16,13,11,10,8,7,0]),(20,[11,10,8,7,0]),(21,[6,5,4])] [(6,[11,10,8,7,0])]),
 (72,Zm [] [] [] [] [(0,[1,0]),(1,[10,1,0]),(2,[4]),(3,[5,1,0]),(4,[14,5,1,0]),(5,[5,1,0]),(6,[26,5,1,0]),(7,[4]),(8,[4])] [(4,[5,1,0])]),
 (141,Zm [] [] [] [] [(0,[1,0]),(1,[5,1,0]),(2,[9,5,1,0]),(3,[5,1,0]),(4,[17,5,1,0]),(5,[4]),(6,[4])] [(2,[5,1,0])]),
 (139,Zm [] [] [(48,1,false)] [] [(0,[1]),(1,[16,1]),(2,[17,16,1]),(3,[3,2]),(4,[31,16,1]),(5,[3,2]),(6,[45,16,1]),(7,[3,2]),(8,[59,16,1]),(9,[5,4]),(10,[3,2]),(11,[70,16,1]),(12,[7,6]),(13,[3,2]),(14,[81,16,1]),(15,[9,8]),(16,[3,2]),(17,[92,1]),(18,[11,10,1]),(19,[13,12,11,10]),(20,[3,2]),(21,[3,2])] []),
 (105,Zm [] [] [] [] [(0,[1,0]),(1,[5,1]),(2,[6,5,1]),(3,[6,5,1]),(4,[6,5,1]),(5,[6,5,1]),(6,[6,5,1]),(7,[6,5,1]),(8,[6,5,1]),(9,[6,5,1]),(10,[16]),(11,[4]),(12,[17,5,1]),(13,[17,5,1]),(14,[17,5,1]),(15,[22]),(16,[4]),(17,[23,1]),(18,[26]),(19,[4]),(20,[4])] []),
 (103,Zm [] [] [] [] [(0,[4,1,0]),(1,[7,4,1,0]),(2,[8,7,4,1,0]),(3,[26,8,7,4,1]),(4,[27,26,8,7,4,1]),(5,[8,7,4,1]),(6,[29,26,8,7,4,1]),(7,[8,7,4,1]),(8,[31,26,8,7,4,1]),(9,[8,7,4,1]),(10,[33,26,8,7,4,1]),(11,[11,10,9,7,4]),(12,[11,10,7,4]),(13,[6,5,4]),(14,[47,26,8,7,4,1]),(15,[14,13,12,7,4]),(16,[14,13,7,4]),(17,[6,5,4]),(18,[61,26,8,7,4,1]),(19,[17,16,15,7,4]),(20,[17,16,7,4]),(21,[6,5,4]),(22,[77,8,7,4,1]),(23,[20,19,18,7,4,1]),(24,[86,19,18,7,4,1]),(25,[6,5,4]),(26,[22,21,20,19,18,7,4]),(27,[22,20,19,7,4]),(28,[6,5,4]),(29,[109,8,7,4,1]),(30,[6,5,4]),(31,[8,7,4]),(32,[6,5,4])] []),
 (36,Zm [] [] [] [] [(0,[3,2]),(1,[112,3,2]),(2,[4]),(3,[163,3,2]),(4,[4]),(5,[5,3,2]),(6,[168,5,3,2]),(7,[5,3,2]),(8,[181,5,3,2]),(9,[4]),(10,[6,3,2]),(11,[186,6,3,2]),(12,[6,3,2]),(13,[199,6,3,2]),(14,[4]),(15,[7,3,2]),(16,[204,7,3,2]),(17,[7,3,2]),(18,[217,7,3,2]),(19,[4]),(20,[9,8]),(21,[4])] [(6,[5,3,2]),(11,[6,3,2]),(16,[7,3,2])]),
 (51,Zm [] [] [] [] [(0,[0]),(1,[2])] []),
 (13,Zm [] [] [] [] [(0,[1]),(1,[5,4,1]),(2,[7,6,5,4,1]),(3,[9,8,7,6,5,4,1]),(4,[11,10,9,8,7,6,5,4,1]),(5,[12,10,8,6,4,1]),(6,[12,10,8,6,4,1]),(7,[13,12,10,8,1]),(8,[13,12,10,1]),(9,[13,12,10,1]),(10,[3,2])] []),
 (14,Zm [] [] [] [] [(0,[1]),(1,[5,4,1]),(2,[7,6,5,1]),(3,[9,8,7,6,5,1]),(4,[8,6,5,1]),(5,[10,8,5,1]),(6,[11,10,8,5,1]),(7,[72,11,10,8,5,1]),(8,[11,10,8,5,1]),(9,[11,10,8,5,1]),(10,[11,10,8,5,1]),(11,[3,2])] [(7,[11,10,8,5,1])]),
 (22,Zm [] [] [] [] [(0,[2,0]),(1,[4,2,0]),(2,[5,4,2,0]),(3,[6,5,4,2,0]),(4,[5,4,2,0]),(5,[5,4,2,0]),(6,[5,4,2,0]),(7,[48,5,4,2,0]),(8,[9,8,7,5,4,2,0]),(9,[7,5,4,2,0]),(10,[5,4,2,0]),(11,[11,10,5,4,2,0]),(12,[93,5,2]),(13,[3,2]),(14,[3,2])] []),
 (24,Zm [] [] [] [] [(0,[2,0]),(1,[4,2,0]),(2,[6,5,4,2,0]),(3,[7,6,4,2,0]),(4,[8,7,6,4,2,0]),(5,[7,6,4,2,0]),(6,[9,7,6,4,2,0]),(7,[10,9,7,6,4,2,0]),(8,[44,10,9,7,6,4,2,0]),(9,[10,9,7,6,4,2,0]),(10,[10,9,7,6,4,2,0]),(11,[7,6,4,2,0]),(12,[12,11,7,6,4,2,0]),(13,[80,7,2]),(14,[3,2]),(15,[3,2])] [(8,[10,9,7,6,4,2,0])]),
 (26,Zm [] [] [] [] [(0,[3,2]),(1,[4])] []),
 (27,Zm [] [] [] [] [(0,[3,2]),(1,[41,3,2]),(2,[4]),(3,[5,3,2]),(4,[46,5,3,2]),(5,[5,3,2]),(6,[59,5,3,2]),(7,[4]),(8,[4])] [(4,[5,3,2])]),
 (52,Zm [] [] [] [] [(0,[1,0]),(1,[5,0]),(2,[4]),(3,[4])] []),
 (1000000,{})]
def ann:Nat→Ann:=ZeH {} Zyh
def ZGp:List (Nat×Bool):=[
 (28,true),
 (1000000,false)]
def BY:Nat→Bool:=ZeH false ZGp
noncomputable def CF:Nat→Option ZI:=Zin Tryd.prog ann
noncomputable def FC:Nat→Option ZI:=fun f=>(CF f).map ZkV
def Zuf:List (Nat×Option (List AVal→Za→Option (AVal×Za))):=[
 (111,some (ZgW 1 1)),
 (137,some (ZgW 5 72)),
 (142,some (Zpk)),
 (32,some (ZiA)),
 (130,some (ZiA)),
 (1000000,none)]
def PR:Zco:=ZeH none Zuf
def oI (d:Nat) (i:Ins):AOp:=⟨some d,i,none,[]⟩
def oN (i:Ins):AOp:=⟨none,i,none,[]⟩
theorem xw (c d:Zf) (h:c=d) (m:Nat) (tm:Tms) (σ:Za):evC FC PR BY m c tm σ=evC FC PR BY m d tm σ:=by rw [h]
noncomputable abbrev E:ZR:=EV FC PR BY
theorem Zh {f:Nat} {fn:ZI} (hp:PR f=none) (hf:FC f=some fn) (args:List AVal) (σ:Za):E f args σ=Zap σ.length fn (evC FC PR BY σ.length fn.body (enterA 0 args []) σ):=Zr4 hp hf args σ
end Go.Proofs.YtmlkhhidifjjfaaDoor
namespace Go.Proofs.YtmlkhhidifjjfaaDoor
def ZkZ:Zf:=(.seq (.region [oI 2 (.mov (.c (.lst true []))),oI 3 (.mov (.c (.int .i64 0)))] none [0]) (.seq (.seq (.region [oI 4 (.mov (.t 0)),oI 5 (.len (.t 4)),oI 6 (.bin .gtr (.t 5) (.c (.int .i64 65535)))] none [6,0]) (.cond (.t 6) (.seq (.region [oI 2 (.mov (.c (.lst true []))),oI 3 (.mov (.c (.int .i64 10)))] none [3,2]) .ret) .skip)) (.seq (.region [oI 7 (.mov (.t 0)),oI 8 (.len (.t 7)),oI 9 (.i2i .u64 (.t 8)),oI 10 (.call 59 0 true [(.t 9),(.c (.int .i64 2))]),oI 11 (.mov (.t 0)),oI 12 (.bslice false 1 2 (.lst true []) [(0,(.t 10)),(1,(.t 11))]),oI 13 (.call 56 0 true [(.t 12)]),oI 2 (.mov (.t 13)),oI 3 (.mov (.c (.int .i64 0)))] none [3,2]) .ret)))
def Zo5:ZI:=⟨[(.tmp 2),(.tmp 3)],ZkZ⟩
theorem Zsw:FC 55=some Zo5:=by kernel_rfl
theorem Zuk:Zo5.body=ZkZ:=rfl
theorem ZqZ:Zo5.res=[(.tmp 2),(.tmp 3)]:=rfl
def Zmi:Zf:=(.seq (.region [oI 18 (.mov (.t 3)),oI 2 (.mov (.t 18))] none [2]) .ret)
def ZnP:Zf:=Zmi
def ZBq:=xw ZnP Zmi rfl
def Zks:Zf:=(.seq (.region [oI 9 (.bin .lss (.t 8) (.t 7))] none [9,8,7,6,3]) (.seq (.cond (.t 9) .skip (.exit 0)) (.seq (.block 1 (.seq (.region [oI 10 (.iaddr 1 (.t 6) (.t 8)),oI 11 (.ld none (.t 10)),oI 5 (.mov (.t 11))] none [8,7,6,5,3]) (.region [oI 12 (.mov (.t 3)),oI 13 (.bin .shl (.t 12) (.c (.int .u64 8))),oI 14 (.mov (.t 5)),oI 15 (.i2i .u64 (.t 14)),oI 16 (.bin .or (.t 13) (.t 15)),oI 3 (.mov (.t 16))] none [8,7,6,3]))) (.region [oI 17 (.bin .add (.t 8) (.c (.int .i64 1))),oI 8 (.mov (.t 17))] none [8,7,6,3]))))
def ZmT:Zf:=Zks
def ZqH:=xw ZmT Zks rfl
def Zoc:Zf:=(.seq (.region [oI 2 (.mov (.c (.int .u64 0)))] none [0]) (.seq (.region [oI 3 (.mov (.c (.int .u64 0)))] none [3,0]) (.seq (.seq (.region [oI 6 (.mov (.t 0)),oI 7 (.len (.t 6)),oI 8 (.mov (.c (.int .i64 0)))] none [8,7,6,3]) (.block 0 (.loop [8,7,6,3] ZmT))) ZnP)))
def ZjI:ZI:=⟨[(.tmp 2)],Zoc⟩
theorem ZIz:FC 108=some ZjI:=by kernel_rfl
theorem ZHY:ZjI.body=Zoc:=rfl
theorem ZBM:ZjI.res=[(.tmp 2)]:=rfl
noncomputable def Zjx (m:Nat) (tm:Tms) (σ:Za):Option (AVal×Za):=(Zap m ZjI (ZbQ FC PR BY m ZnP (Option.map (ZaX 0) (evL FC PR BY m [8,7,6,3] ZmT tm σ))))
def Zit:Zf:=(.seq (.region [oI 2 (.mov (.c (.lst true []))),oI 3 (.mov (.c (.int .i64 0))),oI 4 (.mov (.c (.int .i64 0)))] none [0]) (.seq (.seq (.region [oI 5 (.mov (.t 0)),oI 6 (.len (.t 5)),oI 7 (.bin .lss (.t 6) (.c (.int .i64 2))),oI 8 (.mov (.t 7)),⟨(some 9),(.mov (.t 0)),(some (8,false)),[]⟩,⟨(some 10),(.len (.t 9)),(some (8,false)),[]⟩,⟨(some 11),(.bin .sub (.t 10) (.c (.int .i64 2))),(some (8,false)),[]⟩,⟨(some 12),(.mov (.t 0)),(some (8,false)),[]⟩,⟨(some 13),(.slice 1 (.t 12) none (some (.c (.int .i64 2))) none),(some (8,false)),[]⟩,⟨(some 14),(.call 108 0 true [(.t 13)]),(some (8,false)),[]⟩,⟨(some 15),(.i2i .i64 (.t 14)),(some (8,false)),[]⟩,⟨(some 16),(.bin .lss (.t 11) (.t 15)),(some (8,false)),[]⟩,oI 17 (.pick (.t 8) (.c (.bool true)) (.t 16))] none [17,0]) (.cond (.t 17) (.seq (.region [oI 2 (.mov (.c (.lst true []))),oI 3 (.mov (.c (.int .i64 0))),oI 4 (.mov (.c (.int .i64 11)))] none [4,3,2]) .ret) .skip)) (.seq (.region [oI 18 (.mov (.t 0)),oI 19 (.slice 1 (.t 18) none (some (.c (.int .i64 2))) none),oI 20 (.call 108 0 true [(.t 19)]),oI 21 (.i2i .i64 (.t 20)),oI 22 (.bin .add (.c (.int .i64 2)) (.t 21)),oI 3 (.mov (.t 22))] none [3,0]) (.seq (.region [oI 23 (.mov (.t 0)),oI 24 (.mov (.t 3)),oI 25 (.slice 1 (.t 23) (some (.c (.int .i64 2))) (some (.t 24)) none),oI 26 (.bslice false 1 1 (.lst true []) [(0,(.t 25))]),oI 27 (.call 56 0 true [(.t 26)]),oI 28 (.mov (.t 3)),oI 2 (.mov (.t 27)),oI 3 (.mov (.t 28)),oI 4 (.mov (.c (.int .i64 0)))] none [4,3,2]) .ret))))
def ZmN:ZI:=⟨[(.tmp 2),(.tmp 3),(.tmp 4)],Zit⟩
theorem Zmu:FC 106=some ZmN:=by kernel_rfl
theorem ZpY:ZmN.body=Zit:=rfl
theorem Zpl:ZmN.res=[(.tmp 2),(.tmp 3),(.tmp 4)]:=rfl
def Zix:Zf:=(.seq (.region [oI 2 (.mov (.c (.str []))),oI 3 (.mov (.c (.int .i64 0))),oI 4 (.mov (.c (.int .i64 0)))] none [0]) (.seq (.region [oI 7 (.mov (.t 0)),oI 8 (.call 106 0 true [(.t 7)]),oI 6 (.mov (.t 8)),oI 9 (.ext (.t 6) 0),oI 10 (.ext (.t 6) 1),oI 11 (.ext (.t 6) 2),oI 5 (.mov (.t 9)),oI 3 (.mov (.t 10)),oI 4 (.mov (.t 11))] none [5,4,3]) (.seq (.block 0 (.seq (.region [oI 13 (.mov (.t 4)),oI 14 (.bin .neq (.t 13) (.c (.int .i64 0))),oI 12 (.mov (.t 14))] none [12,5,4,3]) (.cond (.t 12) (.seq (.region [oI 15 (.mov (.t 4)),oI 2 (.mov (.c (.str []))),oI 3 (.mov (.c (.int .i64 0))),oI 4 (.mov (.t 15))] none [4,3,2]) .ret) (.seq (.region [oI 17 (.mov (.t 5)),oI 18 (.b2s (.t 17)),oI 19 (.call 97 0 true [(.t 18)]),oI 20 (.un .not (.t 19)),oI 16 (.mov (.t 20))] none [16,5,3]) (.cond (.t 16) (.seq (.region [oI 2 (.mov (.c (.str []))),oI 3 (.mov (.c (.int .i64 0))),oI 4 (.mov (.c (.int .i64 13)))] none [4,3,2]) .ret) .skip))))) (.seq (.region [oI 21 (.mov (.t 5)),oI 22 (.b2s (.t 21)),oI 23 (.mov (.t 3)),oI 2 (.mov (.t 22)),oI 3 (.mov (.t 23)),oI 4 (.mov (.c (.int .i64 0)))] none [4,3,2]) .ret))))
def Zmg:ZI:=⟨[(.tmp 2),(.tmp 3),(.tmp 4)],Zix⟩
theorem ZqP:FC 109=some Zmg:=by kernel_rfl
theorem Zpo:Zmg.body=Zix:=rfl
theorem Zom:Zmg.res=[(.tmp 2),(.tmp 3),(.tmp 4)]:=rfl
def ZiB:Zf:=(.seq (.seq (.region [oI 36 (.mov (.t 0)),oI 37 (.len (.t 36)),oI 38 (.bin .lss (.t 37) (.c (.int .i64 4)))] none [38]) (.cond (.t 38) (.seq (.region [oI 2 (.mov (.c (.int .i64 0))),oI 3 (.mov (.c (.int .i64 0))),oI 4 (.mov (.c (.int .i64 11)))] none [4,3,2]) .ret) .skip)) (.seq (.region [oI 2 (.mov (.c (.int .i64 0))),oI 3 (.mov (.c (.int .i64 0))),oI 4 (.mov (.c (.int .i64 12)))] none [4,3,2]) .ret))
def ZoL:Zf:=ZiB
def Zp6:=xw ZoL ZiB rfl
def ZeQ:Zf:=(.seq (.region [oI 10 (.bin .lss (.t 9) (.t 8))] none [10,9,8,7,2,0]) (.seq (.cond (.t 10) .skip (.exit 0)) (.seq (.block 1 (.seq (.region [oI 11 (.mov (.t 9)),oI 12 (.iaddr 1 (.t 7) (.t 9)),oI 13 (.ld none (.t 12)),oI 5 (.mov (.t 11)),oI 6 (.mov (.t 13))] none [9,8,7,6,5,2,0]) (.seq (.seq (.region [oI 14 (.mov (.t 5)),oI 15 (.bin .eql (.t 14) (.c (.int .i64 4)))] none [15,9,8,7,6,5,2,0]) (.cond (.t 15) (.exit 0) .skip)) (.seq (.region [oI 16 (.mov (.t 2)),oI 17 (.mov (.t 6)),oI 18 (.bin .and (.t 17) (.c (.int .u8 127))),oI 19 (.i2i .i64 (.t 18)),oI 20 (.mov (.t 5)),oI 21 (.bin .mul (.c (.int .i64 7)) (.t 20)),oI 22 (.bin .shl (.t 19) (.t 21)),oI 23 (.bin .or (.t 16) (.t 22)),oI 2 (.mov (.t 23))] none [9,8,7,6,5,2,0]) (.seq (.region [oI 24 (.mov (.t 6)),oI 25 (.bin .lss (.t 24) (.c (.int .u8 128)))] none [25,9,8,7,6,5,2,0]) (.cond (.t 25) (.seq (.seq (.region [oI 26 (.mov (.t 6)),oI 27 (.bin .eql (.t 26) (.c (.int .u8 0))),oI 28 (.mov (.t 27)),⟨(some 29),(.mov (.t 5)),(some (28,true)),[]⟩,⟨(some 30),(.bin .gtr (.t 29) (.c (.int .i64 0))),(some (28,true)),[]⟩,oI 31 (.pick (.t 28) (.t 30) (.c (.bool false)))] none [31,5,2]) (.cond (.t 31) (.seq (.region [oI 2 (.mov (.c (.int .i64 0))),oI 3 (.mov (.c (.int .i64 0))),oI 4 (.mov (.c (.int .i64 12)))] none [4,3,2]) .ret) .skip)) (.seq (.region [oI 32 (.mov (.t 2)),oI 33 (.mov (.t 5)),oI 34 (.bin .add (.t 33) (.c (.int .i64 1))),oI 2 (.mov (.t 32)),oI 3 (.mov (.t 34)),oI 4 (.mov (.c (.int .i64 0)))] none [4,3,2]) .ret)) .skip)))))) (.region [oI 35 (.bin .add (.t 9) (.c (.int .i64 1))),oI 9 (.mov (.t 35))] none [9,8,7,2,0]))))
def Zo8:Zf:=ZeQ
def Zgk:=xw Zo8 ZeQ rfl
def Zng:Zf:=(.seq (.region [oI 2 (.mov (.c (.int .i64 0))),oI 3 (.mov (.c (.int .i64 0))),oI 4 (.mov (.c (.int .i64 0)))] none [2,0]) (.seq (.seq (.region [oI 7 (.mov (.t 0)),oI 8 (.len (.t 7)),oI 9 (.mov (.c (.int .i64 0)))] none [9,8,7,2,0]) (.block 0 (.loop [9,8,7,2,0] Zo8))) ZoL))
def ZjB:ZI:=⟨[(.tmp 2),(.tmp 3),(.tmp 4)],Zng⟩
theorem ZC4:FC 135=some ZjB:=by kernel_rfl
theorem ZAp:ZjB.body=Zng:=rfl
theorem Zg1:ZjB.res=[(.tmp 2),(.tmp 3),(.tmp 4)]:=rfl
noncomputable def ZgX (m:Nat) (tm:Tms) (σ:Za):Option (AVal×Za):=(Zap m ZjB (ZbQ FC PR BY m ZoL (Option.map (ZaX 0) (evL FC PR BY m [9,8,7,2,0] Zo8 tm σ))))
def ZpI:Zf:=(.seq (.region [oI 12 (.mov (.t 0)),oI 13 (.call 142 0 true [(.t 12)]),oI 2 (.mov (.t 13))] none [2]) .ret)
def Zpq:Zf:=ZpI
def ZIV:=xw Zpq ZpI rfl
def ZiY:Zf:=(.seq (.region [oI 7 (.nxt (.t 6)),oI 8 (.ext (.t 7) 0)] none [8,7,6,0]) (.seq (.cond (.t 8) .skip (.exit 0)) (.block 1 (.seq (.region [oI 9 (.ext (.t 7) 2),oI 4 (.mov (.t 9))] none [6,4,0]) (.seq (.region [oI 10 (.mov (.t 4)),oI 11 (.bin .eql (.t 10) (.c (.int .i32 0)))] none [11,6,0]) (.cond (.t 11) (.seq (.region [oI 2 (.mov (.c (.bool false)))] none [2]) .ret) .skip))))))
def Zp1:Zf:=ZiY
def Zmj:=xw Zp1 ZiY rfl
def ZnG:Zf:=(.seq (.region [oI 2 (.mov (.c (.bool false)))] none [0]) (.seq (.seq (.region [oI 5 (.mov (.t 0)),oI 6 (.rng (.t 5))] none [6,0]) (.block 0 (.loop [6,0] Zp1))) Zpq))
def Zkh:ZI:=⟨[(.tmp 2)],ZnG⟩
theorem Zyl:FC 97=some Zkh:=by kernel_rfl
theorem Zxt:Zkh.body=ZnG:=rfl
theorem Zs5:Zkh.res=[(.tmp 2)]:=rfl
noncomputable def Zj5 (m:Nat) (tm:Tms) (σ:Za):Option (AVal×Za):=(Zap m Zkh (ZbQ FC PR BY m Zpq (Option.map (ZaX 0) (evL FC PR BY m [6,0] Zp1 tm σ))))
def ZnI:Zf:=(.seq (.region [oI 16 (.mov (.t 3)),oI 2 (.mov (.t 16))] none [2]) .ret)
def Zor:Zf:=ZnI
def ZJz:=xw Zor ZnI rfl
def Zif:Zf:=(.seq (.region [oI 9 (.bin .lss (.t 8) (.t 7))] none [9,8,7,6,3]) (.seq (.cond (.t 9) .skip (.exit 0)) (.seq (.block 1 (.seq (.region [oI 10 (.iaddr 1 (.t 6) (.t 8)),oI 11 (.ld none (.t 10)),oI 5 (.mov (.t 11))] none [8,7,6,5,3]) (.region [oI 12 (.mov (.t 3)),oI 13 (.mov (.t 5)),oI 14 (.app 1 1 (.int .u8 0) (.t 12) (.t 13)),oI 3 (.mov (.t 14))] none [8,7,6,3]))) (.region [oI 15 (.bin .add (.t 8) (.c (.int .i64 1))),oI 8 (.mov (.t 15))] none [8,7,6,3]))))
def Zno:Zf:=Zif
def Zn0:=xw Zno Zif rfl
def ZpC:Zf:=(.seq (.region [oI 2 (.mov (.c (.lst true [])))] none [0]) (.seq (.region [oI 3 (.mov (.c (.lst true [])))] none [3,0]) (.seq (.seq (.region [oI 6 (.mov (.t 0)),oI 7 (.len (.t 6)),oI 8 (.mov (.c (.int .i64 0)))] none [8,7,6,3]) (.block 0 (.loop [8,7,6,3] Zno))) Zor)))
def Zj1:ZI:=⟨[(.tmp 2)],ZpC⟩
theorem ZIC:FC 56=some Zj1:=by kernel_rfl
theorem ZDh:Zj1.body=ZpC:=rfl
theorem ZFE:Zj1.res=[(.tmp 2)]:=rfl
noncomputable def ZkI (m:Nat) (tm:Tms) (σ:Za):Option (AVal×Za):=(Zap m Zj1 (ZbQ FC PR BY m Zor (Option.map (ZaX 0) (evL FC PR BY m [8,7,6,3] Zno tm σ))))
def ZnJ:Zf:=(.seq (.region [oI 28 (.mov (.t 5)),oI 4 (.mov (.t 28))] none [4]) .ret)
def ZpR:Zf:=ZnJ
def ZxF:=xw ZpR ZnJ rfl
def ZlF:Zf:=(.seq (.seq (.region [oI 17 (.mov (.t 6)),oI 18 (.bin .geq (.t 17) (.c (.int .i64 0)))] none [18,6,5,0]) (.cond (.t 18) .skip (.exit 0))) (.seq (.block 1 (.seq (.region [oI 21 (.mov (.t 5)),oI 22 (.mov (.t 6)),oI 23 (.mov (.t 0)),oI 24 (.i2i .u8 (.t 23)),oI 25 (.iaddr 1 (.t 21) (.t 22)),oN (.st 1 (.t 25) (.t 24))] none [6,5,0]) (.region [oI 26 (.mov (.t 0)),oI 27 (.bin .shr (.t 26) (.c (.int .u64 8))),oI 0 (.mov (.t 27))] none [6,5,0]))) (.region [oI 19 (.mov (.t 6)),oI 20 (.bin .sub (.t 19) (.c (.int .i64 1))),oI 6 (.mov (.t 20))] none [6,5,0])))
def Zml:Zf:=ZlF
def Zts:=xw Zml ZlF rfl
def Zpr:Zf:=(.seq (.region [oI 4 (.mov (.c (.lst true [])))] none [1,0]) (.seq (.seq (.region [oI 7 (.mov (.t 1)),oI 8 (.bin .lss (.t 7) (.c (.int .i64 1))),oI 9 (.mov (.t 8)),⟨(some 10),(.mov (.t 1)),(some (9,false)),[]⟩,⟨(some 11),(.bin .gtr (.t 10) (.c (.int .i64 8))),(some (9,false)),[]⟩,oI 12 (.pick (.t 9) (.c (.bool true)) (.t 11))] none [12,1,0]) (.cond (.t 12) (.seq (.region [oI 4 (.mov (.c (.lst true [])))] none [4]) .ret) .skip)) (.seq (.region [oI 13 (.mov (.t 1)),oI 14 (.mkslice 1 1 (.int .u8 0) (.t 13) (.t 13)),oI 5 (.mov (.t 14))] none [5,1,0]) (.seq (.seq (.region [oI 15 (.mov (.t 1)),oI 16 (.bin .sub (.t 15) (.c (.int .i64 1))),oI 6 (.mov (.t 16))] none [6,5,0]) (.block 0 (.loop [6,5,0] Zml))) ZpR))))
def Zjk:ZI:=⟨[(.tmp 4)],Zpr⟩
theorem ZLx:FC 59=some Zjk:=by kernel_rfl
theorem Zv7:Zjk.body=Zpr:=rfl
theorem Zwx:Zjk.res=[(.tmp 4)]:=rfl
noncomputable def ZkA (m:Nat) (tm:Tms) (σ:Za):Option (AVal×Za):=(Zap m Zjk (ZbQ FC PR BY m ZpR (Option.map (ZaX 0) (evL FC PR BY m [6,5,0] Zml tm σ))))
def Zjh:Zf:=(.seq (.region [oI 2 (.mov (.c (.lst true []))),oI 3 (.mov (.c (.int .i64 0)))] none [0]) (.seq (.seq (.region [oI 4 (.mov (.t 0)),oI 5 (.call 97 0 true [(.t 4)]),oI 6 (.un .not (.t 5))] none [6,0]) (.cond (.t 6) (.seq (.region [oI 2 (.mov (.c (.lst true []))),oI 3 (.mov (.c (.int .i64 13)))] none [3,2]) .ret) .skip)) (.seq (.region [oI 7 (.mov (.t 0)),oI 8 (.s2b (.t 7)),oI 9 (.call 55 0 true [(.t 8)]),oI 10 (.ext (.t 9) 0),oI 11 (.ext (.t 9) 1),oI 2 (.mov (.t 10)),oI 3 (.mov (.t 11))] none [3,2]) .ret)))
def Zoe:ZI:=⟨[(.tmp 2),(.tmp 3)],Zjh⟩
theorem Zu5:FC 54=some Zoe:=by kernel_rfl
theorem Zr8:Zoe.body=Zjh:=rfl
theorem Zun:Zoe.res=[(.tmp 2),(.tmp 3)]:=rfl
def ZlG:Zf:=(.seq (.region [oI 21 (.mov (.t 4)),oI 22 (.mov (.t 0)),oI 23 (.i2i .u8 (.t 22)),oI 24 (.bslice false 1 1 (.int .u8 0) [(0,(.t 23))]),oI 25 (.app 1 1 (.int .u8 0) (.t 21) (.t 24)),oI 2 (.mov (.t 25)),oI 3 (.mov (.c (.int .i64 0)))] none [3,2]) .ret)
def Zl8:Zf:=ZlG
def Zr6:=xw Zl8 ZlG rfl
def ZhA:Zf:=(.seq (.seq (.region [oI 11 (.mov (.t 0)),oI 12 (.bin .gtr (.t 11) (.c (.int .i64 127)))] none [12,4,0]) (.cond (.t 12) .skip (.exit 0))) (.seq (.block 1 (.region [oI 15 (.mov (.t 4)),oI 16 (.mov (.t 0)),oI 17 (.i2i .u8 (.t 16)),oI 18 (.bin .or (.t 17) (.c (.int .u8 128))),oI 19 (.bslice false 1 1 (.int .u8 0) [(0,(.t 18))]),oI 20 (.app 1 1 (.int .u8 0) (.t 15) (.t 19)),oI 4 (.mov (.t 20))] none [4,0])) (.region [oI 13 (.mov (.t 0)),oI 14 (.bin .shr (.t 13) (.c (.int .u64 7))),oI 0 (.mov (.t 14))] none [4,0])))
def Zmo:Zf:=ZhA
def ZjO:=xw Zmo ZhA rfl
def ZiP:Zf:=(.seq (.region [oI 2 (.mov (.c (.lst true []))),oI 3 (.mov (.c (.int .i64 0)))] none [0]) (.seq (.seq (.region [oI 5 (.mov (.t 0)),oI 6 (.bin .lss (.t 5) (.c (.int .i64 0))),oI 7 (.mov (.t 6)),⟨(some 8),(.mov (.t 0)),(some (7,false)),[]⟩,⟨(some 9),(.bin .gtr (.t 8) (.c (.int .i64 268435455))),(some (7,false)),[]⟩,oI 10 (.pick (.t 7) (.c (.bool true)) (.t 9))] none [10,0]) (.cond (.t 10) (.seq (.region [oI 2 (.mov (.c (.lst true []))),oI 3 (.mov (.c (.int .i64 10)))] none [3,2]) .ret) .skip)) (.seq (.region [oI 4 (.mov (.c (.lst true [])))] none [4,0]) (.seq (.block 0 (.loop [4,0] Zmo)) Zl8))))
def ZkQ:ZI:=⟨[(.tmp 2),(.tmp 3)],ZiP⟩
theorem ZMs:FC 82=some ZkQ:=by kernel_rfl
theorem Zn5:ZkQ.body=ZiP:=rfl
theorem ZjA:ZkQ.res=[(.tmp 2),(.tmp 3)]:=rfl
noncomputable def Zkv (m:Nat) (tm:Tms) (σ:Za):Option (AVal×Za):=(Zap m ZkQ (ZbQ FC PR BY m Zl8 (Option.map (ZaX 0) (evL FC PR BY m [4,0] Zmo tm σ))))
end Go.Proofs.YtmlkhhidifjjfaaDoor
namespace Go.Proofs.YtmlkhhidifjjfaaDoor
open Go.RowKit
inductive Ty where
 | bool
 | int (k:IntKind)
 | str
 | slice (s:Bool) (e:Ty)
 | struct (fs:List Ty)
 deriving Inhabited
def Zdq:Option TypeDesc→Bool
 | some (.struct _)=>true
 | some (.array _ _)=>true
 | _=>false
def ZiI (P:Program):Nat→List Field→Nat→Bool
 | at',[],n=>at' == n
 | at',f::fs,n=>f.offset == at' && ZiI P (at'+P.cellsOf f.type) fs n
def Zdd (P:Program):Nat→TypeId→Option Ty
 | 0,_=>none
 | n+1,t=>match P.underlying t with
  | some .bool=>some .bool
  | some (.int k)=>some (.int k)
  | some .string=>some .str
  | some (.slice e)=>if 0 < P.cellsOf e then (Zdd P n e).map (.slice (Zdq (P.underlying e))) else none
  | some (.struct fs)=>if ZiI P 0 fs.toList (P.cellsOf t) then (fs.toList.mapM fun f=>Zdd P n f.type).map .struct else none
  | _=>none
def ZcX (s:Bool) (y:List AVal):AVal:=if s then .agg y else y.headD .nilp
def Imm.of (w:World):Imm:=fun b o=>w.cell? ⟨b,o,none⟩
section
variable {H:Type} {enc:TypeId×Value→H} {P:Program} {w:World} {spare:Nat→Bool} {held:Bool}
theorem Zzt {b off:Nat} {s:Option Nat} {u:Value} (h:w.cell? ⟨b,off,s⟩=some u):s=none:=by
 unfold World.cell? at h
 split at h
 ·rcases s with _ | s
  ·rfl
  ·simp at h
 ·cases h
theorem ZGW {s:Bool} {y:List AVal} (h:s=false→y.length=1) (h1:s=false→∀ x ∈ y,ZD x=true):(ZcX s y).cells=y:=by
 cases s with
 | true=>rfl
 | false =>
  match y,h rfl with
  | [x],_ =>
   have:=h1 rfl x (by simp)
   cases x <;> simp_all [ZcX,AVal.cells,ZD]
theorem Zz4 {a:Addr} (h:a.spot=none) (n:Nat):a.add n=⟨a.block,a.off+n,none⟩:=by
 unfold Addr.add
 split
 ·rename_i e;subst e;cases a;simp_all
 ·rfl
theorem ZLi {I:Imm} {β:Bmap} {xs:List AVal} {vs:List Value} {n:Nat} (h:VRs I β xs (vs.take n)) {ys:List AVal} (h':VRs I β ys (vs.drop n)):VRs I β (xs++ys) vs:=by
 have:=Zcs h h'
 rwa [List.take_append_drop] at this
theorem ZtO {α β:Type} {f:α→Option β} {a:α} {l:List α} {r:List β} (h:(a::l).mapM f=some r):∃ b r',f a=some b∧l.mapM f=some r'∧r=b::r':=by
 rw [List.mapM_cons] at h
 simp only [Option.bind_eq_bind,Option.bind_eq_some_iff,Option.pure_def,Option.some.injEq] at h
 obtain ⟨b,h1,r',h2,h3⟩:=h
 exact ⟨b,r',h1,h2,h3.symm⟩
theorem ZxE {a b:List AVal} (ha:ZaH a=true) (hb:ZaH b=true):ZaH (a++b)=true:=by
 induction a with
 | nil=>exact hb
 | cons x a ih=>simp only [List.cons_append,ZaH,Bool.and_eq_true] at ha ⊢;exact ⟨ha.1,ih ha.2⟩
theorem Zrw {I:Imm} {β:Bmap} {s:Bool} {k b:Nat}:∀ (n off:Nat) (Y:Nat→List AVal),(∀ i,i < n→(ZcX s (Y i)).cells.length=k∧CR I β (ZcX s (Y i)).cells b (off+i*k))→LR I β k ((List.range n).map fun i=>ZcX s (Y i)) b off
 | 0,off,Y,_=>by simp [LR]
 | n+1,off,Y,h=>by
  rw [List.range_succ_eq_map,List.map_cons,Zgf]
  have h0:=h 0 (by omega)
  simp only [Nat.zero_mul,Nat.add_zero] at h0
  refine ⟨h0,?_⟩
  rw [List.map_map]
  exact Zrw n (off+k) (fun i=>Y (i+1)) (fun i hi=>by
   have:=h (i+1) (by omega)
   rw [show off+k+i*k=off+(i+1)*k by rw [Nat.succ_mul];omega]
   exact this)
theorem Zsj {I:Imm} {β:Bmap} {b:Nat}:∀ (xs:List AVal) (cs:List Value) (off:Nat),VRs I β xs cs→(∀ i,i < cs.length→I b (off+i)=cs[i]?)→CR I β xs b off
 | [],_,_,_,_=>by simp only [CR]
 | x::xs,cs,off,h,hI=>by
  simp only [VRs] at h
  obtain ⟨v,vs',rfl,h1,h2⟩:=h
  simp only [CR]
  refine ⟨⟨v,by have:=hI 0 (by simp);simpa using this,h1⟩,Zsj xs vs' (off+1) h2 fun i hi=>?_⟩
  have:=hI (i+1) (by simp;omega)
  rw [show off+1+i=off+(i+1) by omega,this]
  simp
theorem ZpL {s:Bool}:∀ (n:Nat) (Y:Nat→List AVal),(∀ i,i < n→ZaH (ZcX s (Y i)).cells=true)→Z9 ((List.range n).map fun i=>ZcX s (Y i))=true
 | 0,Y,_=>by simp [Z9]
 | n+1,Y,h=>by
  rw [List.range_succ_eq_map,List.map_cons,Zq5,h 0 (by omega),List.map_map]
  simp only [Bool.true_and]
  exact ZpL n (fun i=>Y (i+1)) (fun i hi=>h (i+1) (by omega))
theorem ZsH {xs:List AVal} (h:ZaH xs=true):∀ x ∈ xs,ZD x=true:=by
 induction xs with
 | nil=>intro x hx;simp at hx
 | cons y ys ih =>
  simp only [ZaH,Bool.and_eq_true] at h
  intro x hx
  rcases List.mem_cons.1 hx with rfl | hx
  ·cases x <;> simp_all [ZaO,ZD]
  ·exact ih h.2 x hx
theorem Rel.start (w:World) (hG:Gl.le (Imm.of w)):Rel (fun b=>b < w.heap.size) w (Imm.of w) (Imm.of w) B0 [] w where
 below:=KB.refl _ w
 old:=fun _ _ _=>rfl
 imm:=fun _ _ _ h=>h
 blk:=fun t x h=>by simp at h
 own:=fun t x b h=>by simp at h
 apart:=fun t x t' x' b h=>by simp at h
 fresh:=fun _ _ _=>rfl
 free:=fun t g h=>by simp at h
 gen:=fun t b g h=>by simp at h
 glob:=hG
theorem ZxG {O:ZR} (hO:ZaN P O) {f:Nat} {args:List AVal} {vs:Array Value} {σ':Za} (hG:Gl.le (Imm.of w)) (hargs:VRs (Imm.of w) B0 args vs.toList) (h:O f args []=some (.bool true,σ')) :
  Calls P f vs w (fun e w'=>e=.returned (.bool true)∧Below w.heap.size w w'):=by
 refine ((hO f args [] _ _ h).2 _ w _ _ B0 w vs (fun b hb=>hb) (Rel.start w hG) hargs).mono ?_
 rintro e w' ⟨u,he,I',β',_,_,R,hv⟩
 simp only [ZaS,VR] at hv
 subst hv
 exact ⟨he,R.below.os,R.below.tape,R.below.output,R.below.size,R.below.block⟩
end
end Go.Proofs.YtmlkhhidifjjfaaDoor
namespace Go.Proofs.YtmlkhhidifjjfaaDoor
open Go.RowKit
theorem Zw1 (id:Nat) (tm:Tms) (σ:Za):ZaX id (.normal,tm,σ)=(.normal,tm,σ):=rfl
theorem ZJj (id i:Nat) (tm:Tms) (σ:Za):ZaX id (.exit i,tm,σ)=if i=id then (.normal,tm,σ) else (.exit i,tm,σ):=by simp only [ZaX]
theorem ZxC (id:Nat) (tm:Tms) (σ:Za):ZaX id (.ret,tm,σ)=(.ret,tm,σ):=rfl
theorem Zw2 (id:Nat) (x:AVal) (tm:Tms) (σ:Za):ZaX id (.panic x,tm,σ)=(.panic x,tm,σ):=rfl
section
variable (O:ZR) (byref:Nat→Bool)
def ZdJ (c:Cls):Option (Tms×Za×List Cls×Option AVal)→Option (Tms×Za×List Cls×Option AVal)
 | none=>none
 | some (tm,σ,cs,p)=>some (tm,σ,c::cs,p)
def Zgm (c:List Cls):Option (Tms×Za×List Cls×Option AVal)→Option (Tms×Za×List Cls×Option AVal)
 | none=>none
 | some (tm,σ,cs,p)=>some (tm,σ,c++cs,p)
def kC (d:Option Nat) (os:List AOp) (s:Nat) (tm:Tms):Option (AVal×Za×Cls)→Option (Tms×Za×List Cls×Option AVal)
 | none=>none
 | some (v,σ,c)=>if ZaP v then some (tput tm d v,σ,[c],some (ZaS v)) else ZdJ c (ZW O byref os s (tput tm d v) σ)
def Zea (ops:List AOp) (L:Nat) (l:List (Nat×Nat)) (live:List Nat):Option (Tms×Za×List Cls×Option AVal)→Option (ZaR×Tms×Za)
 | none=>none
 | some (_,σ,cs,some x)=>if Zdj ops L l cs then some (.panic x,[],σ) else none
 | some (tm,σ,cs,none)=>if Zc6 ops L l cs then some (.normal,keepL live tm,σ) else none
variable {O byref}
theorem ZuW (s:Nat) (tm:Tms) (σ:Za):ZW O byref [] s tm σ=some (tm,σ,[],none):=rfl
theorem ZDc (c:Cls) (tm:Tms) (σ:Za) (cs:List Cls) (p:Option AVal):ZdJ c (some (tm,σ,cs,p))=some (tm,σ,c::cs,p):=rfl
theorem Zxl (c:Cls):ZdJ c none=none:=rfl
theorem ZG3 (c:Cls) (q:Prop) [Decidable q] (x y:Option (Tms×Za×List Cls×Option AVal)):ZdJ c (if q then x else y)=if q then ZdJ c x else ZdJ c y:=by split <;> rfl
theorem ZKB (c:List Cls) (tm:Tms) (σ:Za) (cs:List Cls) (p:Option AVal):Zgm c (some (tm,σ,cs,p))=some (tm,σ,c++cs,p):=rfl
theorem ZJo (c:List Cls):Zgm c none=none:=rfl
theorem ZIQ (c:List Cls) (q:Prop) [Decidable q] (x y:Option (Tms×Za×List Cls×Option AVal)):Zgm c (if q then x else y)=if q then Zgm c x else Zgm c y:=by split <;> rfl
theorem Zlm {o:AOp} {os:List AOp} {s:Nat} {tm tm1:Tms} {σ σ1:Za} {v:AVal} {c:Cls} (h:ZS O byref o s tm σ=some (v,tm1,σ1,c)) (hn:ZaP v=false):ZW O byref (o::os) s tm σ=ZdJ c (ZW O byref os (s+nsite o.ins) tm1 σ1):=by
 rw [ZrU h hn]
 cases ZW O byref os (s+nsite o.ins) tm1 σ1 <;> rfl
theorem Zmz (d:Option Nat) (i:Ins) (af:List Nat) (os:List AOp) (s:Nat) (tm:Tms) (σ:Za):ZW O byref (⟨d,i,none,af⟩::os) s tm σ=kC O byref d os (s+nsite i) tm (exI O byref i s tm σ):=by
 cases h:exI O byref i s tm σ with
 | none=>exact Zia (by rw [Zk1,h];rfl)
 | some q =>
  obtain ⟨v,σ1,c⟩:=q
  have hs:ZS O byref ⟨d,i,none,af⟩ s tm σ=some (v,tput tm d v,σ1,c):=by rw [Zk1,h];rfl
  cases hp:ZaP v with
  | true =>
   obtain ⟨x,rfl⟩:=Zky hp
   exact Zki hs
  | false =>
   rw [Zlm hs hp]
   simp only [kC,hp,Bool.false_eq_true,if_false]
theorem Zn3 (d:Option Nat) (os:List AOp) (s:Nat) (tm:Tms) (v:AVal) (σ:Za) (c:Cls) (h:ZaP v=false):kC O byref d os s tm (some (v,σ,c))=ZdJ c (ZW O byref os s (tput tm d v) σ):=by
 simp only [kC,h,Bool.false_eq_true,if_false]
theorem ZHF (d:Option Nat) (os:List AOp) (s:Nat) (tm:Tms) (x:AVal) (σ:Za) (c:Cls):kC O byref d os s tm (some (.pan x,σ,c))=some (tput tm d (.pan x),σ,[c],some x):=rfl
theorem ZEd (d:Option Nat) (os:List AOp) (s:Nat) (tm:Tms):kC O byref d os s tm none=none:=rfl
theorem Zxd (d:Option Nat) (os:List AOp) (s:Nat) (tm:Tms) (q:Prop) [Decidable q] (x y:Option (AVal×Za×Cls)):kC O byref d os s tm (if q then x else y)=if q then kC O byref d os s tm x else kC O byref d os s tm y:=by split <;> rfl
theorem ZI4 (ops:List AOp) (l:List (Nat×Nat)) (live:List Nat) (tm:Tms) (σ:Za):Zb4 O byref ops (some l) live tm σ=Zea ops σ.length l live (ZW O byref ops σ.length tm (σ++List.replicate (sitesOf ops) .free)):=by
 unfold Zb4
 cases ZW O byref ops σ.length tm (σ++List.replicate (sitesOf ops) .free) with
 | none=>rfl
 | some q =>
  obtain ⟨tm',σ',cs,p⟩:=q
  cases p <;> rfl
theorem Zqo (ops:List AOp) (L:Nat) (l:List (Nat×Nat)) (live:List Nat) (tm:Tms) (σ:Za) (cs:List Cls) (h:Zc6 ops L l cs=true):Zea ops L l live (some (tm,σ,cs,none))=some (.normal,keepL live tm,σ):=by
 simp only [Zea,h,if_true]
theorem Zhv (ops:List AOp) (L:Nat) (l:List (Nat×Nat)) (live:List Nat) (tm:Tms) (σ:Za) (cs:List Cls) (x:AVal) (h:Zdj ops L l cs=true):Zea ops L l live (some (tm,σ,cs,some x))=some (.panic x,[],σ):=by
 simp only [Zea,h,if_true]
theorem ZzU (ops:List AOp) (L:Nat) (l:List (Nat×Nat)) (live:List Nat):Zea ops L l live none=none:=rfl
theorem ZD3 (ops:List AOp) (L:Nat) (l:List (Nat×Nat)) (live:List Nat) (q:Prop) [Decidable q] (x y:Option (Tms×Za×List Cls×Option AVal)):Zea ops L l live (if q then x else y)=if q then Zea ops L l live x else Zea ops L l live y:=by split <;> rfl
theorem Zz8 (ops:List AOp) (L:Nat) (l:List (Nat×Nat)) (cs:List Cls) (h:(cs.all fun c=>c.wr.isEmpty && !c.any)=true) (hs:(l.all fun p=>p.1 == p.2 || nsite (ops.getD p.1 default).ins == 0)=true):Zc6 ops L l cs=true:=by
 have hd:∀ i,ZdB (cs.getD i {})=true:=by
  intro i
  rw [List.all_eq_true] at h
  rw [List.getD_eq_getElem?_getD]
  cases hi:cs[i]? with
  | none=>rfl
  | some c=>exact h c (List.mem_of_getElem? hi)
 unfold Zc6
 rw [List.all_eq_true] at hs ⊢
 intro p hp
 have:=hs p hp
 rw [Bool.or_eq_true] at this ⊢
 rcases this with this | this
 ·exact Or.inl this
 ·refine Or.inr ?_
  unfold Zcn
  simp only [hd,this,Bool.and_true,Bool.true_and,Bool.true_or,Bool.or_true]
theorem Zzr (ops:List AOp) (L:Nat) (l:List (Nat×Nat)) (live:List Nat) (tm:Tms) (σ:Za) (cs:List Cls) (h:(cs.all fun c=>c.wr.isEmpty && !c.any)=true) (hs:(l.all fun p=>p.1 == p.2 || nsite (ops.getD p.1 default).ins == 0)=true):Zea ops L l live (some (tm,σ,cs,none))=some (.normal,keepL live tm,σ) :=
 Zqo _ _ _ _ _ _ _ (Zz8 _ _ _ _ h hs)
variable (O byref) in
def gKC (os:List AOp) (s:Nat):Option (Tms×Za×List Cls×Option AVal)→Option (Tms×Za×List Cls×Option AVal)
 | none=>none
 | some (tm,σ,cs,some x)=>some (tm,σ,cs,some x)
 | some (tm,σ,cs,none)=>Zgm cs (ZW O byref os s tm σ)
theorem ZL3 (os:List AOp) (s:Nat) (tm:Tms) (σ:Za) (cs:List Cls):gKC O byref os s (some (tm,σ,cs,none))=Zgm cs (ZW O byref os s tm σ):=rfl
theorem ZLw (os:List AOp) (s:Nat) (q:Prop) [Decidable q] (x y:Option (Tms×Za×List Cls×Option AVal)):gKC O byref os s (if q then x else y)=if q then gKC O byref os s x else gKC O byref os s y:=by split <;> rfl
theorem ZHr (os:List AOp) (s:Nat) (c:Cls) (r:Option (Tms×Za×List Cls×Option AVal)):gKC O byref os s (ZdJ c r)=ZdJ c (gKC O byref os s r):=by
 cases r with
 | none=>rfl
 | some q =>
  obtain ⟨tm,σ,cs,p⟩:=q
  cases p with
  | some x=>rfl
  | none =>
   simp only [ZdJ,gKC]
   cases ZW O byref os s tm σ <;> rfl
theorem ZuA:∀ (a b:List AOp) (s:Nat) (tm:Tms) (σ:Za),ZW O byref (a++b) s tm σ=gKC O byref b (s+sitesOf a) (ZW O byref a s tm σ)
 | [],b,s,tm,σ=>by
  simp only [List.nil_append,ZuW,gKC,sitesOf,List.map_nil,List.sum_nil,Nat.add_zero]
  cases ZW O byref b s tm σ <;> rfl
 | o::a,b,s,tm,σ=>by
  have ih:=ZuA a b
  simp only [List.cons_append]
  have hs:s+nsite o.ins+sitesOf a=s+sitesOf (o::a):=by simp [sitesOf,Nat.add_assoc]
  cases hst:ZS O byref o s tm σ with
  | none=>rw [Zia hst,Zia hst];rfl
  | some q =>
   obtain ⟨v,tm1,σ1,c⟩:=q
   cases hp:ZaP v with
   | true =>
    obtain ⟨x,rfl⟩:=Zky hp
    rw [Zki hst,Zki hst];rfl
   | false=>rw [Zlm hst hp,Zlm hst hp,ih,hs,ZHr]
variable (O byref) in
def ZeD (j:Nat) (w:Bool) (g:List AOp) (s:Nat) (tm:Tms) (σ:Za):Option (Tms×Za×List Cls×Option AVal):=match Zbw (some (j,w)) tm with
 | none=>none
 | some false=>some (Zau g tm,σ,g.map fun _=>{},none)
 | some true=>ZW O byref (g.map unG) s tm σ
theorem Zt4 (j:Nat) (w:Bool):∀ (g:List AOp),(∀ o ∈ g,o.guard=some (j,w)∧o.dst≠some j)→∀ (s:Nat) (tm:Tms) (σ:Za),g≠[]→ZW O byref g s tm σ=ZeD O byref j w g s tm σ
 | [],_,_,_,_,h=>absurd rfl h
 | o::g,hall,s,tm,σ,_=>by
  obtain ⟨hg,hd⟩:=hall o (by simp)
  have ih:∀ (tm:Tms) (σ:Za) (s:Nat),Zbw (some (j,w)) tm≠none→ZW O byref g s tm σ=ZeD O byref j w g s tm σ:=by
   intro tm σ s hw
   by_cases he:g=[]
   ·subst he
    unfold ZeD
    cases hx:Zbw (some (j,w)) tm with
    | none=>exact absurd hx hw
    | some b=>cases b <;> rfl
   ·exact Zt4 j w g (fun o ho=>hall o (by simp [ho])) s tm σ he
  cases hx:Zbw (some (j,w)) tm with
  | none =>
   rw [Zia (by simp only [ZS,hg,hx])]
   simp only [ZeD,hx]
  | some b =>
   cases b with
   | false =>
    have h1:ZW O byref (o::g) s tm σ=ZdJ {} (ZW O byref g (s+nsite o.ins) (tput tm o.dst (.tup [])) σ) :=
     Zlm (v:=.tup []) (c:={}) (by simp only [ZS,hg,hx]) rfl
    rw [h1,ih _ _ _ (by rw [ZfI hd,hx];simp)]
    unfold ZeD
    rw [ZfI hd,hx]
    rfl
   | true =>
    have key:∀ r:Option (AVal×Za×Cls),(∀ v σ' c,r=some (v,σ',c)→ZaP v=false→ZW O byref g (s+nsite o.ins) (tput tm o.dst v) σ'=ZW O byref (g.map unG) (s+nsite o.ins) (tput tm o.dst v) σ')→kC O byref o.dst g (s+nsite o.ins) tm r=kC O byref o.dst (g.map unG) (s+nsite o.ins) tm r:=by
     intro r hr
     cases r with
     | none=>rfl
     | some q =>
      obtain ⟨v,σ',c⟩:=q
      cases hp:ZaP v with
      | true=>simp only [kC,hp,if_true]
      | false=>rw [Zn3 _ _ _ _ _ _ _ hp,Zn3 _ _ _ _ _ _ _ hp,hr v σ' c rfl hp]
    have h1:ZW O byref (o::g) s tm σ=kC O byref o.dst g (s+nsite o.ins) tm (exI O byref o.ins s tm σ):=by
     have h0:ZW O byref (o::g) s tm σ=ZW O byref (⟨o.dst,o.ins,none,o.after⟩::g) s tm σ:=by
      have hst:ZS O byref o s tm σ=ZS O byref ⟨o.dst,o.ins,none,o.after⟩ s tm σ:=by
       unfold ZS
       simp only [hg,hx]
       rfl
      simp only [ZW,hst]
     rw [h0,Zmz]
    rw [h1]
    unfold ZeD
    rw [hx]
    simp only [List.map_cons]
    rw [show unG o=⟨o.dst,o.ins,none,o.after⟩ from rfl,Zmz]
    refine key _ fun v σ' c _ _=>?_
    rw [ih _ _ _ (by rw [ZfI hd,hx];simp)]
    unfold ZeD
    rw [ZfI hd,hx]
theorem ZGP (d:Option Nat) (i:Ins) (j:Nat) (w:Bool) (af:List Nat) (os:List AOp) (s:Nat) (tm:Tms) (σ:Za) (hd:decide (d=some j)=false) :
  ZW O byref (⟨d,i,some (j,w),af⟩::os) s tm σ=gKC O byref (Zz j w os).2 (s+sitesOf (⟨d,i,some (j,w),af⟩::(Zz j w os).1)) (ZeD O byref j w (⟨d,i,some (j,w),af⟩::(Zz j w os).1) s tm σ):=by
 have h:=ZnQ j w os
 have hall:∀ o ∈ (⟨d,i,some (j,w),af⟩::(Zz j w os).1:List AOp),o.guard=some (j,w)∧o.dst≠some j:=by
  intro o ho
  rcases List.mem_cons.1 ho with rfl | ho
  ·exact ⟨rfl,by simpa using hd⟩
  ·exact ZpX j w os o ho
 rw [←Zt4 j w _ hall s tm σ (by simp),←ZuA,List.cons_append,h]
variable (O byref) in
def gWC (w:Bool) (g:List AOp) (s:Nat) (tm:Tms) (σ:Za):AVal→Option (Tms×Za×List Cls×Option AVal)
 | .bool b=>if b=w then ZW O byref (g.map unG) s tm σ else some (Zau g tm,σ,g.map fun _=>{},none)
 | .tup []=>some (Zau g tm,σ,g.map fun _=>{},none)
 | _=>none
theorem ZzA (j:Nat) (w:Bool) (g:List AOp) (s:Nat) (tm:Tms) (σ:Za):ZeD O byref j w g s tm σ=gWC O byref w g s tm σ (tget tm j):=by
 unfold ZeD Zbw
 simp only
 generalize tget tm j=v
 cases v
 case bool b=>cases b <;> cases w <;> rfl
 case tup vs=>cases vs <;> rfl
 all_goals rfl
theorem ZwB (w:Bool) (g:List AOp) (s:Nat) (tm:Tms) (σ:Za) (b:Bool):gWC O byref w g s tm σ (.bool b)=if b=w then ZW O byref (g.map unG) s tm σ else some (Zau g tm,σ,g.map fun _=>{},none):=rfl
theorem ZFA (w:Bool) (g:List AOp) (s:Nat) (tm:Tms) (σ:Za):gWC O byref w g s tm σ (.tup [])=some (Zau g tm,σ,g.map fun _=>{},none):=rfl
theorem ZMg (q:Prop) [Decidable q] (t1 t2:Tms) (σ1 σ2:Za) (cs:List Cls):(if q then some (t1,σ1,cs,(none:Option AVal)) else some (t2,σ2,cs,none))=some ((if q then t1 else t2),(if q then σ1 else σ2),cs,none):=by split <;> rfl
end
section
theorem Zkx {r:AVal} {cs:List AVal} {σ:Za} (hr:ZK r=true) (hc:Zd cs=true):gcA 1 [r] (.var cs::σ)=([r],[.var cs]):=by
 have e1:=(Za4 (Zl (.var cs::σ) 1 [0]) r hr)
 have e2:=(ZaT (Zl (.var cs::σ) 1 [0]) cs hc)
 have h1:ZE 1 [r] (.var cs::σ)=[0]:=by
  have : Zr [r]=[]:=by simp only [Zr,e1.2,List.append_nil]
  simp only [ZE,this,List.range_one,List.flatMap_cons,List.flatMap_nil,List.append_nil,List.getD_cons_zero,ZQ,e2.2]
  rfl
 simp only [gcA,h1,Ze,e1.1,Zx,List.getD_cons_zero,ZJ,e2.1]
theorem ZX {r:AVal} {cs:List AVal} {σ:Za} (hr:ZK r=true) (hc:Zd cs=true):Zal 1 (.var cs::σ) r=some (r,[.var cs]):=by
 simp only [Zal,Zkx hr hc]
theorem Zfa {σ:Za} {t:Nat} {cs:List AVal} (hs:σ[t]?=some (.var cs)) (hc:Zd cs=true):ZA σ 1000 [t] []=[t]:=by
 have hd:σ.getD t .free=.var cs:=by simp [List.getD_eq_getElem?_getD,hs]
 have e2:=(ZaT (fun _ _=>none) cs hc).2
 show ZA σ (999+1) [t] []=[t]
 simp only [ZA,List.contains_nil,Bool.false_eq_true,if_false,hd,ZQ,e2,List.nil_append]
end
end Go.Proofs.YtmlkhhidifjjfaaDoor
namespace Go.Proofs.YtmlkhhidifjjfaaDoor
section
variable (c:Prop) [Decidable c]
theorem Zwl (t1 t2:Tms) (σ1 σ2:Za):(if c then some (ZaR.normal,t1,σ1) else some (ZaR.normal,t2,σ2))=some (ZaR.normal,(if c then t1 else t2),(if c then σ1 else σ2)):=by split <;> rfl
theorem Zyk (t1 t2:Tms) (σ1 σ2:Za):(if c then some (ZaR.ret,t1,σ1) else some (ZaR.ret,t2,σ2))=some (ZaR.ret,(if c then t1 else t2),(if c then σ1 else σ2)):=by split <;> rfl
theorem ZMN (t1 t2:Tms) (σ1 σ2:Za):(if c then some (t1,σ1,(none:Option AVal)) else some (t2,σ2,none))=some ((if c then t1 else t2),(if c then σ1 else σ2),none):=by split <;> rfl
theorem ZKQ (n:Nat) (a b:AVal):(if c then (n,a) else (n,b))=(n,if c then a else b):=by split <;> rfl
theorem Zvl (a b:AVal) (σ1 σ2:Za):(if c then some (a,σ1) else some (b,σ2))=some ((if c then a else b),(if c then σ1 else σ2)):=by split <;> rfl
theorem ZAL (a b:AVal) (σ1 σ2:Za) (x y:Cls):(if c then some (a,σ1,x) else some (b,σ2,y))=some ((if c then a else b),(if c then σ1 else σ2),if c then x else y):=by split <;> rfl
end
theorem ZHD {α:Type} (p:Bool) (x y z:α):(if p=true then x else (if p=false then y else z))=if p=true then x else y:=by cases p <;> rfl
theorem ZLd (ops:List AOp) (b:Nat) (cs:List Cls):Zc6 ops b [] cs=true:=rfl
theorem ZvC (ops:List AOp) (b:Nat) (p:Nat×Nat) (l:List (Nat×Nat)) (cs:List Cls):Zc6 ops b (p::l) cs=((p.1 == p.2 || Zcn (ops.getD p.1 default) (ops.getD p.2 default) (cs.getD p.1 {}) (cs.getD p.2 {}) (b+sitesOf (ops.take p.1))) && Zc6 ops b l cs):=by
 simp only [Zc6,List.all_cons]
theorem ZHp (oj oi:AOp) (cj ci:Cls) (sj:Nat):Zcn oj oi cj ci sj=(Zcg oj cj || Zcg oi ci || (ZdB cj && ZdB ci && (nsite oj.ins == 0 || !ci.rd.contains sj)) || (Zaj oj.ins && (ZdB ci && ci.rd.isEmpty)) || (Zak oj.ins && Zaj oi.ins && ci.any && Zam cj ci) || (Zak oj.ins && (Zav oi.ins || (Zar oi.ins && Zay cj ci)) && Zam cj ci)):=rfl
theorem ZID (o:AOp) (rd wr:List Nat) (any:Bool) (got:List (Nat×Option Nat×Nat×AVal)) (upd:List (Nat×List AVal)):Zcg o ⟨rd,wr,any,got,upd⟩=(nsite o.ins == 0 && rd.isEmpty && wr.isEmpty && !any):=rfl
theorem Zyi (rd wr:List Nat) (any:Bool) (got:List (Nat×Option Nat×Nat×AVal)) (upd:List (Nat×List AVal)):ZdB ⟨rd,wr,any,got,upd⟩=(wr.isEmpty && !any):=rfl
theorem Zaf {α:Type} {l:List α} {i:Nat} {x:α} {r:List α} (h:l.drop i=x::r):l[i]?=some x∧l.drop (i+1)=r∧i < l.length:=by
 have h1:i < l.length:=by
  rcases Nat.lt_or_ge i l.length with h1 | h1
  ·exact h1
  ·rw [List.drop_eq_nil_of_le h1] at h;cases h
 rw [List.drop_eq_getElem_cons h1] at h
 injection h with h2 h3
 exact ⟨by rw [List.getElem?_eq_getElem h1,h2],h3,h1⟩
theorem Zdm {α:Type} {l:List α} {i:Nat} (h:l.drop i=[]):¬(i:Int) < l.length:=by
 have:=List.drop_eq_nil_iff.1 h;omega
theorem iad {α:Type} {l:List α} {i:Nat} {x:α} (h:l[i]?=some x) (f:α→AVal) {k:Nat} (hk:(f x).cells.length=k) (σ:Za) (n:Bool) (kk:IntKind):ZdA σ k (.lst n (l.map f)) (.int kk (i:Int))=some (.iptr (f x).cells 0,σ,{}):=by
 have h0:(0:Int)≤(i:Int):=Int.natCast_nonneg i
 unfold ZdA
 simp only [h0,if_true,Int.toNat_natCast,List.getElem?_map,h,Option.map_some,hk]
theorem Zb3 {n:Int} (h0:-9223372036854775808≤n) (h:n≤9223372036854775807):IntKind.i64.wrap n=n:=by
 rw [IntKind.wrap_i64];omega
theorem Zlq {α β:Type} {a:List α} {b:List β} (h:a.length=b.length):((a.length:Int) != (b.length:Int))=false:=by simp [h]
theorem Zjs {α β:Type} {a:List α} {b:List β} (h:a.length≠b.length):((a.length:Int) != (b.length:Int))=true:=by
 simp only [bne_iff_ne,ne_eq];omega
theorem ZjJ {α:Type} [BEq α] [LawfulBEq α] {a b:List α} (h:a.length≠b.length):(a == b)=false:=by
 simp only [beq_eq_false_iff_ne,ne_eq];rintro rfl;exact h rfl
theorem Zc7 {i n:Nat} (h:(i:Int) < n) (hn:n≤9223372036854775807):IntKind.i64.wrap ((i:Int)+1)=((i+1:Nat):Int):=by
 rw [Zb3 (by omega) (by omega)];rfl
theorem Zcp {O:ZR} {byref:Nat→Bool} {f:Nat} {args:List AVal} {r:AVal} (h:O f args []=some (r,[])) (hb:byref f=false) (hp:args.all Z4=true) (hn:args.map ZH=args) (hv:ZbI 0 (some (r,[]))=some (r,[])) (hr:∀ site,Zk (ZaB [] [] site) r=r) (σ:Za) (site own:Nat) (view:Bool):Zj O byref σ site f own view args=some (r,σ,{}):=by
 rw [ZgL hb hp,hn,h]
 have : Zae view 0 (some (r,[]))=some (r,[]):=by
  unfold Zae
  split
  ·exact hv
  ·rfl
 rw [this,ZiM _ _ _ _ (hr site)]
theorem ZjD {α:Type} (σ:Za) (k:Nat) (l:List α) (f:α→AVal) (kk:IntKind) (n:Int) (h0:0≤n) (h:n≤(l.length:Int)):ZbX σ k (.lst false (l.map f)) none (some (.int kk n)) none=some (.lst false ((l.take n.toNat).map f),σ,{}):=by
 simp only [ZbX,Zbl,ZdT,List.length_map,h0,h,and_self,if_true,beq_self_eq_true,Bool.true_or,Option.isSome_none,Bool.false_eq_true,if_false,Bool.false_and,List.drop_zero,List.map_take]
abbrev Zb:=List UInt8
def ZO (b:Zb):AVal:=.lst false (b.map Zc)
structure Zu where
 id:Int
 num:Int
 text:Zb
 pair:Zb
 data:Zb
 deriving DecidableEq
def ZbO (p:Zu):List AVal:=[.int .i64 p.id,.int .i64 p.num,.str p.text,.str p.pair,ZO p.data]
def Zo (p:Zu):AVal:=.agg (ZbO p)
def Zba (l:List Zu):AVal:=.lst false (l.map Zo)
theorem ZAv (l:Zb):bytesOf (l.map Zc)=some l:=by
 induction l with
 | nil=>rfl
 | cons b l ih =>
  simp only [List.map_cons,bytesOf,ih,Zc,Zow,Int.toNat_natCast,UInt8.ofNat_toNat]
end Go.Proofs.YtmlkhhidifjjfaaDoor
namespace Go.Proofs.YtmlkhhidifjjfaaDoor
def beB:Nat→Nat→Zb
 | _,0=>[]
 | n,w+1=>beB (n / 256) w++[UInt8.ofNat (n % 256)]
theorem ZaJ:∀ (w n:Nat),(beB n w).length=w
 | 0,_=>rfl
 | w+1,n=>by simp [beB,ZaJ w]
def ZeB (x:Nat) (b:Zb):Nat:=b.foldl (fun x c=>(x*256+c.toNat) % 18446744073709551616) x
def Zcw (b:Zb):Nat:=ZeB 0 b
theorem ZcD (x:Nat) (c:UInt8) (b:Zb):ZeB x (c::b)=ZeB ((x*256+c.toNat) % 18446744073709551616) b:=rfl
theorem ZeM (x:Nat):ZeB x []=x:=rfl
def Zcm:Nat→Nat→Zb
 | 0,n=>[UInt8.ofNat n]
 | k+1,n=>if n < 128 then [UInt8.ofNat n] else UInt8.ofNat (n % 128+128)::Zcm k (n / 128)
def Zai (n:Int):Zb×Int:=if n < 0∨n > 268435455 then ([],10) else (Zcm 3 n.toNat,0)
def gvA (i n:Nat):Zb→Nat×Nat×Int
 | []=>if i < 4 then (0,0,11) else (0,0,12)
 | c::r=>if i=4 then (0,0,12) else if c.toNat < 128 then (if c=0∧0 < i then (0,0,12) else (n+c.toNat % 128*128 ^ i,i+1,0)) else gvA (i+1) (n+c.toNat % 128*128 ^ i) r
def ZT (b:Zb):Nat×Nat×Int:=gvA 0 0 b
def ZbF (b:Zb):Zb×Int:=if b.length > 65535 then ([],10) else (beB b.length 2++b,0)
def ZaI (b:Zb):Zb×Nat×Int :=
 if b.length < 2∨b.length - 2 < Zcw (b.take 2) then ([],0,11) else ((b.drop 2).take (Zcw (b.take 2)),2+Zcw (b.take 2),0)
end Go.Proofs.YtmlkhhidifjjfaaDoor
namespace Go.Proofs.YtmlkhhidifjjfaaDoor
def ZrL:=(And.intro (And.intro (And.intro (And.intro (And.intro (And.intro @ZBK @ZHs) (And.intro @ZEe @ZzQ)) (And.intro (And.intro @ZAU @ZHC) (And.intro @ZvK @ZFH))) (And.intro (And.intro (And.intro @ZrF @ZpB) (And.intro @Zv3 @Zpi)) (And.intro (And.intro @ZNj @ZzE) (And.intro @Zw3 @ZJ5)))) (And.intro (And.intro (And.intro (And.intro @ZAr @ZCu) (And.intro @ZMv @ZBo)) (And.intro (And.intro @ZBv @ZIw) (And.intro @Zws @ZEt))) (And.intro (And.intro (And.intro @ZBE @ZMJ) (And.intro @ZNh @ZAF)) (And.intro (And.intro @ZHf @ZAv) (And.intro @Zwl @Zyk))))) (And.intro (And.intro (And.intro (And.intro (And.intro @ZMN @ZKQ) (And.intro @Zvl @ZAL)) (And.intro (And.intro @ZHZ @ZDJ) (And.intro @ZCR @Zxe))) (And.intro (And.intro (And.intro @ZxS @ZwM) (And.intro @Zyg @ZI4)) (And.intro (And.intro @ZuW @Zmz) (And.intro @ZGP @ZDc)))) (And.intro (And.intro (And.intro (And.intro @Zxl @ZG3) (And.intro @ZKB @ZJo)) (And.intro (And.intro @ZIQ @Zn3) (And.intro @ZHF @ZEd))) (And.intro (And.intro (And.intro @Zxd @Zzr) (And.intro @ZzU @ZD3)) (And.intro (And.intro @ZL3 @ZLw) (And.intro @ZzA @ZwB))))))
def ZLe:=(And.intro (And.intro (And.intro (And.intro (And.intro (And.intro @ZFA @ZMg) (And.intro @Zw1 @ZJj)) (And.intro (And.intro @ZxC @Zw2) (And.intro @ZLd @ZvC))) (And.intro (And.intro (And.intro @ZHp @ZID) (And.intro @Zyi @Zqo)) (And.intro (And.intro @Zym @Zze) (And.intro @ZI0 @Zy5)))) (And.intro (And.intro (And.intro (And.intro @ZFy @Zxc) (And.intro @ZA1 @ZB0)) (And.intro (And.intro @Zsc @ZB8) (And.intro @ZGo @ZBn))) (And.intro (And.intro (And.intro @ZwE @ZBx) (And.intro @ZIs @Zzm)) (And.intro (And.intro @ZGL @ZHQ) (And.intro @Zx8 @Zvd))))) (And.intro (And.intro (And.intro (And.intro (And.intro @ZHB @ZB4) (And.intro @Zzx @ZLn)) (And.intro (And.intro @ZMc @ZCq) (And.intro @ZwX @ZEL))) (And.intro (And.intro (And.intro @ZCa @ZEJ) (And.intro @ZG4 @ZzR)) (And.intro (And.intro @ZFx @Zwj) (And.intro @ZC6 @ZEM)))) (And.intro (And.intro (And.intro (And.intro @Zxk @ZDk) (And.intro @ZIF @ZDQ)) (And.intro (And.intro @ZHO @Zzh) (And.intro @ZEU @ZvU))) (And.intro (And.intro (And.intro @Zzk @ZyI) (And.intro @Zy0 @ZFB)) (And.intro (And.intro @ZIP @ZDT) (And.intro @ZMY @ZBR))))))
def Zag:=(And.intro (And.intro (And.intro (And.intro (And.intro (And.intro @Zxz @ZvI) (And.intro @ZyB @Zw7)) (And.intro (And.intro @ZMf @ZAl) (And.intro @ZFP @ZHL))) (And.intro (And.intro (And.intro @ZDe @ZJb) (And.intro @ZJp @ZFQ)) (And.intro (And.intro @Zww @Zxv) (And.intro @ZNm @Zzg)))) (And.intro (And.intro (And.intro (And.intro @Zwv @Zzw) (And.intro @ZFg @ZBO)) (And.intro (And.intro @Zvx @ZAf) (And.intro @ZMA @ZK3))) (And.intro (And.intro (And.intro @ZAg @ZH9) (And.intro @ZNi @ZDo)) (And.intro (And.intro @ZAn @Zwf) (And.intro @ZCY @ZLU))))) (And.intro (And.intro (And.intro (And.intro (And.intro @ZL8 @Zvq) (And.intro @ZHh @ZH4)) (And.intro (And.intro @ZFn @ZDI) (And.intro @ZKU @ZKN))) (And.intro (And.intro (And.intro @ZK9 @ZvZ) (And.intro @ZBk @ZC7)) (And.intro (And.intro @ZxO @ZEX) (And.intro @ZyL @ZI9)))) (And.intro (And.intro (And.intro (And.intro @ZEO @Zz6) (And.intro @ZIc @ZHR)) (And.intro (And.intro @ZMy @ZBy) (And.intro @ZBS @ZAu))) (And.intro (And.intro (And.intro @ZLa @Zvr) (And.intro @ZE9 @ZvF)) (And.intro (And.intro @ZFT @Zy2) (And.intro @ZHa @ZCU))))))
def ZcZ:=(And.intro (And.intro (And.intro (And.intro (And.intro (And.intro @ZB1 @Zy3) (And.intro @ZLc @Zxu)) (And.intro (And.intro @ZCb @Zz2) (And.intro @ZvG @Zys))) (And.intro (And.intro (And.intro @Zz0 @ZHj) (And.intro @ZJy @ZrD)) (And.intro (And.intro @ZxB @Zu6) (And.intro @ZGs @ZEk)))) (And.intro (And.intro (And.intro (And.intro @ZKC @Zxx) (And.intro @Zp8 @ZIJ)) (And.intro (And.intro @ZIG @ZLS) (And.intro @ZF0 @ZLz))) (And.intro (And.intro (And.intro @ZJt @ZKM) (And.intro @ZLv @ZKR)) (And.intro (And.intro @ZDN @ZHu) (And.intro @ZER @Zz1))))) (And.intro (And.intro (And.intro (And.intro (And.intro @ZAj @Zy9) (And.intro @ZAs @ZKg)) (And.intro (And.intro @ZBr @ZLG) (And.intro @ZsQ @Zyq))) (And.intro (And.intro (And.intro @ZD4 @ZMR) (And.intro @ZMl @Zy7)) (And.intro (And.intro @ZAT @ZLX) (And.intro @ZKx @Zt0)))) (And.intro (And.intro (And.intro (And.intro @ZFU @Ztp) (And.intro @ZCy @ZKb)) (And.intro (And.intro @ZIp @ZIM) (And.intro @ZrV @ZxU))) (And.intro (And.intro (And.intro @ZzX @ZyP) (And.intro @ZAV @ZAk)) (And.intro (And.intro @ZIr @ZDG) (And.intro @ZHd @ZJv))))))
def ZG:=(And.intro (And.intro (And.intro (And.intro (And.intro (And.intro @ZHJ @ZHU) (And.intro @ZNb @ZJI)) (And.intro (And.intro @ZzY @ZGF) (And.intro @ZzN @ZzZ))) (And.intro (And.intro (And.intro @Zzz @ZEK) (And.intro @ZBs @Zq0)) (And.intro (And.intro @ZCg @Zx0) (And.intro @ZDE @ZFF)))) (And.intro (And.intro (And.intro (And.intro @ZEa @ZAh) (And.intro @ZIu @ZGd)) (And.intro (And.intro @Zv2 @ZFs) (And.intro @ZCx @ZKH))) (And.intro (And.intro (And.intro @ZAI @ZMn) (And.intro @ZId @ZCE)) (And.intro (And.intro @ZLL @ZvB) (And.intro @ZEx @ZIO))))) (And.intro (And.intro (And.intro (And.intro (And.intro @ZxK @ZKE) (And.intro @ZwV @ZK7)) (And.intro (And.intro @ZJ6 @ZwN) (And.intro @ZKi @ZMt))) (And.intro (And.intro (And.intro @ZBz @Zvp) (And.intro @ZEr @ZCz)) (And.intro (And.intro @ZAW @ZEj) (And.intro @ZKy @ZH0)))) (And.intro (And.intro (And.intro (And.intro @ZKo @ZKh) (And.intro @ZwR @ZBF)) (And.intro (And.intro @Zvg @ZHA) (And.intro @ZKK @ZES))) (And.intro (And.intro (And.intro @ZFw @ZwY) (And.intro @ZG6 @ZK5)) (And.intro (And.intro @ZHx @ZzF) (And.intro @ZBP @ZE2))))))
def Zri:=(And.intro (And.intro (And.intro (And.intro (And.intro (And.intro @Zyn @ZED) (And.intro @ZF7 @Zzi)) (And.intro (And.intro @ZyO @ZFI) (And.intro @ZLN @ZEz))) (And.intro (And.intro (And.intro @ZLV @ZIS) (And.intro @ZEB @Zwc)) (And.intro (And.intro @ZyS @ZMU) (And.intro @ZwC @ZIX)))) (And.intro (And.intro (And.intro (And.intro @ZzV @Zx6) (And.intro @ZG9 @ZDq)) (And.intro (And.intro @ZLq @ZB6) (And.intro @ZKj @ZMj))) (And.intro (And.intro (And.intro @ZBC @ZBI) (And.intro @ZDv @ZyW)) (And.intro (And.intro @ZxI @ZMF) (And.intro @ZIe @ZFM))))) (And.intro (And.intro (And.intro (And.intro (And.intro @ZKf @ZGS) (And.intro @ZKV @ZBQ)) (And.intro (And.intro @ZzM @ZHS) (And.intro @Zzc @Zzq))) (And.intro (And.intro (And.intro @ZLI @ZKW) (And.intro @ZFm @ZLl)) (And.intro (And.intro @ZwT @Zvw) (And.intro @ZBB @ZzJ)))) (And.intro (And.intro (And.intro (And.intro @Zyo @ZCZ) (And.intro @ZyM @ZGr)) (And.intro (And.intro @Zwz @Zy8) (And.intro @ZNg @ZDb))) (And.intro (And.intro (And.intro @ZJ1 @ZzI) (And.intro @ZKX @ZC3)) (And.intro (And.intro @ZzL @ZF3) (And.intro @ZEZ @ZLB))))))
def Zs:=(And.intro (And.intro (And.intro (And.intro (And.intro (And.intro @ZJW @Zzu) (And.intro @ZCm @ZBw)) (And.intro (And.intro @ZM3 @ZJh) (And.intro @ZLD @ZFJ))) (And.intro (And.intro (And.intro @ZDY @Zxy) (And.intro @ZKY @ZMO)) (And.intro (And.intro @ZLA @ZFG) (And.intro @ZA6 @ZJa)))) (And.intro (And.intro (And.intro (And.intro @Zzd @ZAH) (And.intro @ZIT @ZM0)) (And.intro (And.intro @Zxp @ZBW) (And.intro @ZEI @ZJs))) (And.intro (And.intro (And.intro @ZHt @Zzo) (And.intro @ZA9 @Zxj)) (And.intro (And.intro @ZEq @ZJQ) (And.intro @Zve @ZGK))))) (And.intro (And.intro (And.intro (And.intro (And.intro @ZGV @ZI1) (And.intro @Zxo @ZyJ)) (And.intro (And.intro @ZDg @ZEi) (And.intro @Zz3 @ZEf))) (And.intro (And.intro (And.intro @ZFp @ZGB) (And.intro @ZFa @ZBf)) (And.intro (And.intro @ZAS @ZKp) (And.intro @ZDx @ZI3)))) (And.intro (And.intro (And.intro (And.intro @ZwG @Zxq) (And.intro @ZxM @Zvu)) (And.intro (And.intro @Zwb @ZMD) (And.intro @ZJw @ZNd))) (And.intro (And.intro (And.intro @ZJr @ZLt) (And.intro @ZCp @ZAO)) (And.intro (And.intro @ZA7 @Zx5) (And.intro @ZK1 @ZDz))))))
def Zac:=(And.intro (And.intro (And.intro (And.intro (And.intro @ZLs (And.intro @ZJM @ZFO)) (And.intro (And.intro @ZCM @ZHT) (And.intro @ZKl @ZF9))) (And.intro (And.intro @ZF8 (And.intro @ZLT @ZDH)) (And.intro (And.intro @ZKZ @ZFq) (And.intro @ZLp @ZL5)))) (And.intro (And.intro (And.intro @Zx7 (And.intro @ZGM @Zw6)) (And.intro (And.intro @ZKL @ZyF) (And.intro @ZIx @Zwm))) (And.intro (And.intro (And.intro @ZIv @ZFW) (And.intro @ZE3 @ZGO)) (And.intro (And.intro @ZCj @Zxb) (And.intro @ZL9 @ZH6))))) (And.intro (And.intro (And.intro (And.intro @Zyx (And.intro @ZAi @ZMI)) (And.intro (And.intro @ZA8 @Zyv) (And.intro @ZEN @Zy6))) (And.intro (And.intro (And.intro @Zw9 @ZCP) (And.intro @ZIm @ZIE)) (And.intro (And.intro @ZD6 @ZEo) (And.intro @ZJ3 @ZAz)))) (And.intro (And.intro (And.intro @Zv6 (And.intro @ZE8 @Zya)) (And.intro (And.intro @ZKF @ZvV) (And.intro @ZBg @ZwH))) (And.intro (And.intro (And.intro @ZGI @ZBN) (And.intro @ZAY @ZDB)) (And.intro (And.intro @ZI7 @ZX) (And.intro @ZMk @Zsq))))))
def Zby:=(And.intro (And.intro (And.intro (And.intro (And.intro (And.intro @List.map_cons.{0,0} @List.map_nil.{0,0}) (And.intro @List.length_cons.{0} @List.length_nil.{0})) (And.intro (And.intro @List.replicate_zero.{0} @List.replicate_succ.{0}) (And.intro @List.append_nil.{0} @List.nil_append.{0}))) (And.intro (And.intro (And.intro @List.cons_append.{0} @List.getElem?_cons_zero.{0}) (And.intro @List.getElem?_cons_succ.{0} @List.set_cons_zero.{0})) (And.intro (And.intro @List.set_cons_succ.{0} @Nat.add_zero) (And.intro @Nat.zero_add @Bool.true_or)))) (And.intro (And.intro (And.intro (And.intro @Bool.false_or @Bool.or_true) (And.intro @Bool.or_false @Bool.and_true)) (And.intro (And.intro @Bool.true_and @Bool.and_self) (And.intro @Bool.and_false @Bool.false_and))) (And.intro (And.intro (And.intro @if_true.{1} @if_false.{1}) (And.intro @ite_true.{1} @ite_false.{1})) (And.intro (And.intro @Option.map_some.{0,0} @Option.map_none.{0,0}) (And.intro @and_self @and_true))))) (And.intro (And.intro (And.intro (And.intro (And.intro @true_and @and_false) (And.intro @false_and @true_or)) (And.intro (And.intro @or_true @false_or) (And.intro @or_false @not_true_eq_false))) (And.intro (And.intro (And.intro @not_false_eq_true @List.drop_zero.{0}) (And.intro @List.drop_succ_cons.{0} @List.take_succ_cons.{0})) (And.intro (And.intro @List.take_zero.{0} @List.all_cons.{0}) (And.intro @List.all_nil.{0} @List.isEmpty_nil.{0})))) (And.intro (And.intro (And.intro (And.intro @Bool.not_false @Bool.not_true) (And.intro @List.length_map.{0,0} @Bool.bne_false)) (And.intro (And.intro @Bool.bne_true @List.isEmpty_cons.{0}) (And.intro @List.getD_cons_zero.{0} @List.getD_cons_succ.{0}))) (And.intro (And.intro (And.intro @List.getD_nil.{0} @List.contains_nil.{0}) (And.intro @List.range_zero @List.flatMap_cons.{0,0})) (And.intro (And.intro @List.flatMap_nil.{0,0} @List.zip_cons_cons.{0,0}) (And.intro @List.zip_nil_left.{0,0} @List.zip_nil_right.{0,0}))))))
def ZaL:=@Nat.not_lt_zero
def EQA := (And.intro (And.intro (And.intro (And.intro (And.intro (And.intro ZrL (And.intro ZLe Zri)) (And.intro (And.intro Zby @exI.eq_1) (And.intro @nsite.eq_1 @nsite.eq_2))) (And.intro (And.intro @nsite.eq_3 (And.intro @nsite.eq_4 @nsite.eq_5)) (And.intro (And.intro @nsite.eq_6 @nsite.eq_7) (And.intro @nsite.eq_8 @nsite.eq_9)))) (And.intro (And.intro (And.intro @nsite.eq_10 (And.intro @freeAt.eq_1 @execI.eq_1)) (And.intro (And.intro @execI.eq_2 @execI.eq_3) (And.intro @execI.eq_4 @execI.eq_5))) (And.intro (And.intro (And.intro @execI.eq_6 @execI.eq_7) (And.intro @execI.eq_8 @execI.eq_9)) (And.intro (And.intro @execI.eq_10 @execI.eq_11) (And.intro @execI.eq_12 @execI.eq_13))))) (And.intro (And.intro (And.intro (And.intro @execI.eq_14 (And.intro @execI.eq_15 @execI.eq_16)) (And.intro (And.intro @execI.eq_17 @execI.eq_18) (And.intro @execI.eq_19 @execI.eq_20))) (And.intro (And.intro @execI.eq_21 (And.intro @execI.eq_22 @execI.eq_23)) (And.intro (And.intro @execI.eq_24 @execI.eq_25) (And.intro @execI.eq_26 @execI.eq_27)))) (And.intro (And.intro (And.intro @execI.eq_28 (And.intro @execI.eq_29 @execI.eq_30)) (And.intro (And.intro @execI.eq_31 @execI.eq_32) (And.intro @execI.eq_33 @execI.eq_34))) (And.intro (And.intro (And.intro @execI.eq_35 @execI.eq_36) (And.intro @execI.eq_37 @execI.eq_38)) (And.intro (And.intro @execI.eq_39 @execI.eq_40) (And.intro @execI.eq_41 @execI.eq_42)))))) (And.intro (And.intro (And.intro (And.intro (And.intro @execI.eq_43 (And.intro @execI.eq_44 @Opd.ev.eq_1)) (And.intro (And.intro @Opd.ev.eq_2 @tget.eq_1) (And.intro @tget.eq_2 @tins.eq_1))) (And.intro (And.intro @tins.eq_2 (And.intro @tput.eq_1 @tput.eq_2)) (And.intro (And.intro @keepL.eq_1 @sitesOf.eq_1) (And.intro @resA.eq_1 @resAll.eq_1)))) (And.intro (And.intro (And.intro @resAll.eq_2 (And.intro @resOne.eq_1 @resOne.eq_2)) (And.intro (And.intro @enterA.eq_1 @enterA.eq_2) (And.intro @partA.eq_1 @partA.eq_2))) (And.intro (And.intro (And.intro @faddrA.eq_1 @faddrA.eq_2) (And.intro @faddrA.eq_3 @faddrA.eq_4)) (And.intro (And.intro @setAt.eq_1 @binA.eq_1) (And.intro @binA.eq_2 @binA.eq_3))))) (And.intro (And.intro (And.intro (And.intro @binA.eq_4 (And.intro @binA.eq_5 @arithA.eq_1)) (And.intro (And.intro @arithA.eq_2 @arithA.eq_3) (And.intro @arithA.eq_4 @arithA.eq_5))) (And.intro (And.intro (And.intro @arithA.eq_6 @arithA.eq_7) (And.intro @arithA.eq_8 @arithA.eq_9)) (And.intro (And.intro @arithA.eq_10 @arithA.eq_11) (And.intro @arithA.eq_12 @arithA.eq_13)))) (And.intro (And.intro (And.intro @arithA.eq_14 (And.intro @arithA.eq_15 @arithA.eq_16)) (And.intro (And.intro @ldA.eq_1 @ldA.eq_2) (And.intro @ldA.eq_3 @ldA.eq_4))) (And.intro (And.intro (And.intro @stA.eq_1 @stA.eq_2) (And.intro @stA.eq_3 @List.sum_cons.{0})) (And.intro (And.intro @List.sum_nil.{0} @eq_self.{1}) (And.intro @beq_self_eq_true.{0} @Bool.false_eq_true)))))))
end Go.Proofs.YtmlkhhidifjjfaaDoor
namespace Go.Proofs.YtmlkhhidifjjfaaDoor
theorem ZBJ {O:ZR} {byref:Nat→Bool} {σ:Za} {site f own:Nat} {view:Bool} {args:List AVal} (h:args.all Z4=true) (hm:args.map ZH=args) :
  Zj O byref σ site f own view args=ZaG σ σ [] [] site own (Zae view 0 (O f args [])):=by
 cases hb:byref f
 ·rw [ZgL hb h,hm]
 ·have hr:=Zdn h
  have hn:=fun ρ=>Zde (ρ:=ρ) h
  rw [hm] at hr
  simp only [hm] at hn
  unfold Zj ZbU
  rw [hb]
  simp only [if_true]
  have h1:Zn σ []=σ:=rfl
  rw [h1,hr]
  have h2:ZA σ 1000 [] []=[]:=rfl
  rw [h2]
  unfold ZbC
  simp only [List.all_nil,if_true,hn,Zx,List.length_nil]
theorem Zm5 {O:ZR} {byref:Nat→Bool} {f:Nat} {args:List AVal} {k n:Nat} {xs:List AVal} (h:O f args []=some (.sl 0 0 0 n,[.row 0 k xs])) (hn:xs.length=n) (hp:args.all Z4=true) (hm:args.map ZH=args) (σ:Za) (site own:Nat):Zj O byref σ site f own true args=some (.lst false xs,σ,{}):=by
 rw [ZBJ hp hm,h]
 have : Zae true 0 (some (.sl 0 0 0 n,[.row 0 k xs]))=some (.lst false xs,[]):=by
  unfold Zae
  rw [if_pos rfl,ZGl (k:=k) (g:=0) (t:=0) (xs:=xs) rfl (by omega),List.take_of_length_le (by omega)]
 rw [this,ZiM _ _ _ _ rfl]
theorem ZM8 {O:ZR} {byref:Nat→Bool} {σ:Za} {f:Nat} {args vs:List AVal} {ts:List Nat} {r r':AVal} (hb:byref f=false) (hsh:showAs σ args=some (vs,ts)) (hp:vs.all Z4=true) (hm:vs.map ZH=vs) (h:O f vs []=some (r,[])) (hv:ZbI 0 (some (r,[]))=some (r',[])) (site own:Nat) :
  Zj O byref σ site f own true args=if ZbE r' then some (r',σ,{ rd:=ts }) else if Zdf σ ts r' then some (r',σ,{ rd:=ts }) else some (Zk (ZaB [] [] site) r',Zn σ ts,{ rd:=ts,wr:=ts }):=by
 have hr:=Zdn hp
 have hn:=fun ρ=>Zde (ρ:=ρ) hp
 rw [hm] at hr
 simp only [hm] at hn
 unfold Zj ZbU
 rw [hb]
 simp only [Bool.false_eq_true,if_false,hsh]
 rw [hr]
 have h2:∀ σ,ZA σ 1000 [] []=[]:=fun _=>rfl
 rw [h2]
 unfold ZbC
 simp only [List.all_nil,if_true,hn,Zx,List.length_nil,h]
 have : Zae true 0 (some (r,[]))=some (r',[]):=by unfold Zae;rw [if_pos rfl,hv]
 rw [this]
 simp only [ZaG,List.isEmpty_nil,Bool.and_self,if_true]
theorem ZLJ {O:ZR} {byref:Nat→Bool} {σ:Za} {f:Nat} {args vs:List AVal} {ts:List Nat} {r r':AVal} (hb:byref f=false) (hsh:showAs σ args=some (vs,ts)) (hp:vs.all Z4=true) (hm:vs.map ZH=vs) (h:O f vs []=some (r,[])) (hv:ZbI 0 (some (r,[]))=some (r',[])) (hap:Zdf σ ts r'=true) (site own:Nat) :
  Zj O byref σ site f own true args=some (r',σ,{ rd:=ts }):=by
 rw [ZM8 hb hsh hp hm h hv,if_pos hap]
 split <;> rfl
theorem Zbr {O:ZR} {byref:Nat→Bool} {f:Nat} {args args':List AVal} {r r':AVal} (h:O f args' []=some (r,[])) (hb:byref f=false) (hp:args.all Z4=true) (hn:args.map ZH=args') (hv:ZbI 0 (some (r,[]))=some (r',[])) (hr:∀ site,Zk (ZaB [] [] site) r'=r') (σ:Za) (site own:Nat):Zj O byref σ site f own true args=some (r',σ,{}):=by
 rw [ZgL hb hp,hn,h]
 have : Zae true 0 (some (r,[]))=some (r',[]):=by
  unfold Zae
  rw [if_pos rfl];exact hv
 rw [this,ZiM _ _ _ _ (hr site)]
theorem ZNl (k n:Nat) (xs:List AVal) (σ:Za):Zal 0 (.row 0 k xs::σ) (.sl 0 0 0 n)=some (.sl 0 0 0 n,[.row 0 k xs]):=by
 simp [Zal,gcA,ZE,ZA,Zr,ZZ,Zl,Zx,Z1,Zp,ZU,Ze,Zk,ZJ,ZQ]
def Zef:List AVal→AVal
 | []=>.lst true []
 | x::xs=>.sl 0 0 0 (x::xs).length
def Zev (k:Nat):List AVal→Za
 | []=>[]
 | x::xs=>[.row 0 k (x::xs)]
theorem Zfq:Zef []=.lst true []:=rfl
theorem ZhJ (x:AVal) (xs:List AVal):Zef (x::xs)=.sl 0 0 0 (x::xs).length:=rfl
theorem Zfo (k:Nat):Zev k []=[]:=rfl
theorem Zhj (k:Nat) (x:AVal) (xs:List AVal):Zev k (x::xs)=[.row 0 k (x::xs)]:=rfl
theorem Zfm (l:Zb):kOk 1 (l.map Zc)=true:=by cases l <;> rfl
end Go.Proofs.YtmlkhhidifjjfaaDoor
namespace Go.Proofs.YtmlkhhidifjjfaaDoor
set_option maxHeartbeats 4000000
set_option maxRecDepth 10000
theorem Zwh (n:Nat):IntKind.u8.wrap (n:Int)=((UInt8.ofNat (n % 256)).toNat:Int):=by
 rw [IntKind.wrap_u8,UInt8.toNat_ofNat']
 omega
theorem ZG2 (k n:Nat) (xs:List AVal) (σ:Za):Zal 0 (.row 0 k xs::σ) (.sl 0 0 0 n)=some (.sl 0 0 0 n,[.row 0 k xs]):=by
 simp [Zal,gcA,ZE,ZA,Zr,ZZ,Zl,Zx,Z1,Zp,ZU,Ze,Zk,ZJ,ZQ]
theorem ZBH (m:Nat) (z:AVal) (t:List AVal):(List.replicate (m+1) z++t)[m]?=some z:=by
 rw [List.getElem?_append_left (by simp)];simp
theorem ZwD (m:Nat) (z v:AVal) (t:List AVal):(List.replicate (m+1) z++t).set m v=List.replicate m z++v::t:=by
 rw [List.replicate_succ',List.append_assoc,List.set_append_right _ _ (by simp)];simp
theorem Zs1 (W:Nat) (hW:W≤8):∀ (m n:Nat) (tail:Zb),m+tail.length=W→ZkA 0 [(6,.int .i64 ((m:Int) - 1)),(5,.sl 0 0 0 W),(0,.int .u64 (n:Nat))] [.row 0 1 (List.replicate m (.int .u8 0)++tail.map Zc)]=some (.sl 0 0 0 W,[.row 0 1 ((beB n m++tail).map Zc)])
 | 0,n,tail,h=>by
  have h1:¬(((0:Nat):Int) - 1≥0):=by omega
  unfold ZkA
  rw [Zad,beB]
  simp -implicitDefEqProofs only [EQA,Nat.reduceLT,Nat.reduceEqDiff,reduceCtorEq,decide_false,↓reduceIte,Zwx,ZxF,ZnJ,Zts,ZlF,oI,oN,h1,ZG2]
 | m+1,n,tail,h=>by
  have ih:=Zs1 W hW m (n / 256) (UInt8.ofNat (n % 256)::tail) (by simp;omega)
  have e0:((m+1:Nat):Int) - 1=(m:Int):=by omega
  have h1:(m:Int)≥0:=by omega
  have h2:(0:Int)≤(m:Int):=by omega
  have h3:m < W:=by omega
  have hg:=ZBH m (.int .u8 0) (tail.map Zc)
  have hs:=ZwD m (.int .u8 0) (Zc (UInt8.ofNat (n % 256))) (tail.map Zc)
  have hb:=Zwh n
  have hw:IntKind.i64.wrap ((m:Int) - 1)=(m:Int) - 1:=Zb3 (by omega) (by omega)
  have hd:(n:Int).fdiv (2 ^ min (Int.toNat 8) IntKind.u64.bits)=((n / 256:Nat):Int):=by
   rw [show (2:Int) ^ min (Int.toNat 8) IntKind.u64.bits=256 from rfl,Int.fdiv_eq_ediv_of_nonneg _ (by decide)]
   omega
  have e1:beB n (m+1)++tail=beB (n / 256) m++(UInt8.ofNat (n % 256)::tail):=by simp [beB]
  rw [e0,e1]
  have e2:List.replicate m (AVal.int .u8 0)++(UInt8.ofNat (n % 256)::tail).map Zc=List.replicate m (.int .u8 0)++Zc (UInt8.ofNat (n % 256))::tail.map Zc:=rfl
  rw [e2] at ih
  generalize hX:List.replicate (m+1) (AVal.int .u8 0)++tail.map Zc=X at *
  generalize hY:List.replicate m (AVal.int .u8 0)++Zc (UInt8.ofNat (n % 256))::tail.map Zc=Y at *
  unfold Zc at hs
  unfold ZkA at ih ⊢
  rw [Zad]
  simp -implicitDefEqProofs only [EQA,Zac,ZaL,Nat.reduceLT,Nat.reduceEqDiff,ZaA,ne_eq,reduceCtorEq,decide_true,↓reduceIte,gcT,gcA,ZE,ZA,Zl,Zx,Z1,Zp,ZU,ZJ,ZQ,Zts,ZlF,oI,oN,h1,h3,hg,hs,hb,hw,hd,ZdA,Int.toNat_natCast,AVal.cells,ZaM,ZL,Zib,Zn,Int.reduceLT]
  exact ih
theorem ZEY (n W:Nat) (h1:1≤W) (hW:W≤8):E 59 [.int .u64 (n:Nat),.int .i64 (W:Nat)] []=some (.sl 0 0 0 W,[.row 0 1 ((beB n W).map Zc)]):=by
 have key:=Zs1 W hW W n [] (by simp)
 have c1:¬((W:Int) < 1):=by omega
 have c2:¬((W:Int) > 8):=by omega
 have c3:(0:Int)≤(W:Int):=by omega
 have c4:(W:Int)≤9223372036854775807:=by omega
 have c5:((1:Nat):Int)*(W:Int)≤140737488355328:=by omega
 have w1:IntKind.i64.wrap ((W:Int) - 1)=(W:Int) - 1:=Zb3 (by omega) (by omega)
 simp only [List.map_nil,List.append_nil] at key
 rw [Zh (by rfl) ZLx]
 unfold ZkA at key
 simp -implicitDefEqProofs only [EQA,ZG,Zac,ZaL,Nat.reduceLT,Nat.reduceEqDiff,Nat.reduceBEq,Zz,unG,ne_eq,Option.some.injEq,reduceCtorEq,decide_false,↓reduceIte,gcT,gcA,ZE,ZA,Zl,Zx,Z1,Zp,ZU,ZJ,ZQ,Zv7,Zpr,oI,c1,c2,c3,c4,c5,w1,Int.le_refl,Int.toNat_natCast]
 exact key
theorem Zj8 (σ:Za) (site own:Nat) (n W:Nat) (h1:1≤W) (hW:W≤8):Zj E BY σ site 59 own true [.int .u64 (n:Nat),.int .i64 (W:Nat)]=some (.lst false ((beB n W).map Zc),σ,{}) :=
 Zm5 (byref:=BY) (ZEY n W h1 hW) (by simp [ZaJ]) rfl rfl σ site own
theorem Zxr (x c:Nat) (hc:c < 256):IntKind.u64.wrap (((BitVec.ofInt IntKind.u64.bits (IntKind.u64.wrap ((x:Int)*2 ^ min (Int.toNat 8) IntKind.u64.bits)) ||| BitVec.ofInt IntKind.u64.bits (c:Int)).toNat:Nat):Int)=(((x*256+c) % 18446744073709551616:Nat):Int):=by
 rw [show (2:Int) ^ min (Int.toNat 8) IntKind.u64.bits=256 from rfl]
 have hb:IntKind.u64.bits=64:=rfl
 rw [hb,IntKind.wrap_u64,IntKind.wrap_u64]
 have e1:(x:Int)*256 % 18446744073709551616=((x*256 % 18446744073709551616:Nat):Int):=by omega
 rw [e1,BitVec.toNat_or]
 simp only [BitVec.ofInt_natCast,BitVec.toNat_ofNat]
 have e2:x*256 % 18446744073709551616 % 2 ^ 64=(x % 72057594037927936) <<< 8:=by
  rw [Nat.shiftLeft_eq];omega
 have e3:c % 2 ^ 64=c:=by omega
 rw [e2,e3,←Nat.shiftLeft_add_eq_or_of_lt (by omega:c < 2 ^ 8),Nat.shiftLeft_eq]
 omega
theorem Zq7 (b:Zb) (hl:b.length≤9223372036854775807):∀ (r:Zb) (i x:Nat),b.drop i=r→Zjx 0 [(8,.int .i64 i),(7,.int .i64 b.length),(6,.lst false (b.map Zc)),(3,.int .u64 (x:Nat))] []=some (.int .u64 (ZeB x r:Nat),[])
 | [],i,x,h=>by
  have h1:=Zdm h
  unfold Zjx
  rw [Zad,ZeM]
  simp -implicitDefEqProofs only [EQA,Nat.reduceLT,Nat.reduceEqDiff,decide_false,↓reduceIte,ZBM,ZBq,Zmi,ZqH,Zks,oI,h1]
 | c::r,i,x,h=>by
  have ih:=Zq7 b hl r (i+1) ((x*256+c.toNat) % 18446744073709551616) (Zaf h).2.1
  have h1:(i:Int) < b.length:=by have:=(Zaf h).2.2;omega
  have e1:=iad (Zaf h).1 Zc (k:=1) rfl
  have e3:=Zc7 h1 hl
  have ho:=Zxr x c.toNat c.toNat_lt
  have hc:IntKind.u64.wrap (c.toNat:Int)=(c.toNat:Int):=by rw [IntKind.wrap_u64];have:=c.toNat_lt;omega
  unfold Zjx at ih ⊢
  rw [Zad,ZcD]
  simp -implicitDefEqProofs only [EQA,Zac,Nat.reduceLT,Nat.reduceEqDiff,ZaA,decide_true,↓reduceIte,gcT,gcA,ZE,ZA,Zx,ZQ,ZqH,Zks,oI,h1,e1,e3,ho,hc,Zc,AVal.cells,Int.reduceLT]
  exact ih
theorem ZE6 (b:Zb) (hl:b.length≤9223372036854775807):E 108 [ZO b] []=some (.int .u64 (Zcw b:Nat),[]):=by
 have key:=Zq7 b hl b 0 0 rfl
 have z0:((0:Nat):Int)=0:=rfl
 rw [z0] at key
 unfold Zjx at key
 unfold Zcw
 rw [Zh (by rfl) ZIz]
 simp -implicitDefEqProofs only [EQA,Zac,Nat.reduceLT,Nat.reduceEqDiff,reduceCtorEq,↓reduceIte,gcT,gcA,ZE,ZA,Zx,ZQ,ZHY,Zoc,oI,ZO]
 exact key
theorem ZlN (σ:Za) (site own:Nat) (b:Zb) (hl:b.length≤9223372036854775807) (f:Bool):Zj E BY σ site 108 own true [.lst f (b.map Zc)]=some (.int .u64 (Zcw b:Nat),σ,{}) :=
 Zbr (ZE6 b hl) (by kernel_rfl) rfl rfl rfl (fun _=>rfl) _ _ _
end Go.Proofs.YtmlkhhidifjjfaaDoor
namespace Go.Proofs.YtmlkhhidifjjfaaDoor
set_option maxHeartbeats 8000000
set_option maxRecDepth 10000
theorem ZtE (ls:List Zb) (hl:ls.length≤9223372036854775807):∀ (r:List Zb) (i:Nat) (acc full:Zb),ls.drop i=r→full=acc++r.flatten→full.length≤140737488355328 →
  ZkI 0 [(8,.int .i64 i),(7,.int .i64 ls.length),(6,.lst false (ls.map ZO)),(3,.sl 0 0 0 acc.length)] [.row 0 1 (acc.map Zc)]=some (.sl 0 0 0 full.length,[.row 0 1 (full.map Zc)])
 | [],i,acc,full,h,hf,hn=>by
  have h1:=Zdm h
  have e:full=acc:=by simpa using hf
  subst e
  unfold ZkI
  rw [Zad]
  simp -implicitDefEqProofs only [EQA,Nat.reduceLT,Nat.reduceEqDiff,decide_false,↓reduceIte,ZFE,ZJz,ZnI,Zn0,Zif,oI,h1,ZNl]
 | p::r,i,acc,full,h,hf,hn=>by
  have ih:=ZtE ls hl r (i+1) (acc++p) full (Zaf h).2.1 (by rw [hf];simp) hn
  have h1:(i:Int) < ls.length:=by have:=(Zaf h).2.2;omega
  have e1:=iad (Zaf h).1 ZO (k:=1) rfl
  have e3:=Zc7 h1 hl
  have k1:=Zfm p
  have k2:(acc.length+p.length)*1≤140737488355328:=by have:=congrArg List.length hf;simp at this;omega
  have e4:(acc++p).map Zc=acc.map Zc++p.map Zc:=by simp
  have e5:(acc++p).length=acc.length+p.length:=by simp
  rw [e4,e5] at ih
  clear hf
  unfold ZkI at ih ⊢
  rw [Zad]
  unfold ZO at e1 ih ⊢
  simp -implicitDefEqProofs only [EQA,Zac,ZaL,Nat.reduceAdd,Nat.reduceLT,Nat.reduceEqDiff,Nat.reduceBEq,ne_eq,reduceCtorEq,decide_true,Z6,↓reduceIte,gcT,gcA,ZE,ZA,Zl,Zx,Z1,Zp,ZU,ZJ,ZQ,Zn0,Zif,oI,h1,e1,e3,k1,k2,Zbk,AVal.cells]
  exact ih
theorem ZBX (p:Zb) (ls:List Zb) (hl:(p::ls).length≤9223372036854775807) (hn:(p::ls).flatten.length≤140737488355328):E 56 [.lst false ((p::ls).map ZO)] []=some (.sl 0 0 0 (p::ls).flatten.length,[.row 0 1 ((p::ls).flatten.map Zc)]):=by
 have key:=ZtE (p::ls) hl ls 1 p (p::ls).flatten rfl rfl hn
 have k1:=Zfm p
 have k2:p.length*1≤140737488355328:=by simp at hn;omega
 have h1:(0:Int) < ((p::ls).length:Int):=by simp
 have hat:(p::ls)[0]?=some p:=rfl
 have e1:=iad hat ZO (k:=1) rfl
 have z0:((0:Nat):Int)=0:=rfl
 have z1:((1:Nat):Int)=1:=rfl
 have w1:IntKind.i64.wrap (0+1)=1:=rfl
 rw [z0] at e1
 rw [z1] at key
 unfold ZkI at key
 generalize hL:p::ls=L at *
 rw [Zh (by rfl) ZIC]
 unfold ZO at e1 key ⊢
 simp -implicitDefEqProofs only [EQA,Zac,Nat.reduceLT,Nat.reduceEqDiff,reduceCtorEq,↓reduceIte,gcT,gcA,ZE,ZA,Zx,ZQ,ZDh,ZpC,oI]
 rw [Zad]
 simp -implicitDefEqProofs only [EQA,Zac,ZaL,Nat.reduceLT,Nat.reduceEqDiff,Nat.reduceBEq,ne_eq,decide_true,Z6,↓reduceIte,gcT,gcA,ZE,ZA,Zl,Zx,Z1,Zp,ZU,ZJ,ZQ,Zn0,Zif,oI,h1,e1,w1,k1,k2,Zbk,AVal.cells]
 exact key
theorem ZhL (σ:Za) (site own:Nat) (f:Bool) (p:Zb) (ls:List Zb) (hl:(p::ls).length≤9223372036854775807) (hn:(p::ls).flatten.length≤140737488355328):Zj E BY σ site 56 own true [.lst f ((p::ls).map ZO)]=some (.lst false ((p::ls).flatten.map Zc),σ,{}):=by
 have h:=Zm5 (byref:=BY) (ZBX p ls hl hn) (by rw [List.length_map]) rfl rfl σ site own
 cases f
 ·exact h
 ·rw [ZgL (by kernel_rfl) rfl] at h ⊢
  exact h
theorem ZH8:∀ n:Fin 256,IntKind.u8.wrap (((BitVec.ofInt IntKind.u8.bits ((n.val:Nat):Int) ||| BitVec.ofInt IntKind.u8.bits 128).toNat:Nat):Int)=((n.val % 128+128:Nat):Int):=by decide +kernel
theorem ZAE (n:Nat):IntKind.u8.wrap (((BitVec.ofInt IntKind.u8.bits (IntKind.u8.wrap (n:Int)) ||| BitVec.ofInt IntKind.u8.bits 128).toNat:Nat):Int)=((UInt8.ofNat (n % 128+128)).toNat:Int):=by
 have h:=ZH8 ⟨n % 256,Nat.mod_lt _ (by decide)⟩
 have e:IntKind.u8.wrap (n:Int)=((n % 256:Nat):Int):=by rw [IntKind.wrap_u8];omega
 rw [e,h,UInt8.toNat_ofNat']
 simp only
 omega
theorem Zvc:∀ (k n:Nat) (acc full:Zb),n < 128 ^ (k+1)→acc.length+k≤3→full=acc++Zcm k n →
  Zkv 0 [(4,Zef (acc.map Zc)),(0,.int .i64 (n:Nat))] (Zev 1 (acc.map Zc))=some (.tup [.sl 0 0 0 full.length,.int .i64 0],[.row 0 1 (full.map Zc)])
 | k,n,acc,full,hk,hacc,hf=>by
  by_cases hn:n < 128
  ·have h1:¬((n:Int) > 127):=by omega
   have hv:Zcm k n=[UInt8.ofNat n]:=by cases k <;> simp [Zcm,hn]
   rw [hv] at hf
   have hb:IntKind.u8.wrap (n:Int)=((UInt8.ofNat n).toNat:Int):=by rw [IntKind.wrap_u8,UInt8.toNat_ofNat'];omega
   subst hf
   unfold Zkv
   rw [Zad]
   cases acc with
   | nil =>
    simp -implicitDefEqProofs only [EQA,Nat.reduceLT,Nat.reduceLeDiff,Nat.reduceEqDiff,Nat.reduceBEq,reduceCtorEq,decide_true,decide_false,Z6,↓reduceIte,ZjA,Zr6,ZlG,ZjO,ZhA,oI,h1,hb,Zfq,Zfo,Zbk,kOk,viewAs,ZN,ZL,Zn,List.foldl_cons,List.foldl_nil,Nat.one_mul,AVal.cells]
    simp [Zal,gcA,ZE,ZA,Zr,ZZ,Zl,Zx,Z1,Zp,ZU,Ze,Zk,ZJ,ZQ]
    rfl
   | cons a acc =>
    have hz:(acc.length+1+1)*1≤140737488355328:=by simp at hacc;omega
    simp -implicitDefEqProofs only [EQA,Nat.reduceAdd,Nat.reduceLT,Nat.reduceEqDiff,Nat.reduceBEq,reduceCtorEq,decide_true,decide_false,Z6,↓reduceIte,ZjA,Zr6,ZlG,ZjO,ZhA,oI,h1,hb,ZhJ,Zhj,Zbk,kOk,viewAs,ZN,ZL,Zn,List.foldl_cons,List.foldl_nil,AVal.cells,hz]
    simp [Zal,gcA,ZE,ZA,Zr,ZZ,Zl,Zx,Z1,Zp,ZU,Ze,Zk,ZJ,ZQ]
    rfl
  ·cases k with
   | zero=>simp at hk;omega
   | succ k =>
    have hlt:n / 128 < 128 ^ (k+1):=by
     rw [Nat.div_lt_iff_lt_mul (by decide)]
     rw [Nat.pow_succ] at hk;exact hk
    have hv:Zcm (k+1) n=UInt8.ofNat (n % 128+128)::Zcm k (n / 128):=by simp [Zcm,hn]
    have ih:=Zvc k (n / 128) (acc++[UInt8.ofNat (n % 128+128)]) full hlt (by simp;omega) (by rw [hf,hv];simp)
    clear hf
    have h1:((n:Int) > 127):=by omega
    have ho:=ZAE n
    have hd:(n:Int).fdiv (2 ^ min (Int.toNat 7) IntKind.i64.bits)=((n / 128:Nat):Int):=by
     rw [show (2:Int) ^ min (Int.toNat 7) IntKind.i64.bits=128 from rfl,Int.fdiv_eq_ediv_of_nonneg _ (by decide)]
     omega
    unfold Zkv at ih ⊢
    rw [Zad]
    cases acc with
    | nil =>
     simp -implicitDefEqProofs only [EQA,Zac,ZaL,Nat.reduceLT,Nat.reduceLeDiff,Nat.reduceEqDiff,Nat.reduceBEq,ZaA,ne_eq,reduceCtorEq,decide_true,Z6,↓reduceIte,gcT,gcA,ZE,ZA,Zl,Zx,Z1,Zp,ZU,ZJ,ZQ,ZjO,ZhA,oI,h1,ho,hd,Zfq,Zfo,Zbk,kOk,viewAs,ZN,ZL,Zn,List.foldl_cons,List.foldl_nil,Nat.one_mul,AVal.cells,Int.reduceLT]
     simp only [List.map_cons,List.map_nil,List.nil_append,ZhJ,Zhj,List.length_cons,List.length_nil,Nat.zero_add,Zc] at ih
     exact ih
    | cons a acc =>
     have hz:(acc.length+1+1)*1≤140737488355328:=by simp at hacc;omega
     simp -implicitDefEqProofs only [EQA,Zac,ZaL,Nat.reduceAdd,Nat.reduceLT,Nat.reduceEqDiff,Nat.reduceBEq,ZaA,ne_eq,reduceCtorEq,decide_true,Z6,↓reduceIte,gcT,gcA,ZE,ZA,Zl,Zx,Z1,Zp,ZU,ZJ,ZQ,ZjO,ZhA,oI,h1,ho,hd,ZhJ,Zhj,Zbk,kOk,viewAs,ZN,ZL,Zn,List.foldl_cons,List.foldl_nil,AVal.cells,hz,Int.reduceLT]
     simp only [List.map_append,List.map_cons,List.map_nil,List.cons_append,ZhJ,Zhj,List.length_append,List.length_cons,List.length_map,List.length_nil,Nat.zero_add,Nat.add_assoc,Nat.reduceAdd,Zc] at ih
     exact ih
theorem ZCk (n:Int):E 82 [.int .i64 n] []=some (if n < 0∨n > 268435455 then (.tup [.lst true [],.int .i64 10],[]) else (.tup [.sl 0 0 0 (Zcm 3 n.toNat).length,.int .i64 0],[.row 0 1 ((Zcm 3 n.toNat).map Zc)])):=by
 rw [Zh (by rfl) ZMs]
 by_cases h0:n < 0
 ·have : n < 0∨n > 268435455:=Or.inl h0
  simp -implicitDefEqProofs only [EQA,Zs,Nat.reduceLT,Nat.reduceEqDiff,Zz,Zau,ne_eq,Option.some.injEq,reduceCtorEq,decide_true,decide_false,↓reduceIte,Zd,Zn5,ZiP,ZjA,oI,h0]
 ·by_cases h2:n > 268435455
  ·have : n < 0∨n > 268435455:=Or.inr h2
   simp -implicitDefEqProofs only [EQA,Zs,Nat.reduceLT,Nat.reduceEqDiff,Zz,unG,ne_eq,Option.some.injEq,reduceCtorEq,decide_true,decide_false,↓reduceIte,Zd,Zn5,ZiP,ZjA,oI,h0,h2]
  ·have : ¬(n < 0∨n > 268435455):=by omega
   have key:=Zvc 3 n.toNat [] (Zcm 3 n.toNat) (by omega) (by simp) rfl
   have e:((n.toNat:Nat):Int)=n:=by omega
   rw [e] at key
   simp only [List.map_nil,Zfq,Zfo] at key
   unfold Zkv at key
   generalize Zcm 3 n.toNat=V at *
   simp -implicitDefEqProofs only [EQA,Zac,Nat.reduceLT,Nat.reduceEqDiff,Zz,unG,ne_eq,Option.some.injEq,reduceCtorEq,decide_false,↓reduceIte,gcT,gcA,ZE,ZA,Zx,ZQ,Zn5,ZiP,oI,h0,h2]
   exact key
def ZeJ (n:Int):AVal:=.tup [.lst false ((Zai n).1.map Zc),.int .i64 (Zai n).2]
theorem ZHW {O:ZR} {byref:Nat→Bool} {f:Nat} {args args':List AVal} {k n:Nat} {xs:List AVal} {c:Int} (h:O f args' []=some (.tup [.sl 0 0 0 n,.int .i64 c],[.row 0 k xs])) (hl:xs.length=n) (hb:byref f=false) (hp:args.all Z4=true) (hn:args.map ZH=args') (σ:Za) (site own:Nat):Zj O byref σ site f own true args=some (.tup [.lst false xs,.int .i64 c],σ,{}):=by
 subst hl
 rw [ZgL hb hp,hn,h]
 simp [Zae,ZbI,viewR,viewAs,ZN,ZL,Z6,Zn,gcA,ZE,ZA,Zr,ZZ,Ze,Zk,Zx,ZaG,ZbE,Zbu,ZaV]
theorem Zf3 (σ:Za) (site own:Nat) (n:Int):Zj E BY σ site 82 own true [.int .i64 n]=some (ZeJ n,σ,{}):=by
 have h:=ZCk n
 unfold ZeJ Zai
 by_cases hc:n < 0∨n > 268435455
 ·rw [if_pos hc] at h ⊢
  exact Zbr h (by kernel_rfl) rfl rfl rfl (fun _=>rfl) _ _ _
 ·rw [if_neg hc] at h ⊢
  exact ZHW h (by rw [List.length_map]) (by kernel_rfl) rfl rfl _ _ _
end Go.Proofs.YtmlkhhidifjjfaaDoor
namespace Go.Proofs.YtmlkhhidifjjfaaDoor
set_option maxHeartbeats 8000000
set_option maxRecDepth 10000
def gvT (x:Nat×Nat×Int):AVal:=.tup [.int .i64 (x.1:Nat),.int .i64 (x.2.1:Nat),.int .i64 x.2.2]
theorem Zyu:∀ n:Fin 256,IntKind.u8.wrap (((BitVec.ofInt IntKind.u8.bits ((n.val:Nat):Int) &&& BitVec.ofInt IntKind.u8.bits 127).toNat:Nat):Int)=((n.val % 128:Nat):Int):=by decide +kernel
theorem ZIN (c:UInt8):IntKind.u8.wrap (((BitVec.ofInt IntKind.u8.bits (c.toNat:Int) &&& BitVec.ofInt IntKind.u8.bits 127).toNat:Nat):Int)=((c.toNat % 128:Nat):Int):=Zyu ⟨c.toNat,c.toNat_lt⟩
theorem ZpO (i:Nat):128 ^ i=2 ^ (7*i):=by rw [Nat.pow_mul]
theorem ZMm (n a i:Nat) (hi:i≤3) (hn:n < 128 ^ i) (ha:a < 128):IntKind.i64.wrap (((BitVec.ofInt IntKind.i64.bits (n:Int) ||| BitVec.ofInt IntKind.i64.bits ((a*128 ^ i:Nat):Int)).toNat:Nat):Int)=((n+a*128 ^ i:Nat):Int):=by
 have hb:IntKind.i64.bits=64:=rfl
 have hp:128 ^ i≤128 ^ 3:=Nat.pow_le_pow_right (by decide) hi
 have hm:a*128 ^ i≤127*128 ^ 3:=Nat.mul_le_mul (by omega) hp
 rw [hb,BitVec.toNat_or]
 simp only [BitVec.ofInt_natCast,BitVec.toNat_ofNat]
 have e1:n % 2 ^ 64=n:=Nat.mod_eq_of_lt (by omega)
 have e2:a*128 ^ i % 2 ^ 64=a*128 ^ i:=Nat.mod_eq_of_lt (by omega)
 rw [e1,e2]
 have e3:a*128 ^ i=a <<< (7*i):=by rw [Nat.shiftLeft_eq,ZpO]
 have e4:n ||| a*128 ^ i=n+a*128 ^ i:=by
  rw [e3,Nat.or_comm,←Nat.shiftLeft_add_eq_or_of_lt (by rw [←ZpO];exact hn)]
  omega
 rw [e4,Zb3 (by omega) (by omega)]
theorem Zvn (a i:Nat) (hi:i≤3) (ha:a < 128):IntKind.i64.wrap ((a:Int)*2 ^ min (Int.toNat ((7*i:Nat):Int)) IntKind.i64.bits)=((a*128 ^ i:Nat):Int):=by
 have hp:128 ^ i≤128 ^ 3:=Nat.pow_le_pow_right (by decide) hi
 have hm:a*128 ^ i≤127*128 ^ 3:=Nat.mul_le_mul (by omega) hp
 have e:min (Int.toNat ((7*i:Nat):Int)) IntKind.i64.bits=7*i:=by
  have hb:IntKind.i64.bits=64:=rfl
  rw [hb];omega
 have e2:((a:Int)*2 ^ (7*i))=((a*128 ^ i:Nat):Int):=by rw [ZpO];simp
 rw [e,e2,Zb3 (by omega) (by omega)]
theorem ZqK (n i a:Nat) (hn:n < 128 ^ i) (ha:a < 128):n+a*128 ^ i < 128 ^ (i+1):=by
 have : a*128 ^ i≤127*128 ^ i:=Nat.mul_le_mul_right _ (by omega)
 rw [Nat.pow_succ];omega
theorem Zqj (b:Zb) (hl:b.length≤9223372036854775807):∀ (r:Zb) (i n:Nat),i≤4→i≤b.length→n < 128 ^ i→b.drop i=r →
  ZgX 0 [(9,.int .i64 i),(8,.int .i64 b.length),(7,.lst false (b.map Zc)),(2,.int .i64 n),(0,.lst false (b.map Zc))] []=some (gvT (gvA i n r),[])
 | [],i,n,hi,hib,hn,h=>by
  have h1:=Zdm h
  unfold ZgX
  rw [Zad,gvA]
  by_cases h4:i < 4
  ·have h5:(b.length:Int) < 4:=by omega
   simp -implicitDefEqProofs only [EQA,Zs,Nat.reduceLT,Nat.reduceEqDiff,Option.some.injEq,reduceCtorEq,decide_true,decide_false,↓reduceIte,Zd,Zg1,Zp6,ZiB,Zgk,ZeQ,oI,h1,h4,h5,gvT]
   rfl
  ·have h5:¬(b.length:Int) < 4:=by omega
   simp -implicitDefEqProofs only [EQA,Zs,Nat.reduceLT,Nat.reduceEqDiff,Option.some.injEq,reduceCtorEq,decide_false,↓reduceIte,Zd,Zg1,Zp6,ZiB,Zgk,ZeQ,oI,h1,h4,h5,gvT]
   rfl
 | c::r,i,n,hi,hib,hn,h=>by
  have hlt:=(Zaf h).2.2
  have h1:(i:Int) < b.length:=by omega
  have e1:=iad (Zaf h).1 Zc (k:=1) rfl
  have e3:=Zc7 h1 hl
  rw [gvA]
  by_cases h4:i=4
  ·have h5:¬(b.length:Int) < 4:=by omega
   have h6:((i:Int) == 4)=true:=by simp;omega
   rw [if_pos h4]
   unfold ZgX
   rw [Zad]
   simp -implicitDefEqProofs only [EQA,Zs,Nat.reduceLT,Nat.reduceEqDiff,Option.some.injEq,reduceCtorEq,decide_true,decide_false,↓reduceIte,Zd,Zg1,Zp6,ZiB,Zgk,ZeQ,oI,h1,e1,h5,h6,gvT,Zc,AVal.cells]
   rfl
  ·have h6:((i:Int) == 4)=false:=by simp;omega
   have hm:=ZIN c
   have ha:c.toNat % 128 < 128:=Nat.mod_lt _ (by decide)
   have hi64:IntKind.i64.wrap ((c.toNat % 128:Nat):Int)=((c.toNat % 128:Nat):Int):=Zb3 (by omega) (by omega)
   have h7:IntKind.i64.wrap (7*(i:Int))=((7*i:Nat):Int):=by rw [Zb3 (by omega) (by omega)];omega
   have hneg:¬((7*i:Nat):Int) < 0:=by omega
   have hs:=Zvn (c.toNat % 128) i (by omega) ha
   have ho:=ZMm n (c.toNat % 128) i (by omega) hn ha
   by_cases hc:c.toNat < 128
   ·have hc':(c.toNat:Int) < 128:=by omega
    unfold ZgX
    rw [Zad]
    by_cases hc0:c=0
    ·have hc1:((c.toNat:Int) == 0)=true:=by rw [hc0];rfl
     by_cases hip:0 < i
     ·have hip':(i:Int) > 0:=by omega
      have hcc:c=0∧0 < i:=⟨hc0,hip⟩
      simp -implicitDefEqProofs only [EQA,Zs,Zac,Zds,Zma,Nat.reduceLT,Nat.reduceEqDiff,ZaA,Zz,Zau,unG,ne_eq,Option.some.injEq,reduceCtorEq,decide_true,decide_false,decide_eq_true_eq,ite_self,↓reduceIte,Zd,gcT,gcA,ZE,ZA,Zx,ZQ,Zg1,Zgk,ZeQ,oI,h1,e1,h4,h6,h7,hneg,hip',hcc,gvT,Zc,AVal.cells]
      rfl
     ·have hip':¬(i:Int) > 0:=by omega
      have hcc:¬(c=0∧0 < i):=fun h=>hip h.2
      simp -implicitDefEqProofs only [EQA,Zs,Nat.reduceLT,Nat.reduceEqDiff,ZaA,Zz,unG,ne_eq,Option.some.injEq,reduceCtorEq,decide_true,decide_false,↓reduceIte,Zd,Zg1,Zgk,ZeQ,oI,h1,e1,h4,h6,hm,hi64,h7,hneg,hs,ho,hc,hc',hc1,hip',hcc,e3,gvT,Zc,AVal.cells]
    ·have hc1:((c.toNat:Int) == 0)=false:=by
      have : c.toNat≠0:=fun h=>hc0 (UInt8.toNat_inj.1 (by simpa using h))
      simp;omega
     have hcc:¬(c=0∧0 < i):=fun h=>hc0 h.1
     simp -implicitDefEqProofs only [EQA,Zs,Nat.reduceLT,Nat.reduceEqDiff,ZaA,Zz,Zau,ne_eq,Option.some.injEq,reduceCtorEq,decide_true,decide_false,↓reduceIte,Zd,Zg1,Zgk,ZeQ,oI,h1,e1,h4,h6,hm,hi64,h7,hneg,hs,ho,hc,hc',hc1,hcc,e3,gvT,Zc,AVal.cells]
   ·have hc':¬(c.toNat:Int) < 128:=by omega
    have ih:=Zqj b hl r (i+1) (n+c.toNat % 128*128 ^ i) (by omega) (by omega) (ZqK n i _ hn ha) (Zaf h).2.1
    unfold ZgX at ih ⊢
    rw [Zad]
    simp -implicitDefEqProofs only [EQA,Zac,Nat.reduceLT,Nat.reduceEqDiff,ZaA,reduceCtorEq,decide_true,decide_false,↓reduceIte,gcT,gcA,ZE,ZA,Zx,ZQ,Zgk,ZeQ,oI,h1,e1,h4,h6,hm,hi64,h7,hneg,hs,ho,hc,hc',e3,Zc,AVal.cells]
    exact ih
theorem ZCS (b:Zb) (hl:b.length≤9223372036854775807):E 135 [ZO b] []=some (gvT (ZT b),[]):=by
 have key:=Zqj b hl b 0 0 (by omega) (by omega) (by simp) rfl
 have z0:((0:Nat):Int)=0:=rfl
 rw [z0] at key
 unfold ZgX at key
 unfold ZT
 rw [Zh (by rfl) ZC4]
 simp -implicitDefEqProofs only [EQA,Zac,Nat.reduceLT,Nat.reduceEqDiff,reduceCtorEq,↓reduceIte,gcT,gcA,ZE,ZA,Zx,ZQ,ZAp,Zng,oI,ZO]
 exact key
theorem Zns (σ:Za) (site own:Nat) (f:Bool) (b:Zb) (hl:b.length≤9223372036854775807):Zj E BY σ site 135 own true [.lst f (b.map Zc)]=some (gvT (ZT b),σ,{}) :=
 Zbr (ZCS b hl) (by kernel_rfl) rfl rfl rfl (fun _=>rfl) _ _ _
end Go.Proofs.YtmlkhhidifjjfaaDoor
namespace Go.Proofs.YtmlkhhidifjjfaaDoor
set_option maxHeartbeats 4000000
set_option maxRecDepth 10000
theorem Zu1 (l:List UInt8) (p:Nat):Ze9 l p=Lib.decodeL (l.drop p):=by
 have:=Lib.decodeL_drop ⟨l.toArray⟩ p
 simpa [Ze9] using this.symm
def zfG:Nat→List UInt8→Bool
 | 0,_=>true
 | n+1,l=>if l=[] then true else if (Lib.decodeL l).1=0 then false else zfG n (l.drop (Lib.decodeL l).2)
def ZgG (l:List UInt8):Bool:=zfG l.length l && Lib.validD l
theorem ZLr (l:List UInt8):E 142 [.str l] []=some (.bool (Lib.validD l),[]):=ZdF.2 ⟨1,rfl⟩
theorem ZJD (σ:Za) (site own:Nat) (view:Bool) (l:List UInt8):Zj E BY σ site 142 own view [.str l]=some (.bool (Lib.validD l),σ,{}) :=
 Zcp (ZLr l) (by kernel_rfl) (by simp -implicitDefEqProofs only [ZcZ,Zby,eq_self]) (by simp -implicitDefEqProofs only [ZG,Zby,eq_self]) rfl (fun _=>rfl) _ _ _ _
theorem Zu8 (s:List UInt8):∀ (n p:Nat),s.length - p≤n→p≤s.length→Zj5 0 [(6,.ref 0 0),(0,.str s)] [.siter s p]=some (.bool (zfG n (s.drop p) && Lib.validD s),[])
 | n,p,hn,hp=>by
  by_cases h:p < s.length
  ·obtain ⟨n,rfl⟩:∃ m,n=m+1:=⟨n - 1,by omega⟩
   have hw:=Lib.decodeL_width (s.drop p)
   have hne:s.drop p≠[]:=by rw [ne_eq,List.drop_eq_nil_iff];omega
   have hle:=Lib.decodeL_le (s.drop p) hne
   rw [List.length_drop] at hle
   have ih:=Zu8 s n (p+(Lib.decodeL (s.drop p)).2) (by omega) (by omega)
   rw [←List.drop_drop] at ih
   unfold Zj5 at ih ⊢
   rw [Zad]
   by_cases hz:(Lib.decodeL (s.drop p)).1=0
   ·have hz':((Lib.decodeL (s.drop p)).1:Int)=0:=by omega
    simp -implicitDefEqProofs only [EQA,Nat.reduceLT,Nat.reduceEqDiff,Option.some.injEq,reduceCtorEq,↓reduceIte,Zs5,Zmj,ZiY,oI,h,Zu1,hz']
    rw [zfG,if_neg hne,if_pos hz];rfl
   ·have hz':(((Lib.decodeL (s.drop p)).1:Int) == 0)=false:=by rw [beq_eq_false_iff_ne];omega
    simp -implicitDefEqProofs only [EQA,Zac,ZaL,Nat.reduceLT,Nat.reduceEqDiff,ne_eq,reduceCtorEq,↓reduceIte,gcT,gcA,ZE,ZA,Zl,Zx,Z1,Zp,ZU,ZJ,ZQ,Zmj,ZiY,oI,h,Zu1,hz']
    rw [ih,zfG,if_neg hne,if_neg hz]
  ·have he:s.drop p=[]:=by rw [List.drop_eq_nil_iff];omega
   unfold Zj5
   rw [Zad]
   simp -implicitDefEqProofs only [EQA,Nat.reduceLT,Nat.reduceEqDiff,Option.some.injEq,reduceCtorEq,↓reduceIte,Zs5,ZIV,ZpI,Zmj,ZiY,oI,h,ZJD]
   rw [he]
   cases n <;> simp [zfG]
theorem Zwu (s:List UInt8):E 97 [.str s] []=some (.bool (ZgG s),[]):=by
 rw [Zh (by rfl) Zyl]
 have:=Zu8 s s.length 0 (by omega) (by omega)
 unfold Zj5 at this
 simp -implicitDefEqProofs only [EQA,Zac,ZaL,Nat.reduceLT,Nat.reduceBEq,ne_eq,reduceCtorEq,↓reduceIte,gcT,gcA,ZE,ZA,Zl,Zx,Z1,Zp,ZU,ZJ,ZQ,Zxt,ZnG,oI]
 rw [this,List.drop_zero];rfl
theorem ZtR (σ:Za) (site own:Nat) (view:Bool) (l:List UInt8):Zj E BY σ site 97 own view [.str l]=some (.bool (ZgG l),σ,{}) :=
 Zcp (Zwu l) (by kernel_rfl) (by simp -implicitDefEqProofs only [ZcZ,Zby,eq_self]) (by simp -implicitDefEqProofs only [ZG,Zby,eq_self]) rfl (fun _=>rfl) _ _ _ _
theorem wrap_i64 {n:Int} (h0:-9223372036854775808≤n) (h:n≤9223372036854775807):IntKind.i64.wrap n=n:=Zb3 h0 h
end Go.Proofs.YtmlkhhidifjjfaaDoor
namespace Go.Proofs.YtmlkhhidifjjfaaDoor
set_option maxHeartbeats 8000000
set_option maxRecDepth 10000
theorem ZuL (σ:Za) (l:Zb) (k1 k2:IntKind) (lo hi:Int) (h0:0≤lo) (h1:lo≤hi) (h2:hi≤(l.length:Int)):ZbX σ 1 (.lst false (l.map Zc)) (some (.int k1 lo)) (some (.int k2 hi)) none=some (.lst false (((l.take hi.toNat).drop lo.toNat).map Zc),σ,{}):=by
 have hh:0≤hi:=by omega
 have h3:lo≤((hi.toNat:Nat):Int):=by omega
 have hk:=Zfm l
 simp only [ZbX,Zbl,ZdT,List.length_map,hh,h2,and_self,if_true,h0,h3,hk,Bool.or_true,Option.isSome_none,Bool.false_eq_true,if_false,Bool.false_and,List.map_take,List.map_drop]
theorem Zff (σ:Za) (l:Zb) (k1:IntKind) (lo:Int) (h0:0≤lo) (h1:lo≤(l.length:Int)):ZbX σ 1 (.lst false (l.map Zc)) (some (.int k1 lo)) none none=some (.lst false ((l.drop lo.toNat).map Zc),σ,{}):=by
 have hk:=Zfm l
 simp only [ZbX,Zbl,ZdT,List.length_map,and_self,if_true,h0,h1,hk,Bool.or_true,Option.isSome_none,Bool.false_eq_true,if_false,Bool.false_and,List.map_drop]
 rw [List.take_of_length_le (by simp)]
def byT (x:Zb×Int):AVal:=.tup [.lst false (x.1.map Zc),.int .i64 x.2]
theorem Zw8 (b:Zb) (h:b.length≤9223372036854775807):IntKind.u64.wrap (b.length:Int)=(b.length:Int):=by rw [IntKind.wrap_u64];omega
theorem ZFj (b:Zb) (hl:b.length≤9223372036854775807):∃ f,E 55 [ZO b] []=some (.tup [.lst f ((ZbF b).1.map Zc),.int .i64 (ZbF b).2],[]):=by
 unfold ZbF
 by_cases h:b.length > 65535
 ·refine ⟨true,?_⟩
  have h':(b.length:Int) > 65535:=by omega
  rw [Zh (by rfl) Zsw,if_pos h]
  simp -implicitDefEqProofs only [EQA,Zs,Nat.reduceLT,Nat.reduceEqDiff,reduceCtorEq,decide_true,↓reduceIte,Zd,Zuk,ZkZ,ZqZ,oI,ZO,h']
 ·refine ⟨false,?_⟩
  have h':¬(b.length:Int) > 65535:=by omega
  have hw:=Zw8 b hl
  have hP:=fun σ site own=>Zj8 σ site own b.length 2 (by omega) (by omega)
  have hJ:=fun σ site own f=>ZhL σ site own f (beB b.length 2) [b] (by simp) (by simp [ZaJ];omega)
  simp only [List.map_cons,List.map_nil,ZO,List.flatten_cons,List.flatten_nil,List.append_nil] at hJ
  have z2:((2:Nat):Int)=2:=rfl
  rw [z2] at hP
  rw [Zh (by rfl) Zsw,if_neg h]
  simp -implicitDefEqProofs only [EQA,Zs,Nat.reduceLT,Nat.reduceEqDiff,reduceCtorEq,decide_true,decide_false,↓reduceIte,Zd,Zuk,ZkZ,ZqZ,oI,ZO,h',hw,hP,hJ,viewAs,ZN,ZL,Zn,AVal.cells,List.foldl_cons,List.foldl_nil]
theorem ZoH (σ:Za) (site own:Nat) (f:Bool) (b:Zb) (hl:b.length≤9223372036854775807):Zj E BY σ site 55 own true [.lst f (b.map Zc)]=some (byT (ZbF b),σ,{}):=by
 obtain ⟨g,h⟩:=ZFj b hl
 exact Zbr h (by kernel_rfl) rfl rfl rfl (fun _=>rfl) _ _ _
def Zah (s:Zb):Zb×Int:=if ZgG s then ZbF s else ([],13)
theorem ZFS (s:Zb) (hl:s.length≤9223372036854775807):∃ f,E 54 [.str s] []=some (.tup [.lst f ((Zah s).1.map Zc),.int .i64 (Zah s).2],[]):=by
 have hI:=fun σ site own=>ZtR σ site own true s
 have hD:=fun σ site own f=>ZoH σ site own f s hl
 unfold Zah
 cases h:ZgG s <;> rw [h] at hI
 ·refine ⟨true,?_⟩
  rw [Zh (by rfl) Zu5]
  simp -implicitDefEqProofs only [EQA,Zs,Nat.reduceLT,Nat.reduceEqDiff,unA,reduceCtorEq,↓reduceIte,Zd,Zr8,Zjh,Zun,oI,hI]
 ·refine ⟨false,?_⟩
  rw [Zh (by rfl) Zu5]
  simp -implicitDefEqProofs only [EQA,Zs,Nat.reduceLT,Nat.reduceEqDiff,unA,reduceCtorEq,↓reduceIte,Zd,Zr8,Zjh,Zun,oI,hI,hD,byT]
theorem Zim (σ:Za) (site own:Nat) (s:Zb) (hl:s.length≤9223372036854775807):Zj E BY σ site 54 own true [.str s]=some (byT (Zah s),σ,{}):=by
 obtain ⟨g,h⟩:=ZFS s hl
 exact Zbr h (by kernel_rfl) rfl rfl rfl (fun _=>rfl) _ _ _
end Go.Proofs.YtmlkhhidifjjfaaDoor
namespace Go.Proofs.YtmlkhhidifjjfaaDoor
set_option maxHeartbeats 8000000
set_option maxRecDepth 10000
def gdT (x:Zb×Nat×Int):AVal:=.tup [.lst false (x.1.map Zc),.int .i64 (x.2.1:Nat),.int .i64 x.2.2]
def gtT (x:Zb×Nat×Int):AVal:=.tup [.str x.1,.int .i64 (x.2.1:Nat),.int .i64 x.2.2]
theorem ZEG (b:Zb) (h:b.length≤2):Zcw b < 65536:=by
 unfold Zcw
 match b,h with
 | [],_=>simp [ZeM]
 | [a],_=>rw [ZcD,ZeM];have:=a.toNat_lt;omega
 | [a,c],_=>rw [ZcD,ZcD,ZeM];have:=a.toNat_lt;have:=c.toNat_lt;omega
def Zab (b:Zb):Zb×Nat×Int:=if (ZaI b).2.2≠0 then ([],0,(ZaI b).2.2) else if ZgG (ZaI b).1 then ZaI b else ([],0,13)
theorem ZL7 (b:Zb) (hl:b.length≤140737488355328):∃ f,E 106 [ZO b] []=some (.tup [.lst f ((ZaI b).1.map Zc),.int .i64 ((ZaI b).2.1:Nat),.int .i64 (ZaI b).2.2],[]):=by
 have t2:(b.take 2).length≤9223372036854775807:=by simp;omega
 have hG:=fun σ site own f=>ZlN σ site own (b.take 2) t2 f
 have hg:=ZEG (b.take 2) (by simp;omega)
 unfold ZaI
 generalize hGG:Zcw (b.take 2)=g at *
 have hi:IntKind.i64.wrap (g:Int)=(g:Int):=Zb3 (by omega) (by omega)
 by_cases h1:b.length < 2
 ·have h1':(b.length:Int) < 2:=by omega
  refine ⟨true,?_⟩
  rw [Zh (by rfl) Zmu,if_pos (Or.inl h1)]
  simp -implicitDefEqProofs only [EQA,Zs,Nat.reduceLT,Nat.reduceEqDiff,Zz,Zau,ne_eq,Option.some.injEq,reduceCtorEq,decide_true,decide_false,↓reduceIte,Zd,ZpY,Zit,Zpl,oI,ZO,h1']
  rfl
 ·have h1':¬(b.length:Int) < 2:=by omega
  have s2:=fun σ kk=>ZjD σ 1 b Zc kk 2 (by omega) (by omega)
  have e2:(2:Int).toNat=2:=rfl
  rw [e2] at s2
  have w1:IntKind.i64.wrap ((b.length:Int) - 2)=((b.length - 2:Nat):Int):=by rw [Zb3 (by omega) (by omega)];omega
  by_cases h3:b.length - 2 < g
  ·have h3':((b.length - 2:Nat):Int) < (g:Int):=by omega
   refine ⟨true,?_⟩
   rw [Zh (by rfl) Zmu,if_pos (Or.inr h3)]
   simp -implicitDefEqProofs only [EQA,Zs,Nat.reduceLT,Nat.reduceEqDiff,Zz,unG,ne_eq,Option.some.injEq,reduceCtorEq,decide_true,decide_false,↓reduceIte,Zd,ZpY,Zit,Zpl,oI,ZO,h1',s2,hG,hi,w1,h3']
   rfl
  ·have h3':¬((b.length - 2:Nat):Int) < (g:Int):=by omega
   have w2:IntKind.i64.wrap (2+(g:Int))=((2+g:Nat):Int):=by rw [Zb3 (by omega) (by omega)];omega
   have s3:=fun σ k1 k2=>ZuL σ b k1 k2 2 ((2+g:Nat):Int) (by omega) (by omega) (by omega)
   have e3:(((2+g:Nat):Int)).toNat=2+g:=rfl
   have e4:(b.take (2+g)).drop 2=(b.drop 2).take g:=by rw [List.drop_take];congr 1;omega
   rw [e2,e3,e4] at s3
   have hJ:=fun σ site own f=>ZhL σ site own f ((b.drop 2).take g) [] (by simp) (by simp;omega)
   simp only [List.map_cons,List.map_nil,ZO,List.flatten_cons,List.flatten_nil,List.append_nil] at hJ
   have hc:¬(b.length < 2∨b.length - 2 < g):=by omega
   refine ⟨false,?_⟩
   rw [Zh (by rfl) Zmu,if_neg hc]
   simp -implicitDefEqProofs only [EQA,Zs,Nat.reduceLT,Nat.reduceEqDiff,Zz,unG,ne_eq,Option.some.injEq,reduceCtorEq,decide_true,decide_false,↓reduceIte,Zd,ZpY,Zit,Zpl,oI,ZO,h1',s2,hG,hi,w1,h3',w2,s3,hJ,viewAs,ZN,ZL,Zn,AVal.cells,List.foldl_cons,List.foldl_nil]
theorem ZlD (σ:Za) (site own:Nat) (f:Bool) (b:Zb) (hl:b.length≤140737488355328):Zj E BY σ site 106 own true [.lst f (b.map Zc)]=some (gdT (ZaI b),σ,{}):=by
 obtain ⟨g,h⟩:=ZL7 b hl
 exact Zbr h (by kernel_rfl) rfl rfl rfl (fun _=>rfl) _ _ _
theorem ZyG (b:Zb) (hl:b.length≤140737488355328):E 109 [ZO b] []=some (gtT (Zab b),[]):=by
 have hD:=fun σ site own f=>ZlD σ site own f b hl
 unfold gdT at hD
 have hI:=fun σ site own=>ZtR σ site own true (ZaI b).1
 unfold Zab
 by_cases h0:(ZaI b).2.2=0
 ·have hn0:¬((ZaI b).2.2≠0):=by omega
  have e0:((0:Int) != 0)=false:=rfl
  have hp:ZaI b=((ZaI b).1,(ZaI b).2.1,0):=by rw [←h0]
  rw [if_neg hn0]
  rw [hp]
  simp only
  rw [h0] at hD
  generalize (ZaI b).1=d at *
  generalize (ZaI b).2.1=u at *
  rw [Zh (by rfl) ZqP]
  cases ht:ZgG d <;> rw [ht] at hI
  ·simp -implicitDefEqProofs only [EQA,Zs,Nat.reduceLT,Nat.reduceEqDiff,unA,Option.some.injEq,reduceCtorEq,Z6,↓reduceIte,Zd,Zpo,Zix,Zom,oI,ZO,hD,hI,e0,gtT]
   rfl
  ·simp -implicitDefEqProofs only [EQA,Zs,Nat.reduceLT,Nat.reduceEqDiff,unA,reduceCtorEq,Z6,↓reduceIte,Zd,Zpo,Zix,Zom,oI,ZO,hD,hI,e0,gtT]
 ·have hn0:((ZaI b).2.2≠0):=h0
  have e0:((ZaI b).2.2 != 0)=true:=by simpa using h0
  rw [if_pos hn0]
  generalize (ZaI b).2.2=e at *
  rw [Zh (by rfl) ZqP]
  simp -implicitDefEqProofs only [EQA,Zs,Nat.reduceLT,Nat.reduceEqDiff,Option.some.injEq,reduceCtorEq,↓reduceIte,Zd,Zpo,Zix,Zom,oI,ZO,hD,e0,gtT]
  rfl
theorem ZhE (σ:Za) (site own:Nat) (f:Bool) (b:Zb) (hl:b.length≤140737488355328):Zj E BY σ site 109 own true [.lst f (b.map Zc)]=some (gtT (Zab b),σ,{}) :=
 Zbr (ZyG b hl) (by kernel_rfl) rfl rfl rfl (fun _=>rfl) _ _ _
end Go.Proofs.YtmlkhhidifjjfaaDoor
namespace Go.Proofs.YtmlkhhidifjjfaaDoor
set_option maxHeartbeats 4000000
theorem Zc4 {O:ZR} {byref:Nat→Bool} {σ:Za} {t f:Nat} {rest:List AVal} {cs cs':List AVal} {r r':AVal} (hb:byref f=false) (hp:rest.all Z4=true) (hc:Zd cs=true) (hc':Zd cs'=true) (hn:ZK r'=true) (hv:viewR [.var cs'] r=some (r',[]))
  (h:O f (.ref 0 0::rest.map ZH) [.var cs]=some (r,[.var cs'])) (hs:σ[t]?=some (.var cs)) (site:Nat):Zj O byref σ site f 0 true (.ref t 0::rest)=some (r',σ.set t (.var cs'),{ any:=true,upd:=[(t,cs')] }):=by
 have htl:t < σ.length:=by
  rcases Nat.lt_or_ge t σ.length with h | h
  ·exact h
  ·rw [List.getElem?_eq_none h] at hs;cases hs
 have hup:Za7 (σ.set t (.var cs')) [t]=[(t,cs')]:=by
  simp only [Za7,List.getElem?_set,if_pos htl,if_true]
 have hd:σ.getD t .free=.var cs:=by simp [List.getD_eq_getElem?_getD,hs]
 have hf0:Zn σ []=σ:=rfl
 have hsh:showAs σ (.ref t 0::rest)=some (.ref t 0::rest.map ZH,[]):=by
  rw [showAs,show showA σ (.ref t 0)=some (.ref t 0,[]) from rfl,Zd8 hp]
  rfl
 have href:Zr (.ref t 0::rest.map ZH)=[t]:=by
  rw [Zr,Zdn hp];rfl
 unfold Zj ZbU
 rw [hb]
 simp only [Bool.false_eq_true,if_false,hsh,hf0,href,Zfa hs hc]
 unfold ZbC
 have hall:([t].all fun t=>okB (σ.getD t .free))=true:=by simp [List.all_cons,List.all_nil,hs,okB]
 rw [if_pos hall]
 have hρ:Zl σ 0 [t] t 0=some (0,0):=by simp [Zl,Z1,hs,Zp,ZU]
 have hheap:Zx σ 0 [t] (Zl σ 0 [t]) [t] 0=[.var cs]:=by
  simp only [Zx,hd,ZJ,(ZaT _ cs hc).1]
 have hargs:Ze (Zl σ 0 [t]) (.ref t 0::rest.map ZH)=.ref 0 0::rest.map ZH:=by
  rw [Ze,Zde hp]
  simp only [Zk,hρ]
 rw [hargs,hheap,h]
 have hask:Zae true [t].length (some (r,[.var cs']))=some (r',[.var cs']):=by
  unfold Zae
  rw [if_pos rfl]
  have hnp:∀ x,r≠.pan x:=by rintro x rfl;simp [viewR,ZN,ZL] at hv
  rw [show ZbI [t].length (some (r,[.var cs']))=(match viewR [.var cs'] r with
   | some (r',ts)=>match gcA [t].length [r'] (Zn [.var cs'] ts) with
    | ([r''],σ')=>some (r'',σ')
    | _=>none
   | none=>none) from by cases r <;> first | rfl | exact absurd rfl (hnp _)]
  rw [hv]
  simp only [List.length_cons,List.length_nil,Nat.zero_add,show Zn [ZM.var cs'] []=[.var cs'] from rfl,Zkx hn hc']
 rw [hask]
 have hk:ZaZ σ [t] [.var cs'] 0=true:=by
  simp [ZaZ,okB,hs,Zce,Zp]
 simp only [ZaG,List.isEmpty_cons,Bool.false_eq_true,if_false,List.length_cons,List.length_nil,Nat.zero_add,Nat.add_zero,Nat.le_refl,decide_true,hk,Za1,Bool.and_self,if_true,Za5,ZaK,List.getD_cons_zero,ZJ,(Za4 _ r' hn).1,(ZaT _ cs' hc').1,hup]
theorem Zct {O:ZR} {byref:Nat→Bool} {σ:Za} {t f:Nat} {rest:List AVal} {cs cs':List AVal} {x:AVal} {view:Bool} (hb:byref f=false) (hp:rest.all Z4=true) (hc:Zd cs=true) (hc':Zd cs'=true) (hn:ZK x=true)
  (h:O f (.ref 0 0::rest.map ZH) [.var cs]=some (.pan x,[.var cs'])) (hs:σ[t]?=some (.var cs)) (site:Nat):Zj O byref σ site f 0 view (.ref t 0::rest)=some (.pan x,σ.set t (.var cs'),{ any:=true,upd:=[(t,cs')] }):=by
 have htl:t < σ.length:=by
  rcases Nat.lt_or_ge t σ.length with h | h
  ·exact h
  ·rw [List.getElem?_eq_none h] at hs;cases hs
 have hup:Za7 (σ.set t (.var cs')) [t]=[(t,cs')]:=by
  simp only [Za7,List.getElem?_set,if_pos htl,if_true]
 have hd:σ.getD t .free=.var cs:=by simp [List.getD_eq_getElem?_getD,hs]
 have hf0:Zn σ []=σ:=rfl
 have hsh:showAs σ (.ref t 0::rest)=some (.ref t 0::rest.map ZH,[]):=by
  rw [showAs,show showA σ (.ref t 0)=some (.ref t 0,[]) from rfl,Zd8 hp]
  rfl
 have href:Zr (.ref t 0::rest.map ZH)=[t]:=by
  rw [Zr,Zdn hp];rfl
 unfold Zj ZbU
 rw [hb]
 simp only [Bool.false_eq_true,if_false,hsh,hf0,href,Zfa hs hc]
 unfold ZbC
 have hall:([t].all fun t=>okB (σ.getD t .free))=true:=by simp [List.all_cons,List.all_nil,hs,okB]
 rw [if_pos hall]
 have hρ:Zl σ 0 [t] t 0=some (0,0):=by simp [Zl,Z1,hs,Zp,ZU]
 have hheap:Zx σ 0 [t] (Zl σ 0 [t]) [t] 0=[.var cs]:=by
  simp only [Zx,hd,ZJ,(ZaT _ cs hc).1]
 have hargs:Ze (Zl σ 0 [t]) (.ref t 0::rest.map ZH)=.ref 0 0::rest.map ZH:=by
  rw [Ze,Zde hp]
  simp only [Zk,hρ]
 rw [hargs,hheap,h]
 have hask:Zae view [t].length (some (.pan x,[.var cs']))=some (.pan x,[.var cs']):=by
  unfold Zae
  split <;> rfl
 rw [hask]
 have hk:ZaZ σ [t] [.var cs'] 0=true:=by
  simp [ZaZ,okB,hs,Zce,Zp]
 have hnp:ZK (.pan x)=true:=by simpa only [ZK] using hn
 simp only [ZaG,List.isEmpty_cons,Bool.false_eq_true,if_false,List.length_cons,List.length_nil,Nat.zero_add,Nat.add_zero,Nat.le_refl,decide_true,hk,Za1,Bool.and_self,if_true,Za5,ZaK,List.getD_cons_zero,ZJ,(Za4 _ _ hnp).1,(ZaT _ cs' hc').1,hup]
end Go.Proofs.YtmlkhhidifjjfaaDoor
namespace Go.Proofs.YtmlkhhidifjjfaaDoor
def ZnB:Zf:=(.seq (.region [oI 21 (.build [(.int .i64 0),(.int .i64 0),(.str []),(.str []),(.lst true [])] []),oN (.st 5 (.t 4) (.t 21)),oI 5 (.mov (.c (.bool false)))] none [5,4]) .ret)
def Zmy:Zf:=ZnB
def ZAK:=xw Zmy ZnB rfl
def ZiJ:Zf:=(.seq (.region [oI 11 (.bin .lss (.t 10) (.t 9))] none [11,10,9,8,4,0]) (.seq (.cond (.t 11) .skip (.exit 0)) (.seq (.block 1 (.seq (.region [oI 12 (.iaddr 5 (.t 8) (.t 10)),oI 13 (.ld (some 5) (.t 12)),oI 7 (.alloc [(.int .i64 0),(.int .i64 0),(.str []),(.str []),(.lst true [])]),oN (.st 5 (.t 7) (.t 13))] none [10,9,8,7,4,0]) (.seq (.region [oI 14 (.faddr 0 (.t 7)),oI 15 (.ld none (.t 14)),oI 16 (.mov (.t 0)),oI 17 (.bin .eql (.t 15) (.t 16))] none [17,10,9,8,7,4,0]) (.cond (.t 17) (.seq (.region [oI 18 (.ld (some 5) (.t 7)),oI 19 (.call 147 0 true [(.t 18)]),oN (.st 5 (.t 4) (.t 19)),oI 5 (.mov (.c (.bool true)))] none [5,4]) .ret) .skip)))) (.region [oI 20 (.bin .add (.t 10) (.c (.int .i64 1))),oI 10 (.mov (.t 20))] none [10,9,8,4,0]))))
def ZnR:Zf:=ZiJ
def Zou:=xw ZnR ZiJ rfl
def Zl1:Zf:=(.seq (.region [oI 4 (.alloc [(.int .i64 0),(.int .i64 0),(.str []),(.str []),(.lst true [])]),oI 5 (.mov (.c (.bool false)))] none [4,1,0]) (.seq (.seq (.region [oI 8 (.mov (.t 1)),oI 9 (.len (.t 8)),oI 10 (.mov (.c (.int .i64 0)))] none [10,9,8,4,0]) (.block 0 (.loop [10,9,8,4,0] ZnR))) Zmy))
def Zlx:ZI:=⟨[(.cell 4 (some 5)),(.tmp 5)],Zl1⟩
theorem ZAQ:FC 112=some Zlx:=by kernel_rfl
theorem ZB2:Zlx.body=Zl1:=rfl
theorem ZqU:Zlx.res=[(.cell 4 (some 5)),(.tmp 5)]:=rfl
noncomputable def ZjM (m:Nat) (tm:Tms) (σ:Za):Option (AVal×Za):=(Zap m Zlx (ZbQ FC PR BY m Zmy (Option.map (ZaX 0) (evL FC PR BY m [10,9,8,4,0] ZnR tm σ))))
def Znh:Zf:=(.seq (.region [oI 2 (.mov (.c (.int .i64 0)))] none [0]) (.seq (.region [oI 3 (.mov (.t 0)),oI 4 (.call 152 0 true [(.t 3)]),oI 5 (.field none 0 (.t 4)),oI 2 (.mov (.t 5))] none [2]) .ret))
def ZnA:ZI:=⟨[(.tmp 2)],Znh⟩
theorem ZFr:FC 134=some ZnA:=by kernel_rfl
theorem ZDu:ZnA.body=Znh:=rfl
theorem Zxf:ZnA.res=[(.tmp 2)]:=rfl
def ZfM:Zf:=(.seq (.region [oI 26 (.mov (.t 6)),oI 27 (.len (.t 26)),oI 28 (.call 82 0 true [(.t 27)]),oI 25 (.mov (.t 28)),oI 29 (.ext (.t 25) 0),oI 30 (.ext (.t 25) 1),oI 9 (.mov (.t 29)),oI 10 (.mov (.t 30))] none [10,9,6,1,0]) (.seq (.seq (.region [oI 31 (.mov (.t 10)),oI 32 (.bin .neq (.t 31) (.c (.int .i64 0)))] none [32,9,6,1,0]) (.cond (.t 32) (.seq (.region [oI 4 (.mov (.c (.lst true []))),oI 5 (.mov (.c (.int .i64 129)))] none [5,4]) .ret) .skip)) (.seq (.region [oI 33 (.mov (.t 9)),oI 34 (.mov (.t 6)),oI 35 (.bslice false 1 2 (.lst true []) [(0,(.t 33)),(1,(.t 34))]),oI 36 (.call 56 0 true [(.t 35)]),oI 6 (.mov (.t 36))] none [6,1,0]) (.seq (.region [oI 38 (.mov (.t 0)),oI 39 (.mov (.t 6)),oI 40 (.call 90 0 true [(.t 38),(.t 39)]),oI 37 (.mov (.t 40)),oI 41 (.ext (.t 37) 0),oI 42 (.ext (.t 37) 1),oI 43 (.ext (.t 37) 2),oI 11 (.mov (.t 41)),oI 12 (.mov (.t 42)),oI 13 (.mov (.t 43))] none [13,12,11,6,1]) (.seq (.seq (.region [oI 44 (.mov (.t 13)),oI 45 (.bin .neq (.t 44) (.c (.int .i64 0))),oI 46 (.mov (.t 45)),⟨(some 47),(.mov (.t 12)),(some (46,false)),[]⟩,⟨(some 48),(.mov (.t 6)),(some (46,false)),[]⟩,⟨(some 49),(.len (.t 48)),(some (46,false)),[]⟩,⟨(some 50),(.bin .neq (.t 47) (.t 49)),(some (46,false)),[]⟩,oI 51 (.pick (.t 46) (.c (.bool true)) (.t 50)),oI 52 (.mov (.t 51)),⟨(some 53),(.mov (.t 11)),(some (52,false)),[]⟩,⟨(some 54),(.mov (.t 1)),(some (52,false)),[]⟩,⟨(some 55),(.call 43 0 true [(.t 53),(.t 54)]),(some (52,false)),[]⟩,⟨(some 56),(.un .not (.t 55)),(some (52,false)),[]⟩,oI 57 (.pick (.t 52) (.c (.bool true)) (.t 56))] none [57,6]) (.cond (.t 57) (.seq (.region [oI 4 (.mov (.c (.lst true []))),oI 5 (.mov (.c (.int .i64 129)))] none [5,4]) .ret) .skip)) (.seq (.region [oI 58 (.mov (.t 6)),oI 4 (.mov (.t 58)),oI 5 (.mov (.c (.int .i64 0)))] none [5,4]) .ret))))))
def ZoE:Zf:=ZfM
def ZhC:=xw ZoE ZfM rfl
def Zes:Zf:=(.seq (.region [oI 17 (.bin .lss (.t 16) (.t 15))] none [17,16,15,14,6,1,0]) (.seq (.cond (.t 17) .skip (.exit 0)) (.seq (.block 1 (.seq (.region [oI 18 (.iaddr 5 (.t 14) (.t 16)),oI 19 (.ld (some 5) (.t 18)),oI 8 (.alloc [(.int .i64 0),(.int .i64 0),(.str []),(.str []),(.lst true [])]),oN (.st 5 (.t 8) (.t 19))] none [16,15,14,8,6,1,0]) (.region [oI 20 (.mov (.t 6)),oI 21 (.ld (some 5) (.t 8)),oI 22 (.call 89 0 true [(.t 21)]),oI 23 (.app 1 1 (.int .u8 0) (.t 20) (.t 22)),oI 6 (.mov (.t 23))] none [16,15,14,6,1,0]))) (.region [oI 24 (.bin .add (.t 16) (.c (.int .i64 1))),oI 16 (.mov (.t 24))] none [16,15,14,6,1,0]))))
def ZmS:Zf:=Zes
def Zfw:=xw ZmS Zes rfl
def ZkY:Zf:=(.seq (.region [oI 4 (.mov (.c (.lst true []))),oI 5 (.mov (.c (.int .i64 0)))] none [1,0]) (.seq (.region [oI 6 (.mov (.c (.lst true [])))] none [6,1,0]) (.seq (.seq (.region [oI 14 (.mov (.t 1)),oI 15 (.len (.t 14)),oI 16 (.mov (.c (.int .i64 0)))] none [16,15,14,6,1,0]) (.block 0 (.loop [16,15,14,6,1,0] ZmS))) ZoE)))
def Zlh:ZI:=⟨[(.tmp 4),(.tmp 5)],ZkY⟩
theorem Zrd:FC 42=some Zlh:=by kernel_rfl
theorem Zqy:Zlh.body=ZkY:=rfl
theorem ZhQ:Zlh.res=[(.tmp 4),(.tmp 5)]:=rfl
noncomputable def ZiX (m:Nat) (tm:Tms) (σ:Za):Option (AVal×Za):=(Zap m Zlh (ZbQ FC PR BY m ZoE (Option.map (ZaX 0) (evL FC PR BY m [16,15,14,6,1,0] ZmS tm σ))))
def ZiV:Zf:=(.seq (.region [oI 4 (.mov (.c (.bool false)))] none [1,0]) (.seq (.region [oI 5 (.mov (.t 1)),oI 6 (.bin .geq (.t 5) (.c (.int .i64 1))),oI 7 (.mov (.t 6)),⟨(some 8),(.mov (.t 1)),(some (7,true)),[]⟩,⟨(some 9),(.bin .leq (.t 8) (.c (.int .i64 16))),(some (7,true)),[]⟩,oI 10 (.pick (.t 7) (.t 9) (.c (.bool false))),oI 11 (.mov (.t 10)),⟨(some 12),(.mov (.t 0)),(some (11,true)),[]⟩,⟨(some 13),(.call 152 0 true [(.t 12)]),(some (11,true)),[]⟩,⟨(some 14),(.field none 1 (.t 13)),(some (11,true)),[]⟩,⟨(some 15),(.mov (.t 1)),(some (11,true)),[]⟩,⟨(some 16),(.bin .shr (.t 14) (.t 15)),(some (11,true)),[]⟩,⟨(some 17),(.bin .and (.t 16) (.c (.int .i64 1))),(some (11,true)),[]⟩,⟨(some 18),(.bin .eql (.t 17) (.c (.int .i64 1))),(some (11,true)),[]⟩,oI 19 (.pick (.t 11) (.t 18) (.c (.bool false))),oI 4 (.mov (.t 19))] none [4]) .ret))
def Zmd:ZI:=⟨[(.tmp 4)],ZiV⟩
theorem ZMi:FC 153=some Zmd:=by kernel_rfl
theorem ZmO:Zmd.body=ZiV:=rfl
theorem Zl6:Zmd.res=[(.tmp 4)]:=rfl
def ZjN:Zf:=(.seq (.region [oI 57 (.mov (.t 4)),oI 58 (.mov (.t 8)),oI 59 (.mov (.t 7)),oI 60 (.bin .add (.t 58) (.t 59)),oI 4 (.mov (.t 57)),oI 5 (.mov (.t 60)),oI 6 (.mov (.c (.int .i64 0)))] none [6,5,4]) .ret)
def Zm4:Zf:=ZjN
def Zr9:=xw Zm4 ZjN rfl
def Zf2:Zf:=(.seq (.seq (.region [oI 36 (.mov (.t 10)),oI 37 (.len (.t 36)),oI 38 (.bin .gtr (.t 37) (.c (.int .i64 0)))] none [38,10,8,7,4,0]) (.cond (.t 38) .skip (.exit 0))) (.block 1 (.seq (.region [oI 40 (.mov (.t 0)),oI 41 (.mov (.t 10)),oI 42 (.mov (.t 4)),oI 43 (.call 136 0 true [(.t 40),(.t 41),(.t 42)]),oI 39 (.mov (.t 43)),oI 44 (.ext (.t 39) 0),oI 45 (.ext (.t 39) 1),oI 46 (.ext (.t 39) 2),oI 11 (.alloc [(.int .i64 0),(.int .i64 0),(.str []),(.str []),(.lst true [])]),oN (.st 5 (.t 11) (.t 44)),oI 12 (.mov (.t 45)),oI 13 (.mov (.t 46))] none [13,12,11,10,8,7,4,0]) (.seq (.seq (.region [oI 47 (.mov (.t 13)),oI 48 (.bin .neq (.t 47) (.c (.int .i64 0)))] none [48,13,12,11,10,8,7,4,0]) (.cond (.t 48) (.seq (.region [oI 49 (.mov (.t 13)),oI 4 (.mov (.c (.lst true []))),oI 5 (.mov (.c (.int .i64 0))),oI 6 (.mov (.t 49))] none [6,5,4]) .ret) .skip)) (.seq (.region [oI 50 (.mov (.t 4)),oI 51 (.ld (some 5) (.t 11)),oI 52 (.bslice false 5 1 (.agg [(.int .i64 0),(.int .i64 0),(.str []),(.str []),(.lst true [])]) [(0,(.t 51))]),oI 53 (.app 5 72 (.agg [(.int .i64 0),(.int .i64 0),(.str []),(.str []),(.lst true [])]) (.t 50) (.t 52)),oI 4 (.mov (.t 53))] none [12,10,8,7,4,0]) (.region [oI 54 (.mov (.t 10)),oI 55 (.mov (.t 12)),oI 56 (.slice 1 (.t 54) (some (.t 55)) none none),oI 10 (.mov (.t 56))] none [10,8,7,4,0]))))))
def Zof:Zf:=Zf2
def Zhd:=xw Zof Zf2 rfl
def Zie:Zf:=(.seq (.region [oI 4 (.mov (.c (.lst true []))),oI 5 (.mov (.c (.int .i64 0))),oI 6 (.mov (.c (.int .i64 0)))] none [4,1,0]) (.seq (.region [oI 15 (.mov (.t 1)),oI 16 (.call 135 0 true [(.t 15)]),oI 14 (.mov (.t 16)),oI 17 (.ext (.t 14) 0),oI 18 (.ext (.t 14) 1),oI 19 (.ext (.t 14) 2),oI 7 (.mov (.t 17)),oI 8 (.mov (.t 18)),oI 9 (.mov (.t 19))] none [9,8,7,4,1,0]) (.seq (.seq (.region [oI 20 (.mov (.t 9)),oI 21 (.bin .neq (.t 20) (.c (.int .i64 0))),oI 22 (.mov (.t 21)),⟨(some 23),(.mov (.t 7)),(some (22,false)),[]⟩,⟨(some 24),(.mov (.t 1)),(some (22,false)),[]⟩,⟨(some 25),(.len (.t 24)),(some (22,false)),[]⟩,⟨(some 26),(.mov (.t 8)),(some (22,false)),[]⟩,⟨(some 27),(.bin .sub (.t 25) (.t 26)),(some (22,false)),[]⟩,⟨(some 28),(.bin .gtr (.t 23) (.t 27)),(some (22,false)),[]⟩,oI 29 (.pick (.t 22) (.c (.bool true)) (.t 28))] none [29,8,7,4,1,0]) (.cond (.t 29) (.seq (.region [oI 4 (.mov (.c (.lst true []))),oI 5 (.mov (.c (.int .i64 0))),oI 6 (.mov (.c (.int .i64 129)))] none [6,5,4]) .ret) .skip)) (.seq (.seq (.region [oI 30 (.mov (.t 1)),oI 31 (.mov (.t 8)),oI 32 (.mov (.t 8)),oI 33 (.mov (.t 7)),oI 34 (.bin .add (.t 32) (.t 33)),oI 35 (.slice 1 (.t 30) (some (.t 31)) (some (.t 34)) none),oI 10 (.mov (.t 35))] none [10,8,7,4,0]) (.block 0 (.loop [10,8,7,4,0] Zof))) Zm4))))
def ZkD:ZI:=⟨[(.tmp 4),(.tmp 5),(.tmp 6)],Zie⟩
theorem Znx:FC 90=some ZkD:=by kernel_rfl
theorem Znr:ZkD.body=Zie:=rfl
theorem ZhN:ZkD.res=[(.tmp 4),(.tmp 5),(.tmp 6)]:=rfl
noncomputable def ZhK (m:Nat) (tm:Tms) (σ:Za):Option (AVal×Za):=(Zap m ZkD (ZbQ FC PR BY m Zm4 (Option.map (ZaX 0) (evL FC PR BY m [10,8,7,4,0] Zof tm σ))))
def Zpx:Zf:=(.seq (.region [oI 4 (.mov (.c (.bool false)))] none [1,0]) (.seq (.region [oI 5 (.mov (.t 0)),oI 6 (.mov (.t 1)),oI 7 (.call 91 0 true [(.t 5),(.t 6),(.c (.fn 92 []))]),oI 4 (.mov (.t 7))] none [4]) .ret))
def ZmX:ZI:=⟨[(.tmp 4)],Zpx⟩
theorem ZFd:FC 43=some ZmX:=by kernel_rfl
theorem ZHe:ZmX.body=Zpx:=rfl
theorem ZMu:ZmX.res=[(.tmp 4)]:=rfl
def Zl2:Zf:=(.seq (.region [oI 2 (.box (.t 0)),oI 3 (.box (.t 1)),oI 4 (.mov (.c (.bool false)))] none [3,2]) (.seq (.region [oI 5 (.faddr 0 (.t 2)),oI 6 (.ld none (.t 5)),oI 7 (.faddr 0 (.t 3)),oI 8 (.ld none (.t 7)),oI 9 (.bin .eql (.t 6) (.t 8)),oI 10 (.mov (.t 9)),⟨(some 11),(.faddr 1 (.t 2)),(some (10,true)),[]⟩,⟨(some 12),(.ld none (.t 11)),(some (10,true)),[]⟩,⟨(some 13),(.faddr 1 (.t 3)),(some (10,true)),[]⟩,⟨(some 14),(.ld none (.t 13)),(some (10,true)),[]⟩,⟨(some 15),(.bin .eql (.t 12) (.t 14)),(some (10,true)),[]⟩,oI 16 (.pick (.t 10) (.t 15) (.c (.bool false))),oI 17 (.mov (.t 16)),⟨(some 18),(.faddr 2 (.t 2)),(some (17,true)),[]⟩,⟨(some 19),(.ld none (.t 18)),(some (17,true)),[]⟩,⟨(some 20),(.faddr 2 (.t 3)),(some (17,true)),[]⟩,⟨(some 21),(.ld none (.t 20)),(some (17,true)),[]⟩,⟨(some 22),(.bin .eql (.t 19) (.t 21)),(some (17,true)),[]⟩,oI 23 (.pick (.t 17) (.t 22) (.c (.bool false))),oI 24 (.mov (.t 23)),⟨(some 25),(.faddr 3 (.t 2)),(some (24,true)),[]⟩,⟨(some 26),(.ld none (.t 25)),(some (24,true)),[]⟩,⟨(some 27),(.faddr 3 (.t 3)),(some (24,true)),[]⟩,⟨(some 28),(.ld none (.t 27)),(some (24,true)),[]⟩,⟨(some 29),(.bin .eql (.t 26) (.t 28)),(some (24,true)),[]⟩,oI 30 (.pick (.t 24) (.t 29) (.c (.bool false))),oI 31 (.mov (.t 30)),⟨(some 32),(.faddr 4 (.t 2)),(some (31,true)),[]⟩,⟨(some 33),(.ld none (.t 32)),(some (31,true)),[]⟩,⟨(some 34),(.b2s (.t 33)),(some (31,true)),[]⟩,⟨(some 35),(.faddr 4 (.t 3)),(some (31,true)),[]⟩,⟨(some 36),(.ld none (.t 35)),(some (31,true)),[]⟩,⟨(some 37),(.b2s (.t 36)),(some (31,true)),[]⟩,⟨(some 38),(.bin .eql (.t 34) (.t 37)),(some (31,true)),[]⟩,oI 39 (.pick (.t 31) (.t 38) (.c (.bool false))),oI 4 (.mov (.t 39))] none [4]) .ret))
def Zox:ZI:=⟨[(.tmp 4)],Zl2⟩
theorem ZIZ:FC 92=some Zox:=by kernel_rfl
theorem ZCf:Zox.body=Zl2:=rfl
theorem ZKD:Zox.res=[(.tmp 4)]:=rfl
def ZpW:Zf:=(.seq (.region [oI 1 (.box (.t 0)),oI 2 (.alloc [(.int .i64 0),(.int .i64 0),(.str []),(.str []),(.lst true [])])] none [2,1]) (.seq (.region [oI 3 (.faddr 4 (.t 1)),oI 4 (.ld none (.t 3)),oI 5 (.call 111 0 true [(.t 4)]),oI 6 (.faddr 4 (.t 1)),oN (.st 1 (.t 6) (.t 5))] none [2,1]) (.seq (.region [oI 7 (.ld (some 5) (.t 1)),oN (.st 5 (.t 2) (.t 7))] none [2]) .ret)))
def ZnU:ZI:=⟨[(.cell 2 (some 5))],ZpW⟩
theorem Zwd:FC 147=some ZnU:=by kernel_rfl
theorem ZIH:ZnU.body=ZpW:=rfl
theorem ZMZ:ZnU.res=[(.cell 2 (some 5))]:=rfl
def Znf:Zf:=(.seq (.region [oI 1 (.box (.t 0)),oI 2 (.mov (.c (.bool false)))] none [1]) (.seq (.seq (.region [oI 3 (.faddr 0 (.t 1)),oI 4 (.ld none (.t 3))] none [4,1]) (.block 0 (.seq (.seq (.region [oI 6 (.bin .eql (.t 4) (.c (.int .i64 11))),oI 5 (.mov (.t 6))] none [5,4,1]) (.cond (.t 5) .skip (.seq (.region [oI 7 (.bin .eql (.t 4) (.c (.int .i64 33))),oI 5 (.mov (.t 7))] none [5,4,1]) (.cond (.t 5) .skip (.seq (.region [oI 8 (.bin .eql (.t 4) (.c (.int .i64 35))),oI 5 (.mov (.t 8))] none [5,4,1]) (.cond (.t 5) .skip (.region [oI 9 (.bin .eql (.t 4) (.c (.int .i64 39))),oI 5 (.mov (.t 9))] none [5,1]))))))) (.cond (.t 5) (.seq (.region [oI 10 (.faddr 1 (.t 1)),oI 11 (.ld none (.t 10)),oI 12 (.bin .neq (.t 11) (.c (.int .i64 0))),oI 2 (.mov (.t 12))] none [2]) .ret) .skip)))) (.seq (.region [oI 13 (.faddr 0 (.t 1)),oI 14 (.ld none (.t 13)),oI 15 (.call 134 0 true [(.t 14)]),oI 16 (.bin .neq (.t 15) (.c (.int .i64 1))),oI 17 (.mov (.t 16)),⟨(some 18),(.faddr 1 (.t 1)),(some (17,false)),[]⟩,⟨(some 19),(.ld none (.t 18)),(some (17,false)),[]⟩,⟨(some 20),(.bin .leq (.t 19) (.c (.int .i64 1))),(some (17,false)),[]⟩,oI 21 (.pick (.t 17) (.c (.bool true)) (.t 20)),oI 2 (.mov (.t 21))] none [2]) .ret)))
def ZmB:ZI:=⟨[(.tmp 2)],Znf⟩
theorem ZFk:FC 156=some ZmB:=by kernel_rfl
theorem ZJF:ZmB.body=Znf:=rfl
theorem ZBd:ZmB.res=[(.tmp 2)]:=rfl
def Zey:Zf:=(.seq (.region [oI 1 (.box (.t 0)),oI 2 (.mov (.c (.lst true [])))] none [1]) (.seq (.region [oI 8 (.faddr 0 (.t 1)),oI 9 (.ld none (.t 8)),oI 10 (.call 82 0 true [(.t 9)]),oI 7 (.mov (.t 10)),oI 11 (.ext (.t 7) 0),oI 12 (.ext (.t 7) 1),oI 3 (.mov (.t 11)),oI 4 (.mov (.t 12))] none [3,1]) (.seq (.region [oI 5 (.mov (.c (.lst true []))),oI 6 (.mov (.c (.lst true [])))] none [6,5,3,1]) (.seq (.seq (.region [oI 13 (.faddr 0 (.t 1)),oI 14 (.ld none (.t 13)),oI 15 (.call 134 0 true [(.t 14)])] none [15,6,5,3,1]) (.block 0 (.seq (.seq (.region [oI 17 (.bin .eql (.t 15) (.c (.int .i64 1))),oI 16 (.mov (.t 17))] none [16,15,6,5,3,1]) (.cond (.t 16) .skip (.seq (.region [oI 18 (.bin .eql (.t 15) (.c (.int .i64 2))),oI 16 (.mov (.t 18))] none [16,15,6,5,3,1]) (.cond (.t 16) .skip (.region [oI 19 (.bin .eql (.t 15) (.c (.int .i64 3))),oI 16 (.mov (.t 19))] none [16,15,6,5,3,1]))))) (.cond (.t 16) (.region [oI 20 (.faddr 1 (.t 1)),oI 21 (.ld none (.t 20)),oI 22 (.i2i .u64 (.t 21)),oI 23 (.faddr 0 (.t 1)),oI 24 (.ld none (.t 23)),oI 25 (.call 134 0 true [(.t 24)]),oI 26 (.bin .sub (.t 25) (.c (.int .i64 1))),oI 27 (.bin .shl (.c (.int .i64 1)) (.t 26)),oI 28 (.call 59 0 true [(.t 22),(.t 27)]),oI 5 (.mov (.t 28))] (some [(1,4),(1,5),(5,5),(8,8)]) [6,5,3]) (.seq (.region [oI 30 (.bin .eql (.t 15) (.c (.int .i64 4))),oI 29 (.mov (.t 30))] none [29,15,6,5,3,1]) (.cond (.t 29) (.region [oI 32 (.faddr 1 (.t 1)),oI 33 (.ld none (.t 32)),oI 34 (.call 82 0 true [(.t 33)]),oI 31 (.mov (.t 34)),oI 35 (.ext (.t 31) 0),oI 36 (.ext (.t 31) 1),oI 5 (.mov (.t 35))] none [6,5,3]) (.seq (.region [oI 38 (.bin .eql (.t 15) (.c (.int .i64 5))),oI 37 (.mov (.t 38))] none [37,15,6,5,3,1]) (.cond (.t 37) (.region [oI 40 (.faddr 2 (.t 1)),oI 41 (.ld none (.t 40)),oI 42 (.call 54 0 true [(.t 41)]),oI 39 (.mov (.t 42)),oI 43 (.ext (.t 39) 0),oI 44 (.ext (.t 39) 1),oI 5 (.mov (.t 43))] none [6,5,3]) (.seq (.region [oI 46 (.bin .eql (.t 15) (.c (.int .i64 6))),oI 45 (.mov (.t 46))] none [45,15,6,5,3,1]) (.cond (.t 45) (.region [oI 48 (.faddr 4 (.t 1)),oI 49 (.ld none (.t 48)),oI 50 (.call 55 0 true [(.t 49)]),oI 47 (.mov (.t 50)),oI 51 (.ext (.t 47) 0),oI 52 (.ext (.t 47) 1),oI 5 (.mov (.t 51))] none [6,5,3]) (.seq (.region [oI 54 (.bin .eql (.t 15) (.c (.int .i64 7))),oI 53 (.mov (.t 54))] none [53,6,5,3,1]) (.cond (.t 53) (.seq (.region [oI 56 (.faddr 2 (.t 1)),oI 57 (.ld none (.t 56)),oI 58 (.call 54 0 true [(.t 57)]),oI 55 (.mov (.t 58)),oI 59 (.ext (.t 55) 0),oI 60 (.ext (.t 55) 1),oI 5 (.mov (.t 59))] none [5,3,1]) (.region [oI 62 (.faddr 3 (.t 1)),oI 63 (.ld none (.t 62)),oI 64 (.call 54 0 true [(.t 63)]),oI 61 (.mov (.t 64)),oI 65 (.ext (.t 61) 0),oI 66 (.ext (.t 61) 1),oI 6 (.mov (.t 65))] none [6,5,3])) .skip)))))))))))) (.seq (.region [oI 67 (.mov (.t 3)),oI 68 (.mov (.t 5)),oI 69 (.mov (.t 6)),oI 70 (.bslice false 1 3 (.lst true []) [(0,(.t 67)),(1,(.t 68)),(2,(.t 69))]),oI 71 (.call 56 0 true [(.t 70)]),oI 2 (.mov (.t 71))] none [2]) .ret)))))
def ZnS:ZI:=⟨[(.tmp 2)],Zey⟩
theorem Zge:FC 89=some ZnS:=by kernel_rfl
theorem Zgc:ZnS.body=Zey:=rfl
theorem Zfx:ZnS.res=[(.tmp 2)]:=rfl
def Znw:Zf:=(.seq (.region [oI 2 (.alloc [(.int .i64 0),(.int .i64 0)])] none [2,0]) (.seq (.seq (.region [oI 3 (.mov (.t 0))] none [3,2]) (.block 0 (.seq (.region [oI 5 (.bin .eql (.t 3) (.c (.int .i64 1))),oI 4 (.mov (.t 5))] none [4,3,2]) (.cond (.t 4) (.seq (.region [oI 6 (.bslice false 1 2 (.int .i64 0) [(0,(.c (.int .i64 3))),(1,(.c (.int .i64 16)))]),oI 7 (.call 162 0 true [(.t 6)]),oI 8 (.build [(.int .i64 0),(.int .i64 0)] [(0,1,(.c (.int .i64 1))),(1,1,(.t 7))]),oN (.st 2 (.t 2) (.t 8))] none [2]) .ret) (.seq (.region [oI 10 (.bin .eql (.t 3) (.c (.int .i64 2))),oI 9 (.mov (.t 10))] none [9,3,2]) (.cond (.t 9) (.seq (.region [oI 11 (.bslice false 1 2 (.int .i64 0) [(0,(.c (.int .i64 3))),(1,(.c (.int .i64 16)))]),oI 12 (.call 162 0 true [(.t 11)]),oI 13 (.build [(.int .i64 0),(.int .i64 0)] [(0,1,(.c (.int .i64 3))),(1,1,(.t 12))]),oN (.st 2 (.t 2) (.t 13))] none [2]) .ret) (.seq (.seq (.region [oI 15 (.bin .eql (.t 3) (.c (.int .i64 3))),oI 14 (.mov (.t 15))] none [14,3,2]) (.cond (.t 14) .skip (.region [oI 16 (.bin .eql (.t 3) (.c (.int .i64 8))),oI 14 (.mov (.t 16))] none [14,3,2]))) (.cond (.t 14) (.seq (.region [oI 17 (.bslice false 1 2 (.int .i64 0) [(0,(.c (.int .i64 3))),(1,(.c (.int .i64 16)))]),oI 18 (.call 162 0 true [(.t 17)]),oI 19 (.build [(.int .i64 0),(.int .i64 0)] [(0,1,(.c (.int .i64 5))),(1,1,(.t 18))]),oN (.st 2 (.t 2) (.t 19))] none [2]) .ret) (.seq (.region [oI 21 (.bin .eql (.t 3) (.c (.int .i64 9))),oI 20 (.mov (.t 21))] none [20,3,2]) (.cond (.t 20) (.seq (.region [oI 22 (.bslice false 1 2 (.int .i64 0) [(0,(.c (.int .i64 3))),(1,(.c (.int .i64 16)))]),oI 23 (.call 162 0 true [(.t 22)]),oI 24 (.build [(.int .i64 0),(.int .i64 0)] [(0,1,(.c (.int .i64 6))),(1,1,(.t 23))]),oN (.st 2 (.t 2) (.t 24))] none [2]) .ret) (.seq (.region [oI 26 (.bin .eql (.t 3) (.c (.int .i64 11))),oI 25 (.mov (.t 26))] none [25,3,2]) (.cond (.t 25) (.seq (.region [oI 27 (.bslice false 1 2 (.int .i64 0) [(0,(.c (.int .i64 3))),(1,(.c (.int .i64 8)))]),oI 28 (.call 162 0 true [(.t 27)]),oI 29 (.build [(.int .i64 0),(.int .i64 0)] [(0,1,(.c (.int .i64 4))),(1,1,(.t 28))]),oN (.st 2 (.t 2) (.t 29))] none [2]) .ret) (.seq (.region [oI 31 (.bin .eql (.t 3) (.c (.int .i64 17))),oI 30 (.mov (.t 31))] none [30,3,2]) (.cond (.t 30) (.seq (.region [oI 32 (.bslice false 1 3 (.int .i64 0) [(0,(.c (.int .i64 1))),(1,(.c (.int .i64 2))),(2,(.c (.int .i64 14)))]),oI 33 (.call 162 0 true [(.t 32)]),oI 34 (.build [(.int .i64 0),(.int .i64 0)] [(0,1,(.c (.int .i64 3))),(1,1,(.t 33))]),oN (.st 2 (.t 2) (.t 34))] none [2]) .ret) (.seq (.seq (.region [oI 36 (.bin .eql (.t 3) (.c (.int .i64 18))),oI 35 (.mov (.t 36))] none [35,3,2]) (.cond (.t 35) .skip (.region [oI 37 (.bin .eql (.t 3) (.c (.int .i64 26))),oI 35 (.mov (.t 37))] none [35,3,2]))) (.cond (.t 35) (.seq (.region [oI 38 (.bslice false 1 1 (.int .i64 0) [(0,(.c (.int .i64 2)))]),oI 39 (.call 162 0 true [(.t 38)]),oI 40 (.build [(.int .i64 0),(.int .i64 0)] [(0,1,(.c (.int .i64 5))),(1,1,(.t 39))]),oN (.st 2 (.t 2) (.t 40))] none [2]) .ret) (.seq (.region [oI 42 (.bin .eql (.t 3) (.c (.int .i64 19))),oI 41 (.mov (.t 42))] none [41,3,2]) (.cond (.t 41) (.seq (.region [oI 43 (.bslice false 1 1 (.int .i64 0) [(0,(.c (.int .i64 2)))]),oI 44 (.call 162 0 true [(.t 43)]),oI 45 (.build [(.int .i64 0),(.int .i64 0)] [(0,1,(.c (.int .i64 2))),(1,1,(.t 44))]),oN (.st 2 (.t 2) (.t 45))] none [2]) .ret) (.seq (.region [oI 47 (.bin .eql (.t 3) (.c (.int .i64 21))),oI 46 (.mov (.t 47))] none [46,3,2]) (.cond (.t 46) (.seq (.region [oI 48 (.bslice false 1 3 (.int .i64 0) [(0,(.c (.int .i64 1))),(1,(.c (.int .i64 2))),(2,(.c (.int .i64 15)))]),oI 49 (.call 162 0 true [(.t 48)]),oI 50 (.build [(.int .i64 0),(.int .i64 0)] [(0,1,(.c (.int .i64 5))),(1,1,(.t 49))]),oN (.st 2 (.t 2) (.t 50))] none [2]) .ret) (.seq (.region [oI 52 (.bin .eql (.t 3) (.c (.int .i64 22))),oI 51 (.mov (.t 52))] none [51,3,2]) (.cond (.t 51) (.seq (.region [oI 53 (.bslice false 1 3 (.int .i64 0) [(0,(.c (.int .i64 1))),(1,(.c (.int .i64 2))),(2,(.c (.int .i64 15)))]),oI 54 (.call 162 0 true [(.t 53)]),oI 55 (.build [(.int .i64 0),(.int .i64 0)] [(0,1,(.c (.int .i64 6))),(1,1,(.t 54))]),oN (.st 2 (.t 2) (.t 55))] none [2]) .ret) (.seq (.seq (.region [oI 57 (.bin .eql (.t 3) (.c (.int .i64 23))),oI 56 (.mov (.t 57))] none [56,3,2]) (.cond (.t 56) .skip (.region [oI 58 (.bin .eql (.t 3) (.c (.int .i64 25))),oI 56 (.mov (.t 58))] none [56,3,2]))) (.cond (.t 56) (.seq (.region [oI 59 (.bslice false 1 1 (.int .i64 0) [(0,(.c (.int .i64 1)))]),oI 60 (.call 162 0 true [(.t 59)]),oI 61 (.build [(.int .i64 0),(.int .i64 0)] [(0,1,(.c (.int .i64 1))),(1,1,(.t 60))]),oN (.st 2 (.t 2) (.t 61))] none [2]) .ret) (.seq (.region [oI 63 (.bin .eql (.t 3) (.c (.int .i64 24))),oI 62 (.mov (.t 63))] none [62,3,2]) (.cond (.t 62) (.seq (.region [oI 64 (.bslice false 1 1 (.int .i64 0) [(0,(.c (.int .i64 16)))]),oI 65 (.call 162 0 true [(.t 64)]),oI 66 (.build [(.int .i64 0),(.int .i64 0)] [(0,1,(.c (.int .i64 3))),(1,1,(.t 65))]),oN (.st 2 (.t 2) (.t 66))] none [2]) .ret) (.seq (.region [oI 68 (.bin .eql (.t 3) (.c (.int .i64 28))),oI 67 (.mov (.t 68))] none [67,3,2]) (.cond (.t 67) (.seq (.region [oI 69 (.bslice false 1 2 (.int .i64 0) [(0,(.c (.int .i64 2))),(1,(.c (.int .i64 14)))]),oI 70 (.call 162 0 true [(.t 69)]),oI 71 (.build [(.int .i64 0),(.int .i64 0)] [(0,1,(.c (.int .i64 5))),(1,1,(.t 70))]),oN (.st 2 (.t 2) (.t 71))] none [2]) .ret) (.seq (.region [oI 73 (.bin .eql (.t 3) (.c (.int .i64 31))),oI 72 (.mov (.t 73))] none [72,3,2]) (.cond (.t 72) (.seq (.region [oI 74 (.bslice false 1 9 (.int .i64 0) [(0,(.c (.int .i64 2))),(1,(.c (.int .i64 4))),(2,(.c (.int .i64 5))),(3,(.c (.int .i64 6))),(4,(.c (.int .i64 7))),(5,(.c (.int .i64 9))),(6,(.c (.int .i64 11))),(7,(.c (.int .i64 14))),(8,(.c (.int .i64 15)))]),oI 75 (.call 162 0 true [(.t 74)]),oI 76 (.build [(.int .i64 0),(.int .i64 0)] [(0,1,(.c (.int .i64 5))),(1,1,(.t 75))]),oN (.st 2 (.t 2) (.t 76))] none [2]) .ret) (.seq (.seq (.region [oI 78 (.bin .eql (.t 3) (.c (.int .i64 33))),oI 77 (.mov (.t 78))] none [77,3,2]) (.cond (.t 77) .skip (.region [oI 79 (.bin .eql (.t 3) (.c (.int .i64 34))),oI 77 (.mov (.t 79))] none [77,3,2]))) (.cond (.t 77) (.seq (.region [oI 80 (.bslice false 1 2 (.int .i64 0) [(0,(.c (.int .i64 1))),(1,(.c (.int .i64 2)))]),oI 81 (.call 162 0 true [(.t 80)]),oI 82 (.build [(.int .i64 0),(.int .i64 0)] [(0,1,(.c (.int .i64 2))),(1,1,(.t 81))]),oN (.st 2 (.t 2) (.t 82))] none [2]) .ret) (.seq (.region [oI 84 (.bin .eql (.t 3) (.c (.int .i64 35))),oI 83 (.mov (.t 84))] none [83,3,2]) (.cond (.t 83) (.seq (.region [oI 85 (.bslice false 1 1 (.int .i64 0) [(0,(.c (.int .i64 3)))]),oI 86 (.call 162 0 true [(.t 85)]),oI 87 (.build [(.int .i64 0),(.int .i64 0)] [(0,1,(.c (.int .i64 2))),(1,1,(.t 86))]),oN (.st 2 (.t 2) (.t 87))] none [2]) .ret) (.seq (.region [oI 89 (.bin .eql (.t 3) (.c (.int .i64 39))),oI 88 (.mov (.t 89))] none [88,3,2]) (.cond (.t 88) (.seq (.region [oI 90 (.bslice false 1 2 (.int .i64 0) [(0,(.c (.int .i64 1))),(1,(.c (.int .i64 2)))]),oI 91 (.call 162 0 true [(.t 90)]),oI 92 (.build [(.int .i64 0),(.int .i64 0)] [(0,1,(.c (.int .i64 3))),(1,1,(.t 91))]),oN (.st 2 (.t 2) (.t 92))] none [2]) .ret) (.seq (.seq (.region [oI 94 (.bin .eql (.t 3) (.c (.int .i64 36))),oI 93 (.mov (.t 94))] none [93,3,2]) (.cond (.t 93) .skip (.seq (.region [oI 95 (.bin .eql (.t 3) (.c (.int .i64 37))),oI 93 (.mov (.t 95))] none [93,3,2]) (.cond (.t 93) .skip (.seq (.region [oI 96 (.bin .eql (.t 3) (.c (.int .i64 40))),oI 93 (.mov (.t 96))] none [93,3,2]) (.cond (.t 93) .skip (.seq (.region [oI 97 (.bin .eql (.t 3) (.c (.int .i64 41))),oI 93 (.mov (.t 97))] none [93,3,2]) (.cond (.t 93) .skip (.region [oI 98 (.bin .eql (.t 3) (.c (.int .i64 42))),oI 93 (.mov (.t 98))] none [93,3,2]))))))))) (.cond (.t 93) (.seq (.region [oI 99 (.bslice false 1 1 (.int .i64 0) [(0,(.c (.int .i64 2)))]),oI 100 (.call 162 0 true [(.t 99)]),oI 101 (.build [(.int .i64 0),(.int .i64 0)] [(0,1,(.c (.int .i64 1))),(1,1,(.t 100))]),oN (.st 2 (.t 2) (.t 101))] none [2]) .ret) (.seq (.region [oI 103 (.bin .eql (.t 3) (.c (.int .i64 38))),oI 102 (.mov (.t 103))] none [102,2]) (.cond (.t 102) (.seq (.region [oI 104 (.bslice false 1 3 (.int .i64 0) [(0,(.c (.int .i64 0))),(1,(.c (.int .i64 12))),(2,(.c (.int .i64 13)))]),oI 105 (.call 162 0 true [(.t 104)]),oI 106 (.un .xor (.t 105)),oI 107 (.build [(.int .i64 0),(.int .i64 0)] [(0,1,(.c (.int .i64 7))),(1,1,(.t 106))]),oN (.st 2 (.t 2) (.t 107))] none [2]) .ret) .skip)))))))))))))))))))))))))))))))))))))))) (.seq (.region [oI 108 (.build [(.int .i64 0),(.int .i64 0)] []),oN (.st 2 (.t 2) (.t 108))] none [2]) .ret)))
def ZmJ:ZI:=⟨[(.cell 2 (some 2))],Znw⟩
theorem ZF4:FC 152=some ZmJ:=by kernel_rfl
theorem ZJc:ZmJ.body=Znw:=rfl
theorem ZxX:ZmJ.res=[(.cell 2 (some 2))]:=rfl
def Zob:Zf:=(.seq (.region [oI 4 (.mov (.c (.bool false)))] none [1,0]) (.seq (.region [oI 5 (.mov (.t 0)),oI 6 (.bin .eql (.t 5) (.c (.int .i64 38))),oI 7 (.mov (.t 6)),⟨(some 8),(.mov (.t 0)),(some (7,false)),[]⟩,⟨(some 9),(.bin .eql (.t 8) (.c (.int .i64 11))),(some (7,false)),[]⟩,⟨(some 10),(.mov (.t 9)),(some (7,false)),[]⟩,⟨(some 11),(.mov (.t 1)),(some (10,true)),[]⟩,⟨(some 12),(.bin .eql (.t 11) (.c (.int .i64 3))),(some (10,true)),[]⟩,⟨(some 13),(.pick (.t 10) (.t 12) (.c (.bool false))),(some (7,false)),[]⟩,oI 14 (.pick (.t 7) (.c (.bool true)) (.t 13)),oI 4 (.mov (.t 14))] none [4]) .ret))
def ZmC:ZI:=⟨[(.tmp 4)],Zob⟩
theorem ZAA:FC 155=some ZmC:=by kernel_rfl
theorem ZHb:ZmC.body=Zob:=rfl
theorem ZCi:ZmC.res=[(.tmp 4)]:=rfl
def Zeg:Zf:=(.seq (.region [oI 6 (.alloc [(.int .i64 0),(.int .i64 0),(.str []),(.str []),(.lst true [])]),oI 7 (.mov (.c (.int .i64 0))),oI 8 (.mov (.c (.int .i64 0)))] none [6,2,1,0]) (.seq (.region [oI 16 (.mov (.t 1)),oI 17 (.call 135 0 true [(.t 16)]),oI 15 (.mov (.t 17)),oI 18 (.ext (.t 15) 0),oI 19 (.ext (.t 15) 1),oI 20 (.ext (.t 15) 2),oI 9 (.mov (.t 18)),oI 10 (.mov (.t 19)),oI 11 (.mov (.t 20))] none [11,10,9,6,2,1,0]) (.seq (.seq (.region [oI 21 (.mov (.t 11)),oI 22 (.bin .neq (.t 21) (.c (.int .i64 0))),oI 23 (.mov (.t 22)),⟨(some 24),(.mov (.t 9)),(some (23,false)),[]⟩,⟨(some 25),(.mov (.t 0)),(some (23,false)),[]⟩,⟨(some 26),(.call 153 0 true [(.t 24),(.t 25)]),(some (23,false)),[]⟩,⟨(some 27),(.un .not (.t 26)),(some (23,false)),[]⟩,oI 28 (.pick (.t 23) (.c (.bool true)) (.t 27))] none [28,10,9,6,2,1,0]) (.cond (.t 28) (.seq (.region [oI 29 (.ld (some 5) (.t 6)),oN (.st 5 (.t 6) (.t 29)),oI 7 (.mov (.c (.int .i64 0))),oI 8 (.mov (.c (.int .i64 129)))] none [8,7,6]) .ret) .skip)) (.seq (.region [oI 31 (.mov (.t 9)),oI 32 (.mov (.t 1)),oI 33 (.mov (.t 10)),oI 34 (.slice 1 (.t 32) (some (.t 33)) none none),oI 35 (.call 154 0 true [(.t 31),(.t 34)]),oI 30 (.mov (.t 35)),oI 36 (.ext (.t 30) 0),oI 37 (.ext (.t 30) 1),oI 38 (.ext (.t 30) 2),oN (.st 5 (.t 6) (.t 36)),oI 7 (.mov (.t 37)),oI 12 (.mov (.t 38))] none [12,10,9,7,6,2,0]) (.seq (.region [oI 40 (.mov (.t 9)),oI 41 (.mov (.t 2)),oI 42 (.call 112 0 true [(.t 40),(.t 41)]),oI 39 (.mov (.t 42)),oI 43 (.ext (.t 39) 0),oI 44 (.ext (.t 39) 1),oI 13 (.alloc [(.int .i64 0),(.int .i64 0),(.str []),(.str []),(.lst true [])]),oN (.st 5 (.t 13) (.t 43)),oI 14 (.mov (.t 44))] none [14,12,10,9,7,6,0]) (.seq (.block 0 (.seq (.region [oI 46 (.mov (.t 12)),oI 47 (.un .not (.t 46)),oI 45 (.mov (.t 47))] none [45,14,10,9,7,6,0]) (.cond (.t 45) (.seq (.region [oI 48 (.ld (some 5) (.t 6)),oN (.st 5 (.t 6) (.t 48)),oI 7 (.mov (.c (.int .i64 0))),oI 8 (.mov (.c (.int .i64 129)))] none [8,7,6]) .ret) (.seq (.region [oI 50 (.mov (.t 14)),oI 51 (.mov (.t 50)),⟨(some 52),(.mov (.t 9)),(some (51,true)),[]⟩,⟨(some 53),(.mov (.t 0)),(some (51,true)),[]⟩,⟨(some 54),(.call 155 0 true [(.t 52),(.t 53)]),(some (51,true)),[]⟩,⟨(some 55),(.un .not (.t 54)),(some (51,true)),[]⟩,oI 56 (.pick (.t 51) (.t 55) (.c (.bool false))),oI 49 (.mov (.t 56))] none [49,10,9,7,6]) (.cond (.t 49) (.seq (.region [oI 57 (.ld (some 5) (.t 6)),oN (.st 5 (.t 6) (.t 57)),oI 7 (.mov (.c (.int .i64 0))),oI 8 (.mov (.c (.int .i64 130)))] none [8,7,6]) .ret) (.seq (.region [oI 59 (.ld (some 5) (.t 6)),oI 60 (.call 156 0 true [(.t 59)]),oI 58 (.mov (.t 60))] none [58,10,9,7,6]) (.cond (.t 58) (.seq (.region [oI 61 (.ld (some 5) (.t 6)),oI 62 (.mov (.t 10)),oI 63 (.mov (.t 7)),oI 64 (.bin .add (.t 62) (.t 63)),oN (.st 5 (.t 6) (.t 61)),oI 7 (.mov (.t 64)),oI 8 (.mov (.c (.int .i64 0)))] none [8,7,6]) .ret) (.seq (.region [oI 66 (.mov (.t 9)),oI 67 (.bin .eql (.t 66) (.c (.int .i64 35))),oI 65 (.mov (.t 67))] none [65,6]) (.cond (.t 65) (.seq (.region [oI 68 (.ld (some 5) (.t 6)),oN (.st 5 (.t 6) (.t 68)),oI 7 (.mov (.c (.int .i64 0))),oI 8 (.mov (.c (.int .i64 148)))] none [8,7,6]) .ret) .skip))))))))) (.seq (.region [oI 69 (.ld (some 5) (.t 6)),oN (.st 5 (.t 6) (.t 69)),oI 7 (.mov (.c (.int .i64 0))),oI 8 (.mov (.c (.int .i64 130)))] none [8,7,6]) .ret)))))))
def Zpw:ZI:=⟨[(.cell 6 (some 5)),(.tmp 7),(.tmp 8)],Zeg⟩
theorem Zfp:FC 136=some Zpw:=by kernel_rfl
theorem Zfs:Zpw.body=Zeg:=rfl
theorem ZfX:Zpw.res=[(.cell 6 (some 5)),(.tmp 7),(.tmp 8)]:=rfl
def ZcV:Zf:=(.seq (.region [oI 4 (.alloc [(.int .i64 0),(.int .i64 0),(.str []),(.str []),(.lst true [])]),oI 5 (.mov (.c (.int .i64 0))),oI 6 (.mov (.c (.bool false)))] none [5,4,1,0]) (.seq (.region [oI 9 (.mov (.t 0)),oI 10 (.faddr 0 (.t 4)),oN (.st 1 (.t 10) (.t 9))] none [5,4,1,0]) (.seq (.region [oI 7 (.mov (.c (.int .i64 0)))] none [7,5,4,1,0]) (.seq (.seq (.region [oI 11 (.mov (.t 0)),oI 12 (.call 134 0 true [(.t 11)])] none [12,7,5,4,1,0]) (.block 0 (.seq (.seq (.region [oI 14 (.bin .eql (.t 12) (.c (.int .i64 1))),oI 13 (.mov (.t 14))] none [13,12,7,5,4,1,0]) (.cond (.t 13) .skip (.seq (.region [oI 15 (.bin .eql (.t 12) (.c (.int .i64 2))),oI 13 (.mov (.t 15))] none [13,12,7,5,4,1,0]) (.cond (.t 13) .skip (.region [oI 16 (.bin .eql (.t 12) (.c (.int .i64 3))),oI 13 (.mov (.t 16))] none [13,12,7,5,4,1,0]))))) (.cond (.t 13) (.seq (.region [oI 17 (.mov (.t 0)),oI 18 (.call 134 0 true [(.t 17)]),oI 19 (.bin .sub (.t 18) (.c (.int .i64 1))),oI 20 (.bin .shl (.c (.int .i64 1)) (.t 19)),oI 5 (.mov (.t 20))] none [7,5,4,1]) (.seq (.seq (.region [oI 21 (.mov (.t 1)),oI 22 (.len (.t 21)),oI 23 (.mov (.t 5)),oI 24 (.bin .lss (.t 22) (.t 23))] none [24,7,5,4,1]) (.cond (.t 24) (.seq (.region [oI 25 (.ld (some 5) (.t 4)),oN (.st 5 (.t 4) (.t 25)),oI 5 (.mov (.c (.int .i64 0))),oI 6 (.mov (.c (.bool false)))] none [6,5,4]) .ret) .skip)) (.region [oI 26 (.mov (.t 1)),oI 27 (.mov (.t 5)),oI 28 (.slice 1 (.t 26) none (some (.t 27)) none),oI 29 (.call 108 0 true [(.t 28)]),oI 30 (.i2i .i64 (.t 29)),oI 31 (.faddr 1 (.t 4)),oN (.st 1 (.t 31) (.t 30))] none [7,5,4]))) (.seq (.region [oI 33 (.bin .eql (.t 12) (.c (.int .i64 4))),oI 32 (.mov (.t 33))] none [32,12,7,5,4,1]) (.cond (.t 32) (.region [oI 35 (.mov (.t 1)),oI 36 (.call 135 0 true [(.t 35)]),oI 34 (.mov (.t 36)),oI 37 (.ext (.t 34) 0),oI 38 (.ext (.t 34) 1),oI 39 (.ext (.t 34) 2),oI 40 (.faddr 1 (.t 4)),oN (.st 1 (.t 40) (.t 37)),oI 5 (.mov (.t 38)),oI 7 (.mov (.t 39))] none [7,5,4]) (.seq (.region [oI 42 (.bin .eql (.t 12) (.c (.int .i64 5))),oI 41 (.mov (.t 42))] none [41,12,7,5,4,1]) (.cond (.t 41) (.region [oI 44 (.mov (.t 1)),oI 45 (.call 109 0 true [(.t 44)]),oI 43 (.mov (.t 45)),oI 46 (.ext (.t 43) 0),oI 47 (.ext (.t 43) 1),oI 48 (.ext (.t 43) 2),oI 49 (.faddr 2 (.t 4)),oN (.st 1 (.t 49) (.t 46)),oI 5 (.mov (.t 47)),oI 7 (.mov (.t 48))] none [7,5,4]) (.seq (.region [oI 51 (.bin .eql (.t 12) (.c (.int .i64 6))),oI 50 (.mov (.t 51))] none [50,12,7,5,4,1]) (.cond (.t 50) (.region [oI 53 (.mov (.t 1)),oI 54 (.call 106 0 true [(.t 53)]),oI 52 (.mov (.t 54)),oI 55 (.ext (.t 52) 0),oI 56 (.ext (.t 52) 1),oI 57 (.ext (.t 52) 2),oI 58 (.faddr 4 (.t 4)),oN (.st 1 (.t 58) (.t 55)),oI 5 (.mov (.t 56)),oI 7 (.mov (.t 57))] none [7,5,4]) (.seq (.region [oI 60 (.bin .eql (.t 12) (.c (.int .i64 7))),oI 59 (.mov (.t 60))] none [59,7,5,4,1]) (.cond (.t 59) (.seq (.region [oI 62 (.mov (.t 1)),oI 63 (.call 109 0 true [(.t 62)]),oI 61 (.mov (.t 63)),oI 64 (.ext (.t 61) 0),oI 65 (.ext (.t 61) 1),oI 66 (.ext (.t 61) 2),oI 67 (.faddr 2 (.t 4)),oN (.st 1 (.t 67) (.t 64)),oI 5 (.mov (.t 65)),oI 7 (.mov (.t 66))] none [7,5,4,1]) (.seq (.region [oI 68 (.mov (.t 7)),oI 69 (.bin .eql (.t 68) (.c (.int .i64 0)))] none [69,7,5,4,1]) (.cond (.t 69) (.seq (.region [oI 8 (.mov (.c (.int .i64 0)))] none [5,4,1]) (.seq (.region [oI 71 (.mov (.t 1)),oI 72 (.mov (.t 5)),oI 73 (.slice 1 (.t 71) (some (.t 72)) none none),oI 74 (.call 109 0 true [(.t 73)]),oI 70 (.mov (.t 74)),oI 75 (.ext (.t 70) 0),oI 76 (.ext (.t 70) 1),oI 77 (.ext (.t 70) 2),oI 78 (.faddr 3 (.t 4)),oN (.st 1 (.t 78) (.t 75)),oI 8 (.mov (.t 76)),oI 7 (.mov (.t 77))] none [8,7,5,4]) (.region [oI 79 (.mov (.t 5)),oI 80 (.mov (.t 8)),oI 81 (.bin .add (.t 79) (.t 80)),oI 5 (.mov (.t 81))] none [7,5,4]))) .skip))) .skip)))))))))))) (.seq (.region [oI 82 (.ld (some 5) (.t 4)),oI 83 (.mov (.t 5)),oI 84 (.mov (.t 7)),oI 85 (.bin .eql (.t 84) (.c (.int .i64 0))),oN (.st 5 (.t 4) (.t 82)),oI 5 (.mov (.t 83)),oI 6 (.mov (.t 85))] none [6,5,4]) .ret)))))
def Zol:ZI:=⟨[(.cell 4 (some 5)),(.tmp 5),(.tmp 6)],ZcV⟩
theorem Zd2:FC 154=some Zol:=by kernel_rfl
theorem Zdo:Zol.body=ZcV:=rfl
theorem Zdz:Zol.res=[(.cell 4 (some 5)),(.tmp 5),(.tmp 6)]:=rfl
end Go.Proofs.YtmlkhhidifjjfaaDoor
namespace Go.Proofs.YtmlkhhidifjjfaaDoor
set_option maxHeartbeats 4000000
set_option maxRecDepth 10000
end Go.Proofs.YtmlkhhidifjjfaaDoor
namespace Go.Proofs.YtmlkhhidifjjfaaDoor
set_option maxHeartbeats 8000000
set_option maxRecDepth 10000
def Zs6:List (Int×Int×Int):=[(1,1,65544),(2,3,65544),(3,5,65544),(8,5,65544),(9,6,65544),(11,4,264),(17,3,16390),(18,5,4),(26,5,4),(19,2,4),(21,5,32774),(22,6,32774),(23,1,2),(25,1,2),(24,3,65536),(28,5,16388),(31,5,51956),(33,2,6),(34,2,6),(35,2,8),(39,3,6),(36,1,4),(37,1,4),(40,1,4),(41,1,4),(42,1,4),(38,7,-12290)]
def ofF (id:Int):Int×Int:=(Zs6.lookup id).getD (0,0)
def Zb1 (id:Int):Int:=(ofF id).1
def Zf5 (id:Int):Prop:=id=1∨id=2∨id=3∨id=8∨id=9∨id=11∨id=17∨id=18∨id=26∨id=19∨id=21∨id=22∨id=23∨id=25∨id=24∨id=28∨id=31∨id=33∨id=34∨id=35∨id=39∨id=36∨id=37∨id=40∨id=41∨id=42∨id=38
instance (id:Int):Decidable (Zf5 id):=by unfold Zf5;infer_instance
theorem Zqn {id:Int} (h:¬Zf5 id):(id == 1)=false∧(id == 2)=false∧(id == 3)=false∧(id == 8)=false∧(id == 9)=false∧(id == 11)=false∧(id == 17)=false∧(id == 18)=false∧(id == 26)=false∧(id == 19)=false∧(id == 21)=false∧(id == 22)=false∧(id == 23)=false∧(id == 25)=false∧(id == 24)=false∧(id == 28)=false∧(id == 31)=false∧(id == 33)=false∧(id == 34)=false∧(id == 35)=false∧(id == 39)=false∧(id == 36)=false∧(id == 37)=false∧(id == 40)=false∧(id == 41)=false∧(id == 42)=false∧(id == 38)=false:=by
 unfold Zf5 at h
 simp only [not_or] at h
 simp only [beq_eq_false_iff_ne,ne_eq]
 exact h
theorem ZsA {id:Int} (h:¬Zf5 id):ofF id=(0,0):=by
 obtain ⟨h1,h2,h3,h8,h9,h11,h17,h18,h26,h19,h21,h22,h23,h25,h24,h28,h31,h33,h34,h35,h39,h36,h37,h40,h41,h42,h38⟩:=Zqn h
 simp only [ofF,Zs6,List.lookup,h1,h2,h3,h8,h9,h11,h17,h18,h26,h19,h21,h22,h23,h25,h24,h28,h31,h33,h34,h35,h39,h36,h37,h40,h41,h42,h38,Option.getD_none]
theorem ZJY (id:Int):E 152 [.int .i64 id] []=some (.agg [.int .i64 (ofF id).1,.int .i64 (ofF id).2],[]):=by
 by_cases h:Zf5 id
 ·rcases h with rfl | rfl | rfl | rfl | rfl | rfl | rfl | rfl | rfl | rfl | rfl | rfl | rfl | rfl | rfl | rfl | rfl | rfl | rfl | rfl | rfl | rfl | rfl | rfl | rfl | rfl | rfl
  all_goals exact ZdF.2 ⟨20,by kernel_rfl⟩
 ·rw [ZsA h]
  obtain ⟨h1,h2,h3,h8,h9,h11,h17,h18,h26,h19,h21,h22,h23,h25,h24,h28,h31,h33,h34,h35,h39,h36,h37,h40,h41,h42,h38⟩:=Zqn h
  rw [Zh (by rfl) ZF4]
  simp -implicitDefEqProofs only [EQA,Zs,Nat.reduceAdd,Nat.reduceLT,Nat.reduceLeDiff,Nat.reduceEqDiff,Nat.reduceBEq,reduceCtorEq,↓reduceIte,Zd,ZJc,Znw,ZxX,oI,oN,h1,h2,h3,h8,h9,h11,h17,h18,h26,h19,h21,h22,h23,h25,h24,h28,h31,h33,h34,h35,h39,h36,h37,h40,h41,h42,h38,ZV,AVal.cells]
theorem Zrl (σ:Za) (site own:Nat) (id:Int):Zj E BY σ site 152 own true [.int .i64 id]=some (.agg [.int .i64 (ofF id).1,.int .i64 (ofF id).2],σ,{}) :=
 Zbr (ZJY id) (by kernel_rfl) rfl rfl rfl (fun _=>rfl) _ _ _
theorem ZDW (id:Int):E 134 [.int .i64 id] []=some (.int .i64 (Zb1 id),[]):=by
 have hC:=fun σ site own=>Zrl σ site own id
 unfold Zb1
 rw [Zh (by rfl) ZFr]
 simp -implicitDefEqProofs only [EQA,Nat.reduceLT,Nat.reduceEqDiff,reduceCtorEq,↓reduceIte,ZDu,Znh,Zxf,oI,hC]
theorem ZiK (σ:Za) (site own:Nat) (id:Int):Zj E BY σ site 134 own true [.int .i64 id]=some (.int .i64 (Zb1 id),σ,{}) :=
 Zbr (ZDW id) (by kernel_rfl) rfl rfl rfl (fun _=>rfl) _ _ _
def Zrv (pl w:Int):Int:=IntKind.i64.wrap (((BitVec.ofInt IntKind.i64.bits (pl.fdiv (2 ^ min w.toNat IntKind.i64.bits)) &&& BitVec.ofInt IntKind.i64.bits 1).toNat:Nat):Int)
def ZgU (id w:Int):Bool:=decide (w≥1) && decide (w≤16) && Zrv (ofF id).2 w == 1
theorem ZHG (id w:Int):E 153 [.int .i64 id,.int .i64 w] []=some (.bool (ZgU id w),[]):=by
 have hC:=fun σ site own=>Zrl σ site own id
 unfold ZgU Zrv
 generalize (ofF id).2=pl at *
 rw [Zh (by rfl) ZMi]
 by_cases h1:w≥1
 ·have h2:¬w < 0:=by omega
  by_cases h3:w≤16
  ·simp -implicitDefEqProofs only [EQA,Nat.reduceLT,Nat.reduceEqDiff,ZaA,Zz,unG,ne_eq,Option.some.injEq,reduceCtorEq,decide_true,decide_false,↓reduceIte,ZmO,ZiV,Zl6,oI,hC,h1,h2,h3]
  ·simp -implicitDefEqProofs only [EQA,Nat.reduceLT,Nat.reduceEqDiff,Zz,Zau,unG,ne_eq,Option.some.injEq,reduceCtorEq,decide_true,decide_false,↓reduceIte,ZmO,ZiV,Zl6,oI,h1,h3]
 ·simp -implicitDefEqProofs only [EQA,Nat.reduceLT,Nat.reduceEqDiff,Zz,Zau,ne_eq,Option.some.injEq,reduceCtorEq,decide_false,↓reduceIte,ZmO,ZiV,Zl6,oI,h1]
theorem ZAX (σ:Za) (site own:Nat) (id w:Int):Zj E BY σ site 153 own true [.int .i64 id,.int .i64 w]=some (.bool (ZgU id w),σ,{}) :=
 Zbr (ZHG id w) (by kernel_rfl) rfl rfl rfl (fun _=>rfl) _ _ _
end Go.Proofs.YtmlkhhidifjjfaaDoor
