/- packed -/
import Derived.Test.YtmlkhhidifjjfaaDoorMm1
import Derived.Laws.Cover3
import Derived.Lib.Index
import Derived.Shelf.Unicode.ValidAny
import Derived.Shelf.Strings.Count
import Derived.Test.YtmlkhhidifjjfaaDoorProg
import Derived.Deep.Slices
import Derived.ChangeArms
import Derived.WideShapes
import GoSem.ClaimChange
import Derived.Lib.TrimUEq
import Derived.Lib.MapLaws
import Derived.Lib.ValidLaws
set_option linter.defProp false
set_option linter.unusedSimpArgs false
set_option linter.unusedVariables false
namespace Go.Proofs.YtmlkhhidifjjfaaDoor
open Go.RowKit
def OLe (O O':ZQ):Prop:=∀ f a σ r,O f a σ=some r→O' f a σ=some r
section
variable {O O':ZQ} {byref:Nat→Bool}
theorem ZvS {view:Bool} {m:Nat} {x y:Option (AVal×Za)} (h:∀ r,x=some r→y=some r) {r:AVal×Za} (hr:Zah view m x=some r):Zah view m y=some r:=by
 cases x with
 | none=>cases view <;> simp [Zah,ZbH] at hr
 | some q=>rw [h q rfl];exact hr
theorem ZCX {σ σf:Za} {ids ts:List Nat} {site own:Nat} {x y:Option (AVal×Za)} (h:∀ r,x=some r→y=some r) {r:AVal×Za×Cls} (hr:ZaA σ σf ids ts site own x=some r):ZaA σ σf ids ts site own y=some r:=by
 cases x with
 | none=>simp only [ZaA] at hr;cases hr
 | some q=>rw [h q rfl];exact hr
theorem Zn5 (hO:OLe O O') {σ:Za} {site f own:Nat} {view:Bool} {args:List AVal} {r:AVal×Za×Cls} (h:Zj O byref σ site f own view args=some r):Zj O' byref σ site f own view args=some r:=by
 unfold Zj Zbz at h ⊢
 split at h
 ·cases h
 ·rename_i vs ts hv
  split at h
  ·rename_i hc
   simp only [hc,if_true]
   exact ZCX (fun q hq=>ZvS (fun q hq=>hO _ _ _ _ hq) hq) h
  ·cases h
theorem ZLq (hO:OLe O O') {tm:Tms} {σ:Za} {site:Nat} {ins:Ins} {r:AVal×Za×Cls} (h:execI O byref tm σ site ins=some r):execI O' byref tm σ site ins=some r:=by
 cases ins
 case call f own view args =>
  simp only [execI] at h ⊢
  exact Zn5 hO h
 case callv x args =>
  simp only [execI] at h ⊢
  split at h
  ·exact Zn5 hO h
  ·cases h
 all_goals exact h
theorem ZpX (hO:OLe O O') {o:AOp} {tm:Tms} {σ:Za} {site:Nat} {r:AVal×Tms×Za×Cls} (h:ZL O byref o site tm σ=some r):ZL O' byref o site tm σ=some r:=by
 unfold ZL at h ⊢
 split at h
 ·cases h
 ·exact h
 ·split at h
  ·rename_i hf
   rw [if_pos hf]
   split at h
   ·rename_i he;rw [ZLq hO he];exact h
   ·cases h
  ·cases h
theorem Zni (hO:OLe O O'):∀ {ops:List AOp} {s:Nat} {tm:Tms} {σ:Za} {r:Tms×Za×List Cls×Option AVal},ZX O byref ops s tm σ=some r→ZX O' byref ops s tm σ=some r
 | [],_,_,_,_,h=>h
 | o::ops,s,tm,σ,r,h=>by
  simp only [ZX] at h ⊢
  split at h
  ·cases h
  ·rename_i h1
   rw [ZpX hO h1]
   exact h
  ·rename_i v tm1 σ1 c hnp h1
   rw [ZpX hO h1]
   simp only
   split at h
   ·cases h
   rename_i h2
   rw [Zni hO h2]
   exact h
theorem Zts (hO:OLe O O') {ops:List AOp} {chk:Option (List (Nat×Nat))} {live:List Nat} {tm:Tms} {σ:Za} {r:ZaV×Tms×Za} (h:ZbX O byref ops chk live tm σ=some r):ZbX O' byref ops chk live tm σ=some r:=by
 unfold ZbX at h ⊢
 cases hx:ZX O byref ops σ.length tm (σ++List.replicate (sitesOf ops) .free) with
 | none=>rw [hx] at h;simp only [ZcF] at h;cases h
 | some q=>rw [Zni hO hx];rw [hx] at h;exact h
theorem ZlI {m0:Nat} {live:List Nat} {f f':Tms→Za→Option (ZaV×Tms×Za)} (hf:∀ tm σ r,f tm σ=some r→f' tm σ=some r):∀ {n n':Nat} {tm:Tms} {σ:Za} {r:ZaV×Tms×Za},n≤n'→Zdi m0 live f n tm σ=some r→Zdi m0 live f' n' tm σ=some r
 | 0,_,_,_,_,_,h=>by simp only [Zdi] at h;cases h
 | n+1,0,_,_,_,hn,_=>by omega
 | n+1,n'+1,tm,σ,r,hn,h=>by
  simp only [Zdi] at h ⊢
  split at h
  ·rename_i h1
   rw [hf _ _ _ h1]
   exact ZlI hf (by omega) h
  ·rename_i hne
   rw [hf _ _ _ h]
   split
   ·rename_i e;injection e with e;subst e;exact absurd h (hne _ _)
   ·rfl
theorem ZdB (hO:OLe O O') {m0:Nat}:∀ {c:Ze} {n n':Nat} {tm:Tms} {σ:Za} {r:ZaV×Tms×Za},n≤n'→Z4 O byref m0 n c tm σ=some r→Z4 O' byref m0 n' c tm σ=some r:=by
 intro c
 induction c with
 | skip=>intro n n' tm σ r _ h;exact h
 | exit id=>intro n n' tm σ r _ h;exact h
 | ret=>intro n n' tm σ r _ h;exact h
 | stuck=>intro n n' tm σ r _ h;exact h
 | region ops chk live =>
  intro n n' tm σ r _ h
  simp only [Z4] at h ⊢
  exact Zts hO h
 | seq a b iha ihb =>
  intro n n' tm σ r hn h
  simp only [Z4] at h ⊢
  split at h
  ·rename_i h1;rw [iha hn h1];exact ihb hn h
  ·rename_i hne
   rw [iha hn h]
   split
   ·rename_i e;injection e with e;subst e;exact absurd h (hne _ _)
   ·rfl
 | cond c a b iha ihb =>
  intro n n' tm σ r hn h
  simp only [Z4] at h ⊢
  split at h
  ·exact iha hn h
  ·exact ihb hn h
  ·cases h
 | block id c ih =>
  intro n n' tm σ r hn h
  simp only [Z4] at h ⊢
  split at h
  ·rename_i h1;rw [ih hn h1];exact h
  ·rename_i hne
   rw [ih hn h]
   split
   ·rename_i e;injection e with e;subst e;exact absurd h (hne _ _ _)
   ·rfl
 | loop live c ih =>
  intro n n' tm σ r hn h
  simp only [Z4] at h ⊢
  exact ZlI (fun tm σ r h=>ih hn h) hn h
theorem ZjR {m0:Nat} {fn:ZD} {x y:Option (ZaV×Tms×Za)} (h:∀ r,x=some r→y=some r) {r:AVal×Za} (hr:Zaq m0 fn x=some r):Zaq m0 fn y=some r:=by
 cases x with
 | none=>simp only [Zaq] at hr;cases hr
 | some q=>rw [h q rfl];exact hr
theorem ZuN (fs:Nat→Option ZD) (prim:Zcm):∀ n,OLe (Zat fs prim byref n) (Zat fs prim byref (n+1))
 | 0=>by intro f a σ r h;simp only [Zat] at h;cases h
 | n+1=>by
  intro f a σ r h
  rw [Zat] at h ⊢
  split at h
  ·rename_i g hg;exact h
  ·rename_i hg
   split at h
   ·cases h
   ·rename_i fn hfn
    exact ZjR (fun q hq=>ZdB (ZuN fs prim n) (by omega) hq) h
theorem Zix (fs : Nat → Option ZD) (prim : Zcm) {n m : Nat} (h : n ≤ m) : OLe (Zat fs prim byref n) (Zat fs prim byref m) := by
  induction m with
  | zero => obtain rfl : n = 0 := by omega
            exact fun _ _ _ _ h => h
  | succ m ih =>
    by_cases e : n = m + 1
    · subst e; exact fun _ _ _ _ h => h
    · exact fun f a σ r hr => ZuN fs prim m f a σ r (ih (by omega) f a σ r hr)
end
section
variable (fs:Nat→Option ZD) (prim:Zcm) (byref:Nat→Bool)
open Classical in
noncomputable def EV:ZQ:=fun f args σ=>if h:∃ r,∃ n,Zat fs prim byref n f args σ=some r then some h.choose else none
open Classical in
noncomputable def evC (m:Nat) (c:Ze) (tm:Tms) (σ:Za):Option (ZaV×Tms×Za):=if h:∃ r,∃ n,Z4 (Zat fs prim byref n) byref m n c tm σ=some r then some h.choose else none
variable {fs prim byref} {m0:Nat}
theorem Zdy {f:Nat} {args:List AVal} {σ:Za} {r:AVal×Za}:EV fs prim byref f args σ=some r↔∃ n,Zat fs prim byref n f args σ=some r:=by
 unfold EV
 constructor
 ·intro h
  split at h
  ·rename_i hx
   injection h with h
   rw [←h]
   exact hx.choose_spec
  ·cases h
 ·rintro ⟨n,hn⟩
  have hx:∃ r,∃ n,Zat fs prim byref n f args σ=some r:=⟨r,n,hn⟩
  rw [dif_pos hx]
  obtain ⟨m,hm⟩:=hx.choose_spec
  have h1:=Zix (byref:=byref) fs prim (Nat.le_max_left n m) _ _ _ _ hn
  have h2:=Zix (byref:=byref) fs prim (Nat.le_max_right n m) _ _ _ _ hm
  rw [h1] at h2
  injection h2 with h2
  rw [←h2]
theorem Zbn {c:Ze} {tm:Tms} {σ:Za} {r:ZaV×Tms×Za}:evC fs prim byref m0 c tm σ=some r↔∃ n,Z4 (Zat fs prim byref n) byref m0 n c tm σ=some r:=by
 unfold evC
 constructor
 ·intro h
  split at h
  ·rename_i hx
   injection h with h
   rw [←h]
   exact hx.choose_spec
  ·cases h
 ·rintro ⟨n,hn⟩
  have hx:∃ r,∃ n,Z4 (Zat fs prim byref n) byref m0 n c tm σ=some r:=⟨r,n,hn⟩
  rw [dif_pos hx]
  obtain ⟨m,hm⟩:=hx.choose_spec
  have h1:=ZdB (Zix (byref:=byref) fs prim (Nat.le_max_left n m)) (Nat.le_max_left n m) hn
  have h2:=ZdB (Zix (byref:=byref) fs prim (Nat.le_max_right n m)) (Nat.le_max_right n m) hm
  rw [h1] at h2
  injection h2 with h2
  rw [←h2]
theorem Ze5 {α:Type} {x y:Option α} (h:∀ r,x=some r↔y=some r):x=y:=by
 cases x with
 | none =>
  cases y with
  | none=>rfl
  | some q=>exact absurd ((h q).2 rfl) (by simp)
 | some q=>exact ((h q).1 rfl).symm
theorem ZKp (n:Nat):OLe (Zat fs prim byref n) (EV fs prim byref):=fun _ _ _ _ h=>Zdy.2 ⟨n,h⟩
theorem up {n m:Nat} (h:n≤m):OLe (Zat fs prim byref n) (Zat fs prim byref m):=Zix fs prim h
theorem ZvE {f:Nat} {g:List AVal→Za→Option (AVal×Za)} (hp:prim f=some g) (args:List AVal) (σ:Za):EV fs prim byref f args σ=g args σ:=by
 apply Ze5
 intro r
 rw [Zdy]
 constructor
 ·rintro ⟨n,h⟩
  cases n with
  | zero=>simp only [Zat] at h;cases h
  | succ n=>rw [Zat,hp] at h;exact h
 ·intro h
  exact ⟨1,by rw [Zat,hp];exact h⟩
theorem Zty {f:Nat} {fn:ZD} (hp:prim f=none) (hf:fs f=some fn) (args:List AVal) (σ:Za):EV fs prim byref f args σ=Zaq σ.length fn (evC fs prim byref σ.length fn.body (enterA 0 args []) σ):=by
 apply Ze5
 intro r
 rw [Zdy]
 constructor
 ·rintro ⟨n,h⟩
  cases n with
  | zero=>simp only [Zat] at h;cases h
  | succ n =>
   rw [Zat,hp,hf] at h
   exact ZjR (fun q hq=>Zbn.2 ⟨n,hq⟩) h
 ·intro h
  cases hx:evC fs prim byref σ.length fn.body (enterA 0 args []) σ with
  | none=>rw [hx] at h;simp only [Zaq] at h;cases h
  | some q =>
   obtain ⟨n,hn⟩:=Zbn.1 hx
   refine ⟨n+1,?_⟩
   rw [Zat,hp,hf]
   rw [hx] at h
   exact ZjR (x:=some q) (fun q' hq'=>by injection hq' with hq';subst hq';exact hn) h
theorem Zrq {σ:Za} {site f own:Nat} {view:Bool} {args:List AVal} {r:AVal×Za×Cls} (h:Zj (EV fs prim byref) byref σ site f own view args=some r):∃ n,Zj (Zat fs prim byref n) byref σ site f own view args=some r:=by
 unfold Zj Zbz at h ⊢
 split at h
 ·cases h
 ·rename_i vs ts hv
  split at h
  ·rename_i hc
   simp only [hc,if_true]
   cases hx:EV fs prim byref f (Zf (Zm (Zo σ ts) 0 (Zz (Zo σ ts) 1000 (Zr vs) [])) vs) (Zv (Zo σ ts) 0 (Zz (Zo σ ts) 1000 (Zr vs) []) (Zm (Zo σ ts) 0 (Zz (Zo σ ts) 1000 (Zr vs) [])) (Zz (Zo σ ts) 1000 (Zr vs) []) 0) with
   | none =>
    rw [hx] at h
    cases view <;> simp [Zah,ZbH,ZaA] at h
   | some q =>
    obtain ⟨n,hn⟩:=Zdy.1 hx
    exact ⟨n,by rw [hn];rw [hx] at h;exact h⟩
  ·cases h
theorem ZyV {tm:Tms} {σ:Za} {site:Nat} {ins:Ins} {r:AVal×Za×Cls} (h:execI (EV fs prim byref) byref tm σ site ins=some r):∃ n,execI (Zat fs prim byref n) byref tm σ site ins=some r:=by
 cases ins
 case call f own view args =>
  simp only [execI] at h ⊢
  exact Zrq h
 case callv x args =>
  simp only [execI] at h ⊢
  split at h
  ·exact Zrq h
  ·cases h
 all_goals exact ⟨0,h⟩
theorem Zub {o:AOp} {tm:Tms} {σ:Za} {site:Nat} {r:AVal×Tms×Za×Cls} (h:ZL (EV fs prim byref) byref o site tm σ=some r):∃ n,ZL (Zat fs prim byref n) byref o site tm σ=some r:=by
 unfold ZL at h ⊢
 split at h
 ·cases h
 ·exact ⟨0,h⟩
 ·split at h
  ·rename_i hf
   simp only [hf,if_true]
   split at h
   ·rename_i he
    obtain ⟨n,hn⟩:=ZyV he
    exact ⟨n,by rw [hn];exact h⟩
   ·cases h
  ·cases h
theorem Ztf:∀ {ops:List AOp} {s:Nat} {tm:Tms} {σ:Za} {r:Tms×Za×List Cls×Option AVal},ZX (EV fs prim byref) byref ops s tm σ=some r→∃ n,ZX (Zat fs prim byref n) byref ops s tm σ=some r
 | [],_,_,_,_,h=>⟨0,h⟩
 | o::ops,s,tm,σ,r,h=>by
  simp only [ZX] at h ⊢
  split at h
  ·cases h
  ·rename_i h1
   obtain ⟨n,hn⟩:=Zub h1
   exact ⟨n,by rw [hn];exact h⟩
  rename_i v tm1 σ1 c hnp h1
  split at h
  ·cases h
  rename_i h2
  obtain ⟨n,hn⟩:=Zub h1
  obtain ⟨m,hm⟩:=Ztf h2
  refine ⟨max n m,?_⟩
  rw [ZpX (up (Nat.le_max_left n m)) hn]
  simp only
  rw [Zni (up (Nat.le_max_right n m)) hm]
  exact h
theorem Zyl {ops:List AOp} {chk:Option (List (Nat×Nat))} {live:List Nat} {tm:Tms} {σ:Za} {r:ZaV×Tms×Za} (h:ZbX (EV fs prim byref) byref ops chk live tm σ=some r):∃ n,ZbX (Zat fs prim byref n) byref ops chk live tm σ=some r:=by
 unfold ZbX at h ⊢
 cases hx:ZX (EV fs prim byref) byref ops σ.length tm (σ++List.replicate (sitesOf ops) .free) with
 | none=>rw [hx] at h;simp only [ZcF] at h;cases h
 | some q =>
  obtain ⟨n,hn⟩:=Ztf hx
  exact ⟨n,by rw [hn];rw [hx] at h;exact h⟩
theorem ZN8 (tm:Tms) (σ:Za):evC fs prim byref m0 .skip tm σ=some (.normal,tm,σ):=Zbn.2 ⟨0,rfl⟩
theorem ZAS (id:Nat) (tm:Tms) (σ:Za):evC fs prim byref m0 (.exit id) tm σ=some (.exit id,tm,σ):=Zbn.2 ⟨0,rfl⟩
theorem ZK9 (tm:Tms) (σ:Za):evC fs prim byref m0 .ret tm σ=some (.ret,tm,σ):=Zbn.2 ⟨0,rfl⟩
theorem ZEe {ops:List AOp} {chk:Option (List (Nat×Nat))} {live:List Nat} {tm:Tms} {σ:Za}:evC fs prim byref m0 (.region ops chk live) tm σ=ZbX (EV fs prim byref) byref ops chk live tm σ:=by
 apply Ze5
 intro r
 rw [Zbn]
 constructor
 ·rintro ⟨n,hn⟩
  simp only [Z4] at hn
  exact Zts (ZKp n) hn
 ·intro h
  obtain ⟨n,hn⟩:=Zyl h
  exact ⟨n,by simp only [Z4];exact hn⟩
theorem Zh7 {a b:Ze} {tm tm':Tms} {σ σ':Za} (h:evC fs prim byref m0 a tm σ=some (.normal,tm',σ')):evC fs prim byref m0 (.seq a b) tm σ=evC fs prim byref m0 b tm' σ':=by
 obtain ⟨n,hn⟩:=Zbn.1 h
 apply Ze5
 intro r
 rw [Zbn,Zbn]
 constructor
 ·rintro ⟨m,hm⟩
  have h1:=ZdB (up (Nat.le_max_left n m)) (Nat.le_max_left n m) hn
  have h2:=ZdB (up (Nat.le_max_right n m)) (Nat.le_max_right n m) hm
  simp only [Z4,h1] at h2
  exact ⟨_,h2⟩
 ·rintro ⟨m,hm⟩
  have h1:=ZdB (up (Nat.le_max_left n m)) (Nat.le_max_left n m) hn
  have h2:=ZdB (up (Nat.le_max_right n m)) (Nat.le_max_right n m) hm
  exact ⟨max n m,by simp only [Z4,h1];exact h2⟩
theorem Zjg {a b:Ze} {tm tm':Tms} {σ σ':Za} {e:ZaV} (he:e≠.normal) (h:evC fs prim byref m0 a tm σ=some (e,tm',σ')):evC fs prim byref m0 (.seq a b) tm σ=some (e,tm',σ'):=by
 obtain ⟨n,hn⟩:=Zbn.1 h
 refine Zbn.2 ⟨n,?_⟩
 simp only [Z4,hn]
 cases e with
 | normal=>exact absurd rfl he
 | exit id=>rfl
 | ret=>rfl
 | panic x=>rfl
def ZaW (id:Nat):ZaV×Tms×Za→ZaV×Tms×Za
 | (.exit i,tm,σ)=>if i=id then (.normal,tm,σ) else (.exit i,tm,σ)
 | r=>r
theorem Zxb {id:Nat} {c:Ze} {tm:Tms} {σ:Za}:evC fs prim byref m0 (.block id c) tm σ=(evC fs prim byref m0 c tm σ).map (ZaW id):=by
 have step:∀ n,Z4 (Zat fs prim byref n) byref m0 n (.block id c) tm σ=(Z4 (Zat fs prim byref n) byref m0 n c tm σ).map (ZaW id):=by
  intro n
  simp only [Z4]
  cases Z4 (Zat fs prim byref n) byref m0 n c tm σ with
  | none=>rfl
  | some q =>
   obtain ⟨e,tm1,σ1⟩:=q
   cases e with
   | normal=>rfl
   | ret=>rfl
   | panic x=>rfl
   | exit i=>simp only [Option.map_some,ZaW];split <;> rfl
 apply Ze5;intro r
 rw [Zbn]
 simp only [step,Option.map_eq_some_iff]
 constructor
 ·rintro ⟨n,q,h1,h2⟩;exact ⟨q,Zbn.2 ⟨n,h1⟩,h2⟩
 ·rintro ⟨q,h1,h2⟩;obtain ⟨n,hn⟩:=Zbn.1 h1;exact ⟨n,q,hn,h2⟩
theorem ZOF {c:Ze} {tm:Tms} {σ:Za} (h:evC fs prim byref m0 c tm σ=none) (n:Nat):Z4 (Zat fs prim byref n) byref m0 n c tm σ=none:=by
 cases hx:Z4 (Zat fs prim byref n) byref m0 n c tm σ with
 | none=>rfl
 | some r=>rw [Zbn.2 ⟨n,hx⟩] at h;cases h
variable (fs prim byref m0) in
noncomputable def ZbG (b:Ze):Option (ZaV×Tms×Za)→Option (ZaV×Tms×Za)
 | some (.normal,tm,σ)=>evC fs prim byref m0 b tm σ
 | r=>r
theorem ZFF {a b:Ze} {tm:Tms} {σ:Za}:evC fs prim byref m0 (.seq a b) tm σ=ZbG fs prim byref m0 b (evC fs prim byref m0 a tm σ):=by
 cases h:evC fs prim byref m0 a tm σ with
 | none =>
  simp only [ZbG]
  apply Ze5;intro r
  rw [Zbn]
  constructor
  ·rintro ⟨n,hn⟩
   simp only [Z4,ZOF h n] at hn
   cases hn
  ·intro h;cases h
 | some q =>
  obtain ⟨e,tm',σ'⟩:=q
  cases e with
  | normal=>exact Zh7 h
  | exit id=>exact Zjg (by simp) h
  | ret=>exact Zjg (by simp) h
  | panic x=>exact Zjg (by simp) h
variable (fs prim byref m0) in
noncomputable def Zig (a b:Ze) (tm:Tms) (σ:Za):AVal→Option (ZaV×Tms×Za)
 | .bool true=>evC fs prim byref m0 a tm σ
 | .bool false=>evC fs prim byref m0 b tm σ
 | _=>none
theorem ZCT {c:Opd} {a b:Ze} {tm:Tms} {σ:Za}:evC fs prim byref m0 (.cond c a b) tm σ=Zig fs prim byref m0 a b tm σ (c.ev tm):=by
 apply Ze5;intro r
 rw [Zbn]
 simp only [Z4]
 constructor
 ·rintro ⟨n,hn⟩
  split at hn
  ·rename_i e;rw [e];simp only [Zig];exact Zbn.2 ⟨n,hn⟩
  ·rename_i e;rw [e];simp only [Zig];exact Zbn.2 ⟨n,hn⟩
  ·cases hn
 ·intro h
  unfold Zig at h
  split at h
  ·rename_i e;obtain ⟨n,hn⟩:=Zbn.1 h;exact ⟨n,by rw [e];exact hn⟩
  ·rename_i e;obtain ⟨n,hn⟩:=Zbn.1 h;exact ⟨n,by rw [e];exact hn⟩
  ·cases h
variable (fs prim byref m0) in
noncomputable def evL (live:List Nat) (c:Ze) (tm:Tms) (σ:Za):Option (ZaV×Tms×Za) :=
 match evC fs prim byref m0 c tm σ with
 | some (.normal,tm',σ')=>evC fs prim byref m0 (.loop live c) tm' σ'
 | r=>r
theorem Zr8 {live:List Nat} {c:Ze} {tm:Tms} {σ:Za}:evC fs prim byref m0 (.loop live c) tm σ=evL fs prim byref m0 live c (gcT m0 (keepL live tm) σ).1 (gcT m0 (keepL live tm) σ).2:=by
 apply Ze5;intro r
 rw [Zbn]
 constructor
 ·rintro ⟨n,hn⟩
  simp only [Z4] at hn
  cases n with
  | zero=>simp only [Zdi] at hn;cases hn
  | succ k =>
   simp only [Zdi] at hn
   unfold evL
   cases hx:Z4 (Zat fs prim byref (k+1)) byref m0 (k+1) c (gcT m0 (keepL live tm) σ).1 (gcT m0 (keepL live tm) σ).2 with
   | none=>rw [hx] at hn;cases hn
   | some q =>
    rw [Zbn.2 ⟨_,hx⟩]
    rw [hx] at hn
    obtain ⟨e,tm',σ'⟩:=q
    cases e with
    | normal =>
     simp only at hn ⊢
     exact Zbn.2 ⟨k+1,by simp only [Z4];exact ZlI (fun _ _ _ h=>h) (by omega) hn⟩
    | exit id=>exact hn
    | ret=>exact hn
    | panic x=>exact hn
 ·intro h
  unfold evL at h
  cases hx:evC fs prim byref m0 c (gcT m0 (keepL live tm) σ).1 (gcT m0 (keepL live tm) σ).2 with
  | none=>rw [hx] at h;cases h
  | some q =>
   rw [hx] at h
   obtain ⟨n,hn⟩:=Zbn.1 hx
   obtain ⟨e,tm',σ'⟩:=q
   have out:e≠.normal→some (e,tm',σ')=some r→∃ n,Z4 (Zat fs prim byref n) byref m0 n (.loop live c) tm σ=some r:=by
    intro he h
    refine ⟨n+1,?_⟩
    have h1:=ZdB (up (show n≤n+1 by omega)) (show n≤n+1 by omega) hn
    simp only [Z4,Zdi,h1]
    cases e with
    | normal=>exact absurd rfl he
    | exit id=>exact h
    | ret=>exact h
    | panic x=>exact h
   cases e with
   | normal =>
    simp only at h
    obtain ⟨m,hm⟩:=Zbn.1 h
    have h1:=ZdB (up (show n≤max n m+1 by omega)) (show n≤max n m+1 by omega) hn
    have h2:=ZdB (up (show m≤max n m+1 by omega)) (Nat.le_refl m) hm
    simp only [Z4] at h2
    refine ⟨max n m+1,?_⟩
    simp only [Z4,Zdi,h1]
    exact ZlI (fun tm σ r h=>ZdB (fun _ _ _ _ h=>h) (by omega) h) (by omega) h2
   | exit id=>exact out (by simp) h
   | ret=>exact out (by simp) h
   | panic x=>exact out (by simp) h
theorem ZLm {P:Program} (hm:P.follows .mixedOrders=true) {prim:Zcm} (hP:ZjH P prim) (ann:Nat→Ann) (byref:Nat→Bool):ZaL P (EV (ZiH P ann) prim byref):=by
 intro f args σ r σ' h
 obtain ⟨n,hn⟩:=Zdy.1 h
 exact ZpB hm hP ann byref n f args σ r σ' hn
end
end Go.Proofs.YtmlkhhidifjjfaaDoor
namespace Go.Proofs.YtmlkhhidifjjfaaDoor
open Go.RowKit
def ZsY:Tms×Za×List Cls×Option AVal→Tms×Za×Option AVal:=fun q=>(q.1,q.2.1,q.2.2.2)
def ZaP:AVal→Bool
 | .pan _=>true
 | _=>false
section
variable (O:ZQ) (byref:Nat→Bool)
def exI (i:Ins) (s:Nat) (tm:Tms) (σ:Za):Option (AVal×Za×Cls) :=
 if nsite i == 0 || freeAt σ s then execI O byref tm σ s i else none
def Zbh (ops:List AOp) (s:Nat) (tm:Tms) (σ:Za):Option (Tms×Za×Option AVal):=(ZX O byref ops s tm σ).map ZsY
def kN (d:Option Nat) (os:List AOp) (s:Nat) (tm:Tms):Option (AVal×Za×Cls)→Option (Tms×Za×Option AVal)
 | none=>none
 | some (v,σ,_)=>if ZaP v then some (tput tm d v,σ,some (ZaU v)) else Zbh O byref os s (tput tm d v) σ
def Zkt (live:List Nat):Option (Tms×Za×Option AVal)→Option (ZaV×Tms×Za)
 | none=>none
 | some (_,σ,some x)=>some (.panic x,[],σ)
 | some (tm,σ,none)=>some (.normal,keepL live tm,σ)
variable {O byref}
theorem Zto (s:Nat) (tm:Tms) (σ:Za):Zbh O byref [] s tm σ=some (tm,σ,none):=rfl
theorem Zh1 {o:AOp} {os:List AOp} {s:Nat} {tm:Tms} {σ:Za} (h:ZL O byref o s tm σ=none):ZX O byref (o::os) s tm σ=none:=by simp only [ZX,h]
theorem ZjD {o:AOp} {os:List AOp} {s:Nat} {tm tm1:Tms} {σ σ1:Za} {x:AVal} {c:Cls} (h:ZL O byref o s tm σ=some (.pan x,tm1,σ1,c)):ZX O byref (o::os) s tm σ=some (tm1,σ1,[c],some x):=by simp only [ZX,h]
theorem Zvn {o:AOp} {os:List AOp} {s:Nat} {tm tm1:Tms} {σ σ1:Za} {v:AVal} {c:Cls} (h:ZL O byref o s tm σ=some (v,tm1,σ1,c)) (hn:ZaP v=false):ZX O byref (o::os) s tm σ=(ZX O byref os (s+nsite o.ins) tm1 σ1).map fun q=>(q.1,q.2.1,c::q.2.2.1,q.2.2.2):=by
 simp only [ZX,h]
 cases v <;> first
  | (simp [ZaP] at hn;done)
  | (simp only;cases ZX O byref os (s+nsite o.ins) tm1 σ1 <;> rfl)
theorem Zjq {o:AOp} {os:List AOp} {s:Nat} {tm:Tms} {σ:Za} (h:ZL O byref o s tm σ=none):Zbh O byref (o::os) s tm σ=none:=by simp only [Zbh,Zh1 h,Option.map_none]
theorem Zmo {o:AOp} {os:List AOp} {s:Nat} {tm tm1:Tms} {σ σ1:Za} {x:AVal} {c:Cls} (h:ZL O byref o s tm σ=some (.pan x,tm1,σ1,c)):Zbh O byref (o::os) s tm σ=some (tm1,σ1,some x):=by simp only [Zbh,ZjD h,Option.map_some,ZsY]
theorem ZkA {o:AOp} {os:List AOp} {s:Nat} {tm tm1:Tms} {σ σ1:Za} {v:AVal} {c:Cls} (h:ZL O byref o s tm σ=some (v,tm1,σ1,c)) (hn:ZaP v=false):Zbh O byref (o::os) s tm σ=Zbh O byref os (s+nsite o.ins) tm1 σ1:=by
 simp only [Zbh,Zvn h hn,Option.map_map]
 rfl
theorem ZkS {v:AVal} (h:ZaP v=true):∃ x,v=.pan x:=by
 cases v <;> first | exact ⟨_,rfl⟩ | (simp [ZaP] at h;done)
theorem Zln {d:Option Nat} {i:Ins} {af:List Nat} {s:Nat} {tm:Tms} {σ:Za}:ZL O byref ⟨d,i,none,af⟩ s tm σ=(exI O byref i s tm σ).map fun q=>(q.1,tput tm d q.1,q.2.1,q.2.2):=by
 unfold ZL exI
 simp only [Zbp]
 split
 ·cases execI O byref tm σ s i with
  | none=>rfl
  | some q=>rfl
 ·rfl
theorem Znv (d:Option Nat) (i:Ins) (af:List Nat) (os:List AOp) (s:Nat) (tm:Tms) (σ:Za):Zbh O byref (⟨d,i,none,af⟩::os) s tm σ=kN O byref d os (s+nsite i) tm (exI O byref i s tm σ):=by
 cases h:exI O byref i s tm σ with
 | none=>exact Zjq (by rw [Zln,h];rfl)
 | some q =>
  obtain ⟨v,σ1,c⟩:=q
  have hs:ZL O byref ⟨d,i,none,af⟩ s tm σ=some (v,tput tm d v,σ1,c):=by rw [Zln,h];rfl
  cases hp:ZaP v with
  | true =>
   obtain ⟨x,rfl⟩:=ZkS hp
   exact Zmo hs
  | false =>
   rw [ZkA hs hp]
   simp only [kN,hp,Bool.false_eq_true,if_false]
theorem ZAm (ops:List AOp) (live:List Nat) (tm:Tms) (σ:Za):ZbX O byref ops none live tm σ=Zkt live (Zbh O byref ops σ.length tm (σ++List.replicate (sitesOf ops) .free)):=by
 unfold ZbX Zbh
 cases ZX O byref ops σ.length tm (σ++List.replicate (sitesOf ops) .free) with
 | none=>rfl
 | some q =>
  obtain ⟨tm',σ',cs,p⟩:=q
  cases p <;> rfl
theorem Zmf (d:Option Nat) (os:List AOp) (s:Nat) (tm:Tms) (v:AVal) (σ:Za) (c:Cls) (h:ZaP v=false):kN O byref d os s tm (some (v,σ,c))=Zbh O byref os s (tput tm d v) σ:=by
 simp only [kN,h,Bool.false_eq_true,if_false]
theorem ZMd (d:Option Nat) (os:List AOp) (s:Nat) (tm:Tms) (x:AVal) (σ:Za) (c:Cls):kN O byref d os s tm (some (.pan x,σ,c))=some (tput tm d (.pan x),σ,some x):=rfl
theorem ZNt (d:Option Nat) (os:List AOp) (s:Nat) (tm:Tms):kN O byref d os s tm none=none:=rfl
structure GOp where
 guard:Option (Nat×Bool)
 ops:List AOp
def Zas:List AOp→Tms→Tms
 | [],tm=>tm
 | o::os,tm=>Zas os (tput tm o.dst (.tup []))
def unG (o:AOp):AOp:={ o with guard:=none }
variable (O byref) in
def ZeH (j:Nat) (w:Bool) (g:List AOp) (s:Nat) (tm:Tms) (σ:Za):Option (Tms×Za×Option AVal):=match Zbp (some (j,w)) tm with
 | none=>none
 | some false=>some (Zas g tm,σ,none)
 | some true=>Zbh O byref (g.map unG) s tm σ
variable (O byref) in
def gK (os:List AOp) (s:Nat):Option (Tms×Za×Option AVal)→Option (Tms×Za×Option AVal)
 | none=>none
 | some (tm,σ,some x)=>some (tm,σ,some x)
 | some (tm,σ,none)=>Zbh O byref os s tm σ
def ZE (j:Nat) (w:Bool):List AOp→List AOp×List AOp
 | []=>([],[])
 | o::os=>match o.guard with
  | some (j',w')=>if j'=j∧w'=w∧o.dst≠some j then ((o::(ZE j w os).1),(ZE j w os).2) else ([],o::os)
  | none=>([],o::os)
theorem Znc (j:Nat) (w:Bool):∀ os,(ZE j w os).1++(ZE j w os).2=os
 | []=>rfl
 | o::os=>by
  simp only [ZE]
  split
  ·split
   ·simp [Znc j w os]
   ·rfl
  ·rfl
theorem Zof (j:Nat) (w:Bool):∀ os,∀ o ∈ (ZE j w os).1,o.guard=some (j,w)∧o.dst≠some j
 | []=>by simp [ZE]
 | o::os=>by
  intro o' ho
  simp only [ZE] at ho
  split at ho
  ·rename_i j' w' hg
   split at ho
   ·rename_i hc
    rcases List.mem_cons.1 ho with rfl | ho
    ·exact ⟨by rw [hg,hc.1,hc.2.1],hc.2.2⟩
    ·exact Zof j w os o' ho
   ·simp at ho
  ·simp at ho
theorem ZFy {d:Option Nat} {v:AVal} {n:Nat} {tm:Tms} (h:d≠some n):tget (tput tm d v) n=tget tm n:=by
 cases d with
 | none=>rfl
 | some d =>
  have : d≠n:=by rintro rfl;exact h rfl
  simp only [tput,Zjz,this,if_false]
theorem Zfu {d:Option Nat} {v:AVal} {j:Nat} {w:Bool} {tm:Tms} (h:d≠some j):Zbp (some (j,w)) (tput tm d v)=Zbp (some (j,w)) tm:=by
 simp only [Zbp,ZFy h]
theorem Zr3:∀ (a b:List AOp) (s:Nat) (tm:Tms) (σ:Za),Zbh O byref (a++b) s tm σ=gK O byref b (s+sitesOf a) (Zbh O byref a s tm σ)
 | [],b,s,tm,σ=>by simp [Zto,gK,sitesOf]
 | o::a,b,s,tm,σ=>by
  have ih:=Zr3 a b
  simp only [List.cons_append]
  have hs:s+nsite o.ins+sitesOf a=s+sitesOf (o::a):=by simp [sitesOf,Nat.add_assoc]
  cases hst:ZL O byref o s tm σ with
  | none=>rw [Zjq hst,Zjq hst];rfl
  | some q =>
   obtain ⟨v,tm1,σ1,c⟩:=q
   cases hp:ZaP v with
   | true =>
    obtain ⟨x,rfl⟩:=ZkS hp
    rw [Zmo hst,Zmo hst];rfl
   | false=>rw [ZkA hst hp,ZkA hst hp,ih,hs]
theorem ZsO (j:Nat) (w:Bool):∀ (g:List AOp),(∀ o ∈ g,o.guard=some (j,w)∧o.dst≠some j)→∀ (s:Nat) (tm:Tms) (σ:Za),g≠[]→Zbh O byref g s tm σ=ZeH O byref j w g s tm σ
 | [],_,_,_,_,h=>absurd rfl h
 | o::g,hall,s,tm,σ,_=>by
  obtain ⟨hg,hd⟩:=hall o (by simp)
  have ih:∀ (tm:Tms) (σ:Za) (s:Nat),Zbp (some (j,w)) tm≠none→Zbh O byref g s tm σ=ZeH O byref j w g s tm σ:=by
   intro tm σ s hw
   by_cases he:g=[]
   ·subst he
    unfold ZeH
    cases hx:Zbp (some (j,w)) tm with
    | none=>exact absurd hx hw
    | some b=>cases b <;> rfl
   ·exact ZsO j w g (fun o ho=>hall o (by simp [ho])) s tm σ he
  cases hx:Zbp (some (j,w)) tm with
  | none =>
   rw [Zjq (by simp only [ZL,hg,hx])]
   simp only [ZeH,hx]
  | some b =>
   cases b with
   | false =>
    have h1:Zbh O byref (o::g) s tm σ=Zbh O byref g (s+nsite o.ins) (tput tm o.dst (.tup [])) σ :=
     ZkA (v:=.tup []) (c:={}) (by simp only [ZL,hg,hx]) rfl
    rw [h1,ih _ _ _ (by rw [Zfu hd,hx];simp)]
    unfold ZeH
    rw [Zfu hd,hx]
    rfl
   | true =>
    have key:∀ r:Option (AVal×Za×Cls),(∀ v σ' c,r=some (v,σ',c)→ZaP v=false→Zbh O byref g (s+nsite o.ins) (tput tm o.dst v) σ'=Zbh O byref (g.map unG) (s+nsite o.ins) (tput tm o.dst v) σ')→kN O byref o.dst g (s+nsite o.ins) tm r=kN O byref o.dst (g.map unG) (s+nsite o.ins) tm r:=by
     intro r hr
     cases r with
     | none=>rfl
     | some q =>
      obtain ⟨v,σ',c⟩:=q
      cases hp:ZaP v with
      | true=>simp only [kN,hp,if_true]
      | false=>rw [Zmf _ _ _ _ _ _ _ hp,Zmf _ _ _ _ _ _ _ hp];exact hr v σ' c rfl hp
    have h1:Zbh O byref (o::g) s tm σ=kN O byref o.dst g (s+nsite o.ins) tm (exI O byref o.ins s tm σ):=by
     have h0:Zbh O byref (o::g) s tm σ=Zbh O byref (⟨o.dst,o.ins,none,o.after⟩::g) s tm σ:=by
      have hst:ZL O byref o s tm σ=ZL O byref ⟨o.dst,o.ins,none,o.after⟩ s tm σ:=by
       unfold ZL
       simp only [hg,hx]
       rfl
      unfold Zbh
      simp only [ZX,hst]
     rw [h0,Znv]
    rw [h1]
    unfold ZeH
    rw [hx]
    simp only [List.map_cons]
    rw [show unG o=⟨o.dst,o.ins,none,o.after⟩ from rfl,Znv]
    refine key _ fun v σ' c _ _=>?_
    rw [ih _ _ _ (by rw [Zfu hd,hx];simp)]
    unfold ZeH
    rw [Zfu hd,hx]
theorem ZHW (d:Option Nat) (i:Ins) (j:Nat) (w:Bool) (af:List Nat) (os:List AOp) (s:Nat) (tm:Tms) (σ:Za) (hd:decide (d=some j)=false) :
  Zbh O byref (⟨d,i,some (j,w),af⟩::os) s tm σ=gK O byref (ZE j w os).2 (s+sitesOf (⟨d,i,some (j,w),af⟩::(ZE j w os).1)) (ZeH O byref j w (⟨d,i,some (j,w),af⟩::(ZE j w os).1) s tm σ):=by
 have h:=Znc j w os
 have hall:∀ o ∈ (⟨d,i,some (j,w),af⟩::(ZE j w os).1:List AOp),o.guard=some (j,w)∧o.dst≠some j:=by
  intro o ho
  rcases List.mem_cons.1 ho with rfl | ho
  ·exact ⟨rfl,by simpa using hd⟩
  ·exact Zof j w os o ho
 rw [←ZsO j w _ hall s tm σ (by simp),←Zr3,List.cons_append,h]
variable (O byref) in
def gW (w:Bool) (g:List AOp) (s:Nat) (tm:Tms) (σ:Za):AVal→Option (Tms×Za×Option AVal)
 | .bool b=>if b=w then Zbh O byref (g.map unG) s tm σ else some (Zas g tm,σ,none)
 | .tup []=>some (Zas g tm,σ,none)
 | _=>none
theorem ZL1 (j:Nat) (w:Bool) (g:List AOp) (s:Nat) (tm:Tms) (σ:Za):ZeH O byref j w g s tm σ=gW O byref w g s tm σ (tget tm j):=by
 unfold ZeH Zbp
 simp only
 generalize tget tm j=v
 cases v
 case bool b=>cases b <;> cases w <;> rfl
 case tup vs=>cases vs <;> rfl
 all_goals rfl
theorem ZAn (w:Bool) (g:List AOp) (s:Nat) (tm:Tms) (σ:Za) (b:Bool):gW O byref w g s tm σ (.bool b)=if b=w then Zbh O byref (g.map unG) s tm σ else some (Zas g tm,σ,none):=rfl
theorem Zzd (w:Bool) (g:List AOp) (s:Nat) (tm:Tms) (σ:Za):gW O byref w g s tm σ (.tup [])=some (Zas g tm,σ,none):=rfl
theorem ZF2 (os:List AOp) (s:Nat) (tm:Tms) (σ:Za):gK O byref os s (some (tm,σ,none))=Zbh O byref os s tm σ:=rfl
end
section
variable (c:Prop) [Decidable c]
theorem Zc9 {α:Type} (a b:α) (x y:List α):(if c then a::x else b::y)=(if c then a else b)::(if c then x else y):=by split <;> rfl
theorem ZKW (k:IntKind) (a b:Int):(if c then AVal.int k a else AVal.int k b)=AVal.int k (if c then a else b):=by split <;> rfl
theorem ZOH (a b:Bool):(if c then AVal.bool a else AVal.bool b)=AVal.bool (if c then a else b):=by split <;> rfl
theorem ZEx (a b:List UInt8):(if c then AVal.str a else AVal.str b)=AVal.str (if c then a else b):=by split <;> rfl
theorem ZBC (p q:Bool) (a b:List AVal):(if c then AVal.lst p a else AVal.lst q b)=AVal.lst (if c then p else q) (if c then a else b):=by split <;> rfl
theorem ZJI (a b:List AVal):(if c then AVal.agg a else AVal.agg b)=AVal.agg (if c then a else b):=by split <;> rfl
theorem ZMH (a b:List AVal):(if c then ZJ.var a else ZJ.var b)=ZJ.var (if c then a else b):=by split <;> rfl
theorem ZEO (g k:Nat) (a b:List AVal):(if c then ZJ.row g k a else ZJ.row g k b)=ZJ.row g k (if c then a else b):=by split <;> rfl
theorem Zwo (t:Nat) (a b:Nat):(if c then AVal.ref t a else AVal.ref t b)=AVal.ref t (if c then a else b):=by split <;> rfl
theorem Zj9 {α:Type} (x y z:α):(if c then (if c then x else y) else z)=if c then x else z:=by split <;> rfl
theorem ZsL {α:Type} (x y z:α):(if c then x else (if c then y else z))=if c then x else z:=by split <;> rfl
theorem Zyd (σ:Za) (a b:AVal) (p:Bool):Zfs σ a b (.bool p)=some (if p=true then a else b,σ,{}):=by cases p <;> rfl
theorem ZHj (a b:AVal):ZaP (if c then a else b)=if c then ZaP a else ZaP b:=by split <;> rfl
end
section
variable {fs:Nat→Option ZD} {prim:Zcm} {byref:Nat→Bool} {m0:Nat}
theorem Zxm (p:Bool) (a b:Ze) (tm:Tms) (σ:Za):Zig fs prim byref m0 a b tm σ (.bool p)=if p=true then evC fs prim byref m0 a tm σ else evC fs prim byref m0 b tm σ:=by
 cases p <;> rfl
theorem Zwh (b:Ze) (tm:Tms) (σ:Za):ZbG fs prim byref m0 b (some (.normal,tm,σ))=evC fs prim byref m0 b tm σ:=rfl
theorem ZBr (b:Ze) (i:Nat) (tm:Tms) (σ:Za):ZbG fs prim byref m0 b (some (.exit i,tm,σ))=some (.exit i,tm,σ):=rfl
theorem ZDg (b:Ze) (tm:Tms) (σ:Za):ZbG fs prim byref m0 b (some (.ret,tm,σ))=some (.ret,tm,σ):=rfl
theorem Zww (b:Ze) (x:AVal) (tm:Tms) (σ:Za):ZbG fs prim byref m0 b (some (.panic x,tm,σ))=some (.panic x,tm,σ):=rfl
theorem ZCL (c:Prop) [Decidable c] (b:Ze) (x y:Option (ZaV×Tms×Za)):ZbG fs prim byref m0 b (if c then x else y)=if c then ZbG fs prim byref m0 b x else ZbG fs prim byref m0 b y:=by split <;> rfl
theorem ZGt (id:Nat) (tm:Tms) (σ:Za):Option.map (ZaW id) (some (.normal,tm,σ))=some (.normal,tm,σ):=rfl
theorem ZNO (id i:Nat) (tm:Tms) (σ:Za):Option.map (ZaW id) (some (.exit i,tm,σ))=if i=id then some (.normal,tm,σ) else some (.exit i,tm,σ):=by
 simp only [Option.map_some,ZaW];split <;> rfl
theorem ZM7 (id:Nat) (tm:Tms) (σ:Za):Option.map (ZaW id) (some (.ret,tm,σ))=some (.ret,tm,σ):=rfl
theorem ZGO (id:Nat) (x:AVal) (tm:Tms) (σ:Za):Option.map (ZaW id) (some (.panic x,tm,σ))=some (.panic x,tm,σ):=rfl
theorem ZFG (id:Nat) (c:Prop) [Decidable c] (x y:Option (ZaV×Tms×Za)):Option.map (ZaW id) (if c then x else y)=if c then Option.map (ZaW id) x else Option.map (ZaW id) y:=by split <;> rfl
theorem ZHz (m:Nat) (fn:ZD) (c:Prop) [Decidable c] (x y:Option (ZaV×Tms×Za)):Zaq m fn (if c then x else y)=if c then Zaq m fn x else Zaq m fn y:=by split <;> rfl
end
section
variable {fs:Nat→Option ZD} {prim:Zcm} {byref:Nat→Bool} {m0:Nat}
theorem ZKY {live:List Nat} {c:Ze} {tm tm':Tms} {σ σ':Za} (h:evC fs prim byref m0 c tm σ=some (.normal,tm',σ')):evL fs prim byref m0 live c tm σ=evL fs prim byref m0 live c (gcT m0 (keepL live tm') σ').1 (gcT m0 (keepL live tm') σ').2:=by
 unfold evL
 rw [h]
 simp only
 rw [Zr8]
 rfl
theorem ZxC {live:List Nat} {c:Ze} {tm tm':Tms} {σ σ':Za} {i:Nat} (h:evC fs prim byref m0 c tm σ=some (.exit i,tm',σ')):evL fs prim byref m0 live c tm σ=some (.exit i,tm',σ'):=by
 unfold evL;rw [h]
theorem ZMg {live:List Nat} {c:Ze} {tm tm':Tms} {σ σ':Za} (h:evC fs prim byref m0 c tm σ=some (.ret,tm',σ')):evL fs prim byref m0 live c tm σ=some (.ret,tm',σ'):=by
 unfold evL;rw [h]
variable (fs prim byref m0) in
noncomputable def evM (live:List Nat) (c:Ze):Option (ZaV×Tms×Za)→Option (ZaV×Tms×Za)
 | some (.normal,tm,σ)=>evL fs prim byref m0 live c (gcT m0 (keepL live tm) σ).1 (gcT m0 (keepL live tm) σ).2
 | r=>r
theorem Z8 (live:List Nat) (c:Ze) (tm:Tms) (σ:Za):evL fs prim byref m0 live c tm σ=evM fs prim byref m0 live c (evC fs prim byref m0 c tm σ):=by
 cases h:evC fs prim byref m0 c tm σ with
 | none=>unfold evL;rw [h];rfl
 | some q =>
  obtain ⟨e,tm',σ'⟩:=q
  cases e with
  | normal=>exact ZKY h
  | exit i=>exact ZxC h
  | ret=>exact ZMg h
  | panic x=>unfold evL;rw [h];rfl
theorem ZLd (live:List Nat) (c:Ze) (tm:Tms) (σ:Za):evM fs prim byref m0 live c (some (.normal,tm,σ))=evL fs prim byref m0 live c (gcT m0 (keepL live tm) σ).1 (gcT m0 (keepL live tm) σ).2:=rfl
theorem Zym (live:List Nat) (c:Ze) (i:Nat) (tm:Tms) (σ:Za):evM fs prim byref m0 live c (some (.exit i,tm,σ))=some (.exit i,tm,σ):=rfl
theorem Zwq (live:List Nat) (c:Ze) (tm:Tms) (σ:Za):evM fs prim byref m0 live c (some (.ret,tm,σ))=some (.ret,tm,σ):=rfl
theorem ZIm (live:List Nat) (c:Ze) (x:AVal) (tm:Tms) (σ:Za):evM fs prim byref m0 live c (some (.panic x,tm,σ))=some (.panic x,tm,σ):=rfl
theorem Zzz (live:List Nat) (b:Ze) (c:Prop) [Decidable c] (x y:Option (ZaV×Tms×Za)):evM fs prim byref m0 live b (if c then x else y)=if c then evM fs prim byref m0 live b x else evM fs prim byref m0 live b y:=by split <;> rfl
end
def Za4:AVal→Bool
 | .int _ _=>true
 | .bool _=>true
 | .str _=>true
 | .nilp=>true
 | .nilm=>true
 | .nili=>true
 | .lst _ _=>true
 | .fn _ []=>true
 | _=>false
def Z9:AVal→Bool
 | .agg cs=>cs.all Za4
 | x=>Za4 x
def Zbc:AVal→AVal
 | .lst _ xs=>.lst false xs
 | x=>x
def ZG:AVal→AVal
 | .agg cs=>.agg (cs.map Zbc)
 | x=>Zbc x
theorem ZsR {σ:Za} {x:AVal} (h:Za4 x=true):ZcA σ x=some (Zbc x,[]):=by
 cases x <;> first | (simp [Za4] at h;done) | rfl
theorem ZrU {σ:Za}:∀ {xs:List AVal},xs.all Za4=true→Zcl σ xs=some (xs.map Zbc,[])
 | [],_=>rfl
 | x::xs,h=>by
  simp only [List.all_cons,Bool.and_eq_true] at h
  simp only [Zcl,ZsR h.1,ZrU h.2,List.map_cons,List.append_nil]
theorem ZhA {x:AVal} (h:∀ cs,x≠.agg cs):Z9 x=Za4 x∧ZG x=Zbc x:=by
 cases x <;> first | exact ⟨rfl,rfl⟩ | exact absurd rfl (h _)
theorem ZIg {σ:Za} {x:AVal} (h:∀ cs,x≠.agg cs):showA σ x=ZcA σ x:=by
 cases x <;> first | rfl | exact absurd rfl (h _)
theorem Znf (x:AVal):(∃ cs,x=.agg cs)∨∀ cs,x≠.agg cs:=by
 cases x <;> first | exact Or.inl ⟨_,rfl⟩ | (right;intro cs;simp)
theorem ZBz {σ:Za} {x:AVal} (h:Z9 x=true):showA σ x=some (ZG x,[]):=by
 rcases Znf x with ⟨cs,rfl⟩ | hn
 ·simp only [Z9] at h
  simp only [showA,ZrU h,ZG]
 ·rw [(ZhA hn).1] at h
  rw [ZIg hn,(ZhA hn).2]
  exact ZsR h
theorem Zd3 {σ:Za}:∀ {xs:List AVal},xs.all Z9=true→showAs σ xs=some (xs.map ZG,[])
 | [],_=>rfl
 | x::xs,h=>by
  simp only [List.all_cons,Bool.and_eq_true] at h
  simp only [showAs,ZBz h.1,Zd3 h.2,List.map_cons,List.append_nil]
theorem ZtP {x:AVal} (h:Za4 x=true):ZZ (Zbc x)=[]:=by
 cases x
 case fn f cs=>cases cs <;> simp [Za4] at h;rfl
 all_goals first | (simp [Za4] at h;done) | rfl
theorem ZrC:∀ {xs:List AVal},xs.all Za4=true→Zr (xs.map Zbc)=[]
 | [],_=>rfl
 | x::xs,h=>by
  simp only [List.all_cons,Bool.and_eq_true] at h
  simp only [List.map_cons,Zr,ZtP h.1,ZrC h.2,List.append_nil]
theorem Zqy {x:AVal} (h:Z9 x=true):ZZ (ZG x)=[]:=by
 rcases Znf x with ⟨cs,rfl⟩ | hn
 ·simp only [Z9] at h
  simp only [ZG,ZZ];exact ZrC h
 ·rw [(ZhA hn).1] at h
  rw [(ZhA hn).2];exact ZtP h
theorem Zc1:∀ {xs:List AVal},xs.all Z9=true→Zr (xs.map ZG)=[]
 | [],_=>rfl
 | x::xs,h=>by
  simp only [List.all_cons,Bool.and_eq_true] at h
  simp only [List.map_cons,Zr,Zqy h.1,Zc1 h.2,List.append_nil]
theorem ZvK {ρ:Rho} {x:AVal} (h:Za4 x=true):Zk ρ (Zbc x)=Zbc x:=by
 cases x
 case fn f cs=>cases cs <;> simp [Za4] at h;rfl
 all_goals first | (simp [Za4] at h;done) | rfl
theorem Zvj {ρ:Rho}:∀ {xs:List AVal},xs.all Za4=true→Zf ρ (xs.map Zbc)=xs.map Zbc
 | [],_=>rfl
 | x::xs,h=>by
  simp only [List.all_cons,Bool.and_eq_true] at h
  simp only [List.map_cons,Zf,ZvK h.1,Zvj h.2]
theorem ZsG {ρ:Rho} {x:AVal} (h:Z9 x=true):Zk ρ (ZG x)=ZG x:=by
 rcases Znf x with ⟨cs,rfl⟩ | hn
 ·simp only [Z9] at h
  simp only [ZG,Zk];rw [Zvj h]
 ·rw [(ZhA hn).1] at h
  rw [(ZhA hn).2];exact ZvK h
theorem ZcZ {ρ:Rho}:∀ {xs:List AVal},xs.all Z9=true→Zf ρ (xs.map ZG)=xs.map ZG
 | [],_=>rfl
 | x::xs,h=>by
  simp only [List.all_cons,Bool.and_eq_true] at h
  simp only [List.map_cons,Zf,ZsG h.1,ZcZ h.2]
theorem Zgf {O:ZQ} {byref:Nat→Bool} {σ:Za} {site f own:Nat} {view:Bool} {args:List AVal} (hb:byref f=false) (h:args.all Z9=true) :
  Zj O byref σ site f own view args=ZaA σ σ [] [] site own (Zah view 0 (O f (args.map ZG) [])):=by
 unfold Zj ZbM
 rw [hb]
 simp only [Bool.false_eq_true,if_false,Zd3 h]
 have h1:Zo σ []=σ:=rfl
 rw [h1,Zc1 h]
 have h2:Zz σ 1000 [] []=[]:=rfl
 rw [h2]
 unfold Zbz
 simp only [List.all_nil,if_true,ZcZ h,Zv,List.length_nil]
theorem Zi8 (σ:Za) (site own:Nat) (r:AVal) (h:Zk (Zax [] [] site) r=r):ZaA σ σ [] [] site own (some (r,[]))=some (r,σ,{}):=by
 simp only [ZaA,List.isEmpty_nil,Bool.and_self,if_true,ZcO,Bool.not_true,Bool.false_and,Bool.false_eq_true,if_false]
 split
 ·rfl
 ·rw [h]
end Go.Proofs.YtmlkhhidifjjfaaDoor
namespace Go.Proofs.YtmlkhhidifjjfaaDoor
section
variable (ρ:Rho) (σ:Za)
theorem ZGW  : ZaP (.top)=false:=rfl
theorem ZNn  : ZaP (.any)=false:=rfl
theorem ZNy (k:IntKind) (n:Int):ZaP (.int k n)=false:=rfl
theorem ZFg (b:Bool):ZaP (.bool b)=false:=rfl
theorem ZHK (l:List UInt8):ZaP (.str l)=false:=rfl
theorem ZJ9  : ZaP (.nilp)=false:=rfl
theorem ZMI (t:Nat) (o:Nat):ZaP (.ref t o)=false:=rfl
theorem ZOa (t:Nat) (g:Nat) (i:Nat) (o:Nat):ZaP (.eref t g i o)=false:=rfl
theorem ZHk (cs:List AVal) (o:Nat):ZaP (.iptr cs o)=false:=rfl
theorem ZDT (x:Bool) (xs:List AVal):ZaP (.lst x xs)=false:=rfl
theorem ZGG (t:Nat) (g:Nat) (lo:Nat) (n:Nat):ZaP (.sl t g lo n)=false:=rfl
theorem ZMw (cs:List AVal):ZaP (.agg cs)=false:=rfl
theorem Zyw (vs:List AVal):ZaP (.tup vs)=false:=rfl
theorem Zz9 (f:Nat) (caps:List AVal):ZaP (.fn f caps)=false:=rfl
theorem ZGX  : ZaP (.nilm)=false:=rfl
theorem ZOm (t:Nat):ZaP (.map t)=false:=rfl
theorem ZzL  : ZaP (.nili)=false:=rfl
theorem Zxq (t:Nat) (x:AVal):ZaP (.iface t x)=false:=rfl
theorem ZEi (x:AVal):ZaP (.pan x)=true:=rfl
theorem ZCK  : ZS (.top)=false:=rfl
theorem ZwX  : ZS (.any)=true:=rfl
theorem ZFV (k:IntKind) (n:Int):ZS (.int k n)=true:=rfl
theorem ZJn (b:Bool):ZS (.bool b)=true:=rfl
theorem ZNA (l:List UInt8):ZS (.str l)=true:=rfl
theorem ZKz  : ZS (.nilp)=true:=rfl
theorem ZDX (t:Nat) (o:Nat):ZS (.ref t o)=true:=rfl
theorem ZHU (t:Nat) (g:Nat) (i:Nat) (o:Nat):ZS (.eref t g i o)=true:=rfl
theorem ZLH (cs:List AVal) (o:Nat):ZS (.iptr cs o)=true:=rfl
theorem ZE9 (x:Bool) (xs:List AVal):ZS (.lst x xs)=true:=rfl
theorem ZvX (t:Nat) (g:Nat) (lo:Nat) (n:Nat):ZS (.sl t g lo n)=true:=rfl
theorem ZBj (cs:List AVal):ZS (.agg cs)=false:=rfl
theorem ZIV (vs:List AVal):ZS (.tup vs)=false:=rfl
theorem Zx2 (f:Nat) (caps:List AVal):ZS (.fn f caps)=true:=rfl
theorem ZBv  : ZS (.nilm)=true:=rfl
theorem ZOf (t:Nat):ZS (.map t)=true:=rfl
theorem ZNT  : ZS (.nili)=true:=rfl
theorem ZEQ (t:Nat) (x:AVal):ZS (.iface t x)=true:=rfl
theorem ZLX (x:AVal):ZS (.pan x)=false:=rfl
theorem ZzO  : Zbf (.top)=false:=rfl
theorem ZwY  : Zbf (.any)=true:=rfl
theorem Zzo (k:IntKind) (n:Int):Zbf (.int k n)=true:=rfl
theorem ZH4 (b:Bool):Zbf (.bool b)=true:=rfl
theorem ZGT (l:List UInt8):Zbf (.str l)=true:=rfl
theorem ZvN  : Zbf (.nilp)=true:=rfl
theorem ZJi (t:Nat) (o:Nat):Zbf (.ref t o)=true:=rfl
theorem ZDt (t:Nat) (g:Nat) (i:Nat) (o:Nat):Zbf (.eref t g i o)=true:=rfl
theorem ZDM (cs:List AVal) (o:Nat):Zbf (.iptr cs o)=true:=rfl
theorem ZBV (x:Bool) (xs:List AVal):Zbf (.lst x xs)=true:=rfl
theorem ZIb (t:Nat) (g:Nat) (lo:Nat) (n:Nat):Zbf (.sl t g lo n)=true:=rfl
theorem ZId (cs:List AVal):Zbf (.agg cs)=true:=rfl
theorem ZLK (vs:List AVal):Zbf (.tup vs)=true:=rfl
theorem Zxx (f:Nat) (caps:List AVal):Zbf (.fn f caps)=true:=rfl
theorem ZOD  : Zbf (.nilm)=true:=rfl
theorem ZCP (t:Nat):Zbf (.map t)=true:=rfl
theorem ZyZ  : Zbf (.nili)=true:=rfl
theorem ZJq (t:Nat) (x:AVal):Zbf (.iface t x)=true:=rfl
theorem Zwj (x:AVal):Zbf (.pan x)=true:=rfl
theorem ZIw  : ZaY (.top)=false:=rfl
theorem ZK5  : ZaY (.any)=false:=rfl
theorem ZER (k:IntKind) (n:Int):ZaY (.int k n)=true:=rfl
theorem ZBD (b:Bool):ZaY (.bool b)=true:=rfl
theorem ZHu (l:List UInt8):ZaY (.str l)=true:=rfl
theorem ZFi  : ZaY (.nilp)=true:=rfl
theorem Zv6 (t:Nat) (o:Nat):ZaY (.ref t o)=false:=rfl
theorem Zxw (t:Nat) (g:Nat) (i:Nat) (o:Nat):ZaY (.eref t g i o)=false:=rfl
theorem Zwk (cs:List AVal) (o:Nat):ZaY (.iptr cs o)=false:=rfl
theorem ZBn (x:Bool) (xs:List AVal):ZaY (.lst x xs)=false:=rfl
theorem ZEA (t:Nat) (g:Nat) (lo:Nat) (n:Nat):ZaY (.sl t g lo n)=false:=rfl
theorem ZN3 (cs:List AVal):ZaY (.agg cs)=false:=rfl
theorem Zv0 (vs:List AVal):ZaY (.tup vs)=false:=rfl
theorem ZJD (f:Nat) (caps:List AVal):ZaY (.fn f caps)=false:=rfl
theorem ZI6  : ZaY (.nilm)=true:=rfl
theorem Zyb (t:Nat):ZaY (.map t)=false:=rfl
theorem Zxd  : ZaY (.nili)=true:=rfl
theorem ZI5 (t:Nat) (x:AVal):ZaY (.iface t x)=false:=rfl
theorem ZFu (x:AVal):ZaY (.pan x)=false:=rfl
theorem ZM9  : Zbr (.top)=false:=rfl
theorem ZEj  : Zbr (.any)=false:=rfl
theorem ZEC (k:IntKind) (n:Int):Zbr (.int k n)=true:=rfl
theorem ZMZ (b:Bool):Zbr (.bool b)=true:=rfl
theorem ZKN (l:List UInt8):Zbr (.str l)=true:=rfl
theorem Zwv  : Zbr (.nilp)=true:=rfl
theorem ZNG (t:Nat) (o:Nat):Zbr (.ref t o)=false:=rfl
theorem ZIo (t:Nat) (g:Nat) (i:Nat) (o:Nat):Zbr (.eref t g i o)=false:=rfl
theorem ZAW (cs:List AVal) (o:Nat):Zbr (.iptr cs o)=false:=rfl
theorem ZFj (x:Bool) (xs:List AVal):Zbr (.lst x xs)=false:=rfl
theorem ZKC (t:Nat) (g:Nat) (lo:Nat) (n:Nat):Zbr (.sl t g lo n)=false:=rfl
theorem ZNW (cs:List AVal):Zbr (.agg cs)=cs.all ZaY:=rfl
theorem ZKg (vs:List AVal):Zbr (.tup vs)=false:=rfl
theorem ZJA (f:Nat) (caps:List AVal):Zbr (.fn f caps)=false:=rfl
theorem ZNK  : Zbr (.nilm)=true:=rfl
theorem ZG8 (t:Nat):Zbr (.map t)=false:=rfl
theorem Zz4  : Zbr (.nili)=true:=rfl
theorem ZKj (t:Nat) (x:AVal):Zbr (.iface t x)=false:=rfl
theorem Zyq (x:AVal):Zbr (.pan x)=false:=rfl
theorem ZF7  : Zby (.top)=false:=rfl
theorem ZAD  : Zby (.any)=false:=rfl
theorem ZIx (k:IntKind) (n:Int):Zby (.int k n)=true:=rfl
theorem ZGw (b:Bool):Zby (.bool b)=true:=rfl
theorem Zv7 (l:List UInt8):Zby (.str l)=true:=rfl
theorem Zwb  : Zby (.nilp)=true:=rfl
theorem ZLD (t:Nat) (o:Nat):Zby (.ref t o)=false:=rfl
theorem ZFC (t:Nat) (g:Nat) (i:Nat) (o:Nat):Zby (.eref t g i o)=false:=rfl
theorem ZFb (cs:List AVal) (o:Nat):Zby (.iptr cs o)=false:=rfl
theorem ZNw (x:Bool) (xs:List AVal):Zby (.lst x xs)=false:=rfl
theorem ZNc (t:Nat) (g:Nat) (lo:Nat) (n:Nat):Zby (.sl t g lo n)=false:=rfl
theorem ZGc (cs:List AVal):Zby (.agg cs)=cs.all ZaY:=rfl
theorem ZOt (vs:List AVal):Zby (.tup vs)=vs.all Zbr:=rfl
theorem ZEI (f:Nat) (caps:List AVal):Zby (.fn f caps)=false:=rfl
theorem Zz1  : Zby (.nilm)=true:=rfl
theorem ZyL (t:Nat):Zby (.map t)=false:=rfl
theorem ZN5  : Zby (.nili)=true:=rfl
theorem ZLV (t:Nat) (x:AVal):Zby (.iface t x)=false:=rfl
theorem Zye  : Za4 (.top)=false:=rfl
theorem ZFH  : Za4 (.any)=false:=rfl
theorem ZtI (k:IntKind) (n:Int):Za4 (.int k n)=true:=rfl
theorem ZMx (b:Bool):Za4 (.bool b)=true:=rfl
theorem Zvh (l:List UInt8):Za4 (.str l)=true:=rfl
theorem ZCu  : Za4 (.nilp)=true:=rfl
theorem ZE6 (t:Nat) (o:Nat):Za4 (.ref t o)=false:=rfl
theorem ZMO (t:Nat) (g:Nat) (i:Nat) (o:Nat):Za4 (.eref t g i o)=false:=rfl
theorem ZAo (cs:List AVal) (o:Nat):Za4 (.iptr cs o)=false:=rfl
theorem ZuJ (x:Bool) (xs:List AVal):Za4 (.lst x xs)=true:=rfl
theorem ZFU (t:Nat) (g:Nat) (lo:Nat) (n:Nat):Za4 (.sl t g lo n)=false:=rfl
theorem ZBK (cs:List AVal):Za4 (.agg cs)=false:=rfl
theorem Zwm (vs:List AVal):Za4 (.tup vs)=false:=rfl
theorem ZM8  : Za4 (.nilm)=true:=rfl
theorem ZDv (t:Nat):Za4 (.map t)=false:=rfl
theorem ZL3  : Za4 (.nili)=true:=rfl
theorem ZNS (t:Nat) (x:AVal):Za4 (.iface t x)=false:=rfl
theorem ZF1 (x:AVal):Za4 (.pan x)=false:=rfl
theorem ZJO  : Z9 (.top)=false:=rfl
theorem ZGk  : Z9 (.any)=false:=rfl
theorem ZD9 (k:IntKind) (n:Int):Z9 (.int k n)=true:=rfl
theorem ZMC (b:Bool):Z9 (.bool b)=true:=rfl
theorem ZEZ (l:List UInt8):Z9 (.str l)=true:=rfl
theorem ZJT  : Z9 (.nilp)=true:=rfl
theorem Zz6 (t:Nat) (o:Nat):Z9 (.ref t o)=false:=rfl
theorem ZLi (t:Nat) (g:Nat) (i:Nat) (o:Nat):Z9 (.eref t g i o)=false:=rfl
theorem ZHn (cs:List AVal) (o:Nat):Z9 (.iptr cs o)=false:=rfl
theorem ZJC (x:Bool) (xs:List AVal):Z9 (.lst x xs)=true:=rfl
theorem ZDk (t:Nat) (g:Nat) (lo:Nat) (n:Nat):Z9 (.sl t g lo n)=false:=rfl
theorem Zsc (cs:List AVal):Z9 (.agg cs)=cs.all Za4:=rfl
theorem ZFD (vs:List AVal):Z9 (.tup vs)=false:=rfl
theorem ZLN  : Z9 (.nilm)=true:=rfl
theorem ZBt (t:Nat):Z9 (.map t)=false:=rfl
theorem ZF9  : Z9 (.nili)=true:=rfl
theorem ZMF (t:Nat) (x:AVal):Z9 (.iface t x)=false:=rfl
theorem ZKX (x:AVal):Z9 (.pan x)=false:=rfl
theorem ZGf  : Zbc (.top)=(.top):=rfl
theorem ZE8  : Zbc (.any)=(.any):=rfl
theorem ZtE (k:IntKind) (n:Int):Zbc (.int k n)=(.int k n):=rfl
theorem ZLU (b:Bool):Zbc (.bool b)=(.bool b):=rfl
theorem ZvH (l:List UInt8):Zbc (.str l)=(.str l):=rfl
theorem Zx1  : Zbc (.nilp)=(.nilp):=rfl
theorem ZF0 (t:Nat) (o:Nat):Zbc (.ref t o)=(.ref t o):=rfl
theorem ZEy (t:Nat) (g:Nat) (i:Nat) (o:Nat):Zbc (.eref t g i o)=(.eref t g i o):=rfl
theorem Zx4 (cs:List AVal) (o:Nat):Zbc (.iptr cs o)=(.iptr cs o):=rfl
theorem ZqL (x:Bool) (xs:List AVal):Zbc (.lst x xs)=.lst false xs:=rfl
theorem ZBX (t:Nat) (g:Nat) (lo:Nat) (n:Nat):Zbc (.sl t g lo n)=(.sl t g lo n):=rfl
theorem ZDY (cs:List AVal):Zbc (.agg cs)=(.agg cs):=rfl
theorem ZwN (vs:List AVal):Zbc (.tup vs)=(.tup vs):=rfl
theorem ZBR (f:Nat) (caps:List AVal):Zbc (.fn f caps)=(.fn f caps):=rfl
theorem ZNU  : Zbc (.nilm)=(.nilm):=rfl
theorem ZCl (t:Nat):Zbc (.map t)=(.map t):=rfl
theorem ZEq  : Zbc (.nili)=(.nili):=rfl
theorem Zzh (t:Nat) (x:AVal):Zbc (.iface t x)=(.iface t x):=rfl
theorem ZEu (x:AVal):Zbc (.pan x)=(.pan x):=rfl
theorem ZHi  : ZG (.top)=(.top):=rfl
theorem ZE0  : ZG (.any)=(.any):=rfl
theorem ZLr (k:IntKind) (n:Int):ZG (.int k n)=(.int k n):=rfl
theorem ZE5 (b:Bool):ZG (.bool b)=(.bool b):=rfl
theorem ZNo (l:List UInt8):ZG (.str l)=(.str l):=rfl
theorem ZNs  : ZG (.nilp)=(.nilp):=rfl
theorem ZLY (t:Nat) (o:Nat):ZG (.ref t o)=(.ref t o):=rfl
theorem ZIe (t:Nat) (g:Nat) (i:Nat) (o:Nat):ZG (.eref t g i o)=(.eref t g i o):=rfl
theorem Zwd (cs:List AVal) (o:Nat):ZG (.iptr cs o)=(.iptr cs o):=rfl
theorem ZMa (x:Bool) (xs:List AVal):ZG (.lst x xs)=.lst false xs:=rfl
theorem ZHL (t:Nat) (g:Nat) (lo:Nat) (n:Nat):ZG (.sl t g lo n)=(.sl t g lo n):=rfl
theorem Zu2 (cs:List AVal):ZG (.agg cs)=.agg (cs.map Zbc):=rfl
theorem ZDA (vs:List AVal):ZG (.tup vs)=(.tup vs):=rfl
theorem ZKB (f:Nat) (caps:List AVal):ZG (.fn f caps)=(.fn f caps):=rfl
theorem ZHD  : ZG (.nilm)=(.nilm):=rfl
theorem ZC2 (t:Nat):ZG (.map t)=(.map t):=rfl
theorem ZBH  : ZG (.nili)=(.nili):=rfl
theorem ZH2 (t:Nat) (x:AVal):ZG (.iface t x)=(.iface t x):=rfl
theorem ZyI (x:AVal):ZG (.pan x)=(.pan x):=rfl
theorem ZHE  : AVal.cells (.top)=[(.top)]:=rfl
theorem Zwx  : AVal.cells (.any)=[(.any)]:=rfl
theorem ZLa (k:IntKind) (n:Int):AVal.cells (.int k n)=[(.int k n)]:=rfl
theorem ZBw (b:Bool):AVal.cells (.bool b)=[(.bool b)]:=rfl
theorem ZG9 (l:List UInt8):AVal.cells (.str l)=[(.str l)]:=rfl
theorem ZHq  : AVal.cells (.nilp)=[(.nilp)]:=rfl
theorem ZJl (t:Nat) (o:Nat):AVal.cells (.ref t o)=[(.ref t o)]:=rfl
theorem ZEW (t:Nat) (g:Nat) (i:Nat) (o:Nat):AVal.cells (.eref t g i o)=[(.eref t g i o)]:=rfl
theorem ZKl (cs:List AVal) (o:Nat):AVal.cells (.iptr cs o)=[(.iptr cs o)]:=rfl
theorem ZHv (x:Bool) (xs:List AVal):AVal.cells (.lst x xs)=[(.lst x xs)]:=rfl
theorem Zzw (t:Nat) (g:Nat) (lo:Nat) (n:Nat):AVal.cells (.sl t g lo n)=[(.sl t g lo n)]:=rfl
theorem ZyO (cs:List AVal):AVal.cells (.agg cs)=cs:=rfl
theorem ZHl (vs:List AVal):AVal.cells (.tup vs)=[(.tup vs)]:=rfl
theorem ZMW (f:Nat) (caps:List AVal):AVal.cells (.fn f caps)=[(.fn f caps)]:=rfl
theorem ZJH  : AVal.cells (.nilm)=[(.nilm)]:=rfl
theorem ZxU (t:Nat):AVal.cells (.map t)=[(.map t)]:=rfl
theorem ZG3  : AVal.cells (.nili)=[(.nili)]:=rfl
theorem ZzH (t:Nat) (x:AVal):AVal.cells (.iface t x)=[(.iface t x)]:=rfl
theorem ZD2 (x:AVal):AVal.cells (.pan x)=[(.pan x)]:=rfl
theorem ZwE  : ZaU (.top)=(.top):=rfl
theorem ZFv  : ZaU (.any)=(.any):=rfl
theorem ZIX (k:IntKind) (n:Int):ZaU (.int k n)=(.int k n):=rfl
theorem ZLP (b:Bool):ZaU (.bool b)=(.bool b):=rfl
theorem ZAj (l:List UInt8):ZaU (.str l)=(.str l):=rfl
theorem ZDe  : ZaU (.nilp)=(.nilp):=rfl
theorem ZwS (t:Nat) (o:Nat):ZaU (.ref t o)=(.ref t o):=rfl
theorem ZHr (t:Nat) (g:Nat) (i:Nat) (o:Nat):ZaU (.eref t g i o)=(.eref t g i o):=rfl
theorem ZKu (cs:List AVal) (o:Nat):ZaU (.iptr cs o)=(.iptr cs o):=rfl
theorem ZFq (x:Bool) (xs:List AVal):ZaU (.lst x xs)=(.lst x xs):=rfl
theorem ZNi (t:Nat) (g:Nat) (lo:Nat) (n:Nat):ZaU (.sl t g lo n)=(.sl t g lo n):=rfl
theorem ZNr (cs:List AVal):ZaU (.agg cs)=(.agg cs):=rfl
theorem ZKL (vs:List AVal):ZaU (.tup vs)=(.tup vs):=rfl
theorem ZJy (f:Nat) (caps:List AVal):ZaU (.fn f caps)=(.fn f caps):=rfl
theorem Zxe  : ZaU (.nilm)=(.nilm):=rfl
theorem ZDZ (t:Nat):ZaU (.map t)=(.map t):=rfl
theorem ZOv  : ZaU (.nili)=(.nili):=rfl
theorem ZLg (t:Nat) (x:AVal):ZaU (.iface t x)=(.iface t x):=rfl
theorem ZIO (x:AVal):ZaU (.pan x)=x:=rfl
theorem ZI0  : ZbO (.top)=4:=rfl
theorem ZJp  : ZbO (.any)=4:=rfl
theorem ZOe (k:IntKind) (n:Int):ZbO (.int k n)=0:=rfl
theorem Zyx (b:Bool):ZbO (.bool b)=1:=rfl
theorem ZAq (l:List UInt8):ZbO (.str l)=2:=rfl
theorem ZvW  : ZbO (.nilp)=4:=rfl
theorem Zyv (t:Nat) (o:Nat):ZbO (.ref t o)=4:=rfl
theorem ZKr (t:Nat) (g:Nat) (i:Nat) (o:Nat):ZbO (.eref t g i o)=4:=rfl
theorem ZAv (cs:List AVal) (o:Nat):ZbO (.iptr cs o)=4:=rfl
theorem ZIh (x:Bool) (xs:List AVal):ZbO (.lst x xs)=4:=rfl
theorem Zyi (t:Nat) (g:Nat) (lo:Nat) (n:Nat):ZbO (.sl t g lo n)=4:=rfl
theorem ZCJ (cs:List AVal):ZbO (.agg cs)=4:=rfl
theorem ZNx (vs:List AVal):ZbO (.tup vs)=4:=rfl
theorem ZDV (f:Nat) (caps:List AVal):ZbO (.fn f caps)=4:=rfl
theorem Zzs  : ZbO (.nilm)=4:=rfl
theorem ZwK (t:Nat):ZbO (.map t)=4:=rfl
theorem Zxp  : ZbO (.nili)=4:=rfl
theorem Zzq (t:Nat) (x:AVal):ZbO (.iface t x)=4:=rfl
theorem ZMv (x:AVal):ZbO (.pan x)=4:=rfl
theorem Zx6  : ZZ (.top)=[]:=rfl
theorem ZF5  : ZZ (.any)=[]:=rfl
theorem ZwL (k:IntKind) (n:Int):ZZ (.int k n)=[]:=rfl
theorem ZOw (b:Bool):ZZ (.bool b)=[]:=rfl
theorem ZyH (l:List UInt8):ZZ (.str l)=[]:=rfl
theorem ZBU  : ZZ (.nilp)=[]:=rfl
theorem ZCQ (t:Nat) (o:Nat):ZZ (.ref t o)=[t]:=rfl
theorem ZEV (t:Nat) (g:Nat) (i:Nat) (o:Nat):ZZ (.eref t g i o)=[t]:=rfl
theorem ZDN (cs:List AVal) (o:Nat):ZZ (.iptr cs o)=[]:=rfl
theorem ZGx (x:Bool) (xs:List AVal):ZZ (.lst x xs)=[]:=rfl
theorem ZD0 (t:Nat) (g:Nat) (lo:Nat) (n:Nat):ZZ (.sl t g lo n)=[t]:=rfl
theorem Zw3 (cs:List AVal):ZZ (.agg cs)=Zr cs:=rfl
theorem ZHV (vs:List AVal):ZZ (.tup vs)=Zr vs:=rfl
theorem ZBE (f:Nat) (caps:List AVal):ZZ (.fn f caps)=Zr caps:=rfl
theorem Zzv  : ZZ (.nilm)=[]:=rfl
theorem ZJZ (t:Nat):ZZ (.map t)=[t]:=rfl
theorem ZNH  : ZZ (.nili)=[]:=rfl
theorem ZMh (t:Nat) (x:AVal):ZZ (.iface t x)=ZZ x:=rfl
theorem ZJF (x:AVal):ZZ (.pan x)=ZZ x:=rfl
theorem ZNu  : Zk ρ (.top)=(.top):=rfl
theorem ZGJ  : Zk ρ (.any)=(.any):=rfl
theorem ZIp (k:IntKind) (n:Int):Zk ρ (.int k n)=(.int k n):=rfl
theorem ZLl (b:Bool):Zk ρ (.bool b)=(.bool b):=rfl
theorem ZGB (l:List UInt8):Zk ρ (.str l)=(.str l):=rfl
theorem ZAy  : Zk ρ (.nilp)=(.nilp):=rfl
theorem ZFa (cs:List AVal) (o:Nat):Zk ρ (.iptr cs o)=(.iptr cs o):=rfl
theorem ZyN (x:Bool) (xs:List AVal):Zk ρ (.lst x xs)=(.lst x xs):=rfl
theorem ZM2 (cs:List AVal):Zk ρ (.agg cs)=.agg (Zf ρ cs):=rfl
theorem ZEk (vs:List AVal):Zk ρ (.tup vs)=.tup (Zf ρ vs):=rfl
theorem ZI7 (f:Nat) (caps:List AVal):Zk ρ (.fn f caps)=.fn f (Zf ρ caps):=rfl
theorem ZC0  : Zk ρ (.nilm)=(.nilm):=rfl
theorem ZGp  : Zk ρ (.nili)=(.nili):=rfl
theorem ZLu (t:Nat) (x:AVal):Zk ρ (.iface t x)=.iface t (Zk ρ x):=rfl
theorem ZE7 (x:AVal):Zk ρ (.pan x)=.pan (Zk ρ x):=rfl
theorem Zzc (f:Nat):Za4 (.fn f [])=true:=rfl
theorem ZBS (f:Nat):Z9 (.fn f [])=true:=rfl
theorem ZJ1 (t:Nat) (x:AVal):Zby (.pan (.iface t x))=ZaY x:=rfl
theorem ZAU (live:List Nat) (tm:Tms):Zkt live (some (tm,σ,none))=some (.normal,keepL live tm,σ):=rfl
theorem ZAg (live:List Nat) (tm:Tms) (x:AVal):Zkt live (some (tm,σ,some x))=some (.panic x,[],σ):=rfl
theorem ZxX (live:List Nat):Zkt live none=none:=rfl
theorem ZGm (t o:Nat):Zk ρ (.ref t o)=(match ρ t 0 with | some (t',0)=>.ref t' o | _=>.any):=rfl
theorem Zwn (t:Nat):Zk ρ (.map t)=(match ρ t 0 with | some (t',0)=>.map t' | _=>.any):=rfl
theorem ZIi (t g lo n:Nat):Zk ρ (.sl t g lo n)=(match ρ t g with | some (t',g')=>.sl t' g' lo n | none=>.any):=rfl
theorem Zwa (t g i o:Nat):Zk ρ (.eref t g i o)=(match ρ t g with | some (t',g')=>.eref t' g' i o | none=>.any):=rfl
theorem ZHg:Zr []=[]:=rfl
theorem ZBu (x:AVal) (xs:List AVal):Zr (x::xs)=ZZ x++Zr xs:=rfl
theorem ZyT:Zf ρ []=[]:=rfl
theorem ZGi (x:AVal) (xs:List AVal):Zf ρ (x::xs)=Zk ρ x::Zf ρ xs:=rfl
end
end Go.Proofs.YtmlkhhidifjjfaaDoor
namespace Go.Proofs.YtmlkhhidifjjfaaDoor
mutual
def ZI:AVal→Bool
 | .ref _ _=>false
 | .eref _ _ _ _=>false
 | .sl _ _ _ _=>false
 | .map _=>false
 | .agg cs=>Zd cs
 | .tup vs=>Zd vs
 | .fn _ vs=>Zd vs
 | .iface _ x=>ZI x
 | .pan x=>ZI x
 | .top=>true
 | .any=>true
 | .int _ _=>true
 | .bool _=>true
 | .str _=>true
 | .nilp=>true
 | .nilm=>true
 | .nili=>true
 | .iptr _ _=>true
 | .lst _ _=>true
def Zd:List AVal→Bool
 | []=>true
 | x::xs=>ZI x && Zd xs
end
mutual
theorem Za5 (ρ:Rho):∀ (x:AVal),ZI x=true→Zk ρ x=x∧ZZ x=[]
 | .ref _ _,h=>by simp [ZI] at h
 | .eref _ _ _ _,h=>by simp [ZI] at h
 | .sl _ _ _ _,h=>by simp [ZI] at h
 | .map _,h=>by simp [ZI] at h
 | .agg cs,h=>by have:=ZaT ρ cs (by simpa only [ZI] using h);exact ⟨by simp only [Zk,this.1],by simp only [ZZ,this.2]⟩
 | .tup cs,h=>by have:=ZaT ρ cs (by simpa only [ZI] using h);exact ⟨by simp only [Zk,this.1],by simp only [ZZ,this.2]⟩
 | .fn f cs,h=>by have:=ZaT ρ cs (by simpa only [ZI] using h);exact ⟨by simp only [Zk,this.1],by simp only [ZZ,this.2]⟩
 | .iface t x,h=>by have:=Za5 ρ x (by simpa only [ZI] using h);exact ⟨by simp only [Zk,this.1],by simp only [ZZ,this.2]⟩
 | .pan x,h=>by have:=Za5 ρ x (by simpa only [ZI] using h);exact ⟨by simp only [Zk,this.1],by simp only [ZZ,this.2]⟩
 | .top,_=>⟨rfl,rfl⟩
 | .any,_=>⟨rfl,rfl⟩
 | .int _ _,_=>⟨rfl,rfl⟩
 | .bool _,_=>⟨rfl,rfl⟩
 | .str _,_=>⟨rfl,rfl⟩
 | .nilp,_=>⟨rfl,rfl⟩
 | .nilm,_=>⟨rfl,rfl⟩
 | .nili,_=>⟨rfl,rfl⟩
 | .iptr _ _,_=>⟨rfl,rfl⟩
 | .lst _ _,_=>⟨rfl,rfl⟩
theorem ZaT (ρ:Rho):∀ (xs:List AVal),Zd xs=true→Zf ρ xs=xs∧Zr xs=[]
 | [],_=>⟨rfl,rfl⟩
 | x::xs,h=>by
  simp only [Zd,Bool.and_eq_true] at h
  have h1:=Za5 ρ x h.1
  have h2:=ZaT ρ xs h.2
  exact ⟨by simp only [Zf,h1.1,h2.1],by simp only [Zr,h1.2,h2.2,List.append_nil]⟩
end
theorem ZuP {σ:Za} {r:AVal} (h:ZI r=true):Zal 0 σ r=some (r,[]):=by
 have h1:=Za5 (Zm σ 0 []) r h
 have hids:ZB 0 [r] σ=[]:=by
  unfold ZB
  simp only [Zr,h1.2,List.append_nil,List.range_zero,List.flatMap_nil]
  rfl
 unfold Zal gcA
 simp only [hids,Zf,Zv,h1.1]
def Zca:AVal→AVal
 | .tup vs=>.tup (vs.map ZG)
 | x=>ZG x
def Zcb:AVal→Bool
 | .tup vs=>vs.all Z9
 | x=>Z9 x
def ZbJ:AVal→Bool
 | .fn _ _=>false
 | _=>true
def ZbV:AVal→Bool
 | .agg cs=>cs.all ZbJ
 | x=>ZbJ x
def Zb8:AVal→Bool
 | .tup vs=>vs.all ZbV
 | x=>ZbV x
theorem ZzJ {k g n:Nat} {xs:List AVal} {σ:Za} {t:Nat} (hs:σ[t]?=some (.row g k xs)) (hn:n≤xs.length):ZbH 0 (some (.sl t g 0 n,σ))=some (.lst false (xs.take n),[]):=by
 have hv:viewR σ (.sl t g 0 n)=some (.lst false (xs.take n),[t]):=by
  simp only [viewR,ZN,ZK,ZV,hs,Nat.zero_add,hn,and_self,if_true,List.drop_zero]
 have e:ZbH 0 (some (.sl t g 0 n,σ))=(match viewR σ (.sl t g 0 n) with
  | some (r',ts)=>match gcA 0 [r'] (Zo σ ts) with
   | ([r''],σ')=>some (r'',σ')
   | _=>none
  | none=>none):=rfl
 rw [e,hv]
 exact ZuP rfl
theorem Zwy {m:Nat} {fn:ZD} {tm:Tms} {σ:Za}:Zaq m fn (some (.ret,tm,σ))=match resA tm σ fn.res with
  | some r=>Zal m σ r
  | none=>none:=rfl
theorem ZEl {m:Nat} {fn:ZD} {tm:Tms} {σ:Za}:Zaq m fn (some (.normal,tm,σ))=match resA tm σ fn.res with
  | some r=>Zal m σ r
  | none=>none:=rfl
theorem ZMy {m:Nat} {fn:ZD} {tm:Tms} {σ:Za} {x:AVal}:Zaq m fn (some (.panic x,tm,σ))=Zal m σ (.pan x):=rfl
theorem ZwA  : ZI (.top)=true:=rfl
theorem ZAp  : ZI (.any)=true:=rfl
theorem Zy5 (k:IntKind) (n:Int):ZI (.int k n)=true:=rfl
theorem ZFJ (b:Bool):ZI (.bool b)=true:=rfl
theorem ZH6 (l:List UInt8):ZI (.str l)=true:=rfl
theorem Zzn  : ZI (.nilp)=true:=rfl
theorem ZwC (t:Nat) (o:Nat):ZI (.ref t o)=false:=rfl
theorem ZOn (t:Nat) (g:Nat) (i:Nat) (o:Nat):ZI (.eref t g i o)=false:=rfl
theorem ZAu (cs:List AVal) (o:Nat):ZI (.iptr cs o)=true:=rfl
theorem ZA1 (x:Bool) (xs:List AVal):ZI (.lst x xs)=true:=rfl
theorem ZyK (t:Nat) (g:Nat) (lo:Nat) (n:Nat):ZI (.sl t g lo n)=false:=rfl
theorem ZNj (cs:List AVal):ZI (.agg cs)=Zd cs:=rfl
theorem ZNf (vs:List AVal):ZI (.tup vs)=Zd vs:=rfl
theorem Zyr (f:Nat) (caps:List AVal):ZI (.fn f caps)=Zd caps:=rfl
theorem ZAZ  : ZI (.nilm)=true:=rfl
theorem ZLv (t:Nat):ZI (.map t)=false:=rfl
theorem ZCc  : ZI (.nili)=true:=rfl
theorem ZMz (t:Nat) (x:AVal):ZI (.iface t x)=ZI x:=rfl
theorem ZEU (x:AVal):ZI (.pan x)=ZI x:=rfl
theorem ZB1  : ZbJ (.top)=true:=rfl
theorem ZKI  : ZbJ (.any)=true:=rfl
theorem ZEB (k:IntKind) (n:Int):ZbJ (.int k n)=true:=rfl
theorem ZGv (b:Bool):ZbJ (.bool b)=true:=rfl
theorem ZCU (l:List UInt8):ZbJ (.str l)=true:=rfl
theorem ZLL  : ZbJ (.nilp)=true:=rfl
theorem ZFK (t:Nat) (o:Nat):ZbJ (.ref t o)=true:=rfl
theorem ZvP (t:Nat) (g:Nat) (i:Nat) (o:Nat):ZbJ (.eref t g i o)=true:=rfl
theorem ZCD (cs:List AVal) (o:Nat):ZbJ (.iptr cs o)=true:=rfl
theorem ZAR (x:Bool) (xs:List AVal):ZbJ (.lst x xs)=true:=rfl
theorem ZGd (t:Nat) (g:Nat) (lo:Nat) (n:Nat):ZbJ (.sl t g lo n)=true:=rfl
theorem ZLI (cs:List AVal):ZbJ (.agg cs)=true:=rfl
theorem ZFM (vs:List AVal):ZbJ (.tup vs)=true:=rfl
theorem ZHh (f:Nat) (caps:List AVal):ZbJ (.fn f caps)=false:=rfl
theorem ZFN  : ZbJ (.nilm)=true:=rfl
theorem ZAE (t:Nat):ZbJ (.map t)=true:=rfl
theorem ZNL  : ZbJ (.nili)=true:=rfl
theorem ZDQ (t:Nat) (x:AVal):ZbJ (.iface t x)=true:=rfl
theorem ZH0 (x:AVal):ZbJ (.pan x)=true:=rfl
theorem ZCm  : ZbV (.top)=true:=rfl
theorem ZMA  : ZbV (.any)=true:=rfl
theorem Zw0 (k:IntKind) (n:Int):ZbV (.int k n)=true:=rfl
theorem ZFS (b:Bool):ZbV (.bool b)=true:=rfl
theorem Zwz (l:List UInt8):ZbV (.str l)=true:=rfl
theorem ZHm  : ZbV (.nilp)=true:=rfl
theorem ZNg (t:Nat) (o:Nat):ZbV (.ref t o)=true:=rfl
theorem ZyD (t:Nat) (g:Nat) (i:Nat) (o:Nat):ZbV (.eref t g i o)=true:=rfl
theorem ZEM (cs:List AVal) (o:Nat):ZbV (.iptr cs o)=true:=rfl
theorem ZIr (x:Bool) (xs:List AVal):ZbV (.lst x xs)=true:=rfl
theorem ZB6 (t:Nat) (g:Nat) (lo:Nat) (n:Nat):ZbV (.sl t g lo n)=true:=rfl
theorem ZCd (cs:List AVal):ZbV (.agg cs)=cs.all ZbJ:=rfl
theorem ZJe (vs:List AVal):ZbV (.tup vs)=true:=rfl
theorem ZIP (f:Nat) (caps:List AVal):ZbV (.fn f caps)=false:=rfl
theorem ZIY  : ZbV (.nilm)=true:=rfl
theorem ZMu (t:Nat):ZbV (.map t)=true:=rfl
theorem ZJK  : ZbV (.nili)=true:=rfl
theorem ZwD (t:Nat) (x:AVal):ZbV (.iface t x)=true:=rfl
theorem ZEa (x:AVal):ZbV (.pan x)=true:=rfl
theorem ZFY  : Zb8 (.top)=true:=rfl
theorem ZyR  : Zb8 (.any)=true:=rfl
theorem ZDP (k:IntKind) (n:Int):Zb8 (.int k n)=true:=rfl
theorem Zxo (b:Bool):Zb8 (.bool b)=true:=rfl
theorem ZDb (l:List UInt8):Zb8 (.str l)=true:=rfl
theorem Zy1  : Zb8 (.nilp)=true:=rfl
theorem Zyn (t:Nat) (o:Nat):Zb8 (.ref t o)=true:=rfl
theorem Zwc (t:Nat) (g:Nat) (i:Nat) (o:Nat):Zb8 (.eref t g i o)=true:=rfl
theorem ZJh (cs:List AVal) (o:Nat):Zb8 (.iptr cs o)=true:=rfl
theorem ZAH (x:Bool) (xs:List AVal):Zb8 (.lst x xs)=true:=rfl
theorem ZGP (t:Nat) (g:Nat) (lo:Nat) (n:Nat):Zb8 (.sl t g lo n)=true:=rfl
theorem ZDC (cs:List AVal):Zb8 (.agg cs)=cs.all ZbJ:=rfl
theorem ZH1 (vs:List AVal):Zb8 (.tup vs)=vs.all ZbV:=rfl
theorem ZNk (f:Nat) (caps:List AVal):Zb8 (.fn f caps)=false:=rfl
theorem ZJc  : Zb8 (.nilm)=true:=rfl
theorem ZAh (t:Nat):Zb8 (.map t)=true:=rfl
theorem ZN6  : Zb8 (.nili)=true:=rfl
theorem ZMs (t:Nat) (x:AVal):Zb8 (.iface t x)=true:=rfl
theorem ZDc (x:AVal):Zb8 (.pan x)=true:=rfl
theorem Zwe  : Zcb (.top)=false:=rfl
theorem ZIl  : Zcb (.any)=false:=rfl
theorem ZDR (k:IntKind) (n:Int):Zcb (.int k n)=true:=rfl
theorem ZJV (b:Bool):Zcb (.bool b)=true:=rfl
theorem ZNp (l:List UInt8):Zcb (.str l)=true:=rfl
theorem ZKF  : Zcb (.nilp)=true:=rfl
theorem ZLB (t:Nat) (o:Nat):Zcb (.ref t o)=false:=rfl
theorem Zv9 (t:Nat) (g:Nat) (i:Nat) (o:Nat):Zcb (.eref t g i o)=false:=rfl
theorem ZHo (cs:List AVal) (o:Nat):Zcb (.iptr cs o)=false:=rfl
theorem ZEc (x:Bool) (xs:List AVal):Zcb (.lst x xs)=true:=rfl
theorem ZNV (t:Nat) (g:Nat) (lo:Nat) (n:Nat):Zcb (.sl t g lo n)=false:=rfl
theorem ZFR (cs:List AVal):Zcb (.agg cs)=cs.all Za4:=rfl
theorem ZII (vs:List AVal):Zcb (.tup vs)=vs.all Z9:=rfl
theorem Zzt  : Zcb (.nilm)=true:=rfl
theorem ZwT (t:Nat):Zcb (.map t)=false:=rfl
theorem ZEG  : Zcb (.nili)=true:=rfl
theorem ZD6 (t:Nat) (x:AVal):Zcb (.iface t x)=false:=rfl
theorem ZxK (x:AVal):Zcb (.pan x)=false:=rfl
theorem ZHf  : Zca (.top)=(.top):=rfl
theorem ZMB  : Zca (.any)=(.any):=rfl
theorem ZKK (k:IntKind) (n:Int):Zca (.int k n)=(.int k n):=rfl
theorem Zwu (b:Bool):Zca (.bool b)=(.bool b):=rfl
theorem ZEP (l:List UInt8):Zca (.str l)=(.str l):=rfl
theorem ZxI  : Zca (.nilp)=(.nilp):=rfl
theorem ZFx (t:Nat) (o:Nat):Zca (.ref t o)=(.ref t o):=rfl
theorem ZCZ (t:Nat) (g:Nat) (i:Nat) (o:Nat):Zca (.eref t g i o)=(.eref t g i o):=rfl
theorem ZL7 (cs:List AVal) (o:Nat):Zca (.iptr cs o)=(.iptr cs o):=rfl
theorem ZJg (x:Bool) (xs:List AVal):Zca (.lst x xs)=.lst false xs:=rfl
theorem ZGj (t:Nat) (g:Nat) (lo:Nat) (n:Nat):Zca (.sl t g lo n)=(.sl t g lo n):=rfl
theorem ZI8 (cs:List AVal):Zca (.agg cs)=.agg (cs.map Zbc):=rfl
theorem Zw9 (vs:List AVal):Zca (.tup vs)=.tup (vs.map ZG):=rfl
theorem ZJJ (f:Nat) (caps:List AVal):Zca (.fn f caps)=(.fn f caps):=rfl
theorem ZOs  : Zca (.nilm)=(.nilm):=rfl
theorem ZCq (t:Nat):Zca (.map t)=(.map t):=rfl
theorem ZBc  : Zca (.nili)=(.nili):=rfl
theorem ZA0 (t:Nat) (x:AVal):Zca (.iface t x)=(.iface t x):=rfl
theorem ZE4 (x:AVal):Zca (.pan x)=(.pan x):=rfl
theorem Zxf:Zd []=true:=rfl
theorem ZCr (x:AVal) (xs:List AVal):Zd (x::xs)=(ZI x && Zd xs):=rfl
theorem ZzV (f:Nat):Zcb (.fn f [])=true:=rfl
theorem Zx8 (p q:Bool):(if p=true then q else false)=(p && q):=by cases p <;> rfl
theorem ZNz (p q:Bool):(if p=true then true else q)=(p || q):=by cases p <;> rfl
theorem ZNM (p q:Bool):(if p=true then false else q)=(!p && q):=by cases p <;> rfl
theorem ZJU (p q:Bool):(if p=true then q else true)=(!p || q):=by cases p <;> rfl
theorem ZKR (p q:Bool):(if p=false then q else false)=(!p && q):=by cases p <;> rfl
theorem ZB3 (p q:Bool):(if p=false then true else q)=(!p || q):=by cases p <;> rfl
theorem ZxD (p q:Bool):(if p=false then false else q)=(p && q):=by cases p <;> rfl
theorem ZCg (p q:Bool):(if p=false then q else true)=(p || q):=by cases p <;> rfl
section
def Zen (o:AOp):AOp:=⟨o.dst,o.ins,o.guard,[]⟩
def Zcv:Ze→Ze
 | .region ops chk live=>.region (ops.map Zen) chk live
 | .seq a b=>.seq (Zcv a) (Zcv b)
 | .cond c a b=>.cond c (Zcv a) (Zcv b)
 | .block id c=>.block id (Zcv c)
 | .loop live c=>.loop live (Zcv c)
 | .skip=>.skip
 | .exit id=>.exit id
 | .ret=>.ret
 | .stuck=>.stuck
def Zlv (f:ZD):ZD:=⟨f.res,Zcv f.body⟩
section
variable {O:ZQ} {byref:Nat→Bool}
theorem ZGu (o:AOp) (s:Nat) (tm:Tms) (σ:Za):ZL O byref (Zen o) s tm σ=ZL O byref o s tm σ:=rfl
theorem ZrI:∀ (ops:List AOp) (s:Nat) (tm:Tms) (σ:Za),ZX O byref (ops.map Zen) s tm σ=ZX O byref ops s tm σ
 | [],_,_,_=>rfl
 | o::os,s,tm,σ=>by
  simp only [List.map_cons,ZX,ZGu]
  split
  ·rfl
  ·rfl
  ·rename_i tm' σ' c _ _
   rw [show (Zen o).ins=o.ins from rfl,ZrI os]
theorem ZoE (ops:List AOp):sitesOf (ops.map Zen)=sitesOf ops:=by
 simp [sitesOf,Zen,Function.comp_def]
theorem ZkM (ops:List AOp) (i:Nat):((ops.map Zen).getD i default).ins=(ops.getD i default).ins:=by
 simp only [List.getD_eq_getElem?_getD,List.getElem?_map]
 cases ops[i]? <;> rfl
theorem ZHF (ops:List AOp) (b:Nat) (l:List (Nat×Nat)) (cs:List Cls):Zdb (ops.map Zen) b l cs=Zdb ops b l cs:=by
 unfold Zdb
 congr 1
 funext p
 unfold Zcj Zb6
 rw [ZkM,ZkM,←List.map_take,ZoE]
theorem ZES (ops:List AOp) (b:Nat) (l:List (Nat×Nat)) (cs:List Cls):Zdc (ops.map Zen) b l cs=Zdc ops b l cs:=by
 unfold Zdc
 congr 2
 funext p
 unfold Zcj Zb6
 rw [ZkM,ZkM,←List.map_take,ZoE]
theorem ZEd (ops:List AOp) (chk:Option (List (Nat×Nat))) (live:List Nat) (tm:Tms) (σ:Za):ZbX O byref (ops.map Zen) chk live tm σ=ZbX O byref ops chk live tm σ:=by
 unfold ZbX
 rw [ZrI,ZoE]
 cases ZX O byref ops σ.length tm (σ++List.replicate (sitesOf ops) .free) with
 | none=>rfl
 | some q =>
  obtain ⟨tm',σ',cs,p⟩:=q
  cases p with
  | some x =>
   cases chk with
   | none=>rfl
   | some l=>simp only [ZcF,ZES]
  | none =>
   cases chk with
   | none=>rfl
   | some l=>simp only [ZcF,ZHF]
theorem ZdO (m n:Nat):∀ (c:Ze),Z4 O byref m n (Zcv c)=Z4 O byref m n c
 | .region ops chk live=>by funext tm σ;simp only [Zcv,Z4,ZEd]
 | .seq a b=>by funext tm σ;simp only [Zcv,Z4,ZdO m n a,ZdO m n b]
 | .cond c a b=>by funext tm σ;simp only [Zcv,Z4,ZdO m n a,ZdO m n b]
 | .block id c=>by funext tm σ;simp only [Zcv,Z4,ZdO m n c]
 | .loop live c=>by funext tm σ;simp only [Zcv,Z4,ZdO m n c]
 | .skip=>rfl
 | .exit id=>rfl
 | .ret=>rfl
 | .stuck=>rfl
end
theorem Zo7 (fs:Nat→Option ZD) (prim:Zcm) (byref:Nat→Bool):∀ n,Zat (fun f=>(fs f).map Zlv) prim byref n=Zat fs prim byref n
 | 0=>rfl
 | n+1=>by
  funext f args σ
  simp only [Zat,Zo7 fs prim byref n]
  cases prim f with
  | some g=>rfl
  | none =>
   cases fs f with
   | none=>rfl
   | some fn =>
    simp only [Option.map_some,Zlv,ZdO]
    rfl
theorem ZC3 (fs:Nat→Option ZD) (prim:Zcm) (byref:Nat→Bool):EV (fun f=>(fs f).map Zlv) prim byref=EV fs prim byref:=by
 funext f args σ
 apply Ze5
 intro r
 rw [Zdy,Zdy]
 simp only [Zo7]
end
end Go.Proofs.YtmlkhhidifjjfaaDoor
namespace Go.Proofs.YtmlkhhidifjjfaaDoor
open Go.RowKit
def Zjd:List AVal→Za→Option (AVal×Za):=fun _ _=>none
theorem Zsd {α:Prop} {args:List AVal} {σ:Za} {r:AVal×Za} (h:Zjd args σ=some r):α:=by cases h
def ZhD (k bytes:Nat) (args:List AVal) (σ:Za):Option (AVal×Za):=match args with
 | [.str _]=>none
 | [a]=>match ZV σ a with
  | some (xs,_)=>if xs.length*bytes≤140737488355328∧kOk k xs=true then some (.sl σ.length 0 0 xs.length,σ++[.row 0 k xs]) else none
  | none=>none
 | _=>none
def Zes:Ann:={ nt:=8,lr:=fun _=>[7,6,5,4,3,2,0] }
structure Zqf (P:Program) (t:TypeId) (k bytes:Nat) (z:AVal) (f:FuncId):Prop where
 ex:∃ (F:Func) (e:TypeId) (i0 i1 i2 i3:Nat) (r0 r2 r3:Array Oper) (m b:Oper),
  P.funcs[f]?=some F∧F.results=#[.tmp 2]∧F.ntmps=8∧(F.name == "runtime.NumGoroutine")=false∧P.underlying t=some (.slice e) ∧
  F.body=some (.seq (.region i0 r0 false) (.seq (.seq (.region i1 #[m,b] false) (.cond (.tmp 4) (.seq (.region i2 r2 false) .ret) .skip)) (.seq (.region i3 r3 false) .ret))) ∧
  m.op=.move (.tmp 0)∧m.dst=some 3∧m.guard=none∧b.op=.binOp .eql t (.tmp 3) (.const (.slice none 0 0)) t∧b.dst=some 4∧b.guard=none ∧
  Zc8 P Zes r0 r0.toList=some [⟨some 2,.mov (.c (.lst true [])),none,[]⟩] ∧
  Zc8 P Zes r2 r2.toList=some [⟨some 2,.mov (.c (.lst true [])),none,[]⟩] ∧
  (∃ a1 a2 a3 a4,Zc8 P Zes r3 r3.toList=some [⟨some 5,.bslice false k 0 z [],none,a1⟩,⟨some 6,.mov (.t 0),none,a2⟩,⟨some 7,.app k bytes z (.t 5) (.t 6),none,a3⟩,⟨some 2,.mov (.t 7),none,a4⟩])∧z.cells.length=k∧0 < k
section
variable {P:Program} {base:Nat→Prop} {w0 w w':World} {I0 I:Imm} {β:Bmap} {σ:Za}
theorem noO:ZaL P (fun _ _ _=>none):=by intro f args σ r σ' h;cases h
theorem ZeE {ops:Array Oper} {Q:Exit→Act→World→Prop} {o:Oper} {l:List Oper} {a:Act} {w:World} (hg:o.guard=none) (h:o.wp P a w (wpList P ops Q l) Q):wpList P ops Q (o::l) a w:=by
 unfold wpList
 have : Region.wanted o (yielded ops a.tmps)=true:=by unfold Region.wanted;rw [hg]
 rw [this]
 simp only [if_true]
 exact Or.inl h
theorem Zq6 {t : TypeId} {k bytes : Nat} {z : AVal} {f : FuncId} (hm : P.follows .mixedOrders = true) (C : Zqf P t k bytes z f) {args : List AVal} {σ σ' : Za} {r : AVal} (h : ZhD k bytes args σ = some (r, σ')) :
    (∃ fn, P.funcs[f]? = some fn ∧ fn.body.isSome = true ∧ (fn.name == "runtime.NumGoroutine") = false) ∧
    ∀ base w0 I0 I β w (vs : Array Value), KLt base w0 → Rel base w0 I0 I β σ w → VRs I β args vs.toList →
      Calls P f vs w (fun e w' => ∃ u, Ends r e u ∧ ZbY σ.length base w0 I0 I β r σ' u w') := by
  obtain ⟨F, e, i0, i1, i2, i3, r0, r2, r3, m, b, hF, hres, hnt, hname, hu, hbody, hm1, hm2, hm3, hb1, hb2, hb3, hc0, hc2, ⟨a1, a2, a3, a4, hc3⟩, hzk, hk0⟩ := C.ex
  refine ⟨⟨F, hF, by rw [hbody]; rfl, hname⟩, ?_⟩
  intro base w0 I0 I β w vs hb R hargs
  unfold ZhD at h
  split at h
  case h_1 => cases h
  case h_3 => cases h
  rename_i a hns
  split at h
  case h_2 => cases h
  rename_i xs ts hel0
  split at h
  case isFalse => cases h
  rename_i hc
  obtain ⟨hbytes, hkOk⟩ := hc
  simp only [Option.some.injEq, Prod.mk.injEq] at h
  obtain ⟨rfl, rfl⟩ := h
  have hnt8 : ∀ (n : Nat), n < 8 → n < Zes.nt := fun n h => h
  refine calls_of_wp hF hbody ?_
  have hsz : vs.size = 1 := by have := ZaX hargs; simpa using this.symm
  have T := ZmA hargs (F.ntmps - vs.size)
  have hst : StR ZbI 8 base w0 I0 I β (enterA 0 [a] []) σ { tmps := vs ++ Array.replicate (F.ntmps - vs.size) undef, defers := [] } w := ⟨I, β, Imm.le.refl I, Bmap.le.refl β, T, ⟨Ze8.2 rfl, by simp; omega⟩, R⟩
  have fin : ∀ {tm : Tms} {σ1 : Za} {y : AVal} {a' : Act} {w1 : World}, StR ZbI 8 base w0 I0 I β tm σ1 a' w1 → tget tm 2 = y → (∀ I' β' u, I.le I' → β.le β' → Rel base w0 I0 I' β' σ1 w1 → VR I' β' y u → ZbY σ.length base w0 I0 I β (.sl σ.length 0 0 xs.length) (σ ++ [.row 0 k xs]) u w1) →
      a'.defers = [] ∧ ∃ v, (results F a'.tmps).run P w1 = .ok v w1 ∧ ∃ u, Ends (.sl σ.length 0 0 xs.length) (.returned v) u ∧ ZbY σ.length base w0 I0 I β (.sl σ.length 0 0 xs.length) (σ ++ [.row 0 k xs]) u w1 := by
    rintro tm σ1 y a' w1 ⟨I', β', h1, h2, h3, h4, h5⟩ hy hpost
    refine ⟨Ze8.1 h4.1, a'.tmps.getD 2 undef, by simp [results, hres], _, rfl, ?_⟩
    have := h3 2
    rw [hy] at this
    exact hpost I' β' _ h1 h2 h5 this
  have R0 : ZaQ P Zes (.region i0 r0 false) = .region [⟨some 2, .mov (.c (.lst true [])), none, []⟩] none [7, 6, 5, 4, 3, 2, 0] := by simp only [ZaQ]; rw [hc0]; rfl
  have R2 : ZaQ P Zes (.region i2 r2 false) = .region [⟨some 2, .mov (.c (.lst true [])), none, []⟩] none [7, 6, 5, 4, 3, 2, 0] := by simp only [ZaQ]; rw [hc2]; rfl
  have R3 : ZaQ P Zes (.region i3 r3 false) = .region [⟨some 5, .bslice false k 0 z [], none, a1⟩, ⟨some 6, .mov (.t 0), none, a2⟩, ⟨some 7, .app k bytes z (.t 5) (.t 6), none, a3⟩, ⟨some 2, .mov (.t 7), none, a4⟩] none [7, 6, 5, 4, 3, 2, 0] := by simp only [ZaQ]; rw [hc3]; rfl
  refine wp_seq ?_
  refine ZlY (an := Zes) (dr := ZbI) (byref := fun _ => false) noO (fun n hn => by simp [ZbI] at hn) hm hb R0 hst (e := .normal) (tm' := keepL [7, 6, 5, 4, 3, 2, 0] [(2, .lst true []), (0, a)]) (σ' := σ) ?_ ?_
  · simp [ZbX, ZcF, sitesOf, nsite, ZX, ZL, Zbp, execI, Opd.ev, tput, tins, enterA]
  intro a1' w1 hst1
  simp only [Exit.then]
  refine wp_seq (wp_seq ?_)
  refine wp_region_list ?_
  refine ZeE hm3 ?_
  obtain ⟨I1, β1, g1, g2, g3, g4, g5⟩ := hst1
  have hs8 : 8 ≤ a1'.tmps.size := g4.2
  have hT0 : VR I1 β1 a (a1'.tmps.getD 0 undef) := by have := g3 0; simpa [keepL, tget] using this
  obtain ⟨A, cap, hv0, q1, q2, q5, q4⟩ := Zqs g5 (fun l e => hns l e) hel0 hT0
  show m.wp P a1' w1 _ _
  unfold Oper.wp
  have e1 : (execOp a1'.eval m).run P w1 = .ok (.value (.slice A xs.length cap)) w1 := by
    unfold execOp; rw [hm1]; simp [Act.eval, hv0]
  rw [e1, Oper.upon_value, hm2]
  refine ZeE hb3 ?_
  unfold Oper.wp
  have hs3 : (a1'.put (some 3) (.slice A xs.length cap)).tmps.getD 3 undef = .slice A xs.length cap := by
    have : 3 < a1'.tmps.size := by omega
    simp [Act.put, Array.getD, this]
  have e2 : (execOp (a1'.put (some 3) (.slice A xs.length cap)).eval b).run P w1 = .ok (.value (.bool A.isNone)) w1 := by
    have hq : (Op.equal t (.slice A xs.length cap) (.slice none 0 0)).run P w1 = .ok A.isNone w1 := run_equal_slice_nil w1 t e A xs.length cap hu
    unfold execOp; rw [hb1]
    simp only [Act.eval]
    rw [hs3]
    simp [eqGuard, binOp, hq]
  rw [e2, Oper.upon_value, hb2]
  refine wpList_nil ?_
  have hst2 : StR ZbI 8 base w0 I0 I β [(4, .bool A.isNone), (2, .lst true []), (0, a)] σ ((a1'.put (some 3) (.slice A xs.length cap)).put (some 4) (.bool A.isNone)) w1 := by
    refine ⟨I1, β1, g1, g2, fun n => ?_, ⟨Zll (Zll g4.1 (fun n _ hm => by simp [ZbI] at hm)) (fun n _ hm => by simp [ZbI] at hm), by rw [ZeC, ZeC]; exact g4.2⟩, g5⟩
    have hs : 4 < (a1'.put (some 3) (.slice A xs.length cap)).tmps.size := by rw [ZeC]; omega
    have ne : ∀ {a : Act} {d j : Nat} {u : Value}, d ≠ j → (a.put (some d) u).tmps.getD j undef = a.tmps.getD j undef := by
      intro a d j u hne
      simp only [Act.put, Array.getD_eq_getD_getElem?]; rw [Array.getElem?_setIfInBounds_ne hne]
    simp only [tget]
    split
    · rename_i e; subst e
      rw [show ((a1'.put (some 3) (.slice A xs.length cap)).put (some 4) (.bool A.isNone)).tmps.getD 4 undef = .bool A.isNone by
        simp only [Act.put] at hs ⊢
        simp [Array.getD] at hs ⊢
        omega]
      simp only [VR]
    · split
      · rename_i e; subst e
        rw [ne (by omega), ne (by omega)]
        have := g3 2; simpa [keepL, tget] using this
      · split
        · rename_i e; subst e
          rw [ne (by omega), ne (by omega)]
          have := g3 0; simpa [keepL, tget] using this
        · simp only [VR]
  simp only [Exit.then]
  cases hA : A.isNone with
  | true =>
    have hx0 : xs = [] := by
      rcases q4 with h | ⟨b, off, k', us, e, _⟩
      · exact h
      · rw [e] at hA; cases hA
    subst hx0
    have hev : ((a1'.put (some 3) (.slice A 0 cap)).put (some 4) (.bool A.isNone)).eval (.tmp 4) = .bool true := by
      obtain ⟨_, _, _, _, T, _, _⟩ := hst2
      have := T 4
      simp only [tget, if_true, VR] at this
      rw [hA] at this
      simpa [Act.eval, hA] using this
    refine wp_cond_true (by simpa [hA] using hev) ?_
    refine wp_seq ?_
    rw [hA] at hst2
    refine ZlY (an := Zes) (dr := ZbI) (byref := fun _ => false) noO (fun n hn => by simp [ZbI] at hn) hm hb R2 hst2 (e := .normal) (tm' := keepL [7, 6, 5, 4, 3, 2, 0] [(4, .bool true), (2, .lst true []), (0, a)]) (σ' := σ) ?_ ?_
    · simp [ZbX, ZcF, sitesOf, nsite, ZX, ZL, Zbp, execI, Opd.ev, tput, tins]
    intro a3' w3 hst3
    simp only [Exit.then]
    refine wp_ret ?_
    refine fin hst3 (y := .lst true []) (by simp [keepL, tget]) ?_
    intro I' β' u h1 h2 h3 h4
    simp only [VR] at h4
    obtain ⟨A', cap', rfl, _, _, hx, _⟩ := h4
    have hcap : cap' = 0 := by simpa using hx
    subst hcap
    have R4 := h3.reserve 1
    have hfree : (σ ++ List.replicate 1 ZJ.free)[σ.length]? = some .free := by simp
    obtain ⟨R5, hle⟩ := R4.newNone hfree k hk0
    refine ⟨I', _, h1, KeptE.of_le (h2.trans hle), ?_, ?_⟩
    · have : (σ ++ List.replicate 1 ZJ.free).set σ.length (.row 0 k []) = σ ++ [.row 0 k []] := by simp
      rw [this] at R5; exact R5
    · simp only [ZaU]
      rw [Zb5]
      exact ⟨_, Bmap.put_same β' σ.length 0 _, by simp, by simp, Or.inr ⟨rfl, rfl, A', rfl⟩⟩
  | false =>
    have hev : ((a1'.put (some 3) (.slice A xs.length cap)).put (some 4) (.bool A.isNone)).eval (.tmp 4) = .bool false := by
      obtain ⟨_, _, _, _, T, _, _⟩ := hst2
      have := T 4
      simp only [tget, if_true, VR] at this
      rw [hA] at this
      simpa [Act.eval, hA] using this
    refine wp_cond_false (by simpa [hA] using hev) ?_
    refine wp_skip ?_
    rw [hA] at hst2
    simp only [Exit.then]
    refine wp_seq ?_
    have hel : ZV (σ ++ [ZJ.free]) a = some (xs, ts) := Zgl hel0 (fun t ht => by
      obtain ⟨g, k, ys, h | h⟩ := Zj7 hel0 t ht <;> (rw [List.getElem?_append_left (List.getElem?_eq_some_iff.1 h).1]))
    refine ZlY (an := Zes) (dr := ZbI) (byref := fun _ => false) noO (fun n hn => by simp [ZbI] at hn) hm hb R3 hst2 (e := .normal) (tm' := keepL [7, 6, 5, 4, 3, 2, 0] [(7, .sl σ.length 0 0 xs.length), (6, a), (5, .lst true []), (4, .bool false), (2, .sl σ.length 0 0 xs.length), (0, a)]) (σ' := σ ++ [.row 0 k xs]) ?_ ?_
    · have hfa : freeAt (σ ++ [ZJ.free]) σ.length = true := by simp [freeAt]
      have hnp : (∃ x ys, a = .lst x ys) ∨ ∃ t g lo n, a = .sl t g lo n := by
        cases a with
        | lst x ys => exact Or.inl ⟨x, ys, rfl⟩
        | sl t g lo n => exact Or.inr ⟨t, g, lo, n, rfl⟩
        | str l => exact absurd rfl (hns l)
        | _ => simp [ZV] at hel0
      rcases hnp with ⟨x, ys, rfl⟩ | ⟨t', g', lo, n, rfl⟩
      · simp [ZbX, ZcF, sitesOf, nsite, ZX, ZL, Zbp, execI, Opd.ev, tput, tins, tget, viewAs, Zo, hzk, ZaJ, hel, hkOk, hbytes, hfa]
      · simp [ZbX, ZcF, sitesOf, nsite, ZX, ZL, Zbp, execI, Opd.ev, tput, tins, tget, viewAs, Zo, hzk, ZaJ, hel, hkOk, hbytes, hfa]
    intro a3' w3 hst3
    simp only [Exit.then]
    refine wp_ret ?_
    refine fin hst3 (y := .sl σ.length 0 0 xs.length) (by simp [keepL, tget]) ?_
    intro I' β' u h1 h2 h3 h4
    exact ⟨I', β', h1, KeptE.of_le h2, h3, h4⟩
end
end Go.Proofs.YtmlkhhidifjjfaaDoor
namespace Go.Proofs.YtmlkhhidifjjfaaDoor
open Go.RowKit
def Zqc (args:List AVal) (σ:Za):Option (AVal×Za):=match args with
 | [.str l]=>some (.bool (Lib.validD l),σ)
 | _=>none
section
variable {P:Program} {base:Nat→Prop} {w0 w w':World} {I0 I:Imm} {β:Bmap} {σ:Za}
theorem ZEp {f:Nat} (hf:∃ fn,P.funcs[f]?=some fn∧fn.body.isSome=true∧(fn.name == "runtime.NumGoroutine")=false) {args:List AVal} {r:AVal} {u:Value} (hn:∀ x,r≠.pan x) (hr:∀ I β,VR I β r u)
  (h:∀ base w0 I0 I β w (vs:Array Value),Rel base w0 I0 I β σ w→VRs I β args vs.toList→Calls P f vs w (fun e w'=>e=.returned u∧Below w.heap.size w w')) :
  (∃ fn,P.funcs[f]?=some fn∧fn.body.isSome=true∧(fn.name == "runtime.NumGoroutine")=false) ∧
  ∀ base w0 I0 I β w (vs:Array Value),KLt base w0→Rel base w0 I0 I β σ w→VRs I β args vs.toList →
   Calls P f vs w (fun e w'=>∃ u,Ends r e u∧ZbY σ.length base w0 I0 I β r σ u w'):=by
 refine ⟨hf,fun base w0 I0 I β w vs hb R hv=>(h base w0 I0 I β w vs R hv).mono ?_⟩
 rintro e w' ⟨rfl,hB⟩
 have hbw:=R.base_le hb
 refine ⟨u,?_,I,β,Imm.le.refl I,KeptE.refl _ β,R.stay (Imm.le.refl I) ⟨hB.os,hB.tape,hB.output,hB.size,fun k hk=>hB.block k (hbw k hk)⟩ (fun _ _ _=>rfl) ?_ ?_,by rw [ZfI hn];exact hr I β⟩
 ·cases r <;> first | rfl | exact absurd rfl (hn _)
 ·intro b o x hx
  have h1:=R.imm b o x hx
  have hlt:=ZdR h1
  rw [←h1]
  simp only [World.cell?,hB.block b hlt]
 ·intro t x b hx hb'
  exact ⟨hB.block b ((R.blk t x hx).owns_lt hb'),(R.own t x b hx hb').2⟩
theorem ZK8 (R:Rel base w0 I0 I β σ w):Lib.Utf8Tabs 0 1 w:=by
 refine ⟨fun c hc=>R.imm _ _ _ (R.glob _ _ _ (by simp [Gl,hc])),fun i hi=>⟨R.imm _ _ _ (R.glob _ _ _ ?_),R.imm _ _ _ (R.glob _ _ _ ?_)⟩⟩
 ·have h1:2*i < 32:=by omega
  have h2:2*i % 2=0:=by omega
  have h3:2*i / 2=i:=by omega
  simp [Gl,h1,h3]
 ·have h1:2*i+1 < 32:=by omega
  have h2:(2*i+1) % 2=1:=by omega
  have h3:(2*i+1) / 2=i:=by omega
  simp [Gl,h1,h2,h3]
theorem ZJE {f:Nat} (hf:∃ fn,P.funcs[f]?=some fn∧fn.body.isSome=true∧(fn.name == "runtime.NumGoroutine")=false)
  (hc:∀ (s:ByteArray) (w:World),s.size≤9223372036854775807→Lib.Utf8Tabs 0 1 w→Calls P f #[.string s] w fun e w'=>e=.returned (.bool (Lib.validD s.data.toList))∧Below w.heap.size w w') {args:List AVal} {σ σ':Za} {r:AVal} (h:Zqc args σ=some (r,σ')) :
  (∃ fn,P.funcs[f]?=some fn∧fn.body.isSome=true∧(fn.name == "runtime.NumGoroutine")=false) ∧
  ∀ base w0 I0 I β w (vs:Array Value),KLt base w0→Rel base w0 I0 I β σ w→VRs I β args vs.toList →
   Calls P f vs w (fun e w'=>∃ u,Ends r e u∧ZbY σ.length base w0 I0 I β r σ' u w'):=by
 unfold Zqc at h
 split at h
 case h_2=>cases h
 rename_i l
 simp only [Option.some.injEq,Prod.mk.injEq] at h
 obtain ⟨rfl,rfl⟩:=h
 refine ZEp hf (u:=.bool (Lib.validD l)) (by simp) (fun _ _=>by simp only [VR]) ?_
 intro base w0 I0 I β w vs R hv
 obtain ⟨vs⟩:=vs
 simp only [VRs,VR] at hv
 obtain ⟨v1,r1,e1,⟨rfl,hl⟩,rfl⟩:=hv
 subst e1
 refine (hc ⟨l.toArray⟩ w (by simpa [ByteArray.size] using hl) (ZK8 R)).mono ?_
 rintro e w' ⟨rfl,hB⟩
 exact ⟨by simp,hB⟩
end
end Go.Proofs.YtmlkhhidifjjfaaDoor
namespace Go.Proofs.YtmlkhhidifjjfaaDoor
def Zev {α:Type} (d:α):List (Nat×α)→Nat→α
 | [],_=>d
 | (k,v)::r,n=>if k=n then v else Zev d r n
def Zq (own raw:List Nat) (cfg cfg2:List (Nat×Nat×Bool)) (lr ll:List (Nat×List Nat)):Ann:={ own:=fun n=>if own.contains n then 1 else if raw.contains n then 2 else 0,cfg:=Zev (0,true) cfg,cfg2:=Zev (0,true) cfg2,lr:=Zev [] lr,ll:=Zev [] ll }
def ZJS:List (Nat×Ann):=[
 (80,Zq [] [] [] [] [(0,[0]),(1,[2])] []),
 (68,Zq [] [] [] [] [(0,[0]),(1,[5,4,3,0]),(2,[4,3,0]),(3,[3]),(4,[2])] []),
 (70,Zq [] [] [] [] [(0,[1,0]),(1,[4])] []),
 (107,Zq [] [] [] [] [(0,[1,0]),(1,[18,1,0]),(2,[]),(3,[4]),(4,[5,1,0]),(5,[5]),(6,[4])] []),
 (71,Zq [] [] [] [] [(0,[0]),(1,[5,4,3,0]),(2,[4,3,0]),(3,[3]),(4,[2])] []),
 (69,Zq [] [] [] [] [(0,[0]),(1,[4]),(2,[3,2])] []),
 (61,Zq [] [] [] [] [(0,[2,0]),(1,[3,2,0]),(2,[3,2,0]),(3,[3,2,0]),(4,[3,2,0]),(5,[3,2,0]),(6,[6,5,4,3,2,0]),(7,[4,3,2]),(8,[3,2]),(9,[2])] []),
 (77,Zq [] [] [(121,1,true)] [] [(0,[1]),(1,[2,1]),(2,[10,2,1]),(3,[11,10,2,1]),(4,[1]),(5,[15,10,2,1]),(6,[3,2,1]),(7,[3,2,1]),(8,[2,1]),(9,[2,1]),(10,[1]),(11,[37,10,2,1]),(12,[1]),(13,[41,10,2,1]),(14,[41,10,2,1]),(15,[41,10,2,1]),(16,[41,10,2,1]),(17,[1]),(18,[1]),(19,[50,10,2,1]),(20,[1]),(21,[56,10,2,1]),(22,[1]),(23,[61,10,2,1]),(24,[61,10,2,1]),(25,[1]),(26,[67,10,1]),(27,[67,1]),(28,[1]),(29,[])] []),
 (123,Zq [] [] [] [] [(0,[])] []),
 (125,Zq [] [] [] [] [(0,[])] []),
 (116,Zq [] [] [] [] [(0,[0]),(1,[3,0]),(2,[3]),(3,[2])] []),
 (114,Zq [] [] [] [] [(0,[2,0]),(1,[2,0]),(2,[2,0]),(3,[3,2,0]),(4,[3,2,0]),(5,[3,2,0]),(6,[3,2,0]),(7,[2,0]),(8,[2,0]),(9,[2,0]),(10,[2,0]),(11,[107,2,0]),(12,[2,0]),(13,[2,0]),(14,[2,0]),(15,[129,2,0]),(16,[2,0]),(17,[138,2,0]),(18,[])] []),
 (148,Zq [] [] [] [] [(0,[0]),(1,[5,4,3,0]),(2,[4,3,0]),(3,[3]),(4,[2])] []),
 (76,Zq [] [] [] [] [(0,[4,1]),(1,[4,1]),(2,[4,1]),(3,[24,4,1]),(4,[]),(5,[4]),(6,[4]),(7,[])] []),
 (119,Zq [] [] [] [] [(0,[0]),(1,[])] []),
 (121,Zq [] [] [] [] [(0,[1,0]),(1,[1,0]),(2,[1,0]),(3,[29,1,0]),(4,[1,0])] [(3,[1,0])]),
 (115,Zq [] [] [] [] [(0,[1,0]),(1,[1,0]),(2,[5,1,0]),(3,[5]),(4,[4])] []),
 (117,Zq [] [] [] [] [(0,[1,0]),(1,[7,6,5,0]),(2,[6,5,0]),(3,[5]),(4,[4])] []),
 (118,Zq [] [] [] [] [(0,[0]),(1,[13,0]),(2,[0]),(3,[0]),(4,[])] []),
 (120,Zq [] [] [] [] [(0,[7,0]),(1,[0]),(2,[19,0]),(3,[])] []),
 (122,Zq [] [] [] [] [(0,[2,0]),(1,[3,2,0]),(2,[3,2,0]),(3,[3,2,0]),(4,[2,0]),(5,[2,0]),(6,[])] []),
 (124,Zq [] [] [] [] [(0,[0]),(1,[5,4,3,0]),(2,[4,3,0]),(3,[3]),(4,[2])] []),
 (78,Zq [] [] [(130,1,true),(126,1,true),(132,1,true),(127,1,true),(128,1,true),(131,1,true),(129,1,true)] [] [(0,[3,0]),(1,[11,3,0]),(2,[12,11,3,0]),(3,[]),(4,[17,11,3,0]),(5,[3,0]),(6,[3,0]),(7,[]),(8,[32,11,3,0]),(9,[3,0]),(10,[40,3,0]),(11,[3,0]),(12,[3,0]),(13,[]),(14,[55,11,3,0]),(15,[55,11,3,0]),(16,[55,11,3,0]),(17,[55,11,3,0]),(18,[3,0]),(19,[]),(20,[67,11,3,0]),(21,[3,0]),(22,[75,74,73,0]),(23,[76,75,74,73,0]),(24,[75,74,73,5,0]),(25,[75,74,73,5,0]),(26,[75,74,73,0]),(27,[75,74,73,0]),(28,[102,11,3,0]),(29,[3,0]),(30,[110,109,108,0]),(31,[111,110,109,108,0]),(32,[110,109,108,7,0]),(33,[110,109,108,0]),(34,[110,109,108,0]),(35,[118,11,3,0]),(36,[118,11,3,0]),(37,[3,0]),(38,[127,126,125,0]),(39,[128,127,126,125,0]),(40,[127,126,125,9,0]),(41,[127,126,125,0]),(42,[127,126,125,0]),(43,[135,11,3,0]),(44,[135,3,0]),(45,[])] [(23,[75,74,73,0]),(31,[110,109,108,0]),(39,[127,126,125,0])]),
 (126,Zq [] [] [(149,1,true),(127,1,true),(128,1,true),(129,1,true)] [] [(0,[3,0]),(1,[3,0]),(2,[3,0]),(3,[3,0]),(4,[3,0]),(5,[3,0]),(6,[3,0]),(7,[49,3,0]),(8,[3,0]),(9,[3,0]),(10,[3,0]),(11,[66,3,0]),(12,[3,0]),(13,[72,3,0]),(14,[])] []),
 (149,Zq [] [] [(130,1,true)] [] [(0,[4,0]),(1,[])] []),
 (132,Zq [] [] [(127,1,true),(128,1,true)] [] [(0,[3,0]),(1,[3,0]),(2,[])] []),
 (127,Zq [] [] [(130,1,true)] [] [(0,[])] []),
 (128,Zq [] [] [(130,1,true)] [] [(0,[6,0]),(1,[])] []),
 (131,Zq [] [] [(127,1,true),(128,1,true)] [] [(0,[3,0]),(1,[12,3,0]),(2,[3,0]),(3,[20,3,0]),(4,[])] []),
 (129,Zq [] [] [(130,1,true)] [] [(0,[4,0]),(1,[])] []),
 (65,Zq [] [] [] [] [(0,[0]),(1,[3,0]),(2,[18,3,0]),(3,[]),(4,[2]),(5,[2])] []),
 (66,Zq [] [] [] [] [(0,[1,0]),(1,[4])] []),
 (99,Zq [] [] [] [] [(0,[1,0]),(1,[18,1,0]),(2,[1]),(3,[4]),(4,[5,1,0]),(5,[5]),(6,[4])] []),
 (64,Zq [] [] [] [] [(0,[0]),(1,[2])] []),
 (12,Zq [] [] [] [] [(0,[2,1]),(1,[3,2,1]),(2,[33,3,2,1]),(3,[3,2,1]),(4,[4,2,1]),(5,[5,4,2,1]),(6,[53,5,4,2,1]),(7,[5,4,2,1]),(8,[5,4,2,1]),(9,[71,4,2,1]),(10,[4,2]),(11,[2])] [(6,[5,4,2,1])]),
 (47,Zq [] [] [] [] [(0,[1]),(1,[3,1]),(2,[7,3,1]),(3,[3,1]),(4,[18,3,1]),(5,[3,1]),(6,[29,3,1]),(7,[3,1]),(8,[4,3,1]),(9,[45,4,3,1]),(10,[4,3,1]),(11,[4,3,1]),(12,[2])] [(9,[4,3,1])]),
 (63,Zq [] [] [] [] [(0,[1,0]),(1,[4])] []),
 (161,Zq [] [] [] [] [(0,[]),(2,[]),(7,[4])] []),
 (164,Zq [] [] [] [] [] []),
 (93,Zq [6] [] [(137,1,false)] [(111,1,false)] [(0,[2,1]),(1,[2,1]),(2,[2,1]),(3,[15,14,2,1]),(4,[16,15,14,2,1]),(5,[15,14,3,2,1]),(6,[15,14,2,1]),(7,[15,14,2,1]),(8,[2])] [(4,[15,14,2,1])]),
 (45,Zq [] [] [] [] [(0,[2,1]),(1,[4])] []),
 (16,Zq [] [] [] [] [(0,[1]),(1,[3,1]),(2,[5,3,1]),(3,[7,5,3,1]),(4,[9,7,5,3,1]),(5,[2])] []),
 (17,Zq [] [] [(56,1,false)] [] [(0,[1]),(1,[3,1]),(2,[5,3,1]),(3,[7,5,1]),(4,[39,38,37,7,5]),(5,[40,39,38,37,7,5]),(6,[39,38,37,9,7,5]),(7,[39,38,37,7,5]),(8,[39,38,37,7,5]),(9,[2])] [(5,[39,38,37,7,5])]),
 (73,Zq [] [] [(111,1,false)] [] [(0,[8,4,3,2,1]),(1,[9,8,4,3]),(2,[11,10,9,8,3]),(3,[31,10,9,8,3]),(4,[9,8]),(5,[8])] []),
 (44,Zq [] [] [(93,2,false)] [] [(0,[8,4,3,2,1]),(1,[9,8,4,3,2,1]),(2,[10,9,8,4,3,2,1]),(3,[29,10,9,8,4,3,2,1]),(4,[10,9,8,4,1]),(5,[36,10,9,8,4,1]),(6,[10,8,4]),(7,[51,50,49,10,8]),(8,[52,51,50,49,10,8]),(9,[51,50,49,12,10,8]),(10,[51,50,49,10,8]),(11,[51,50,49,10,8]),(12,[8])] [(8,[51,50,49,10,8])]),
 (21,Zq [] [] [] [] [(0,[2,0]),(1,[4,2,0]),(2,[5,4,2,0]),(3,[28,5,2]),(4,[3,2]),(5,[3,2])] []),
 (23,Zq [] [] [] [] [(0,[2,0]),(1,[4,2,0]),(2,[6,5,4,2,0]),(3,[7,6,4,2,0]),(4,[7,6,4,2,0]),(5,[8,7,4,2,0]),(6,[42,41,8,7,4,2,0]),(7,[43,42,41,8,7,4,2,0]),(8,[42,41,9,8,7,4,2,0]),(9,[42,41,9,8,7,4,2,0]),(10,[42,41,8,7,4,2,0]),(11,[42,41,8,7,4,2,0]),(12,[8,7,4,2,0]),(13,[84,7,2]),(14,[3,2]),(15,[3,2])] [(7,[42,41,8,7,4,2,0])]),
 (30,Zq [] [] [] [] [(0,[3,2]),(1,[4])] []),
 (31,Zq [] [] [] [] [(0,[3,2]),(1,[4])] []),
 (58,Zq [] [] [] [] [(0,[0]),(1,[2])] []),
 (98,Zq [] [] [] [] [(0,[0]),(1,[2])] []),
 (57,Zq [] [] [] [] [(0,[1,0]),(1,[5,0]),(2,[0]),(3,[4])] []),
 (62,Zq [] [] [] [] [(0,[1]),(1,[2])] []),
 (55,Zq [] [] [] [] [(0,[0]),(1,[6,0]),(2,[3,2]),(3,[3,2])] []),
 (108,Zq [] [] [] [] [(0,[0]),(1,[3,0]),(2,[8,7,6,3]),(3,[9,8,7,6,3]),(4,[8,7,6,5,3]),(5,[8,7,6,3]),(6,[8,7,6,3]),(7,[2])] [(3,[8,7,6,3])]),
 (106,Zq [] [] [] [] [(0,[0]),(1,[17,0]),(2,[4,3,2]),(3,[3,0]),(4,[4,3,2])] []),
 (109,Zq [] [] [] [] [(0,[0]),(1,[5,4,3]),(2,[12,5,4,3]),(3,[4,3,2]),(4,[16,5,3]),(5,[4,3,2]),(6,[4,3,2])] []),
 (135,Zq [] [] [] [] [(0,[2,0]),(1,[9,8,7,2,0]),(2,[10,9,8,7,2,0]),(3,[9,8,7,6,5,2,0]),(4,[15,9,8,7,6,5,2,0]),(5,[9,8,7,6,5,2,0]),(6,[25,9,8,7,6,5,2,0]),(7,[31,5,2]),(8,[4,3,2]),(9,[4,3,2]),(10,[9,8,7,2,0]),(11,[38]),(12,[4,3,2]),(13,[4,3,2])] [(2,[9,8,7,2,0])]),
 (97,Zq [] [] [] [] [(0,[0]),(1,[6,0]),(2,[8,7,6,0]),(3,[6,4,0]),(4,[11,6,0]),(5,[2]),(6,[2])] [(2,[6,0])]),
 (56,Zq [] [] [] [] [(0,[0]),(1,[3,0]),(2,[8,7,6,3]),(3,[9,8,7,6,3]),(4,[8,7,6,5,3]),(5,[8,7,6,3]),(6,[8,7,6,3]),(7,[2])] [(3,[8,7,6,3])]),
 (59,Zq [] [] [] [] [(0,[1,0]),(1,[12,1,0]),(2,[4]),(3,[5,1,0]),(4,[6,5,0]),(5,[18,6,5,0]),(6,[6,5,0]),(7,[6,5,0]),(8,[6,5,0]),(9,[4])] [(5,[6,5,0])]),
 (54,Zq [] [] [] [] [(0,[0]),(1,[6,0]),(2,[3,2]),(3,[3,2])] []),
 (82,Zq [] [] [] [] [(0,[0]),(1,[10,0]),(2,[3,2]),(3,[4,0]),(4,[12,4,0]),(5,[4,0]),(6,[4,0]),(7,[3,2])] [(4,[4,0])]),
 (41,Zq [] [] [] [] [(0,[3,0]),(1,[4])] []),
 (88,Zq [] [] [] [] [(0,[2,1]),(1,[3])] []),
 (34,Zq [] [] [(78,1,true)] [] [(0,[2,1]),(1,[4,2,1]),(2,[4,2,1]),(3,[5,2,1]),(4,[32,5,2,1]),(5,[5,2,1]),(6,[7,6,5,2,1]),(7,[9,7,6,5,2,1]),(8,[73,5,2]),(9,[3,2]),(10,[3,2])] []),
 (40,Zq [] [] [] [] [(0,[1]),(1,[5,4]),(2,[14,5,4]),(3,[3,2]),(4,[6,4]),(5,[3,2])] []),
 (32,Zq [] [] [] [] [(0,[]),(2,[4,3,2,1]),(3,[4,3,2]),(4,[4,3,2]),(5,[3,2])] []),
 (75,Zq [] [] [] [] [(1,[4]),(2,[]),(3,[7,5]),(4,[]),(6,[3,1,0]),(7,[])] []),
 (35,Zq [] [] [] [] [(0,[3,2]),(1,[5,3,2]),(2,[6,5,3,2]),(3,[7,6,5,3,2]),(4,[8,7,6,5,3,2]),(5,[4])] []),
 (87,Zq [] [] [] [] [(0,[0]),(1,[3]),(2,[4,3]),(3,[2]),(4,[15,3]),(5,[15,3]),(6,[2]),(7,[27,3]),(8,[27,3]),(9,[2]),(10,[33,3]),(11,[2]),(12,[45,3]),(13,[2]),(14,[55,3]),(15,[2]),(16,[66]),(17,[2]),(18,[2])] []),
 (79,Zq [] [] [] [] [(0,[0]),(1,[3]),(2,[4,3]),(3,[4,3]),(4,[4]),(5,[2]),(6,[2])] []),
 (81,Zq [] [] [] [] [(0,[1,0]),(1,[5,1]),(2,[4]),(3,[4])] []),
 (113,Zq [] [] [] [] [(0,[5,1]),(1,[])] []),
 (112,Zq [] [] [] [] [(0,[4,1,0]),(1,[10,9,8,4,0]),(2,[11,10,9,8,4,0]),(3,[10,9,8,7,4,0]),(4,[17,10,9,8,7,4,0]),(5,[5,4]),(6,[10,9,8,4,0]),(7,[5,4])] [(2,[10,9,8,4,0])]),
 (134,Zq [] [] [] [] [(0,[0]),(1,[2])] []),
 (42,Zq [] [] [] [] [(0,[1,0]),(1,[6,1,0]),(2,[16,15,14,6,1,0]),(3,[17,16,15,14,6,1,0]),(4,[16,15,14,8,6,1,0]),(5,[16,15,14,6,1,0]),(6,[16,15,14,6,1,0]),(7,[10,9,6,1,0]),(8,[32,9,6,1,0]),(9,[5,4]),(10,[6,1,0]),(11,[13,12,11,6,1]),(12,[57,6]),(13,[5,4]),(14,[5,4])] [(3,[16,15,14,6,1,0])]),
 (153,Zq [] [] [] [] [(0,[1,0]),(1,[4])] []),
 (143,Zq [] [] [] [] [(0,[1,0]),(1,[5,1,0]),(2,[10,9,8,5,1]),(3,[11,10,9,8,5,1]),(4,[10,9,8,7,5,1]),(5,[17,10,9,8,7,5,1]),(6,[10,9,8,5,1]),(7,[10,9,8,5,1]),(8,[4])] [(3,[10,9,8,5,1])]),
 (90,Zq [] [] [] [] [(0,[4,1,0]),(1,[9,8,7,4,1,0]),(2,[29,8,7,4,1,0]),(3,[6,5,4]),(4,[10,8,7,4,0]),(5,[38,10,8,7,4,0]),(6,[13,12,11,10,8,7,4,0]),(7,[48,13,12,11,10,8,7,4,0]),(8,[6,5,4]),(9,[12,10,8,7,4,0]),(10,[10,8,7,4,0]),(11,[6,5,4])] [(5,[10,8,7,4,0])]),
 (43,Zq [] [] [] [] [(0,[1,0]),(1,[4])] []),
 (92,Zq [] [] [] [] [(0,[3,2]),(1,[4])] []),
 (162,Zq [] [] [] [] [(0,[0]),(1,[3,0]),(2,[8,7,6,3]),(3,[9,8,7,6,3]),(4,[8,7,6,5,3]),(5,[8,7,6,3]),(6,[8,7,6,3]),(7,[2])] [(3,[8,7,6,3])]),
 (147,Zq [] [] [] [] [(0,[2,1]),(1,[2,1]),(2,[2])] []),
 (156,Zq [] [] [] [] [(0,[1]),(1,[4,1]),(2,[5,4,1]),(3,[5,4,1]),(4,[5,4,1]),(5,[5,1]),(6,[2]),(7,[2])] []),
 (89,Zq [] [] [] [] [(0,[1]),(1,[3,1]),(2,[6,5,3,1]),(3,[15,6,5,3,1]),(4,[16,15,6,5,3,1]),(5,[16,15,6,5,3,1]),(6,[16,15,6,5,3,1]),(7,[6,5,3]),(8,[29,15,6,5,3,1]),(9,[6,5,3]),(10,[37,15,6,5,3,1]),(11,[6,5,3]),(12,[45,15,6,5,3,1]),(13,[6,5,3]),(14,[53,6,5,3,1]),(15,[5,3,1]),(16,[6,5,3]),(17,[2])] []),
 (152,Zq [] [] [] [] [(0,[2,0]),(1,[3,2]),(2,[4,3,2]),(3,[2]),(4,[9,3,2]),(5,[2]),(6,[14,3,2]),(7,[14,3,2]),(8,[2]),(9,[20,3,2]),(10,[2]),(11,[25,3,2]),(12,[2]),(13,[30,3,2]),(14,[2]),(15,[35,3,2]),(16,[35,3,2]),(17,[2]),(18,[41,3,2]),(19,[2]),(20,[46,3,2]),(21,[2]),(22,[51,3,2]),(23,[2]),(24,[56,3,2]),(25,[56,3,2]),(26,[2]),(27,[62,3,2]),(28,[2]),(29,[67,3,2]),(30,[2]),(31,[72,3,2]),(32,[2]),(33,[77,3,2]),(34,[77,3,2]),(35,[2]),(36,[83,3,2]),(37,[2]),(38,[88,3,2]),(39,[2]),(40,[93,3,2]),(41,[93,3,2]),(42,[93,3,2]),(43,[93,3,2]),(44,[93,3,2]),(45,[2]),(46,[102,2]),(47,[2]),(48,[2])] []),
 (155,Zq [] [] [] [] [(0,[1,0]),(1,[4])] []),
 (136,Zq [] [] [] [] [(0,[6,2,1,0]),(1,[11,10,9,6,2,1,0]),(2,[28,10,9,6,2,1,0]),(3,[8,7,6]),(4,[12,10,9,7,6,2,0]),(5,[14,12,10,9,7,6,0]),(6,[45,14,10,9,7,6,0]),(7,[8,7,6]),(8,[49,10,9,7,6]),(9,[8,7,6]),(10,[58,10,9,7,6]),(11,[8,7,6]),(12,[65,6]),(13,[8,7,6]),(14,[8,7,6])] []),
 (154,Zq [] [] [] [] [(0,[5,4,1,0]),(1,[5,4,1,0]),(2,[7,5,4,1,0]),(3,[12,7,5,4,1,0]),(4,[13,12,7,5,4,1,0]),(5,[13,12,7,5,4,1,0]),(6,[13,12,7,5,4,1,0]),(7,[7,5,4,1]),(8,[24,7,5,4,1]),(9,[6,5,4]),(10,[7,5,4]),(11,[32,12,7,5,4,1]),(12,[7,5,4]),(13,[41,12,7,5,4,1]),(14,[7,5,4]),(15,[50,12,7,5,4,1]),(16,[7,5,4]),(17,[59,7,5,4,1]),(18,[7,5,4,1]),(19,[69,7,5,4,1]),(20,[5,4,1]),(21,[8,7,5,4]),(22,[7,5,4]),(23,[6,5,4])] []),
 (86,Zq [] [] [] [] [(0,[1,0]),(1,[4])] []),
 (158,Zq [] [] [] [] [(0,[1,0]),(1,[4])] []),
 (91,Zq [] [] [] [] [(0,[2,1,0]),(1,[14,2,1,0]),(2,[6]),(3,[17,16,15,2,1]),(4,[18,17,16,15,2,1]),(5,[17,16,15,8,7,2,1]),(6,[17,16,15,9,8,2,1]),(7,[30,17,16,15,2,1]),(8,[6]),(9,[17,16,15,2,1]),(10,[6])] [(4,[17,16,15,2,1])]),
 (83,Zq [] [] [] [] [(0,[1,0]),(1,[10,1,0]),(2,[4]),(3,[13,12,1,0]),(4,[14,13,12,1,0]),(5,[13,12,5,1,0]),(6,[24,13,12,1,0]),(7,[4]),(8,[13,12,1,0]),(9,[4])] [(4,[13,12,1,0])]),
 (84,Zq [] [] [] [] [(0,[1,0]),(1,[10,1,0]),(2,[4]),(3,[13,12,1,0]),(4,[14,13,12,1,0]),(5,[13,12,5,1,0]),(6,[24,13,12,1,0]),(7,[4]),(8,[13,12,1,0]),(9,[4])] [(4,[13,12,1,0])]),
 (74,Zq [] [] [] [] [(0,[1,0]),(1,[10,1,0]),(2,[4]),(3,[13,12,1,0]),(4,[14,13,12,1,0]),(5,[13,12,5,1,0]),(6,[24,13,12,1,0]),(7,[4]),(8,[13,12,1,0]),(9,[4])] [(4,[13,12,1,0])]),
 (85,Zq [] [] [] [] [(0,[1,0]),(1,[10,1,0]),(2,[4]),(3,[13,12,1,0]),(4,[14,13,12,1,0]),(5,[13,12,5,1,0]),(6,[24,13,12,1,0]),(7,[4]),(8,[13,12,1,0]),(9,[4])] [(4,[13,12,1,0])]),
 (133,Zq [] [] [] [] [(0,[1,0]),(1,[8,7,1,0]),(2,[9,8,7,1,0]),(3,[8,7,5,1,0]),(4,[16,8,7,5,1,0]),(5,[4]),(6,[8,7,1,0]),(7,[4])] [(2,[8,7,1,0])]),
 (163,Zq [] [] [] [] [(0,[1,0]),(1,[8,7,1,0]),(2,[9,8,7,1,0]),(3,[8,7,5,1,0]),(4,[16,8,7,5,1,0]),(5,[4]),(6,[8,7,1,0]),(7,[4])] [(2,[8,7,1,0])]),
 (28,Zq [] [] [] [] [(0,[1,0]),(1,[10,1,0]),(2,[4]),(3,[5,1,0]),(4,[30,0]),(5,[4]),(6,[6,0]),(7,[34,6,0]),(8,[6,0]),(9,[6,0]),(10,[4])] [(7,[6,0])]),
 (18,Zq [] [] [] [] [(0,[1,0]),(1,[8,1,0]),(2,[4]),(3,[4])] []),
 (20,Zq [] [] [] [] [(0,[0]),(1,[3,0]),(2,[3,0]),(3,[3,0]),(4,[2])] []),
 (15,Zq [] [] [] [] [(0,[1,0]),(1,[4])] []),
 (60,Zq [] [] [] [] [(0,[0]),(1,[3,0]),(2,[2])] []),
 (39,Zq [] [] [] [] [(0,[2,1,0]),(1,[7,1,0]),(2,[7,1,0]),(3,[16,7,1,0]),(4,[1,0]),(5,[6])] []),
 (37,Zq [] [] [] [] [(0,[2,1]),(1,[6,2,1]),(2,[2,1]),(3,[14,2,1]),(4,[2,1]),(5,[22,2,1]),(6,[2,1]),(7,[30,2,1]),(8,[2,1]),(9,[39,2,1]),(10,[2,1]),(11,[2,1]),(12,[2])] []),
 (5,Zq [] [] [] [] [(0,[3,2]),(1,[3,2]),(2,[6,5,3,2]),(3,[26,5,3,2]),(4,[8,7,5,3,2]),(5,[10,9,8,7,5,3,2]),(6,[66,3]),(7,[4]),(8,[70,3]),(9,[4]),(10,[3]),(11,[12,11,3]),(12,[80,12,11,3]),(13,[4]),(14,[14,13,3]),(15,[4])] []),
 (9,Zq [] [] [] [] [(0,[2,1,0]),(1,[2,1,0]),(2,[7,2,1,0]),(3,[25,7,2,1,0]),(4,[6]),(5,[33,25,7,2,1,0]),(6,[33,25,7,2,1,0]),(7,[33,25,7,2,1,0]),(8,[33,25,7,2,1,0]),(9,[7,1,0]),(10,[40,25,7,2,1,0]),(11,[40,25,7,2,1,0]),(12,[7,1,0]),(13,[49,25,7,1,0]),(14,[49,25,7,1,0]),(15,[49,7,1,0]),(16,[9,8,7,1,0]),(17,[10,9,8,7]),(18,[62,9,8,7]),(19,[6]),(20,[12,11,9,8,7]),(21,[14,13,12,9,8,7]),(22,[6])] []),
 (7,Zq [] [] [] [] [(0,[2,1]),(1,[2,1]),(2,[6,5,2,1]),(3,[18,5,2,1]),(4,[4]),(5,[8,7,2]),(6,[35,8,7,2]),(7,[36,35,8,7,2]),(8,[36,35,8,7,2]),(9,[36,35,8,7,2]),(10,[36,35,8,7,2]),(11,[4]),(12,[52,8,7,2]),(13,[4]),(14,[4])] []),
 (8,Zq [] [] [] [] [(0,[3,2]),(1,[3,2]),(2,[6,5,3,2]),(3,[8,7,6,5,3,2]),(4,[30,7,5,3,2]),(5,[4]),(6,[4])] []),
 (10,Zq [] [] [] [] [(0,[1,0]),(1,[14,1,0]),(2,[1,0]),(3,[1,0]),(4,[6,5,1,0]),(5,[8,7,6,5,1,0]),(6,[33,8,7,5,1,0]),(7,[4]),(8,[9,8,7,1,0]),(9,[11,10,9,8,7,1,0]),(10,[4])] []),
 (6,Zq [] [] [] [] [(0,[2,1]),(1,[6,5,2,1]),(2,[23,5,2,1]),(3,[4]),(4,[5,2,1]),(5,[8,7,2]),(6,[44,7,2]),(7,[4]),(8,[52,7,2]),(9,[53,52,7,2]),(10,[53,52,7,2]),(11,[53,52,7,2]),(12,[53,52,7,2]),(13,[53,52,7,2]),(14,[53,52,7,2]),(15,[53,52,7,2]),(16,[53,52,7,2]),(17,[53,52,7,2]),(18,[53,52,7,2]),(19,[53,7,2]),(20,[4]),(21,[4])] []),
 (33,Zq [] [] [] [] [(0,[0]),(1,[2])] []),
 (38,Zq [] [] [] [] [(0,[]),(1,[2,1]),(2,[4,3,2,1]),(3,[0])] []),
 (4,Zq [] [] [] [] [(0,[1]),(1,[3]),(2,[5,4,3]),(3,[7,6,5,4,3]),(4,[2])] []),
 (3,Zq [] [] [] [] [(0,[4,3,2,1]),(1,[9,3,2,1]),(2,[10,9,3,2,1]),(3,[12,10,9,3,2,1]),(4,[50,12,10,3,2,1]),(5,[8]),(6,[12,10,3,2,1]),(7,[14]),(8,[15,14]),(9,[68,15,14]),(10,[15,14]),(11,[16,15,14]),(12,[18,17,16,15,14]),(13,[20,19,18,17,16,15,14]),(14,[22,21,20,19,18,17,16,15,14]),(15,[24,23,22,21,20,19,18,17,16,15,14]),(16,[144,15,14]),(17,[8]),(18,[8])] [(9,[15,14])]),
 (11,Zq [] [] [] [] [(0,[3,2,1]),(1,[7,2,1]),(2,[7,2,1]),(3,[8,7,2]),(4,[9,8,7]),(5,[11,10,9,8,7]),(6,[50,9,8,7]),(7,[6]),(8,[12,9,8,7]),(9,[13,12,9,8,7]),(10,[55,13,12,9,8,7]),(11,[13,12,9,8,7]),(12,[64,13,12,9,8,7]),(13,[13,12,9,8,7]),(14,[71,12,8,7]),(15,[6]),(16,[88,12,8,7]),(17,[6]),(18,[6])] [(10,[13,12,9,8,7])]),
 (25,Zq [] [] [] [] [(0,[0]),(1,[2])] []),
 (46,Zq [] [] [] [] [(0,[0]),(1,[3,0]),(2,[4,3,0]),(3,[12,4,3,0]),(4,[4,3,0]),(5,[4,3,0]),(6,[2])] [(3,[4,3,0])]),
 (19,Zq [] [] [(60,1,false)] [] [(0,[2,1,0]),(1,[7,2,1]),(2,[12,7,2,1]),(3,[6]),(4,[7,2,1]),(5,[20,7,2,1]),(6,[6]),(7,[7]),(8,[6])] []),
 (29,Zq [3] [] [] [] [(0,[]),(1,[1]),(2,[2,1]),(3,[0])] []),
 (49,Zq [] [] [(53,1,false)] [] [(0,[0]),(1,[6,0]),(2,[3,2]),(3,[3,2])] []),
 (100,Zq [] [] [] [] [(0,[0]),(1,[3,0]),(2,[4,3,0]),(3,[8,4,3,0]),(4,[4,3,0]),(5,[4,3,0]),(6,[2])] [(3,[4,3,0])]),
 (146,Zq [] [] [] [] [(0,[0]),(1,[8,0]),(2,[4,3,2]),(3,[5,0]),(4,[17,5,0]),(5,[4,3,2]),(6,[4,3,2])] []),
 (145,Zq [] [] [] [] [(0,[0]),(1,[7,6,5]),(2,[15,7,6,5]),(3,[4,3,2]),(4,[20,6,5]),(5,[4,3,2]),(6,[4,3,2])] []),
 (101,Zq [] [] [] [] [(0,[0]),(1,[6,5,0]),(2,[7,6,5,0]),(3,[9,7,6,5,0]),(4,[7,6,5,0]),(5,[15,7,6,5,0]),(6,[4,3,2]),(7,[7,6,5,0]),(8,[7,6,5,0]),(9,[32,7,6,5,0]),(10,[41,7,5]),(11,[4,3,2]),(12,[4,3,2]),(13,[4,3,2])] [(3,[7,6,5,0])]),
 (94,Zq [] [] [] [] [(0,[0]),(1,[6,0]),(2,[4,3,0]),(3,[17,4,0]),(4,[2]),(5,[0]),(6,[2])] [(1,[0])]),
 (53,Zq [] [] [] [] [(0,[1,0]),(1,[12,1,0]),(2,[4]),(3,[5,1,0]),(4,[6,5,0]),(5,[18,6,5,0]),(6,[6,5,0]),(7,[6,5,0]),(8,[6,5,0]),(9,[4])] [(5,[6,5,0])]),
 (48,Zq [] [] [(49,1,false)] [] [(0,[0]),(1,[6,0]),(2,[3,2]),(3,[3,2])] []),
 (140,Zq [] [] [] [] [(0,[0]),(1,[10,0]),(2,[3,2]),(3,[4,0]),(4,[12,4,0]),(5,[4,0]),(6,[4,0]),(7,[3,2])] [(4,[4,0])]),
 (138,Zq [] [] [] [] [(0,[0]),(1,[4,0]),(2,[4,0]),(3,[3,2]),(4,[11,4,0]),(5,[3,2]),(6,[15,4,0]),(7,[6,5,4,0]),(8,[24,4,0]),(9,[6,5,4,0]),(10,[33,4,0]),(11,[6,5,4,0]),(12,[45,6,5,4,0]),(13,[3,2]),(14,[7,6,5,4,0]),(15,[48,7,6,5,4,0]),(16,[7,6,5,4,0]),(17,[60,7,6,5,4,0]),(18,[3,2]),(19,[7,6,5,4,0]),(20,[83,5,4]),(21,[3,2]),(22,[3,2])] [(15,[7,6,5,4,0])]),
 (110,Zq [] [] [] [] [(0,[3,2]),(1,[4])] []),
 (95,Zq [] [] [] [] [(0,[0]),(1,[4,0]),(2,[5,4,0]),(3,[14,5,4,0]),(4,[5,4,0]),(5,[6,5,4,0]),(6,[28,6,5,4,0]),(7,[3,2]),(8,[6,5,4,0]),(9,[8,7,5,4,0]),(10,[41,7,5,4,0]),(11,[3,2]),(12,[5,4,0]),(13,[10,9,4]),(14,[3,2])] [(3,[5,4,0])]),
 (104,Zq [] [] [] [] [(0,[4,1,0]),(1,[6,4,1,0]),(2,[10,6,4,1,0]),(3,[6,4,1,0]),(4,[19,6,4,1,0]),(5,[5,4]),(6,[5,4])] [(2,[6,4,1,0])]),
 (144,Zq [] [] [] [] [(0,[0]),(1,[3]),(2,[4,3]),(3,[4,3]),(4,[4,3]),(5,[4,3]),(6,[4,3]),(7,[4,3]),(8,[4,3]),(9,[4,3]),(10,[2]),(11,[13,3]),(12,[13,3]),(13,[13,3]),(14,[13,3]),(15,[2]),(16,[18,3]),(17,[18,3]),(18,[18,3]),(19,[18,3]),(20,[2]),(21,[23,3]),(22,[2]),(23,[25,3]),(24,[25,3]),(25,[25,3]),(26,[25,3]),(27,[25,3]),(28,[25,3]),(29,[25,3]),(30,[2]),(31,[33,3]),(32,[33,3]),(33,[2]),(34,[36]),(35,[2]),(36,[2])] []),
 (50,Zq [] [] [] [] [(0,[1,0]),(1,[7,6,1,0]),(2,[17,6,1,0]),(3,[5,4]),(4,[10,9,8,6,1]),(5,[38,6]),(6,[5,4]),(7,[5,4])] []),
 (102,Zq [] [] [] [] [(0,[1,0]),(1,[5,1]),(2,[6,5,1]),(3,[6,5,1]),(4,[6,5,1]),(5,[6,5,1]),(6,[6,5,1]),(7,[4]),(8,[15,5,1]),(9,[4]),(10,[20,5,1]),(11,[4]),(12,[25,5,1]),(13,[25,5,1]),(14,[25,5,1]),(15,[25,5,1]),(16,[25,5,1]),(17,[25,5,1]),(18,[25,5,1]),(19,[25,5,1]),(20,[4]),(21,[36,5,1]),(22,[36,5,1]),(23,[4]),(24,[42,5,1]),(25,[42,5,1]),(26,[4]),(27,[47,5,1]),(28,[4]),(29,[51,5,1]),(30,[4]),(31,[56,5,1]),(32,[4]),(33,[61,5,1]),(34,[61,5,1]),(35,[61,5,1]),(36,[4]),(37,[68,5,1]),(38,[4]),(39,[72,1]),(40,[4]),(41,[4])] []),
 (96,Zq [] [] [] [] [(0,[1,0]),(1,[5,1,0]),(2,[6,5,1,0]),(3,[10,6,5,1,0]),(4,[6,5,1,0]),(5,[19,6,5,1,0]),(6,[6,5,1,0]),(7,[4])] [(3,[6,5,1,0])]),
 (67,Zq [] [] [] [] [(0,[1,0]),(1,[9,8,7,1,0]),(2,[36,8,7,1,0]),(3,[6,5,4]),(4,[10,8,7,0]),(5,[11,10,8,7,0]),(6,[45,11,10,8,7,0]),(7,[14,13,12,11,10,8,7,0]),(8,[59,13,12,11,10,8,7,0]),(9,[6,5,4]),(10,[17,16,15,13,12,11,10,8,7,0]),(11,[70,16,15,13,12,11,10,8,7,0]),(12,[6,5,4]),(13,[19,16,15,13,12,11,10,8,7,0]),(14,[90,16,15,13,12,11,10,8,7,0]),(15,[6,5,4]),(16,[20,16,15,13,11,10,8,7,0]),(17,[96,20,16,15,13,11,10,8,7,0]),(18,[6,5,4]),(19,[16,13,11,10,8,7,0]),(20,[11,10,8,7,0]),(21,[6,5,4])] [(6,[11,10,8,7,0])]),
 (72,Zq [] [] [] [] [(0,[1,0]),(1,[10,1,0]),(2,[4]),(3,[5,1,0]),(4,[14,5,1,0]),(5,[5,1,0]),(6,[26,5,1,0]),(7,[4]),(8,[4])] [(4,[5,1,0])]),
 (141,Zq [] [] [] [] [(0,[1,0]),(1,[5,1,0]),(2,[9,5,1,0]),(3,[5,1,0]),(4,[17,5,1,0]),(5,[4]),(6,[4])] [(2,[5,1,0])]),
 (139,Zq [] [] [(48,1,false)] [] [(0,[1]),(1,[16,1]),(2,[17,16,1]),(3,[3,2]),(4,[31,16,1]),(5,[3,2]),(6,[45,16,1]),(7,[3,2]),(8,[59,16,1]),(9,[5,4]),(10,[3,2]),(11,[70,16,1]),(12,[7,6]),(13,[3,2]),(14,[81,16,1]),(15,[9,8]),(16,[3,2]),(17,[92,1]),(18,[11,10,1]),(19,[13,12,11,10]),(20,[3,2]),(21,[3,2])] []),
 (105,Zq [] [] [] [] [(0,[1,0]),(1,[5,1]),(2,[6,5,1]),(3,[6,5,1]),(4,[6,5,1]),(5,[6,5,1]),(6,[6,5,1]),(7,[6,5,1]),(8,[6,5,1]),(9,[6,5,1]),(10,[16]),(11,[4]),(12,[17,5,1]),(13,[17,5,1]),(14,[17,5,1]),(15,[22]),(16,[4]),(17,[23,1]),(18,[26]),(19,[4]),(20,[4])] []),
 (103,Zq [] [] [] [] [(0,[4,1,0]),(1,[7,4,1,0]),(2,[8,7,4,1,0]),(3,[26,8,7,4,1]),(4,[27,26,8,7,4,1]),(5,[8,7,4,1]),(6,[29,26,8,7,4,1]),(7,[8,7,4,1]),(8,[31,26,8,7,4,1]),(9,[8,7,4,1]),(10,[33,26,8,7,4,1]),(11,[11,10,9,7,4]),(12,[11,10,7,4]),(13,[6,5,4]),(14,[47,26,8,7,4,1]),(15,[14,13,12,7,4]),(16,[14,13,7,4]),(17,[6,5,4]),(18,[61,26,8,7,4,1]),(19,[17,16,15,7,4]),(20,[17,16,7,4]),(21,[6,5,4]),(22,[77,8,7,4,1]),(23,[20,19,18,7,4,1]),(24,[86,19,18,7,4,1]),(25,[6,5,4]),(26,[22,21,20,19,18,7,4]),(27,[22,20,19,7,4]),(28,[6,5,4]),(29,[109,8,7,4,1]),(30,[6,5,4]),(31,[8,7,4]),(32,[6,5,4])] []),
 (36,Zq [] [] [] [] [(0,[3,2]),(1,[112,3,2]),(2,[4]),(3,[163,3,2]),(4,[4]),(5,[5,3,2]),(6,[168,5,3,2]),(7,[5,3,2]),(8,[181,5,3,2]),(9,[4]),(10,[6,3,2]),(11,[186,6,3,2]),(12,[6,3,2]),(13,[199,6,3,2]),(14,[4]),(15,[7,3,2]),(16,[204,7,3,2]),(17,[7,3,2]),(18,[217,7,3,2]),(19,[4]),(20,[9,8]),(21,[4])] [(6,[5,3,2]),(11,[6,3,2]),(16,[7,3,2])]),
 (51,Zq [] [] [] [] [(0,[0]),(1,[2])] []),
 (13,Zq [] [] [] [] [(0,[1]),(1,[5,4,1]),(2,[7,6,5,4,1]),(3,[9,8,7,6,5,4,1]),(4,[11,10,9,8,7,6,5,4,1]),(5,[12,10,8,6,4,1]),(6,[12,10,8,6,4,1]),(7,[13,12,10,8,1]),(8,[13,12,10,1]),(9,[13,12,10,1]),(10,[3,2])] []),
 (14,Zq [] [] [] [] [(0,[1]),(1,[5,4,1]),(2,[7,6,5,1]),(3,[9,8,7,6,5,1]),(4,[8,6,5,1]),(5,[10,8,5,1]),(6,[11,10,8,5,1]),(7,[72,11,10,8,5,1]),(8,[11,10,8,5,1]),(9,[11,10,8,5,1]),(10,[11,10,8,5,1]),(11,[3,2])] [(7,[11,10,8,5,1])]),
 (22,Zq [] [] [] [] [(0,[2,0]),(1,[4,2,0]),(2,[5,4,2,0]),(3,[6,5,4,2,0]),(4,[5,4,2,0]),(5,[5,4,2,0]),(6,[5,4,2,0]),(7,[48,5,4,2,0]),(8,[9,8,7,5,4,2,0]),(9,[7,5,4,2,0]),(10,[5,4,2,0]),(11,[11,10,5,4,2,0]),(12,[93,5,2]),(13,[3,2]),(14,[3,2])] []),
 (24,Zq [] [] [] [] [(0,[2,0]),(1,[4,2,0]),(2,[6,5,4,2,0]),(3,[7,6,4,2,0]),(4,[8,7,6,4,2,0]),(5,[7,6,4,2,0]),(6,[9,7,6,4,2,0]),(7,[10,9,7,6,4,2,0]),(8,[44,10,9,7,6,4,2,0]),(9,[10,9,7,6,4,2,0]),(10,[10,9,7,6,4,2,0]),(11,[7,6,4,2,0]),(12,[12,11,7,6,4,2,0]),(13,[80,7,2]),(14,[3,2]),(15,[3,2])] [(8,[10,9,7,6,4,2,0])]),
 (26,Zq [] [] [] [] [(0,[3,2]),(1,[4])] []),
 (27,Zq [] [] [] [] [(0,[3,2]),(1,[41,3,2]),(2,[4]),(3,[5,3,2]),(4,[46,5,3,2]),(5,[5,3,2]),(6,[59,5,3,2]),(7,[4]),(8,[4])] [(4,[5,3,2])]),
 (52,Zq [] [] [] [] [(0,[1,0]),(1,[5,0]),(2,[4]),(3,[4])] []),
 (1000000,{})]
def ann:Nat→Ann:=Zev {} ZJS
def Zzk:List (Nat×Bool):=[
 (28,true),
 (1000000,false)]
def BY:Nat→Bool:=Zev false Zzk
noncomputable def CF:Nat→Option ZD:=ZiH Tryd.prog ann
noncomputable def FC:Nat→Option ZD:=fun f=>(CF f).map Zlv
def ZrG:List (Nat×Option (List AVal→Za→Option (AVal×Za))):=[
 (111,some (ZhD 1 1)),
 (137,some (ZhD 5 72)),
 (142,some (Zqc)),
 (32,some (Zjd)),
 (130,some (Zjd)),
 (1000000,none)]
def PR:Zcm:=Zev none ZrG
def oI (d:Nat) (i:Ins):AOp:=⟨some d,i,none,[]⟩
def oN (i:Ins):AOp:=⟨none,i,none,[]⟩
theorem xw (c d:Ze) (h:c=d) (m:Nat) (tm:Tms) (σ:Za):evC FC PR BY m c tm σ=evC FC PR BY m d tm σ:=by rw [h]
noncomputable abbrev E:ZQ:=EV FC PR BY
theorem Zh {f:Nat} {fn:ZD} (hp:PR f=none) (hf:FC f=some fn) (args:List AVal) (σ:Za):E f args σ=Zaq σ.length fn (evC FC PR BY σ.length fn.body (enterA 0 args []) σ):=Zty hp hf args σ
end Go.Proofs.YtmlkhhidifjjfaaDoor
namespace Go.Proofs.YtmlkhhidifjjfaaDoor
def Zk6:Ze:=(.seq (.region [oI 2 (.mov (.c (.lst true []))),oI 3 (.mov (.c (.int .i64 0)))] none [0]) (.seq (.seq (.region [oI 4 (.mov (.t 0)),oI 5 (.len (.t 4)),oI 6 (.bin .gtr (.t 5) (.c (.int .i64 65535)))] none [6,0]) (.cond (.t 6) (.seq (.region [oI 2 (.mov (.c (.lst true []))),oI 3 (.mov (.c (.int .i64 10)))] none [3,2]) .ret) .skip)) (.seq (.region [oI 7 (.mov (.t 0)),oI 8 (.len (.t 7)),oI 9 (.i2i .u64 (.t 8)),oI 10 (.call 59 0 true [(.t 9),(.c (.int .i64 2))]),oI 11 (.mov (.t 0)),oI 12 (.bslice false 1 2 (.lst true []) [(0,(.t 10)),(1,(.t 11))]),oI 13 (.call 56 0 true [(.t 12)]),oI 2 (.mov (.t 13)),oI 3 (.mov (.c (.int .i64 0)))] none [3,2]) .ret)))
def ZmY:ZD:=⟨[(.tmp 2),(.tmp 3)],Zk6⟩
theorem ZsB:FC 55=some ZmY:=by kernel_rfl
theorem Zq2:ZmY.body=Zk6:=rfl
theorem Zuz:ZmY.res=[(.tmp 2),(.tmp 3)]:=rfl
def ZoX:Ze:=(.seq (.region [oI 18 (.mov (.t 3)),oI 2 (.mov (.t 18))] none [2]) .ret)
def Zmm:Ze:=ZoX
def ZFL:=xw Zmm ZoX rfl
def Zkw:Ze:=(.seq (.region [oI 9 (.bin .lss (.t 8) (.t 7))] none [9,8,7,6,3]) (.seq (.cond (.t 9) .skip (.exit 0)) (.seq (.block 1 (.seq (.region [oI 10 (.iaddr 1 (.t 6) (.t 8)),oI 11 (.ld none (.t 10)),oI 5 (.mov (.t 11))] none [8,7,6,5,3]) (.region [oI 12 (.mov (.t 3)),oI 13 (.bin .shl (.t 12) (.c (.int .u64 8))),oI 14 (.mov (.t 5)),oI 15 (.i2i .u64 (.t 14)),oI 16 (.bin .or (.t 13) (.t 15)),oI 3 (.mov (.t 16))] none [8,7,6,3]))) (.region [oI 17 (.bin .add (.t 8) (.c (.int .i64 1))),oI 8 (.mov (.t 17))] none [8,7,6,3]))))
def Zng:Ze:=Zkw
def ZuT:=xw Zng Zkw rfl
def Zl2:Ze:=(.seq (.region [oI 2 (.mov (.c (.int .u64 0)))] none [0]) (.seq (.region [oI 3 (.mov (.c (.int .u64 0)))] none [3,0]) (.seq (.seq (.region [oI 6 (.mov (.t 0)),oI 7 (.len (.t 6)),oI 8 (.mov (.c (.int .i64 0)))] none [8,7,6,3]) (.block 0 (.loop [8,7,6,3] Zng))) Zmm)))
def ZkK:ZD:=⟨[(.tmp 2)],Zl2⟩
theorem ZCy:FC 108=some ZkK:=by kernel_rfl
theorem ZKk:ZkK.body=Zl2:=rfl
theorem ZAz:ZkK.res=[(.tmp 2)]:=rfl
noncomputable def ZlG (m:Nat) (tm:Tms) (σ:Za):Option (AVal×Za):=(Zaq m ZkK (ZbG FC PR BY m Zmm (Option.map (ZaW 0) (evL FC PR BY m [8,7,6,3] Zng tm σ))))
def Zis:Ze:=(.seq (.region [oI 2 (.mov (.c (.lst true []))),oI 3 (.mov (.c (.int .i64 0))),oI 4 (.mov (.c (.int .i64 0)))] none [0]) (.seq (.seq (.region [oI 5 (.mov (.t 0)),oI 6 (.len (.t 5)),oI 7 (.bin .lss (.t 6) (.c (.int .i64 2))),oI 8 (.mov (.t 7)),⟨(some 9),(.mov (.t 0)),(some (8,false)),[]⟩,⟨(some 10),(.len (.t 9)),(some (8,false)),[]⟩,⟨(some 11),(.bin .sub (.t 10) (.c (.int .i64 2))),(some (8,false)),[]⟩,⟨(some 12),(.mov (.t 0)),(some (8,false)),[]⟩,⟨(some 13),(.slice 1 (.t 12) none (some (.c (.int .i64 2))) none),(some (8,false)),[]⟩,⟨(some 14),(.call 108 0 true [(.t 13)]),(some (8,false)),[]⟩,⟨(some 15),(.i2i .i64 (.t 14)),(some (8,false)),[]⟩,⟨(some 16),(.bin .lss (.t 11) (.t 15)),(some (8,false)),[]⟩,oI 17 (.pick (.t 8) (.c (.bool true)) (.t 16))] none [17,0]) (.cond (.t 17) (.seq (.region [oI 2 (.mov (.c (.lst true []))),oI 3 (.mov (.c (.int .i64 0))),oI 4 (.mov (.c (.int .i64 11)))] none [4,3,2]) .ret) .skip)) (.seq (.region [oI 18 (.mov (.t 0)),oI 19 (.slice 1 (.t 18) none (some (.c (.int .i64 2))) none),oI 20 (.call 108 0 true [(.t 19)]),oI 21 (.i2i .i64 (.t 20)),oI 22 (.bin .add (.c (.int .i64 2)) (.t 21)),oI 3 (.mov (.t 22))] none [3,0]) (.seq (.region [oI 23 (.mov (.t 0)),oI 24 (.mov (.t 3)),oI 25 (.slice 1 (.t 23) (some (.c (.int .i64 2))) (some (.t 24)) none),oI 26 (.bslice false 1 1 (.lst true []) [(0,(.t 25))]),oI 27 (.call 56 0 true [(.t 26)]),oI 28 (.mov (.t 3)),oI 2 (.mov (.t 27)),oI 3 (.mov (.t 28)),oI 4 (.mov (.c (.int .i64 0)))] none [4,3,2]) .ret))))
def Zpk:ZD:=⟨[(.tmp 2),(.tmp 3),(.tmp 4)],Zis⟩
theorem ZpP:FC 106=some Zpk:=by kernel_rfl
theorem Zo8:Zpk.body=Zis:=rfl
theorem Znl:Zpk.res=[(.tmp 2),(.tmp 3),(.tmp 4)]:=rfl
def Zii:Ze:=(.seq (.region [oI 2 (.mov (.c (.str []))),oI 3 (.mov (.c (.int .i64 0))),oI 4 (.mov (.c (.int .i64 0)))] none [0]) (.seq (.region [oI 7 (.mov (.t 0)),oI 8 (.call 106 0 true [(.t 7)]),oI 6 (.mov (.t 8)),oI 9 (.ext (.t 6) 0),oI 10 (.ext (.t 6) 1),oI 11 (.ext (.t 6) 2),oI 5 (.mov (.t 9)),oI 3 (.mov (.t 10)),oI 4 (.mov (.t 11))] none [5,4,3]) (.seq (.block 0 (.seq (.region [oI 13 (.mov (.t 4)),oI 14 (.bin .neq (.t 13) (.c (.int .i64 0))),oI 12 (.mov (.t 14))] none [12,5,4,3]) (.cond (.t 12) (.seq (.region [oI 15 (.mov (.t 4)),oI 2 (.mov (.c (.str []))),oI 3 (.mov (.c (.int .i64 0))),oI 4 (.mov (.t 15))] none [4,3,2]) .ret) (.seq (.region [oI 17 (.mov (.t 5)),oI 18 (.b2s (.t 17)),oI 19 (.call 97 0 true [(.t 18)]),oI 20 (.un .not (.t 19)),oI 16 (.mov (.t 20))] none [16,5,3]) (.cond (.t 16) (.seq (.region [oI 2 (.mov (.c (.str []))),oI 3 (.mov (.c (.int .i64 0))),oI 4 (.mov (.c (.int .i64 13)))] none [4,3,2]) .ret) .skip))))) (.seq (.region [oI 21 (.mov (.t 5)),oI 22 (.b2s (.t 21)),oI 23 (.mov (.t 3)),oI 2 (.mov (.t 22)),oI 3 (.mov (.t 23)),oI 4 (.mov (.c (.int .i64 0)))] none [4,3,2]) .ret))))
def Zp4:ZD:=⟨[(.tmp 2),(.tmp 3),(.tmp 4)],Zii⟩
theorem ZtL:FC 109=some Zp4:=by kernel_rfl
theorem Zpj:Zp4.body=Zii:=rfl
theorem Zp6:Zp4.res=[(.tmp 2),(.tmp 3),(.tmp 4)]:=rfl
def Zh4:Ze:=(.seq (.seq (.region [oI 36 (.mov (.t 0)),oI 37 (.len (.t 36)),oI 38 (.bin .lss (.t 37) (.c (.int .i64 4)))] none [38]) (.cond (.t 38) (.seq (.region [oI 2 (.mov (.c (.int .i64 0))),oI 3 (.mov (.c (.int .i64 0))),oI 4 (.mov (.c (.int .i64 11)))] none [4,3,2]) .ret) .skip)) (.seq (.region [oI 2 (.mov (.c (.int .i64 0))),oI 3 (.mov (.c (.int .i64 0))),oI 4 (.mov (.c (.int .i64 12)))] none [4,3,2]) .ret))
def ZoF:Ze:=Zh4
def ZnU:=xw ZoF Zh4 rfl
def Ze0:Ze:=(.seq (.region [oI 10 (.bin .lss (.t 9) (.t 8))] none [10,9,8,7,2,0]) (.seq (.cond (.t 10) .skip (.exit 0)) (.seq (.block 1 (.seq (.region [oI 11 (.mov (.t 9)),oI 12 (.iaddr 1 (.t 7) (.t 9)),oI 13 (.ld none (.t 12)),oI 5 (.mov (.t 11)),oI 6 (.mov (.t 13))] none [9,8,7,6,5,2,0]) (.seq (.seq (.region [oI 14 (.mov (.t 5)),oI 15 (.bin .eql (.t 14) (.c (.int .i64 4)))] none [15,9,8,7,6,5,2,0]) (.cond (.t 15) (.exit 0) .skip)) (.seq (.region [oI 16 (.mov (.t 2)),oI 17 (.mov (.t 6)),oI 18 (.bin .and (.t 17) (.c (.int .u8 127))),oI 19 (.i2i .i64 (.t 18)),oI 20 (.mov (.t 5)),oI 21 (.bin .mul (.c (.int .i64 7)) (.t 20)),oI 22 (.bin .shl (.t 19) (.t 21)),oI 23 (.bin .or (.t 16) (.t 22)),oI 2 (.mov (.t 23))] none [9,8,7,6,5,2,0]) (.seq (.region [oI 24 (.mov (.t 6)),oI 25 (.bin .lss (.t 24) (.c (.int .u8 128)))] none [25,9,8,7,6,5,2,0]) (.cond (.t 25) (.seq (.seq (.region [oI 26 (.mov (.t 6)),oI 27 (.bin .eql (.t 26) (.c (.int .u8 0))),oI 28 (.mov (.t 27)),⟨(some 29),(.mov (.t 5)),(some (28,true)),[]⟩,⟨(some 30),(.bin .gtr (.t 29) (.c (.int .i64 0))),(some (28,true)),[]⟩,oI 31 (.pick (.t 28) (.t 30) (.c (.bool false)))] none [31,5,2]) (.cond (.t 31) (.seq (.region [oI 2 (.mov (.c (.int .i64 0))),oI 3 (.mov (.c (.int .i64 0))),oI 4 (.mov (.c (.int .i64 12)))] none [4,3,2]) .ret) .skip)) (.seq (.region [oI 32 (.mov (.t 2)),oI 33 (.mov (.t 5)),oI 34 (.bin .add (.t 33) (.c (.int .i64 1))),oI 2 (.mov (.t 32)),oI 3 (.mov (.t 34)),oI 4 (.mov (.c (.int .i64 0)))] none [4,3,2]) .ret)) .skip)))))) (.region [oI 35 (.bin .add (.t 9) (.c (.int .i64 1))),oI 9 (.mov (.t 35))] none [9,8,7,2,0]))))
def Zoi:Ze:=Ze0
def ZgB:=xw Zoi Ze0 rfl
def Zp1:Ze:=(.seq (.region [oI 2 (.mov (.c (.int .i64 0))),oI 3 (.mov (.c (.int .i64 0))),oI 4 (.mov (.c (.int .i64 0)))] none [2,0]) (.seq (.seq (.region [oI 7 (.mov (.t 0)),oI 8 (.len (.t 7)),oI 9 (.mov (.c (.int .i64 0)))] none [9,8,7,2,0]) (.block 0 (.loop [9,8,7,2,0] Zoi))) ZoF))
def Zj1:ZD:=⟨[(.tmp 2),(.tmp 3),(.tmp 4)],Zp1⟩
theorem ZLf:FC 135=some Zj1:=by kernel_rfl
theorem ZDo:Zj1.body=Zp1:=rfl
theorem Zhv:Zj1.res=[(.tmp 2),(.tmp 3),(.tmp 4)]:=rfl
noncomputable def Zhl (m:Nat) (tm:Tms) (σ:Za):Option (AVal×Za):=(Zaq m Zj1 (ZbG FC PR BY m ZoF (Option.map (ZaW 0) (evL FC PR BY m [9,8,7,2,0] Zoi tm σ))))
def ZnR:Ze:=(.seq (.region [oI 12 (.mov (.t 0)),oI 13 (.call 142 0 true [(.t 12)]),oI 2 (.mov (.t 13))] none [2]) .ret)
def Zpo:Ze:=ZnR
def ZEN:=xw Zpo ZnR rfl
def Zio:Ze:=(.seq (.region [oI 7 (.nxt (.t 6)),oI 8 (.ext (.t 7) 0)] none [8,7,6,0]) (.seq (.cond (.t 8) .skip (.exit 0)) (.block 1 (.seq (.region [oI 9 (.ext (.t 7) 2),oI 4 (.mov (.t 9))] none [6,4,0]) (.seq (.region [oI 10 (.mov (.t 4)),oI 11 (.bin .eql (.t 10) (.c (.int .i32 0)))] none [11,6,0]) (.cond (.t 11) (.seq (.region [oI 2 (.mov (.c (.bool false)))] none [2]) .ret) .skip))))))
def Zpl:Ze:=Zio
def ZnC:=xw Zpl Zio rfl
def ZnS:Ze:=(.seq (.region [oI 2 (.mov (.c (.bool false)))] none [0]) (.seq (.seq (.region [oI 5 (.mov (.t 0)),oI 6 (.rng (.t 5))] none [6,0]) (.block 0 (.loop [6,0] Zpl))) Zpo))
def ZjT:ZD:=⟨[(.tmp 2)],ZnS⟩
theorem ZME:FC 97=some ZjT:=by kernel_rfl
theorem ZCO:ZjT.body=ZnS:=rfl
theorem Zu4:ZjT.res=[(.tmp 2)]:=rfl
noncomputable def Zjy (m:Nat) (tm:Tms) (σ:Za):Option (AVal×Za):=(Zaq m ZjT (ZbG FC PR BY m Zpo (Option.map (ZaW 0) (evL FC PR BY m [6,0] Zpl tm σ))))
def ZmB:Ze:=(.seq (.region [oI 16 (.mov (.t 3)),oI 2 (.mov (.t 16))] none [2]) .ret)
def Zpy:Ze:=ZmB
def ZH9:=xw Zpy ZmB rfl
def Ziw:Ze:=(.seq (.region [oI 9 (.bin .lss (.t 8) (.t 7))] none [9,8,7,6,3]) (.seq (.cond (.t 9) .skip (.exit 0)) (.seq (.block 1 (.seq (.region [oI 10 (.iaddr 1 (.t 6) (.t 8)),oI 11 (.ld none (.t 10)),oI 5 (.mov (.t 11))] none [8,7,6,5,3]) (.region [oI 12 (.mov (.t 3)),oI 13 (.mov (.t 5)),oI 14 (.app 1 1 (.int .u8 0) (.t 12) (.t 13)),oI 3 (.mov (.t 14))] none [8,7,6,3]))) (.region [oI 15 (.bin .add (.t 8) (.c (.int .i64 1))),oI 8 (.mov (.t 15))] none [8,7,6,3]))))
def Zm3:Ze:=Ziw
def ZnF:=xw Zm3 Ziw rfl
def ZpN:Ze:=(.seq (.region [oI 2 (.mov (.c (.lst true [])))] none [0]) (.seq (.region [oI 3 (.mov (.c (.lst true [])))] none [3,0]) (.seq (.seq (.region [oI 6 (.mov (.t 0)),oI 7 (.len (.t 6)),oI 8 (.mov (.c (.int .i64 0)))] none [8,7,6,3]) (.block 0 (.loop [8,7,6,3] Zm3))) Zpy)))
def ZkT:ZD:=⟨[(.tmp 2)],ZpN⟩
theorem ZNv:FC 56=some ZkT:=by kernel_rfl
theorem ZHO:ZkT.body=ZpN:=rfl
theorem ZIv:ZkT.res=[(.tmp 2)]:=rfl
noncomputable def ZkB (m:Nat) (tm:Tms) (σ:Za):Option (AVal×Za):=(Zaq m ZkT (ZbG FC PR BY m Zpy (Option.map (ZaW 0) (evL FC PR BY m [8,7,6,3] Zm3 tm σ))))
def Zn3:Ze:=(.seq (.region [oI 28 (.mov (.t 5)),oI 4 (.mov (.t 28))] none [4]) .ret)
def ZmX:Ze:=Zn3
def ZEL:=xw ZmX Zn3 rfl
def ZlE:Ze:=(.seq (.seq (.region [oI 17 (.mov (.t 6)),oI 18 (.bin .geq (.t 17) (.c (.int .i64 0)))] none [18,6,5,0]) (.cond (.t 18) .skip (.exit 0))) (.seq (.block 1 (.seq (.region [oI 21 (.mov (.t 5)),oI 22 (.mov (.t 6)),oI 23 (.mov (.t 0)),oI 24 (.i2i .u8 (.t 23)),oI 25 (.iaddr 1 (.t 21) (.t 22)),oN (.st 1 (.t 25) (.t 24))] none [6,5,0]) (.region [oI 26 (.mov (.t 0)),oI 27 (.bin .shr (.t 26) (.c (.int .u64 8))),oI 0 (.mov (.t 27))] none [6,5,0]))) (.region [oI 19 (.mov (.t 6)),oI 20 (.bin .sub (.t 19) (.c (.int .i64 1))),oI 6 (.mov (.t 20))] none [6,5,0])))
def Zom:Ze:=ZlE
def Zu7:=xw Zom ZlE rfl
def Zmw:Ze:=(.seq (.region [oI 4 (.mov (.c (.lst true [])))] none [1,0]) (.seq (.seq (.region [oI 7 (.mov (.t 1)),oI 8 (.bin .lss (.t 7) (.c (.int .i64 1))),oI 9 (.mov (.t 8)),⟨(some 10),(.mov (.t 1)),(some (9,false)),[]⟩,⟨(some 11),(.bin .gtr (.t 10) (.c (.int .i64 8))),(some (9,false)),[]⟩,oI 12 (.pick (.t 9) (.c (.bool true)) (.t 11))] none [12,1,0]) (.cond (.t 12) (.seq (.region [oI 4 (.mov (.c (.lst true [])))] none [4]) .ret) .skip)) (.seq (.region [oI 13 (.mov (.t 1)),oI 14 (.mkslice 1 1 (.int .u8 0) (.t 13) (.t 13)),oI 5 (.mov (.t 14))] none [5,1,0]) (.seq (.seq (.region [oI 15 (.mov (.t 1)),oI 16 (.bin .sub (.t 15) (.c (.int .i64 1))),oI 6 (.mov (.t 16))] none [6,5,0]) (.block 0 (.loop [6,5,0] Zom))) ZmX))))
def Zko:ZD:=⟨[(.tmp 4)],Zmw⟩
theorem ZBl:FC 59=some Zko:=by kernel_rfl
theorem ZFP:Zko.body=Zmw:=rfl
theorem ZJB:Zko.res=[(.tmp 4)]:=rfl
noncomputable def Zjp (m:Nat) (tm:Tms) (σ:Za):Option (AVal×Za):=(Zaq m Zko (ZbG FC PR BY m ZmX (Option.map (ZaW 0) (evL FC PR BY m [6,5,0] Zom tm σ))))
def ZlT:Ze:=(.seq (.region [oI 2 (.mov (.c (.lst true []))),oI 3 (.mov (.c (.int .i64 0)))] none [0]) (.seq (.seq (.region [oI 4 (.mov (.t 0)),oI 5 (.call 97 0 true [(.t 4)]),oI 6 (.un .not (.t 5))] none [6,0]) (.cond (.t 6) (.seq (.region [oI 2 (.mov (.c (.lst true []))),oI 3 (.mov (.c (.int .i64 13)))] none [3,2]) .ret) .skip)) (.seq (.region [oI 7 (.mov (.t 0)),oI 8 (.s2b (.t 7)),oI 9 (.call 55 0 true [(.t 8)]),oI 10 (.ext (.t 9) 0),oI 11 (.ext (.t 9) 1),oI 2 (.mov (.t 10)),oI 3 (.mov (.t 11))] none [3,2]) .ret)))
def ZoA:ZD:=⟨[(.tmp 2),(.tmp 3)],ZlT⟩
theorem Zvd:FC 54=some ZoA:=by kernel_rfl
theorem ZtD:ZoA.body=ZlT:=rfl
theorem Zq3:ZoA.res=[(.tmp 2),(.tmp 3)]:=rfl
def ZkX:Ze:=(.seq (.region [oI 21 (.mov (.t 4)),oI 22 (.mov (.t 0)),oI 23 (.i2i .u8 (.t 22)),oI 24 (.bslice false 1 1 (.int .u8 0) [(0,(.t 23))]),oI 25 (.app 1 1 (.int .u8 0) (.t 21) (.t 24)),oI 2 (.mov (.t 25)),oI 3 (.mov (.c (.int .i64 0)))] none [3,2]) .ret)
def ZpG:Ze:=ZkX
def Zua:=xw ZpG ZkX rfl
def Zha:Ze:=(.seq (.seq (.region [oI 11 (.mov (.t 0)),oI 12 (.bin .gtr (.t 11) (.c (.int .i64 127)))] none [12,4,0]) (.cond (.t 12) .skip (.exit 0))) (.seq (.block 1 (.region [oI 15 (.mov (.t 4)),oI 16 (.mov (.t 0)),oI 17 (.i2i .u8 (.t 16)),oI 18 (.bin .or (.t 17) (.c (.int .u8 128))),oI 19 (.bslice false 1 1 (.int .u8 0) [(0,(.t 18))]),oI 20 (.app 1 1 (.int .u8 0) (.t 15) (.t 19)),oI 4 (.mov (.t 20))] none [4,0])) (.region [oI 13 (.mov (.t 0)),oI 14 (.bin .shr (.t 13) (.c (.int .u64 7))),oI 0 (.mov (.t 14))] none [4,0])))
def Zqh:Ze:=Zha
def ZkI:=xw Zqh Zha rfl
def Zir:Ze:=(.seq (.region [oI 2 (.mov (.c (.lst true []))),oI 3 (.mov (.c (.int .i64 0)))] none [0]) (.seq (.seq (.region [oI 5 (.mov (.t 0)),oI 6 (.bin .lss (.t 5) (.c (.int .i64 0))),oI 7 (.mov (.t 6)),⟨(some 8),(.mov (.t 0)),(some (7,false)),[]⟩,⟨(some 9),(.bin .gtr (.t 8) (.c (.int .i64 268435455))),(some (7,false)),[]⟩,oI 10 (.pick (.t 7) (.c (.bool true)) (.t 9))] none [10,0]) (.cond (.t 10) (.seq (.region [oI 2 (.mov (.c (.lst true []))),oI 3 (.mov (.c (.int .i64 10)))] none [3,2]) .ret) .skip)) (.seq (.region [oI 4 (.mov (.c (.lst true [])))] none [4,0]) (.seq (.block 0 (.loop [4,0] Zqh)) ZpG))))
def Zjw:ZD:=⟨[(.tmp 2),(.tmp 3)],Zir⟩
theorem ZvU:FC 82=some Zjw:=by kernel_rfl
theorem Zl6:Zjw.body=Zir:=rfl
theorem ZjJ:Zjw.res=[(.tmp 2),(.tmp 3)]:=rfl
noncomputable def Zks (m:Nat) (tm:Tms) (σ:Za):Option (AVal×Za):=(Zaq m Zjw (ZbG FC PR BY m ZpG (Option.map (ZaW 0) (evL FC PR BY m [4,0] Zqh tm σ))))
end Go.Proofs.YtmlkhhidifjjfaaDoor
namespace Go.Proofs.YtmlkhhidifjjfaaDoor
open Go.RowKit
inductive Ty where
 | bool
 | int (k:IntKind)
 | str
 | slice (s:Bool) (e:Ty)
 | struct (fs:List Ty)
 deriving Inhabited
def ZdD:Option TypeDesc→Bool
 | some (.struct _)=>true
 | some (.array _ _)=>true
 | _=>false
def Zip (P:Program):Nat→List Field→Nat→Bool
 | at',[],n=>at' == n
 | at',f::fs,n=>f.offset == at' && Zip P (at'+P.cellsOf f.type) fs n
def Zdf (P:Program):Nat→TypeId→Option Ty
 | 0,_=>none
 | n+1,t=>match P.underlying t with
  | some .bool=>some .bool
  | some (.int k)=>some (.int k)
  | some .string=>some .str
  | some (.slice e)=>if 0 < P.cellsOf e then (Zdf P n e).map (.slice (ZdD (P.underlying e))) else none
  | some (.struct fs)=>if Zip P 0 fs.toList (P.cellsOf t) then (fs.toList.mapM fun f=>Zdf P n f.type).map .struct else none
  | _=>none
def Zb4 (s:Bool) (y:List AVal):AVal:=if s then .agg y else y.headD .nilp
def Imm.of (w:World):Imm:=fun b o=>w.cell? ⟨b,o,none⟩
section
variable {H:Type} {enc:TypeId×Value→H} {P:Program} {w:World} {spare:Nat→Bool} {held:Bool}
theorem Zzi {b off:Nat} {s:Option Nat} {u:Value} (h:w.cell? ⟨b,off,s⟩=some u):s=none:=by
 unfold World.cell? at h
 split at h
 ·rcases s with _ | s
  ·rfl
  ·simp at h
 ·cases h
theorem ZKU {s:Bool} {y:List AVal} (h:s=false→y.length=1) (h1:s=false→∀ x ∈ y,ZS x=true):(Zb4 s y).cells=y:=by
 cases s with
 | true=>rfl
 | false =>
  match y,h rfl with
  | [x],_ =>
   have:=h1 rfl x (by simp)
   cases x <;> simp_all [Zb4,AVal.cells,ZS]
theorem Zx7 {a:Addr} (h:a.spot=none) (n:Nat):a.add n=⟨a.block,a.off+n,none⟩:=by
 unfold Addr.add
 split
 ·rename_i e;subst e;cases a;simp_all
 ·rfl
theorem Zy3 {I:Imm} {β:Bmap} {xs:List AVal} {vs:List Value} {n:Nat} (h:VRs I β xs (vs.take n)) {ys:List AVal} (h':VRs I β ys (vs.drop n)):VRs I β (xs++ys) vs:=by
 have:=Zcy h h'
 rwa [List.take_append_drop] at this
theorem ZtJ {α β:Type} {f:α→Option β} {a:α} {l:List α} {r:List β} (h:(a::l).mapM f=some r):∃ b r',f a=some b∧l.mapM f=some r'∧r=b::r':=by
 rw [List.mapM_cons] at h
 simp only [Option.bind_eq_bind,Option.bind_eq_some_iff,Option.pure_def,Option.some.injEq] at h
 obtain ⟨b,h1,r',h2,h3⟩:=h
 exact ⟨b,r',h1,h2,h3.symm⟩
theorem ZIR {a b:List AVal} (ha:ZaH a=true) (hb:ZaH b=true):ZaH (a++b)=true:=by
 induction a with
 | nil=>exact hb
 | cons x a ih=>simp only [List.cons_append,ZaH,Bool.and_eq_true] at ha ⊢;exact ⟨ha.1,ih ha.2⟩
theorem ZqK {I:Imm} {β:Bmap} {s:Bool} {k b:Nat}:∀ (n off:Nat) (Y:Nat→List AVal),(∀ i,i < n→(Zb4 s (Y i)).cells.length=k∧CR I β (Zb4 s (Y i)).cells b (off+i*k))→LR I β k ((List.range n).map fun i=>Zb4 s (Y i)) b off
 | 0,off,Y,_=>by simp [LR]
 | n+1,off,Y,h=>by
  rw [List.range_succ_eq_map,List.map_cons,ZfB]
  have h0:=h 0 (by omega)
  simp only [Nat.zero_mul,Nat.add_zero] at h0
  refine ⟨h0,?_⟩
  rw [List.map_map]
  exact ZqK n (off+k) (fun i=>Y (i+1)) (fun i hi=>by
   have:=h (i+1) (by omega)
   rw [show off+k+i*k=off+(i+1)*k by rw [Nat.succ_mul];omega]
   exact this)
theorem Zu3 {I:Imm} {β:Bmap} {b:Nat}:∀ (xs:List AVal) (cs:List Value) (off:Nat),VRs I β xs cs→(∀ i,i < cs.length→I b (off+i)=cs[i]?)→CR I β xs b off
 | [],_,_,_,_=>by simp only [CR]
 | x::xs,cs,off,h,hI=>by
  simp only [VRs] at h
  obtain ⟨v,vs',rfl,h1,h2⟩:=h
  simp only [CR]
  refine ⟨⟨v,by have:=hI 0 (by simp);simpa using this,h1⟩,Zu3 xs vs' (off+1) h2 fun i hi=>?_⟩
  have:=hI (i+1) (by simp;omega)
  rw [show off+1+i=off+(i+1) by omega,this]
  simp
theorem ZmC {s:Bool}:∀ (n:Nat) (Y:Nat→List AVal),(∀ i,i < n→ZaH (Zb4 s (Y i)).cells=true)→Zaa ((List.range n).map fun i=>Zb4 s (Y i))=true
 | 0,Y,_=>by simp [Zaa]
 | n+1,Y,h=>by
  rw [List.range_succ_eq_map,List.map_cons,Zu9,h 0 (by omega),List.map_map]
  simp only [Bool.true_and]
  exact ZmC n (fun i=>Y (i+1)) (fun i hi=>h (i+1) (by omega))
theorem Zvp {xs:List AVal} (h:ZaH xs=true):∀ x ∈ xs,ZS x=true:=by
 induction xs with
 | nil=>intro x hx;simp at hx
 | cons y ys ih =>
  simp only [ZaH,Bool.and_eq_true] at h
  intro x hx
  rcases List.mem_cons.1 hx with rfl | hx
  ·cases x <;> simp_all [ZaN,ZS]
  ·exact ih h.2 x hx
theorem Rel.start (w:World) (hG:Gl.le (Imm.of w)):Rel (fun b=>b < w.heap.size) w (Imm.of w) (Imm.of w) B0 [] w where
 below:=KB.refl _ w
 old:=fun _ _ _=>rfl
 imm:=fun _ _ _ h=>h
 blk:=fun t x h=>by simp at h
 own:=fun t x b h=>by simp at h
 apart:=fun t x t' x' b h=>by simp at h
 fresh:=fun _ _ _=>rfl
 free:=fun t g h=>by simp at h
 gen:=fun t b g h=>by simp at h
 glob:=hG
theorem ZJ8 {O:ZQ} (hO:ZaL P O) {f:Nat} {args:List AVal} {vs:Array Value} {σ':Za} (hG:Gl.le (Imm.of w)) (hargs:VRs (Imm.of w) B0 args vs.toList) (h:O f args []=some (.bool true,σ')) :
  Calls P f vs w (fun e w'=>e=.returned (.bool true)∧Below w.heap.size w w'):=by
 refine ((hO f args [] _ _ h).2 _ w _ _ B0 w vs (fun b hb=>hb) (Rel.start w hG) hargs).mono ?_
 rintro e w' ⟨u,he,I',β',_,_,R,hv⟩
 simp only [ZaU,VR] at hv
 subst hv
 exact ⟨he,R.below.os,R.below.tape,R.below.output,R.below.size,R.below.block⟩
end
end Go.Proofs.YtmlkhhidifjjfaaDoor
namespace Go.Proofs.YtmlkhhidifjjfaaDoor
open Go.RowKit
theorem ZD4 (id:Nat) (tm:Tms) (σ:Za):ZaW id (.normal,tm,σ)=(.normal,tm,σ):=rfl
theorem ZLh (id i:Nat) (tm:Tms) (σ:Za):ZaW id (.exit i,tm,σ)=if i=id then (.normal,tm,σ) else (.exit i,tm,σ):=by simp only [ZaW]
theorem ZFk (id:Nat) (tm:Tms) (σ:Za):ZaW id (.ret,tm,σ)=(.ret,tm,σ):=rfl
theorem Zx5 (id:Nat) (x:AVal) (tm:Tms) (σ:Za):ZaW id (.panic x,tm,σ)=(.panic x,tm,σ):=rfl
section
variable (O:ZQ) (byref:Nat→Bool)
def Zdp (c:Cls):Option (Tms×Za×List Cls×Option AVal)→Option (Tms×Za×List Cls×Option AVal)
 | none=>none
 | some (tm,σ,cs,p)=>some (tm,σ,c::cs,p)
def ZgF (c:List Cls):Option (Tms×Za×List Cls×Option AVal)→Option (Tms×Za×List Cls×Option AVal)
 | none=>none
 | some (tm,σ,cs,p)=>some (tm,σ,c++cs,p)
def kC (d:Option Nat) (os:List AOp) (s:Nat) (tm:Tms):Option (AVal×Za×Cls)→Option (Tms×Za×List Cls×Option AVal)
 | none=>none
 | some (v,σ,c)=>if ZaP v then some (tput tm d v,σ,[c],some (ZaU v)) else Zdp c (ZX O byref os s (tput tm d v) σ)
def Zed (ops:List AOp) (L:Nat) (l:List (Nat×Nat)) (live:List Nat):Option (Tms×Za×List Cls×Option AVal)→Option (ZaV×Tms×Za)
 | none=>none
 | some (_,σ,cs,some x)=>if Zdc ops L l cs then some (.panic x,[],σ) else none
 | some (tm,σ,cs,none)=>if Zdb ops L l cs then some (.normal,keepL live tm,σ) else none
variable {O byref}
theorem Zsm (s:Nat) (tm:Tms) (σ:Za):ZX O byref [] s tm σ=some (tm,σ,[],none):=rfl
theorem ZIF (c:Cls) (tm:Tms) (σ:Za) (cs:List Cls) (p:Option AVal):Zdp c (some (tm,σ,cs,p))=some (tm,σ,c::cs,p):=rfl
theorem ZMT (c:Cls):Zdp c none=none:=rfl
theorem Zyo (c:Cls) (q:Prop) [Decidable q] (x y:Option (Tms×Za×List Cls×Option AVal)):Zdp c (if q then x else y)=if q then Zdp c x else Zdp c y:=by split <;> rfl
theorem ZEr (c:List Cls) (tm:Tms) (σ:Za) (cs:List Cls) (p:Option AVal):ZgF c (some (tm,σ,cs,p))=some (tm,σ,c++cs,p):=rfl
theorem ZxF (c:List Cls):ZgF c none=none:=rfl
theorem ZBZ (c:List Cls) (q:Prop) [Decidable q] (x y:Option (Tms×Za×List Cls×Option AVal)):ZgF c (if q then x else y)=if q then ZgF c x else ZgF c y:=by split <;> rfl
theorem Zly {o:AOp} {os:List AOp} {s:Nat} {tm tm1:Tms} {σ σ1:Za} {v:AVal} {c:Cls} (h:ZL O byref o s tm σ=some (v,tm1,σ1,c)) (hn:ZaP v=false):ZX O byref (o::os) s tm σ=Zdp c (ZX O byref os (s+nsite o.ins) tm1 σ1):=by
 rw [Zvn h hn]
 cases ZX O byref os (s+nsite o.ins) tm1 σ1 <;> rfl
theorem Zou (d:Option Nat) (i:Ins) (af:List Nat) (os:List AOp) (s:Nat) (tm:Tms) (σ:Za):ZX O byref (⟨d,i,none,af⟩::os) s tm σ=kC O byref d os (s+nsite i) tm (exI O byref i s tm σ):=by
 cases h:exI O byref i s tm σ with
 | none=>exact Zh1 (by rw [Zln,h];rfl)
 | some q =>
  obtain ⟨v,σ1,c⟩:=q
  have hs:ZL O byref ⟨d,i,none,af⟩ s tm σ=some (v,tput tm d v,σ1,c):=by rw [Zln,h];rfl
  cases hp:ZaP v with
  | true =>
   obtain ⟨x,rfl⟩:=ZkS hp
   exact ZjD hs
  | false =>
   rw [Zly hs hp]
   simp only [kC,hp,Bool.false_eq_true,if_false]
theorem Zow (d:Option Nat) (os:List AOp) (s:Nat) (tm:Tms) (v:AVal) (σ:Za) (c:Cls) (h:ZaP v=false):kC O byref d os s tm (some (v,σ,c))=Zdp c (ZX O byref os s (tput tm d v) σ):=by
 simp only [kC,h,Bool.false_eq_true,if_false]
theorem ZKx (d:Option Nat) (os:List AOp) (s:Nat) (tm:Tms) (x:AVal) (σ:Za) (c:Cls):kC O byref d os s tm (some (.pan x,σ,c))=some (tput tm d (.pan x),σ,[c],some x):=rfl
theorem ZH7 (d:Option Nat) (os:List AOp) (s:Nat) (tm:Tms):kC O byref d os s tm none=none:=rfl
theorem ZwH (d:Option Nat) (os:List AOp) (s:Nat) (tm:Tms) (q:Prop) [Decidable q] (x y:Option (AVal×Za×Cls)):kC O byref d os s tm (if q then x else y)=if q then kC O byref d os s tm x else kC O byref d os s tm y:=by split <;> rfl
theorem ZBP (ops:List AOp) (l:List (Nat×Nat)) (live:List Nat) (tm:Tms) (σ:Za):ZbX O byref ops (some l) live tm σ=Zed ops σ.length l live (ZX O byref ops σ.length tm (σ++List.replicate (sitesOf ops) .free)):=by
 unfold ZbX
 cases ZX O byref ops σ.length tm (σ++List.replicate (sitesOf ops) .free) with
 | none=>rfl
 | some q =>
  obtain ⟨tm',σ',cs,p⟩:=q
  cases p <;> rfl
theorem ZuU (ops:List AOp) (L:Nat) (l:List (Nat×Nat)) (live:List Nat) (tm:Tms) (σ:Za) (cs:List Cls) (h:Zdb ops L l cs=true):Zed ops L l live (some (tm,σ,cs,none))=some (.normal,keepL live tm,σ):=by
 simp only [Zed,h,if_true]
theorem ZhT (ops:List AOp) (L:Nat) (l:List (Nat×Nat)) (live:List Nat) (tm:Tms) (σ:Za) (cs:List Cls) (x:AVal) (h:Zdc ops L l cs=true):Zed ops L l live (some (tm,σ,cs,some x))=some (.panic x,[],σ):=by
 simp only [Zed,h,if_true]
theorem ZFA (ops:List AOp) (L:Nat) (l:List (Nat×Nat)) (live:List Nat):Zed ops L l live none=none:=rfl
theorem Zxs (ops:List AOp) (L:Nat) (l:List (Nat×Nat)) (live:List Nat) (q:Prop) [Decidable q] (x y:Option (Tms×Za×List Cls×Option AVal)):Zed ops L l live (if q then x else y)=if q then Zed ops L l live x else Zed ops L l live y:=by split <;> rfl
theorem ZJN (ops:List AOp) (L:Nat) (l:List (Nat×Nat)) (cs:List Cls) (h:(cs.all fun c=>c.wr.isEmpty && !c.any)=true) (hs:(l.all fun p=>p.1 == p.2 || nsite (ops.getD p.1 default).ins == 0)=true):Zdb ops L l cs=true:=by
 have hd:∀ i,ZdK (cs.getD i {})=true:=by
  intro i
  rw [List.all_eq_true] at h
  rw [List.getD_eq_getElem?_getD]
  cases hi:cs[i]? with
  | none=>rfl
  | some c=>exact h c (List.mem_of_getElem? hi)
 unfold Zdb
 rw [List.all_eq_true] at hs ⊢
 intro p hp
 have:=hs p hp
 rw [Bool.or_eq_true] at this ⊢
 rcases this with this | this
 ·exact Or.inl this
 ·refine Or.inr ?_
  unfold Zcj
  simp only [hd,this,Bool.and_true,Bool.true_and,Bool.true_or,Bool.or_true]
theorem Zzf (ops:List AOp) (L:Nat) (l:List (Nat×Nat)) (live:List Nat) (tm:Tms) (σ:Za) (cs:List Cls) (h:(cs.all fun c=>c.wr.isEmpty && !c.any)=true) (hs:(l.all fun p=>p.1 == p.2 || nsite (ops.getD p.1 default).ins == 0)=true):Zed ops L l live (some (tm,σ,cs,none))=some (.normal,keepL live tm,σ) :=
 ZuU _ _ _ _ _ _ _ (ZJN _ _ _ _ h hs)
variable (O byref) in
def gKC (os:List AOp) (s:Nat):Option (Tms×Za×List Cls×Option AVal)→Option (Tms×Za×List Cls×Option AVal)
 | none=>none
 | some (tm,σ,cs,some x)=>some (tm,σ,cs,some x)
 | some (tm,σ,cs,none)=>ZgF cs (ZX O byref os s tm σ)
theorem ZDJ (os:List AOp) (s:Nat) (tm:Tms) (σ:Za) (cs:List Cls):gKC O byref os s (some (tm,σ,cs,none))=ZgF cs (ZX O byref os s tm σ):=rfl
theorem ZMl (os:List AOp) (s:Nat) (q:Prop) [Decidable q] (x y:Option (Tms×Za×List Cls×Option AVal)):gKC O byref os s (if q then x else y)=if q then gKC O byref os s x else gKC O byref os s y:=by split <;> rfl
theorem ZyQ (os:List AOp) (s:Nat) (c:Cls) (r:Option (Tms×Za×List Cls×Option AVal)):gKC O byref os s (Zdp c r)=Zdp c (gKC O byref os s r):=by
 cases r with
 | none=>rfl
 | some q =>
  obtain ⟨tm,σ,cs,p⟩:=q
  cases p with
  | some x=>rfl
  | none =>
   simp only [Zdp,gKC]
   cases ZX O byref os s tm σ <;> rfl
theorem ZsP:∀ (a b:List AOp) (s:Nat) (tm:Tms) (σ:Za),ZX O byref (a++b) s tm σ=gKC O byref b (s+sitesOf a) (ZX O byref a s tm σ)
 | [],b,s,tm,σ=>by
  simp only [List.nil_append,Zsm,gKC,sitesOf,List.map_nil,List.sum_nil,Nat.add_zero]
  cases ZX O byref b s tm σ <;> rfl
 | o::a,b,s,tm,σ=>by
  have ih:=ZsP a b
  simp only [List.cons_append]
  have hs:s+nsite o.ins+sitesOf a=s+sitesOf (o::a):=by simp [sitesOf,Nat.add_assoc]
  cases hst:ZL O byref o s tm σ with
  | none=>rw [Zh1 hst,Zh1 hst];rfl
  | some q =>
   obtain ⟨v,tm1,σ1,c⟩:=q
   cases hp:ZaP v with
   | true =>
    obtain ⟨x,rfl⟩:=ZkS hp
    rw [ZjD hst,ZjD hst];rfl
   | false=>rw [Zly hst hp,Zly hst hp,ih,hs,ZyQ]
variable (O byref) in
def ZeF (j:Nat) (w:Bool) (g:List AOp) (s:Nat) (tm:Tms) (σ:Za):Option (Tms×Za×List Cls×Option AVal):=match Zbp (some (j,w)) tm with
 | none=>none
 | some false=>some (Zas g tm,σ,g.map fun _=>{},none)
 | some true=>ZX O byref (g.map unG) s tm σ
theorem ZtK (j:Nat) (w:Bool):∀ (g:List AOp),(∀ o ∈ g,o.guard=some (j,w)∧o.dst≠some j)→∀ (s:Nat) (tm:Tms) (σ:Za),g≠[]→ZX O byref g s tm σ=ZeF O byref j w g s tm σ
 | [],_,_,_,_,h=>absurd rfl h
 | o::g,hall,s,tm,σ,_=>by
  obtain ⟨hg,hd⟩:=hall o (by simp)
  have ih:∀ (tm:Tms) (σ:Za) (s:Nat),Zbp (some (j,w)) tm≠none→ZX O byref g s tm σ=ZeF O byref j w g s tm σ:=by
   intro tm σ s hw
   by_cases he:g=[]
   ·subst he
    unfold ZeF
    cases hx:Zbp (some (j,w)) tm with
    | none=>exact absurd hx hw
    | some b=>cases b <;> rfl
   ·exact ZtK j w g (fun o ho=>hall o (by simp [ho])) s tm σ he
  cases hx:Zbp (some (j,w)) tm with
  | none =>
   rw [Zh1 (by simp only [ZL,hg,hx])]
   simp only [ZeF,hx]
  | some b =>
   cases b with
   | false =>
    have h1:ZX O byref (o::g) s tm σ=Zdp {} (ZX O byref g (s+nsite o.ins) (tput tm o.dst (.tup [])) σ) :=
     Zly (v:=.tup []) (c:={}) (by simp only [ZL,hg,hx]) rfl
    rw [h1,ih _ _ _ (by rw [Zfu hd,hx];simp)]
    unfold ZeF
    rw [Zfu hd,hx]
    rfl
   | true =>
    have key:∀ r:Option (AVal×Za×Cls),(∀ v σ' c,r=some (v,σ',c)→ZaP v=false→ZX O byref g (s+nsite o.ins) (tput tm o.dst v) σ'=ZX O byref (g.map unG) (s+nsite o.ins) (tput tm o.dst v) σ')→kC O byref o.dst g (s+nsite o.ins) tm r=kC O byref o.dst (g.map unG) (s+nsite o.ins) tm r:=by
     intro r hr
     cases r with
     | none=>rfl
     | some q =>
      obtain ⟨v,σ',c⟩:=q
      cases hp:ZaP v with
      | true=>simp only [kC,hp,if_true]
      | false=>rw [Zow _ _ _ _ _ _ _ hp,Zow _ _ _ _ _ _ _ hp,hr v σ' c rfl hp]
    have h1:ZX O byref (o::g) s tm σ=kC O byref o.dst g (s+nsite o.ins) tm (exI O byref o.ins s tm σ):=by
     have h0:ZX O byref (o::g) s tm σ=ZX O byref (⟨o.dst,o.ins,none,o.after⟩::g) s tm σ:=by
      have hst:ZL O byref o s tm σ=ZL O byref ⟨o.dst,o.ins,none,o.after⟩ s tm σ:=by
       unfold ZL
       simp only [hg,hx]
       rfl
      simp only [ZX,hst]
     rw [h0,Zou]
    rw [h1]
    unfold ZeF
    rw [hx]
    simp only [List.map_cons]
    rw [show unG o=⟨o.dst,o.ins,none,o.after⟩ from rfl,Zou]
    refine key _ fun v σ' c _ _=>?_
    rw [ih _ _ _ (by rw [Zfu hd,hx];simp)]
    unfold ZeF
    rw [Zfu hd,hx]
theorem ZHc (d:Option Nat) (i:Ins) (j:Nat) (w:Bool) (af:List Nat) (os:List AOp) (s:Nat) (tm:Tms) (σ:Za) (hd:decide (d=some j)=false) :
  ZX O byref (⟨d,i,some (j,w),af⟩::os) s tm σ=gKC O byref (ZE j w os).2 (s+sitesOf (⟨d,i,some (j,w),af⟩::(ZE j w os).1)) (ZeF O byref j w (⟨d,i,some (j,w),af⟩::(ZE j w os).1) s tm σ):=by
 have h:=Znc j w os
 have hall:∀ o ∈ (⟨d,i,some (j,w),af⟩::(ZE j w os).1:List AOp),o.guard=some (j,w)∧o.dst≠some j:=by
  intro o ho
  rcases List.mem_cons.1 ho with rfl | ho
  ·exact ⟨rfl,by simpa using hd⟩
  ·exact Zof j w os o ho
 rw [←ZtK j w _ hall s tm σ (by simp),←ZsP,List.cons_append,h]
variable (O byref) in
def gWC (w:Bool) (g:List AOp) (s:Nat) (tm:Tms) (σ:Za):AVal→Option (Tms×Za×List Cls×Option AVal)
 | .bool b=>if b=w then ZX O byref (g.map unG) s tm σ else some (Zas g tm,σ,g.map fun _=>{},none)
 | .tup []=>some (Zas g tm,σ,g.map fun _=>{},none)
 | _=>none
theorem ZNI (j:Nat) (w:Bool) (g:List AOp) (s:Nat) (tm:Tms) (σ:Za):ZeF O byref j w g s tm σ=gWC O byref w g s tm σ (tget tm j):=by
 unfold ZeF Zbp
 simp only
 generalize tget tm j=v
 cases v
 case bool b=>cases b <;> cases w <;> rfl
 case tup vs=>cases vs <;> rfl
 all_goals rfl
theorem ZzS (w:Bool) (g:List AOp) (s:Nat) (tm:Tms) (σ:Za) (b:Bool):gWC O byref w g s tm σ (.bool b)=if b=w then ZX O byref (g.map unG) s tm σ else some (Zas g tm,σ,g.map fun _=>{},none):=rfl
theorem ZKD (w:Bool) (g:List AOp) (s:Nat) (tm:Tms) (σ:Za):gWC O byref w g s tm σ (.tup [])=some (Zas g tm,σ,g.map fun _=>{},none):=rfl
theorem ZCt (q:Prop) [Decidable q] (t1 t2:Tms) (σ1 σ2:Za) (cs:List Cls):(if q then some (t1,σ1,cs,(none:Option AVal)) else some (t2,σ2,cs,none))=some ((if q then t1 else t2),(if q then σ1 else σ2),cs,none):=by split <;> rfl
end
section
theorem ZlJ {r:AVal} {cs:List AVal} {σ:Za} (hr:ZI r=true) (hc:Zd cs=true):gcA 1 [r] (.var cs::σ)=([r],[.var cs]):=by
 have e1:=(Za5 (Zm (.var cs::σ) 1 [0]) r hr)
 have e2:=(ZaT (Zm (.var cs::σ) 1 [0]) cs hc)
 have h1:ZB 1 [r] (.var cs::σ)=[0]:=by
  have : Zr [r]=[]:=by simp only [Zr,e1.2,List.append_nil]
  simp only [ZB,this,List.range_one,List.flatMap_cons,List.flatMap_nil,List.append_nil,List.getD_cons_zero,ZM,e2.2]
  rfl
 simp only [gcA,h1,Zf,e1.1,Zv,List.getD_cons_zero,ZF,e2.1]
theorem ZY {r:AVal} {cs:List AVal} {σ:Za} (hr:ZI r=true) (hc:Zd cs=true):Zal 1 (.var cs::σ) r=some (r,[.var cs]):=by
 simp only [Zal,ZlJ hr hc]
theorem ZeX {σ:Za} {t:Nat} {cs:List AVal} (hs:σ[t]?=some (.var cs)) (hc:Zd cs=true):Zz σ 1000 [t] []=[t]:=by
 have hd:σ.getD t .free=.var cs:=by simp [List.getD_eq_getElem?_getD,hs]
 have e2:=(ZaT (fun _ _=>none) cs hc).2
 show Zz σ (999+1) [t] []=[t]
 simp only [Zz,List.contains_nil,Bool.false_eq_true,if_false,hd,ZM,e2,List.nil_append]
end
end Go.Proofs.YtmlkhhidifjjfaaDoor
namespace Go.Proofs.YtmlkhhidifjjfaaDoor
section
variable (c:Prop) [Decidable c]
theorem ZGK (t1 t2:Tms) (σ1 σ2:Za):(if c then some (ZaV.normal,t1,σ1) else some (ZaV.normal,t2,σ2))=some (ZaV.normal,(if c then t1 else t2),(if c then σ1 else σ2)):=by split <;> rfl
theorem ZJj (t1 t2:Tms) (σ1 σ2:Za):(if c then some (ZaV.ret,t1,σ1) else some (ZaV.ret,t2,σ2))=some (ZaV.ret,(if c then t1 else t2),(if c then σ1 else σ2)):=by split <;> rfl
theorem ZCp (t1 t2:Tms) (σ1 σ2:Za):(if c then some (t1,σ1,(none:Option AVal)) else some (t2,σ2,none))=some ((if c then t1 else t2),(if c then σ1 else σ2),none):=by split <;> rfl
theorem ZF6 (n:Nat) (a b:AVal):(if c then (n,a) else (n,b))=(n,if c then a else b):=by split <;> rfl
theorem Zy2 (a b:AVal) (σ1 σ2:Za):(if c then some (a,σ1) else some (b,σ2))=some ((if c then a else b),(if c then σ1 else σ2)):=by split <;> rfl
theorem ZJf (a b:AVal) (σ1 σ2:Za) (x y:Cls):(if c then some (a,σ1,x) else some (b,σ2,y))=some ((if c then a else b),(if c then σ1 else σ2),if c then x else y):=by split <;> rfl
end
theorem ZvZ {α:Type} (p:Bool) (x y z:α):(if p=true then x else (if p=false then y else z))=if p=true then x else y:=by cases p <;> rfl
theorem ZNR (ops:List AOp) (b:Nat) (cs:List Cls):Zdb ops b [] cs=true:=rfl
theorem ZOG (ops:List AOp) (b:Nat) (p:Nat×Nat) (l:List (Nat×Nat)) (cs:List Cls):Zdb ops b (p::l) cs=((p.1 == p.2 || Zcj (ops.getD p.1 default) (ops.getD p.2 default) (cs.getD p.1 {}) (cs.getD p.2 {}) (b+sitesOf (ops.take p.1))) && Zdb ops b l cs):=by
 simp only [Zdb,List.all_cons]
theorem ZM5 (oj oi:AOp) (cj ci:Cls) (sj:Nat):Zcj oj oi cj ci sj=(Zb6 oj cj || Zb6 oi ci || (ZdK cj && ZdK ci && (nsite oj.ins == 0 || !ci.rd.contains sj)) || ((Zab oj.ins || (Zae oj.ins && !cj.any)) && (ZdK ci && ci.rd.isEmpty)) || (Zaf oj.ins && Zab oi.ins && ci.any && Zag cj ci) || (Zaf oj.ins && (Zae oi.ins || (Zan oi.ins && Zao cj ci)) && Zag cj ci)):=rfl
theorem ZAM (o:AOp) (rd wr:List Nat) (any:Bool) (got:List (Nat×Option Nat×Nat×AVal)) (upd:List (Nat×List AVal)):Zb6 o ⟨rd,wr,any,got,upd⟩=(nsite o.ins == 0 && rd.isEmpty && wr.isEmpty && !any):=rfl
theorem ZHH (rd wr:List Nat) (any:Bool) (got:List (Nat×Option Nat×Nat×AVal)) (upd:List (Nat×List AVal)):ZdK ⟨rd,wr,any,got,upd⟩=(wr.isEmpty && !any):=rfl
theorem Z7 {α:Type} {l:List α} {i:Nat} {x:α} {r:List α} (h:l.drop i=x::r):l[i]?=some x∧l.drop (i+1)=r∧i < l.length:=by
 have h1:i < l.length:=by
  rcases Nat.lt_or_ge i l.length with h1 | h1
  ·exact h1
  ·rw [List.drop_eq_nil_of_le h1] at h;cases h
 rw [List.drop_eq_getElem_cons h1] at h
 injection h with h2 h3
 exact ⟨by rw [List.getElem?_eq_getElem h1,h2],h3,h1⟩
theorem Zc7 {α:Type} {l:List α} {i:Nat} (h:l.drop i=[]):¬(i:Int) < l.length:=by
 have:=List.drop_eq_nil_iff.1 h;omega
theorem iad {α:Type} {l:List α} {i:Nat} {x:α} (h:l[i]?=some x) (f:α→AVal) {k:Nat} (hk:(f x).cells.length=k) (σ:Za) (n:Bool) (kk:IntKind):ZdL σ k (.lst n (l.map f)) (.int kk (i:Int))=some (.iptr (f x).cells 0,σ,{}):=by
 have h0:(0:Int)≤(i:Int):=Int.natCast_nonneg i
 unfold ZdL
 simp only [h0,if_true,Int.toNat_natCast,List.getElem?_map,h,Option.map_some,hk]
theorem Zb2 {n:Int} (h0:-9223372036854775808≤n) (h:n≤9223372036854775807):IntKind.i64.wrap n=n:=by
 rw [IntKind.wrap_i64];omega
theorem Zic {α β:Type} {a:List α} {b:List β} (h:a.length=b.length):((a.length:Int) != (b.length:Int))=false:=by simp [h]
theorem ZiW {α β:Type} {a:List α} {b:List β} (h:a.length≠b.length):((a.length:Int) != (b.length:Int))=true:=by
 simp only [bne_iff_ne,ne_eq];omega
theorem Zi9 {α:Type} [BEq α] [LawfulBEq α] {a b:List α} (h:a.length≠b.length):(a == b)=false:=by
 simp only [beq_eq_false_iff_ne,ne_eq];rintro rfl;exact h rfl
theorem ZcW {i n:Nat} (h:(i:Int) < n) (hn:n≤9223372036854775807):IntKind.i64.wrap ((i:Int)+1)=((i+1:Nat):Int):=by
 rw [Zb2 (by omega) (by omega)];rfl
theorem Zb9 {O:ZQ} {byref:Nat→Bool} {f:Nat} {args:List AVal} {r:AVal} (h:O f args []=some (r,[])) (hb:byref f=false) (hp:args.all Z9=true) (hn:args.map ZG=args) (hv:ZbH 0 (some (r,[]))=some (r,[])) (hr:∀ site,Zk (Zax [] [] site) r=r) (σ:Za) (site own:Nat) (view:Bool):Zj O byref σ site f own view args=some (r,σ,{}):=by
 rw [Zgf hb hp,hn,h]
 have : Zah view 0 (some (r,[]))=some (r,[]):=by
  unfold Zah
  split
  ·exact hv
  ·rfl
 rw [this,Zi8 _ _ _ _ (hr site)]
theorem Zhn {α:Type} (σ:Za) (k:Nat) (l:List α) (f:α→AVal) (kk:IntKind) (n:Int) (h0:0≤n) (h:n≤(l.length:Int)):ZbP σ k (.lst false (l.map f)) none (some (.int kk n)) none=some (.lst false ((l.take n.toNat).map f),σ,{}):=by
 simp only [ZbP,Zbl,Zd5,List.length_map,h0,h,and_self,if_true,beq_self_eq_true,Bool.true_or,Option.isSome_none,Bool.false_eq_true,if_false,Bool.false_and,List.drop_zero,List.map_take]
abbrev Zb:=List UInt8
def ZH (b:Zb):AVal:=.lst false (b.map Zc)
structure Zu where
 id:Int
 num:Int
 text:Zb
 pair:Zb
 data:Zb
 deriving DecidableEq
def ZbB (p:Zu):List AVal:=[.int .i64 p.id,.int .i64 p.num,.str p.text,.str p.pair,ZH p.data]
def Zl (p:Zu):AVal:=.agg (ZbB p)
def Zaz (l:List Zu):AVal:=.lst false (l.map Zl)
theorem ZFr (l:Zb):bytesOf (l.map Zc)=some l:=by
 induction l with
 | nil=>rfl
 | cons b l ih =>
  simp only [List.map_cons,bytesOf,ih,Zc,Znp,Int.toNat_natCast,UInt8.ofNat_toNat]
end Go.Proofs.YtmlkhhidifjjfaaDoor
namespace Go.Proofs.YtmlkhhidifjjfaaDoor
def beB:Nat→Nat→Zb
 | _,0=>[]
 | n,w+1=>beB (n / 256) w++[UInt8.ofNat (n % 256)]
theorem Zbg:∀ (w n:Nat),(beB n w).length=w
 | 0,_=>rfl
 | w+1,n=>by simp [beB,Zbg w]
def Zi5 (x:Nat) (b:Zb):Nat:=b.foldl (fun x c=>(x*256+c.toNat) % 18446744073709551616) x
def ZcH (b:Zb):Nat:=Zi5 0 b
theorem Zc2 (x:Nat) (c:UInt8) (b:Zb):Zi5 x (c::b)=Zi5 ((x*256+c.toNat) % 18446744073709551616) b:=rfl
theorem ZeY (x:Nat):Zi5 x []=x:=rfl
def ZcI:Nat→Nat→Zb
 | 0,n=>[UInt8.ofNat n]
 | k+1,n=>if n < 128 then [UInt8.ofNat n] else UInt8.ofNat (n % 128+128)::ZcI k (n / 128)
def ZaG (n:Int):Zb×Int:=if n < 0∨n > 268435455 then ([],10) else (ZcI 3 n.toNat,0)
def gvA (i n:Nat):Zb→Nat×Nat×Int
 | []=>if i < 4 then (0,0,11) else (0,0,12)
 | c::r=>if i=4 then (0,0,12) else if c.toNat < 128 then (if c=0∧0 < i then (0,0,12) else (n+c.toNat % 128*128 ^ i,i+1,0)) else gvA (i+1) (n+c.toNat % 128*128 ^ i) r
def ZT (b:Zb):Nat×Nat×Int:=gvA 0 0 b
def ZbA (b:Zb):Zb×Int:=if b.length > 65535 then ([],10) else (beB b.length 2++b,0)
def Zar (b:Zb):Zb×Nat×Int :=
 if b.length < 2∨b.length - 2 < ZcH (b.take 2) then ([],0,11) else ((b.drop 2).take (ZcH (b.take 2)),2+ZcH (b.take 2),0)
end Go.Proofs.YtmlkhhidifjjfaaDoor
namespace Go.Proofs.YtmlkhhidifjjfaaDoor
def Zsa:=(And.intro (And.intro (And.intro (And.intro (And.intro (And.intro @ZFF @ZCT) (And.intro @Zxb @ZEe)) (And.intro (And.intro @ZN8 @ZAS) (And.intro @ZK9 @ZAm))) (And.intro (And.intro (And.intro @Zto @Znv) (And.intro @ZHW @Zmf)) (And.intro (And.intro @ZMd @ZNt) (And.intro @ZHj @Zwh)))) (And.intro (And.intro (And.intro (And.intro @ZBr @ZDg) (And.intro @Zww @Zxm)) (And.intro (And.intro @ZGt @ZNO) (And.intro @ZM7 @ZGO))) (And.intro (And.intro (And.intro @Zyd @ZL1) (And.intro @ZAn @Zzd)) (And.intro (And.intro @ZF2 @ZFr) (And.intro @ZGK @ZJj))))) (And.intro (And.intro (And.intro (And.intro (And.intro @ZCp @ZF6) (And.intro @Zy2 @ZJf)) (And.intro (And.intro @ZCL @ZFG) (And.intro @ZHz @Zzz))) (And.intro (And.intro (And.intro @Zym @Zwq) (And.intro @ZIm @ZBP)) (And.intro (And.intro @Zsm @Zou) (And.intro @ZHc @ZIF)))) (And.intro (And.intro (And.intro (And.intro @ZMT @Zyo) (And.intro @ZEr @ZxF)) (And.intro (And.intro @ZBZ @Zow) (And.intro @ZKx @ZH7))) (And.intro (And.intro (And.intro @ZwH @Zzf) (And.intro @ZFA @Zxs)) (And.intro (And.intro @ZDJ @ZMl) (And.intro @ZNI @ZzS))))))
def ZAr:=(And.intro (And.intro (And.intro (And.intro (And.intro (And.intro @ZKD @ZCt) (And.intro @ZD4 @ZLh)) (And.intro (And.intro @ZFk @Zx5) (And.intro @ZNR @ZOG))) (And.intro (And.intro (And.intro @ZM5 @ZAM) (And.intro @ZHH @ZuU)) (And.intro (And.intro @ZKW @ZOH) (And.intro @ZEx @ZBC)))) (And.intro (And.intro (And.intro (And.intro @ZJI @ZMH) (And.intro @ZEO @Zwo)) (And.intro (And.intro @ZuP @Zwy) (And.intro @ZEl @ZMy))) (And.intro (And.intro (And.intro @ZGW @ZNn) (And.intro @ZNy @ZFg)) (And.intro (And.intro @ZHK @ZJ9) (And.intro @ZMI @ZOa))))) (And.intro (And.intro (And.intro (And.intro (And.intro @ZHk @ZDT) (And.intro @ZGG @ZMw)) (And.intro (And.intro @Zyw @Zz9) (And.intro @ZGX @ZOm))) (And.intro (And.intro (And.intro @ZzL @Zxq) (And.intro @ZEi @ZCK)) (And.intro (And.intro @ZwX @ZFV) (And.intro @ZJn @ZNA)))) (And.intro (And.intro (And.intro (And.intro @ZKz @ZDX) (And.intro @ZHU @ZLH)) (And.intro (And.intro @ZE9 @ZvX) (And.intro @ZBj @ZIV))) (And.intro (And.intro (And.intro @Zx2 @ZBv) (And.intro @ZOf @ZNT)) (And.intro (And.intro @ZEQ @ZLX) (And.intro @ZzO @ZwY))))))
def Za3:=(And.intro (And.intro (And.intro (And.intro (And.intro (And.intro @Zzo @ZH4) (And.intro @ZGT @ZvN)) (And.intro (And.intro @ZJi @ZDt) (And.intro @ZDM @ZBV))) (And.intro (And.intro (And.intro @ZIb @ZId) (And.intro @ZLK @Zxx)) (And.intro (And.intro @ZOD @ZCP) (And.intro @ZyZ @ZJq)))) (And.intro (And.intro (And.intro (And.intro @Zwj @ZIw) (And.intro @ZK5 @ZER)) (And.intro (And.intro @ZBD @ZHu) (And.intro @ZFi @Zv6))) (And.intro (And.intro (And.intro @Zxw @Zwk) (And.intro @ZBn @ZEA)) (And.intro (And.intro @ZN3 @Zv0) (And.intro @ZJD @ZI6))))) (And.intro (And.intro (And.intro (And.intro (And.intro @Zyb @Zxd) (And.intro @ZI5 @ZFu)) (And.intro (And.intro @ZM9 @ZEj) (And.intro @ZEC @ZMZ))) (And.intro (And.intro (And.intro @ZKN @Zwv) (And.intro @ZNG @ZIo)) (And.intro (And.intro @ZAW @ZFj) (And.intro @ZKC @ZNW)))) (And.intro (And.intro (And.intro (And.intro @ZKg @ZJA) (And.intro @ZNK @ZG8)) (And.intro (And.intro @Zz4 @ZKj) (And.intro @Zyq @ZF7))) (And.intro (And.intro (And.intro @ZAD @ZIx) (And.intro @ZGw @Zv7)) (And.intro (And.intro @Zwb @ZLD) (And.intro @ZFC @ZFb))))))
def Zct:=(And.intro (And.intro (And.intro (And.intro (And.intro (And.intro @ZNw @ZNc) (And.intro @ZGc @ZOt)) (And.intro (And.intro @ZEI @Zz1) (And.intro @ZyL @ZN5))) (And.intro (And.intro (And.intro @ZLV @Zye) (And.intro @ZFH @ZtI)) (And.intro (And.intro @ZMx @Zvh) (And.intro @ZCu @ZE6)))) (And.intro (And.intro (And.intro (And.intro @ZMO @ZAo) (And.intro @ZuJ @ZFU)) (And.intro (And.intro @ZBK @Zwm) (And.intro @ZM8 @ZDv))) (And.intro (And.intro (And.intro @ZL3 @ZNS) (And.intro @ZF1 @ZJO)) (And.intro (And.intro @ZGk @ZD9) (And.intro @ZMC @ZEZ))))) (And.intro (And.intro (And.intro (And.intro (And.intro @ZJT @Zz6) (And.intro @ZLi @ZHn)) (And.intro (And.intro @ZJC @ZDk) (And.intro @Zsc @ZFD))) (And.intro (And.intro (And.intro @ZLN @ZBt) (And.intro @ZF9 @ZMF)) (And.intro (And.intro @ZKX @ZGf) (And.intro @ZE8 @ZtE)))) (And.intro (And.intro (And.intro (And.intro @ZLU @ZvH) (And.intro @Zx1 @ZF0)) (And.intro (And.intro @ZEy @Zx4) (And.intro @ZqL @ZBX))) (And.intro (And.intro (And.intro @ZDY @ZwN) (And.intro @ZBR @ZNU)) (And.intro (And.intro @ZCl @ZEq) (And.intro @Zzh @ZEu))))))
def ZC:=(And.intro (And.intro (And.intro (And.intro (And.intro (And.intro @ZHi @ZE0) (And.intro @ZLr @ZE5)) (And.intro (And.intro @ZNo @ZNs) (And.intro @ZLY @ZIe))) (And.intro (And.intro (And.intro @Zwd @ZMa) (And.intro @ZHL @Zu2)) (And.intro (And.intro @ZDA @ZKB) (And.intro @ZHD @ZC2)))) (And.intro (And.intro (And.intro (And.intro @ZBH @ZH2) (And.intro @ZyI @ZHE)) (And.intro (And.intro @Zwx @ZLa) (And.intro @ZBw @ZG9))) (And.intro (And.intro (And.intro @ZHq @ZJl) (And.intro @ZEW @ZKl)) (And.intro (And.intro @ZHv @Zzw) (And.intro @ZyO @ZHl))))) (And.intro (And.intro (And.intro (And.intro (And.intro @ZMW @ZJH) (And.intro @ZxU @ZG3)) (And.intro (And.intro @ZzH @ZD2) (And.intro @ZwE @ZFv))) (And.intro (And.intro (And.intro @ZIX @ZLP) (And.intro @ZAj @ZDe)) (And.intro (And.intro @ZwS @ZHr) (And.intro @ZKu @ZFq)))) (And.intro (And.intro (And.intro (And.intro @ZNi @ZNr) (And.intro @ZKL @ZJy)) (And.intro (And.intro @Zxe @ZDZ) (And.intro @ZOv @ZLg))) (And.intro (And.intro (And.intro @ZIO @ZI0) (And.intro @ZJp @ZOe)) (And.intro (And.intro @Zyx @ZAq) (And.intro @ZvW @Zyv))))))
def ZuQ:=(And.intro (And.intro (And.intro (And.intro (And.intro (And.intro @ZKr @ZAv) (And.intro @ZIh @Zyi)) (And.intro (And.intro @ZCJ @ZNx) (And.intro @ZDV @Zzs))) (And.intro (And.intro (And.intro @ZwK @Zxp) (And.intro @Zzq @ZMv)) (And.intro (And.intro @Zx6 @ZF5) (And.intro @ZwL @ZOw)))) (And.intro (And.intro (And.intro (And.intro @ZyH @ZBU) (And.intro @ZCQ @ZEV)) (And.intro (And.intro @ZDN @ZGx) (And.intro @ZD0 @Zw3))) (And.intro (And.intro (And.intro @ZHV @ZBE) (And.intro @Zzv @ZJZ)) (And.intro (And.intro @ZNH @ZMh) (And.intro @ZJF @ZNu))))) (And.intro (And.intro (And.intro (And.intro (And.intro @ZGJ @ZIp) (And.intro @ZLl @ZGB)) (And.intro (And.intro @ZAy @ZFa) (And.intro @ZyN @ZM2))) (And.intro (And.intro (And.intro @ZEk @ZI7) (And.intro @ZC0 @ZGp)) (And.intro (And.intro @ZLu @ZE7) (And.intro @Zzc @ZBS)))) (And.intro (And.intro (And.intro (And.intro @ZJ1 @ZAU) (And.intro @ZAg @ZxX)) (And.intro (And.intro @ZGm @Zwn) (And.intro @ZIi @Zwa))) (And.intro (And.intro (And.intro @ZHg @ZBu) (And.intro @ZyT @ZGi)) (And.intro (And.intro @ZwA @ZAp) (And.intro @Zy5 @ZFJ))))))
def Zs:=(And.intro (And.intro (And.intro (And.intro (And.intro (And.intro @ZH6 @Zzn) (And.intro @ZwC @ZOn)) (And.intro (And.intro @ZAu @ZA1) (And.intro @ZyK @ZNj))) (And.intro (And.intro (And.intro @ZNf @Zyr) (And.intro @ZAZ @ZLv)) (And.intro (And.intro @ZCc @ZMz) (And.intro @ZEU @ZB1)))) (And.intro (And.intro (And.intro (And.intro @ZKI @ZEB) (And.intro @ZGv @ZCU)) (And.intro (And.intro @ZLL @ZFK) (And.intro @ZvP @ZCD))) (And.intro (And.intro (And.intro @ZAR @ZGd) (And.intro @ZLI @ZFM)) (And.intro (And.intro @ZHh @ZFN) (And.intro @ZAE @ZNL))))) (And.intro (And.intro (And.intro (And.intro (And.intro @ZDQ @ZH0) (And.intro @ZCm @ZMA)) (And.intro (And.intro @Zw0 @ZFS) (And.intro @Zwz @ZHm))) (And.intro (And.intro (And.intro @ZNg @ZyD) (And.intro @ZEM @ZIr)) (And.intro (And.intro @ZB6 @ZCd) (And.intro @ZJe @ZIP)))) (And.intro (And.intro (And.intro (And.intro @ZIY @ZMu) (And.intro @ZJK @ZwD)) (And.intro (And.intro @ZEa @ZFY) (And.intro @ZyR @ZDP))) (And.intro (And.intro (And.intro @Zxo @ZDb) (And.intro @Zy1 @Zyn)) (And.intro (And.intro @Zwc @ZJh) (And.intro @ZAH @ZGP))))))
def Z2:=(And.intro (And.intro (And.intro (And.intro (And.intro @ZDC (And.intro @ZH1 @ZNk)) (And.intro (And.intro @ZJc @ZAh) (And.intro @ZN6 @ZMs))) (And.intro (And.intro @ZDc (And.intro @Zwe @ZIl)) (And.intro (And.intro @ZDR @ZJV) (And.intro @ZNp @ZKF)))) (And.intro (And.intro (And.intro @ZLB (And.intro @Zv9 @ZHo)) (And.intro (And.intro @ZEc @ZNV) (And.intro @ZFR @ZII))) (And.intro (And.intro (And.intro @Zzt @ZwT) (And.intro @ZEG @ZD6)) (And.intro (And.intro @ZxK @ZHf) (And.intro @ZMB @ZKK))))) (And.intro (And.intro (And.intro (And.intro @Zwu (And.intro @ZEP @ZxI)) (And.intro (And.intro @ZFx @ZCZ) (And.intro @ZL7 @ZJg))) (And.intro (And.intro (And.intro @ZGj @ZI8) (And.intro @Zw9 @ZJJ)) (And.intro (And.intro @ZOs @ZCq) (And.intro @ZBc @ZA0)))) (And.intro (And.intro (And.intro @ZE4 (And.intro @Zxf @ZCr)) (And.intro (And.intro @ZzV @Zx8) (And.intro @ZNz @ZNM))) (And.intro (And.intro (And.intro @ZJU @ZKR) (And.intro @ZB3 @ZxD)) (And.intro (And.intro @ZCg @ZY) (And.intro @ZLd @Zr8))))))
def Zbd:=(And.intro (And.intro (And.intro (And.intro (And.intro (And.intro @List.map_cons.{0,0} @List.map_nil.{0,0}) (And.intro @List.length_cons.{0} @List.length_nil.{0})) (And.intro (And.intro @List.replicate_zero.{0} @List.replicate_succ.{0}) (And.intro @List.append_nil.{0} @List.nil_append.{0}))) (And.intro (And.intro (And.intro @List.cons_append.{0} @List.getElem?_cons_zero.{0}) (And.intro @List.getElem?_cons_succ.{0} @List.set_cons_zero.{0})) (And.intro (And.intro @List.set_cons_succ.{0} @Nat.add_zero) (And.intro @Nat.zero_add @Bool.true_or)))) (And.intro (And.intro (And.intro (And.intro @Bool.false_or @Bool.or_true) (And.intro @Bool.or_false @Bool.and_true)) (And.intro (And.intro @Bool.true_and @Bool.and_self) (And.intro @Bool.and_false @Bool.false_and))) (And.intro (And.intro (And.intro @if_true.{1} @if_false.{1}) (And.intro @ite_true.{1} @ite_false.{1})) (And.intro (And.intro @Option.map_some.{0,0} @Option.map_none.{0,0}) (And.intro @and_self @and_true))))) (And.intro (And.intro (And.intro (And.intro (And.intro @true_and @and_false) (And.intro @false_and @true_or)) (And.intro (And.intro @or_true @false_or) (And.intro @or_false @not_true_eq_false))) (And.intro (And.intro (And.intro @not_false_eq_true @List.drop_zero.{0}) (And.intro @List.drop_succ_cons.{0} @List.take_succ_cons.{0})) (And.intro (And.intro @List.take_zero.{0} @List.all_cons.{0}) (And.intro @List.all_nil.{0} @List.isEmpty_nil.{0})))) (And.intro (And.intro (And.intro (And.intro @Bool.not_false @Bool.not_true) (And.intro @List.length_map.{0,0} @Bool.bne_false)) (And.intro (And.intro @Bool.bne_true @List.isEmpty_cons.{0}) (And.intro @List.getD_cons_zero.{0} @List.getD_cons_succ.{0}))) (And.intro (And.intro (And.intro @List.getD_nil.{0} @List.contains_nil.{0}) (And.intro @List.range_zero @List.flatMap_cons.{0,0})) (And.intro (And.intro @List.flatMap_nil.{0,0} @List.zip_cons_cons.{0,0}) (And.intro @List.zip_nil_left.{0,0} @List.zip_nil_right.{0,0}))))))
def ZbR:=@Nat.not_lt_zero
def EQA := (And.intro (And.intro (And.intro (And.intro (And.intro (And.intro Zsa (And.intro ZAr ZuQ)) (And.intro (And.intro Zbd @exI.eq_1) (And.intro @nsite.eq_1 @nsite.eq_2))) (And.intro (And.intro @nsite.eq_3 (And.intro @nsite.eq_4 @nsite.eq_5)) (And.intro (And.intro @nsite.eq_6 @nsite.eq_7) (And.intro @nsite.eq_8 @nsite.eq_9)))) (And.intro (And.intro (And.intro @nsite.eq_10 (And.intro @freeAt.eq_1 @execI.eq_1)) (And.intro (And.intro @execI.eq_2 @execI.eq_3) (And.intro @execI.eq_4 @execI.eq_5))) (And.intro (And.intro (And.intro @execI.eq_6 @execI.eq_7) (And.intro @execI.eq_8 @execI.eq_9)) (And.intro (And.intro @execI.eq_10 @execI.eq_11) (And.intro @execI.eq_12 @execI.eq_13))))) (And.intro (And.intro (And.intro (And.intro @execI.eq_14 (And.intro @execI.eq_15 @execI.eq_16)) (And.intro (And.intro @execI.eq_17 @execI.eq_18) (And.intro @execI.eq_19 @execI.eq_20))) (And.intro (And.intro @execI.eq_21 (And.intro @execI.eq_22 @execI.eq_23)) (And.intro (And.intro @execI.eq_24 @execI.eq_25) (And.intro @execI.eq_26 @execI.eq_27)))) (And.intro (And.intro (And.intro @execI.eq_28 (And.intro @execI.eq_29 @execI.eq_30)) (And.intro (And.intro @execI.eq_31 @execI.eq_32) (And.intro @execI.eq_33 @execI.eq_34))) (And.intro (And.intro (And.intro @execI.eq_35 @execI.eq_36) (And.intro @execI.eq_37 @execI.eq_38)) (And.intro (And.intro @execI.eq_39 @execI.eq_40) (And.intro @execI.eq_41 @execI.eq_42)))))) (And.intro (And.intro (And.intro (And.intro (And.intro @execI.eq_43 (And.intro @execI.eq_44 @Opd.ev.eq_1)) (And.intro (And.intro @Opd.ev.eq_2 @tget.eq_1) (And.intro @tget.eq_2 @tins.eq_1))) (And.intro (And.intro @tins.eq_2 (And.intro @tput.eq_1 @tput.eq_2)) (And.intro (And.intro @keepL.eq_1 @sitesOf.eq_1) (And.intro @resA.eq_1 @resAll.eq_1)))) (And.intro (And.intro (And.intro @resAll.eq_2 (And.intro @resOne.eq_1 @resOne.eq_2)) (And.intro (And.intro @enterA.eq_1 @enterA.eq_2) (And.intro @partA.eq_1 @partA.eq_2))) (And.intro (And.intro (And.intro @faddrA.eq_1 @faddrA.eq_2) (And.intro @faddrA.eq_3 @faddrA.eq_4)) (And.intro (And.intro @setAt.eq_1 @binA.eq_1) (And.intro @binA.eq_2 @binA.eq_3))))) (And.intro (And.intro (And.intro (And.intro @binA.eq_4 (And.intro @binA.eq_5 @arithA.eq_1)) (And.intro (And.intro @arithA.eq_2 @arithA.eq_3) (And.intro @arithA.eq_4 @arithA.eq_5))) (And.intro (And.intro (And.intro @arithA.eq_6 @arithA.eq_7) (And.intro @arithA.eq_8 @arithA.eq_9)) (And.intro (And.intro @arithA.eq_10 @arithA.eq_11) (And.intro @arithA.eq_12 @arithA.eq_13)))) (And.intro (And.intro (And.intro @arithA.eq_14 (And.intro @arithA.eq_15 @arithA.eq_16)) (And.intro (And.intro @ldA.eq_1 @ldA.eq_2) (And.intro @ldA.eq_3 @ldA.eq_4))) (And.intro (And.intro (And.intro @stA.eq_1 @stA.eq_2) (And.intro @stA.eq_3 @List.sum_cons.{0})) (And.intro (And.intro @List.sum_nil.{0} @eq_self.{1}) (And.intro @beq_self_eq_true.{0} @Bool.false_eq_true)))))))
end Go.Proofs.YtmlkhhidifjjfaaDoor
namespace Go.Proofs.YtmlkhhidifjjfaaDoor
theorem Zxr {O:ZQ} {byref:Nat→Bool} {σ:Za} {site f own:Nat} {view:Bool} {args:List AVal} (h:args.all Z9=true) (hm:args.map ZG=args) :
  Zj O byref σ site f own view args=ZaA σ σ [] [] site own (Zah view 0 (O f args [])):=by
 cases hb:byref f
 ·rw [Zgf hb h,hm]
 ·have hr:=Zc1 h
  have hn:=fun ρ=>ZcZ (ρ:=ρ) h
  rw [hm] at hr
  simp only [hm] at hn
  unfold Zj ZbM
  rw [hb]
  simp only [if_true]
  have h1:Zo σ []=σ:=rfl
  rw [h1,hr]
  have h2:Zz σ 1000 [] []=[]:=rfl
  rw [h2]
  unfold Zbz
  simp only [List.all_nil,if_true,hn,Zv,List.length_nil]
theorem Znj {O:ZQ} {byref:Nat→Bool} {f:Nat} {args:List AVal} {k n:Nat} {xs:List AVal} (h:O f args []=some (.sl 0 0 0 n,[.row 0 k xs])) (hn:xs.length=n) (hp:args.all Z9=true) (hm:args.map ZG=args) (σ:Za) (site own:Nat):Zj O byref σ site f own true args=some (.lst false xs,σ,{}):=by
 rw [Zxr hp hm,h]
 have : Zah true 0 (some (.sl 0 0 0 n,[.row 0 k xs]))=some (.lst false xs,[]):=by
  unfold Zah
  rw [if_pos rfl,ZzJ (k:=k) (g:=0) (t:=0) (xs:=xs) rfl (by omega),List.take_of_length_le (by omega)]
 rw [this,Zi8 _ _ _ _ rfl]
theorem ZF8 {O:ZQ} {byref:Nat→Bool} {σ:Za} {f:Nat} {args vs:List AVal} {ts:List Nat} {r r':AVal} (hb:byref f=false) (hsh:showAs σ args=some (vs,ts)) (hp:vs.all Z9=true) (hm:vs.map ZG=vs) (h:O f vs []=some (r,[])) (hv:ZbH 0 (some (r,[]))=some (r',[])) (site own:Nat) :
  Zj O byref σ site f own true args=if Zby r' then some (r',σ,{ rd:=ts }) else if ZcO σ ts r' then some (r',σ,{ rd:=ts }) else some (Zk (Zax [] [] site) r',Zo σ ts,{ rd:=ts,wr:=ts }):=by
 have hr:=Zc1 hp
 have hn:=fun ρ=>ZcZ (ρ:=ρ) hp
 rw [hm] at hr
 simp only [hm] at hn
 unfold Zj ZbM
 rw [hb]
 simp only [Bool.false_eq_true,if_false,hsh]
 rw [hr]
 have h2:∀ σ,Zz σ 1000 [] []=[]:=fun _=>rfl
 rw [h2]
 unfold Zbz
 simp only [List.all_nil,if_true,hn,Zv,List.length_nil,h]
 have : Zah true 0 (some (r,[]))=some (r',[]):=by unfold Zah;rw [if_pos rfl,hv]
 rw [this]
 simp only [ZaA,List.isEmpty_nil,Bool.and_self,if_true]
theorem ZKa {O:ZQ} {byref:Nat→Bool} {σ:Za} {f:Nat} {args vs:List AVal} {ts:List Nat} {r r':AVal} (hb:byref f=false) (hsh:showAs σ args=some (vs,ts)) (hp:vs.all Z9=true) (hm:vs.map ZG=vs) (h:O f vs []=some (r,[])) (hv:ZbH 0 (some (r,[]))=some (r',[])) (hap:ZcO σ ts r'=true) (site own:Nat) :
  Zj O byref σ site f own true args=some (r',σ,{ rd:=ts }):=by
 rw [ZF8 hb hsh hp hm h hv,if_pos hap]
 split <;> rfl
theorem Zbv {O:ZQ} {byref:Nat→Bool} {f:Nat} {args args':List AVal} {r r':AVal} (h:O f args' []=some (r,[])) (hb:byref f=false) (hp:args.all Z9=true) (hn:args.map ZG=args') (hv:ZbH 0 (some (r,[]))=some (r',[])) (hr:∀ site,Zk (Zax [] [] site) r'=r') (σ:Za) (site own:Nat):Zj O byref σ site f own true args=some (r',σ,{}):=by
 rw [Zgf hb hp,hn,h]
 have : Zah true 0 (some (r,[]))=some (r',[]):=by
  unfold Zah
  rw [if_pos rfl];exact hv
 rw [this,Zi8 _ _ _ _ (hr site)]
theorem ZBF (k n:Nat) (xs:List AVal) (σ:Za):Zal 0 (.row 0 k xs::σ) (.sl 0 0 0 n)=some (.sl 0 0 0 n,[.row 0 k xs]):=by
 simp [Zal,gcA,ZB,Zz,Zr,ZZ,Zm,Zv,Z0,Zp,ZR,Zf,Zk,ZF,ZM]
def ZeL:List AVal→AVal
 | []=>.lst true []
 | x::xs=>.sl 0 0 0 (x::xs).length
def Zex (k:Nat):List AVal→Za
 | []=>[]
 | x::xs=>[.row 0 k (x::xs)]
theorem Zga:ZeL []=.lst true []:=rfl
theorem ZgZ (x:AVal) (xs:List AVal):ZeL (x::xs)=.sl 0 0 0 (x::xs).length:=rfl
theorem ZfT (k:Nat):Zex k []=[]:=rfl
theorem ZhK (k:Nat) (x:AVal) (xs:List AVal):Zex k (x::xs)=[.row 0 k (x::xs)]:=rfl
theorem Ze4 (l:Zb):kOk 1 (l.map Zc)=true:=by cases l <;> rfl
end Go.Proofs.YtmlkhhidifjjfaaDoor
namespace Go.Proofs.YtmlkhhidifjjfaaDoor
set_option maxHeartbeats 4000000
set_option maxRecDepth 10000
theorem ZB7 (n:Nat):IntKind.u8.wrap (n:Int)=((UInt8.ofNat (n % 256)).toNat:Int):=by
 rw [IntKind.wrap_u8,UInt8.toNat_ofNat']
 omega
theorem ZzF (k n:Nat) (xs:List AVal) (σ:Za):Zal 0 (.row 0 k xs::σ) (.sl 0 0 0 n)=some (.sl 0 0 0 n,[.row 0 k xs]):=by
 simp [Zal,gcA,ZB,Zz,Zr,ZZ,Zm,Zv,Z0,Zp,ZR,Zf,Zk,ZF,ZM]
theorem Zyz (m:Nat) (z:AVal) (t:List AVal):(List.replicate (m+1) z++t)[m]?=some z:=by
 rw [List.getElem?_append_left (by simp)];simp
theorem ZzD (m:Nat) (z v:AVal) (t:List AVal):(List.replicate (m+1) z++t).set m v=List.replicate m z++v::t:=by
 rw [List.replicate_succ',List.append_assoc,List.set_append_right _ _ (by simp)];simp
theorem ZsT (W:Nat) (hW:W≤8):∀ (m n:Nat) (tail:Zb),m+tail.length=W→Zjp 0 [(6,.int .i64 ((m:Int) - 1)),(5,.sl 0 0 0 W),(0,.int .u64 (n:Nat))] [.row 0 1 (List.replicate m (.int .u8 0)++tail.map Zc)]=some (.sl 0 0 0 W,[.row 0 1 ((beB n m++tail).map Zc)])
 | 0,n,tail,h=>by
  have h1:¬(((0:Nat):Int) - 1≥0):=by omega
  unfold Zjp
  rw [Z8,beB]
  simp -implicitDefEqProofs only [EQA,Nat.reduceLT,Nat.reduceEqDiff,reduceCtorEq,decide_false,↓reduceIte,ZJB,ZEL,Zn3,Zu7,ZlE,oI,oN,h1,ZzF]
 | m+1,n,tail,h=>by
  have ih:=ZsT W hW m (n / 256) (UInt8.ofNat (n % 256)::tail) (by simp;omega)
  have e0:((m+1:Nat):Int) - 1=(m:Int):=by omega
  have h1:(m:Int)≥0:=by omega
  have h2:(0:Int)≤(m:Int):=by omega
  have h3:m < W:=by omega
  have hg:=Zyz m (.int .u8 0) (tail.map Zc)
  have hs:=ZzD m (.int .u8 0) (Zc (UInt8.ofNat (n % 256))) (tail.map Zc)
  have hb:=ZB7 n
  have hw:IntKind.i64.wrap ((m:Int) - 1)=(m:Int) - 1:=Zb2 (by omega) (by omega)
  have hd:(n:Int).fdiv (2 ^ min (Int.toNat 8) IntKind.u64.bits)=((n / 256:Nat):Int):=by
   rw [show (2:Int) ^ min (Int.toNat 8) IntKind.u64.bits=256 from rfl,Int.fdiv_eq_ediv_of_nonneg _ (by decide)]
   omega
  have e1:beB n (m+1)++tail=beB (n / 256) m++(UInt8.ofNat (n % 256)::tail):=by simp [beB]
  rw [e0,e1]
  have e2:List.replicate m (AVal.int .u8 0)++(UInt8.ofNat (n % 256)::tail).map Zc=List.replicate m (.int .u8 0)++Zc (UInt8.ofNat (n % 256))::tail.map Zc:=rfl
  rw [e2] at ih
  generalize hX:List.replicate (m+1) (AVal.int .u8 0)++tail.map Zc=X at *
  generalize hY:List.replicate m (AVal.int .u8 0)++Zc (UInt8.ofNat (n % 256))::tail.map Zc=Y at *
  unfold Zc at hs
  unfold Zjp at ih ⊢
  rw [Z8]
  simp -implicitDefEqProofs only [EQA,Z2,ZbR,Nat.reduceLT,Nat.reduceEqDiff,ZaC,ne_eq,reduceCtorEq,decide_true,↓reduceIte,gcT,gcA,ZB,Zz,Zm,Zv,Z0,Zp,ZR,ZF,ZM,Zu7,ZlE,oI,oN,h1,h3,hg,hs,hb,hw,hd,ZdL,Int.toNat_natCast,AVal.cells,ZaK,ZK,Zjm,Zo,Int.reduceLT]
  exact ih
theorem ZOi (n W:Nat) (h1:1≤W) (hW:W≤8):E 59 [.int .u64 (n:Nat),.int .i64 (W:Nat)] []=some (.sl 0 0 0 W,[.row 0 1 ((beB n W).map Zc)]):=by
 have key:=ZsT W hW W n [] (by simp)
 have c1:¬((W:Int) < 1):=by omega
 have c2:¬((W:Int) > 8):=by omega
 have c3:(0:Int)≤(W:Int):=by omega
 have c4:(W:Int)≤9223372036854775807:=by omega
 have c5:((1:Nat):Int)*(W:Int)≤140737488355328:=by omega
 have w1:IntKind.i64.wrap ((W:Int) - 1)=(W:Int) - 1:=Zb2 (by omega) (by omega)
 simp only [List.map_nil,List.append_nil] at key
 rw [Zh (by rfl) ZBl]
 unfold Zjp at key
 simp -implicitDefEqProofs only [EQA,ZC,Z2,ZbR,Nat.reduceLT,Nat.reduceEqDiff,Nat.reduceBEq,ZE,unG,ne_eq,Option.some.injEq,reduceCtorEq,decide_false,↓reduceIte,gcT,gcA,ZB,Zz,Zm,Zv,Z0,Zp,ZR,ZF,ZM,ZFP,Zmw,oI,c1,c2,c3,c4,c5,w1,Int.le_refl,Int.toNat_natCast]
 exact key
theorem ZlD (σ:Za) (site own:Nat) (n W:Nat) (h1:1≤W) (hW:W≤8):Zj E BY σ site 59 own true [.int .u64 (n:Nat),.int .i64 (W:Nat)]=some (.lst false ((beB n W).map Zc),σ,{}) :=
 Znj (byref:=BY) (ZOi n W h1 hW) (by simp [Zbg]) rfl rfl σ site own
theorem Zw2 (x c:Nat) (hc:c < 256):IntKind.u64.wrap (((BitVec.ofInt IntKind.u64.bits (IntKind.u64.wrap ((x:Int)*2 ^ min (Int.toNat 8) IntKind.u64.bits)) ||| BitVec.ofInt IntKind.u64.bits (c:Int)).toNat:Nat):Int)=(((x*256+c) % 18446744073709551616:Nat):Int):=by
 rw [show (2:Int) ^ min (Int.toNat 8) IntKind.u64.bits=256 from rfl]
 have hb:IntKind.u64.bits=64:=rfl
 rw [hb,IntKind.wrap_u64,IntKind.wrap_u64]
 have e1:(x:Int)*256 % 18446744073709551616=((x*256 % 18446744073709551616:Nat):Int):=by omega
 rw [e1,BitVec.toNat_or]
 simp only [BitVec.ofInt_natCast,BitVec.toNat_ofNat]
 have e2:x*256 % 18446744073709551616 % 2 ^ 64=(x % 72057594037927936) <<< 8:=by
  rw [Nat.shiftLeft_eq];omega
 have e3:c % 2 ^ 64=c:=by omega
 rw [e2,e3,←Nat.shiftLeft_add_eq_or_of_lt (by omega:c < 2 ^ 8),Nat.shiftLeft_eq]
 omega
theorem ZuB (b:Zb) (hl:b.length≤9223372036854775807):∀ (r:Zb) (i x:Nat),b.drop i=r→ZlG 0 [(8,.int .i64 i),(7,.int .i64 b.length),(6,.lst false (b.map Zc)),(3,.int .u64 (x:Nat))] []=some (.int .u64 (Zi5 x r:Nat),[])
 | [],i,x,h=>by
  have h1:=Zc7 h
  unfold ZlG
  rw [Z8,ZeY]
  simp -implicitDefEqProofs only [EQA,Nat.reduceLT,Nat.reduceEqDiff,decide_false,↓reduceIte,ZAz,ZFL,ZoX,ZuT,Zkw,oI,h1]
 | c::r,i,x,h=>by
  have ih:=ZuB b hl r (i+1) ((x*256+c.toNat) % 18446744073709551616) (Z7 h).2.1
  have h1:(i:Int) < b.length:=by have:=(Z7 h).2.2;omega
  have e1:=iad (Z7 h).1 Zc (k:=1) rfl
  have e3:=ZcW h1 hl
  have ho:=Zw2 x c.toNat c.toNat_lt
  have hc:IntKind.u64.wrap (c.toNat:Int)=(c.toNat:Int):=by rw [IntKind.wrap_u64];have:=c.toNat_lt;omega
  unfold ZlG at ih ⊢
  rw [Z8,Zc2]
  simp -implicitDefEqProofs only [EQA,Z2,Nat.reduceLT,Nat.reduceEqDiff,ZaC,decide_true,↓reduceIte,gcT,gcA,ZB,Zz,Zv,ZM,ZuT,Zkw,oI,h1,e1,e3,ho,hc,Zc,AVal.cells,Int.reduceLT]
  exact ih
theorem ZBJ (b:Zb) (hl:b.length≤9223372036854775807):E 108 [ZH b] []=some (.int .u64 (ZcH b:Nat),[]):=by
 have key:=ZuB b hl b 0 0 rfl
 have z0:((0:Nat):Int)=0:=rfl
 rw [z0] at key
 unfold ZlG at key
 unfold ZcH
 rw [Zh (by rfl) ZCy]
 simp -implicitDefEqProofs only [EQA,Z2,Nat.reduceLT,Nat.reduceEqDiff,reduceCtorEq,↓reduceIte,gcT,gcA,ZB,Zz,Zv,ZM,ZKk,Zl2,oI,ZH]
 exact key
theorem Zkm (σ:Za) (site own:Nat) (b:Zb) (hl:b.length≤9223372036854775807) (f:Bool):Zj E BY σ site 108 own true [.lst f (b.map Zc)]=some (.int .u64 (ZcH b:Nat),σ,{}) :=
 Zbv (ZBJ b hl) (by kernel_rfl) rfl rfl rfl (fun _=>rfl) _ _ _
end Go.Proofs.YtmlkhhidifjjfaaDoor
namespace Go.Proofs.YtmlkhhidifjjfaaDoor
set_option maxHeartbeats 8000000
set_option maxRecDepth 10000
theorem Zsv (ls:List Zb) (hl:ls.length≤9223372036854775807):∀ (r:List Zb) (i:Nat) (acc full:Zb),ls.drop i=r→full=acc++r.flatten→full.length≤140737488355328 →
  ZkB 0 [(8,.int .i64 i),(7,.int .i64 ls.length),(6,.lst false (ls.map ZH)),(3,.sl 0 0 0 acc.length)] [.row 0 1 (acc.map Zc)]=some (.sl 0 0 0 full.length,[.row 0 1 (full.map Zc)])
 | [],i,acc,full,h,hf,hn=>by
  have h1:=Zc7 h
  have e:full=acc:=by simpa using hf
  subst e
  unfold ZkB
  rw [Z8]
  simp -implicitDefEqProofs only [EQA,Nat.reduceLT,Nat.reduceEqDiff,decide_false,↓reduceIte,ZIv,ZH9,ZmB,ZnF,Ziw,oI,h1,ZBF]
 | p::r,i,acc,full,h,hf,hn=>by
  have ih:=Zsv ls hl r (i+1) (acc++p) full (Z7 h).2.1 (by rw [hf];simp) hn
  have h1:(i:Int) < ls.length:=by have:=(Z7 h).2.2;omega
  have e1:=iad (Z7 h).1 ZH (k:=1) rfl
  have e3:=ZcW h1 hl
  have k1:=Ze4 p
  have k2:(acc.length+p.length)*1≤140737488355328:=by have:=congrArg List.length hf;simp at this;omega
  have e4:(acc++p).map Zc=acc.map Zc++p.map Zc:=by simp
  have e5:(acc++p).length=acc.length+p.length:=by simp
  rw [e4,e5] at ih
  clear hf
  unfold ZkB at ih ⊢
  rw [Z8]
  unfold ZH at e1 ih ⊢
  simp -implicitDefEqProofs only [EQA,Z2,ZbR,Nat.reduceAdd,Nat.reduceLT,Nat.reduceEqDiff,Nat.reduceBEq,ne_eq,reduceCtorEq,decide_true,ZV,↓reduceIte,gcT,gcA,ZB,Zz,Zm,Zv,Z0,Zp,ZR,ZF,ZM,ZnF,Ziw,oI,h1,e1,e3,k1,k2,ZaJ,AVal.cells]
  exact ih
theorem ZKn (p:Zb) (ls:List Zb) (hl:(p::ls).length≤9223372036854775807) (hn:(p::ls).flatten.length≤140737488355328):E 56 [.lst false ((p::ls).map ZH)] []=some (.sl 0 0 0 (p::ls).flatten.length,[.row 0 1 ((p::ls).flatten.map Zc)]):=by
 have key:=Zsv (p::ls) hl ls 1 p (p::ls).flatten rfl rfl hn
 have k1:=Ze4 p
 have k2:p.length*1≤140737488355328:=by simp at hn;omega
 have h1:(0:Int) < ((p::ls).length:Int):=by simp
 have hat:(p::ls)[0]?=some p:=rfl
 have e1:=iad hat ZH (k:=1) rfl
 have z0:((0:Nat):Int)=0:=rfl
 have z1:((1:Nat):Int)=1:=rfl
 have w1:IntKind.i64.wrap (0+1)=1:=rfl
 rw [z0] at e1
 rw [z1] at key
 unfold ZkB at key
 generalize hL:p::ls=L at *
 rw [Zh (by rfl) ZNv]
 unfold ZH at e1 key ⊢
 simp -implicitDefEqProofs only [EQA,Z2,Nat.reduceLT,Nat.reduceEqDiff,reduceCtorEq,↓reduceIte,gcT,gcA,ZB,Zz,Zv,ZM,ZHO,ZpN,oI]
 rw [Z8]
 simp -implicitDefEqProofs only [EQA,Z2,ZbR,Nat.reduceLT,Nat.reduceEqDiff,Nat.reduceBEq,ne_eq,decide_true,ZV,↓reduceIte,gcT,gcA,ZB,Zz,Zm,Zv,Z0,Zp,ZR,ZF,ZM,ZnF,Ziw,oI,h1,e1,w1,k1,k2,ZaJ,AVal.cells]
 exact key
theorem ZhI (σ:Za) (site own:Nat) (f:Bool) (p:Zb) (ls:List Zb) (hl:(p::ls).length≤9223372036854775807) (hn:(p::ls).flatten.length≤140737488355328):Zj E BY σ site 56 own true [.lst f ((p::ls).map ZH)]=some (.lst false ((p::ls).flatten.map Zc),σ,{}):=by
 have h:=Znj (byref:=BY) (ZKn p ls hl hn) (by rw [List.length_map]) rfl rfl σ site own
 cases f
 ·exact h
 ·rw [Zgf (by kernel_rfl) rfl] at h ⊢
  exact h
theorem ZJ0:∀ n:Fin 256,IntKind.u8.wrap (((BitVec.ofInt IntKind.u8.bits ((n.val:Nat):Int) ||| BitVec.ofInt IntKind.u8.bits 128).toNat:Nat):Int)=((n.val % 128+128:Nat):Int):=by decide +kernel
theorem ZE3 (n:Nat):IntKind.u8.wrap (((BitVec.ofInt IntKind.u8.bits (IntKind.u8.wrap (n:Int)) ||| BitVec.ofInt IntKind.u8.bits 128).toNat:Nat):Int)=((UInt8.ofNat (n % 128+128)).toNat:Int):=by
 have h:=ZJ0 ⟨n % 256,Nat.mod_lt _ (by decide)⟩
 have e:IntKind.u8.wrap (n:Int)=((n % 256:Nat):Int):=by rw [IntKind.wrap_u8];omega
 rw [e,h,UInt8.toNat_ofNat']
 simp only
 omega
theorem Zvz:∀ (k n:Nat) (acc full:Zb),n < 128 ^ (k+1)→acc.length+k≤3→full=acc++ZcI k n →
  Zks 0 [(4,ZeL (acc.map Zc)),(0,.int .i64 (n:Nat))] (Zex 1 (acc.map Zc))=some (.tup [.sl 0 0 0 full.length,.int .i64 0],[.row 0 1 (full.map Zc)])
 | k,n,acc,full,hk,hacc,hf=>by
  by_cases hn:n < 128
  ·have h1:¬((n:Int) > 127):=by omega
   have hv:ZcI k n=[UInt8.ofNat n]:=by cases k <;> simp [ZcI,hn]
   rw [hv] at hf
   have hb:IntKind.u8.wrap (n:Int)=((UInt8.ofNat n).toNat:Int):=by rw [IntKind.wrap_u8,UInt8.toNat_ofNat'];omega
   subst hf
   unfold Zks
   rw [Z8]
   cases acc with
   | nil =>
    simp -implicitDefEqProofs only [EQA,Nat.reduceLT,Nat.reduceLeDiff,Nat.reduceEqDiff,Nat.reduceBEq,reduceCtorEq,decide_true,decide_false,ZV,↓reduceIte,ZjJ,Zua,ZkX,ZkI,Zha,oI,h1,hb,Zga,ZfT,ZaJ,kOk,viewAs,ZN,ZK,Zo,List.foldl_cons,List.foldl_nil,Nat.one_mul,AVal.cells]
    simp [Zal,gcA,ZB,Zz,Zr,ZZ,Zm,Zv,Z0,Zp,ZR,Zf,Zk,ZF,ZM]
    rfl
   | cons a acc =>
    have hz:(acc.length+1+1)*1≤140737488355328:=by simp at hacc;omega
    simp -implicitDefEqProofs only [EQA,Nat.reduceAdd,Nat.reduceLT,Nat.reduceEqDiff,Nat.reduceBEq,reduceCtorEq,decide_true,decide_false,ZV,↓reduceIte,ZjJ,Zua,ZkX,ZkI,Zha,oI,h1,hb,ZgZ,ZhK,ZaJ,kOk,viewAs,ZN,ZK,Zo,List.foldl_cons,List.foldl_nil,AVal.cells,hz]
    simp [Zal,gcA,ZB,Zz,Zr,ZZ,Zm,Zv,Z0,Zp,ZR,Zf,Zk,ZF,ZM]
    rfl
  ·cases k with
   | zero=>simp at hk;omega
   | succ k =>
    have hlt:n / 128 < 128 ^ (k+1):=by
     rw [Nat.div_lt_iff_lt_mul (by decide)]
     rw [Nat.pow_succ] at hk;exact hk
    have hv:ZcI (k+1) n=UInt8.ofNat (n % 128+128)::ZcI k (n / 128):=by simp [ZcI,hn]
    have ih:=Zvz k (n / 128) (acc++[UInt8.ofNat (n % 128+128)]) full hlt (by simp;omega) (by rw [hf,hv];simp)
    clear hf
    have h1:((n:Int) > 127):=by omega
    have ho:=ZE3 n
    have hd:(n:Int).fdiv (2 ^ min (Int.toNat 7) IntKind.i64.bits)=((n / 128:Nat):Int):=by
     rw [show (2:Int) ^ min (Int.toNat 7) IntKind.i64.bits=128 from rfl,Int.fdiv_eq_ediv_of_nonneg _ (by decide)]
     omega
    unfold Zks at ih ⊢
    rw [Z8]
    cases acc with
    | nil =>
     simp -implicitDefEqProofs only [EQA,Z2,ZbR,Nat.reduceLT,Nat.reduceLeDiff,Nat.reduceEqDiff,Nat.reduceBEq,ZaC,ne_eq,reduceCtorEq,decide_true,ZV,↓reduceIte,gcT,gcA,ZB,Zz,Zm,Zv,Z0,Zp,ZR,ZF,ZM,ZkI,Zha,oI,h1,ho,hd,Zga,ZfT,ZaJ,kOk,viewAs,ZN,ZK,Zo,List.foldl_cons,List.foldl_nil,Nat.one_mul,AVal.cells,Int.reduceLT]
     simp only [List.map_cons,List.map_nil,List.nil_append,ZgZ,ZhK,List.length_cons,List.length_nil,Nat.zero_add,Zc] at ih
     exact ih
    | cons a acc =>
     have hz:(acc.length+1+1)*1≤140737488355328:=by simp at hacc;omega
     simp -implicitDefEqProofs only [EQA,Z2,ZbR,Nat.reduceAdd,Nat.reduceLT,Nat.reduceEqDiff,Nat.reduceBEq,ZaC,ne_eq,reduceCtorEq,decide_true,ZV,↓reduceIte,gcT,gcA,ZB,Zz,Zm,Zv,Z0,Zp,ZR,ZF,ZM,ZkI,Zha,oI,h1,ho,hd,ZgZ,ZhK,ZaJ,kOk,viewAs,ZN,ZK,Zo,List.foldl_cons,List.foldl_nil,AVal.cells,hz,Int.reduceLT]
     simp only [List.map_append,List.map_cons,List.map_nil,List.cons_append,ZgZ,ZhK,List.length_append,List.length_cons,List.length_map,List.length_nil,Nat.zero_add,Nat.add_assoc,Nat.reduceAdd,Zc] at ih
     exact ih
theorem ZMD (n:Int):E 82 [.int .i64 n] []=some (if n < 0∨n > 268435455 then (.tup [.lst true [],.int .i64 10],[]) else (.tup [.sl 0 0 0 (ZcI 3 n.toNat).length,.int .i64 0],[.row 0 1 ((ZcI 3 n.toNat).map Zc)])):=by
 rw [Zh (by rfl) ZvU]
 by_cases h0:n < 0
 ·have : n < 0∨n > 268435455:=Or.inl h0
  simp -implicitDefEqProofs only [EQA,Zs,Nat.reduceLT,Nat.reduceEqDiff,ZE,Zas,ne_eq,Option.some.injEq,reduceCtorEq,decide_true,decide_false,↓reduceIte,Zd,Zl6,Zir,ZjJ,oI,h0]
 ·by_cases h2:n > 268435455
  ·have : n < 0∨n > 268435455:=Or.inr h2
   simp -implicitDefEqProofs only [EQA,Zs,Nat.reduceLT,Nat.reduceEqDiff,ZE,unG,ne_eq,Option.some.injEq,reduceCtorEq,decide_true,decide_false,↓reduceIte,Zd,Zl6,Zir,ZjJ,oI,h0,h2]
  ·have : ¬(n < 0∨n > 268435455):=by omega
   have key:=Zvz 3 n.toNat [] (ZcI 3 n.toNat) (by omega) (by simp) rfl
   have e:((n.toNat:Nat):Int)=n:=by omega
   rw [e] at key
   simp only [List.map_nil,Zga,ZfT] at key
   unfold Zks at key
   generalize ZcI 3 n.toNat=V at *
   simp -implicitDefEqProofs only [EQA,Z2,Nat.reduceLT,Nat.reduceEqDiff,ZE,unG,ne_eq,Option.some.injEq,reduceCtorEq,decide_false,↓reduceIte,gcT,gcA,ZB,Zz,Zv,ZM,Zl6,Zir,oI,h0,h2]
   exact key
def ZeD (n:Int):AVal:=.tup [.lst false ((ZaG n).1.map Zc),.int .i64 (ZaG n).2]
theorem ZBk {O:ZQ} {byref:Nat→Bool} {f:Nat} {args args':List AVal} {k n:Nat} {xs:List AVal} {c:Int} (h:O f args' []=some (.tup [.sl 0 0 0 n,.int .i64 c],[.row 0 k xs])) (hl:xs.length=n) (hb:byref f=false) (hp:args.all Z9=true) (hn:args.map ZG=args') (σ:Za) (site own:Nat):Zj O byref σ site f own true args=some (.tup [.lst false xs,.int .i64 c],σ,{}):=by
 subst hl
 rw [Zgf hb hp,hn,h]
 simp [Zah,ZbH,viewR,viewAs,ZN,ZK,ZV,Zo,gcA,ZB,Zz,Zr,ZZ,Zf,Zk,Zv,ZaA,Zby,Zbr,ZaY]
theorem ZfG (σ:Za) (site own:Nat) (n:Int):Zj E BY σ site 82 own true [.int .i64 n]=some (ZeD n,σ,{}):=by
 have h:=ZMD n
 unfold ZeD ZaG
 by_cases hc:n < 0∨n > 268435455
 ·rw [if_pos hc] at h ⊢
  exact Zbv h (by kernel_rfl) rfl rfl rfl (fun _=>rfl) _ _ _
 ·rw [if_neg hc] at h ⊢
  exact ZBk h (by rw [List.length_map]) (by kernel_rfl) rfl rfl _ _ _
end Go.Proofs.YtmlkhhidifjjfaaDoor
namespace Go.Proofs.YtmlkhhidifjjfaaDoor
set_option maxHeartbeats 8000000
set_option maxRecDepth 10000
def gvT (x:Nat×Nat×Int):AVal:=.tup [.int .i64 (x.1:Nat),.int .i64 (x.2.1:Nat),.int .i64 x.2.2]
theorem ZLM:∀ n:Fin 256,IntKind.u8.wrap (((BitVec.ofInt IntKind.u8.bits ((n.val:Nat):Int) &&& BitVec.ofInt IntKind.u8.bits 127).toNat:Nat):Int)=((n.val % 128:Nat):Int):=by decide +kernel
theorem ZCw (c:UInt8):IntKind.u8.wrap (((BitVec.ofInt IntKind.u8.bits (c.toNat:Int) &&& BitVec.ofInt IntKind.u8.bits 127).toNat:Nat):Int)=((c.toNat % 128:Nat):Int):=ZLM ⟨c.toNat,c.toNat_lt⟩
theorem ZoG (i:Nat):128 ^ i=2 ^ (7*i):=by rw [Nat.pow_mul]
theorem ZEv (n a i:Nat) (hi:i≤3) (hn:n < 128 ^ i) (ha:a < 128):IntKind.i64.wrap (((BitVec.ofInt IntKind.i64.bits (n:Int) ||| BitVec.ofInt IntKind.i64.bits ((a*128 ^ i:Nat):Int)).toNat:Nat):Int)=((n+a*128 ^ i:Nat):Int):=by
 have hb:IntKind.i64.bits=64:=rfl
 have hp:128 ^ i≤128 ^ 3:=Nat.pow_le_pow_right (by decide) hi
 have hm:a*128 ^ i≤127*128 ^ 3:=Nat.mul_le_mul (by omega) hp
 rw [hb,BitVec.toNat_or]
 simp only [BitVec.ofInt_natCast,BitVec.toNat_ofNat]
 have e1:n % 2 ^ 64=n:=Nat.mod_eq_of_lt (by omega)
 have e2:a*128 ^ i % 2 ^ 64=a*128 ^ i:=Nat.mod_eq_of_lt (by omega)
 rw [e1,e2]
 have e3:a*128 ^ i=a <<< (7*i):=by rw [Nat.shiftLeft_eq,ZoG]
 have e4:n ||| a*128 ^ i=n+a*128 ^ i:=by
  rw [e3,Nat.or_comm,←Nat.shiftLeft_add_eq_or_of_lt (by rw [←ZoG];exact hn)]
  omega
 rw [e4,Zb2 (by omega) (by omega)]
theorem ZIs (a i:Nat) (hi:i≤3) (ha:a < 128):IntKind.i64.wrap ((a:Int)*2 ^ min (Int.toNat ((7*i:Nat):Int)) IntKind.i64.bits)=((a*128 ^ i:Nat):Int):=by
 have hp:128 ^ i≤128 ^ 3:=Nat.pow_le_pow_right (by decide) hi
 have hm:a*128 ^ i≤127*128 ^ 3:=Nat.mul_le_mul (by omega) hp
 have e:min (Int.toNat ((7*i:Nat):Int)) IntKind.i64.bits=7*i:=by
  have hb:IntKind.i64.bits=64:=rfl
  rw [hb];omega
 have e2:((a:Int)*2 ^ (7*i))=((a*128 ^ i:Nat):Int):=by rw [ZoG];simp
 rw [e,e2,Zb2 (by omega) (by omega)]
theorem ZqR (n i a:Nat) (hn:n < 128 ^ i) (ha:a < 128):n+a*128 ^ i < 128 ^ (i+1):=by
 have : a*128 ^ i≤127*128 ^ i:=Nat.mul_le_mul_right _ (by omega)
 rw [Nat.pow_succ];omega
theorem ZrN (b:Zb) (hl:b.length≤9223372036854775807):∀ (r:Zb) (i n:Nat),i≤4→i≤b.length→n < 128 ^ i→b.drop i=r →
  Zhl 0 [(9,.int .i64 i),(8,.int .i64 b.length),(7,.lst false (b.map Zc)),(2,.int .i64 n),(0,.lst false (b.map Zc))] []=some (gvT (gvA i n r),[])
 | [],i,n,hi,hib,hn,h=>by
  have h1:=Zc7 h
  unfold Zhl
  rw [Z8,gvA]
  by_cases h4:i < 4
  ·have h5:(b.length:Int) < 4:=by omega
   simp -implicitDefEqProofs only [EQA,Zs,Nat.reduceLT,Nat.reduceEqDiff,Option.some.injEq,reduceCtorEq,decide_true,decide_false,↓reduceIte,Zd,Zhv,ZnU,Zh4,ZgB,Ze0,oI,h1,h4,h5,gvT]
   rfl
  ·have h5:¬(b.length:Int) < 4:=by omega
   simp -implicitDefEqProofs only [EQA,Zs,Nat.reduceLT,Nat.reduceEqDiff,Option.some.injEq,reduceCtorEq,decide_false,↓reduceIte,Zd,Zhv,ZnU,Zh4,ZgB,Ze0,oI,h1,h4,h5,gvT]
   rfl
 | c::r,i,n,hi,hib,hn,h=>by
  have hlt:=(Z7 h).2.2
  have h1:(i:Int) < b.length:=by omega
  have e1:=iad (Z7 h).1 Zc (k:=1) rfl
  have e3:=ZcW h1 hl
  rw [gvA]
  by_cases h4:i=4
  ·have h5:¬(b.length:Int) < 4:=by omega
   have h6:((i:Int) == 4)=true:=by simp;omega
   rw [if_pos h4]
   unfold Zhl
   rw [Z8]
   simp -implicitDefEqProofs only [EQA,Zs,Nat.reduceLT,Nat.reduceEqDiff,Option.some.injEq,reduceCtorEq,decide_true,decide_false,↓reduceIte,Zd,Zhv,ZnU,Zh4,ZgB,Ze0,oI,h1,e1,h5,h6,gvT,Zc,AVal.cells]
   rfl
  ·have h6:((i:Int) == 4)=false:=by simp;omega
   have hm:=ZCw c
   have ha:c.toNat % 128 < 128:=Nat.mod_lt _ (by decide)
   have hi64:IntKind.i64.wrap ((c.toNat % 128:Nat):Int)=((c.toNat % 128:Nat):Int):=Zb2 (by omega) (by omega)
   have h7:IntKind.i64.wrap (7*(i:Int))=((7*i:Nat):Int):=by rw [Zb2 (by omega) (by omega)];omega
   have hneg:¬((7*i:Nat):Int) < 0:=by omega
   have hs:=ZIs (c.toNat % 128) i (by omega) ha
   have ho:=ZEv n (c.toNat % 128) i (by omega) hn ha
   by_cases hc:c.toNat < 128
   ·have hc':(c.toNat:Int) < 128:=by omega
    unfold Zhl
    rw [Z8]
    by_cases hc0:c=0
    ·have hc1:((c.toNat:Int) == 0)=true:=by rw [hc0];rfl
     by_cases hip:0 < i
     ·have hip':(i:Int) > 0:=by omega
      have hcc:c=0∧0 < i:=⟨hc0,hip⟩
      simp -implicitDefEqProofs only [EQA,Zs,Z2,Zc9,Zj9,Nat.reduceLT,Nat.reduceEqDiff,ZaC,ZE,Zas,unG,ne_eq,Option.some.injEq,reduceCtorEq,decide_true,decide_false,decide_eq_true_eq,ite_self,↓reduceIte,Zd,gcT,gcA,ZB,Zz,Zv,ZM,Zhv,ZgB,Ze0,oI,h1,e1,h4,h6,h7,hneg,hip',hcc,gvT,Zc,AVal.cells]
      rfl
     ·have hip':¬(i:Int) > 0:=by omega
      have hcc:¬(c=0∧0 < i):=fun h=>hip h.2
      simp -implicitDefEqProofs only [EQA,Zs,Nat.reduceLT,Nat.reduceEqDiff,ZaC,ZE,unG,ne_eq,Option.some.injEq,reduceCtorEq,decide_true,decide_false,↓reduceIte,Zd,Zhv,ZgB,Ze0,oI,h1,e1,h4,h6,hm,hi64,h7,hneg,hs,ho,hc,hc',hc1,hip',hcc,e3,gvT,Zc,AVal.cells]
    ·have hc1:((c.toNat:Int) == 0)=false:=by
      have : c.toNat≠0:=fun h=>hc0 (UInt8.toNat_inj.1 (by simpa using h))
      simp;omega
     have hcc:¬(c=0∧0 < i):=fun h=>hc0 h.1
     simp -implicitDefEqProofs only [EQA,Zs,Nat.reduceLT,Nat.reduceEqDiff,ZaC,ZE,Zas,ne_eq,Option.some.injEq,reduceCtorEq,decide_true,decide_false,↓reduceIte,Zd,Zhv,ZgB,Ze0,oI,h1,e1,h4,h6,hm,hi64,h7,hneg,hs,ho,hc,hc',hc1,hcc,e3,gvT,Zc,AVal.cells]
   ·have hc':¬(c.toNat:Int) < 128:=by omega
    have ih:=ZrN b hl r (i+1) (n+c.toNat % 128*128 ^ i) (by omega) (by omega) (ZqR n i _ hn ha) (Z7 h).2.1
    unfold Zhl at ih ⊢
    rw [Z8]
    simp -implicitDefEqProofs only [EQA,Z2,Nat.reduceLT,Nat.reduceEqDiff,ZaC,reduceCtorEq,decide_true,decide_false,↓reduceIte,gcT,gcA,ZB,Zz,Zv,ZM,ZgB,Ze0,oI,h1,e1,h4,h6,hm,hi64,h7,hneg,hs,ho,hc,hc',e3,Zc,AVal.cells]
    exact ih
theorem ZAC (b:Zb) (hl:b.length≤9223372036854775807):E 135 [ZH b] []=some (gvT (ZT b),[]):=by
 have key:=ZrN b hl b 0 0 (by omega) (by omega) (by simp) rfl
 have z0:((0:Nat):Int)=0:=rfl
 rw [z0] at key
 unfold Zhl at key
 unfold ZT
 rw [Zh (by rfl) ZLf]
 simp -implicitDefEqProofs only [EQA,Z2,Nat.reduceLT,Nat.reduceEqDiff,reduceCtorEq,↓reduceIte,gcT,gcA,ZB,Zz,Zv,ZM,ZDo,Zp1,oI,ZH]
 exact key
theorem ZpJ (σ:Za) (site own:Nat) (f:Bool) (b:Zb) (hl:b.length≤9223372036854775807):Zj E BY σ site 135 own true [.lst f (b.map Zc)]=some (gvT (ZT b),σ,{}) :=
 Zbv (ZAC b hl) (by kernel_rfl) rfl rfl rfl (fun _=>rfl) _ _ _
end Go.Proofs.YtmlkhhidifjjfaaDoor
namespace Go.Proofs.YtmlkhhidifjjfaaDoor
set_option maxHeartbeats 4000000
set_option maxRecDepth 10000
theorem Zq9 (l:List UInt8) (p:Nat):Zff l p=Lib.decodeL (l.drop p):=by
 have:=Lib.decodeL_drop ⟨l.toArray⟩ p
 simpa [Zff] using this.symm
def zfG:Nat→List UInt8→Bool
 | 0,_=>true
 | n+1,l=>if l=[] then true else if (Lib.decodeL l).1=0 then false else zfG n (l.drop (Lib.decodeL l).2)
def ZgO (l:List UInt8):Bool:=zfG l.length l && Lib.validD l
theorem ZOc (l:List UInt8):E 142 [.str l] []=some (.bool (Lib.validD l),[]):=Zdy.2 ⟨1,rfl⟩
theorem ZIc (σ:Za) (site own:Nat) (view:Bool) (l:List UInt8):Zj E BY σ site 142 own view [.str l]=some (.bool (Lib.validD l),σ,{}) :=
 Zb9 (ZOc l) (by kernel_rfl) (by simp -implicitDefEqProofs only [Zct,Zbd,eq_self]) (by simp -implicitDefEqProofs only [ZC,Zbd,eq_self]) rfl (fun _=>rfl) _ _ _ _
theorem ZuR (s:List UInt8):∀ (n p:Nat),s.length - p≤n→p≤s.length→Zjy 0 [(6,.ref 0 0),(0,.str s)] [.siter s p]=some (.bool (zfG n (s.drop p) && Lib.validD s),[])
 | n,p,hn,hp=>by
  by_cases h:p < s.length
  ·obtain ⟨n,rfl⟩:∃ m,n=m+1:=⟨n - 1,by omega⟩
   have hw:=Lib.decodeL_width (s.drop p)
   have hne:s.drop p≠[]:=by rw [ne_eq,List.drop_eq_nil_iff];omega
   have hle:=Lib.decodeL_le (s.drop p) hne
   rw [List.length_drop] at hle
   have ih:=ZuR s n (p+(Lib.decodeL (s.drop p)).2) (by omega) (by omega)
   rw [←List.drop_drop] at ih
   unfold Zjy at ih ⊢
   rw [Z8]
   by_cases hz:(Lib.decodeL (s.drop p)).1=0
   ·have hz':((Lib.decodeL (s.drop p)).1:Int)=0:=by omega
    simp -implicitDefEqProofs only [EQA,Nat.reduceLT,Nat.reduceEqDiff,Option.some.injEq,reduceCtorEq,↓reduceIte,Zu4,ZnC,Zio,oI,h,Zq9,hz']
    rw [zfG,if_neg hne,if_pos hz];rfl
   ·have hz':(((Lib.decodeL (s.drop p)).1:Int) == 0)=false:=by rw [beq_eq_false_iff_ne];omega
    simp -implicitDefEqProofs only [EQA,Z2,ZbR,Nat.reduceLT,Nat.reduceEqDiff,ne_eq,reduceCtorEq,↓reduceIte,gcT,gcA,ZB,Zz,Zm,Zv,Z0,Zp,ZR,ZF,ZM,ZnC,Zio,oI,h,Zq9,hz']
    rw [ih,zfG,if_neg hne,if_neg hz]
  ·have he:s.drop p=[]:=by rw [List.drop_eq_nil_iff];omega
   unfold Zjy
   rw [Z8]
   simp -implicitDefEqProofs only [EQA,Nat.reduceLT,Nat.reduceEqDiff,Option.some.injEq,reduceCtorEq,↓reduceIte,Zu4,ZEN,ZnR,ZnC,Zio,oI,h,ZIc]
   rw [he]
   cases n <;> simp [zfG]
theorem ZJY (s:List UInt8):E 97 [.str s] []=some (.bool (ZgO s),[]):=by
 rw [Zh (by rfl) ZME]
 have:=ZuR s s.length 0 (by omega) (by omega)
 unfold Zjy at this
 simp -implicitDefEqProofs only [EQA,Z2,ZbR,Nat.reduceLT,Nat.reduceBEq,ne_eq,reduceCtorEq,↓reduceIte,gcT,gcA,ZB,Zz,Zm,Zv,Z0,Zp,ZR,ZF,ZM,ZCO,ZnS,oI]
 rw [this,List.drop_zero];rfl
theorem ZsA (σ:Za) (site own:Nat) (view:Bool) (l:List UInt8):Zj E BY σ site 97 own view [.str l]=some (.bool (ZgO l),σ,{}) :=
 Zb9 (ZJY l) (by kernel_rfl) (by simp -implicitDefEqProofs only [Zct,Zbd,eq_self]) (by simp -implicitDefEqProofs only [ZC,Zbd,eq_self]) rfl (fun _=>rfl) _ _ _ _
theorem wrap_i64 {n:Int} (h0:-9223372036854775808≤n) (h:n≤9223372036854775807):IntKind.i64.wrap n=n:=Zb2 h0 h
end Go.Proofs.YtmlkhhidifjjfaaDoor
namespace Go.Proofs.YtmlkhhidifjjfaaDoor
set_option maxHeartbeats 8000000
set_option maxRecDepth 10000
theorem Ztt (σ:Za) (l:Zb) (k1 k2:IntKind) (lo hi:Int) (h0:0≤lo) (h1:lo≤hi) (h2:hi≤(l.length:Int)):ZbP σ 1 (.lst false (l.map Zc)) (some (.int k1 lo)) (some (.int k2 hi)) none=some (.lst false (((l.take hi.toNat).drop lo.toNat).map Zc),σ,{}):=by
 have hh:0≤hi:=by omega
 have h3:lo≤((hi.toNat:Nat):Int):=by omega
 have hk:=Ze4 l
 simp only [ZbP,Zbl,Zd5,List.length_map,hh,h2,and_self,if_true,h0,h3,hk,Bool.or_true,Option.isSome_none,Bool.false_eq_true,if_false,Bool.false_and,List.map_take,List.map_drop]
theorem ZeQ (σ:Za) (l:Zb) (k1:IntKind) (lo:Int) (h0:0≤lo) (h1:lo≤(l.length:Int)):ZbP σ 1 (.lst false (l.map Zc)) (some (.int k1 lo)) none none=some (.lst false ((l.drop lo.toNat).map Zc),σ,{}):=by
 have hk:=Ze4 l
 simp only [ZbP,Zbl,Zd5,List.length_map,and_self,if_true,h0,h1,hk,Bool.or_true,Option.isSome_none,Bool.false_eq_true,if_false,Bool.false_and,List.map_drop]
 rw [List.take_of_length_le (by simp)]
def byT (x:Zb×Int):AVal:=.tup [.lst false (x.1.map Zc),.int .i64 x.2]
theorem ZxA (b:Zb) (h:b.length≤9223372036854775807):IntKind.u64.wrap (b.length:Int)=(b.length:Int):=by rw [IntKind.wrap_u64];omega
theorem ZDm (b:Zb) (hl:b.length≤9223372036854775807):∃ f,E 55 [ZH b] []=some (.tup [.lst f ((ZbA b).1.map Zc),.int .i64 (ZbA b).2],[]):=by
 unfold ZbA
 by_cases h:b.length > 65535
 ·refine ⟨true,?_⟩
  have h':(b.length:Int) > 65535:=by omega
  rw [Zh (by rfl) ZsB,if_pos h]
  simp -implicitDefEqProofs only [EQA,Zs,Nat.reduceLT,Nat.reduceEqDiff,reduceCtorEq,decide_true,↓reduceIte,Zd,Zq2,Zk6,Zuz,oI,ZH,h']
 ·refine ⟨false,?_⟩
  have h':¬(b.length:Int) > 65535:=by omega
  have hw:=ZxA b hl
  have hP:=fun σ site own=>ZlD σ site own b.length 2 (by omega) (by omega)
  have hJ:=fun σ site own f=>ZhI σ site own f (beB b.length 2) [b] (by simp) (by simp [Zbg];omega)
  simp only [List.map_cons,List.map_nil,ZH,List.flatten_cons,List.flatten_nil,List.append_nil] at hJ
  have z2:((2:Nat):Int)=2:=rfl
  rw [z2] at hP
  rw [Zh (by rfl) ZsB,if_neg h]
  simp -implicitDefEqProofs only [EQA,Zs,Nat.reduceLT,Nat.reduceEqDiff,reduceCtorEq,decide_true,decide_false,↓reduceIte,Zd,Zq2,Zk6,Zuz,oI,ZH,h',hw,hP,hJ,viewAs,ZN,ZK,Zo,AVal.cells,List.foldl_cons,List.foldl_nil]
theorem ZmG (σ:Za) (site own:Nat) (f:Bool) (b:Zb) (hl:b.length≤9223372036854775807):Zj E BY σ site 55 own true [.lst f (b.map Zc)]=some (byT (ZbA b),σ,{}):=by
 obtain ⟨g,h⟩:=ZDm b hl
 exact Zbv h (by kernel_rfl) rfl rfl rfl (fun _=>rfl) _ _ _
def Zaj (s:Zb):Zb×Int:=if ZgO s then ZbA s else ([],13)
theorem ZDB (s:Zb) (hl:s.length≤9223372036854775807):∃ f,E 54 [.str s] []=some (.tup [.lst f ((Zaj s).1.map Zc),.int .i64 (Zaj s).2],[]):=by
 have hI:=fun σ site own=>ZsA σ site own true s
 have hD:=fun σ site own f=>ZmG σ site own f s hl
 unfold Zaj
 cases h:ZgO s <;> rw [h] at hI
 ·refine ⟨true,?_⟩
  rw [Zh (by rfl) Zvd]
  simp -implicitDefEqProofs only [EQA,Zs,Nat.reduceLT,Nat.reduceEqDiff,unA,reduceCtorEq,↓reduceIte,Zd,ZtD,ZlT,Zq3,oI,hI]
 ·refine ⟨false,?_⟩
  rw [Zh (by rfl) Zvd]
  simp -implicitDefEqProofs only [EQA,Zs,Nat.reduceLT,Nat.reduceEqDiff,unA,reduceCtorEq,↓reduceIte,Zd,ZtD,ZlT,Zq3,oI,hI,hD,byT]
theorem ZiN (σ:Za) (site own:Nat) (s:Zb) (hl:s.length≤9223372036854775807):Zj E BY σ site 54 own true [.str s]=some (byT (Zaj s),σ,{}):=by
 obtain ⟨g,h⟩:=ZDB s hl
 exact Zbv h (by kernel_rfl) rfl rfl rfl (fun _=>rfl) _ _ _
end Go.Proofs.YtmlkhhidifjjfaaDoor
namespace Go.Proofs.YtmlkhhidifjjfaaDoor
set_option maxHeartbeats 8000000
set_option maxRecDepth 10000
def gdT (x:Zb×Nat×Int):AVal:=.tup [.lst false (x.1.map Zc),.int .i64 (x.2.1:Nat),.int .i64 x.2.2]
def gtT (x:Zb×Nat×Int):AVal:=.tup [.str x.1,.int .i64 (x.2.1:Nat),.int .i64 x.2.2]
theorem ZI2 (b:Zb) (h:b.length≤2):ZcH b < 65536:=by
 unfold ZcH
 match b,h with
 | [],_=>simp [ZeY]
 | [a],_=>rw [Zc2,ZeY];have:=a.toNat_lt;omega
 | [a,c],_=>rw [Zc2,Zc2,ZeY];have:=a.toNat_lt;have:=c.toNat_lt;omega
def Z1 (b:Zb):Zb×Nat×Int:=if (Zar b).2.2≠0 then ([],0,(Zar b).2.2) else if ZgO (Zar b).1 then Zar b else ([],0,13)
theorem ZDa (b:Zb) (hl:b.length≤140737488355328):∃ f,E 106 [ZH b] []=some (.tup [.lst f ((Zar b).1.map Zc),.int .i64 ((Zar b).2.1:Nat),.int .i64 (Zar b).2.2],[]):=by
 have t2:(b.take 2).length≤9223372036854775807:=by simp;omega
 have hG:=fun σ site own f=>Zkm σ site own (b.take 2) t2 f
 have hg:=ZI2 (b.take 2) (by simp;omega)
 unfold Zar
 generalize hGG:ZcH (b.take 2)=g at *
 have hi:IntKind.i64.wrap (g:Int)=(g:Int):=Zb2 (by omega) (by omega)
 by_cases h1:b.length < 2
 ·have h1':(b.length:Int) < 2:=by omega
  refine ⟨true,?_⟩
  rw [Zh (by rfl) ZpP,if_pos (Or.inl h1)]
  simp -implicitDefEqProofs only [EQA,Zs,Nat.reduceLT,Nat.reduceEqDiff,ZE,Zas,ne_eq,Option.some.injEq,reduceCtorEq,decide_true,decide_false,↓reduceIte,Zd,Zo8,Zis,Znl,oI,ZH,h1']
  rfl
 ·have h1':¬(b.length:Int) < 2:=by omega
  have s2:=fun σ kk=>Zhn σ 1 b Zc kk 2 (by omega) (by omega)
  have e2:(2:Int).toNat=2:=rfl
  rw [e2] at s2
  have w1:IntKind.i64.wrap ((b.length:Int) - 2)=((b.length - 2:Nat):Int):=by rw [Zb2 (by omega) (by omega)];omega
  by_cases h3:b.length - 2 < g
  ·have h3':((b.length - 2:Nat):Int) < (g:Int):=by omega
   refine ⟨true,?_⟩
   rw [Zh (by rfl) ZpP,if_pos (Or.inr h3)]
   simp -implicitDefEqProofs only [EQA,Zs,Nat.reduceLT,Nat.reduceEqDiff,ZE,unG,ne_eq,Option.some.injEq,reduceCtorEq,decide_true,decide_false,↓reduceIte,Zd,Zo8,Zis,Znl,oI,ZH,h1',s2,hG,hi,w1,h3']
   rfl
  ·have h3':¬((b.length - 2:Nat):Int) < (g:Int):=by omega
   have w2:IntKind.i64.wrap (2+(g:Int))=((2+g:Nat):Int):=by rw [Zb2 (by omega) (by omega)];omega
   have s3:=fun σ k1 k2=>Ztt σ b k1 k2 2 ((2+g:Nat):Int) (by omega) (by omega) (by omega)
   have e3:(((2+g:Nat):Int)).toNat=2+g:=rfl
   have e4:(b.take (2+g)).drop 2=(b.drop 2).take g:=by rw [List.drop_take];congr 1;omega
   rw [e2,e3,e4] at s3
   have hJ:=fun σ site own f=>ZhI σ site own f ((b.drop 2).take g) [] (by simp) (by simp;omega)
   simp only [List.map_cons,List.map_nil,ZH,List.flatten_cons,List.flatten_nil,List.append_nil] at hJ
   have hc:¬(b.length < 2∨b.length - 2 < g):=by omega
   refine ⟨false,?_⟩
   rw [Zh (by rfl) ZpP,if_neg hc]
   simp -implicitDefEqProofs only [EQA,Zs,Nat.reduceLT,Nat.reduceEqDiff,ZE,unG,ne_eq,Option.some.injEq,reduceCtorEq,decide_true,decide_false,↓reduceIte,Zd,Zo8,Zis,Znl,oI,ZH,h1',s2,hG,hi,w1,h3',w2,s3,hJ,viewAs,ZN,ZK,Zo,AVal.cells,List.foldl_cons,List.foldl_nil]
theorem ZjO (σ:Za) (site own:Nat) (f:Bool) (b:Zb) (hl:b.length≤140737488355328):Zj E BY σ site 106 own true [.lst f (b.map Zc)]=some (gdT (Zar b),σ,{}):=by
 obtain ⟨g,h⟩:=ZDa b hl
 exact Zbv h (by kernel_rfl) rfl rfl rfl (fun _=>rfl) _ _ _
theorem ZG7 (b:Zb) (hl:b.length≤140737488355328):E 109 [ZH b] []=some (gtT (Z1 b),[]):=by
 have hD:=fun σ site own f=>ZjO σ site own f b hl
 unfold gdT at hD
 have hI:=fun σ site own=>ZsA σ site own true (Zar b).1
 unfold Z1
 by_cases h0:(Zar b).2.2=0
 ·have hn0:¬((Zar b).2.2≠0):=by omega
  have e0:((0:Int) != 0)=false:=rfl
  have hp:Zar b=((Zar b).1,(Zar b).2.1,0):=by rw [←h0]
  rw [if_neg hn0]
  rw [hp]
  simp only
  rw [h0] at hD
  generalize (Zar b).1=d at *
  generalize (Zar b).2.1=u at *
  rw [Zh (by rfl) ZtL]
  cases ht:ZgO d <;> rw [ht] at hI
  ·simp -implicitDefEqProofs only [EQA,Zs,Nat.reduceLT,Nat.reduceEqDiff,unA,Option.some.injEq,reduceCtorEq,ZV,↓reduceIte,Zd,Zpj,Zii,Zp6,oI,ZH,hD,hI,e0,gtT]
   rfl
  ·simp -implicitDefEqProofs only [EQA,Zs,Nat.reduceLT,Nat.reduceEqDiff,unA,reduceCtorEq,ZV,↓reduceIte,Zd,Zpj,Zii,Zp6,oI,ZH,hD,hI,e0,gtT]
 ·have hn0:((Zar b).2.2≠0):=h0
  have e0:((Zar b).2.2 != 0)=true:=by simpa using h0
  rw [if_pos hn0]
  generalize (Zar b).2.2=e at *
  rw [Zh (by rfl) ZtL]
  simp -implicitDefEqProofs only [EQA,Zs,Nat.reduceLT,Nat.reduceEqDiff,Option.some.injEq,reduceCtorEq,↓reduceIte,Zd,Zpj,Zii,Zp6,oI,ZH,hD,e0,gtT]
  rfl
theorem ZhL (σ:Za) (site own:Nat) (f:Bool) (b:Zb) (hl:b.length≤140737488355328):Zj E BY σ site 109 own true [.lst f (b.map Zc)]=some (gtT (Z1 b),σ,{}) :=
 Zbv (ZG7 b hl) (by kernel_rfl) rfl rfl rfl (fun _=>rfl) _ _ _
end Go.Proofs.YtmlkhhidifjjfaaDoor
namespace Go.Proofs.YtmlkhhidifjjfaaDoor
set_option maxHeartbeats 4000000
theorem ZcP {O:ZQ} {byref:Nat→Bool} {σ:Za} {t f:Nat} {rest:List AVal} {cs cs':List AVal} {r r':AVal} (hb:byref f=false) (hp:rest.all Z9=true) (hc:Zd cs=true) (hc':Zd cs'=true) (hn:ZI r'=true) (hv:viewR [.var cs'] r=some (r',[]))
  (h:O f (.ref 0 0::rest.map ZG) [.var cs]=some (r,[.var cs'])) (hs:σ[t]?=some (.var cs)) (site:Nat):Zj O byref σ site f 0 true (.ref t 0::rest)=some (r',σ.set t (.var cs'),{ any:=true,upd:=[(t,cs')] }):=by
 have htl:t < σ.length:=by
  rcases Nat.lt_or_ge t σ.length with h | h
  ·exact h
  ·rw [List.getElem?_eq_none h] at hs;cases hs
 have hup:Za8 (σ.set t (.var cs')) [t]=[(t,cs')]:=by
  simp only [Za8,List.getElem?_set,if_pos htl,if_true]
 have hd:σ.getD t .free=.var cs:=by simp [List.getD_eq_getElem?_getD,hs]
 have hf0:Zo σ []=σ:=rfl
 have hsh:showAs σ (.ref t 0::rest)=some (.ref t 0::rest.map ZG,[]):=by
  rw [showAs,show showA σ (.ref t 0)=some (.ref t 0,[]) from rfl,Zd3 hp]
  rfl
 have href:Zr (.ref t 0::rest.map ZG)=[t]:=by
  rw [Zr,Zc1 hp];rfl
 unfold Zj ZbM
 rw [hb]
 simp only [Bool.false_eq_true,if_false,hsh,hf0,href,ZeX hs hc]
 unfold Zbz
 have hall:([t].all fun t=>okB (σ.getD t .free))=true:=by simp [List.all_cons,List.all_nil,hs,okB]
 rw [if_pos hall]
 have hρ:Zm σ 0 [t] t 0=some (0,0):=by simp [Zm,Z0,hs,Zp,ZR]
 have hheap:Zv σ 0 [t] (Zm σ 0 [t]) [t] 0=[.var cs]:=by
  simp only [Zv,hd,ZF,(ZaT _ cs hc).1]
 have hargs:Zf (Zm σ 0 [t]) (.ref t 0::rest.map ZG)=.ref 0 0::rest.map ZG:=by
  rw [Zf,ZcZ hp]
  simp only [Zk,hρ]
 rw [hargs,hheap,h]
 have hask:Zah true [t].length (some (r,[.var cs']))=some (r',[.var cs']):=by
  unfold Zah
  rw [if_pos rfl]
  have hnp:∀ x,r≠.pan x:=by rintro x rfl;simp [viewR,ZN,ZK] at hv
  rw [show ZbH [t].length (some (r,[.var cs']))=(match viewR [.var cs'] r with
   | some (r',ts)=>match gcA [t].length [r'] (Zo [.var cs'] ts) with
    | ([r''],σ')=>some (r'',σ')
    | _=>none
   | none=>none) from by cases r <;> first | rfl | exact absurd rfl (hnp _)]
  rw [hv]
  simp only [List.length_cons,List.length_nil,Nat.zero_add,show Zo [ZJ.var cs'] []=[.var cs'] from rfl,ZlJ hn hc']
 rw [hask]
 have hk:Za0 σ [t] [.var cs'] 0=true:=by
  simp [Za0,okB,hs,Zb7,Zp]
 simp only [ZaA,List.isEmpty_cons,Bool.false_eq_true,if_false,List.length_cons,List.length_nil,Nat.zero_add,Nat.add_zero,Nat.le_refl,decide_true,hk,Za1,Bool.and_self,if_true,Za6,ZaI,List.getD_cons_zero,ZF,(Za5 _ r' hn).1,(ZaT _ cs' hc').1,hup]
theorem Zco {O:ZQ} {byref:Nat→Bool} {σ:Za} {t f:Nat} {rest:List AVal} {cs cs':List AVal} {x:AVal} {view:Bool} (hb:byref f=false) (hp:rest.all Z9=true) (hc:Zd cs=true) (hc':Zd cs'=true) (hn:ZI x=true)
  (h:O f (.ref 0 0::rest.map ZG) [.var cs]=some (.pan x,[.var cs'])) (hs:σ[t]?=some (.var cs)) (site:Nat):Zj O byref σ site f 0 view (.ref t 0::rest)=some (.pan x,σ.set t (.var cs'),{ any:=true,upd:=[(t,cs')] }):=by
 have htl:t < σ.length:=by
  rcases Nat.lt_or_ge t σ.length with h | h
  ·exact h
  ·rw [List.getElem?_eq_none h] at hs;cases hs
 have hup:Za8 (σ.set t (.var cs')) [t]=[(t,cs')]:=by
  simp only [Za8,List.getElem?_set,if_pos htl,if_true]
 have hd:σ.getD t .free=.var cs:=by simp [List.getD_eq_getElem?_getD,hs]
 have hf0:Zo σ []=σ:=rfl
 have hsh:showAs σ (.ref t 0::rest)=some (.ref t 0::rest.map ZG,[]):=by
  rw [showAs,show showA σ (.ref t 0)=some (.ref t 0,[]) from rfl,Zd3 hp]
  rfl
 have href:Zr (.ref t 0::rest.map ZG)=[t]:=by
  rw [Zr,Zc1 hp];rfl
 unfold Zj ZbM
 rw [hb]
 simp only [Bool.false_eq_true,if_false,hsh,hf0,href,ZeX hs hc]
 unfold Zbz
 have hall:([t].all fun t=>okB (σ.getD t .free))=true:=by simp [List.all_cons,List.all_nil,hs,okB]
 rw [if_pos hall]
 have hρ:Zm σ 0 [t] t 0=some (0,0):=by simp [Zm,Z0,hs,Zp,ZR]
 have hheap:Zv σ 0 [t] (Zm σ 0 [t]) [t] 0=[.var cs]:=by
  simp only [Zv,hd,ZF,(ZaT _ cs hc).1]
 have hargs:Zf (Zm σ 0 [t]) (.ref t 0::rest.map ZG)=.ref 0 0::rest.map ZG:=by
  rw [Zf,ZcZ hp]
  simp only [Zk,hρ]
 rw [hargs,hheap,h]
 have hask:Zah view [t].length (some (.pan x,[.var cs']))=some (.pan x,[.var cs']):=by
  unfold Zah
  split <;> rfl
 rw [hask]
 have hk:Za0 σ [t] [.var cs'] 0=true:=by
  simp [Za0,okB,hs,Zb7,Zp]
 have hnp:ZI (.pan x)=true:=by simpa only [ZI] using hn
 simp only [ZaA,List.isEmpty_cons,Bool.false_eq_true,if_false,List.length_cons,List.length_nil,Nat.zero_add,Nat.add_zero,Nat.le_refl,decide_true,hk,Za1,Bool.and_self,if_true,Za6,ZaI,List.getD_cons_zero,ZF,(Za5 _ _ hnp).1,(ZaT _ cs' hc').1,hup]
end Go.Proofs.YtmlkhhidifjjfaaDoor
namespace Go.Proofs.YtmlkhhidifjjfaaDoor
def Zqd:Ze:=(.seq (.region [oI 21 (.build [(.int .i64 0),(.int .i64 0),(.str []),(.str []),(.lst true [])] []),oN (.st 5 (.t 4) (.t 21)),oI 5 (.mov (.c (.bool false)))] none [5,4]) .ret)
def Zpb:Ze:=Zqd
def ZFf:=xw Zpb Zqd rfl
def ZiE:Ze:=(.seq (.region [oI 11 (.bin .lss (.t 10) (.t 9))] none [11,10,9,8,4,0]) (.seq (.cond (.t 11) .skip (.exit 0)) (.seq (.block 1 (.seq (.region [oI 12 (.iaddr 5 (.t 8) (.t 10)),oI 13 (.ld (some 5) (.t 12)),oI 7 (.alloc [(.int .i64 0),(.int .i64 0),(.str []),(.str []),(.lst true [])]),oN (.st 5 (.t 7) (.t 13))] none [10,9,8,7,4,0]) (.seq (.region [oI 14 (.faddr 0 (.t 7)),oI 15 (.ld none (.t 14)),oI 16 (.mov (.t 0)),oI 17 (.bin .eql (.t 15) (.t 16))] none [17,10,9,8,7,4,0]) (.cond (.t 17) (.seq (.region [oI 18 (.ld (some 5) (.t 7)),oI 19 (.call 147 0 true [(.t 18)]),oN (.st 5 (.t 4) (.t 19)),oI 5 (.mov (.c (.bool true)))] none [5,4]) .ret) .skip)))) (.region [oI 20 (.bin .add (.t 10) (.c (.int .i64 1))),oI 10 (.mov (.t 20))] none [10,9,8,4,0]))))
def ZmS:Ze:=ZiE
def ZnB:=xw ZmS ZiE rfl
def ZpF:Ze:=(.seq (.region [oI 4 (.alloc [(.int .i64 0),(.int .i64 0),(.str []),(.str []),(.lst true [])]),oI 5 (.mov (.c (.bool false)))] none [4,1,0]) (.seq (.seq (.region [oI 8 (.mov (.t 1)),oI 9 (.len (.t 8)),oI 10 (.mov (.c (.int .i64 0)))] none [10,9,8,4,0]) (.block 0 (.loop [10,9,8,4,0] ZmS))) Zpb))
def ZkE:ZD:=⟨[(.cell 4 (some 5)),(.tmp 5)],ZpF⟩
theorem ZJG:FC 112=some ZkE:=by kernel_rfl
theorem Zw1:ZkE.body=ZpF:=rfl
theorem Zsj:ZkE.res=[(.cell 4 (some 5)),(.tmp 5)]:=rfl
noncomputable def Zj0 (m:Nat) (tm:Tms) (σ:Za):Option (AVal×Za):=(Zaq m ZkE (ZbG FC PR BY m Zpb (Option.map (ZaW 0) (evL FC PR BY m [10,9,8,4,0] ZmS tm σ))))
def ZmL:Ze:=(.seq (.region [oI 2 (.mov (.c (.int .i64 0)))] none [0]) (.seq (.region [oI 3 (.mov (.t 0)),oI 4 (.call 152 0 true [(.t 3)]),oI 5 (.field none 0 (.t 4)),oI 2 (.mov (.t 5))] none [2]) .ret))
def Zny:ZD:=⟨[(.tmp 2)],ZmL⟩
theorem ZzU:FC 134=some Zny:=by kernel_rfl
theorem ZNa:Zny.body=ZmL:=rfl
theorem ZHw:Zny.res=[(.tmp 2)]:=rfl
def Zf7:Ze:=(.seq (.region [oI 26 (.mov (.t 6)),oI 27 (.len (.t 26)),oI 28 (.call 82 0 true [(.t 27)]),oI 25 (.mov (.t 28)),oI 29 (.ext (.t 25) 0),oI 30 (.ext (.t 25) 1),oI 9 (.mov (.t 29)),oI 10 (.mov (.t 30))] none [10,9,6,1,0]) (.seq (.seq (.region [oI 31 (.mov (.t 10)),oI 32 (.bin .neq (.t 31) (.c (.int .i64 0)))] none [32,9,6,1,0]) (.cond (.t 32) (.seq (.region [oI 4 (.mov (.c (.lst true []))),oI 5 (.mov (.c (.int .i64 129)))] none [5,4]) .ret) .skip)) (.seq (.region [oI 33 (.mov (.t 9)),oI 34 (.mov (.t 6)),oI 35 (.bslice false 1 2 (.lst true []) [(0,(.t 33)),(1,(.t 34))]),oI 36 (.call 56 0 true [(.t 35)]),oI 6 (.mov (.t 36))] none [6,1,0]) (.seq (.region [oI 38 (.mov (.t 0)),oI 39 (.mov (.t 6)),oI 40 (.call 90 0 true [(.t 38),(.t 39)]),oI 37 (.mov (.t 40)),oI 41 (.ext (.t 37) 0),oI 42 (.ext (.t 37) 1),oI 43 (.ext (.t 37) 2),oI 11 (.mov (.t 41)),oI 12 (.mov (.t 42)),oI 13 (.mov (.t 43))] none [13,12,11,6,1]) (.seq (.seq (.region [oI 44 (.mov (.t 13)),oI 45 (.bin .neq (.t 44) (.c (.int .i64 0))),oI 46 (.mov (.t 45)),⟨(some 47),(.mov (.t 12)),(some (46,false)),[]⟩,⟨(some 48),(.mov (.t 6)),(some (46,false)),[]⟩,⟨(some 49),(.len (.t 48)),(some (46,false)),[]⟩,⟨(some 50),(.bin .neq (.t 47) (.t 49)),(some (46,false)),[]⟩,oI 51 (.pick (.t 46) (.c (.bool true)) (.t 50)),oI 52 (.mov (.t 51)),⟨(some 53),(.mov (.t 11)),(some (52,false)),[]⟩,⟨(some 54),(.mov (.t 1)),(some (52,false)),[]⟩,⟨(some 55),(.call 43 0 true [(.t 53),(.t 54)]),(some (52,false)),[]⟩,⟨(some 56),(.un .not (.t 55)),(some (52,false)),[]⟩,oI 57 (.pick (.t 52) (.c (.bool true)) (.t 56))] none [57,6]) (.cond (.t 57) (.seq (.region [oI 4 (.mov (.c (.lst true []))),oI 5 (.mov (.c (.int .i64 129)))] none [5,4]) .ret) .skip)) (.seq (.region [oI 58 (.mov (.t 6)),oI 4 (.mov (.t 58)),oI 5 (.mov (.c (.int .i64 0)))] none [5,4]) .ret))))))
def ZpZ:Ze:=Zf7
def Zg5:=xw ZpZ Zf7 rfl
def ZeA:Ze:=(.seq (.region [oI 17 (.bin .lss (.t 16) (.t 15))] none [17,16,15,14,6,1,0]) (.seq (.cond (.t 17) .skip (.exit 0)) (.seq (.block 1 (.seq (.region [oI 18 (.iaddr 5 (.t 14) (.t 16)),oI 19 (.ld (some 5) (.t 18)),oI 8 (.alloc [(.int .i64 0),(.int .i64 0),(.str []),(.str []),(.lst true [])]),oN (.st 5 (.t 8) (.t 19))] none [16,15,14,8,6,1,0]) (.region [oI 20 (.mov (.t 6)),oI 21 (.ld (some 5) (.t 8)),oI 22 (.call 89 0 true [(.t 21)]),oI 23 (.app 1 1 (.int .u8 0) (.t 20) (.t 22)),oI 6 (.mov (.t 23))] none [16,15,14,6,1,0]))) (.region [oI 24 (.bin .add (.t 16) (.c (.int .i64 1))),oI 16 (.mov (.t 24))] none [16,15,14,6,1,0]))))
def Zog:Ze:=ZeA
def Zfz:=xw Zog ZeA rfl
def ZkZ:Ze:=(.seq (.region [oI 4 (.mov (.c (.lst true []))),oI 5 (.mov (.c (.int .i64 0)))] none [1,0]) (.seq (.region [oI 6 (.mov (.c (.lst true [])))] none [6,1,0]) (.seq (.seq (.region [oI 14 (.mov (.t 1)),oI 15 (.len (.t 14)),oI 16 (.mov (.c (.int .i64 0)))] none [16,15,14,6,1,0]) (.block 0 (.loop [16,15,14,6,1,0] Zog))) ZpZ)))
def Zkd:ZD:=⟨[(.tmp 4),(.tmp 5)],ZkZ⟩
theorem ZrO:FC 42=some Zkd:=by kernel_rfl
theorem ZvM:Zkd.body=ZkZ:=rfl
theorem ZhQ:Zkd.res=[(.tmp 4),(.tmp 5)]:=rfl
noncomputable def Zia (m:Nat) (tm:Tms) (σ:Za):Option (AVal×Za):=(Zaq m Zkd (ZbG FC PR BY m ZpZ (Option.map (ZaW 0) (evL FC PR BY m [16,15,14,6,1,0] Zog tm σ))))
def ZiI:Ze:=(.seq (.region [oI 4 (.mov (.c (.bool false)))] none [1,0]) (.seq (.region [oI 5 (.mov (.t 1)),oI 6 (.bin .geq (.t 5) (.c (.int .i64 1))),oI 7 (.mov (.t 6)),⟨(some 8),(.mov (.t 1)),(some (7,true)),[]⟩,⟨(some 9),(.bin .leq (.t 8) (.c (.int .i64 16))),(some (7,true)),[]⟩,oI 10 (.pick (.t 7) (.t 9) (.c (.bool false))),oI 11 (.mov (.t 10)),⟨(some 12),(.mov (.t 0)),(some (11,true)),[]⟩,⟨(some 13),(.call 152 0 true [(.t 12)]),(some (11,true)),[]⟩,⟨(some 14),(.field none 1 (.t 13)),(some (11,true)),[]⟩,⟨(some 15),(.mov (.t 1)),(some (11,true)),[]⟩,⟨(some 16),(.bin .shr (.t 14) (.t 15)),(some (11,true)),[]⟩,⟨(some 17),(.bin .and (.t 16) (.c (.int .i64 1))),(some (11,true)),[]⟩,⟨(some 18),(.bin .eql (.t 17) (.c (.int .i64 1))),(some (11,true)),[]⟩,oI 19 (.pick (.t 11) (.t 18) (.c (.bool false))),oI 4 (.mov (.t 19))] none [4]) .ret))
def Zmp:ZD:=⟨[(.tmp 4)],ZiI⟩
theorem ZOj:FC 153=some Zmp:=by kernel_rfl
theorem Zo1:Zmp.body=ZiI:=rfl
theorem Zmj:Zmp.res=[(.tmp 4)]:=rfl
def Zkg:Ze:=(.seq (.region [oI 57 (.mov (.t 4)),oI 58 (.mov (.t 8)),oI 59 (.mov (.t 7)),oI 60 (.bin .add (.t 58) (.t 59)),oI 4 (.mov (.t 57)),oI 5 (.mov (.t 60)),oI 6 (.mov (.c (.int .i64 0)))] none [6,5,4]) .ret)
def ZpQ:Ze:=Zkg
def ZtX:=xw ZpQ Zkg rfl
def Zfr:Ze:=(.seq (.seq (.region [oI 36 (.mov (.t 10)),oI 37 (.len (.t 36)),oI 38 (.bin .gtr (.t 37) (.c (.int .i64 0)))] none [38,10,8,7,4,0]) (.cond (.t 38) .skip (.exit 0))) (.block 1 (.seq (.region [oI 40 (.mov (.t 0)),oI 41 (.mov (.t 10)),oI 42 (.mov (.t 4)),oI 43 (.call 136 0 true [(.t 40),(.t 41),(.t 42)]),oI 39 (.mov (.t 43)),oI 44 (.ext (.t 39) 0),oI 45 (.ext (.t 39) 1),oI 46 (.ext (.t 39) 2),oI 11 (.alloc [(.int .i64 0),(.int .i64 0),(.str []),(.str []),(.lst true [])]),oN (.st 5 (.t 11) (.t 44)),oI 12 (.mov (.t 45)),oI 13 (.mov (.t 46))] none [13,12,11,10,8,7,4,0]) (.seq (.seq (.region [oI 47 (.mov (.t 13)),oI 48 (.bin .neq (.t 47) (.c (.int .i64 0)))] none [48,13,12,11,10,8,7,4,0]) (.cond (.t 48) (.seq (.region [oI 49 (.mov (.t 13)),oI 4 (.mov (.c (.lst true []))),oI 5 (.mov (.c (.int .i64 0))),oI 6 (.mov (.t 49))] none [6,5,4]) .ret) .skip)) (.seq (.region [oI 50 (.mov (.t 4)),oI 51 (.ld (some 5) (.t 11)),oI 52 (.bslice false 5 1 (.agg [(.int .i64 0),(.int .i64 0),(.str []),(.str []),(.lst true [])]) [(0,(.t 51))]),oI 53 (.app 5 72 (.agg [(.int .i64 0),(.int .i64 0),(.str []),(.str []),(.lst true [])]) (.t 50) (.t 52)),oI 4 (.mov (.t 53))] none [12,10,8,7,4,0]) (.region [oI 54 (.mov (.t 10)),oI 55 (.mov (.t 12)),oI 56 (.slice 1 (.t 54) (some (.t 55)) none none),oI 10 (.mov (.t 56))] none [10,8,7,4,0]))))))
def ZpS:Ze:=Zfr
def ZgX:=xw ZpS Zfr rfl
def ZhW:Ze:=(.seq (.region [oI 4 (.mov (.c (.lst true []))),oI 5 (.mov (.c (.int .i64 0))),oI 6 (.mov (.c (.int .i64 0)))] none [4,1,0]) (.seq (.region [oI 15 (.mov (.t 1)),oI 16 (.call 135 0 true [(.t 15)]),oI 14 (.mov (.t 16)),oI 17 (.ext (.t 14) 0),oI 18 (.ext (.t 14) 1),oI 19 (.ext (.t 14) 2),oI 7 (.mov (.t 17)),oI 8 (.mov (.t 18)),oI 9 (.mov (.t 19))] none [9,8,7,4,1,0]) (.seq (.seq (.region [oI 20 (.mov (.t 9)),oI 21 (.bin .neq (.t 20) (.c (.int .i64 0))),oI 22 (.mov (.t 21)),⟨(some 23),(.mov (.t 7)),(some (22,false)),[]⟩,⟨(some 24),(.mov (.t 1)),(some (22,false)),[]⟩,⟨(some 25),(.len (.t 24)),(some (22,false)),[]⟩,⟨(some 26),(.mov (.t 8)),(some (22,false)),[]⟩,⟨(some 27),(.bin .sub (.t 25) (.t 26)),(some (22,false)),[]⟩,⟨(some 28),(.bin .gtr (.t 23) (.t 27)),(some (22,false)),[]⟩,oI 29 (.pick (.t 22) (.c (.bool true)) (.t 28))] none [29,8,7,4,1,0]) (.cond (.t 29) (.seq (.region [oI 4 (.mov (.c (.lst true []))),oI 5 (.mov (.c (.int .i64 0))),oI 6 (.mov (.c (.int .i64 129)))] none [6,5,4]) .ret) .skip)) (.seq (.seq (.region [oI 30 (.mov (.t 1)),oI 31 (.mov (.t 8)),oI 32 (.mov (.t 8)),oI 33 (.mov (.t 7)),oI 34 (.bin .add (.t 32) (.t 33)),oI 35 (.slice 1 (.t 30) (some (.t 31)) (some (.t 34)) none),oI 10 (.mov (.t 35))] none [10,8,7,4,0]) (.block 0 (.loop [10,8,7,4,0] ZpS))) ZpQ))))
def Zky:ZD:=⟨[(.tmp 4),(.tmp 5),(.tmp 6)],ZhW⟩
theorem Znw:FC 90=some Zky:=by kernel_rfl
theorem Zql:Zky.body=ZhW:=rfl
theorem Zg8:Zky.res=[(.tmp 4),(.tmp 5),(.tmp 6)]:=rfl
noncomputable def Zhm (m:Nat) (tm:Tms) (σ:Za):Option (AVal×Za):=(Zaq m Zky (ZbG FC PR BY m ZpQ (Option.map (ZaW 0) (evL FC PR BY m [10,8,7,4,0] ZpS tm σ))))
def ZmT:Ze:=(.seq (.region [oI 4 (.mov (.c (.bool false)))] none [1,0]) (.seq (.region [oI 5 (.mov (.t 0)),oI 6 (.mov (.t 1)),oI 7 (.call 91 0 true [(.t 5),(.t 6),(.c (.fn 92 []))]),oI 4 (.mov (.t 7))] none [4]) .ret))
def Zl1:ZD:=⟨[(.tmp 4)],ZmT⟩
theorem ZMi:FC 43=some Zl1:=by kernel_rfl
theorem ZIJ:Zl1.body=ZmT:=rfl
theorem ZAY:Zl1.res=[(.tmp 4)]:=rfl
def Zph:Ze:=(.seq (.region [oI 2 (.box (.t 0)),oI 3 (.box (.t 1)),oI 4 (.mov (.c (.bool false)))] none [3,2]) (.seq (.region [oI 5 (.faddr 0 (.t 2)),oI 6 (.ld none (.t 5)),oI 7 (.faddr 0 (.t 3)),oI 8 (.ld none (.t 7)),oI 9 (.bin .eql (.t 6) (.t 8)),oI 10 (.mov (.t 9)),⟨(some 11),(.faddr 1 (.t 2)),(some (10,true)),[]⟩,⟨(some 12),(.ld none (.t 11)),(some (10,true)),[]⟩,⟨(some 13),(.faddr 1 (.t 3)),(some (10,true)),[]⟩,⟨(some 14),(.ld none (.t 13)),(some (10,true)),[]⟩,⟨(some 15),(.bin .eql (.t 12) (.t 14)),(some (10,true)),[]⟩,oI 16 (.pick (.t 10) (.t 15) (.c (.bool false))),oI 17 (.mov (.t 16)),⟨(some 18),(.faddr 2 (.t 2)),(some (17,true)),[]⟩,⟨(some 19),(.ld none (.t 18)),(some (17,true)),[]⟩,⟨(some 20),(.faddr 2 (.t 3)),(some (17,true)),[]⟩,⟨(some 21),(.ld none (.t 20)),(some (17,true)),[]⟩,⟨(some 22),(.bin .eql (.t 19) (.t 21)),(some (17,true)),[]⟩,oI 23 (.pick (.t 17) (.t 22) (.c (.bool false))),oI 24 (.mov (.t 23)),⟨(some 25),(.faddr 3 (.t 2)),(some (24,true)),[]⟩,⟨(some 26),(.ld none (.t 25)),(some (24,true)),[]⟩,⟨(some 27),(.faddr 3 (.t 3)),(some (24,true)),[]⟩,⟨(some 28),(.ld none (.t 27)),(some (24,true)),[]⟩,⟨(some 29),(.bin .eql (.t 26) (.t 28)),(some (24,true)),[]⟩,oI 30 (.pick (.t 24) (.t 29) (.c (.bool false))),oI 31 (.mov (.t 30)),⟨(some 32),(.faddr 4 (.t 2)),(some (31,true)),[]⟩,⟨(some 33),(.ld none (.t 32)),(some (31,true)),[]⟩,⟨(some 34),(.b2s (.t 33)),(some (31,true)),[]⟩,⟨(some 35),(.faddr 4 (.t 3)),(some (31,true)),[]⟩,⟨(some 36),(.ld none (.t 35)),(some (31,true)),[]⟩,⟨(some 37),(.b2s (.t 36)),(some (31,true)),[]⟩,⟨(some 38),(.bin .eql (.t 34) (.t 37)),(some (31,true)),[]⟩,oI 39 (.pick (.t 31) (.t 38) (.c (.bool false))),oI 4 (.mov (.t 39))] none [4]) .ret))
def ZoS:ZD:=⟨[(.tmp 4)],Zph⟩
theorem ZKd:FC 92=some ZoS:=by kernel_rfl
theorem ZDf:ZoS.body=Zph:=rfl
theorem ZCS:ZoS.res=[(.tmp 4)]:=rfl
def Zoc:Ze:=(.seq (.region [oI 1 (.box (.t 0)),oI 2 (.alloc [(.int .i64 0),(.int .i64 0),(.str []),(.str []),(.lst true [])])] none [2,1]) (.seq (.region [oI 3 (.faddr 4 (.t 1)),oI 4 (.ld none (.t 3)),oI 5 (.call 111 0 true [(.t 4)]),oI 6 (.faddr 4 (.t 1)),oN (.st 1 (.t 6) (.t 5))] none [2,1]) (.seq (.region [oI 7 (.ld (some 5) (.t 1)),oN (.st 5 (.t 2) (.t 7))] none [2]) .ret)))
def Zmr:ZD:=⟨[(.cell 2 (some 5))],Zoc⟩
theorem ZJP:FC 147=some Zmr:=by kernel_rfl
theorem ZDy:Zmr.body=Zoc:=rfl
theorem ZN0:Zmr.res=[(.cell 2 (some 5))]:=rfl
def Zoq:Ze:=(.seq (.region [oI 1 (.box (.t 0)),oI 2 (.mov (.c (.bool false)))] none [1]) (.seq (.seq (.region [oI 3 (.faddr 0 (.t 1)),oI 4 (.ld none (.t 3))] none [4,1]) (.block 0 (.seq (.seq (.region [oI 6 (.bin .eql (.t 4) (.c (.int .i64 11))),oI 5 (.mov (.t 6))] none [5,4,1]) (.cond (.t 5) .skip (.seq (.region [oI 7 (.bin .eql (.t 4) (.c (.int .i64 33))),oI 5 (.mov (.t 7))] none [5,4,1]) (.cond (.t 5) .skip (.seq (.region [oI 8 (.bin .eql (.t 4) (.c (.int .i64 35))),oI 5 (.mov (.t 8))] none [5,4,1]) (.cond (.t 5) .skip (.region [oI 9 (.bin .eql (.t 4) (.c (.int .i64 39))),oI 5 (.mov (.t 9))] none [5,1]))))))) (.cond (.t 5) (.seq (.region [oI 10 (.faddr 1 (.t 1)),oI 11 (.ld none (.t 10)),oI 12 (.bin .neq (.t 11) (.c (.int .i64 0))),oI 2 (.mov (.t 12))] none [2]) .ret) .skip)))) (.seq (.region [oI 13 (.faddr 0 (.t 1)),oI 14 (.ld none (.t 13)),oI 15 (.call 134 0 true [(.t 14)]),oI 16 (.bin .neq (.t 15) (.c (.int .i64 1))),oI 17 (.mov (.t 16)),⟨(some 18),(.faddr 1 (.t 1)),(some (17,false)),[]⟩,⟨(some 19),(.ld none (.t 18)),(some (17,false)),[]⟩,⟨(some 20),(.bin .leq (.t 19) (.c (.int .i64 1))),(some (17,false)),[]⟩,oI 21 (.pick (.t 17) (.c (.bool true)) (.t 20)),oI 2 (.mov (.t 21))] none [2]) .ret)))
def Zpt:ZD:=⟨[(.tmp 2)],Zoq⟩
theorem ZKt:FC 156=some Zpt:=by kernel_rfl
theorem ZCv:Zpt.body=Zoq:=rfl
theorem ZzK:Zpt.res=[(.tmp 2)]:=rfl
def Zew:Ze:=(.seq (.region [oI 1 (.box (.t 0)),oI 2 (.mov (.c (.lst true [])))] none [1]) (.seq (.region [oI 8 (.faddr 0 (.t 1)),oI 9 (.ld none (.t 8)),oI 10 (.call 82 0 true [(.t 9)]),oI 7 (.mov (.t 10)),oI 11 (.ext (.t 7) 0),oI 12 (.ext (.t 7) 1),oI 3 (.mov (.t 11)),oI 4 (.mov (.t 12))] none [3,1]) (.seq (.region [oI 5 (.mov (.c (.lst true []))),oI 6 (.mov (.c (.lst true [])))] none [6,5,3,1]) (.seq (.seq (.region [oI 13 (.faddr 0 (.t 1)),oI 14 (.ld none (.t 13)),oI 15 (.call 134 0 true [(.t 14)])] none [15,6,5,3,1]) (.block 0 (.seq (.seq (.region [oI 17 (.bin .eql (.t 15) (.c (.int .i64 1))),oI 16 (.mov (.t 17))] none [16,15,6,5,3,1]) (.cond (.t 16) .skip (.seq (.region [oI 18 (.bin .eql (.t 15) (.c (.int .i64 2))),oI 16 (.mov (.t 18))] none [16,15,6,5,3,1]) (.cond (.t 16) .skip (.region [oI 19 (.bin .eql (.t 15) (.c (.int .i64 3))),oI 16 (.mov (.t 19))] none [16,15,6,5,3,1]))))) (.cond (.t 16) (.region [oI 20 (.faddr 1 (.t 1)),oI 21 (.ld none (.t 20)),oI 22 (.i2i .u64 (.t 21)),oI 23 (.faddr 0 (.t 1)),oI 24 (.ld none (.t 23)),oI 25 (.call 134 0 true [(.t 24)]),oI 26 (.bin .sub (.t 25) (.c (.int .i64 1))),oI 27 (.bin .shl (.c (.int .i64 1)) (.t 26)),oI 28 (.call 59 0 true [(.t 22),(.t 27)]),oI 5 (.mov (.t 28))] (some [(1,4),(1,5),(5,5),(8,8)]) [6,5,3]) (.seq (.region [oI 30 (.bin .eql (.t 15) (.c (.int .i64 4))),oI 29 (.mov (.t 30))] none [29,15,6,5,3,1]) (.cond (.t 29) (.region [oI 32 (.faddr 1 (.t 1)),oI 33 (.ld none (.t 32)),oI 34 (.call 82 0 true [(.t 33)]),oI 31 (.mov (.t 34)),oI 35 (.ext (.t 31) 0),oI 36 (.ext (.t 31) 1),oI 5 (.mov (.t 35))] none [6,5,3]) (.seq (.region [oI 38 (.bin .eql (.t 15) (.c (.int .i64 5))),oI 37 (.mov (.t 38))] none [37,15,6,5,3,1]) (.cond (.t 37) (.region [oI 40 (.faddr 2 (.t 1)),oI 41 (.ld none (.t 40)),oI 42 (.call 54 0 true [(.t 41)]),oI 39 (.mov (.t 42)),oI 43 (.ext (.t 39) 0),oI 44 (.ext (.t 39) 1),oI 5 (.mov (.t 43))] none [6,5,3]) (.seq (.region [oI 46 (.bin .eql (.t 15) (.c (.int .i64 6))),oI 45 (.mov (.t 46))] none [45,15,6,5,3,1]) (.cond (.t 45) (.region [oI 48 (.faddr 4 (.t 1)),oI 49 (.ld none (.t 48)),oI 50 (.call 55 0 true [(.t 49)]),oI 47 (.mov (.t 50)),oI 51 (.ext (.t 47) 0),oI 52 (.ext (.t 47) 1),oI 5 (.mov (.t 51))] none [6,5,3]) (.seq (.region [oI 54 (.bin .eql (.t 15) (.c (.int .i64 7))),oI 53 (.mov (.t 54))] none [53,6,5,3,1]) (.cond (.t 53) (.seq (.region [oI 56 (.faddr 2 (.t 1)),oI 57 (.ld none (.t 56)),oI 58 (.call 54 0 true [(.t 57)]),oI 55 (.mov (.t 58)),oI 59 (.ext (.t 55) 0),oI 60 (.ext (.t 55) 1),oI 5 (.mov (.t 59))] none [5,3,1]) (.region [oI 62 (.faddr 3 (.t 1)),oI 63 (.ld none (.t 62)),oI 64 (.call 54 0 true [(.t 63)]),oI 61 (.mov (.t 64)),oI 65 (.ext (.t 61) 0),oI 66 (.ext (.t 61) 1),oI 6 (.mov (.t 65))] none [6,5,3])) .skip)))))))))))) (.seq (.region [oI 67 (.mov (.t 3)),oI 68 (.mov (.t 5)),oI 69 (.mov (.t 6)),oI 70 (.bslice false 1 3 (.lst true []) [(0,(.t 67)),(1,(.t 68)),(2,(.t 69))]),oI 71 (.call 56 0 true [(.t 70)]),oI 2 (.mov (.t 71))] none [2]) .ret)))))
def Zm7:ZD:=⟨[(.tmp 2)],Zew⟩
theorem Zf1:FC 89=some Zm7:=by kernel_rfl
theorem ZfW:Zm7.body=Zew:=rfl
theorem ZfK:Zm7.res=[(.tmp 2)]:=rfl
def Zpw:Ze:=(.seq (.region [oI 2 (.alloc [(.int .i64 0),(.int .i64 0)])] none [2,0]) (.seq (.seq (.region [oI 3 (.mov (.t 0))] none [3,2]) (.block 0 (.seq (.region [oI 5 (.bin .eql (.t 3) (.c (.int .i64 1))),oI 4 (.mov (.t 5))] none [4,3,2]) (.cond (.t 4) (.seq (.region [oI 6 (.bslice false 1 2 (.int .i64 0) [(0,(.c (.int .i64 3))),(1,(.c (.int .i64 16)))]),oI 7 (.call 162 0 true [(.t 6)]),oI 8 (.build [(.int .i64 0),(.int .i64 0)] [(0,1,(.c (.int .i64 1))),(1,1,(.t 7))]),oN (.st 2 (.t 2) (.t 8))] none [2]) .ret) (.seq (.region [oI 10 (.bin .eql (.t 3) (.c (.int .i64 2))),oI 9 (.mov (.t 10))] none [9,3,2]) (.cond (.t 9) (.seq (.region [oI 11 (.bslice false 1 2 (.int .i64 0) [(0,(.c (.int .i64 3))),(1,(.c (.int .i64 16)))]),oI 12 (.call 162 0 true [(.t 11)]),oI 13 (.build [(.int .i64 0),(.int .i64 0)] [(0,1,(.c (.int .i64 3))),(1,1,(.t 12))]),oN (.st 2 (.t 2) (.t 13))] none [2]) .ret) (.seq (.seq (.region [oI 15 (.bin .eql (.t 3) (.c (.int .i64 3))),oI 14 (.mov (.t 15))] none [14,3,2]) (.cond (.t 14) .skip (.region [oI 16 (.bin .eql (.t 3) (.c (.int .i64 8))),oI 14 (.mov (.t 16))] none [14,3,2]))) (.cond (.t 14) (.seq (.region [oI 17 (.bslice false 1 2 (.int .i64 0) [(0,(.c (.int .i64 3))),(1,(.c (.int .i64 16)))]),oI 18 (.call 162 0 true [(.t 17)]),oI 19 (.build [(.int .i64 0),(.int .i64 0)] [(0,1,(.c (.int .i64 5))),(1,1,(.t 18))]),oN (.st 2 (.t 2) (.t 19))] none [2]) .ret) (.seq (.region [oI 21 (.bin .eql (.t 3) (.c (.int .i64 9))),oI 20 (.mov (.t 21))] none [20,3,2]) (.cond (.t 20) (.seq (.region [oI 22 (.bslice false 1 2 (.int .i64 0) [(0,(.c (.int .i64 3))),(1,(.c (.int .i64 16)))]),oI 23 (.call 162 0 true [(.t 22)]),oI 24 (.build [(.int .i64 0),(.int .i64 0)] [(0,1,(.c (.int .i64 6))),(1,1,(.t 23))]),oN (.st 2 (.t 2) (.t 24))] none [2]) .ret) (.seq (.region [oI 26 (.bin .eql (.t 3) (.c (.int .i64 11))),oI 25 (.mov (.t 26))] none [25,3,2]) (.cond (.t 25) (.seq (.region [oI 27 (.bslice false 1 2 (.int .i64 0) [(0,(.c (.int .i64 3))),(1,(.c (.int .i64 8)))]),oI 28 (.call 162 0 true [(.t 27)]),oI 29 (.build [(.int .i64 0),(.int .i64 0)] [(0,1,(.c (.int .i64 4))),(1,1,(.t 28))]),oN (.st 2 (.t 2) (.t 29))] none [2]) .ret) (.seq (.region [oI 31 (.bin .eql (.t 3) (.c (.int .i64 17))),oI 30 (.mov (.t 31))] none [30,3,2]) (.cond (.t 30) (.seq (.region [oI 32 (.bslice false 1 3 (.int .i64 0) [(0,(.c (.int .i64 1))),(1,(.c (.int .i64 2))),(2,(.c (.int .i64 14)))]),oI 33 (.call 162 0 true [(.t 32)]),oI 34 (.build [(.int .i64 0),(.int .i64 0)] [(0,1,(.c (.int .i64 3))),(1,1,(.t 33))]),oN (.st 2 (.t 2) (.t 34))] none [2]) .ret) (.seq (.seq (.region [oI 36 (.bin .eql (.t 3) (.c (.int .i64 18))),oI 35 (.mov (.t 36))] none [35,3,2]) (.cond (.t 35) .skip (.region [oI 37 (.bin .eql (.t 3) (.c (.int .i64 26))),oI 35 (.mov (.t 37))] none [35,3,2]))) (.cond (.t 35) (.seq (.region [oI 38 (.bslice false 1 1 (.int .i64 0) [(0,(.c (.int .i64 2)))]),oI 39 (.call 162 0 true [(.t 38)]),oI 40 (.build [(.int .i64 0),(.int .i64 0)] [(0,1,(.c (.int .i64 5))),(1,1,(.t 39))]),oN (.st 2 (.t 2) (.t 40))] none [2]) .ret) (.seq (.region [oI 42 (.bin .eql (.t 3) (.c (.int .i64 19))),oI 41 (.mov (.t 42))] none [41,3,2]) (.cond (.t 41) (.seq (.region [oI 43 (.bslice false 1 1 (.int .i64 0) [(0,(.c (.int .i64 2)))]),oI 44 (.call 162 0 true [(.t 43)]),oI 45 (.build [(.int .i64 0),(.int .i64 0)] [(0,1,(.c (.int .i64 2))),(1,1,(.t 44))]),oN (.st 2 (.t 2) (.t 45))] none [2]) .ret) (.seq (.region [oI 47 (.bin .eql (.t 3) (.c (.int .i64 21))),oI 46 (.mov (.t 47))] none [46,3,2]) (.cond (.t 46) (.seq (.region [oI 48 (.bslice false 1 3 (.int .i64 0) [(0,(.c (.int .i64 1))),(1,(.c (.int .i64 2))),(2,(.c (.int .i64 15)))]),oI 49 (.call 162 0 true [(.t 48)]),oI 50 (.build [(.int .i64 0),(.int .i64 0)] [(0,1,(.c (.int .i64 5))),(1,1,(.t 49))]),oN (.st 2 (.t 2) (.t 50))] none [2]) .ret) (.seq (.region [oI 52 (.bin .eql (.t 3) (.c (.int .i64 22))),oI 51 (.mov (.t 52))] none [51,3,2]) (.cond (.t 51) (.seq (.region [oI 53 (.bslice false 1 3 (.int .i64 0) [(0,(.c (.int .i64 1))),(1,(.c (.int .i64 2))),(2,(.c (.int .i64 15)))]),oI 54 (.call 162 0 true [(.t 53)]),oI 55 (.build [(.int .i64 0),(.int .i64 0)] [(0,1,(.c (.int .i64 6))),(1,1,(.t 54))]),oN (.st 2 (.t 2) (.t 55))] none [2]) .ret) (.seq (.seq (.region [oI 57 (.bin .eql (.t 3) (.c (.int .i64 23))),oI 56 (.mov (.t 57))] none [56,3,2]) (.cond (.t 56) .skip (.region [oI 58 (.bin .eql (.t 3) (.c (.int .i64 25))),oI 56 (.mov (.t 58))] none [56,3,2]))) (.cond (.t 56) (.seq (.region [oI 59 (.bslice false 1 1 (.int .i64 0) [(0,(.c (.int .i64 1)))]),oI 60 (.call 162 0 true [(.t 59)]),oI 61 (.build [(.int .i64 0),(.int .i64 0)] [(0,1,(.c (.int .i64 1))),(1,1,(.t 60))]),oN (.st 2 (.t 2) (.t 61))] none [2]) .ret) (.seq (.region [oI 63 (.bin .eql (.t 3) (.c (.int .i64 24))),oI 62 (.mov (.t 63))] none [62,3,2]) (.cond (.t 62) (.seq (.region [oI 64 (.bslice false 1 1 (.int .i64 0) [(0,(.c (.int .i64 16)))]),oI 65 (.call 162 0 true [(.t 64)]),oI 66 (.build [(.int .i64 0),(.int .i64 0)] [(0,1,(.c (.int .i64 3))),(1,1,(.t 65))]),oN (.st 2 (.t 2) (.t 66))] none [2]) .ret) (.seq (.region [oI 68 (.bin .eql (.t 3) (.c (.int .i64 28))),oI 67 (.mov (.t 68))] none [67,3,2]) (.cond (.t 67) (.seq (.region [oI 69 (.bslice false 1 2 (.int .i64 0) [(0,(.c (.int .i64 2))),(1,(.c (.int .i64 14)))]),oI 70 (.call 162 0 true [(.t 69)]),oI 71 (.build [(.int .i64 0),(.int .i64 0)] [(0,1,(.c (.int .i64 5))),(1,1,(.t 70))]),oN (.st 2 (.t 2) (.t 71))] none [2]) .ret) (.seq (.region [oI 73 (.bin .eql (.t 3) (.c (.int .i64 31))),oI 72 (.mov (.t 73))] none [72,3,2]) (.cond (.t 72) (.seq (.region [oI 74 (.bslice false 1 9 (.int .i64 0) [(0,(.c (.int .i64 2))),(1,(.c (.int .i64 4))),(2,(.c (.int .i64 5))),(3,(.c (.int .i64 6))),(4,(.c (.int .i64 7))),(5,(.c (.int .i64 9))),(6,(.c (.int .i64 11))),(7,(.c (.int .i64 14))),(8,(.c (.int .i64 15)))]),oI 75 (.call 162 0 true [(.t 74)]),oI 76 (.build [(.int .i64 0),(.int .i64 0)] [(0,1,(.c (.int .i64 5))),(1,1,(.t 75))]),oN (.st 2 (.t 2) (.t 76))] none [2]) .ret) (.seq (.seq (.region [oI 78 (.bin .eql (.t 3) (.c (.int .i64 33))),oI 77 (.mov (.t 78))] none [77,3,2]) (.cond (.t 77) .skip (.region [oI 79 (.bin .eql (.t 3) (.c (.int .i64 34))),oI 77 (.mov (.t 79))] none [77,3,2]))) (.cond (.t 77) (.seq (.region [oI 80 (.bslice false 1 2 (.int .i64 0) [(0,(.c (.int .i64 1))),(1,(.c (.int .i64 2)))]),oI 81 (.call 162 0 true [(.t 80)]),oI 82 (.build [(.int .i64 0),(.int .i64 0)] [(0,1,(.c (.int .i64 2))),(1,1,(.t 81))]),oN (.st 2 (.t 2) (.t 82))] none [2]) .ret) (.seq (.region [oI 84 (.bin .eql (.t 3) (.c (.int .i64 35))),oI 83 (.mov (.t 84))] none [83,3,2]) (.cond (.t 83) (.seq (.region [oI 85 (.bslice false 1 1 (.int .i64 0) [(0,(.c (.int .i64 3)))]),oI 86 (.call 162 0 true [(.t 85)]),oI 87 (.build [(.int .i64 0),(.int .i64 0)] [(0,1,(.c (.int .i64 2))),(1,1,(.t 86))]),oN (.st 2 (.t 2) (.t 87))] none [2]) .ret) (.seq (.region [oI 89 (.bin .eql (.t 3) (.c (.int .i64 39))),oI 88 (.mov (.t 89))] none [88,3,2]) (.cond (.t 88) (.seq (.region [oI 90 (.bslice false 1 2 (.int .i64 0) [(0,(.c (.int .i64 1))),(1,(.c (.int .i64 2)))]),oI 91 (.call 162 0 true [(.t 90)]),oI 92 (.build [(.int .i64 0),(.int .i64 0)] [(0,1,(.c (.int .i64 3))),(1,1,(.t 91))]),oN (.st 2 (.t 2) (.t 92))] none [2]) .ret) (.seq (.seq (.region [oI 94 (.bin .eql (.t 3) (.c (.int .i64 36))),oI 93 (.mov (.t 94))] none [93,3,2]) (.cond (.t 93) .skip (.seq (.region [oI 95 (.bin .eql (.t 3) (.c (.int .i64 37))),oI 93 (.mov (.t 95))] none [93,3,2]) (.cond (.t 93) .skip (.seq (.region [oI 96 (.bin .eql (.t 3) (.c (.int .i64 40))),oI 93 (.mov (.t 96))] none [93,3,2]) (.cond (.t 93) .skip (.seq (.region [oI 97 (.bin .eql (.t 3) (.c (.int .i64 41))),oI 93 (.mov (.t 97))] none [93,3,2]) (.cond (.t 93) .skip (.region [oI 98 (.bin .eql (.t 3) (.c (.int .i64 42))),oI 93 (.mov (.t 98))] none [93,3,2]))))))))) (.cond (.t 93) (.seq (.region [oI 99 (.bslice false 1 1 (.int .i64 0) [(0,(.c (.int .i64 2)))]),oI 100 (.call 162 0 true [(.t 99)]),oI 101 (.build [(.int .i64 0),(.int .i64 0)] [(0,1,(.c (.int .i64 1))),(1,1,(.t 100))]),oN (.st 2 (.t 2) (.t 101))] none [2]) .ret) (.seq (.region [oI 103 (.bin .eql (.t 3) (.c (.int .i64 38))),oI 102 (.mov (.t 103))] none [102,2]) (.cond (.t 102) (.seq (.region [oI 104 (.bslice false 1 3 (.int .i64 0) [(0,(.c (.int .i64 0))),(1,(.c (.int .i64 12))),(2,(.c (.int .i64 13)))]),oI 105 (.call 162 0 true [(.t 104)]),oI 106 (.un .xor (.t 105)),oI 107 (.build [(.int .i64 0),(.int .i64 0)] [(0,1,(.c (.int .i64 7))),(1,1,(.t 106))]),oN (.st 2 (.t 2) (.t 107))] none [2]) .ret) .skip)))))))))))))))))))))))))))))))))))))))) (.seq (.region [oI 108 (.build [(.int .i64 0),(.int .i64 0)] []),oN (.st 2 (.t 2) (.t 108))] none [2]) .ret)))
def Zo0:ZD:=⟨[(.cell 2 (some 2))],Zpw⟩
theorem Zx0:FC 152=some Zo0:=by kernel_rfl
theorem ZvQ:Zo0.body=Zpw:=rfl
theorem ZHp:Zo0.res=[(.cell 2 (some 2))]:=rfl
def ZoW:Ze:=(.seq (.region [oI 4 (.mov (.c (.bool false)))] none [1,0]) (.seq (.region [oI 5 (.mov (.t 0)),oI 6 (.bin .eql (.t 5) (.c (.int .i64 38))),oI 7 (.mov (.t 6)),⟨(some 8),(.mov (.t 0)),(some (7,false)),[]⟩,⟨(some 9),(.bin .eql (.t 8) (.c (.int .i64 11))),(some (7,false)),[]⟩,⟨(some 10),(.mov (.t 9)),(some (7,false)),[]⟩,⟨(some 11),(.mov (.t 1)),(some (10,true)),[]⟩,⟨(some 12),(.bin .eql (.t 11) (.c (.int .i64 3))),(some (10,true)),[]⟩,⟨(some 13),(.pick (.t 10) (.t 12) (.c (.bool false))),(some (7,false)),[]⟩,oI 14 (.pick (.t 7) (.c (.bool true)) (.t 13)),oI 4 (.mov (.t 14))] none [4]) .ret))
def Zpv:ZD:=⟨[(.tmp 4)],ZoW⟩
theorem ZxV:FC 155=some Zpv:=by kernel_rfl
theorem ZGD:Zpv.body=ZoW:=rfl
theorem ZL4:Zpv.res=[(.tmp 4)]:=rfl
def Zet:Ze:=(.seq (.region [oI 6 (.alloc [(.int .i64 0),(.int .i64 0),(.str []),(.str []),(.lst true [])]),oI 7 (.mov (.c (.int .i64 0))),oI 8 (.mov (.c (.int .i64 0)))] none [6,2,1,0]) (.seq (.region [oI 16 (.mov (.t 1)),oI 17 (.call 135 0 true [(.t 16)]),oI 15 (.mov (.t 17)),oI 18 (.ext (.t 15) 0),oI 19 (.ext (.t 15) 1),oI 20 (.ext (.t 15) 2),oI 9 (.mov (.t 18)),oI 10 (.mov (.t 19)),oI 11 (.mov (.t 20))] none [11,10,9,6,2,1,0]) (.seq (.seq (.region [oI 21 (.mov (.t 11)),oI 22 (.bin .neq (.t 21) (.c (.int .i64 0))),oI 23 (.mov (.t 22)),⟨(some 24),(.mov (.t 9)),(some (23,false)),[]⟩,⟨(some 25),(.mov (.t 0)),(some (23,false)),[]⟩,⟨(some 26),(.call 153 0 true [(.t 24),(.t 25)]),(some (23,false)),[]⟩,⟨(some 27),(.un .not (.t 26)),(some (23,false)),[]⟩,oI 28 (.pick (.t 23) (.c (.bool true)) (.t 27))] none [28,10,9,6,2,1,0]) (.cond (.t 28) (.seq (.region [oI 29 (.ld (some 5) (.t 6)),oN (.st 5 (.t 6) (.t 29)),oI 7 (.mov (.c (.int .i64 0))),oI 8 (.mov (.c (.int .i64 129)))] none [8,7,6]) .ret) .skip)) (.seq (.region [oI 31 (.mov (.t 9)),oI 32 (.mov (.t 1)),oI 33 (.mov (.t 10)),oI 34 (.slice 1 (.t 32) (some (.t 33)) none none),oI 35 (.call 154 0 true [(.t 31),(.t 34)]),oI 30 (.mov (.t 35)),oI 36 (.ext (.t 30) 0),oI 37 (.ext (.t 30) 1),oI 38 (.ext (.t 30) 2),oN (.st 5 (.t 6) (.t 36)),oI 7 (.mov (.t 37)),oI 12 (.mov (.t 38))] none [12,10,9,7,6,2,0]) (.seq (.region [oI 40 (.mov (.t 9)),oI 41 (.mov (.t 2)),oI 42 (.call 112 0 true [(.t 40),(.t 41)]),oI 39 (.mov (.t 42)),oI 43 (.ext (.t 39) 0),oI 44 (.ext (.t 39) 1),oI 13 (.alloc [(.int .i64 0),(.int .i64 0),(.str []),(.str []),(.lst true [])]),oN (.st 5 (.t 13) (.t 43)),oI 14 (.mov (.t 44))] none [14,12,10,9,7,6,0]) (.seq (.block 0 (.seq (.region [oI 46 (.mov (.t 12)),oI 47 (.un .not (.t 46)),oI 45 (.mov (.t 47))] none [45,14,10,9,7,6,0]) (.cond (.t 45) (.seq (.region [oI 48 (.ld (some 5) (.t 6)),oN (.st 5 (.t 6) (.t 48)),oI 7 (.mov (.c (.int .i64 0))),oI 8 (.mov (.c (.int .i64 129)))] none [8,7,6]) .ret) (.seq (.region [oI 50 (.mov (.t 14)),oI 51 (.mov (.t 50)),⟨(some 52),(.mov (.t 9)),(some (51,true)),[]⟩,⟨(some 53),(.mov (.t 0)),(some (51,true)),[]⟩,⟨(some 54),(.call 155 0 true [(.t 52),(.t 53)]),(some (51,true)),[]⟩,⟨(some 55),(.un .not (.t 54)),(some (51,true)),[]⟩,oI 56 (.pick (.t 51) (.t 55) (.c (.bool false))),oI 49 (.mov (.t 56))] none [49,10,9,7,6]) (.cond (.t 49) (.seq (.region [oI 57 (.ld (some 5) (.t 6)),oN (.st 5 (.t 6) (.t 57)),oI 7 (.mov (.c (.int .i64 0))),oI 8 (.mov (.c (.int .i64 130)))] none [8,7,6]) .ret) (.seq (.region [oI 59 (.ld (some 5) (.t 6)),oI 60 (.call 156 0 true [(.t 59)]),oI 58 (.mov (.t 60))] none [58,10,9,7,6]) (.cond (.t 58) (.seq (.region [oI 61 (.ld (some 5) (.t 6)),oI 62 (.mov (.t 10)),oI 63 (.mov (.t 7)),oI 64 (.bin .add (.t 62) (.t 63)),oN (.st 5 (.t 6) (.t 61)),oI 7 (.mov (.t 64)),oI 8 (.mov (.c (.int .i64 0)))] none [8,7,6]) .ret) (.seq (.region [oI 66 (.mov (.t 9)),oI 67 (.bin .eql (.t 66) (.c (.int .i64 35))),oI 65 (.mov (.t 67))] none [65,6]) (.cond (.t 65) (.seq (.region [oI 68 (.ld (some 5) (.t 6)),oN (.st 5 (.t 6) (.t 68)),oI 7 (.mov (.c (.int .i64 0))),oI 8 (.mov (.c (.int .i64 148)))] none [8,7,6]) .ret) .skip))))))))) (.seq (.region [oI 69 (.ld (some 5) (.t 6)),oN (.st 5 (.t 6) (.t 69)),oI 7 (.mov (.c (.int .i64 0))),oI 8 (.mov (.c (.int .i64 130)))] none [8,7,6]) .ret)))))))
def Zqm:ZD:=⟨[(.cell 6 (some 5)),(.tmp 7),(.tmp 8)],Zet⟩
theorem Zf3:FC 136=some Zqm:=by kernel_rfl
theorem Zfo:Zqm.body=Zet:=rfl
theorem ZfF:Zqm.res=[(.cell 6 (some 5)),(.tmp 7),(.tmp 8)]:=rfl
def ZcQ:Ze:=(.seq (.region [oI 4 (.alloc [(.int .i64 0),(.int .i64 0),(.str []),(.str []),(.lst true [])]),oI 5 (.mov (.c (.int .i64 0))),oI 6 (.mov (.c (.bool false)))] none [5,4,1,0]) (.seq (.region [oI 9 (.mov (.t 0)),oI 10 (.faddr 0 (.t 4)),oN (.st 1 (.t 10) (.t 9))] none [5,4,1,0]) (.seq (.region [oI 7 (.mov (.c (.int .i64 0)))] none [7,5,4,1,0]) (.seq (.seq (.region [oI 11 (.mov (.t 0)),oI 12 (.call 134 0 true [(.t 11)])] none [12,7,5,4,1,0]) (.block 0 (.seq (.seq (.region [oI 14 (.bin .eql (.t 12) (.c (.int .i64 1))),oI 13 (.mov (.t 14))] none [13,12,7,5,4,1,0]) (.cond (.t 13) .skip (.seq (.region [oI 15 (.bin .eql (.t 12) (.c (.int .i64 2))),oI 13 (.mov (.t 15))] none [13,12,7,5,4,1,0]) (.cond (.t 13) .skip (.region [oI 16 (.bin .eql (.t 12) (.c (.int .i64 3))),oI 13 (.mov (.t 16))] none [13,12,7,5,4,1,0]))))) (.cond (.t 13) (.seq (.region [oI 17 (.mov (.t 0)),oI 18 (.call 134 0 true [(.t 17)]),oI 19 (.bin .sub (.t 18) (.c (.int .i64 1))),oI 20 (.bin .shl (.c (.int .i64 1)) (.t 19)),oI 5 (.mov (.t 20))] none [7,5,4,1]) (.seq (.seq (.region [oI 21 (.mov (.t 1)),oI 22 (.len (.t 21)),oI 23 (.mov (.t 5)),oI 24 (.bin .lss (.t 22) (.t 23))] none [24,7,5,4,1]) (.cond (.t 24) (.seq (.region [oI 25 (.ld (some 5) (.t 4)),oN (.st 5 (.t 4) (.t 25)),oI 5 (.mov (.c (.int .i64 0))),oI 6 (.mov (.c (.bool false)))] none [6,5,4]) .ret) .skip)) (.region [oI 26 (.mov (.t 1)),oI 27 (.mov (.t 5)),oI 28 (.slice 1 (.t 26) none (some (.t 27)) none),oI 29 (.call 108 0 true [(.t 28)]),oI 30 (.i2i .i64 (.t 29)),oI 31 (.faddr 1 (.t 4)),oN (.st 1 (.t 31) (.t 30))] none [7,5,4]))) (.seq (.region [oI 33 (.bin .eql (.t 12) (.c (.int .i64 4))),oI 32 (.mov (.t 33))] none [32,12,7,5,4,1]) (.cond (.t 32) (.region [oI 35 (.mov (.t 1)),oI 36 (.call 135 0 true [(.t 35)]),oI 34 (.mov (.t 36)),oI 37 (.ext (.t 34) 0),oI 38 (.ext (.t 34) 1),oI 39 (.ext (.t 34) 2),oI 40 (.faddr 1 (.t 4)),oN (.st 1 (.t 40) (.t 37)),oI 5 (.mov (.t 38)),oI 7 (.mov (.t 39))] none [7,5,4]) (.seq (.region [oI 42 (.bin .eql (.t 12) (.c (.int .i64 5))),oI 41 (.mov (.t 42))] none [41,12,7,5,4,1]) (.cond (.t 41) (.region [oI 44 (.mov (.t 1)),oI 45 (.call 109 0 true [(.t 44)]),oI 43 (.mov (.t 45)),oI 46 (.ext (.t 43) 0),oI 47 (.ext (.t 43) 1),oI 48 (.ext (.t 43) 2),oI 49 (.faddr 2 (.t 4)),oN (.st 1 (.t 49) (.t 46)),oI 5 (.mov (.t 47)),oI 7 (.mov (.t 48))] none [7,5,4]) (.seq (.region [oI 51 (.bin .eql (.t 12) (.c (.int .i64 6))),oI 50 (.mov (.t 51))] none [50,12,7,5,4,1]) (.cond (.t 50) (.region [oI 53 (.mov (.t 1)),oI 54 (.call 106 0 true [(.t 53)]),oI 52 (.mov (.t 54)),oI 55 (.ext (.t 52) 0),oI 56 (.ext (.t 52) 1),oI 57 (.ext (.t 52) 2),oI 58 (.faddr 4 (.t 4)),oN (.st 1 (.t 58) (.t 55)),oI 5 (.mov (.t 56)),oI 7 (.mov (.t 57))] none [7,5,4]) (.seq (.region [oI 60 (.bin .eql (.t 12) (.c (.int .i64 7))),oI 59 (.mov (.t 60))] none [59,7,5,4,1]) (.cond (.t 59) (.seq (.region [oI 62 (.mov (.t 1)),oI 63 (.call 109 0 true [(.t 62)]),oI 61 (.mov (.t 63)),oI 64 (.ext (.t 61) 0),oI 65 (.ext (.t 61) 1),oI 66 (.ext (.t 61) 2),oI 67 (.faddr 2 (.t 4)),oN (.st 1 (.t 67) (.t 64)),oI 5 (.mov (.t 65)),oI 7 (.mov (.t 66))] none [7,5,4,1]) (.seq (.region [oI 68 (.mov (.t 7)),oI 69 (.bin .eql (.t 68) (.c (.int .i64 0)))] none [69,7,5,4,1]) (.cond (.t 69) (.seq (.region [oI 8 (.mov (.c (.int .i64 0)))] none [5,4,1]) (.seq (.region [oI 71 (.mov (.t 1)),oI 72 (.mov (.t 5)),oI 73 (.slice 1 (.t 71) (some (.t 72)) none none),oI 74 (.call 109 0 true [(.t 73)]),oI 70 (.mov (.t 74)),oI 75 (.ext (.t 70) 0),oI 76 (.ext (.t 70) 1),oI 77 (.ext (.t 70) 2),oI 78 (.faddr 3 (.t 4)),oN (.st 1 (.t 78) (.t 75)),oI 8 (.mov (.t 76)),oI 7 (.mov (.t 77))] none [8,7,5,4]) (.region [oI 79 (.mov (.t 5)),oI 80 (.mov (.t 8)),oI 81 (.bin .add (.t 79) (.t 80)),oI 5 (.mov (.t 81))] none [7,5,4]))) .skip))) .skip)))))))))))) (.seq (.region [oI 82 (.ld (some 5) (.t 4)),oI 83 (.mov (.t 5)),oI 84 (.mov (.t 7)),oI 85 (.bin .eql (.t 84) (.c (.int .i64 0))),oN (.st 5 (.t 4) (.t 82)),oI 5 (.mov (.t 83)),oI 6 (.mov (.t 85))] none [6,5,4]) .ret)))))
def ZnK:ZD:=⟨[(.cell 4 (some 5)),(.tmp 5),(.tmp 6)],ZcQ⟩
theorem ZdY:FC 154=some ZnK:=by kernel_rfl
theorem Zdu:ZnK.body=ZcQ:=rfl
theorem Zdr:ZnK.res=[(.cell 4 (some 5)),(.tmp 5),(.tmp 6)]:=rfl
def Zo4:Ze:=(.seq (.region [oI 2 (.box (.t 0)),oI 3 (.box (.t 1)),oI 4 (.mov (.c (.bool false)))] none [3,2]) (.seq (.region [oI 5 (.faddr 0 (.t 2)),oI 6 (.ld none (.t 5)),oI 7 (.faddr 0 (.t 3)),oI 8 (.ld none (.t 7)),oI 9 (.bin .eql (.t 6) (.t 8)),oI 10 (.mov (.t 9)),⟨(some 11),(.faddr 1 (.t 2)),(some (10,true)),[]⟩,⟨(some 12),(.ld none (.t 11)),(some (10,true)),[]⟩,⟨(some 13),(.faddr 1 (.t 3)),(some (10,true)),[]⟩,⟨(some 14),(.ld none (.t 13)),(some (10,true)),[]⟩,⟨(some 15),(.bin .eql (.t 12) (.t 14)),(some (10,true)),[]⟩,oI 16 (.pick (.t 10) (.t 15) (.c (.bool false))),oI 17 (.mov (.t 16)),⟨(some 18),(.faddr 2 (.t 2)),(some (17,true)),[]⟩,⟨(some 19),(.ld none (.t 18)),(some (17,true)),[]⟩,⟨(some 20),(.faddr 2 (.t 3)),(some (17,true)),[]⟩,⟨(some 21),(.ld none (.t 20)),(some (17,true)),[]⟩,⟨(some 22),(.bin .eql (.t 19) (.t 21)),(some (17,true)),[]⟩,oI 23 (.pick (.t 17) (.t 22) (.c (.bool false))),oI 24 (.mov (.t 23)),⟨(some 25),(.faddr 3 (.t 2)),(some (24,true)),[]⟩,⟨(some 26),(.ld none (.t 25)),(some (24,true)),[]⟩,⟨(some 27),(.faddr 3 (.t 3)),(some (24,true)),[]⟩,⟨(some 28),(.ld none (.t 27)),(some (24,true)),[]⟩,⟨(some 29),(.bin .eql (.t 26) (.t 28)),(some (24,true)),[]⟩,oI 30 (.pick (.t 24) (.t 29) (.c (.bool false))),oI 31 (.mov (.t 30)),⟨(some 32),(.faddr 4 (.t 2)),(some (31,true)),[]⟩,⟨(some 33),(.ld none (.t 32)),(some (31,true)),[]⟩,⟨(some 34),(.b2s (.t 33)),(some (31,true)),[]⟩,⟨(some 35),(.faddr 4 (.t 3)),(some (31,true)),[]⟩,⟨(some 36),(.ld none (.t 35)),(some (31,true)),[]⟩,⟨(some 37),(.b2s (.t 36)),(some (31,true)),[]⟩,⟨(some 38),(.bin .eql (.t 34) (.t 37)),(some (31,true)),[]⟩,oI 39 (.pick (.t 31) (.t 38) (.c (.bool false))),oI 4 (.mov (.t 39))] none [4]) .ret))
def Zpr:ZD:=⟨[(.tmp 4)],Zo4⟩
theorem ZGR:FC 110=some Zpr:=by kernel_rfl
theorem ZIA:Zpr.body=Zo4:=rfl
theorem ZBb:Zpr.res=[(.tmp 4)]:=rfl
def Zqp:Ze:=(.seq (.region [oI 4 (.mov (.c (.bool true)))] none [4]) .ret)
def Zor:Ze:=Zqp
def ZKv:=xw Zor Zqp rfl
def Zlq:Ze:=(.seq (.seq (.region [oI 11 (.mov (.t 5)),oI 12 (.mov (.t 0)),oI 13 (.len (.t 12)),oI 14 (.bin .lss (.t 11) (.t 13))] none [14,5,1,0]) (.cond (.t 14) .skip (.exit 0))) (.seq (.block 1 (.seq (.region [oI 17 (.mov (.t 0)),oI 18 (.mov (.t 5)),oI 19 (.iaddr 5 (.t 17) (.t 18)),oI 20 (.ld (some 5) (.t 19)),oI 21 (.mov (.t 1)),oI 22 (.mov (.t 5)),oI 23 (.iaddr 5 (.t 21) (.t 22)),oI 24 (.ld (some 5) (.t 23)),oI 25 (.call 110 0 true [(.t 20),(.t 24)]),oI 26 (.un .not (.t 25))] (some [(2,6),(3,6),(2,7),(3,7),(8,8)]) [26,5,1,0]) (.cond (.t 26) (.seq (.region [oI 4 (.mov (.c (.bool false)))] none [4]) .ret) .skip))) (.region [oI 15 (.mov (.t 5)),oI 16 (.bin .add (.t 15) (.c (.int .i64 1))),oI 5 (.mov (.t 16))] none [5,1,0])))
def ZnG:Ze:=Zlq
def ZrT:=xw ZnG Zlq rfl
def ZlK:Ze:=(.seq (.region [oI 4 (.mov (.c (.bool false)))] none [1,0]) (.seq (.seq (.region [oI 6 (.mov (.t 0)),oI 7 (.len (.t 6)),oI 8 (.mov (.t 1)),oI 9 (.len (.t 8)),oI 10 (.bin .neq (.t 7) (.t 9))] none [10,1,0]) (.cond (.t 10) (.seq (.region [oI 4 (.mov (.c (.bool false)))] none [4]) .ret) .skip)) (.seq (.seq (.region [oI 5 (.mov (.c (.int .i64 0)))] none [5,1,0]) (.block 0 (.loop [5,1,0] ZnG))) Zor)))
def Zkq:ZD:=⟨[(.tmp 4)],ZlK⟩
theorem ZCM:FC 72=some Zkq:=by kernel_rfl
theorem ZvG:Zkq.body=ZlK:=rfl
theorem ZoN:Zkq.res=[(.tmp 4)]:=rfl
noncomputable def Zjt (m:Nat) (tm:Tms) (σ:Za):Option (AVal×Za):=(Zaq m Zkq (ZbG FC PR BY m Zor (Option.map (ZaW 0) (evL FC PR BY m [5,1,0] ZnG tm σ))))
end Go.Proofs.YtmlkhhidifjjfaaDoor
namespace Go.Proofs.YtmlkhhidifjjfaaDoor
set_option maxHeartbeats 4000000
set_option maxRecDepth 10000
end Go.Proofs.YtmlkhhidifjjfaaDoor
