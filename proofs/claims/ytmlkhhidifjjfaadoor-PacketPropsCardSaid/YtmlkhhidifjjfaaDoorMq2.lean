/- packed -/
import Derived.Test.YtmlkhhidifjjfaaDoorMq1
import Derived.Laws.Cover3
import Derived.Lib.Index
import Derived.Shelf.Unicode.ValidAny
import Derived.Shelf.Strings.Count
import Derived.Test.YtmlkhhidifjjfaaDoorProg
import Derived.Deep.Slices
import Derived.ChangeArms
import Derived.WideShapes
import GoSem.ClaimChange
import Derived.Lib.TrimUEq
import Derived.Lib.MapLaws
import Derived.Lib.ValidLaws
set_option linter.defProp false
set_option linter.unusedSimpArgs false
set_option linter.unusedVariables false
namespace Go.Proofs.YtmlkhhidifjjfaaDoor
open Go.RowKit
def OLe (O O' : Oracle) : Prop:=∀ f a σ r,O f a σ=some r→O' f a σ=some r
section
variable {O O' : Oracle} {byref : Nat→Bool}
theorem askO_mono {view : Bool} {m : Nat} {x y : Option (AVal×AHeap)} (h : ∀ r,x=some r→y=some r) {r : AVal×AHeap} (hr : askO view m x=some r) : askO view m y=some r:=by
 cases x with
 | none=>cases view <;> simp [askO,resV] at hr
 | some q=>rw [h q rfl];exact hr
theorem backG_mono {σ σf : AHeap} {ids ts : List Nat} {site own : Nat} {x y : Option (AVal×AHeap)} (h : ∀ r,x=some r→y=some r) {r : AVal×AHeap×Cls} (hr : backG σ σf ids ts site own x=some r) : backG σ σf ids ts site own y=some r:=by
 cases x with
 | none=>simp only [backG] at hr;cases hr
 | some q=>rw [h q rfl];exact hr
theorem callG_mono (hO : OLe O O') {σ : AHeap} {site f own : Nat} {view : Bool} {args : List AVal} {r : AVal×AHeap×Cls} (h : callG O byref σ site f own view args=some r) : callG O' byref σ site f own view args=some r:=by
 unfold callG callI at h ⊢
 split at h
 ·cases h
 ·rename_i vs ts hv
  split at h
  ·rename_i hc
   simp only [hc,if_true]
   exact backG_mono (fun q hq=>askO_mono (fun q hq=>hO _ _ _ _ hq) hq) h
  ·cases h
theorem execI_mono (hO : OLe O O') {tm : Tms} {σ : AHeap} {site : Nat} {ins : Ins} {r : AVal×AHeap×Cls} (h : execI O byref tm σ site ins=some r) : execI O' byref tm σ site ins=some r:=by
 cases ins
 case call f own view args =>
  simp only [execI] at h ⊢
  exact callG_mono hO h
 case callv x args =>
  simp only [execI] at h ⊢
  split at h
  ·exact callG_mono hO h
  ·cases h
 all_goals exact h
theorem stepA_mono (hO : OLe O O') {o : AOp} {tm : Tms} {σ : AHeap} {site : Nat} {r : AVal×Tms×AHeap×Cls} (h : stepA O byref o site tm σ=some r) : stepA O' byref o site tm σ=some r:=by
 unfold stepA at h ⊢
 split at h
 ·cases h
 ·exact h
 ·split at h
  ·rename_i hf
   rw [if_pos hf]
   split at h
   ·rename_i he;rw [execI_mono hO he];exact h
   ·cases h
  ·cases h
theorem runOps_mono (hO : OLe O O') : ∀ {ops : List AOp} {s : Nat} {tm : Tms} {σ : AHeap} {r : Tms×AHeap×List Cls×Option AVal},runOps O byref ops s tm σ=some r→runOps O' byref ops s tm σ=some r
 | [],_,_,_,_,h=>h
 | o::ops,s,tm,σ,r,h=>by
  simp only [runOps] at h ⊢
  split at h
  ·cases h
  ·rename_i h1
   rw [stepA_mono hO h1]
   exact h
  ·rename_i v tm1 σ1 c hnp h1
   rw [stepA_mono hO h1]
   simp only
   split at h
   ·cases h
   rename_i h2
   rw [runOps_mono hO h2]
   exact h
theorem runRegion_mono (hO : OLe O O') {ops : List AOp} {chk : Option (List (Nat×Nat))} {live : List Nat} {tm : Tms} {σ : AHeap} {r : AExit×Tms×AHeap} (h : runRegion O byref ops chk live tm σ=some r) : runRegion O' byref ops chk live tm σ=some r:=by
 unfold runRegion at h ⊢
 cases hx : runOps O byref ops σ.length tm (σ++List.replicate (sitesOf ops) .free) with
 | none=>rw [hx] at h;simp only [regX] at h;cases h
 | some q=>rw [runOps_mono hO hx];rw [hx] at h;exact h
theorem iterA_mono {m0 : Nat} {live : List Nat} {f f' : Tms→AHeap→Option (AExit×Tms×AHeap)} (hf : ∀ tm σ r,f tm σ=some r→f' tm σ=some r) : ∀ {n n' : Nat} {tm : Tms} {σ : AHeap} {r : AExit×Tms×AHeap},n≤n'→iterA m0 live f n tm σ=some r→iterA m0 live f' n' tm σ=some r
 | 0,_,_,_,_,_,h=>by simp only [iterA] at h;cases h
 | n+1,0,_,_,_,hn,_=>by omega
 | n+1,n'+1,tm,σ,r,hn,h=>by
  simp only [iterA] at h ⊢
  split at h
  ·rename_i h1
   rw [hf _ _ _ h1]
   exact iterA_mono hf (by omega) h
  ·rename_i hne
   rw [hf _ _ _ h]
   split
   ·rename_i e;injection e with e;subst e;exact absurd h (hne _ _)
   ·rfl
theorem execC_mono (hO : OLe O O') {m0 : Nat} : ∀ {c : ACode} {n n' : Nat} {tm : Tms} {σ : AHeap} {r : AExit×Tms×AHeap},n≤n'→execC O byref m0 n c tm σ=some r→execC O' byref m0 n' c tm σ=some r:=by
 intro c
 induction c with
 | skip=>intro n n' tm σ r _ h;exact h
 | exit id=>intro n n' tm σ r _ h;exact h
 | ret=>intro n n' tm σ r _ h;exact h
 | stuck=>intro n n' tm σ r _ h;exact h
 | region ops chk live =>
  intro n n' tm σ r _ h
  simp only [execC] at h ⊢
  exact runRegion_mono hO h
 | seq a b iha ihb =>
  intro n n' tm σ r hn h
  simp only [execC] at h ⊢
  split at h
  ·rename_i h1;rw [iha hn h1];exact ihb hn h
  ·rename_i hne
   rw [iha hn h]
   split
   ·rename_i e;injection e with e;subst e;exact absurd h (hne _ _)
   ·rfl
 | cond c a b iha ihb =>
  intro n n' tm σ r hn h
  simp only [execC] at h ⊢
  split at h
  ·exact iha hn h
  ·exact ihb hn h
  ·cases h
 | block id c ih =>
  intro n n' tm σ r hn h
  simp only [execC] at h ⊢
  split at h
  ·rename_i h1;rw [ih hn h1];exact h
  ·rename_i hne
   rw [ih hn h]
   split
   ·rename_i e;injection e with e;subst e;exact absurd h (hne _ _ _)
   ·rfl
 | loop live c ih =>
  intro n n' tm σ r hn h
  simp only [execC] at h ⊢
  exact iterA_mono (fun tm σ r h=>ih hn h) hn h
theorem finA_mono {m0 : Nat} {fn : AFunc} {x y : Option (AExit×Tms×AHeap)} (h : ∀ r,x=some r→y=some r) {r : AVal×AHeap} (hr : finA m0 fn x=some r) : finA m0 fn y=some r:=by
 cases x with
 | none=>simp only [finA] at hr;cases hr
 | some q=>rw [h q rfl];exact hr
theorem callA_step (fs : Nat→Option AFunc) (prim : Prims) : ∀ n,OLe (callA fs prim byref n) (callA fs prim byref (n+1))
 | 0=>by intro f a σ r h;simp only [callA] at h;cases h
 | n+1=>by
  intro f a σ r h
  rw [callA] at h ⊢
  split at h
  ·rename_i g hg;exact h
  ·rename_i hg
   split at h
   ·cases h
   ·rename_i fn hfn
    exact finA_mono (fun q hq=>execC_mono (callA_step fs prim n) (by omega) hq) h
theorem callA_mono (fs : Nat → Option AFunc) (prim : Prims) {n m : Nat} (h : n ≤ m) : OLe (callA fs prim byref n) (callA fs prim byref m) := by
  induction m with
  | zero => obtain rfl : n = 0 := by omega
            exact fun _ _ _ _ h => h
  | succ m ih =>
    by_cases e : n = m + 1
    · subst e; exact fun _ _ _ _ h => h
    · exact fun f a σ r hr => callA_step fs prim m f a σ r (ih (by omega) f a σ r hr)
end
section
variable (fs : Nat→Option AFunc) (prim : Prims) (byref : Nat→Bool)
open Classical in
noncomputable def EV : Oracle:=fun f args σ=>if h : ∃ r,∃ n,callA fs prim byref n f args σ=some r then some h.choose else none
open Classical in
noncomputable def evC (m : Nat) (c : ACode) (tm : Tms) (σ : AHeap) : Option (AExit×Tms×AHeap):=if h : ∃ r,∃ n,execC (callA fs prim byref n) byref m n c tm σ=some r then some h.choose else none
variable {fs prim byref} {m0 : Nat}
theorem EV_some {f : Nat} {args : List AVal} {σ : AHeap} {r : AVal×AHeap} : EV fs prim byref f args σ=some r↔∃ n,callA fs prim byref n f args σ=some r:=by
 unfold EV
 constructor
 ·intro h
  split at h
  ·rename_i hx
   injection h with h
   rw [←h]
   exact hx.choose_spec
  ·cases h
 ·rintro ⟨n,hn⟩
  have hx : ∃ r,∃ n,callA fs prim byref n f args σ=some r:=⟨r,n,hn⟩
  rw [dif_pos hx]
  obtain ⟨m,hm⟩:=hx.choose_spec
  have h1:=callA_mono (byref:=byref) fs prim (Nat.le_max_left n m) _ _ _ _ hn
  have h2:=callA_mono (byref:=byref) fs prim (Nat.le_max_right n m) _ _ _ _ hm
  rw [h1] at h2
  injection h2 with h2
  rw [←h2]
theorem evC_some {c : ACode} {tm : Tms} {σ : AHeap} {r : AExit×Tms×AHeap} : evC fs prim byref m0 c tm σ=some r↔∃ n,execC (callA fs prim byref n) byref m0 n c tm σ=some r:=by
 unfold evC
 constructor
 ·intro h
  split at h
  ·rename_i hx
   injection h with h
   rw [←h]
   exact hx.choose_spec
  ·cases h
 ·rintro ⟨n,hn⟩
  have hx : ∃ r,∃ n,execC (callA fs prim byref n) byref m0 n c tm σ=some r:=⟨r,n,hn⟩
  rw [dif_pos hx]
  obtain ⟨m,hm⟩:=hx.choose_spec
  have h1:=execC_mono (callA_mono (byref:=byref) fs prim (Nat.le_max_left n m)) (Nat.le_max_left n m) hn
  have h2:=execC_mono (callA_mono (byref:=byref) fs prim (Nat.le_max_right n m)) (Nat.le_max_right n m) hm
  rw [h1] at h2
  injection h2 with h2
  rw [←h2]
theorem opt_ext {α : Type} {x y : Option α} (h : ∀ r,x=some r↔y=some r) : x=y:=by
 cases x with
 | none =>
  cases y with
  | none=>rfl
  | some q=>exact absurd ((h q).2 rfl) (by simp)
 | some q=>exact ((h q).1 rfl).symm
theorem ole_EV (n : Nat) : OLe (callA fs prim byref n) (EV fs prim byref):=fun _ _ _ _ h=>EV_some.2 ⟨n,h⟩
theorem up {n m : Nat} (h : n≤m) : OLe (callA fs prim byref n) (callA fs prim byref m):=callA_mono fs prim h
theorem EV_prim {f : Nat} {g : List AVal→AHeap→Option (AVal×AHeap)} (hp : prim f=some g) (args : List AVal) (σ : AHeap) : EV fs prim byref f args σ=g args σ:=by
 apply opt_ext
 intro r
 rw [EV_some]
 constructor
 ·rintro ⟨n,h⟩
  cases n with
  | zero=>simp only [callA] at h;cases h
  | succ n=>rw [callA,hp] at h;exact h
 ·intro h
  exact ⟨1,by rw [callA,hp];exact h⟩
theorem EV_eq {f : Nat} {fn : AFunc} (hp : prim f=none) (hf : fs f=some fn) (args : List AVal) (σ : AHeap) : EV fs prim byref f args σ=finA σ.length fn (evC fs prim byref σ.length fn.body (enterA 0 args []) σ):=by
 apply opt_ext
 intro r
 rw [EV_some]
 constructor
 ·rintro ⟨n,h⟩
  cases n with
  | zero=>simp only [callA] at h;cases h
  | succ n =>
   rw [callA,hp,hf] at h
   exact finA_mono (fun q hq=>evC_some.2 ⟨n,hq⟩) h
 ·intro h
  cases hx : evC fs prim byref σ.length fn.body (enterA 0 args []) σ with
  | none=>rw [hx] at h;simp only [finA] at h;cases h
  | some q =>
   obtain ⟨n,hn⟩:=evC_some.1 hx
   refine ⟨n+1,?_⟩
   rw [callA,hp,hf]
   rw [hx] at h
   exact finA_mono (x:=some q) (fun q' hq'=>by injection hq' with hq';subst hq';exact hn) h
theorem callG_compact {σ : AHeap} {site f own : Nat} {view : Bool} {args : List AVal} {r : AVal×AHeap×Cls} (h : callG (EV fs prim byref) byref σ site f own view args=some r) : ∃ n,callG (callA fs prim byref n) byref σ site f own view args=some r:=by
 unfold callG callI at h ⊢
 split at h
 ·cases h
 ·rename_i vs ts hv
  split at h
  ·rename_i hc
   simp only [hc,if_true]
   cases hx : EV fs prim byref f (renL (rhoOf (freezeA σ ts) 0 (reach (freezeA σ ts) 1000 (refsL vs) [])) vs) (heapOf (freezeA σ ts) 0 (reach (freezeA σ ts) 1000 (refsL vs) []) (rhoOf (freezeA σ ts) 0 (reach (freezeA σ ts) 1000 (refsL vs) [])) (reach (freezeA σ ts) 1000 (refsL vs) []) 0) with
   | none =>
    rw [hx] at h
    cases view <;> simp [askO,resV,backG] at h
   | some q =>
    obtain ⟨n,hn⟩:=EV_some.1 hx
    exact ⟨n,by rw [hn];rw [hx] at h;exact h⟩
  ·cases h
theorem execI_compact {tm : Tms} {σ : AHeap} {site : Nat} {ins : Ins} {r : AVal×AHeap×Cls} (h : execI (EV fs prim byref) byref tm σ site ins=some r) : ∃ n,execI (callA fs prim byref n) byref tm σ site ins=some r:=by
 cases ins
 case call f own view args =>
  simp only [execI] at h ⊢
  exact callG_compact h
 case callv x args =>
  simp only [execI] at h ⊢
  split at h
  ·exact callG_compact h
  ·cases h
 all_goals exact ⟨0,h⟩
theorem stepA_compact {o : AOp} {tm : Tms} {σ : AHeap} {site : Nat} {r : AVal×Tms×AHeap×Cls} (h : stepA (EV fs prim byref) byref o site tm σ=some r) : ∃ n,stepA (callA fs prim byref n) byref o site tm σ=some r:=by
 unfold stepA at h ⊢
 split at h
 ·cases h
 ·exact ⟨0,h⟩
 ·split at h
  ·rename_i hf
   simp only [hf,if_true]
   split at h
   ·rename_i he
    obtain ⟨n,hn⟩:=execI_compact he
    exact ⟨n,by rw [hn];exact h⟩
   ·cases h
  ·cases h
theorem runOps_compact : ∀ {ops : List AOp} {s : Nat} {tm : Tms} {σ : AHeap} {r : Tms×AHeap×List Cls×Option AVal},runOps (EV fs prim byref) byref ops s tm σ=some r→∃ n,runOps (callA fs prim byref n) byref ops s tm σ=some r
 | [],_,_,_,_,h=>⟨0,h⟩
 | o::ops,s,tm,σ,r,h=>by
  simp only [runOps] at h ⊢
  split at h
  ·cases h
  ·rename_i h1
   obtain ⟨n,hn⟩:=stepA_compact h1
   exact ⟨n,by rw [hn];exact h⟩
  rename_i v tm1 σ1 c hnp h1
  split at h
  ·cases h
  rename_i h2
  obtain ⟨n,hn⟩:=stepA_compact h1
  obtain ⟨m,hm⟩:=runOps_compact h2
  refine ⟨max n m,?_⟩
  rw [stepA_mono (up (Nat.le_max_left n m)) hn]
  simp only
  rw [runOps_mono (up (Nat.le_max_right n m)) hm]
  exact h
theorem runRegion_compact {ops : List AOp} {chk : Option (List (Nat×Nat))} {live : List Nat} {tm : Tms} {σ : AHeap} {r : AExit×Tms×AHeap} (h : runRegion (EV fs prim byref) byref ops chk live tm σ=some r) : ∃ n,runRegion (callA fs prim byref n) byref ops chk live tm σ=some r:=by
 unfold runRegion at h ⊢
 cases hx : runOps (EV fs prim byref) byref ops σ.length tm (σ++List.replicate (sitesOf ops) .free) with
 | none=>rw [hx] at h;simp only [regX] at h;cases h
 | some q =>
  obtain ⟨n,hn⟩:=runOps_compact hx
  exact ⟨n,by rw [hn];rw [hx] at h;exact h⟩
theorem evC_skip (tm : Tms) (σ : AHeap) : evC fs prim byref m0 .skip tm σ=some (.normal,tm,σ):=evC_some.2 ⟨0,rfl⟩
theorem evC_exit (id : Nat) (tm : Tms) (σ : AHeap) : evC fs prim byref m0 (.exit id) tm σ=some (.exit id,tm,σ):=evC_some.2 ⟨0,rfl⟩
theorem evC_ret (tm : Tms) (σ : AHeap) : evC fs prim byref m0 .ret tm σ=some (.ret,tm,σ):=evC_some.2 ⟨0,rfl⟩
theorem evC_region {ops : List AOp} {chk : Option (List (Nat×Nat))} {live : List Nat} {tm : Tms} {σ : AHeap} : evC fs prim byref m0 (.region ops chk live) tm σ=runRegion (EV fs prim byref) byref ops chk live tm σ:=by
 apply opt_ext
 intro r
 rw [evC_some]
 constructor
 ·rintro ⟨n,hn⟩
  simp only [execC] at hn
  exact runRegion_mono (ole_EV n) hn
 ·intro h
  obtain ⟨n,hn⟩:=runRegion_compact h
  exact ⟨n,by simp only [execC];exact hn⟩
theorem evC_seq {a b : ACode} {tm tm' : Tms} {σ σ' : AHeap} (h : evC fs prim byref m0 a tm σ=some (.normal,tm',σ')) : evC fs prim byref m0 (.seq a b) tm σ=evC fs prim byref m0 b tm' σ':=by
 obtain ⟨n,hn⟩:=evC_some.1 h
 apply opt_ext
 intro r
 rw [evC_some,evC_some]
 constructor
 ·rintro ⟨m,hm⟩
  have h1:=execC_mono (up (Nat.le_max_left n m)) (Nat.le_max_left n m) hn
  have h2:=execC_mono (up (Nat.le_max_right n m)) (Nat.le_max_right n m) hm
  simp only [execC,h1] at h2
  exact ⟨_,h2⟩
 ·rintro ⟨m,hm⟩
  have h1:=execC_mono (up (Nat.le_max_left n m)) (Nat.le_max_left n m) hn
  have h2:=execC_mono (up (Nat.le_max_right n m)) (Nat.le_max_right n m) hm
  exact ⟨max n m,by simp only [execC,h1];exact h2⟩
theorem evC_seq_out {a b : ACode} {tm tm' : Tms} {σ σ' : AHeap} {e : AExit} (he : e≠.normal) (h : evC fs prim byref m0 a tm σ=some (e,tm',σ')) : evC fs prim byref m0 (.seq a b) tm σ=some (e,tm',σ'):=by
 obtain ⟨n,hn⟩:=evC_some.1 h
 refine evC_some.2 ⟨n,?_⟩
 simp only [execC,hn]
 cases e with
 | normal=>exact absurd rfl he
 | exit id=>rfl
 | ret=>rfl
 | panic x=>rfl
def blockA (id : Nat) : AExit×Tms×AHeap→AExit×Tms×AHeap
 | (.exit i,tm,σ)=>if i=id then (.normal,tm,σ) else (.exit i,tm,σ)
 | r=>r
theorem evC_block {id : Nat} {c : ACode} {tm : Tms} {σ : AHeap} : evC fs prim byref m0 (.block id c) tm σ=(evC fs prim byref m0 c tm σ).map (blockA id):=by
 have step : ∀ n,execC (callA fs prim byref n) byref m0 n (.block id c) tm σ=(execC (callA fs prim byref n) byref m0 n c tm σ).map (blockA id):=by
  intro n
  simp only [execC]
  cases execC (callA fs prim byref n) byref m0 n c tm σ with
  | none=>rfl
  | some q =>
   obtain ⟨e,tm1,σ1⟩:=q
   cases e with
   | normal=>rfl
   | ret=>rfl
   | panic x=>rfl
   | exit i=>simp only [Option.map_some,blockA];split <;> rfl
 apply opt_ext;intro r
 rw [evC_some]
 simp only [step,Option.map_eq_some_iff]
 constructor
 ·rintro ⟨n,q,h1,h2⟩;exact ⟨q,evC_some.2 ⟨n,h1⟩,h2⟩
 ·rintro ⟨q,h1,h2⟩;obtain ⟨n,hn⟩:=evC_some.1 h1;exact ⟨n,q,hn,h2⟩
theorem evC_none {c : ACode} {tm : Tms} {σ : AHeap} (h : evC fs prim byref m0 c tm σ=none) (n : Nat) : execC (callA fs prim byref n) byref m0 n c tm σ=none:=by
 cases hx : execC (callA fs prim byref n) byref m0 n c tm σ with
 | none=>rfl
 | some r=>rw [evC_some.2 ⟨n,hx⟩] at h;cases h
variable (fs prim byref m0) in
noncomputable def seqX (b : ACode) : Option (AExit×Tms×AHeap)→Option (AExit×Tms×AHeap)
 | some (.normal,tm,σ)=>evC fs prim byref m0 b tm σ
 | r=>r
theorem x_seq {a b : ACode} {tm : Tms} {σ : AHeap} : evC fs prim byref m0 (.seq a b) tm σ=seqX fs prim byref m0 b (evC fs prim byref m0 a tm σ):=by
 cases h : evC fs prim byref m0 a tm σ with
 | none =>
  simp only [seqX]
  apply opt_ext;intro r
  rw [evC_some]
  constructor
  ·rintro ⟨n,hn⟩
   simp only [execC,evC_none h n] at hn
   cases hn
  ·intro h;cases h
 | some q =>
  obtain ⟨e,tm',σ'⟩:=q
  cases e with
  | normal=>exact evC_seq h
  | exit id=>exact evC_seq_out (by simp) h
  | ret=>exact evC_seq_out (by simp) h
  | panic x=>exact evC_seq_out (by simp) h
variable (fs prim byref m0) in
noncomputable def condX (a b : ACode) (tm : Tms) (σ : AHeap) : AVal→Option (AExit×Tms×AHeap)
 | .bool true=>evC fs prim byref m0 a tm σ
 | .bool false=>evC fs prim byref m0 b tm σ
 | _=>none
theorem x_cond {c : Opd} {a b : ACode} {tm : Tms} {σ : AHeap} : evC fs prim byref m0 (.cond c a b) tm σ=condX fs prim byref m0 a b tm σ (c.ev tm):=by
 apply opt_ext;intro r
 rw [evC_some]
 simp only [execC]
 constructor
 ·rintro ⟨n,hn⟩
  split at hn
  ·rename_i e;rw [e];simp only [condX];exact evC_some.2 ⟨n,hn⟩
  ·rename_i e;rw [e];simp only [condX];exact evC_some.2 ⟨n,hn⟩
  ·cases hn
 ·intro h
  unfold condX at h
  split at h
  ·rename_i e;obtain ⟨n,hn⟩:=evC_some.1 h;exact ⟨n,by rw [e];exact hn⟩
  ·rename_i e;obtain ⟨n,hn⟩:=evC_some.1 h;exact ⟨n,by rw [e];exact hn⟩
  ·cases h
variable (fs prim byref m0) in
noncomputable def evL (live : List Nat) (c : ACode) (tm : Tms) (σ : AHeap) : Option (AExit×Tms×AHeap) :=
 match evC fs prim byref m0 c tm σ with
 | some (.normal,tm',σ')=>evC fs prim byref m0 (.loop live c) tm' σ'
 | r=>r
theorem x_loop {live : List Nat} {c : ACode} {tm : Tms} {σ : AHeap} : evC fs prim byref m0 (.loop live c) tm σ=evL fs prim byref m0 live c (gcT m0 (keepL live tm) σ).1 (gcT m0 (keepL live tm) σ).2:=by
 apply opt_ext;intro r
 rw [evC_some]
 constructor
 ·rintro ⟨n,hn⟩
  simp only [execC] at hn
  cases n with
  | zero=>simp only [iterA] at hn;cases hn
  | succ k =>
   simp only [iterA] at hn
   unfold evL
   cases hx : execC (callA fs prim byref (k+1)) byref m0 (k+1) c (gcT m0 (keepL live tm) σ).1 (gcT m0 (keepL live tm) σ).2 with
   | none=>rw [hx] at hn;cases hn
   | some q =>
    rw [evC_some.2 ⟨_,hx⟩]
    rw [hx] at hn
    obtain ⟨e,tm',σ'⟩:=q
    cases e with
    | normal =>
     simp only at hn ⊢
     exact evC_some.2 ⟨k+1,by simp only [execC];exact iterA_mono (fun _ _ _ h=>h) (by omega) hn⟩
    | exit id=>exact hn
    | ret=>exact hn
    | panic x=>exact hn
 ·intro h
  unfold evL at h
  cases hx : evC fs prim byref m0 c (gcT m0 (keepL live tm) σ).1 (gcT m0 (keepL live tm) σ).2 with
  | none=>rw [hx] at h;cases h
  | some q =>
   rw [hx] at h
   obtain ⟨n,hn⟩:=evC_some.1 hx
   obtain ⟨e,tm',σ'⟩:=q
   have out : e≠.normal→some (e,tm',σ')=some r→∃ n,execC (callA fs prim byref n) byref m0 n (.loop live c) tm σ=some r:=by
    intro he h
    refine ⟨n+1,?_⟩
    have h1:=execC_mono (up (show n≤n+1 by omega)) (show n≤n+1 by omega) hn
    simp only [execC,iterA,h1]
    cases e with
    | normal=>exact absurd rfl he
    | exit id=>exact h
    | ret=>exact h
    | panic x=>exact h
   cases e with
   | normal =>
    simp only at h
    obtain ⟨m,hm⟩:=evC_some.1 h
    have h1:=execC_mono (up (show n≤max n m+1 by omega)) (show n≤max n m+1 by omega) hn
    have h2:=execC_mono (up (show m≤max n m+1 by omega)) (Nat.le_refl m) hm
    simp only [execC] at h2
    refine ⟨max n m+1,?_⟩
    simp only [execC,iterA,h1]
    exact iterA_mono (fun tm σ r h=>execC_mono (fun _ _ _ _ h=>h) (by omega) h) (by omega) h2
   | exit id=>exact out (by simp) h
   | ret=>exact out (by simp) h
   | panic x=>exact out (by simp) h
theorem EV_sound {P : Program} (hm : P.follows .mixedOrders=true) {prim : Prims} (hP : PrimOk P prim) (ann : Nat→Ann) (byref : Nat→Bool) : OrOk P (EV (compF P ann) prim byref):=by
 intro f args σ r σ' h
 obtain ⟨n,hn⟩:=EV_some.1 h
 exact call_sound hm hP ann byref n f args σ r σ' hn
end
end Go.Proofs.YtmlkhhidifjjfaaDoor
namespace Go.Proofs.YtmlkhhidifjjfaaDoor
open Go.RowKit
def dropC : Tms×AHeap×List Cls×Option AVal→Tms×AHeap×Option AVal:=fun q=>(q.1,q.2.1,q.2.2.2)
def isPan : AVal→Bool
 | .pan _=>true
 | _=>false
section
variable (O : Oracle) (byref : Nat→Bool)
def exI (i : Ins) (s : Nat) (tm : Tms) (σ : AHeap) : Option (AVal×AHeap×Cls) :=
 if nsite i == 0 || freeAt σ s then execI O byref tm σ s i else none
def runN (ops : List AOp) (s : Nat) (tm : Tms) (σ : AHeap) : Option (Tms×AHeap×Option AVal):=(runOps O byref ops s tm σ).map dropC
def kN (d : Option Nat) (os : List AOp) (s : Nat) (tm : Tms) : Option (AVal×AHeap×Cls)→Option (Tms×AHeap×Option AVal)
 | none=>none
 | some (v,σ,_)=>if isPan v then some (tput tm d v,σ,some (valOf v)) else runN O byref os s (tput tm d v) σ
def regN (live : List Nat) : Option (Tms×AHeap×Option AVal)→Option (AExit×Tms×AHeap)
 | none=>none
 | some (_,σ,some x)=>some (.panic x,[],σ)
 | some (tm,σ,none)=>some (.normal,keepL live tm,σ)
variable {O byref}
theorem runN_nil (s : Nat) (tm : Tms) (σ : AHeap) : runN O byref [] s tm σ=some (tm,σ,none):=rfl
theorem runOps_none {o : AOp} {os : List AOp} {s : Nat} {tm : Tms} {σ : AHeap} (h : stepA O byref o s tm σ=none) : runOps O byref (o::os) s tm σ=none:=by simp only [runOps,h]
theorem runOps_pan {o : AOp} {os : List AOp} {s : Nat} {tm tm1 : Tms} {σ σ1 : AHeap} {x : AVal} {c : Cls} (h : stepA O byref o s tm σ=some (.pan x,tm1,σ1,c)) : runOps O byref (o::os) s tm σ=some (tm1,σ1,[c],some x):=by simp only [runOps,h]
theorem runOps_step {o : AOp} {os : List AOp} {s : Nat} {tm tm1 : Tms} {σ σ1 : AHeap} {v : AVal} {c : Cls} (h : stepA O byref o s tm σ=some (v,tm1,σ1,c)) (hn : isPan v=false) : runOps O byref (o::os) s tm σ=(runOps O byref os (s+nsite o.ins) tm1 σ1).map fun q=>(q.1,q.2.1,c::q.2.2.1,q.2.2.2):=by
 simp only [runOps,h]
 cases v <;> first
  | (simp [isPan] at hn;done)
  | (simp only;cases runOps O byref os (s+nsite o.ins) tm1 σ1 <;> rfl)
theorem runN_none {o : AOp} {os : List AOp} {s : Nat} {tm : Tms} {σ : AHeap} (h : stepA O byref o s tm σ=none) : runN O byref (o::os) s tm σ=none:=by simp only [runN,runOps_none h,Option.map_none]
theorem runN_pan {o : AOp} {os : List AOp} {s : Nat} {tm tm1 : Tms} {σ σ1 : AHeap} {x : AVal} {c : Cls} (h : stepA O byref o s tm σ=some (.pan x,tm1,σ1,c)) : runN O byref (o::os) s tm σ=some (tm1,σ1,some x):=by simp only [runN,runOps_pan h,Option.map_some,dropC]
theorem runN_step {o : AOp} {os : List AOp} {s : Nat} {tm tm1 : Tms} {σ σ1 : AHeap} {v : AVal} {c : Cls} (h : stepA O byref o s tm σ=some (v,tm1,σ1,c)) (hn : isPan v=false) : runN O byref (o::os) s tm σ=runN O byref os (s+nsite o.ins) tm1 σ1:=by
 simp only [runN,runOps_step h hn,Option.map_map]
 rfl
theorem isPan_true {v : AVal} (h : isPan v=true) : ∃ x,v=.pan x:=by
 cases v <;> first | exact ⟨_,rfl⟩ | (simp [isPan] at h;done)
theorem step_one {d : Option Nat} {i : Ins} {af : List Nat} {s : Nat} {tm : Tms} {σ : AHeap} : stepA O byref ⟨d,i,none,af⟩ s tm σ=(exI O byref i s tm σ).map fun q=>(q.1,tput tm d q.1,q.2.1,q.2.2):=by
 unfold stepA exI
 simp only [wantedA]
 split
 ·cases execI O byref tm σ s i with
  | none=>rfl
  | some q=>rfl
 ·rfl
theorem runN_cons (d : Option Nat) (i : Ins) (af : List Nat) (os : List AOp) (s : Nat) (tm : Tms) (σ : AHeap) : runN O byref (⟨d,i,none,af⟩::os) s tm σ=kN O byref d os (s+nsite i) tm (exI O byref i s tm σ):=by
 cases h : exI O byref i s tm σ with
 | none=>exact runN_none (by rw [step_one,h];rfl)
 | some q =>
  obtain ⟨v,σ1,c⟩:=q
  have hs : stepA O byref ⟨d,i,none,af⟩ s tm σ=some (v,tput tm d v,σ1,c):=by rw [step_one,h];rfl
  cases hp : isPan v with
  | true =>
   obtain ⟨x,rfl⟩:=isPan_true hp
   exact runN_pan hs
  | false =>
   rw [runN_step hs hp]
   simp only [kN,hp,Bool.false_eq_true,if_false]
theorem reg_none (ops : List AOp) (live : List Nat) (tm : Tms) (σ : AHeap) : runRegion O byref ops none live tm σ=regN live (runN O byref ops σ.length tm (σ++List.replicate (sitesOf ops) .free)):=by
 unfold runRegion runN
 cases runOps O byref ops σ.length tm (σ++List.replicate (sitesOf ops) .free) with
 | none=>rfl
 | some q =>
  obtain ⟨tm',σ',cs,p⟩:=q
  cases p <;> rfl
theorem kN_some (d : Option Nat) (os : List AOp) (s : Nat) (tm : Tms) (v : AVal) (σ : AHeap) (c : Cls) (h : isPan v=false) : kN O byref d os s tm (some (v,σ,c))=runN O byref os s (tput tm d v) σ:=by
 simp only [kN,h,Bool.false_eq_true,if_false]
theorem kN_pan (d : Option Nat) (os : List AOp) (s : Nat) (tm : Tms) (x : AVal) (σ : AHeap) (c : Cls) : kN O byref d os s tm (some (.pan x,σ,c))=some (tput tm d (.pan x),σ,some x):=rfl
theorem kN_none (d : Option Nat) (os : List AOp) (s : Nat) (tm : Tms) : kN O byref d os s tm none=none:=rfl
structure GOp where
 guard : Option (Nat×Bool)
 ops : List AOp
def gSkip : List AOp→Tms→Tms
 | [],tm=>tm
 | o::os,tm=>gSkip os (tput tm o.dst (.tup []))
def unG (o : AOp) : AOp:={ o with guard:=none }
variable (O byref) in
def gRun (j : Nat) (w : Bool) (g : List AOp) (s : Nat) (tm : Tms) (σ : AHeap) : Option (Tms×AHeap×Option AVal):=match wantedA (some (j,w)) tm with
 | none=>none
 | some false=>some (gSkip g tm,σ,none)
 | some true=>runN O byref (g.map unG) s tm σ
variable (O byref) in
def gK (os : List AOp) (s : Nat) : Option (Tms×AHeap×Option AVal)→Option (Tms×AHeap×Option AVal)
 | none=>none
 | some (tm,σ,some x)=>some (tm,σ,some x)
 | some (tm,σ,none)=>runN O byref os s tm σ
def gSpan (j : Nat) (w : Bool) : List AOp→List AOp×List AOp
 | []=>([],[])
 | o::os=>match o.guard with
  | some (j',w')=>if j'=j∧w'=w∧o.dst≠some j then ((o::(gSpan j w os).1),(gSpan j w os).2) else ([],o::os)
  | none=>([],o::os)
theorem gSpan_eq (j : Nat) (w : Bool) : ∀ os,(gSpan j w os).1++(gSpan j w os).2=os
 | []=>rfl
 | o::os=>by
  simp only [gSpan]
  split
  ·split
   ·simp [gSpan_eq j w os]
   ·rfl
  ·rfl
theorem gSpan_all (j : Nat) (w : Bool) : ∀ os,∀ o ∈ (gSpan j w os).1,o.guard=some (j,w)∧o.dst≠some j
 | []=>by simp [gSpan]
 | o::os=>by
  intro o' ho
  simp only [gSpan] at ho
  split at ho
  ·rename_i j' w' hg
   split at ho
   ·rename_i hc
    rcases List.mem_cons.1 ho with rfl | ho
    ·exact ⟨by rw [hg,hc.1,hc.2.1],hc.2.2⟩
    ·exact gSpan_all j w os o' ho
   ·simp at ho
  ·simp at ho
theorem tget_tput' {d : Option Nat} {v : AVal} {n : Nat} {tm : Tms} (h : d≠some n) : tget (tput tm d v) n=tget tm n:=by
 cases d with
 | none=>rfl
 | some d =>
  have : d≠n:=by rintro rfl;exact h rfl
  simp only [tput,tget_tins,this,if_false]
theorem wanted_put {d : Option Nat} {v : AVal} {j : Nat} {w : Bool} {tm : Tms} (h : d≠some j) : wantedA (some (j,w)) (tput tm d v)=wantedA (some (j,w)) tm:=by
 simp only [wantedA,tget_tput' h]
theorem runN_append : ∀ (a b : List AOp) (s : Nat) (tm : Tms) (σ : AHeap),runN O byref (a++b) s tm σ=gK O byref b (s+sitesOf a) (runN O byref a s tm σ)
 | [],b,s,tm,σ=>by simp [runN_nil,gK,sitesOf]
 | o::a,b,s,tm,σ=>by
  have ih:=runN_append a b
  simp only [List.cons_append]
  have hs : s+nsite o.ins+sitesOf a=s+sitesOf (o::a):=by simp [sitesOf,Nat.add_assoc]
  cases hst : stepA O byref o s tm σ with
  | none=>rw [runN_none hst,runN_none hst];rfl
  | some q =>
   obtain ⟨v,tm1,σ1,c⟩:=q
   cases hp : isPan v with
   | true =>
    obtain ⟨x,rfl⟩:=isPan_true hp
    rw [runN_pan hst,runN_pan hst];rfl
   | false=>rw [runN_step hst hp,runN_step hst hp,ih,hs]
theorem runN_group (j : Nat) (w : Bool) : ∀ (g : List AOp),(∀ o ∈ g,o.guard=some (j,w)∧o.dst≠some j)→∀ (s : Nat) (tm : Tms) (σ : AHeap),g≠[]→runN O byref g s tm σ=gRun O byref j w g s tm σ
 | [],_,_,_,_,h=>absurd rfl h
 | o::g,hall,s,tm,σ,_=>by
  obtain ⟨hg,hd⟩:=hall o (by simp)
  have ih : ∀ (tm : Tms) (σ : AHeap) (s : Nat),wantedA (some (j,w)) tm≠none→runN O byref g s tm σ=gRun O byref j w g s tm σ:=by
   intro tm σ s hw
   by_cases he : g=[]
   ·subst he
    unfold gRun
    cases hx : wantedA (some (j,w)) tm with
    | none=>exact absurd hx hw
    | some b=>cases b <;> rfl
   ·exact runN_group j w g (fun o ho=>hall o (by simp [ho])) s tm σ he
  cases hx : wantedA (some (j,w)) tm with
  | none =>
   rw [runN_none (by simp only [stepA,hg,hx])]
   simp only [gRun,hx]
  | some b =>
   cases b with
   | false =>
    have h1 : runN O byref (o::g) s tm σ=runN O byref g (s+nsite o.ins) (tput tm o.dst (.tup [])) σ :=
     runN_step (v:=.tup []) (c:={}) (by simp only [stepA,hg,hx]) rfl
    rw [h1,ih _ _ _ (by rw [wanted_put hd,hx];simp)]
    unfold gRun
    rw [wanted_put hd,hx]
    rfl
   | true =>
    have key : ∀ r : Option (AVal×AHeap×Cls),(∀ v σ' c,r=some (v,σ',c)→isPan v=false→runN O byref g (s+nsite o.ins) (tput tm o.dst v) σ'=runN O byref (g.map unG) (s+nsite o.ins) (tput tm o.dst v) σ')→kN O byref o.dst g (s+nsite o.ins) tm r=kN O byref o.dst (g.map unG) (s+nsite o.ins) tm r:=by
     intro r hr
     cases r with
     | none=>rfl
     | some q =>
      obtain ⟨v,σ',c⟩:=q
      cases hp : isPan v with
      | true=>simp only [kN,hp,if_true]
      | false=>rw [kN_some _ _ _ _ _ _ _ hp,kN_some _ _ _ _ _ _ _ hp];exact hr v σ' c rfl hp
    have h1 : runN O byref (o::g) s tm σ=kN O byref o.dst g (s+nsite o.ins) tm (exI O byref o.ins s tm σ):=by
     have h0 : runN O byref (o::g) s tm σ=runN O byref (⟨o.dst,o.ins,none,o.after⟩::g) s tm σ:=by
      have hst : stepA O byref o s tm σ=stepA O byref ⟨o.dst,o.ins,none,o.after⟩ s tm σ:=by
       unfold stepA
       simp only [hg,hx]
       rfl
      unfold runN
      simp only [runOps,hst]
     rw [h0,runN_cons]
    rw [h1]
    unfold gRun
    rw [hx]
    simp only [List.map_cons]
    rw [show unG o=⟨o.dst,o.ins,none,o.after⟩ from rfl,runN_cons]
    refine key _ fun v σ' c _ _=>?_
    rw [ih _ _ _ (by rw [wanted_put hd,hx];simp)]
    unfold gRun
    rw [wanted_put hd,hx]
theorem runN_guard (d : Option Nat) (i : Ins) (j : Nat) (w : Bool) (af : List Nat) (os : List AOp) (s : Nat) (tm : Tms) (σ : AHeap) (hd : decide (d=some j)=false) :
  runN O byref (⟨d,i,some (j,w),af⟩::os) s tm σ=gK O byref (gSpan j w os).2 (s+sitesOf (⟨d,i,some (j,w),af⟩::(gSpan j w os).1)) (gRun O byref j w (⟨d,i,some (j,w),af⟩::(gSpan j w os).1) s tm σ):=by
 have h:=gSpan_eq j w os
 have hall : ∀ o ∈ (⟨d,i,some (j,w),af⟩::(gSpan j w os).1 : List AOp),o.guard=some (j,w)∧o.dst≠some j:=by
  intro o ho
  rcases List.mem_cons.1 ho with rfl | ho
  ·exact ⟨rfl,by simpa using hd⟩
  ·exact gSpan_all j w os o ho
 rw [←runN_group j w _ hall s tm σ (by simp),←runN_append,List.cons_append,h]
variable (O byref) in
def gW (w : Bool) (g : List AOp) (s : Nat) (tm : Tms) (σ : AHeap) : AVal→Option (Tms×AHeap×Option AVal)
 | .bool b=>if b=w then runN O byref (g.map unG) s tm σ else some (gSkip g tm,σ,none)
 | .tup []=>some (gSkip g tm,σ,none)
 | _=>none
theorem gRun_eq (j : Nat) (w : Bool) (g : List AOp) (s : Nat) (tm : Tms) (σ : AHeap) : gRun O byref j w g s tm σ=gW O byref w g s tm σ (tget tm j):=by
 unfold gRun wantedA
 simp only
 generalize tget tm j=v
 cases v
 case bool b=>cases b <;> cases w <;> rfl
 case tup vs=>cases vs <;> rfl
 all_goals rfl
theorem gW_bool (w : Bool) (g : List AOp) (s : Nat) (tm : Tms) (σ : AHeap) (b : Bool) : gW O byref w g s tm σ (.bool b)=if b=w then runN O byref (g.map unG) s tm σ else some (gSkip g tm,σ,none):=rfl
theorem gW_off (w : Bool) (g : List AOp) (s : Nat) (tm : Tms) (σ : AHeap) : gW O byref w g s tm σ (.tup [])=some (gSkip g tm,σ,none):=rfl
theorem gK_some (os : List AOp) (s : Nat) (tm : Tms) (σ : AHeap) : gK O byref os s (some (tm,σ,none))=runN O byref os s tm σ:=rfl
end
section
variable (c : Prop) [Decidable c]
theorem ite_list {α : Type} (a b : α) (x y : List α) : (if c then a::x else b::y)=(if c then a else b)::(if c then x else y):=by split <;> rfl
theorem ite_int (k : IntKind) (a b : Int) : (if c then AVal.int k a else AVal.int k b)=AVal.int k (if c then a else b):=by split <;> rfl
theorem ite_bool (a b : Bool) : (if c then AVal.bool a else AVal.bool b)=AVal.bool (if c then a else b):=by split <;> rfl
theorem ite_str (a b : List UInt8) : (if c then AVal.str a else AVal.str b)=AVal.str (if c then a else b):=by split <;> rfl
theorem ite_lst (p q : Bool) (a b : List AVal) : (if c then AVal.lst p a else AVal.lst q b)=AVal.lst (if c then p else q) (if c then a else b):=by split <;> rfl
theorem ite_agg (a b : List AVal) : (if c then AVal.agg a else AVal.agg b)=AVal.agg (if c then a else b):=by split <;> rfl
theorem ite_var (a b : List AVal) : (if c then ABlk.var a else ABlk.var b)=ABlk.var (if c then a else b):=by split <;> rfl
theorem ite_row (g k : Nat) (a b : List AVal) : (if c then ABlk.row g k a else ABlk.row g k b)=ABlk.row g k (if c then a else b):=by split <;> rfl
theorem ite_ref (t : Nat) (a b : Nat) : (if c then AVal.ref t a else AVal.ref t b)=AVal.ref t (if c then a else b):=by split <;> rfl
theorem ite_tt {α : Type} (x y z : α) : (if c then (if c then x else y) else z)=if c then x else z:=by split <;> rfl
theorem ite_ee {α : Type} (x y z : α) : (if c then x else (if c then y else z))=if c then x else z:=by split <;> rfl
theorem pickX_b (σ : AHeap) (a b : AVal) (p : Bool) : pickX σ a b (.bool p)=some (if p=true then a else b,σ,{}):=by cases p <;> rfl
theorem isPan_ite (a b : AVal) : isPan (if c then a else b)=if c then isPan a else isPan b:=by split <;> rfl
end
section
variable {fs : Nat→Option AFunc} {prim : Prims} {byref : Nat→Bool} {m0 : Nat}
theorem condX_b (p : Bool) (a b : ACode) (tm : Tms) (σ : AHeap) : condX fs prim byref m0 a b tm σ (.bool p)=if p=true then evC fs prim byref m0 a tm σ else evC fs prim byref m0 b tm σ:=by
 cases p <;> rfl
theorem seqX_n (b : ACode) (tm : Tms) (σ : AHeap) : seqX fs prim byref m0 b (some (.normal,tm,σ))=evC fs prim byref m0 b tm σ:=rfl
theorem seqX_e (b : ACode) (i : Nat) (tm : Tms) (σ : AHeap) : seqX fs prim byref m0 b (some (.exit i,tm,σ))=some (.exit i,tm,σ):=rfl
theorem seqX_r (b : ACode) (tm : Tms) (σ : AHeap) : seqX fs prim byref m0 b (some (.ret,tm,σ))=some (.ret,tm,σ):=rfl
theorem seqX_p (b : ACode) (x : AVal) (tm : Tms) (σ : AHeap) : seqX fs prim byref m0 b (some (.panic x,tm,σ))=some (.panic x,tm,σ):=rfl
theorem seqX_ite (c : Prop) [Decidable c] (b : ACode) (x y : Option (AExit×Tms×AHeap)) : seqX fs prim byref m0 b (if c then x else y)=if c then seqX fs prim byref m0 b x else seqX fs prim byref m0 b y:=by split <;> rfl
theorem block_n (id : Nat) (tm : Tms) (σ : AHeap) : Option.map (blockA id) (some (.normal,tm,σ))=some (.normal,tm,σ):=rfl
theorem block_e (id i : Nat) (tm : Tms) (σ : AHeap) : Option.map (blockA id) (some (.exit i,tm,σ))=if i=id then some (.normal,tm,σ) else some (.exit i,tm,σ):=by
 simp only [Option.map_some,blockA];split <;> rfl
theorem block_r (id : Nat) (tm : Tms) (σ : AHeap) : Option.map (blockA id) (some (.ret,tm,σ))=some (.ret,tm,σ):=rfl
theorem block_p (id : Nat) (x : AVal) (tm : Tms) (σ : AHeap) : Option.map (blockA id) (some (.panic x,tm,σ))=some (.panic x,tm,σ):=rfl
theorem block_ite (id : Nat) (c : Prop) [Decidable c] (x y : Option (AExit×Tms×AHeap)) : Option.map (blockA id) (if c then x else y)=if c then Option.map (blockA id) x else Option.map (blockA id) y:=by split <;> rfl
theorem fin_ite (m : Nat) (fn : AFunc) (c : Prop) [Decidable c] (x y : Option (AExit×Tms×AHeap)) : finA m fn (if c then x else y)=if c then finA m fn x else finA m fn y:=by split <;> rfl
end
section
variable {fs : Nat→Option AFunc} {prim : Prims} {byref : Nat→Bool} {m0 : Nat}
theorem evL_round {live : List Nat} {c : ACode} {tm tm' : Tms} {σ σ' : AHeap} (h : evC fs prim byref m0 c tm σ=some (.normal,tm',σ')) : evL fs prim byref m0 live c tm σ=evL fs prim byref m0 live c (gcT m0 (keepL live tm') σ').1 (gcT m0 (keepL live tm') σ').2:=by
 unfold evL
 rw [h]
 simp only
 rw [x_loop]
 rfl
theorem evL_exit {live : List Nat} {c : ACode} {tm tm' : Tms} {σ σ' : AHeap} {i : Nat} (h : evC fs prim byref m0 c tm σ=some (.exit i,tm',σ')) : evL fs prim byref m0 live c tm σ=some (.exit i,tm',σ'):=by
 unfold evL;rw [h]
theorem evL_ret {live : List Nat} {c : ACode} {tm tm' : Tms} {σ σ' : AHeap} (h : evC fs prim byref m0 c tm σ=some (.ret,tm',σ')) : evL fs prim byref m0 live c tm σ=some (.ret,tm',σ'):=by
 unfold evL;rw [h]
variable (fs prim byref m0) in
noncomputable def evM (live : List Nat) (c : ACode) : Option (AExit×Tms×AHeap)→Option (AExit×Tms×AHeap)
 | some (.normal,tm,σ)=>evL fs prim byref m0 live c (gcT m0 (keepL live tm) σ).1 (gcT m0 (keepL live tm) σ).2
 | r=>r
theorem evL_eq (live : List Nat) (c : ACode) (tm : Tms) (σ : AHeap) : evL fs prim byref m0 live c tm σ=evM fs prim byref m0 live c (evC fs prim byref m0 c tm σ):=by
 cases h : evC fs prim byref m0 c tm σ with
 | none=>unfold evL;rw [h];rfl
 | some q =>
  obtain ⟨e,tm',σ'⟩:=q
  cases e with
  | normal=>exact evL_round h
  | exit i=>exact evL_exit h
  | ret=>exact evL_ret h
  | panic x=>unfold evL;rw [h];rfl
theorem evM_n (live : List Nat) (c : ACode) (tm : Tms) (σ : AHeap) : evM fs prim byref m0 live c (some (.normal,tm,σ))=evL fs prim byref m0 live c (gcT m0 (keepL live tm) σ).1 (gcT m0 (keepL live tm) σ).2:=rfl
theorem evM_e (live : List Nat) (c : ACode) (i : Nat) (tm : Tms) (σ : AHeap) : evM fs prim byref m0 live c (some (.exit i,tm,σ))=some (.exit i,tm,σ):=rfl
theorem evM_r (live : List Nat) (c : ACode) (tm : Tms) (σ : AHeap) : evM fs prim byref m0 live c (some (.ret,tm,σ))=some (.ret,tm,σ):=rfl
theorem evM_p (live : List Nat) (c : ACode) (x : AVal) (tm : Tms) (σ : AHeap) : evM fs prim byref m0 live c (some (.panic x,tm,σ))=some (.panic x,tm,σ):=rfl
theorem evM_ite (live : List Nat) (b : ACode) (c : Prop) [Decidable c] (x y : Option (AExit×Tms×AHeap)) : evM fs prim byref m0 live b (if c then x else y)=if c then evM fs prim byref m0 live b x else evM fs prim byref m0 live b y:=by split <;> rfl
end
def plain1 : AVal→Bool
 | .int _ _=>true
 | .bool _=>true
 | .str _=>true
 | .nilp=>true
 | .nilm=>true
 | .nili=>true
 | .lst _ _=>true
 | .fn _ []=>true
 | _=>false
def plainV : AVal→Bool
 | .agg cs=>cs.all plain1
 | x=>plain1 x
def norm1 : AVal→AVal
 | .lst _ xs=>.lst false xs
 | x=>x
def normV : AVal→AVal
 | .agg cs=>.agg (cs.map norm1)
 | x=>norm1 x
theorem plain1_show {σ : AHeap} {x : AVal} (h : plain1 x=true) : showA1 σ x=some (norm1 x,[]):=by
 cases x <;> first | (simp [plain1] at h;done) | rfl
theorem plains_show {σ : AHeap} : ∀ {xs : List AVal},xs.all plain1=true→showsA σ xs=some (xs.map norm1,[])
 | [],_=>rfl
 | x::xs,h=>by
  simp only [List.all_cons,Bool.and_eq_true] at h
  simp only [showsA,plain1_show h.1,plains_show h.2,List.map_cons,List.append_nil]
theorem plainV_one {x : AVal} (h : ∀ cs,x≠.agg cs) : plainV x=plain1 x∧normV x=norm1 x:=by
 cases x <;> first | exact ⟨rfl,rfl⟩ | exact absurd rfl (h _)
theorem showA_one {σ : AHeap} {x : AVal} (h : ∀ cs,x≠.agg cs) : showA σ x=showA1 σ x:=by
 cases x <;> first | rfl | exact absurd rfl (h _)
theorem agg_or (x : AVal) : (∃ cs,x=.agg cs)∨∀ cs,x≠.agg cs:=by
 cases x <;> first | exact Or.inl ⟨_,rfl⟩ | (right;intro cs;simp)
theorem plainV_show {σ : AHeap} {x : AVal} (h : plainV x=true) : showA σ x=some (normV x,[]):=by
 rcases agg_or x with ⟨cs,rfl⟩ | hn
 ·simp only [plainV] at h
  simp only [showA,plains_show h,normV]
 ·rw [(plainV_one hn).1] at h
  rw [showA_one hn,(plainV_one hn).2]
  exact plain1_show h
theorem plainVs_show {σ : AHeap} : ∀ {xs : List AVal},xs.all plainV=true→showAs σ xs=some (xs.map normV,[])
 | [],_=>rfl
 | x::xs,h=>by
  simp only [List.all_cons,Bool.and_eq_true] at h
  simp only [showAs,plainV_show h.1,plainVs_show h.2,List.map_cons,List.append_nil]
theorem norm1_refs {x : AVal} (h : plain1 x=true) : refsV (norm1 x)=[]:=by
 cases x
 case fn f cs=>cases cs <;> simp [plain1] at h;rfl
 all_goals first | (simp [plain1] at h;done) | rfl
theorem norms_refs : ∀ {xs : List AVal},xs.all plain1=true→refsL (xs.map norm1)=[]
 | [],_=>rfl
 | x::xs,h=>by
  simp only [List.all_cons,Bool.and_eq_true] at h
  simp only [List.map_cons,refsL,norm1_refs h.1,norms_refs h.2,List.append_nil]
theorem normV_refs {x : AVal} (h : plainV x=true) : refsV (normV x)=[]:=by
 rcases agg_or x with ⟨cs,rfl⟩ | hn
 ·simp only [plainV] at h
  simp only [normV,refsV];exact norms_refs h
 ·rw [(plainV_one hn).1] at h
  rw [(plainV_one hn).2];exact norm1_refs h
theorem normVs_refs : ∀ {xs : List AVal},xs.all plainV=true→refsL (xs.map normV)=[]
 | [],_=>rfl
 | x::xs,h=>by
  simp only [List.all_cons,Bool.and_eq_true] at h
  simp only [List.map_cons,refsL,normV_refs h.1,normVs_refs h.2,List.append_nil]
theorem norm1_ren {ρ : Rho} {x : AVal} (h : plain1 x=true) : renV ρ (norm1 x)=norm1 x:=by
 cases x
 case fn f cs=>cases cs <;> simp [plain1] at h;rfl
 all_goals first | (simp [plain1] at h;done) | rfl
theorem norms_ren {ρ : Rho} : ∀ {xs : List AVal},xs.all plain1=true→renL ρ (xs.map norm1)=xs.map norm1
 | [],_=>rfl
 | x::xs,h=>by
  simp only [List.all_cons,Bool.and_eq_true] at h
  simp only [List.map_cons,renL,norm1_ren h.1,norms_ren h.2]
theorem normV_ren {ρ : Rho} {x : AVal} (h : plainV x=true) : renV ρ (normV x)=normV x:=by
 rcases agg_or x with ⟨cs,rfl⟩ | hn
 ·simp only [plainV] at h
  simp only [normV,renV];rw [norms_ren h]
 ·rw [(plainV_one hn).1] at h
  rw [(plainV_one hn).2];exact norm1_ren h
theorem normVs_ren {ρ : Rho} : ∀ {xs : List AVal},xs.all plainV=true→renL ρ (xs.map normV)=xs.map normV
 | [],_=>rfl
 | x::xs,h=>by
  simp only [List.all_cons,Bool.and_eq_true] at h
  simp only [List.map_cons,renL,normV_ren h.1,normVs_ren h.2]
theorem callG_plain {O : Oracle} {byref : Nat→Bool} {σ : AHeap} {site f own : Nat} {view : Bool} {args : List AVal} (hb : byref f=false) (h : args.all plainV=true) :
  callG O byref σ site f own view args=backG σ σ [] [] site own (askO view 0 (O f (args.map normV) [])):=by
 unfold callG showIf
 rw [hb]
 simp only [Bool.false_eq_true,if_false,plainVs_show h]
 have h1 : freezeA σ []=σ:=rfl
 rw [h1,normVs_refs h]
 have h2 : reach σ 1000 [] []=[]:=rfl
 rw [h2]
 unfold callI
 simp only [List.all_nil,if_true,normVs_ren h,heapOf,List.length_nil]
theorem backG_plain (σ : AHeap) (site own : Nat) (r : AVal) (h : renV (rhoBack [] [] site) r=r) : backG σ σ [] [] site own (some (r,[]))=some (r,σ,{}):=by
 simp only [backG,List.isEmpty_nil,Bool.and_self,if_true,apartA,Bool.not_true,Bool.false_and,Bool.false_eq_true,if_false]
 split
 ·rfl
 ·rw [h]
end Go.Proofs.YtmlkhhidifjjfaaDoor
namespace Go.Proofs.YtmlkhhidifjjfaaDoor
section
variable (ρ : Rho) (σ : AHeap)
theorem s_isPan_top  : isPan (.top)=false:=rfl
theorem s_isPan_any  : isPan (.any)=false:=rfl
theorem s_isPan_int (k : IntKind) (n : Int) : isPan (.int k n)=false:=rfl
theorem s_isPan_bool (b : Bool) : isPan (.bool b)=false:=rfl
theorem s_isPan_str (l : List UInt8) : isPan (.str l)=false:=rfl
theorem s_isPan_nilp  : isPan (.nilp)=false:=rfl
theorem s_isPan_ref (t : Nat) (o : Nat) : isPan (.ref t o)=false:=rfl
theorem s_isPan_eref (t : Nat) (g : Nat) (i : Nat) (o : Nat) : isPan (.eref t g i o)=false:=rfl
theorem s_isPan_iptr (cs : List AVal) (o : Nat) : isPan (.iptr cs o)=false:=rfl
theorem s_isPan_lst (x : Bool) (xs : List AVal) : isPan (.lst x xs)=false:=rfl
theorem s_isPan_sl (t : Nat) (g : Nat) (lo : Nat) (n : Nat) : isPan (.sl t g lo n)=false:=rfl
theorem s_isPan_agg (cs : List AVal) : isPan (.agg cs)=false:=rfl
theorem s_isPan_tup (vs : List AVal) : isPan (.tup vs)=false:=rfl
theorem s_isPan_fn (f : Nat) (caps : List AVal) : isPan (.fn f caps)=false:=rfl
theorem s_isPan_nilm  : isPan (.nilm)=false:=rfl
theorem s_isPan_map (t : Nat) : isPan (.map t)=false:=rfl
theorem s_isPan_nili  : isPan (.nili)=false:=rfl
theorem s_isPan_iface (t : Nat) (x : AVal) : isPan (.iface t x)=false:=rfl
theorem s_isPan_pan (x : AVal) : isPan (.pan x)=true:=rfl
theorem s_okCell_top  : okCell (.top)=false:=rfl
theorem s_okCell_any  : okCell (.any)=true:=rfl
theorem s_okCell_int (k : IntKind) (n : Int) : okCell (.int k n)=true:=rfl
theorem s_okCell_bool (b : Bool) : okCell (.bool b)=true:=rfl
theorem s_okCell_str (l : List UInt8) : okCell (.str l)=true:=rfl
theorem s_okCell_nilp  : okCell (.nilp)=true:=rfl
theorem s_okCell_ref (t : Nat) (o : Nat) : okCell (.ref t o)=true:=rfl
theorem s_okCell_eref (t : Nat) (g : Nat) (i : Nat) (o : Nat) : okCell (.eref t g i o)=true:=rfl
theorem s_okCell_iptr (cs : List AVal) (o : Nat) : okCell (.iptr cs o)=true:=rfl
theorem s_okCell_lst (x : Bool) (xs : List AVal) : okCell (.lst x xs)=true:=rfl
theorem s_okCell_sl (t : Nat) (g : Nat) (lo : Nat) (n : Nat) : okCell (.sl t g lo n)=true:=rfl
theorem s_okCell_agg (cs : List AVal) : okCell (.agg cs)=false:=rfl
theorem s_okCell_tup (vs : List AVal) : okCell (.tup vs)=false:=rfl
theorem s_okCell_fn (f : Nat) (caps : List AVal) : okCell (.fn f caps)=true:=rfl
theorem s_okCell_nilm  : okCell (.nilm)=true:=rfl
theorem s_okCell_map (t : Nat) : okCell (.map t)=true:=rfl
theorem s_okCell_nili  : okCell (.nili)=true:=rfl
theorem s_okCell_iface (t : Nat) (x : AVal) : okCell (.iface t x)=true:=rfl
theorem s_okCell_pan (x : AVal) : okCell (.pan x)=false:=rfl
theorem s_ntop_top  : ntop (.top)=false:=rfl
theorem s_ntop_any  : ntop (.any)=true:=rfl
theorem s_ntop_int (k : IntKind) (n : Int) : ntop (.int k n)=true:=rfl
theorem s_ntop_bool (b : Bool) : ntop (.bool b)=true:=rfl
theorem s_ntop_str (l : List UInt8) : ntop (.str l)=true:=rfl
theorem s_ntop_nilp  : ntop (.nilp)=true:=rfl
theorem s_ntop_ref (t : Nat) (o : Nat) : ntop (.ref t o)=true:=rfl
theorem s_ntop_eref (t : Nat) (g : Nat) (i : Nat) (o : Nat) : ntop (.eref t g i o)=true:=rfl
theorem s_ntop_iptr (cs : List AVal) (o : Nat) : ntop (.iptr cs o)=true:=rfl
theorem s_ntop_lst (x : Bool) (xs : List AVal) : ntop (.lst x xs)=true:=rfl
theorem s_ntop_sl (t : Nat) (g : Nat) (lo : Nat) (n : Nat) : ntop (.sl t g lo n)=true:=rfl
theorem s_ntop_agg (cs : List AVal) : ntop (.agg cs)=true:=rfl
theorem s_ntop_tup (vs : List AVal) : ntop (.tup vs)=true:=rfl
theorem s_ntop_fn (f : Nat) (caps : List AVal) : ntop (.fn f caps)=true:=rfl
theorem s_ntop_nilm  : ntop (.nilm)=true:=rfl
theorem s_ntop_map (t : Nat) : ntop (.map t)=true:=rfl
theorem s_ntop_nili  : ntop (.nili)=true:=rfl
theorem s_ntop_iface (t : Nat) (x : AVal) : ntop (.iface t x)=true:=rfl
theorem s_ntop_pan (x : AVal) : ntop (.pan x)=true:=rfl
theorem s_flat1_top  : flat1 (.top)=false:=rfl
theorem s_flat1_any  : flat1 (.any)=false:=rfl
theorem s_flat1_int (k : IntKind) (n : Int) : flat1 (.int k n)=true:=rfl
theorem s_flat1_bool (b : Bool) : flat1 (.bool b)=true:=rfl
theorem s_flat1_str (l : List UInt8) : flat1 (.str l)=true:=rfl
theorem s_flat1_nilp  : flat1 (.nilp)=true:=rfl
theorem s_flat1_ref (t : Nat) (o : Nat) : flat1 (.ref t o)=false:=rfl
theorem s_flat1_eref (t : Nat) (g : Nat) (i : Nat) (o : Nat) : flat1 (.eref t g i o)=false:=rfl
theorem s_flat1_iptr (cs : List AVal) (o : Nat) : flat1 (.iptr cs o)=false:=rfl
theorem s_flat1_lst (x : Bool) (xs : List AVal) : flat1 (.lst x xs)=false:=rfl
theorem s_flat1_sl (t : Nat) (g : Nat) (lo : Nat) (n : Nat) : flat1 (.sl t g lo n)=false:=rfl
theorem s_flat1_agg (cs : List AVal) : flat1 (.agg cs)=false:=rfl
theorem s_flat1_tup (vs : List AVal) : flat1 (.tup vs)=false:=rfl
theorem s_flat1_fn (f : Nat) (caps : List AVal) : flat1 (.fn f caps)=false:=rfl
theorem s_flat1_nilm  : flat1 (.nilm)=true:=rfl
theorem s_flat1_map (t : Nat) : flat1 (.map t)=false:=rfl
theorem s_flat1_nili  : flat1 (.nili)=true:=rfl
theorem s_flat1_iface (t : Nat) (x : AVal) : flat1 (.iface t x)=false:=rfl
theorem s_flat1_pan (x : AVal) : flat1 (.pan x)=false:=rfl
theorem s_flat2_top  : flat2 (.top)=false:=rfl
theorem s_flat2_any  : flat2 (.any)=false:=rfl
theorem s_flat2_int (k : IntKind) (n : Int) : flat2 (.int k n)=true:=rfl
theorem s_flat2_bool (b : Bool) : flat2 (.bool b)=true:=rfl
theorem s_flat2_str (l : List UInt8) : flat2 (.str l)=true:=rfl
theorem s_flat2_nilp  : flat2 (.nilp)=true:=rfl
theorem s_flat2_ref (t : Nat) (o : Nat) : flat2 (.ref t o)=false:=rfl
theorem s_flat2_eref (t : Nat) (g : Nat) (i : Nat) (o : Nat) : flat2 (.eref t g i o)=false:=rfl
theorem s_flat2_iptr (cs : List AVal) (o : Nat) : flat2 (.iptr cs o)=false:=rfl
theorem s_flat2_lst (x : Bool) (xs : List AVal) : flat2 (.lst x xs)=false:=rfl
theorem s_flat2_sl (t : Nat) (g : Nat) (lo : Nat) (n : Nat) : flat2 (.sl t g lo n)=false:=rfl
theorem s_flat2_agg (cs : List AVal) : flat2 (.agg cs)=cs.all flat1:=rfl
theorem s_flat2_tup (vs : List AVal) : flat2 (.tup vs)=false:=rfl
theorem s_flat2_fn (f : Nat) (caps : List AVal) : flat2 (.fn f caps)=false:=rfl
theorem s_flat2_nilm  : flat2 (.nilm)=true:=rfl
theorem s_flat2_map (t : Nat) : flat2 (.map t)=false:=rfl
theorem s_flat2_nili  : flat2 (.nili)=true:=rfl
theorem s_flat2_iface (t : Nat) (x : AVal) : flat2 (.iface t x)=false:=rfl
theorem s_flat2_pan (x : AVal) : flat2 (.pan x)=false:=rfl
theorem s_flatA_top  : flatA (.top)=false:=rfl
theorem s_flatA_any  : flatA (.any)=false:=rfl
theorem s_flatA_int (k : IntKind) (n : Int) : flatA (.int k n)=true:=rfl
theorem s_flatA_bool (b : Bool) : flatA (.bool b)=true:=rfl
theorem s_flatA_str (l : List UInt8) : flatA (.str l)=true:=rfl
theorem s_flatA_nilp  : flatA (.nilp)=true:=rfl
theorem s_flatA_ref (t : Nat) (o : Nat) : flatA (.ref t o)=false:=rfl
theorem s_flatA_eref (t : Nat) (g : Nat) (i : Nat) (o : Nat) : flatA (.eref t g i o)=false:=rfl
theorem s_flatA_iptr (cs : List AVal) (o : Nat) : flatA (.iptr cs o)=false:=rfl
theorem s_flatA_lst (x : Bool) (xs : List AVal) : flatA (.lst x xs)=false:=rfl
theorem s_flatA_sl (t : Nat) (g : Nat) (lo : Nat) (n : Nat) : flatA (.sl t g lo n)=false:=rfl
theorem s_flatA_agg (cs : List AVal) : flatA (.agg cs)=cs.all flat1:=rfl
theorem s_flatA_tup (vs : List AVal) : flatA (.tup vs)=vs.all flat2:=rfl
theorem s_flatA_fn (f : Nat) (caps : List AVal) : flatA (.fn f caps)=false:=rfl
theorem s_flatA_nilm  : flatA (.nilm)=true:=rfl
theorem s_flatA_map (t : Nat) : flatA (.map t)=false:=rfl
theorem s_flatA_nili  : flatA (.nili)=true:=rfl
theorem s_flatA_iface (t : Nat) (x : AVal) : flatA (.iface t x)=false:=rfl
theorem s_plain1_top  : plain1 (.top)=false:=rfl
theorem s_plain1_any  : plain1 (.any)=false:=rfl
theorem s_plain1_int (k : IntKind) (n : Int) : plain1 (.int k n)=true:=rfl
theorem s_plain1_bool (b : Bool) : plain1 (.bool b)=true:=rfl
theorem s_plain1_str (l : List UInt8) : plain1 (.str l)=true:=rfl
theorem s_plain1_nilp  : plain1 (.nilp)=true:=rfl
theorem s_plain1_ref (t : Nat) (o : Nat) : plain1 (.ref t o)=false:=rfl
theorem s_plain1_eref (t : Nat) (g : Nat) (i : Nat) (o : Nat) : plain1 (.eref t g i o)=false:=rfl
theorem s_plain1_iptr (cs : List AVal) (o : Nat) : plain1 (.iptr cs o)=false:=rfl
theorem s_plain1_lst (x : Bool) (xs : List AVal) : plain1 (.lst x xs)=true:=rfl
theorem s_plain1_sl (t : Nat) (g : Nat) (lo : Nat) (n : Nat) : plain1 (.sl t g lo n)=false:=rfl
theorem s_plain1_agg (cs : List AVal) : plain1 (.agg cs)=false:=rfl
theorem s_plain1_tup (vs : List AVal) : plain1 (.tup vs)=false:=rfl
theorem s_plain1_nilm  : plain1 (.nilm)=true:=rfl
theorem s_plain1_map (t : Nat) : plain1 (.map t)=false:=rfl
theorem s_plain1_nili  : plain1 (.nili)=true:=rfl
theorem s_plain1_iface (t : Nat) (x : AVal) : plain1 (.iface t x)=false:=rfl
theorem s_plain1_pan (x : AVal) : plain1 (.pan x)=false:=rfl
theorem s_plainV_top  : plainV (.top)=false:=rfl
theorem s_plainV_any  : plainV (.any)=false:=rfl
theorem s_plainV_int (k : IntKind) (n : Int) : plainV (.int k n)=true:=rfl
theorem s_plainV_bool (b : Bool) : plainV (.bool b)=true:=rfl
theorem s_plainV_str (l : List UInt8) : plainV (.str l)=true:=rfl
theorem s_plainV_nilp  : plainV (.nilp)=true:=rfl
theorem s_plainV_ref (t : Nat) (o : Nat) : plainV (.ref t o)=false:=rfl
theorem s_plainV_eref (t : Nat) (g : Nat) (i : Nat) (o : Nat) : plainV (.eref t g i o)=false:=rfl
theorem s_plainV_iptr (cs : List AVal) (o : Nat) : plainV (.iptr cs o)=false:=rfl
theorem s_plainV_lst (x : Bool) (xs : List AVal) : plainV (.lst x xs)=true:=rfl
theorem s_plainV_sl (t : Nat) (g : Nat) (lo : Nat) (n : Nat) : plainV (.sl t g lo n)=false:=rfl
theorem s_plainV_agg (cs : List AVal) : plainV (.agg cs)=cs.all plain1:=rfl
theorem s_plainV_tup (vs : List AVal) : plainV (.tup vs)=false:=rfl
theorem s_plainV_nilm  : plainV (.nilm)=true:=rfl
theorem s_plainV_map (t : Nat) : plainV (.map t)=false:=rfl
theorem s_plainV_nili  : plainV (.nili)=true:=rfl
theorem s_plainV_iface (t : Nat) (x : AVal) : plainV (.iface t x)=false:=rfl
theorem s_plainV_pan (x : AVal) : plainV (.pan x)=false:=rfl
theorem s_norm1_top  : norm1 (.top)=(.top):=rfl
theorem s_norm1_any  : norm1 (.any)=(.any):=rfl
theorem s_norm1_int (k : IntKind) (n : Int) : norm1 (.int k n)=(.int k n):=rfl
theorem s_norm1_bool (b : Bool) : norm1 (.bool b)=(.bool b):=rfl
theorem s_norm1_str (l : List UInt8) : norm1 (.str l)=(.str l):=rfl
theorem s_norm1_nilp  : norm1 (.nilp)=(.nilp):=rfl
theorem s_norm1_ref (t : Nat) (o : Nat) : norm1 (.ref t o)=(.ref t o):=rfl
theorem s_norm1_eref (t : Nat) (g : Nat) (i : Nat) (o : Nat) : norm1 (.eref t g i o)=(.eref t g i o):=rfl
theorem s_norm1_iptr (cs : List AVal) (o : Nat) : norm1 (.iptr cs o)=(.iptr cs o):=rfl
theorem s_norm1_lst (x : Bool) (xs : List AVal) : norm1 (.lst x xs)=.lst false xs:=rfl
theorem s_norm1_sl (t : Nat) (g : Nat) (lo : Nat) (n : Nat) : norm1 (.sl t g lo n)=(.sl t g lo n):=rfl
theorem s_norm1_agg (cs : List AVal) : norm1 (.agg cs)=(.agg cs):=rfl
theorem s_norm1_tup (vs : List AVal) : norm1 (.tup vs)=(.tup vs):=rfl
theorem s_norm1_fn (f : Nat) (caps : List AVal) : norm1 (.fn f caps)=(.fn f caps):=rfl
theorem s_norm1_nilm  : norm1 (.nilm)=(.nilm):=rfl
theorem s_norm1_map (t : Nat) : norm1 (.map t)=(.map t):=rfl
theorem s_norm1_nili  : norm1 (.nili)=(.nili):=rfl
theorem s_norm1_iface (t : Nat) (x : AVal) : norm1 (.iface t x)=(.iface t x):=rfl
theorem s_norm1_pan (x : AVal) : norm1 (.pan x)=(.pan x):=rfl
theorem s_normV_top  : normV (.top)=(.top):=rfl
theorem s_normV_any  : normV (.any)=(.any):=rfl
theorem s_normV_int (k : IntKind) (n : Int) : normV (.int k n)=(.int k n):=rfl
theorem s_normV_bool (b : Bool) : normV (.bool b)=(.bool b):=rfl
theorem s_normV_str (l : List UInt8) : normV (.str l)=(.str l):=rfl
theorem s_normV_nilp  : normV (.nilp)=(.nilp):=rfl
theorem s_normV_ref (t : Nat) (o : Nat) : normV (.ref t o)=(.ref t o):=rfl
theorem s_normV_eref (t : Nat) (g : Nat) (i : Nat) (o : Nat) : normV (.eref t g i o)=(.eref t g i o):=rfl
theorem s_normV_iptr (cs : List AVal) (o : Nat) : normV (.iptr cs o)=(.iptr cs o):=rfl
theorem s_normV_lst (x : Bool) (xs : List AVal) : normV (.lst x xs)=.lst false xs:=rfl
theorem s_normV_sl (t : Nat) (g : Nat) (lo : Nat) (n : Nat) : normV (.sl t g lo n)=(.sl t g lo n):=rfl
theorem s_normV_agg (cs : List AVal) : normV (.agg cs)=.agg (cs.map norm1):=rfl
theorem s_normV_tup (vs : List AVal) : normV (.tup vs)=(.tup vs):=rfl
theorem s_normV_fn (f : Nat) (caps : List AVal) : normV (.fn f caps)=(.fn f caps):=rfl
theorem s_normV_nilm  : normV (.nilm)=(.nilm):=rfl
theorem s_normV_map (t : Nat) : normV (.map t)=(.map t):=rfl
theorem s_normV_nili  : normV (.nili)=(.nili):=rfl
theorem s_normV_iface (t : Nat) (x : AVal) : normV (.iface t x)=(.iface t x):=rfl
theorem s_normV_pan (x : AVal) : normV (.pan x)=(.pan x):=rfl
theorem s_cells_top  : AVal.cells (.top)=[(.top)]:=rfl
theorem s_cells_any  : AVal.cells (.any)=[(.any)]:=rfl
theorem s_cells_int (k : IntKind) (n : Int) : AVal.cells (.int k n)=[(.int k n)]:=rfl
theorem s_cells_bool (b : Bool) : AVal.cells (.bool b)=[(.bool b)]:=rfl
theorem s_cells_str (l : List UInt8) : AVal.cells (.str l)=[(.str l)]:=rfl
theorem s_cells_nilp  : AVal.cells (.nilp)=[(.nilp)]:=rfl
theorem s_cells_ref (t : Nat) (o : Nat) : AVal.cells (.ref t o)=[(.ref t o)]:=rfl
theorem s_cells_eref (t : Nat) (g : Nat) (i : Nat) (o : Nat) : AVal.cells (.eref t g i o)=[(.eref t g i o)]:=rfl
theorem s_cells_iptr (cs : List AVal) (o : Nat) : AVal.cells (.iptr cs o)=[(.iptr cs o)]:=rfl
theorem s_cells_lst (x : Bool) (xs : List AVal) : AVal.cells (.lst x xs)=[(.lst x xs)]:=rfl
theorem s_cells_sl (t : Nat) (g : Nat) (lo : Nat) (n : Nat) : AVal.cells (.sl t g lo n)=[(.sl t g lo n)]:=rfl
theorem s_cells_agg (cs : List AVal) : AVal.cells (.agg cs)=cs:=rfl
theorem s_cells_tup (vs : List AVal) : AVal.cells (.tup vs)=[(.tup vs)]:=rfl
theorem s_cells_fn (f : Nat) (caps : List AVal) : AVal.cells (.fn f caps)=[(.fn f caps)]:=rfl
theorem s_cells_nilm  : AVal.cells (.nilm)=[(.nilm)]:=rfl
theorem s_cells_map (t : Nat) : AVal.cells (.map t)=[(.map t)]:=rfl
theorem s_cells_nili  : AVal.cells (.nili)=[(.nili)]:=rfl
theorem s_cells_iface (t : Nat) (x : AVal) : AVal.cells (.iface t x)=[(.iface t x)]:=rfl
theorem s_cells_pan (x : AVal) : AVal.cells (.pan x)=[(.pan x)]:=rfl
theorem s_valOf_top  : valOf (.top)=(.top):=rfl
theorem s_valOf_any  : valOf (.any)=(.any):=rfl
theorem s_valOf_int (k : IntKind) (n : Int) : valOf (.int k n)=(.int k n):=rfl
theorem s_valOf_bool (b : Bool) : valOf (.bool b)=(.bool b):=rfl
theorem s_valOf_str (l : List UInt8) : valOf (.str l)=(.str l):=rfl
theorem s_valOf_nilp  : valOf (.nilp)=(.nilp):=rfl
theorem s_valOf_ref (t : Nat) (o : Nat) : valOf (.ref t o)=(.ref t o):=rfl
theorem s_valOf_eref (t : Nat) (g : Nat) (i : Nat) (o : Nat) : valOf (.eref t g i o)=(.eref t g i o):=rfl
theorem s_valOf_iptr (cs : List AVal) (o : Nat) : valOf (.iptr cs o)=(.iptr cs o):=rfl
theorem s_valOf_lst (x : Bool) (xs : List AVal) : valOf (.lst x xs)=(.lst x xs):=rfl
theorem s_valOf_sl (t : Nat) (g : Nat) (lo : Nat) (n : Nat) : valOf (.sl t g lo n)=(.sl t g lo n):=rfl
theorem s_valOf_agg (cs : List AVal) : valOf (.agg cs)=(.agg cs):=rfl
theorem s_valOf_tup (vs : List AVal) : valOf (.tup vs)=(.tup vs):=rfl
theorem s_valOf_fn (f : Nat) (caps : List AVal) : valOf (.fn f caps)=(.fn f caps):=rfl
theorem s_valOf_nilm  : valOf (.nilm)=(.nilm):=rfl
theorem s_valOf_map (t : Nat) : valOf (.map t)=(.map t):=rfl
theorem s_valOf_nili  : valOf (.nili)=(.nili):=rfl
theorem s_valOf_iface (t : Nat) (x : AVal) : valOf (.iface t x)=(.iface t x):=rfl
theorem s_valOf_pan (x : AVal) : valOf (.pan x)=x:=rfl
theorem s_kindA_top  : kindA (.top)=4:=rfl
theorem s_kindA_any  : kindA (.any)=4:=rfl
theorem s_kindA_int (k : IntKind) (n : Int) : kindA (.int k n)=0:=rfl
theorem s_kindA_bool (b : Bool) : kindA (.bool b)=1:=rfl
theorem s_kindA_str (l : List UInt8) : kindA (.str l)=2:=rfl
theorem s_kindA_nilp  : kindA (.nilp)=4:=rfl
theorem s_kindA_ref (t : Nat) (o : Nat) : kindA (.ref t o)=4:=rfl
theorem s_kindA_eref (t : Nat) (g : Nat) (i : Nat) (o : Nat) : kindA (.eref t g i o)=4:=rfl
theorem s_kindA_iptr (cs : List AVal) (o : Nat) : kindA (.iptr cs o)=4:=rfl
theorem s_kindA_lst (x : Bool) (xs : List AVal) : kindA (.lst x xs)=4:=rfl
theorem s_kindA_sl (t : Nat) (g : Nat) (lo : Nat) (n : Nat) : kindA (.sl t g lo n)=4:=rfl
theorem s_kindA_agg (cs : List AVal) : kindA (.agg cs)=4:=rfl
theorem s_kindA_tup (vs : List AVal) : kindA (.tup vs)=4:=rfl
theorem s_kindA_fn (f : Nat) (caps : List AVal) : kindA (.fn f caps)=4:=rfl
theorem s_kindA_nilm  : kindA (.nilm)=4:=rfl
theorem s_kindA_map (t : Nat) : kindA (.map t)=4:=rfl
theorem s_kindA_nili  : kindA (.nili)=4:=rfl
theorem s_kindA_iface (t : Nat) (x : AVal) : kindA (.iface t x)=4:=rfl
theorem s_kindA_pan (x : AVal) : kindA (.pan x)=4:=rfl
theorem s_refsV_top  : refsV (.top)=[]:=rfl
theorem s_refsV_any  : refsV (.any)=[]:=rfl
theorem s_refsV_int (k : IntKind) (n : Int) : refsV (.int k n)=[]:=rfl
theorem s_refsV_bool (b : Bool) : refsV (.bool b)=[]:=rfl
theorem s_refsV_str (l : List UInt8) : refsV (.str l)=[]:=rfl
theorem s_refsV_nilp  : refsV (.nilp)=[]:=rfl
theorem s_refsV_ref (t : Nat) (o : Nat) : refsV (.ref t o)=[t]:=rfl
theorem s_refsV_eref (t : Nat) (g : Nat) (i : Nat) (o : Nat) : refsV (.eref t g i o)=[t]:=rfl
theorem s_refsV_iptr (cs : List AVal) (o : Nat) : refsV (.iptr cs o)=[]:=rfl
theorem s_refsV_lst (x : Bool) (xs : List AVal) : refsV (.lst x xs)=[]:=rfl
theorem s_refsV_sl (t : Nat) (g : Nat) (lo : Nat) (n : Nat) : refsV (.sl t g lo n)=[t]:=rfl
theorem s_refsV_agg (cs : List AVal) : refsV (.agg cs)=refsL cs:=rfl
theorem s_refsV_tup (vs : List AVal) : refsV (.tup vs)=refsL vs:=rfl
theorem s_refsV_fn (f : Nat) (caps : List AVal) : refsV (.fn f caps)=refsL caps:=rfl
theorem s_refsV_nilm  : refsV (.nilm)=[]:=rfl
theorem s_refsV_map (t : Nat) : refsV (.map t)=[t]:=rfl
theorem s_refsV_nili  : refsV (.nili)=[]:=rfl
theorem s_refsV_iface (t : Nat) (x : AVal) : refsV (.iface t x)=refsV x:=rfl
theorem s_refsV_pan (x : AVal) : refsV (.pan x)=refsV x:=rfl
theorem s_renV_top  : renV ρ (.top)=(.top):=rfl
theorem s_renV_any  : renV ρ (.any)=(.any):=rfl
theorem s_renV_int (k : IntKind) (n : Int) : renV ρ (.int k n)=(.int k n):=rfl
theorem s_renV_bool (b : Bool) : renV ρ (.bool b)=(.bool b):=rfl
theorem s_renV_str (l : List UInt8) : renV ρ (.str l)=(.str l):=rfl
theorem s_renV_nilp  : renV ρ (.nilp)=(.nilp):=rfl
theorem s_renV_iptr (cs : List AVal) (o : Nat) : renV ρ (.iptr cs o)=(.iptr cs o):=rfl
theorem s_renV_lst (x : Bool) (xs : List AVal) : renV ρ (.lst x xs)=(.lst x xs):=rfl
theorem s_renV_agg (cs : List AVal) : renV ρ (.agg cs)=.agg (renL ρ cs):=rfl
theorem s_renV_tup (vs : List AVal) : renV ρ (.tup vs)=.tup (renL ρ vs):=rfl
theorem s_renV_fn (f : Nat) (caps : List AVal) : renV ρ (.fn f caps)=.fn f (renL ρ caps):=rfl
theorem s_renV_nilm  : renV ρ (.nilm)=(.nilm):=rfl
theorem s_renV_nili  : renV ρ (.nili)=(.nili):=rfl
theorem s_renV_iface (t : Nat) (x : AVal) : renV ρ (.iface t x)=.iface t (renV ρ x):=rfl
theorem s_renV_pan (x : AVal) : renV ρ (.pan x)=.pan (renV ρ x):=rfl
theorem s_plain1_fn (f : Nat) : plain1 (.fn f [])=true:=rfl
theorem s_plainV_fn (f : Nat) : plainV (.fn f [])=true:=rfl
theorem s_flatA_pan (t : Nat) (x : AVal) : flatA (.pan (.iface t x))=flat1 x:=rfl
theorem s_regN_some (live : List Nat) (tm : Tms) : regN live (some (tm,σ,none))=some (.normal,keepL live tm,σ):=rfl
theorem s_regN_pan (live : List Nat) (tm : Tms) (x : AVal) : regN live (some (tm,σ,some x))=some (.panic x,[],σ):=rfl
theorem s_regN_none (live : List Nat) : regN live none=none:=rfl
theorem s_renV_ref (t o : Nat) : renV ρ (.ref t o)=(match ρ t 0 with | some (t',0)=>.ref t' o | _=>.any):=rfl
theorem s_renV_map (t : Nat) : renV ρ (.map t)=(match ρ t 0 with | some (t',0)=>.map t' | _=>.any):=rfl
theorem s_renV_sl (t g lo n : Nat) : renV ρ (.sl t g lo n)=(match ρ t g with | some (t',g')=>.sl t' g' lo n | none=>.any):=rfl
theorem s_renV_eref (t g i o : Nat) : renV ρ (.eref t g i o)=(match ρ t g with | some (t',g')=>.eref t' g' i o | none=>.any):=rfl
theorem s_refsL_nil : refsL []=[]:=rfl
theorem s_refsL_cons (x : AVal) (xs : List AVal) : refsL (x::xs)=refsV x++refsL xs:=rfl
theorem s_renL_nil : renL ρ []=[]:=rfl
theorem s_renL_cons (x : AVal) (xs : List AVal) : renL ρ (x::xs)=renV ρ x::renL ρ xs:=rfl
end
end Go.Proofs.YtmlkhhidifjjfaaDoor
namespace Go.Proofs.YtmlkhhidifjjfaaDoor
mutual
def noRef : AVal→Bool
 | .ref _ _=>false
 | .eref _ _ _ _=>false
 | .sl _ _ _ _=>false
 | .map _=>false
 | .agg cs=>noRefL cs
 | .tup vs=>noRefL vs
 | .fn _ vs=>noRefL vs
 | .iface _ x=>noRef x
 | .pan x=>noRef x
 | .top=>true
 | .any=>true
 | .int _ _=>true
 | .bool _=>true
 | .str _=>true
 | .nilp=>true
 | .nilm=>true
 | .nili=>true
 | .iptr _ _=>true
 | .lst _ _=>true
def noRefL : List AVal→Bool
 | []=>true
 | x::xs=>noRef x && noRefL xs
end
mutual
theorem noRef_spec (ρ : Rho) : ∀ (x : AVal),noRef x=true→renV ρ x=x∧refsV x=[]
 | .ref _ _,h=>by simp [noRef] at h
 | .eref _ _ _ _,h=>by simp [noRef] at h
 | .sl _ _ _ _,h=>by simp [noRef] at h
 | .map _,h=>by simp [noRef] at h
 | .agg cs,h=>by have:=noRefL_spec ρ cs (by simpa only [noRef] using h);exact ⟨by simp only [renV,this.1],by simp only [refsV,this.2]⟩
 | .tup cs,h=>by have:=noRefL_spec ρ cs (by simpa only [noRef] using h);exact ⟨by simp only [renV,this.1],by simp only [refsV,this.2]⟩
 | .fn f cs,h=>by have:=noRefL_spec ρ cs (by simpa only [noRef] using h);exact ⟨by simp only [renV,this.1],by simp only [refsV,this.2]⟩
 | .iface t x,h=>by have:=noRef_spec ρ x (by simpa only [noRef] using h);exact ⟨by simp only [renV,this.1],by simp only [refsV,this.2]⟩
 | .pan x,h=>by have:=noRef_spec ρ x (by simpa only [noRef] using h);exact ⟨by simp only [renV,this.1],by simp only [refsV,this.2]⟩
 | .top,_=>⟨rfl,rfl⟩
 | .any,_=>⟨rfl,rfl⟩
 | .int _ _,_=>⟨rfl,rfl⟩
 | .bool _,_=>⟨rfl,rfl⟩
 | .str _,_=>⟨rfl,rfl⟩
 | .nilp,_=>⟨rfl,rfl⟩
 | .nilm,_=>⟨rfl,rfl⟩
 | .nili,_=>⟨rfl,rfl⟩
 | .iptr _ _,_=>⟨rfl,rfl⟩
 | .lst _ _,_=>⟨rfl,rfl⟩
theorem noRefL_spec (ρ : Rho) : ∀ (xs : List AVal),noRefL xs=true→renL ρ xs=xs∧refsL xs=[]
 | [],_=>⟨rfl,rfl⟩
 | x::xs,h=>by
  simp only [noRefL,Bool.and_eq_true] at h
  have h1:=noRef_spec ρ x h.1
  have h2:=noRefL_spec ρ xs h.2
  exact ⟨by simp only [renL,h1.1,h2.1],by simp only [refsL,h1.2,h2.2,List.append_nil]⟩
end
theorem out_tree {σ : AHeap} {r : AVal} (h : noRef r=true) : outA 0 σ r=some (r,[]):=by
 have h1:=noRef_spec (rhoOf σ 0 []) r h
 have hids : gcIds 0 [r] σ=[]:=by
  unfold gcIds
  simp only [refsL,h1.2,List.append_nil,List.range_zero,List.flatMap_nil]
  rfl
 unfold outA gcA
 simp only [hids,renL,heapOf,h1.1]
def normR : AVal→AVal
 | .tup vs=>.tup (vs.map normV)
 | x=>normV x
def plainR : AVal→Bool
 | .tup vs=>vs.all plainV
 | x=>plainV x
def nofn1 : AVal→Bool
 | .fn _ _=>false
 | _=>true
def nofnV : AVal→Bool
 | .agg cs=>cs.all nofn1
 | x=>nofn1 x
def nofnR : AVal→Bool
 | .tup vs=>vs.all nofnV
 | x=>nofnV x
theorem resV_row {k g n : Nat} {xs : List AVal} {σ : AHeap} {t : Nat} (hs : σ[t]?=some (.row g k xs)) (hn : n≤xs.length) : resV 0 (some (.sl t g 0 n,σ))=some (.lst false (xs.take n),[]):=by
 have hv : viewR σ (.sl t g 0 n)=some (.lst false (xs.take n),[t]):=by
  simp only [viewR,viewA,viewA1,elemsA,hs,Nat.zero_add,hn,and_self,if_true,List.drop_zero]
 have e : resV 0 (some (.sl t g 0 n,σ))=(match viewR σ (.sl t g 0 n) with
  | some (r',ts)=>match gcA 0 [r'] (freezeA σ ts) with
   | ([r''],σ')=>some (r'',σ')
   | _=>none
  | none=>none):=rfl
 rw [e,hv]
 exact out_tree rfl
theorem fin_ret {m : Nat} {fn : AFunc} {tm : Tms} {σ : AHeap} : finA m fn (some (.ret,tm,σ))=match resA tm σ fn.res with
  | some r=>outA m σ r
  | none=>none:=rfl
theorem fin_normal {m : Nat} {fn : AFunc} {tm : Tms} {σ : AHeap} : finA m fn (some (.normal,tm,σ))=match resA tm σ fn.res with
  | some r=>outA m σ r
  | none=>none:=rfl
theorem fin_panic {m : Nat} {fn : AFunc} {tm : Tms} {σ : AHeap} {x : AVal} : finA m fn (some (.panic x,tm,σ))=outA m σ (.pan x):=rfl
theorem s_noRef_top  : noRef (.top)=true:=rfl
theorem s_noRef_any  : noRef (.any)=true:=rfl
theorem s_noRef_int (k : IntKind) (n : Int) : noRef (.int k n)=true:=rfl
theorem s_noRef_bool (b : Bool) : noRef (.bool b)=true:=rfl
theorem s_noRef_str (l : List UInt8) : noRef (.str l)=true:=rfl
theorem s_noRef_nilp  : noRef (.nilp)=true:=rfl
theorem s_noRef_ref (t : Nat) (o : Nat) : noRef (.ref t o)=false:=rfl
theorem s_noRef_eref (t : Nat) (g : Nat) (i : Nat) (o : Nat) : noRef (.eref t g i o)=false:=rfl
theorem s_noRef_iptr (cs : List AVal) (o : Nat) : noRef (.iptr cs o)=true:=rfl
theorem s_noRef_lst (x : Bool) (xs : List AVal) : noRef (.lst x xs)=true:=rfl
theorem s_noRef_sl (t : Nat) (g : Nat) (lo : Nat) (n : Nat) : noRef (.sl t g lo n)=false:=rfl
theorem s_noRef_agg (cs : List AVal) : noRef (.agg cs)=noRefL cs:=rfl
theorem s_noRef_tup (vs : List AVal) : noRef (.tup vs)=noRefL vs:=rfl
theorem s_noRef_fn (f : Nat) (caps : List AVal) : noRef (.fn f caps)=noRefL caps:=rfl
theorem s_noRef_nilm  : noRef (.nilm)=true:=rfl
theorem s_noRef_map (t : Nat) : noRef (.map t)=false:=rfl
theorem s_noRef_nili  : noRef (.nili)=true:=rfl
theorem s_noRef_iface (t : Nat) (x : AVal) : noRef (.iface t x)=noRef x:=rfl
theorem s_noRef_pan (x : AVal) : noRef (.pan x)=noRef x:=rfl
theorem s_nofn1_top  : nofn1 (.top)=true:=rfl
theorem s_nofn1_any  : nofn1 (.any)=true:=rfl
theorem s_nofn1_int (k : IntKind) (n : Int) : nofn1 (.int k n)=true:=rfl
theorem s_nofn1_bool (b : Bool) : nofn1 (.bool b)=true:=rfl
theorem s_nofn1_str (l : List UInt8) : nofn1 (.str l)=true:=rfl
theorem s_nofn1_nilp  : nofn1 (.nilp)=true:=rfl
theorem s_nofn1_ref (t : Nat) (o : Nat) : nofn1 (.ref t o)=true:=rfl
theorem s_nofn1_eref (t : Nat) (g : Nat) (i : Nat) (o : Nat) : nofn1 (.eref t g i o)=true:=rfl
theorem s_nofn1_iptr (cs : List AVal) (o : Nat) : nofn1 (.iptr cs o)=true:=rfl
theorem s_nofn1_lst (x : Bool) (xs : List AVal) : nofn1 (.lst x xs)=true:=rfl
theorem s_nofn1_sl (t : Nat) (g : Nat) (lo : Nat) (n : Nat) : nofn1 (.sl t g lo n)=true:=rfl
theorem s_nofn1_agg (cs : List AVal) : nofn1 (.agg cs)=true:=rfl
theorem s_nofn1_tup (vs : List AVal) : nofn1 (.tup vs)=true:=rfl
theorem s_nofn1_fn (f : Nat) (caps : List AVal) : nofn1 (.fn f caps)=false:=rfl
theorem s_nofn1_nilm  : nofn1 (.nilm)=true:=rfl
theorem s_nofn1_map (t : Nat) : nofn1 (.map t)=true:=rfl
theorem s_nofn1_nili  : nofn1 (.nili)=true:=rfl
theorem s_nofn1_iface (t : Nat) (x : AVal) : nofn1 (.iface t x)=true:=rfl
theorem s_nofn1_pan (x : AVal) : nofn1 (.pan x)=true:=rfl
theorem s_nofnV_top  : nofnV (.top)=true:=rfl
theorem s_nofnV_any  : nofnV (.any)=true:=rfl
theorem s_nofnV_int (k : IntKind) (n : Int) : nofnV (.int k n)=true:=rfl
theorem s_nofnV_bool (b : Bool) : nofnV (.bool b)=true:=rfl
theorem s_nofnV_str (l : List UInt8) : nofnV (.str l)=true:=rfl
theorem s_nofnV_nilp  : nofnV (.nilp)=true:=rfl
theorem s_nofnV_ref (t : Nat) (o : Nat) : nofnV (.ref t o)=true:=rfl
theorem s_nofnV_eref (t : Nat) (g : Nat) (i : Nat) (o : Nat) : nofnV (.eref t g i o)=true:=rfl
theorem s_nofnV_iptr (cs : List AVal) (o : Nat) : nofnV (.iptr cs o)=true:=rfl
theorem s_nofnV_lst (x : Bool) (xs : List AVal) : nofnV (.lst x xs)=true:=rfl
theorem s_nofnV_sl (t : Nat) (g : Nat) (lo : Nat) (n : Nat) : nofnV (.sl t g lo n)=true:=rfl
theorem s_nofnV_agg (cs : List AVal) : nofnV (.agg cs)=cs.all nofn1:=rfl
theorem s_nofnV_tup (vs : List AVal) : nofnV (.tup vs)=true:=rfl
theorem s_nofnV_fn (f : Nat) (caps : List AVal) : nofnV (.fn f caps)=false:=rfl
theorem s_nofnV_nilm  : nofnV (.nilm)=true:=rfl
theorem s_nofnV_map (t : Nat) : nofnV (.map t)=true:=rfl
theorem s_nofnV_nili  : nofnV (.nili)=true:=rfl
theorem s_nofnV_iface (t : Nat) (x : AVal) : nofnV (.iface t x)=true:=rfl
theorem s_nofnV_pan (x : AVal) : nofnV (.pan x)=true:=rfl
theorem s_nofnR_top  : nofnR (.top)=true:=rfl
theorem s_nofnR_any  : nofnR (.any)=true:=rfl
theorem s_nofnR_int (k : IntKind) (n : Int) : nofnR (.int k n)=true:=rfl
theorem s_nofnR_bool (b : Bool) : nofnR (.bool b)=true:=rfl
theorem s_nofnR_str (l : List UInt8) : nofnR (.str l)=true:=rfl
theorem s_nofnR_nilp  : nofnR (.nilp)=true:=rfl
theorem s_nofnR_ref (t : Nat) (o : Nat) : nofnR (.ref t o)=true:=rfl
theorem s_nofnR_eref (t : Nat) (g : Nat) (i : Nat) (o : Nat) : nofnR (.eref t g i o)=true:=rfl
theorem s_nofnR_iptr (cs : List AVal) (o : Nat) : nofnR (.iptr cs o)=true:=rfl
theorem s_nofnR_lst (x : Bool) (xs : List AVal) : nofnR (.lst x xs)=true:=rfl
theorem s_nofnR_sl (t : Nat) (g : Nat) (lo : Nat) (n : Nat) : nofnR (.sl t g lo n)=true:=rfl
theorem s_nofnR_agg (cs : List AVal) : nofnR (.agg cs)=cs.all nofn1:=rfl
theorem s_nofnR_tup (vs : List AVal) : nofnR (.tup vs)=vs.all nofnV:=rfl
theorem s_nofnR_fn (f : Nat) (caps : List AVal) : nofnR (.fn f caps)=false:=rfl
theorem s_nofnR_nilm  : nofnR (.nilm)=true:=rfl
theorem s_nofnR_map (t : Nat) : nofnR (.map t)=true:=rfl
theorem s_nofnR_nili  : nofnR (.nili)=true:=rfl
theorem s_nofnR_iface (t : Nat) (x : AVal) : nofnR (.iface t x)=true:=rfl
theorem s_nofnR_pan (x : AVal) : nofnR (.pan x)=true:=rfl
theorem s_plainR_top  : plainR (.top)=false:=rfl
theorem s_plainR_any  : plainR (.any)=false:=rfl
theorem s_plainR_int (k : IntKind) (n : Int) : plainR (.int k n)=true:=rfl
theorem s_plainR_bool (b : Bool) : plainR (.bool b)=true:=rfl
theorem s_plainR_str (l : List UInt8) : plainR (.str l)=true:=rfl
theorem s_plainR_nilp  : plainR (.nilp)=true:=rfl
theorem s_plainR_ref (t : Nat) (o : Nat) : plainR (.ref t o)=false:=rfl
theorem s_plainR_eref (t : Nat) (g : Nat) (i : Nat) (o : Nat) : plainR (.eref t g i o)=false:=rfl
theorem s_plainR_iptr (cs : List AVal) (o : Nat) : plainR (.iptr cs o)=false:=rfl
theorem s_plainR_lst (x : Bool) (xs : List AVal) : plainR (.lst x xs)=true:=rfl
theorem s_plainR_sl (t : Nat) (g : Nat) (lo : Nat) (n : Nat) : plainR (.sl t g lo n)=false:=rfl
theorem s_plainR_agg (cs : List AVal) : plainR (.agg cs)=cs.all plain1:=rfl
theorem s_plainR_tup (vs : List AVal) : plainR (.tup vs)=vs.all plainV:=rfl
theorem s_plainR_nilm  : plainR (.nilm)=true:=rfl
theorem s_plainR_map (t : Nat) : plainR (.map t)=false:=rfl
theorem s_plainR_nili  : plainR (.nili)=true:=rfl
theorem s_plainR_iface (t : Nat) (x : AVal) : plainR (.iface t x)=false:=rfl
theorem s_plainR_pan (x : AVal) : plainR (.pan x)=false:=rfl
theorem s_normR_top  : normR (.top)=(.top):=rfl
theorem s_normR_any  : normR (.any)=(.any):=rfl
theorem s_normR_int (k : IntKind) (n : Int) : normR (.int k n)=(.int k n):=rfl
theorem s_normR_bool (b : Bool) : normR (.bool b)=(.bool b):=rfl
theorem s_normR_str (l : List UInt8) : normR (.str l)=(.str l):=rfl
theorem s_normR_nilp  : normR (.nilp)=(.nilp):=rfl
theorem s_normR_ref (t : Nat) (o : Nat) : normR (.ref t o)=(.ref t o):=rfl
theorem s_normR_eref (t : Nat) (g : Nat) (i : Nat) (o : Nat) : normR (.eref t g i o)=(.eref t g i o):=rfl
theorem s_normR_iptr (cs : List AVal) (o : Nat) : normR (.iptr cs o)=(.iptr cs o):=rfl
theorem s_normR_lst (x : Bool) (xs : List AVal) : normR (.lst x xs)=.lst false xs:=rfl
theorem s_normR_sl (t : Nat) (g : Nat) (lo : Nat) (n : Nat) : normR (.sl t g lo n)=(.sl t g lo n):=rfl
theorem s_normR_agg (cs : List AVal) : normR (.agg cs)=.agg (cs.map norm1):=rfl
theorem s_normR_tup (vs : List AVal) : normR (.tup vs)=.tup (vs.map normV):=rfl
theorem s_normR_fn (f : Nat) (caps : List AVal) : normR (.fn f caps)=(.fn f caps):=rfl
theorem s_normR_nilm  : normR (.nilm)=(.nilm):=rfl
theorem s_normR_map (t : Nat) : normR (.map t)=(.map t):=rfl
theorem s_normR_nili  : normR (.nili)=(.nili):=rfl
theorem s_normR_iface (t : Nat) (x : AVal) : normR (.iface t x)=(.iface t x):=rfl
theorem s_normR_pan (x : AVal) : normR (.pan x)=(.pan x):=rfl
theorem s_noRefL_nil : noRefL []=true:=rfl
theorem s_noRefL_cons (x : AVal) (xs : List AVal) : noRefL (x::xs)=(noRef x && noRefL xs):=rfl
theorem s_plainR_fn (f : Nat) : plainR (.fn f [])=true:=rfl
theorem s_if_and (p q : Bool) : (if p=true then q else false)=(p && q):=by cases p <;> rfl
theorem s_if_or (p q : Bool) : (if p=true then true else q)=(p || q):=by cases p <;> rfl
theorem s_if_nand (p q : Bool) : (if p=true then false else q)=(!p && q):=by cases p <;> rfl
theorem s_if_nor (p q : Bool) : (if p=true then q else true)=(!p || q):=by cases p <;> rfl
theorem s_if_fand (p q : Bool) : (if p=false then q else false)=(!p && q):=by cases p <;> rfl
theorem s_if_for (p q : Bool) : (if p=false then true else q)=(!p || q):=by cases p <;> rfl
theorem s_if_fnand (p q : Bool) : (if p=false then false else q)=(p && q):=by cases p <;> rfl
theorem s_if_fnor (p q : Bool) : (if p=false then q else true)=(p || q):=by cases p <;> rfl
section
def stripO (o : AOp) : AOp:=⟨o.dst,o.ins,o.guard,[]⟩
def stripC : ACode→ACode
 | .region ops chk live=>.region (ops.map stripO) chk live
 | .seq a b=>.seq (stripC a) (stripC b)
 | .cond c a b=>.cond c (stripC a) (stripC b)
 | .block id c=>.block id (stripC c)
 | .loop live c=>.loop live (stripC c)
 | .skip=>.skip
 | .exit id=>.exit id
 | .ret=>.ret
 | .stuck=>.stuck
def stripF (f : AFunc) : AFunc:=⟨f.res,stripC f.body⟩
section
variable {O : Oracle} {byref : Nat→Bool}
theorem step_strip (o : AOp) (s : Nat) (tm : Tms) (σ : AHeap) : stepA O byref (stripO o) s tm σ=stepA O byref o s tm σ:=rfl
theorem ops_strip : ∀ (ops : List AOp) (s : Nat) (tm : Tms) (σ : AHeap),runOps O byref (ops.map stripO) s tm σ=runOps O byref ops s tm σ
 | [],_,_,_=>rfl
 | o::os,s,tm,σ=>by
  simp only [List.map_cons,runOps,step_strip]
  split
  ·rfl
  ·rfl
  ·rename_i tm' σ' c _ _
   rw [show (stripO o).ins=o.ins from rfl,ops_strip os]
theorem sites_strip (ops : List AOp) : sitesOf (ops.map stripO)=sitesOf ops:=by
 simp [sitesOf,stripO,Function.comp_def]
theorem getD_strip (ops : List AOp) (i : Nat) : ((ops.map stripO).getD i default).ins=(ops.getD i default).ins:=by
 simp only [List.getD_eq_getElem?_getD,List.getElem?_map]
 cases ops[i]? <;> rfl
theorem chk_strip (ops : List AOp) (b : Nat) (l : List (Nat×Nat)) (cs : List Cls) : chkA (ops.map stripO) b l cs=chkA ops b l cs:=by
 unfold chkA
 congr 1
 funext p
 unfold pairFree emptyOp
 rw [getD_strip,getD_strip,←List.map_take,sites_strip]
theorem pan_strip (ops : List AOp) (b : Nat) (l : List (Nat×Nat)) (cs : List Cls) : panA (ops.map stripO) b l cs=panA ops b l cs:=by
 unfold panA
 congr 2
 funext p
 unfold pairFree emptyOp
 rw [getD_strip,getD_strip,←List.map_take,sites_strip]
theorem region_strip (ops : List AOp) (chk : Option (List (Nat×Nat))) (live : List Nat) (tm : Tms) (σ : AHeap) : runRegion O byref (ops.map stripO) chk live tm σ=runRegion O byref ops chk live tm σ:=by
 unfold runRegion
 rw [ops_strip,sites_strip]
 cases runOps O byref ops σ.length tm (σ++List.replicate (sitesOf ops) .free) with
 | none=>rfl
 | some q =>
  obtain ⟨tm',σ',cs,p⟩:=q
  cases p with
  | some x =>
   cases chk with
   | none=>rfl
   | some l=>simp only [regX,pan_strip]
  | none =>
   cases chk with
   | none=>rfl
   | some l=>simp only [regX,chk_strip]
theorem exec_strip (m n : Nat) : ∀ (c : ACode),execC O byref m n (stripC c)=execC O byref m n c
 | .region ops chk live=>by funext tm σ;simp only [stripC,execC,region_strip]
 | .seq a b=>by funext tm σ;simp only [stripC,execC,exec_strip m n a,exec_strip m n b]
 | .cond c a b=>by funext tm σ;simp only [stripC,execC,exec_strip m n a,exec_strip m n b]
 | .block id c=>by funext tm σ;simp only [stripC,execC,exec_strip m n c]
 | .loop live c=>by funext tm σ;simp only [stripC,execC,exec_strip m n c]
 | .skip=>rfl
 | .exit id=>rfl
 | .ret=>rfl
 | .stuck=>rfl
end
theorem callA_strip (fs : Nat→Option AFunc) (prim : Prims) (byref : Nat→Bool) : ∀ n,callA (fun f=>(fs f).map stripF) prim byref n=callA fs prim byref n
 | 0=>rfl
 | n+1=>by
  funext f args σ
  simp only [callA,callA_strip fs prim byref n]
  cases prim f with
  | some g=>rfl
  | none =>
   cases fs f with
   | none=>rfl
   | some fn =>
    simp only [Option.map_some,stripF,exec_strip]
    rfl
theorem EV_strip (fs : Nat→Option AFunc) (prim : Prims) (byref : Nat→Bool) : EV (fun f=>(fs f).map stripF) prim byref=EV fs prim byref:=by
 funext f args σ
 apply opt_ext
 intro r
 rw [EV_some,EV_some]
 simp only [callA_strip]
end
end Go.Proofs.YtmlkhhidifjjfaaDoor
namespace Go.Proofs.YtmlkhhidifjjfaaDoor
open Go.RowKit
def noPrim : List AVal→AHeap→Option (AVal×AHeap):=fun _ _=>none
theorem noPrim_no {α : Prop} {args : List AVal} {σ : AHeap} {r : AVal×AHeap} (h : noPrim args σ=some r) : α:=by cases h
def clonePrim (k bytes : Nat) (args : List AVal) (σ : AHeap) : Option (AVal×AHeap):=match args with
 | [.str _]=>none
 | [a]=>match elemsA σ a with
  | some (xs,_)=>if xs.length*bytes≤140737488355328∧kOk k xs=true then some (.sl σ.length 0 0 xs.length,σ++[.row 0 k xs]) else none
  | none=>none
 | _=>none
def cloneAnn : Ann:={ nt:=8,lr:=fun _=>[7,6,5,4,3,2,0] }
structure CloneB (P : Program) (t : TypeId) (k bytes : Nat) (z : AVal) (f : FuncId) : Prop where
 ex : ∃ (F : Func) (e : TypeId) (i0 i1 i2 i3 : Nat) (r0 r2 r3 : Array Oper) (m b : Oper),
  P.funcs[f]?=some F∧F.results=#[.tmp 2]∧F.ntmps=8∧(F.name == "runtime.NumGoroutine")=false∧P.underlying t=some (.slice e) ∧
  F.body=some (.seq (.region i0 r0 false) (.seq (.seq (.region i1 #[m,b] false) (.cond (.tmp 4) (.seq (.region i2 r2 false) .ret) .skip)) (.seq (.region i3 r3 false) .ret))) ∧
  m.op=.move (.tmp 0)∧m.dst=some 3∧m.guard=none∧b.op=.binOp .eql t (.tmp 3) (.const (.slice none 0 0)) t∧b.dst=some 4∧b.guard=none ∧
  compOps P cloneAnn r0 r0.toList=some [⟨some 2,.mov (.c (.lst true [])),none,[]⟩] ∧
  compOps P cloneAnn r2 r2.toList=some [⟨some 2,.mov (.c (.lst true [])),none,[]⟩] ∧
  (∃ a1 a2 a3 a4,compOps P cloneAnn r3 r3.toList=some [⟨some 5,.bslice false k 0 z [],none,a1⟩,⟨some 6,.mov (.t 0),none,a2⟩,⟨some 7,.app k bytes z (.t 5) (.t 6),none,a3⟩,⟨some 2,.mov (.t 7),none,a4⟩])∧z.cells.length=k∧0 < k
section
variable {P : Program} {base : Nat→Prop} {w0 w w' : World} {I0 I : Imm} {β : Bmap} {σ : AHeap}
theorem noO : OrOk P (fun _ _ _=>none):=by intro f args σ r σ' h;cases h
theorem wpList_one {ops : Array Oper} {Q : Exit→Act→World→Prop} {o : Oper} {l : List Oper} {a : Act} {w : World} (hg : o.guard=none) (h : o.wp P a w (wpList P ops Q l) Q) : wpList P ops Q (o::l) a w:=by
 unfold wpList
 have : Region.wanted o (yielded ops a.tmps)=true:=by unfold Region.wanted;rw [hg]
 rw [this]
 simp only [if_true]
 exact Or.inl h
theorem clone_ok {t : TypeId} {k bytes : Nat} {z : AVal} {f : FuncId} (hm : P.follows .mixedOrders = true) (C : CloneB P t k bytes z f) {args : List AVal} {σ σ' : AHeap} {r : AVal} (h : clonePrim k bytes args σ = some (r, σ')) :
    (∃ fn, P.funcs[f]? = some fn ∧ fn.body.isSome = true ∧ (fn.name == "runtime.NumGoroutine") = false) ∧
    ∀ base w0 I0 I β w (vs : Array Value), KLt base w0 → Rel base w0 I0 I β σ w → VRs I β args vs.toList →
      Calls P f vs w (fun e w' => ∃ u, Ends r e u ∧ PostF σ.length base w0 I0 I β r σ' u w') := by
  obtain ⟨F, e, i0, i1, i2, i3, r0, r2, r3, m, b, hF, hres, hnt, hname, hu, hbody, hm1, hm2, hm3, hb1, hb2, hb3, hc0, hc2, ⟨a1, a2, a3, a4, hc3⟩, hzk, hk0⟩ := C.ex
  refine ⟨⟨F, hF, by rw [hbody]; rfl, hname⟩, ?_⟩
  intro base w0 I0 I β w vs hb R hargs
  unfold clonePrim at h
  split at h
  case h_1 => cases h
  case h_3 => cases h
  rename_i a hns
  split at h
  case h_2 => cases h
  rename_i xs ts hel0
  split at h
  case isFalse => cases h
  rename_i hc
  obtain ⟨hbytes, hkOk⟩ := hc
  simp only [Option.some.injEq, Prod.mk.injEq] at h
  obtain ⟨rfl, rfl⟩ := h
  have hnt8 : ∀ (n : Nat), n < 8 → n < cloneAnn.nt := fun n h => h
  refine calls_of_wp hF hbody ?_
  have hsz : vs.size = 1 := by have := VRs_length hargs; simpa using this.symm
  have T := enter_TR hargs (F.ntmps - vs.size)
  have hst : StR noDoor 8 base w0 I0 I β (enterA 0 [a] []) σ { tmps := vs ++ Array.replicate (F.ntmps - vs.size) undef, defers := [] } w := ⟨I, β, Imm.le.refl I, Bmap.le.refl β, T, ⟨noDoor_ok.2 rfl, by simp; omega⟩, R⟩
  have fin : ∀ {tm : Tms} {σ1 : AHeap} {y : AVal} {a' : Act} {w1 : World}, StR noDoor 8 base w0 I0 I β tm σ1 a' w1 → tget tm 2 = y → (∀ I' β' u, I.le I' → β.le β' → Rel base w0 I0 I' β' σ1 w1 → VR I' β' y u → PostF σ.length base w0 I0 I β (.sl σ.length 0 0 xs.length) (σ ++ [.row 0 k xs]) u w1) →
      a'.defers = [] ∧ ∃ v, (results F a'.tmps).run P w1 = .ok v w1 ∧ ∃ u, Ends (.sl σ.length 0 0 xs.length) (.returned v) u ∧ PostF σ.length base w0 I0 I β (.sl σ.length 0 0 xs.length) (σ ++ [.row 0 k xs]) u w1 := by
    rintro tm σ1 y a' w1 ⟨I', β', h1, h2, h3, h4, h5⟩ hy hpost
    refine ⟨noDoor_ok.1 h4.1, a'.tmps.getD 2 undef, by simp [results, hres], _, rfl, ?_⟩
    have := h3 2
    rw [hy] at this
    exact hpost I' β' _ h1 h2 h5 this
  have R0 : compC P cloneAnn (.region i0 r0 false) = .region [⟨some 2, .mov (.c (.lst true [])), none, []⟩] none [7, 6, 5, 4, 3, 2, 0] := by simp only [compC]; rw [hc0]; rfl
  have R2 : compC P cloneAnn (.region i2 r2 false) = .region [⟨some 2, .mov (.c (.lst true [])), none, []⟩] none [7, 6, 5, 4, 3, 2, 0] := by simp only [compC]; rw [hc2]; rfl
  have R3 : compC P cloneAnn (.region i3 r3 false) = .region [⟨some 5, .bslice false k 0 z [], none, a1⟩, ⟨some 6, .mov (.t 0), none, a2⟩, ⟨some 7, .app k bytes z (.t 5) (.t 6), none, a3⟩, ⟨some 2, .mov (.t 7), none, a4⟩] none [7, 6, 5, 4, 3, 2, 0] := by simp only [compC]; rw [hc3]; rfl
  refine wp_seq ?_
  refine region_sound (an := cloneAnn) (dr := noDoor) (byref := fun _ => false) noO (fun n hn => by simp [noDoor] at hn) hm hb R0 hst (e := .normal) (tm' := keepL [7, 6, 5, 4, 3, 2, 0] [(2, .lst true []), (0, a)]) (σ' := σ) ?_ ?_
  · simp [runRegion, regX, sitesOf, nsite, runOps, stepA, wantedA, execI, Opd.ev, tput, tins, enterA]
  intro a1' w1 hst1
  simp only [Exit.then]
  refine wp_seq (wp_seq ?_)
  refine wp_region_list ?_
  refine wpList_one hm3 ?_
  obtain ⟨I1, β1, g1, g2, g3, g4, g5⟩ := hst1
  have hs8 : 8 ≤ a1'.tmps.size := g4.2
  have hT0 : VR I1 β1 a (a1'.tmps.getD 0 undef) := by have := g3 0; simpa [keepL, tget] using this
  obtain ⟨A, cap, hv0, q1, q2, q5, q4⟩ := elems_reads g5 (fun l e => hns l e) hel0 hT0
  show m.wp P a1' w1 _ _
  unfold Oper.wp
  have e1 : (execOp a1'.eval m).run P w1 = .ok (.value (.slice A xs.length cap)) w1 := by
    unfold execOp; rw [hm1]; simp [Act.eval, hv0]
  rw [e1, Oper.upon_value, hm2]
  refine wpList_one hb3 ?_
  unfold Oper.wp
  have hs3 : (a1'.put (some 3) (.slice A xs.length cap)).tmps.getD 3 undef = .slice A xs.length cap := by
    have : 3 < a1'.tmps.size := by omega
    simp [Act.put, Array.getD, this]
  have e2 : (execOp (a1'.put (some 3) (.slice A xs.length cap)).eval b).run P w1 = .ok (.value (.bool A.isNone)) w1 := by
    have hq : (Op.equal t (.slice A xs.length cap) (.slice none 0 0)).run P w1 = .ok A.isNone w1 := run_equal_slice_nil w1 t e A xs.length cap hu
    unfold execOp; rw [hb1]
    simp only [Act.eval]
    rw [hs3]
    simp [eqGuard, binOp, hq]
  rw [e2, Oper.upon_value, hb2]
  refine wpList_nil ?_
  have hst2 : StR noDoor 8 base w0 I0 I β [(4, .bool A.isNone), (2, .lst true []), (0, a)] σ ((a1'.put (some 3) (.slice A xs.length cap)).put (some 4) (.bool A.isNone)) w1 := by
    refine ⟨I1, β1, g1, g2, fun n => ?_, ⟨put_ok (put_ok g4.1 (fun n _ hm => by simp [noDoor] at hm)) (fun n _ hm => by simp [noDoor] at hm), by rw [put_size, put_size]; exact g4.2⟩, g5⟩
    have hs : 4 < (a1'.put (some 3) (.slice A xs.length cap)).tmps.size := by rw [put_size]; omega
    have ne : ∀ {a : Act} {d j : Nat} {u : Value}, d ≠ j → (a.put (some d) u).tmps.getD j undef = a.tmps.getD j undef := by
      intro a d j u hne
      simp only [Act.put, Array.getD_eq_getD_getElem?]; rw [Array.getElem?_setIfInBounds_ne hne]
    simp only [tget]
    split
    · rename_i e; subst e
      rw [show ((a1'.put (some 3) (.slice A xs.length cap)).put (some 4) (.bool A.isNone)).tmps.getD 4 undef = .bool A.isNone by
        simp only [Act.put] at hs ⊢
        simp [Array.getD] at hs ⊢
        omega]
      simp only [VR]
    · split
      · rename_i e; subst e
        rw [ne (by omega), ne (by omega)]
        have := g3 2; simpa [keepL, tget] using this
      · split
        · rename_i e; subst e
          rw [ne (by omega), ne (by omega)]
          have := g3 0; simpa [keepL, tget] using this
        · simp only [VR]
  simp only [Exit.then]
  cases hA : A.isNone with
  | true =>
    have hx0 : xs = [] := by
      rcases q4 with h | ⟨b, off, k', us, e, _⟩
      · exact h
      · rw [e] at hA; cases hA
    subst hx0
    have hev : ((a1'.put (some 3) (.slice A 0 cap)).put (some 4) (.bool A.isNone)).eval (.tmp 4) = .bool true := by
      obtain ⟨_, _, _, _, T, _, _⟩ := hst2
      have := T 4
      simp only [tget, if_true, VR] at this
      rw [hA] at this
      simpa [Act.eval, hA] using this
    refine wp_cond_true (by simpa [hA] using hev) ?_
    refine wp_seq ?_
    rw [hA] at hst2
    refine region_sound (an := cloneAnn) (dr := noDoor) (byref := fun _ => false) noO (fun n hn => by simp [noDoor] at hn) hm hb R2 hst2 (e := .normal) (tm' := keepL [7, 6, 5, 4, 3, 2, 0] [(4, .bool true), (2, .lst true []), (0, a)]) (σ' := σ) ?_ ?_
    · simp [runRegion, regX, sitesOf, nsite, runOps, stepA, wantedA, execI, Opd.ev, tput, tins]
    intro a3' w3 hst3
    simp only [Exit.then]
    refine wp_ret ?_
    refine fin hst3 (y := .lst true []) (by simp [keepL, tget]) ?_
    intro I' β' u h1 h2 h3 h4
    simp only [VR] at h4
    obtain ⟨A', cap', rfl, _, _, hx, _⟩ := h4
    have hcap : cap' = 0 := by simpa using hx
    subst hcap
    have R4 := h3.reserve 1
    have hfree : (σ ++ List.replicate 1 ABlk.free)[σ.length]? = some .free := by simp
    obtain ⟨R5, hle⟩ := R4.newNone hfree k hk0
    refine ⟨I', _, h1, KeptE.of_le (h2.trans hle), ?_, ?_⟩
    · have : (σ ++ List.replicate 1 ABlk.free).set σ.length (.row 0 k []) = σ ++ [.row 0 k []] := by simp
      rw [this] at R5; exact R5
    · simp only [valOf]
      rw [VR_sl0]
      exact ⟨_, Bmap.put_same β' σ.length 0 _, by simp, by simp, Or.inr ⟨rfl, rfl, A', rfl⟩⟩
  | false =>
    have hev : ((a1'.put (some 3) (.slice A xs.length cap)).put (some 4) (.bool A.isNone)).eval (.tmp 4) = .bool false := by
      obtain ⟨_, _, _, _, T, _, _⟩ := hst2
      have := T 4
      simp only [tget, if_true, VR] at this
      rw [hA] at this
      simpa [Act.eval, hA] using this
    refine wp_cond_false (by simpa [hA] using hev) ?_
    refine wp_skip ?_
    rw [hA] at hst2
    simp only [Exit.then]
    refine wp_seq ?_
    have hel : elemsA (σ ++ [ABlk.free]) a = some (xs, ts) := elems_agree hel0 (fun t ht => by
      obtain ⟨g, k, ys, h | h⟩ := elems_rowy hel0 t ht <;> (rw [List.getElem?_append_left (List.getElem?_eq_some_iff.1 h).1]))
    refine region_sound (an := cloneAnn) (dr := noDoor) (byref := fun _ => false) noO (fun n hn => by simp [noDoor] at hn) hm hb R3 hst2 (e := .normal) (tm' := keepL [7, 6, 5, 4, 3, 2, 0] [(7, .sl σ.length 0 0 xs.length), (6, a), (5, .lst true []), (4, .bool false), (2, .sl σ.length 0 0 xs.length), (0, a)]) (σ' := σ ++ [.row 0 k xs]) ?_ ?_
    · have hfa : freeAt (σ ++ [ABlk.free]) σ.length = true := by simp [freeAt]
      have hnp : (∃ x ys, a = .lst x ys) ∨ ∃ t g lo n, a = .sl t g lo n := by
        cases a with
        | lst x ys => exact Or.inl ⟨x, ys, rfl⟩
        | sl t g lo n => exact Or.inr ⟨t, g, lo, n, rfl⟩
        | str l => exact absurd rfl (hns l)
        | _ => simp [elemsA] at hel0
      rcases hnp with ⟨x, ys, rfl⟩ | ⟨t', g', lo, n, rfl⟩
      · simp [runRegion, regX, sitesOf, nsite, runOps, stepA, wantedA, execI, Opd.ev, tput, tins, tget, viewAs, freezeA, hzk, appA, hel, hkOk, hbytes, hfa]
      · simp [runRegion, regX, sitesOf, nsite, runOps, stepA, wantedA, execI, Opd.ev, tput, tins, tget, viewAs, freezeA, hzk, appA, hel, hkOk, hbytes, hfa]
    intro a3' w3 hst3
    simp only [Exit.then]
    refine wp_ret ?_
    refine fin hst3 (y := .sl σ.length 0 0 xs.length) (by simp [keepL, tget]) ?_
    intro I' β' u h1 h2 h3 h4
    exact ⟨I', β', h1, KeptE.of_le h2, h3, h4⟩
end
end Go.Proofs.YtmlkhhidifjjfaaDoor
namespace Go.Proofs.YtmlkhhidifjjfaaDoor
open Go.RowKit
def validPrim (args : List AVal) (σ : AHeap) : Option (AVal×AHeap):=match args with
 | [.str l]=>some (.bool (Lib.validD l),σ)
 | _=>none
section
variable {P : Program} {base : Nat→Prop} {w0 w w' : World} {I0 I : Imm} {β : Bmap} {σ : AHeap}
theorem prim_pure {f : Nat} (hf : ∃ fn,P.funcs[f]?=some fn∧fn.body.isSome=true∧(fn.name == "runtime.NumGoroutine")=false) {args : List AVal} {r : AVal} {u : Value} (hn : ∀ x,r≠.pan x) (hr : ∀ I β,VR I β r u)
  (h : ∀ base w0 I0 I β w (vs : Array Value),Rel base w0 I0 I β σ w→VRs I β args vs.toList→Calls P f vs w (fun e w'=>e=.returned u∧Below w.heap.size w w')) :
  (∃ fn,P.funcs[f]?=some fn∧fn.body.isSome=true∧(fn.name == "runtime.NumGoroutine")=false) ∧
  ∀ base w0 I0 I β w (vs : Array Value),KLt base w0→Rel base w0 I0 I β σ w→VRs I β args vs.toList →
   Calls P f vs w (fun e w'=>∃ u,Ends r e u∧PostF σ.length base w0 I0 I β r σ u w'):=by
 refine ⟨hf,fun base w0 I0 I β w vs hb R hv=>(h base w0 I0 I β w vs R hv).mono ?_⟩
 rintro e w' ⟨rfl,hB⟩
 have hbw:=R.base_le hb
 refine ⟨u,?_,I,β,Imm.le.refl I,KeptE.refl _ β,R.stay (Imm.le.refl I) ⟨hB.os,hB.tape,hB.output,hB.size,fun k hk=>hB.block k (hbw k hk)⟩ (fun _ _ _=>rfl) ?_ ?_,by rw [valOf_npan hn];exact hr I β⟩
 ·cases r <;> first | rfl | exact absurd rfl (hn _)
 ·intro b o x hx
  have h1:=R.imm b o x hx
  have hlt:=cell_lt h1
  rw [←h1]
  simp only [World.cell?,hB.block b hlt]
 ·intro t x b hx hb'
  exact ⟨hB.block b ((R.blk t x hx).owns_lt hb'),(R.own t x b hx hb').2⟩
theorem tabs_of (R : Rel base w0 I0 I β σ w) : Lib.Utf8Tabs 0 1 w:=by
 refine ⟨fun c hc=>R.imm _ _ _ (R.glob _ _ _ (by simp [Gl,hc])),fun i hi=>⟨R.imm _ _ _ (R.glob _ _ _ ?_),R.imm _ _ _ (R.glob _ _ _ ?_)⟩⟩
 ·have h1 : 2*i < 32:=by omega
  have h2 : 2*i % 2=0:=by omega
  have h3 : 2*i / 2=i:=by omega
  simp [Gl,h1,h3]
 ·have h1 : 2*i+1 < 32:=by omega
  have h2 : (2*i+1) % 2=1:=by omega
  have h3 : (2*i+1) / 2=i:=by omega
  simp [Gl,h1,h2,h3]
theorem valid_ok {f : Nat} (hf : ∃ fn,P.funcs[f]?=some fn∧fn.body.isSome=true∧(fn.name == "runtime.NumGoroutine")=false)
  (hc : ∀ (s : ByteArray) (w : World),s.size≤9223372036854775807→Lib.Utf8Tabs 0 1 w→Calls P f #[.string s] w fun e w'=>e=.returned (.bool (Lib.validD s.data.toList))∧Below w.heap.size w w') {args : List AVal} {σ σ' : AHeap} {r : AVal} (h : validPrim args σ=some (r,σ')) :
  (∃ fn,P.funcs[f]?=some fn∧fn.body.isSome=true∧(fn.name == "runtime.NumGoroutine")=false) ∧
  ∀ base w0 I0 I β w (vs : Array Value),KLt base w0→Rel base w0 I0 I β σ w→VRs I β args vs.toList →
   Calls P f vs w (fun e w'=>∃ u,Ends r e u∧PostF σ.length base w0 I0 I β r σ' u w'):=by
 unfold validPrim at h
 split at h
 case h_2=>cases h
 rename_i l
 simp only [Option.some.injEq,Prod.mk.injEq] at h
 obtain ⟨rfl,rfl⟩:=h
 refine prim_pure hf (u:=.bool (Lib.validD l)) (by simp) (fun _ _=>by simp only [VR]) ?_
 intro base w0 I0 I β w vs R hv
 obtain ⟨vs⟩:=vs
 simp only [VRs,VR] at hv
 obtain ⟨v1,r1,e1,⟨rfl,hl⟩,rfl⟩:=hv
 subst e1
 refine (hc ⟨l.toArray⟩ w (by simpa [ByteArray.size] using hl) (tabs_of R)).mono ?_
 rintro e w' ⟨rfl,hB⟩
 exact ⟨by simp,hB⟩
end
end Go.Proofs.YtmlkhhidifjjfaaDoor
namespace Go.Proofs.YtmlkhhidifjjfaaDoor
def lookT {α : Type} (d : α) : List (Nat×α)→Nat→α
 | [],_=>d
 | (k,v)::r,n=>if k=n then v else lookT d r n
def mkAnn (own raw : List Nat) (cfg cfg2 : List (Nat×Nat×Bool)) (lr ll : List (Nat×List Nat)) : Ann:={ own:=fun n=>if own.contains n then 1 else if raw.contains n then 2 else 0,cfg:=lookT (0,true) cfg,cfg2:=lookT (0,true) cfg2,lr:=lookT [] lr,ll:=lookT [] ll }
def annT : List (Nat×Ann):=[
 (80,mkAnn [] [] [] [] [(0,[0]),(1,[2])] []),
 (68,mkAnn [] [] [] [] [(0,[0]),(1,[5,4,3,0]),(2,[4,3,0]),(3,[3]),(4,[2])] []),
 (70,mkAnn [] [] [] [] [(0,[1,0]),(1,[4])] []),
 (107,mkAnn [] [] [] [] [(0,[1,0]),(1,[18,1,0]),(2,[]),(3,[4]),(4,[5,1,0]),(5,[5]),(6,[4])] []),
 (71,mkAnn [] [] [] [] [(0,[0]),(1,[5,4,3,0]),(2,[4,3,0]),(3,[3]),(4,[2])] []),
 (69,mkAnn [] [] [] [] [(0,[0]),(1,[4]),(2,[3,2])] []),
 (61,mkAnn [] [] [] [] [(0,[2,0]),(1,[3,2,0]),(2,[3,2,0]),(3,[3,2,0]),(4,[3,2,0]),(5,[3,2,0]),(6,[6,5,4,3,2,0]),(7,[4,3,2]),(8,[3,2]),(9,[2])] []),
 (77,mkAnn [] [] [(121,1,true)] [] [(0,[1]),(1,[2,1]),(2,[10,2,1]),(3,[11,10,2,1]),(4,[1]),(5,[15,10,2,1]),(6,[3,2,1]),(7,[3,2,1]),(8,[2,1]),(9,[2,1]),(10,[1]),(11,[37,10,2,1]),(12,[1]),(13,[41,10,2,1]),(14,[41,10,2,1]),(15,[41,10,2,1]),(16,[41,10,2,1]),(17,[1]),(18,[1]),(19,[50,10,2,1]),(20,[1]),(21,[56,10,2,1]),(22,[1]),(23,[61,10,2,1]),(24,[61,10,2,1]),(25,[1]),(26,[67,10,1]),(27,[67,1]),(28,[1]),(29,[])] []),
 (123,mkAnn [] [] [] [] [(0,[])] []),
 (125,mkAnn [] [] [] [] [(0,[])] []),
 (116,mkAnn [] [] [] [] [(0,[0]),(1,[3,0]),(2,[3]),(3,[2])] []),
 (114,mkAnn [] [] [] [] [(0,[2,0]),(1,[2,0]),(2,[2,0]),(3,[3,2,0]),(4,[3,2,0]),(5,[3,2,0]),(6,[3,2,0]),(7,[2,0]),(8,[2,0]),(9,[2,0]),(10,[2,0]),(11,[107,2,0]),(12,[2,0]),(13,[2,0]),(14,[2,0]),(15,[129,2,0]),(16,[2,0]),(17,[138,2,0]),(18,[])] []),
 (148,mkAnn [] [] [] [] [(0,[0]),(1,[5,4,3,0]),(2,[4,3,0]),(3,[3]),(4,[2])] []),
 (76,mkAnn [] [] [] [] [(0,[4,1]),(1,[4,1]),(2,[4,1]),(3,[24,4,1]),(4,[]),(5,[4]),(6,[4]),(7,[])] []),
 (119,mkAnn [] [] [] [] [(0,[0]),(1,[])] []),
 (121,mkAnn [] [] [] [] [(0,[1,0]),(1,[1,0]),(2,[1,0]),(3,[29,1,0]),(4,[1,0])] [(3,[1,0])]),
 (115,mkAnn [] [] [] [] [(0,[1,0]),(1,[1,0]),(2,[5,1,0]),(3,[5]),(4,[4])] []),
 (117,mkAnn [] [] [] [] [(0,[1,0]),(1,[7,6,5,0]),(2,[6,5,0]),(3,[5]),(4,[4])] []),
 (118,mkAnn [] [] [] [] [(0,[0]),(1,[13,0]),(2,[0]),(3,[0]),(4,[])] []),
 (120,mkAnn [] [] [] [] [(0,[7,0]),(1,[0]),(2,[19,0]),(3,[])] []),
 (122,mkAnn [] [] [] [] [(0,[2,0]),(1,[3,2,0]),(2,[3,2,0]),(3,[3,2,0]),(4,[2,0]),(5,[2,0]),(6,[])] []),
 (124,mkAnn [] [] [] [] [(0,[0]),(1,[5,4,3,0]),(2,[4,3,0]),(3,[3]),(4,[2])] []),
 (78,mkAnn [] [] [(130,1,true),(126,1,true),(132,1,true),(127,1,true),(128,1,true),(131,1,true),(129,1,true)] [] [(0,[3,0]),(1,[11,3,0]),(2,[12,11,3,0]),(3,[]),(4,[17,11,3,0]),(5,[3,0]),(6,[3,0]),(7,[]),(8,[32,11,3,0]),(9,[3,0]),(10,[40,3,0]),(11,[3,0]),(12,[3,0]),(13,[]),(14,[55,11,3,0]),(15,[55,11,3,0]),(16,[55,11,3,0]),(17,[55,11,3,0]),(18,[3,0]),(19,[]),(20,[67,11,3,0]),(21,[3,0]),(22,[75,74,73,0]),(23,[76,75,74,73,0]),(24,[75,74,73,5,0]),(25,[75,74,73,5,0]),(26,[75,74,73,0]),(27,[75,74,73,0]),(28,[102,11,3,0]),(29,[3,0]),(30,[110,109,108,0]),(31,[111,110,109,108,0]),(32,[110,109,108,7,0]),(33,[110,109,108,0]),(34,[110,109,108,0]),(35,[118,11,3,0]),(36,[118,11,3,0]),(37,[3,0]),(38,[127,126,125,0]),(39,[128,127,126,125,0]),(40,[127,126,125,9,0]),(41,[127,126,125,0]),(42,[127,126,125,0]),(43,[135,11,3,0]),(44,[135,3,0]),(45,[])] [(23,[75,74,73,0]),(31,[110,109,108,0]),(39,[127,126,125,0])]),
 (126,mkAnn [] [] [(149,1,true),(127,1,true),(128,1,true),(129,1,true)] [] [(0,[3,0]),(1,[3,0]),(2,[3,0]),(3,[3,0]),(4,[3,0]),(5,[3,0]),(6,[3,0]),(7,[49,3,0]),(8,[3,0]),(9,[3,0]),(10,[3,0]),(11,[66,3,0]),(12,[3,0]),(13,[72,3,0]),(14,[])] []),
 (149,mkAnn [] [] [(130,1,true)] [] [(0,[4,0]),(1,[])] []),
 (132,mkAnn [] [] [(127,1,true),(128,1,true)] [] [(0,[3,0]),(1,[3,0]),(2,[])] []),
 (127,mkAnn [] [] [(130,1,true)] [] [(0,[])] []),
 (128,mkAnn [] [] [(130,1,true)] [] [(0,[6,0]),(1,[])] []),
 (131,mkAnn [] [] [(127,1,true),(128,1,true)] [] [(0,[3,0]),(1,[12,3,0]),(2,[3,0]),(3,[20,3,0]),(4,[])] []),
 (129,mkAnn [] [] [(130,1,true)] [] [(0,[4,0]),(1,[])] []),
 (65,mkAnn [] [] [] [] [(0,[0]),(1,[3,0]),(2,[18,3,0]),(3,[]),(4,[2]),(5,[2])] []),
 (66,mkAnn [] [] [] [] [(0,[1,0]),(1,[4])] []),
 (99,mkAnn [] [] [] [] [(0,[1,0]),(1,[18,1,0]),(2,[1]),(3,[4]),(4,[5,1,0]),(5,[5]),(6,[4])] []),
 (64,mkAnn [] [] [] [] [(0,[0]),(1,[2])] []),
 (12,mkAnn [] [] [] [] [(0,[2,1]),(1,[3,2,1]),(2,[33,3,2,1]),(3,[3,2,1]),(4,[4,2,1]),(5,[5,4,2,1]),(6,[53,5,4,2,1]),(7,[5,4,2,1]),(8,[5,4,2,1]),(9,[71,4,2,1]),(10,[4,2]),(11,[2])] [(6,[5,4,2,1])]),
 (47,mkAnn [] [] [] [] [(0,[1]),(1,[3,1]),(2,[7,3,1]),(3,[3,1]),(4,[18,3,1]),(5,[3,1]),(6,[29,3,1]),(7,[3,1]),(8,[4,3,1]),(9,[45,4,3,1]),(10,[4,3,1]),(11,[4,3,1]),(12,[2])] [(9,[4,3,1])]),
 (63,mkAnn [] [] [] [] [(0,[1,0]),(1,[4])] []),
 (161,mkAnn [] [] [] [] [(0,[]),(2,[]),(7,[4])] []),
 (164,mkAnn [] [] [] [] [] []),
 (93,mkAnn [6] [] [(137,1,false)] [(111,1,false)] [(0,[2,1]),(1,[2,1]),(2,[2,1]),(3,[15,14,2,1]),(4,[16,15,14,2,1]),(5,[15,14,3,2,1]),(6,[15,14,2,1]),(7,[15,14,2,1]),(8,[2])] [(4,[15,14,2,1])]),
 (45,mkAnn [] [] [] [] [(0,[2,1]),(1,[4])] []),
 (16,mkAnn [] [] [] [] [(0,[1]),(1,[3,1]),(2,[5,3,1]),(3,[7,5,3,1]),(4,[9,7,5,3,1]),(5,[2])] []),
 (17,mkAnn [] [] [(56,1,false)] [] [(0,[1]),(1,[3,1]),(2,[5,3,1]),(3,[7,5,1]),(4,[39,38,37,7,5]),(5,[40,39,38,37,7,5]),(6,[39,38,37,9,7,5]),(7,[39,38,37,7,5]),(8,[39,38,37,7,5]),(9,[2])] [(5,[39,38,37,7,5])]),
 (73,mkAnn [] [] [(111,1,false)] [] [(0,[8,4,3,2,1]),(1,[9,8,4,3]),(2,[11,10,9,8,3]),(3,[31,10,9,8,3]),(4,[9,8]),(5,[8])] []),
 (44,mkAnn [] [] [(93,2,false)] [] [(0,[8,4,3,2,1]),(1,[9,8,4,3,2,1]),(2,[10,9,8,4,3,2,1]),(3,[29,10,9,8,4,3,2,1]),(4,[10,9,8,4,1]),(5,[36,10,9,8,4,1]),(6,[10,8,4]),(7,[51,50,49,10,8]),(8,[52,51,50,49,10,8]),(9,[51,50,49,12,10,8]),(10,[51,50,49,10,8]),(11,[51,50,49,10,8]),(12,[8])] [(8,[51,50,49,10,8])]),
 (21,mkAnn [] [] [] [] [(0,[2,0]),(1,[4,2,0]),(2,[5,4,2,0]),(3,[28,5,2]),(4,[3,2]),(5,[3,2])] []),
 (23,mkAnn [] [] [] [] [(0,[2,0]),(1,[4,2,0]),(2,[6,5,4,2,0]),(3,[7,6,4,2,0]),(4,[7,6,4,2,0]),(5,[8,7,4,2,0]),(6,[42,41,8,7,4,2,0]),(7,[43,42,41,8,7,4,2,0]),(8,[42,41,9,8,7,4,2,0]),(9,[42,41,9,8,7,4,2,0]),(10,[42,41,8,7,4,2,0]),(11,[42,41,8,7,4,2,0]),(12,[8,7,4,2,0]),(13,[84,7,2]),(14,[3,2]),(15,[3,2])] [(7,[42,41,8,7,4,2,0])]),
 (30,mkAnn [] [] [] [] [(0,[3,2]),(1,[4])] []),
 (31,mkAnn [] [] [] [] [(0,[3,2]),(1,[4])] []),
 (58,mkAnn [] [] [] [] [(0,[0]),(1,[2])] []),
 (98,mkAnn [] [] [] [] [(0,[0]),(1,[2])] []),
 (57,mkAnn [] [] [] [] [(0,[1,0]),(1,[5,0]),(2,[0]),(3,[4])] []),
 (62,mkAnn [] [] [] [] [(0,[1]),(1,[2])] []),
 (55,mkAnn [] [] [] [] [(0,[0]),(1,[6,0]),(2,[3,2]),(3,[3,2])] []),
 (108,mkAnn [] [] [] [] [(0,[0]),(1,[3,0]),(2,[8,7,6,3]),(3,[9,8,7,6,3]),(4,[8,7,6,5,3]),(5,[8,7,6,3]),(6,[8,7,6,3]),(7,[2])] [(3,[8,7,6,3])]),
 (106,mkAnn [] [] [] [] [(0,[0]),(1,[17,0]),(2,[4,3,2]),(3,[3,0]),(4,[4,3,2])] []),
 (109,mkAnn [] [] [] [] [(0,[0]),(1,[5,4,3]),(2,[12,5,4,3]),(3,[4,3,2]),(4,[16,5,3]),(5,[4,3,2]),(6,[4,3,2])] []),
 (135,mkAnn [] [] [] [] [(0,[2,0]),(1,[9,8,7,2,0]),(2,[10,9,8,7,2,0]),(3,[9,8,7,6,5,2,0]),(4,[15,9,8,7,6,5,2,0]),(5,[9,8,7,6,5,2,0]),(6,[25,9,8,7,6,5,2,0]),(7,[31,5,2]),(8,[4,3,2]),(9,[4,3,2]),(10,[9,8,7,2,0]),(11,[38]),(12,[4,3,2]),(13,[4,3,2])] [(2,[9,8,7,2,0])]),
 (97,mkAnn [] [] [] [] [(0,[0]),(1,[6,0]),(2,[8,7,6,0]),(3,[6,4,0]),(4,[11,6,0]),(5,[2]),(6,[2])] [(2,[6,0])]),
 (56,mkAnn [] [] [] [] [(0,[0]),(1,[3,0]),(2,[8,7,6,3]),(3,[9,8,7,6,3]),(4,[8,7,6,5,3]),(5,[8,7,6,3]),(6,[8,7,6,3]),(7,[2])] [(3,[8,7,6,3])]),
 (59,mkAnn [] [] [] [] [(0,[1,0]),(1,[12,1,0]),(2,[4]),(3,[5,1,0]),(4,[6,5,0]),(5,[18,6,5,0]),(6,[6,5,0]),(7,[6,5,0]),(8,[6,5,0]),(9,[4])] [(5,[6,5,0])]),
 (54,mkAnn [] [] [] [] [(0,[0]),(1,[6,0]),(2,[3,2]),(3,[3,2])] []),
 (82,mkAnn [] [] [] [] [(0,[0]),(1,[10,0]),(2,[3,2]),(3,[4,0]),(4,[12,4,0]),(5,[4,0]),(6,[4,0]),(7,[3,2])] [(4,[4,0])]),
 (41,mkAnn [] [] [] [] [(0,[3,0]),(1,[4])] []),
 (88,mkAnn [] [] [] [] [(0,[2,1]),(1,[3])] []),
 (34,mkAnn [] [] [(78,1,true)] [] [(0,[2,1]),(1,[4,2,1]),(2,[4,2,1]),(3,[5,2,1]),(4,[32,5,2,1]),(5,[5,2,1]),(6,[7,6,5,2,1]),(7,[9,7,6,5,2,1]),(8,[73,5,2]),(9,[3,2]),(10,[3,2])] []),
 (40,mkAnn [] [] [] [] [(0,[1]),(1,[5,4]),(2,[14,5,4]),(3,[3,2]),(4,[6,4]),(5,[3,2])] []),
 (32,mkAnn [] [] [] [] [(0,[]),(2,[4,3,2,1]),(3,[4,3,2]),(4,[4,3,2]),(5,[3,2])] []),
 (75,mkAnn [] [] [] [] [(1,[4]),(2,[]),(3,[7,5]),(4,[]),(6,[3,1,0]),(7,[])] []),
 (35,mkAnn [] [] [] [] [(0,[3,2]),(1,[5,3,2]),(2,[6,5,3,2]),(3,[7,6,5,3,2]),(4,[8,7,6,5,3,2]),(5,[4])] []),
 (87,mkAnn [] [] [] [] [(0,[0]),(1,[3]),(2,[4,3]),(3,[2]),(4,[15,3]),(5,[15,3]),(6,[2]),(7,[27,3]),(8,[27,3]),(9,[2]),(10,[33,3]),(11,[2]),(12,[45,3]),(13,[2]),(14,[55,3]),(15,[2]),(16,[66]),(17,[2]),(18,[2])] []),
 (79,mkAnn [] [] [] [] [(0,[0]),(1,[3]),(2,[4,3]),(3,[4,3]),(4,[4]),(5,[2]),(6,[2])] []),
 (81,mkAnn [] [] [] [] [(0,[1,0]),(1,[5,1]),(2,[4]),(3,[4])] []),
 (113,mkAnn [] [] [] [] [(0,[5,1]),(1,[])] []),
 (112,mkAnn [] [] [] [] [(0,[4,1,0]),(1,[10,9,8,4,0]),(2,[11,10,9,8,4,0]),(3,[10,9,8,7,4,0]),(4,[17,10,9,8,7,4,0]),(5,[5,4]),(6,[10,9,8,4,0]),(7,[5,4])] [(2,[10,9,8,4,0])]),
 (134,mkAnn [] [] [] [] [(0,[0]),(1,[2])] []),
 (42,mkAnn [] [] [] [] [(0,[1,0]),(1,[6,1,0]),(2,[16,15,14,6,1,0]),(3,[17,16,15,14,6,1,0]),(4,[16,15,14,8,6,1,0]),(5,[16,15,14,6,1,0]),(6,[16,15,14,6,1,0]),(7,[10,9,6,1,0]),(8,[32,9,6,1,0]),(9,[5,4]),(10,[6,1,0]),(11,[13,12,11,6,1]),(12,[57,6]),(13,[5,4]),(14,[5,4])] [(3,[16,15,14,6,1,0])]),
 (153,mkAnn [] [] [] [] [(0,[1,0]),(1,[4])] []),
 (143,mkAnn [] [] [] [] [(0,[1,0]),(1,[5,1,0]),(2,[10,9,8,5,1]),(3,[11,10,9,8,5,1]),(4,[10,9,8,7,5,1]),(5,[17,10,9,8,7,5,1]),(6,[10,9,8,5,1]),(7,[10,9,8,5,1]),(8,[4])] [(3,[10,9,8,5,1])]),
 (90,mkAnn [] [] [] [] [(0,[4,1,0]),(1,[9,8,7,4,1,0]),(2,[29,8,7,4,1,0]),(3,[6,5,4]),(4,[10,8,7,4,0]),(5,[38,10,8,7,4,0]),(6,[13,12,11,10,8,7,4,0]),(7,[48,13,12,11,10,8,7,4,0]),(8,[6,5,4]),(9,[12,10,8,7,4,0]),(10,[10,8,7,4,0]),(11,[6,5,4])] [(5,[10,8,7,4,0])]),
 (43,mkAnn [] [] [] [] [(0,[1,0]),(1,[4])] []),
 (92,mkAnn [] [] [] [] [(0,[3,2]),(1,[4])] []),
 (162,mkAnn [] [] [] [] [(0,[0]),(1,[3,0]),(2,[8,7,6,3]),(3,[9,8,7,6,3]),(4,[8,7,6,5,3]),(5,[8,7,6,3]),(6,[8,7,6,3]),(7,[2])] [(3,[8,7,6,3])]),
 (147,mkAnn [] [] [] [] [(0,[2,1]),(1,[2,1]),(2,[2])] []),
 (156,mkAnn [] [] [] [] [(0,[1]),(1,[4,1]),(2,[5,4,1]),(3,[5,4,1]),(4,[5,4,1]),(5,[5,1]),(6,[2]),(7,[2])] []),
 (89,mkAnn [] [] [] [] [(0,[1]),(1,[3,1]),(2,[6,5,3,1]),(3,[15,6,5,3,1]),(4,[16,15,6,5,3,1]),(5,[16,15,6,5,3,1]),(6,[16,15,6,5,3,1]),(7,[6,5,3]),(8,[29,15,6,5,3,1]),(9,[6,5,3]),(10,[37,15,6,5,3,1]),(11,[6,5,3]),(12,[45,15,6,5,3,1]),(13,[6,5,3]),(14,[53,6,5,3,1]),(15,[5,3,1]),(16,[6,5,3]),(17,[2])] []),
 (152,mkAnn [] [] [] [] [(0,[2,0]),(1,[3,2]),(2,[4,3,2]),(3,[2]),(4,[9,3,2]),(5,[2]),(6,[14,3,2]),(7,[14,3,2]),(8,[2]),(9,[20,3,2]),(10,[2]),(11,[25,3,2]),(12,[2]),(13,[30,3,2]),(14,[2]),(15,[35,3,2]),(16,[35,3,2]),(17,[2]),(18,[41,3,2]),(19,[2]),(20,[46,3,2]),(21,[2]),(22,[51,3,2]),(23,[2]),(24,[56,3,2]),(25,[56,3,2]),(26,[2]),(27,[62,3,2]),(28,[2]),(29,[67,3,2]),(30,[2]),(31,[72,3,2]),(32,[2]),(33,[77,3,2]),(34,[77,3,2]),(35,[2]),(36,[83,3,2]),(37,[2]),(38,[88,3,2]),(39,[2]),(40,[93,3,2]),(41,[93,3,2]),(42,[93,3,2]),(43,[93,3,2]),(44,[93,3,2]),(45,[2]),(46,[102,2]),(47,[2]),(48,[2])] []),
 (155,mkAnn [] [] [] [] [(0,[1,0]),(1,[4])] []),
 (136,mkAnn [] [] [] [] [(0,[6,2,1,0]),(1,[11,10,9,6,2,1,0]),(2,[28,10,9,6,2,1,0]),(3,[8,7,6]),(4,[12,10,9,7,6,2,0]),(5,[14,12,10,9,7,6,0]),(6,[45,14,10,9,7,6,0]),(7,[8,7,6]),(8,[49,10,9,7,6]),(9,[8,7,6]),(10,[58,10,9,7,6]),(11,[8,7,6]),(12,[65,6]),(13,[8,7,6]),(14,[8,7,6])] []),
 (154,mkAnn [] [] [] [] [(0,[5,4,1,0]),(1,[5,4,1,0]),(2,[7,5,4,1,0]),(3,[12,7,5,4,1,0]),(4,[13,12,7,5,4,1,0]),(5,[13,12,7,5,4,1,0]),(6,[13,12,7,5,4,1,0]),(7,[7,5,4,1]),(8,[24,7,5,4,1]),(9,[6,5,4]),(10,[7,5,4]),(11,[32,12,7,5,4,1]),(12,[7,5,4]),(13,[41,12,7,5,4,1]),(14,[7,5,4]),(15,[50,12,7,5,4,1]),(16,[7,5,4]),(17,[59,7,5,4,1]),(18,[7,5,4,1]),(19,[69,7,5,4,1]),(20,[5,4,1]),(21,[8,7,5,4]),(22,[7,5,4]),(23,[6,5,4])] []),
 (86,mkAnn [] [] [] [] [(0,[1,0]),(1,[4])] []),
 (158,mkAnn [] [] [] [] [(0,[1,0]),(1,[4])] []),
 (91,mkAnn [] [] [] [] [(0,[2,1,0]),(1,[14,2,1,0]),(2,[6]),(3,[17,16,15,2,1]),(4,[18,17,16,15,2,1]),(5,[17,16,15,8,7,2,1]),(6,[17,16,15,9,8,2,1]),(7,[30,17,16,15,2,1]),(8,[6]),(9,[17,16,15,2,1]),(10,[6])] [(4,[17,16,15,2,1])]),
 (83,mkAnn [] [] [] [] [(0,[1,0]),(1,[10,1,0]),(2,[4]),(3,[13,12,1,0]),(4,[14,13,12,1,0]),(5,[13,12,5,1,0]),(6,[24,13,12,1,0]),(7,[4]),(8,[13,12,1,0]),(9,[4])] [(4,[13,12,1,0])]),
 (84,mkAnn [] [] [] [] [(0,[1,0]),(1,[10,1,0]),(2,[4]),(3,[13,12,1,0]),(4,[14,13,12,1,0]),(5,[13,12,5,1,0]),(6,[24,13,12,1,0]),(7,[4]),(8,[13,12,1,0]),(9,[4])] [(4,[13,12,1,0])]),
 (74,mkAnn [] [] [] [] [(0,[1,0]),(1,[10,1,0]),(2,[4]),(3,[13,12,1,0]),(4,[14,13,12,1,0]),(5,[13,12,5,1,0]),(6,[24,13,12,1,0]),(7,[4]),(8,[13,12,1,0]),(9,[4])] [(4,[13,12,1,0])]),
 (85,mkAnn [] [] [] [] [(0,[1,0]),(1,[10,1,0]),(2,[4]),(3,[13,12,1,0]),(4,[14,13,12,1,0]),(5,[13,12,5,1,0]),(6,[24,13,12,1,0]),(7,[4]),(8,[13,12,1,0]),(9,[4])] [(4,[13,12,1,0])]),
 (133,mkAnn [] [] [] [] [(0,[1,0]),(1,[8,7,1,0]),(2,[9,8,7,1,0]),(3,[8,7,5,1,0]),(4,[16,8,7,5,1,0]),(5,[4]),(6,[8,7,1,0]),(7,[4])] [(2,[8,7,1,0])]),
 (163,mkAnn [] [] [] [] [(0,[1,0]),(1,[8,7,1,0]),(2,[9,8,7,1,0]),(3,[8,7,5,1,0]),(4,[16,8,7,5,1,0]),(5,[4]),(6,[8,7,1,0]),(7,[4])] [(2,[8,7,1,0])]),
 (28,mkAnn [] [] [] [] [(0,[1,0]),(1,[10,1,0]),(2,[4]),(3,[5,1,0]),(4,[30,0]),(5,[4]),(6,[6,0]),(7,[34,6,0]),(8,[6,0]),(9,[6,0]),(10,[4])] [(7,[6,0])]),
 (18,mkAnn [] [] [] [] [(0,[1,0]),(1,[8,1,0]),(2,[4]),(3,[4])] []),
 (20,mkAnn [] [] [] [] [(0,[0]),(1,[3,0]),(2,[3,0]),(3,[3,0]),(4,[2])] []),
 (15,mkAnn [] [] [] [] [(0,[1,0]),(1,[4])] []),
 (60,mkAnn [] [] [] [] [(0,[0]),(1,[3,0]),(2,[2])] []),
 (39,mkAnn [] [] [] [] [(0,[2,1,0]),(1,[7,1,0]),(2,[7,1,0]),(3,[16,7,1,0]),(4,[1,0]),(5,[6])] []),
 (37,mkAnn [] [] [] [] [(0,[2,1]),(1,[6,2,1]),(2,[2,1]),(3,[14,2,1]),(4,[2,1]),(5,[22,2,1]),(6,[2,1]),(7,[30,2,1]),(8,[2,1]),(9,[39,2,1]),(10,[2,1]),(11,[2,1]),(12,[2])] []),
 (5,mkAnn [] [] [] [] [(0,[3,2]),(1,[3,2]),(2,[6,5,3,2]),(3,[26,5,3,2]),(4,[8,7,5,3,2]),(5,[10,9,8,7,5,3,2]),(6,[66,3]),(7,[4]),(8,[70,3]),(9,[4]),(10,[3]),(11,[12,11,3]),(12,[80,12,11,3]),(13,[4]),(14,[14,13,3]),(15,[4])] []),
 (9,mkAnn [] [] [] [] [(0,[2,1,0]),(1,[2,1,0]),(2,[7,2,1,0]),(3,[25,7,2,1,0]),(4,[6]),(5,[33,25,7,2,1,0]),(6,[33,25,7,2,1,0]),(7,[33,25,7,2,1,0]),(8,[33,25,7,2,1,0]),(9,[7,1,0]),(10,[40,25,7,2,1,0]),(11,[40,25,7,2,1,0]),(12,[7,1,0]),(13,[49,25,7,1,0]),(14,[49,25,7,1,0]),(15,[49,7,1,0]),(16,[9,8,7,1,0]),(17,[10,9,8,7]),(18,[62,9,8,7]),(19,[6]),(20,[12,11,9,8,7]),(21,[14,13,12,9,8,7]),(22,[6])] []),
 (7,mkAnn [] [] [] [] [(0,[2,1]),(1,[2,1]),(2,[6,5,2,1]),(3,[18,5,2,1]),(4,[4]),(5,[8,7,2]),(6,[35,8,7,2]),(7,[36,35,8,7,2]),(8,[36,35,8,7,2]),(9,[36,35,8,7,2]),(10,[36,35,8,7,2]),(11,[4]),(12,[52,8,7,2]),(13,[4]),(14,[4])] []),
 (8,mkAnn [] [] [] [] [(0,[3,2]),(1,[3,2]),(2,[6,5,3,2]),(3,[8,7,6,5,3,2]),(4,[30,7,5,3,2]),(5,[4]),(6,[4])] []),
 (10,mkAnn [] [] [] [] [(0,[1,0]),(1,[14,1,0]),(2,[1,0]),(3,[1,0]),(4,[6,5,1,0]),(5,[8,7,6,5,1,0]),(6,[33,8,7,5,1,0]),(7,[4]),(8,[9,8,7,1,0]),(9,[11,10,9,8,7,1,0]),(10,[4])] []),
 (6,mkAnn [] [] [] [] [(0,[2,1]),(1,[6,5,2,1]),(2,[23,5,2,1]),(3,[4]),(4,[5,2,1]),(5,[8,7,2]),(6,[44,7,2]),(7,[4]),(8,[52,7,2]),(9,[53,52,7,2]),(10,[53,52,7,2]),(11,[53,52,7,2]),(12,[53,52,7,2]),(13,[53,52,7,2]),(14,[53,52,7,2]),(15,[53,52,7,2]),(16,[53,52,7,2]),(17,[53,52,7,2]),(18,[53,52,7,2]),(19,[53,7,2]),(20,[4]),(21,[4])] []),
 (33,mkAnn [] [] [] [] [(0,[0]),(1,[2])] []),
 (38,mkAnn [] [] [] [] [(0,[]),(1,[2,1]),(2,[4,3,2,1]),(3,[0])] []),
 (4,mkAnn [] [] [] [] [(0,[1]),(1,[3]),(2,[5,4,3]),(3,[7,6,5,4,3]),(4,[2])] []),
 (3,mkAnn [] [] [] [] [(0,[4,3,2,1]),(1,[9,3,2,1]),(2,[10,9,3,2,1]),(3,[12,10,9,3,2,1]),(4,[50,12,10,3,2,1]),(5,[8]),(6,[12,10,3,2,1]),(7,[14]),(8,[15,14]),(9,[68,15,14]),(10,[15,14]),(11,[16,15,14]),(12,[18,17,16,15,14]),(13,[20,19,18,17,16,15,14]),(14,[22,21,20,19,18,17,16,15,14]),(15,[24,23,22,21,20,19,18,17,16,15,14]),(16,[144,15,14]),(17,[8]),(18,[8])] [(9,[15,14])]),
 (11,mkAnn [] [] [] [] [(0,[3,2,1]),(1,[7,2,1]),(2,[7,2,1]),(3,[8,7,2]),(4,[9,8,7]),(5,[11,10,9,8,7]),(6,[50,9,8,7]),(7,[6]),(8,[12,9,8,7]),(9,[13,12,9,8,7]),(10,[55,13,12,9,8,7]),(11,[13,12,9,8,7]),(12,[64,13,12,9,8,7]),(13,[13,12,9,8,7]),(14,[71,12,8,7]),(15,[6]),(16,[88,12,8,7]),(17,[6]),(18,[6])] [(10,[13,12,9,8,7])]),
 (25,mkAnn [] [] [] [] [(0,[0]),(1,[2])] []),
 (46,mkAnn [] [] [] [] [(0,[0]),(1,[3,0]),(2,[4,3,0]),(3,[12,4,3,0]),(4,[4,3,0]),(5,[4,3,0]),(6,[2])] [(3,[4,3,0])]),
 (19,mkAnn [] [] [(60,1,false)] [] [(0,[2,1,0]),(1,[7,2,1]),(2,[12,7,2,1]),(3,[6]),(4,[7,2,1]),(5,[20,7,2,1]),(6,[6]),(7,[7]),(8,[6])] []),
 (29,mkAnn [3] [] [] [] [(0,[]),(1,[1]),(2,[2,1]),(3,[0])] []),
 (49,mkAnn [] [] [(53,1,false)] [] [(0,[0]),(1,[6,0]),(2,[3,2]),(3,[3,2])] []),
 (100,mkAnn [] [] [] [] [(0,[0]),(1,[3,0]),(2,[4,3,0]),(3,[8,4,3,0]),(4,[4,3,0]),(5,[4,3,0]),(6,[2])] [(3,[4,3,0])]),
 (146,mkAnn [] [] [] [] [(0,[0]),(1,[8,0]),(2,[4,3,2]),(3,[5,0]),(4,[17,5,0]),(5,[4,3,2]),(6,[4,3,2])] []),
 (145,mkAnn [] [] [] [] [(0,[0]),(1,[7,6,5]),(2,[15,7,6,5]),(3,[4,3,2]),(4,[20,6,5]),(5,[4,3,2]),(6,[4,3,2])] []),
 (101,mkAnn [] [] [] [] [(0,[0]),(1,[6,5,0]),(2,[7,6,5,0]),(3,[9,7,6,5,0]),(4,[7,6,5,0]),(5,[15,7,6,5,0]),(6,[4,3,2]),(7,[7,6,5,0]),(8,[7,6,5,0]),(9,[32,7,6,5,0]),(10,[41,7,5]),(11,[4,3,2]),(12,[4,3,2]),(13,[4,3,2])] [(3,[7,6,5,0])]),
 (94,mkAnn [] [] [] [] [(0,[0]),(1,[6,0]),(2,[4,3,0]),(3,[17,4,0]),(4,[2]),(5,[0]),(6,[2])] [(1,[0])]),
 (53,mkAnn [] [] [] [] [(0,[1,0]),(1,[12,1,0]),(2,[4]),(3,[5,1,0]),(4,[6,5,0]),(5,[18,6,5,0]),(6,[6,5,0]),(7,[6,5,0]),(8,[6,5,0]),(9,[4])] [(5,[6,5,0])]),
 (48,mkAnn [] [] [(49,1,false)] [] [(0,[0]),(1,[6,0]),(2,[3,2]),(3,[3,2])] []),
 (140,mkAnn [] [] [] [] [(0,[0]),(1,[10,0]),(2,[3,2]),(3,[4,0]),(4,[12,4,0]),(5,[4,0]),(6,[4,0]),(7,[3,2])] [(4,[4,0])]),
 (138,mkAnn [] [] [] [] [(0,[0]),(1,[4,0]),(2,[4,0]),(3,[3,2]),(4,[11,4,0]),(5,[3,2]),(6,[15,4,0]),(7,[6,5,4,0]),(8,[24,4,0]),(9,[6,5,4,0]),(10,[33,4,0]),(11,[6,5,4,0]),(12,[45,6,5,4,0]),(13,[3,2]),(14,[7,6,5,4,0]),(15,[48,7,6,5,4,0]),(16,[7,6,5,4,0]),(17,[60,7,6,5,4,0]),(18,[3,2]),(19,[7,6,5,4,0]),(20,[83,5,4]),(21,[3,2]),(22,[3,2])] [(15,[7,6,5,4,0])]),
 (110,mkAnn [] [] [] [] [(0,[3,2]),(1,[4])] []),
 (95,mkAnn [] [] [] [] [(0,[0]),(1,[4,0]),(2,[5,4,0]),(3,[14,5,4,0]),(4,[5,4,0]),(5,[6,5,4,0]),(6,[28,6,5,4,0]),(7,[3,2]),(8,[6,5,4,0]),(9,[8,7,5,4,0]),(10,[41,7,5,4,0]),(11,[3,2]),(12,[5,4,0]),(13,[10,9,4]),(14,[3,2])] [(3,[5,4,0])]),
 (104,mkAnn [] [] [] [] [(0,[4,1,0]),(1,[6,4,1,0]),(2,[10,6,4,1,0]),(3,[6,4,1,0]),(4,[19,6,4,1,0]),(5,[5,4]),(6,[5,4])] [(2,[6,4,1,0])]),
 (144,mkAnn [] [] [] [] [(0,[0]),(1,[3]),(2,[4,3]),(3,[4,3]),(4,[4,3]),(5,[4,3]),(6,[4,3]),(7,[4,3]),(8,[4,3]),(9,[4,3]),(10,[2]),(11,[13,3]),(12,[13,3]),(13,[13,3]),(14,[13,3]),(15,[2]),(16,[18,3]),(17,[18,3]),(18,[18,3]),(19,[18,3]),(20,[2]),(21,[23,3]),(22,[2]),(23,[25,3]),(24,[25,3]),(25,[25,3]),(26,[25,3]),(27,[25,3]),(28,[25,3]),(29,[25,3]),(30,[2]),(31,[33,3]),(32,[33,3]),(33,[2]),(34,[36]),(35,[2]),(36,[2])] []),
 (50,mkAnn [] [] [] [] [(0,[1,0]),(1,[7,6,1,0]),(2,[17,6,1,0]),(3,[5,4]),(4,[10,9,8,6,1]),(5,[38,6]),(6,[5,4]),(7,[5,4])] []),
 (102,mkAnn [] [] [] [] [(0,[1,0]),(1,[5,1]),(2,[6,5,1]),(3,[6,5,1]),(4,[6,5,1]),(5,[6,5,1]),(6,[6,5,1]),(7,[4]),(8,[15,5,1]),(9,[4]),(10,[20,5,1]),(11,[4]),(12,[25,5,1]),(13,[25,5,1]),(14,[25,5,1]),(15,[25,5,1]),(16,[25,5,1]),(17,[25,5,1]),(18,[25,5,1]),(19,[25,5,1]),(20,[4]),(21,[36,5,1]),(22,[36,5,1]),(23,[4]),(24,[42,5,1]),(25,[42,5,1]),(26,[4]),(27,[47,5,1]),(28,[4]),(29,[51,5,1]),(30,[4]),(31,[56,5,1]),(32,[4]),(33,[61,5,1]),(34,[61,5,1]),(35,[61,5,1]),(36,[4]),(37,[68,5,1]),(38,[4]),(39,[72,1]),(40,[4]),(41,[4])] []),
 (96,mkAnn [] [] [] [] [(0,[1,0]),(1,[5,1,0]),(2,[6,5,1,0]),(3,[10,6,5,1,0]),(4,[6,5,1,0]),(5,[19,6,5,1,0]),(6,[6,5,1,0]),(7,[4])] [(3,[6,5,1,0])]),
 (67,mkAnn [] [] [] [] [(0,[1,0]),(1,[9,8,7,1,0]),(2,[36,8,7,1,0]),(3,[6,5,4]),(4,[10,8,7,0]),(5,[11,10,8,7,0]),(6,[45,11,10,8,7,0]),(7,[14,13,12,11,10,8,7,0]),(8,[59,13,12,11,10,8,7,0]),(9,[6,5,4]),(10,[17,16,15,13,12,11,10,8,7,0]),(11,[70,16,15,13,12,11,10,8,7,0]),(12,[6,5,4]),(13,[19,16,15,13,12,11,10,8,7,0]),(14,[90,16,15,13,12,11,10,8,7,0]),(15,[6,5,4]),(16,[20,16,15,13,11,10,8,7,0]),(17,[96,20,16,15,13,11,10,8,7,0]),(18,[6,5,4]),(19,[16,13,11,10,8,7,0]),(20,[11,10,8,7,0]),(21,[6,5,4])] [(6,[11,10,8,7,0])]),
 (72,mkAnn [] [] [] [] [(0,[1,0]),(1,[10,1,0]),(2,[4]),(3,[5,1,0]),(4,[14,5,1,0]),(5,[5,1,0]),(6,[26,5,1,0]),(7,[4]),(8,[4])] [(4,[5,1,0])]),
 (141,mkAnn [] [] [] [] [(0,[1,0]),(1,[5,1,0]),(2,[9,5,1,0]),(3,[5,1,0]),(4,[17,5,1,0]),(5,[4]),(6,[4])] [(2,[5,1,0])]),
 (139,mkAnn [] [] [(48,1,false)] [] [(0,[1]),(1,[16,1]),(2,[17,16,1]),(3,[3,2]),(4,[31,16,1]),(5,[3,2]),(6,[45,16,1]),(7,[3,2]),(8,[59,16,1]),(9,[5,4]),(10,[3,2]),(11,[70,16,1]),(12,[7,6]),(13,[3,2]),(14,[81,16,1]),(15,[9,8]),(16,[3,2]),(17,[92,1]),(18,[11,10,1]),(19,[13,12,11,10]),(20,[3,2]),(21,[3,2])] []),
 (105,mkAnn [] [] [] [] [(0,[1,0]),(1,[5,1]),(2,[6,5,1]),(3,[6,5,1]),(4,[6,5,1]),(5,[6,5,1]),(6,[6,5,1]),(7,[6,5,1]),(8,[6,5,1]),(9,[6,5,1]),(10,[16]),(11,[4]),(12,[17,5,1]),(13,[17,5,1]),(14,[17,5,1]),(15,[22]),(16,[4]),(17,[23,1]),(18,[26]),(19,[4]),(20,[4])] []),
 (103,mkAnn [] [] [] [] [(0,[4,1,0]),(1,[7,4,1,0]),(2,[8,7,4,1,0]),(3,[26,8,7,4,1]),(4,[27,26,8,7,4,1]),(5,[8,7,4,1]),(6,[29,26,8,7,4,1]),(7,[8,7,4,1]),(8,[31,26,8,7,4,1]),(9,[8,7,4,1]),(10,[33,26,8,7,4,1]),(11,[11,10,9,7,4]),(12,[11,10,7,4]),(13,[6,5,4]),(14,[47,26,8,7,4,1]),(15,[14,13,12,7,4]),(16,[14,13,7,4]),(17,[6,5,4]),(18,[61,26,8,7,4,1]),(19,[17,16,15,7,4]),(20,[17,16,7,4]),(21,[6,5,4]),(22,[77,8,7,4,1]),(23,[20,19,18,7,4,1]),(24,[86,19,18,7,4,1]),(25,[6,5,4]),(26,[22,21,20,19,18,7,4]),(27,[22,20,19,7,4]),(28,[6,5,4]),(29,[109,8,7,4,1]),(30,[6,5,4]),(31,[8,7,4]),(32,[6,5,4])] []),
 (36,mkAnn [] [] [] [] [(0,[3,2]),(1,[112,3,2]),(2,[4]),(3,[163,3,2]),(4,[4]),(5,[5,3,2]),(6,[168,5,3,2]),(7,[5,3,2]),(8,[181,5,3,2]),(9,[4]),(10,[6,3,2]),(11,[186,6,3,2]),(12,[6,3,2]),(13,[199,6,3,2]),(14,[4]),(15,[7,3,2]),(16,[204,7,3,2]),(17,[7,3,2]),(18,[217,7,3,2]),(19,[4]),(20,[9,8]),(21,[4])] [(6,[5,3,2]),(11,[6,3,2]),(16,[7,3,2])]),
 (51,mkAnn [] [] [] [] [(0,[0]),(1,[2])] []),
 (13,mkAnn [] [] [] [] [(0,[1]),(1,[5,4,1]),(2,[7,6,5,4,1]),(3,[9,8,7,6,5,4,1]),(4,[11,10,9,8,7,6,5,4,1]),(5,[12,10,8,6,4,1]),(6,[12,10,8,6,4,1]),(7,[13,12,10,8,1]),(8,[13,12,10,1]),(9,[13,12,10,1]),(10,[3,2])] []),
 (14,mkAnn [] [] [] [] [(0,[1]),(1,[5,4,1]),(2,[7,6,5,1]),(3,[9,8,7,6,5,1]),(4,[8,6,5,1]),(5,[10,8,5,1]),(6,[11,10,8,5,1]),(7,[72,11,10,8,5,1]),(8,[11,10,8,5,1]),(9,[11,10,8,5,1]),(10,[11,10,8,5,1]),(11,[3,2])] [(7,[11,10,8,5,1])]),
 (22,mkAnn [] [] [] [] [(0,[2,0]),(1,[4,2,0]),(2,[5,4,2,0]),(3,[6,5,4,2,0]),(4,[5,4,2,0]),(5,[5,4,2,0]),(6,[5,4,2,0]),(7,[48,5,4,2,0]),(8,[9,8,7,5,4,2,0]),(9,[7,5,4,2,0]),(10,[5,4,2,0]),(11,[11,10,5,4,2,0]),(12,[93,5,2]),(13,[3,2]),(14,[3,2])] []),
 (24,mkAnn [] [] [] [] [(0,[2,0]),(1,[4,2,0]),(2,[6,5,4,2,0]),(3,[7,6,4,2,0]),(4,[8,7,6,4,2,0]),(5,[7,6,4,2,0]),(6,[9,7,6,4,2,0]),(7,[10,9,7,6,4,2,0]),(8,[44,10,9,7,6,4,2,0]),(9,[10,9,7,6,4,2,0]),(10,[10,9,7,6,4,2,0]),(11,[7,6,4,2,0]),(12,[12,11,7,6,4,2,0]),(13,[80,7,2]),(14,[3,2]),(15,[3,2])] [(8,[10,9,7,6,4,2,0])]),
 (26,mkAnn [] [] [] [] [(0,[3,2]),(1,[4])] []),
 (27,mkAnn [] [] [] [] [(0,[3,2]),(1,[41,3,2]),(2,[4]),(3,[5,3,2]),(4,[46,5,3,2]),(5,[5,3,2]),(6,[59,5,3,2]),(7,[4]),(8,[4])] [(4,[5,3,2])]),
 (52,mkAnn [] [] [] [] [(0,[1,0]),(1,[5,0]),(2,[4]),(3,[4])] []),
 (1000000,{})]
def ann : Nat→Ann:=lookT {} annT
def byrefT : List (Nat×Bool):=[
 (28,true),
 (1000000,false)]
def BY : Nat→Bool:=lookT false byrefT
noncomputable def CF : Nat→Option AFunc:=compF Tryd.prog ann
noncomputable def FC : Nat→Option AFunc:=fun f=>(CF f).map stripF
def primT : List (Nat×Option (List AVal→AHeap→Option (AVal×AHeap))):=[
 (111,some (clonePrim 1 1)),
 (137,some (clonePrim 5 72)),
 (142,some (validPrim)),
 (32,some (noPrim)),
 (130,some (noPrim)),
 (1000000,none)]
def PR : Prims:=lookT none primT
def oI (d : Nat) (i : Ins) : AOp:=⟨some d,i,none,[]⟩
def oN (i : Ins) : AOp:=⟨none,i,none,[]⟩
theorem xw (c d : ACode) (h : c=d) (m : Nat) (tm : Tms) (σ : AHeap) : evC FC PR BY m c tm σ=evC FC PR BY m d tm σ:=by rw [h]
noncomputable abbrev E : Oracle:=EV FC PR BY
theorem E_eq {f : Nat} {fn : AFunc} (hp : PR f=none) (hf : FC f=some fn) (args : List AVal) (σ : AHeap) : E f args σ=finA σ.length fn (evC FC PR BY σ.length fn.body (enterA 0 args []) σ):=EV_eq hp hf args σ
end Go.Proofs.YtmlkhhidifjjfaaDoor
namespace Go.Proofs.YtmlkhhidifjjfaaDoor
def b_octet_Data : ACode:=(.seq (.region [oI 2 (.mov (.c (.lst true []))),oI 3 (.mov (.c (.int .i64 0)))] none [0]) (.seq (.seq (.region [oI 4 (.mov (.t 0)),oI 5 (.len (.t 4)),oI 6 (.bin .gtr (.t 5) (.c (.int .i64 65535)))] none [6,0]) (.cond (.t 6) (.seq (.region [oI 2 (.mov (.c (.lst true []))),oI 3 (.mov (.c (.int .i64 10)))] none [3,2]) .ret) .skip)) (.seq (.region [oI 7 (.mov (.t 0)),oI 8 (.len (.t 7)),oI 9 (.i2i .u64 (.t 8)),oI 10 (.call 59 0 true [(.t 9),(.c (.int .i64 2))]),oI 11 (.mov (.t 0)),oI 12 (.bslice false 1 2 (.lst true []) [(0,(.t 10)),(1,(.t 11))]),oI 13 (.call 56 0 true [(.t 12)]),oI 2 (.mov (.t 13)),oI 3 (.mov (.c (.int .i64 0)))] none [3,2]) .ret)))
def c_octet_Data : AFunc:=⟨[(.tmp 2),(.tmp 3)],b_octet_Data⟩
theorem cf_octet_Data : FC 55=some c_octet_Data:=by kernel_rfl
theorem cb_octet_Data : c_octet_Data.body=b_octet_Data:=rfl
theorem cr_octet_Data : c_octet_Data.res=[(.tmp 2),(.tmp 3)]:=rfl
def d_octet_Get_k0 : ACode:=(.seq (.region [oI 18 (.mov (.t 3)),oI 2 (.mov (.t 18))] none [2]) .ret)
def c_octet_Get_k0 : ACode:=d_octet_Get_k0
def x_octet_Get_k0:=xw c_octet_Get_k0 d_octet_Get_k0 rfl
def d_octet_Get_l3 : ACode:=(.seq (.region [oI 9 (.bin .lss (.t 8) (.t 7))] none [9,8,7,6,3]) (.seq (.cond (.t 9) .skip (.exit 0)) (.seq (.block 1 (.seq (.region [oI 10 (.iaddr 1 (.t 6) (.t 8)),oI 11 (.ld none (.t 10)),oI 5 (.mov (.t 11))] none [8,7,6,5,3]) (.region [oI 12 (.mov (.t 3)),oI 13 (.bin .shl (.t 12) (.c (.int .u64 8))),oI 14 (.mov (.t 5)),oI 15 (.i2i .u64 (.t 14)),oI 16 (.bin .or (.t 13) (.t 15)),oI 3 (.mov (.t 16))] none [8,7,6,3]))) (.region [oI 17 (.bin .add (.t 8) (.c (.int .i64 1))),oI 8 (.mov (.t 17))] none [8,7,6,3]))))
def c_octet_Get_l3 : ACode:=d_octet_Get_l3
def x_octet_Get_l3:=xw c_octet_Get_l3 d_octet_Get_l3 rfl
def b_octet_Get : ACode:=(.seq (.region [oI 2 (.mov (.c (.int .u64 0)))] none [0]) (.seq (.region [oI 3 (.mov (.c (.int .u64 0)))] none [3,0]) (.seq (.seq (.region [oI 6 (.mov (.t 0)),oI 7 (.len (.t 6)),oI 8 (.mov (.c (.int .i64 0)))] none [8,7,6,3]) (.block 0 (.loop [8,7,6,3] c_octet_Get_l3))) c_octet_Get_k0)))
def c_octet_Get : AFunc:=⟨[(.tmp 2)],b_octet_Get⟩
theorem cf_octet_Get : FC 108=some c_octet_Get:=by kernel_rfl
theorem cb_octet_Get : c_octet_Get.body=b_octet_Get:=rfl
theorem cr_octet_Get : c_octet_Get.res=[(.tmp 2)]:=rfl
noncomputable def K_octet_Get_l3 (m : Nat) (tm : Tms) (σ : AHeap) : Option (AVal×AHeap):=(finA m c_octet_Get (seqX FC PR BY m c_octet_Get_k0 (Option.map (blockA 0) (evL FC PR BY m [8,7,6,3] c_octet_Get_l3 tm σ))))
def b_octet_GetData : ACode:=(.seq (.region [oI 2 (.mov (.c (.lst true []))),oI 3 (.mov (.c (.int .i64 0))),oI 4 (.mov (.c (.int .i64 0)))] none [0]) (.seq (.seq (.region [oI 5 (.mov (.t 0)),oI 6 (.len (.t 5)),oI 7 (.bin .lss (.t 6) (.c (.int .i64 2))),oI 8 (.mov (.t 7)),⟨(some 9),(.mov (.t 0)),(some (8,false)),[]⟩,⟨(some 10),(.len (.t 9)),(some (8,false)),[]⟩,⟨(some 11),(.bin .sub (.t 10) (.c (.int .i64 2))),(some (8,false)),[]⟩,⟨(some 12),(.mov (.t 0)),(some (8,false)),[]⟩,⟨(some 13),(.slice 1 (.t 12) none (some (.c (.int .i64 2))) none),(some (8,false)),[]⟩,⟨(some 14),(.call 108 0 true [(.t 13)]),(some (8,false)),[]⟩,⟨(some 15),(.i2i .i64 (.t 14)),(some (8,false)),[]⟩,⟨(some 16),(.bin .lss (.t 11) (.t 15)),(some (8,false)),[]⟩,oI 17 (.pick (.t 8) (.c (.bool true)) (.t 16))] none [17,0]) (.cond (.t 17) (.seq (.region [oI 2 (.mov (.c (.lst true []))),oI 3 (.mov (.c (.int .i64 0))),oI 4 (.mov (.c (.int .i64 11)))] none [4,3,2]) .ret) .skip)) (.seq (.region [oI 18 (.mov (.t 0)),oI 19 (.slice 1 (.t 18) none (some (.c (.int .i64 2))) none),oI 20 (.call 108 0 true [(.t 19)]),oI 21 (.i2i .i64 (.t 20)),oI 22 (.bin .add (.c (.int .i64 2)) (.t 21)),oI 3 (.mov (.t 22))] none [3,0]) (.seq (.region [oI 23 (.mov (.t 0)),oI 24 (.mov (.t 3)),oI 25 (.slice 1 (.t 23) (some (.c (.int .i64 2))) (some (.t 24)) none),oI 26 (.bslice false 1 1 (.lst true []) [(0,(.t 25))]),oI 27 (.call 56 0 true [(.t 26)]),oI 28 (.mov (.t 3)),oI 2 (.mov (.t 27)),oI 3 (.mov (.t 28)),oI 4 (.mov (.c (.int .i64 0)))] none [4,3,2]) .ret))))
def c_octet_GetData : AFunc:=⟨[(.tmp 2),(.tmp 3),(.tmp 4)],b_octet_GetData⟩
theorem cf_octet_GetData : FC 106=some c_octet_GetData:=by kernel_rfl
theorem cb_octet_GetData : c_octet_GetData.body=b_octet_GetData:=rfl
theorem cr_octet_GetData : c_octet_GetData.res=[(.tmp 2),(.tmp 3),(.tmp 4)]:=rfl
def b_octet_GetText : ACode:=(.seq (.region [oI 2 (.mov (.c (.str []))),oI 3 (.mov (.c (.int .i64 0))),oI 4 (.mov (.c (.int .i64 0)))] none [0]) (.seq (.region [oI 7 (.mov (.t 0)),oI 8 (.call 106 0 true [(.t 7)]),oI 6 (.mov (.t 8)),oI 9 (.ext (.t 6) 0),oI 10 (.ext (.t 6) 1),oI 11 (.ext (.t 6) 2),oI 5 (.mov (.t 9)),oI 3 (.mov (.t 10)),oI 4 (.mov (.t 11))] none [5,4,3]) (.seq (.block 0 (.seq (.region [oI 13 (.mov (.t 4)),oI 14 (.bin .neq (.t 13) (.c (.int .i64 0))),oI 12 (.mov (.t 14))] none [12,5,4,3]) (.cond (.t 12) (.seq (.region [oI 15 (.mov (.t 4)),oI 2 (.mov (.c (.str []))),oI 3 (.mov (.c (.int .i64 0))),oI 4 (.mov (.t 15))] none [4,3,2]) .ret) (.seq (.region [oI 17 (.mov (.t 5)),oI 18 (.b2s (.t 17)),oI 19 (.call 97 0 true [(.t 18)]),oI 20 (.un .not (.t 19)),oI 16 (.mov (.t 20))] none [16,5,3]) (.cond (.t 16) (.seq (.region [oI 2 (.mov (.c (.str []))),oI 3 (.mov (.c (.int .i64 0))),oI 4 (.mov (.c (.int .i64 13)))] none [4,3,2]) .ret) .skip))))) (.seq (.region [oI 21 (.mov (.t 5)),oI 22 (.b2s (.t 21)),oI 23 (.mov (.t 3)),oI 2 (.mov (.t 22)),oI 3 (.mov (.t 23)),oI 4 (.mov (.c (.int .i64 0)))] none [4,3,2]) .ret))))
def c_octet_GetText : AFunc:=⟨[(.tmp 2),(.tmp 3),(.tmp 4)],b_octet_GetText⟩
theorem cf_octet_GetText : FC 109=some c_octet_GetText:=by kernel_rfl
theorem cb_octet_GetText : c_octet_GetText.body=b_octet_GetText:=rfl
theorem cr_octet_GetText : c_octet_GetText.res=[(.tmp 2),(.tmp 3),(.tmp 4)]:=rfl
def d_octet_GetVar_k0 : ACode:=(.seq (.seq (.region [oI 36 (.mov (.t 0)),oI 37 (.len (.t 36)),oI 38 (.bin .lss (.t 37) (.c (.int .i64 4)))] none [38]) (.cond (.t 38) (.seq (.region [oI 2 (.mov (.c (.int .i64 0))),oI 3 (.mov (.c (.int .i64 0))),oI 4 (.mov (.c (.int .i64 11)))] none [4,3,2]) .ret) .skip)) (.seq (.region [oI 2 (.mov (.c (.int .i64 0))),oI 3 (.mov (.c (.int .i64 0))),oI 4 (.mov (.c (.int .i64 12)))] none [4,3,2]) .ret))
def c_octet_GetVar_k0 : ACode:=d_octet_GetVar_k0
def x_octet_GetVar_k0:=xw c_octet_GetVar_k0 d_octet_GetVar_k0 rfl
def d_octet_GetVar_l2 : ACode:=(.seq (.region [oI 10 (.bin .lss (.t 9) (.t 8))] none [10,9,8,7,2,0]) (.seq (.cond (.t 10) .skip (.exit 0)) (.seq (.block 1 (.seq (.region [oI 11 (.mov (.t 9)),oI 12 (.iaddr 1 (.t 7) (.t 9)),oI 13 (.ld none (.t 12)),oI 5 (.mov (.t 11)),oI 6 (.mov (.t 13))] none [9,8,7,6,5,2,0]) (.seq (.seq (.region [oI 14 (.mov (.t 5)),oI 15 (.bin .eql (.t 14) (.c (.int .i64 4)))] none [15,9,8,7,6,5,2,0]) (.cond (.t 15) (.exit 0) .skip)) (.seq (.region [oI 16 (.mov (.t 2)),oI 17 (.mov (.t 6)),oI 18 (.bin .and (.t 17) (.c (.int .u8 127))),oI 19 (.i2i .i64 (.t 18)),oI 20 (.mov (.t 5)),oI 21 (.bin .mul (.c (.int .i64 7)) (.t 20)),oI 22 (.bin .shl (.t 19) (.t 21)),oI 23 (.bin .or (.t 16) (.t 22)),oI 2 (.mov (.t 23))] none [9,8,7,6,5,2,0]) (.seq (.region [oI 24 (.mov (.t 6)),oI 25 (.bin .lss (.t 24) (.c (.int .u8 128)))] none [25,9,8,7,6,5,2,0]) (.cond (.t 25) (.seq (.seq (.region [oI 26 (.mov (.t 6)),oI 27 (.bin .eql (.t 26) (.c (.int .u8 0))),oI 28 (.mov (.t 27)),⟨(some 29),(.mov (.t 5)),(some (28,true)),[]⟩,⟨(some 30),(.bin .gtr (.t 29) (.c (.int .i64 0))),(some (28,true)),[]⟩,oI 31 (.pick (.t 28) (.t 30) (.c (.bool false)))] none [31,5,2]) (.cond (.t 31) (.seq (.region [oI 2 (.mov (.c (.int .i64 0))),oI 3 (.mov (.c (.int .i64 0))),oI 4 (.mov (.c (.int .i64 12)))] none [4,3,2]) .ret) .skip)) (.seq (.region [oI 32 (.mov (.t 2)),oI 33 (.mov (.t 5)),oI 34 (.bin .add (.t 33) (.c (.int .i64 1))),oI 2 (.mov (.t 32)),oI 3 (.mov (.t 34)),oI 4 (.mov (.c (.int .i64 0)))] none [4,3,2]) .ret)) .skip)))))) (.region [oI 35 (.bin .add (.t 9) (.c (.int .i64 1))),oI 9 (.mov (.t 35))] none [9,8,7,2,0]))))
def c_octet_GetVar_l2 : ACode:=d_octet_GetVar_l2
def x_octet_GetVar_l2:=xw c_octet_GetVar_l2 d_octet_GetVar_l2 rfl
def b_octet_GetVar : ACode:=(.seq (.region [oI 2 (.mov (.c (.int .i64 0))),oI 3 (.mov (.c (.int .i64 0))),oI 4 (.mov (.c (.int .i64 0)))] none [2,0]) (.seq (.seq (.region [oI 7 (.mov (.t 0)),oI 8 (.len (.t 7)),oI 9 (.mov (.c (.int .i64 0)))] none [9,8,7,2,0]) (.block 0 (.loop [9,8,7,2,0] c_octet_GetVar_l2))) c_octet_GetVar_k0))
def c_octet_GetVar : AFunc:=⟨[(.tmp 2),(.tmp 3),(.tmp 4)],b_octet_GetVar⟩
theorem cf_octet_GetVar : FC 135=some c_octet_GetVar:=by kernel_rfl
theorem cb_octet_GetVar : c_octet_GetVar.body=b_octet_GetVar:=rfl
theorem cr_octet_GetVar : c_octet_GetVar.res=[(.tmp 2),(.tmp 3),(.tmp 4)]:=rfl
noncomputable def K_octet_GetVar_l2 (m : Nat) (tm : Tms) (σ : AHeap) : Option (AVal×AHeap):=(finA m c_octet_GetVar (seqX FC PR BY m c_octet_GetVar_k0 (Option.map (blockA 0) (evL FC PR BY m [9,8,7,2,0] c_octet_GetVar_l2 tm σ))))
def d_octet_IsText_k0 : ACode:=(.seq (.region [oI 12 (.mov (.t 0)),oI 13 (.call 142 0 true [(.t 12)]),oI 2 (.mov (.t 13))] none [2]) .ret)
def c_octet_IsText_k0 : ACode:=d_octet_IsText_k0
def x_octet_IsText_k0:=xw c_octet_IsText_k0 d_octet_IsText_k0 rfl
def d_octet_IsText_l2 : ACode:=(.seq (.region [oI 7 (.nxt (.t 6)),oI 8 (.ext (.t 7) 0)] none [8,7,6,0]) (.seq (.cond (.t 8) .skip (.exit 0)) (.block 1 (.seq (.region [oI 9 (.ext (.t 7) 2),oI 4 (.mov (.t 9))] none [6,4,0]) (.seq (.region [oI 10 (.mov (.t 4)),oI 11 (.bin .eql (.t 10) (.c (.int .i32 0)))] none [11,6,0]) (.cond (.t 11) (.seq (.region [oI 2 (.mov (.c (.bool false)))] none [2]) .ret) .skip))))))
def c_octet_IsText_l2 : ACode:=d_octet_IsText_l2
def x_octet_IsText_l2:=xw c_octet_IsText_l2 d_octet_IsText_l2 rfl
def b_octet_IsText : ACode:=(.seq (.region [oI 2 (.mov (.c (.bool false)))] none [0]) (.seq (.seq (.region [oI 5 (.mov (.t 0)),oI 6 (.rng (.t 5))] none [6,0]) (.block 0 (.loop [6,0] c_octet_IsText_l2))) c_octet_IsText_k0))
def c_octet_IsText : AFunc:=⟨[(.tmp 2)],b_octet_IsText⟩
theorem cf_octet_IsText : FC 97=some c_octet_IsText:=by kernel_rfl
theorem cb_octet_IsText : c_octet_IsText.body=b_octet_IsText:=rfl
theorem cr_octet_IsText : c_octet_IsText.res=[(.tmp 2)]:=rfl
noncomputable def K_octet_IsText_l2 (m : Nat) (tm : Tms) (σ : AHeap) : Option (AVal×AHeap):=(finA m c_octet_IsText (seqX FC PR BY m c_octet_IsText_k0 (Option.map (blockA 0) (evL FC PR BY m [6,0] c_octet_IsText_l2 tm σ))))
def d_octet_Join_k0 : ACode:=(.seq (.region [oI 16 (.mov (.t 3)),oI 2 (.mov (.t 16))] none [2]) .ret)
def c_octet_Join_k0 : ACode:=d_octet_Join_k0
def x_octet_Join_k0:=xw c_octet_Join_k0 d_octet_Join_k0 rfl
def d_octet_Join_l3 : ACode:=(.seq (.region [oI 9 (.bin .lss (.t 8) (.t 7))] none [9,8,7,6,3]) (.seq (.cond (.t 9) .skip (.exit 0)) (.seq (.block 1 (.seq (.region [oI 10 (.iaddr 1 (.t 6) (.t 8)),oI 11 (.ld none (.t 10)),oI 5 (.mov (.t 11))] none [8,7,6,5,3]) (.region [oI 12 (.mov (.t 3)),oI 13 (.mov (.t 5)),oI 14 (.app 1 1 (.int .u8 0) (.t 12) (.t 13)),oI 3 (.mov (.t 14))] none [8,7,6,3]))) (.region [oI 15 (.bin .add (.t 8) (.c (.int .i64 1))),oI 8 (.mov (.t 15))] none [8,7,6,3]))))
def c_octet_Join_l3 : ACode:=d_octet_Join_l3
def x_octet_Join_l3:=xw c_octet_Join_l3 d_octet_Join_l3 rfl
def b_octet_Join : ACode:=(.seq (.region [oI 2 (.mov (.c (.lst true [])))] none [0]) (.seq (.region [oI 3 (.mov (.c (.lst true [])))] none [3,0]) (.seq (.seq (.region [oI 6 (.mov (.t 0)),oI 7 (.len (.t 6)),oI 8 (.mov (.c (.int .i64 0)))] none [8,7,6,3]) (.block 0 (.loop [8,7,6,3] c_octet_Join_l3))) c_octet_Join_k0)))
def c_octet_Join : AFunc:=⟨[(.tmp 2)],b_octet_Join⟩
theorem cf_octet_Join : FC 56=some c_octet_Join:=by kernel_rfl
theorem cb_octet_Join : c_octet_Join.body=b_octet_Join:=rfl
theorem cr_octet_Join : c_octet_Join.res=[(.tmp 2)]:=rfl
noncomputable def K_octet_Join_l3 (m : Nat) (tm : Tms) (σ : AHeap) : Option (AVal×AHeap):=(finA m c_octet_Join (seqX FC PR BY m c_octet_Join_k0 (Option.map (blockA 0) (evL FC PR BY m [8,7,6,3] c_octet_Join_l3 tm σ))))
def d_octet_Put_k0 : ACode:=(.seq (.region [oI 28 (.mov (.t 5)),oI 4 (.mov (.t 28))] none [4]) .ret)
def c_octet_Put_k0 : ACode:=d_octet_Put_k0
def x_octet_Put_k0:=xw c_octet_Put_k0 d_octet_Put_k0 rfl
def d_octet_Put_l5 : ACode:=(.seq (.seq (.region [oI 17 (.mov (.t 6)),oI 18 (.bin .geq (.t 17) (.c (.int .i64 0)))] none [18,6,5,0]) (.cond (.t 18) .skip (.exit 0))) (.seq (.block 1 (.seq (.region [oI 21 (.mov (.t 5)),oI 22 (.mov (.t 6)),oI 23 (.mov (.t 0)),oI 24 (.i2i .u8 (.t 23)),oI 25 (.iaddr 1 (.t 21) (.t 22)),oN (.st 1 (.t 25) (.t 24))] none [6,5,0]) (.region [oI 26 (.mov (.t 0)),oI 27 (.bin .shr (.t 26) (.c (.int .u64 8))),oI 0 (.mov (.t 27))] none [6,5,0]))) (.region [oI 19 (.mov (.t 6)),oI 20 (.bin .sub (.t 19) (.c (.int .i64 1))),oI 6 (.mov (.t 20))] none [6,5,0])))
def c_octet_Put_l5 : ACode:=d_octet_Put_l5
def x_octet_Put_l5:=xw c_octet_Put_l5 d_octet_Put_l5 rfl
def b_octet_Put : ACode:=(.seq (.region [oI 4 (.mov (.c (.lst true [])))] none [1,0]) (.seq (.seq (.region [oI 7 (.mov (.t 1)),oI 8 (.bin .lss (.t 7) (.c (.int .i64 1))),oI 9 (.mov (.t 8)),⟨(some 10),(.mov (.t 1)),(some (9,false)),[]⟩,⟨(some 11),(.bin .gtr (.t 10) (.c (.int .i64 8))),(some (9,false)),[]⟩,oI 12 (.pick (.t 9) (.c (.bool true)) (.t 11))] none [12,1,0]) (.cond (.t 12) (.seq (.region [oI 4 (.mov (.c (.lst true [])))] none [4]) .ret) .skip)) (.seq (.region [oI 13 (.mov (.t 1)),oI 14 (.mkslice 1 1 (.int .u8 0) (.t 13) (.t 13)),oI 5 (.mov (.t 14))] none [5,1,0]) (.seq (.seq (.region [oI 15 (.mov (.t 1)),oI 16 (.bin .sub (.t 15) (.c (.int .i64 1))),oI 6 (.mov (.t 16))] none [6,5,0]) (.block 0 (.loop [6,5,0] c_octet_Put_l5))) c_octet_Put_k0))))
def c_octet_Put : AFunc:=⟨[(.tmp 4)],b_octet_Put⟩
theorem cf_octet_Put : FC 59=some c_octet_Put:=by kernel_rfl
theorem cb_octet_Put : c_octet_Put.body=b_octet_Put:=rfl
theorem cr_octet_Put : c_octet_Put.res=[(.tmp 4)]:=rfl
noncomputable def K_octet_Put_l5 (m : Nat) (tm : Tms) (σ : AHeap) : Option (AVal×AHeap):=(finA m c_octet_Put (seqX FC PR BY m c_octet_Put_k0 (Option.map (blockA 0) (evL FC PR BY m [6,5,0] c_octet_Put_l5 tm σ))))
def b_octet_Text : ACode:=(.seq (.region [oI 2 (.mov (.c (.lst true []))),oI 3 (.mov (.c (.int .i64 0)))] none [0]) (.seq (.seq (.region [oI 4 (.mov (.t 0)),oI 5 (.call 97 0 true [(.t 4)]),oI 6 (.un .not (.t 5))] none [6,0]) (.cond (.t 6) (.seq (.region [oI 2 (.mov (.c (.lst true []))),oI 3 (.mov (.c (.int .i64 13)))] none [3,2]) .ret) .skip)) (.seq (.region [oI 7 (.mov (.t 0)),oI 8 (.s2b (.t 7)),oI 9 (.call 55 0 true [(.t 8)]),oI 10 (.ext (.t 9) 0),oI 11 (.ext (.t 9) 1),oI 2 (.mov (.t 10)),oI 3 (.mov (.t 11))] none [3,2]) .ret)))
def c_octet_Text : AFunc:=⟨[(.tmp 2),(.tmp 3)],b_octet_Text⟩
theorem cf_octet_Text : FC 54=some c_octet_Text:=by kernel_rfl
theorem cb_octet_Text : c_octet_Text.body=b_octet_Text:=rfl
theorem cr_octet_Text : c_octet_Text.res=[(.tmp 2),(.tmp 3)]:=rfl
def d_octet_Var_k0 : ACode:=(.seq (.region [oI 21 (.mov (.t 4)),oI 22 (.mov (.t 0)),oI 23 (.i2i .u8 (.t 22)),oI 24 (.bslice false 1 1 (.int .u8 0) [(0,(.t 23))]),oI 25 (.app 1 1 (.int .u8 0) (.t 21) (.t 24)),oI 2 (.mov (.t 25)),oI 3 (.mov (.c (.int .i64 0)))] none [3,2]) .ret)
def c_octet_Var_k0 : ACode:=d_octet_Var_k0
def x_octet_Var_k0:=xw c_octet_Var_k0 d_octet_Var_k0 rfl
def d_octet_Var_l4 : ACode:=(.seq (.seq (.region [oI 11 (.mov (.t 0)),oI 12 (.bin .gtr (.t 11) (.c (.int .i64 127)))] none [12,4,0]) (.cond (.t 12) .skip (.exit 0))) (.seq (.block 1 (.region [oI 15 (.mov (.t 4)),oI 16 (.mov (.t 0)),oI 17 (.i2i .u8 (.t 16)),oI 18 (.bin .or (.t 17) (.c (.int .u8 128))),oI 19 (.bslice false 1 1 (.int .u8 0) [(0,(.t 18))]),oI 20 (.app 1 1 (.int .u8 0) (.t 15) (.t 19)),oI 4 (.mov (.t 20))] none [4,0])) (.region [oI 13 (.mov (.t 0)),oI 14 (.bin .shr (.t 13) (.c (.int .u64 7))),oI 0 (.mov (.t 14))] none [4,0])))
def c_octet_Var_l4 : ACode:=d_octet_Var_l4
def x_octet_Var_l4:=xw c_octet_Var_l4 d_octet_Var_l4 rfl
def b_octet_Var : ACode:=(.seq (.region [oI 2 (.mov (.c (.lst true []))),oI 3 (.mov (.c (.int .i64 0)))] none [0]) (.seq (.seq (.region [oI 5 (.mov (.t 0)),oI 6 (.bin .lss (.t 5) (.c (.int .i64 0))),oI 7 (.mov (.t 6)),⟨(some 8),(.mov (.t 0)),(some (7,false)),[]⟩,⟨(some 9),(.bin .gtr (.t 8) (.c (.int .i64 268435455))),(some (7,false)),[]⟩,oI 10 (.pick (.t 7) (.c (.bool true)) (.t 9))] none [10,0]) (.cond (.t 10) (.seq (.region [oI 2 (.mov (.c (.lst true []))),oI 3 (.mov (.c (.int .i64 10)))] none [3,2]) .ret) .skip)) (.seq (.region [oI 4 (.mov (.c (.lst true [])))] none [4,0]) (.seq (.block 0 (.loop [4,0] c_octet_Var_l4)) c_octet_Var_k0))))
def c_octet_Var : AFunc:=⟨[(.tmp 2),(.tmp 3)],b_octet_Var⟩
theorem cf_octet_Var : FC 82=some c_octet_Var:=by kernel_rfl
theorem cb_octet_Var : c_octet_Var.body=b_octet_Var:=rfl
theorem cr_octet_Var : c_octet_Var.res=[(.tmp 2),(.tmp 3)]:=rfl
noncomputable def K_octet_Var_l4 (m : Nat) (tm : Tms) (σ : AHeap) : Option (AVal×AHeap):=(finA m c_octet_Var (seqX FC PR BY m c_octet_Var_k0 (Option.map (blockA 0) (evL FC PR BY m [4,0] c_octet_Var_l4 tm σ))))
end Go.Proofs.YtmlkhhidifjjfaaDoor
namespace Go.Proofs.YtmlkhhidifjjfaaDoor
open Go.RowKit
inductive Ty where
 | bool
 | int (k : IntKind)
 | str
 | slice (s : Bool) (e : Ty)
 | struct (fs : List Ty)
 deriving Inhabited
def isRowD : Option TypeDesc→Bool
 | some (.struct _)=>true
 | some (.array _ _)=>true
 | _=>false
def offsOk (P : Program) : Nat→List Field→Nat→Bool
 | at',[],n=>at' == n
 | at',f::fs,n=>f.offset == at' && offsOk P (at'+P.cellsOf f.type) fs n
def tyOf (P : Program) : Nat→TypeId→Option Ty
 | 0,_=>none
 | n+1,t=>match P.underlying t with
  | some .bool=>some .bool
  | some (.int k)=>some (.int k)
  | some .string=>some .str
  | some (.slice e)=>if 0 < P.cellsOf e then (tyOf P n e).map (.slice (isRowD (P.underlying e))) else none
  | some (.struct fs)=>if offsOk P 0 fs.toList (P.cellsOf t) then (fs.toList.mapM fun f=>tyOf P n f.type).map .struct else none
  | _=>none
def elemV (s : Bool) (y : List AVal) : AVal:=if s then .agg y else y.headD .nilp
def Imm.of (w : World) : Imm:=fun b o=>w.cell? ⟨b,o,none⟩
section
variable {H : Type} {enc : TypeId×Value→H} {P : Program} {w : World} {spare : Nat→Bool} {held : Bool}
theorem cell_spot {b off : Nat} {s : Option Nat} {u : Value} (h : w.cell? ⟨b,off,s⟩=some u) : s=none:=by
 unfold World.cell? at h
 split at h
 ·rcases s with _ | s
  ·rfl
  ·simp at h
 ·cases h
theorem elemV_cells {s : Bool} {y : List AVal} (h : s=false→y.length=1) (h1 : s=false→∀ x ∈ y,okCell x=true) : (elemV s y).cells=y:=by
 cases s with
 | true=>rfl
 | false =>
  match y,h rfl with
  | [x],_ =>
   have:=h1 rfl x (by simp)
   cases x <;> simp_all [elemV,AVal.cells,okCell]
theorem addr_at {a : Addr} (h : a.spot=none) (n : Nat) : a.add n=⟨a.block,a.off+n,none⟩:=by
 unfold Addr.add
 split
 ·rename_i e;subst e;cases a;simp_all
 ·rfl
theorem VRs_split {I : Imm} {β : Bmap} {xs : List AVal} {vs : List Value} {n : Nat} (h : VRs I β xs (vs.take n)) {ys : List AVal} (h' : VRs I β ys (vs.drop n)) : VRs I β (xs++ys) vs:=by
 have:=VRs_append h h'
 rwa [List.take_append_drop] at this
theorem mapM_cons_some {α β : Type} {f : α→Option β} {a : α} {l : List α} {r : List β} (h : (a::l).mapM f=some r) : ∃ b r',f a=some b∧l.mapM f=some r'∧r=b::r':=by
 rw [List.mapM_cons] at h
 simp only [Option.bind_eq_bind,Option.bind_eq_some_iff,Option.pure_def,Option.some.injEq] at h
 obtain ⟨b,h1,r',h2,h3⟩:=h
 exact ⟨b,r',h1,h2,h3.symm⟩
theorem treeC_append {a b : List AVal} (ha : treeC a=true) (hb : treeC b=true) : treeC (a++b)=true:=by
 induction a with
 | nil=>exact hb
 | cons x a ih=>simp only [List.cons_append,treeC,Bool.and_eq_true] at ha ⊢;exact ⟨ha.1,ih ha.2⟩
theorem LR_rng {I : Imm} {β : Bmap} {s : Bool} {k b : Nat} : ∀ (n off : Nat) (Y : Nat→List AVal),(∀ i,i < n→(elemV s (Y i)).cells.length=k∧CR I β (elemV s (Y i)).cells b (off+i*k))→LR I β k ((List.range n).map fun i=>elemV s (Y i)) b off
 | 0,off,Y,_=>by simp [LR]
 | n+1,off,Y,h=>by
  rw [List.range_succ_eq_map,List.map_cons,LR_cons]
  have h0:=h 0 (by omega)
  simp only [Nat.zero_mul,Nat.add_zero] at h0
  refine ⟨h0,?_⟩
  rw [List.map_map]
  exact LR_rng n (off+k) (fun i=>Y (i+1)) (fun i hi=>by
   have:=h (i+1) (by omega)
   rw [show off+k+i*k=off+(i+1)*k by rw [Nat.succ_mul];omega]
   exact this)
theorem CR_of {I : Imm} {β : Bmap} {b : Nat} : ∀ (xs : List AVal) (cs : List Value) (off : Nat),VRs I β xs cs→(∀ i,i < cs.length→I b (off+i)=cs[i]?)→CR I β xs b off
 | [],_,_,_,_=>by simp only [CR]
 | x::xs,cs,off,h,hI=>by
  simp only [VRs] at h
  obtain ⟨v,vs',rfl,h1,h2⟩:=h
  simp only [CR]
  refine ⟨⟨v,by have:=hI 0 (by simp);simpa using this,h1⟩,CR_of xs vs' (off+1) h2 fun i hi=>?_⟩
  have:=hI (i+1) (by simp;omega)
  rw [show off+1+i=off+(i+1) by omega,this]
  simp
theorem treeL_of {s : Bool} : ∀ (n : Nat) (Y : Nat→List AVal),(∀ i,i < n→treeC (elemV s (Y i)).cells=true)→treeL ((List.range n).map fun i=>elemV s (Y i))=true
 | 0,Y,_=>by simp [treeL]
 | n+1,Y,h=>by
  rw [List.range_succ_eq_map,List.map_cons,treeL_cons,h 0 (by omega),List.map_map]
  simp only [Bool.true_and]
  exact treeL_of n (fun i=>Y (i+1)) (fun i hi=>h (i+1) (by omega))
theorem treeC_ok {xs : List AVal} (h : treeC xs=true) : ∀ x ∈ xs,okCell x=true:=by
 induction xs with
 | nil=>intro x hx;simp at hx
 | cons y ys ih =>
  simp only [treeC,Bool.and_eq_true] at h
  intro x hx
  rcases List.mem_cons.1 hx with rfl | hx
  ·cases x <;> simp_all [tree1,okCell]
  ·exact ih h.2 x hx
theorem Rel.start (w : World) (hG : Gl.le (Imm.of w)) : Rel (fun b=>b < w.heap.size) w (Imm.of w) (Imm.of w) B0 [] w where
 below:=KB.refl _ w
 old:=fun _ _ _=>rfl
 imm:=fun _ _ _ h=>h
 blk:=fun t x h=>by simp at h
 own:=fun t x b h=>by simp at h
 apart:=fun t x t' x' b h=>by simp at h
 fresh:=fun _ _ _=>rfl
 free:=fun t g h=>by simp at h
 gen:=fun t b g h=>by simp at h
 glob:=hG
theorem walk_of {O : Oracle} (hO : OrOk P O) {f : Nat} {args : List AVal} {vs : Array Value} {σ' : AHeap} (hG : Gl.le (Imm.of w)) (hargs : VRs (Imm.of w) B0 args vs.toList) (h : O f args []=some (.bool true,σ')) :
  Calls P f vs w (fun e w'=>e=.returned (.bool true)∧Below w.heap.size w w'):=by
 refine ((hO f args [] _ _ h).2 _ w _ _ B0 w vs (fun b hb=>hb) (Rel.start w hG) hargs).mono ?_
 rintro e w' ⟨u,he,I',β',_,_,R,hv⟩
 simp only [valOf,VR] at hv
 subst hv
 exact ⟨he,R.below.os,R.below.tape,R.below.output,R.below.size,R.below.block⟩
end
end Go.Proofs.YtmlkhhidifjjfaaDoor
namespace Go.Proofs.YtmlkhhidifjjfaaDoor
open Go.RowKit
theorem blockA_n (id : Nat) (tm : Tms) (σ : AHeap) : blockA id (.normal,tm,σ)=(.normal,tm,σ):=rfl
theorem blockA_e (id i : Nat) (tm : Tms) (σ : AHeap) : blockA id (.exit i,tm,σ)=if i=id then (.normal,tm,σ) else (.exit i,tm,σ):=by simp only [blockA]
theorem blockA_r (id : Nat) (tm : Tms) (σ : AHeap) : blockA id (.ret,tm,σ)=(.ret,tm,σ):=rfl
theorem blockA_p (id : Nat) (x : AVal) (tm : Tms) (σ : AHeap) : blockA id (.panic x,tm,σ)=(.panic x,tm,σ):=rfl
section
variable (O : Oracle) (byref : Nat→Bool)
def consC (c : Cls) : Option (Tms×AHeap×List Cls×Option AVal)→Option (Tms×AHeap×List Cls×Option AVal)
 | none=>none
 | some (tm,σ,cs,p)=>some (tm,σ,c::cs,p)
def appC (c : List Cls) : Option (Tms×AHeap×List Cls×Option AVal)→Option (Tms×AHeap×List Cls×Option AVal)
 | none=>none
 | some (tm,σ,cs,p)=>some (tm,σ,c++cs,p)
def kC (d : Option Nat) (os : List AOp) (s : Nat) (tm : Tms) : Option (AVal×AHeap×Cls)→Option (Tms×AHeap×List Cls×Option AVal)
 | none=>none
 | some (v,σ,c)=>if isPan v then some (tput tm d v,σ,[c],some (valOf v)) else consC c (runOps O byref os s (tput tm d v) σ)
def regC (ops : List AOp) (L : Nat) (l : List (Nat×Nat)) (live : List Nat) : Option (Tms×AHeap×List Cls×Option AVal)→Option (AExit×Tms×AHeap)
 | none=>none
 | some (_,σ,cs,some x)=>if panA ops L l cs then some (.panic x,[],σ) else none
 | some (tm,σ,cs,none)=>if chkA ops L l cs then some (.normal,keepL live tm,σ) else none
variable {O byref}
theorem C_nil (s : Nat) (tm : Tms) (σ : AHeap) : runOps O byref [] s tm σ=some (tm,σ,[],none):=rfl
theorem consC_some (c : Cls) (tm : Tms) (σ : AHeap) (cs : List Cls) (p : Option AVal) : consC c (some (tm,σ,cs,p))=some (tm,σ,c::cs,p):=rfl
theorem consC_none (c : Cls) : consC c none=none:=rfl
theorem consC_ite (c : Cls) (q : Prop) [Decidable q] (x y : Option (Tms×AHeap×List Cls×Option AVal)) : consC c (if q then x else y)=if q then consC c x else consC c y:=by split <;> rfl
theorem appC_some (c : List Cls) (tm : Tms) (σ : AHeap) (cs : List Cls) (p : Option AVal) : appC c (some (tm,σ,cs,p))=some (tm,σ,c++cs,p):=rfl
theorem appC_none (c : List Cls) : appC c none=none:=rfl
theorem appC_ite (c : List Cls) (q : Prop) [Decidable q] (x y : Option (Tms×AHeap×List Cls×Option AVal)) : appC c (if q then x else y)=if q then appC c x else appC c y:=by split <;> rfl
theorem C_step {o : AOp} {os : List AOp} {s : Nat} {tm tm1 : Tms} {σ σ1 : AHeap} {v : AVal} {c : Cls} (h : stepA O byref o s tm σ=some (v,tm1,σ1,c)) (hn : isPan v=false) : runOps O byref (o::os) s tm σ=consC c (runOps O byref os (s+nsite o.ins) tm1 σ1):=by
 rw [runOps_step h hn]
 cases runOps O byref os (s+nsite o.ins) tm1 σ1 <;> rfl
theorem C_cons (d : Option Nat) (i : Ins) (af : List Nat) (os : List AOp) (s : Nat) (tm : Tms) (σ : AHeap) : runOps O byref (⟨d,i,none,af⟩::os) s tm σ=kC O byref d os (s+nsite i) tm (exI O byref i s tm σ):=by
 cases h : exI O byref i s tm σ with
 | none=>exact runOps_none (by rw [step_one,h];rfl)
 | some q =>
  obtain ⟨v,σ1,c⟩:=q
  have hs : stepA O byref ⟨d,i,none,af⟩ s tm σ=some (v,tput tm d v,σ1,c):=by rw [step_one,h];rfl
  cases hp : isPan v with
  | true =>
   obtain ⟨x,rfl⟩:=isPan_true hp
   exact runOps_pan hs
  | false =>
   rw [C_step hs hp]
   simp only [kC,hp,Bool.false_eq_true,if_false]
theorem kC_some (d : Option Nat) (os : List AOp) (s : Nat) (tm : Tms) (v : AVal) (σ : AHeap) (c : Cls) (h : isPan v=false) : kC O byref d os s tm (some (v,σ,c))=consC c (runOps O byref os s (tput tm d v) σ):=by
 simp only [kC,h,Bool.false_eq_true,if_false]
theorem kC_pan (d : Option Nat) (os : List AOp) (s : Nat) (tm : Tms) (x : AVal) (σ : AHeap) (c : Cls) : kC O byref d os s tm (some (.pan x,σ,c))=some (tput tm d (.pan x),σ,[c],some x):=rfl
theorem kC_none (d : Option Nat) (os : List AOp) (s : Nat) (tm : Tms) : kC O byref d os s tm none=none:=rfl
theorem kC_ite (d : Option Nat) (os : List AOp) (s : Nat) (tm : Tms) (q : Prop) [Decidable q] (x y : Option (AVal×AHeap×Cls)) : kC O byref d os s tm (if q then x else y)=if q then kC O byref d os s tm x else kC O byref d os s tm y:=by split <;> rfl
theorem reg_some (ops : List AOp) (l : List (Nat×Nat)) (live : List Nat) (tm : Tms) (σ : AHeap) : runRegion O byref ops (some l) live tm σ=regC ops σ.length l live (runOps O byref ops σ.length tm (σ++List.replicate (sitesOf ops) .free)):=by
 unfold runRegion
 cases runOps O byref ops σ.length tm (σ++List.replicate (sitesOf ops) .free) with
 | none=>rfl
 | some q =>
  obtain ⟨tm',σ',cs,p⟩:=q
  cases p <;> rfl
theorem regC_some (ops : List AOp) (L : Nat) (l : List (Nat×Nat)) (live : List Nat) (tm : Tms) (σ : AHeap) (cs : List Cls) (h : chkA ops L l cs=true) : regC ops L l live (some (tm,σ,cs,none))=some (.normal,keepL live tm,σ):=by
 simp only [regC,h,if_true]
theorem regC_none (ops : List AOp) (L : Nat) (l : List (Nat×Nat)) (live : List Nat) : regC ops L l live none=none:=rfl
theorem regC_ite (ops : List AOp) (L : Nat) (l : List (Nat×Nat)) (live : List Nat) (q : Prop) [Decidable q] (x y : Option (Tms×AHeap×List Cls×Option AVal)) : regC ops L l live (if q then x else y)=if q then regC ops L l live x else regC ops L l live y:=by split <;> rfl
theorem chk_quiet (ops : List AOp) (L : Nat) (l : List (Nat×Nat)) (cs : List Cls) (h : (cs.all fun c=>c.wr.isEmpty && !c.any)=true) (hs : (l.all fun p=>p.1 == p.2 || nsite (ops.getD p.1 default).ins == 0)=true) : chkA ops L l cs=true:=by
 have hd : ∀ i,noWr (cs.getD i {})=true:=by
  intro i
  rw [List.all_eq_true] at h
  rw [List.getD_eq_getElem?_getD]
  cases hi : cs[i]? with
  | none=>rfl
  | some c=>exact h c (List.mem_of_getElem? hi)
 unfold chkA
 rw [List.all_eq_true] at hs ⊢
 intro p hp
 have:=hs p hp
 rw [Bool.or_eq_true] at this ⊢
 rcases this with this | this
 ·exact Or.inl this
 ·refine Or.inr ?_
  unfold pairFree
  simp only [hd,this,Bool.and_true,Bool.true_and,Bool.true_or,Bool.or_true]
theorem regC_quiet (ops : List AOp) (L : Nat) (l : List (Nat×Nat)) (live : List Nat) (tm : Tms) (σ : AHeap) (cs : List Cls) (h : (cs.all fun c=>c.wr.isEmpty && !c.any)=true) (hs : (l.all fun p=>p.1 == p.2 || nsite (ops.getD p.1 default).ins == 0)=true) : regC ops L l live (some (tm,σ,cs,none))=some (.normal,keepL live tm,σ) :=
 regC_some _ _ _ _ _ _ _ (chk_quiet _ _ _ _ h hs)
variable (O byref) in
def gKC (os : List AOp) (s : Nat) : Option (Tms×AHeap×List Cls×Option AVal)→Option (Tms×AHeap×List Cls×Option AVal)
 | none=>none
 | some (tm,σ,cs,some x)=>some (tm,σ,cs,some x)
 | some (tm,σ,cs,none)=>appC cs (runOps O byref os s tm σ)
theorem gKC_some (os : List AOp) (s : Nat) (tm : Tms) (σ : AHeap) (cs : List Cls) : gKC O byref os s (some (tm,σ,cs,none))=appC cs (runOps O byref os s tm σ):=rfl
theorem gKC_ite (os : List AOp) (s : Nat) (q : Prop) [Decidable q] (x y : Option (Tms×AHeap×List Cls×Option AVal)) : gKC O byref os s (if q then x else y)=if q then gKC O byref os s x else gKC O byref os s y:=by split <;> rfl
theorem gKC_cons (os : List AOp) (s : Nat) (c : Cls) (r : Option (Tms×AHeap×List Cls×Option AVal)) : gKC O byref os s (consC c r)=consC c (gKC O byref os s r):=by
 cases r with
 | none=>rfl
 | some q =>
  obtain ⟨tm,σ,cs,p⟩:=q
  cases p with
  | some x=>rfl
  | none =>
   simp only [consC,gKC]
   cases runOps O byref os s tm σ <;> rfl
theorem C_append : ∀ (a b : List AOp) (s : Nat) (tm : Tms) (σ : AHeap),runOps O byref (a++b) s tm σ=gKC O byref b (s+sitesOf a) (runOps O byref a s tm σ)
 | [],b,s,tm,σ=>by
  simp only [List.nil_append,C_nil,gKC,sitesOf,List.map_nil,List.sum_nil,Nat.add_zero]
  cases runOps O byref b s tm σ <;> rfl
 | o::a,b,s,tm,σ=>by
  have ih:=C_append a b
  simp only [List.cons_append]
  have hs : s+nsite o.ins+sitesOf a=s+sitesOf (o::a):=by simp [sitesOf,Nat.add_assoc]
  cases hst : stepA O byref o s tm σ with
  | none=>rw [runOps_none hst,runOps_none hst];rfl
  | some q =>
   obtain ⟨v,tm1,σ1,c⟩:=q
   cases hp : isPan v with
   | true =>
    obtain ⟨x,rfl⟩:=isPan_true hp
    rw [runOps_pan hst,runOps_pan hst];rfl
   | false=>rw [C_step hst hp,C_step hst hp,ih,hs,gKC_cons]
variable (O byref) in
def gRunC (j : Nat) (w : Bool) (g : List AOp) (s : Nat) (tm : Tms) (σ : AHeap) : Option (Tms×AHeap×List Cls×Option AVal):=match wantedA (some (j,w)) tm with
 | none=>none
 | some false=>some (gSkip g tm,σ,g.map fun _=>{},none)
 | some true=>runOps O byref (g.map unG) s tm σ
theorem C_group (j : Nat) (w : Bool) : ∀ (g : List AOp),(∀ o ∈ g,o.guard=some (j,w)∧o.dst≠some j)→∀ (s : Nat) (tm : Tms) (σ : AHeap),g≠[]→runOps O byref g s tm σ=gRunC O byref j w g s tm σ
 | [],_,_,_,_,h=>absurd rfl h
 | o::g,hall,s,tm,σ,_=>by
  obtain ⟨hg,hd⟩:=hall o (by simp)
  have ih : ∀ (tm : Tms) (σ : AHeap) (s : Nat),wantedA (some (j,w)) tm≠none→runOps O byref g s tm σ=gRunC O byref j w g s tm σ:=by
   intro tm σ s hw
   by_cases he : g=[]
   ·subst he
    unfold gRunC
    cases hx : wantedA (some (j,w)) tm with
    | none=>exact absurd hx hw
    | some b=>cases b <;> rfl
   ·exact C_group j w g (fun o ho=>hall o (by simp [ho])) s tm σ he
  cases hx : wantedA (some (j,w)) tm with
  | none =>
   rw [runOps_none (by simp only [stepA,hg,hx])]
   simp only [gRunC,hx]
  | some b =>
   cases b with
   | false =>
    have h1 : runOps O byref (o::g) s tm σ=consC {} (runOps O byref g (s+nsite o.ins) (tput tm o.dst (.tup [])) σ) :=
     C_step (v:=.tup []) (c:={}) (by simp only [stepA,hg,hx]) rfl
    rw [h1,ih _ _ _ (by rw [wanted_put hd,hx];simp)]
    unfold gRunC
    rw [wanted_put hd,hx]
    rfl
   | true =>
    have key : ∀ r : Option (AVal×AHeap×Cls),(∀ v σ' c,r=some (v,σ',c)→isPan v=false→runOps O byref g (s+nsite o.ins) (tput tm o.dst v) σ'=runOps O byref (g.map unG) (s+nsite o.ins) (tput tm o.dst v) σ')→kC O byref o.dst g (s+nsite o.ins) tm r=kC O byref o.dst (g.map unG) (s+nsite o.ins) tm r:=by
     intro r hr
     cases r with
     | none=>rfl
     | some q =>
      obtain ⟨v,σ',c⟩:=q
      cases hp : isPan v with
      | true=>simp only [kC,hp,if_true]
      | false=>rw [kC_some _ _ _ _ _ _ _ hp,kC_some _ _ _ _ _ _ _ hp,hr v σ' c rfl hp]
    have h1 : runOps O byref (o::g) s tm σ=kC O byref o.dst g (s+nsite o.ins) tm (exI O byref o.ins s tm σ):=by
     have h0 : runOps O byref (o::g) s tm σ=runOps O byref (⟨o.dst,o.ins,none,o.after⟩::g) s tm σ:=by
      have hst : stepA O byref o s tm σ=stepA O byref ⟨o.dst,o.ins,none,o.after⟩ s tm σ:=by
       unfold stepA
       simp only [hg,hx]
       rfl
      simp only [runOps,hst]
     rw [h0,C_cons]
    rw [h1]
    unfold gRunC
    rw [hx]
    simp only [List.map_cons]
    rw [show unG o=⟨o.dst,o.ins,none,o.after⟩ from rfl,C_cons]
    refine key _ fun v σ' c _ _=>?_
    rw [ih _ _ _ (by rw [wanted_put hd,hx];simp)]
    unfold gRunC
    rw [wanted_put hd,hx]
theorem C_guard (d : Option Nat) (i : Ins) (j : Nat) (w : Bool) (af : List Nat) (os : List AOp) (s : Nat) (tm : Tms) (σ : AHeap) (hd : decide (d=some j)=false) :
  runOps O byref (⟨d,i,some (j,w),af⟩::os) s tm σ=gKC O byref (gSpan j w os).2 (s+sitesOf (⟨d,i,some (j,w),af⟩::(gSpan j w os).1)) (gRunC O byref j w (⟨d,i,some (j,w),af⟩::(gSpan j w os).1) s tm σ):=by
 have h:=gSpan_eq j w os
 have hall : ∀ o ∈ (⟨d,i,some (j,w),af⟩::(gSpan j w os).1 : List AOp),o.guard=some (j,w)∧o.dst≠some j:=by
  intro o ho
  rcases List.mem_cons.1 ho with rfl | ho
  ·exact ⟨rfl,by simpa using hd⟩
  ·exact gSpan_all j w os o ho
 rw [←C_group j w _ hall s tm σ (by simp),←C_append,List.cons_append,h]
variable (O byref) in
def gWC (w : Bool) (g : List AOp) (s : Nat) (tm : Tms) (σ : AHeap) : AVal→Option (Tms×AHeap×List Cls×Option AVal)
 | .bool b=>if b=w then runOps O byref (g.map unG) s tm σ else some (gSkip g tm,σ,g.map fun _=>{},none)
 | .tup []=>some (gSkip g tm,σ,g.map fun _=>{},none)
 | _=>none
theorem gRunC_eq (j : Nat) (w : Bool) (g : List AOp) (s : Nat) (tm : Tms) (σ : AHeap) : gRunC O byref j w g s tm σ=gWC O byref w g s tm σ (tget tm j):=by
 unfold gRunC wantedA
 simp only
 generalize tget tm j=v
 cases v
 case bool b=>cases b <;> cases w <;> rfl
 case tup vs=>cases vs <;> rfl
 all_goals rfl
theorem gWC_bool (w : Bool) (g : List AOp) (s : Nat) (tm : Tms) (σ : AHeap) (b : Bool) : gWC O byref w g s tm σ (.bool b)=if b=w then runOps O byref (g.map unG) s tm σ else some (gSkip g tm,σ,g.map fun _=>{},none):=rfl
theorem gWC_off (w : Bool) (g : List AOp) (s : Nat) (tm : Tms) (σ : AHeap) : gWC O byref w g s tm σ (.tup [])=some (gSkip g tm,σ,g.map fun _=>{},none):=rfl
theorem ite_exc (q : Prop) [Decidable q] (t1 t2 : Tms) (σ1 σ2 : AHeap) (cs : List Cls) : (if q then some (t1,σ1,cs,(none : Option AVal)) else some (t2,σ2,cs,none))=some ((if q then t1 else t2),(if q then σ1 else σ2),cs,none):=by split <;> rfl
end
section
theorem gc_one {r : AVal} {cs : List AVal} {σ : AHeap} (hr : noRef r=true) (hc : noRefL cs=true) : gcA 1 [r] (.var cs::σ)=([r],[.var cs]):=by
 have e1:=(noRef_spec (rhoOf (.var cs::σ) 1 [0]) r hr)
 have e2:=(noRefL_spec (rhoOf (.var cs::σ) 1 [0]) cs hc)
 have h1 : gcIds 1 [r] (.var cs::σ)=[0]:=by
  have : refsL [r]=[]:=by simp only [refsL,e1.2,List.append_nil]
  simp only [gcIds,this,List.range_one,List.flatMap_cons,List.flatMap_nil,List.append_nil,List.getD_cons_zero,refsB,e2.2]
  rfl
 simp only [gcA,h1,renL,e1.1,heapOf,List.getD_cons_zero,renB,e2.1]
theorem out_one {r : AVal} {cs : List AVal} {σ : AHeap} (hr : noRef r=true) (hc : noRefL cs=true) : outA 1 (.var cs::σ) r=some (r,[.var cs]):=by
 simp only [outA,gc_one hr hc]
theorem reach_one {σ : AHeap} {t : Nat} {cs : List AVal} (hs : σ[t]?=some (.var cs)) (hc : noRefL cs=true) : reach σ 1000 [t] []=[t]:=by
 have hd : σ.getD t .free=.var cs:=by simp [List.getD_eq_getElem?_getD,hs]
 have e2:=(noRefL_spec (fun _ _=>none) cs hc).2
 show reach σ (999+1) [t] []=[t]
 simp only [reach,List.contains_nil,Bool.false_eq_true,if_false,hd,refsB,e2,List.nil_append]
end
end Go.Proofs.YtmlkhhidifjjfaaDoor
namespace Go.Proofs.YtmlkhhidifjjfaaDoor
section
variable (c : Prop) [Decidable c]
theorem ite_exn (t1 t2 : Tms) (σ1 σ2 : AHeap) : (if c then some (AExit.normal,t1,σ1) else some (AExit.normal,t2,σ2))=some (AExit.normal,(if c then t1 else t2),(if c then σ1 else σ2)):=by split <;> rfl
theorem ite_exr (t1 t2 : Tms) (σ1 σ2 : AHeap) : (if c then some (AExit.ret,t1,σ1) else some (AExit.ret,t2,σ2))=some (AExit.ret,(if c then t1 else t2),(if c then σ1 else σ2)):=by split <;> rfl
theorem ite_exg (t1 t2 : Tms) (σ1 σ2 : AHeap) : (if c then some (t1,σ1,(none : Option AVal)) else some (t2,σ2,none))=some ((if c then t1 else t2),(if c then σ1 else σ2),none):=by split <;> rfl
theorem ite_slot (n : Nat) (a b : AVal) : (if c then (n,a) else (n,b))=(n,if c then a else b):=by split <;> rfl
theorem ite_val (a b : AVal) (σ1 σ2 : AHeap) : (if c then some (a,σ1) else some (b,σ2))=some ((if c then a else b),(if c then σ1 else σ2)):=by split <;> rfl
theorem ite_vcl (a b : AVal) (σ1 σ2 : AHeap) (x y : Cls) : (if c then some (a,σ1,x) else some (b,σ2,y))=some ((if c then a else b),(if c then σ1 else σ2),if c then x else y):=by split <;> rfl
end
theorem ite_tf {α : Type} (p : Bool) (x y z : α) : (if p=true then x else (if p=false then y else z))=if p=true then x else y:=by cases p <;> rfl
theorem chkA_nil (ops : List AOp) (b : Nat) (cs : List Cls) : chkA ops b [] cs=true:=rfl
theorem chkA_cons (ops : List AOp) (b : Nat) (p : Nat×Nat) (l : List (Nat×Nat)) (cs : List Cls) : chkA ops b (p::l) cs=((p.1 == p.2 || pairFree (ops.getD p.1 default) (ops.getD p.2 default) (cs.getD p.1 {}) (cs.getD p.2 {}) (b+sitesOf (ops.take p.1))) && chkA ops b l cs):=by
 simp only [chkA,List.all_cons]
theorem pairFree_eq (oj oi : AOp) (cj ci : Cls) (sj : Nat) : pairFree oj oi cj ci sj=(emptyOp oj cj || emptyOp oi ci || (noWr cj && noWr ci && (nsite oj.ins == 0 || !ci.rd.contains sj)) || (isCallI oj.ins && (noWr ci && ci.rd.isEmpty)) || (isLdI oj.ins && isCallI oi.ins && ci.any && gotOk cj ci) || (isLdI oj.ins && isAppI oi.ins && gotOk cj ci)):=rfl
theorem emptyOp_eq (o : AOp) (rd wr : List Nat) (any : Bool) (got : List (Nat×Option Nat×Nat×AVal)) (upd : List (Nat×List AVal)) : emptyOp o ⟨rd,wr,any,got,upd⟩=(nsite o.ins == 0 && rd.isEmpty && wr.isEmpty && !any):=rfl
theorem noWr_eq (rd wr : List Nat) (any : Bool) (got : List (Nat×Option Nat×Nat×AVal)) (upd : List (Nat×List AVal)) : noWr ⟨rd,wr,any,got,upd⟩=(wr.isEmpty && !any):=rfl
theorem drop_at {α : Type} {l : List α} {i : Nat} {x : α} {r : List α} (h : l.drop i=x::r) : l[i]?=some x∧l.drop (i+1)=r∧i < l.length:=by
 have h1 : i < l.length:=by
  rcases Nat.lt_or_ge i l.length with h1 | h1
  ·exact h1
  ·rw [List.drop_eq_nil_of_le h1] at h;cases h
 rw [List.drop_eq_getElem_cons h1] at h
 injection h with h2 h3
 exact ⟨by rw [List.getElem?_eq_getElem h1,h2],h3,h1⟩
theorem drop_nil {α : Type} {l : List α} {i : Nat} (h : l.drop i=[]) : ¬(i : Int) < l.length:=by
 have:=List.drop_eq_nil_iff.1 h;omega
theorem iad {α : Type} {l : List α} {i : Nat} {x : α} (h : l[i]?=some x) (f : α→AVal) {k : Nat} (hk : (f x).cells.length=k) (σ : AHeap) (n : Bool) (kk : IntKind) : iaddrA σ k (.lst n (l.map f)) (.int kk (i : Int))=some (.iptr (f x).cells 0,σ,{}):=by
 have h0 : (0 : Int)≤(i : Int):=Int.natCast_nonneg i
 unfold iaddrA
 simp only [h0,if_true,Int.toNat_natCast,List.getElem?_map,h,Option.map_some,hk]
theorem wrap_nat {n : Int} (h0 : -9223372036854775808≤n) (h : n≤9223372036854775807) : IntKind.i64.wrap n=n:=by
 rw [IntKind.wrap_i64];omega
theorem len_eq {α β : Type} {a : List α} {b : List β} (h : a.length=b.length) : ((a.length : Int) != (b.length : Int))=false:=by simp [h]
theorem len_ne {α β : Type} {a : List α} {b : List β} (h : a.length≠b.length) : ((a.length : Int) != (b.length : Int))=true:=by
 simp only [bne_iff_ne,ne_eq];omega
theorem beq_len {α : Type} [BEq α] [LawfulBEq α] {a b : List α} (h : a.length≠b.length) : (a == b)=false:=by
 simp only [beq_eq_false_iff_ne,ne_eq];rintro rfl;exact h rfl
theorem wrap_succ {i n : Nat} (h : (i : Int) < n) (hn : n≤9223372036854775807) : IntKind.i64.wrap ((i : Int)+1)=((i+1 : Nat) : Int):=by
 rw [wrap_nat (by omega) (by omega)];rfl
theorem call_flat {O : Oracle} {byref : Nat→Bool} {f : Nat} {args : List AVal} {r : AVal} (h : O f args []=some (r,[])) (hb : byref f=false) (hp : args.all plainV=true) (hn : args.map normV=args) (hv : resV 0 (some (r,[]))=some (r,[])) (hr : ∀ site,renV (rhoBack [] [] site) r=r) (σ : AHeap) (site own : Nat) (view : Bool) : callG O byref σ site f own view args=some (r,σ,{}):=by
 rw [callG_plain hb hp,hn,h]
 have : askO view 0 (some (r,[]))=some (r,[]):=by
  unfold askO
  split
  ·exact hv
  ·rfl
 rw [this,backG_plain _ _ _ _ (hr site)]
theorem slice_hi {α : Type} (σ : AHeap) (k : Nat) (l : List α) (f : α→AVal) (kk : IntKind) (n : Int) (h0 : 0≤n) (h : n≤(l.length : Int)) : sliceA σ k (.lst false (l.map f)) none (some (.int kk n)) none=some (.lst false ((l.take n.toNat).map f),σ,{}):=by
 simp only [sliceA,optB,boundA,List.length_map,h0,h,and_self,if_true,beq_self_eq_true,Bool.true_or,Option.isSome_none,Bool.false_eq_true,if_false,Bool.false_and,List.drop_zero,List.map_take]
abbrev Bytes:=List UInt8
def bytesV (b : Bytes) : AVal:=.lst false (b.map byteV)
structure PropD where
 id : Int
 num : Int
 text : Bytes
 pair : Bytes
 data : Bytes
 deriving DecidableEq
def propC (p : PropD) : List AVal:=[.int .i64 p.id,.int .i64 p.num,.str p.text,.str p.pair,bytesV p.data]
def propV (p : PropD) : AVal:=.agg (propC p)
def propsV (l : List PropD) : AVal:=.lst false (l.map propV)
theorem bytesOf_map (l : Bytes) : bytesOf (l.map byteV)=some l:=by
 induction l with
 | nil=>rfl
 | cons b l ih =>
  simp only [List.map_cons,bytesOf,ih,byteV,byteOf,Int.toNat_natCast,UInt8.ofNat_toNat]
end Go.Proofs.YtmlkhhidifjjfaaDoor
namespace Go.Proofs.YtmlkhhidifjjfaaDoor
def beB : Nat→Nat→Bytes
 | _,0=>[]
 | n,w+1=>beB (n / 256) w++[UInt8.ofNat (n % 256)]
theorem beB_len : ∀ (w n : Nat),(beB n w).length=w
 | 0,_=>rfl
 | w+1,n=>by simp [beB,beB_len w]
def getA (x : Nat) (b : Bytes) : Nat:=b.foldl (fun x c=>(x*256+c.toNat) % 18446744073709551616) x
def getU (b : Bytes) : Nat:=getA 0 b
theorem getA_cons (x : Nat) (c : UInt8) (b : Bytes) : getA x (c::b)=getA ((x*256+c.toNat) % 18446744073709551616) b:=rfl
theorem getA_nil (x : Nat) : getA x []=x:=rfl
def varL : Nat→Nat→Bytes
 | 0,n=>[UInt8.ofNat n]
 | k+1,n=>if n < 128 then [UInt8.ofNat n] else UInt8.ofNat (n % 128+128)::varL k (n / 128)
def varF (n : Int) : Bytes×Int:=if n < 0∨n > 268435455 then ([],10) else (varL 3 n.toNat,0)
def gvA (i n : Nat) : Bytes→Nat×Nat×Int
 | []=>if i < 4 then (0,0,11) else (0,0,12)
 | c::r=>if i=4 then (0,0,12) else if c.toNat < 128 then (if c=0∧0 < i then (0,0,12) else (n+c.toNat % 128*128 ^ i,i+1,0)) else gvA (i+1) (n+c.toNat % 128*128 ^ i) r
def getVarF (b : Bytes) : Nat×Nat×Int:=gvA 0 0 b
def dataF (b : Bytes) : Bytes×Int:=if b.length > 65535 then ([],10) else (beB b.length 2++b,0)
def getDataF (b : Bytes) : Bytes×Nat×Int :=
 if b.length < 2∨b.length - 2 < getU (b.take 2) then ([],0,11) else ((b.drop 2).take (getU (b.take 2)),2+getU (b.take 2),0)
end Go.Proofs.YtmlkhhidifjjfaaDoor
namespace Go.Proofs.YtmlkhhidifjjfaaDoor
def EVS0:=(And.intro (And.intro (And.intro (And.intro (And.intro (And.intro @x_seq @x_cond) (And.intro @evC_block @evC_region)) (And.intro (And.intro @evC_skip @evC_exit) (And.intro @evC_ret @reg_none))) (And.intro (And.intro (And.intro @runN_nil @runN_cons) (And.intro @runN_guard @kN_some)) (And.intro (And.intro @kN_pan @kN_none) (And.intro @isPan_ite @seqX_n)))) (And.intro (And.intro (And.intro (And.intro @seqX_e @seqX_r) (And.intro @seqX_p @condX_b)) (And.intro (And.intro @block_n @block_e) (And.intro @block_r @block_p))) (And.intro (And.intro (And.intro @pickX_b @gRun_eq) (And.intro @gW_bool @gW_off)) (And.intro (And.intro @gK_some @bytesOf_map) (And.intro @ite_exn @ite_exr))))) (And.intro (And.intro (And.intro (And.intro (And.intro @ite_exg @ite_slot) (And.intro @ite_val @ite_vcl)) (And.intro (And.intro @seqX_ite @block_ite) (And.intro @fin_ite @evM_ite))) (And.intro (And.intro (And.intro @evM_e @evM_r) (And.intro @evM_p @reg_some)) (And.intro (And.intro @C_nil @C_cons) (And.intro @C_guard @consC_some)))) (And.intro (And.intro (And.intro (And.intro @consC_none @consC_ite) (And.intro @appC_some @appC_none)) (And.intro (And.intro @appC_ite @kC_some) (And.intro @kC_pan @kC_none))) (And.intro (And.intro (And.intro @kC_ite @regC_quiet) (And.intro @regC_none @regC_ite)) (And.intro (And.intro @gKC_some @gKC_ite) (And.intro @gRunC_eq @gWC_bool))))))
def EVS1:=(And.intro (And.intro (And.intro (And.intro (And.intro (And.intro @gWC_off @ite_exc) (And.intro @blockA_n @blockA_e)) (And.intro (And.intro @blockA_r @blockA_p) (And.intro @chkA_nil @chkA_cons))) (And.intro (And.intro (And.intro @pairFree_eq @emptyOp_eq) (And.intro @noWr_eq @regC_some)) (And.intro (And.intro @ite_int @ite_bool) (And.intro @ite_str @ite_lst)))) (And.intro (And.intro (And.intro (And.intro @ite_agg @ite_var) (And.intro @ite_row @ite_ref)) (And.intro (And.intro @out_tree @fin_ret) (And.intro @fin_normal @fin_panic))) (And.intro (And.intro (And.intro @s_isPan_top @s_isPan_any) (And.intro @s_isPan_int @s_isPan_bool)) (And.intro (And.intro @s_isPan_str @s_isPan_nilp) (And.intro @s_isPan_ref @s_isPan_eref))))) (And.intro (And.intro (And.intro (And.intro (And.intro @s_isPan_iptr @s_isPan_lst) (And.intro @s_isPan_sl @s_isPan_agg)) (And.intro (And.intro @s_isPan_tup @s_isPan_fn) (And.intro @s_isPan_nilm @s_isPan_map))) (And.intro (And.intro (And.intro @s_isPan_nili @s_isPan_iface) (And.intro @s_isPan_pan @s_okCell_top)) (And.intro (And.intro @s_okCell_any @s_okCell_int) (And.intro @s_okCell_bool @s_okCell_str)))) (And.intro (And.intro (And.intro (And.intro @s_okCell_nilp @s_okCell_ref) (And.intro @s_okCell_eref @s_okCell_iptr)) (And.intro (And.intro @s_okCell_lst @s_okCell_sl) (And.intro @s_okCell_agg @s_okCell_tup))) (And.intro (And.intro (And.intro @s_okCell_fn @s_okCell_nilm) (And.intro @s_okCell_map @s_okCell_nili)) (And.intro (And.intro @s_okCell_iface @s_okCell_pan) (And.intro @s_ntop_top @s_ntop_any))))))
def EVS2:=(And.intro (And.intro (And.intro (And.intro (And.intro (And.intro @s_ntop_int @s_ntop_bool) (And.intro @s_ntop_str @s_ntop_nilp)) (And.intro (And.intro @s_ntop_ref @s_ntop_eref) (And.intro @s_ntop_iptr @s_ntop_lst))) (And.intro (And.intro (And.intro @s_ntop_sl @s_ntop_agg) (And.intro @s_ntop_tup @s_ntop_fn)) (And.intro (And.intro @s_ntop_nilm @s_ntop_map) (And.intro @s_ntop_nili @s_ntop_iface)))) (And.intro (And.intro (And.intro (And.intro @s_ntop_pan @s_flat1_top) (And.intro @s_flat1_any @s_flat1_int)) (And.intro (And.intro @s_flat1_bool @s_flat1_str) (And.intro @s_flat1_nilp @s_flat1_ref))) (And.intro (And.intro (And.intro @s_flat1_eref @s_flat1_iptr) (And.intro @s_flat1_lst @s_flat1_sl)) (And.intro (And.intro @s_flat1_agg @s_flat1_tup) (And.intro @s_flat1_fn @s_flat1_nilm))))) (And.intro (And.intro (And.intro (And.intro (And.intro @s_flat1_map @s_flat1_nili) (And.intro @s_flat1_iface @s_flat1_pan)) (And.intro (And.intro @s_flat2_top @s_flat2_any) (And.intro @s_flat2_int @s_flat2_bool))) (And.intro (And.intro (And.intro @s_flat2_str @s_flat2_nilp) (And.intro @s_flat2_ref @s_flat2_eref)) (And.intro (And.intro @s_flat2_iptr @s_flat2_lst) (And.intro @s_flat2_sl @s_flat2_agg)))) (And.intro (And.intro (And.intro (And.intro @s_flat2_tup @s_flat2_fn) (And.intro @s_flat2_nilm @s_flat2_map)) (And.intro (And.intro @s_flat2_nili @s_flat2_iface) (And.intro @s_flat2_pan @s_flatA_top))) (And.intro (And.intro (And.intro @s_flatA_any @s_flatA_int) (And.intro @s_flatA_bool @s_flatA_str)) (And.intro (And.intro @s_flatA_nilp @s_flatA_ref) (And.intro @s_flatA_eref @s_flatA_iptr))))))
def EVS3:=(And.intro (And.intro (And.intro (And.intro (And.intro (And.intro @s_flatA_lst @s_flatA_sl) (And.intro @s_flatA_agg @s_flatA_tup)) (And.intro (And.intro @s_flatA_fn @s_flatA_nilm) (And.intro @s_flatA_map @s_flatA_nili))) (And.intro (And.intro (And.intro @s_flatA_iface @s_plain1_top) (And.intro @s_plain1_any @s_plain1_int)) (And.intro (And.intro @s_plain1_bool @s_plain1_str) (And.intro @s_plain1_nilp @s_plain1_ref)))) (And.intro (And.intro (And.intro (And.intro @s_plain1_eref @s_plain1_iptr) (And.intro @s_plain1_lst @s_plain1_sl)) (And.intro (And.intro @s_plain1_agg @s_plain1_tup) (And.intro @s_plain1_nilm @s_plain1_map))) (And.intro (And.intro (And.intro @s_plain1_nili @s_plain1_iface) (And.intro @s_plain1_pan @s_plainV_top)) (And.intro (And.intro @s_plainV_any @s_plainV_int) (And.intro @s_plainV_bool @s_plainV_str))))) (And.intro (And.intro (And.intro (And.intro (And.intro @s_plainV_nilp @s_plainV_ref) (And.intro @s_plainV_eref @s_plainV_iptr)) (And.intro (And.intro @s_plainV_lst @s_plainV_sl) (And.intro @s_plainV_agg @s_plainV_tup))) (And.intro (And.intro (And.intro @s_plainV_nilm @s_plainV_map) (And.intro @s_plainV_nili @s_plainV_iface)) (And.intro (And.intro @s_plainV_pan @s_norm1_top) (And.intro @s_norm1_any @s_norm1_int)))) (And.intro (And.intro (And.intro (And.intro @s_norm1_bool @s_norm1_str) (And.intro @s_norm1_nilp @s_norm1_ref)) (And.intro (And.intro @s_norm1_eref @s_norm1_iptr) (And.intro @s_norm1_lst @s_norm1_sl))) (And.intro (And.intro (And.intro @s_norm1_agg @s_norm1_tup) (And.intro @s_norm1_fn @s_norm1_nilm)) (And.intro (And.intro @s_norm1_map @s_norm1_nili) (And.intro @s_norm1_iface @s_norm1_pan))))))
def EVS4:=(And.intro (And.intro (And.intro (And.intro (And.intro (And.intro @s_normV_top @s_normV_any) (And.intro @s_normV_int @s_normV_bool)) (And.intro (And.intro @s_normV_str @s_normV_nilp) (And.intro @s_normV_ref @s_normV_eref))) (And.intro (And.intro (And.intro @s_normV_iptr @s_normV_lst) (And.intro @s_normV_sl @s_normV_agg)) (And.intro (And.intro @s_normV_tup @s_normV_fn) (And.intro @s_normV_nilm @s_normV_map)))) (And.intro (And.intro (And.intro (And.intro @s_normV_nili @s_normV_iface) (And.intro @s_normV_pan @s_cells_top)) (And.intro (And.intro @s_cells_any @s_cells_int) (And.intro @s_cells_bool @s_cells_str))) (And.intro (And.intro (And.intro @s_cells_nilp @s_cells_ref) (And.intro @s_cells_eref @s_cells_iptr)) (And.intro (And.intro @s_cells_lst @s_cells_sl) (And.intro @s_cells_agg @s_cells_tup))))) (And.intro (And.intro (And.intro (And.intro (And.intro @s_cells_fn @s_cells_nilm) (And.intro @s_cells_map @s_cells_nili)) (And.intro (And.intro @s_cells_iface @s_cells_pan) (And.intro @s_valOf_top @s_valOf_any))) (And.intro (And.intro (And.intro @s_valOf_int @s_valOf_bool) (And.intro @s_valOf_str @s_valOf_nilp)) (And.intro (And.intro @s_valOf_ref @s_valOf_eref) (And.intro @s_valOf_iptr @s_valOf_lst)))) (And.intro (And.intro (And.intro (And.intro @s_valOf_sl @s_valOf_agg) (And.intro @s_valOf_tup @s_valOf_fn)) (And.intro (And.intro @s_valOf_nilm @s_valOf_map) (And.intro @s_valOf_nili @s_valOf_iface))) (And.intro (And.intro (And.intro @s_valOf_pan @s_kindA_top) (And.intro @s_kindA_any @s_kindA_int)) (And.intro (And.intro @s_kindA_bool @s_kindA_str) (And.intro @s_kindA_nilp @s_kindA_ref))))))
def EVS5:=(And.intro (And.intro (And.intro (And.intro (And.intro (And.intro @s_kindA_eref @s_kindA_iptr) (And.intro @s_kindA_lst @s_kindA_sl)) (And.intro (And.intro @s_kindA_agg @s_kindA_tup) (And.intro @s_kindA_fn @s_kindA_nilm))) (And.intro (And.intro (And.intro @s_kindA_map @s_kindA_nili) (And.intro @s_kindA_iface @s_kindA_pan)) (And.intro (And.intro @s_refsV_top @s_refsV_any) (And.intro @s_refsV_int @s_refsV_bool)))) (And.intro (And.intro (And.intro (And.intro @s_refsV_str @s_refsV_nilp) (And.intro @s_refsV_ref @s_refsV_eref)) (And.intro (And.intro @s_refsV_iptr @s_refsV_lst) (And.intro @s_refsV_sl @s_refsV_agg))) (And.intro (And.intro (And.intro @s_refsV_tup @s_refsV_fn) (And.intro @s_refsV_nilm @s_refsV_map)) (And.intro (And.intro @s_refsV_nili @s_refsV_iface) (And.intro @s_refsV_pan @s_renV_top))))) (And.intro (And.intro (And.intro (And.intro (And.intro @s_renV_any @s_renV_int) (And.intro @s_renV_bool @s_renV_str)) (And.intro (And.intro @s_renV_nilp @s_renV_iptr) (And.intro @s_renV_lst @s_renV_agg))) (And.intro (And.intro (And.intro @s_renV_tup @s_renV_fn) (And.intro @s_renV_nilm @s_renV_nili)) (And.intro (And.intro @s_renV_iface @s_renV_pan) (And.intro @s_plain1_fn @s_plainV_fn)))) (And.intro (And.intro (And.intro (And.intro @s_flatA_pan @s_regN_some) (And.intro @s_regN_pan @s_regN_none)) (And.intro (And.intro @s_renV_ref @s_renV_map) (And.intro @s_renV_sl @s_renV_eref))) (And.intro (And.intro (And.intro @s_refsL_nil @s_refsL_cons) (And.intro @s_renL_nil @s_renL_cons)) (And.intro (And.intro @s_noRef_top @s_noRef_any) (And.intro @s_noRef_int @s_noRef_bool))))))
def EVS6:=(And.intro (And.intro (And.intro (And.intro (And.intro (And.intro @s_noRef_str @s_noRef_nilp) (And.intro @s_noRef_ref @s_noRef_eref)) (And.intro (And.intro @s_noRef_iptr @s_noRef_lst) (And.intro @s_noRef_sl @s_noRef_agg))) (And.intro (And.intro (And.intro @s_noRef_tup @s_noRef_fn) (And.intro @s_noRef_nilm @s_noRef_map)) (And.intro (And.intro @s_noRef_nili @s_noRef_iface) (And.intro @s_noRef_pan @s_nofn1_top)))) (And.intro (And.intro (And.intro (And.intro @s_nofn1_any @s_nofn1_int) (And.intro @s_nofn1_bool @s_nofn1_str)) (And.intro (And.intro @s_nofn1_nilp @s_nofn1_ref) (And.intro @s_nofn1_eref @s_nofn1_iptr))) (And.intro (And.intro (And.intro @s_nofn1_lst @s_nofn1_sl) (And.intro @s_nofn1_agg @s_nofn1_tup)) (And.intro (And.intro @s_nofn1_fn @s_nofn1_nilm) (And.intro @s_nofn1_map @s_nofn1_nili))))) (And.intro (And.intro (And.intro (And.intro (And.intro @s_nofn1_iface @s_nofn1_pan) (And.intro @s_nofnV_top @s_nofnV_any)) (And.intro (And.intro @s_nofnV_int @s_nofnV_bool) (And.intro @s_nofnV_str @s_nofnV_nilp))) (And.intro (And.intro (And.intro @s_nofnV_ref @s_nofnV_eref) (And.intro @s_nofnV_iptr @s_nofnV_lst)) (And.intro (And.intro @s_nofnV_sl @s_nofnV_agg) (And.intro @s_nofnV_tup @s_nofnV_fn)))) (And.intro (And.intro (And.intro (And.intro @s_nofnV_nilm @s_nofnV_map) (And.intro @s_nofnV_nili @s_nofnV_iface)) (And.intro (And.intro @s_nofnV_pan @s_nofnR_top) (And.intro @s_nofnR_any @s_nofnR_int))) (And.intro (And.intro (And.intro @s_nofnR_bool @s_nofnR_str) (And.intro @s_nofnR_nilp @s_nofnR_ref)) (And.intro (And.intro @s_nofnR_eref @s_nofnR_iptr) (And.intro @s_nofnR_lst @s_nofnR_sl))))))
def EVS7:=(And.intro (And.intro (And.intro (And.intro (And.intro @s_nofnR_agg (And.intro @s_nofnR_tup @s_nofnR_fn)) (And.intro (And.intro @s_nofnR_nilm @s_nofnR_map) (And.intro @s_nofnR_nili @s_nofnR_iface))) (And.intro (And.intro @s_nofnR_pan (And.intro @s_plainR_top @s_plainR_any)) (And.intro (And.intro @s_plainR_int @s_plainR_bool) (And.intro @s_plainR_str @s_plainR_nilp)))) (And.intro (And.intro (And.intro @s_plainR_ref (And.intro @s_plainR_eref @s_plainR_iptr)) (And.intro (And.intro @s_plainR_lst @s_plainR_sl) (And.intro @s_plainR_agg @s_plainR_tup))) (And.intro (And.intro (And.intro @s_plainR_nilm @s_plainR_map) (And.intro @s_plainR_nili @s_plainR_iface)) (And.intro (And.intro @s_plainR_pan @s_normR_top) (And.intro @s_normR_any @s_normR_int))))) (And.intro (And.intro (And.intro (And.intro @s_normR_bool (And.intro @s_normR_str @s_normR_nilp)) (And.intro (And.intro @s_normR_ref @s_normR_eref) (And.intro @s_normR_iptr @s_normR_lst))) (And.intro (And.intro (And.intro @s_normR_sl @s_normR_agg) (And.intro @s_normR_tup @s_normR_fn)) (And.intro (And.intro @s_normR_nilm @s_normR_map) (And.intro @s_normR_nili @s_normR_iface)))) (And.intro (And.intro (And.intro @s_normR_pan (And.intro @s_noRefL_nil @s_noRefL_cons)) (And.intro (And.intro @s_plainR_fn @s_if_and) (And.intro @s_if_or @s_if_nand))) (And.intro (And.intro (And.intro @s_if_nor @s_if_fand) (And.intro @s_if_for @s_if_fnand)) (And.intro (And.intro @s_if_fnor @out_one) (And.intro @evM_n @x_loop))))))
def EVL0:=(And.intro (And.intro (And.intro (And.intro (And.intro (And.intro @List.map_cons.{0,0} @List.map_nil.{0,0}) (And.intro @List.length_cons.{0} @List.length_nil.{0})) (And.intro (And.intro @List.replicate_zero.{0} @List.replicate_succ.{0}) (And.intro @List.append_nil.{0} @List.nil_append.{0}))) (And.intro (And.intro (And.intro @List.cons_append.{0} @List.getElem?_cons_zero.{0}) (And.intro @List.getElem?_cons_succ.{0} @List.set_cons_zero.{0})) (And.intro (And.intro @List.set_cons_succ.{0} @Nat.add_zero) (And.intro @Nat.zero_add @Bool.true_or)))) (And.intro (And.intro (And.intro (And.intro @Bool.false_or @Bool.or_true) (And.intro @Bool.or_false @Bool.and_true)) (And.intro (And.intro @Bool.true_and @Bool.and_self) (And.intro @Bool.and_false @Bool.false_and))) (And.intro (And.intro (And.intro @if_true.{1} @if_false.{1}) (And.intro @ite_true.{1} @ite_false.{1})) (And.intro (And.intro @Option.map_some.{0,0} @Option.map_none.{0,0}) (And.intro @and_self @and_true))))) (And.intro (And.intro (And.intro (And.intro (And.intro @true_and @and_false) (And.intro @false_and @true_or)) (And.intro (And.intro @or_true @false_or) (And.intro @or_false @not_true_eq_false))) (And.intro (And.intro (And.intro @not_false_eq_true @List.drop_zero.{0}) (And.intro @List.drop_succ_cons.{0} @List.take_succ_cons.{0})) (And.intro (And.intro @List.take_zero.{0} @List.all_cons.{0}) (And.intro @List.all_nil.{0} @List.isEmpty_nil.{0})))) (And.intro (And.intro (And.intro (And.intro @Bool.not_false @Bool.not_true) (And.intro @List.length_map.{0,0} @Bool.bne_false)) (And.intro (And.intro @Bool.bne_true @List.isEmpty_cons.{0}) (And.intro @List.getD_cons_zero.{0} @List.getD_cons_succ.{0}))) (And.intro (And.intro (And.intro @List.getD_nil.{0} @List.contains_nil.{0}) (And.intro @List.range_zero @List.flatMap_cons.{0,0})) (And.intro (And.intro @List.flatMap_nil.{0,0} @List.zip_cons_cons.{0,0}) (And.intro @List.zip_nil_left.{0,0} @List.zip_nil_right.{0,0}))))))
def EVL1:=@Nat.not_lt_zero
end Go.Proofs.YtmlkhhidifjjfaaDoor
namespace Go.Proofs.YtmlkhhidifjjfaaDoor
theorem callG_norm {O : Oracle} {byref : Nat→Bool} {σ : AHeap} {site f own : Nat} {view : Bool} {args : List AVal} (h : args.all plainV=true) (hm : args.map normV=args) :
  callG O byref σ site f own view args=backG σ σ [] [] site own (askO view 0 (O f args [])):=by
 cases hb : byref f
 ·rw [callG_plain hb h,hm]
 ·have hr:=normVs_refs h
  have hn:=fun ρ=>normVs_ren (ρ:=ρ) h
  rw [hm] at hr
  simp only [hm] at hn
  unfold callG showIf
  rw [hb]
  simp only [if_true]
  have h1 : freezeA σ []=σ:=rfl
  rw [h1,hr]
  have h2 : reach σ 1000 [] []=[]:=rfl
  rw [h2]
  unfold callI
  simp only [List.all_nil,if_true,hn,heapOf,List.length_nil]
theorem call_rown {O : Oracle} {byref : Nat→Bool} {f : Nat} {args : List AVal} {k n : Nat} {xs : List AVal} (h : O f args []=some (.sl 0 0 0 n,[.row 0 k xs])) (hn : xs.length=n) (hp : args.all plainV=true) (hm : args.map normV=args) (σ : AHeap) (site own : Nat) : callG O byref σ site f own true args=some (.lst false xs,σ,{}):=by
 rw [callG_norm hp hm,h]
 have : askO true 0 (some (.sl 0 0 0 n,[.row 0 k xs]))=some (.lst false xs,[]):=by
  unfold askO
  rw [if_pos rfl,resV_row (k:=k) (g:=0) (t:=0) (xs:=xs) rfl (by omega),List.take_of_length_le (by omega)]
 rw [this,backG_plain _ _ _ _ rfl]
theorem call_shown {O : Oracle} {byref : Nat→Bool} {σ : AHeap} {f : Nat} {args vs : List AVal} {ts : List Nat} {r r' : AVal} (hb : byref f=false) (hsh : showAs σ args=some (vs,ts)) (hp : vs.all plainV=true) (hm : vs.map normV=vs) (h : O f vs []=some (r,[])) (hv : resV 0 (some (r,[]))=some (r',[])) (site own : Nat) :
  callG O byref σ site f own true args=if flatA r' then some (r',σ,{ rd:=ts }) else if apartA σ ts r' then some (r',σ,{ rd:=ts }) else some (renV (rhoBack [] [] site) r',freezeA σ ts,{ rd:=ts,wr:=ts }):=by
 have hr:=normVs_refs hp
 have hn:=fun ρ=>normVs_ren (ρ:=ρ) hp
 rw [hm] at hr
 simp only [hm] at hn
 unfold callG showIf
 rw [hb]
 simp only [Bool.false_eq_true,if_false,hsh]
 rw [hr]
 have h2 : ∀ σ,reach σ 1000 [] []=[]:=fun _=>rfl
 rw [h2]
 unfold callI
 simp only [List.all_nil,if_true,hn,heapOf,List.length_nil,h]
 have : askO true 0 (some (r,[]))=some (r',[]):=by unfold askO;rw [if_pos rfl,hv]
 rw [this]
 simp only [backG,List.isEmpty_nil,Bool.and_self,if_true]
theorem call_shown_flat {O : Oracle} {byref : Nat→Bool} {σ : AHeap} {f : Nat} {args vs : List AVal} {ts : List Nat} {r r' : AVal} (hb : byref f=false) (hsh : showAs σ args=some (vs,ts)) (hp : vs.all plainV=true) (hm : vs.map normV=vs) (h : O f vs []=some (r,[])) (hv : resV 0 (some (r,[]))=some (r',[])) (hf : flatA r'=true) (site own : Nat) :
  callG O byref σ site f own true args=some (r',σ,{ rd:=ts }):=by
 rw [call_shown hb hsh hp hm h hv,if_pos hf]
theorem call_shown_bytes {O : Oracle} {byref : Nat→Bool} {σ : AHeap} {f : Nat} {args vs : List AVal} {ts : List Nat} {r r' : AVal} (hb : byref f=false) (hsh : showAs σ args=some (vs,ts)) (hp : vs.all plainV=true) (hm : vs.map normV=vs) (h : O f vs []=some (r,[])) (hv : resV 0 (some (r,[]))=some (r',[])) (hap : apartA σ ts r'=true) (site own : Nat) :
  callG O byref σ site f own true args=some (r',σ,{ rd:=ts }):=by
 rw [call_shown hb hsh hp hm h hv,if_pos hap]
 split <;> rfl
theorem call_normT {O : Oracle} {byref : Nat→Bool} {f : Nat} {args args' : List AVal} {r r' : AVal} (h : O f args' []=some (r,[])) (hb : byref f=false) (hp : args.all plainV=true) (hn : args.map normV=args') (hv : resV 0 (some (r,[]))=some (r',[])) (hr : ∀ site,renV (rhoBack [] [] site) r'=r') (σ : AHeap) (site own : Nat) : callG O byref σ site f own true args=some (r',σ,{}):=by
 rw [callG_plain hb hp,hn,h]
 have : askO true 0 (some (r,[]))=some (r',[]):=by
  unfold askO
  rw [if_pos rfl];exact hv
 rw [this,backG_plain _ _ _ _ (hr site)]
theorem out_row0 (k n : Nat) (xs : List AVal) (σ : AHeap) : outA 0 (.row 0 k xs::σ) (.sl 0 0 0 n)=some (.sl 0 0 0 n,[.row 0 k xs]):=by
 simp [outA,gcA,gcIds,reach,refsL,refsV,rhoOf,heapOf,idxA,genB,newGen,renL,renV,renB,refsB]
def growV : List AVal→AVal
 | []=>.lst true []
 | x::xs=>.sl 0 0 0 (x::xs).length
def growH (k : Nat) : List AVal→AHeap
 | []=>[]
 | x::xs=>[.row 0 k (x::xs)]
theorem growV_nil : growV []=.lst true []:=rfl
theorem growV_cons (x : AVal) (xs : List AVal) : growV (x::xs)=.sl 0 0 0 (x::xs).length:=rfl
theorem growH_nil (k : Nat) : growH k []=[]:=rfl
theorem growH_cons (k : Nat) (x : AVal) (xs : List AVal) : growH k (x::xs)=[.row 0 k (x::xs)]:=rfl
theorem kokB (l : Bytes) : kOk 1 (l.map byteV)=true:=by cases l <;> rfl
end Go.Proofs.YtmlkhhidifjjfaaDoor
namespace Go.Proofs.YtmlkhhidifjjfaaDoor
set_option maxHeartbeats 4000000
set_option maxRecDepth 10000
theorem byte_wrap (n : Nat) : IntKind.u8.wrap (n : Int)=((UInt8.ofNat (n % 256)).toNat : Int):=by
 rw [IntKind.wrap_u8,UInt8.toNat_ofNat']
 omega
theorem out_rowz (k n : Nat) (xs : List AVal) (σ : AHeap) : outA 0 (.row 0 k xs::σ) (.sl 0 0 0 n)=some (.sl 0 0 0 n,[.row 0 k xs]):=by
 simp [outA,gcA,gcIds,reach,refsL,refsV,rhoOf,heapOf,idxA,genB,newGen,renL,renV,renB,refsB]
theorem repz_at (m : Nat) (z : AVal) (t : List AVal) : (List.replicate (m+1) z++t)[m]?=some z:=by
 rw [List.getElem?_append_left (by simp)];simp
theorem repz_set (m : Nat) (z v : AVal) (t : List AVal) : (List.replicate (m+1) z++t).set m v=List.replicate m z++v::t:=by
 rw [List.replicate_succ',List.append_assoc,List.set_append_right _ _ (by simp)];simp
theorem q_putl (W : Nat) (hW : W≤8) : ∀ (m n : Nat) (tail : Bytes),m+tail.length=W→K_octet_Put_l5 0 [(6,.int .i64 ((m : Int) - 1)),(5,.sl 0 0 0 W),(0,.int .u64 (n : Nat))] [.row 0 1 (List.replicate m (.int .u8 0)++tail.map byteV)]=some (.sl 0 0 0 W,[.row 0 1 ((beB n m++tail).map byteV)])
 | 0,n,tail,h=>by
  have h1 : ¬(((0 : Nat) : Int) - 1≥0):=by omega
  unfold K_octet_Put_l5
  rw [evL_eq,beB]
  simp -implicitDefEqProofs only [EVS0,EVS1,EVS5,EVL0,eq_self,exI,nsite,freeAt,execI,Opd.ev,tget,tins,tput,keepL,sitesOf,List.sum_cons,List.sum_nil,Nat.reduceLT,Nat.reduceEqDiff,beq_self_eq_true,Bool.false_eq_true,binA,arithA,reduceCtorEq,decide_false,resA,resAll,resOne,↓reduceIte,cr_octet_Put,x_octet_Put_k0,d_octet_Put_k0,x_octet_Put_l5,d_octet_Put_l5,oI,oN,h1,out_rowz]
 | m+1,n,tail,h=>by
  have ih:=q_putl W hW m (n / 256) (UInt8.ofNat (n % 256)::tail) (by simp;omega)
  have e0 : ((m+1 : Nat) : Int) - 1=(m : Int):=by omega
  have h1 : (m : Int)≥0:=by omega
  have h2 : (0 : Int)≤(m : Int):=by omega
  have h3 : m < W:=by omega
  have hg:=repz_at m (.int .u8 0) (tail.map byteV)
  have hs:=repz_set m (.int .u8 0) (byteV (UInt8.ofNat (n % 256))) (tail.map byteV)
  have hb:=byte_wrap n
  have hw : IntKind.i64.wrap ((m : Int) - 1)=(m : Int) - 1:=wrap_nat (by omega) (by omega)
  have hd : (n : Int).fdiv (2 ^ min (Int.toNat 8) IntKind.u64.bits)=((n / 256 : Nat) : Int):=by
   rw [show (2 : Int) ^ min (Int.toNat 8) IntKind.u64.bits=256 from rfl,Int.fdiv_eq_ediv_of_nonneg _ (by decide)]
   omega
  have e1 : beB n (m+1)++tail=beB (n / 256) m++(UInt8.ofNat (n % 256)::tail):=by simp [beB]
  rw [e0,e1]
  have e2 : List.replicate m (AVal.int .u8 0)++(UInt8.ofNat (n % 256)::tail).map byteV=List.replicate m (.int .u8 0)++byteV (UInt8.ofNat (n % 256))::tail.map byteV:=rfl
  rw [e2] at ih
  generalize hX : List.replicate (m+1) (AVal.int .u8 0)++tail.map byteV=X at *
  generalize hY : List.replicate m (AVal.int .u8 0)++byteV (UInt8.ofNat (n % 256))::tail.map byteV=Y at *
  unfold byteV at hs
  unfold K_octet_Put_l5 at ih ⊢
  rw [evL_eq]
  simp -implicitDefEqProofs only [EVS0,EVS1,EVS5,EVS7,EVL0,EVL1,eq_self,exI,nsite,freeAt,execI,Opd.ev,tget,tins,tput,keepL,sitesOf,List.sum_cons,List.sum_nil,Nat.reduceLT,Nat.reduceEqDiff,beq_self_eq_true,Bool.false_eq_true,stA,binA,arithA,shiftA,ne_eq,reduceCtorEq,decide_true,↓reduceIte,gcT,gcA,gcIds,reach,rhoOf,heapOf,idxA,genB,newGen,renB,refsB,x_octet_Put_l5,d_octet_Put_l5,oI,oN,h1,h3,hg,hs,hb,hw,hd,iaddrA,Int.toNat_natCast,AVal.cells,viewsA,viewA1,putE,freezeA,Int.reduceLT]
  exact ih
theorem q_put (n W : Nat) (h1 : 1≤W) (hW : W≤8) : E 59 [.int .u64 (n : Nat),.int .i64 (W : Nat)] []=some (.sl 0 0 0 W,[.row 0 1 ((beB n W).map byteV)]):=by
 have key:=q_putl W hW W n [] (by simp)
 have c1 : ¬((W : Int) < 1):=by omega
 have c2 : ¬((W : Int) > 8):=by omega
 have c3 : (0 : Int)≤(W : Int):=by omega
 have c4 : (W : Int)≤9223372036854775807:=by omega
 have c5 : ((1 : Nat) : Int)*(W : Int)≤140737488355328:=by omega
 have w1 : IntKind.i64.wrap ((W : Int) - 1)=(W : Int) - 1:=wrap_nat (by omega) (by omega)
 simp only [List.map_nil,List.append_nil] at key
 rw [E_eq (by rfl) cf_octet_Put]
 unfold K_octet_Put_l5 at key
 simp -implicitDefEqProofs only [EVS0,EVS1,EVS4,EVS5,EVS7,EVL0,EVL1,eq_self,exI,nsite,freeAt,execI,Opd.ev,tget,tins,tput,keepL,sitesOf,List.sum_cons,List.sum_nil,Nat.reduceLT,Nat.reduceEqDiff,Nat.reduceBEq,beq_self_eq_true,Bool.false_eq_true,binA,arithA,gSpan,unG,ne_eq,Option.some.injEq,reduceCtorEq,decide_false,enterA,↓reduceIte,gcT,gcA,gcIds,reach,rhoOf,heapOf,idxA,genB,newGen,renB,refsB,cb_octet_Put,b_octet_Put,oI,c1,c2,c3,c4,c5,w1,Int.le_refl,Int.toNat_natCast]
 exact key
theorem q_putC (σ : AHeap) (site own : Nat) (n W : Nat) (h1 : 1≤W) (hW : W≤8) : callG E BY σ site 59 own true [.int .u64 (n : Nat),.int .i64 (W : Nat)]=some (.lst false ((beB n W).map byteV),σ,{}) :=
 call_rown (byref:=BY) (q_put n W h1 hW) (by simp [beB_len]) rfl rfl σ site own
theorem or_low (x c : Nat) (hc : c < 256) : IntKind.u64.wrap (((BitVec.ofInt IntKind.u64.bits (IntKind.u64.wrap ((x : Int)*2 ^ min (Int.toNat 8) IntKind.u64.bits)) ||| BitVec.ofInt IntKind.u64.bits (c : Int)).toNat : Nat) : Int)=(((x*256+c) % 18446744073709551616 : Nat) : Int):=by
 rw [show (2 : Int) ^ min (Int.toNat 8) IntKind.u64.bits=256 from rfl]
 have hb : IntKind.u64.bits=64:=rfl
 rw [hb,IntKind.wrap_u64,IntKind.wrap_u64]
 have e1 : (x : Int)*256 % 18446744073709551616=((x*256 % 18446744073709551616 : Nat) : Int):=by omega
 rw [e1,BitVec.toNat_or]
 simp only [BitVec.ofInt_natCast,BitVec.toNat_ofNat]
 have e2 : x*256 % 18446744073709551616 % 2 ^ 64=(x % 72057594037927936) <<< 8:=by
  rw [Nat.shiftLeft_eq];omega
 have e3 : c % 2 ^ 64=c:=by omega
 rw [e2,e3,←Nat.shiftLeft_add_eq_or_of_lt (by omega : c < 2 ^ 8),Nat.shiftLeft_eq]
 omega
theorem q_getl (b : Bytes) (hl : b.length≤9223372036854775807) : ∀ (r : Bytes) (i x : Nat),b.drop i=r→K_octet_Get_l3 0 [(8,.int .i64 i),(7,.int .i64 b.length),(6,.lst false (b.map byteV)),(3,.int .u64 (x : Nat))] []=some (.int .u64 (getA x r : Nat),[])
 | [],i,x,h=>by
  have h1:=drop_nil h
  unfold K_octet_Get_l3
  rw [evL_eq,getA_nil]
  simp -implicitDefEqProofs only [EVS0,EVS1,EVS5,EVL0,eq_self,exI,nsite,freeAt,execI,Opd.ev,tget,tins,tput,keepL,sitesOf,List.sum_cons,List.sum_nil,Nat.reduceLT,Nat.reduceEqDiff,beq_self_eq_true,Bool.false_eq_true,binA,arithA,decide_false,resA,resAll,resOne,↓reduceIte,cr_octet_Get,x_octet_Get_k0,d_octet_Get_k0,x_octet_Get_l3,d_octet_Get_l3,oI,h1]
 | c::r,i,x,h=>by
  have ih:=q_getl b hl r (i+1) ((x*256+c.toNat) % 18446744073709551616) (drop_at h).2.1
  have h1 : (i : Int) < b.length:=by have:=(drop_at h).2.2;omega
  have e1:=iad (drop_at h).1 byteV (k:=1) rfl
  have e3:=wrap_succ h1 hl
  have ho:=or_low x c.toNat c.toNat_lt
  have hc : IntKind.u64.wrap (c.toNat : Int)=(c.toNat : Int):=by rw [IntKind.wrap_u64];have:=c.toNat_lt;omega
  unfold K_octet_Get_l3 at ih ⊢
  rw [evL_eq,getA_cons]
  simp -implicitDefEqProofs only [EVS0,EVS1,EVS5,EVS7,EVL0,eq_self,exI,nsite,freeAt,execI,Opd.ev,tget,tins,tput,keepL,sitesOf,List.sum_cons,List.sum_nil,Nat.reduceLT,Nat.reduceEqDiff,beq_self_eq_true,ldA,partA,binA,arithA,shiftA,decide_true,↓reduceIte,gcT,gcA,gcIds,reach,heapOf,refsB,x_octet_Get_l3,d_octet_Get_l3,oI,h1,e1,e3,ho,hc,byteV,AVal.cells,Int.reduceLT]
  exact ih
theorem q_get (b : Bytes) (hl : b.length≤9223372036854775807) : E 108 [bytesV b] []=some (.int .u64 (getU b : Nat),[]):=by
 have key:=q_getl b hl b 0 0 rfl
 have z0 : ((0 : Nat) : Int)=0:=rfl
 rw [z0] at key
 unfold K_octet_Get_l3 at key
 unfold getU
 rw [E_eq (by rfl) cf_octet_Get]
 simp -implicitDefEqProofs only [EVS0,EVS1,EVS5,EVS7,EVL0,eq_self,exI,nsite,freeAt,execI,Opd.ev,tget,tins,tput,keepL,sitesOf,List.sum_cons,List.sum_nil,Nat.reduceLT,Nat.reduceEqDiff,beq_self_eq_true,reduceCtorEq,enterA,↓reduceIte,gcT,gcA,gcIds,reach,heapOf,refsB,cb_octet_Get,b_octet_Get,oI,bytesV]
 exact key
theorem q_getC (σ : AHeap) (site own : Nat) (b : Bytes) (hl : b.length≤9223372036854775807) (f : Bool) : callG E BY σ site 108 own true [.lst f (b.map byteV)]=some (.int .u64 (getU b : Nat),σ,{}) :=
 call_normT (q_get b hl) (by kernel_rfl) rfl rfl rfl (fun _=>rfl) _ _ _
end Go.Proofs.YtmlkhhidifjjfaaDoor
namespace Go.Proofs.YtmlkhhidifjjfaaDoor
set_option maxHeartbeats 8000000
set_option maxRecDepth 10000
theorem q_joinl (ls : List Bytes) (hl : ls.length≤9223372036854775807) : ∀ (r : List Bytes) (i : Nat) (acc full : Bytes),ls.drop i=r→full=acc++r.flatten→full.length≤140737488355328 →
  K_octet_Join_l3 0 [(8,.int .i64 i),(7,.int .i64 ls.length),(6,.lst false (ls.map bytesV)),(3,.sl 0 0 0 acc.length)] [.row 0 1 (acc.map byteV)]=some (.sl 0 0 0 full.length,[.row 0 1 (full.map byteV)])
 | [],i,acc,full,h,hf,hn=>by
  have h1:=drop_nil h
  have e : full=acc:=by simpa using hf
  subst e
  unfold K_octet_Join_l3
  rw [evL_eq]
  simp -implicitDefEqProofs only [EVS0,EVS1,EVS5,EVL0,eq_self,exI,nsite,freeAt,execI,Opd.ev,tget,tins,tput,keepL,sitesOf,List.sum_cons,List.sum_nil,Nat.reduceLT,Nat.reduceEqDiff,beq_self_eq_true,Bool.false_eq_true,binA,arithA,decide_false,resA,resAll,resOne,↓reduceIte,cr_octet_Join,x_octet_Join_k0,d_octet_Join_k0,x_octet_Join_l3,d_octet_Join_l3,oI,h1,out_row0]
 | p::r,i,acc,full,h,hf,hn=>by
  have ih:=q_joinl ls hl r (i+1) (acc++p) full (drop_at h).2.1 (by rw [hf];simp) hn
  have h1 : (i : Int) < ls.length:=by have:=(drop_at h).2.2;omega
  have e1:=iad (drop_at h).1 bytesV (k:=1) rfl
  have e3:=wrap_succ h1 hl
  have k1:=kokB p
  have k2 : (acc.length+p.length)*1≤140737488355328:=by have:=congrArg List.length hf;simp at this;omega
  have e4 : (acc++p).map byteV=acc.map byteV++p.map byteV:=by simp
  have e5 : (acc++p).length=acc.length+p.length:=by simp
  rw [e4,e5] at ih
  clear hf
  unfold K_octet_Join_l3 at ih ⊢
  rw [evL_eq]
  unfold bytesV at e1 ih ⊢
  simp -implicitDefEqProofs only [EVS0,EVS1,EVS5,EVS7,EVL0,EVL1,eq_self,exI,nsite,freeAt,execI,Opd.ev,tget,tins,tput,keepL,sitesOf,List.sum_cons,List.sum_nil,Nat.reduceAdd,Nat.reduceLT,Nat.reduceEqDiff,Nat.reduceBEq,beq_self_eq_true,Bool.false_eq_true,ldA,partA,binA,arithA,ne_eq,reduceCtorEq,decide_true,elemsA,↓reduceIte,gcT,gcA,gcIds,reach,rhoOf,heapOf,idxA,genB,newGen,renB,refsB,x_octet_Join_l3,d_octet_Join_l3,oI,h1,e1,e3,k1,k2,appA,AVal.cells]
  exact ih
theorem q_join (p : Bytes) (ls : List Bytes) (hl : (p::ls).length≤9223372036854775807) (hn : (p::ls).flatten.length≤140737488355328) : E 56 [.lst false ((p::ls).map bytesV)] []=some (.sl 0 0 0 (p::ls).flatten.length,[.row 0 1 ((p::ls).flatten.map byteV)]):=by
 have key:=q_joinl (p::ls) hl ls 1 p (p::ls).flatten rfl rfl hn
 have k1:=kokB p
 have k2 : p.length*1≤140737488355328:=by simp at hn;omega
 have h1 : (0 : Int) < ((p::ls).length : Int):=by simp
 have hat : (p::ls)[0]?=some p:=rfl
 have e1:=iad hat bytesV (k:=1) rfl
 have z0 : ((0 : Nat) : Int)=0:=rfl
 have z1 : ((1 : Nat) : Int)=1:=rfl
 have w1 : IntKind.i64.wrap (0+1)=1:=rfl
 rw [z0] at e1
 rw [z1] at key
 unfold K_octet_Join_l3 at key
 generalize hL : p::ls=L at *
 rw [E_eq (by rfl) cf_octet_Join]
 unfold bytesV at e1 key ⊢
 simp -implicitDefEqProofs only [EVS0,EVS1,EVS5,EVS7,EVL0,eq_self,exI,nsite,freeAt,execI,Opd.ev,tget,tins,tput,keepL,sitesOf,List.sum_cons,List.sum_nil,Nat.reduceLT,Nat.reduceEqDiff,beq_self_eq_true,reduceCtorEq,enterA,↓reduceIte,gcT,gcA,gcIds,reach,heapOf,refsB,cb_octet_Join,b_octet_Join,oI]
 rw [evL_eq]
 simp -implicitDefEqProofs only [EVS0,EVS1,EVS5,EVS7,EVL0,EVL1,eq_self,exI,nsite,freeAt,execI,Opd.ev,tget,tins,tput,keepL,sitesOf,List.sum_cons,List.sum_nil,Nat.reduceLT,Nat.reduceEqDiff,Nat.reduceBEq,beq_self_eq_true,Bool.false_eq_true,ldA,partA,binA,arithA,ne_eq,decide_true,elemsA,↓reduceIte,gcT,gcA,gcIds,reach,rhoOf,heapOf,idxA,genB,newGen,renB,refsB,x_octet_Join_l3,d_octet_Join_l3,oI,h1,e1,w1,k1,k2,appA,AVal.cells]
 exact key
theorem q_joinC (σ : AHeap) (site own : Nat) (f : Bool) (p : Bytes) (ls : List Bytes) (hl : (p::ls).length≤9223372036854775807) (hn : (p::ls).flatten.length≤140737488355328) : callG E BY σ site 56 own true [.lst f ((p::ls).map bytesV)]=some (.lst false ((p::ls).flatten.map byteV),σ,{}):=by
 have h:=call_rown (byref:=BY) (q_join p ls hl hn) (by rw [List.length_map]) rfl rfl σ site own
 cases f
 ·exact h
 ·rw [callG_plain (by kernel_rfl) rfl] at h ⊢
  exact h
theorem or_128 : ∀ n : Fin 256,IntKind.u8.wrap (((BitVec.ofInt IntKind.u8.bits ((n.val : Nat) : Int) ||| BitVec.ofInt IntKind.u8.bits 128).toNat : Nat) : Int)=((n.val % 128+128 : Nat) : Int):=by decide +kernel
theorem or_128' (n : Nat) : IntKind.u8.wrap (((BitVec.ofInt IntKind.u8.bits (IntKind.u8.wrap (n : Int)) ||| BitVec.ofInt IntKind.u8.bits 128).toNat : Nat) : Int)=((UInt8.ofNat (n % 128+128)).toNat : Int):=by
 have h:=or_128 ⟨n % 256,Nat.mod_lt _ (by decide)⟩
 have e : IntKind.u8.wrap (n : Int)=((n % 256 : Nat) : Int):=by rw [IntKind.wrap_u8];omega
 rw [e,h,UInt8.toNat_ofNat']
 simp only
 omega
theorem q_varl : ∀ (k n : Nat) (acc full : Bytes),n < 128 ^ (k+1)→acc.length+k≤3→full=acc++varL k n →
  K_octet_Var_l4 0 [(4,growV (acc.map byteV)),(0,.int .i64 (n : Nat))] (growH 1 (acc.map byteV))=some (.tup [.sl 0 0 0 full.length,.int .i64 0],[.row 0 1 (full.map byteV)])
 | k,n,acc,full,hk,hacc,hf=>by
  by_cases hn : n < 128
  ·have h1 : ¬((n : Int) > 127):=by omega
   have hv : varL k n=[UInt8.ofNat n]:=by cases k <;> simp [varL,hn]
   rw [hv] at hf
   have hb : IntKind.u8.wrap (n : Int)=((UInt8.ofNat n).toNat : Int):=by rw [IntKind.wrap_u8,UInt8.toNat_ofNat'];omega
   subst hf
   unfold K_octet_Var_l4
   rw [evL_eq]
   cases acc with
   | nil =>
    simp -implicitDefEqProofs only [EVS0,EVS1,EVS5,EVL0,eq_self,exI,nsite,freeAt,execI,Opd.ev,tget,tins,tput,keepL,sitesOf,List.sum_cons,List.sum_nil,Nat.reduceLT,Nat.reduceLeDiff,Nat.reduceEqDiff,Nat.reduceBEq,beq_self_eq_true,Bool.false_eq_true,binA,arithA,reduceCtorEq,decide_true,decide_false,elemsA,resA,resAll,resOne,↓reduceIte,cr_octet_Var,x_octet_Var_k0,d_octet_Var_k0,x_octet_Var_l4,d_octet_Var_l4,oI,h1,hb,growV_nil,growH_nil,appA,kOk,viewAs,viewA,viewA1,freezeA,List.foldl_cons,List.foldl_nil,Nat.one_mul,AVal.cells]
    simp [outA,gcA,gcIds,reach,refsL,refsV,rhoOf,heapOf,idxA,genB,newGen,renL,renV,renB,refsB]
    rfl
   | cons a acc =>
    have hz : (acc.length+1+1)*1≤140737488355328:=by simp at hacc;omega
    simp -implicitDefEqProofs only [EVS0,EVS1,EVS5,EVL0,eq_self,exI,nsite,freeAt,execI,Opd.ev,tget,tins,tput,keepL,sitesOf,List.sum_cons,List.sum_nil,Nat.reduceAdd,Nat.reduceLT,Nat.reduceEqDiff,Nat.reduceBEq,beq_self_eq_true,Bool.false_eq_true,binA,arithA,reduceCtorEq,decide_true,decide_false,elemsA,resA,resAll,resOne,↓reduceIte,cr_octet_Var,x_octet_Var_k0,d_octet_Var_k0,x_octet_Var_l4,d_octet_Var_l4,oI,h1,hb,growV_cons,growH_cons,appA,kOk,viewAs,viewA,viewA1,freezeA,List.foldl_cons,List.foldl_nil,AVal.cells,hz]
    simp [outA,gcA,gcIds,reach,refsL,refsV,rhoOf,heapOf,idxA,genB,newGen,renL,renV,renB,refsB]
    rfl
  ·cases k with
   | zero=>simp at hk;omega
   | succ k =>
    have hlt : n / 128 < 128 ^ (k+1):=by
     rw [Nat.div_lt_iff_lt_mul (by decide)]
     rw [Nat.pow_succ] at hk;exact hk
    have hv : varL (k+1) n=UInt8.ofNat (n % 128+128)::varL k (n / 128):=by simp [varL,hn]
    have ih:=q_varl k (n / 128) (acc++[UInt8.ofNat (n % 128+128)]) full hlt (by simp;omega) (by rw [hf,hv];simp)
    clear hf
    have h1 : ((n : Int) > 127):=by omega
    have ho:=or_128' n
    have hd : (n : Int).fdiv (2 ^ min (Int.toNat 7) IntKind.i64.bits)=((n / 128 : Nat) : Int):=by
     rw [show (2 : Int) ^ min (Int.toNat 7) IntKind.i64.bits=128 from rfl,Int.fdiv_eq_ediv_of_nonneg _ (by decide)]
     omega
    unfold K_octet_Var_l4 at ih ⊢
    rw [evL_eq]
    cases acc with
    | nil =>
     simp -implicitDefEqProofs only [EVS0,EVS1,EVS5,EVS7,EVL0,EVL1,eq_self,exI,nsite,freeAt,execI,Opd.ev,tget,tins,tput,keepL,sitesOf,List.sum_cons,List.sum_nil,Nat.reduceLT,Nat.reduceLeDiff,Nat.reduceEqDiff,Nat.reduceBEq,beq_self_eq_true,Bool.false_eq_true,binA,arithA,shiftA,ne_eq,reduceCtorEq,decide_true,elemsA,↓reduceIte,gcT,gcA,gcIds,reach,rhoOf,heapOf,idxA,genB,newGen,renB,refsB,x_octet_Var_l4,d_octet_Var_l4,oI,h1,ho,hd,growV_nil,growH_nil,appA,kOk,viewAs,viewA,viewA1,freezeA,List.foldl_cons,List.foldl_nil,Nat.one_mul,AVal.cells,Int.reduceLT]
     simp only [List.map_cons,List.map_nil,List.nil_append,growV_cons,growH_cons,List.length_cons,List.length_nil,Nat.zero_add,byteV] at ih
     exact ih
    | cons a acc =>
     have hz : (acc.length+1+1)*1≤140737488355328:=by simp at hacc;omega
     simp -implicitDefEqProofs only [EVS0,EVS1,EVS5,EVS7,EVL0,EVL1,eq_self,exI,nsite,freeAt,execI,Opd.ev,tget,tins,tput,keepL,sitesOf,List.sum_cons,List.sum_nil,Nat.reduceAdd,Nat.reduceLT,Nat.reduceEqDiff,Nat.reduceBEq,beq_self_eq_true,Bool.false_eq_true,binA,arithA,shiftA,ne_eq,reduceCtorEq,decide_true,elemsA,↓reduceIte,gcT,gcA,gcIds,reach,rhoOf,heapOf,idxA,genB,newGen,renB,refsB,x_octet_Var_l4,d_octet_Var_l4,oI,h1,ho,hd,growV_cons,growH_cons,appA,kOk,viewAs,viewA,viewA1,freezeA,List.foldl_cons,List.foldl_nil,AVal.cells,hz,Int.reduceLT]
     simp only [List.map_append,List.map_cons,List.map_nil,List.cons_append,growV_cons,growH_cons,List.length_append,List.length_cons,List.length_map,List.length_nil,Nat.zero_add,Nat.add_assoc,Nat.reduceAdd,byteV] at ih
     exact ih
theorem q_var (n : Int) : E 82 [.int .i64 n] []=some (if n < 0∨n > 268435455 then (.tup [.lst true [],.int .i64 10],[]) else (.tup [.sl 0 0 0 (varL 3 n.toNat).length,.int .i64 0],[.row 0 1 ((varL 3 n.toNat).map byteV)])):=by
 rw [E_eq (by rfl) cf_octet_Var]
 by_cases h0 : n < 0
 ·have : n < 0∨n > 268435455:=Or.inl h0
  simp -implicitDefEqProofs only [EVS0,EVS1,EVS5,EVS6,EVL0,eq_self,exI,nsite,freeAt,execI,Opd.ev,tget,tins,tput,keepL,sitesOf,List.sum_cons,List.sum_nil,Nat.reduceLT,Nat.reduceEqDiff,beq_self_eq_true,binA,arithA,gSpan,gSkip,ne_eq,Option.some.injEq,reduceCtorEq,decide_true,decide_false,resA,resAll,resOne,enterA,↓reduceIte,noRefL,cb_octet_Var,b_octet_Var,cr_octet_Var,oI,h0]
 ·by_cases h2 : n > 268435455
  ·have : n < 0∨n > 268435455:=Or.inr h2
   simp -implicitDefEqProofs only [EVS0,EVS1,EVS5,EVS6,EVL0,eq_self,exI,nsite,freeAt,execI,Opd.ev,tget,tins,tput,keepL,sitesOf,List.sum_cons,List.sum_nil,Nat.reduceLT,Nat.reduceEqDiff,beq_self_eq_true,Bool.false_eq_true,binA,arithA,gSpan,unG,ne_eq,Option.some.injEq,reduceCtorEq,decide_true,decide_false,resA,resAll,resOne,enterA,↓reduceIte,noRefL,cb_octet_Var,b_octet_Var,cr_octet_Var,oI,h0,h2]
  ·have : ¬(n < 0∨n > 268435455):=by omega
   have key:=q_varl 3 n.toNat [] (varL 3 n.toNat) (by omega) (by simp) rfl
   have e : ((n.toNat : Nat) : Int)=n:=by omega
   rw [e] at key
   simp only [List.map_nil,growV_nil,growH_nil] at key
   unfold K_octet_Var_l4 at key
   generalize varL 3 n.toNat=V at *
   simp -implicitDefEqProofs only [EVS0,EVS1,EVS5,EVS7,EVL0,eq_self,exI,nsite,freeAt,execI,Opd.ev,tget,tins,tput,keepL,sitesOf,List.sum_cons,List.sum_nil,Nat.reduceLT,Nat.reduceEqDiff,beq_self_eq_true,Bool.false_eq_true,binA,arithA,gSpan,unG,ne_eq,Option.some.injEq,reduceCtorEq,decide_false,enterA,↓reduceIte,gcT,gcA,gcIds,reach,heapOf,refsB,cb_octet_Var,b_octet_Var,oI,h0,h2]
   exact key
def varT (n : Int) : AVal:=.tup [.lst false ((varF n).1.map byteV),.int .i64 (varF n).2]
theorem call_tupr {O : Oracle} {byref : Nat→Bool} {f : Nat} {args args' : List AVal} {k n : Nat} {xs : List AVal} {c : Int} (h : O f args' []=some (.tup [.sl 0 0 0 n,.int .i64 c],[.row 0 k xs])) (hl : xs.length=n) (hb : byref f=false) (hp : args.all plainV=true) (hn : args.map normV=args') (σ : AHeap) (site own : Nat) : callG O byref σ site f own true args=some (.tup [.lst false xs,.int .i64 c],σ,{}):=by
 subst hl
 rw [callG_plain hb hp,hn,h]
 simp [askO,resV,viewR,viewAs,viewA,viewA1,elemsA,freezeA,gcA,gcIds,reach,refsL,refsV,renL,renV,heapOf,backG,flatA,flat2,flat1]
theorem q_varC (σ : AHeap) (site own : Nat) (n : Int) : callG E BY σ site 82 own true [.int .i64 n]=some (varT n,σ,{}):=by
 have h:=q_var n
 unfold varT varF
 by_cases hc : n < 0∨n > 268435455
 ·rw [if_pos hc] at h ⊢
  exact call_normT h (by kernel_rfl) rfl rfl rfl (fun _=>rfl) _ _ _
 ·rw [if_neg hc] at h ⊢
  exact call_tupr h (by rw [List.length_map]) (by kernel_rfl) rfl rfl _ _ _
end Go.Proofs.YtmlkhhidifjjfaaDoor
namespace Go.Proofs.YtmlkhhidifjjfaaDoor
set_option maxHeartbeats 8000000
set_option maxRecDepth 10000
def gvT (x : Nat×Nat×Int) : AVal:=.tup [.int .i64 (x.1 : Nat),.int .i64 (x.2.1 : Nat),.int .i64 x.2.2]
theorem and_127 : ∀ n : Fin 256,IntKind.u8.wrap (((BitVec.ofInt IntKind.u8.bits ((n.val : Nat) : Int) &&& BitVec.ofInt IntKind.u8.bits 127).toNat : Nat) : Int)=((n.val % 128 : Nat) : Int):=by decide +kernel
theorem and_127' (c : UInt8) : IntKind.u8.wrap (((BitVec.ofInt IntKind.u8.bits (c.toNat : Int) &&& BitVec.ofInt IntKind.u8.bits 127).toNat : Nat) : Int)=((c.toNat % 128 : Nat) : Int):=and_127 ⟨c.toNat,c.toNat_lt⟩
theorem pow_128 (i : Nat) : 128 ^ i=2 ^ (7*i):=by rw [Nat.pow_mul]
theorem or_sum (n a i : Nat) (hi : i≤3) (hn : n < 128 ^ i) (ha : a < 128) : IntKind.i64.wrap (((BitVec.ofInt IntKind.i64.bits (n : Int) ||| BitVec.ofInt IntKind.i64.bits ((a*128 ^ i : Nat) : Int)).toNat : Nat) : Int)=((n+a*128 ^ i : Nat) : Int):=by
 have hb : IntKind.i64.bits=64:=rfl
 have hp : 128 ^ i≤128 ^ 3:=Nat.pow_le_pow_right (by decide) hi
 have hm : a*128 ^ i≤127*128 ^ 3:=Nat.mul_le_mul (by omega) hp
 rw [hb,BitVec.toNat_or]
 simp only [BitVec.ofInt_natCast,BitVec.toNat_ofNat]
 have e1 : n % 2 ^ 64=n:=Nat.mod_eq_of_lt (by omega)
 have e2 : a*128 ^ i % 2 ^ 64=a*128 ^ i:=Nat.mod_eq_of_lt (by omega)
 rw [e1,e2]
 have e3 : a*128 ^ i=a <<< (7*i):=by rw [Nat.shiftLeft_eq,pow_128]
 have e4 : n ||| a*128 ^ i=n+a*128 ^ i:=by
  rw [e3,Nat.or_comm,←Nat.shiftLeft_add_eq_or_of_lt (by rw [←pow_128];exact hn)]
  omega
 rw [e4,wrap_nat (by omega) (by omega)]
theorem shl_7 (a i : Nat) (hi : i≤3) (ha : a < 128) : IntKind.i64.wrap ((a : Int)*2 ^ min (Int.toNat ((7*i : Nat) : Int)) IntKind.i64.bits)=((a*128 ^ i : Nat) : Int):=by
 have hp : 128 ^ i≤128 ^ 3:=Nat.pow_le_pow_right (by decide) hi
 have hm : a*128 ^ i≤127*128 ^ 3:=Nat.mul_le_mul (by omega) hp
 have e : min (Int.toNat ((7*i : Nat) : Int)) IntKind.i64.bits=7*i:=by
  have hb : IntKind.i64.bits=64:=rfl
  rw [hb];omega
 have e2 : ((a : Int)*2 ^ (7*i))=((a*128 ^ i : Nat) : Int):=by rw [pow_128];simp
 rw [e,e2,wrap_nat (by omega) (by omega)]
theorem gvA_bound (n i a : Nat) (hn : n < 128 ^ i) (ha : a < 128) : n+a*128 ^ i < 128 ^ (i+1):=by
 have : a*128 ^ i≤127*128 ^ i:=Nat.mul_le_mul_right _ (by omega)
 rw [Nat.pow_succ];omega
theorem q_getvarl (b : Bytes) (hl : b.length≤9223372036854775807) : ∀ (r : Bytes) (i n : Nat),i≤4→i≤b.length→n < 128 ^ i→b.drop i=r →
  K_octet_GetVar_l2 0 [(9,.int .i64 i),(8,.int .i64 b.length),(7,.lst false (b.map byteV)),(2,.int .i64 n),(0,.lst false (b.map byteV))] []=some (gvT (gvA i n r),[])
 | [],i,n,hi,hib,hn,h=>by
  have h1:=drop_nil h
  unfold K_octet_GetVar_l2
  rw [evL_eq,gvA]
  by_cases h4 : i < 4
  ·have h5 : (b.length : Int) < 4:=by omega
   simp -implicitDefEqProofs only [EVS0,EVS1,EVS5,EVS6,EVL0,eq_self,exI,nsite,freeAt,execI,Opd.ev,tget,tins,tput,keepL,sitesOf,List.sum_cons,List.sum_nil,Nat.reduceLT,Nat.reduceEqDiff,beq_self_eq_true,Bool.false_eq_true,binA,arithA,Option.some.injEq,reduceCtorEq,decide_true,decide_false,resA,resAll,resOne,↓reduceIte,noRefL,cr_octet_GetVar,x_octet_GetVar_k0,d_octet_GetVar_k0,x_octet_GetVar_l2,d_octet_GetVar_l2,oI,h1,h4,h5,gvT]
   rfl
  ·have h5 : ¬(b.length : Int) < 4:=by omega
   simp -implicitDefEqProofs only [EVS0,EVS1,EVS5,EVS6,EVL0,eq_self,exI,nsite,freeAt,execI,Opd.ev,tget,tins,tput,keepL,sitesOf,List.sum_cons,List.sum_nil,Nat.reduceLT,Nat.reduceEqDiff,beq_self_eq_true,Bool.false_eq_true,binA,arithA,Option.some.injEq,reduceCtorEq,decide_false,resA,resAll,resOne,↓reduceIte,noRefL,cr_octet_GetVar,x_octet_GetVar_k0,d_octet_GetVar_k0,x_octet_GetVar_l2,d_octet_GetVar_l2,oI,h1,h4,h5,gvT]
   rfl
 | c::r,i,n,hi,hib,hn,h=>by
  have hlt:=(drop_at h).2.2
  have h1 : (i : Int) < b.length:=by omega
  have e1:=iad (drop_at h).1 byteV (k:=1) rfl
  have e3:=wrap_succ h1 hl
  rw [gvA]
  by_cases h4 : i=4
  ·have h5 : ¬(b.length : Int) < 4:=by omega
   have h6 : ((i : Int) == 4)=true:=by simp;omega
   rw [if_pos h4]
   unfold K_octet_GetVar_l2
   rw [evL_eq]
   simp -implicitDefEqProofs only [EVS0,EVS1,EVS5,EVS6,EVL0,eq_self,exI,nsite,freeAt,execI,Opd.ev,tget,tins,tput,keepL,sitesOf,List.sum_cons,List.sum_nil,Nat.reduceLT,Nat.reduceEqDiff,beq_self_eq_true,Bool.false_eq_true,ldA,partA,binA,arithA,Option.some.injEq,reduceCtorEq,decide_true,decide_false,resA,resAll,resOne,↓reduceIte,noRefL,cr_octet_GetVar,x_octet_GetVar_k0,d_octet_GetVar_k0,x_octet_GetVar_l2,d_octet_GetVar_l2,oI,h1,e1,h5,h6,gvT,byteV,AVal.cells]
   rfl
  ·have h6 : ((i : Int) == 4)=false:=by simp;omega
   have hm:=and_127' c
   have ha : c.toNat % 128 < 128:=Nat.mod_lt _ (by decide)
   have hi64 : IntKind.i64.wrap ((c.toNat % 128 : Nat) : Int)=((c.toNat % 128 : Nat) : Int):=wrap_nat (by omega) (by omega)
   have h7 : IntKind.i64.wrap (7*(i : Int))=((7*i : Nat) : Int):=by rw [wrap_nat (by omega) (by omega)];omega
   have hneg : ¬((7*i : Nat) : Int) < 0:=by omega
   have hs:=shl_7 (c.toNat % 128) i (by omega) ha
   have ho:=or_sum n (c.toNat % 128) i (by omega) hn ha
   by_cases hc : c.toNat < 128
   ·have hc' : (c.toNat : Int) < 128:=by omega
    unfold K_octet_GetVar_l2
    rw [evL_eq]
    by_cases hc0 : c=0
    ·have hc1 : ((c.toNat : Int) == 0)=true:=by rw [hc0];rfl
     by_cases hip : 0 < i
     ·have hip' : (i : Int) > 0:=by omega
      have hcc : c=0∧0 < i:=⟨hc0,hip⟩
      simp -implicitDefEqProofs only [EVS0,EVS1,EVS5,EVS6,EVS7,EVL0,ite_list,ite_tt,eq_self,exI,nsite,freeAt,execI,Opd.ev,tget,tins,tput,keepL,sitesOf,List.sum_cons,List.sum_nil,Nat.reduceLT,Nat.reduceEqDiff,beq_self_eq_true,Bool.false_eq_true,ldA,partA,binA,arithA,shiftA,gSpan,gSkip,unG,ne_eq,Option.some.injEq,reduceCtorEq,decide_true,decide_false,resA,resAll,resOne,decide_eq_true_eq,ite_self,↓reduceIte,noRefL,gcT,gcA,gcIds,reach,heapOf,refsB,cr_octet_GetVar,x_octet_GetVar_l2,d_octet_GetVar_l2,oI,h1,e1,h4,h6,h7,hneg,hip',hcc,gvT,byteV,AVal.cells]
      rfl
     ·have hip' : ¬(i : Int) > 0:=by omega
      have hcc : ¬(c=0∧0 < i):=fun h=>hip h.2
      simp -implicitDefEqProofs only [EVS0,EVS1,EVS5,EVS6,EVL0,eq_self,exI,nsite,freeAt,execI,Opd.ev,tget,tins,tput,keepL,sitesOf,List.sum_cons,List.sum_nil,Nat.reduceLT,Nat.reduceEqDiff,beq_self_eq_true,Bool.false_eq_true,ldA,partA,binA,arithA,shiftA,gSpan,unG,ne_eq,Option.some.injEq,reduceCtorEq,decide_true,decide_false,resA,resAll,resOne,↓reduceIte,noRefL,cr_octet_GetVar,x_octet_GetVar_l2,d_octet_GetVar_l2,oI,h1,e1,h4,h6,hm,hi64,h7,hneg,hs,ho,hc,hc',hc1,hip',hcc,e3,gvT,byteV,AVal.cells]
    ·have hc1 : ((c.toNat : Int) == 0)=false:=by
      have : c.toNat≠0:=fun h=>hc0 (UInt8.toNat_inj.1 (by simpa using h))
      simp;omega
     have hcc : ¬(c=0∧0 < i):=fun h=>hc0 h.1
     simp -implicitDefEqProofs only [EVS0,EVS1,EVS5,EVS6,EVL0,eq_self,exI,nsite,freeAt,execI,Opd.ev,tget,tins,tput,keepL,sitesOf,List.sum_cons,List.sum_nil,Nat.reduceLT,Nat.reduceEqDiff,beq_self_eq_true,Bool.false_eq_true,ldA,partA,binA,arithA,shiftA,gSpan,gSkip,ne_eq,Option.some.injEq,reduceCtorEq,decide_true,decide_false,resA,resAll,resOne,↓reduceIte,noRefL,cr_octet_GetVar,x_octet_GetVar_l2,d_octet_GetVar_l2,oI,h1,e1,h4,h6,hm,hi64,h7,hneg,hs,ho,hc,hc',hc1,hcc,e3,gvT,byteV,AVal.cells]
   ·have hc' : ¬(c.toNat : Int) < 128:=by omega
    have ih:=q_getvarl b hl r (i+1) (n+c.toNat % 128*128 ^ i) (by omega) (by omega) (gvA_bound n i _ hn ha) (drop_at h).2.1
    unfold K_octet_GetVar_l2 at ih ⊢
    rw [evL_eq]
    simp -implicitDefEqProofs only [EVS0,EVS1,EVS5,EVS7,EVL0,eq_self,exI,nsite,freeAt,execI,Opd.ev,tget,tins,tput,keepL,sitesOf,List.sum_cons,List.sum_nil,Nat.reduceLT,Nat.reduceEqDiff,beq_self_eq_true,Bool.false_eq_true,ldA,partA,binA,arithA,shiftA,reduceCtorEq,decide_true,decide_false,↓reduceIte,gcT,gcA,gcIds,reach,heapOf,refsB,x_octet_GetVar_l2,d_octet_GetVar_l2,oI,h1,e1,h4,h6,hm,hi64,h7,hneg,hs,ho,hc,hc',e3,byteV,AVal.cells]
    exact ih
theorem q_getvar (b : Bytes) (hl : b.length≤9223372036854775807) : E 135 [bytesV b] []=some (gvT (getVarF b),[]):=by
 have key:=q_getvarl b hl b 0 0 (by omega) (by omega) (by simp) rfl
 have z0 : ((0 : Nat) : Int)=0:=rfl
 rw [z0] at key
 unfold K_octet_GetVar_l2 at key
 unfold getVarF
 rw [E_eq (by rfl) cf_octet_GetVar]
 simp -implicitDefEqProofs only [EVS0,EVS1,EVS5,EVS7,EVL0,eq_self,exI,nsite,freeAt,execI,Opd.ev,tget,tins,tput,keepL,sitesOf,List.sum_cons,List.sum_nil,Nat.reduceLT,Nat.reduceEqDiff,beq_self_eq_true,reduceCtorEq,enterA,↓reduceIte,gcT,gcA,gcIds,reach,heapOf,refsB,cb_octet_GetVar,b_octet_GetVar,oI,bytesV]
 exact key
theorem q_getvarC (σ : AHeap) (site own : Nat) (f : Bool) (b : Bytes) (hl : b.length≤9223372036854775807) : callG E BY σ site 135 own true [.lst f (b.map byteV)]=some (gvT (getVarF b),σ,{}) :=
 call_normT (q_getvar b hl) (by kernel_rfl) rfl rfl rfl (fun _=>rfl) _ _ _
end Go.Proofs.YtmlkhhidifjjfaaDoor
namespace Go.Proofs.YtmlkhhidifjjfaaDoor
set_option maxHeartbeats 4000000
set_option maxRecDepth 10000
theorem decA_drop (l : List UInt8) (p : Nat) : decA l p=Lib.decodeL (l.drop p):=by
 have:=Lib.decodeL_drop ⟨l.toArray⟩ p
 simpa [decA] using this.symm
def zfG : Nat→List UInt8→Bool
 | 0,_=>true
 | n+1,l=>if l=[] then true else if (Lib.decodeL l).1=0 then false else zfG n (l.drop (Lib.decodeL l).2)
def textB (l : List UInt8) : Bool:=zfG l.length l && Lib.validD l
theorem q_valid (l : List UInt8) : E 142 [.str l] []=some (.bool (Lib.validD l),[]):=EV_some.2 ⟨1,rfl⟩
theorem q_validC (σ : AHeap) (site own : Nat) (view : Bool) (l : List UInt8) : callG E BY σ site 142 own view [.str l]=some (.bool (Lib.validD l),σ,{}) :=
 call_flat (q_valid l) (by kernel_rfl) (by simp -implicitDefEqProofs only [EVS3,EVL0,eq_self]) (by simp -implicitDefEqProofs only [EVS4,EVL0,eq_self]) rfl (fun _=>rfl) _ _ _ _
theorem q_istl (s : List UInt8) : ∀ (n p : Nat),s.length - p≤n→p≤s.length→K_octet_IsText_l2 0 [(6,.ref 0 0),(0,.str s)] [.siter s p]=some (.bool (zfG n (s.drop p) && Lib.validD s),[])
 | n,p,hn,hp=>by
  by_cases h : p < s.length
  ·obtain ⟨n,rfl⟩ : ∃ m,n=m+1:=⟨n - 1,by omega⟩
   have hw:=Lib.decodeL_width (s.drop p)
   have hne : s.drop p≠[]:=by rw [ne_eq,List.drop_eq_nil_iff];omega
   have hle:=Lib.decodeL_le (s.drop p) hne
   rw [List.length_drop] at hle
   have ih:=q_istl s n (p+(Lib.decodeL (s.drop p)).2) (by omega) (by omega)
   rw [←List.drop_drop] at ih
   unfold K_octet_IsText_l2 at ih ⊢
   rw [evL_eq]
   by_cases hz : (Lib.decodeL (s.drop p)).1=0
   ·have hz' : ((Lib.decodeL (s.drop p)).1 : Int)=0:=by omega
    simp -implicitDefEqProofs only [EVS0,EVS1,EVS5,EVL0,eq_self,exI,nsite,freeAt,execI,Opd.ev,tget,tins,tput,keepL,sitesOf,List.sum_cons,List.sum_nil,Nat.reduceLT,Nat.reduceEqDiff,beq_self_eq_true,binA,arithA,Option.some.injEq,reduceCtorEq,resA,resAll,resOne,↓reduceIte,cr_octet_IsText,x_octet_IsText_l2,d_octet_IsText_l2,oI,h,decA_drop,hz']
    rw [zfG,if_neg hne,if_pos hz];rfl
   ·have hz' : (((Lib.decodeL (s.drop p)).1 : Int) == 0)=false:=by rw [beq_eq_false_iff_ne];omega
    simp -implicitDefEqProofs only [EVS0,EVS1,EVS5,EVS7,EVL0,EVL1,eq_self,exI,nsite,freeAt,execI,Opd.ev,tget,tins,tput,keepL,sitesOf,List.sum_cons,List.sum_nil,Nat.reduceLT,Nat.reduceEqDiff,beq_self_eq_true,Bool.false_eq_true,binA,arithA,ne_eq,reduceCtorEq,↓reduceIte,gcT,gcA,gcIds,reach,rhoOf,heapOf,idxA,genB,newGen,renB,refsB,x_octet_IsText_l2,d_octet_IsText_l2,oI,h,decA_drop,hz']
    rw [ih,zfG,if_neg hne,if_neg hz]
  ·have he : s.drop p=[]:=by rw [List.drop_eq_nil_iff];omega
   unfold K_octet_IsText_l2
   rw [evL_eq]
   simp -implicitDefEqProofs only [EVS0,EVS1,EVS5,EVL0,eq_self,exI,nsite,freeAt,execI,Opd.ev,tget,tins,tput,keepL,sitesOf,List.sum_cons,List.sum_nil,Nat.reduceLT,Nat.reduceEqDiff,beq_self_eq_true,Bool.false_eq_true,Option.some.injEq,reduceCtorEq,resA,resAll,resOne,↓reduceIte,cr_octet_IsText,x_octet_IsText_k0,d_octet_IsText_k0,x_octet_IsText_l2,d_octet_IsText_l2,oI,h,q_validC]
   rw [he]
   cases n <;> simp [zfG]
theorem q_istext (s : List UInt8) : E 97 [.str s] []=some (.bool (textB s),[]):=by
 rw [E_eq (by rfl) cf_octet_IsText]
 have:=q_istl s s.length 0 (by omega) (by omega)
 unfold K_octet_IsText_l2 at this
 simp -implicitDefEqProofs only [EVS0,EVS1,EVS5,EVS7,EVL0,EVL1,eq_self,exI,nsite,freeAt,execI,Opd.ev,tget,tins,tput,keepL,sitesOf,List.sum_cons,List.sum_nil,Nat.reduceLT,Nat.reduceBEq,beq_self_eq_true,Bool.false_eq_true,ne_eq,reduceCtorEq,enterA,↓reduceIte,gcT,gcA,gcIds,reach,rhoOf,heapOf,idxA,genB,newGen,renB,refsB,cb_octet_IsText,b_octet_IsText,oI]
 rw [this,List.drop_zero];rfl
theorem q_istextC (σ : AHeap) (site own : Nat) (view : Bool) (l : List UInt8) : callG E BY σ site 97 own view [.str l]=some (.bool (textB l),σ,{}) :=
 call_flat (q_istext l) (by kernel_rfl) (by simp -implicitDefEqProofs only [EVS3,EVL0,eq_self]) (by simp -implicitDefEqProofs only [EVS4,EVL0,eq_self]) rfl (fun _=>rfl) _ _ _ _
theorem wrap_i64 {n : Int} (h0 : -9223372036854775808≤n) (h : n≤9223372036854775807) : IntKind.i64.wrap n=n:=wrap_nat h0 h
end Go.Proofs.YtmlkhhidifjjfaaDoor
namespace Go.Proofs.YtmlkhhidifjjfaaDoor
set_option maxHeartbeats 8000000
set_option maxRecDepth 10000
theorem slice_lh (σ : AHeap) (l : Bytes) (k1 k2 : IntKind) (lo hi : Int) (h0 : 0≤lo) (h1 : lo≤hi) (h2 : hi≤(l.length : Int)) : sliceA σ 1 (.lst false (l.map byteV)) (some (.int k1 lo)) (some (.int k2 hi)) none=some (.lst false (((l.take hi.toNat).drop lo.toNat).map byteV),σ,{}):=by
 have hh : 0≤hi:=by omega
 have h3 : lo≤((hi.toNat : Nat) : Int):=by omega
 have hk:=kokB l
 simp only [sliceA,optB,boundA,List.length_map,hh,h2,and_self,if_true,h0,h3,hk,Bool.or_true,Option.isSome_none,Bool.false_eq_true,if_false,Bool.false_and,List.map_take,List.map_drop]
theorem slice_l (σ : AHeap) (l : Bytes) (k1 : IntKind) (lo : Int) (h0 : 0≤lo) (h1 : lo≤(l.length : Int)) : sliceA σ 1 (.lst false (l.map byteV)) (some (.int k1 lo)) none none=some (.lst false ((l.drop lo.toNat).map byteV),σ,{}):=by
 have hk:=kokB l
 simp only [sliceA,optB,boundA,List.length_map,and_self,if_true,h0,h1,hk,Bool.or_true,Option.isSome_none,Bool.false_eq_true,if_false,Bool.false_and,List.map_drop]
 rw [List.take_of_length_le (by simp)]
def byT (x : Bytes×Int) : AVal:=.tup [.lst false (x.1.map byteV),.int .i64 x.2]
theorem wrap_len (b : Bytes) (h : b.length≤9223372036854775807) : IntKind.u64.wrap (b.length : Int)=(b.length : Int):=by rw [IntKind.wrap_u64];omega
theorem q_data (b : Bytes) (hl : b.length≤9223372036854775807) : ∃ f,E 55 [bytesV b] []=some (.tup [.lst f ((dataF b).1.map byteV),.int .i64 (dataF b).2],[]):=by
 unfold dataF
 by_cases h : b.length > 65535
 ·refine ⟨true,?_⟩
  have h' : (b.length : Int) > 65535:=by omega
  rw [E_eq (by rfl) cf_octet_Data,if_pos h]
  simp -implicitDefEqProofs only [EVS0,EVS1,EVS5,EVS6,EVL0,eq_self,exI,nsite,freeAt,execI,Opd.ev,tget,tins,tput,keepL,sitesOf,List.sum_cons,List.sum_nil,Nat.reduceLT,Nat.reduceEqDiff,beq_self_eq_true,binA,arithA,reduceCtorEq,decide_true,resA,resAll,resOne,enterA,↓reduceIte,noRefL,cb_octet_Data,b_octet_Data,cr_octet_Data,oI,bytesV,h']
 ·refine ⟨false,?_⟩
  have h' : ¬(b.length : Int) > 65535:=by omega
  have hw:=wrap_len b hl
  have hP:=fun σ site own=>q_putC σ site own b.length 2 (by omega) (by omega)
  have hJ:=fun σ site own f=>q_joinC σ site own f (beB b.length 2) [b] (by simp) (by simp [beB_len];omega)
  simp only [List.map_cons,List.map_nil,bytesV,List.flatten_cons,List.flatten_nil,List.append_nil] at hJ
  have z2 : ((2 : Nat) : Int)=2:=rfl
  rw [z2] at hP
  rw [E_eq (by rfl) cf_octet_Data,if_neg h]
  simp -implicitDefEqProofs only [EVS0,EVS1,EVS5,EVS6,EVL0,eq_self,exI,nsite,freeAt,execI,Opd.ev,tget,tins,tput,keepL,sitesOf,List.sum_cons,List.sum_nil,Nat.reduceLT,Nat.reduceEqDiff,beq_self_eq_true,Bool.false_eq_true,binA,arithA,reduceCtorEq,decide_true,decide_false,resA,resAll,resOne,enterA,↓reduceIte,noRefL,cb_octet_Data,b_octet_Data,cr_octet_Data,oI,bytesV,h',hw,hP,hJ,viewAs,viewA,viewA1,freezeA,AVal.cells,List.foldl_cons,List.foldl_nil]
theorem q_dataC (σ : AHeap) (site own : Nat) (f : Bool) (b : Bytes) (hl : b.length≤9223372036854775807) : callG E BY σ site 55 own true [.lst f (b.map byteV)]=some (byT (dataF b),σ,{}):=by
 obtain ⟨g,h⟩:=q_data b hl
 exact call_normT h (by kernel_rfl) rfl rfl rfl (fun _=>rfl) _ _ _
def textF (s : Bytes) : Bytes×Int:=if textB s then dataF s else ([],13)
theorem q_text (s : Bytes) (hl : s.length≤9223372036854775807) : ∃ f,E 54 [.str s] []=some (.tup [.lst f ((textF s).1.map byteV),.int .i64 (textF s).2],[]):=by
 have hI:=fun σ site own=>q_istextC σ site own true s
 have hD:=fun σ site own f=>q_dataC σ site own f s hl
 unfold textF
 cases h : textB s <;> rw [h] at hI
 ·refine ⟨true,?_⟩
  rw [E_eq (by rfl) cf_octet_Text]
  simp -implicitDefEqProofs only [EVS0,EVS1,EVS5,EVS6,EVL0,eq_self,exI,nsite,freeAt,execI,Opd.ev,tget,tins,tput,keepL,sitesOf,List.sum_cons,List.sum_nil,Nat.reduceLT,Nat.reduceEqDiff,beq_self_eq_true,Bool.false_eq_true,unA,reduceCtorEq,resA,resAll,resOne,enterA,↓reduceIte,noRefL,cb_octet_Text,b_octet_Text,cr_octet_Text,oI,hI]
 ·refine ⟨false,?_⟩
  rw [E_eq (by rfl) cf_octet_Text]
  simp -implicitDefEqProofs only [EVS0,EVS1,EVS5,EVS6,EVL0,eq_self,exI,nsite,freeAt,execI,Opd.ev,tget,tins,tput,keepL,sitesOf,List.sum_cons,List.sum_nil,Nat.reduceLT,Nat.reduceEqDiff,beq_self_eq_true,Bool.false_eq_true,unA,reduceCtorEq,resA,resAll,resOne,enterA,↓reduceIte,noRefL,cb_octet_Text,b_octet_Text,cr_octet_Text,oI,hI,hD,byT]
theorem q_textC (σ : AHeap) (site own : Nat) (s : Bytes) (hl : s.length≤9223372036854775807) : callG E BY σ site 54 own true [.str s]=some (byT (textF s),σ,{}):=by
 obtain ⟨g,h⟩:=q_text s hl
 exact call_normT h (by kernel_rfl) rfl rfl rfl (fun _=>rfl) _ _ _
end Go.Proofs.YtmlkhhidifjjfaaDoor
namespace Go.Proofs.YtmlkhhidifjjfaaDoor
set_option maxHeartbeats 8000000
set_option maxRecDepth 10000
def gdT (x : Bytes×Nat×Int) : AVal:=.tup [.lst false (x.1.map byteV),.int .i64 (x.2.1 : Nat),.int .i64 x.2.2]
def gtT (x : Bytes×Nat×Int) : AVal:=.tup [.str x.1,.int .i64 (x.2.1 : Nat),.int .i64 x.2.2]
theorem getU2 (b : Bytes) (h : b.length≤2) : getU b < 65536:=by
 unfold getU
 match b,h with
 | [],_=>simp [getA_nil]
 | [a],_=>rw [getA_cons,getA_nil];have:=a.toNat_lt;omega
 | [a,c],_=>rw [getA_cons,getA_cons,getA_nil];have:=a.toNat_lt;have:=c.toNat_lt;omega
def getTextF (b : Bytes) : Bytes×Nat×Int:=if (getDataF b).2.2≠0 then ([],0,(getDataF b).2.2) else if textB (getDataF b).1 then getDataF b else ([],0,13)
theorem q_getdata (b : Bytes) (hl : b.length≤140737488355328) : ∃ f,E 106 [bytesV b] []=some (.tup [.lst f ((getDataF b).1.map byteV),.int .i64 ((getDataF b).2.1 : Nat),.int .i64 (getDataF b).2.2],[]):=by
 have t2 : (b.take 2).length≤9223372036854775807:=by simp;omega
 have hG:=fun σ site own f=>q_getC σ site own (b.take 2) t2 f
 have hg:=getU2 (b.take 2) (by simp;omega)
 unfold getDataF
 generalize hGG : getU (b.take 2)=g at *
 have hi : IntKind.i64.wrap (g : Int)=(g : Int):=wrap_nat (by omega) (by omega)
 by_cases h1 : b.length < 2
 ·have h1' : (b.length : Int) < 2:=by omega
  refine ⟨true,?_⟩
  rw [E_eq (by rfl) cf_octet_GetData,if_pos (Or.inl h1)]
  simp -implicitDefEqProofs only [EVS0,EVS1,EVS5,EVS6,EVL0,eq_self,exI,nsite,freeAt,execI,Opd.ev,tget,tins,tput,keepL,sitesOf,List.sum_cons,List.sum_nil,Nat.reduceLT,Nat.reduceEqDiff,beq_self_eq_true,binA,arithA,gSpan,gSkip,ne_eq,Option.some.injEq,reduceCtorEq,decide_true,decide_false,resA,resAll,resOne,enterA,↓reduceIte,noRefL,cb_octet_GetData,b_octet_GetData,cr_octet_GetData,oI,bytesV,h1']
  rfl
 ·have h1' : ¬(b.length : Int) < 2:=by omega
  have s2:=fun σ kk=>slice_hi σ 1 b byteV kk 2 (by omega) (by omega)
  have e2 : (2 : Int).toNat=2:=rfl
  rw [e2] at s2
  have w1 : IntKind.i64.wrap ((b.length : Int) - 2)=((b.length - 2 : Nat) : Int):=by rw [wrap_nat (by omega) (by omega)];omega
  by_cases h3 : b.length - 2 < g
  ·have h3' : ((b.length - 2 : Nat) : Int) < (g : Int):=by omega
   refine ⟨true,?_⟩
   rw [E_eq (by rfl) cf_octet_GetData,if_pos (Or.inr h3)]
   simp -implicitDefEqProofs only [EVS0,EVS1,EVS5,EVS6,EVL0,eq_self,exI,nsite,freeAt,execI,Opd.ev,tget,tins,tput,keepL,sitesOf,List.sum_cons,List.sum_nil,Nat.reduceLT,Nat.reduceEqDiff,beq_self_eq_true,Bool.false_eq_true,binA,arithA,gSpan,unG,ne_eq,Option.some.injEq,reduceCtorEq,decide_true,decide_false,resA,resAll,resOne,enterA,↓reduceIte,noRefL,cb_octet_GetData,b_octet_GetData,cr_octet_GetData,oI,bytesV,h1',s2,hG,hi,w1,h3']
   rfl
  ·have h3' : ¬((b.length - 2 : Nat) : Int) < (g : Int):=by omega
   have w2 : IntKind.i64.wrap (2+(g : Int))=((2+g : Nat) : Int):=by rw [wrap_nat (by omega) (by omega)];omega
   have s3:=fun σ k1 k2=>slice_lh σ b k1 k2 2 ((2+g : Nat) : Int) (by omega) (by omega) (by omega)
   have e3 : (((2+g : Nat) : Int)).toNat=2+g:=rfl
   have e4 : (b.take (2+g)).drop 2=(b.drop 2).take g:=by rw [List.drop_take];congr 1;omega
   rw [e2,e3,e4] at s3
   have hJ:=fun σ site own f=>q_joinC σ site own f ((b.drop 2).take g) [] (by simp) (by simp;omega)
   simp only [List.map_cons,List.map_nil,bytesV,List.flatten_cons,List.flatten_nil,List.append_nil] at hJ
   have hc : ¬(b.length < 2∨b.length - 2 < g):=by omega
   refine ⟨false,?_⟩
   rw [E_eq (by rfl) cf_octet_GetData,if_neg hc]
   simp -implicitDefEqProofs only [EVS0,EVS1,EVS5,EVS6,EVL0,eq_self,exI,nsite,freeAt,execI,Opd.ev,tget,tins,tput,keepL,sitesOf,List.sum_cons,List.sum_nil,Nat.reduceLT,Nat.reduceEqDiff,beq_self_eq_true,Bool.false_eq_true,binA,arithA,gSpan,unG,ne_eq,Option.some.injEq,reduceCtorEq,decide_true,decide_false,resA,resAll,resOne,enterA,↓reduceIte,noRefL,cb_octet_GetData,b_octet_GetData,cr_octet_GetData,oI,bytesV,h1',s2,hG,hi,w1,h3',w2,s3,hJ,viewAs,viewA,viewA1,freezeA,AVal.cells,List.foldl_cons,List.foldl_nil]
theorem q_getdataC (σ : AHeap) (site own : Nat) (f : Bool) (b : Bytes) (hl : b.length≤140737488355328) : callG E BY σ site 106 own true [.lst f (b.map byteV)]=some (gdT (getDataF b),σ,{}):=by
 obtain ⟨g,h⟩:=q_getdata b hl
 exact call_normT h (by kernel_rfl) rfl rfl rfl (fun _=>rfl) _ _ _
theorem q_gettext (b : Bytes) (hl : b.length≤140737488355328) : E 109 [bytesV b] []=some (gtT (getTextF b),[]):=by
 have hD:=fun σ site own f=>q_getdataC σ site own f b hl
 unfold gdT at hD
 have hI:=fun σ site own=>q_istextC σ site own true (getDataF b).1
 unfold getTextF
 by_cases h0 : (getDataF b).2.2=0
 ·have hn0 : ¬((getDataF b).2.2≠0):=by omega
  have e0 : ((0 : Int) != 0)=false:=rfl
  have hp : getDataF b=((getDataF b).1,(getDataF b).2.1,0):=by rw [←h0]
  rw [if_neg hn0]
  rw [hp]
  simp only
  rw [h0] at hD
  generalize (getDataF b).1=d at *
  generalize (getDataF b).2.1=u at *
  rw [E_eq (by rfl) cf_octet_GetText]
  cases ht : textB d <;> rw [ht] at hI
  ·simp -implicitDefEqProofs only [EVS0,EVS1,EVS5,EVS6,EVL0,eq_self,exI,nsite,freeAt,execI,Opd.ev,tget,tins,tput,keepL,sitesOf,List.sum_cons,List.sum_nil,Nat.reduceLT,Nat.reduceEqDiff,beq_self_eq_true,Bool.false_eq_true,binA,arithA,unA,Option.some.injEq,reduceCtorEq,elemsA,resA,resAll,resOne,enterA,↓reduceIte,noRefL,cb_octet_GetText,b_octet_GetText,cr_octet_GetText,oI,bytesV,hD,hI,e0,gtT]
   rfl
  ·simp -implicitDefEqProofs only [EVS0,EVS1,EVS5,EVS6,EVL0,eq_self,exI,nsite,freeAt,execI,Opd.ev,tget,tins,tput,keepL,sitesOf,List.sum_cons,List.sum_nil,Nat.reduceLT,Nat.reduceEqDiff,beq_self_eq_true,Bool.false_eq_true,binA,arithA,unA,reduceCtorEq,elemsA,resA,resAll,resOne,enterA,↓reduceIte,noRefL,cb_octet_GetText,b_octet_GetText,cr_octet_GetText,oI,bytesV,hD,hI,e0,gtT]
 ·have hn0 : ((getDataF b).2.2≠0):=h0
  have e0 : ((getDataF b).2.2 != 0)=true:=by simpa using h0
  rw [if_pos hn0]
  generalize (getDataF b).2.2=e at *
  rw [E_eq (by rfl) cf_octet_GetText]
  simp -implicitDefEqProofs only [EVS0,EVS1,EVS5,EVS6,EVL0,eq_self,exI,nsite,freeAt,execI,Opd.ev,tget,tins,tput,keepL,sitesOf,List.sum_cons,List.sum_nil,Nat.reduceLT,Nat.reduceEqDiff,beq_self_eq_true,binA,arithA,Option.some.injEq,reduceCtorEq,resA,resAll,resOne,enterA,↓reduceIte,noRefL,cb_octet_GetText,b_octet_GetText,cr_octet_GetText,oI,bytesV,hD,e0,gtT]
  rfl
theorem q_gettextC (σ : AHeap) (site own : Nat) (f : Bool) (b : Bytes) (hl : b.length≤140737488355328) : callG E BY σ site 109 own true [.lst f (b.map byteV)]=some (gtT (getTextF b),σ,{}) :=
 call_normT (q_gettext b hl) (by kernel_rfl) rfl rfl rfl (fun _=>rfl) _ _ _
end Go.Proofs.YtmlkhhidifjjfaaDoor
namespace Go.Proofs.YtmlkhhidifjjfaaDoor
set_option maxHeartbeats 4000000
theorem call_refT {O : Oracle} {byref : Nat→Bool} {σ : AHeap} {t f : Nat} {rest : List AVal} {cs cs' : List AVal} {r r' : AVal} (hb : byref f=false) (hp : rest.all plainV=true) (hc : noRefL cs=true) (hc' : noRefL cs'=true) (hn : noRef r'=true) (hv : viewR [.var cs'] r=some (r',[]))
  (h : O f (.ref 0 0::rest.map normV) [.var cs]=some (r,[.var cs'])) (hs : σ[t]?=some (.var cs)) (site : Nat) : callG O byref σ site f 0 true (.ref t 0::rest)=some (r',σ.set t (.var cs'),{ any:=true,upd:=[(t,cs')] }):=by
 have htl : t < σ.length:=by
  rcases Nat.lt_or_ge t σ.length with h | h
  ·exact h
  ·rw [List.getElem?_eq_none h] at hs;cases hs
 have hup : updOf (σ.set t (.var cs')) [t]=[(t,cs')]:=by
  simp only [updOf,List.getElem?_set,if_pos htl,if_true]
 have hd : σ.getD t .free=.var cs:=by simp [List.getD_eq_getElem?_getD,hs]
 have hf0 : freezeA σ []=σ:=rfl
 have hsh : showAs σ (.ref t 0::rest)=some (.ref t 0::rest.map normV,[]):=by
  rw [showAs,show showA σ (.ref t 0)=some (.ref t 0,[]) from rfl,plainVs_show hp]
  rfl
 have href : refsL (.ref t 0::rest.map normV)=[t]:=by
  rw [refsL,normVs_refs hp];rfl
 unfold callG showIf
 rw [hb]
 simp only [Bool.false_eq_true,if_false,hsh,hf0,href,reach_one hs hc]
 unfold callI
 have hall : ([t].all fun t=>okB (σ.getD t .free))=true:=by simp [List.all_cons,List.all_nil,hs,okB]
 rw [if_pos hall]
 have hρ : rhoOf σ 0 [t] t 0=some (0,0):=by simp [rhoOf,idxA,hs,genB,newGen]
 have hheap : heapOf σ 0 [t] (rhoOf σ 0 [t]) [t] 0=[.var cs]:=by
  simp only [heapOf,hd,renB,(noRefL_spec _ cs hc).1]
 have hargs : renL (rhoOf σ 0 [t]) (.ref t 0::rest.map normV)=.ref 0 0::rest.map normV:=by
  rw [renL,normVs_ren hp]
  simp only [renV,hρ]
 rw [hargs,hheap,h]
 have hask : askO true [t].length (some (r,[.var cs']))=some (r',[.var cs']):=by
  unfold askO
  rw [if_pos rfl]
  have hnp : ∀ x,r≠.pan x:=by rintro x rfl;simp [viewR,viewA,viewA1] at hv
  rw [show resV [t].length (some (r,[.var cs']))=(match viewR [.var cs'] r with
   | some (r',ts)=>match gcA [t].length [r'] (freezeA [.var cs'] ts) with
    | ([r''],σ')=>some (r'',σ')
    | _=>none
   | none=>none) from by cases r <;> first | rfl | exact absurd rfl (hnp _)]
  rw [hv]
  simp only [List.length_cons,List.length_nil,Nat.zero_add,show freezeA [ABlk.var cs'] []=[.var cs'] from rfl,gc_one hn hc']
 rw [hask]
 have hk : okBack σ [t] [.var cs'] 0=true:=by
  simp [okBack,okB,hs,sameKind,genB]
 simp only [backG,List.isEmpty_cons,Bool.false_eq_true,if_false,List.length_cons,List.length_nil,Nat.zero_add,Nat.add_zero,Nat.le_refl,decide_true,hk,freeFrom,Bool.and_self,if_true,layBack,tgtBack,List.getD_cons_zero,renB,(noRef_spec _ r' hn).1,(noRefL_spec _ cs' hc').1,hup]
theorem call_refP {O : Oracle} {byref : Nat→Bool} {σ : AHeap} {t f : Nat} {rest : List AVal} {cs cs' : List AVal} {x : AVal} {view : Bool} (hb : byref f=false) (hp : rest.all plainV=true) (hc : noRefL cs=true) (hc' : noRefL cs'=true) (hn : noRef x=true)
  (h : O f (.ref 0 0::rest.map normV) [.var cs]=some (.pan x,[.var cs'])) (hs : σ[t]?=some (.var cs)) (site : Nat) : callG O byref σ site f 0 view (.ref t 0::rest)=some (.pan x,σ.set t (.var cs'),{ any:=true,upd:=[(t,cs')] }):=by
 have htl : t < σ.length:=by
  rcases Nat.lt_or_ge t σ.length with h | h
  ·exact h
  ·rw [List.getElem?_eq_none h] at hs;cases hs
 have hup : updOf (σ.set t (.var cs')) [t]=[(t,cs')]:=by
  simp only [updOf,List.getElem?_set,if_pos htl,if_true]
 have hd : σ.getD t .free=.var cs:=by simp [List.getD_eq_getElem?_getD,hs]
 have hf0 : freezeA σ []=σ:=rfl
 have hsh : showAs σ (.ref t 0::rest)=some (.ref t 0::rest.map normV,[]):=by
  rw [showAs,show showA σ (.ref t 0)=some (.ref t 0,[]) from rfl,plainVs_show hp]
  rfl
 have href : refsL (.ref t 0::rest.map normV)=[t]:=by
  rw [refsL,normVs_refs hp];rfl
 unfold callG showIf
 rw [hb]
 simp only [Bool.false_eq_true,if_false,hsh,hf0,href,reach_one hs hc]
 unfold callI
 have hall : ([t].all fun t=>okB (σ.getD t .free))=true:=by simp [List.all_cons,List.all_nil,hs,okB]
 rw [if_pos hall]
 have hρ : rhoOf σ 0 [t] t 0=some (0,0):=by simp [rhoOf,idxA,hs,genB,newGen]
 have hheap : heapOf σ 0 [t] (rhoOf σ 0 [t]) [t] 0=[.var cs]:=by
  simp only [heapOf,hd,renB,(noRefL_spec _ cs hc).1]
 have hargs : renL (rhoOf σ 0 [t]) (.ref t 0::rest.map normV)=.ref 0 0::rest.map normV:=by
  rw [renL,normVs_ren hp]
  simp only [renV,hρ]
 rw [hargs,hheap,h]
 have hask : askO view [t].length (some (.pan x,[.var cs']))=some (.pan x,[.var cs']):=by
  unfold askO
  split <;> rfl
 rw [hask]
 have hk : okBack σ [t] [.var cs'] 0=true:=by
  simp [okBack,okB,hs,sameKind,genB]
 have hnp : noRef (.pan x)=true:=by simpa only [noRef] using hn
 simp only [backG,List.isEmpty_cons,Bool.false_eq_true,if_false,List.length_cons,List.length_nil,Nat.zero_add,Nat.add_zero,Nat.le_refl,decide_true,hk,freeFrom,Bool.and_self,if_true,layBack,tgtBack,List.getD_cons_zero,renB,(noRef_spec _ _ hnp).1,(noRefL_spec _ cs' hc').1,hup]
end Go.Proofs.YtmlkhhidifjjfaaDoor
