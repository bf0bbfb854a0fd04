/- ABS: whole functions: what the interpreter says, the program does. -/
import Derived.Test.YtaaflagbhneakaaDoorAbsAny
import Derived.Scope
namespace Go.Proofs.YtaaflagbhneakaaDoor
set_option linter.unusedSimpArgs false
set_option linter.unusedVariables false
open Go.RowKit

section
variable {P : Program} {O : Oracle} {byref : Nat → Bool} {an : Ann} {base : Nat → Prop} {w0 : World} {I0 : Imm}

/-- the frame and the world within a call that began with m blocks -/
def StF (m nt : Nat) (base : Nat → Prop) (w0 : World) (I0 I : Imm) (β : Bmap) (tm : Tms) (σ : AHeap) (a : Act) (w : World) : Prop :=
  ∃ I' β', I.le I' ∧ KeptE m β β' ∧ TR I' β' tm a.tmps ∧ (a.defers = [] ∧ nt ≤ a.tmps.size) ∧ Rel base w0 I0 I' β' σ w
def OutF (m : Nat) (an : Ann) (base : Nat → Prop) (w0 : World) (I0 I : Imm) (β : Bmap) (e : AExit) (tm : Tms) (σ : AHeap) (Q : Exit → Act → World → Prop) : Prop := match e with
  | .normal => ∀ a w, StF m an.nt base w0 I0 I β tm σ a w → Q .normal a w
  | .exit id => ∀ a w, StF m an.nt base w0 I0 I β tm σ a w → Q (.exit id) a w
  | .ret => ∀ a w, StF m an.nt base w0 I0 I β tm σ a w → Q .ret a w
  | .panic x => ∀ a u w, a.defers = [] → PostF m base w0 I0 I β (.pan x) σ u w → Q (.panic [{ v := u, recovered := false }]) a w
theorem StF.cond {m : Nat} {I : Imm} {β : Bmap} {tm : Tms} {σ : AHeap} {a : Act} {w : World} (h : StF m an.nt base w0 I0 I β tm σ a w) {c : Operand} {y : Opd} (hc : compO c = some y) {b : Bool} (hv : y.ev tm = .bool b) : a.eval c = .bool b := by
  obtain ⟨I', β', _, _, T, _, _⟩ := h
  have := compO_sound T hc
  rw [hv] at this
  simpa only [VR] using this

theorem code_sound (hO : OrOk P O) (hm : P.follows .mixedOrders = true) (hb : KLt base w0) (m n : Nat) : ∀ {c : Code} {ac : ACode}, compC P an c = ac → ∀ {I : Imm} {β : Bmap} {tm tm' : Tms} {σ σ' : AHeap} {a : Act} {w : World} {e : AExit}, StF m an.nt base w0 I0 I β tm σ a w → execC O byref m n ac tm σ = some (e, tm', σ') →
    ∀ {Q : Exit → Act → World → Prop}, OutF m an base w0 I0 I β e tm' σ' Q → c.wp P Q a w := by
  intro c
  induction c with
  | skip =>
    intro ac hc I β tm tm' σ σ' a w e hst h Q hQ
    simp only [compC] at hc; subst hc
    simp only [execC, Option.some.injEq, Prod.mk.injEq] at h
    obtain ⟨rfl, rfl, rfl⟩ := h
    exact wp_skip (hQ a w hst)
  | region id ops draw =>
    intro ac hc I β tm tm' σ σ' a w e hst h Q hQ
    obtain ⟨asl, chk, live, rfl⟩ : ∃ asl chk live, ac = .region asl chk live := by
      simp only [compC] at hc
      split at hc
      · split at hc
        · split at hc
          · exact ⟨_, _, _, hc.symm⟩
          · subst hc; simp only [execC] at h; cases h
        · exact ⟨_, _, _, hc.symm⟩
      · subst hc; simp only [execC] at h; cases h
    simp only [execC] at h
    obtain ⟨I1, β1, g1, g2, g3, g4, g5⟩ := hst
    have up : ∀ {tm : Tms} {σ : AHeap} {a' : Act} {w' : World}, StR an.nt base w0 I0 I1 β1 tm σ a' w' → StF m an.nt base w0 I0 I β tm σ a' w' := by
      rintro tm σ a' w' ⟨I2, β2, k1, k2, k3⟩
      exact ⟨I2, β2, g1.trans k1, g2.trans (KeptE.of_le k2), k3⟩
    refine region_sound hO hm hb hc (⟨I1, β1, Imm.le.refl I1, Bmap.le.refl β1, g3, g4, g5⟩ : StR an.nt base w0 I0 I1 β1 tm σ a w) h ?_
    cases e with
    | normal => exact fun a' w' hs => hQ a' w' (up hs)
    | exit id => exact fun a' w' hs => hQ a' w' (up hs)
    | ret => exact fun a' w' hs => hQ a' w' (up hs)
    | panic x =>
      rintro a' u w' hd ⟨I2, β2, k1, k2, k3, k4⟩
      exact hQ a' u w' hd ⟨I2, β2, g1.trans k1, g2.trans (KeptE.of_le k2), k3, k4⟩
  | seq x y ihx ihy =>
    intro ac hc I β tm tm' σ σ' a w e hst h Q hQ
    simp only [compC] at hc
    subst hc
    simp only [execC] at h
    refine wp_seq ?_
    split at h
    · rename_i tm1 σ1 h1
      exact ihx rfl hst h1 (fun a' w' hs => ihy rfl hs h hQ)
    · rename_i hne
      refine ihx rfl hst h ?_
      cases e with
      | normal => exact absurd h (hne _ _)
      | exit id => exact hQ
      | ret => exact hQ
      | panic x => exact hQ
  | cond c x y ihx ihy =>
    intro ac hc I β tm tm' σ σ' a w e hst h Q hQ
    simp only [compC] at hc
    split at hc
    · rename_i c' hcc
      subst hc
      simp only [execC] at h
      split at h
      · rename_i hv
        exact wp_cond_true (hst.cond hcc hv) (ihx rfl hst h hQ)
      · rename_i hv
        exact wp_cond_false (hst.cond hcc hv) (ihy rfl hst h hQ)
      · cases h
    · subst hc; simp only [execC] at h; cases h
  | block id x ih =>
    intro ac hc I β tm tm' σ σ' a w e hst h Q hQ
    simp only [compC] at hc
    subst hc
    have hx : compC P an x = compC P an x := rfl
    simp only [execC] at h
    refine wp_block ?_
    split at h
    · rename_i i tm1 σ1 h1
      refine ih hx hst h1 ?_
      intro a' w' hs
      simp only [Exit.inBlock]
      split at h
      · rename_i hid
        simp only [Option.some.injEq, Prod.mk.injEq] at h
        obtain ⟨rfl, rfl, rfl⟩ := h
        rw [if_pos hid]
        exact hQ a' w' hs
      · rename_i hid
        simp only [Option.some.injEq, Prod.mk.injEq] at h
        obtain ⟨rfl, rfl, rfl⟩ := h
        rw [if_neg hid]
        exact hQ a' w' hs
    · rename_i hne
      refine ih hx hst h ?_
      cases e with
      | normal => exact hQ
      | exit id => exact absurd h (hne _ _ _)
      | ret => exact hQ
      | panic x => exact hQ
  | loop x ih =>
    intro ac hc I β tm tm' σ σ' a w e hst h Q hQ
    simp only [compC] at hc
    subst hc
    have hx : compC P an x = compC P an x := rfl
    simp only [execC] at h
    refine wp_loop_rounds n ?_
    have key : ∀ k {tm : Tms} {σ : AHeap} {a : Act} {w : World}, StF m an.nt base w0 I0 I β tm σ a w → iterA m (an.ll (firstId x)) (execC O byref m n (compC P an x)) k tm σ = some (e, tm', σ') → Code.rounds P x Q k a w := by
      intro k
      induction k with
      | zero => intro tm σ a w _ h; simp only [iterA] at h; cases h
      | succ k ihk =>
        intro tm σ a w hst h
        rw [rounds_succ]
        simp only [iterA] at h
        obtain ⟨I1, β1, k1, k2, k3, k4, k5⟩ := hst
        obtain ⟨β2, q1, q2, q3⟩ := gcT_sound k5 (k3.keep (an.ll (firstId x))) m
        have hst0 : StF m an.nt base w0 I0 I β (gcT m (keepL (an.ll (firstId x)) tm) σ).1 (gcT m (keepL (an.ll (firstId x)) tm) σ).2 a w := ⟨I1, β2, k1, k2.trans q1, q3, k4, q2⟩
        split at h
        · rename_i tm1 σ1 h1
          exact ih hx hst0 h1 (fun a' w' hs => ihk hs h)
        · rename_i hne
          refine ih hx hst0 h ?_
          cases e with
          | normal => exact absurd h (hne _ _)
          | exit id => exact hQ
          | ret => exact hQ
          | panic x => exact hQ
    exact key n hst h
  | exit id =>
    intro ac hc I β tm tm' σ σ' a w e hst h Q hQ
    simp only [compC] at hc; subst hc
    simp only [execC, Option.some.injEq, Prod.mk.injEq] at h
    obtain ⟨rfl, rfl, rfl⟩ := h
    exact wp_exit (hQ a w hst)
  | ret =>
    intro ac hc I β tm tm' σ σ' a w e hst h Q hQ
    simp only [compC] at hc; subst hc
    simp only [execC, Option.some.injEq, Prod.mk.injEq] at h
    obtain ⟨rfl, rfl, rfl⟩ := h
    exact wp_ret (hQ a w hst)
  | rangeFunc f ps x y => intro ac hc I β tm tm' σ σ' a w e hst h; simp only [compC] at hc; subst hc; simp only [execC] at h; cases h
  | scope x ih =>
    intro ac hc I β tm tm' σ σ' a w e hst h Q hQ
    simp only [compC] at hc
    refine wp_scope_straight (ih hc hst h ?_)
    cases e with
    | normal => exact hQ
    | exit id => exact hQ
    | ret => exact hQ
    | panic x => exact hQ
  | label l =>
    intro ac hc I β tm tm' σ σ' a w e hst h Q hQ
    simp only [compC] at hc; subst hc
    simp only [execC, Option.some.injEq, Prod.mk.injEq] at h
    obtain ⟨rfl, rfl, rfl⟩ := h
    exact wp_label (hQ a w hst)
  | goto l => intro ac hc I β tm tm' σ σ' a w e hst h; simp only [compC] at hc; subst hc; simp only [execC] at h; cases h
  | refuse why => intro ac hc I β tm tm' σ σ' a w e hst h; simp only [compC] at hc; subst hc; simp only [execC] at h; cases h

theorem ld_ptr {I : Imm} {β : Bmap} {σ σ' : AHeap} {k : Option Nat} {a x : AVal} {c : Cls} {v : Value} (ha : VR I β a v) (h : ldA σ k a = some (x, σ', c)) : ∃ ad, v = .pointer (some ad) := by
  unfold ldA at h
  split at h
  · simp only [VR] at ha; obtain ⟨b, k, c, _, rfl⟩ := ha; exact ⟨_, rfl⟩
  · simp only [VR] at ha; obtain ⟨b, k, c, _, rfl⟩ := ha; exact ⟨_, rfl⟩
  · simp only [VR] at ha; obtain ⟨b, off, rfl, _⟩ := ha; exact ⟨_, rfl⟩
  · cases h
def resF (tmps : Array Value) : ResultVar → Sem Value
  | .tmp t => pure (tmps.getD t undef)
  | .cell a t => do loadVar t (← asAddr (tmps.getD a undef))
theorem res_list {I : Imm} {β : Bmap} {tm : Tms} {σ : AHeap} {w : World} {tmps : Array Value} (T : TR I β tm tmps) (R : Rel base w0 I0 I β σ w) : ∀ {rs : List ResultVar} {asl : List ARes} {xs : List AVal}, compR P rs = some asl → resAll tm σ asl = some xs →
    ∃ vs : List Value, (rs.mapM (resF tmps)).run P w = .ok vs w ∧ VRs I β xs vs
  | [], asl, xs, hc, h => by
    simp only [compR, Option.some.injEq] at hc; subst hc
    simp only [resAll, Option.some.injEq] at h; subst h
    exact ⟨[], by simp, by simp only [VRs]⟩
  | r :: rs, asl, xs, hc, h => by
    have getD_eq : ∀ t, VR I β (tget tm t) (tmps.getD t undef) := T
    cases r with
    | tmp t =>
      simp only [compR, Option.map_eq_some_iff] at hc
      obtain ⟨as', has, rfl⟩ := hc
      simp only [resAll, resOne] at h
      split at h
      · rename_i ys hys
        injection h with h; subst h
        obtain ⟨vs, h1, h2⟩ := res_list T R has hys
        exact ⟨tmps.getD t undef :: vs, by simp only [List.mapM_cons, resF, Sem.run_bind, Sem.run_pure, Result.andThen_ok, h1], by simp only [VRs]; exact ⟨_, _, rfl, getD_eq t, h2⟩⟩
      · cases h
    | cell a t =>
      simp only [compR] at hc
      split at hc
      · rename_i k as' hk has
        injection hc with hc; subst hc
        simp only [resAll, resOne] at h
        split at h
        · rename_i v hv
          split at h
          · rename_i ys hys
            injection h with h; subst h
            obtain ⟨vs, h1, h2⟩ := res_list T R has hys
            split at hv
            · rename_i v' σ1 c1 hld
              injection hv with hv; subst hv
              obtain ⟨u, hu1, hu2, _⟩ := run_ld hk R (getD_eq a) hld
              obtain ⟨ad, had⟩ := ld_ptr (getD_eq a) hld
              have hlv : (loadVar t ad).run P w = .ok u w := by
                rw [had] at hu1
                simpa [Instr.loadAt, Instr.sureAddr] using hu1
              refine ⟨u :: vs, ?_, by simp only [VRs]; exact ⟨_, _, rfl, hu2, h2⟩⟩
              simp only [List.mapM_cons, resF, had, asAddr, Sem.run_bind, Sem.run_pure, Result.andThen_ok, hlv, h1]
            · cases hv
          · cases h
        · cases h
      · cases hc
theorem res_sound {I : Imm} {β : Bmap} {tm : Tms} {σ : AHeap} {w : World} {tmps : Array Value} (T : TR I β tm tmps) (R : Rel base w0 I0 I β σ w) {fn : Func} {asl : List ARes} {x : AVal} (hc : compR P fn.results.toList = some asl) (h : resA tm σ asl = some x) : ∃ v, (results fn tmps).run P w = .ok v w ∧ VR I β x v := by
  unfold resA at h
  have run : ∀ {xs : List AVal}, resAll tm σ asl = some xs → ∃ vs : List Value, (results fn tmps).run P w = .ok (if h : vs.toArray.size = 1 then vs.toArray[0] else .tuple vs.toArray) w ∧ VRs I β xs vs := by
    intro xs hx
    obtain ⟨vs, h1, h2⟩ := res_list T R hc hx
    refine ⟨vs, ?_, h2⟩
    have hm : (fn.results.mapM (resF tmps)).run P w = .ok vs.toArray w := by
      rw [Array.mapM_eq_mapM_toList, Sem.run_map, h1]; rfl
    have he : results fn tmps = (do let vs ← fn.results.mapM (resF tmps); pure (if h : vs.size = 1 then vs[0] else .tuple vs)) := by
      unfold results
      congr 1
    rw [he, Sem.run_bind, hm]
    rfl
  split at h
  · rename_i v hv
    injection h with h; subst h
    obtain ⟨vs, h1, h2⟩ := run hv
    simp only [VRs] at h2
    obtain ⟨u, us, rfl, h3, rfl⟩ := h2
    exact ⟨u, by rw [h1]; simp, h3⟩
  · rename_i vs' hv hne
    injection h with h; subst h
    obtain ⟨vs, h1, h2⟩ := run hne
    have hl := VRs_length h2
    refine ⟨.tuple vs.toArray, ?_, by simp only [VR]; exact ⟨_, rfl, by simpa using h2⟩⟩
    rw [h1, dif_neg]
    intro hs
    simp only [List.size_toArray] at hs
    match vs', hl with
    | [v], _ => exact hv v rfl
    | [], hl => simp at hl; omega
    | _ :: _ :: _, hl => simp at hl; omega
  · cases h


theorem tget_enter : ∀ (args : List AVal) (i : Nat) (acc : Tms) (n : Nat), tget (enterA i args acc) n = if i ≤ n ∧ n < i + args.length then args.getD (n - i) .top else tget acc n
  | [], i, acc, n => by simp only [enterA, List.length_nil]; rw [if_neg (by omega)]
  | x :: xs, i, acc, n => by
    simp only [enterA, List.length_cons]
    rw [tget_enter xs (i + 1) _ n]
    by_cases h : i + 1 ≤ n ∧ n < i + 1 + xs.length
    · rw [if_pos h, if_pos (by omega), show n - i = (n - (i + 1)) + 1 by omega, List.getD_cons_succ]
    · rw [if_neg h]
      simp only [tget]
      by_cases h1 : i = n
      · subst h1
        rw [if_pos rfl, if_pos (by omega), Nat.sub_self, List.getD_cons_zero]
      · rw [if_neg h1, if_neg (by omega)]
theorem enter_TR {I : Imm} {β : Bmap} {args : List AVal} {vs : Array Value} (h : VRs I β args vs.toList) (n : Nat) : TR I β (enterA 0 args []) (vs ++ Array.replicate n undef) := by
  intro j
  rw [tget_enter]
  have hl := VRs_length h
  simp only [Array.length_toList] at hl
  split
  · rename_i hj
    have hjl : j < args.length := by omega
    obtain ⟨v, h1, h2⟩ := VRs_get h (List.getElem?_eq_getElem hjl)
    have e1 : args.getD (j - 0) .top = args[j] := by simp [List.getD_eq_getElem?_getD, hjl]
    have e2 : (vs ++ Array.replicate n undef).getD j undef = v := by
      rw [Array.getD_eq_getD_getElem?, Array.getElem?_append_left (by omega)]
      have : vs[j]? = some v := by simpa using h1
      rw [this]; rfl
    rw [e1, e2]; exact h2
  · simp only [tget, VR]

/-- a function that is told by hand -/
def PrimOk (P : Program) (prim : Prims) : Prop := ∀ f g, prim f = some g → ∀ args σ r σ', g args σ = some (r, σ') →
  (∃ fn, P.funcs[f]? = some fn ∧ fn.body.isSome = true ∧ (fn.name == "runtime.NumGoroutine") = false) ∧
  ∀ base w0 I0 I β w (vs : Array Value), KLt base w0 → Rel base w0 I0 I β σ w → VRs I β args vs.toList →
    Calls P f vs w (fun e w' => ∃ u, Ends r e u ∧ PostF σ.length base w0 I0 I β r σ' u w')

/-- every call that the interpreter tells comes out as it tells -/
theorem call_sound (hm : P.follows .mixedOrders = true) {prim : Prims} (hP : PrimOk P prim) (ann : Nat → Ann) (byref : Nat → Bool) : ∀ n, OrOk P (callA (compF P ann) prim byref n)
  | 0 => by intro f args σ r σ' h; simp only [callA] at h; cases h
  | n + 1 => by
    have ih := call_sound hm hP ann byref n
    intro f args σ r σ' h
    simp only [callA] at h
    split at h
    · rename_i g hg
      exact hP f g hg args σ r σ' h
    split at h
    · cases h
    rename_i fn hfn
    unfold compF at hfn
    split at hfn
    · rename_i F hF
      split at hfn
      · rename_i body hbody
        split at hfn
        · cases hfn
        · rename_i hname
          split at hfn
          · rename_i rs hrs
            injection hfn with hfn; subst hfn
            refine ⟨⟨F, hF, by rw [hbody]; rfl, by simpa using hname⟩, ?_⟩
            intro base w0 I0 I β w vs hb R hargs
            refine calls_of_wp hF hbody ?_
            have T := enter_TR hargs (F.ntmps - vs.size)
            have hst : StF σ.length F.ntmps base w0 I0 I β (enterA 0 args []) σ { tmps := vs ++ Array.replicate (F.ntmps - vs.size) undef, defers := [] } w := ⟨I, β, Imm.le.refl I, KeptE.refl _ β, T, ⟨rfl, by simp; omega⟩, R⟩
            cases hx : execC (callA (compF P ann) prim byref n) byref σ.length n (compC P { ann f with nt := F.ntmps } body) (enterA 0 args []) σ with
            | none => rw [hx] at h; simp only [finA] at h; cases h
            | some q =>
              obtain ⟨e, tm', σ1⟩ := q
              rw [hx] at h
              have fin : (match resA tm' σ1 rs with | some r => outA σ.length σ1 r | none => none) = some (r, σ') → ∀ a' w', StF σ.length F.ntmps base w0 I0 I β tm' σ1 a' w' → a'.defers = [] ∧ ∃ v, (results F a'.tmps).run P w' = .ok v w' ∧ ∃ u, Ends r (.returned v) u ∧ PostF σ.length base w0 I0 I β r σ' u w' := by
                intro hr a' w' ⟨I1, β1, g1, g2, g3, g4, g5⟩
                split at hr
                · rename_i x hx1
                  obtain ⟨v, h1, h2⟩ := res_sound g3 g5 hrs hx1
                  have hnp : ∀ y, x ≠ .pan y := by rintro y rfl; simp only [VR] at h2
                  obtain ⟨q1, q2⟩ := out_sound (⟨I1, β1, g1, g2, g5, by rw [valOf_npan hnp]; exact h2⟩ : PostF σ.length base w0 I0 I β x σ1 v w') hr
                  refine ⟨g4.1, v, h1, v, q2 _ ?_, q1⟩
                  cases x <;> first | rfl | exact absurd rfl (hnp _)
                · cases hr
              refine code_sound (an := { ann f with nt := F.ntmps }) ih hm hb σ.length n rfl hst hx ?_
              cases e with
              | normal => simp only [finA] at h; exact fun a' w' hs => fin h a' w' hs
              | ret => simp only [finA] at h; exact fun a' w' hs => fin h a' w' hs
              | exit id => simp only [finA] at h; cases h
              | panic x =>
                simp only [finA] at h
                intro a' u w' hd hp
                obtain ⟨q1, q2⟩ := out_sound hp h
                exact ⟨hd, u, q2 _ rfl, q1⟩
          · cases hfn
      · cases hfn
    · cases hfn
end
end Go.Proofs.YtaaflagbhneakaaDoor
