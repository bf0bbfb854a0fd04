/- ABS: one operation of the code, whatever it is. -/
import Derived.Test.YtaaflagbhneakaaDoorAbsEq
import Derived.Laws.Small
namespace Go.Proofs.YtaaflagbhneakaaDoor
set_option linter.unusedSimpArgs false
set_option linter.unusedVariables false
open Go.RowKit

section
variable {P : Program} {base : Nat → Prop} {w0 w w' : World} {I0 I I' : Imm} {β β' : Bmap} {σ σ' : AHeap} {tm : Tms}

theorem mapo {α : Type} {x : Option α} {f : α → AVal × AHeap × Cls} {y : AVal × AHeap × Cls} (h : x.map f = some y) : ∃ a, x = some a ∧ f a = y := by simpa [Option.map_eq_some_iff] using h

theorem run_beq {t : TypeId} (hu : P.underlying t = some .bool) (p q : Bool) (x y : Operand) : (do eqGuard .eql t x y (.bool p) (.bool q); binOp .eql t (.bool p) (.bool q) : Sem Value).run P w = .ok (.bool ((p == q) != false)) w := by
  have h1 : (eqGuard .eql t x y (.bool p) (.bool q)).run P w = .ok () w := by simp [eqGuard]
  simp only [Sem.run_bind, h1, Result.andThen_ok, run_eql_bool w t p q hu]
  cases p <;> cases q <;> rfl
theorem run_bne {t : TypeId} (hu : P.underlying t = some .bool) (p q : Bool) (x y : Operand) : (do eqGuard .neq t x y (.bool p) (.bool q); binOp .neq t (.bool p) (.bool q) : Sem Value).run P w = .ok (.bool ((p == q) != true)) w := by
  have h1 : (eqGuard .neq t x y (.bool p) (.bool q)).run P w = .ok () w := by simp [eqGuard]
  have h2 : (binOp .neq t (.bool p) (.bool q)).run P w = .ok (.bool (!(p == q))) w := by
    simp only [binOp, Sem.run_bind, run_equal_bool w t p q hu, Result.andThen_ok, Sem.run_pure]
  simp only [Sem.run_bind, h1, Result.andThen_ok, h2]
  cases p <;> cases q <;> rfl
theorem run_equal_ptr {t e : TypeId} (hu : P.underlying t = some (.pointer e)) (p q : Option Addr) (hpq : p = none ∨ q = none) : (Op.equal t (.pointer p) (.pointer q)).run P w = .ok (p.isNone && q.isNone) w := by
  show (Op.equalIn (9999 + 1) t (.pointer p) (.pointer q)).run P w = _
  unfold Op.equalIn
  rw [Sem.run_bind, run_underlying hu]
  simp only [Result.andThen_ok]
  rcases hpq with rfl | rfl
  · cases q <;> simp
  · cases p <;> simp
theorem run_peq {t e : TypeId} (hu : P.underlying t = some (.pointer e)) (p q : Option Addr) (x y : Operand) (hpq : p = none ∨ q = none) : (do eqGuard .eql t x y (.pointer p) (.pointer q); binOp .eql t (.pointer p) (.pointer q) : Sem Value).run P w = .ok (.bool ((p.isNone && q.isNone) != false)) w := by
  have h1 : (eqGuard .eql t x y (.pointer p) (.pointer q)).run P w = .ok () w := by simp [eqGuard]
  simp only [Sem.run_bind, h1, Result.andThen_ok, binOp, run_equal_ptr hu p q hpq, Sem.run_pure]
  simp
theorem run_pne {t e : TypeId} (hu : P.underlying t = some (.pointer e)) (p q : Option Addr) (x y : Operand) (hpq : p = none ∨ q = none) : (do eqGuard .neq t x y (.pointer p) (.pointer q); binOp .neq t (.pointer p) (.pointer q) : Sem Value).run P w = .ok (.bool ((p.isNone && q.isNone) != true)) w := by
  have h1 : (eqGuard .neq t x y (.pointer p) (.pointer q)).run P w = .ok () w := by simp [eqGuard]
  simp only [Sem.run_bind, h1, Result.andThen_ok, binOp, run_equal_ptr hu p q hpq, Sem.run_pure]
  simp
theorem run_ieq_nil {t : TypeId} {ms} (hu : P.underlying t = some (.interface ms)) (neg : Bool) {op : BinOp} (x : Operand) (vy : Value) (hop : op = (if neg then .neq else .eql)) : (do eqGuard op t x (.const vy) .nilIface .nilIface; binOp op t .nilIface .nilIface : Sem Value).run P w = .ok (.bool (true != neg)) w := by
  have h1 : (eqGuard op t x (.const vy) .nilIface .nilIface).run P w = .ok () w := by subst hop; cases neg <;> simp [eqGuard]
  have h2 : (Op.equal t .nilIface .nilIface).run P w = .ok true w := by
    show (Op.equalIn (9999 + 1) t .nilIface .nilIface).run P w = _
    unfold Op.equalIn
    rw [Sem.run_bind, run_underlying hu]
    simp only [Result.andThen_ok]
    rfl
  subst hop
  cases neg
  · simp only [Bool.false_eq_true, if_false] at h1 ⊢
    simp [h1, h2, binOp]
  · simp only [if_true] at h1 ⊢
    simp [h1, h2, binOp]
theorem run_ieq_held {t t1 : TypeId} {u : Value} {ms} (hu : P.underlying t = some (.interface ms)) (neg : Bool) {op : BinOp} (x : Operand) (vy : Value) (hop : op = (if neg then .neq else .eql)) : (do eqGuard op t x (.const vy) (.iface t1 u) .nilIface; binOp op t (.iface t1 u) .nilIface : Sem Value).run P w = .ok (.bool (false != neg)) w := by
  have h1 : (eqGuard op t x (.const vy) (.iface t1 u) .nilIface).run P w = .ok () w := by subst hop; cases neg <;> simp [eqGuard]
  have h2 : (Op.equal t (.iface t1 u) .nilIface).run P w = .ok false w := by
    show (Op.equalIn (9999 + 1) t (.iface t1 u) .nilIface).run P w = _
    unfold Op.equalIn
    rw [Sem.run_bind, run_underlying hu]
    simp only [Result.andThen_ok]
    rfl
  subst hop
  cases neg
  · simp only [Bool.false_eq_true, if_false] at h1 ⊢
    simp [h1, h2, binOp]
  · simp only [if_true] at h1 ⊢
    simp [h1, h2, binOp]
/-- an operation that ends, or panics -/
def OpR (P : Program) (s : Sem Next) (w : World) (base : Nat → Prop) (w0 : World) (I0 I : Imm) (β : Bmap) (v : AVal) (σ' : AHeap) : Prop :=
  OpOk P s w (Post base w0 I0 I β v σ') ∨ ∃ x, v = .pan x ∧ OpPan P s w (Post base w0 I0 I β x σ')
theorem OpR.of_call {s : Sem Next} {f : FuncId} {args : Array Value} {v : AVal} (h : s.run P w = .ok (.enter f args) w) (hc : Calls P f args w (fun e w' => ∃ u, Ends v e u ∧ Post base w0 I0 I β (valOf v) σ' u w')) : OpR P s w base w0 I0 I β v σ' := by
  by_cases hp : ∃ x, v = .pan x
  · obtain ⟨x, rfl⟩ := hp
    exact Or.inr ⟨x, rfl, Or.inr ⟨f, args, w, h, hc.mono fun e w' ⟨u, h1, h2⟩ => ⟨u, h1, h2⟩⟩⟩
  · have hn : ∀ x, v ≠ .pan x := fun x e => hp ⟨x, e⟩
    refine Or.inl (Or.inr (Or.inr ⟨f, args, w, h, hc.mono fun e w' ⟨u, h1, h2⟩ => ⟨u, ?_, by rw [valOf_npan hn] at h2; exact h2⟩⟩))
    cases v <;> first | exact h1 | exact absurd rfl (hn _)

set_option maxHeartbeats 1000000 in
theorem ins_move {O : Oracle} (hO : OrOk P O) {byref : Nat → Bool} {an : Ann} {a : Act} {o : Oper} {own : Nat} {ins : Ins} (x : Operand) (ho : o.op = .move x) (hc : compIns P an own (.move x) = some ins) (T : TR I β tm a.tmps) (R : Rel base w0 I0 I β σ w) (hb : KLt base w0)
    {site : Nat} (hsite : nsite ins ≠ 0 → σ[site]? = some .free) {v : AVal} {c : Cls} (h : execI O byref tm σ site ins = some (v, σ', c)) : OpOk P (execOp a.eval o) w (Post base w0 I0 I β v σ') := by
  rw [show execOp a.eval o = (pure (.value (a.eval x)) : Sem Next) by unfold execOp; rw [ho]]
  simp only [compIns] at hc
  simp only [Option.map_eq_some_iff] at hc
  obtain ⟨y, hy, rfl⟩ := hc
  simp only [execI, Option.some.injEq, Prod.mk.injEq] at h
  obtain ⟨rfl, rfl, rfl⟩ := h
  exact Or.inl ⟨_, w, rfl, Post.here R (compO_sound T hy)⟩
set_option maxHeartbeats 1000000 in
theorem ins_assign {O : Oracle} (hO : OrOk P O) {byref : Nat → Bool} {an : Ann} {a : Act} {o : Oper} {own : Nat} {ins : Ins} (x : Operand) (ho : o.op = .assign x) (hc : compIns P an own (.assign x) = some ins) (T : TR I β tm a.tmps) (R : Rel base w0 I0 I β σ w) (hb : KLt base w0)
    {site : Nat} (hsite : nsite ins ≠ 0 → σ[site]? = some .free) {v : AVal} {c : Cls} (h : execI O byref tm σ site ins = some (v, σ', c)) : OpOk P (execOp a.eval o) w (Post base w0 I0 I β v σ') := by
  rw [show execOp a.eval o = (pure (.value (a.eval x)) : Sem Next) by unfold execOp; rw [ho]]
  simp only [compIns] at hc
  simp only [Option.map_eq_some_iff] at hc
  obtain ⟨y, hy, rfl⟩ := hc
  simp only [execI, Option.some.injEq, Prod.mk.injEq] at h
  obtain ⟨rfl, rfl, rfl⟩ := h
  exact Or.inl ⟨_, w, rfl, Post.here R (compO_sound T hy)⟩
set_option maxHeartbeats 1000000 in
theorem ins_pick {O : Oracle} (hO : OrOk P O) {byref : Nat → Bool} {an : Ann} {a : Act} {o : Oper} {own : Nat} {ins : Ins} (x : Operand) (y : Operand) (z : Operand) (ho : o.op = .pick x y z) (hc : compIns P an own (.pick x y z) = some ins) (T : TR I β tm a.tmps) (R : Rel base w0 I0 I β σ w) (hb : KLt base w0)
    {site : Nat} (hsite : nsite ins ≠ 0 → σ[site]? = some .free) {v : AVal} {c : Cls} (h : execI O byref tm σ site ins = some (v, σ', c)) : OpOk P (execOp a.eval o) w (Post base w0 I0 I β v σ') := by
  rw [show execOp a.eval o = (do pure (.value (if ← asBool (a.eval x) then a.eval y else a.eval z)) : Sem Next) by unfold execOp; rw [ho]]
  simp only [compIns] at hc
  split at hc
  · rename_i c' a' b' hx hy hz
    injection hc with hc; subst hc
    have hx' := compO_sound T hx
    simp only [execI] at h
    unfold pickX at h
    split at h
    · rename_i e
      rw [e] at hx'; simp only [VR] at hx'
      simp only [Option.some.injEq, Prod.mk.injEq] at h
      obtain ⟨rfl, rfl, rfl⟩ := h
      exact Or.inl ⟨_, w, by simp [hx', asBool], Post.here R (compO_sound T hy)⟩
    · rename_i e
      rw [e] at hx'; simp only [VR] at hx'
      simp only [Option.some.injEq, Prod.mk.injEq] at h
      obtain ⟨rfl, rfl, rfl⟩ := h
      exact Or.inl ⟨_, w, by simp [hx', asBool], Post.here R (compO_sound T hz)⟩
    · cases h
  · cases hc
set_option maxHeartbeats 1000000 in
theorem ins_alloc {O : Oracle} (hO : OrOk P O) {byref : Nat → Bool} {an : Ann} {a : Act} {o : Oper} {own : Nat} {ins : Ins} (e : TypeId) (ho : o.op = .alloc e) (hc : compIns P an own (.alloc e) = some ins) (T : TR I β tm a.tmps) (R : Rel base w0 I0 I β σ w) (hb : KLt base w0)
    {site : Nat} (hsite : nsite ins ≠ 0 → σ[site]? = some .free) {v : AVal} {c : Cls} (h : execI O byref tm σ site ins = some (v, σ', c)) : OpOk P (execOp a.eval o) w (Post base w0 I0 I β v σ') := by
  rw [show execOp a.eval o = (do pure (.value (← Instr.alloc e true (.tuple #[]))) : Sem Next) by unfold execOp; rw [ho]]
  simp only [compIns] at hc
  simp only [Option.map_eq_some_iff] at hc
  obtain ⟨z, hz, rfl⟩ := hc
  simp only [execI, Option.some.injEq, Prod.mk.injEq] at h
  obtain ⟨rfl, rfl, rfl⟩ := h
  exact OpOk.val (run_alloc R hb hz (hsite (by simp [nsite])))
set_option maxHeartbeats 1000000 in
theorem ins_box {O : Oracle} (hO : OrOk P O) {byref : Nat → Bool} {an : Ann} {a : Act} {o : Oper} {own : Nat} {ins : Ins} (e : TypeId) (x : Operand) (ho : o.op = .box e x) (hc : compIns P an own (.box e x) = some ins) (T : TR I β tm a.tmps) (R : Rel base w0 I0 I β σ w) (hb : KLt base w0)
    {site : Nat} (hsite : nsite ins ≠ 0 → σ[site]? = some .free) {v : AVal} {c : Cls} (h : execI O byref tm σ site ins = some (v, σ', c)) : OpOk P (execOp a.eval o) w (Post base w0 I0 I β v σ') := by
  rw [show execOp a.eval o = (do pure (.value (← Instr.box e (a.eval x))) : Sem Next) by unfold execOp; rw [ho]]
  simp only [compIns] at hc
  simp only [Option.map_eq_some_iff] at hc
  obtain ⟨y, hy, rfl⟩ := hc
  simp only [execI] at h
  split at h
  · cases h
  · cases h
  · cases h
  · rename_i _ hnt _
    simp only [Option.some.injEq, Prod.mk.injEq] at h
    obtain ⟨rfl, rfl, rfl⟩ := h
    exact OpOk.val (run_box R hb hnt (compO_sound T hy) (hsite (by simp [nsite])))
set_option maxHeartbeats 1000000 in
theorem ins_build {O : Oracle} (hO : OrOk P O) {byref : Nat → Bool} {an : Ann} {a : Act} {o : Oper} {own : Nat} {ins : Ins} (t : TypeId) (parts : Array (Nat × Operand)) (ho : o.op = .build t parts) (hc : compIns P an own (.build t parts) = some ins) (T : TR I β tm a.tmps) (R : Rel base w0 I0 I β σ w) (hb : KLt base w0)
    {site : Nat} (hsite : nsite ins ≠ 0 → σ[site]? = some .free) {v : AVal} {c : Cls} (h : execI O byref tm σ site ins = some (v, σ', c)) : OpOk P (execOp a.eval o) w (Post base w0 I0 I β v σ') := by
  rw [show execOp a.eval o = (do pure (.value (← Instr.build t (parts.map fun (i, x) => (i, a.eval x)))) : Sem Next) by unfold execOp; rw [ho]]
  simp only [compIns] at hc
  have hc0 : compIns P an own (.build t parts) = some ins := by simp only [compIns]; exact hc
  obtain ⟨zs, ps, rfl⟩ : ∃ zs ps, ins = .build zs ps := by
    split at hc
    · split at hc
      · simp only [Option.map_eq_some_iff] at hc; obtain ⟨ps, _, rfl⟩ := hc; exact ⟨_, _, rfl⟩
      · cases hc
    · split at hc
      · simp only [Option.map_eq_some_iff] at hc; obtain ⟨ps, _, rfl⟩ := hc; exact ⟨_, _, rfl⟩
      · cases hc
    · cases hc
  simp only [execI] at h
  split at h
  · rename_i cs hf
    simp only [Option.some.injEq, Prod.mk.injEq] at h
    obtain ⟨rfl, rfl, rfl⟩ := h
    obtain ⟨u, h1, h2⟩ := run_buildA (w := w) T hc0 hf
    exact OpOk.val ⟨u, w, h1, Post.here R h2⟩
  · cases h
set_option maxHeartbeats 1000000 in
theorem ins_buildSlice {O : Oracle} (hO : OrOk P O) {byref : Nat → Bool} {an : Ann} {a : Act} {o : Oper} {own : Nat} {ins : Ins} (t : TypeId) (n : Nat) (parts : Array (Nat × Operand)) (ho : o.op = .buildSlice t n parts) (hc : compIns P an own (.buildSlice t n parts) = some ins) (T : TR I β tm a.tmps) (R : Rel base w0 I0 I β σ w) (hb : KLt base w0)
    {site : Nat} (hsite : nsite ins ≠ 0 → σ[site]? = some .free) {v : AVal} {c : Cls} (h : execI O byref tm σ site ins = some (v, σ', c)) : OpOk P (execOp a.eval o) w (Post base w0 I0 I β v σ') := by
  rw [show execOp a.eval o = (do pure (.value (← Instr.buildSlice t n (parts.map fun (i, x) => (i, a.eval x)))) : Sem Next) by unfold execOp; rw [ho]]
  simp only [compIns] at hc
  split at hc
  · rename_i k bytes z he
    split at hc
    · rename_i hn
      simp only [Option.map_eq_some_iff] at hc
      obtain ⟨ps, hps, rfl⟩ := hc
      split at h
      · rename_i ho
        exact OpOk.val (run_rslice T R hb he hn hps (hsite (by rw [if_pos ho]; simp [nsite])) h)
      · rename_i ho
        exact OpOk.val (run_bslice T R hb he hn hps (fun ho' => hsite (by rw [if_neg ho]; simp [nsite, ho'])) h)
    · cases hc
  · cases hc
set_option maxHeartbeats 1000000 in
theorem ins_load {O : Oracle} (hO : OrOk P O) {byref : Nat → Bool} {an : Ann} {a : Act} {o : Oper} {own : Nat} {ins : Ins} (t : TypeId) (x : Operand) (ho : o.op = .load t x) (hc : compIns P an own (.load t x) = some ins) (T : TR I β tm a.tmps) (R : Rel base w0 I0 I β σ w) (hb : KLt base w0)
    {site : Nat} (hsite : nsite ins ≠ 0 → σ[site]? = some .free) {v : AVal} {c : Cls} (h : execI O byref tm σ site ins = some (v, σ', c)) : OpOk P (execOp a.eval o) w (Post base w0 I0 I β v σ') := by
  rw [show execOp a.eval o = (do pure (.value (← Instr.loadAt t (a.eval x))) : Sem Next) by unfold execOp; rw [ho]]
  simp only [compIns] at hc
  split at hc
  · rename_i k y hk hy
    injection hc with hc; subst hc
    simp only [execI] at h
    obtain ⟨u, h1, h2, rfl⟩ := run_ld hk R (compO_sound T hy) h
    exact OpOk.val ⟨u, w, h1, Post.here R h2⟩
  · cases hc
set_option maxHeartbeats 1000000 in
theorem ins_store {O : Oracle} (hO : OrOk P O) {byref : Nat → Bool} {an : Ann} {a : Act} {o : Oper} {own : Nat} {ins : Ins} (t : TypeId) (x : Operand) (y : Operand) (ho : o.op = .store t x y) (hc : compIns P an own (.store t x y) = some ins) (T : TR I β tm a.tmps) (R : Rel base w0 I0 I β σ w) (hb : KLt base w0)
    {site : Nat} (hsite : nsite ins ≠ 0 → σ[site]? = some .free) {v : AVal} {c : Cls} (h : execI O byref tm σ site ins = some (v, σ', c)) : OpOk P (execOp a.eval o) w (Post base w0 I0 I β v σ') := by
  rw [show execOp a.eval o = (do Instr.storeAt t (a.eval x) (a.eval y); pure .skip : Sem Next) by unfold execOp; rw [ho]]
  simp only [compIns] at hc
  split at hc
  · rename_i k x' y' hk hx hy
    injection hc with hc; subst hc
    simp only [execI] at h
    exact OpOk.unit (run_st hk R (compO_sound T hx) (compO_sound T hy) h)
  · cases hc
set_option maxHeartbeats 1000000 in
theorem ins_nilCheck {O : Oracle} (hO : OrOk P O) {byref : Nat → Bool} {an : Ann} {a : Act} {o : Oper} {own : Nat} {ins : Ins} (x : Operand) (ho : o.op = .nilCheck x) (hc : compIns P an own (.nilCheck x) = some ins) (T : TR I β tm a.tmps) (R : Rel base w0 I0 I β σ w) (hb : KLt base w0)
    {site : Nat} (hsite : nsite ins ≠ 0 → σ[site]? = some .free) {v : AVal} {c : Cls} (h : execI O byref tm σ site ins = some (v, σ', c)) : OpOk P (execOp a.eval o) w (Post base w0 I0 I β v σ') := by
  simp only [compIns] at hc
  simp only [Option.map_eq_some_iff] at hc
  obtain ⟨y, hy, rfl⟩ := hc
  have hx := compO_sound T hy
  have key : ∀ ad, a.eval x = .pointer (some ad) → execOp a.eval o = pure (.value (a.eval x)) := by
    intro ad e
    unfold execOp
    rw [ho]
    simp only [e]
  simp only [execI] at h
  split at h
  · rename_i t' o' e
    simp only [Option.some.injEq, Prod.mk.injEq] at h
    obtain ⟨rfl, rfl, rfl⟩ := h
    rw [e] at hx
    have hx' := hx
    simp only [VR] at hx'
    obtain ⟨b, k, c', _, hp⟩ := hx'
    rw [key _ hp]
    exact Or.inl ⟨a.eval x, w, rfl, Post.here R hx⟩
  · rename_i t' g' i' o' e
    simp only [Option.some.injEq, Prod.mk.injEq] at h
    obtain ⟨rfl, rfl, rfl⟩ := h
    rw [e] at hx
    have hx' := hx
    simp only [VR] at hx'
    obtain ⟨b, k, c', _, hp⟩ := hx'
    rw [key _ hp]
    exact Or.inl ⟨a.eval x, w, rfl, Post.here R hx⟩
  · rename_i cs o' e
    simp only [Option.some.injEq, Prod.mk.injEq] at h
    obtain ⟨rfl, rfl, rfl⟩ := h
    rw [e] at hx
    have hx' := hx
    simp only [VR] at hx'
    obtain ⟨b, off, hp, _⟩ := hx'
    rw [key _ hp]
    exact Or.inl ⟨a.eval x, w, rfl, Post.here R hx⟩
  · cases h
set_option maxHeartbeats 1000000 in
theorem ins_binOp {O : Oracle} (hO : OrOk P O) {byref : Nat → Bool} {an : Ann} {a : Act} {o : Oper} {own : Nat} {ins : Ins} (op : BinOp) (t : TypeId) (x : Operand) (y : Operand) (yt : TypeId) (ho : o.op = .binOp op t x y yt) (hc : compIns P an own (.binOp op t x y yt) = some ins) (T : TR I β tm a.tmps) (R : Rel base w0 I0 I β σ w) (hb : KLt base w0)
    {site : Nat} (hsite : nsite ins ≠ 0 → σ[site]? = some .free) {v : AVal} {c : Cls} (h : execI O byref tm σ site ins = some (v, σ', c)) : OpOk P (execOp a.eval o) w (Post base w0 I0 I β v σ') := by
  rw [show execOp a.eval o = (do pure (.value (← (do eqGuard op t x y (a.eval x) (a.eval y); binOp op t (a.eval x) (a.eval y)))) : Sem Next) by unfold execOp; rw [ho]]
  simp only [compIns] at hc
  split at hc
  · rename_i x' y' hx hy
    have hx' := compO_sound T hx
    have hy' := compO_sound T hy
    unfold compBin at hc
    split at hc
    · injection hc with hc; subst hc
      simp only [execI] at h
      obtain ⟨r, hr, he⟩ := mapo h
      simp only [Prod.mk.injEq] at he
      obtain ⟨rfl, rfl, rfl⟩ := he
      obtain ⟨u, h1, h2⟩ := run_binA (P := P) (w := w) (t := t) x y hx' hy' hr
      exact OpOk.val ⟨u, w, h1, Post.here R h2⟩
    · injection hc with hc; subst hc
      simp only [execI] at h
      obtain ⟨r, hr, he⟩ := mapo h
      simp only [Prod.mk.injEq] at he
      obtain ⟨rfl, rfl, rfl⟩ := he
      obtain ⟨u, h1, h2⟩ := run_binA (P := P) (w := w) (t := t) x y hx' hy' hr
      exact OpOk.val ⟨u, w, h1, Post.here R h2⟩
    · rename_i hu
      split at hc
      all_goals first
        | (cases hc; done)
        | (injection hc with hc; subst hc
           simp only [execI] at h
           split at h
           · rename_i p q e1 e2
             rw [e1] at hx'; rw [e2] at hy'
             simp only [VR] at hx' hy'
             simp only [Option.some.injEq, Prod.mk.injEq] at h
             obtain ⟨rfl, rfl, rfl⟩ := h
             refine OpOk.val ⟨_, w, ?_, Post.here R (by simp only [VR]; rfl)⟩
             rw [hx', hy']
             first | exact run_beq hu p q x y | exact run_bne hu p q x y
           · cases h)
    · rename_i elem hu
      split at hc
      all_goals first
        | (cases hc; done)
        | (injection hc with hc; subst hc
           simp only [execI] at h
           split at h
           · rename_i e1 e2
             rw [e1] at hx'; rw [e2] at hy'
             simp only [VR] at hx' hy'
             simp only [Option.some.injEq, Prod.mk.injEq] at h
             obtain ⟨rfl, rfl, rfl⟩ := h
             refine OpOk.val ⟨_, w, ?_, Post.here R (by simp only [VR]; rfl)⟩
             rw [hx', hy']
             first | exact run_peq hu _ _ x y (by simp) | exact run_pne hu _ _ x y (by simp)
           · rename_i t1 o1 e1 e2
             rw [e1] at hx'; rw [e2] at hy'
             simp only [VR] at hx' hy'
             obtain ⟨b, k, c', _, hy'⟩ := hy'
             simp only [Option.some.injEq, Prod.mk.injEq] at h
             obtain ⟨rfl, rfl, rfl⟩ := h
             refine OpOk.val ⟨_, w, ?_, Post.here R (by simp only [VR]; rfl)⟩
             rw [hx', hy']
             first | exact run_peq hu _ _ x y (by simp) | exact run_pne hu _ _ x y (by simp)
           · rename_i t1 o1 e1 e2
             rw [e1] at hx'; rw [e2] at hy'
             simp only [VR] at hx' hy'
             obtain ⟨b, k, c', _, hx'⟩ := hx'
             simp only [Option.some.injEq, Prod.mk.injEq] at h
             obtain ⟨rfl, rfl, rfl⟩ := h
             refine OpOk.val ⟨_, w, ?_, Post.here R (by simp only [VR]; rfl)⟩
             rw [hx', hy']
             first | exact run_peq hu _ _ x y (by simp) | exact run_pne hu _ _ x y (by simp)
           · cases h)
    · rename_i fs hu
      split at hc
      case isFalse => cases hc
      rename_i hfl
      have fin : ∀ (neg : Bool), op = (if neg then .neq else .eql) → execI O byref tm σ site (.eqv neg (fs.toList.map fun f => (kindC P f.type).getD 3) x' y') = some (v, σ', c) → OpOk P (do pure (.value (← (do eqGuard op t x y (a.eval x) (a.eval y); binOp op t (a.eval x) (a.eval y))))) w (Post base w0 I0 I β v σ') := by
        intro neg hop h
        simp only [execI] at h
        split at h
        · rename_i xs ys e1 e2
          rw [e1] at hx'; rw [e2] at hy'
          simp only [VR] at hx' hy'
          obtain ⟨us, hx1, hx2⟩ := hx'
          obtain ⟨vs, hy1, hy2⟩ := hy'
          split at h
          case isFalse => cases h
          rename_i hk
          split at h
          · rename_i b hb'
            simp only [Option.some.injEq, Prod.mk.injEq] at h
            obtain ⟨rfl, rfl, rfl⟩ := h
            refine OpOk.val ⟨_, w, ?_, Post.here R (by simp only [VR]; rfl)⟩
            rw [hx1, hy1]
            exact run_eqv hu hfl hx2 hy2 (kinds_of hk) hb' neg hop x y
          · cases h
        · cases h
      split at hc
      · injection hc with hc; subst hc; exact fin false rfl h
      · injection hc with hc; subst hc; exact fin true rfl h
      · cases hc
    · rename_i ms hu
      have fin : ∀ (neg : Bool), y' = .c .nili → op = (if neg then .neq else .eql) → execI O byref tm σ site (.ieq neg x' y') = some (v, σ', c) → OpOk P (do pure (.value (← (do eqGuard op t x y (a.eval x) (a.eval y); binOp op t (a.eval x) (a.eval y))))) w (Post base w0 I0 I β v σ') := by
        intro neg hy0 hop h
        subst hy0
        obtain ⟨vy, rfl⟩ : ∃ vy, y = .const vy := by
          cases y with
          | const vy => exact ⟨vy, rfl⟩
          | tmp t => simp [compO] at hy
          | func f => simp [compO] at hy
          | global g => simp [compO] at hy
        simp only [Opd.ev, VR] at hy'
        have hms : P.underlying t = some (.interface ms) := hu
        simp only [execI] at h
        rw [show (Opd.c AVal.nili).ev tm = .nili from rfl] at h
        split at h
        · rename_i e1 e2
          rw [e1] at hx'
          simp only [VR] at hx'
          simp only [Option.some.injEq, Prod.mk.injEq] at h
          obtain ⟨rfl, rfl, rfl⟩ := h
          refine OpOk.val ⟨_, w, ?_, Post.here R (by simp only [VR]; rfl)⟩
          rw [hx', hy']
          exact run_ieq_nil hms neg x vy hop
        · rename_i e2; cases e2
        · rename_i t1 x1 e1 e2
          rw [e1] at hx'
          simp only [VR] at hx'
          obtain ⟨u, hx', _⟩ := hx'
          simp only [Option.some.injEq, Prod.mk.injEq] at h
          obtain ⟨rfl, rfl, rfl⟩ := h
          refine OpOk.val ⟨_, w, ?_, Post.here R (by simp only [VR]; rfl)⟩
          rw [hx', hy']
          exact run_ieq_held hms neg x vy hop
        · cases h
      split at hc
      · injection hc with hc; subst hc; exact fin false rfl rfl h
      · injection hc with hc; subst hc; exact fin true rfl rfl h
      · cases hc
    · cases hc
  · cases hc
set_option maxHeartbeats 1000000 in
theorem ins_unOp {O : Oracle} (hO : OrOk P O) {byref : Nat → Bool} {an : Ann} {a : Act} {o : Oper} {own : Nat} {ins : Ins} (op : UnOp) (t : TypeId) (x : Operand) (ho : o.op = .unOp op t x) (hc : compIns P an own (.unOp op t x) = some ins) (T : TR I β tm a.tmps) (R : Rel base w0 I0 I β σ w) (hb : KLt base w0)
    {site : Nat} (hsite : nsite ins ≠ 0 → σ[site]? = some .free) {v : AVal} {c : Cls} (h : execI O byref tm σ site ins = some (v, σ', c)) : OpOk P (execOp a.eval o) w (Post base w0 I0 I β v σ') := by
  rw [show execOp a.eval o = (do pure (.value (← Op.unary op (a.eval x))) : Sem Next) by unfold execOp; rw [ho]]
  simp only [compIns] at hc
  simp only [Option.map_eq_some_iff] at hc
  obtain ⟨y, hy, rfl⟩ := hc
  simp only [execI] at h
  obtain ⟨r, hr, he⟩ := mapo h
  simp only [Prod.mk.injEq] at he
  obtain ⟨rfl, rfl, rfl⟩ := he
  obtain ⟨u, h1, h2⟩ := run_unA (P := P) (w := w) (compO_sound T hy) hr
  exact OpOk.val ⟨u, w, h1, Post.here R h2⟩
set_option maxHeartbeats 1000000 in
theorem ins_convert {O : Oracle} (hO : OrOk P O) {byref : Nat → Bool} {an : Ann} {a : Act} {o : Oper} {own : Nat} {ins : Ins} (src : TypeId) (dst : TypeId) (x : Operand) (ho : o.op = .convert src dst x) (hc : compIns P an own (.convert src dst x) = some ins) (T : TR I β tm a.tmps) (R : Rel base w0 I0 I β σ w) (hb : KLt base w0)
    {site : Nat} (hsite : nsite ins ≠ 0 → σ[site]? = some .free) {v : AVal} {c : Cls} (h : execI O byref tm σ site ins = some (v, σ', c)) : OpOk P (execOp a.eval o) w (Post base w0 I0 I β v σ') := by
  rw [show execOp a.eval o = (do pure (.value (← convert src dst (a.eval x))) : Sem Next) by unfold execOp; rw [ho]]
  simp only [compIns] at hc
  split at hc
  · rename_i y hy
    have hx := compO_sound T hy
    unfold compConv at hc
    split at hc
    · rename_i k1 k2 hs hd
      injection hc with hc; subst hc
      simp only [execI] at h
      split at h
      · rename_i k n e
        rw [e] at hx; simp only [VR] at hx
        simp only [Option.some.injEq, Prod.mk.injEq] at h
        obtain ⟨rfl, rfl, rfl⟩ := h
        refine OpOk.val ⟨.int k2 (k2.wrap n), w, ?_, Post.here R (by simp only [VR])⟩
        rw [hx]
        simp [convert, run_underlying hs, run_underlying hd, Conv.intToInt]
      · cases h
    · rename_i hs hd
      injection hc with hc; subst hc
      simp only [execI] at h
      split at h
      · rename_i k n e
        rw [e] at hx; simp only [VR] at hx
        simp only [Option.some.injEq, Prod.mk.injEq] at h
        obtain ⟨rfl, rfl, rfl⟩ := h
        refine OpOk.val ⟨.string (Utf8.encode n), w, ?_, Post.here R ?_⟩
        · rw [hx]
          simp [convert, run_underlying hs, run_underlying hd, Conv.intToString]
        · simp only [VR]
          refine ⟨by simp, ?_⟩
          unfold Utf8.encode
          simp only
          repeat' split
          all_goals simp
      · cases h
    · rename_i hs hd
      injection hc with hc; subst hc
      simp only [execI] at h
      split at h
      · rename_i l e
        rw [e] at hx
        have hx' := hx
        simp only [VR] at hx'
        simp only [Option.some.injEq, Prod.mk.injEq] at h
        obtain ⟨rfl, rfl, rfl⟩ := h
        refine OpOk.val ⟨_, w, ?_, Post.here R hx⟩
        rw [hx'.1]
        simp [convert, run_underlying hs, run_underlying hd]
      · cases h
    · rename_i e hs hd
      split at hc
      · rename_i he
        injection hc with hc; subst hc
        simp only [execI] at h
        split at h
        · rename_i l e'
          rw [e'] at hx
          simp only [VR] at hx
          simp only [Option.some.injEq, Prod.mk.injEq] at h
          obtain ⟨rfl, rfl, rfl⟩ := h
          rw [hx.1]
          exact OpOk.val (run_s2b hs hd he R hb hx.2)
        · cases h
      · cases hc
    · rename_i e1 e hs hd
      split at hc
      · rename_i hsd
        subst hsd
        split at hc
        · rename_i he
          injection hc with hc; subst hc
          simp only [execI] at h
          split at h
          · rename_i t' g n ev
            rw [ev] at hx
            split at h
            · rename_i g' k xs hrow
              split at h
              · rename_i hcond
                obtain ⟨rfl, hn, h0⟩ := hcond
                simp only [Option.some.injEq, Prod.mk.injEq] at h
                obtain ⟨rfl, rfl, rfl⟩ := h
                obtain ⟨w1, h1, h2⟩ := run_s2s hd he R hrow hn h0 hx
                exact OpOk.val ⟨_, w1, h1, h2⟩
              · cases h
            · cases h
          · cases h
        · cases hc
      · cases hc
    · rename_i e hs hd
      split at hc
      · rename_i he
        injection hc with hc; subst hc
        simp only [execI] at h
        split at h
        · rename_i xs ts hel
          split at h
          · rename_i l hl
            simp only [Option.some.injEq, Prod.mk.injEq] at h
            obtain ⟨rfl, rfl, rfl⟩ := h
            by_cases hst : ∃ l', y.ev tm = .str l'
            · obtain ⟨l', e'⟩ := hst
              rw [e'] at hel hx
              simp only [elemsA, Option.some.injEq, Prod.mk.injEq] at hel
              obtain ⟨rfl, rfl⟩ := hel
              simp only [VR] at hx
              have hll : l = l' := by
                obtain ⟨ns, e1, e2⟩ := bytesOf_ints hl
                subst e2
                have : l'.map byteV = ns.map (AVal.int .u8) := e1
                apply List.ext_getElem?
                intro j
                have hj := congrArg (fun q : List AVal => q[j]?) this
                simp only [List.getElem?_map] at hj ⊢
                cases h1 : l'[j]? <;> cases h2 : ns[j]? <;> simp_all [byteV]
                rename_i b n
                rw [← hj]; simp
              subst hll
              refine OpOk.val ⟨.string ⟨l.toArray⟩, w, ?_, Post.here R (by simp only [VR]; exact ⟨trivial, hx.2⟩)⟩
              rw [hx.1]
              simp [convert, run_underlying hs, run_underlying hd]
            · have hrd := elems_reads R (fun l' e' => hst ⟨l', e'⟩) hel hx
              obtain ⟨h1, h2⟩ := run_b2s (P := P) hs he hd hrd hl
              exact OpOk.val ⟨_, w, h1, Post.here R (by simp only [VR]; exact ⟨trivial, h2⟩)⟩
          · cases h
        · cases h
      · cases hc
    · cases hc
  · cases hc
set_option maxHeartbeats 1000000 in
theorem ins_slice {O : Oracle} (hO : OrOk P O) {byref : Nat → Bool} {an : Ann} {a : Act} {o : Oper} {own : Nat} {ins : Ins} (t : TypeId) (x : Operand) (lo : Option Operand) (hi : Option Operand) (mx : Option Operand) (ho : o.op = .slice t x lo hi mx) (hc : compIns P an own (.slice t x lo hi mx) = some ins) (T : TR I β tm a.tmps) (R : Rel base w0 I0 I β σ w) (hb : KLt base w0)
    {site : Nat} (hsite : nsite ins ≠ 0 → σ[site]? = some .free) {v : AVal} {c : Cls} (h : execI O byref tm σ site ins = some (v, σ', c)) : OpOk P (execOp a.eval o) w (Post base w0 I0 I β v σ') := by
  rw [show execOp a.eval o = (do pure (.value (← Instr.sliceAt t (a.eval x) (lo.map a.eval) (hi.map a.eval) (mx.map a.eval))) : Sem Next) by unfold execOp; rw [ho]]
  simp only [compIns] at hc
  split at hc
  · rename_i x' lo' hi' mx' hx hlo hhi hmx
    split at hc
    · rename_i hu
      split at hc
      · injection hc with hc; subst hc
        have hmx0 : mx = none := by cases mx <;> simp_all [compOo]
        subst hmx0
        have hx' := compO_sound T hx
        simp only [execI] at h
        split at h
        · rename_i s e
          rw [e] at hx'; simp only [VR] at hx'
          split at h
          · cases h
          rename_i hh h1
          split at h
          · cases h
          rename_i ll h2
          simp only [Option.some.injEq, Prod.mk.injEq] at h
          obtain ⟨rfl, rfl, rfl⟩ := h
          refine OpOk.val ⟨_, w, ?_, Post.here R (by simp only [VR]; exact ⟨rfl, by simp; omega⟩)⟩
          rw [hx'.1]
          exact run_sslice hu hx'.2 (compOo_sound T hlo) (compOo_sound T hhi) h1 h2
        · cases h
      · cases hc
    · rename_i e hu
      split at hc
      · rename_i k hk
        split at hc
        · split at hc
          · cases hc
          · rename_i hnn
            injection hc with hc; subst hc
            simp only [execI] at h
            obtain ⟨u, h1, h2⟩ := run_sliceA hu hk R (compO_sound T hx) (compOo_sound T hlo) (compOo_sound T hhi) (compOo_sound T hmx) (by
              intro e'
              cases hi' with
              | some _ => simp at e'
              | none => cases mx' with
                | none => rfl
                | some q => exact absurd rfl (hnn q rfl)) h
            exact OpOk.val ⟨u, w, h1, h2⟩
        · cases hc
      · cases hc
    · cases hc
  · cases hc
set_option maxHeartbeats 1000000 in
theorem ins_fieldAddr {O : Oracle} (hO : OrOk P O) {byref : Nat → Bool} {an : Ann} {a : Act} {o : Oper} {own : Nat} {ins : Ins} (s : TypeId) (x : Operand) (i : Nat) (ho : o.op = .fieldAddr s x i) (hc : compIns P an own (.fieldAddr s x i) = some ins) (T : TR I β tm a.tmps) (R : Rel base w0 I0 I β σ w) (hb : KLt base w0)
    {site : Nat} (hsite : nsite ins ≠ 0 → σ[site]? = some .free) {v : AVal} {c : Cls} (h : execI O byref tm σ site ins = some (v, σ', c)) : OpOk P (execOp a.eval o) w (Post base w0 I0 I β v σ') := by
  rw [show execOp a.eval o = (do pure (.value (← Instr.fieldAt s (a.eval x) i)) : Sem Next) by unfold execOp; rw [ho]]
  simp only [compIns] at hc
  split at hc
  · rename_i fields x' hs hx
    split at hc
    · rename_i f hf
      split at hc
      · rename_i k hk
        split at hc
        · cases hc
        · rename_i hk0
          injection hc with hc; subst hc
          simp only [execI] at h
          obtain ⟨r, hr, he⟩ := mapo h
          simp only [Prod.mk.injEq] at he
          obtain ⟨rfl, rfl, rfl⟩ := he
          obtain ⟨u, h1, h2⟩ := run_faddr (w := w) hs hf hk hk0 (compO_sound T hx) hr
          exact OpOk.val ⟨u, w, h1, Post.here R h2⟩
      · cases hc
    · cases hc
  · cases hc
set_option maxHeartbeats 1000000 in
theorem ins_field {O : Oracle} (hO : OrOk P O) {byref : Nat → Bool} {an : Ann} {a : Act} {o : Oper} {own : Nat} {ins : Ins} (s : TypeId) (x : Operand) (i : Nat) (ho : o.op = .field s x i) (hc : compIns P an own (.field s x i) = some ins) (T : TR I β tm a.tmps) (R : Rel base w0 I0 I β σ w) (hb : KLt base w0)
    {site : Nat} (hsite : nsite ins ≠ 0 → σ[site]? = some .free) {v : AVal} {c : Cls} (h : execI O byref tm σ site ins = some (v, σ', c)) : OpOk P (execOp a.eval o) w (Post base w0 I0 I β v σ') := by
  rw [show execOp a.eval o = (do pure (.value (← Instr.field s (a.eval x) i)) : Sem Next) by unfold execOp; rw [ho]]
  simp only [compIns] at hc
  split at hc
  · rename_i fields x' hs hx
    split at hc
    · rename_i f hf
      simp only [Option.map_eq_some_iff] at hc
      obtain ⟨k, hk, rfl⟩ := hc
      have hx' := compO_sound T hx
      simp only [execI] at h
      split at h
      · rename_i cs e
        rw [e] at hx'; simp only [VR] at hx'
        obtain ⟨us, hus, hv⟩ := hx'
        obtain ⟨r, hr, he⟩ := mapo h
        simp only [Prod.mk.injEq] at he
        obtain ⟨rfl, rfl, rfl⟩ := he
        obtain ⟨u, h1, h2⟩ := run_part (P := P) (w := w) hk hv hr
        refine OpOk.val ⟨u, w, ?_, Post.here R h2⟩
        rw [hus]
        simp [Instr.field, run_underlying hs, hf, asAgg, h1]
      · cases h
    · cases hc
  · cases hc
set_option maxHeartbeats 1000000 in
theorem ins_indexAddr {O : Oracle} (hO : OrOk P O) {byref : Nat → Bool} {an : Ann} {a : Act} {o : Oper} {own : Nat} {ins : Ins} (t : TypeId) (x : Operand) (i : Operand) (ho : o.op = .indexAddr t x i) (hc : compIns P an own (.indexAddr t x i) = some ins) (T : TR I β tm a.tmps) (R : Rel base w0 I0 I β σ w) (hb : KLt base w0)
    {site : Nat} (hsite : nsite ins ≠ 0 → σ[site]? = some .free) {v : AVal} {c : Cls} (h : execI O byref tm σ site ins = some (v, σ', c)) : OpOk P (execOp a.eval o) w (Post base w0 I0 I β v σ') := by
  rw [show execOp a.eval o = (do pure (.value (← Instr.indexAt t (a.eval x) (a.eval i))) : Sem Next) by unfold execOp; rw [ho]]
  simp only [compIns] at hc
  split at hc
  · rename_i e x' i' hu hx hi
    simp only [Option.map_eq_some_iff] at hc
    obtain ⟨k, hk, rfl⟩ := hc
    simp only [execI] at h
    obtain ⟨u, h1, h2, rfl⟩ := run_iaddr hu hk R (compO_sound T hx) (compO_sound T hi) h
    exact OpOk.val ⟨u, w, h1, Post.here R h2⟩
  · rename_i n e x' i' hu hx hi
    simp only [Option.map_eq_some_iff] at hc
    obtain ⟨k, hk, rfl⟩ := hc
    have hi' := compO_sound T hi
    simp only [execI] at h
    split at h
    · rename_i kk ii e'
      rw [e'] at hi'; simp only [VR] at hi'
      split at h
      · rename_i hb'
        obtain ⟨r, hr, he⟩ := mapo h
        simp only [Prod.mk.injEq] at he
        obtain ⟨rfl, rfl, rfl⟩ := he
        obtain ⟨u, h1, h2⟩ := run_aaddr (P := P) (w := w) (kk := kk) hu hk (compO_sound T hx) hb'.1 hb'.2 hr
        exact OpOk.val ⟨u, w, by rw [hi']; exact h1, Post.here R h2⟩
      · cases h
    · cases h
  · cases hc
set_option maxHeartbeats 1000000 in
theorem ins_index {O : Oracle} (hO : OrOk P O) {byref : Nat → Bool} {an : Ann} {a : Act} {o : Oper} {own : Nat} {ins : Ins} (t : TypeId) (x : Operand) (i : Operand) (ho : o.op = .index t x i) (hc : compIns P an own (.index t x i) = some ins) (T : TR I β tm a.tmps) (R : Rel base w0 I0 I β σ w) (hb : KLt base w0)
    {site : Nat} (hsite : nsite ins ≠ 0 → σ[site]? = some .free) {v : AVal} {c : Cls} (h : execI O byref tm σ site ins = some (v, σ', c)) : OpOk P (execOp a.eval o) w (Post base w0 I0 I β v σ') := by
  rw [show execOp a.eval o = (do pure (.value (← Instr.index t (a.eval x) (a.eval i))) : Sem Next) by unfold execOp; rw [ho]]
  simp only [compIns] at hc
  split at hc
  · rename_i x' i' hu hx hi
    injection hc with hc; subst hc
    have hx' := compO_sound T hx
    have hi' := compO_sound T hi
    simp only [execI] at h
    split at h
    · rename_i s kk ii e1 e2
      rw [e1] at hx'; rw [e2] at hi'
      simp only [VR] at hx' hi'
      split at h
      · rename_i h0
        simp only [Option.map_eq_some_iff] at h
        obtain ⟨b, hbb, he⟩ := h
        simp only [Prod.mk.injEq] at he
        obtain ⟨rfl, rfl, rfl⟩ := he
        refine OpOk.val ⟨.int .u8 b.toNat, w, ?_, Post.here R (by simp only [byteV, VR])⟩
        rw [hx'.1, hi']
        have hg : (⟨s.toArray⟩ : ByteArray)[ii.toNat]? = some b := by
          have hlt := (List.getElem?_eq_some_iff.1 hbb).1
          have : ii.toNat < ByteArray.size ⟨s.toArray⟩ := by simpa [ByteArray.size] using hlt
          rw [getElem?_pos (⟨s.toArray⟩ : ByteArray) ii.toNat this]
          have := (List.getElem?_eq_some_iff.1 hbb).2
          rw [← this]
          rfl
        simp [Instr.index, asIntOf, run_underlying hu, h0, hg]
      · cases h
    · cases h
  · rename_i n e x' i' hu hx hi
    split at hc
    · rename_i s k hk hk2
      injection hc with hc; subst hc
      have hx' := compO_sound T hx
      have hi' := compO_sound T hi
      simp only [execI] at h
      split at h
      · rename_i cs kk ii e1 e2
        rw [e1] at hx'; rw [e2] at hi'
        simp only [VR] at hx' hi'
        obtain ⟨us, hus, hv⟩ := hx'
        split at h
        · rename_i hb'
          obtain ⟨r, hr, he⟩ := mapo h
          simp only [Prod.mk.injEq] at he
          obtain ⟨rfl, rfl, rfl⟩ := he
          obtain ⟨u, h1, h2⟩ := run_part (P := P) (w := w) hk hv hr
          obtain ⟨ie, hie, hke⟩ : ∃ ie, P.info? e = some ie ∧ ie.size = k := by
            unfold sizeP at hk2
            cases hi : P.info? e with
            | none => simp [hi] at hk2
            | some i => exact ⟨i, rfl, by simpa [hi] using hk2⟩
          refine OpOk.val ⟨u, w, ?_, Post.here R h2⟩
          rw [hus, hi']
          simp [Instr.index, asIntOf, run_underlying hu, hb'.1, hb'.2, sizeOf, typeInfo, hie, hke, h1]
        · cases h
      · cases h
    · cases hc
  · cases hc
set_option maxHeartbeats 1000000 in
theorem ins_extract {O : Oracle} (hO : OrOk P O) {byref : Nat → Bool} {an : Ann} {a : Act} {o : Oper} {own : Nat} {ins : Ins} (x : Operand) (i : Nat) (ho : o.op = .extract x i) (hc : compIns P an own (.extract x i) = some ins) (T : TR I β tm a.tmps) (R : Rel base w0 I0 I β σ w) (hb : KLt base w0)
    {site : Nat} (hsite : nsite ins ≠ 0 → σ[site]? = some .free) {v : AVal} {c : Cls} (h : execI O byref tm σ site ins = some (v, σ', c)) : OpOk P (execOp a.eval o) w (Post base w0 I0 I β v σ') := by
  rw [show execOp a.eval o = (do pure (.value (← Instr.extract (a.eval x) i)) : Sem Next) by unfold execOp; rw [ho]]
  simp only [compIns] at hc
  simp only [Option.map_eq_some_iff] at hc
  obtain ⟨y, hy, rfl⟩ := hc
  have hx := compO_sound T hy
  simp only [execI] at h
  split at h
  · rename_i vs e
    rw [e] at hx; simp only [VR] at hx
    obtain ⟨us, hus, hv⟩ := hx
    obtain ⟨r, hr, he⟩ := mapo h
    simp only [Prod.mk.injEq] at he
    obtain ⟨rfl, rfl, rfl⟩ := he
    obtain ⟨u, h1, h2⟩ := VRs_get hv hr
    have h1' : us[i]? = some u := by simpa using h1
    exact OpOk.val ⟨u, w, by rw [hus]; simp [Instr.extract, h1'], Post.here R h2⟩
  · cases h
set_option maxHeartbeats 1000000 in
theorem ins_makeSlice {O : Oracle} (hO : OrOk P O) {byref : Nat → Bool} {an : Ann} {a : Act} {o : Oper} {own : Nat} {ins : Ins} (t : TypeId) (l : Operand) (c' : Operand) (ho : o.op = .makeSlice t l c') (hc : compIns P an own (.makeSlice t l c') = some ins) (T : TR I β tm a.tmps) (R : Rel base w0 I0 I β σ w) (hb : KLt base w0)
    {site : Nat} (hsite : nsite ins ≠ 0 → σ[site]? = some .free) {v : AVal} {c : Cls} (h : execI O byref tm σ site ins = some (v, σ', c)) : OpOk P (execOp a.eval o) w (Post base w0 I0 I β v σ') := by
  rw [show execOp a.eval o = (do pure (.value (← Instr.makeSlice t (a.eval l) (a.eval c'))) : Sem Next) by unfold execOp; rw [ho]]
  simp only [compIns] at hc
  split at hc
  · rename_i k bytes z l' c'' he hl hc'
    injection hc with hc; subst hc
    have hl' := compO_sound T hl
    have hc'' := compO_sound T hc'
    simp only [execI] at h
    split at h
    · rename_i li ci e1 e2
      rw [e1] at hl'; rw [e2] at hc''
      simp only [VR] at hl' hc''
      split at h
      · rename_i hcond
        simp only [Option.some.injEq, Prod.mk.injEq] at h
        obtain ⟨rfl, rfl, rfl⟩ := h
        rw [hl', hc'']
        exact OpOk.val (run_mkslice R hb he hcond.1 hcond.2.1 hcond.2.2.1 hcond.2.2.2.1 (hsite (by simp [nsite])))
      · cases h
    · cases h
  · cases hc
set_option maxHeartbeats 1000000 in
theorem ins_makeFunc {O : Oracle} (hO : OrOk P O) {byref : Nat → Bool} {an : Ann} {a : Act} {o : Oper} {own : Nat} {ins : Ins} (fn : Fn) (first : Array Operand) (captured : Array Operand) (ho : o.op = .makeFunc fn first captured) (hc : compIns P an own (.makeFunc fn first captured) = some ins) (T : TR I β tm a.tmps) (R : Rel base w0 I0 I β σ w) (hb : KLt base w0)
    {site : Nat} (hsite : nsite ins ≠ 0 → σ[site]? = some .free) {v : AVal} {c : Cls} (h : execI O byref tm σ site ins = some (v, σ', c)) : OpOk P (execOp a.eval o) w (Post base w0 I0 I β v σ') := by
  rw [show execOp a.eval o = (do pure (.value (← Instr.makeFunc fn (first.map a.eval) (captured.map a.eval))) : Sem Next) by unfold execOp; rw [ho]]
  simp only [compIns] at hc
  cases fn <;> simp only at hc <;> try (cases hc; done)
  rename_i f
  split at hc
  · rename_i hf
    simp only [Option.map_eq_some_iff] at hc
    obtain ⟨caps, hcaps, rfl⟩ := hc
    simp only [execI, Option.some.injEq, Prod.mk.injEq] at h
    obtain ⟨rfl, rfl, rfl⟩ := h
    have hfe : first = #[] := by simpa using hf
    subst hfe
    refine OpOk.val ⟨.func (.func f) #[] (captured.map a.eval), w, by simp [Instr.makeFunc], Post.here R ?_⟩
    simp only [VR]
    exact ⟨_, rfl, by simpa using compOs_sound T hcaps⟩
  · cases hc
set_option maxHeartbeats 1000000 in
theorem ins_makeInterface {O : Oracle} (hO : OrOk P O) {byref : Nat → Bool} {an : Ann} {a : Act} {o : Oper} {own : Nat} {ins : Ins} (t : TypeId) (x : Operand) (ho : o.op = .makeInterface t x) (hc : compIns P an own (.makeInterface t x) = some ins) (T : TR I β tm a.tmps) (R : Rel base w0 I0 I β σ w) (hb : KLt base w0)
    {site : Nat} (hsite : nsite ins ≠ 0 → σ[site]? = some .free) {v : AVal} {c : Cls} (h : execI O byref tm σ site ins = some (v, σ', c)) : OpOk P (execOp a.eval o) w (Post base w0 I0 I β v σ') := by
  rw [show execOp a.eval o = (do pure (.value (← Instr.makeInterface t (a.eval x))) : Sem Next) by unfold execOp; rw [ho]]
  simp only [compIns] at hc
  split at hc
  · cases hc
  · rename_i d hd hnd
    simp only [Option.map_eq_some_iff] at hc
    obtain ⟨y, hy, rfl⟩ := hc
    have hy' := compO_sound T hy
    have hrun : ∀ u, (Instr.makeInterface t u).run P w = .ok (.iface t u) w := by
      intro u
      unfold Instr.makeInterface
      rw [Sem.run_bind, run_underlying hnd]
      simp only [Result.andThen_ok]
      cases d <;> first | rfl | exact absurd rfl (hd _)
    simp only [execI] at h
    split at h
    · cases h
    · cases h
    · cases h
    · simp only [Option.some.injEq, Prod.mk.injEq] at h
      obtain ⟨rfl, rfl, rfl⟩ := h
      exact OpOk.val ⟨_, w, hrun _, Post.here R (by simp only [VR]; exact ⟨_, rfl, hy'⟩)⟩
  · cases hc
set_option maxHeartbeats 1000000 in
theorem ins_panic {O : Oracle} (hO : OrOk P O) {byref : Nat → Bool} {an : Ann} {a : Act} {o : Oper} {own : Nat} {ins : Ins} (x : Operand) (ho : o.op = .panic x) (hc : compIns P an own (.panic x) = some ins) (T : TR I β tm a.tmps) (R : Rel base w0 I0 I β σ w) (hb : KLt base w0)
    {site : Nat} (hsite : nsite ins ≠ 0 → σ[site]? = some .free) {v : AVal} {c : Cls} (h : execI O byref tm σ site ins = some (v, σ', c)) : OpR P (execOp a.eval o) w base w0 I0 I β v σ' := by
  rw [show execOp a.eval o = (do pure (.value (← Instr.panic (a.eval x))) : Sem Next) by unfold execOp; rw [ho]]
  simp only [compIns] at hc
  simp only [Option.map_eq_some_iff] at hc
  obtain ⟨y, hy, rfl⟩ := hc
  have hy' := compO_sound T hy
  simp only [execI] at h
  split at h
  · rename_i t1 x1 e
    rw [e] at hy'
    simp only [Option.some.injEq, Prod.mk.injEq] at h
    obtain ⟨rfl, rfl, rfl⟩ := h
    refine Or.inr ⟨_, rfl, Or.inl ⟨a.eval x, w, ?_, Post.here R hy'⟩⟩
    simp only [VR] at hy'
    obtain ⟨u, hu, _⟩ := hy'
    simp [hu, Instr.panic, goPanic]
  · cases h
set_option maxHeartbeats 1000000 in
theorem ins_range {O : Oracle} (hO : OrOk P O) {byref : Nat → Bool} {an : Ann} {a : Act} {o : Oper} {own : Nat} {ins : Ins} (t : TypeId) (x : Operand) (ho : o.op = .range t x) (hc : compIns P an own (.range t x) = some ins) (T : TR I β tm a.tmps) (R : Rel base w0 I0 I β σ w) (hb : KLt base w0)
    {site : Nat} (hsite : nsite ins ≠ 0 → σ[site]? = some .free) {v : AVal} {c : Cls} (h : execI O byref tm σ site ins = some (v, σ', c)) : OpOk P (execOp a.eval o) w (Post base w0 I0 I β v σ') := by
  rw [show execOp a.eval o = (do pure (.value (← Instr.range t (a.eval x))) : Sem Next) by unfold execOp; rw [ho]]
  simp only [compIns] at hc
  split at hc
  case h_2 => cases hc
  rename_i ht
  simp only [Option.map_eq_some_iff] at hc
  obtain ⟨y, hy, rfl⟩ := hc
  have hy' := compO_sound T hy
  simp only [execI] at h
  split at h
  case h_2 => cases h
  rename_i l e
  simp only [Option.some.injEq, Prod.mk.injEq] at h
  obtain ⟨rfl, rfl, rfl⟩ := h
  rw [e] at hy'
  simp only [VR] at hy'
  rw [hy'.1]
  exact OpOk.val (run_rng R hb ht (hsite (by simp [nsite])))
set_option maxHeartbeats 1000000 in
theorem ins_next {O : Oracle} (hO : OrOk P O) {byref : Nat → Bool} {an : Ann} {a : Act} {o : Oper} {own : Nat} {ins : Ins} (x : Operand) (str : Bool) (ho : o.op = .next x str) (hc : compIns P an own (.next x str) = some ins) (T : TR I β tm a.tmps) (R : Rel base w0 I0 I β σ w) (hb : KLt base w0)
    {site : Nat} (hsite : nsite ins ≠ 0 → σ[site]? = some .free) {v : AVal} {c : Cls} (h : execI O byref tm σ site ins = some (v, σ', c)) : OpOk P (execOp a.eval o) w (Post base w0 I0 I β v σ') := by
  rw [show execOp a.eval o = (do pure (.value (← Instr.next (a.eval x) str o.type)) : Sem Next) by unfold execOp; rw [ho]]
  simp only [compIns] at hc
  cases str
  case false => cases hc
  simp only [Option.map_eq_some_iff] at hc
  obtain ⟨y, hy, rfl⟩ := hc
  have hy' := compO_sound T hy
  simp only [execI] at h
  split at h
  case h_2 => cases h
  rename_i t e
  rw [e] at hy'
  split at h
  case h_2 => cases h
  rename_i l p hs
  obtain ⟨u, w', h1, h2⟩ := run_nxt (P := P) R hs hy' o.type
  split at h
  · rename_i hp
    rw [if_pos hp] at h2
    simp only [Option.some.injEq, Prod.mk.injEq] at h
    obtain ⟨rfl, rfl, rfl⟩ := h
    exact OpOk.val ⟨u, w', h1, h2⟩
  · rename_i hp
    rw [if_neg hp] at h2
    simp only [Option.some.injEq, Prod.mk.injEq] at h
    obtain ⟨rfl, rfl, rfl⟩ := h
    exact OpOk.val ⟨u, w', h1, h2⟩
set_option maxHeartbeats 1000000 in
theorem ins_call {O : Oracle} (hO : OrOk P O) {byref : Nat → Bool} {an : Ann} {a : Act} {o : Oper} {own : Nat} {ins : Ins} (cl : Call) (ho : o.op = .call cl) (hc : compIns P an own (.call cl) = some ins) (T : TR I β tm a.tmps) (R : Rel base w0 I0 I β σ w) (hb : KLt base w0)
    {site : Nat} (hsite : nsite ins ≠ 0 → σ[site]? = some .free) {v : AVal} {c : Cls} (h : execI O byref tm σ site ins = some (v, σ', c)) : OpR P (execOp a.eval o) w base w0 I0 I β v σ' := by
  rw [show execOp a.eval o = (do let d ← resolve a.eval cl o.type; invoke d.target d.args : Sem Next) by unfold execOp; rw [ho]]
  simp only [compIns] at hc
  unfold compCall at hc
  split at hc
  · cases hc
  rename_i args hargs
  have hav := compOs_sound T hargs
  obtain ⟨callee, cargs, ctypes⟩ := cl
  simp only at hc hargs hav
  have hmap : (cargs.toList.map a.eval) = (cargs.map a.eval).toList := by simp
  split at hc
  · rename_i f
    injection hc with hc; subst hc
    simp only [execI] at h
    obtain ⟨⟨fn, f1, f2, f3⟩, g2⟩ := call_sound' hO R hb (vs := cargs.map a.eval) (by rw [← hmap]; exact hav) h
    exact OpR.of_call (by simp [resolve, Act.eval, Deferred.ofValue, invoke, run_callFunc f1 f2 f3]) g2
  · rename_i t
    injection hc with hc; subst hc
    simp only [execI] at h
    split at h
    · rename_i f caps hf
      have hfv := compO_sound (x := .tmp t) T rfl
      rw [hf] at hfv
      simp only [VR] at hfv
      obtain ⟨us, hus, hcaps⟩ := hfv
      obtain ⟨⟨fn, f1, f2, f3⟩, g2⟩ := call_sound' hO R hb (vs := cargs.map a.eval ++ us) (by rw [Array.toList_append, ← hmap]; exact VRs_append hav hcaps) h
      exact OpR.of_call (by simp [resolve, hus, Deferred.ofValue, invoke, run_callFunc f1 f2 f3]) g2
    · cases h
  · refine Or.inl ?_
    split at hc
    · rename_i t u x y hty
      split at hc
      · rename_i k bytes z he
        obtain ⟨e, i, vz, hu, hi, hik, hib, hvz, hz, hk, hby, hzl⟩ := elemP_spec he
        obtain ⟨hz1, hz2⟩ := ofConst_sound (I := I) (β := β) hz
        have hzs : vz.cells.size = i.size := by rw [cells_len (ofConst_ntop hz) hz1, hzl, hik]
        have hargs2 : ∃ ox oy, cargs = #[ox, oy] ∧ compO ox = some x ∧ compO oy = some y := by
          obtain ⟨l⟩ := cargs
          match l, hargs with
          | [], hargs => simp [compOs] at hargs
          | [ox], hargs =>
            simp only [compOs] at hargs
            split at hargs
            · simp at hargs
            · cases hargs
          | [ox, oy], hargs =>
            simp only [compOs] at hargs
            split at hargs
            · rename_i x1 hx1
              split at hargs
              · rename_i l2 hl2
                split at hl2
                · rename_i y1 hy1
                  simp only [Option.some.injEq] at hl2 hargs
                  subst hl2
                  simp only [List.cons.injEq, and_true] at hargs
                  obtain ⟨rfl, rfl⟩ := hargs
                  exact ⟨ox, oy, rfl, hx1, hy1⟩
                · cases hl2
              · cases hargs
            · cases hargs
          | ox :: oy :: oz :: r, hargs => have := VRs_length hav; simp at this
        obtain ⟨ox, oy, rfl, hx, hy⟩ := hargs2
        have htys : ctypes = #[t, u] := by
          obtain ⟨l⟩ := ctypes
          simpa using hty
        subst htys
        have fin : AppT P t u e i vz → appA σ site k bytes (x.ev tm) (y.ev tm) = some (v, σ', c) → OpOk P (do let d ← resolve a.eval { callee := .builtin .append, args := #[ox, oy], argTypes := #[t, u] } o.type; invoke d.target d.args) w (Post base w0 I0 I β v σ') := by
          intro TT h
          rw [← hik, ← hib] at h
          have hns : nsite ins ≠ 0 := by
            split at hc
            · injection hc with hc; subst hc; simp [nsite]
            · split at hc
              · injection hc with hc; subst hc; simp [nsite]
              · cases hc
            · cases hc
          obtain ⟨vr, w1, h1, h2⟩ := run_appA (ty := o.type) TT R hb (compO_sound T hx) (compO_sound T hy) (hsite hns) h
          exact Or.inl ⟨vr, w1, by simp [resolve, invoke, builtin, h1], h2⟩
        split at hc
        · rename_i e' hu2
          injection hc with hc; subst hc
          simp only [execI] at h
          exact fin ⟨hu, Or.inl ⟨e', hu2⟩, hi, hvz, hzs, by omega, by omega⟩ h
        · rename_i hu2
          split at hc
          · injection hc with hc; subst hc
            simp only [execI] at h
            exact fin ⟨hu, Or.inr hu2, hi, hvz, hzs, by omega, by omega⟩ h
          · cases hc
        · cases hc
      · cases hc
    · cases hc
  · refine Or.inl ?_
    split at hc
    · rename_i t x hty
      have hargs2 : ∃ ox, cargs = #[ox] ∧ compO ox = some x := by
        obtain ⟨l⟩ := cargs
        match l, hargs with
        | [], hargs => simp [compOs] at hargs
        | [ox], hargs =>
          simp only [compOs] at hargs
          split at hargs
          · rename_i x1 hx1
            simp only [Option.some.injEq, List.cons.injEq, and_true] at hargs
            subst hargs
            exact ⟨ox, rfl, hx1⟩
          · cases hargs
        | ox :: oy :: r, hargs =>
          have := VRs_length hav
          simp at this
      obtain ⟨ox, rfl, hx⟩ := hargs2
      have htys : ctypes = #[t] := by
        obtain ⟨l⟩ := ctypes
        simpa using hty
      subst htys
      have hx' := compO_sound T hx
      split at hc
      · rename_i e hu
        injection hc with hc; subst hc
        simp only [execI] at h
        split at h
        · rename_i b xs hh
          rw [hh] at hx'; simp only [VR] at hx'
          obtain ⟨A, cap, hv, _⟩ := hx'
          simp only [Option.some.injEq, Prod.mk.injEq] at h
          obtain ⟨rfl, rfl, rfl⟩ := h
          refine Or.inl ⟨.int .i64 xs.length, w, ?_, Post.here R (by simp only [VR])⟩
          simp [resolve, invoke, builtin, hv, Builtin.len_, run_underlying hu, goInt]
        · rename_i t' g lo n hh
          rw [hh] at hx'; simp only [VR] at hx'
          obtain ⟨bi, _, hle, _, hv⟩ := hx'
          simp only [Option.some.injEq, Prod.mk.injEq] at h
          obtain ⟨rfl, rfl, rfl⟩ := h
          refine Or.inl ⟨.int .i64 n, w, ?_, Post.here R (by simp only [VR])⟩
          rcases hv with ⟨b, _, hv⟩ | ⟨_, hc0, A, hv⟩ | ⟨_, _, hn0, A, hv⟩
          · simp [resolve, invoke, builtin, hv, Builtin.len_, run_underlying hu, goInt]
          · have : n = 0 := by omega
            subst this
            simp [resolve, invoke, builtin, hv, Builtin.len_, run_underlying hu, goInt]
          · subst hn0
            simp [resolve, invoke, builtin, hv, Builtin.len_, run_underlying hu, goInt]
        · cases h
      · rename_i hu
        injection hc with hc; subst hc
        simp only [execI] at h
        split at h
        · rename_i l hh
          rw [hh] at hx'; simp only [VR] at hx'
          simp only [Option.some.injEq, Prod.mk.injEq] at h
          obtain ⟨rfl, rfl, rfl⟩ := h
          refine Or.inl ⟨.int .i64 l.length, w, ?_, Post.here R (by simp only [VR])⟩
          have hsz : ByteArray.size ⟨l.toArray⟩ = l.length := by simp [ByteArray.size]
          simp [resolve, invoke, builtin, hx'.1, Builtin.len_, run_underlying hu, goInt, hsz]
        · cases h
      · cases hc
    · cases hc
  · refine Or.inl ?_
    split at hc
    · rename_i t x hty
      have hargs2 : ∃ ox, cargs = #[ox] ∧ compO ox = some x := by
        obtain ⟨l⟩ := cargs
        match l, hargs with
        | [], hargs => simp [compOs] at hargs
        | [ox], hargs =>
          simp only [compOs] at hargs
          split at hargs
          · rename_i x1 hx1
            simp only [Option.some.injEq, List.cons.injEq, and_true] at hargs
            subst hargs
            exact ⟨ox, rfl, hx1⟩
          · cases hargs
        | ox :: oy :: r, hargs =>
          have := VRs_length hav
          simp at this
      obtain ⟨ox, rfl, hx⟩ := hargs2
      have htys : ctypes = #[t] := by
        obtain ⟨l⟩ := ctypes
        simpa using hty
      subst htys
      split at hc
      · rename_i k bytes z he
        injection hc with hc; subst hc
        simp only [execI] at h
        obtain ⟨vr, w1, h1, h2⟩ := run_clr (ty := o.type) R he (compO_sound T hx) h
        exact Or.inl ⟨vr, w1, by simp [resolve, invoke, builtin, h1], h2⟩
      · cases hc
    · cases hc
  · refine Or.inl ?_
    split at hc
    · rename_i hl2
      injection hc with hc; subst hc
      simp only [execI] at h
      split at h
      · rename_i k p k' q hh
        rw [hh] at hav
        simp only [VRs, VR] at hav
        obtain ⟨v1, vs1, e1, rfl, v2, vs2, rfl, rfl, rfl⟩ := hav
        simp only [Option.some.injEq, Prod.mk.injEq] at h
        obtain ⟨rfl, rfl, rfl⟩ := h
        have hca : cargs.map a.eval = #[.int k p, .int k' q] := by
          apply Array.ext'
          simpa using e1
        refine Or.inl ⟨_, w, ?_, Post.here R (by simp only [VR]; rfl)⟩
        simp [resolve, invoke, builtin, hca, Builtin.max_, Builtin.max2]
      · cases h
    · cases hc
  · refine Or.inl ?_
    split at hc
    · rename_i hl2
      injection hc with hc; subst hc
      simp only [execI] at h
      split at h
      · rename_i k p k' q hh
        rw [hh] at hav
        simp only [VRs, VR] at hav
        obtain ⟨v1, vs1, e1, rfl, v2, vs2, rfl, rfl, rfl⟩ := hav
        simp only [Option.some.injEq, Prod.mk.injEq] at h
        obtain ⟨rfl, rfl, rfl⟩ := h
        have hca : cargs.map a.eval = #[.int k p, .int k' q] := by
          apply Array.ext'
          simpa using e1
        refine Or.inl ⟨_, w, ?_, Post.here R (by simp only [VR]; rfl)⟩
        simp [resolve, invoke, builtin, hca, Builtin.min_, Builtin.min2]
      · cases h
    · cases hc
  · cases hc
theorem ins_sound {O : Oracle} (hO : OrOk P O) {byref : Nat → Bool} {an : Ann} {a : Act} {o : Oper} {own : Nat} {ins : Ins} (hc : compIns P an own o.op = some ins) (T : TR I β tm a.tmps) (R : Rel base w0 I0 I β σ w) (hb : KLt base w0)
    {site : Nat} (hsite : nsite ins ≠ 0 → σ[site]? = some .free) {v : AVal} {c : Cls} (h : execI O byref tm σ site ins = some (v, σ', c)) : OpR P (execOp a.eval o) w base w0 I0 I β v σ' := by
  cases ho : o.op <;> rw [ho] at hc <;> first
    | exact Or.inl (ins_move hO _ ho hc T R hb hsite h)
    | exact Or.inl (ins_assign hO _ ho hc T R hb hsite h)
    | exact Or.inl (ins_pick hO _ _ _ ho hc T R hb hsite h)
    | exact Or.inl (ins_alloc hO _ ho hc T R hb hsite h)
    | exact Or.inl (ins_box hO _ _ ho hc T R hb hsite h)
    | exact Or.inl (ins_build hO _ _ ho hc T R hb hsite h)
    | exact Or.inl (ins_buildSlice hO _ _ _ ho hc T R hb hsite h)
    | exact Or.inl (ins_load hO _ _ ho hc T R hb hsite h)
    | exact Or.inl (ins_store hO _ _ _ ho hc T R hb hsite h)
    | exact Or.inl (ins_nilCheck hO _ ho hc T R hb hsite h)
    | exact Or.inl (ins_binOp hO _ _ _ _ _ ho hc T R hb hsite h)
    | exact Or.inl (ins_unOp hO _ _ _ ho hc T R hb hsite h)
    | exact Or.inl (ins_convert hO _ _ _ ho hc T R hb hsite h)
    | exact Or.inl (ins_slice hO _ _ _ _ _ ho hc T R hb hsite h)
    | exact Or.inl (ins_fieldAddr hO _ _ _ ho hc T R hb hsite h)
    | exact Or.inl (ins_field hO _ _ _ ho hc T R hb hsite h)
    | exact Or.inl (ins_indexAddr hO _ _ _ ho hc T R hb hsite h)
    | exact Or.inl (ins_index hO _ _ _ ho hc T R hb hsite h)
    | exact Or.inl (ins_extract hO _ _ ho hc T R hb hsite h)
    | exact Or.inl (ins_makeSlice hO _ _ _ ho hc T R hb hsite h)
    | exact Or.inl (ins_makeFunc hO _ _ _ ho hc T R hb hsite h)
    | exact Or.inl (ins_makeInterface hO _ _ ho hc T R hb hsite h)
    | exact ins_panic hO _ ho hc T R hb hsite h
    | exact Or.inl (ins_range hO _ _ ho hc T R hb hsite h)
    | exact Or.inl (ins_next hO _ _ ho hc T R hb hsite h)
    | exact ins_call hO _ ho hc T R hb hsite h
    | (simp only [compIns] at hc; cases hc; done)
end
end Go.Proofs.YtaaflagbhneakaaDoor
