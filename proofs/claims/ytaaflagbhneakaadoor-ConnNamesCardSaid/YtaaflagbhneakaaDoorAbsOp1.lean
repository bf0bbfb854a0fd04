/- ABS: the operations, one by one. -/
import Derived.Test.YtaaflagbhneakaaDoorAbsApp
import Derived.Laws.BytesString
namespace Go.Proofs.YtaaflagbhneakaaDoor
set_option linter.unusedSimpArgs false
set_option linter.unusedVariables false
open Go.RowKit

theorem ofConst1_sound {I : Imm} {β : Bmap} {v : Value} {x : AVal} (h : ofConst1 v = some x) : VR I β x v ∧ v.cells = #[v] ∧ x.cells = [x] ∧ tree1 x = true := by
  unfold ofConst1 at h
  split at h
  · injection h with h; subst h; exact ⟨by simp only [VR], rfl, rfl, rfl⟩
  · injection h with h; subst h; exact ⟨by simp only [VR], rfl, rfl, rfl⟩
  · split at h
    · injection h with h; subst h
      refine ⟨?_, rfl, rfl, rfl⟩
      simp only [VR]
      exact ⟨by simp, by assumption⟩
    · cases h
  · injection h with h; subst h; exact ⟨by simp only [VR], rfl, rfl, rfl⟩
  · injection h with h; subst h
    refine ⟨?_, rfl, rfl, rfl⟩
    simp only [VR]
    exact ⟨none, 0, rfl, by simp, by simp, by simp, Or.inl trivial, rfl⟩
  · injection h with h; subst h; exact ⟨by simp only [VR], rfl, rfl, rfl⟩
  · injection h with h; subst h; exact ⟨by simp only [VR], rfl, rfl, rfl⟩
  · cases h
theorem ofConsts_sound {I : Imm} {β : Bmap} : ∀ {vs : List Value} {xs : List AVal}, ofConsts vs = some xs → VRs I β xs vs ∧ treeC xs = true
  | [], xs, h => by simp only [ofConsts, Option.some.injEq] at h; subst h; exact ⟨by simp only [VRs], rfl⟩
  | v :: vs, xs, h => by
    simp only [ofConsts] at h
    split at h
    · rename_i x h1
      split at h
      · rename_i ys h2
        injection h with h; subst h
        obtain ⟨a1, _, _, a2⟩ := ofConst1_sound (I := I) (β := β) h1
        obtain ⟨b1, b2⟩ := ofConsts_sound (I := I) (β := β) h2
        exact ⟨by simp only [VRs]; exact ⟨v, vs, rfl, a1, b1⟩, by simp [treeC, a2, b2]⟩
      · cases h
    · cases h
theorem ofConst_ntop {v : Value} {x : AVal} (h : ofConst v = some x) : x ≠ .top := by
  unfold ofConst at h
  split at h
  · simp only [Option.map_eq_some_iff] at h
    obtain ⟨xs, h1, rfl⟩ := h
    simp
  · obtain ⟨_, _, _, a3⟩ := ofConst1_sound (I := fun _ _ => none) (β := B0) h
    rintro rfl; simp [tree1] at a3
theorem ofConst_sound {I : Imm} {β : Bmap} {v : Value} {x : AVal} (h : ofConst v = some x) : VR I β x v ∧ treeC x.cells = true := by
  unfold ofConst at h
  split at h
  · simp only [Option.map_eq_some_iff] at h
    obtain ⟨xs, h1, rfl⟩ := h
    obtain ⟨b1, b2⟩ := ofConsts_sound (I := I) (β := β) h1
    exact ⟨by simp only [VR]; exact ⟨_, rfl, b1⟩, b2⟩
  · obtain ⟨a1, _, a2, a3⟩ := ofConst1_sound (I := I) (β := β) h
    exact ⟨a1, by rw [a2]; simp [treeC, a3]⟩

section
variable {P : Program} {base : Nat → Prop} {w0 w w' : World} {I0 I I' : Imm} {β β' : Bmap} {σ σ' : AHeap} {tm : Tms} {ρ : Operand → Value}

theorem compO_sound {a : Act} (T : TR I β tm a.tmps) {x : Operand} {y : Opd} (h : compO x = some y) : VR I β (y.ev tm) (a.eval x) := by
  cases x with
  | tmp t =>
    simp only [compO, Option.some.injEq] at h; subst h
    exact T t
  | const v =>
    simp only [compO, Option.map_eq_some_iff] at h
    obtain ⟨c, h1, rfl⟩ := h
    exact (ofConst_sound h1).1
  | func f =>
    simp only [compO, Option.some.injEq] at h; subst h
    simp only [Opd.ev, Act.eval, VR]
    exact ⟨#[], rfl, by simp only [VRs]⟩
  | global g => cases h

/-- what an operation comes to -/
def OpOk (P : Program) (s : Sem Next) (w : World) (Φ : Value → World → Prop) : Prop :=
  (∃ u w', s.run P w = .ok (.value u) w' ∧ Φ u w') ∨ (∃ w', s.run P w = .ok .skip w' ∧ Φ undef w') ∨ (∃ f args w', s.run P w = .ok (.enter f args) w' ∧ Calls P f args w' (fun e w'' => ∃ u, e = .returned u ∧ Φ u w''))
/-- what an operation comes to that panics -/
def OpPan (P : Program) (s : Sem Next) (w : World) (Φ : Value → World → Prop) : Prop :=
  (∃ u w', s.run P w = .halt (.panic u) w' ∧ Φ u w') ∨ (∃ f args w', s.run P w = .ok (.enter f args) w' ∧ Calls P f args w' (fun e w'' => ∃ u, e = .panicked [{ v := u, recovered := false }] ∧ Φ u w''))
theorem OpPan.wp {o : Oper} {a : Act} {Φ : Value → World → Prop} {K : Act → World → Prop} {Q : Exit → Act → World → Prop} (h : OpPan P (execOp a.eval o) w Φ) (hQ : ∀ u w', Φ u w' → Q (.panic [{ v := u, recovered := false }]) a w') : o.wp P a w K Q := by
  unfold Oper.wp
  rcases h with ⟨u, w', h1, h2⟩ | ⟨f, args, w', h1, h2⟩
  · rw [h1]; exact hQ u w' h2
  · rw [h1]
    exact h2.mono fun e w'' ⟨u, he, hu⟩ => by subst he; exact hQ u w'' hu
theorem OpOk.wp {o : Oper} {a : Act} {Φ : Value → World → Prop} {K : Act → World → Prop} {Q : Exit → Act → World → Prop} (h : OpOk P (execOp a.eval o) w Φ) (hK : ∀ u w', Φ u w' → K (a.put o.dst u) w') : o.wp P a w K Q := by
  unfold Oper.wp
  rcases h with ⟨u, w', h1, h2⟩ | ⟨w', h1, h2⟩ | ⟨f, args, w', h1, h2⟩
  · rw [h1]; exact hK u w' h2
  · rw [h1]; exact hK _ w' h2
  · rw [h1]
    exact h2.mono fun e w'' ⟨u, he, hu⟩ => by subst he; exact hK u w'' hu
theorem OpOk.val {s : Sem Value} {Φ : Value → World → Prop} (h : ∃ u w', s.run P w = .ok u w' ∧ Φ u w') : OpOk P (do let x ← s; pure (.value x)) w Φ := by
  obtain ⟨u, w', h1, h2⟩ := h
  exact Or.inl ⟨u, w', by simp [h1], h2⟩
theorem OpOk.unit {s : Sem Unit} {Φ : Value → World → Prop} (h : ∃ w', s.run P w = .ok () w' ∧ Φ undef w') : OpOk P (do s; pure .skip) w Φ := by
  obtain ⟨w', h1, h2⟩ := h
  exact Or.inr (Or.inl ⟨w', by simp [h1], h2⟩)

theorem run_alloc (R : Rel base w0 I0 I β σ w) (hb : KLt base w0) {e : TypeId} {z : AVal} (hz : zeroP P e = some z) {site : Nat} (hs : σ[site]? = some .free) :
    ∃ u w', (Instr.alloc e true (.tuple #[])).run P w = .ok u w' ∧ Post base w0 I0 I β (.ref site 0) (σ.set site (.var z.cells)) u w' := by
  unfold zeroP at hz
  split at hz
  · rename_i i hi
    split at hz
    · rename_i v hv
      obtain ⟨h1, h2⟩ := ofConst_sound (I := I) (β := β) hz
      obtain ⟨R', hle⟩ := R.newOwn hb hs v.cells e (.var z.cells) 1 v.cells.size (Or.inl ⟨_, rfl, VRs_cells (ofConst_ntop hz) h1⟩)
      refine ⟨.pointer (some ⟨w.heap.size, 0, none⟩), _, ?_, Post.mk (Imm.le.refl I) hle R' ?_⟩
      · simp [Instr.alloc, zeroValue, typeInfo, hi, hv, newVar, newRow]
      · simp only [VR]
        exact ⟨_, _, _, Bmap.put_same β site 0 _, rfl⟩
    · cases hz
  · cases hz
theorem run_box (R : Rel base w0 I0 I β σ w) (hb : KLt base w0) {e : TypeId} {x : AVal} {v : Value} (ht : x ≠ .top) (hx : VR I β x v) {site : Nat} (hs : σ[site]? = some .free) :
    ∃ u w', (Instr.box e v).run P w = .ok u w' ∧ Post base w0 I0 I β (.ref site 0) (σ.set site (.var x.cells)) u w' := by
  obtain ⟨R', hle⟩ := R.newOwn hb hs v.cells e (.var x.cells) 1 v.cells.size (Or.inl ⟨_, rfl, VRs_cells ht hx⟩)
  refine ⟨.pointer (some ⟨w.heap.size, 0, none⟩), _, ?_, Post.mk (Imm.le.refl I) hle R' ?_⟩
  · simp [Instr.box, newVar, newRow]
  · simp only [VR]
    exact ⟨_, _, _, Bmap.put_same β site 0 _, rfl⟩

theorem run_eqGuard_int (op : BinOp) (t : TypeId) (x y : Operand) (k k' : IntKind) (a b : Int) : (eqGuard op t x y (.int k a) (.int k' b)).run P w = .ok () w := by
  cases op <;> simp [eqGuard]
theorem run_eqGuard_str (op : BinOp) (t : TypeId) (x y : Operand) (a b : ByteArray) : (eqGuard op t x y (.string a) (.string b)).run P w = .ok () w := by
  cases op <;> simp [eqGuard]
theorem toList_mk (l : List UInt8) : ByteArray.toList ⟨l.toArray⟩ = l := by
  rw [ByteArray.toList_eq]
theorem run_binA {op : BinOp} {t : TypeId} {x y r : AVal} {vx vy : Value} (ox oy : Operand) (hx : VR I β x vx) (hy : VR I β y vy) (h : binA op x y = some r) :
    ∃ u, (do eqGuard op t ox oy vx vy; binOp op t vx vy : Sem Value).run P w = .ok u w ∧ VR I β r u := by
  unfold binA at h
  split at h
  · rename_i k a k' b
    simp only [VR] at hx hy
    subst hx hy
    split at h
    · unfold shiftA at h
      split at h
      · cases h
      · rename_i hb
        simp only at h
        injection h with h; subst h
        simp only [VR, exists_eq_right]; simp [run_eqGuard_int, binOp, Op.shift, hb]
    · unfold shiftA at h
      split at h
      · cases h
      · rename_i hb
        simp only at h
        injection h with h; subst h
        simp only [VR, exists_eq_right]; simp [run_eqGuard_int, binOp, Op.shift, hb]
    · rename_i n1 n2
      split at h
      · rename_i e; subst e
        unfold arithA at h
        cases op <;> simp only at h <;> first
          | (cases h; done)
          | (exact absurd rfl n1)
          | (exact absurd rfl n2)
          | (injection h with h; subst h; simp only [VR, exists_eq_right]; simp [run_eqGuard_int, binOp, Op.intArith, Op.intBits, Op.intCmp]; done)
          | (split at h
             · cases h
             · rename_i hb
               injection h with h; subst h
               simp only [VR, exists_eq_right]
               simp [run_eqGuard_int, binOp, Op.intDiv, hb])
      · cases h
  · rename_i a b
    simp only [VR] at hx hy
    obtain ⟨rfl, ha⟩ := hx
    obtain ⟨rfl, hb⟩ := hy
    unfold strA at h
    cases op <;> simp only at h <;> first
      | (cases h; done)
      | (injection h with h; subst h; simp only [VR, exists_eq_right]; simp [run_eqGuard_str, binOp, Op.stringOp, toList_mk]; done)
      | (split at h
         · rename_i hlen
           injection h with h; subst h
           refine ⟨.string ⟨(a ++ b).toArray⟩, ?_, by simp only [VR]; exact ⟨trivial, by simpa using hlen⟩⟩
           have hn : ¬ ((9223372036854775807 : Int) < ((a.length : Int) + (b.length : Int))) := by omega
           have hmx : IntKind.i64.max = 9223372036854775807 := by decide
           have hs : ∀ l : List UInt8, ByteArray.size ⟨l.toArray⟩ = l.length := fun l => by simp [ByteArray.size]
           have he : (⟨a.toArray⟩ : ByteArray) ++ ⟨b.toArray⟩ = ⟨(a ++ b).toArray⟩ := by
             apply ByteArray.ext
             simp [ByteArray.data_append]
           simp [run_eqGuard_str, binOp, Op.stringOp, hs, hmx, hn, he]
           try omega
         · cases h)
  · cases h
end
end Go.Proofs.YtaaflagbhneakaaDoor
