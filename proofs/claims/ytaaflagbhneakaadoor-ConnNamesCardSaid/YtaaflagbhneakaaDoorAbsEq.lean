/- ABS: structs of plain fields, held against each other. -/
import Derived.Test.YtaaflagbhneakaaDoorAbsIns
import Derived.Laws.StructEq
namespace Go.Proofs.YtaaflagbhneakaaDoor
set_option linter.unusedSimpArgs false
set_option linter.unusedVariables false
open Go.RowKit

section
variable {P : Program} {w : World} {I : Imm} {β : Bmap}
theorem run_part1 {t : TypeId} (hb : basicT P t = true) {xs : Array Value} {o : Nat} {v : Value} (h : xs[o]? = some v) : (part t xs o).run P w = .ok v w := by
  unfold basicT at hb
  have key : ∀ d, P.underlying t = some d → d.isRow = false → (part t xs o).run P w = .ok v w := by
    intro d hu hd
    have hagg : (isAgg t).run P w = .ok false w := by
      unfold isAgg
      rw [Sem.run_bind, run_underlying hu w]
      cases d <;> simp_all [TypeDesc.isRow]
    simp [part, hagg, h]
  split at hb
  · rename_i hu; exact key _ hu rfl
  · rename_i hu; exact key _ hu rfl
  · rename_i hu; exact key _ hu rfl
  · cases hb
theorem run_aeq1 (w : World) {t : TypeId} (d : Nat) {x y : AVal} {u v : Value} {b : Bool} (hx : VR I β x u) (hy : VR I β y v) (h : aeq1 x y = some b) (hk : kindT P t x = true) : (Op.equalIn (d + 1) t u v).run P w = .ok b w := by
  unfold aeq1 at h
  split at h
  · rename_i k a k' b'
    split at h
    · rename_i e; subst e
      injection h with h; subst h
      simp only [VR] at hx hy
      subst hx hy
      cases hd : P.underlying t with
      | none => simp [kindT, hd] at hk
      | some dd =>
        cases dd <;> simp [kindT, hd] at hk
        exact run_equalIn_int w d t _ _ a b' hd
    · cases h
  · rename_i a b'
    injection h with h; subst h
    simp only [VR] at hx hy
    subst hx hy
    cases hd : P.underlying t with
    | none => simp [kindT, hd] at hk
    | some dd =>
      cases dd <;> simp [kindT, hd] at hk
      exact run_equalIn_bool' w d t a b' hd
  · rename_i a b'
    injection h with h; subst h
    simp only [VR] at hx hy
    obtain ⟨rfl, _⟩ := hx
    obtain ⟨rfl, _⟩ := hy
    cases hd : P.underlying t with
    | none => simp [kindT, hd] at hk
    | some dd =>
      cases dd <;> simp [kindT, hd] at hk
      rw [run_equalIn_string w d t _ _ hd, toList_mk, toList_mk]
  · cases h
theorem kinds_of : ∀ {fs : List Field} {xs : List AVal}, kindsA (fs.map fun f => (kindC P f.type).getD 3) xs = true → kindsT P fs xs = true
  | [], [], _ => rfl
  | [], x :: xs, h => by simp [kindsA] at h
  | f :: fs, [], h => by simp [kindsA] at h
  | f :: fs, x :: xs, h => by
    simp only [List.map_cons, kindsA, Bool.and_eq_true, beq_iff_eq] at h
    simp only [kindsT, Bool.and_eq_true]
    refine ⟨?_, kinds_of h.2⟩
    have h1 := h.1
    cases hd : P.underlying f.type with
    | none => simp only [kindC, hd, Option.getD_none] at h1; cases x <;> simp [kindA] at h1
    | some dd => cases dd <;> simp only [kindC, hd, Option.getD_none, Option.getD_some] at h1 <;> cases x <;> first | (simp [kindT, hd]; done) | (simp [kindA] at h1; done)
theorem run_aeqs (w : World) (d : Nat) {us vs : Array Value} : ∀ {fs : List Field} {xs ys : List AVal} {o : Nat} {b : Bool}, flatFs P o fs = true → kindsT P fs xs = true → VRs I β xs (us.toList.drop o) → VRs I β ys (vs.toList.drop o) → aeqs xs ys = some b → (Op.eqFields (d + 1) us vs fs).run P w = .ok b w
  | [], xs, ys, o, b, hf, hk, hx, hy, h => by
    cases xs with
    | nil =>
      cases ys with
      | nil => simp only [aeqs, Option.some.injEq] at h; subst h; simp [Op.eqFields]
      | cons => simp [aeqs] at h
    | cons => simp [kindsT] at hk
  | f :: fs, xs, ys, o, b, hf, hk, hx, hy, h => by
    cases xs with
    | nil => simp [kindsT] at hk
    | cons x xs =>
      cases ys with
      | nil => simp [aeqs] at h
      | cons y ys =>
        simp only [flatFs, Bool.and_eq_true, beq_iff_eq, bne_iff_ne, ne_eq] at hf
        obtain ⟨⟨⟨h1, h2⟩, h3⟩, h4⟩ := hf
        simp only [kindsT, Bool.and_eq_true] at hk
        simp only [VRs] at hx hy
        obtain ⟨u, us', eu, hx1, hx2⟩ := hx
        obtain ⟨v, vs', ev, hy1, hy2⟩ := hy
        have gu : us[o]? = some u := by
          have := congrArg (fun l : List Value => l[0]?) eu
          simpa using this
        have gv : vs[o]? = some v := by
          have := congrArg (fun l : List Value => l[0]?) ev
          simpa using this
        have eu' : us.toList.drop (o + 1) = us' := by rw [← List.drop_drop, eu]; rfl
        have ev' : vs.toList.drop (o + 1) = vs' := by rw [← List.drop_drop, ev]; rfl
        simp only [aeqs] at h
        split at h
        · rename_i b1 hb1
          split at h
          · rename_i b2 hb2
            injection h with h; subst h
            have r1 := run_aeq1 w d hx1 hy1 hb1 hk.1
            have r2 := run_aeqs w d (us := us) (vs := vs) h4 hk.2 (by rw [eu']; exact hx2) (by rw [ev']; exact hy2) hb2
            rw [← h1] at gu gv
            simp only [Op.eqFields, h2, ne_eq, not_false_eq_true, if_true, Sem.run_bind, run_part1 h3 gu, run_part1 h3 gv, r1, Result.andThen_ok]
            cases b1
            · simp
            · simpa using r2
          · cases h
        · cases h
theorem run_eqv {t : TypeId} {fs : Array Field} (hu : P.underlying t = some (.struct fs)) (hf : flatStruct P t fs = true) {x y : List AVal} {us vs : Array Value} (hx : VRs I β x us.toList) (hy : VRs I β y vs.toList) (hk : kindsT P fs.toList x = true) {b : Bool} (h : aeqs x y = some b) (neg : Bool) {op : BinOp} (hop : op = (if neg then .neq else .eql)) (ox oy : Operand) :
    (do eqGuard op t ox oy (.agg us) (.agg vs); binOp op t (.agg us) (.agg vs) : Sem Value).run P w = .ok (.bool (b != neg)) w := by
  simp only [flatStruct, Bool.and_eq_true, Bool.not_eq_true'] at hf
  obtain ⟨⟨hf1, hf2⟩, hf3⟩ := hf
  have hfo : P.fieldsOf t = fs := by simp [Program.fieldsOf, hu]
  have h1 : (eqGuard op t ox oy (.agg us) (.agg vs)).run P w = .ok () w := by
    subst hop
    cases neg <;> simp [eqGuard, hf3]
  have h2 : (Op.equal t (.agg us) (.agg vs)).run P w = .ok b w := by
    show (Op.equalIn (9999 + 1) t (.agg us) (.agg vs)).run P w = _
    rw [run_equalIn_struct w 9999 t us vs (by rw [hfo]; exact hu) hf2, hfo]
    exact run_aeqs w 9998 hf1 hk (by simpa using hx) (by simpa using hy) h
  subst hop
  cases neg
  · simp only [Bool.false_eq_true, if_false] at h1 ⊢
    simp [h1, h2, binOp]
  · simp only [if_true] at h1 ⊢
    simp [h1, h2, binOp]
end
end Go.Proofs.YtaaflagbhneakaaDoor
