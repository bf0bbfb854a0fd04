/- ABS: structs and slices built, and the small operations. -/
import Derived.Test.YtaaflagbhneakaaDoorAbsOp3
namespace Go.Proofs.YtaaflagbhneakaaDoor
set_option linter.unusedSimpArgs false
set_option linter.unusedVariables false
open Go.RowKit

section
variable {P : Program} {base : Nat → Prop} {w0 w w' : World} {I0 I I' : Imm} {β β' : Bmap} {σ σ' : AHeap} {tm : Tms}

theorem foldl_put (off : Nat) : ∀ (l : List Value) (j0 : Nat) (cells : Array Value), off + j0 + l.length ≤ cells.size →
    ((l.zipIdx j0).foldl (fun cs p => cs.setIfInBounds (off + p.2) p.1) cells).toList = cells.toList.take (off + j0) ++ l ++ cells.toList.drop (off + j0 + l.length)
  | [], j0, cells, _ => by simp
  | v :: l, j0, cells, h => by
    simp only [List.length_cons] at h
    rw [List.zipIdx_cons, List.foldl_cons, foldl_put off l (j0 + 1) _ (by simp; omega)]
    apply List.ext_getElem?
    intro j
    simp only [Array.toList_setIfInBounds, List.getElem?_append, List.getElem?_take, List.getElem?_drop, List.length_append, List.length_take, List.length_cons, List.length_set, Array.length_toList, List.getElem?_set, List.getElem?_cons]
    have e1 : min (off + (j0 + 1)) cells.size = off + j0 + 1 := by omega
    have e2 : min (off + j0) cells.size = off + j0 := by omega
    rw [e1, e2]
    by_cases c1 : j < off + j0
    · simp only [show j < off + (j0 + 1) by omega, show j < off + j0 + 1 by omega, show j < off + j0 + 1 + l.length by omega, show j < off + j0 + (l.length + 1) by omega, c1, if_true, show off + j0 ≠ j by omega, if_false]
    · by_cases c2 : j = off + j0
      · subst c2
        simp only [show off + j0 < off + (j0 + 1) by omega, show off + j0 < off + j0 + 1 by omega, show off + j0 < off + j0 + 1 + l.length by omega, show off + j0 < off + j0 + (l.length + 1) by omega, if_true, Nat.lt_irrefl, if_false, Nat.sub_self, show off + j0 < cells.size by omega]
      · by_cases c3 : j < off + j0 + 1 + l.length
        · simp only [c3, show j < off + j0 + (l.length + 1) by omega, show ¬ j < off + j0 + 1 by omega, c1, if_true, if_false, show ¬ j - (off + j0) = 0 by omega]
          first | done | (congr 1; omega) | rfl
        · simp only [c3, show ¬ j < off + j0 + (l.length + 1) by omega, if_false]
          rw [show off + (j0 + 1) + l.length + (j - (off + j0 + 1 + l.length)) = j by omega, show off + j0 + (l.length + 1) + (j - (off + j0 + (l.length + 1))) = j by omega, if_neg (by omega)]
theorem foldl_cells (off : Nat) (v : Value) (cells : Array Value) (h : off + v.cells.size ≤ cells.size) :
    (v.cells.zipIdx.foldl (fun cs (c, j) => cs.setIfInBounds (off + j) c) cells).toList = cells.toList.take off ++ v.cells.toList ++ cells.toList.drop (off + v.cells.toList.length) := by
  have := foldl_put off v.cells.toList 0 cells (by simpa using h)
  rw [← Array.foldl_toList]
  simpa using this

/-- the parts of a literal -/
def PartsR (I : Imm) (β : Bmap) (place : Nat → Option (Nat × Nat)) : List (Nat × Nat × AVal) → List (Nat × Value) → Prop
  | [], vs => vs = []
  | (off, k, x) :: r, vs => ∃ i v vs', vs = (i, v) :: vs' ∧ place i = some (off, k) ∧ VR I β x v ∧ PartsR I β place r vs'
theorem fill_sound (place : Nat → Option (Nat × Nat)) : ∀ {ps : List (Nat × Nat × AVal)} {vs : List (Nat × Value)} {zs cs : List AVal} {zc : Array Value}, PartsR I β place ps vs → VRs I β zs zc.toList → fillA zs ps = some cs →
    ∃ cells, Instr.fill place zc vs = some cells ∧ VRs I β cs cells.toList
  | [], vs, zs, cs, zc, hp, hz, h => by
    simp only [PartsR] at hp; subst hp
    simp only [fillA, Option.some.injEq] at h; subst h
    exact ⟨zc, rfl, hz⟩
  | (off, k, x) :: ps, vs, zs, cs, zc, hp, hz, h => by
    simp only [PartsR] at hp
    obtain ⟨i, v, vs', rfl, h1, h2, h3⟩ := hp
    simp only [fillA] at h
    split at h
    · rename_i hc
      have hnt := ntop_ne hc.2.2
      have hl := cells_len hnt h2
      have hzl := VRs_length hz
      simp only [Array.length_toList] at hzl
      have hle : off + v.cells.size ≤ zc.size := by omega
      have hset : VRs I β (setAt zs off x.cells) (v.cells.zipIdx.foldl (fun cs (c, j) => cs.setIfInBounds (off + j) c) zc).toList := by
        rw [foldl_cells off v zc hle]
        exact VRs_setAt hz (VRs_cells hnt h2) off
      obtain ⟨cells, g1, g2⟩ := fill_sound place h3 hset h
      refine ⟨cells, ?_, g2⟩
      simp only [Instr.fill, h1]
      rw [if_neg (by simp; omega)]
      exact g1
    · cases h
theorem places_of : ∀ (fs : List Field), fs.all (fun f => (P.info? f.type).isSome) = true → ∃ places, fs.mapM (fun f => (P.info? f.type).map fun i => (f.offset, i.size)) = some places ∧ ∀ (j : Nat) (f : Field) (k : Nat), fs[j]? = some f → sizeP P f.type = some k → places[j]? = some (f.offset, k)
  | [], _ => ⟨[], by simp, by simp⟩
  | f :: fs, h => by
    simp only [List.all_cons, Bool.and_eq_true] at h
    obtain ⟨places, h1, h2⟩ := places_of fs h.2
    obtain ⟨i, hi⟩ := Option.isSome_iff_exists.1 h.1
    refine ⟨(f.offset, i.size) :: places, by simp [List.mapM_cons, hi, h1], ?_⟩
    intro j g k hj hk
    cases j with
    | zero =>
      simp only [List.getElem?_cons_zero, Option.some.injEq] at hj; subst hj
      simp only [sizeP, hi, Option.map_some, Option.some.injEq] at hk; subst hk
      rfl
    | succ j => simp only [List.getElem?_cons_succ] at hj ⊢; exact h2 j g k hj hk

theorem compParts_sound {a : Act} (T : TR I β tm a.tmps) {fields : Array Field} {place : Nat → Option (Nat × Nat)} (hpl : ∀ j f k, fields[j]? = some f → sizeP P f.type = some k → place j = some (f.offset, k)) :
    ∀ {parts : List (Nat × Operand)} {ps : List (Nat × Nat × Opd)}, compParts P fields parts = some ps → PartsR I β place (ps.map fun p => (p.1, p.2.1, p.2.2.ev tm)) (parts.map fun (i, x) => (i, a.eval x))
  | [], ps, h => by simp only [compParts, Option.some.injEq] at h; subst h; simp [PartsR]
  | (i, x) :: r, ps, h => by
    simp only [compParts] at h
    split at h
    · rename_i f hf
      split at h
      · rename_i k y ps' hk hy hps
        injection h with h; subst h
        simp only [List.map_cons, PartsR]
        exact ⟨i, a.eval x, _, rfl, hpl i f k hf hk, compO_sound T hy, compParts_sound T hpl hps⟩
      · cases h
    · cases h
theorem compArr_sound {a : Act} (T : TR I β tm a.tmps) {k : Nat} :
    ∀ {parts : List (Nat × Operand)} {ps : List (Nat × Nat × Opd)}, compArr k parts = some ps → PartsR I β (fun i => some (i * k, k)) (ps.map fun p => (p.1, p.2.1, p.2.2.ev tm)) (parts.map fun (i, x) => (i, a.eval x))
  | [], ps, h => by simp only [compArr, Option.some.injEq] at h; subst h; simp [PartsR]
  | (i, x) :: r, ps, h => by
    simp only [compArr] at h
    split at h
    · rename_i y ps' hy hps
      injection h with h; subst h
      simp only [List.map_cons, PartsR]
      exact ⟨i, a.eval x, _, rfl, rfl, compO_sound T hy, compArr_sound T hps⟩
    · cases h
theorem run_buildA {a : Act} (T : TR I β tm a.tmps) {t : TypeId} {parts : Array (Nat × Operand)} {an : Ann} {own : Nat} {zs : List AVal} {ps : List (Nat × Nat × Opd)} (hc : compIns P an own (.build t parts) = some (.build zs ps)) {cs : List AVal} (h : fillA zs (ps.map fun p => (p.1, p.2.1, p.2.2.ev tm)) = some cs) :
    ∃ u, (Instr.build t (parts.map fun (i, x) => (i, a.eval x))).run P w = .ok u w ∧ VR I β (.agg cs) u := by
  simp only [compIns] at hc
  have zero : ∀ z, zeroP P t = some z → ∃ i v, P.info? t = some i ∧ i.zero = some v ∧ VRs I β z.cells v.cells.toList := by
    intro z hz
    unfold zeroP at hz
    split at hz
    · rename_i i hi
      split at hz
      · rename_i v hv
        exact ⟨i, v, hi, hv, VRs_cells (ofConst_ntop hz) (ofConst_sound hz).1⟩
      · cases hz
    · cases hz
  split at hc
  · rename_i fields z hu hz
    split at hc
    · rename_i hall
      simp only [Option.map_eq_some_iff] at hc
      obtain ⟨ps', hps, he⟩ := hc
      injection he with e1 e2; subst e1 e2
      obtain ⟨i, v, hi, hv, hzv⟩ := zero z hz
      obtain ⟨places, hp1, hp2⟩ := places_of (P := P) fields.toList hall
      obtain ⟨cells, g1, g2⟩ := fill_sound (places.toArray[·]?) (compParts_sound (a := a) T (place := (places.toArray[·]?)) (fun j f k hj hk => by simpa using hp2 j f k (by simpa using hj) hk) hps) hzv h
      refine ⟨.agg cells, run_build w t _ cells ?_, by simp only [VR]; exact ⟨cells, rfl, g2⟩⟩
      simp only [Program.built, hi, hu, hv, hp1]
      simpa using g1
    · cases hc
  · rename_i n e z hu hz
    split at hc
    · rename_i k hk
      simp only [Option.map_eq_some_iff] at hc
      obtain ⟨ps', hps, he⟩ := hc
      injection he with e1 e2; subst e1 e2
      obtain ⟨i, v, hi, hv, hzv⟩ := zero z hz
      obtain ⟨ie, hie, hke⟩ : ∃ ie, P.info? e = some ie ∧ ie.size = k := by
        unfold sizeP at hk
        cases hi : P.info? e with
        | none => simp [hi] at hk
        | some i => exact ⟨i, rfl, by simpa [hi] using hk⟩
      obtain ⟨cells, g1, g2⟩ := fill_sound (fun i => some (i * k, k)) (compArr_sound (a := a) T hps) hzv h
      refine ⟨.agg cells, run_build w t _ cells ?_, by simp only [VR]; exact ⟨cells, rfl, g2⟩⟩
      simp only [Program.built, hi, hu, hv, hie, hke]
      simpa using g1
    · cases hc
  · cases hc

/-- n zeros -/
theorem rep_at {z : AVal} {k : Nat} (hz : z.cells.length = k) (hk : 0 < k) : ∀ (n j : Nat), j < n * k → ((List.replicate n z).flatMap AVal.cells)[j]? = z.cells[j % k]?
  | 0, j, h => by simp at h
  | n + 1, j, h => by
    rw [List.replicate_succ, List.flatMap_cons, List.getElem?_append]
    split
    · rename_i hj; rw [Nat.mod_eq_of_lt (by omega)]
    · rename_i hj
      rw [Nat.add_mul] at h
      rw [rep_at hz hk n (j - z.cells.length) (by omega), hz]
      congr 1
      rw [← Nat.mod_eq_sub_mod (by omega)]
theorem rep_VRs {z : AVal} {v : Value} {k : Nat} (hnt : z ≠ .top) (hz : VR I β z v) (hl : z.cells.length = k) (hk : 0 < k) (n : Nat) : VRs I β ((List.replicate n z).flatMap AVal.cells) ((Array.range (n * k)).map (v.cells[· % v.cells.size]!)).toList := by
  have hv := VRs_cells hnt hz
  have hvl := cells_len hnt hz
  have hfl : ((List.replicate n z).flatMap AVal.cells).length = n * k := by rw [flat_len (k := k) (by intro x hx; rw [List.eq_of_mem_replicate hx]; exact hl)]; simp
  refine VRs_of (by rw [hfl]; simp) (fun j x u hx hu => ?_)
  have hj : j < n * k := by have := (List.getElem?_eq_some_iff.1 hx).1; omega
  rw [rep_at hl hk n j hj] at hx
  obtain ⟨u', h1, h2⟩ := VRs_get hv hx
  have hjk : j % k < v.cells.size := by rw [hvl, hl]; exact Nat.mod_lt _ hk
  simp only [Array.toList_map, Array.toList_range, List.getElem?_map, List.getElem?_range hj, Option.map_some, Option.some.injEq] at hu
  rw [hvl, hl] at hu
  have : v.cells[j % k]! = u' := by
    rw [getElem!_pos v.cells (j % k) hjk]
    have h1' : v.cells[j % k]? = some u' := by simpa using h1
    rw [Array.getElem?_eq_getElem hjk] at h1'
    injection h1'
  rw [this] at hu
  subst hu
  exact h2
/-- elements laid into a row -/
theorem fill_elems {k : Nat} : ∀ {is : List Nat} {ys : List AVal} {vs : List Value} {xs : List AVal} {cells : Array Value}, is.length = ys.length → (∀ y ∈ ys, y ≠ .top) → VRs I β ys vs → (∀ y ∈ ys, y.cells.length = k) → (∀ i ∈ is, i < xs.length) → (∀ x ∈ xs, x.cells.length = k) → VRs I β (xs.flatMap AVal.cells) cells.toList →
    ∃ cells', Instr.fill (fun i => some (i * k, k)) cells (is.zip vs) = some cells' ∧ VRs I β (((is.zip ys).foldl (fun l p => l.set p.1 p.2) xs).flatMap AVal.cells) cells'.toList ∧ (∀ x ∈ (is.zip ys).foldl (fun l p => l.set p.1 p.2) xs, x.cells.length = k) ∧ ((is.zip ys).foldl (fun l p => l.set p.1 p.2) xs).length = xs.length ∧ cells'.size = cells.size
  | [], ys, vs, xs, cells, hl, _, hv, hk, hi, hx, hc => by
    have : ys = [] := List.eq_nil_of_length_eq_zero (by simpa using hl.symm)
    subst this
    exact ⟨cells, by simp [Instr.fill], by simpa using hc, by simpa using hx, rfl, rfl⟩
  | i :: is, [], vs, xs, cells, hl, _, hv, hk, hi, hx, hc => by simp at hl
  | i :: is, y :: ys, vs, xs, cells, hl, hnt, hv, hk, hi, hx, hc => by
    simp only [VRs] at hv
    obtain ⟨v, vs', rfl, hv1, hv2⟩ := hv
    have hil : i < xs.length := hi i (by simp)
    have hyk := hk y (by simp)
    have hcl := cells_len (hnt y (by simp)) hv1
    have hfl := flat_len hx
    have hcs := VRs_length hc
    simp only [Array.length_toList] at hcs
    have hmul := mul_lt_of (k := k) hil
    have hset : VRs I β ((xs.set i y).flatMap AVal.cells) (v.cells.zipIdx.foldl (fun cs (c, j) => cs.setIfInBounds (i * k + j) c) cells).toList := by
      rw [foldl_cells (i * k) v cells (by omega)]
      have hself : y.cells = setAt (xs[i]).cells 0 y.cells := by
        unfold setAt
        rw [List.take_zero, List.nil_append, Nat.zero_add, List.drop_eq_nil_of_le (by rw [hyk, hx _ (List.getElem_mem hil)]; exact Nat.le_refl _), List.append_nil]
      rw [flat_set hx (List.getElem?_eq_getElem hil) hself (by omega), Nat.add_zero]
      exact VRs_setAt hc (VRs_cells (hnt y (by simp)) hv1) (i * k)
    have hx' : ∀ x ∈ xs.set i y, x.cells.length = k := by
      intro x hm
      rcases List.mem_or_eq_of_mem_set hm with hm | rfl
      · exact hx x hm
      · exact hyk
    obtain ⟨cells', g1, g2, g3, g4, g5⟩ := fill_elems (k := k) (is := is) (ys := ys) (vs := vs') (xs := xs.set i y) (cells := v.cells.zipIdx.foldl (fun cs (c, j) => cs.setIfInBounds (i * k + j) c) cells) (by simpa using hl) (fun z hz => hnt z (by simp [hz])) hv2 (fun z hz => hk z (by simp [hz])) (fun j hj => by simpa using hi j (by simp [hj])) hx' hset
    refine ⟨cells', ?_, by simpa using g2, by simpa using g3, by simpa using g4, ?_⟩
    · simp only [List.zip_cons_cons, Instr.fill]
      rw [if_neg (by simp; omega)]
      exact g1
    · rw [g5]
      have h1 := VRs_length hset
      have h2 := flat_len hx'
      rw [List.length_set] at h2
      rw [Array.length_toList] at h1
      exact h1.symm.trans (h2.trans (hfl.symm.trans hcs))
end
end Go.Proofs.YtaaflagbhneakaaDoor
