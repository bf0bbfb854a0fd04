/- ABS: cells written. -/
import Derived.Test.YtaaflagbhneakaaDoorAbsView
namespace Go.Proofs.YtaaflagbhneakaaDoor
set_option linter.unusedSimpArgs false
set_option linter.unusedVariables false
open Go.RowKit

theorem setAt_len {cs vs : List AVal} {o : Nat} (h : o + vs.length ≤ cs.length) : (setAt cs o vs).length = cs.length := by
  unfold setAt; simp; omega
theorem setAt_left {A B ys : List AVal} {o : Nat} (h : o + ys.length ≤ A.length) : setAt (A ++ B) o ys = setAt A o ys ++ B := by
  unfold setAt
  rw [List.take_append_of_le_length (by omega), List.drop_append_of_le_length h, List.append_assoc, List.append_assoc, List.append_assoc]
theorem setAt_right {A B ys : List AVal} {p : Nat} : setAt (A ++ B) (A.length + p) ys = A ++ setAt B p ys := by
  unfold setAt
  rw [List.take_append, List.take_of_length_le (by omega), List.drop_append, List.drop_eq_nil_of_le (by omega)]
  simp only [List.nil_append, List.append_assoc]
  congr 3
  · congr 1; omega
  · congr 2; omega
theorem flat_set {k o : Nat} {ys : List AVal} : ∀ {xs : List AVal} {i : Nat} {x x' : AVal}, (∀ x ∈ xs, x.cells.length = k) → xs[i]? = some x → x'.cells = setAt x.cells o ys → o + ys.length ≤ k →
    (xs.set i x').flatMap AVal.cells = setAt (xs.flatMap AVal.cells) (i * k + o) ys
  | [], i, x, x', _, hx, _, _ => by simp at hx
  | y :: r, 0, x, x', hk, hx, he, ho => by
    simp only [List.getElem?_cons_zero, Option.some.injEq] at hx
    subst hx
    rw [List.set_cons_zero, List.flatMap_cons, List.flatMap_cons, he, Nat.zero_mul, Nat.zero_add, setAt_left (by rw [hk y (by simp)]; exact ho)]
  | y :: r, i + 1, x, x', hk, hx, he, ho => by
    simp only [List.getElem?_cons_succ] at hx
    have ih := flat_set (fun z hz => hk z (by simp [hz])) hx he ho
    have hy := hk y (by simp)
    rw [List.set_cons_succ, List.flatMap_cons, List.flatMap_cons, ih, show (i + 1) * k + o = y.cells.length + (i * k + o) by rw [hy, Nat.add_mul]; omega, setAt_right]
theorem putE_cells {x x' : AVal} {o : Nat} {ys : List AVal} (hy : ys.all okCell = true) (h : putE x o ys = some x') : x'.cells = setAt x.cells o ys ∧ o + ys.length ≤ x.cells.length := by
  unfold putE at h
  split at h
  · rename_i cs
    split at h
    · injection h with h; subst h; exact ⟨rfl, by assumption⟩
    · cases h
  · rename_i hne
    split at h
    · rename_i v
      injection h with h; subst h
      have h1 : v.cells = [v] := by cases v <;> simp_all [AVal.cells, okCell]
      have h2 : x.cells = [x] := by cases x <;> simp_all [AVal.cells]
      rw [h1, h2]; simp [setAt]
    · cases h

section
variable {P : Program} {base : Nat → Prop} {w0 w w' : World} {I0 I I' : Imm} {β β' : Bmap} {σ σ' : AHeap}

theorem run_storeAt {t : TypeId} {k : Nat} (hk : sizeP P t = some k) {b o : Nat} {us : Array Value} {ty : TypeId} (hh : w.heap[b]? = some (.cells us ty (0, 0))) {v : Value} (hl : v.cells.size = k) (hle : o + k ≤ us.size) (h1 : ∀ u ∈ v.cells.toList, u.oneCell' = true) :
    (Instr.storeAt t (.pointer (some ⟨b, o, none⟩)) v).run P w = .ok () (w.setRow b (us.toList.take o ++ v.cells.toList ++ us.toList.drop (o + v.cells.toList.length)).toArray) := by
  have := run_storeCells_at (P := P) b o ty v.cells.toList 0 us w hh (by simp; omega) h1
  unfold sizeP at hk
  cases hi : P.info? t with
  | none => simp [hi] at hk
  | some i =>
    have hs : i.size = k := by simpa [hi] using hk
    simp only [Nat.add_zero] at this
    simp [Instr.storeAt, Instr.sureAddr, storeVar, sizeOf, typeInfo, hi, hs, hl, this]

def Post (base : Nat → Prop) (w0 : World) (I0 I : Imm) (β : Bmap) (x : AVal) (σ' : AHeap) (u : Value) (w' : World) : Prop :=
  ∃ I' β', I.le I' ∧ β.le β' ∧ Rel base w0 I0 I' β' σ' w' ∧ VR I' β' x u
theorem Post.mk {x : AVal} {u : Value} (hI : I.le I') (hβ : β.le β') (R : Rel base w0 I0 I' β' σ' w') (h : VR I' β' x u) : Post base w0 I0 I β x σ' u w' := ⟨I', β', hI, hβ, R, h⟩
theorem Post.here {x : AVal} {u : Value} (R : Rel base w0 I0 I β σ w) (h : VR I β x u) : Post base w0 I0 I β x σ u w := ⟨I, β, Imm.le.refl I, Bmap.le.refl β, R, h⟩
theorem VR_undef (I : Imm) (β : Bmap) : VR I β (.tup []) undef := by simp only [VR, VRs]; exact ⟨#[], rfl, rfl⟩
theorem cells_len {x : AVal} {v : Value} (ht : x ≠ .top) (h : VR I β x v) : v.cells.size = x.cells.length := by
  have := VRs_length (VRs_cells ht h); simpa using this.symm
theorem ntop_ne {x : AVal} (h : ntop x = true) : x ≠ .top := by rintro rfl; simp [ntop] at h
theorem ntop_tree {x : AVal} (h : treeC x.cells = true) : x ≠ .top := by rintro rfl; simp [AVal.cells, treeC, tree1] at h
theorem top_of_ok {x : AVal} (h : x.cells.all okCell = true) : x ≠ .top := by
  rintro rfl
  simp [AVal.cells, okCell] at h

theorem run_st {t : TypeId} {k : Nat} (hk : sizeP P t = some k) (R : Rel base w0 I0 I β σ w) {a x : AVal} {va vx : Value} (ha : VR I β a va) (hx : VR I β x vx) {y : AVal} {c : Cls} (h : stA σ k a x = some (y, σ', c)) :
    ∃ w', (Instr.storeAt t va vx).run P w = .ok () w' ∧ Post base w0 I0 I β y σ' undef w' := by
  unfold stA at h
  split at h
  case isFalse => cases h
  rename_i hc
  obtain ⟨hlen, hok⟩ := hc
  have htop := top_of_ok hok
  have hone := VRs_one (fun z hz => List.all_eq_true.1 hok z hz) (VRs_cells htop hx)
  have hsz := cells_len htop hx
  split at h
  · rename_i t' o
    split at h
    · rename_i cs hs
      split at h
      · rename_i hle
        simp only [Option.some.injEq, Prod.mk.injEq] at h
        obtain ⟨rfl, rfl, rfl⟩ := h
        simp only [VR] at ha
        obtain ⟨b, k', c', hβ, rfl⟩ := ha
        obtain ⟨b', k'', c'', us, ty, h1, h2, h3⟩ := R.blk _ _ hs
        rw [hβ] at h1
        simp only [Option.some.injEq, BI.mk.injEq] at h1
        obtain ⟨rfl, rfl, rfl⟩ := h1
        have hul := VRs_length h3
        refine ⟨_, run_storeAt hk h2 (by omega) (by simp at hul; omega) hone, Post.here (R.write hs (by simp [owns, hβ]) (by simp [owns, hβ]) _ ?_ rfl) (VR_undef I β)⟩
        refine ⟨b, k', c', _, ty, hβ, setRow_heap w b us _ ty (0, 0) h2, ?_⟩
        have := VRs_setAt h3 (VRs_cells htop hx) o
        simpa using this
      · cases h
    · cases h
  · rename_i t' g i o
    split at h
    · rename_i g' kk xs hs
      split at h
      · rename_i e; subst e
        split at h
        · rename_i z hz
          split at h
          · rename_i ys ts hv
            split at h
            · cases h
            · rename_i hnt
              split at h
              · rename_i z' hp
                simp only [Option.some.injEq, Prod.mk.injEq] at h
                obtain ⟨rfl, rfl, rfl⟩ := h
                obtain ⟨I1, hI1, R1, hal, _, hfz, _, hoth⟩ := freeze_all ts R
                have hs1 := hoth t' _ (by simpa using hnt) hs
                obtain ⟨v1, v2⟩ := views_sound R1 (hfz (views_rowy hv)) (by rw [hal.views]; exact hv) ((VRs_cells htop hx).mono hI1 (Bmap.le.refl β) _ _)
                simp only [VR] at ha
                obtain ⟨b, k', c', hβ, rfl⟩ := ha
                obtain ⟨bi, h1, h2, h3, h4, h5, h6, h7, h8⟩ := R1.blk _ _ hs1
                rw [hβ] at h1
                injection h1 with h1
                subst h1
                simp only at h2 h8
                subst h2
                rcases h8 with ⟨h8, _⟩ | ⟨b', us, ty, e, h8, h9, h10⟩
                · cases h8
                injection e with e
                subst e
                have hyok : ys.all okCell = true := List.all_eq_true.2 (fun q hq => ok_of_tree1 (treeC_iff.1 v2 q hq))
                obtain ⟨p1, p2⟩ := putE_cells hyok hp
                have hyl := VRs_length v1
                have hzk : z.cells.length = k' := h7 z (List.mem_of_getElem? hz)
                have hil : i < xs.length := (List.getElem?_eq_some_iff.1 hz).1
                have hmul := mul_lt_of (k := k') hil
                have hsize : xs.length * k' ≤ us.size := by rw [h9]; exact Nat.mul_le_mul_right k' h5
                simp only [Array.length_toList] at hyl
                refine ⟨_, run_storeAt hk h8 (by omega) (by omega) hone, Post.mk hI1 (Bmap.le.refl β) (R1.write hs1 (b := b) (by simp [owns, hβ]) (by simp [owns, hβ]) _ ?_ rfl) (VR_undef I1 β)⟩
                refine ⟨_, hβ, rfl, h3, h4, by simpa using h5, ?_, ?_, Or.inr ⟨b, _, ty, rfl, setRow_heap w b us _ ty (0, 0) h8, ?_, ?_⟩⟩
                · rw [treeL_iff]
                  intro q hq
                  rcases List.mem_or_eq_of_mem_set hq with hq | rfl
                  · exact treeL_iff.1 h6 q hq
                  · rw [p1, treeC_iff]
                    intro r hr
                    unfold setAt at hr
                    simp only [List.mem_append] at hr
                    rcases hr with (hr | hr) | hr
                    · exact treeC_iff.1 (treeL_iff.1 h6 z (List.mem_of_getElem? hz)) r (List.mem_of_mem_take hr)
                    · exact treeC_iff.1 v2 r hr
                    · exact treeC_iff.1 (treeL_iff.1 h6 z (List.mem_of_getElem? hz)) r (List.mem_of_mem_drop hr)
                · intro q hq
                  rcases List.mem_or_eq_of_mem_set hq with hq | rfl
                  · exact h7 q hq
                  · rw [p1, setAt_len p2]; exact hzk
                · simp; omega
                · rw [flat_set h7 hz p1 (by omega)]
                  have := VRs_setAt h10 v1 (i * k' + o)
                  refine cast ?_ this
                  congr 1
                  simp only [List.length_set]
                  rw [List.take_take, Nat.min_eq_left (by omega), List.drop_take]
                  apply List.ext_getElem?
                  intro j
                  simp only [List.getElem?_append, List.getElem?_take, List.getElem?_drop, List.length_append, List.length_take, Array.length_toList]
                  repeat' split
                  all_goals first | rfl | omega | (congr 1; omega) | (exfalso; omega) | skip
                  all_goals (first | (symm; rw [List.getElem?_eq_none_iff]; simp; omega) | (rw [List.getElem?_eq_none_iff]; simp; omega))
              · cases h
          · cases h
        · cases h
      · cases h
    · rename_i g' kk xs hs
      split at h
      · rename_i e; subst e
        split at h
        · rename_i z hz
          split at h
          · rename_i z' hp
            simp only [Option.some.injEq, Prod.mk.injEq] at h
            obtain ⟨rfl, rfl, rfl⟩ := h
            simp only [VR] at ha
            obtain ⟨b, k', c', hβ, rfl⟩ := ha
            obtain ⟨bi, h1, h2, h3, h4, h5, h6, b', us, ty, e, h8, h9, h10⟩ := R.blk _ _ hs
            rw [hβ] at h1
            injection h1 with h1
            subst h1
            simp only at h2 e
            subst h2
            injection e with e
            subst e
            have v1 := VRs_cells htop hx
            obtain ⟨p1, p2⟩ := putE_cells hok hp
            have hyl := VRs_length v1
            have hzk : z.cells.length = k' := (h6 z (List.mem_of_getElem? hz)).1
            have hil : i < xs.length := (List.getElem?_eq_some_iff.1 hz).1
            have hmul := mul_lt_of (k := k') hil
            have hsize : xs.length * k' ≤ us.size := by rw [h9]; exact Nat.mul_le_mul_right k' h5
            simp only [Array.length_toList] at hyl
            refine ⟨_, run_storeAt hk h8 (by omega) (by omega) hone, Post.here (R.write hs (b := b) (by simp [owns, hβ]) (by simp [owns, hβ]) _ ?_ rfl) (VR_undef I β)⟩
            refine ⟨_, hβ, rfl, h3, h4, by simpa using h5, ?_, b, _, ty, rfl, setRow_heap w b us _ ty (0, 0) h8, ?_, ?_⟩
            · intro q hq
              rcases List.mem_or_eq_of_mem_set hq with hq | rfl
              · exact h6 q hq
              · rw [p1]
                refine ⟨by rw [setAt_len p2]; exact hzk, fun r hr => ?_⟩
                unfold setAt at hr
                simp only [List.mem_append] at hr
                rcases hr with (hr | hr) | hr
                · exact (h6 z (List.mem_of_getElem? hz)).2 r (List.mem_of_mem_take hr)
                · exact List.all_eq_true.1 hok r hr
                · exact (h6 z (List.mem_of_getElem? hz)).2 r (List.mem_of_mem_drop hr)
            · have h9b : us.size = c' * k' := h9
              simp only [List.size_toArray, List.length_append, List.length_take, List.length_drop, Array.length_toList]
              rw [h9b]; rw [h9b] at hsize; omega
            · rw [flat_set (fun x hx => (h6 x hx).1) hz p1 (by omega)]
              have := VRs_setAt h10 v1 (i * k' + o)
              refine cast ?_ this
              congr 1
              simp only [List.length_set]
              rw [List.take_take, Nat.min_eq_left (by omega), List.drop_take]
              apply List.ext_getElem?
              intro j
              simp only [List.getElem?_append, List.getElem?_take, List.getElem?_drop, List.length_append, List.length_take, Array.length_toList]
              repeat' split
              all_goals first | rfl | omega | (congr 1; omega) | (exfalso; omega) | skip
              all_goals (first | (symm; rw [List.getElem?_eq_none_iff]; simp; omega) | (rw [List.getElem?_eq_none_iff]; simp; omega))
          · cases h
        · cases h
      · cases h
    · cases h
  · cases h

/-- what the slots hold -/
def TR (I : Imm) (β : Bmap) (tm : Tms) (tmps : Array Value) : Prop := ∀ n, VR I β (tget tm n) (tmps.getD n undef)
theorem TR.mono {tm : Tms} {tmps : Array Value} (hI : I.le I') (hβ : β.le β') (h : TR I β tm tmps) : TR I' β' tm tmps := fun n => (h n).mono hI hβ _ _
theorem tget_tins {d n : Nat} {v : AVal} : ∀ {tm : Tms}, tget (tins d v tm) n = if d = n then v else tget tm n
  | [] => by simp [tins, tget]
  | (e, w) :: r => by
    simp only [tins]
    split
    · simp only [tget]
    · split
      · rename_i h; subst h
        simp only [tget]
        split <;> rfl
      · rename_i h
        simp only [tget, tget_tins (tm := r)]
        by_cases h1 : e = n
        · subst h1; rw [if_pos rfl, if_neg (fun h' => h h'.symm), if_pos rfl]
        · simp [h1]
theorem TR.put {tm : Tms} {tmps : Array Value} (h : TR I β tm tmps) {x : AVal} {v : Value} (hx : VR I β x v) {d : Nat} (hd : d < tmps.size) : TR I β (tins d x tm) (tmps.setIfInBounds d v) := by
  intro n
  rw [tget_tins]
  by_cases e : d = n
  · subst e
    rw [if_pos rfl]
    rw [show (tmps.setIfInBounds d v).getD d undef = v by simp [Array.getD, hd]]; exact hx
  · rw [if_neg e]
    rw [show (tmps.setIfInBounds d v).getD n undef = tmps.getD n undef by simp only [Array.getD_eq_getD_getElem?]; rw [Array.getElem?_setIfInBounds_ne e]]
    exact h n
theorem tget_keepL {tm : Tms} {n : Nat} : ∀ {live : List Nat}, tget (keepL live tm) n = if n ∈ live then tget tm n else .top
  | [] => by simp [keepL, tget]
  | l :: live => by
    have ih := tget_keepL (tm := tm) (n := n) (live := live)
    simp only [keepL, List.map_cons, tget, List.mem_cons] at ih ⊢
    by_cases h : l = n
    · subst h; simp
    · simp only [h, if_false, ih]
      simp [Ne.symm h]
theorem TR.keep {tm : Tms} {tmps : Array Value} (h : TR I β tm tmps) (live : List Nat) : TR I β (keepL live tm) tmps := by
  intro n
  rw [tget_keepL]
  split
  · exact h n
  · simp only [VR]
end
end Go.Proofs.YtaaflagbhneakaaDoor
