/- ABS: slices, fields, indices. -/
import Derived.Test.YtaaflagbhneakaaDoorAbsOp2
namespace Go.Proofs.YtaaflagbhneakaaDoor
set_option linter.unusedSimpArgs false
set_option linter.unusedVariables false
open Go.RowKit

section
variable {P : Program} {base : Nat → Prop} {w0 w w' : World} {I0 I I' : Imm} {β β' : Bmap} {σ σ' : AHeap} {tm : Tms}

/-- optional operands -/
def OVR (I : Imm) (β : Bmap) : Option AVal → Option Value → Prop
  | none, v => v = none
  | some x, v => ∃ u, v = some u ∧ VR I β x u
theorem OVR.some' {x : Option AVal} {v : Option Value} (h : OVR I β x v) : ∀ y, x = some y → ∃ u, v = some u ∧ VR I β y u := by
  rintro y rfl; exact h
theorem OVR.none' {x : Option AVal} {v : Option Value} (h : OVR I β x v) : x = none → v = none := by
  rintro rfl; exact h

theorem lst_sub {b : Bool} {xs : List AVal} {A : Option Addr} {cap : Nat} (hcap : xs.length ≤ cap) (hmax : cap ≤ 9223372036854775807) (hA : xs = [] ∨ ∃ b off k, A = some ⟨b, off, none⟩ ∧ 0 < k ∧ LR I β k xs b off) (ht : treeL xs = true) {k l h m : Nat} (hk : l = 0 ∨ kOk k xs = true) (hl : l ≤ h) (hh : h ≤ xs.length) (hm : h ≤ m) (hmc : m ≤ cap) (x : Bool) (hx : x = true → m = h) :
    VR I β (.lst x ((xs.take h).drop l)) (.slice (if m = l then A else A.map (·.add (l * k))) (h - l) (m - l)) := by
  simp only [VR]
  have hlen : ((xs.take h).drop l).length = h - l := by simp; omega
  refine ⟨_, _, by rw [hlen], by rw [hlen]; omega, by omega, fun hx' => by rw [hlen, hx hx'], ?_, treeL_drop (treeL_take ht h) l⟩
  by_cases he : (xs.take h).drop l = []
  · exact Or.inl he
  · have hlt : l < h := by
      rcases Nat.lt_or_ge l h with h1 | h1
      · exact h1
      · exact absurd (List.eq_nil_of_length_eq_zero (by rw [hlen]; omega)) he
    rcases hA with rfl | ⟨b', off, k', rfl, hk', hL⟩
    · simp at he
    · have hml : ¬ m = l := by omega
      refine Or.inr ⟨b', off + l * k, k', ?_, hk', ?_⟩
      · rw [if_neg hml]; simp [Addr.add_mid]
      · have hkk : l * k = l * k' := by
          rcases hk with rfl | hk
          · simp
          · have hne : xs ≠ [] := by rintro rfl; simp at he
            rw [kOk_lens hk (LR_lens hL) hne]
        rw [hkk]
        exact LR_drop (LR_take hL)

theorem run_sliceA {t e : TypeId} {k : Nat} (ht : P.underlying t = some (.slice e)) (hk : sizeP P e = some k) (R : Rel base w0 I0 I β σ w) {x r : AVal} {v : Value} (hx : VR I β x v) {lo hi mx : Option AVal} {vlo vhi vmx : Option Value} (hlo : OVR I β lo vlo) (hhi : OVR I β hi vhi) (hmx : OVR I β mx vmx) (hhm : hi = none → mx = none) {c : Cls}
    (h : sliceA σ k x lo hi mx = some (r, σ', c)) : ∃ u, (Instr.sliceAt t v vlo vhi vmx).run P w = .ok u w ∧ Post base w0 I0 I β r σ' u w := by
  obtain ⟨ie, hie, hke⟩ : ∃ ie, P.info? e = some ie ∧ ie.size = k := by
    unfold sizeP at hk
    cases hi : P.info? e with
    | none => simp [hi] at hk
    | some i => exact ⟨i, rfl, by simpa [hi] using hk⟩
  have run : ∀ {A : Option Addr} {len cap l h m : Nat}, (Instr.sliceBounds true len cap vlo vhi vmx).run P w = .ok (l, h, m) w →
      (Instr.sliceAt t (.slice A len cap) vlo vhi vmx).run P w = .ok (.slice (if m = l then A else A.map (·.add (l * k))) (h - l) (m - l)) w := by
    intro A len cap l h m hr
    simp [Instr.sliceAt, Instr.slice, run_underlying ht, hr, sizeOf, typeInfo, hie, hke]
  unfold sliceA at h
  split at h
  · rename_i b xs
    simp only [VR] at hx
    obtain ⟨A, cap, rfl, h2, h3, h4, h5, h6⟩ := hx
    split at h
    · cases h
    rename_i m hm
    split at h
    · cases h
    rename_i h' hh
    split at h
    · cases h
    rename_i l hl
    split at h
    case isFalse => cases h
    rename_i hk0
    have hk0' : l = 0 ∨ kOk k xs = true := by simpa using hk0
    obtain ⟨hr, hlh, hhm', hmd⟩ := run_bounds (P := P) (w := w) true hlo.some' hlo.none' hhi.some' hhi.none' hmx.some' hmx.none' h2 hhm hm hh hl
    have hhle : h' ≤ xs.length := by
      cases hi with
      | none => simp only [optB, Option.some.injEq] at hh; omega
      | some y => have := hhm' rfl; omega
    have hhm2 : h' ≤ m := by
      cases hi with
      | none => rw [hhm rfl] at hm; simp only [optB, Option.some.injEq] at hm hh; omega
      | some y => exact hhm' rfl
    split at h
    · rename_i hmx'
      simp only [Option.some.injEq, Prod.mk.injEq] at h
      obtain ⟨rfl, rfl, rfl⟩ := h
      rw [if_pos hmx'] at hr
      exact ⟨_, run hr, Post.here R (lst_sub (b := b) h2 h3 h5 h6 hk0' hlh hhle hhm2 (by omega) _ (fun e => by simpa using (by simpa using e : h' = m).symm))⟩
    · rename_i hmx'
      simp only [Option.some.injEq, Prod.mk.injEq] at h
      obtain ⟨rfl, rfl, rfl⟩ := h
      rw [if_neg hmx'] at hr
      refine ⟨_, run hr, Post.here R (lst_sub (b := b) h2 h3 h5 h6 hk0' hlh hhle (by omega) (Nat.le_refl _) _ (fun e => ?_))⟩
      simp only [Bool.and_eq_true, beq_iff_eq] at e
      rw [h4 e.1, e.2]
  · rename_i t' g p n
    split at h
    · cases h
    rename_i els hels
    have hx0 := hx
    simp only [VR] at hx
    obtain ⟨bi, f1, f2, f3, f4⟩ := hx
    obtain ⟨A, hv⟩ : ∃ A, v = .slice A n (bi.cap - p) := by
      rcases f4 with ⟨b, _, rfl⟩ | ⟨_, hc, A, rfl⟩ | ⟨_, hc, hn, A, rfl⟩
      · exact ⟨_, rfl⟩
      · exact ⟨A, by rw [hc, show n = 0 by omega, Nat.zero_sub]⟩
      · exact ⟨A, by rw [hn, ← hc, Nat.sub_self]⟩
    have row : ∀ {k' : Nat} {xs : List AVal} {h' l : Nat}, bi.k = k → xs.length ≤ bi.cap → p + n ≤ xs.length → vmx = none → mx = none → optB hi n (xs.length - p) = some h' → optB lo 0 h' = some l →
        ∃ u, (Instr.sliceAt t v vlo vhi vmx).run P w = .ok u w ∧ VR I β (.sl t' g (p + l) (h' - l)) u := by
      intro k' xs h' l hbk hxc hpn hv1 hv2 hh hl
      subst hv1 hv2
      obtain ⟨hr, hlh, hhm', hmd⟩ := run_bounds (P := P) (w := w) true (len := n) (cap := bi.cap - p) (d := xs.length - p) (mx := none) (vmx := none) hlo.some' hlo.none' hhi.some' hhi.none' (by simp) (by simp) (by omega) (fun _ => rfl) (m := xs.length - p) rfl hh hl
      have hhn : h' ≤ bi.cap - p := by
        cases hi with
        | none => simp only [optB, Option.some.injEq] at hh; omega
        | some y => have := hhm' rfl; omega
      rw [hv]
      simp only [Option.isSome_none, Bool.false_eq_true, if_false] at hr
      refine ⟨_, run hr, ?_⟩
      simp only [VR]
      refine ⟨bi, f1, by omega, f3, ?_⟩
      rcases f4 with ⟨b, hb, hv'⟩ | ⟨hb, hc, A', hv'⟩ | ⟨hp, hc, hn, A', hv'⟩
      · rw [hv] at hv'; injection hv' with hv'; subst hv'
        by_cases hcl : bi.cap - p = l
        · rw [if_pos hcl]
          by_cases hz : p + l = 0
          · have hp0 : p = 0 := by omega
            have hl0 : l = 0 := by omega
            subst hp0 hl0
            exact Or.inl ⟨b, hb, by simp⟩
          · exact Or.inr (Or.inr ⟨by omega, by omega, by omega, _, by rw [show h' - l = 0 by omega, show bi.cap - p - l = 0 by omega]⟩)
        · rw [if_neg hcl]
          refine Or.inl ⟨b, hb, ?_⟩
          simp only [Option.map_some, Addr.add_mid, ← hbk, ← Nat.add_mul]
          rw [Nat.sub_sub]
      · refine Or.inr (Or.inl ⟨hb, hc, ?_⟩)
        rw [hc]
        exact ⟨A, by simp [show h' = 0 by omega, show l = 0 by omega]⟩
      · refine Or.inr (Or.inr ⟨by omega, by omega, by omega, ?_⟩)
        exact ⟨_, by rw [show h' - l = 0 by omega, show bi.cap - p - l = 0 by omega]⟩
    split at h
    · rename_i m0
      split at h
      · rename_i q1 hq1
        split at h
        · rename_i q2 hq2
          split at h
          · rename_i q3 hq3
            simp only [Option.some.injEq, Prod.mk.injEq] at h
            obtain ⟨rfl, rfl, rfl⟩ := h
            have hq1' : q1 = 0 := by
              unfold boundA at hq1; split at hq1
              · split at hq1
                · injection hq1 with hq1; omega
                · cases hq1
              · cases hq1
            subst hq1'
            cases hi with
            | none => cases hhm rfl
            | some y =>
              obtain ⟨hr, hlh, hhm', hmd⟩ := run_bounds (P := P) (w := w) true (len := n) (cap := bi.cap - p) (d := 0) hlo.some' hlo.none' hhi.some' hhi.none' hmx.some' hmx.none' (Nat.zero_le _) hhm (m := 0) (h := q2) (l := q3) hq1 hq2 (by
                have : q2 = 0 := by
                  unfold optB boundA at hq2; simp only at hq2; split at hq2
                  · split at hq2
                    · injection hq2 with hq2; omega
                    · cases hq2
                  · cases hq2
                rw [this]; exact hq3)
              have hq2' : q2 ≤ 0 := hhm' rfl
              have e2 : q2 = 0 := by omega
              have e3 : q3 = 0 := by omega
              subst e2 e3
              rw [hv]
              refine ⟨_, run hr, Post.here R ?_⟩
              simp only [VR]
              exact ⟨A, 0, by simp, by simp, by simp, by simp, Or.inl trivial, by simp [treeL]⟩
          · cases h
        · cases h
      · cases h
    · have hmx0 : vmx = none := hmx
      split at h
      · rename_i g' k' xs hs
        split at h
        case isFalse => cases h
        rename_i hkk
        split at h
        · cases h
        rename_i h' hh
        split at h
        · cases h
        rename_i l hl
        simp only [Option.some.injEq, Prod.mk.injEq] at h
        obtain ⟨rfl, rfl, rfl⟩ := h
        simp only [elemsA, hs] at hels
        split at hels
        case isFalse => cases hels
        rename_i hc
        obtain ⟨bi', e1, e2, _, _, e5, _⟩ := R.blk _ _ hs
        rw [hc.1, f1] at e1
        injection e1 with e1; subst e1
        obtain ⟨u, h1, h2⟩ := row (k' := k') (by rw [e2]; exact hkk) e5 hc.2 hmx0 rfl hh hl
        exact ⟨u, h1, Post.here R h2⟩
      · rename_i g' k' xs hs
        split at h
        case isFalse => cases h
        rename_i hkk
        split at h
        · cases h
        rename_i h' hh
        split at h
        · cases h
        rename_i l hl
        simp only [Option.some.injEq, Prod.mk.injEq] at h
        obtain ⟨rfl, rfl, rfl⟩ := h
        simp only [elemsA, hs] at hels
        split at hels
        case isFalse => cases hels
        rename_i hc
        obtain ⟨bi', e1, e2, _, _, e5, _⟩ := R.blk _ _ hs
        rw [hc.1, f1] at e1
        injection e1 with e1; subst e1
        obtain ⟨u, h1, h2⟩ := row (k' := k') (by rw [e2]; exact hkk) e5 hc.2 hmx0 rfl hh hl
        exact ⟨u, h1, Post.here R h2⟩
      · cases h
  · cases h

theorem run_sslice {t : TypeId} (ht : P.underlying t = some .string) {s : List UInt8} (hs : s.length ≤ 9223372036854775807) {lo hi : Option AVal} {vlo vhi : Option Value} (hlo : OVR I β lo vlo) (hhi : OVR I β hi vhi) {h l : Nat} (h1 : optB hi s.length s.length = some h) (h2 : optB lo 0 h = some l) :
    (Instr.sliceAt t (.string ⟨s.toArray⟩) vlo vhi none).run P w = .ok (.string ⟨((s.take h).drop l).toArray⟩) w := by
  have hsz : ByteArray.size ⟨s.toArray⟩ = s.length := by simp [ByteArray.size]
  obtain ⟨hr, hlh, _, _⟩ := run_bounds (P := P) (w := w) false (len := s.length) (cap := s.length) (d := s.length) (mx := none) (vmx := none) hlo.some' hlo.none' hhi.some' hhi.none' (by simp) (by simp) (Nat.le_refl _) (fun _ => rfl) (m := s.length) rfl h1 h2
  simp only [Option.isSome_none, Bool.false_eq_true, if_false] at hr
  simp [Instr.sliceAt, Instr.slice, run_underlying ht, hsz, hr]
  apply ByteArray.ext
  apply Array.ext'
  simp [ByteArray.data_extract, List.drop_take]

theorem run_faddr {s : TypeId} {fields : Array Field} {i : Nat} {f : Field} {k : Nat} (hs : P.underlying s = some (.struct fields)) (hf : fields[i]? = some f) (hk : sizeP P f.type = some k) (hk0 : k ≠ 0) {x r : AVal} {v : Value} (hx : VR I β x v) (h : faddrA f.offset x = some r) :
    ∃ u, (Instr.fieldAt s v i).run P w = .ok u w ∧ VR I β r u := by
  obtain ⟨ie, hie, hke⟩ : ∃ ie, P.info? f.type = some ie ∧ ie.size = k := by
    unfold sizeP at hk
    cases hi : P.info? f.type with
    | none => simp [hi] at hk
    | some i => exact ⟨i, rfl, by simpa [hi] using hk⟩
  have run : ∀ b o, (Instr.fieldAt s (.pointer (some ⟨b, o, none⟩)) i).run P w = .ok (.pointer (some ⟨b, o + f.offset, none⟩)) w := by
    intro b o
    simp [Instr.fieldAt, run_underlying hs, hf, Instr.sureAddr, fieldPlace, sizeOf, typeInfo, hie, hke, hk0, Addr.add_mid]
  unfold faddrA at h
  split at h
  · injection h with h; subst h
    simp only [VR] at hx ⊢
    obtain ⟨b, k', c, h1, rfl⟩ := hx
    exact ⟨_, run b _, b, k', c, h1, rfl⟩
  · injection h with h; subst h
    simp only [VR] at hx ⊢
    obtain ⟨b, k', c, h1, rfl⟩ := hx
    exact ⟨_, run b _, b, k', c, h1, by rw [Nat.add_assoc]⟩
  · injection h with h; subst h
    simp only [VR] at hx ⊢
    obtain ⟨b, off, rfl, h1, h2⟩ := hx
    exact ⟨_, run b _, b, off, by rw [Nat.add_assoc], h1, h2⟩
  · cases h

theorem run_part {t : TypeId} {k : Option Nat} (hk : kindOf P t = some k) {cs : List AVal} {us : Array Value} (hv : VRs I β cs us.toList) {o : Nat} {x : AVal} (hp : partA k cs o = some x) : ∃ u, (part t us o).run P w = .ok u w ∧ VR I β x u := by
  unfold kindOf at hk
  have hl := VRs_length hv
  have many : ∀ (d : TypeDesc) (i : TypeInfo), P.underlying t = some d → d.isRow = true → P.info? t = some i → k = some i.size → ∃ u, (part t us o).run P w = .ok u w ∧ VR I β x u := by
    intro d i hu hd hi e
    subst e
    simp only [partA] at hp
    split at hp
    · rename_i hle
      injection hp with hp
      subst hp
      have hagg : (isAgg t).run P w = .ok true w := by
        unfold isAgg
        rw [Sem.run_bind, run_underlying hu w]
        cases d <;> simp_all
      refine ⟨.agg (us.extract o (o + i.size)), by simp [part, hagg, sizeOf, typeInfo, hi], ?_⟩
      simp only [VR]
      refine ⟨_, rfl, ?_⟩
      have := VRs_take (VRs_drop hv o) i.size
      have e : (us.extract o (o + i.size)).toList = (us.toList.drop o).take i.size := by
        rw [Array.toList_extract, List.extract_eq_take_drop, Nat.add_sub_cancel_left]
      rw [e]; exact this
    · cases hp
  have one : ∀ (d : TypeDesc), P.underlying t = some d → d.isRow = false → k = none → ∃ u, (part t us o).run P w = .ok u w ∧ VR I β x u := by
    intro d hu hd e
    subst e
    simp only [partA] at hp
    obtain ⟨u, h1, h2⟩ := VRs_get hv hp
    refine ⟨u, ?_, h2⟩
    have hagg : (isAgg t).run P w = .ok false w := by
      unfold isAgg
      rw [Sem.run_bind, run_underlying hu w]
      cases d <;> simp_all [TypeDesc.isRow]
    have h1' : us[o]? = some u := by simpa using h1
    simp [part, hagg, h1']
  split at hk
  · rename_i hu hi; injection hk with hk; exact many _ _ hu rfl hi hk.symm
  · rename_i hu hi; injection hk with hk; exact many _ _ hu rfl hi hk.symm
  · rename_i d i hu hi hn1 hn2
    split at hk
    · injection hk with hk
      refine one d hn1 ?_ hk.symm
      cases d <;> simp_all [TypeDesc.isRow]
    · cases hk
  · cases hk

theorem run_iaddr {t e : TypeId} {k : Nat} (ht : P.underlying t = some (.slice e)) (hk : sizeP P e = some k) (R : Rel base w0 I0 I β σ w) {x i r : AVal} {v vi : Value} (hx : VR I β x v) (hi : VR I β i vi) {c : Cls} (h : iaddrA σ k x i = some (r, σ', c)) :
    ∃ u, (Instr.indexAt t v vi).run P w = .ok u w ∧ VR I β r u ∧ σ' = σ := by
  obtain ⟨ie, hie, hke⟩ : ∃ ie, P.info? e = some ie ∧ ie.size = k := by
    unfold sizeP at hk
    cases hi : P.info? e with
    | none => simp [hi] at hk
    | some i => exact ⟨i, rfl, by simpa [hi] using hk⟩
  have run : ∀ {b o len cap : Nat} {kk : IntKind} {i : Int}, 0 ≤ i → i.toNat < len → (Instr.indexAt t (.slice (some ⟨b, o, none⟩) len cap) (.int kk i)).run P w = .ok (.pointer (some ⟨b, o + i.toNat * k, none⟩)) w := by
    intro b o len cap kk i h0 h1
    simp [Instr.indexAt, asIntOf, run_underlying ht, h0, show i < (len : Int) by omega, sizeOf, typeInfo, hie, hke, Addr.add_mid]
  unfold iaddrA at h
  split at h
  case h_2 => cases h
  rename_i kk i
  simp only [VR] at hi
  subst hi
  split at h
  case isFalse => cases h
  rename_i h0
  split at h
  · rename_i b xs
    split at h
    · rename_i y hy
      split at h
      · rename_i hyk
        simp only [Option.some.injEq, Prod.mk.injEq] at h
        obtain ⟨rfl, rfl, rfl⟩ := h
        have hlt := (List.getElem?_eq_some_iff.1 hy).1
        simp only [VR] at hx
        obtain ⟨A, cap, rfl, h2, h3, h4, h5, h6⟩ := hx
        rcases h5 with rfl | ⟨b', off, k', rfl, hk', hL⟩
        · simp at hy
        obtain ⟨q1, q2⟩ := LR_at hL hy
        have : k' = k := by omega
        subst this
        refine ⟨_, run h0 hlt, ?_, rfl⟩
        simp only [VR]
        exact ⟨b', _, rfl, q2, treeL_iff.1 h6 y (List.mem_of_getElem? hy)⟩
      · cases h
    · cases h
  · rename_i t' g p n
    split at h
    case isFalse => cases h
    rename_i hlt
    have fin : ∀ bi, β t' g = some bi → bi.k = k → r = .eref t' g (p + i.toNat) 0 → ∃ u, (Instr.indexAt t v (.int kk i)).run P w = .ok u w ∧ VR I β r u := by
      intro bi hb hbk hr
      subst hr
      simp only [VR] at hx
      obtain ⟨bi', f1, f2, f3, f4⟩ := hx
      rw [hb] at f1; injection f1 with f1; subst f1
      rcases f4 with ⟨b, hbb, rfl⟩ | ⟨_, hc, _⟩ | ⟨_, _, hn, _⟩
      · refine ⟨_, run h0 hlt, ?_⟩
        simp only [VR]
        refine ⟨b, bi.k, bi.cap, ?_, by rw [hbk, Nat.add_zero, Nat.add_mul]⟩
        rw [hb]
        cases bi
        simp_all
      · omega
      · omega
    split at h
    · rename_i g' k' xs hs
      split at h
      · rename_i hc
        simp only [Option.some.injEq, Prod.mk.injEq] at h
        obtain ⟨hr, rfl, rfl⟩ := h
        obtain ⟨bi, e1, e2, _⟩ := R.blk _ _ hs
        rw [hc.1] at e1
        obtain ⟨u, hu1, hu2⟩ := fin bi e1 (by rw [e2]; exact hc.2) hr.symm
        exact ⟨u, hu1, hu2, rfl⟩
      · cases h
    · rename_i g' k' xs hs
      split at h
      · rename_i hc
        simp only [Option.some.injEq, Prod.mk.injEq] at h
        obtain ⟨hr, rfl, rfl⟩ := h
        obtain ⟨bi, e1, e2, _⟩ := R.blk _ _ hs
        rw [hc.1] at e1
        obtain ⟨u, hu1, hu2⟩ := fin bi e1 (by rw [e2]; exact hc.2) hr.symm
        exact ⟨u, hu1, hu2, rfl⟩
      · cases h
    · rename_i g' k' xs hs
      split at h
      · rename_i hc
        simp only [Option.some.injEq, Prod.mk.injEq] at h
        obtain ⟨hr, rfl, rfl⟩ := h
        obtain ⟨bi, e1, e2, _⟩ := R.blk _ _ hs
        rw [hc.1] at e1
        obtain ⟨u, hu1, hu2⟩ := fin bi e1 (by rw [e2]; exact hc.2) hr.symm
        exact ⟨u, hu1, hu2, rfl⟩
      · cases h
    · cases h
  · cases h

theorem run_aaddr {t e : TypeId} {n k : Nat} (ht : P.underlying t = some (.array n e)) (hk : sizeP P e = some k) {x r : AVal} {v : Value} (hx : VR I β x v) {kk : IntKind} {i : Int} (h0 : 0 ≤ i) (h1 : i < n) (h : faddrA (i.toNat * k) x = some r) :
    ∃ u, (Instr.indexAt t v (.int kk i)).run P w = .ok u w ∧ VR I β r u := by
  obtain ⟨ie, hie, hke⟩ : ∃ ie, P.info? e = some ie ∧ ie.size = k := by
    unfold sizeP at hk
    cases hi : P.info? e with
    | none => simp [hi] at hk
    | some i => exact ⟨i, rfl, by simpa [hi] using hk⟩
  have run : ∀ b o, (Instr.indexAt t (.pointer (some ⟨b, o, none⟩)) (.int kk i)).run P w = .ok (.pointer (some ⟨b, o + i.toNat * k, none⟩)) w := by
    intro b o
    simp [Instr.indexAt, asIntOf, run_underlying ht, Instr.sureAddr, h0, h1, sizeOf, typeInfo, hie, hke, Addr.add_mid]
  unfold faddrA at h
  split at h
  · injection h with h; subst h
    simp only [VR] at hx ⊢
    obtain ⟨b, k', c, h1, rfl⟩ := hx
    exact ⟨_, run b _, b, k', c, h1, rfl⟩
  · injection h with h; subst h
    simp only [VR] at hx ⊢
    obtain ⟨b, k', c, h1, rfl⟩ := hx
    exact ⟨_, run b _, b, k', c, h1, by rw [Nat.add_assoc]⟩
  · injection h with h; subst h
    simp only [VR] at hx ⊢
    obtain ⟨b, off, rfl, h1, h2⟩ := hx
    exact ⟨_, run b _, b, off, by rw [Nat.add_assoc], h1, h2⟩
  · cases h
end
end Go.Proofs.YtaaflagbhneakaaDoor
