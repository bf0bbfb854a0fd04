/- slices.Clone, told by hand: a new row with the same elements, whether the slice was nil or not. -/
import Derived.Test.YtaaflagbhneakaaDoorAbsX3
import Derived.Test.YtaaflagbhneakaaDoorAbsFrame
import Derived.Laws.Cover3
namespace Go.Proofs.YtaaflagbhneakaaDoor
set_option linter.unusedSimpArgs false
set_option linter.unusedVariables false
open Go.RowKit

def clonePrim (k bytes : Nat) (args : List AVal) (σ : AHeap) : Option (AVal × AHeap) := match args with
  | [.str _] => none
  | [a] => match elemsA σ a with
    | some (xs, _) => if xs.length * bytes ≤ 140737488355328 ∧ kOk k xs = true then some (.sl σ.length 0 0 xs.length, σ ++ [.row 0 k xs]) else none
    | none => none
  | _ => none
def cloneAnn : Ann := { nt := 8, lr := fun _ => [7, 6, 5, 4, 3, 2, 0] }
/-- the two pieces of the code around the question whether the slice is nil -/
structure CloneB (P : Program) (t : TypeId) (k bytes : Nat) (z : AVal) (f : FuncId) : Prop where
  ex : ∃ (F : Func) (e : TypeId) (i0 i1 i2 i3 : Nat) (r0 r2 r3 : Array Oper) (m b : Oper),
    P.funcs[f]? = some F ∧ F.results = #[.tmp 2] ∧ F.ntmps = 8 ∧ (F.name == "runtime.NumGoroutine") = false ∧ P.underlying t = some (.slice e) ∧
    F.body = some (.seq (.region i0 r0 false) (.seq (.seq (.region i1 #[m, b] false) (.cond (.tmp 4) (.seq (.region i2 r2 false) .ret) .skip)) (.seq (.region i3 r3 false) .ret))) ∧
    m.op = .move (.tmp 0) ∧ m.dst = some 3 ∧ m.guard = none ∧ b.op = .binOp .eql t (.tmp 3) (.const (.slice none 0 0)) t ∧ b.dst = some 4 ∧ b.guard = none ∧
    compOps P cloneAnn r0 r0.toList = some [⟨some 2, .mov (.c (.lst true [])), none, []⟩] ∧
    compOps P cloneAnn r2 r2.toList = some [⟨some 2, .mov (.c (.lst true [])), none, []⟩] ∧
    (∃ a1 a2 a3 a4, compOps P cloneAnn r3 r3.toList = some [⟨some 5, .bslice false k 0 z [], none, a1⟩, ⟨some 6, .mov (.t 0), none, a2⟩, ⟨some 7, .app k bytes z (.t 5) (.t 6), none, a3⟩, ⟨some 2, .mov (.t 7), none, a4⟩]) ∧ z.cells.length = k ∧ 0 < k

section
variable {P : Program} {base : Nat → Prop} {w0 w w' : World} {I0 I : Imm} {β : Bmap} {σ : AHeap}
theorem noO : OrOk P (fun _ _ _ => none) := by intro f args σ r σ' h; cases h
theorem wpList_one {ops : Array Oper} {Q : Exit → Act → World → Prop} {o : Oper} {l : List Oper} {a : Act} {w : World} (hg : o.guard = none) (h : o.wp P a w (wpList P ops Q l) Q) : wpList P ops Q (o :: l) a w := by
  unfold wpList
  have : Region.wanted o (yielded ops a.tmps) = true := by unfold Region.wanted; rw [hg]
  rw [this]
  simp only [if_true]
  exact Or.inl h
theorem clone_ok {t : TypeId} {k bytes : Nat} {z : AVal} {f : FuncId} (hm : P.follows .mixedOrders = true) (C : CloneB P t k bytes z f) {args : List AVal} {σ σ' : AHeap} {r : AVal} (h : clonePrim k bytes args σ = some (r, σ')) :
    (∃ fn, P.funcs[f]? = some fn ∧ fn.body.isSome = true ∧ (fn.name == "runtime.NumGoroutine") = false) ∧
    ∀ base w0 I0 I β w (vs : Array Value), KLt base w0 → Rel base w0 I0 I β σ w → VRs I β args vs.toList →
      Calls P f vs w (fun e w' => ∃ u, Ends r e u ∧ PostF σ.length base w0 I0 I β r σ' u w') := by
  obtain ⟨F, e, i0, i1, i2, i3, r0, r2, r3, m, b, hF, hres, hnt, hname, hu, hbody, hm1, hm2, hm3, hb1, hb2, hb3, hc0, hc2, ⟨a1, a2, a3, a4, hc3⟩, hzk, hk0⟩ := C.ex
  refine ⟨⟨F, hF, by rw [hbody]; rfl, hname⟩, ?_⟩
  intro base w0 I0 I β w vs hb R hargs
  unfold clonePrim at h
  split at h
  case h_1 => cases h
  case h_3 => cases h
  rename_i a hns
  split at h
  case h_2 => cases h
  rename_i xs ts hel0
  split at h
  case isFalse => cases h
  rename_i hc
  obtain ⟨hbytes, hkOk⟩ := hc
  simp only [Option.some.injEq, Prod.mk.injEq] at h
  obtain ⟨rfl, rfl⟩ := h
  have hnt8 : ∀ (n : Nat), n < 8 → n < cloneAnn.nt := fun n h => h
  refine calls_of_wp hF hbody ?_
  have hsz : vs.size = 1 := by have := VRs_length hargs; simpa using this.symm
  have T := enter_TR hargs (F.ntmps - vs.size)
  have hst : StR 8 base w0 I0 I β (enterA 0 [a] []) σ { tmps := vs ++ Array.replicate (F.ntmps - vs.size) undef, defers := [] } w := ⟨I, β, Imm.le.refl I, Bmap.le.refl β, T, ⟨rfl, by simp; omega⟩, R⟩
  -- what is behind the end
  have fin : ∀ {tm : Tms} {σ1 : AHeap} {y : AVal} {a' : Act} {w1 : World}, StR 8 base w0 I0 I β tm σ1 a' w1 → tget tm 2 = y → (∀ I' β' u, I.le I' → β.le β' → Rel base w0 I0 I' β' σ1 w1 → VR I' β' y u → PostF σ.length base w0 I0 I β (.sl σ.length 0 0 xs.length) (σ ++ [.row 0 k xs]) u w1) →
      a'.defers = [] ∧ ∃ v, (results F a'.tmps).run P w1 = .ok v w1 ∧ ∃ u, Ends (.sl σ.length 0 0 xs.length) (.returned v) u ∧ PostF σ.length base w0 I0 I β (.sl σ.length 0 0 xs.length) (σ ++ [.row 0 k xs]) u w1 := by
    rintro tm σ1 y a' w1 ⟨I', β', h1, h2, h3, h4, h5⟩ hy hpost
    refine ⟨h4.1, a'.tmps.getD 2 undef, by simp [results, hres], _, rfl, ?_⟩
    have := h3 2
    rw [hy] at this
    exact hpost I' β' _ h1 h2 h5 this
  have R0 : compC P cloneAnn (.region i0 r0 false) = .region [⟨some 2, .mov (.c (.lst true [])), none, []⟩] none [7, 6, 5, 4, 3, 2, 0] := by simp only [compC]; rw [hc0]; rfl
  have R2 : compC P cloneAnn (.region i2 r2 false) = .region [⟨some 2, .mov (.c (.lst true [])), none, []⟩] none [7, 6, 5, 4, 3, 2, 0] := by simp only [compC]; rw [hc2]; rfl
  have R3 : compC P cloneAnn (.region i3 r3 false) = .region [⟨some 5, .bslice false k 0 z [], none, a1⟩, ⟨some 6, .mov (.t 0), none, a2⟩, ⟨some 7, .app k bytes z (.t 5) (.t 6), none, a3⟩, ⟨some 2, .mov (.t 7), none, a4⟩] none [7, 6, 5, 4, 3, 2, 0] := by simp only [compC]; rw [hc3]; rfl
  refine wp_seq ?_
  refine region_sound (an := cloneAnn) (byref := fun _ => false) noO hm hb R0 hst (e := .normal) (tm' := keepL [7, 6, 5, 4, 3, 2, 0] [(2, .lst true []), (0, a)]) (σ' := σ) ?_ ?_
  · simp [runRegion, regX, sitesOf, nsite, runOps, stepA, wantedA, execI, Opd.ev, tput, tins, enterA]
  intro a1' w1 hst1
  simp only [Exit.then]
  refine wp_seq (wp_seq ?_)
  refine wp_region_list ?_
  refine wpList_one hm3 ?_
  obtain ⟨I1, β1, g1, g2, g3, g4, g5⟩ := hst1
  have hs8 : 8 ≤ a1'.tmps.size := g4.2
  have hT0 : VR I1 β1 a (a1'.tmps.getD 0 undef) := by have := g3 0; simpa [keepL, tget] using this
  obtain ⟨A, cap, hv0, q1, q2, q5, q4⟩ := elems_reads g5 (fun l e => hns l e) hel0 hT0
  show m.wp P a1' w1 _ _
  unfold Oper.wp
  have e1 : (execOp a1'.eval m).run P w1 = .ok (.value (.slice A xs.length cap)) w1 := by
    unfold execOp; rw [hm1]; simp [Act.eval, hv0]
  rw [e1, Oper.upon_value, hm2]
  refine wpList_one hb3 ?_
  unfold Oper.wp
  have hs3 : (a1'.put (some 3) (.slice A xs.length cap)).tmps.getD 3 undef = .slice A xs.length cap := by
    have : 3 < a1'.tmps.size := by omega
    simp [Act.put, Array.getD, this]
  have e2 : (execOp (a1'.put (some 3) (.slice A xs.length cap)).eval b).run P w1 = .ok (.value (.bool A.isNone)) w1 := by
    have hq : (Op.equal t (.slice A xs.length cap) (.slice none 0 0)).run P w1 = .ok A.isNone w1 := run_equal_slice_nil w1 t e A xs.length cap hu
    unfold execOp; rw [hb1]
    simp only [Act.eval]
    rw [hs3]
    simp [eqGuard, binOp, hq]
  rw [e2, Oper.upon_value, hb2]
  refine wpList_nil ?_
  -- the state behind the question
  have hst2 : StR 8 base w0 I0 I β [(4, .bool A.isNone), (2, .lst true []), (0, a)] σ ((a1'.put (some 3) (.slice A xs.length cap)).put (some 4) (.bool A.isNone)) w1 := by
    refine ⟨I1, β1, g1, g2, fun n => ?_, ⟨by rw [put_defers, put_defers]; exact g4.1, by rw [put_size, put_size]; exact g4.2⟩, g5⟩
    have hs : 4 < (a1'.put (some 3) (.slice A xs.length cap)).tmps.size := by rw [put_size]; omega
    have ne : ∀ {a : Act} {d j : Nat} {u : Value}, d ≠ j → (a.put (some d) u).tmps.getD j undef = a.tmps.getD j undef := by
      intro a d j u hne
      simp only [Act.put, Array.getD_eq_getD_getElem?]; rw [Array.getElem?_setIfInBounds_ne hne]
    simp only [tget]
    split
    · rename_i e; subst e
      rw [show ((a1'.put (some 3) (.slice A xs.length cap)).put (some 4) (.bool A.isNone)).tmps.getD 4 undef = .bool A.isNone by
        simp only [Act.put] at hs ⊢
        simp [Array.getD] at hs ⊢
        omega]
      simp only [VR]
    · split
      · rename_i e; subst e
        rw [ne (by omega), ne (by omega)]
        have := g3 2; simpa [keepL, tget] using this
      · split
        · rename_i e; subst e
          rw [ne (by omega), ne (by omega)]
          have := g3 0; simpa [keepL, tget] using this
        · simp only [VR]
  simp only [Exit.then]
  have up : ∀ {tm : Tms} {σ1 : AHeap} {a' : Act} {w' : World}, StF σ.length 8 base w0 I0 I β tm σ1 a' w' → True := fun _ => trivial
  cases hA : A.isNone with
  | true =>
    have hx0 : xs = [] := by
      rcases q4 with h | ⟨b, off, k', us, e, _⟩
      · exact h
      · rw [e] at hA; cases hA
    subst hx0
    have hev : ((a1'.put (some 3) (.slice A 0 cap)).put (some 4) (.bool A.isNone)).eval (.tmp 4) = .bool true := by
      obtain ⟨_, _, _, _, T, _, _⟩ := hst2
      have := T 4
      simp only [tget, if_true, VR] at this
      rw [hA] at this
      simpa [Act.eval, hA] using this
    refine wp_cond_true (by simpa [hA] using hev) ?_
    refine wp_seq ?_
    rw [hA] at hst2
    refine region_sound (an := cloneAnn) (byref := fun _ => false) noO hm hb R2 hst2 (e := .normal) (tm' := keepL [7, 6, 5, 4, 3, 2, 0] [(4, .bool true), (2, .lst true []), (0, a)]) (σ' := σ) ?_ ?_
    · simp [runRegion, regX, sitesOf, nsite, runOps, stepA, wantedA, execI, Opd.ev, tput, tins]
    intro a3' w3 hst3
    simp only [Exit.then]
    refine wp_ret ?_
    refine fin hst3 (y := .lst true []) (by simp [keepL, tget]) ?_
    intro I' β' u h1 h2 h3 h4
    simp only [VR] at h4
    obtain ⟨A', cap', rfl, _, _, hx, _⟩ := h4
    have hcap : cap' = 0 := by simpa using hx
    subst hcap
    have R4 := h3.reserve 1
    have hfree : (σ ++ List.replicate 1 ABlk.free)[σ.length]? = some .free := by simp
    obtain ⟨R5, hle⟩ := R4.newNone hfree k hk0
    refine ⟨I', _, h1, KeptE.of_le (h2.trans hle), ?_, ?_⟩
    · have : (σ ++ List.replicate 1 ABlk.free).set σ.length (.row 0 k []) = σ ++ [.row 0 k []] := by simp
      rw [this] at R5; exact R5
    · simp only [valOf]
      rw [VR_sl0]
      exact ⟨_, Bmap.put_same β' σ.length 0 _, by simp, by simp, Or.inr ⟨rfl, rfl, A', rfl⟩⟩
  | false =>
    have hev : ((a1'.put (some 3) (.slice A xs.length cap)).put (some 4) (.bool A.isNone)).eval (.tmp 4) = .bool false := by
      obtain ⟨_, _, _, _, T, _, _⟩ := hst2
      have := T 4
      simp only [tget, if_true, VR] at this
      rw [hA] at this
      simpa [Act.eval, hA] using this
    refine wp_cond_false (by simpa [hA] using hev) ?_
    refine wp_skip ?_
    rw [hA] at hst2
    simp only [Exit.then]
    refine wp_seq ?_
    have hel : elemsA (σ ++ [ABlk.free]) a = some (xs, ts) := elems_agree hel0 (fun t ht => by
      obtain ⟨g, k, ys, h | h⟩ := elems_rowy hel0 t ht <;> (rw [List.getElem?_append_left (List.getElem?_eq_some_iff.1 h).1]))
    refine region_sound (an := cloneAnn) (byref := fun _ => false) noO hm hb R3 hst2 (e := .normal) (tm' := keepL [7, 6, 5, 4, 3, 2, 0] [(7, .sl σ.length 0 0 xs.length), (6, a), (5, .lst true []), (4, .bool false), (2, .sl σ.length 0 0 xs.length), (0, a)]) (σ' := σ ++ [.row 0 k xs]) ?_ ?_
    · have hfa : freeAt (σ ++ [ABlk.free]) σ.length = true := by simp [freeAt]
      have hnp : (∃ x ys, a = .lst x ys) ∨ ∃ t g lo n, a = .sl t g lo n := by
        cases a with
        | lst x ys => exact Or.inl ⟨x, ys, rfl⟩
        | sl t g lo n => exact Or.inr ⟨t, g, lo, n, rfl⟩
        | str l => exact absurd rfl (hns l)
        | _ => simp [elemsA] at hel0
      rcases hnp with ⟨x, ys, rfl⟩ | ⟨t', g', lo, n, rfl⟩
      · simp [runRegion, regX, sitesOf, nsite, runOps, stepA, wantedA, execI, Opd.ev, tput, tins, tget, viewAs, freezeA, hzk, appA, hel, hkOk, hbytes, hfa]
      · simp [runRegion, regX, sitesOf, nsite, runOps, stepA, wantedA, execI, Opd.ev, tput, tins, tget, viewAs, freezeA, hzk, appA, hel, hkOk, hbytes, hfa]
    intro a3' w3 hst3
    simp only [Exit.then]
    refine wp_ret ?_
    refine fin hst3 (y := .sl σ.length 0 0 xs.length) (by simp [keepL, tget]) ?_
    intro I' β' u h1 h2 h3 h4
    exact ⟨I', β', h1, KeptE.of_le h2, h3, h4⟩
end
end Go.Proofs.YtaaflagbhneakaaDoor
