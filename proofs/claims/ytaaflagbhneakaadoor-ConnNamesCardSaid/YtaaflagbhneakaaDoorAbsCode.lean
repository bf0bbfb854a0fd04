/- ABS: whole statements, functions, calls: what the interpreter says, the program does. -/
import Derived.Test.YtaaflagbhneakaaDoorAbsRegion
namespace Go.Proofs.YtaaflagbhneakaaDoor
set_option linter.unusedSimpArgs false
set_option linter.unusedVariables false
open Go.RowKit

section
variable {P : Program} {O : Oracle} {byref : Nat → Bool} {an : Ann} {base : Nat → Prop} {w0 : World} {I0 : Imm}

/-- the frame and the world of a run; nt: how many slots there are -/
def StR (nt : Nat) (base : Nat → Prop) (w0 : World) (I0 I : Imm) (β : Bmap) (tm : Tms) (σ : AHeap) (a : Act) (w : World) : Prop :=
  ∃ I' β', I.le I' ∧ β.le β' ∧ TR I' β' tm a.tmps ∧ (a.defers = [] ∧ nt ≤ a.tmps.size) ∧ Rel base w0 I0 I' β' σ w
theorem StR.trans {nt : Nat} {I I1 : Imm} {β β1 : Bmap} {tm : Tms} {σ : AHeap} {a : Act} {w : World} (hI : I.le I1) (hβ : β.le β1) (h : StR nt base w0 I0 I1 β1 tm σ a w) : StR nt base w0 I0 I β tm σ a w := by
  obtain ⟨I', β', h1, h2, h3⟩ := h
  exact ⟨I', β', hI.trans h1, hβ.trans h2, h3⟩
theorem Post.trans {I I1 : Imm} {β β1 : Bmap} {x : AVal} {σ : AHeap} {u : Value} {w : World} (hI : I.le I1) (hβ : β.le β1) (h : Post base w0 I0 I1 β1 x σ u w) : Post base w0 I0 I β x σ u w := by
  obtain ⟨I', β', h1, h2, h3⟩ := h
  exact ⟨I', β', hI.trans h1, hβ.trans h2, h3⟩

theorem put_sound {I : Imm} {β : Bmap} {tm : Tms} {a : Act} {v : AVal} {u : Value} (T : TR I β tm a.tmps) (hv : VR I β v u) {d : Option Nat} (hd : ∀ n, d = some n → n < a.tmps.size) : TR I β (tput tm d v) (a.put d u).tmps := by
  cases d with
  | none => exact T
  | some d => exact T.put hv (hd d rfl)
theorem put_defers (a : Act) (d : Option Nat) (u : Value) : (a.put d u).defers = a.defers := by cases d <;> rfl
theorem put_size (a : Act) (d : Option Nat) (u : Value) : (a.put d u).tmps.size = a.tmps.size := by cases d <;> simp [Act.put]

theorem wanted_sound {I : Imm} {β : Bmap} {tm : Tms} {a : Act} (T : TR I β tm a.tmps) {ops : Array Oper} {o : Oper} {g : Option (Nat × Bool)} (hg : compGuard ops o.guard = some g) {b : Bool} (h : wantedA g tm = some b) : Region.wanted o (yielded ops a.tmps) = b := by
  unfold compGuard at hg
  unfold Region.wanted
  split at hg
  · rename_i e
    injection hg with hg; subst hg
    simp only [wantedA, Option.some.injEq] at h
    subst h
    rw [e]
  · rename_i j want e
    split at hg
    · rename_i o' ho'
      split at hg
      · rename_i d hd
        injection hg with hg; subst hg
        rw [e]
        show (yielded ops a.tmps j == some want) = b
        have hy : yielded ops a.tmps j = match a.tmps[d]? with | some (.bool b) => some b | _ => none := by
          simp only [yielded, ho', Option.bind_some, hd]
          rfl
        rw [hy]
        have hx := T d
        rw [Array.getD_eq_getD_getElem?] at hx
        simp only [wantedA] at h
        split at h
        · rename_i b' hb'
          rw [hb'] at hx
          simp only [VR] at hx
          have : a.tmps[d]? = some (.bool b') := by
            cases hq : a.tmps[d]? with
            | none => rw [hq] at hx; simp [undef] at hx
            | some q => rw [hq] at hx; simp at hx; subst hx; rfl
          rw [this]
          simp only [Option.some.injEq] at h
          subst h
          cases b' <;> cases want <;> rfl
        · rename_i hb'
          rw [hb'] at hx
          simp only [VR, VRs] at hx
          obtain ⟨us, hus, hnil⟩ := hx
          injection h with h; subst h
          cases hq : a.tmps[d]? with
          | none => rfl
          | some q =>
            rw [hq] at hus; simp at hus; subst hus
            rfl
        · cases h
      · cases hg
    · cases hg

theorem compOp_spec {ops : Array Oper} {o : Oper} {ao : AOp} (hc : compOp P an ops o = some ao) : ∃ g i, compGuard ops o.guard = some g ∧ (∃ own, compIns P an own o.op = some i) ∧ (∀ n, o.dst = some n → n < an.nt) ∧ ao = ⟨o.dst, i, g, (o.after.toList.filter (Region.binds .any)).map (·.on)⟩ := by
  unfold compOp at hc
  split at hc
  · rename_i g i hg hi
    split at hc
    · rename_i hd
      injection hc with hc
      refine ⟨g, i, hg, ⟨_, hi⟩, fun n hn => ?_, hc.symm⟩
      rw [hn] at hd
      simpa [dstOk] using hd
    · cases hc
  · cases hc

theorem step_sound (hO : OrOk P O) {ops : Array Oper} {o : Oper} {ao : AOp} (hc : compOp P an ops o = some ao) {I : Imm} {β : Bmap} {tm tm' : Tms} {σ σ' : AHeap} {a : Act} {w : World} (T : TR I β tm a.tmps) (hd : a.defers = [] ∧ an.nt ≤ a.tmps.size) (R : Rel base w0 I0 I β σ w) (hb : KLt base w0)
    {site : Nat} {v : AVal} {c : Cls} (h : stepA O byref ao site tm σ = some (v, tm', σ', c)) {K : Act → World → Prop} {Q : Exit → Act → World → Prop} (hK : (∀ x, v ≠ .pan x) → ∀ a' w', StR an.nt base w0 I0 I β tm' σ' a' w' → K a' w')
    (hQ : ∀ x, v = .pan x → ∀ u w', Post base w0 I0 I β x σ' u w' → Q (.panic [{ v := u, recovered := false }]) a w') :
    if Region.wanted o (yielded ops a.tmps) then o.wp P a w K Q ∨ (o.asks P a w ∧ LetsOut Q) else K (a.put o.dst undef) w := by
  obtain ⟨g, i, hg, ⟨own, hi⟩, hdst, rfl⟩ := compOp_spec hc
  have hdst' : ∀ n, o.dst = some n → n < a.tmps.size := fun n hn => Nat.lt_of_lt_of_le (hdst n hn) hd.2
  unfold stepA at h
  split at h
  · cases h
  · rename_i hw
    simp only at hw
    rw [wanted_sound T hg hw]
    simp only [Option.some.injEq, Prod.mk.injEq] at h
    obtain ⟨rfl, rfl, rfl, rfl⟩ := h
    simp only [Bool.false_eq_true, if_false]
    exact hK (by simp) _ _ ⟨I, β, Imm.le.refl I, Bmap.le.refl β, put_sound T (VR_undef I β) hdst', by rw [put_defers, put_size]; exact hd, R⟩
  · rename_i hw
    simp only at hw
    rw [wanted_sound T hg hw]
    simp only [if_true]
    split at h
    · rename_i hf
      split at h
      · rename_i v' σ1 c' he
        simp only [Option.some.injEq, Prod.mk.injEq] at h
        obtain ⟨rfl, rfl, rfl, rfl⟩ := h
        have hs : nsite i ≠ 0 → σ[site]? = some .free := by
          intro hn
          simp only [Bool.or_eq_true, beq_iff_eq] at hf
          exact freeAt_iff.1 (hf.resolve_left hn)
        rcases ins_sound hO hi T R hb hs he with hok | ⟨x, rfl, hpan⟩
        · refine Or.inl (hok.wp (fun u w' hp => ?_))
          obtain ⟨I', β', h1, h2, h3, h4⟩ := hp
          refine hK ?_ _ _ ⟨I', β', h1, h2, put_sound (T.mono h1 h2) h4 hdst', by rw [put_defers, put_size]; exact hd, h3⟩
          rintro x rfl
          simp only [VR] at h4
        · exact Or.inl (hpan.wp (fun u w' hp => hQ x rfl u w' hp))
      · cases h
    · cases h

theorem ops_sound (hO : OrOk P O) (hb : KLt base w0) {ops : Array Oper} {Q : Exit → Act → World → Prop} : ∀ {l : List Oper} {asl : List AOp} {site : Nat} {I : Imm} {β : Bmap} {tm tm' : Tms} {σ σ' : AHeap} {cs : List Cls} {p : Option AVal} {a : Act} {w : World}, compOps P an ops l = some asl → TR I β tm a.tmps → (a.defers = [] ∧ an.nt ≤ a.tmps.size) → Rel base w0 I0 I β σ w →
    runOps O byref asl site tm σ = some (tm', σ', cs, p) → (p = none → ∀ a' w', StR an.nt base w0 I0 I β tm' σ' a' w' → Q .normal a' w') →
    (∀ x, p = some x → ∀ a' u w', a'.defers = [] → Post base w0 I0 I β x σ' u w' → Q (.panic [{ v := u, recovered := false }]) a' w') → wpList P ops Q l a w
  | [], asl, site, I, β, tm, tm', σ, σ', cs, p, a, w, hc, T, hd, R, h, hQ, _ => by
    simp only [compOps, Option.some.injEq] at hc; subst hc
    simp only [runOps, Option.some.injEq, Prod.mk.injEq] at h
    obtain ⟨rfl, rfl, rfl, rfl⟩ := h
    exact wpList_nil (hQ rfl _ _ ⟨I, β, Imm.le.refl I, Bmap.le.refl β, T, hd, R⟩)
  | o :: l, asl, site, I, β, tm, tm', σ, σ', cs, p, a, w, hc, T, hd, R, h, hQ, hP => by
    simp only [compOps] at hc
    split at hc
    · rename_i ao hao
      split at hc
      · rename_i as' has'
        injection hc with hc; subst hc
        simp only [runOps] at h
        split at h
        · cases h
        · rename_i x tm1 σ1 c1 h1
          simp only [Option.some.injEq, Prod.mk.injEq] at h
          obtain ⟨rfl, rfl, rfl, rfl⟩ := h
          have := step_sound (K := wpList P ops Q l) (Q := Q) hO hao T hd R hb h1 (fun hn => absurd rfl (hn x)) (fun x' e u w' hp => by
            injection e with e; subst e
            exact hP x rfl a u w' hd.1 hp)
          unfold wpList
          exact this
        · rename_i v tm1 σ1 c1 hnp h1
          split at h
          · cases h
          rename_i tm2 σ2 cs2 p2 h2
          simp only [Option.some.injEq, Prod.mk.injEq] at h
          obtain ⟨rfl, rfl, rfl, rfl⟩ := h
          have := step_sound (K := wpList P ops Q l) (Q := Q) hO hao T hd R hb h1 (fun _ a' w' hs => by
            obtain ⟨I', β', g1, g2, g3, g4, g5⟩ := hs
            exact ops_sound hO hb has' g3 g4 g5 h2 (fun hp a'' w'' hs' => hQ hp a'' w'' (hs'.trans g1 g2)) (fun x hx a'' u w'' hd' hp => hP x hx a'' u w'' hd' (hp.trans g1 g2))) (fun x e => absurd e (fun e => hnp x e))
          unfold wpList
          exact this
      · cases hc
    · cases hc

theorem compOps_get {ops : Array Oper} : ∀ {l : List Oper} {asl : List AOp}, compOps P an ops l = some asl → asl.length = l.length ∧ ∀ (i : Nat) (o : Oper), l[i]? = some o → ∃ ao, asl[i]? = some ao ∧ compOp P an ops o = some ao
  | [], asl, h => by simp only [compOps, Option.some.injEq] at h; subst h; exact ⟨rfl, fun i o ho => by simp at ho⟩
  | o :: l, asl, h => by
    simp only [compOps] at h
    split at h
    · rename_i ao hao
      split at h
      · rename_i as' has'
        injection h with h; subst h
        obtain ⟨h1, h2⟩ := compOps_get has'
        refine ⟨by simp [h1], fun i o' ho' => ?_⟩
        cases i with
        | zero => simp only [List.getElem?_cons_zero, Option.some.injEq] at ho'; subst ho'; exact ⟨ao, rfl, hao⟩
        | succ i => simp only [List.getElem?_cons_succ] at ho' ⊢; exact h2 i o' ho'
      · cases h
    · cases h

/-- what lies ahead -/
theorem ancs_spec : ∀ (ls acc : List (List Nat)), (∀ j p, p ∈ (acc.getD j []) → True) → (ancs ls acc).take acc.length = acc ∧ (ancs ls acc).length = acc.length + ls.length ∧
    ∀ j, j < ls.length → ∀ p, p ∈ (ancs ls acc).getD (acc.length + j) [] → p ∈ ls.getD j [] ∨ ∃ i ∈ ls.getD j [], i < acc.length + j ∧ p ∈ (ancs ls acc).getD i []
  | [], acc, _ => by simp [ancs]
  | l :: ls, acc, _ => by
    obtain ⟨h1, h2, h3⟩ := ancs_spec ls (acc ++ [l ++ l.flatMap fun i => acc.getD i []]) (fun _ _ _ => trivial)
    simp only [ancs]
    have hlen : (acc ++ [l ++ l.flatMap fun i => acc.getD i []]).length = acc.length + 1 := by simp
    rw [hlen] at h1 h2 h3
    have hpre : ∀ i, i < acc.length + 1 → (ancs ls (acc ++ [l ++ l.flatMap fun i => acc.getD i []])).getD i [] = (acc ++ [l ++ l.flatMap fun i => acc.getD i []]).getD i [] := by
      intro i hi
      have := congrArg (fun q : List (List Nat) => q.getD i []) h1
      simp only [List.getD_eq_getElem?_getD, List.getElem?_take, hi, if_true] at this ⊢
      exact this
    refine ⟨?_, by rw [h2]; simp; omega, ?_⟩
    · have := congrArg (List.take acc.length) h1
      rw [List.take_take, Nat.min_eq_left (by omega)] at this
      rw [this]; simp
    · intro j hj p hp
      cases j with
      | zero =>
        rw [Nat.add_zero, hpre _ (by omega)] at hp
        simp only [List.getD_eq_getElem?_getD, List.getElem?_append_right (Nat.le_refl _), Nat.sub_self, List.getElem?_cons_zero, Option.getD_some, List.mem_append, List.mem_flatMap] at hp
        rcases hp with hp | ⟨i, hi, hp⟩
        · exact Or.inl (by simpa using hp)
        · refine Or.inr ⟨i, by simpa using hi, ?_, ?_⟩
          · by_cases hlt : i < acc.length
            · omega
            · rw [List.getElem?_eq_none (by omega)] at hp; simp at hp
          · have hlt : i < acc.length := by
              by_cases hlt : i < acc.length
              · exact hlt
              · rw [List.getElem?_eq_none (by omega)] at hp; simp at hp
            rw [hpre i (by omega)]
            simp only [List.getD_eq_getElem?_getD, List.getElem?_append_left hlt]
            exact hp
      | succ j =>
        have := h3 j (by simpa using hj) p (by rw [show acc.length + 1 + j = acc.length + (j + 1) by omega]; exact hp)
        rcases this with h | ⟨i, h4, h5, h6⟩
        · exact Or.inl (by simpa using h)
        · exact Or.inr ⟨i, by simpa using h4, by omega, h6⟩

theorem fold_bit (f : Nat → Nat) (p : Nat) : ∀ (l : List Nat) (m : Nat), (l.foldl (fun m i => m ||| 2 ^ i ||| f i) m).testBit p = true → m.testBit p = true ∨ p ∈ l ∨ ∃ i ∈ l, (f i).testBit p = true
  | [], m, h => Or.inl h
  | i :: l, m, h => by
    rcases fold_bit f p l _ h with h | h | ⟨j, h1, h2⟩
    · simp only [Nat.testBit_or, Bool.or_eq_true, Nat.testBit_two_pow, decide_eq_true_eq] at h
      rcases h with (h | h) | h
      · exact Or.inl h
      · exact Or.inr (Or.inl (by simp [h]))
      · exact Or.inr (Or.inr ⟨i, by simp, h⟩)
    · exact Or.inr (Or.inl (by simp [h]))
    · exact Or.inr (Or.inr ⟨j, by simp [h1], h2⟩)
theorem ancM_sub : ∀ (ls : List (List Nat)) (accM : List Nat) (accL : List (List Nat)), accM.length = accL.length → (∀ j p, (accM.getD j 0).testBit p = true → p ∈ accL.getD j []) → ∀ j p, ((ancM ls accM).getD j 0).testBit p = true → p ∈ (ancs ls accL).getD j []
  | [], accM, accL, _, h => h
  | l :: ls, accM, accL, hl, h => by
    simp only [ancM, ancs]
    refine ancM_sub ls _ _ (by simp [hl]) ?_
    intro j p hp
    by_cases hj : j < accM.length
    · simp only [List.getD_eq_getElem?_getD, List.getElem?_append_left hj] at hp
      simp only [List.getD_eq_getElem?_getD, List.getElem?_append_left (show j < accL.length by omega)]
      have := h j p (by simpa [List.getD_eq_getElem?_getD] using hp)
      simpa [List.getD_eq_getElem?_getD] using this
    · by_cases hj' : j = accM.length
      · subst hj'
        simp only [List.getD_eq_getElem?_getD, List.getElem?_append_right (Nat.le_refl _), Nat.sub_self, List.getElem?_cons_zero, Option.getD_some] at hp
        rw [hl]
        simp only [List.getD_eq_getElem?_getD, List.getElem?_append_right (Nat.le_refl _), Nat.sub_self, List.getElem?_cons_zero, Option.getD_some, List.mem_append, List.mem_flatMap]
        rcases fold_bit _ p l 0 hp with h0 | h0 | ⟨i, h1, h2⟩
        · simp at h0
        · exact Or.inl h0
        · refine Or.inr ⟨i, h1, ?_⟩
          have := h i p (by simpa [List.getD_eq_getElem?_getD] using h2)
          simpa [List.getD_eq_getElem?_getD] using this
      · simp only [List.getD_eq_getElem?_getD] at hp
        rw [List.getElem?_eq_none (by simp; omega)] at hp
        simp at hp
theorem pairsOf_spec {asl : List AOp} {ps : List (Nat × Nat)} (h : pairsOf asl = some ps) :
    (∀ i j, i < j → j < asl.length → i ∉ (ancs (asl.map (·.after)) []).getD j [] → (asl.getD i default).apartT (asl.getD j default) = true ∧ ((asl.getD i default).ins.touches = false ∨ (asl.getD j default).ins.touches = false ∨ (i, j) ∈ ps)) ∧ (∀ j, j < asl.length → ∀ i ∈ (asl.getD j default).after, i < j) := by
  have hsub := ancM_sub (asl.map (·.after)) [] [] rfl (by simp)
  unfold pairsOf at h
  simp only at h
  split at h
  · rename_i hc
    simp only [Bool.and_eq_true, List.all_eq_true, List.mem_flatMap, List.mem_map, List.mem_filter, List.mem_range, forall_exists_index, and_imp, Bool.not_eq_true', decide_eq_true_eq] at hc
    obtain ⟨h1, h2⟩ := hc
    injection h with h
    have hbit : ∀ i j, i ∉ (ancs (asl.map (·.after)) []).getD j [] → ((ancM (asl.map (·.after)) []).getD j 0).testBit i = false := by
      intro i j hn
      cases hb : ((ancM (asl.map (·.after)) []).getD j 0).testBit i with
      | false => rfl
      | true => exact absurd (hsub j i hb) hn
    refine ⟨fun i j hij hj hn => ⟨?_, ?_⟩, fun j hj i hi => h2 j hj i hi⟩
    · exact h1 (i, j) j hj i hij (hbit i j hn) rfl
    · cases ht1 : (asl.getD i default).ins.touches with
      | false => exact Or.inl rfl
      | true =>
        cases ht2 : (asl.getD j default).ins.touches with
        | false => exact Or.inr (Or.inl rfl)
        | true =>
          refine Or.inr (Or.inr ?_)
          rw [← h]
          simp only [List.mem_filter, List.mem_flatMap, List.mem_map, List.mem_range, Bool.and_eq_true]
          exact ⟨⟨j, hj, i, ⟨hij, by rw [hbit i j hn]; rfl⟩, rfl⟩, ht1, ht2⟩
  · cases h
end
end Go.Proofs.YtaaflagbhneakaaDoor
