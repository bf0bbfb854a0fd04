/- ABS: what an operation hangs on: the rest, and all together. -/
import Derived.Test.YtaaflagbhneakaaDoorAbsFrame
namespace Go.Proofs.YtaaflagbhneakaaDoor
set_option linter.unusedSimpArgs false
set_option linter.unusedVariables false
open Go.RowKit

section
variable {O : Oracle} {byref : Nat → Bool} {tm tm' : Tms} {σ σ' σ2 : AHeap} {site : Nat}

theorem Framed.one {f : AHeap → Option (AVal × AHeap × Cls)} {v : AVal} {c : Cls} {ns t : Nat} (hr : c.rd = [t]) (hn : ∃ x, σ[t]? = some x ∧ x ≠ .free) (hf : ∀ σ2 : AHeap, σ2[t]? = σ[t]? → f σ2 = some (v, σ2, c)) : Framed f σ site ns v σ c := by
  obtain ⟨x, hx, hne⟩ := hn
  exact ⟨none, rfl, by simp, by simp, by rw [hr]; exact nonfree_one hx hne, fun σ2 hA => hf σ2 (hA t (by rw [hr]; simp))⟩

theorem slice_framed {k : Nat} {x v : AVal} {lo hi mx : Option AVal} {c : Cls} {ns : Nat} (h : sliceA σ k x lo hi mx = some (v, σ', c)) (hw : c.wr = []) : Framed (fun σ => sliceA σ k x lo hi mx) σ site ns v σ' c := by
  unfold sliceA at h
  split at h
  · rename_i b xs
    split at h
    · cases h
    rename_i m hm
    split at h
    · cases h
    rename_i h' hh
    split at h
    · cases h
    rename_i l hl
    split at h
    case isFalse => cases h
    rename_i hk0
    split at h
    · rename_i hmx
      simp only [Option.some.injEq, Prod.mk.injEq] at h
      obtain ⟨rfl, rfl, rfl⟩ := h
      exact Framed.pure rfl (fun σ2 => by simp only [sliceA, hm, hh, hl, hk0, if_true, hmx])
    · rename_i hmx
      simp only [Option.some.injEq, Prod.mk.injEq] at h
      obtain ⟨rfl, rfl, rfl⟩ := h
      exact Framed.pure rfl (fun σ2 => by simp only [sliceA, hm, hh, hl, hk0, if_true, hmx, if_false, Bool.false_eq_true])
  · rename_i t g p n
    split at h
    · cases h
    rename_i els hels
    have hnf : ∃ x, σ[t]? = some x ∧ x ≠ .free := by
      simp only [elemsA] at hels
      split at hels
      · rename_i hs; exact ⟨_, hs, by simp⟩
      · rename_i hs; exact ⟨_, hs, by simp⟩
      · cases hels
    have hel2 : ∀ σ2 : AHeap, σ2[t]? = σ[t]? → elemsA σ2 (.sl t g p n) = some els := by
      intro σ2 h2
      rw [← hels]
      simp only [elemsA, h2]
    split at h
    · rename_i m0
      split at h
      · rename_i q1 hq1
        split at h
        · rename_i q2 hq2
          split at h
          · rename_i q3 hq3
            simp only [Option.some.injEq, Prod.mk.injEq] at h
            obtain ⟨rfl, rfl, rfl⟩ := h
            exact Framed.one rfl hnf (fun σ2 h2 => by simp only [sliceA, hel2 σ2 h2, hq1, hq2, hq3])
          · cases h
        · cases h
      · cases h
    · split at h
      · rename_i g' k' xs hs
        split at h
        case isFalse => cases h
        rename_i hkk
        split at h
        · cases h
        rename_i h' hh
        split at h
        · cases h
        rename_i l hl
        simp only [Option.some.injEq, Prod.mk.injEq] at h
        obtain ⟨rfl, rfl, rfl⟩ := h
        exact Framed.one rfl hnf (fun σ2 h2 => by simp only [sliceA, hel2 σ2 h2, h2, hs, hkk, if_true, hh, hl])
      · rename_i g' k' xs hs
        split at h
        case isFalse => cases h
        rename_i hkk
        split at h
        · cases h
        rename_i h' hh
        split at h
        · cases h
        rename_i l hl
        simp only [Option.some.injEq, Prod.mk.injEq] at h
        obtain ⟨rfl, rfl, rfl⟩ := h
        exact Framed.one rfl hnf (fun σ2 h2 => by simp only [sliceA, hel2 σ2 h2, h2, hs, hkk, if_true, hh, hl])
      · cases h
  · cases h

theorem appR_any {k bytes : Nat} {x y v : AVal} {c : Cls} (h : appR σ site k bytes x y = some (v, σ', c)) : c.any = true := by
  unfold appR at h
  repeat' (split at h)
  all_goals first
    | (cases h; done)
    | (simp only [Option.some.injEq, Prod.mk.injEq] at h; rw [← h.2.2])
theorem app_framed {k bytes : Nat} {x y v : AVal} {c : Cls} (h : appA σ site k bytes x y = some (v, σ', c)) (hw : c.wr = []) (ha : c.any = false) : Framed (fun σ => appA σ site k bytes x y) σ site 1 v σ' c := by
  unfold appA at h
  split at h
  · rw [appR_any h] at ha; cases ha
  rename_i ys us he
  split at h
  case isFalse => cases h
  rename_i hk
  have hnf := (elems_rowy he).nonfree
  split at h
  · split at h
    · rename_i hb
      simp only [Option.some.injEq, Prod.mk.injEq] at h
      obtain ⟨rfl, rfl, rfl⟩ := h
      refine ⟨some (.row 0 k ys), rfl, by simp, by simp, hnf, fun σ2 hA => ?_⟩
      simp only [appA, elems_agree he hA, hk, if_true, hb, putB]
    · cases h
  · rename_i x0 xs0
    split at h
    · rename_i hb
      split at h
      · simp only [Option.some.injEq, Prod.mk.injEq] at h
        obtain ⟨rfl, rfl, rfl⟩ := h
        refine ⟨none, rfl, by simp, by simp, hnf, fun σ2 hA => ?_⟩
        simp only [appA, elems_agree he hA, hk, if_true, putB]
        rw [if_pos hb]
      · rename_i y0 ys0
        simp only [Option.some.injEq, Prod.mk.injEq] at h
        obtain ⟨rfl, rfl, rfl⟩ := h
        refine ⟨some (.row 0 k ((x0 :: xs0) ++ (y0 :: ys0))), rfl, by simp, by simp, hnf, fun σ2 hA => ?_⟩
        simp only [appA, elems_agree he hA, hk, if_true, putB]
        rw [if_pos hb]
    · cases h
  · split at h
    · split at h
      · split at h
        · simp only [Option.some.injEq, Prod.mk.injEq] at h
          rw [← h.2.2] at hw; simp at hw
        · split at h
          · simp only [Option.some.injEq, Prod.mk.injEq] at h
            rw [← h.2.2] at hw; simp at hw
          · cases h
      · cases h
    · cases h
  · cases h

theorem reach_nil {σ : AHeap} {vs : List AVal} (h : reach σ 1000 (refsL vs) [] = []) : refsL vs = [] := by
  cases e : refsL vs with
  | nil => rfl
  | cons t r =>
    rw [e] at h
    simp only [reach, List.contains_nil, Bool.false_eq_true, if_false, List.nil_append] at h
    obtain ⟨_, r', hr⟩ := reach_spec (σ := σ) 999 (refsB (σ.getD t .free) ++ r) [t] (by simp)
    rw [hr] at h
    simp at h
theorem callG_framed {f own : Nat} {view : Bool} {args : List AVal} {v : AVal} {c : Cls} {ns : Nat} (h : callG O byref σ site f own view args = some (v, σ', c)) (hw : c.wr = []) (ha : c.any = false) : Framed (fun σ => callG O byref σ site f own view args) σ site ns v σ' c := by
  unfold callG at h
  split at h
  · cases h
  rename_i xs ts hs
  have hnf : NonFree σ ts := by
    unfold showIf at hs
    split at hs
    · simp only [Option.some.injEq, Prod.mk.injEq] at hs
      rw [← hs.2]; exact nonfree_nil
    · exact (showAs_rowy hs).nonfree
  have hag : ∀ σ2, Agree σ σ2 ts → showIf (byref f) σ2 args = some (xs, ts) := by
    intro σ2 hA
    unfold showIf at hs ⊢
    split at hs
    · rename_i hb; rw [if_pos hb]; exact hs
    · rename_i hb; rw [if_neg hb]; exact showAs_agree hs hA
  generalize hids : reach (freezeA σ ts) 1000 (refsL xs) [] = ids at h
  unfold callI at h
  split at h
  case isFalse => cases h
  generalize hq : askO view ids.length (O f (renL (rhoOf (freezeA σ ts) 0 ids) xs) (heapOf (freezeA σ ts) 0 ids (rhoOf (freezeA σ ts) 0 ids) ids 0)) = q at h
  cases q with
  | none => simp only [backG] at h; cases h
  | some q =>
    obtain ⟨r, hp⟩ := q
    simp only [backG] at h
    split at h
    · rename_i hc
      simp only [Bool.and_eq_true, List.isEmpty_iff] at hc
      obtain ⟨rfl, rfl⟩ := hc
      have hrl := reach_nil hids
      have hrho : ∀ σ : AHeap, rhoOf σ 0 [] = fun _ _ => none := fun σ => by funext t g; simp [rhoOf, idxA]
      have hall : ∀ σ2, Agree σ σ2 ts → callG O byref σ2 site f own view args = backG σ2 (freezeA σ2 ts) [] ts site own (some (r, [])) := by
        intro σ2 hA
        unfold callG
        rw [hag σ2 hA]
        simp only
        rw [hrl]
        have h0 : reach (freezeA σ2 ts) 1000 [] [] = [] := rfl
        rw [h0]
        unfold callI
        simp only [List.all_nil, if_true]
        rw [hrho]
        rw [hrho] at hq
        simp only [heapOf] at hq ⊢
        rw [hq]
      split at h
      · rename_i hf
        simp only [Option.some.injEq, Prod.mk.injEq] at h
        obtain ⟨rfl, rfl, rfl⟩ := h
        refine ⟨none, rfl, by simp, by simp, hnf, fun σ2 hA => ?_⟩
        simp only
        rw [hall σ2 hA]
        simp only [backG, List.isEmpty_nil, Bool.and_self, if_true, hf, putB]
      · rename_i hf
        simp only [Option.some.injEq, Prod.mk.injEq] at h
        obtain ⟨rfl, rfl, rfl⟩ := h
        simp only at hw
        subst hw
        refine ⟨none, rfl, by simp, by simp, hnf, fun σ2 hA => ?_⟩
        simp only
        rw [hall σ2 hA]
        simp only [backG, List.isEmpty_nil, Bool.and_self, if_true, hf, putB, freezeA, if_false, Bool.false_eq_true]
    · split at h
      · simp only [Option.some.injEq, Prod.mk.injEq] at h
        rw [← h.2.2] at ha; simp at ha
      · cases h

theorem map_pure {x : Option AVal} {v : AVal} {c : Cls} (h : x.map (fun r => (r, σ, ({} : Cls))) = some (v, σ', c)) : σ' = σ ∧ c = {} ∧ x = some v := by
  simp only [Option.map_eq_some_iff, Prod.mk.injEq] at h
  obtain ⟨a, h1, rfl, rfl, rfl⟩ := h
  exact ⟨rfl, rfl, h1⟩

set_option maxHeartbeats 1000000 in
theorem execI_framed {ins : Ins} {v : AVal} {c : Cls} (h : execI O byref tm σ site ins = some (v, σ', c)) (hw : c.wr = []) (ha : c.any = false) : Framed (fun σ => execI O byref tm σ site ins) σ site (nsite ins) v σ' c := by
  cases ins with
  | alloc zs =>
    simp only [execI, Option.some.injEq, Prod.mk.injEq] at h
    obtain ⟨rfl, rfl, rfl⟩ := h
    exact ⟨some (.var zs), rfl, by simp [nsite], by simp, nonfree_nil, fun σ2 _ => rfl⟩
  | box x =>
    simp only [execI] at h
    split at h
    · cases h
    · cases h
    · cases h
    · rename_i hne1 hne2 hne3
      simp only [Option.some.injEq, Prod.mk.injEq] at h
      obtain ⟨rfl, rfl, rfl⟩ := h
      refine ⟨some (.var (x.ev tm).cells), rfl, by simp [nsite], by simp, nonfree_nil, fun σ2 _ => ?_⟩
      simp only [execI, putB]
  | mkslice k b z x y =>
    simp only [execI] at h
    split at h
    · rename_i l c' e1 e2
      split at h
      · rename_i hc
        simp only [Option.some.injEq, Prod.mk.injEq] at h
        obtain ⟨rfl, rfl, rfl⟩ := h
        refine ⟨some (.row 0 k (List.replicate c'.toNat z)), rfl, by simp [nsite], by simp, nonfree_nil, fun σ2 _ => ?_⟩
        simp only [execI, e1, e2, putB]
        try rw [if_pos hc]
      · cases h
    · cases h
  | bslice own k n z ps =>
    simp only [execI] at h
    split at h
    · cases h
    rename_i ys ts hv
    split at h
    case isFalse => cases h
    rename_i hc
    split at h
    · rename_i ho
      simp only [Option.some.injEq, Prod.mk.injEq] at h
      obtain ⟨rfl, rfl, rfl⟩ := h
      simp only at hw
      subst hw
      refine ⟨some (.row 0 k (((ps.map (·.1)).zip ys).foldl (fun l p => l.set p.1 p.2) (List.replicate n z))), rfl, by simp [nsite, ho], by simp, nonfree_nil, fun σ2 hA => ?_⟩
      simp only [execI, viewAs_agree hv hA, putB, freezeA]
      rw [if_pos hc, if_pos ho]
    · rename_i ho
      simp only [Option.some.injEq, Prod.mk.injEq] at h
      obtain ⟨rfl, rfl, rfl⟩ := h
      simp only at hw
      subst hw
      refine ⟨none, rfl, by simp, by simp, nonfree_nil, fun σ2 hA => ?_⟩
      simp only [execI, viewAs_agree hv hA, putB, freezeA]
      rw [if_pos hc, if_neg ho]
  | rslice k n z ps =>
    simp only [execI] at h
    split at h
    case isFalse => cases h
    rename_i hc
    simp only [Option.some.injEq, Prod.mk.injEq] at h
    obtain ⟨rfl, rfl, rfl⟩ := h
    refine ⟨some (.rrow 0 k ((ps.map fun p => (p.1, p.2.ev tm)).foldl (fun l p => l.set p.1 p.2) (List.replicate n z))), rfl, by simp [nsite], by simp, nonfree_nil, fun σ2 hA => ?_⟩
    simp only [execI, putB]
    rw [if_pos hc]
  | rng x =>
    simp only [execI] at h
    split at h
    · rename_i l e
      simp only [Option.some.injEq, Prod.mk.injEq] at h
      obtain ⟨rfl, rfl, rfl⟩ := h
      exact ⟨some (.siter l 0), rfl, by simp [nsite], by simp, nonfree_nil, fun σ2 _ => by simp only [execI, e, putB]⟩
    · cases h
  | clr k z x =>
    simp only [execI] at h
    unfold clrA at h
    repeat' (split at h)
    all_goals first
      | (cases h; done)
      | (simp only [Option.some.injEq, Prod.mk.injEq] at h; rw [← h.2.2] at hw; cases hw)
  | nxt x =>
    simp only [execI] at h
    repeat' (split at h)
    all_goals first
      | (cases h; done)
      | (simp only [Option.some.injEq, Prod.mk.injEq] at h; rw [← h.2.2] at ha; cases ha)
  | ld k a => simp only [execI] at h ⊢; exact ld_framed h
  | st k a x =>
    simp only [execI] at h
    unfold stA at h
    split at h
    · split at h
      · split at h
        · split at h
          · simp only [Option.some.injEq, Prod.mk.injEq] at h; rw [← h.2.2] at hw; simp at hw
          · cases h
        · cases h
      · split at h
        · split at h
          · split at h
            · split at h
              · split at h
                · cases h
                · split at h
                  · simp only [Option.some.injEq, Prod.mk.injEq] at h; rw [← h.2.2] at hw; simp at hw
                  · cases h
              · cases h
            · cases h
          · cases h
        · split at h
          · split at h
            · split at h
              · simp only [Option.some.injEq, Prod.mk.injEq] at h; rw [← h.2.2] at hw; simp at hw
              · cases h
            · cases h
          · cases h
        · cases h
      · cases h
    · cases h
  | slice k x lo hi mx => simp only [execI] at h ⊢; exact slice_framed h hw
  | iaddr k x i => simp only [execI] at h ⊢; exact iaddr_framed h
  | app k b z x y => simp only [execI] at h ⊢; exact app_framed h hw ha
  | b2s x =>
    simp only [execI] at h
    split at h
    · rename_i xs ts he
      split at h
      · rename_i l hl
        simp only [Option.some.injEq, Prod.mk.injEq] at h
        obtain ⟨rfl, rfl, rfl⟩ := h
        refine ⟨none, rfl, by simp, by simp, (elems_rowy he).nonfree, fun σ2 hA => ?_⟩
        simp only [execI, elems_agree he hA, hl, putB]
      · cases h
    · cases h
  | s2s x =>
    simp only [execI] at h
    split at h
    · split at h
      · split at h
        · simp only [Option.some.injEq, Prod.mk.injEq] at h; rw [← h.2.2] at hw; simp at hw
        · cases h
      · cases h
    · cases h
  | call f own vw xs => simp only [execI] at h ⊢; exact callG_framed h hw ha
  | callv x xs =>
    simp only [execI] at h
    split at h
    · rename_i f caps e
      have := callG_framed (ns := nsite (.callv x xs)) h hw ha
      have he : (fun σ => execI O byref tm σ site (.callv x xs)) = fun σ => callG O byref σ site f 4 false (xs.map (·.ev tm) ++ caps) := by funext σ; simp only [execI, e]
      rw [he]; exact this
    · cases h
  | mki t x =>
    simp only [execI] at h
    split at h
    · cases h
    · cases h
    · cases h
    · simp only [Option.some.injEq, Prod.mk.injEq] at h; obtain ⟨rfl, rfl, rfl⟩ := h; exact Framed.pure rfl (fun σ2 => by simp only [execI])
  | panic x =>
    simp only [execI] at h
    split at h
    · rename_i e; simp only [Option.some.injEq, Prod.mk.injEq] at h; obtain ⟨rfl, rfl, rfl⟩ := h; exact Framed.pure rfl (fun σ2 => by simp only [execI, e])
    · cases h
  | eqv neg ks x y =>
    simp only [execI] at h
    split at h
    · rename_i e1 e2
      split at h
      · rename_i e4
        split at h
        · rename_i e3; simp only [Option.some.injEq, Prod.mk.injEq] at h; obtain ⟨rfl, rfl, rfl⟩ := h; exact Framed.pure rfl (fun σ2 => by simp only [execI, e1, e2, e3, e4, if_true])
        · cases h
      · cases h
    · cases h
  | ieq neg x y =>
    simp only [execI] at h
    split at h
    · rename_i e1 e2; simp only [Option.some.injEq, Prod.mk.injEq] at h; obtain ⟨rfl, rfl, rfl⟩ := h; exact Framed.pure rfl (fun σ2 => by simp only [execI, e1, e2])
    · rename_i e1 e2; simp only [Option.some.injEq, Prod.mk.injEq] at h; obtain ⟨rfl, rfl, rfl⟩ := h; exact Framed.pure rfl (fun σ2 => by simp only [execI, e1, e2])
    · rename_i e1 e2; simp only [Option.some.injEq, Prod.mk.injEq] at h; obtain ⟨rfl, rfl, rfl⟩ := h; exact Framed.pure rfl (fun σ2 => by simp only [execI, e1, e2])
    · cases h
  | mov x => simp only [execI, Option.some.injEq, Prod.mk.injEq] at h; obtain ⟨rfl, rfl, rfl⟩ := h; exact Framed.pure rfl (fun σ2 => rfl)
  | mkfn f xs => simp only [execI, Option.some.injEq, Prod.mk.injEq] at h; obtain ⟨rfl, rfl, rfl⟩ := h; exact Framed.pure rfl (fun σ2 => rfl)
  | bin op x y =>
    simp only [execI] at h
    obtain ⟨rfl, rfl, hx⟩ := map_pure h
    exact Framed.pure rfl (fun σ2 => by simp only [execI, hx, Option.map_some])
  | un op x =>
    simp only [execI] at h
    obtain ⟨rfl, rfl, hx⟩ := map_pure h
    exact Framed.pure rfl (fun σ2 => by simp only [execI, hx, Option.map_some])
  | faddr off x =>
    simp only [execI] at h
    obtain ⟨rfl, rfl, hx⟩ := map_pure h
    exact Framed.pure rfl (fun σ2 => by simp only [execI, hx, Option.map_some])
  | pick a b d =>
    simp only [execI] at h
    unfold pickX at h
    split at h
    · rename_i e; simp only [Option.some.injEq, Prod.mk.injEq] at h; obtain ⟨rfl, rfl, rfl⟩ := h; exact Framed.pure rfl (fun σ2 => by simp only [execI, pickX, e])
    · rename_i e; simp only [Option.some.injEq, Prod.mk.injEq] at h; obtain ⟨rfl, rfl, rfl⟩ := h; exact Framed.pure rfl (fun σ2 => by simp only [execI, pickX, e])
    · cases h
  | build zs ps =>
    simp only [execI] at h
    split at h
    · rename_i cs hf
      simp only [Option.some.injEq, Prod.mk.injEq] at h; obtain ⟨rfl, rfl, rfl⟩ := h
      exact Framed.pure rfl (fun σ2 => by simp only [execI, hf])
    · cases h
  | i2i k x =>
    simp only [execI] at h
    split at h
    · rename_i e; simp only [Option.some.injEq, Prod.mk.injEq] at h; obtain ⟨rfl, rfl, rfl⟩ := h; exact Framed.pure rfl (fun σ2 => by simp only [execI, e])
    · cases h
  | i2s x =>
    simp only [execI] at h
    split at h
    · rename_i e; simp only [Option.some.injEq, Prod.mk.injEq] at h; obtain ⟨rfl, rfl, rfl⟩ := h; exact Framed.pure rfl (fun σ2 => by simp only [execI, e])
    · cases h
  | same x =>
    simp only [execI] at h
    split at h
    · rename_i e; simp only [Option.some.injEq, Prod.mk.injEq] at h; obtain ⟨rfl, rfl, rfl⟩ := h; exact Framed.pure rfl (fun σ2 => by simp only [execI, e])
    · cases h
  | s2b x =>
    simp only [execI] at h
    split at h
    · rename_i e; simp only [Option.some.injEq, Prod.mk.injEq] at h; obtain ⟨rfl, rfl, rfl⟩ := h; exact Framed.pure rfl (fun σ2 => by simp only [execI, e])
    · cases h
  | sslice x lo hi =>
    simp only [execI] at h
    split at h
    · rename_i s e
      split at h
      · cases h
      rename_i h1 hh
      split at h
      · cases h
      rename_i l hl
      simp only [Option.some.injEq, Prod.mk.injEq] at h; obtain ⟨rfl, rfl, rfl⟩ := h
      exact Framed.pure rfl (fun σ2 => by simp only [execI, e, hh, hl])
    · cases h
  | field k off x =>
    simp only [execI] at h
    split at h
    · rename_i cs e
      obtain ⟨rfl, rfl, hx⟩ := map_pure h
      exact Framed.pure rfl (fun σ2 => by simp only [execI, e, hx, Option.map_some])
    · cases h
  | aaddr k n x i =>
    simp only [execI] at h
    split at h
    · rename_i e
      split at h
      · rename_i hc
        obtain ⟨rfl, rfl, hx⟩ := map_pure h
        exact Framed.pure rfl (fun σ2 => by simp only [execI, e]; rw [if_pos hc, hx]; rfl)
      · cases h
    · cases h
  | sindex x i =>
    simp only [execI] at h
    split at h
    · rename_i e1 e2
      split at h
      · rename_i hc
        simp only [Option.map_eq_some_iff, Prod.mk.injEq] at h
        obtain ⟨b, hb, rfl, rfl, rfl⟩ := h
        exact Framed.pure rfl (fun σ2 => by simp only [execI, e1, e2]; rw [if_pos hc, hb]; rfl)
      · cases h
    · cases h
  | aindex s k n x i =>
    simp only [execI] at h
    split at h
    · rename_i e1 e2
      split at h
      · rename_i hc
        obtain ⟨rfl, rfl, hx⟩ := map_pure h
        exact Framed.pure rfl (fun σ2 => by simp only [execI, e1, e2]; rw [if_pos hc, hx]; rfl)
      · cases h
    · cases h
  | ext x i =>
    simp only [execI] at h
    split at h
    · rename_i e
      obtain ⟨rfl, rfl, hx⟩ := map_pure h
      exact Framed.pure rfl (fun σ2 => by simp only [execI, e, hx, Option.map_some])
    · cases h
  | len x =>
    simp only [execI] at h
    split at h
    · rename_i e; simp only [Option.some.injEq, Prod.mk.injEq] at h; obtain ⟨rfl, rfl, rfl⟩ := h; exact Framed.pure rfl (fun σ2 => by simp only [execI, e])
    · rename_i e; simp only [Option.some.injEq, Prod.mk.injEq] at h; obtain ⟨rfl, rfl, rfl⟩ := h; exact Framed.pure rfl (fun σ2 => by simp only [execI, e])
    · cases h
  | slen x =>
    simp only [execI] at h
    split at h
    · rename_i e; simp only [Option.some.injEq, Prod.mk.injEq] at h; obtain ⟨rfl, rfl, rfl⟩ := h; exact Framed.pure rfl (fun σ2 => by simp only [execI, e])
    · cases h
  | mm m xs =>
    simp only [execI] at h
    split at h
    · rename_i e; simp only [Option.some.injEq, Prod.mk.injEq] at h; obtain ⟨rfl, rfl, rfl⟩ := h; exact Framed.pure rfl (fun σ2 => by simp only [execI, e])
    · cases h
  | nilchk x =>
    simp only [execI] at h
    split at h
    · rename_i e; simp only [Option.some.injEq, Prod.mk.injEq] at h; obtain ⟨rfl, rfl, rfl⟩ := h; exact Framed.pure rfl (fun σ2 => by simp only [execI, e])
    · rename_i e; simp only [Option.some.injEq, Prod.mk.injEq] at h; obtain ⟨rfl, rfl, rfl⟩ := h; exact Framed.pure rfl (fun σ2 => by simp only [execI, e])
    · rename_i e; simp only [Option.some.injEq, Prod.mk.injEq] at h; obtain ⟨rfl, rfl, rfl⟩ := h; exact Framed.pure rfl (fun σ2 => by simp only [execI, e])
    · cases h
  | beq neg x y =>
    simp only [execI] at h
    split at h
    · rename_i e1 e2; simp only [Option.some.injEq, Prod.mk.injEq] at h; obtain ⟨rfl, rfl, rfl⟩ := h; exact Framed.pure rfl (fun σ2 => by simp only [execI, e1, e2])
    · cases h
  | peq neg x y =>
    simp only [execI] at h
    split at h
    · rename_i e1 e2; simp only [Option.some.injEq, Prod.mk.injEq] at h; obtain ⟨rfl, rfl, rfl⟩ := h; exact Framed.pure rfl (fun σ2 => by simp only [execI, e1, e2])
    · rename_i e1 e2; simp only [Option.some.injEq, Prod.mk.injEq] at h; obtain ⟨rfl, rfl, rfl⟩ := h; exact Framed.pure rfl (fun σ2 => by simp only [execI, e1, e2])
    · rename_i e1 e2; simp only [Option.some.injEq, Prod.mk.injEq] at h; obtain ⟨rfl, rfl, rfl⟩ := h; exact Framed.pure rfl (fun σ2 => by simp only [execI, e1, e2])
    · cases h

/-- an operation that touches nothing -/
theorem execI_still {ins : Ins} {v : AVal} {c : Cls} (ht : ins.touches = false) (h : execI O byref tm σ site ins = some (v, σ', c)) : c = {} ∧ nsite ins = 0 := by
  cases ins <;> simp [Ins.touches] at ht <;> refine ⟨?_, rfl⟩ <;> simp only [execI] at h
  case mov x => simp only [Option.some.injEq, Prod.mk.injEq] at h; exact h.2.2.symm
  case mkfn f xs => simp only [Option.some.injEq, Prod.mk.injEq] at h; exact h.2.2.symm
  case bin op x y => exact (map_pure h).2.1
  case un op x => exact (map_pure h).2.1
  case faddr off x => exact (map_pure h).2.1
  case pick c x y =>
    unfold pickX at h
    split at h
    · simp only [Option.some.injEq, Prod.mk.injEq] at h; exact h.2.2.symm
    · simp only [Option.some.injEq, Prod.mk.injEq] at h; exact h.2.2.symm
    · cases h
  all_goals
    repeat' (split at h)
    all_goals first
      | (cases h; done)
      | (simp only [Option.some.injEq, Prod.mk.injEq] at h; exact h.2.2.symm)
      | exact (map_pure h).2.1
      | (simp only [Option.map_eq_some_iff, Prod.mk.injEq] at h; obtain ⟨_, _, _, _, h⟩ := h; exact h.symm)
end
end Go.Proofs.YtaaflagbhneakaaDoor
