/- ABS: what a law is given, as trees. -/
import Derived.Test.YtaaflagbhneakaaDoorAbsEv
import Derived.Deep.Slices
import Derived.ChangeArms
import Derived.WideShapes
import GoSem.ClaimChange
namespace Go.Proofs.YtaaflagbhneakaaDoor
set_option linter.unusedSimpArgs false
set_option linter.unusedVariables false
open Go.RowKit

inductive Ty where
  | bool
  | int (k : IntKind)
  | str
  | slice (s : Bool) (e : Ty)
  | struct (fs : List Ty)
  deriving Inhabited
def isRowD : Option TypeDesc → Bool
  | some (.struct _) => true
  | some (.array _ _) => true
  | _ => false
/-- fields that lie one behind the other -/
def offsOk (P : Program) : Nat → List Field → Nat → Bool
  | at', [], n => at' == n
  | at', f :: fs, n => f.offset == at' && offsOk P (at' + P.cellsOf f.type) fs n
def tyOf (P : Program) : Nat → TypeId → Option Ty
  | 0, _ => none
  | n + 1, t => match P.underlying t with
    | some .bool => some .bool
    | some (.int k) => some (.int k)
    | some .string => some .str
    | some (.slice e) => if 0 < P.cellsOf e then (tyOf P n e).map (.slice (isRowD (P.underlying e))) else none
    | some (.struct fs) => if offsOk P 0 fs.toList (P.cellsOf t) then (fs.toList.mapM fun f => tyOf P n f.type).map .struct else none
    | _ => none
def elemV (s : Bool) (y : List AVal) : AVal := if s then .agg y else y.headD .nilp
mutual
def TyC : Ty → List AVal → Prop
  | .bool, xs => ∃ b, xs = [.bool b]
  | .int k, xs => ∃ n, (Lit.int k n).wf = true ∧ xs = [.int k n]
  | .str, xs => ∃ l : List UInt8, l.length ≤ 9223372036854775807 ∧ xs = [.str l]
  | .slice s e, xs => ∃ ys : List (List AVal), xs = [.lst false (ys.map (elemV s))] ∧ ys.length ≤ 9223372036854775807 ∧ ∀ y ∈ ys, TyC e y
  | .struct fs, xs => TysC fs xs
def TysC : List Ty → List AVal → Prop
  | [], xs => xs = []
  | f :: fs, xs => ∃ a b, xs = a ++ b ∧ TyC f a ∧ TysC fs b
end
/-- every cell of a world -/
def Imm.of (w : World) : Imm := fun b o => w.cell? ⟨b, o, none⟩

section
variable {H : Type} {enc : TypeId × Value → H} {P : Program} {w : World} {spare : Nat → Bool} {held : Bool}
theorem cell_spot {b off : Nat} {s : Option Nat} {u : Value} (h : w.cell? ⟨b, off, s⟩ = some u) : s = none := by
  unfold World.cell? at h
  split at h
  · rcases s with _ | s
    · rfl
    · simp at h
  · cases h
theorem elemV_cells {s : Bool} {y : List AVal} (h : s = false → y.length = 1) (h1 : s = false → ∀ x ∈ y, okCell x = true) : (elemV s y).cells = y := by
  cases s with
  | true => rfl
  | false =>
    match y, h rfl with
    | [x], _ =>
      have := h1 rfl x (by simp)
      cases x <;> simp_all [elemV, AVal.cells, okCell]

theorem addr_at {a : Addr} (h : a.spot = none) (n : Nat) : a.add n = ⟨a.block, a.off + n, none⟩ := by
  unfold Addr.add
  split
  · rename_i e; subst e; cases a; simp_all
  · rfl
theorem VRs_split {I : Imm} {β : Bmap} {xs : List AVal} {vs : List Value} {n : Nat} (h : VRs I β xs (vs.take n)) {ys : List AVal} (h' : VRs I β ys (vs.drop n)) : VRs I β (xs ++ ys) vs := by
  have := VRs_append h h'
  rwa [List.take_append_drop] at this

theorem mapM_cons_some {α β : Type} {f : α → Option β} {a : α} {l : List α} {r : List β} (h : (a :: l).mapM f = some r) : ∃ b r', f a = some b ∧ l.mapM f = some r' ∧ r = b :: r' := by
  rw [List.mapM_cons] at h
  simp only [Option.bind_eq_bind, Option.bind_eq_some_iff, Option.pure_def, Option.some.injEq] at h
  obtain ⟨b, h1, r', h2, h3⟩ := h
  exact ⟨b, r', h1, h2, h3.symm⟩
theorem treeC_append {a b : List AVal} (ha : treeC a = true) (hb : treeC b = true) : treeC (a ++ b) = true := by
  induction a with
  | nil => exact hb
  | cons x a ih => simp only [List.cons_append, treeC, Bool.and_eq_true] at ha ⊢; exact ⟨ha.1, ih ha.2⟩
theorem tys_of {n fuel : Nat} {cs : List Value} (ih : ∀ (t : TypeId) (cs : List Value) (x : DataW H × List MemPlace) (T : Ty), tyOf P n t = some T → DataW.trod enc P w 0 spare held fuel t cs = some x → ∃ xs, TyC T xs ∧ VRs (Imm.of w) B0 xs cs ∧ treeC xs = true) :
    ∀ (fs : List Field) (at' : Nat) (Ts : List Ty) (ys : List (DataW H × List MemPlace)), offsOk P at' fs cs.length = true → fs.mapM (fun f => tyOf P n f.type) = some Ts →
      fs.mapM (fun f => DataW.trod enc P w 0 spare held fuel f.type ((cs.drop f.offset).take (P.cellsOf f.type))) = some ys → ∃ xs, TysC Ts xs ∧ VRs (Imm.of w) B0 xs (cs.drop at') ∧ treeC xs = true
  | [], at', Ts, ys, ho, hT, _ => by
    simp only [offsOk, beq_iff_eq] at ho
    simp only [List.mapM_nil, Option.pure_def, Option.some.injEq] at hT
    subst hT ho
    exact ⟨[], by simp only [TysC], by simp [VRs], rfl⟩
  | f :: fs, at', Ts, ys, ho, hT, h => by
    simp only [offsOk, Bool.and_eq_true, beq_iff_eq] at ho
    obtain ⟨T, Ts', h1, h2, rfl⟩ := mapM_cons_some hT
    obtain ⟨y, ys', h3, h4, rfl⟩ := mapM_cons_some h
    obtain ⟨a, a1, a2, a3⟩ := ih _ _ _ _ h1 h3
    obtain ⟨b, b1, b2, b3⟩ := tys_of ih fs _ _ _ ho.2 h2 h4
    rw [ho.1] at a2
    refine ⟨a ++ b, by simp only [TysC]; exact ⟨a, b, rfl, a1, b1⟩, VRs_split a2 (by rw [List.drop_drop]; exact b2), treeC_append a3 b3⟩

theorem LR_rng {I : Imm} {β : Bmap} {s : Bool} {k b : Nat} : ∀ (n off : Nat) (Y : Nat → List AVal), (∀ i, i < n → (elemV s (Y i)).cells.length = k ∧ CR I β (elemV s (Y i)).cells b (off + i * k)) → LR I β k ((List.range n).map fun i => elemV s (Y i)) b off
  | 0, off, Y, _ => by simp [LR]
  | n + 1, off, Y, h => by
    rw [List.range_succ_eq_map, List.map_cons, LR_cons]
    have h0 := h 0 (by omega)
    simp only [Nat.zero_mul, Nat.add_zero] at h0
    refine ⟨h0, ?_⟩
    rw [List.map_map]
    exact LR_rng n (off + k) (fun i => Y (i + 1)) (fun i hi => by
      have := h (i + 1) (by omega)
      rw [show off + k + i * k = off + (i + 1) * k by rw [Nat.succ_mul]; omega]
      exact this)
theorem CR_of {I : Imm} {β : Bmap} {b : Nat} : ∀ (xs : List AVal) (cs : List Value) (off : Nat), VRs I β xs cs → (∀ i, i < cs.length → I b (off + i) = cs[i]?) → CR I β xs b off
  | [], _, _, _, _ => by simp only [CR]
  | x :: xs, cs, off, h, hI => by
    simp only [VRs] at h
    obtain ⟨v, vs', rfl, h1, h2⟩ := h
    simp only [CR]
    refine ⟨⟨v, by have := hI 0 (by simp); simpa using this, h1⟩, CR_of xs vs' (off + 1) h2 fun i hi => ?_⟩
    have := hI (i + 1) (by simp; omega)
    rw [show off + 1 + i = off + (i + 1) by omega, this]
    simp
theorem treeL_of {s : Bool} : ∀ (n : Nat) (Y : Nat → List AVal), (∀ i, i < n → treeC (elemV s (Y i)).cells = true) → treeL ((List.range n).map fun i => elemV s (Y i)) = true
  | 0, Y, _ => by simp [treeL]
  | n + 1, Y, h => by
    rw [List.range_succ_eq_map, List.map_cons, treeL_cons, h 0 (by omega), List.map_map]
    simp only [Bool.true_and]
    exact treeL_of n (fun i => Y (i + 1)) (fun i hi => h (i + 1) (by omega))
theorem treeC_ok {xs : List AVal} (h : treeC xs = true) : ∀ x ∈ xs, okCell x = true := by
  induction xs with
  | nil => intro x hx; simp at hx
  | cons y ys ih =>
    simp only [treeC, Bool.and_eq_true] at h
    intro x hx
    rcases List.mem_cons.1 hx with rfl | hx
    · cases x <;> simp_all [tree1, okCell]
    · exact ih h.2 x hx

theorem tyOne {n : Nat} {e : TypeId} {T : Ty} (hT : tyOf P n e = some T) (hs : isRowD (P.underlying e) = false) {xs : List AVal} (h : TyC T xs) : xs.length = 1 := by
  cases n with
  | zero => simp [tyOf] at hT
  | succ n =>
    simp only [tyOf] at hT
    split at hT
    · injection hT with hT; subst hT; simp only [TyC] at h; obtain ⟨_, rfl⟩ := h; rfl
    · injection hT with hT; subst hT; simp only [TyC] at h; obtain ⟨_, _, rfl⟩ := h; rfl
    · injection hT with hT; subst hT; simp only [TyC] at h; obtain ⟨_, _, rfl⟩ := h; rfl
    · split at hT
      · simp only [Option.map_eq_some_iff] at hT
        obtain ⟨T', _, rfl⟩ := hT
        simp only [TyC] at h; obtain ⟨_, rfl, _⟩ := h; rfl
      · cases hT
    · rename_i hu; rw [hu] at hs; simp [isRowD] at hs
    · cases hT

/-- THE READING OF AN ARGUMENT, AS A TREE -/
theorem trod_ty : ∀ (n fuel : Nat) (t : TypeId) (cs : List Value) (x : DataW H × List MemPlace) (T : Ty), tyOf P n t = some T → DataW.trod enc P w 0 spare held fuel t cs = some x →
    ∃ xs, TyC T xs ∧ VRs (Imm.of w) B0 xs cs ∧ treeC xs = true
  | 0, fuel, t, cs, x, T, hT, _ => by simp [tyOf] at hT
  | n + 1, 0, t, cs, x, T, _, h => by simp [DataW.trod] at h
  | n + 1, fuel + 1, t, cs, x, T, hT, h => by
    have h0 := h
    simp only [tyOf] at hT
    unfold DataW.trod at h
    split at hT
    · rename_i hu
      injection hT with hT; subst hT
      obtain ⟨b, rfl, _⟩ := DataW.trod_bool hu h0
      exact ⟨[.bool b], by simp only [TyC]; exact ⟨b, rfl⟩, by simp [VRs, VR], rfl⟩
    · rename_i k hu
      injection hT with hT; subst hT
      obtain ⟨n', rfl, _, hk⟩ := DataW.trod_int hu h0
      exact ⟨[.int k n'], by simp only [TyC]; exact ⟨n', hk, rfl⟩, by simp [VRs, VR], rfl⟩
    · rename_i hu
      injection hT with hT; subst hT
      obtain ⟨s, rfl, _, hs⟩ := DataW.trod_string hu h0
      have hs' : s.data.toList.length ≤ 9223372036854775807 := by
        rw [Array.length_toList]; exact Nat.le_trans hs (by simp [maxLen])
      exact ⟨[.str s.data.toList], by simp only [TyC]; exact ⟨_, hs', rfl⟩, by simp only [VRs, VR]; exact ⟨_, _, rfl, ⟨by simp, hs'⟩, rfl⟩, rfl⟩
    · rename_i e hu
      split at hT
      case isFalse => cases hT
      rename_i hc
      simp only [Option.map_eq_some_iff] at hT
      obtain ⟨T, hT, rfl⟩ := hT
      rcases Go.Deep.open_slice hu h0 with ⟨hcs, _⟩ | ⟨a, len, cap, m, n', D, Pl, hcs, _, hl, hm, hmm, _, hi⟩
      · subst hcs
        exact ⟨[.lst false []], by simp only [TyC]; exact ⟨[], by simp, by simp, by simp⟩, by simp only [VRs, VR]; exact ⟨_, _, rfl, ⟨none, 0, rfl, by simp, by simp, by simp, by simp, by simp [treeL]⟩, rfl⟩, rfl⟩
      · have hlm : len ≤ m := by split at hmm <;> omega
        have hspot : 0 < len → a.spot = none := by
          intro h0
          obtain ⟨cs', h1, h2⟩ := hi 0 (by omega)
          obtain ⟨_, h6, h7⟩ := World.cells?_some h1
          have h8 := h7 0 hc
          obtain ⟨u, hu⟩ : ∃ u, cs'[0]? = some u := ⟨cs'[0]'(by omega), by simp⟩
          rw [hu] at h8
          simp only [Nat.zero_mul, Addr.add, if_true] at h8
          exact cell_spot (b := a.block) (off := a.off) (s := a.spot) (u := u) h8
        have hall : ∀ i, ∃ xs, i < len → TyC T xs ∧ (elemV (isRowD (P.underlying e)) xs).cells = xs ∧ xs.length = P.cellsOf e ∧ CR (Imm.of w) B0 xs a.block (a.off + i * P.cellsOf e) ∧ treeC xs = true := by
          intro i
          by_cases hlt : i < len
          · obtain ⟨cs', h1, h2⟩ := hi i (by omega)
            obtain ⟨xs, h3, h4, h5⟩ := trod_ty n n' e cs' _ T hT h2
            obtain ⟨_, h6, h7⟩ := World.cells?_some h1
            have hlen := VRs_length h4
            refine ⟨xs, fun _ => ⟨h3, elemV_cells (fun hs => tyOne hT hs h3) (fun _ => treeC_ok h5), by omega, CR_of xs cs' _ h4 (fun j hj => ?_), h5⟩⟩
            have h8 := h7 j (by omega)
            rw [Go.Deep.add_add, addr_at (hspot (by omega)), ← Nat.add_assoc] at h8
            exact h8
          · exact ⟨[], fun h => absurd h hlt⟩
        obtain ⟨Y, hY⟩ := Classical.axiomOfChoice hall
        subst hcs
        have hmx : maxLen = 9223372036854775807 := by simp [maxLen]
        rw [hmx] at hm
        refine ⟨[.lst false ((List.range len).map fun i => elemV (isRowD (P.underlying e)) (Y i))], ?_, ?_, ?_⟩
        · simp only [TyC]
          refine ⟨(List.range len).map Y, by rw [List.map_map]; rfl, by simp; omega, ?_⟩
          intro y hy
          obtain ⟨i, hi', rfl⟩ := List.mem_map.1 hy
          exact (hY i (List.mem_range.1 hi')).1
        · simp only [VRs, VR, List.length_map, List.length_range]
          refine ⟨_, _, rfl, ⟨some a, cap, rfl, hl, hm, by simp, ?_, treeL_of len Y fun i hlt => by rw [(hY i hlt).2.1]; exact (hY i hlt).2.2.2.2⟩, rfl⟩
          cases len with
          | zero => exact Or.inl (by simp)
          | succ len =>
            refine Or.inr ⟨a.block, a.off, P.cellsOf e, ?_, hc, LR_rng (len + 1) a.off Y fun i hlt => ?_⟩
            · have := hspot (by omega)
              cases a; simp_all
            · rw [(hY i hlt).2.1]; exact ⟨(hY i hlt).2.2.1, (hY i hlt).2.2.2.1⟩
        · simp only [treeC, tree1, Bool.and_true]
          exact treeL_of len Y fun i hlt => by rw [(hY i hlt).2.1]; exact (hY i hlt).2.2.2.2
    · rename_i fs hu
      split at hT
      case isFalse => cases hT
      rename_i ho
      simp only [Option.map_eq_some_iff] at hT
      obtain ⟨Ts, hT, rfl⟩ := hT
      rw [hu] at h
      simp only at h
      split at h
      · rename_i hl
        simp only [Option.map_eq_some_iff] at h
        obtain ⟨ys, hy, rfl⟩ := h
        obtain ⟨xs, h1, h2, h3⟩ := tys_of (fun t cs x T h h' => trod_ty n fuel t cs x T h h') fs.toList 0 Ts ys (by rw [hl]; exact ho) hT hy
        exact ⟨xs, by simp only [TyC]; exact h1, h2, h3⟩
      · cases h
    · cases hT

/-- a parameter's tree: a row's cells, or the one value -/
def ArgC (s : Bool) (T : Ty) (x : AVal) : Prop := ∃ xs, TyC T xs ∧ x = elemV s xs
theorem arg_ty {n : Nat} {t : TypeId} {v : Value} {d : DataW H} {ps : List MemPlace} {T : Ty} {r : Reach} {b0 : Nat} (hT : tyOf P n t = some T) (hv : Value.okWide P w r b0 t v) (h : DataW.Trod enc P w 0 spare held t v d ps) :
    ∃ x, ArgC (isRowD (P.underlying t)) T x ∧ VR (Imm.of w) B0 x v ∧ treeC x.cells = true := by
  obtain ⟨fuel, h⟩ := h
  obtain ⟨xs, h1, h2, h3⟩ := trod_ty n fuel t _ _ T hT h
  refine ⟨elemV (isRowD (P.underlying t)) xs, ⟨xs, h1, rfl⟩, ?_⟩
  by_cases hs : isRowD (P.underlying t) = true
  · have : ∃ cs, v = .agg cs := by
      unfold Value.okWide at hv
      cases hu : P.underlying t with
      | none => rw [hu] at hs; simp [isRowD] at hs
      | some dd =>
        rw [hu] at hv hs
        cases dd <;> first | (simp [isRowD] at hs; done) | (obtain ⟨cs, e, _⟩ := hv; exact ⟨cs, e⟩)
    obtain ⟨cs, rfl⟩ := this
    rw [hs]
    exact ⟨by simp only [elemV, if_true, VR]; exact ⟨cs, rfl, h2⟩, h3⟩
  · have hs' : isRowD (P.underlying t) = false := by simpa using hs
    have hl := tyOne hT hs' h1
    have hlen := VRs_length h2
    rw [hs']
    match xs, hl with
    | [x], _ =>
      simp only [elemV, Bool.false_eq_true, if_false, List.headD_cons]
      have hvc : v.cells = #[v] := by
        cases n with
        | zero => simp [tyOf] at hT
        | succ n =>
          simp only [tyOf] at hT
          split at hT
          · rename_i hu; obtain ⟨b, rfl⟩ := Go.WideShapes.okWide_bool hu hv; rfl
          · rename_i k hu; obtain ⟨b, rfl⟩ := Go.WideShapes.okWide_int hu hv; rfl
          · rename_i hu; obtain ⟨b, rfl⟩ := Go.WideShapes.okWide_string hu hv; rfl
          · rename_i e hu; obtain ⟨a, l, c, rfl⟩ := Go.WideShapes.okWide_slice hu hv; rfl
          · rename_i fs hu; rw [hu] at hs'; simp [isRowD] at hs'
          · cases hT
      rw [hvc] at h2
      simp only [VRs] at h2
      obtain ⟨v', vs', e, h2, _⟩ := h2
      simp only [List.cons.injEq] at e
      rw [e.1]
      refine ⟨h2, ?_⟩
      have hok := treeC_ok h3 x (by simp)
      have hx : x.cells = [x] := by cases x <;> first | rfl | (simp [okCell] at hok; done)
      rw [hx]; exact h3
theorem Rel.start (w : World) (hG : Gl.le (Imm.of w)) : Rel (fun b => b < w.heap.size) w (Imm.of w) (Imm.of w) B0 [] w where
  below := KB.refl _ w
  old := fun _ _ _ => rfl
  imm := fun _ _ _ h => h
  blk := fun t x h => by simp at h
  own := fun t x b h => by simp at h
  apart := fun t x t' x' b h => by simp at h
  fresh := fun _ _ _ => rfl
  free := fun t g h => by simp at h
  gen := fun t b g h => by simp at h
  glob := hG
/-- a law that the oracle tells true -/
theorem walk_of {O : Oracle} (hO : OrOk P O) {f : Nat} {args : List AVal} {vs : Array Value} {σ' : AHeap} (hG : Gl.le (Imm.of w)) (hargs : VRs (Imm.of w) B0 args vs.toList) (h : O f args [] = some (.bool true, σ')) :
    Calls P f vs w (fun e w' => e = .returned (.bool true) ∧ Below w.heap.size w w') := by
  refine ((hO f args [] _ _ h).2 _ w _ _ B0 w vs (fun b hb => hb) (Rel.start w hG) hargs).mono ?_
  rintro e w' ⟨u, he, I', β', _, _, R, hv⟩
  simp only [valOf, VR] at hv
  subst hv
  exact ⟨he, R.below.os, R.below.tape, R.below.output, R.below.size, R.below.block⟩
end
end Go.Proofs.YtaaflagbhneakaaDoor
