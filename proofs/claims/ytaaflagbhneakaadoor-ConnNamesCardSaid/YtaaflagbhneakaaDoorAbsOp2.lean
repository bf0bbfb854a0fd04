/- ABS: more operations. -/
import Derived.Test.YtaaflagbhneakaaDoorAbsOp1
namespace Go.Proofs.YtaaflagbhneakaaDoor
set_option linter.unusedSimpArgs false
set_option linter.unusedVariables false
open Go.RowKit

section
variable {P : Program} {base : Nat → Prop} {w0 w w' : World} {I0 I I' : Imm} {β β' : Bmap} {σ σ' : AHeap} {tm : Tms}

theorem run_unA {op : UnOp} {x r : AVal} {v : Value} (hx : VR I β x v) (h : unA op x = some r) : ∃ u, (Op.unary op v).run P w = .ok u w ∧ VR I β r u := by
  unfold unA at h
  split at h
  · simp only [VR] at hx; subst hx
    simp only [arithA] at h
    injection h with h; subst h
    simp only [VR, exists_eq_right]; simp [Op.unary, Op.intArith]
  · simp only [VR] at hx; subst hx
    simp only [arithA] at h
    injection h with h; subst h
    simp only [VR, exists_eq_right]; simp [Op.unary, Op.intBits]
  · simp only [VR] at hx; subst hx
    injection h with h; subst h
    simp only [VR, exists_eq_right]; simp [Op.unary]
  · cases h

/-- string(bytes) -/
theorem bytesOf_ints : ∀ {xs : List AVal} {l : List UInt8}, bytesOf xs = some l → ∃ ns : List Int, xs = ns.map (AVal.int .u8) ∧ l = ns.map fun n => UInt8.ofNat n.toNat
  | [], l, h => by simp only [bytesOf, Option.some.injEq] at h; subst h; exact ⟨[], rfl, rfl⟩
  | x :: xs, l, h => by
    simp only [bytesOf] at h
    split at h
    · rename_i b hb
      split at h
      · rename_i l' hl
        injection h with h; subst h
        obtain ⟨ns, rfl, rfl⟩ := bytesOf_ints hl
        unfold byteOf at hb
        split at hb
        · rename_i n
          injection hb with hb; subst hb
          exact ⟨n :: ns, rfl, rfl⟩
        · cases hb
      · cases h
    · cases h
theorem foldl_push (ns : List Int) : ∀ s : ByteArray, ns.foldl (fun r n => r.push (UInt8.ofNat n.toNat)) s = ⟨s.data ++ (ns.map fun n => UInt8.ofNat n.toNat).toArray⟩ := by
  induction ns with
  | nil => intro s; simp
  | cons n ns ih =>
    intro s
    rw [List.foldl_cons, ih]
    simp [ByteArray.push]
theorem VRs_ints {ns : List Int} {us : List Value} (h : VRs I β (ns.map (AVal.int .u8)) us) : us = ns.map (Value.int .u8) := by
  have hl := VRs_length h
  apply List.ext_getElem?
  intro j
  cases hj : (ns.map (AVal.int .u8))[j]? with
  | none =>
    have h1 : us[j]? = none := by rw [List.getElem?_eq_none_iff] at hj ⊢; omega
    have h2 : (ns.map (Value.int .u8))[j]? = none := by rw [List.getElem?_eq_none_iff] at hj ⊢; simpa using hj
    rw [h1, h2]
  | some x =>
    obtain ⟨v, hv, hr⟩ := VRs_get h hj
    simp only [List.getElem?_map, Option.map_eq_some_iff] at hj
    obtain ⟨n, hn, rfl⟩ := hj
    simp only [VR] at hr
    subst hr
    rw [hv]
    simp [hn]
theorem flat_ints (ns : List Int) : (ns.map (AVal.int .u8)).flatMap AVal.cells = ns.map (AVal.int .u8) := by
  induction ns with
  | nil => rfl
  | cons n ns ih => simp only [List.map_cons, List.flatMap_cons, ih]; rfl
theorem run_b2s {src dst e : TypeId} (hs : P.underlying src = some (.slice e)) (he : P.underlying e = some (.int .u8)) (hd : P.underlying dst = some .string) {xs : List AVal} {v : Value} (hr : Reads I β w v xs) {l : List UInt8} (hl : bytesOf xs = some l) :
    (convert src dst v).run P w = .ok (.string ⟨l.toArray⟩) w ∧ l.length ≤ 9223372036854775807 := by
  obtain ⟨A, cap, rfl, h1, h2, h3, h4⟩ := hr
  obtain ⟨ns, rfl, rfl⟩ := bytesOf_ints hl
  refine ⟨?_, by simp at h1 ⊢; omega⟩
  rw [run_convert_bytes_string w src dst e A _ cap hs he hd]
  rcases A with _ | a
  · have : ns = [] := by
      rcases h4 with h4 | ⟨b, off, k, us, e', _⟩
      · simpa using h4
      · cases e'
    subst this
    simp [Conv.bytesToString]; rfl
  · have hload : (loadCells a (ns.map (AVal.int .u8)).length).run P w = .ok (ns.map (Value.int .u8)).toArray w := by
      rcases h4 with h4 | ⟨b, off, k, us, e', hk, hlen, hv, hc⟩
      · have : ns = [] := by simpa using h4
        subst this
        simp [loadCells, loadCellsFrom]
      · injection e' with e'; subst e'
        rw [flat_ints] at hv
        have := VRs_ints hv
        subst this
        have key := run_loadCells_list (P := P) w ⟨b, off, none⟩ (ns.map (Value.int .u8)) (fun j u hu => by rw [Addr.add_mid]; exact hc j u hu)
        simpa using key
    rw [run_bytesToString w a _ cap ns hload, foldl_push]
    simp [ByteArray.empty, ByteArray.emptyWithCapacity]
    rfl

/-- []byte(s) -/
theorem run_s2b {src dst e : TypeId} (hs : P.underlying src = some .string) (hd : P.underlying dst = some (.slice e)) (he : P.underlying e = some (.int .u8)) (R : Rel base w0 I0 I β σ w) (hb : KLt base w0) {l : List UInt8} (hl : l.length ≤ 9223372036854775807) :
    ∃ u w', (convert src dst (.string ⟨l.toArray⟩)).run P w = .ok u w' ∧ Post base w0 I0 I β (.lst false (l.map byteV)) σ u w' := by
  have hsz : ByteArray.size ⟨l.toArray⟩ = l.length := by simp [ByteArray.size]
  obtain ⟨cap, hcap⟩ : ∃ cap, cap = (Question.appendCap l.length 0 e).cut (w.tape w.drawn (.appendCap l.length 0 e)) := ⟨_, rfl⟩
  have hge : l.length ≤ cap := by rw [hcap]; simp [Question.cut]
  have hle : cap ≤ 9223372036854775807 := by
    rw [hcap]; simp only [Question.cut]
    have := Nat.mod_lt (w.tape w.drawn (.appendCap l.length 0 e)) (show 0 < 2 ^ 63 - l.length by omega)
    omega
  obtain ⟨us, hus⟩ : ∃ us : Array Value, us = (l.map fun b => Value.int .u8 b.toNat).toArray ++ Array.replicate (cap - l.length) (.int .u8 0) := ⟨_, rfl⟩
  have husz : us.size = cap := by rw [hus]; simp; omega
  obtain ⟨R', hI⟩ := (R.same (w' := { w with drawn := w.drawn + 1 }) rfl rfl rfl rfl).newImm hb us e (us.size, us.size + 1)
  refine ⟨.slice (some ⟨w.heap.size, 0, none⟩) l.length cap, { w with drawn := w.drawn + 1, heap := w.heap.push (.cells us e (us.size, us.size + 1)) }, ?_, Post.mk hI (Bmap.le.refl β) R' ?_⟩
  · have hmap : (l.toArray.map fun b => Value.int .u8 (b.toNat : Int)) = (l.map fun b => Value.int .u8 (b.toNat : Int)).toArray := by simp
    simp only [convert, Sem.run_bind, run_underlying hs, run_underlying hd, run_underlying he, Result.andThen_ok, Conv.stringToBytes, hsz, run_choose, Question.forced, Bool.false_eq_true, if_false, ite_false, ← hcap, newRow, run_newObj, Sem.run_pure, markStringish, run_shape]
    rw [hmap, ← hus]
    simp [World.shape?, World.freeze]
    congr 1
    apply Array.ext
    · simp
    · intro i h1 h2
      simp only [Array.size_modify, Array.size_push] at h1
      by_cases hi : i = w.heap.size
      · subst hi; simp [Array.getElem_modify]
      · simp only [Array.getElem_modify, Ne.symm hi, if_false]
        rw [Array.getElem_push_lt (by omega), Array.getElem_push_lt (by omega)]
  · simp only [VR]
    refine ⟨some ⟨w.heap.size, 0, none⟩, cap, by simp, by simpa using hge, hle, by simp, ?_, bytes_tree l⟩
    by_cases hne : l = []
    · exact Or.inl (by simp [hne])
    · refine Or.inr ⟨w.heap.size, 0, 1, rfl, by omega, LR_of (bytes_lens l) (by rw [bytes_flat]; exact bytes_VRs l) (fun j u hu => ?_)⟩
      simp only [Imm.add, Nat.zero_add, if_true]
      rw [hus]
      have hj : j < l.length := by simpa using (List.getElem?_eq_some_iff.1 hu).1
      rw [Array.getElem?_append_left (by simpa using hj)]
      simpa using hu

/-- bounds -/
theorem run_bound {x : AVal} {v : Value} (hx : VR I β x v) {y n : Nat} (h : boundA x y = some n) (y' : Nat) (hy : y ≤ y') (code : BoundsCode) : (Instr.sliceBound v y' code).run P w = .ok n w ∧ n ≤ y := by
  unfold boundA at h
  split at h
  · rename_i i
    split at h
    · rename_i hc
      injection h with h; subst h
      simp only [VR] at hx; subst hx
      refine ⟨?_, by omega⟩
      simp [Instr.sliceBound, asIntOf, hc.1, show i ≤ (y' : Int) by omega]
    · cases h
  · cases h

/-- the bounds of a slice: what is given lies within a smaller length -/
theorem run_bounds (isSlice : Bool) {len cap d : Nat} {lo hi mx : Option AVal} {vlo vhi vmx : Option Value} (hlo : ∀ x, lo = some x → ∃ v, vlo = some v ∧ VR I β x v) (hlo' : lo = none → vlo = none)
    (hhi : ∀ x, hi = some x → ∃ v, vhi = some v ∧ VR I β x v) (hhi' : hi = none → vhi = none) (hmx : ∀ x, mx = some x → ∃ v, vmx = some v ∧ VR I β x v) (hmx' : mx = none → vmx = none) (hd : d ≤ cap) (hhm : hi = none → mx = none) {m h l : Nat}
    (h1 : optB mx d d = some m) (h2 : optB hi len m = some h) (h3 : optB lo 0 h = some l) :
    (Instr.sliceBounds isSlice len cap vlo vhi vmx).run P w = .ok (l, h, if mx.isSome then m else cap) w ∧ l ≤ h ∧ (hi.isSome → h ≤ m) ∧ m ≤ d := by
  have b3 : ∀ y', h ≤ y' → ∀ code, (match vlo with | some v => Instr.sliceBound v y' code | none => pure 0 : Sem Nat).run P w = .ok l w ∧ l ≤ h := by
    intro y' hy code
    cases lo with
    | none => rw [hlo' rfl]; simp only [optB, Option.some.injEq] at h3; subst h3; simp
    | some x =>
      obtain ⟨v, rfl, hv⟩ := hlo x rfl
      simpa using run_bound hv h3 y' hy code
  cases mx with
  | none =>
    rw [hmx' rfl]
    simp only [optB, Option.some.injEq] at h1
    subst h1
    cases hi with
    | none =>
      rw [hhi' rfl]
      simp only [optB, Option.some.injEq] at h2
      subst h2
      have := b3 len (Nat.le_refl _) .sliceB
      refine ⟨?_, this.2, by simp, Nat.le_refl _⟩
      cases vlo <;> simp_all [Instr.sliceBounds]
    | some x =>
      obtain ⟨v, rfl, hv⟩ := hhi x rfl
      have hb := fun code => run_bound (P := P) (w := w) hv h2 cap hd code
      have hb2 := (hb .sliceAcap).2
      have := b3 h (Nat.le_refl _) .sliceB
      refine ⟨?_, this.2, fun _ => hb2, Nat.le_refl _⟩
      have e1 := fun c => (hb c).1
      cases vlo <;> simp_all [Instr.sliceBounds]
  | some y =>
    obtain ⟨vm, rfl, hvm⟩ := hmx y rfl
    have hm := fun code => run_bound (P := P) (w := w) hvm h1 cap hd code
    have hm2 := (hm .slice3B).2
    cases hi with
    | none => cases hhm rfl
    | some x =>
      obtain ⟨v, rfl, hv⟩ := hhi x rfl
      have hb := fun code => run_bound (P := P) (w := w) hv h2 m (Nat.le_refl _) code
      have hb2 := (hb .sliceAcap).2
      have := b3 h (Nat.le_refl _) .slice3C
      refine ⟨?_, this.2, fun _ => hb2, hm2⟩
      have e1 := fun c => (hb c).1
      have e2 := fun c => (hm c).1
      cases vlo <;> simp_all [Instr.sliceBounds]
end
end Go.Proofs.YtaaflagbhneakaaDoor
