/- Functions of Go's library that are told by hand: what they tell. -/
import Derived.Test.YtaaflagbhneakaaDoorAbsX3
import Derived.Lib.Index
import Derived.Shelf.Unicode.ValidAny
import Derived.Shelf.Strings.Count
namespace Go.Proofs.YtaaflagbhneakaaDoor
set_option linter.unusedSimpArgs false
set_option linter.unusedVariables false
open Go.RowKit
def validPrim (args : List AVal) (σ : AHeap) : Option (AVal × AHeap) := match args with
  | [.str l] => some (.bool (Lib.validD l), σ)
  | _ => none
def indexBytePrim (args : List AVal) (σ : AHeap) : Option (AVal × AHeap) := match args with
  | [.str l, .int .u8 c] => some (.int .i64 (Lib.indexByte l c.toNat.toUInt8), σ)
  | _ => none
def countPrim (args : List AVal) (σ : AHeap) : Option (AVal × AHeap) := match args with
  | [.str l, .str [c]] => some (.int .i64 (Lib.countByte l c), σ)
  | _ => none
section
variable {P : Program} {base : Nat → Prop} {w0 w w' : World} {I0 I : Imm} {β : Bmap} {σ : AHeap}
/-- a function that tells something of what it is given, and changes nothing that was there -/
theorem prim_pure {f : Nat} (hf : ∃ fn, P.funcs[f]? = some fn ∧ fn.body.isSome = true ∧ (fn.name == "runtime.NumGoroutine") = false) {args : List AVal} {r : AVal} {u : Value} (hn : ∀ x, r ≠ .pan x) (hr : ∀ I β, VR I β r u)
    (h : ∀ base w0 I0 I β w (vs : Array Value), Rel base w0 I0 I β σ w → VRs I β args vs.toList → Calls P f vs w (fun e w' => e = .returned u ∧ Below w.heap.size w w')) :
    (∃ fn, P.funcs[f]? = some fn ∧ fn.body.isSome = true ∧ (fn.name == "runtime.NumGoroutine") = false) ∧
    ∀ base w0 I0 I β w (vs : Array Value), KLt base w0 → Rel base w0 I0 I β σ w → VRs I β args vs.toList →
      Calls P f vs w (fun e w' => ∃ u, Ends r e u ∧ PostF σ.length base w0 I0 I β r σ u w') := by
  refine ⟨hf, fun base w0 I0 I β w vs hb R hv => (h base w0 I0 I β w vs R hv).mono ?_⟩
  rintro e w' ⟨rfl, hB⟩
  have hbw := R.base_le hb
  refine ⟨u, ?_, I, β, Imm.le.refl I, KeptE.refl _ β, R.stay (Imm.le.refl I) ⟨hB.os, hB.tape, hB.output, hB.size, fun k hk => hB.block k (hbw k hk)⟩ (fun _ _ _ => rfl) ?_ ?_, by rw [valOf_npan hn]; exact hr I β⟩
  · cases r <;> first | rfl | exact absurd rfl (hn _)
  · intro b o x hx
    have h1 := R.imm b o x hx
    have hlt := cell_lt h1
    rw [← h1]
    simp only [World.cell?, hB.block b hlt]
  · intro t x b hx hb'
    exact ⟨hB.block b ((R.blk t x hx).owns_lt hb'), (R.own t x b hx hb').2⟩
theorem below_same (w : World) : Below w.heap.size w w := Below.refl _ _
theorem str_arr {l : List UInt8} : (ByteArray.mk l.toArray).data.toList = l := by simp
theorem indexByte_ok {f : Nat} (hf : ∃ fn, P.funcs[f]? = some fn ∧ fn.body.isSome = true ∧ (fn.name == "runtime.NumGoroutine") = false)
    (hc : ∀ (s : ByteArray) (c : Int) (w : World), Calls P f #[.string s, .int .u8 c] w fun e w' => e = .returned (.int .i64 (Lib.indexByte s.data.toList c.toNat.toUInt8)) ∧ w' = w) {args : List AVal} {σ σ' : AHeap} {r : AVal} (h : indexBytePrim args σ = some (r, σ')) :
    (∃ fn, P.funcs[f]? = some fn ∧ fn.body.isSome = true ∧ (fn.name == "runtime.NumGoroutine") = false) ∧
    ∀ base w0 I0 I β w (vs : Array Value), KLt base w0 → Rel base w0 I0 I β σ w → VRs I β args vs.toList →
      Calls P f vs w (fun e w' => ∃ u, Ends r e u ∧ PostF σ.length base w0 I0 I β r σ' u w') := by
  unfold indexBytePrim at h
  split at h
  case h_2 => cases h
  rename_i l c
  simp only [Option.some.injEq, Prod.mk.injEq] at h
  obtain ⟨rfl, rfl⟩ := h
  refine prim_pure hf (u := .int .i64 (Lib.indexByte l c.toNat.toUInt8)) (by simp) (fun _ _ => by simp only [VR]) ?_
  intro base w0 I0 I β w vs R hv
  obtain ⟨vs⟩ := vs
  simp only [VRs, VR] at hv
  obtain ⟨v1, r1, e1, ⟨rfl, _⟩, v2, r2, rfl, rfl, rfl⟩ := hv
  subst e1
  refine (hc ⟨l.toArray⟩ c w).mono ?_
  rintro e w' ⟨rfl, rfl⟩
  exact ⟨by simp, Below.refl _ _⟩
theorem count_ok {f : Nat} (hf : ∃ fn, P.funcs[f]? = some fn ∧ fn.body.isSome = true ∧ (fn.name == "runtime.NumGoroutine") = false)
    (hc : ∀ (s : ByteArray) (c : UInt8) (w : World), Calls P f #[.string s, .string ⟨#[c]⟩] w fun e w' => e = .returned (.int .i64 (Lib.countByte s.data.toList c)) ∧ w' = w) {args : List AVal} {σ σ' : AHeap} {r : AVal} (h : countPrim args σ = some (r, σ')) :
    (∃ fn, P.funcs[f]? = some fn ∧ fn.body.isSome = true ∧ (fn.name == "runtime.NumGoroutine") = false) ∧
    ∀ base w0 I0 I β w (vs : Array Value), KLt base w0 → Rel base w0 I0 I β σ w → VRs I β args vs.toList →
      Calls P f vs w (fun e w' => ∃ u, Ends r e u ∧ PostF σ.length base w0 I0 I β r σ' u w') := by
  unfold countPrim at h
  split at h
  case h_2 => cases h
  rename_i l c
  simp only [Option.some.injEq, Prod.mk.injEq] at h
  obtain ⟨rfl, rfl⟩ := h
  refine prim_pure hf (u := .int .i64 (Lib.countByte l c)) (by simp) (fun _ _ => by simp only [VR]) ?_
  intro base w0 I0 I β w vs R hv
  obtain ⟨vs⟩ := vs
  simp only [VRs, VR] at hv
  obtain ⟨v1, r1, e1, ⟨rfl, _⟩, v2, r2, rfl, ⟨rfl, _⟩, rfl⟩ := hv
  subst e1
  refine (hc ⟨l.toArray⟩ c w).mono ?_
  rintro e w' ⟨rfl, rfl⟩
  exact ⟨by simp, Below.refl _ _⟩
theorem tabs_of (R : Rel base w0 I0 I β σ w) : Lib.Utf8Tabs 0 1 w := by
  refine ⟨fun c hc => R.imm _ _ _ (R.glob _ _ _ (by simp [Gl, hc])), fun i hi => ⟨R.imm _ _ _ (R.glob _ _ _ ?_), R.imm _ _ _ (R.glob _ _ _ ?_)⟩⟩
  · have h1 : 2 * i < 32 := by omega
    have h2 : 2 * i % 2 = 0 := by omega
    have h3 : 2 * i / 2 = i := by omega
    simp [Gl, h1, h3]
  · have h1 : 2 * i + 1 < 32 := by omega
    have h2 : (2 * i + 1) % 2 = 1 := by omega
    have h3 : (2 * i + 1) / 2 = i := by omega
    simp [Gl, h1, h2, h3]
theorem valid_ok {f : Nat} (hf : ∃ fn, P.funcs[f]? = some fn ∧ fn.body.isSome = true ∧ (fn.name == "runtime.NumGoroutine") = false)
    (hc : ∀ (s : ByteArray) (w : World), s.size ≤ 9223372036854775807 → Lib.Utf8Tabs 0 1 w → Calls P f #[.string s] w fun e w' => e = .returned (.bool (Lib.validD s.data.toList)) ∧ Below w.heap.size w w') {args : List AVal} {σ σ' : AHeap} {r : AVal} (h : validPrim args σ = some (r, σ')) :
    (∃ fn, P.funcs[f]? = some fn ∧ fn.body.isSome = true ∧ (fn.name == "runtime.NumGoroutine") = false) ∧
    ∀ base w0 I0 I β w (vs : Array Value), KLt base w0 → Rel base w0 I0 I β σ w → VRs I β args vs.toList →
      Calls P f vs w (fun e w' => ∃ u, Ends r e u ∧ PostF σ.length base w0 I0 I β r σ' u w') := by
  unfold validPrim at h
  split at h
  case h_2 => cases h
  rename_i l
  simp only [Option.some.injEq, Prod.mk.injEq] at h
  obtain ⟨rfl, rfl⟩ := h
  refine prim_pure hf (u := .bool (Lib.validD l)) (by simp) (fun _ _ => by simp only [VR]) ?_
  intro base w0 I0 I β w vs R hv
  obtain ⟨vs⟩ := vs
  simp only [VRs, VR] at hv
  obtain ⟨v1, r1, e1, ⟨rfl, hl⟩, rfl⟩ := hv
  subst e1
  refine (hc ⟨l.toArray⟩ w (by simpa [ByteArray.size] using hl) (tabs_of R)).mono ?_
  rintro e w' ⟨rfl, hB⟩
  exact ⟨by simp, hB⟩
end
end Go.Proofs.YtaaflagbhneakaaDoor
