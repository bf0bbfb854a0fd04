/- The card of ConnNames: for every input the law returns true, and each argument reads afterwards as it read before. No other condition; the tables of unicode/utf8 are tied to the program. -/
import Derived.Test.YtaaflagbhneakaaDoorCards
import Derived.Test.YtaaflagbhneakaaDoorTie
import Derived.Test.YtaaflagbhneakaaDoorTCNames
import Derived.Test.YtaaflagbhneakaaDoorPR
import Derived.Test.YtaaflagbhneakaaDoorTStrArg
import Derived.WalkKit
import Derived.ProofKit
import Derived.OpenShut
import Derived.ShutString
import Derived.ChangeOld
import Derived.Below
import Derived.SevenTiedAt
import Derived.LaidByTextLater
import Derived.Lib.LaidU8T
import Derived.Lib.LaidIn
import Derived.Deep.DeepHandedRow
import Derived.MakeChecks
namespace Go.Proofs.YtaaflagbhneakaaDoor
set_option linter.unusedSimpArgs false
set_option linter.unusedVariables false
open Go.ChangeShapes Go.WideShapes Go.ChangeAt Go.RowKit Go.Deep
theorem connNames_own : ownKnob Tryd.prog.godebug = none := by kernel_rfl
theorem connNames_laidOut : laidOutB Tryd.prog = true := by kernel_rfl
theorem connNames_glob {W : World} (hLH : laidMetH Tryd.prog Rows.connNamesRow.laid W) : Gl.le (Imm.of W) := by
  have hL : laidMet Tryd.prog Rows.connNamesRow.laid W := by rw [← MakeChecks.laidMetH_plain _ _ _ (by kernel_rfl)]; exact hLH
  have e1 : Rows.laid_unicode_utf8_first = Lib.firstData := by kernel_rfl
  have e2 : (Rows.laid_unicode_utf8_acceptRanges : DataW Unit) = Lib.acceptData := by kernel_rfl
  have h1 : Lib.VarReads Tryd.prog W "unicode/utf8.first" Lib.firstData := by rw [← e1]; exact Lib.laidMet.reads hL (.tail _ (.head _))
  have h2 : Lib.VarReads Tryd.prog W "unicode/utf8.acceptRanges" Lib.acceptData := by rw [← e2]; exact Lib.laidMet.reads hL (.head _)
  exact gl_of_tabs (utf8Tabs_of_readsT (U8Types.of196 lay196) ⟨by kernel_rfl, by kernel_rfl, by kernel_rfl, by kernel_rfl, by kernel_rfl, by kernel_rfl, by kernel_rfl⟩ h1 h2)
set_option maxRecDepth 100000 in
set_option maxHeartbeats 1000000 in
theorem connNames_contract (H : Type) (enc : TypeId × Value → H) (W : World) (base : Nat) (args : Array Value) (ds gs : List (DataW H)) (before : List MemPlace)
    (hval0 : ∀ (j : Nat) t v, Tryd.f4.params[j]? = some t → args[j]? = some v → Value.okWide Tryd.prog W .any base t v)
    (hW : DataW.Whole enc Tryd.prog Tryd.f4.params.toList Rows.connNamesSpec.vars false W args.toList ds gs before) (hL : laidMetH Tryd.prog Rows.connNamesRow.laid W) :
    Calls Tryd.prog 4 args W fun e W' => ∃ v, e = .returned v ∧ Rows.connNamesSpec.post enc Tryd.prog Tryd.f4 false true false false W args v W' := by
  have hW' := hW
  obtain ⟨p, q, hA0, hV, rfl, hfz, hnd⟩ := hW
  have hval : ∀ (j : Nat) t v, Tryd.f4.params[j]? = some t → args[j]? = some v → Value.okWide Tryd.prog W .any base t v := hval0
  have hA : DataW.TrodAll enc Tryd.prog W 0 (fun _ => true) true Tryd.f4.params.toList args.toList ds p := hA0
  rw [Tryd.params4] at hA hval
  obtain ⟨v0, vs0, d0, ds0, p0, q0, hargs, rfl, rfl, h0, r0⟩ := trodAll_cons hA
  obtain ⟨v1, vs1, d1, ds1, p1, q1, rfl, rfl, rfl, h1, r1⟩ := trodAll_cons r0
  obtain ⟨v2, vs2, d2, ds2, p2, q2, rfl, rfl, rfl, h2, r2⟩ := trodAll_cons r1
  obtain ⟨rfl, rfl, rfl⟩ := trodAll_nil r2
  obtain rfl : args = #[v0, v1, v2] := by cases args; simp_all
  obtain ⟨rfl, rfl⟩ := trodVars_none hV
  have k0 := h0
  have lt0 : ∀ x ∈ p0, x.block < W.heap.size := by obtain ⟨m, hm⟩ := k0; exact DataW.trod_lt m _ _ _ hm
  obtain ⟨x0, y0, z0, _⟩ := arg_ty (n := 12) (T := .str) (by kernel_rfl) (hval 0 9 v0 rfl rfl) h0
  rw [Tryd.underlying9] at y0
  obtain ⟨a0, b0, rfl⟩ := str_of y0
  have k1 := h1
  have lt1 : ∀ x ∈ p1, x.block < W.heap.size := by obtain ⟨m, hm⟩ := k1; exact DataW.trod_lt m _ _ _ hm
  obtain ⟨x1, y1, z1, _⟩ := arg_ty (n := 12) (T := .bool) (by kernel_rfl) (hval 1 4 v1 rfl rfl) h1
  rw [Tryd.underlying4] at y1
  obtain ⟨a1, rfl⟩ := bool_of y1
  have k2 := h2
  have lt2 : ∀ x ∈ p2, x.block < W.heap.size := by obtain ⟨m, hm⟩ := k2; exact DataW.trod_lt m _ _ _ hm
  obtain ⟨x2, y2, z2, _⟩ := arg_ty (n := 12) (T := .str) (by kernel_rfl) (hval 2 9 v2 rfl rfl) h2
  rw [Tryd.underlying9] at y2
  obtain ⟨a2, b2, rfl⟩ := str_of y2
  clear hA0 hval0
  refine (walk_of E_ok (connNames_glob hL) (args := [.str a0, .bool a1, .str a2]) (by simp only [VRs]; exact ⟨_, _, rfl, z0, _, _, rfl, z1, _, _, rfl, z2, rfl⟩) (q_names a0 a2 a1 b0)).mono fun e W' ⟨he, bel⟩ => ?_
  subst he
  exact ⟨_, rfl, _, _, _, [], _, [], hW', trodAll_mk1 (shut_bool Tryd.underlying4 _), (trodAll_cons_mk (Below.trod connNames_laidOut (by kernel_rfl) (of_decide_eq_true (by kernel_rfl)) k0 bel lt0) (trodAll_cons_mk (Below.trod connNames_laidOut (by kernel_rfl) (of_decide_eq_true (by kernel_rfl)) k1 bel lt1) (trodAll_cons_mk (Below.trod connNames_laidOut (by kernel_rfl) (of_decide_eq_true (by kernel_rfl)) k2 bel lt2) trodAll_mk0))), rfl, bel.frame _, fun h => by cases h⟩
noncomputable def connNames_world (os : Os) : World :=
  let w0 := World.holding Tryd.prog os ⟨#[], #[], []⟩
  let put (h : Array Obj) (g : Nat) (us : Array Value) : Array Obj := h.modify g fun
    | .cells _ t frozen => .cells us t frozen
    | o => o
  let h1 := put w0.heap 0 (Lib.firstTab.map fun z => Value.int .u8 z).toArray
  let h2 := put h1 1 ((List.range 16).flatMap fun i => [Value.int .u8 (Lib.accLo i), Value.int .u8 (Lib.accHi i)]).toArray
  { w0 with heap := h2 }
theorem connNames_met (os : Os) : laidMet Tryd.prog Rows.connNamesRow.laid ((connNames_world os).forCall (fun _ _ => 0) ⟨#[], #[.string ByteArray.empty, .bool false, .string ByteArray.empty], []⟩).memory :=
  laidMet_of_run' 8 (by kernel_rfl) (by kernel_rfl)
theorem connNames_reads (os : Os) {H : Type} (enc : TypeId × Value → H) : ∃ ds places, DataW.whole enc Tryd.prog ((connNames_world os).forCall (fun _ _ => 0) ⟨#[], #[.string ByteArray.empty, .bool false, .string ByteArray.empty], []⟩).memory Tryd.f4.params.toList Rows.connNamesSpec.vars false #[.string ByteArray.empty, .bool false, .string ByteArray.empty].toList 8 = some (ds, [], places) :=
  ⟨[.lit (.string []), .lit (.bool false), .lit (.string [])], [], by kernel_rfl⟩
set_option maxRecDepth 100000 in
set_option maxHeartbeats 1000000 in
theorem connNames_lifted (os : Os) (started : os.Started) (H : Type) (enc : TypeId × Value → H) (F : Stop.Interp) :
    ReturnsInHanded {} Tryd.checked os 4 .any ((OpenSpec.ofChange Rows.connNamesSpec).preRow enc Tryd.prog Tryd.f4 Rows.connNamesRow.domain false Rows.connNamesRow.laid) (((OpenSpec.ofChange Rows.connNamesSpec).at F).post enc Tryd.prog Tryd.f4 false true false false) := by
  obtain ⟨ds, places, hx⟩ := connNames_reads os enc
  refine returnsInHanded_of_row (C := Tryd.checked) (s := (OpenSpec.ofChange Rows.connNamesSpec)) connNames_own started (by kernel_rfl) Tryd.func4
    (witness_row_at (enc := enc) (C := Tryd.checked) false (connNames_world os) #[.string ByteArray.empty, .bool false, .string ByteArray.empty] rfl (by kernel_rfl) (by kernel_rfl) (by kernel_rfl)
      (OpenSpec.preRow_of_cond 8 hx (by kernel_rfl) (fun k hk => by cases hk) (by kernel_rfl) (connNames_met os))) ?_
  intro W base args ds gs before hval hW _ hcond _ hL _ _
  exact connNames_contract H enc W base args ds gs before hval hW hL
theorem connNames_said : Rows.ConnNamesSaid :=
  OpenClaim.holds_of_cond 4 Tryd.f4 rfl rfl rfl rfl rfl rfl rfl ⟨rfl, rfl, rfl, rfl, rfl⟩ rfl rfl rfl rfl rfl (by kernel_rfl) Tryd.func4 (by kernel_rfl)
    (of_decide_eq_true (by kernel_rfl)) (by unfold Func.isWrapper; first | (rw [if_pos (by decide +kernel)]; kernel_rfl) | (rw [if_neg (by decide +kernel)]; exact ⟨rfl, rfl⟩))
    (fun os started H enc _ F => by rw [OpenClaim.pre_eq_preRow]; exact connNames_lifted os started H enc F)
theorem connNames_plain (f : FuncId) (fn : Func) (hf : Tryd.pinned.checked.prog.funcNamed "tidings/tidingslaw23.ConnNames" = some f) (hfn : Tryd.pinned.checked.prog.funcs[f]? = some fn) :
    false = Tryd.pinned.checked.prog.looks [] ∧ ∀ (j : Nat) t, fn.params[j]? = some t → Tryd.pinned.checked.prog.wantsStandIn t = false := by
  obtain rfl : f = 4 := Option.some.inj ((show Tryd.prog.funcNamed "tidings/tidingslaw23.ConnNames" = some 4 by kernel_rfl).symm.trans hf) |>.symm
  obtain rfl : fn = Tryd.f4 := (Option.some.inj (Tryd.func4.symm.trans hfn)).symm
  refine ⟨by kernel_rfl, fun j t ht => ?_⟩
  rw [Tryd.params4] at ht
  have hm : t = 4 ∨ t = 9 := by
    have := Array.mem_of_getElem? ht
    simp at this
    first | exact this | exact this.symm | omega | (rcases this with h | h | h <;> simp [h]) | (rcases this with h | h | h | h <;> simp [h])
  rcases hm with rfl | rfl
  · exact (show Tryd.prog.wantsStandIn 4 = false by kernel_rfl)
  · exact (show Tryd.prog.wantsStandIn 9 = false by kernel_rfl)
theorem connNames_card : Rows.ConnNamesCardSaid :=
  Claim7.holds_tied_plain_at .later [] _ _ _ _ connNames_said (fun _ h => by cases h) (by kernel_rfl) (fun _ h => by cases h) connNames_row_tie rfl ⟨rfl, rfl⟩ (by kernel_rfl) rfl connNames_plain (by kernel_rfl)
#print axioms connNames_card
end Go.Proofs.YtaaflagbhneakaaDoor
