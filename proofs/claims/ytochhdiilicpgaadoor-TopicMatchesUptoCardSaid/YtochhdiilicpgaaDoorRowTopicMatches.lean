/- The card of TopicMatches: for every input the law returns true, and each argument reads afterwards as it read before, where what it reads is of bulk at most 1048576. No other condition; the tables of unicode/utf8 are tied to the program. -/
import Derived.Test.YtochhdiilicpgaaDoorCards
import Derived.Test.YtochhdiilicpgaaDoorTie
import Derived.Test.YtochhdiilicpgaaDoorTMatches
import Derived.Test.YtochhdiilicpgaaDoorPR
import Derived.Test.YtochhdiilicpgaaDoorTStrArg
import Derived.WalkKit
import Derived.ProofKit
import Derived.OpenShut
import Derived.ShutString
import Derived.ChangeOld
import Derived.Below
import Derived.SevenTiedAt
import Derived.LaidByTextLater
import Derived.Lib.LaidU8T
import Derived.Lib.LaidIn
import Derived.Deep.DeepHandedRow
import Derived.MakeChecks
import Derived.Test.YtochhdiilicpgaaDoorTMatches
namespace Go.Proofs.YtochhdiilicpgaaDoor
set_option linter.unusedSimpArgs false
set_option linter.unusedVariables false
open Go.ChangeShapes Go.WideShapes Go.ChangeAt Go.RowKit Go.Deep
theorem topicMatches_own : ownKnob Tryd.prog.godebug = none := by kernel_rfl
theorem topicMatches_laidOut : laidOutB Tryd.prog = true := by kernel_rfl
theorem topicMatches_glob {W : World} (hLH : laidMetH Tryd.prog Rows.topicMatchesUptoRow.laid W) : Gl.le (Imm.of W) := by
  have hL : laidMet Tryd.prog Rows.topicMatchesUptoRow.laid W := by rw [← MakeChecks.laidMetH_plain _ _ _ (by kernel_rfl)]; exact hLH
  have e1 : Rows.laid_unicode_utf8_first = Lib.firstData := by kernel_rfl
  have e2 : (Rows.laid_unicode_utf8_acceptRanges : DataW Unit) = Lib.acceptData := by kernel_rfl
  have h1 : Lib.VarReads Tryd.prog W "unicode/utf8.first" Lib.firstData := by rw [← e1]; exact Lib.laidMet.reads hL (.tail _ (.head _))
  have h2 : Lib.VarReads Tryd.prog W "unicode/utf8.acceptRanges" Lib.acceptData := by rw [← e2]; exact Lib.laidMet.reads hL (.head _)
  exact gl_of_tabs (utf8Tabs_of_readsT (U8Types.of196 lay196) ⟨by kernel_rfl, by kernel_rfl, by kernel_rfl, by kernel_rfl, by kernel_rfl, by kernel_rfl, by kernel_rfl⟩ h1 h2)
set_option maxRecDepth 100000 in
set_option maxHeartbeats 1000000 in
theorem topicMatches_contract (H : Type) (enc : TypeId × Value → H) (W : World) (base : Nat) (args : Array Value) (ds gs : List (DataW H)) (before : List MemPlace)
    (hval0 : ∀ (j : Nat) t v, Tryd.f3.params[j]? = some t → args[j]? = some v → Value.okWide Tryd.prog W .any base t v)
    (hW : DataW.Whole enc Tryd.prog Tryd.f3.params.toList Rows.topicMatchesSpec.vars false W args.toList ds gs before) (hL : laidMetH Tryd.prog Rows.topicMatchesUptoRow.laid W) (hbulk : Rows.uptoSmall H (ds ++ gs) = true) :
    Calls Tryd.prog 3 args W fun e W' => ∃ v, e = .returned v ∧ Rows.topicMatchesSpec.post enc Tryd.prog Tryd.f3 false true false false W args v W' := by
  have hW' := hW
  obtain ⟨p, q, hA0, hV, rfl, hfz, hnd⟩ := hW
  have hval : ∀ (j : Nat) t v, Tryd.f3.params[j]? = some t → args[j]? = some v → Value.okWide Tryd.prog W .any base t v := hval0
  have hA : DataW.TrodAll enc Tryd.prog W 0 (fun _ => true) true Tryd.f3.params.toList args.toList ds p := hA0
  rw [Tryd.params3] at hA hval
  obtain ⟨v0, vs0, d0, ds0, p0, q0, hargs, rfl, rfl, h0, r0⟩ := trodAll_cons hA
  obtain ⟨v1, vs1, d1, ds1, p1, q1, rfl, rfl, rfl, h1, r1⟩ := trodAll_cons r0
  obtain ⟨rfl, rfl, rfl⟩ := trodAll_nil r1
  obtain rfl : args = #[v0, v1] := by cases args; simp_all
  obtain ⟨rfl, rfl⟩ := trodVars_none hV
  simp only [List.append_nil] at hbulk
  have k0 := h0
  have lt0 : ∀ x ∈ p0, x.block < W.heap.size := by obtain ⟨m, hm⟩ := k0; exact DataW.trod_lt m _ _ _ hm
  obtain ⟨x0, y0, z0, _⟩ := arg_ty (n := 12) (T := .slice false .str) (by kernel_rfl) (hval 0 22 v0 rfl rfl) h0
  rw [Tryd.underlying22] at y0
  obtain ⟨a0, b0, rfl⟩ := strs_of y0
  have k1 := h1
  have lt1 : ∀ x ∈ p1, x.block < W.heap.size := by obtain ⟨m, hm⟩ := k1; exact DataW.trod_lt m _ _ _ hm
  obtain ⟨x1, y1, z1, _⟩ := arg_ty (n := 12) (T := .str) (by kernel_rfl) (hval 1 9 v1 rfl rfl) h1
  rw [Tryd.underlying9] at y1
  obtain ⟨a1, b1, rfl⟩ := str_of y1
  clear hA0 hval0
  have hx : ∀ x ∈ a0, x.length * 16 ≤ 140737488355328 - 64 := fun x hx => by
    have h1 := strs_le Tryd.underlying22 Tryd.underlying9 (by kernel_rfl) h0 z0 x hx
    have h2 := bulk_bound hbulk (List.mem_cons_self ..)
    omega
  refine (walk_of E_ok (topicMatches_glob hL) (args := [.lst false (a0.map AVal.str), .str a1]) (by simp only [VRs]; exact ⟨_, _, rfl, z0, _, _, rfl, z1, rfl⟩) (q_matches a0 a1 hx)).mono fun e W' ⟨he, bel⟩ => ?_
  subst he
  exact ⟨_, rfl, _, _, _, [], _, [], hW', trodAll_mk1 (shut_bool Tryd.underlying4 _), (trodAll_cons_mk (Below.trod topicMatches_laidOut (by kernel_rfl) (of_decide_eq_true (by kernel_rfl)) k0 bel lt0) (trodAll_cons_mk (Below.trod topicMatches_laidOut (by kernel_rfl) (of_decide_eq_true (by kernel_rfl)) k1 bel lt1) trodAll_mk0)), rfl, bel.frame _, fun h => by cases h⟩
noncomputable def topicMatches_world (os : Os) : World :=
  let w0 := World.holding Tryd.prog os ⟨#[], #[], []⟩
  let put (h : Array Obj) (g : Nat) (us : Array Value) : Array Obj := h.modify g fun
    | .cells _ t frozen => .cells us t frozen
    | o => o
  let h1 := put w0.heap 0 (Lib.firstTab.map fun z => Value.int .u8 z).toArray
  let h2 := put h1 1 ((List.range 16).flatMap fun i => [Value.int .u8 (Lib.accLo i), Value.int .u8 (Lib.accHi i)]).toArray
  { w0 with heap := h2 }
theorem topicMatches_met (os : Os) : laidMet Tryd.prog Rows.topicMatchesUptoRow.laid ((topicMatches_world os).forCall (fun _ _ => 0) ⟨#[], #[.slice none 0 0, .string ByteArray.empty], []⟩).memory :=
  laidMet_of_run' 8 (by kernel_rfl) (by kernel_rfl)
theorem topicMatches_reads (os : Os) {H : Type} (enc : TypeId × Value → H) : ∃ ds places, DataW.whole enc Tryd.prog ((topicMatches_world os).forCall (fun _ _ => 0) ⟨#[], #[.slice none 0 0, .string ByteArray.empty], []⟩).memory Tryd.f3.params.toList Rows.topicMatchesSpec.vars false #[.slice none 0 0, .string ByteArray.empty].toList 8 = some (ds, [], places) ∧ Rows.uptoSmall H ds = true :=
  ⟨[.nil, .lit (.string [])], [], by kernel_rfl, by kernel_rfl⟩
set_option maxRecDepth 100000 in
set_option maxHeartbeats 1000000 in
theorem topicMatches_lifted (os : Os) (started : os.Started) (H : Type) (enc : TypeId × Value → H) (F : Stop.Interp) :
    ReturnsInHanded {} Tryd.checked os 3 .any ((Rows.OpenSpec.upto Rows.topicMatchesSpec).preRow enc Tryd.prog Tryd.f3 Rows.topicMatchesUptoRow.domain false Rows.topicMatchesUptoRow.laid) (((Rows.OpenSpec.upto Rows.topicMatchesSpec).at F).post enc Tryd.prog Tryd.f3 false true false false) := by
  obtain ⟨ds, places, hx, hb⟩ := topicMatches_reads os enc
  refine returnsInHanded_of_row (C := Tryd.checked) (s := (Rows.OpenSpec.upto Rows.topicMatchesSpec)) topicMatches_own started (by kernel_rfl) Tryd.func3
    (witness_row_at (enc := enc) (C := Tryd.checked) false (topicMatches_world os) #[.slice none 0 0, .string ByteArray.empty] rfl (by kernel_rfl) (by kernel_rfl) (by kernel_rfl)
      (OpenSpec.preRow_of_cond 8 hx (by kernel_rfl) (fun k hk => by cases hk; rw [List.append_nil]; exact hb) (by kernel_rfl) (topicMatches_met os))) ?_
  intro W base args ds gs before hval hW _ hcond _ hL _ _
  exact topicMatches_contract H enc W base args ds gs before hval hW hL (hcond _ rfl)
theorem topicMatches_said : Rows.TopicMatchesUptoSaid :=
  OpenClaim.holds_of_cond 3 Tryd.f3 rfl rfl rfl rfl rfl rfl rfl ⟨rfl, rfl, rfl, rfl, rfl⟩ rfl rfl rfl rfl rfl (by kernel_rfl) Tryd.func3 (by kernel_rfl)
    (of_decide_eq_true (by kernel_rfl)) (by unfold Func.isWrapper; first | (rw [if_pos (by decide +kernel)]; kernel_rfl) | (rw [if_neg (by decide +kernel)]; exact ⟨rfl, rfl⟩))
    (fun os started H enc _ F => by rw [OpenClaim.pre_eq_preRow]; exact topicMatches_lifted os started H enc F)
theorem topicMatches_plain (f : FuncId) (fn : Func) (hf : Tryd.pinned.checked.prog.funcNamed "tidings/tidingslaw14.TopicMatches" = some f) (hfn : Tryd.pinned.checked.prog.funcs[f]? = some fn) :
    false = Tryd.pinned.checked.prog.looks [] ∧ ∀ (j : Nat) t, fn.params[j]? = some t → Tryd.pinned.checked.prog.wantsStandIn t = false := by
  obtain rfl : f = 3 := Option.some.inj ((show Tryd.prog.funcNamed "tidings/tidingslaw14.TopicMatches" = some 3 by kernel_rfl).symm.trans hf) |>.symm
  obtain rfl : fn = Tryd.f3 := (Option.some.inj (Tryd.func3.symm.trans hfn)).symm
  refine ⟨by kernel_rfl, fun j t ht => ?_⟩
  rw [Tryd.params3] at ht
  have hm : t = 22 ∨ t = 9 := by
    have := Array.mem_of_getElem? ht
    simp at this
    omega
  rcases hm with rfl | rfl
  · exact (show Tryd.prog.wantsStandIn 22 = false by kernel_rfl)
  · exact (show Tryd.prog.wantsStandIn 9 = false by kernel_rfl)
theorem topicMatches_card : Rows.TopicMatchesUptoCardSaid :=
  Claim7.holds_tied_plain_at .later [] _ _ _ _ topicMatches_said (fun _ h => by cases h) (by kernel_rfl) (fun _ h => by cases h) topicMatchesUpto_row_tie rfl ⟨rfl, rfl⟩ (by kernel_rfl) rfl topicMatches_plain (by kernel_rfl)
#print axioms topicMatches_card
end Go.Proofs.YtochhdiilicpgaaDoor
