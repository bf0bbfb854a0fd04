/- The card of ConnMeets: for every input the law returns true, and each argument reads afterwards as it read before. No other condition; the tables of unicode/utf8 are tied to the program. -/
import Derived.Test.YtaaflagbhneakaaDoorMq4
import Derived.Test.YtaaflagbhneakaaDoorMq3
import Derived.Test.YtaaflagbhneakaaDoorMq2
import Derived.Test.YtaaflagbhneakaaDoorProg
import Derived.Shelf.Small.Strs
import Derived.Shelf.Strings.Search1
import Derived.Shelf.Strings.Count
import Derived.Shelf.Unicode.ValidAny
import Derived.Lib.LaidU8T
import Derived.Test.YtaaflagbhneakaaDoorRows
import Derived.Deep.Slices
import Derived.Test.YtaaflagbhneakaaDoorCards
import Derived.Test.YtaaflagbhneakaaDoorTie
import Derived.WalkKit
import Derived.ProofKit
import Derived.OpenShut
import Derived.ShutString
import Derived.ChangeOld
import Derived.Below
import Derived.SevenTiedAt
import Derived.LaidByTextLater
import Derived.Lib.LaidIn
import Derived.Deep.DeepHandedRow
import Derived.MakeChecks
import Derived.SizedLaws
namespace Go.Proofs.YtaaflagbhneakaaDoor
set_option linter.unusedSimpArgs false
set_option linter.unusedVariables false
set_option maxHeartbeats 8000000
set_option maxRecDepth 10000
def expI (props : List PropD) (now : Int) : Int := match findP 2 props with
  | none => 0
  | some x => IntKind.i64.wrap (now + x.num)
def ofD (pl : Bytes) (qos : Int) (rt : Bool) (props : List PropD) (topic sender : Bytes) (now : Int) : NoteD := ⟨topic, pl, qos, rt, sender, expI props now, keptL props, 0, 0, 0⟩
theorem q_ofR (pl : Bytes) (X : List AVal) (hpl : pl.length ≤ 140737488355328) (qos : Int) (rt : Bool) (props : List PropD) (hl : props.length * 72 ≤ 140737488355328) (hd : ∀ p ∈ props, p.data.length ≤ 140737488355328) (topic sender : Bytes) (now : Int) (c0 c1 c4 c5 c7 c8 c10 c11 c12 c13 c14 c15 c16 c17 c18 c19 c20 c21 c22 c23 c24 c25 : AVal) :
    E 23 [.agg [c0, c1, .int .i64 qos, .bool rt, c4, c5, .sl 0 0 0 pl.length, c7, c8, .lst false (props.map propV), c10, c11, c12, c13, c14, c15, c16, c17, c18, c19, c20, c21, c22, c23, c24, c25], .str topic, .str sender, .int .i64 now] [.row 0 1 (pl.map byteV ++ X)] =
      some (.agg [.str topic, .sl 1 0 0 pl.length, .int .i64 qos, .bool rt, .str sender, .int .i64 (expI props now), .lst false ((keptL props).map propV), .int .i64 0, .int .i64 0, .int .i64 0], [.row 0 1 (pl.map byteV ++ X), .row 0 1 (pl.map byteV)]) := by
  have hC := fun σ site => q_cloneS σ site 0 pl X hpl
  have hK := fun σ site own b => q_keptC σ site own b props hl hd
  have hF := fun σ site own => q_findC σ site own props (by omega) hd 2
  generalize pl.map byteV ++ X = R at *
  generalize pl.map byteV = R2 at *
  rw [E_eq (by rfl) cf_note_Of]
  unfold expI
  cases h : findP 2 props with
  | none =>
    rw [h] at hF
    simp -implicitDefEqProofs only [EVS0, EVS1, EVS2, EVS3, EVS4, EVS5, EVS6, EVS7, EVL0, EVL1, ite_tf, ite_ft, ite_tft, ite_ftf, ite_list, ite_tt, ite_ee, ite_nt, ite_ne, eq_self, implies_true, forall_const, exI, nsite, freeAt, execI, Opd.ev, tget, tins, tput, keepL, sitesOf, List.sum_cons, List.sum_nil, Nat.reduceAdd, Nat.reduceSub, Nat.reduceLT, Nat.reduceLeDiff, Nat.reduceEqDiff, Nat.reduceBEq, Nat.reduceMul, beq_self_eq_true, Bool.false_eq_true, ldA, stA, partA, faddrA, setAt, binA, arithA, shiftA, strA, unA, gSpan, gSkip, unG, ne_eq, Option.some.injEq, reduceCtorEq, decide_true, decide_false, elemsA, resA, resAll, resOne, enterA, decide_eq_true_eq, Bool.not_eq_true, Bool.decide_eq_true, ite_self, ↓reduceIte, noRefL, clrA, gcT, gcA, gcIds, reach, rhoOf, heapOf, idxA, genB, newGen, renB, refsB, List.contains_cons, List.range_succ, cb_note_Of, b_note_Of, cr_note_Of, intsV, bytesV, propsV, propV, propC, bytesOf_map, hC, hK, hF, fndV, noProp, reg_some, regC_some, chkA_cons, chkA_nil, pairFree_eq, emptyOp_eq, noWr_eq, List.getD_cons_zero, List.getD_cons_succ, fillA, setAt, AVal.cells]
    simp [outA, gcA, gcIds, reach, refsL, refsV, rhoOf, heapOf, idxA, genB, newGen, renL, renV, renB, refsB, List.range_succ]
  | some x =>
    rw [h] at hF
    simp -implicitDefEqProofs only [EVS0, EVS1, EVS2, EVS3, EVS4, EVS5, EVS6, EVS7, EVL0, EVL1, ite_tf, ite_ft, ite_tft, ite_ftf, ite_list, ite_tt, ite_ee, ite_nt, ite_ne, eq_self, implies_true, forall_const, exI, nsite, freeAt, execI, Opd.ev, tget, tins, tput, keepL, sitesOf, List.sum_cons, List.sum_nil, Nat.reduceAdd, Nat.reduceSub, Nat.reduceLT, Nat.reduceLeDiff, Nat.reduceEqDiff, Nat.reduceBEq, Nat.reduceMul, beq_self_eq_true, Bool.false_eq_true, ldA, stA, partA, faddrA, setAt, binA, arithA, shiftA, strA, unA, gSpan, gSkip, unG, ne_eq, Option.some.injEq, reduceCtorEq, decide_true, decide_false, elemsA, resA, resAll, resOne, enterA, decide_eq_true_eq, Bool.not_eq_true, Bool.decide_eq_true, ite_self, ↓reduceIte, noRefL, clrA, gcT, gcA, gcIds, reach, rhoOf, heapOf, idxA, genB, newGen, renB, refsB, List.contains_cons, List.range_succ, cb_note_Of, b_note_Of, cr_note_Of, intsV, bytesV, propsV, propV, propC, bytesOf_map, hC, hK, hF, fndV, noProp, reg_some, regC_some, chkA_cons, chkA_nil, pairFree_eq, emptyOp_eq, noWr_eq, List.getD_cons_zero, List.getD_cons_succ, fillA, setAt, AVal.cells]
    simp [outA, gcA, gcIds, reach, refsL, refsV, rhoOf, heapOf, idxA, genB, newGen, renL, renV, renB, refsB, List.range_succ]
theorem q_rof (pl : Bytes) (hpl : pl.length ≤ 140737488355328) (qos : Int) (rt : Bool) (props : List PropD) (hl : props.length * 72 ≤ 140737488355328) (topic sender : Bytes) (now : Int) (c0 c1 c4 c5 c7 c8 c10 c11 c12 c13 c14 c15 c16 c17 c18 c19 c20 c21 c22 c23 c24 c25 : AVal) :
    E 30 [.agg [c0, c1, .int .i64 qos, .bool rt, c4, c5, .lst false (pl.map byteV), c7, c8, .lst false (props.map propV), c10, c11, c12, c13, c14, c15, c16, c17, c18, c19, c20, c21, c22, c23, c24, c25], .str topic, .str sender, .int .i64 now] [] =
      some (.agg [.str topic, .sl 0 0 0 pl.length, .int .i64 qos, .bool rt, .str sender, .int .i64 (expI props now), .lst false ((keptL props).map propV), .int .i64 0, .int .i64 0, .int .i64 0], [.row 0 1 (pl.map byteV)]) := by
  have hK := fun σ site own b => q_rkeptC σ site own b props hl
  have hF := fun σ site own => q_rfindC σ site own props (by omega) 2
  have k1 := kOk_bytes pl
  have k2 : pl.length * 1 ≤ 140737488355328 := by omega
  rw [E_eq (by rfl) cf_tidingsref19_Of]
  unfold expI
  cases h : findP 2 props with
  | none =>
    rw [h] at hF
    simp -implicitDefEqProofs only [EVS0, EVS1, EVS2, EVS3, EVS4, EVS5, EVS6, EVS7, EVL0, EVL1, ite_tf, ite_ft, ite_tft, ite_ftf, ite_list, ite_tt, ite_ee, ite_nt, ite_ne, eq_self, implies_true, forall_const, exI, nsite, freeAt, execI, Opd.ev, tget, tins, tput, keepL, sitesOf, List.sum_cons, List.sum_nil, Nat.reduceAdd, Nat.reduceSub, Nat.reduceLT, Nat.reduceLeDiff, Nat.reduceEqDiff, Nat.reduceBEq, Nat.reduceMul, beq_self_eq_true, Bool.false_eq_true, ldA, stA, partA, faddrA, setAt, binA, arithA, shiftA, strA, unA, gSpan, gSkip, unG, ne_eq, Option.some.injEq, reduceCtorEq, decide_true, decide_false, elemsA, resA, resAll, resOne, enterA, decide_eq_true_eq, Bool.not_eq_true, Bool.decide_eq_true, ite_self, ↓reduceIte, noRefL, clrA, gcT, gcA, gcIds, reach, rhoOf, heapOf, idxA, genB, newGen, renB, refsB, List.contains_cons, List.range_succ, cb_tidingsref19_Of, b_tidingsref19_Of, cr_tidingsref19_Of, intsV, bytesV, propsV, propV, propC, bytesOf_map, hK, hF, k1, k2, appA, viewAs, freezeA, List.foldl_nil, fndV, noProp, reg_some, regC_some, chkA_cons, chkA_nil, pairFree_eq, emptyOp_eq, noWr_eq, List.getD_cons_zero, List.getD_cons_succ, fillA, setAt, AVal.cells]
    simp [outA, gcA, gcIds, reach, refsL, refsV, rhoOf, heapOf, idxA, genB, newGen, renL, renV, renB, refsB, List.range_succ]
  | some x =>
    rw [h] at hF
    simp -implicitDefEqProofs only [EVS0, EVS1, EVS2, EVS3, EVS4, EVS5, EVS6, EVS7, EVL0, EVL1, ite_tf, ite_ft, ite_tft, ite_ftf, ite_list, ite_tt, ite_ee, ite_nt, ite_ne, eq_self, implies_true, forall_const, exI, nsite, freeAt, execI, Opd.ev, tget, tins, tput, keepL, sitesOf, List.sum_cons, List.sum_nil, Nat.reduceAdd, Nat.reduceSub, Nat.reduceLT, Nat.reduceLeDiff, Nat.reduceEqDiff, Nat.reduceBEq, Nat.reduceMul, beq_self_eq_true, Bool.false_eq_true, ldA, stA, partA, faddrA, setAt, binA, arithA, shiftA, strA, unA, gSpan, gSkip, unG, ne_eq, Option.some.injEq, reduceCtorEq, decide_true, decide_false, elemsA, resA, resAll, resOne, enterA, decide_eq_true_eq, Bool.not_eq_true, Bool.decide_eq_true, ite_self, ↓reduceIte, noRefL, clrA, gcT, gcA, gcIds, reach, rhoOf, heapOf, idxA, genB, newGen, renB, refsB, List.contains_cons, List.range_succ, cb_tidingsref19_Of, b_tidingsref19_Of, cr_tidingsref19_Of, intsV, bytesV, propsV, propV, propC, bytesOf_map, hK, hF, k1, k2, appA, viewAs, freezeA, List.foldl_nil, fndV, noProp, reg_some, regC_some, chkA_cons, chkA_nil, pairFree_eq, emptyOp_eq, noWr_eq, List.getD_cons_zero, List.getD_cons_succ, fillA, setAt, AVal.cells]
    simp [outA, gcA, gcIds, reach, refsL, refsV, rhoOf, heapOf, idxA, genB, newGen, renL, renV, renB, refsB, List.range_succ]
theorem view_note {t m : Nat} {σ : AHeap} {R : List AVal} (hs : σ[t]? = some (.row 0 1 R)) (hm : m ≤ t) (topic sender : Bytes) (qos : Int) (rt : Bool) (e : Int) (ps : List AVal) : viewR σ (.agg [.str topic, .sl t 0 0 R.length, .int .i64 qos, .bool rt, .str sender, .int .i64 e, .lst false ps, .int .i64 0, .int .i64 0, .int .i64 0]) = some (.agg [.str topic, .lst false R, .int .i64 qos, .bool rt, .str sender, .int .i64 e, .lst false ps, .int .i64 0, .int .i64 0, .int .i64 0], [t]) := by
  simp [viewR, viewA, viewsA, viewA1, elemsA, hs]
theorem q_ofC (σ : AHeap) (site t own : Nat) (pl : Bytes) (X : List AVal) (hpl : pl.length ≤ 140737488355328) (qos : Int) (rt : Bool) (props : List PropD) (hl : props.length * 72 ≤ 140737488355328) (hd : ∀ p ∈ props, p.data.length ≤ 140737488355328) (topic sender : Bytes) (now : Int) (hs : σ[t]? = some (.row 0 1 (pl.map byteV ++ X))) (hff : freeFrom σ site own = true) :
    callG E BY σ site 23 own true [.agg [.int .i64 0, .bool false, .int .i64 qos, .bool rt, .int .i64 0, .str [], .sl t 0 0 pl.length, .int .i64 0, .lst true [], .lst false (props.map propV), .lst true [], .lst true [], .bool false, .int .i64 0, .str [], .bool false, .str [], .lst true [], .int .i64 0, .bool false, .lst true [], .bool false, .str [], .bool false, .lst true [], .bool false], .str topic, .str sender, .int .i64 now] = some (noteV (ofD pl qos rt props topic sender now), σ.set t (.row 0 1 (pl.map byteV ++ X)), { any := true }) := by
  refine call_byrow (args' := [.agg [.int .i64 0, .bool false, .int .i64 qos, .bool rt, .int .i64 0, .str [], .sl 0 0 0 pl.length, .int .i64 0, .lst true [], .lst false (props.map propV), .lst true [], .lst true [], .bool false, .int .i64 0, .str [], .bool false, .str [], .lst true [], .int .i64 0, .bool false, .lst true [], .bool false, .str [], .bool false, .lst true [], .bool false], .str topic, .str sender, .int .i64 now]) hs (by kernel_rfl) hff rfl (fun ρ h => by simp only [renL, renV, h]) (fun ρ => rfl) (Or.inl rfl) ?_
  rw [q_ofR pl X hpl qos rt props hl hd topic sender now]
  unfold askO
  rw [if_pos rfl]
  have hv := view_note (t := 1) (m := 0) (σ := [.row 0 1 (pl.map byteV ++ X), .row 0 1 (pl.map byteV)]) rfl (by omega) topic sender qos rt (expI props now) ((keptL props).map propV)
  rw [List.length_map] at hv
  show (match viewR _ _ with | some (r', ts) => (match gcA 1 [r'] (freezeA _ ts) with | ([r''], σ') => some (r'', σ') | _ => none) | none => none) = _
  rw [hv]
  simp [freezeA, gcA, gcIds, reach, refsL, refsV, renL, renV, heapOf, refsB, newGen, genB, renB, List.range_succ, noteV, noteC, ofD, bytesV, propsV]
theorem q_rofC (σ : AHeap) (site own : Nat) (pl : Bytes) (hpl : pl.length ≤ 140737488355328) (qos : Int) (rt : Bool) (props : List PropD) (hl : props.length * 72 ≤ 140737488355328) (topic sender : Bytes) (now : Int) :
    callG E BY σ site 30 own true [.agg [.int .i64 0, .bool false, .int .i64 qos, .bool rt, .int .i64 0, .str [], .lst false (pl.map byteV), .int .i64 0, .lst true [], .lst false (props.map propV), .lst true [], .lst true [], .bool false, .int .i64 0, .str [], .bool false, .str [], .lst true [], .int .i64 0, .bool false, .lst true [], .bool false, .str [], .bool false, .lst true [], .bool false], .str topic, .str sender, .int .i64 now] = some (noteV (ofD pl qos rt props topic sender now), σ, {}) := by
  have h := q_rof pl hpl qos rt props hl topic sender now (.int .i64 0) (.bool false) (.int .i64 0) (.str []) (.int .i64 0) (.lst false []) (.lst false []) (.lst false []) (.bool false) (.int .i64 0) (.str []) (.bool false) (.str []) (.lst false []) (.int .i64 0) (.bool false) (.lst false []) (.bool false) (.str []) (.bool false) (.lst false []) (.bool false)
  rw [callG_plain (by kernel_rfl) rfl]
  simp only [List.map_cons, List.map_nil, normV, norm1]
  rw [h]
  unfold askO
  rw [if_pos rfl]
  have hv := view_note (t := 0) (m := 0) (σ := [.row 0 1 (pl.map byteV)]) rfl (by omega) topic sender qos rt (expI props now) ((keptL props).map propV)
  rw [List.length_map] at hv
  show backG σ σ [] [] site own (match viewR _ _ with | some (r', ts) => (match gcA 0 [r'] (freezeA _ ts) with | ([r''], σ') => some (r'', σ') | _ => none) | none => none) = _
  rw [hv]
  simp [backG, flatA, flat2, flat1, freezeA, gcA, gcIds, reach, refsL, refsV, renL, renV, heapOf, refsB, newGen, genB, renB, List.range_succ, noteV, noteC, ofD, bytesV, propsV]
end Go.Proofs.YtaaflagbhneakaaDoor
namespace Go.Proofs.YtaaflagbhneakaaDoor
set_option linter.unusedSimpArgs false
set_option linter.unusedVariables false
set_option maxHeartbeats 16000000
set_option maxRecDepth 10000
structure DealD where
  client : Bytes
  clean : Bool
  keep : Int
  expiry : Int
  receive : Int
  maxPacket : Int
  aliasMax : Int
  method : Bytes
  user : Bytes
  hasWill : Bool
  will : NoteD
  willDelay : Int
  willLife : Int
  deriving DecidableEq
def noteZ : NoteD := ⟨[], [], 0, false, [], 0, [], 0, 0, 0⟩
def dealZ : DealD := ⟨[], false, 0, 0, 0, 0, 0, [], [], false, noteZ, 0, 0⟩
def dealV' (b : Bool) (d : DealD) : AVal := .agg [.str d.client, .bool d.clean, .int .i64 d.keep, .int .i64 d.expiry, .int .i64 d.receive, .int .i64 d.maxPacket, .int .i64 d.aliasMax, .str d.method, .str d.user, .bool d.hasWill, .str d.will.topic, .lst b (d.will.payload.map byteV), .int .i64 d.will.qos, .bool d.will.retain, .str d.will.sender, .int .i64 d.will.expires, .lst b (d.will.props.map propV), .int .i64 d.will.origin, .int .i64 d.will.number, .int .i64 d.will.hops, .int .i64 d.willDelay, .int .i64 d.willLife]
def propZ : PropD := ⟨0, 0, [], [], []⟩
theorem fndV_getD (o : Option PropD) : fndV false o = .tup [.agg [.int .i64 (o.getD propZ).id, .int .i64 (o.getD propZ).num, .str (o.getD propZ).text, .str (o.getD propZ).pair, .lst false ((o.getD propZ).data.map byteV)], .bool o.isSome] := by
  cases o <;> rfl
def clientB (p : PacketD) (fresh : Bytes) : Bytes := if p.client == [] then fresh else p.client
def methodB (p : PacketD) : Bytes := ((findP 21 p.props).getD propZ).text
def userB (p : PacketD) : Bytes := match findP 22 p.props with
  | some x => x.data
  | none => if methodB p == [] then p.user else []
def dealOk (p : PacketD) (fresh : Bytes) (now : Int) : DealD := ⟨clientB p fresh, p.clean, p.keep, numP 17 p.props 0, numP 33 p.props 65535, numP 39 p.props 268435460, numP 34 p.props 0, methodB p, userB p, p.hasWill,
  if p.hasWill then ofD p.will.data p.will.qos p.will.retain (p.will.props.filter noExp) p.will.topic (clientB p fresh) now else noteZ, if p.hasWill then numP 24 p.will.props 0 else 0, if p.hasWill then numP 2 p.will.props (-1) else 0⟩
theorem q_numC (σ : AHeap) (site own : Nat) (l : List PropD) (hl : l.length ≤ 9223372036854775807) (hd : ∀ p ∈ l, p.data.length ≤ 140737488355328) (id n : Int) (b : Bool) : callG E BY σ site 19 own true [.lst b (l.map propV), .int .i64 id, .int .i64 n] = some (.int .i64 (numP id l n), σ, {}) :=
  call_norm (q_num l hl hd id n) (by kernel_rfl) rfl rfl rfl (fun _ => rfl) _ _ _
/-- refused, over the packet with the lent row -/
theorem q_refusedS (σ : AHeap) (site own t : Nat) (X : List AVal) (l : List UserD) (hl : l.length ≤ 9223372036854775807) (hd : ∀ u ∈ l, u.secret.length ≤ 140737488355328) (o : Int) (op : Bool) (p : PacketD) (hp : p.props.length ≤ 9223372036854775807) (hpd : ∀ x ∈ p.props, x.data.length ≤ 140737488355328) (hc : p.client.length ≤ 9223372036854775807)
    (hs : σ[t]? = some (.row 0 1 (p.will.data.map byteV ++ X))) : callG E BY σ site 17 own true [.agg [.int .i64 o, .bool op, .lst false (l.map userV)], .agg [.int .i64 p.type, .bool p.dup, .int .i64 p.qos, .bool p.retain, .int .i64 p.id, .str p.topic, .lst false (p.payload.map byteV), .int .i64 p.code, .lst false (p.codes.map (AVal.int .i64)), .lst false (p.props.map propV), .lst false (p.subs.map subV), .lst false (p.filters.map AVal.str), .bool p.clean, .int .i64 p.keep, .str p.client, .bool p.hasWill, .str p.will.topic, .sl t 0 0 p.will.data.length, .int .i64 p.will.qos, .bool p.will.retain, .lst false (p.will.props.map propV), .bool p.hasUser, .str p.user, .bool p.hasPassword, .lst false (p.password.map byteV), .bool p.present]] = some (.int .i64 (refI l op p), σ, { rd := [t] }) := by
  refine call_shown_flat (vs := [.agg [.int .i64 o, .bool op, .lst false (l.map userV)], packV p]) (by kernel_rfl) ?_ rfl rfl (q_refusedG l hl hd o op p hp hpd hc) rfl rfl site own
  have h1 : 0 + p.will.data.length ≤ (p.will.data.map byteV ++ X).length := by simp
  have h2 : (p.will.data.map byteV ++ X).take p.will.data.length = p.will.data.map byteV := by rw [List.take_append_of_le_length (by simp)]; simp [List.take_of_length_le]
  simp only [showAs, showA, showA1, showsA, elemsA, hs, h1, and_self, if_true, List.drop_zero, h2, packV, List.nil_append, List.append_nil]
theorem ff0 (σ : AHeap) (site : Nat) : freeFrom σ site 0 = true := rfl
theorem q_meetR (l : List UserD) (hl : l.length ≤ 9223372036854775807) (hd : ∀ u ∈ l, u.secret.length ≤ 140737488355328) (o : Int) (op : Bool) (p : PacketD) (X : List AVal) (hp : p.props.length ≤ 9223372036854775807) (hpd : ∀ x ∈ p.props, x.data.length ≤ 140737488355328) (hc : p.client.length ≤ 9223372036854775807)
    (hw : p.will.props.length * 72 ≤ 140737488355328) (hwd : ∀ x ∈ p.will.props, x.data.length ≤ 140737488355328) (hpl : p.will.data.length ≤ 140737488355328) (fresh : Bytes) (now : Int) :
    ∃ b, E 9 [.agg [.int .i64 o, .bool op, .lst false (l.map userV)], .agg [.int .i64 p.type, .bool p.dup, .int .i64 p.qos, .bool p.retain, .int .i64 p.id, .str p.topic, .lst false (p.payload.map byteV), .int .i64 p.code, .lst false (p.codes.map (AVal.int .i64)), .lst false (p.props.map propV), .lst false (p.subs.map subV), .lst false (p.filters.map AVal.str), .bool p.clean, .int .i64 p.keep, .str p.client, .bool p.hasWill, .str p.will.topic, .sl 0 0 0 p.will.data.length, .int .i64 p.will.qos, .bool p.will.retain, .lst false (p.will.props.map propV), .bool p.hasUser, .str p.user, .bool p.hasPassword, .lst false (p.password.map byteV), .bool p.present], .str fresh, .int .i64 now] [.row 0 1 (p.will.data.map byteV ++ X)] =
      some (.tup [dealV' b (if refI l op p == 0 then dealOk p fresh now else dealZ), .int .i64 (refI l op p)], [.row 0 1 (p.will.data.map byteV ++ X)]) := by
  have hR := fun σ site own => q_refusedS σ site own 0 X l hl hd o op p hp hpd hc
  have hF := fun σ site own id => q_findC σ site own p.props hp hpd id
  have hF1 := fun σ site own => hF σ site own 21
  have hF2 := fun σ site own => hF σ site own 22
  clear hF
  have hN := fun σ site own id n b => q_numC σ site own p.props hp hpd id n b
  have hNw := fun σ site own id n b => q_numC σ site own p.will.props (by omega) hwd id n b
  have hO := fun σ site t own c => q_ofC σ site t own p.will.data X hpl p.will.qos p.will.retain (p.will.props.filter noExp) (by have := List.length_filter_le noExp p.will.props; omega) (fun x hx => hwd x ((List.mem_filter.1 hx).1)) p.will.topic c now
  have hC := fun σ site hs => call_own (byref := BY) (q_ownP p.will.props hw) rfl rfl σ site hs
  have hD := fun σ site t own => q_delC σ site t own p.will.props (by omega)
  have hlF : ((p.will.props.filter noExp).map propV) = ((p.will.props.filter noExp).map propV) := rfl
  generalize hRR : p.will.data.map byteV ++ X = RR at *
  cases hz : (refI l op p == 0)
  · refine ⟨true, ?_⟩
    have hz' : (refI l op p != 0) = true := by simp only [bne, hz, Bool.not_false]
    rw [E_eq (by rfl) cf_conn_Meet]
    unfold dealV' dealZ noteZ
    simp -implicitDefEqProofs only [EVS0, EVS1, EVS2, EVS3, EVS4, EVS5, EVS6, EVS7, EVL0, EVL1, ite_tf, ite_ft, ite_tft, ite_ftf, ite_list, ite_tt, ite_ee, ite_nt, ite_ne, eq_self, implies_true, forall_const, exI, nsite, freeAt, execI, Opd.ev, tget, tins, tput, keepL, sitesOf, List.sum_cons, List.sum_nil, Nat.reduceAdd, Nat.reduceSub, Nat.reduceLT, Nat.reduceLeDiff, Nat.reduceEqDiff, Nat.reduceBEq, Nat.reduceMul, beq_self_eq_true, Bool.false_eq_true, ldA, stA, partA, faddrA, setAt, binA, arithA, shiftA, strA, unA, gSpan, gSkip, unG, ne_eq, Option.some.injEq, reduceCtorEq, decide_true, decide_false, elemsA, resA, resAll, resOne, enterA, decide_eq_true_eq, Bool.not_eq_true, Bool.decide_eq_true, ite_self, ↓reduceIte, noRefL, clrA, gcT, gcA, gcIds, reach, rhoOf, heapOf, idxA, genB, newGen, renB, refsB, List.contains_cons, List.range_succ, cb_conn_Meet, b_conn_Meet, cr_conn_Meet, intsV, bytesV, propsV, propV, propC, bytesOf_map, hR, hz', fillA, setAt, AVal.cells]
    simp [outA, gcA, gcIds, reach, refsL, refsV, rhoOf, heapOf, idxA, genB, newGen, renL, renV, renB, refsB, List.range_succ]
  · refine ⟨p.hasWill == false, ?_⟩
    have hz' : (refI l op p != 0) = false := by simp only [bne, hz, Bool.not_true]
    have hz0 : refI l op p = 0 := by simpa using hz
    rw [hz0] at hR ⊢
    rw [E_eq (by rfl) cf_conn_Meet]
    have hm : ((findP 21 p.props).getD propZ).text = methodB p := rfl
    rw [fndV_getD] at hF1
    rw [hm] at hF1
    have n0 : ((0 : Int) != 0) = false := rfl
    unfold dealOk clientB userB
    cases h1 : (p.client == []) <;> cases h2 : findP 22 p.props <;> rw [h2] at hF2
    case false.some x =>
      cases h3 : p.hasWill <;> rw [h3] at hR
      · simp -implicitDefEqProofs only [EVS0, EVS1, EVS2, EVS3, EVS4, EVS5, EVS6, EVS7, EVL0, EVL1, ite_tf, ite_ft, ite_tft, ite_ftf, ite_list, ite_tt, ite_ee, ite_nt, ite_ne, eq_self, implies_true, forall_const, exI, nsite, freeAt, execI, Opd.ev, tget, tins, tput, keepL, sitesOf, List.sum_cons, List.sum_nil, Nat.reduceAdd, Nat.reduceSub, Nat.reduceLT, Nat.reduceLeDiff, Nat.reduceEqDiff, Nat.reduceBEq, Nat.reduceMul, beq_self_eq_true, Bool.false_eq_true, ldA, stA, partA, faddrA, setAt, binA, arithA, shiftA, strA, unA, gSpan, gSkip, unG, ne_eq, Option.some.injEq, reduceCtorEq, decide_true, decide_false, elemsA, resA, resAll, resOne, enterA, decide_eq_true_eq, Bool.not_eq_true, Bool.decide_eq_true, ite_self, ↓reduceIte, noRefL, clrA, gcT, gcA, gcIds, reach, rhoOf, heapOf, idxA, genB, newGen, renB, refsB, List.contains_cons, List.range_succ, cb_conn_Meet, b_conn_Meet, cr_conn_Meet, intsV, bytesV, propsV, propV, propC, bytesOf_map, hR, hF1, hF2, hN, hNw, fndV, n0, h1, h2, h3, fillA, setAt, AVal.cells]
        simp [outA, gcA, gcIds, reach, refsL, refsV, rhoOf, heapOf, idxA, genB, newGen, renL, renV, renB, refsB, List.range_succ]
        rfl
      · simp -implicitDefEqProofs only [EVS0, EVS1, EVS2, EVS3, EVS4, EVS5, EVS6, EVS7, EVL0, EVL1, ite_tf, ite_ft, ite_tft, ite_ftf, ite_list, ite_tt, ite_ee, ite_nt, ite_ne, eq_self, implies_true, forall_const, exI, nsite, freeAt, execI, Opd.ev, tget, tins, tput, keepL, sitesOf, List.sum_cons, List.sum_nil, Nat.reduceAdd, Nat.reduceSub, Nat.reduceLT, Nat.reduceLeDiff, Nat.reduceEqDiff, Nat.reduceBEq, Nat.reduceMul, beq_self_eq_true, Bool.false_eq_true, ldA, stA, partA, faddrA, setAt, binA, arithA, shiftA, strA, unA, gSpan, gSkip, unG, ne_eq, Option.some.injEq, reduceCtorEq, decide_true, decide_false, elemsA, resA, resAll, resOne, enterA, decide_eq_true_eq, Bool.not_eq_true, Bool.decide_eq_true, ite_self, ↓reduceIte, noRefL, clrA, gcT, gcA, gcIds, reach, rhoOf, heapOf, idxA, genB, newGen, renB, refsB, List.contains_cons, List.range_succ, cb_conn_Meet, b_conn_Meet, cr_conn_Meet, intsV, bytesV, propsV, propV, propC, bytesOf_map, hR, hF1, hF2, hN, hNw, hO, hC, hD, ff0, fndV, n0, h1, h2, h3, fillA, setAt, AVal.cells, noteV, noteC]
        simp [outA, gcA, gcIds, reach, refsL, refsV, rhoOf, heapOf, idxA, genB, newGen, renL, renV, renB, refsB, List.range_succ]
        rfl
    case true.some x =>
      cases h3 : p.hasWill <;> rw [h3] at hR
      · simp -implicitDefEqProofs only [EVS0, EVS1, EVS2, EVS3, EVS4, EVS5, EVS6, EVS7, EVL0, EVL1, ite_tf, ite_ft, ite_tft, ite_ftf, ite_list, ite_tt, ite_ee, ite_nt, ite_ne, eq_self, implies_true, forall_const, exI, nsite, freeAt, execI, Opd.ev, tget, tins, tput, keepL, sitesOf, List.sum_cons, List.sum_nil, Nat.reduceAdd, Nat.reduceSub, Nat.reduceLT, Nat.reduceLeDiff, Nat.reduceEqDiff, Nat.reduceBEq, Nat.reduceMul, beq_self_eq_true, Bool.false_eq_true, ldA, stA, partA, faddrA, setAt, binA, arithA, shiftA, strA, unA, gSpan, gSkip, unG, ne_eq, Option.some.injEq, reduceCtorEq, decide_true, decide_false, elemsA, resA, resAll, resOne, enterA, decide_eq_true_eq, Bool.not_eq_true, Bool.decide_eq_true, ite_self, ↓reduceIte, noRefL, clrA, gcT, gcA, gcIds, reach, rhoOf, heapOf, idxA, genB, newGen, renB, refsB, List.contains_cons, List.range_succ, cb_conn_Meet, b_conn_Meet, cr_conn_Meet, intsV, bytesV, propsV, propV, propC, bytesOf_map, hR, hF1, hF2, hN, hNw, fndV, n0, h1, h2, h3, fillA, setAt, AVal.cells]
        simp [outA, gcA, gcIds, reach, refsL, refsV, rhoOf, heapOf, idxA, genB, newGen, renL, renV, renB, refsB, List.range_succ]
        rfl
      · simp -implicitDefEqProofs only [EVS0, EVS1, EVS2, EVS3, EVS4, EVS5, EVS6, EVS7, EVL0, EVL1, ite_tf, ite_ft, ite_tft, ite_ftf, ite_list, ite_tt, ite_ee, ite_nt, ite_ne, eq_self, implies_true, forall_const, exI, nsite, freeAt, execI, Opd.ev, tget, tins, tput, keepL, sitesOf, List.sum_cons, List.sum_nil, Nat.reduceAdd, Nat.reduceSub, Nat.reduceLT, Nat.reduceLeDiff, Nat.reduceEqDiff, Nat.reduceBEq, Nat.reduceMul, beq_self_eq_true, Bool.false_eq_true, ldA, stA, partA, faddrA, setAt, binA, arithA, shiftA, strA, unA, gSpan, gSkip, unG, ne_eq, Option.some.injEq, reduceCtorEq, decide_true, decide_false, elemsA, resA, resAll, resOne, enterA, decide_eq_true_eq, Bool.not_eq_true, Bool.decide_eq_true, ite_self, ↓reduceIte, noRefL, clrA, gcT, gcA, gcIds, reach, rhoOf, heapOf, idxA, genB, newGen, renB, refsB, List.contains_cons, List.range_succ, cb_conn_Meet, b_conn_Meet, cr_conn_Meet, intsV, bytesV, propsV, propV, propC, bytesOf_map, hR, hF1, hF2, hN, hNw, hO, hC, hD, ff0, fndV, n0, h1, h2, h3, fillA, setAt, AVal.cells, noteV, noteC]
        simp [outA, gcA, gcIds, reach, refsL, refsV, rhoOf, heapOf, idxA, genB, newGen, renL, renV, renB, refsB, List.range_succ]
        rfl
    case false.none =>
      cases h4 : (methodB p == [])
      all_goals (have h4' : (methodB p != []) = !(methodB p == []) := rfl; rw [h4] at h4'; cases h3 : p.hasWill <;> rw [h3] at hR)
      all_goals (simp -implicitDefEqProofs only [EVS0, EVS1, EVS2, EVS3, EVS4, EVS5, EVS6, EVS7, EVL0, EVL1, ite_tf, ite_ft, ite_tft, ite_ftf, ite_list, ite_tt, ite_ee, ite_nt, ite_ne, eq_self, implies_true, forall_const, exI, nsite, freeAt, execI, Opd.ev, tget, tins, tput, keepL, sitesOf, List.sum_cons, List.sum_nil, Nat.reduceAdd, Nat.reduceSub, Nat.reduceLT, Nat.reduceLeDiff, Nat.reduceEqDiff, Nat.reduceBEq, Nat.reduceMul, beq_self_eq_true, Bool.false_eq_true, ldA, stA, partA, faddrA, setAt, binA, arithA, shiftA, strA, unA, gSpan, gSkip, unG, ne_eq, Option.some.injEq, reduceCtorEq, decide_true, decide_false, elemsA, resA, resAll, resOne, enterA, decide_eq_true_eq, Bool.not_eq_true, Bool.decide_eq_true, ite_self, ↓reduceIte, noRefL, clrA, gcT, gcA, gcIds, reach, rhoOf, heapOf, idxA, genB, newGen, renB, refsB, List.contains_cons, List.range_succ, cb_conn_Meet, b_conn_Meet, cr_conn_Meet, intsV, bytesV, propsV, propV, propC, bytesOf_map, hR, hF1, hF2, hN, hNw, hO, hC, hD, ff0, fndV, noProp, n0, h1, h2, h3, h4, h4', fillA, setAt, AVal.cells, noteV, noteC])
      all_goals (simp [outA, gcA, gcIds, reach, refsL, refsV, rhoOf, heapOf, idxA, genB, newGen, renL, renV, renB, refsB, List.range_succ])
      all_goals rfl
    case true.none =>
      cases h4 : (methodB p == [])
      all_goals (have h4' : (methodB p != []) = !(methodB p == []) := rfl; rw [h4] at h4'; cases h3 : p.hasWill <;> rw [h3] at hR)
      all_goals (simp -implicitDefEqProofs only [EVS0, EVS1, EVS2, EVS3, EVS4, EVS5, EVS6, EVS7, EVL0, EVL1, ite_tf, ite_ft, ite_tft, ite_ftf, ite_list, ite_tt, ite_ee, ite_nt, ite_ne, eq_self, implies_true, forall_const, exI, nsite, freeAt, execI, Opd.ev, tget, tins, tput, keepL, sitesOf, List.sum_cons, List.sum_nil, Nat.reduceAdd, Nat.reduceSub, Nat.reduceLT, Nat.reduceLeDiff, Nat.reduceEqDiff, Nat.reduceBEq, Nat.reduceMul, beq_self_eq_true, Bool.false_eq_true, ldA, stA, partA, faddrA, setAt, binA, arithA, shiftA, strA, unA, gSpan, gSkip, unG, ne_eq, Option.some.injEq, reduceCtorEq, decide_true, decide_false, elemsA, resA, resAll, resOne, enterA, decide_eq_true_eq, Bool.not_eq_true, Bool.decide_eq_true, ite_self, ↓reduceIte, noRefL, clrA, gcT, gcA, gcIds, reach, rhoOf, heapOf, idxA, genB, newGen, renB, refsB, List.contains_cons, List.range_succ, cb_conn_Meet, b_conn_Meet, cr_conn_Meet, intsV, bytesV, propsV, propV, propC, bytesOf_map, hR, hF1, hF2, hN, hNw, hO, hC, hD, ff0, fndV, noProp, n0, h1, h2, h3, h4, h4', fillA, setAt, AVal.cells, noteV, noteC])
      all_goals (simp [outA, gcA, gcIds, reach, refsL, refsV, rhoOf, heapOf, idxA, genB, newGen, renL, renV, renB, refsB, List.range_succ])
      all_goals rfl
end Go.Proofs.YtaaflagbhneakaaDoor
namespace Go.Proofs.YtaaflagbhneakaaDoor
set_option linter.unusedSimpArgs false
set_option linter.unusedVariables false
set_option maxHeartbeats 4000000
set_option maxRecDepth 10000
def nmR (b : Int) : Bool := ((decide (b ≥ 48) && decide (b ≤ 57)) || (decide (b ≥ 65) && decide (b ≤ 90))) || (decide (b ≥ 97) && decide (b ≤ 122))
theorem nm_all : ∀ n : Fin 256, (!((decide (((n.val : Nat) : Int) < 48) || decide (((n.val : Nat) : Int) > 57)) && (decide (IntKind.u8.wrap ((BitVec.ofInt IntKind.u8.bits ((n.val : Nat) : Int) ||| BitVec.ofInt IntKind.u8.bits 32).toNat : Int) < 97) || decide (IntKind.u8.wrap ((BitVec.ofInt IntKind.u8.bits ((n.val : Nat) : Int) ||| BitVec.ofInt IntKind.u8.bits 32).toNat : Int) > 122)))) = nmR ((n.val : Nat) : Int) := by decide +kernel
theorem nm_eq (b : UInt8) : nmB b = nmR b.toNat := nm_all ⟨b.toNat, b.toNat_lt⟩
theorem q_rnamel (s : List UInt8) (hl : s.length ≤ 9223372036854775807) : ∀ (r : List UInt8) (i : Nat), s.drop i = r → K_tidingsref23_Name_l2 0 [(3, .int .i64 i), (0, .str s)] [] = some (.bool (r.all nmB && (decide ((s.length : Int) ≥ 1) && decide ((s.length : Int) ≤ 23))), [])
  | [], i, h => by
    have h1 := drop_nil h
    unfold K_tidingsref23_Name_l2
    rw [evL_eq]
    by_cases h2 : (s.length : Int) ≥ 1
    · simp -implicitDefEqProofs only [EVS0, EVS1, EVS2, EVS3, EVS4, EVS5, EVS6, EVS7, EVL0, EVL1, ite_tf, ite_ft, ite_tft, ite_ftf, ite_list, ite_tt, ite_ee, ite_nt, ite_ne, eq_self, implies_true, forall_const, exI, nsite, freeAt, execI, Opd.ev, tget, tins, tput, keepL, sitesOf, List.sum_cons, List.sum_nil, Nat.reduceAdd, Nat.reduceSub, Nat.reduceLT, Nat.reduceLeDiff, Nat.reduceEqDiff, Nat.reduceBEq, Nat.reduceMul, beq_self_eq_true, Bool.false_eq_true, ldA, stA, partA, faddrA, setAt, binA, arithA, shiftA, strA, unA, gSpan, gSkip, unG, ne_eq, Option.some.injEq, reduceCtorEq, decide_true, decide_false, elemsA, resA, resAll, resOne, enterA, decide_eq_true_eq, Bool.not_eq_true, Bool.decide_eq_true, ite_self, ↓reduceIte, noRefL, clrA, gcT, gcA, gcIds, reach, rhoOf, heapOf, idxA, genB, newGen, renB, refsB, List.contains_cons, List.range_succ, cb_tidingsref23_Name, b_tidingsref23_Name, cr_tidingsref23_Name, x_tidingsref23_Name_k0, x_tidingsref23_Name_l2, intsV, bytesV, propsV, propV, propC, bytesOf_map, h1, h2, List.all_nil]
    · simp -implicitDefEqProofs only [EVS0, EVS1, EVS2, EVS3, EVS4, EVS5, EVS6, EVS7, EVL0, EVL1, ite_tf, ite_ft, ite_tft, ite_ftf, ite_list, ite_tt, ite_ee, ite_nt, ite_ne, eq_self, implies_true, forall_const, exI, nsite, freeAt, execI, Opd.ev, tget, tins, tput, keepL, sitesOf, List.sum_cons, List.sum_nil, Nat.reduceAdd, Nat.reduceSub, Nat.reduceLT, Nat.reduceLeDiff, Nat.reduceEqDiff, Nat.reduceBEq, Nat.reduceMul, beq_self_eq_true, Bool.false_eq_true, ldA, stA, partA, faddrA, setAt, binA, arithA, shiftA, strA, unA, gSpan, gSkip, unG, ne_eq, Option.some.injEq, reduceCtorEq, decide_true, decide_false, elemsA, resA, resAll, resOne, enterA, decide_eq_true_eq, Bool.not_eq_true, Bool.decide_eq_true, ite_self, ↓reduceIte, noRefL, clrA, gcT, gcA, gcIds, reach, rhoOf, heapOf, idxA, genB, newGen, renB, refsB, List.contains_cons, List.range_succ, cb_tidingsref23_Name, b_tidingsref23_Name, cr_tidingsref23_Name, x_tidingsref23_Name_k0, x_tidingsref23_Name_l2, intsV, bytesV, propsV, propV, propC, bytesOf_map, h1, h2, List.all_nil]
  | b :: r, i, h => by
    have ih := q_rnamel s hl r (i + 1) (drop_at h).2.1
    have h1 : (i : Int) < s.length := by have := (drop_at h).2.2; omega
    have h2 := (drop_at h).1
    have e3 := wrap_succ h1 hl
    have i0 : (0 : Int) ≤ (i : Int) := by omega
    unfold K_tidingsref23_Name_l2 at ih ⊢
    rw [evL_eq, List.all_cons, nm_eq]
    unfold nmR
    by_cases c1 : (b.toNat : Int) ≥ 48 <;> by_cases c2 : (b.toNat : Int) ≤ 57 <;> by_cases c3 : (b.toNat : Int) ≥ 65 <;> by_cases c4 : (b.toNat : Int) ≤ 90 <;> by_cases c5 : (b.toNat : Int) ≥ 97 <;> by_cases c6 : (b.toNat : Int) ≤ 122
    all_goals (simp only [c1, c2, c3, c4, c5, c6, decide_true, decide_false, Bool.or_false, Bool.or_true, Bool.true_or, Bool.false_or, Bool.and_true, Bool.and_false, Bool.or_self, Bool.and_self, Bool.true_and, Bool.false_and])
    all_goals (simp -implicitDefEqProofs only [EVS0, EVS1, EVS2, EVS3, EVS4, EVS5, EVS6, EVS7, EVL0, EVL1, ite_tf, ite_ft, ite_tft, ite_ftf, ite_list, ite_tt, ite_ee, ite_nt, ite_ne, eq_self, implies_true, forall_const, exI, nsite, freeAt, execI, Opd.ev, tget, tins, tput, keepL, sitesOf, List.sum_cons, List.sum_nil, Nat.reduceAdd, Nat.reduceSub, Nat.reduceLT, Nat.reduceLeDiff, Nat.reduceEqDiff, Nat.reduceBEq, Nat.reduceMul, beq_self_eq_true, Bool.false_eq_true, ldA, stA, partA, faddrA, setAt, binA, arithA, shiftA, strA, unA, gSpan, gSkip, unG, ne_eq, Option.some.injEq, reduceCtorEq, decide_true, decide_false, elemsA, resA, resAll, resOne, enterA, decide_eq_true_eq, Bool.not_eq_true, Bool.decide_eq_true, ite_self, ↓reduceIte, noRefL, clrA, gcT, gcA, gcIds, reach, rhoOf, heapOf, idxA, genB, newGen, renB, refsB, List.contains_cons, List.range_succ, cb_tidingsref23_Name, b_tidingsref23_Name, cr_tidingsref23_Name, x_tidingsref23_Name_k0, x_tidingsref23_Name_l2, intsV, bytesV, propsV, propV, propC, bytesOf_map, h1, h2, e3, i0, c1, c2, c3, c4, c5, c6, byteV, Int.toNat_natCast])
    all_goals (first | exact ih | rfl)
theorem q_rname23 (s : List UInt8) (hl : s.length ≤ 9223372036854775807) : E 14 [.str s] [] = some (.bool (cnameB s), []) := by
  rw [E_eq (by rfl) cf_tidingsref23_Name]
  have := q_rnamel s hl s 0 rfl
  have z0 : ((0 : Nat) : Int) = 0 := rfl
  rw [z0] at this
  unfold K_tidingsref23_Name_l2 at this
  simp -implicitDefEqProofs only [EVS0, EVS1, EVS2, EVS3, EVS4, EVS5, EVS6, EVS7, EVL0, EVL1, ite_tf, ite_ft, ite_tft, ite_ftf, ite_list, ite_tt, ite_ee, ite_nt, ite_ne, eq_self, implies_true, forall_const, exI, nsite, freeAt, execI, Opd.ev, tget, tins, tput, keepL, sitesOf, List.sum_cons, List.sum_nil, Nat.reduceAdd, Nat.reduceSub, Nat.reduceLT, Nat.reduceLeDiff, Nat.reduceEqDiff, Nat.reduceBEq, Nat.reduceMul, beq_self_eq_true, Bool.false_eq_true, ldA, stA, partA, faddrA, setAt, binA, arithA, shiftA, strA, unA, gSpan, gSkip, unG, ne_eq, Option.some.injEq, reduceCtorEq, decide_true, decide_false, elemsA, resA, resAll, resOne, enterA, decide_eq_true_eq, Bool.not_eq_true, Bool.decide_eq_true, ite_self, ↓reduceIte, noRefL, clrA, gcT, gcA, gcIds, reach, rhoOf, heapOf, idxA, genB, newGen, renB, refsB, List.contains_cons, List.range_succ, cb_tidingsref23_Name, b_tidingsref23_Name, cr_tidingsref23_Name, x_tidingsref23_Name_k0, x_tidingsref23_Name_l2, intsV, bytesV, propsV, propV, propC, bytesOf_map, byteV]
  exact this
theorem q_rname23C (σ : AHeap) (site own : Nat) (s : List UInt8) (hl : s.length ≤ 9223372036854775807) : callG E BY σ site 14 own true [.str s] = some (.bool (cnameB s), σ, {}) :=
  call_norm (q_rname23 s hl) (by kernel_rfl) rfl rfl rfl (fun _ => rfl) _ _ _
end Go.Proofs.YtaaflagbhneakaaDoor
namespace Go.Proofs.YtaaflagbhneakaaDoor
set_option linter.unusedSimpArgs false
set_option linter.unusedVariables false
set_option maxHeartbeats 64000000
set_option maxRecDepth 10000
def rdealOk (p : PacketD) (fresh : Bytes) (now : Int) : DealD := ⟨clientB p fresh, p.clean, p.keep, numP 17 p.props 0, numP 33 p.props 65535, numP 39 p.props 268435460, numP 34 p.props 0, methodB p, userB p, p.hasWill,
  if p.hasWill then ofD p.will.data p.will.qos p.will.retain (keptL p.will.props) p.will.topic (clientB p fresh) now else noteZ, if p.hasWill then numP 24 p.will.props 0 else 0, if p.hasWill then numP 2 p.will.props (-1) else 0⟩
theorem q_rnumC (σ : AHeap) (site own : Nat) (l : List PropD) (hl : l.length ≤ 9223372036854775807) (id n : Int) (b : Bool) : callG E BY σ site 28 own true [.int .i64 id, .lst b (l.map propV), .int .i64 n] = some (.int .i64 (numP id l n), σ, {}) :=
  call_norm (q_rnum l hl id n) (by kernel_rfl) rfl rfl rfl (fun _ => rfl) _ _ _
theorem q_renterC (σ : AHeap) (site own : Nat) (l : List UserD) (hl : l.length ≤ 9223372036854775807) (o : Int) (op : Bool) (p : PacketD) : callG E BY σ site 27 own true [.agg [.int .i64 o, .bool op, .lst false (l.map userV)], .agg [.int .i64 p.type, .bool p.dup, .int .i64 p.qos, .bool p.retain, .int .i64 p.id, .str p.topic, .lst false (p.payload.map byteV), .int .i64 p.code, .lst false (p.codes.map (AVal.int .i64)), .lst false (p.props.map propV), .lst false (p.subs.map subV), .lst false (p.filters.map AVal.str), .bool p.clean, .int .i64 p.keep, .str p.client, .bool p.hasWill, .str p.will.topic, .lst false (p.will.data.map byteV), .int .i64 p.will.qos, .bool p.will.retain, .lst false (p.will.props.map propV), .bool p.hasUser, .str p.user, .bool p.hasPassword, .lst false (p.password.map byteV), .bool p.present]] = some (.int .i64 (enterI l op p), σ, {}) :=
  call_norm (q_renterG l hl o op p) (by kernel_rfl) rfl rfl rfl (fun _ => rfl) _ _ _
theorem dataOf_getD (o : Option PropD) : (o.getD propZ).data = dataOf o := by cases o <;> rfl
theorem secV_isSome (o : Option UserD) : ∃ s, secV false o = .tup [.lst false s, .bool o.isSome] := by cases o <;> exact ⟨_, rfl⟩
theorem enter_eq (l : List UserD) (op : Bool) (p : PacketD) : ∃ e, e = enterI l op p := ⟨_, rfl⟩
theorem q_rmeet (l : List UserD) (hl : l.length ≤ 9223372036854775807) (o : Int) (op : Bool) (p : PacketD) (hp : p.props.length ≤ 9223372036854775807) (hc : p.client.length ≤ 9223372036854775807)
    (hw : p.will.props.length * 72 ≤ 140737488355328) (hpl : p.will.data.length ≤ 140737488355328) (fresh : Bytes) (now : Int) :
    ∃ b, E 10 [.agg [.int .i64 o, .bool op, .lst false (l.map userV)], .agg [.int .i64 p.type, .bool p.dup, .int .i64 p.qos, .bool p.retain, .int .i64 p.id, .str p.topic, .lst false (p.payload.map byteV), .int .i64 p.code, .lst false (p.codes.map (AVal.int .i64)), .lst false (p.props.map propV), .lst false (p.subs.map subV), .lst false (p.filters.map AVal.str), .bool p.clean, .int .i64 p.keep, .str p.client, .bool p.hasWill, .str p.will.topic, .lst false (p.will.data.map byteV), .int .i64 p.will.qos, .bool p.will.retain, .lst false (p.will.props.map propV), .bool p.hasUser, .str p.user, .bool p.hasPassword, .lst false (p.password.map byteV), .bool p.present], .str fresh, .int .i64 now] [] =
      some (.tup [dealV' b (if refI l op p == 0 then rdealOk p fresh now else dealZ), .int .i64 (refI l op p)], []) := by
  have hF := fun σ site own id => q_rfindC σ site own p.props hp id
  have hF1 := fun σ site own => hF σ site own 21
  have hF2 := fun σ site own => hF σ site own 22
  clear hF
  have hN := fun σ site own id n b => q_rnumC σ site own p.props hp id n b
  have hNw := fun σ site own id n b => q_rnumC σ site own p.will.props (by omega) id n b
  have hcn := fun σ site own => q_rname23C σ site own p.client hc
  have hT := fun σ site own => q_rnameC σ site own true p.will.topic
  have hS := fun σ site own => q_rsecC σ site own l hl (dataOf (findP 22 p.props)) o op
  have hE := fun σ site own => q_renterC σ site own l hl o op p
  have hKl : (keptL p.will.props).length * 72 ≤ 140737488355328 := by have := List.length_filter_le (fun x : PropD => [1, 3, 8, 9, 38].contains x.id) p.will.props; unfold keptL onlyL; omega
  have hK := fun σ site own b => q_rkeptC σ site own b p.will.props hw
  have hO := fun σ site own c => q_rofC σ site own p.will.data hpl p.will.qos p.will.retain (keptL p.will.props) hKl p.will.topic c now
  rw [fndV_getD] at hF2
  have hdo : ((findP 22 p.props).getD propZ).data = dataOf (findP 22 p.props) := dataOf_getD _
  rw [hdo] at hF2
  obtain ⟨sv, hsv⟩ := secV_isSome (secP (dataOf (findP 22 p.props)) l)
  rw [hsv] at hS
  have n0 : ((0 : Int) != 0) = false := rfl
  have hne : (p.client != []) = !(p.client == []) := rfl
  refine ⟨!(refI l op p == 0) || !p.hasWill, ?_⟩
  rw [E_eq (by rfl) cf_tidingsref23_Meet]
  unfold refI badClient methI
  rw [hne]
  cases h1 : (p.client == [])
  case false =>
    rw [h1] at hne
    cases h3 : cnameB p.client <;> rw [h3] at hcn
    case false =>
      unfold dealV' dealZ noteZ
      simp -implicitDefEqProofs only [EVS0, EVS1, EVS2, EVS3, EVS4, EVS5, EVS6, EVS7, EVL0, EVL1, ite_tf, ite_ft, ite_tft, ite_ftf, ite_list, ite_tt, ite_ee, ite_nt, ite_ne, eq_self, implies_true, forall_const, exI, nsite, freeAt, execI, Opd.ev, tget, tins, tput, keepL, sitesOf, List.sum_cons, List.sum_nil, Nat.reduceAdd, Nat.reduceSub, Nat.reduceLT, Nat.reduceLeDiff, Nat.reduceEqDiff, Nat.reduceBEq, Nat.reduceMul, beq_self_eq_true, Bool.false_eq_true, ldA, stA, partA, faddrA, setAt, binA, arithA, shiftA, strA, unA, gSpan, gSkip, unG, ne_eq, Option.some.injEq, reduceCtorEq, decide_true, decide_false, elemsA, resA, resAll, resOne, enterA, decide_eq_true_eq, Bool.not_eq_true, Bool.decide_eq_true, ite_self, ↓reduceIte, noRefL, clrA, gcT, gcA, gcIds, reach, rhoOf, heapOf, idxA, genB, newGen, renB, refsB, List.contains_cons, List.range_succ, cb_tidingsref23_Meet, b_tidingsref23_Meet, cr_tidingsref23_Meet, intsV, bytesV, propsV, propV, propC, bytesOf_map, hcn, h1, h3, fillA, setAt, AVal.cells]
      try (simp [outA, gcA, gcIds, reach, refsL, refsV, rhoOf, heapOf, idxA, genB, newGen, renL, renV, renB, refsB, List.range_succ])
    case true =>
      cases h7 : p.hasWill <;> rw [h7] at hE
      case false =>
        cases h5 : findP 21 p.props <;> rw [h5] at hF1
        case none =>
          cases h6 : (findP 22 p.props).isSome <;> rw [h6] at hF2
          case true =>
            unfold dealV' dealZ noteZ
            simp -implicitDefEqProofs only [EVS0, EVS1, EVS2, EVS3, EVS4, EVS5, EVS6, EVS7, EVL0, EVL1, ite_tf, ite_ft, ite_tft, ite_ftf, ite_list, ite_tt, ite_ee, ite_nt, ite_ne, eq_self, implies_true, forall_const, exI, nsite, freeAt, execI, Opd.ev, tget, tins, tput, keepL, sitesOf, List.sum_cons, List.sum_nil, Nat.reduceAdd, Nat.reduceSub, Nat.reduceLT, Nat.reduceLeDiff, Nat.reduceEqDiff, Nat.reduceBEq, Nat.reduceMul, beq_self_eq_true, Bool.false_eq_true, ldA, stA, partA, faddrA, setAt, binA, arithA, shiftA, strA, unA, gSpan, gSkip, unG, ne_eq, Option.some.injEq, reduceCtorEq, decide_true, decide_false, elemsA, resA, resAll, resOne, enterA, decide_eq_true_eq, Bool.not_eq_true, Bool.decide_eq_true, ite_self, ↓reduceIte, noRefL, clrA, gcT, gcA, gcIds, reach, rhoOf, heapOf, idxA, genB, newGen, renB, refsB, List.contains_cons, List.range_succ, cb_tidingsref23_Meet, b_tidingsref23_Meet, cr_tidingsref23_Meet, intsV, bytesV, propsV, propV, propC, bytesOf_map, hcn, h1, h3, hne, h7, hF1, hF2, fndV, noProp, h6, fillA, setAt, AVal.cells]
            try (simp [outA, gcA, gcIds, reach, refsL, refsV, rhoOf, heapOf, idxA, genB, newGen, renL, renV, renB, refsB, List.range_succ])
          case false =>
            have h6n : findP 22 p.props = none := by cases hx : findP 22 p.props with | none => rfl | some x => rw [hx] at h6; cases h6
            have hm : methodB p = [] := by unfold methodB; rw [h5]; rfl
            have hu : userB p = p.user := by unfold userB; rw [h6n, hm]; rfl
            cases hz : (enterI l op p == 0)
            case false =>
              have hz' : (enterI l op p != 0) = true := by simp only [bne, hz, Bool.not_false]
              unfold dealV' dealZ noteZ
              simp -implicitDefEqProofs only [EVS0, EVS1, EVS2, EVS3, EVS4, EVS5, EVS6, EVS7, EVL0, EVL1, ite_tf, ite_ft, ite_tft, ite_ftf, ite_list, ite_tt, ite_ee, ite_nt, ite_ne, eq_self, implies_true, forall_const, exI, nsite, freeAt, execI, Opd.ev, tget, tins, tput, keepL, sitesOf, List.sum_cons, List.sum_nil, Nat.reduceAdd, Nat.reduceSub, Nat.reduceLT, Nat.reduceLeDiff, Nat.reduceEqDiff, Nat.reduceBEq, Nat.reduceMul, beq_self_eq_true, Bool.false_eq_true, ldA, stA, partA, faddrA, setAt, binA, arithA, shiftA, strA, unA, gSpan, gSkip, unG, ne_eq, Option.some.injEq, reduceCtorEq, decide_true, decide_false, elemsA, resA, resAll, resOne, enterA, decide_eq_true_eq, Bool.not_eq_true, Bool.decide_eq_true, ite_self, ↓reduceIte, noRefL, clrA, gcT, gcA, gcIds, reach, rhoOf, heapOf, idxA, genB, newGen, renB, refsB, List.contains_cons, List.range_succ, cb_tidingsref23_Meet, b_tidingsref23_Meet, cr_tidingsref23_Meet, intsV, bytesV, propsV, propV, propC, bytesOf_map, hcn, h1, h3, hne, h7, hF1, hF2, hE, fndV, noProp, h6, hz, hz', fillA, setAt, AVal.cells]
              try (simp [outA, gcA, gcIds, reach, refsL, refsV, rhoOf, heapOf, idxA, genB, newGen, renL, renV, renB, refsB, List.range_succ])
            case true =>
              have hz0 : enterI l op p = 0 := by simpa using hz
              rw [hz0] at hE
              unfold dealV' rdealOk clientB noteZ
              simp -implicitDefEqProofs only [EVS0, EVS1, EVS2, EVS3, EVS4, EVS5, EVS6, EVS7, EVL0, EVL1, ite_tf, ite_ft, ite_tft, ite_ftf, ite_list, ite_tt, ite_ee, ite_nt, ite_ne, eq_self, implies_true, forall_const, exI, nsite, freeAt, execI, Opd.ev, tget, tins, tput, keepL, sitesOf, List.sum_cons, List.sum_nil, Nat.reduceAdd, Nat.reduceSub, Nat.reduceLT, Nat.reduceLeDiff, Nat.reduceEqDiff, Nat.reduceBEq, Nat.reduceMul, beq_self_eq_true, Bool.false_eq_true, ldA, stA, partA, faddrA, setAt, binA, arithA, shiftA, strA, unA, gSpan, gSkip, unG, ne_eq, Option.some.injEq, reduceCtorEq, decide_true, decide_false, elemsA, resA, resAll, resOne, enterA, decide_eq_true_eq, Bool.not_eq_true, Bool.decide_eq_true, ite_self, ↓reduceIte, noRefL, clrA, gcT, gcA, gcIds, reach, rhoOf, heapOf, idxA, genB, newGen, renB, refsB, List.contains_cons, List.range_succ, cb_tidingsref23_Meet, b_tidingsref23_Meet, cr_tidingsref23_Meet, intsV, bytesV, propsV, propV, propC, bytesOf_map, hcn, h1, h3, hne, h7, hF1, hF2, hE, hN, hNw, hK, hO, fndV, noProp, h6, hz0, n0, hm, hu, noteV, noteC, ofD, fillA, setAt, AVal.cells]
              try (simp [outA, gcA, gcIds, reach, refsL, refsV, rhoOf, heapOf, idxA, genB, newGen, renL, renV, renB, refsB, List.range_succ])
        case some m =>
          have hb9 : (m.text != proofL) = !(m.text == proofL) := rfl
          cases h9 : (m.text == proofL)
          all_goals (unfold proofL at h9 hb9; rw [h9] at hb9)
          case false =>
            unfold dealV' dealZ noteZ
            simp -implicitDefEqProofs only [EVS0, EVS1, EVS2, EVS3, EVS4, EVS5, EVS6, EVS7, EVL0, EVL1, ite_tf, ite_ft, ite_tft, ite_ftf, ite_list, ite_tt, ite_ee, ite_nt, ite_ne, eq_self, implies_true, forall_const, exI, nsite, freeAt, execI, Opd.ev, tget, tins, tput, keepL, sitesOf, List.sum_cons, List.sum_nil, Nat.reduceAdd, Nat.reduceSub, Nat.reduceLT, Nat.reduceLeDiff, Nat.reduceEqDiff, Nat.reduceBEq, Nat.reduceMul, beq_self_eq_true, Bool.false_eq_true, ldA, stA, partA, faddrA, setAt, binA, arithA, shiftA, strA, unA, gSpan, gSkip, unG, ne_eq, Option.some.injEq, reduceCtorEq, decide_true, decide_false, elemsA, resA, resAll, resOne, enterA, decide_eq_true_eq, Bool.not_eq_true, Bool.decide_eq_true, ite_self, ↓reduceIte, noRefL, clrA, gcT, gcA, gcIds, reach, rhoOf, heapOf, idxA, genB, newGen, renB, refsB, List.contains_cons, List.range_succ, cb_tidingsref23_Meet, b_tidingsref23_Meet, cr_tidingsref23_Meet, intsV, bytesV, propsV, propV, propC, bytesOf_map, hcn, h1, h3, hne, h7, hF1, hF2, fndV, h9, hb9, proofL, fillA, setAt, AVal.cells]
            try (simp [outA, gcA, gcIds, reach, refsL, refsV, rhoOf, heapOf, idxA, genB, newGen, renL, renV, renB, refsB, List.range_succ])
          case true =>
            have hs1 : (secP (dataOf (findP 22 p.props)) l).isNone = !(secP (dataOf (findP 22 p.props)) l).isSome := by cases secP (dataOf (findP 22 p.props)) l <;> rfl
            cases hs : (secP (dataOf (findP 22 p.props)) l).isSome <;> rw [hs] at hS hs1
            case false =>
              unfold dealV' dealZ noteZ
              simp -implicitDefEqProofs only [EVS0, EVS1, EVS2, EVS3, EVS4, EVS5, EVS6, EVS7, EVL0, EVL1, ite_tf, ite_ft, ite_tft, ite_ftf, ite_list, ite_tt, ite_ee, ite_nt, ite_ne, eq_self, implies_true, forall_const, exI, nsite, freeAt, execI, Opd.ev, tget, tins, tput, keepL, sitesOf, List.sum_cons, List.sum_nil, Nat.reduceAdd, Nat.reduceSub, Nat.reduceLT, Nat.reduceLeDiff, Nat.reduceEqDiff, Nat.reduceBEq, Nat.reduceMul, beq_self_eq_true, Bool.false_eq_true, ldA, stA, partA, faddrA, setAt, binA, arithA, shiftA, strA, unA, gSpan, gSkip, unG, ne_eq, Option.some.injEq, reduceCtorEq, decide_true, decide_false, elemsA, resA, resAll, resOne, enterA, decide_eq_true_eq, Bool.not_eq_true, Bool.decide_eq_true, ite_self, ↓reduceIte, noRefL, clrA, gcT, gcA, gcIds, reach, rhoOf, heapOf, idxA, genB, newGen, renB, refsB, List.contains_cons, List.range_succ, cb_tidingsref23_Meet, b_tidingsref23_Meet, cr_tidingsref23_Meet, intsV, bytesV, propsV, propV, propC, bytesOf_map, hcn, h1, h3, hne, h7, hF1, hF2, hS, fndV, h9, hb9, hs1, proofL, fillA, setAt, AVal.cells]
              try (simp [outA, gcA, gcIds, reach, refsL, refsV, rhoOf, heapOf, idxA, genB, newGen, renL, renV, renB, refsB, List.range_succ])
            case true =>
              have hm : methodB p = m.text := by unfold methodB; rw [h5]; rfl
              have hmp : (m.text == []) = false := by rw [show m.text = [112, 114, 111, 111, 102] by simpa using h9]; rfl
              have hu : userB p = dataOf (findP 22 p.props) := by unfold userB; rw [hm, hmp]; cases findP 22 p.props <;> rfl
              unfold dealV' rdealOk clientB noteZ
              simp -implicitDefEqProofs only [EVS0, EVS1, EVS2, EVS3, EVS4, EVS5, EVS6, EVS7, EVL0, EVL1, ite_tf, ite_ft, ite_tft, ite_ftf, ite_list, ite_tt, ite_ee, ite_nt, ite_ne, eq_self, implies_true, forall_const, exI, nsite, freeAt, execI, Opd.ev, tget, tins, tput, keepL, sitesOf, List.sum_cons, List.sum_nil, Nat.reduceAdd, Nat.reduceSub, Nat.reduceLT, Nat.reduceLeDiff, Nat.reduceEqDiff, Nat.reduceBEq, Nat.reduceMul, beq_self_eq_true, Bool.false_eq_true, ldA, stA, partA, faddrA, setAt, binA, arithA, shiftA, strA, unA, gSpan, gSkip, unG, ne_eq, Option.some.injEq, reduceCtorEq, decide_true, decide_false, elemsA, resA, resAll, resOne, enterA, decide_eq_true_eq, Bool.not_eq_true, Bool.decide_eq_true, ite_self, ↓reduceIte, noRefL, clrA, gcT, gcA, gcIds, reach, rhoOf, heapOf, idxA, genB, newGen, renB, refsB, List.contains_cons, List.range_succ, cb_tidingsref23_Meet, b_tidingsref23_Meet, cr_tidingsref23_Meet, intsV, bytesV, propsV, propV, propC, bytesOf_map, hcn, h1, h3, hne, h7, hF1, hF2, hS, hN, hNw, hK, hO, fndV, h9, hb9, hs1, proofL, n0, hm, hu, noteV, noteC, ofD, fillA, setAt, AVal.cells]
              try (simp [outA, gcA, gcIds, reach, refsL, refsV, rhoOf, heapOf, idxA, genB, newGen, renL, renV, renB, refsB, List.range_succ])
      case true =>
        cases h8 : nameB p.will.topic <;> rw [h8] at hT
        case false =>
          unfold dealV' dealZ noteZ
          simp -implicitDefEqProofs only [EVS0, EVS1, EVS2, EVS3, EVS4, EVS5, EVS6, EVS7, EVL0, EVL1, ite_tf, ite_ft, ite_tft, ite_ftf, ite_list, ite_tt, ite_ee, ite_nt, ite_ne, eq_self, implies_true, forall_const, exI, nsite, freeAt, execI, Opd.ev, tget, tins, tput, keepL, sitesOf, List.sum_cons, List.sum_nil, Nat.reduceAdd, Nat.reduceSub, Nat.reduceLT, Nat.reduceLeDiff, Nat.reduceEqDiff, Nat.reduceBEq, Nat.reduceMul, beq_self_eq_true, Bool.false_eq_true, ldA, stA, partA, faddrA, setAt, binA, arithA, shiftA, strA, unA, gSpan, gSkip, unG, ne_eq, Option.some.injEq, reduceCtorEq, decide_true, decide_false, elemsA, resA, resAll, resOne, enterA, decide_eq_true_eq, Bool.not_eq_true, Bool.decide_eq_true, ite_self, ↓reduceIte, noRefL, clrA, gcT, gcA, gcIds, reach, rhoOf, heapOf, idxA, genB, newGen, renB, refsB, List.contains_cons, List.range_succ, cb_tidingsref23_Meet, b_tidingsref23_Meet, cr_tidingsref23_Meet, intsV, bytesV, propsV, propV, propC, bytesOf_map, hcn, h1, h3, hne, h7, h8, hT, fillA, setAt, AVal.cells]
          try (simp [outA, gcA, gcIds, reach, refsL, refsV, rhoOf, heapOf, idxA, genB, newGen, renL, renV, renB, refsB, List.range_succ])
        case true =>
          cases h5 : findP 21 p.props <;> rw [h5] at hF1
          case none =>
            cases h6 : (findP 22 p.props).isSome <;> rw [h6] at hF2
            case true =>
              unfold dealV' dealZ noteZ
              simp -implicitDefEqProofs only [EVS0, EVS1, EVS2, EVS3, EVS4, EVS5, EVS6, EVS7, EVL0, EVL1, ite_tf, ite_ft, ite_tft, ite_ftf, ite_list, ite_tt, ite_ee, ite_nt, ite_ne, eq_self, implies_true, forall_const, exI, nsite, freeAt, execI, Opd.ev, tget, tins, tput, keepL, sitesOf, List.sum_cons, List.sum_nil, Nat.reduceAdd, Nat.reduceSub, Nat.reduceLT, Nat.reduceLeDiff, Nat.reduceEqDiff, Nat.reduceBEq, Nat.reduceMul, beq_self_eq_true, Bool.false_eq_true, ldA, stA, partA, faddrA, setAt, binA, arithA, shiftA, strA, unA, gSpan, gSkip, unG, ne_eq, Option.some.injEq, reduceCtorEq, decide_true, decide_false, elemsA, resA, resAll, resOne, enterA, decide_eq_true_eq, Bool.not_eq_true, Bool.decide_eq_true, ite_self, ↓reduceIte, noRefL, clrA, gcT, gcA, gcIds, reach, rhoOf, heapOf, idxA, genB, newGen, renB, refsB, List.contains_cons, List.range_succ, cb_tidingsref23_Meet, b_tidingsref23_Meet, cr_tidingsref23_Meet, intsV, bytesV, propsV, propV, propC, bytesOf_map, hcn, h1, h3, hne, h7, h8, hT, hF1, hF2, fndV, noProp, h6, fillA, setAt, AVal.cells]
              try (simp [outA, gcA, gcIds, reach, refsL, refsV, rhoOf, heapOf, idxA, genB, newGen, renL, renV, renB, refsB, List.range_succ])
            case false =>
              have h6n : findP 22 p.props = none := by cases hx : findP 22 p.props with | none => rfl | some x => rw [hx] at h6; cases h6
              have hm : methodB p = [] := by unfold methodB; rw [h5]; rfl
              have hu : userB p = p.user := by unfold userB; rw [h6n, hm]; rfl
              cases hz : (enterI l op p == 0)
              case false =>
                have hz' : (enterI l op p != 0) = true := by simp only [bne, hz, Bool.not_false]
                unfold dealV' dealZ noteZ
                simp -implicitDefEqProofs only [EVS0, EVS1, EVS2, EVS3, EVS4, EVS5, EVS6, EVS7, EVL0, EVL1, ite_tf, ite_ft, ite_tft, ite_ftf, ite_list, ite_tt, ite_ee, ite_nt, ite_ne, eq_self, implies_true, forall_const, exI, nsite, freeAt, execI, Opd.ev, tget, tins, tput, keepL, sitesOf, List.sum_cons, List.sum_nil, Nat.reduceAdd, Nat.reduceSub, Nat.reduceLT, Nat.reduceLeDiff, Nat.reduceEqDiff, Nat.reduceBEq, Nat.reduceMul, beq_self_eq_true, Bool.false_eq_true, ldA, stA, partA, faddrA, setAt, binA, arithA, shiftA, strA, unA, gSpan, gSkip, unG, ne_eq, Option.some.injEq, reduceCtorEq, decide_true, decide_false, elemsA, resA, resAll, resOne, enterA, decide_eq_true_eq, Bool.not_eq_true, Bool.decide_eq_true, ite_self, ↓reduceIte, noRefL, clrA, gcT, gcA, gcIds, reach, rhoOf, heapOf, idxA, genB, newGen, renB, refsB, List.contains_cons, List.range_succ, cb_tidingsref23_Meet, b_tidingsref23_Meet, cr_tidingsref23_Meet, intsV, bytesV, propsV, propV, propC, bytesOf_map, hcn, h1, h3, hne, h7, h8, hT, hF1, hF2, hE, fndV, noProp, h6, hz, hz', fillA, setAt, AVal.cells]
                try (simp [outA, gcA, gcIds, reach, refsL, refsV, rhoOf, heapOf, idxA, genB, newGen, renL, renV, renB, refsB, List.range_succ])
              case true =>
                have hz0 : enterI l op p = 0 := by simpa using hz
                rw [hz0] at hE
                unfold dealV' rdealOk clientB noteZ
                simp -implicitDefEqProofs only [EVS0, EVS1, EVS2, EVS3, EVS4, EVS5, EVS6, EVS7, EVL0, EVL1, ite_tf, ite_ft, ite_tft, ite_ftf, ite_list, ite_tt, ite_ee, ite_nt, ite_ne, eq_self, implies_true, forall_const, exI, nsite, freeAt, execI, Opd.ev, tget, tins, tput, keepL, sitesOf, List.sum_cons, List.sum_nil, Nat.reduceAdd, Nat.reduceSub, Nat.reduceLT, Nat.reduceLeDiff, Nat.reduceEqDiff, Nat.reduceBEq, Nat.reduceMul, beq_self_eq_true, Bool.false_eq_true, ldA, stA, partA, faddrA, setAt, binA, arithA, shiftA, strA, unA, gSpan, gSkip, unG, ne_eq, Option.some.injEq, reduceCtorEq, decide_true, decide_false, elemsA, resA, resAll, resOne, enterA, decide_eq_true_eq, Bool.not_eq_true, Bool.decide_eq_true, ite_self, ↓reduceIte, noRefL, clrA, gcT, gcA, gcIds, reach, rhoOf, heapOf, idxA, genB, newGen, renB, refsB, List.contains_cons, List.range_succ, cb_tidingsref23_Meet, b_tidingsref23_Meet, cr_tidingsref23_Meet, intsV, bytesV, propsV, propV, propC, bytesOf_map, hcn, h1, h3, hne, h7, h8, hT, hF1, hF2, hE, hN, hNw, hK, hO, fndV, noProp, h6, hz0, n0, hm, hu, noteV, noteC, ofD, fillA, setAt, AVal.cells]
                try (simp [outA, gcA, gcIds, reach, refsL, refsV, rhoOf, heapOf, idxA, genB, newGen, renL, renV, renB, refsB, List.range_succ])
          case some m =>
            have hb9 : (m.text != proofL) = !(m.text == proofL) := rfl
            cases h9 : (m.text == proofL)
            all_goals (unfold proofL at h9 hb9; rw [h9] at hb9)
            case false =>
              unfold dealV' dealZ noteZ
              simp -implicitDefEqProofs only [EVS0, EVS1, EVS2, EVS3, EVS4, EVS5, EVS6, EVS7, EVL0, EVL1, ite_tf, ite_ft, ite_tft, ite_ftf, ite_list, ite_tt, ite_ee, ite_nt, ite_ne, eq_self, implies_true, forall_const, exI, nsite, freeAt, execI, Opd.ev, tget, tins, tput, keepL, sitesOf, List.sum_cons, List.sum_nil, Nat.reduceAdd, Nat.reduceSub, Nat.reduceLT, Nat.reduceLeDiff, Nat.reduceEqDiff, Nat.reduceBEq, Nat.reduceMul, beq_self_eq_true, Bool.false_eq_true, ldA, stA, partA, faddrA, setAt, binA, arithA, shiftA, strA, unA, gSpan, gSkip, unG, ne_eq, Option.some.injEq, reduceCtorEq, decide_true, decide_false, elemsA, resA, resAll, resOne, enterA, decide_eq_true_eq, Bool.not_eq_true, Bool.decide_eq_true, ite_self, ↓reduceIte, noRefL, clrA, gcT, gcA, gcIds, reach, rhoOf, heapOf, idxA, genB, newGen, renB, refsB, List.contains_cons, List.range_succ, cb_tidingsref23_Meet, b_tidingsref23_Meet, cr_tidingsref23_Meet, intsV, bytesV, propsV, propV, propC, bytesOf_map, hcn, h1, h3, hne, h7, h8, hT, hF1, hF2, fndV, h9, hb9, proofL, fillA, setAt, AVal.cells]
              try (simp [outA, gcA, gcIds, reach, refsL, refsV, rhoOf, heapOf, idxA, genB, newGen, renL, renV, renB, refsB, List.range_succ])
            case true =>
              have hs1 : (secP (dataOf (findP 22 p.props)) l).isNone = !(secP (dataOf (findP 22 p.props)) l).isSome := by cases secP (dataOf (findP 22 p.props)) l <;> rfl
              cases hs : (secP (dataOf (findP 22 p.props)) l).isSome <;> rw [hs] at hS hs1
              case false =>
                unfold dealV' dealZ noteZ
                simp -implicitDefEqProofs only [EVS0, EVS1, EVS2, EVS3, EVS4, EVS5, EVS6, EVS7, EVL0, EVL1, ite_tf, ite_ft, ite_tft, ite_ftf, ite_list, ite_tt, ite_ee, ite_nt, ite_ne, eq_self, implies_true, forall_const, exI, nsite, freeAt, execI, Opd.ev, tget, tins, tput, keepL, sitesOf, List.sum_cons, List.sum_nil, Nat.reduceAdd, Nat.reduceSub, Nat.reduceLT, Nat.reduceLeDiff, Nat.reduceEqDiff, Nat.reduceBEq, Nat.reduceMul, beq_self_eq_true, Bool.false_eq_true, ldA, stA, partA, faddrA, setAt, binA, arithA, shiftA, strA, unA, gSpan, gSkip, unG, ne_eq, Option.some.injEq, reduceCtorEq, decide_true, decide_false, elemsA, resA, resAll, resOne, enterA, decide_eq_true_eq, Bool.not_eq_true, Bool.decide_eq_true, ite_self, ↓reduceIte, noRefL, clrA, gcT, gcA, gcIds, reach, rhoOf, heapOf, idxA, genB, newGen, renB, refsB, List.contains_cons, List.range_succ, cb_tidingsref23_Meet, b_tidingsref23_Meet, cr_tidingsref23_Meet, intsV, bytesV, propsV, propV, propC, bytesOf_map, hcn, h1, h3, hne, h7, h8, hT, hF1, hF2, hS, fndV, h9, hb9, hs1, proofL, fillA, setAt, AVal.cells]
                try (simp [outA, gcA, gcIds, reach, refsL, refsV, rhoOf, heapOf, idxA, genB, newGen, renL, renV, renB, refsB, List.range_succ])
              case true =>
                have hm : methodB p = m.text := by unfold methodB; rw [h5]; rfl
                have hmp : (m.text == []) = false := by rw [show m.text = [112, 114, 111, 111, 102] by simpa using h9]; rfl
                have hu : userB p = dataOf (findP 22 p.props) := by unfold userB; rw [hm, hmp]; cases findP 22 p.props <;> rfl
                unfold dealV' rdealOk clientB noteZ
                simp -implicitDefEqProofs only [EVS0, EVS1, EVS2, EVS3, EVS4, EVS5, EVS6, EVS7, EVL0, EVL1, ite_tf, ite_ft, ite_tft, ite_ftf, ite_list, ite_tt, ite_ee, ite_nt, ite_ne, eq_self, implies_true, forall_const, exI, nsite, freeAt, execI, Opd.ev, tget, tins, tput, keepL, sitesOf, List.sum_cons, List.sum_nil, Nat.reduceAdd, Nat.reduceSub, Nat.reduceLT, Nat.reduceLeDiff, Nat.reduceEqDiff, Nat.reduceBEq, Nat.reduceMul, beq_self_eq_true, Bool.false_eq_true, ldA, stA, partA, faddrA, setAt, binA, arithA, shiftA, strA, unA, gSpan, gSkip, unG, ne_eq, Option.some.injEq, reduceCtorEq, decide_true, decide_false, elemsA, resA, resAll, resOne, enterA, decide_eq_true_eq, Bool.not_eq_true, Bool.decide_eq_true, ite_self, ↓reduceIte, noRefL, clrA, gcT, gcA, gcIds, reach, rhoOf, heapOf, idxA, genB, newGen, renB, refsB, List.contains_cons, List.range_succ, cb_tidingsref23_Meet, b_tidingsref23_Meet, cr_tidingsref23_Meet, intsV, bytesV, propsV, propV, propC, bytesOf_map, hcn, h1, h3, hne, h7, h8, hT, hF1, hF2, hS, hN, hNw, hK, hO, fndV, h9, hb9, hs1, proofL, n0, hm, hu, noteV, noteC, ofD, fillA, setAt, AVal.cells]
                try (simp [outA, gcA, gcIds, reach, refsL, refsV, rhoOf, heapOf, idxA, genB, newGen, renL, renV, renB, refsB, List.range_succ])
  case true =>
    rw [h1] at hne
    cases h2 : p.clean <;> rw [h2] at hE
    case false =>
      unfold dealV' dealZ noteZ
      simp -implicitDefEqProofs only [EVS0, EVS1, EVS2, EVS3, EVS4, EVS5, EVS6, EVS7, EVL0, EVL1, ite_tf, ite_ft, ite_tft, ite_ftf, ite_list, ite_tt, ite_ee, ite_nt, ite_ne, eq_self, implies_true, forall_const, exI, nsite, freeAt, execI, Opd.ev, tget, tins, tput, keepL, sitesOf, List.sum_cons, List.sum_nil, Nat.reduceAdd, Nat.reduceSub, Nat.reduceLT, Nat.reduceLeDiff, Nat.reduceEqDiff, Nat.reduceBEq, Nat.reduceMul, beq_self_eq_true, Bool.false_eq_true, ldA, stA, partA, faddrA, setAt, binA, arithA, shiftA, strA, unA, gSpan, gSkip, unG, ne_eq, Option.some.injEq, reduceCtorEq, decide_true, decide_false, elemsA, resA, resAll, resOne, enterA, decide_eq_true_eq, Bool.not_eq_true, Bool.decide_eq_true, ite_self, ↓reduceIte, noRefL, clrA, gcT, gcA, gcIds, reach, rhoOf, heapOf, idxA, genB, newGen, renB, refsB, List.contains_cons, List.range_succ, cb_tidingsref23_Meet, b_tidingsref23_Meet, cr_tidingsref23_Meet, intsV, bytesV, propsV, propV, propC, bytesOf_map, h1, h2, hne, fillA, setAt, AVal.cells]
      try (simp [outA, gcA, gcIds, reach, refsL, refsV, rhoOf, heapOf, idxA, genB, newGen, renL, renV, renB, refsB, List.range_succ])
    case true =>
      cases h7 : p.hasWill <;> rw [h7] at hE
      case false =>
        cases h5 : findP 21 p.props <;> rw [h5] at hF1
        case none =>
          cases h6 : (findP 22 p.props).isSome <;> rw [h6] at hF2
          case true =>
            unfold dealV' dealZ noteZ
            simp -implicitDefEqProofs only [EVS0, EVS1, EVS2, EVS3, EVS4, EVS5, EVS6, EVS7, EVL0, EVL1, ite_tf, ite_ft, ite_tft, ite_ftf, ite_list, ite_tt, ite_ee, ite_nt, ite_ne, eq_self, implies_true, forall_const, exI, nsite, freeAt, execI, Opd.ev, tget, tins, tput, keepL, sitesOf, List.sum_cons, List.sum_nil, Nat.reduceAdd, Nat.reduceSub, Nat.reduceLT, Nat.reduceLeDiff, Nat.reduceEqDiff, Nat.reduceBEq, Nat.reduceMul, beq_self_eq_true, Bool.false_eq_true, ldA, stA, partA, faddrA, setAt, binA, arithA, shiftA, strA, unA, gSpan, gSkip, unG, ne_eq, Option.some.injEq, reduceCtorEq, decide_true, decide_false, elemsA, resA, resAll, resOne, enterA, decide_eq_true_eq, Bool.not_eq_true, Bool.decide_eq_true, ite_self, ↓reduceIte, noRefL, clrA, gcT, gcA, gcIds, reach, rhoOf, heapOf, idxA, genB, newGen, renB, refsB, List.contains_cons, List.range_succ, cb_tidingsref23_Meet, b_tidingsref23_Meet, cr_tidingsref23_Meet, intsV, bytesV, propsV, propV, propC, bytesOf_map, h1, h2, hne, h7, hF1, hF2, fndV, noProp, h6, fillA, setAt, AVal.cells]
            try (simp [outA, gcA, gcIds, reach, refsL, refsV, rhoOf, heapOf, idxA, genB, newGen, renL, renV, renB, refsB, List.range_succ])
          case false =>
            have h6n : findP 22 p.props = none := by cases hx : findP 22 p.props with | none => rfl | some x => rw [hx] at h6; cases h6
            have hm : methodB p = [] := by unfold methodB; rw [h5]; rfl
            have hu : userB p = p.user := by unfold userB; rw [h6n, hm]; rfl
            cases hz : (enterI l op p == 0)
            case false =>
              have hz' : (enterI l op p != 0) = true := by simp only [bne, hz, Bool.not_false]
              unfold dealV' dealZ noteZ
              simp -implicitDefEqProofs only [EVS0, EVS1, EVS2, EVS3, EVS4, EVS5, EVS6, EVS7, EVL0, EVL1, ite_tf, ite_ft, ite_tft, ite_ftf, ite_list, ite_tt, ite_ee, ite_nt, ite_ne, eq_self, implies_true, forall_const, exI, nsite, freeAt, execI, Opd.ev, tget, tins, tput, keepL, sitesOf, List.sum_cons, List.sum_nil, Nat.reduceAdd, Nat.reduceSub, Nat.reduceLT, Nat.reduceLeDiff, Nat.reduceEqDiff, Nat.reduceBEq, Nat.reduceMul, beq_self_eq_true, Bool.false_eq_true, ldA, stA, partA, faddrA, setAt, binA, arithA, shiftA, strA, unA, gSpan, gSkip, unG, ne_eq, Option.some.injEq, reduceCtorEq, decide_true, decide_false, elemsA, resA, resAll, resOne, enterA, decide_eq_true_eq, Bool.not_eq_true, Bool.decide_eq_true, ite_self, ↓reduceIte, noRefL, clrA, gcT, gcA, gcIds, reach, rhoOf, heapOf, idxA, genB, newGen, renB, refsB, List.contains_cons, List.range_succ, cb_tidingsref23_Meet, b_tidingsref23_Meet, cr_tidingsref23_Meet, intsV, bytesV, propsV, propV, propC, bytesOf_map, h1, h2, hne, h7, hF1, hF2, hE, fndV, noProp, h6, hz, hz', fillA, setAt, AVal.cells]
              try (simp [outA, gcA, gcIds, reach, refsL, refsV, rhoOf, heapOf, idxA, genB, newGen, renL, renV, renB, refsB, List.range_succ])
            case true =>
              have hz0 : enterI l op p = 0 := by simpa using hz
              rw [hz0] at hE
              unfold dealV' rdealOk clientB noteZ
              simp -implicitDefEqProofs only [EVS0, EVS1, EVS2, EVS3, EVS4, EVS5, EVS6, EVS7, EVL0, EVL1, ite_tf, ite_ft, ite_tft, ite_ftf, ite_list, ite_tt, ite_ee, ite_nt, ite_ne, eq_self, implies_true, forall_const, exI, nsite, freeAt, execI, Opd.ev, tget, tins, tput, keepL, sitesOf, List.sum_cons, List.sum_nil, Nat.reduceAdd, Nat.reduceSub, Nat.reduceLT, Nat.reduceLeDiff, Nat.reduceEqDiff, Nat.reduceBEq, Nat.reduceMul, beq_self_eq_true, Bool.false_eq_true, ldA, stA, partA, faddrA, setAt, binA, arithA, shiftA, strA, unA, gSpan, gSkip, unG, ne_eq, Option.some.injEq, reduceCtorEq, decide_true, decide_false, elemsA, resA, resAll, resOne, enterA, decide_eq_true_eq, Bool.not_eq_true, Bool.decide_eq_true, ite_self, ↓reduceIte, noRefL, clrA, gcT, gcA, gcIds, reach, rhoOf, heapOf, idxA, genB, newGen, renB, refsB, List.contains_cons, List.range_succ, cb_tidingsref23_Meet, b_tidingsref23_Meet, cr_tidingsref23_Meet, intsV, bytesV, propsV, propV, propC, bytesOf_map, h1, h2, hne, h7, hF1, hF2, hE, hN, hNw, hK, hO, fndV, noProp, h6, hz0, n0, hm, hu, noteV, noteC, ofD, fillA, setAt, AVal.cells]
              try (simp [outA, gcA, gcIds, reach, refsL, refsV, rhoOf, heapOf, idxA, genB, newGen, renL, renV, renB, refsB, List.range_succ])
        case some m =>
          have hb9 : (m.text != proofL) = !(m.text == proofL) := rfl
          cases h9 : (m.text == proofL)
          all_goals (unfold proofL at h9 hb9; rw [h9] at hb9)
          case false =>
            unfold dealV' dealZ noteZ
            simp -implicitDefEqProofs only [EVS0, EVS1, EVS2, EVS3, EVS4, EVS5, EVS6, EVS7, EVL0, EVL1, ite_tf, ite_ft, ite_tft, ite_ftf, ite_list, ite_tt, ite_ee, ite_nt, ite_ne, eq_self, implies_true, forall_const, exI, nsite, freeAt, execI, Opd.ev, tget, tins, tput, keepL, sitesOf, List.sum_cons, List.sum_nil, Nat.reduceAdd, Nat.reduceSub, Nat.reduceLT, Nat.reduceLeDiff, Nat.reduceEqDiff, Nat.reduceBEq, Nat.reduceMul, beq_self_eq_true, Bool.false_eq_true, ldA, stA, partA, faddrA, setAt, binA, arithA, shiftA, strA, unA, gSpan, gSkip, unG, ne_eq, Option.some.injEq, reduceCtorEq, decide_true, decide_false, elemsA, resA, resAll, resOne, enterA, decide_eq_true_eq, Bool.not_eq_true, Bool.decide_eq_true, ite_self, ↓reduceIte, noRefL, clrA, gcT, gcA, gcIds, reach, rhoOf, heapOf, idxA, genB, newGen, renB, refsB, List.contains_cons, List.range_succ, cb_tidingsref23_Meet, b_tidingsref23_Meet, cr_tidingsref23_Meet, intsV, bytesV, propsV, propV, propC, bytesOf_map, h1, h2, hne, h7, hF1, hF2, fndV, h9, hb9, proofL, fillA, setAt, AVal.cells]
            try (simp [outA, gcA, gcIds, reach, refsL, refsV, rhoOf, heapOf, idxA, genB, newGen, renL, renV, renB, refsB, List.range_succ])
          case true =>
            have hs1 : (secP (dataOf (findP 22 p.props)) l).isNone = !(secP (dataOf (findP 22 p.props)) l).isSome := by cases secP (dataOf (findP 22 p.props)) l <;> rfl
            cases hs : (secP (dataOf (findP 22 p.props)) l).isSome <;> rw [hs] at hS hs1
            case false =>
              unfold dealV' dealZ noteZ
              simp -implicitDefEqProofs only [EVS0, EVS1, EVS2, EVS3, EVS4, EVS5, EVS6, EVS7, EVL0, EVL1, ite_tf, ite_ft, ite_tft, ite_ftf, ite_list, ite_tt, ite_ee, ite_nt, ite_ne, eq_self, implies_true, forall_const, exI, nsite, freeAt, execI, Opd.ev, tget, tins, tput, keepL, sitesOf, List.sum_cons, List.sum_nil, Nat.reduceAdd, Nat.reduceSub, Nat.reduceLT, Nat.reduceLeDiff, Nat.reduceEqDiff, Nat.reduceBEq, Nat.reduceMul, beq_self_eq_true, Bool.false_eq_true, ldA, stA, partA, faddrA, setAt, binA, arithA, shiftA, strA, unA, gSpan, gSkip, unG, ne_eq, Option.some.injEq, reduceCtorEq, decide_true, decide_false, elemsA, resA, resAll, resOne, enterA, decide_eq_true_eq, Bool.not_eq_true, Bool.decide_eq_true, ite_self, ↓reduceIte, noRefL, clrA, gcT, gcA, gcIds, reach, rhoOf, heapOf, idxA, genB, newGen, renB, refsB, List.contains_cons, List.range_succ, cb_tidingsref23_Meet, b_tidingsref23_Meet, cr_tidingsref23_Meet, intsV, bytesV, propsV, propV, propC, bytesOf_map, h1, h2, hne, h7, hF1, hF2, hS, fndV, h9, hb9, hs1, proofL, fillA, setAt, AVal.cells]
              try (simp [outA, gcA, gcIds, reach, refsL, refsV, rhoOf, heapOf, idxA, genB, newGen, renL, renV, renB, refsB, List.range_succ])
            case true =>
              have hm : methodB p = m.text := by unfold methodB; rw [h5]; rfl
              have hmp : (m.text == []) = false := by rw [show m.text = [112, 114, 111, 111, 102] by simpa using h9]; rfl
              have hu : userB p = dataOf (findP 22 p.props) := by unfold userB; rw [hm, hmp]; cases findP 22 p.props <;> rfl
              unfold dealV' rdealOk clientB noteZ
              simp -implicitDefEqProofs only [EVS0, EVS1, EVS2, EVS3, EVS4, EVS5, EVS6, EVS7, EVL0, EVL1, ite_tf, ite_ft, ite_tft, ite_ftf, ite_list, ite_tt, ite_ee, ite_nt, ite_ne, eq_self, implies_true, forall_const, exI, nsite, freeAt, execI, Opd.ev, tget, tins, tput, keepL, sitesOf, List.sum_cons, List.sum_nil, Nat.reduceAdd, Nat.reduceSub, Nat.reduceLT, Nat.reduceLeDiff, Nat.reduceEqDiff, Nat.reduceBEq, Nat.reduceMul, beq_self_eq_true, Bool.false_eq_true, ldA, stA, partA, faddrA, setAt, binA, arithA, shiftA, strA, unA, gSpan, gSkip, unG, ne_eq, Option.some.injEq, reduceCtorEq, decide_true, decide_false, elemsA, resA, resAll, resOne, enterA, decide_eq_true_eq, Bool.not_eq_true, Bool.decide_eq_true, ite_self, ↓reduceIte, noRefL, clrA, gcT, gcA, gcIds, reach, rhoOf, heapOf, idxA, genB, newGen, renB, refsB, List.contains_cons, List.range_succ, cb_tidingsref23_Meet, b_tidingsref23_Meet, cr_tidingsref23_Meet, intsV, bytesV, propsV, propV, propC, bytesOf_map, h1, h2, hne, h7, hF1, hF2, hS, hN, hNw, hK, hO, fndV, h9, hb9, hs1, proofL, n0, hm, hu, noteV, noteC, ofD, fillA, setAt, AVal.cells]
              try (simp [outA, gcA, gcIds, reach, refsL, refsV, rhoOf, heapOf, idxA, genB, newGen, renL, renV, renB, refsB, List.range_succ])
      case true =>
        cases h8 : nameB p.will.topic <;> rw [h8] at hT
        case false =>
          unfold dealV' dealZ noteZ
          simp -implicitDefEqProofs only [EVS0, EVS1, EVS2, EVS3, EVS4, EVS5, EVS6, EVS7, EVL0, EVL1, ite_tf, ite_ft, ite_tft, ite_ftf, ite_list, ite_tt, ite_ee, ite_nt, ite_ne, eq_self, implies_true, forall_const, exI, nsite, freeAt, execI, Opd.ev, tget, tins, tput, keepL, sitesOf, List.sum_cons, List.sum_nil, Nat.reduceAdd, Nat.reduceSub, Nat.reduceLT, Nat.reduceLeDiff, Nat.reduceEqDiff, Nat.reduceBEq, Nat.reduceMul, beq_self_eq_true, Bool.false_eq_true, ldA, stA, partA, faddrA, setAt, binA, arithA, shiftA, strA, unA, gSpan, gSkip, unG, ne_eq, Option.some.injEq, reduceCtorEq, decide_true, decide_false, elemsA, resA, resAll, resOne, enterA, decide_eq_true_eq, Bool.not_eq_true, Bool.decide_eq_true, ite_self, ↓reduceIte, noRefL, clrA, gcT, gcA, gcIds, reach, rhoOf, heapOf, idxA, genB, newGen, renB, refsB, List.contains_cons, List.range_succ, cb_tidingsref23_Meet, b_tidingsref23_Meet, cr_tidingsref23_Meet, intsV, bytesV, propsV, propV, propC, bytesOf_map, h1, h2, hne, h7, h8, hT, fillA, setAt, AVal.cells]
          try (simp [outA, gcA, gcIds, reach, refsL, refsV, rhoOf, heapOf, idxA, genB, newGen, renL, renV, renB, refsB, List.range_succ])
        case true =>
          cases h5 : findP 21 p.props <;> rw [h5] at hF1
          case none =>
            cases h6 : (findP 22 p.props).isSome <;> rw [h6] at hF2
            case true =>
              unfold dealV' dealZ noteZ
              simp -implicitDefEqProofs only [EVS0, EVS1, EVS2, EVS3, EVS4, EVS5, EVS6, EVS7, EVL0, EVL1, ite_tf, ite_ft, ite_tft, ite_ftf, ite_list, ite_tt, ite_ee, ite_nt, ite_ne, eq_self, implies_true, forall_const, exI, nsite, freeAt, execI, Opd.ev, tget, tins, tput, keepL, sitesOf, List.sum_cons, List.sum_nil, Nat.reduceAdd, Nat.reduceSub, Nat.reduceLT, Nat.reduceLeDiff, Nat.reduceEqDiff, Nat.reduceBEq, Nat.reduceMul, beq_self_eq_true, Bool.false_eq_true, ldA, stA, partA, faddrA, setAt, binA, arithA, shiftA, strA, unA, gSpan, gSkip, unG, ne_eq, Option.some.injEq, reduceCtorEq, decide_true, decide_false, elemsA, resA, resAll, resOne, enterA, decide_eq_true_eq, Bool.not_eq_true, Bool.decide_eq_true, ite_self, ↓reduceIte, noRefL, clrA, gcT, gcA, gcIds, reach, rhoOf, heapOf, idxA, genB, newGen, renB, refsB, List.contains_cons, List.range_succ, cb_tidingsref23_Meet, b_tidingsref23_Meet, cr_tidingsref23_Meet, intsV, bytesV, propsV, propV, propC, bytesOf_map, h1, h2, hne, h7, h8, hT, hF1, hF2, fndV, noProp, h6, fillA, setAt, AVal.cells]
              try (simp [outA, gcA, gcIds, reach, refsL, refsV, rhoOf, heapOf, idxA, genB, newGen, renL, renV, renB, refsB, List.range_succ])
            case false =>
              have h6n : findP 22 p.props = none := by cases hx : findP 22 p.props with | none => rfl | some x => rw [hx] at h6; cases h6
              have hm : methodB p = [] := by unfold methodB; rw [h5]; rfl
              have hu : userB p = p.user := by unfold userB; rw [h6n, hm]; rfl
              cases hz : (enterI l op p == 0)
              case false =>
                have hz' : (enterI l op p != 0) = true := by simp only [bne, hz, Bool.not_false]
                unfold dealV' dealZ noteZ
                simp -implicitDefEqProofs only [EVS0, EVS1, EVS2, EVS3, EVS4, EVS5, EVS6, EVS7, EVL0, EVL1, ite_tf, ite_ft, ite_tft, ite_ftf, ite_list, ite_tt, ite_ee, ite_nt, ite_ne, eq_self, implies_true, forall_const, exI, nsite, freeAt, execI, Opd.ev, tget, tins, tput, keepL, sitesOf, List.sum_cons, List.sum_nil, Nat.reduceAdd, Nat.reduceSub, Nat.reduceLT, Nat.reduceLeDiff, Nat.reduceEqDiff, Nat.reduceBEq, Nat.reduceMul, beq_self_eq_true, Bool.false_eq_true, ldA, stA, partA, faddrA, setAt, binA, arithA, shiftA, strA, unA, gSpan, gSkip, unG, ne_eq, Option.some.injEq, reduceCtorEq, decide_true, decide_false, elemsA, resA, resAll, resOne, enterA, decide_eq_true_eq, Bool.not_eq_true, Bool.decide_eq_true, ite_self, ↓reduceIte, noRefL, clrA, gcT, gcA, gcIds, reach, rhoOf, heapOf, idxA, genB, newGen, renB, refsB, List.contains_cons, List.range_succ, cb_tidingsref23_Meet, b_tidingsref23_Meet, cr_tidingsref23_Meet, intsV, bytesV, propsV, propV, propC, bytesOf_map, h1, h2, hne, h7, h8, hT, hF1, hF2, hE, fndV, noProp, h6, hz, hz', fillA, setAt, AVal.cells]
                try (simp [outA, gcA, gcIds, reach, refsL, refsV, rhoOf, heapOf, idxA, genB, newGen, renL, renV, renB, refsB, List.range_succ])
              case true =>
                have hz0 : enterI l op p = 0 := by simpa using hz
                rw [hz0] at hE
                unfold dealV' rdealOk clientB noteZ
                simp -implicitDefEqProofs only [EVS0, EVS1, EVS2, EVS3, EVS4, EVS5, EVS6, EVS7, EVL0, EVL1, ite_tf, ite_ft, ite_tft, ite_ftf, ite_list, ite_tt, ite_ee, ite_nt, ite_ne, eq_self, implies_true, forall_const, exI, nsite, freeAt, execI, Opd.ev, tget, tins, tput, keepL, sitesOf, List.sum_cons, List.sum_nil, Nat.reduceAdd, Nat.reduceSub, Nat.reduceLT, Nat.reduceLeDiff, Nat.reduceEqDiff, Nat.reduceBEq, Nat.reduceMul, beq_self_eq_true, Bool.false_eq_true, ldA, stA, partA, faddrA, setAt, binA, arithA, shiftA, strA, unA, gSpan, gSkip, unG, ne_eq, Option.some.injEq, reduceCtorEq, decide_true, decide_false, elemsA, resA, resAll, resOne, enterA, decide_eq_true_eq, Bool.not_eq_true, Bool.decide_eq_true, ite_self, ↓reduceIte, noRefL, clrA, gcT, gcA, gcIds, reach, rhoOf, heapOf, idxA, genB, newGen, renB, refsB, List.contains_cons, List.range_succ, cb_tidingsref23_Meet, b_tidingsref23_Meet, cr_tidingsref23_Meet, intsV, bytesV, propsV, propV, propC, bytesOf_map, h1, h2, hne, h7, h8, hT, hF1, hF2, hE, hN, hNw, hK, hO, fndV, noProp, h6, hz0, n0, hm, hu, noteV, noteC, ofD, fillA, setAt, AVal.cells]
                try (simp [outA, gcA, gcIds, reach, refsL, refsV, rhoOf, heapOf, idxA, genB, newGen, renL, renV, renB, refsB, List.range_succ])
          case some m =>
            have hb9 : (m.text != proofL) = !(m.text == proofL) := rfl
            cases h9 : (m.text == proofL)
            all_goals (unfold proofL at h9 hb9; rw [h9] at hb9)
            case false =>
              unfold dealV' dealZ noteZ
              simp -implicitDefEqProofs only [EVS0, EVS1, EVS2, EVS3, EVS4, EVS5, EVS6, EVS7, EVL0, EVL1, ite_tf, ite_ft, ite_tft, ite_ftf, ite_list, ite_tt, ite_ee, ite_nt, ite_ne, eq_self, implies_true, forall_const, exI, nsite, freeAt, execI, Opd.ev, tget, tins, tput, keepL, sitesOf, List.sum_cons, List.sum_nil, Nat.reduceAdd, Nat.reduceSub, Nat.reduceLT, Nat.reduceLeDiff, Nat.reduceEqDiff, Nat.reduceBEq, Nat.reduceMul, beq_self_eq_true, Bool.false_eq_true, ldA, stA, partA, faddrA, setAt, binA, arithA, shiftA, strA, unA, gSpan, gSkip, unG, ne_eq, Option.some.injEq, reduceCtorEq, decide_true, decide_false, elemsA, resA, resAll, resOne, enterA, decide_eq_true_eq, Bool.not_eq_true, Bool.decide_eq_true, ite_self, ↓reduceIte, noRefL, clrA, gcT, gcA, gcIds, reach, rhoOf, heapOf, idxA, genB, newGen, renB, refsB, List.contains_cons, List.range_succ, cb_tidingsref23_Meet, b_tidingsref23_Meet, cr_tidingsref23_Meet, intsV, bytesV, propsV, propV, propC, bytesOf_map, h1, h2, hne, h7, h8, hT, hF1, hF2, fndV, h9, hb9, proofL, fillA, setAt, AVal.cells]
              try (simp [outA, gcA, gcIds, reach, refsL, refsV, rhoOf, heapOf, idxA, genB, newGen, renL, renV, renB, refsB, List.range_succ])
            case true =>
              have hs1 : (secP (dataOf (findP 22 p.props)) l).isNone = !(secP (dataOf (findP 22 p.props)) l).isSome := by cases secP (dataOf (findP 22 p.props)) l <;> rfl
              cases hs : (secP (dataOf (findP 22 p.props)) l).isSome <;> rw [hs] at hS hs1
              case false =>
                unfold dealV' dealZ noteZ
                simp -implicitDefEqProofs only [EVS0, EVS1, EVS2, EVS3, EVS4, EVS5, EVS6, EVS7, EVL0, EVL1, ite_tf, ite_ft, ite_tft, ite_ftf, ite_list, ite_tt, ite_ee, ite_nt, ite_ne, eq_self, implies_true, forall_const, exI, nsite, freeAt, execI, Opd.ev, tget, tins, tput, keepL, sitesOf, List.sum_cons, List.sum_nil, Nat.reduceAdd, Nat.reduceSub, Nat.reduceLT, Nat.reduceLeDiff, Nat.reduceEqDiff, Nat.reduceBEq, Nat.reduceMul, beq_self_eq_true, Bool.false_eq_true, ldA, stA, partA, faddrA, setAt, binA, arithA, shiftA, strA, unA, gSpan, gSkip, unG, ne_eq, Option.some.injEq, reduceCtorEq, decide_true, decide_false, elemsA, resA, resAll, resOne, enterA, decide_eq_true_eq, Bool.not_eq_true, Bool.decide_eq_true, ite_self, ↓reduceIte, noRefL, clrA, gcT, gcA, gcIds, reach, rhoOf, heapOf, idxA, genB, newGen, renB, refsB, List.contains_cons, List.range_succ, cb_tidingsref23_Meet, b_tidingsref23_Meet, cr_tidingsref23_Meet, intsV, bytesV, propsV, propV, propC, bytesOf_map, h1, h2, hne, h7, h8, hT, hF1, hF2, hS, fndV, h9, hb9, hs1, proofL, fillA, setAt, AVal.cells]
                try (simp [outA, gcA, gcIds, reach, refsL, refsV, rhoOf, heapOf, idxA, genB, newGen, renL, renV, renB, refsB, List.range_succ])
              case true =>
                have hm : methodB p = m.text := by unfold methodB; rw [h5]; rfl
                have hmp : (m.text == []) = false := by rw [show m.text = [112, 114, 111, 111, 102] by simpa using h9]; rfl
                have hu : userB p = dataOf (findP 22 p.props) := by unfold userB; rw [hm, hmp]; cases findP 22 p.props <;> rfl
                unfold dealV' rdealOk clientB noteZ
                simp -implicitDefEqProofs only [EVS0, EVS1, EVS2, EVS3, EVS4, EVS5, EVS6, EVS7, EVL0, EVL1, ite_tf, ite_ft, ite_tft, ite_ftf, ite_list, ite_tt, ite_ee, ite_nt, ite_ne, eq_self, implies_true, forall_const, exI, nsite, freeAt, execI, Opd.ev, tget, tins, tput, keepL, sitesOf, List.sum_cons, List.sum_nil, Nat.reduceAdd, Nat.reduceSub, Nat.reduceLT, Nat.reduceLeDiff, Nat.reduceEqDiff, Nat.reduceBEq, Nat.reduceMul, beq_self_eq_true, Bool.false_eq_true, ldA, stA, partA, faddrA, setAt, binA, arithA, shiftA, strA, unA, gSpan, gSkip, unG, ne_eq, Option.some.injEq, reduceCtorEq, decide_true, decide_false, elemsA, resA, resAll, resOne, enterA, decide_eq_true_eq, Bool.not_eq_true, Bool.decide_eq_true, ite_self, ↓reduceIte, noRefL, clrA, gcT, gcA, gcIds, reach, rhoOf, heapOf, idxA, genB, newGen, renB, refsB, List.contains_cons, List.range_succ, cb_tidingsref23_Meet, b_tidingsref23_Meet, cr_tidingsref23_Meet, intsV, bytesV, propsV, propV, propC, bytesOf_map, h1, h2, hne, h7, h8, hT, hF1, hF2, hS, hN, hNw, hK, hO, fndV, h9, hb9, hs1, proofL, n0, hm, hu, noteV, noteC, ofD, fillA, setAt, AVal.cells]
                try (simp [outA, gcA, gcIds, reach, refsL, refsV, rhoOf, heapOf, idxA, genB, newGen, renL, renV, renB, refsB, List.range_succ])
end Go.Proofs.YtaaflagbhneakaaDoor
namespace Go.Proofs.YtaaflagbhneakaaDoor
set_option linter.unusedSimpArgs false
set_option linter.unusedVariables false
def b_tidingslaw12_Cut : ACode := (.seq (.region [⟨(some 1), (.box (.t 0)), none, []⟩, ⟨(some 2), (.alloc [(.int .i64 0), (.bool false), (.int .i64 0), (.bool false), (.int .i64 0), (.str []), (.lst true []), (.int .i64 0), (.lst true []), (.lst true []), (.lst true []), (.lst true []), (.bool false), (.int .i64 0), (.str []), (.bool false), (.str []), (.lst true []), (.int .i64 0), (.bool false), (.lst true []), (.bool false), (.str []), (.bool false), (.lst true []), (.bool false)]), none, []⟩] none [2, 1]) (.seq (.seq (.region [⟨(some 3), (.faddr 10 (.t 1)), none, []⟩, ⟨(some 4), (.ld none (.t 3)), none, []⟩, ⟨(some 5), (.len (.t 4)), none, []⟩, ⟨(some 6), (.bin .gtr (.t 5) (.c (.int .i64 8))), none, []⟩] none [6, 2, 1]) (.cond (.t 6) (.region [⟨(some 7), (.faddr 10 (.t 1)), none, []⟩, ⟨(some 8), (.ld none (.t 7)), none, []⟩, ⟨(some 9), (.slice 6 (.t 8) none (some (.c (.int .i64 8))) none), none, []⟩, ⟨(some 10), (.faddr 10 (.t 1)), none, []⟩, ⟨none, (.st 1 (.t 10) (.t 9)), none, []⟩] none [2, 1]) .skip)) (.seq (.seq (.region [⟨(some 11), (.faddr 11 (.t 1)), none, []⟩, ⟨(some 12), (.ld none (.t 11)), none, []⟩, ⟨(some 13), (.len (.t 12)), none, []⟩, ⟨(some 14), (.bin .gtr (.t 13) (.c (.int .i64 8))), none, []⟩] none [14, 2, 1]) (.cond (.t 14) (.region [⟨(some 15), (.faddr 11 (.t 1)), none, []⟩, ⟨(some 16), (.ld none (.t 15)), none, []⟩, ⟨(some 17), (.slice 1 (.t 16) none (some (.c (.int .i64 8))) none), none, []⟩, ⟨(some 18), (.faddr 11 (.t 1)), none, []⟩, ⟨none, (.st 1 (.t 18) (.t 17)), none, []⟩] none [2, 1]) .skip)) (.seq (.seq (.region [⟨(some 19), (.faddr 8 (.t 1)), none, []⟩, ⟨(some 20), (.ld none (.t 19)), none, []⟩, ⟨(some 21), (.len (.t 20)), none, []⟩, ⟨(some 22), (.bin .gtr (.t 21) (.c (.int .i64 8))), none, []⟩] none [22, 2, 1]) (.cond (.t 22) (.region [⟨(some 23), (.faddr 8 (.t 1)), none, []⟩, ⟨(some 24), (.ld none (.t 23)), none, []⟩, ⟨(some 25), (.slice 1 (.t 24) none (some (.c (.int .i64 8))) none), none, []⟩, ⟨(some 26), (.faddr 8 (.t 1)), none, []⟩, ⟨none, (.st 1 (.t 26) (.t 25)), none, []⟩] none [2, 1]) .skip)) (.seq (.seq (.region [⟨(some 27), (.faddr 9 (.t 1)), none, []⟩, ⟨(some 28), (.ld none (.t 27)), none, []⟩, ⟨(some 29), (.len (.t 28)), none, []⟩, ⟨(some 30), (.bin .gtr (.t 29) (.c (.int .i64 12))), none, []⟩] none [30, 2, 1]) (.cond (.t 30) (.region [⟨(some 31), (.faddr 9 (.t 1)), none, []⟩, ⟨(some 32), (.ld none (.t 31)), none, []⟩, ⟨(some 33), (.slice 5 (.t 32) none (some (.c (.int .i64 12))) none), none, []⟩, ⟨(some 34), (.faddr 9 (.t 1)), none, []⟩, ⟨none, (.st 1 (.t 34) (.t 33)), none, []⟩] none [2, 1]) .skip)) (.seq (.seq (.region [⟨(some 35), (.faddr 16 (.t 1)), none, []⟩, ⟨(some 36), (.faddr 4 (.t 35)), none, []⟩, ⟨(some 37), (.ld none (.t 36)), none, []⟩, ⟨(some 38), (.len (.t 37)), none, []⟩, ⟨(some 39), (.bin .gtr (.t 38) (.c (.int .i64 12))), none, []⟩] none [39, 2, 1]) (.cond (.t 39) (.region [⟨(some 40), (.faddr 16 (.t 1)), none, []⟩, ⟨(some 41), (.faddr 4 (.t 40)), none, []⟩, ⟨(some 42), (.ld none (.t 41)), none, []⟩, ⟨(some 43), (.slice 5 (.t 42) none (some (.c (.int .i64 12))) none), none, []⟩, ⟨(some 44), (.faddr 16 (.t 1)), none, []⟩, ⟨(some 45), (.faddr 4 (.t 44)), none, []⟩, ⟨none, (.st 1 (.t 45) (.t 43)), none, []⟩] none [2, 1]) .skip)) (.seq (.region [⟨(some 46), (.faddr 6 (.t 1)), none, []⟩, ⟨(some 47), (.ld none (.t 46)), none, []⟩, ⟨(some 48), (.call 16 0 true [(.t 47), (.c (.int .i64 600))]), none, []⟩, ⟨(some 49), (.faddr 24 (.t 1)), none, []⟩, ⟨(some 50), (.ld none (.t 49)), none, []⟩, ⟨(some 51), (.call 16 0 true [(.t 50), (.c (.int .i64 100))]), none, []⟩, ⟨(some 52), (.faddr 16 (.t 1)), none, []⟩, ⟨(some 53), (.faddr 1 (.t 52)), none, []⟩, ⟨(some 54), (.ld none (.t 53)), none, []⟩, ⟨(some 55), (.call 16 0 true [(.t 54), (.c (.int .i64 100))]), none, []⟩, ⟨(some 56), (.faddr 6 (.t 1)), none, []⟩, ⟨none, (.st 1 (.t 56) (.t 48)), none, []⟩, ⟨(some 57), (.faddr 24 (.t 1)), none, []⟩, ⟨none, (.st 1 (.t 57) (.t 51)), none, []⟩, ⟨(some 58), (.faddr 16 (.t 1)), none, []⟩, ⟨(some 59), (.faddr 1 (.t 58)), none, []⟩, ⟨none, (.st 1 (.t 59) (.t 55)), none, []⟩] (some [(1, 4), (2, 4), (1, 8), (2, 8), (4, 8), (5, 8)]) [2, 1]) (.seq (.region [⟨(some 60), (.ld (some 26) (.t 1)), none, []⟩, ⟨none, (.st 26 (.t 2) (.t 60)), none, []⟩] none [2]) .ret))))))))
def c_tidingslaw12_Cut : AFunc := ⟨[(.cell 2 (some 26))], b_tidingslaw12_Cut⟩
theorem cf_tidingslaw12_Cut : FC 5 = some c_tidingslaw12_Cut := by kernel_rfl
theorem cb_tidingslaw12_Cut : c_tidingslaw12_Cut.body = b_tidingslaw12_Cut := rfl
theorem cr_tidingslaw12_Cut : c_tidingslaw12_Cut.res = [(.cell 2 (some 26))] := rfl
end Go.Proofs.YtaaflagbhneakaaDoor
namespace Go.Proofs.YtaaflagbhneakaaDoor
set_option linter.unusedSimpArgs false
set_option linter.unusedVariables false
set_option maxHeartbeats 16000000
set_option maxRecDepth 10000
def dsameB (a b : DealD) : Bool := a.client == b.client && a.clean == b.clean && a.keep == b.keep && a.expiry == b.expiry && a.receive == b.receive && a.maxPacket == b.maxPacket && a.aliasMax == b.aliasMax && a.method == b.method && a.user == b.user && a.hasWill == b.hasWill && nsameB a.will b.will && a.willDelay == b.willDelay && a.willLife == b.willLife
theorem dsame_self (a : DealD) : dsameB a a = true := by simp [dsameB, nsameB]
theorem q_dsame (a b : DealD) (hl : a.will.props.length ≤ 9223372036854775807) : E 12 [dealV' false a, dealV' false b] [] = some (.bool (dsameB a b), []) := by
  rw [E_eq (by rfl) cf_tidingsref23_Same]
  simp -implicitDefEqProofs only [EVS0, EVS1, EVS2, EVS3, EVS4, EVS5, EVS6, EVS7, EVL0, EVL1, ite_tf, ite_ft, ite_tft, ite_ftf, ite_list, ite_tt, ite_ee, ite_nt, ite_ne, eq_self, implies_true, forall_const, exI, nsite, freeAt, execI, Opd.ev, tget, tins, tput, keepL, sitesOf, List.sum_cons, List.sum_nil, Nat.reduceAdd, Nat.reduceSub, Nat.reduceLT, Nat.reduceLeDiff, Nat.reduceEqDiff, Nat.reduceBEq, Nat.reduceMul, beq_self_eq_true, Bool.false_eq_true, ldA, stA, partA, faddrA, setAt, binA, arithA, shiftA, strA, unA, gSpan, gSkip, unG, ne_eq, Option.some.injEq, reduceCtorEq, decide_true, decide_false, elemsA, resA, resAll, resOne, enterA, decide_eq_true_eq, Bool.not_eq_true, Bool.decide_eq_true, ite_self, ↓reduceIte, noRefL, clrA, gcT, gcA, gcIds, reach, rhoOf, heapOf, idxA, genB, newGen, renB, refsB, List.contains_cons, List.range_succ, cb_tidingsref23_Same, b_tidingsref23_Same, cr_tidingsref23_Same, intsV, bytesV, propsV, propV, propC, bytesOf_map, dealV', q_rnsameC, hl, dsameB]
theorem cut8' {α : Type} (l : List α) : ((8 : Int) < l.length ∧ (8 : Int) ≤ l.length) ∨ (¬ (8 : Int) < l.length ∧ l.take 8 = l) := by
  by_cases h : (8 : Int) < l.length
  · exact Or.inl ⟨h, by omega⟩
  · exact Or.inr ⟨h, List.take_of_length_le (by omega)⟩
theorem cut12 {α : Type} (l : List α) : ((12 : Int) < l.length ∧ (12 : Int) ≤ l.length) ∨ (¬ (12 : Int) < l.length ∧ l.take 12 = l) := by
  by_cases h : (12 : Int) < l.length
  · exact Or.inl ⟨h, by omega⟩
  · exact Or.inr ⟨h, List.take_of_length_le (by omega)⟩
theorem q_users (op : Bool) (l : List UserD) : E 6 [.bool op, .lst false (l.map userV)] [] = some (.agg [.int .i64 1, .bool op, .lst false ((l.take 8).map userV)], []) := by
  rw [E_eq (by rfl) cf_tidingslaw23_users]
  rcases cut8' l with ⟨h1, h2⟩ | ⟨h1, h2⟩
  · simp -implicitDefEqProofs only [EVS0, EVS1, EVS2, EVS3, EVS4, EVS5, EVS6, EVS7, EVL0, EVL1, ite_tf, ite_ft, ite_tft, ite_ftf, ite_list, ite_tt, ite_ee, ite_nt, ite_ne, eq_self, implies_true, forall_const, exI, nsite, freeAt, execI, Opd.ev, tget, tins, tput, keepL, sitesOf, List.sum_cons, List.sum_nil, Nat.reduceAdd, Nat.reduceSub, Nat.reduceLT, Nat.reduceLeDiff, Nat.reduceEqDiff, Nat.reduceBEq, Nat.reduceMul, beq_self_eq_true, Bool.false_eq_true, ldA, stA, partA, faddrA, setAt, binA, arithA, shiftA, strA, unA, gSpan, gSkip, unG, ne_eq, Option.some.injEq, reduceCtorEq, decide_true, decide_false, elemsA, resA, resAll, resOne, enterA, decide_eq_true_eq, Bool.not_eq_true, Bool.decide_eq_true, ite_self, ↓reduceIte, noRefL, clrA, gcT, gcA, gcIds, reach, rhoOf, heapOf, idxA, genB, newGen, renB, refsB, List.contains_cons, List.range_succ, cb_tidingslaw23_users, b_tidingslaw23_users, cr_tidingslaw23_users, intsV, bytesV, propsV, propV, propC, bytesOf_map, gt_iff_lt, slice_hi, h1, h2, Int.reduceToNat, Int.reduceLE, fillA, setAt, AVal.cells]
  · simp -implicitDefEqProofs only [EVS0, EVS1, EVS2, EVS3, EVS4, EVS5, EVS6, EVS7, EVL0, EVL1, ite_tf, ite_ft, ite_tft, ite_ftf, ite_list, ite_tt, ite_ee, ite_nt, ite_ne, eq_self, implies_true, forall_const, exI, nsite, freeAt, execI, Opd.ev, tget, tins, tput, keepL, sitesOf, List.sum_cons, List.sum_nil, Nat.reduceAdd, Nat.reduceSub, Nat.reduceLT, Nat.reduceLeDiff, Nat.reduceEqDiff, Nat.reduceBEq, Nat.reduceMul, beq_self_eq_true, Bool.false_eq_true, ldA, stA, partA, faddrA, setAt, binA, arithA, shiftA, strA, unA, gSpan, gSkip, unG, ne_eq, Option.some.injEq, reduceCtorEq, decide_true, decide_false, elemsA, resA, resAll, resOne, enterA, decide_eq_true_eq, Bool.not_eq_true, Bool.decide_eq_true, ite_self, ↓reduceIte, noRefL, clrA, gcT, gcA, gcIds, reach, rhoOf, heapOf, idxA, genB, newGen, renB, refsB, List.contains_cons, List.range_succ, cb_tidingslaw23_users, b_tidingslaw23_users, cr_tidingslaw23_users, intsV, bytesV, propsV, propV, propC, bytesOf_map, gt_iff_lt, slice_hi, h1, h2, Int.reduceToNat, Int.reduceLE, fillA, setAt, AVal.cells]
theorem q_within (n : Int) : ∃ m : Int, E 7 [.int .i64 n, .int .i64 1, .int .i64 1099511627776] [] = some (.int .i64 m, []) := by
  rw [E_eq (by rfl) cf_tidingskeep_Within]
  have w1 : IntKind.i64.wrap (1099511627776 - 1) = 1099511627775 := by rw [wrap_nat (by omega) (by omega)]; rfl
  have w2 : IntKind.i64.wrap (1099511627775 + 1) = 1099511627776 := by rw [wrap_nat (by omega) (by omega)]; rfl
  have w3 : ((1099511627776 : Int) = 0) = False := by simp
  by_cases h : n.tmod 1099511627776 < 0
  · refine ⟨IntKind.i64.wrap (1 + IntKind.i64.wrap (n.tmod 1099511627776 + 1099511627776)), ?_⟩
    simp -implicitDefEqProofs only [EVS0, EVS1, EVS2, EVS3, EVS4, EVS5, EVS6, EVS7, EVL0, EVL1, ite_tf, ite_ft, ite_tft, ite_ftf, ite_list, ite_tt, ite_ee, ite_nt, ite_ne, eq_self, implies_true, forall_const, exI, nsite, freeAt, execI, Opd.ev, tget, tins, tput, keepL, sitesOf, List.sum_cons, List.sum_nil, Nat.reduceAdd, Nat.reduceSub, Nat.reduceLT, Nat.reduceLeDiff, Nat.reduceEqDiff, Nat.reduceBEq, Nat.reduceMul, beq_self_eq_true, Bool.false_eq_true, ldA, stA, partA, faddrA, setAt, binA, arithA, shiftA, strA, unA, gSpan, gSkip, unG, ne_eq, Option.some.injEq, reduceCtorEq, decide_true, decide_false, elemsA, resA, resAll, resOne, enterA, decide_eq_true_eq, Bool.not_eq_true, Bool.decide_eq_true, ite_self, ↓reduceIte, noRefL, clrA, gcT, gcA, gcIds, reach, rhoOf, heapOf, idxA, genB, newGen, renB, refsB, List.contains_cons, List.range_succ, cb_tidingskeep_Within, b_tidingskeep_Within, cr_tidingskeep_Within, intsV, bytesV, propsV, propV, propC, bytesOf_map, w1, w2, w3, h]
  · refine ⟨IntKind.i64.wrap (1 + n.tmod 1099511627776), ?_⟩
    simp -implicitDefEqProofs only [EVS0, EVS1, EVS2, EVS3, EVS4, EVS5, EVS6, EVS7, EVL0, EVL1, ite_tf, ite_ft, ite_tft, ite_ftf, ite_list, ite_tt, ite_ee, ite_nt, ite_ne, eq_self, implies_true, forall_const, exI, nsite, freeAt, execI, Opd.ev, tget, tins, tput, keepL, sitesOf, List.sum_cons, List.sum_nil, Nat.reduceAdd, Nat.reduceSub, Nat.reduceLT, Nat.reduceLeDiff, Nat.reduceEqDiff, Nat.reduceBEq, Nat.reduceMul, beq_self_eq_true, Bool.false_eq_true, ldA, stA, partA, faddrA, setAt, binA, arithA, shiftA, strA, unA, gSpan, gSkip, unG, ne_eq, Option.some.injEq, reduceCtorEq, decide_true, decide_false, elemsA, resA, resAll, resOne, enterA, decide_eq_true_eq, Bool.not_eq_true, Bool.decide_eq_true, ite_self, ↓reduceIte, noRefL, clrA, gcT, gcA, gcIds, reach, rhoOf, heapOf, idxA, genB, newGen, renB, refsB, List.contains_cons, List.range_succ, cb_tidingskeep_Within, b_tidingskeep_Within, cr_tidingskeep_Within, intsV, bytesV, propsV, propV, propC, bytesOf_map, w1, w2, w3, h]
theorem q_kcut (b : Bytes) (n : Int) (h0 : 0 ≤ n) : E 16 [bytesV b, .int .i64 n] [] = some (bytesV (b.take n.toNat), []) := by
  rw [E_eq (by rfl) cf_tidingskeep_Cut]
  by_cases h : n < (b.length : Int)
  · have hl : n ≤ (b.length : Int) := by omega
    simp -implicitDefEqProofs only [EVS0, EVS1, EVS2, EVS3, EVS4, EVS5, EVS6, EVS7, EVL0, EVL1, ite_tf, ite_ft, ite_tft, ite_ftf, ite_list, ite_tt, ite_ee, ite_nt, ite_ne, eq_self, implies_true, forall_const, exI, nsite, freeAt, execI, Opd.ev, tget, tins, tput, keepL, sitesOf, List.sum_cons, List.sum_nil, Nat.reduceAdd, Nat.reduceSub, Nat.reduceLT, Nat.reduceLeDiff, Nat.reduceEqDiff, Nat.reduceBEq, Nat.reduceMul, beq_self_eq_true, Bool.false_eq_true, ldA, stA, partA, faddrA, setAt, binA, arithA, shiftA, strA, unA, gSpan, gSkip, unG, ne_eq, Option.some.injEq, reduceCtorEq, decide_true, decide_false, elemsA, resA, resAll, resOne, enterA, decide_eq_true_eq, Bool.not_eq_true, Bool.decide_eq_true, ite_self, ↓reduceIte, noRefL, clrA, gcT, gcA, gcIds, reach, rhoOf, heapOf, idxA, genB, newGen, renB, refsB, List.contains_cons, List.range_succ, cb_tidingskeep_Cut, b_tidingskeep_Cut, cr_tidingskeep_Cut, intsV, bytesV, propsV, propV, propC, bytesOf_map, h0, h, hl, gt_iff_lt, slice_hi]
  · have hl : b.take n.toNat = b := List.take_of_length_le (by omega)
    simp -implicitDefEqProofs only [EVS0, EVS1, EVS2, EVS3, EVS4, EVS5, EVS6, EVS7, EVL0, EVL1, ite_tf, ite_ft, ite_tft, ite_ftf, ite_list, ite_tt, ite_ee, ite_nt, ite_ne, eq_self, implies_true, forall_const, exI, nsite, freeAt, execI, Opd.ev, tget, tins, tput, keepL, sitesOf, List.sum_cons, List.sum_nil, Nat.reduceAdd, Nat.reduceSub, Nat.reduceLT, Nat.reduceLeDiff, Nat.reduceEqDiff, Nat.reduceBEq, Nat.reduceMul, beq_self_eq_true, Bool.false_eq_true, ldA, stA, partA, faddrA, setAt, binA, arithA, shiftA, strA, unA, gSpan, gSkip, unG, ne_eq, Option.some.injEq, reduceCtorEq, decide_true, decide_false, elemsA, resA, resAll, resOne, enterA, decide_eq_true_eq, Bool.not_eq_true, Bool.decide_eq_true, ite_self, ↓reduceIte, noRefL, clrA, gcT, gcA, gcIds, reach, rhoOf, heapOf, idxA, genB, newGen, renB, refsB, List.contains_cons, List.range_succ, cb_tidingskeep_Cut, b_tidingskeep_Cut, cr_tidingskeep_Cut, intsV, bytesV, propsV, propV, propC, bytesOf_map, h, hl, gt_iff_lt]
theorem q_kcutC (σ : AHeap) (site own : Nat) (view : Bool) (b : Bytes) (n : Int) (h0 : 0 ≤ n) : callG E BY σ site 16 own view [.lst false (b.map byteV), .int .i64 n] = some (.lst false ((b.take n.toNat).map byteV), σ, {}) :=
  call_flat (q_kcut b n h0) (by kernel_rfl) (by simp -implicitDefEqProofs only [EVS0, EVS1, EVS2, EVS3, EVS4, EVS5, EVS6, EVS7, EVL0, EVL1, eq_self, implies_true, Bool.false_eq_true, intsV, bytesV, propsV, propV, propC, intsV]) (by simp -implicitDefEqProofs only [EVS0, EVS1, EVS2, EVS3, EVS4, EVS5, EVS6, EVS7, EVL0, EVL1, eq_self, implies_true, Bool.false_eq_true, intsV, bytesV, propsV, propV, propC, intsV]) rfl (fun _ => rfl) _ _ _ _
def cutP (p : PacketD) : PacketD := { p with subs := p.subs.take 8, filters := p.filters.take 8, codes := p.codes.take 8, props := p.props.take 12, payload := p.payload.take 600, password := p.password.take 100, will := { p.will with props := p.will.props.take 12, data := p.will.data.take 100 } }
theorem q_cutP (p : PacketD) : E 5 [.agg [.int .i64 p.type, .bool p.dup, .int .i64 p.qos, .bool p.retain, .int .i64 p.id, .str p.topic, .lst false (p.payload.map byteV), .int .i64 p.code, .lst false (p.codes.map (AVal.int .i64)), .lst false (p.props.map propV), .lst false (p.subs.map subV), .lst false (p.filters.map AVal.str), .bool p.clean, .int .i64 p.keep, .str p.client, .bool p.hasWill, .str p.will.topic, .lst false (p.will.data.map byteV), .int .i64 p.will.qos, .bool p.will.retain, .lst false (p.will.props.map propV), .bool p.hasUser, .str p.user, .bool p.hasPassword, .lst false (p.password.map byteV), .bool p.present]] [] = some (.agg [.int .i64 (cutP p).type, .bool (cutP p).dup, .int .i64 (cutP p).qos, .bool (cutP p).retain, .int .i64 (cutP p).id, .str (cutP p).topic, .lst false ((cutP p).payload.map byteV), .int .i64 (cutP p).code, .lst false ((cutP p).codes.map (AVal.int .i64)), .lst false ((cutP p).props.map propV), .lst false ((cutP p).subs.map subV), .lst false ((cutP p).filters.map AVal.str), .bool (cutP p).clean, .int .i64 (cutP p).keep, .str (cutP p).client, .bool (cutP p).hasWill, .str (cutP p).will.topic, .lst false ((cutP p).will.data.map byteV), .int .i64 (cutP p).will.qos, .bool (cutP p).will.retain, .lst false ((cutP p).will.props.map propV), .bool (cutP p).hasUser, .str (cutP p).user, .bool (cutP p).hasPassword, .lst false ((cutP p).password.map byteV), .bool (cutP p).present], []) := by
  rw [E_eq (by rfl) cf_tidingslaw12_Cut]
  have k6 : (600 : Int).toNat = 600 := rfl
  have k1 : (100 : Int).toNat = 100 := rfl
  unfold cutP
  rcases cut8' p.subs with ⟨h1, h2⟩ | ⟨h1, h2⟩ <;> rcases cut8' p.filters with ⟨h3, h4⟩ | ⟨h3, h4⟩ <;> rcases cut8' p.codes with ⟨h5, h6⟩ | ⟨h5, h6⟩ <;> rcases cut12 p.props with ⟨h7, h8⟩ | ⟨h7, h8⟩ <;> rcases cut12 p.will.props with ⟨h9, h10⟩ | ⟨h9, h10⟩
  all_goals simp -implicitDefEqProofs only [EVS0, EVS1, EVS2, EVS3, EVS4, EVS5, EVS6, EVS7, EVL0, EVL1, ite_tf, ite_ft, ite_tft, ite_ftf, ite_list, ite_tt, ite_ee, ite_nt, ite_ne, eq_self, implies_true, forall_const, exI, nsite, freeAt, execI, Opd.ev, tget, tins, tput, keepL, sitesOf, List.sum_cons, List.sum_nil, Nat.reduceAdd, Nat.reduceSub, Nat.reduceLT, Nat.reduceLeDiff, Nat.reduceEqDiff, Nat.reduceBEq, Nat.reduceMul, beq_self_eq_true, Bool.false_eq_true, ldA, stA, partA, faddrA, setAt, binA, arithA, shiftA, strA, unA, gSpan, gSkip, unG, ne_eq, Option.some.injEq, reduceCtorEq, decide_true, decide_false, elemsA, resA, resAll, resOne, enterA, decide_eq_true_eq, Bool.not_eq_true, Bool.decide_eq_true, ite_self, ↓reduceIte, noRefL, clrA, gcT, gcA, gcIds, reach, rhoOf, heapOf, idxA, genB, newGen, renB, refsB, List.contains_cons, List.range_succ, cb_tidingslaw12_Cut, b_tidingslaw12_Cut, cr_tidingslaw12_Cut, intsV, bytesV, propsV, propV, propC, bytesOf_map, gt_iff_lt, q_kcutC, slice_hi, h1, h2, h3, h4, h5, h6, h7, h8, h9, h10, k6, k1, Int.reduceToNat, Int.reduceLE, reg_some, regC_some, chkA_cons, chkA_nil, pairFree_eq, emptyOp_eq, noWr_eq, List.getD_cons_zero, List.getD_cons_succ]
end Go.Proofs.YtaaflagbhneakaaDoor
namespace Go.Proofs.YtaaflagbhneakaaDoor
set_option linter.unusedSimpArgs false
set_option linter.unusedVariables false
set_option maxHeartbeats 64000000
set_option maxRecDepth 10000
theorem kept_noExp (l : List PropD) : keptL (l.filter noExp) = keptL l := by
  unfold keptL onlyL
  rw [List.filter_filter]
  congr 1
  funext p
  cases h : [1, 3, 8, 9, 38].contains p.id
  · rfl
  · have : noExp p = true := by
      unfold noExp
      cases h2 : p.id == 2
      · rfl
      · have : p.id = 2 := by simpa using h2
        rw [this] at h; simp at h
    rw [this]; rfl
theorem kept_kept (l : List PropD) : keptL (keptL l) = keptL l := by
  unfold keptL onlyL
  rw [List.filter_filter]
  congr 1
  funext p
  simp
theorem exp_noExp (l : List PropD) (now : Int) : expI (l.filter noExp) now = 0 := by
  unfold expI
  have : findP 2 (l.filter noExp) = none := by
    unfold findP
    rw [List.find?_eq_none]
    intro x hx
    have := (List.mem_filter.1 hx).2
    unfold noExp at this
    simpa using this
  rw [this]
theorem exp_kept (l : List PropD) (now : Int) : expI (keptL l) now = 0 := by
  unfold expI
  have : findP 2 (keptL l) = none := by
    unfold findP keptL onlyL
    rw [List.find?_eq_none]
    intro x hx
    have := (List.mem_filter.1 hx).2
    intro h
    have h2 : x.id = 2 := by simpa using h
    rw [h2] at this; simp at this
  rw [this]
theorem deal_eq (p : PacketD) (fresh : Bytes) (now : Int) : rdealOk p fresh now = dealOk p fresh now := by
  unfold rdealOk dealOk ofD
  rw [kept_noExp, kept_kept, exp_noExp, exp_kept]
theorem q_dsameC (σ : AHeap) (site own : Nat) (view : Bool) (a b : DealD) (hl : a.will.props.length ≤ 9223372036854775807) : callG E BY σ site 12 own view [.agg [.str a.client, .bool a.clean, .int .i64 a.keep, .int .i64 a.expiry, .int .i64 a.receive, .int .i64 a.maxPacket, .int .i64 a.aliasMax, .str a.method, .str a.user, .bool a.hasWill, .str a.will.topic, .lst false (a.will.payload.map byteV), .int .i64 a.will.qos, .bool a.will.retain, .str a.will.sender, .int .i64 a.will.expires, .lst false (a.will.props.map propV), .int .i64 a.will.origin, .int .i64 a.will.number, .int .i64 a.will.hops, .int .i64 a.willDelay, .int .i64 a.willLife], .agg [.str b.client, .bool b.clean, .int .i64 b.keep, .int .i64 b.expiry, .int .i64 b.receive, .int .i64 b.maxPacket, .int .i64 b.aliasMax, .str b.method, .str b.user, .bool b.hasWill, .str b.will.topic, .lst false (b.will.payload.map byteV), .int .i64 b.will.qos, .bool b.will.retain, .str b.will.sender, .int .i64 b.will.expires, .lst false (b.will.props.map propV), .int .i64 b.will.origin, .int .i64 b.will.number, .int .i64 b.will.hops, .int .i64 b.willDelay, .int .i64 b.willLife]] = some (.bool (dsameB a b), σ, {}) :=
  call_flat (q_dsame a b hl) (by kernel_rfl) rfl rfl rfl (fun _ => rfl) _ _ _ _
theorem q_lendC (σ : AHeap) (site : Nat) (b : Bytes) (hb : b.length ≤ 140737488355326) (hs : freeAt σ site = true) : callG E BY σ site 8 1 false [.lst false (b.map byteV)] = some (.sl site 0 0 b.length, σ.set site (.row 0 1 (b.map byteV ++ [.int .u8 165, .int .u8 90])), {}) := by
  have h := call_own (byref := BY) (q_lend b hb) rfl rfl σ site hs
  have hf : (lentB b).all flat2 = true := by unfold lentB; rw [List.all_append, flat_bytes]; rfl
  rw [hf] at h
  exact h
theorem q_backC (b : Bytes) (hb : b.length ≤ 140737488355326) : ∃ X', ∀ (σ : AHeap) (site own t : Nat), σ[t]? = some (.row 0 1 (b.map byteV ++ [.int .u8 165, .int .u8 90])) → freeFrom σ site own = true → callG E BY σ site 11 own true [.sl t 0 0 b.length, .lst false (b.map byteV)] = some (.bool true, σ.set t (.row 0 1 X'), { any := true }) := by
  obtain ⟨X', h⟩ := q_back b hb
  refine ⟨X', fun σ site own t hs hff => ?_⟩
  refine call_byrow (args' := [.sl 0 0 0 b.length, bytesV b]) hs (by kernel_rfl) hff rfl (fun ρ h => by simp only [renL, renV, h]; rfl) (fun ρ => rfl) (Or.inl rfl) ?_
  have h' := h
  unfold lentB at h'
  rw [h']
  unfold askO
  rw [if_pos rfl]
  simp [resV, viewR, viewA, viewA1, freezeA, gcA, gcIds, reach, refsL, refsV, renL, renV, heapOf, refsB, newGen, genB, renB, List.range_succ]
theorem view_deal (σ : AHeap) (b : Bool) (d : DealD) (c : Int) : viewR σ (.tup [dealV' b d, .int .i64 c]) = some (.tup [dealV' false d, .int .i64 c], []) := rfl
theorem resV_tup (m : Nat) (vs : List AVal) (σ : AHeap) : resV m (some (.tup vs, σ)) = (match viewR σ (.tup vs) with | some (r', ts) => (match gcA m [r'] (freezeA σ ts) with | ([r''], σ') => some (r'', σ') | _ => none) | none => none) := rfl
theorem q_meetC' (σ : AHeap) (site own t : Nat) (l : List UserD) (hl : l.length ≤ 9223372036854775807) (hd : ∀ u ∈ l, u.secret.length ≤ 140737488355328) (o : Int) (op : Bool) (p : PacketD) (X : List AVal) (hp : p.props.length ≤ 9223372036854775807) (hpd : ∀ x ∈ p.props, x.data.length ≤ 140737488355328) (hc : p.client.length ≤ 9223372036854775807)
    (hw : p.will.props.length * 72 ≤ 140737488355328) (hwd : ∀ x ∈ p.will.props, x.data.length ≤ 140737488355328) (hpl : p.will.data.length ≤ 140737488355328) (fresh : Bytes) (now : Int) (hs : σ[t]? = some (.row 0 1 (p.will.data.map byteV ++ X))) (hff : freeFrom σ site own = true) :
    callG E BY σ site 9 own true [.agg [.int .i64 o, .bool op, .lst false (l.map userV)], .agg [.int .i64 p.type, .bool p.dup, .int .i64 p.qos, .bool p.retain, .int .i64 p.id, .str p.topic, .lst false (p.payload.map byteV), .int .i64 p.code, .lst false (p.codes.map (AVal.int .i64)), .lst false (p.props.map propV), .lst false (p.subs.map subV), .lst false (p.filters.map AVal.str), .bool p.clean, .int .i64 p.keep, .str p.client, .bool p.hasWill, .str p.will.topic, .sl t 0 0 p.will.data.length, .int .i64 p.will.qos, .bool p.will.retain, .lst false (p.will.props.map propV), .bool p.hasUser, .str p.user, .bool p.hasPassword, .lst false (p.password.map byteV), .bool p.present], .str fresh, .int .i64 now] =
      some (.tup [dealV' false (if refI l op p == 0 then dealOk p fresh now else dealZ), .int .i64 (refI l op p)], σ.set t (.row 0 1 (p.will.data.map byteV ++ X)), { any := true }) := by
  obtain ⟨b, h⟩ := q_meetR l hl hd o op p X hp hpd hc hw hwd hpl fresh now
  refine call_byrow (args' := [.agg [.int .i64 o, .bool op, .lst false (l.map userV)], .agg [.int .i64 p.type, .bool p.dup, .int .i64 p.qos, .bool p.retain, .int .i64 p.id, .str p.topic, .lst false (p.payload.map byteV), .int .i64 p.code, .lst false (p.codes.map (AVal.int .i64)), .lst false (p.props.map propV), .lst false (p.subs.map subV), .lst false (p.filters.map AVal.str), .bool p.clean, .int .i64 p.keep, .str p.client, .bool p.hasWill, .str p.will.topic, .sl 0 0 0 p.will.data.length, .int .i64 p.will.qos, .bool p.will.retain, .lst false (p.will.props.map propV), .bool p.hasUser, .str p.user, .bool p.hasPassword, .lst false (p.password.map byteV), .bool p.present], .str fresh, .int .i64 now]) hs (by kernel_rfl) hff rfl (fun ρ h => by simp only [renL, renV, h]) (fun ρ => rfl) (Or.inl rfl) ?_
  rw [h]
  unfold askO
  rw [if_pos rfl]
  rw [resV_tup, view_deal]
  generalize (if refI l op p == 0 then dealOk p fresh now else dealZ) = d
  unfold dealV'
  simp [freezeA, gcA, gcIds, reach, refsL, refsV, renL, renV, heapOf, refsB, newGen, genB, renB, List.range_succ]
theorem q_rmeetC (σ : AHeap) (site own : Nat) (l : List UserD) (hl : l.length ≤ 9223372036854775807) (o : Int) (op : Bool) (p : PacketD) (hp : p.props.length ≤ 9223372036854775807) (hc : p.client.length ≤ 9223372036854775807)
    (hw : p.will.props.length * 72 ≤ 140737488355328) (hpl : p.will.data.length ≤ 140737488355328) (fresh : Bytes) (now : Int) :
    callG E BY σ site 10 own true [.agg [.int .i64 o, .bool op, .lst false (l.map userV)], .agg [.int .i64 p.type, .bool p.dup, .int .i64 p.qos, .bool p.retain, .int .i64 p.id, .str p.topic, .lst false (p.payload.map byteV), .int .i64 p.code, .lst false (p.codes.map (AVal.int .i64)), .lst false (p.props.map propV), .lst false (p.subs.map subV), .lst false (p.filters.map AVal.str), .bool p.clean, .int .i64 p.keep, .str p.client, .bool p.hasWill, .str p.will.topic, .lst false (p.will.data.map byteV), .int .i64 p.will.qos, .bool p.will.retain, .lst false (p.will.props.map propV), .bool p.hasUser, .str p.user, .bool p.hasPassword, .lst false (p.password.map byteV), .bool p.present], .str fresh, .int .i64 now] =
      some (.tup [dealV' false (if refI l op p == 0 then dealOk p fresh now else dealZ), .int .i64 (refI l op p)], σ, {}) := by
  obtain ⟨b, h⟩ := q_rmeet l hl o op p hp hc hw hpl fresh now
  rw [deal_eq] at h
  exact call_norm h (by kernel_rfl) rfl rfl rfl (fun _ => rfl) _ _ _
theorem q_usersC (σ : AHeap) (site own : Nat) (op : Bool) (l : List UserD) : callG E BY σ site 6 own true [.bool op, .lst false (l.map userV)] = some (.agg [.int .i64 1, .bool op, .lst false ((l.take 8).map userV)], σ, {}) :=
  call_norm (q_users op l) (by kernel_rfl) rfl rfl rfl (fun _ => rfl) _ _ _
theorem q_cutPC (σ : AHeap) (site own : Nat) (p : PacketD) : callG E BY σ site 5 own true [.agg [.int .i64 p.type, .bool p.dup, .int .i64 p.qos, .bool p.retain, .int .i64 p.id, .str p.topic, .lst false (p.payload.map byteV), .int .i64 p.code, .lst false (p.codes.map (AVal.int .i64)), .lst false (p.props.map propV), .lst false (p.subs.map subV), .lst false (p.filters.map AVal.str), .bool p.clean, .int .i64 p.keep, .str p.client, .bool p.hasWill, .str p.will.topic, .lst false (p.will.data.map byteV), .int .i64 p.will.qos, .bool p.will.retain, .lst false (p.will.props.map propV), .bool p.hasUser, .str p.user, .bool p.hasPassword, .lst false (p.password.map byteV), .bool p.present]] = some (.agg [.int .i64 (cutP p).type, .bool (cutP p).dup, .int .i64 (cutP p).qos, .bool (cutP p).retain, .int .i64 (cutP p).id, .str (cutP p).topic, .lst false ((cutP p).payload.map byteV), .int .i64 (cutP p).code, .lst false ((cutP p).codes.map (AVal.int .i64)), .lst false ((cutP p).props.map propV), .lst false ((cutP p).subs.map subV), .lst false ((cutP p).filters.map AVal.str), .bool (cutP p).clean, .int .i64 (cutP p).keep, .str (cutP p).client, .bool (cutP p).hasWill, .str (cutP p).will.topic, .lst false ((cutP p).will.data.map byteV), .int .i64 (cutP p).will.qos, .bool (cutP p).will.retain, .lst false ((cutP p).will.props.map propV), .bool (cutP p).hasUser, .str (cutP p).user, .bool (cutP p).hasPassword, .lst false ((cutP p).password.map byteV), .bool (cutP p).present], σ, {}) :=
  call_norm (q_cutP p) (by kernel_rfl) rfl rfl rfl (fun _ => rfl) _ _ _
theorem q_withinC (n : Int) : ∃ m : Int, ∀ (σ : AHeap) (site own : Nat), callG E BY σ site 7 own true [.int .i64 n, .int .i64 1, .int .i64 1099511627776] = some (.int .i64 m, σ, {}) := by
  obtain ⟨m, h⟩ := q_within n
  exact ⟨m, fun σ site own => call_norm h (by kernel_rfl) rfl rfl rfl (fun _ => rfl) _ _ _⟩
theorem q_meets (op : Bool) (l : List UserD) (p : PacketD) (fresh : Bytes) (now : Int) (hd : ∀ u ∈ l, u.secret.length ≤ 140737488355328) (hpd : ∀ x ∈ p.props, x.data.length ≤ 140737488355328) (hwd : ∀ x ∈ p.will.props, x.data.length ≤ 140737488355328) (hc : p.client.length ≤ 9223372036854775807) (hf : fresh.length ≤ 9223372036854775807) :
    ∃ σ', E 3 [.bool op, .lst false (l.map userV), .agg [.int .i64 p.type, .bool p.dup, .int .i64 p.qos, .bool p.retain, .int .i64 p.id, .str p.topic, .lst false (p.payload.map byteV), .int .i64 p.code, .lst false (p.codes.map (AVal.int .i64)), .lst false (p.props.map propV), .lst false (p.subs.map subV), .lst false (p.filters.map AVal.str), .bool p.clean, .int .i64 p.keep, .str p.client, .bool p.hasWill, .str p.will.topic, .lst false (p.will.data.map byteV), .int .i64 p.will.qos, .bool p.will.retain, .lst false (p.will.props.map propV), .bool p.hasUser, .str p.user, .bool p.hasPassword, .lst false (p.password.map byteV), .bool p.present], .str fresh, .int .i64 now] [] = some (.bool true, σ') := by
  have hcut := fun σ site own => q_cutPC σ site own p
  have b1 : (cutP p).props.length ≤ 12 := by show (p.props.take 12).length ≤ 12; simp; omega
  have b2 : (cutP p).will.props.length ≤ 12 := by show (p.will.props.take 12).length ≤ 12; simp; omega
  have b3 : (cutP p).will.data.length ≤ 100 := by show (p.will.data.take 100).length ≤ 100; simp; omega
  have b4 : ∀ x ∈ (cutP p).props, x.data.length ≤ 140737488355328 := fun x hx => hpd x (List.mem_of_mem_take hx)
  have b5 : ∀ x ∈ (cutP p).will.props, x.data.length ≤ 140737488355328 := fun x hx => hwd x (List.mem_of_mem_take hx)
  have b6 : (cutP p).client.length ≤ 9223372036854775807 := hc
  generalize cutP p = q at *
  have hus := fun σ site own => q_usersC σ site own op l
  have hu8 : (l.take 8).length ≤ 9223372036854775807 := by simp; omega
  have hud : ∀ u ∈ l.take 8, u.secret.length ≤ 140737488355328 := fun u hu => hd u (List.mem_of_mem_take hu)
  generalize l.take 8 = L at *
  obtain ⟨m, hwi⟩ := q_withinC now
  have hlend := fun σ site => q_lendC σ site q.will.data (by omega)
  have hmeet := fun σ site own t => q_meetC' σ site own t L hu8 hud 1 op q [.int .u8 165, .int .u8 90] (by omega) b4 b6 (by omega) b5 (by omega) fresh m
  have hrm := fun σ site own => q_rmeetC σ site own L hu8 1 op q (by omega) b6 (by omega) (by omega) fresh m
  have hD : (if refI L op q == 0 then dealOk q fresh m else dealZ).will.props.length ≤ 9223372036854775807 := by
    split
    · unfold dealOk ofD
      simp only
      split
      · rw [kept_noExp]
        have : (keptL q.will.props).length ≤ q.will.props.length := List.length_filter_le _ _
        simp only; omega
      · simp [noteZ]
    · simp [dealZ, noteZ]
  generalize (if refI L op q == 0 then dealOk q fresh m else dealZ) = D at *
  generalize refI L op q = c at *
  unfold dealV' at hmeet hrm
  have hsm := fun σ site own view => q_dsameC σ site own view D D hD
  rw [dsame_self] at hsm
  obtain ⟨X', hback⟩ := q_backC q.will.data (by omega)
  have hn1 := fun σ site own => q_cnameC σ site own q.client b6
  have hn2 := fun σ site own => q_rname23C σ site own q.client b6
  have hn3 := fun σ site own => q_cnameC σ site own fresh hf
  have hn4 := fun σ site own => q_rname23C σ site own fresh hf
  have ec : (c == c) = true := by simp
  have e1 : (cnameB q.client == cnameB q.client) = true := by simp
  have e2 : (cnameB fresh == cnameB fresh) = true := by simp
  have tf : (true != false) = true := rfl
  clear hpd hwd hc hd b1 b2 b3 b4 b5
  rw [E_eq (by rfl) cf_tidingslaw23_ConnMeets]
  refine ⟨[], ?_⟩
  simp -implicitDefEqProofs only [EVS0, EVS1, EVS2, EVS3, EVS4, EVS5, EVS6, EVS7, EVL0, EVL1, ite_tf, ite_ft, ite_tft, ite_ftf, ite_list, ite_tt, ite_ee, ite_nt, ite_ne, eq_self, implies_true, forall_const, exI, nsite, freeAt, execI, Opd.ev, tget, tins, tput, keepL, sitesOf, List.sum_cons, List.sum_nil, Nat.reduceAdd, Nat.reduceSub, Nat.reduceLT, Nat.reduceLeDiff, Nat.reduceEqDiff, Nat.reduceBEq, Nat.reduceMul, beq_self_eq_true, Bool.false_eq_true, ldA, stA, partA, faddrA, setAt, binA, arithA, shiftA, strA, unA, gSpan, gSkip, unG, ne_eq, Option.some.injEq, reduceCtorEq, decide_true, decide_false, elemsA, resA, resAll, resOne, enterA, decide_eq_true_eq, Bool.not_eq_true, Bool.decide_eq_true, ite_self, ↓reduceIte, noRefL, clrA, gcT, gcA, gcIds, reach, rhoOf, heapOf, idxA, genB, newGen, renB, refsB, List.contains_cons, List.range_succ, cb_tidingslaw23_ConnMeets, b_tidingslaw23_ConnMeets, cr_tidingslaw23_ConnMeets, intsV, bytesV, propsV, propV, propC, bytesOf_map, hcut, hus, hwi, hlend, hmeet, hrm, hsm, hback, hn1, hn2, hn3, hn4, ff0, ec, e1, e2, tf, q_wakes23C, fillA, setAt, AVal.cells]
end Go.Proofs.YtaaflagbhneakaaDoor
namespace Go.Proofs.YtaaflagbhneakaaDoor
set_option linter.unusedSimpArgs false
set_option linter.unusedVariables false
open Go.Shelf
def ren137 : Ren := ⟨fun | 137 => 62 | 217 => 66 | 266 => 67 | n => n, fun | 9 => 9 | 5 => 5 | 3 => 3 | n => n, fun | n => n⟩
theorem lay137 : Go.Proofs.Lays.n137 Tryd.prog ren137 := { mixed := by kernel_rfl, f137 := Tryd.func62.trans (congrArg some (by kernel_rfl)), f217 := Tryd.func66.trans (congrArg some (by kernel_rfl)), f266 := Tryd.func67.trans (congrArg some (by kernel_rfl)), t3 := Tryd.underlying3, a3 := Tryd.isAgg3, z3 := Tryd.sizeOf3, v3 := Tryd.zeroValue3, t5 := Tryd.underlying5, a5 := Tryd.isAgg5, z5 := Tryd.sizeOf5, v5 := Tryd.zeroValue5, t9 := Tryd.underlying9, a9 := Tryd.isAgg9, z9 := Tryd.sizeOf9, v9 := Tryd.zeroValue9 }
def ren217 : Ren := ⟨fun | 217 => 66 | 266 => 67 | n => n, fun | 9 => 9 | 5 => 5 | 3 => 3 | n => n, fun | n => n⟩
theorem lay217 : Go.Proofs.Lays.n217 Tryd.prog ren217 := { mixed := by kernel_rfl, f217 := Tryd.func66.trans (congrArg some (by kernel_rfl)), f266 := Tryd.func67.trans (congrArg some (by kernel_rfl)), t3 := Tryd.underlying3, a3 := Tryd.isAgg3, z3 := Tryd.sizeOf3, v3 := Tryd.zeroValue3, t5 := Tryd.underlying5, a5 := Tryd.isAgg5, z5 := Tryd.sizeOf5, v5 := Tryd.zeroValue5, t9 := Tryd.underlying9, a9 := Tryd.isAgg9, z9 := Tryd.sizeOf9, v9 := Tryd.zeroValue9 }
section
open Go.Shelf
end
end Go.Proofs.YtaaflagbhneakaaDoor
namespace Go.Proofs.YtaaflagbhneakaaDoor
set_option linter.unusedSimpArgs false
set_option linter.unusedVariables false
open Go.Shelf
def ren196 : Ren := ⟨fun | 196 => 55 | 259 => 61 | n => n, fun | 9 => 9 | 4 => 4 | 3 => 3 | 5 => 5 | 12 => 12 | 119 => 94 | 0 => 0 | 46 => 98 | 139 => 97 | 138 => 96 | 53 => 103 | n => n, fun | 3 => 0 | 4 => 1 | n => n⟩
theorem lay196 : Go.Proofs.Lays.n196 Tryd.prog ren196 := { mixed := by kernel_rfl, f196 := Tryd.func55.trans (congrArg some (by kernel_rfl)), f259 := Tryd.func61.trans (congrArg some (by kernel_rfl)), t0 := Tryd.underlying0, a0 := Tryd.isAgg0, z0 := Tryd.sizeOf0, v0 := Tryd.zeroValue0, t3 := Tryd.underlying3, a3 := Tryd.isAgg3, z3 := Tryd.sizeOf3, v3 := Tryd.zeroValue3, t4 := Tryd.underlying4, a4 := Tryd.isAgg4, z4 := Tryd.sizeOf4, v4 := Tryd.zeroValue4, t5 := Tryd.underlying5, a5 := Tryd.isAgg5, z5 := Tryd.sizeOf5, v5 := Tryd.zeroValue5, t9 := Tryd.underlying9, a9 := Tryd.isAgg9, z9 := Tryd.sizeOf9, v9 := Tryd.zeroValue9, t12 := Tryd.underlying12, a12 := Tryd.isAgg12, z12 := Tryd.sizeOf12, v12 := Tryd.zeroValue12, t46 := Tryd.underlying98, a46 := Tryd.isAgg98, z46 := Tryd.sizeOf98, v46 := Tryd.zeroValue98, t53 := Tryd.underlying103, a53 := Tryd.isAgg103, z53 := Tryd.sizeOf103, v53 := Tryd.zeroValue103, t119 := Tryd.underlying94, a119 := Tryd.isAgg94, z119 := Tryd.sizeOf94, t138 := Tryd.underlying96, a138 := Tryd.isAgg96, z138 := Tryd.sizeOf96, v138 := Tryd.zeroValue96, t139 := Tryd.underlying97, a139 := Tryd.isAgg97, z139 := Tryd.sizeOf97, v139 := Tryd.zeroValue97, g3 := by kernel_rfl, g4 := by kernel_rfl }
end Go.Proofs.YtaaflagbhneakaaDoor
namespace Go.Proofs.YtaaflagbhneakaaDoor
set_option linter.unusedSimpArgs false
set_option linter.unusedVariables false
set_option maxRecDepth 100000
set_option maxHeartbeats 2000000
theorem follows_ok : Tryd.prog.follows .mixedOrders = true := by kernel_rfl
theorem pr_clone_bytes : CloneB Tryd.prog 23 1 1 (.int .u8 0) 38 := ⟨_, _, _, _, _, _, _, _, _, _, _, rfl, rfl, rfl, by kernel_rfl, rfl, rfl, rfl, rfl, rfl, rfl, rfl, rfl, by kernel_rfl, by kernel_rfl, ⟨_, _, _, _, rfl⟩, rfl, by decide⟩
theorem pr_clone_props : CloneB Tryd.prog 26 5 72 (.agg [.int .i64 0, .int .i64 0, .str [], .str [], .lst true []]) 21 := ⟨_, _, _, _, _, _, _, _, _, _, _, rfl, rfl, rfl, by kernel_rfl, rfl, rfl, rfl, rfl, rfl, rfl, rfl, rfl, by kernel_rfl, by kernel_rfl, ⟨_, _, _, _, rfl⟩, rfl, by decide⟩



theorem lookT_mem {α : Type} {d v : α} : ∀ {l : List (Nat × α)} {n : Nat}, lookT d l n = v → v = d ∨ (n, v) ∈ l
  | [], n, h => Or.inl h.symm
  | (k, w) :: r, n, h => by
    simp only [lookT] at h
    split at h
    · rename_i e; subst e h; exact Or.inr (by simp)
    · rcases lookT_mem h with h | h
      · exact Or.inl h
      · exact Or.inr (by simp [h])
theorem prim_ok : PrimOk Tryd.prog PR := by
  intro f g h args σ r σ' hg
  rcases lookT_mem h with h | h
  · cases h
  unfold primT at h
  simp only [List.mem_cons, Prod.mk.injEq, Option.some.injEq, List.not_mem_nil, or_false] at h
  rcases h with ⟨rfl, rfl⟩ | h
  · exact clone_ok follows_ok pr_clone_bytes hg
  rcases h with ⟨rfl, rfl⟩ | h
  · exact clone_ok follows_ok pr_clone_props hg
  rcases h with ⟨rfl, rfl⟩ | h
  · exact indexByte_ok ⟨Tryd.f62, Tryd.func62, by kernel_rfl, by kernel_rfl⟩ (fun s c w => Any.strings_IndexByte lay137 s c w) hg
  rcases h with ⟨rfl, rfl⟩ | h
  · exact indexByte_ok ⟨Tryd.f66, Tryd.func66, by kernel_rfl, by kernel_rfl⟩ (fun s c w => Any.stringslite_IndexByte lay217 s c w) hg
  rcases h with ⟨rfl, rfl⟩ | h
  · exact valid_ok ⟨Tryd.f55, Tryd.func55, by kernel_rfl, by kernel_rfl⟩ (fun s w hs hT => Any.utf8_ValidString lay196 s w hs hT) hg
  exact absurd h.2 (by simp)
/-- what E tells, the program does -/
theorem E_ok : OrOk Tryd.prog E := by
  have h : E = EV CF PR BY := EV_strip CF PR BY
  rw [h]
  exact EV_sound follows_ok prim_ok ann BY
end Go.Proofs.YtaaflagbhneakaaDoor
namespace Go.Proofs.YtaaflagbhneakaaDoor
set_option linter.unusedSimpArgs false
set_option linter.unusedVariables false
open Go.RowKit Go.Shelf Go.Lib
theorem str_of {x : AVal} (h : ArgC false .str x) : ∃ l : List UInt8, l.length ≤ 9223372036854775807 ∧ x = .str l := by
  obtain ⟨y, h, rfl⟩ := h
  simp only [TyC] at h
  obtain ⟨l, hl, rfl⟩ := h
  exact ⟨l, hl, rfl⟩
theorem gl_of_tabs {W : World} (h : Lib.Utf8Tabs 0 1 W) : Gl.le (Imm.of W) := by
  intro b o u hu
  unfold Gl at hu
  unfold Imm.of
  split at hu
  · rename_i e; subst e
    split at hu
    · rename_i ho
      rw [h.1 o ho, ← hu]
    · cases hu
  · split at hu
    · rename_i e; subst e
      split at hu
      · rename_i ho
        rw [← hu]
        obtain ⟨h1, h2⟩ := h.2 (o / 2) (by omega)
        by_cases hp : o % 2 = 0
        · rw [if_pos hp, ← h1]; congr 2; omega
        · rw [if_neg hp, ← h2]; congr 2; omega
      · cases hu
    · cases hu
theorem strs_of {x : AVal} (h : ArgC false (.slice false .str) x) : ∃ l : List (List UInt8), l.length ≤ 9223372036854775807 ∧ x = .lst false (l.map AVal.str) := by
  obtain ⟨y, h, rfl⟩ := h
  simp only [TyC] at h
  obtain ⟨ys, rfl, h1, h2⟩ := h
  have : ∀ ys : List (List AVal), (∀ y ∈ ys, TyC .str y) → ∃ l : List (List UInt8), ys.map (elemV false) = l.map AVal.str := by
    intro ys
    induction ys with
    | nil => intro _; exact ⟨[], rfl⟩
    | cons y ys ih =>
      intro hy
      have hy0 := hy y (by simp)
      simp only [TyC] at hy0
      obtain ⟨a, _, ha⟩ := hy0
      obtain ⟨l, hl⟩ := ih fun y' h' => hy y' (by simp [h'])
      exact ⟨a :: l, by simp [ha, hl, elemV]⟩
  obtain ⟨l, hl⟩ := this ys h2
  have hn := congrArg List.length hl
  simp only [List.length_map] at hn
  exact ⟨l, by omega, by simp [elemV, hl]⟩
theorem bool_of {x : AVal} (h : ArgC false .bool x) : ∃ b : Bool, x = .bool b := by
  obtain ⟨y, h, rfl⟩ := h
  simp only [TyC] at h
  obtain ⟨b, rfl⟩ := h
  exact ⟨b, rfl⟩
theorem int_of {x : AVal} (h : ArgC false (.int .i64) x) : ∃ n : Int, (-9223372036854775808 ≤ n ∧ n ≤ 9223372036854775807) ∧ x = .int .i64 n := by
  obtain ⟨y, h, rfl⟩ := h
  simp only [TyC] at h
  obtain ⟨n, hw, rfl⟩ := h
  refine ⟨n, ?_, rfl⟩
  simp only [Lit.wf, Bool.and_eq_true, decide_eq_true_eq] at hw
  exact hw
section
open Go.RowKit
variable {H : Type} {enc : TypeId × Value → H} {P : Program} {w : World} {spare : Nat → Bool} {held : Bool}
theorem bulk_mem {d : DataW H} {l : List (DataW H)} (h : d ∈ l) : Rows.uptoBulk d ≤ Rows.uptoBulkAll l := by
  induction l with
  | nil => cases h
  | cons x r ih =>
    simp only [Rows.uptoBulkAll]
    rcases List.mem_cons.1 h with rfl | h
    · omega
    · have := ih h; omega
theorem bulk_elem {d : DataW H} {l m : List (DataW H)} (h : d ∈ l) : Rows.uptoBulk d ≤ Rows.uptoBulk (.slice l m) := by
  have := bulk_mem h
  simp only [Rows.uptoBulk]; omega
theorem bulk_bound {d : DataW H} {l : List (DataW H)} (hb : Rows.uptoSmall H l = true) (h : d ∈ l) : Rows.uptoBulk d ≤ 1048576 := by
  have := bulk_mem h
  have h2 : Rows.uptoBulkAll l ≤ 1048576 := by simpa [Rows.uptoSmall] using hb
  omega
theorem str_le0 {fuel : Nat} {t : TypeId} {v : Value} {d : DataW H} {ps : List MemPlace} {l : List UInt8} {I : Imm} {β : Bmap} (hu : P.underlying t = some .string) (h : DataW.trod enc P w 0 spare held fuel t [v] = some (d, ps)) (hz : VR I β (.str l) v) : l.length ≤ Rows.uptoBulk d := by
  simp only [VR] at hz
  obtain ⟨rfl, _⟩ := hz
  obtain ⟨s, hs, hd, _⟩ := DataW.trod_string hu h
  injection hd with hd _
  subst hd
  injection hs with hs _
  injection hs with hs
  subst hs
  simp [Rows.uptoBulk]
theorem str_le {t : TypeId} {v : Value} {d : DataW H} {ps : List MemPlace} {l : List UInt8} {I : Imm} {β : Bmap} (hu : P.underlying t = some .string) (h : DataW.Trod enc P w 0 spare held t v d ps) (hz : VR I β (.str l) v) : l.length ≤ Rows.uptoBulk d := by
  obtain ⟨fuel, h⟩ := h
  have hv : v.cells.toList = [v] := by
    simp only [VR] at hz
    obtain ⟨rfl, _⟩ := hz
    rfl
  rw [hv] at h
  exact str_le0 hu h hz
theorem strs_le {t e : TypeId} {v : Value} {d : DataW H} {ps : List MemPlace} {b : Bool} {l : List (List UInt8)} (hu : P.underlying t = some (.slice e)) (he : P.underlying e = some .string) (hc : P.cellsOf e = 1) (h : DataW.Trod enc P w 0 spare held t v d ps)
    (hz : VR (Imm.of w) B0 (.lst b (l.map AVal.str)) v) : ∀ x ∈ l, x.length ≤ Rows.uptoBulk d := by
  obtain ⟨fuel, h⟩ := h
  simp only [VR] at hz
  obtain ⟨A, cap, rfl, hl, hcap, _, hr, _⟩ := hz
  have hcs : (Value.slice A (l.map AVal.str).length cap).cells.toList = [Value.slice A (l.map AVal.str).length cap] := rfl
  intro x hx
  rcases Go.Deep.open_slice1 hu hc h with ⟨h1, _⟩ | ⟨a, len, cap', m, n, V, D, Pl, h1, _, h2, _, h3, h4, h5⟩
  · rw [hcs] at h1
    injection h1 with h1 _
    injection h1 with _ h1 _
    simp only [List.length_map, List.length_eq_zero_iff] at h1
    subst h1; cases hx
  · rw [hcs] at h1
    injection h1 with h1 _
    injection h1 with hA hlen hcap'
    subst hA
    rcases hr with hr | ⟨bb, off, k, hA, hk, hr⟩
    · simp only [List.map_eq_nil_iff] at hr; subst hr; cases hx
    · injection hA with hA
      obtain ⟨i, hi⟩ := List.getElem?_of_mem hx
      have hil : i < l.length := by
        rcases Nat.lt_or_ge i l.length with h | h
        · exact h
        · rw [List.getElem?_eq_none h] at hi; cases hi
      obtain ⟨g1, g2⟩ := LR_at hr (i := i) (x := .str x) (by simp [hi])
      have hk1 : k = 1 := by simpa [AVal.cells] using g1.symm
      subst hk1
      simp only [AVal.cells, CR, Nat.mul_one] at g2
      obtain ⟨⟨u, g3, g4⟩, _⟩ := g2
      simp only [List.length_map] at hlen
      have him : i < m := by split at h3 <;> omega
      obtain ⟨f1, f2⟩ := h5 i him
      have hVu : V i = u := by
        have e : a.add i = ⟨bb, off + i, none⟩ := by rw [addr_at (by rw [hA])]; rw [hA]
        rw [e] at f1
        unfold Imm.of at g3
        rw [f1] at g3
        exact Option.some.inj g3
      subst hVu
      have := str_le0 he f2 g4
      injection h4 with h4 _
      refine Nat.le_trans this ?_
      rw [h4]
      exact bulk_elem (List.mem_map.2 ⟨i, List.mem_range.2 (by omega), rfl⟩)
end
end Go.Proofs.YtaaflagbhneakaaDoor
namespace Go.Proofs.YtaaflagbhneakaaDoor
set_option linter.unusedSimpArgs false
set_option linter.unusedVariables false
open Go.RowKit
/-- each slice's element has a byte at least -/
def byOk (P : Program) : Nat → TypeId → Bool
  | 0, _ => true
  | n + 1, t => match P.underlying t with
    | some (.slice e) => decide (1 ≤ P.bytesOf e) && byOk P n e
    | some (.struct fs) => fs.toList.all fun f => byOk P n f.type
    | _ => true
mutual
def TyR (R : Nat) : Ty → List AVal → Prop
  | .bool, xs => ∃ b, xs = [.bool b]
  | .int k, xs => ∃ n, (Lit.int k n).wf = true ∧ xs = [.int k n]
  | .str, xs => ∃ l : List UInt8, l.length ≤ R ∧ xs = [.str l]
  | .slice s e, xs => ∃ ys : List (List AVal), xs = [.lst false (ys.map (elemV s))] ∧ ys.length ≤ R ∧ ∀ y ∈ ys, TyR R e y
  | .struct fs, xs => TysR R fs xs
def TysR (R : Nat) : List Ty → List AVal → Prop
  | [], xs => xs = []
  | f :: fs, xs => ∃ a b, xs = a ++ b ∧ TyR R f a ∧ TysR R fs b
end
section
variable {H : Type} {enc : TypeId × Value → H} {P : Program} {w : World} {spare : Nat → Bool} {held : Bool} {R : Nat}
theorem weightsAll_mem {d : DataW H} {e : TypeId} {n : Nat} : ∀ {l : List (DataW H)}, d ∈ l → n ∈ d.weights P e → n ∈ DataW.weightsAll P e l
  | x :: l, h, hn => by
    simp only [DataW.weightsAll, List.mem_append]
    rcases List.mem_cons.1 h with rfl | h
    · exact Or.inl hn
    · exact Or.inr (weightsAll_mem h hn)
theorem weights_elem {t e : TypeId} {l m : List (DataW H)} {d : DataW H} (hu : P.underlying t = some (.slice e)) (hd : d ∈ l) {n : Nat} (hn : n ∈ d.weights P e) : n ∈ (DataW.slice l m).weights P t := by
  simp only [DataW.weights, hu, List.mem_cons, List.mem_append]
  exact Or.inr (Or.inl (weightsAll_mem hd hn))
theorem tys_ofR {n fuel : Nat} {cs : List Value} (ih : ∀ (t : TypeId) (cs : List Value) (x : DataW H × List MemPlace) (T : Ty), tyOf P n t = some T → byOk P n t = true → (∀ m ∈ x.1.weights P t, m ≤ R) → DataW.trod enc P w 0 spare held fuel t cs = some x → ∃ xs, TyR R T xs ∧ VRs (Imm.of w) B0 xs cs ∧ treeC xs = true) :
    ∀ (fs : List Field) (at' : Nat) (Ts : List Ty) (ys : List (DataW H × List MemPlace)), (fs.all fun f => byOk P n f.type) = true → (∀ m ∈ DataW.weightsEach P (fs.map (·.type)) (ys.map (·.1)), m ≤ R) → offsOk P at' fs cs.length = true → fs.mapM (fun f => tyOf P n f.type) = some Ts →
      fs.mapM (fun f => DataW.trod enc P w 0 spare held fuel f.type ((cs.drop f.offset).take (P.cellsOf f.type))) = some ys → ∃ xs, TysR R Ts xs ∧ VRs (Imm.of w) B0 xs (cs.drop at') ∧ treeC xs = true
  | [], at', Ts, ys, _, _, ho, hT, _ => by
    simp only [offsOk, beq_iff_eq] at ho
    simp only [List.mapM_nil, Option.pure_def, Option.some.injEq] at hT
    subst hT ho
    exact ⟨[], by simp only [TysR], by simp [VRs], rfl⟩
  | f :: fs, at', Ts, ys, hby, hwt, ho, hT, h => by
    simp only [offsOk, Bool.and_eq_true, beq_iff_eq] at ho
    obtain ⟨T, Ts', h1, h2, rfl⟩ := mapM_cons_some hT
    obtain ⟨y, ys', h3, h4, rfl⟩ := mapM_cons_some h
    simp only [List.all_cons, Bool.and_eq_true] at hby
    simp only [List.map_cons, DataW.weightsEach, List.mem_append] at hwt
    obtain ⟨a, a1, a2, a3⟩ := ih _ _ _ _ h1 hby.1 (fun m hm => hwt m (Or.inl hm)) h3
    obtain ⟨b, b1, b2, b3⟩ := tys_ofR ih fs _ _ _ hby.2 (fun m hm => hwt m (Or.inr hm)) ho.2 h2 h4
    rw [ho.1] at a2
    refine ⟨a ++ b, by simp only [TysR]; exact ⟨a, b, rfl, a1, b1⟩, VRs_split a2 (by rw [List.drop_drop]; exact b2), treeC_append a3 b3⟩

theorem tyOneR {n : Nat} {e : TypeId} {T : Ty} (hT : tyOf P n e = some T) (hs : isRowD (P.underlying e) = false) {xs : List AVal} (h : TyR R T xs) : xs.length = 1 := by
  cases n with
  | zero => simp [tyOf] at hT
  | succ n =>
    simp only [tyOf] at hT
    split at hT
    · injection hT with hT; subst hT; simp only [TyR] at h; obtain ⟨_, rfl⟩ := h; rfl
    · injection hT with hT; subst hT; simp only [TyR] at h; obtain ⟨_, _, rfl⟩ := h; rfl
    · injection hT with hT; subst hT; simp only [TyR] at h; obtain ⟨_, _, rfl⟩ := h; rfl
    · split at hT
      · simp only [Option.map_eq_some_iff] at hT
        obtain ⟨T', _, rfl⟩ := hT
        simp only [TyR] at h; obtain ⟨_, rfl, _⟩ := h; rfl
      · cases hT
    · rename_i hu; rw [hu] at hs; simp [isRowD] at hs
    · cases hT

/-- THE READING OF AN ARGUMENT, AS A TREE -/
theorem trod_tyR : ∀ (n fuel : Nat) (t : TypeId) (cs : List Value) (x : DataW H × List MemPlace) (T : Ty), tyOf P n t = some T → byOk P n t = true → (∀ m ∈ x.1.weights P t, m ≤ R) → DataW.trod enc P w 0 spare held fuel t cs = some x →
    ∃ xs, TyR R T xs ∧ VRs (Imm.of w) B0 xs cs ∧ treeC xs = true
  | 0, fuel, t, cs, x, T, hT, _, _, _ => by simp [tyOf] at hT
  | n + 1, 0, t, cs, x, T, _, _, _, h => by simp [DataW.trod] at h
  | n + 1, fuel + 1, t, cs, x, T, hT, hby, hwt, h => by
    have h0 := h
    simp only [tyOf] at hT
    unfold DataW.trod at h
    split at hT
    · rename_i hu
      injection hT with hT; subst hT
      obtain ⟨b, rfl, _⟩ := DataW.trod_bool hu h0
      exact ⟨[.bool b], by simp only [TyR]; exact ⟨b, rfl⟩, by simp [VRs, VR], rfl⟩
    · rename_i k hu
      injection hT with hT; subst hT
      obtain ⟨n', rfl, _, hk⟩ := DataW.trod_int hu h0
      exact ⟨[.int k n'], by simp only [TyR]; exact ⟨n', hk, rfl⟩, by simp [VRs, VR], rfl⟩
    · rename_i hu
      injection hT with hT; subst hT
      obtain ⟨s, rfl, hx, hs⟩ := DataW.trod_string hu h0
      have hs' : s.data.toList.length ≤ 9223372036854775807 := by
        rw [Array.length_toList]; exact Nat.le_trans hs (by simp [maxLen])
      have hR : s.data.toList.length ≤ R := by
        subst hx
        exact hwt _ (by simp [DataW.weights])
      exact ⟨[.str s.data.toList], by simp only [TyR]; exact ⟨_, hR, rfl⟩, by simp only [VRs, VR]; exact ⟨_, _, rfl, ⟨by simp, hs'⟩, rfl⟩, rfl⟩
    · rename_i e hu
      split at hT
      case isFalse => cases hT
      rename_i hc
      simp only [Option.map_eq_some_iff] at hT
      obtain ⟨T, hT, rfl⟩ := hT
      rcases Go.Deep.open_slice hu h0 with ⟨hcs, _⟩ | ⟨a, len, cap, m, n', D, Pl, hcs, _, hl, hm, hmm, hx, hi⟩
      · subst hcs
        exact ⟨[.lst false []], by simp only [TyR]; exact ⟨[], by simp, by simp, by simp⟩, by simp only [VRs, VR]; exact ⟨_, _, rfl, ⟨none, 0, rfl, by simp, by simp, by simp, by simp, by simp [treeL]⟩, rfl⟩, rfl⟩
      · have hlm : len ≤ m := by split at hmm <;> omega
        unfold byOk at hby
        rw [hu] at hby
        simp only [Bool.and_eq_true, decide_eq_true_eq] at hby
        have hlR : len ≤ R := by
          have := hwt _ (by rw [hx]; simp only [DataW.weights, hu]; exact List.mem_cons_self ..)
          simp only [List.length_map, List.length_range] at this
          have h1 := Nat.le_mul_of_pos_right (len + (m - len)) hby.1
          omega
        have hspot : 0 < len → a.spot = none := by
          intro h0
          obtain ⟨cs', h1, h2⟩ := hi 0 (by omega)
          obtain ⟨_, h6, h7⟩ := World.cells?_some h1
          have h8 := h7 0 hc
          obtain ⟨u, hu⟩ : ∃ u, cs'[0]? = some u := ⟨cs'[0]'(by omega), by simp⟩
          rw [hu] at h8
          simp only [Nat.zero_mul, Addr.add, if_true] at h8
          exact cell_spot (b := a.block) (off := a.off) (s := a.spot) (u := u) h8
        have hall : ∀ i, ∃ xs, i < len → TyR R T xs ∧ (elemV (isRowD (P.underlying e)) xs).cells = xs ∧ xs.length = P.cellsOf e ∧ CR (Imm.of w) B0 xs a.block (a.off + i * P.cellsOf e) ∧ treeC xs = true := by
          intro i
          by_cases hlt : i < len
          · obtain ⟨cs', h1, h2⟩ := hi i (by omega)
            obtain ⟨xs, h3, h4, h5⟩ := trod_tyR n n' e cs' _ T hT hby.2 (fun q hq => hwt q (by rw [hx]; exact weights_elem hu (List.mem_map.2 ⟨i, List.mem_range.2 hlt, rfl⟩) hq)) h2
            obtain ⟨_, h6, h7⟩ := World.cells?_some h1
            have hlen := VRs_length h4
            refine ⟨xs, fun _ => ⟨h3, elemV_cells (fun hs => tyOneR hT hs h3) (fun _ => treeC_ok h5), by omega, CR_of xs cs' _ h4 (fun j hj => ?_), h5⟩⟩
            have h8 := h7 j (by omega)
            rw [Go.Deep.add_add, addr_at (hspot (by omega)), ← Nat.add_assoc] at h8
            exact h8
          · exact ⟨[], fun h => absurd h hlt⟩
        obtain ⟨Y, hY⟩ := Classical.axiomOfChoice hall
        subst hcs
        have hmx : maxLen = 9223372036854775807 := by simp [maxLen]
        rw [hmx] at hm
        refine ⟨[.lst false ((List.range len).map fun i => elemV (isRowD (P.underlying e)) (Y i))], ?_, ?_, ?_⟩
        · simp only [TyR]
          refine ⟨(List.range len).map Y, by rw [List.map_map]; rfl, by simpa using hlR, ?_⟩
          intro y hy
          obtain ⟨i, hi', rfl⟩ := List.mem_map.1 hy
          exact (hY i (List.mem_range.1 hi')).1
        · simp only [VRs, VR, List.length_map, List.length_range]
          refine ⟨_, _, rfl, ⟨some a, cap, rfl, hl, hm, by simp, ?_, treeL_of len Y fun i hlt => by rw [(hY i hlt).2.1]; exact (hY i hlt).2.2.2.2⟩, rfl⟩
          cases len with
          | zero => exact Or.inl (by simp)
          | succ len =>
            refine Or.inr ⟨a.block, a.off, P.cellsOf e, ?_, hc, LR_rng (len + 1) a.off Y fun i hlt => ?_⟩
            · have := hspot (by omega)
              cases a; simp_all
            · rw [(hY i hlt).2.1]; exact ⟨(hY i hlt).2.2.1, (hY i hlt).2.2.2.1⟩
        · simp only [treeC, tree1, Bool.and_true]
          exact treeL_of len Y fun i hlt => by rw [(hY i hlt).2.1]; exact (hY i hlt).2.2.2.2
    · rename_i fs hu
      split at hT
      case isFalse => cases hT
      rename_i ho
      simp only [Option.map_eq_some_iff] at hT
      obtain ⟨Ts, hT, rfl⟩ := hT
      rw [hu] at h
      simp only at h
      split at h
      · rename_i hl
        simp only [Option.map_eq_some_iff] at h
        obtain ⟨ys, hy, rfl⟩ := h
        unfold byOk at hby
        rw [hu] at hby
        simp only [DataW.weights, hu] at hwt
        obtain ⟨xs, h1, h2, h3⟩ := tys_ofR (fun t cs x T h h1 h2 h' => trod_tyR n fuel t cs x T h h1 h2 h') fs.toList 0 Ts ys hby hwt (by rw [hl]; exact ho) hT hy
        exact ⟨xs, by simp only [TyR]; exact h1, h2, h3⟩
      · cases h
    · cases hT

/-- a parameter's tree: a row's cells, or the one value -/
def ArgR (R : Nat) (s : Bool) (T : Ty) (x : AVal) : Prop := ∃ xs, TyR R T xs ∧ x = elemV s xs
theorem arg_tyR {n : Nat} {t : TypeId} {v : Value} {d : DataW H} {ps : List MemPlace} {T : Ty} {r : Reach} {b0 : Nat} (hT : tyOf P n t = some T) (hby : byOk P n t = true) (hwt : ∀ m ∈ d.weights P t, m ≤ R) (hv : Value.okWide P w r b0 t v) (h : DataW.Trod enc P w 0 spare held t v d ps) :
    ∃ x, ArgR R (isRowD (P.underlying t)) T x ∧ VR (Imm.of w) B0 x v ∧ treeC x.cells = true := by
  obtain ⟨fuel, h⟩ := h
  obtain ⟨xs, h1, h2, h3⟩ := trod_tyR n fuel t _ _ T hT hby hwt h
  refine ⟨elemV (isRowD (P.underlying t)) xs, ⟨xs, h1, rfl⟩, ?_⟩
  by_cases hs : isRowD (P.underlying t) = true
  · have : ∃ cs, v = .agg cs := by
      unfold Value.okWide at hv
      cases hu : P.underlying t with
      | none => rw [hu] at hs; simp [isRowD] at hs
      | some dd =>
        rw [hu] at hv hs
        cases dd <;> first | (simp [isRowD] at hs; done) | (obtain ⟨cs, e, _⟩ := hv; exact ⟨cs, e⟩)
    obtain ⟨cs, rfl⟩ := this
    rw [hs]
    exact ⟨by simp only [elemV, if_true, VR]; exact ⟨cs, rfl, h2⟩, h3⟩
  · have hs' : isRowD (P.underlying t) = false := by simpa using hs
    have hl := tyOneR hT hs' h1
    have hlen := VRs_length h2
    rw [hs']
    match xs, hl with
    | [x], _ =>
      simp only [elemV, Bool.false_eq_true, if_false, List.headD_cons]
      have hvc : v.cells = #[v] := by
        cases n with
        | zero => simp [tyOf] at hT
        | succ n =>
          simp only [tyOf] at hT
          split at hT
          · rename_i hu; obtain ⟨b, rfl⟩ := Go.WideShapes.okWide_bool hu hv; rfl
          · rename_i k hu; obtain ⟨b, rfl⟩ := Go.WideShapes.okWide_int hu hv; rfl
          · rename_i hu; obtain ⟨b, rfl⟩ := Go.WideShapes.okWide_string hu hv; rfl
          · rename_i e hu; obtain ⟨a, l, c, rfl⟩ := Go.WideShapes.okWide_slice hu hv; rfl
          · rename_i fs hu; rw [hu] at hs'; simp [isRowD] at hs'
          · cases hT
      rw [hvc] at h2
      simp only [VRs] at h2
      obtain ⟨v', vs', e, h2, _⟩ := h2
      simp only [List.cons.injEq] at e
      rw [e.1]
      refine ⟨h2, ?_⟩
      have hok := treeC_ok h3 x (by simp)
      have hx : x.cells = [x] := by cases x <;> first | rfl | (simp [okCell] at hok; done)
      rw [hx]; exact h3
end
end Go.Proofs.YtaaflagbhneakaaDoor
namespace Go.Proofs.YtaaflagbhneakaaDoor
set_option linter.unusedSimpArgs false
set_option linter.unusedVariables false
open Go.RowKit
variable {R : Nat}
theorem rows_ofR {α : Type} {T : Ty} {s : Bool} {f : α → AVal} {Q : α → Prop} (h : ∀ y, TyR R T y → ∃ a, Q a ∧ elemV s y = f a) {xs : List AVal} (hx : TyR R (.slice s T) xs) : ∃ l : List α, (l.length ≤ R ∧ ∀ a ∈ l, Q a) ∧ xs = [.lst false (l.map f)] := by
  simp only [TyR] at hx
  obtain ⟨ys, rfl, h1, h2⟩ := hx
  have : ∀ ys : List (List AVal), (∀ y ∈ ys, TyR R T y) → ∃ l : List α, (∀ a ∈ l, Q a) ∧ ys.map (elemV s) = l.map f := by
    intro ys
    induction ys with
    | nil => intro _; exact ⟨[], by simp, rfl⟩
    | cons y ys ih =>
      intro hy
      obtain ⟨a, hq, ha⟩ := h y (hy y (by simp))
      obtain ⟨l, hql, hl⟩ := ih fun y' h' => hy y' (by simp [h'])
      exact ⟨a :: l, by simpa using ⟨hq, hql⟩, by simp [ha, hl]⟩
  obtain ⟨l, hq, hl⟩ := this ys h2
  refine ⟨l, ⟨?_, hq⟩, by rw [hl]⟩
  have := congrArg List.length hl
  simp only [List.length_map] at this
  omega
theorem byte_ofR {y : List AVal} (h : TyR R (.int .u8) y) : ∃ b, True ∧ elemV false y = byteV b := by
  simp only [TyR] at h
  obtain ⟨n, hw, rfl⟩ := h
  have h1 : 0 ≤ n ∧ n ≤ 255 := by
    simp only [Lit.wf, Bool.and_eq_true, decide_eq_true_eq] at hw
    exact hw
  refine ⟨UInt8.ofNat n.toNat, trivial, ?_⟩
  simp only [elemV, Bool.false_eq_true, if_false, List.headD_cons, byteV, AVal.int.injEq, true_and]
  rw [UInt8.toNat_ofNat']
  omega
theorem bytes_ofR {xs : List AVal} (h : TyR R (.slice false (.int .u8)) xs) : ∃ b : Bytes, b.length ≤ R ∧ xs = [bytesV b] := by
  obtain ⟨b, h1, h2⟩ := rows_ofR (Q := fun _ => True) (fun _ => byte_ofR) h
  exact ⟨b, h1.1, h2⟩
def okI (n : Int) : Prop := -9223372036854775808 ≤ n ∧ n ≤ 9223372036854775807
theorem int1_ofR {y : List AVal} (h : TyR R (.int .i64) y) : ∃ n, okI n ∧ y = [.int .i64 n] := by
  simp only [TyR] at h
  obtain ⟨n, hw, rfl⟩ := h
  refine ⟨n, ?_, rfl⟩
  simp only [Lit.wf, Bool.and_eq_true, decide_eq_true_eq] at hw
  exact hw
theorem bool1_ofR {y : List AVal} (h : TyR R .bool y) : ∃ b, y = [.bool b] := by
  simp only [TyR] at h; exact h
theorem str1_ofR {y : List AVal} (h : TyR R .str y) : ∃ l : Bytes, l.length ≤ R ∧ y = [.str l] := by
  simp only [TyR] at h; exact h
theorem strs_ofR {xs : List AVal} (h : TyR R (.slice false .str) xs) : ∃ l : List Bytes, (l.length ≤ R ∧ ∀ x ∈ l, x.length ≤ R) ∧ xs = [.lst false (l.map AVal.str)] :=
  rows_ofR (fun y hy => by obtain ⟨l, h1, rfl⟩ := str1_ofR hy; exact ⟨l, h1, rfl⟩) h
theorem ints_ofR {xs : List AVal} (h : TyR R (.slice false (.int .i64)) xs) : ∃ l : List Int, (l.length ≤ R ∧ ∀ n ∈ l, okI n) ∧ xs = [.lst false (l.map (AVal.int .i64))] :=
  rows_ofR (fun y hy => by obtain ⟨n, h1, rfl⟩ := int1_ofR hy; exact ⟨n, h1, rfl⟩) h
def propT : Ty := .struct [.int .i64, .int .i64, .str, .str, .slice false (.int .u8)]
def okProp (R : Nat) (p : PropD) : Prop := okI p.id ∧ okI p.num ∧ p.text.length ≤ R ∧ p.pair.length ≤ R ∧ p.data.length ≤ R
theorem prop_ofR {y : List AVal} (h : TyR R propT y) : ∃ p, okProp R p ∧ elemV true y = propV p := by
  unfold propT at h
  rw [TyR] at h
  simp only [TysR] at h
  obtain ⟨_, _, rfl, h1, _, _, rfl, h2, _, _, rfl, h3, _, _, rfl, h4, _, _, rfl, h5, rfl⟩ := h
  obtain ⟨i, i1, rfl⟩ := int1_ofR h1
  obtain ⟨n, n1, rfl⟩ := int1_ofR h2
  obtain ⟨t, t1, rfl⟩ := str1_ofR h3
  obtain ⟨q, q1, rfl⟩ := str1_ofR h4
  obtain ⟨d, d1, rfl⟩ := bytes_ofR h5
  exact ⟨⟨i, n, t, q, d⟩, ⟨i1, n1, t1, q1, d1⟩, rfl⟩
def okProps (R : Nat) (l : List PropD) : Prop := l.length ≤ R ∧ ∀ p ∈ l, okProp R p
theorem props_ofR {xs : List AVal} (h : TyR R (.slice true propT) xs) : ∃ l : List PropD, okProps R l ∧ xs = [propsV l] := rows_ofR (fun _ => prop_ofR) h
def subT : Ty := .struct [.str, .int .i64, .bool, .bool, .int .i64, .int .i64]
theorem sub_ofR {y : List AVal} (h : TyR R subT y) : ∃ p : SubD, (p.filter.length ≤ R ∧ okI p.qos ∧ okI p.handling ∧ okI p.id) ∧ elemV true y = subV p := by
  unfold subT at h
  rw [TyR] at h
  simp only [TysR] at h
  obtain ⟨_, _, rfl, h1, _, _, rfl, h2, _, _, rfl, h3, _, _, rfl, h4, _, _, rfl, h5, _, _, rfl, h6, rfl⟩ := h
  obtain ⟨f, f1, rfl⟩ := str1_ofR h1
  obtain ⟨q, q1, rfl⟩ := int1_ofR h2
  obtain ⟨n, rfl⟩ := bool1_ofR h3
  obtain ⟨a, rfl⟩ := bool1_ofR h4
  obtain ⟨k, k1, rfl⟩ := int1_ofR h5
  obtain ⟨i, i1, rfl⟩ := int1_ofR h6
  exact ⟨⟨f, q, n, a, k, i⟩, ⟨f1, q1, k1, i1⟩, rfl⟩
def willT : Ty := .struct [.str, .slice false (.int .u8), .int .i64, .bool, .slice true propT]
def packetT : Ty := .struct [.int .i64, .bool, .int .i64, .bool, .int .i64, .str, .slice false (.int .u8), .int .i64, .slice false (.int .i64), .slice true propT, .slice true subT, .slice false .str, .bool, .int .i64, .str, .bool, willT, .bool, .str, .bool, .slice false (.int .u8), .bool]
structure OkPack (R : Nat) (p : PacketD) : Prop where
  topic : p.topic.length ≤ R
  payload : p.payload.length ≤ R
  codes : p.codes.length ≤ R ∧ ∀ n ∈ p.codes, okI n
  props : okProps R p.props
  subs : p.subs.length ≤ R ∧ ∀ s ∈ p.subs, s.filter.length ≤ R ∧ okI s.qos ∧ okI s.handling ∧ okI s.id
  filters : p.filters.length ≤ R ∧ ∀ f ∈ p.filters, f.length ≤ R
  client : p.client.length ≤ R
  wtopic : p.will.topic.length ≤ R
  wdata : p.will.data.length ≤ R
  wprops : okProps R p.will.props
  user : p.user.length ≤ R
  password : p.password.length ≤ R
  ints : okI p.type ∧ okI p.qos ∧ okI p.id ∧ okI p.code ∧ okI p.keep ∧ okI p.will.qos
theorem packet_ofR {x : AVal} (h : ArgR R true packetT x) : ∃ p, OkPack R p ∧ x = packV p := by
  obtain ⟨y, h, rfl⟩ := h
  unfold packetT at h
  rw [TyR] at h
  simp only [TysR] at h
  obtain ⟨_, _, rfl, h1, _, _, rfl, h2, _, _, rfl, h3, _, _, rfl, h4, _, _, rfl, h5, _, _, rfl, h6, _, _, rfl, h7, _, _, rfl, h8, _, _, rfl, h9, _, _, rfl, h10, _, _, rfl, h11, _, _, rfl, h12, _, _, rfl, h13, _, _, rfl, h14, _, _, rfl, h15, _, _, rfl, h16, _, _, rfl, h17, _, _, rfl, h18, _, _, rfl, h19, _, _, rfl, h20, _, _, rfl, h21, _, _, rfl, h22, rfl⟩ := h
  unfold willT at h17
  rw [TyR] at h17
  simp only [TysR] at h17
  obtain ⟨_, _, rfl, w1, _, _, rfl, w2, _, _, rfl, w3, _, _, rfl, w4, _, _, rfl, w5, rfl⟩ := h17
  obtain ⟨a1, b1, rfl⟩ := int1_ofR h1
  obtain ⟨a2, rfl⟩ := bool1_ofR h2
  obtain ⟨a3, b3, rfl⟩ := int1_ofR h3
  obtain ⟨a4, rfl⟩ := bool1_ofR h4
  obtain ⟨a5, b5, rfl⟩ := int1_ofR h5
  obtain ⟨a6, b6, rfl⟩ := str1_ofR h6
  obtain ⟨a7, b7, rfl⟩ := bytes_ofR h7
  obtain ⟨a8, b8, rfl⟩ := int1_ofR h8
  obtain ⟨a9, b9, rfl⟩ := ints_ofR h9
  obtain ⟨a10, b10, rfl⟩ := props_ofR h10
  obtain ⟨a11, b11, rfl⟩ := rows_ofR (fun _ => sub_ofR) h11
  obtain ⟨a12, b12, rfl⟩ := strs_ofR h12
  obtain ⟨a13, rfl⟩ := bool1_ofR h13
  obtain ⟨a14, b14, rfl⟩ := int1_ofR h14
  obtain ⟨a15, b15, rfl⟩ := str1_ofR h15
  obtain ⟨a16, rfl⟩ := bool1_ofR h16
  obtain ⟨v1, u1, rfl⟩ := str1_ofR w1
  obtain ⟨v2, u2, rfl⟩ := bytes_ofR w2
  obtain ⟨v3, u3, rfl⟩ := int1_ofR w3
  obtain ⟨v4, rfl⟩ := bool1_ofR w4
  obtain ⟨v5, u5, rfl⟩ := props_ofR w5
  obtain ⟨a18, rfl⟩ := bool1_ofR h18
  obtain ⟨a19, b19, rfl⟩ := str1_ofR h19
  obtain ⟨a20, rfl⟩ := bool1_ofR h20
  obtain ⟨a21, b21, rfl⟩ := bytes_ofR h21
  obtain ⟨a22, rfl⟩ := bool1_ofR h22
  exact ⟨⟨a1, a2, a3, a4, a5, a6, a7, a8, a9, a10, a11, a12, a13, a14, a15, a16, ⟨v1, v2, v3, v4, v5⟩, a18, a19, a20, a21, a22⟩, ⟨b6, b7, b9, b10, b11, b12, b15, u1, u2, u5, b19, b21, b1, b3, b5, b8, b14, u3⟩, rfl⟩
theorem str_ofR {x : AVal} (h : ArgR R false .str x) : ∃ l : Bytes, l.length ≤ R ∧ x = .str l := by
  obtain ⟨y, h, rfl⟩ := h
  obtain ⟨l, h1, rfl⟩ := str1_ofR h
  exact ⟨l, h1, rfl⟩
theorem int_ofR {x : AVal} (h : ArgR R false (.int .i64) x) : ∃ n : Int, okI n ∧ x = .int .i64 n := by
  obtain ⟨y, h, rfl⟩ := h
  obtain ⟨l, h1, rfl⟩ := int1_ofR h
  exact ⟨l, h1, rfl⟩
theorem bool_ofR {x : AVal} (h : ArgR R false .bool x) : ∃ n : Bool, x = .bool n := by
  obtain ⟨y, h, rfl⟩ := h
  obtain ⟨l, rfl⟩ := bool1_ofR h
  exact ⟨l, rfl⟩
def userT : Ty := .struct [.str, .slice false (.int .u8)]
theorem user_ofR {y : List AVal} (h : TyR R userT y) : ∃ u : UserD, (u.name.length ≤ R ∧ u.secret.length ≤ R) ∧ elemV true y = userV u := by
  unfold userT at h
  rw [TyR] at h
  simp only [TysR] at h
  obtain ⟨_, _, rfl, h1, _, _, rfl, h2, rfl⟩ := h
  obtain ⟨n, n1, rfl⟩ := str1_ofR h1
  obtain ⟨s, s1, rfl⟩ := bytes_ofR h2
  exact ⟨⟨n, s⟩, ⟨n1, s1⟩, rfl⟩
theorem users_ofR {x : AVal} (h : ArgR R false (.slice true userT) x) : ∃ l : List UserD, (l.length ≤ R ∧ ∀ u ∈ l, u.name.length ≤ R ∧ u.secret.length ≤ R) ∧ x = .lst false (l.map userV) := by
  obtain ⟨y, h, rfl⟩ := h
  obtain ⟨l, h1, rfl⟩ := rows_ofR (fun _ => user_ofR) h
  exact ⟨l, h1, rfl⟩
end Go.Proofs.YtaaflagbhneakaaDoor
namespace Go.Proofs.YtaaflagbhneakaaDoor
set_option linter.unusedSimpArgs false
set_option linter.unusedVariables false
open Go.ChangeShapes Go.WideShapes Go.ChangeAt Go.RowKit Go.Deep
theorem connMeets_own : ownKnob Tryd.prog.godebug = none := by kernel_rfl
theorem connMeets_laidOut : laidOutB Tryd.prog = true := by kernel_rfl
theorem connMeets_glob {W : World} (hLH : laidMetH Tryd.prog Rows.connMeetsRow.laid W) : Gl.le (Imm.of W) := by
  have hL : laidMet Tryd.prog Rows.connMeetsRow.laid W := by rw [← MakeChecks.laidMetH_plain _ _ _ (by kernel_rfl)]; exact hLH
  have e1 : Rows.laid_unicode_utf8_first = Lib.firstData := by kernel_rfl
  have e2 : (Rows.laid_unicode_utf8_acceptRanges : DataW Unit) = Lib.acceptData := by kernel_rfl
  have h1 : Lib.VarReads Tryd.prog W "unicode/utf8.first" Lib.firstData := by rw [← e1]; exact Lib.laidMet.reads hL (.tail _ (.head _))
  have h2 : Lib.VarReads Tryd.prog W "unicode/utf8.acceptRanges" Lib.acceptData := by rw [← e2]; exact Lib.laidMet.reads hL (.head _)
  exact gl_of_tabs (utf8Tabs_of_readsT (U8Types.of196 lay196) ⟨by kernel_rfl, by kernel_rfl, by kernel_rfl, by kernel_rfl, by kernel_rfl, by kernel_rfl, by kernel_rfl⟩ h1 h2)
set_option maxRecDepth 100000 in
set_option maxHeartbeats 1000000 in
theorem connMeets_contract (H : Type) (enc : TypeId × Value → H) (W : World) (base : Nat) (args : Array Value) (ds gs : List (DataW H)) (before : List MemPlace) (vts : List TypeId)
    (hval0 : ∀ (j : Nat) t v, Tryd.f3.params[j]? = some t → args[j]? = some v → Value.okWide Tryd.prog W .any base t v)
    (hW : DataW.Whole enc Tryd.prog Tryd.f3.params.toList Rows.connMeetsSpec.vars false W args.toList ds gs before) (hL : laidMetH Tryd.prog Rows.connMeetsRow.laid W) (hwt : (DataW.weightsEach Tryd.prog (Tryd.f3.params.toList ++ vts) (ds ++ gs)).all (· ≤ reachBytes) = true) :
    Calls Tryd.prog 3 args W fun e W' => ∃ v, e = .returned v ∧ Rows.connMeetsSpec.post enc Tryd.prog Tryd.f3 false true false false W args v W' := by
  have hW' := hW
  obtain ⟨p, q, hA0, hV, rfl, hfz, hnd⟩ := hW
  have hval : ∀ (j : Nat) t v, Tryd.f3.params[j]? = some t → args[j]? = some v → Value.okWide Tryd.prog W .any base t v := hval0
  have hA : DataW.TrodAll enc Tryd.prog W 0 (fun _ => true) true Tryd.f3.params.toList args.toList ds p := hA0
  rw [Tryd.params3] at hA hval hwt
  obtain ⟨v0, vs0, d0, ds0, p0, q0, hargs, rfl, rfl, h0, r0⟩ := trodAll_cons hA
  obtain ⟨v1, vs1, d1, ds1, p1, q1, rfl, rfl, rfl, h1, r1⟩ := trodAll_cons r0
  obtain ⟨v2, vs2, d2, ds2, p2, q2, rfl, rfl, rfl, h2, r2⟩ := trodAll_cons r1
  obtain ⟨v3, vs3, d3, ds3, p3, q3, rfl, rfl, rfl, h3, r3⟩ := trodAll_cons r2
  obtain ⟨v4, vs4, d4, ds4, p4, q4, rfl, rfl, rfl, h4, r4⟩ := trodAll_cons r3
  obtain ⟨rfl, rfl, rfl⟩ := trodAll_nil r4
  obtain rfl : args = #[v0, v1, v2, v3, v4] := by cases args; simp_all
  obtain ⟨rfl, rfl⟩ := trodVars_none hV
  have k0 := h0
  have lt0 : ∀ x ∈ p0, x.block < W.heap.size := by obtain ⟨m, hm⟩ := k0; exact DataW.trod_lt m _ _ _ hm
  obtain ⟨x0, y0, z0, _⟩ := arg_tyR (R := reachBytes) (n := 12) (T := .bool) (by kernel_rfl) (by kernel_rfl) (fun m hm => of_decide_eq_true (List.all_eq_true.1 hwt m (DataW.weights_mem_each (j := 0) rfl rfl m hm))) (hval 0 4 v0 rfl rfl) h0
  rw [Tryd.underlying4] at y0
  obtain ⟨a0, rfl⟩ := bool_ofR y0
  have k1 := h1
  have lt1 : ∀ x ∈ p1, x.block < W.heap.size := by obtain ⟨m, hm⟩ := k1; exact DataW.trod_lt m _ _ _ hm
  obtain ⟨x1, y1, z1, _⟩ := arg_tyR (R := reachBytes) (n := 12) (T := (.slice true userT)) (by kernel_rfl) (by kernel_rfl) (fun m hm => of_decide_eq_true (List.all_eq_true.1 hwt m (DataW.weights_mem_each (j := 1) rfl rfl m hm))) (hval 1 22 v1 rfl rfl) h1
  rw [Tryd.underlying22] at y1
  obtain ⟨a1, b1, rfl⟩ := users_ofR y1
  have k2 := h2
  have lt2 : ∀ x ∈ p2, x.block < W.heap.size := by obtain ⟨m, hm⟩ := k2; exact DataW.trod_lt m _ _ _ hm
  obtain ⟨x2, y2, z2, _⟩ := arg_tyR (R := reachBytes) (n := 12) (T := packetT) (by kernel_rfl) (by kernel_rfl) (fun m hm => of_decide_eq_true (List.all_eq_true.1 hwt m (DataW.weights_mem_each (j := 2) rfl rfl m hm))) (hval 2 32 v2 rfl rfl) h2
  rw [Tryd.underlying32] at y2
  obtain ⟨a2, b2, rfl⟩ := packet_ofR y2
  have k3 := h3
  have lt3 : ∀ x ∈ p3, x.block < W.heap.size := by obtain ⟨m, hm⟩ := k3; exact DataW.trod_lt m _ _ _ hm
  obtain ⟨x3, y3, z3, _⟩ := arg_tyR (R := reachBytes) (n := 12) (T := .str) (by kernel_rfl) (by kernel_rfl) (fun m hm => of_decide_eq_true (List.all_eq_true.1 hwt m (DataW.weights_mem_each (j := 3) rfl rfl m hm))) (hval 3 9 v3 rfl rfl) h3
  rw [Tryd.underlying9] at y3
  obtain ⟨a3, b3, rfl⟩ := str_ofR y3
  have k4 := h4
  have lt4 : ∀ x ∈ p4, x.block < W.heap.size := by obtain ⟨m, hm⟩ := k4; exact DataW.trod_lt m _ _ _ hm
  obtain ⟨x4, y4, z4, _⟩ := arg_tyR (R := reachBytes) (n := 12) (T := (.int .i64)) (by kernel_rfl) (by kernel_rfl) (fun m hm => of_decide_eq_true (List.all_eq_true.1 hwt m (DataW.weights_mem_each (j := 4) rfl rfl m hm))) (hval 4 3 v4 rfl rfl) h4
  rw [Tryd.underlying3] at y4
  obtain ⟨a4, b4, rfl⟩ := int_ofR y4
  clear hA0 hval0
  have rb : reachBytes ≤ 140737488355328 := by decide
  obtain ⟨σq, hq⟩ := q_meets a0 a1 a2 a3 a4 (fun u hu => Nat.le_trans (b1.2 u hu).2 rb) (fun x hx => Nat.le_trans (b2.props.2 x hx).2.2.2.2 rb) (fun x hx => Nat.le_trans (b2.wprops.2 x hx).2.2.2.2 rb) (by have := b2.client; omega) (by omega)
  refine (walk_of E_ok (connMeets_glob hL) (args := [.bool a0, .lst false (a1.map userV), packV a2, .str a3, .int .i64 a4]) (by simp only [VRs]; exact ⟨_, _, rfl, z0, _, _, rfl, z1, _, _, rfl, z2, _, _, rfl, z3, _, _, rfl, z4, rfl⟩) (hq)).mono fun e W' ⟨he, bel⟩ => ?_
  subst he
  exact ⟨_, rfl, _, _, _, [], _, [], hW', trodAll_mk1 (shut_bool Tryd.underlying4 _), (trodAll_cons_mk (Below.trod connMeets_laidOut (by kernel_rfl) (of_decide_eq_true (by kernel_rfl)) k0 bel lt0) (trodAll_cons_mk (Below.trod connMeets_laidOut (by kernel_rfl) (of_decide_eq_true (by kernel_rfl)) k1 bel lt1) (trodAll_cons_mk (Below.trod connMeets_laidOut (by kernel_rfl) (of_decide_eq_true (by kernel_rfl)) k2 bel lt2) (trodAll_cons_mk (Below.trod connMeets_laidOut (by kernel_rfl) (of_decide_eq_true (by kernel_rfl)) k3 bel lt3) (trodAll_cons_mk (Below.trod connMeets_laidOut (by kernel_rfl) (of_decide_eq_true (by kernel_rfl)) k4 bel lt4) trodAll_mk0))))), rfl, bel.frame _, fun h => by cases h⟩
noncomputable def connMeets_world (os : Os) : World :=
  let w0 := World.holding Tryd.prog os ⟨#[], #[], []⟩
  let put (h : Array Obj) (g : Nat) (us : Array Value) : Array Obj := h.modify g fun
    | .cells _ t frozen => .cells us t frozen
    | o => o
  let h1 := put w0.heap 0 (Lib.firstTab.map fun z => Value.int .u8 z).toArray
  let h2 := put h1 1 ((List.range 16).flatMap fun i => [Value.int .u8 (Lib.accLo i), Value.int .u8 (Lib.accHi i)]).toArray
  { w0 with heap := h2 }
theorem connMeets_met (os : Os) : laidMet Tryd.prog Rows.connMeetsRow.laid ((connMeets_world os).forCall (fun _ _ => 0) ⟨#[], #[.bool false, .slice none 0 0, .agg #[.int .i64 0, .bool false, .int .i64 0, .bool false, .int .i64 0, .string ByteArray.empty, .slice none 0 0, .int .i64 0, .slice none 0 0, .slice none 0 0, .slice none 0 0, .slice none 0 0, .bool false, .int .i64 0, .string ByteArray.empty, .bool false, .string ByteArray.empty, .slice none 0 0, .int .i64 0, .bool false, .slice none 0 0, .bool false, .string ByteArray.empty, .bool false, .slice none 0 0, .bool false], .string ByteArray.empty, .int .i64 0], []⟩).memory :=
  laidMet_of_run' 8 (by kernel_rfl) (by kernel_rfl)
theorem connMeets_reads (os : Os) {H : Type} (enc : TypeId × Value → H) : ∃ ds places, DataW.whole enc Tryd.prog ((connMeets_world os).forCall (fun _ _ => 0) ⟨#[], #[.bool false, .slice none 0 0, .agg #[.int .i64 0, .bool false, .int .i64 0, .bool false, .int .i64 0, .string ByteArray.empty, .slice none 0 0, .int .i64 0, .slice none 0 0, .slice none 0 0, .slice none 0 0, .slice none 0 0, .bool false, .int .i64 0, .string ByteArray.empty, .bool false, .string ByteArray.empty, .slice none 0 0, .int .i64 0, .bool false, .slice none 0 0, .bool false, .string ByteArray.empty, .bool false, .slice none 0 0, .bool false], .string ByteArray.empty, .int .i64 0], []⟩).memory Tryd.f3.params.toList Rows.connMeetsSpec.vars false #[.bool false, .slice none 0 0, .agg #[.int .i64 0, .bool false, .int .i64 0, .bool false, .int .i64 0, .string ByteArray.empty, .slice none 0 0, .int .i64 0, .slice none 0 0, .slice none 0 0, .slice none 0 0, .slice none 0 0, .bool false, .int .i64 0, .string ByteArray.empty, .bool false, .string ByteArray.empty, .slice none 0 0, .int .i64 0, .bool false, .slice none 0 0, .bool false, .string ByteArray.empty, .bool false, .slice none 0 0, .bool false], .string ByteArray.empty, .int .i64 0].toList 8 = some (ds, [], places) :=
  ⟨[.lit (.bool false), .nil, .agg [.lit (.int .i64 0), .lit (.bool false), .lit (.int .i64 0), .lit (.bool false), .lit (.int .i64 0), .lit (.string []), .nil, .lit (.int .i64 0), .nil, .nil, .nil, .nil, .lit (.bool false), .lit (.int .i64 0), .lit (.string []), .lit (.bool false), .agg [.lit (.string []), .nil, .lit (.int .i64 0), .lit (.bool false), .nil], .lit (.bool false), .lit (.string []), .lit (.bool false), .nil, .lit (.bool false)], .lit (.string []), .lit (.int .i64 0)], [], by kernel_rfl⟩
set_option maxRecDepth 100000 in
set_option maxHeartbeats 1000000 in
theorem connMeets_lifted (os : Os) (started : os.Started) (H : Type) (enc : TypeId × Value → H) (F : Stop.Interp) :
    ReturnsInHanded {} Tryd.checked os 3 .any ((OpenSpec.ofChange Rows.connMeetsSpec).preRow enc Tryd.prog Tryd.f3 Rows.connMeetsRow.domain false Rows.connMeetsRow.laid) (((OpenSpec.ofChange Rows.connMeetsSpec).at F).post enc Tryd.prog Tryd.f3 false true false false) := by
  obtain ⟨ds, places, hx⟩ := connMeets_reads os enc
  refine returnsInHanded_of_row (C := Tryd.checked) (s := (OpenSpec.ofChange Rows.connMeetsSpec)) connMeets_own started (by kernel_rfl) Tryd.func3
    (witness_row_at (enc := enc) (C := Tryd.checked) false (connMeets_world os) #[.bool false, .slice none 0 0, .agg #[.int .i64 0, .bool false, .int .i64 0, .bool false, .int .i64 0, .string ByteArray.empty, .slice none 0 0, .int .i64 0, .slice none 0 0, .slice none 0 0, .slice none 0 0, .slice none 0 0, .bool false, .int .i64 0, .string ByteArray.empty, .bool false, .string ByteArray.empty, .slice none 0 0, .int .i64 0, .bool false, .slice none 0 0, .bool false, .string ByteArray.empty, .bool false, .slice none 0 0, .bool false], .string ByteArray.empty, .int .i64 0] rfl (by kernel_rfl) (by kernel_rfl) (by kernel_rfl)
      (OpenSpec.preRow_of_cond 8 hx (by kernel_rfl) (fun k hk => by cases hk) (by kernel_rfl) (connMeets_met os))) ?_
  intro W base args ds gs before hval hW _ hcond hwt hL _ _
  exact connMeets_contract H enc W base args ds gs before _ hval hW hL hwt
theorem connMeets_said : Rows.ConnMeetsSaid :=
  OpenClaim.holds_of_cond 3 Tryd.f3 rfl rfl rfl rfl rfl rfl rfl ⟨rfl, rfl, rfl, rfl, rfl⟩ rfl rfl rfl rfl rfl (by kernel_rfl) Tryd.func3 (by kernel_rfl)
    (of_decide_eq_true (by kernel_rfl)) (by unfold Func.isWrapper; first | (rw [if_pos (by decide +kernel)]; kernel_rfl) | (rw [if_neg (by decide +kernel)]; exact ⟨rfl, rfl⟩))
    (fun os started H enc _ F => by rw [OpenClaim.pre_eq_preRow]; exact connMeets_lifted os started H enc F)
theorem connMeets_plain (f : FuncId) (fn : Func) (hf : Tryd.pinned.checked.prog.funcNamed "tidings/tidingslaw23.ConnMeets" = some f) (hfn : Tryd.pinned.checked.prog.funcs[f]? = some fn) :
    false = Tryd.pinned.checked.prog.looks [] ∧ ∀ (j : Nat) t, fn.params[j]? = some t → Tryd.pinned.checked.prog.wantsStandIn t = false := by
  obtain rfl : f = 3 := Option.some.inj ((show Tryd.prog.funcNamed "tidings/tidingslaw23.ConnMeets" = some 3 by kernel_rfl).symm.trans hf) |>.symm
  obtain rfl : fn = Tryd.f3 := (Option.some.inj (Tryd.func3.symm.trans hfn)).symm
  refine ⟨by kernel_rfl, fun j t ht => ?_⟩
  rw [Tryd.params3] at ht
  have hm : t = 22 ∨ t = 32 ∨ t = 4 ∨ t = 3 ∨ t = 9 := by
    have := Array.mem_of_getElem? ht
    simp at this
    first | exact this | exact this.symm | omega | (rcases this with h | h | h <;> simp [h]) | (rcases this with h | h | h | h <;> simp [h]) | (rcases this with h | h | h | h | h <;> simp [h]) | (rcases this with h | h | h | h | h | h <;> simp [h]) | (rcases this with h | h | h | h | h | h | h <;> simp [h])
  rcases hm with rfl | rfl | rfl | rfl | rfl
  · exact (show Tryd.prog.wantsStandIn 22 = false by kernel_rfl)
  · exact (show Tryd.prog.wantsStandIn 32 = false by kernel_rfl)
  · exact (show Tryd.prog.wantsStandIn 4 = false by kernel_rfl)
  · exact (show Tryd.prog.wantsStandIn 3 = false by kernel_rfl)
  · exact (show Tryd.prog.wantsStandIn 9 = false by kernel_rfl)
theorem connMeets_card : Rows.ConnMeetsCardSaid :=
  Claim7.holds_tied_plain_at .later [] _ _ _ _ connMeets_said (fun _ h => by cases h) (by kernel_rfl) (fun _ h => by cases h) connMeets_row_tie rfl ⟨rfl, rfl⟩ (by kernel_rfl) rfl connMeets_plain (by kernel_rfl)
#print axioms connMeets_card
end Go.Proofs.YtaaflagbhneakaaDoor
