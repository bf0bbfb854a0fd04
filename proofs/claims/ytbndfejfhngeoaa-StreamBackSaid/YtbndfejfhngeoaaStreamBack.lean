/- The walk of the law StreamBack. -/
import Derived.Test.YtbndfejfhngeoaaWakes
import Derived.Test.YtbndfejfhngeoaaStreamPieces
import Derived.Test.YtbndfejfhngeoaaStreamDead
import Derived.Test.YtbndfejfhngeoaaBackLaw
import Derived.Test.YtbndfejfhngeoaaMem2
import Derived.Deep.RegionHeld3
import Derived.Deep.DrawnRows
namespace Go.Proofs.Ytbndfejfhngeoaa
open Go.RowKit
attribute [local go_sem ↓] Go.wp_at_zero Go.wp_at_succ

/-- a frame whose body is cut -/
def cutF (f : UInt8 × List UInt8) : UInt8 × List UInt8 := (f.1, f.2.take 200)

/-- what holds at the head of the law's loop -/
def BackRel (gs : List (UInt8 × List UInt8)) (w : World) (k : Nat) (l b most : Value) (wr : World) : Prop :=
  ∃ (Al Ab : Option Addr) (nl cl nb cb : Nat) (bs : List Value), l = .slice Al nl cl ∧ b = .slice Ab nb cb ∧ most = .int .i64 (mostF (gs.take k) : Nat) ∧ nl = k ∧
    wr.ownsRow w.heap.size 54 2 (.slice Al nl cl) nl (frCells (gs.take k) bs) ∧ Parts w bs ((gs.take k).map (·.2)) ∧
    wr.ownsRow w.heap.size 5 1 (.slice Ab nb cb) nb (bVs (encA (gs.take k))) ∧ nb ≤ 300 * k ∧ Below w.heap.size w wr

theorem FrRead.below {w w' : World} {A : Option Addr} {fs : List (UInt8 × List UInt8)} (h : FrRead w A fs) (hb : Below w.heap.size w w') : FrRead w' A fs := by
  obtain ⟨bs, h1, h2⟩ := h
  exact ⟨bs, h1.below hb, h2.below hb⟩
theorem FrRead.at2 {w : World} {A : Option Addr} {fs : List (UInt8 × List UInt8)} (h : FrRead w A fs) {k : Nat} (hk : k < fs.length) :
    ∃ b off A1 c1 x l, A = some ⟨b, off, none⟩ ∧ fs[k] = (x, l) ∧ w.cell? ⟨b, off + k * 2, none⟩ = some (.int .u8 (x.toNat : Int)) ∧ w.cell? ⟨b, off + k * 2 + 1, none⟩ = some (.slice A1 l.length c1) ∧ Row w A1 (bVs l) ∧ l.length ≤ c1 ∧ c1 ≤ maxLen := by
  obtain ⟨bs, hr, hp⟩ := h
  have hl : bs.length = fs.length := by simpa using hp.length
  obtain ⟨h1, h2⟩ := frCells_at fs bs k hk (by omega)
  obtain ⟨p, hp1, A1, c1, hv, hl1, hl2, hr1⟩ := hp.at' (i := k) (by omega)
  have hp2 : p = fs[k].2 := by simpa [hk] using hp1.symm
  subst hp2
  rcases hr with hr | ⟨b, off, e, hr⟩
  · rw [hr] at h1; simp at h1
  · refine ⟨b, off, A1, c1, fs[k].1, fs[k].2, e, rfl, hr _ _ h1, ?_, hr1, hl1, hl2⟩
    rw [Nat.add_assoc]
    rw [hv] at h2
    exact hr _ _ h2

theorem back_mid {w wr w2 : World} {Al Ab A1 A2 : Option Addr} {nl cl nb cb c1 c2 : Nat} {bs : List Value} {ls : List (UInt8 × List UInt8)} {x : UInt8} {body : List UInt8} {o : Obj}
    (hown : wr.ownsRow w.heap.size 54 2 (.slice Al nl cl) nl (frCells ls bs)) (hp : Parts w bs (ls.map (·.2))) (hownb : wr.ownsRow w.heap.size 5 1 (.slice Ab nb cb) nb (bVs (encA ls))) (hbel : Below w.heap.size w wr)
    (hg2 : (wr.drew.alloc o).grownBy w2 (Value.ownBlock (.slice Al nl cl))) (hown2 : w2.ownsRow w.heap.size 54 2 (.slice A2 (nl + 1) c2) (nl + 1) (frCells ls bs ++ [.int .u8 (x.toNat : Int), .slice A1 body.length c1])) :
    Below w.heap.size w w2 ∧ w2.ownsRow w.heap.size 5 1 (.slice Ab nb cb) nb (bVs (encA ls)) ∧ frCells ls bs ++ [.int .u8 (x.toNat : Int), .slice A1 body.length c1] = frCells (ls ++ [(x, body)]) (bs ++ [.slice A1 body.length c1]) ∧
    (frCells ls bs).length = nl * 2 ∧ ∃ b2 off2, A2 = some ⟨b2, off2, none⟩ := by
  have hs := hbel.size
  have hlb : ls.length = bs.length := by simpa using hp.length.symm
  have hln : ls.length = nl := by have := hown.1; rw [frCells_length ls bs hlb] at this; omega
  have hk : Kept (fun k => Value.ownBlock (.slice Al nl cl) = some k) wr w2 := (((Kept.refl _ wr).drew).alloc o).trans (Kept.of_grown hg2 (fun _ e _ => e))
  refine ⟨hbel.trans (hk.below hs (fun j hj h => by have := (hown.lt j h).1; omega)), hk.own hownb (fun g hg h => ?_), (frCells_snoc ls bs (x, body) _ hlb).symm, ?_⟩
  · rcases hown.2 with ⟨h1, _⟩ | ⟨g', _, cur, h1, _, h2, _⟩
    · rw [h1] at h; cases h
    · rw [h1] at h
      have : g' = g := by simpa [Value.ownBlock] using h
      subst this
      exact own_ne_blk hownb (show Blk wr g' 54 cur from h2) (by decide) hg
  · refine ⟨by rw [frCells_length ls bs hlb, hln], ?_⟩
    rcases Row.of_own hown2 with h | ⟨b2, off2, e, h⟩
    · simp at h
    · exact ⟨b2, off2, e⟩

/-- the row of frames, with the last one -/
def LRow (w W : World) (b2 off2 nl cl : Nat) (xs : List Value) (x : UInt8) (v : Value) : Prop :=
  W.ownsRow w.heap.size 54 2 (.slice (some ⟨b2, off2, none⟩) (nl + 1) cl) (nl + 1) (xs ++ [.int .u8 (x.toNat : Int), v]) ∧ xs.length = nl * 2 ∧ Below w.heap.size w W
theorem LRow.cells {w W : World} {b2 off2 nl cl : Nat} {xs : List Value} {x : UInt8} {v : Value} (h : LRow w W b2 off2 nl cl xs x v) :
    W.cell? ⟨b2, off2 + nl * 2, none⟩ = some (.int .u8 (x.toNat : Int)) ∧ W.cell? ⟨b2, off2 + nl * 2 + 1, none⟩ = some v := by
  obtain ⟨h1, h2, _⟩ := h
  rcases Row.of_own h1 with h | ⟨b', off', e, h⟩
  · simp at h
  · injection e with e; injection e with e1 e2; subst e1 e2
    refine ⟨h (nl * 2) _ ?_, ?_⟩
    · rw [List.getElem?_append_right (by omega), h2]; simp
    · rw [Nat.add_assoc]
      refine h (nl * 2 + 1) _ ?_
      rw [List.getElem?_append_right (by omega), h2, show nl * 2 + 1 - nl * 2 = 1 by omega]; rfl
theorem LRow.app {w W W' : World} {b2 off2 nl cl : Nat} {xs : List Value} {x : UInt8} {v : Value} (h : LRow w W b2 off2 nl cl xs x v) {Ab : Option Addr} {nb cb : Nat} {ys : List Value}
    (hb : W.ownsRow w.heap.size 5 1 (.slice Ab nb cb) nb ys) (hg : W.grownBy W' (Value.ownBlock (.slice Ab nb cb))) : LRow w W' b2 off2 nl cl xs x v := by
  obtain ⟨h1, h2, h3⟩ := h
  have hs := h3.size
  refine ⟨h1.kept hg (Or.inr ?_), h2, h3.grown hg hs (fun k hk => (hb.lt k hk).1)⟩
  rcases h1.2 with ⟨e, _⟩ | ⟨g, _, cur, e, _, hgg, _⟩
  · injection e with e; cases e
  · rw [e]
    intro e2
    exact own_ne_blk hb (show Blk W g 54 cur from hgg) (by decide) (by rw [← e2]; rfl)
theorem LRow.alloc {w W : World} {b2 off2 nl cl : Nat} {xs : List Value} {x : UInt8} {v : Value} (h : LRow w W b2 off2 nl cl xs x v) (o : Obj) : LRow w (W.alloc o) b2 off2 nl cl xs x v :=
  ⟨h.1.alloc o, h.2.1, h.2.2.alloc h.2.2.size o⟩
theorem lenB_long {n : Nat} (h : 128 ≤ n) (h2 : n ≤ 200) : bVs (lenB n) = [.int .u8 ((n : Int) % 128 + 128), .int .u8 ((n : Int) / 128)] := by
  have h1 : (UInt8.ofNat (n % 128 + 128)).toNat = n % 128 + 128 := by simp [UInt8.toNat_ofNat']; omega
  have h2 : (UInt8.ofNat (n / 128)).toNat = n / 128 := by simp [UInt8.toNat_ofNat']; omega
  simp only [lenB, if_pos h, bVs, List.map_cons, List.map_nil, bV, h1, h2]
  congr 3
theorem lenB_short {n : Nat} (h : ¬ 128 ≤ n) : bVs (lenB n) = [.int .u8 (n : Int)] := by
  have h1 : (UInt8.ofNat n).toNat = n := by simp [UInt8.toNat_ofNat']; omega
  simp only [lenB, if_neg h, bVs, List.map_cons, List.map_nil, bV, h1]

theorem encF_V (x : UInt8) (body : List UInt8) : bVs (encF (x, body)) = .int .u8 (x.toNat : Int) :: (bVs (lenB body.length) ++ bVs body) := by simp [encF, bVs, bV]
theorem back_next {gs ls : List (UInt8 × List UInt8)} {w w5 : World} {b2 off2 nl c1 c2 n5 c5 : Nat} {A1 A5 : Option Addr} {bs ys : List Value} {x : UInt8} {body : List UInt8} {mv : Int}
    (hL : LRow w w5 b2 off2 nl c2 (frCells ls bs) x (.slice A1 body.length c1)) (hfc : frCells ls bs ++ [.int .u8 (x.toNat : Int), .slice A1 body.length c1] = frCells (ls ++ [(x, body)]) (bs ++ [.slice A1 body.length c1]))
    (hp : Parts w bs (ls.map (·.2))) (r2 : Row w A1 (bVs body)) (hbc : body.length ≤ c1) (hc1 : c1 ≤ maxLen) (htm : gs.take (nl + 1) = ls ++ [(x, body)])
    (hown : w5.ownsRow w.heap.size 5 1 (.slice A5 n5 c5) n5 ys) (hys : ys = bVs (encA ls) ++ bVs (encF (x, body))) (hn5 : n5 ≤ 300 * (nl + 1)) (hmv : mv = ((max (mostF ls) (sizeF (x, body)) : Nat) : Int)) :
    BackRel gs w (nl + 1) (.slice (some ⟨b2, off2, none⟩) (nl + 1) c2) (.slice A5 n5 c5) (.int .i64 mv) w5 := by
  subst hys hmv
  refine ⟨_, A5, nl + 1, c2, n5, c5, bs ++ [.slice A1 body.length c1], rfl, rfl, by rw [htm, mostF_snoc], rfl, ?_, ?_, ?_, hn5, hL.2.2⟩
  · rw [htm, ← hfc]; exact hL.1
  · rw [htm, List.map_append]; exact hp.snoc ⟨A1, c1, rfl, hbc, hc1, r2⟩
  · rw [htm, encA_snoc, bVs_append]; exact hown
theorem bits_and3 (x : Int) : 0 ≤ bits .and .i64 x 3 ∧ bits .and .i64 x 3 ≤ 3 := by
  have h1 : (BitVec.ofInt 64 x &&& BitVec.ofInt 64 3).toNat ≤ 3 := by
    rw [BitVec.toNat_and]
    exact Nat.le_trans Nat.and_le_right (by decide)
  have h2 : bits .and .i64 x 3 = IntKind.i64.wrap ((BitVec.ofInt 64 x &&& BitVec.ofInt 64 3).toNat : Int) := rfl
  rw [h2, IntKind.wrap_i64]
  omega

theorem same_n (A B : Option Addr) (ca cb n : Nat) (fs : List (UInt8 × List UInt8)) (w : World) (hn : fs.length = n) (ha : FrRead w A fs) (hb : FrRead w B fs) (hm : n ≤ 9223372036854775807) :
    Calls Try.prog 10 #[.slice A n ca, .slice B n cb] w fun e w' => e = .returned (.bool true) ∧ ∃ n, w' = w.drewN n := by
  subst hn; exact same_true A B ca cb fs w ha hb hm
/-- Feed of a Framer that was just made, then something else was: the frames ls, all of it -/
theorem feed_all (most : Int) (w w1 : World) (Ab : Option Addr) (n cb : Nat) (b : List UInt8) (ls : List (UInt8 × List UInt8)) (nl : Nat) (hbel : Below (w.alloc (.cells #[.int .i64 most, .slice none 0 0, .int .i64 0] 59)).heap.size (w.alloc (.cells #[.int .i64 most, .slice none 0 0, .int .i64 0] 59)) w1)
    (hr : Row w Ab (bVs b)) (hn : b.length = n) (hsm : n ≤ 1000000) (hq : feedC most 0 [] b = (ls, [], 0)) (hln : ls.length = nl) :
    Calls Try.prog 15 #[.pointer (some ⟨w.heap.size, 0, none⟩), .slice Ab n cb] w1 fun e w2 =>
      ∃ Ao co A' c', e = .returned (.tuple #[.slice Ao nl co, .int .i64 0]) ∧ FrRead w2 Ao ls ∧ Framer w2 0 w.heap.size most [] 0 A' c' ∧ Below w.heap.size w w2 := by
  subst hn
  obtain ⟨hf, hb1⟩ := made hbel
  refine (feed w.heap.size 0 none most 0 [] b w1 hf Ab cb (hr.below hb1) (by simp; omega)).mono ?_
  rintro e w2 ⟨Ao, no, co, bs, A', c', rfl, ho, hbd, _, _, hf2, hk2⟩
  rw [hq] at hf2 ho hbd ⊢
  have hs := hb1.size
  have hno : no = nl := by have := ho.1; rw [frCells_length ls bs (by simpa using hbd.1.symm)] at this; omega
  subst hno
  refine ⟨Ao, co, A', c', rfl, ⟨bs, Row.of_own ho, hbd.parts⟩, hf2, hb1.trans (hk2.below hs (fun j hj hS => ?_))⟩
  rcases hS with hS | hS
  · omega
  · cases hS

set_option maxRecDepth 100000 in
set_option maxHeartbeats 4000000 in
theorem back (A : Option Addr) (cap : Nat) (fs : List (UInt8 × List UInt8)) (extra : Int) (w : World) (hf : FrRead w A fs) (hm : fs.length ≤ maxLen) (hx1 : -9223372036854775808 ≤ extra) (hx2 : extra ≤ 9223372036854775807) :
    Calls Try.prog 5 #[.slice A fs.length cap, .int .i64 extra] w fun e w' => e = .returned (.bool true) ∧ Below w.heap.size w w' := by
  unfold maxLen at hm
  have hrel0 : BackRel (fs.map cutF) w 0 (.slice none 0 0) (.slice none 0 0) (.int .i64 2) w :=
    ⟨none, none, 0, 0, 0, 0, [], rfl, rfl, rfl, rfl, World.ownsRow_nil _ _ _ _, trivial, World.ownsRow_nil _ _ _ _, by omega, Below.refl _ _⟩
  have Hrel0 := Lib.hid hrel0
  clear hrel0
  go_enter Try.func5, Try.ntmps5
  go_wp2_with fail
  go_loopw [5, 6, 7, 8] (fun l b most i wr => ∃ k : Nat, k ≤ fs.length ∧ k ≤ 30 ∧ i = .int .i64 (k : Int) ∧ BackRel (fs.map cutF) w k l b most wr) (fun _ _ _ i _ => 30 - (intOf i).toNat)
  case atStart => exact ⟨0, by omega, by omega, rfl, Hrel0.out⟩
  case round =>
    clear Hrel0
    obtain ⟨k, hk, hk2, rfl, hrel⟩ := hrel
    obtain ⟨Al, Ab, nl, cl, nb, cb, bs, rfl, rfl, rfl, hnl, hown, hp, hownb, hnb, hbel⟩ := hrel
    subst hnl
    by_cases hlt : nl < fs.length ∧ nl < 30
    · obtain ⟨hlt, hlt2⟩ := hlt
      obtain ⟨bb, off, A1, c1, x, l2, rfl, hfk, q1, q2, r1, hl1, hl2⟩ := hf.at2 hlt
      have hbb : bb < w.heap.size := World.block_lt_of_cell? w _ q1
      replace q1 := cell_below hbel q1
      replace q2 := cell_below hbel q2
      have htm : (fs.map cutF).take (nl + 1) = (fs.map cutF).take nl ++ [(x, l2.take 200)] := by
        rw [List.take_succ_eq_append_getElem (by simpa using hlt)]
        congr 2
        simp [hfk, cutF]
      have hcut := Lib.hid (fun W => run_cutB A1 l2 c1 200 W hl1 hl2 (by omega))
      have r2 : Row w A1 (bVs (l2.take 200)) := by rw [bVs_take]; exact r1.take _
      have hb200 : (l2.take 200).length ≤ 200 := by simp; omega
      have hbc : (l2.take 200).length ≤ c1 := by simp; omega
      have Htm := Lib.hid htm
      clear htm hfk r1 hl1
      generalize l2.take 200 = body at *
      generalize (fs.map cutF).take nl = ls at *
      have hroomF : (nl + 1) * 32 ≤ 140737488355328 := by omega
      have i1 : (0 : Int) ≤ (nl : Int) := by omega
      have i2 : (nl : Int) < (fs.length : Int) := by omega
      have nn1 := World.new_ne wr _ q1
      have nn2 := World.new_ne wr _ q2
      simp only at nn1 nn2
      have hne : ∀ g, Value.ownBlock (.slice Al nl cl) = some g → bb ≠ g := fun g hg e => by have := (hown.lt g hg).1; omega
      have Hne := Lib.hid hne
      clear hne
      go_wp2_with fail
      go_region_held3 (fun w' => w'.cell? ⟨bb, off + nl * 2, none⟩ = some (.int .u8 (x.toNat : Int)) ∧ w'.cell? ⟨bb, off + nl * 2 + 1, none⟩ = some (.slice A1 l2.length c1)) (go_keep)
        (first
          | (go_at_call 7; refine (hcut.out _).mono ?_; rintro e w' ⟨rfl, rfl⟩)
          | (refine step_app stF (by rfl) (.tmp 26) (.tmp 39) (by rfl) (by rfl) (hown.drew.alloc _) (by rfl) (news := [.int .u8 (x.toNat : Int), .slice A1 body.length c1]) (by rfl) ((Row.newAt (by rfl) (by rfl))) (by simp [Value.oneCell']) hroomF (by have := hbel.size; simp; omega) ?_; intro A2 c2 w2 hown2 hg2 hat2; have z1 := hg2.cell (a := ⟨bb, off + nl * 2, none⟩) (v := .int .u8 (x.toNat : Int)) (by go_keep) (fun e => Hne.out _ e.symm rfl); have z2 := hg2.cell (a := ⟨bb, off + nl * 2 + 1, none⟩) (v := .slice A1 l2.length c1) (by go_keep) (fun e => Hne.out _ e.symm rfl); have Hg2 := Lib.hid hg2; have Hown2 := Lib.hid hown2; clear hg2 hown2 hat2))
      obtain ⟨hb2, hownb2, hfc, hxl, b2, off2, rfl⟩ := back_mid hown hp hownb hbel Hg2.out Hown2.out
      have hL2 : LRow w w2 b2 off2 nl c2 (frCells ls bs) x (.slice A1 body.length c1) := ⟨Hown2.out, hxl, hb2⟩
      obtain ⟨y1, y2⟩ := hL2.cells
      have Hfc := Lib.hid hfc
      have HL2 := Lib.hid hL2
      have hs2 := hb2.size
      clear hfc q1 q2 z1 z2 hownb hxl hL2
      by_cases h128 : 128 ≤ body.length
      · have hlb := Lib.hid (lenB_long h128 hb200)
        go_wp2_with (first
          | (at_builtin
             refine wpList_app stB rfl (.tmp 47) (.tmp 53) rfl rfl (hownb2.alloc _) rfl (by rfl) (Row.newAt rfl rfl) (by simp [Value.oneCell']) (by omega) (by simp; omega) ?_
             intro A3 c3 w3 hown3 hg3 hat3
             have hL3 := (HL2.out.alloc _).app (hownb2.alloc _) hg3
             have HL3 := Lib.hid hL3
             have hs3 := hL3.2.2.size
             have x1 := hL3.cells.2
             clear hL3 hg3 hat3 y1)
          | (at_builtin
             refine wpList_app stB rfl (.tmp 59) (.tmp 67) rfl rfl (hown3.alloc _) rfl (by rfl) (Row.newAt rfl rfl) (by simp [Value.oneCell']) (by omega) (by simp; omega) ?_
             intro A4 c4 w4 hown4 hg4 hat4
             have hL4 := (HL3.out.alloc _).app (hown3.alloc _) hg4
             have HL4 := Lib.hid hL4
             have hs4 := hL4.2.2.size
             have x2 := hL4.cells.2
             clear hL4 hg4 hat4 x1)
          | (at_builtin
             refine wpList_app stB rfl (.tmp 76) (.tmp 81) rfl rfl hown4 rfl (by rw [bVs_length]; omega) (r2.below HL4.out.2.2) (one_bVs _) (by omega) hs4 ?_
             intro A5 c5 w5 hown5 hg5 hat5
             have hL5 := HL4.out.app hown4 hg5
             have HL5 := Lib.hid hL5
             clear hL5 hg5 hat5 x2)
          )
        all_goals
          go_roundw
          case rel => exact ⟨nl + 1, by omega, by omega, by go_num, back_next HL5.out Hfc.out hp r2 hbc hl2 Htm.out hown5 (by rw [encF_V, hlb.out]; simp) (by omega) (by simp only [sizeF]; (first | rw [if_pos h128] | rw [if_neg h128]); omega)⟩
          case measure => simp [intOf]; omega
      · have hlb := Lib.hid (lenB_short h128)
        go_wp2_with (first
          | (at_builtin
             refine wpList_app stB rfl (.tmp 47) (.tmp 53) rfl rfl (hownb2.alloc _) rfl (by rfl) (Row.newAt rfl rfl) (by simp [Value.oneCell']) (by omega) (by simp; omega) ?_
             intro A3 c3 w3 hown3 hg3 hat3
             have hL3 := (HL2.out.alloc _).app (hownb2.alloc _) hg3
             have HL3 := Lib.hid hL3
             have hs3 := hL3.2.2.size
             have x1 := hL3.cells.2
             clear hL3 hg3 hat3 y1)
          | (at_builtin
             refine wpList_app stB rfl (.tmp 71) (.tmp 74) rfl rfl (hown3.alloc _) rfl (by rfl) (Row.newAt rfl rfl) (by simp [Value.oneCell']) (by omega) (by simp; omega) ?_
             intro A4 c4 w4 hown4 hg4 hat4
             have hL4 := (HL3.out.alloc _).app (hown3.alloc _) hg4
             have HL4 := Lib.hid hL4
             have hs4 := hL4.2.2.size
             have x2 := hL4.cells.2
             clear hL4 hg4 hat4 x1)
          | (at_builtin
             refine wpList_app stB rfl (.tmp 76) (.tmp 81) rfl rfl hown4 rfl (by rw [bVs_length]; omega) (r2.below HL4.out.2.2) (one_bVs _) (by omega) hs4 ?_
             intro A5 c5 w5 hown5 hg5 hat5
             have hL5 := HL4.out.app hown4 hg5
             have HL5 := Lib.hid hL5
             clear hL5 hg5 hat5 x2)
          )
        all_goals
          go_roundw
          case rel => exact ⟨nl + 1, by omega, by omega, by go_num, back_next HL5.out Hfc.out hp r2 hbc hl2 Htm.out hown5 (by rw [encF_V, hlb.out]; simp) (by omega) (by simp only [sizeF]; (first | rw [if_pos h128] | rw [if_neg h128]); omega)⟩
          case measure => simp [intOf]; omega
    · have hls : ∀ f ∈ (fs.map cutF).take nl, f.2.length < 16384 := by
        intro f hf'
        have := List.mem_of_mem_take hf'
        simp only [List.mem_map] at this
        obtain ⟨g, _, rfl⟩ := this
        simp [cutF]; omega
      have hlb : bs.length = ((fs.map cutF).take nl).length := by simpa using hp.length
      have hln : ((fs.map cutF).take nl).length = nl := by simp; omega
      have hmost : ∀ f ∈ (fs.map cutF).take nl, sizeF f ≤ 203 := by
        intro f hf'
        have := List.mem_of_mem_take hf'
        simp only [List.mem_map] at this
        obtain ⟨g, _, rfl⟩ := this
        simp only [sizeF, cutF, List.length_take]; split <;> omega
      have hm1 : 2 ≤ mostF ((fs.map cutF).take nl) := (foldl_max_ge _ 2).1
      have hm2 : mostF ((fs.map cutF).take nl) ≤ 203 := by
        rcases foldl_max_at ((fs.map cutF).take nl) 2 with h | ⟨f, hf', h⟩
        · unfold mostF; omega
        · have := hmost f hf'; unfold mostF; omega
      generalize (fs.map cutF).take nl = ls at *
      have hnbl : (encA ls).length = nb := by have := hownb.1; rw [bVs_length] at this; omega
      have hfr : FrRead wr Al ls := ⟨bs, Row.of_own hown, hp.below hbel⟩
      have hrb : Row wr Ab (bVs (encA ls)) := Row.of_own hownb
      obtain ⟨hbc1, hbc2⟩ := own_cap hownb
      obtain ⟨e1, e2⟩ := bits_and3 extra
      have hback := Lib.hid (back_all ls hls ((mostF ls : Int) + bits .and .i64 extra 3) (by omega))
      have hlarge := Lib.hid (fun h => back_large ls hls h)
      have Hnbl := Lib.hid hnbl
      have Hln := Lib.hid hln
      have hbb := Lib.hid (show nb ≤ 9000 by omega)
      clear hls hlb hmost hnbl hln hp hown hownb hf
      have hlt' : decide (nl < fs.length) = false ∨ (nl < fs.length ∧ 30 ≤ nl) := by
        simp only [decide_eq_false_iff_not]; omega
      clear hlt
      have hfin : (((nl : Int) == 0) = true) ∨ (((nl : Int) == 0) = false ∧ ((mostF ls : Int) == 2) = true) ∨ (((nl : Int) == 0) = false ∧ ((mostF ls : Int) == 2) = false ∧ Hid (mostF ls ≠ 2)) := by
        simp only [beq_iff_eq, beq_eq_false_iff_ne, Hid]; omega
      generalize hM : mostF ls = M at *
      have HM := Lib.hid hM
      clear hM
      have hB := Lib.hid hbel
      rcases hlt' with h1 | ⟨h1, h2⟩ <;> rcases hfin with h3 | ⟨h3, h4⟩ | ⟨h3, h4, h5⟩
      all_goals
        go_wp2_with (first
          | (go_at_call 13; refine (run_new _ _).mono ?_; rintro e w' ⟨rfl, rfl⟩)
          | (go_at_call 11; refine (wakes _).mono ?_; rintro e w1 ⟨rfl, hbel1⟩)
          | (go_at_call 15; refine (feed_all _ wr w1 Ab nb cb (encA ls) ls nl hbel1 hrb Hnbl.out (by have := hbb.out; omega) hback.out Hln.out).mono ?_; rintro e w2 ⟨Ao, co, A', c', rfl, hfr2, hf2, hb2⟩)
          | (go_at_call 17; refine (run_num _ _).mono ?_; rintro e w' ⟨rfl, rfl⟩)
          | (go_at_call 10; refine (same_n _ _ _ _ nl ls _ Hln.out (hfr.below hb2) hfr2 (by omega)).mono ?_; rintro e w4 ⟨rfl, n4, rfl⟩)
          | (go_at_call 18; refine (run_held wr.heap.size c' A' _ [] _ _ (hf2.1.drewN n4)).mono ?_; rintro e w' ⟨rfl, rfl⟩)
          | (go_at_call 20; refine (run_broken wr.heap.size _ 0 _ _ (hf2.1.drewN n4)).mono ?_; rintro e w' ⟨rfl, rfl⟩)
          | (go_at_call 8
             refine (all' _ _ 1 ((M : Int) - 1) [.slice Ab nb cb] [encA ls] _ _ rfl rfl (Row.newAt rfl rfl) ⟨⟨_, _, by rw [Hnbl.out], by rw [Hnbl.out]; exact hbc1, hbc2, ((hrb.below hb2).drewN n4).alloc _⟩, trivial⟩ (by simp; have := Hnbl.out; have := hbb.out; omega) (by omega)).mono ?_
             rintro e w5 ⟨Ao5, co5, rfl, _, hb5⟩
             rw [hlarge.out h5.out]))
        go_ret
        first
          | exact ⟨rfl, hB.out.trans (bel_drewN (hb2.mono hB.out.size) _)⟩
          | exact ⟨rfl, hB.out.trans ((((bel_drewN (hb2.mono hB.out.size) n4)).alloc (by have := hB.out.size; have := hb2.size; simp; omega) _).trans (hb5.mono (by have := hB.out.size; have := hb2.size; simp; omega)))⟩
end Go.Proofs.Ytbndfejfhngeoaa
