/- What a frame is, and (*stream.Framer).frame. -/
import Derived.Test.YtbndfejfhngeoaaGetVar
import Derived.Test.YtbndfejfhngeoaaJoin
import Derived.Deep.RegionHeld3
import Derived.Deep.DrawnRows
namespace Go.Proofs.Ytbndfejfhngeoaa
open Go.RowKit
attribute [local go_sem ↓] Go.wp_at_zero Go.wp_at_succ

/-- the frame at the head of bytes: a code (0: it is not whole), or its first byte, its body, its size -/
def frameS (most : Int) (h : List UInt8) : Sum Nat (UInt8 × List UInt8 × Nat) :=
  if h.length < 2 then .inl 0 else
  if (gv 0 0 h.tail).2.2 = 11 then .inl 0 else if (gv 0 0 h.tail).2.2 ≠ 0 then .inl 129 else
  if most < ((1 + (gv 0 0 h.tail).2.1 + (gv 0 0 h.tail).1 : Nat) : Int) then .inl 149 else
  if h.length < 1 + (gv 0 0 h.tail).2.1 + (gv 0 0 h.tail).1 then .inl 0 else
  .inr (h.headD 0, (h.take (1 + (gv 0 0 h.tail).2.1 + (gv 0 0 h.tail).1)).drop (1 + (gv 0 0 h.tail).2.1), 1 + (gv 0 0 h.tail).2.1 + (gv 0 0 h.tail).1)

theorem gv_bound : ∀ (l : List UInt8) (i acc : Nat), i ≤ 4 → acc < 2 ^ (7 * i) → (gv i acc l).1 < 268435456 ∧ (gv i acc l).2.1 ≤ 4 ∧ (gv i acc l).2.2 ≤ 12 ∧ ((gv i acc l).2.2 = 0 → i < (gv i acc l).2.1 ∧ (gv i acc l).2.1 ≤ i + l.length)
  | [], i, acc, hi, _ => by unfold gv; split <;> simp
  | c :: r, i, acc, hi, ha => by
    have h1 := acc_lt (c := c.toNat) ha
    unfold gv
    split
    · rename_i h4
      have hp : 2 ^ (7 * (i + 1)) ≤ 2 ^ 28 := Nat.pow_le_pow_right (by omega) (by omega)
      split
      · split
        · simp
        · simp; omega
      · have := gv_bound r (i + 1) (acc + c.toNat % 128 * 2 ^ (7 * i)) (by omega) h1
        simp only [List.length_cons]; omega
    · simp

/-- frame's answer -/
def FramePost (most : Int) (h : List UInt8) (w : World) (e : Ending) (w' : World) : Prop :=
  match frameS most h with
  | .inl c => e = .returned (.tuple #[.agg #[.int .u8 0, .slice none 0 0], .int .i64 0, .int .i64 (c : Nat)]) ∧ Below w.heap.size w w'
  | .inr (f, b, n) => ∃ A cap, e = .returned (.tuple #[.agg #[bV f, .slice A b.length cap], .int .i64 (n : Nat), .int .i64 0]) ∧
      w'.ownsRow w.heap.size 5 1 (.slice A b.length cap) b.length (bVs b) ∧ Below w.heap.size w w'
theorem FramePost.inl {most : Int} {h : List UInt8} {w w' : World} {e : Ending} {c : Nat} (hf : frameS most h = .inl c)
    (he : e = .returned (.tuple #[.agg #[.int .u8 0, .slice none 0 0], .int .i64 0, .int .i64 (c : Nat)])) (hb : Below w.heap.size w w') : FramePost most h w e w' := by
  unfold FramePost; rw [hf]; exact ⟨he, hb⟩
theorem FramePost.inr {most : Int} {h : List UInt8} {w w' : World} {e : Ending} {f : UInt8} {b : List UInt8} {n : Nat} (hf : frameS most h = .inr (f, b, n)) {A : Option Addr} {cap : Nat}
    (he : e = .returned (.tuple #[.agg #[bV f, .slice A b.length cap], .int .i64 (n : Nat), .int .i64 0])) (ho : w'.ownsRow w.heap.size 5 1 (.slice A b.length cap) b.length (bVs b)) (hb : Below w.heap.size w w') : FramePost most h w e w' := by
  unfold FramePost; rw [hf]; exact ⟨A, cap, he, ho, hb⟩

theorem frameS_long {most : Int} {h : List UInt8} {n u e : Nat} (hl : 2 ≤ h.length) (hg : gv 0 0 h.tail = (n, u, e)) :
    frameS most h = if e = 11 then .inl 0 else if e ≠ 0 then .inl 129 else if most < ((1 + u + n : Nat) : Int) then .inl 149 else if h.length < 1 + u + n then .inl 0 else
      .inr (h.headD 0, (h.take (1 + u + n)).drop (1 + u), 1 + u + n) := by
  unfold frameS; rw [hg, if_neg (by omega)]

theorem bVs_tail (l : List UInt8) : bVs l.tail = (bVs l).drop 1 := by cases l <;> rfl

set_option maxRecDepth 100000 in
set_option maxHeartbeats 1000000 in
theorem frame_short (pb c : Nat) (A : Option Addr) (most : Int) (h : List UInt8) (w : World)
    (h0 : w.cell? ⟨pb, 0, none⟩ = some (.int .i64 most)) (h1 : w.cell? ⟨pb, 1, none⟩ = some (.slice A h.length c)) (hl : h.length < 2) :
    Calls Try.prog 24 #[.pointer (some ⟨pb, 0, none⟩)] w (FramePost most h w) := by
  have hpb := World.block_lt_of_cell? w _ h0
  simp only at hpb
  have hne : ¬ pb = w.heap.size := by omega
  have hfin := Lib.hid (show frameS most h = .inl 0 by simp [frameS, hl])
  go_enter Try.func24, Try.ntmps24
  go_wp2
  refine bodyPost_ret (v := .tuple #[.agg #[.int .u8 0, .slice none 0 0], .int .i64 0, .int .i64 0]) (by simp [results, Try.results24, go_sem]) rfl (FramePost.inl hfin.out rfl ?_)
  exact ((Below.refl _ _).alloc (Nat.le_refl _) _)

set_option maxRecDepth 100000 in
set_option maxHeartbeats 2000000 in
theorem frame_long (pb c b off : Nat) (most : Int) (h : List UInt8) (w : World)
    (h0 : w.cell? ⟨pb, 0, none⟩ = some (.int .i64 most)) (h1 : w.cell? ⟨pb, 1, none⟩ = some (.slice (some ⟨b, off, none⟩) h.length c)) (hl : 2 ≤ h.length) (hc : h.length ≤ c) (hm : c ≤ maxLen)
    (hr : Row w (some ⟨b, off, none⟩) (bVs h)) (hsm : h.length ≤ 140737488355328) :
    Calls Try.prog 24 #[.pointer (some ⟨pb, 0, none⟩)] w (FramePost most h w) := by
  have hpb := World.block_lt_of_cell? w _ h0
  simp only at hpb
  have hne : ¬ pb = w.heap.size := by omega
  have hc1 : ¬ c = 1 := by omega
  unfold maxLen at hm
  have hgb := gv_bound h.tail 0 0 (by omega) (by simp)
  have hgv := getvar (some ⟨b, off + 1, none⟩) h.tail (c - 1)
  rw [List.length_tail] at hgv hgb
  have Hgv := Lib.hid hgv
  clear hgv
  have hr1 : Row w (some ⟨b, off + 1, none⟩) (bVs h.tail) := by rw [bVs_tail]; exact hr.drop 1
  generalize hg : gv 0 0 h.tail = g at *
  obtain ⟨n, u, e⟩ := g
  simp only at hgb
  have Hfs := Lib.hid (frameS_long (most := most) hl hg)
  have Hg := Lib.hid hg
  clear hg
  obtain ⟨g1, g2, g3, g4⟩ := hgb
  by_cases e11 : e = 11
  · subst e11
    have hf := Lib.hid (Hfs.out.trans (if_pos rfl))
    clear Hfs g4
    go_enter Try.func24, Try.ntmps24
    go_wp2_with (go_at_call 33; refine (Hgv.out _ (hr1.alloc _) (by omega)).mono ?_; rintro e w' ⟨rfl, rfl⟩; rw [Hg.out])
    refine bodyPost_ret (v := .tuple #[.agg #[.int .u8 0, .slice none 0 0], .int .i64 0, .int .i64 0]) (by simp [results, Try.results24, go_sem]) rfl (FramePost.inl hf.out rfl ?_)
    exact ((Below.refl _ _).alloc (Nat.le_refl _) _)
  by_cases e0 : e = 0
  rotate_left
  · have hf := Lib.hid (Hfs.out.trans ((if_neg e11).trans (if_pos e0)))
    have q1 : ((e : Int) == 11) = false := by simp; omega
    have q2 : ((e : Int) != 0) = true := by simp; omega
    clear Hfs g4
    go_enter Try.func24, Try.ntmps24
    go_wp2_with (go_at_call 33; refine (Hgv.out _ (hr1.alloc _) (by omega)).mono ?_; rintro e w' ⟨rfl, rfl⟩; rw [Hg.out])
    refine bodyPost_ret (v := .tuple #[.agg #[.int .u8 0, .slice none 0 0], .int .i64 0, .int .i64 129]) (by simp [results, Try.results24, go_sem]) rfl (FramePost.inl hf.out rfl ?_)
    exact ((Below.refl _ _).alloc (Nat.le_refl _) _)
  subst e0
  obtain ⟨g4, g5⟩ := g4 rfl
  replace Hfs := Lib.hid (Hfs.out.trans ((if_neg e11).trans (if_neg (by simp))))
  clear e11
  by_cases hmost : most < ((1 + u + n : Nat) : Int)
  · have hf := Lib.hid (Hfs.out.trans (if_pos hmost))
    clear Hfs
    go_enter Try.func24, Try.ntmps24
    go_wp2_with (go_at_call 33; refine (Hgv.out _ (hr1.alloc _) (by omega)).mono ?_; rintro e w' ⟨rfl, rfl⟩; rw [Hg.out])
    refine bodyPost_ret (v := .tuple #[.agg #[.int .u8 0, .slice none 0 0], .int .i64 0, .int .i64 149]) (by simp [results, Try.results24, go_sem]) rfl (FramePost.inl hf.out rfl ?_)
    exact ((Below.refl _ _).alloc (Nat.le_refl _) _)
  replace Hfs := Lib.hid (Hfs.out.trans (if_neg hmost))
  by_cases hlen : h.length < 1 + u + n
  · have hf := Lib.hid (Hfs.out.trans (if_pos hlen))
    clear Hfs
    go_enter Try.func24, Try.ntmps24
    go_wp2_with (go_at_call 33; refine (Hgv.out _ (hr1.alloc _) (by omega)).mono ?_; rintro e w' ⟨rfl, rfl⟩; rw [Hg.out])
    refine bodyPost_ret (v := .tuple #[.agg #[.int .u8 0, .slice none 0 0], .int .i64 0, .int .i64 0]) (by simp [results, Try.results24, go_sem]) rfl (FramePost.inl hf.out rfl ?_)
    exact ((Below.refl _ _).alloc (Nat.le_refl _) _)
  replace Hfs := Lib.hid (Hfs.out.trans (if_neg hlen))
  have hc0 : w.cell? ⟨b, off, none⟩ = some (bV (h.headD 0)) := by
    rcases hr with hr | ⟨b', off', e, hr⟩
    · have := congrArg List.length hr; simp [bVs] at this; subst this; simp at hl
    · injection e with e; injection e with e1 e2; subst e1 e2
      have := hr 0 (bV (h.headD 0)) (by cases h <;> simp [bVs] at *)
      simpa using this
  generalize h.headD 0 = x at *
  have hbx : ¬ b = w.heap.size := by have := World.block_lt_of_cell? w _ hc0; simp only at this; omega
  unfold bV at hc0
  have i1 : (0 : Int) ≤ (1 : Int) + (u : Int) := by omega
  have i2 : (1 : Int) + (u : Int) ≤ 1 + (u : Int) + (n : Int) := by omega
  have i3 : (1 : Int) + (u : Int) + (n : Int) ≤ (c : Int) := by omega
  have i4 : (0 : Int) ≤ (1 : Int) + (u : Int) + (n : Int) := by omega
  have i6 : (0 : Int) < (h.length : Int) := by omega
  have i7 : 0 < h.length := by omega
  have i8 : ¬ h.length = 0 := by omega
  have i9 : ((1 : Int) + (u : Int)).toNat = 1 + u := by omega
  have i10 : ((1 : Int) + (u : Int) + (n : Int)).toNat = 1 + u + n := by omega
  have hbody : ((h.take (1 + u + n)).drop (1 + u)).length = n := by simp; omega
  have hrb : Row w (if c = 1 + u then some ⟨b, off, none⟩ else some ⟨b, off + (1 + u), none⟩) (bVs ((h.take (1 + u + n)).drop (1 + u))) := by
    split
    · refine Or.inl (List.eq_nil_of_length_eq_zero ?_)
      rw [bVs_length, hbody]; omega
    · have := (hr.take (1 + u + n)).drop (1 + u)
      simpa [bVs] using this
  generalize (h.take (1 + u + n)).drop (1 + u) = body at *
  have hbl : body.length ≤ 140737488355328 := by omega
  have Hbody := Lib.hid hbody
  clear hbody
  generalize hA1 : (if c = 1 + u then some (⟨b, off, none⟩ : Addr) else some ⟨b, off + (1 + u), none⟩) = A1 at *
  have nn1 := World.new_ne w _ h1
  have nn2 := World.new_ne w _ hc0
  have i5 : IntKind.i64.wrap (1 + (u : Int)) = 1 + (u : Int) := IntWalk.i64_in _ (by omega)
  go_enter Try.func24, Try.ntmps24
  go_wp2_with (go_at_call 33; refine (Hgv.out _ (hr1.alloc _) (by omega)).mono ?_; rintro e w' ⟨rfl, rfl⟩; rw [Hg.out])
  go_region_held3 (fun w' => w'.cell? ⟨pb, 1, none⟩ = some (.slice (some ⟨b, off, none⟩) h.length c) ∧ w'.cell? ⟨b, off, none⟩ = some (.int .u8 (x.toNat : Int))) (go_keep)
    (first | (go_at_call 25; refine (join_one _ _ n (c - (1 + u)) A1 body _ ?_ ?_ ?_ ?_ ?_ ?_).mono ?_; (exact (Row.newAt (by simp) rfl).drew); (exact Hbody.out); (omega); (simp only [maxLen]; omega); (exact ((hrb.alloc _).alloc _).drew); (have := Hbody.out; omega); rintro e w1 ⟨A', cap', rfl, hown, hbel⟩; have hB : Below w.heap.size w w1 := (((Below.refl _ w).alloc (Nat.le_refl _) _).alloc (by simp) _).drew.trans (hbel.mono (by simp; omega)); have hk := (((Blk.new w 54 #[.int .u8 0, .slice none 0 0]).alloc _).drew).below hbel (by simp; omega); have k1 := cell_below hB h1; have k2 := cell_below hB hc0; have k3 := hk.cell 0; have k4 := hk.cell 1; have k5 := hk.frozen 0; have k6 := hk.frozen 1; have Hown := Lib.hid hown; have Hbel := Lib.hid hB; have Hk := Lib.hid hk; clear hown hbel hB hk; simp at k3 k4))
  go_wp2
  have hk2 := (Hk.out.set_ 0 (.int .u8 (x.toNat : Int))).set_ 1 (.slice A' body.length cap')
  have q0 := hk2.cell 0
  have q1 := hk2.cell 1
  simp only [List.setIfInBounds_toArray, List.set_cons_zero, List.set_cons_succ, List.getElem?_toArray, List.getElem?_cons_zero, List.getElem?_cons_succ] at q0 q1
  refine bodyPost_ret (v := .tuple #[.agg #[.int .u8 (x.toNat : Int), .slice A' body.length cap'], .int .i64 (1 + u + n), .int .i64 0]) (by simp [results, Try.results24, go_sem, q0, q1]) rfl ?_
  have hown2 : w1.ownsRow w.heap.size 5 1 (.slice A' body.length cap') body.length (bVs body) := own_base Hown.out (by simp; omega)
  have hg1 := grown_set w1 w.heap.size 0 (.int .u8 (x.toNat : Int))
  have hg2 := grown_set (w1.setCell ⟨w.heap.size, 0, none⟩ (.int .u8 (x.toNat : Int))) w.heap.size 1 (.slice A' body.length cap')
  have hn1 := own_ne_blk hown2 Hk.out (by decide)
  refine FramePost.inr Hfs.out (by rw [show ((1 + u + n : Nat) : Int) = 1 + (u : Int) + (n : Int) by omega]; rfl) ((hown2.kept hg1 (Or.inr hn1)).kept hg2 (Or.inr hn1)) ?_
  exact (Hbel.out.setCell (p := ⟨w.heap.size, 0, none⟩) (Nat.le_refl _) _).setCell (p := ⟨w.heap.size, 1, none⟩) (Nat.le_refl _) _
theorem frame_any (pb c : Nat) (A : Option Addr) (most : Int) (h : List UInt8) (w : World)
    (h0 : w.cell? ⟨pb, 0, none⟩ = some (.int .i64 most)) (h1 : w.cell? ⟨pb, 1, none⟩ = some (.slice A h.length c)) (hc : h.length ≤ c) (hm : c ≤ maxLen)
    (hr : Row w A (bVs h)) (hsm : h.length ≤ 140737488355328) :
    Calls Try.prog 24 #[.pointer (some ⟨pb, 0, none⟩)] w (FramePost most h w) := by
  by_cases hl : h.length < 2
  · exact frame_short pb c A most h w h0 h1 hl
  · rcases hr with hr | ⟨b, off, rfl, hr⟩
    · have := congrArg List.length hr; rw [bVs_length] at this; simp at this; subst this; simp at hl
    · exact frame_long pb c b off most h w h0 h1 (by omega) hc hm (Or.inr ⟨b, off, rfl, hr⟩) hsm
end Go.Proofs.Ytbndfejfhngeoaa
