/- The reference's Cut: all frames of bytes. -/
import Derived.Test.YtbndfejfhngeoaaRefVar
import Derived.Test.YtbndfejfhngeoaaSame
import Derived.Test.YtbndfejfhngeoaaPieceLaw
import Derived.Test.YtbndfejfhngeoaaMem2
import Derived.Test.YtbndfejfhngeoaaKeep
import Derived.Deep.RegionHeld3
import Derived.Deep.DrawnRows
namespace Go.Proofs.Ytbndfejfhngeoaa
open Go.RowKit
attribute [local go_sem ↓] Go.wp_at_zero Go.wp_at_succ

theorem own_lit0 (w : World) : (w.alloc (.cells #[] 5)).drew.ownsRow w.heap.size 5 1 (.slice (some ⟨w.heap.size, 0, none⟩) 0 0) 0 [] :=
  World.ownsRow_lit (base := w.heap.size) (e := 5) (size := 1) w #[] 0 (Nat.le_refl _) (Nat.zero_le _) rfl
theorem rc_b5 {wr w5 : World} {o : Obj} (hg5 : (wr.alloc o).drew.grownBy w5 (Value.ownBlock (.slice (some ⟨wr.heap.size, 0, none⟩) 0 0))) : Below wr.heap.size wr w5 :=
  (((Below.refl _ wr).alloc (Nat.le_refl _) _).drew).grown hg5 (by simp) (fun k hk => by simp [Value.ownBlock] at hk; omega)
/-- frames in rows of their own -/
def FrOwn (w : World) (base : Nat) (A : Option Addr) (c : Nat) (fs : List (UInt8 × List UInt8)) : Prop :=
  ∃ bs, w.ownsRow base 54 2 (.slice A fs.length c) fs.length (frCells fs bs) ∧ Bods w base bs (fs.map (·.2))
theorem FrOwn.read {w : World} {base : Nat} {A : Option Addr} {c : Nat} {fs : List (UInt8 × List UInt8)} (h : FrOwn w base A c fs) : FrRead w A fs := by
  obtain ⟨bs, h1, h2⟩ := h
  exact ⟨bs, Row.of_own h1, h2.parts⟩
theorem FrOwn.kept {S : Nat → Prop} {w w' : World} {base : Nat} {A : Option Addr} {c : Nat} {fs : List (UInt8 × List UInt8)} (h : FrOwn w base A c fs) (hk : Kept S w w') (hs : ∀ g, base ≤ g → ¬ S g) : FrOwn w' base A c fs := by
  obtain ⟨bs, h1, h2⟩ := h
  exact ⟨bs, hk.own h1 (fun g hg => hs g (h1.lt g hg).1), h2.kept hk (fun i v g hv hg => hs g (h2.lt hv hg).1)⟩
/-- Cut's answer -/
def RefCutPost (most : Int) (b : List UInt8) (w : World) (e : Ending) (w' : World) : Prop :=
  ∃ (Ao : Option Addr) (co at_ : Nat), e = .returned (.tuple #[.slice Ao (feedS most b).1.length co, .int .i64 ((feedS most b).2.2 : Nat), .int .i64 (at_ : Int)]) ∧ FrOwn w' w.heap.size Ao co (feedS most b).1 ∧ Below w.heap.size w w' ∧
    (feedS most b).1.length ≤ co ∧ co ≤ maxLen ∧ at_ ≤ b.length ∧ ((feedS most b).2.2 = 0 → at_ + (feedS most b).2.1.length = b.length)

/-- what holds at the head of Cut's loop -/
def RcRel (most : Int) (b : List UInt8) (w : World) (k : Nat) (l at_ : Value) (wr : World) : Prop :=
  ∃ (Al : Option Addr) (nl cl p : Nat) (fs : List (UInt8 × List UInt8)) (bs : List Value), k = b.length - p ∧ p ≤ b.length ∧ l = .slice Al nl cl ∧ at_ = .int .i64 (p : Int) ∧ wr.ownsRow w.heap.size 54 2 (.slice Al nl cl) nl (frCells fs bs) ∧
    Bods wr w.heap.size bs (fs.map (·.2)) ∧ 2 * fs.length ≤ p ∧ feedS most b = (fs ++ (feedS most (b.drop p)).1, (feedS most (b.drop p)).2) ∧ Below w.heap.size w wr
theorem rc_end {most : Int} {b : List UInt8} {w wr : World} {Al : Option Addr} {nl cl p code : Nat} {fs : List (UInt8 × List UInt8)} {bs : List Value} {hh : List UInt8} (hp : p ≤ b.length) (ho : wr.ownsRow w.heap.size 54 2 (.slice Al nl cl) nl (frCells fs bs))
    (hb : Bods wr w.heap.size bs (fs.map (·.2))) (hfd : feedS most b = (fs, hh, code)) (hbel : Below w.heap.size w wr) (hh0 : code = 0 → p + hh.length = b.length) :
    RefCutPost most b w (.returned (.tuple #[.slice Al nl cl, .int .i64 (code : Int), .int .i64 (p : Int)])) wr := by
  have hn : fs.length = nl := by have := ho.1; rw [frCells_length fs bs (by simpa using hb.1.symm)] at this; omega
  subst hn
  unfold RefCutPost
  rw [hfd]
  obtain ⟨h1, h2⟩ := own_cap ho
  exact ⟨Al, cl, p, rfl, ⟨bs, ho, hb⟩, hbel, h1, h2, hp, hh0⟩

theorem rc_next {most : Int} {b body : List UInt8} {x : UInt8} {w wr w5 w6 : World} {Al A5 A6 : Option Addr} {nl cl p q n m c5 c6 : Nat} {fs : List (UInt8 × List UInt8)} {bs : List Value} {o : Obj} {pv : Int} (hq : p + m = q) (hql : q ≤ b.length)
    (hown : wr.ownsRow w.heap.size 54 2 (.slice Al nl cl) nl (frCells fs bs)) (hbods : Bods wr w.heap.size bs (fs.map (·.2))) (hfl : fs.length = nl) (hfsl : 2 * fs.length ≤ p)
    (hfd : feedS most b = (fs ++ (feedS most (b.drop p)).1, (feedS most (b.drop p)).2)) (hfr : frameS most (b.drop p) = .inr (x, body, m)) (hbel : Below w.heap.size w wr) (hB5 : Below wr.heap.size wr w5) (hbody : body.length = n)
    (hown5 : w5.ownsRow wr.heap.size 5 1 (.slice A5 n c5) n (bVs body)) (hg6 : (w5.alloc o).grownBy w6 (Value.ownBlock (.slice Al nl cl)))
    (hown6 : w6.ownsRow w.heap.size 54 2 (.slice A6 (nl + 1) c6) (nl + 1) (frCells fs bs ++ [.int .u8 (x.toNat : Int), .slice A5 n c5])) (hpv : pv = (q : Int)) :
    RcRel most b w (b.length - q) (.slice A6 (nl + 1) c6) (.int .i64 pv) w6 := by
  subst hq hpv hbody
  have hm := frameS_inr hfr
  have hs := hbel.size
  have hs5 := hB5.size
  have hlb : fs.length = bs.length := by simpa using hbods.1.symm
  refine ⟨A6, nl + 1, c6, p + m, fs ++ [(x, body)], bs ++ [.slice A5 body.length c5], rfl, hql, rfl, rfl, ?_, ?_, by simp; omega, ?_, ?_⟩
  · rw [frCells_snoc _ _ _ _ hlb]; exact hown6
  · rw [List.map_append]
    have h5 := hbods.snoc (l := body) hB5 hown5 hs
    refine h5.keptT (S := fun k => Value.ownBlock (.slice Al nl cl) = some k) (((Kept.refl _ w5).alloc o).trans (Kept.of_grown hg6 (fun _ e _ => e))) (fun g cs _ hcs e => ?_)
    have hown5' := (Kept.of_below (S := fun _ => False) hB5).own hown (fun _ _ => id)
    exact own_ne_blk hown5' hcs (by decide) e
  · rw [hfd, feedS_step hfr, List.drop_drop]; simp
  · exact ((hbel.trans (hB5.mono hs)).alloc (by omega) o).grown hg6 (by simp; omega) (fun k hk => (hown.lt k hk).1)

set_option maxRecDepth 100000 in
set_option maxHeartbeats 2000000 in
theorem refcut (most : Int) (A : Option Addr) (c : Nat) (b : List UInt8) (w : World) (hr : Row w A (bVs b)) (hc : b.length ≤ c) (hm : c ≤ maxLen) (hsm : b.length ≤ 1099511627776) :
    Calls Try.prog 26 #[.int .i64 most, .slice A b.length c] w (RefCutPost most b w) := by
  have hrel0 : RcRel most b w b.length (.slice none 0 0) (.int .i64 0) w := ⟨none, 0, 0, 0, [], [], by omega, by omega, rfl, rfl, World.ownsRow_nil _ _ _ _, Bods.nil' _ _, by simp, by simp, Below.refl _ _⟩
  have Hrel0 := Lib.hid hrel0
  clear hrel0
  unfold maxLen at hm
  go_enter Try.func26, Try.ntmps26
  go_wp2
  go_loopg [7, 8] b.length (fun k l at_ wr => RcRel most b w k l at_ wr)
  case atStart => exact Hrel0.out
  case round =>
    clear Hrel0
    obtain ⟨Al, nl, cl, p, fs, bs, rfl, hp, rfl, rfl, hown, hbods, hfsl, hfd, hbel⟩ := hrel
    have Hfd := Lib.hid hfd
    clear hfd
    by_cases hl : (b.drop p).length < 2
    · have hf : frameS most (b.drop p) = .inl 0 := by simp [frameS, List.length_drop] at hl ⊢; omega
      have hend := Lib.hid (rc_end (code := 0) (hh := b.drop p) hp hown hbods (by rw [Hfd.out, feedS_stop hf]; simp) hbel (by simp; omega))
      rw [List.length_drop] at hl
      have hl' : (b.length : Int) - (p : Int) < 2 := by omega
      go_wp2
      go_ret3
      exact hend.out
    · have hgb := gv_bound (b.drop (p + 1)) 0 0 (by omega) (by simp)
      have htl : (b.drop p).tail = b.drop (p + 1) := by rw [List.tail_drop]
      have hl2 : 2 ≤ (b.drop p).length := by omega
      rw [List.length_drop] at hl
      obtain ⟨bb, off, rfl, hc0⟩ := hr.at' (i := p) (by rw [bVs_length]; omega)
      have hbb : bb < w.heap.size := World.block_lt_of_cell? w _ hc0
      have hc0v : (bVs b)[p]'(by rw [bVs_length]; omega) = .int .u8 ((b.drop p).headD 0).toNat := by
        simp [bVs, bV, List.head?_drop, show p < b.length by omega]
      rw [hc0v] at hc0
      have hrt : Row w (some ⟨bb, off + (p + 1), none⟩) (bVs (b.drop (p + 1))) := by rw [bVs_drop]; exact hr.drop (p + 1)
      have hvar := refvar (some ⟨bb, off + (p + 1), none⟩) (b.drop (p + 1)) (c - (p + 1)) wr (hrt.below hbel) (by simp; omega)
      rw [List.length_drop] at hvar hgb
      unfold GvPost at hvar
      generalize hg : gv 0 0 (b.drop (p + 1)) = g at hgb hvar
      obtain ⟨n, u, e⟩ := g
      simp only at hgb hvar
      rw [← htl] at hg
      have hfs := frameS_long (most := most) hl2 hg
      have Hvar := Lib.hid hvar
      have Hfs := Lib.hid hfs
      have hc1 : ¬ c = p + 1 := by omega
      have hlt2 : ¬ ((b.length : Int) - (p : Int) < 2) := by omega
      have hp0 := cell_below hbel hc0
      clear hvar hfs hg htl hc0v hc0 hl2
      obtain ⟨g1, g2, g3, g4⟩ := hgb
      by_cases e11 : e = 11
      · subst e11
        have hf := Hfs.out.trans (if_pos rfl)
        have hend := Lib.hid (rc_end (code := 0) (hh := b.drop p) hp hown hbods (by rw [Hfd.out, feedS_stop hf]; simp) hbel (by simp; omega))
        clear hf g4
        go_wp2_with (go_at_call 34; refine Hvar.out.mono ?_; rintro e w' ⟨rfl, rfl⟩)
        go_ret3
        exact hend.out
      by_cases e0 : e = 0
      rotate_left
      · have hf := Hfs.out.trans ((if_neg e11).trans (if_pos e0))
        have hend := Lib.hid (rc_end (code := 129) (hh := []) hp hown hbods (by rw [Hfd.out, feedS_broken hf (by omega)]; simp) hbel (by simp))
        have q1 : ((e : Int) == 11) = false := by simp; omega
        have q2 : ((e : Int) != 0) = true := by simp; omega
        clear hf g4
        go_wp2_with (go_at_call 34; refine Hvar.out.mono ?_; rintro e w' ⟨rfl, rfl⟩)
        go_ret3
        exact hend.out
      subst e0
      obtain ⟨g4, g5⟩ := g4 rfl
      replace Hfs := Lib.hid (Hfs.out.trans ((if_neg e11).trans (if_neg (by simp))))
      clear e11
      by_cases hmost : most < ((1 + u + n : Nat) : Int)
      · have hf := Hfs.out.trans (if_pos hmost)
        have hend := Lib.hid (rc_end (code := 149) (hh := []) hp hown hbods (by rw [Hfd.out, feedS_broken hf (by omega)]; simp) hbel (by simp))
        clear hf
        go_wp2_with (go_at_call 34; refine Hvar.out.mono ?_; rintro e w' ⟨rfl, rfl⟩)
        go_ret3
        exact hend.out
      replace Hfs := Lib.hid (Hfs.out.trans (if_neg hmost))
      by_cases hlen : (b.drop p).length < 1 + u + n
      · have hf := Hfs.out.trans (if_pos hlen)
        have hend := Lib.hid (rc_end (code := 0) (hh := b.drop p) hp hown hbods (by rw [Hfd.out, feedS_stop hf]; simp) hbel (by simp; omega))
        rw [List.length_drop] at hlen
        clear hf
        go_wp2_with (go_at_call 34; refine Hvar.out.mono ?_; rintro e w' ⟨rfl, rfl⟩)
        go_ret3
        exact hend.out
      replace Hfs := Lib.hid (Hfs.out.trans (if_neg hlen))
      rw [List.length_drop] at hlen
      have hbody : (((b.drop p).take (1 + u + n)).drop (1 + u)).length = n := by simp; omega
      have hrb : Row w (if c = p + 1 + u then some ⟨bb, off, none⟩ else some ⟨bb, off + (p + 1 + u), none⟩) (bVs (((b.drop p).take (1 + u + n)).drop (1 + u))) := by
        split
        · refine Or.inl (List.eq_nil_of_length_eq_zero ?_)
          rw [bVs_length, hbody]; omega
        · have := ((hr.drop p).take (1 + u + n)).drop (1 + u)
          rw [show off + (p + 1 + u) = off + p + (1 + u) by omega]
          simpa [bVs] using this
      generalize ((b.drop p).take (1 + u + n)).drop (1 + u) = body at *
      generalize (b.drop p).headD 0 = x at *
      have Hbody := Lib.hid hbody
      generalize hA1 : (if c = p + 1 + u then some (⟨bb, off, none⟩ : Addr) else some ⟨bb, off + (p + 1 + u), none⟩) = A1 at *
      have hfl : fs.length = nl := by have := hown.1; rw [frCells_length fs bs (by simpa using hbods.1.symm)] at this; omega
      have hroomF : (nl + 1) * 32 ≤ 140737488355328 := by omega
      have hnb : (0 + n) * 1 ≤ 140737488355328 := by omega
      have Hfl := Lib.hid hfl
      clear hbody hfl
      have hs0 := hbel.size
      have nn1 := World.new_ne wr _ hp0
      simp only at nn1
      have hne : ∀ g, Value.ownBlock (.slice Al nl cl) = some g → bb ≠ g := fun g hg e => by have := (hown.lt g hg).1; omega
      have Hne := Lib.hid hne
      have hbl : bb < wr.heap.size := by omega
      clear hne
      have i1 : (0 : Int) ≤ (p : Int) := by omega
      have i2 : (p : Int) < (b.length : Int) := by omega
      have i3 : (0 : Int) ≤ (p : Int) + 1 + (u : Int) := by omega
      have i4 : (p : Int) + 1 + (u : Int) ≤ (p : Int) + (1 + (u : Int) + (n : Int)) := by omega
      have i5 : (p : Int) + (1 + (u : Int) + (n : Int)) ≤ (c : Int) := by omega
      have i6 : (0 : Int) ≤ (p : Int) + (1 + (u : Int) + (n : Int)) := by omega
      have i7 : ((p : Int) + 1 + (u : Int)).toNat = p + 1 + u := by omega
      have i8 : ((p : Int) + (1 + (u : Int) + (n : Int))).toNat = p + 1 + u + n := by omega
      have i9 : IntKind.i64.wrap ((p : Int) + 1) = (p : Int) + 1 := IntWalk.i64_in _ (by omega)
      have i10 : IntKind.i64.wrap ((p : Int) + 1 + (u : Int)) = (p : Int) + 1 + (u : Int) := IntWalk.i64_in _ (by omega)
      have i11 : IntKind.i64.wrap ((p : Int) + (1 + (u : Int) + (n : Int))) = (p : Int) + (1 + (u : Int) + (n : Int)) := IntWalk.i64_in _ (by omega)
      go_wp2_with (go_at_call 34; refine Hvar.out.mono ?_; rintro e w' ⟨rfl, rfl⟩)
      go_region_held3 (fun w' => w'.cell? ⟨bb, off + p, none⟩ = some (.int .u8 (x.toNat : Int))) (go_keep)
        (first
          | (refine step_app stB (by rfl) (.tmp 59) (.tmp 68) (by rfl) (by rfl) (base := wr.heap.size) (xs := []) ?_ (by rfl) (m := n) (news := bVs body) ?_ ?_ (one_bVs _) hnb ?_ ?_; (exact own_lit0 wr); (rw [bVs_length, Hbody.out]; omega); (exact ((hrb.below hbel).alloc _).drew); (simp); intro A5 c5 w5 hown5 hg5 hat5; have hB5 := rc_b5 hg5; have z1 := cell_below hB5 hp0; have hs5 := hB5.size; have nn5 : w5.heap.size ≠ bb := (by omega); have HB5 := Lib.hid hB5; (simp only [Nat.zero_add, List.nil_append] at hown5); have Hown5 := Lib.hid hown5; (simp only [Nat.zero_add]); clear hB5 hg5 hat5 hown5)
          | (refine step_app stF (by rfl) (.tmp 54) (.tmp 71) (by rfl) (by rfl) (((Kept.of_below (S := fun _ => False) HB5.out).own hown (fun _ _ => id)).alloc _) (by rfl) (news := [.int .u8 (x.toNat : Int), .slice A5 n c5]) (by rfl) (Row.newAt (by rfl) (by rfl)) (by simp [Value.oneCell']) hroomF (by simp; omega) ?_; intro A6 c6 w6 hown6 hg6 hat6; have z2 := hg6.cell (a := ⟨bb, off + p, none⟩) (v := .int .u8 (x.toNat : Int)) (by go_keep) (fun e => Hne.out _ e.symm rfl); have Hg6 := Lib.hid hg6; have Hown6 := Lib.hid hown6; clear hg6 hown6 hat6))
      go_wp2
      go_roundg (b.length - (p + (1 + u + n)))
      case measure => omega
      case rel =>
        have hfr := Hfs.out
        refine rc_next (by omega) (by omega) hown hbods Hfl.out hfsl Hfd.out hfr hbel HB5.out Hbody.out Hown5.out Hg6.out Hown6.out (by omega)
end Go.Proofs.Ytbndfejfhngeoaa
