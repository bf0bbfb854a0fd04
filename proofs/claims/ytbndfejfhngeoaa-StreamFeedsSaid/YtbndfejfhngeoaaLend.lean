/- tidingskeep: Same (of the same bytes), Twin, Lend, Back. -/
import Derived.Test.YtbndfejfhngeoaaKeep
import Derived.Test.YtbndfejfhngeoaaJoin
import Derived.Test.YtbndfejfhngeoaaMem2
import Derived.OwnWalk
namespace Go.Proofs.Ytbndfejfhngeoaa
open Go.RowKit

section
variable {P : Program} {t e : TypeId} {z : Value} {size bytes : Nat}
/-- append within the capacity: the value is known -/
theorem run_app_fits (T : SliceT P t e z size bytes) (w : World) (ty : TypeId) {base g n c0 : Nat} {xs : List Value} (hown : w.ownsRow base e size (.slice (some ⟨g, 0, none⟩) n c0) n xs)
    {A : Option Addr} {m c : Nat} {news : List Value} (hl : news.length = m * size) (hr : Row w A news) (h1 : ∀ u ∈ news, u.oneCell' = true) (hroom : n + m ≤ c0) :
    ∃ w', (Builtin.append_ #[t, t] ty #[.slice (some ⟨g, 0, none⟩) n c0, .slice A m c]).run P w = .ok (.slice (some ⟨g, 0, none⟩) (n + m) c0) w' ∧ w'.ownsRow base e size (.slice (some ⟨g, 0, none⟩) (n + m) c0) (n + m) (xs ++ news) ∧ w.grownBy w' (some g) := by
  obtain ⟨i, hi, hz, hsz, hby⟩ := T.hi
  rcases A with _ | ad
  · have hn : news = [] := by
      rcases hr with h | ⟨b, off, e, _⟩
      · exact h
      · cases e
    subst hn
    have hm : m = 0 := by
      have h2 : m * size = 0 := by simpa using hl.symm
      rcases Nat.mul_eq_zero.1 h2 with h | h
      · exact h
      · have := T.hs; omega
    subst hm
    refine ⟨w, ?_, by simpa using hown, World.grownBy.refl w _⟩
    have hnc := (own_cap hown).1
    simp [Builtin.append_, run_underlying T.ht, sizeOf, typeInfo, hi, Builtin.lenOf, Builtin.firstCells, hnc, storeCells]
  · have hcells : ∀ j u, news[j]? = some u → w.cell? (ad.add j) = some u := by
      intro j u hu
      rcases hr with h | ⟨b, off, e, h⟩
      · subst h; simp at hu
      · injection e with e
        subst e
        rw [Addr.add_lit]
        exact h j u hu
    exact run_append_fits (P := P) w base t ty e i size T.ht hi hsz g n c0 xs hown ad m c news hl hcells h1 hroom
theorem wpList_app_fits (T : SliceT P t e z size bytes) {w : World} {ops : Array Oper} {rest : List Oper} {o : Oper} {a : Act} {Q : Exit → Act → World → Prop} (hgd : o.guard = none) (s x : Operand)
    (ho : o.op = .call { callee := .builtin .append, args := #[s, x], argTypes := #[t, t] })
    {base g n c0 : Nat} {xs : List Value} (hs : a.eval s = .slice (some ⟨g, 0, none⟩) n c0) (hown : w.ownsRow base e size (.slice (some ⟨g, 0, none⟩) n c0) n xs)
    {A : Option Addr} {m c : Nat} {news : List Value} (hx : a.eval x = .slice A m c) (hl : news.length = m * size) (hr : Row w A news) (h1 : ∀ u ∈ news, u.oneCell' = true) (hroom : n + m ≤ c0)
    (h : ∀ w', w'.ownsRow base e size (.slice (some ⟨g, 0, none⟩) (n + m) c0) (n + m) (xs ++ news) → w.grownBy w' (some g) → wpList P ops Q rest (a.put o.dst (.slice (some ⟨g, 0, none⟩) (n + m) c0)) w') :
    wpList P ops Q (o :: rest) a w := by
  refine wpList_plain hgd fun K hK => ?_
  obtain ⟨w', hrun, h2, h3⟩ := run_app_fits T w o.type hown (c := c) hl hr h1 hroom
  unfold Oper.wp execOp
  simp only [ho, resolve, invoke, builtin, Sem.run_bind, Sem.run_pure, Result.andThen_ok, List.map_toArray, List.map_cons, List.map_nil, hs, hx, hrun]
  exact hK _ _ (h w' h2 h3)
end
set_option maxHeartbeats 400000 in
theorem ksame (A B : Option Addr) (ca cb : Nat) (l : List UInt8) (w : World) (ha : Row w A (bVs l)) (hb : Row w B (bVs l)) :
    Calls Try.prog 27 #[.slice A l.length ca, .slice B l.length cb] w fun e w' => e = .returned (.bool true) ∧ w = w' := by
  have c1 := run_str (P := Try.prog) (w := w) (cap := ca) Try.underlying22 Try.underlying5 Try.underlying9 ha
  have c2 := run_str (P := Try.prog) (w := w) (cap := cb) Try.underlying22 Try.underlying5 Try.underlying9 hb
  go_enter Try.func27, Try.ntmps27
  go_wp2
  go_ret
  exact ⟨rfl, rfl⟩
set_option maxHeartbeats 400000 in
theorem ktwin (A : Option Addr) (ca : Nat) (l : List UInt8) (w : World) (ha : Row w A (bVs l)) (hsm : l.length ≤ 140737488355328) :
    Calls Try.prog 28 #[.slice A l.length ca] w (RetOwn l w) := by
  go_enter Try.func28, Try.ntmps28
  go_wp2_with (first
    | (at_builtin
       refine wpList_app stB rfl (.tmp 4) (.tmp 5) rfl rfl (World.ownsRow_nil _ w.heap.size _ _) rfl (by rw [bVs_length]; omega) ha (one_bVs _) (by omega) (Nat.le_refl _) ?_
       intro A2 c2 w2 hown2 hg2 hat2))
  go_ret
  simp only [Nat.zero_add, List.nil_append] at hown2 ⊢
  exact ⟨A2, c2, rfl, hown2, (Below.refl _ _).grown hg2 (Nat.le_refl _) (by simp [Value.ownBlock])⟩
/-- lent bytes, with their marks, in block g -/
def Lent (w : World) (g : Nat) (b : List UInt8) : Prop := w.ownsRow 0 5 1 (.slice (some ⟨g, 0, none⟩) (b.length + 2) (b.length + 2)) (b.length + 2) (bVs (b ++ [165, 90]))
theorem Lent.row {w : World} {g : Nat} {b : List UInt8} (h : Lent w g b) : Row w (some ⟨g, 0, none⟩) (bVs b) := by
  have := (Row.of_own h).take b.length
  rw [bVs_append, ← bVs_length b, List.take_left] at this
  exact this
theorem Lent.kept {S : Nat → Prop} {w w' : World} {g : Nat} {b : List UInt8} (h : Lent w g b) (hk : Kept S w w') (hn : ¬ S g) : Lent w' g b :=
  hk.own h (fun g' e => by have : g = g' := by simpa [Value.ownBlock] using e
                           rw [← this]; exact hn)
theorem Lent.lt {w : World} {g : Nat} {b : List UInt8} (h : Lent w g b) : g < w.heap.size := (World.ownsRow.lt h g rfl).2
set_option maxHeartbeats 400000 in
theorem klend (A : Option Addr) (ca : Nat) (b : List UInt8) (w : World) (ha : Row w A (bVs b)) (hsm : b.length ≤ 1099511627776) :
    Calls Try.prog 14 #[.slice A b.length ca] w fun e w' => e = .returned (.slice (some ⟨w.heap.size, 0, none⟩) b.length (b.length + 2)) ∧ Lent w' w.heap.size b ∧ Below w.heap.size w w' := by
  obtain ⟨i0, hi, hz0, hz1, hz2⟩ := stB.hi
  go_enter Try.func14, Try.ntmps14
  go_wp2_with (first
    | (at_make
       refine wpList_make_own _ rfl _ _ _ rfl w.heap.size 5 i0 _ 1 Try.underlying22 hi hz0 hz1 _ _ _ (b.length + 2) rfl rfl (by omega) (by rw [hz2]; omega) (by simp only [maxLen]; omega) (Nat.le_refl _) ?_
       intro w1 hown1 hg1
       have hb1 := (Below.refl w.heap.size w).grown hg1 (Nat.le_refl _) (by simp)
       clear hi hz0 hz1 hz2)
    | (at_builtin
       refine wpList_app_fits stB rfl (.tmp 8) (.tmp 9) rfl rfl hown1 rfl (by rw [bVs_length]; omega) (ha.below hb1) (one_bVs _) (by omega) ?_
       intro w2 hown2 hg2
       simp only [Nat.zero_add, List.nil_append] at hown2
       have hb2 := hb1.grown hg2 hb1.size (fun k hk => by injection hk with hk; omega)
       have hs2 := hb2.size)
    | (at_builtin
       refine wpList_app_fits stB rfl (.tmp 11) (.tmp 12) rfl rfl (hown2.alloc _) rfl (by rfl) (Row.newAt rfl rfl) (by simp [Value.oneCell']) (by omega) ?_
       intro w3 hown3 hg3
       have hb3 := (hb2.alloc hs2 _).grown hg3 (by simp; omega) (fun k hk => by injection hk with hk; omega)))
  go_ret
  refine ⟨rfl, ?_, hb3⟩
  have : bVs (b ++ [165, 90]) = bVs b ++ #[Value.int .u8 165, Value.int .u8 90].toList := by rw [bVs_append]; rfl
  unfold Lent
  rw [this]
  exact own_base hown3 (Nat.zero_le _)
set_option maxRecDepth 100000 in
set_option maxHeartbeats 1000000 in
theorem kback (B : Option Addr) (cb g : Nat) (b : List UInt8) (w : World) (hl : Lent w g b) (hb : Row w B (bVs b)) (hsm : b.length ≤ 1099511627776) :
    Calls Try.prog 21 #[.slice (some ⟨g, 0, none⟩) b.length (b.length + 2), .slice B b.length cb] w fun e w' => e = .returned (.bool true) ∧ Kept (· = g) w w' := by
  have hs := Lib.hid (ksame (some ⟨g, 0, none⟩) B (b.length + 2) cb b w hl.row hb)
  have hx := hl.1
  rw [bVs_length] at hx
  have h1 := hl.cellAt b.length (by omega)
  have h2 := hl.cellAt (b.length + 1) (by omega)
  rw [bVs_append, List.getElem?_append_right (by rw [bVs_length]; omega), bVs_length, Nat.sub_self] at h1
  rw [bVs_append, List.getElem?_append_right (by rw [bVs_length]; omega), bVs_length, show b.length + 1 - b.length = 1 by omega] at h2
  replace h1 : w.cell? ⟨g, b.length, none⟩ = some (.int .u8 165) := h1
  replace h2 : w.cell? ⟨g, b.length + 1, none⟩ = some (.int .u8 90) := h2
  have HL := Lib.hid hl
  clear hl hx
  go_enter Try.func21, Try.ntmps21
  go_wp2_with (go_at_call 27; refine hs.out.mono ?_; rintro e w' ⟨rfl, rfl⟩)
  go_loopw [6] (fun i wr => ∃ (k : Nat) (l : List UInt8), k ≤ b.length ∧ i = .int .i64 (k : Int) ∧ wr.ownsRow 0 5 1 (.slice (some ⟨g, 0, none⟩) (b.length + 2) (b.length + 2)) (b.length + 2) (bVs l) ∧ Kept (· = g) w wr) (fun i _ => b.length - (intOf i).toNat)
  case atStart => exact ⟨0, b ++ [165, 90], by omega, rfl, HL.out, Kept.refl _ _⟩
  case round =>
    obtain ⟨k, l, hk, rfl, hown, hkept⟩ := hrel
    clear h1 h2 HL hs
    by_cases hlt : k < b.length
    · have hll : l.length = b.length + 2 := by have := hown.1; rw [bVs_length] at this; omega
      have hc := hown.cellAt k (by omega)
      have hf := hown.frozenAt k
      rw [show (bVs l)[k]? = some (bV (l[k]'(by omega))) by simp [bVs, show k < l.length by omega]] at hc
      unfold bV at hc
      have hst := fun v => hown.stored k (bV v)
      have hset : ∀ v, (bVs l).set k (bV v) = bVs (l.set k v) := fun v => by simp [bVs, List.map_set]
      have Hst := Lib.hid hst
      have Hset := Lib.hid hset
      obtain ⟨x, hx, hx256⟩ : ∃ x : Nat, Hid ((l[k]'(by omega)).toNat = x) ∧ x < 256 := ⟨_, Lib.hid rfl, (l[k]'(by omega)).toNat_lt⟩
      rw [hx.out] at hc
      clear hst hset hll hx
      go_wp2
      go_roundw
      case rel =>
        have hv : Value.int .u8 (((x : Int) + 77) % 256) = bV (UInt8.ofNat ((x + 77) % 256)) := by
          simp only [bV, UInt8.toNat_ofNat']; congr 1; omega
        rw [hv]
        obtain ⟨ho, hg⟩ := Hst.out (UInt8.ofNat ((x + 77) % 256))
        rw [Hset.out] at ho
        exact ⟨k + 1, _, by omega, by go_num, ho, hkept.setCell (p := ⟨g, k, none⟩) (Or.inr rfl) _⟩
      case measure => simp [intOf]; omega
    · go_wp2
      go_ret
      exact ⟨rfl, hkept⟩
end Go.Proofs.Ytbndfejfhngeoaa
