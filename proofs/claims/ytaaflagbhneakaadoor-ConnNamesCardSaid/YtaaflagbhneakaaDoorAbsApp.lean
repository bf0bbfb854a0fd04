/- ABS: append. -/
import Derived.Test.YtaaflagbhneakaaDoorAbsSt
import Derived.Laws.AppendOwn
namespace Go.Proofs.YtaaflagbhneakaaDoor
set_option linter.unusedSimpArgs false
set_option linter.unusedVariables false
open Go.RowKit

section
variable {P : Program} {base : Nat → Prop} {w0 w w' : World} {I0 I I' : Imm} {β β' : Bmap} {σ σ' : AHeap}

theorem kOk_lens {k k' : Nat} {ys : List AVal} (h : kOk k ys = true) (h' : ∀ y ∈ ys, y.cells.length = k') (hne : ys ≠ []) : k' = k := by
  cases ys with
  | nil => exact absurd rfl hne
  | cons y ys => simp only [kOk, beq_iff_eq] at h; rw [← h' y (by simp)]; exact h

theorem bytes_VRs (l : List UInt8) : VRs I β (l.map byteV) (l.map fun b => Value.int .u8 b.toNat) :=
  VRs_of (by simp) (fun i x v hx hv => by
    simp only [List.getElem?_map, Option.map_eq_some_iff] at hx hv
    obtain ⟨b, h1, rfl⟩ := hx
    obtain ⟨b', h2, rfl⟩ := hv
    rw [h1] at h2; injection h2 with h2; subst h2
    simp only [byteV, VR])
theorem bytes_flat (l : List UInt8) : (l.map byteV).flatMap AVal.cells = l.map byteV := by
  induction l with
  | nil => rfl
  | cons b l ih => simp only [List.map_cons, List.flatMap_cons, ih]; rfl
theorem bytes_tree (l : List UInt8) : treeL (l.map byteV) = true := by
  rw [treeL_iff]; intro x hx
  simp only [List.mem_map] at hx
  obtain ⟨b, _, rfl⟩ := hx
  rfl
theorem bytes_lens (l : List UInt8) : ∀ x ∈ l.map byteV, x.cells.length = 1 := by
  intro x hx
  simp only [List.mem_map] at hx
  obtain ⟨b, _, rfl⟩ := hx
  rfl

/-- the source of an append -/
structure Src (P : Program) (I : Imm) (β : Bmap) (w : World) (k : Nat) (v : Value) (ys : List AVal) (us : List Value) : Prop where
  vr : VRs I β (ys.flatMap AVal.cells) us
  len : us.length = ys.length * k
  lens : ∀ y ∈ ys, y.cells.length = k
  tree : treeL ys = true
  lenOf : (Builtin.lenOf v) = pure ys.length
  run : ∀ w' : World, w'.heap = w.heap → (Builtin.firstCells k ys.length v).run P w' = .ok us.toArray w'
  le : ys.length ≤ 9223372036854775807
/-- likewise, its cells whatever -/
structure Src0 (P : Program) (I : Imm) (β : Bmap) (w : World) (k : Nat) (v : Value) (ys : List AVal) (us : List Value) : Prop where
  vr : VRs I β (ys.flatMap AVal.cells) us
  len : us.length = ys.length * k
  lens : ∀ y ∈ ys, y.cells.length = k
  lenOf : (Builtin.lenOf v) = pure ys.length
  run : ∀ w' : World, w'.heap = w.heap → (Builtin.firstCells k ys.length v).run P w' = .ok us.toArray w'
theorem Src.to0 {k : Nat} {v : Value} {ys : List AVal} {us : List Value} (S : Src P I β w k v ys us) : Src0 P I β w k v ys us := ⟨S.vr, S.len, S.lens, S.lenOf, S.run⟩
theorem cell_heap {w w' : World} (h : w'.heap = w.heap) (a : Addr) : w'.cell? a = w.cell? a := by simp [World.cell?, h]
theorem src_of_reads {k : Nat} {v : Value} {ys : List AVal} (h : Reads I β w v ys) (hk : kOk k ys = true) : ∃ us, Src P I β w k v ys us := by
  obtain ⟨A, cap, rfl, h1, h2, h3, h4⟩ := h
  by_cases hne : ys = []
  · subst hne
    refine ⟨[], by simp [VRs], by simp, by simp, h3, rfl, fun w' _ => ?_, by simp⟩
    cases A <;> simp [Builtin.firstCells, loadCells, loadCellsFrom]
  · rcases h4 with h4 | ⟨b, off, k', us, rfl, hk', hl, hv, hc⟩
    · exact absurd h4 hne
    · have e := kOk_lens hk hl hne
      subst e
      have hlen : us.length = ys.length * k' := by rw [← VRs_length hv, flat_len hl]
      refine ⟨us, hv, hlen, hl, h3, rfl, fun w' hw => ?_, by omega⟩
      simp only [Builtin.firstCells]
      rw [← hlen]
      exact run_loadCells_list w' _ us (fun j u hu => by rw [Addr.add_mid, cell_heap hw]; exact hc j u hu)
theorem src_of_str {k : Nat} {l : List UInt8} (hl : l.length ≤ 9223372036854775807) (hk : kOk k (l.map byteV) = true) : ∃ us, Src P I β w k (.string ⟨l.toArray⟩) (l.map byteV) us := by
  by_cases hne : l = []
  · subst hne
    exact ⟨[], by simp [VRs], by simp, by simp, rfl, rfl, fun w' _ => by simp [Builtin.firstCells], by simp⟩
  · have e := kOk_lens hk (bytes_lens l) (by simpa using hne)
    subst e
    refine ⟨l.map fun b => Value.int .u8 b.toNat, by rw [bytes_flat]; exact bytes_VRs l, by simp, bytes_lens l, bytes_tree l, by simp [Builtin.lenOf, ByteArray.size], fun w' _ => ?_, by simpa using hl⟩
    simp only [Builtin.firstCells, List.length_map, Sem.run_pure]
    congr 1
    apply Array.ext'
    simp [ByteArray.data_extract]
theorem src_of {k : Nat} {y : AVal} {v : Value} {ys : List AVal} {ts : List Nat} (R : Rel base w0 I0 I β σ w) (h : elemsA σ y = some (ys, ts)) (hv : VR I β y v) (hk : kOk k ys = true) : ∃ us, Src P I β w k v ys us := by
  by_cases hs : ∃ l, y = .str l
  · obtain ⟨l, rfl⟩ := hs
    simp only [elemsA, Option.some.injEq, Prod.mk.injEq] at h
    obtain ⟨rfl, rfl⟩ := h
    simp only [VR] at hv
    obtain ⟨rfl, hl⟩ := hv
    exact src_of_str hl hk
  · exact src_of_reads (elems_reads R (fun l e => hs ⟨l, e⟩) h hv) hk

/-- the types of an append -/
structure AppT (P : Program) (t u e : TypeId) (i : TypeInfo) (z : Value) : Prop where
  ht : P.underlying t = some (.slice e)
  hu : (∃ e', P.underlying u = some (.slice e')) ∨ P.underlying u = some .string
  hi : P.info? e = some i
  hz : i.zero = some z
  hzs : z.cells.size = i.size
  hs : 0 < i.size
  hb : 0 < i.bytes

theorem run_app_fit {t u e ty : TypeId} {i : TypeInfo} {z : Value} (T : AppT P t u e i z) {A : Option Addr} {n cap : Nat} {v : Value} {ys : List AVal} {us : List Value} (S : Src0 P I β w i.size v ys us) (hfit : n + ys.length ≤ cap) :
    (Builtin.append_ #[t, u] ty #[.slice A n cap, v]).run P w = match A with
      | some a => ((storeCells (a.add (n * i.size)) us).run P w).andThen fun _ w' => .ok (.slice A (n + ys.length) cap) w'
      | none => .ok (.slice A (n + ys.length) cap) w := by
  have hr := S.run w rfl
  have hl := S.lenOf
  rcases T.hu with ⟨e', hd⟩ | hd <;> cases A <;> simp [Builtin.append_, run_underlying T.ht, run_underlying hd, sizeOf, typeInfo, T.hi, hl, hfit, hr]
theorem run_app_grow {t u e ty : TypeId} {i : TypeInfo} {z : Value} (T : AppT P t u e i z) {A : Option Addr} {n cap : Nat} {v : Value} {ys : List AVal} {us olds : List Value} (S : Src0 P I β w i.size v ys us)
    (hold : ∀ w' : World, w'.heap = w.heap → (Builtin.firstCells i.size n (.slice A n cap)).run P w' = .ok olds.toArray w') (hg : cap < n + ys.length) (hb : (n + ys.length) * i.bytes ≤ 140737488355328) :
    ∃ newCap, n + ys.length ≤ newCap ∧ newCap ≤ 9223372036854775807 ∧ (Builtin.append_ #[t, u] ty #[.slice A n cap, v]).run P w =
      .ok (.slice (some ⟨w.heap.size, 0, none⟩) (n + ys.length) newCap) (w.drew.alloc (.cells (olds ++ us ++ (Builtin.zeroCells z.cells (newCap - (n + ys.length))).toList).toArray e)) := by
  have hl := S.lenOf
  have hn : ¬ (n + ys.length ≤ cap) := by omega
  have hneed : n + ys.length ≤ 140737488355328 := by
    have : (n + ys.length) * 1 ≤ (n + ys.length) * i.bytes := Nat.mul_le_mul_left _ T.hb
    omega
  have h63' : ¬ (9223372036854775807 < ((n : Int) + (ys.length : Int))) := by omega
  have h48' : ¬ (281474976710656 < Builtin.nextslicecap (n + ys.length) cap * i.bytes) := by
    have := growslice_fits hg hb; omega
  refine ⟨grownCap w (n + ys.length) cap e, grownCap_ge w _ _ _, ?_, ?_⟩
  · have := grownCap_le_maxLen w (n + ys.length) cap e (by simp only [maxLen]; omega)
    simpa only [maxLen] using this
  · have hf := S.run w.drew rfl
    have hfo := hold w.drew rfl
    rcases T.hu with ⟨e', hd⟩ | hd <;>
      (simp [Builtin.append_, run_underlying T.ht, run_underlying hd, sizeOf, typeInfo, zeroValue, T.hi, T.hz, hl, hn, h63', h48', Question.forced, hf, hfo, newRow, grownCap]
       congr 2
       apply Array.ext'
       simp [List.append_assoc])

/-- a row that has grown into its next generation, whatever row -/
theorem Rel.growX (R : Rel base w0 I0 I β σ w) {t g : Nat} {x x' : ABlk} (hs : σ[t]? = some x) (hg : genB x = g) (hg' : genB x' = g + 1) (bi' : BI) (hB : KB base w w')
    (himm : ∀ b o u, I b o = some u → w'.cell? ⟨b, o, none⟩ = some u)
    (keep : ∀ b, owns β t x ≠ some b → b < w.heap.size → w'.heap[b]? = w.heap[b]?)
    (hbi : bi'.b = none ∨ ∃ b, bi'.b = some b ∧ (owns β t x = some b ∨ b = w.heap.size))
    (hbw : KLt base w) (hown : owns (β.put t (g + 1) bi') t x' = bi'.b) (hnf : x' ≠ .free)
    (hblk : BR I (β.put t (g + 1) bi') w' t x') :
    Rel base w0 I0 I (β.put t (g + 1) bi') (σ.set t x') w' ∧ β.le (β.put t (g + 1) bi') := by
  have hsl : t < σ.length := (List.getElem?_eq_some_iff.1 hs).1
  have hnone : β t (g + 1) = none := R.gen t _ (g + 1) hs (by omega)
  have hle : β.le (β.put t (g + 1) bi') := Bmap.put_le hnone
  have hI0 : ∀ o, I w.heap.size o = none := by
    intro o
    cases h : I w.heap.size o with
    | none => rfl
    | some u => have := cell_lt (R.imm _ _ _ h); omega
  refine ⟨R.upd (Imm.le.refl I) hle hB (fun _ _ _ => rfl) himm t _ rfl hsl (fun _ _ h => Bmap.put_ne h) ?_ hblk ?_ ?_ hnf, hle⟩
  · intro t' y b hne hy hb
    have hlt := (R.blk t' y hy).owns_lt hb
    have hno : owns β t x ≠ some b := fun e => hne (R.apart t' y t _ b hy hs hb e)
    refine ⟨keep b hno hlt, (R.own t' y b hy hb).2, ?_⟩
    rw [hown]
    rcases hbi with e | ⟨b', e, e' | e'⟩
    · rw [e]; simp
    · rw [e]; intro h; injection h with h; subst h; exact hno e'
    · rw [e]; intro h; injection h with h; omega
  · intro b e
    rw [hown] at e
    rcases hbi with e1 | ⟨b', e1, e' | e'⟩
    · rw [e1] at e; cases e
    · rw [e1] at e; injection e with e; subst e; exact R.own t _ _ hs e'
    · rw [e1] at e; injection e with e; subst e; subst e'; exact ⟨fun h => Nat.lt_irrefl _ (hbw _ h), hI0⟩
  · intro g' hlt
    rw [Bmap.put_gen (by omega)]
    exact R.gen t _ g' hs (by omega)
/-- a row that has grown into its next generation -/
theorem Rel.grow (R : Rel base w0 I0 I β σ w) {t g k : Nat} {xs xs' : List AVal} (hs : σ[t]? = some (.row g k xs)) (bi' : BI) (hB : KB base w w')
    (himm : ∀ b o u, I b o = some u → w'.cell? ⟨b, o, none⟩ = some u)
    (keep : ∀ b, owns β t (.row g k xs) ≠ some b → b < w.heap.size → w'.heap[b]? = w.heap[b]?)
    (hbi : bi'.b = none ∨ ∃ b, bi'.b = some b ∧ (owns β t (.row g k xs) = some b ∨ b = w.heap.size))
    (hbw : KLt base w)
    (hblk : BR I (β.put t (g + 1) bi') w' t (.row (g + 1) k xs')) :
    Rel base w0 I0 I (β.put t (g + 1) bi') (σ.set t (.row (g + 1) k xs')) w' ∧ β.le (β.put t (g + 1) bi') := by
  have hsl : t < σ.length := (List.getElem?_eq_some_iff.1 hs).1
  have hnone : β t (g + 1) = none := R.gen t _ (g + 1) hs (by simp [genB])
  have hle : β.le (β.put t (g + 1) bi') := Bmap.put_le hnone
  have hown : owns (β.put t (g + 1) bi') t (.row (g + 1) k xs') = bi'.b := by simp [owns, Bmap.put_same]
  have hI0 : ∀ o, I w.heap.size o = none := by
    intro o
    cases h : I w.heap.size o with
    | none => rfl
    | some u => have := cell_lt (R.imm _ _ _ h); omega
  refine ⟨R.upd (Imm.le.refl I) hle hB (fun _ _ _ => rfl) himm t _ rfl hsl (fun _ _ h => Bmap.put_ne h) ?_ hblk ?_ ?_ (by simp), hle⟩
  · intro t' x b hne hx hb
    have hlt := (R.blk t' x hx).owns_lt hb
    have hno : owns β t (.row g k xs) ≠ some b := fun e => hne (R.apart t' x t _ b hx hs hb e)
    refine ⟨keep b hno hlt, (R.own t' x b hx hb).2, ?_⟩
    rw [hown]
    rcases hbi with e | ⟨b', e, e' | e'⟩
    · rw [e]; simp
    · rw [e]; intro h; injection h with h; subst h; exact hno e'
    · rw [e]; intro h; injection h with h; omega
  · intro b e
    rw [hown] at e
    rcases hbi with e1 | ⟨b', e1, e' | e'⟩
    · rw [e1] at e; cases e
    · rw [e1] at e; injection e with e; subst e; exact R.own t _ _ hs e'
    · rw [e1] at e; injection e with e; subst e; subst e'; exact ⟨fun h => Nat.lt_irrefl _ (hbw _ h), hI0⟩
  · intro g' hlt
    simp only [genB] at hlt
    rw [Bmap.put_gen (by omega)]
    exact R.gen t _ g' hs (by simp only [genB]; omega)

theorem flat_append (xs ys : List AVal) : (xs ++ ys).flatMap AVal.cells = xs.flatMap AVal.cells ++ ys.flatMap AVal.cells := by simp
theorem size_zeroCells' (z : Array Value) (n : Nat) : (Builtin.zeroCells z n).size = n * z.size := by simp [Builtin.zeroCells]

/-- a row whose cells may name blocks, read -/
theorem rrow_src (R : Rel base w0 I0 I β σ w) {u h k q m : Nat} {zs : List AVal} {v : Value} (hs : σ[u]? = some (.rrow h k zs)) (hn : q + m ≤ zs.length) (hm : 0 < m) (hv : VR I β (.sl u h q m) v) :
    ∃ us, Src0 P I β w k v ((zs.drop q).take m) us ∧ (∀ y ∈ (zs.drop q).take m, ∀ c ∈ y.cells, okCell c = true) := by
  obtain ⟨bi, e1, e2, e3, e4, e5, e6, b, us, ty, eb, e8, e9, e10⟩ := R.blk _ _ hs
  subst e2
  simp only [VR] at hv
  obtain ⟨bi', f1, f2, f3, f4⟩ := hv
  rw [e1] at f1
  injection f1 with f1
  subst f1
  have hlens : ∀ x ∈ zs, x.cells.length = bi.k := fun x hx => (e6 x hx).1
  have hmem : ∀ y ∈ (zs.drop q).take m, y ∈ zs := fun y hy => List.mem_of_mem_drop (List.mem_of_mem_take hy)
  have hl : ((zs.drop q).take m).length = m := by simp; omega
  have hvr : VRs I β (((zs.drop q).take m).flatMap AVal.cells) (((us.toList.take (zs.length * bi.k)).drop (q * bi.k)).take (m * bi.k)) := by
    rw [← flat_take (fun x hx => hlens x (List.mem_of_mem_drop hx)), ← flat_drop hlens]
    exact VRs_take (VRs_drop e10 _) _
  have hlen2 : (((us.toList.take (zs.length * bi.k)).drop (q * bi.k)).take (m * bi.k)).length = m * bi.k := by
    rw [← VRs_length hvr, flat_len (fun y hy => hlens y (hmem y hy)), hl]
  have hval : v = .slice (some ⟨b, q * bi.k, none⟩) m (bi.cap - q) := by
    rcases f4 with ⟨b', hb', rfl⟩ | ⟨hbn, _⟩ | ⟨_, hbn, _⟩ 
    · rw [eb] at hb'; injection hb' with hb'; subst hb'; rfl
    · rw [eb] at hbn; cases hbn
    · omega
  subst hval
  refine ⟨_, ⟨hvr, by rw [hlen2, hl], fun y hy => hlens y (hmem y hy), by rw [hl]; rfl, fun w' hw => ?_⟩, fun y hy => (e6 y (hmem y hy)).2⟩
  simp only [Builtin.firstCells]
  have key := run_loadCells_list (P := P) w' ⟨b, q * bi.k, none⟩ (((us.toList.take (zs.length * bi.k)).drop (q * bi.k)).take (m * bi.k)) ?_
  · rw [hlen2] at key; rw [hl]; exact key
  intro j u hu
  rw [Addr.add_mid, cell_heap hw, cell_of_heap e8]
  rw [List.getElem?_take] at hu
  split at hu
  · rw [List.getElem?_drop, List.getElem?_take] at hu
    split at hu
    · simpa using hu
    · cases hu
  · cases hu
theorem run_appR {t u e ty : TypeId} {i : TypeInfo} {z : Value} (T : AppT P t u e i z) (R : Rel base w0 I0 I β σ w) (hb : KLt base w0) {x y r : AVal} {vx vy : Value} (hx : VR I β x vx) (hy : VR I β y vy) {site : Nat} (hsite : σ[site]? = some .free) {c : Cls}
    (h : appR σ site i.size i.bytes x y = some (r, σ', c)) : ∃ v w', (Builtin.append_ #[t, u] ty #[vx, vy]).run P w = .ok v w' ∧ Post base w0 I0 I β r σ' v w' := by
  have hbw := R.base_le hb
  have hz := T.hzs
  unfold appR at h
  split at h
  case h_2 => cases h
  rename_i u' h' q m
  split at h
  case h_2 => cases h
  rename_i hh k1 zs hu
  split at h
  case isFalse => cases h
  rename_i hc
  obtain ⟨rfl, rfl, hqm, hm0⟩ := hc
  obtain ⟨us, S, hok⟩ := rrow_src (P := P) R hu hqm hm0 hy
  have hyl : ((zs.drop q).take m).length = m := by simp; omega
  have hone : ∀ v ∈ us, v.oneCell' = true := VRs_one (fun z hz => by
    obtain ⟨y, hy, hz⟩ := List.mem_flatMap.1 hz
    exact hok y hy z hz) S.vr
  have hlu := S.len
  rw [hyl] at hlu
  generalize hys : (zs.drop q).take m = ys at *
  -- a new block with olds and news
  have fresh : ∀ {A : Option Addr} {n cap : Nat} {olds : List Value} {xs : List AVal}, (∀ w' : World, w'.heap = w.heap → (Builtin.firstCells i.size n (.slice A n cap)).run P w' = .ok olds.toArray w') → cap < n + m → (n + m) * i.bytes ≤ 140737488355328 →
      VRs I β (xs.flatMap AVal.cells) olds → xs.length = n → (∀ x ∈ xs, x.cells.length = i.size ∧ ∀ c ∈ x.cells, okCell c = true) →
      ∃ newCap us', n + m ≤ newCap ∧ newCap ≤ 9223372036854775807 ∧ us'.size = newCap * i.size ∧ VRs I β ((xs ++ ys).flatMap AVal.cells) (us'.toList.take ((xs ++ ys).length * i.size)) ∧ (∀ x ∈ xs ++ ys, x.cells.length = i.size ∧ ∀ c ∈ x.cells, okCell c = true) ∧
        (Builtin.append_ #[t, u] ty #[.slice A n cap, vy]).run P w = .ok (.slice (some ⟨w.heap.size, 0, none⟩) (n + m) newCap) { w with heap := w.heap.push (.cells us' e), drawn := w.drawn + 1 } := by
    intro A n cap olds xs hold hg hbytes hvo hn hlx
    obtain ⟨newCap, h1, h2, h3⟩ := run_app_grow (ty := ty) T S hold (by rw [hyl]; exact hg) (by rw [hyl]; exact hbytes)
    rw [hyl] at h1 h3
    have hol : olds.length = n * i.size := by rw [← VRs_length hvo, flat_len (fun x hx => (hlx x hx).1), hn]
    refine ⟨newCap, _, h1, h2, ?_, ?_, ?_, h3⟩
    · simp only [List.size_toArray, List.length_append, Array.length_toList, size_zeroCells', hz, hol, hlu, ← Nat.add_mul]
      congr 1; omega
    · rw [flat_append, List.length_append, hn, hyl]
      have hlen : (olds ++ us).length = (n + m) * i.size := by rw [List.length_append, hol, hlu, Nat.add_mul]
      simp only [← hlen, List.take_left]
      exact VRs_append hvo S.vr
    · intro q hq
      rcases List.mem_append.1 hq with hq | hq
      · exact hlx q hq
      · exact ⟨S.lens q hq, hok q hq⟩
  split at h
  · -- an empty slice without room
    split at h
    case isFalse => cases h
    rename_i hbytes
    simp only [Option.some.injEq, Prod.mk.injEq] at h
    obtain ⟨rfl, rfl, rfl⟩ := h
    simp only [VR] at hx
    obtain ⟨A, cap, rfl, h2, h3, h4, _, _⟩ := hx
    have hc : cap = 0 := by simpa using h4
    subst hc
    obtain ⟨newCap, us', h5, h6, h7, h8, h10, h11⟩ := fresh (A := A) (n := 0) (cap := 0) (olds := []) (xs := []) (fun w' _ => by cases A <;> simp [Builtin.firstCells, loadCells, loadCellsFrom]) (by omega) (by simpa using hbytes) (by simp [VRs]) rfl (by simp)
    simp only [List.nil_append] at h8 h10
    rw [hyl] at h8
    obtain ⟨R', hle⟩ := (R.same (w' := { w with drawn := w.drawn + 1 }) rfl rfl rfl rfl).newObj hb hsite (.cells us' e) (.rrow 0 i.size ys) i.size newCap (by simp [owns, Bmap.put_same]) rfl (by simp)
      ⟨_, Bmap.put_same β site 0 _, rfl, T.hs, h6, by simp only [hyl]; omega, h10, w.heap.size, us', e, rfl, by simp, h7, by rw [hyl]; exact VRs.mono (Imm.le.refl I) (Bmap.put_le (R.free site 0 hsite)) _ _ h8⟩
    refine ⟨_, _, h11, Post.mk (Imm.le.refl I) hle R' ?_⟩
    rw [VR_sl0]
    exact ⟨_, Bmap.put_same β site 0 _, by simpa using h5, h6, Or.inl ⟨_, rfl, by simp⟩⟩
  · rename_i t' g p n
    split at h
    case h_2 => cases h
    rename_i g' k' xs hs
    split at h
    case isFalse => cases h
    rename_i hc
    obtain ⟨rfl, rfl, rfl, hbytes, rfl⟩ := hc
    simp only [Option.some.injEq, Prod.mk.injEq] at h
    obtain ⟨rfl, rfl, rfl⟩ := h
    obtain ⟨bi, e1, e2, e3, e4, e5, e7, b, us0, ty0, hbb, e8, e9, e10⟩ := R.blk _ _ hs
    rw [VR_sl0] at hx
    obtain ⟨bi', f1, f2, f3, f4⟩ := hx
    rw [e1] at f1
    injection f1 with f1
    subst f1
    have hown : owns β t' (.rrow g' i.size xs) = bi.b := by simp [owns, e1]
    have hxl : ∀ x ∈ xs, x.cells.length = i.size := fun x hx => (e7 x hx).1
    rcases f4 with ⟨b', eb, rfl⟩ | ⟨hbn, _⟩
    case inr => rw [hbb] at hbn; cases hbn
    rw [hbb] at eb
    injection eb with eb
    subst eb
    have hlx : (us0.toList.take (xs.length * i.size)).length = xs.length * i.size := by rw [← VRs_length e10, flat_len hxl]
    by_cases hfit : xs.length + m ≤ bi.cap
    · have hcells : xs.length * i.size + us.length ≤ us0.size := by rw [hlu, e9, ← Nat.add_mul]; exact Nat.mul_le_mul_right _ hfit
      have hst := run_storeCells_at (P := P) b (xs.length * i.size) ty0 us 0 us0 w e8 (by omega) hone
      simp only [Nat.add_zero] at hst
      have hle0 := Bmap.put_le (bi := bi) (R.gen t' _ (g' + 1) hs (by simp [genB]))
      obtain ⟨R', hle⟩ := R.growX (w' := w.setRow b (us0.toList.take (xs.length * i.size) ++ us ++ us0.toList.drop (xs.length * i.size + us.length)).toArray) (x' := .rrow (g' + 1) i.size (xs ++ ys)) hs rfl rfl bi
        ⟨rfl, rfl, rfl, by simp [World.setRow], fun k hk => setRow_other w b k _ (by rintro rfl; exact (R.own t' _ k hs (by rw [hown, hbb])).1 hk)⟩
        (fun b' o u hu => by
          have : b' ≠ b := by rintro rfl; rw [(R.own t' _ b' hs (by rw [hown, hbb])).2 o] at hu; cases hu
          rw [← R.imm b' o u hu]
          simp only [World.cell?, setRow_other w b b' _ this])
        (fun b' hne _ => setRow_other w b b' _ (by rintro rfl; exact hne (by rw [hown, hbb])))
        (Or.inr ⟨b, hbb, Or.inl (by rw [hown, hbb])⟩) hbw (by simp [owns, genB, Bmap.put_same]) (by simp)
        ⟨bi, Bmap.put_same β t' _ bi, e2, e3, e4, by simp only [List.length_append, hyl]; exact hfit, fun q hq => by
          rcases List.mem_append.1 hq with hq | hq
          · exact e7 q hq
          · exact ⟨S.lens q hq, hok q hq⟩, b, _, ty0, hbb, setRow_heap w b us0 _ ty0 (0, 0) e8, by simp only [List.size_toArray, List.length_append, List.length_take, List.length_drop, Array.length_toList]; omega, by
            have hl2 : (us0.toList.take (xs.length * i.size) ++ us).length = (xs ++ ys).length * i.size := by rw [List.length_append, hlx, hlu, List.length_append, Nat.add_mul, hyl]
            have := VRs_append (VRs.mono (Imm.le.refl I) hle0 _ _ e10) (VRs.mono (Imm.le.refl I) hle0 _ _ S.vr)
            rw [flat_append, ← hl2]
            simp only [List.take_left]
            exact this⟩
      refine ⟨.slice (some ⟨b, 0, none⟩) (xs.length + m) bi.cap, _, ?_, Post.mk (Imm.le.refl I) hle R' ?_⟩
      · rw [run_app_fit T S (by rw [hyl]; exact hfit), hyl]
        simp only [Addr.add_mid, Nat.zero_add, hst, Result.andThen_ok]
      · rw [VR_sl0]
        exact ⟨bi, Bmap.put_same β t' _ bi, hfit, e4, Or.inl ⟨b, hbb, rfl⟩⟩
    · obtain ⟨newCap, us', g5, g6, g7, g8, g10, g11⟩ := fresh (A := some ⟨b, 0, none⟩) (n := xs.length) (cap := bi.cap) (olds := us0.toList.take (xs.length * i.size)) (xs := xs)
        (fun w' hw => by
          simp only [Builtin.firstCells]
          have key := run_loadCells_list (P := P) w' ⟨b, 0, none⟩ (us0.toList.take (xs.length * i.size)) ?_
          · rw [hlx] at key; exact key
          intro j u hu
          rw [Addr.add_mid, cell_heap hw, cell_of_heap e8]
          rw [List.getElem?_take] at hu
          split at hu
          · simpa using hu
          · cases hu) (by omega) hbytes e10 rfl e7
      have hle0 := Bmap.put_le (bi := (⟨some w.heap.size, i.size, newCap⟩ : BI)) (R.gen t' _ (g' + 1) hs (by simp [genB]))
      obtain ⟨R', hle⟩ := (R.same (w' := { w with drawn := w.drawn + 1 }) rfl rfl rfl rfl).growX (w' := { w with heap := w.heap.push (.cells us' e), drawn := w.drawn + 1 }) (x' := .rrow (g' + 1) i.size (xs ++ ys)) hs rfl rfl ⟨some w.heap.size, i.size, newCap⟩
        (below_push base { w with drawn := w.drawn + 1 } _ hbw) (fun b' o u hu => cell_push { w with drawn := w.drawn + 1 } _ (R.imm b' o u hu)) (fun b' _ hlt => heap_push_lt w _ hlt) (Or.inr ⟨_, rfl, Or.inr rfl⟩) hbw (by simp [owns, genB, Bmap.put_same]) (by simp)
        ⟨_, Bmap.put_same β t' _ _, rfl, e3, g6, by simp only [List.length_append, hyl]; exact g5, g10, _, us', e, rfl, heap_push_at w _, g7, VRs.mono (Imm.le.refl I) hle0 _ _ g8⟩
      refine ⟨_, _, g11, Post.mk (Imm.le.refl I) hle R' ?_⟩
      rw [VR_sl0]
      exact ⟨_, Bmap.put_same β t' _ _, g5, g6, Or.inl ⟨_, rfl, rfl⟩⟩
  · cases h

theorem run_appA {t u e ty : TypeId} {i : TypeInfo} {z : Value} (T : AppT P t u e i z) (R : Rel base w0 I0 I β σ w) (hb : KLt base w0) {x y r : AVal} {vx vy : Value} (hx : VR I β x vx) (hy : VR I β y vy) {site : Nat} (hsite : σ[site]? = some .free) {c : Cls}
    (h : appA σ site i.size i.bytes x y = some (r, σ', c)) : ∃ v w', (Builtin.append_ #[t, u] ty #[vx, vy]).run P w = .ok v w' ∧ Post base w0 I0 I β r σ' v w' := by
  unfold appA at h
  split at h
  case h_1 => exact run_appR T R hb hx hy hsite h
  rename_i ys ts he
  split at h
  case isFalse => cases h
  rename_i hk
  obtain ⟨us, S⟩ := src_of (P := P) R he hy hk
  have hbw := R.base_le hb
  have hz := T.hzs
  have hone : ∀ v ∈ us, v.oneCell' = true := VRs_one (fun z hz => ok_of_tree1 (treeC_iff.1 (treeC_flat S.tree) z hz)) S.vr
  -- a new block with olds and news
  have fresh : ∀ {A : Option Addr} {n cap : Nat} {olds : List Value} {xs : List AVal}, (∀ w' : World, w'.heap = w.heap → (Builtin.firstCells i.size n (.slice A n cap)).run P w' = .ok olds.toArray w') → cap < n + ys.length → (n + ys.length) * i.bytes ≤ 140737488355328 →
      VRs I β (xs.flatMap AVal.cells) olds → xs.length = n → treeL xs = true → (∀ x ∈ xs, x.cells.length = i.size) →
      ∃ newCap us', n + ys.length ≤ newCap ∧ newCap ≤ 9223372036854775807 ∧ us'.size = newCap * i.size ∧ VRs I β ((xs ++ ys).flatMap AVal.cells) (us'.toList.take ((xs ++ ys).length * i.size)) ∧ treeL (xs ++ ys) = true ∧ (∀ x ∈ xs ++ ys, x.cells.length = i.size) ∧
        (Builtin.append_ #[t, u] ty #[.slice A n cap, vy]).run P w = .ok (.slice (some ⟨w.heap.size, 0, none⟩) (n + ys.length) newCap) { w with heap := w.heap.push (.cells us' e), drawn := w.drawn + 1 } := by
    intro A n cap olds xs hold hg hbytes hvo hn htx hlx
    obtain ⟨newCap, h1, h2, h3⟩ := run_app_grow (ty := ty) T S.to0 hold hg hbytes
    have hol : olds.length = n * i.size := by rw [← VRs_length hvo, flat_len hlx, hn]
    refine ⟨newCap, _, h1, h2, ?_, ?_, treeL_append htx S.tree, ?_, h3⟩
    · simp only [List.size_toArray, List.length_append, Array.length_toList, size_zeroCells', hz, hol, S.len, ← Nat.add_mul]
      congr 1; omega
    · rw [flat_append, List.length_append, hn]
      have hlen : (olds ++ us).length = (n + ys.length) * i.size := by rw [List.length_append, hol, S.len, Nat.add_mul]
      simp only [← hlen, List.take_left]
      exact VRs_append hvo S.vr
    · intro q hq
      rcases List.mem_append.1 hq with hq | hq
      · exact hlx q hq
      · exact S.lens q hq
  split at h
  · -- an empty slice without room
    split at h
    case isFalse => cases h
    rename_i hbytes
    simp only [Option.some.injEq, Prod.mk.injEq] at h
    obtain ⟨rfl, rfl, rfl⟩ := h
    simp only [VR] at hx
    obtain ⟨A, cap, rfl, h2, h3, h4, _, _⟩ := hx
    have hc : cap = 0 := by simpa using h4
    subst hc
    by_cases hne : ys = []
    · subst hne
      have hus : us = [] := List.eq_nil_of_length_eq_zero (by simpa using S.len)
      subst hus
      obtain ⟨R', hle⟩ := R.newNone hsite i.size T.hs
      refine ⟨.slice A 0 0, w, ?_, Post.mk (Imm.le.refl I) hle R' ?_⟩
      · rw [run_app_fit T S.to0 (by simp)]
        cases A <;> simp [storeCells]
      · rw [VR_sl0]
        exact ⟨_, Bmap.put_same β site 0 _, by simp, by simp, Or.inr ⟨rfl, rfl, A, rfl⟩⟩
    · have hpos : 0 < ys.length := List.length_pos_iff.2 hne
      obtain ⟨newCap, us', h5, h6, h7, h8, h9, h10, h11⟩ := fresh (A := A) (n := 0) (cap := 0) (olds := []) (xs := []) (fun w' _ => by cases A <;> simp [Builtin.firstCells, loadCells, loadCellsFrom]) (by omega) (by simpa using hbytes) (by simp [VRs]) rfl (by simp [treeL]) (by simp)
      obtain ⟨R', hle⟩ := (R.same (w' := { w with drawn := w.drawn + 1 }) rfl rfl rfl rfl).newOwn hb hsite us' e (.row 0 i.size ys) i.size newCap (Or.inr ⟨ys, rfl, T.hs, h6, by omega, S.tree, S.lens, h7, by simpa using h8⟩)
      refine ⟨_, _, h11, Post.mk (Imm.le.refl I) hle R' ?_⟩
      rw [VR_sl0]
      exact ⟨_, Bmap.put_same β site 0 _, by simpa using h5, h6, Or.inl ⟨_, rfl, by simp⟩⟩
  · -- a full list that is copied
    rename_i x0 xs0
    split at h
    case isFalse => cases h
    rename_i hc
    obtain ⟨hk0, hbytes⟩ := hc
    have hrd := lst_reads R hx
    have hx' := hx
    simp only [VR] at hx
    obtain ⟨A, cap, rfl, h2, h3, h4, h5, h6⟩ := hx
    have hc : cap = (x0 :: xs0).length := by simpa using h4
    subst hc
    split at h
    · simp only [Option.some.injEq, Prod.mk.injEq] at h
      obtain ⟨rfl, rfl, rfl⟩ := h
      have hus : us = [] := List.eq_nil_of_length_eq_zero (by simpa using S.len)
      subst hus
      refine ⟨_, w, ?_, Post.here R hx'⟩
      rw [run_app_fit T S.to0 (by simp)]
      cases A <;> simp [storeCells]
    · rename_i y0 ys0
      simp only [Option.some.injEq, Prod.mk.injEq] at h
      obtain ⟨rfl, rfl, rfl⟩ := h
      obtain ⟨olds, So⟩ := src_of_reads (P := P) hrd hk0
      obtain ⟨newCap, us', g5, g6, g7, g8, g9, g10, g11⟩ := fresh (A := A) (n := (x0 :: xs0).length) (cap := (x0 :: xs0).length) (olds := olds) (xs := x0 :: xs0) So.run (by simp) hbytes So.vr rfl So.tree So.lens
      obtain ⟨R', hle⟩ := (R.same (w' := { w with drawn := w.drawn + 1 }) rfl rfl rfl rfl).newOwn hb hsite us' e (.row 0 i.size ((x0 :: xs0) ++ (y0 :: ys0))) i.size newCap (Or.inr ⟨_, rfl, T.hs, g6, by rw [List.length_append]; exact g5, g9, g10, g7, g8⟩)
      refine ⟨_, _, g11, Post.mk (Imm.le.refl I) hle R' ?_⟩
      rw [VR_sl0]
      exact ⟨_, Bmap.put_same β site 0 _, by simpa using g5, g6, Or.inl ⟨_, rfl, rfl⟩⟩
  · -- an own row
    rename_i t' g p n
    split at h
    case h_2 => cases h
    rename_i g' k' xs hs
    split at h
    case isFalse => cases h
    rename_i hc
    obtain ⟨rfl, rfl, rfl, hbytes⟩ := hc
    obtain ⟨bi, e1, e2, e3, e4, e5, e6, e7, e8⟩ := R.blk _ _ hs
    rw [VR_sl0] at hx
    obtain ⟨bi', f1, f2, f3, f4⟩ := hx
    rw [e1] at f1
    injection f1 with f1
    subst f1
    have hown : owns β t' (.row g' i.size xs) = bi.b := by simp [owns, e1]
    split at h
    · rename_i hn
      subst hn
      simp only [Option.some.injEq, Prod.mk.injEq] at h
      obtain ⟨rfl, rfl, rfl⟩ := h
      rcases f4 with ⟨b, hbb, rfl⟩ | ⟨hbn, hcz, A, rfl⟩
      · rcases e8 with ⟨e8, _⟩ | ⟨b', us0, ty0, eb, e8, e9, e10⟩
        · rw [hbb] at e8; cases e8
        rw [hbb] at eb
        injection eb with eb
        subst eb
        have hlx : (us0.toList.take (xs.length * i.size)).length = xs.length * i.size := by rw [← VRs_length e10, flat_len e7]
        by_cases hfit : xs.length + ys.length ≤ bi.cap
        · have hcells : xs.length * i.size + us.length ≤ us0.size := by rw [S.len, e9, ← Nat.add_mul]; exact Nat.mul_le_mul_right _ hfit
          have hst := run_storeCells_at (P := P) b (xs.length * i.size) ty0 us 0 us0 w e8 (by omega) hone
          simp only [Nat.add_zero] at hst
          obtain ⟨R', hle⟩ := R.grow (w' := w.setRow b (us0.toList.take (xs.length * i.size) ++ us ++ us0.toList.drop (xs.length * i.size + us.length)).toArray) (xs' := xs ++ ys) hs bi
            ⟨rfl, rfl, rfl, by simp [World.setRow], fun k hk => setRow_other w b k _ (by rintro rfl; exact (R.own t' _ k hs (by rw [hown, hbb])).1 hk)⟩
            (fun b' o u hu => by
              have : b' ≠ b := by rintro rfl; rw [(R.own t' _ b' hs (by rw [hown, hbb])).2 o] at hu; cases hu
              rw [← R.imm b' o u hu]
              simp only [World.cell?, setRow_other w b b' _ this])
            (fun b' hne _ => setRow_other w b b' _ (by rintro rfl; exact hne (by rw [hown, hbb])))
            (Or.inr ⟨b, hbb, Or.inl (by rw [hown, hbb])⟩) hbw
            ⟨bi, Bmap.put_same β t' _ bi, e2, e3, e4, by simpa using hfit, treeL_append e6 S.tree, fun q hq => by
              rcases List.mem_append.1 hq with hq | hq
              · exact e7 q hq
              · exact S.lens q hq, Or.inr ⟨b, _, ty0, hbb, setRow_heap w b us0 _ ty0 (0, 0) e8, by simp; omega, by
                have hl2 : (us0.toList.take (xs.length * i.size) ++ us).length = (xs ++ ys).length * i.size := by rw [List.length_append, hlx, S.len, List.length_append, Nat.add_mul]
                have := VRs_append (VRs.mono (Imm.le.refl I) (Bmap.put_le (R.gen t' _ (g' + 1) hs (by simp [genB]))) _ _ e10) (VRs.mono (Imm.le.refl I) (Bmap.put_le (bi := bi) (R.gen t' _ (g' + 1) hs (by simp [genB]))) _ _ S.vr)
                rw [flat_append, ← hl2]
                simp only [List.take_left]
                exact this⟩⟩
          refine ⟨.slice (some ⟨b, 0, none⟩) (xs.length + ys.length) bi.cap, _, ?_, Post.mk (Imm.le.refl I) hle R' ?_⟩
          · rw [run_app_fit T S.to0 hfit]
            simp only [Addr.add_mid, Nat.zero_add, hst, Result.andThen_ok]
          · rw [VR_sl0]
            exact ⟨bi, Bmap.put_same β t' _ bi, hfit, e4, Or.inl ⟨b, hbb, rfl⟩⟩
        · obtain ⟨newCap, us', g5, g6, g7, g8, g9, g10, g11⟩ := fresh (A := some ⟨b, 0, none⟩) (n := xs.length) (cap := bi.cap) (olds := us0.toList.take (xs.length * i.size)) (xs := xs)
            (fun w' hw => by
              simp only [Builtin.firstCells]
              have key := run_loadCells_list (P := P) w' ⟨b, 0, none⟩ (us0.toList.take (xs.length * i.size)) ?_
              · rw [hlx] at key; exact key
              intro j u hu
              rw [Addr.add_mid, cell_heap hw, cell_of_heap e8]
              rw [List.getElem?_take] at hu
              split at hu
              · simpa using hu
              · cases hu) (by omega) hbytes e10 rfl e6 e7
          obtain ⟨R', hle⟩ := (R.same (w' := { w with drawn := w.drawn + 1 }) rfl rfl rfl rfl).grow (w' := { w with heap := w.heap.push (.cells us' e), drawn := w.drawn + 1 }) (xs' := xs ++ ys) hs ⟨some w.heap.size, i.size, newCap⟩
            (below_push base { w with drawn := w.drawn + 1 } _ hbw) (fun b' o u hu => cell_push { w with drawn := w.drawn + 1 } _ (R.imm b' o u hu)) (fun b' _ hlt => heap_push_lt w _ hlt) (Or.inr ⟨_, rfl, Or.inr rfl⟩) hbw
            ⟨_, Bmap.put_same β t' _ _, rfl, e3, g6, by simpa using g5, g9, g10, Or.inr ⟨_, us', e, rfl, heap_push_at w _, g7, VRs.mono (Imm.le.refl I) (Bmap.put_le (R.gen t' _ (g' + 1) hs (by simp [genB]))) _ _ g8⟩⟩
          refine ⟨_, _, g11, Post.mk (Imm.le.refl I) hle R' ?_⟩
          rw [VR_sl0]
          exact ⟨_, Bmap.put_same β t' _ _, g5, g6, Or.inl ⟨_, rfl, rfl⟩⟩
      · have hxs : xs = [] := List.eq_nil_of_length_eq_zero (by omega)
        subst hxs
        by_cases hne : ys = []
        · subst hne
          have hus : us = [] := List.eq_nil_of_length_eq_zero (by simpa using S.len)
          subst hus
          obtain ⟨R', hle⟩ := R.grow (w' := w) (xs' := []) hs ⟨none, i.size, 0⟩ (KB.refl base w) R.imm (fun _ _ _ => rfl) (Or.inl rfl) hbw
            ⟨_, Bmap.put_same β t' _ _, rfl, e3, by simp, by simp, by simp [treeL], by simp, Or.inl ⟨rfl, rfl⟩⟩
          refine ⟨.slice A 0 0, w, ?_, Post.mk (Imm.le.refl I) hle (by simpa using R') ?_⟩
          · rw [run_app_fit T S.to0 (by simp)]
            cases A <;> simp [storeCells]
          · rw [VR_sl0]
            exact ⟨_, Bmap.put_same β t' _ _, by simp, by simp, Or.inr ⟨rfl, rfl, A, rfl⟩⟩
        · have hpos : 0 < ys.length := List.length_pos_iff.2 hne
          obtain ⟨newCap, us', g5, g6, g7, g8, g9, g10, g11⟩ := fresh (A := A) (n := 0) (cap := 0) (olds := []) (xs := []) (fun w' _ => by cases A <;> simp [Builtin.firstCells, loadCells, loadCellsFrom]) (by omega) (by simpa using hbytes) (by simp [VRs]) rfl (by simp [treeL]) (by simp)
          obtain ⟨R', hle⟩ := (R.same (w' := { w with drawn := w.drawn + 1 }) rfl rfl rfl rfl).grow (w' := { w with heap := w.heap.push (.cells us' e), drawn := w.drawn + 1 }) (xs' := [] ++ ys) hs ⟨some w.heap.size, i.size, newCap⟩
            (below_push base { w with drawn := w.drawn + 1 } _ hbw) (fun b' o u hu => cell_push { w with drawn := w.drawn + 1 } _ (R.imm b' o u hu)) (fun b' _ hlt => heap_push_lt w _ hlt) (Or.inr ⟨_, rfl, Or.inr rfl⟩) hbw
            ⟨_, Bmap.put_same β t' _ _, rfl, e3, g6, by simpa using g5, g9, g10, Or.inr ⟨_, us', e, rfl, heap_push_at w _, g7, VRs.mono (Imm.le.refl I) (Bmap.put_le (R.gen t' _ (g' + 1) hs (by simp [genB]))) _ _ g8⟩⟩
          refine ⟨_, _, g11, Post.mk (Imm.le.refl I) hle R' ?_⟩
          rw [VR_sl0]
          exact ⟨_, Bmap.put_same β t' _ _, by simpa using g5, g6, Or.inl ⟨_, rfl, by simp⟩⟩
    · rename_i hnn
      split at h
      case isFalse => cases h
      rename_i hle'
      simp only [Option.some.injEq, Prod.mk.injEq] at h
      obtain ⟨rfl, rfl, rfl⟩ := h
      have hnlt : n < xs.length := by omega
      rcases f4 with ⟨b, hbb, rfl⟩ | ⟨hbn, hcz, A, rfl⟩
      · rcases e8 with ⟨e8, _⟩ | ⟨b', us0, ty0, eb, e8, e9, e10⟩
        · rw [hbb] at e8; cases e8
        rw [hbb] at eb
        injection eb with eb
        subst eb
        have hfit : n + ys.length ≤ bi.cap := by omega
        have hmul : (n + ys.length) * i.size ≤ xs.length * i.size := Nat.mul_le_mul_right _ hle'
        have hmul2 : xs.length * i.size ≤ us0.size := by rw [e9]; exact Nat.mul_le_mul_right _ e5
        have hcells : n * i.size + us.length ≤ us0.size := by rw [S.len, ← Nat.add_mul]; omega
        have hst := run_storeCells_at (P := P) b (n * i.size) ty0 us 0 us0 w e8 (by omega) hone
        simp only [Nat.add_zero] at hst
        refine ⟨.slice (some ⟨b, 0, none⟩) (n + ys.length) bi.cap, w.setRow b (us0.toList.take (n * i.size) ++ us ++ us0.toList.drop (n * i.size + us.length)).toArray, ?_, Post.here (R.write hs (b := b) (by rw [hown, hbb]) (by simp [owns, e1, hbb]) _ ?_ rfl) ?_⟩
        · rw [run_app_fit T S.to0 hfit]
          simp only [Addr.add_mid, Nat.zero_add, hst, Result.andThen_ok]
        · have hxl : (xs.take n ++ ys ++ xs.drop (n + ys.length)).length = xs.length := by simp; omega
          refine ⟨bi, e1, e2, e3, e4, by rw [hxl]; exact e5, ?_, ?_, Or.inr ⟨b, _, ty0, hbb, setRow_heap w b us0 _ ty0 (0, 0) e8, by simp; omega, ?_⟩⟩
          · exact treeL_append (treeL_append (treeL_take e6 n) S.tree) (treeL_drop e6 _)
          · intro q hq
            simp only [List.mem_append] at hq
            rcases hq with (hq | hq) | hq
            · exact e7 q (List.mem_of_mem_take hq)
            · exact S.lens q hq
            · exact e7 q (List.mem_of_mem_drop hq)
          · rw [hxl, flat_append, flat_append, ← flat_take e7, ← flat_drop e7]
            have h1 := VRs_take e10 (n * i.size)
            have h2 := VRs_drop e10 ((n + ys.length) * i.size)
            have := VRs_append (VRs_append h1 S.vr) h2
            refine cast ?_ this
            congr 1
            rw [List.take_take, Nat.min_eq_left (by rw [Nat.add_mul] at hmul; omega), List.drop_take]
            have hsl := S.len
            rw [Nat.add_mul] at hmul ⊢
            apply List.ext_getElem?
            intro j
            simp only [List.getElem?_append, List.getElem?_take, List.getElem?_drop, List.length_append, List.length_take, Array.length_toList]
            repeat' split
            all_goals first | rfl | omega | (congr 1; omega) | (exfalso; omega) | skip
            all_goals (first | (symm; rw [List.getElem?_eq_none_iff]; simp; omega) | (rw [List.getElem?_eq_none_iff]; simp; omega))
        · rw [VR_sl0]
          exact ⟨bi, e1, hfit, e4, Or.inl ⟨b, hbb, rfl⟩⟩
      · omega
  · cases h
end
end Go.Proofs.YtaaflagbhneakaaDoor
