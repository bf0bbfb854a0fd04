/- What the readings of arguments say of cells. Over any program. -/
import Derived.Test.YtbndfejfhngeoaaJoin
import Derived.ProofKit
import Derived.Deep.Slices
import Derived.OpenShut
namespace Go.Proofs.Ytbndfejfhngeoaa
open Go.RowKit Go.ChangeShapes Go.WideShapes Go.Deep

theorem spot_of_cell {w : World} {b off : Nat} {s : Option Nat} {u : Value} (h : w.cell? ⟨b, off, s⟩ = some u) : s = none := by
  unfold World.cell? at h
  split at h
  · rcases s with _ | s
    · rfl
    · simp at h
  · cases h
/-- cells at an address, one behind the other, are a row -/
theorem row_of_cells {w : World} {a : Addr} {xs : List Value} (h : ∀ i u, xs[i]? = some u → w.cell? (a.add i) = some u) : Row w (some a) xs := by
  rcases xs with _ | ⟨x, xs⟩
  · exact Or.inl rfl
  · obtain ⟨b, off, s⟩ := a
    have h0 := h 0 x rfl
    have hs : s = none := spot_of_cell (by simpa [Addr.add] using h0)
    subst hs
    exact Or.inr ⟨b, off, rfl, fun i u hu => by have := h i u hu; rwa [Addr.add_lit] at this⟩
theorem u8_of_wf {n : Int} (h : (Lit.int .u8 n).wf = true) : ((UInt8.ofNat n.toNat).toNat : Int) = n := by
  simp [Lit.wf, IntKind.min, IntKind.max, IntKind.signed, IntKind.bits] at h
  simp [UInt8.toNat_ofNat']
  omega

section
variable {H : Type} {enc : TypeId × Value → H} {P : Program} {w : World} {base : Nat} {spare : Nat → Bool} {held : Bool}
theorem trod_nums {t e : TypeId} {k : IntKind} {fuel : Nat} {v : Value} {x : DataW H × List MemPlace} (ht : P.underlying t = some (.slice e)) (he : P.underlying e = some (.int k)) (hc : P.cellsOf e = 1)
    (h : DataW.trod enc P w base spare held fuel t [v] = some x) :
    ∃ (A : Option Addr) (cap : Nat) (zs : List Int), v = .slice A zs.length cap ∧ zs.length ≤ cap ∧ cap ≤ maxLen ∧ Row w A (zs.map (Value.int k)) ∧ ∀ n ∈ zs, (Lit.int k n).wf = true := by
  rcases open_ints ht he hc h with ⟨hcs, _⟩ | ⟨a, len, cap, zs, hcs, _, hl, hm, hz, _, hcell, hwf⟩
  · simp at hcs
    exact ⟨none, 0, [], hcs, Nat.le_refl _, Nat.zero_le _, Or.inl rfl, by simp⟩
  · simp at hcs
    have hlen : len ≤ zs.length := by split at hz <;> omega
    refine ⟨some a, cap, zs.take len, by rw [List.length_take, Nat.min_eq_left hlen]; exact hcs, by rw [List.length_take]; omega, hm, ?_, fun n hn => hwf n (List.mem_of_mem_take hn)⟩
    refine row_of_cells fun i u hu => ?_
    rw [List.getElem?_map, List.getElem?_take] at hu
    split at hu
    · rename_i hi
      rw [hcell i (by omega)]
      rw [List.getElem?_eq_getElem (by omega)] at hu
      simp at hu
      subst hu
      simp [List.getElem?_eq_getElem (show i < zs.length by omega)]
    · simp at hu
theorem trod_bytes {t e : TypeId} {fuel : Nat} {v : Value} {x : DataW H × List MemPlace} (ht : P.underlying t = some (.slice e)) (he : P.underlying e = some (.int .u8)) (hc : P.cellsOf e = 1)
    (h : DataW.trod enc P w base spare held fuel t [v] = some x) : ∃ l, SlB w v l := by
  obtain ⟨A, cap, zs, rfl, hl, hm, hr, hwf⟩ := trod_nums ht he hc h
  refine ⟨zs.map fun n => UInt8.ofNat n.toNat, A, cap, by simp, by simpa using hl, hm, ?_⟩
  have : bVs (zs.map fun n => UInt8.ofNat n.toNat) = zs.map (Value.int .u8) := by
    simp only [bVs, List.map_map]
    refine List.map_congr_left fun n hn => ?_
    simp only [Function.comp, bV]
    rw [u8_of_wf (hwf n hn)]
  rw [this]; exact hr
theorem parts_of {w : World} : ∀ (vs : List Value), (∀ v ∈ vs, ∃ l, SlB w v l) → ∃ ps, Parts w vs ps
  | [], _ => ⟨[], trivial⟩
  | v :: vs, h => by
    obtain ⟨l, hl⟩ := h v (by simp)
    obtain ⟨ps, hp⟩ := parts_of vs fun v hv => h v (by simp [hv])
    exact ⟨l :: ps, hl, hp⟩
/-- a slice of one-cell elements -/
theorem trod_slice1 {t e : TypeId} {fuel : Nat} {v : Value} {x : DataW H × List MemPlace} (ht : P.underlying t = some (.slice e)) (hc : P.cellsOf e = 1) (h : DataW.trod enc P w base spare held fuel t [v] = some x) :
    ∃ (A : Option Addr) (cap : Nat) (vs : List Value), v = .slice A vs.length cap ∧ vs.length ≤ cap ∧ cap ≤ maxLen ∧ Row w A vs ∧ ∀ u ∈ vs, ∃ (n : Nat) (y : DataW H × List MemPlace), DataW.trod enc P w base spare held n e [u] = some y := by
  rcases open_slice1 ht hc h with ⟨hcs, _⟩ | ⟨a, len, cap, m, n, V, D, Pl, hcs, _, hl, hm, hmm, _, hi⟩
  · simp at hcs
    exact ⟨none, 0, [], hcs, Nat.le_refl _, Nat.zero_le _, Or.inl rfl, by simp⟩
  · simp at hcs
    have hlm : len ≤ m := by split at hmm <;> omega
    refine ⟨some a, cap, (List.range len).map V, by simpa using hcs, by simpa using hl, hm, ?_, ?_⟩
    · refine row_of_cells fun i u hu => ?_
      have hlt : i < len := by
        have := (List.getElem?_eq_some_iff.1 hu).1
        simpa using this
      rw [List.getElem?_map, List.getElem?_range hlt] at hu
      simp at hu
      subst hu
      exact (hi i (by omega)).1
    · intro u hu
      simp only [List.mem_map, List.mem_range] at hu
      obtain ⟨i, hlt, rfl⟩ := hu
      exact ⟨n, _, (hi i (by omega)).2⟩
theorem trod_bytess {t t' e : TypeId} {fuel : Nat} {v : Value} {x : DataW H × List MemPlace} (ht : P.underlying t = some (.slice t')) (hc' : P.cellsOf t' = 1) (ht' : P.underlying t' = some (.slice e)) (he : P.underlying e = some (.int .u8)) (hc : P.cellsOf e = 1)
    (h : DataW.trod enc P w base spare held fuel t [v] = some x) :
    ∃ (A : Option Addr) (cap : Nat) (vs : List Value) (ps : List (List UInt8)), v = .slice A vs.length cap ∧ vs.length ≤ cap ∧ cap ≤ maxLen ∧ Row w A vs ∧ Parts w vs ps := by
  obtain ⟨A, cap, vs, hv, hl, hm, hr, hu⟩ := trod_slice1 ht hc' h
  obtain ⟨ps, hp⟩ := parts_of (w := w) vs fun u hu' => by
    obtain ⟨n, y, hy⟩ := hu u hu'
    exact trod_bytes ht' he hc hy
  exact ⟨A, cap, vs, ps, hv, hl, hm, hr, hp⟩
/-- a value of one cell -/
theorem trod_one {t : TypeId} {v : Value} {d : DataW H} {p : List MemPlace} (hv : v.cells = #[v]) (h : DataW.Trod enc P w base spare held t v d p) : ∃ fuel, DataW.trod enc P w base spare held fuel t [v] = some (d, p) := by
  obtain ⟨fuel, hf⟩ := h
  rw [hv] at hf
  exact ⟨fuel, hf⟩
end
end Go.Proofs.Ytbndfejfhngeoaa
