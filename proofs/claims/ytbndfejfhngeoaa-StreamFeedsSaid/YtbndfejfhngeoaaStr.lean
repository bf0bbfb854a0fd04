/- Bytes as a text. Over any program. -/
import Derived.Test.YtbndfejfhngeoaaMem
import Derived.Laws.BytesArg
namespace Go.Proofs.Ytbndfejfhngeoaa
open Go.RowKit

/-- bytes as a string's value -/
def strV (l : List UInt8) : Value := .string ⟨l.toArray⟩

section
variable {P : Program} {w : World}
theorem run_str {src dst e : TypeId} (hs : P.underlying src = some (.slice e)) (he : P.underlying e = some (.int .u8)) (hd : P.underlying dst = some .string) {A : Option Addr} {cap : Nat} {l : List UInt8} (hr : Row w A (bVs l)) :
    (convert src dst (.slice A l.length cap)).run P w = .ok (.string ⟨l.toArray⟩) w := by
  rcases A with _ | a
  · have hl : l = [] := by
      rcases hr with h | ⟨b, off, e, _⟩
      · exact List.eq_nil_of_length_eq_zero (by have := congrArg List.length h; rw [bVs_length] at this; simpa using this)
      · cases e
    subst hl
    exact run_convert_bytes_nil w src e hs he 0 cap dst hd
  · rcases hr with h | ⟨b, off, e', h⟩
    · have hl : l = [] := List.eq_nil_of_length_eq_zero (by have := congrArg List.length h; rw [bVs_length] at this; simpa using this)
      subst hl
      rw [run_convert_bytes_string w src dst e _ _ cap hs he hd, run_bytesToString w _ _ cap [] (by simpa using run_loadCells_list (P := P) w a [] (fun j v hj => by simp at hj))]
      rfl
    · injection e' with e'
      subst e'
      rw [run_convert_bytes_arg w src e hs he b off l.length cap (l.map fun c => (c.toNat : Int)) (by simp) (fun i hi => ?_) dst hd]
      · simp only [strOfNums]
        congr 3
        rw [List.map_map]
        conv => rhs; rw [← List.map_id l]
        apply congrArg
        refine List.map_congr_left fun c _ => ?_
        simp
      · rw [h i (bV l[i]) (by simp [bVs, hi])]
        simp [bV, hi]
end
end Go.Proofs.Ytbndfejfhngeoaa
