/- octet.Join: parts one behind the other, in memory of the call's own. -/
import Derived.Test.YtbndfejfhngeoaaProg
import Derived.Test.YtbndfejfhngeoaaMem
import Derived.KernelRfl
namespace Go.Proofs.Ytbndfejfhngeoaa
open Go.RowKit

theorem stB : SliceT Try.prog 22 5 (.int .u8 0) 1 1 :=
  sliceT_mk Try.underlying22 (by kernel_rfl) rfl (by omega) (by omega)

/-- the slice value v reads as the bytes l -/
def SlB (w : World) (v : Value) (l : List UInt8) : Prop := ∃ A cap, v = .slice A l.length cap ∧ l.length ≤ cap ∧ cap ≤ maxLen ∧ Row w A (bVs l)
/-- values of slices, and the bytes that they read as -/
def Parts (w : World) : List Value → List (List UInt8) → Prop
  | [], [] => True
  | v :: vs, p :: ps => SlB w v p ∧ Parts w vs ps
  | _, _ => False
theorem SlB.below {w w' : World} {v : Value} {l : List UInt8} (h : SlB w v l) (hb : Below w.heap.size w w') : SlB w' v l := by
  obtain ⟨A, cap, e, h1, h2, hr⟩ := h
  exact ⟨A, cap, e, h1, h2, hr.below hb⟩
theorem Parts.below {w w' : World} : ∀ {vs : List Value} {ps : List (List UInt8)}, Parts w vs ps → Below w.heap.size w w' → Parts w' vs ps
  | [], [], _, _ => trivial
  | _ :: _, _ :: _, h, hb => ⟨h.1.below hb, h.2.below hb⟩
theorem Parts.length {w : World} : ∀ {vs : List Value} {ps : List (List UInt8)}, Parts w vs ps → vs.length = ps.length
  | [], [], _ => rfl
  | _ :: _, _ :: _, h => by simp [h.2.length]
theorem Parts.at' {w : World} : ∀ {vs : List Value} {ps : List (List UInt8)} {i : Nat} (h : Parts w vs ps) (hv : i < vs.length), ∃ p, ps[i]? = some p ∧ SlB w vs[i] p
  | _ :: _, p :: _, 0, h, _ => ⟨p, rfl, h.1⟩
  | _ :: vs, _ :: ps, i + 1, h, hv => by
    obtain ⟨p, h1, h2⟩ := Parts.at' (i := i) h.2 (by simpa using hv)
    exact ⟨p, by simpa using h1, by simpa using h2⟩

/-- the call's answer is these bytes, in a row of its own; nothing that was there has turned -/
def RetOwn (l : List UInt8) (w : World) (e : Ending) (w' : World) : Prop :=
  ∃ A cap, e = .returned (.slice A l.length cap) ∧ w'.ownsRow w.heap.size 5 1 (.slice A l.length cap) l.length (bVs l) ∧ Below w.heap.size w w'

theorem flatten_take_succ {ps : List (List UInt8)} {k : Nat} {p : List UInt8} (h : ps[k]? = some p) : (ps.take (k + 1)).flatten = (ps.take k).flatten ++ p := by
  rw [List.take_add_one, h]; simp
theorem flatten_take_le {ps : List (List UInt8)} (k : Nat) : (ps.take k).flatten.length ≤ ps.flatten.length := by
  have h := congrArg List.flatten (List.take_append_drop k ps)
  rw [List.flatten_append] at h
  have h2 := congrArg List.length h
  rw [List.length_append] at h2
  omega

set_option maxRecDepth 100000 in
set_option maxHeartbeats 1000000 in
theorem join (A : Option Addr) (cap : Nat) (vs : List Value) (ps : List (List UInt8)) (w : World) (hr : Row w A vs) (hp : Parts w vs ps) (hsm : ps.flatten.length ≤ 140737488355328) (hm : vs.length ≤ 9223372036854775807) :
    Calls Try.prog 25 #[.slice A vs.length cap] w (RetOwn ps.flatten w) := by
  go_enter Try.func25, Try.ntmps25
  go_wp2
  go_loopw [3, 8] (fun out i wr => ∃ k A' n' c', k ≤ vs.length ∧ i = .int .i64 (k : Nat) ∧ out = .slice A' n' c' ∧ Below w.heap.size w wr ∧
    wr.ownsRow w.heap.size 5 1 (.slice A' n' c') n' (bVs (ps.take k).flatten)) (fun _ i _ => vs.length - (intOf i).toNat)
  case atStart => exact ⟨0, none, 0, 0, by omega, rfl, rfl, Below.refl _ _, by simp [bVs]; exact World.ownsRow_nil _ _ _ _⟩
  case round =>
    obtain ⟨k, A', n', c', hk, rfl, rfl, hbel, hown⟩ := hrel
    by_cases hlt : k < vs.length
    · obtain ⟨b, off, rfl, hcell⟩ := (hr.below hbel).at' hlt
      obtain ⟨p, hpk, hp1⟩ := hp.at' hlt
      obtain ⟨A1, c1, hv, hl1, hl2, hr1⟩ := hp1.below hbel
      rw [hv] at hcell
      have hn' : (ps.take k).flatten.length = n' := by have := hown.1; rw [bVs_length] at this; omega
      have hsum := flatten_take_succ hpk
      have hle := flatten_take_le (ps := ps) (k + 1)
      rw [hsum, List.length_append] at hle
      have hn2 := Lib.hid hn'
      have hsum2 := Lib.hid hsum
      have hroom : (n' + p.length) * 1 ≤ 140737488355328 := by omega
      clear hn' hsum hle hv hpk hp1
      go_wp2_with (first
        | (at_builtin
           refine wpList_app stB rfl (.tmp 12) (.tmp 13) rfl rfl hown rfl (by rw [bVs_length]; omega) hr1 (one_bVs _) hroom hbel.size ?_
           intro A2 c2 w2 hown2 hg2 hat2))
      go_roundw
      case rel =>
        refine ⟨k + 1, A2, _, c2, by omega, by go_num, rfl, ?_, ?_⟩
        · refine hbel.grown hg2 hbel.size (fun j hj => (hown.lt j hj).1)
        · rw [hsum2.out, bVs_append]; exact hown2
      case measure => simp [intOf]; omega
    · obtain rfl : k = vs.length := by omega
      have hn' : (ps.take vs.length).flatten = ps.flatten := by rw [hp.length, List.take_length]
      rw [hn'] at hown
      have hn2 : n' = ps.flatten.length := by have := hown.1; rw [bVs_length] at this; omega
      subst hn2
      clear hn'
      go_wp2
      go_ret
      exact ⟨A', c', rfl, hown, hbel⟩
/-- one part -/
theorem join_one (A : Option Addr) (cap n c : Nat) (A1 : Option Addr) (p : List UInt8) (w : World) (hr : Row w A [.slice A1 n c]) (hn : p.length = n) (hc : n ≤ c) (hm : c ≤ maxLen) (hp : Row w A1 (bVs p)) (hsm : n ≤ 140737488355328) :
    Calls Try.prog 25 #[.slice A 1 cap] w (RetOwn p w) := by
  subst hn
  have := join A cap [.slice A1 p.length c] [p] w hr ⟨⟨A1, c, rfl, hc, hm, hp⟩, trivial⟩ (by simpa using hsm) (by simp)
  simpa using this
end Go.Proofs.Ytbndfejfhngeoaa
