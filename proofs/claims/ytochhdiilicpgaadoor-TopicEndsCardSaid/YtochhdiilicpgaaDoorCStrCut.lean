/- The code of functions as the interpreter reads it: StrCut. Printed by a program. -/
import Derived.Test.YtochhdiilicpgaaDoorEnv
namespace Go.Proofs.YtochhdiilicpgaaDoor
set_option linter.unusedSimpArgs false
set_option linter.unusedVariables false
def b_internal_stringslite_Cut : ACode := (.seq (.region [⟨(some 4), (.mov (.c (.str []))), none, []⟩, ⟨(some 5), (.mov (.c (.str []))), none, []⟩, ⟨(some 6), (.mov (.c (.bool false))), none, []⟩] none [1, 0]) (.seq (.seq (.region [⟨(some 8), (.mov (.t 0)), none, []⟩, ⟨(some 9), (.mov (.t 1)), none, []⟩, ⟨(some 10), (.call 51 0 true [(.t 8), (.t 9)]), none, []⟩, ⟨(some 7), (.mov (.t 10)), none, []⟩] none [7, 1, 0]) (.seq (.region [⟨(some 11), (.mov (.t 7)), none, []⟩, ⟨(some 12), (.bin .geq (.t 11) (.c (.int .i64 0))), none, []⟩] none [12, 7, 1, 0]) (.cond (.t 12) (.seq (.region [⟨(some 13), (.mov (.t 0)), none, []⟩, ⟨(some 14), (.mov (.t 7)), none, []⟩, ⟨(some 15), (.sslice (.t 13) none (some (.t 14))), none, []⟩, ⟨(some 16), (.mov (.t 0)), none, []⟩, ⟨(some 17), (.mov (.t 7)), none, []⟩, ⟨(some 18), (.mov (.t 1)), none, []⟩, ⟨(some 19), (.slen (.t 18)), none, []⟩, ⟨(some 20), (.bin .add (.t 17) (.t 19)), none, []⟩, ⟨(some 21), (.sslice (.t 16) (some (.t 20)) none), none, []⟩, ⟨(some 4), (.mov (.t 15)), none, []⟩, ⟨(some 5), (.mov (.t 21)), none, []⟩, ⟨(some 6), (.mov (.c (.bool true))), none, []⟩] (some []) [6, 5, 4]) .ret) .skip))) (.seq (.region [⟨(some 22), (.mov (.t 0)), none, []⟩, ⟨(some 4), (.mov (.t 22)), none, []⟩, ⟨(some 5), (.mov (.c (.str []))), none, []⟩, ⟨(some 6), (.mov (.c (.bool false))), none, []⟩] none [6, 5, 4]) .ret)))
def c_internal_stringslite_Cut : AFunc := ⟨[(.tmp 4), (.tmp 5), (.tmp 6)], b_internal_stringslite_Cut⟩
theorem cf_internal_stringslite_Cut : FC 40 = some c_internal_stringslite_Cut := by kernel_rfl
theorem cb_internal_stringslite_Cut : c_internal_stringslite_Cut.body = b_internal_stringslite_Cut := rfl
theorem cr_internal_stringslite_Cut : c_internal_stringslite_Cut.res = [(.tmp 4), (.tmp 5), (.tmp 6)] := rfl
def b_internal_stringslite_CutPrefix : ACode := (.seq (.region [⟨(some 4), (.mov (.c (.str []))), none, []⟩, ⟨(some 5), (.mov (.c (.bool false))), none, []⟩] none [1, 0]) (.seq (.seq (.region [⟨(some 6), (.mov (.t 0)), none, []⟩, ⟨(some 7), (.mov (.t 1)), none, []⟩, ⟨(some 8), (.call 42 0 true [(.t 6), (.t 7)]), none, []⟩, ⟨(some 9), (.un .not (.t 8)), none, []⟩] none [9, 1, 0]) (.cond (.t 9) (.seq (.region [⟨(some 10), (.mov (.t 0)), none, []⟩, ⟨(some 4), (.mov (.t 10)), none, []⟩, ⟨(some 5), (.mov (.c (.bool false))), none, []⟩] none [5, 4]) .ret) .skip)) (.seq (.region [⟨(some 11), (.mov (.t 0)), none, []⟩, ⟨(some 12), (.mov (.t 1)), none, []⟩, ⟨(some 13), (.slen (.t 12)), none, []⟩, ⟨(some 14), (.sslice (.t 11) (some (.t 13)) none), none, []⟩, ⟨(some 4), (.mov (.t 14)), none, []⟩, ⟨(some 5), (.mov (.c (.bool true))), none, []⟩] none [5, 4]) .ret)))
def c_internal_stringslite_CutPrefix : AFunc := ⟨[(.tmp 4), (.tmp 5)], b_internal_stringslite_CutPrefix⟩
theorem cf_internal_stringslite_CutPrefix : FC 39 = some c_internal_stringslite_CutPrefix := by kernel_rfl
theorem cb_internal_stringslite_CutPrefix : c_internal_stringslite_CutPrefix.body = b_internal_stringslite_CutPrefix := rfl
theorem cr_internal_stringslite_CutPrefix : c_internal_stringslite_CutPrefix.res = [(.tmp 4), (.tmp 5)] := rfl
def b_internal_stringslite_HasPrefix : ACode := (.seq (.region [⟨(some 4), (.mov (.c (.bool false))), none, []⟩] none [1, 0]) (.seq (.region [⟨(some 5), (.mov (.t 0)), none, []⟩, ⟨(some 6), (.slen (.t 5)), none, []⟩, ⟨(some 7), (.mov (.t 1)), none, []⟩, ⟨(some 8), (.slen (.t 7)), none, []⟩, ⟨(some 9), (.bin .geq (.t 6) (.t 8)), none, []⟩, ⟨(some 10), (.mov (.t 9)), none, []⟩, ⟨(some 11), (.mov (.t 0)), (some (10, true)), []⟩, ⟨(some 12), (.mov (.t 1)), (some (10, true)), []⟩, ⟨(some 13), (.slen (.t 12)), (some (10, true)), []⟩, ⟨(some 14), (.sslice (.t 11) none (some (.t 13))), (some (10, true)), []⟩, ⟨(some 15), (.mov (.t 1)), (some (10, true)), []⟩, ⟨(some 16), (.bin .eql (.t 14) (.t 15)), (some (10, true)), []⟩, ⟨(some 17), (.pick (.t 10) (.t 16) (.c (.bool false))), none, []⟩, ⟨(some 4), (.mov (.t 17)), none, []⟩] none [4]) .ret))
def c_internal_stringslite_HasPrefix : AFunc := ⟨[(.tmp 4)], b_internal_stringslite_HasPrefix⟩
theorem cf_internal_stringslite_HasPrefix : FC 42 = some c_internal_stringslite_HasPrefix := by kernel_rfl
theorem cb_internal_stringslite_HasPrefix : c_internal_stringslite_HasPrefix.body = b_internal_stringslite_HasPrefix := rfl
theorem cr_internal_stringslite_HasPrefix : c_internal_stringslite_HasPrefix.res = [(.tmp 4)] := rfl
def b_strings_Cut : ACode := (.seq (.region [⟨(some 4), (.mov (.c (.str []))), none, []⟩, ⟨(some 5), (.mov (.c (.str []))), none, []⟩, ⟨(some 6), (.mov (.c (.bool false))), none, []⟩] none [1, 0]) (.seq (.region [⟨(some 7), (.mov (.t 0)), none, []⟩, ⟨(some 8), (.mov (.t 1)), none, []⟩, ⟨(some 9), (.call 40 0 true [(.t 7), (.t 8)]), none, []⟩, ⟨(some 10), (.ext (.t 9) 0), none, []⟩, ⟨(some 11), (.ext (.t 9) 1), none, []⟩, ⟨(some 12), (.ext (.t 9) 2), none, []⟩, ⟨(some 4), (.mov (.t 10)), none, []⟩, ⟨(some 5), (.mov (.t 11)), none, []⟩, ⟨(some 6), (.mov (.t 12)), none, []⟩] none [6, 5, 4]) .ret))
def c_strings_Cut : AFunc := ⟨[(.tmp 4), (.tmp 5), (.tmp 6)], b_strings_Cut⟩
theorem cf_strings_Cut : FC 31 = some c_strings_Cut := by kernel_rfl
theorem cb_strings_Cut : c_strings_Cut.body = b_strings_Cut := rfl
theorem cr_strings_Cut : c_strings_Cut.res = [(.tmp 4), (.tmp 5), (.tmp 6)] := rfl
def b_strings_CutPrefix : ACode := (.seq (.region [⟨(some 4), (.mov (.c (.str []))), none, []⟩, ⟨(some 5), (.mov (.c (.bool false))), none, []⟩] none [1, 0]) (.seq (.region [⟨(some 6), (.mov (.t 0)), none, []⟩, ⟨(some 7), (.mov (.t 1)), none, []⟩, ⟨(some 8), (.call 39 0 true [(.t 6), (.t 7)]), none, []⟩, ⟨(some 9), (.ext (.t 8) 0), none, []⟩, ⟨(some 10), (.ext (.t 8) 1), none, []⟩, ⟨(some 4), (.mov (.t 9)), none, []⟩, ⟨(some 5), (.mov (.t 10)), none, []⟩] none [5, 4]) .ret))
def c_strings_CutPrefix : AFunc := ⟨[(.tmp 4), (.tmp 5)], b_strings_CutPrefix⟩
theorem cf_strings_CutPrefix : FC 30 = some c_strings_CutPrefix := by kernel_rfl
theorem cb_strings_CutPrefix : c_strings_CutPrefix.body = b_strings_CutPrefix := rfl
theorem cr_strings_CutPrefix : c_strings_CutPrefix.res = [(.tmp 4), (.tmp 5)] := rfl
def b_strings_HasPrefix : ACode := (.seq (.region [⟨(some 4), (.mov (.c (.bool false))), none, []⟩] none [1, 0]) (.seq (.region [⟨(some 5), (.mov (.t 0)), none, []⟩, ⟨(some 6), (.mov (.t 1)), none, []⟩, ⟨(some 7), (.call 42 0 true [(.t 5), (.t 6)]), none, []⟩, ⟨(some 4), (.mov (.t 7)), none, []⟩] none [4]) .ret))
def c_strings_HasPrefix : AFunc := ⟨[(.tmp 4)], b_strings_HasPrefix⟩
theorem cf_strings_HasPrefix : FC 34 = some c_strings_HasPrefix := by kernel_rfl
theorem cb_strings_HasPrefix : c_strings_HasPrefix.body = b_strings_HasPrefix := rfl
theorem cr_strings_HasPrefix : c_strings_HasPrefix.res = [(.tmp 4)] := rfl
end Go.Proofs.YtochhdiilicpgaaDoor
