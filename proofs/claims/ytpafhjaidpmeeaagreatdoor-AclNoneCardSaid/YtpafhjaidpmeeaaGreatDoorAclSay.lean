/- Words of this claim: what the law calls, evaluated: what that says. -/
import Derived.Test.YtpafhjaidpmeeaaGreatDoorAclRun
import Derived.Test.YtpafhjaidpmeeaaGreatDoorChecked
set_option linter.unusedVariables false
namespace Go.Ag
open Go.RowKit Go.Proofs
theorem chain_ok : ∃ p h h2 h3, run 4 [.str [33, 114, 58, 115, 49]] (Go.Ev.h00 6) = some (.fin (.ret (.tup [p, .int .i64 0])) h) ∧ run 12 [p, .str aclS, .str []] h = some (.fin (.ret (.tup [ev0, .bool false])) h2) ∧ run 7 [p] h2 = some (.fin (.ret .slN) h3) := by
  have k := chain_t
  unfold chain at k
  split at k
  · rename_i p h h1
    split at k
    · rename_i h2 h4
      split at k
      · rename_i h3 h5
        exact ⟨p, h, h2, h3, newB_ok h1, fin1_ok h4, fin1_ok h5⟩
      · cases k
    · cases k
  · cases k
theorem others_ok : ∃ h1 h2 h3, run 12 [.ptrN, .str aclS, .str []] (Go.Ev.h00 6) = some (.fin (.ret (.tup [ev0, .bool false])) h1) ∧ run 7 [.ptrN] (Go.Ev.h00 6) = some (.fin (.ret .slN) h2) ∧ run 8 [] (Go.Ev.h00 6) = some (.fin (.ret (.bool true)) h3) := by
  have k := others_t
  unfold others at k
  split at k
  · rename_i a h1
    split at k
    · rename_i b h2
      split at k
      · rename_i c h3
        exact ⟨a, b, c, fin1_ok h1, fin1_ok h2, fin1_ok h3⟩
      · cases k
    · cases k
  · cases k
set_option maxRecDepth 100000 in
theorem gE_ok : Go.Ev.POK Tryz.prog gE := ⟨Go.Ev.TT.of_ok _, Go.Ev.FT.of_ok (fun x hx => by
  simp only [List.mem_cons, List.not_mem_nil, or_false] at hx
  rcases hx with rfl | rfl | rfl
  · exact ⟨_, Tryz.func131, by kernel_rfl, rfl, by kernel_rfl, by kernel_rfl⟩
  · exact ⟨_, Tryz.func152, by kernel_rfl, rfl, by kernel_rfl, by kernel_rfl⟩
  · exact ⟨_, Tryz.func154, by kernel_rfl, rfl, by kernel_rfl, by kernel_rfl⟩), Tryz.checked.mixed⟩
end Go.Ag
