/- Words of this claim: what the law calls, evaluated. -/
import Derived.Test.YtpafhjaidpmeeaaGreatDoorProg
import Derived.Test.YtpafhjaidpmeeaaGreatDoorEv22
set_option linter.unusedVariables false
namespace Go.Ag
open Go.RowKit Go.Proofs
/-! ### What is evaluated -/
abbrev AV := Go.Ev.AV
def ev0 : AV := .agg [.str [], .str [], .str [], .str [], .bool false, .str [], .int .i64 0, .int .i64 0, .str [], .slN, .slN, .slN, .slN, .int .i64 0, .int .i64 0, .str [], .slN]
def aclS : List Nat := [109, 46, 114, 111, 111, 109, 46, 115, 101, 114, 118, 101, 114, 95, 97, 99, 108]
def fin1 (x : AV) : Option Go.Ev.Out → Option Go.Ev.H
  | some (.fin (.ret v) h) => match Go.Ev.avEq v x with
    | true => some h
    | false => none
  | _ => none
theorem fin1_ok {x : AV} {o : Option Go.Ev.Out} {h : Go.Ev.H} (k : fin1 x o = some h) : o = some (.fin (.ret x) h) := by
  unfold fin1 at k
  split at k
  · split at k
    · rename_i he
      injection k with k; subst k
      rw [Go.Ev.avEq_ok he]
    · cases k
  · cases k
def newB : Option Go.Ev.Out → Option (AV × Go.Ev.H)
  | some (.fin (.ret (.tup [p, c])) h) => match Go.Ev.avEq c (.int .i64 0) with
    | true => some (p, h)
    | false => none
  | _ => none
theorem newB_ok {o : Option Go.Ev.Out} {p : AV} {h : Go.Ev.H} (k : newB o = some (p, h)) : o = some (.fin (.ret (.tup [p, .int .i64 0])) h) := by
  unfold newB at k
  split at k
  · split at k
    · rename_i he
      simp only [Option.some.injEq, Prod.mk.injEq] at k
      obtain ⟨rfl, rfl⟩ := k
      rw [Go.Ev.avEq_ok he]
    · cases k
  · cases k
noncomputable def gE : Go.Ev.Pg := ⟨6, Go.Ev.TT.of Tryz.prog, Go.Ev.FT.of Tryz.prog [(131, .clone), (152, .cnt), (154, .idx)]⟩
noncomputable def run (f : FuncId) (args : List AV) (h : Go.Ev.H) : Option Go.Ev.Out := Go.Ev.evF Go.Ev.drD gE 100000 f args h
noncomputable def chain : Bool := match newB (run 4 [.str [33, 114, 58, 115, 49]] (Go.Ev.h00 6)) with
  | some (p, h) => match fin1 (.tup [ev0, .bool false]) (run 12 [p, .str aclS, .str []] h) with
    | some h2 => match fin1 .slN (run 7 [p] h2) with
      | some _ => true
      | none => false
    | none => false
  | none => false
noncomputable def others : Bool := match fin1 (.tup [ev0, .bool false]) (run 12 [.ptrN, .str aclS, .str []] (Go.Ev.h00 6)) with
  | some _ => match fin1 .slN (run 7 [.ptrN] (Go.Ev.h00 6)) with
    | some _ => match fin1 (.bool true) (run 8 [] (Go.Ev.h00 6)) with
      | some _ => true
      | none => false
    | none => false
  | none => false
set_option maxRecDepth 1000000 in
theorem chain_t : chain = true := by kernel_rfl
set_option maxRecDepth 1000000 in
theorem others_t : others = true := by kernel_rfl
end Go.Ag
