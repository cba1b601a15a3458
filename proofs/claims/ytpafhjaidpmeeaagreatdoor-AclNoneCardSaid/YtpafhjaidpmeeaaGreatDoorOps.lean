/- Words of this claim: the small laws of the operations that turn nothing in memory. -/
import Derived.Test.YtpafhjaidpmeeaaGreatDoorWalk
import Derived.Laws.Externs
import Derived.Lib.Bytealg
import Derived.Laws.BitsLemmas
set_option linter.unusedVariables false
namespace Go.Ag
open Go.RowKit

theorem ByteArray_toList_eq (a b : ByteArray) : (a.toList == b.toList) = decide (a = b) := by
  rw [Bool.eq_iff_iff]
  simp only [beq_iff_eq, decide_eq_true_eq]
  constructor
  · intro h
    rw [ByteArray.toList_eq, ByteArray.toList_eq] at h
    exact ByteArray.ext (by rw [← Array.toList_inj]; exact h)
  · rintro rfl; rfl

theorem cc {a b : Bool} (h1 : a = true) (h2 : b = true) : (a && (bif true then b else !b)) = true := by rw [h1, h2]; rfl
theorem cf {a b : Bool} (h1 : a = true) (h2 : b = false) : (a && (bif false then b else !b)) = true := by rw [h1, h2]; rfl
/-- a < b, byte by byte. -/
def sLt (a b : ByteArray) : Bool := Op.bytesLess a.toList b.toList

/-- A text's byte. -/
def bAt (s : ByteArray) (i : Nat) : Int := ((s.data.toList.getD i 0).toNat : Int)
theorem bAt_range (s : ByteArray) (i : Nat) : 0 ≤ bAt s i ∧ bAt s i ≤ 255 := by
  have := (s.data.toList.getD i 0).toNat_lt
  unfold bAt
  omega
theorem str_nil (s : ByteArray) : decide (s = ⟨#[]⟩) = decide (s.size = 0) := by
  rw [Bool.eq_iff_iff]
  simp only [decide_eq_true_eq]
  constructor
  · rintro rfl; rfl
  · intro h
    exact ByteArray.ext (Array.eq_empty_of_size_eq_zero h)

section
variable {N : Nm} {P : Program} {ops : Array Oper} {Q : Exit → Act → World → Prop} {K : Act → World → Prop} {rest : List Oper} {l : L} {w : World}
  {d : Nat} {ty : TypeId} {pos : String} {af : Array Edge} {g : Option (Nat × Bool)} {c cx cy cz : Bool}

theorem PS.mv {x : Operand} {v : Value} (hx : ev l x = some (cx, v)) (hg : gd ops l ⟨some d, .move x, ty, pos, af, g⟩ = some c) (hcx : c = true → cx = true) : PS N P ops l (⟨some d, .move x, ty, pos, af, g⟩) d c (v) :=
  PS.mk hg rfl (fun w hc a ha => by simp [execOp, ha.eval hx (hcx hc)])
theorem PS.asg {x : Operand} {v : Value} (hx : ev l x = some (cx, v)) (hg : gd ops l ⟨some d, .assign x, ty, pos, af, g⟩ = some c) (hcx : c = true → cx = true) : PS N P ops l (⟨some d, .assign x, ty, pos, af, g⟩) d c (v) :=
  PS.mk hg rfl (fun w hc a ha => by simp [execOp, ha.eval hx (hcx hc)])

theorem PS.pick {x y z : Operand} {b : Bool} {u v r : Value} (hx : ev l x = some (cx, .bool b)) (hy : ev l y = some (cy, u)) (hz : ev l z = some (cz, v)) (hg : gd ops l ⟨some d, .pick x y z, ty, pos, af, g⟩ = some c)
    (hcx : c = true → cx = true) (hT : c = true → b = true → cy = true ∧ u = r) (hF : c = true → b = false → cz = true ∧ v = r) : PS N P ops l (⟨some d, .pick x y z, ty, pos, af, g⟩) d c (r) :=
  PS.mk hg rfl (fun w hc a ha => by
    cases b with
    | true => obtain ⟨h1, rfl⟩ := hT hc rfl; simp [execOp, ha.eval hx (hcx hc), ha.eval hy h1, asBool]
    | false => obtain ⟨h1, rfl⟩ := hF hc rfl; simp [execOp, ha.eval hx (hcx hc), ha.eval hz h1, asBool])
/-- x && y -/
theorem PS.and {x y : Operand} {b p : Bool} (hx : ev l x = some (cx, .bool b)) (hy : ev l y = some (cy, .bool p)) (hg : gd ops l ⟨some d, .pick x y (.const (.bool false)), ty, pos, af, g⟩ = some c)
    (hcx : c = true → cx = true) (hcy : c = true → b = true → cy = true) : PS N P ops l (⟨some d, .pick x y (.const (.bool false)), ty, pos, af, g⟩) d c (.bool (b && p)) :=
  PS.pick (cz := true) (v := .bool false) hx hy rfl hg hcx (fun hc hb => ⟨hcy hc hb, by rw [hb]; rfl⟩) (fun hc hb => ⟨rfl, by rw [hb]; rfl⟩)
/-- x || y -/
theorem PS.or {x y : Operand} {b p : Bool} (hx : ev l x = some (cx, .bool b)) (hy : ev l y = some (cy, .bool p)) (hg : gd ops l ⟨some d, .pick x (.const (.bool true)) y, ty, pos, af, g⟩ = some c)
    (hcx : c = true → cx = true) (hcy : c = true → b = false → cy = true) : PS N P ops l (⟨some d, .pick x (.const (.bool true)) y, ty, pos, af, g⟩) d c (.bool (b || p)) :=
  PS.pick (cy := true) (u := .bool true) hx rfl hy hg hcx (fun hc hb => ⟨rfl, by rw [hb]; rfl⟩) (fun hc hb => ⟨hcy hc hb, by rw [hb]; rfl⟩)

/-! comparisons of whole numbers -/
section
variable {x y : Operand} {tx tz : TypeId} {k : IntKind} {a b : Int} (hx : ev l x = some (cx, .int k a)) (hy : ev l y = some (cy, .int k b))
theorem PS.bin {op : BinOp} {u v r : Value} (hx : ev l x = some (cx, u)) (hy : ev l y = some (cy, v)) (hg : gd ops l ⟨some d, .binOp op tx x y tz, ty, pos, af, g⟩ = some c) (hcx : c = true → cx = true) (hcy : c = true → cy = true)
    (hq : ∀ w, (eqGuard op tx x y u v).run P w = .ok () w) (hr : ∀ w, (binOp op tx u v).run P w = .ok r w) : PS N P ops l (⟨some d, .binOp op tx x y tz, ty, pos, af, g⟩) d c (r) :=
  PS.mk hg rfl (fun w hc A ha => by simp [execOp, ha.eval hx (hcx hc), ha.eval hy (hcy hc), hq, hr])
include hx hy
theorem PS.lss (hg : gd ops l ⟨some d, .binOp .lss tx x y tz, ty, pos, af, g⟩ = some c) (hcx : c = true → cx = true) (hcy : c = true → cy = true) : PS N P ops l (⟨some d, .binOp .lss tx x y tz, ty, pos, af, g⟩) d c (.bool (decide (a < b))) :=
  PS.bin hx hy hg hcx hcy (fun w => by simp [eqGuard]) (fun w => by simp [binOp, Op.intCmp])
theorem PS.leq (hg : gd ops l ⟨some d, .binOp .leq tx x y tz, ty, pos, af, g⟩ = some c) (hcx : c = true → cx = true) (hcy : c = true → cy = true) : PS N P ops l (⟨some d, .binOp .leq tx x y tz, ty, pos, af, g⟩) d c (.bool (decide (a ≤ b))) :=
  PS.bin hx hy hg hcx hcy (fun w => by simp [eqGuard]) (fun w => by simp [binOp, Op.intCmp])
theorem PS.gtr (hg : gd ops l ⟨some d, .binOp .gtr tx x y tz, ty, pos, af, g⟩ = some c) (hcx : c = true → cx = true) (hcy : c = true → cy = true) : PS N P ops l (⟨some d, .binOp .gtr tx x y tz, ty, pos, af, g⟩) d c (.bool (decide (b < a))) :=
  PS.bin hx hy hg hcx hcy (fun w => by simp [eqGuard]) (fun w => by simp [binOp, Op.intCmp])
theorem PS.geq (hg : gd ops l ⟨some d, .binOp .geq tx x y tz, ty, pos, af, g⟩ = some c) (hcx : c = true → cx = true) (hcy : c = true → cy = true) : PS N P ops l (⟨some d, .binOp .geq tx x y tz, ty, pos, af, g⟩) d c (.bool (decide (b ≤ a))) :=
  PS.bin hx hy hg hcx hcy (fun w => by simp [eqGuard]) (fun w => by simp [binOp, Op.intCmp])
theorem PS.eqi (hg : gd ops l ⟨some d, .binOp .eql tx x y tz, ty, pos, af, g⟩ = some c) (hcx : c = true → cx = true) (hcy : c = true → cy = true) : PS N P ops l (⟨some d, .binOp .eql tx x y tz, ty, pos, af, g⟩) d c (.bool (decide (a = b))) :=
  PS.bin hx hy hg hcx hcy (fun w => by simp [eqGuard]) (fun w => by simp [binOp, Op.intCmp]; rfl)
theorem PS.nei (hg : gd ops l ⟨some d, .binOp .neq tx x y tz, ty, pos, af, g⟩ = some c) (hcx : c = true → cx = true) (hcy : c = true → cy = true) : PS N P ops l (⟨some d, .binOp .neq tx x y tz, ty, pos, af, g⟩) d c (.bool (!decide (a = b))) :=
  PS.bin hx hy hg hcx hcy (fun w => by simp [eqGuard]) (fun w => by simp [binOp, Op.intCmp]; rfl)
end
/-! arithmetic of ints that stays within its bounds -/
section
variable {x y : Operand} {tx tz : TypeId} {a b : Int} (hx : ev l x = some (cx, .int .i64 a)) (hy : ev l y = some (cy, .int .i64 b))
include hx hy
theorem PS.addi (hg : gd ops l ⟨some d, .binOp .add tx x y tz, ty, pos, af, g⟩ = some c) (hcx : c = true → cx = true) (hcy : c = true → cy = true) (hb : c = true → -9223372036854775808 ≤ a + b ∧ a + b ≤ 9223372036854775807) : PS N P ops l (⟨some d, .binOp .add tx x y tz, ty, pos, af, g⟩) d c (.int .i64 (a + b)) :=
  PS.mk hg rfl (fun w hc A ha => by
    have hw : IntKind.i64.wrap (a + b) = a + b := by have := hb hc; rw [IntKind.wrap_i64]; omega
    simp [execOp, ha.eval hx (hcx hc), ha.eval hy (hcy hc), eqGuard, binOp, Op.intArith, hw])
theorem PS.subi (hg : gd ops l ⟨some d, .binOp .sub tx x y tz, ty, pos, af, g⟩ = some c) (hcx : c = true → cx = true) (hcy : c = true → cy = true) (hb : c = true → -9223372036854775808 ≤ a - b ∧ a - b ≤ 9223372036854775807) : PS N P ops l (⟨some d, .binOp .sub tx x y tz, ty, pos, af, g⟩) d c (.int .i64 (a - b)) :=
  PS.mk hg rfl (fun w hc A ha => by
    have hw : IntKind.i64.wrap (a - b) = a - b := by have := hb hc; rw [IntKind.wrap_i64]; omega
    simp [execOp, ha.eval hx (hcx hc), ha.eval hy (hcy hc), eqGuard, binOp, Op.intArith, hw])
end
section
variable {x y : Operand} {tx tz : TypeId} {a b : Int} (hx : ev l x = some (cx, .int .i64 a)) (hy : ev l y = some (cy, .int .i64 b))
include hx hy
theorem PS.muli (hg : gd ops l ⟨some d, .binOp .mul tx x y tz, ty, pos, af, g⟩ = some c) (hcx : c = true → cx = true) (hcy : c = true → cy = true) (hb : c = true → -9223372036854775808 ≤ a * b ∧ a * b ≤ 9223372036854775807) : PS N P ops l (⟨some d, .binOp .mul tx x y tz, ty, pos, af, g⟩) d c (.int .i64 (a * b)) :=
  PS.mk hg rfl (fun w hc A ha => by
    have hw : IntKind.i64.wrap (a * b) = a * b := by have := hb hc; rw [IntKind.wrap_i64]; omega
    simp [execOp, ha.eval hx (hcx hc), ha.eval hy (hcy hc), eqGuard, binOp, Op.intArith, hw])
theorem PS.quoi (hg : gd ops l ⟨some d, .binOp .quo tx x y tz, ty, pos, af, g⟩ = some c) (hcx : c = true → cx = true) (hcy : c = true → cy = true) (hb : c = true → 0 ≤ a ∧ 0 < b ∧ a ≤ 9223372036854775807) : PS N P ops l (⟨some d, .binOp .quo tx x y tz, ty, pos, af, g⟩) d c (.int .i64 (a / b)) :=
  PS.mk hg rfl (fun w hc A ha => by
    obtain ⟨h0, h1, h2⟩ := hb hc
    have h3 : a.tdiv b = a / b := Int.tdiv_eq_ediv_of_nonneg h0
    have h4 : a / b ≤ a := Int.ediv_le_self _ h0
    have h5 : 0 ≤ a / b := Int.ediv_nonneg h0 (by omega)
    have hw : IntKind.i64.wrap (a / b) = a / b := by rw [IntKind.wrap_i64]; omega
    have h6 : ¬ b = 0 := by omega
    simp [execOp, ha.eval hx (hcx hc), ha.eval hy (hcy hc), eqGuard, binOp, Op.intDiv, h6, h3, hw])
theorem PS.remi (hg : gd ops l ⟨some d, .binOp .rem tx x y tz, ty, pos, af, g⟩ = some c) (hcx : c = true → cx = true) (hcy : c = true → cy = true) (hb : c = true → 0 ≤ a ∧ 0 < b) : PS N P ops l (⟨some d, .binOp .rem tx x y tz, ty, pos, af, g⟩) d c (.int .i64 (a % b)) :=
  PS.mk hg rfl (fun w hc A ha => by
    obtain ⟨h0, h1⟩ := hb hc
    have h3 : a.tmod b = a % b := Int.tmod_eq_emod_of_nonneg h0
    have h6 : ¬ b = 0 := by omega
    simp [execOp, ha.eval hx (hcx hc), ha.eval hy (hcy hc), eqGuard, binOp, Op.intDiv, h6, h3])
end
/-! strings -/
section
variable {x y : Operand} {tx tz : TypeId} {a b : ByteArray} (hx : ev l x = some (cx, .string a)) (hy : ev l y = some (cy, .string b))
include hx hy
theorem PS.eqs (hg : gd ops l ⟨some d, .binOp .eql tx x y tz, ty, pos, af, g⟩ = some c) (hcx : c = true → cx = true) (hcy : c = true → cy = true) : PS N P ops l (⟨some d, .binOp .eql tx x y tz, ty, pos, af, g⟩) d c (.bool (decide (a = b))) :=
  PS.bin hx hy hg hcx hcy (fun w => by simp [eqGuard]) (fun w => by simp only [binOp, Op.stringOp, ByteArray_toList_eq]; rfl)
theorem PS.nes (hg : gd ops l ⟨some d, .binOp .neq tx x y tz, ty, pos, af, g⟩ = some c) (hcx : c = true → cx = true) (hcy : c = true → cy = true) : PS N P ops l (⟨some d, .binOp .neq tx x y tz, ty, pos, af, g⟩) d c (.bool (!decide (a = b))) :=
  PS.bin hx hy hg hcx hcy (fun w => by simp [eqGuard]) (fun w => by simp only [binOp, Op.stringOp, ByteArray_toList_eq]; rfl)
theorem PS.lts (hg : gd ops l ⟨some d, .binOp .lss tx x y tz, ty, pos, af, g⟩ = some c) (hcx : c = true → cx = true) (hcy : c = true → cy = true) : PS N P ops l (⟨some d, .binOp .lss tx x y tz, ty, pos, af, g⟩) d c (.bool (sLt a b)) :=
  PS.bin hx hy hg hcx hcy (fun w => by simp [eqGuard]) (fun w => by simp only [binOp, Op.stringOp]; rfl)
theorem PS.les (hg : gd ops l ⟨some d, .binOp .leq tx x y tz, ty, pos, af, g⟩ = some c) (hcx : c = true → cx = true) (hcy : c = true → cy = true) : PS N P ops l (⟨some d, .binOp .leq tx x y tz, ty, pos, af, g⟩) d c (.bool (sLt a b || decide (a = b))) :=
  PS.bin hx hy hg hcx hcy (fun w => by simp [eqGuard]) (fun w => by simp only [binOp, Op.stringOp, ByteArray_toList_eq]; rfl)
theorem PS.gts (hg : gd ops l ⟨some d, .binOp .gtr tx x y tz, ty, pos, af, g⟩ = some c) (hcx : c = true → cx = true) (hcy : c = true → cy = true) : PS N P ops l (⟨some d, .binOp .gtr tx x y tz, ty, pos, af, g⟩) d c (.bool (!(sLt a b || decide (a = b)))) :=
  PS.bin hx hy hg hcx hcy (fun w => by simp [eqGuard]) (fun w => by simp only [binOp, Op.stringOp, ByteArray_toList_eq]; rfl)
theorem PS.ges (hg : gd ops l ⟨some d, .binOp .geq tx x y tz, ty, pos, af, g⟩ = some c) (hcx : c = true → cx = true) (hcy : c = true → cy = true) : PS N P ops l (⟨some d, .binOp .geq tx x y tz, ty, pos, af, g⟩) d c (.bool (!sLt a b)) :=
  PS.bin hx hy hg hcx hcy (fun w => by simp [eqGuard]) (fun w => by simp only [binOp, Op.stringOp]; rfl)
theorem PS.adds (hg : gd ops l ⟨some d, .binOp .add tx x y tz, ty, pos, af, g⟩ = some c) (hcx : c = true → cx = true) (hcy : c = true → cy = true) (hb : c = true → a.size + b.size ≤ 9223372036854775807) : PS N P ops l (⟨some d, .binOp .add tx x y tz, ty, pos, af, g⟩) d c (.string (a ++ b)) :=
  PS.mk hg rfl (fun w hc A ha => by
    have hw : ¬ (((a.size + b.size : Nat) : Int) > IntKind.i64.max) := by have := hb hc; simp only [IntKind.max, IntKind.bits, IntKind.signed]; simp; omega
    simp only [execOp, ha.eval hx (hcx hc), ha.eval hy (hcy hc), binOp, Op.stringOp, hw, if_false]; simp [eqGuard])
end
theorem PS.not {x : Operand} {tx : TypeId} {b : Bool} (hx : ev l x = some (cx, .bool b)) (hg : gd ops l ⟨some d, .unOp .not tx x, ty, pos, af, g⟩ = some c) (hcx : c = true → cx = true) : PS N P ops l (⟨some d, .unOp .not tx x, ty, pos, af, g⟩) d c (.bool (!b)) :=
  PS.mk hg rfl (fun w hc a ha => by simp [execOp, ha.eval hx (hcx hc), Op.unary])
theorem PS.ext {x : Operand} {vs : Array Value} {i : Nat} {v : Value} (hx : ev l x = some (cx, .tuple vs)) (hg : gd ops l ⟨some d, .extract x i, ty, pos, af, g⟩ = some c) (hcx : c = true → cx = true) (hi : vs[i]? = some v) : PS N P ops l (⟨some d, .extract x i, ty, pos, af, g⟩) d c (v) :=
  PS.mk hg rfl (fun w hc a ha => by simp [execOp, ha.eval hx (hcx hc), Instr.extract, hi])
theorem PS.nilc {x : Operand} {a : Addr} (hx : ev l x = some (cx, .pointer (some a))) (hg : gd ops l ⟨some d, .nilCheck x, ty, pos, af, g⟩ = some c) (hcx : c = true → cx = true) : PS N P ops l (⟨some d, .nilCheck x, ty, pos, af, g⟩) d c (.pointer (some a)) :=
  PS.mk hg rfl (fun w hc A ha => by simp [execOp, ha.eval hx (hcx hc)])
theorem PS.mkf {fn : Fn} {fs xs : List Operand} {us vs : List Value} (hf : evs l fs = some (cx, us)) (hx : evs l xs = some (cy, vs)) (hg : gd ops l ⟨some d, .makeFunc fn fs.toArray xs.toArray, ty, pos, af, g⟩ = some c) (hcx : c = true → cx = true) (hcy : c = true → cy = true) : PS N P ops l (⟨some d, .makeFunc fn fs.toArray xs.toArray, ty, pos, af, g⟩) d c (.func fn us.toArray vs.toArray) :=
  PS.mk hg rfl (fun w hc a ha => by simp only [execOp, List.map_toArray, ha.evals hf (hcx hc), ha.evals hx (hcy hc), Instr.makeFunc]; simp)

/-! len -/
def isStr (P : Program) (t : TypeId) : Bool := match P.underlying t with | some .string => true | _ => false
def isSl (P : Program) (t : TypeId) : Bool := match P.underlying t with | some (.slice _) => true | _ => false
theorem isStr_of {t : TypeId} (h : isStr P t = true) : P.underlying t = some .string := by unfold isStr at h; split at h <;> simp_all
theorem isSl_of {t : TypeId} (h : isSl P t = true) : ∃ e, P.underlying t = some (.slice e) := by unfold isSl at h; split at h <;> simp_all
theorem PS.lens {x : Operand} {tx : TypeId} {s : ByteArray} (hx : ev l x = some (cx, .string s)) (hg : gd ops l ⟨some d, .call { callee := .builtin .len, args := #[x], argTypes := #[tx] }, ty, pos, af, g⟩ = some c) (hcx : c = true → cx = true) (hT : isStr P tx = true) : PS N P ops l (⟨some d, .call { callee := .builtin .len, args := #[x], argTypes := #[tx] }, ty, pos, af, g⟩) d c (.int .i64 s.size) :=
  PS.mk hg rfl (fun w hc a ha => by
    have hT' := isStr_of hT
    have he := ha.eval hx (hcx hc)
    simp only [execOp, resolve, invoke, builtin, List.map_toArray, List.map_cons, List.map_nil, he, Sem.run_bind, Sem.run_pure, Result.andThen_ok]
    simp [Builtin.len_, run_underlying hT', goInt])
theorem PS.lenl {x : Operand} {tx : TypeId} {A : Option Addr} {n m : Nat} (hx : ev l x = some (cx, .slice A n m)) (hg : gd ops l ⟨some d, .call { callee := .builtin .len, args := #[x], argTypes := #[tx] }, ty, pos, af, g⟩ = some c) (hcx : c = true → cx = true) (hT : isSl P tx = true) : PS N P ops l (⟨some d, .call { callee := .builtin .len, args := #[x], argTypes := #[tx] }, ty, pos, af, g⟩) d c (.int .i64 n) :=
  PS.mk hg rfl (fun w hc a ha => by
    obtain ⟨e, hT'⟩ := isSl_of hT
    have he := ha.eval hx (hcx hc)
    simp only [execOp, resolve, invoke, builtin, List.map_toArray, List.map_cons, List.map_nil, he, Sem.run_bind, Sem.run_pure, Result.andThen_ok]
    simp [Builtin.len_, run_underlying hT', goInt])
/-- s[i], s a string -/
theorem PS.idxs {x y : Operand} {tx : TypeId} {k : IntKind} {s : ByteArray} {i : Int} (hx : ev l x = some (cx, .string s)) (hy : ev l y = some (cy, .int k i)) (hg : gd ops l ⟨some d, .index tx x y, ty, pos, af, g⟩ = some c) (hcx : c = true → cx = true) (hcy : c = true → cy = true)
    (hT : isStr P tx = true) (hi : c = true → 0 ≤ i ∧ i < s.size) : PS N P ops l (⟨some d, .index tx x y, ty, pos, af, g⟩) d c (.int .u8 (bAt s i.toNat)) :=
  PS.mk hg rfl (fun w hc a ha => by
    have hT' := isStr_of hT
    obtain ⟨h0, h1⟩ := hi hc
    have hlt : i.toNat < s.size := by omega
    have hb : bAt s i.toNat = ((s[i.toNat]'hlt).toNat : Int) := by
      unfold bAt
      rw [List.getD_eq_getElem?_getD, List.getElem?_eq_getElem (by simpa using hlt)]
      rfl
    simp [execOp, ha.eval hx (hcx hc), ha.eval hy (hcy hc), Instr.index, asIntOf, run_underlying hT', h0, getElem?_pos s i.toNat hlt, hb])
/-- s[a:], s[:b], s[a:b], s a string -/
theorem PS.slfrom {x y : Operand} {tx : TypeId} {k : IntKind} {s : ByteArray} {i : Int} (hx : ev l x = some (cx, .string s)) (hy : ev l y = some (cy, .int k i)) (hg : gd ops l ⟨some d, .slice tx x (some y) none none, ty, pos, af, g⟩ = some c) (hcx : c = true → cx = true) (hcy : c = true → cy = true)
    (hT : isStr P tx = true) (hi : c = true → 0 ≤ i ∧ i ≤ s.size) : PS N P ops l (⟨some d, .slice tx x (some y) none none, ty, pos, af, g⟩) d c (.string (s.extract i.toNat s.size)) :=
  PS.mk hg rfl (fun w hc a ha => by
    have hT' := isStr_of hT
    obtain ⟨h0, h1⟩ := hi hc
    simp [execOp, Option.map, ha.eval hx (hcx hc), ha.eval hy (hcy hc), Instr.sliceAt, run_underlying hT', Instr.slice, Instr.sliceBounds, Instr.sliceBound, asIntOf, h0, h1])
theorem PS.slto {x y : Operand} {tx : TypeId} {k : IntKind} {s : ByteArray} {i : Int} (hx : ev l x = some (cx, .string s)) (hy : ev l y = some (cy, .int k i)) (hg : gd ops l ⟨some d, .slice tx x none (some y) none, ty, pos, af, g⟩ = some c) (hcx : c = true → cx = true) (hcy : c = true → cy = true)
    (hT : isStr P tx = true) (hi : c = true → 0 ≤ i ∧ i ≤ s.size) : PS N P ops l (⟨some d, .slice tx x none (some y) none, ty, pos, af, g⟩) d c (.string (s.extract 0 i.toNat)) :=
  PS.mk hg rfl (fun w hc a ha => by
    have hT' := isStr_of hT
    obtain ⟨h0, h1⟩ := hi hc
    simp [execOp, Option.map, ha.eval hx (hcx hc), ha.eval hy (hcy hc), Instr.sliceAt, run_underlying hT', Instr.slice, Instr.sliceBounds, Instr.sliceBound, asIntOf, h0, h1])
/-- A call of a function without a body: the entry's answer. -/
theorem PS.extern {f : FuncId} {fn : Func} {e : Array Value → Sem Value} {xs : List Operand} {ts : Array TypeId} {vs : List Value} {v : Value} (ha : evs l xs = some (true, vs)) (hf : P.funcs[f]? = some fn) (hname : (fn.name == "runtime.NumGoroutine") = false) (hb : fn.body.isNone = true) (hn : Extern.findNext fn = none) (he : Extern.find fn = some e)
    (hr : ∀ w, (e vs.toArray).run P w = .ok v w) : PS N P ops l (⟨some d, .call { callee := .value (.func f), args := xs.toArray, argTypes := ts }, ty, pos, af, none⟩) d true (v) :=
  PS.mk rfl rfl (fun w _ a hA => by
    have hae := hA.evals ha rfl
    have hx := run_callFunc_extern hf hname hb hn he vs.toArray w
    rw [hr w] at hx
    unfold execOp
    simp only [resolve, Deferred.ofValue, Act.eval, List.map_toArray, hae, Sem.run_bind, Sem.run_pure, Result.andThen_ok, invoke, List.append_toArray, List.nil_append, Array.append_empty]
    rw [hx]
    rfl)
/-! bits of small numbers -/
theorem wraps_u64 (n : Int) (h0 : 0 ≤ n) (h1 : n < 2 ^ 63) : IntKind.u64.wrap n = n := by
  simp only [IntKind.wrap, IntKind.bits, IntKind.signed]
  simp
  omega
theorem PS.orj {x y : Operand} {tx tz : TypeId} {a b : Int} (i : Nat) (hx : ev l x = some (cx, .int .u64 a)) (hy : ev l y = some (cy, .int .u64 b)) (hg : gd ops l ⟨some d, .binOp .or tx x y tz, ty, pos, af, g⟩ = some c) (hcx : c = true → cx = true) (hcy : c = true → cy = true)
    (h0 : 0 ≤ a) (h1 : a % 2 ^ i = 0) (h2 : a < 2 ^ 63) (h3 : 0 ≤ b) (h4 : b < 2 ^ i) (h5 : b < 2 ^ 63) : PS N P ops l ⟨some d, .binOp .or tx x y tz, ty, pos, af, g⟩ d c (.int .u64 (a + b)) :=
  PS.bin hx hy hg hcx hcy (fun w => by simp [eqGuard]) (fun w => by rw [binOp_or, intBits_or, bits_join .u64 63 (by decide) wraps_u64 i a b h0 h1 h2 h3 h4 h5]; rfl)
theorem PS.andm {x y : Operand} {tx tz : TypeId} {a b : Int} (i : Nat) (hx : ev l x = some (cx, .int .u64 a)) (hy : ev l y = some (cy, .int .u64 b)) (hg : gd ops l ⟨some d, .binOp .and tx x y tz, ty, pos, af, g⟩ = some c) (hcx : c = true → cx = true) (hcy : c = true → cy = true)
    (hi : i ≤ 63) (hb : b = 2 ^ i - 1) (h0 : 0 ≤ a) (h1 : a < 2 ^ 63) : PS N P ops l ⟨some d, .binOp .and tx x y tz, ty, pos, af, g⟩ d c (.int .u64 (a % 2 ^ i)) :=
  PS.bin hx hy hg hcx hcy (fun w => by simp [eqGuard]) (fun w => by rw [binOp_and, intBits_and, hb, bits_mask .u64 63 (by decide) wraps_u64 i hi a h0 h1]; rfl)
theorem PS.shl {x y : Operand} {tx tz : TypeId} {k k' : IntKind} {a b r : Int} (hx : ev l x = some (cx, .int k a)) (hy : ev l y = some (cy, .int k' b)) (hg : gd ops l ⟨some d, .binOp .shl tx x y tz, ty, pos, af, g⟩ = some c) (hcx : c = true → cx = true) (hcy : c = true → cy = true)
    (hb : 0 ≤ b) (hr : k.wrap (a * 2 ^ (min b.toNat k.bits)) = r) : PS N P ops l ⟨some d, .binOp .shl tx x y tz, ty, pos, af, g⟩ d c (.int k r) :=
  PS.bin hx hy hg hcx hcy (fun w => by simp [eqGuard]) (fun w => by simp only [binOp, Op.shift]; rw [if_neg (by omega), hr]; rfl)
theorem PS.shr {x y : Operand} {tx tz : TypeId} {k k' : IntKind} {a b r : Int} (hx : ev l x = some (cx, .int k a)) (hy : ev l y = some (cy, .int k' b)) (hg : gd ops l ⟨some d, .binOp .shr tx x y tz, ty, pos, af, g⟩ = some c) (hcx : c = true → cx = true) (hcy : c = true → cy = true)
    (hb : 0 ≤ b) (hr : a.fdiv (2 ^ (min b.toNat k.bits)) = r) : PS N P ops l ⟨some d, .binOp .shr tx x y tz, ty, pos, af, g⟩ d c (.int k r) :=
  PS.bin hx hy hg hcx hcy (fun w => by simp [eqGuard]) (fun w => by simp only [binOp, Op.shift]; rw [if_neg (by omega), hr]; rfl)
/-- a sum, a difference of numbers of any kind -/
theorem PS.addk {x y : Operand} {tx tz : TypeId} {k : IntKind} {a b r : Int} (hx : ev l x = some (cx, .int k a)) (hy : ev l y = some (cy, .int k b)) (hg : gd ops l ⟨some d, .binOp .add tx x y tz, ty, pos, af, g⟩ = some c) (hcx : c = true → cx = true) (hcy : c = true → cy = true)
    (hr : k.wrap (a + b) = r) : PS N P ops l ⟨some d, .binOp .add tx x y tz, ty, pos, af, g⟩ d c (.int k r) :=
  PS.bin hx hy hg hcx hcy (fun w => by simp [eqGuard]) (fun w => by simp [binOp, Op.intArith, hr])
theorem PS.subk {x y : Operand} {tx tz : TypeId} {k : IntKind} {a b r : Int} (hx : ev l x = some (cx, .int k a)) (hy : ev l y = some (cy, .int k b)) (hg : gd ops l ⟨some d, .binOp .sub tx x y tz, ty, pos, af, g⟩ = some c) (hcx : c = true → cx = true) (hcy : c = true → cy = true)
    (hr : k.wrap (a - b) = r) : PS N P ops l ⟨some d, .binOp .sub tx x y tz, ty, pos, af, g⟩ d c (.int k r) :=
  PS.bin hx hy hg hcx hcy (fun w => by simp [eqGuard]) (fun w => by simp [binOp, Op.intArith, hr])
def intOfT (P : Program) (t : TypeId) (k : IntKind) : Bool := match P.underlying t with | some (.int k') => decide (k' = k) | _ => false
theorem intOfT_of {t : TypeId} {k : IntKind} (h : intOfT P t k = true) : P.underlying t = some (.int k) := by
  unfold intOfT at h
  split at h
  · rename_i k' hu; rw [hu]; simp at h; rw [h]
  · cases h
/-- a whole number as one of another kind -/
theorem PS.cvi {x : Operand} {tx t : TypeId} {k k' ks : IntKind} {a r : Int} (hx : ev l x = some (cx, .int k a)) (hg : gd ops l ⟨some d, .convert tx t x, ty, pos, af, g⟩ = some c) (hcx : c = true → cx = true) (hs : intOfT P tx ks = true) (ht : intOfT P t k' = true)
    (hr : k'.wrap a = r) : PS N P ops l ⟨some d, .convert tx t x, ty, pos, af, g⟩ d c (.int k' r) :=
  PS.mk hg rfl (fun w hc A ha => by
    simp [execOp, ha.eval hx (hcx hc), convert, run_underlying (intOfT_of hs), run_underlying (intOfT_of ht), Conv.intToInt, hr])
end
end Go.Ag
