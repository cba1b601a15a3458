/- Words of this claim: the evaluator's operations that look at no memory, and that they answer as the machine's. -/
import Derived.Test.YtpafhjaidpmeeaaGreatDoorEv2
import Derived.Laws.Entries
import Derived.Laws.Sem
import Derived.Laws.StructEq
import Derived.Laws.Strings
import Derived.Laws.BitsAllLaws
import Derived.Laws.Runes
set_option linter.unusedVariables false
set_option linter.unusedSimpArgs false
namespace Go.Ev
open Go.RowKit

/-! ### Constants -/
def ofV1 : Value → Option AV
  | .bool b => some (.bool b)
  | .int k n => some (.int k n)
  | .string s => some (.str (s.data.toList.map UInt8.toNat))
  | .pointer none => some .ptrN
  | .slice none 0 0 => some .slN
  | .map none => some .mapN
  | .nilFunc => some .fnN
  | .nilIface => some .ifN
  | .func (.func f) ⟨[]⟩ ⟨[]⟩ => some (.fn f [])
  | _ => none
def ofVs : List Value → Option (List AV)
  | [] => some []
  | v :: vs => match ofV1 v, ofVs vs with
    | some a, some as => some (a :: as)
    | _, _ => none
def ofV : Value → Option AV
  | .agg cs => (ofVs cs.toList).map .agg
  | .tuple cs => (ofVs cs.toList).map .tup
  | v => ofV1 v
theorem ofNat_toNat : ∀ l : List UInt8, (l.map UInt8.toNat).map UInt8.ofNat = l
  | [] => rfl
  | x :: l => by simp [List.map_cons, ofNat_toNat l]
theorem ofV1_ok {E : Env} {v : Value} {a : AV} (h : ofV1 v = some a) : VR E a v := by
  unfold ofV1 at h
  split at h <;> first
    | (cases h; done)
    | (injection h with h; subst h; simp only [VR, VRs]; done)
    | (injection h with h; subst h; simp only [VR, VRs]; exact ⟨[], rfl, rfl⟩)
    | skip
  injection h with h; subst h
  simp only [VR]
  refine ⟨?_, fun x hx => ?_⟩
  · rename_i s
    simp only [mkS, ofNat_toNat]
  · obtain ⟨y, _, rfl⟩ := List.mem_map.1 hx
    exact y.toNat_lt
theorem ofVs_ok {E : Env} : ∀ {vs : List Value} {as : List AV}, ofVs vs = some as → VRs E as vs
  | [], as, h => by simp only [ofVs, Option.some.injEq] at h; subst h; simp [VRs]
  | v :: vs, as, h => by
    simp only [ofVs] at h
    split at h
    · rename_i a as' h1 h2
      injection h with h; subst h
      exact ⟨v, vs, rfl, ofV1_ok h1, ofVs_ok h2⟩
    · cases h
theorem ofV_ok {E : Env} {v : Value} {a : AV} (h : ofV v = some a) : VR E a v := by
  cases v with
  | agg cs =>
    simp only [ofV, Option.map_eq_some_iff] at h
    obtain ⟨as, h1, rfl⟩ := h
    exact ⟨cs.toList, by simp, ofVs_ok h1⟩
  | tuple cs =>
    simp only [ofV, Option.map_eq_some_iff] at h
    obtain ⟨as, h1, rfl⟩ := h
    exact ⟨cs.toList, by simp, ofVs_ok h1⟩
  | _ => exact ofV1_ok h

/-! ### Types -/
inductive KD where
  | bool
  | int (k : IntKind)
  | str
  | ptr (e : TypeId)
  | slice (e : TypeId)
  | array (n : Nat) (e : TypeId)
  | map (k e : TypeId)
  | struct (fs : List (TypeId × Nat × Bool))
  | func
  | iface
  | other
def kdOf : TypeDesc → KD
  | .bool => .bool
  | .int k => .int k
  | .string => .str
  | .pointer e => .ptr e
  | .slice e => .slice e
  | .array n e => .array n e
  | .map k e => .map k e
  | .struct fs => .struct (fs.toList.map fun f => (f.type, f.offset, f.name == "_"))
  | .func .. => .func
  | .interface _ => .iface
  | _ => .other
def aggD : TypeDesc → Bool
  | .struct _ => true
  | .array _ _ => true
  | _ => false
structure TD where
  kd : KD
  size : Nat
  bytes : Nat
  zero : Option AV
  agg : Bool
  seq : Bool
def tdOf (P : Program) (t : TypeId) : Option TD := match P.info? t, P.underlying t with
  | some i, some d => some ⟨kdOf d, i.size, i.bytes, match i.zero with | some z => ofV z | none => none, aggD d, !P.eqGuardType P.depth t && !P.stoodInHeld t⟩
  | _, _ => none
abbrev TT := Tr (Option TD)
def TT.at (T : TT) (t : TypeId) : Option TD := match T.get t with
  | some x => x
  | none => none
def TOK (P : Program) (T : TT) : Prop := ∀ t td, T.at t = some td → tdOf P t = some td
def TT.of (P : Program) : TT := Tr.ofL (P.types.size + 1) ((List.range P.types.size).map (tdOf P))
theorem TT.of_ok (P : Program) : TOK P (TT.of P) := fun t td h => by
  unfold TT.at at h
  split at h
  · rename_i x hx
    subst h
    have h1 := Tr.ofL_get _ _ _ _ hx
    rw [List.getElem?_map, Option.map_eq_some_iff] at h1
    obtain ⟨y, hy, h1⟩ := h1
    have : y = t := by
      have h2 := List.getElem?_eq_some_iff.1 hy
      obtain ⟨_, h2⟩ := h2
      simpa using h2.symm
    subst this
    exact h1
  · cases h

section
variable {P : Program} {T : TT} (hT : TOK P T)
include hT
theorem TOK.get {t : TypeId} {td : TD} (h : T.at t = some td) : ∃ i d, P.info? t = some i ∧ P.underlying t = some d ∧ td.kd = kdOf d ∧ td.size = i.size ∧ td.bytes = i.bytes ∧ td.agg = aggD d ∧ (∀ z, td.zero = some z → ∃ v, i.zero = some v ∧ ofV v = some z) := by
  have h1 := hT t td h
  unfold tdOf at h1
  split at h1
  · rename_i i d hi hd
    injection h1 with h1
    refine ⟨i, d, hi, hd, ?_, ?_, ?_, ?_, ?_⟩ <;> (subst h1; try rfl)
    intro z hz
    simp only at hz
    split at hz
    · rename_i v hv; exact ⟨v, hv, hz⟩
    · cases hz
  · cases h1
theorem TOK.seq {t : TypeId} {td : TD} (h : T.at t = some td) (hs : td.seq = true) : P.eqGuardType P.depth t = false ∧ P.stoodInHeld t = false := by
  have h1 := hT t td h
  unfold tdOf at h1
  split at h1
  · injection h1 with h1
    subst h1
    simpa using hs
  · cases h1
theorem TOK.size {t : TypeId} {td : TD} (h : T.at t = some td) (w : World) : (sizeOf t).run P w = .ok td.size w := by
  obtain ⟨i, d, hi, hd, h1, h2, h3, h4, h5⟩ := hT.get h
  simp [sizeOf, typeInfo, hi, h2]
theorem TOK.info {t : TypeId} {td : TD} (h : T.at t = some td) (w : World) : ∃ i, (typeInfo t).run P w = .ok i w ∧ i.bytes = td.bytes ∧ i.size = td.size := by
  obtain ⟨i, d, hi, hd, h1, h2, h3, h4, h5⟩ := hT.get h
  exact ⟨i, by simp [typeInfo, hi], h3.symm, h2.symm⟩
theorem TOK.agg {t : TypeId} {td : TD} (h : T.at t = some td) (w : World) : (isAgg t).run P w = .ok td.agg w := by
  obtain ⟨i, d, hi, hd, h1, h2, h3, h4, h5⟩ := hT.get h
  unfold isAgg
  simp only [Sem.run_bind, run_underlying hd, Result.andThen_ok, h4]
  cases d <;> rfl
theorem TOK.zero {t : TypeId} {td : TD} (h : T.at t = some td) {z : AV} (hz : td.zero = some z) (w : World) : ∃ v, (zeroValue t).run P w = .ok v w ∧ ∀ E, VR E z v := by
  obtain ⟨i, d, hi, hd, h1, h2, h3, h4, h5⟩ := hT.get h
  obtain ⟨v, hv, hv'⟩ := h5 z hz
  exact ⟨v, by simp [zeroValue, typeInfo, hi, hv], fun E => ofV_ok hv'⟩
theorem TOK.slice {t e : TypeId} {td : TD} (h : T.at t = some td) (hk : td.kd = .slice e) : P.underlying t = some (.slice e) := by
  obtain ⟨i, d, hi, hd, h1, _⟩ := hT.get h
  rw [h1] at hk
  cases d <;> simp [kdOf] at hk
  subst hk; exact hd
theorem TOK.ptr {t e : TypeId} {td : TD} (h : T.at t = some td) (hk : td.kd = .ptr e) : P.underlying t = some (.pointer e) := by
  obtain ⟨i, d, hi, hd, h1, _⟩ := hT.get h
  rw [h1] at hk
  cases d <;> simp [kdOf] at hk
  subst hk; exact hd
theorem TOK.map {t k e : TypeId} {td : TD} (h : T.at t = some td) (hk : td.kd = .map k e) : P.underlying t = some (.map k e) := by
  obtain ⟨i, d, hi, hd, h1, _⟩ := hT.get h
  rw [h1] at hk
  cases d <;> simp [kdOf] at hk
  obtain ⟨rfl, rfl⟩ := hk; exact hd
theorem TOK.array {t e : TypeId} {n : Nat} {td : TD} (h : T.at t = some td) (hk : td.kd = .array n e) : P.underlying t = some (.array n e) := by
  obtain ⟨i, d, hi, hd, h1, _⟩ := hT.get h
  rw [h1] at hk
  cases d <;> simp [kdOf] at hk
  obtain ⟨rfl, rfl⟩ := hk; exact hd
theorem TOK.str {t : TypeId} {td : TD} (h : T.at t = some td) (hk : td.kd = .str) : P.underlying t = some .string := by
  obtain ⟨i, d, hi, hd, h1, _⟩ := hT.get h
  rw [h1] at hk
  cases d <;> simp [kdOf] at hk
  exact hd
theorem TOK.bool {t : TypeId} {td : TD} (h : T.at t = some td) (hk : td.kd = .bool) : P.underlying t = some .bool := by
  obtain ⟨i, d, hi, hd, h1, _⟩ := hT.get h
  rw [h1] at hk
  cases d <;> simp [kdOf] at hk
  exact hd
theorem TOK.int {t : TypeId} {k : IntKind} {td : TD} (h : T.at t = some td) (hk : td.kd = .int k) : P.underlying t = some (.int k) := by
  obtain ⟨i, d, hi, hd, h1, _⟩ := hT.get h
  rw [h1] at hk
  cases d <;> simp [kdOf] at hk
  subst hk; exact hd
theorem TOK.func {t : TypeId} {td : TD} (h : T.at t = some td) (hk : td.kd = .func) : ∃ a b c, P.underlying t = some (.func a b c) := by
  obtain ⟨i, d, hi, hd, h1, _⟩ := hT.get h
  rw [h1] at hk
  cases d <;> simp [kdOf] at hk
  exact ⟨_, _, _, hd⟩
theorem TOK.iface {t : TypeId} {td : TD} (h : T.at t = some td) (hk : td.kd = .iface) : ∃ a, P.underlying t = some (.interface a) := by
  obtain ⟨i, d, hi, hd, h1, _⟩ := hT.get h
  rw [h1] at hk
  cases d <;> simp [kdOf] at hk
  exact ⟨_, hd⟩
theorem TOK.struct {t : TypeId} {fs : List (TypeId × Nat × Bool)} {td : TD} (h : T.at t = some td) (hk : td.kd = .struct fs) : ∃ fs', P.underlying t = some (.struct fs') ∧ fs'.toList.map (fun f => (f.type, f.offset, f.name == "_")) = fs := by
  obtain ⟨i, d, hi, hd, h1, _⟩ := hT.get h
  rw [h1] at hk
  cases d <;> simp [kdOf] at hk
  exact ⟨_, hd, hk⟩
end

/-! ### Numbers -/
def fits : IntKind → Int → Bool
  | .i64, .ofNat m => Nat.ble m 4611686018427387904
  | .i64, .negSucc m => Nat.ble m 4611686018427387904
  | .i32, .ofNat m => Nat.ble m 1073741824
  | .i32, .negSucc m => Nat.ble m 1073741824
  | .u8, .ofNat m => Nat.ble m 255
  | .u32, .ofNat m => Nat.ble m 4294967295
  | .u64, .ofNat m => Nat.ble m 18446744073709551615
  | _, _ => false
def wrapF (k : IntKind) (n : Int) : Int := match fits k n with
  | true => n
  | false => k.wrap n
theorem wrap_i32'' (n : Int) : IntKind.i32.wrap n = if n % 4294967296 ≥ 2147483648 then n % 4294967296 - 4294967296 else n % 4294967296 := by simp [IntKind.wrap, IntKind.bits, IntKind.signed]
theorem wrap_i64'' (n : Int) : IntKind.i64.wrap n = if n % 18446744073709551616 ≥ 9223372036854775808 then n % 18446744073709551616 - 18446744073709551616 else n % 18446744073709551616 := by simp [IntKind.wrap, IntKind.bits, IntKind.signed]
theorem wrapF_eq (k : IntKind) (n : Int) : wrapF k n = k.wrap n := by
  unfold wrapF
  split
  · rename_i h
    unfold fits at h
    split at h <;> first
      | (cases h; done)
      | (have h' := Nat.le_of_ble_eq_true h; first | rw [wrap_i64''] | rw [wrap_i32''] | rw [IntKind.wrap_u8'] | rw [IntKind.wrap_u32'] | rw [IntKind.wrap_u64]
         try simp only [Int.ofNat_eq_natCast]
         try omega)
  · rfl
def ltI : Int → Int → Bool
  | .ofNat a, .ofNat b => Nat.blt a b
  | .negSucc _, .ofNat _ => true
  | .ofNat _, .negSucc _ => false
  | .negSucc a, .negSucc b => Nat.blt b a
def eqI : Int → Int → Bool
  | .ofNat a, .ofNat b => Nat.beq a b
  | .negSucc a, .negSucc b => Nat.beq a b
  | _, _ => false
theorem blt_dec (a b : Nat) : Nat.blt a b = decide (a < b) := by rw [Bool.eq_iff_iff, Nat.blt_eq, decide_eq_true_eq]
theorem ltI_eq (a b : Int) : ltI a b = decide (a < b) := by
  cases a with
  | ofNat a => cases b with
    | ofNat b =>
      simp only [ltI, blt_dec, Int.ofNat_eq_natCast, decide_eq_decide]; omega
    | negSucc b => simp only [ltI]; exact (decide_eq_false (by simp only [Int.ofNat_eq_natCast]; omega)).symm
  | negSucc a => cases b with
    | ofNat b => simp only [ltI]; exact (decide_eq_true (by simp only [Int.ofNat_eq_natCast]; omega)).symm
    | negSucc b =>
      simp only [ltI, blt_dec, decide_eq_decide]; omega
theorem eqI_eq (a b : Int) : eqI a b = (a == b) := by
  cases h : (a == b) with
  | true =>
    have := eq_of_beq h
    subst this
    cases a <;> simp [eqI]
  | false =>
    have hne : a ≠ b := fun e => by subst e; simp at h
    cases a <;> cases b <;> simp only [eqI]
    · rename_i x y
      cases hb : Nat.beq x y with
      | false => rfl
      | true => exact absurd (by rw [Nat.eq_of_beq_eq_true hb]) hne
    · rename_i x y
      cases hb : Nat.beq x y with
      | false => rfl
      | true => exact absurd (by rw [Nat.eq_of_beq_eq_true hb]) hne
def kEq : IntKind → IntKind → Bool
  | .i8, .i8 => true | .i16, .i16 => true | .i32, .i32 => true | .i64, .i64 => true
  | .u8, .u8 => true | .u16, .u16 => true | .u32, .u32 => true | .u64, .u64 => true
  | _, _ => false
theorem kEq_eq {j k : IntKind} (h : kEq j k = true) : j = k := by cases j <;> cases k <;> first | rfl | cases h

def aInt (op : BinOp) (k : IntKind) (a b : Int) : Option AV := match op with
  | .add => some (.int k (wrapF k (a + b)))
  | .sub => some (.int k (wrapF k (a - b)))
  | .mul => some (.int k (wrapF k (a * b)))
  | .quo => match eqI b 0 with
    | true => none
    | false => some (.int k (wrapF k (a.tdiv b)))
  | .rem => match eqI b 0 with
    | true => none
    | false => some (.int k (a.tmod b))
  | .eql => some (.bool (eqI a b))
  | .neq => some (.bool (!eqI a b))
  | .lss => some (.bool (ltI a b))
  | .leq => some (.bool (!ltI b a))
  | .gtr => some (.bool (ltI b a))
  | .geq => some (.bool (!ltI a b))
  | .and => some (.int k (k.wrap (BitVec.ofInt k.bits a &&& BitVec.ofInt k.bits b).toNat))
  | .or => some (.int k (k.wrap (BitVec.ofInt k.bits a ||| BitVec.ofInt k.bits b).toNat))
  | .xor => some (.int k (k.wrap (BitVec.ofInt k.bits a ^^^ BitVec.ofInt k.bits b).toNat))
  | .andNot => some (.int k (k.wrap (BitVec.ofInt k.bits a &&& ~~~BitVec.ofInt k.bits b).toNat))
  | _ => none
def aShift (op : BinOp) (k : IntKind) (a b : Int) : Option AV := match ltI b 0 with
  | true => none
  | false => match op with
    | .shl => some (.int k (k.wrap (a * 2 ^ min b.toNat k.bits)))
    | .shr => some (.int k (a.fdiv (2 ^ min b.toNat k.bits)))
    | _ => none

/-! ### Texts -/
def eqL : List Nat → List Nat → Bool
  | [], [] => true
  | a :: x, b :: y => match Nat.beq a b with
    | true => eqL x y
    | false => false
  | _, _ => false
def ltL : List Nat → List Nat → Bool
  | _, [] => false
  | [], _ :: _ => true
  | a :: x, b :: y => match Nat.beq a b with
    | true => ltL x y
    | false => Nat.blt a b
theorem eqL_eq : ∀ {x y : List Nat}, eqL x y = true ↔ x = y
  | [], [] => by simp [eqL]
  | [], _ :: _ => by simp [eqL]
  | _ :: _, [] => by simp [eqL]
  | a :: x, b :: y => by
    simp only [eqL, List.cons.injEq]
    split
    · rename_i h; rw [Nat.beq_eq] at h; simp [h, eqL_eq]
    · rename_i h; have : a ≠ b := fun e => by subst e; simp at h
      simp [this]
theorem map_ofNat_inj : ∀ {x y : List Nat}, (∀ a ∈ x, a < 256) → (∀ a ∈ y, a < 256) → x.map UInt8.ofNat = y.map UInt8.ofNat → x = y
  | [], [], _, _, _ => rfl
  | [], _ :: _, _, _, h => by simp at h
  | _ :: _, [], _, _, h => by simp at h
  | a :: x, b :: y, hx, hy, h => by
    simp only [List.map_cons, List.cons.injEq] at h
    have h1 := hx a (by simp)
    have h2 := hy b (by simp)
    have h3 : a = b := by
      have := congrArg UInt8.toNat h.1
      simpa [UInt8.toNat_ofNat', Nat.mod_eq_of_lt h1, Nat.mod_eq_of_lt h2] using this
    rw [h3, map_ofNat_inj (fun a ha => hx a (by simp [ha])) (fun a ha => hy a (by simp [ha])) h.2]
theorem mkS_list (s : List Nat) : (mkS s).toList = s.map UInt8.ofNat := by
  unfold mkS
  rw [ByteArray.toList_mk]
theorem mkS_eq {x y : List Nat} (hx : ∀ a ∈ x, a < 256) (hy : ∀ a ∈ y, a < 256) : ((mkS x).toList == (mkS y).toList) = eqL x y := by
  rw [mkS_list, mkS_list, Bool.eq_iff_iff, beq_iff_eq, eqL_eq]
  exact ⟨map_ofNat_inj hx hy, fun h => by rw [h]⟩
theorem mkS_lt : ∀ {x y : List Nat}, (∀ a ∈ x, a < 256) → (∀ a ∈ y, a < 256) → Op.bytesLess (x.map UInt8.ofNat) (y.map UInt8.ofNat) = ltL x y
  | x, [], _, _ => by cases x <;> simp [ltL, Op.bytesLess]
  | [], b :: y, _, _ => by simp [ltL, Op.bytesLess]
  | a :: x, b :: y, hx, hy => by
    have h1 := hx a (by simp)
    have h2 := hy b (by simp)
    have ih := mkS_lt (x := x) (y := y) (fun a ha => hx a (by simp [ha])) (fun a ha => hy a (by simp [ha]))
    have hlt : (UInt8.ofNat a < UInt8.ofNat b) ↔ a < b := by
      rw [UInt8.lt_iff_toNat_lt]
      simp [UInt8.toNat_ofNat', Nat.mod_eq_of_lt h1, Nat.mod_eq_of_lt h2]
    have heq : (UInt8.ofNat a = UInt8.ofNat b) ↔ a = b := by
      rw [← UInt8.toNat_inj]
      simp [UInt8.toNat_ofNat', Nat.mod_eq_of_lt h1, Nat.mod_eq_of_lt h2]
    simp only [List.map_cons, Op.bytesLess, ltL, ih]
    split
    · rename_i h; rw [Nat.beq_eq] at h; subst h; simp
    · rename_i h
      have : a ≠ b := fun e => by subst e; simp at h
      have h3 : (UInt8.ofNat a == UInt8.ofNat b) = false := by simpa [heq] using this
      rw [h3]
      simp only [Bool.false_and, Bool.or_false]
      rw [blt_dec]
      simp only [hlt]
theorem mkS_append (x y : List Nat) : mkS x ++ mkS y = mkS (x ++ y) := by
  unfold mkS
  apply ByteArray.ext
  simp
theorem mkS_size (x : List Nat) : (mkS x).size = x.length := by simp [mkS, ByteArray.size]
def aStr (op : BinOp) (x y : List Nat) : Option AV := match op with
  | .add => match Nat.ble (x.length + y.length) 4294967296 with
    | true => some (.str (x ++ y))
    | false => none
  | .eql => some (.bool (eqL x y))
  | .neq => some (.bool (!eqL x y))
  | .lss => some (.bool (ltL x y))
  | .leq => some (.bool (ltL x y || eqL x y))
  | .gtr => some (.bool (!(ltL x y || eqL x y)))
  | .geq => some (.bool (!ltL x y))
  | _ => none
theorem aStr_ok {E : Env} {op : BinOp} {x y : List Nat} (hx : ∀ a ∈ x, a < 256) (hy : ∀ a ∈ y, a < 256) {r : AV} (h : aStr op x y = some r) (P : Program) (w : World) :
    ∃ v, (Op.stringOp op (mkS x) (mkS y)).run P w = .ok v w ∧ VR E r v := by
  have e1 := mkS_eq hx hy
  have e2 := mkS_lt hx hy
  have e3 := mkS_list x
  have e4 := mkS_list y
  unfold aStr at h
  unfold Op.stringOp
  simp only [e1, e3, e4, e2]
  rw [e3, e4] at e1
  simp only [e1]
  split at h
  · split at h
    · rename_i hb
      injection h with h; subst h
      have hb' := Nat.le_of_ble_eq_true hb
      rw [if_neg (by simp only [mkS_size, IntKind.max, IntKind.signed, IntKind.bits]; simp; omega)]
      refine ⟨_, rfl, ?_⟩
      rw [mkS_append]
      simp only [VR, true_and]
      intro a ha
      rcases List.mem_append.1 ha with h | h
      · exact hx a h
      · exact hy a h
    · cases h
  all_goals first
    | (cases h; done)
    | (injection h with h; subst h; exact ⟨_, rfl, rfl⟩)
theorem aInt_ok {E : Env} {op : BinOp} {k : IntKind} {a b : Int} {r : AV} (h : aInt op k a b = some r) (hs : op ≠ .shl ∧ op ≠ .shr) (P : Program) (w : World) :
    ∃ v, (match op with
    | .add | .sub | .mul => Op.intArith op k a b
    | .quo | .rem => Op.intDiv op k a b
    | .and | .or | .xor | .andNot => Op.intBits op k a b
    | _ => Op.intCmp op a b : Sem Value).run P w = .ok v w ∧ VR E r v := by
  cases op <;> simp only [aInt] at h <;> first
    | (cases h; done)
    | (injection h with h; subst h; refine ⟨_, rfl, ?_⟩; simp only [VR, wrapF_eq]; done)
    | (injection h with h; subst h; refine ⟨_, rfl, ?_⟩; simp only [VR, eqI_eq, ltI_eq]; done)
    | (injection h with h; subst h; refine ⟨_, rfl, ?_⟩; simp only [VR, eqI_eq, ltI_eq, bne, ← decide_not, Int.not_lt]; done)
    | skip
  all_goals
    split at h
    · cases h
    · rename_i hb
      injection h with h; subst h
      rw [eqI_eq] at hb
      have hb' : ¬ b = 0 := by simpa using hb
      simp only [Op.intDiv, if_neg hb']
      exact ⟨_, rfl, by simp only [VR, wrapF_eq]⟩
theorem aShift_ok {E : Env} {op : BinOp} {k yk : IntKind} {a b : Int} {r : AV} (h : aShift op k a b = some r) (P : Program) (w : World) :
    ∃ v, (Op.shift op k a yk b).run P w = .ok v w ∧ VR E r v := by
  unfold aShift at h
  split at h
  · cases h
  · rename_i hb
    rw [ltI_eq] at hb
    have hb' : ¬ b < 0 := by simpa using hb
    unfold Op.shift
    rw [if_neg hb']
    cases op <;> simp only [] at h <;> first
      | (cases h; done)
      | (injection h with h; subst h; exact ⟨_, rfl, by simp only [VR]⟩)
end Go.Ev
