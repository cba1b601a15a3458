/- For each type: its cells, its bytes, its zero value, its fields: printed by a program of mine out of the translation. -/
import Derived.Test.YtpafhjaidpmeeaaGreatDoorProg
import Derived.Test.YtpafhjaidpmeeaaGreatDoorMem
import Derived.KernelRfl
set_option linter.unusedVariables false
namespace Go.Ag
open Go.Proofs
instance tyi1 : TyI Tryz.prog 1 where
  i := ⟨false, 1, 8, [.nilFunc], none, []⟩
  hagg := Tryz.isAgg1
  hsize := Tryz.sizeOf1
  hzero := Tryz.zeroValue1
  hzlen := rfl
  helem := fun e h => by cases h
  hinfo := by kernel_rfl
  hone := fun _ => rfl
  hzc := by simp [Value.oneCell']
  hflds := fun h => absurd rfl h
instance tyi2 : TyI Tryz.prog 2 where
  i := ⟨false, 1, 8, [.int .i64 0], none, []⟩
  hagg := Tryz.isAgg2
  hsize := Tryz.sizeOf2
  hzero := Tryz.zeroValue2
  hzlen := rfl
  helem := fun e h => by cases h
  hinfo := by kernel_rfl
  hone := fun _ => rfl
  hzc := by simp [Value.oneCell']
  hflds := fun h => absurd rfl h
instance tyi3 : TyI Tryz.prog 3 where
  i := ⟨false, 1, 8, [.int .i64 0], none, []⟩
  hagg := Tryz.isAgg3
  hsize := Tryz.sizeOf3
  hzero := Tryz.zeroValue3
  hzlen := rfl
  helem := fun e h => by cases h
  hinfo := by kernel_rfl
  hone := fun _ => rfl
  hzc := by simp [Value.oneCell']
  hflds := fun h => absurd rfl h
instance tyi4 : TyI Tryz.prog 4 where
  i := ⟨false, 1, 1, [.bool false], none, []⟩
  hagg := Tryz.isAgg4
  hsize := Tryz.sizeOf4
  hzero := Tryz.zeroValue4
  hzlen := rfl
  helem := fun e h => by cases h
  hinfo := by kernel_rfl
  hone := fun _ => rfl
  hzc := by simp [Value.oneCell']
  hflds := fun h => absurd rfl h
instance tyi5 : TyI Tryz.prog 5 where
  i := ⟨false, 1, 1, [.int .u8 0], none, []⟩
  hagg := Tryz.isAgg5
  hsize := Tryz.sizeOf5
  hzero := Tryz.zeroValue5
  hzlen := rfl
  helem := fun e h => by cases h
  hinfo := by kernel_rfl
  hone := fun _ => rfl
  hzc := by simp [Value.oneCell']
  hflds := fun h => absurd rfl h
instance tyi6 : TyI Tryz.prog 6 where
  i := ⟨false, 1, 1, [.int .u8 0], none, []⟩
  hagg := Tryz.isAgg6
  hsize := Tryz.sizeOf6
  hzero := Tryz.zeroValue6
  hzlen := rfl
  helem := fun e h => by cases h
  hinfo := by kernel_rfl
  hone := fun _ => rfl
  hzc := by simp [Value.oneCell']
  hflds := fun h => absurd rfl h
instance tyi7 : TyI Tryz.prog 7 where
  i := ⟨true, 4, 24, [.int .i64 0, .int .i64 0, .bool false, .int .u8 0], none, [(2, 0, 1), (3, 1, 1), (4, 2, 1), (6, 3, 1)]⟩
  hagg := Tryz.isAgg7
  hsize := Tryz.sizeOf7
  hzero := Tryz.zeroValue7
  hzlen := rfl
  helem := fun e h => by cases h
  hinfo := by kernel_rfl
  hone := fun h => by cases h
  hzc := by simp [Value.oneCell']
  hflds := fun _ => ⟨_, Tryz.underlying7, rfl, by kernel_rfl, by decide⟩
instance tyi8 : TyI Tryz.prog 8 where
  i := ⟨true, 4, 24, [.int .i64 0, .int .i64 0, .bool false, .int .u8 0], none, [(2, 0, 1), (3, 1, 1), (4, 2, 1), (6, 3, 1)]⟩
  hagg := Tryz.isAgg8
  hsize := Tryz.sizeOf8
  hzero := Tryz.zeroValue8
  hzlen := rfl
  helem := fun e h => by cases h
  hinfo := by kernel_rfl
  hone := fun h => by cases h
  hzc := by simp [Value.oneCell']
  hflds := fun _ => ⟨_, Tryz.underlying8, rfl, by kernel_rfl, by decide⟩
instance tyi9 : TyI Tryz.prog 9 where
  i := ⟨false, 1, 16, [.string ⟨#[]⟩], none, []⟩
  hagg := Tryz.isAgg9
  hsize := Tryz.sizeOf9
  hzero := Tryz.zeroValue9
  hzlen := rfl
  helem := fun e h => by cases h
  hinfo := by kernel_rfl
  hone := fun _ => rfl
  hzc := by simp [Value.oneCell']
  hflds := fun h => absurd rfl h
instance tyi10 : TyI Tryz.prog 10 where
  i := ⟨false, 1, 16, [.string ⟨#[]⟩], none, []⟩
  hagg := Tryz.isAgg10
  hsize := Tryz.sizeOf10
  hzero := Tryz.zeroValue10
  hzlen := rfl
  helem := fun e h => by cases h
  hinfo := by kernel_rfl
  hone := fun _ => rfl
  hzc := by simp [Value.oneCell']
  hflds := fun h => absurd rfl h
instance tyi11 : TyI Tryz.prog 11 where
  i := ⟨false, 1, 16, [.string ⟨#[]⟩], none, []⟩
  hagg := Tryz.isAgg11
  hsize := Tryz.sizeOf11
  hzero := Tryz.zeroValue11
  hzlen := rfl
  helem := fun e h => by cases h
  hinfo := by kernel_rfl
  hone := fun _ => rfl
  hzc := by simp [Value.oneCell']
  hflds := fun h => absurd rfl h
instance tyi12 : TyI Tryz.prog 12 where
  i := ⟨false, 1, 8, [.int .u64 0], none, []⟩
  hagg := Tryz.isAgg12
  hsize := Tryz.sizeOf12
  hzero := Tryz.zeroValue12
  hzlen := rfl
  helem := fun e h => by cases h
  hinfo := by kernel_rfl
  hone := fun _ => rfl
  hzc := by simp [Value.oneCell']
  hflds := fun h => absurd rfl h
instance tyi13 : TyI Tryz.prog 13 where
  i := ⟨true, 2, 24, [.string ⟨#[]⟩, .int .u64 0], none, [(9, 0, 1), (12, 1, 1)]⟩
  hagg := Tryz.isAgg13
  hsize := Tryz.sizeOf13
  hzero := Tryz.zeroValue13
  hzlen := rfl
  helem := fun e h => by cases h
  hinfo := by kernel_rfl
  hone := fun h => by cases h
  hzc := by simp [Value.oneCell']
  hflds := fun _ => ⟨_, Tryz.underlying13, rfl, by kernel_rfl, by decide⟩
instance tyi14 : TyI Tryz.prog 14 where
  i := ⟨true, 2, 24, [.string ⟨#[]⟩, .int .u64 0], none, [(9, 0, 1), (12, 1, 1)]⟩
  hagg := Tryz.isAgg14
  hsize := Tryz.sizeOf14
  hzero := Tryz.zeroValue14
  hzlen := rfl
  helem := fun e h => by cases h
  hinfo := by kernel_rfl
  hone := fun h => by cases h
  hzc := by simp [Value.oneCell']
  hflds := fun _ => ⟨_, Tryz.underlying14, rfl, by kernel_rfl, by decide⟩
instance tyi15 : TyI Tryz.prog 15 where
  i := ⟨false, 1, 8, [.pointer none], none, []⟩
  hagg := Tryz.isAgg15
  hsize := Tryz.sizeOf15
  hzero := Tryz.zeroValue15
  hzlen := rfl
  helem := fun e h => by cases h
  hinfo := by kernel_rfl
  hone := fun _ => rfl
  hzc := by simp [Value.oneCell']
  hflds := fun h => absurd rfl h
instance tyi16 : TyI Tryz.prog 16 where
  i := ⟨false, 1, 8, [.pointer none], none, []⟩
  hagg := Tryz.isAgg16
  hsize := Tryz.sizeOf16
  hzero := Tryz.zeroValue16
  hzlen := rfl
  helem := fun e h => by cases h
  hinfo := by kernel_rfl
  hone := fun _ => rfl
  hzc := by simp [Value.oneCell']
  hflds := fun h => absurd rfl h
instance tyi17 : TyI Tryz.prog 17 where
  i := ⟨false, 1, 8, [.pointer none], none, []⟩
  hagg := Tryz.isAgg17
  hsize := Tryz.sizeOf17
  hzero := Tryz.zeroValue17
  hzlen := rfl
  helem := fun e h => by cases h
  hinfo := by kernel_rfl
  hone := fun _ => rfl
  hzc := by simp [Value.oneCell']
  hflds := fun h => absurd rfl h
instance tyi18 : TyI Tryz.prog 18 where
  i := ⟨true, 1, 8, [.pointer none], none, [(17, 0, 1)]⟩
  hagg := Tryz.isAgg18
  hsize := Tryz.sizeOf18
  hzero := Tryz.zeroValue18
  hzlen := rfl
  helem := fun e h => by cases h
  hinfo := by kernel_rfl
  hone := fun h => by cases h
  hzc := by simp [Value.oneCell']
  hflds := fun _ => ⟨_, Tryz.underlying18, rfl, by kernel_rfl, by decide⟩
instance tyi19 : TyI Tryz.prog 19 where
  i := ⟨true, 1, 8, [.pointer none], none, [(17, 0, 1)]⟩
  hagg := Tryz.isAgg19
  hsize := Tryz.sizeOf19
  hzero := Tryz.zeroValue19
  hzlen := rfl
  helem := fun e h => by cases h
  hinfo := by kernel_rfl
  hone := fun h => by cases h
  hzc := by simp [Value.oneCell']
  hflds := fun _ => ⟨_, Tryz.underlying19, rfl, by kernel_rfl, by decide⟩
instance tyi21 : TyI Tryz.prog 21 where
  i := ⟨false, 1, 4, [.int .i32 0], none, []⟩
  hagg := Tryz.isAgg21
  hsize := Tryz.sizeOf21
  hzero := Tryz.zeroValue21
  hzlen := rfl
  helem := fun e h => by cases h
  hinfo := by kernel_rfl
  hone := fun _ => rfl
  hzc := by simp [Value.oneCell']
  hflds := fun h => absurd rfl h
instance tyi22 : TyI Tryz.prog 22 where
  i := ⟨false, 1, 8, [.pointer none], none, []⟩
  hagg := Tryz.isAgg22
  hsize := Tryz.sizeOf22
  hzero := Tryz.zeroValue22
  hzlen := rfl
  helem := fun e h => by cases h
  hinfo := by kernel_rfl
  hone := fun _ => rfl
  hzc := by simp [Value.oneCell']
  hflds := fun h => absurd rfl h
instance tyi23 : TyI Tryz.prog 23 where
  i := ⟨false, 1, 8, [.int .i64 0], none, []⟩
  hagg := Tryz.isAgg23
  hsize := Tryz.sizeOf23
  hzero := Tryz.zeroValue23
  hzlen := rfl
  helem := fun e h => by cases h
  hinfo := by kernel_rfl
  hone := fun _ => rfl
  hzc := by simp [Value.oneCell']
  hflds := fun h => absurd rfl h
instance tyi25 : TyI Tryz.prog 25 where
  i := ⟨false, 1, 8, [.nilFunc], none, []⟩
  hagg := Tryz.isAgg25
  hsize := Tryz.sizeOf25
  hzero := Tryz.zeroValue25
  hzlen := rfl
  helem := fun e h => by cases h
  hinfo := by kernel_rfl
  hone := fun _ => rfl
  hzc := by simp [Value.oneCell']
  hflds := fun h => absurd rfl h
instance tyi26 : TyI Tryz.prog 26 where
  i := ⟨false, 1, 8, [.nilFunc], none, []⟩
  hagg := Tryz.isAgg26
  hsize := Tryz.sizeOf26
  hzero := Tryz.zeroValue26
  hzlen := rfl
  helem := fun e h => by cases h
  hinfo := by kernel_rfl
  hone := fun _ => rfl
  hzc := by simp [Value.oneCell']
  hflds := fun h => absurd rfl h
instance tyi27 : TyI Tryz.prog 27 where
  i := ⟨false, 1, 8, [.nilFunc], none, []⟩
  hagg := Tryz.isAgg27
  hsize := Tryz.sizeOf27
  hzero := Tryz.zeroValue27
  hzlen := rfl
  helem := fun e h => by cases h
  hinfo := by kernel_rfl
  hone := fun _ => rfl
  hzc := by simp [Value.oneCell']
  hflds := fun h => absurd rfl h
instance tyi28 : TyI Tryz.prog 28 where
  i := ⟨false, 1, 24, [.slice none 0 0], some 9, []⟩
  hagg := Tryz.isAgg28
  hsize := Tryz.sizeOf28
  hzero := Tryz.zeroValue28
  hzlen := rfl
  helem := fun e h => by cases h; exact Tryz.underlying28
  hinfo := by kernel_rfl
  hone := fun _ => rfl
  hzc := by simp [Value.oneCell']
  hflds := fun h => absurd rfl h
instance tyi29 : TyI Tryz.prog 29 where
  i := ⟨false, 1, 8, [.nilFunc], none, []⟩
  hagg := Tryz.isAgg29
  hsize := Tryz.sizeOf29
  hzero := Tryz.zeroValue29
  hzlen := rfl
  helem := fun e h => by cases h
  hinfo := by kernel_rfl
  hone := fun _ => rfl
  hzc := by simp [Value.oneCell']
  hflds := fun h => absurd rfl h
instance tyi30 : TyI Tryz.prog 30 where
  i := ⟨false, 1, 8, [.nilFunc], none, []⟩
  hagg := Tryz.isAgg30
  hsize := Tryz.sizeOf30
  hzero := Tryz.zeroValue30
  hzlen := rfl
  helem := fun e h => by cases h
  hinfo := by kernel_rfl
  hone := fun _ => rfl
  hzc := by simp [Value.oneCell']
  hflds := fun h => absurd rfl h
instance tyi32 : TyI Tryz.prog 32 where
  i := ⟨false, 1, 8, [.nilFunc], none, []⟩
  hagg := Tryz.isAgg32
  hsize := Tryz.sizeOf32
  hzero := Tryz.zeroValue32
  hzlen := rfl
  helem := fun e h => by cases h
  hinfo := by kernel_rfl
  hone := fun _ => rfl
  hzc := by simp [Value.oneCell']
  hflds := fun h => absurd rfl h
instance tyi33 : TyI Tryz.prog 33 where
  i := ⟨false, 1, 8, [.pointer none], none, []⟩
  hagg := Tryz.isAgg33
  hsize := Tryz.sizeOf33
  hzero := Tryz.zeroValue33
  hzlen := rfl
  helem := fun e h => by cases h
  hinfo := by kernel_rfl
  hone := fun _ => rfl
  hzc := by simp [Value.oneCell']
  hflds := fun h => absurd rfl h
instance tyi34 : TyI Tryz.prog 34 where
  i := ⟨false, 1, 8, [.nilFunc], none, []⟩
  hagg := Tryz.isAgg34
  hsize := Tryz.sizeOf34
  hzero := Tryz.zeroValue34
  hzlen := rfl
  helem := fun e h => by cases h
  hinfo := by kernel_rfl
  hone := fun _ => rfl
  hzc := by simp [Value.oneCell']
  hflds := fun h => absurd rfl h
instance tyi35 : TyI Tryz.prog 35 where
  i := ⟨false, 1, 24, [.slice none 0 0], some 48, []⟩
  hagg := Tryz.isAgg35
  hsize := Tryz.sizeOf35
  hzero := Tryz.zeroValue35
  hzlen := rfl
  helem := fun e h => by cases h; exact Tryz.underlying35
  hinfo := by kernel_rfl
  hone := fun _ => rfl
  hzc := by simp [Value.oneCell']
  hflds := fun h => absurd rfl h
instance tyi36 : TyI Tryz.prog 36 where
  i := ⟨false, 1, 24, [.slice none 0 0], some 81, []⟩
  hagg := Tryz.isAgg36
  hsize := Tryz.sizeOf36
  hzero := Tryz.zeroValue36
  hzlen := rfl
  helem := fun e h => by cases h; exact Tryz.underlying36
  hinfo := by kernel_rfl
  hone := fun _ => rfl
  hzc := by simp [Value.oneCell']
  hflds := fun h => absurd rfl h
instance tyi37 : TyI Tryz.prog 37 where
  i := ⟨false, 1, 24, [.slice none 0 0], some 4, []⟩
  hagg := Tryz.isAgg37
  hsize := Tryz.sizeOf37
  hzero := Tryz.zeroValue37
  hzlen := rfl
  helem := fun e h => by cases h; exact Tryz.underlying37
  hinfo := by kernel_rfl
  hone := fun _ => rfl
  hzc := by simp [Value.oneCell']
  hflds := fun h => absurd rfl h
instance tyi38 : TyI Tryz.prog 38 where
  i := ⟨false, 1, 24, [.slice none 0 0], some 39, []⟩
  hagg := Tryz.isAgg38
  hsize := Tryz.sizeOf38
  hzero := Tryz.zeroValue38
  hzlen := rfl
  helem := fun e h => by cases h; exact Tryz.underlying38
  hinfo := by kernel_rfl
  hone := fun _ => rfl
  hzc := by simp [Value.oneCell']
  hflds := fun h => absurd rfl h
instance tyi39 : TyI Tryz.prog 39 where
  i := ⟨false, 1, 24, [.slice none 0 0], some 65, []⟩
  hagg := Tryz.isAgg39
  hsize := Tryz.sizeOf39
  hzero := Tryz.zeroValue39
  hzlen := rfl
  helem := fun e h => by cases h; exact Tryz.underlying39
  hinfo := by kernel_rfl
  hone := fun _ => rfl
  hzc := by simp [Value.oneCell']
  hflds := fun h => absurd rfl h
instance tyi40 : TyI Tryz.prog 40 where
  i := ⟨true, 10, 200, [.pointer none, .string ⟨#[]⟩, .slice none 0 0, .slice none 0 0, .slice none 0 0, .slice none 0 0, .slice none 0 0, .slice none 0 0, .slice none 0 0, .bool false], none, [(33, 0, 1), (9, 1, 1), (35, 2, 1), (36, 3, 1), (37, 4, 1), (37, 5, 1), (38, 6, 1), (38, 7, 1), (39, 8, 1), (4, 9, 1)]⟩
  hagg := Tryz.isAgg40
  hsize := Tryz.sizeOf40
  hzero := Tryz.zeroValue40
  hzlen := rfl
  helem := fun e h => by cases h
  hinfo := by kernel_rfl
  hone := fun h => by cases h
  hzc := by simp [Value.oneCell']
  hflds := fun _ => ⟨_, Tryz.underlying40, rfl, by kernel_rfl, by decide⟩
instance tyi41 : TyI Tryz.prog 41 where
  i := ⟨true, 10, 200, [.pointer none, .string ⟨#[]⟩, .slice none 0 0, .slice none 0 0, .slice none 0 0, .slice none 0 0, .slice none 0 0, .slice none 0 0, .slice none 0 0, .bool false], none, [(33, 0, 1), (9, 1, 1), (35, 2, 1), (36, 3, 1), (37, 4, 1), (37, 5, 1), (38, 6, 1), (38, 7, 1), (39, 8, 1), (4, 9, 1)]⟩
  hagg := Tryz.isAgg41
  hsize := Tryz.sizeOf41
  hzero := Tryz.zeroValue41
  hzlen := rfl
  helem := fun e h => by cases h
  hinfo := by kernel_rfl
  hone := fun h => by cases h
  hzc := by simp [Value.oneCell']
  hflds := fun _ => ⟨_, Tryz.underlying41, rfl, by kernel_rfl, by decide⟩
instance tyi42 : TyI Tryz.prog 42 where
  i := ⟨false, 1, 8, [.nilFunc], none, []⟩
  hagg := Tryz.isAgg42
  hsize := Tryz.sizeOf42
  hzero := Tryz.zeroValue42
  hzlen := rfl
  helem := fun e h => by cases h
  hinfo := by kernel_rfl
  hone := fun _ => rfl
  hzc := by simp [Value.oneCell']
  hflds := fun h => absurd rfl h
instance tyi43 : TyI Tryz.prog 43 where
  i := ⟨false, 1, 24, [.slice none 0 0], some 45, []⟩
  hagg := Tryz.isAgg43
  hsize := Tryz.sizeOf43
  hzero := Tryz.zeroValue43
  hzlen := rfl
  helem := fun e h => by cases h; exact Tryz.underlying43
  hinfo := by kernel_rfl
  hone := fun _ => rfl
  hzc := by simp [Value.oneCell']
  hflds := fun h => absurd rfl h
instance tyi44 : TyI Tryz.prog 44 where
  i := ⟨true, 5, 80, [.int .i64 0, .int .i64 0, .string ⟨#[]⟩, .slice none 0 0, .slice none 0 0], none, [(3, 0, 1), (2, 1, 1), (9, 2, 1), (28, 3, 1), (43, 4, 1)]⟩
  hagg := Tryz.isAgg44
  hsize := Tryz.sizeOf44
  hzero := Tryz.zeroValue44
  hzlen := rfl
  helem := fun e h => by cases h
  hinfo := by kernel_rfl
  hone := fun h => by cases h
  hzc := by simp [Value.oneCell']
  hflds := fun _ => ⟨_, Tryz.underlying44, rfl, by kernel_rfl, by decide⟩
instance tyi45 : TyI Tryz.prog 45 where
  i := ⟨true, 5, 80, [.int .i64 0, .int .i64 0, .string ⟨#[]⟩, .slice none 0 0, .slice none 0 0], none, [(3, 0, 1), (2, 1, 1), (9, 2, 1), (28, 3, 1), (43, 4, 1)]⟩
  hagg := Tryz.isAgg45
  hsize := Tryz.sizeOf45
  hzero := Tryz.zeroValue45
  hzlen := rfl
  helem := fun e h => by cases h
  hinfo := by kernel_rfl
  hone := fun h => by cases h
  hzc := by simp [Value.oneCell']
  hflds := fun _ => ⟨_, Tryz.underlying45, rfl, by kernel_rfl, by decide⟩
instance tyi46 : TyI Tryz.prog 46 where
  i := ⟨false, 1, 24, [.slice none 0 0], some 284, []⟩
  hagg := Tryz.isAgg46
  hsize := Tryz.sizeOf46
  hzero := Tryz.zeroValue46
  hzlen := rfl
  helem := fun e h => by cases h; exact Tryz.underlying46
  hinfo := by kernel_rfl
  hone := fun _ => rfl
  hzc := by simp [Value.oneCell']
  hflds := fun h => absurd rfl h
instance tyi47 : TyI Tryz.prog 47 where
  i := ⟨true, 16, 256, [.string ⟨#[]⟩, .string ⟨#[]⟩, .string ⟨#[]⟩, .bool false, .string ⟨#[]⟩, .int .i64 0, .int .i64 0, .string ⟨#[]⟩, .slice none 0 0, .slice none 0 0, .slice none 0 0, .slice none 0 0, .int .i64 0, .int .i64 0, .string ⟨#[]⟩, .slice none 0 0], none, [(9, 0, 1), (9, 1, 1), (9, 2, 1), (4, 3, 1), (9, 4, 1), (45, 5, 5), (28, 10, 1), (28, 11, 1), (2, 12, 1), (2, 13, 1), (9, 14, 1), (46, 15, 1)]⟩
  hagg := Tryz.isAgg47
  hsize := Tryz.sizeOf47
  hzero := Tryz.zeroValue47
  hzlen := rfl
  helem := fun e h => by cases h
  hinfo := by kernel_rfl
  hone := fun h => by cases h
  hzc := by simp [Value.oneCell']
  hflds := fun _ => ⟨_, Tryz.underlying47, rfl, by kernel_rfl, by decide⟩
instance tyi48 : TyI Tryz.prog 48 where
  i := ⟨true, 16, 256, [.string ⟨#[]⟩, .string ⟨#[]⟩, .string ⟨#[]⟩, .bool false, .string ⟨#[]⟩, .int .i64 0, .int .i64 0, .string ⟨#[]⟩, .slice none 0 0, .slice none 0 0, .slice none 0 0, .slice none 0 0, .int .i64 0, .int .i64 0, .string ⟨#[]⟩, .slice none 0 0], none, [(9, 0, 1), (9, 1, 1), (9, 2, 1), (4, 3, 1), (9, 4, 1), (45, 5, 5), (28, 10, 1), (28, 11, 1), (2, 12, 1), (2, 13, 1), (9, 14, 1), (46, 15, 1)]⟩
  hagg := Tryz.isAgg48
  hsize := Tryz.sizeOf48
  hzero := Tryz.zeroValue48
  hzlen := rfl
  helem := fun e h => by cases h
  hinfo := by kernel_rfl
  hone := fun h => by cases h
  hzc := by simp [Value.oneCell']
  hflds := fun _ => ⟨_, Tryz.underlying48, rfl, by kernel_rfl, by decide⟩
instance tyi49 : TyI Tryz.prog 49 where
  i := ⟨true, 17, 272, [.string ⟨#[]⟩, .string ⟨#[]⟩, .string ⟨#[]⟩, .string ⟨#[]⟩, .bool false, .string ⟨#[]⟩, .int .i64 0, .int .i64 0, .string ⟨#[]⟩, .slice none 0 0, .slice none 0 0, .slice none 0 0, .slice none 0 0, .int .i64 0, .int .i64 0, .string ⟨#[]⟩, .slice none 0 0], none, [(9, 0, 1), (48, 1, 16)]⟩
  hagg := Tryz.isAgg49
  hsize := Tryz.sizeOf49
  hzero := Tryz.zeroValue49
  hzlen := rfl
  helem := fun e h => by cases h
  hinfo := by kernel_rfl
  hone := fun h => by cases h
  hzc := by simp [Value.oneCell']
  hflds := fun _ => ⟨_, Tryz.underlying49, rfl, by kernel_rfl, by decide⟩
instance tyi50 : TyI Tryz.prog 50 where
  i := ⟨true, 17, 272, [.string ⟨#[]⟩, .string ⟨#[]⟩, .string ⟨#[]⟩, .string ⟨#[]⟩, .bool false, .string ⟨#[]⟩, .int .i64 0, .int .i64 0, .string ⟨#[]⟩, .slice none 0 0, .slice none 0 0, .slice none 0 0, .slice none 0 0, .int .i64 0, .int .i64 0, .string ⟨#[]⟩, .slice none 0 0], none, [(9, 0, 1), (48, 1, 16)]⟩
  hagg := Tryz.isAgg50
  hsize := Tryz.sizeOf50
  hzero := Tryz.zeroValue50
  hzlen := rfl
  helem := fun e h => by cases h
  hinfo := by kernel_rfl
  hone := fun h => by cases h
  hzc := by simp [Value.oneCell']
  hflds := fun _ => ⟨_, Tryz.underlying50, rfl, by kernel_rfl, by decide⟩
instance tyi52 : TyI Tryz.prog 52 where
  i := ⟨false, 1, 8, [.nilFunc], none, []⟩
  hagg := Tryz.isAgg52
  hsize := Tryz.sizeOf52
  hzero := Tryz.zeroValue52
  hzlen := rfl
  helem := fun e h => by cases h
  hinfo := by kernel_rfl
  hone := fun _ => rfl
  hzc := by simp [Value.oneCell']
  hflds := fun h => absurd rfl h
instance tyi53 : TyI Tryz.prog 53 where
  i := ⟨false, 1, 8, [.nilFunc], none, []⟩
  hagg := Tryz.isAgg53
  hsize := Tryz.sizeOf53
  hzero := Tryz.zeroValue53
  hzlen := rfl
  helem := fun e h => by cases h
  hinfo := by kernel_rfl
  hone := fun _ => rfl
  hzc := by simp [Value.oneCell']
  hflds := fun h => absurd rfl h
instance tyi54 : TyI Tryz.prog 54 where
  i := ⟨false, 1, 8, [.nilFunc], none, []⟩
  hagg := Tryz.isAgg54
  hsize := Tryz.sizeOf54
  hzero := Tryz.zeroValue54
  hzlen := rfl
  helem := fun e h => by cases h
  hinfo := by kernel_rfl
  hone := fun _ => rfl
  hzc := by simp [Value.oneCell']
  hflds := fun h => absurd rfl h
instance tyi55 : TyI Tryz.prog 55 where
  i := ⟨false, 1, 8, [.nilFunc], none, []⟩
  hagg := Tryz.isAgg55
  hsize := Tryz.sizeOf55
  hzero := Tryz.zeroValue55
  hzlen := rfl
  helem := fun e h => by cases h
  hinfo := by kernel_rfl
  hone := fun _ => rfl
  hzc := by simp [Value.oneCell']
  hflds := fun h => absurd rfl h
instance tyi56 : TyI Tryz.prog 56 where
  i := ⟨false, 1, 8, [.nilFunc], none, []⟩
  hagg := Tryz.isAgg56
  hsize := Tryz.sizeOf56
  hzero := Tryz.zeroValue56
  hzlen := rfl
  helem := fun e h => by cases h
  hinfo := by kernel_rfl
  hone := fun _ => rfl
  hzc := by simp [Value.oneCell']
  hflds := fun h => absurd rfl h
instance tyi57 : TyI Tryz.prog 57 where
  i := ⟨false, 1, 8, [.nilFunc], none, []⟩
  hagg := Tryz.isAgg57
  hsize := Tryz.sizeOf57
  hzero := Tryz.zeroValue57
  hzlen := rfl
  helem := fun e h => by cases h
  hinfo := by kernel_rfl
  hone := fun _ => rfl
  hzc := by simp [Value.oneCell']
  hflds := fun h => absurd rfl h
instance tyi58 : TyI Tryz.prog 58 where
  i := ⟨false, 1, 8, [.nilFunc], none, []⟩
  hagg := Tryz.isAgg58
  hsize := Tryz.sizeOf58
  hzero := Tryz.zeroValue58
  hzlen := rfl
  helem := fun e h => by cases h
  hinfo := by kernel_rfl
  hone := fun _ => rfl
  hzc := by simp [Value.oneCell']
  hflds := fun h => absurd rfl h
instance tyi59 : TyI Tryz.prog 59 where
  i := ⟨false, 1, 8, [.map none], none, []⟩
  hagg := Tryz.isAgg59
  hsize := Tryz.sizeOf59
  hzero := Tryz.zeroValue59
  hzlen := rfl
  helem := fun e h => by cases h
  hinfo := by kernel_rfl
  hone := fun _ => rfl
  hzc := by simp [Value.oneCell']
  hflds := fun h => absurd rfl h
instance tyi60 : TyI Tryz.prog 60 where
  i := ⟨false, 1, 24, [.slice none 0 0], some 104, []⟩
  hagg := Tryz.isAgg60
  hsize := Tryz.sizeOf60
  hzero := Tryz.zeroValue60
  hzlen := rfl
  helem := fun e h => by cases h; exact Tryz.underlying60
  hinfo := by kernel_rfl
  hone := fun _ => rfl
  hzc := by simp [Value.oneCell']
  hflds := fun h => absurd rfl h
instance tyi61 : TyI Tryz.prog 61 where
  i := ⟨true, 2, 32, [.slice none 0 0, .map none], none, [(60, 0, 1), (59, 1, 1)]⟩
  hagg := Tryz.isAgg61
  hsize := Tryz.sizeOf61
  hzero := Tryz.zeroValue61
  hzlen := rfl
  helem := fun e h => by cases h
  hinfo := by kernel_rfl
  hone := fun h => by cases h
  hzc := by simp [Value.oneCell']
  hflds := fun _ => ⟨_, Tryz.underlying61, rfl, by kernel_rfl, by decide⟩
instance tyi62 : TyI Tryz.prog 62 where
  i := ⟨true, 2, 32, [.slice none 0 0, .map none], none, [(60, 0, 1), (59, 1, 1)]⟩
  hagg := Tryz.isAgg62
  hsize := Tryz.sizeOf62
  hzero := Tryz.zeroValue62
  hzlen := rfl
  helem := fun e h => by cases h
  hinfo := by kernel_rfl
  hone := fun h => by cases h
  hzc := by simp [Value.oneCell']
  hflds := fun _ => ⟨_, Tryz.underlying62, rfl, by kernel_rfl, by decide⟩
instance tyi63 : TyI Tryz.prog 63 where
  i := ⟨false, 1, 8, [.nilFunc], none, []⟩
  hagg := Tryz.isAgg63
  hsize := Tryz.sizeOf63
  hzero := Tryz.zeroValue63
  hzlen := rfl
  helem := fun e h => by cases h
  hinfo := by kernel_rfl
  hone := fun _ => rfl
  hzc := by simp [Value.oneCell']
  hflds := fun h => absurd rfl h
instance tyi64 : TyI Tryz.prog 64 where
  i := ⟨true, 3, 40, [.string ⟨#[]⟩, .string ⟨#[]⟩, .int .i64 0], none, [(9, 0, 1), (9, 1, 1), (3, 2, 1)]⟩
  hagg := Tryz.isAgg64
  hsize := Tryz.sizeOf64
  hzero := Tryz.zeroValue64
  hzlen := rfl
  helem := fun e h => by cases h
  hinfo := by kernel_rfl
  hone := fun h => by cases h
  hzc := by simp [Value.oneCell']
  hflds := fun _ => ⟨_, Tryz.underlying64, rfl, by kernel_rfl, by decide⟩
instance tyi65 : TyI Tryz.prog 65 where
  i := ⟨true, 3, 40, [.string ⟨#[]⟩, .string ⟨#[]⟩, .int .i64 0], none, [(9, 0, 1), (9, 1, 1), (3, 2, 1)]⟩
  hagg := Tryz.isAgg65
  hsize := Tryz.sizeOf65
  hzero := Tryz.zeroValue65
  hzlen := rfl
  helem := fun e h => by cases h
  hinfo := by kernel_rfl
  hone := fun h => by cases h
  hzc := by simp [Value.oneCell']
  hflds := fun _ => ⟨_, Tryz.underlying65, rfl, by kernel_rfl, by decide⟩
instance tyi66 : TyI Tryz.prog 66 where
  i := ⟨false, 1, 8, [.nilFunc], none, []⟩
  hagg := Tryz.isAgg66
  hsize := Tryz.sizeOf66
  hzero := Tryz.zeroValue66
  hzlen := rfl
  helem := fun e h => by cases h
  hinfo := by kernel_rfl
  hone := fun _ => rfl
  hzc := by simp [Value.oneCell']
  hflds := fun h => absurd rfl h
instance tyi67 : TyI Tryz.prog 67 where
  i := ⟨false, 1, 8, [.nilFunc], none, []⟩
  hagg := Tryz.isAgg67
  hsize := Tryz.sizeOf67
  hzero := Tryz.zeroValue67
  hzlen := rfl
  helem := fun e h => by cases h
  hinfo := by kernel_rfl
  hone := fun _ => rfl
  hzc := by simp [Value.oneCell']
  hflds := fun h => absurd rfl h
instance tyi68 : TyI Tryz.prog 68 where
  i := ⟨false, 1, 8, [.nilFunc], none, []⟩
  hagg := Tryz.isAgg68
  hsize := Tryz.sizeOf68
  hzero := Tryz.zeroValue68
  hzlen := rfl
  helem := fun e h => by cases h
  hinfo := by kernel_rfl
  hone := fun _ => rfl
  hzc := by simp [Value.oneCell']
  hflds := fun h => absurd rfl h
instance tyi70 : TyI Tryz.prog 70 where
  i := ⟨false, 1, 8, [.nilFunc], none, []⟩
  hagg := Tryz.isAgg70
  hsize := Tryz.sizeOf70
  hzero := Tryz.zeroValue70
  hzlen := rfl
  helem := fun e h => by cases h
  hinfo := by kernel_rfl
  hone := fun _ => rfl
  hzc := by simp [Value.oneCell']
  hflds := fun h => absurd rfl h
instance tyi71 : TyI Tryz.prog 71 where
  i := ⟨false, 1, 8, [.nilFunc], none, []⟩
  hagg := Tryz.isAgg71
  hsize := Tryz.sizeOf71
  hzero := Tryz.zeroValue71
  hzlen := rfl
  helem := fun e h => by cases h
  hinfo := by kernel_rfl
  hone := fun _ => rfl
  hzc := by simp [Value.oneCell']
  hflds := fun h => absurd rfl h
instance tyi72 : TyI Tryz.prog 72 where
  i := ⟨false, 1, 8, [.nilFunc], none, []⟩
  hagg := Tryz.isAgg72
  hsize := Tryz.sizeOf72
  hzero := Tryz.zeroValue72
  hzlen := rfl
  helem := fun e h => by cases h
  hinfo := by kernel_rfl
  hone := fun _ => rfl
  hzc := by simp [Value.oneCell']
  hflds := fun h => absurd rfl h
instance tyi73 : TyI Tryz.prog 73 where
  i := ⟨false, 1, 8, [.nilFunc], none, []⟩
  hagg := Tryz.isAgg73
  hsize := Tryz.sizeOf73
  hzero := Tryz.zeroValue73
  hzlen := rfl
  helem := fun e h => by cases h
  hinfo := by kernel_rfl
  hone := fun _ => rfl
  hzc := by simp [Value.oneCell']
  hflds := fun h => absurd rfl h
instance tyi74 : TyI Tryz.prog 74 where
  i := ⟨false, 1, 8, [.nilFunc], none, []⟩
  hagg := Tryz.isAgg74
  hsize := Tryz.sizeOf74
  hzero := Tryz.zeroValue74
  hzlen := rfl
  helem := fun e h => by cases h
  hinfo := by kernel_rfl
  hone := fun _ => rfl
  hzc := by simp [Value.oneCell']
  hflds := fun h => absurd rfl h
instance tyi75 : TyI Tryz.prog 75 where
  i := ⟨false, 1, 8, [.nilFunc], none, []⟩
  hagg := Tryz.isAgg75
  hsize := Tryz.sizeOf75
  hzero := Tryz.zeroValue75
  hzlen := rfl
  helem := fun e h => by cases h
  hinfo := by kernel_rfl
  hone := fun _ => rfl
  hzc := by simp [Value.oneCell']
  hflds := fun h => absurd rfl h
instance tyi76 : TyI Tryz.prog 76 where
  i := ⟨false, 1, 8, [.nilFunc], none, []⟩
  hagg := Tryz.isAgg76
  hsize := Tryz.sizeOf76
  hzero := Tryz.zeroValue76
  hzlen := rfl
  helem := fun e h => by cases h
  hinfo := by kernel_rfl
  hone := fun _ => rfl
  hzc := by simp [Value.oneCell']
  hflds := fun h => absurd rfl h
instance tyi77 : TyI Tryz.prog 77 where
  i := ⟨false, 1, 8, [.nilFunc], none, []⟩
  hagg := Tryz.isAgg77
  hsize := Tryz.sizeOf77
  hzero := Tryz.zeroValue77
  hzlen := rfl
  helem := fun e h => by cases h
  hinfo := by kernel_rfl
  hone := fun _ => rfl
  hzc := by simp [Value.oneCell']
  hflds := fun h => absurd rfl h
instance tyi79 : TyI Tryz.prog 79 where
  i := ⟨false, 1, 8, [.nilFunc], none, []⟩
  hagg := Tryz.isAgg79
  hsize := Tryz.sizeOf79
  hzero := Tryz.zeroValue79
  hzlen := rfl
  helem := fun e h => by cases h
  hinfo := by kernel_rfl
  hone := fun _ => rfl
  hzc := by simp [Value.oneCell']
  hflds := fun h => absurd rfl h
instance tyi80 : TyI Tryz.prog 80 where
  i := ⟨false, 1, 8, [.nilFunc], none, []⟩
  hagg := Tryz.isAgg80
  hsize := Tryz.sizeOf80
  hzero := Tryz.zeroValue80
  hzlen := rfl
  helem := fun e h => by cases h
  hinfo := by kernel_rfl
  hone := fun _ => rfl
  hzc := by simp [Value.oneCell']
  hflds := fun h => absurd rfl h
instance tyi81 : TyI Tryz.prog 81 where
  i := ⟨false, 1, 24, [.slice none 0 0], some 3, []⟩
  hagg := Tryz.isAgg81
  hsize := Tryz.sizeOf81
  hzero := Tryz.zeroValue81
  hzlen := rfl
  helem := fun e h => by cases h; exact Tryz.underlying81
  hinfo := by kernel_rfl
  hone := fun _ => rfl
  hzc := by simp [Value.oneCell']
  hflds := fun h => absurd rfl h
instance tyi82 : TyI Tryz.prog 82 where
  i := ⟨false, 1, 8, [.nilFunc], none, []⟩
  hagg := Tryz.isAgg82
  hsize := Tryz.sizeOf82
  hzero := Tryz.zeroValue82
  hzlen := rfl
  helem := fun e h => by cases h
  hinfo := by kernel_rfl
  hone := fun _ => rfl
  hzc := by simp [Value.oneCell']
  hflds := fun h => absurd rfl h
instance tyi83 : TyI Tryz.prog 83 where
  i := ⟨false, 1, 8, [.nilFunc], none, []⟩
  hagg := Tryz.isAgg83
  hsize := Tryz.sizeOf83
  hzero := Tryz.zeroValue83
  hzlen := rfl
  helem := fun e h => by cases h
  hinfo := by kernel_rfl
  hone := fun _ => rfl
  hzc := by simp [Value.oneCell']
  hflds := fun h => absurd rfl h
instance tyi84 : TyI Tryz.prog 84 where
  i := ⟨false, 1, 8, [.nilFunc], none, []⟩
  hagg := Tryz.isAgg84
  hsize := Tryz.sizeOf84
  hzero := Tryz.zeroValue84
  hzlen := rfl
  helem := fun e h => by cases h
  hinfo := by kernel_rfl
  hone := fun _ => rfl
  hzc := by simp [Value.oneCell']
  hflds := fun h => absurd rfl h
instance tyi85 : TyI Tryz.prog 85 where
  i := ⟨false, 1, 24, [.slice none 0 0], some 107, []⟩
  hagg := Tryz.isAgg85
  hsize := Tryz.sizeOf85
  hzero := Tryz.zeroValue85
  hzlen := rfl
  helem := fun e h => by cases h; exact Tryz.underlying85
  hinfo := by kernel_rfl
  hone := fun _ => rfl
  hzc := by simp [Value.oneCell']
  hflds := fun h => absurd rfl h
instance tyi86 : TyI Tryz.prog 86 where
  i := ⟨false, 1, 8, [.nilFunc], none, []⟩
  hagg := Tryz.isAgg86
  hsize := Tryz.sizeOf86
  hzero := Tryz.zeroValue86
  hzlen := rfl
  helem := fun e h => by cases h
  hinfo := by kernel_rfl
  hone := fun _ => rfl
  hzc := by simp [Value.oneCell']
  hflds := fun h => absurd rfl h
instance tyi87 : TyI Tryz.prog 87 where
  i := ⟨false, 1, 8, [.nilFunc], none, []⟩
  hagg := Tryz.isAgg87
  hsize := Tryz.sizeOf87
  hzero := Tryz.zeroValue87
  hzlen := rfl
  helem := fun e h => by cases h
  hinfo := by kernel_rfl
  hone := fun _ => rfl
  hzc := by simp [Value.oneCell']
  hflds := fun h => absurd rfl h
instance tyi88 : TyI Tryz.prog 88 where
  i := ⟨false, 1, 8, [.nilFunc], none, []⟩
  hagg := Tryz.isAgg88
  hsize := Tryz.sizeOf88
  hzero := Tryz.zeroValue88
  hzlen := rfl
  helem := fun e h => by cases h
  hinfo := by kernel_rfl
  hone := fun _ => rfl
  hzc := by simp [Value.oneCell']
  hflds := fun h => absurd rfl h
instance tyi89 : TyI Tryz.prog 89 where
  i := ⟨false, 1, 8, [.nilFunc], none, []⟩
  hagg := Tryz.isAgg89
  hsize := Tryz.sizeOf89
  hzero := Tryz.zeroValue89
  hzlen := rfl
  helem := fun e h => by cases h
  hinfo := by kernel_rfl
  hone := fun _ => rfl
  hzc := by simp [Value.oneCell']
  hflds := fun h => absurd rfl h
instance tyi90 : TyI Tryz.prog 90 where
  i := ⟨false, 1, 8, [.nilFunc], none, []⟩
  hagg := Tryz.isAgg90
  hsize := Tryz.sizeOf90
  hzero := Tryz.zeroValue90
  hzlen := rfl
  helem := fun e h => by cases h
  hinfo := by kernel_rfl
  hone := fun _ => rfl
  hzc := by simp [Value.oneCell']
  hflds := fun h => absurd rfl h
instance tyi91 : TyI Tryz.prog 91 where
  i := ⟨false, 1, 8, [.nilFunc], none, []⟩
  hagg := Tryz.isAgg91
  hsize := Tryz.sizeOf91
  hzero := Tryz.zeroValue91
  hzlen := rfl
  helem := fun e h => by cases h
  hinfo := by kernel_rfl
  hone := fun _ => rfl
  hzc := by simp [Value.oneCell']
  hflds := fun h => absurd rfl h
instance tyi92 : TyI Tryz.prog 92 where
  i := ⟨false, 1, 8, [.nilFunc], none, []⟩
  hagg := Tryz.isAgg92
  hsize := Tryz.sizeOf92
  hzero := Tryz.zeroValue92
  hzlen := rfl
  helem := fun e h => by cases h
  hinfo := by kernel_rfl
  hone := fun _ => rfl
  hzc := by simp [Value.oneCell']
  hflds := fun h => absurd rfl h
instance tyi93 : TyI Tryz.prog 93 where
  i := ⟨false, 1, 8, [.nilFunc], none, []⟩
  hagg := Tryz.isAgg93
  hsize := Tryz.sizeOf93
  hzero := Tryz.zeroValue93
  hzlen := rfl
  helem := fun e h => by cases h
  hinfo := by kernel_rfl
  hone := fun _ => rfl
  hzc := by simp [Value.oneCell']
  hflds := fun h => absurd rfl h
instance tyi94 : TyI Tryz.prog 94 where
  i := ⟨false, 1, 8, [.nilFunc], none, []⟩
  hagg := Tryz.isAgg94
  hsize := Tryz.sizeOf94
  hzero := Tryz.zeroValue94
  hzlen := rfl
  helem := fun e h => by cases h
  hinfo := by kernel_rfl
  hone := fun _ => rfl
  hzc := by simp [Value.oneCell']
  hflds := fun h => absurd rfl h
instance tyi95 : TyI Tryz.prog 95 where
  i := ⟨false, 1, 8, [.int .u64 0], none, []⟩
  hagg := Tryz.isAgg95
  hsize := Tryz.sizeOf95
  hzero := Tryz.zeroValue95
  hzlen := rfl
  helem := fun e h => by cases h
  hinfo := by kernel_rfl
  hone := fun _ => rfl
  hzc := by simp [Value.oneCell']
  hflds := fun h => absurd rfl h
instance tyi96 : TyI Tryz.prog 96 where
  i := ⟨false, 1, 8, [.nilFunc], none, []⟩
  hagg := Tryz.isAgg96
  hsize := Tryz.sizeOf96
  hzero := Tryz.zeroValue96
  hzlen := rfl
  helem := fun e h => by cases h
  hinfo := by kernel_rfl
  hone := fun _ => rfl
  hzc := by simp [Value.oneCell']
  hflds := fun h => absurd rfl h
instance tyi98 : TyI Tryz.prog 98 where
  i := ⟨false, 1, 8, [.nilFunc], none, []⟩
  hagg := Tryz.isAgg98
  hsize := Tryz.sizeOf98
  hzero := Tryz.zeroValue98
  hzlen := rfl
  helem := fun e h => by cases h
  hinfo := by kernel_rfl
  hone := fun _ => rfl
  hzc := by simp [Value.oneCell']
  hflds := fun h => absurd rfl h
instance tyi99 : TyI Tryz.prog 99 where
  i := ⟨true, 5, 120, [.slice none 0 0, .slice none 0 0, .slice none 0 0, .slice none 0 0, .slice none 0 0], none, [(28, 0, 1), (35, 1, 1), (36, 2, 1), (36, 3, 1), (37, 4, 1)]⟩
  hagg := Tryz.isAgg99
  hsize := Tryz.sizeOf99
  hzero := Tryz.zeroValue99
  hzlen := rfl
  helem := fun e h => by cases h
  hinfo := by kernel_rfl
  hone := fun h => by cases h
  hzc := by simp [Value.oneCell']
  hflds := fun _ => ⟨_, Tryz.underlying99, rfl, by kernel_rfl, by decide⟩
instance tyi100 : TyI Tryz.prog 100 where
  i := ⟨true, 5, 120, [.slice none 0 0, .slice none 0 0, .slice none 0 0, .slice none 0 0, .slice none 0 0], none, [(28, 0, 1), (35, 1, 1), (36, 2, 1), (36, 3, 1), (37, 4, 1)]⟩
  hagg := Tryz.isAgg100
  hsize := Tryz.sizeOf100
  hzero := Tryz.zeroValue100
  hzlen := rfl
  helem := fun e h => by cases h
  hinfo := by kernel_rfl
  hone := fun h => by cases h
  hzc := by simp [Value.oneCell']
  hflds := fun _ => ⟨_, Tryz.underlying100, rfl, by kernel_rfl, by decide⟩
instance tyi101 : TyI Tryz.prog 101 where
  i := ⟨false, 1, 8, [.nilFunc], none, []⟩
  hagg := Tryz.isAgg101
  hsize := Tryz.sizeOf101
  hzero := Tryz.zeroValue101
  hzlen := rfl
  helem := fun e h => by cases h
  hinfo := by kernel_rfl
  hone := fun _ => rfl
  hzc := by simp [Value.oneCell']
  hflds := fun h => absurd rfl h
instance tyi102 : TyI Tryz.prog 102 where
  i := ⟨false, 1, 8, [.nilFunc], none, []⟩
  hagg := Tryz.isAgg102
  hsize := Tryz.sizeOf102
  hzero := Tryz.zeroValue102
  hzlen := rfl
  helem := fun e h => by cases h
  hinfo := by kernel_rfl
  hone := fun _ => rfl
  hzc := by simp [Value.oneCell']
  hflds := fun h => absurd rfl h
instance tyi103 : TyI Tryz.prog 103 where
  i := ⟨true, 3, 64, [.string ⟨#[]⟩, .slice none 0 0, .slice none 0 0], none, [(9, 0, 1), (81, 1, 1), (81, 2, 1)]⟩
  hagg := Tryz.isAgg103
  hsize := Tryz.sizeOf103
  hzero := Tryz.zeroValue103
  hzlen := rfl
  helem := fun e h => by cases h
  hinfo := by kernel_rfl
  hone := fun h => by cases h
  hzc := by simp [Value.oneCell']
  hflds := fun _ => ⟨_, Tryz.underlying103, rfl, by kernel_rfl, by decide⟩
instance tyi104 : TyI Tryz.prog 104 where
  i := ⟨true, 3, 64, [.string ⟨#[]⟩, .slice none 0 0, .slice none 0 0], none, [(9, 0, 1), (81, 1, 1), (81, 2, 1)]⟩
  hagg := Tryz.isAgg104
  hsize := Tryz.sizeOf104
  hzero := Tryz.zeroValue104
  hzlen := rfl
  helem := fun e h => by cases h
  hinfo := by kernel_rfl
  hone := fun h => by cases h
  hzc := by simp [Value.oneCell']
  hflds := fun _ => ⟨_, Tryz.underlying104, rfl, by kernel_rfl, by decide⟩
instance tyi105 : TyI Tryz.prog 105 where
  i := ⟨false, 1, 8, [.nilFunc], none, []⟩
  hagg := Tryz.isAgg105
  hsize := Tryz.sizeOf105
  hzero := Tryz.zeroValue105
  hzlen := rfl
  helem := fun e h => by cases h
  hinfo := by kernel_rfl
  hone := fun _ => rfl
  hzc := by simp [Value.oneCell']
  hflds := fun h => absurd rfl h
instance tyi106 : TyI Tryz.prog 106 where
  i := ⟨true, 2, 8, [.int .i32 0, .bool false], none, [(21, 0, 1), (4, 1, 1)]⟩
  hagg := Tryz.isAgg106
  hsize := Tryz.sizeOf106
  hzero := Tryz.zeroValue106
  hzlen := rfl
  helem := fun e h => by cases h
  hinfo := by kernel_rfl
  hone := fun h => by cases h
  hzc := by simp [Value.oneCell']
  hflds := fun _ => ⟨_, Tryz.underlying106, rfl, by kernel_rfl, by decide⟩
instance tyi107 : TyI Tryz.prog 107 where
  i := ⟨true, 2, 8, [.int .i32 0, .bool false], none, [(21, 0, 1), (4, 1, 1)]⟩
  hagg := Tryz.isAgg107
  hsize := Tryz.sizeOf107
  hzero := Tryz.zeroValue107
  hzlen := rfl
  helem := fun e h => by cases h
  hinfo := by kernel_rfl
  hone := fun h => by cases h
  hzc := by simp [Value.oneCell']
  hflds := fun _ => ⟨_, Tryz.underlying107, rfl, by kernel_rfl, by decide⟩
instance tyi109 : TyI Tryz.prog 109 where
  i := ⟨false, 1, 8, [.nilFunc], none, []⟩
  hagg := Tryz.isAgg109
  hsize := Tryz.sizeOf109
  hzero := Tryz.zeroValue109
  hzlen := rfl
  helem := fun e h => by cases h
  hinfo := by kernel_rfl
  hone := fun _ => rfl
  hzc := by simp [Value.oneCell']
  hflds := fun h => absurd rfl h
instance tyi110 : TyI Tryz.prog 110 where
  i := ⟨false, 1, 8, [.nilFunc], none, []⟩
  hagg := Tryz.isAgg110
  hsize := Tryz.sizeOf110
  hzero := Tryz.zeroValue110
  hzlen := rfl
  helem := fun e h => by cases h
  hinfo := by kernel_rfl
  hone := fun _ => rfl
  hzc := by simp [Value.oneCell']
  hflds := fun h => absurd rfl h
instance tyi111 : TyI Tryz.prog 111 where
  i := ⟨false, 1, 8, [.nilFunc], none, []⟩
  hagg := Tryz.isAgg111
  hsize := Tryz.sizeOf111
  hzero := Tryz.zeroValue111
  hzlen := rfl
  helem := fun e h => by cases h
  hinfo := by kernel_rfl
  hone := fun _ => rfl
  hzc := by simp [Value.oneCell']
  hflds := fun h => absurd rfl h
instance tyi112 : TyI Tryz.prog 112 where
  i := ⟨false, 1, 8, [.nilFunc], none, []⟩
  hagg := Tryz.isAgg112
  hsize := Tryz.sizeOf112
  hzero := Tryz.zeroValue112
  hzlen := rfl
  helem := fun e h => by cases h
  hinfo := by kernel_rfl
  hone := fun _ => rfl
  hzc := by simp [Value.oneCell']
  hflds := fun h => absurd rfl h
instance tyi113 : TyI Tryz.prog 113 where
  i := ⟨false, 1, 8, [.int .i64 0], none, []⟩
  hagg := Tryz.isAgg113
  hsize := Tryz.sizeOf113
  hzero := Tryz.zeroValue113
  hzlen := rfl
  helem := fun e h => by cases h
  hinfo := by kernel_rfl
  hone := fun _ => rfl
  hzc := by simp [Value.oneCell']
  hflds := fun h => absurd rfl h
instance tyi115 : TyI Tryz.prog 115 where
  i := ⟨false, 1, 8, [.nilFunc], none, []⟩
  hagg := Tryz.isAgg115
  hsize := Tryz.sizeOf115
  hzero := Tryz.zeroValue115
  hzlen := rfl
  helem := fun e h => by cases h
  hinfo := by kernel_rfl
  hone := fun _ => rfl
  hzc := by simp [Value.oneCell']
  hflds := fun h => absurd rfl h
instance tyi116 : TyI Tryz.prog 116 where
  i := ⟨false, 1, 8, [.nilFunc], none, []⟩
  hagg := Tryz.isAgg116
  hsize := Tryz.sizeOf116
  hzero := Tryz.zeroValue116
  hzlen := rfl
  helem := fun e h => by cases h
  hinfo := by kernel_rfl
  hone := fun _ => rfl
  hzc := by simp [Value.oneCell']
  hflds := fun h => absurd rfl h
instance tyi117 : TyI Tryz.prog 117 where
  i := ⟨false, 1, 8, [.nilFunc], none, []⟩
  hagg := Tryz.isAgg117
  hsize := Tryz.sizeOf117
  hzero := Tryz.zeroValue117
  hzlen := rfl
  helem := fun e h => by cases h
  hinfo := by kernel_rfl
  hone := fun _ => rfl
  hzc := by simp [Value.oneCell']
  hflds := fun h => absurd rfl h
instance tyi119 : TyI Tryz.prog 119 where
  i := ⟨false, 1, 8, [.nilFunc], none, []⟩
  hagg := Tryz.isAgg119
  hsize := Tryz.sizeOf119
  hzero := Tryz.zeroValue119
  hzlen := rfl
  helem := fun e h => by cases h
  hinfo := by kernel_rfl
  hone := fun _ => rfl
  hzc := by simp [Value.oneCell']
  hflds := fun h => absurd rfl h
instance tyi120 : TyI Tryz.prog 120 where
  i := ⟨false, 1, 8, [.nilFunc], none, []⟩
  hagg := Tryz.isAgg120
  hsize := Tryz.sizeOf120
  hzero := Tryz.zeroValue120
  hzlen := rfl
  helem := fun e h => by cases h
  hinfo := by kernel_rfl
  hone := fun _ => rfl
  hzc := by simp [Value.oneCell']
  hflds := fun h => absurd rfl h
instance tyi121 : TyI Tryz.prog 121 where
  i := ⟨false, 1, 4, [.int .u32 0], none, []⟩
  hagg := Tryz.isAgg121
  hsize := Tryz.sizeOf121
  hzero := Tryz.zeroValue121
  hzlen := rfl
  helem := fun e h => by cases h
  hinfo := by kernel_rfl
  hone := fun _ => rfl
  hzc := by simp [Value.oneCell']
  hflds := fun h => absurd rfl h
instance tyi122 : TyI Tryz.prog 122 where
  i := ⟨false, 1, 8, [.nilFunc], none, []⟩
  hagg := Tryz.isAgg122
  hsize := Tryz.sizeOf122
  hzero := Tryz.zeroValue122
  hzlen := rfl
  helem := fun e h => by cases h
  hinfo := by kernel_rfl
  hone := fun _ => rfl
  hzc := by simp [Value.oneCell']
  hflds := fun h => absurd rfl h
instance tyi123 : TyI Tryz.prog 123 where
  i := ⟨false, 1, 8, [.int .u64 0], none, []⟩
  hagg := Tryz.isAgg123
  hsize := Tryz.sizeOf123
  hzero := Tryz.zeroValue123
  hzlen := rfl
  helem := fun e h => by cases h
  hinfo := by kernel_rfl
  hone := fun _ => rfl
  hzc := by simp [Value.oneCell']
  hflds := fun h => absurd rfl h
instance tyi124 : TyI Tryz.prog 124 where
  i := ⟨false, 1, 8, [.nilFunc], none, []⟩
  hagg := Tryz.isAgg124
  hsize := Tryz.sizeOf124
  hzero := Tryz.zeroValue124
  hzlen := rfl
  helem := fun e h => by cases h
  hinfo := by kernel_rfl
  hone := fun _ => rfl
  hzc := by simp [Value.oneCell']
  hflds := fun h => absurd rfl h
instance tyi125 : TyI Tryz.prog 125 where
  i := ⟨false, 1, 8, [.nilFunc], none, []⟩
  hagg := Tryz.isAgg125
  hsize := Tryz.sizeOf125
  hzero := Tryz.zeroValue125
  hzlen := rfl
  helem := fun e h => by cases h
  hinfo := by kernel_rfl
  hone := fun _ => rfl
  hzc := by simp [Value.oneCell']
  hflds := fun h => absurd rfl h
instance tyi126 : TyI Tryz.prog 126 where
  i := ⟨false, 1, 8, [.nilFunc], none, []⟩
  hagg := Tryz.isAgg126
  hsize := Tryz.sizeOf126
  hzero := Tryz.zeroValue126
  hzlen := rfl
  helem := fun e h => by cases h
  hinfo := by kernel_rfl
  hone := fun _ => rfl
  hzc := by simp [Value.oneCell']
  hflds := fun h => absurd rfl h
instance tyi127 : TyI Tryz.prog 127 where
  i := ⟨false, 1, 8, [.nilFunc], none, []⟩
  hagg := Tryz.isAgg127
  hsize := Tryz.sizeOf127
  hzero := Tryz.zeroValue127
  hzlen := rfl
  helem := fun e h => by cases h
  hinfo := by kernel_rfl
  hone := fun _ => rfl
  hzc := by simp [Value.oneCell']
  hflds := fun h => absurd rfl h
instance tyi128 : TyI Tryz.prog 128 where
  i := ⟨false, 1, 8, [.nilFunc], none, []⟩
  hagg := Tryz.isAgg128
  hsize := Tryz.sizeOf128
  hzero := Tryz.zeroValue128
  hzlen := rfl
  helem := fun e h => by cases h
  hinfo := by kernel_rfl
  hone := fun _ => rfl
  hzc := by simp [Value.oneCell']
  hflds := fun h => absurd rfl h
instance tyi129 : TyI Tryz.prog 129 where
  i := ⟨false, 1, 8, [.nilFunc], none, []⟩
  hagg := Tryz.isAgg129
  hsize := Tryz.sizeOf129
  hzero := Tryz.zeroValue129
  hzlen := rfl
  helem := fun e h => by cases h
  hinfo := by kernel_rfl
  hone := fun _ => rfl
  hzc := by simp [Value.oneCell']
  hflds := fun h => absurd rfl h
instance tyi130 : TyI Tryz.prog 130 where
  i := ⟨false, 1, 8, [.nilFunc], none, []⟩
  hagg := Tryz.isAgg130
  hsize := Tryz.sizeOf130
  hzero := Tryz.zeroValue130
  hzlen := rfl
  helem := fun e h => by cases h
  hinfo := by kernel_rfl
  hone := fun _ => rfl
  hzc := by simp [Value.oneCell']
  hflds := fun h => absurd rfl h
instance tyi131 : TyI Tryz.prog 131 where
  i := ⟨false, 1, 8, [.nilFunc], none, []⟩
  hagg := Tryz.isAgg131
  hsize := Tryz.sizeOf131
  hzero := Tryz.zeroValue131
  hzlen := rfl
  helem := fun e h => by cases h
  hinfo := by kernel_rfl
  hone := fun _ => rfl
  hzc := by simp [Value.oneCell']
  hflds := fun h => absurd rfl h
instance tyi132 : TyI Tryz.prog 132 where
  i := ⟨false, 1, 8, [.nilFunc], none, []⟩
  hagg := Tryz.isAgg132
  hsize := Tryz.sizeOf132
  hzero := Tryz.zeroValue132
  hzlen := rfl
  helem := fun e h => by cases h
  hinfo := by kernel_rfl
  hone := fun _ => rfl
  hzc := by simp [Value.oneCell']
  hflds := fun h => absurd rfl h
instance tyi133 : TyI Tryz.prog 133 where
  i := ⟨false, 1, 8, [.map none], none, []⟩
  hagg := Tryz.isAgg133
  hsize := Tryz.sizeOf133
  hzero := Tryz.zeroValue133
  hzlen := rfl
  helem := fun e h => by cases h
  hinfo := by kernel_rfl
  hone := fun _ => rfl
  hzc := by simp [Value.oneCell']
  hflds := fun h => absurd rfl h
instance tyi134 : TyI Tryz.prog 134 where
  i := ⟨false, 1, 8, [.map none], none, []⟩
  hagg := Tryz.isAgg134
  hsize := Tryz.sizeOf134
  hzero := Tryz.zeroValue134
  hzlen := rfl
  helem := fun e h => by cases h
  hinfo := by kernel_rfl
  hone := fun _ => rfl
  hzc := by simp [Value.oneCell']
  hflds := fun h => absurd rfl h
instance tyi135 : TyI Tryz.prog 135 where
  i := ⟨false, 1, 8, [.nilFunc], none, []⟩
  hagg := Tryz.isAgg135
  hsize := Tryz.sizeOf135
  hzero := Tryz.zeroValue135
  hzlen := rfl
  helem := fun e h => by cases h
  hinfo := by kernel_rfl
  hone := fun _ => rfl
  hzc := by simp [Value.oneCell']
  hflds := fun h => absurd rfl h
instance tyi136 : TyI Tryz.prog 136 where
  i := ⟨false, 1, 8, [.nilFunc], none, []⟩
  hagg := Tryz.isAgg136
  hsize := Tryz.sizeOf136
  hzero := Tryz.zeroValue136
  hzlen := rfl
  helem := fun e h => by cases h
  hinfo := by kernel_rfl
  hone := fun _ => rfl
  hzc := by simp [Value.oneCell']
  hflds := fun h => absurd rfl h
instance tyi137 : TyI Tryz.prog 137 where
  i := ⟨true, 2, 32, [.string ⟨#[]⟩, .string ⟨#[]⟩], none, [(9, 0, 1), (9, 1, 1)]⟩
  hagg := Tryz.isAgg137
  hsize := Tryz.sizeOf137
  hzero := Tryz.zeroValue137
  hzlen := rfl
  helem := fun e h => by cases h
  hinfo := by kernel_rfl
  hone := fun h => by cases h
  hzc := by simp [Value.oneCell']
  hflds := fun _ => ⟨_, Tryz.underlying137, rfl, by kernel_rfl, by decide⟩
instance tyi138 : TyI Tryz.prog 138 where
  i := ⟨true, 2, 32, [.string ⟨#[]⟩, .string ⟨#[]⟩], none, [(9, 0, 1), (9, 1, 1)]⟩
  hagg := Tryz.isAgg138
  hsize := Tryz.sizeOf138
  hzero := Tryz.zeroValue138
  hzlen := rfl
  helem := fun e h => by cases h
  hinfo := by kernel_rfl
  hone := fun h => by cases h
  hzc := by simp [Value.oneCell']
  hflds := fun _ => ⟨_, Tryz.underlying138, rfl, by kernel_rfl, by decide⟩
instance tyi139 : TyI Tryz.prog 139 where
  i := ⟨false, 1, 8, [.nilFunc], none, []⟩
  hagg := Tryz.isAgg139
  hsize := Tryz.sizeOf139
  hzero := Tryz.zeroValue139
  hzlen := rfl
  helem := fun e h => by cases h
  hinfo := by kernel_rfl
  hone := fun _ => rfl
  hzc := by simp [Value.oneCell']
  hflds := fun h => absurd rfl h
instance tyi140 : TyI Tryz.prog 140 where
  i := ⟨false, 1, 8, [.nilFunc], none, []⟩
  hagg := Tryz.isAgg140
  hsize := Tryz.sizeOf140
  hzero := Tryz.zeroValue140
  hzlen := rfl
  helem := fun e h => by cases h
  hinfo := by kernel_rfl
  hone := fun _ => rfl
  hzc := by simp [Value.oneCell']
  hflds := fun h => absurd rfl h
instance tyi141 : TyI Tryz.prog 141 where
  i := ⟨false, 1, 8, [.nilFunc], none, []⟩
  hagg := Tryz.isAgg141
  hsize := Tryz.sizeOf141
  hzero := Tryz.zeroValue141
  hzlen := rfl
  helem := fun e h => by cases h
  hinfo := by kernel_rfl
  hone := fun _ => rfl
  hzc := by simp [Value.oneCell']
  hflds := fun h => absurd rfl h
instance tyi142 : TyI Tryz.prog 142 where
  i := ⟨false, 1, 8, [.nilFunc], none, []⟩
  hagg := Tryz.isAgg142
  hsize := Tryz.sizeOf142
  hzero := Tryz.zeroValue142
  hzlen := rfl
  helem := fun e h => by cases h
  hinfo := by kernel_rfl
  hone := fun _ => rfl
  hzc := by simp [Value.oneCell']
  hflds := fun h => absurd rfl h
instance tyi143 : TyI Tryz.prog 143 where
  i := ⟨false, 1, 8, [.nilFunc], none, []⟩
  hagg := Tryz.isAgg143
  hsize := Tryz.sizeOf143
  hzero := Tryz.zeroValue143
  hzlen := rfl
  helem := fun e h => by cases h
  hinfo := by kernel_rfl
  hone := fun _ => rfl
  hzc := by simp [Value.oneCell']
  hflds := fun h => absurd rfl h
instance tyi144 : TyI Tryz.prog 144 where
  i := ⟨false, 1, 8, [.nilFunc], none, []⟩
  hagg := Tryz.isAgg144
  hsize := Tryz.sizeOf144
  hzero := Tryz.zeroValue144
  hzlen := rfl
  helem := fun e h => by cases h
  hinfo := by kernel_rfl
  hone := fun _ => rfl
  hzc := by simp [Value.oneCell']
  hflds := fun h => absurd rfl h
instance tyi145 : TyI Tryz.prog 145 where
  i := ⟨false, 1, 8, [.int .u64 0], none, []⟩
  hagg := Tryz.isAgg145
  hsize := Tryz.sizeOf145
  hzero := Tryz.zeroValue145
  hzlen := rfl
  helem := fun e h => by cases h
  hinfo := by kernel_rfl
  hone := fun _ => rfl
  hzc := by simp [Value.oneCell']
  hflds := fun h => absurd rfl h
instance tyi146 : TyI Tryz.prog 146 where
  i := ⟨false, 1, 8, [.nilFunc], none, []⟩
  hagg := Tryz.isAgg146
  hsize := Tryz.sizeOf146
  hzero := Tryz.zeroValue146
  hzlen := rfl
  helem := fun e h => by cases h
  hinfo := by kernel_rfl
  hone := fun _ => rfl
  hzc := by simp [Value.oneCell']
  hflds := fun h => absurd rfl h
instance tyi147 : TyI Tryz.prog 147 where
  i := ⟨false, 1, 8, [.nilFunc], none, []⟩
  hagg := Tryz.isAgg147
  hsize := Tryz.sizeOf147
  hzero := Tryz.zeroValue147
  hzlen := rfl
  helem := fun e h => by cases h
  hinfo := by kernel_rfl
  hone := fun _ => rfl
  hzc := by simp [Value.oneCell']
  hflds := fun h => absurd rfl h
instance tyi148 : TyI Tryz.prog 148 where
  i := ⟨false, 1, 8, [.nilFunc], none, []⟩
  hagg := Tryz.isAgg148
  hsize := Tryz.sizeOf148
  hzero := Tryz.zeroValue148
  hzlen := rfl
  helem := fun e h => by cases h
  hinfo := by kernel_rfl
  hone := fun _ => rfl
  hzc := by simp [Value.oneCell']
  hflds := fun h => absurd rfl h
instance tyi149 : TyI Tryz.prog 149 where
  i := ⟨false, 1, 8, [.pointer none], none, []⟩
  hagg := Tryz.isAgg149
  hsize := Tryz.sizeOf149
  hzero := Tryz.zeroValue149
  hzlen := rfl
  helem := fun e h => by cases h
  hinfo := by kernel_rfl
  hone := fun _ => rfl
  hzc := by simp [Value.oneCell']
  hflds := fun h => absurd rfl h
instance tyi150 : TyI Tryz.prog 150 where
  i := ⟨false, 1, 8, [.nilFunc], none, []⟩
  hagg := Tryz.isAgg150
  hsize := Tryz.sizeOf150
  hzero := Tryz.zeroValue150
  hzlen := rfl
  helem := fun e h => by cases h
  hinfo := by kernel_rfl
  hone := fun _ => rfl
  hzc := by simp [Value.oneCell']
  hflds := fun h => absurd rfl h
instance tyi151 : TyI Tryz.prog 151 where
  i := ⟨false, 1, 8, [.nilFunc], none, []⟩
  hagg := Tryz.isAgg151
  hsize := Tryz.sizeOf151
  hzero := Tryz.zeroValue151
  hzlen := rfl
  helem := fun e h => by cases h
  hinfo := by kernel_rfl
  hone := fun _ => rfl
  hzc := by simp [Value.oneCell']
  hflds := fun h => absurd rfl h
instance tyi152 : TyI Tryz.prog 152 where
  i := ⟨false, 1, 8, [.nilFunc], none, []⟩
  hagg := Tryz.isAgg152
  hsize := Tryz.sizeOf152
  hzero := Tryz.zeroValue152
  hzlen := rfl
  helem := fun e h => by cases h
  hinfo := by kernel_rfl
  hone := fun _ => rfl
  hzc := by simp [Value.oneCell']
  hflds := fun h => absurd rfl h
instance tyi153 : TyI Tryz.prog 153 where
  i := ⟨false, 1, 8, [.nilFunc], none, []⟩
  hagg := Tryz.isAgg153
  hsize := Tryz.sizeOf153
  hzero := Tryz.zeroValue153
  hzlen := rfl
  helem := fun e h => by cases h
  hinfo := by kernel_rfl
  hone := fun _ => rfl
  hzc := by simp [Value.oneCell']
  hflds := fun h => absurd rfl h
instance tyi154 : TyI Tryz.prog 154 where
  i := ⟨false, 1, 8, [.nilFunc], none, []⟩
  hagg := Tryz.isAgg154
  hsize := Tryz.sizeOf154
  hzero := Tryz.zeroValue154
  hzlen := rfl
  helem := fun e h => by cases h
  hinfo := by kernel_rfl
  hone := fun _ => rfl
  hzc := by simp [Value.oneCell']
  hflds := fun h => absurd rfl h
instance tyi155 : TyI Tryz.prog 155 where
  i := ⟨false, 1, 8, [.nilFunc], none, []⟩
  hagg := Tryz.isAgg155
  hsize := Tryz.sizeOf155
  hzero := Tryz.zeroValue155
  hzlen := rfl
  helem := fun e h => by cases h
  hinfo := by kernel_rfl
  hone := fun _ => rfl
  hzc := by simp [Value.oneCell']
  hflds := fun h => absurd rfl h
instance tyi156 : TyI Tryz.prog 156 where
  i := ⟨false, 1, 8, [.nilFunc], none, []⟩
  hagg := Tryz.isAgg156
  hsize := Tryz.sizeOf156
  hzero := Tryz.zeroValue156
  hzlen := rfl
  helem := fun e h => by cases h
  hinfo := by kernel_rfl
  hone := fun _ => rfl
  hzc := by simp [Value.oneCell']
  hflds := fun h => absurd rfl h
instance tyi157 : TyI Tryz.prog 157 where
  i := ⟨false, 1, 8, [.nilFunc], none, []⟩
  hagg := Tryz.isAgg157
  hsize := Tryz.sizeOf157
  hzero := Tryz.zeroValue157
  hzlen := rfl
  helem := fun e h => by cases h
  hinfo := by kernel_rfl
  hone := fun _ => rfl
  hzc := by simp [Value.oneCell']
  hflds := fun h => absurd rfl h
instance tyi158 : TyI Tryz.prog 158 where
  i := ⟨false, 1, 8, [.nilFunc], none, []⟩
  hagg := Tryz.isAgg158
  hsize := Tryz.sizeOf158
  hzero := Tryz.zeroValue158
  hzlen := rfl
  helem := fun e h => by cases h
  hinfo := by kernel_rfl
  hone := fun _ => rfl
  hzc := by simp [Value.oneCell']
  hflds := fun h => absurd rfl h
instance tyi159 : TyI Tryz.prog 159 where
  i := ⟨false, 1, 8, [.nilFunc], none, []⟩
  hagg := Tryz.isAgg159
  hsize := Tryz.sizeOf159
  hzero := Tryz.zeroValue159
  hzlen := rfl
  helem := fun e h => by cases h
  hinfo := by kernel_rfl
  hone := fun _ => rfl
  hzc := by simp [Value.oneCell']
  hflds := fun h => absurd rfl h
instance tyi160 : TyI Tryz.prog 160 where
  i := ⟨false, 1, 8, [.nilFunc], none, []⟩
  hagg := Tryz.isAgg160
  hsize := Tryz.sizeOf160
  hzero := Tryz.zeroValue160
  hzlen := rfl
  helem := fun e h => by cases h
  hinfo := by kernel_rfl
  hone := fun _ => rfl
  hzc := by simp [Value.oneCell']
  hflds := fun h => absurd rfl h
instance tyi161 : TyI Tryz.prog 161 where
  i := ⟨false, 1, 8, [.map none], none, []⟩
  hagg := Tryz.isAgg161
  hsize := Tryz.sizeOf161
  hzero := Tryz.zeroValue161
  hzlen := rfl
  helem := fun e h => by cases h
  hinfo := by kernel_rfl
  hone := fun _ => rfl
  hzc := by simp [Value.oneCell']
  hflds := fun h => absurd rfl h
instance tyi162 : TyI Tryz.prog 162 where
  i := ⟨false, 1, 8, [.nilFunc], none, []⟩
  hagg := Tryz.isAgg162
  hsize := Tryz.sizeOf162
  hzero := Tryz.zeroValue162
  hzlen := rfl
  helem := fun e h => by cases h
  hinfo := by kernel_rfl
  hone := fun _ => rfl
  hzc := by simp [Value.oneCell']
  hflds := fun h => absurd rfl h
instance tyi163 : TyI Tryz.prog 163 where
  i := ⟨false, 1, 8, [.nilFunc], none, []⟩
  hagg := Tryz.isAgg163
  hsize := Tryz.sizeOf163
  hzero := Tryz.zeroValue163
  hzlen := rfl
  helem := fun e h => by cases h
  hinfo := by kernel_rfl
  hone := fun _ => rfl
  hzc := by simp [Value.oneCell']
  hflds := fun h => absurd rfl h
instance tyi164 : TyI Tryz.prog 164 where
  i := ⟨false, 1, 8, [.nilFunc], none, []⟩
  hagg := Tryz.isAgg164
  hsize := Tryz.sizeOf164
  hzero := Tryz.zeroValue164
  hzlen := rfl
  helem := fun e h => by cases h
  hinfo := by kernel_rfl
  hone := fun _ => rfl
  hzc := by simp [Value.oneCell']
  hflds := fun h => absurd rfl h
instance tyi165 : TyI Tryz.prog 165 where
  i := ⟨false, 1, 8, [.nilFunc], none, []⟩
  hagg := Tryz.isAgg165
  hsize := Tryz.sizeOf165
  hzero := Tryz.zeroValue165
  hzlen := rfl
  helem := fun e h => by cases h
  hinfo := by kernel_rfl
  hone := fun _ => rfl
  hzc := by simp [Value.oneCell']
  hflds := fun h => absurd rfl h
instance tyi166 : TyI Tryz.prog 166 where
  i := ⟨false, 1, 8, [.nilFunc], none, []⟩
  hagg := Tryz.isAgg166
  hsize := Tryz.sizeOf166
  hzero := Tryz.zeroValue166
  hzlen := rfl
  helem := fun e h => by cases h
  hinfo := by kernel_rfl
  hone := fun _ => rfl
  hzc := by simp [Value.oneCell']
  hflds := fun h => absurd rfl h
instance tyi167 : TyI Tryz.prog 167 where
  i := ⟨false, 1, 8, [.nilFunc], none, []⟩
  hagg := Tryz.isAgg167
  hsize := Tryz.sizeOf167
  hzero := Tryz.zeroValue167
  hzlen := rfl
  helem := fun e h => by cases h
  hinfo := by kernel_rfl
  hone := fun _ => rfl
  hzc := by simp [Value.oneCell']
  hflds := fun h => absurd rfl h
instance tyi168 : TyI Tryz.prog 168 where
  i := ⟨false, 1, 24, [.slice none 0 0], some 50, []⟩
  hagg := Tryz.isAgg168
  hsize := Tryz.sizeOf168
  hzero := Tryz.zeroValue168
  hzlen := rfl
  helem := fun e h => by cases h; exact Tryz.underlying168
  hinfo := by kernel_rfl
  hone := fun _ => rfl
  hzc := by simp [Value.oneCell']
  hflds := fun h => absurd rfl h
instance tyi169 : TyI Tryz.prog 169 where
  i := ⟨false, 1, 8, [.nilFunc], none, []⟩
  hagg := Tryz.isAgg169
  hsize := Tryz.sizeOf169
  hzero := Tryz.zeroValue169
  hzlen := rfl
  helem := fun e h => by cases h
  hinfo := by kernel_rfl
  hone := fun _ => rfl
  hzc := by simp [Value.oneCell']
  hflds := fun h => absurd rfl h
instance tyi170 : TyI Tryz.prog 170 where
  i := ⟨false, 1, 8, [.map none], none, []⟩
  hagg := Tryz.isAgg170
  hsize := Tryz.sizeOf170
  hzero := Tryz.zeroValue170
  hzlen := rfl
  helem := fun e h => by cases h
  hinfo := by kernel_rfl
  hone := fun _ => rfl
  hzc := by simp [Value.oneCell']
  hflds := fun h => absurd rfl h
instance tyi171 : TyI Tryz.prog 171 where
  i := ⟨false, 1, 8, [.nilFunc], none, []⟩
  hagg := Tryz.isAgg171
  hsize := Tryz.sizeOf171
  hzero := Tryz.zeroValue171
  hzlen := rfl
  helem := fun e h => by cases h
  hinfo := by kernel_rfl
  hone := fun _ => rfl
  hzc := by simp [Value.oneCell']
  hflds := fun h => absurd rfl h
instance tyi172 : TyI Tryz.prog 172 where
  i := ⟨false, 1, 8, [.nilFunc], none, []⟩
  hagg := Tryz.isAgg172
  hsize := Tryz.sizeOf172
  hzero := Tryz.zeroValue172
  hzlen := rfl
  helem := fun e h => by cases h
  hinfo := by kernel_rfl
  hone := fun _ => rfl
  hzc := by simp [Value.oneCell']
  hflds := fun h => absurd rfl h
instance tyi173 : TyI Tryz.prog 173 where
  i := ⟨false, 1, 8, [.nilFunc], none, []⟩
  hagg := Tryz.isAgg173
  hsize := Tryz.sizeOf173
  hzero := Tryz.zeroValue173
  hzlen := rfl
  helem := fun e h => by cases h
  hinfo := by kernel_rfl
  hone := fun _ => rfl
  hzc := by simp [Value.oneCell']
  hflds := fun h => absurd rfl h
instance tyi174 : TyI Tryz.prog 174 where
  i := ⟨false, 1, 8, [.nilFunc], none, []⟩
  hagg := Tryz.isAgg174
  hsize := Tryz.sizeOf174
  hzero := Tryz.zeroValue174
  hzlen := rfl
  helem := fun e h => by cases h
  hinfo := by kernel_rfl
  hone := fun _ => rfl
  hzc := by simp [Value.oneCell']
  hflds := fun h => absurd rfl h
instance tyi175 : TyI Tryz.prog 175 where
  i := ⟨false, 1, 8, [.nilFunc], none, []⟩
  hagg := Tryz.isAgg175
  hsize := Tryz.sizeOf175
  hzero := Tryz.zeroValue175
  hzlen := rfl
  helem := fun e h => by cases h
  hinfo := by kernel_rfl
  hone := fun _ => rfl
  hzc := by simp [Value.oneCell']
  hflds := fun h => absurd rfl h
instance tyi176 : TyI Tryz.prog 176 where
  i := ⟨false, 1, 8, [.nilFunc], none, []⟩
  hagg := Tryz.isAgg176
  hsize := Tryz.sizeOf176
  hzero := Tryz.zeroValue176
  hzlen := rfl
  helem := fun e h => by cases h
  hinfo := by kernel_rfl
  hone := fun _ => rfl
  hzc := by simp [Value.oneCell']
  hflds := fun h => absurd rfl h
instance tyi177 : TyI Tryz.prog 177 where
  i := ⟨false, 1, 8, [.nilFunc], none, []⟩
  hagg := Tryz.isAgg177
  hsize := Tryz.sizeOf177
  hzero := Tryz.zeroValue177
  hzlen := rfl
  helem := fun e h => by cases h
  hinfo := by kernel_rfl
  hone := fun _ => rfl
  hzc := by simp [Value.oneCell']
  hflds := fun h => absurd rfl h
instance tyi178 : TyI Tryz.prog 178 where
  i := ⟨false, 1, 8, [.nilFunc], none, []⟩
  hagg := Tryz.isAgg178
  hsize := Tryz.sizeOf178
  hzero := Tryz.zeroValue178
  hzlen := rfl
  helem := fun e h => by cases h
  hinfo := by kernel_rfl
  hone := fun _ => rfl
  hzc := by simp [Value.oneCell']
  hflds := fun h => absurd rfl h
instance tyi179 : TyI Tryz.prog 179 where
  i := ⟨false, 1, 8, [.nilFunc], none, []⟩
  hagg := Tryz.isAgg179
  hsize := Tryz.sizeOf179
  hzero := Tryz.zeroValue179
  hzlen := rfl
  helem := fun e h => by cases h
  hinfo := by kernel_rfl
  hone := fun _ => rfl
  hzc := by simp [Value.oneCell']
  hflds := fun h => absurd rfl h
instance tyi180 : TyI Tryz.prog 180 where
  i := ⟨false, 1, 24, [.slice none 0 0], some 2, []⟩
  hagg := Tryz.isAgg180
  hsize := Tryz.sizeOf180
  hzero := Tryz.zeroValue180
  hzlen := rfl
  helem := fun e h => by cases h; exact Tryz.underlying180
  hinfo := by kernel_rfl
  hone := fun _ => rfl
  hzc := by simp [Value.oneCell']
  hflds := fun h => absurd rfl h
instance tyi181 : TyI Tryz.prog 181 where
  i := ⟨false, 1, 8, [.nilFunc], none, []⟩
  hagg := Tryz.isAgg181
  hsize := Tryz.sizeOf181
  hzero := Tryz.zeroValue181
  hzlen := rfl
  helem := fun e h => by cases h
  hinfo := by kernel_rfl
  hone := fun _ => rfl
  hzc := by simp [Value.oneCell']
  hflds := fun h => absurd rfl h
instance tyi183 : TyI Tryz.prog 183 where
  i := ⟨false, 1, 8, [.nilFunc], none, []⟩
  hagg := Tryz.isAgg183
  hsize := Tryz.sizeOf183
  hzero := Tryz.zeroValue183
  hzlen := rfl
  helem := fun e h => by cases h
  hinfo := by kernel_rfl
  hone := fun _ => rfl
  hzc := by simp [Value.oneCell']
  hflds := fun h => absurd rfl h
instance tyi184 : TyI Tryz.prog 184 where
  i := ⟨false, 1, 8, [.nilFunc], none, []⟩
  hagg := Tryz.isAgg184
  hsize := Tryz.sizeOf184
  hzero := Tryz.zeroValue184
  hzlen := rfl
  helem := fun e h => by cases h
  hinfo := by kernel_rfl
  hone := fun _ => rfl
  hzc := by simp [Value.oneCell']
  hflds := fun h => absurd rfl h
instance tyi185 : TyI Tryz.prog 185 where
  i := ⟨false, 1, 8, [.map none], none, []⟩
  hagg := Tryz.isAgg185
  hsize := Tryz.sizeOf185
  hzero := Tryz.zeroValue185
  hzlen := rfl
  helem := fun e h => by cases h
  hinfo := by kernel_rfl
  hone := fun _ => rfl
  hzc := by simp [Value.oneCell']
  hflds := fun h => absurd rfl h
instance tyi186 : TyI Tryz.prog 186 where
  i := ⟨false, 1, 8, [.nilFunc], none, []⟩
  hagg := Tryz.isAgg186
  hsize := Tryz.sizeOf186
  hzero := Tryz.zeroValue186
  hzlen := rfl
  helem := fun e h => by cases h
  hinfo := by kernel_rfl
  hone := fun _ => rfl
  hzc := by simp [Value.oneCell']
  hflds := fun h => absurd rfl h
instance tyi187 : TyI Tryz.prog 187 where
  i := ⟨false, 1, 8, [.nilFunc], none, []⟩
  hagg := Tryz.isAgg187
  hsize := Tryz.sizeOf187
  hzero := Tryz.zeroValue187
  hzlen := rfl
  helem := fun e h => by cases h
  hinfo := by kernel_rfl
  hone := fun _ => rfl
  hzc := by simp [Value.oneCell']
  hflds := fun h => absurd rfl h
instance tyi188 : TyI Tryz.prog 188 where
  i := ⟨false, 1, 8, [.nilFunc], none, []⟩
  hagg := Tryz.isAgg188
  hsize := Tryz.sizeOf188
  hzero := Tryz.zeroValue188
  hzlen := rfl
  helem := fun e h => by cases h
  hinfo := by kernel_rfl
  hone := fun _ => rfl
  hzc := by simp [Value.oneCell']
  hflds := fun h => absurd rfl h
instance tyi189 : TyI Tryz.prog 189 where
  i := ⟨false, 1, 8, [.nilFunc], none, []⟩
  hagg := Tryz.isAgg189
  hsize := Tryz.sizeOf189
  hzero := Tryz.zeroValue189
  hzlen := rfl
  helem := fun e h => by cases h
  hinfo := by kernel_rfl
  hone := fun _ => rfl
  hzc := by simp [Value.oneCell']
  hflds := fun h => absurd rfl h
instance tyi191 : TyI Tryz.prog 191 where
  i := ⟨true, 2, 2, [.int .u8 0, .int .u8 0], none, [(5, 0, 1), (5, 1, 1)]⟩
  hagg := Tryz.isAgg191
  hsize := Tryz.sizeOf191
  hzero := Tryz.zeroValue191
  hzlen := rfl
  helem := fun e h => by cases h
  hinfo := by kernel_rfl
  hone := fun h => by cases h
  hzc := by simp [Value.oneCell']
  hflds := fun _ => ⟨_, Tryz.underlying191, rfl, by kernel_rfl, by decide⟩
instance tyi192 : TyI Tryz.prog 192 where
  i := ⟨true, 2, 2, [.int .u8 0, .int .u8 0], none, [(5, 0, 1), (5, 1, 1)]⟩
  hagg := Tryz.isAgg192
  hsize := Tryz.sizeOf192
  hzero := Tryz.zeroValue192
  hzlen := rfl
  helem := fun e h => by cases h
  hinfo := by kernel_rfl
  hone := fun h => by cases h
  hzc := by simp [Value.oneCell']
  hflds := fun _ => ⟨_, Tryz.underlying192, rfl, by kernel_rfl, by decide⟩
instance tyi194 : TyI Tryz.prog 194 where
  i := ⟨false, 1, 8, [.nilFunc], none, []⟩
  hagg := Tryz.isAgg194
  hsize := Tryz.sizeOf194
  hzero := Tryz.zeroValue194
  hzlen := rfl
  helem := fun e h => by cases h
  hinfo := by kernel_rfl
  hone := fun _ => rfl
  hzc := by simp [Value.oneCell']
  hflds := fun h => absurd rfl h
instance tyi195 : TyI Tryz.prog 195 where
  i := ⟨false, 1, 8, [.pointer none], none, []⟩
  hagg := Tryz.isAgg195
  hsize := Tryz.sizeOf195
  hzero := Tryz.zeroValue195
  hzlen := rfl
  helem := fun e h => by cases h
  hinfo := by kernel_rfl
  hone := fun _ => rfl
  hzc := by simp [Value.oneCell']
  hflds := fun h => absurd rfl h
instance tyi197 : TyI Tryz.prog 197 where
  i := ⟨false, 1, 8, [.nilFunc], none, []⟩
  hagg := Tryz.isAgg197
  hsize := Tryz.sizeOf197
  hzero := Tryz.zeroValue197
  hzlen := rfl
  helem := fun e h => by cases h
  hinfo := by kernel_rfl
  hone := fun _ => rfl
  hzc := by simp [Value.oneCell']
  hflds := fun h => absurd rfl h
instance tyi199 : TyI Tryz.prog 199 where
  i := ⟨false, 1, 8, [.nilFunc], none, []⟩
  hagg := Tryz.isAgg199
  hsize := Tryz.sizeOf199
  hzero := Tryz.zeroValue199
  hzlen := rfl
  helem := fun e h => by cases h
  hinfo := by kernel_rfl
  hone := fun _ => rfl
  hzc := by simp [Value.oneCell']
  hflds := fun h => absurd rfl h
instance tyi200 : TyI Tryz.prog 200 where
  i := ⟨false, 1, 8, [.nilFunc], none, []⟩
  hagg := Tryz.isAgg200
  hsize := Tryz.sizeOf200
  hzero := Tryz.zeroValue200
  hzlen := rfl
  helem := fun e h => by cases h
  hinfo := by kernel_rfl
  hone := fun _ => rfl
  hzc := by simp [Value.oneCell']
  hflds := fun h => absurd rfl h
instance tyi201 : TyI Tryz.prog 201 where
  i := ⟨false, 1, 8, [.nilFunc], none, []⟩
  hagg := Tryz.isAgg201
  hsize := Tryz.sizeOf201
  hzero := Tryz.zeroValue201
  hzlen := rfl
  helem := fun e h => by cases h
  hinfo := by kernel_rfl
  hone := fun _ => rfl
  hzc := by simp [Value.oneCell']
  hflds := fun h => absurd rfl h
instance tyi202 : TyI Tryz.prog 202 where
  i := ⟨false, 1, 8, [.nilFunc], none, []⟩
  hagg := Tryz.isAgg202
  hsize := Tryz.sizeOf202
  hzero := Tryz.zeroValue202
  hzlen := rfl
  helem := fun e h => by cases h
  hinfo := by kernel_rfl
  hone := fun _ => rfl
  hzc := by simp [Value.oneCell']
  hflds := fun h => absurd rfl h
instance tyi203 : TyI Tryz.prog 203 where
  i := ⟨false, 1, 8, [.nilFunc], none, []⟩
  hagg := Tryz.isAgg203
  hsize := Tryz.sizeOf203
  hzero := Tryz.zeroValue203
  hzlen := rfl
  helem := fun e h => by cases h
  hinfo := by kernel_rfl
  hone := fun _ => rfl
  hzc := by simp [Value.oneCell']
  hflds := fun h => absurd rfl h
instance tyi204 : TyI Tryz.prog 204 where
  i := ⟨false, 1, 8, [.nilFunc], none, []⟩
  hagg := Tryz.isAgg204
  hsize := Tryz.sizeOf204
  hzero := Tryz.zeroValue204
  hzlen := rfl
  helem := fun e h => by cases h
  hinfo := by kernel_rfl
  hone := fun _ => rfl
  hzc := by simp [Value.oneCell']
  hflds := fun h => absurd rfl h
instance tyi205 : TyI Tryz.prog 205 where
  i := ⟨false, 1, 1, [.bool false], none, []⟩
  hagg := Tryz.isAgg205
  hsize := Tryz.sizeOf205
  hzero := Tryz.zeroValue205
  hzlen := rfl
  helem := fun e h => by cases h
  hinfo := by kernel_rfl
  hone := fun _ => rfl
  hzc := by simp [Value.oneCell']
  hflds := fun h => absurd rfl h
instance tyi206 : TyI Tryz.prog 206 where
  i := ⟨false, 1, 8, [.pointer none], none, []⟩
  hagg := Tryz.isAgg206
  hsize := Tryz.sizeOf206
  hzero := Tryz.zeroValue206
  hzlen := rfl
  helem := fun e h => by cases h
  hinfo := by kernel_rfl
  hone := fun _ => rfl
  hzc := by simp [Value.oneCell']
  hflds := fun h => absurd rfl h
instance tyi207 : TyI Tryz.prog 207 where
  i := ⟨false, 1, 8, [.map none], none, []⟩
  hagg := Tryz.isAgg207
  hsize := Tryz.sizeOf207
  hzero := Tryz.zeroValue207
  hzlen := rfl
  helem := fun e h => by cases h
  hinfo := by kernel_rfl
  hone := fun _ => rfl
  hzc := by simp [Value.oneCell']
  hflds := fun h => absurd rfl h
instance tyi208 : TyI Tryz.prog 208 where
  i := ⟨false, 1, 8, [.map none], none, []⟩
  hagg := Tryz.isAgg208
  hsize := Tryz.sizeOf208
  hzero := Tryz.zeroValue208
  hzlen := rfl
  helem := fun e h => by cases h
  hinfo := by kernel_rfl
  hone := fun _ => rfl
  hzc := by simp [Value.oneCell']
  hflds := fun h => absurd rfl h
instance tyi209 : TyI Tryz.prog 209 where
  i := ⟨false, 1, 8, [.nilFunc], none, []⟩
  hagg := Tryz.isAgg209
  hsize := Tryz.sizeOf209
  hzero := Tryz.zeroValue209
  hzlen := rfl
  helem := fun e h => by cases h
  hinfo := by kernel_rfl
  hone := fun _ => rfl
  hzc := by simp [Value.oneCell']
  hflds := fun h => absurd rfl h
instance tyi210 : TyI Tryz.prog 210 where
  i := ⟨false, 1, 24, [.slice none 0 0], some 264, []⟩
  hagg := Tryz.isAgg210
  hsize := Tryz.sizeOf210
  hzero := Tryz.zeroValue210
  hzlen := rfl
  helem := fun e h => by cases h; exact Tryz.underlying210
  hinfo := by kernel_rfl
  hone := fun _ => rfl
  hzc := by simp [Value.oneCell']
  hflds := fun h => absurd rfl h
instance tyi211 : TyI Tryz.prog 211 where
  i := ⟨true, 9, 104, [.int .i64 0, .int .i64 0, .int .i64 0, .int .i64 0, .int .i64 0, .int .i64 0, .int .i64 0, .slice none 0 0, .slice none 0 0], none, [(2, 0, 1), (2, 1, 1), (2, 2, 1), (2, 3, 1), (2, 4, 1), (2, 5, 1), (2, 6, 1), (210, 7, 1), (210, 8, 1)]⟩
  hagg := Tryz.isAgg211
  hsize := Tryz.sizeOf211
  hzero := Tryz.zeroValue211
  hzlen := rfl
  helem := fun e h => by cases h
  hinfo := by kernel_rfl
  hone := fun h => by cases h
  hzc := by simp [Value.oneCell']
  hflds := fun _ => ⟨_, Tryz.underlying211, rfl, by kernel_rfl, by decide⟩
instance tyi212 : TyI Tryz.prog 212 where
  i := ⟨true, 9, 104, [.int .i64 0, .int .i64 0, .int .i64 0, .int .i64 0, .int .i64 0, .int .i64 0, .int .i64 0, .slice none 0 0, .slice none 0 0], none, [(2, 0, 1), (2, 1, 1), (2, 2, 1), (2, 3, 1), (2, 4, 1), (2, 5, 1), (2, 6, 1), (210, 7, 1), (210, 8, 1)]⟩
  hagg := Tryz.isAgg212
  hsize := Tryz.sizeOf212
  hzero := Tryz.zeroValue212
  hzlen := rfl
  helem := fun e h => by cases h
  hinfo := by kernel_rfl
  hone := fun h => by cases h
  hzc := by simp [Value.oneCell']
  hflds := fun _ => ⟨_, Tryz.underlying212, rfl, by kernel_rfl, by decide⟩
instance tyi215 : TyI Tryz.prog 215 where
  i := ⟨false, 1, 24, [.slice none 0 0], some 218, []⟩
  hagg := Tryz.isAgg215
  hsize := Tryz.sizeOf215
  hzero := Tryz.zeroValue215
  hzlen := rfl
  helem := fun e h => by cases h; exact Tryz.underlying215
  hinfo := by kernel_rfl
  hone := fun _ => rfl
  hzc := by simp [Value.oneCell']
  hflds := fun h => absurd rfl h
instance tyi216 : TyI Tryz.prog 216 where
  i := ⟨false, 1, 8, [.nilFunc], none, []⟩
  hagg := Tryz.isAgg216
  hsize := Tryz.sizeOf216
  hzero := Tryz.zeroValue216
  hzlen := rfl
  helem := fun e h => by cases h
  hinfo := by kernel_rfl
  hone := fun _ => rfl
  hzc := by simp [Value.oneCell']
  hflds := fun h => absurd rfl h
instance tyi217 : TyI Tryz.prog 217 where
  i := ⟨true, 3, 48, [.string ⟨#[]⟩, .string ⟨#[]⟩, .string ⟨#[]⟩], none, [(9, 0, 1), (9, 1, 1), (9, 2, 1)]⟩
  hagg := Tryz.isAgg217
  hsize := Tryz.sizeOf217
  hzero := Tryz.zeroValue217
  hzlen := rfl
  helem := fun e h => by cases h
  hinfo := by kernel_rfl
  hone := fun h => by cases h
  hzc := by simp [Value.oneCell']
  hflds := fun _ => ⟨_, Tryz.underlying217, rfl, by kernel_rfl, by decide⟩
instance tyi218 : TyI Tryz.prog 218 where
  i := ⟨true, 3, 48, [.string ⟨#[]⟩, .string ⟨#[]⟩, .string ⟨#[]⟩], none, [(9, 0, 1), (9, 1, 1), (9, 2, 1)]⟩
  hagg := Tryz.isAgg218
  hsize := Tryz.sizeOf218
  hzero := Tryz.zeroValue218
  hzlen := rfl
  helem := fun e h => by cases h
  hinfo := by kernel_rfl
  hone := fun h => by cases h
  hzc := by simp [Value.oneCell']
  hflds := fun _ => ⟨_, Tryz.underlying218, rfl, by kernel_rfl, by decide⟩
instance tyi219 : TyI Tryz.prog 219 where
  i := ⟨false, 1, 8, [.nilFunc], none, []⟩
  hagg := Tryz.isAgg219
  hsize := Tryz.sizeOf219
  hzero := Tryz.zeroValue219
  hzlen := rfl
  helem := fun e h => by cases h
  hinfo := by kernel_rfl
  hone := fun _ => rfl
  hzc := by simp [Value.oneCell']
  hflds := fun h => absurd rfl h
instance tyi220 : TyI Tryz.prog 220 where
  i := ⟨false, 1, 8, [.nilFunc], none, []⟩
  hagg := Tryz.isAgg220
  hsize := Tryz.sizeOf220
  hzero := Tryz.zeroValue220
  hzlen := rfl
  helem := fun e h => by cases h
  hinfo := by kernel_rfl
  hone := fun _ => rfl
  hzc := by simp [Value.oneCell']
  hflds := fun h => absurd rfl h
instance tyi222 : TyI Tryz.prog 222 where
  i := ⟨false, 1, 8, [.nilFunc], none, []⟩
  hagg := Tryz.isAgg222
  hsize := Tryz.sizeOf222
  hzero := Tryz.zeroValue222
  hzlen := rfl
  helem := fun e h => by cases h
  hinfo := by kernel_rfl
  hone := fun _ => rfl
  hzc := by simp [Value.oneCell']
  hflds := fun h => absurd rfl h
instance tyi223 : TyI Tryz.prog 223 where
  i := ⟨false, 1, 8, [.nilFunc], none, []⟩
  hagg := Tryz.isAgg223
  hsize := Tryz.sizeOf223
  hzero := Tryz.zeroValue223
  hzlen := rfl
  helem := fun e h => by cases h
  hinfo := by kernel_rfl
  hone := fun _ => rfl
  hzc := by simp [Value.oneCell']
  hflds := fun h => absurd rfl h
instance tyi224 : TyI Tryz.prog 224 where
  i := ⟨false, 1, 8, [.nilFunc], none, []⟩
  hagg := Tryz.isAgg224
  hsize := Tryz.sizeOf224
  hzero := Tryz.zeroValue224
  hzlen := rfl
  helem := fun e h => by cases h
  hinfo := by kernel_rfl
  hone := fun _ => rfl
  hzc := by simp [Value.oneCell']
  hflds := fun h => absurd rfl h
instance tyi225 : TyI Tryz.prog 225 where
  i := ⟨false, 1, 8, [.nilFunc], none, []⟩
  hagg := Tryz.isAgg225
  hsize := Tryz.sizeOf225
  hzero := Tryz.zeroValue225
  hzlen := rfl
  helem := fun e h => by cases h
  hinfo := by kernel_rfl
  hone := fun _ => rfl
  hzc := by simp [Value.oneCell']
  hflds := fun h => absurd rfl h
instance tyi226 : TyI Tryz.prog 226 where
  i := ⟨false, 1, 8, [.nilFunc], none, []⟩
  hagg := Tryz.isAgg226
  hsize := Tryz.sizeOf226
  hzero := Tryz.zeroValue226
  hzlen := rfl
  helem := fun e h => by cases h
  hinfo := by kernel_rfl
  hone := fun _ => rfl
  hzc := by simp [Value.oneCell']
  hflds := fun h => absurd rfl h
instance tyi227 : TyI Tryz.prog 227 where
  i := ⟨false, 1, 8, [.nilFunc], none, []⟩
  hagg := Tryz.isAgg227
  hsize := Tryz.sizeOf227
  hzero := Tryz.zeroValue227
  hzlen := rfl
  helem := fun e h => by cases h
  hinfo := by kernel_rfl
  hone := fun _ => rfl
  hzc := by simp [Value.oneCell']
  hflds := fun h => absurd rfl h
instance tyi228 : TyI Tryz.prog 228 where
  i := ⟨false, 1, 8, [.nilFunc], none, []⟩
  hagg := Tryz.isAgg228
  hsize := Tryz.sizeOf228
  hzero := Tryz.zeroValue228
  hzlen := rfl
  helem := fun e h => by cases h
  hinfo := by kernel_rfl
  hone := fun _ => rfl
  hzc := by simp [Value.oneCell']
  hflds := fun h => absurd rfl h
instance tyi229 : TyI Tryz.prog 229 where
  i := ⟨false, 1, 8, [.nilFunc], none, []⟩
  hagg := Tryz.isAgg229
  hsize := Tryz.sizeOf229
  hzero := Tryz.zeroValue229
  hzlen := rfl
  helem := fun e h => by cases h
  hinfo := by kernel_rfl
  hone := fun _ => rfl
  hzc := by simp [Value.oneCell']
  hflds := fun h => absurd rfl h
instance tyi230 : TyI Tryz.prog 230 where
  i := ⟨false, 1, 8, [.nilFunc], none, []⟩
  hagg := Tryz.isAgg230
  hsize := Tryz.sizeOf230
  hzero := Tryz.zeroValue230
  hzlen := rfl
  helem := fun e h => by cases h
  hinfo := by kernel_rfl
  hone := fun _ => rfl
  hzc := by simp [Value.oneCell']
  hflds := fun h => absurd rfl h
instance tyi231 : TyI Tryz.prog 231 where
  i := ⟨false, 1, 8, [.nilFunc], none, []⟩
  hagg := Tryz.isAgg231
  hsize := Tryz.sizeOf231
  hzero := Tryz.zeroValue231
  hzlen := rfl
  helem := fun e h => by cases h
  hinfo := by kernel_rfl
  hone := fun _ => rfl
  hzc := by simp [Value.oneCell']
  hflds := fun h => absurd rfl h
instance tyi232 : TyI Tryz.prog 232 where
  i := ⟨false, 1, 8, [.nilFunc], none, []⟩
  hagg := Tryz.isAgg232
  hsize := Tryz.sizeOf232
  hzero := Tryz.zeroValue232
  hzlen := rfl
  helem := fun e h => by cases h
  hinfo := by kernel_rfl
  hone := fun _ => rfl
  hzc := by simp [Value.oneCell']
  hflds := fun h => absurd rfl h
instance tyi233 : TyI Tryz.prog 233 where
  i := ⟨false, 1, 8, [.nilFunc], none, []⟩
  hagg := Tryz.isAgg233
  hsize := Tryz.sizeOf233
  hzero := Tryz.zeroValue233
  hzlen := rfl
  helem := fun e h => by cases h
  hinfo := by kernel_rfl
  hone := fun _ => rfl
  hzc := by simp [Value.oneCell']
  hflds := fun h => absurd rfl h
instance tyi234 : TyI Tryz.prog 234 where
  i := ⟨false, 1, 8, [.nilFunc], none, []⟩
  hagg := Tryz.isAgg234
  hsize := Tryz.sizeOf234
  hzero := Tryz.zeroValue234
  hzlen := rfl
  helem := fun e h => by cases h
  hinfo := by kernel_rfl
  hone := fun _ => rfl
  hzc := by simp [Value.oneCell']
  hflds := fun h => absurd rfl h
instance tyi235 : TyI Tryz.prog 235 where
  i := ⟨false, 1, 8, [.nilFunc], none, []⟩
  hagg := Tryz.isAgg235
  hsize := Tryz.sizeOf235
  hzero := Tryz.zeroValue235
  hzlen := rfl
  helem := fun e h => by cases h
  hinfo := by kernel_rfl
  hone := fun _ => rfl
  hzc := by simp [Value.oneCell']
  hflds := fun h => absurd rfl h
instance tyi236 : TyI Tryz.prog 236 where
  i := ⟨false, 1, 8, [.nilFunc], none, []⟩
  hagg := Tryz.isAgg236
  hsize := Tryz.sizeOf236
  hzero := Tryz.zeroValue236
  hzlen := rfl
  helem := fun e h => by cases h
  hinfo := by kernel_rfl
  hone := fun _ => rfl
  hzc := by simp [Value.oneCell']
  hflds := fun h => absurd rfl h
instance tyi237 : TyI Tryz.prog 237 where
  i := ⟨false, 1, 8, [.nilFunc], none, []⟩
  hagg := Tryz.isAgg237
  hsize := Tryz.sizeOf237
  hzero := Tryz.zeroValue237
  hzlen := rfl
  helem := fun e h => by cases h
  hinfo := by kernel_rfl
  hone := fun _ => rfl
  hzc := by simp [Value.oneCell']
  hflds := fun h => absurd rfl h
instance tyi238 : TyI Tryz.prog 238 where
  i := ⟨false, 1, 24, [.slice none 0 0], some 5, []⟩
  hagg := Tryz.isAgg238
  hsize := Tryz.sizeOf238
  hzero := Tryz.zeroValue238
  hzlen := rfl
  helem := fun e h => by cases h; exact Tryz.underlying238
  hinfo := by kernel_rfl
  hone := fun _ => rfl
  hzc := by simp [Value.oneCell']
  hflds := fun h => absurd rfl h
instance tyi240 : TyI Tryz.prog 240 where
  i := ⟨false, 1, 8, [.nilFunc], none, []⟩
  hagg := Tryz.isAgg240
  hsize := Tryz.sizeOf240
  hzero := Tryz.zeroValue240
  hzlen := rfl
  helem := fun e h => by cases h
  hinfo := by kernel_rfl
  hone := fun _ => rfl
  hzc := by simp [Value.oneCell']
  hflds := fun h => absurd rfl h
instance tyi241 : TyI Tryz.prog 241 where
  i := ⟨false, 1, 8, [.nilFunc], none, []⟩
  hagg := Tryz.isAgg241
  hsize := Tryz.sizeOf241
  hzero := Tryz.zeroValue241
  hzlen := rfl
  helem := fun e h => by cases h
  hinfo := by kernel_rfl
  hone := fun _ => rfl
  hzc := by simp [Value.oneCell']
  hflds := fun h => absurd rfl h
instance tyi242 : TyI Tryz.prog 242 where
  i := ⟨false, 1, 8, [.nilFunc], none, []⟩
  hagg := Tryz.isAgg242
  hsize := Tryz.sizeOf242
  hzero := Tryz.zeroValue242
  hzlen := rfl
  helem := fun e h => by cases h
  hinfo := by kernel_rfl
  hone := fun _ => rfl
  hzc := by simp [Value.oneCell']
  hflds := fun h => absurd rfl h
instance tyi243 : TyI Tryz.prog 243 where
  i := ⟨false, 1, 8, [.nilFunc], none, []⟩
  hagg := Tryz.isAgg243
  hsize := Tryz.sizeOf243
  hzero := Tryz.zeroValue243
  hzlen := rfl
  helem := fun e h => by cases h
  hinfo := by kernel_rfl
  hone := fun _ => rfl
  hzc := by simp [Value.oneCell']
  hflds := fun h => absurd rfl h
instance tyi244 : TyI Tryz.prog 244 where
  i := ⟨false, 1, 8, [.nilFunc], none, []⟩
  hagg := Tryz.isAgg244
  hsize := Tryz.sizeOf244
  hzero := Tryz.zeroValue244
  hzlen := rfl
  helem := fun e h => by cases h
  hinfo := by kernel_rfl
  hone := fun _ => rfl
  hzc := by simp [Value.oneCell']
  hflds := fun h => absurd rfl h
instance tyi245 : TyI Tryz.prog 245 where
  i := ⟨true, 2, 32, [.string ⟨#[]⟩, .string ⟨#[]⟩], none, [(9, 0, 1), (9, 1, 1)]⟩
  hagg := Tryz.isAgg245
  hsize := Tryz.sizeOf245
  hzero := Tryz.zeroValue245
  hzlen := rfl
  helem := fun e h => by cases h
  hinfo := by kernel_rfl
  hone := fun h => by cases h
  hzc := by simp [Value.oneCell']
  hflds := fun _ => ⟨_, Tryz.underlying245, rfl, by kernel_rfl, by decide⟩
instance tyi246 : TyI Tryz.prog 246 where
  i := ⟨true, 2, 32, [.string ⟨#[]⟩, .string ⟨#[]⟩], none, [(9, 0, 1), (9, 1, 1)]⟩
  hagg := Tryz.isAgg246
  hsize := Tryz.sizeOf246
  hzero := Tryz.zeroValue246
  hzlen := rfl
  helem := fun e h => by cases h
  hinfo := by kernel_rfl
  hone := fun h => by cases h
  hzc := by simp [Value.oneCell']
  hflds := fun _ => ⟨_, Tryz.underlying246, rfl, by kernel_rfl, by decide⟩
instance tyi247 : TyI Tryz.prog 247 where
  i := ⟨false, 1, 8, [.nilFunc], none, []⟩
  hagg := Tryz.isAgg247
  hsize := Tryz.sizeOf247
  hzero := Tryz.zeroValue247
  hzlen := rfl
  helem := fun e h => by cases h
  hinfo := by kernel_rfl
  hone := fun _ => rfl
  hzc := by simp [Value.oneCell']
  hflds := fun h => absurd rfl h
instance tyi248 : TyI Tryz.prog 248 where
  i := ⟨false, 1, 8, [.nilFunc], none, []⟩
  hagg := Tryz.isAgg248
  hsize := Tryz.sizeOf248
  hzero := Tryz.zeroValue248
  hzlen := rfl
  helem := fun e h => by cases h
  hinfo := by kernel_rfl
  hone := fun _ => rfl
  hzc := by simp [Value.oneCell']
  hflds := fun h => absurd rfl h
instance tyi249 : TyI Tryz.prog 249 where
  i := ⟨false, 1, 8, [.nilFunc], none, []⟩
  hagg := Tryz.isAgg249
  hsize := Tryz.sizeOf249
  hzero := Tryz.zeroValue249
  hzlen := rfl
  helem := fun e h => by cases h
  hinfo := by kernel_rfl
  hone := fun _ => rfl
  hzc := by simp [Value.oneCell']
  hflds := fun h => absurd rfl h
instance tyi250 : TyI Tryz.prog 250 where
  i := ⟨false, 1, 8, [.nilFunc], none, []⟩
  hagg := Tryz.isAgg250
  hsize := Tryz.sizeOf250
  hzero := Tryz.zeroValue250
  hzlen := rfl
  helem := fun e h => by cases h
  hinfo := by kernel_rfl
  hone := fun _ => rfl
  hzc := by simp [Value.oneCell']
  hflds := fun h => absurd rfl h
instance tyi251 : TyI Tryz.prog 251 where
  i := ⟨false, 1, 8, [.nilFunc], none, []⟩
  hagg := Tryz.isAgg251
  hsize := Tryz.sizeOf251
  hzero := Tryz.zeroValue251
  hzlen := rfl
  helem := fun e h => by cases h
  hinfo := by kernel_rfl
  hone := fun _ => rfl
  hzc := by simp [Value.oneCell']
  hflds := fun h => absurd rfl h
instance tyi252 : TyI Tryz.prog 252 where
  i := ⟨false, 1, 8, [.nilFunc], none, []⟩
  hagg := Tryz.isAgg252
  hsize := Tryz.sizeOf252
  hzero := Tryz.zeroValue252
  hzlen := rfl
  helem := fun e h => by cases h
  hinfo := by kernel_rfl
  hone := fun _ => rfl
  hzc := by simp [Value.oneCell']
  hflds := fun h => absurd rfl h
instance tyi253 : TyI Tryz.prog 253 where
  i := ⟨false, 1, 8, [.nilFunc], none, []⟩
  hagg := Tryz.isAgg253
  hsize := Tryz.sizeOf253
  hzero := Tryz.zeroValue253
  hzlen := rfl
  helem := fun e h => by cases h
  hinfo := by kernel_rfl
  hone := fun _ => rfl
  hzc := by simp [Value.oneCell']
  hflds := fun h => absurd rfl h
instance tyi254 : TyI Tryz.prog 254 where
  i := ⟨false, 1, 8, [.nilFunc], none, []⟩
  hagg := Tryz.isAgg254
  hsize := Tryz.sizeOf254
  hzero := Tryz.zeroValue254
  hzlen := rfl
  helem := fun e h => by cases h
  hinfo := by kernel_rfl
  hone := fun _ => rfl
  hzc := by simp [Value.oneCell']
  hflds := fun h => absurd rfl h
instance tyi255 : TyI Tryz.prog 255 where
  i := ⟨false, 1, 8, [.pointer none], none, []⟩
  hagg := Tryz.isAgg255
  hsize := Tryz.sizeOf255
  hzero := Tryz.zeroValue255
  hzlen := rfl
  helem := fun e h => by cases h
  hinfo := by kernel_rfl
  hone := fun _ => rfl
  hzc := by simp [Value.oneCell']
  hflds := fun h => absurd rfl h
instance tyi256 : TyI Tryz.prog 256 where
  i := ⟨false, 1, 8, [.map none], none, []⟩
  hagg := Tryz.isAgg256
  hsize := Tryz.sizeOf256
  hzero := Tryz.zeroValue256
  hzlen := rfl
  helem := fun e h => by cases h
  hinfo := by kernel_rfl
  hone := fun _ => rfl
  hzc := by simp [Value.oneCell']
  hflds := fun h => absurd rfl h
instance tyi257 : TyI Tryz.prog 257 where
  i := ⟨true, 2, 16, [.map none, .bool false], none, [(256, 0, 1), (4, 1, 1)]⟩
  hagg := Tryz.isAgg257
  hsize := Tryz.sizeOf257
  hzero := Tryz.zeroValue257
  hzlen := rfl
  helem := fun e h => by cases h
  hinfo := by kernel_rfl
  hone := fun h => by cases h
  hzc := by simp [Value.oneCell']
  hflds := fun _ => ⟨_, Tryz.underlying257, rfl, by kernel_rfl, by decide⟩
instance tyi258 : TyI Tryz.prog 258 where
  i := ⟨true, 2, 16, [.map none, .bool false], none, [(256, 0, 1), (4, 1, 1)]⟩
  hagg := Tryz.isAgg258
  hsize := Tryz.sizeOf258
  hzero := Tryz.zeroValue258
  hzlen := rfl
  helem := fun e h => by cases h
  hinfo := by kernel_rfl
  hone := fun h => by cases h
  hzc := by simp [Value.oneCell']
  hflds := fun _ => ⟨_, Tryz.underlying258, rfl, by kernel_rfl, by decide⟩
instance tyi259 : TyI Tryz.prog 259 where
  i := ⟨false, 1, 8, [.nilFunc], none, []⟩
  hagg := Tryz.isAgg259
  hsize := Tryz.sizeOf259
  hzero := Tryz.zeroValue259
  hzlen := rfl
  helem := fun e h => by cases h
  hinfo := by kernel_rfl
  hone := fun _ => rfl
  hzc := by simp [Value.oneCell']
  hflds := fun h => absurd rfl h
instance tyi260 : TyI Tryz.prog 260 where
  i := ⟨false, 1, 8, [.nilFunc], none, []⟩
  hagg := Tryz.isAgg260
  hsize := Tryz.sizeOf260
  hzero := Tryz.zeroValue260
  hzlen := rfl
  helem := fun e h => by cases h
  hinfo := by kernel_rfl
  hone := fun _ => rfl
  hzc := by simp [Value.oneCell']
  hflds := fun h => absurd rfl h
instance tyi262 : TyI Tryz.prog 262 where
  i := ⟨false, 1, 8, [.nilFunc], none, []⟩
  hagg := Tryz.isAgg262
  hsize := Tryz.sizeOf262
  hzero := Tryz.zeroValue262
  hzlen := rfl
  helem := fun e h => by cases h
  hinfo := by kernel_rfl
  hone := fun _ => rfl
  hzc := by simp [Value.oneCell']
  hflds := fun h => absurd rfl h
instance tyi263 : TyI Tryz.prog 263 where
  i := ⟨true, 2, 24, [.string ⟨#[]⟩, .int .i64 0], none, [(9, 0, 1), (2, 1, 1)]⟩
  hagg := Tryz.isAgg263
  hsize := Tryz.sizeOf263
  hzero := Tryz.zeroValue263
  hzlen := rfl
  helem := fun e h => by cases h
  hinfo := by kernel_rfl
  hone := fun h => by cases h
  hzc := by simp [Value.oneCell']
  hflds := fun _ => ⟨_, Tryz.underlying263, rfl, by kernel_rfl, by decide⟩
instance tyi264 : TyI Tryz.prog 264 where
  i := ⟨true, 2, 24, [.string ⟨#[]⟩, .int .i64 0], none, [(9, 0, 1), (2, 1, 1)]⟩
  hagg := Tryz.isAgg264
  hsize := Tryz.sizeOf264
  hzero := Tryz.zeroValue264
  hzlen := rfl
  helem := fun e h => by cases h
  hinfo := by kernel_rfl
  hone := fun h => by cases h
  hzc := by simp [Value.oneCell']
  hflds := fun _ => ⟨_, Tryz.underlying264, rfl, by kernel_rfl, by decide⟩
instance tyi265 : TyI Tryz.prog 265 where
  i := ⟨false, 1, 8, [.nilFunc], none, []⟩
  hagg := Tryz.isAgg265
  hsize := Tryz.sizeOf265
  hzero := Tryz.zeroValue265
  hzlen := rfl
  helem := fun e h => by cases h
  hinfo := by kernel_rfl
  hone := fun _ => rfl
  hzc := by simp [Value.oneCell']
  hflds := fun h => absurd rfl h
instance tyi266 : TyI Tryz.prog 266 where
  i := ⟨false, 1, 8, [.nilFunc], none, []⟩
  hagg := Tryz.isAgg266
  hsize := Tryz.sizeOf266
  hzero := Tryz.zeroValue266
  hzlen := rfl
  helem := fun e h => by cases h
  hinfo := by kernel_rfl
  hone := fun _ => rfl
  hzc := by simp [Value.oneCell']
  hflds := fun h => absurd rfl h
instance tyi267 : TyI Tryz.prog 267 where
  i := ⟨false, 1, 8, [.nilFunc], none, []⟩
  hagg := Tryz.isAgg267
  hsize := Tryz.sizeOf267
  hzero := Tryz.zeroValue267
  hzlen := rfl
  helem := fun e h => by cases h
  hinfo := by kernel_rfl
  hone := fun _ => rfl
  hzc := by simp [Value.oneCell']
  hflds := fun h => absurd rfl h
instance tyi268 : TyI Tryz.prog 268 where
  i := ⟨false, 1, 8, [.nilFunc], none, []⟩
  hagg := Tryz.isAgg268
  hsize := Tryz.sizeOf268
  hzero := Tryz.zeroValue268
  hzlen := rfl
  helem := fun e h => by cases h
  hinfo := by kernel_rfl
  hone := fun _ => rfl
  hzc := by simp [Value.oneCell']
  hflds := fun h => absurd rfl h
instance tyi269 : TyI Tryz.prog 269 where
  i := ⟨false, 1, 8, [.nilFunc], none, []⟩
  hagg := Tryz.isAgg269
  hsize := Tryz.sizeOf269
  hzero := Tryz.zeroValue269
  hzlen := rfl
  helem := fun e h => by cases h
  hinfo := by kernel_rfl
  hone := fun _ => rfl
  hzc := by simp [Value.oneCell']
  hflds := fun h => absurd rfl h
instance tyi270 : TyI Tryz.prog 270 where
  i := ⟨false, 1, 8, [.nilFunc], none, []⟩
  hagg := Tryz.isAgg270
  hsize := Tryz.sizeOf270
  hzero := Tryz.zeroValue270
  hzlen := rfl
  helem := fun e h => by cases h
  hinfo := by kernel_rfl
  hone := fun _ => rfl
  hzc := by simp [Value.oneCell']
  hflds := fun h => absurd rfl h
instance tyi271 : TyI Tryz.prog 271 where
  i := ⟨false, 1, 8, [.nilFunc], none, []⟩
  hagg := Tryz.isAgg271
  hsize := Tryz.sizeOf271
  hzero := Tryz.zeroValue271
  hzlen := rfl
  helem := fun e h => by cases h
  hinfo := by kernel_rfl
  hone := fun _ => rfl
  hzc := by simp [Value.oneCell']
  hflds := fun h => absurd rfl h
instance tyi272 : TyI Tryz.prog 272 where
  i := ⟨false, 1, 8, [.nilFunc], none, []⟩
  hagg := Tryz.isAgg272
  hsize := Tryz.sizeOf272
  hzero := Tryz.zeroValue272
  hzlen := rfl
  helem := fun e h => by cases h
  hinfo := by kernel_rfl
  hone := fun _ => rfl
  hzc := by simp [Value.oneCell']
  hflds := fun h => absurd rfl h
instance tyi273 : TyI Tryz.prog 273 where
  i := ⟨false, 1, 8, [.nilFunc], none, []⟩
  hagg := Tryz.isAgg273
  hsize := Tryz.sizeOf273
  hzero := Tryz.zeroValue273
  hzlen := rfl
  helem := fun e h => by cases h
  hinfo := by kernel_rfl
  hone := fun _ => rfl
  hzc := by simp [Value.oneCell']
  hflds := fun h => absurd rfl h
instance tyi274 : TyI Tryz.prog 274 where
  i := ⟨false, 1, 8, [.nilFunc], none, []⟩
  hagg := Tryz.isAgg274
  hsize := Tryz.sizeOf274
  hzero := Tryz.zeroValue274
  hzlen := rfl
  helem := fun e h => by cases h
  hinfo := by kernel_rfl
  hone := fun _ => rfl
  hzc := by simp [Value.oneCell']
  hflds := fun h => absurd rfl h
instance tyi275 : TyI Tryz.prog 275 where
  i := ⟨false, 1, 8, [.nilFunc], none, []⟩
  hagg := Tryz.isAgg275
  hsize := Tryz.sizeOf275
  hzero := Tryz.zeroValue275
  hzlen := rfl
  helem := fun e h => by cases h
  hinfo := by kernel_rfl
  hone := fun _ => rfl
  hzc := by simp [Value.oneCell']
  hflds := fun h => absurd rfl h
instance tyi276 : TyI Tryz.prog 276 where
  i := ⟨false, 1, 8, [.nilFunc], none, []⟩
  hagg := Tryz.isAgg276
  hsize := Tryz.sizeOf276
  hzero := Tryz.zeroValue276
  hzlen := rfl
  helem := fun e h => by cases h
  hinfo := by kernel_rfl
  hone := fun _ => rfl
  hzc := by simp [Value.oneCell']
  hflds := fun h => absurd rfl h
instance tyi277 : TyI Tryz.prog 277 where
  i := ⟨false, 1, 8, [.nilFunc], none, []⟩
  hagg := Tryz.isAgg277
  hsize := Tryz.sizeOf277
  hzero := Tryz.zeroValue277
  hzlen := rfl
  helem := fun e h => by cases h
  hinfo := by kernel_rfl
  hone := fun _ => rfl
  hzc := by simp [Value.oneCell']
  hflds := fun h => absurd rfl h
instance tyi278 : TyI Tryz.prog 278 where
  i := ⟨false, 1, 8, [.nilFunc], none, []⟩
  hagg := Tryz.isAgg278
  hsize := Tryz.sizeOf278
  hzero := Tryz.zeroValue278
  hzlen := rfl
  helem := fun e h => by cases h
  hinfo := by kernel_rfl
  hone := fun _ => rfl
  hzc := by simp [Value.oneCell']
  hflds := fun h => absurd rfl h
instance tyi279 : TyI Tryz.prog 279 where
  i := ⟨false, 1, 8, [.nilFunc], none, []⟩
  hagg := Tryz.isAgg279
  hsize := Tryz.sizeOf279
  hzero := Tryz.zeroValue279
  hzlen := rfl
  helem := fun e h => by cases h
  hinfo := by kernel_rfl
  hone := fun _ => rfl
  hzc := by simp [Value.oneCell']
  hflds := fun h => absurd rfl h
instance tyi280 : TyI Tryz.prog 280 where
  i := ⟨false, 1, 8, [.nilFunc], none, []⟩
  hagg := Tryz.isAgg280
  hsize := Tryz.sizeOf280
  hzero := Tryz.zeroValue280
  hzlen := rfl
  helem := fun e h => by cases h
  hinfo := by kernel_rfl
  hone := fun _ => rfl
  hzc := by simp [Value.oneCell']
  hflds := fun h => absurd rfl h
instance tyi281 : TyI Tryz.prog 281 where
  i := ⟨false, 1, 8, [.nilFunc], none, []⟩
  hagg := Tryz.isAgg281
  hsize := Tryz.sizeOf281
  hzero := Tryz.zeroValue281
  hzlen := rfl
  helem := fun e h => by cases h
  hinfo := by kernel_rfl
  hone := fun _ => rfl
  hzc := by simp [Value.oneCell']
  hflds := fun h => absurd rfl h
instance tyi282 : TyI Tryz.prog 282 where
  i := ⟨false, 1, 8, [.nilFunc], none, []⟩
  hagg := Tryz.isAgg282
  hsize := Tryz.sizeOf282
  hzero := Tryz.zeroValue282
  hzlen := rfl
  helem := fun e h => by cases h
  hinfo := by kernel_rfl
  hone := fun _ => rfl
  hzc := by simp [Value.oneCell']
  hflds := fun h => absurd rfl h
instance tyi283 : TyI Tryz.prog 283 where
  i := ⟨true, 2, 32, [.string ⟨#[]⟩, .string ⟨#[]⟩], none, [(9, 0, 1), (9, 1, 1)]⟩
  hagg := Tryz.isAgg283
  hsize := Tryz.sizeOf283
  hzero := Tryz.zeroValue283
  hzlen := rfl
  helem := fun e h => by cases h
  hinfo := by kernel_rfl
  hone := fun h => by cases h
  hzc := by simp [Value.oneCell']
  hflds := fun _ => ⟨_, Tryz.underlying283, rfl, by kernel_rfl, by decide⟩
instance tyi284 : TyI Tryz.prog 284 where
  i := ⟨true, 2, 32, [.string ⟨#[]⟩, .string ⟨#[]⟩], none, [(9, 0, 1), (9, 1, 1)]⟩
  hagg := Tryz.isAgg284
  hsize := Tryz.sizeOf284
  hzero := Tryz.zeroValue284
  hzlen := rfl
  helem := fun e h => by cases h
  hinfo := by kernel_rfl
  hone := fun h => by cases h
  hzc := by simp [Value.oneCell']
  hflds := fun _ => ⟨_, Tryz.underlying284, rfl, by kernel_rfl, by decide⟩
instance tyi285 : TyI Tryz.prog 285 where
  i := ⟨false, 1, 8, [.nilFunc], none, []⟩
  hagg := Tryz.isAgg285
  hsize := Tryz.sizeOf285
  hzero := Tryz.zeroValue285
  hzlen := rfl
  helem := fun e h => by cases h
  hinfo := by kernel_rfl
  hone := fun _ => rfl
  hzc := by simp [Value.oneCell']
  hflds := fun h => absurd rfl h
instance tyi286 : TyI Tryz.prog 286 where
  i := ⟨false, 1, 8, [.nilFunc], none, []⟩
  hagg := Tryz.isAgg286
  hsize := Tryz.sizeOf286
  hzero := Tryz.zeroValue286
  hzlen := rfl
  helem := fun e h => by cases h
  hinfo := by kernel_rfl
  hone := fun _ => rfl
  hzc := by simp [Value.oneCell']
  hflds := fun h => absurd rfl h
instance tyi288 : TyI Tryz.prog 288 where
  i := ⟨false, 1, 8, [.nilFunc], none, []⟩
  hagg := Tryz.isAgg288
  hsize := Tryz.sizeOf288
  hzero := Tryz.zeroValue288
  hzlen := rfl
  helem := fun e h => by cases h
  hinfo := by kernel_rfl
  hone := fun _ => rfl
  hzc := by simp [Value.oneCell']
  hflds := fun h => absurd rfl h
instance tyi289 : TyI Tryz.prog 289 where
  i := ⟨true, 5, 40, [.string ⟨#[]⟩, .int .i64 0, .int .i64 0, .bool false, .bool false], none, [(9, 0, 1), (2, 1, 1), (2, 2, 1), (4, 3, 1), (4, 4, 1)]⟩
  hagg := Tryz.isAgg289
  hsize := Tryz.sizeOf289
  hzero := Tryz.zeroValue289
  hzlen := rfl
  helem := fun e h => by cases h
  hinfo := by kernel_rfl
  hone := fun h => by cases h
  hzc := by simp [Value.oneCell']
  hflds := fun _ => ⟨_, Tryz.underlying289, rfl, by kernel_rfl, by decide⟩
instance tyi290 : TyI Tryz.prog 290 where
  i := ⟨true, 5, 40, [.string ⟨#[]⟩, .int .i64 0, .int .i64 0, .bool false, .bool false], none, [(9, 0, 1), (2, 1, 1), (2, 2, 1), (4, 3, 1), (4, 4, 1)]⟩
  hagg := Tryz.isAgg290
  hsize := Tryz.sizeOf290
  hzero := Tryz.zeroValue290
  hzlen := rfl
  helem := fun e h => by cases h
  hinfo := by kernel_rfl
  hone := fun h => by cases h
  hzc := by simp [Value.oneCell']
  hflds := fun _ => ⟨_, Tryz.underlying290, rfl, by kernel_rfl, by decide⟩
instance tyi291 : TyI Tryz.prog 291 where
  i := ⟨false, 1, 8, [.nilFunc], none, []⟩
  hagg := Tryz.isAgg291
  hsize := Tryz.sizeOf291
  hzero := Tryz.zeroValue291
  hzlen := rfl
  helem := fun e h => by cases h
  hinfo := by kernel_rfl
  hone := fun _ => rfl
  hzc := by simp [Value.oneCell']
  hflds := fun h => absurd rfl h
instance tyi292 : TyI Tryz.prog 292 where
  i := ⟨false, 1, 8, [.nilFunc], none, []⟩
  hagg := Tryz.isAgg292
  hsize := Tryz.sizeOf292
  hzero := Tryz.zeroValue292
  hzlen := rfl
  helem := fun e h => by cases h
  hinfo := by kernel_rfl
  hone := fun _ => rfl
  hzc := by simp [Value.oneCell']
  hflds := fun h => absurd rfl h
instance tyi293 : TyI Tryz.prog 293 where
  i := ⟨false, 1, 8, [.nilFunc], none, []⟩
  hagg := Tryz.isAgg293
  hsize := Tryz.sizeOf293
  hzero := Tryz.zeroValue293
  hzlen := rfl
  helem := fun e h => by cases h
  hinfo := by kernel_rfl
  hone := fun _ => rfl
  hzc := by simp [Value.oneCell']
  hflds := fun h => absurd rfl h
instance tyi294 : TyI Tryz.prog 294 where
  i := ⟨false, 1, 8, [.nilFunc], none, []⟩
  hagg := Tryz.isAgg294
  hsize := Tryz.sizeOf294
  hzero := Tryz.zeroValue294
  hzlen := rfl
  helem := fun e h => by cases h
  hinfo := by kernel_rfl
  hone := fun _ => rfl
  hzc := by simp [Value.oneCell']
  hflds := fun h => absurd rfl h
instance tyi295 : TyI Tryz.prog 295 where
  i := ⟨false, 1, 8, [.nilFunc], none, []⟩
  hagg := Tryz.isAgg295
  hsize := Tryz.sizeOf295
  hzero := Tryz.zeroValue295
  hzlen := rfl
  helem := fun e h => by cases h
  hinfo := by kernel_rfl
  hone := fun _ => rfl
  hzc := by simp [Value.oneCell']
  hflds := fun h => absurd rfl h
instance tyi296 : TyI Tryz.prog 296 where
  i := ⟨false, 1, 8, [.nilFunc], none, []⟩
  hagg := Tryz.isAgg296
  hsize := Tryz.sizeOf296
  hzero := Tryz.zeroValue296
  hzlen := rfl
  helem := fun e h => by cases h
  hinfo := by kernel_rfl
  hone := fun _ => rfl
  hzc := by simp [Value.oneCell']
  hflds := fun h => absurd rfl h
instance tyi297 : TyI Tryz.prog 297 where
  i := ⟨false, 1, 8, [.nilFunc], none, []⟩
  hagg := Tryz.isAgg297
  hsize := Tryz.sizeOf297
  hzero := Tryz.zeroValue297
  hzlen := rfl
  helem := fun e h => by cases h
  hinfo := by kernel_rfl
  hone := fun _ => rfl
  hzc := by simp [Value.oneCell']
  hflds := fun h => absurd rfl h
instance tyi298 : TyI Tryz.prog 298 where
  i := ⟨false, 1, 8, [.nilFunc], none, []⟩
  hagg := Tryz.isAgg298
  hsize := Tryz.sizeOf298
  hzero := Tryz.zeroValue298
  hzlen := rfl
  helem := fun e h => by cases h
  hinfo := by kernel_rfl
  hone := fun _ => rfl
  hzc := by simp [Value.oneCell']
  hflds := fun h => absurd rfl h
instance tyi299 : TyI Tryz.prog 299 where
  i := ⟨false, 1, 8, [.nilFunc], none, []⟩
  hagg := Tryz.isAgg299
  hsize := Tryz.sizeOf299
  hzero := Tryz.zeroValue299
  hzlen := rfl
  helem := fun e h => by cases h
  hinfo := by kernel_rfl
  hone := fun _ => rfl
  hzc := by simp [Value.oneCell']
  hflds := fun h => absurd rfl h
instance tyi300 : TyI Tryz.prog 300 where
  i := ⟨false, 1, 8, [.nilFunc], none, []⟩
  hagg := Tryz.isAgg300
  hsize := Tryz.sizeOf300
  hzero := Tryz.zeroValue300
  hzlen := rfl
  helem := fun e h => by cases h
  hinfo := by kernel_rfl
  hone := fun _ => rfl
  hzc := by simp [Value.oneCell']
  hflds := fun h => absurd rfl h
instance tyi301 : TyI Tryz.prog 301 where
  i := ⟨false, 1, 8, [.nilFunc], none, []⟩
  hagg := Tryz.isAgg301
  hsize := Tryz.sizeOf301
  hzero := Tryz.zeroValue301
  hzlen := rfl
  helem := fun e h => by cases h
  hinfo := by kernel_rfl
  hone := fun _ => rfl
  hzc := by simp [Value.oneCell']
  hflds := fun h => absurd rfl h
instance tyi302 : TyI Tryz.prog 302 where
  i := ⟨false, 1, 8, [.nilFunc], none, []⟩
  hagg := Tryz.isAgg302
  hsize := Tryz.sizeOf302
  hzero := Tryz.zeroValue302
  hzlen := rfl
  helem := fun e h => by cases h
  hinfo := by kernel_rfl
  hone := fun _ => rfl
  hzc := by simp [Value.oneCell']
  hflds := fun h => absurd rfl h
instance tyi303 : TyI Tryz.prog 303 where
  i := ⟨false, 1, 8, [.nilFunc], none, []⟩
  hagg := Tryz.isAgg303
  hsize := Tryz.sizeOf303
  hzero := Tryz.zeroValue303
  hzlen := rfl
  helem := fun e h => by cases h
  hinfo := by kernel_rfl
  hone := fun _ => rfl
  hzc := by simp [Value.oneCell']
  hflds := fun h => absurd rfl h
instance tyi304 : TyI Tryz.prog 304 where
  i := ⟨false, 1, 8, [.nilFunc], none, []⟩
  hagg := Tryz.isAgg304
  hsize := Tryz.sizeOf304
  hzero := Tryz.zeroValue304
  hzlen := rfl
  helem := fun e h => by cases h
  hinfo := by kernel_rfl
  hone := fun _ => rfl
  hzc := by simp [Value.oneCell']
  hflds := fun h => absurd rfl h
instance tyi305 : TyI Tryz.prog 305 where
  i := ⟨false, 1, 8, [.nilFunc], none, []⟩
  hagg := Tryz.isAgg305
  hsize := Tryz.sizeOf305
  hzero := Tryz.zeroValue305
  hzlen := rfl
  helem := fun e h => by cases h
  hinfo := by kernel_rfl
  hone := fun _ => rfl
  hzc := by simp [Value.oneCell']
  hflds := fun h => absurd rfl h
instance tyi306 : TyI Tryz.prog 306 where
  i := ⟨false, 1, 8, [.nilFunc], none, []⟩
  hagg := Tryz.isAgg306
  hsize := Tryz.sizeOf306
  hzero := Tryz.zeroValue306
  hzlen := rfl
  helem := fun e h => by cases h
  hinfo := by kernel_rfl
  hone := fun _ => rfl
  hzc := by simp [Value.oneCell']
  hflds := fun h => absurd rfl h
instance tyi307 : TyI Tryz.prog 307 where
  i := ⟨false, 1, 8, [.nilFunc], none, []⟩
  hagg := Tryz.isAgg307
  hsize := Tryz.sizeOf307
  hzero := Tryz.zeroValue307
  hzlen := rfl
  helem := fun e h => by cases h
  hinfo := by kernel_rfl
  hone := fun _ => rfl
  hzc := by simp [Value.oneCell']
  hflds := fun h => absurd rfl h
instance tyi308 : TyI Tryz.prog 308 where
  i := ⟨false, 1, 8, [.nilFunc], none, []⟩
  hagg := Tryz.isAgg308
  hsize := Tryz.sizeOf308
  hzero := Tryz.zeroValue308
  hzlen := rfl
  helem := fun e h => by cases h
  hinfo := by kernel_rfl
  hone := fun _ => rfl
  hzc := by simp [Value.oneCell']
  hflds := fun h => absurd rfl h
instance tyi309 : TyI Tryz.prog 309 where
  i := ⟨false, 1, 8, [.nilFunc], none, []⟩
  hagg := Tryz.isAgg309
  hsize := Tryz.sizeOf309
  hzero := Tryz.zeroValue309
  hzlen := rfl
  helem := fun e h => by cases h
  hinfo := by kernel_rfl
  hone := fun _ => rfl
  hzc := by simp [Value.oneCell']
  hflds := fun h => absurd rfl h
instance tyi310 : TyI Tryz.prog 310 where
  i := ⟨false, 1, 8, [.nilFunc], none, []⟩
  hagg := Tryz.isAgg310
  hsize := Tryz.sizeOf310
  hzero := Tryz.zeroValue310
  hzlen := rfl
  helem := fun e h => by cases h
  hinfo := by kernel_rfl
  hone := fun _ => rfl
  hzc := by simp [Value.oneCell']
  hflds := fun h => absurd rfl h
instance tyi311 : TyI Tryz.prog 311 where
  i := ⟨false, 1, 8, [.nilFunc], none, []⟩
  hagg := Tryz.isAgg311
  hsize := Tryz.sizeOf311
  hzero := Tryz.zeroValue311
  hzlen := rfl
  helem := fun e h => by cases h
  hinfo := by kernel_rfl
  hone := fun _ => rfl
  hzc := by simp [Value.oneCell']
  hflds := fun h => absurd rfl h
instance tyi312 : TyI Tryz.prog 312 where
  i := ⟨false, 1, 8, [.nilFunc], none, []⟩
  hagg := Tryz.isAgg312
  hsize := Tryz.sizeOf312
  hzero := Tryz.zeroValue312
  hzlen := rfl
  helem := fun e h => by cases h
  hinfo := by kernel_rfl
  hone := fun _ => rfl
  hzc := by simp [Value.oneCell']
  hflds := fun h => absurd rfl h
instance tyi313 : TyI Tryz.prog 313 where
  i := ⟨false, 1, 8, [.nilFunc], none, []⟩
  hagg := Tryz.isAgg313
  hsize := Tryz.sizeOf313
  hzero := Tryz.zeroValue313
  hzlen := rfl
  helem := fun e h => by cases h
  hinfo := by kernel_rfl
  hone := fun _ => rfl
  hzc := by simp [Value.oneCell']
  hflds := fun h => absurd rfl h
instance tyi314 : TyI Tryz.prog 314 where
  i := ⟨false, 1, 8, [.map none], none, []⟩
  hagg := Tryz.isAgg314
  hsize := Tryz.sizeOf314
  hzero := Tryz.zeroValue314
  hzlen := rfl
  helem := fun e h => by cases h
  hinfo := by kernel_rfl
  hone := fun _ => rfl
  hzc := by simp [Value.oneCell']
  hflds := fun h => absurd rfl h
instance tyi316 : TyI Tryz.prog 316 where
  i := ⟨false, 1, 8, [.nilFunc], none, []⟩
  hagg := Tryz.isAgg316
  hsize := Tryz.sizeOf316
  hzero := Tryz.zeroValue316
  hzlen := rfl
  helem := fun e h => by cases h
  hinfo := by kernel_rfl
  hone := fun _ => rfl
  hzc := by simp [Value.oneCell']
  hflds := fun h => absurd rfl h
instance tyi317 : TyI Tryz.prog 317 where
  i := ⟨false, 1, 24, [.slice none 0 0], some 210, []⟩
  hagg := Tryz.isAgg317
  hsize := Tryz.sizeOf317
  hzero := Tryz.zeroValue317
  hzlen := rfl
  helem := fun e h => by cases h; exact Tryz.underlying317
  hinfo := by kernel_rfl
  hone := fun _ => rfl
  hzc := by simp [Value.oneCell']
  hflds := fun h => absurd rfl h
instance tyi318 : TyI Tryz.prog 318 where
  i := ⟨false, 1, 8, [.nilFunc], none, []⟩
  hagg := Tryz.isAgg318
  hsize := Tryz.sizeOf318
  hzero := Tryz.zeroValue318
  hzlen := rfl
  helem := fun e h => by cases h
  hinfo := by kernel_rfl
  hone := fun _ => rfl
  hzc := by simp [Value.oneCell']
  hflds := fun h => absurd rfl h
instance tyi319 : TyI Tryz.prog 319 where
  i := ⟨false, 1, 8, [.nilFunc], none, []⟩
  hagg := Tryz.isAgg319
  hsize := Tryz.sizeOf319
  hzero := Tryz.zeroValue319
  hzlen := rfl
  helem := fun e h => by cases h
  hinfo := by kernel_rfl
  hone := fun _ => rfl
  hzc := by simp [Value.oneCell']
  hflds := fun h => absurd rfl h
instance tyi320 : TyI Tryz.prog 320 where
  i := ⟨false, 1, 8, [.nilFunc], none, []⟩
  hagg := Tryz.isAgg320
  hsize := Tryz.sizeOf320
  hzero := Tryz.zeroValue320
  hzlen := rfl
  helem := fun e h => by cases h
  hinfo := by kernel_rfl
  hone := fun _ => rfl
  hzc := by simp [Value.oneCell']
  hflds := fun h => absurd rfl h
instance tyi322 : TyI Tryz.prog 322 where
  i := ⟨false, 1, 8, [.nilFunc], none, []⟩
  hagg := Tryz.isAgg322
  hsize := Tryz.sizeOf322
  hzero := Tryz.zeroValue322
  hzlen := rfl
  helem := fun e h => by cases h
  hinfo := by kernel_rfl
  hone := fun _ => rfl
  hzc := by simp [Value.oneCell']
  hflds := fun h => absurd rfl h
instance tyi324 : TyI Tryz.prog 324 where
  i := ⟨false, 1, 8, [.nilFunc], none, []⟩
  hagg := Tryz.isAgg324
  hsize := Tryz.sizeOf324
  hzero := Tryz.zeroValue324
  hzlen := rfl
  helem := fun e h => by cases h
  hinfo := by kernel_rfl
  hone := fun _ => rfl
  hzc := by simp [Value.oneCell']
  hflds := fun h => absurd rfl h
instance tyi325 : TyI Tryz.prog 325 where
  i := ⟨false, 1, 8, [.nilFunc], none, []⟩
  hagg := Tryz.isAgg325
  hsize := Tryz.sizeOf325
  hzero := Tryz.zeroValue325
  hzlen := rfl
  helem := fun e h => by cases h
  hinfo := by kernel_rfl
  hone := fun _ => rfl
  hzc := by simp [Value.oneCell']
  hflds := fun h => absurd rfl h
instance tyi330 : TyI Tryz.prog 330 where
  i := ⟨false, 1, 8, [.nilFunc], none, []⟩
  hagg := Tryz.isAgg330
  hsize := Tryz.sizeOf330
  hzero := Tryz.zeroValue330
  hzlen := rfl
  helem := fun e h => by cases h
  hinfo := by kernel_rfl
  hone := fun _ => rfl
  hzc := by simp [Value.oneCell']
  hflds := fun h => absurd rfl h
instance tyi331 : TyI Tryz.prog 331 where
  i := ⟨true, 4, 40, [.pointer none, .pointer none, .pointer none, .string ⟨#[]⟩], none, [(17, 0, 1), (17, 1, 1), (17, 2, 1), (9, 3, 1)]⟩
  hagg := Tryz.isAgg331
  hsize := Tryz.sizeOf331
  hzero := Tryz.zeroValue331
  hzlen := rfl
  helem := fun e h => by cases h
  hinfo := by kernel_rfl
  hone := fun h => by cases h
  hzc := by simp [Value.oneCell']
  hflds := fun _ => ⟨_, Tryz.underlying331, rfl, by kernel_rfl, by decide⟩
instance tyi332 : TyI Tryz.prog 332 where
  i := ⟨true, 4, 40, [.pointer none, .pointer none, .pointer none, .string ⟨#[]⟩], none, [(17, 0, 1), (17, 1, 1), (17, 2, 1), (9, 3, 1)]⟩
  hagg := Tryz.isAgg332
  hsize := Tryz.sizeOf332
  hzero := Tryz.zeroValue332
  hzlen := rfl
  helem := fun e h => by cases h
  hinfo := by kernel_rfl
  hone := fun h => by cases h
  hzc := by simp [Value.oneCell']
  hflds := fun _ => ⟨_, Tryz.underlying332, rfl, by kernel_rfl, by decide⟩
instance tyi336 : TyI Tryz.prog 336 where
  i := ⟨false, 1, 1, [.int .u8 0], none, []⟩
  hagg := Tryz.isAgg336
  hsize := Tryz.sizeOf336
  hzero := Tryz.zeroValue336
  hzlen := rfl
  helem := fun e h => by cases h
  hinfo := by kernel_rfl
  hone := fun _ => rfl
  hzc := by simp [Value.oneCell']
  hflds := fun h => absurd rfl h
instance tyi337 : TyI Tryz.prog 337 where
  i := ⟨false, 1, 1, [.int .u8 0], none, []⟩
  hagg := Tryz.isAgg337
  hsize := Tryz.sizeOf337
  hzero := Tryz.zeroValue337
  hzlen := rfl
  helem := fun e h => by cases h
  hinfo := by kernel_rfl
  hone := fun _ => rfl
  hzc := by simp [Value.oneCell']
  hflds := fun h => absurd rfl h
instance tyi338 : TyI Tryz.prog 338 where
  i := ⟨false, 1, 8, [.nilFunc], none, []⟩
  hagg := Tryz.isAgg338
  hsize := Tryz.sizeOf338
  hzero := Tryz.zeroValue338
  hzlen := rfl
  helem := fun e h => by cases h
  hinfo := by kernel_rfl
  hone := fun _ => rfl
  hzc := by simp [Value.oneCell']
  hflds := fun h => absurd rfl h
instance tyi339 : TyI Tryz.prog 339 where
  i := ⟨false, 1, 8, [.pointer none], none, []⟩
  hagg := Tryz.isAgg339
  hsize := Tryz.sizeOf339
  hzero := Tryz.zeroValue339
  hzlen := rfl
  helem := fun e h => by cases h
  hinfo := by kernel_rfl
  hone := fun _ => rfl
  hzc := by simp [Value.oneCell']
  hflds := fun h => absurd rfl h
instance tyi340 : TyI Tryz.prog 340 where
  i := ⟨false, 1, 4, [.int .i32 0], none, []⟩
  hagg := Tryz.isAgg340
  hsize := Tryz.sizeOf340
  hzero := Tryz.zeroValue340
  hzlen := rfl
  helem := fun e h => by cases h
  hinfo := by kernel_rfl
  hone := fun _ => rfl
  hzc := by simp [Value.oneCell']
  hflds := fun h => absurd rfl h
instance tyi341 : TyI Tryz.prog 341 where
  i := ⟨false, 1, 4, [.int .i32 0], none, []⟩
  hagg := Tryz.isAgg341
  hsize := Tryz.sizeOf341
  hzero := Tryz.zeroValue341
  hzlen := rfl
  helem := fun e h => by cases h
  hinfo := by kernel_rfl
  hone := fun _ => rfl
  hzc := by simp [Value.oneCell']
  hflds := fun h => absurd rfl h
instance tyi342 : TyI Tryz.prog 342 where
  i := ⟨true, 11, 48, [.int .u64 0, .int .u64 0, .int .u32 0, .int .u8 0, .int .u8 0, .int .u8 0, .int .u8 0, .nilFunc, .pointer none, .int .i32 0, .int .i32 0], none, [(12, 0, 1), (12, 1, 1), (121, 2, 1), (336, 3, 1), (5, 4, 1), (5, 5, 1), (337, 6, 1), (338, 7, 1), (339, 8, 1), (340, 9, 1), (341, 10, 1)]⟩
  hagg := Tryz.isAgg342
  hsize := Tryz.sizeOf342
  hzero := Tryz.zeroValue342
  hzlen := rfl
  helem := fun e h => by cases h
  hinfo := by kernel_rfl
  hone := fun h => by cases h
  hzc := by simp [Value.oneCell']
  hflds := fun _ => ⟨_, Tryz.underlying342, rfl, by kernel_rfl, by decide⟩
instance tyi343 : TyI Tryz.prog 343 where
  i := ⟨true, 11, 48, [.int .u64 0, .int .u64 0, .int .u32 0, .int .u8 0, .int .u8 0, .int .u8 0, .int .u8 0, .nilFunc, .pointer none, .int .i32 0, .int .i32 0], none, [(12, 0, 1), (12, 1, 1), (121, 2, 1), (336, 3, 1), (5, 4, 1), (5, 5, 1), (337, 6, 1), (338, 7, 1), (339, 8, 1), (340, 9, 1), (341, 10, 1)]⟩
  hagg := Tryz.isAgg343
  hsize := Tryz.sizeOf343
  hzero := Tryz.zeroValue343
  hzlen := rfl
  helem := fun e h => by cases h
  hinfo := by kernel_rfl
  hone := fun h => by cases h
  hzc := by simp [Value.oneCell']
  hflds := fun _ => ⟨_, Tryz.underlying343, rfl, by kernel_rfl, by decide⟩
instance tyi344 : TyI Tryz.prog 344 where
  i := ⟨false, 1, 8, [.pointer none], none, []⟩
  hagg := Tryz.isAgg344
  hsize := Tryz.sizeOf344
  hzero := Tryz.zeroValue344
  hzlen := rfl
  helem := fun e h => by cases h
  hinfo := by kernel_rfl
  hone := fun _ => rfl
  hzc := by simp [Value.oneCell']
  hflds := fun h => absurd rfl h
end Go.Ag
