/-
  Facts that the proof is made of (Y).
-/
import Derived.Test.YtoinkcbioaipoaaKL3
import Derived.Test.YtoinkcbioaipoaaProg
import Derived.KernelRfl
/-
  Facts on the types and the functions of the translation, printed by a program of ours.
-/
namespace Go.Sl
open Go.Proofs
instance : Mixed Try.prog := ⟨by kernel_rfl⟩
instance : TySz Try.prog 1 false 1 := ⟨⟨Try.t1, _, by kernel_rfl, by kernel_rfl, Try.underlying1, by kernel_rfl⟩⟩
instance : HasT Try.prog 1 := ⟨⟨_, Try.underlying1⟩⟩
instance : ElT Try.prog 1 1 := ⟨⟨Try.t1, (.nilFunc : Value), by kernel_rfl, by kernel_rfl, by kernel_rfl, by kernel_rfl, by decide, by decide⟩⟩
instance : ZeroT Try.prog 1 (.nilFunc) := ⟨⟨Try.t1, by kernel_rfl, by kernel_rfl⟩⟩
instance : TySz Try.prog 2 false 1 := ⟨⟨Try.t2, _, by kernel_rfl, by kernel_rfl, Try.underlying2, by kernel_rfl⟩⟩
instance : IntT Try.prog 2 .i64 := ⟨Try.underlying2⟩
instance : HasT Try.prog 2 := ⟨⟨_, Try.underlying2⟩⟩
instance : ElT Try.prog 2 1 := ⟨⟨Try.t2, (.int .i64 0 : Value), by kernel_rfl, by kernel_rfl, by kernel_rfl, by kernel_rfl, by decide, by decide⟩⟩
instance : ZeroT Try.prog 2 (.int .i64 0) := ⟨⟨Try.t2, by kernel_rfl, by kernel_rfl⟩⟩
instance : TySz Try.prog 3 false 1 := ⟨⟨Try.t3, _, by kernel_rfl, by kernel_rfl, Try.underlying3, by kernel_rfl⟩⟩
instance : IntT Try.prog 3 .i64 := ⟨Try.underlying3⟩
instance : HasT Try.prog 3 := ⟨⟨_, Try.underlying3⟩⟩
instance : ElT Try.prog 3 1 := ⟨⟨Try.t3, (.int .i64 0 : Value), by kernel_rfl, by kernel_rfl, by kernel_rfl, by kernel_rfl, by decide, by decide⟩⟩
instance : ZeroT Try.prog 3 (.int .i64 0) := ⟨⟨Try.t3, by kernel_rfl, by kernel_rfl⟩⟩
instance : TySz Try.prog 4 false 1 := ⟨⟨Try.t4, _, by kernel_rfl, by kernel_rfl, Try.underlying4, by kernel_rfl⟩⟩
instance : BoolT Try.prog 4 := ⟨Try.underlying4⟩
instance : HasT Try.prog 4 := ⟨⟨_, Try.underlying4⟩⟩
instance : ElT Try.prog 4 1 := ⟨⟨Try.t4, (.bool false : Value), by kernel_rfl, by kernel_rfl, by kernel_rfl, by kernel_rfl, by decide, by decide⟩⟩
instance : ZeroT Try.prog 4 (.bool false) := ⟨⟨Try.t4, by kernel_rfl, by kernel_rfl⟩⟩
instance : TySz Try.prog 5 false 1 := ⟨⟨Try.t5, _, by kernel_rfl, by kernel_rfl, Try.underlying5, by kernel_rfl⟩⟩
instance : IntT Try.prog 5 .u8 := ⟨Try.underlying5⟩
instance : HasT Try.prog 5 := ⟨⟨_, Try.underlying5⟩⟩
instance : ElT Try.prog 5 1 := ⟨⟨Try.t5, (.int .u8 0 : Value), by kernel_rfl, by kernel_rfl, by kernel_rfl, by kernel_rfl, by decide, by decide⟩⟩
instance : ZeroT Try.prog 5 (.int .u8 0) := ⟨⟨Try.t5, by kernel_rfl, by kernel_rfl⟩⟩
instance : TySz Try.prog 6 false 1 := ⟨⟨Try.t6, _, by kernel_rfl, by kernel_rfl, Try.underlying6, by kernel_rfl⟩⟩
instance : IntT Try.prog 6 .u8 := ⟨Try.underlying6⟩
instance : HasT Try.prog 6 := ⟨⟨_, Try.underlying6⟩⟩
instance : ElT Try.prog 6 1 := ⟨⟨Try.t6, (.int .u8 0 : Value), by kernel_rfl, by kernel_rfl, by kernel_rfl, by kernel_rfl, by decide, by decide⟩⟩
instance : ZeroT Try.prog 6 (.int .u8 0) := ⟨⟨Try.t6, by kernel_rfl, by kernel_rfl⟩⟩
instance : TySz Try.prog 7 true 4 := ⟨⟨Try.t7, _, by kernel_rfl, by kernel_rfl, Try.underlying7, by kernel_rfl⟩⟩
instance : FOff Try.prog 7 0 0 := ⟨⟨_, _, Try.t2, Try.underlying7, rfl, rfl, by kernel_rfl, by decide⟩⟩
instance : FTy Try.prog 7 0 0 false 1 := ⟨⟨_, _, 2, Try.underlying7, rfl, rfl, by kernel_rfl, inferInstance⟩⟩
instance : FOff Try.prog 7 1 1 := ⟨⟨_, _, Try.t3, Try.underlying7, rfl, rfl, by kernel_rfl, by decide⟩⟩
instance : FTy Try.prog 7 1 1 false 1 := ⟨⟨_, _, 3, Try.underlying7, rfl, rfl, by kernel_rfl, inferInstance⟩⟩
instance : FOff Try.prog 7 2 2 := ⟨⟨_, _, Try.t4, Try.underlying7, rfl, rfl, by kernel_rfl, by decide⟩⟩
instance : FTy Try.prog 7 2 2 false 1 := ⟨⟨_, _, 4, Try.underlying7, rfl, rfl, by kernel_rfl, inferInstance⟩⟩
instance : FOff Try.prog 7 3 3 := ⟨⟨_, _, Try.t6, Try.underlying7, rfl, rfl, by kernel_rfl, by decide⟩⟩
instance : FTy Try.prog 7 3 3 false 1 := ⟨⟨_, _, 6, Try.underlying7, rfl, rfl, by kernel_rfl, inferInstance⟩⟩
instance : StructT Try.prog 7 := ⟨⟨_, Try.underlying7, by kernel_rfl⟩⟩
instance : HasT Try.prog 7 := ⟨⟨_, Try.underlying7⟩⟩
instance : ElT Try.prog 7 4 := ⟨⟨Try.t7, (.agg [.int .i64 0, .int .i64 0, .bool false, .int .u8 0].toArray : Value), by kernel_rfl, by kernel_rfl, by kernel_rfl, by kernel_rfl, by decide, by decide⟩⟩
instance : ZeroT Try.prog 7 (.agg [.int .i64 0, .int .i64 0, .bool false, .int .u8 0].toArray) := ⟨⟨Try.t7, by kernel_rfl, by kernel_rfl⟩⟩
instance : TySz Try.prog 8 true 4 := ⟨⟨Try.t8, _, by kernel_rfl, by kernel_rfl, Try.underlying8, by kernel_rfl⟩⟩
instance : FOff Try.prog 8 0 0 := ⟨⟨_, _, Try.t2, Try.underlying8, rfl, rfl, by kernel_rfl, by decide⟩⟩
instance : FTy Try.prog 8 0 0 false 1 := ⟨⟨_, _, 2, Try.underlying8, rfl, rfl, by kernel_rfl, inferInstance⟩⟩
instance : FOff Try.prog 8 1 1 := ⟨⟨_, _, Try.t3, Try.underlying8, rfl, rfl, by kernel_rfl, by decide⟩⟩
instance : FTy Try.prog 8 1 1 false 1 := ⟨⟨_, _, 3, Try.underlying8, rfl, rfl, by kernel_rfl, inferInstance⟩⟩
instance : FOff Try.prog 8 2 2 := ⟨⟨_, _, Try.t4, Try.underlying8, rfl, rfl, by kernel_rfl, by decide⟩⟩
instance : FTy Try.prog 8 2 2 false 1 := ⟨⟨_, _, 4, Try.underlying8, rfl, rfl, by kernel_rfl, inferInstance⟩⟩
instance : FOff Try.prog 8 3 3 := ⟨⟨_, _, Try.t6, Try.underlying8, rfl, rfl, by kernel_rfl, by decide⟩⟩
instance : FTy Try.prog 8 3 3 false 1 := ⟨⟨_, _, 6, Try.underlying8, rfl, rfl, by kernel_rfl, inferInstance⟩⟩
instance : StructT Try.prog 8 := ⟨⟨_, Try.underlying8, by kernel_rfl⟩⟩
instance : HasT Try.prog 8 := ⟨⟨_, Try.underlying8⟩⟩
instance : ElT Try.prog 8 4 := ⟨⟨Try.t8, (.agg [.int .i64 0, .int .i64 0, .bool false, .int .u8 0].toArray : Value), by kernel_rfl, by kernel_rfl, by kernel_rfl, by kernel_rfl, by decide, by decide⟩⟩
instance : ZeroT Try.prog 8 (.agg [.int .i64 0, .int .i64 0, .bool false, .int .u8 0].toArray) := ⟨⟨Try.t8, by kernel_rfl, by kernel_rfl⟩⟩
instance : TySz Try.prog 9 false 1 := ⟨⟨Try.t9, _, by kernel_rfl, by kernel_rfl, Try.underlying9, by kernel_rfl⟩⟩
instance : StrT Try.prog 9 := ⟨Try.underlying9⟩
instance : HasT Try.prog 9 := ⟨⟨_, Try.underlying9⟩⟩
instance : ElT Try.prog 9 1 := ⟨⟨Try.t9, (.string ByteArray.empty : Value), by kernel_rfl, by kernel_rfl, by kernel_rfl, by kernel_rfl, by decide, by decide⟩⟩
instance : ZeroT Try.prog 9 (.string ByteArray.empty) := ⟨⟨Try.t9, by kernel_rfl, by kernel_rfl⟩⟩
instance : TySz Try.prog 10 false 1 := ⟨⟨Try.t10, _, by kernel_rfl, by kernel_rfl, Try.underlying10, by kernel_rfl⟩⟩
instance : StrT Try.prog 10 := ⟨Try.underlying10⟩
instance : HasT Try.prog 10 := ⟨⟨_, Try.underlying10⟩⟩
instance : ElT Try.prog 10 1 := ⟨⟨Try.t10, (.string ByteArray.empty : Value), by kernel_rfl, by kernel_rfl, by kernel_rfl, by kernel_rfl, by decide, by decide⟩⟩
instance : ZeroT Try.prog 10 (.string ByteArray.empty) := ⟨⟨Try.t10, by kernel_rfl, by kernel_rfl⟩⟩
instance : TySz Try.prog 11 false 1 := ⟨⟨Try.t11, _, by kernel_rfl, by kernel_rfl, Try.underlying11, by kernel_rfl⟩⟩
instance : StrT Try.prog 11 := ⟨Try.underlying11⟩
instance : HasT Try.prog 11 := ⟨⟨_, Try.underlying11⟩⟩
instance : ElT Try.prog 11 1 := ⟨⟨Try.t11, (.string ByteArray.empty : Value), by kernel_rfl, by kernel_rfl, by kernel_rfl, by kernel_rfl, by decide, by decide⟩⟩
instance : ZeroT Try.prog 11 (.string ByteArray.empty) := ⟨⟨Try.t11, by kernel_rfl, by kernel_rfl⟩⟩
instance : TySz Try.prog 12 false 1 := ⟨⟨Try.t12, _, by kernel_rfl, by kernel_rfl, Try.underlying12, by kernel_rfl⟩⟩
instance : IntT Try.prog 12 .u64 := ⟨Try.underlying12⟩
instance : HasT Try.prog 12 := ⟨⟨_, Try.underlying12⟩⟩
instance : ElT Try.prog 12 1 := ⟨⟨Try.t12, (.int .u64 0 : Value), by kernel_rfl, by kernel_rfl, by kernel_rfl, by kernel_rfl, by decide, by decide⟩⟩
instance : ZeroT Try.prog 12 (.int .u64 0) := ⟨⟨Try.t12, by kernel_rfl, by kernel_rfl⟩⟩
instance : TySz Try.prog 13 true 2 := ⟨⟨Try.t13, _, by kernel_rfl, by kernel_rfl, Try.underlying13, by kernel_rfl⟩⟩
instance : FOff Try.prog 13 0 0 := ⟨⟨_, _, Try.t9, Try.underlying13, rfl, rfl, by kernel_rfl, by decide⟩⟩
instance : FTy Try.prog 13 0 0 false 1 := ⟨⟨_, _, 9, Try.underlying13, rfl, rfl, by kernel_rfl, inferInstance⟩⟩
instance : FOff Try.prog 13 1 1 := ⟨⟨_, _, Try.t12, Try.underlying13, rfl, rfl, by kernel_rfl, by decide⟩⟩
instance : FTy Try.prog 13 1 1 false 1 := ⟨⟨_, _, 12, Try.underlying13, rfl, rfl, by kernel_rfl, inferInstance⟩⟩
instance : StructT Try.prog 13 := ⟨⟨_, Try.underlying13, by kernel_rfl⟩⟩
instance : HasT Try.prog 13 := ⟨⟨_, Try.underlying13⟩⟩
instance : ElT Try.prog 13 2 := ⟨⟨Try.t13, (.agg [.string ByteArray.empty, .int .u64 0].toArray : Value), by kernel_rfl, by kernel_rfl, by kernel_rfl, by kernel_rfl, by decide, by decide⟩⟩
instance : ZeroT Try.prog 13 (.agg [.string ByteArray.empty, .int .u64 0].toArray) := ⟨⟨Try.t13, by kernel_rfl, by kernel_rfl⟩⟩
instance : TySz Try.prog 14 true 2 := ⟨⟨Try.t14, _, by kernel_rfl, by kernel_rfl, Try.underlying14, by kernel_rfl⟩⟩
instance : FOff Try.prog 14 0 0 := ⟨⟨_, _, Try.t9, Try.underlying14, rfl, rfl, by kernel_rfl, by decide⟩⟩
instance : FTy Try.prog 14 0 0 false 1 := ⟨⟨_, _, 9, Try.underlying14, rfl, rfl, by kernel_rfl, inferInstance⟩⟩
instance : FOff Try.prog 14 1 1 := ⟨⟨_, _, Try.t12, Try.underlying14, rfl, rfl, by kernel_rfl, by decide⟩⟩
instance : FTy Try.prog 14 1 1 false 1 := ⟨⟨_, _, 12, Try.underlying14, rfl, rfl, by kernel_rfl, inferInstance⟩⟩
instance : StructT Try.prog 14 := ⟨⟨_, Try.underlying14, by kernel_rfl⟩⟩
instance : HasT Try.prog 14 := ⟨⟨_, Try.underlying14⟩⟩
instance : ElT Try.prog 14 2 := ⟨⟨Try.t14, (.agg [.string ByteArray.empty, .int .u64 0].toArray : Value), by kernel_rfl, by kernel_rfl, by kernel_rfl, by kernel_rfl, by decide, by decide⟩⟩
instance : ZeroT Try.prog 14 (.agg [.string ByteArray.empty, .int .u64 0].toArray) := ⟨⟨Try.t14, by kernel_rfl, by kernel_rfl⟩⟩
instance : TySz Try.prog 15 false 1 := ⟨⟨Try.t15, _, by kernel_rfl, by kernel_rfl, Try.underlying15, by kernel_rfl⟩⟩
instance : PtrT Try.prog 15 := ⟨⟨_, Try.t160, Try.underlying15, by kernel_rfl, by decide⟩⟩
instance : HasT Try.prog 15 := ⟨⟨_, Try.underlying15⟩⟩
instance : ElT Try.prog 15 1 := ⟨⟨Try.t15, (.pointer none : Value), by kernel_rfl, by kernel_rfl, by kernel_rfl, by kernel_rfl, by decide, by decide⟩⟩
instance : ZeroT Try.prog 15 (.pointer none) := ⟨⟨Try.t15, by kernel_rfl, by kernel_rfl⟩⟩
instance : TySz Try.prog 16 false 1 := ⟨⟨Try.t16, _, by kernel_rfl, by kernel_rfl, Try.underlying16, by kernel_rfl⟩⟩
instance : HasT Try.prog 16 := ⟨⟨_, Try.underlying16⟩⟩
instance : ElT Try.prog 16 1 := ⟨⟨Try.t16, (.pointer none : Value), by kernel_rfl, by kernel_rfl, by kernel_rfl, by kernel_rfl, by decide, by decide⟩⟩
instance : ZeroT Try.prog 16 (.pointer none) := ⟨⟨Try.t16, by kernel_rfl, by kernel_rfl⟩⟩
instance : TySz Try.prog 17 false 1 := ⟨⟨Try.t17, _, by kernel_rfl, by kernel_rfl, Try.underlying17, by kernel_rfl⟩⟩
instance : PtrT Try.prog 17 := ⟨⟨_, Try.t171, Try.underlying17, by kernel_rfl, by decide⟩⟩
instance : HasT Try.prog 17 := ⟨⟨_, Try.underlying17⟩⟩
instance : ElT Try.prog 17 1 := ⟨⟨Try.t17, (.pointer none : Value), by kernel_rfl, by kernel_rfl, by kernel_rfl, by kernel_rfl, by decide, by decide⟩⟩
instance : ZeroT Try.prog 17 (.pointer none) := ⟨⟨Try.t17, by kernel_rfl, by kernel_rfl⟩⟩
instance : TySz Try.prog 18 true 1 := ⟨⟨Try.t18, _, by kernel_rfl, by kernel_rfl, Try.underlying18, by kernel_rfl⟩⟩
instance : FOff Try.prog 18 0 0 := ⟨⟨_, _, Try.t17, Try.underlying18, rfl, rfl, by kernel_rfl, by decide⟩⟩
instance : FTy Try.prog 18 0 0 false 1 := ⟨⟨_, _, 17, Try.underlying18, rfl, rfl, by kernel_rfl, inferInstance⟩⟩
instance : StructT Try.prog 18 := ⟨⟨_, Try.underlying18, by kernel_rfl⟩⟩
instance : HasT Try.prog 18 := ⟨⟨_, Try.underlying18⟩⟩
instance : ElT Try.prog 18 1 := ⟨⟨Try.t18, (.agg [.pointer none].toArray : Value), by kernel_rfl, by kernel_rfl, by kernel_rfl, by kernel_rfl, by decide, by decide⟩⟩
instance : ZeroT Try.prog 18 (.agg [.pointer none].toArray) := ⟨⟨Try.t18, by kernel_rfl, by kernel_rfl⟩⟩
instance : TySz Try.prog 19 true 1 := ⟨⟨Try.t19, _, by kernel_rfl, by kernel_rfl, Try.underlying19, by kernel_rfl⟩⟩
instance : FOff Try.prog 19 0 0 := ⟨⟨_, _, Try.t17, Try.underlying19, rfl, rfl, by kernel_rfl, by decide⟩⟩
instance : FTy Try.prog 19 0 0 false 1 := ⟨⟨_, _, 17, Try.underlying19, rfl, rfl, by kernel_rfl, inferInstance⟩⟩
instance : StructT Try.prog 19 := ⟨⟨_, Try.underlying19, by kernel_rfl⟩⟩
instance : HasT Try.prog 19 := ⟨⟨_, Try.underlying19⟩⟩
instance : ElT Try.prog 19 1 := ⟨⟨Try.t19, (.agg [.pointer none].toArray : Value), by kernel_rfl, by kernel_rfl, by kernel_rfl, by kernel_rfl, by decide, by decide⟩⟩
instance : ZeroT Try.prog 19 (.agg [.pointer none].toArray) := ⟨⟨Try.t19, by kernel_rfl, by kernel_rfl⟩⟩
instance : TySz Try.prog 20 false 1 := ⟨⟨Try.t20, _, by kernel_rfl, by kernel_rfl, Try.underlying20, by kernel_rfl⟩⟩
instance : HasT Try.prog 20 := ⟨⟨_, Try.underlying20⟩⟩
instance : ElT Try.prog 20 1 := ⟨⟨Try.t20, (.nilIface : Value), by kernel_rfl, by kernel_rfl, by kernel_rfl, by kernel_rfl, by decide, by decide⟩⟩
instance : ZeroT Try.prog 20 (.nilIface) := ⟨⟨Try.t20, by kernel_rfl, by kernel_rfl⟩⟩
instance : TySz Try.prog 21 false 1 := ⟨⟨Try.t21, _, by kernel_rfl, by kernel_rfl, Try.underlying21, by kernel_rfl⟩⟩
instance : IntT Try.prog 21 .i32 := ⟨Try.underlying21⟩
instance : HasT Try.prog 21 := ⟨⟨_, Try.underlying21⟩⟩
instance : ElT Try.prog 21 1 := ⟨⟨Try.t21, (.int .i32 0 : Value), by kernel_rfl, by kernel_rfl, by kernel_rfl, by kernel_rfl, by decide, by decide⟩⟩
instance : ZeroT Try.prog 21 (.int .i32 0) := ⟨⟨Try.t21, by kernel_rfl, by kernel_rfl⟩⟩
instance : TySz Try.prog 22 false 1 := ⟨⟨Try.t22, _, by kernel_rfl, by kernel_rfl, Try.underlying22, by kernel_rfl⟩⟩
instance : SliT Try.prog 22 73 := ⟨Try.underlying22⟩
instance : HasT Try.prog 22 := ⟨⟨_, Try.underlying22⟩⟩
instance : ElT Try.prog 22 1 := ⟨⟨Try.t22, (.slice none 0 0 : Value), by kernel_rfl, by kernel_rfl, by kernel_rfl, by kernel_rfl, by decide, by decide⟩⟩
instance : ZeroT Try.prog 22 (.slice none 0 0) := ⟨⟨Try.t22, by kernel_rfl, by kernel_rfl⟩⟩
instance : TySz Try.prog 23 false 1 := ⟨⟨Try.t23, _, by kernel_rfl, by kernel_rfl, Try.underlying23, by kernel_rfl⟩⟩
instance : SliT Try.prog 23 9 := ⟨Try.underlying23⟩
instance : HasT Try.prog 23 := ⟨⟨_, Try.underlying23⟩⟩
instance : ElT Try.prog 23 1 := ⟨⟨Try.t23, (.slice none 0 0 : Value), by kernel_rfl, by kernel_rfl, by kernel_rfl, by kernel_rfl, by decide, by decide⟩⟩
instance : ZeroT Try.prog 23 (.slice none 0 0) := ⟨⟨Try.t23, by kernel_rfl, by kernel_rfl⟩⟩
instance : TySz Try.prog 24 true 4 := ⟨⟨Try.t24, _, by kernel_rfl, by kernel_rfl, Try.underlying24, by kernel_rfl⟩⟩
instance : FOff Try.prog 24 0 0 := ⟨⟨_, _, Try.t22, Try.underlying24, rfl, rfl, by kernel_rfl, by decide⟩⟩
instance : FTy Try.prog 24 0 0 false 1 := ⟨⟨_, _, 22, Try.underlying24, rfl, rfl, by kernel_rfl, inferInstance⟩⟩
instance : FOff Try.prog 24 1 1 := ⟨⟨_, _, Try.t23, Try.underlying24, rfl, rfl, by kernel_rfl, by decide⟩⟩
instance : FTy Try.prog 24 1 1 false 1 := ⟨⟨_, _, 23, Try.underlying24, rfl, rfl, by kernel_rfl, inferInstance⟩⟩
instance : FOff Try.prog 24 2 2 := ⟨⟨_, _, Try.t3, Try.underlying24, rfl, rfl, by kernel_rfl, by decide⟩⟩
instance : FTy Try.prog 24 2 2 false 1 := ⟨⟨_, _, 3, Try.underlying24, rfl, rfl, by kernel_rfl, inferInstance⟩⟩
instance : FOff Try.prog 24 3 3 := ⟨⟨_, _, Try.t3, Try.underlying24, rfl, rfl, by kernel_rfl, by decide⟩⟩
instance : FTy Try.prog 24 3 3 false 1 := ⟨⟨_, _, 3, Try.underlying24, rfl, rfl, by kernel_rfl, inferInstance⟩⟩
instance : StructT Try.prog 24 := ⟨⟨_, Try.underlying24, by kernel_rfl⟩⟩
instance : HasT Try.prog 24 := ⟨⟨_, Try.underlying24⟩⟩
instance : ElT Try.prog 24 4 := ⟨⟨Try.t24, (.agg [.slice none 0 0, .slice none 0 0, .int .i64 0, .int .i64 0].toArray : Value), by kernel_rfl, by kernel_rfl, by kernel_rfl, by kernel_rfl, by decide, by decide⟩⟩
instance : ZeroT Try.prog 24 (.agg [.slice none 0 0, .slice none 0 0, .int .i64 0, .int .i64 0].toArray) := ⟨⟨Try.t24, by kernel_rfl, by kernel_rfl⟩⟩
instance : TySz Try.prog 25 true 4 := ⟨⟨Try.t25, _, by kernel_rfl, by kernel_rfl, Try.underlying25, by kernel_rfl⟩⟩
instance : FOff Try.prog 25 0 0 := ⟨⟨_, _, Try.t22, Try.underlying25, rfl, rfl, by kernel_rfl, by decide⟩⟩
instance : FTy Try.prog 25 0 0 false 1 := ⟨⟨_, _, 22, Try.underlying25, rfl, rfl, by kernel_rfl, inferInstance⟩⟩
instance : FOff Try.prog 25 1 1 := ⟨⟨_, _, Try.t23, Try.underlying25, rfl, rfl, by kernel_rfl, by decide⟩⟩
instance : FTy Try.prog 25 1 1 false 1 := ⟨⟨_, _, 23, Try.underlying25, rfl, rfl, by kernel_rfl, inferInstance⟩⟩
instance : FOff Try.prog 25 2 2 := ⟨⟨_, _, Try.t3, Try.underlying25, rfl, rfl, by kernel_rfl, by decide⟩⟩
instance : FTy Try.prog 25 2 2 false 1 := ⟨⟨_, _, 3, Try.underlying25, rfl, rfl, by kernel_rfl, inferInstance⟩⟩
instance : FOff Try.prog 25 3 3 := ⟨⟨_, _, Try.t3, Try.underlying25, rfl, rfl, by kernel_rfl, by decide⟩⟩
instance : FTy Try.prog 25 3 3 false 1 := ⟨⟨_, _, 3, Try.underlying25, rfl, rfl, by kernel_rfl, inferInstance⟩⟩
instance : FieldsL Try.prog 25 [(22, 0, 1), (23, 1, 1), (3, 2, 1), (3, 3, 1)] 4 := ⟨⟨_, Try.underlying25, by kernel_rfl, by kernel_rfl⟩⟩
instance : StructT Try.prog 25 := ⟨⟨_, Try.underlying25, by kernel_rfl⟩⟩
instance : HasT Try.prog 25 := ⟨⟨_, Try.underlying25⟩⟩
instance : ElT Try.prog 25 4 := ⟨⟨Try.t25, (.agg [.slice none 0 0, .slice none 0 0, .int .i64 0, .int .i64 0].toArray : Value), by kernel_rfl, by kernel_rfl, by kernel_rfl, by kernel_rfl, by decide, by decide⟩⟩
instance : ZeroT Try.prog 25 (.agg [.slice none 0 0, .slice none 0 0, .int .i64 0, .int .i64 0].toArray) := ⟨⟨Try.t25, by kernel_rfl, by kernel_rfl⟩⟩
instance : TySz Try.prog 26 true 4 := ⟨⟨Try.t26, _, by kernel_rfl, by kernel_rfl, Try.underlying26, by kernel_rfl⟩⟩
instance : ArrT Try.prog 26 4 3 := ⟨Try.underlying26⟩
instance : HasT Try.prog 26 := ⟨⟨_, Try.underlying26⟩⟩
instance : ElT Try.prog 26 4 := ⟨⟨Try.t26, (.agg [.int .i64 0, .int .i64 0, .int .i64 0, .int .i64 0].toArray : Value), by kernel_rfl, by kernel_rfl, by kernel_rfl, by kernel_rfl, by decide, by decide⟩⟩
instance : ZeroT Try.prog 26 (.agg [.int .i64 0, .int .i64 0, .int .i64 0, .int .i64 0].toArray) := ⟨⟨Try.t26, by kernel_rfl, by kernel_rfl⟩⟩
instance : TySz Try.prog 27 true 5 := ⟨⟨Try.t27, _, by kernel_rfl, by kernel_rfl, Try.underlying27, by kernel_rfl⟩⟩
instance : FOff Try.prog 27 0 0 := ⟨⟨_, _, Try.t3, Try.underlying27, rfl, rfl, by kernel_rfl, by decide⟩⟩
instance : FTy Try.prog 27 0 0 false 1 := ⟨⟨_, _, 3, Try.underlying27, rfl, rfl, by kernel_rfl, inferInstance⟩⟩
instance : FOff Try.prog 27 1 1 := ⟨⟨_, _, Try.t26, Try.underlying27, rfl, rfl, by kernel_rfl, by decide⟩⟩
instance : FTy Try.prog 27 1 1 true 4 := ⟨⟨_, _, 26, Try.underlying27, rfl, rfl, by kernel_rfl, inferInstance⟩⟩
instance : StructT Try.prog 27 := ⟨⟨_, Try.underlying27, by kernel_rfl⟩⟩
instance : HasT Try.prog 27 := ⟨⟨_, Try.underlying27⟩⟩
instance : ElT Try.prog 27 5 := ⟨⟨Try.t27, (.agg [.int .i64 0, .int .i64 0, .int .i64 0, .int .i64 0, .int .i64 0].toArray : Value), by kernel_rfl, by kernel_rfl, by kernel_rfl, by kernel_rfl, by decide, by decide⟩⟩
instance : ZeroT Try.prog 27 (.agg [.int .i64 0, .int .i64 0, .int .i64 0, .int .i64 0, .int .i64 0].toArray) := ⟨⟨Try.t27, by kernel_rfl, by kernel_rfl⟩⟩
instance : TySz Try.prog 28 true 5 := ⟨⟨Try.t28, _, by kernel_rfl, by kernel_rfl, Try.underlying28, by kernel_rfl⟩⟩
instance : FOff Try.prog 28 0 0 := ⟨⟨_, _, Try.t3, Try.underlying28, rfl, rfl, by kernel_rfl, by decide⟩⟩
instance : FTy Try.prog 28 0 0 false 1 := ⟨⟨_, _, 3, Try.underlying28, rfl, rfl, by kernel_rfl, inferInstance⟩⟩
instance : FOff Try.prog 28 1 1 := ⟨⟨_, _, Try.t26, Try.underlying28, rfl, rfl, by kernel_rfl, by decide⟩⟩
instance : FTy Try.prog 28 1 1 true 4 := ⟨⟨_, _, 26, Try.underlying28, rfl, rfl, by kernel_rfl, inferInstance⟩⟩
instance : FieldsT Try.prog 28 [(3, 0), (26, 1)] := ⟨⟨_, Try.underlying28, by kernel_rfl, by kernel_rfl, by kernel_rfl, by kernel_rfl⟩⟩
instance : FieldsL Try.prog 28 [(3, 0, 1), (26, 1, 4)] 5 := ⟨⟨_, Try.underlying28, by kernel_rfl, by kernel_rfl⟩⟩
instance : StructT Try.prog 28 := ⟨⟨_, Try.underlying28, by kernel_rfl⟩⟩
instance : HasT Try.prog 28 := ⟨⟨_, Try.underlying28⟩⟩
instance : ElT Try.prog 28 5 := ⟨⟨Try.t28, (.agg [.int .i64 0, .int .i64 0, .int .i64 0, .int .i64 0, .int .i64 0].toArray : Value), by kernel_rfl, by kernel_rfl, by kernel_rfl, by kernel_rfl, by decide, by decide⟩⟩
instance : ZeroT Try.prog 28 (.agg [.int .i64 0, .int .i64 0, .int .i64 0, .int .i64 0, .int .i64 0].toArray) := ⟨⟨Try.t28, by kernel_rfl, by kernel_rfl⟩⟩
instance : TySz Try.prog 29 false 1 := ⟨⟨Try.t29, _, by kernel_rfl, by kernel_rfl, Try.underlying29, by kernel_rfl⟩⟩
instance : PtrT Try.prog 29 := ⟨⟨_, Try.t65, Try.underlying29, by kernel_rfl, by decide⟩⟩
instance : HasT Try.prog 29 := ⟨⟨_, Try.underlying29⟩⟩
instance : ElT Try.prog 29 1 := ⟨⟨Try.t29, (.pointer none : Value), by kernel_rfl, by kernel_rfl, by kernel_rfl, by kernel_rfl, by decide, by decide⟩⟩
instance : ZeroT Try.prog 29 (.pointer none) := ⟨⟨Try.t29, by kernel_rfl, by kernel_rfl⟩⟩
instance : TySz Try.prog 30 false 1 := ⟨⟨Try.t30, _, by kernel_rfl, by kernel_rfl, Try.underlying30, by kernel_rfl⟩⟩
instance : PtrT Try.prog 30 := ⟨⟨_, Try.t61, Try.underlying30, by kernel_rfl, by decide⟩⟩
instance : HasT Try.prog 30 := ⟨⟨_, Try.underlying30⟩⟩
instance : ElT Try.prog 30 1 := ⟨⟨Try.t30, (.pointer none : Value), by kernel_rfl, by kernel_rfl, by kernel_rfl, by kernel_rfl, by decide, by decide⟩⟩
instance : ZeroT Try.prog 30 (.pointer none) := ⟨⟨Try.t30, by kernel_rfl, by kernel_rfl⟩⟩
instance : TySz Try.prog 32 false 1 := ⟨⟨Try.t32, _, by kernel_rfl, by kernel_rfl, Try.underlying32, by kernel_rfl⟩⟩
instance : HasT Try.prog 32 := ⟨⟨_, Try.underlying32⟩⟩
instance : ElT Try.prog 32 1 := ⟨⟨Try.t32, (.nilFunc : Value), by kernel_rfl, by kernel_rfl, by kernel_rfl, by kernel_rfl, by decide, by decide⟩⟩
instance : ZeroT Try.prog 32 (.nilFunc) := ⟨⟨Try.t32, by kernel_rfl, by kernel_rfl⟩⟩
instance : TySz Try.prog 33 false 1 := ⟨⟨Try.t33, _, by kernel_rfl, by kernel_rfl, Try.underlying33, by kernel_rfl⟩⟩
instance : HasT Try.prog 33 := ⟨⟨_, Try.underlying33⟩⟩
instance : ElT Try.prog 33 1 := ⟨⟨Try.t33, (.nilFunc : Value), by kernel_rfl, by kernel_rfl, by kernel_rfl, by kernel_rfl, by decide, by decide⟩⟩
instance : ZeroT Try.prog 33 (.nilFunc) := ⟨⟨Try.t33, by kernel_rfl, by kernel_rfl⟩⟩
instance : TySz Try.prog 34 false 1 := ⟨⟨Try.t34, _, by kernel_rfl, by kernel_rfl, Try.underlying34, by kernel_rfl⟩⟩
instance : HasT Try.prog 34 := ⟨⟨_, Try.underlying34⟩⟩
instance : ElT Try.prog 34 1 := ⟨⟨Try.t34, (.nilFunc : Value), by kernel_rfl, by kernel_rfl, by kernel_rfl, by kernel_rfl, by decide, by decide⟩⟩
instance : ZeroT Try.prog 34 (.nilFunc) := ⟨⟨Try.t34, by kernel_rfl, by kernel_rfl⟩⟩
instance : TySz Try.prog 35 false 1 := ⟨⟨Try.t35, _, by kernel_rfl, by kernel_rfl, Try.underlying35, by kernel_rfl⟩⟩
instance : SliT Try.prog 35 3 := ⟨Try.underlying35⟩
instance : HasT Try.prog 35 := ⟨⟨_, Try.underlying35⟩⟩
instance : ElT Try.prog 35 1 := ⟨⟨Try.t35, (.slice none 0 0 : Value), by kernel_rfl, by kernel_rfl, by kernel_rfl, by kernel_rfl, by decide, by decide⟩⟩
instance : ZeroT Try.prog 35 (.slice none 0 0) := ⟨⟨Try.t35, by kernel_rfl, by kernel_rfl⟩⟩
instance : TySz Try.prog 36 false 1 := ⟨⟨Try.t36, _, by kernel_rfl, by kernel_rfl, Try.underlying36, by kernel_rfl⟩⟩
instance : HasT Try.prog 36 := ⟨⟨_, Try.underlying36⟩⟩
instance : ElT Try.prog 36 1 := ⟨⟨Try.t36, (.nilFunc : Value), by kernel_rfl, by kernel_rfl, by kernel_rfl, by kernel_rfl, by decide, by decide⟩⟩
instance : ZeroT Try.prog 36 (.nilFunc) := ⟨⟨Try.t36, by kernel_rfl, by kernel_rfl⟩⟩
instance : TySz Try.prog 37 false 1 := ⟨⟨Try.t37, _, by kernel_rfl, by kernel_rfl, Try.underlying37, by kernel_rfl⟩⟩
instance : HasT Try.prog 37 := ⟨⟨_, Try.underlying37⟩⟩
instance : ElT Try.prog 37 1 := ⟨⟨Try.t37, (.nilFunc : Value), by kernel_rfl, by kernel_rfl, by kernel_rfl, by kernel_rfl, by decide, by decide⟩⟩
instance : ZeroT Try.prog 37 (.nilFunc) := ⟨⟨Try.t37, by kernel_rfl, by kernel_rfl⟩⟩
instance : TySz Try.prog 38 false 1 := ⟨⟨Try.t38, _, by kernel_rfl, by kernel_rfl, Try.underlying38, by kernel_rfl⟩⟩
instance : HasT Try.prog 38 := ⟨⟨_, Try.underlying38⟩⟩
instance : ElT Try.prog 38 1 := ⟨⟨Try.t38, (.nilFunc : Value), by kernel_rfl, by kernel_rfl, by kernel_rfl, by kernel_rfl, by decide, by decide⟩⟩
instance : ZeroT Try.prog 38 (.nilFunc) := ⟨⟨Try.t38, by kernel_rfl, by kernel_rfl⟩⟩
instance : TySz Try.prog 39 false 1 := ⟨⟨Try.t39, _, by kernel_rfl, by kernel_rfl, Try.underlying39, by kernel_rfl⟩⟩
instance : IntT Try.prog 39 .i64 := ⟨Try.underlying39⟩
instance : HasT Try.prog 39 := ⟨⟨_, Try.underlying39⟩⟩
instance : ElT Try.prog 39 1 := ⟨⟨Try.t39, (.int .i64 0 : Value), by kernel_rfl, by kernel_rfl, by kernel_rfl, by kernel_rfl, by decide, by decide⟩⟩
instance : ZeroT Try.prog 39 (.int .i64 0) := ⟨⟨Try.t39, by kernel_rfl, by kernel_rfl⟩⟩
instance : TySz Try.prog 41 false 1 := ⟨⟨Try.t41, _, by kernel_rfl, by kernel_rfl, Try.underlying41, by kernel_rfl⟩⟩
instance : HasT Try.prog 41 := ⟨⟨_, Try.underlying41⟩⟩
instance : ElT Try.prog 41 1 := ⟨⟨Try.t41, (.nilFunc : Value), by kernel_rfl, by kernel_rfl, by kernel_rfl, by kernel_rfl, by decide, by decide⟩⟩
instance : ZeroT Try.prog 41 (.nilFunc) := ⟨⟨Try.t41, by kernel_rfl, by kernel_rfl⟩⟩
instance : TySz Try.prog 43 false 1 := ⟨⟨Try.t43, _, by kernel_rfl, by kernel_rfl, Try.underlying43, by kernel_rfl⟩⟩
instance : HasT Try.prog 43 := ⟨⟨_, Try.underlying43⟩⟩
instance : ElT Try.prog 43 1 := ⟨⟨Try.t43, (.nilFunc : Value), by kernel_rfl, by kernel_rfl, by kernel_rfl, by kernel_rfl, by decide, by decide⟩⟩
instance : ZeroT Try.prog 43 (.nilFunc) := ⟨⟨Try.t43, by kernel_rfl, by kernel_rfl⟩⟩
instance : TySz Try.prog 44 false 1 := ⟨⟨Try.t44, _, by kernel_rfl, by kernel_rfl, Try.underlying44, by kernel_rfl⟩⟩
instance : PtrT Try.prog 44 := ⟨⟨_, Try.t95, Try.underlying44, by kernel_rfl, by decide⟩⟩
instance : HasT Try.prog 44 := ⟨⟨_, Try.underlying44⟩⟩
instance : ElT Try.prog 44 1 := ⟨⟨Try.t44, (.pointer none : Value), by kernel_rfl, by kernel_rfl, by kernel_rfl, by kernel_rfl, by decide, by decide⟩⟩
instance : ZeroT Try.prog 44 (.pointer none) := ⟨⟨Try.t44, by kernel_rfl, by kernel_rfl⟩⟩
instance : TySz Try.prog 45 false 1 := ⟨⟨Try.t45, _, by kernel_rfl, by kernel_rfl, Try.underlying45, by kernel_rfl⟩⟩
instance : HasT Try.prog 45 := ⟨⟨_, Try.underlying45⟩⟩
instance : ElT Try.prog 45 1 := ⟨⟨Try.t45, (.nilFunc : Value), by kernel_rfl, by kernel_rfl, by kernel_rfl, by kernel_rfl, by decide, by decide⟩⟩
instance : ZeroT Try.prog 45 (.nilFunc) := ⟨⟨Try.t45, by kernel_rfl, by kernel_rfl⟩⟩
instance : TySz Try.prog 46 false 1 := ⟨⟨Try.t46, _, by kernel_rfl, by kernel_rfl, Try.underlying46, by kernel_rfl⟩⟩
instance : HasT Try.prog 46 := ⟨⟨_, Try.underlying46⟩⟩
instance : ElT Try.prog 46 1 := ⟨⟨Try.t46, (.nilFunc : Value), by kernel_rfl, by kernel_rfl, by kernel_rfl, by kernel_rfl, by decide, by decide⟩⟩
instance : ZeroT Try.prog 46 (.nilFunc) := ⟨⟨Try.t46, by kernel_rfl, by kernel_rfl⟩⟩
instance : TySz Try.prog 47 false 1 := ⟨⟨Try.t47, _, by kernel_rfl, by kernel_rfl, Try.underlying47, by kernel_rfl⟩⟩
instance : HasT Try.prog 47 := ⟨⟨_, Try.underlying47⟩⟩
instance : ElT Try.prog 47 1 := ⟨⟨Try.t47, (.nilFunc : Value), by kernel_rfl, by kernel_rfl, by kernel_rfl, by kernel_rfl, by decide, by decide⟩⟩
instance : ZeroT Try.prog 47 (.nilFunc) := ⟨⟨Try.t47, by kernel_rfl, by kernel_rfl⟩⟩
instance : TySz Try.prog 48 false 1 := ⟨⟨Try.t48, _, by kernel_rfl, by kernel_rfl, Try.underlying48, by kernel_rfl⟩⟩
instance : SliT Try.prog 48 28 := ⟨Try.underlying48⟩
instance : HasT Try.prog 48 := ⟨⟨_, Try.underlying48⟩⟩
instance : ElT Try.prog 48 1 := ⟨⟨Try.t48, (.slice none 0 0 : Value), by kernel_rfl, by kernel_rfl, by kernel_rfl, by kernel_rfl, by decide, by decide⟩⟩
instance : ZeroT Try.prog 48 (.slice none 0 0) := ⟨⟨Try.t48, by kernel_rfl, by kernel_rfl⟩⟩
instance : TySz Try.prog 49 false 1 := ⟨⟨Try.t49, _, by kernel_rfl, by kernel_rfl, Try.underlying49, by kernel_rfl⟩⟩
instance : HasT Try.prog 49 := ⟨⟨_, Try.underlying49⟩⟩
instance : ElT Try.prog 49 1 := ⟨⟨Try.t49, (.nilFunc : Value), by kernel_rfl, by kernel_rfl, by kernel_rfl, by kernel_rfl, by decide, by decide⟩⟩
instance : ZeroT Try.prog 49 (.nilFunc) := ⟨⟨Try.t49, by kernel_rfl, by kernel_rfl⟩⟩
instance : TySz Try.prog 50 false 1 := ⟨⟨Try.t50, _, by kernel_rfl, by kernel_rfl, Try.underlying50, by kernel_rfl⟩⟩
instance : HasT Try.prog 50 := ⟨⟨_, Try.underlying50⟩⟩
instance : ElT Try.prog 50 1 := ⟨⟨Try.t50, (.nilFunc : Value), by kernel_rfl, by kernel_rfl, by kernel_rfl, by kernel_rfl, by decide, by decide⟩⟩
instance : ZeroT Try.prog 50 (.nilFunc) := ⟨⟨Try.t50, by kernel_rfl, by kernel_rfl⟩⟩
instance : TySz Try.prog 51 false 1 := ⟨⟨Try.t51, _, by kernel_rfl, by kernel_rfl, Try.underlying51, by kernel_rfl⟩⟩
instance : HasT Try.prog 51 := ⟨⟨_, Try.underlying51⟩⟩
instance : ElT Try.prog 51 1 := ⟨⟨Try.t51, (.nilFunc : Value), by kernel_rfl, by kernel_rfl, by kernel_rfl, by kernel_rfl, by decide, by decide⟩⟩
instance : ZeroT Try.prog 51 (.nilFunc) := ⟨⟨Try.t51, by kernel_rfl, by kernel_rfl⟩⟩
instance : TySz Try.prog 53 false 1 := ⟨⟨Try.t53, _, by kernel_rfl, by kernel_rfl, Try.underlying53, by kernel_rfl⟩⟩
instance : HasT Try.prog 53 := ⟨⟨_, Try.underlying53⟩⟩
instance : ElT Try.prog 53 1 := ⟨⟨Try.t53, (.nilFunc : Value), by kernel_rfl, by kernel_rfl, by kernel_rfl, by kernel_rfl, by decide, by decide⟩⟩
instance : ZeroT Try.prog 53 (.nilFunc) := ⟨⟨Try.t53, by kernel_rfl, by kernel_rfl⟩⟩
instance : TySz Try.prog 54 false 1 := ⟨⟨Try.t54, _, by kernel_rfl, by kernel_rfl, Try.underlying54, by kernel_rfl⟩⟩
instance : PtrT Try.prog 54 := ⟨⟨_, Try.t103, Try.underlying54, by kernel_rfl, by decide⟩⟩
instance : HasT Try.prog 54 := ⟨⟨_, Try.underlying54⟩⟩
instance : ElT Try.prog 54 1 := ⟨⟨Try.t54, (.pointer none : Value), by kernel_rfl, by kernel_rfl, by kernel_rfl, by kernel_rfl, by decide, by decide⟩⟩
instance : ZeroT Try.prog 54 (.pointer none) := ⟨⟨Try.t54, by kernel_rfl, by kernel_rfl⟩⟩
instance : TySz Try.prog 56 false 1 := ⟨⟨Try.t56, _, by kernel_rfl, by kernel_rfl, Try.underlying56, by kernel_rfl⟩⟩
instance : HasT Try.prog 56 := ⟨⟨_, Try.underlying56⟩⟩
instance : ElT Try.prog 56 1 := ⟨⟨Try.t56, (.nilFunc : Value), by kernel_rfl, by kernel_rfl, by kernel_rfl, by kernel_rfl, by decide, by decide⟩⟩
instance : ZeroT Try.prog 56 (.nilFunc) := ⟨⟨Try.t56, by kernel_rfl, by kernel_rfl⟩⟩
instance : TySz Try.prog 57 false 1 := ⟨⟨Try.t57, _, by kernel_rfl, by kernel_rfl, Try.underlying57, by kernel_rfl⟩⟩
instance : SliT Try.prog 57 35 := ⟨Try.underlying57⟩
instance : HasT Try.prog 57 := ⟨⟨_, Try.underlying57⟩⟩
instance : ElT Try.prog 57 1 := ⟨⟨Try.t57, (.slice none 0 0 : Value), by kernel_rfl, by kernel_rfl, by kernel_rfl, by kernel_rfl, by decide, by decide⟩⟩
instance : ZeroT Try.prog 57 (.slice none 0 0) := ⟨⟨Try.t57, by kernel_rfl, by kernel_rfl⟩⟩
instance : TySz Try.prog 58 false 1 := ⟨⟨Try.t58, _, by kernel_rfl, by kernel_rfl, Try.underlying58, by kernel_rfl⟩⟩
instance : SliT Try.prog 58 172 := ⟨Try.underlying58⟩
instance : HasT Try.prog 58 := ⟨⟨_, Try.underlying58⟩⟩
instance : ElT Try.prog 58 1 := ⟨⟨Try.t58, (.slice none 0 0 : Value), by kernel_rfl, by kernel_rfl, by kernel_rfl, by kernel_rfl, by decide, by decide⟩⟩
instance : ZeroT Try.prog 58 (.slice none 0 0) := ⟨⟨Try.t58, by kernel_rfl, by kernel_rfl⟩⟩
instance : TySz Try.prog 59 false 1 := ⟨⟨Try.t59, _, by kernel_rfl, by kernel_rfl, Try.underlying59, by kernel_rfl⟩⟩
instance : SliT Try.prog 59 4 := ⟨Try.underlying59⟩
instance : HasT Try.prog 59 := ⟨⟨_, Try.underlying59⟩⟩
instance : ElT Try.prog 59 1 := ⟨⟨Try.t59, (.slice none 0 0 : Value), by kernel_rfl, by kernel_rfl, by kernel_rfl, by kernel_rfl, by decide, by decide⟩⟩
instance : ZeroT Try.prog 59 (.slice none 0 0) := ⟨⟨Try.t59, by kernel_rfl, by kernel_rfl⟩⟩
instance : TySz Try.prog 60 true 6 := ⟨⟨Try.t60, _, by kernel_rfl, by kernel_rfl, Try.underlying60, by kernel_rfl⟩⟩
instance : FOff Try.prog 60 0 0 := ⟨⟨_, _, Try.t54, Try.underlying60, rfl, rfl, by kernel_rfl, by decide⟩⟩
instance : FTy Try.prog 60 0 0 false 1 := ⟨⟨_, _, 54, Try.underlying60, rfl, rfl, by kernel_rfl, inferInstance⟩⟩
instance : FOff Try.prog 60 1 1 := ⟨⟨_, _, Try.t57, Try.underlying60, rfl, rfl, by kernel_rfl, by decide⟩⟩
instance : FTy Try.prog 60 1 1 false 1 := ⟨⟨_, _, 57, Try.underlying60, rfl, rfl, by kernel_rfl, inferInstance⟩⟩
instance : FOff Try.prog 60 2 2 := ⟨⟨_, _, Try.t57, Try.underlying60, rfl, rfl, by kernel_rfl, by decide⟩⟩
instance : FTy Try.prog 60 2 2 false 1 := ⟨⟨_, _, 57, Try.underlying60, rfl, rfl, by kernel_rfl, inferInstance⟩⟩
instance : FOff Try.prog 60 3 3 := ⟨⟨_, _, Try.t58, Try.underlying60, rfl, rfl, by kernel_rfl, by decide⟩⟩
instance : FTy Try.prog 60 3 3 false 1 := ⟨⟨_, _, 58, Try.underlying60, rfl, rfl, by kernel_rfl, inferInstance⟩⟩
instance : FOff Try.prog 60 4 4 := ⟨⟨_, _, Try.t57, Try.underlying60, rfl, rfl, by kernel_rfl, by decide⟩⟩
instance : FTy Try.prog 60 4 4 false 1 := ⟨⟨_, _, 57, Try.underlying60, rfl, rfl, by kernel_rfl, inferInstance⟩⟩
instance : FOff Try.prog 60 5 5 := ⟨⟨_, _, Try.t59, Try.underlying60, rfl, rfl, by kernel_rfl, by decide⟩⟩
instance : FTy Try.prog 60 5 5 false 1 := ⟨⟨_, _, 59, Try.underlying60, rfl, rfl, by kernel_rfl, inferInstance⟩⟩
instance : StructT Try.prog 60 := ⟨⟨_, Try.underlying60, by kernel_rfl⟩⟩
instance : HasT Try.prog 60 := ⟨⟨_, Try.underlying60⟩⟩
instance : ElT Try.prog 60 6 := ⟨⟨Try.t60, (.agg [.pointer none, .slice none 0 0, .slice none 0 0, .slice none 0 0, .slice none 0 0, .slice none 0 0].toArray : Value), by kernel_rfl, by kernel_rfl, by kernel_rfl, by kernel_rfl, by decide, by decide⟩⟩
instance : ZeroT Try.prog 60 (.agg [.pointer none, .slice none 0 0, .slice none 0 0, .slice none 0 0, .slice none 0 0, .slice none 0 0].toArray) := ⟨⟨Try.t60, by kernel_rfl, by kernel_rfl⟩⟩
instance : TySz Try.prog 61 true 6 := ⟨⟨Try.t61, _, by kernel_rfl, by kernel_rfl, Try.underlying61, by kernel_rfl⟩⟩
instance : FOff Try.prog 61 0 0 := ⟨⟨_, _, Try.t54, Try.underlying61, rfl, rfl, by kernel_rfl, by decide⟩⟩
instance : FTy Try.prog 61 0 0 false 1 := ⟨⟨_, _, 54, Try.underlying61, rfl, rfl, by kernel_rfl, inferInstance⟩⟩
instance : FOff Try.prog 61 1 1 := ⟨⟨_, _, Try.t57, Try.underlying61, rfl, rfl, by kernel_rfl, by decide⟩⟩
instance : FTy Try.prog 61 1 1 false 1 := ⟨⟨_, _, 57, Try.underlying61, rfl, rfl, by kernel_rfl, inferInstance⟩⟩
instance : FOff Try.prog 61 2 2 := ⟨⟨_, _, Try.t57, Try.underlying61, rfl, rfl, by kernel_rfl, by decide⟩⟩
instance : FTy Try.prog 61 2 2 false 1 := ⟨⟨_, _, 57, Try.underlying61, rfl, rfl, by kernel_rfl, inferInstance⟩⟩
instance : FOff Try.prog 61 3 3 := ⟨⟨_, _, Try.t58, Try.underlying61, rfl, rfl, by kernel_rfl, by decide⟩⟩
instance : FTy Try.prog 61 3 3 false 1 := ⟨⟨_, _, 58, Try.underlying61, rfl, rfl, by kernel_rfl, inferInstance⟩⟩
instance : FOff Try.prog 61 4 4 := ⟨⟨_, _, Try.t57, Try.underlying61, rfl, rfl, by kernel_rfl, by decide⟩⟩
instance : FTy Try.prog 61 4 4 false 1 := ⟨⟨_, _, 57, Try.underlying61, rfl, rfl, by kernel_rfl, inferInstance⟩⟩
instance : FOff Try.prog 61 5 5 := ⟨⟨_, _, Try.t59, Try.underlying61, rfl, rfl, by kernel_rfl, by decide⟩⟩
instance : FTy Try.prog 61 5 5 false 1 := ⟨⟨_, _, 59, Try.underlying61, rfl, rfl, by kernel_rfl, inferInstance⟩⟩
instance : FieldsL Try.prog 61 [(54, 0, 1), (57, 1, 1), (57, 2, 1), (58, 3, 1), (57, 4, 1), (59, 5, 1)] 6 := ⟨⟨_, Try.underlying61, by kernel_rfl, by kernel_rfl⟩⟩
instance : StructT Try.prog 61 := ⟨⟨_, Try.underlying61, by kernel_rfl⟩⟩
instance : HasT Try.prog 61 := ⟨⟨_, Try.underlying61⟩⟩
instance : ElT Try.prog 61 6 := ⟨⟨Try.t61, (.agg [.pointer none, .slice none 0 0, .slice none 0 0, .slice none 0 0, .slice none 0 0, .slice none 0 0].toArray : Value), by kernel_rfl, by kernel_rfl, by kernel_rfl, by kernel_rfl, by decide, by decide⟩⟩
instance : ZeroT Try.prog 61 (.agg [.pointer none, .slice none 0 0, .slice none 0 0, .slice none 0 0, .slice none 0 0, .slice none 0 0].toArray) := ⟨⟨Try.t61, by kernel_rfl, by kernel_rfl⟩⟩
instance : TySz Try.prog 62 false 1 := ⟨⟨Try.t62, _, by kernel_rfl, by kernel_rfl, Try.underlying62, by kernel_rfl⟩⟩
instance : SliT Try.prog 62 67 := ⟨Try.underlying62⟩
instance : HasT Try.prog 62 := ⟨⟨_, Try.underlying62⟩⟩
instance : ElT Try.prog 62 1 := ⟨⟨Try.t62, (.slice none 0 0 : Value), by kernel_rfl, by kernel_rfl, by kernel_rfl, by kernel_rfl, by decide, by decide⟩⟩
instance : ZeroT Try.prog 62 (.slice none 0 0) := ⟨⟨Try.t62, by kernel_rfl, by kernel_rfl⟩⟩
instance : TySz Try.prog 63 true 4 := ⟨⟨Try.t63, _, by kernel_rfl, by kernel_rfl, Try.underlying63, by kernel_rfl⟩⟩
instance : ArrT Try.prog 63 4 3 := ⟨Try.underlying63⟩
instance : HasT Try.prog 63 := ⟨⟨_, Try.underlying63⟩⟩
instance : ElT Try.prog 63 4 := ⟨⟨Try.t63, (.agg [.int .i64 0, .int .i64 0, .int .i64 0, .int .i64 0].toArray : Value), by kernel_rfl, by kernel_rfl, by kernel_rfl, by kernel_rfl, by decide, by decide⟩⟩
instance : ZeroT Try.prog 63 (.agg [.int .i64 0, .int .i64 0, .int .i64 0, .int .i64 0].toArray) := ⟨⟨Try.t63, by kernel_rfl, by kernel_rfl⟩⟩
instance : TySz Try.prog 64 true 12 := ⟨⟨Try.t64, _, by kernel_rfl, by kernel_rfl, Try.underlying64, by kernel_rfl⟩⟩
instance : FOff Try.prog 64 0 0 := ⟨⟨_, _, Try.t44, Try.underlying64, rfl, rfl, by kernel_rfl, by decide⟩⟩
instance : FTy Try.prog 64 0 0 false 1 := ⟨⟨_, _, 44, Try.underlying64, rfl, rfl, by kernel_rfl, inferInstance⟩⟩
instance : FOff Try.prog 64 1 1 := ⟨⟨_, _, Try.t3, Try.underlying64, rfl, rfl, by kernel_rfl, by decide⟩⟩
instance : FTy Try.prog 64 1 1 false 1 := ⟨⟨_, _, 3, Try.underlying64, rfl, rfl, by kernel_rfl, inferInstance⟩⟩
instance : FOff Try.prog 64 2 2 := ⟨⟨_, _, Try.t62, Try.underlying64, rfl, rfl, by kernel_rfl, by decide⟩⟩
instance : FTy Try.prog 64 2 2 false 1 := ⟨⟨_, _, 62, Try.underlying64, rfl, rfl, by kernel_rfl, inferInstance⟩⟩
instance : FOff Try.prog 64 3 3 := ⟨⟨_, _, Try.t57, Try.underlying64, rfl, rfl, by kernel_rfl, by decide⟩⟩
instance : FTy Try.prog 64 3 3 false 1 := ⟨⟨_, _, 57, Try.underlying64, rfl, rfl, by kernel_rfl, inferInstance⟩⟩
instance : FOff Try.prog 64 4 4 := ⟨⟨_, _, Try.t63, Try.underlying64, rfl, rfl, by kernel_rfl, by decide⟩⟩
instance : FTy Try.prog 64 4 4 true 4 := ⟨⟨_, _, 63, Try.underlying64, rfl, rfl, by kernel_rfl, inferInstance⟩⟩
instance : FOff Try.prog 64 5 8 := ⟨⟨_, _, Try.t63, Try.underlying64, rfl, rfl, by kernel_rfl, by decide⟩⟩
instance : FTy Try.prog 64 5 8 true 4 := ⟨⟨_, _, 63, Try.underlying64, rfl, rfl, by kernel_rfl, inferInstance⟩⟩
instance : StructT Try.prog 64 := ⟨⟨_, Try.underlying64, by kernel_rfl⟩⟩
instance : HasT Try.prog 64 := ⟨⟨_, Try.underlying64⟩⟩
instance : ElT Try.prog 64 12 := ⟨⟨Try.t64, (.agg [.pointer none, .int .i64 0, .slice none 0 0, .slice none 0 0, .int .i64 0, .int .i64 0, .int .i64 0, .int .i64 0, .int .i64 0, .int .i64 0, .int .i64 0, .int .i64 0].toArray : Value), by kernel_rfl, by kernel_rfl, by kernel_rfl, by kernel_rfl, by decide, by decide⟩⟩
instance : ZeroT Try.prog 64 (.agg [.pointer none, .int .i64 0, .slice none 0 0, .slice none 0 0, .int .i64 0, .int .i64 0, .int .i64 0, .int .i64 0, .int .i64 0, .int .i64 0, .int .i64 0, .int .i64 0].toArray) := ⟨⟨Try.t64, by kernel_rfl, by kernel_rfl⟩⟩
instance : TySz Try.prog 65 true 12 := ⟨⟨Try.t65, _, by kernel_rfl, by kernel_rfl, Try.underlying65, by kernel_rfl⟩⟩
instance : FOff Try.prog 65 0 0 := ⟨⟨_, _, Try.t44, Try.underlying65, rfl, rfl, by kernel_rfl, by decide⟩⟩
instance : FTy Try.prog 65 0 0 false 1 := ⟨⟨_, _, 44, Try.underlying65, rfl, rfl, by kernel_rfl, inferInstance⟩⟩
instance : FOff Try.prog 65 1 1 := ⟨⟨_, _, Try.t3, Try.underlying65, rfl, rfl, by kernel_rfl, by decide⟩⟩
instance : FTy Try.prog 65 1 1 false 1 := ⟨⟨_, _, 3, Try.underlying65, rfl, rfl, by kernel_rfl, inferInstance⟩⟩
instance : FOff Try.prog 65 2 2 := ⟨⟨_, _, Try.t62, Try.underlying65, rfl, rfl, by kernel_rfl, by decide⟩⟩
instance : FTy Try.prog 65 2 2 false 1 := ⟨⟨_, _, 62, Try.underlying65, rfl, rfl, by kernel_rfl, inferInstance⟩⟩
instance : FOff Try.prog 65 3 3 := ⟨⟨_, _, Try.t57, Try.underlying65, rfl, rfl, by kernel_rfl, by decide⟩⟩
instance : FTy Try.prog 65 3 3 false 1 := ⟨⟨_, _, 57, Try.underlying65, rfl, rfl, by kernel_rfl, inferInstance⟩⟩
instance : FOff Try.prog 65 4 4 := ⟨⟨_, _, Try.t63, Try.underlying65, rfl, rfl, by kernel_rfl, by decide⟩⟩
instance : FTy Try.prog 65 4 4 true 4 := ⟨⟨_, _, 63, Try.underlying65, rfl, rfl, by kernel_rfl, inferInstance⟩⟩
instance : FOff Try.prog 65 5 8 := ⟨⟨_, _, Try.t63, Try.underlying65, rfl, rfl, by kernel_rfl, by decide⟩⟩
instance : FTy Try.prog 65 5 8 true 4 := ⟨⟨_, _, 63, Try.underlying65, rfl, rfl, by kernel_rfl, inferInstance⟩⟩
instance : FieldsL Try.prog 65 [(44, 0, 1), (3, 1, 1), (62, 2, 1), (57, 3, 1), (63, 4, 4), (63, 8, 4)] 12 := ⟨⟨_, Try.underlying65, by kernel_rfl, by kernel_rfl⟩⟩
instance : StructT Try.prog 65 := ⟨⟨_, Try.underlying65, by kernel_rfl⟩⟩
instance : HasT Try.prog 65 := ⟨⟨_, Try.underlying65⟩⟩
instance : ElT Try.prog 65 12 := ⟨⟨Try.t65, (.agg [.pointer none, .int .i64 0, .slice none 0 0, .slice none 0 0, .int .i64 0, .int .i64 0, .int .i64 0, .int .i64 0, .int .i64 0, .int .i64 0, .int .i64 0, .int .i64 0].toArray : Value), by kernel_rfl, by kernel_rfl, by kernel_rfl, by kernel_rfl, by decide, by decide⟩⟩
instance : ZeroT Try.prog 65 (.agg [.pointer none, .int .i64 0, .slice none 0 0, .slice none 0 0, .int .i64 0, .int .i64 0, .int .i64 0, .int .i64 0, .int .i64 0, .int .i64 0, .int .i64 0, .int .i64 0].toArray) := ⟨⟨Try.t65, by kernel_rfl, by kernel_rfl⟩⟩
instance : TySz Try.prog 66 false 1 := ⟨⟨Try.t66, _, by kernel_rfl, by kernel_rfl, Try.underlying66, by kernel_rfl⟩⟩
instance : HasT Try.prog 66 := ⟨⟨_, Try.underlying66⟩⟩
instance : ElT Try.prog 66 1 := ⟨⟨Try.t66, (.nilFunc : Value), by kernel_rfl, by kernel_rfl, by kernel_rfl, by kernel_rfl, by decide, by decide⟩⟩
instance : ZeroT Try.prog 66 (.nilFunc) := ⟨⟨Try.t66, by kernel_rfl, by kernel_rfl⟩⟩
instance : TySz Try.prog 67 false 1 := ⟨⟨Try.t67, _, by kernel_rfl, by kernel_rfl, Try.underlying67, by kernel_rfl⟩⟩
instance : PtrT Try.prog 67 := ⟨⟨_, Try.t118, Try.underlying67, by kernel_rfl, by decide⟩⟩
instance : HasT Try.prog 67 := ⟨⟨_, Try.underlying67⟩⟩
instance : ElT Try.prog 67 1 := ⟨⟨Try.t67, (.pointer none : Value), by kernel_rfl, by kernel_rfl, by kernel_rfl, by kernel_rfl, by decide, by decide⟩⟩
instance : ZeroT Try.prog 67 (.pointer none) := ⟨⟨Try.t67, by kernel_rfl, by kernel_rfl⟩⟩
instance : TySz Try.prog 68 false 1 := ⟨⟨Try.t68, _, by kernel_rfl, by kernel_rfl, Try.underlying68, by kernel_rfl⟩⟩
instance : HasT Try.prog 68 := ⟨⟨_, Try.underlying68⟩⟩
instance : ElT Try.prog 68 1 := ⟨⟨Try.t68, (.nilFunc : Value), by kernel_rfl, by kernel_rfl, by kernel_rfl, by kernel_rfl, by decide, by decide⟩⟩
instance : ZeroT Try.prog 68 (.nilFunc) := ⟨⟨Try.t68, by kernel_rfl, by kernel_rfl⟩⟩
instance : TySz Try.prog 69 true 2 := ⟨⟨Try.t69, _, by kernel_rfl, by kernel_rfl, Try.underlying69, by kernel_rfl⟩⟩
instance : FOff Try.prog 69 0 0 := ⟨⟨_, _, Try.t9, Try.underlying69, rfl, rfl, by kernel_rfl, by decide⟩⟩
instance : FTy Try.prog 69 0 0 false 1 := ⟨⟨_, _, 9, Try.underlying69, rfl, rfl, by kernel_rfl, inferInstance⟩⟩
instance : FOff Try.prog 69 1 1 := ⟨⟨_, _, Try.t3, Try.underlying69, rfl, rfl, by kernel_rfl, by decide⟩⟩
instance : FTy Try.prog 69 1 1 false 1 := ⟨⟨_, _, 3, Try.underlying69, rfl, rfl, by kernel_rfl, inferInstance⟩⟩
instance : StructT Try.prog 69 := ⟨⟨_, Try.underlying69, by kernel_rfl⟩⟩
instance : HasT Try.prog 69 := ⟨⟨_, Try.underlying69⟩⟩
instance : ElT Try.prog 69 2 := ⟨⟨Try.t69, (.agg [.string ByteArray.empty, .int .i64 0].toArray : Value), by kernel_rfl, by kernel_rfl, by kernel_rfl, by kernel_rfl, by decide, by decide⟩⟩
instance : ZeroT Try.prog 69 (.agg [.string ByteArray.empty, .int .i64 0].toArray) := ⟨⟨Try.t69, by kernel_rfl, by kernel_rfl⟩⟩
instance : TySz Try.prog 70 true 2 := ⟨⟨Try.t70, _, by kernel_rfl, by kernel_rfl, Try.underlying70, by kernel_rfl⟩⟩
instance : FOff Try.prog 70 0 0 := ⟨⟨_, _, Try.t9, Try.underlying70, rfl, rfl, by kernel_rfl, by decide⟩⟩
instance : FTy Try.prog 70 0 0 false 1 := ⟨⟨_, _, 9, Try.underlying70, rfl, rfl, by kernel_rfl, inferInstance⟩⟩
instance : FOff Try.prog 70 1 1 := ⟨⟨_, _, Try.t3, Try.underlying70, rfl, rfl, by kernel_rfl, by decide⟩⟩
instance : FTy Try.prog 70 1 1 false 1 := ⟨⟨_, _, 3, Try.underlying70, rfl, rfl, by kernel_rfl, inferInstance⟩⟩
instance : FieldsT Try.prog 70 [(9, 0), (3, 1)] := ⟨⟨_, Try.underlying70, by kernel_rfl, by kernel_rfl, by kernel_rfl, by kernel_rfl⟩⟩
instance : FieldsL Try.prog 70 [(9, 0, 1), (3, 1, 1)] 2 := ⟨⟨_, Try.underlying70, by kernel_rfl, by kernel_rfl⟩⟩
instance : StructT Try.prog 70 := ⟨⟨_, Try.underlying70, by kernel_rfl⟩⟩
instance : HasT Try.prog 70 := ⟨⟨_, Try.underlying70⟩⟩
instance : ElT Try.prog 70 2 := ⟨⟨Try.t70, (.agg [.string ByteArray.empty, .int .i64 0].toArray : Value), by kernel_rfl, by kernel_rfl, by kernel_rfl, by kernel_rfl, by decide, by decide⟩⟩
instance : ZeroT Try.prog 70 (.agg [.string ByteArray.empty, .int .i64 0].toArray) := ⟨⟨Try.t70, by kernel_rfl, by kernel_rfl⟩⟩
instance : TySz Try.prog 71 false 1 := ⟨⟨Try.t71, _, by kernel_rfl, by kernel_rfl, Try.underlying71, by kernel_rfl⟩⟩
instance : SliT Try.prog 71 70 := ⟨Try.underlying71⟩
instance : HasT Try.prog 71 := ⟨⟨_, Try.underlying71⟩⟩
instance : ElT Try.prog 71 1 := ⟨⟨Try.t71, (.slice none 0 0 : Value), by kernel_rfl, by kernel_rfl, by kernel_rfl, by kernel_rfl, by decide, by decide⟩⟩
instance : ZeroT Try.prog 71 (.slice none 0 0) := ⟨⟨Try.t71, by kernel_rfl, by kernel_rfl⟩⟩
instance : TySz Try.prog 72 true 2 := ⟨⟨Try.t72, _, by kernel_rfl, by kernel_rfl, Try.underlying72, by kernel_rfl⟩⟩
instance : FOff Try.prog 72 0 0 := ⟨⟨_, _, Try.t9, Try.underlying72, rfl, rfl, by kernel_rfl, by decide⟩⟩
instance : FTy Try.prog 72 0 0 false 1 := ⟨⟨_, _, 9, Try.underlying72, rfl, rfl, by kernel_rfl, inferInstance⟩⟩
instance : FOff Try.prog 72 1 1 := ⟨⟨_, _, Try.t71, Try.underlying72, rfl, rfl, by kernel_rfl, by decide⟩⟩
instance : FTy Try.prog 72 1 1 false 1 := ⟨⟨_, _, 71, Try.underlying72, rfl, rfl, by kernel_rfl, inferInstance⟩⟩
instance : StructT Try.prog 72 := ⟨⟨_, Try.underlying72, by kernel_rfl⟩⟩
instance : HasT Try.prog 72 := ⟨⟨_, Try.underlying72⟩⟩
instance : ElT Try.prog 72 2 := ⟨⟨Try.t72, (.agg [.string ByteArray.empty, .slice none 0 0].toArray : Value), by kernel_rfl, by kernel_rfl, by kernel_rfl, by kernel_rfl, by decide, by decide⟩⟩
instance : ZeroT Try.prog 72 (.agg [.string ByteArray.empty, .slice none 0 0].toArray) := ⟨⟨Try.t72, by kernel_rfl, by kernel_rfl⟩⟩
instance : TySz Try.prog 73 true 2 := ⟨⟨Try.t73, _, by kernel_rfl, by kernel_rfl, Try.underlying73, by kernel_rfl⟩⟩
instance : FOff Try.prog 73 0 0 := ⟨⟨_, _, Try.t9, Try.underlying73, rfl, rfl, by kernel_rfl, by decide⟩⟩
instance : FTy Try.prog 73 0 0 false 1 := ⟨⟨_, _, 9, Try.underlying73, rfl, rfl, by kernel_rfl, inferInstance⟩⟩
instance : FOff Try.prog 73 1 1 := ⟨⟨_, _, Try.t71, Try.underlying73, rfl, rfl, by kernel_rfl, by decide⟩⟩
instance : FTy Try.prog 73 1 1 false 1 := ⟨⟨_, _, 71, Try.underlying73, rfl, rfl, by kernel_rfl, inferInstance⟩⟩
instance : FieldsL Try.prog 73 [(9, 0, 1), (71, 1, 1)] 2 := ⟨⟨_, Try.underlying73, by kernel_rfl, by kernel_rfl⟩⟩
instance : StructT Try.prog 73 := ⟨⟨_, Try.underlying73, by kernel_rfl⟩⟩
instance : HasT Try.prog 73 := ⟨⟨_, Try.underlying73⟩⟩
instance : ElT Try.prog 73 2 := ⟨⟨Try.t73, (.agg [.string ByteArray.empty, .slice none 0 0].toArray : Value), by kernel_rfl, by kernel_rfl, by kernel_rfl, by kernel_rfl, by decide, by decide⟩⟩
instance : ZeroT Try.prog 73 (.agg [.string ByteArray.empty, .slice none 0 0].toArray) := ⟨⟨Try.t73, by kernel_rfl, by kernel_rfl⟩⟩
instance : TySz Try.prog 74 false 1 := ⟨⟨Try.t74, _, by kernel_rfl, by kernel_rfl, Try.underlying74, by kernel_rfl⟩⟩
instance : HasT Try.prog 74 := ⟨⟨_, Try.underlying74⟩⟩
instance : ElT Try.prog 74 1 := ⟨⟨Try.t74, (.nilFunc : Value), by kernel_rfl, by kernel_rfl, by kernel_rfl, by kernel_rfl, by decide, by decide⟩⟩
instance : ZeroT Try.prog 74 (.nilFunc) := ⟨⟨Try.t74, by kernel_rfl, by kernel_rfl⟩⟩
instance : TySz Try.prog 75 false 1 := ⟨⟨Try.t75, _, by kernel_rfl, by kernel_rfl, Try.underlying75, by kernel_rfl⟩⟩
instance : HasT Try.prog 75 := ⟨⟨_, Try.underlying75⟩⟩
instance : ElT Try.prog 75 1 := ⟨⟨Try.t75, (.nilFunc : Value), by kernel_rfl, by kernel_rfl, by kernel_rfl, by kernel_rfl, by decide, by decide⟩⟩
instance : ZeroT Try.prog 75 (.nilFunc) := ⟨⟨Try.t75, by kernel_rfl, by kernel_rfl⟩⟩
instance : TySz Try.prog 77 false 1 := ⟨⟨Try.t77, _, by kernel_rfl, by kernel_rfl, Try.underlying77, by kernel_rfl⟩⟩
instance : HasT Try.prog 77 := ⟨⟨_, Try.underlying77⟩⟩
instance : ElT Try.prog 77 1 := ⟨⟨Try.t77, (.nilFunc : Value), by kernel_rfl, by kernel_rfl, by kernel_rfl, by kernel_rfl, by decide, by decide⟩⟩
instance : ZeroT Try.prog 77 (.nilFunc) := ⟨⟨Try.t77, by kernel_rfl, by kernel_rfl⟩⟩
instance : TySz Try.prog 78 false 1 := ⟨⟨Try.t78, _, by kernel_rfl, by kernel_rfl, Try.underlying78, by kernel_rfl⟩⟩
instance : HasT Try.prog 78 := ⟨⟨_, Try.underlying78⟩⟩
instance : ElT Try.prog 78 1 := ⟨⟨Try.t78, (.nilFunc : Value), by kernel_rfl, by kernel_rfl, by kernel_rfl, by kernel_rfl, by decide, by decide⟩⟩
instance : ZeroT Try.prog 78 (.nilFunc) := ⟨⟨Try.t78, by kernel_rfl, by kernel_rfl⟩⟩
instance : TySz Try.prog 79 false 1 := ⟨⟨Try.t79, _, by kernel_rfl, by kernel_rfl, Try.underlying79, by kernel_rfl⟩⟩
instance : HasT Try.prog 79 := ⟨⟨_, Try.underlying79⟩⟩
instance : ElT Try.prog 79 1 := ⟨⟨Try.t79, (.nilFunc : Value), by kernel_rfl, by kernel_rfl, by kernel_rfl, by kernel_rfl, by decide, by decide⟩⟩
instance : ZeroT Try.prog 79 (.nilFunc) := ⟨⟨Try.t79, by kernel_rfl, by kernel_rfl⟩⟩
instance : TySz Try.prog 80 false 1 := ⟨⟨Try.t80, _, by kernel_rfl, by kernel_rfl, Try.underlying80, by kernel_rfl⟩⟩
instance : HasT Try.prog 80 := ⟨⟨_, Try.underlying80⟩⟩
instance : ElT Try.prog 80 1 := ⟨⟨Try.t80, (.nilFunc : Value), by kernel_rfl, by kernel_rfl, by kernel_rfl, by kernel_rfl, by decide, by decide⟩⟩
instance : ZeroT Try.prog 80 (.nilFunc) := ⟨⟨Try.t80, by kernel_rfl, by kernel_rfl⟩⟩
instance : TySz Try.prog 81 false 1 := ⟨⟨Try.t81, _, by kernel_rfl, by kernel_rfl, Try.underlying81, by kernel_rfl⟩⟩
instance : HasT Try.prog 81 := ⟨⟨_, Try.underlying81⟩⟩
instance : ElT Try.prog 81 1 := ⟨⟨Try.t81, (.nilFunc : Value), by kernel_rfl, by kernel_rfl, by kernel_rfl, by kernel_rfl, by decide, by decide⟩⟩
instance : ZeroT Try.prog 81 (.nilFunc) := ⟨⟨Try.t81, by kernel_rfl, by kernel_rfl⟩⟩
instance : TySz Try.prog 82 false 1 := ⟨⟨Try.t82, _, by kernel_rfl, by kernel_rfl, Try.underlying82, by kernel_rfl⟩⟩
instance : HasT Try.prog 82 := ⟨⟨_, Try.underlying82⟩⟩
instance : ElT Try.prog 82 1 := ⟨⟨Try.t82, (.nilFunc : Value), by kernel_rfl, by kernel_rfl, by kernel_rfl, by kernel_rfl, by decide, by decide⟩⟩
instance : ZeroT Try.prog 82 (.nilFunc) := ⟨⟨Try.t82, by kernel_rfl, by kernel_rfl⟩⟩
instance : TySz Try.prog 83 false 1 := ⟨⟨Try.t83, _, by kernel_rfl, by kernel_rfl, Try.underlying83, by kernel_rfl⟩⟩
instance : HasT Try.prog 83 := ⟨⟨_, Try.underlying83⟩⟩
instance : ElT Try.prog 83 1 := ⟨⟨Try.t83, (.nilFunc : Value), by kernel_rfl, by kernel_rfl, by kernel_rfl, by kernel_rfl, by decide, by decide⟩⟩
instance : ZeroT Try.prog 83 (.nilFunc) := ⟨⟨Try.t83, by kernel_rfl, by kernel_rfl⟩⟩
instance : TySz Try.prog 84 false 1 := ⟨⟨Try.t84, _, by kernel_rfl, by kernel_rfl, Try.underlying84, by kernel_rfl⟩⟩
instance : HasT Try.prog 84 := ⟨⟨_, Try.underlying84⟩⟩
instance : ElT Try.prog 84 1 := ⟨⟨Try.t84, (.nilFunc : Value), by kernel_rfl, by kernel_rfl, by kernel_rfl, by kernel_rfl, by decide, by decide⟩⟩
instance : ZeroT Try.prog 84 (.nilFunc) := ⟨⟨Try.t84, by kernel_rfl, by kernel_rfl⟩⟩
instance : TySz Try.prog 86 false 1 := ⟨⟨Try.t86, _, by kernel_rfl, by kernel_rfl, Try.underlying86, by kernel_rfl⟩⟩
instance : HasT Try.prog 86 := ⟨⟨_, Try.underlying86⟩⟩
instance : ElT Try.prog 86 1 := ⟨⟨Try.t86, (.nilFunc : Value), by kernel_rfl, by kernel_rfl, by kernel_rfl, by kernel_rfl, by decide, by decide⟩⟩
instance : ZeroT Try.prog 86 (.nilFunc) := ⟨⟨Try.t86, by kernel_rfl, by kernel_rfl⟩⟩
instance : TySz Try.prog 87 false 1 := ⟨⟨Try.t87, _, by kernel_rfl, by kernel_rfl, Try.underlying87, by kernel_rfl⟩⟩
instance : HasT Try.prog 87 := ⟨⟨_, Try.underlying87⟩⟩
instance : ElT Try.prog 87 1 := ⟨⟨Try.t87, (.nilFunc : Value), by kernel_rfl, by kernel_rfl, by kernel_rfl, by kernel_rfl, by decide, by decide⟩⟩
instance : ZeroT Try.prog 87 (.nilFunc) := ⟨⟨Try.t87, by kernel_rfl, by kernel_rfl⟩⟩
instance : TySz Try.prog 88 false 1 := ⟨⟨Try.t88, _, by kernel_rfl, by kernel_rfl, Try.underlying88, by kernel_rfl⟩⟩
instance : HasT Try.prog 88 := ⟨⟨_, Try.underlying88⟩⟩
instance : ElT Try.prog 88 1 := ⟨⟨Try.t88, (.nilFunc : Value), by kernel_rfl, by kernel_rfl, by kernel_rfl, by kernel_rfl, by decide, by decide⟩⟩
instance : ZeroT Try.prog 88 (.nilFunc) := ⟨⟨Try.t88, by kernel_rfl, by kernel_rfl⟩⟩
instance : TySz Try.prog 89 false 1 := ⟨⟨Try.t89, _, by kernel_rfl, by kernel_rfl, Try.underlying89, by kernel_rfl⟩⟩
instance : HasT Try.prog 89 := ⟨⟨_, Try.underlying89⟩⟩
instance : ElT Try.prog 89 1 := ⟨⟨Try.t89, (.nilFunc : Value), by kernel_rfl, by kernel_rfl, by kernel_rfl, by kernel_rfl, by decide, by decide⟩⟩
instance : ZeroT Try.prog 89 (.nilFunc) := ⟨⟨Try.t89, by kernel_rfl, by kernel_rfl⟩⟩
instance : TySz Try.prog 90 false 1 := ⟨⟨Try.t90, _, by kernel_rfl, by kernel_rfl, Try.underlying90, by kernel_rfl⟩⟩
instance : HasT Try.prog 90 := ⟨⟨_, Try.underlying90⟩⟩
instance : ElT Try.prog 90 1 := ⟨⟨Try.t90, (.nilFunc : Value), by kernel_rfl, by kernel_rfl, by kernel_rfl, by kernel_rfl, by decide, by decide⟩⟩
instance : ZeroT Try.prog 90 (.nilFunc) := ⟨⟨Try.t90, by kernel_rfl, by kernel_rfl⟩⟩
instance : TySz Try.prog 91 false 1 := ⟨⟨Try.t91, _, by kernel_rfl, by kernel_rfl, Try.underlying91, by kernel_rfl⟩⟩
instance : HasT Try.prog 91 := ⟨⟨_, Try.underlying91⟩⟩
instance : ElT Try.prog 91 1 := ⟨⟨Try.t91, (.nilFunc : Value), by kernel_rfl, by kernel_rfl, by kernel_rfl, by kernel_rfl, by decide, by decide⟩⟩
instance : ZeroT Try.prog 91 (.nilFunc) := ⟨⟨Try.t91, by kernel_rfl, by kernel_rfl⟩⟩
instance : TySz Try.prog 92 false 1 := ⟨⟨Try.t92, _, by kernel_rfl, by kernel_rfl, Try.underlying92, by kernel_rfl⟩⟩
instance : HasT Try.prog 92 := ⟨⟨_, Try.underlying92⟩⟩
instance : ElT Try.prog 92 1 := ⟨⟨Try.t92, (.nilFunc : Value), by kernel_rfl, by kernel_rfl, by kernel_rfl, by kernel_rfl, by decide, by decide⟩⟩
instance : ZeroT Try.prog 92 (.nilFunc) := ⟨⟨Try.t92, by kernel_rfl, by kernel_rfl⟩⟩
instance : TySz Try.prog 93 false 1 := ⟨⟨Try.t93, _, by kernel_rfl, by kernel_rfl, Try.underlying93, by kernel_rfl⟩⟩
instance : SliT Try.prog 93 100 := ⟨Try.underlying93⟩
instance : HasT Try.prog 93 := ⟨⟨_, Try.underlying93⟩⟩
instance : ElT Try.prog 93 1 := ⟨⟨Try.t93, (.slice none 0 0 : Value), by kernel_rfl, by kernel_rfl, by kernel_rfl, by kernel_rfl, by decide, by decide⟩⟩
instance : ZeroT Try.prog 93 (.slice none 0 0) := ⟨⟨Try.t93, by kernel_rfl, by kernel_rfl⟩⟩
instance : TySz Try.prog 94 true 5 := ⟨⟨Try.t94, _, by kernel_rfl, by kernel_rfl, Try.underlying94, by kernel_rfl⟩⟩
instance : FOff Try.prog 94 0 0 := ⟨⟨_, _, Try.t25, Try.underlying94, rfl, rfl, by kernel_rfl, by decide⟩⟩
instance : FTy Try.prog 94 0 0 true 4 := ⟨⟨_, _, 25, Try.underlying94, rfl, rfl, by kernel_rfl, inferInstance⟩⟩
instance : FOff Try.prog 94 1 4 := ⟨⟨_, _, Try.t93, Try.underlying94, rfl, rfl, by kernel_rfl, by decide⟩⟩
instance : FTy Try.prog 94 1 4 false 1 := ⟨⟨_, _, 93, Try.underlying94, rfl, rfl, by kernel_rfl, inferInstance⟩⟩
instance : StructT Try.prog 94 := ⟨⟨_, Try.underlying94, by kernel_rfl⟩⟩
instance : HasT Try.prog 94 := ⟨⟨_, Try.underlying94⟩⟩
instance : ElT Try.prog 94 5 := ⟨⟨Try.t94, (.agg [.slice none 0 0, .slice none 0 0, .int .i64 0, .int .i64 0, .slice none 0 0].toArray : Value), by kernel_rfl, by kernel_rfl, by kernel_rfl, by kernel_rfl, by decide, by decide⟩⟩
instance : ZeroT Try.prog 94 (.agg [.slice none 0 0, .slice none 0 0, .int .i64 0, .int .i64 0, .slice none 0 0].toArray) := ⟨⟨Try.t94, by kernel_rfl, by kernel_rfl⟩⟩
instance : TySz Try.prog 95 true 5 := ⟨⟨Try.t95, _, by kernel_rfl, by kernel_rfl, Try.underlying95, by kernel_rfl⟩⟩
instance : FOff Try.prog 95 0 0 := ⟨⟨_, _, Try.t25, Try.underlying95, rfl, rfl, by kernel_rfl, by decide⟩⟩
instance : FTy Try.prog 95 0 0 true 4 := ⟨⟨_, _, 25, Try.underlying95, rfl, rfl, by kernel_rfl, inferInstance⟩⟩
instance : FOff Try.prog 95 1 4 := ⟨⟨_, _, Try.t93, Try.underlying95, rfl, rfl, by kernel_rfl, by decide⟩⟩
instance : FTy Try.prog 95 1 4 false 1 := ⟨⟨_, _, 93, Try.underlying95, rfl, rfl, by kernel_rfl, inferInstance⟩⟩
instance : FieldsL Try.prog 95 [(25, 0, 4), (93, 4, 1)] 5 := ⟨⟨_, Try.underlying95, by kernel_rfl, by kernel_rfl⟩⟩
instance : StructT Try.prog 95 := ⟨⟨_, Try.underlying95, by kernel_rfl⟩⟩
instance : HasT Try.prog 95 := ⟨⟨_, Try.underlying95⟩⟩
instance : ElT Try.prog 95 5 := ⟨⟨Try.t95, (.agg [.slice none 0 0, .slice none 0 0, .int .i64 0, .int .i64 0, .slice none 0 0].toArray : Value), by kernel_rfl, by kernel_rfl, by kernel_rfl, by kernel_rfl, by decide, by decide⟩⟩
instance : ZeroT Try.prog 95 (.agg [.slice none 0 0, .slice none 0 0, .int .i64 0, .int .i64 0, .slice none 0 0].toArray) := ⟨⟨Try.t95, by kernel_rfl, by kernel_rfl⟩⟩
instance : TySz Try.prog 96 false 1 := ⟨⟨Try.t96, _, by kernel_rfl, by kernel_rfl, Try.underlying96, by kernel_rfl⟩⟩
instance : HasT Try.prog 96 := ⟨⟨_, Try.underlying96⟩⟩
instance : ElT Try.prog 96 1 := ⟨⟨Try.t96, (.nilFunc : Value), by kernel_rfl, by kernel_rfl, by kernel_rfl, by kernel_rfl, by decide, by decide⟩⟩
instance : ZeroT Try.prog 96 (.nilFunc) := ⟨⟨Try.t96, by kernel_rfl, by kernel_rfl⟩⟩
instance : TySz Try.prog 98 false 1 := ⟨⟨Try.t98, _, by kernel_rfl, by kernel_rfl, Try.underlying98, by kernel_rfl⟩⟩
instance : HasT Try.prog 98 := ⟨⟨_, Try.underlying98⟩⟩
instance : ElT Try.prog 98 1 := ⟨⟨Try.t98, (.nilFunc : Value), by kernel_rfl, by kernel_rfl, by kernel_rfl, by kernel_rfl, by decide, by decide⟩⟩
instance : ZeroT Try.prog 98 (.nilFunc) := ⟨⟨Try.t98, by kernel_rfl, by kernel_rfl⟩⟩
instance : TySz Try.prog 99 true 2 := ⟨⟨Try.t99, _, by kernel_rfl, by kernel_rfl, Try.underlying99, by kernel_rfl⟩⟩
instance : FOff Try.prog 99 0 0 := ⟨⟨_, _, Try.t67, Try.underlying99, rfl, rfl, by kernel_rfl, by decide⟩⟩
instance : FTy Try.prog 99 0 0 false 1 := ⟨⟨_, _, 67, Try.underlying99, rfl, rfl, by kernel_rfl, inferInstance⟩⟩
instance : FOff Try.prog 99 1 1 := ⟨⟨_, _, Try.t9, Try.underlying99, rfl, rfl, by kernel_rfl, by decide⟩⟩
instance : FTy Try.prog 99 1 1 false 1 := ⟨⟨_, _, 9, Try.underlying99, rfl, rfl, by kernel_rfl, inferInstance⟩⟩
instance : StructT Try.prog 99 := ⟨⟨_, Try.underlying99, by kernel_rfl⟩⟩
instance : HasT Try.prog 99 := ⟨⟨_, Try.underlying99⟩⟩
instance : ElT Try.prog 99 2 := ⟨⟨Try.t99, (.agg [.pointer none, .string ByteArray.empty].toArray : Value), by kernel_rfl, by kernel_rfl, by kernel_rfl, by kernel_rfl, by decide, by decide⟩⟩
instance : ZeroT Try.prog 99 (.agg [.pointer none, .string ByteArray.empty].toArray) := ⟨⟨Try.t99, by kernel_rfl, by kernel_rfl⟩⟩
instance : TySz Try.prog 100 true 2 := ⟨⟨Try.t100, _, by kernel_rfl, by kernel_rfl, Try.underlying100, by kernel_rfl⟩⟩
instance : FOff Try.prog 100 0 0 := ⟨⟨_, _, Try.t67, Try.underlying100, rfl, rfl, by kernel_rfl, by decide⟩⟩
instance : FTy Try.prog 100 0 0 false 1 := ⟨⟨_, _, 67, Try.underlying100, rfl, rfl, by kernel_rfl, inferInstance⟩⟩
instance : FOff Try.prog 100 1 1 := ⟨⟨_, _, Try.t9, Try.underlying100, rfl, rfl, by kernel_rfl, by decide⟩⟩
instance : FTy Try.prog 100 1 1 false 1 := ⟨⟨_, _, 9, Try.underlying100, rfl, rfl, by kernel_rfl, inferInstance⟩⟩
instance : FieldsL Try.prog 100 [(67, 0, 1), (9, 1, 1)] 2 := ⟨⟨_, Try.underlying100, by kernel_rfl, by kernel_rfl⟩⟩
instance : StructT Try.prog 100 := ⟨⟨_, Try.underlying100, by kernel_rfl⟩⟩
instance : HasT Try.prog 100 := ⟨⟨_, Try.underlying100⟩⟩
instance : ElT Try.prog 100 2 := ⟨⟨Try.t100, (.agg [.pointer none, .string ByteArray.empty].toArray : Value), by kernel_rfl, by kernel_rfl, by kernel_rfl, by kernel_rfl, by decide, by decide⟩⟩
instance : ZeroT Try.prog 100 (.agg [.pointer none, .string ByteArray.empty].toArray) := ⟨⟨Try.t100, by kernel_rfl, by kernel_rfl⟩⟩
instance : TySz Try.prog 101 false 1 := ⟨⟨Try.t101, _, by kernel_rfl, by kernel_rfl, Try.underlying101, by kernel_rfl⟩⟩
instance : SliT Try.prog 101 106 := ⟨Try.underlying101⟩
instance : HasT Try.prog 101 := ⟨⟨_, Try.underlying101⟩⟩
instance : ElT Try.prog 101 1 := ⟨⟨Try.t101, (.slice none 0 0 : Value), by kernel_rfl, by kernel_rfl, by kernel_rfl, by kernel_rfl, by decide, by decide⟩⟩
instance : ZeroT Try.prog 101 (.slice none 0 0) := ⟨⟨Try.t101, by kernel_rfl, by kernel_rfl⟩⟩
instance : TySz Try.prog 102 true 5 := ⟨⟨Try.t102, _, by kernel_rfl, by kernel_rfl, Try.underlying102, by kernel_rfl⟩⟩
instance : FOff Try.prog 102 0 0 := ⟨⟨_, _, Try.t25, Try.underlying102, rfl, rfl, by kernel_rfl, by decide⟩⟩
instance : FTy Try.prog 102 0 0 true 4 := ⟨⟨_, _, 25, Try.underlying102, rfl, rfl, by kernel_rfl, inferInstance⟩⟩
instance : FOff Try.prog 102 1 4 := ⟨⟨_, _, Try.t101, Try.underlying102, rfl, rfl, by kernel_rfl, by decide⟩⟩
instance : FTy Try.prog 102 1 4 false 1 := ⟨⟨_, _, 101, Try.underlying102, rfl, rfl, by kernel_rfl, inferInstance⟩⟩
instance : StructT Try.prog 102 := ⟨⟨_, Try.underlying102, by kernel_rfl⟩⟩
instance : HasT Try.prog 102 := ⟨⟨_, Try.underlying102⟩⟩
instance : ElT Try.prog 102 5 := ⟨⟨Try.t102, (.agg [.slice none 0 0, .slice none 0 0, .int .i64 0, .int .i64 0, .slice none 0 0].toArray : Value), by kernel_rfl, by kernel_rfl, by kernel_rfl, by kernel_rfl, by decide, by decide⟩⟩
instance : ZeroT Try.prog 102 (.agg [.slice none 0 0, .slice none 0 0, .int .i64 0, .int .i64 0, .slice none 0 0].toArray) := ⟨⟨Try.t102, by kernel_rfl, by kernel_rfl⟩⟩
instance : TySz Try.prog 103 true 5 := ⟨⟨Try.t103, _, by kernel_rfl, by kernel_rfl, Try.underlying103, by kernel_rfl⟩⟩
instance : FOff Try.prog 103 0 0 := ⟨⟨_, _, Try.t25, Try.underlying103, rfl, rfl, by kernel_rfl, by decide⟩⟩
instance : FTy Try.prog 103 0 0 true 4 := ⟨⟨_, _, 25, Try.underlying103, rfl, rfl, by kernel_rfl, inferInstance⟩⟩
instance : FOff Try.prog 103 1 4 := ⟨⟨_, _, Try.t101, Try.underlying103, rfl, rfl, by kernel_rfl, by decide⟩⟩
instance : FTy Try.prog 103 1 4 false 1 := ⟨⟨_, _, 101, Try.underlying103, rfl, rfl, by kernel_rfl, inferInstance⟩⟩
instance : FieldsL Try.prog 103 [(25, 0, 4), (101, 4, 1)] 5 := ⟨⟨_, Try.underlying103, by kernel_rfl, by kernel_rfl⟩⟩
instance : StructT Try.prog 103 := ⟨⟨_, Try.underlying103, by kernel_rfl⟩⟩
instance : HasT Try.prog 103 := ⟨⟨_, Try.underlying103⟩⟩
instance : ElT Try.prog 103 5 := ⟨⟨Try.t103, (.agg [.slice none 0 0, .slice none 0 0, .int .i64 0, .int .i64 0, .slice none 0 0].toArray : Value), by kernel_rfl, by kernel_rfl, by kernel_rfl, by kernel_rfl, by decide, by decide⟩⟩
instance : ZeroT Try.prog 103 (.agg [.slice none 0 0, .slice none 0 0, .int .i64 0, .int .i64 0, .slice none 0 0].toArray) := ⟨⟨Try.t103, by kernel_rfl, by kernel_rfl⟩⟩
instance : TySz Try.prog 104 false 1 := ⟨⟨Try.t104, _, by kernel_rfl, by kernel_rfl, Try.underlying104, by kernel_rfl⟩⟩
instance : HasT Try.prog 104 := ⟨⟨_, Try.underlying104⟩⟩
instance : ElT Try.prog 104 1 := ⟨⟨Try.t104, (.nilFunc : Value), by kernel_rfl, by kernel_rfl, by kernel_rfl, by kernel_rfl, by decide, by decide⟩⟩
instance : ZeroT Try.prog 104 (.nilFunc) := ⟨⟨Try.t104, by kernel_rfl, by kernel_rfl⟩⟩
instance : TySz Try.prog 105 false 1 := ⟨⟨Try.t105, _, by kernel_rfl, by kernel_rfl, Try.underlying105, by kernel_rfl⟩⟩
instance : HasT Try.prog 105 := ⟨⟨_, Try.underlying105⟩⟩
instance : ElT Try.prog 105 1 := ⟨⟨Try.t105, (.nilFunc : Value), by kernel_rfl, by kernel_rfl, by kernel_rfl, by kernel_rfl, by decide, by decide⟩⟩
instance : ZeroT Try.prog 105 (.nilFunc) := ⟨⟨Try.t105, by kernel_rfl, by kernel_rfl⟩⟩
instance : TySz Try.prog 106 false 1 := ⟨⟨Try.t106, _, by kernel_rfl, by kernel_rfl, Try.underlying106, by kernel_rfl⟩⟩
instance : PtrT Try.prog 106 := ⟨⟨_, Try.t110, Try.underlying106, by kernel_rfl, by decide⟩⟩
instance : HasT Try.prog 106 := ⟨⟨_, Try.underlying106⟩⟩
instance : ElT Try.prog 106 1 := ⟨⟨Try.t106, (.pointer none : Value), by kernel_rfl, by kernel_rfl, by kernel_rfl, by kernel_rfl, by decide, by decide⟩⟩
instance : ZeroT Try.prog 106 (.pointer none) := ⟨⟨Try.t106, by kernel_rfl, by kernel_rfl⟩⟩
instance : TySz Try.prog 108 false 1 := ⟨⟨Try.t108, _, by kernel_rfl, by kernel_rfl, Try.underlying108, by kernel_rfl⟩⟩
instance : HasT Try.prog 108 := ⟨⟨_, Try.underlying108⟩⟩
instance : ElT Try.prog 108 1 := ⟨⟨Try.t108, (.nilFunc : Value), by kernel_rfl, by kernel_rfl, by kernel_rfl, by kernel_rfl, by decide, by decide⟩⟩
instance : ZeroT Try.prog 108 (.nilFunc) := ⟨⟨Try.t108, by kernel_rfl, by kernel_rfl⟩⟩
instance : TySz Try.prog 109 true 1 := ⟨⟨Try.t109, _, by kernel_rfl, by kernel_rfl, Try.underlying109, by kernel_rfl⟩⟩
instance : FOff Try.prog 109 0 0 := ⟨⟨_, _, Try.t71, Try.underlying109, rfl, rfl, by kernel_rfl, by decide⟩⟩
instance : FTy Try.prog 109 0 0 false 1 := ⟨⟨_, _, 71, Try.underlying109, rfl, rfl, by kernel_rfl, inferInstance⟩⟩
instance : StructT Try.prog 109 := ⟨⟨_, Try.underlying109, by kernel_rfl⟩⟩
instance : HasT Try.prog 109 := ⟨⟨_, Try.underlying109⟩⟩
instance : ElT Try.prog 109 1 := ⟨⟨Try.t109, (.agg [.slice none 0 0].toArray : Value), by kernel_rfl, by kernel_rfl, by kernel_rfl, by kernel_rfl, by decide, by decide⟩⟩
instance : ZeroT Try.prog 109 (.agg [.slice none 0 0].toArray) := ⟨⟨Try.t109, by kernel_rfl, by kernel_rfl⟩⟩
instance : TySz Try.prog 110 true 1 := ⟨⟨Try.t110, _, by kernel_rfl, by kernel_rfl, Try.underlying110, by kernel_rfl⟩⟩
instance : FOff Try.prog 110 0 0 := ⟨⟨_, _, Try.t71, Try.underlying110, rfl, rfl, by kernel_rfl, by decide⟩⟩
instance : FTy Try.prog 110 0 0 false 1 := ⟨⟨_, _, 71, Try.underlying110, rfl, rfl, by kernel_rfl, inferInstance⟩⟩
instance : FieldsL Try.prog 110 [(71, 0, 1)] 1 := ⟨⟨_, Try.underlying110, by kernel_rfl, by kernel_rfl⟩⟩
instance : StructT Try.prog 110 := ⟨⟨_, Try.underlying110, by kernel_rfl⟩⟩
instance : HasT Try.prog 110 := ⟨⟨_, Try.underlying110⟩⟩
instance : ElT Try.prog 110 1 := ⟨⟨Try.t110, (.agg [.slice none 0 0].toArray : Value), by kernel_rfl, by kernel_rfl, by kernel_rfl, by kernel_rfl, by decide, by decide⟩⟩
instance : ZeroT Try.prog 110 (.agg [.slice none 0 0].toArray) := ⟨⟨Try.t110, by kernel_rfl, by kernel_rfl⟩⟩
instance : TySz Try.prog 111 false 1 := ⟨⟨Try.t111, _, by kernel_rfl, by kernel_rfl, Try.underlying111, by kernel_rfl⟩⟩
instance : HasT Try.prog 111 := ⟨⟨_, Try.underlying111⟩⟩
instance : ElT Try.prog 111 1 := ⟨⟨Try.t111, (.nilFunc : Value), by kernel_rfl, by kernel_rfl, by kernel_rfl, by kernel_rfl, by decide, by decide⟩⟩
instance : ZeroT Try.prog 111 (.nilFunc) := ⟨⟨Try.t111, by kernel_rfl, by kernel_rfl⟩⟩
instance : TySz Try.prog 112 false 1 := ⟨⟨Try.t112, _, by kernel_rfl, by kernel_rfl, Try.underlying112, by kernel_rfl⟩⟩
instance : HasT Try.prog 112 := ⟨⟨_, Try.underlying112⟩⟩
instance : ElT Try.prog 112 1 := ⟨⟨Try.t112, (.nilFunc : Value), by kernel_rfl, by kernel_rfl, by kernel_rfl, by kernel_rfl, by decide, by decide⟩⟩
instance : ZeroT Try.prog 112 (.nilFunc) := ⟨⟨Try.t112, by kernel_rfl, by kernel_rfl⟩⟩
instance : TySz Try.prog 113 true 2 := ⟨⟨Try.t113, _, by kernel_rfl, by kernel_rfl, Try.underlying113, by kernel_rfl⟩⟩
instance : FOff Try.prog 113 0 0 := ⟨⟨_, _, Try.t3, Try.underlying113, rfl, rfl, by kernel_rfl, by decide⟩⟩
instance : FTy Try.prog 113 0 0 false 1 := ⟨⟨_, _, 3, Try.underlying113, rfl, rfl, by kernel_rfl, inferInstance⟩⟩
instance : FOff Try.prog 113 1 1 := ⟨⟨_, _, Try.t3, Try.underlying113, rfl, rfl, by kernel_rfl, by decide⟩⟩
instance : FTy Try.prog 113 1 1 false 1 := ⟨⟨_, _, 3, Try.underlying113, rfl, rfl, by kernel_rfl, inferInstance⟩⟩
instance : StructT Try.prog 113 := ⟨⟨_, Try.underlying113, by kernel_rfl⟩⟩
instance : HasT Try.prog 113 := ⟨⟨_, Try.underlying113⟩⟩
instance : ElT Try.prog 113 2 := ⟨⟨Try.t113, (.agg [.int .i64 0, .int .i64 0].toArray : Value), by kernel_rfl, by kernel_rfl, by kernel_rfl, by kernel_rfl, by decide, by decide⟩⟩
instance : ZeroT Try.prog 113 (.agg [.int .i64 0, .int .i64 0].toArray) := ⟨⟨Try.t113, by kernel_rfl, by kernel_rfl⟩⟩
instance : TySz Try.prog 114 true 2 := ⟨⟨Try.t114, _, by kernel_rfl, by kernel_rfl, Try.underlying114, by kernel_rfl⟩⟩
instance : FOff Try.prog 114 0 0 := ⟨⟨_, _, Try.t3, Try.underlying114, rfl, rfl, by kernel_rfl, by decide⟩⟩
instance : FTy Try.prog 114 0 0 false 1 := ⟨⟨_, _, 3, Try.underlying114, rfl, rfl, by kernel_rfl, inferInstance⟩⟩
instance : FOff Try.prog 114 1 1 := ⟨⟨_, _, Try.t3, Try.underlying114, rfl, rfl, by kernel_rfl, by decide⟩⟩
instance : FTy Try.prog 114 1 1 false 1 := ⟨⟨_, _, 3, Try.underlying114, rfl, rfl, by kernel_rfl, inferInstance⟩⟩
instance : FieldsT Try.prog 114 [(3, 0), (3, 1)] := ⟨⟨_, Try.underlying114, by kernel_rfl, by kernel_rfl, by kernel_rfl, by kernel_rfl⟩⟩
instance : FieldsL Try.prog 114 [(3, 0, 1), (3, 1, 1)] 2 := ⟨⟨_, Try.underlying114, by kernel_rfl, by kernel_rfl⟩⟩
instance : StructT Try.prog 114 := ⟨⟨_, Try.underlying114, by kernel_rfl⟩⟩
instance : HasT Try.prog 114 := ⟨⟨_, Try.underlying114⟩⟩
instance : ElT Try.prog 114 2 := ⟨⟨Try.t114, (.agg [.int .i64 0, .int .i64 0].toArray : Value), by kernel_rfl, by kernel_rfl, by kernel_rfl, by kernel_rfl, by decide, by decide⟩⟩
instance : ZeroT Try.prog 114 (.agg [.int .i64 0, .int .i64 0].toArray) := ⟨⟨Try.t114, by kernel_rfl, by kernel_rfl⟩⟩
instance : TySz Try.prog 115 false 1 := ⟨⟨Try.t115, _, by kernel_rfl, by kernel_rfl, Try.underlying115, by kernel_rfl⟩⟩
instance : MapT Try.prog 115 9 3 := ⟨Try.underlying115⟩
instance : HasT Try.prog 115 := ⟨⟨_, Try.underlying115⟩⟩
instance : ElT Try.prog 115 1 := ⟨⟨Try.t115, (.map none : Value), by kernel_rfl, by kernel_rfl, by kernel_rfl, by kernel_rfl, by decide, by decide⟩⟩
instance : ZeroT Try.prog 115 (.map none) := ⟨⟨Try.t115, by kernel_rfl, by kernel_rfl⟩⟩
instance : TySz Try.prog 116 false 1 := ⟨⟨Try.t116, _, by kernel_rfl, by kernel_rfl, Try.underlying116, by kernel_rfl⟩⟩
instance : SliT Try.prog 116 114 := ⟨Try.underlying116⟩
instance : HasT Try.prog 116 := ⟨⟨_, Try.underlying116⟩⟩
instance : ElT Try.prog 116 1 := ⟨⟨Try.t116, (.slice none 0 0 : Value), by kernel_rfl, by kernel_rfl, by kernel_rfl, by kernel_rfl, by decide, by decide⟩⟩
instance : ZeroT Try.prog 116 (.slice none 0 0) := ⟨⟨Try.t116, by kernel_rfl, by kernel_rfl⟩⟩
instance : TySz Try.prog 117 true 6 := ⟨⟨Try.t117, _, by kernel_rfl, by kernel_rfl, Try.underlying117, by kernel_rfl⟩⟩
instance : FOff Try.prog 117 0 0 := ⟨⟨_, _, Try.t71, Try.underlying117, rfl, rfl, by kernel_rfl, by decide⟩⟩
instance : FTy Try.prog 117 0 0 false 1 := ⟨⟨_, _, 71, Try.underlying117, rfl, rfl, by kernel_rfl, inferInstance⟩⟩
instance : FOff Try.prog 117 1 1 := ⟨⟨_, _, Try.t115, Try.underlying117, rfl, rfl, by kernel_rfl, by decide⟩⟩
instance : FTy Try.prog 117 1 1 false 1 := ⟨⟨_, _, 115, Try.underlying117, rfl, rfl, by kernel_rfl, inferInstance⟩⟩
instance : FOff Try.prog 117 2 2 := ⟨⟨_, _, Try.t57, Try.underlying117, rfl, rfl, by kernel_rfl, by decide⟩⟩
instance : FTy Try.prog 117 2 2 false 1 := ⟨⟨_, _, 57, Try.underlying117, rfl, rfl, by kernel_rfl, inferInstance⟩⟩
instance : FOff Try.prog 117 3 3 := ⟨⟨_, _, Try.t35, Try.underlying117, rfl, rfl, by kernel_rfl, by decide⟩⟩
instance : FTy Try.prog 117 3 3 false 1 := ⟨⟨_, _, 35, Try.underlying117, rfl, rfl, by kernel_rfl, inferInstance⟩⟩
instance : FOff Try.prog 117 4 4 := ⟨⟨_, _, Try.t35, Try.underlying117, rfl, rfl, by kernel_rfl, by decide⟩⟩
instance : FTy Try.prog 117 4 4 false 1 := ⟨⟨_, _, 35, Try.underlying117, rfl, rfl, by kernel_rfl, inferInstance⟩⟩
instance : FOff Try.prog 117 5 5 := ⟨⟨_, _, Try.t116, Try.underlying117, rfl, rfl, by kernel_rfl, by decide⟩⟩
instance : FTy Try.prog 117 5 5 false 1 := ⟨⟨_, _, 116, Try.underlying117, rfl, rfl, by kernel_rfl, inferInstance⟩⟩
instance : StructT Try.prog 117 := ⟨⟨_, Try.underlying117, by kernel_rfl⟩⟩
instance : HasT Try.prog 117 := ⟨⟨_, Try.underlying117⟩⟩
instance : ElT Try.prog 117 6 := ⟨⟨Try.t117, (.agg [.slice none 0 0, .map none, .slice none 0 0, .slice none 0 0, .slice none 0 0, .slice none 0 0].toArray : Value), by kernel_rfl, by kernel_rfl, by kernel_rfl, by kernel_rfl, by decide, by decide⟩⟩
instance : ZeroT Try.prog 117 (.agg [.slice none 0 0, .map none, .slice none 0 0, .slice none 0 0, .slice none 0 0, .slice none 0 0].toArray) := ⟨⟨Try.t117, by kernel_rfl, by kernel_rfl⟩⟩
instance : TySz Try.prog 118 true 6 := ⟨⟨Try.t118, _, by kernel_rfl, by kernel_rfl, Try.underlying118, by kernel_rfl⟩⟩
instance : FOff Try.prog 118 0 0 := ⟨⟨_, _, Try.t71, Try.underlying118, rfl, rfl, by kernel_rfl, by decide⟩⟩
instance : FTy Try.prog 118 0 0 false 1 := ⟨⟨_, _, 71, Try.underlying118, rfl, rfl, by kernel_rfl, inferInstance⟩⟩
instance : FOff Try.prog 118 1 1 := ⟨⟨_, _, Try.t115, Try.underlying118, rfl, rfl, by kernel_rfl, by decide⟩⟩
instance : FTy Try.prog 118 1 1 false 1 := ⟨⟨_, _, 115, Try.underlying118, rfl, rfl, by kernel_rfl, inferInstance⟩⟩
instance : FOff Try.prog 118 2 2 := ⟨⟨_, _, Try.t57, Try.underlying118, rfl, rfl, by kernel_rfl, by decide⟩⟩
instance : FTy Try.prog 118 2 2 false 1 := ⟨⟨_, _, 57, Try.underlying118, rfl, rfl, by kernel_rfl, inferInstance⟩⟩
instance : FOff Try.prog 118 3 3 := ⟨⟨_, _, Try.t35, Try.underlying118, rfl, rfl, by kernel_rfl, by decide⟩⟩
instance : FTy Try.prog 118 3 3 false 1 := ⟨⟨_, _, 35, Try.underlying118, rfl, rfl, by kernel_rfl, inferInstance⟩⟩
instance : FOff Try.prog 118 4 4 := ⟨⟨_, _, Try.t35, Try.underlying118, rfl, rfl, by kernel_rfl, by decide⟩⟩
instance : FTy Try.prog 118 4 4 false 1 := ⟨⟨_, _, 35, Try.underlying118, rfl, rfl, by kernel_rfl, inferInstance⟩⟩
instance : FOff Try.prog 118 5 5 := ⟨⟨_, _, Try.t116, Try.underlying118, rfl, rfl, by kernel_rfl, by decide⟩⟩
instance : FTy Try.prog 118 5 5 false 1 := ⟨⟨_, _, 116, Try.underlying118, rfl, rfl, by kernel_rfl, inferInstance⟩⟩
instance : FieldsL Try.prog 118 [(71, 0, 1), (115, 1, 1), (57, 2, 1), (35, 3, 1), (35, 4, 1), (116, 5, 1)] 6 := ⟨⟨_, Try.underlying118, by kernel_rfl, by kernel_rfl⟩⟩
instance : StructT Try.prog 118 := ⟨⟨_, Try.underlying118, by kernel_rfl⟩⟩
instance : HasT Try.prog 118 := ⟨⟨_, Try.underlying118⟩⟩
instance : ElT Try.prog 118 6 := ⟨⟨Try.t118, (.agg [.slice none 0 0, .map none, .slice none 0 0, .slice none 0 0, .slice none 0 0, .slice none 0 0].toArray : Value), by kernel_rfl, by kernel_rfl, by kernel_rfl, by kernel_rfl, by decide, by decide⟩⟩
instance : ZeroT Try.prog 118 (.agg [.slice none 0 0, .map none, .slice none 0 0, .slice none 0 0, .slice none 0 0, .slice none 0 0].toArray) := ⟨⟨Try.t118, by kernel_rfl, by kernel_rfl⟩⟩
instance : TySz Try.prog 119 false 1 := ⟨⟨Try.t119, _, by kernel_rfl, by kernel_rfl, Try.underlying119, by kernel_rfl⟩⟩
instance : HasT Try.prog 119 := ⟨⟨_, Try.underlying119⟩⟩
instance : ElT Try.prog 119 1 := ⟨⟨Try.t119, (.nilFunc : Value), by kernel_rfl, by kernel_rfl, by kernel_rfl, by kernel_rfl, by decide, by decide⟩⟩
instance : ZeroT Try.prog 119 (.nilFunc) := ⟨⟨Try.t119, by kernel_rfl, by kernel_rfl⟩⟩
instance : TySz Try.prog 120 false 1 := ⟨⟨Try.t120, _, by kernel_rfl, by kernel_rfl, Try.underlying120, by kernel_rfl⟩⟩
instance : HasT Try.prog 120 := ⟨⟨_, Try.underlying120⟩⟩
instance : ElT Try.prog 120 1 := ⟨⟨Try.t120, (.nilFunc : Value), by kernel_rfl, by kernel_rfl, by kernel_rfl, by kernel_rfl, by decide, by decide⟩⟩
instance : ZeroT Try.prog 120 (.nilFunc) := ⟨⟨Try.t120, by kernel_rfl, by kernel_rfl⟩⟩
instance : TySz Try.prog 121 false 1 := ⟨⟨Try.t121, _, by kernel_rfl, by kernel_rfl, Try.underlying121, by kernel_rfl⟩⟩
instance : HasT Try.prog 121 := ⟨⟨_, Try.underlying121⟩⟩
instance : ElT Try.prog 121 1 := ⟨⟨Try.t121, (.nilFunc : Value), by kernel_rfl, by kernel_rfl, by kernel_rfl, by kernel_rfl, by decide, by decide⟩⟩
instance : ZeroT Try.prog 121 (.nilFunc) := ⟨⟨Try.t121, by kernel_rfl, by kernel_rfl⟩⟩
instance : TySz Try.prog 122 false 1 := ⟨⟨Try.t122, _, by kernel_rfl, by kernel_rfl, Try.underlying122, by kernel_rfl⟩⟩
instance : HasT Try.prog 122 := ⟨⟨_, Try.underlying122⟩⟩
instance : ElT Try.prog 122 1 := ⟨⟨Try.t122, (.nilFunc : Value), by kernel_rfl, by kernel_rfl, by kernel_rfl, by kernel_rfl, by decide, by decide⟩⟩
instance : ZeroT Try.prog 122 (.nilFunc) := ⟨⟨Try.t122, by kernel_rfl, by kernel_rfl⟩⟩
instance : TySz Try.prog 123 false 1 := ⟨⟨Try.t123, _, by kernel_rfl, by kernel_rfl, Try.underlying123, by kernel_rfl⟩⟩
instance : HasT Try.prog 123 := ⟨⟨_, Try.underlying123⟩⟩
instance : ElT Try.prog 123 1 := ⟨⟨Try.t123, (.nilFunc : Value), by kernel_rfl, by kernel_rfl, by kernel_rfl, by kernel_rfl, by decide, by decide⟩⟩
instance : ZeroT Try.prog 123 (.nilFunc) := ⟨⟨Try.t123, by kernel_rfl, by kernel_rfl⟩⟩
instance : TySz Try.prog 124 false 1 := ⟨⟨Try.t124, _, by kernel_rfl, by kernel_rfl, Try.underlying124, by kernel_rfl⟩⟩
instance : IntT Try.prog 124 .u64 := ⟨Try.underlying124⟩
instance : HasT Try.prog 124 := ⟨⟨_, Try.underlying124⟩⟩
instance : ElT Try.prog 124 1 := ⟨⟨Try.t124, (.int .u64 0 : Value), by kernel_rfl, by kernel_rfl, by kernel_rfl, by kernel_rfl, by decide, by decide⟩⟩
instance : ZeroT Try.prog 124 (.int .u64 0) := ⟨⟨Try.t124, by kernel_rfl, by kernel_rfl⟩⟩
instance : TySz Try.prog 125 false 1 := ⟨⟨Try.t125, _, by kernel_rfl, by kernel_rfl, Try.underlying125, by kernel_rfl⟩⟩
instance : HasT Try.prog 125 := ⟨⟨_, Try.underlying125⟩⟩
instance : ElT Try.prog 125 1 := ⟨⟨Try.t125, (.nilFunc : Value), by kernel_rfl, by kernel_rfl, by kernel_rfl, by kernel_rfl, by decide, by decide⟩⟩
instance : ZeroT Try.prog 125 (.nilFunc) := ⟨⟨Try.t125, by kernel_rfl, by kernel_rfl⟩⟩
instance : TySz Try.prog 126 false 1 := ⟨⟨Try.t126, _, by kernel_rfl, by kernel_rfl, Try.underlying126, by kernel_rfl⟩⟩
instance : HasT Try.prog 126 := ⟨⟨_, Try.underlying126⟩⟩
instance : ElT Try.prog 126 1 := ⟨⟨Try.t126, (.nilFunc : Value), by kernel_rfl, by kernel_rfl, by kernel_rfl, by kernel_rfl, by decide, by decide⟩⟩
instance : ZeroT Try.prog 126 (.nilFunc) := ⟨⟨Try.t126, by kernel_rfl, by kernel_rfl⟩⟩
instance : TySz Try.prog 127 false 1 := ⟨⟨Try.t127, _, by kernel_rfl, by kernel_rfl, Try.underlying127, by kernel_rfl⟩⟩
instance : HasT Try.prog 127 := ⟨⟨_, Try.underlying127⟩⟩
instance : ElT Try.prog 127 1 := ⟨⟨Try.t127, (.nilFunc : Value), by kernel_rfl, by kernel_rfl, by kernel_rfl, by kernel_rfl, by decide, by decide⟩⟩
instance : ZeroT Try.prog 127 (.nilFunc) := ⟨⟨Try.t127, by kernel_rfl, by kernel_rfl⟩⟩
instance : TySz Try.prog 128 false 1 := ⟨⟨Try.t128, _, by kernel_rfl, by kernel_rfl, Try.underlying128, by kernel_rfl⟩⟩
instance : HasT Try.prog 128 := ⟨⟨_, Try.underlying128⟩⟩
instance : ElT Try.prog 128 1 := ⟨⟨Try.t128, (.nilFunc : Value), by kernel_rfl, by kernel_rfl, by kernel_rfl, by kernel_rfl, by decide, by decide⟩⟩
instance : ZeroT Try.prog 128 (.nilFunc) := ⟨⟨Try.t128, by kernel_rfl, by kernel_rfl⟩⟩
instance : TySz Try.prog 129 false 1 := ⟨⟨Try.t129, _, by kernel_rfl, by kernel_rfl, Try.underlying129, by kernel_rfl⟩⟩
instance : HasT Try.prog 129 := ⟨⟨_, Try.underlying129⟩⟩
instance : ElT Try.prog 129 1 := ⟨⟨Try.t129, (.nilFunc : Value), by kernel_rfl, by kernel_rfl, by kernel_rfl, by kernel_rfl, by decide, by decide⟩⟩
instance : ZeroT Try.prog 129 (.nilFunc) := ⟨⟨Try.t129, by kernel_rfl, by kernel_rfl⟩⟩
instance : TySz Try.prog 130 false 1 := ⟨⟨Try.t130, _, by kernel_rfl, by kernel_rfl, Try.underlying130, by kernel_rfl⟩⟩
instance : HasT Try.prog 130 := ⟨⟨_, Try.underlying130⟩⟩
instance : ElT Try.prog 130 1 := ⟨⟨Try.t130, (.nilFunc : Value), by kernel_rfl, by kernel_rfl, by kernel_rfl, by kernel_rfl, by decide, by decide⟩⟩
instance : ZeroT Try.prog 130 (.nilFunc) := ⟨⟨Try.t130, by kernel_rfl, by kernel_rfl⟩⟩
instance : TySz Try.prog 131 false 1 := ⟨⟨Try.t131, _, by kernel_rfl, by kernel_rfl, Try.underlying131, by kernel_rfl⟩⟩
instance : HasT Try.prog 131 := ⟨⟨_, Try.underlying131⟩⟩
instance : ElT Try.prog 131 1 := ⟨⟨Try.t131, (.nilFunc : Value), by kernel_rfl, by kernel_rfl, by kernel_rfl, by kernel_rfl, by decide, by decide⟩⟩
instance : ZeroT Try.prog 131 (.nilFunc) := ⟨⟨Try.t131, by kernel_rfl, by kernel_rfl⟩⟩
instance : TySz Try.prog 132 false 1 := ⟨⟨Try.t132, _, by kernel_rfl, by kernel_rfl, Try.underlying132, by kernel_rfl⟩⟩
instance : HasT Try.prog 132 := ⟨⟨_, Try.underlying132⟩⟩
instance : ElT Try.prog 132 1 := ⟨⟨Try.t132, (.nilFunc : Value), by kernel_rfl, by kernel_rfl, by kernel_rfl, by kernel_rfl, by decide, by decide⟩⟩
instance : ZeroT Try.prog 132 (.nilFunc) := ⟨⟨Try.t132, by kernel_rfl, by kernel_rfl⟩⟩
instance : TySz Try.prog 133 false 1 := ⟨⟨Try.t133, _, by kernel_rfl, by kernel_rfl, Try.underlying133, by kernel_rfl⟩⟩
instance : HasT Try.prog 133 := ⟨⟨_, Try.underlying133⟩⟩
instance : ElT Try.prog 133 1 := ⟨⟨Try.t133, (.nilFunc : Value), by kernel_rfl, by kernel_rfl, by kernel_rfl, by kernel_rfl, by decide, by decide⟩⟩
instance : ZeroT Try.prog 133 (.nilFunc) := ⟨⟨Try.t133, by kernel_rfl, by kernel_rfl⟩⟩
instance : TySz Try.prog 134 false 1 := ⟨⟨Try.t134, _, by kernel_rfl, by kernel_rfl, Try.underlying134, by kernel_rfl⟩⟩
instance : IntT Try.prog 134 .i64 := ⟨Try.underlying134⟩
instance : HasT Try.prog 134 := ⟨⟨_, Try.underlying134⟩⟩
instance : ElT Try.prog 134 1 := ⟨⟨Try.t134, (.int .i64 0 : Value), by kernel_rfl, by kernel_rfl, by kernel_rfl, by kernel_rfl, by decide, by decide⟩⟩
instance : ZeroT Try.prog 134 (.int .i64 0) := ⟨⟨Try.t134, by kernel_rfl, by kernel_rfl⟩⟩
instance : TySz Try.prog 136 false 1 := ⟨⟨Try.t136, _, by kernel_rfl, by kernel_rfl, Try.underlying136, by kernel_rfl⟩⟩
instance : HasT Try.prog 136 := ⟨⟨_, Try.underlying136⟩⟩
instance : ElT Try.prog 136 1 := ⟨⟨Try.t136, (.nilFunc : Value), by kernel_rfl, by kernel_rfl, by kernel_rfl, by kernel_rfl, by decide, by decide⟩⟩
instance : ZeroT Try.prog 136 (.nilFunc) := ⟨⟨Try.t136, by kernel_rfl, by kernel_rfl⟩⟩
instance : TySz Try.prog 137 false 1 := ⟨⟨Try.t137, _, by kernel_rfl, by kernel_rfl, Try.underlying137, by kernel_rfl⟩⟩
instance : HasT Try.prog 137 := ⟨⟨_, Try.underlying137⟩⟩
instance : ElT Try.prog 137 1 := ⟨⟨Try.t137, (.nilFunc : Value), by kernel_rfl, by kernel_rfl, by kernel_rfl, by kernel_rfl, by decide, by decide⟩⟩
instance : ZeroT Try.prog 137 (.nilFunc) := ⟨⟨Try.t137, by kernel_rfl, by kernel_rfl⟩⟩
instance : TySz Try.prog 138 false 1 := ⟨⟨Try.t138, _, by kernel_rfl, by kernel_rfl, Try.underlying138, by kernel_rfl⟩⟩
instance : HasT Try.prog 138 := ⟨⟨_, Try.underlying138⟩⟩
instance : ElT Try.prog 138 1 := ⟨⟨Try.t138, (.nilFunc : Value), by kernel_rfl, by kernel_rfl, by kernel_rfl, by kernel_rfl, by decide, by decide⟩⟩
instance : ZeroT Try.prog 138 (.nilFunc) := ⟨⟨Try.t138, by kernel_rfl, by kernel_rfl⟩⟩
instance : TySz Try.prog 140 false 1 := ⟨⟨Try.t140, _, by kernel_rfl, by kernel_rfl, Try.underlying140, by kernel_rfl⟩⟩
instance : HasT Try.prog 140 := ⟨⟨_, Try.underlying140⟩⟩
instance : ElT Try.prog 140 1 := ⟨⟨Try.t140, (.nilFunc : Value), by kernel_rfl, by kernel_rfl, by kernel_rfl, by kernel_rfl, by decide, by decide⟩⟩
instance : ZeroT Try.prog 140 (.nilFunc) := ⟨⟨Try.t140, by kernel_rfl, by kernel_rfl⟩⟩
instance : TySz Try.prog 141 false 1 := ⟨⟨Try.t141, _, by kernel_rfl, by kernel_rfl, Try.underlying141, by kernel_rfl⟩⟩
instance : HasT Try.prog 141 := ⟨⟨_, Try.underlying141⟩⟩
instance : ElT Try.prog 141 1 := ⟨⟨Try.t141, (.nilFunc : Value), by kernel_rfl, by kernel_rfl, by kernel_rfl, by kernel_rfl, by decide, by decide⟩⟩
instance : ZeroT Try.prog 141 (.nilFunc) := ⟨⟨Try.t141, by kernel_rfl, by kernel_rfl⟩⟩
instance : TySz Try.prog 142 false 1 := ⟨⟨Try.t142, _, by kernel_rfl, by kernel_rfl, Try.underlying142, by kernel_rfl⟩⟩
instance : IntT Try.prog 142 .u32 := ⟨Try.underlying142⟩
instance : HasT Try.prog 142 := ⟨⟨_, Try.underlying142⟩⟩
instance : ElT Try.prog 142 1 := ⟨⟨Try.t142, (.int .u32 0 : Value), by kernel_rfl, by kernel_rfl, by kernel_rfl, by kernel_rfl, by decide, by decide⟩⟩
instance : ZeroT Try.prog 142 (.int .u32 0) := ⟨⟨Try.t142, by kernel_rfl, by kernel_rfl⟩⟩
instance : TySz Try.prog 143 false 1 := ⟨⟨Try.t143, _, by kernel_rfl, by kernel_rfl, Try.underlying143, by kernel_rfl⟩⟩
instance : HasT Try.prog 143 := ⟨⟨_, Try.underlying143⟩⟩
instance : ElT Try.prog 143 1 := ⟨⟨Try.t143, (.nilFunc : Value), by kernel_rfl, by kernel_rfl, by kernel_rfl, by kernel_rfl, by decide, by decide⟩⟩
instance : ZeroT Try.prog 143 (.nilFunc) := ⟨⟨Try.t143, by kernel_rfl, by kernel_rfl⟩⟩
instance : TySz Try.prog 144 false 1 := ⟨⟨Try.t144, _, by kernel_rfl, by kernel_rfl, Try.underlying144, by kernel_rfl⟩⟩
instance : IntT Try.prog 144 .u64 := ⟨Try.underlying144⟩
instance : HasT Try.prog 144 := ⟨⟨_, Try.underlying144⟩⟩
instance : ElT Try.prog 144 1 := ⟨⟨Try.t144, (.int .u64 0 : Value), by kernel_rfl, by kernel_rfl, by kernel_rfl, by kernel_rfl, by decide, by decide⟩⟩
instance : ZeroT Try.prog 144 (.int .u64 0) := ⟨⟨Try.t144, by kernel_rfl, by kernel_rfl⟩⟩
instance : TySz Try.prog 145 false 1 := ⟨⟨Try.t145, _, by kernel_rfl, by kernel_rfl, Try.underlying145, by kernel_rfl⟩⟩
instance : HasT Try.prog 145 := ⟨⟨_, Try.underlying145⟩⟩
instance : ElT Try.prog 145 1 := ⟨⟨Try.t145, (.nilFunc : Value), by kernel_rfl, by kernel_rfl, by kernel_rfl, by kernel_rfl, by decide, by decide⟩⟩
instance : ZeroT Try.prog 145 (.nilFunc) := ⟨⟨Try.t145, by kernel_rfl, by kernel_rfl⟩⟩
instance : TySz Try.prog 146 false 1 := ⟨⟨Try.t146, _, by kernel_rfl, by kernel_rfl, Try.underlying146, by kernel_rfl⟩⟩
instance : HasT Try.prog 146 := ⟨⟨_, Try.underlying146⟩⟩
instance : ElT Try.prog 146 1 := ⟨⟨Try.t146, (.nilFunc : Value), by kernel_rfl, by kernel_rfl, by kernel_rfl, by kernel_rfl, by decide, by decide⟩⟩
instance : ZeroT Try.prog 146 (.nilFunc) := ⟨⟨Try.t146, by kernel_rfl, by kernel_rfl⟩⟩
instance : TySz Try.prog 147 false 1 := ⟨⟨Try.t147, _, by kernel_rfl, by kernel_rfl, Try.underlying147, by kernel_rfl⟩⟩
instance : HasT Try.prog 147 := ⟨⟨_, Try.underlying147⟩⟩
instance : ElT Try.prog 147 1 := ⟨⟨Try.t147, (.nilFunc : Value), by kernel_rfl, by kernel_rfl, by kernel_rfl, by kernel_rfl, by decide, by decide⟩⟩
instance : ZeroT Try.prog 147 (.nilFunc) := ⟨⟨Try.t147, by kernel_rfl, by kernel_rfl⟩⟩
instance : TySz Try.prog 148 false 1 := ⟨⟨Try.t148, _, by kernel_rfl, by kernel_rfl, Try.underlying148, by kernel_rfl⟩⟩
instance : HasT Try.prog 148 := ⟨⟨_, Try.underlying148⟩⟩
instance : ElT Try.prog 148 1 := ⟨⟨Try.t148, (.nilFunc : Value), by kernel_rfl, by kernel_rfl, by kernel_rfl, by kernel_rfl, by decide, by decide⟩⟩
instance : ZeroT Try.prog 148 (.nilFunc) := ⟨⟨Try.t148, by kernel_rfl, by kernel_rfl⟩⟩
instance : TySz Try.prog 149 false 1 := ⟨⟨Try.t149, _, by kernel_rfl, by kernel_rfl, Try.underlying149, by kernel_rfl⟩⟩
instance : HasT Try.prog 149 := ⟨⟨_, Try.underlying149⟩⟩
instance : ElT Try.prog 149 1 := ⟨⟨Try.t149, (.nilFunc : Value), by kernel_rfl, by kernel_rfl, by kernel_rfl, by kernel_rfl, by decide, by decide⟩⟩
instance : ZeroT Try.prog 149 (.nilFunc) := ⟨⟨Try.t149, by kernel_rfl, by kernel_rfl⟩⟩
instance : TySz Try.prog 150 false 1 := ⟨⟨Try.t150, _, by kernel_rfl, by kernel_rfl, Try.underlying150, by kernel_rfl⟩⟩
instance : IntT Try.prog 150 .u64 := ⟨Try.underlying150⟩
instance : HasT Try.prog 150 := ⟨⟨_, Try.underlying150⟩⟩
instance : ElT Try.prog 150 1 := ⟨⟨Try.t150, (.int .u64 0 : Value), by kernel_rfl, by kernel_rfl, by kernel_rfl, by kernel_rfl, by decide, by decide⟩⟩
instance : ZeroT Try.prog 150 (.int .u64 0) := ⟨⟨Try.t150, by kernel_rfl, by kernel_rfl⟩⟩
instance : TySz Try.prog 151 false 1 := ⟨⟨Try.t151, _, by kernel_rfl, by kernel_rfl, Try.underlying151, by kernel_rfl⟩⟩
instance : HasT Try.prog 151 := ⟨⟨_, Try.underlying151⟩⟩
instance : ElT Try.prog 151 1 := ⟨⟨Try.t151, (.nilFunc : Value), by kernel_rfl, by kernel_rfl, by kernel_rfl, by kernel_rfl, by decide, by decide⟩⟩
instance : ZeroT Try.prog 151 (.nilFunc) := ⟨⟨Try.t151, by kernel_rfl, by kernel_rfl⟩⟩
instance : TySz Try.prog 152 false 1 := ⟨⟨Try.t152, _, by kernel_rfl, by kernel_rfl, Try.underlying152, by kernel_rfl⟩⟩
instance : HasT Try.prog 152 := ⟨⟨_, Try.underlying152⟩⟩
instance : ElT Try.prog 152 1 := ⟨⟨Try.t152, (.nilFunc : Value), by kernel_rfl, by kernel_rfl, by kernel_rfl, by kernel_rfl, by decide, by decide⟩⟩
instance : ZeroT Try.prog 152 (.nilFunc) := ⟨⟨Try.t152, by kernel_rfl, by kernel_rfl⟩⟩
instance : TySz Try.prog 153 false 1 := ⟨⟨Try.t153, _, by kernel_rfl, by kernel_rfl, Try.underlying153, by kernel_rfl⟩⟩
instance : HasT Try.prog 153 := ⟨⟨_, Try.underlying153⟩⟩
instance : ElT Try.prog 153 1 := ⟨⟨Try.t153, (.nilFunc : Value), by kernel_rfl, by kernel_rfl, by kernel_rfl, by kernel_rfl, by decide, by decide⟩⟩
instance : ZeroT Try.prog 153 (.nilFunc) := ⟨⟨Try.t153, by kernel_rfl, by kernel_rfl⟩⟩
instance : TySz Try.prog 154 false 1 := ⟨⟨Try.t154, _, by kernel_rfl, by kernel_rfl, Try.underlying154, by kernel_rfl⟩⟩
instance : PtrT Try.prog 154 := ⟨⟨_, Try.t3, Try.underlying154, by kernel_rfl, by decide⟩⟩
instance : HasT Try.prog 154 := ⟨⟨_, Try.underlying154⟩⟩
instance : ElT Try.prog 154 1 := ⟨⟨Try.t154, (.pointer none : Value), by kernel_rfl, by kernel_rfl, by kernel_rfl, by kernel_rfl, by decide, by decide⟩⟩
instance : ZeroT Try.prog 154 (.pointer none) := ⟨⟨Try.t154, by kernel_rfl, by kernel_rfl⟩⟩
instance : TySz Try.prog 155 false 1 := ⟨⟨Try.t155, _, by kernel_rfl, by kernel_rfl, Try.underlying155, by kernel_rfl⟩⟩
instance : HasT Try.prog 155 := ⟨⟨_, Try.underlying155⟩⟩
instance : ElT Try.prog 155 1 := ⟨⟨Try.t155, (.nilFunc : Value), by kernel_rfl, by kernel_rfl, by kernel_rfl, by kernel_rfl, by decide, by decide⟩⟩
instance : ZeroT Try.prog 155 (.nilFunc) := ⟨⟨Try.t155, by kernel_rfl, by kernel_rfl⟩⟩
instance : TySz Try.prog 156 false 1 := ⟨⟨Try.t156, _, by kernel_rfl, by kernel_rfl, Try.underlying156, by kernel_rfl⟩⟩
instance : PtrT Try.prog 156 := ⟨⟨_, Try.t150, Try.underlying156, by kernel_rfl, by decide⟩⟩
instance : HasT Try.prog 156 := ⟨⟨_, Try.underlying156⟩⟩
instance : ElT Try.prog 156 1 := ⟨⟨Try.t156, (.pointer none : Value), by kernel_rfl, by kernel_rfl, by kernel_rfl, by kernel_rfl, by decide, by decide⟩⟩
instance : ZeroT Try.prog 156 (.pointer none) := ⟨⟨Try.t156, by kernel_rfl, by kernel_rfl⟩⟩
instance : TySz Try.prog 157 false 1 := ⟨⟨Try.t157, _, by kernel_rfl, by kernel_rfl, Try.underlying157, by kernel_rfl⟩⟩
instance : HasT Try.prog 157 := ⟨⟨_, Try.underlying157⟩⟩
instance : ElT Try.prog 157 1 := ⟨⟨Try.t157, (.nilFunc : Value), by kernel_rfl, by kernel_rfl, by kernel_rfl, by kernel_rfl, by decide, by decide⟩⟩
instance : ZeroT Try.prog 157 (.nilFunc) := ⟨⟨Try.t157, by kernel_rfl, by kernel_rfl⟩⟩
instance : TySz Try.prog 158 false 1 := ⟨⟨Try.t158, _, by kernel_rfl, by kernel_rfl, Try.underlying158, by kernel_rfl⟩⟩
instance : HasT Try.prog 158 := ⟨⟨_, Try.underlying158⟩⟩
instance : ElT Try.prog 158 1 := ⟨⟨Try.t158, (.nilFunc : Value), by kernel_rfl, by kernel_rfl, by kernel_rfl, by kernel_rfl, by decide, by decide⟩⟩
instance : ZeroT Try.prog 158 (.nilFunc) := ⟨⟨Try.t158, by kernel_rfl, by kernel_rfl⟩⟩
instance : TySz Try.prog 159 true 4 := ⟨⟨Try.t159, _, by kernel_rfl, by kernel_rfl, Try.underlying159, by kernel_rfl⟩⟩
instance : FOff Try.prog 159 0 0 := ⟨⟨_, _, Try.t17, Try.underlying159, rfl, rfl, by kernel_rfl, by decide⟩⟩
instance : FTy Try.prog 159 0 0 false 1 := ⟨⟨_, _, 17, Try.underlying159, rfl, rfl, by kernel_rfl, inferInstance⟩⟩
instance : FOff Try.prog 159 1 1 := ⟨⟨_, _, Try.t17, Try.underlying159, rfl, rfl, by kernel_rfl, by decide⟩⟩
instance : FTy Try.prog 159 1 1 false 1 := ⟨⟨_, _, 17, Try.underlying159, rfl, rfl, by kernel_rfl, inferInstance⟩⟩
instance : FOff Try.prog 159 2 2 := ⟨⟨_, _, Try.t17, Try.underlying159, rfl, rfl, by kernel_rfl, by decide⟩⟩
instance : FTy Try.prog 159 2 2 false 1 := ⟨⟨_, _, 17, Try.underlying159, rfl, rfl, by kernel_rfl, inferInstance⟩⟩
instance : FOff Try.prog 159 3 3 := ⟨⟨_, _, Try.t9, Try.underlying159, rfl, rfl, by kernel_rfl, by decide⟩⟩
instance : FTy Try.prog 159 3 3 false 1 := ⟨⟨_, _, 9, Try.underlying159, rfl, rfl, by kernel_rfl, inferInstance⟩⟩
instance : StructT Try.prog 159 := ⟨⟨_, Try.underlying159, by kernel_rfl⟩⟩
instance : HasT Try.prog 159 := ⟨⟨_, Try.underlying159⟩⟩
instance : ElT Try.prog 159 4 := ⟨⟨Try.t159, (.agg [.pointer none, .pointer none, .pointer none, .string ByteArray.empty].toArray : Value), by kernel_rfl, by kernel_rfl, by kernel_rfl, by kernel_rfl, by decide, by decide⟩⟩
instance : ZeroT Try.prog 159 (.agg [.pointer none, .pointer none, .pointer none, .string ByteArray.empty].toArray) := ⟨⟨Try.t159, by kernel_rfl, by kernel_rfl⟩⟩
instance : TySz Try.prog 160 true 4 := ⟨⟨Try.t160, _, by kernel_rfl, by kernel_rfl, Try.underlying160, by kernel_rfl⟩⟩
instance : FOff Try.prog 160 0 0 := ⟨⟨_, _, Try.t17, Try.underlying160, rfl, rfl, by kernel_rfl, by decide⟩⟩
instance : FTy Try.prog 160 0 0 false 1 := ⟨⟨_, _, 17, Try.underlying160, rfl, rfl, by kernel_rfl, inferInstance⟩⟩
instance : FOff Try.prog 160 1 1 := ⟨⟨_, _, Try.t17, Try.underlying160, rfl, rfl, by kernel_rfl, by decide⟩⟩
instance : FTy Try.prog 160 1 1 false 1 := ⟨⟨_, _, 17, Try.underlying160, rfl, rfl, by kernel_rfl, inferInstance⟩⟩
instance : FOff Try.prog 160 2 2 := ⟨⟨_, _, Try.t17, Try.underlying160, rfl, rfl, by kernel_rfl, by decide⟩⟩
instance : FTy Try.prog 160 2 2 false 1 := ⟨⟨_, _, 17, Try.underlying160, rfl, rfl, by kernel_rfl, inferInstance⟩⟩
instance : FOff Try.prog 160 3 3 := ⟨⟨_, _, Try.t9, Try.underlying160, rfl, rfl, by kernel_rfl, by decide⟩⟩
instance : FTy Try.prog 160 3 3 false 1 := ⟨⟨_, _, 9, Try.underlying160, rfl, rfl, by kernel_rfl, inferInstance⟩⟩
instance : StructT Try.prog 160 := ⟨⟨_, Try.underlying160, by kernel_rfl⟩⟩
instance : HasT Try.prog 160 := ⟨⟨_, Try.underlying160⟩⟩
instance : ElT Try.prog 160 4 := ⟨⟨Try.t160, (.agg [.pointer none, .pointer none, .pointer none, .string ByteArray.empty].toArray : Value), by kernel_rfl, by kernel_rfl, by kernel_rfl, by kernel_rfl, by decide, by decide⟩⟩
instance : ZeroT Try.prog 160 (.agg [.pointer none, .pointer none, .pointer none, .string ByteArray.empty].toArray) := ⟨⟨Try.t160, by kernel_rfl, by kernel_rfl⟩⟩
instance : TySz Try.prog 161 true 0 := ⟨⟨Try.t161, _, by kernel_rfl, by kernel_rfl, Try.underlying161, by kernel_rfl⟩⟩
instance : ArrT Try.prog 161 0 16 := ⟨Try.underlying161⟩
instance : HasT Try.prog 161 := ⟨⟨_, Try.underlying161⟩⟩
instance : ZeroT Try.prog 161 (.agg [].toArray) := ⟨⟨Try.t161, by kernel_rfl, by kernel_rfl⟩⟩
instance : TySz Try.prog 162 true 0 := ⟨⟨Try.t162, _, by kernel_rfl, by kernel_rfl, Try.underlying162, by kernel_rfl⟩⟩
instance : StructT Try.prog 162 := ⟨⟨_, Try.underlying162, by kernel_rfl⟩⟩
instance : HasT Try.prog 162 := ⟨⟨_, Try.underlying162⟩⟩
instance : ZeroT Try.prog 162 (.agg [].toArray) := ⟨⟨Try.t162, by kernel_rfl, by kernel_rfl⟩⟩
instance : TySz Try.prog 163 true 0 := ⟨⟨Try.t163, _, by kernel_rfl, by kernel_rfl, Try.underlying163, by kernel_rfl⟩⟩
instance : StructT Try.prog 163 := ⟨⟨_, Try.underlying163, by kernel_rfl⟩⟩
instance : HasT Try.prog 163 := ⟨⟨_, Try.underlying163⟩⟩
instance : ZeroT Try.prog 163 (.agg [].toArray) := ⟨⟨Try.t163, by kernel_rfl, by kernel_rfl⟩⟩
instance : TySz Try.prog 164 false 1 := ⟨⟨Try.t164, _, by kernel_rfl, by kernel_rfl, Try.underlying164, by kernel_rfl⟩⟩
instance : IntT Try.prog 164 .u8 := ⟨Try.underlying164⟩
instance : HasT Try.prog 164 := ⟨⟨_, Try.underlying164⟩⟩
instance : ElT Try.prog 164 1 := ⟨⟨Try.t164, (.int .u8 0 : Value), by kernel_rfl, by kernel_rfl, by kernel_rfl, by kernel_rfl, by decide, by decide⟩⟩
instance : ZeroT Try.prog 164 (.int .u8 0) := ⟨⟨Try.t164, by kernel_rfl, by kernel_rfl⟩⟩
instance : TySz Try.prog 165 false 1 := ⟨⟨Try.t165, _, by kernel_rfl, by kernel_rfl, Try.underlying165, by kernel_rfl⟩⟩
instance : IntT Try.prog 165 .u8 := ⟨Try.underlying165⟩
instance : HasT Try.prog 165 := ⟨⟨_, Try.underlying165⟩⟩
instance : ElT Try.prog 165 1 := ⟨⟨Try.t165, (.int .u8 0 : Value), by kernel_rfl, by kernel_rfl, by kernel_rfl, by kernel_rfl, by decide, by decide⟩⟩
instance : ZeroT Try.prog 165 (.int .u8 0) := ⟨⟨Try.t165, by kernel_rfl, by kernel_rfl⟩⟩
instance : TySz Try.prog 166 false 1 := ⟨⟨Try.t166, _, by kernel_rfl, by kernel_rfl, Try.underlying166, by kernel_rfl⟩⟩
instance : HasT Try.prog 166 := ⟨⟨_, Try.underlying166⟩⟩
instance : ElT Try.prog 166 1 := ⟨⟨Try.t166, (.nilFunc : Value), by kernel_rfl, by kernel_rfl, by kernel_rfl, by kernel_rfl, by decide, by decide⟩⟩
instance : ZeroT Try.prog 166 (.nilFunc) := ⟨⟨Try.t166, by kernel_rfl, by kernel_rfl⟩⟩
instance : TySz Try.prog 167 false 1 := ⟨⟨Try.t167, _, by kernel_rfl, by kernel_rfl, Try.underlying167, by kernel_rfl⟩⟩
instance : PtrT Try.prog 167 := ⟨⟨_, Try.t5, Try.underlying167, by kernel_rfl, by decide⟩⟩
instance : HasT Try.prog 167 := ⟨⟨_, Try.underlying167⟩⟩
instance : ElT Try.prog 167 1 := ⟨⟨Try.t167, (.pointer none : Value), by kernel_rfl, by kernel_rfl, by kernel_rfl, by kernel_rfl, by decide, by decide⟩⟩
instance : ZeroT Try.prog 167 (.pointer none) := ⟨⟨Try.t167, by kernel_rfl, by kernel_rfl⟩⟩
instance : TySz Try.prog 168 false 1 := ⟨⟨Try.t168, _, by kernel_rfl, by kernel_rfl, Try.underlying168, by kernel_rfl⟩⟩
instance : IntT Try.prog 168 .i32 := ⟨Try.underlying168⟩
instance : HasT Try.prog 168 := ⟨⟨_, Try.underlying168⟩⟩
instance : ElT Try.prog 168 1 := ⟨⟨Try.t168, (.int .i32 0 : Value), by kernel_rfl, by kernel_rfl, by kernel_rfl, by kernel_rfl, by decide, by decide⟩⟩
instance : ZeroT Try.prog 168 (.int .i32 0) := ⟨⟨Try.t168, by kernel_rfl, by kernel_rfl⟩⟩
instance : TySz Try.prog 169 false 1 := ⟨⟨Try.t169, _, by kernel_rfl, by kernel_rfl, Try.underlying169, by kernel_rfl⟩⟩
instance : IntT Try.prog 169 .i32 := ⟨Try.underlying169⟩
instance : HasT Try.prog 169 := ⟨⟨_, Try.underlying169⟩⟩
instance : ElT Try.prog 169 1 := ⟨⟨Try.t169, (.int .i32 0 : Value), by kernel_rfl, by kernel_rfl, by kernel_rfl, by kernel_rfl, by decide, by decide⟩⟩
instance : ZeroT Try.prog 169 (.int .i32 0) := ⟨⟨Try.t169, by kernel_rfl, by kernel_rfl⟩⟩
instance : TySz Try.prog 170 true 11 := ⟨⟨Try.t170, _, by kernel_rfl, by kernel_rfl, Try.underlying170, by kernel_rfl⟩⟩
instance : FOff Try.prog 170 0 0 := ⟨⟨_, _, Try.t12, Try.underlying170, rfl, rfl, by kernel_rfl, by decide⟩⟩
instance : FTy Try.prog 170 0 0 false 1 := ⟨⟨_, _, 12, Try.underlying170, rfl, rfl, by kernel_rfl, inferInstance⟩⟩
instance : FOff Try.prog 170 1 1 := ⟨⟨_, _, Try.t12, Try.underlying170, rfl, rfl, by kernel_rfl, by decide⟩⟩
instance : FTy Try.prog 170 1 1 false 1 := ⟨⟨_, _, 12, Try.underlying170, rfl, rfl, by kernel_rfl, inferInstance⟩⟩
instance : FOff Try.prog 170 2 2 := ⟨⟨_, _, Try.t142, Try.underlying170, rfl, rfl, by kernel_rfl, by decide⟩⟩
instance : FTy Try.prog 170 2 2 false 1 := ⟨⟨_, _, 142, Try.underlying170, rfl, rfl, by kernel_rfl, inferInstance⟩⟩
instance : FOff Try.prog 170 3 3 := ⟨⟨_, _, Try.t164, Try.underlying170, rfl, rfl, by kernel_rfl, by decide⟩⟩
instance : FTy Try.prog 170 3 3 false 1 := ⟨⟨_, _, 164, Try.underlying170, rfl, rfl, by kernel_rfl, inferInstance⟩⟩
instance : FOff Try.prog 170 4 4 := ⟨⟨_, _, Try.t5, Try.underlying170, rfl, rfl, by kernel_rfl, by decide⟩⟩
instance : FTy Try.prog 170 4 4 false 1 := ⟨⟨_, _, 5, Try.underlying170, rfl, rfl, by kernel_rfl, inferInstance⟩⟩
instance : FOff Try.prog 170 5 5 := ⟨⟨_, _, Try.t5, Try.underlying170, rfl, rfl, by kernel_rfl, by decide⟩⟩
instance : FTy Try.prog 170 5 5 false 1 := ⟨⟨_, _, 5, Try.underlying170, rfl, rfl, by kernel_rfl, inferInstance⟩⟩
instance : FOff Try.prog 170 6 6 := ⟨⟨_, _, Try.t165, Try.underlying170, rfl, rfl, by kernel_rfl, by decide⟩⟩
instance : FTy Try.prog 170 6 6 false 1 := ⟨⟨_, _, 165, Try.underlying170, rfl, rfl, by kernel_rfl, inferInstance⟩⟩
instance : FOff Try.prog 170 7 7 := ⟨⟨_, _, Try.t166, Try.underlying170, rfl, rfl, by kernel_rfl, by decide⟩⟩
instance : FTy Try.prog 170 7 7 false 1 := ⟨⟨_, _, 166, Try.underlying170, rfl, rfl, by kernel_rfl, inferInstance⟩⟩
instance : FOff Try.prog 170 8 8 := ⟨⟨_, _, Try.t167, Try.underlying170, rfl, rfl, by kernel_rfl, by decide⟩⟩
instance : FTy Try.prog 170 8 8 false 1 := ⟨⟨_, _, 167, Try.underlying170, rfl, rfl, by kernel_rfl, inferInstance⟩⟩
instance : FOff Try.prog 170 9 9 := ⟨⟨_, _, Try.t168, Try.underlying170, rfl, rfl, by kernel_rfl, by decide⟩⟩
instance : FTy Try.prog 170 9 9 false 1 := ⟨⟨_, _, 168, Try.underlying170, rfl, rfl, by kernel_rfl, inferInstance⟩⟩
instance : FOff Try.prog 170 10 10 := ⟨⟨_, _, Try.t169, Try.underlying170, rfl, rfl, by kernel_rfl, by decide⟩⟩
instance : FTy Try.prog 170 10 10 false 1 := ⟨⟨_, _, 169, Try.underlying170, rfl, rfl, by kernel_rfl, inferInstance⟩⟩
instance : StructT Try.prog 170 := ⟨⟨_, Try.underlying170, by kernel_rfl⟩⟩
instance : HasT Try.prog 170 := ⟨⟨_, Try.underlying170⟩⟩
instance : ElT Try.prog 170 11 := ⟨⟨Try.t170, (.agg [.int .u64 0, .int .u64 0, .int .u32 0, .int .u8 0, .int .u8 0, .int .u8 0, .int .u8 0, .nilFunc, .pointer none, .int .i32 0, .int .i32 0].toArray : Value), by kernel_rfl, by kernel_rfl, by kernel_rfl, by kernel_rfl, by decide, by decide⟩⟩
instance : ZeroT Try.prog 170 (.agg [.int .u64 0, .int .u64 0, .int .u32 0, .int .u8 0, .int .u8 0, .int .u8 0, .int .u8 0, .nilFunc, .pointer none, .int .i32 0, .int .i32 0].toArray) := ⟨⟨Try.t170, by kernel_rfl, by kernel_rfl⟩⟩
instance : TySz Try.prog 171 true 11 := ⟨⟨Try.t171, _, by kernel_rfl, by kernel_rfl, Try.underlying171, by kernel_rfl⟩⟩
instance : FOff Try.prog 171 0 0 := ⟨⟨_, _, Try.t12, Try.underlying171, rfl, rfl, by kernel_rfl, by decide⟩⟩
instance : FTy Try.prog 171 0 0 false 1 := ⟨⟨_, _, 12, Try.underlying171, rfl, rfl, by kernel_rfl, inferInstance⟩⟩
instance : FOff Try.prog 171 1 1 := ⟨⟨_, _, Try.t12, Try.underlying171, rfl, rfl, by kernel_rfl, by decide⟩⟩
instance : FTy Try.prog 171 1 1 false 1 := ⟨⟨_, _, 12, Try.underlying171, rfl, rfl, by kernel_rfl, inferInstance⟩⟩
instance : FOff Try.prog 171 2 2 := ⟨⟨_, _, Try.t142, Try.underlying171, rfl, rfl, by kernel_rfl, by decide⟩⟩
instance : FTy Try.prog 171 2 2 false 1 := ⟨⟨_, _, 142, Try.underlying171, rfl, rfl, by kernel_rfl, inferInstance⟩⟩
instance : FOff Try.prog 171 3 3 := ⟨⟨_, _, Try.t164, Try.underlying171, rfl, rfl, by kernel_rfl, by decide⟩⟩
instance : FTy Try.prog 171 3 3 false 1 := ⟨⟨_, _, 164, Try.underlying171, rfl, rfl, by kernel_rfl, inferInstance⟩⟩
instance : FOff Try.prog 171 4 4 := ⟨⟨_, _, Try.t5, Try.underlying171, rfl, rfl, by kernel_rfl, by decide⟩⟩
instance : FTy Try.prog 171 4 4 false 1 := ⟨⟨_, _, 5, Try.underlying171, rfl, rfl, by kernel_rfl, inferInstance⟩⟩
instance : FOff Try.prog 171 5 5 := ⟨⟨_, _, Try.t5, Try.underlying171, rfl, rfl, by kernel_rfl, by decide⟩⟩
instance : FTy Try.prog 171 5 5 false 1 := ⟨⟨_, _, 5, Try.underlying171, rfl, rfl, by kernel_rfl, inferInstance⟩⟩
instance : FOff Try.prog 171 6 6 := ⟨⟨_, _, Try.t165, Try.underlying171, rfl, rfl, by kernel_rfl, by decide⟩⟩
instance : FTy Try.prog 171 6 6 false 1 := ⟨⟨_, _, 165, Try.underlying171, rfl, rfl, by kernel_rfl, inferInstance⟩⟩
instance : FOff Try.prog 171 7 7 := ⟨⟨_, _, Try.t166, Try.underlying171, rfl, rfl, by kernel_rfl, by decide⟩⟩
instance : FTy Try.prog 171 7 7 false 1 := ⟨⟨_, _, 166, Try.underlying171, rfl, rfl, by kernel_rfl, inferInstance⟩⟩
instance : FOff Try.prog 171 8 8 := ⟨⟨_, _, Try.t167, Try.underlying171, rfl, rfl, by kernel_rfl, by decide⟩⟩
instance : FTy Try.prog 171 8 8 false 1 := ⟨⟨_, _, 167, Try.underlying171, rfl, rfl, by kernel_rfl, inferInstance⟩⟩
instance : FOff Try.prog 171 9 9 := ⟨⟨_, _, Try.t168, Try.underlying171, rfl, rfl, by kernel_rfl, by decide⟩⟩
instance : FTy Try.prog 171 9 9 false 1 := ⟨⟨_, _, 168, Try.underlying171, rfl, rfl, by kernel_rfl, inferInstance⟩⟩
instance : FOff Try.prog 171 10 10 := ⟨⟨_, _, Try.t169, Try.underlying171, rfl, rfl, by kernel_rfl, by decide⟩⟩
instance : FTy Try.prog 171 10 10 false 1 := ⟨⟨_, _, 169, Try.underlying171, rfl, rfl, by kernel_rfl, inferInstance⟩⟩
instance : StructT Try.prog 171 := ⟨⟨_, Try.underlying171, by kernel_rfl⟩⟩
instance : HasT Try.prog 171 := ⟨⟨_, Try.underlying171⟩⟩
instance : ElT Try.prog 171 11 := ⟨⟨Try.t171, (.agg [.int .u64 0, .int .u64 0, .int .u32 0, .int .u8 0, .int .u8 0, .int .u8 0, .int .u8 0, .nilFunc, .pointer none, .int .i32 0, .int .i32 0].toArray : Value), by kernel_rfl, by kernel_rfl, by kernel_rfl, by kernel_rfl, by decide, by decide⟩⟩
instance : ZeroT Try.prog 171 (.agg [.int .u64 0, .int .u64 0, .int .u32 0, .int .u8 0, .int .u8 0, .int .u8 0, .int .u8 0, .nilFunc, .pointer none, .int .i32 0, .int .i32 0].toArray) := ⟨⟨Try.t171, by kernel_rfl, by kernel_rfl⟩⟩
instance : TySz Try.prog 172 false 1 := ⟨⟨Try.t172, _, by kernel_rfl, by kernel_rfl, Try.underlying172, by kernel_rfl⟩⟩
instance : SliT Try.prog 172 59 := ⟨Try.underlying172⟩
instance : HasT Try.prog 172 := ⟨⟨_, Try.underlying172⟩⟩
instance : ElT Try.prog 172 1 := ⟨⟨Try.t172, (.slice none 0 0 : Value), by kernel_rfl, by kernel_rfl, by kernel_rfl, by kernel_rfl, by decide, by decide⟩⟩
instance : ZeroT Try.prog 172 (.slice none 0 0) := ⟨⟨Try.t172, by kernel_rfl, by kernel_rfl⟩⟩
instance : CallF Try.prog 2 := ⟨Try.call2⟩
instance : CallF Try.prog 3 := ⟨Try.call3⟩
instance : CallF Try.prog 4 := ⟨Try.call4⟩
instance : CallF Try.prog 5 := ⟨Try.call5⟩
instance : CallF Try.prog 6 := ⟨Try.call6⟩
instance : CallF Try.prog 7 := ⟨Try.call7⟩
instance : CallF Try.prog 8 := ⟨Try.call8⟩
instance : CallF Try.prog 9 := ⟨Try.call9⟩
instance : CallF Try.prog 10 := ⟨Try.call10⟩
instance : CallF Try.prog 11 := ⟨Try.call11⟩
instance : CallF Try.prog 12 := ⟨Try.call12⟩
instance : CallF Try.prog 13 := ⟨Try.call13⟩
instance : CallF Try.prog 14 := ⟨Try.call14⟩
instance : CallF Try.prog 15 := ⟨Try.call15⟩
instance : CallF Try.prog 16 := ⟨Try.call16⟩
instance : CallF Try.prog 17 := ⟨Try.call17⟩
instance : CallF Try.prog 18 := ⟨Try.call18⟩
instance : CallF Try.prog 19 := ⟨Try.call19⟩
instance : CallF Try.prog 20 := ⟨Try.call20⟩
instance : CallF Try.prog 21 := ⟨Try.call21⟩
instance : CallF Try.prog 22 := ⟨Try.call22⟩
instance : CallF Try.prog 23 := ⟨Try.call23⟩
instance : CallF Try.prog 24 := ⟨Try.call24⟩
instance : CallF Try.prog 25 := ⟨Try.call25⟩
instance : CallF Try.prog 26 := ⟨Try.call26⟩
instance : CallF Try.prog 27 := ⟨Try.call27⟩
instance : CallF Try.prog 28 := ⟨Try.call28⟩
instance : CallF Try.prog 29 := ⟨Try.call29⟩
instance : CallF Try.prog 30 := ⟨Try.call30⟩
instance : CallF Try.prog 31 := ⟨Try.call31⟩
instance : CallF Try.prog 32 := ⟨Try.call32⟩
instance : CallF Try.prog 33 := ⟨Try.call33⟩
instance : CallF Try.prog 34 := ⟨Try.call34⟩
instance : CallF Try.prog 35 := ⟨Try.call35⟩
instance : CallF Try.prog 36 := ⟨Try.call36⟩
instance : CallF Try.prog 37 := ⟨Try.call37⟩
instance : CallF Try.prog 38 := ⟨Try.call38⟩
instance : CallF Try.prog 39 := ⟨Try.call39⟩
instance : CallF Try.prog 40 := ⟨Try.call40⟩
instance : CallF Try.prog 41 := ⟨Try.call41⟩
instance : CallF Try.prog 42 := ⟨Try.call42⟩
instance : CallF Try.prog 43 := ⟨Try.call43⟩
instance : CallF Try.prog 44 := ⟨Try.call44⟩
instance : CallF Try.prog 45 := ⟨Try.call45⟩
instance : CallF Try.prog 46 := ⟨Try.call46⟩
instance : CallF Try.prog 47 := ⟨Try.call47⟩
instance : CallF Try.prog 48 := ⟨Try.call48⟩
instance : CallF Try.prog 49 := ⟨Try.call49⟩
instance : CallF Try.prog 50 := ⟨Try.call50⟩
instance : CallF Try.prog 51 := ⟨Try.call51⟩
instance : CallF Try.prog 52 := ⟨Try.call52⟩
instance : CallF Try.prog 53 := ⟨Try.call53⟩
instance : CallF Try.prog 54 := ⟨Try.call54⟩
instance : CallF Try.prog 55 := ⟨Try.call55⟩
instance : CallF Try.prog 56 := ⟨Try.call56⟩
instance : CallF Try.prog 57 := ⟨Try.call57⟩
instance : CallF Try.prog 58 := ⟨Try.call58⟩
instance : CallF Try.prog 59 := ⟨Try.call59⟩
instance : CallF Try.prog 60 := ⟨Try.call60⟩
instance : CallF Try.prog 61 := ⟨Try.call61⟩
instance : CallF Try.prog 62 := ⟨Try.call62⟩
instance : CallF Try.prog 63 := ⟨Try.call63⟩
instance : CallF Try.prog 64 := ⟨Try.call64⟩
instance : CallF Try.prog 65 := ⟨Try.call65⟩
instance : CallF Try.prog 66 := ⟨Try.call66⟩
instance : CallF Try.prog 67 := ⟨Try.call67⟩
instance : CallF Try.prog 68 := ⟨Try.call68⟩
instance : CallF Try.prog 69 := ⟨Try.call69⟩
instance : CallF Try.prog 70 := ⟨Try.call70⟩
instance : CallF Try.prog 71 := ⟨Try.call71⟩
instance : CallF Try.prog 72 := ⟨Try.call72⟩
instance : CallF Try.prog 73 := ⟨Try.call73⟩
instance : CallF Try.prog 74 := ⟨Try.call74⟩
instance : CallF Try.prog 75 := ⟨Try.call75⟩
instance : CallF Try.prog 76 := ⟨Try.call76⟩
instance : CallF Try.prog 77 := ⟨Try.call77⟩
instance : CallF Try.prog 78 := ⟨Try.call78⟩
instance : CallF Try.prog 79 := ⟨Try.call79⟩
instance : CallF Try.prog 80 := ⟨Try.call80⟩
instance : CallF Try.prog 81 := ⟨Try.call81⟩
instance : CallF Try.prog 82 := ⟨Try.call82⟩
instance : CallF Try.prog 83 := ⟨Try.call83⟩
instance : CallF Try.prog 84 := ⟨Try.call84⟩
instance : CallF Try.prog 85 := ⟨Try.call85⟩
instance : CallF Try.prog 86 := ⟨Try.call86⟩
instance : CallF Try.prog 87 := ⟨Try.call87⟩
instance : CallF Try.prog 88 := ⟨Try.call88⟩
instance : CallF Try.prog 89 := ⟨Try.call89⟩
instance : CallF Try.prog 90 := ⟨Try.call90⟩
instance : CallF Try.prog 91 := ⟨Try.call91⟩
instance : CallF Try.prog 92 := ⟨Try.call92⟩
instance : CallF Try.prog 93 := ⟨Try.call93⟩
instance : CallF Try.prog 94 := ⟨Try.call94⟩
instance : CallF Try.prog 95 := ⟨Try.call95⟩
instance : CallF Try.prog 96 := ⟨Try.call96⟩
instance : CallF Try.prog 97 := ⟨Try.call97⟩
instance : CallF Try.prog 98 := ⟨Try.call98⟩
instance : CallF Try.prog 99 := ⟨Try.call99⟩
instance : CallF Try.prog 100 := ⟨Try.call100⟩
instance : CallF Try.prog 101 := ⟨Try.call101⟩
instance : CallF Try.prog 102 := ⟨Try.call102⟩
end Go.Sl

/-
  What lies in memory: members, dimensions, spans.
-/
namespace Go.Sl
structure Nd where
  name : ByteArray
  up : Int
deriving Inhabited
@[reducible] def encNd (x : Nd) : List Value := [.string x.name, vI x.up]
structure Sp where
  fr : Int
  to : Int
deriving Inhabited
@[reducible] def encSp (x : Sp) : List Value := [vI x.fr, vI x.to]
/-- A dimension: its name, its members as they lie, its members. -/
structure Dm where
  name : ByteArray
  nv : Value
  hv : nv.oneCell' = true
  nodes : List Nd
instance : Inhabited Dm := ⟨⟨ByteArray.empty, .slice none 0 0, rfl, []⟩⟩
@[reducible] def encDm (x : Dm) : List Value := [.string x.name, x.nv]
instance : EncOne encNd := ⟨fun y u hu => by simp at hu; rcases hu with rfl | rfl <;> rfl⟩
instance : EncOne encSp := ⟨fun y u hu => by simp at hu; rcases hu with rfl | rfl <;> rfl⟩
instance : EncOne encDm := ⟨fun y u hu => by
  simp at hu
  rcases hu with rfl | rfl
  · rfl
  · exact y.hv⟩
instance {s : ByteArray} {n : Int} : Mk encNd [.string s, vI n] ⟨s, n⟩ := ⟨rfl⟩
instance {m n : Int} : Mk encSp [vI m, vI n] ⟨m, n⟩ := ⟨rfl⟩
end Go.Sl

/-
  Regions that draw their order and hold several hard operations, some of them guarded: all orders are walked.
-/
namespace Go.Sl
set_option linter.unusedVariables false
set_option linter.unusedSimpArgs false
section
variable {P : Program} {N : NN} {k : List It} {Q : Post} {e : Env} {h h0 : PHeap} {L V M : List HP} {ops : List Oper} {fuel : Nat} {li : Array Bool}
/-- More is frozen, step by step. -/
class LeT (h h' : PHeap) : Prop where
  le : Hle h h'
instance (priority := high) {h : PHeap} : LeT h h := ⟨Hle.refl h⟩
instance {h a b : PHeap} [l : Le a b] [t : LeT h a] : LeT h b := ⟨t.le.trans l.le⟩
/-- Is an operation wanted? -/
class GuardIs (ops : List Oper) (e : Env) (g : Option (Nat × Bool)) (b : outParam Bool) : Prop where
  eq : ∀ N a (o : Oper), o.guard = g → AE N e a → Region.wanted o (yielded ops.toArray a.tmps) = b
instance : GuardIs ops e none true := ⟨fun N a o ho _ => by unfold Region.wanted; rw [ho]⟩
theorem guard_eq {j t : Nat} {b want : Bool} {a : Act} {o : Oper} (ho : o.guard = some (j, want)) (hd : dstAt ops j = some t) (hv : lk e t = some (.bool b)) (s : AE N e a) : Region.wanted o (yielded ops.toArray a.tmps) = (b == want) := by
  obtain ⟨d, op, ty, pos, af, g⟩ := o
  subst ho
  exact guard_is hd hv s
theorem guard_eq_un {j t : Nat} {want : Bool} {a : Act} {o : Oper} (ho : o.guard = some (j, want)) (hd : dstAt ops j = some t) (hv : lk e t = some undef) (s : AE N e a) : Region.wanted o (yielded ops.toArray a.tmps) = false := by
  obtain ⟨d, op, ty, pos, af, g⟩ := o
  subst ho
  exact guard_un hd hv s
instance {j t : Nat} [hd : Is (dstAt ops j) (some t)] [hv : Is (lk e t) (some (.bool true))] : GuardIs ops e (some (j, true)) true := ⟨fun N a o ho s => guard_eq ho hd.eq hv.eq s⟩
instance {j t : Nat} [hd : Is (dstAt ops j) (some t)] [hv : Is (lk e t) (some (.bool false))] : GuardIs ops e (some (j, false)) true := ⟨fun N a o ho s => guard_eq ho hd.eq hv.eq s⟩
instance {j t : Nat} [hd : Is (dstAt ops j) (some t)] [hv : Is (lk e t) (some (.bool true))] : GuardIs ops e (some (j, false)) false := ⟨fun N a o ho s => guard_eq ho hd.eq hv.eq s⟩
instance {j t : Nat} [hd : Is (dstAt ops j) (some t)] [hv : Is (lk e t) (some (.bool false))] : GuardIs ops e (some (j, true)) false := ⟨fun N a o ho s => guard_eq ho hd.eq hv.eq s⟩
instance {j t : Nat} {b : Bool} [hd : Is (dstAt ops j) (some t)] [hv : Is (lk e t) (some undef)] : GuardIs ops e (some (j, b)) false := ⟨fun N a o ho s => guard_eq_un ho hd.eq hv.eq s⟩
/-! ### A plan of all orders -/
inductive Sch where
  | e
  | s (m : Nat) (r : Sch)
  | h (j : Nat) (r alt : Sch)
  | n
def Sch.alts : Sch → List Nat
  | .h j _ alt => j :: alt.alts
  | _ => []
def Sch.depth : Sch → Nat
  | .e => 0
  | .s _ r => r.depth + 1
  | .h _ r alt => max (r.depth + 1) alt.depth
  | .n => 0
def schOK (ops : Array Oper) (li : Array Bool) (top : Bool) : Sch → Bool
  | .e => top && (Region.ready .any ops li).isEmpty
  | .s m r => top && nextSoft ops li == some m && schOK ops (li.setIfInBounds m true) true r
  | .h j r alt => (!top || ((nextSoft ops li).isNone && !(Region.ready .any ops li).isEmpty && (Region.ready .any ops li).all ((Sch.h j r alt).alts.contains ·))) && schOK ops (li.setIfInBounds j true) true r && schOK ops li false alt
  | .n => !top
/-- What is left of the plan. -/
def GT (P : Program) (N : NN) (ops : List Oper) (V : List HP) (h0 : PHeap) (sch : Sch) (k : List It) (Q : Post) (e : Env) (h : PHeap) (L : List HP) : Prop :=
  Hle h0 h → (∃ w, Cw V h0 w) → ∀ a w, AS N e h L a w → ∀ li fuel, schOK ops.toArray li true sch = true → sch.depth ≤ fuel → wpSched P ops.toArray (Cw V h0) (needs ops.toArray) (fun a w => cQ N.ro P k Q .normal a w) fuel li a w
def GTa (P : Program) (N : NN) (ops : List Oper) (V : List HP) (h0 : PHeap) (sch : Sch) (k : List It) (Q : Post) (e : Env) (h : PHeap) (L : List HP) : Prop :=
  Hle h0 h → (∃ w, Cw V h0 w) → ∀ a w, AS N e h L a w → ∀ li fuel, schOK ops.toArray li false sch = true → sch.depth ≤ fuel + 1 → ∀ j ∈ sch.alts, ∃ o, ops.toArray[j]? = some o ∧
    hardOp P ops.toArray o (fun a' w' => (needs ops.toArray j = true → Cw V h0 w') ∧ wpSched P ops.toArray (Cw V h0) (needs ops.toArray) (fun a w => cQ N.ro P k Q .normal a w) fuel (li.setIfInBounds j true) a' w') a w
/-- Operation m comes next: it is soft; it is to be done, or not. -/
def GTn (P : Program) (N : NN) (ops : List Oper) (V : List HP) (h0 : PHeap) (o : Oper) (r : Sch) (k : List It) (Q : Post) (e : Env) (h : PHeap) (L : List HP) : Prop :=
  Hle h0 h → (∃ w, Cw V h0 w) → ∀ a w, AS N e h L a w → ∃ v e', Yc P ops.toArray (Cw V h0) o v a ∧ AE N e' (a.put o.dst v) ∧ GT P N ops V h0 r k Q e' h L
/-- A hard operation. -/
def GTo (P : Program) (N : NN) (ops : List Oper) (V : List HP) (h0 : PHeap) (o : Oper) (r : Sch) (k : List It) (Q : Post) (e : Env) (h : PHeap) (L : List HP) : Prop :=
  ∀ a w, AE N e a → St h L w → hardOp P ops.toArray o (fun a' w' => ∃ e' h' L', AE N e' a' ∧ Hle h h' ∧ St h' L' w' ∧ Sub L' V ∧ GT P N ops V h0 r k Q e' h' L') a w
structure Both (p q : Prop) : Prop where
  fst : p
  snd : q
theorem GDraw_sch {id : Nat} (sch : Sch) [hm : Mixed P] (hok : (manyOK ops.toArray && schOK ops.toArray (Array.replicate ops.length false) true sch && decide (sch.depth ≤ ops.length)) = true) (g : GT P N ops L h sch k Q e h L) : GDraw P N id ops k Q e h L := by
  simp only [Bool.and_eq_true, decide_eq_true_eq] at hok
  obtain ⟨⟨h1, h2⟩, h3⟩ := hok
  exact GDraw_many h1 fun hl hc a w s => g hl hc a w s _ _ h2 h3
theorem GDraw_schV {id : Nat} (V : List HP) {Z : List HP} (sch : Sch) [hm : Mixed P] (hp : L.Perm (V ++ Z)) (hok : (manyOK ops.toArray && schOK ops.toArray (Array.replicate ops.length false) true sch && decide (sch.depth ≤ ops.length)) = true) (g : GT P N ops V h sch k Q e h L) : GDraw P N id ops k Q e h L := by
  simp only [Bool.and_eq_true, decide_eq_true_eq] at hok
  obtain ⟨⟨h1, h2⟩, h3⟩ := hok
  intro a w s
  have hs : St h L { w with drawn := w.drawn + 1 } := s.st.heap rfl
  have hc : Cw V h { w with drawn := w.drawn + 1 } := Cw.of hp hs
  exact wp_many (C := Cw V h) hm.eq h1 hc (g (Hle.refl h) ⟨_, hc⟩ a _ (s.ae.as hs) _ _ (by simpa using h2) (by simpa using h3))
instance gt_e : Step (GT P N ops V h0 .e k Q e h L) (X P N .normal k Q e h L) := ⟨fun g hl hc a w s li fuel h1 _ => by
  simp only [schOK, Bool.true_and, List.isEmpty_iff] at h1
  cases fuel with
  | zero => exact ⟨h1, g a w s⟩
  | succ fuel =>
    unfold wpSched
    have : nextSoft ops.toArray li = none := by simp [nextSoft, h1]
    simp only [this, h1]
    exact ⟨fun _ => g a w s, fun j hj => (by cases hj)⟩⟩
instance gt_s {m : Nat} {r : Sch} {o : Oper} [ho : Is (atL ops m) (some o)] : Step (GT P N ops V h0 (.s m r) k Q e h L) (GTn P N ops V h0 o r k Q e h L) := ⟨fun g hl hc a w s li fuel h1 h2 => by
  simp only [schOK, Bool.true_and, Bool.and_eq_true, beq_iff_eq] at h1
  simp only [Sch.depth] at h2
  obtain ⟨fuel, rfl⟩ : ∃ f, fuel = f + 1 := ⟨fuel - 1, by omega⟩
  unfold wpSched
  simp only [h1.1]
  obtain ⟨v, e', h3, h4, h5⟩ := g hl hc a w s
  exact ⟨_, v, by have := ho.eq; rw [atL_eq] at this; simpa using this, h3, h5 hl hc _ w (h4.as s.st) _ _ h1.2 (by omega)⟩⟩
instance gt_h {j : Nat} {r alt : Sch} {o : Oper} [ho : Is (atL ops j) (some o)] : Step (GT P N ops V h0 (.h j r alt) k Q e h L) (Both (GTo P N ops V h0 o r k Q e h L) (GTa P N ops V h0 alt k Q e h L)) := ⟨fun g hl hc a w s li fuel h1 h2 => by
  simp only [schOK, Bool.not_true, Bool.false_or, Bool.and_eq_true, Option.isNone_iff_eq_none, Bool.not_eq_true'] at h1
  obtain ⟨⟨⟨⟨h3, h4⟩, h5⟩, h6⟩, h7⟩ := h1
  simp only [Sch.depth] at h2
  obtain ⟨fuel, rfl⟩ : ∃ f, fuel = f + 1 := ⟨fuel - 1, by omega⟩
  unfold wpSched
  simp only [h3]
  refine ⟨fun h => (by rw [h] at h4; cases h4), fun i hi => ?_⟩
  have hm := List.all_eq_true.1 h5 i hi
  simp only [Sch.alts, List.contains_cons, Bool.or_eq_true, beq_iff_eq] at hm
  rcases hm with rfl | hm
  · refine ⟨o, by have := ho.eq; rw [atL_eq] at this; simpa using this, hardOp_mono (fun u w' hk => ?_) (g.fst a w s.ae s.st)⟩
    obtain ⟨e', h', L', k1, k2, k3, k4, k5⟩ := hk
    refine ⟨fun _ => ?_, k5 (hl.trans k2) hc _ w' (k1.as k3) _ _ h6 (by omega)⟩
    obtain ⟨Z, hz⟩ := k4.eq
    exact ⟨Z, _, hl.trans k2, k3.perm hz⟩
  · exact g.snd hl hc a w s li fuel h7 (by omega) i (by simpa using hm)⟩
instance gta_n : Step (GTa P N ops V h0 .n k Q e h L) True := ⟨fun _ hl hc a w s li fuel _ _ j hj => by cases hj⟩
instance gta_h {j : Nat} {r alt : Sch} {o : Oper} [ho : Is (atL ops j) (some o)] : Step (GTa P N ops V h0 (.h j r alt) k Q e h L) (Both (GTo P N ops V h0 o r k Q e h L) (GTa P N ops V h0 alt k Q e h L)) := ⟨fun g hl hc a w s li fuel h1 h2 i hi => by
  simp only [schOK, Bool.not_false, Bool.true_or, Bool.true_and, Bool.and_eq_true] at h1
  simp only [Sch.depth] at h2
  rcases List.mem_cons.1 hi with rfl | hi
  · refine ⟨o, by have := ho.eq; rw [atL_eq] at this; simpa using this, hardOp_mono (fun u w' hk => ?_) (g.fst a w s.ae s.st)⟩
    obtain ⟨e', h', L', k1, k2, k3, k4, k5⟩ := hk
    refine ⟨fun _ => ?_, k5 (hl.trans k2) hc _ w' (k1.as k3) _ _ h1.1 (by omega)⟩
    obtain ⟨Z, hz⟩ := k4.eq
    exact ⟨Z, _, hl.trans k2, k3.perm hz⟩
  · exact g.snd hl hc a w s li fuel h1.2 (by omega) i hi⟩
instance gtn_soft {d : Nat} {op : Op} {ty : TypeId} {pos : String} {af : Array Edge} {g : Option (Nat × Bool)} {r : Sch} {s : Prop} {v : Value} [hg : GuardIs ops e g true] [hs : Soft P N V h0 e op s v] [hN : InN N d] :
    Step (GTn P N ops V h0 ⟨some d, op, ty, pos, af, g⟩ r k Q e h L) (Side s (GT P N ops V h0 r k Q ((d, v) :: e) h L)) :=
  ⟨fun hk hl hc a w se => ⟨v, _, .inl ⟨hg.eq N a _ rfl se.ae, fun w' hw' => hs.run hk.side hc (some d) ty pos af g a w' se.ae hw'⟩, se.ae.put hN.eq, hk.rest⟩⟩
instance gtn_skip {d : Nat} {op : Op} {ty : TypeId} {pos : String} {af : Array Edge} {g : Option (Nat × Bool)} {r : Sch} [hg : GuardIs ops e g false] [hN : InN N d] :
    Step (GTn P N ops V h0 ⟨some d, op, ty, pos, af, g⟩ r k Q e h L) (GT P N ops V h0 r k Q ((d, undef) :: e) h L) :=
  ⟨fun hk hl hc a w se => ⟨undef, _, .inr ⟨hg.eq N a _ rfl se.ae, rfl⟩, se.ae.put hN.eq, hk⟩⟩
instance gto_skip {d : Nat} {op : Op} {ty : TypeId} {pos : String} {af : Array Edge} {g : Option (Nat × Bool)} {r : Sch} [hg : GuardIs ops e g false] [hN : InN N d] [hs : Sub L V] :
    Step (GTo P N ops V h0 ⟨some d, op, ty, pos, af, g⟩ r k Q e h L) (GT P N ops V h0 r k Q ((d, undef) :: e) h L) :=
  ⟨fun hk a w se st => by
    unfold hardOp
    rw [if_neg (by rw [hg.eq N a _ rfl se]; simp)]
    exact ⟨_, h, L, se.put hN.eq, Hle.refl h, st, hs, hk⟩⟩
theorem GTo_do {o : Oper} {r : Sch} [hg : GuardIs ops e o.guard true] (hh : HardS P N o e h L (fun e' h' L' => Sub L' V ∧ GT P N ops V h0 r k Q e' h' L')) : GTo P N ops V h0 o r k Q e h L := fun a w se st => by
  unfold hardOp
  rw [if_pos (hg.eq N a _ rfl se)]
  obtain ⟨h1, h2⟩ := hh a w se st
  refine ⟨Oper.wp_mono (fun a' w' hk => ?_) h1, h2⟩
  obtain ⟨e', h', L', k1, k2, k3, k4⟩ := hk
  exact ⟨e', h', L', k1, k2, k3, k4⟩
theorem GT_app {d : Option Nat} {v : Value} {r : Sch} {X M LL : List HP} [ha : AppL X M LL] (hs : Sub LL V) (g : GT P N ops V h0 r k Q (putR d v e) h LL) : Sub (X ++ M) V ∧ GT P N ops V h0 r k Q (putR d v e) h (X ++ M) := by
  rw [ha.eq]; exact ⟨hs, g⟩
/-! ### Tests whose outcome is known -/
class Known (p : Prop) : Prop where
  yes : p
instance guard_known {j t : Nat} {p : Prop} [Decidable p] [hp : Known p] [hd : Is (dstAt ops j) (some t)] [hv : Is (lk e t) (some (.bool (decide p)))] : GuardIs ops e (some (j, true)) true := ⟨fun N a o ho s => guard_eq (b := true) ho hd.eq (by rw [hv.eq]; simp [hp.yes]) s⟩
instance guard_known' {j t : Nat} {p : Prop} [Decidable p] [hp : Known p] [hd : Is (dstAt ops j) (some t)] [hv : Is (lk e t) (some (.bool (decide p)))] : GuardIs ops e (some (j, false)) false := ⟨fun N a o ho s => guard_eq (b := true) ho hd.eq (by rw [hv.eq]; simp [hp.yes]) s⟩
instance pick_known {c x y : Operand} {v : Value} {p : Prop} [Decidable p] [hp : Known p] [hc : Is (lkO e c) (some (.bool (decide p)))] [hx : Is (lkO e x) (some v)] : Soft P N V h e (.pick c x y) True v := ⟨fun _ _ d ty pos af g a w s _ => by
  have h1 := s.eval hc.eq
  rw [decide_eq_true hp.yes] at h1
  simp [execOp, h1, s.eval hx.eq, asBool]⟩
instance {α : Type} {n : α} : Known (n = n) := ⟨rfl⟩
section
variable {d : Option Tmp} {op : Op} {ty : TypeId} {pos : String} {af : Array Edge} {j t i : Nat} {p : Prop} [Decidable p] {l : List Oper}
instance go_known [hp : Known p] [hd : Is (dstAt ops j) (some t)] [hv : Is (lk e t) (some (.bool (decide p)))] : Step (GO P N ops (⟨d, op, ty, pos, af, some (j, true)⟩ :: l) k Q e h L) (GO1 P N ops ⟨d, op, ty, pos, af, some (j, true)⟩ l k Q e h L) :=
  ⟨GO_of_GO1 fun a s => by rw [guard_is (b := true) hd.eq (by rw [hv.eq]; simp [hp.yes]) s]; rfl⟩
instance gd_known [hp : Known p] [hd : Is (dstAt ops j) (some t)] [hv : Is (lk e t) (some (.bool (decide p)))] : Step (GD P N ops V h0 i (⟨d, op, ty, pos, af, some (j, true)⟩ :: l) k Q e h L) (GD1 P N ops V h0 i ⟨d, op, ty, pos, af, some (j, true)⟩ l k Q e h L) :=
  ⟨GD_of_GD1 fun a s => by rw [guard_is (b := true) hd.eq (by rw [hv.eq]; simp [hp.yes]) s]; rfl⟩
instance cond_known {x y : Code} [hp : Known p] [hv : Is (lk e t) (some (.bool (decide p)))] : Step (G P N (.cond (.tmp t) x y) k Q e h L) (G P N x k Q e h L) :=
  ⟨fun g a w s => wpIn_cond_true (by rw [s.ae.eval (x := .tmp t) hv.eq]; simp [hp.yes]) (g a w s)⟩
end
/-! ### Regions of many operations, written in two parts -/
class AppO (a b : List Oper) (c : outParam (List Oper)) : Prop where
  eq : a.append b = c
instance {b : List Oper} : AppO [] b b := ⟨rfl⟩
instance {x : Oper} {a b c : List Oper} [r : AppO a b c] : AppO (x :: a) b (x :: c) := ⟨by show x :: a.append b = x :: c; rw [r.eq]⟩
instance (priority := high) step_region2 {id : Nat} {a b l : List Oper} [r : AppO a b l] : Step (G P N (.region id (a.append b).toArray false) k Q e h L) (GO P N l l k Q e h L) := ⟨fun g => by rw [r.eq]; exact fun a w s => wpIn_region_lit (g a w s)⟩
instance (priority := high) step_draw2 {id : Nat} {a b l : List Oper} [r : AppO a b l] : Step (G P N (.region id (a.append b).toArray true) k Q e h L) (GDraw P N id l k Q e h L) := ⟨fun g => by rw [r.eq]; exact g⟩
/-! ### Slices written out, as lists -/
class EncT (P : Program) (el : TypeId) {α : outParam Type} (enc : outParam (α → List Value)) (k : outParam Nat) : Prop where
  one : EncOne enc
section
variable {d : Nat} {ty : TypeId} {pos : String} {af : Array Edge} {g : Option (Nat × Bool)} {C : Env → PHeap → List HP → Prop}
theorem hard_buildO {t el n sz : Nat} {agg : Bool} {z : Value} {ps : List (Nat × Operand)} {zs cs0 cs : List Value} {α : Type} {enc : α → List Value} {kk : Nat} {ys : List α} [ht : SliT P t el] [he : EncT P el enc kk] [hs : TySz P el agg sz] [hz : ZeroT P el z] [hzc : CellsOf L h z zs] [hl : LenN zs sz] [hr : RepN n zs cs0] [hf : Fill P L h e (fun i => some (i * sz, sz)) ps cs0 cs] [hd : Dec enc kk cs ys] [hy : LenL ys n] [hN : InN N d]
    (hsz : 0 < n * sz ∧ n * sz ≤ 16777216) (hk : ∀ b, C ((d, .slice (some ⟨b, 0, none⟩) n n) :: e) h (slo enc kk (.slice (some ⟨b, 0, none⟩) n n) ys :: L)) : HardS P N ⟨some d, .buildSlice t n ps.toArray, ty, pos, af, g⟩ e h L C := by
  intro a w s st
  have := hard_buildSlice (P := P) (N := N) (d := d) (ty := ty) (pos := pos) (af := af) (g := g) (t := t) (n := n) (ps := ps) (L := L) (e := e) (h := h) (C := fun e' h' L' => ∃ b, e' = (d, .slice (some ⟨b, 0, none⟩) n n) :: e ∧ h' = h ∧ L' = blk b (.cells cs.toArray el (0, 0)) :: L) hsz (fun b => ⟨b, rfl, rfl, rfl⟩) a w s st
  refine ⟨Oper.wp_mono (fun a' w' hq => ?_) this.1, this.2⟩
  obtain ⟨e', h', L', h1, h2, h3, b, rfl, rfl, rfl⟩ := hq
  refine ⟨_, h', slo enc kk (.slice (some ⟨b, 0, none⟩) n n) ys :: L, h1, h2, ?_, hk b⟩
  have ho := he.one
  have := own_st (L := blk b (.cells cs.toArray el (0, 0)) :: L) (enc := enc) (kk := kk) (ys := ys) (R := L) ⟨.refl _⟩ hd ho h3
  rw [hy.eq] at this
  exact this
end
theorem hard_callP {C : Env → PHeap → List HP → Prop} {d : Option Nat} {ty : TypeId} {pos : String} {af : Array Edge} {g : Option (Nat × Bool)} {n : FuncId} {f : Operand} {xs : List Operand} {ts : Array TypeId} {vs : List Value} {s : Prop} {v : Value} [hf : Is (lkO e f) (some (.func (.func n) #[] #[]))] [ha : ArgsOf e xs vs] [hcf : CallF P n] [hc : CallV P n vs h s v] [hd : DstOk N d]
    (hs : s) (hT : C (putR d v e) h ([] ++ L)) : HardS P N ⟨d, .call { callee := .value f, args := xs.toArray, argTypes := ts }, ty, pos, af, g⟩ e h L C :=
  hard_call (M := L) (Lp := []) hf.eq (ha.eq N) hcf hd (.refl _) (hc.spec hs) hT
end
end Go.Sl
